import Derived.Test.YtccfmbmpicnemaaDoorTb1
import Derived.SizedLaws
import Derived.ChangeArms
import Derived.Deep.Slices
import Derived.OpenShut
import Derived.ChangeOld
import Derived.Laws.StructEq
import Derived.Shelf.Strings.OnBuilder
import Derived.Shelf.Strconv.Itoa3
import Derived.Test.YtccfmbmpicnemaaDoorProg
import Derived.KernelRfl
set_option linter.unusedSimpArgs false
set_option linter.unusedVariables false
set_option linter.unusedSectionVars false
set_option linter.defProp false
set_option maxRecDepth 10000
set_option maxHeartbeats 4000000
open Go.Proofs.Tryd renaming prog->uD
open Go.Proofs.Tryd
open Array renaming length_toList->zi,getElem?_toList->zV,getElem?_append_left->yM
open Bool renaming and_eq_true->zU,false_eq_true->zO
open Int renaming lt_irrefl->zT
open List renaming getElem?_eq_getElem->zo,getElem?_append_left->zl,getElem?_append_right->zk,mem_append_left->zf,mem_cons_of_mem->zZ,length_append->zX,mem_cons_self->zW,getElem_mem->zS,mem_append_right->zQ,append_assoc->zN,length_take->zM,eq_nil_of_length_eq_zero->zL,take_of_length_le->zH,size_toArray->zG,flatMap_cons->zF,getElem?_toArray->z_,getElem?_eq_none->yw,length_cons->yj,map_cons->yc,getElem?_cons_zero->yZ,getElem?_map->yY,all_nil->yS,append_nil->yN,flatMap_append->yJ,getElem?_cons_succ->yH,length_map->yG
open Nat renaming le_refl->zu,mul_le_mul_right->zJ,not_lt_zero->zD,le_max_right->yh,add_assoc->yg,le_trans->yX,le_max_left->yT,zero_add->yP,lt_or_eq_of_le->yO,le_of_lt_succ->yL,add_zero->yK
open Option renaming bind_some->zq,map_some->zh,getD_some->yV
open Option.some renaming injEq->yF
open Prod.mk renaming injEq->yE
namespace Go.TV
open Go.RowKit
set_option linter.unusedVariables false
set_option linter.unusedSimpArgs false
variable [Known]
def FB(c c':Call):Prop:=∀f args σ nx r,c f args σ nx=some r->c' f args σ nx=some r
section
variable {P:Program} {conv:FuncId->Conv}
theorem gU{c c':Call}(h:FB c c'){f:FuncId}{args:List V}{σ:Store}{nx:Nat}{r:V×Store×Nat}(e:bP conv c f args σ nx=some r):bP conv c' f args σ nx=some r:=by
 unfold bP at *
 split at e
 .exact h _ _ _ _ _ e
 .split at e
  .rename_i ts ids E
   try simp only[E]
   cases D:c f ts ah 0 with
   |none=>rw[D]at e;cases e
   |some q=>rw[D]at e;rw[h _ _ _ _ _ D];exact e
  .cases e
 .split at e
  .rename_i ts ids E
   try simp only[E]
   cases D:c f ts ah nx with
   |none=>rw[D]at e;cases e
   |some q=>rw[D]at e;rw[h _ _ _ _ _ D];exact e
  .cases e
theorem lJ{c c':Call}{o:Oper}{T:Nat->V}{σ:Store}{nx:Nat}{r:V×Store×Nat}(h:∀f args σ r,bP conv c f args σ nx=some r->bP conv c' f args σ nx=some r)(e:aK P conv c o T σ nx=some r):aK P conv c' o T σ nx=some r:=by
 obtain⟨dst,op,type,pos,after,guard⟩:=o;cases op<;>simp only[aK]at e⊢ <;>first|exact e|skip
 rename_i q;obtain⟨callee,args,ts⟩:=q;cases callee with
 |value f=>
  simp only at e⊢
  split at e
  .rename_i D
   try simp only[D]
   exact h _ _ _ _ e
  .cases e
 |builtin b=>exact e
 |invoke r m=>exact e
theorem qL{c:Call}{o:Oper}{T:Nat->V}{σ:Store}{nx:Nat}{r:V×Store×Nat}(e:aK P conv c o T σ nx=some r) :
  (∀c',aK P conv c' o T σ nx=some r)\/∃f args,bP conv c f args σ nx=some r/\∀c',bP conv c' f args σ nx=some r->aK P conv c' o T σ nx=some r:=by
 obtain⟨dst,op,type,pos,after,guard⟩:=o;cases op<;>simp only[aK]at e⊢ <;>first|exact .inl fun _=>e|skip
 rename_i q;obtain⟨callee,args,ts⟩:=q;cases callee with
 |value f=>
  simp only at e⊢
  split at e
  .rename_i D
   try simp only[D]
   exact .inr ⟨_,_,e,fun c' h=>h⟩
  .cases e
 |builtin b=>exact .inl fun _=>e
 |invoke r m=>exact .inl fun _=>e
theorem nM{c c':Call}(h:FB c c'){o:Oper}{T:Nat->V}{σ:Store}{nx:Nat}{r:V×Store×Nat}(e:aI P conv c o T σ nx=some r):aI P conv c' o T σ nx=some r:=by
 unfold aI at *
 split at e
 .rename_i F E
  try simp only[E]
  split at e
  .rename_i G
   rw[yC G];cases D:aK P conv c o T (restrict σ F) nx with
   |none=>rw[D]at e;cases e
   |some q=>rw[D]at e;rw[lJ (fun f args σ r=>gU h) D];exact e
  .cases e
 .cases e
theorem wX{c c':Call}(h:FB c c'){ops:Array Oper}:∀(l:List Oper) (s s':St),bf P conv c ops l s=some s'->bf P conv c' ops l s=some s'
 |[],s,s',e=>e
 |o :: l,s,s',e=>by
  unfold bf at *
  split at e
  .rename_i D
   try simp only[D]
   cases E:aK P conv c o s.T s.σ s.nx with
   |none=>rw[E]at e;cases e
   |some q=>
    rw[E]at e;rw[lJ (fun f args σ r=>gU h) E];exact wX h l _ _ e
  .rename_i D
   try simp only[D]
   exact wX h l _ _ e
  .cases e
theorem wo{c c':Call}(h:FB c c'){ops:Array Oper}:∀(l:List Oper) (s:St) (r:St×List (List Nat)),aQ P conv c ops l s=some r->aQ P conv c' ops l s=some r
 |[],s,r,e=>e
 |o :: l,s,r,e=>by
  unfold aQ at *
  split at e
  .rename_i E
   try simp only[E]
   cases G:aI P conv c o s.T s.σ s.nx with
   |none=>rw[G]at e;cases e
   |some q=>
    rw[G]at e;rw[nM h G];simp only at e⊢;cases D:aQ P conv c ops l ⟨bK s.T o.dst q.1,q.2.1,q.2.2⟩with
    |none=>rw[D]at e;cases e
    |some J=>rw[D]at e;rw[wo h l _ _ D];exact e
  .rename_i E
   try simp only[E]
   cases D:aQ P conv c ops l ⟨bK s.T o.dst (.dw []),s.σ,s.nx⟩with
   |none=>rw[D]at e;cases e
   |some J=>rw[D]at e;rw[wo h l _ _ D];exact e
  .cases e
theorem kN{c c':Call}(h:FB c c'){ops:Array Oper}{s s':St}(e:bD P conv c ops s=some s'):bD P conv c' ops s=some s':=by
 unfold bD at *
 split at e
 .rename_i E
  rw[yC E];cases D:aQ P conv c ops ops.toList s with
  |none=>rw[D]at e;cases e
  |some q=>rw[D]at e;rw[wo h _ _ _ D];exact e
 .cases e
noncomputable def aC(body:St->Option (Ex×St))(s:St):Option (Ex×St) :=
 open Classical in if h:∃r,∃n,aY body n s=some r then some h.choose else none
theorem iF{body:St->Option (Ex×St)}:∀(n:Nat) (s:St) (r:Ex×St),aY body n s=some r->aY body (n+1) s=some r
 |0,s,r,h=>by cases h
 |n+1,s,r,h=>by
  unfold aY at h⊢
  split at h
  .exact iF n _ r h
  .exact h
theorem dG{body:St->Option (Ex×St)}{n m:Nat}(q:n<=m){s:St}{r:Ex×St}(h:aY body n s=some r):aY body m s=some r:=by
 induction q with
 |refl=>exact h
 |step _ D=>exact iF _ _ _ D
theorem xA{body:St->Option (Ex×St)}{s:St}{r:Ex×St}:aC body s=some r↔∃n,aY body n s=some r:=by
 unfold aC;constructor
 .intro h
  split at h
  .rename_i hex
   simp only[yF]at h;subst h;exact hex.choose_spec
  .cases h
 .rintro ⟨n,q⟩
  have hex:∃r,∃n,aY body n s=some r:=⟨r,n,q⟩;rw[dif_pos hex];obtain⟨m,E⟩:=hex.choose_spec;have G:=dG (yT n m) q;have D:=dG (yh n m) E;rw[G]at D;exact D.symm
theorem jq(body:St->Option (Ex×St))(s:St):aC body s=match body s with
  |some (.norm,s')=>aC body s'
  |r=>r:=by
 apply Option.ext;intro r;rw[xA];constructor
 .rintro ⟨n,D⟩
  cases n with
  |zero=>cases D
  |succ n=>
   unfold aY at D;cases E:body s with
   |none=>rw[E]at D;cases D
   |some q=>
    rw[E]at D;obtain⟨ex,J⟩:=q;cases ex with
    |norm=>exact xA.2 ⟨n,D⟩
    |exit id=>exact D
    |ret=>exact D
 .intro h
  split at h
  .rename_i s' E
   obtain⟨n,D⟩:=xA.1 h;exact⟨n+1,by unfold aY;simp only[E];exact D⟩
  .rename_i G
   refine⟨1,?_⟩;unfold aY
   split
   .rename_i s' E;exact absurd E (G s')
   .exact h
noncomputable def aF(P:Program)(conv:FuncId->Conv)(call:Call):Code->St->Option (Ex×St)
 | .skip,s=>some (.norm,s)
 | .region _ ops draw,s=>match(if draw then bD P conv call ops s else bf P conv call ops ops.toList s)with
  |some s'=>some (.norm,s')
  |none=>none
 | .seq a b,s=>match aF P conv call a s with
  |some (.norm,s')=>aF P conv call b s'
  |r=>r
 | .cond c a b,s=>match val s.T c with
  | .sc (.bool true)=>aF P conv call a s
  | .sc (.bool false)=>aF P conv call b s
  |_=>none
 | .block id c,s=>match aF P conv call c s with
  |some (.exit j,s')=>if j=id then some (.norm,s')else some (.exit j,s')
  |r=>r
 | .loop c,s=>aC (aF P conv call c) s
 | .exit id,s=>some (.exit id,s)
 | .ret,s=>some (.ret,s)
 |_,_=>none
theorem x9{b b':St->Option (Ex×St)}(h:∀s r,b s=some r->b' s=some r):∀(n:Nat) (s:St) (r:Ex×St),aY b n s=some r->aY b' n s=some r
 |0,s,r,e=>by cases e
 |n+1,s,r,e=>by
  unfold aY at *
  split at e
  .rename_i s' G;simp only[h _ _ G];exact x9 h n s' r e
  .cases D:b s with
   |none=>rw[D]at e;cases e
   |some q=>
    rw[D]at e;rw[h _ _ D];obtain⟨ex,J⟩:=q;cases ex with
    |norm=>rename_i E;exact absurd D (E J)
    |exit id=>exact e
    |ret=>exact e
theorem xG{c c':Call}(h:FB c c'){n m:Nat}(K:n<=m):∀(E:Code) (s:St) (r:Ex×St),aj P conv c n E s=some r->aj P conv c' m E s=some r:=by
 intro E
 induction E with
 |region id ops draw=>
  intro s r e;simp only[aj]at *;cases draw with
  |true=>
   simp only[if_true]at *;cases D:bD P conv c ops s with
   |none=>rw[D]at e;cases e
   |some q=>rw[D]at e;rw[kN h D];exact e
  |false=>
   simp only[zO,if_false]at *;cases D:bf P conv c ops ops.toList s with
   |none=>rw[D]at e;cases e
   |some q=>rw[D]at e;rw[wX h _ _ _ D];exact e
 |seq a b G J=>
  intro s r e;simp only[aj]at *;cases D:aj P conv c n a s with
  |none=>rw[D]at e;cases e
  |some q=>
   rw[D]at e;rw[G _ _ D];obtain⟨ex,N⟩:=q;cases ex<;>first|exact J _ _ e|exact e
 |cond v a b G J=>
  intro s r e;simp only[aj]at *
  split at e
  .exact G _ _ e
  .exact J _ _ e
  .cases e
 |block id E M=>
  intro s r e;simp only[aj]at *;cases D:aj P conv c n E s with
  |none=>rw[D]at e;cases e
  |some q=>rw[D]at e;rw[M _ _ D];exact e
 |loop E M=>
  intro s r e;simp only[aj]at *;exact dG K (x9 (fun s r=>M s r) n s r e)
 |skip=>intro s r e;exact e
 |exit id=>intro s r e;exact e
 |ret=>intro s r e;exact e
 |_=>intro s r e;simp only[aj]at e;cases e
theorem qM{c c':Call}(h:FB c c'){n:Nat}:∀(E:Code) (s:St) (r:Ex×St),aj P conv c n E s=some r->aF P conv c' E s=some r:=by
 intro E
 induction E with
 |region id ops draw=>
  intro s r e;simp only[aj,aF]at *;cases draw with
  |true=>
   simp only[if_true]at *;cases D:bD P conv c ops s with
   |none=>rw[D]at e;cases e
   |some q=>rw[D]at e;rw[kN h D];exact e
  |false=>
   simp only[zO,if_false]at *;cases D:bf P conv c ops ops.toList s with
   |none=>rw[D]at e;cases e
   |some q=>rw[D]at e;rw[wX h _ _ _ D];exact e
 |seq a b G J=>
  intro s r e;simp only[aj,aF]at *;cases D:aj P conv c n a s with
  |none=>rw[D]at e;cases e
  |some q=>
   rw[D]at e;rw[G _ _ D];obtain⟨ex,N⟩:=q;cases ex<;>first|exact J _ _ e|exact e
 |cond v a b G J=>
  intro s r e;simp only[aj,aF]at *
  split at e
  .rename_i K;simp only[K];exact G _ _ e
  .rename_i K;simp only[K];exact J _ _ e
  .cases e
 |block id E M=>
  intro s r e;simp only[aj,aF]at *;cases D:aj P conv c n E s with
  |none=>rw[D]at e;cases e
  |some q=>rw[D]at e;rw[M _ _ D];exact e
 |loop E M=>
  intro s r e;simp only[aj,aF]at *;exact xA.2 ⟨n,x9 (fun s r=>M s r) n s r e⟩
 |skip=>intro s r e;exact e
 |exit id=>intro s r e;exact e
 |ret=>intro s r e;exact e
 |_=>intro s r e;simp only[aj]at e;cases e
def Chain(C:Nat->Call):Prop:=∀k,FB (C k) (C (k+1))
theorem Chain.le{C:Nat->Call}(h:Chain C){k m:Nat}(q:k<=m):FB (C k) (C m):=by
 induction q with
 |refl=>exact fun _ _ _ _ _ e=>e
 |step _ D=>exact fun f args σ nx r e=>h _ f args σ nx r (D f args σ nx r e)
noncomputable def sup(C:Nat->Call):Call:=fun f args σ nx=>
 open Classical in if h:∃r,∃k,C k f args σ nx=some r then some h.choose else none
theorem uZ{C:Nat->Call}(q:Chain C){f:FuncId}{args:List V}{σ:Store}{nx:Nat}{r:V×Store×Nat}:sup C f args σ nx=some r↔∃k,C k f args σ nx=some r:=by
 unfold sup;constructor
 .intro h
  split at h
  .rename_i hex
   simp only[yF]at h;subst h;exact hex.choose_spec
  .cases h
 .rintro ⟨n,D⟩
  have hex:∃r,∃k,C k f args σ nx=some r:=⟨r,n,D⟩;rw[dif_pos hex];obtain⟨m,G⟩:=hex.choose_spec;have J:=q.le (yT n m) _ _ _ _ _ D;have E:=q.le (yh n m) _ _ _ _ _ G;rw[J]at E;exact E.symm
theorem qN{C:Nat->Call}(D:Chain C){f:FuncId}{args:List V}{σ:Store}{nx:Nat}{r:V×Store×Nat}(e:bP conv (sup C) f args σ nx=some r):∃k,bP conv (C k) f args σ nx=some r:=by
 unfold bP at *
 split at e
 .exact(uZ D).1 e
 .split at e
  .rename_i ts ids E
   try simp only[E]
   cases h:sup C f ts ah 0 with
   |none=>rw[h]at e;cases e
   |some q=>
    obtain⟨k,G⟩:=(uZ D).1 h;rw[h]at e;exact⟨k,by rw[G];exact e⟩
  .cases e
 .split at e
  .rename_i ts ids E
   try simp only[E]
   cases h:sup C f ts ah nx with
   |none=>rw[h]at e;cases e
   |some q=>
    obtain⟨k,G⟩:=(uZ D).1 h;rw[h]at e;exact⟨k,by rw[G];exact e⟩
  .cases e
theorem nN{C:Nat->Call}(q:Chain C){o:Oper}{T:Nat->V}{σ:Store}{nx:Nat}{r:V×Store×Nat}(e:aK P conv (sup C) o T σ nx=some r):∃k,aK P conv (C k) o T σ nx=some r:=by
 rcases qL e with h|⟨f,args,D,E⟩
 .exact⟨0,h _⟩
 .obtain⟨k,G⟩:=qN q D
  exact⟨k,E _ G⟩
theorem AB{C:Nat->Call}(D:Chain C){o:Oper}{T:Nat->V}{σ:Store}{nx:Nat}{r:V×Store×Nat}(e:aI P conv (sup C) o T σ nx=some r):∃k,aI P conv (C k) o T σ nx=some r:=by
 unfold aI at *
 split at e
 .rename_i F E
  try simp only[E]
  split at e
  .rename_i G
   simp only[G,if_true];cases h:aK P conv (sup C) o T (restrict σ F) nx with
   |none=>rw[h]at e;cases e
   |some q=>
    obtain⟨k,J⟩:=nN D h;rw[h]at e;exact⟨k,by rw[J];exact e⟩
  .cases e
 .cases e
theorem gV{C:Nat->Call}(h:Chain C){ops:Array Oper}:∀(l:List Oper) (s s':St),bf P conv (sup C) ops l s=some s'->∃k,bf P conv (C k) ops l s=some s'
 |[],s,s',e=>⟨0,e⟩
 |o :: l,s,s',e=>by
  unfold bf at e
  split at e
  .rename_i D
   cases E:aK P conv (sup C) o s.T s.σ s.nx with
   |none=>rw[E]at e;cases e
   |some q=>
    rw[E]at e;obtain⟨k,J⟩:=nN h E;obtain⟨m,G⟩:=gV h l _ _ e;refine⟨max k m,?_⟩;unfold bf;simp only[D,lJ (fun f args σ r=>gU (h.le (yT k m))) J];exact wX (h.le (yh k m)) _ _ _ G
  .rename_i D
   obtain⟨m,G⟩:=gV h l _ _ e;exact⟨m,by unfold bf;simp only[D];exact G⟩
  .cases e
theorem wZ{C:Nat->Call}(D:Chain C){ops:Array Oper}:∀(l:List Oper) (s:St) (r:St×List (List Nat)),aQ P conv (sup C) ops l s=some r->∃k,aQ P conv (C k) ops l s=some r
 |[],s,r,e=>⟨0,e⟩
 |o :: l,s,r,e=>by
  unfold aQ at e
  split at e
  .rename_i E
   cases G:aI P conv (sup C) o s.T s.σ s.nx with
   |none=>rw[G]at e;cases e
   |some q=>
    rw[G]at e;simp only at e;cases h:aQ P conv (sup C) ops l ⟨bK s.T o.dst q.1,q.2.1,q.2.2⟩with
    |none=>rw[h]at e;cases e
    |some K=>
     rw[h]at e;obtain⟨k,M⟩:=AB D G;obtain⟨m,J⟩:=wZ D l _ _ h;refine⟨max k m,?_⟩;unfold aQ;simp only[E,nM (D.le (yT k m)) M,wo (D.le (yh k m)) _ _ _ J];exact e
  .rename_i E
   cases h:aQ P conv (sup C) ops l ⟨bK s.T o.dst (.dw []),s.σ,s.nx⟩with
   |none=>rw[h]at e;cases e
   |some K=>
    rw[h]at e;obtain⟨m,J⟩:=wZ D l _ _ h;refine⟨m,?_⟩;unfold aQ;simp only[E,J];exact e
  .cases e
theorem qO{C:Nat->Call}(D:Chain C){ops:Array Oper}{s s':St}(e:bD P conv (sup C) ops s=some s'):∃k,bD P conv (C k) ops s=some s':=by
 unfold bD at *
 split at e
 .rename_i E
  simp only[E,if_true];cases h:aQ P conv (sup C) ops ops.toList s with
  |none=>rw[h]at e;cases e
  |some q=>
   obtain⟨k,G⟩:=wZ D _ _ _ h;rw[h]at e;exact⟨k,by rw[G];exact e⟩
 .cases e
theorem jr{B:Nat->St->Option (Ex×St)}{b:St->Option (Ex×St)}(q:∀k m,k<=m->∀s r,B k s=some r->B m s=some r)(h:∀s r,b s=some r->∃k,B k s=some r) :
  ∀(n:Nat) (s:St) (r:Ex×St),aY b n s=some r->∃k,aY (B k) n s=some r
 |0,s,r,e=>by cases e
 |n+1,s,r,e=>by
  unfold aY at e
  split at e
  .rename_i s' G
   obtain⟨k,D⟩:=h _ _ G;obtain⟨m,J⟩:=jr q h n s' r e;refine⟨max k m,?_⟩;unfold aY;simp only[q k _ (yT k m) _ _ D];exact x9 (q m _ (yh k m)) n s' r J
  .rename_i E
   obtain⟨k,D⟩:=h _ _ e;refine⟨k,?_⟩;unfold aY;rw[D];obtain⟨ex,K⟩:=r;cases ex with
   |norm=>exact absurd e (E K)
   |exit id=>rfl
   |ret=>rfl
theorem nO{C:Nat->Call}(M:Chain C):∀(G:Code) (s:St) (r:Ex×St),aF P conv (sup C) G s=some r->∃k,aj P conv (C k) k G s=some r:=by
 intro G
 induction G with
 |region id ops draw=>
  intro s r e;simp only[aj,aF]at *;cases draw with
  |true=>
   simp only[if_true]at *;cases D:bD P conv (sup C) ops s with
   |none=>rw[D]at e;cases e
   |some q=>obtain⟨k,E⟩:=qO M D;rw[D]at e;exact⟨k,by rw[E];exact e⟩
  |false=>
   simp only[zO,if_false]at *;cases D:bf P conv (sup C) ops ops.toList s with
   |none=>rw[D]at e;cases e
   |some q=>obtain⟨k,E⟩:=gV M _ _ _ D;rw[D]at e;exact⟨k,by rw[E];exact e⟩
 |seq a b J K=>
  intro s r e;simp only[aj,aF]at *;cases D:aF P conv (sup C) a s with
  |none=>rw[D]at e;cases e
  |some q=>
   rw[D]at e;obtain⟨k,E⟩:=J _ _ D;obtain⟨ex,Y⟩:=q;cases ex with
   |norm=>
    obtain⟨m,S⟩:=K _ _ e;exact⟨max k m,by rw[xG (M.le (yT k m)) (yT k m) _ _ _ E];exact xG (M.le (yh k m)) (yh k m) _ _ _ S⟩
   |exit id=>exact⟨k,by rw[E];exact e⟩
   |ret=>exact⟨k,by rw[E];exact e⟩
 |cond v a b J K=>
  intro s r e;simp only[aj,aF]at *
  split at e
  .rename_i O;simp only[O];exact J _ _ e
  .rename_i O;simp only[O];exact K _ _ e
  .cases e
 |block id G R=>
  intro s r e;simp only[aj,aF]at *;cases D:aF P conv (sup C) G s with
  |none=>rw[D]at e;cases e
  |some q=>obtain⟨k,E⟩:=R _ _ D;rw[D]at e;exact⟨k,by rw[E];exact e⟩
 |loop G R=>
  intro s r e;simp only[aj,aF]at *;obtain⟨n,U⟩:=xA.1 e;obtain⟨k,E⟩:=jr (B:=fun k=>aj P conv (C k) k G) (fun k m N s r=>xG (M.le N) N G s r) (fun s r h=>R s r h) n s r U;refine⟨max n k,?_⟩;exact dG (yT n k) (x9 (fun s r=>xG (M.le (yh n k)) (yh n k) G s r) n s r E)
 |skip=>intro s r e;exact⟨0,e⟩
 |exit id=>intro s r e;exact⟨0,e⟩
 |ret=>intro s r e;exact⟨0,e⟩
 |_=>intro s r e;simp only[aF]at e;cases e
theorem AL{c c':Call}(h:FB c c'){n m:Nat}(D:n<=m){fn:Func}{body:Code}{args:List V}{σ:Store}{nx:Nat}{r:V×Store×Nat}(e:dU P conv c n fn body args σ nx=some r):dU P conv c' m fn body args σ nx=some r:=by
 unfold dU at *;cases E:aj P conv c n body ⟨dP args,σ,nx⟩with
 |none=>rw[E]at e;cases e
 |some q=>rw[E]at e;rw[xG h D _ _ _ E];exact e
theorem xC(ext:Ext):Chain (Ar P conv ext):=by
 intro k
 induction k with
 |zero=>intro f args σ nx r e;cases e
 |succ k q=>
  intro f args σ nx r e;unfold Ar at e⊢
  split at e
  .exact e
  .rename_i D
   split at e
   .rename_i fn G
    try simp only[D]
    split at e
    .rename_i body E
     try simp only[E]
     split at e
     .rename_i h
      rw[yC h];exact AL q (Nat.le_succ k) e
     .cases e
    .cases e
   .cases e
noncomputable def ev(P:Program)(conv:FuncId->Conv)(ext:Ext):Call:=sup (Ar P conv ext)
theorem DI(q:P.follows .mixedOrders=true){ext:Ext}(D:nK P ext):cu P (ev P conv ext):=fun f args σ nx v σ' nx' h=>by
 obtain⟨k,E⟩:=(uZ (xC ext)).1 h;exact kM q D k f args σ nx v σ' nx' E
noncomputable def nP(P:Program)(conv:FuncId->Conv)(call:Call)(rs:List ResultVar)(body:Code)(s:St):jV :=
 match aF P conv call body s with
 |some (.norm,st)=>match aH P st.T st.σ rs with
  |some vs=>some (oneOf vs,st.σ,st.nx)
  |none=>none
 |some (.ret,st)=>match aH P st.T st.σ rs with
  |some vs=>some (oneOf vs,st.σ,st.nx)
  |none=>none
 |_=>none
theorem DJ{ext:Ext}{f:FuncId}{g:List V->Store->Nat->jV}(D:ext f=some g)(args:List V)(σ:Store)(nx:Nat):ev P conv ext f args σ nx=g args σ nx:=by
 apply Option.ext;intro r;unfold ev;rw[uZ (xC ext)];constructor
 .rintro ⟨k,q⟩
  cases k with
  |zero=>cases q
  |succ k=>unfold Ar at q;simpa only[D]using q
 .intro h
  exact⟨1,by unfold Ar;simpa only[D]using h⟩
theorem H9{ext:Ext}{f:FuncId}{fn:Func}{body:Code}{rs:List ResultVar}(J:ext f=none)(K:P.funcs[f]?=some fn)(M:fn.body=some body)(N:fn.results.toList=rs){args:List V}(G:Aq fn body args.length=true)(σ:Store)(nx:Nat) :
  ev P conv ext f args σ nx=nP P conv (ev P conv ext) rs body ⟨dP args,σ,nx⟩:=by
 apply Option.ext;intro r;unfold ev;rw[uZ (xC ext)];constructor
 .rintro ⟨k,D⟩
  cases k with
  |zero=>cases D
  |succ k=>
   unfold Ar at D;simp only[J,K,M,G,if_true]at D;unfold dU at D;unfold nP;cases E:aj P conv (Ar P conv ext k) k body ⟨dP args,σ,nx⟩with
   |none=>rw[E]at D;cases D
   |some q=>
    rw[E]at D;rw[qM (c':=sup (Ar P conv ext)) (fun f args σ nx r e=>(uZ (xC ext)).2 ⟨k,e⟩) _ _ _ E,<- N];exact D
 .intro h
  unfold nP at h;cases E:aF P conv (sup (Ar P conv ext)) body ⟨dP args,σ,nx⟩with
  |none=>rw[E]at h;cases h
  |some q=>
   rw[E]at h;obtain⟨k,D⟩:=nO (xC ext) _ _ _ E;refine⟨k+1,?_⟩;unfold Ar;simp only[J,K,M,G,if_true];unfold dU;rw[D,N];exact h
end
end Go.TV
namespace Go.TV
set_option linter.unusedVariables false
set_option linter.unusedSimpArgs false
variable [Known]
structure Me where
 ok:Bool
 agg:Bool
 size:Nat
 zero:List V
 slice:Bool
 str:Bool
 ptr:Bool
 mP:Nat
 lK:Nat
 dZ:List V
 FC:Bool
 DK:List (Nat×Nat×Option Bool)
 MB:List (Nat×Nat)
 MC:Bool
 u8:Bool
def zeroV(i:TypeInfo):List V :=
 match i.zero with
 |some z=>if z.cells.size=i.size then z.cells.toList.map aX else []
 |none=>[]
def jv(i:TypeInfo):Bool :=
 match i.zero with
 |some z=>z.cells.size=i.size
 |none=>false
def JB(P:Program)(t:TypeId):Option Bool:=(P.underlying t).map d_
def aG(P:Program)(t:TypeId):Me :=
 match P.info? t,P.underlying t with
 |some i,some d=>
  let e:=match d with
   | .slice e=>P.info? e
   |_=>none
  {ok:=true,agg:=d_ d,size:=i.size,zero:=if jv i then zeroV i else [],slice:=d matches .slice _,str:=d matches .string,ptr:=d matches .pointer _,
   mP:=(e.map (·.size)).getD 0,lK:=(e.map (·.bytes)).getD 0,dZ:=(e.map zeroV).getD [],FC:=(e.map jv).getD false,
   DK:=match d with
    | .struct fs=>fs.toList.map fun f=>(f.offset,((P.info? f.type).map (·.size)).getD 0,(JB P f.type))
    |_=>[]
   MB:=match d with
    | .struct fs=>((aA P (fs.mapM fun f=>do pure (f.offset,<- sizeOf f.type))).map (·.toList)).getD []
    |_=>[]
   MC:=match d with
    | .struct fs=>(aA P (fs.mapM fun f=>do pure (f.offset,<- sizeOf f.type))).isSome && jv i
    |_=>false
   u8:=match d with
    | .slice e=>(P.underlying e matches some (.int .u8)) && ((P.info? e).map (·.size))==some 1
    |_=>false }
 |_,_=>⟨false,false,0,[],false,false,false,0,0,[],false,[],[],false,false⟩
section
variable {P:Program} {conv:FuncId->Conv} {call:Call} {σ:Store} {nx:Nat}
theorem uU{t:TypeId}(h:(aG P t).ok=true):∃i d,P.info? t=some i/\P.underlying t=some d/\(aG P t).agg=d_ d/\(aG P t).size=i.size:=by
 unfold aG at h⊢;cases hi:P.info? t with
 |none=>simp[hi]at h
 |some i=>
  cases q:P.underlying t with
  |none=>simp[hi,q]at h
  |some d=>exact⟨i,d,rfl,rfl,rfl,rfl⟩
theorem uT{t:TypeId}(h:(aG P t).slice=true)(q:(aG P t).FC=true):∃e i z,P.underlying t=some (.slice e)/\P.info? e=some i/\i.zero=some z/\z.cells.size=i.size/\(aG P t).mP=i.size/\(aG P t).lK=i.bytes/\(aG P t).dZ=z.cells.toList.map aX:=by
 unfold aG at h q⊢;cases hi:P.info? t with
 |none=>simp[hi]at h
 |some i=>
  cases G:P.underlying t with
  |none=>simp[hi,G]at h
  |some d=>
   simp only[hi,G]at h q⊢;cases d<;>simp at h;rename_i e;simp only at q⊢;cases E:P.info? e with
   |none=>simp[E]at q
   |some J=>
    simp only[E,zh,yV]at q⊢;unfold jv at q;cases D:J.zero with
    |none=>simp[D]at q
    |some z=>
     simp only[D,decide_eq_true_eq]at q;exact⟨e,J,z,rfl,E,D,q,rfl,rfl,by simp[zeroV,D,q]⟩
theorem AO{t:TypeId}{row:List V}{off:Nat}(h:(aG P t).ok=true)(E:(aG P t).agg=false):aO P σ t (.tp row off)=row[off]?:=by
 obtain⟨i,d,G,J,q,K⟩:=uU h;rw[E]at q;unfold aO;simp only[G,J,<- q,zO,if_false,bW]
 by_cases D:off<row.length
 .rw[yC (by omega),zo D]
  have:(row.drop off).take 1=[row[off]]:=by
   rw[List.drop_eq_getElem_cons D];rfl
  rw[this]
 .rw[yD (by omega),yw (by omega)]
theorem qP{t:TypeId}{row:List V}{off:Nat}(h:(aG P t).ok=true)(D:(aG P t).agg=true):aO P σ t (.tp row off)=if off+(aG P t).size<=row.length then some (.agg ((row.drop off).take (aG P t).size))else none:=by
 obtain⟨i,d,E,G,q,J⟩:=uU h;rw[D]at q;unfold aO;simp only[E,G,<- q,if_true,bW,J]
 split<;>rfl
theorem AP{t:TypeId}{b off:Nat}(h:(aG P t).ok=true)(E:(aG P t).agg=false):aO P σ t (.rp b off)=(σ b).bind fun B=>B.cells[off]?:=by
 obtain⟨i,d,G,J,q,K⟩:=uU h;rw[E]at q;unfold aO;simp only[G,J,<- q,zO,if_false,bW];cases σ b with
 |none=>rfl
 |some B=>
  simp only[zq]
  by_cases D:off<B.cells.length
  .rw[yC (by omega),zo D]
   have:(B.cells.drop off).take 1=[B.cells[off]]:=by
    rw[List.drop_eq_getElem_cons D];rfl
   rw[this]
  .rw[yD (by omega),yw (by omega)]
theorem qQ{t:TypeId}{b off:Nat}(h:(aG P t).ok=true)(D:(aG P t).agg=true):aO P σ t (.rp b off)=(σ b).bind fun B=>if off+(aG P t).size<=B.cells.length then some (.agg ((B.cells.drop off).take (aG P t).size))else none:=by
 obtain⟨i,d,E,G,q,J⟩:=uU h;rw[D]at q;unfold aO;simp only[E,G,<- q,if_true,bW,J];cases σ b with
 |none=>rfl
 |some B=>simp only[zq];split<;>rfl
theorem qR{t:TypeId}{b off:Nat}{v:V}(h:(aG P t).ok=true)(D:aZ v=true)(hs:(aG P t).size=1):bU P σ t (.rp b off) v=(σ b).bind fun B=>if B.wr=true/\off<B.cells.length then some (upd σ b (some { B with cells:=B.cells.set off v }))else none:=by
 obtain⟨i,d,E,J,K,q⟩:=uU h;rw[hs]at q;have G:cellsOfV v=some [v]:=by cases v<;>simp_all [cellsOfV,aZ]
 unfold bU;simp only[E,G,<- q,List.length_singleton,List.all_cons,yS,D,Bool.and_true,and_true,true_and,patch];cases σ b with
 |none=>rfl
 |some B=>simp only[zq];rfl
theorem nR{t:TypeId}{b off:Nat}{vs:List V}(h:(aG P t).ok=true):bU P σ t (.rp b off) (.agg vs)=(σ b).bind fun B=>if B.wr=true/\vs.length=(aG P t).size/\off+vs.length<=B.cells.length/\vs.all aZ=true then some (upd σ b (some { B with cells:=patch B.cells off vs }))else none:=by
 obtain⟨i,d,q,E,G,D⟩:=uU h;unfold bU;simp only[q,D,cellsOfV];cases σ b with
 |none=>rfl
 |some B=>simp only[zq]
theorem kP{t:TypeId}{f:Nat}(h:(aG P t).ok=true) :
  (∃fields fd,P.underlying t=some (.struct fields)/\fields[f]?=some fd/\(aG P t).DK[f]?=some (fd.offset,((P.info? fd.type).map (·.size)).getD 0,JB P fd.type)) \/
  ((aG P t).DK[f]?=none/\∀fields,P.underlying t=some (.struct fields)->fields[f]?=none):=by
 obtain⟨i,d,D,E,G,J⟩:=uU h;unfold aG;simp only[D,E];cases d<;>try (refine .inr ⟨rfl,fun fields e=>by cases e⟩)
 rename_i fs;simp only[yY,zV];cases q:fs[f]? with
 |none=>exact .inr ⟨rfl,fun fields e=>by cases e;exact q⟩
 |some fd=>exact .inl ⟨fs,fd,rfl,q,rfl⟩
theorem qU{t:TypeId}{row:List V}{off f:Nat}(h:(aG P t).ok=true):aS P t (.tp row off) f=((aG P t).DK[f]?).bind fun p=>if p.2.1=0 then none else some (.tp row (off+p.1)):=by
 rcases kP (f:=f) h with ⟨fields,fd,q,D,E⟩|⟨q,D⟩
 .unfold aS
  simp only[q,D,E,zq];cases P.info? fd.type<;>rfl
 .unfold aS
  rw[q];cases hu:P.underlying t with
  |none=>rfl
  |some d=>cases d<;>first|(simp;done)|(rename_i fs;simp[D fs hu])
theorem qV{t:TypeId}{b off f:Nat}(h:(aG P t).ok=true):aS P t (.rp b off) f=((aG P t).DK[f]?).bind fun p=>if p.2.1=0 then none else some (.rp b (off+p.1)):=by
 rcases kP (f:=f) h with ⟨fields,fd,q,D,E⟩|⟨q,D⟩
 .unfold aS
  simp only[q,D,E,zq];cases P.info? fd.type<;>rfl
 .unfold aS
  rw[q];cases hu:P.underlying t with
  |none=>rfl
  |some d=>cases d<;>first|(simp;done)|(rename_i fs;simp[D fs hu])
theorem qW{t:TypeId}{row:List V}{len:Nat}{k:IntKind}{i:Int}(h:(aG P t).slice=true)(q:(aG P t).FC=true):bn P t (.ts row len) (.sc (.int k i))=if 0<=i/\i<len/\row≠[]then some (.tp row (i.toNat *(aG P t).mP))else none:=by
 obtain⟨e,J,z,D,E,_,_,G,_,_⟩:=uT h q;unfold bn;simp only[D,E,G]
theorem qX{t:TypeId}{b off len:Nat}{k:IntKind}{i:Int}(h:(aG P t).slice=true)(q:(aG P t).FC=true):bn P t (.rs b off len) (.sc (.int k i))=if 0<=i/\i<len then some (.rp b (off+i.toNat *(aG P t).mP))else none:=by
 obtain⟨e,J,z,D,E,_,_,G,_,_⟩:=uT h q;unfold bn;simp only[D,E,G]
theorem AQ{t:TypeId}{l c:Int}(h:(aG P t).slice=true)(E:(aG P t).FC=true)(q:decide ((aG P t).mP<1000000)=true):eF P t (.sc (.int .i64 l)) (.sc (.int .i64 c)) σ nx=
  if 0<=l/\l<=c/\((aG P t).lK:Int)*c<=281474976710656/\c<=9223372036854775807/\0<(aG P t).mP then some (.rs nx 0 l.toNat,bF σ nx (rep l.toNat (aG P t).dZ) (aG P t).mP,nx+1)else none:=by
 obtain⟨e,R,z,G,J,K,M,D,N,O⟩:=uT h E;unfold eF;rw[decide_eq_true_eq]at q;simp only[D]at q;simp only[G,J,K,D,N,O,M,and_true,q]
theorem xH{t:TypeId}{len:Nat}{parts:List (Nat×V)}(h:(aG P t).slice=true)(D:(aG P t).FC=true):bH P t len parts σ nx=
  if len=0 then some (.nil,σ,nx)else if 0<(aG P t).mP/\len*(aG P t).mP<=1000 then
   match bY (fun j=>some (j*(aG P t).mP,(aG P t).mP)) (rep len (aG P t).dZ) parts with
   |some cells=>some (.rs nx 0 len,bF σ nx cells (aG P t).mP,nx+1)
   |none=>none
  else none:=by
 obtain⟨e,q,z,E,G,J,K,M,N,O⟩:=uT h D;unfold bH;simp only[E,G,J,M,N,O,K,and_true];cases bY (fun j=>some (j*q.size,q.size)) (rep len (z.cells.toList.map aX)) parts<;>rfl
theorem nS{t:TypeId}{s x:V}(h:(aG P t).slice=true)(E:(aG P t).FC=true)(hs:decide (0<(aG P t).mP)=true)(q:decide ((aG P t).mP<1000000)=true):cZ P #[t,t] s x σ nx=
  (rowOf σ (aG P t).mP x).bind fun p=>bZ σ nx (aG P t).mP (aG P t).lK s p.1 p.2:=by
 obtain⟨e,G,z,J,K,M,N,D,O,R⟩:=uT h E;rw[D]at hs q;simp only[decide_eq_true_eq]at hs q;unfold cZ;simp only[z_,yZ,yH,J,beq_self_eq_true,K,M,D,O,N,hs,q,and_self,if_true];cases rowOf σ G.size x<;>rfl
theorem DL{t:TypeId}{row:List V}{len:Nat}(h:(aG P t).slice=true):dN P t (.ts row len)=some (.sc (.int .i64 len)):=by
 unfold aG at h;cases hi:P.info? t with
 |none=>simp[hi]at h
 |some i=>
  cases q:P.underlying t with
  |none=>simp[hi,q]at h
  |some d=>simp only[hi,q]at h;cases d<;>simp at h;simp[dN,q]
theorem DN{t:TypeId}{b off len:Nat}(h:(aG P t).slice=true):dN P t (.rs b off len)=some (.sc (.int .i64 len)):=by
 unfold aG at h;cases hi:P.info? t with
 |none=>simp[hi]at h
 |some i=>
  cases q:P.underlying t with
  |none=>simp[hi,q]at h
  |some d=>simp only[hi,q]at h;cases d<;>simp at h;simp[dN,q]
theorem AU{t:TypeId}(h:(aG P t).slice=true):dN P t .nil=some (.sc (.int .i64 0)):=by
 unfold aG at h;cases hi:P.info? t with
 |none=>simp[hi]at h
 |some i=>
  cases q:P.underlying t with
  |none=>simp[hi,q]at h
  |some d=>simp only[hi,q]at h;cases d<;>simp at h;simp[dN,q]
theorem lM{t:TypeId}(h:(aG P t).str=true):P.underlying t=some .string:=by
 unfold aG at h;cases hi:P.info? t with
 |none=>simp[hi]at h
 |some i=>
  cases q:P.underlying t with
  |none=>simp[hi,q]at h
  |some d=>simp only[hi,q]at h;cases d<;>simp at h;rfl
theorem AV{t:TypeId}{s:ByteArray}(h:(aG P t).str=true):dN P t (.sc (.string s))=some (.sc (.int .i64 s.size)):=by
 simp[dN,lM h]
theorem AX{t:TypeId}{s:ByteArray}{k:IntKind}{i:Int}(h:(aG P t).str=true):dW P t (.sc (.string s)) (.sc (.int k i))=(if 0<=i then s[i.toNat]? else none).map fun b=> .sc (.int .u8 b.toNat):=by
 unfold dW;simp only[lM h]
 split<;>rename_i e<;>rw[e]<;>rfl
section
variable {t:TypeId} {x y:Operand} {k:IntKind} {a b:Int}
theorem Io:aT P .add t x y (.sc (.int k a)) (.sc (.int k b))=some (.sc (.int k (k.wrap (a+b)))):=by
 simp only[aT,toVal,eqGuard_add,binOp_add,Op.intArith];rfl
theorem Ip:aT P .sub t x y (.sc (.int k a)) (.sc (.int k b))=some (.sc (.int k (k.wrap (a-b)))):=by
 simp only[aT,toVal,eqGuard_sub,binOp_sub,Op.intArith];rfl
theorem Iq:aT P .mul t x y (.sc (.int k a)) (.sc (.int k b))=some (.sc (.int k (k.wrap (a*b)))):=by
 simp only[aT,toVal,eqGuard_mul,binOp_mul,Op.intArith];rfl
theorem Ir(h:b≠0):aT P .quo t x y (.sc (.int k a)) (.sc (.int k b))=some (.sc (.int k (k.wrap (a.tdiv b)))):=by
 simp only[aT,toVal,eqGuard_quo,binOp_quo,Op.intDiv,yD h];rfl
theorem Iu(h:b≠0):aT P .rem t x y (.sc (.int k a)) (.sc (.int k b))=some (.sc (.int k (a.tmod b))):=by
 simp only[aT,toVal,eqGuard_rem,binOp_rem,Op.intDiv,yD h];rfl
theorem Iw:aT P .eql t x y (.sc (.int k a)) (.sc (.int k b))=some (.sc (.bool (a==b))):=by
 simp only[aT,toVal,eqGuard_at_int,binOp_eql];rfl
theorem Iy:aT P .neq t x y (.sc (.int k a)) (.sc (.int k b))=some (.sc (.bool (a !=b))):=by
 simp only[aT,toVal,eqGuard_at_int,binOp_neq];rfl
theorem Iz:aT P .lss t x y (.sc (.int k a)) (.sc (.int k b))=some (.sc (.bool (decide (a<b)))):=by
 simp only[aT,toVal,eqGuard_lss,binOp_lss];rfl
theorem IB:aT P .leq t x y (.sc (.int k a)) (.sc (.int k b))=some (.sc (.bool (decide (a<=b)))):=by
 simp only[aT,toVal,eqGuard_leq,binOp_leq];rfl
theorem IC:aT P .gtr t x y (.sc (.int k a)) (.sc (.int k b))=some (.sc (.bool (decide (b<a)))):=by
 simp only[aT,toVal,eqGuard_gtr,binOp_gtr];rfl
theorem IE:aT P .geq t x y (.sc (.int k a)) (.sc (.int k b))=some (.sc (.bool (decide (b<=a)))):=by
 simp only[aT,toVal,eqGuard_geq,binOp_geq];rfl
theorem IG{p:Bool}:qh P .not (.sc (.bool p))=some (.sc (.bool !p)):=rfl
theorem II:qh P .neg (.sc (.int k a))=some (.sc (.int k (k.wrap (0-a)))):=rfl
end
end
end Go.TV
namespace Go.TV
set_option linter.unusedVariables false
set_option linter.unusedSimpArgs false
variable [Known]
section
variable {P:Program} {conv:FuncId->Conv} {call:Call}
def DR(P:Program)(conv:FuncId->Conv)(call:Call)(ops:Array Oper)(rest:List Oper)(T:Nat->V)(d:Option Tmp):jV->Option St
 |some (v,σ,nx)=>bf P conv call ops rest ⟨bK T d v,σ,nx⟩
 |none=>none
def FV(P:Program)(conv:FuncId->Conv)(call:Call)(ops:Array Oper)(rest:List Oper)(o:Oper)(s:St):Option Bool->Option St
 |some true=>DR P conv call ops rest s.T o.dst (aK P conv call o s.T s.σ s.nx)
 |some false=>bf P conv call ops rest ⟨bK s.T o.dst (.dw []),s.σ,s.nx⟩
 |none=>none
theorem AY(ops:Array Oper)(s:St):bf P conv call ops [] s=some s:=rfl
theorem qY(ops:Array Oper)(d:Option Tmp)(op:Op)(ty:TypeId)(ps:String)(af:Array Edge)(rest:List Oper)(T:Nat->V)(σ:Store)(nx:Nat) :
  bf P conv call ops (⟨d,op,ty,ps,af,none⟩ :: rest) ⟨T,σ,nx⟩=DR P conv call ops rest T d (aK P conv call ⟨d,op,ty,ps,af,none⟩ T σ nx):=by
 show(match aK P conv call ⟨d,op,ty,ps,af,none⟩ T σ nx with|some (v,σ',nx')=>_|none=>none)=_;cases aK P conv call ⟨d,op,ty,ps,af,none⟩ T σ nx<;>rfl
theorem nT(ops:Array Oper)(d:Option Tmp)(op:Op)(ty:TypeId)(ps:String)(af:Array Edge)(g:Nat×Bool)(rest:List Oper)(T:Nat->V)(σ:Store)(nx:Nat) :
  bf P conv call ops (⟨d,op,ty,ps,af,some g⟩ :: rest) ⟨T,σ,nx⟩=FV P conv call ops rest ⟨d,op,ty,ps,af,some g⟩ ⟨T,σ,nx⟩ (bC ops T ⟨d,op,ty,ps,af,some g⟩):=by
 show(match bC ops T ⟨d,op,ty,ps,af,some g⟩with|some true=>_|some false=>_|none=>none)=_;cases bC ops T ⟨d,op,ty,ps,af,some g⟩with
 |none=>rfl
 |some b=>
  cases b with
  |false=>rfl
  |true=>
   simp only[FV];cases aK P conv call ⟨d,op,ty,ps,af,some g⟩ T σ nx<;>rfl
theorem AZ(ops:Array Oper)(rest:List Oper)(T:Nat->V)(d:Tmp)(v:V)(σ:Store)(nx:Nat):DR P conv call ops rest T (some d) (some (v,σ,nx))=bf P conv call ops rest ⟨upd T d v,σ,nx⟩:=rfl
theorem A8(ops:Array Oper)(rest:List Oper)(T:Nat->V)(v:V)(σ:Store)(nx:Nat):DR P conv call ops rest T none (some (v,σ,nx))=bf P conv call ops rest ⟨T,σ,nx⟩:=rfl
theorem A_(ops:Array Oper)(rest:List Oper)(d:Option Tmp)(op:Op)(ty:TypeId)(ps:String)(af:Array Edge)(g:Option (Nat×Bool))(T:Nat->V)(σ:Store)(nx:Nat) :
  FV P conv call ops rest ⟨d,op,ty,ps,af,g⟩ ⟨T,σ,nx⟩ (some true)=DR P conv call ops rest T d (aK P conv call ⟨d,op,ty,ps,af,g⟩ T σ nx):=rfl
theorem qZ(ops:Array Oper)(rest:List Oper)(d:Tmp)(op:Op)(ty:TypeId)(ps:String)(af:Array Edge)(g:Option (Nat×Bool))(T:Nat->V)(σ:Store)(nx:Nat) :
  FV P conv call ops rest ⟨some d,op,ty,ps,af,g⟩ ⟨T,σ,nx⟩ (some false)=bf P conv call ops rest ⟨upd T d (.dw []),σ,nx⟩:=rfl
def lN(want:Bool):V->Option Bool
 | .sc (.bool b)=>some (b==want)
 | .dw []=>some false
 |_=>none
theorem lQ(ops:Array Oper)(d:Option Tmp)(op:Op)(ty:TypeId)(ps:String)(af:Array Edge)(j:Nat)(want:Bool)(T:Nat->V) :
  bC ops T ⟨d,op,ty,ps,af,some (j,want)⟩=match(ops[j]?).bind (·.dst)with|some d=>lN want (T d)|none=>some false:=by
 unfold bC lN;rfl
theorem nU(want b:Bool):lN want (.sc (.bool b))=some (b==want):=rfl
theorem lS(want:Bool):lN want (.dw [])=some false:=rfl
theorem FW(T:Nat->V)(t:Tmp):val T (.tmp t)=T t:=rfl
theorem Ba(T:Nat->V)(v:Value):val T (.const v)=dY v:=rfl
theorem DT(T:Nat->V)(f:FuncId):val T (.func f)= .clo f []:=rfl
section
variable (d:Option Tmp) (ty:TypeId) (ps:String) (af:Array Edge) (gd:Option (Nat×Bool)) (T:Nat->V) (σ:Store) (nx:Nat)
theorem FX(x:Operand):aK P conv call ⟨d,.move x,ty,ps,af,gd⟩ T σ nx=some (val T x,σ,nx):=rfl
theorem Bc(x:Operand):aK P conv call ⟨d,.assign x,ty,ps,af,gd⟩ T σ nx=some (val T x,σ,nx):=rfl
def DU(a b:V):V->Option V
 | .sc (.bool t)=>some (if t then a else b)
 |_=>none
theorem FY(c a b:Operand):aK P conv call ⟨d,.pick c a b,ty,ps,af,gd⟩ T σ nx=(DU (val T a) (val T b) (val T c)).map (·,σ,nx):=by
 simp only[aK];unfold DU
 split<;>simp_all
theorem ru(a b:V)(t:Bool):DU a b (.sc (.bool t))=some (if t then a else b):=rfl
theorem JC:Ii []=false:=id rfl
theorem JD(v:V):Ii [v]=false:=id rfl
theorem JE(u v w:V)(l:List V):Ii (u :: v :: w :: l)=false:=id rfl
theorem IJ(v w:V):Ii [v,w]=(Ih v && Ko w):=id rfl
theorem FZ:Ih .nil=false:=id rfl
theorem F5(k:IntKind)(n:Int):Ih (.sc (.int k n))=false:=id rfl
theorem DV(b:Bool):Ih (.sc (.bool b))=false:=id rfl
theorem rC(b:ByteArray):Ih (.sc (.string b))=false:=id rfl
theorem DW:Ih (.sc (.pointer none))=true:=id rfl
theorem F6:Ko .nil=true:=id rfl
theorem IK(v:Value):Ko (.sc v)=false:=id rfl
theorem nV(t:TypeId)(h:(aG P t).ok=true)(q:decide ((aG P t).zero.length=(aG P t).size)=true)(G:decide (0<(aG P t).size)=true)(D:Ii (aG P t).zero=false):aK P conv call ⟨d,.alloc t,ty,ps,af,gd⟩ T σ nx=some (.rp nx 0,bF σ nx (aG P t).zero 0,nx+1):=by
 obtain⟨i,M,J,K,N,O⟩:=uU h;simp only[aK,J];unfold aG at q G D⊢;simp only[J,K,decide_eq_true_eq]at q G D⊢;unfold jv zeroV at *;cases E:i.zero with
 |none=>simp[E]at q;omega
 |some z=>
  simp only[E]at q D⊢
  by_cases hs:z.cells.size=i.size
  .simp only[hs,decide_true,if_true]at D
   simp[hs,kG,D]
  .simp[hs]at q;omega
theorem IL(t:TypeId)(x:Operand):aK P conv call ⟨d,.box t x,ty,ps,af,gd⟩ T σ nx=(cellsOfV (val T x)).map fun cs=>(.rp nx 0,bF σ nx cs 0,nx+1):=by
 simp only[aK];cases cellsOfV (val T x)<;>rfl
theorem DX(t:TypeId)(parts:Array (Nat×Operand)):aK P conv call ⟨d,.build t parts,ty,ps,af,gd⟩ T σ nx=(iR P t (parts.toList.map fun p=>(p.1,val T p.2))).map (·,σ,nx):=rfl
theorem vg(t:TypeId)(len:Nat)(parts:Array (Nat×Operand))(h:(decide (len=0) && !parts.isEmpty)=false):aK P conv call ⟨d,.buildSlice t len parts,ty,ps,af,gd⟩ T σ nx=bH P t len (parts.toList.map fun p=>(p.1,val T p.2)) σ nx:=by
 simp only[aK,h,zO,if_false]
theorem F7(t:TypeId)(a:Operand):aK P conv call ⟨d,.load t a,ty,ps,af,gd⟩ T σ nx=(aO P σ t (val T a)).map (·,σ,nx):=rfl
theorem DY(t:TypeId)(a x:Operand):aK P conv call ⟨d,.store t a x,ty,ps,af,gd⟩ T σ nx=(bU P σ t (val T a) (val T x)).map (.dw [],·,nx):=rfl
def DZ:V->Option V
 | .tp row off=>some (.tp row off)
 | .rp b off=>some (.rp b off)
 |_=>none
theorem iG(x:Operand):aK P conv call ⟨d,.nilCheck x,ty,ps,af,gd⟩ T σ nx=(DZ (val T x)).map (·,σ,nx):=by
 simp only[aK];unfold DZ
 split<;>simp_all
theorem F8(row:List V)(off:Nat):DZ (.tp row off)=some (.tp row off):=rfl
theorem F9(b off:Nat):DZ (.rp b off)=some (.rp b off):=rfl
theorem D5(op:BinOp)(t:TypeId)(x y:Operand)(h:TypeId):aK P conv call ⟨d,.binOp op t x y h,ty,ps,af,gd⟩ T σ nx=(aT P op t x y (val T x) (val T y)).map (·,σ,nx):=rfl
theorem Gf(op:UnOp)(t:TypeId)(x:Operand):aK P conv call ⟨d,.unOp op t x,ty,ps,af,gd⟩ T σ nx=(qh P op (val T x)).map (·,σ,nx):=rfl
theorem rD(s e:TypeId)(x:Operand):aK P conv call ⟨d,.convert s e x,ty,ps,af,gd⟩ T σ nx=(bg P s e (val T x) σ).map (·,σ,nx):=rfl
theorem nX(f:FuncId)(cap:Array Operand):aK P conv call ⟨d,.makeFunc (.func f) #[] cap,ty,ps,af,gd⟩ T σ nx=some (.clo f (cap.toList.map (val T)),σ,nx):=rfl
theorem lT(t:TypeId)(l c:Operand):aK P conv call ⟨d,.makeSlice t l c,ty,ps,af,gd⟩ T σ nx=eF P t (val T l) (val T c) σ nx:=rfl
theorem D6(t:TypeId)(x:Operand)(lo hi h:Option Operand):aK P conv call ⟨d,.slice t x lo hi h,ty,ps,af,gd⟩ T σ nx=(iT P t (val T x) (lo.map (val T)) (hi.map (val T)) (h.map (val T)) σ).map (·,σ,nx):=rfl
theorem lU(t:TypeId)(x:Operand)(f:Nat):aK P conv call ⟨d,.fieldAddr t x f,ty,ps,af,gd⟩ T σ nx=(aS P t (val T x) f).map (·,σ,nx):=rfl
theorem D7(t:TypeId)(x:Operand)(f:Nat):aK P conv call ⟨d,.field t x f,ty,ps,af,gd⟩ T σ nx=(iU P t (val T x) f).map (·,σ,nx):=rfl
theorem lV(t:TypeId)(x i:Operand):aK P conv call ⟨d,.indexAddr t x i,ty,ps,af,gd⟩ T σ nx=(bn P t (val T x) (val T i)).map (·,σ,nx):=rfl
theorem D8(t:TypeId)(x i:Operand):aK P conv call ⟨d,.index t x i,ty,ps,af,gd⟩ T σ nx=(dW P t (val T x) (val T i)).map (·,σ,nx):=rfl
def KN(i:Nat):V->Option V
 | .dw vs=>vs[i]?
 |_=>none
theorem D9(i:Nat)(vs:List V):KN i (.dw vs)=vs[i]?:=rfl
def D_(conv:FuncId->Conv)(call:Call)(args:List V)(σ:Store)(nx:Nat):V->jV
 | .clo g cs=>bP conv call g (args++cs) σ nx
 |_=>none
theorem yI(f:Operand)(args:Array Operand)(ts:Array TypeId):aK P conv call ⟨d,.call ⟨.value f,args,ts⟩,ty,ps,af,gd⟩ T σ nx=D_ conv call (args.toList.map (val T)) σ nx (val T f):=by
 simp only[aK];unfold D_;rfl
theorem kQ(args:List V)(σ:Store)(nx:Nat)(g:FuncId)(cs:List V):D_ conv call args σ nx (.clo g cs)=bP conv call g (args++cs) σ nx:=rfl
theorem IQ(x:Operand)(t:TypeId):aK P conv call ⟨d,.call ⟨.builtin .len,#[x],#[t]⟩,ty,ps,af,gd⟩ T σ nx=(dN P t (val T x)).map (·,σ,nx):=rfl
theorem Gg(a x:Operand)(t u:TypeId):aK P conv call ⟨d,.call ⟨.builtin .copy,#[a,x],#[t,u]⟩,ty,ps,af,gd⟩ T σ nx=jk P #[t,u] (val T a) (val T x) σ nx:=rfl
theorem Ea(a:Operand)(t:TypeId):aK P conv call ⟨d,.call ⟨.builtin .clear,#[a],#[t]⟩,ty,ps,af,gd⟩ T σ nx=fM P #[t] (val T a) σ nx:=rfl
theorem kR(a x:Operand)(t u:TypeId):aK P conv call ⟨d,.call ⟨.builtin .append,#[a,x],#[t,u]⟩,ty,ps,af,gd⟩ T σ nx=cZ P #[t,u] (val T a) (val T x) σ nx:=rfl
end
def nY:Option St->Option (Ex×St)
 |some s=>some (.norm,s)
 |none=>none
theorem rE(s:St):nY (some s)=some (.norm,s):=rfl
def gW(id:Nat):Option (Ex×St)->Option (Ex×St)
 |some (.exit j,s)=>if j=id then some (.norm,s)else some (.exit j,s)
 |r=>r
theorem nZ(id:Nat)(s:St):gW id (some (.norm,s))=some (.norm,s):=rfl
theorem rF(id:Nat)(s:St):gW id (some (.ret,s))=some (.ret,s):=rfl
theorem n_(id j:Nat)(s:St):gW id (some (.exit j,s))=if j=id then some (.norm,s)else some (.exit j,s):=rfl
noncomputable def Eb(body:St->Option (Ex×St)):Option (Ex×St)->Option (Ex×St)
 |some (.norm,s)=>aC body s
 |r=>r
theorem rG(body:St->Option (Ex×St))(s:St):Eb body (some (.norm,s))=aC body s:=rfl
theorem Bd(body:St->Option (Ex×St))(s:St):Eb body (some (.ret,s))=some (.ret,s):=rfl
theorem rH(body:St->Option (Ex×St))(i:Nat)(s:St):Eb body (some (.exit i,s))=some (.exit i,s):=rfl
def Bf(P:Program)(rs:List ResultVar):Option (Ex×St)->jV
 |some (.norm,st)=>(aH P st.T st.σ rs).map fun vs=>(oneOf vs,st.σ,st.nx)
 |some (.ret,st)=>(aH P st.T st.σ rs).map fun vs=>(oneOf vs,st.σ,st.nx)
 |_=>none
theorem og(rs:List ResultVar)(body:Code)(s:St):nP P conv call rs body s=Bf P rs (aF P conv call body s):=by
 unfold nP Bf;cases aF P conv call body s with
 |none=>rfl
 |some q=>
  obtain⟨e,st⟩:=q;cases e<;>simp only<;>cases aH P st.T st.σ rs<;>rfl
theorem Bg(rs:List ResultVar)(T:Nat->V)(σ:Store)(nx:Nat):Bf P rs (some (.norm,⟨T,σ,nx⟩))=(aH P T σ rs).map fun vs=>(oneOf vs,σ,nx):=rfl
theorem Ec(rs:List ResultVar)(T:Nat->V)(σ:Store)(nx:Nat):Bf P rs (some (.ret,⟨T,σ,nx⟩))=(aH P T σ rs).map fun vs=>(oneOf vs,σ,nx):=rfl
theorem Ed(T:Nat->V)(σ:Store)(t:Tmp):aH P T σ [.tmp t]=some [T t]:=rfl
theorem Gh(T:Nat->V)(σ:Store):aH P T σ []=some []:=rfl
theorem Ee(T:Nat->V)(σ:Store)(t u:Tmp):aH P T σ [.tmp t,.tmp u]=some [T t,T u]:=rfl
theorem Ef(T:Nat->V)(σ:Store)(t u v:Tmp):aH P T σ [.tmp t,.tmp u,.tmp v]=some [T t,T u,T v]:=rfl
theorem Bh(T:Nat->V)(σ:Store)(a:Tmp)(t:TypeId):aH P T σ [.cell a t]=(aO P σ t (T a)).map fun v=>[v]:=by
 simp only[aH];cases aO P σ t (T a)<;>rfl
theorem Bj(v:V):oneOf [v]=v:=rfl
theorem Bl(u v:V):oneOf [u,v]= .dw [u,v]:=rfl
theorem oh(u v w:V):oneOf [u,v,w]= .dw [u,v,w]:=rfl
theorem rJ:oneOf []= .dw []:=rfl
theorem Bq(l:List V)(i:Nat):dP l i=(l[i]?).getD (.dw []):=rfl
theorem Bv(k:IntKind)(n:Int):dY (.int k n)= .sc (.int k n):=rfl
theorem rM(b:Bool):dY (.bool b)= .sc (.bool b):=rfl
theorem lW(s:ByteArray):dY (.string s)= .sc (.string s):=rfl
theorem rO:dY (.pointer none)= .sc (.pointer none):=rfl
theorem rP:dY (.slice none 0 0)= .nil:=rfl
theorem Bz(l:List Value):dY (.agg l.toArray)= .agg (l.map aX):=rfl
end
end Go.TV
namespace Go.TV
set_option linter.unusedVariables false
set_option linter.unusedSimpArgs false
variable [Known]
section
variable {P:Program} {conv:FuncId->Conv} {call:Call}
def bQ(P:Program)(conv:FuncId->Conv)(call:Call)(ops:Array Oper):List Oper->St->Option St
 |[],s=>some s
 |o :: rest,s=>match bC ops s.T o with
  |some true=>match aI P conv call o s.T s.σ s.nx with
   |some (v,σ',nx')=>bQ P conv call ops rest ⟨bK s.T o.dst v,σ',nx'⟩
   |none=>none
  |some false=>bQ P conv call ops rest ⟨bK s.T o.dst (.dw []),s.σ,s.nx⟩
  |none=>none
theorem gX(ops:Array Oper):∀(l:List Oper) (s:St),bQ P conv call ops l s=(aQ P conv call ops l s).map (·.1)
 |[],s=>rfl
 |o :: l,s=>by
  unfold bQ aQ;cases bC ops s.T o with
  |none=>rfl
  |some b=>
   cases b with
   |true=>
    simp only;cases aI P conv call o s.T s.σ s.nx with
    |none=>rfl
    |some q=>
     obtain⟨v,σ',nx'⟩:=q;simp only;rw[gX ops l];cases aQ P conv call ops l ⟨bK s.T o.dst v,σ',nx'⟩<;>rfl
   |false=>
    simp only;rw[gX ops l];cases aQ P conv call ops l ⟨bK s.T o.dst (.dw []),s.σ,s.nx⟩<;>rfl
def gY(conv:FuncId->Conv)(ops:Array Oper):Bool:=nC ops && (eU conv ops.toList).isEmpty
theorem lX{ops:Array Oper}(h:gY conv ops=true)(s:St):bD P conv call ops s=bQ P conv call ops ops.toList s:=by
 unfold gY at h;rw[zU]at h;have D:eU conv ops.toList=[]:=by simpa using h.2
 unfold bD;rw[yC h.1,gX,D];cases aQ P conv call ops ops.toList s with
 |none=>rfl
 |some q=>obtain⟨s',fs⟩:=q;rfl
def fP(af:Array Edge)(i:Nat):Bool:=af.any fun e=>Region.binds .any e && e.on==i
def H_(af:Array Edge)(w:Bool)(ids:List Nat):List (Nat×Bool×List Nat)->Bool
 |[]=>true
 |p :: acc=>(if(w||p.2.1)=true then(if fP af p.1=true then true else p.2.2.all fun b=> !ids.contains b)else true) && H_ af w ids acc
def okF(af:Array Edge)(acc:List (Nat×Bool×List Nat))(w:Bool):List Nat->Bool
 |[]=>true
 |b :: bs=>H_ af w (b :: bs) acc
def oq(acc:List (Nat×Bool×List Nat))(k:Nat)(w:Bool):List Nat->List (Nat×Bool×List Nat)
 |[]=>acc
 |b :: bs=>acc++[(k,w,b :: bs)]
def bT(P:Program)(conv:FuncId->Conv)(call:Call)(ops:Array Oper):List Oper->Nat->List (Nat×Bool×List Nat)->St->Option St
 |[],_,_,s=>some s
 |o :: rest,k,acc,s=>match bC ops s.T o with
  |some true=>if okF o.after acc (writer conv o) (ak conv s.T s.σ o)=true then(match aI P conv call o s.T s.σ s.nx with
   |some (v,σ',nx')=>bT P conv call ops rest (k+1) (oq acc k (writer conv o) (ak conv s.T s.σ o)) ⟨bK s.T o.dst v,σ',nx'⟩
   |none=>none)else none
  |some false=>bT P conv call ops rest (k+1) acc ⟨bK s.T o.dst (.dw []),s.σ,s.nx⟩
  |none=>none
def Apart(l:List Oper)(h:List (Bool×List Nat)):Prop:=∀(i j:Nat) o p q,i<j->l[j]?=some o->h[i]?=some p->h[j]?=some q->(q.1||p.1)=true->dL o i≠true->∀b∈p.2,b∉q.2
def Told(h:List (Bool×List Nat))(acc:List (Nat×Bool×List Nat)):Prop:=∀(i:Nat) p,h[i]?=some p->p.2≠[]->(i,p.1,p.2)∈acc
theorem ou{af:Array Edge}{w:Bool}{ids:List Nat}:∀ {acc:List (Nat×Bool×List Nat)},H_ af w ids acc=true->∀p∈acc,(w||p.2.1)=true->fP af p.1≠true->∀b∈p.2.2,b∉ids
 |[],_,p,D,_,_,_,_=>by cases D
 |q :: acc,h,p,D,hw,he,b,hb=>by
  unfold H_ at h;rw[zU]at h;rcases List.mem_cons.mp D with rfl|D
  .have E:=h.1
   rw[yC hw,yD he]at E;have:=List.all_eq_true.mp E b hb
   simpa using this
  .exact ou h.2 p D hw he b hb
theorem jw{l:List Oper}{o:Oper}{J:List (Bool×List Nat)}{acc:List (Nat×Bool×List Nat)}{w:Bool}{ids:List Nat}(S:l.length=J.length)(h:Apart l J)(U:Told J acc)(Y:okF o.after acc w ids=true):Apart (l++[o]) (J++[(w,ids)]):=by
 intro i j o' p q K D M E O R b N G;rcases Nat.lt_trichotomy j J.length with hj|hj|hj
 .rw[zl hj]at E
  rw[zl (by omega)]at M;rw[zl (by omega)]at D;exact h i j o' p q K D M E O R b N G
 .subst hj
  rw[zk (zu _),Nat.sub_self]at E;simp only[yZ,yF]at E;subst E;rw[zl K]at M;rw[zk (by omega),S,Nat.sub_self]at D;simp only[yZ,yF]at D;subst D;cases ids with
  |nil=>cases G
  |cons c cs=>exact ou Y _ (U i p M (fun e=>by rw[e]at N;cases N)) O R b N G
 .rw[yw (by simp;omega)]at E
  cases E
theorem kS{q:List (Bool×List Nat)}{acc:List (Nat×Bool×List Nat)}(J:Told q acc)(w:Bool)(ids:List Nat):Told (q++[(w,ids)]) (oq acc q.length w ids):=by
 intro i p h D;have E:∀x,x∈acc->x∈oq acc q.length w ids:=fun x G=>by cases ids with
  |nil=>exact G
  |cons c cs=>exact zf _ G
 rcases Nat.lt_trichotomy i q.length with hi|hi|hi
 .rw[zl hi]at h
  exact E _ (J i p h D)
 .subst hi
  rw[zk (zu _),Nat.sub_self]at h;simp only[yZ,yF]at h;subst h;cases ids with
  |nil=>exact absurd rfl D
  |cons c cs=>exact zQ _ (by simp)
 .rw[yw (by simp;omega)]at h
  cases h
theorem wY(ops:Array Oper):∀(l pre:List Oper) (k:Nat) (D:List (Bool×List Nat)) (acc:List (Nat×Bool×List Nat)) (s s':St),k=D.length->pre.length=D.length->Apart pre D->Told D acc->bT P conv call ops l k acc s=some s' ->
  ∃fs,aQ P conv call ops l s=some (s',fs)/\fs.length=l.length/\Apart (pre++l) (D++(l.zip fs).map fun p=>(writer conv p.1,p.2))
 |[],pre,k,D,acc,s,s',hk,hl,ha,ht,h=>by
  unfold bT at h;cases h;exact⟨[],rfl,rfl,by simpa using ha⟩
 |o :: l,pre,k,D,acc,s,s',hk,hl,ha,ht,h=>by
  unfold bT at h;unfold aQ;cases M:bC ops s.T o with
  |none=>rw[M]at h;cases h
  |some b=>
   rw[M]at h;cases b with
   |true=>
    simp only at h⊢
    by_cases E:okF o.after acc (writer conv o) (ak conv s.T s.σ o)=true
    .rw[yC E]at h
     cases N:aI P conv call o s.T s.σ s.nx with
     |none=>rw[N]at h;cases h
     |some q=>
      obtain⟨v,σ',nx'⟩:=q;rw[N]at h;subst hk;obtain⟨fs,G,J,K⟩:=wY ops l (pre++[o]) _ (D++[(writer conv o,ak conv s.T s.σ o)]) _ _ s' (by simp) (by simp[hl]) (jw hl ha ht E) (kS ht _ _) h;refine⟨ak conv s.T s.σ o :: fs,?_,by simp[J],by simpa using K⟩;simp only;rw[G]
    .rw[yD E]at h;cases h
   |false=>
    simp only at h⊢;subst hk;obtain⟨fs,G,J,K⟩:=wY ops l (pre++[o]) _ (D++[(writer conv o,[])]) _ _ s' (by simp) (by simp[hl]) (jw hl ha ht rfl) (kS ht _ []) h;refine⟨[] :: fs,?_,by simp[J],by simpa using K⟩;rw[G]
theorem jZ{l:List Oper}{fs:List (List Nat)}(hl:fs.length=l.length)(h:Apart l ((l.zip fs).map fun p=>(writer conv p.1,p.2))):lH fs (eU conv l)=true:=by
 unfold lH;refine List.all_eq_true.mpr ?_;rintro ⟨i,j⟩ J;unfold eU at J;simp only[List.mem_flatMap,List.mem_filterMap]at J;obtain⟨⟨o,K⟩,hj,⟨p,M⟩,hi,q⟩:=J;simp only at q
 split at q
 .cases q
 .rename_i KO
  split at q
  .rename_i N
   simp only[yF,yE]at q;obtain⟨rfl,rfl⟩:=q;have O:=List.mem_zipIdx' hj;have R:=List.mem_zipIdx' hi;obtain⟨D,U⟩:=O;obtain⟨S,E⟩:=R;simp only[zM]at S;refine List.all_eq_true.mpr fun b Y=>?_
   have G:M<fs.length:=by omega
   have LX:K<fs.length:=by omega
   rw[zo G,yV]at Y;rw[zo LX,yV];have hz:∀(k:Nat) (h1:k<l.length) (h2:k<fs.length),((l.zip fs).map fun p=>(writer conv p.1,p.2))[k]?=some (writer conv l[k],fs[k]):=by
    intro k h1 h2;rw[yY,zo (by simp;omega)];simp
   have:=h M K o _ _ (by omega) (by rw[zo D,U]) (hz M (by omega) G) (hz K D LX) (by
    rw[List.getElem_take]at E;rw[<- U,<- E];exact N) KO b Y
   simpa using this
  .cases q
def jy(P:Program)(conv:FuncId->Conv)(call:Call)(ops:Array Oper)(s0:St):Option St->Option St
 |some s=>some s
 |none=>bD P conv call ops s0
theorem Eh{ops:Array Oper}(E:nC ops=true)(s:St):jy P conv call ops s (bT P conv call ops ops.toList 0 [] s)=bD P conv call ops s:=by
 cases h:bT P conv call ops ops.toList 0 [] s with
 |none=>rfl
 |some s'=>
  obtain⟨fs,G,J,K⟩:=wY ops ops.toList [] 0 [] [] s s' rfl rfl (by intro i j o p q _ _ D;simp at D) (by intro i p D;simp at D) h;unfold jy bD;rw[yC E,G];simp only;rw[yC (jZ J (by simpa using K))]
def aW(conv:FuncId->Conv)(ex:List Nat):Code->Bool
 | .region id ops draw=> !draw||(ex.contains id && nC ops)||gY conv ops
 | .seq a b=>aW conv ex a && aW conv ex b
 | .cond _ a b=>aW conv ex a && aW conv ex b
 | .block _ c=>aW conv ex c
 | .loop c=>aW conv ex c
 |_=>true
noncomputable def dQ(P:Program)(conv:FuncId->Conv)(call:Call)(ex:List Nat):Code->St->Option (Ex×St)
 | .skip,s=>some (.norm,s)
 | .region id ops draw,s=>nY (if draw then(if id∈ex then jy P conv call ops s (bT P conv call ops ops.toList 0 [] s)else bQ P conv call ops ops.toList s)else bf P conv call ops ops.toList s)
 | .seq a b,s=>match dQ P conv call ex a s with
  |some (.norm,s')=>dQ P conv call ex b s'
  |r=>r
 | .cond c a b,s=>match val s.T c with
  | .sc (.bool true)=>dQ P conv call ex a s
  | .sc (.bool false)=>dQ P conv call ex b s
  |_=>none
 | .block id c,s=>gW id (dQ P conv call ex c s)
 | .loop c,s=>aC (dQ P conv call ex c) s
 | .exit id,s=>some (.exit id,s)
 | .ret,s=>some (.ret,s)
 |_,_=>none
theorem Ei{ex:List Nat}:∀(c:Code),aW conv ex c=true->∀s,aF P conv call c s=dQ P conv call ex c s:=by
 intro c
 induction c with
 |region id ops draw=>
  intro h s;simp only[aW,dQ,aF]at *;cases draw with
  |false=>simp only[zO,if_false];cases bf P conv call ops ops.toList s<;>rfl
  |true=>
   simp only[if_true]
   by_cases D:id∈ex
   .rw[yC D]
    by_cases K:nC ops=true
    .rw[Eh K];cases bD P conv call ops s<;>rfl
    .have J:gY conv ops=true:=by simpa[K]using h
     unfold gY at J;rw[zU]at J;exact absurd J.1 K
   .rw[yD D]
    have J:gY conv ops=true:=by simpa[D]using h
    rw[lX J];cases bQ P conv call ops ops.toList s<;>rfl
 |seq a b E G=>
  intro h s;simp only[aW,zU]at h;simp only[dQ,aF];rw[E h.1];cases dQ P conv call ex a s with
  |none=>rfl
  |some q=>obtain⟨e,s'⟩:=q;cases e<;>first|exact G h.2 s'|rfl
 |cond v a b E G=>
  intro h s;simp only[aW,zU]at h;simp only[dQ,aF,E h.1,G h.2]
  all_goals rfl
 |block id c M=>
  intro h s;simp only[aW]at h;simp only[dQ,aF,gW];rw[M h]
  all_goals rfl
 |loop c M=>
  intro h s;simp only[aW]at h;simp only[dQ,aF];rw[show aF P conv call c=dQ P conv call ex c from funext (M h)]
 |_=>intro h s;rfl
noncomputable def sK(P:Program)(conv:FuncId->Conv)(call:Call)(ex:List Nat)(b:Code):Option (Ex×St)->Option (Ex×St)
 |some (.norm,s)=>dQ P conv call ex b s
 |r=>r
variable {ex:List Nat}
theorem JF(a b:Code)(s:St):dQ P conv call ex (.seq a b) s=sK P conv call ex b (dQ P conv call ex a s):=by
 show(match dQ P conv call ex a s with|some (.norm,s')=>dQ P conv call ex b s'|r=>r)=_;unfold sK;rfl
theorem Gi(b:Code)(s:St):sK P conv call ex b (some (.norm,s))=dQ P conv call ex b s:=rfl
theorem IU(b:Code)(s:St):sK P conv call ex b (some (.ret,s))=some (.ret,s):=rfl
theorem Gj(b:Code)(i:Nat)(s:St):sK P conv call ex b (some (.exit i,s))=some (.exit i,s):=rfl
theorem Ej(id:Nat)(l:List Oper)(s:St):dQ P conv call ex (.region id l.toArray false) s=nY (bf P conv call l.toArray l s):=rfl
theorem IV(id:Nat)(l:List Oper)(s:St):dQ P conv call [] (.region id l.toArray true) s=nY (bQ P conv call l.toArray l s):=rfl
theorem IW(s:St):dQ P conv call ex .skip s=some (.norm,s):=rfl
theorem JG(s:St):dQ P conv call ex .ret s=some (.ret,s):=rfl
theorem IX(i:Nat)(s:St):dQ P conv call ex (.exit i) s=some (.exit i,s):=rfl
noncomputable def cK(P:Program)(conv:FuncId->Conv)(call:Call)(ex:List Nat)(a b:Code)(s:St):V->Option (Ex×St)
 | .sc (.bool true)=>dQ P conv call ex a s
 | .sc (.bool false)=>dQ P conv call ex b s
 |_=>none
theorem IY(c:Operand)(a b:Code)(T:Nat->V)(σ:Store)(nx:Nat):dQ P conv call ex (.cond c a b) ⟨T,σ,nx⟩=cK P conv call ex a b ⟨T,σ,nx⟩ (val T c):=by
 show(match val T c with| .sc (.bool true)=>_| .sc (.bool false)=>_|_=>none)=_;unfold cK;rfl
theorem Gl(a b:Code)(s:St):cK P conv call ex a b s (.sc (.bool true))=dQ P conv call ex a s:=rfl
theorem Em(a b:Code)(s:St):cK P conv call ex a b s (.sc (.bool false))=dQ P conv call ex b s:=rfl
theorem Gm(id:Nat)(c:Code)(s:St):dQ P conv call ex (.block id c) s=gW id (dQ P conv call ex c s):=rfl
theorem IZ(c:Code)(s:St):dQ P conv call ex (.loop c) s=aC (dQ P conv call ex c) s:=rfl
theorem KP{ext:Ext}{f:FuncId}{fn:Func}{body:Code}{rs:List ResultVar}(ex:List Nat)(q:ext f=none)(D:P.funcs[f]?=some fn)(E:fn.body=some body)(G:fn.results.toList=rs){args:List V}(h:Aq fn body args.length=true)(J:aW conv ex body=true)(σ:Store)(nx:Nat) :
  ev P conv ext f args σ nx=Bf P rs (dQ P conv (ev P conv ext) ex body ⟨dP args,σ,nx⟩):=by
 rw[H9 q D E G h,og,Ei body J]
theorem wU{ext:Ext}{f:FuncId}{fn:Func}{body:Code}(rs:List ResultVar)(ex:List Nat)(q:P.funcs[f]?=some fn)(D:ext f=none:=by rfl)(E:fn.body=some body:=by rfl)(G:fn.results.toList=rs:=by rfl){args:List V}(h:Aq fn body args.length=true:=by kernel_rfl)(J:aW conv ex body=true:=by kernel_rfl)(σ:Store)(nx:Nat) :
  ev P conv ext f args σ nx=Bf P rs (dQ P conv (ev P conv ext) ex body ⟨dP args,σ,nx⟩):=by
 rw[H9 D q E G h,og,Ei body J]
theorem rQ(ops:Array Oper)(s0 s:St):jy P conv call ops s0 (some s)=some s:=rfl
def iH(P:Program)(conv:FuncId->Conv)(call:Call)(id:Nat)(l:List Oper)(s:St):List Nat->Option St
 |[]=>bQ P conv call l.toArray l s
 |i :: ex=>if id=i then jy P conv call l.toArray s (bT P conv call l.toArray l 0 [] s)else iH P conv call id l s ex
theorem oz(id:Nat)(l:List Oper)(s:St):∀ex:List Nat,iH P conv call id l s ex=if id∈ex then jy P conv call l.toArray s (bT P conv call l.toArray l 0 [] s)else bQ P conv call l.toArray l s
 |[]=>by simp[iH]
 |i :: ex=>by
  unfold iH;rw[oz id l s ex]
  by_cases h:id=i
  .rw[yC h,yC (by simp[h])]
  .rw[yD h]
   by_cases q:id∈ex
   .rw[yC q,yC (by simp[q])]
   .rw[yD q,yD (by simp[h,q])]
theorem Gn(i:Nat)(ex:List Nat)(id:Nat)(l:List Oper)(s:St):dQ P conv call (i :: ex) (.region id l.toArray true) s=nY (iH P conv call id l s (i :: ex)):=by
 rw[oz];rfl
theorem BA(id:Nat)(l:List Oper)(s:St):iH P conv call id l s []=bQ P conv call l.toArray l s:=rfl
theorem rU(id:Nat)(l:List Oper)(s:St)(i:Nat)(ex:List Nat):iH P conv call id l s (i :: ex)=if id=i then jy P conv call l.toArray s (bT P conv call l.toArray l 0 [] s)else iH P conv call id l s ex:=rfl
def oC(P:Program)(conv:FuncId->Conv)(call:Call)(ops:Array Oper)(rest:List Oper)(k:Nat)(acc:List (Nat×Bool×List Nat))(T:Nat->V)(d:Option Tmp):jV->Option St
 |some (v,σ,nx)=>bT P conv call ops rest k acc ⟨bK T d v,σ,nx⟩
 |none=>none
def Ia(P:Program)(conv:FuncId->Conv)(call:Call)(ops:Array Oper)(rest:List Oper)(k:Nat)(acc:List (Nat×Bool×List Nat))(o:Oper)(s:St):Option Bool->Option St
 |some true=>if okF o.after acc (writer conv o) (ak conv s.T s.σ o)=true then oC P conv call ops rest (k+1) (oq acc k (writer conv o) (ak conv s.T s.σ o)) s.T o.dst (aI P conv call o s.T s.σ s.nx)else none
 |some false=>bT P conv call ops rest (k+1) acc ⟨bK s.T o.dst (.dw []),s.σ,s.nx⟩
 |none=>none
theorem rV(ops:Array Oper)(k:Nat)(acc:List (Nat×Bool×List Nat))(s:St):bT P conv call ops [] k acc s=some s:=rfl
theorem oD(ops:Array Oper)(k:Nat)(acc:List (Nat×Bool×List Nat))(d:Option Tmp)(op:Op)(ty:TypeId)(ps:String)(af:Array Edge)(rest:List Oper)(T:Nat->V)(σ:Store)(nx:Nat) :
  bT P conv call ops (⟨d,op,ty,ps,af,none⟩ :: rest) k acc ⟨T,σ,nx⟩=if okF af acc (writer conv ⟨d,op,ty,ps,af,none⟩) (ak conv T σ ⟨d,op,ty,ps,af,none⟩)=true then oC P conv call ops rest (k+1) (oq acc k (writer conv ⟨d,op,ty,ps,af,none⟩) (ak conv T σ ⟨d,op,ty,ps,af,none⟩)) T d (aI P conv call ⟨d,op,ty,ps,af,none⟩ T σ nx)else none:=by
 show(if okF af acc (writer conv ⟨d,op,ty,ps,af,none⟩) (ak conv T σ ⟨d,op,ty,ps,af,none⟩)=true then(match aI P conv call ⟨d,op,ty,ps,af,none⟩ T σ nx with|some (v,σ',nx')=>_|none=>none)else none)=_;cases aI P conv call ⟨d,op,ty,ps,af,none⟩ T σ nx<;>rfl
theorem rW(ops:Array Oper)(rest:List Oper)(k:Nat)(acc:List (Nat×Bool×List Nat))(T:Nat->V)(d:Tmp)(v:V)(σ:Store)(nx:Nat):oC P conv call ops rest k acc T (some d) (some (v,σ,nx))=bT P conv call ops rest k acc ⟨upd T d v,σ,nx⟩:=rfl
theorem rX(ops:Array Oper)(rest:List Oper)(k:Nat)(acc:List (Nat×Bool×List Nat))(T:Nat->V)(v:V)(σ:Store)(nx:Nat):oC P conv call ops rest k acc T none (some (v,σ,nx))=bT P conv call ops rest k acc ⟨T,σ,nx⟩:=rfl
theorem rY(ops:Array Oper)(rest:List Oper)(k:Nat)(acc:List (Nat×Bool×List Nat))(d:Option Tmp)(op:Op)(ty:TypeId)(ps:String)(af:Array Edge)(g:Option (Nat×Bool))(T:Nat->V)(σ:Store)(nx:Nat) :
  Ia P conv call ops rest k acc ⟨d,op,ty,ps,af,g⟩ ⟨T,σ,nx⟩ (some true)=if okF af acc (writer conv ⟨d,op,ty,ps,af,g⟩) (ak conv T σ ⟨d,op,ty,ps,af,g⟩)=true then oC P conv call ops rest (k+1) (oq acc k (writer conv ⟨d,op,ty,ps,af,g⟩) (ak conv T σ ⟨d,op,ty,ps,af,g⟩)) T d (aI P conv call ⟨d,op,ty,ps,af,g⟩ T σ nx)else none:=rfl
theorem oG(ops:Array Oper)(rest:List Oper)(k:Nat)(acc:List (Nat×Bool×List Nat))(d:Tmp)(op:Op)(ty:TypeId)(ps:String)(af:Array Edge)(g:Option (Nat×Bool))(T:Nat->V)(σ:Store)(nx:Nat) :
  Ia P conv call ops rest k acc ⟨some d,op,ty,ps,af,g⟩ ⟨T,σ,nx⟩ (some false)=bT P conv call ops rest (k+1) acc ⟨upd T d (.dw []),σ,nx⟩:=rfl
theorem Gp(af:Array Edge)(acc:List (Nat×Bool×List Nat))(w:Bool):okF af acc w []=true:=id rfl
theorem En(af:Array Edge)(acc:List (Nat×Bool×List Nat))(w:Bool)(b:Nat)(h:List Nat):okF af acc w (b :: h)=H_ af w (b :: h) acc:=id rfl
theorem Gq(af:Array Edge)(w:Bool)(ids:List Nat):H_ af w ids []=true:=id rfl
theorem Eo(af:Array Edge)(w:Bool)(ids:List Nat)(i:Nat)(v:Bool)(h:List Nat)(acc:List (Nat×Bool×List Nat)):H_ af w ids ((i,v,h) :: acc)=((if(w||v)=true then(if fP af i=true then true else h.all fun b=> !ids.contains b)else true) && H_ af w ids acc):=id rfl
theorem Ep(acc:List (Nat×Bool×List Nat))(k:Nat)(w:Bool):oq acc k w []=acc:=id rfl
theorem BD(acc:List (Nat×Bool×List Nat))(k:Nat)(w:Bool)(b:Nat)(h:List Nat):oq acc k w (b :: h)=acc++[(k,w,b :: h)]:=id rfl
theorem BF(i:Nat):fP #[] i=false:=by simp[fP]
theorem rZ(e:Edge)(es:List Edge)(i:Nat):fP (e :: es).toArray i=if(e.on==i)=true then(if Region.binds .any e=true then true else fP es.toArray i)else fP es.toArray i:=by
 unfold fP;rw[List.any_toArray,List.any_toArray,List.any_cons];cases e.on==i<;>cases Region.binds .any e<;>simp
theorem r_(i:Nat):Region.binds .any ⟨i,.data⟩=true:=id rfl
theorem oH(i:Nat):Region.binds .any ⟨i,.phase⟩=true:=id rfl
theorem oI(i:Nat):Region.binds .any ⟨i,.chain⟩=true:=id rfl
theorem oJ(i:Nat):Region.binds .any ⟨i,.guard⟩=true:=id rfl
theorem su(i:Nat)(d:Departure):Region.binds .any ⟨i,.textOnly d⟩=false:=id rfl
theorem Es(i:Nat)(d:Departure):Region.binds .any ⟨i,.gcOnly d⟩=false:=id rfl
section
variable (d:Option Tmp) (ty:TypeId) (ps:String) (af:Array Edge) (gd:Option (Nat×Bool)) (T:Nat->V) (σ:Store)
theorem Gs(t:TypeId)(a x:Operand):writer conv ⟨d,.store t a x,ty,ps,af,gd⟩=true:=id rfl
theorem sD(t:TypeId)(a x:Operand):ak conv T σ ⟨d,.store t a x,ty,ps,af,gd⟩=aB (val T a):=rfl
theorem BG(t:TypeId)(a:Operand):ak conv T σ ⟨d,.load t a,ty,ps,af,gd⟩=aB (val T a):=rfl
theorem I4(t:TypeId)(a:Operand):writer conv ⟨d,.load t a,ty,ps,af,gd⟩=false:=id rfl
theorem Gt(b off:Nat):aB (.rp b off)=[b]:=rfl
theorem Gu(b off len:Nat):aB (.rs b off len)=[b]:=rfl
theorem Gv(row:List V)(off:Nat):aB (.tp row off)=[]:=rfl
theorem Gw(row:List V)(off:Nat):aB (.ts row off)=[]:=rfl
theorem Gx(v:Value):aB (.sc v)=[]:=rfl
theorem Et:aB .nil=[]:=rfl
theorem Eu(vs:List V):aB (.agg vs)=[]:=rfl
theorem BH(x:Operand):ak conv T σ ⟨d,.move x,ty,ps,af,gd⟩=[]:=rfl
theorem I5(x:Operand):writer conv ⟨d,.move x,ty,ps,af,gd⟩=false:=id rfl
theorem oK(x:Operand):ak conv T σ ⟨d,.assign x,ty,ps,af,gd⟩=[]:=rfl
theorem Ew(x:Operand):writer conv ⟨d,.assign x,ty,ps,af,gd⟩=false:=id rfl
theorem BI(c a b:Operand):ak conv T σ ⟨d,.pick c a b,ty,ps,af,gd⟩=[]:=rfl
theorem I7(c a b:Operand):writer conv ⟨d,.pick c a b,ty,ps,af,gd⟩=false:=id rfl
theorem j_(x:Operand):ak conv T σ ⟨d,.nilCheck x,ty,ps,af,gd⟩=[]:=rfl
theorem sF(x:Operand):writer conv ⟨d,.nilCheck x,ty,ps,af,gd⟩=false:=id rfl
theorem sG(op:BinOp)(t:TypeId)(x y:Operand)(h:TypeId):ak conv T σ ⟨d,.binOp op t x y h,ty,ps,af,gd⟩=[]:=rfl
theorem Gy(op:BinOp)(t:TypeId)(x y:Operand)(h:TypeId):writer conv ⟨d,.binOp op t x y h,ty,ps,af,gd⟩=false:=id rfl
theorem BJ(op:UnOp)(t:TypeId)(x:Operand):ak conv T σ ⟨d,.unOp op t x,ty,ps,af,gd⟩=[]:=rfl
theorem I8(op:UnOp)(t:TypeId)(x:Operand):writer conv ⟨d,.unOp op t x,ty,ps,af,gd⟩=false:=id rfl
theorem jA(t:TypeId)(x:Operand)(f:Nat):ak conv T σ ⟨d,.fieldAddr t x f,ty,ps,af,gd⟩=[]:=rfl
theorem oL(t:TypeId)(x:Operand)(f:Nat):writer conv ⟨d,.fieldAddr t x f,ty,ps,af,gd⟩=false:=id rfl
theorem sH(t:TypeId)(x:Operand)(f:Nat):ak conv T σ ⟨d,.field t x f,ty,ps,af,gd⟩=[]:=rfl
theorem Gz(t:TypeId)(x:Operand)(f:Nat):writer conv ⟨d,.field t x f,ty,ps,af,gd⟩=false:=id rfl
theorem jB(t:TypeId)(x i:Operand):ak conv T σ ⟨d,.indexAddr t x i,ty,ps,af,gd⟩=[]:=rfl
theorem oM(t:TypeId)(x i:Operand):writer conv ⟨d,.indexAddr t x i,ty,ps,af,gd⟩=false:=id rfl
theorem sJ(t:TypeId)(x i:Operand):ak conv T σ ⟨d,.index t x i,ty,ps,af,gd⟩=[]:=rfl
theorem GH(t:TypeId)(x i:Operand):writer conv ⟨d,.index t x i,ty,ps,af,gd⟩=false:=id rfl
theorem lY(x:Operand)(i:Nat):ak conv T σ ⟨d,.extract x i,ty,ps,af,gd⟩=[]:=rfl
theorem BK(x:Operand)(i:Nat):writer conv ⟨d,.extract x i,ty,ps,af,gd⟩=false:=id rfl
theorem Ey(x:Operand)(t:TypeId):ak conv T σ ⟨d,.call ⟨.builtin .len,#[x],#[t]⟩,ty,ps,af,gd⟩=[]:=rfl
theorem JH(x:Operand)(t:TypeId):writer conv ⟨d,.call ⟨.builtin .len,#[x],#[t]⟩,ty,ps,af,gd⟩=false:=id rfl
theorem sN(t:TypeId)(parts:Array (Nat×Operand)):ak conv T σ ⟨d,.build t parts,ty,ps,af,gd⟩=[]:=rfl
theorem GI(t:TypeId)(parts:Array (Nat×Operand)):writer conv ⟨d,.build t parts,ty,ps,af,gd⟩=false:=id rfl
theorem ku(f:FuncId)(cap:Array Operand):ak conv T σ ⟨d,.makeFunc (.func f) #[] cap,ty,ps,af,gd⟩=[]:=rfl
theorem sO(f:FuncId)(cap:Array Operand):writer conv ⟨d,.makeFunc (.func f) #[] cap,ty,ps,af,gd⟩=false:=id rfl
theorem sQ(t:TypeId):ak conv T σ ⟨d,.alloc t,ty,ps,af,gd⟩=[]:=rfl
theorem GK(t:TypeId):writer conv ⟨d,.alloc t,ty,ps,af,gd⟩=false:=id rfl
theorem Ez(t:TypeId)(x:Operand):ak conv T σ ⟨d,.box t x,ty,ps,af,gd⟩=[]:=rfl
theorem JI(t:TypeId)(x:Operand):writer conv ⟨d,.box t x,ty,ps,af,gd⟩=false:=id rfl
theorem I9{g:FuncId}(h:conv g= .qp)(args:Array Operand)(ts:Array TypeId):writer conv ⟨d,.call ⟨.value (.func g),args,ts⟩,ty,ps,af,gd⟩=false:=by unfold writer;simp only[h]
theorem kT{g:FuncId}(h:conv g≠ .inl)(args:Array Operand)(ts:Array TypeId):b_ conv T σ ⟨d,.call ⟨.value (.func g),args,ts⟩,ty,ps,af,gd⟩=(stripL (strip σ depth) (args.toList.map (val T))).map (·.2):=by
 simp only[b_,val,yN,kL];cases q:conv g with
 |inl=>exact absurd q h
 |own=>cases stripL (strip σ depth) (args.toList.map (val T))<;>rfl
 |qp=>cases stripL (strip σ depth) (args.toList.map (val T))<;>rfl
theorem BL{g:FuncId}(h:conv g= .qp)(args:Array Operand)(ts:Array TypeId):ak conv T σ ⟨d,.call ⟨.value (.func g),args,ts⟩,ty,ps,af,gd⟩=((stripL (strip σ depth) (args.toList.map (val T))).map (·.2)).getD []:=by
 unfold ak;rw[kT d ty ps af gd T σ (by rw[h];exact fun e=>by cases e)]
end
def oN(P:Program)(conv:FuncId->Conv)(call:Call)(ops:Array Oper)(rest:List Oper)(T:Nat->V)(d:Option Tmp):jV->Option St
 |some (v,σ,nx)=>bQ P conv call ops rest ⟨bK T d v,σ,nx⟩
 |none=>none
def Ib(P:Program)(conv:FuncId->Conv)(call:Call)(ops:Array Oper)(rest:List Oper)(o:Oper)(s:St):Option Bool->Option St
 |some true=>oN P conv call ops rest s.T o.dst (aI P conv call o s.T s.σ s.nx)
 |some false=>bQ P conv call ops rest ⟨bK s.T o.dst (.dw []),s.σ,s.nx⟩
 |none=>none
theorem sS(ops:Array Oper)(s:St):bQ P conv call ops [] s=some s:=rfl
theorem oO(ops:Array Oper)(d:Option Tmp)(op:Op)(ty:TypeId)(ps:String)(af:Array Edge)(rest:List Oper)(T:Nat->V)(σ:Store)(nx:Nat) :
  bQ P conv call ops (⟨d,op,ty,ps,af,none⟩ :: rest) ⟨T,σ,nx⟩=oN P conv call ops rest T d (aI P conv call ⟨d,op,ty,ps,af,none⟩ T σ nx):=by
 show(match aI P conv call ⟨d,op,ty,ps,af,none⟩ T σ nx with|some (v,σ',nx')=>_|none=>none)=_;cases aI P conv call ⟨d,op,ty,ps,af,none⟩ T σ nx<;>rfl
theorem sU(ops:Array Oper)(rest:List Oper)(T:Nat->V)(d:Tmp)(v:V)(σ:Store)(nx:Nat):oN P conv call ops rest T (some d) (some (v,σ,nx))=bQ P conv call ops rest ⟨upd T d v,σ,nx⟩:=rfl
theorem sV(ops:Array Oper)(rest:List Oper)(T:Nat->V)(v:V)(σ:Store)(nx:Nat):oN P conv call ops rest T none (some (v,σ,nx))=bQ P conv call ops rest ⟨T,σ,nx⟩:=rfl
theorem sW(ops:Array Oper)(rest:List Oper)(d:Option Tmp)(op:Op)(ty:TypeId)(ps:String)(af:Array Edge)(g:Option (Nat×Bool))(T:Nat->V)(σ:Store)(nx:Nat) :
  Ib P conv call ops rest ⟨d,op,ty,ps,af,g⟩ ⟨T,σ,nx⟩ (some true)=oN P conv call ops rest T d (aI P conv call ⟨d,op,ty,ps,af,g⟩ T σ nx):=rfl
theorem oP(ops:Array Oper)(rest:List Oper)(d:Tmp)(op:Op)(ty:TypeId)(ps:String)(af:Array Edge)(g:Option (Nat×Bool))(T:Nat->V)(σ:Store)(nx:Nat) :
  Ib P conv call ops rest ⟨some d,op,ty,ps,af,g⟩ ⟨T,σ,nx⟩ (some false)=bQ P conv call ops rest ⟨upd T d (.dw []),σ,nx⟩:=rfl
theorem sZ{σ:Store}{nx:Nat}{cells:List V}{st:Nat}:ay [] nx (nx+1) σ (bF (restrict σ []) nx cells st)=bF σ nx cells st:=by
 funext b;unfold ay bF upd restrict
 by_cases h:b=nx
 .subst h;simp
 .rw[yD (by simp;omega),yD h]
section
variable (d:Option Tmp) (ty:TypeId) (ps:String) (af:Array Edge) (gd:Option (Nat×Bool)) (T:Nat->V) (σ:Store) (nx:Nat)
omit d ty ps af gd T σ nx in
theorem gZ(T:Nat->V)(o:Oper)(v:V):keeps conv T o [] v=true:=by
 obtain⟨dst,op,type,pos,after,guard⟩:=o;cases op<;>simp only[keeps];rename_i c;obtain⟨callee,args,ts⟩:=c;cases callee with
 |value f=>
  cases h:val T f<;>simp only[h];rename_i g cs;cases q:conv g<;>simp
 |builtin b=>rfl
 |invoke r m=>rfl
theorem wu{o:Oper}{F:List Nat}(h:b_ conv T σ o=some F)(q:∀v,keeps conv T o F v=true):aI P conv call o T σ nx=if(F.all fun b=>decide (b<nx))=true then match aK P conv call o T (restrict σ F) nx with|some (v,σ1,gi)=>some (v,ay F nx gi σ σ1,gi)|none=>none else none:=by
 unfold aI;simp only[h,q,if_true];cases aK P conv call o T (restrict σ F) nx with
 |none=>rfl
 |some r=>rfl
theorem lZ{o:Oper}(q:b_ conv T σ o=some []){v:V}(h:∀σ,aK P conv call o T σ nx=some (v,σ,nx)):aI P conv call o T σ nx=some (v,σ,nx):=by
 rw[wu T σ nx q (gZ T o)];simp only[yS,if_true,h];rw[vX]
theorem vk{o:Oper}(q:b_ conv T σ o=some []){m:Option V}(h:∀σ,aK P conv call o T σ nx=m.map (·,σ,nx)):aI P conv call o T σ nx=m.map (·,σ,nx):=by
 cases m with
 |some v=>exact lZ T σ nx q h
 |none=>
  rw[wu T σ nx q (gZ T o)];simp only[yS,if_true,h,Option.map_none]
theorem zI{o:Oper}(q:b_ conv T σ o=some []){m:Option (List V×Nat×V)}(h:∀σ,aK P conv call o T σ nx=m.map fun p=>(p.2.2,bF σ nx p.1 p.2.1,nx+1)):aI P conv call o T σ nx=m.map fun p=>(p.2.2,bF σ nx p.1 p.2.1,nx+1):=by
 rw[wu T σ nx q (gZ T o)];simp only[yS,if_true,h];cases m with
 |none=>rfl
 |some p=>simp only[zh];rw[sZ]
theorem EC(x:Operand):aI P conv call ⟨d,.move x,ty,ps,af,gd⟩ T σ nx=some (val T x,σ,nx):=lZ T σ nx rfl fun _=>rfl
theorem tq(x:Operand):aI P conv call ⟨d,.assign x,ty,ps,af,gd⟩ T σ nx=some (val T x,σ,nx):=lZ T σ nx rfl fun _=>rfl
theorem l7(x:Operand):aI P conv call ⟨d,.nilCheck x,ty,ps,af,gd⟩ T σ nx=(DZ (val T x)).map (·,σ,nx):=vk T σ nx rfl fun σ=>iG d ty ps af gd T σ nx x
theorem BM(op:BinOp)(t:TypeId)(x y:Operand)(h:TypeId):aI P conv call ⟨d,.binOp op t x y h,ty,ps,af,gd⟩ T σ nx=(aT P op t x y (val T x) (val T y)).map (·,σ,nx):=vk T σ nx rfl fun _=>rfl
theorem ED(op:UnOp)(t:TypeId)(x:Operand):aI P conv call ⟨d,.unOp op t x,ty,ps,af,gd⟩ T σ nx=(qh P op (val T x)).map (·,σ,nx):=vk T σ nx rfl fun _=>rfl
theorem kC(t:TypeId)(x:Operand)(f:Nat):aI P conv call ⟨d,.fieldAddr t x f,ty,ps,af,gd⟩ T σ nx=(aS P t (val T x) f).map (·,σ,nx):=vk T σ nx rfl fun _=>rfl
theorem kD(t:TypeId)(x i:Operand):aI P conv call ⟨d,.indexAddr t x i,ty,ps,af,gd⟩ T σ nx=(bn P t (val T x) (val T i)).map (·,σ,nx):=vk T σ nx rfl fun _=>rfl
theorem BN(t:TypeId)(h:(aG P t).ok=true)(q:decide ((aG P t).zero.length=(aG P t).size)=true)(D:decide (0<(aG P t).size)=true)(E:Ii (aG P t).zero=false):aI P conv call ⟨d,.alloc t,ty,ps,af,gd⟩ T σ nx=some (.rp nx 0,bF σ nx (aG P t).zero 0,nx+1) :=
 zI (m:=some ((aG P t).zero,0,.rp nx 0)) T σ nx rfl fun σ=>nV d ty ps af gd T σ nx t h q D E
def jC(P:Program)(σ:Store)(nx:Nat)(t:TypeId):V->Option V
 | .rp b off=>if b<nx then aO P σ t (.rp b off)else none
 |v=>aO P σ t v
theorem EF(t:TypeId)(a:Operand):aI P conv call ⟨d,.load t a,ty,ps,af,gd⟩ T σ nx=(jC P σ nx t (val T a)).map (·,σ,nx):=by
 have key:∀b off,aO P (restrict σ [b]) t (.rp b off)=aO P σ t (.rp b off):=fun b off=>by
  unfold aO bW restrict;simp
 rw[wu (F:=aB (val T a)) T σ nx rfl (fun _=>rfl)];show(if((aB (val T a)).all fun b=>decide (b<nx))=true then match(aO P (restrict σ (aB (val T a))) t (val T a)).map (·,restrict σ (aB (val T a)),nx)with|some (v,σ1,gi)=>some (v,ay (aB (val T a)) nx gi σ σ1,gi)|none=>none else none)=_;cases q:val T a with
 |rp b off=>
  simp only[aB,List.all_cons,yS,Bool.and_true,decide_eq_true_eq,jC,key]
  by_cases h:b<nx
  .rw[yC h,yC h]
   cases aO P σ t (.rp b off)with
   |none=>rfl
   |some v=>simp only[zh,vY]
  .rw[yD h,yD h];rfl
 |tp row off=>
  simp only[aB,yS,if_true,jC];have:aO P (restrict σ []) t (.tp row off)=aO P σ t (.tp row off):=by unfold aO bW;rfl
  rw[this];cases aO P σ t (.tp row off)with
  |none=>rfl
  |some v=>simp only[zh,vX]
 |rs b off len=>
  have e:∀σ,aO P σ t (.rs b off len)=none:=fun σ=>by unfold aO bW;split<;>simp
  simp only[jC,e,Option.map_none]
  split<;>rfl
 |_=>
  simp only[aB,yS,if_true,jC];unfold aO bW;cases P.info? t<;>cases P.underlying t<;>simp
theorem EG(σ:Store)(nx:Nat)(t:TypeId)(row:List V)(off:Nat):jC P σ nx t (.tp row off)=aO P σ t (.tp row off):=rfl
theorem EH(σ:Store)(nx:Nat)(t:TypeId)(b off:Nat):jC P σ nx t (.rp b off)=if b<nx then aO P σ t (.rp b off)else none:=rfl
def l9(P:Program)(σ:Store)(nx:Nat)(t:TypeId)(v:V):V->Option Store
 | .rp b off=>if b<nx then bU P σ t (.rp b off) v else none
 |_=>none
theorem BO(t:TypeId)(a x:Operand):aI P conv call ⟨d,.store t a x,ty,ps,af,gd⟩ T σ nx=(l9 P σ nx t (val T x) (val T a)).map (.dw [],·,nx):=by
 rw[wu (F:=aB (val T a)) T σ nx rfl (fun _=>rfl)];show(if((aB (val T a)).all fun b=>decide (b<nx))=true then match(bU P (restrict σ (aB (val T a))) t (val T a) (val T x)).map (V.dw [],·,nx)with|some (v,σ1,gi)=>some (v,ay (aB (val T a)) nx gi σ σ1,gi)|none=>none else none)=_;cases D:val T a with
 |rp b off=>
  simp only[aB,List.all_cons,yS,Bool.and_true,decide_eq_true_eq,l9]
  by_cases q:b<nx
  .rw[yC q,yC q]
   unfold bU;have G:restrict σ [b] b=σ b:=by unfold restrict;simp
   cases P.info? t with
   |none=>rfl
   |some i=>
    cases cellsOfV (val T x)with
    |none=>rfl
    |some vs=>
     simp only[G];cases σ b with
     |none=>rfl
     |some B=>
      by_cases E:B.wr=true/\vs.length=i.size/\off+vs.length<=B.cells.length/\vs.all aZ=true
      .simp only[yC E,zh]
       congr 2;congr 1;funext c;unfold ay upd restrict
       by_cases h:c=b
       .subst h;simp
       .rw[yD (by simp[h]),yD h]
      .simp only[yD E,Option.map_none]
  .rw[yD q,yD q];rfl
 |_=>
  simp only[l9];have:bU P (restrict σ (aB (val T a))) t (val T a) (val T x)=none:=by
   rw[D];unfold bU;cases P.info? t<;>cases cellsOfV (val T x)<;>rfl
  rw[D]at this;rw[this];simp
theorem BP(σ:Store)(nx:Nat)(t:TypeId)(v:V)(b off:Nat):l9 P σ nx t v (.rp b off)=if b<nx then bU P σ t (.rp b off) v else none:=rfl
end
end
end Go.TV
namespace Go.TV
set_option linter.unusedVariables false
set_option linter.unusedSimpArgs false
variable [Known]
noncomputable def fn(P:Program)(conv:FuncId->Conv)(ext:Ext)(f:FuncId)(ts:List V):Option V :=
 match ev P conv ext f ts ah 0 with
 |some (v,σ1,_)=>(strip σ1 depth v).map (·.1)
 |none=>none
section
variable {P:Program} {conv:FuncId->Conv} {ext:Ext}
def behind(σ:Store)(ids:List Nat)(t:V):Store:=if ids.isEmpty||flat depth t then σ else fH σ ids
theorem oQ{f:FuncId}(h:conv f= .qp)(args:List V)(σ:Store)(nx:Nat):bP conv (ev P conv ext) f args σ nx=
  (stripL (strip σ depth) args).bind fun p=>(fn P conv ext f p.1).map fun t=>(t,behind σ p.2 t,nx):=by
 unfold bP fn behind;rw[h];simp only;cases stripL (strip σ depth) args with
 |none=>rfl
 |some p=>
  obtain⟨ts,ids⟩:=p;simp only[zq];cases ev P conv ext f ts ah 0 with
  |none=>rfl
  |some q=>
   obtain⟨v,D,n⟩:=q;simp only;cases strip D depth v with
   |none=>rfl
   |some r=>
    obtain⟨t,j⟩:=r;simp only[zh]
    split<;>rfl
theorem tu(σ:Store)(t:V):behind σ [] t=σ:=rfl
theorem BQ(σ:Store)(ids:List Nat)(v:Value):behind σ ids (.sc v)=σ:=by
 unfold behind depth flat;simp
theorem uo(f:V->Option (V×List Nat)):stripL f []=some ([],[]):=rfl
theorem uy(f:V->Option (V×List Nat))(v:V)(vs:List V):stripL f (v :: vs)=(f v).bind fun p=>(stripL f vs).map fun q=>(p.1 :: q.1,p.2++q.2):=by
 show(match f v,stripL f vs with|some (t,i),some (ts,j)=>some (t :: ts,i++j)|_,_=>none)=_;cases f v<;>cases stripL f vs<;>rfl
theorem jD(σ:Store)(d:Nat)(v:Value):strip σ d (.sc v)=some (.sc v,[]):=by cases d<;>rfl
theorem strip_nil(σ:Store)(d:Nat):strip σ d .nil=some (.ts [] 0,[]):=by cases d<;>rfl
theorem EI(σ:Store)(d:Nat)(row:List V)(off:Nat):strip σ d (.tp row off)=some (.tp row off,[]):=by cases d<;>rfl
theorem EJ(σ:Store)(d:Nat)(row:List V)(len:Nat):strip σ d (.ts row len)=some (.ts row len,[]):=by cases d<;>rfl
theorem BR(σ:Store)(d:Nat)(vs:List V):strip σ (d+1) (.agg vs)=(stripL (strip σ d) vs).map fun p=>(.agg p.1,p.2):=by
 show(match stripL (strip σ d) vs with|some (ts,ids)=>some (V.agg ts,ids)|none=>none)=_;cases stripL (strip σ d) vs<;>rfl
theorem BU(σ:Store)(d:Nat)(f:FuncId)(vs:List V):strip σ (d+1) (.clo f vs)=(stripL (strip σ d) vs).map fun p=>(.clo f p.1,p.2):=by
 show(match stripL (strip σ d) vs with|some (ts,ids)=>some (V.clo f ts,ids)|none=>none)=_;cases stripL (strip σ d) vs<;>rfl
theorem EK(σ:Store)(d b off:Nat):strip σ (d+1) (.rp b off)=(σ b).bind fun B=>(stripL (strip σ d) B.cells).map fun p=>(.tp p.1 off,b :: p.2):=by
 show(match σ b with|some B=>(match stripL (strip σ d) B.cells with|some (ts,ids)=>some (V.tp ts off,b :: ids)|none=>none)|none=>none)=_;cases σ b with
 |none=>rfl
 |some B=>simp only[zq];cases stripL (strip σ d) B.cells<;>rfl
theorem jE(σ:Store)(d b off len:Nat):strip σ (d+1) (.rs b off len)=(σ b).bind fun B=>if off+len*B.st<=B.cells.length then(stripL (strip σ d) ((B.cells.drop off).take (len*B.st))).map fun p=>(.ts p.1 len,b :: p.2)else none:=by
 show(match σ b with|some B=>(if off+len*B.st<=B.cells.length then(match stripL (strip σ d) ((B.cells.drop off).take (len*B.st))with|some (ts,ids)=>some (V.ts ts len,b :: ids)|none=>none)else none)|none=>none)=_;cases σ b with
 |none=>rfl
 |some B=>
  simp only[zq]
  split
  .cases stripL (strip σ d) ((B.cells.drop off).take (len*B.st))<;>rfl
  .rfl
def EL(ids:List Nat)(t:V)(σ:Store)(nx:Nat):jV:=if(ids.isEmpty||flat depth t)=true then some (t,σ,nx)else none
theorem BX(t:V)(σ:Store)(nx:Nat):EL [] t σ nx=some (t,σ,nx):=rfl
theorem EM{d:Option Tmp}{ty:TypeId}{ps:String}{G:Array Edge}{J:Option (Nat×Bool)}{T:Nat->V}{σ:Store}{nx:Nat}{g:FuncId}(h:conv g= .qp)(args:Array Operand)(ts:Array TypeId) :
  aI P conv (ev P conv ext) ⟨d,.call ⟨.value (.func g),args,ts⟩,ty,ps,G,J⟩ T σ nx=(stripL (strip σ depth) (args.toList.map (val T))).bind fun p=>if(p.2.all fun b=>decide (b<nx))=true then(fn P conv ext g p.1).bind fun t=>EL p.2 t σ nx else none:=by
 unfold aI;rw[kT d ty ps G J T σ (by rw[h];exact fun e=>by cases e)];cases K:stripL (strip σ depth) (args.toList.map (val T))with
 |none=>rfl
 |some p=>
  obtain⟨M,ids⟩:=p;simp only[zh,zq]
  by_cases q:(ids.all fun b=>decide (b<nx))=true
  .rw[yC q,yC q]
   have e:=yI (P:=P) (conv:=conv) (call:=ev P conv ext) d ty ps G J T (restrict σ ids) nx (.func g) args ts;rw[e];have D:stripL (strip (restrict σ ids) depth) (args.toList.map (val T))=some (M,ids) :=
    uz (fun v t i h hi=>uh _ v t i h fun b N=>by unfold restrict;rw[yC (hi b N)]) K
   simp only[val,kQ,yN,oQ h,D,zq];cases fn P conv ext g M with
   |none=>rfl
   |some t=>
    simp only[zh,zq,keeps,val,h,EL,behind]
    by_cases E:(ids.isEmpty||flat depth t)=true
    .rw[yC E,yC E,yC E,vY]
    .rw[yD E,yD E]
  .rw[yD q,yD q]
end
abbrev I(n:Int):V:=.sc (.int .i64 n)
abbrev Bo(b:Bool):V:=.sc (.bool b)
abbrev Sg(s:ByteArray):V:=.sc (.string s)
abbrev L(xs:List Int):V:=.ts (xs.map I) xs.length
theorem wC(n:Nat):(0:Int)<=(n:Int):=by omega
theorem uH{n:Int}(h:-9223372036854775808<=n:=by omega)(q:n<=9223372036854775807:=by omega):IntKind.i64.wrap n=n:=by
 rw[IntKind.wrap_i64];omega
end Go.TV
namespace Go.TV
variable [Known]
attribute [go_sem low] vg
attribute [go_sem] rQ Gn BA rU rV oD rW rX rY oG Gp En Gq Eo Ep BD BF rZ r_ oH oI oJ su Es Gs sD BG I4 Gt Gu Gv Gw Gx Et Eu BH I5 oK Ew BI I7 j_ sF sG Gy BJ I8 jA oL sH Gz jB oM sJ GH lY BK Ey JH sN GI ku sO sQ GK Ez JI I9 BL List.contains_cons List.contains_nil Bool.or_false Bool.false_or Bool.true_or Nat.reduceBEq AY qY nT AZ A8 A_ qZ lQ nU lS FW Ba DT FX Bc FY ru nV JC JD JE IJ FZ F5 DV rC DW F6 IK Bool.false_and Bool.and_false Bool.true_and IL DX F7 DY iG F8 F9 D5 Gf rD nX lT D6 lU D7 lV D8 D9 yI kQ IQ kR Gg Ea rE nZ rF n_ rG Bd rH Bg Ec Gh Ed Ee Ef Bh rJ Bj Bl oh Bq Bv rM lW rO rP Bz JF Gi IU Gj Ej IV IW JG IX IY Gl Em Gm IZ sS oO sU sV sW oP EC tq l7 BM ED kC kD BN EF EG EH BO BP EM BX yV Option.getD_none AO qP AP qQ qR nR qU qV qW qX AQ xH nS DL DN AU AV AX Io Ip Iq Ir Iu Iw Iy Iz IB IC IE IG II oQ tu BQ uo uy jD strip_nil EI EJ BR BU EK jE uQ uS ne_eq yZ yH yV zh zq z_ not_false_eq_true reduceCtorEq beq_self_eq_true if_true if_false zO yc List.map_nil List.nil_append List.cons_append Nat.reduceEqDiff decide_true decide_false Bool.true_and Bool.false_and Bool.not_true Bool.not_false Bool.and_true Bool.or_true Bool.and_false bnd and_true true_and
end Go.TV
namespace Go.TV
variable [Known]
theorem kU{body:St->Option (Ex×St)}{h:St}{x:Option (Ex×St)}(E:aC body h=x)(J:Nat->St->Prop)(post:Ex×St->Prop)
  (step:∀n st,J n st->(∃q,body st=some (.norm,q)/\∃m,m<n/\J m q)\/(∃r,body st=some r/\(∀s,r≠(.norm,s))/\post r)) (n:Nat) (G:J n h):∃r,x=some r/\post r:=by
 subst E
 induction n using Nat.strongRecOn generalizing h with
 |_ n K=>
  rcases step n h G with ⟨q,D,m,M,N⟩|⟨r,D,O,R⟩
  .obtain⟨r,S,U⟩:=K m M N
   exact⟨r,by rw[jq,D];exact S,U⟩
  .refine⟨r,?_,R⟩
   rw[jq,D];obtain⟨e,s⟩:=r;cases e with
   |norm=>exact absurd rfl (O s)
   |exit i=>rfl
   |ret=>rfl
end Go.TV
namespace Go.TV
open Go.ChangeShapes Go.WideShapes Go.RowKit
set_option linter.unusedVariables false
variable [Known]
def start(W:World):Sit:=⟨fun k _=>k<W.heap.size,fun _=>none,W⟩
theorem BZ(W:World)(q:Kn (start W)):Inv (start W) ah:=Inv.none _ (fun _ _ h=>h) q
structure OpensV {α:Type} (P:Program) (t:TypeId) (c:α->List V) (ok:α->Prop):Prop where
 out:∀ {H:Type} {enc:TypeId×Value->H} {W:World} {base:Nat} {spare:Nat->Bool} {held:Bool} {fuel:Nat} {cs:List Value} {y:DataW H×List MemPlace},
  DataW.trod enc P W base spare held fuel t cs=some y->(∀n∈DataW.weights P t y.1,n<=reachBytes)->∃x,VRs (start W) (c x) cs/\ok x
theorem fQ{s:Sit}{v:V}{x:Value}(h:VR s v x):VRs s [v] [x]:=by
 unfold VRs;exact⟨x,[],rfl,h,by unfold VRs;rfl⟩
theorem opensV_int{P:Program}{t:TypeId}{k:IntKind}(q:P.underlying t=some (.int k)):OpensV P t (fun n:Int=>[.sc (.int k n)]) (fun n=>(Lit.int k n).wf=true) :=
 ⟨fun h _=>by
  obtain⟨n,rfl,_,D⟩:=DataW.trod_int q h;exact⟨n,fQ (y5 rfl),D⟩⟩
theorem opensV_bool{P:Program}{t:TypeId}(q:P.underlying t=some .bool):OpensV P t (fun b:Bool=>[.sc (.bool b)]) (fun _=>True) :=
 ⟨fun h _=>by
  obtain⟨b,rfl,_⟩:=DataW.trod_bool q h;exact⟨b,fQ (y5 rfl),trivial⟩⟩
theorem opensV_string{P:Program}{t:TypeId}(q:P.underlying t=some .string):OpensV P t (fun s:ByteArray=>[.sc (.string s)]) (fun s=>s.size<=140737488351232) :=
 ⟨fun h D=>by
  obtain⟨s,rfl,rfl,_⟩:=DataW.trod_string q h;refine⟨s,fQ (y5 rfl),?_⟩;have:=D s.data.toList.length (by simp[DataW.weights]);rw[zi]at this;exact this⟩
theorem uK{H:Type}{P:Program}{e:TypeId}:∀ {l:List (DataW H)} {d:DataW H},d∈l->∀n∈d.weights P e,n∈DataW.weightsAll P e l
 |c :: l,d,h,n,hn=>by
  unfold DataW.weightsAll;rcases List.mem_cons.1 h with rfl|h
  .exact zf _ hn
  .exact zQ _ (uK h n hn)
theorem iI{α:Type}{p:Nat->α->Prop}:∀n,(∀i,i<n->∃x,p i x)->∃l:List α,l.length=n/\∀i x,l[i]?=some x->p i x
 |0,_=>⟨[],rfl,fun i x h=>by simp at h⟩
 |n+1,h=>by
  obtain⟨l,E,G⟩:=iI n (fun i hi=>h i (by omega));obtain⟨x,J⟩:=h n (by omega);refine⟨l++[x],by simp[E],fun i y q=>?_⟩;rcases Nat.lt_or_ge i n with hi|hi
  .rw[zl (by omega)]at q
   exact G i y q
  .rw[zk (by omega),E]at q
   have D:i-n=0:=by
    rcases Nat.eq_zero_or_pos (i-n)with D|D
    .exact D
    .rw[yw (by simp;omega)]at q
     cases q
   rw[D]at q;have:x=y:=by simpa using q
   subst this;have:i=n:=by omega
   subst this;exact J
theorem fU{s:Sit}{α:Type}{c:α->List V}{k size:Nat}(E:∀x,(c x).length=size):∀(xs:List α) (o:Nat),(∀i x,xs[i]?=some x->dh s (c x) k (o+i*size))->dh s (xs.flatMap c) k o
 |[],o,_=>by rw[List.flatMap_nil];unfold dh;trivial
 |x :: xs,o,h=>by
  rw[zF];have G:=h 0 x rfl;rw[Nat.zero_mul,yK]at G;have K:=fU E xs (o+size) (fun i y M=>by
   have:=h (i+1) y (by simpa using M);rw[Nat.add_mul,Nat.one_mul]at this
   rwa [show o+size+i*size=o+(i*size+size) by omega])
  have D:∀(a b:List V) (o:Nat),dh s a k o->dh s b k (o+a.length)->dh s (a++b) k o:=by
   intro a
   induction a with
   |nil=>intro b o _ J;simpa using J
   |cons v a N=>
    intro b o q J;rw[List.cons_append];unfold dh at q⊢;refine⟨q.1,q.2.1,N b (o+1) q.2.2 ?_⟩
    rwa [show o+1+a.length=o+(v :: a).length by simp;omega]
  exact D _ _ o G (by rw[E];exact K)
theorem opensV_slice{P:Program}{t e:TypeId}{α:Type}{c:α->List V}{ok:α->Prop}{B size:Nat}(ht:P.underlying t=some (.slice e))(hd:OpensV P e c ok)(q:∀x,(c x).length=size)(hc:P.cellsOf e=size)(hB:P.bytesOf e=B) :
  OpensV P t (fun xs:List α=>[.ts (xs.flatMap c) xs.length]) (fun xs=>(∀x∈xs,ok x)/\xs.length*B<=140737488351232/\xs.length<=maxLen) :=
 ⟨fun {H enc W base spare held fuel cs y} h Y=>by
  rcases Go.Deep.open_slice ht h with ⟨rfl,rfl⟩|⟨a,len,cap,m,n,D,Pl,rfl,_,hl,hm,a1,rfl,M⟩
  .exact⟨[],fQ (by unfold VR;exact⟨none,0,rfl,zu _,.inl rfl⟩),fun x M=>by simp at M,by simp,Nat.zero_le _⟩
  .have b6:len<=m:=by rw[a1];split<;>omega
   simp only[DataW.weights,ht,yG,List.length_range]at Y;obtain⟨xs,N,E⟩:=iI (p:=fun i x=>∃G:List Value,G.length=size/\VRs (start W) (c x) G/\ok x/\∀(j:Nat) (u:Value),G[j]?=some u->W.cell? (a.add (i*size+j))=some u) len (fun i hi=>by
    obtain⟨a6,O,a7⟩:=M i (by omega);obtain⟨x,hK,a8⟩:=hd.out a7 (fun k hk=>Y k (zZ _ (zf _ (uK (d:=D i) (List.mem_map.2 ⟨i,List.mem_range.2 hi,rfl⟩) k hk))));obtain⟨_,b1,b2⟩:=World.cells?_some O;refine⟨x,a6,by rw[<- xq hK,q],hK,a8,fun j u hu=>?_⟩;have hj:j<P.cellsOf e:=by rw[<- b1];exact(List.getElem?_eq_some_iff.1 hu).1
    have:=b2 j hj;rw[hc,Go.Deep.add_add]at this;rw[this,hu])
   have hlen:len<=9223372036854775807:=by
    unfold maxLen at hm;omega
   refine⟨xs,fQ ?_,fun x b3=>?_,?_,by omega⟩
   .unfold VR
    refine⟨some a,cap,by rw[N],by omega,?_⟩
    by_cases J:xs.flatMap c=[]
    .exact .inl J
    .obtain⟨x0,b4⟩:∃x0,xs[0]?=some x0:=by
      cases xs with
      |nil=>exact absurd rfl J
      |cons x0 r=>exact⟨x0,rfl⟩
     have K:a.spot=none/\a.block<W.heap.size:=by
      obtain⟨G,k1,k2,k3,k4⟩:=E 0 x0 b4;have R:G≠[]:=by
       rintro rfl;have:size=0:=by simpa using k1.symm
       apply J;rw[List.flatMap_eq_nil_iff];intro x _;exact zL (by rw[q,this])
      cases G with
      |nil=>exact absurd rfl R
      |cons u r=>
       have:=k4 0 u rfl;rw[Nat.zero_mul,yP]at this;have b5:a.add 0=a:=by simp[Addr.add]
       rw[b5]at this;refine⟨?_,World.block_lt_of_cell? W a this⟩;unfold World.cell? at this
       split at this
       .split at this
        .cases this
        .rename_i hs;simpa using hs
       .cases this
     obtain⟨S,U⟩:=K;obtain⟨ab,ao,b7⟩:=a;simp only at S U;subst S;refine .inr ⟨ab,ao,rfl,fU q xs ao fun i x M=>fD fun j v hv=>⟨U,?_⟩⟩;obtain⟨G,k1,k2,k3,k4⟩:=E i x M;obtain⟨u,hu,hr⟩:=xu k2 hv;refine⟨u,?_,hr⟩;have:=k4 j u hu;rw[Addr.add_lit]at this;rw[yg];exact this
   .obtain⟨i,hi⟩:=List.mem_iff_getElem?.1 b3
    obtain⟨_,_,_,h3,_⟩:=E i x hi;exact h3
   .have:=Y _ zW
    rw[hB]at this;rw[N];exact yX (zJ _ (by omega)) this⟩
structure iV {α:Type} (P:Program) (fs:List Field) (off sz:Nat) (c:α->List V) (ok:α->Prop):Prop where
 out:∀ {H:Type} {enc:TypeId×Value->H} {W:World} {base:Nat} {spare:Nat->Bool} {held:Bool} {n:Nat} {cs:List Value} {xs:List (DataW H×List MemPlace)},
  xs.length=fs.length->(∀(i:Nat) (f:Field),fs[i]?=some f->DataW.trod enc P W base spare held n f.type ((cs.drop f.offset).take (P.cellsOf f.type))=xs[i]?) ->
  (∀n∈DataW.weightsEach P (fs.map (·.type)) (xs.map (·.1)),n<=reachBytes)->∃x,VRs (start W) (c x) ((cs.drop off).take sz)/\ok x
theorem opensVF_one{P:Program}{f:Field}{off sz:Nat}{α:Type}{c:α->List V}{ok:α->Prop}{t:TypeId}(J:f.offset=off)(D:f.type=t)(h:OpensV P t c ok)(K:P.cellsOf t=sz):iV P [f] off sz c ok :=
 ⟨fun {H enc W base spare held n cs xs} M N O=>by
  match xs,M with
  |[y],_=>
   have E:=N 0 f rfl;rw[D]at E;obtain⟨x,G,q⟩:=h.out (y:=y) (by simpa using E) (fun n R=>O n (by simp[DataW.weightsEach,D];exact R));rw[J,K]at G;exact⟨x,G,q⟩⟩
theorem opensVF_cons{P:Program}{f:Field}{fs:List Field}{off off' sz q:Nat}{α β:Type}{a:α->List V}{b:β->List V}{M:α->Prop}{D:β->Prop}{t:TypeId}(ho:f.offset=off)(N:f.type=t)(h:OpensV P t a M)(hc:P.cellsOf t=sz)
  (hr:iV P fs off' q b D) (E:off'=off+sz):iV P (f :: fs) off (sz+q) (fun x:α×β=>a x.1++b x.2) (fun x=>M x.1/\D x.2) :=
 ⟨fun {H enc W base spare held n cs xs} G O R=>by
  match xs,G with
  |y :: ys,G=>
   have S:=O 0 f rfl;rw[N]at S;obtain⟨x,U,J⟩:=h.out (y:=y) (by simpa using S) (fun n K=>R n (by simp only[yc,DataW.weightsEach,N];exact zf _ K));obtain⟨z,Y,KQ⟩:=hr.out (cs:=cs) (xs:=ys) (by simpa using G) (fun i g hg=>O (i+1) g hg) (fun n K=>R n (by simp only[yc,DataW.weightsEach];exact zQ _ K));rw[ho,hc]at U;rw[E,<- List.drop_drop]at Y;refine⟨(x,z),?_,J,KQ⟩;rw[List.take_add];exact y9 U Y⟩
theorem opensV_struct{P:Program}{t:TypeId}{fs:Array Field}{α:Type}{c:α->List V}{ok:α->Prop}{sz:Nat}(D:P.underlying t=some (.struct fs))(h:iV P fs.toList 0 sz c ok)(R:P.cellsOf t=sz):OpensV P t c ok :=
 ⟨fun {H enc W base spare held fuel cs y} J E=>by
  obtain⟨xs,n,_,rfl,K,M,N⟩:=DataW.trod_struct D J;simp only[DataW.weights,D]at E;obtain⟨x,G,q⟩:=h.out (cs:=cs) (xs:=xs) (by simpa using M) (fun i f O=>N i f (by simpa using O)) E;rw[List.drop_zero,zH (by omega)]at G;exact⟨x,G,q⟩⟩
theorem opensV_iso{P:Program}{t:TypeId}{α β:Type}{c:α->List V}{ok:α->Prop}(f:β->α)(g:α->β)(D:∀x,f (g x)=x)(h:OpensV P t c ok):OpensV P t (fun y=>c (f y)) (fun y=>ok (f y)) :=
 ⟨fun E G=>by
  obtain⟨x,J,q⟩:=h.out E G;exact⟨g x,by show VRs _ (c (f (g x))) _;rw[D];exact J,by show ok (f (g x));rw[D];exact q⟩⟩
theorem opensV_param{P:Program}{t:TypeId}{α:Type}{c:α->List V}{ok:α->Prop}(h:OpensV P t c ok){H:Type}{enc:TypeId×Value->H}{W:World}{base:Nat}{spare:Nat->Bool}{held:Bool}{v:Value}{y:DataW H}{p:List MemPlace}
  (J:DataW.Trod enc P W base spare held t v y p) {ts:List TypeId} {G:List (DataW H)} {j:Nat} (q:(DataW.weightsEach P ts G).all (·<=reachBytes)=true) (D:ts[j]?=some t) (E:G[j]?=some y) :
  ∃x,VRs (start W) (c x) v.cells.toList/\ok x:=by
 obtain⟨fuel,K⟩:=J;exact h.out K (fun n M=>by
  have:=List.all_eq_true.1 q n (DataW.weights_mem_each D E n M)
  simpa using this)
theorem VR_cell{s:Sit}{v:V}{x:Value}(q:x.cells=#[x])(h:VRs s [v] x.cells.toList):VR s v x:=by
 rw[q]at h;unfold VRs at h;obtain⟨y,E,e,D,_⟩:=h;simp only[List.cons.injEq]at e;rw[e.1];exact D
theorem VR_aggv{s:Sit}{vs:List V}{cs:Array Value}(h:VRs s vs (Value.agg cs).cells.toList):VR s (.agg vs) (.agg cs):=by
 unfold VR;exact⟨cs,rfl,h⟩
theorem calls_of_fn{P:Program}{conv:FuncId->Conv}{ext:Ext}(J:P.follows .mixedOrders=true)(K:nK P ext){f:FuncId}{args:List V}{q:List Value}{W:World}(M:Kn (start W))(N:VRs (start W) args q)(h:fn P conv ext f args=some (.sc (.bool true))) :
  Calls P f q.toArray W (fun e w'=>e= .returned (.bool true)/\Below W.heap.size W w'):=by
 unfold fn at h
 split at h
 .rename_i v D n E
  obtain⟨p,O,e⟩:=aJ h;obtain⟨_,_,R⟩:=DI J K _ _ _ _ _ _ _ E;refine(R (start W) q (BZ W M) (fun _ _ _=>rfl) N).mono ?_;rintro S w' ⟨s',x,rfl,rfl,G⟩;refine⟨?_,G.qj.below⟩;have:=uf G.inv depth v p.1 p.2 x _ O G.vr (xK s' D p.2);rw[e]at this;unfold VR at this;rw[this.1]
 .cases h
end Go.TV
namespace Go.TV
variable [Known]
theorem wV{α β:Type}{P:Program}(m:Sem α)(f:α->Sem β):aA P (m>>=f)=(aA P m).bind fun a=>aA P (f a):=by
 show aA P (m.bind f)=_
 induction m with
 |pure a=>rfl
 |program k h=>exact h P
 |mark m k h=>exact h
 |_=>rfl
theorem jF{P:Program}:aA P program=some P:=rfl
theorem xJ{P:Program}{t:TypeId}{d:TypeDesc}(h:P.underlying t=some d):aA P (underlying t)=some d:=by
 unfold underlying;rw[wV,jF];simp only[zq,h];rfl
end Go.TV
namespace Go.TV
variable [Known]
open Go.RowKit
section
variable {P:Program} {conv:FuncId->Conv} {call:Call}
end
instance (priority:=low) Jq:Known:=⟨[]⟩
end Go.TV
/- strings.Join as the shelf's contract tells it. -/
namespace Go.TV
open Go.RowKit
set_option linter.unusedVariables false
variable [Known]
def strs:List V->Option (List ByteArray)
 |[]=>some []
 | .sc (.string x) :: r=>(strs r).map (x :: ·)
 |_ :: _=>none
def bG(xs:List ByteArray)(sep:ByteArray):ByteArray:=⟨(Lib.join (xs.map (·.data.toList)) sep.data.toList).toArray⟩
def oS:List V->Store->Nat->Option (V×Store×Nat)
 |[.ts row len,.sc (.string sep)],σ,nx=>match strs row with
  |some xs=>if xs.length=len/\len<=140737488355328/\(bG xs sep).size<=140737488355328 then some (.sc (.string (bG xs sep)),σ,nx)else none
  |none=>none
 |_,_,_=>none
theorem oU(xs:List ByteArray)(sep:ByteArray):(bG xs sep).size=(Lib.join (xs.map (·.data.toList)) sep.data.toList).length:=by
 show(List.toArray _).size=_;exact zG
theorem B_{v:V}{r:List V}{xs:List ByteArray}(h:strs (v :: r)=some xs):∃x q,v= .sc (.string x)/\strs r=some q/\xs=x :: q:=by
 unfold strs at h
 split at h
 .rename_i e;cases e
 .rename_i x E e
  cases e;cases D:strs r with
  |none=>rw[D]at h;cases h
  |some q=>rw[D]at h;cases h;exact⟨x,q,rfl,rfl,rfl⟩
 .cases h
theorem oV{s:Sit}{k:Nat}:∀ {row:List V} {xs:List ByteArray} {o:Nat},strs row=some xs->dh s row k o->∀(j:Nat) x,xs[j]?=some x->s.w.cell? ⟨k,o+j,none⟩=some (.string x)
 |[],xs,o,h,_,j,x,hj=>by cases h;simp at hj
 |v :: r,xs,o,h,hr,j,x,hj=>by
  obtain⟨y,J,rfl,D,rfl⟩:=B_ h;unfold dh at hr;obtain⟨_,⟨c,E,q⟩,G⟩:=hr;unfold VR at q;cases j with
  |zero=>
   have:y=x:=by simpa using hj
   subst this;rw[yK,E,q.1]
  |succ j=>
   have:=oV D G j x (by simpa using hj);rw[show o+(j+1)=o+1+j by omega];exact this
theorem tC{P:Program}{O:Go.Shelf.Ren}(L:Go.Proofs.Lays.n156 P O)(X:Go.Proofs.Builder.Extra P O){f:FuncId}(hf:O.f 156=f)(D:callable P f)(args:List V)(σ:Store)(nx:Nat)(v:V)(σ':Store)(nx':Nat)(h:oS args σ nx=some (v,σ',nx')):dK P f args σ nx v σ' nx':=by
 subst hf;unfold oS at h
 split at h
 .rename_i _ _ row len sep
  split at h
  .rename_i xs E
   split at h
   .rename_i hc
    obtain⟨hl,h1,h2⟩:=hc;subst hl;simp only[yF,yE]at h;obtain⟨rfl,rfl,rfl⟩:=h;refine⟨zu _,D,fun s Y hi a1 G=>?_⟩;unfold VRs at G;obtain⟨x1,ys,rfl,J,G⟩:=G;unfold VRs at G;obtain⟨x2,zs,rfl,K,hz⟩:=G;unfold VRs at hz;subst hz;unfold VR at J K;obtain⟨a,cap,rfl,M,q⟩:=J;obtain⟨rfl,-⟩:=K;have R:∀s:Sit,VR s (.sc (.string (bG xs sep))) (.string (bG xs sep)):=fun s=>by unfold VR;exact⟨rfl,rfl⟩
    rcases q with rfl|⟨k,o,rfl,q⟩
    .cases E
     exact(Go.Proofs.Any.strings_Join_none L X a cap sep s.w).mono fun e w' ⟨N,S⟩=>⟨s,_,S.symm,N,Out.same hi (R s)⟩
    .cases row with
     |nil=>
      cases E;exact(Go.Proofs.Any.strings_Join_none L X _ cap sep s.w).mono fun e w' ⟨N,S⟩=>⟨s,_,S.symm,N,Out.same hi (R s)⟩
     |cons v0 r0=>
      have hk:k<s.w.heap.size:=by
       have h3:=q;unfold dh at h3;exact hi.zb k o h3.1
      have U:(Lib.join (xs.map (·.data.toList)) sep.data.toList).length<=140737488355328:=by
       have:(bG xs sep).size=(Lib.join (xs.map (·.data.toList)) sep.data.toList).length:=oU xs sep;omega
      refine(Go.Proofs.Any.strings_Join L X k o cap xs sep s.w (fun j x hj=>?_) hk h1 M U).mono fun e w' ⟨N,hb⟩=>?_
      .exact oV (s:=s.nb) E q j x hj
      .obtain⟨_,h5,h6⟩:=hi.grow hb
       exact⟨{ s with w:=w' },_,rfl,N,R _,h5,h6,fun _ hd=> .inl hd⟩
   .cases h
  .cases h
 .cases h
abbrev oW(x:ByteArray):List V:=[.sc (.string x)]
theorem Cb(xs:List ByteArray):strs (xs.flatMap oW)=some xs:=by
 induction xs with
 |nil=>rfl
 |cons x xs h=>
  show(strs (xs.flatMap oW)).map (x :: ·)=_;rw[h];rfl
theorem wK(xs:List ByteArray)(sep:ByteArray):(bG xs sep).data.toList=Lib.join (xs.map (·.data.toList)) sep.data.toList:=by unfold bG;simp
theorem xW{a b:ByteArray}(h:a.data.toList=b.data.toList):a=b:=by
 cases a;cases b;have q:=Array.toList_inj.mp h;simp only at q;subst q;rfl
theorem xX(a b:ByteArray):(a++b).data.toList=a.data.toList++b.data.toList:=by simp[ByteArray.data_append]
theorem tH(xs:List ByteArray)(sep:ByteArray):bG (xs.take 0) sep=ByteArray.empty:=by
 apply xW;rw[wK,List.take_zero];rfl
theorem oZ(xs:List ByteArray)(sep:ByteArray)(h:0<xs.length):bG (xs.take (0+1)) sep=xs[0]:=by
 apply xW;rw[wK];cases xs with
 |nil=>simp at h
 |cons x r=>simp[Lib.join_one]
theorem tJ(xs:List ByteArray)(sep:ByteArray){k:Nat}(D:k≠0)(h:k<xs.length):bG (xs.take (k+1)) sep=bG (xs.take k) sep++sep++xs[k]:=by
 apply xW;rw[xX,xX,wK,wK];cases xs with
 |nil=>simp at h
 |cons x r=>
  obtain⟨k,rfl⟩:∃j,k=j+1:=⟨k-1,by omega⟩;have q:k<r.length:=by simpa using h
  rw[List.take_succ_cons,List.take_succ_cons,yc,yc,Lib.join_cons,Lib.join_cons,List.map_take,List.map_take,
   Lib.joinTail_take_succ _ _ k (r[k].data.toList) (by rw[yY,zo q];rfl)]
  simp
theorem GL(xs:List ByteArray)(m:Nat)(h:∀x∈xs,x.size<=m):Lib.lens (xs.map (·.data.toList))<=xs.length*m:=by
 induction xs with
 |nil=>simp[Lib.lens]
 |cons x r q=>
  have D:=q fun y E=>h y (zZ _ E)
  have G:=h x zW;have J:x.data.toList.length=x.size:=zi;simp only[Lib.lens,yc,List.sum_cons,yj,Nat.succ_mul]at D⊢;omega
theorem jG(xs:List ByteArray)(sep:ByteArray)(m:Nat)(h:∀x∈xs,x.size<=m):(bG xs sep).size<=xs.length*(m+sep.size):=by
 have e:(bG xs sep).size=(Lib.join (xs.map (·.data.toList)) sep.data.toList).length:=oU xs sep;rw[e];cases xs with
 |nil=>simp[Lib.join_nil]
 |cons x r=>
  have q:=GL (x :: r) m h;rw[yc,Lib.join_length];rw[yc]at q;have D:sep.data.toList.length=sep.size:=zi;rw[D,yG,Nat.mul_add];have:sep.size*r.length<=(x :: r).length*sep.size:=by rw[Nat.mul_comm];exact zJ _ (by simp)
  omega
end Go.TV
/- strconv.Itoa as the shelf's contract tells it; the table of powers of ten as cells that lie in memory from the start. -/
namespace Go.TV
open Go.RowKit
set_option linter.unusedVariables false
def jH(g:Nat):List (Nat×Nat×Option Value):=(List.range 20).map (fun i=>(g,i,some (.int .u64 ((10^i:Nat):Int))))++[(g,20,none)]
theorem I_ [Known] {P:Program} {g:Nat} (K:P.globalNamed "internal/strconv.uint64pow10" = some g) (G:∀ p ∈ jH g,p ∈ Known.cells) {s:Sit} (J:Kn s):Lib.TabIs P s.w "internal/strconv.uint64pow10" .u64 Lib.pow10Tab:=by
 have h:∀i,i<20->s.w.cell? ⟨g,i,none⟩=some (.int .u64 ((10^i:Nat):Int)):=fun i hi=>
  (J _ (G (g,i,some (.int .u64 ((10^i:Nat):Int))) (zf _ (List.mem_map.mpr ⟨i,List.mem_range.mpr hi,rfl⟩)))).2
 have D:s.w.cell? ⟨g,20,none⟩=none:=(J _ (G (g,20,none) (zQ _ (List.mem_singleton.mpr rfl)))).2;unfold Lib.TabIs World.var?;rw[K,zq];unfold World.cell? at h D;cases q:s.w.heap[g]? with
 |none=>have:=h 0 (by decide);rw[q]at this;cases this
 |some o=>
  cases o with
  |cells cs e z=>
   rw[q]at D;simp only[q]at h;show some cs=some _;congr 1;apply Array.ext';apply List.ext_getElem?;intro i;rw[List.toList_toArray,yY]
   by_cases hi:i<20
   .have E:cs[i]?=some (.int .u64 ((10^i:Nat):Int)):=h i hi
    rw[zV,E];unfold Lib.pow10Tab;rw[yY,List.getElem?_range hi];rfl
   .have E:cs[20]?=none:=D
    have M:=Array.getElem?_eq_none_iff.mp E;rw[zV,Array.getElem?_eq_none (by omega),yw (by rw[Lib.pow10Tab_length];omega)];rfl
  |_=>have:=h 0 (by decide);rw[q]at this;cases this
theorem Ja {P:Program} {g:Nat} (G:P.globalNamed "internal/strconv.uint64pow10" = some g) {W:World} (J:Lib.TabIs P W "internal/strconv.uint64pow10" .u64 Lib.pow10Tab):@Kn ⟨jH g⟩ (start W):=by
 have D:=World.var?_cell G J;have E:g<W.heap.size:=by
  have:=D 0;rcases Nat.lt_or_ge g W.heap.size with h|h
  .exact h
  .unfold World.cell? at this
   rw[Array.getElem?_eq_none h]at this;exact absurd this (by simp[Lib.pow10Tab])
 intro p q;rcases List.mem_append.mp q with q|q
 .obtain⟨i,hi,rfl⟩:=List.mem_map.mp q
  have hi:=List.mem_range.mp hi;refine⟨E,(D i).trans ?_⟩;unfold Lib.pow10Tab;simp[hi]
 .rw[List.mem_singleton.mp q]
  refine⟨E,(D 20).trans ?_⟩;simp[Lib.pow10Tab]
def bV(n:Int):ByteArray:=⟨(Lib.itoa n).toArray⟩
def o7:List V->Store->Nat->Option (V×Store×Nat)
 |[.sc (.int .i64 n)],σ,nx=>if -9223372036854775808<=n/\n<=9223372036854775807 then some (.sc (.string (bV n)),σ,nx)else none
 |_,_,_=>none
variable [Known]
theorem tK {P:Program} {E:Go.Shelf.Ren} (L:Go.Proofs.LaysM.n171 P E) (N:∀ s:Sit,Kn s->Lib.TabIs P s.w "internal/strconv.uint64pow10" .u64 Lib.pow10Tab) {f:FuncId} (O:E.f 171 = f) (q:callable P f) (args:List V) (σ:Store) (nx:Nat) (v:V) (σ':Store) (nx':Nat) (h:o7 args σ nx = some (v,σ',nx')):dK P f args σ nx v σ' nx':=by
 subst O;unfold o7 at h
 split at h
 .rename_i n
  split at h
  .rename_i G
   simp only[yF,yE]at h;obtain⟨rfl,rfl,rfl⟩:=h;refine⟨zu _,q,fun s J hi R K=>?_⟩;unfold VRs at K;obtain⟨x1,ys,rfl,D,M⟩:=K;unfold VRs at M;subst M;unfold VR at D;obtain⟨rfl,-⟩:=D;have S:∀s:Sit,VR s (.sc (.string (bV n))) (.string (bV n)):=fun s=>by unfold VR;exact⟨rfl,rfl⟩
   refine(Go.Proofs.Any.strconv_Itoa L n G.1 G.2 s.w (N s hi.kn)).mono fun e w' ⟨U,k,os,Y⟩=>?_
   have hb:Below s.w.heap.size s.w w':=by
    subst Y;refine⟨rfl,rfl,rfl,?_,fun k hk=>?_⟩
    .show s.w.heap.size<=(s.w.heap++os).size
     rw[Array.size_append];omega
    .show(s.w.heap++os)[k]?=s.w.heap[k]?
     rw[yM hk]
   obtain⟨_,h5,h6⟩:=hi.grow hb;exact⟨{ s with w:=w' },_,rfl,U,S _,h5,h6,fun _ hd=> .inl hd⟩
  .cases h
 .cases h
end Go.TV
namespace Go.TV
structure Joint where
 name:ByteArray
 x:Int
 y:Int
 fixed:Bool
structure Member where
 a:Int
 b:Int
 kind:Int
structure Structure where
 joints:List Joint
 members:List Member
abbrev cI(n:Int):List V:=[I n]
abbrev cJoint(j:Joint):List V:=[Sg j.name,I j.x,I j.y,Bo j.fixed]
abbrev cMember(m:Member):List V:=[I m.a,I m.b,I m.kind]
abbrev LL{α:Type}(c:α->List V)(xs:List α):V:=.ts (xs.flatMap c) xs.length
abbrev LI(xs:List Int):V:=.ts (xs.flatMap cI) xs.length
abbrev cStructure(s:Structure):List V:=[LL cJoint s.joints,LL cMember s.members]
def okI(n:Int):Prop:=(Lit.int .i64 n).wf=true
def okS(s:ByteArray):Prop:=s.size<=140737488351232
def okL{α:Type}(B:Nat)(ok:α->Prop)(xs:List α):Prop:=(∀x∈xs,ok x)/\xs.length*B<=140737488351232/\xs.length<=maxLen
def okJoint(j:Joint):Prop:=okS j.name/\okI j.x/\okI j.y/\True
def okMember(m:Member):Prop:=okI m.a/\okI m.b/\okI m.kind
def okStructure(s:Structure):Prop:=okL 40 okJoint s.joints/\okL 24 okMember s.members
end Go.TV
namespace Go.TV
theorem wQ{P:Program}{conv:FuncId->Conv}{ext:Ext}(f:FuncId)(ts:List V):fn P conv ext f ts=(ev P conv ext f ts ah 0).bind fun q=>(strip q.2.1 depth q.1).map (·.1):=by
 unfold fn;cases ev P conv ext f ts ah 0 with
 |none=>rfl
 |some q=>rfl
section
variable (v:Value) (row:List V) (a b c:Nat) (f:FuncId) (vs:List V)
theorem Cc:aZ (.sc v)=true:=id rfl
theorem tN:aZ .nil=true:=id rfl
theorem Ce:aZ (.tp row a)=true:=id rfl
theorem Ci:aZ (.ts row a)=true:=id rfl
theorem Cj:aZ (.rp a b)=true:=id rfl
theorem Cm:aZ (.rs a b c)=true:=id rfl
theorem tV:aZ (.clo f vs)=true:=id rfl
theorem CB:cellsOfV (.agg vs)=some vs:=id rfl
theorem EN:cellsOfV (.sc v)=some [.sc v]:=id rfl
theorem CG:cellsOfV .nil=some [.nil]:=id rfl
theorem EO:cellsOfV (.tp row a)=some [.tp row a]:=id rfl
theorem EP:cellsOfV (.ts row a)=some [.ts row a]:=id rfl
theorem ER:cellsOfV (.rp a b)=some [.rp a b]:=id rfl
theorem ES:cellsOfV (.rs a b c)=some [.rs a b c]:=id rfl
theorem CJ:cellsOfV (.clo f vs)=some [.clo f vs]:=id rfl
theorem o8(pl:Nat->Option (Nat×Nat))(cells:List V):bY pl cells []=some cells:=rfl
theorem kV(pl:Nat->Option (Nat×Nat))(cells:List V)(i:Nat)(v:V)(rest:List (Nat×V)):bY pl cells ((i,v) :: rest)=(pl i).bind fun p=>(cellsOfV v).bind fun vs=>if vs.length=p.2/\p.1+vs.length<=cells.length then bY pl (patch cells p.1 vs) rest else none:=by
 show(match pl i,cellsOfV v with|some (off,size),some vs=>_|_,_=>none)=_;cases pl i<;>cases cellsOfV v<;>rfl
theorem kW(cells:List V)(off:Nat)(v:V):patch cells off [v]=cells.set off v:=rfl
theorem CO(u:V)(cells:List V)(off:Nat):patch (u :: cells) off []=(u :: cells).take off++[]++(u :: cells).drop (off+0):=rfl
theorem CP(u:V)(cells:List V)(off:Nat)(v w:V)(vs:List V):patch (u :: cells) off (v :: w :: vs)=(u :: cells).take off++(v :: w :: vs)++(u :: cells).drop (off+(v :: w :: vs).length):=rfl
end
attribute [go_sem] Cc tN Ce Ci Cj Cm tV CB EN CG EO EP ER ES CJ o8 kV kW CO CP
attribute [go_sem] depth yN zF List.flatMap_nil bF List.set_cons_zero List.set_cons_succ yj List.length_nil List.length_set Nat.reduceAdd Nat.reduceLT Nat.reduceLeDiff List.all_cons yS yP yK List.drop_zero List.drop_succ_cons List.take_succ_cons List.take_zero Nat.reduceMul Nat.zero_mul Nat.one_mul Nat.mul_one aX
end Go.TV
namespace Go.TV
section
variable {α:Type} {c:α->List V} {s:Nat}
theorem vC(h:∀x,(c x).length=s)(xs:List α):(xs.flatMap c).length=xs.length*s:=by
 induction xs with
 |nil=>simp
 |cons x xs q=>rw[zF,zX,q,h,yj,Nat.succ_mul,Nat.add_comm]
theorem CQ(h:∀x,(c x).length=s)(xs:List α)(k:Nat):(xs.flatMap c).drop (k*s)=(xs.drop k).flatMap c:=by
 induction xs generalizing k with
 |nil=>simp
 |cons x xs q=>
  cases k with
  |zero=>simp
  |succ k=>
   rw[zF,Nat.succ_mul,Nat.add_comm,<- List.drop_drop];rw[show s=(c x).length from(h x).symm,List.drop_left,h x,q,List.drop_succ_cons]
theorem slot(q:∀x,(c x).length=s)(xs:List α)(k:Nat)(h:k<xs.length):((xs.flatMap c).drop (k*s)).take s=c xs[k]:=by
 rw[CQ q,List.drop_eq_getElem_cons h,zF,show s=(c xs[k]).length from(q _).symm,List.take_left]
theorem jI(c:α->V)(xs:List α)(k:Nat)(h:k<xs.length):(xs.flatMap fun x=>[c x])[k]?=some (c xs[k]):=by
 induction xs generalizing k with
 |nil=>cases h
 |cons x xs q=>
  cases k with
  |zero=>rfl
  |succ k=>exact q k (by simpa using h)
theorem slot_ne(q:∀x,(c x).length=s)(hs:0<s)(xs:List α)(k:Nat)(h:k<xs.length):xs.flatMap c≠[]:=by
 intro e;have:=vC q xs;rw[e]at this;have D:0<xs.length*s:=Nat.mul_pos (by omega) hs;simp at this;omega
def mix(c:α->List V)(z:List V)(xs:List α)(n k:Nat):List V:=(xs.take k).flatMap c++rep (n-k) z
theorem Aa(n:Nat)(z:List V):(rep n z).length=n*z.length:=by simp[rep]
theorem jJ(c:α->List V)(z:List V)(xs:List α)(n:Nat):rep n z=mix c z xs n 0:=by simp[mix]
theorem jK(c:α->List V)(z:List V)(xs:List α):mix c z xs xs.length xs.length=xs.flatMap c:=by simp[mix,rep]
theorem iW(q:∀x,(c x).length=s){z:List V}(D:z.length=s)(xs:List α)(k:Nat)(h:k<=xs.length):(mix c z xs xs.length k).length=xs.length*s:=by
 unfold mix;rw[zX,vC q,Aa,D,zM,Nat.min_eq_left h,<- Nat.add_mul];congr 1;omega
theorem rep_succ(n:Nat)(z:List V):rep (n+1) z=z++rep n z:=by simp[rep,List.replicate_succ]
theorem CS(D:∀x,(c x).length=s){z:List V}(E:z.length=s)(xs:List α)(k:Nat)(h:k<xs.length) :
  (mix c z xs xs.length k).take (k*s)++c xs[k]++(mix c z xs xs.length k).drop (k*s+s)=mix c z xs xs.length (k+1):=by
 have q:((xs.take k).flatMap c).length=k*s:=by rw[vC D,zM,Nat.min_eq_left (by omega)]
 have G:xs.length-k=(xs.length - (k+1))+1:=by omega
 unfold mix;rw[List.take_left' q,<- List.drop_drop,List.drop_left' q,G,rep_succ,List.drop_left' E,List.take_add_one,zo h];simp only[yJ,Option.toList_some,zF,List.flatMap_nil,yN,zN]
theorem g_(q:∀x,(c x).length=s){z:List V}(D:z.length=s)(xs:List α)(k:Nat)(h:k<xs.length) :
  patch (mix c z xs xs.length k) (k*s) (c xs[k])=mix c z xs xs.length (k+1):=by
 have G:=CS q D xs k h;have J:∀(cells:List V) (off:Nat) (vs:List V),vs.length=s->(s=1->off<cells.length)->patch cells off vs=cells.take off++vs++cells.drop (off+s):=by
  intro cells off vs E hs;unfold patch
  split
  .rename_i v
   have:s=1:=by simpa using E.symm
   subst this;rw[List.set_eq_take_append_cons_drop,yC (hs rfl)];simp
  .rw[E]
 rw[J _ _ _ (q _) (fun e=>?_),G];rw[iW q D xs k (by omega),e];omega
theorem GN{c:α->V}{z:V}(xs:List α)(k:Nat)(h:k<xs.length) :
  (mix (fun x=>[c x]) [z] xs xs.length k).set k (c xs[k])=mix (fun x=>[c x]) [z] xs xs.length (k+1):=by
 have:=g_ (c:=fun x=>[c x]) (s:=1) (fun _=>rfl) (z:=[z]) rfl xs k h
 rwa [Nat.mul_one]at this
theorem tX(f:V->Option (V×List Nat))(a b:List V)(h:stripL f a=some (a,[]))(N:stripL f b=some (b,[])):stripL f (a++b)=some (a++b,[]):=by
 induction a with
 |nil=>exact N
 |cons v a O=>
  rw[uy]at h;rw[List.cons_append,uy];cases E:f v with
  |none=>rw[E]at h;cases h
  |some p=>
   rw[E]at h;cases D:stripL f a with
   |none=>rw[D]at h;cases h
   |some q=>
    rw[D]at h;simp only[zq,zh,yF,yE,List.cons.injEq,List.append_eq_nil_iff]at h;obtain⟨⟨G,J⟩,K,M⟩:=h;obtain⟨R,S⟩:=p;obtain⟨U,Y⟩:=q;simp only at G J K M;subst G J K M;rw[O D];simp
theorem um{f:V->Option (V×List Nat)}(h:∀x,stripL f (c x)=some (c x,[]))(xs:List α):stripL f (xs.flatMap c)=some (xs.flatMap c,[]):=by
 induction xs with
 |nil=>rfl
 |cons x xs q=>rw[zF];exact tX f _ _ (h x) q
end
section
variable {P:Program} {t:TypeId} {x y:Operand}
theorem GR{a b:ByteArray}:aT P .eql t x y (.sc (.string a)) (.sc (.string b))=some (.sc (.bool (a.toList==b.toList))):=by
 simp only[aT,toVal,eqGuard_at_string,binOp_string_eql];rfl
theorem GU{a b:ByteArray}:aT P .neq t x y (.sc (.string a)) (.sc (.string b))=some (.sc (.bool !(a.toList==b.toList))):=by
 simp only[aT,toVal,eqGuard_at_string,binOp_string_neq];rfl
theorem fV{a b:Bool}(h:P.underlying t=some .bool)(f:Bool->Value):aA P ((Op.equal t (.bool a) (.bool b)).bind fun r=>pure (f r))=some (f (a==b)):=by
 show aA P ((Op.equalIn (9999+1) t _ _).bind fun r=>pure (f r))=_;unfold Op.equalIn underlying;show aA P (.program fun p=>_)=_;simp only[aA];have pb:∀ {β q:Type} (a:β) (f:β->Sem q),(Sem.pure a).bind f=f a:=fun _ _=>rfl
 have D:∀ {β q:Type} (a:β) (f:β->Sem q),(pure a:Sem β).bind f=f a:=fun _ _=>rfl
 simp only[h,pb,D];rfl
theorem GV{a b:Bool}(h:P.underlying t=some .bool):aT P .neq t x y (.sc (.bool a)) (.sc (.bool b))=some (.sc (.bool !(a==b))):=by
 simp only[aT,toVal,eqGuard_at_bool,pure_bind,binOp];first|(erw[fV h (fun r=> .bool r)];rfl)|(erw[fV h (fun r=> .bool !r)];rfl)
end
attribute [go_sem] GR GU GV bne_self_eq_false BEq.rfl
theorem xM{body:St->Option (Ex×St)}{D:St}{x:Option (Ex×St)}(G:aC body D=x)(N:Nat)(J:Nat->St->Prop)(post:Ex×St->Prop)
  (step:∀k st,k<N->J k st->(∃q,body st=some (.norm,q)/\J (k+1) q)\/(∃r,body st=some r/\(∀s,r≠(.norm,s))/\post r))
  (last:∀st,J N st->∃r,body st=some r/\(∀s,r≠(.norm,s))/\post r) (M:J 0 D):∃r,x=some r/\post r:=by
 refine kU G (fun n st=>n<=N/\J (N-n) st) post ?_ N ⟨zu _,by rwa [Nat.sub_self]⟩;rintro n st ⟨O,E⟩;cases n with
 |zero=>exact .inr (last st E)
 |succ n=>
  rcases step _ st (by omega) E with ⟨q,K,R⟩|h
  .exact .inl ⟨q,K,n,by omega,by omega,by rwa [show N-n=N - (n+1)+1 by omega]⟩
  .exact .inr h
theorem GX{α:Type}(σ:Nat->α)(b:Nat)(x y:α):upd (upd σ b x) b y=upd σ b y:=by
 funext i;unfold upd
 split<;>rfl
theorem Jb:(false==true)=false:=id rfl
theorem Jc:(true==false)=false:=id rfl
attribute [go_sem] Jb Jc Option.map_none GX List.isEmpty_nil Int.cast_ofNat_Int Int.toNat_natCast
theorem GY(σ:Store)(s:Nat):rowOf σ s .nil=some ([],0):=rfl
theorem Jd(σ:Store)(s:Nat)(row:List V)(len:Nat):rowOf σ s (.ts row len)=if row.length=len*s then some (row,len)else none:=rfl
theorem Je(σ:Store)(s b off len:Nat):rowOf σ s (.rs b off len)=(σ b).bind fun B=>if off+len*s<=B.cells.length then some ((B.cells.drop off).take (len*s),len)else none:=by
 show(match σ b with|some B=>_|none=>none)=_;cases σ b<;>rfl
theorem GZ(σ:Store)(nx size bytes:Nat)(row:List V)(m:Nat):bZ σ nx size bytes .nil row m=if m=0 then some (.nil,σ,nx)else if m<=maxLen/\m*bytes<=140737488355328 then some (.rs nx 0 m,bF σ nx row size,nx+1)else none:=rfl
theorem o9{σ:Store}{nx bytes b len m:Nat}{B:pY}{row:List V}(h:σ b=some B)(q:B.cells.length=len)(hs:B.st=1)(D:m≠0)(E:len+m<=maxLen)(G:(len+m)*bytes<=140737488355328)(J:row.all aZ=true) :
  bZ σ nx 1 bytes (.rs b 0 len) row m=some (.rs nx 0 (len+m),upd (upd σ b none) nx (some ⟨B.cells++row,1,B.wr⟩),nx+1):=by
 unfold bZ;simp only[h,D,if_false,q,hs,E,G,J];rw[yD (by omega),yC (by simp)];simp
theorem jL{P:Program}{conv:FuncId->Conv}{call:Call}(d:Option Tmp)(ty:TypeId)(ps:String)(q:Array Edge)(D:Option (Nat×Bool))(T:Nat->V)(σ:Store)(nx:Nat)(t:TypeId)(h:(aG P t).slice=true)(E:(aG P t).FC=true):aK P conv call ⟨d,.buildSlice t 0 #[],ty,ps,q,D⟩ T σ nx=some (.nil,σ,nx):=by
 rw[vg d ty ps q D T σ nx t 0 #[] (by rfl)];have:=xH (P:=P) (t:=t) (len:=0) (parts:=([]:List (Nat×V))) (σ:=σ) (nx:=nx) h E
 simpa using this
theorem vZ{P:Program}{conv:FuncId->Conv}{call:Call}(d:Option Tmp)(ty:TypeId)(ps:String)(D:Array Edge)(E:Option (Nat×Bool))(T:Nat->V)(σ:Store)(nx:Nat)(t:TypeId)(x:Operand)(h:(aG P t).slice=true)(J:(aG P t).FC=true)(hs:(aG P t).mP=1)(K:(aG P t).dZ.length=1)(N:aZ (val T x)=true) :
  aK P conv call ⟨d,.buildSlice t 1 #[(0,x)],ty,ps,D,E⟩ T σ nx=some (.rs nx 0 1,upd σ nx (some ⟨[val T x],1,true⟩),nx+1):=by
 rw[vg d ty ps D E T σ nx t 1 _ (by rfl),xH h J,yD (by decide),hs,yC (by decide)];have M:cellsOfV (val T x)=some [val T x]:=by generalize val T x=v at *;cases v<;>simp_all [cellsOfV,aZ]
 have G:(rep 1 (aG P t).dZ).length=1:=by rw[Aa,K]
 have q:(rep 1 (aG P t).dZ).set 0 (val T x)=[val T x]:=by
  generalize rep 1 (aG P t).dZ=l at *
  match l,G with
  |[a],_=>rfl
 show(match bY (fun j=>some (j*1,1)) (rep 1 (aG P t).dZ) [(0,val T x)]with|some cells=>some (V.rs nx 0 1,bF σ nx cells 1,nx+1)|none=>none)=_;rw[kV];simp only[zq,M,List.length_singleton,G,Nat.zero_mul,yP,zu,and_self,if_true,kW,q,o8];rfl
attribute [go_sem] jL vZ GY Jd Je GZ Nat.sub_zero List.isEmpty_cons
attribute [go_sem] Int.le_refl zu
theorem Jf{P:Program}{s e:TypeId}{D q k:IntKind}{n:Int}{σ:Store}(hs:P.underlying s=some (.int D))(E:P.underlying e=some (.int q)):bg P s e (.sc (.int k n)) σ=some (.sc (.int q (q.wrap n))):=by
 have h:aA P (convert s e (.int k n))=some (.int q (q.wrap n)):=by
  unfold convert;rw[wV,xJ hs];simp only[zq];rw[wV,xJ E];rfl
 simp only[bg,toVal,h,zq];rfl
section
variable {P:Program} {t:TypeId} {x y:Operand}
end
def JJ:V->Bool
 | .sc _=>true
 |_=>false
theorem G5(v:Value):JJ (.sc v)=true:=id rfl
theorem o_{P:Program}{conv:FuncId->Conv}{call:Call}(d:Option Tmp)(ty:TypeId)(ps:String)(q:Array Edge)(D:Option (Nat×Bool))(T:Nat->V)(σ:Store)(nx:Nat)(s e:TypeId)(x:Operand)(h:JJ (val T x)=true) :
  aI P conv call ⟨d,.convert s e x,ty,ps,q,D⟩ T σ nx=(bg P s e (val T x) ah).map (·,σ,nx):=by
 obtain⟨u,hu⟩:∃u,val T x= .sc u:=by
  cases E:val T x<;>rw[E]at h<;>first|exact⟨_,rfl⟩|cases h
 refine vk T σ nx (by show some (aB (val T x))=some [];rw[hu];rfl) fun σ=>?_
 show(bg P s e (val T x) σ).map _=_;rw[hu];rfl
attribute [go_sem] G5 o_
theorem ET(v:Value):dS (.sc v)=[]:=rfl
theorem EU(b off:Nat):dS (.rp b off)=[b]:=rfl
theorem EW(b off len:Nat):dS (.rs b off len)=[b]:=rfl
theorem EX(row:List V)(len:Nat):dS (.ts row len)=[]:=rfl
theorem EY(row:List V)(off:Nat):dS (.tp row off)=[]:=rfl
theorem CU:dS .nil=[]:=rfl
theorem CV(vs:List V):dS (.agg vs)=vs.flatMap aB:=rfl
theorem mg(σ:Store)(b:Nat):restrict σ [b] b=σ b:=by unfold restrict;simp
attribute [go_sem] ET EU EW EX EY CU CV mg
theorem tY{P:Program}{conv:FuncId->Conv}{call:Call}{d:Option Tmp}{ty:TypeId}{ps:String}{h:Array Edge}{q:Option (Nat×Bool)}{T:Nat->V}{σ:Store}{nx:Nat}(a x:Operand)(t u:TypeId) :
  aI P conv call ⟨d,.call ⟨.builtin .append,#[a,x],#[t,u]⟩,ty,ps,h,q⟩ T σ nx=if((aB (val T a)++aB (val T x)).all fun b=>decide (b<nx))=true then
   (cZ P #[t,u] (val T a) (val T x) (restrict σ (aB (val T a)++aB (val T x))) nx).map fun r=>(r.1,ay (aB (val T a)++aB (val T x)) nx r.2.2 σ r.2.1,r.2.2)else none:=by
 have D:b_ conv T σ (⟨d,.call ⟨.builtin .append,#[a,x],#[t,u]⟩,ty,ps,h,q⟩:Oper)=some (aB (val T a)++aB (val T x)):=by
  simp[b_]
 rw[wu T σ nx D (fun v=>rfl)]
 split
 .rw[kR]
  cases cZ P #[t,u] (val T a) (val T x) (restrict σ (aB (val T a)++aB (val T x))) nx<;>rfl
 .rfl
theorem EZ{conv:FuncId->Conv}{d:Option Tmp}{ty:TypeId}{ps:String}{h:Array Edge}{q:Option (Nat×Bool)}(args:Array Operand)(ts:Array TypeId):writer conv ⟨d,.call ⟨.builtin .append,args,ts⟩,ty,ps,h,q⟩=true:=id rfl
theorem pq{conv:FuncId->Conv}{d:Option Tmp}{ty:TypeId}{ps:String}{h:Array Edge}{q:Option (Nat×Bool)}{T:Nat->V}{σ:Store}(a x:Operand)(ts:Array TypeId):ak conv T σ ⟨d,.call ⟨.builtin .append,#[a,x],ts⟩,ty,ps,h,q⟩=aB (val T a)++aB (val T x):=by
 simp[ak,b_]
theorem mD{conv:FuncId->Conv}{d:Option Tmp}{ty:TypeId}{ps:String}{h:Array Edge}{q:Option (Nat×Bool)}(t:TypeId)(n:Nat)(parts:Array (Nat×Operand)):writer conv ⟨d,.buildSlice t n parts,ty,ps,h,q⟩=false:=id rfl
theorem iO{conv:FuncId->Conv}{d:Option Tmp}{ty:TypeId}{ps:String}{h:Array Edge}{q:Option (Nat×Bool)}{T:Nat->V}{σ:Store}(t:TypeId)(n:Nat)(parts:Array (Nat×Operand)):ak conv T σ ⟨d,.buildSlice t n parts,ty,ps,h,q⟩=[]:=rfl
attribute [go_sem] tY EZ pq mD iO vX yN
end Go.TV
namespace Go.TV
theorem G6{P:Program}{t:TypeId}{x y:Operand}{a b:ByteArray}(h:a.size+b.size<=9223372036854775807):aT P .add t x y (.sc (.string a)) (.sc (.string b))=some (.sc (.string (a++b))):=by
 have q:IntKind.i64.max=9223372036854775807:=rfl;have:Op.stringOp .add a b=(pure (.string (a++b)):Sem Value):=by
  unfold Op.stringOp;rw[yD (by rw[q];omega)]
 simp only[aT,toVal,eqGuard_add];show(aA P (Op.stringOp .add a b)).bind _=_;rw[this];rfl
theorem CW:aP []=some []:=rfl
theorem tZ(n:Int)(vs:List V):aP (.sc (.int .u8 n) :: vs)=if 0<=n/\n<256 then(aP vs).map (UInt8.ofNat n.toNat :: ·)else none:=rfl
theorem Jg{P:Program}{t:TypeId}(h:(aG P t).u8=true):∃e i,P.underlying t=some (.slice e)/\P.underlying e=some (.int .u8)/\P.info? e=some i/\i.size=1:=by
 unfold aG at h;cases hi:P.info? t with
 |none=>simp[hi]at h
 |some i=>
  cases D:P.underlying t with
  |none=>simp[hi,D]at h
  |some d=>
   simp only[hi,D]at h;cases d<;>simp at h;rename_i e;obtain⟨E,q⟩:=h;have G:P.underlying e=some (.int .u8):=by
    revert E
    cases P.underlying e with
    |none=>simp
    |some d=>cases d<;>simp;rename_i k;cases k<;>simp
   cases hj:P.info? e with
   |none=>simp[hj]at q
   |some j=>simp[hj]at q;exact⟨e,j,rfl,G,hj,q⟩
theorem Ic{P:Program}{s d:TypeId}(hs:(aG P s).u8=true)(h:(aG P d).str=true)(b off len:Nat)(σ:Store):bg P s d (.rs b off len) σ=(rowOf σ 1 (.rs b off len)).bind fun p=>(aP p.1).map fun l=> .sc (.string ⟨l.toArray⟩):=by
 obtain⟨e,i,q,D,E,G⟩:=Jg hs;unfold bg;simp only[toVal,q,lM h,D,E,G,if_true];cases rowOf σ 1 (.rs b off len)with
 |none=>rfl
 |some p=>obtain⟨r,n⟩:=p;rfl
attribute [go_sem] G6 CW tZ Ic
theorem vF(a b:ByteArray):(a++b).size=a.size+b.size:=ByteArray.size_append
end Go.TV
namespace Go.Proofs.YtccfmbmpicnemaaDoor
open Go Go.TV
instance known0:Known:=⟨jH 0⟩
theorem LZ:uD.globalNamed "internal/strconv.uint64pow10" = some 0:=by kernel_rfl
theorem JK (s:Sit) (h:Kn s):Lib.TabIs uD s.w "internal/strconv.uint64pow10" .u64 Lib.pow10Tab:=I_ LZ (fun p q => q) h
theorem kn0 (W:World) (h:Lib.TabIs uD W "internal/strconv.uint64pow10" .u64 Lib.pow10Tab):Kn (TV.start W):=Ja LZ h
def conv:FuncId->Conv:=fun f=>if f∈([]:List Nat)then .own else if f∈([]:List Nat)then .inl else .qp
abbrev au(n:Nat):Prop:=conv n= .qp
theorem JL:au 4/\au 5/\au 7/\au 9/\au 10/\au 11/\au 12/\au 13/\au 14/\au 15/\au 16/\au 17/\au 19/\au 20/\au 21/\au 26/\au 27/\au 28/\au 29/\au 30/\au 31/\au 32/\au 33/\au 34:=by and_intros<;>exact rfl
theorem JM:au 35/\au 36/\au 38/\au 39/\au 40/\au 41/\au 42/\au 43/\au 44/\au 47/\au 48/\au 49/\au 52/\au 53/\au 54/\au 55/\au 56/\au 57/\au 59/\au 60/\au 61/\au 64/\au 65/\au 66:=by and_intros<;>exact rfl
attribute [go_sem] JL JM
theorem MF:aG uD 2=⟨true,false,1,[.sc (.int .i64 0)],false,false,false,0,0,[],false,[],[],false,false⟩:=by kernel_rfl
theorem MG:aG uD 3=aG uD 2:=by kernel_rfl
theorem MH:aG uD 4=⟨true,false,1,[.sc (.bool false)],false,false,false,0,0,[],false,[],[],false,false⟩:=by kernel_rfl
theorem MI:aG uD 5=⟨true,false,1,[.sc (.int .u8 0)],false,false,false,0,0,[],false,[],[],false,false⟩:=by kernel_rfl
theorem MJ:aG uD 7=⟨true,true,4,[.sc (.int .i64 0),.sc (.int .i64 0),.sc (.bool false),.sc (.int .u8 0)],false,false,false,0,0,[],false,[(0,1,some false),(1,1,some false),(2,1,some false),(3,1,some false)],[(0,1),(1,1),(2,1),(3,1)],true,false⟩:=by kernel_rfl
theorem MK:aG uD 9=⟨true,false,1,[.sc (.string ByteArray.empty)],false,true,false,0,0,[],false,[],[],false,false⟩:=by kernel_rfl
theorem KR:aG uD 12=⟨true,false,1,[.sc (.int .u64 0)],false,false,false,0,0,[],false,[],[],false,false⟩:=by kernel_rfl
theorem KT:aG uD 13=⟨true,true,2,[.sc (.string ByteArray.empty),.sc (.int .u64 0)],false,false,false,0,0,[],false,[(0,1,some false),(1,1,some false)],[(0,1),(1,1)],true,false⟩:=by kernel_rfl
theorem KU:aG uD 21=⟨true,false,1,[.sc (.int .i32 0)],false,false,false,0,0,[],false,[],[],false,false⟩:=by kernel_rfl
theorem KW:aG uD 22=⟨true,false,1,[.nil],true,false,false,4,40,[.sc (.string ByteArray.empty),.sc (.int .i64 0),.sc (.int .i64 0),.sc (.bool false)],true,[],[],false,false⟩:=by kernel_rfl
theorem KX:aG uD 23=⟨true,false,1,[.nil],true,false,false,3,24,[.sc (.int .i64 0),.sc (.int .i64 0),.sc (.int .i64 0)],true,[],[],false,false⟩:=by kernel_rfl
theorem KY:aG uD 24=⟨true,true,2,[.nil,.nil],false,false,false,0,0,[],false,[(0,1,some false),(1,1,some false)],[(0,1),(1,1)],true,false⟩:=by kernel_rfl
theorem KZ:aG uD 25=aG uD 24:=by kernel_rfl
theorem K_:aG uD 28=aG uD 22:=by kernel_rfl
theorem La:aG uD 29=aG uD 23:=by kernel_rfl
theorem Lc:aG uD 30=aG uD 24:=by kernel_rfl
theorem Ld:aG uD 31=aG uD 24:=by kernel_rfl
theorem Lh:aG uD 35=⟨true,false,1,[.nil],true,false,false,1,8,[.sc (.int .i64 0)],true,[],[],false,false⟩:=by kernel_rfl
theorem Lj:aG uD 43=⟨true,true,4,[.sc (.string ByteArray.empty),.sc (.int .i64 0),.sc (.int .i64 0),.sc (.bool false)],false,false,false,0,0,[],false,[(0,1,some false),(1,1,some false),(2,1,some false),(3,1,some false)],[(0,1),(1,1),(2,1),(3,1)],true,false⟩:=by kernel_rfl
theorem Ll:aG uD 44=aG uD 43:=by kernel_rfl
theorem Lm:aG uD 46=⟨true,true,3,[.sc (.int .i64 0),.sc (.int .i64 0),.sc (.int .i64 0)],false,false,false,0,0,[],false,[(0,1,some false),(1,1,some false),(2,1,some false)],[(0,1),(1,1),(2,1)],true,false⟩:=by kernel_rfl
theorem Lp:aG uD 47=aG uD 46:=by kernel_rfl
theorem Lr:aG uD 51=⟨true,false,1,[.sc (.pointer none)],false,false,true,0,0,[],false,[],[],false,false⟩:=by kernel_rfl
theorem Ls:aG uD 52=⟨true,false,1,[.nil],true,false,false,1,1,[.sc (.int .u8 0)],true,[],[],false,true⟩:=by kernel_rfl
theorem Lu:aG uD 53=⟨true,true,2,[.sc (.pointer none),.nil],false,false,false,0,0,[],false,[(0,1,some false),(1,1,some false)],[(0,1),(1,1)],true,false⟩:=by kernel_rfl
theorem LC:aG uD 54=aG uD 53:=by kernel_rfl
theorem LD:aG uD 63=⟨true,false,1,[.nil],true,false,false,1,16,[.sc (.string ByteArray.empty)],true,[],[],false,false⟩:=by kernel_rfl
theorem LG:aG uD 66=aG uD 43:=by kernel_rfl
theorem LH:aG uD 72=aG uD 46:=by kernel_rfl
theorem LJ:aG uD 75=aG uD 51:=by kernel_rfl
theorem LK:aG uD 76=aG uD 51:=by kernel_rfl
theorem LM:aG uD 91=⟨true,true,24,[.sc (.int .u8 0),.sc (.int .u8 0),.sc (.int .u8 0),.sc (.int .u8 0),.sc (.int .u8 0),.sc (.int .u8 0),.sc (.int .u8 0),.sc (.int .u8 0),.sc (.int .u8 0),.sc (.int .u8 0),.sc (.int .u8 0),.sc (.int .u8 0),.sc (.int .u8 0),.sc (.int .u8 0),.sc (.int .u8 0),.sc (.int .u8 0),.sc (.int .u8 0),.sc (.int .u8 0),.sc (.int .u8 0),.sc (.int .u8 0),.sc (.int .u8 0),.sc (.int .u8 0),.sc (.int .u8 0),.sc (.int .u8 0)],false,false,false,0,0,[],false,[],[],false,false⟩:=by kernel_rfl
theorem LP:aG uD 92=aG uD 12:=by kernel_rfl
theorem JO:aG uD 100=⟨true,true,20,[.sc (.int .u64 0),.sc (.int .u64 0),.sc (.int .u64 0),.sc (.int .u64 0),.sc (.int .u64 0),.sc (.int .u64 0),.sc (.int .u64 0),.sc (.int .u64 0),.sc (.int .u64 0),.sc (.int .u64 0),.sc (.int .u64 0),.sc (.int .u64 0),.sc (.int .u64 0),.sc (.int .u64 0),.sc (.int .u64 0),.sc (.int .u64 0),.sc (.int .u64 0),.sc (.int .u64 0),.sc (.int .u64 0),.sc (.int .u64 0)],false,false,false,0,0,[],false,[],[],false,false⟩:=by kernel_rfl
theorem JQ:aG uD 101=⟨true,false,1,[.sc (.int .u32 0)],false,false,false,0,0,[],false,[],[],false,false⟩:=by kernel_rfl
theorem JR:aG uD 102=⟨true,true,65,[.sc (.int .u8 0),.sc (.int .u8 0),.sc (.int .u8 0),.sc (.int .u8 0),.sc (.int .u8 0),.sc (.int .u8 0),.sc (.int .u8 0),.sc (.int .u8 0),.sc (.int .u8 0),.sc (.int .u8 0),.sc (.int .u8 0),.sc (.int .u8 0),.sc (.int .u8 0),.sc (.int .u8 0),.sc (.int .u8 0),.sc (.int .u8 0),.sc (.int .u8 0),.sc (.int .u8 0),.sc (.int .u8 0),.sc (.int .u8 0),.sc (.int .u8 0),.sc (.int .u8 0),.sc (.int .u8 0),.sc (.int .u8 0),.sc (.int .u8 0),.sc (.int .u8 0),.sc (.int .u8 0),.sc (.int .u8 0),.sc (.int .u8 0),.sc (.int .u8 0),.sc (.int .u8 0),.sc (.int .u8 0),.sc (.int .u8 0),.sc (.int .u8 0),.sc (.int .u8 0),.sc (.int .u8 0),.sc (.int .u8 0),.sc (.int .u8 0),.sc (.int .u8 0),.sc (.int .u8 0),.sc (.int .u8 0),.sc (.int .u8 0),.sc (.int .u8 0),.sc (.int .u8 0),.sc (.int .u8 0),.sc (.int .u8 0),.sc (.int .u8 0),.sc (.int .u8 0),.sc (.int .u8 0),.sc (.int .u8 0),.sc (.int .u8 0),.sc (.int .u8 0),.sc (.int .u8 0),.sc (.int .u8 0),.sc (.int .u8 0),.sc (.int .u8 0),.sc (.int .u8 0),.sc (.int .u8 0),.sc (.int .u8 0),.sc (.int .u8 0),.sc (.int .u8 0),.sc (.int .u8 0),.sc (.int .u8 0),.sc (.int .u8 0),.sc (.int .u8 0)],false,false,false,0,0,[],false,[],[],false,false⟩:=by kernel_rfl
theorem JU:aG uD 103=aG uD 12:=by kernel_rfl
theorem JV:aG uD 106=⟨true,true,32,[.sc (.int .u8 0),.sc (.int .u8 0),.sc (.int .u8 0),.sc (.int .u8 0),.sc (.int .u8 0),.sc (.int .u8 0),.sc (.int .u8 0),.sc (.int .u8 0),.sc (.int .u8 0),.sc (.int .u8 0),.sc (.int .u8 0),.sc (.int .u8 0),.sc (.int .u8 0),.sc (.int .u8 0),.sc (.int .u8 0),.sc (.int .u8 0),.sc (.int .u8 0),.sc (.int .u8 0),.sc (.int .u8 0),.sc (.int .u8 0),.sc (.int .u8 0),.sc (.int .u8 0),.sc (.int .u8 0),.sc (.int .u8 0),.sc (.int .u8 0),.sc (.int .u8 0),.sc (.int .u8 0),.sc (.int .u8 0),.sc (.int .u8 0),.sc (.int .u8 0),.sc (.int .u8 0),.sc (.int .u8 0)],false,false,false,0,0,[],false,[],[],false,false⟩:=by kernel_rfl
theorem JW:aG uD 107=⟨true,true,64,[.sc (.int .u8 0),.sc (.int .u8 0),.sc (.int .u8 0),.sc (.int .u8 0),.sc (.int .u8 0),.sc (.int .u8 0),.sc (.int .u8 0),.sc (.int .u8 0),.sc (.int .u8 0),.sc (.int .u8 0),.sc (.int .u8 0),.sc (.int .u8 0),.sc (.int .u8 0),.sc (.int .u8 0),.sc (.int .u8 0),.sc (.int .u8 0),.sc (.int .u8 0),.sc (.int .u8 0),.sc (.int .u8 0),.sc (.int .u8 0),.sc (.int .u8 0),.sc (.int .u8 0),.sc (.int .u8 0),.sc (.int .u8 0),.sc (.int .u8 0),.sc (.int .u8 0),.sc (.int .u8 0),.sc (.int .u8 0),.sc (.int .u8 0),.sc (.int .u8 0),.sc (.int .u8 0),.sc (.int .u8 0),.sc (.int .u8 0),.sc (.int .u8 0),.sc (.int .u8 0),.sc (.int .u8 0),.sc (.int .u8 0),.sc (.int .u8 0),.sc (.int .u8 0),.sc (.int .u8 0),.sc (.int .u8 0),.sc (.int .u8 0),.sc (.int .u8 0),.sc (.int .u8 0),.sc (.int .u8 0),.sc (.int .u8 0),.sc (.int .u8 0),.sc (.int .u8 0),.sc (.int .u8 0),.sc (.int .u8 0),.sc (.int .u8 0),.sc (.int .u8 0),.sc (.int .u8 0),.sc (.int .u8 0),.sc (.int .u8 0),.sc (.int .u8 0),.sc (.int .u8 0),.sc (.int .u8 0),.sc (.int .u8 0),.sc (.int .u8 0),.sc (.int .u8 0),.sc (.int .u8 0),.sc (.int .u8 0),.sc (.int .u8 0)],false,false,false,0,0,[],false,[],[],false,false⟩:=by kernel_rfl
theorem JX:aG uD 108=⟨true,true,4,[.sc (.pointer none),.sc (.pointer none),.sc (.pointer none),.sc (.string ByteArray.empty)],false,false,false,0,0,[],false,[(0,1,some false),(1,1,some false),(2,1,some false),(3,1,some false)],[(0,1),(1,1),(2,1),(3,1)],true,false⟩:=by kernel_rfl
theorem JY:aG uD 110=⟨true,true,0,[],false,false,false,0,0,[],false,[],[],false,false⟩:=by kernel_rfl
theorem JZ:aG uD 111=⟨true,true,0,[],false,false,false,0,0,[],false,[(0,0,some true)],[(0,0)],true,false⟩:=by kernel_rfl
attribute [go_sem] MF MG MH MI MJ MK KR KT KU KW KX KY KZ K_ La Lc Ld Lh Lj Ll Lm Lp Lr Ls Lu LC LD LG LH LJ LK LM LP JO JQ JR JU JV JW JX JY JZ
def fZ:Go.Shelf.Ren:=⟨fun|129=>73|156=>32|165=>51|166=>22|169=>25|171=>31|240=>45|241=>63|243=>50|246=>62|276=>58|277=>71|283=>67|284=>68|285=>69|286=>70|317=>72|318=>74|319=>75|320=>76|337=>77|338=>78|n=>n,fun|0=>0|2=>2|3=>3|4=>4|5=>5|9=>9|20=>20|31=>63|37=>52|46=>103|51=>101|53=>92|70=>51|72=>54|75=>56|76=>57|80=>59|127=>76|164=>85|171=>91|173=>95|212=>100|213=>102|232=>106|233=>107|n=>n,fun|17=>0|18=>2|19=>3|n=>n⟩
theorem lays156:Lays.n156 uD fZ:={ mixed:=by kernel_rfl,f156:=by kernel_rfl,f165:=by kernel_rfl,f166:=by kernel_rfl,f169:=by kernel_rfl,f240:=by kernel_rfl,f241:=by kernel_rfl,f276:=by kernel_rfl,f277:=by kernel_rfl,t0:=Tryd.underlying0,a0:=Tryd.isAgg0,z0:=Tryd.sizeOf0,v0:=Tryd.zeroValue0,t3:=Tryd.underlying3,a3:=Tryd.isAgg3,z3:=Tryd.sizeOf3,v3:=Tryd.zeroValue3,t4:=Tryd.underlying4,a4:=Tryd.isAgg4,z4:=Tryd.sizeOf4,v4:=Tryd.zeroValue4,t9:=Tryd.underlying9,a9:=Tryd.isAgg9,z9:=Tryd.sizeOf9,v9:=Tryd.zeroValue9,t20:=Tryd.underlying20,a20:=Tryd.isAgg20,z20:=Tryd.sizeOf20,v20:=Tryd.zeroValue20,t31:=Tryd.underlying63,a31:=Tryd.isAgg63,z31:=Tryd.sizeOf63,v31:=Tryd.zeroValue63,t37:=Tryd.underlying52,a37:=Tryd.isAgg52,z37:=Tryd.sizeOf52,v37:=Tryd.zeroValue52,t70:=Tryd.underlying51,a70:=Tryd.isAgg51,z70:=Tryd.sizeOf51,v70:=Tryd.zeroValue51,t72:=Tryd.underlying54,a72:=Tryd.isAgg54,z72:=Tryd.sizeOf54,v72:=Tryd.zeroValue54,t75:=Tryd.underlying56,a75:=Tryd.isAgg56,z75:=Tryd.sizeOf56,v75:=Tryd.zeroValue56,t76:=Tryd.underlying57,a76:=Tryd.isAgg57,z76:=Tryd.sizeOf57,v76:=Tryd.zeroValue57,t127:=Tryd.underlying76,a127:=Tryd.isAgg76,z127:=Tryd.sizeOf76,v127:=Tryd.zeroValue76,t164:=Tryd.underlying85,a164:=Tryd.isAgg85,z164:=Tryd.sizeOf85,v164:=Tryd.zeroValue85 }
theorem lays171:Lays.n171 uD fZ:={ mixed:=by kernel_rfl,f129:=by kernel_rfl,f171:=by kernel_rfl,f243:=by kernel_rfl,f246:=by kernel_rfl,f283:=by kernel_rfl,f284:=by kernel_rfl,f285:=by kernel_rfl,f286:=by kernel_rfl,f317:=by kernel_rfl,f318:=by kernel_rfl,f319:=by kernel_rfl,f320:=by kernel_rfl,f337:=by kernel_rfl,f338:=by kernel_rfl,t0:=Tryd.underlying0,a0:=Tryd.isAgg0,z0:=Tryd.sizeOf0,v0:=Tryd.zeroValue0,t2:=Tryd.underlying2,a2:=Tryd.isAgg2,z2:=Tryd.sizeOf2,v2:=Tryd.zeroValue2,t3:=Tryd.underlying3,a3:=Tryd.isAgg3,z3:=Tryd.sizeOf3,v3:=Tryd.zeroValue3,t4:=Tryd.underlying4,a4:=Tryd.isAgg4,z4:=Tryd.sizeOf4,v4:=Tryd.zeroValue4,t5:=Tryd.underlying5,a5:=Tryd.isAgg5,z5:=Tryd.sizeOf5,v5:=Tryd.zeroValue5,t9:=Tryd.underlying9,a9:=Tryd.isAgg9,z9:=Tryd.sizeOf9,v9:=Tryd.zeroValue9,t20:=Tryd.underlying20,a20:=Tryd.isAgg20,z20:=Tryd.sizeOf20,v20:=Tryd.zeroValue20,t37:=Tryd.underlying52,a37:=Tryd.isAgg52,z37:=Tryd.sizeOf52,v37:=Tryd.zeroValue52,t46:=Tryd.underlying103,a46:=Tryd.isAgg103,z46:=Tryd.sizeOf103,v46:=Tryd.zeroValue103,t51:=Tryd.underlying101,a51:=Tryd.isAgg101,z51:=Tryd.sizeOf101,v51:=Tryd.zeroValue101,t53:=Tryd.underlying92,a53:=Tryd.isAgg92,z53:=Tryd.sizeOf92,v53:=Tryd.zeroValue92,t171:=Tryd.underlying91,a171:=Tryd.isAgg91,z171:=Tryd.sizeOf91,v171:=Tryd.zeroValue91,t173:=Tryd.underlying95,a173:=Tryd.isAgg95,z173:=Tryd.sizeOf95,v173:=Tryd.zeroValue95,t212:=Tryd.underlying100,a212:=Tryd.isAgg100,z212:=Tryd.sizeOf100,v212:=Tryd.zeroValue100,t213:=Tryd.underlying102,a213:=Tryd.isAgg102,z213:=Tryd.sizeOf102,t232:=Tryd.underlying106,a232:=Tryd.isAgg106,z232:=Tryd.sizeOf106,v232:=Tryd.zeroValue106,t233:=Tryd.underlying107,a233:=Tryd.isAgg107,z233:=Tryd.sizeOf107,v233:=Tryd.zeroValue107,g17:=by kernel_rfl,g18:=by kernel_rfl,g19:=by kernel_rfl }
theorem laysM171:LaysM.n171 uD fZ:={ lays171 with i0:=by kernel_rfl,i2:=by kernel_rfl,i3:=by kernel_rfl,i4:=by kernel_rfl,i5:=by kernel_rfl,i9:=by kernel_rfl,i20:=by kernel_rfl,i37:=by kernel_rfl,i46:=by kernel_rfl,i51:=by kernel_rfl,i53:=by kernel_rfl,i171:=by kernel_rfl,i173:=by kernel_rfl,i212:=by kernel_rfl,i232:=by kernel_rfl,i233:=by kernel_rfl,m17:=by kernel_rfl,m18:=by kernel_rfl,m19:=by kernel_rfl }
theorem Jh:Builder.Extra uD fZ:={ sizeBuilder:=by kernel_rfl,liesBuilder:=by kernel_rfl,t5:=Tryd.underlying5,a5:=Tryd.isAgg5,z5:=Tryd.sizeOf5,v5:=Tryd.zeroValue5,infoByte:=by kernel_rfl,cellsByte:=by kernel_rfl,sizeByte:=by kernel_rfl,neB5:=by decide }
def Ji:Ext:=fun f=>if f=32 then some oS else if f=31 then some o7 else none
theorem Jj:nK uD Ji:=fun f g h args σ nx v σ' nx' D=>by
 unfold Ji at h
 split at h
 .rename_i q
  subst q;cases h;exact tC lays156 Jh rfl ⟨_,func32,by kernel_rfl,by kernel_rfl⟩ args σ nx v σ' nx' D
 split at h
 .rename_i q
  subst q;cases h;exact tK laysM171 JK rfl ⟨_,func31,by kernel_rfl,by kernel_rfl⟩ args σ nx v σ' nx' D
 cases h
def ext:Ext:=fun f=>Ji f
theorem extOk:nK uD ext:=fun f g h args σ nx v σ' nx' q=>Jj f g h args σ nx v σ' nx' q
theorem u4:uD.underlying 4=some .bool:=Tryd.underlying4
attribute [go_sem] u4
theorem G7(j:Joint):fn uD conv ext 38 [.agg (cJoint j)]=some (.agg (cJoint j)):=by
 rw[wQ,wU [.cell 2 44] [] func38];simp only[go_sem]
theorem E5(j:Member):fn uD conv ext 39 [.agg (cMember j)]=some (.agg (cMember j)):=by
 rw[wQ,wU [.cell 2 47] [] func39];simp only[go_sem]
abbrev t_:List V:=[Sg ByteArray.empty,I 0,I 0,Bo false]
abbrev mF:List V:=[I 0,I 0,I 0]
def h_:=slot (c:=cJoint) (s:=4) (fun _=>rfl)
def jM:=slot_ne (c:=cJoint) (s:=4) (fun _=>rfl) (by omega)
def iP:=vC (c:=cJoint) (s:=4) (fun _=>rfl)
theorem E8(xs:List Joint)(h:okL 40 okJoint xs):fn uD conv ext 19 [LL cJoint xs]=some (LL cJoint xs):=by
 have R:(40:Int)*xs.length<=281474976710656:=by have:=h.2.1;omega
 have S:(xs.length:Int)<=9223372036854775807:=by have:=h.2.1;omega
 have U:(0:Int)<=(xs.length:Int):=by omega
 rw[wQ,wU [.tmp 2] [] func19];simp only[go_sem,R,S,U,Int.le_refl];generalize M:aC _ _=y;obtain⟨r,rfl,T',σ',rfl,N,hs⟩:=xM M xs.length (fun k st=>st.nx=1/\st.σ=upd ah 0 (some ⟨mix cJoint t_ xs xs.length k,4,true⟩)/\st.T 0=LL cJoint xs/\st.T 3= .rs 0 0 xs.length/\st.T 4=I k)
  (fun r=>∃T σ,r=(.exit 0,⟨T,σ,1⟩)/\T 3= .rs 0 0 xs.length/\σ=upd ah 0 (some ⟨xs.flatMap cJoint,4,true⟩)) (by
   clear M;rintro k ⟨T,σ,nx⟩ D ⟨J,q,E,G,K⟩;simp only at J q E G K;subst J q;have f1:(k:Int)<(xs.length:Int):=by omega
   have f2:=wC k;have f3:=uH (n:=(k:Int)+1);have f4:=h_ xs k D;have f5:=iP xs;have f6:k*4+4<=xs.length*4:=by omega
   have f7:=iW (c:=cJoint) (s:=4) (fun _=>rfl) (z:=t_) rfl xs k (by omega);have f8:=g_ (c:=cJoint) (s:=4) (fun _=>rfl) (z:=t_) rfl xs k D;have f9:=jM xs k D;have f10:fn uD conv ext 38 [.agg (cJoint xs[k])]=some (.agg (cJoint xs[k])):=by
    have O:=h.1 xs[k] (zS D)
    revert O
    generalize xs[k]=x;intro O;exact G7 x
   refine .inl ⟨_,by simp only[go_sem,E,G,K,f1,f2,f3,f4,f5,f6,f7,f8,f9,f10];rfl,?_⟩;simp only[go_sem,E,G];rfl) (by
   clear M;rintro ⟨T,σ,nx⟩ ⟨J,q,E,G,K⟩;simp only at J q E G K;subst J q;refine⟨_,by simp only[go_sem,E,K,zT];rfl,by simp,_,_,rfl,?_,?_⟩
   .simp only[go_sem,G]
   .rw[jK]) (by
   (simp only[go_sem,<- jJ])<;>trivial)
 have g1:=iP xs;have g2:∀σ:Store,stripL (strip σ 6) (xs.flatMap cJoint)=some (xs.flatMap cJoint,[]):=fun σ=>um (fun x=>by simp only[go_sem]) xs
 have g3:(xs.flatMap cJoint).take (xs.length*4)=xs.flatMap cJoint:=zH (by omega);simp only[go_sem,N,hs,g1,g2,g3,zu]
def G8:=slot (c:=cMember) (s:=3) (fun _=>rfl)
def G9:=slot_ne (c:=cMember) (s:=3) (fun _=>rfl) (by omega)
def E_:=vC (c:=cMember) (s:=3) (fun _=>rfl)
theorem CX(xs:List Member)(h:okL 24 okMember xs):fn uD conv ext 20 [LL cMember xs]=some (LL cMember xs):=by
 have R:(24:Int)*xs.length<=281474976710656:=by have:=h.2.1;omega
 have S:(xs.length:Int)<=9223372036854775807:=by have:=h.2.1;omega
 have U:(0:Int)<=(xs.length:Int):=by omega
 rw[wQ,wU [.tmp 2] [] func20];simp only[go_sem,R,S,U,Int.le_refl];generalize M:aC _ _=y;obtain⟨r,rfl,T',σ',rfl,N,hs⟩:=xM M xs.length (fun k st=>st.nx=1/\st.σ=upd ah 0 (some ⟨mix cMember mF xs xs.length k,3,true⟩)/\st.T 0=LL cMember xs/\st.T 3= .rs 0 0 xs.length/\st.T 4=I k)
  (fun r=>∃T σ,r=(.exit 0,⟨T,σ,1⟩)/\T 3= .rs 0 0 xs.length/\σ=upd ah 0 (some ⟨xs.flatMap cMember,3,true⟩)) (by
   clear M;rintro k ⟨T,σ,nx⟩ D ⟨J,q,E,G,K⟩;simp only at J q E G K;subst J q;have f1:(k:Int)<(xs.length:Int):=by omega
   have f2:=wC k;have f3:=uH (n:=(k:Int)+1);have f4:=G8 xs k D;have f5:=E_ xs;have f6:k*3+3<=xs.length*3:=by omega
   have f7:=iW (c:=cMember) (s:=3) (fun _=>rfl) (z:=mF) rfl xs k (by omega);have f8:=g_ (c:=cMember) (s:=3) (fun _=>rfl) (z:=mF) rfl xs k D;have f9:=G9 xs k D;have f10:fn uD conv ext 39 [.agg (cMember xs[k])]=some (.agg (cMember xs[k])):=by
    have O:=h.1 xs[k] (zS D)
    revert O
    generalize xs[k]=x;intro O;exact E5 x
   refine .inl ⟨_,by simp only[go_sem,E,G,K,f1,f2,f3,f4,f5,f6,f7,f8,f9,f10];rfl,?_⟩;simp only[go_sem,E,G];rfl) (by
   clear M;rintro ⟨T,σ,nx⟩ ⟨J,q,E,G,K⟩;simp only at J q E G K;subst J q;refine⟨_,by simp only[go_sem,E,K,zT];rfl,by simp,_,_,rfl,?_,?_⟩
   .simp only[go_sem,G]
   .rw[jK]) (by
   (simp only[go_sem,<- jJ])<;>trivial)
 have g1:=E_ xs;have g2:∀σ:Store,stripL (strip σ 6) (xs.flatMap cMember)=some (xs.flatMap cMember,[]):=fun σ=>um (fun x=>by simp only[go_sem]) xs
 have g3:(xs.flatMap cMember).take (xs.length*3)=xs.flatMap cMember:=zH (by omega);simp only[go_sem,N,hs,g1,g2,g3,zu]
def G_:=slot_ne (c:=cI) (s:=1) (fun _=>rfl) (by omega)
theorem Jk(xs:List Int)(h:okL 8 okI xs):fn uD conv ext 11 [LI xs]=some (LI xs):=by
 have O:(8:Int)*xs.length<=281474976710656:=by have:=h.2.1;omega
 have R:(xs.length:Int)<=9223372036854775807:=by have:=h.2.1;omega
 have S:(0:Int)<=(xs.length:Int):=by omega
 rw[wQ,wU [.tmp 2] [] func11];simp only[go_sem,O,R,S,Int.le_refl];generalize M:aC _ _=y;obtain⟨r,rfl,T',σ',rfl,N,hs⟩:=xM M xs.length (fun k st=>st.nx=1/\st.σ=upd ah 0 (some ⟨mix cI [I 0] xs xs.length k,1,true⟩)/\st.T 0=LI xs/\st.T 3= .rs 0 0 xs.length/\st.T 4=I k)
  (fun r=>∃T σ,r=(.exit 0,⟨T,σ,1⟩)/\T 3= .rs 0 0 xs.length/\σ=upd ah 0 (some ⟨xs.flatMap cI,1,true⟩)) (by
   clear M;rintro k ⟨T,σ,nx⟩ D ⟨J,q,E,G,K⟩;simp only at J q E G K;subst J q;have f1:(k:Int)<(xs.length:Int):=by omega
   have f2:=wC k;have f3:=uH (n:=(k:Int)+1);have f4:(xs.flatMap cI)[k]?=some (I xs[k]):=jI I xs k D;have f7:=iW (c:=cI) (s:=1) (fun _=>rfl) (z:=[I 0]) rfl xs k (by omega);have f8:(mix cI [I 0] xs xs.length k).set k (I xs[k])=mix cI [I 0] xs xs.length (k+1):=GN (c:=I) xs k D;have f9:=G_ xs k D;refine .inl ⟨_,by simp only[go_sem,E,G,K,f1,f2,f3,f4,f7,f8,f9,D];rfl,?_⟩;simp only[go_sem,E,G];rfl) (by
   clear M;rintro ⟨T,σ,nx⟩ ⟨J,q,E,G,K⟩;simp only at J q E G K;subst J q;refine⟨_,by simp only[go_sem,E,K,zT];rfl,by simp,_,_,rfl,?_,?_⟩
   .simp only[go_sem,G]
   .rw[jK]) (by
   (simp only[go_sem,<- jJ])<;>trivial)
 have g1:=vC (c:=cI) (s:=1) (fun _=>rfl) xs;have g2:∀σ:Store,stripL (strip σ 6) (xs.flatMap cI)=some (xs.flatMap cI,[]):=fun σ=>um (fun x=>by simp only[go_sem]) xs
 have g3:(xs.flatMap cI).take xs.length=xs.flatMap cI:=zH (by omega);simp only[go_sem,N,hs,g1,g2,g3,zu]
theorem pz(s:Structure)(h:okStructure s):fn uD conv ext 7 [.agg (cStructure s)]=some (.agg (cStructure s)):=by
 have q:=E8 _ h.1;have D:=CX _ h.2;rw[wQ,wU [.cell 2 31] [] func7];simp only[go_sem,q,D]
theorem He(x:Joint):fn uD conv ext 47 [.agg (cJoint x),.agg (cJoint x)]=some (Bo true):=by
 rw[wQ,wU [.tmp 4] [] func47];simp only[go_sem]
theorem Fa(x:Member):fn uD conv ext 48 [.agg (cMember x),.agg (cMember x)]=some (Bo true):=by
 rw[wQ,wU [.tmp 4] [] func48];simp only[go_sem]
theorem Fb(xs:List Joint)(h:xs.length<=maxLen):fn uD conv ext 26 [LL cJoint xs,LL cJoint xs]=some (Bo true):=by
 have N:(xs.length:Int)<=9223372036854775807:=by unfold maxLen at h;omega
 rw[wQ,wU [.tmp 4] [] func26];simp only[go_sem];generalize M:aC _ _=y;obtain⟨r,rfl,T',rfl⟩:=xM M xs.length (fun k st=>st.nx=0/\st.σ=ah/\st.T 0=LL cJoint xs/\st.T 1=LL cJoint xs/\st.T 5=I k)
  (fun r=>∃T,r=(.exit 0,⟨T,ah,0⟩)) (by
   clear M;rintro k ⟨T,σ,nx⟩ E ⟨G,q,D,J,K⟩;simp only at G q D J K;subst G q;have f1:(k:Int)<(xs.length:Int):=by omega
   have f2:=wC k;have f3:=uH (n:=(k:Int)+1);have f4:=h_ xs k E;have f5:=iP xs;have f6:k*4+4<=xs.length*4:=by omega
   have f9:=jM xs k E;refine .inl ⟨_,by simp only[go_sem,D,J,K,f1,f2,f3,f4,f5,f6,f9,He];rfl,?_⟩;simp only[go_sem,D,J];rfl) (by
   clear M;rintro ⟨T,σ,nx⟩ ⟨G,q,D,J,K⟩;simp only at G q D J K;subst G q;exact⟨_,by simp only[go_sem,D,K,zT];rfl,by simp,_,rfl⟩) (by
   (simp only[go_sem])<;>trivial)
 simp only[go_sem]
theorem CY(xs:List Member)(h:xs.length<=maxLen):fn uD conv ext 27 [LL cMember xs,LL cMember xs]=some (Bo true):=by
 have N:(xs.length:Int)<=9223372036854775807:=by unfold maxLen at h;omega
 rw[wQ,wU [.tmp 4] [] func27];simp only[go_sem];generalize M:aC _ _=y;obtain⟨r,rfl,T',rfl⟩:=xM M xs.length (fun k st=>st.nx=0/\st.σ=ah/\st.T 0=LL cMember xs/\st.T 1=LL cMember xs/\st.T 5=I k)
  (fun r=>∃T,r=(.exit 0,⟨T,ah,0⟩)) (by
   clear M;rintro k ⟨T,σ,nx⟩ E ⟨G,q,D,J,K⟩;simp only at G q D J K;subst G q;have f1:(k:Int)<(xs.length:Int):=by omega
   have f2:=wC k;have f3:=uH (n:=(k:Int)+1);have f4:=G8 xs k E;have f5:=E_ xs;have f6:k*3+3<=xs.length*3:=by omega
   have f9:=G9 xs k E;refine .inl ⟨_,by simp only[go_sem,D,J,K,f1,f2,f3,f4,f5,f6,f9,Fa];rfl,?_⟩;simp only[go_sem,D,J];rfl) (by
   clear M;rintro ⟨T,σ,nx⟩ ⟨G,q,D,J,K⟩;simp only at G q D J K;subst G q;exact⟨_,by simp only[go_sem,D,K,zT];rfl,by simp,_,rfl⟩) (by
   (simp only[go_sem])<;>trivial)
 simp only[go_sem]
theorem Jl(xs:List Int)(h:xs.length<=maxLen):fn uD conv ext 13 [LI xs,LI xs]=some (Bo true):=by
 have N:(xs.length:Int)<=9223372036854775807:=by unfold maxLen at h;omega
 rw[wQ,wU [.tmp 4] [] func13];simp only[go_sem];generalize M:aC _ _=y;obtain⟨r,rfl,T',rfl⟩:=xM M xs.length (fun k st=>st.nx=0/\st.σ=ah/\st.T 0=LI xs/\st.T 1=LI xs/\st.T 5=I k)
  (fun r=>∃T,r=(.exit 0,⟨T,ah,0⟩)) (by
   clear M;rintro k ⟨T,σ,nx⟩ E ⟨G,q,D,J,K⟩;simp only at G q D J K;subst G q;have f1:(k:Int)<(xs.length:Int):=by omega
   have f2:=wC k;have f3:=uH (n:=(k:Int)+1);have f4:(xs.flatMap cI)[k]?=some (I xs[k]):=jI I xs k E;have f9:=G_ xs k E;refine .inl ⟨_,by simp only[go_sem,D,J,K,f1,f2,f3,f4,f9];rfl,?_⟩;simp only[go_sem,D,J];rfl) (by
   clear M;rintro ⟨T,σ,nx⟩ ⟨G,q,D,J,K⟩;simp only at G q D J K;subst G q;exact⟨_,by simp only[go_sem,D,K,zT];rfl,by simp,_,rfl⟩) (by
   (simp only[go_sem])<;>trivial)
 simp only[go_sem]
theorem pF(x:Structure)(h:okStructure x):fn uD conv ext 9 [.agg (cStructure x),.agg (cStructure x)]=some (Bo true):=by
 have q:=Fb _ h.1.2.2;have D:=CY _ h.2.2.2;rw[wQ,wU [.tmp 4] [] func9];simp only[go_sem,q,D]
def J3(r left n:Int):Prop:=r= -1\/(0<=r/\r+n<=left)
theorem CZ(xs:List Member)(left:Int)(h:okL 24 okMember xs)(E:0<=left)(G:left<=1048576):∃r,fn uD conv ext 15 [LL cMember xs,I left]=some (I r)/\J3 r left xs.length:=by
 have J:((xs.length:Nat):Int)<=140737488351232:=by have:=h.2.1;omega
 have q:=uH (n:=left - (xs.length:Int))
 by_cases D:left - (xs.length:Int)<0
 .refine⟨-1,?_,.inl rfl⟩
  rw[wQ,wU [.tmp 4] [] func15];simp only[go_sem,q,D]
 .refine⟨left-xs.length,?_,.inr ⟨by omega,by omega⟩⟩
  rw[wQ,wU [.tmp 4] [] func15];simp only[go_sem,q,D]
theorem Hf(x:Joint)(left:Int)(h:okJoint x)(E:0<=left)(G:left<=1048576):∃r,fn uD conv ext 33 [.agg (cJoint x),I left]=some (I r)/\J3 r left x.name.size:=by
 have J:((x.name.size:Nat):Int)<=140737488351232:=by have:=h.1;unfold okS at this;omega
 have q:=uH (n:=left - (x.name.size:Int))
 by_cases D:left - (x.name.size:Int)<0
 .refine⟨-1,?_,.inl rfl⟩
  rw[wQ,wU [.tmp 4] [] func33];simp only[go_sem,q,D]
 .refine⟨left-x.name.size,?_,.inr ⟨by omega,by omega⟩⟩
  rw[wQ,wU [.tmp 4] [] func33];simp only[go_sem,q,D]
theorem Fe(xs:List Joint)(left:Int)(h:okL 40 okJoint xs)(g0:0<=left)(g1:left<=1048576):∃r,fn uD conv ext 14 [LL cJoint xs,I left]=some (I r)/\J3 r left xs.length:=by
 have e1:((xs.length:Nat):Int)<=140737488351232:=by have:=h.2.1;omega
 have U:=uH (n:=left - (xs.length:Int))
 by_cases Y:left - (xs.length:Int)<0
 .refine⟨-1,?_,.inl rfl⟩
  rw[wQ,wU [.tmp 4] [] func14];simp only[go_sem,U,Y]
 .suffices hz:∃r,fn uD conv ext 14 [LL cJoint xs,I left]=some (I r)/\J3 r (left-xs.length) 0 by
   obtain⟨r,D,R⟩:=hz;exact⟨r,D,R.imp id fun h=>⟨h.1,by have:=h.2;omega⟩⟩
  rw[wQ,wU [.tmp 4] [] func14];simp only[go_sem,U,Y];generalize S:aC _ _=y;obtain⟨r,rfl,hr⟩:=xM S xs.length (fun k st=>st.nx=0/\st.σ=ah/\st.T 0=LL cJoint xs/\st.T 5=I k/\∃l,st.T 1=I l/\0<=l/\l<=left-xs.length)
   (fun r=>(∃T l,r=(.exit 0,⟨T,ah,0⟩)/\T 1=I l/\0<=l/\l<=left-xs.length)\/(∃T,r=(.ret,⟨T,ah,0⟩)/\T 4=I (-1))) (by
    clear S;rintro k ⟨T,σ,nx⟩ G ⟨N,E,J,M,l,D,K,O⟩;simp only at N E J D M;subst N E;have f1:(k:Int)<(xs.length:Int):=by omega
    have f2:=wC k;have f3:=uH (n:=(k:Int)+1);have f4:=h_ xs k G;have f5:=iP xs;have f6:k*4+4<=xs.length*4:=by omega
    have f9:=jM xs k G;obtain⟨q,f10,f11⟩:=Hf xs[k] l (h.1 _ (zS G)) K (by omega)
    by_cases hq:q<0
    .refine .inr ⟨_,by simp only[go_sem,J,D,M,f1,f2,f3,f4,f5,f6,f9,f10,hq];rfl,by simp,.inr ⟨_,rfl,?_⟩⟩
     simp only[go_sem]
    .have f12:q<=l:=by rcases f11 with h|⟨_,h⟩<;>omega
     refine .inl ⟨_,by simp only[go_sem,J,D,M,f1,f2,f3,f4,f5,f6,f9,f10,hq];rfl,?_⟩;simp only[go_sem,J];exact⟨rfl,q,rfl,by omega,by omega⟩) (by
    clear S;rintro ⟨T,σ,nx⟩ ⟨N,E,J,M,l,D,K,O⟩;simp only at N E J D M;subst N E;refine⟨_,by simp only[go_sem,J,M,zT];rfl,by simp,.inl ⟨_,l,rfl,?_,K,O⟩⟩;simp only[go_sem,D]) (by
    simp only[go_sem];exact⟨_,rfl,by omega,by omega⟩)
  rcases hr with ⟨T,l,rfl,D,R,h3⟩|⟨T,rfl,D⟩
  .refine⟨l,?_,.inr ⟨R,by omega⟩⟩
   simp only[go_sem,D]
  .refine⟨-1,?_,.inl rfl⟩
   simp only[go_sem,D]
theorem pG(x:Structure)(left:Int)(h:okStructure x)(K:0<=left)(M:left<=1048576):∃r,fn uD conv ext 5 [.agg (cStructure x),I left]=some (I r)/\J3 r left (x.joints.length+x.members.length):=by
 obtain⟨a,q,a2⟩:=Fe x.joints left h.1 K M
 by_cases D:a<0
 .refine⟨-1,?_,.inl rfl⟩
  rw[wQ,wU [.tmp 4] [] func5];simp only[go_sem,q,D]
 .rcases a2 with a2|⟨_,a2⟩
  .omega
  obtain⟨b,G,E⟩:=CZ x.members a h.2 (by omega) (by omega)
  by_cases J:b<0
  .refine⟨-1,?_,.inl rfl⟩
   rw[wQ,wU [.tmp 4] [] func5];simp only[go_sem,q,D,G,J]
  .rcases E with E|⟨_,E⟩
   .omega
   refine⟨b,?_,.inr ⟨by omega,by omega⟩⟩;rw[wQ,wU [.tmp 4] [] func5];simp only[go_sem,q,D,G,J]
end Go.Proofs.YtccfmbmpicnemaaDoor
/- The text of an int: the reference's own,and strconv.Itoa. -/
namespace Go.Proofs.YtccfmbmpicnemaaDoor
open Go Go.TV
theorem J4(k:IntKind)(n:Int)(σ:Store):bg uD 3 5 (.sc (.int k n)) σ=some (.sc (.int .u8 (IntKind.u8.wrap n))):=Jf Tryd.underlying3 Tryd.underlying5
attribute [go_sem] J4
theorem f_{n:Int}(D:0<=n)(E:n<256):IntKind.u8.wrap n=n:=by
 unfold IntKind.wrap;have h:IntKind.u8.signed=false:=by decide
 have q:IntKind.u8.bits=8:=by decide
 simp only[h,q,Bool.false_and];rw[yD (by simp)];omega
section
variable {P:Program} {conv:FuncId->Conv} {call:TV.Call} (d:Option Tmp) (ty:TypeId) (ps:String) (af:Array Edge) (gd:Option (Nat×Bool)) (T:Nat->V) (σ:Store) (nx:Nat)
theorem Fg(s e:TypeId)(x:Operand):ak conv T σ ⟨d,.convert s e x,ty,ps,af,gd⟩=aB (val T x):=rfl
theorem J5(s e:TypeId)(x:Operand):writer conv ⟨d,.convert s e x,ty,ps,af,gd⟩=false:=rfl
def J6:V->Bool
 | .rs _ _ _=>true
 |_=>false
def Jm(σ:Store)(nx:Nat):V->Option V
 | .rs b off len=>if b<nx then(rowOf σ 1 (.rs b off len)).bind fun p=>(aP p.1).map fun l=> .sc (.string ⟨l.toArray⟩)else none
 |_=>none
theorem Hg(b off len:Nat):Jm σ nx (.rs b off len)=if b<nx then(rowOf σ 1 (.rs b off len)).bind fun p=>(aP p.1).map fun l=> .sc (.string ⟨l.toArray⟩)else none:=rfl
theorem Hl(b off len:Nat):J6 (.rs b off len)=true:=id rfl
theorem Ho(s e:TypeId)(x:Operand)(hs:(aG P s).u8=true)(q:(aG P e).str=true)(h:J6 (val T x)=true) :
  aI P conv call ⟨d,.convert s e x,ty,ps,af,gd⟩ T σ nx=(Jm σ nx (val T x)).map (·,σ,nx):=by
 rw[wu (F:=aB (val T x)) T σ nx rfl (fun _=>rfl)];show(if((aB (val T x)).all fun b=>decide (b<nx))=true then match(bg P s e (val T x) (restrict σ (aB (val T x)))).map (·,restrict σ (aB (val T x)),nx)with|some (v,σ1,gi)=>some (v,ay (aB (val T x)) nx gi σ σ1,gi)|none=>none else none)=_;generalize val T x=v at h;cases v with
 |rs b off len=>
  have key:rowOf (restrict σ [b]) 1 (.rs b off len)=rowOf σ 1 (.rs b off len):=by
   unfold rowOf restrict;simp
  rw[Ic hs q];simp only[aB,List.all_cons,yS,Bool.and_true,decide_eq_true_eq,Jm,key]
  split
  .cases (rowOf σ 1 (.rs b off len)).bind fun p=>(aP p.1).map fun l=>V.sc (.string ⟨l.toArray⟩)with
   |none=>rfl
   |some w=>simp only[zh,vY]
  .rfl
 |_=>cases h
theorem vw(t:TypeId)(x:Operand)(h:(aG P t).slice=true)(q:(aG P t).FC=true)(hs:(aG P t).mP=1)(D:(aG P t).dZ.length=1)(E:aZ (val T x)=true) :
  aI P conv call ⟨d,.buildSlice t 1 #[(0,x)],ty,ps,af,gd⟩ T σ nx=some (.rs nx 0 1,upd σ nx (some ⟨[val T x],1,true⟩),nx+1):=by
 have:=zI (P:=P) (conv:=conv) (call:=call) (o:=⟨d,.buildSlice t 1 #[(0,x)],ty,ps,af,gd⟩) (m:=some ([val T x],1,V.rs nx 0 1)) T σ nx rfl fun σ=>vZ d ty ps af gd T σ nx t x h q hs D E
 exact this
end
def pI(u:Nat):ByteArray:=⟨(Lib.decDigits u).toArray⟩
theorem mG{u:Nat}(h:u<10):pI u=⟨#[UInt8.ofNat (48+u)]⟩:=by unfold pI;rw[Lib.decDigits_one h]
theorem jO{u:Nat}(h:¬u<10):pI u=pI (u / 10)++⟨#[UInt8.ofNat (48+u%10)]⟩:=by
 have e:Lib.decDigits u=Lib.decDigits (u / 10)++[UInt8.ofNat (48+u%10)]:=by
  rw[Lib.decDigits,dif_neg h]
 unfold pI;rw[e];apply xW;rw[xX]
theorem jP(u:Nat):(pI u).size<=u+1:=by
 induction u using Nat.strongRecOn with
 |_ u q=>
  by_cases h:u<10
  .rw[mG h];show 1<=u+1;omega
  .rw[jO h,vF]
   have:=q (u / 10) (by omega);have e:(⟨#[UInt8.ofNat (48+u%10)]⟩:ByteArray).size=1:=rfl;omega
theorem kX{n:Nat}:bV (n:Int)=pI n:=by unfold bV pI;rw[Lib.itoa_nonneg]
theorem kY{n:Nat}(h:1<=n):bV (-(n:Int))=⟨#[45]⟩++pI n:=by
 unfold bV pI;rw[Lib.itoa_neg n h];apply xW;rw[xX];simp
theorem Hq(k:Nat)(O:k<=1000000000000000000):fn uD conv ext 17 [I k]=some (Sg (pI k)):=by
 have J:¬(k:Int)<0:=by omega
 rw[wQ,wU [.tmp 2] [4] func17];simp only[go_sem,J];generalize E:aC _ _=y;obtain⟨r,rfl,T',σ',nx',rfl,m,acc,K,M,h,hs,N⟩:=kU E (fun n s=>∃acc:ByteArray,s.T 0=I n/\s.T 3=Sg acc/\pI n++acc=pI k/\acc.size+n<=k)
  (fun r=>∃T σ nx,r=(.exit 0,⟨T,σ,nx⟩)/\∃(n:Nat) (acc:ByteArray),T 0=I n/\T 3=Sg acc/\pI n++acc=pI k/\acc.size+n<=k/\n<10) (by
   clear E;rintro n ⟨T,σ,nx⟩ ⟨acc,q,D,h,hs⟩;simp only at q D
   by_cases G:n<10
   .right
    have f1:¬(9:Int)<(n:Int):=by omega
    refine⟨_,by simp only[go_sem,q,f1];rfl,by simp,_,_,_,rfl,n,acc,?_,?_,h,hs,G⟩
    .simp only[go_sem,q]
    .simp only[go_sem,D]
   .left
    have f1:(9:Int)<(n:Int):=by omega
    have f2:((n:Int).tmod 10)=((n%10:Nat):Int):=by rw[Int.tmod_eq_emod_of_nonneg (by omega)];omega
    have f3:((n:Int).tdiv 10)=((n / 10:Nat):Int):=by rw[Int.tdiv_eq_ediv_of_nonneg (by omega)];omega
    have f4:=uH (n:=48+((n%10:Nat):Int));have f5:=f_ (n:=48+((n%10:Nat):Int)) (by omega) (by omega);have f6:=uH (n:=((n / 10:Nat):Int));have f7:(0:Int)<=48+((n%10:Nat):Int):=by omega
    have f8:48+((n%10:Nat):Int)<256:=by omega
    have f9:(48+((n%10:Nat):Int)).toNat=48+n%10:=by omega
    have f10:(⟨#[UInt8.ofNat (48+n%10)]⟩:ByteArray).size+acc.size<=9223372036854775807:=by
     have:(⟨#[UInt8.ofNat (48+n%10)]⟩:ByteArray).size=1:=rfl;omega
    have f11:(10:Int)≠0:=by decide
    have f12:(#[UInt8.ofNat (48+n%10)]:Array UInt8).size+acc.size<=9223372036854775807:=f10;refine⟨_,by simp only[go_sem,q,D,f1,f2,f3,f4,f5,f6,f7,f8,f9,f10,f11,f12];rfl,n / 10,by omega,⟨#[UInt8.ofNat (48+n%10)]⟩++acc,?_,?_,?_,?_⟩
    .simp only[go_sem]
    .simp only[go_sem]
    .rw[<- h,jO G]
     apply xW;simp only[xX,zN]
    .rw[vF]
     have:(⟨#[UInt8.ofNat (48+n%10)]⟩:ByteArray).size=1:=rfl;omega) k ⟨⟨#[]⟩,by simp only[go_sem],by simp only[go_sem],(by apply xW;rw[xX];simp),by simp[ByteArray.size]⟩
 have f4:=uH (n:=48+(m:Int));have f5:=f_ (n:=48+(m:Int)) (by omega) (by omega);have f7:(0:Int)<=48+(m:Int):=by omega
 have f8:48+(m:Int)<256:=by omega
 have f9:(48+(m:Int)).toNat=48+m:=by omega
 have f12:(#[UInt8.ofNat (48+m)]:Array UInt8).size+acc.size<=9223372036854775807:=by
  have:(#[UInt8.ofNat (48+m)]:Array UInt8).size=1:=rfl;omega
 have f13:(⟨#[UInt8.ofNat (48+m)]⟩:ByteArray).size+acc.size<=9223372036854775807:=f12;simp only[go_sem,K,M,f4,f5,f7,f8,f9,f12,f13];rw[<- h,mG N]
theorem jQ(n:Int)(E:-1000000000000000000<=n)(G:n<=1000000000000000000):fn uD conv ext 17 [I n]=some (Sg (bV n)):=by
 by_cases J:0<=n
 .obtain⟨k,rfl⟩:∃k:Nat,n=(k:Int):=⟨n.toNat,by omega⟩
  rw[kX];exact Hq k (by omega)
 .obtain⟨k,rfl,K⟩:∃k:Nat,n= -(k:Int)/\1<=k:=⟨n.natAbs,by omega,by omega⟩
  rw[kY K];clear J;have M:k<=1000000000000000000:=by omega
  clear E G
  induction k using Nat.strongRecOn with
  |_ k q=>
   have f0:-(k:Int)<0:=by omega
   have f11:(10:Int)≠0:=by decide
   have f3:(-(k:Int)).tdiv 10= -((k / 10:Nat):Int):=by rw[Int.neg_tdiv,Int.tdiv_eq_ediv_of_nonneg (by omega)];omega
   have f6:=uH (n:=-((k / 10:Nat):Int));rw[wQ,wU [.tmp 2] [4] func17]
   by_cases h:k<10
   .have g1:k / 10=0:=by omega
    have f4:=uH (n:=48 - -(k:Int));have f5:=f_ (n:=48 - -(k:Int)) (by omega) (by omega);have f7:(0:Int)<=48 - -(k:Int):=by omega
    have f8:48 - -(k:Int)<256:=by omega
    have f9:(48 - -(k:Int)).toNat=48+k:=by omega
    have f12:(#[45]:Array UInt8).size+(#[UInt8.ofNat (48+k)]:Array UInt8).size<=9223372036854775807:=by
     show 1+1<=_;decide
    have f13:(⟨#[45]⟩:ByteArray).size+(⟨#[UInt8.ofNat (48+k)]⟩:ByteArray).size<=9223372036854775807:=f12;rw[g1]at f3 f6;have f3:(-(k:Int)).tdiv 10=0:=f3;have f6:IntKind.i64.wrap 0=0:=f6;simp only[go_sem,f0,f11,f3,f6,f4,f5,f7,f8,f9,f12,f13];rw[mG h]
   .have q:=q (k / 10) (by omega) (by omega) (by omega)
    have g1:¬-((k / 10:Nat):Int)=0:=by omega
    have g2:(-((k / 10:Nat):Int)==0)=false:=beq_eq_false_iff_ne.mpr g1;have f2:(-(k:Int)).tmod 10= -((k%10:Nat):Int):=by rw[Int.neg_tmod,Int.tmod_eq_emod_of_nonneg (by omega)];omega
    have f4:=uH (n:=48 - -((k%10:Nat):Int));have f5:=f_ (n:=48 - -((k%10:Nat):Int)) (by omega) (by omega);have f7:(0:Int)<=48 - -((k%10:Nat):Int):=by omega
    have f8:48 - -((k%10:Nat):Int)<256:=by omega
    have f9:(48 - -((k%10:Nat):Int)).toNat=48+k%10:=by omega
    have f14:=uH (n:=-((k%10:Nat):Int));obtain⟨a,D⟩:∃a,a=⟨#[45]⟩++pI (k / 10):=⟨_,rfl⟩;have N:=jP (k / 10);have O:a.size<=922337203685477590:=by
     rw[D,vF];have:(⟨#[45]⟩:ByteArray).size=1:=rfl;omega
    rw[<- D]at q;have f12:a.size+(#[UInt8.ofNat (48+k%10)]:Array UInt8).size<=9223372036854775807:=by
     have:(#[UInt8.ofNat (48+k%10)]:Array UInt8).size=1:=rfl;omega
    have f13:a.size+(⟨#[UInt8.ofNat (48+k%10)]⟩:ByteArray).size<=9223372036854775807:=f12;simp only[go_sem,f0,f11,f3,f6,g1,g2,q,f2,f14,f4,f5,f7,f8,f9,f12,f13,Fg,J5,Hg,Hl,Ho,vw];have R:a++(⟨#[UInt8.ofNat (48+k%10)]⟩:ByteArray)=⟨#[45]⟩++(pI (k / 10)++⟨#[UInt8.ofNat (48+k%10)]⟩):=by
     rw[D];apply xW;simp only[xX,zN]
    rw[jO h,<- R]
end Go.Proofs.YtccfmbmpicnemaaDoor
/- Ku strings: both sides. -/
namespace Go.Proofs.YtccfmbmpicnemaaDoor
open Go Go.TV
theorem pJ(xs:List ByteArray)(sep:ByteArray){k:Nat}(q:k=0)(h:k<xs.length):bG (xs.take k) sep++xs[k]=bG (xs.take (k+1)) sep:=by
 subst q;rw[oZ xs sep h,tH];apply xW;rw[xX];rfl
theorem C9(sep:ByteArray):bG [] sep=⟨#[]⟩:=by
 apply xW;rw[wK];rfl
def Fh:=vC (c:=oW) (s:=1) (fun _=>rfl)
theorem J7(xs:List ByteArray)(sep:ByteArray)(hl:xs.length<=1048576){m:Nat}(J:m<=4096)(K:∀x∈xs,x.size<=m)(hs:sep.size<=8):fn uD conv ext 29 [LL oW xs,Sg sep]=some (Sg (bG xs sep)):=by
 have Y:∀k,k<=xs.length->(bG (xs.take k) sep).size<=5000000000:=fun k h=>by
  have h1:=jG (xs.take k) sep m (fun x J=>K x (List.mem_of_mem_take J));have h2:(xs.take k).length<=1048576:=by rw[zM];omega
  have h3:(xs.take k).length*(m+sep.size)<=1048576*4104:=Nat.mul_le_mul h2 (by omega);omega
 rw[wQ,wU [.tmp 4] [] func29];simp only[go_sem];generalize q:aC _ _=y;obtain⟨x,rfl,T,σ,nx,rfl,h5⟩:=xM q xs.length (fun k st=>st.T 1=Sg sep/\st.T 5=Sg (bG (xs.take k) sep)/\st.T 8=LL oW xs/\st.T 9=I xs.length/\st.T 10=I k)
  (fun x=>∃T σ nx,x=(.exit 0,⟨T,σ,nx⟩)/\T 5=Sg (bG xs sep)) (by
   clear q;rintro k ⟨T,σ,nx⟩ h ⟨t1,t5,t8,t9,t10⟩;simp only at t1 t5 t8 t9 t10;have f1:(k:Int)<(xs.length:Int):=by omega
   have f2:=wC k;have f3:=uH (n:=(k:Int)+1);have f4:(xs.flatMap oW)[k]?=some (Sg xs[k]):=jI (fun x=>Sg x) xs k h;have f5:=Fh xs;have f9:=slot_ne (c:=oW) (s:=1) (fun _=>rfl) (by omega) xs k h;have D:=K _ (zS h);have z1:=Y k (by omega);have M:=pJ xs sep (k:=k);have N:=tJ xs sep (k:=k);obtain⟨a,O⟩:∃a,a=bG (xs.take k) sep:=⟨_,rfl⟩;obtain⟨b,R⟩:∃b,b=bG (xs.take (k+1)) sep:=⟨_,rfl⟩;obtain⟨x,ex⟩:∃x,x=xs[k]:=⟨_,rfl⟩;rw[<- O]at t5 z1;simp only[<- O,<- R,<- ex]at M N;rw[<- ex]at f4 D;rw[<- R]
   by_cases S:k=0
   .have i0:¬(0:Int)<(k:Int):=by omega
    have E:a.size+x.size<=9223372036854775807:=by omega
    refine .inl ⟨_,by simp only[go_sem,t1,t5,t8,t9,t10,f1,f2,f3,f4,f5,f9,h,i0,E,M S h];rfl,?_⟩;simp only[go_sem,t1,t8,t9]
    try trivial
   .have i0:(0:Int)<(k:Int):=by omega
    have E:a.size+sep.size<=9223372036854775807:=by omega
    have n2:(a++sep).size=a.size+sep.size:=ByteArray.size_append;obtain⟨u,G⟩:∃u,u=a++sep:=⟨_,rfl⟩;rw[<- G]at n2;have n3:u.size+x.size<=9223372036854775807:=by omega
    have U:=N S h;rw[<- G]at U;refine .inl ⟨_,by simp only[go_sem,t1,t5,t8,t9,t10,f1,f2,f3,f4,f5,f9,h,i0,E,<- G,n3,<- U];rfl,?_⟩;simp only[go_sem,t1,t8,t9]
    try trivial) (by
   clear q;rintro ⟨T,σ,nx⟩ ⟨t1,t5,t8,t9,t10⟩;simp only at t1 t5 t8 t9 t10;rw[zH (zu _)]at t5;exact⟨_,by simp only[go_sem,t9,t10,zT];rfl,by simp,_,_,_,rfl,by simp only[go_sem,t5]⟩) (by
   simp only[go_sem];rw[C9]
   try trivial)
 simp only[go_sem,h5]
theorem J_(xs:List ByteArray)(sep:ByteArray)(q:xs.length<=1048576){m:Nat}(G:m<=4096)(D:∀x∈xs,x.size<=m)(hs:sep.size<=8):fn uD conv ext 32 [LL oW xs,Sg sep]=some (Sg (bG xs sep)):=by
 have J:=jG xs sep m D;have K:xs.length*(m+sep.size)<=1048576*4104:=Nat.mul_le_mul q (by omega);have E:oS [LL oW xs,Sg sep] ah 0=some (Sg (bG xs sep),ah,0):=by
  show(match strs (xs.flatMap oW)with|some h=>if h.length=xs.length/\xs.length<=140737488355328/\(bG h sep).size<=140737488355328 then some (V.sc (.string (bG h sep)),ah,0)else none|none=>none)=_;rw[Cb];exact yC ⟨rfl,by omega,by omega⟩
 rw[wQ,DJ (g:=oS) rfl,E];simp only[go_sem]
end Go.Proofs.YtccfmbmpicnemaaDoor
namespace Go.Proofs.YtccfmbmpicnemaaDoor
open Go Go.TV
def ix{α:Type}(p:α->Bool)(xs:List α):Int:=if xs.findIdx p<xs.length then xs.findIdx p else -1
theorem Ac{α:Type}{p:α->Bool}{xs:List α}{k:Nat}(q:k<xs.length)(D:∀i (h:i<xs.length),i<k->p xs[i]=false)(h:p xs[k]=true):ix p xs=k:=by
 have:xs.findIdx p=k:=(List.findIdx_eq q).mpr ⟨h,fun j hj=>D j (by omega) hj⟩;unfold ix;rw[this,yC q]
theorem iY{α:Type}{p:α->Bool}{xs:List α}(q:∀i (h:i<xs.length),p xs[i]=false):ix p xs= -1:=by
 have:xs.findIdx p=xs.length:=List.findIdx_eq_length.mpr fun x D=>by
  obtain⟨i,hi,rfl⟩:=List.getElem_of_mem D;exact q i hi
 unfold ix;rw[this,yD (Nat.lt_irrefl _)]
theorem iZ{α:Type}{p:α->Bool}{xs:List α}{k:Nat}(G:k<xs.length)(E:∀i (h:i<xs.length),i<k->p xs[i]=false)(h:p xs[k]=false):∀i (h:i<xs.length),i<k+1->p xs[i]=false:=by
 intro i hi q;rcases yO (yL q)with D|D
 .exact E i hi D
 .subst D;exact h
theorem uI(xs:List Joint)(c:V)(g:FuncId)(p:Joint->Bool)(t:V)(h:xs.length<=maxLen)(R:conv g= .qp)(S:strip ah 7 t=some (t,[]))(U:∀x∈xs,fn uD conv ext g [.agg (cJoint x),t]=some (Bo (p x))) :
  fn uD conv ext 55 [LL cJoint xs,.clo g [t]]=some (I (ix p xs)):=by
 have e2:(xs.length:Int)<=9223372036854775807:=by unfold maxLen at h;omega
 rw[wQ,wU [.tmp 4] [] func55];simp only[go_sem];generalize O:aC _ _=y;obtain⟨r,rfl,Y⟩:=xM O xs.length (fun k st=>st.nx=0/\st.σ=ah/\st.T 0=LL cJoint xs/\st.T 1= .clo g [t]/\st.T 7=I xs.length/\st.T 8=I k/\∀i (h:i<xs.length),i<k->p xs[i]=false)
  (fun r=>(∃T,r=(.exit 0,⟨T,ah,0⟩)/\ix p xs= -1)\/(∃T,r=(.ret,⟨T,ah,0⟩)/\T 4=I (ix p xs))) (by
   clear O;rintro k ⟨T,σ,nx⟩ q ⟨M,D,J,E,G,K,hi⟩;simp only at M D J E G K;subst M D;have f1:(k:Int)<(xs.length:Int):=by omega
   have f2:=wC k;have f3:=uH (n:=(k:Int)+1);have f4:=h_ xs k q;have f5:=iP xs;have f6:k*4+4<=xs.length*4:=by omega
   have f9:=jM xs k q;have f10:=U xs[k] (zS q);cases N:p xs[k]with
   |true=>
    rw[N]at f10;refine .inr ⟨_,by simp only[go_sem,J,E,G,K,f1,f2,f4,f5,f6,f9,f10,R,S];rfl,by simp,.inr ⟨_,rfl,?_⟩⟩;simp only[go_sem];rw[Ac q hi N]
   |false=>
    rw[N]at f10;refine .inl ⟨_,by simp only[go_sem,J,E,G,K,f1,f2,f3,f4,f5,f6,f9,f10,R,S];rfl,?_⟩;simp only[go_sem,J,E,G];exact⟨rfl,iZ q hi N⟩) (by
   clear O;rintro ⟨T,σ,nx⟩ ⟨M,D,J,E,G,K,hi⟩;simp only at M D J E G K;subst M D;exact⟨_,by simp only[go_sem,G,K,zT];rfl,by simp,.inl ⟨_,rfl,iY fun i h=>hi i h h⟩⟩) (by
   simp only[go_sem];exact fun i _ h=>absurd h (zD _))
 rcases Y with ⟨T,rfl,E⟩|⟨T,rfl,E⟩
 .simp only[go_sem,E]
 .simp only[go_sem,E]
theorem pK(xs:List Member)(c:V)(g:FuncId)(p:Member->Bool)(t:V)(h:xs.length<=maxLen)(R:conv g= .qp)(S:strip ah 7 t=some (t,[]))(U:∀x∈xs,fn uD conv ext g [.agg (cMember x),t]=some (Bo (p x))) :
  fn uD conv ext 57 [LL cMember xs,.clo g [t]]=some (I (ix p xs)):=by
 have e2:(xs.length:Int)<=9223372036854775807:=by unfold maxLen at h;omega
 rw[wQ,wU [.tmp 4] [] func57];simp only[go_sem];generalize O:aC _ _=y;obtain⟨r,rfl,Y⟩:=xM O xs.length (fun k st=>st.nx=0/\st.σ=ah/\st.T 0=LL cMember xs/\st.T 1= .clo g [t]/\st.T 7=I xs.length/\st.T 8=I k/\∀i (h:i<xs.length),i<k->p xs[i]=false)
  (fun r=>(∃T,r=(.exit 0,⟨T,ah,0⟩)/\ix p xs= -1)\/(∃T,r=(.ret,⟨T,ah,0⟩)/\T 4=I (ix p xs))) (by
   clear O;rintro k ⟨T,σ,nx⟩ q ⟨M,D,J,E,G,K,hi⟩;simp only at M D J E G K;subst M D;have f1:(k:Int)<(xs.length:Int):=by omega
   have f2:=wC k;have f3:=uH (n:=(k:Int)+1);have f4:=G8 xs k q;have f5:=E_ xs;have f6:k*3+3<=xs.length*3:=by omega
   have f9:=G9 xs k q;have f10:=U xs[k] (zS q);cases N:p xs[k]with
   |true=>
    rw[N]at f10;refine .inr ⟨_,by simp only[go_sem,J,E,G,K,f1,f2,f4,f5,f6,f9,f10,R,S];rfl,by simp,.inr ⟨_,rfl,?_⟩⟩;simp only[go_sem];rw[Ac q hi N]
   |false=>
    rw[N]at f10;refine .inl ⟨_,by simp only[go_sem,J,E,G,K,f1,f2,f3,f4,f5,f6,f9,f10,R,S];rfl,?_⟩;simp only[go_sem,J,E,G];exact⟨rfl,iZ q hi N⟩) (by
   clear O;rintro ⟨T,σ,nx⟩ ⟨M,D,J,E,G,K,hi⟩;simp only at M D J E G K;subst M D;exact⟨_,by simp only[go_sem,G,K,zT];rfl,by simp,.inl ⟨_,rfl,iY fun i h=>hi i h h⟩⟩) (by
   simp only[go_sem];exact fun i _ h=>absurd h (zD _))
 rcases Y with ⟨T,rfl,E⟩|⟨T,rfl,E⟩
 .simp only[go_sem,E]
 .simp only[go_sem,E]
theorem indexInt(xs:List Int)(c:V)(g:FuncId)(p:Int->Bool)(h:xs.length<=maxLen)(R:conv g= .qp)(S:∀x∈xs,fn uD conv ext g [I x]=some (Bo (p x))) :
  fn uD conv ext 66 [LI xs,.clo g []]=some (I (ix p xs)):=by
 have Y:(xs.length:Int)<=9223372036854775807:=by unfold maxLen at h;omega
 rw[wQ,wU [.tmp 4] [] func66];simp only[go_sem];generalize O:aC _ _=y;obtain⟨r,rfl,U⟩:=xM O xs.length (fun k st=>st.nx=0/\st.σ=ah/\st.T 0=LI xs/\st.T 1= .clo g []/\st.T 7=I xs.length/\st.T 8=I k/\∀i (h:i<xs.length),i<k->p xs[i]=false)
  (fun r=>(∃T,r=(.exit 0,⟨T,ah,0⟩)/\ix p xs= -1)\/(∃T,r=(.ret,⟨T,ah,0⟩)/\T 4=I (ix p xs))) (by
   clear O;rintro k ⟨T,σ,nx⟩ q ⟨M,D,J,E,G,K,hi⟩;simp only at M D J E G K;subst M D;have f1:(k:Int)<(xs.length:Int):=by omega
   have f2:=wC k;have f3:=uH (n:=(k:Int)+1);have f4:(xs.flatMap cI)[k]?=some (I xs[k]):=jI I xs k q;have f9:=G_ xs k q;have f10:=S xs[k] (zS q);cases N:p xs[k]with
   |true=>
    rw[N]at f10;refine .inr ⟨_,by simp only[go_sem,J,E,G,K,f1,f2,f4,f9,f10,R];rfl,by simp,.inr ⟨_,rfl,?_⟩⟩;simp only[go_sem];rw[Ac q hi N]
   |false=>
    rw[N]at f10;refine .inl ⟨_,by simp only[go_sem,J,E,G,K,f1,f2,f3,f4,f9,f10,R];rfl,?_⟩;simp only[go_sem,J,E,G];exact⟨rfl,iZ q hi N⟩) (by
   clear O;rintro ⟨T,σ,nx⟩ ⟨M,D,J,E,G,K,hi⟩;simp only at M D J E G K;subst M D;exact⟨_,by simp only[go_sem,G,K,zT];rfl,by simp,.inl ⟨_,rfl,iY fun i h=>hi i h h⟩⟩) (by
   simp only[go_sem];exact fun i _ h=>absurd h (zD _))
 rcases U with ⟨T,rfl,E⟩|⟨T,rfl,E⟩
 .simp only[go_sem,E]
 .simp only[go_sem,E]
theorem Ie{α:Type}(p:α->Bool)(xs:List α):ix p xs<0↔∀x∈xs,p x=false:=by
 unfold ix
 by_cases h:xs.findIdx p<xs.length
 .rw[yC h]
  refine⟨fun q=>absurd q (by omega),fun q=>?_⟩;have:=List.findIdx_eq_length.mpr q;omega
 .rw[yD h]
  exact⟨fun _=>List.findIdx_eq_length.mp (Nat.le_antisymm (List.findIdx_le_length) (by omega)),fun _=>by omega⟩
theorem C_(xs:List Member)(g:FuncId)(p:Member->Bool)(t:V)(h:xs.length<=maxLen)(D:conv g= .qp)(q:strip ah 7 t=some (t,[]))(E:strip ah 6 t=some (t,[]))(G:∀x∈xs,fn uD conv ext g [.agg (cMember x),t]=some (Bo (p x))) :
  fn uD conv ext 42 [LL cMember xs,.clo g [t]]=some (Bo (decide (0<=ix p xs))):=by
 have J:=pK xs (.clo g [t]) g p t h D q G;rw[wQ,wU [.tmp 4] [] func42];simp only[go_sem,J,q,E]
theorem Jo(xs:List Int)(g:FuncId)(p:Int->Bool)(h:xs.length<=maxLen)(q:conv g= .qp)(D:∀x∈xs,fn uD conv ext g [I x]=some (Bo (p x))) :
  fn uD conv ext 59 [LI xs,.clo g []]=some (Bo (decide (0<=ix p xs))):=by
 have E:=indexInt xs (.clo g []) g p h q D;rw[wQ,wU [.tmp 4] [] func59];simp only[go_sem,E]
noncomputable def pb(p:Prop):Bool:=@decide p (Classical.propDecidable p)
theorem jc{p:Prop}(h:p):pb p=true:=by unfold pb;exact(@decide_eq_true_iff p (Classical.propDecidable p)).mpr h
theorem vV{p:Prop}(h:¬p):pb p=false:=by unfold pb;exact(@decide_eq_false_iff_not p (Classical.propDecidable p)).mpr h
theorem Fj{p:Prop}{b:Bool}(h:b=true↔p):b=pb p:=by
 cases b with
 |true=>exact(jc (h.mp rfl)).symm
 |false=>exact(vV (fun q=>by cases h.mpr q)).symm
theorem pO{p:Prop}(h:pb p=true):p:=by
 unfold pb at h;exact(@decide_eq_true_iff p (Classical.propDecidable p)).mp h
def inB(n a b:Int):Bool:=decide (a<=n) && decide (n<=b)
theorem jR(n a b:Int):fn uD conv ext 36 [I n,I a,I b]=some (Bo (inB n a b)):=by
 unfold inB;rw[wQ,wU [.tmp 6] [] func36]
 by_cases h:a<=n<;>simp only[go_sem,h]
theorem Hr(n:Int):fn uD conv ext 61 [I n]=some (Bo (inB n (-100) 100)):=by
 unfold inB;rw[wQ,wU [.tmp 2] [] func61]
 by_cases h:-100<=n<;>simp only[go_sem,h]
theorem Ad(n:Int):fn uD conv ext 54 [I n]=some (Bo (inB n (-50) 50)):=by
 unfold inB;rw[wQ,wU [.tmp 2] [] func54]
 by_cases h:-50<=n<;>simp only[go_sem,h]
def dn(b:UInt8):Bool:=decide (97<=(b.toNat:Int)) && decide ((b.toNat:Int)<=122)
def dH(b:UInt8):Bool:=decide (48<=(b.toNat:Int)) && decide ((b.toNat:Int)<=57)
theorem Fp(b:UInt8):fn uD conv ext 64 [.sc (.int .u8 b.toNat)]=some (Bo (dn b)):=by
 unfold dn;rw[wQ,wU [.tmp 2] [] func64]
 by_cases h:97<=(b.toNat:Int)<;>simp only[go_sem,h]
theorem isDigit(b:UInt8):fn uD conv ext 65 [.sc (.int .u8 b.toNat)]=some (Bo (dH b)):=by
 unfold dH;rw[wQ,wU [.tmp 2] [] func65]
 by_cases h:48<=(b.toNat:Int)<;>simp only[go_sem,h]
def dD(k:Nat)(b:UInt8):Prop:=dn b=true\/(k≠0/\dH b=true)
def dM(s:ByteArray):Prop:=(∀k b,s[k]?=some b->dD k b)/\1<=s.size/\s.size<=8
theorem Fq{s:ByteArray}{k:Nat}(h:k<s.size):∃b,s[k]?=some b:=⟨s[k],by simp[h]⟩
theorem Ae{s:ByteArray}{k:Nat}{b:UInt8}(h:s[k]?=some b):k<s.size:=by
 by_cases q:k<s.size
 .exact q
 .simp[q]at h
theorem jS{s:ByteArray}(h:∀i b,s[i]?=some b->dD i b):pb (dM s)=inB s.size 1 8:=by
 unfold inB
 by_cases q:(1:Int)<=s.size
 .by_cases D:(s.size:Int)<=8
  .rw[jc ⟨h,by omega,by omega⟩,decide_eq_true q,decide_eq_true D];rfl
  .rw[vV (fun E=>D (by have:=E.2.2;omega)),decide_eq_true q,decide_eq_false D];rfl
 .rw[vV (fun E=>q (by have:=E.2.1;omega)),decide_eq_false q];rfl
theorem xO{s:ByteArray}{k:Nat}{b:UInt8}(hi:∀i b,i<k->s[i]?=some b->dD i b)(G:s[k]?=some b)(h:dD k b):∀i b,i<k+1->s[i]?=some b->dD i b:=by
 intro i c q D;rcases yO (yL q)with E|E
 .exact hi i c E D
 .subst E
  rw[G]at D;cases D;exact h
theorem wB{k:Nat}{b:UInt8}(E:dn b=false)(q:k=0\/dH b=false):¬dD k b:=by
 rintro (h|⟨h,D⟩)
 .rw[E]at h;cases h
 .rcases q with q|q
  .exact h q
  .rw[q]at D;cases D
theorem wG{b:UInt8}(h:¬(97<=(b.toNat:Int))):dn b=false:=by unfold dn;rw[decide_eq_false h];rfl
theorem jT{b:UInt8}(h:¬((b.toNat:Int)<=122)):dn b=false:=by unfold dn;rw[decide_eq_false h,Bool.and_false]
theorem Dc{b:UInt8}(h:(b.toNat:Int)<48):dH b=false:=by unfold dH;rw[decide_eq_false (by omega)];rfl
theorem kZ{b:UInt8}(h:57<(b.toNat:Int)):dH b=false:=by unfold dH;rw[decide_eq_false (p:=(b.toNat:Int)<=57) (by omega),Bool.and_false]
theorem Df{b:UInt8}(h:¬(b.toNat:Int)<48)(q:¬57<(b.toNat:Int)):dH b=true:=by unfold dH;rw[decide_eq_true (by omega),decide_eq_true (by omega)];rfl
theorem Ht(s:ByteArray)(hs:okS s):fn uD conv ext 52 [Sg s]=some (Bo (pb (dM s))):=by
 have U:(s.size:Int)<=9223372036854775807:=by unfold okS at hs;omega
 rw[wQ,wU [.tmp 2] [] func52];simp only[go_sem];generalize N:aC _ _=y;obtain⟨r,rfl,S⟩:=xM N s.size (fun k st=>st.nx=0/\st.σ=ah/\st.T 0=Sg s/\st.T 3=I k/\∀i b,i<k->s[i]?=some b->dD i b)
  (fun r=>(∃T,r=(.exit 0,⟨T,ah,0⟩)/\T 0=Sg s/\∀i b,s[i]?=some b->dD i b)\/(∃T,r=(.ret,⟨T,ah,0⟩)/\T 2=Bo false/\¬dM s)) (by
   clear N;rintro k ⟨T,σ,nx⟩ O ⟨K,D,q,E,hi⟩;simp only at K D q E;subst K D;have f1:(k:Int)<(s.size:Int):=by omega
   have f2:=wC k;have f3:=uH (n:=(k:Int)+1);obtain⟨b,f4⟩:=Fq O;have no:¬dD k b->¬dM s:=fun h K=>h (K.1 k b f4)
   by_cases G:97<=(b.toNat:Int)
   .by_cases M:(b.toNat:Int)<=122
    .refine .inl ⟨_,by simp only[go_sem,q,E,f1,f2,f3,f4,G,M];rfl,?_⟩
     simp only[go_sem,q];exact⟨rfl,xO hi f4 (.inl (by unfold dn;rw[decide_eq_true G,decide_eq_true M];rfl))⟩
    .have d1:¬(b.toNat:Int)<48:=by omega
     have d2:57<(b.toNat:Int):=by omega
     by_cases J:k=0
     .have f0:((k:Int)==0)=true:=by subst J;rfl
      exact .inr ⟨_,by simp only[go_sem,q,E,f1,f2,f4,G,M,f0];rfl,by simp,.inr ⟨_,rfl,by simp only[go_sem],no (wB (jT M) (.inl J))⟩⟩
     .have f0:((k:Int)==0)=false:=by simpa using J
      exact .inr ⟨_,by simp only[go_sem,q,E,f1,f2,f4,G,M,f0,d1,d2];rfl,by simp,.inr ⟨_,rfl,by simp only[go_sem],no (wB (jT M) (.inr (kZ d2)))⟩⟩
   .by_cases J:k=0
    .have f0:((k:Int)==0)=true:=by subst J;rfl
     exact .inr ⟨_,by simp only[go_sem,q,E,f1,f2,f4,G,f0];rfl,by simp,.inr ⟨_,rfl,by simp only[go_sem],no (wB (wG G) (.inl J))⟩⟩
    .have f0:((k:Int)==0)=false:=by simpa using J
     by_cases d1:(b.toNat:Int)<48
     .exact .inr ⟨_,by simp only[go_sem,q,E,f1,f2,f4,G,f0,d1];rfl,by simp,.inr ⟨_,rfl,by simp only[go_sem],no (wB (wG G) (.inr (Dc d1)))⟩⟩
     .by_cases d2:57<(b.toNat:Int)
      .exact .inr ⟨_,by simp only[go_sem,q,E,f1,f2,f4,G,f0,d1,d2];rfl,by simp,.inr ⟨_,rfl,by simp only[go_sem],no (wB (wG G) (.inr (kZ d2)))⟩⟩
      .refine .inl ⟨_,by simp only[go_sem,q,E,f1,f2,f3,f4,G,f0,d1,d2];rfl,?_⟩
       simp only[go_sem,q];exact⟨rfl,xO hi f4 (.inr ⟨J,Df d1 d2⟩)⟩) (by
   clear N;rintro ⟨T,σ,nx⟩ ⟨K,D,q,E,hi⟩;simp only at K D q E;subst K D;refine⟨_,by simp only[go_sem,q,E,zT];rfl,by simp,.inl ⟨_,rfl,?_,fun i b h=>hi i b (Ae h) h⟩⟩;simp only[go_sem,q]) (by
   simp only[go_sem];exact fun i b h=>absurd h (zD _))
 rcases S with ⟨T,rfl,q,R⟩|⟨T,rfl,q,R⟩
 .have:=jR s.size 1 8
  simp only[go_sem,q,jS R,this]
 .simp only[go_sem,q,vV R]
theorem toList_empty(s:ByteArray):(s.toList==({ data:=#[] }:ByteArray).toList)=decide (s.size=0):=by
 have e:(s.toList=[])=(s.size=0):=by
  rw[ByteArray.toList_eq];refine propext ⟨fun h=>?_,fun h=>zL (by rw[zi];exact h)⟩;have:=congrArg List.length h;rw[zi]at this;exact this
 have q:({ data:=#[] }:ByteArray).toList=[]:=ByteArray.toList_mk [];rw[q]
 by_cases h:s.size=0
 .rw[e.mpr h,decide_eq_true h];rfl
 .rw[decide_eq_false h]
  cases D:s.toList with
  |nil=>exact absurd (e.mp D) h
  |cons a l=>rfl
theorem Hu(s:ByteArray)(hs:okS s):fn uD conv ext 53 [Sg s]=some (Bo (pb (dM s))):=by
 have e2:(s.size:Int)<=9223372036854775807:=by unfold okS at hs;omega
 rw[wQ,wU [.tmp 2] [] func53];simp only[go_sem];generalize R:aC _ _=y;obtain⟨r,rfl,Y⟩:=xM R s.size (fun k st=>st.nx=0/\st.σ=ah/\st.T 0=Sg s/\st.T 5=I s.size/\st.T 6=I k/\∀i b,i<k->s[i]?=some b->dD i b)
  (fun r=>(∃T,r=(.exit 0,⟨T,ah,0⟩)/\T 0=Sg s/\∀i b,s[i]?=some b->dD i b)\/(∃T,r=(.ret,⟨T,ah,0⟩)/\T 2=Bo false/\¬dM s)) (by
   clear R;rintro k ⟨T,σ,nx⟩ S ⟨J,D,q,E,G,hi⟩;simp only at J D q E G;subst J D;have f1:(k:Int)<(s.size:Int):=by omega
   have f2:=wC k;have f3:=uH (n:=(k:Int)+1);obtain⟨b,f4⟩:=Fq S;have no:¬dD k b->¬dM s:=fun h J=>h (J.1 k b f4)
   have g1:=Fp b;have g2:=isDigit b;cases M:dn b with
   |true=>
    rw[M]at g1;refine .inl ⟨_,by simp only[go_sem,q,G,E,f1,f2,f3,f4,g1];rfl,?_⟩;simp only[go_sem,q,E];exact⟨rfl,xO hi f4 (.inl M)⟩
   |false=>
    rw[M]at g1
    by_cases K:k=0
    .have f0:((k:Int)==0)=true:=by subst K;rfl
     exact .inr ⟨_,by simp only[go_sem,q,G,E,f1,f2,f4,g1,f0];rfl,by simp,.inr ⟨_,rfl,by simp only[go_sem],no (wB M (.inl K))⟩⟩
    .have f0:((k:Int)==0)=false:=by simpa using K
     cases N:dH b with
     |true=>
      rw[N]at g2;refine .inl ⟨_,by simp only[go_sem,q,G,E,f1,f2,f3,f4,g1,g2,f0];rfl,?_⟩;simp only[go_sem,q,E];exact⟨rfl,xO hi f4 (.inr ⟨K,N⟩)⟩
     |false=>
      rw[N]at g2;exact .inr ⟨_,by simp only[go_sem,q,G,E,f1,f2,f4,g1,g2,f0];rfl,by simp,.inr ⟨_,rfl,by simp only[go_sem],no (wB M (.inr N))⟩⟩) (by
   clear R;rintro ⟨T,σ,nx⟩ ⟨J,D,q,E,G,hi⟩;simp only at J D q E G;subst J D;refine⟨_,by simp only[go_sem,q,G,E,zT];rfl,by simp,.inl ⟨_,rfl,?_,fun i b h=>hi i b (Ae h) h⟩⟩;simp only[go_sem,q]) (by
   simp only[go_sem];exact fun i b h=>absurd h (zD _))
 rcases Y with ⟨T,rfl,q,U⟩|⟨T,rfl,q,U⟩
 .have O:=toList_empty s
  rw[jS U];unfold inB
  by_cases K:s.size=0
  .have:¬(1:Int)<=s.size:=by omega
   rw[decide_eq_true K]at O;simp only[go_sem,q,this,O]
  .have:(1:Int)<=s.size:=by omega
   rw[decide_eq_false K]at O;simp only[go_sem,q,this,O]
 .simp only[go_sem,q,vV U]
noncomputable def dF(j:Joint):Bool:=pb (dM j.name) && (inB j.x (-50) 50 && inB j.y (-50) 50)
theorem Fv(j:Joint)(h:okJoint j):fn uD conv ext 34 [.agg (cJoint j)]=some (Bo (dF j)):=by
 have t1:=Ht j.name h.1;have t2:=jR j.x (-50) 50;have t3:=jR j.y (-50) 50;unfold dF;generalize pb (dM j.name)=q at *;generalize inB j.x (-50) 50=D at *;generalize inB j.y (-50) 50=E at *;rw[wQ,wU [.tmp 2] [] func34];cases q<;>cases D<;>simp only[go_sem,t1,t2,t3]
theorem Fz(j:Joint)(h:okJoint j):fn uD conv ext 40 [.agg (cJoint j)]=some (Bo (dF j)):=by
 have t1:=Hu j.name h.1;have t2:=Ad j.x;have t3:=Ad j.y;unfold dF;generalize pb (dM j.name)=q at *;generalize inB j.x (-50) 50=D at *;generalize inB j.y (-50) 50=E at *;rw[wQ,wU [.tmp 2] [] func40];cases q<;>cases D<;>simp only[go_sem,t1,t2,t3]
abbrev aV(name:ByteArray)(s:Joint):Bool:=s.name.toList==name.toList
theorem iQ(name:ByteArray)(s:Joint):fn uD conv ext 56 [.agg (cJoint s),.tp [Sg name] 0]=some (Bo (aV name s)):=by
 rw[wQ,wU [.tmp 3] [] func56];simp only[go_sem]
theorem pR(y:Structure)(name:ByteArray)(h:y.joints.length<=maxLen):fn uD conv ext 41 [.agg (cStructure y),Sg name]=some (I (ix (aV name) y.joints)):=by
 have q:=uI y.joints (.tp [Sg name] 0) 56 (aV name) (.tp [Sg name] 0) h (by rfl) (by rfl) (fun x _=>iQ name x);rw[wQ,wU [.tmp 4] [] func41];simp only[go_sem,q]
theorem pU(y:Structure)(name:ByteArray)(h:y.joints.length<=maxLen):fn uD conv ext 35 [.agg (cStructure y),Sg name]=some (I (ix (aV name) y.joints)):=by
 have R:(y.joints.length:Int)<=9223372036854775807:=by unfold maxLen at h;omega
 rw[wQ,wU [.tmp 4] [] func35];simp only[go_sem];generalize M:aC _ _=z;generalize N:y.joints=xs at *;obtain⟨r,rfl,O⟩:=xM M xs.length (fun k st=>st.T 1=Sg name/\st.T 8=LL cJoint xs/\st.T 9=I xs.length/\st.T 10=I k/\∀i (h:i<xs.length),i<k->aV name xs[i]=false)
  (fun r=>(∃st,r=(.exit 0,st)/\ix (aV name) xs= -1)\/(∃st,r=(.ret,st)/\st.T 4=I (ix (aV name) xs))) (by
   clear M;rintro k ⟨T,σ,nx⟩ E ⟨D,J,G,q,hi⟩;simp only at D J G q;have f1:(k:Int)<(xs.length:Int):=by omega
   have f2:=wC k;have f3:=uH (n:=(k:Int)+1);have f4:=h_ xs k E;have f5:=iP xs;have f6:k*4+4<=xs.length*4:=by omega
   have f9:=jM xs k E;cases K:aV name xs[k]with
   |true=>
    refine .inr ⟨_,by simp only[go_sem,D,J,G,q,f1,f2,f4,f5,f6,f9,K];rfl,by simp,.inr ⟨_,rfl,?_⟩⟩;simp only[go_sem];rw[Ac E hi K]
   |false=>
    refine .inl ⟨_,by simp only[go_sem,D,J,G,q,f1,f2,f3,f4,f5,f6,f9,K];rfl,?_⟩;simp only[go_sem,D,J,G];exact⟨rfl,iZ E hi K⟩) (by
   clear M;rintro ⟨T,σ,nx⟩ ⟨D,J,G,q,hi⟩;simp only at D J G q;exact⟨_,by simp only[go_sem,G,q,zT];rfl,by simp,.inl ⟨_,rfl,iY fun i h=>hi i h h⟩⟩) (by
   simp only[go_sem];exact fun i _ h=>absurd h (zD _))
 rcases O with ⟨⟨T,σ,nx⟩,rfl,D⟩|⟨⟨T,σ,nx⟩,rfl,D⟩
 .simp only[go_sem,D]
 .simp only at D
  simp only[go_sem,D]
def Af(a b:Joint):Bool:=(!(a.x==b.x)|| !(a.y==b.y)) && !(a.fixed && b.fixed)
def jU(n:Nat)(m:Member):Prop:=0<=m.a/\m.a<n/\0<=m.b/\m.b<n/\1<=m.kind/\m.kind<=3
noncomputable def kE(h:List Joint)(m:Member):Bool:=pb (jU h.length m/\∀a b,h[m.a.toNat]?=some a->h[m.b.toNat]?=some b->Af a b=true)
theorem wF{q:List Joint}{m:Member}(h:¬jU q.length m):kE q m=false:=vV fun D=>h D.1
theorem lg{q:List Joint}{m:Member}(h:jU q.length m){a b:Joint}(D:q[m.a.toNat]?=some a)(E:q[m.b.toNat]?=some b):kE q m=Af a b:=by
 refine(Fj ⟨fun K=>⟨h,fun c d G J=>?_⟩,fun M=>M.2 a b D E⟩).symm;rw[D]at G;rw[E]at J;cases G;cases J;exact K
set_option maxRecDepth 100000 in
theorem Dh(row:List V)(off:Nat)(q:List Joint)(m:Member)(D:row[off]?=some (LL cJoint q))(hl:q.length<=maxLen):fn uD conv ext 44 [.tp row off,.agg (cMember m)]=some (Bo (kE q m)):=by
 rw[wQ,wU [.tmp 4] [4] func44]
 by_cases E:m.a<0
 .rw[wF (fun h=>by have:=h.1;omega)]
  simp only[go_sem,D,E]
 by_cases G:(q.length:Int)<=m.a
 .rw[wF (fun h=>by have:=h.2.1;omega)]
  simp only[go_sem,D,E,G]
 by_cases J:m.b<0
 .rw[wF (fun h=>by have:=h.2.2.1;omega)]
  simp only[go_sem,D,E,G,J]
 by_cases K:(q.length:Int)<=m.b
 .rw[wF (fun h=>by have:=h.2.2.2.1;omega)]
  simp only[go_sem,D,E,G,J,K]
 by_cases M:m.kind<1
 .rw[wF (fun h=>by have:=h.2.2.2.2.1;omega)]
  simp only[go_sem,D,E,G,J,K,M]
 by_cases N:3<m.kind
 .rw[wF (fun h=>by have:=h.2.2.2.2.2;omega)]
  simp only[go_sem,D,E,G,J,K,M,N]
 have O:0<=m.a:=by omega
 have a2:m.a<q.length:=by omega
 have R:0<=m.b:=by omega
 have S:m.b<q.length:=by omega
 have a3:m.a.toNat<q.length:=by omega
 have U:m.b.toNat<q.length:=by omega
 rw[lg ⟨O,a2,R,S,by omega,by omega⟩ (zo a3) (zo U)];have f4:=h_ q _ a3;have g4:=h_ q _ U;have f5:=iP q;have f6:m.a.toNat *4+4<=q.length*4:=by omega
 have g6:m.b.toNat *4+4<=q.length*4:=by omega
 have f9:=jM q _ a3;generalize q[m.a.toNat]=a at *;generalize q[m.b.toNat]=b at *;unfold Af;cases Y:(a.x==b.x)<;>cases hy:(a.y==b.y)<;>cases ha:a.fixed<;>cases hb:b.fixed<;>
  (simp only[go_sem,D,E,G,J,K,M,N,O,a2,R,S,f4,g4,f5,f6,g6,f9,Y,hy,ha,hb,bne])<;>rfl
def dB(s:Structure):Prop:=s.joints.length<=6/\s.members.length<=8/\(∀i (h:i<s.joints.length),dF s.joints[i]=true/\ix (aV s.joints[i].name) s.joints=i)/\∀m∈s.members,kE s.joints m=true
theorem ig(s:Structure)(m:Member)(h:s.joints.length<=maxLen):fn uD conv ext 43 [.agg (cMember m),.tp (cStructure s) 0]=some (Bo (!kE s.joints m)):=by
 have q:=Dh (cStructure s) 0 s.joints m rfl h;rw[wQ,wU [.tmp 3] [] func43];simp only[go_sem,q]
theorem mJ(s:Structure)(h:okStructure s):fn uD conv ext 21 [.agg (cStructure s)]=some (Bo (pb (dB s))):=by
 have e2:(s.joints.length:Int)<=9223372036854775807:=by have:=h.1.2.1;omega
 have O:=C_ s.members 43 (fun m=> !kE s.joints m) (.tp (cStructure s) 0) h.2.2.2 (by rfl) (by rfl) (by rfl) (fun x _=>ig s x h.1.2.2);rw[wQ,wU [.tmp 2] [] func21]
 by_cases U:(6:Int)<s.joints.length
 .rw[vV (fun K=>by have:=K.1;omega)]
  simp only[go_sem,U]
 by_cases c2:(8:Int)<s.members.length
 .rw[vV (fun K=>by have:=K.2.1;omega)]
  simp only[go_sem,U,c2]
 simp only[go_sem,U,c2];generalize Y:aC _ _=y;obtain⟨r,rfl,hr⟩:=xM Y s.joints.length (fun k st=>0<st.nx/\st.σ 0=some ⟨cStructure s,0,true⟩/\st.T 1= .rp 0 0/\st.T 16=LL cJoint s.joints/\st.T 17=I s.joints.length/\st.T 18=I k/\∀i (h:i<s.joints.length),i<k->dF s.joints[i]=true/\ix (aV s.joints[i].name) s.joints=i)
  (fun r=>(∃T σ nx,r=(.exit 0,⟨T,σ,nx⟩)/\σ 0=some ⟨cStructure s,0,true⟩/\T 1= .rp 0 0/\∀i (h:i<s.joints.length),dF s.joints[i]=true/\ix (aV s.joints[i].name) s.joints=i)\/(∃T σ nx,r=(.ret,⟨T,σ,nx⟩)/\T 2=Bo false/\¬dB s)) (by
   clear Y;rintro k ⟨T,σ,nx⟩ M ⟨K,D,N,G,E,J,hi⟩;simp only at K D N G E J;have f1:(k:Int)<(s.joints.length:Int):=by omega
   have f2:=wC k;have f3:=uH (n:=(k:Int)+1);have f4:=h_ s.joints k M;have f5:=iP s.joints;have f6:k*4+4<=s.joints.length*4:=by omega
   have f9:=jM s.joints k M;have t1:=Fz s.joints[k] (h.1.1 _ (zS M));have t2:=pR s s.joints[k].name h.1.2.2;have R:¬0=nx:=by omega
   cases hj:dF s.joints[k]with
   |false=>
    rw[hj]at t1;refine .inr ⟨_,by simp only[go_sem,N,G,E,J,f1,f2,f4,f5,f6,f9,t1,R];rfl,by simp,.inr ⟨_,_,_,rfl,?_,fun K=>?_⟩⟩
    .simp only[go_sem]
    .have:=(K.2.2.1 k M).1
     rw[hj]at this;cases this
   |true=>
    rw[hj]at t1
    by_cases S:ix (aV s.joints[k].name) s.joints=k
    .rw[S]at t2
     refine .inl ⟨_,by simp only[go_sem,N,G,E,J,D,f1,f2,f3,f4,f5,f6,f9,t1,t2,R];rfl,?_⟩;simp only[go_sem,N,G,E,D,R];refine⟨by omega,rfl,fun i a1 a6=>?_⟩;rcases yO (yL a6)with q|q
     .exact hi i a1 q
     .subst q;exact⟨hj,S⟩
    .have a7:(ix (aV s.joints[k].name) s.joints !=(k:Int))=true:=by simpa using S
     refine .inr ⟨_,by simp only[go_sem,N,G,E,J,D,f1,f2,f4,f5,f6,f9,t1,t2,a7,R];rfl,by simp,.inr ⟨_,_,_,rfl,?_,fun K=>S (K.2.2.1 k M).2⟩⟩;simp only[go_sem]) (by
   clear Y;rintro ⟨T,σ,nx⟩ ⟨K,D,N,G,E,J,hi⟩;simp only at K D N G E J;exact⟨_,by simp only[go_sem,E,J,zT];rfl,by simp,.inl ⟨_,_,_,rfl,D,by simp only[go_sem,N],fun i h=>hi i h h⟩⟩) (by
   simp only[go_sem];exact fun i _ h=>absurd h (zD _))
 rcases hr with ⟨T,σ,nx,rfl,D,N,hj⟩|⟨T,σ,nx,rfl,h2,K⟩
 .have:pb (dB s)= !decide (0<=ix (fun m=> !kE s.joints m) s.members):=by
   refine(Fj ?_).symm;rw[Bool.not_eq_true',decide_eq_false_iff_not,Int.not_le,Ie];exact⟨fun hq=>⟨by omega,by omega,hj,fun m O=>by simpa using hq m O⟩,fun hq m O=>by simp[hq.2.2.2 m O]⟩
  rw[this];simp only[go_sem,D,N,O]
 .simp only[go_sem,h2,vV K]
theorem wM{n a b:Int}(h:inB n a b=false):¬(a<=n/\n<=b):=by
 unfold inB at h;intro q;rw[decide_eq_true q.1,decide_eq_true q.2]at h;cases h
theorem wL{n a b:Int}(h:inB n a b=true):a<=n/\n<=b:=by
 unfold inB at h;rw[zU,decide_eq_true_eq,decide_eq_true_eq]at h;exact h
theorem mM(s:Structure)(h:okStructure s):fn uD conv ext 16 [.agg (cStructure s)]=some (Bo (pb (dB s))):=by
 have e2:(s.joints.length:Int)<=9223372036854775807:=by have:=h.1.2.1;omega
 have e3:(s.members.length:Int)<=9223372036854775807:=by have:=h.2.2.1;omega
 rw[wQ,wU [.tmp 2] [] func16]
 by_cases c1:(6:Int)<s.joints.length
 .rw[vV (fun E=>by have:=E.1;omega)]
  simp only[go_sem,c1]
 by_cases c2:(8:Int)<s.members.length
 .rw[vV (fun E=>by have:=E.2.1;omega)]
  simp only[go_sem,c1,c2]
 simp only[go_sem,c1,c2];generalize hL:aC _ _=y;obtain⟨r,rfl,hr⟩:=xM hL s.joints.length (fun k st=>0<st.nx/\st.σ 0=some ⟨cStructure s,0,true⟩/\st.T 1= .rp 0 0/\st.T 21=LL cJoint s.joints/\st.T 22=I s.joints.length/\st.T 23=I k/\∀i (h:i<s.joints.length),i<k->dF s.joints[i]=true/\ix (aV s.joints[i].name) s.joints=i)
  (fun r=>(∃T σ nx,r=(.exit 0,⟨T,σ,nx⟩)/\0<nx/\σ 0=some ⟨cStructure s,0,true⟩/\T 1= .rp 0 0/\∀i (h:i<s.joints.length),dF s.joints[i]=true/\ix (aV s.joints[i].name) s.joints=i)\/(∃T σ nx,r=(.ret,⟨T,σ,nx⟩)/\T 2=Bo false/\¬dB s)) (by
   clear hL;rintro k ⟨T,σ,nx⟩ K ⟨E,D,G,R,N,S,hi⟩;simp only at E D G R N S;have f1:(k:Int)<(s.joints.length:Int):=by omega
   have f2:=wC k;have f3:=uH (n:=(k:Int)+1);have f4:=h_ s.joints k K;have f5:=iP s.joints;have f6:k*4+4<=s.joints.length*4:=by omega
   have f9:=jM s.joints k K;have t1:=Fv s.joints[k] (h.1.1 _ (zS K));have t2:=pU s s.joints[k].name h.1.2.2;have U:¬0=nx:=by omega
   cases hj:dF s.joints[k]with
   |false=>
    rw[hj]at t1;refine .inr ⟨_,by simp only[go_sem,G,R,N,S,f1,f2,f4,f5,f6,f9,t1,U];rfl,by simp,.inr ⟨_,_,_,rfl,?_,fun E=>?_⟩⟩
    .simp only[go_sem]
    .have:=(E.2.2.1 k K).1
     rw[hj]at this;cases this
   |true=>
    rw[hj]at t1
    by_cases hk:ix (aV s.joints[k].name) s.joints=k
    .rw[hk]at t2
     refine .inl ⟨_,by simp only[go_sem,G,R,N,S,D,f1,f2,f3,f4,f5,f6,f9,t1,t2,U];rfl,?_⟩;simp only[go_sem,G,R,N,D,U];refine⟨by omega,rfl,fun i a6 a7=>?_⟩;rcases yO (yL a7)with q|q
     .exact hi i a6 q
     .subst q;exact⟨hj,hk⟩
    .have b6:(ix (aV s.joints[k].name) s.joints !=(k:Int))=true:=by simpa using hk
     refine .inr ⟨_,by simp only[go_sem,G,R,N,S,D,f1,f2,f4,f5,f6,f9,t1,t2,b6,U];rfl,by simp,.inr ⟨_,_,_,rfl,?_,fun E=>hk (E.2.2.1 k K).2⟩⟩;simp only[go_sem]) (by
   clear hL;rintro ⟨T,σ,nx⟩ ⟨E,D,G,R,N,S,hi⟩;simp only at E D G R N S;exact⟨_,by simp only[go_sem,N,S,zT];rfl,by simp,.inl ⟨_,_,_,rfl,E,D,by simp only[go_sem,G],fun i h=>hi i h h⟩⟩) (by
   simp only[go_sem];exact fun i _ h=>absurd h (zD _))
 rcases hr with ⟨T,σ,nx,rfl,b7,D,G,hj⟩|⟨T,σ,nx,rfl,h2,E⟩
 .clear hL
  have e4:=uH (n:=(s.joints.length:Int) - 1);simp only[go_sem,D,G,e4];generalize hL:aC _ _=y;obtain⟨r,rfl,hr⟩:=xM hL s.members.length (fun k st=>0<st.nx/\st.σ 0=some ⟨cStructure s,0,true⟩/\st.T 1= .rp 0 0/\st.T 5=I ((s.joints.length:Int) - 1)/\st.T 45=LL cMember s.members/\st.T 46=I s.members.length/\st.T 47=I k/\∀i (h:i<s.members.length),i<k->kE s.joints s.members[i]=true)
   (fun r=>(∃T σ nx,r=(.exit 2,⟨T,σ,nx⟩)/\∀i (h:i<s.members.length),kE s.joints s.members[i]=true)\/(∃T σ nx,r=(.ret,⟨T,σ,nx⟩)/\T 2=Bo false/\¬dB s)) (by
    clear hL;rintro k ⟨T,σ,nx⟩ K ⟨E,D,G,h5,O,J,M,hi⟩;simp only at E D G h5 O J M;have f1:(k:Int)<(s.members.length:Int):=by omega
    have f2:=wC k;have f3:=uH (n:=(k:Int)+1);have f4:=G8 s.members k K;have f5:=E_ s.members;have f6:k*3+3<=s.members.length*3:=by omega
    have f9:=G9 s.members k K;have no:kE s.joints s.members[k]=false->¬dB s:=fun hb E=>by
     rw[E.2.2.2 _ (zS K)]at hb;cases hb
    obtain⟨m,b5⟩:∃m,m=s.members[k]:=⟨_,rfl⟩;rw[<- b5]at f4 no;have t1:=jR m.a 0 ((s.joints.length:Int) - 1);have t2:=jR m.b 0 ((s.joints.length:Int) - 1);have t3:=jR m.kind 1 3;have U:¬0=nx:=by omega
    cases ha:inB m.a 0 ((s.joints.length:Int) - 1)with
    |false=>
     rw[ha]at t1;refine .inr ⟨_,by simp only[go_sem,G,h5,O,J,M,D,f1,f2,f4,f5,f6,f9,t1,U];rfl,by simp,.inr ⟨_,_,_,rfl,by simp only[go_sem],no (wF fun Y=>?_)⟩⟩;exact wM ha ⟨Y.1,by have:=Y.2.1;omega⟩
    |true=>
    rw[ha]at t1;cases hb:inB m.b 0 ((s.joints.length:Int) - 1)with
    |false=>
     rw[hb]at t2;refine .inr ⟨_,by simp only[go_sem,G,h5,O,J,M,D,f1,f2,f4,f5,f6,f9,t1,t2,U];rfl,by simp,.inr ⟨_,_,_,rfl,by simp only[go_sem],no (wF fun Y=>?_)⟩⟩;exact wM hb ⟨Y.2.2.1,by have:=Y.2.2.2.1;omega⟩
    |true=>
    rw[hb]at t2;cases hc:inB m.kind 1 3 with
    |false=>
     rw[hc]at t3;refine .inr ⟨_,by simp only[go_sem,G,h5,O,J,M,D,f1,f2,f4,f5,f6,f9,t1,t2,t3,U];rfl,by simp,.inr ⟨_,_,_,rfl,by simp only[go_sem],no (wF fun Y=>?_)⟩⟩;exact wM hc ⟨Y.2.2.2.2.1,Y.2.2.2.2.2⟩
    |true=>
    rw[hc]at t3;have qa:=wL ha;have qb:=wL hb;have qc:=wL hc;have a1:0<=m.a:=qa.1;have a2:m.a<s.joints.length:=by omega
    have b1:0<=m.b:=qb.1;have b2:m.b<s.joints.length:=by omega
    have a3:m.a.toNat<s.joints.length:=by omega
    have b3:m.b.toNat<s.joints.length:=by omega
    have hp:=lg ⟨a1,a2,b1,b2,qc.1,qc.2⟩ (zo a3) (zo b3);have k4:=h_ s.joints _ a3;have g4:=h_ s.joints _ b3;have k5:=iP s.joints;have k6:m.a.toNat *4+4<=s.joints.length*4:=by omega
    have g6:m.b.toNat *4+4<=s.joints.length*4:=by omega
    have k9:=jM s.joints _ a3;generalize s.joints[m.a.toNat]=a at *;generalize s.joints[m.b.toNat]=b at *;unfold Af at hp;have n1:¬nx=nx+1:=by omega
    have n2:¬nx=nx+1+1:=by omega
    have n3:¬nx+1=nx+1+1:=by omega
    have n4:¬0=nx+1:=by omega
    have n5:¬0=nx+1+1:=by omega
    cases hx:(a.x==b.x)<;>cases hy:(a.y==b.y)<;>cases a8:a.fixed<;>cases b4:b.fixed<;>simp only[hx,hy,a8,b4,Bool.not_true,Bool.not_false,Bool.or_true,Bool.true_or,Bool.or_false,Bool.and_true,Bool.and_false,Bool.true_and,Bool.false_and]at hp<;>
    first
    |(refine .inl ⟨_,by simp only[go_sem,G,h5,O,J,M,D,f1,f2,f3,f4,f5,f6,f9,t1,t2,t3,U,a1,a2,b1,b2,k4,g4,k5,k6,g6,k9,n1,n2,n3,n4,n5,hx,hy,a8,b4];rfl,?_⟩
      simp only[go_sem,G,h5,O,J,D,U,n4,n5];refine⟨by omega,rfl,fun i a6 a7=>?_⟩;rcases yO (yL a7)with q|q
      .exact hi i a6 q
      .subst q;rw[<- b5];exact hp)
    |exact .inr ⟨_,by simp only[go_sem,G,h5,O,J,M,D,f1,f2,f4,f5,f6,f9,t1,t2,t3,U,a1,a2,b1,b2,k4,g4,k5,k6,g6,k9,n1,n2,n3,n4,n5,hx,hy,a8,b4];rfl,by simp,.inr ⟨_,_,_,rfl,by simp only[go_sem],no hp⟩⟩) (by
    clear hL;rintro ⟨T,σ,nx⟩ ⟨E,D,G,h5,O,J,M,hi⟩;simp only at E D G J M;exact⟨_,by simp only[go_sem,J,M,zT];rfl,by simp,.inl ⟨_,_,_,rfl,fun i h=>hi i h h⟩⟩) (by
    simp only[go_sem,G,D];exact⟨b7,fun i _ h=>absurd h (zD _)⟩)
  rcases hr with ⟨T,σ,nx,rfl,Y⟩|⟨T,σ,nx,rfl,h2,E⟩
  .have:dB s:=⟨by omega,by omega,hj,fun m b8=>by obtain⟨i,hi,rfl⟩:=List.getElem_of_mem b8;exact Y i hi⟩
   simp only[go_sem,jc this]
  .simp only[go_sem,h2,vV E]
 .simp only[go_sem,h2,vV E]
def bM(n:Nat)(l:List Int):Prop:=l.length=2*n/\∀x∈l,inB x (-100) 100=true
theorem kF(x:Int):fn uD conv ext 60 [I x]=some (Bo (!inB x (-100) 100)):=by
 have h:=Hr x;rw[wQ,wU [.tmp 2] [] func60];simp only[go_sem,h]
theorem Di(row:List V)(off:Nat)(h:List Joint)(l:List Int)(J:row[off]?=some (LL cJoint h))(hj:h.length<=140737488351232)(M:l.length<=maxLen):fn uD conv ext 49 [.tp row off,LI l]=some (Bo (pb (bM h.length l))):=by
 have K:=uH (n:=2*(h.length:Int));have N:=Jo l 60 (fun x=> !inB x (-100) 100) M (by rfl) (fun x _=>kF x);rw[wQ,wU [.tmp 4] [] func49]
 by_cases D:(l.length:Int)=2*(h.length:Int)
 .have q:((l.length:Int)==2*(h.length:Int))=true:=by simpa using D
  have:pb (bM h.length l)= !decide (0<=ix (fun x=> !inB x (-100) 100) l):=by
   refine(Fj ?_).symm;rw[Bool.not_eq_true',decide_eq_false_iff_not,Int.not_le,Ie];exact⟨fun E=>⟨by omega,fun m G=>by simpa using E m G⟩,fun E m G=>by simp[E.2 m G]⟩
  rw[this];simp only[go_sem,J,K,N,q]
 .have q:((l.length:Int)==2*(h.length:Int))=false:=by simpa using D
  rw[vV (fun O=>D (by have:=O.1;omega))];simp only[go_sem,J,K,q]
theorem Hw(s:Structure)(l:List Int)(h:okStructure s)(q:l.length<=maxLen):fn uD conv ext 30 [.agg (cStructure s),LI l]=some (Bo (pb (dB s) && pb (bM s.joints.length l))):=by
 have D:=mJ s h;have E:=Di (cStructure s) 0 s.joints l rfl (by have:=h.1.2.1;omega) q;rw[wQ,wU [.tmp 4] [] func30];generalize pb (dB s)=b at *;cases b<;>simp only[go_sem,D,E]
theorem Hy(s:Structure)(l:List Int)(h:okStructure s)(hl:l.length<=maxLen):fn uD conv ext 28 [.agg (cStructure s),LI l]=some (Bo (pb (dB s) && pb (bM s.joints.length l))):=by
 have S:=mM s h;have e2:(l.length:Int)<=9223372036854775807:=by unfold maxLen at hl;omega
 have e1:=uH (n:=2*(s.joints.length:Int)) (by have:=h.1.2.1;have:=h.2.2.1;omega) (by have:=h.1.2.1;have:=h.2.2.1;omega);rw[wQ,wU [.tmp 4] [] func28];generalize pb (dB s)=b at *;cases b with
 |false=>simp only[go_sem,S]
 |true=>
 by_cases N:(l.length:Int)=2*(s.joints.length:Int)
 .have K:((l.length:Int) !=2*(s.joints.length:Int))=false:=by simpa using N
  simp only[go_sem,S,e1,K];generalize U:aC _ _=y;obtain⟨r,rfl,hr⟩:=xM U l.length (fun k st=>st.T 19=LI l/\st.T 20=I l.length/\st.T 21=I k/\∀i (h:i<l.length),i<k->inB l[i] (-100) 100=true)
   (fun r=>(∃T σ nx,r=(.exit 0,⟨T,σ,nx⟩)/\bM s.joints.length l)\/(∃T σ nx,r=(.ret,⟨T,σ,nx⟩)/\T 4=Bo false/\¬bM s.joints.length l)) (by
    clear U;rintro k ⟨T,σ,nx⟩ M ⟨E,D,G,hi⟩;simp only at E D G;have f1:(k:Int)<(l.length:Int):=by omega
    have f2:=wC k;have f3:=uH (n:=(k:Int)+1);have f4:(l.flatMap cI)[k]?=some (I l[k]):=jI I l k M;have f9:=G_ l k M;have t1:=jR l[k] (-100) 100;cases R:inB l[k] (-100) 100 with
    |true=>
     rw[R]at t1;refine .inl ⟨_,by simp only[go_sem,E,D,G,f1,f2,f3,f4,f9,t1];rfl,?_⟩;simp only[go_sem,E,D];refine⟨rfl,fun i J Y=>?_⟩;rcases yO (yL Y)with q|q
     .exact hi i J q
     .subst q;exact R
    |false=>
     rw[R]at t1;refine .inr ⟨_,by simp only[go_sem,E,D,G,f1,f2,f4,f9,t1];rfl,by simp,.inr ⟨_,_,_,rfl,by simp only[go_sem],fun O=>?_⟩⟩;have:=O.2 _ (zS M);rw[R]at this;cases this) (by
    clear U;rintro ⟨T,σ,nx⟩ ⟨E,D,G,hi⟩;simp only at E D G;exact⟨_,by simp only[go_sem,D,G,zT];rfl,by simp,.inl ⟨_,_,_,rfl,by omega,fun x hx=>by obtain⟨i,J,rfl⟩:=List.getElem_of_mem hx;exact hi i J J⟩⟩) (by
    simp only[go_sem];exact fun i _ h=>absurd h (zD _))
  rcases hr with ⟨T,σ,nx,rfl,hm⟩|⟨T,σ,nx,rfl,N,O⟩
  .simp only[go_sem,jc hm]
  .simp only[go_sem,N,vV O]
 .have K:((l.length:Int) !=2*(s.joints.length:Int))=true:=by simpa using N
  rw[vV (p:=bM s.joints.length l) (fun O=>N (by have:=O.1;omega))];simp only[go_sem,S,e1,K]
end Go.Proofs.YtccfmbmpicnemaaDoor
/- The text of a load: both sides. -/
namespace Go.Proofs.YtccfmbmpicnemaaDoor
open Go Go.TV
theorem Ig(n:Int)(q:-1000000000000000000<=n)(D:n<=1000000000000000000):fn uD conv ext 31 [I n]=some (Sg (bV n)):=by
 have h:o7 [I n] ah 0=some (Sg (bV n),ah,0):=yC ⟨by omega,by omega⟩;rw[wQ,DJ (g:=o7) rfl,h];simp only[go_sem]
def L6(h:List Joint)(i:Nat):Joint:=h.getD i ⟨⟨#[]⟩,0,0,false⟩
def L8(j:Joint)(x y:Int):ByteArray:=j.name++⟨#[58]⟩++bV x++⟨#[44]⟩++bV y
def Kv(h:List Joint)(l:List Int)(i:Nat):List ByteArray:=if l.getD (2*i) 0=0/\l.getD (2*i+1) 0=0 then []else [L8 (L6 h i) (l.getD (2*i) 0) (l.getD (2*i+1) 0)]
def dI(h:List Joint)(l:List Int):Nat->List ByteArray
 |0=>[]
 |k+1=>dI h l k++Kv h l k
theorem wJ(h:List Joint)(l:List Int):∀k,(dI h l k).length<=k
 |0=>zu 0
 |k+1=>by
  rw[dI,zX];have:=wJ h l k;have:(Kv h l k).length<=1:=by unfold Kv;split<;>simp
  omega
theorem lq{n:Int}(h:-100<=n/\n<=100):(bV n).size<=102:=by
 by_cases D:0<=n
 .obtain⟨k,rfl⟩:∃k:Nat,n=(k:Int):=⟨n.toNat,by omega⟩
  rw[kX];have:=jP k;omega
 .obtain⟨k,rfl,q⟩:∃k:Nat,n= -(k:Int)/\1<=k:=⟨n.natAbs,by omega,by omega⟩
  rw[kY q,vF];have:=jP k;have:(⟨#[45]⟩:ByteArray).size=1:=rfl;omega
noncomputable def pV(s:Structure)(l:List Int):ByteArray:=if(pb (dB s) && pb (bM s.joints.length l))=true then(if dI s.joints l s.joints.length=[]then ⟨#[45]⟩else bG (dI s.joints l s.joints.length) ⟨#[32]⟩)else ⟨#[]⟩
structure Jp (s:Structure) (l:List Int) (k:Nat) (j:Joint) (x y:Int) (A B C:ByteArray):Prop where
 hj:k<s.joints.length
 ej:j=s.joints[k]
 x0:-100<=x/\x<=100
 y0:-100<=y/\y<=100
 gx:(l.flatMap cI)[2*k]?=some (I x)
 gy:(l.flatMap cI)[2*k+1]?=some (I y)
 lx:2*k<l.length
 ly:2*k+1<l.length
 next:dI s.joints l (k+1)=dI s.joints l k++(if x=0/\y=0 then []else [j.name++⟨#[58]⟩++bV x++⟨#[44]⟩++bV y])
 sA:j.name.size<=8
 eA:A=j.name++⟨#[58]⟩
 eB:B=A++bV x
 eC:C=B++⟨#[44]⟩
 zA:A.size<=9
 zB:B.size<=111
 zC:C.size<=112
 zx:(bV x).size<=102
 zy:(bV y).size<=102
theorem u_{s:Structure}(hs:dB s){l:List Int}(h:bM s.joints.length l){k:Nat}(E:k<s.joints.length):∃j x y A B C,Jp s l k j x y A B C:=by
 have q:2*k<l.length:=by rw[h.1];omega
 have D:2*k+1<l.length:=by rw[h.1];omega
 have G:=wL (h.2 _ (zS q));have J:=wL (h.2 _ (zS D));have zx:=lq G;have zy:=lq J;have K:s.joints[k].name.size<=8:=by
  have:=(hs.2.2.1 k E).1;unfold dF at this;rw[zU]at this;exact(pO this.1).2.2
 have M:(⟨#[58]⟩:ByteArray).size=1:=rfl;have N:(⟨#[44]⟩:ByteArray).size=1:=rfl;refine⟨s.joints[k],l[2*k],l[2*k+1],_,_,_,E,rfl,G,J,jI I l _ q,jI I l _ D,q,D,?_,K,rfl,rfl,rfl,?_,?_,?_,zx,zy⟩
 .rw[dI]
  unfold Kv L8 L6;rw[List.getD_eq_getElem?_getD,zo q,List.getD_eq_getElem?_getD,zo D,List.getD_eq_getElem?_getD,zo E];rfl
 .rw[vF];omega
 .rw[vF,vF];omega
 .rw[vF,vF,vF];omega
theorem iq{s:Structure}(hs:dB s){l:List Int}(q:bM s.joints.length l):∀ {k:Nat},k<=s.joints.length->∀x∈dI s.joints l k,x.size<=4096
 |0,_,x,h=>by cases h
 |k+1,hk,x,h=>by
  obtain⟨j,X,Y,A,B,C,H⟩:=u_ hs q (k:=k) (by omega);rw[H.next,List.mem_append]at h;rcases h with h|h
  .exact iq hs q (by omega) x h
  .split at h
   .cases h
   .rw[List.mem_singleton]at h
    rw[h,<- H.eA,<- H.eB,<- H.eC,vF];have:=H.zC;have:=H.zy;omega
def GW(T:Nat->V)(σ:Store)(nx t:Nat)(acc:List ByteArray):Prop:=(T t= .nil/\acc=[])\/∃b,T t= .rs b 0 acc.length/\acc≠[]/\σ b=some ⟨acc.flatMap oW,1,true⟩/\b<nx
theorem pW{s:Structure}(ho:okStructure s)(l:List Int)(a1:l.length<=maxLen):fn uD conv ext 10 [.agg (cStructure s),LI l]=some (Sg (pV s l)):=by
 have k1:=Hy s l ho a1;obtain⟨w,ew⟩:∃w,w=(pb (dB s) && pb (bM s.joints.length l)):=⟨_,rfl⟩;rw[<- ew]at k1;unfold pV;rw[<- ew,wQ,wU [.tmp 4] [8] func10];cases w with
 |false=>simp only[go_sem,k1,zO,if_false]
 |true=>
 rw[yC rfl];rw[eq_comm,zU]at ew;have hs:=pO ew.1;have hl:=pO ew.2;have MO:=hs.1;simp only[go_sem,k1];generalize hL:aC _ _=z;obtain⟨r,rfl,T,σ,nx,rfl,E⟩:=xM hL s.joints.length (fun k st=>st.T 1=LI l/\st.T 14=LL cJoint s.joints/\st.T 15=I s.joints.length/\st.T 16=I k/\GW st.T st.σ st.nx 5 (dI s.joints l k))
  (fun r=>∃T σ nx,r=(.exit 0,⟨T,σ,nx⟩)/\GW T σ nx 5 (dI s.joints l s.joints.length)) (by
   clear hL;rintro k ⟨T,σ,nx⟩ N ⟨t1,t14,t15,t16,E⟩;simp only at t1 t14 t15 t16 E;obtain⟨j,x,y,A,B,C,H⟩:=u_ hs hl N;have f1:(k:Int)<(s.joints.length:Int):=by omega
   have f2:=wC k;have f3:=uH (n:=(k:Int)+1);have f4:=h_ s.joints k N;have f5:=iP s.joints;have f6:k*4+4<=s.joints.length*4:=by omega
   have f9:=jM s.joints k N;rw[<- H.ej]at f4;have e1:=uH (n:=2*(k:Int));have e2:=uH (n:=2*(k:Int)+1);have e3:(2*(k:Int)).toNat=2*k:=by omega
   have e4:(2*(k:Int)+1).toNat=2*k+1:=by omega
   have e5:(0:Int)<=2*(k:Int):=by omega
   have e6:(0:Int)<=2*(k:Int)+1:=by omega
   have e7:2*(k:Int)<(l.length:Int):=by have:=H.lx;omega
   have e8:2*(k:Int)+1<(l.length:Int):=by have:=H.ly;omega
   have gx:=H.gx;have gy:=H.gy;have e9:¬l.flatMap cI=[]:=fun h=>by rw[h]at gx;cases gx
   have q1:=jQ x (by have:=H.x0;omega) (by have:=H.x0;omega);have q2:=jQ y (by have:=H.y0;omega) (by have:=H.y0;omega)
   by_cases hz:x=0/\y=0
   .have q:=H.next
    rw[yC hz,yN]at q;rw[q];have G:(x !=0)=false:=by rw[hz.1];rfl
    have J:(y !=0)=false:=by rw[hz.2];rfl
    refine .inl ⟨_,by simp only[go_sem,t1,t14,t15,t16,f1,f2,f3,f4,f5,f6,f9,N,e1,e2,e3,e4,e5,e6,e7,e8,e9,gx,gy,G,J];rfl,?_⟩;refine⟨t1,t14,t15,rfl,?_⟩;rcases E with ⟨g1,g2⟩|⟨b,g1,g2,g3,g4⟩
    .exact .inl ⟨by simp only[go_sem,g1],g2⟩
    .exact .inr ⟨b,by simp only[go_sem,g1],g2,by show upd σ nx _ b=_;rw[gq];exact g3,by show b<nx+1;omega⟩
   .have q:=H.next
    rw[yD hz]at q;obtain⟨D,R⟩:∃D,D=C++bV y:=⟨_,rfl⟩;rw[<- H.eA,<- H.eB,<- H.eC,<- R]at q;have sA:=H.sA;have eA:=H.eA;have eB:=H.eB;have eC:=H.eC;have zA:=H.zA;have zB:=H.zB;have zC:=H.zC;have zx:=H.zx;have zy:=H.zy;obtain⟨X,eX⟩:∃X,X=bV x:=⟨_,rfl⟩;obtain⟨Y,eY⟩:∃Y,Y=bV y:=⟨_,rfl⟩;rw[<- eX]at q1 eB zx;rw[<- eY]at q2 R zy;have MP:(⟨#[58]⟩:ByteArray).size=1:=rfl;have MQ:(⟨#[44]⟩:ByteArray).size=1:=rfl;have O:j.name.size+(⟨#[58]⟩:ByteArray).size<=9223372036854775807:=by omega
    have K:j.name.size+(#[58]:Array UInt8).size<=9223372036854775807:=O;have s2:A.size+X.size<=9223372036854775807:=by omega
    have s3:B.size+(⟨#[44]⟩:ByteArray).size<=9223372036854775807:=by omega
    have M:B.size+(#[44]:Array UInt8).size<=9223372036854775807:=s3;have s4:C.size+Y.size<=9223372036854775807:=by omega
    have a6:dI s.joints l (k+1)≠[]:=by rw[q];simp
    have n0:x≠0\/y≠0:=by omega
    have w1:nx<nx+1:=by omega
    have w2:nx<nx+1+1:=by omega
    have w3:nx+1<nx+1+1:=by omega
    have w4:¬nx=nx+1:=by omega
    have w5:¬nx+1=nx:=by omega
    have w6:(nx==nx+1)=false:=beq_eq_false_iff_ne.mpr (by omega);have w7:(nx+1==nx)=false:=beq_eq_false_iff_ne.mpr (by omega);obtain⟨S,U⟩:∃S,S=upd (upd σ nx (some ⟨[Sg j.name,I j.x,I j.y,Bo j.fixed],0,true⟩)) (nx+1) (some ⟨[.sc (.string D)],1,true⟩):=⟨_,rfl⟩;have c1:S (nx+1)=some ⟨[.sc (.string D)],1,true⟩:=by rw[U,uQ]
    rcases E with ⟨g1,g2⟩|⟨b,g1,g2,g3,g4⟩
    .rw[g2,List.nil_append]at q
     have l1:(1:Nat)<=[V.sc (Value.string D)].length:=zu 1;have l2:[V.sc (Value.string D)].take 1=[V.sc (Value.string D)]:=rfl;have l3:(1:Nat)<=maxLen/\1*16<=140737488355328:=⟨by decide,by decide⟩
     by_cases hx:x=0
     .have G:(x !=0)=false:=by rw[hx];rfl
      have J:(y !=0)=true:=by simp;omega
      refine .inl ⟨_,by simp only[go_sem,t1,t14,t15,t16,g1,f1,f2,f3,f4,f5,f6,f9,N,e1,e2,e3,e4,e5,e6,e7,e8,e9,gx,gy,G,J,q1,q2,O,K,<- eA,s2,<- eB,s3,M,<- eC,s4,<- R,w1,w2,w3,w4,w5,w6,w7,vw,<- U,c1,l1,l2,l3];rfl,?_⟩;rw[q];refine⟨t1,t14,t15,rfl,.inr ⟨nx+1+1,rfl,by simp,?_,by show nx+1+1<nx+1+1+1;omega⟩⟩;show ay _ _ _ _ _ _=_;unfold ay;rw[yC (.inr ⟨by omega,by omega⟩),uQ];rfl
     .have G:(x !=0)=true:=by simp;omega
      have J:True:=trivial;refine .inl ⟨_,by simp only[go_sem,t1,t14,t15,t16,g1,f1,f2,f3,f4,f5,f6,f9,N,e1,e2,e3,e4,e5,e6,e7,e8,e9,gx,gy,G,J,q1,q2,O,K,<- eA,s2,<- eB,s3,M,<- eC,s4,<- R,w1,w2,w3,w4,w5,w6,w7,vw,<- U,c1,l1,l2,l3];rfl,?_⟩;rw[q];refine⟨t1,t14,t15,rfl,.inr ⟨nx+1+1,rfl,by simp,?_,by show nx+1+1<nx+1+1+1;omega⟩⟩;show ay _ _ _ _ _ _=_;unfold ay;rw[yC (.inr ⟨by omega,by omega⟩),uQ];rfl
    .have v1:decide (b<nx+1+1)=true:=decide_eq_true (by omega)
     have v2:¬nx+1=b:=by omega
     have v3:restrict S [b,nx+1] (nx+1)=some ⟨[.sc (.string D)],1,true⟩:=by unfold restrict;rw[yC (by simp),c1]
     have v4:restrict S [b,nx+1] b=some ⟨(dI s.joints l k).flatMap oW,1,true⟩:=by unfold restrict;rw[yC (by simp),U,gq,gq,g3]
     have v5:((dI s.joints l k).flatMap oW).length=(dI s.joints l k).length:=by rw[Fh,Nat.mul_one]
     have v6:=wJ s.joints l k;have v7:=o9 (σ:=restrict S [b,nx+1]) (nx:=nx+1+1) (bytes:=16) (m:=1) (row:=[V.sc (.string D)]) v4 v5 rfl (by decide) (by unfold maxLen;omega) (by omega) rfl;have l1:(1:Nat)<=[V.sc (Value.string D)].length:=zu 1;have l2:[V.sc (Value.string D)].take 1=[V.sc (Value.string D)]:=rfl;have w8:(nx==b)=false:=beq_eq_false_iff_ne.mpr (by omega);have w9:(nx+1==b)=false:=beq_eq_false_iff_ne.mpr (by omega);have u1:(b==nx)=false:=beq_eq_false_iff_ne.mpr (by omega);have u2:(b==nx+1)=false:=beq_eq_false_iff_ne.mpr (by omega)
     by_cases hx:x=0
     .have G:(x !=0)=false:=by rw[hx];rfl
      have J:(y !=0)=true:=by simp;omega
      refine .inl ⟨_,by simp only[go_sem,t1,t14,t15,t16,g1,f1,f2,f3,f4,f5,f6,f9,N,e1,e2,e3,e4,e5,e6,e7,e8,e9,gx,gy,G,J,q1,q2,O,K,<- eA,s2,<- eB,s3,M,<- eC,s4,<- R,w1,w2,w3,w4,w5,w6,w7,vw,<- U,c1,v1,v2,v3,v7,l1,l2,w8,w9,u1,u2];rfl,?_⟩;rw[q];refine⟨t1,t14,t15,rfl,.inr ⟨nx+1+1,by rw[zX];rfl,by simp,?_,by show nx+1+1<nx+1+1+1;omega⟩⟩;show ay _ _ _ _ _ _=_;unfold ay;rw[yC (.inr ⟨by omega,by omega⟩),uQ,yJ];rfl
     .have G:(x !=0)=true:=by simp;omega
      have J:True:=trivial;refine .inl ⟨_,by simp only[go_sem,t1,t14,t15,t16,g1,f1,f2,f3,f4,f5,f6,f9,N,e1,e2,e3,e4,e5,e6,e7,e8,e9,gx,gy,G,J,q1,q2,O,K,<- eA,s2,<- eB,s3,M,<- eC,s4,<- R,w1,w2,w3,w4,w5,w6,w7,vw,<- U,c1,v1,v2,v3,v7,l1,l2,w8,w9,u1,u2];rfl,?_⟩;rw[q];refine⟨t1,t14,t15,rfl,.inr ⟨nx+1+1,by rw[zX];rfl,by simp,?_,by show nx+1+1<nx+1+1+1;omega⟩⟩;show ay _ _ _ _ _ _=_;unfold ay;rw[yC (.inr ⟨by omega,by omega⟩),uQ,yJ];rfl) (by
   clear hL;rintro ⟨T,σ,nx⟩ ⟨t1,t14,t15,t16,E⟩;simp only at t1 t14 t15 t16 E;refine⟨_,by simp only[go_sem,t15,t16,zT];rfl,by simp,_,_,_,rfl,?_⟩;unfold GW at E⊢
   simpa only[go_sem]using E) (by
   simp only[go_sem];exact .inl ⟨by simp only[go_sem],rfl⟩)
 rcases E with ⟨g1,g2⟩|⟨b,g1,g2,g3,g4⟩
 .rw[yC g2]
  simp only[go_sem,g1]
 .rw[yD g2]
  have hlen:=wJ s.joints l s.joints.length;obtain⟨W,eW⟩:∃W,W=dI s.joints l s.joints.length:=⟨_,rfl⟩;rw[<- eW]at g1 g2 g3 hlen;have hW:∀x∈W,x.size<=4096:=fun x hx=>by
   rw[eW]at hx;exact iq hs hl (zu _) x hx
  have hj:=J7 W ⟨#[32]⟩ (by omega) (m:=4096) (by decide) hW (by decide);have O:∀d,strip σ (d+1) (.rs b 0 W.length)=some (LL oW W,[b]):=fun d=>by
   rw[jE,g3];have h5:=Fh W;simp only[zq,yP,List.drop_zero,h5,zu,if_true];rw[zH (by omega),um (fun x=>by rw[uy,jD,uo];rfl)];rfl
  have z1:((W.length:Int)==0)=false:=beq_eq_false_iff_ne.mpr (by have:=List.length_pos_iff.mpr g2;omega);have z2:(W.length==0)=false:=beq_eq_false_iff_ne.mpr (by have:=List.length_pos_iff.mpr g2;omega);rw[<- eW];simp only[go_sem,g1,O,hj,z1,z2]
theorem pX{s:Structure}(ho:okStructure s)(l:List Int)(a1:l.length<=maxLen):fn uD conv ext 12 [.agg (cStructure s),LI l]=some (Sg (pV s l)):=by
 have k1:=Hw s l ho a1;obtain⟨w,ew⟩:∃w,w=(pb (dB s) && pb (bM s.joints.length l)):=⟨_,rfl⟩;rw[<- ew]at k1;unfold pV;rw[<- ew,wQ,wU [.tmp 4] [9] func12];cases w with
 |false=>simp only[go_sem,k1,zO,if_false]
 |true=>
 rw[yC rfl];rw[eq_comm,zU]at ew;have hs:=pO ew.1;have hl:=pO ew.2;have MO:=hs.1;simp only[go_sem,k1];generalize hL:aC _ _=z;obtain⟨r,rfl,T,σ,nx,rfl,E⟩:=xM hL s.joints.length (fun k st=>st.T 1=LI l/\st.T 15=LL cJoint s.joints/\st.T 16=I s.joints.length/\st.T 17=I k/\GW st.T st.σ st.nx 5 (dI s.joints l k))
  (fun r=>∃T σ nx,r=(.exit 0,⟨T,σ,nx⟩)/\GW T σ nx 5 (dI s.joints l s.joints.length)) (by
   clear hL;rintro k ⟨T,σ,nx⟩ N ⟨t1,t15,t16,t17,E⟩;simp only at t1 t15 t16 t17 E;obtain⟨j,x,y,A,B,C,H⟩:=u_ hs hl N;have f1:(k:Int)<(s.joints.length:Int):=by omega
   have f2:=wC k;have f3:=uH (n:=(k:Int)+1);have f4:=h_ s.joints k N;have f5:=iP s.joints;have f6:k*4+4<=s.joints.length*4:=by omega
   have f9:=jM s.joints k N;rw[<- H.ej]at f4;have e1:=uH (n:=2*(k:Int));have e2:=uH (n:=2*(k:Int)+1);have e3:(2*(k:Int)).toNat=2*k:=by omega
   have e4:(2*(k:Int)+1).toNat=2*k+1:=by omega
   have e5:(0:Int)<=2*(k:Int):=by omega
   have e6:(0:Int)<=2*(k:Int)+1:=by omega
   have e7:2*(k:Int)<(l.length:Int):=by have:=H.lx;omega
   have e8:2*(k:Int)+1<(l.length:Int):=by have:=H.ly;omega
   have gx:=H.gx;have gy:=H.gy;have e9:¬l.flatMap cI=[]:=fun h=>by rw[h]at gx;cases gx
   have q1:=Ig x (by have:=H.x0;omega) (by have:=H.x0;omega);have q2:=Ig y (by have:=H.y0;omega) (by have:=H.y0;omega)
   by_cases hz:x=0/\y=0
   .have q:=H.next
    rw[yC hz,yN]at q;rw[q];have G:(x !=0)=false:=by rw[hz.1];rfl
    have J:(y !=0)=false:=by rw[hz.2];rfl
    refine .inl ⟨_,by simp only[go_sem,t1,t15,t16,t17,f1,f2,f3,f4,f5,f6,f9,N,e1,e2,e3,e4,e5,e6,e7,e8,e9,gx,gy,G,J];rfl,?_⟩;refine⟨t1,t15,t16,rfl,?_⟩;rcases E with ⟨g1,g2⟩|⟨b,g1,g2,g3,g4⟩
    .exact .inl ⟨by simp only[go_sem,g1],g2⟩
    .exact .inr ⟨b,by simp only[go_sem,g1],g2,by show upd σ nx _ b=_;rw[gq];exact g3,by show b<nx+1;omega⟩
   .have q:=H.next
    rw[yD hz]at q;obtain⟨D,R⟩:∃D,D=C++bV y:=⟨_,rfl⟩;rw[<- H.eA,<- H.eB,<- H.eC,<- R]at q;have sA:=H.sA;have eA:=H.eA;have eB:=H.eB;have eC:=H.eC;have zA:=H.zA;have zB:=H.zB;have zC:=H.zC;have zx:=H.zx;have zy:=H.zy;obtain⟨X,eX⟩:∃X,X=bV x:=⟨_,rfl⟩;obtain⟨Y,eY⟩:∃Y,Y=bV y:=⟨_,rfl⟩;rw[<- eX]at q1 eB zx;rw[<- eY]at q2 R zy;have MP:(⟨#[58]⟩:ByteArray).size=1:=rfl;have MQ:(⟨#[44]⟩:ByteArray).size=1:=rfl;have O:j.name.size+(⟨#[58]⟩:ByteArray).size<=9223372036854775807:=by omega
    have K:j.name.size+(#[58]:Array UInt8).size<=9223372036854775807:=O;have s2:A.size+X.size<=9223372036854775807:=by omega
    have s3:B.size+(⟨#[44]⟩:ByteArray).size<=9223372036854775807:=by omega
    have M:B.size+(#[44]:Array UInt8).size<=9223372036854775807:=s3;have s4:C.size+Y.size<=9223372036854775807:=by omega
    have a6:dI s.joints l (k+1)≠[]:=by rw[q];simp
    have n0:x≠0\/y≠0:=by omega
    have w1:nx<nx+1:=by omega
    have w2:nx<nx+1+1:=by omega
    have w3:nx+1<nx+1+1:=by omega
    have w4:¬nx=nx+1:=by omega
    have w5:¬nx+1=nx:=by omega
    have w6:(nx==nx+1)=false:=beq_eq_false_iff_ne.mpr (by omega);have w7:(nx+1==nx)=false:=beq_eq_false_iff_ne.mpr (by omega);obtain⟨S,U⟩:∃S,S=upd (upd σ nx (some ⟨[Sg j.name,I j.x,I j.y,Bo j.fixed],0,true⟩)) (nx+1) (some ⟨[.sc (.string D)],1,true⟩):=⟨_,rfl⟩;have c1:S (nx+1)=some ⟨[.sc (.string D)],1,true⟩:=by rw[U,uQ]
    rcases E with ⟨g1,g2⟩|⟨b,g1,g2,g3,g4⟩
    .rw[g2,List.nil_append]at q
     have l1:(1:Nat)<=[V.sc (Value.string D)].length:=zu 1;have l2:[V.sc (Value.string D)].take 1=[V.sc (Value.string D)]:=rfl;have l3:(1:Nat)<=maxLen/\1*16<=140737488355328:=⟨by decide,by decide⟩
     by_cases hx:x=0
     .have G:(x !=0)=false:=by rw[hx];rfl
      have J:(y !=0)=true:=by simp;omega
      refine .inl ⟨_,by simp only[go_sem,t1,t15,t16,t17,g1,f1,f2,f3,f4,f5,f6,f9,N,e1,e2,e3,e4,e5,e6,e7,e8,e9,gx,gy,G,J,q1,q2,O,K,<- eA,s2,<- eB,s3,M,<- eC,s4,<- R,w1,w2,w3,w4,w5,w6,w7,vw,<- U,c1,l1,l2,l3];rfl,?_⟩;rw[q];refine⟨t1,t15,t16,rfl,.inr ⟨nx+1+1,rfl,by simp,?_,by show nx+1+1<nx+1+1+1;omega⟩⟩;show ay _ _ _ _ _ _=_;unfold ay;rw[yC (.inr ⟨by omega,by omega⟩),uQ];rfl
     .have G:(x !=0)=true:=by simp;omega
      have J:True:=trivial;refine .inl ⟨_,by simp only[go_sem,t1,t15,t16,t17,g1,f1,f2,f3,f4,f5,f6,f9,N,e1,e2,e3,e4,e5,e6,e7,e8,e9,gx,gy,G,J,q1,q2,O,K,<- eA,s2,<- eB,s3,M,<- eC,s4,<- R,w1,w2,w3,w4,w5,w6,w7,vw,<- U,c1,l1,l2,l3];rfl,?_⟩;rw[q];refine⟨t1,t15,t16,rfl,.inr ⟨nx+1+1,rfl,by simp,?_,by show nx+1+1<nx+1+1+1;omega⟩⟩;show ay _ _ _ _ _ _=_;unfold ay;rw[yC (.inr ⟨by omega,by omega⟩),uQ];rfl
    .have v1:decide (b<nx+1+1)=true:=decide_eq_true (by omega)
     have v2:¬nx+1=b:=by omega
     have v3:restrict S [b,nx+1] (nx+1)=some ⟨[.sc (.string D)],1,true⟩:=by unfold restrict;rw[yC (by simp),c1]
     have v4:restrict S [b,nx+1] b=some ⟨(dI s.joints l k).flatMap oW,1,true⟩:=by unfold restrict;rw[yC (by simp),U,gq,gq,g3]
     have v5:((dI s.joints l k).flatMap oW).length=(dI s.joints l k).length:=by rw[Fh,Nat.mul_one]
     have v6:=wJ s.joints l k;have v7:=o9 (σ:=restrict S [b,nx+1]) (nx:=nx+1+1) (bytes:=16) (m:=1) (row:=[V.sc (.string D)]) v4 v5 rfl (by decide) (by unfold maxLen;omega) (by omega) rfl;have l1:(1:Nat)<=[V.sc (Value.string D)].length:=zu 1;have l2:[V.sc (Value.string D)].take 1=[V.sc (Value.string D)]:=rfl;have w8:(nx==b)=false:=beq_eq_false_iff_ne.mpr (by omega);have w9:(nx+1==b)=false:=beq_eq_false_iff_ne.mpr (by omega);have u1:(b==nx)=false:=beq_eq_false_iff_ne.mpr (by omega);have u2:(b==nx+1)=false:=beq_eq_false_iff_ne.mpr (by omega)
     by_cases hx:x=0
     .have G:(x !=0)=false:=by rw[hx];rfl
      have J:(y !=0)=true:=by simp;omega
      refine .inl ⟨_,by simp only[go_sem,t1,t15,t16,t17,g1,f1,f2,f3,f4,f5,f6,f9,N,e1,e2,e3,e4,e5,e6,e7,e8,e9,gx,gy,G,J,q1,q2,O,K,<- eA,s2,<- eB,s3,M,<- eC,s4,<- R,w1,w2,w3,w4,w5,w6,w7,vw,<- U,c1,v1,v2,v3,v7,l1,l2,w8,w9,u1,u2];rfl,?_⟩;rw[q];refine⟨t1,t15,t16,rfl,.inr ⟨nx+1+1,by rw[zX];rfl,by simp,?_,by show nx+1+1<nx+1+1+1;omega⟩⟩;show ay _ _ _ _ _ _=_;unfold ay;rw[yC (.inr ⟨by omega,by omega⟩),uQ,yJ];rfl
     .have G:(x !=0)=true:=by simp;omega
      have J:True:=trivial;refine .inl ⟨_,by simp only[go_sem,t1,t15,t16,t17,g1,f1,f2,f3,f4,f5,f6,f9,N,e1,e2,e3,e4,e5,e6,e7,e8,e9,gx,gy,G,J,q1,q2,O,K,<- eA,s2,<- eB,s3,M,<- eC,s4,<- R,w1,w2,w3,w4,w5,w6,w7,vw,<- U,c1,v1,v2,v3,v7,l1,l2,w8,w9,u1,u2];rfl,?_⟩;rw[q];refine⟨t1,t15,t16,rfl,.inr ⟨nx+1+1,by rw[zX];rfl,by simp,?_,by show nx+1+1<nx+1+1+1;omega⟩⟩;show ay _ _ _ _ _ _=_;unfold ay;rw[yC (.inr ⟨by omega,by omega⟩),uQ,yJ];rfl) (by
   clear hL;rintro ⟨T,σ,nx⟩ ⟨t1,t15,t16,t17,E⟩;simp only at t1 t15 t16 t17 E;refine⟨_,by simp only[go_sem,t16,t17,zT];rfl,by simp,_,_,_,rfl,?_⟩;unfold GW at E⊢
   simpa only[go_sem]using E) (by
   simp only[go_sem];exact .inl ⟨by simp only[go_sem],rfl⟩)
 rcases E with ⟨g1,g2⟩|⟨b,g1,g2,g3,g4⟩
 .rw[yC g2]
  simp only[go_sem,g1]
 .rw[yD g2]
  have hlen:=wJ s.joints l s.joints.length;obtain⟨W,eW⟩:∃W,W=dI s.joints l s.joints.length:=⟨_,rfl⟩;rw[<- eW]at g1 g2 g3 hlen;have hW:∀x∈W,x.size<=4096:=fun x hx=>by
   rw[eW]at hx;exact iq hs hl (zu _) x hx
  have hj:=J_ W ⟨#[32]⟩ (by omega) (m:=4096) (by decide) hW (by decide);have O:∀d,strip σ (d+1) (.rs b 0 W.length)=some (LL oW W,[b]):=fun d=>by
   rw[jE,g3];have h5:=Fh W;simp only[zq,yP,List.drop_zero,h5,zu,if_true];rw[zH (by omega),um (fun x=>by rw[uy,jD,uo];rfl)];rfl
  have z1:((W.length:Int)==0)=false:=beq_eq_false_iff_ne.mpr (by have:=List.length_pos_iff.mpr g2;omega);have z2:(W.length==0)=false:=beq_eq_false_iff_ne.mpr (by have:=List.length_pos_iff.mpr g2;omega);rw[<- eW];simp only[go_sem,g1,O,hj,z1,z2]
end Go.Proofs.YtccfmbmpicnemaaDoor
