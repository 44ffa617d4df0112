import Derived.Test.YtoccmbjfkbemcaaGreatTb1
import Derived.SizedLaws
import Derived.ChangeArms
import Derived.Deep.Slices
import Derived.OpenShut
import Derived.ChangeOld
import Derived.Laws.StructEq
import Derived.Test.YtoccmbjfkbemcaaGreatProg
import Derived.KernelRfl
set_option linter.unusedSimpArgs false
set_option linter.unusedVariables false
set_option linter.unusedSectionVars false
namespace Go.TV
open Go.RowKit
set_option linter.unusedVariables false
set_option linter.unusedSimpArgs false
variable [Known]
def CLe (c c':Call):Prop:=∀ f args σ nx r,c f args σ nx = some r→c' f args σ nx = some r
section
variable {P:Program} {conv:FuncId→Conv}
theorem evCall_le {c c':Call} (h:CLe c c') {f:FuncId} {args:List V} {σ:Store} {nx:Nat} {r:V × Store × Nat} (e:evCall conv c f args σ nx = some r):evCall conv c' f args σ nx = some r:=by
 unfold evCall at *
 split at e
 ·exact h _ _ _ _ _ e
 ·split at e
  ·rename_i ts ids h1
   try simp only [h1]
   cases h2:c f ts noStore 0 with
   | none => rw [h2] at e; cases e
   | some q => rw [h2] at e; rw [h _ _ _ _ _ h2]; exact e
  ·cases e
 ·split at e
  ·rename_i ts ids h1
   try simp only [h1]
   cases h2:c f ts noStore nx with
   | none => rw [h2] at e; cases e
   | some q => rw [h2] at e; rw [h _ _ _ _ _ h2]; exact e
  ·cases e
theorem evOp_le {c c':Call} {o:Oper} {T:Nat→V} {σ:Store} {nx:Nat} {r:V × Store × Nat} (h:∀ f args σ r,evCall conv c f args σ nx = some r→evCall conv c' f args σ nx = some r) (e:evOp P conv c o T σ nx = some r):evOp P conv c' o T σ nx = some r:=by
 obtain ⟨dst,op,type,pos,after,guard⟩:=o
 cases op <;> simp only [evOp] at e ⊢ <;> first | exact e | skip
 rename_i c0
 obtain ⟨callee,args,ts⟩:=c0
 cases callee with
 | value f =>
  simp only at e ⊢
  split at e
  ·rename_i h1
   try simp only [h1]
   exact h _ _ _ _ e
  ·cases e
 | builtin b => exact e
 | invoke r m => exact e
theorem evOp_calls {c:Call} {o:Oper} {T:Nat→V} {σ:Store} {nx:Nat} {r:V × Store × Nat} (e:evOp P conv c o T σ nx = some r) :
  (∀ c',evOp P conv c' o T σ nx = some r)∨∃ f args,evCall conv c f args σ nx = some r∧∀ c',evCall conv c' f args σ nx = some r→evOp P conv c' o T σ nx = some r:=by
 obtain ⟨dst,op,type,pos,after,guard⟩:=o
 cases op <;> simp only [evOp] at e ⊢ <;> first | exact .inl fun _ => e | skip
 rename_i c0
 obtain ⟨callee,args,ts⟩:=c0
 cases callee with
 | value f =>
  simp only at e ⊢
  split at e
  ·rename_i h1
   try simp only [h1]
   exact .inr ⟨_,_,e,fun c' h => h⟩
  ·cases e
 | builtin b => exact .inl fun _ => e
 | invoke r m => exact .inl fun _ => e
theorem evOpD_le {c c':Call} (h:CLe c c') {o:Oper} {T:Nat→V} {σ:Store} {nx:Nat} {r:V × Store × Nat} (e:evOpD P conv c o T σ nx = some r):evOpD P conv c' o T σ nx = some r:=by
 unfold evOpD at *
 split at e
 ·rename_i F hF
  try simp only [hF]
  split at e
  ·rename_i h1
   rw [if_pos h1]
   cases h2:evOp P conv c o T (restrict σ F) nx with
   | none => rw [h2] at e; cases e
   | some q => rw [h2] at e; rw [evOp_le (fun f args σ r => evCall_le h) h2]; exact e
  ·cases e
 ·cases e
theorem evOps_le {c c':Call} (h:CLe c c') {ops:Array Oper}:∀ (l:List Oper) (s s':St),evOps P conv c ops l s = some s'→evOps P conv c' ops l s = some s'
 | [],s,s',e => e
 | o :: l,s,s',e => by
  unfold evOps at *
  split at e
  ·rename_i h1
   try simp only [h1]
   cases h2:evOp P conv c o s.T s.σ s.nx with
   | none => rw [h2] at e; cases e
   | some q =>
    rw [h2] at e
    rw [evOp_le (fun f args σ r => evCall_le h) h2]
    exact evOps_le h l _ _ e
  ·rename_i h1
   try simp only [h1]
   exact evOps_le h l _ _ e
  ·cases e
theorem evOpsD_le {c c':Call} (h:CLe c c') {ops:Array Oper}:∀ (l:List Oper) (s:St) (r:St × List (List Nat)),evOpsD P conv c ops l s = some r→evOpsD P conv c' ops l s = some r
 | [],s,r,e => e
 | o :: l,s,r,e => by
  unfold evOpsD at *
  split at e
  ·rename_i h1
   try simp only [h1]
   cases h2:evOpD P conv c o s.T s.σ s.nx with
   | none => rw [h2] at e; cases e
   | some q =>
    rw [h2] at e
    rw [evOpD_le h h2]
    simp only at e ⊢
    cases h3:evOpsD P conv c ops l ⟨putT s.T o.dst q.1,q.2.1,q.2.2⟩ with
    | none => rw [h3] at e; cases e
    | some q3 => rw [h3] at e; rw [evOpsD_le h l _ _ h3]; exact e
  ·rename_i h1
   try simp only [h1]
   cases h3:evOpsD P conv c ops l ⟨putT s.T o.dst (.tup []),s.σ,s.nx⟩ with
   | none => rw [h3] at e; cases e
   | some q3 => rw [h3] at e; rw [evOpsD_le h l _ _ h3]; exact e
  ·cases e
theorem evDraw_le {c c':Call} (h:CLe c c') {ops:Array Oper} {s s':St} (e:evDraw P conv c ops s = some s'):evDraw P conv c' ops s = some s':=by
 unfold evDraw at *
 split at e
 ·rename_i h1
  rw [if_pos h1]
  cases h2:evOpsD P conv c ops ops.toList s with
  | none => rw [h2] at e; cases e
  | some q => rw [h2] at e; rw [evOpsD_le h _ _ _ h2]; exact e
 ·cases e
noncomputable def evLoopI (body:St→Option (Ex × St)) (s:St):Option (Ex × St) :=
 open Classical in if h:∃ r,∃ n,evLoop body n s = some r then some h.choose else none
theorem evLoop_more {body:St→Option (Ex × St)}:∀ (n:Nat) (s:St) (r:Ex × St),evLoop body n s = some r→evLoop body (n + 1) s = some r
 | 0,s,r,h => by cases h
 | n + 1,s,r,h => by
  unfold evLoop at h ⊢
  split at h
  ·exact evLoop_more n _ r h
  ·exact h
theorem evLoop_mono' {body:St→Option (Ex × St)} {n m:Nat} (hnm:n ≤ m) {s:St} {r:Ex × St} (h:evLoop body n s = some r):evLoop body m s = some r:=by
 induction hnm with
 | refl => exact h
 | step _ ih => exact evLoop_more _ _ _ ih
theorem evLoopI_some {body:St→Option (Ex × St)} {s:St} {r:Ex × St}:evLoopI body s = some r ↔ ∃ n,evLoop body n s = some r:=by
 unfold evLoopI
 constructor
 ·intro h
  split at h
  ·rename_i hex
   simp only [Option.some.injEq] at h; subst h
   exact hex.choose_spec
  ·cases h
 ·rintro ⟨n,hn⟩
  have hex:∃ r,∃ n,evLoop body n s = some r:=⟨r,n,hn⟩
  rw [dif_pos hex]
  obtain ⟨m,hm⟩:=hex.choose_spec
  have h1:=evLoop_mono' (Nat.le_max_left n m) hn
  have h2:=evLoop_mono' (Nat.le_max_right n m) hm
  rw [h1] at h2
  exact h2.symm
theorem evLoopI_eq (body:St→Option (Ex × St)) (s:St):evLoopI body s = match body s with
  | some (.norm,s') => evLoopI body s'
  | r => r:=by
 apply Option.ext
 intro r
 rw [evLoopI_some]
 constructor
 ·rintro ⟨n,hn⟩
  cases n with
  | zero => cases hn
  | succ n =>
   unfold evLoop at hn
   cases hb:body s with
   | none => rw [hb] at hn; cases hn
   | some q =>
    rw [hb] at hn
    obtain ⟨ex,s1⟩:=q
    cases ex with
    | norm => exact evLoopI_some.2 ⟨n,hn⟩
    | exit id => exact hn
    | ret => exact hn
 ·intro h
  split at h
  ·rename_i s' hb
   obtain ⟨n,hn⟩:=evLoopI_some.1 h
   exact ⟨n + 1,by unfold evLoop; simp only [hb]; exact hn⟩
  ·rename_i hne
   refine ⟨1,?_⟩
   unfold evLoop
   split
   ·rename_i s' hb; exact absurd hb (hne s')
   ·exact h
noncomputable def evCodeI (P:Program) (conv:FuncId→Conv) (call:Call):Code→St→Option (Ex × St)
 | .skip,s => some (.norm,s)
 | .region _ ops draw,s => match (if draw then evDraw P conv call ops s else evOps P conv call ops ops.toList s) with
  | some s' => some (.norm,s')
  | none => none
 | .seq a b,s => match evCodeI P conv call a s with
  | some (.norm,s') => evCodeI P conv call b s'
  | r => r
 | .cond c a b,s => match val s.T c with
  | .sc (.bool true) => evCodeI P conv call a s
  | .sc (.bool false) => evCodeI P conv call b s
  | _ => none
 | .block id c,s => match evCodeI P conv call c s with
  | some (.exit j,s') => if j = id then some (.norm,s') else some (.exit j,s')
  | r => r
 | .loop c,s => evLoopI (evCodeI P conv call c) s
 | .exit id,s => some (.exit id,s)
 | .ret,s => some (.ret,s)
 | _,_ => none
theorem evLoop_le {b b':St→Option (Ex × St)} (h:∀ s r,b s = some r→b' s = some r):∀ (n:Nat) (s:St) (r:Ex × St),evLoop b n s = some r→evLoop b' n s = some r
 | 0,s,r,e => by cases e
 | n + 1,s,r,e => by
  unfold evLoop at *
  split at e
  ·rename_i s' hb; simp only [h _ _ hb]; exact evLoop_le h n s' r e
  ·cases hbs:b s with
   | none => rw [hbs] at e; cases e
   | some q =>
    rw [hbs] at e
    rw [h _ _ hbs]
    obtain ⟨ex,s1⟩:=q
    cases ex with
    | norm => rename_i hne; exact absurd hbs (hne s1)
    | exit id => exact e
    | ret => exact e
theorem evCode_le {c c':Call} (h:CLe c c') {n m:Nat} (hnm:n ≤ m):∀ (cd:Code) (s:St) (r:Ex × St),evCode P conv c n cd s = some r→evCode P conv c' m cd s = some r:=by
 intro cd
 induction cd with
 | region id ops draw =>
  intro s r e
  simp only [evCode] at *
  cases draw with
  | true =>
   simp only [if_true] at *
   cases h2:evDraw P conv c ops s with
   | none => rw [h2] at e; cases e
   | some q => rw [h2] at e; rw [evDraw_le h h2]; exact e
  | false =>
   simp only [Bool.false_eq_true,if_false] at *
   cases h2:evOps P conv c ops ops.toList s with
   | none => rw [h2] at e; cases e
   | some q => rw [h2] at e; rw [evOps_le h _ _ _ h2]; exact e
 | seq a b iha ihb =>
  intro s r e
  simp only [evCode] at *
  cases h2:evCode P conv c n a s with
  | none => rw [h2] at e; cases e
  | some q =>
   rw [h2] at e
   rw [iha _ _ h2]
   obtain ⟨ex,s1⟩:=q
   cases ex <;> first | exact ihb _ _ e | exact e
 | cond v a b iha ihb =>
  intro s r e
  simp only [evCode] at *
  split at e
  ·exact iha _ _ e
  ·exact ihb _ _ e
  ·cases e
 | block id cd ih =>
  intro s r e
  simp only [evCode] at *
  cases h2:evCode P conv c n cd s with
  | none => rw [h2] at e; cases e
  | some q => rw [h2] at e; rw [ih _ _ h2]; exact e
 | loop cd ih =>
  intro s r e
  simp only [evCode] at *
  exact evLoop_mono' hnm (evLoop_le (fun s r => ih s r) n s r e)
 | skip => intro s r e; exact e
 | exit id => intro s r e; exact e
 | ret => intro s r e; exact e
 | _ => intro s r e; simp only [evCode] at e; cases e
theorem evCodeI_of {c c':Call} (h:CLe c c') {n:Nat}:∀ (cd:Code) (s:St) (r:Ex × St),evCode P conv c n cd s = some r→evCodeI P conv c' cd s = some r:=by
 intro cd
 induction cd with
 | region id ops draw =>
  intro s r e
  simp only [evCode,evCodeI] at *
  cases draw with
  | true =>
   simp only [if_true] at *
   cases h2:evDraw P conv c ops s with
   | none => rw [h2] at e; cases e
   | some q => rw [h2] at e; rw [evDraw_le h h2]; exact e
  | false =>
   simp only [Bool.false_eq_true,if_false] at *
   cases h2:evOps P conv c ops ops.toList s with
   | none => rw [h2] at e; cases e
   | some q => rw [h2] at e; rw [evOps_le h _ _ _ h2]; exact e
 | seq a b iha ihb =>
  intro s r e
  simp only [evCode,evCodeI] at *
  cases h2:evCode P conv c n a s with
  | none => rw [h2] at e; cases e
  | some q =>
   rw [h2] at e
   rw [iha _ _ h2]
   obtain ⟨ex,s1⟩:=q
   cases ex <;> first | exact ihb _ _ e | exact e
 | cond v a b iha ihb =>
  intro s r e
  simp only [evCode,evCodeI] at *
  split at e
  ·rename_i hv; simp only [hv]; exact iha _ _ e
  ·rename_i hv; simp only [hv]; exact ihb _ _ e
  ·cases e
 | block id cd ih =>
  intro s r e
  simp only [evCode,evCodeI] at *
  cases h2:evCode P conv c n cd s with
  | none => rw [h2] at e; cases e
  | some q => rw [h2] at e; rw [ih _ _ h2]; exact e
 | loop cd ih =>
  intro s r e
  simp only [evCode,evCodeI] at *
  exact evLoopI_some.2 ⟨n,evLoop_le (fun s r => ih s r) n s r e⟩
 | skip => intro s r e; exact e
 | exit id => intro s r e; exact e
 | ret => intro s r e; exact e
 | _ => intro s r e; simp only [evCode] at e; cases e
def Chain (C:Nat→Call):Prop:=∀ k,CLe (C k) (C (k + 1))
theorem Chain.le {C:Nat→Call} (h:Chain C) {k m:Nat} (hkm:k ≤ m):CLe (C k) (C m):=by
 induction hkm with
 | refl => exact fun _ _ _ _ _ e => e
 | step _ ih => exact fun f args σ nx r e => h _ f args σ nx r (ih f args σ nx r e)
noncomputable def sup (C:Nat→Call):Call:=fun f args σ nx =>
 open Classical in if h:∃ r,∃ k,C k f args σ nx = some r then some h.choose else none
theorem sup_some {C:Nat→Call} (hC:Chain C) {f:FuncId} {args:List V} {σ:Store} {nx:Nat} {r:V × Store × Nat}:sup C f args σ nx = some r ↔ ∃ k,C k f args σ nx = some r:=by
 unfold sup
 constructor
 ·intro h
  split at h
  ·rename_i hex
   simp only [Option.some.injEq] at h; subst h
   exact hex.choose_spec
  ·cases h
 ·rintro ⟨n,hn⟩
  have hex:∃ r,∃ k,C k f args σ nx = some r:=⟨r,n,hn⟩
  rw [dif_pos hex]
  obtain ⟨m,hm⟩:=hex.choose_spec
  have h1:=hC.le (Nat.le_max_left n m) _ _ _ _ _ hn
  have h2:=hC.le (Nat.le_max_right n m) _ _ _ _ _ hm
  rw [h1] at h2
  exact h2.symm
theorem evCall_sup {C:Nat→Call} (hC:Chain C) {f:FuncId} {args:List V} {σ:Store} {nx:Nat} {r:V × Store × Nat} (e:evCall conv (sup C) f args σ nx = some r):∃ k,evCall conv (C k) f args σ nx = some r:=by
 unfold evCall at *
 split at e
 ·exact (sup_some hC).1 e
 ·split at e
  ·rename_i ts ids h1
   try simp only [h1]
   cases h2:sup C f ts noStore 0 with
   | none => rw [h2] at e; cases e
   | some q =>
    obtain ⟨k,hk⟩:=(sup_some hC).1 h2
    rw [h2] at e
    exact ⟨k,by rw [hk]; exact e⟩
  ·cases e
 ·split at e
  ·rename_i ts ids h1
   try simp only [h1]
   cases h2:sup C f ts noStore nx with
   | none => rw [h2] at e; cases e
   | some q =>
    obtain ⟨k,hk⟩:=(sup_some hC).1 h2
    rw [h2] at e
    exact ⟨k,by rw [hk]; exact e⟩
  ·cases e
theorem evOp_sup {C:Nat→Call} (hC:Chain C) {o:Oper} {T:Nat→V} {σ:Store} {nx:Nat} {r:V × Store × Nat} (e:evOp P conv (sup C) o T σ nx = some r):∃ k,evOp P conv (C k) o T σ nx = some r:=by
 rcases evOp_calls e with h | ⟨f,args,h1,h2⟩
 ·exact ⟨0,h _⟩
 ·obtain ⟨k,hk⟩:=evCall_sup hC h1
  exact ⟨k,h2 _ hk⟩
theorem evOpD_sup {C:Nat→Call} (hC:Chain C) {o:Oper} {T:Nat→V} {σ:Store} {nx:Nat} {r:V × Store × Nat} (e:evOpD P conv (sup C) o T σ nx = some r):∃ k,evOpD P conv (C k) o T σ nx = some r:=by
 unfold evOpD at *
 split at e
 ·rename_i F hF
  try simp only [hF]
  split at e
  ·rename_i h1
   simp only [h1,if_true]
   cases h2:evOp P conv (sup C) o T (restrict σ F) nx with
   | none => rw [h2] at e; cases e
   | some q =>
    obtain ⟨k,hk⟩:=evOp_sup hC h2
    rw [h2] at e
    exact ⟨k,by rw [hk]; exact e⟩
  ·cases e
 ·cases e
theorem evOps_sup {C:Nat→Call} (hC:Chain C) {ops:Array Oper}:∀ (l:List Oper) (s s':St),evOps P conv (sup C) ops l s = some s'→∃ k,evOps P conv (C k) ops l s = some s'
 | [],s,s',e => ⟨0,e⟩
 | o :: l,s,s',e => by
  unfold evOps at e
  split at e
  ·rename_i h1
   cases h2:evOp P conv (sup C) o s.T s.σ s.nx with
   | none => rw [h2] at e; cases e
   | some q =>
    rw [h2] at e
    obtain ⟨k,hk⟩:=evOp_sup hC h2
    obtain ⟨m,hm⟩:=evOps_sup hC l _ _ e
    refine ⟨max k m,?_⟩
    unfold evOps
    simp only [h1,evOp_le (fun f args σ r => evCall_le (hC.le (Nat.le_max_left k m))) hk]
    exact evOps_le (hC.le (Nat.le_max_right k m)) _ _ _ hm
  ·rename_i h1
   obtain ⟨m,hm⟩:=evOps_sup hC l _ _ e
   exact ⟨m,by unfold evOps; simp only [h1]; exact hm⟩
  ·cases e
theorem evOpsD_sup {C:Nat→Call} (hC:Chain C) {ops:Array Oper}:∀ (l:List Oper) (s:St) (r:St × List (List Nat)),evOpsD P conv (sup C) ops l s = some r→∃ k,evOpsD P conv (C k) ops l s = some r
 | [],s,r,e => ⟨0,e⟩
 | o :: l,s,r,e => by
  unfold evOpsD at e
  split at e
  ·rename_i h1
   cases h2:evOpD P conv (sup C) o s.T s.σ s.nx with
   | none => rw [h2] at e; cases e
   | some q =>
    rw [h2] at e
    simp only at e
    cases h3:evOpsD P conv (sup C) ops l ⟨putT s.T o.dst q.1,q.2.1,q.2.2⟩ with
    | none => rw [h3] at e; cases e
    | some q3 =>
     rw [h3] at e
     obtain ⟨k,hk⟩:=evOpD_sup hC h2
     obtain ⟨m,hm⟩:=evOpsD_sup hC l _ _ h3
     refine ⟨max k m,?_⟩
     unfold evOpsD
     simp only [h1,evOpD_le (hC.le (Nat.le_max_left k m)) hk,evOpsD_le (hC.le (Nat.le_max_right k m)) _ _ _ hm]
     exact e
  ·rename_i h1
   cases h3:evOpsD P conv (sup C) ops l ⟨putT s.T o.dst (.tup []),s.σ,s.nx⟩ with
   | none => rw [h3] at e; cases e
   | some q3 =>
    rw [h3] at e
    obtain ⟨m,hm⟩:=evOpsD_sup hC l _ _ h3
    refine ⟨m,?_⟩
    unfold evOpsD
    simp only [h1,hm]
    exact e
  ·cases e
theorem evDraw_sup {C:Nat→Call} (hC:Chain C) {ops:Array Oper} {s s':St} (e:evDraw P conv (sup C) ops s = some s'):∃ k,evDraw P conv (C k) ops s = some s':=by
 unfold evDraw at *
 split at e
 ·rename_i h1
  simp only [h1,if_true]
  cases h2:evOpsD P conv (sup C) ops ops.toList s with
  | none => rw [h2] at e; cases e
  | some q =>
   obtain ⟨k,hk⟩:=evOpsD_sup hC _ _ _ h2
   rw [h2] at e
   exact ⟨k,by rw [hk]; exact e⟩
 ·cases e
theorem evLoop_sup {B:Nat→St→Option (Ex × St)} {b:St→Option (Ex × St)} (hB:∀ k m,k ≤ m→∀ s r,B k s = some r→B m s = some r) (h:∀ s r,b s = some r→∃ k,B k s = some r) :
  ∀ (n:Nat) (s:St) (r:Ex × St),evLoop b n s = some r→∃ k,evLoop (B k) n s = some r
 | 0,s,r,e => by cases e
 | n + 1,s,r,e => by
  unfold evLoop at e
  split at e
  ·rename_i s' hb
   obtain ⟨k,hk⟩:=h _ _ hb
   obtain ⟨m,hm⟩:=evLoop_sup hB h n s' r e
   refine ⟨max k m,?_⟩
   unfold evLoop
   simp only [hB k _ (Nat.le_max_left k m) _ _ hk]
   exact evLoop_le (hB m _ (Nat.le_max_right k m)) n s' r hm
  ·rename_i hne
   obtain ⟨k,hk⟩:=h _ _ e
   refine ⟨k,?_⟩
   unfold evLoop
   rw [hk]
   obtain ⟨ex,s1⟩:=r
   cases ex with
   | norm => exact absurd e (hne s1)
   | exit id => rfl
   | ret => rfl
theorem evCodeI_sup {C:Nat→Call} (hC:Chain C):∀ (cd:Code) (s:St) (r:Ex × St),evCodeI P conv (sup C) cd s = some r→∃ k,evCode P conv (C k) k cd s = some r:=by
 intro cd
 induction cd with
 | region id ops draw =>
  intro s r e
  simp only [evCode,evCodeI] at *
  cases draw with
  | true =>
   simp only [if_true] at *
   cases h2:evDraw P conv (sup C) ops s with
   | none => rw [h2] at e; cases e
   | some q => obtain ⟨k,hk⟩:=evDraw_sup hC h2; rw [h2] at e; exact ⟨k,by rw [hk]; exact e⟩
  | false =>
   simp only [Bool.false_eq_true,if_false] at *
   cases h2:evOps P conv (sup C) ops ops.toList s with
   | none => rw [h2] at e; cases e
   | some q => obtain ⟨k,hk⟩:=evOps_sup hC _ _ _ h2; rw [h2] at e; exact ⟨k,by rw [hk]; exact e⟩
 | seq a b iha ihb =>
  intro s r e
  simp only [evCode,evCodeI] at *
  cases h2:evCodeI P conv (sup C) a s with
  | none => rw [h2] at e; cases e
  | some q =>
   rw [h2] at e
   obtain ⟨k,hk⟩:=iha _ _ h2
   obtain ⟨ex,s1⟩:=q
   cases ex with
   | norm =>
    obtain ⟨m,hm⟩:=ihb _ _ e
    exact ⟨max k m,by rw [evCode_le (hC.le (Nat.le_max_left k m)) (Nat.le_max_left k m) _ _ _ hk]; exact evCode_le (hC.le (Nat.le_max_right k m)) (Nat.le_max_right k m) _ _ _ hm⟩
   | exit id => exact ⟨k,by rw [hk]; exact e⟩
   | ret => exact ⟨k,by rw [hk]; exact e⟩
 | cond v a b iha ihb =>
  intro s r e
  simp only [evCode,evCodeI] at *
  split at e
  ·rename_i hv; simp only [hv]; exact iha _ _ e
  ·rename_i hv; simp only [hv]; exact ihb _ _ e
  ·cases e
 | block id cd ih =>
  intro s r e
  simp only [evCode,evCodeI] at *
  cases h2:evCodeI P conv (sup C) cd s with
  | none => rw [h2] at e; cases e
  | some q => obtain ⟨k,hk⟩:=ih _ _ h2; rw [h2] at e; exact ⟨k,by rw [hk]; exact e⟩
 | loop cd ih =>
  intro s r e
  simp only [evCode,evCodeI] at *
  obtain ⟨n,hn⟩:=evLoopI_some.1 e
  obtain ⟨k,hk⟩:=evLoop_sup (B:=fun k => evCode P conv (C k) k cd) (fun k m hkm s r => evCode_le (hC.le hkm) hkm cd s r) (fun s r h => ih s r h) n s r hn
  refine ⟨max n k,?_⟩
  exact evLoop_mono' (Nat.le_max_left n k) (evLoop_le (fun s r => evCode_le (hC.le (Nat.le_max_right n k)) (Nat.le_max_right n k) cd s r) n s r hk)
 | skip => intro s r e; exact ⟨0,e⟩
 | exit id => intro s r e; exact ⟨0,e⟩
 | ret => intro s r e; exact ⟨0,e⟩
 | _ => intro s r e; simp only [evCodeI] at e; cases e
theorem evBody_le {c c':Call} (h:CLe c c') {n m:Nat} (hnm:n ≤ m) {fn:Func} {body:Code} {args:List V} {σ:Store} {nx:Nat} {r:V × Store × Nat} (e:evBody P conv c n fn body args σ nx = some r):evBody P conv c' m fn body args σ nx = some r:=by
 unfold evBody at *
 cases h2:evCode P conv c n body ⟨argsT args,σ,nx⟩ with
 | none => rw [h2] at e; cases e
 | some q => rw [h2] at e; rw [evCode_le h hnm _ _ _ h2]; exact e
theorem evF_chain (ext:Ext):Chain (evF P conv ext):=by
 intro k
 induction k with
 | zero => intro f args σ nx r e; cases e
 | succ k ih =>
  intro f args σ nx r e
  unfold evF at e ⊢
  split at e
  ·exact e
  ·rename_i hg
   split at e
   ·rename_i fn hf
    try simp only [hg]
    split at e
    ·rename_i body hb
     try simp only [hb]
     split at e
     ·rename_i hok
      rw [if_pos hok]
      exact evBody_le ih (Nat.le_succ k) e
     ·cases e
    ·cases e
   ·cases e
noncomputable def ev (P:Program) (conv:FuncId→Conv) (ext:Ext):Call:=sup (evF P conv ext)
theorem ev_sound (hm:P.follows .mixedOrders = true) {ext:Ext} (he:ExtOk P ext):CallOk P (ev P conv ext):=fun f args σ nx v σ' nx' h => by
 obtain ⟨k,hk⟩:=(sup_some (evF_chain ext)).1 h
 exact evF_sound hm he k f args σ nx v σ' nx' hk
noncomputable def bodyI (P:Program) (conv:FuncId→Conv) (call:Call) (rs:List ResultVar) (body:Code) (s:St):Res :=
 match evCodeI P conv call body s with
 | some (.norm,st) => match evResults P st.T st.σ rs with
  | some vs => some (oneOf vs,st.σ,st.nx)
  | none => none
 | some (.ret,st) => match evResults P st.T st.σ rs with
  | some vs => some (oneOf vs,st.σ,st.nx)
  | none => none
 | _ => none
theorem ev_ext {ext:Ext} {f:FuncId} {g:List V→Store→Nat→Res} (hg:ext f = some g) (args:List V) (σ:Store) (nx:Nat):ev P conv ext f args σ nx = g args σ nx:=by
 apply Option.ext
 intro r
 unfold ev
 rw [sup_some (evF_chain ext)]
 constructor
 ·rintro ⟨k,hk⟩
  cases k with
  | zero => cases hk
  | succ k => unfold evF at hk; simpa only [hg] using hk
 ·intro h
  exact ⟨1,by unfold evF; simpa only [hg] using h⟩
theorem ev_eq {ext:Ext} {f:FuncId} {fn:Func} {body:Code} {rs:List ResultVar} (hg:ext f = none) (hf:P.funcs[f]? = some fn) (hb:fn.body = some body) (hr:fn.results.toList = rs) {args:List V} (hok:fnOk fn body args.length = true) (σ:Store) (nx:Nat) :
  ev P conv ext f args σ nx = bodyI P conv (ev P conv ext) rs body ⟨argsT args,σ,nx⟩:=by
 apply Option.ext
 intro r
 unfold ev
 rw [sup_some (evF_chain ext)]
 constructor
 ·rintro ⟨k,hk⟩
  cases k with
  | zero => cases hk
  | succ k =>
   unfold evF at hk
   simp only [hg,hf,hb,hok,if_true] at hk
   unfold evBody at hk
   unfold bodyI
   cases h2:evCode P conv (evF P conv ext k) k body ⟨argsT args,σ,nx⟩ with
   | none => rw [h2] at hk; cases hk
   | some q =>
    rw [h2] at hk
    rw [evCodeI_of (c':=sup (evF P conv ext)) (fun f args σ nx r e => (sup_some (evF_chain ext)).2 ⟨k,e⟩) _ _ _ h2,← hr]
    exact hk
 ·intro h
  unfold bodyI at h
  cases h2:evCodeI P conv (sup (evF P conv ext)) body ⟨argsT args,σ,nx⟩ with
  | none => rw [h2] at h; cases h
  | some q =>
   rw [h2] at h
   obtain ⟨k,hk⟩:=evCodeI_sup (evF_chain ext) _ _ _ h2
   refine ⟨k + 1,?_⟩
   unfold evF
   simp only [hg,hf,hb,hok,if_true]
   unfold evBody
   rw [hk,hr]
   exact h
end
end Go.TV
namespace Go.TV
set_option linter.unusedVariables false
set_option linter.unusedSimpArgs false
variable [Known]
structure TyI where
 ok:Bool
 agg:Bool
 size:Nat
 zero:List V
 slice:Bool
 str:Bool
 ptr:Bool
 esz:Nat
 ebytes:Nat
 ezero:List V
 eok:Bool
 flds:List (Nat × Nat × Option Bool)
 plc:List (Nat × Nat)
 bok:Bool
 u8:Bool
def zeroV (i:TypeInfo):List V :=
 match i.zero with
 | some z => if z.cells.size = i.size then z.cells.toList.map ofCell else []
 | none => []
def zeroOk (i:TypeInfo):Bool :=
 match i.zero with
 | some z => z.cells.size = i.size
 | none => false
def tyI0 (P:Program) (t:TypeId):Option Bool:=(P.underlying t).map isAggD
def tyI (P:Program) (t:TypeId):TyI :=
 match P.info? t,P.underlying t with
 | some i,some d =>
  let e:=match d with
   | .slice e => P.info? e
   | _ => none
  {ok:=true,agg:=isAggD d,size:=i.size,zero:=if zeroOk i then zeroV i else [],slice:=d matches .slice _,str:=d matches .string,ptr:=d matches .pointer _,
   esz:=(e.map (·.size)).getD 0,ebytes:=(e.map (·.bytes)).getD 0,ezero:=(e.map zeroV).getD [],eok:=(e.map zeroOk).getD false,
   flds:=match d with
    | .struct fs => fs.toList.map fun f => (f.offset,((P.info? f.type).map (·.size)).getD 0,(tyI0 P f.type))
    | _ => []
   plc:=match d with
    | .struct fs => ((evPure P (fs.mapM fun f => do pure (f.offset,← sizeOf f.type))).map (·.toList)).getD []
    | _ => []
   bok:=match d with
    | .struct fs => (evPure P (fs.mapM fun f => do pure (f.offset,← sizeOf f.type))).isSome && zeroOk i
    | _ => false
   u8:=match d with
    | .slice e => (P.underlying e matches some (.int .u8)) && ((P.info? e).map (·.size)) == some 1
    | _ => false }
 | _,_ => ⟨false,false,0,[],false,false,false,0,0,[],false,[],[],false,false⟩
section
variable {P:Program} {conv:FuncId→Conv} {call:Call} {σ:Store} {nx:Nat}
theorem tyI_ok {t:TypeId} (h:(tyI P t).ok = true):∃ i d,P.info? t = some i∧P.underlying t = some d∧(tyI P t).agg = isAggD d∧(tyI P t).size = i.size:=by
 unfold tyI at h ⊢
 cases hi:P.info? t with
 | none => simp [hi] at h
 | some i =>
  cases hd:P.underlying t with
  | none => simp [hi,hd] at h
  | some d => exact ⟨i,d,rfl,rfl,rfl,rfl⟩
theorem tyI_slice {t:TypeId} (h:(tyI P t).slice = true) (he:(tyI P t).eok = true):∃ e i z,P.underlying t = some (.slice e)∧P.info? e = some i∧i.zero = some z∧z.cells.size = i.size∧(tyI P t).esz = i.size∧(tyI P t).ebytes = i.bytes∧(tyI P t).ezero = z.cells.toList.map ofCell:=by
 unfold tyI at h he ⊢
 cases hi:P.info? t with
 | none => simp [hi] at h
 | some i =>
  cases hd:P.underlying t with
  | none => simp [hi,hd] at h
  | some d =>
   simp only [hi,hd] at h he ⊢
   cases d <;> simp at h
   rename_i e
   simp only at he ⊢
   cases hei:P.info? e with
   | none => simp [hei] at he
   | some ei =>
    simp only [hei,Option.map_some,Option.getD_some] at he ⊢
    unfold zeroOk at he
    cases hz:ei.zero with
    | none => simp [hz] at he
    | some z =>
     simp only [hz,decide_eq_true_eq] at he
     exact ⟨e,ei,z,rfl,hei,hz,he,rfl,rfl,by simp [zeroV,hz,he]⟩
theorem evLoad_tp {t:TypeId} {row:List V} {off:Nat} (h:(tyI P t).ok = true) (ha:(tyI P t).agg = false):evLoad P σ t (.tp row off) = row[off]?:=by
 obtain ⟨i,d,h1,h2,h3,h4⟩:=tyI_ok h
 rw [ha] at h3
 unfold evLoad
 simp only [h1,h2,← h3,Bool.false_eq_true,if_false,cellsAt]
 by_cases hl:off < row.length
 ·rw [if_pos (by omega),List.getElem?_eq_getElem hl]
  have:(row.drop off).take 1 = [row[off]]:=by
   rw [List.drop_eq_getElem_cons hl]; rfl
  rw [this]
 ·rw [if_neg (by omega),List.getElem?_eq_none (by omega)]
theorem evLoad_tpa {t:TypeId} {row:List V} {off:Nat} (h:(tyI P t).ok = true) (ha:(tyI P t).agg = true):evLoad P σ t (.tp row off) = if off + (tyI P t).size ≤ row.length then some (.agg ((row.drop off).take (tyI P t).size)) else none:=by
 obtain ⟨i,d,h1,h2,h3,h4⟩:=tyI_ok h
 rw [ha] at h3
 unfold evLoad
 simp only [h1,h2,← h3,if_true,cellsAt,h4]
 split <;> rfl
theorem evLoad_rp {t:TypeId} {b off:Nat} (h:(tyI P t).ok = true) (ha:(tyI P t).agg = false):evLoad P σ t (.rp b off) = (σ b).bind fun B => B.cells[off]?:=by
 obtain ⟨i,d,h1,h2,h3,h4⟩:=tyI_ok h
 rw [ha] at h3
 unfold evLoad
 simp only [h1,h2,← h3,Bool.false_eq_true,if_false,cellsAt]
 cases σ b with
 | none => rfl
 | some B =>
  simp only [Option.bind_some]
  by_cases hl:off < B.cells.length
  ·rw [if_pos (by omega),List.getElem?_eq_getElem hl]
   have:(B.cells.drop off).take 1 = [B.cells[off]]:=by
    rw [List.drop_eq_getElem_cons hl]; rfl
   rw [this]
  ·rw [if_neg (by omega),List.getElem?_eq_none (by omega)]
theorem evLoad_rpa {t:TypeId} {b off:Nat} (h:(tyI P t).ok = true) (ha:(tyI P t).agg = true):evLoad P σ t (.rp b off) = (σ b).bind fun B => if off + (tyI P t).size ≤ B.cells.length then some (.agg ((B.cells.drop off).take (tyI P t).size)) else none:=by
 obtain ⟨i,d,h1,h2,h3,h4⟩:=tyI_ok h
 rw [ha] at h3
 unfold evLoad
 simp only [h1,h2,← h3,if_true,cellsAt,h4]
 cases σ b with
 | none => rfl
 | some B => simp only [Option.bind_some]; split <;> rfl
theorem evStore_rp {t:TypeId} {b off:Nat} {v:V} (h:(tyI P t).ok = true) (hc:isCell v = true) (hs:(tyI P t).size = 1):evStore P σ t (.rp b off) v = (σ b).bind fun B => if B.wr = true∧off < B.cells.length then some (upd σ b (some { B with cells:=B.cells.set off v })) else none:=by
 obtain ⟨i,d,h1,h2,h3,h4⟩:=tyI_ok h
 rw [hs] at h4
 have hv:cellsOfV v = some [v]:=by cases v <;> simp_all [cellsOfV,isCell]
 unfold evStore
 simp only [h1,hv,← h4,List.length_singleton,List.all_cons,List.all_nil,hc,Bool.and_true,and_true,true_and,patch]
 cases σ b with
 | none => rfl
 | some B => simp only [Option.bind_some]; rfl
theorem evStore_agg {t:TypeId} {b off:Nat} {vs:List V} (h:(tyI P t).ok = true):evStore P σ t (.rp b off) (.agg vs) = (σ b).bind fun B => if B.wr = true∧vs.length = (tyI P t).size∧off + vs.length ≤ B.cells.length∧vs.all isCell = true then some (upd σ b (some { B with cells:=patch B.cells off vs })) else none:=by
 obtain ⟨i,d,h1,h2,h3,h4⟩:=tyI_ok h
 unfold evStore
 simp only [h1,h4,cellsOfV]
 cases σ b with
 | none => rfl
 | some B => simp only [Option.bind_some]
theorem flds_spec {t:TypeId} {f:Nat} (h:(tyI P t).ok = true) :
  (∃ fields fd,P.underlying t = some (.struct fields)∧fields[f]? = some fd∧(tyI P t).flds[f]? = some (fd.offset,((P.info? fd.type).map (·.size)).getD 0,tyI0 P fd.type)) ∨
  ((tyI P t).flds[f]? = none∧∀ fields,P.underlying t = some (.struct fields)→fields[f]? = none):=by
 obtain ⟨i,d,h1,h2,h3,h4⟩:=tyI_ok h
 unfold tyI
 simp only [h1,h2]
 cases d <;> try (refine .inr ⟨rfl,fun fields e => by cases e⟩)
 rename_i fs
 simp only [List.getElem?_map,Array.getElem?_toList]
 cases hf:fs[f]? with
 | none => exact .inr ⟨rfl,fun fields e => by cases e; exact hf⟩
 | some fd => exact .inl ⟨fs,fd,rfl,hf,rfl⟩
theorem evField_tp {t:TypeId} {row:List V} {off f:Nat} (h:(tyI P t).ok = true):evFieldAddr P t (.tp row off) f = ((tyI P t).flds[f]?).bind fun p => if p.2.1 = 0 then none else some (.tp row (off + p.1)):=by
 rcases flds_spec (f:=f) h with ⟨fields,fd,h1,h2,h3⟩ | ⟨h1,h2⟩
 ·unfold evFieldAddr
  simp only [h1,h2,h3,Option.bind_some]
  cases P.info? fd.type <;> rfl
 ·unfold evFieldAddr
  rw [h1]
  cases hu:P.underlying t with
  | none => rfl
  | some d => cases d <;> first | (simp; done) | (rename_i fs; simp [h2 fs hu])
theorem evField_rp {t:TypeId} {b off f:Nat} (h:(tyI P t).ok = true):evFieldAddr P t (.rp b off) f = ((tyI P t).flds[f]?).bind fun p => if p.2.1 = 0 then none else some (.rp b (off + p.1)):=by
 rcases flds_spec (f:=f) h with ⟨fields,fd,h1,h2,h3⟩ | ⟨h1,h2⟩
 ·unfold evFieldAddr
  simp only [h1,h2,h3,Option.bind_some]
  cases P.info? fd.type <;> rfl
 ·unfold evFieldAddr
  rw [h1]
  cases hu:P.underlying t with
  | none => rfl
  | some d => cases d <;> first | (simp; done) | (rename_i fs; simp [h2 fs hu])
theorem evField_agg {t:TypeId} {cs:List V} {f:Nat} (h:(tyI P t).ok = true) (hk:((tyI P t).flds.all fun p => decide (0 < p.2.1)) = true):evField P t (.agg cs) f = ((tyI P t).flds[f]?).bind fun p => match p.2.2 with
  | some true => some (.agg ((cs.drop p.1).take p.2.1))
  | some false => cs[p.1]?
  | none => none:=by
 rcases flds_spec (f:=f) h with ⟨fields,fd,h1,h2,h3⟩ | ⟨h1,h2⟩
 ·unfold evField
  simp only [h1,h2,h3,Option.bind_some]
  have hp:=List.all_eq_true.1 hk _ (List.mem_of_getElem? h3)
  simp only [decide_eq_true_eq] at hp
  unfold evPart tyI0
  cases hi:P.info? fd.type with
  | none => simp [hi] at hp
  | some i =>
   cases hu:P.underlying fd.type with
   | none => simp
   | some d => cases hd:isAggD d <;> simp [hd]
 ·unfold evField
  rw [h1]
  cases hu:P.underlying t with
  | none => simp
  | some d => cases d <;> first | (simp; done) | (rename_i fs; simp [h2 fs hu])
theorem evIndex_ts {t:TypeId} {row:List V} {len:Nat} {k:IntKind} {i:Int} (h:(tyI P t).slice = true) (he:(tyI P t).eok = true):evIndexAddr P t (.ts row len) (.sc (.int k i)) = if 0 ≤ i∧i < len∧row ≠ [] then some (.tp row (i.toNat * (tyI P t).esz)) else none:=by
 obtain ⟨e,ei,z,h1,h2,_,_,h5,_,_⟩:=tyI_slice h he
 unfold evIndexAddr
 simp only [h1,h2,h5]
theorem evIndex_rs {t:TypeId} {b off len:Nat} {k:IntKind} {i:Int} (h:(tyI P t).slice = true) (he:(tyI P t).eok = true):evIndexAddr P t (.rs b off len) (.sc (.int k i)) = if 0 ≤ i∧i < len then some (.rp b (off + i.toNat * (tyI P t).esz)) else none:=by
 obtain ⟨e,ei,z,h1,h2,_,_,h5,_,_⟩:=tyI_slice h he
 unfold evIndexAddr
 simp only [h1,h2,h5]
theorem evMake_eq {t:TypeId} {l c:Int} (h:(tyI P t).slice = true) (he:(tyI P t).eok = true) (hsm:decide ((tyI P t).esz < 1000000) = true):evMake P t (.sc (.int .i64 l)) (.sc (.int .i64 c)) σ nx =
  if 0 ≤ l∧l ≤ c∧((tyI P t).ebytes:Int) * c ≤ 281474976710656∧c ≤ 9223372036854775807∧0 < (tyI P t).esz then some (.rs nx 0 l.toNat,evBox σ nx (rep l.toNat (tyI P t).ezero) (tyI P t).esz,nx + 1) else none:=by
 obtain ⟨e,ei,z,h1,h2,h3,h4,h5,h6,h7⟩:=tyI_slice h he
 unfold evMake
 rw [decide_eq_true_eq] at hsm
 simp only [h5] at hsm
 simp only [h1,h2,h3,h5,h6,h7,h4,and_true,hsm]
theorem evBuildSlice_eq {t:TypeId} {len:Nat} {parts:List (Nat × V)} (h:(tyI P t).slice = true) (he:(tyI P t).eok = true):evBuildSlice P t len parts σ nx =
  if len = 0 then some (.nil,σ,nx) else if 0 < (tyI P t).esz∧len * (tyI P t).esz ≤ 1000 then
   match evFill (fun j => some (j * (tyI P t).esz,(tyI P t).esz)) (rep len (tyI P t).ezero) parts with
   | some cells => some (.rs nx 0 len,evBox σ nx cells (tyI P t).esz,nx + 1)
   | none => none
  else none:=by
 obtain ⟨e,ei,z,h1,h2,h3,h4,h5,h6,h7⟩:=tyI_slice h he
 unfold evBuildSlice
 simp only [h1,h2,h3,h5,h6,h7,h4,and_true]
 cases evFill (fun j => some (j * ei.size,ei.size)) (rep len (z.cells.toList.map ofCell)) parts <;> rfl
theorem evBuild_eq {t:TypeId} {parts:List (Nat × V)} (h:(tyI P t).bok = true):evBuild P t parts = (evFill (fun i => (tyI P t).plc[i]?) (tyI P t).zero parts).map .agg:=by
 unfold tyI at h ⊢
 cases hi:P.info? t with
 | none => simp [hi] at h
 | some i =>
  cases hd:P.underlying t with
  | none => simp [hi,hd] at h
  | some d =>
   simp only [hi,hd] at h ⊢
   cases d <;> simp only [Bool.false_eq_true] at h
   rename_i fs
   rw [Bool.and_eq_true] at h
   obtain ⟨h1,h2⟩:=h
   simp only [h2,if_true]
   cases hm:evPure P (fs.mapM fun f => do pure (f.offset,← sizeOf f.type)) with
   | none => rw [hm] at h1; cases h1
   | some a =>
    unfold zeroOk at h2
    cases hz:i.zero with
    | none => simp [hz] at h2
    | some z =>
     simp only [hz,decide_eq_true_eq] at h2
     unfold evBuild places
     simp only [hi,hd,hm,Option.map_some,Option.getD_some,hz,zeroV,h2,if_true,Array.getElem?_toList]
theorem evAppend_eq {t:TypeId} {s x:V} (h:(tyI P t).slice = true) (he:(tyI P t).eok = true) (hs:decide (0 < (tyI P t).esz) = true) (hsm:decide ((tyI P t).esz < 1000000) = true):evAppend P #[t,t] s x σ nx =
  (rowOf σ (tyI P t).esz x).bind fun p => appendTo σ nx (tyI P t).esz (tyI P t).ebytes s p.1 p.2:=by
 obtain ⟨e,ei,z,h1,h2,h3,h4,h5,h6,h7⟩:=tyI_slice h he
 rw [h5] at hs hsm
 simp only [decide_eq_true_eq] at hs hsm
 unfold evAppend
 simp only [List.getElem?_toArray,List.getElem?_cons_zero,List.getElem?_cons_succ,h1,beq_self_eq_true,h2,h3,h5,h6,h4,hs,hsm,and_self,if_true]
 cases rowOf σ ei.size x <;> rfl
def copyTo (σ:Store) (nx:Nat) (row:List V) (m:Nat):V→Res
 | .rs b off len => if min m len = 0 then some (.sc (.int .i64 0),σ,nx) else (σ b).bind fun B =>
   if B.wr = true∧off + min m len ≤ B.cells.length∧(row.take (min m len)).all isCell = true then
    some (.sc (.int .i64 (min m len:Nat)),upd σ b (some { B with cells:=patch B.cells off (row.take (min m len)) }),nx) else none
 | .nil => some (.sc (.int .i64 0),σ,nx)
 | _ => none
def clearTo (σ:Store) (nx:Nat) (z:List V):V→Res
 | .rs b off len => if len = 0 then some (.tup [],σ,nx) else (σ b).bind fun B =>
   if B.wr = true∧off + len ≤ B.cells.length∧(rep len z).all isCell = true then
    some (.tup [],upd σ b (some { B with cells:=patch B.cells off (rep len z) }),nx) else none
 | .nil => some (.tup [],σ,nx)
 | .ts _ len => if len = 0 then some (.tup [],σ,nx) else none
 | _ => none
theorem evCopy_eq {t t2:TypeId} {d x:V} (h:(tyI P t).slice = true) (he:(tyI P t).eok = true) (hs:(tyI P t).esz = 1):evCopy P #[t,t2] d x σ nx = (rowOf σ 1 x).bind fun p => copyTo σ nx p.1 p.2 d:=by
 obtain ⟨e,ei,z,h1,h2,h3,h4,h5,h6,h7⟩:=tyI_slice h he
 rw [h5] at hs
 unfold evCopy copyTo
 simp only [List.getElem?_toArray,List.getElem?_cons_zero,h1,h2]
 cases rowOf σ 1 x with
 | none => rfl
 | some p =>
  obtain ⟨row,m⟩:=p
  simp only [hs,List.size_toArray,List.length_cons,List.length_nil,Option.bind_some]
  rw [if_pos ⟨trivial,trivial⟩]
  cases d <;> try rfl
  rename_i b off len
  simp only
  split
  ·rfl
  ·cases σ b <;> rfl
theorem evClear_eq {t:TypeId} {d:V} (h:(tyI P t).slice = true) (he:(tyI P t).eok = true) (hs:(tyI P t).esz = 1):evClear P #[t] d σ nx = clearTo σ nx (tyI P t).ezero d:=by
 obtain ⟨e,ei,z,h1,h2,h3,h4,h5,h6,h7⟩:=tyI_slice h he
 rw [h5] at hs
 unfold evClear clearTo
 rw [h7]
 simp only [List.getElem?_toArray,List.getElem?_cons_zero,h1,h2,h3,h4,hs]
 rw [if_pos ⟨trivial,trivial⟩]
 cases d <;> try rfl
 rename_i b off len
 simp only
 split
 ·rfl
 ·cases σ b <;> rfl
theorem evLen_ts {t:TypeId} {row:List V} {len:Nat} (h:(tyI P t).slice = true):evLen P t (.ts row len) = some (.sc (.int .i64 len)):=by
 unfold tyI at h
 cases hi:P.info? t with
 | none => simp [hi] at h
 | some i =>
  cases hd:P.underlying t with
  | none => simp [hi,hd] at h
  | some d => simp only [hi,hd] at h; cases d <;> simp at h; simp [evLen,hd]
theorem evLen_rs {t:TypeId} {b off len:Nat} (h:(tyI P t).slice = true):evLen P t (.rs b off len) = some (.sc (.int .i64 len)):=by
 unfold tyI at h
 cases hi:P.info? t with
 | none => simp [hi] at h
 | some i =>
  cases hd:P.underlying t with
  | none => simp [hi,hd] at h
  | some d => simp only [hi,hd] at h; cases d <;> simp at h; simp [evLen,hd]
theorem evLen_nil {t:TypeId} (h:(tyI P t).slice = true):evLen P t .nil = some (.sc (.int .i64 0)):=by
 unfold tyI at h
 cases hi:P.info? t with
 | none => simp [hi] at h
 | some i =>
  cases hd:P.underlying t with
  | none => simp [hi,hd] at h
  | some d => simp only [hi,hd] at h; cases d <;> simp at h; simp [evLen,hd]
theorem tyI_str {t:TypeId} (h:(tyI P t).str = true):P.underlying t = some .string:=by
 unfold tyI at h
 cases hi:P.info? t with
 | none => simp [hi] at h
 | some i =>
  cases hd:P.underlying t with
  | none => simp [hi,hd] at h
  | some d => simp only [hi,hd] at h; cases d <;> simp at h; rfl
theorem evLen_str {t:TypeId} {s:ByteArray} (h:(tyI P t).str = true):evLen P t (.sc (.string s)) = some (.sc (.int .i64 s.size)):=by
 simp [evLen,tyI_str h]
theorem evIdx_str {t:TypeId} {s:ByteArray} {k:IntKind} {i:Int} (h:(tyI P t).str = true):evIndex P t (.sc (.string s)) (.sc (.int k i)) = (if 0 ≤ i then s[i.toNat]? else none).map fun b => .sc (.int .u8 b.toNat):=by
 unfold evIndex
 simp only [tyI_str h]
 split <;> rename_i e <;> rw [e] <;> rfl
theorem evSlice_str {t:TypeId} {s:ByteArray} {lo hi:Option V} (h:(tyI P t).str = true):evSlice P t (.sc (.string s)) lo hi none σ = (bnd lo 0).bind fun l => (bnd hi s.size).bind fun h => if l ≤ h∧h ≤ s.size then some (.sc (.string (s.extract l h))) else none:=by
 unfold evSlice
 simp only [tyI_str h]
 cases bnd lo 0 <;> cases bnd hi s.size <;> rfl
theorem evSlice_ts {t:TypeId} {row:List V} {len:Nat} {lo hi:Option V} (h:(tyI P t).slice = true) (he:(tyI P t).eok = true):evSlice P t (.ts row len) lo hi none σ = (bnd lo 0).bind fun l => (bnd hi len).bind fun h => if l ≤ h∧h ≤ len then some (.ts ((row.drop (l * (tyI P t).esz)).take ((h - l) * (tyI P t).esz)) (h - l)) else none:=by
 obtain ⟨e,ei,z,h1,h2,h3,h4,h5,h6,h7⟩:=tyI_slice h he
 unfold evSlice
 simp only [h1,h2,h5]
 cases bnd lo 0 <;> cases bnd hi len <;> rfl
theorem evSlice_rs {t:TypeId} {b off len:Nat} {lo hi:Option V} (h:(tyI P t).slice = true) (he:(tyI P t).eok = true):evSlice P t (.rs b off len) lo hi none σ = (bnd lo 0).bind fun l => (bnd hi len).bind fun h => (σ b).bind fun B =>
  if l ≤ h∧0 < (tyI P t).esz∧B.st = (tyI P t).esz∧off + h * (tyI P t).esz ≤ B.cells.length then
   if l = 0 then some (.rs b off h) else if l = h then some (.ts [] 0) else some (.rs b (off + l * (tyI P t).esz) (h - l)) else none:=by
 obtain ⟨e,ei,z,h1,h2,h3,h4,h5,h6,h7⟩:=tyI_slice h he
 unfold evSlice
 simp only [h1,h2,h5]
 cases bnd lo 0 <;> cases bnd hi len <;> cases σ b <;> rfl
section
variable {t:TypeId} {x y:Operand} {k:IntKind} {a b:Int}
theorem ev_add:evBin P .add t x y (.sc (.int k a)) (.sc (.int k b)) = some (.sc (.int k (k.wrap (a + b)))):=by
 simp only [evBin,toVal,eqGuard_add,binOp_add,Op.intArith]; rfl
theorem ev_sub:evBin P .sub t x y (.sc (.int k a)) (.sc (.int k b)) = some (.sc (.int k (k.wrap (a - b)))):=by
 simp only [evBin,toVal,eqGuard_sub,binOp_sub,Op.intArith]; rfl
theorem ev_mul:evBin P .mul t x y (.sc (.int k a)) (.sc (.int k b)) = some (.sc (.int k (k.wrap (a * b)))):=by
 simp only [evBin,toVal,eqGuard_mul,binOp_mul,Op.intArith]; rfl
theorem ev_quo (h:b ≠ 0):evBin P .quo t x y (.sc (.int k a)) (.sc (.int k b)) = some (.sc (.int k (k.wrap (a.tdiv b)))):=by
 simp only [evBin,toVal,eqGuard_quo,binOp_quo,Op.intDiv,if_neg h]; rfl
theorem ev_rem (h:b ≠ 0):evBin P .rem t x y (.sc (.int k a)) (.sc (.int k b)) = some (.sc (.int k (a.tmod b))):=by
 simp only [evBin,toVal,eqGuard_rem,binOp_rem,Op.intDiv,if_neg h]; rfl
theorem ev_eql:evBin P .eql t x y (.sc (.int k a)) (.sc (.int k b)) = some (.sc (.bool (a == b))):=by
 simp only [evBin,toVal,eqGuard_at_int,binOp_eql]; rfl
theorem ev_neq:evBin P .neq t x y (.sc (.int k a)) (.sc (.int k b)) = some (.sc (.bool (a != b))):=by
 simp only [evBin,toVal,eqGuard_at_int,binOp_neq]; rfl
theorem ev_lss:evBin P .lss t x y (.sc (.int k a)) (.sc (.int k b)) = some (.sc (.bool (decide (a < b)))):=by
 simp only [evBin,toVal,eqGuard_lss,binOp_lss]; rfl
theorem ev_leq:evBin P .leq t x y (.sc (.int k a)) (.sc (.int k b)) = some (.sc (.bool (decide (a ≤ b)))):=by
 simp only [evBin,toVal,eqGuard_leq,binOp_leq]; rfl
theorem ev_gtr:evBin P .gtr t x y (.sc (.int k a)) (.sc (.int k b)) = some (.sc (.bool (decide (b < a)))):=by
 simp only [evBin,toVal,eqGuard_gtr,binOp_gtr]; rfl
theorem ev_geq:evBin P .geq t x y (.sc (.int k a)) (.sc (.int k b)) = some (.sc (.bool (decide (b ≤ a)))):=by
 simp only [evBin,toVal,eqGuard_geq,binOp_geq]; rfl
theorem ev_not {p:Bool}:evUn P .not (.sc (.bool p)) = some (.sc (.bool !p)):=rfl
theorem ev_neg:evUn P .neg (.sc (.int k a)) = some (.sc (.int k (k.wrap (0 - a)))):=rfl
end
end
end Go.TV
namespace Go.TV
set_option linter.unusedVariables false
set_option linter.unusedSimpArgs false
variable [Known]
section
variable {P:Program} {conv:FuncId→Conv} {call:Call}
def opsK (P:Program) (conv:FuncId→Conv) (call:Call) (ops:Array Oper) (rest:List Oper) (T:Nat→V) (d:Option Tmp):Res→Option St
 | some (v,σ,nx) => evOps P conv call ops rest ⟨putT T d v,σ,nx⟩
 | none => none
def opsW (P:Program) (conv:FuncId→Conv) (call:Call) (ops:Array Oper) (rest:List Oper) (o:Oper) (s:St):Option Bool→Option St
 | some true => opsK P conv call ops rest s.T o.dst (evOp P conv call o s.T s.σ s.nx)
 | some false => evOps P conv call ops rest ⟨putT s.T o.dst (.tup []),s.σ,s.nx⟩
 | none => none
theorem evOps_nil (ops:Array Oper) (s:St):evOps P conv call ops [] s = some s:=rfl
theorem evOps_cons (ops:Array Oper) (d:Option Tmp) (op:Op) (ty:TypeId) (ps:String) (af:Array Edge) (rest:List Oper) (T:Nat→V) (σ:Store) (nx:Nat) :
  evOps P conv call ops (⟨d,op,ty,ps,af,none⟩ :: rest) ⟨T,σ,nx⟩ = opsK P conv call ops rest T d (evOp P conv call ⟨d,op,ty,ps,af,none⟩ T σ nx):=by
 show (match evOp P conv call ⟨d,op,ty,ps,af,none⟩ T σ nx with | some (v,σ',nx') => _ | none => none) = _
 cases evOp P conv call ⟨d,op,ty,ps,af,none⟩ T σ nx <;> rfl
theorem evOps_guard (ops:Array Oper) (d:Option Tmp) (op:Op) (ty:TypeId) (ps:String) (af:Array Edge) (g:Nat × Bool) (rest:List Oper) (T:Nat→V) (σ:Store) (nx:Nat) :
  evOps P conv call ops (⟨d,op,ty,ps,af,some g⟩ :: rest) ⟨T,σ,nx⟩ = opsW P conv call ops rest ⟨d,op,ty,ps,af,some g⟩ ⟨T,σ,nx⟩ (wantedB ops T ⟨d,op,ty,ps,af,some g⟩):=by
 show (match wantedB ops T ⟨d,op,ty,ps,af,some g⟩ with | some true => _ | some false => _ | none => none) = _
 cases wantedB ops T ⟨d,op,ty,ps,af,some g⟩ with
 | none => rfl
 | some b =>
  cases b with
  | false => rfl
  | true =>
   simp only [opsW]
   cases evOp P conv call ⟨d,op,ty,ps,af,some g⟩ T σ nx <;> rfl
theorem opsK_some (ops:Array Oper) (rest:List Oper) (T:Nat→V) (d:Tmp) (v:V) (σ:Store) (nx:Nat):opsK P conv call ops rest T (some d) (some (v,σ,nx)) = evOps P conv call ops rest ⟨upd T d v,σ,nx⟩:=rfl
theorem opsK_none (ops:Array Oper) (rest:List Oper) (T:Nat→V) (v:V) (σ:Store) (nx:Nat):opsK P conv call ops rest T none (some (v,σ,nx)) = evOps P conv call ops rest ⟨T,σ,nx⟩:=rfl
theorem opsW_true (ops:Array Oper) (rest:List Oper) (d:Option Tmp) (op:Op) (ty:TypeId) (ps:String) (af:Array Edge) (g:Option (Nat × Bool)) (T:Nat→V) (σ:Store) (nx:Nat) :
  opsW P conv call ops rest ⟨d,op,ty,ps,af,g⟩ ⟨T,σ,nx⟩ (some true) = opsK P conv call ops rest T d (evOp P conv call ⟨d,op,ty,ps,af,g⟩ T σ nx):=rfl
theorem opsW_false (ops:Array Oper) (rest:List Oper) (d:Tmp) (op:Op) (ty:TypeId) (ps:String) (af:Array Edge) (g:Option (Nat × Bool)) (T:Nat→V) (σ:Store) (nx:Nat) :
  opsW P conv call ops rest ⟨some d,op,ty,ps,af,g⟩ ⟨T,σ,nx⟩ (some false) = evOps P conv call ops rest ⟨upd T d (.tup []),σ,nx⟩:=rfl
def guardB (want:Bool):V→Option Bool
 | .sc (.bool b) => some (b == want)
 | .tup [] => some false
 | _ => none
theorem wantedB_some (ops:Array Oper) (d:Option Tmp) (op:Op) (ty:TypeId) (ps:String) (af:Array Edge) (j:Nat) (want:Bool) (T:Nat→V) :
  wantedB ops T ⟨d,op,ty,ps,af,some (j,want)⟩ = match (ops[j]?).bind (·.dst) with | some d => guardB want (T d) | none => some false:=by
 unfold wantedB guardB
 rfl
theorem guardB_bool (want b:Bool):guardB want (.sc (.bool b)) = some (b == want):=rfl
theorem guardB_undef (want:Bool):guardB want (.tup []) = some false:=rfl
theorem val_tmp (T:Nat→V) (t:Tmp):val T (.tmp t) = T t:=rfl
theorem val_const (T:Nat→V) (v:Value):val T (.const v) = ofVal v:=rfl
theorem val_func (T:Nat→V) (f:FuncId):val T (.func f) = .clo f []:=rfl
section
variable (d:Option Tmp) (ty:TypeId) (ps:String) (af:Array Edge) (gd:Option (Nat × Bool)) (T:Nat→V) (σ:Store) (nx:Nat)
theorem op_move (x:Operand):evOp P conv call ⟨d,.move x,ty,ps,af,gd⟩ T σ nx = some (val T x,σ,nx):=rfl
theorem op_assign (x:Operand):evOp P conv call ⟨d,.assign x,ty,ps,af,gd⟩ T σ nx = some (val T x,σ,nx):=rfl
def pickV (a b:V):V→Option V
 | .sc (.bool t) => some (if t then a else b)
 | _ => none
theorem op_pick (c a b:Operand):evOp P conv call ⟨d,.pick c a b,ty,ps,af,gd⟩ T σ nx = (pickV (val T a) (val T b) (val T c)).map (·,σ,nx):=by
 simp only [evOp]
 unfold pickV
 split <;> simp_all
theorem pickV_bool (a b:V) (t:Bool):pickV a b (.sc (.bool t)) = some (if t then a else b):=rfl
theorem isB_0:isB [] = false:=id rfl
theorem isB_1 (v:V):isB [v] = false:=id rfl
theorem isB_3 (u v w:V) (l:List V):isB (u :: v :: w :: l) = false:=id rfl
theorem isB_sc (v w:V):isB [v,w] = (isP v && isN w):=id rfl
theorem isP_nil:isP .nil = false:=id rfl
theorem isP_int (k:IntKind) (n:Int):isP (.sc (.int k n)) = false:=id rfl
theorem isP_bool (b:Bool):isP (.sc (.bool b)) = false:=id rfl
theorem isP_string (b:ByteArray):isP (.sc (.string b)) = false:=id rfl
theorem isP_none:isP (.sc (.pointer none)) = true:=id rfl
theorem isN_nil:isN .nil = true:=id rfl
theorem isN_sc (v:Value):isN (.sc v) = false:=id rfl
theorem op_alloc (t:TypeId) (h:(tyI P t).ok = true) (hz:decide ((tyI P t).zero.length = (tyI P t).size) = true) (h0:decide (0 < (tyI P t).size) = true) (hb:isB (tyI P t).zero = false):evOp P conv call ⟨d,.alloc t,ty,ps,af,gd⟩ T σ nx = some (.rp nx 0,evBox σ nx (tyI P t).zero 0,nx + 1):=by
 obtain ⟨i,dd,h1,h2,h3,h4⟩:=tyI_ok h
 simp only [evOp,h1]
 unfold tyI at hz h0 hb ⊢
 simp only [h1,h2,decide_eq_true_eq] at hz h0 hb ⊢
 unfold zeroOk zeroV at *
 cases hzz:i.zero with
 | none => simp [hzz] at hz; omega
 | some z =>
  simp only [hzz] at hz hb ⊢
  by_cases hs:z.cells.size = i.size
  ·simp only [hs,decide_true,if_true] at hb
   simp [hs,boxSt,hb]
  ·simp [hs] at hz; omega
theorem op_alloc_b (t:TypeId) (h:(tyI P t).ok = true) (hz:decide ((tyI P t).zero.length = (tyI P t).size) = true) (h0:decide (0 < (tyI P t).size) = true) (hb:isB (tyI P t).zero = true):evOp P conv call ⟨d,.alloc t,ty,ps,af,gd⟩ T σ nx = some (.rp nx 0,evBox σ nx (tyI P t).zero (t + 1000000),nx + 1):=by
 obtain ⟨i,dd,h1,h2,h3,h4⟩:=tyI_ok h
 simp only [evOp,h1]
 unfold tyI at hz h0 hb ⊢
 simp only [h1,h2,decide_eq_true_eq] at hz h0 hb ⊢
 unfold zeroOk zeroV at *
 cases hzz:i.zero with
 | none => simp [hzz] at hz; omega
 | some z =>
  simp only [hzz] at hz hb ⊢
  by_cases hs:z.cells.size = i.size
  ·simp only [hs,decide_true,if_true] at hb
   simp [hs,boxSt,hb]
  ·simp [hs] at hz; omega
theorem op_box (t:TypeId) (x:Operand):evOp P conv call ⟨d,.box t x,ty,ps,af,gd⟩ T σ nx = (cellsOfV (val T x)).map fun cs => (.rp nx 0,evBox σ nx cs 0,nx + 1):=by
 simp only [evOp]
 cases cellsOfV (val T x) <;> rfl
theorem op_build (t:TypeId) (parts:Array (Nat × Operand)):evOp P conv call ⟨d,.build t parts,ty,ps,af,gd⟩ T σ nx = (evBuild P t (parts.toList.map fun p => (p.1,val T p.2))).map (·,σ,nx):=rfl
theorem op_buildSlice (t:TypeId) (len:Nat) (parts:Array (Nat × Operand)) (h:(decide (len = 0) && !parts.isEmpty) = false):evOp P conv call ⟨d,.buildSlice t len parts,ty,ps,af,gd⟩ T σ nx = evBuildSlice P t len (parts.toList.map fun p => (p.1,val T p.2)) σ nx:=by
 simp only [evOp,h,Bool.false_eq_true,if_false]
theorem op_load (t:TypeId) (a:Operand):evOp P conv call ⟨d,.load t a,ty,ps,af,gd⟩ T σ nx = (evLoad P σ t (val T a)).map (·,σ,nx):=rfl
theorem op_store (t:TypeId) (a x:Operand):evOp P conv call ⟨d,.store t a x,ty,ps,af,gd⟩ T σ nx = (evStore P σ t (val T a) (val T x)).map (.tup [],·,nx):=rfl
def nilV:V→Option V
 | .tp row off => some (.tp row off)
 | .rp b off => some (.rp b off)
 | _ => none
theorem op_nilCheck (x:Operand):evOp P conv call ⟨d,.nilCheck x,ty,ps,af,gd⟩ T σ nx = (nilV (val T x)).map (·,σ,nx):=by
 simp only [evOp]
 unfold nilV
 split <;> simp_all
theorem nilV_tp (row:List V) (off:Nat):nilV (.tp row off) = some (.tp row off):=rfl
theorem nilV_rp (b off:Nat):nilV (.rp b off) = some (.rp b off):=rfl
theorem op_binOp (op:BinOp) (t:TypeId) (x y:Operand) (yt:TypeId):evOp P conv call ⟨d,.binOp op t x y yt,ty,ps,af,gd⟩ T σ nx = (evBin P op t x y (val T x) (val T y)).map (·,σ,nx):=rfl
theorem op_unOp (op:UnOp) (t:TypeId) (x:Operand):evOp P conv call ⟨d,.unOp op t x,ty,ps,af,gd⟩ T σ nx = (evUn P op (val T x)).map (·,σ,nx):=rfl
theorem op_convert (s e:TypeId) (x:Operand):evOp P conv call ⟨d,.convert s e x,ty,ps,af,gd⟩ T σ nx = (evConvert P s e (val T x) σ).map (·,σ,nx):=rfl
theorem op_makeFunc (f:FuncId) (cap:Array Operand):evOp P conv call ⟨d,.makeFunc (.func f) #[] cap,ty,ps,af,gd⟩ T σ nx = some (.clo f (cap.toList.map (val T)),σ,nx):=rfl
theorem op_makeSlice (t:TypeId) (l c:Operand):evOp P conv call ⟨d,.makeSlice t l c,ty,ps,af,gd⟩ T σ nx = evMake P t (val T l) (val T c) σ nx:=rfl
theorem op_slice (t:TypeId) (x:Operand) (lo hi mx:Option Operand):evOp P conv call ⟨d,.slice t x lo hi mx,ty,ps,af,gd⟩ T σ nx = (evSlice P t (val T x) (lo.map (val T)) (hi.map (val T)) (mx.map (val T)) σ).map (·,σ,nx):=rfl
theorem op_fieldAddr (t:TypeId) (x:Operand) (f:Nat):evOp P conv call ⟨d,.fieldAddr t x f,ty,ps,af,gd⟩ T σ nx = (evFieldAddr P t (val T x) f).map (·,σ,nx):=rfl
theorem op_field (t:TypeId) (x:Operand) (f:Nat):evOp P conv call ⟨d,.field t x f,ty,ps,af,gd⟩ T σ nx = (evField P t (val T x) f).map (·,σ,nx):=rfl
theorem op_indexAddr (t:TypeId) (x i:Operand):evOp P conv call ⟨d,.indexAddr t x i,ty,ps,af,gd⟩ T σ nx = (evIndexAddr P t (val T x) (val T i)).map (·,σ,nx):=rfl
theorem op_index (t:TypeId) (x i:Operand):evOp P conv call ⟨d,.index t x i,ty,ps,af,gd⟩ T σ nx = (evIndex P t (val T x) (val T i)).map (·,σ,nx):=rfl
def extV (i:Nat):V→Option V
 | .tup vs => vs[i]?
 | _ => none
theorem op_extract (x:Operand) (i:Nat):evOp P conv call ⟨d,.extract x i,ty,ps,af,gd⟩ T σ nx = (extV i (val T x)).map (·,σ,nx):=by
 simp only [evOp]
 unfold extV
 split <;> simp_all
theorem extV_tup (i:Nat) (vs:List V):extV i (.tup vs) = vs[i]?:=rfl
def callV (conv:FuncId→Conv) (call:Call) (args:List V) (σ:Store) (nx:Nat):V→Res
 | .clo g cs => evCall conv call g (args ++ cs) σ nx
 | _ => none
theorem op_call (f:Operand) (args:Array Operand) (ts:Array TypeId):evOp P conv call ⟨d,.call ⟨.value f,args,ts⟩,ty,ps,af,gd⟩ T σ nx = callV conv call (args.toList.map (val T)) σ nx (val T f):=by
 simp only [evOp]
 unfold callV
 rfl
theorem callV_clo (args:List V) (σ:Store) (nx:Nat) (g:FuncId) (cs:List V):callV conv call args σ nx (.clo g cs) = evCall conv call g (args ++ cs) σ nx:=rfl
theorem op_len (x:Operand) (t:TypeId):evOp P conv call ⟨d,.call ⟨.builtin .len,#[x],#[t]⟩,ty,ps,af,gd⟩ T σ nx = (evLen P t (val T x)).map (·,σ,nx):=rfl
theorem op_copy (a x:Operand) (t u:TypeId):evOp P conv call ⟨d,.call ⟨.builtin .copy,#[a,x],#[t,u]⟩,ty,ps,af,gd⟩ T σ nx = evCopy P #[t,u] (val T a) (val T x) σ nx:=rfl
theorem op_clear (a:Operand) (t:TypeId):evOp P conv call ⟨d,.call ⟨.builtin .clear,#[a],#[t]⟩,ty,ps,af,gd⟩ T σ nx = evClear P #[t] (val T a) σ nx:=rfl
theorem op_append (a x:Operand) (t u:TypeId):evOp P conv call ⟨d,.call ⟨.builtin .append,#[a,x],#[t,u]⟩,ty,ps,af,gd⟩ T σ nx = evAppend P #[t,u] (val T a) (val T x) σ nx:=rfl
end
def norm1:Option St→Option (Ex × St)
 | some s => some (.norm,s)
 | none => none
theorem norm1_some (s:St):norm1 (some s) = some (.norm,s):=rfl
def blockK (id:Nat):Option (Ex × St)→Option (Ex × St)
 | some (.exit j,s) => if j = id then some (.norm,s) else some (.exit j,s)
 | r => r
theorem blockK_norm (id:Nat) (s:St):blockK id (some (.norm,s)) = some (.norm,s):=rfl
theorem blockK_ret (id:Nat) (s:St):blockK id (some (.ret,s)) = some (.ret,s):=rfl
theorem blockK_exit (id j:Nat) (s:St):blockK id (some (.exit j,s)) = if j = id then some (.norm,s) else some (.exit j,s):=rfl
noncomputable def loopK (body:St→Option (Ex × St)):Option (Ex × St)→Option (Ex × St)
 | some (.norm,s) => evLoopI body s
 | r => r
theorem loopK_norm (body:St→Option (Ex × St)) (s:St):loopK body (some (.norm,s)) = evLoopI body s:=rfl
theorem loopK_ret (body:St→Option (Ex × St)) (s:St):loopK body (some (.ret,s)) = some (.ret,s):=rfl
theorem loopK_exit (body:St→Option (Ex × St)) (i:Nat) (s:St):loopK body (some (.exit i,s)) = some (.exit i,s):=rfl
def resK (P:Program) (rs:List ResultVar):Option (Ex × St)→Res
 | some (.norm,st) => (evResults P st.T st.σ rs).map fun vs => (oneOf vs,st.σ,st.nx)
 | some (.ret,st) => (evResults P st.T st.σ rs).map fun vs => (oneOf vs,st.σ,st.nx)
 | _ => none
theorem bodyI_eq (rs:List ResultVar) (body:Code) (s:St):bodyI P conv call rs body s = resK P rs (evCodeI P conv call body s):=by
 unfold bodyI resK
 cases evCodeI P conv call body s with
 | none => rfl
 | some q =>
  obtain ⟨e,st⟩:=q
  cases e <;> simp only <;> cases evResults P st.T st.σ rs <;> rfl
theorem resK_norm (rs:List ResultVar) (T:Nat→V) (σ:Store) (nx:Nat):resK P rs (some (.norm,⟨T,σ,nx⟩)) = (evResults P T σ rs).map fun vs => (oneOf vs,σ,nx):=rfl
theorem resK_ret (rs:List ResultVar) (T:Nat→V) (σ:Store) (nx:Nat):resK P rs (some (.ret,⟨T,σ,nx⟩)) = (evResults P T σ rs).map fun vs => (oneOf vs,σ,nx):=rfl
theorem res_tmp1 (T:Nat→V) (σ:Store) (t:Tmp):evResults P T σ [.tmp t] = some [T t]:=rfl
theorem res_nil (T:Nat→V) (σ:Store):evResults P T σ [] = some []:=rfl
theorem res_tmp2 (T:Nat→V) (σ:Store) (t u:Tmp):evResults P T σ [.tmp t,.tmp u] = some [T t,T u]:=rfl
theorem res_tmp3 (T:Nat→V) (σ:Store) (t u v:Tmp):evResults P T σ [.tmp t,.tmp u,.tmp v] = some [T t,T u,T v]:=rfl
theorem res_cell1 (T:Nat→V) (σ:Store) (a:Tmp) (t:TypeId):evResults P T σ [.cell a t] = (evLoad P σ t (T a)).map fun v => [v]:=by
 simp only [evResults]
 cases evLoad P σ t (T a) <;> rfl
theorem oneOf_one (v:V):oneOf [v] = v:=rfl
theorem oneOf_two (u v:V):oneOf [u,v] = .tup [u,v]:=rfl
theorem oneOf_three (u v w:V):oneOf [u,v,w] = .tup [u,v,w]:=rfl
theorem oneOf_zero:oneOf [] = .tup []:=rfl
theorem argsT_get (l:List V) (i:Nat):argsT l i = (l[i]?).getD (.tup []):=rfl
theorem ofVal_int (k:IntKind) (n:Int):ofVal (.int k n) = .sc (.int k n):=rfl
theorem ofVal_bool (b:Bool):ofVal (.bool b) = .sc (.bool b):=rfl
theorem ofVal_string (s:ByteArray):ofVal (.string s) = .sc (.string s):=rfl
theorem ofVal_nilp:ofVal (.pointer none) = .sc (.pointer none):=rfl
theorem ofVal_nils:ofVal (.slice none 0 0) = .nil:=rfl
theorem ofVal_agg (l:List Value):ofVal (.agg l.toArray) = .agg (l.map ofCell):=rfl
end
end Go.TV
namespace Go.TV
set_option linter.unusedVariables false
set_option linter.unusedSimpArgs false
variable [Known]
section
variable {P:Program} {conv:FuncId→Conv} {call:Call}
def evOpsQ (P:Program) (conv:FuncId→Conv) (call:Call) (ops:Array Oper):List Oper→St→Option St
 | [],s => some s
 | o :: rest,s => match wantedB ops s.T o with
  | some true => match evOpD P conv call o s.T s.σ s.nx with
   | some (v,σ',nx') => evOpsQ P conv call ops rest ⟨putT s.T o.dst v,σ',nx'⟩
   | none => none
  | some false => evOpsQ P conv call ops rest ⟨putT s.T o.dst (.tup []),s.σ,s.nx⟩
  | none => none
theorem evOpsQ_eq (ops:Array Oper):∀ (l:List Oper) (s:St),evOpsQ P conv call ops l s = (evOpsD P conv call ops l s).map (·.1)
 | [],s => rfl
 | o :: l,s => by
  unfold evOpsQ evOpsD
  cases wantedB ops s.T o with
  | none => rfl
  | some b =>
   cases b with
   | true =>
    simp only
    cases evOpD P conv call o s.T s.σ s.nx with
    | none => rfl
    | some q =>
     obtain ⟨v,σ',nx'⟩:=q
     simp only
     rw [evOpsQ_eq ops l]
     cases evOpsD P conv call ops l ⟨putT s.T o.dst v,σ',nx'⟩ <;> rfl
   | false =>
    simp only
    rw [evOpsQ_eq ops l]
    cases evOpsD P conv call ops l ⟨putT s.T o.dst (.tup []),s.σ,s.nx⟩ <;> rfl
def quietB (conv:FuncId→Conv) (ops:Array Oper):Bool:=ordOk ops && (wpairs conv ops.toList).isEmpty
theorem evDraw_quiet {ops:Array Oper} (h:quietB conv ops = true) (s:St):evDraw P conv call ops s = evOpsQ P conv call ops ops.toList s:=by
 unfold quietB at h
 rw [Bool.and_eq_true] at h
 have hw:wpairs conv ops.toList = []:=by simpa using h.2
 unfold evDraw
 rw [if_pos h.1,evOpsQ_eq,hw]
 cases evOpsD P conv call ops ops.toList s with
 | none => rfl
 | some q => obtain ⟨s',fs⟩:=q; rfl
def edgeA (af:Array Edge) (i:Nat):Bool:=af.any fun e => Region.binds .any e && e.on == i
def okG (af:Array Edge) (w:Bool) (ids:List Nat):List (Nat × Bool × List Nat)→Bool
 | [] => true
 | p :: acc => (if (w || p.2.1) = true then (if edgeA af p.1 = true then true else p.2.2.all fun b => !ids.contains b) else true) && okG af w ids acc
def okF (af:Array Edge) (acc:List (Nat × Bool × List Nat)) (w:Bool):List Nat→Bool
 | [] => true
 | b :: bs => okG af w (b :: bs) acc
def addF (acc:List (Nat × Bool × List Nat)) (k:Nat) (w:Bool):List Nat→List (Nat × Bool × List Nat)
 | [] => acc
 | b :: bs => acc ++ [(k,w,b :: bs)]
def evOpsF (P:Program) (conv:FuncId→Conv) (call:Call) (ops:Array Oper):List Oper→Nat→List (Nat × Bool × List Nat)→St→Option St
 | [],_,_,s => some s
 | o :: rest,k,acc,s => match wantedB ops s.T o with
  | some true => if okF o.after acc (writer conv o) (footIds conv s.T s.σ o) = true then (match evOpD P conv call o s.T s.σ s.nx with
   | some (v,σ',nx') => evOpsF P conv call ops rest (k + 1) (addF acc k (writer conv o) (footIds conv s.T s.σ o)) ⟨putT s.T o.dst v,σ',nx'⟩
   | none => none) else none
  | some false => evOpsF P conv call ops rest (k + 1) acc ⟨putT s.T o.dst (.tup []),s.σ,s.nx⟩
  | none => none
def Apart (l:List Oper) (ws:List (Bool × List Nat)):Prop:=∀ (i j:Nat) o p q,i < j→l[j]? = some o→ws[i]? = some p→ws[j]? = some q→(q.1 || p.1) = true→edgeOn o i ≠ true→∀ b ∈ p.2,b ∉ q.2
def Told (ws:List (Bool × List Nat)) (acc:List (Nat × Bool × List Nat)):Prop:=∀ (i:Nat) p,ws[i]? = some p→p.2 ≠ []→(i,p.1,p.2) ∈ acc
theorem okG_spec {af:Array Edge} {w:Bool} {ids:List Nat}:∀ {acc:List (Nat × Bool × List Nat)},okG af w ids acc = true→∀ p ∈ acc,(w || p.2.1) = true→edgeA af p.1 ≠ true→∀ b ∈ p.2.2,b ∉ ids
 | [],_,p,hp,_,_,_,_ => by cases hp
 | q :: acc,h,p,hp,hw,he,b,hb => by
  unfold okG at h
  rw [Bool.and_eq_true] at h
  rcases List.mem_cons.mp hp with rfl | hp
  ·have h1:=h.1
   rw [if_pos hw,if_neg he] at h1
   have:=List.all_eq_true.mp h1 b hb
   simpa using this
  ·exact okG_spec h.2 p hp hw he b hb
theorem apart_snoc {l:List Oper} {o:Oper} {ws:List (Bool × List Nat)} {acc:List (Nat × Bool × List Nat)} {w:Bool} {ids:List Nat} (hl:l.length = ws.length) (h:Apart l ws) (ht:Told ws acc) (ho:okF o.after acc w ids = true):Apart (l ++ [o]) (ws ++ [(w,ids)]):=by
 intro i j o' p q hij ho' hp hq hw he b hb hb'
 rcases Nat.lt_trichotomy j ws.length with hj | hj | hj
 ·rw [List.getElem?_append_left hj] at hq
  rw [List.getElem?_append_left (by omega)] at hp
  rw [List.getElem?_append_left (by omega)] at ho'
  exact h i j o' p q hij ho' hp hq hw he b hb hb'
 ·subst hj
  rw [List.getElem?_append_right (Nat.le_refl _),Nat.sub_self] at hq
  simp only [List.getElem?_cons_zero,Option.some.injEq] at hq
  subst hq
  rw [List.getElem?_append_left hij] at hp
  rw [List.getElem?_append_right (by omega),hl,Nat.sub_self] at ho'
  simp only [List.getElem?_cons_zero,Option.some.injEq] at ho'
  subst ho'
  cases ids with
  | nil => cases hb'
  | cons c cs => exact okG_spec ho _ (ht i p hp (fun e => by rw [e] at hb; cases hb)) hw he b hb hb'
 ·rw [List.getElem?_eq_none (by simp; omega)] at hq
  cases hq
theorem told_snoc {ws:List (Bool × List Nat)} {acc:List (Nat × Bool × List Nat)} (ht:Told ws acc) (w:Bool) (ids:List Nat):Told (ws ++ [(w,ids)]) (addF acc ws.length w ids):=by
 intro i p hp hne
 have hsub:∀ x,x ∈ acc→x ∈ addF acc ws.length w ids:=fun x hx => by cases ids with
  | nil => exact hx
  | cons c cs => exact List.mem_append_left _ hx
 rcases Nat.lt_trichotomy i ws.length with hi | hi | hi
 ·rw [List.getElem?_append_left hi] at hp
  exact hsub _ (ht i p hp hne)
 ·subst hi
  rw [List.getElem?_append_right (Nat.le_refl _),Nat.sub_self] at hp
  simp only [List.getElem?_cons_zero,Option.some.injEq] at hp
  subst hp
  cases ids with
  | nil => exact absurd rfl hne
  | cons c cs => exact List.mem_append_right _ (by simp)
 ·rw [List.getElem?_eq_none (by simp; omega)] at hp
  cases hp
theorem evOpsF_spec (ops:Array Oper):∀ (l pre:List Oper) (k:Nat) (ws:List (Bool × List Nat)) (acc:List (Nat × Bool × List Nat)) (s s':St),k = ws.length→pre.length = ws.length→Apart pre ws→Told ws acc→evOpsF P conv call ops l k acc s = some s' →
  ∃ fs,evOpsD P conv call ops l s = some (s',fs)∧fs.length = l.length∧Apart (pre ++ l) (ws ++ (l.zip fs).map fun p => (writer conv p.1,p.2))
 | [],pre,k,ws,acc,s,s',hk,hl,ha,ht,h => by
  unfold evOpsF at h
  cases h
  exact ⟨[],rfl,rfl,by simpa using ha⟩
 | o :: l,pre,k,ws,acc,s,s',hk,hl,ha,ht,h => by
  unfold evOpsF at h
  unfold evOpsD
  cases hw:wantedB ops s.T o with
  | none => rw [hw] at h; cases h
  | some b =>
   rw [hw] at h
   cases b with
   | true =>
    simp only at h ⊢
    by_cases ho:okF o.after acc (writer conv o) (footIds conv s.T s.σ o) = true
    ·rw [if_pos ho] at h
     cases hr:evOpD P conv call o s.T s.σ s.nx with
     | none => rw [hr] at h; cases h
     | some q =>
      obtain ⟨v,σ',nx'⟩:=q
      rw [hr] at h
      subst hk
      obtain ⟨fs,h1,h2,h3⟩:=evOpsF_spec ops l (pre ++ [o]) _ (ws ++ [(writer conv o,footIds conv s.T s.σ o)]) _ _ s' (by simp) (by simp [hl]) (apart_snoc hl ha ht ho) (told_snoc ht _ _) h
      refine ⟨footIds conv s.T s.σ o :: fs,?_,by simp [h2],by simpa using h3⟩
      simp only
      rw [h1]
    ·rw [if_neg ho] at h; cases h
   | false =>
    simp only at h ⊢
    subst hk
    obtain ⟨fs,h1,h2,h3⟩:=evOpsF_spec ops l (pre ++ [o]) _ (ws ++ [(writer conv o,[])]) _ _ s' (by simp) (by simp [hl]) (apart_snoc hl ha ht rfl) (told_snoc ht _ []) h
    refine ⟨[] :: fs,?_,by simp [h2],by simpa using h3⟩
    rw [h1]
theorem pairsOk_apart {l:List Oper} {fs:List (List Nat)} (hl:fs.length = l.length) (h:Apart l ((l.zip fs).map fun p => (writer conv p.1,p.2))):pairsOk fs (wpairs conv l) = true:=by
 unfold pairsOk
 refine List.all_eq_true.mpr ?_
 rintro ⟨i,j⟩ hm
 unfold wpairs at hm
 simp only [List.mem_flatMap,List.mem_filterMap] at hm
 obtain ⟨⟨o,j'⟩,hj,⟨p,i'⟩,hi,he⟩:=hm
 simp only at he
 split at he
 ·cases he
 ·rename_i hnoe
  split at he
  ·rename_i hwr
   simp only [Option.some.injEq,Prod.mk.injEq] at he
   obtain ⟨rfl,rfl⟩:=he
   have hj2:=List.mem_zipIdx' hj
   have hi2:=List.mem_zipIdx' hi
   obtain ⟨hj3,hj4⟩:=hj2
   obtain ⟨hi3,hi4⟩:=hi2
   simp only [List.length_take] at hi3
   refine List.all_eq_true.mpr fun b hb => ?_
   have hif:i' < fs.length:=by omega
   have hjf:j' < fs.length:=by omega
   rw [List.getElem?_eq_getElem hif,Option.getD_some] at hb
   rw [List.getElem?_eq_getElem hjf,Option.getD_some]
   have hz:∀ (k:Nat) (h1:k < l.length) (h2:k < fs.length),((l.zip fs).map fun p => (writer conv p.1,p.2))[k]? = some (writer conv l[k],fs[k]):=by
    intro k h1 h2
    rw [List.getElem?_map,List.getElem?_eq_getElem (by simp; omega)]
    simp
   have:=h i' j' o _ _ (by omega) (by rw [List.getElem?_eq_getElem hj3,hj4]) (hz i' (by omega) hif) (hz j' hj3 hjf) (by
    rw [List.getElem_take] at hi4
    rw [← hj4,← hi4]; exact hwr) hnoe b hb
   simpa using this
  ·cases he
def drawK (P:Program) (conv:FuncId→Conv) (call:Call) (ops:Array Oper) (s0:St):Option St→Option St
 | some s => some s
 | none => evDraw P conv call ops s0
theorem drawK_eq {ops:Array Oper} (ho:ordOk ops = true) (s:St):drawK P conv call ops s (evOpsF P conv call ops ops.toList 0 [] s) = evDraw P conv call ops s:=by
 cases h:evOpsF P conv call ops ops.toList 0 [] s with
 | none => rfl
 | some s' =>
  obtain ⟨fs,h1,h2,h3⟩:=evOpsF_spec ops ops.toList [] 0 [] [] s s' rfl rfl (by intro i j o p q _ _ hp; simp at hp) (by intro i p hp; simp at hp) h
  unfold drawK evDraw
  rw [if_pos ho,h1]
  simp only
  rw [if_pos (pairsOk_apart h2 (by simpa using h3))]
def quietCode (conv:FuncId→Conv) (ex:List Nat):Code→Bool
 | .region id ops draw => !draw || (ex.contains id && ordOk ops) || quietB conv ops
 | .seq a b => quietCode conv ex a && quietCode conv ex b
 | .cond _ a b => quietCode conv ex a && quietCode conv ex b
 | .block _ c => quietCode conv ex c
 | .loop c => quietCode conv ex c
 | _ => true
noncomputable def evC (P:Program) (conv:FuncId→Conv) (call:Call) (ex:List Nat):Code→St→Option (Ex × St)
 | .skip,s => some (.norm,s)
 | .region id ops draw,s => norm1 (if draw then (if id ∈ ex then drawK P conv call ops s (evOpsF P conv call ops ops.toList 0 [] s) else evOpsQ P conv call ops ops.toList s) else evOps P conv call ops ops.toList s)
 | .seq a b,s => match evC P conv call ex a s with
  | some (.norm,s') => evC P conv call ex b s'
  | r => r
 | .cond c a b,s => match val s.T c with
  | .sc (.bool true) => evC P conv call ex a s
  | .sc (.bool false) => evC P conv call ex b s
  | _ => none
 | .block id c,s => blockK id (evC P conv call ex c s)
 | .loop c,s => evLoopI (evC P conv call ex c) s
 | .exit id,s => some (.exit id,s)
 | .ret,s => some (.ret,s)
 | _,_ => none
theorem evC_eq {ex:List Nat}:∀ (c:Code),quietCode conv ex c = true→∀ s,evCodeI P conv call c s = evC P conv call ex c s:=by
 intro c
 induction c with
 | region id ops draw =>
  intro h s
  simp only [quietCode,evC,evCodeI] at *
  cases draw with
  | false => simp only [Bool.false_eq_true,if_false]; cases evOps P conv call ops ops.toList s <;> rfl
  | true =>
   simp only [if_true]
   by_cases hid:id ∈ ex
   ·rw [if_pos hid]
    by_cases ho:ordOk ops = true
    ·rw [drawK_eq ho]; cases evDraw P conv call ops s <;> rfl
    ·have hq:quietB conv ops = true:=by simpa [ho] using h
     unfold quietB at hq
     rw [Bool.and_eq_true] at hq
     exact absurd hq.1 ho
   ·rw [if_neg hid]
    have hq:quietB conv ops = true:=by simpa [hid] using h
    rw [evDraw_quiet hq]
    cases evOpsQ P conv call ops ops.toList s <;> rfl
 | seq a b iha ihb =>
  intro h s
  simp only [quietCode,Bool.and_eq_true] at h
  simp only [evC,evCodeI]
  rw [iha h.1]
  cases evC P conv call ex a s with
  | none => rfl
  | some q => obtain ⟨e,s'⟩:=q; cases e <;> first | exact ihb h.2 s' | rfl
 | cond v a b iha ihb =>
  intro h s
  simp only [quietCode,Bool.and_eq_true] at h
  simp only [evC,evCodeI,iha h.1,ihb h.2]
  all_goals rfl
 | block id c ih =>
  intro h s
  simp only [quietCode] at h
  simp only [evC,evCodeI,blockK]
  rw [ih h]
  all_goals rfl
 | loop c ih =>
  intro h s
  simp only [quietCode] at h
  simp only [evC,evCodeI]
  rw [show evCodeI P conv call c = evC P conv call ex c from funext (ih h)]
 | _ => intro h s; rfl
noncomputable def sK (P:Program) (conv:FuncId→Conv) (call:Call) (ex:List Nat) (b:Code):Option (Ex × St)→Option (Ex × St)
 | some (.norm,s) => evC P conv call ex b s
 | r => r
variable {ex:List Nat}
theorem c_seq (a b:Code) (s:St):evC P conv call ex (.seq a b) s = sK P conv call ex b (evC P conv call ex a s):=by
 show (match evC P conv call ex a s with | some (.norm,s') => evC P conv call ex b s' | r => r) = _
 unfold sK
 rfl
theorem sK_norm (b:Code) (s:St):sK P conv call ex b (some (.norm,s)) = evC P conv call ex b s:=rfl
theorem sK_ret (b:Code) (s:St):sK P conv call ex b (some (.ret,s)) = some (.ret,s):=rfl
theorem sK_exit (b:Code) (i:Nat) (s:St):sK P conv call ex b (some (.exit i,s)) = some (.exit i,s):=rfl
theorem c_region (id:Nat) (l:List Oper) (s:St):evC P conv call ex (.region id l.toArray false) s = norm1 (evOps P conv call l.toArray l s):=rfl
theorem c_draw (id:Nat) (l:List Oper) (s:St):evC P conv call [] (.region id l.toArray true) s = norm1 (evOpsQ P conv call l.toArray l s):=rfl
theorem c_skip (s:St):evC P conv call ex .skip s = some (.norm,s):=rfl
theorem c_ret (s:St):evC P conv call ex .ret s = some (.ret,s):=rfl
theorem c_exit (i:Nat) (s:St):evC P conv call ex (.exit i) s = some (.exit i,s):=rfl
noncomputable def cK (P:Program) (conv:FuncId→Conv) (call:Call) (ex:List Nat) (a b:Code) (s:St):V→Option (Ex × St)
 | .sc (.bool true) => evC P conv call ex a s
 | .sc (.bool false) => evC P conv call ex b s
 | _ => none
theorem c_cond (c:Operand) (a b:Code) (T:Nat→V) (σ:Store) (nx:Nat):evC P conv call ex (.cond c a b) ⟨T,σ,nx⟩ = cK P conv call ex a b ⟨T,σ,nx⟩ (val T c):=by
 show (match val T c with | .sc (.bool true) => _ | .sc (.bool false) => _ | _ => none) = _
 unfold cK
 rfl
theorem cK_true (a b:Code) (s:St):cK P conv call ex a b s (.sc (.bool true)) = evC P conv call ex a s:=rfl
theorem cK_false (a b:Code) (s:St):cK P conv call ex a b s (.sc (.bool false)) = evC P conv call ex b s:=rfl
theorem c_block (id:Nat) (c:Code) (s:St):evC P conv call ex (.block id c) s = blockK id (evC P conv call ex c s):=rfl
theorem c_loop (c:Code) (s:St):evC P conv call ex (.loop c) s = evLoopI (evC P conv call ex c) s:=rfl
theorem ev_eqQ {ext:Ext} {f:FuncId} {fn:Func} {body:Code} {rs:List ResultVar} (ex:List Nat) (hg:ext f = none) (hf:P.funcs[f]? = some fn) (hb:fn.body = some body) (hr:fn.results.toList = rs) {args:List V} (hok:fnOk fn body args.length = true) (hq:quietCode conv ex body = true) (σ:Store) (nx:Nat) :
  ev P conv ext f args σ nx = resK P rs (evC P conv (ev P conv ext) ex body ⟨argsT args,σ,nx⟩):=by
 rw [ev_eq hg hf hb hr hok,bodyI_eq,evC_eq body hq]
theorem drawK_some (ops:Array Oper) (s0 s:St):drawK P conv call ops s0 (some s) = some s:=rfl
def drawS (P:Program) (conv:FuncId→Conv) (call:Call) (id:Nat) (l:List Oper) (s:St):List Nat→Option St
 | [] => evOpsQ P conv call l.toArray l s
 | i :: ex => if id = i then drawK P conv call l.toArray s (evOpsF P conv call l.toArray l 0 [] s) else drawS P conv call id l s ex
theorem drawS_eq (id:Nat) (l:List Oper) (s:St):∀ ex:List Nat,drawS P conv call id l s ex = if id ∈ ex then drawK P conv call l.toArray s (evOpsF P conv call l.toArray l 0 [] s) else evOpsQ P conv call l.toArray l s
 | [] => by simp [drawS]
 | i :: ex => by
  unfold drawS
  rw [drawS_eq id l s ex]
  by_cases h:id = i
  ·rw [if_pos h,if_pos (by simp [h])]
  ·rw [if_neg h]
   by_cases h2:id ∈ ex
   ·rw [if_pos h2,if_pos (by simp [h2])]
   ·rw [if_neg h2,if_neg (by simp [h,h2])]
theorem c_drawG (i:Nat) (ex:List Nat) (id:Nat) (l:List Oper) (s:St):evC P conv call (i :: ex) (.region id l.toArray true) s = norm1 (drawS P conv call id l s (i :: ex)):=by
 rw [drawS_eq]
 rfl
theorem drawS_nil (id:Nat) (l:List Oper) (s:St):drawS P conv call id l s [] = evOpsQ P conv call l.toArray l s:=rfl
theorem drawS_cons (id:Nat) (l:List Oper) (s:St) (i:Nat) (ex:List Nat):drawS P conv call id l s (i :: ex) = if id = i then drawK P conv call l.toArray s (evOpsF P conv call l.toArray l 0 [] s) else drawS P conv call id l s ex:=rfl
def opsKF (P:Program) (conv:FuncId→Conv) (call:Call) (ops:Array Oper) (rest:List Oper) (k:Nat) (acc:List (Nat × Bool × List Nat)) (T:Nat→V) (d:Option Tmp):Res→Option St
 | some (v,σ,nx) => evOpsF P conv call ops rest k acc ⟨putT T d v,σ,nx⟩
 | none => none
def opsWF (P:Program) (conv:FuncId→Conv) (call:Call) (ops:Array Oper) (rest:List Oper) (k:Nat) (acc:List (Nat × Bool × List Nat)) (o:Oper) (s:St):Option Bool→Option St
 | some true => if okF o.after acc (writer conv o) (footIds conv s.T s.σ o) = true then opsKF P conv call ops rest (k + 1) (addF acc k (writer conv o) (footIds conv s.T s.σ o)) s.T o.dst (evOpD P conv call o s.T s.σ s.nx) else none
 | some false => evOpsF P conv call ops rest (k + 1) acc ⟨putT s.T o.dst (.tup []),s.σ,s.nx⟩
 | none => none
theorem evOpsF_nil (ops:Array Oper) (k:Nat) (acc:List (Nat × Bool × List Nat)) (s:St):evOpsF P conv call ops [] k acc s = some s:=rfl
theorem evOpsF_cons (ops:Array Oper) (k:Nat) (acc:List (Nat × Bool × List Nat)) (d:Option Tmp) (op:Op) (ty:TypeId) (ps:String) (af:Array Edge) (rest:List Oper) (T:Nat→V) (σ:Store) (nx:Nat) :
  evOpsF P conv call ops (⟨d,op,ty,ps,af,none⟩ :: rest) k acc ⟨T,σ,nx⟩ = if okF af acc (writer conv ⟨d,op,ty,ps,af,none⟩) (footIds conv T σ ⟨d,op,ty,ps,af,none⟩) = true then opsKF P conv call ops rest (k + 1) (addF acc k (writer conv ⟨d,op,ty,ps,af,none⟩) (footIds conv T σ ⟨d,op,ty,ps,af,none⟩)) T d (evOpD P conv call ⟨d,op,ty,ps,af,none⟩ T σ nx) else none:=by
 show (if okF af acc (writer conv ⟨d,op,ty,ps,af,none⟩) (footIds conv T σ ⟨d,op,ty,ps,af,none⟩) = true then (match evOpD P conv call ⟨d,op,ty,ps,af,none⟩ T σ nx with | some (v,σ',nx') => _ | none => none) else none) = _
 cases evOpD P conv call ⟨d,op,ty,ps,af,none⟩ T σ nx <;> rfl
theorem evOpsF_guard (ops:Array Oper) (k:Nat) (acc:List (Nat × Bool × List Nat)) (d:Option Tmp) (op:Op) (ty:TypeId) (ps:String) (af:Array Edge) (g:Nat × Bool) (rest:List Oper) (T:Nat→V) (σ:Store) (nx:Nat) :
  evOpsF P conv call ops (⟨d,op,ty,ps,af,some g⟩ :: rest) k acc ⟨T,σ,nx⟩ = opsWF P conv call ops rest k acc ⟨d,op,ty,ps,af,some g⟩ ⟨T,σ,nx⟩ (wantedB ops T ⟨d,op,ty,ps,af,some g⟩):=by
 show (match wantedB ops T ⟨d,op,ty,ps,af,some g⟩ with | some true => _ | some false => _ | none => none) = _
 cases wantedB ops T ⟨d,op,ty,ps,af,some g⟩ with
 | none => rfl
 | some b =>
  cases b with
  | false => rfl
  | true =>
   simp only [opsWF]
   cases evOpD P conv call ⟨d,op,ty,ps,af,some g⟩ T σ nx <;> rfl
theorem opsKF_some (ops:Array Oper) (rest:List Oper) (k:Nat) (acc:List (Nat × Bool × List Nat)) (T:Nat→V) (d:Tmp) (v:V) (σ:Store) (nx:Nat):opsKF P conv call ops rest k acc T (some d) (some (v,σ,nx)) = evOpsF P conv call ops rest k acc ⟨upd T d v,σ,nx⟩:=rfl
theorem opsKF_none (ops:Array Oper) (rest:List Oper) (k:Nat) (acc:List (Nat × Bool × List Nat)) (T:Nat→V) (v:V) (σ:Store) (nx:Nat):opsKF P conv call ops rest k acc T none (some (v,σ,nx)) = evOpsF P conv call ops rest k acc ⟨T,σ,nx⟩:=rfl
theorem opsWF_true (ops:Array Oper) (rest:List Oper) (k:Nat) (acc:List (Nat × Bool × List Nat)) (d:Option Tmp) (op:Op) (ty:TypeId) (ps:String) (af:Array Edge) (g:Option (Nat × Bool)) (T:Nat→V) (σ:Store) (nx:Nat) :
  opsWF P conv call ops rest k acc ⟨d,op,ty,ps,af,g⟩ ⟨T,σ,nx⟩ (some true) = if okF af acc (writer conv ⟨d,op,ty,ps,af,g⟩) (footIds conv T σ ⟨d,op,ty,ps,af,g⟩) = true then opsKF P conv call ops rest (k + 1) (addF acc k (writer conv ⟨d,op,ty,ps,af,g⟩) (footIds conv T σ ⟨d,op,ty,ps,af,g⟩)) T d (evOpD P conv call ⟨d,op,ty,ps,af,g⟩ T σ nx) else none:=rfl
theorem opsWF_false (ops:Array Oper) (rest:List Oper) (k:Nat) (acc:List (Nat × Bool × List Nat)) (d:Tmp) (op:Op) (ty:TypeId) (ps:String) (af:Array Edge) (g:Option (Nat × Bool)) (T:Nat→V) (σ:Store) (nx:Nat) :
  opsWF P conv call ops rest k acc ⟨some d,op,ty,ps,af,g⟩ ⟨T,σ,nx⟩ (some false) = evOpsF P conv call ops rest (k + 1) acc ⟨upd T d (.tup []),σ,nx⟩:=rfl
theorem okF_nil (af:Array Edge) (acc:List (Nat × Bool × List Nat)) (w:Bool):okF af acc w [] = true:=id rfl
theorem okF_cons (af:Array Edge) (acc:List (Nat × Bool × List Nat)) (w:Bool) (b:Nat) (bs:List Nat):okF af acc w (b :: bs) = okG af w (b :: bs) acc:=id rfl
theorem okG_nil (af:Array Edge) (w:Bool) (ids:List Nat):okG af w ids [] = true:=id rfl
theorem okG_cons (af:Array Edge) (w:Bool) (ids:List Nat) (i:Nat) (v:Bool) (js:List Nat) (acc:List (Nat × Bool × List Nat)):okG af w ids ((i,v,js) :: acc) = ((if (w || v) = true then (if edgeA af i = true then true else js.all fun b => !ids.contains b) else true) && okG af w ids acc):=id rfl
theorem addF_nil (acc:List (Nat × Bool × List Nat)) (k:Nat) (w:Bool):addF acc k w [] = acc:=id rfl
theorem addF_cons (acc:List (Nat × Bool × List Nat)) (k:Nat) (w:Bool) (b:Nat) (bs:List Nat):addF acc k w (b :: bs) = acc ++ [(k,w,b :: bs)]:=id rfl
theorem edgeA_nil (i:Nat):edgeA #[] i = false:=by simp [edgeA]
theorem edgeA_cons (e:Edge) (es:List Edge) (i:Nat):edgeA (e :: es).toArray i = if (e.on == i) = true then (if Region.binds .any e = true then true else edgeA es.toArray i) else edgeA es.toArray i:=by
 unfold edgeA
 rw [List.any_toArray,List.any_toArray,List.any_cons]
 cases e.on == i <;> cases Region.binds .any e <;> simp
theorem binds_data (i:Nat):Region.binds .any ⟨i,.data⟩ = true:=id rfl
theorem binds_phase (i:Nat):Region.binds .any ⟨i,.phase⟩ = true:=id rfl
theorem binds_chain (i:Nat):Region.binds .any ⟨i,.chain⟩ = true:=id rfl
theorem binds_guard (i:Nat):Region.binds .any ⟨i,.guard⟩ = true:=id rfl
theorem binds_text (i:Nat) (d:Departure):Region.binds .any ⟨i,.textOnly d⟩ = false:=id rfl
theorem binds_gc (i:Nat) (d:Departure):Region.binds .any ⟨i,.gcOnly d⟩ = false:=id rfl
section
variable (d:Option Tmp) (ty:TypeId) (ps:String) (af:Array Edge) (gd:Option (Nat × Bool)) (T:Nat→V) (σ:Store)
theorem w_store (t:TypeId) (a x:Operand):writer conv ⟨d,.store t a x,ty,ps,af,gd⟩ = true:=id rfl
theorem foot_store (t:TypeId) (a x:Operand):footIds conv T σ ⟨d,.store t a x,ty,ps,af,gd⟩ = refsC (val T a):=rfl
theorem foot_load (t:TypeId) (a:Operand):footIds conv T σ ⟨d,.load t a,ty,ps,af,gd⟩ = refsC (val T a):=rfl
theorem w_load (t:TypeId) (a:Operand):writer conv ⟨d,.load t a,ty,ps,af,gd⟩ = false:=id rfl
theorem refs_rp (b off:Nat):refsC (.rp b off) = [b]:=rfl
theorem refs_rs (b off len:Nat):refsC (.rs b off len) = [b]:=rfl
theorem refs_tp (row:List V) (off:Nat):refsC (.tp row off) = []:=rfl
theorem refs_ts (row:List V) (off:Nat):refsC (.ts row off) = []:=rfl
theorem refs_sc (v:Value):refsC (.sc v) = []:=rfl
theorem refs_nil:refsC .nil = []:=rfl
theorem refs_agg (vs:List V):refsC (.agg vs) = []:=rfl
theorem foot_move (x:Operand):footIds conv T σ ⟨d,.move x,ty,ps,af,gd⟩ = []:=rfl
theorem w_move (x:Operand):writer conv ⟨d,.move x,ty,ps,af,gd⟩ = false:=id rfl
theorem foot_assign (x:Operand):footIds conv T σ ⟨d,.assign x,ty,ps,af,gd⟩ = []:=rfl
theorem w_assign (x:Operand):writer conv ⟨d,.assign x,ty,ps,af,gd⟩ = false:=id rfl
theorem foot_pick (c a b:Operand):footIds conv T σ ⟨d,.pick c a b,ty,ps,af,gd⟩ = []:=rfl
theorem w_pick (c a b:Operand):writer conv ⟨d,.pick c a b,ty,ps,af,gd⟩ = false:=id rfl
theorem foot_nilCheck (x:Operand):footIds conv T σ ⟨d,.nilCheck x,ty,ps,af,gd⟩ = []:=rfl
theorem w_nilCheck (x:Operand):writer conv ⟨d,.nilCheck x,ty,ps,af,gd⟩ = false:=id rfl
theorem foot_binOp (op:BinOp) (t:TypeId) (x y:Operand) (yt:TypeId):footIds conv T σ ⟨d,.binOp op t x y yt,ty,ps,af,gd⟩ = []:=rfl
theorem w_binOp (op:BinOp) (t:TypeId) (x y:Operand) (yt:TypeId):writer conv ⟨d,.binOp op t x y yt,ty,ps,af,gd⟩ = false:=id rfl
theorem foot_unOp (op:UnOp) (t:TypeId) (x:Operand):footIds conv T σ ⟨d,.unOp op t x,ty,ps,af,gd⟩ = []:=rfl
theorem w_unOp (op:UnOp) (t:TypeId) (x:Operand):writer conv ⟨d,.unOp op t x,ty,ps,af,gd⟩ = false:=id rfl
theorem foot_fieldAddr (t:TypeId) (x:Operand) (f:Nat):footIds conv T σ ⟨d,.fieldAddr t x f,ty,ps,af,gd⟩ = []:=rfl
theorem w_fieldAddr (t:TypeId) (x:Operand) (f:Nat):writer conv ⟨d,.fieldAddr t x f,ty,ps,af,gd⟩ = false:=id rfl
theorem foot_field (t:TypeId) (x:Operand) (f:Nat):footIds conv T σ ⟨d,.field t x f,ty,ps,af,gd⟩ = []:=rfl
theorem w_field (t:TypeId) (x:Operand) (f:Nat):writer conv ⟨d,.field t x f,ty,ps,af,gd⟩ = false:=id rfl
theorem foot_indexAddr (t:TypeId) (x i:Operand):footIds conv T σ ⟨d,.indexAddr t x i,ty,ps,af,gd⟩ = []:=rfl
theorem w_indexAddr (t:TypeId) (x i:Operand):writer conv ⟨d,.indexAddr t x i,ty,ps,af,gd⟩ = false:=id rfl
theorem foot_index (t:TypeId) (x i:Operand):footIds conv T σ ⟨d,.index t x i,ty,ps,af,gd⟩ = []:=rfl
theorem w_index (t:TypeId) (x i:Operand):writer conv ⟨d,.index t x i,ty,ps,af,gd⟩ = false:=id rfl
theorem foot_extract (x:Operand) (i:Nat):footIds conv T σ ⟨d,.extract x i,ty,ps,af,gd⟩ = []:=rfl
theorem w_extract (x:Operand) (i:Nat):writer conv ⟨d,.extract x i,ty,ps,af,gd⟩ = false:=id rfl
theorem foot_len (x:Operand) (t:TypeId):footIds conv T σ ⟨d,.call ⟨.builtin .len,#[x],#[t]⟩,ty,ps,af,gd⟩ = []:=rfl
theorem w_len (x:Operand) (t:TypeId):writer conv ⟨d,.call ⟨.builtin .len,#[x],#[t]⟩,ty,ps,af,gd⟩ = false:=id rfl
theorem foot_build (t:TypeId) (parts:Array (Nat × Operand)):footIds conv T σ ⟨d,.build t parts,ty,ps,af,gd⟩ = []:=rfl
theorem w_build (t:TypeId) (parts:Array (Nat × Operand)):writer conv ⟨d,.build t parts,ty,ps,af,gd⟩ = false:=id rfl
theorem foot_makeFunc (f:FuncId) (cap:Array Operand):footIds conv T σ ⟨d,.makeFunc (.func f) #[] cap,ty,ps,af,gd⟩ = []:=rfl
theorem w_makeFunc (f:FuncId) (cap:Array Operand):writer conv ⟨d,.makeFunc (.func f) #[] cap,ty,ps,af,gd⟩ = false:=id rfl
theorem foot_alloc (t:TypeId):footIds conv T σ ⟨d,.alloc t,ty,ps,af,gd⟩ = []:=rfl
theorem w_alloc (t:TypeId):writer conv ⟨d,.alloc t,ty,ps,af,gd⟩ = false:=id rfl
theorem foot_box (t:TypeId) (x:Operand):footIds conv T σ ⟨d,.box t x,ty,ps,af,gd⟩ = []:=rfl
theorem w_box (t:TypeId) (x:Operand):writer conv ⟨d,.box t x,ty,ps,af,gd⟩ = false:=id rfl
theorem w_call {g:FuncId} (h:conv g = .imm) (args:Array Operand) (ts:Array TypeId):writer conv ⟨d,.call ⟨.value (.func g),args,ts⟩,ty,ps,af,gd⟩ = false:=by unfold writer; simp only [h]
theorem foot_deep {g:FuncId} (h:conv g ≠ .inl) (args:Array Operand) (ts:Array TypeId):footO conv T σ ⟨d,.call ⟨.value (.func g),args,ts⟩,ty,ps,af,gd⟩ = (stripL (strip σ depth) (args.toList.map (val T))).map (·.2):=by
 simp only [footO,val,List.append_nil,deepO]
 cases hc:conv g with
 | inl => exact absurd hc h
 | own => cases stripL (strip σ depth) (args.toList.map (val T)) <;> rfl
 | imm => cases stripL (strip σ depth) (args.toList.map (val T)) <;> rfl
theorem foot_call {g:FuncId} (h:conv g = .imm) (args:Array Operand) (ts:Array TypeId):footIds conv T σ ⟨d,.call ⟨.value (.func g),args,ts⟩,ty,ps,af,gd⟩ = ((stripL (strip σ depth) (args.toList.map (val T))).map (·.2)).getD []:=by
 unfold footIds
 rw [foot_deep d ty ps af gd T σ (by rw [h]; exact fun e => by cases e)]
end
def opsKQ (P:Program) (conv:FuncId→Conv) (call:Call) (ops:Array Oper) (rest:List Oper) (T:Nat→V) (d:Option Tmp):Res→Option St
 | some (v,σ,nx) => evOpsQ P conv call ops rest ⟨putT T d v,σ,nx⟩
 | none => none
def opsWQ (P:Program) (conv:FuncId→Conv) (call:Call) (ops:Array Oper) (rest:List Oper) (o:Oper) (s:St):Option Bool→Option St
 | some true => opsKQ P conv call ops rest s.T o.dst (evOpD P conv call o s.T s.σ s.nx)
 | some false => evOpsQ P conv call ops rest ⟨putT s.T o.dst (.tup []),s.σ,s.nx⟩
 | none => none
theorem evOpsQ_nil (ops:Array Oper) (s:St):evOpsQ P conv call ops [] s = some s:=rfl
theorem evOpsQ_cons (ops:Array Oper) (d:Option Tmp) (op:Op) (ty:TypeId) (ps:String) (af:Array Edge) (rest:List Oper) (T:Nat→V) (σ:Store) (nx:Nat) :
  evOpsQ P conv call ops (⟨d,op,ty,ps,af,none⟩ :: rest) ⟨T,σ,nx⟩ = opsKQ P conv call ops rest T d (evOpD P conv call ⟨d,op,ty,ps,af,none⟩ T σ nx):=by
 show (match evOpD P conv call ⟨d,op,ty,ps,af,none⟩ T σ nx with | some (v,σ',nx') => _ | none => none) = _
 cases evOpD P conv call ⟨d,op,ty,ps,af,none⟩ T σ nx <;> rfl
theorem evOpsQ_guard (ops:Array Oper) (d:Option Tmp) (op:Op) (ty:TypeId) (ps:String) (af:Array Edge) (g:Nat × Bool) (rest:List Oper) (T:Nat→V) (σ:Store) (nx:Nat) :
  evOpsQ P conv call ops (⟨d,op,ty,ps,af,some g⟩ :: rest) ⟨T,σ,nx⟩ = opsWQ P conv call ops rest ⟨d,op,ty,ps,af,some g⟩ ⟨T,σ,nx⟩ (wantedB ops T ⟨d,op,ty,ps,af,some g⟩):=by
 show (match wantedB ops T ⟨d,op,ty,ps,af,some g⟩ with | some true => _ | some false => _ | none => none) = _
 cases wantedB ops T ⟨d,op,ty,ps,af,some g⟩ with
 | none => rfl
 | some b =>
  cases b with
  | false => rfl
  | true =>
   simp only [opsWQ]
   cases evOpD P conv call ⟨d,op,ty,ps,af,some g⟩ T σ nx <;> rfl
theorem opsKQ_some (ops:Array Oper) (rest:List Oper) (T:Nat→V) (d:Tmp) (v:V) (σ:Store) (nx:Nat):opsKQ P conv call ops rest T (some d) (some (v,σ,nx)) = evOpsQ P conv call ops rest ⟨upd T d v,σ,nx⟩:=rfl
theorem opsKQ_none (ops:Array Oper) (rest:List Oper) (T:Nat→V) (v:V) (σ:Store) (nx:Nat):opsKQ P conv call ops rest T none (some (v,σ,nx)) = evOpsQ P conv call ops rest ⟨T,σ,nx⟩:=rfl
theorem opsWQ_true (ops:Array Oper) (rest:List Oper) (d:Option Tmp) (op:Op) (ty:TypeId) (ps:String) (af:Array Edge) (g:Option (Nat × Bool)) (T:Nat→V) (σ:Store) (nx:Nat) :
  opsWQ P conv call ops rest ⟨d,op,ty,ps,af,g⟩ ⟨T,σ,nx⟩ (some true) = opsKQ P conv call ops rest T d (evOpD P conv call ⟨d,op,ty,ps,af,g⟩ T σ nx):=rfl
theorem opsWQ_false (ops:Array Oper) (rest:List Oper) (d:Tmp) (op:Op) (ty:TypeId) (ps:String) (af:Array Edge) (g:Option (Nat × Bool)) (T:Nat→V) (σ:Store) (nx:Nat) :
  opsWQ P conv call ops rest ⟨some d,op,ty,ps,af,g⟩ ⟨T,σ,nx⟩ (some false) = evOpsQ P conv call ops rest ⟨upd T d (.tup []),σ,nx⟩:=rfl
theorem patchS_box {σ:Store} {nx:Nat} {cells:List V} {st:Nat}:patchS [] nx (nx + 1) σ (evBox (restrict σ []) nx cells st) = evBox σ nx cells st:=by
 funext b
 unfold patchS evBox upd restrict
 by_cases h:b = nx
 ·subst h; simp
 ·rw [if_neg (by simp; omega),if_neg h]
section
variable (d:Option Tmp) (ty:TypeId) (ps:String) (af:Array Edge) (gd:Option (Nat × Bool)) (T:Nat→V) (σ:Store) (nx:Nat)
omit d ty ps af gd T σ nx in
theorem keeps_nil (T:Nat→V) (o:Oper) (v:V):keeps conv T o [] v = true:=by
 obtain ⟨dst,op,type,pos,after,guard⟩:=o
 cases op <;> simp only [keeps]
 rename_i c
 obtain ⟨callee,args,ts⟩:=c
 cases callee with
 | value f =>
  cases hv:val T f <;> simp only [hv]
  rename_i g cs
  cases hc:conv g <;> simp
 | builtin b => rfl
 | invoke r m => rfl
theorem evOpD_of {o:Oper} {F:List Nat} (hf:footO conv T σ o = some F) (hk:∀ v,keeps conv T o F v = true):evOpD P conv call o T σ nx = if (F.all fun b => decide (b < nx)) = true then match evOp P conv call o T (restrict σ F) nx with | some (v,σ1,nx1) => some (v,patchS F nx nx1 σ σ1,nx1) | none => none else none:=by
 unfold evOpD
 simp only [hf,hk,if_true]
 cases evOp P conv call o T (restrict σ F) nx with
 | none => rfl
 | some r => rfl
theorem opD_nil {o:Oper} (hf:footO conv T σ o = some []) {v:V} (h:∀ σ,evOp P conv call o T σ nx = some (v,σ,nx)):evOpD P conv call o T σ nx = some (v,σ,nx):=by
 rw [evOpD_of T σ nx hf (keeps_nil T o)]
 simp only [List.all_nil,if_true,h]
 rw [patchS_nil]
theorem opD_map {o:Oper} (hf:footO conv T σ o = some []) {m:Option V} (h:∀ σ,evOp P conv call o T σ nx = m.map (·,σ,nx)):evOpD P conv call o T σ nx = m.map (·,σ,nx):=by
 cases m with
 | some v => exact opD_nil T σ nx hf h
 | none =>
  rw [evOpD_of T σ nx hf (keeps_nil T o)]
  simp only [List.all_nil,if_true,h,Option.map_none]
theorem opD_new {o:Oper} (hf:footO conv T σ o = some []) {m:Option (List V × Nat × V)} (h:∀ σ,evOp P conv call o T σ nx = m.map fun p => (p.2.2,evBox σ nx p.1 p.2.1,nx + 1)):evOpD P conv call o T σ nx = m.map fun p => (p.2.2,evBox σ nx p.1 p.2.1,nx + 1):=by
 rw [evOpD_of T σ nx hf (keeps_nil T o)]
 simp only [List.all_nil,if_true,h]
 cases m with
 | none => rfl
 | some p => simp only [Option.map_some]; rw [patchS_box]
theorem opD_move (x:Operand):evOpD P conv call ⟨d,.move x,ty,ps,af,gd⟩ T σ nx = some (val T x,σ,nx):=opD_nil T σ nx rfl fun _ => rfl
theorem opD_assign (x:Operand):evOpD P conv call ⟨d,.assign x,ty,ps,af,gd⟩ T σ nx = some (val T x,σ,nx):=opD_nil T σ nx rfl fun _ => rfl
theorem opD_pick (c a b:Operand):evOpD P conv call ⟨d,.pick c a b,ty,ps,af,gd⟩ T σ nx = (pickV (val T a) (val T b) (val T c)).map (·,σ,nx):=opD_map T σ nx rfl fun σ => op_pick d ty ps af gd T σ nx c a b
theorem opD_nilCheck (x:Operand):evOpD P conv call ⟨d,.nilCheck x,ty,ps,af,gd⟩ T σ nx = (nilV (val T x)).map (·,σ,nx):=opD_map T σ nx rfl fun σ => op_nilCheck d ty ps af gd T σ nx x
theorem opD_binOp (op:BinOp) (t:TypeId) (x y:Operand) (yt:TypeId):evOpD P conv call ⟨d,.binOp op t x y yt,ty,ps,af,gd⟩ T σ nx = (evBin P op t x y (val T x) (val T y)).map (·,σ,nx):=opD_map T σ nx rfl fun _ => rfl
theorem opD_unOp (op:UnOp) (t:TypeId) (x:Operand):evOpD P conv call ⟨d,.unOp op t x,ty,ps,af,gd⟩ T σ nx = (evUn P op (val T x)).map (·,σ,nx):=opD_map T σ nx rfl fun _ => rfl
theorem opD_fieldAddr (t:TypeId) (x:Operand) (f:Nat):evOpD P conv call ⟨d,.fieldAddr t x f,ty,ps,af,gd⟩ T σ nx = (evFieldAddr P t (val T x) f).map (·,σ,nx):=opD_map T σ nx rfl fun _ => rfl
theorem opD_field (t:TypeId) (x:Operand) (f:Nat):evOpD P conv call ⟨d,.field t x f,ty,ps,af,gd⟩ T σ nx = (evField P t (val T x) f).map (·,σ,nx):=opD_map T σ nx rfl fun _ => rfl
theorem opD_indexAddr (t:TypeId) (x i:Operand):evOpD P conv call ⟨d,.indexAddr t x i,ty,ps,af,gd⟩ T σ nx = (evIndexAddr P t (val T x) (val T i)).map (·,σ,nx):=opD_map T σ nx rfl fun _ => rfl
theorem opD_index (t:TypeId) (x i:Operand):evOpD P conv call ⟨d,.index t x i,ty,ps,af,gd⟩ T σ nx = (evIndex P t (val T x) (val T i)).map (·,σ,nx):=opD_map T σ nx rfl fun _ => rfl
theorem opD_extract (x:Operand) (i:Nat):evOpD P conv call ⟨d,.extract x i,ty,ps,af,gd⟩ T σ nx = (extV i (val T x)).map (·,σ,nx):=opD_map T σ nx rfl fun σ => op_extract d ty ps af gd T σ nx x i
theorem opD_len (x:Operand) (t:TypeId):evOpD P conv call ⟨d,.call ⟨.builtin .len,#[x],#[t]⟩,ty,ps,af,gd⟩ T σ nx = (evLen P t (val T x)).map (·,σ,nx):=opD_map T σ nx rfl fun _ => rfl
theorem opD_build (t:TypeId) (parts:Array (Nat × Operand)):evOpD P conv call ⟨d,.build t parts,ty,ps,af,gd⟩ T σ nx = (evBuild P t (parts.toList.map fun p => (p.1,val T p.2))).map (·,σ,nx):=opD_map T σ nx rfl fun _ => rfl
theorem opD_makeFunc (f:FuncId) (cap:Array Operand):evOpD P conv call ⟨d,.makeFunc (.func f) #[] cap,ty,ps,af,gd⟩ T σ nx = some (.clo f (cap.toList.map (val T)),σ,nx):=opD_nil T σ nx rfl fun _ => rfl
theorem opD_alloc (t:TypeId) (h:(tyI P t).ok = true) (hz:decide ((tyI P t).zero.length = (tyI P t).size) = true) (h0:decide (0 < (tyI P t).size) = true) (hb:isB (tyI P t).zero = false):evOpD P conv call ⟨d,.alloc t,ty,ps,af,gd⟩ T σ nx = some (.rp nx 0,evBox σ nx (tyI P t).zero 0,nx + 1) :=
 opD_new (m:=some ((tyI P t).zero,0,.rp nx 0)) T σ nx rfl fun σ => op_alloc d ty ps af gd T σ nx t h hz h0 hb
theorem opD_box (t:TypeId) (x:Operand):evOpD P conv call ⟨d,.box t x,ty,ps,af,gd⟩ T σ nx = (cellsOfV (val T x)).map fun cs => (.rp nx 0,evBox σ nx cs 0,nx + 1):=by
 have:=opD_new (P:=P) (conv:=conv) (call:=call) (o:=⟨d,.box t x,ty,ps,af,gd⟩) (m:=(cellsOfV (val T x)).map fun cs => (cs,0,V.rp nx 0)) T σ nx rfl fun σ => by rw [op_box]; cases cellsOfV (val T x) <;> rfl
 rw [this]
 cases cellsOfV (val T x) <;> rfl
def loadD (P:Program) (σ:Store) (nx:Nat) (t:TypeId):V→Option V
 | .rp b off => if b < nx then evLoad P σ t (.rp b off) else none
 | v => evLoad P σ t v
theorem opD_load (t:TypeId) (a:Operand):evOpD P conv call ⟨d,.load t a,ty,ps,af,gd⟩ T σ nx = (loadD P σ nx t (val T a)).map (·,σ,nx):=by
 have key:∀ b off,evLoad P (restrict σ [b]) t (.rp b off) = evLoad P σ t (.rp b off):=fun b off => by
  unfold evLoad cellsAt restrict
  simp
 rw [evOpD_of (F:=refsC (val T a)) T σ nx rfl (fun _ => rfl)]
 show (if ((refsC (val T a)).all fun b => decide (b < nx)) = true then match (evLoad P (restrict σ (refsC (val T a))) t (val T a)).map (·,restrict σ (refsC (val T a)),nx) with | some (v,σ1,nx1) => some (v,patchS (refsC (val T a)) nx nx1 σ σ1,nx1) | none => none else none) = _
 cases hv:val T a with
 | rp b off =>
  simp only [refsC,List.all_cons,List.all_nil,Bool.and_true,decide_eq_true_eq,loadD,key]
  by_cases hb:b < nx
  ·rw [if_pos hb,if_pos hb]
   cases evLoad P σ t (.rp b off) with
   | none => rfl
   | some v => simp only [Option.map_some,patchS_eq_self]
  ·rw [if_neg hb,if_neg hb]; rfl
 | tp row off =>
  simp only [refsC,List.all_nil,if_true,loadD]
  have:evLoad P (restrict σ []) t (.tp row off) = evLoad P σ t (.tp row off):=by unfold evLoad cellsAt; rfl
  rw [this]
  cases evLoad P σ t (.tp row off) with
  | none => rfl
  | some v => simp only [Option.map_some,patchS_nil]
 | rs b off len =>
  have e:∀ σ,evLoad P σ t (.rs b off len) = none:=fun σ => by unfold evLoad cellsAt; split <;> simp
  simp only [loadD,e,Option.map_none]
  split <;> rfl
 | _ =>
  simp only [refsC,List.all_nil,if_true,loadD]
  unfold evLoad cellsAt
  cases P.info? t <;> cases P.underlying t <;> simp
theorem loadD_tp (σ:Store) (nx:Nat) (t:TypeId) (row:List V) (off:Nat):loadD P σ nx t (.tp row off) = evLoad P σ t (.tp row off):=rfl
theorem loadD_rp (σ:Store) (nx:Nat) (t:TypeId) (b off:Nat):loadD P σ nx t (.rp b off) = if b < nx then evLoad P σ t (.rp b off) else none:=rfl
def storeD (P:Program) (σ:Store) (nx:Nat) (t:TypeId) (v:V):V→Option Store
 | .rp b off => if b < nx then evStore P σ t (.rp b off) v else none
 | _ => none
theorem opD_store (t:TypeId) (a x:Operand):evOpD P conv call ⟨d,.store t a x,ty,ps,af,gd⟩ T σ nx = (storeD P σ nx t (val T x) (val T a)).map (.tup [],·,nx):=by
 rw [evOpD_of (F:=refsC (val T a)) T σ nx rfl (fun _ => rfl)]
 show (if ((refsC (val T a)).all fun b => decide (b < nx)) = true then match (evStore P (restrict σ (refsC (val T a))) t (val T a) (val T x)).map (V.tup [],·,nx) with | some (v,σ1,nx1) => some (v,patchS (refsC (val T a)) nx nx1 σ σ1,nx1) | none => none else none) = _
 cases hv:val T a with
 | rp b off =>
  simp only [refsC,List.all_cons,List.all_nil,Bool.and_true,decide_eq_true_eq,storeD]
  by_cases hb:b < nx
  ·rw [if_pos hb,if_pos hb]
   unfold evStore
   have hr:restrict σ [b] b = σ b:=by unfold restrict; simp
   cases P.info? t with
   | none => rfl
   | some i =>
    cases cellsOfV (val T x) with
    | none => rfl
    | some vs =>
     simp only [hr]
     cases σ b with
     | none => rfl
     | some B =>
      by_cases hc:B.wr = true∧vs.length = i.size∧off + vs.length ≤ B.cells.length∧vs.all isCell = true
      ·simp only [if_pos hc,Option.map_some]
       congr 2
       congr 1
       funext c
       unfold patchS upd restrict
       by_cases hcb:c = b
       ·subst hcb; simp
       ·rw [if_neg (by simp [hcb]),if_neg hcb]
      ·simp only [if_neg hc,Option.map_none]
  ·rw [if_neg hb,if_neg hb]; rfl
 | _ =>
  simp only [storeD]
  have:evStore P (restrict σ (refsC (val T a))) t (val T a) (val T x) = none:=by
   rw [hv]; unfold evStore; cases P.info? t <;> cases cellsOfV (val T x) <;> rfl
  rw [hv] at this
  rw [this]
  simp
theorem storeD_rp (σ:Store) (nx:Nat) (t:TypeId) (v:V) (b off:Nat):storeD P σ nx t v (.rp b off) = if b < nx then evStore P σ t (.rp b off) v else none:=rfl
end
end
end Go.TV
namespace Go.TV
set_option linter.unusedVariables false
set_option linter.unusedSimpArgs false
variable [Known]
noncomputable def fn (P:Program) (conv:FuncId→Conv) (ext:Ext) (f:FuncId) (ts:List V):Option V :=
 match ev P conv ext f ts noStore 0 with
 | some (v,σ1,_) => (strip σ1 depth v).map (·.1)
 | none => none
section
variable {P:Program} {conv:FuncId→Conv} {ext:Ext}
def behind (σ:Store) (ids:List Nat) (t:V):Store:=if ids.isEmpty || flat depth t then σ else freezeL σ ids
theorem call_imm {f:FuncId} (h:conv f = .imm) (args:List V) (σ:Store) (nx:Nat):evCall conv (ev P conv ext) f args σ nx =
  (stripL (strip σ depth) args).bind fun p => (fn P conv ext f p.1).map fun t => (t,behind σ p.2 t,nx):=by
 unfold evCall fn behind
 rw [h]
 simp only
 cases stripL (strip σ depth) args with
 | none => rfl
 | some p =>
  obtain ⟨ts,ids⟩:=p
  simp only [Option.bind_some]
  cases ev P conv ext f ts noStore 0 with
  | none => rfl
  | some q =>
   obtain ⟨v,σ1,n⟩:=q
   simp only
   cases strip σ1 depth v with
   | none => rfl
   | some r =>
    obtain ⟨t,j⟩:=r
    simp only [Option.map_some]
    split <;> rfl
theorem behind_nil (σ:Store) (t:V):behind σ [] t = σ:=rfl
theorem behind_sc (σ:Store) (ids:List Nat) (v:Value):behind σ ids (.sc v) = σ:=by
 unfold behind depth flat
 simp
theorem behind_tup2 (σ:Store) (ids:List Nat) (v w:Value):behind σ ids (.tup [.sc v,.sc w]) = σ:=by
 have:flat depth (.tup [.sc v,.sc w]) = true:=rfl
 unfold behind
 rw [this]
 simp
theorem call_inl {call:Call} {f:FuncId} (h:conv f = .inl) (args:List V) (σ:Store) (nx:Nat):evCall conv call f args σ nx = call f args σ nx:=by
 unfold evCall; rw [h]
theorem call_own {call:Call} {f:FuncId} (h:conv f = .own) (args:List V) (σ:Store) (nx:Nat):evCall conv call f args σ nx =
  (stripL (strip σ depth) args).bind fun p => (call f p.1 noStore nx).bind fun q => (gather q.2.1 depth q.1).map fun ids => (q.1,joinS nx σ q.2.1 ids,q.2.2):=by
 unfold evCall
 rw [h]
 simp only
 cases stripL (strip σ depth) args with
 | none => rfl
 | some p =>
  simp only [Option.bind_some]
  cases call f p.1 noStore nx with
  | none => rfl
  | some q =>
   simp only [Option.bind_some]
   cases gather q.2.1 depth q.1 <;> rfl
theorem stripL_nil (f:V→Option (V × List Nat)):stripL f [] = some ([],[]):=rfl
theorem stripL_cons (f:V→Option (V × List Nat)) (v:V) (vs:List V):stripL f (v :: vs) = (f v).bind fun p => (stripL f vs).map fun q => (p.1 :: q.1,p.2 ++ q.2):=by
 show (match f v,stripL f vs with | some (t,i),some (ts,j) => some (t :: ts,i ++ j) | _,_ => none) = _
 cases f v <;> cases stripL f vs <;> rfl
theorem strip_sc (σ:Store) (d:Nat) (v:Value):strip σ d (.sc v) = some (.sc v,[]):=by cases d <;> rfl
theorem strip_nil (σ:Store) (d:Nat):strip σ d .nil = some (.ts [] 0,[]):=by cases d <;> rfl
theorem strip_tp (σ:Store) (d:Nat) (row:List V) (off:Nat):strip σ d (.tp row off) = some (.tp row off,[]):=by cases d <;> rfl
theorem strip_ts (σ:Store) (d:Nat) (row:List V) (len:Nat):strip σ d (.ts row len) = some (.ts row len,[]):=by cases d <;> rfl
theorem strip_agg (σ:Store) (d:Nat) (vs:List V):strip σ (d + 1) (.agg vs) = (stripL (strip σ d) vs).map fun p => (.agg p.1,p.2):=by
 show (match stripL (strip σ d) vs with | some (ts,ids) => some (V.agg ts,ids) | none => none) = _
 cases stripL (strip σ d) vs <;> rfl
theorem strip_tup (σ:Store) (d:Nat) (vs:List V):strip σ (d + 1) (.tup vs) = (stripL (strip σ d) vs).map fun p => (.tup p.1,p.2):=by
 show (match stripL (strip σ d) vs with | some (ts,ids) => some (V.tup ts,ids) | none => none) = _
 cases stripL (strip σ d) vs <;> rfl
theorem strip_clo (σ:Store) (d:Nat) (f:FuncId) (vs:List V):strip σ (d + 1) (.clo f vs) = (stripL (strip σ d) vs).map fun p => (.clo f p.1,p.2):=by
 show (match stripL (strip σ d) vs with | some (ts,ids) => some (V.clo f ts,ids) | none => none) = _
 cases stripL (strip σ d) vs <;> rfl
theorem strip_rp (σ:Store) (d b off:Nat):strip σ (d + 1) (.rp b off) = (σ b).bind fun B => (stripL (strip σ d) B.cells).map fun p => (.tp p.1 off,b :: p.2):=by
 show (match σ b with | some B => (match stripL (strip σ d) B.cells with | some (ts,ids) => some (V.tp ts off,b :: ids) | none => none) | none => none) = _
 cases σ b with
 | none => rfl
 | some B => simp only [Option.bind_some]; cases stripL (strip σ d) B.cells <;> rfl
theorem strip_rs (σ:Store) (d b off len:Nat):strip σ (d + 1) (.rs b off len) = (σ b).bind fun B => if off + len * B.st ≤ B.cells.length then (stripL (strip σ d) ((B.cells.drop off).take (len * B.st))).map fun p => (.ts p.1 len,b :: p.2) else none:=by
 show (match σ b with | some B => (if off + len * B.st ≤ B.cells.length then (match stripL (strip σ d) ((B.cells.drop off).take (len * B.st)) with | some (ts,ids) => some (V.ts ts len,b :: ids) | none => none) else none) | none => none) = _
 cases σ b with
 | none => rfl
 | some B =>
  simp only [Option.bind_some]
  split
  ·cases stripL (strip σ d) ((B.cells.drop off).take (len * B.st)) <;> rfl
  ·rfl
def drawC (ids:List Nat) (t:V) (σ:Store) (nx:Nat):Res:=if (ids.isEmpty || flat depth t) = true then some (t,σ,nx) else none
theorem drawC_nil (t:V) (σ:Store) (nx:Nat):drawC [] t σ nx = some (t,σ,nx):=rfl
theorem drawC_sc (ids:List Nat) (v:Value) (σ:Store) (nx:Nat):drawC ids (.sc v) σ nx = some (.sc v,σ,nx):=by
 unfold drawC depth flat
 simp
theorem opD_call {d:Option Tmp} {ty:TypeId} {ps:String} {af:Array Edge} {gd:Option (Nat × Bool)} {T:Nat→V} {σ:Store} {nx:Nat} {g:FuncId} (h:conv g = .imm) (args:Array Operand) (ts:Array TypeId) :
  evOpD P conv (ev P conv ext) ⟨d,.call ⟨.value (.func g),args,ts⟩,ty,ps,af,gd⟩ T σ nx = (stripL (strip σ depth) (args.toList.map (val T))).bind fun p => if (p.2.all fun b => decide (b < nx)) = true then (fn P conv ext g p.1).bind fun t => drawC p.2 t σ nx else none:=by
 unfold evOpD
 rw [foot_deep d ty ps af gd T σ (by rw [h]; exact fun e => by cases e)]
 cases hst:stripL (strip σ depth) (args.toList.map (val T)) with
 | none => rfl
 | some p =>
  obtain ⟨us,ids⟩:=p
  simp only [Option.map_some,Option.bind_some]
  by_cases hall:(ids.all fun b => decide (b < nx)) = true
  ·rw [if_pos hall,if_pos hall]
   have e:=op_call (P:=P) (conv:=conv) (call:=ev P conv ext) d ty ps af gd T (restrict σ ids) nx (.func g) args ts
   rw [e]
   have hst':stripL (strip (restrict σ ids) depth) (args.toList.map (val T)) = some (us,ids) :=
    stripL_congr (fun v t i h hi => strip_congr _ v t i h fun b hb => by unfold restrict; rw [if_pos (hi b hb)]) hst
   simp only [val,callV_clo,List.append_nil,call_imm h,hst',Option.bind_some]
   cases fn P conv ext g us with
   | none => rfl
   | some t =>
    simp only [Option.map_some,Option.bind_some,keeps,val,h,drawC,behind]
    by_cases hk:(ids.isEmpty || flat depth t) = true
    ·rw [if_pos hk,if_pos hk,if_pos hk,patchS_eq_self]
    ·rw [if_neg hk,if_neg hk]
  ·rw [if_neg hall,if_neg hall]
end
abbrev I (n:Int):V:=.sc (.int .i64 n)
abbrev Bo (b:Bool):V:=.sc (.bool b)
abbrev Sg (s:ByteArray):V:=.sc (.string s)
abbrev L (xs:List Int):V:=.ts (xs.map I) xs.length
theorem wrap_id {n:Int} (h0:-9223372036854775808 ≤ n) (h1:n ≤ 9223372036854775807):IntKind.i64.wrap n = n:=by
 rw [IntKind.wrap_i64]; omega
end Go.TV
namespace Go.TV
variable [Known]
attribute [go_sem low] op_buildSlice
attribute [go_sem] drawK_some c_drawG drawS_nil drawS_cons evOpsF_nil evOpsF_cons evOpsF_guard opsKF_some opsKF_none opsWF_true opsWF_false okF_nil okF_cons okG_nil okG_cons addF_nil addF_cons edgeA_nil edgeA_cons binds_data binds_phase binds_chain binds_guard binds_text binds_gc w_store foot_store foot_load w_load refs_rp refs_rs refs_tp refs_ts refs_sc refs_nil refs_agg foot_move w_move foot_assign w_assign foot_pick w_pick foot_nilCheck w_nilCheck foot_binOp w_binOp foot_unOp w_unOp foot_fieldAddr w_fieldAddr foot_field w_field foot_indexAddr w_indexAddr foot_index w_index foot_extract w_extract foot_len w_len foot_build w_build foot_makeFunc w_makeFunc foot_alloc w_alloc foot_box w_box w_call foot_call List.contains_cons List.contains_nil Bool.or_false Bool.false_or Bool.true_or Nat.reduceBEq evOps_nil evOps_cons evOps_guard opsK_some opsK_none opsW_true opsW_false wantedB_some guardB_bool guardB_undef val_tmp val_const val_func op_move op_assign op_pick pickV_bool op_alloc op_alloc_b isB_0 isB_1 isB_3 isB_sc isP_nil isP_int isP_bool isP_string isP_none isN_nil isN_sc Bool.false_and Bool.and_false Bool.true_and op_box op_build op_load op_store op_nilCheck nilV_tp nilV_rp op_binOp op_unOp op_convert op_makeFunc op_makeSlice op_slice op_fieldAddr op_field op_indexAddr op_index op_extract extV_tup op_call callV_clo op_len op_append op_copy op_clear evCopy_eq evClear_eq norm1_some blockK_norm blockK_ret blockK_exit loopK_norm loopK_ret loopK_exit resK_norm resK_ret res_nil res_tmp1 res_tmp2 res_tmp3 res_cell1 oneOf_zero oneOf_one oneOf_two oneOf_three argsT_get ofVal_int ofVal_bool ofVal_string ofVal_nilp ofVal_nils ofVal_agg c_seq sK_norm sK_ret sK_exit c_region c_draw c_skip c_ret c_exit c_cond cK_true cK_false c_block c_loop evOpsQ_nil evOpsQ_cons evOpsQ_guard opsKQ_some opsKQ_none opsWQ_true opsWQ_false opD_move opD_assign opD_pick opD_nilCheck opD_binOp opD_unOp opD_fieldAddr opD_field opD_indexAddr opD_index opD_extract opD_len opD_build opD_makeFunc opD_alloc opD_box opD_load loadD_tp loadD_rp opD_store storeD_rp opD_call drawC_nil drawC_sc Option.getD_some Option.getD_none evLoad_tp evLoad_tpa evLoad_rp evLoad_rpa evStore_rp evStore_agg evField_tp evField_rp evField_agg evIndex_ts evIndex_rs evMake_eq evBuildSlice_eq evBuild_eq evAppend_eq evLen_ts evLen_rs evLen_nil evLen_str evIdx_str evSlice_str evSlice_ts evSlice_rs ev_add ev_sub ev_mul ev_quo ev_rem ev_eql ev_neq ev_lss ev_leq ev_gtr ev_geq ev_not ev_neg call_imm behind_nil behind_sc behind_tup2 stripL_nil stripL_cons strip_sc strip_nil strip_tp strip_ts strip_agg strip_tup strip_clo strip_rp strip_rs upd_same upd_ne ne_eq List.getElem?_cons_zero List.getElem?_cons_succ Option.getD_some Option.map_some Option.bind_some List.getElem?_toArray not_false_eq_true reduceCtorEq beq_self_eq_true if_true if_false Bool.false_eq_true List.map_cons List.map_nil List.nil_append List.cons_append Nat.reduceEqDiff decide_true decide_false Bool.true_and Bool.false_and Bool.not_true Bool.not_false Bool.and_true Bool.or_true Bool.and_false bnd and_true true_and
end Go.TV
namespace Go.TV
variable [Known]
theorem loop_rule {body:St→Option (Ex × St)} {st0:St} {x:Option (Ex × St)} (hL:evLoopI body st0 = x) (J:Nat→St→Prop) (post:Ex × St→Prop)
  (step:∀ n st,J n st→(∃ st',body st = some (.norm,st')∧∃ m,m < n∧J m st')∨(∃ r,body st = some r∧(∀ s,r ≠ (.norm,s))∧post r)) (n:Nat) (h0:J n st0):∃ r,x = some r∧post r:=by
 subst hL
 induction n using Nat.strongRecOn generalizing st0 with
 | _ n ih =>
  rcases step n st0 h0 with ⟨st',h1,m,hm,hJ⟩ | ⟨r,h1,h2,h3⟩
  ·obtain ⟨r,hr,hp⟩:=ih m hm hJ
   exact ⟨r,by rw [evLoopI_eq,h1]; exact hr,hp⟩
  ·refine ⟨r,?_,h3⟩
   rw [evLoopI_eq,h1]
   obtain ⟨e,s⟩:=r
   cases e with
   | norm => exact absurd rfl (h2 s)
   | exit i => rfl
   | ret => rfl
end Go.TV
namespace Go.TV
open Go.ChangeShapes Go.WideShapes Go.RowKit
set_option linter.unusedVariables false
variable [Known]
def start (W:World):Sit:=⟨fun k _ => k < W.heap.size,fun _ => none,W⟩
theorem start_inv (W:World) (hk:Kn (start W)):Inv (start W) noStore:=Inv.none _ (fun _ _ h => h) hk
structure OpensV {α:Type} (P:Program) (t:TypeId) (c:α→List V) (ok:α→Prop):Prop where
 out:∀ {H:Type} {enc:TypeId × Value→H} {W:World} {base:Nat} {spare:Nat→Bool} {held:Bool} {fuel:Nat} {cs:List Value} {y:DataW H × List MemPlace},
  DataW.trod enc P W base spare held fuel t cs = some y→(∀ n ∈ DataW.weights P t y.1,n ≤ reachBytes)→∃ x,VRs (start W) (c x) cs∧ok x
theorem VRs_one {s:Sit} {v:V} {x:Value} (h:VR s v x):VRs s [v] [x]:=by
 unfold VRs
 exact ⟨x,[],rfl,h,by unfold VRs; rfl⟩
theorem opensV_int {P:Program} {t:TypeId} {k:IntKind} (ht:P.underlying t = some (.int k)):OpensV P t (fun n:Int => [.sc (.int k n)]) (fun n => (Lit.int k n).wf = true) :=
 ⟨fun h _ => by
  obtain ⟨n,rfl,_,hw⟩:=DataW.trod_int ht h
  exact ⟨n,VRs_one (VR_sc rfl),hw⟩⟩
theorem weights_of_all {H:Type} {P:Program} {e:TypeId}:∀ {l:List (DataW H)} {d:DataW H},d ∈ l→∀ n ∈ d.weights P e,n ∈ DataW.weightsAll P e l
 | c :: l,d,hd,n,hn => by
  unfold DataW.weightsAll
  rcases List.mem_cons.1 hd with rfl | hd
  ·exact List.mem_append_left _ hn
  ·exact List.mem_append_right _ (weights_of_all hd n hn)
theorem choose_list {α:Type} {p:Nat→α→Prop}:∀ n,(∀ i,i < n→∃ x,p i x)→∃ l:List α,l.length = n∧∀ i x,l[i]? = some x→p i x
 | 0,_ => ⟨[],rfl,fun i x h => by simp at h⟩
 | n + 1,h => by
  obtain ⟨l,hl,hp⟩:=choose_list n (fun i hi => h i (by omega))
  obtain ⟨x,hx⟩:=h n (by omega)
  refine ⟨l ++ [x],by simp [hl],fun i y hy => ?_⟩
  rcases Nat.lt_or_ge i n with hi | hi
  ·rw [List.getElem?_append_left (by omega)] at hy
   exact hp i y hy
  ·rw [List.getElem?_append_right (by omega),hl] at hy
   have h0:i - n = 0:=by
    rcases Nat.eq_zero_or_pos (i - n) with h0 | h0
    ·exact h0
    ·rw [List.getElem?_eq_none (by simp; omega)] at hy
     cases hy
   rw [h0] at hy
   have:x = y:=by simpa using hy
   subst this
   have:i = n:=by omega
   subst this
   exact hx
theorem VRow_flatMap {s:Sit} {α:Type} {c:α→List V} {k size:Nat} (hc:∀ x,(c x).length = size):∀ (xs:List α) (o:Nat),(∀ i x,xs[i]? = some x→VRow s (c x) k (o + i * size))→VRow s (xs.flatMap c) k o
 | [],o,_ => by rw [List.flatMap_nil]; unfold VRow; trivial
 | x :: xs,o,h => by
  rw [List.flatMap_cons]
  have h0:=h 0 x rfl
  rw [Nat.zero_mul,Nat.add_zero] at h0
  have h1:=VRow_flatMap hc xs (o + size) (fun i y hy => by
   have:=h (i + 1) y (by simpa using hy)
   rw [Nat.add_mul,Nat.one_mul] at this
   rwa [show o + size + i * size = o + (i * size + size) by omega])
  have app:∀ (a b:List V) (o:Nat),VRow s a k o→VRow s b k (o + a.length)→VRow s (a ++ b) k o:=by
   intro a
   induction a with
   | nil => intro b o _ hb; simpa using hb
   | cons v a ih =>
    intro b o ha hb
    rw [List.cons_append]
    unfold VRow at ha ⊢
    refine ⟨ha.1,ha.2.1,ih b (o + 1) ha.2.2 ?_⟩
    rwa [show o + 1 + a.length = o + (v :: a).length by simp; omega]
  exact app _ _ o h0 (by rw [hc]; exact h1)
theorem opensV_slice {P:Program} {t e:TypeId} {α:Type} {c:α→List V} {ok:α→Prop} {B size:Nat} (ht:P.underlying t = some (.slice e)) (hd:OpensV P e c ok) (hcs:∀ x,(c x).length = size) (hc:P.cellsOf e = size) (hB:P.bytesOf e = B) :
  OpensV P t (fun xs:List α => [.ts (xs.flatMap c) xs.length]) (fun xs => (∀ x ∈ xs,ok x)∧xs.length * B ≤ 140737488351232∧xs.length ≤ maxLen) :=
 ⟨fun {H enc W base spare held fuel cs y} h hw => by
  rcases Go.Deep.open_slice ht h with ⟨rfl,rfl⟩ | ⟨a,len,cap,m,n,D,Pl,rfl,_,hl,hm,hmm,rfl,hx⟩
  ·exact ⟨[],VRs_one (by unfold VR; exact ⟨none,0,rfl,Nat.le_refl _,.inl rfl⟩),fun x hx => by simp at hx,by simp,Nat.zero_le _⟩
  ·have hlm:len ≤ m:=by rw [hmm]; split <;> omega
   simp only [DataW.weights,ht,List.length_map,List.length_range] at hw
   obtain ⟨xs,hxl,hxs⟩:=choose_list (p:=fun i x => ∃ cc:List Value,cc.length = size∧VRs (start W) (c x) cc∧ok x∧∀ (j:Nat) (u:Value),cc[j]? = some u→W.cell? (a.add (i * size + j)) = some u) len (fun i hi => by
    obtain ⟨cs',hcs',htr⟩:=hx i (by omega)
    obtain ⟨x,hK,hok⟩:=hd.out htr (fun k hk => hw k (List.mem_cons_of_mem _ (List.mem_append_left _ (weights_of_all (d:=D i) (List.mem_map.2 ⟨i,List.mem_range.2 hi,rfl⟩) k hk))))
    obtain ⟨_,hcl,hat⟩:=World.cells?_some hcs'
    refine ⟨x,cs',by rw [← VRs_length hK,hcs],hK,hok,fun j u hu => ?_⟩
    have hj:j < P.cellsOf e:=by rw [← hcl]; exact (List.getElem?_eq_some_iff.1 hu).1
    have:=hat j hj
    rw [hc,Go.Deep.add_add] at this
    rw [this,hu])
   have hlen:len ≤ 9223372036854775807:=by
    unfold maxLen at hm
    omega
   refine ⟨xs,VRs_one ?_,fun x hx' => ?_,?_,by omega⟩
   ·unfold VR
    refine ⟨some a,cap,by rw [hxl],by omega,?_⟩
    by_cases hne:xs.flatMap c = []
    ·exact .inl hne
    ·obtain ⟨x0,hx0⟩:∃ x0,xs[0]? = some x0:=by
      cases xs with
      | nil => exact absurd rfl hne
      | cons x0 r => exact ⟨x0,rfl⟩
     have hspot:a.spot = none∧a.block < W.heap.size:=by
      obtain ⟨cc,k1,k2,k3,k4⟩:=hxs 0 x0 hx0
      have hne2:cc ≠ []:=by
       rintro rfl
       have:size = 0:=by simpa using k1.symm
       apply hne
       rw [List.flatMap_eq_nil_iff]
       intro x _
       exact List.eq_nil_of_length_eq_zero (by rw [hcs,this])
      cases cc with
      | nil => exact absurd rfl hne2
      | cons u r =>
       have:=k4 0 u rfl
       rw [Nat.zero_mul,Nat.zero_add] at this
       have ha0:a.add 0 = a:=by simp [Addr.add]
       rw [ha0] at this
       refine ⟨?_,World.block_lt_of_cell? W a this⟩
       unfold World.cell? at this
       split at this
       ·split at this
        ·cases this
        ·rename_i hs; simpa using hs
       ·cases this
     obtain ⟨hs1,hs2⟩:=hspot
     obtain ⟨ab,ao,asp⟩:=a
     simp only at hs1 hs2
     subst hs1
     refine .inr ⟨ab,ao,rfl,VRow_flatMap hcs xs ao fun i x hx => VRow_of fun j v hv => ⟨hs2,?_⟩⟩
     obtain ⟨cc,k1,k2,k3,k4⟩:=hxs i x hx
     obtain ⟨u,hu,hr⟩:=VRs_get k2 hv
     refine ⟨u,?_,hr⟩
     have:=k4 j u hu
     rw [Addr.add_lit] at this
     rw [Nat.add_assoc]
     exact this
   ·obtain ⟨i,hi⟩:=List.mem_iff_getElem?.1 hx'
    obtain ⟨_,_,_,h3,_⟩:=hxs i x hi
    exact h3
   ·have:=hw _ List.mem_cons_self
    rw [hB] at this
    rw [hxl]
    exact Nat.le_trans (Nat.mul_le_mul_right _ (by omega)) this⟩
theorem opensV_param {P:Program} {t:TypeId} {α:Type} {c:α→List V} {ok:α→Prop} (h:OpensV P t c ok) {H:Type} {enc:TypeId × Value→H} {W:World} {base:Nat} {spare:Nat→Bool} {held:Bool} {v:Value} {y:DataW H} {p:List MemPlace}
  (hd:DataW.Trod enc P W base spare held t v y p) {ts:List TypeId} {ds:List (DataW H)} {j:Nat} (hsz:(DataW.weightsEach P ts ds).all (· ≤ reachBytes) = true) (htj:ts[j]? = some t) (hdj:ds[j]? = some y) :
  ∃ x,VRs (start W) (c x) v.cells.toList∧ok x:=by
 obtain ⟨fuel,hf⟩:=hd
 exact h.out hf (fun n hn => by
  have:=List.all_eq_true.1 hsz n (DataW.weights_mem_each htj hdj n hn)
  simpa using this)
theorem VR_cell {s:Sit} {v:V} {x:Value} (hc:x.cells = #[x]) (h:VRs s [v] x.cells.toList):VR s v x:=by
 rw [hc] at h
 unfold VRs at h
 obtain ⟨y,ys,e,h1,_⟩:=h
 simp only [List.cons.injEq] at e
 rw [e.1]
 exact h1
theorem calls_of_fn {P:Program} {conv:FuncId→Conv} {ext:Ext} (hm:P.follows .mixedOrders = true) (he:ExtOk P ext) {f:FuncId} {args:List V} {vals:List Value} {W:World} (hk:Kn (start W)) (hv:VRs (start W) args vals) (h:fn P conv ext f args = some (.sc (.bool true))) :
  Calls P f vals.toArray W (fun e w' => e = .returned (.bool true)∧Below W.heap.size W w'):=by
 unfold fn at h
 split at h
 ·rename_i v σ1 n hev
  obtain ⟨p,hp,e⟩:=map_some' h
  obtain ⟨_,_,hsnd⟩:=ev_sound hm he _ _ _ _ _ _ _ hev
  refine (hsnd (start W) vals (start_inv W hk) (fun _ _ _ => rfl) hv).mono ?_
  rintro e' w' ⟨s',x,rfl,rfl,ho⟩
  refine ⟨?_,ho.nxt.below⟩
  have:=strip_sound ho.inv depth v p.1 p.2 x _ hp ho.vr (covers_covered s' σ1 p.2)
  rw [e] at this
  unfold VR at this
  rw [this.1]
 ·cases h
end Go.TV
namespace Go.TV
variable [Known]
theorem evPure_bind {α β:Type} {P:Program} (m:Sem α) (f:α→Sem β):evPure P (m >>= f) = (evPure P m).bind fun a => evPure P (f a):=by
 show evPure P (m.bind f) = _
 induction m with
 | pure a => rfl
 | program k ih => exact ih P
 | mark m k ih => exact ih
 | _ => rfl
theorem evPure_pure {α:Type} {P:Program} (a:α):evPure P (pure a:Sem α) = some a:=rfl
theorem evPure_program {P:Program}:evPure P program = some P:=rfl
theorem evPure_ite {α:Type} {P:Program} (c:Prop) [Decidable c] (a b:Sem α):evPure P (if c then a else b) = if c then evPure P a else evPure P b:=by split <;> rfl
theorem ep_underlying {P:Program} {t:TypeId} {d:TypeDesc} (h:P.underlying t = some d):evPure P (underlying t) = some d:=by
 unfold underlying
 rw [evPure_bind,evPure_program]
 simp only [Option.bind_some,h]
 rfl
theorem ep_equalIn_int {P:Program} (d:Nat) (t:TypeId) (k k':IntKind) (a b:Int) (h:P.underlying t = some (.int k')):evPure P (Op.equalIn (d + 1) t (.int k a) (.int k b)) = some (a == b):=by
 unfold Op.equalIn
 rw [evPure_bind,ep_underlying h]
 simp only [Option.bind_some,if_true]
 rfl
theorem ep_equalIn_struct {P:Program} (d:Nat) (t:TypeId) (xs ys:Array Value) (ht:P.underlying t = some (.struct (P.fieldsOf t))) (hp:P.stoodInHeld t = false) :
  evPure P (Op.equalIn (d + 1) t (.agg xs) (.agg ys)) = evPure P (Op.eqFields d xs ys (P.fieldsOf t).toList):=by
 unfold Op.equalIn
 rw [evPure_bind,ep_underlying ht]
 simp only [Option.bind_some,evPure_bind,evPure_program,hp,Bool.false_eq_true,if_false,evPure_pure]
 rw [← Array.forIn_toList]
 generalize (P.fieldsOf t).toList = fs
 clear ht
 induction fs with
 | nil => rfl
 | cons f fs ih =>
  simp only [List.forIn_cons,Op.eqFields,evPure_bind,evPure_ite]
  split
  ·cases evPure P (part f.type xs f.offset) with
   | none => rfl
   | some a =>
    cases evPure P (part f.type ys f.offset) with
    | none => rfl
    | some b =>
     simp only [Option.bind_some]
     cases evPure P (Op.equalIn d f.type a b) with
     | none => rfl
     | some r =>
      cases r
      ·rfl
      ·exact ih
  ·exact ih
theorem ep_fields_cons {P:Program} {d:Nat} {xs ys:Array Value} {f:Field} {fs:List Field} {a b:Value} {r:Bool} (hn:f.name ≠ "_") (ha:evPure P (part f.type xs f.offset) = some a) (hb:evPure P (part f.type ys f.offset) = some b) (hr:evPure P (Op.equalIn d f.type a b) = some r) :
  evPure P (Op.eqFields d xs ys (f :: fs)) = if r = true then evPure P (Op.eqFields d xs ys fs) else some false:=by
 conv => lhs; rw [Op.eqFields]
 rw [if_pos hn,evPure_bind,ha]
 simp only [Option.bind_some,evPure_bind,hb,hr,evPure_ite]
 cases r <;> rfl
theorem ev_eql_agg {P:Program} {t:TypeId} {x y:Operand} {cs ds:List V} {us vs:List Value} {r:Bool} {fs:Array Field} (hm:P.eqGuardType P.depth t = false) (hf:P.underlying t = some (.struct fs)) (hp:P.stoodInHeld t = false)
  (hu:toCells cs = some us) (hv:toCells ds = some vs) (h:evPure P (Op.eqFields 9999 us.toArray vs.toArray fs.toList) = some r):evBin P .eql t x y (.agg cs) (.agg ds) = some (.sc (.bool r)):=by
 have hfo:P.fieldsOf t = fs:=by unfold Program.fieldsOf; rw [hf]
 have hg:evPure P (eqGuard .eql t x y (.agg us.toArray) (.agg vs.toArray)) = some ():=by
  unfold eqGuard
  rw [if_neg (by simp)]
  simp only [evPure_bind,evPure_program,Option.bind_some,hm,Bool.not_false,if_true]
  rfl
 have he:evPure P (binOp .eql t (.agg us.toArray) (.agg vs.toArray)) = some (Value.bool r):=by
  have h1:binOp .eql t (.agg us.toArray) (.agg vs.toArray) = (Op.equal t (.agg us.toArray) (.agg vs.toArray) >>= fun b => pure (Value.bool b)):=by simp only [binOp]
  have h2:evPure P (Op.equal t (.agg us.toArray) (.agg vs.toArray)) = some r:=(ep_equalIn_struct 9999 t _ _ (by rw [hfo]; exact hf) hp).trans (by rw [hfo]; exact h)
  rw [h1,evPure_bind,h2]; rfl
 simp only [evBin,toVal,hu,hv,Option.map_some,evPure_bind,hg,he,Option.bind_some]
 rfl
end Go.TV
namespace Go.TV
variable [Known]
open Go.RowKit
section
variable {P:Program} {conv:FuncId→Conv} {call:Call}
theorem run_nil_test {t e:TypeId} {x y:Operand} {p:Option Addr} {len cap:Nat} (h:P.underlying t = some (.slice e)) (w:World) :
  ((do eqGuard .eql t x y (.slice p len cap) (.slice none 0 0); binOp .eql t (.slice p len cap) (.slice none 0 0)):Sem Value).run P w = .ok (.bool p.isNone) w:=by
 refine run_of_evPure _ ?_ w
 rw [evPure_bind,eqGuard_at_slice]
 simp only [evPure_pure,Option.bind_some]
 have h1:binOp .eql t (.slice p len cap) (.slice none 0 0) = (Op.equal t (.slice p len cap) (.slice none 0 0) >>= fun b => pure (Value.bool b)):=by simp only [binOp]
 rw [h1,evPure_bind]
 have h2:evPure P (Op.equal t (.slice p len cap) (.slice none 0 0)) = some p.isNone:=by
  show evPure P (Op.equalIn (9999 + 1) t _ _) = _
  unfold Op.equalIn
  rw [evPure_bind,ep_underlying h]
  simp only [Option.bind_some]
  cases p <;> rfl
 rw [h2]; rfl
theorem fork_sound (hc:CallOk P call) (hm:P.follows .mixedOrders = true) {f:FuncId} {fn:Func} {A B C D:Code} {id t u:Nat} {o1:Oper} {ty yt oty e:TypeId} {ps:String} {af:Array Edge} (hf:P.funcs[f]? = some fn)
  (hb:fn.body = some (.seq A (.seq (.seq (.region id #[o1,⟨some t,.binOp .eql ty (.tmp u) (.const (.slice none 0 0)) yt,oty,ps,af,none⟩] false) (.cond (.tmp t) B C)) D)))
  (hty:P.underlying ty = some (.slice e)) {n:Nat} {args:List V}
  (hok:fnOk fn (.seq A (.seq (.seq (.region id #[o1,⟨some t,.binOp .eql ty (.tmp u) (.const (.slice none 0 0)) yt,oty,ps,af,none⟩] false) (.cond (.tmp t) B C)) D)) args.length = true)
  {σ σ':Store} {nx nx':Nat} {vs:List V} {st1:St} (hA:evCode P conv call n A ⟨argsT args,σ,nx⟩ = some (.norm,st1)) {T2:Nat→V}
  (hg:o1.guard = none) {v1:V} (h1:evOp P conv call o1 st1.T st1.σ st1.nx = some (v1,st1.σ,st1.nx)) (hT2:T2 = putT st1.T o1.dst v1) {row:List V} {len:Nat} (hu:T2 u = .ts row len)
  (hboth:∀ b:Bool,(b = true→row = [])→∃ ex st3,evCode P conv call n (.seq (.cond (.tmp t) B C) D) ⟨upd T2 t (.sc (.bool b)),st1.σ,st1.nx⟩ = some (ex,st3)∧(ex = .norm∨ex = .ret)∧evResults P st3.T st3.σ fn.results.toList = some vs∧st3.σ = σ'∧st3.nx = nx') :
  SoundAt P f args σ nx (oneOf vs) σ' nx':=by
 unfold fnOk at hok
 simp only [Bool.and_eq_true,decide_eq_true_eq,Bool.not_eq_true'] at hok
 obtain ⟨⟨hname,hsz⟩,hdst⟩:=hok
 simp only [dstOk,Bool.and_eq_true] at hdst
 obtain ⟨hdA,⟨hdR,hdB,hdC⟩,hdD⟩:=hdst
 have hmA:=evCode_mono hc n A _ _ _ hA
 obtain ⟨ex0,st30,hx0,_,_,_,hn0⟩:=hboth false (fun h => by cases h)
 have hm0:st1.nx ≤ nx':=by have:=evCode_mono hc n _ _ _ _ hx0; simp only at this; omega
 have hdd:∀ o ∈ [o1,(⟨some t,.binOp .eql ty (.tmp u) (.const (.slice none 0 0)) yt,oty,ps,af,none⟩:Oper)],∀ d,o.dst = some d→d < fn.ntmps:=fun o ho d hod => by
  have:=Array.all_eq_true'.1 hdR o (by simpa using ho)
  rw [hod] at this
  simpa using this
 refine ⟨by simp only at hmA; omega,⟨fn,hf,by rw [hb]; rfl,hname⟩,fun s vals hi hfr hargs => ?_⟩
 have hl:=VRs_length hargs
 refine calls_of_wp hf hb ?_
 refine wp_seq (code_sound hc hm (nt:=fn.ntmps) (nxE:=nx') (s0:=s) (σ0:=σ) (nx0:=nx) n A ⟨argsT args,σ,nx⟩ st1 .norm _ hA hdA (by omega) (fun s1 a1 hs1 => ?_) s _
  ⟨hi,args_tr hargs _,by simp; omega,rfl,.refl s σ,.refl s nx nx,hfr,Nat.le_refl _⟩)
 refine wp_seq (wp_seq (wp_region ?_))
 show wpOps P _ _ [0,1] a1 s1.w
 have hw:∀ (o:Oper) (tm:Array Value),o.guard = none→Region.wanted o (yielded #[o1,(⟨some t,.binOp .eql ty (.tmp u) (.const (.slice none 0 0)) yt,oty,ps,af,none⟩:Oper)] tm) = true:=fun o tm h => by unfold Region.wanted; rw [h]
 rw [wpOps_cons]
 unfold wpOp
 rw [show (#[o1,(⟨some t,.binOp .eql ty (.tmp u) (.const (.slice none 0 0)) yt,oty,ps,af,none⟩:Oper)])[0]? = some o1 from rfl]
 simp only [hw o1 _ hg,if_true]
 refine .inl (op_sound hc h1 hs1.inv hs1.tr (fun i h1 h2 => absurd h2 (by omega)) fun s2 x2 ho2 => ?_)
 have hs2:=hs1.step ho2 (Nat.le_refl _) (hdd o1 (by simp))
 rw [← hT2] at hs2
 generalize a1.put o1.dst x2 = a2 at hs2 ⊢
 rw [wpOps_cons]
 unfold wpOp
 rw [show (#[o1,(⟨some t,.binOp .eql ty (.tmp u) (.const (.slice none 0 0)) yt,oty,ps,af,none⟩:Oper)])[1]? = some ⟨some t,.binOp .eql ty (.tmp u) (.const (.slice none 0 0)) yt,oty,ps,af,none⟩ from rfl]
 simp only [hw ⟨some t,.binOp .eql ty (.tmp u) (.const (.slice none 0 0)) yt,oty,ps,af,none⟩ _ rfl,if_true]
 have hx:=hs2.tr u
 rw [hu] at hx
 unfold VR at hx
 obtain ⟨p,cap,hxe,_,hrow⟩:=hx
 refine .inl (wp_value (w':=s2.w) (x:=.bool p.isNone) ?_ ?_)
 ·have he:execOp a2.eval ⟨some t,.binOp .eql ty (.tmp u) (.const (.slice none 0 0)) yt,oty,ps,af,none⟩ = (do pure (.value (← (do eqGuard .eql ty (.tmp u) (.const (.slice none 0 0)) (a2.tmps.getD u undef) (.slice none 0 0); binOp .eql ty (a2.tmps.getD u undef) (.slice none 0 0)))):Sem Next):=rfl
  rw [he,hxe]
  simp only [Sem.run_bind,Sem.run_pure]
  have:=run_nil_test (P:=P) (x:=.tmp u) (y:=.const (.slice none 0 0)) (p:=p) (len:=len) (cap:=cap) hty s2.w
  simp only [Sem.run_bind] at this
  rw [this]; rfl
 ·obtain ⟨ex,st3,hx3,hex,hres,hσ3,hn3⟩:=hboth p.isNone (fun hp => by
   rcases hrow with h | ⟨k,o,h,_⟩
   ·exact h
   ·rw [h] at hp; cases hp)
  have hs3:Sim fn.ntmps nx' s σ nx (upd T2 t (.sc (.bool p.isNone))) st1.σ st1.nx s2 (a2.put (some t) (.bool p.isNone)) :=
   hs2.step (Out.same hs2.inv (by unfold VR; exact ⟨rfl,rfl⟩)) (Nat.le_refl _) (hdd ⟨some t,.binOp .eql ty (.tmp u) (.const (.slice none 0 0)) yt,oty,ps,af,none⟩ (by simp))
  simp only [wpOps]
  show Code.wp P (Code.cond (.tmp t) B C) _ _ _
  have fin:∀ s3 a3,Sim fn.ntmps nx' s σ nx st3.T st3.σ st3.nx s3 a3→bodyPost P fn (fun e w' => ∃ s' x,s'.w = w'∧e = .returned x∧Out s σ nx s' (oneOf vs) x σ' nx') (toExit ex) a3 s3.w:=fun s3 a3 hs3 => by
   obtain ⟨xs,g1,g2⟩:=results_sound hs3.inv hs3.tr fn.results.toList vs hres
   have hrun:(results fn a3.tmps).run P s3.w = .ok (if h:xs.toArray.size = 1 then xs.toArray[0] else .tuple xs.toArray) s3.w:=by
    rw [results_eq]
    have e1:fn.results = fn.results.toList.toArray:=by simp
    rw [e1,List.mapM_toArray]
    simp only [Sem.run_bind,Sem.run_map,g1,Result.andThen_ok,Sem.run_pure]
   have hpost:bodyPost P fn (fun e w' => ∃ s' x,s'.w = w'∧e = .returned x∧Out s σ nx s' (oneOf vs) x σ' nx') .normal a3 s3.w:=by
    subst hσ3 hn3
    exact ⟨hs3.defers,_,hrun,s3,_,rfl,rfl,⟨VR_oneOf g2,hs3.inv,hs3.nxt,hs3.dom⟩⟩
   rcases hex with rfl | rfl
   ·exact hpost
   ·exact hpost
  simp only [evCode] at hx3
  have hdK:dstOk fn.ntmps (Code.cond (.tmp t) B C) = true:=by simp only [dstOk,Bool.and_eq_true]; exact ⟨hdB,hdC⟩
  have hcond:∀ st e st',(match val (St.T st) (.tmp t) with | .sc (.bool true) => evCode P conv call n B st | .sc (.bool false) => evCode P conv call n C st | _ => none) = some (e,st')→evCode P conv call n (.cond (.tmp t) B C) st = some (e,st'):=fun _ _ _ h => h
  split at hx3
  ·rename_i s1' h1'
   have hmm:=evCode_mono hc n D _ _ _ hx3
   refine code_sound hc hm (nxE:=nx') n (.cond (.tmp t) B C) ⟨upd T2 t (.sc (.bool p.isNone)),st1.σ,st1.nx⟩ s1' .norm _ (hcond _ _ _ h1') hdK (Nat.le_trans hmm (Nat.le_of_eq hn3)) (fun s3 a3 hs4 => ?_) s2 _ hs3
   exact code_sound hc hm (nxE:=nx') n D s1' st3 ex _ hx3 hdD (Nat.le_of_eq hn3) fin s3 a3 hs4
  ·rename_i r hne
   refine code_sound hc hm (nxE:=nx') n (.cond (.tmp t) B C) ⟨upd T2 t (.sc (.bool p.isNone)),st1.σ,st1.nx⟩ st3 ex _ (hcond _ _ _ hx3) hdK (Nat.le_of_eq hn3) (fun s3 a3 hs4 => ?_) s2 _ hs3
   cases ex with
   | norm => exact absurd hx3 (hne st3)
   | exit id => rcases hex with h | h <;> cases h
   | ret => exact fin s3 a3 hs4
end
instance (priority:=low) knownNone:Known:=⟨[]⟩
end Go.TV
namespace Go.TV
structure Joint where
 name:ByteArray
 x:Int
 y:Int
 fixed:Bool
structure Member where
 a:Int
 b:Int
 kind:Int
structure Structure where
 joints:List Joint
 members:List Member
structure Stance where
 name:ByteArray
 st:Structure
 load:List Int
 limits:List Int
structure Move where
 fr:Int
 to:Int
structure Yard where
 stances:List Stance
 moves:List Move
 strict:Bool
abbrev cI (n:Int):List V:=[I n]
abbrev cJoint (j:Joint):List V:=[Sg j.name,I j.x,I j.y,Bo j.fixed]
abbrev cMember (m:Member):List V:=[I m.a,I m.b,I m.kind]
abbrev LL {α:Type} (c:α→List V) (xs:List α):V:=.ts (xs.flatMap c) xs.length
abbrev LI (xs:List Int):V:=.ts (xs.flatMap cI) xs.length
abbrev cStructure (s:Structure):List V:=[LL cJoint s.joints,LL cMember s.members]
abbrev cStance (t:Stance):List V:=[Sg t.name,LL cJoint t.st.joints,LL cMember t.st.members,LI t.load,LI t.limits]
abbrev cMove (m:Move):List V:=[I m.fr,I m.to]
abbrev cYard (y:Yard):List V:=[LL cStance y.stances,LL cMove y.moves,Bo y.strict]
def okI (n:Int):Prop:=(Lit.int .i64 n).wf = true
def okS (s:ByteArray):Prop:=s.size ≤ 140737488351232
def okL {α:Type} (B:Nat) (ok:α→Prop) (xs:List α):Prop:=(∀ x ∈ xs,ok x)∧xs.length * B ≤ 140737488351232∧xs.length ≤ maxLen
def okJoint (j:Joint):Prop:=okS j.name∧okI j.x∧okI j.y∧True
def okMember (m:Member):Prop:=okI m.a∧okI m.b∧okI m.kind
def okStructure (s:Structure):Prop:=okL 40 okJoint s.joints∧okL 24 okMember s.members
def okStance (t:Stance):Prop:=okS t.name∧okStructure t.st∧okL 8 okI t.load∧okL 8 okI t.limits
def okMove (m:Move):Prop:=okI m.fr∧okI m.to
def okYard (y:Yard):Prop:=okL 112 okStance y.stances∧okL 16 okMove y.moves∧True
theorem okI_iff {n:Int}:okI n ↔ -9223372036854775808 ≤ n∧n ≤ 9223372036854775807:=by
 unfold okI
 simp only [Lit.wf,Bool.and_eq_true,decide_eq_true_eq]
 have h1:IntKind.i64.min = -9223372036854775808:=by decide
 have h2:IntKind.i64.max = 9223372036854775807:=by decide
 rw [h1,h2]
end Go.TV
namespace Go.TV
theorem fn_eq {P:Program} {conv:FuncId→Conv} {ext:Ext} (f:FuncId) (ts:List V):fn P conv ext f ts = (ev P conv ext f ts noStore 0).bind fun q => (strip q.2.1 depth q.1).map (·.1):=by
 unfold fn
 cases ev P conv ext f ts noStore 0 with
 | none => rfl
 | some q => rfl
section
variable (v:Value) (row:List V) (a b c:Nat) (f:FuncId) (vs:List V)
theorem isCell_sc:isCell (.sc v) = true:=id rfl
theorem isCell_nil:isCell .nil = true:=id rfl
theorem isCell_tp:isCell (.tp row a) = true:=id rfl
theorem isCell_ts:isCell (.ts row a) = true:=id rfl
theorem isCell_rp:isCell (.rp a b) = true:=id rfl
theorem isCell_rs:isCell (.rs a b c) = true:=id rfl
theorem isCell_clo:isCell (.clo f vs) = true:=id rfl
theorem cells_agg:cellsOfV (.agg vs) = some vs:=id rfl
theorem cells_sc:cellsOfV (.sc v) = some [.sc v]:=id rfl
theorem cells_nil:cellsOfV .nil = some [.nil]:=id rfl
theorem cells_tp:cellsOfV (.tp row a) = some [.tp row a]:=id rfl
theorem cells_ts:cellsOfV (.ts row a) = some [.ts row a]:=id rfl
theorem cells_rp:cellsOfV (.rp a b) = some [.rp a b]:=id rfl
theorem cells_rs:cellsOfV (.rs a b c) = some [.rs a b c]:=id rfl
theorem cells_clo:cellsOfV (.clo f vs) = some [.clo f vs]:=id rfl
theorem fill_nil (pl:Nat→Option (Nat × Nat)) (cells:List V):evFill pl cells [] = some cells:=rfl
theorem fill_cons (pl:Nat→Option (Nat × Nat)) (cells:List V) (i:Nat) (v:V) (rest:List (Nat × V)):evFill pl cells ((i,v) :: rest) = (pl i).bind fun p => (cellsOfV v).bind fun vs => if vs.length = p.2∧p.1 + vs.length ≤ cells.length then evFill pl (patch cells p.1 vs) rest else none:=by
 show (match pl i,cellsOfV v with | some (off,size),some vs => _ | _,_ => none) = _
 cases pl i <;> cases cellsOfV v <;> rfl
theorem patch_one (cells:List V) (off:Nat) (v:V):patch cells off [v] = cells.set off v:=rfl
theorem patch_nil (u:V) (cells:List V) (off:Nat):patch (u :: cells) off [] = (u :: cells).take off ++ [] ++ (u :: cells).drop (off + 0):=rfl
theorem patch_two (u:V) (cells:List V) (off:Nat) (v w:V) (vs:List V):patch (u :: cells) off (v :: w :: vs) = (u :: cells).take off ++ (v :: w :: vs) ++ (u :: cells).drop (off + (v :: w :: vs).length):=rfl
end
attribute [go_sem] isCell_sc isCell_nil isCell_tp isCell_ts isCell_rp isCell_rs isCell_clo cells_agg cells_sc cells_nil cells_tp cells_ts cells_rp cells_rs cells_clo fill_nil fill_cons patch_one patch_nil patch_two
attribute [go_sem] depth List.append_nil List.flatMap_cons List.flatMap_nil evBox List.set_cons_zero List.set_cons_succ List.length_cons List.length_nil List.length_set Nat.reduceAdd Nat.reduceLT Nat.reduceLeDiff List.all_cons List.all_nil Nat.zero_add Nat.add_zero List.drop_zero List.drop_succ_cons List.take_succ_cons List.take_zero Nat.reduceMul Nat.zero_mul Nat.one_mul Nat.mul_one ofCell
end Go.TV
namespace Go.TV
section
variable {α:Type} {c:α→List V} {s:Nat}
theorem slots_len (hc:∀ x,(c x).length = s) (xs:List α):(xs.flatMap c).length = xs.length * s:=by
 induction xs with
 | nil => simp
 | cons x xs ih => rw [List.flatMap_cons,List.length_append,ih,hc,List.length_cons,Nat.succ_mul,Nat.add_comm]
theorem slot_drop (hc:∀ x,(c x).length = s) (xs:List α) (k:Nat):(xs.flatMap c).drop (k * s) = (xs.drop k).flatMap c:=by
 induction xs generalizing k with
 | nil => simp
 | cons x xs ih =>
  cases k with
  | zero => simp
  | succ k =>
   rw [List.flatMap_cons,Nat.succ_mul,Nat.add_comm,← List.drop_drop]
   rw [show s = (c x).length from (hc x).symm,List.drop_left,hc x,ih,List.drop_succ_cons]
theorem slot (hc:∀ x,(c x).length = s) (xs:List α) (k:Nat) (h:k < xs.length):((xs.flatMap c).drop (k * s)).take s = c xs[k]:=by
 rw [slot_drop hc,List.drop_eq_getElem_cons h,List.flatMap_cons,show s = (c xs[k]).length from (hc _).symm,List.take_left]
theorem slot1 (c:α→V) (xs:List α) (k:Nat) (h:k < xs.length):(xs.flatMap fun x => [c x])[k]? = some (c xs[k]):=by
 induction xs generalizing k with
 | nil => cases h
 | cons x xs ih =>
  cases k with
  | zero => rfl
  | succ k => exact ih k (by simpa using h)
theorem slot_ne (hc:∀ x,(c x).length = s) (hs:0 < s) (xs:List α) (k:Nat) (h:k < xs.length):xs.flatMap c ≠ []:=by
 intro e
 have:=slots_len hc xs
 rw [e] at this
 have h2:0 < xs.length * s:=Nat.mul_pos (by omega) hs
 simp at this
 omega
theorem rep_len (n:Nat) (z:List V):(rep n z).length = n * z.length:=by simp [rep]
theorem rep_succ (n:Nat) (z:List V):rep (n + 1) z = z ++ rep n z:=by simp [rep,List.replicate_succ]
theorem stripL_app (f:V→Option (V × List Nat)) (a b:List V) (ha:stripL f a = some (a,[])) (hb:stripL f b = some (b,[])):stripL f (a ++ b) = some (a ++ b,[]):=by
 induction a with
 | nil => exact hb
 | cons v a ih =>
  rw [stripL_cons] at ha
  rw [List.cons_append,stripL_cons]
  cases hf:f v with
  | none => rw [hf] at ha; cases ha
  | some p =>
   rw [hf] at ha
   cases hg:stripL f a with
   | none => rw [hg] at ha; cases ha
   | some q =>
    rw [hg] at ha
    simp only [Option.bind_some,Option.map_some,Option.some.injEq,Prod.mk.injEq,List.cons.injEq,List.append_eq_nil_iff] at ha
    obtain ⟨⟨e1,e2⟩,e3,e4⟩:=ha
    obtain ⟨p1,p2⟩:=p
    obtain ⟨q1,q2⟩:=q
    simp only at e1 e2 e3 e4
    subst e1 e2 e3 e4
    rw [ih hg]
    simp
theorem stripL_slots {f:V→Option (V × List Nat)} (h:∀ x,stripL f (c x) = some (c x,[])) (xs:List α):stripL f (xs.flatMap c) = some (xs.flatMap c,[]):=by
 induction xs with
 | nil => rfl
 | cons x xs ih => rw [List.flatMap_cons]; exact stripL_app f _ _ (h x) ih
end
section
variable {P:Program} {t:TypeId} {x y:Operand}
theorem ev_eqls {a b:ByteArray}:evBin P .eql t x y (.sc (.string a)) (.sc (.string b)) = some (.sc (.bool (a.toList == b.toList))):=by
 simp only [evBin,toVal,eqGuard_at_string,binOp_string_eql]; rfl
theorem ev_neqs {a b:ByteArray}:evBin P .neq t x y (.sc (.string a)) (.sc (.string b)) = some (.sc (.bool !(a.toList == b.toList))):=by
 simp only [evBin,toVal,eqGuard_at_string,binOp_string_neq]; rfl
theorem evPure_equal {a b:Bool} (h:P.underlying t = some .bool) (f:Bool→Value):evPure P ((Op.equal t (.bool a) (.bool b)).bind fun r => pure (f r)) = some (f (a == b)):=by
 show evPure P ((Op.equalIn (9999 + 1) t _ _).bind fun r => pure (f r)) = _
 unfold Op.equalIn underlying
 show evPure P (.program fun p => _) = _
 simp only [evPure]
 have pb:∀ {β γ:Type} (a:β) (f:β→Sem γ),(Sem.pure a).bind f = f a:=fun _ _ => rfl
 have pb':∀ {β γ:Type} (a:β) (f:β→Sem γ),(pure a:Sem β).bind f = f a:=fun _ _ => rfl
 simp only [h,pb,pb']
 rfl
theorem ev_eqlb {a b:Bool} (h:P.underlying t = some .bool):evBin P .eql t x y (.sc (.bool a)) (.sc (.bool b)) = some (.sc (.bool (a == b))):=by
 simp only [evBin,toVal,eqGuard_at_bool,pure_bind,binOp]; first | (erw [evPure_equal h (fun r => .bool r)]; rfl) | (erw [evPure_equal h (fun r => .bool !r)]; rfl)
theorem ev_neqb {a b:Bool} (h:P.underlying t = some .bool):evBin P .neq t x y (.sc (.bool a)) (.sc (.bool b)) = some (.sc (.bool !(a == b))):=by
 simp only [evBin,toVal,eqGuard_at_bool,pure_bind,binOp]; first | (erw [evPure_equal h (fun r => .bool r)]; rfl) | (erw [evPure_equal h (fun r => .bool !r)]; rfl)
end
attribute [go_sem] ev_eqls ev_neqs ev_eqlb ev_neqb bne_self_eq_false BEq.rfl
theorem count_rule {body:St→Option (Ex × St)} {st0:St} {x:Option (Ex × St)} (hL:evLoopI body st0 = x) (N:Nat) (J:Nat→St→Prop) (post:Ex × St→Prop)
  (step:∀ k st,k < N→J k st→(∃ st',body st = some (.norm,st')∧J (k + 1) st')∨(∃ r,body st = some r∧(∀ s,r ≠ (.norm,s))∧post r))
  (last:∀ st,J N st→∃ r,body st = some r∧(∀ s,r ≠ (.norm,s))∧post r) (h0:J 0 st0):∃ r,x = some r∧post r:=by
 refine loop_rule hL (fun n st => n ≤ N∧J (N - n) st) post ?_ N ⟨Nat.le_refl _,by rwa [Nat.sub_self]⟩
 rintro n st ⟨hn,hJ⟩
 cases n with
 | zero => exact .inr (last st hJ)
 | succ n =>
  rcases step _ st (by omega) hJ with ⟨st',h1,h2⟩ | h
  ·exact .inl ⟨st',h1,n,by omega,by omega,by rwa [show N - n = N - (n + 1) + 1 by omega]⟩
  ·exact .inr h
theorem upd_upd {α:Type} (σ:Nat→α) (b:Nat) (x y:α):upd (upd σ b x) b y = upd σ b y:=by
 funext i
 unfold upd
 split <;> rfl
theorem beq_ft:(false == true) = false:=id rfl
theorem beq_tf:(true == false) = false:=id rfl
attribute [go_sem] beq_ft beq_tf Option.map_none upd_upd List.isEmpty_nil Int.cast_ofNat_Int Int.toNat_natCast
theorem evSlice_nil {P:Program} {t:TypeId} {lo hi:Option V} {σ:Store} (h:(tyI P t).slice = true) (he:(tyI P t).eok = true):evSlice P t .nil lo hi none σ = (bnd lo 0).bind fun l => (bnd hi 0).bind fun h => if l ≤ h∧h ≤ 0 then some .nil else none:=by
 obtain ⟨e,ei,z,h1,h2,h3,h4,h5,h6,h7⟩:=tyI_slice h he
 unfold evSlice
 simp only [h1,h2]
 cases bnd lo 0 <;> cases bnd hi 0 <;> rfl
theorem row_nil (σ:Store) (s:Nat):rowOf σ s .nil = some ([],0):=rfl
theorem row_ts (σ:Store) (s:Nat) (row:List V) (len:Nat):rowOf σ s (.ts row len) = if row.length = len * s then some (row,len) else none:=rfl
theorem row_rs (σ:Store) (s b off len:Nat):rowOf σ s (.rs b off len) = (σ b).bind fun B => if off + len * s ≤ B.cells.length then some ((B.cells.drop off).take (len * s),len) else none:=by
 show (match σ b with | some B => _ | none => none) = _
 cases σ b <;> rfl
theorem app_nil (σ:Store) (nx size bytes:Nat) (row:List V) (m:Nat):appendTo σ nx size bytes .nil row m = if m = 0 then some (.nil,σ,nx) else if m ≤ maxLen∧m * bytes ≤ 140737488355328 then some (.rs nx 0 m,evBox σ nx row size,nx + 1) else none:=rfl
theorem app_full {σ:Store} {nx bytes b len m:Nat} {B:Blk} {row:List V} (hb:σ b = some B) (hl:B.cells.length = len) (hs:B.st = 1) (hm:m ≠ 0) (h1:len + m ≤ maxLen) (h2:(len + m) * bytes ≤ 140737488355328) (hr:row.all isCell = true) :
  appendTo σ nx 1 bytes (.rs b 0 len) row m = some (.rs nx 0 (len + m),upd (upd σ b none) nx (some ⟨B.cells ++ row,1,B.wr⟩),nx + 1):=by
 unfold appendTo
 simp only [hb,hm,if_false,hl,hs,h1,h2,hr]
 rw [if_neg (by omega),if_pos (by simp)]
 simp
theorem billion:¬(1000000000:Int) = 0:=by decide
attribute [go_sem] billion
theorem op_buildSlice0 {P:Program} {conv:FuncId→Conv} {call:Call} (d:Option Tmp) (ty:TypeId) (ps:String) (af:Array Edge) (gd:Option (Nat × Bool)) (T:Nat→V) (σ:Store) (nx:Nat) (t:TypeId) (h:(tyI P t).slice = true) (he:(tyI P t).eok = true):evOp P conv call ⟨d,.buildSlice t 0 #[],ty,ps,af,gd⟩ T σ nx = some (.nil,σ,nx):=by
 rw [op_buildSlice d ty ps af gd T σ nx t 0 #[] (by rfl)]
 have:=evBuildSlice_eq (P:=P) (t:=t) (len:=0) (parts:=([]:List (Nat × V))) (σ:=σ) (nx:=nx) h he
 simpa using this
theorem op_buildSlice1 {P:Program} {conv:FuncId→Conv} {call:Call} (d:Option Tmp) (ty:TypeId) (ps:String) (af:Array Edge) (gd:Option (Nat × Bool)) (T:Nat→V) (σ:Store) (nx:Nat) (t:TypeId) (x:Operand) (h:(tyI P t).slice = true) (he:(tyI P t).eok = true) (hs:(tyI P t).esz = 1) (hz:(tyI P t).ezero.length = 1) (hc:isCell (val T x) = true) :
  evOp P conv call ⟨d,.buildSlice t 1 #[(0,x)],ty,ps,af,gd⟩ T σ nx = some (.rs nx 0 1,upd σ nx (some ⟨[val T x],1,true⟩),nx + 1):=by
 rw [op_buildSlice d ty ps af gd T σ nx t 1 _ (by rfl),evBuildSlice_eq h he,if_neg (by decide),hs,if_pos (by decide)]
 have hv:cellsOfV (val T x) = some [val T x]:=by generalize val T x = v at *; cases v <;> simp_all [cellsOfV,isCell]
 have hr:(rep 1 (tyI P t).ezero).length = 1:=by rw [rep_len,hz]
 have hset:(rep 1 (tyI P t).ezero).set 0 (val T x) = [val T x]:=by
  generalize rep 1 (tyI P t).ezero = l at *
  match l,hr with
  | [a],_ => rfl
 show (match evFill (fun j => some (j * 1,1)) (rep 1 (tyI P t).ezero) [(0,val T x)] with | some cells => some (V.rs nx 0 1,evBox σ nx cells 1,nx + 1) | none => none) = _
 rw [fill_cons]
 simp only [Option.bind_some,hv,List.length_singleton,hr,Nat.zero_mul,Nat.zero_add,Nat.le_refl,and_self,if_true,patch_one,hset,fill_nil]
 rfl
attribute [go_sem] op_buildSlice0 op_buildSlice1 evSlice_nil row_nil row_ts row_rs app_nil Nat.sub_zero List.isEmpty_cons
def Grow (T:Nat→V) (σ:Store) (nx t:Nat) (acc:List Int):Prop:=(T t = .nil∧acc = [])∨∃ b,T t = .rs b 0 acc.length∧acc ≠ []∧σ b = some ⟨acc.flatMap cI,1,true⟩∧b < nx
theorem one_le_maxLen:1 ≤ maxLen:=by decide
attribute [go_sem] one_le_maxLen
theorem cI_len (xs:List Int):(xs.flatMap cI).length = xs.length:=by rw [slots_len (c:=cI) (s:=1) (fun _ => rfl),Nat.mul_one]
theorem grow_append {T:Nat→V} {σ:Store} {nx t:Nat} {acc:List Int} (hg:Grow T σ nx t acc) (x:Int) (hl:acc.length < 17592186044415) :
  ∃ σ',appendTo (upd σ nx (some ⟨[I x],1,true⟩)) (nx + 1) 1 8 (T t) [I x] 1 = some (.rs (nx + 1) 0 (acc.length + 1),σ',nx + 1 + 1)∧σ' (nx + 1) = some ⟨(acc ++ [x]).flatMap cI,1,true⟩:=by
 have hm:acc.length + 1 ≤ maxLen:=by unfold maxLen; omega
 rcases hg with ⟨h1,rfl⟩ | ⟨b,h1,hne,hb,hbn⟩
 ·refine ⟨_,by rw [h1,app_nil,if_neg (by decide),if_pos (by decide)]; rfl,?_⟩
  simp [evBox,upd]
 ·refine ⟨_,by rw [h1,app_full (B:=⟨acc.flatMap cI,1,true⟩) (by rw [upd_ne _ _ (by omega)]; exact hb) (cI_len acc) rfl (by decide) hm (by omega) rfl],?_⟩
  simp [upd]
theorem grow_new {T:Nat→V} {σ':Store} {nx t:Nat} {acc:List Int} (h:σ' (nx + 1) = some ⟨acc.flatMap cI,1,true⟩) (ht:T t = .rs (nx + 1) 0 acc.length) (hne:acc ≠ []):Grow T σ' (nx + 1 + 1) t acc:=.inr ⟨nx + 1,ht,hne,h,by omega⟩
theorem grow_eq {T T':Nat→V} {σ:Store} {nx t t':Nat} {acc:List Int} (h:T' t' = T t) (hg:Grow T σ nx t acc):Grow T' σ nx t' acc:=by
 unfold Grow at *
 rw [h]; exact hg
theorem cI_strip (f:V→Option (V × List Nat)) (h:∀ n,f (I n) = some (I n,[])) (xs:List Int):stripL f (xs.flatMap cI) = some (xs.flatMap cI,[]) :=
 stripL_slots (fun x => by rw [stripL_cons,h,stripL_nil]; rfl) xs
theorem grow_strip {T:Nat→V} {σ:Store} {nx t:Nat} {acc:List Int} (hg:Grow T σ nx t acc) (d:Nat):∃ ids,strip σ (d + 1) (T t) = some (LI acc,ids):=by
 rcases hg with ⟨h1,rfl⟩ | ⟨b,h1,hne,hb,hbn⟩
 ·exact ⟨[],by rw [h1,strip_nil]; rfl⟩
 ·refine ⟨[b],?_⟩
  ·rw [h1,strip_rs,hb]
   simp only [Option.bind_some,cI_len,Nat.mul_one,Nat.zero_add,Nat.le_refl,if_true,List.drop_zero]
   rw [List.take_of_length_le (by rw [cI_len]; exact Nat.le_refl _),cI_strip _ (fun n => strip_sc _ _ _)]
   rfl
theorem cI_takeall (xs:List Int):(xs.flatMap cI).take xs.length = xs.flatMap cI:=List.take_of_length_le (by rw [cI_len]; exact Nat.le_refl _)
theorem cI_strip' (σ:Store) (d:Nat) (xs:List Int):stripL (strip σ d) (xs.flatMap cI) = some (xs.flatMap cI,[]):=cI_strip _ (fun n => strip_sc _ _ _) xs
theorem cI_cells (xs:List Int):(xs.flatMap cI).all isCell = true:=by
 induction xs with
 | nil => rfl
 | cons x xs ih => rw [List.flatMap_cons]; simp [isCell]
attribute [go_sem] Int.le_refl cI_len cI_takeall cI_strip' cI_cells Nat.le_refl
theorem op_buildSlice3 {P:Program} {conv:FuncId→Conv} {call:Call} (d:Option Tmp) (ty:TypeId) (ps:String) (af:Array Edge) (gd:Option (Nat × Bool)) (T:Nat→V) (σ:Store) (nx:Nat) (t:TypeId) (x y z:Operand) (h:(tyI P t).slice = true) (he:(tyI P t).eok = true) (hs:(tyI P t).esz = 1) (hz:(tyI P t).ezero.length = 1) (hx:isCell (val T x) = true) (hy:isCell (val T y) = true) (hw:isCell (val T z) = true) :
  evOp P conv call ⟨d,.buildSlice t 3 #[(0,x),(1,y),(2,z)],ty,ps,af,gd⟩ T σ nx = some (.rs nx 0 3,upd σ nx (some ⟨[val T x,val T y,val T z],1,true⟩),nx + 1):=by
 rw [op_buildSlice d ty ps af gd T σ nx t 3 _ (by rfl),evBuildSlice_eq h he,if_neg (by decide),hs,if_pos (by decide)]
 have hv:∀ v,isCell v = true→cellsOfV v = some [v]:=by intro v hv; cases v <;> simp_all [cellsOfV,isCell]
 have hr:(rep 3 (tyI P t).ezero).length = 3:=by rw [rep_len,hz]
 obtain ⟨a,b,c,e⟩:∃ a b c,rep 3 (tyI P t).ezero = [a,b,c]:=by
  generalize rep 3 (tyI P t).ezero = l at *
  match l,hr with
  | [a,b,c],_ => exact ⟨a,b,c,rfl⟩
 show (match evFill (fun j => some (j * 1,1)) (rep 3 (tyI P t).ezero) [(0,val T x),(1,val T y),(2,val T z)] with | some cells => some (V.rs nx 0 3,evBox σ nx cells 1,nx + 1) | none => none) = _
 rw [e]
 simp [fill_cons,fill_nil,hv _ hx,hv _ hy,hv _ hw,patch_one,evBox]
attribute [go_sem] op_buildSlice3
theorem res_tmpc {P:Program} (T:Nat→V) (σ:Store) (t:Tmp) (r:ResultVar) (rs:List ResultVar):evResults P T σ (.tmp t :: r :: rs) = (evResults P T σ (r :: rs)).map fun vs => T t :: vs:=by
 rw [evResults]
 cases evResults P T σ (r :: rs) <;> rfl
theorem res_cellc {P:Program} (T:Nat→V) (σ:Store) (a:Tmp) (t:TypeId) (r:ResultVar) (rs:List ResultVar):evResults P T σ (.cell a t :: r :: rs) = (evLoad P σ t (T a)).bind fun v => (evResults P T σ (r :: rs)).map fun vs => v :: vs:=by
 rw [evResults]
 cases evLoad P σ t (T a) <;> cases evResults P T σ (r :: rs) <;> rfl
attribute [go_sem] res_tmpc res_cellc
theorem ev_cvt {P:Program} {s e:TypeId} {k1 k2 k:IntKind} {n:Int} {σ:Store} (hs:P.underlying s = some (.int k1)) (he:P.underlying e = some (.int k2)):evConvert P s e (.sc (.int k n)) σ = some (.sc (.int k2 (k2.wrap n))):=by
 have h:evPure P (convert s e (.int k n)) = some (.int k2 (k2.wrap n)):=by
  unfold convert
  rw [evPure_bind,ep_underlying hs]
  simp only [Option.bind_some]
  rw [evPure_bind,ep_underlying he]
  rfl
 simp only [evConvert,toVal,h,Option.bind_some]
 rfl
theorem wrap_u64 {n:Int} (h0:0 ≤ n) (h1:n ≤ 18446744073709551615):IntKind.u64.wrap n = n:=by
 unfold IntKind.wrap
 have e1:IntKind.u64.signed = false:=by decide
 have e2:IntKind.u64.bits = 64:=by decide
 simp only [e1,e2,Bool.false_and]
 rw [if_neg (by simp)]
 omega
def b255 (a:Int):Int:=((BitVec.ofInt 64 a &&& BitVec.ofInt 64 255).toNat:Nat)
theorem b255_range (a:Int):0 ≤ b255 a∧b255 a ≤ 255:=by
 unfold b255
 rw [BitVec.toNat_and]
 have h:(BitVec.ofInt 64 255).toNat = 255:=by decide
 rw [h]
 have:=Nat.and_le_right (n:=(BitVec.ofInt 64 a).toNat) (m:=255)
 omega
def xorI (a b:Int):Int:=IntKind.i64.wrap ((BitVec.ofInt 64 a ^^^ BitVec.ofInt 64 b).toNat:Nat)
section
variable {P:Program} {t:TypeId} {x y:Operand}
theorem ev_and255 {a:Int}:evBin P .and t x y (.sc (.int .i64 a)) (.sc (.int .i64 255)) = some (.sc (.int .i64 (b255 a))):=by
 have h:(Op.intBits .and .i64 a 255) = (pure (.int .i64 (b255 a)):Sem Value):=by
  show (pure (.int .i64 (IntKind.i64.wrap (b255 a))):Sem Value) = _
  rw [wrap_id (by have:=b255_range a; omega) (by have:=b255_range a; omega)]
 simp only [evBin,toVal,eqGuard_at_int,binOp_and,h]
 rfl
theorem ev_xor {a b:Int}:evBin P .xor t x y (.sc (.int .i64 a)) (.sc (.int .i64 b)) = some (.sc (.int .i64 (xorI a b))):=by
 simp only [evBin,toVal,eqGuard_at_int,binOp_xor]
 rfl
theorem ev_shr {k yk:IntKind} {a n:Int} (h:¬n < 0):evBin P .shr t x y (.sc (.int k a)) (.sc (.int yk n)) = some (.sc (.int k (a.fdiv (2 ^ min n.toNat k.bits)))):=by
 have hs:Op.shift .shr k a yk n = (pure (.int k (a.fdiv (2 ^ min n.toNat k.bits))):Sem Value):=by
  unfold Op.shift
  rw [if_neg h]
 simp only [evBin,toVal,eqGuard_at_int,binOp_shr,hs]
 rfl
end
def andI (a b:Int):Int:=IntKind.i64.wrap ((BitVec.ofInt 64 a &&& BitVec.ofInt 64 b).toNat:Nat)
theorem ev_and {P:Program} {t:TypeId} {x y:Operand} {a b:Int}:evBin P .and t x y (.sc (.int .i64 a)) (.sc (.int .i64 b)) = some (.sc (.int .i64 (andI a b))):=by
 simp only [evBin,toVal,eqGuard_at_int,binOp_and]
 rfl
attribute [go_sem] ev_and255 ev_xor ev_shr
attribute [go_sem low] ev_and
def isSc:V→Bool
 | .sc _ => true
 | _ => false
theorem isSc_sc (v:Value):isSc (.sc v) = true:=id rfl
theorem opD_convert {P:Program} {conv:FuncId→Conv} {call:Call} (d:Option Tmp) (ty:TypeId) (ps:String) (af:Array Edge) (gd:Option (Nat × Bool)) (T:Nat→V) (σ:Store) (nx:Nat) (s e:TypeId) (x:Operand) (hx:isSc (val T x) = true) :
  evOpD P conv call ⟨d,.convert s e x,ty,ps,af,gd⟩ T σ nx = (evConvert P s e (val T x) noStore).map (·,σ,nx):=by
 obtain ⟨u,hu⟩:∃ u,val T x = .sc u:=by
  cases hv:val T x <;> rw [hv] at hx <;> first | exact ⟨_,rfl⟩ | cases hx
 refine opD_map T σ nx (by show some (refsC (val T x)) = some []; rw [hu]; rfl) fun σ => ?_
 show (evConvert P s e (val T x) σ).map _ = _
 rw [hu]
 rfl
attribute [go_sem] isSc_sc opD_convert
theorem step_of {b:Option (Ex × St)} {J:St→Prop} {post:Ex × St→Prop} (h:∃ x,b = some x∧((∃ st',x = (.norm,st')∧J st')∨((∀ s,x ≠ (.norm,s))∧post x))):(∃ st',b = some (.norm,st')∧J st')∨(∃ r,b = some r∧(∀ s,r ≠ (.norm,s))∧post r):=by
 obtain ⟨x,rfl,⟨st',rfl,h⟩ | ⟨h1,h2⟩⟩:=h
 ·exact .inl ⟨st',rfl,h⟩
 ·exact .inr ⟨x,rfl,h1,h2⟩
theorem opD_inl {P:Program} {conv:FuncId→Conv} {call:Call} {d:Option Tmp} {ty:TypeId} {ps:String} {af:Array Edge} {gd:Option (Nat × Bool)} {T:Nat→V} {σ:Store} {nx:Nat} {g:FuncId} (h:conv g = .inl) (args:Array Operand) (ts:Array TypeId) :
  evOpD P conv call ⟨d,.call ⟨.value (.func g),args,ts⟩,ty,ps,af,gd⟩ T σ nx = if (((args.toList.map (val T)).flatMap refsV).all fun b => decide (b < nx)) = true then
   (call g (args.toList.map (val T)) (restrict σ ((args.toList.map (val T)).flatMap refsV)) nx).map fun r => (r.1,patchS ((args.toList.map (val T)).flatMap refsV) nx r.2.2 σ r.2.1,r.2.2) else none:=by
 have hf:footO conv T σ (⟨d,.call ⟨.value (.func g),args,ts⟩,ty,ps,af,gd⟩:Oper) = some ((args.toList.map (val T)).flatMap refsV):=by
  simp only [footO,val,h,List.flatMap_nil,List.append_nil]
 rw [evOpD_of T σ nx hf (fun v => by simp only [keeps,val,h])]
 split
 ·have e:=op_call (P:=P) (conv:=conv) (call:=call) d ty ps af gd T (restrict σ ((args.toList.map (val T)).flatMap refsV)) nx (.func g) args ts
  rw [e]
  simp only [val,callV_clo,List.append_nil,call_inl h]
  cases call g (args.toList.map (val T)) (restrict σ ((args.toList.map (val T)).flatMap refsV)) nx <;> rfl
 ·rfl
theorem w_inl {conv:FuncId→Conv} {d:Option Tmp} {ty:TypeId} {ps:String} {af:Array Edge} {gd:Option (Nat × Bool)} {g:FuncId} (h:conv g = .inl) (args:Array Operand) (ts:Array TypeId):writer conv ⟨d,.call ⟨.value (.func g),args,ts⟩,ty,ps,af,gd⟩ = true:=by unfold writer; simp only [h]
theorem foot_inl {conv:FuncId→Conv} {d:Option Tmp} {ty:TypeId} {ps:String} {af:Array Edge} {gd:Option (Nat × Bool)} {T:Nat→V} {σ:Store} {g:FuncId} (h:conv g = .inl) (args:Array Operand) (ts:Array TypeId):footIds conv T σ ⟨d,.call ⟨.value (.func g),args,ts⟩,ty,ps,af,gd⟩ = (args.toList.map (val T)).flatMap refsV:=by
 simp only [footIds,footO,val,h,List.flatMap_nil,List.append_nil,Option.getD_some]
theorem refsV_sc (v:Value):refsV (.sc v) = []:=rfl
theorem refsV_rp (b off:Nat):refsV (.rp b off) = [b]:=rfl
theorem refsV_rs (b off len:Nat):refsV (.rs b off len) = [b]:=rfl
theorem refsV_ts (row:List V) (len:Nat):refsV (.ts row len) = []:=rfl
theorem refsV_tp (row:List V) (off:Nat):refsV (.tp row off) = []:=rfl
theorem refsV_nil:refsV .nil = []:=rfl
theorem refsV_agg (vs:List V):refsV (.agg vs) = vs.flatMap refsC:=rfl
theorem restrict_one (σ:Store) (b:Nat):restrict σ [b] b = σ b:=by unfold restrict; simp
theorem patch_upd_one (σ:Store) (b nx:Nat) (x:Option Blk):patchS [b] nx nx σ (upd (restrict σ [b]) b x) = upd σ b x:=by
 funext i
 unfold patchS upd restrict
 by_cases h:i = b
 ·simp [h]
 ·rw [if_neg (by simp only [List.mem_singleton,h,false_or]; omega),if_neg h]
attribute [go_sem] opD_inl w_inl foot_inl refsV_sc refsV_rp refsV_rs refsV_ts refsV_tp refsV_nil refsV_agg restrict_one patch_upd_one
theorem opD_append {P:Program} {conv:FuncId→Conv} {call:Call} {d:Option Tmp} {ty:TypeId} {ps:String} {af:Array Edge} {gd:Option (Nat × Bool)} {T:Nat→V} {σ:Store} {nx:Nat} (a x:Operand) (t u:TypeId) :
  evOpD P conv call ⟨d,.call ⟨.builtin .append,#[a,x],#[t,u]⟩,ty,ps,af,gd⟩ T σ nx = if ((refsC (val T a) ++ refsC (val T x)).all fun b => decide (b < nx)) = true then
   (evAppend P #[t,u] (val T a) (val T x) (restrict σ (refsC (val T a) ++ refsC (val T x))) nx).map fun r => (r.1,patchS (refsC (val T a) ++ refsC (val T x)) nx r.2.2 σ r.2.1,r.2.2) else none:=by
 have hf:footO conv T σ (⟨d,.call ⟨.builtin .append,#[a,x],#[t,u]⟩,ty,ps,af,gd⟩:Oper) = some (refsC (val T a) ++ refsC (val T x)):=by
  simp [footO]
 rw [evOpD_of T σ nx hf (fun v => rfl)]
 split
 ·rw [op_append]
  cases evAppend P #[t,u] (val T a) (val T x) (restrict σ (refsC (val T a) ++ refsC (val T x))) nx <;> rfl
 ·rfl
theorem w_append {conv:FuncId→Conv} {d:Option Tmp} {ty:TypeId} {ps:String} {af:Array Edge} {gd:Option (Nat × Bool)} (args:Array Operand) (ts:Array TypeId):writer conv ⟨d,.call ⟨.builtin .append,args,ts⟩,ty,ps,af,gd⟩ = true:=id rfl
theorem foot_append {conv:FuncId→Conv} {d:Option Tmp} {ty:TypeId} {ps:String} {af:Array Edge} {gd:Option (Nat × Bool)} {T:Nat→V} {σ:Store} (a x:Operand) (ts:Array TypeId):footIds conv T σ ⟨d,.call ⟨.builtin .append,#[a,x],ts⟩,ty,ps,af,gd⟩ = refsC (val T a) ++ refsC (val T x):=by
 simp [footIds,footO]
theorem opD_buildSlice0 {P:Program} {conv:FuncId→Conv} {call:Call} (d:Option Tmp) (ty:TypeId) (ps:String) (af:Array Edge) (gd:Option (Nat × Bool)) (T:Nat→V) (σ:Store) (nx:Nat) (t:TypeId) (h:(tyI P t).slice = true) (he:(tyI P t).eok = true):evOpD P conv call ⟨d,.buildSlice t 0 #[],ty,ps,af,gd⟩ T σ nx = some (.nil,σ,nx) :=
 opD_nil T σ nx rfl fun σ => op_buildSlice0 d ty ps af gd T σ nx t h he
theorem w_buildSlice {conv:FuncId→Conv} {d:Option Tmp} {ty:TypeId} {ps:String} {af:Array Edge} {gd:Option (Nat × Bool)} (t:TypeId) (n:Nat) (parts:Array (Nat × Operand)):writer conv ⟨d,.buildSlice t n parts,ty,ps,af,gd⟩ = false:=id rfl
theorem foot_buildSlice {conv:FuncId→Conv} {d:Option Tmp} {ty:TypeId} {ps:String} {af:Array Edge} {gd:Option (Nat × Bool)} {T:Nat→V} {σ:Store} (t:TypeId) (n:Nat) (parts:Array (Nat × Operand)):footIds conv T σ ⟨d,.buildSlice t n parts,ty,ps,af,gd⟩ = []:=rfl
theorem patch_new (σ:Store) (nx:Nat) (x:Option Blk):patchS [] nx (nx + 1) σ (upd (restrict σ []) nx x) = upd σ nx x:=by
 funext i
 unfold patchS upd restrict
 by_cases h:i = nx
 ·simp [h]
 ·rw [if_neg (by simp only [List.not_mem_nil,false_or]; omega),if_neg h]
attribute [go_sem] opD_append w_append foot_append opD_buildSlice0 w_buildSlice foot_buildSlice patch_new patchS_nil List.append_nil
theorem freezeL_ne:∀ (ids:List Nat) (σ:Store) (b:Nat),ids.contains b = false→freezeL σ ids b = σ b
 | [],σ,b,_ => rfl
 | i :: ids,σ,b,h => by
  rw [List.contains_cons,Bool.or_eq_false_iff] at h
  have hne:b ≠ i:=by simpa using h.1
  unfold freezeL
  rw [freezeL_ne ids _ b h.2,upd_ne _ _ hne]
theorem behind_ne {σ:Store} {ids:List Nat} {t:V} {b:Nat} (h:ids.contains b = false):behind σ ids t b = σ b:=by
 unfold behind
 split
 ·rfl
 ·exact freezeL_ne ids σ b h
attribute [go_sem] behind_ne
end Go.TV
namespace Go.TV
theorem ev_adds {P:Program} {t:TypeId} {x y:Operand} {a b:ByteArray} (h:a.size + b.size ≤ 9223372036854775807):evBin P .add t x y (.sc (.string a)) (.sc (.string b)) = some (.sc (.string (a ++ b))):=by
 have hm:IntKind.i64.max = 9223372036854775807:=rfl
 have:Op.stringOp .add a b = (pure (.string (a ++ b)):Sem Value):=by
  unfold Op.stringOp
  rw [if_neg (by rw [hm]; omega)]
 simp only [evBin,toVal,eqGuard_add]
 show (evPure P (Op.stringOp .add a b)).bind _ = _
 rw [this]
 rfl
theorem bytes_nil:bytesOfRow [] = some []:=rfl
theorem bytes_cons (n:Int) (vs:List V):bytesOfRow (.sc (.int .u8 n) :: vs) = if 0 ≤ n∧n < 256 then (bytesOfRow vs).map (UInt8.ofNat n.toNat :: ·) else none:=rfl
theorem tyI_u8 {P:Program} {t:TypeId} (h:(tyI P t).u8 = true):∃ e i,P.underlying t = some (.slice e)∧P.underlying e = some (.int .u8)∧P.info? e = some i∧i.size = 1:=by
 unfold tyI at h
 cases hi:P.info? t with
 | none => simp [hi] at h
 | some i =>
  cases hd:P.underlying t with
  | none => simp [hi,hd] at h
  | some d =>
   simp only [hi,hd] at h
   cases d <;> simp at h
   rename_i e
   obtain ⟨h1,h2⟩:=h
   have h3:P.underlying e = some (.int .u8):=by
    revert h1
    cases P.underlying e with
    | none => simp
    | some d => cases d <;> simp; rename_i k; cases k <;> simp
   cases hj:P.info? e with
   | none => simp [hj] at h2
   | some j => simp [hj] at h2; exact ⟨e,j,rfl,h3,hj,h2⟩
theorem evCvs {P:Program} {s d:TypeId} (hs:(tyI P s).u8 = true) (hd:(tyI P d).str = true) (b off len:Nat) (σ:Store):evConvert P s d (.rs b off len) σ = (rowOf σ 1 (.rs b off len)).bind fun p => (bytesOfRow p.1).map fun l => .sc (.string ⟨l.toArray⟩):=by
 obtain ⟨e,i,h1,h2,h3,h4⟩:=tyI_u8 hs
 unfold evConvert
 simp only [toVal,h1,tyI_str hd,h2,h3,h4,if_true]
 cases rowOf σ 1 (.rs b off len) with
 | none => rfl
 | some p => obtain ⟨r,n⟩:=p; rfl
def sCells (b:ByteArray):List V:=b.data.toList.map fun c => .sc (.int .u8 c.toNat)
theorem evAppendS_eq {P:Program} {t t2:TypeId} {s:V} {b:ByteArray} {σ:Store} {nx:Nat} (h:(tyI P t).u8 = true) (hsl:(tyI P t).slice = true) (he:(tyI P t).eok = true) (h2:(tyI P t2).str = true):evAppend P #[t,t2] s (.sc (.string b)) σ nx = appendTo σ nx 1 (tyI P t).ebytes s (sCells b) b.size:=by
 obtain ⟨e,i,g1,g2,g3,g4⟩:=tyI_u8 h
 obtain ⟨e',i',z,k1,k2,k3,k4,k5,k6,k7⟩:=tyI_slice hsl he
 rw [g1] at k1
 cases k1
 rw [g3] at k2
 cases k2
 have hs:=tyI_str h2
 have hne:(t2 == t) = false:=by
  rw [beq_eq_false_iff_ne]
  rintro rfl
  rw [g1] at hs
  cases hs
 have hz:z.cells.size = 1:=by rw [k4,g4]
 unfold evAppend
 simp only [List.getElem?_toArray,List.getElem?_cons_zero,List.getElem?_cons_succ,g1,hne,g2,hs,g3,k3,hz,g4,and_self,if_true,k6]
 rfl
attribute [go_sem] ev_adds bytes_nil bytes_cons evCvs evAppendS_eq
end Go.TV
namespace Go.Proofs.YtoccmbjfkbemcaaGreat
open Go Go.TV
instance known0:Known:=⟨[]⟩
theorem kn0 (W:World):Kn (TV.start W):=fun p hp => absurd hp List.not_mem_nil
def conv:FuncId→Conv:=fun f => if f ∈ ([]:List Nat) then .own else if f ∈ ([20,15,19,14,26,27,28,36,38,39]:List Nat) then .inl else .imm
theorem cv4:conv 4 = .imm:=id rfl
theorem cv5:conv 5 = .imm:=id rfl
theorem cv6:conv 6 = .imm:=id rfl
theorem cv7:conv 7 = .imm:=id rfl
theorem cv10:conv 10 = .imm:=id rfl
theorem cv12:conv 12 = .imm:=id rfl
theorem cv13:conv 13 = .imm:=id rfl
theorem cv14:conv 14 = .inl:=id rfl
theorem cv15:conv 15 = .inl:=id rfl
theorem cv16:conv 16 = .imm:=id rfl
theorem cv17:conv 17 = .imm:=id rfl
theorem cv18:conv 18 = .imm:=id rfl
theorem cv19:conv 19 = .inl:=id rfl
theorem cv20:conv 20 = .inl:=id rfl
theorem cv21:conv 21 = .imm:=id rfl
theorem cv22:conv 22 = .imm:=id rfl
theorem cv23:conv 23 = .imm:=id rfl
theorem cv24:conv 24 = .imm:=id rfl
theorem cv25:conv 25 = .imm:=id rfl
theorem cv26:conv 26 = .inl:=id rfl
theorem cv27:conv 27 = .inl:=id rfl
theorem cv28:conv 28 = .inl:=id rfl
theorem cv29:conv 29 = .imm:=id rfl
theorem cv30:conv 30 = .imm:=id rfl
theorem cv31:conv 31 = .imm:=id rfl
theorem cv32:conv 32 = .imm:=id rfl
theorem cv33:conv 33 = .imm:=id rfl
theorem cv34:conv 34 = .imm:=id rfl
theorem cv35:conv 35 = .imm:=id rfl
theorem cv36:conv 36 = .inl:=id rfl
theorem cv37:conv 37 = .imm:=id rfl
theorem cv38:conv 38 = .inl:=id rfl
theorem cv39:conv 39 = .inl:=id rfl
theorem cv40:conv 40 = .imm:=id rfl
theorem cv41:conv 41 = .imm:=id rfl
theorem cv42:conv 42 = .imm:=id rfl
theorem cv43:conv 43 = .imm:=id rfl
theorem cv44:conv 44 = .imm:=id rfl
theorem cv45:conv 45 = .imm:=id rfl
theorem cv46:conv 46 = .imm:=id rfl
theorem cv47:conv 47 = .imm:=id rfl
theorem cv48:conv 48 = .imm:=id rfl
theorem cv49:conv 49 = .imm:=id rfl
theorem cv50:conv 50 = .imm:=id rfl
theorem cv51:conv 51 = .imm:=id rfl
theorem cv52:conv 52 = .imm:=id rfl
theorem cv53:conv 53 = .imm:=id rfl
theorem cv54:conv 54 = .imm:=id rfl
theorem cv55:conv 55 = .imm:=id rfl
theorem cv56:conv 56 = .imm:=id rfl
theorem cv57:conv 57 = .imm:=id rfl
theorem cv58:conv 58 = .imm:=id rfl
theorem cv59:conv 59 = .imm:=id rfl
theorem cv60:conv 60 = .imm:=id rfl
theorem cv61:conv 61 = .imm:=id rfl
theorem cv63:conv 63 = .imm:=id rfl
theorem cv64:conv 64 = .imm:=id rfl
theorem cv65:conv 65 = .imm:=id rfl
theorem cv66:conv 66 = .imm:=id rfl
theorem cv67:conv 67 = .imm:=id rfl
theorem cv68:conv 68 = .imm:=id rfl
theorem cv69:conv 69 = .imm:=id rfl
theorem cv70:conv 70 = .imm:=id rfl
theorem cv71:conv 71 = .imm:=id rfl
theorem cv72:conv 72 = .imm:=id rfl
theorem cv73:conv 73 = .imm:=id rfl
theorem cv74:conv 74 = .imm:=id rfl
theorem cv75:conv 75 = .imm:=id rfl
theorem cv76:conv 76 = .imm:=id rfl
theorem cv77:conv 77 = .imm:=id rfl
theorem cv78:conv 78 = .imm:=id rfl
theorem cv79:conv 79 = .imm:=id rfl
theorem cv80:conv 80 = .imm:=id rfl
theorem cv81:conv 81 = .imm:=id rfl
theorem cv82:conv 82 = .imm:=id rfl
theorem cv83:conv 83 = .imm:=id rfl
theorem cv84:conv 84 = .imm:=id rfl
theorem cv85:conv 85 = .imm:=id rfl
theorem cv86:conv 86 = .imm:=id rfl
theorem cv87:conv 87 = .imm:=id rfl
theorem cv88:conv 88 = .imm:=id rfl
theorem cv89:conv 89 = .imm:=id rfl
theorem cv90:conv 90 = .imm:=id rfl
theorem cv91:conv 91 = .imm:=id rfl
theorem cv92:conv 92 = .imm:=id rfl
theorem cv93:conv 93 = .imm:=id rfl
theorem cv94:conv 94 = .imm:=id rfl
theorem cv95:conv 95 = .imm:=id rfl
theorem cv96:conv 96 = .imm:=id rfl
theorem cv97:conv 97 = .imm:=id rfl
theorem cv98:conv 98 = .imm:=id rfl
theorem cv99:conv 99 = .imm:=id rfl
theorem cv100:conv 100 = .imm:=id rfl
theorem cv101:conv 101 = .imm:=id rfl
theorem cv102:conv 102 = .imm:=id rfl
theorem cv103:conv 103 = .imm:=id rfl
theorem cv104:conv 104 = .imm:=id rfl
theorem cv105:conv 105 = .imm:=id rfl
theorem cv106:conv 106 = .imm:=id rfl
theorem cv107:conv 107 = .imm:=id rfl
theorem cv108:conv 108 = .imm:=id rfl
theorem cv109:conv 109 = .imm:=id rfl
theorem cv110:conv 110 = .imm:=id rfl
theorem cv111:conv 111 = .imm:=id rfl
theorem cv112:conv 112 = .imm:=id rfl
theorem cv113:conv 113 = .imm:=id rfl
theorem cv114:conv 114 = .imm:=id rfl
theorem cv115:conv 115 = .imm:=id rfl
theorem cv116:conv 116 = .imm:=id rfl
theorem cv117:conv 117 = .imm:=id rfl
theorem cv118:conv 118 = .imm:=id rfl
theorem cv119:conv 119 = .imm:=id rfl
theorem cv120:conv 120 = .imm:=id rfl
theorem cv121:conv 121 = .imm:=id rfl
theorem cv122:conv 122 = .imm:=id rfl
theorem cv123:conv 123 = .imm:=id rfl
theorem cv124:conv 124 = .imm:=id rfl
theorem cv125:conv 125 = .imm:=id rfl
theorem cv126:conv 126 = .imm:=id rfl
theorem cv127:conv 127 = .imm:=id rfl
theorem cv128:conv 128 = .imm:=id rfl
theorem cv129:conv 129 = .imm:=id rfl
theorem cv130:conv 130 = .imm:=id rfl
attribute [go_sem] cv4 cv5 cv6 cv7 cv10 cv12 cv13 cv14 cv15 cv16 cv17 cv18 cv19 cv20 cv21 cv22 cv23 cv24 cv25 cv26 cv27 cv28 cv29 cv30 cv31 cv32 cv33 cv34 cv35 cv36 cv37 cv38 cv39 cv40 cv41 cv42 cv43 cv44 cv45 cv46 cv47 cv48 cv49 cv50 cv51 cv52 cv53 cv54 cv55 cv56 cv57 cv58 cv59 cv60 cv61 cv63 cv64 cv65 cv66 cv67 cv68 cv69 cv70 cv71 cv72 cv73 cv74 cv75 cv76 cv77 cv78 cv79 cv80 cv81 cv82 cv83 cv84 cv85 cv86 cv87 cv88 cv89 cv90 cv91 cv92 cv93 cv94 cv95 cv96 cv97 cv98 cv99 cv100 cv101 cv102 cv103 cv104 cv105 cv106 cv107 cv108 cv109 cv110 cv111 cv112 cv113 cv114 cv115 cv116 cv117 cv118 cv119 cv120 cv121 cv122 cv123 cv124 cv125 cv126 cv127 cv128 cv129 cv130
theorem ty2:tyI Tryz.prog 2 = ⟨true,false,1,[.sc (.int .i64 0)],false,false,false,0,0,[],false,[],[],false,false⟩:=by kernel_rfl
theorem ty3:tyI Tryz.prog 3 = ⟨true,false,1,[.sc (.int .i64 0)],false,false,false,0,0,[],false,[],[],false,false⟩:=by kernel_rfl
theorem ty4:tyI Tryz.prog 4 = ⟨true,false,1,[.sc (.bool false)],false,false,false,0,0,[],false,[],[],false,false⟩:=by kernel_rfl
theorem ty5:tyI Tryz.prog 5 = ⟨true,false,1,[.sc (.int .u8 0)],false,false,false,0,0,[],false,[],[],false,false⟩:=by kernel_rfl
theorem ty7:tyI Tryz.prog 7 = ⟨true,true,4,[.sc (.int .i64 0),.sc (.int .i64 0),.sc (.bool false),.sc (.int .u8 0)],false,false,false,0,0,[],false,[(0,1,some false),(1,1,some false),(2,1,some false),(3,1,some false)],[(0,1),(1,1),(2,1),(3,1)],true,false⟩:=by kernel_rfl
theorem ty9:tyI Tryz.prog 9 = ⟨true,false,1,[.sc (.string ByteArray.empty)],false,true,false,0,0,[],false,[],[],false,false⟩:=by kernel_rfl
theorem ty12:tyI Tryz.prog 12 = ⟨true,false,1,[.sc (.int .u64 0)],false,false,false,0,0,[],false,[],[],false,false⟩:=by kernel_rfl
theorem ty13:tyI Tryz.prog 13 = ⟨true,true,2,[.sc (.string ByteArray.empty),.sc (.int .u64 0)],false,false,false,0,0,[],false,[(0,1,some false),(1,1,some false)],[(0,1),(1,1)],true,false⟩:=by kernel_rfl
theorem ty21:tyI Tryz.prog 21 = ⟨true,false,1,[.sc (.int .i32 0)],false,false,false,0,0,[],false,[],[],false,false⟩:=by kernel_rfl
theorem ty22:tyI Tryz.prog 22 = ⟨true,false,1,[.nil],true,false,false,1,1,[.sc (.int .u8 0)],true,[],[],false,true⟩:=by kernel_rfl
theorem ty23:tyI Tryz.prog 23 = ⟨true,false,1,[.nil],true,false,false,5,112,[.sc (.string ByteArray.empty),.nil,.nil,.nil,.nil],true,[],[],false,false⟩:=by kernel_rfl
theorem ty24:tyI Tryz.prog 24 = ⟨true,false,1,[.nil],true,false,false,2,16,[.sc (.int .i64 0),.sc (.int .i64 0)],true,[],[],false,false⟩:=by kernel_rfl
theorem ty25:tyI Tryz.prog 25 = ⟨true,true,3,[.nil,.nil,.sc (.bool false)],false,false,false,0,0,[],false,[(0,1,some false),(1,1,some false),(2,1,some false)],[(0,1),(1,1),(2,1)],true,false⟩:=by kernel_rfl
theorem ty26:tyI Tryz.prog 26 = ⟨true,true,3,[.nil,.nil,.sc (.bool false)],false,false,false,0,0,[],false,[(0,1,some false),(1,1,some false),(2,1,some false)],[(0,1),(1,1),(2,1)],true,false⟩:=by kernel_rfl
theorem ty31:tyI Tryz.prog 31 = ⟨true,false,1,[.nil],true,false,false,1,8,[.sc (.int .i64 0)],true,[],[],false,false⟩:=by kernel_rfl
theorem ty40:tyI Tryz.prog 40 = ⟨true,false,1,[.sc (.pointer none)],false,false,true,0,0,[],false,[],[],false,false⟩:=by kernel_rfl
theorem ty42:tyI Tryz.prog 42 = ⟨true,false,1,[.nil],true,false,false,4,40,[.sc (.string ByteArray.empty),.sc (.int .i64 0),.sc (.int .i64 0),.sc (.bool false)],true,[],[],false,false⟩:=by kernel_rfl
theorem ty43:tyI Tryz.prog 43 = ⟨true,false,1,[.nil],true,false,false,3,24,[.sc (.int .i64 0),.sc (.int .i64 0),.sc (.int .i64 0)],true,[],[],false,false⟩:=by kernel_rfl
theorem ty44:tyI Tryz.prog 44 = ⟨true,true,2,[.nil,.nil],false,false,false,0,0,[],false,[(0,1,some false),(1,1,some false)],[(0,1),(1,1)],true,false⟩:=by kernel_rfl
theorem ty45:tyI Tryz.prog 45 = ⟨true,true,2,[.nil,.nil],false,false,false,0,0,[],false,[(0,1,some false),(1,1,some false)],[(0,1),(1,1)],true,false⟩:=by kernel_rfl
theorem ty46:tyI Tryz.prog 46 = ⟨true,true,5,[.sc (.string ByteArray.empty),.nil,.nil,.nil,.nil],false,false,false,0,0,[],false,[(0,1,some false),(1,2,some true),(3,1,some false),(4,1,some false)],[(0,1),(1,2),(3,1),(4,1)],true,false⟩:=by kernel_rfl
theorem ty47:tyI Tryz.prog 47 = ⟨true,true,5,[.sc (.string ByteArray.empty),.nil,.nil,.nil,.nil],false,false,false,0,0,[],false,[(0,1,some false),(1,2,some true),(3,1,some false),(4,1,some false)],[(0,1),(1,2),(3,1),(4,1)],true,false⟩:=by kernel_rfl
theorem ty50:tyI Tryz.prog 50 = ⟨true,true,2,[.sc (.int .i64 0),.sc (.int .i64 0)],false,false,false,0,0,[],false,[(0,1,some false),(1,1,some false)],[(0,1),(1,1)],true,false⟩:=by kernel_rfl
theorem ty51:tyI Tryz.prog 51 = ⟨true,true,2,[.sc (.int .i64 0),.sc (.int .i64 0)],false,false,false,0,0,[],false,[(0,1,some false),(1,1,some false)],[(0,1),(1,1)],true,false⟩:=by kernel_rfl
theorem ty57:tyI Tryz.prog 57 = ⟨true,false,1,[.nil],true,false,false,1,1,[.sc (.bool false)],true,[],[],false,false⟩:=by kernel_rfl
theorem ty64:tyI Tryz.prog 64 = ⟨true,true,3,[.nil,.sc (.int .i64 0),.sc (.int .i64 0)],false,false,false,0,0,[],false,[(0,1,some false),(1,1,some false),(2,1,some false)],[(0,1),(1,1),(2,1)],true,false⟩:=by kernel_rfl
theorem ty65:tyI Tryz.prog 65 = ⟨true,true,3,[.nil,.sc (.int .i64 0),.sc (.int .i64 0)],false,false,false,0,0,[],false,[(0,1,some false),(1,1,some false),(2,1,some false)],[(0,1),(1,1),(2,1)],true,false⟩:=by kernel_rfl
theorem ty69:tyI Tryz.prog 69 = ⟨true,false,1,[.sc (.pointer none)],false,false,true,0,0,[],false,[],[],false,false⟩:=by kernel_rfl
theorem ty71:tyI Tryz.prog 71 = ⟨true,false,1,[.sc (.int .u64 0)],false,false,false,0,0,[],false,[],[],false,false⟩:=by kernel_rfl
theorem ty72:tyI Tryz.prog 72 = ⟨true,false,1,[.sc (.pointer none)],false,false,true,0,0,[],false,[],[],false,false⟩:=by kernel_rfl
theorem ty86:tyI Tryz.prog 86 = ⟨true,true,4,[.sc (.string ByteArray.empty),.sc (.int .i64 0),.sc (.int .i64 0),.sc (.bool false)],false,false,false,0,0,[],false,[(0,1,some false),(1,1,some false),(2,1,some false),(3,1,some false)],[(0,1),(1,1),(2,1),(3,1)],true,false⟩:=by kernel_rfl
theorem ty87:tyI Tryz.prog 87 = ⟨true,true,4,[.sc (.string ByteArray.empty),.sc (.int .i64 0),.sc (.int .i64 0),.sc (.bool false)],false,false,false,0,0,[],false,[(0,1,some false),(1,1,some false),(2,1,some false),(3,1,some false)],[(0,1),(1,1),(2,1),(3,1)],true,false⟩:=by kernel_rfl
theorem ty88:tyI Tryz.prog 88 = ⟨true,true,3,[.sc (.int .i64 0),.sc (.int .i64 0),.sc (.int .i64 0)],false,false,false,0,0,[],false,[(0,1,some false),(1,1,some false),(2,1,some false)],[(0,1),(1,1),(2,1)],true,false⟩:=by kernel_rfl
theorem ty89:tyI Tryz.prog 89 = ⟨true,true,3,[.sc (.int .i64 0),.sc (.int .i64 0),.sc (.int .i64 0)],false,false,false,0,0,[],false,[(0,1,some false),(1,1,some false),(2,1,some false)],[(0,1),(1,1),(2,1)],true,false⟩:=by kernel_rfl
theorem ty98:tyI Tryz.prog 98 = ⟨true,false,1,[.nil],true,false,false,3,56,[.sc (.bool false),.nil,.nil],true,[],[],false,false⟩:=by kernel_rfl
theorem ty101:tyI Tryz.prog 101 = ⟨true,false,1,[.sc (.int .u32 0)],false,false,false,0,0,[],false,[],[],false,false⟩:=by kernel_rfl
theorem ty104:tyI Tryz.prog 104 = ⟨true,false,1,[.sc (.int .u64 0)],false,false,false,0,0,[],false,[],[],false,false⟩:=by kernel_rfl
theorem ty113:tyI Tryz.prog 113 = ⟨true,false,1,[.nil],true,false,false,1,8,[.sc (.pointer none)],true,[],[],false,false⟩:=by kernel_rfl
theorem ty116:tyI Tryz.prog 116 = ⟨true,true,5,[.sc (.int .i64 0),.sc (.int .i64 0),.nil,.nil,.nil],false,false,false,0,0,[],false,[(0,1,some false),(1,1,some false),(2,1,some false),(3,1,some false),(4,1,some false)],[(0,1),(1,1),(2,1),(3,1),(4,1)],true,false⟩:=by kernel_rfl
theorem ty117:tyI Tryz.prog 117 = ⟨true,true,5,[.sc (.int .i64 0),.sc (.int .i64 0),.nil,.nil,.nil],false,false,false,0,0,[],false,[(0,1,some false),(1,1,some false),(2,1,some false),(3,1,some false),(4,1,some false)],[(0,1),(1,1),(2,1),(3,1),(4,1)],true,false⟩:=by kernel_rfl
theorem ty121:tyI Tryz.prog 121 = ⟨true,false,1,[.sc (.pointer none)],false,false,true,0,0,[],false,[],[],false,false⟩:=by kernel_rfl
theorem ty124:tyI Tryz.prog 124 = ⟨true,false,1,[.sc (.pointer none)],false,false,true,0,0,[],false,[],[],false,false⟩:=by kernel_rfl
theorem ty125:tyI Tryz.prog 125 = ⟨true,false,1,[.nil],true,false,false,2,16,[.sc (.int .i64 0),.sc (.int .i64 0)],true,[],[],false,false⟩:=by kernel_rfl
theorem ty128:tyI Tryz.prog 128 = ⟨true,false,1,[.nil],true,false,false,1,24,[.nil],true,[],[],false,false⟩:=by kernel_rfl
theorem ty130:tyI Tryz.prog 130 = ⟨true,true,2,[.sc (.int .i64 0),.sc (.int .i64 0)],false,false,false,0,0,[],false,[(0,1,some false),(1,1,some false)],[(0,1),(1,1)],true,false⟩:=by kernel_rfl
theorem ty131:tyI Tryz.prog 131 = ⟨true,true,2,[.sc (.int .i64 0),.sc (.int .i64 0)],false,false,false,0,0,[],false,[(0,1,some false),(1,1,some false)],[(0,1),(1,1)],true,false⟩:=by kernel_rfl
theorem ty133:tyI Tryz.prog 133 = ⟨true,true,2,[.sc (.bool false),.nil],false,false,false,0,0,[],false,[(0,1,some false),(1,1,some false)],[(0,1),(1,1)],true,false⟩:=by kernel_rfl
theorem ty134:tyI Tryz.prog 134 = ⟨true,true,2,[.sc (.bool false),.nil],false,false,false,0,0,[],false,[(0,1,some false),(1,1,some false)],[(0,1),(1,1)],true,false⟩:=by kernel_rfl
theorem ty135:tyI Tryz.prog 135 = ⟨true,true,3,[.sc (.bool false),.nil,.nil],false,false,false,0,0,[],false,[(0,2,some true),(2,1,some false)],[(0,2),(2,1)],true,false⟩:=by kernel_rfl
theorem ty136:tyI Tryz.prog 136 = ⟨true,true,3,[.sc (.bool false),.nil,.nil],false,false,false,0,0,[],false,[(0,2,some true),(2,1,some false)],[(0,2),(2,1)],true,false⟩:=by kernel_rfl
theorem ty142:tyI Tryz.prog 142 = ⟨true,false,1,[.sc (.pointer none)],false,false,true,0,0,[],false,[],[],false,false⟩:=by kernel_rfl
theorem ty145:tyI Tryz.prog 145 = ⟨true,false,1,[.nil],true,false,false,1,24,[.nil],true,[],[],false,false⟩:=by kernel_rfl
theorem ty146:tyI Tryz.prog 146 = ⟨true,true,6,[.nil,.sc (.bool false),.nil,.nil,.sc (.int .i64 0),.nil],false,false,false,0,0,[],false,[(0,1,some false),(1,2,some true),(3,1,some false),(4,1,some false),(5,1,some false)],[(0,1),(1,2),(3,1),(4,1),(5,1)],true,false⟩:=by kernel_rfl
theorem ty147:tyI Tryz.prog 147 = ⟨true,true,6,[.nil,.sc (.bool false),.nil,.nil,.sc (.int .i64 0),.nil],false,false,false,0,0,[],false,[(0,1,some false),(1,2,some true),(3,1,some false),(4,1,some false),(5,1,some false)],[(0,1),(1,2),(3,1),(4,1),(5,1)],true,false⟩:=by kernel_rfl
theorem ty150:tyI Tryz.prog 150 = ⟨true,false,1,[.nil],true,false,false,2,32,[.sc (.bool false),.nil],true,[],[],false,false⟩:=by kernel_rfl
theorem ty155:tyI Tryz.prog 155 = ⟨true,true,3,[.sc (.bool false),.nil,.nil],false,false,false,0,0,[],false,[(0,2,some true),(2,1,some false)],[(0,2),(2,1)],true,false⟩:=by kernel_rfl
theorem ty156:tyI Tryz.prog 156 = ⟨true,true,3,[.sc (.bool false),.nil,.nil],false,false,false,0,0,[],false,[(0,2,some true),(2,1,some false)],[(0,2),(2,1)],true,false⟩:=by kernel_rfl
theorem ty182:tyI Tryz.prog 182 = ⟨true,true,4,[.sc (.pointer none),.sc (.pointer none),.sc (.pointer none),.sc (.string ByteArray.empty)],false,false,false,0,0,[],false,[(0,1,some false),(1,1,some false),(2,1,some false),(3,1,some false)],[(0,1),(1,1),(2,1),(3,1)],true,false⟩:=by kernel_rfl
theorem ty184:tyI Tryz.prog 184 = ⟨true,true,0,[],false,false,false,0,0,[],false,[],[],false,false⟩:=by kernel_rfl
theorem ty185:tyI Tryz.prog 185 = ⟨true,true,0,[],false,false,false,0,0,[],false,[(0,0,some true)],[(0,0)],true,false⟩:=by kernel_rfl
theorem ty190:tyI Tryz.prog 190 = ⟨true,false,1,[.sc (.pointer none)],false,false,true,0,0,[],false,[],[],false,false⟩:=by kernel_rfl
attribute [go_sem] ty2 ty3 ty4 ty5 ty7 ty9 ty12 ty13 ty21 ty22 ty23 ty24 ty25 ty26 ty31 ty40 ty42 ty43 ty44 ty45 ty46 ty47 ty50 ty51 ty57 ty64 ty65 ty69 ty71 ty72 ty86 ty87 ty88 ty89 ty98 ty101 ty104 ty113 ty116 ty117 ty121 ty124 ty125 ty128 ty130 ty131 ty133 ty134 ty135 ty136 ty142 ty145 ty146 ty147 ty150 ty155 ty156 ty182 ty184 ty185 ty190
end Go.Proofs.YtoccmbjfkbemcaaGreat
namespace Go.Proofs.YtoccmbjfkbemcaaGreat
open Go Go.TV
def cloneG:List V→Store→Nat→Option (V × Store × Nat)
 | [.ts row len],σ,nx => if row.length = len∧len ≤ 17592186044000∧row.all isCell = true then (if len = 0 then some (.nil,σ,nx) else some (.rs nx 0 len,evBox σ nx row 1,nx + 1)) else none
 | _,_,_ => none
theorem clone_sound (args:List V) (σ:Store) (nx:Nat) (v:V) (σ':Store) (nx':Nat) (h:cloneG args σ nx = some (v,σ',nx')):SoundAt Tryz.prog 60 args σ nx v σ' nx':=by
 unfold cloneG at h
 split at h
 ·rename_i row len
  split at h
  ·rename_i hc
   obtain ⟨hl,hs,hcell⟩:=hc
   refine fork_sound (call:=fun _ _ _ _ => none) (conv:=fun _ => .imm) (fun _ _ _ _ _ _ _ h => by cases h) (by kernel_rfl) Tryz.func60 rfl Tryz.underlying31 (n:=0) (by kernel_rfl) (st1:=⟨upd (argsT [.ts row len]) 2 .nil,σ,nx⟩) (T2:=upd (upd (argsT [.ts row len]) 2 .nil) 3 (.ts row len)) (v1:=.ts row len) (row:=row) (len:=len) (vs:=[v]) ?_ rfl ?_ rfl ?_ ?_
   ·rfl
   ·rfl
   ·rfl
   ·intro b hb
    cases b with
    | true =>
     have hr:=hb rfl
     subst hr
     have hz:len = 0:=by simpa using hl.symm
     subst hz
     simp only [if_true,Option.some.injEq,Prod.mk.injEq] at h
     obtain ⟨rfl,rfl,rfl⟩:=h
     exact ⟨.ret,_,rfl,.inr rfl,rfl,rfl,rfl⟩
    | false =>
     by_cases hz:len = 0
     ·subst hz
      have hr:row = []:=List.eq_nil_of_length_eq_zero hl
      subst hr
      simp only [if_true,Option.some.injEq,Prod.mk.injEq] at h
      obtain ⟨rfl,rfl,rfl⟩:=h
      refine ⟨.ret,?_,?_,.inr rfl,?_,?_,?_⟩
      ·exact ⟨upd (upd (upd (upd (upd (upd (upd (upd (argsT [.ts [] 0]) 2 .nil) 3 (.ts [] 0)) 4 (.sc (.bool false))) 5 .nil) 6 (.ts [] 0)) 7 .nil) 2 .nil) 2 .nil,σ,nx⟩
      ·simp only [evCode,go_sem]
      ·rfl
      ·rfl
      ·rfl
     ·rw [if_neg hz] at h
      simp only [Option.some.injEq,Prod.mk.injEq] at h
      obtain ⟨rfl,rfl,rfl⟩:=h
      have q1:len ≤ maxLen∧len * 8 ≤ 140737488355328:=by unfold maxLen; omega
      refine ⟨.ret,?_,?_,.inr rfl,?_,?_,?_⟩
      ·exact ⟨upd (upd (upd (upd (upd (upd (upd (argsT [.ts row len]) 2 .nil) 3 (.ts row len)) 4 (.sc (.bool false))) 5 .nil) 6 (.ts row len)) 7 (.rs nx 0 len)) 2 (.rs nx 0 len),evBox σ nx row 1,nx + 1⟩
      ·simp only [evCode,go_sem,hl,hz,q1]
      ·rfl
      ·rfl
      ·rfl
  ·cases h
 ·cases h
def ext:Ext:=fun f => if f = 60 then some cloneG else none
theorem extOk:ExtOk Tryz.prog ext:=fun f g h args σ nx v σ' nx' hg => by
 unfold ext at h
 split at h
 ·rename_i hf
  subst hf
  cases h
  exact clone_sound args σ nx v σ' nx' hg
 ·cases h
theorem iClone (xs:List Int) (h:xs.length ≤ 17592186044000):fn Tryz.prog conv ext 60 [LI xs] = some (LI xs):=by
 have hg:cloneG [LI xs] noStore 0 = if xs.length = 0 then some (.nil,noStore,0) else some (.rs 0 0 xs.length,evBox noStore 0 (xs.flatMap cI) 1,0 + 1):=by
  show (if (xs.flatMap cI).length = xs.length∧xs.length ≤ 17592186044000∧(xs.flatMap cI).all isCell = true then _ else none) = _
  rw [if_pos ⟨cI_len xs,h,cI_cells xs⟩]
 rw [fn_eq,ev_ext (g:=cloneG) rfl,hg]
 by_cases hz:xs.length = 0
 ·rw [if_pos hz]
  have:xs = []:=List.eq_nil_of_length_eq_zero hz
  subst this
  (simp only [go_sem]) <;> rfl
 ·rw [if_neg hz]
  simp only [go_sem]
end Go.Proofs.YtoccmbjfkbemcaaGreat
namespace Go.Proofs.YtoccmbjfkbemcaaGreat
open Go Go.TV
theorem u4:Tryz.prog.underlying 4 = some .bool:=Tryz.underlying4
attribute [go_sem] u4
end Go.Proofs.YtoccmbjfkbemcaaGreat
namespace Go.Proofs.YtoccmbjfkbemcaaGreat
open Go Go.TV
def ix {α:Type} (p:α→Bool) (xs:List α):Int:=if xs.findIdx p < xs.length then xs.findIdx p else -1
theorem ix_at {α:Type} {p:α→Bool} {xs:List α} {k:Nat} (hk:k < xs.length) (hl:∀ i (h:i < xs.length),i < k→p xs[i] = false) (h:p xs[k] = true):ix p xs = k:=by
 have:xs.findIdx p = k:=(List.findIdx_eq hk).mpr ⟨h,fun j hj => hl j (by omega) hj⟩
 unfold ix
 rw [this,if_pos hk]
theorem ix_none {α:Type} {p:α→Bool} {xs:List α} (hl:∀ i (h:i < xs.length),p xs[i] = false):ix p xs = -1:=by
 have:xs.findIdx p = xs.length:=List.findIdx_eq_length.mpr fun x hx => by
  obtain ⟨i,hi,rfl⟩:=List.getElem_of_mem hx
  exact hl i hi
 unfold ix
 rw [this,if_neg (Nat.lt_irrefl _)]
theorem ix_step {α:Type} {p:α→Bool} {xs:List α} {k:Nat} (hk:k < xs.length) (hl:∀ i (h:i < xs.length),i < k→p xs[i] = false) (h:p xs[k] = false):∀ i (h:i < xs.length),i < k + 1→p xs[i] = false:=by
 intro i hi hik
 rcases Nat.lt_or_eq_of_le (Nat.le_of_lt_succ hik) with h1 | h1
 ·exact hl i hi h1
 ·subst h1; exact h
theorem indexStance (xs:List Stance) (c:V) (g:FuncId) (p:Stance→Bool) (t:V) (h:xs.length ≤ maxLen) (hc:conv g = .imm) (ht:strip noStore 7 t = some (t,[])) (hg:∀ x ∈ xs,fn Tryz.prog conv ext g [.agg (cStance x),t] = some (Bo (p x))) :
  fn Tryz.prog conv ext 32 [LL cStance xs,.clo g [t]] = some (I (ix p xs)):=by
 have e2:(xs.length:Int) ≤ 9223372036854775807:=by unfold maxLen at h; omega
 rw [fn_eq,ev_eqQ (rs:=[.tmp 4]) [] rfl Tryz.func32 rfl rfl (by kernel_rfl) (by kernel_rfl)]
 simp only [go_sem]
 generalize hL:evLoopI _ _ = y
 obtain ⟨r,rfl,hr⟩:=count_rule hL xs.length (fun k st => st.nx = 0∧st.σ = noStore∧st.T 0 = LL cStance xs∧st.T 1 = .clo g [t]∧st.T 7 = I xs.length∧st.T 8 = I k∧∀ i (h:i < xs.length),i < k→p xs[i] = false)
  (fun r => (∃ T,r = (.exit 0,⟨T,noStore,0⟩)∧ix p xs = -1)∨(∃ T,r = (.ret,⟨T,noStore,0⟩)∧T 4 = I (ix p xs))) (by
   clear hL
   rintro k ⟨T,σ,nx⟩ hlt ⟨hn,hσ,h0,h1,h7,h8,hi⟩
   simp only at hn hσ h0 h1 h7 h8
   subst hn hσ
   have f1:(k:Int) < (xs.length:Int):=by omega
   have f2:(0:Int) ≤ (k:Int):=by omega
   have f3:=wrap_id (n:=(k:Int) + 1) (by omega) (by omega)
   have f4:=slot (c:=cStance) (s:=5) (fun _ => rfl) xs k hlt
   have f5:=slots_len (c:=cStance) (s:=5) (fun _ => rfl) xs
   have f6:k * 5 + 5 ≤ xs.length * 5:=by omega
   have f9:=slot_ne (c:=cStance) (s:=5) (fun _ => rfl) (by omega) xs k hlt
   have f10:=hg xs[k] (List.getElem_mem hlt)
   cases hp:p xs[k] with
   | true =>
    rw [hp] at f10
    refine .inr ⟨_,by simp only [go_sem,h0,h1,h7,h8,f1,f2,f4,f5,f6,f9,f10,hc,ht]; rfl,by simp,.inr ⟨_,rfl,?_⟩⟩
    simp only [go_sem]
    rw [ix_at hlt hi hp]
   | false =>
    rw [hp] at f10
    refine .inl ⟨_,by simp only [go_sem,h0,h1,h7,h8,f1,f2,f3,f4,f5,f6,f9,f10,hc,ht]; rfl,?_⟩
    simp only [go_sem,h0,h1,h7]
    exact ⟨rfl,ix_step hlt hi hp⟩) (by
   clear hL
   rintro ⟨T,σ,nx⟩ ⟨hn,hσ,h0,h1,h7,h8,hi⟩
   simp only at hn hσ h0 h1 h7 h8
   subst hn hσ
   exact ⟨_,by simp only [go_sem,h7,h8,Int.lt_irrefl]; rfl,by simp,.inl ⟨_,rfl,ix_none fun i h => hi i h h⟩⟩) (by
   simp only [go_sem]
   exact fun i _ h => absurd h (Nat.not_lt_zero _))
 rcases hr with ⟨T,rfl,h1⟩ | ⟨T,rfl,h1⟩
 ·simp only [go_sem,h1]
 ·simp only [go_sem,h1]
theorem indexJoint (xs:List Joint) (c:V) (g:FuncId) (p:Joint→Bool) (t:V) (h:xs.length ≤ maxLen) (hc:conv g = .imm) (ht:strip noStore 7 t = some (t,[])) (hg:∀ x ∈ xs,fn Tryz.prog conv ext g [.agg (cJoint x),t] = some (Bo (p x))) :
  fn Tryz.prog conv ext 65 [LL cJoint xs,.clo g [t]] = some (I (ix p xs)):=by
 have e2:(xs.length:Int) ≤ 9223372036854775807:=by unfold maxLen at h; omega
 rw [fn_eq,ev_eqQ (rs:=[.tmp 4]) [] rfl Tryz.func65 rfl rfl (by kernel_rfl) (by kernel_rfl)]
 simp only [go_sem]
 generalize hL:evLoopI _ _ = y
 obtain ⟨r,rfl,hr⟩:=count_rule hL xs.length (fun k st => st.nx = 0∧st.σ = noStore∧st.T 0 = LL cJoint xs∧st.T 1 = .clo g [t]∧st.T 7 = I xs.length∧st.T 8 = I k∧∀ i (h:i < xs.length),i < k→p xs[i] = false)
  (fun r => (∃ T,r = (.exit 0,⟨T,noStore,0⟩)∧ix p xs = -1)∨(∃ T,r = (.ret,⟨T,noStore,0⟩)∧T 4 = I (ix p xs))) (by
   clear hL
   rintro k ⟨T,σ,nx⟩ hlt ⟨hn,hσ,h0,h1,h7,h8,hi⟩
   simp only at hn hσ h0 h1 h7 h8
   subst hn hσ
   have f1:(k:Int) < (xs.length:Int):=by omega
   have f2:(0:Int) ≤ (k:Int):=by omega
   have f3:=wrap_id (n:=(k:Int) + 1) (by omega) (by omega)
   have f4:=slot (c:=cJoint) (s:=4) (fun _ => rfl) xs k hlt
   have f5:=slots_len (c:=cJoint) (s:=4) (fun _ => rfl) xs
   have f6:k * 4 + 4 ≤ xs.length * 4:=by omega
   have f9:=slot_ne (c:=cJoint) (s:=4) (fun _ => rfl) (by omega) xs k hlt
   have f10:=hg xs[k] (List.getElem_mem hlt)
   cases hp:p xs[k] with
   | true =>
    rw [hp] at f10
    refine .inr ⟨_,by simp only [go_sem,h0,h1,h7,h8,f1,f2,f4,f5,f6,f9,f10,hc,ht]; rfl,by simp,.inr ⟨_,rfl,?_⟩⟩
    simp only [go_sem]
    rw [ix_at hlt hi hp]
   | false =>
    rw [hp] at f10
    refine .inl ⟨_,by simp only [go_sem,h0,h1,h7,h8,f1,f2,f3,f4,f5,f6,f9,f10,hc,ht]; rfl,?_⟩
    simp only [go_sem,h0,h1,h7]
    exact ⟨rfl,ix_step hlt hi hp⟩) (by
   clear hL
   rintro ⟨T,σ,nx⟩ ⟨hn,hσ,h0,h1,h7,h8,hi⟩
   simp only at hn hσ h0 h1 h7 h8
   subst hn hσ
   exact ⟨_,by simp only [go_sem,h7,h8,Int.lt_irrefl]; rfl,by simp,.inl ⟨_,rfl,ix_none fun i h => hi i h h⟩⟩) (by
   simp only [go_sem]
   exact fun i _ h => absurd h (Nat.not_lt_zero _))
 rcases hr with ⟨T,rfl,h1⟩ | ⟨T,rfl,h1⟩
 ·simp only [go_sem,h1]
 ·simp only [go_sem,h1]
theorem indexMember (xs:List Member) (c:V) (g:FuncId) (p:Member→Bool) (t:V) (h:xs.length ≤ maxLen) (hc:conv g = .imm) (ht:strip noStore 7 t = some (t,[])) (hg:∀ x ∈ xs,fn Tryz.prog conv ext g [.agg (cMember x),t] = some (Bo (p x))) :
  fn Tryz.prog conv ext 67 [LL cMember xs,.clo g [t]] = some (I (ix p xs)):=by
 have e2:(xs.length:Int) ≤ 9223372036854775807:=by unfold maxLen at h; omega
 rw [fn_eq,ev_eqQ (rs:=[.tmp 4]) [] rfl Tryz.func67 rfl rfl (by kernel_rfl) (by kernel_rfl)]
 simp only [go_sem]
 generalize hL:evLoopI _ _ = y
 obtain ⟨r,rfl,hr⟩:=count_rule hL xs.length (fun k st => st.nx = 0∧st.σ = noStore∧st.T 0 = LL cMember xs∧st.T 1 = .clo g [t]∧st.T 7 = I xs.length∧st.T 8 = I k∧∀ i (h:i < xs.length),i < k→p xs[i] = false)
  (fun r => (∃ T,r = (.exit 0,⟨T,noStore,0⟩)∧ix p xs = -1)∨(∃ T,r = (.ret,⟨T,noStore,0⟩)∧T 4 = I (ix p xs))) (by
   clear hL
   rintro k ⟨T,σ,nx⟩ hlt ⟨hn,hσ,h0,h1,h7,h8,hi⟩
   simp only at hn hσ h0 h1 h7 h8
   subst hn hσ
   have f1:(k:Int) < (xs.length:Int):=by omega
   have f2:(0:Int) ≤ (k:Int):=by omega
   have f3:=wrap_id (n:=(k:Int) + 1) (by omega) (by omega)
   have f4:=slot (c:=cMember) (s:=3) (fun _ => rfl) xs k hlt
   have f5:=slots_len (c:=cMember) (s:=3) (fun _ => rfl) xs
   have f6:k * 3 + 3 ≤ xs.length * 3:=by omega
   have f9:=slot_ne (c:=cMember) (s:=3) (fun _ => rfl) (by omega) xs k hlt
   have f10:=hg xs[k] (List.getElem_mem hlt)
   cases hp:p xs[k] with
   | true =>
    rw [hp] at f10
    refine .inr ⟨_,by simp only [go_sem,h0,h1,h7,h8,f1,f2,f4,f5,f6,f9,f10,hc,ht]; rfl,by simp,.inr ⟨_,rfl,?_⟩⟩
    simp only [go_sem]
    rw [ix_at hlt hi hp]
   | false =>
    rw [hp] at f10
    refine .inl ⟨_,by simp only [go_sem,h0,h1,h7,h8,f1,f2,f3,f4,f5,f6,f9,f10,hc,ht]; rfl,?_⟩
    simp only [go_sem,h0,h1,h7]
    exact ⟨rfl,ix_step hlt hi hp⟩) (by
   clear hL
   rintro ⟨T,σ,nx⟩ ⟨hn,hσ,h0,h1,h7,h8,hi⟩
   simp only at hn hσ h0 h1 h7 h8
   subst hn hσ
   exact ⟨_,by simp only [go_sem,h7,h8,Int.lt_irrefl]; rfl,by simp,.inl ⟨_,rfl,ix_none fun i h => hi i h h⟩⟩) (by
   simp only [go_sem]
   exact fun i _ h => absurd h (Nat.not_lt_zero _))
 rcases hr with ⟨T,rfl,h1⟩ | ⟨T,rfl,h1⟩
 ·simp only [go_sem,h1]
 ·simp only [go_sem,h1]
theorem indexInt (xs:List Int) (c:V) (g:FuncId) (p:Int→Bool) (h:xs.length ≤ maxLen) (hc:conv g = .imm) (hg:∀ x ∈ xs,fn Tryz.prog conv ext g [I x] = some (Bo (p x))) :
  fn Tryz.prog conv ext 57 [LI xs,.clo g []] = some (I (ix p xs)):=by
 have e2:(xs.length:Int) ≤ 9223372036854775807:=by unfold maxLen at h; omega
 rw [fn_eq,ev_eqQ (rs:=[.tmp 4]) [] rfl Tryz.func57 rfl rfl (by kernel_rfl) (by kernel_rfl)]
 simp only [go_sem]
 generalize hL:evLoopI _ _ = y
 obtain ⟨r,rfl,hr⟩:=count_rule hL xs.length (fun k st => st.nx = 0∧st.σ = noStore∧st.T 0 = LI xs∧st.T 1 = .clo g []∧st.T 7 = I xs.length∧st.T 8 = I k∧∀ i (h:i < xs.length),i < k→p xs[i] = false)
  (fun r => (∃ T,r = (.exit 0,⟨T,noStore,0⟩)∧ix p xs = -1)∨(∃ T,r = (.ret,⟨T,noStore,0⟩)∧T 4 = I (ix p xs))) (by
   clear hL
   rintro k ⟨T,σ,nx⟩ hlt ⟨hn,hσ,h0,h1,h7,h8,hi⟩
   simp only at hn hσ h0 h1 h7 h8
   subst hn hσ
   have f1:(k:Int) < (xs.length:Int):=by omega
   have f2:(0:Int) ≤ (k:Int):=by omega
   have f3:=wrap_id (n:=(k:Int) + 1) (by omega) (by omega)
   have f4:(xs.flatMap cI)[k]? = some (I xs[k]):=slot1 I xs k hlt
   have f9:=slot_ne (c:=cI) (s:=1) (fun _ => rfl) (by omega) xs k hlt
   have f10:=hg xs[k] (List.getElem_mem hlt)
   cases hp:p xs[k] with
   | true =>
    rw [hp] at f10
    refine .inr ⟨_,by simp only [go_sem,h0,h1,h7,h8,f1,f2,f4,f9,f10,hc]; rfl,by simp,.inr ⟨_,rfl,?_⟩⟩
    simp only [go_sem]
    rw [ix_at hlt hi hp]
   | false =>
    rw [hp] at f10
    refine .inl ⟨_,by simp only [go_sem,h0,h1,h7,h8,f1,f2,f3,f4,f9,f10,hc]; rfl,?_⟩
    simp only [go_sem,h0,h1,h7]
    exact ⟨rfl,ix_step hlt hi hp⟩) (by
   clear hL
   rintro ⟨T,σ,nx⟩ ⟨hn,hσ,h0,h1,h7,h8,hi⟩
   simp only at hn hσ h0 h1 h7 h8
   subst hn hσ
   exact ⟨_,by simp only [go_sem,h7,h8,Int.lt_irrefl]; rfl,by simp,.inl ⟨_,rfl,ix_none fun i h => hi i h h⟩⟩) (by
   simp only [go_sem]
   exact fun i _ h => absurd h (Nat.not_lt_zero _))
 rcases hr with ⟨T,rfl,h1⟩ | ⟨T,rfl,h1⟩
 ·simp only [go_sem,h1]
 ·simp only [go_sem,h1]
theorem ix_lt {α:Type} (p:α→Bool) (xs:List α):ix p xs < 0 ↔ ∀ x ∈ xs,p x = false:=by
 unfold ix
 by_cases h:xs.findIdx p < xs.length
 ·rw [if_pos h]
  refine ⟨fun h2 => absurd h2 (by omega),fun h2 => ?_⟩
  have:=List.findIdx_eq_length.mpr h2
  omega
 ·rw [if_neg h]
  exact ⟨fun _ => List.findIdx_eq_length.mp (Nat.le_antisymm (List.findIdx_le_length) (by omega)),fun _ => by omega⟩
theorem hasMember (xs:List Member) (g:FuncId) (p:Member→Bool) (t:V) (h:xs.length ≤ maxLen) (hc:conv g = .imm) (ht:strip noStore 7 t = some (t,[])) (ht6:strip noStore 6 t = some (t,[])) (hg:∀ x ∈ xs,fn Tryz.prog conv ext g [.agg (cMember x),t] = some (Bo (p x))) :
  fn Tryz.prog conv ext 52 [LL cMember xs,.clo g [t]] = some (Bo (decide (0 ≤ ix p xs))):=by
 have h1:=indexMember xs (.clo g [t]) g p t h hc ht hg
 rw [fn_eq,ev_eqQ (rs:=[.tmp 4]) [] rfl Tryz.func52 rfl rfl (by kernel_rfl) (by kernel_rfl)]
 simp only [go_sem,h1,ht,ht6]
theorem hasInt (xs:List Int) (g:FuncId) (p:Int→Bool) (h:xs.length ≤ maxLen) (hc:conv g = .imm) (hg:∀ x ∈ xs,fn Tryz.prog conv ext g [I x] = some (Bo (p x))) :
  fn Tryz.prog conv ext 44 [LI xs,.clo g []] = some (Bo (decide (0 ≤ ix p xs))):=by
 have h1:=indexInt xs (.clo g []) g p h hc hg
 rw [fn_eq,ev_eqQ (rs:=[.tmp 4]) [] rfl Tryz.func44 rfl rfl (by kernel_rfl) (by kernel_rfl)]
 simp only [go_sem,h1]
end Go.Proofs.YtoccmbjfkbemcaaGreat
namespace Go.Proofs.YtoccmbjfkbemcaaGreat
open Go Go.TV
noncomputable def pb (p:Prop):Bool:=@decide p (Classical.propDecidable p)
theorem pb_true {p:Prop} (h:p):pb p = true:=by unfold pb; exact (@decide_eq_true_iff p (Classical.propDecidable p)).mpr h
theorem pb_false {p:Prop} (h:¬p):pb p = false:=by unfold pb; exact (@decide_eq_false_iff_not p (Classical.propDecidable p)).mpr h
theorem pb_eq {p:Prop} {b:Bool} (h:b = true ↔ p):b = pb p:=by
 cases b with
 | true => exact (pb_true (h.mp rfl)).symm
 | false => exact (pb_false (fun hp => by cases h.mpr hp)).symm
theorem of_pb {p:Prop} (h:pb p = true):p:=by
 unfold pb at h
 exact (@decide_eq_true_iff p (Classical.propDecidable p)).mp h
def inB (n a b:Int):Bool:=decide (a ≤ n) && decide (n ≤ b)
theorem isForce (n:Int):fn Tryz.prog conv ext 56 [I n] = some (Bo (inB n (-100) 100)):=by
 unfold inB
 rw [fn_eq,ev_eqQ (rs:=[.tmp 2]) [] rfl Tryz.func56 rfl rfl (by kernel_rfl) (by kernel_rfl)]
 by_cases h:-100 ≤ n <;> simp only [go_sem,h]
theorem isLimit (n:Int):fn Tryz.prog conv ext 46 [I n] = some (Bo (inB n (0) 1000)):=by
 unfold inB
 rw [fn_eq,ev_eqQ (rs:=[.tmp 2]) [] rfl Tryz.func46 rfl rfl (by kernel_rfl) (by kernel_rfl)]
 by_cases h:0 ≤ n <;> simp only [go_sem,h]
theorem isPlace (n:Int):fn Tryz.prog conv ext 64 [I n] = some (Bo (inB n (-50) 50)):=by
 unfold inB
 rw [fn_eq,ev_eqQ (rs:=[.tmp 2]) [] rfl Tryz.func64 rfl rfl (by kernel_rfl) (by kernel_rfl)]
 by_cases h:-50 ≤ n <;> simp only [go_sem,h]
def letterB (b:UInt8):Bool:=decide (97 ≤ (b.toNat:Int)) && decide ((b.toNat:Int) ≤ 122)
def digitB (b:UInt8):Bool:=decide (48 ≤ (b.toNat:Int)) && decide ((b.toNat:Int) ≤ 57)
theorem isLetter (b:UInt8):fn Tryz.prog conv ext 40 [.sc (.int .u8 b.toNat)] = some (Bo (letterB b)):=by
 unfold letterB
 rw [fn_eq,ev_eqQ (rs:=[.tmp 2]) [] rfl Tryz.func40 rfl rfl (by kernel_rfl) (by kernel_rfl)]
 by_cases h:97 ≤ (b.toNat:Int) <;> simp only [go_sem,h]
theorem isDigit (b:UInt8):fn Tryz.prog conv ext 41 [.sc (.int .u8 b.toNat)] = some (Bo (digitB b)):=by
 unfold digitB
 rw [fn_eq,ev_eqQ (rs:=[.tmp 2]) [] rfl Tryz.func41 rfl rfl (by kernel_rfl) (by kernel_rfl)]
 by_cases h:48 ≤ (b.toNat:Int) <;> simp only [go_sem,h]
def charOk (k:Nat) (b:UInt8):Prop:=letterB b = true∨(k ≠ 0∧digitB b = true)
def NameOk (s:ByteArray):Prop:=(∀ k b,s[k]? = some b→charOk k b)∧1 ≤ s.size∧s.size ≤ 8
theorem ba_get {s:ByteArray} {k:Nat} (h:k < s.size):∃ b,s[k]? = some b:=⟨s[k],by simp [h]⟩
theorem ba_none {s:ByteArray} {k:Nat} {b:UInt8} (h:s[k]? = some b):k < s.size:=by
 by_cases hk:k < s.size
 ·exact hk
 ·simp [hk] at h
theorem nameOk_all {s:ByteArray} (h:∀ i b,s[i]? = some b→charOk i b):pb (NameOk s) = inB s.size 1 8:=by
 unfold inB
 by_cases h1:(1:Int) ≤ s.size
 ·by_cases h2:(s.size:Int) ≤ 8
  ·rw [pb_true ⟨h,by omega,by omega⟩,decide_eq_true h1,decide_eq_true h2]; rfl
  ·rw [pb_false (fun hn => h2 (by have:=hn.2.2; omega)),decide_eq_true h1,decide_eq_false h2]; rfl
 ·rw [pb_false (fun hn => h1 (by have:=hn.2.1; omega)),decide_eq_false h1]; rfl
theorem charOk_step {s:ByteArray} {k:Nat} {b:UInt8} (hi:∀ i b,i < k→s[i]? = some b→charOk i b) (hb:s[k]? = some b) (h:charOk k b):∀ i b,i < k + 1→s[i]? = some b→charOk i b:=by
 intro i c hik hc
 rcases Nat.lt_or_eq_of_le (Nat.le_of_lt_succ hik) with h1 | h1
 ·exact hi i c h1 hc
 ·subst h1
  rw [hb] at hc
  cases hc
  exact h
theorem not_charOk {k:Nat} {b:UInt8} (h1:letterB b = false) (h2:k = 0∨digitB b = false):¬charOk k b:=by
 rintro (h | ⟨h,h'⟩)
 ·rw [h1] at h; cases h
 ·rcases h2 with h2 | h2
  ·exact h h2
  ·rw [h2] at h'; cases h'
theorem toList_empty (s:ByteArray):(s.toList == ({ data:=#[] }:ByteArray).toList) = decide (s.size = 0):=by
 have e:(s.toList = []) = (s.size = 0):=by
  rw [ByteArray.toList_eq]
  refine propext ⟨fun h => ?_,fun h => List.eq_nil_of_length_eq_zero (by rw [Array.length_toList]; exact h)⟩
  have:=congrArg List.length h
  rw [Array.length_toList] at this
  exact this
 have e0:({ data:=#[] }:ByteArray).toList = []:=ByteArray.toList_mk []
 rw [e0]
 by_cases h:s.size = 0
 ·rw [e.mpr h,decide_eq_true h]; rfl
 ·rw [decide_eq_false h]
  cases hl:s.toList with
  | nil => exact absurd (e.mp hl) h
  | cons a l => rfl
theorem iIsName (s:ByteArray) (hs:okS s):fn Tryz.prog conv ext 29 [Sg s] = some (Bo (pb (NameOk s))):=by
 have e2:(s.size:Int) ≤ 9223372036854775807:=by unfold okS at hs; omega
 rw [fn_eq,ev_eqQ (rs:=[.tmp 2]) [] rfl Tryz.func29 rfl rfl (by kernel_rfl) (by kernel_rfl)]
 simp only [go_sem]
 generalize hL:evLoopI _ _ = y
 obtain ⟨r,rfl,hr⟩:=count_rule hL s.size (fun k st => st.nx = 0∧st.σ = noStore∧st.T 0 = Sg s∧st.T 5 = I s.size∧st.T 6 = I k∧∀ i b,i < k→s[i]? = some b→charOk i b)
  (fun r => (∃ T,r = (.exit 0,⟨T,noStore,0⟩)∧T 0 = Sg s∧∀ i b,s[i]? = some b→charOk i b)∨(∃ T,r = (.ret,⟨T,noStore,0⟩)∧T 2 = Bo false∧¬NameOk s)) (by
   clear hL
   rintro k ⟨T,σ,nx⟩ hlt ⟨hn,hσ,h0,h5,h3,hi⟩
   simp only at hn hσ h0 h5 h3
   subst hn hσ
   have f1:(k:Int) < (s.size:Int):=by omega
   have f2:(0:Int) ≤ (k:Int):=by omega
   have f3:=wrap_id (n:=(k:Int) + 1) (by omega) (by omega)
   obtain ⟨b,f4⟩:=ba_get hlt
   have no:¬charOk k b→¬NameOk s:=fun h hn => h (hn.1 k b f4)
   have g1:=isLetter b
   have g2:=isDigit b
   cases hl:letterB b with
   | true =>
    rw [hl] at g1
    refine .inl ⟨_,by simp only [go_sem,h0,h3,h5,f1,f2,f3,f4,g1]; rfl,?_⟩
    simp only [go_sem,h0,h5]
    exact ⟨rfl,charOk_step hi f4 (.inl hl)⟩
   | false =>
    rw [hl] at g1
    by_cases hz:k = 0
    ·have f0:((k:Int) == 0) = true:=by subst hz; rfl
     exact .inr ⟨_,by simp only [go_sem,h0,h3,h5,f1,f2,f4,g1,f0]; rfl,by simp,.inr ⟨_,rfl,by simp only [go_sem],no (not_charOk hl (.inl hz))⟩⟩
    ·have f0:((k:Int) == 0) = false:=by simpa using hz
     cases hd:digitB b with
     | true =>
      rw [hd] at g2
      refine .inl ⟨_,by simp only [go_sem,h0,h3,h5,f1,f2,f3,f4,g1,g2,f0]; rfl,?_⟩
      simp only [go_sem,h0,h5]
      exact ⟨rfl,charOk_step hi f4 (.inr ⟨hz,hd⟩)⟩
     | false =>
      rw [hd] at g2
      exact .inr ⟨_,by simp only [go_sem,h0,h3,h5,f1,f2,f4,g1,g2,f0]; rfl,by simp,.inr ⟨_,rfl,by simp only [go_sem],no (not_charOk hl (.inr hd))⟩⟩) (by
   clear hL
   rintro ⟨T,σ,nx⟩ ⟨hn,hσ,h0,h5,h3,hi⟩
   simp only at hn hσ h0 h5 h3
   subst hn hσ
   refine ⟨_,by simp only [go_sem,h0,h3,h5,Int.lt_irrefl]; rfl,by simp,.inl ⟨_,rfl,?_,fun i b h => hi i b (ba_none h) h⟩⟩
   simp only [go_sem,h0]) (by
   simp only [go_sem]
   exact fun i b h => absurd h (Nat.not_lt_zero _))
 rcases hr with ⟨T,rfl,h0,h1⟩ | ⟨T,rfl,h0,h1⟩
 ·have he:=toList_empty s
  rw [nameOk_all h1]
  unfold inB
  by_cases hz:s.size = 0
  ·have:¬(1:Int) ≤ s.size:=by omega
   rw [decide_eq_true hz] at he
   simp only [go_sem,h0,this,he]
  ·have:(1:Int) ≤ s.size:=by omega
   rw [decide_eq_false hz] at he
   simp only [go_sem,h0,this,he]
 ·simp only [go_sem,h0,pb_false h1]
end Go.Proofs.YtoccmbjfkbemcaaGreat
namespace Go.Proofs.YtoccmbjfkbemcaaGreat
open Go Go.TV
noncomputable def jointB (j:Joint):Bool:=pb (NameOk j.name) && (inB j.x (-50) 50 && inB j.y (-50) 50)
theorem iJointOk (j:Joint) (h:okJoint j):fn Tryz.prog conv ext 50 [.agg (cJoint j)] = some (Bo (jointB j)):=by
 have t1:=iIsName j.name h.1
 have t2:=isPlace j.x
 have t3:=isPlace j.y
 unfold jointB
 generalize pb (NameOk j.name) = b1 at *
 generalize inB j.x (-50) 50 = b2 at *
 generalize inB j.y (-50) 50 = b3 at *
 rw [fn_eq,ev_eqQ (rs:=[.tmp 2]) [] rfl Tryz.func50 rfl rfl (by kernel_rfl) (by kernel_rfl)]
 cases b1 <;> cases b2 <;> simp only [go_sem,t1,t2,t3]
abbrev isNamed (name:ByteArray) (s:Stance):Bool:=s.name.toList == name.toList
abbrev isNamedJ (name:ByteArray) (s:Joint):Bool:=s.name.toList == name.toList
theorem closeStanceNamed (name:ByteArray) (s:Stance):fn Tryz.prog conv ext 33 [.agg (cStance s),.tp [Sg name] 0] = some (Bo (isNamed name s)):=by
 rw [fn_eq,ev_eqQ (rs:=[.tmp 3]) [] rfl Tryz.func33 rfl rfl (by kernel_rfl) (by kernel_rfl)]
 simp only [go_sem]
theorem iStanceNamed (y:Yard) (name:ByteArray) (h:y.stances.length ≤ maxLen):fn Tryz.prog conv ext 17 [.agg (cYard y),Sg name] = some (I (ix (isNamed name) y.stances)):=by
 have h1:=indexStance y.stances (.tp [Sg name] 0) 33 (isNamed name) (.tp [Sg name] 0) h (by rfl) (by rfl) (fun x _ => closeStanceNamed name x)
 rw [fn_eq,ev_eqQ (rs:=[.tmp 4]) [] rfl Tryz.func17 rfl rfl (by kernel_rfl) (by kernel_rfl)]
 simp only [go_sem,h1]
theorem closeJointNamed (name:ByteArray) (s:Joint):fn Tryz.prog conv ext 66 [.agg (cJoint s),.tp [Sg name] 0] = some (Bo (isNamedJ name s)):=by
 rw [fn_eq,ev_eqQ (rs:=[.tmp 3]) [] rfl Tryz.func66 rfl rfl (by kernel_rfl) (by kernel_rfl)]
 simp only [go_sem]
theorem iJointNamed (y:Structure) (name:ByteArray) (h:y.joints.length ≤ maxLen):fn Tryz.prog conv ext 51 [.agg (cStructure y),Sg name] = some (I (ix (isNamedJ name) y.joints)):=by
 have h1:=indexJoint y.joints (.tp [Sg name] 0) 66 (isNamedJ name) (.tp [Sg name] 0) h (by rfl) (by rfl) (fun x _ => closeJointNamed name x)
 rw [fn_eq,ev_eqQ (rs:=[.tmp 4]) [] rfl Tryz.func51 rfl rfl (by kernel_rfl) (by kernel_rfl)]
 simp only [go_sem,h1]
def pairB (a b:Joint):Bool:=(!(a.x == b.x) || !(a.y == b.y)) && !(a.fixed && b.fixed)
def MemRange (n:Nat) (m:Member):Prop:=0 ≤ m.a∧m.a < n∧0 ≤ m.b∧m.b < n∧1 ≤ m.kind∧m.kind ≤ 3
noncomputable def memB (js:List Joint) (m:Member):Bool:=pb (MemRange js.length m∧∀ a b,js[m.a.toNat]? = some a→js[m.b.toNat]? = some b→pairB a b = true)
theorem memB_no {js:List Joint} {m:Member} (h:¬MemRange js.length m):memB js m = false:=pb_false fun hn => h hn.1
theorem memB_pair {js:List Joint} {m:Member} (h:MemRange js.length m) {a b:Joint} (ha:js[m.a.toNat]? = some a) (hb:js[m.b.toNat]? = some b):memB js m = pairB a b:=by
 refine (pb_eq ⟨fun hp => ⟨h,fun c d hc hd => ?_⟩,fun hn => hn.2 a b ha hb⟩).symm
 rw [ha] at hc; rw [hb] at hd; cases hc; cases hd; exact hp
set_option maxRecDepth 100000 in
theorem imemberOk (row:List V) (off:Nat) (js:List Joint) (m:Member) (hr:row[off]? = some (LL cJoint js)) (hl:js.length ≤ maxLen):fn Tryz.prog conv ext 54 [.tp row off,.agg (cMember m)] = some (Bo (memB js m)):=by
 rw [fn_eq,ev_eqQ (rs:=[.tmp 4]) [4] rfl Tryz.func54 rfl rfl (by kernel_rfl) (by kernel_rfl)]
 by_cases c1:m.a < 0
 ·rw [memB_no (fun h => by have:=h.1; omega)]
  simp only [go_sem,hr,c1]
 by_cases c2:(js.length:Int) ≤ m.a
 ·rw [memB_no (fun h => by have:=h.2.1; omega)]
  simp only [go_sem,hr,c1,c2]
 by_cases c3:m.b < 0
 ·rw [memB_no (fun h => by have:=h.2.2.1; omega)]
  simp only [go_sem,hr,c1,c2,c3]
 by_cases c4:(js.length:Int) ≤ m.b
 ·rw [memB_no (fun h => by have:=h.2.2.2.1; omega)]
  simp only [go_sem,hr,c1,c2,c3,c4]
 by_cases c5:m.kind < 1
 ·rw [memB_no (fun h => by have:=h.2.2.2.2.1; omega)]
  simp only [go_sem,hr,c1,c2,c3,c4,c5]
 by_cases c6:3 < m.kind
 ·rw [memB_no (fun h => by have:=h.2.2.2.2.2; omega)]
  simp only [go_sem,hr,c1,c2,c3,c4,c5,c6]
 have a1:0 ≤ m.a:=by omega
 have a2:m.a < js.length:=by omega
 have b1:0 ≤ m.b:=by omega
 have b2:m.b < js.length:=by omega
 have a3:m.a.toNat < js.length:=by omega
 have b3:m.b.toNat < js.length:=by omega
 rw [memB_pair ⟨a1,a2,b1,b2,by omega,by omega⟩ (List.getElem?_eq_getElem a3) (List.getElem?_eq_getElem b3)]
 have f4:=slot (c:=cJoint) (s:=4) (fun _ => rfl) js _ a3
 have g4:=slot (c:=cJoint) (s:=4) (fun _ => rfl) js _ b3
 have f5:=slots_len (c:=cJoint) (s:=4) (fun _ => rfl) js
 have f6:m.a.toNat * 4 + 4 ≤ js.length * 4:=by omega
 have g6:m.b.toNat * 4 + 4 ≤ js.length * 4:=by omega
 have f9:=slot_ne (c:=cJoint) (s:=4) (fun _ => rfl) (by omega) js _ a3
 generalize js[m.a.toNat] = a at *
 generalize js[m.b.toNat] = b at *
 unfold pairB
 cases hx:(a.x == b.x) <;> cases hy:(a.y == b.y) <;> cases ha:a.fixed <;> cases hb:b.fixed <;>
  (simp only [go_sem,hr,c1,c2,c3,c4,c5,c6,a1,a2,b1,b2,f4,g4,f5,f6,g6,f9,hx,hy,ha,hb,bne]) <;> rfl
def StrOk (s:Structure):Prop:=s.joints.length ≤ 6∧s.members.length ≤ 8∧(∀ i (h:i < s.joints.length),jointB s.joints[i] = true∧ix (isNamedJ s.joints[i].name) s.joints = i)∧∀ m ∈ s.members,memB s.joints m = true
theorem closeStructureOk (s:Structure) (m:Member) (hl:s.joints.length ≤ maxLen):fn Tryz.prog conv ext 53 [.agg (cMember m),.tp (cStructure s) 0] = some (Bo (!memB s.joints m)):=by
 have h1:=imemberOk (cStructure s) 0 s.joints m rfl hl
 rw [fn_eq,ev_eqQ (rs:=[.tmp 3]) [] rfl Tryz.func53 rfl rfl (by kernel_rfl) (by kernel_rfl)]
 simp only [go_sem,h1]
theorem iStructureOk (s:Structure) (h:okStructure s):fn Tryz.prog conv ext 42 [.agg (cStructure s)] = some (Bo (pb (StrOk s))):=by
 have e2:(s.joints.length:Int) ≤ 9223372036854775807:=by have:=h.1.2.1; omega
 have hm:=hasMember s.members 53 (fun m => !memB s.joints m) (.tp (cStructure s) 0) h.2.2.2 (by rfl) (by rfl) (by rfl) (fun x _ => closeStructureOk s x h.1.2.2)
 rw [fn_eq,ev_eqQ (rs:=[.tmp 2]) [] rfl Tryz.func42 rfl rfl (by kernel_rfl) (by kernel_rfl)]
 by_cases c1:(6:Int) < s.joints.length
 ·rw [pb_false (fun hn => by have:=hn.1; omega)]
  simp only [go_sem,c1]
 by_cases c2:(8:Int) < s.members.length
 ·rw [pb_false (fun hn => by have:=hn.2.1; omega)]
  simp only [go_sem,c1,c2]
 simp only [go_sem,c1,c2]
 generalize hL:evLoopI _ _ = y
 obtain ⟨r,rfl,hr⟩:=count_rule hL s.joints.length (fun k st => 0 < st.nx∧st.σ 0 = some ⟨cStructure s,0,true⟩∧st.T 1 = .rp 0 0∧st.T 16 = LL cJoint s.joints∧st.T 17 = I s.joints.length∧st.T 18 = I k∧∀ i (h:i < s.joints.length),i < k→jointB s.joints[i] = true∧ix (isNamedJ s.joints[i].name) s.joints = i)
  (fun r => (∃ T σ nx,r = (.exit 0,⟨T,σ,nx⟩)∧σ 0 = some ⟨cStructure s,0,true⟩∧T 1 = .rp 0 0∧∀ i (h:i < s.joints.length),jointB s.joints[i] = true∧ix (isNamedJ s.joints[i].name) s.joints = i)∨(∃ T σ nx,r = (.ret,⟨T,σ,nx⟩)∧T 2 = Bo false∧¬StrOk s)) (by
   clear hL
   rintro k ⟨T,σ,nx⟩ hlt ⟨hn,hσ,h1,h16,h17,h18,hi⟩
   simp only at hn hσ h1 h16 h17 h18
   have f1:(k:Int) < (s.joints.length:Int):=by omega
   have f2:(0:Int) ≤ (k:Int):=by omega
   have f3:=wrap_id (n:=(k:Int) + 1) (by omega) (by omega)
   have f4:=slot (c:=cJoint) (s:=4) (fun _ => rfl) s.joints k hlt
   have f5:=slots_len (c:=cJoint) (s:=4) (fun _ => rfl) s.joints
   have f6:k * 4 + 4 ≤ s.joints.length * 4:=by omega
   have f9:=slot_ne (c:=cJoint) (s:=4) (fun _ => rfl) (by omega) s.joints k hlt
   have t1:=iJointOk s.joints[k] (h.1.1 _ (List.getElem_mem hlt))
   have t2:=iJointNamed s s.joints[k].name h.1.2.2
   have nz:¬0 = nx:=by omega
   cases hj:jointB s.joints[k] with
   | false =>
    rw [hj] at t1
    refine .inr ⟨_,by simp only [go_sem,h1,h16,h17,h18,f1,f2,f4,f5,f6,f9,t1,nz]; rfl,by simp,.inr ⟨_,_,_,rfl,?_,fun hn => ?_⟩⟩
    ·simp only [go_sem]
    ·have:=(hn.2.2.1 k hlt).1
     rw [hj] at this; cases this
   | true =>
    rw [hj] at t1
    by_cases hk:ix (isNamedJ s.joints[k].name) s.joints = k
    ·rw [hk] at t2
     refine .inl ⟨_,by simp only [go_sem,h1,h16,h17,h18,hσ,f1,f2,f3,f4,f5,f6,f9,t1,t2,nz]; rfl,?_⟩
     simp only [go_sem,h1,h16,h17,hσ,nz]
     refine ⟨by omega,rfl,fun i hi' hik => ?_⟩
     rcases Nat.lt_or_eq_of_le (Nat.le_of_lt_succ hik) with q | q
     ·exact hi i hi' q
     ·subst q; exact ⟨hj,hk⟩
    ·have hk':(ix (isNamedJ s.joints[k].name) s.joints != (k:Int)) = true:=by simpa using hk
     refine .inr ⟨_,by simp only [go_sem,h1,h16,h17,h18,hσ,f1,f2,f4,f5,f6,f9,t1,t2,hk',nz]; rfl,by simp,.inr ⟨_,_,_,rfl,?_,fun hn => hk (hn.2.2.1 k hlt).2⟩⟩
     simp only [go_sem]) (by
   clear hL
   rintro ⟨T,σ,nx⟩ ⟨hn,hσ,h1,h16,h17,h18,hi⟩
   simp only at hn hσ h1 h16 h17 h18
   exact ⟨_,by simp only [go_sem,h17,h18,Int.lt_irrefl]; rfl,by simp,.inl ⟨_,_,_,rfl,hσ,by simp only [go_sem,h1],fun i h => hi i h h⟩⟩) (by
   simp only [go_sem]
   exact fun i _ h => absurd h (Nat.not_lt_zero _))
 rcases hr with ⟨T,σ,nx,rfl,hσ,h1,hj⟩ | ⟨T,σ,nx,rfl,h2,hn⟩
 ·have:pb (StrOk s) = !decide (0 ≤ ix (fun m => !memB s.joints m) s.members):=by
   refine (pb_eq ?_).symm
   rw [Bool.not_eq_true',decide_eq_false_iff_not,Int.not_le,ix_lt]
   exact ⟨fun hq => ⟨by omega,by omega,hj,fun m hm => by simpa using hq m hm⟩,fun hq m hm => by simp [hq.2.2.2 m hm]⟩
  rw [this]
  simp only [go_sem,hσ,h1,hm]
 ·simp only [go_sem,h2,pb_false hn]
end Go.Proofs.YtoccmbjfkbemcaaGreat
namespace Go.Proofs.YtoccmbjfkbemcaaGreat
open Go Go.TV
theorem inB_true {n a b:Int} (h:inB n a b = true):a ≤ n∧n ≤ b:=by
 unfold inB at h
 rw [Bool.and_eq_true,decide_eq_true_eq,decide_eq_true_eq] at h
 exact h
def LoadGood (n:Nat) (l:List Int):Prop:=l.length = 2 * n∧∀ x ∈ l,inB x (-100) 100 = true
def LimGood (n:Nat) (l:List Int):Prop:=l.length = n∧∀ x ∈ l,inB x 0 1000 = true
theorem closefitsLoad (x:Int):fn Tryz.prog conv ext 55 [I x] = some (Bo (!inB x (-100) 100)):=by
 have h1:=isForce x
 rw [fn_eq,ev_eqQ (rs:=[.tmp 2]) [] rfl Tryz.func55 rfl rfl (by kernel_rfl) (by kernel_rfl)]
 simp only [go_sem,h1]
theorem closefitsLimits (x:Int):fn Tryz.prog conv ext 45 [I x] = some (Bo (!inB x 0 1000)):=by
 have h1:=isLimit x
 rw [fn_eq,ev_eqQ (rs:=[.tmp 2]) [] rfl Tryz.func45 rfl rfl (by kernel_rfl) (by kernel_rfl)]
 simp only [go_sem,h1]
theorem ifitsLoad (row:List V) (off:Nat) (js:List Joint) (l:List Int) (hr:row[off]? = some (LL cJoint js)) (hj:js.length ≤ 140737488351232) (hl:l.length ≤ maxLen):fn Tryz.prog conv ext 43 [.tp row off,LI l] = some (Bo (pb (LoadGood js.length l))):=by
 have e1:=wrap_id (n:=2 * (js.length:Int)) (by omega) (by omega)
 have h1:=hasInt l 55 (fun x => !inB x (-100) 100) hl (by rfl) (fun x _ => closefitsLoad x)
 rw [fn_eq,ev_eqQ (rs:=[.tmp 4]) [] rfl Tryz.func43 rfl rfl (by kernel_rfl) (by kernel_rfl)]
 by_cases h2:(l.length:Int) = 2 * (js.length:Int)
 ·have h2':((l.length:Int) == 2 * (js.length:Int)) = true:=by simpa using h2
  have:pb (LoadGood js.length l) = !decide (0 ≤ ix (fun x => !inB x (-100) 100) l):=by
   refine (pb_eq ?_).symm
   rw [Bool.not_eq_true',decide_eq_false_iff_not,Int.not_le,ix_lt]
   exact ⟨fun hq => ⟨by omega,fun m hm => by simpa using hq m hm⟩,fun hq m hm => by simp [hq.2 m hm]⟩
  rw [this]
  simp only [go_sem,hr,e1,h1,h2']
 ·have h2':((l.length:Int) == 2 * (js.length:Int)) = false:=by simpa using h2
  rw [pb_false (fun hn => h2 (by have:=hn.1; omega))]
  simp only [go_sem,hr,e1,h2']
theorem ifitsLimits (row:List V) (off:Nat) (ms:List Member) (l:List Int) (hr:row[off + 1]? = some (LL cMember ms)) (hl:l.length ≤ maxLen):fn Tryz.prog conv ext 31 [.tp row off,LI l] = some (Bo (pb (LimGood ms.length l))):=by
 have h1:=hasInt l 45 (fun x => !inB x 0 1000) hl (by rfl) (fun x _ => closefitsLimits x)
 rw [fn_eq,ev_eqQ (rs:=[.tmp 4]) [] rfl Tryz.func31 rfl rfl (by kernel_rfl) (by kernel_rfl)]
 by_cases h2:(l.length:Int) = (ms.length:Int)
 ·have h2':((l.length:Int) == (ms.length:Int)) = true:=by simpa using h2
  have:pb (LimGood ms.length l) = !decide (0 ≤ ix (fun x => !inB x 0 1000) l):=by
   refine (pb_eq ?_).symm
   rw [Bool.not_eq_true',decide_eq_false_iff_not,Int.not_le,ix_lt]
   exact ⟨fun hq => ⟨by omega,fun m hm => by simpa using hq m hm⟩,fun hq m hm => by simp [hq.2 m hm]⟩
  rw [this]
  simp only [go_sem,hr,h1,h2']
 ·have h2':((l.length:Int) == (ms.length:Int)) = false:=by simpa using h2
  rw [pb_false (fun hn => h2 (by have:=hn.1; omega))]
  simp only [go_sem,hr,h2']
theorem iLoadOk (s:Structure) (l:List Int) (h:okStructure s) (hl:l.length ≤ maxLen):fn Tryz.prog conv ext 30 [.agg (cStructure s),LI l] = some (Bo (pb (StrOk s) && pb (LoadGood s.joints.length l))):=by
 have h1:=iStructureOk s h
 have h2:=ifitsLoad (cStructure s) 0 s.joints l rfl (by have:=h.1.2.1; omega) hl
 rw [fn_eq,ev_eqQ (rs:=[.tmp 4]) [] rfl Tryz.func30 rfl rfl (by kernel_rfl) (by kernel_rfl)]
 generalize pb (StrOk s) = b at *
 cases b <;> simp only [go_sem,h1,h2]
noncomputable def stanceB (t:Stance):Bool:=pb (NameOk t.name) && ((pb (StrOk t.st) && pb (LoadGood t.st.joints.length t.load)) && pb (LimGood t.st.members.length t.limits))
theorem iStanceOk (t:Stance) (h:okStance t):fn Tryz.prog conv ext 16 [.agg (cStance t)] = some (Bo (stanceB t)):=by
 have h1:=iIsName t.name h.1
 have h2:=iLoadOk t.st t.load h.2.1 h.2.2.1.2.2
 have h3:=ifitsLimits (cStance t) 1 t.st.members t.limits rfl h.2.2.2.2.2
 unfold stanceB
 generalize pb (NameOk t.name) = b1 at *
 generalize (pb (StrOk t.st) && pb (LoadGood t.st.joints.length t.load)) = b2 at *
 rw [fn_eq,ev_eqQ (rs:=[.tmp 2]) [] rfl Tryz.func16 rfl rfl (by kernel_rfl) (by kernel_rfl)]
 cases b1 <;> cases b2 <;> simp only [go_sem,h1,h2,h3]
end Go.Proofs.YtoccmbjfkbemcaaGreat
namespace Go.Proofs.YtoccmbjfkbemcaaGreat
open Go Go.TV
set_option maxRecDepth 100000 in
theorem eqMoves (x y:Operand) (a b c d:Int):evBin Tryz.prog .eql 51 x y (.agg [I a,I b]) (.agg [I c,I d]) = some (Bo ((a == c) && (b == d))):=by
 refine ev_eql_agg (us:=[.int .i64 a,.int .i64 b]) (vs:=[.int .i64 c,.int .i64 d]) (by kernel_rfl) Tryz.underlying51 (by kernel_rfl) rfl rfl ?_
 refine (ep_fields_cons (a:=.int .i64 a) (b:=.int .i64 c) (r:=a == c) (by decide) (by kernel_rfl) (by kernel_rfl) (ep_equalIn_int _ _ _ _ _ _ Tryz.underlying3)).trans ?_
 cases (a == c)
 ·rfl
 ·refine (ep_fields_cons (a:=.int .i64 b) (b:=.int .i64 d) (r:=b == d) (by decide) (by kernel_rfl) (by kernel_rfl) (ep_equalIn_int _ _ _ _ _ _ Tryz.underlying3)).trans ?_
  cases (b == d) <;> rfl
attribute [go_sem] eqMoves
end Go.Proofs.YtoccmbjfkbemcaaGreat
namespace Go.Proofs.YtoccmbjfkbemcaaGreat
open Go Go.TV
def sameM (m o:TV.Move):Bool:=(m.fr == o.fr) && (m.to == o.to)
theorem indexMove (xs:List TV.Move) (m:TV.Move) (h:xs.length ≤ maxLen):fn Tryz.prog conv ext 18 [LL cMove xs,.agg (cMove m)] = some (I (ix (sameM m) xs)):=by
 have e2:(xs.length:Int) ≤ 9223372036854775807:=by unfold maxLen at h; omega
 rw [fn_eq,ev_eqQ (rs:=[.tmp 4]) [] rfl Tryz.func18 rfl rfl (by kernel_rfl) (by kernel_rfl)]
 simp only [go_sem]
 generalize hL:evLoopI _ _ = y
 obtain ⟨r,rfl,hr⟩:=count_rule hL xs.length (fun k st => 0 < st.nx∧st.σ 0 = some ⟨cMove m,0,true⟩∧st.T 0 = LL cMove xs∧st.T 3 = .rp 0 0∧st.T 7 = I xs.length∧st.T 8 = I k∧∀ i (h:i < xs.length),i < k→sameM m xs[i] = false)
  (fun r => (∃ T σ nx,r = (.exit 0,⟨T,σ,nx⟩)∧ix (sameM m) xs = -1)∨(∃ T σ nx,r = (.ret,⟨T,σ,nx⟩)∧T 4 = I (ix (sameM m) xs))) (by
   clear hL
   rintro k ⟨T,σ,nx⟩ hlt ⟨hn,hσ,h0,h1,h7,h8,hi⟩
   simp only at hn hσ h0 h1 h7 h8
   have f1:(k:Int) < (xs.length:Int):=by omega
   have f2:(0:Int) ≤ (k:Int):=by omega
   have f3:=wrap_id (n:=(k:Int) + 1) (by omega) (by omega)
   have f4:=slot (c:=cMove) (s:=2) (fun _ => rfl) xs k hlt
   have f5:=slots_len (c:=cMove) (s:=2) (fun _ => rfl) xs
   have f6:k * 2 + 2 ≤ xs.length * 2:=by omega
   have f9:=slot_ne (c:=cMove) (s:=2) (fun _ => rfl) (by omega) xs k hlt
   cases hp:sameM m xs[k] with
   | true =>
    refine .inr ⟨_,by unfold sameM at hp; simp only [go_sem,h0,h1,h7,h8,hn,hσ,f1,f2,f4,f5,f6,f9,hp]; rfl,by simp,.inr ⟨_,_,_,rfl,?_⟩⟩
    simp only [go_sem]
    rw [ix_at hlt hi hp]
   | false =>
    refine .inl ⟨_,by unfold sameM at hp; simp only [go_sem,h0,h1,h7,h8,hn,hσ,f1,f2,f3,f4,f5,f6,f9,hp]; rfl,?_⟩
    simp only [go_sem,h0,h1,h7,hσ]
    exact ⟨hn,rfl,ix_step hlt hi hp⟩) (by
   clear hL
   rintro ⟨T,σ,nx⟩ ⟨hn,hσ,h0,h1,h7,h8,hi⟩
   simp only at h7 h8
   exact ⟨_,by simp only [go_sem,h7,h8,Int.lt_irrefl]; rfl,by simp,.inl ⟨_,_,_,rfl,ix_none fun i h => hi i h h⟩⟩) (by
   simp only [go_sem]
   exact fun i _ h => absurd h (Nat.not_lt_zero _))
 rcases hr with ⟨T,σ,nx,rfl,h1⟩ | ⟨T,σ,nx,rfl,h1⟩
 ·simp only [go_sem,h1]
 ·simp only [go_sem,h1]
def MoveGood (n:Nat) (m:TV.Move):Prop:=0 ≤ m.fr∧m.fr < n∧0 ≤ m.to∧m.to < n∧m.fr ≠ m.to
def YardGood (y:Yard):Prop:=y.stances.length ≤ 6∧y.moves.length ≤ 12∧(∀ i (h:i < y.stances.length),stanceB y.stances[i] = true∧ix (isNamed y.stances[i].name) y.stances = i)∧∀ i (h:i < y.moves.length),MoveGood y.stances.length y.moves[i]∧ix (sameM y.moves[i]) y.moves = i
theorem iYardOk (s:Yard) (h:okYard s):fn Tryz.prog conv ext 6 [.agg (cYard s)] = some (Bo (pb (YardGood s))):=by
 have e2:(s.stances.length:Int) ≤ 9223372036854775807:=by have:=h.1.2.1; omega
 have e3:(s.moves.length:Int) ≤ 9223372036854775807:=by have:=h.2.1.2.1; omega
 rw [fn_eq,ev_eqQ (rs:=[.tmp 2]) [] rfl Tryz.func6 rfl rfl (by kernel_rfl) (by kernel_rfl)]
 by_cases c1:(6:Int) < s.stances.length
 ·rw [pb_false (fun hn => by have:=hn.1; omega)]
  simp only [go_sem,c1]
 by_cases c2:(12:Int) < s.moves.length
 ·rw [pb_false (fun hn => by have:=hn.2.1; omega)]
  simp only [go_sem,c1,c2]
 simp only [go_sem,c1,c2]
 generalize hL:evLoopI _ _ = y
 obtain ⟨r,rfl,hr⟩:=count_rule hL s.stances.length (fun k st => 0 < st.nx∧st.σ 0 = some ⟨cYard s,0,true⟩∧st.T 1 = .rp 0 0∧st.T 20 = LL cStance s.stances∧st.T 21 = I s.stances.length∧st.T 22 = I k∧st.T 3 = I s.stances.length∧∀ i (h:i < s.stances.length),i < k→stanceB s.stances[i] = true∧ix (isNamed s.stances[i].name) s.stances = i)
  (fun r => (∃ T σ nx,r = (.exit 0,⟨T,σ,nx⟩)∧0 < nx∧σ 0 = some ⟨cYard s,0,true⟩∧T 1 = .rp 0 0∧T 3 = I s.stances.length∧∀ i (h:i < s.stances.length),stanceB s.stances[i] = true∧ix (isNamed s.stances[i].name) s.stances = i)∨(∃ T σ nx,r = (.ret,⟨T,σ,nx⟩)∧T 2 = Bo false∧¬YardGood s)) (by
   clear hL
   rintro k ⟨T,σ,nx⟩ hlt ⟨hn,hσ,h1,h16,h17,h18,h3,hi⟩
   simp only at hn hσ h1 h16 h17 h18 h3
   have f1:(k:Int) < (s.stances.length:Int):=by omega
   have f2:(0:Int) ≤ (k:Int):=by omega
   have f3:=wrap_id (n:=(k:Int) + 1) (by omega) (by omega)
   have f4:=slot (c:=cStance) (s:=5) (fun _ => rfl) s.stances k hlt
   have f5:=slots_len (c:=cStance) (s:=5) (fun _ => rfl) s.stances
   have f6:k * 5 + 5 ≤ s.stances.length * 5:=by omega
   have f9:=slot_ne (c:=cStance) (s:=5) (fun _ => rfl) (by omega) s.stances k hlt
   have t1:=iStanceOk s.stances[k] (h.1.1 _ (List.getElem_mem hlt))
   have t2:=iStanceNamed s s.stances[k].name h.1.2.2
   have nz:¬0 = nx:=by omega
   cases hj:stanceB s.stances[k] with
   | false =>
    rw [hj] at t1
    refine .inr ⟨_,by simp only [go_sem,h1,h16,h17,h18,f1,f2,f4,f5,f6,f9,t1,nz]; rfl,by simp,.inr ⟨_,_,_,rfl,?_,fun hn => ?_⟩⟩
    ·simp only [go_sem]
    ·have:=(hn.2.2.1 k hlt).1
     rw [hj] at this; cases this
   | true =>
    rw [hj] at t1
    by_cases hk:ix (isNamed s.stances[k].name) s.stances = k
    ·rw [hk] at t2
     refine .inl ⟨_,by simp only [go_sem,h1,h16,h17,h18,hσ,f1,f2,f3,f4,f5,f6,f9,t1,t2,nz]; rfl,?_⟩
     simp only [go_sem,h1,h16,h17,hσ,nz,h3]
     refine ⟨by omega,rfl,fun i hi' hik => ?_⟩
     rcases Nat.lt_or_eq_of_le (Nat.le_of_lt_succ hik) with q | q
     ·exact hi i hi' q
     ·subst q; exact ⟨hj,hk⟩
    ·have hk':(ix (isNamed s.stances[k].name) s.stances != (k:Int)) = true:=by simpa using hk
     refine .inr ⟨_,by simp only [go_sem,h1,h16,h17,h18,hσ,f1,f2,f4,f5,f6,f9,t1,t2,hk',nz]; rfl,by simp,.inr ⟨_,_,_,rfl,?_,fun hn => hk (hn.2.2.1 k hlt).2⟩⟩
     simp only [go_sem]) (by
   clear hL
   rintro ⟨T,σ,nx⟩ ⟨hn,hσ,h1,h16,h17,h18,h3,hi⟩
   simp only at hn hσ h1 h16 h17 h18 h3
   exact ⟨_,by simp only [go_sem,h17,h18,Int.lt_irrefl]; rfl,by simp,.inl ⟨_,_,_,rfl,hn,hσ,by simp only [go_sem,h1],by simp only [go_sem,h3],fun i h => hi i h h⟩⟩) (by
   simp only [go_sem]
   exact fun i _ h => absurd h (Nat.not_lt_zero _))
 rcases hr with ⟨T,σ,nx,rfl,hnx,hσ,h1,h3,hj⟩ | ⟨T,σ,nx,rfl,h2,hn⟩
 ·clear hL
  simp only [go_sem,hσ,h1]
  generalize hL:evLoopI _ _ = y
  obtain ⟨r,rfl,hr⟩:=count_rule hL s.moves.length (fun k st => 0 < st.nx∧st.σ 0 = some ⟨cYard s,0,true⟩∧st.T 1 = .rp 0 0∧st.T 3 = I s.stances.length∧st.T 40 = LL cMove s.moves∧st.T 41 = I s.moves.length∧st.T 42 = I k∧∀ i (h:i < s.moves.length),i < k→MoveGood s.stances.length s.moves[i]∧ix (sameM s.moves[i]) s.moves = i)
   (fun r => (∃ T σ nx,r = (.exit 2,⟨T,σ,nx⟩)∧∀ i (h:i < s.moves.length),MoveGood s.stances.length s.moves[i]∧ix (sameM s.moves[i]) s.moves = i)∨(∃ T σ nx,r = (.ret,⟨T,σ,nx⟩)∧T 2 = Bo false∧¬YardGood s)) (by
    clear hL
    rintro k ⟨T,σ,nx⟩ hlt ⟨hn,hσ,h1,h5,h45,h46,h47,hi⟩
    simp only at hn hσ h1 h5 h45 h46 h47
    have f1:(k:Int) < (s.moves.length:Int):=by omega
    have f2:(0:Int) ≤ (k:Int):=by omega
    have f3:=wrap_id (n:=(k:Int) + 1) (by omega) (by omega)
    have f4:=slot (c:=cMove) (s:=2) (fun _ => rfl) s.moves k hlt
    have f5:=slots_len (c:=cMove) (s:=2) (fun _ => rfl) s.moves
    have f6:k * 2 + 2 ≤ s.moves.length * 2:=by omega
    have f9:=slot_ne (c:=cMove) (s:=2) (fun _ => rfl) (by omega) s.moves k hlt
    have no:¬MoveGood s.stances.length s.moves[k]→¬YardGood s:=fun hb hn => hb (hn.2.2.2 k hlt).1
    have no2:¬ix (sameM s.moves[k]) s.moves = k→¬YardGood s:=fun hb hn => hb (hn.2.2.2 k hlt).2
    have done:MoveGood s.stances.length s.moves[k]→ix (sameM s.moves[k]) s.moves = k→∀ i (h:i < s.moves.length),i < k + 1→MoveGood s.stances.length s.moves[i]∧ix (sameM s.moves[i]) s.moves = i:=fun g1 g2 i hi' hik => by
     rcases Nat.lt_or_eq_of_le (Nat.le_of_lt_succ hik) with q | q
     ·exact hi i hi' q
     ·subst q; exact ⟨g1,g2⟩
    have nz:¬0 = nx:=by omega
    have t1:=indexMove s.moves s.moves[k] h.2.1.2.2
    generalize hix:ix (sameM s.moves[k]) s.moves = ii at t1 no2 done
    obtain ⟨m,hmk⟩:∃ m,m = s.moves[k]:=⟨_,rfl⟩
    rw [← hmk] at f4 no done t1
    by_cases c1:m.fr < 0
    ·refine .inr ⟨_,by simp only [go_sem,h1,h5,h45,h46,h47,hσ,f1,f2,f4,f5,f6,f9,nz,c1]; rfl,by simp,.inr ⟨_,_,_,rfl,by simp only [go_sem],no fun hm => ?_⟩⟩
     have:=hm.1; omega
    by_cases c2:(s.stances.length:Int) ≤ m.fr
    ·refine .inr ⟨_,by simp only [go_sem,h1,h5,h45,h46,h47,hσ,f1,f2,f4,f5,f6,f9,nz,c1,c2]; rfl,by simp,.inr ⟨_,_,_,rfl,by simp only [go_sem],no fun hm => ?_⟩⟩
     have:=hm.2.1; omega
    by_cases c3:m.to < 0
    ·refine .inr ⟨_,by simp only [go_sem,h1,h5,h45,h46,h47,hσ,f1,f2,f4,f5,f6,f9,nz,c1,c2,c3]; rfl,by simp,.inr ⟨_,_,_,rfl,by simp only [go_sem],no fun hm => ?_⟩⟩
     have:=hm.2.2.1; omega
    by_cases c4:(s.stances.length:Int) ≤ m.to
    ·refine .inr ⟨_,by simp only [go_sem,h1,h5,h45,h46,h47,hσ,f1,f2,f4,f5,f6,f9,nz,c1,c2,c3,c4]; rfl,by simp,.inr ⟨_,_,_,rfl,by simp only [go_sem],no fun hm => ?_⟩⟩
     have:=hm.2.2.2.1; omega
    by_cases c5:m.fr = m.to
    ·have c5':(m.fr == m.to) = true:=by simpa using c5
     exact .inr ⟨_,by simp only [go_sem,h1,h5,h45,h46,h47,hσ,f1,f2,f4,f5,f6,f9,nz,c1,c2,c3,c4,c5']; rfl,by simp,.inr ⟨_,_,_,rfl,by simp only [go_sem],no fun hm => hm.2.2.2.2 c5⟩⟩
    have c5':(m.fr == m.to) = false:=by simpa using c5
    by_cases c6:ii = k
    ·have c6':(ii != (k:Int)) = false:=by simpa using c6
     refine .inl ⟨_,by simp only [go_sem,h1,h5,h45,h46,h47,hσ,f1,f2,f3,f4,f5,f6,f9,nz,c1,c2,c3,c4,c5',c6',t1]; rfl,?_⟩
     simp only [go_sem,h1,h5,h45,h46,hσ,nz]
     exact ⟨by omega,rfl,done ⟨by omega,by omega,by omega,by omega,c5⟩ c6⟩
    ·have c6':(ii != (k:Int)) = true:=by simpa using c6
     exact .inr ⟨_,by simp only [go_sem,h1,h5,h45,h46,h47,hσ,f1,f2,f4,f5,f6,f9,nz,c1,c2,c3,c4,c5',c6',t1]; rfl,by simp,.inr ⟨_,_,_,rfl,by simp only [go_sem],no2 c6⟩⟩) (by
    clear hL
    rintro ⟨T,σ,nx⟩ ⟨hn,hσ,h1,h5,h45,h46,h47,hi⟩
    simp only at hn hσ h1 h46 h47
    exact ⟨_,by simp only [go_sem,h46,h47,Int.lt_irrefl]; rfl,by simp,.inl ⟨_,_,_,rfl,fun i h => hi i h h⟩⟩) (by
    simp only [go_sem,h1,hσ,h3]
    exact ⟨hnx,fun i _ h => absurd h (Nat.not_lt_zero _)⟩)
  rcases hr with ⟨T,σ,nx,rfl,hm⟩ | ⟨T,σ,nx,rfl,h2,hn⟩
  ·have:YardGood s:=⟨by omega,by omega,hj,hm⟩
   simp only [go_sem,pb_true this]
  ·simp only [go_sem,h2,pb_false hn]
 ·simp only [go_sem,h2,pb_false hn]
end Go.Proofs.YtoccmbjfkbemcaaGreat
namespace Go.Proofs.YtoccmbjfkbemcaaGreat
open Go Go.TV
def dg (n:Nat):List Int:=if n = 0 then [] else ((n % 1000000000:Nat):Int) :: dg (n / 1000000000)
termination_by n
decreasing_by exact Nat.div_lt_self (by omega) (by decide)
theorem dg_zero:dg 0 = []:=by unfold dg; rfl
theorem dg_pos {n:Nat} (h:n ≠ 0):dg n = ((n % 1000000000:Nat):Int) :: dg (n / 1000000000):=by rw [dg,if_neg h]
theorem pow_few {k m n:Nat} (h:1000000000 ^ k * m ≤ n) (hm:1 ≤ m) (hn:n ≤ 18446744073709551615):k ≤ 2:=by
 rcases Nat.lt_or_ge k 3 with h1 | h1
 ·omega
 ·have:=Nat.pow_le_pow_right (n:=1000000000) (by decide) h1
  have h2:1000000000 ^ k * 1 ≤ 1000000000 ^ k * m:=Nat.mul_le_mul_left _ hm
  have h3:(1000000000:Nat) ^ 3 = 1000000000000000000000000000:=by decide
  omega
def Short (xs:List Int):Prop:=xs.length ≤ 17592186044000
theorem idx {xs:List Int} {k:Nat} (h:k < xs.length):(xs.flatMap cI)[k]? = some (I xs[k]):=slot1 I xs k h
theorem cI_take (xs:List Int) (k:Nat):(xs.flatMap cI).take k = (xs.take k).flatMap cI:=by
 induction xs generalizing k with
 | nil => simp
 | cons x xs ih =>
  cases k with
  | zero => rfl
  | succ k => simp [ih]
def trimL (a:List Int):List Int:=(a.reverse.dropWhile (· = 0)).reverse
theorem trim_snoc (a:List Int) (x:Int):trimL (a ++ [x]) = if x = 0 then trimL a else a ++ [x]:=by
 unfold trimL
 simp only [List.reverse_append,List.reverse_cons,List.reverse_nil,List.nil_append,List.singleton_append,List.dropWhile_cons,decide_eq_true_eq]
 split <;> simp
theorem take_succ_get {a:List Int} {k:Nat} (h:k < a.length):a.take (k + 1) = a.take k ++ [a[k]]:=by rw [List.take_add_one,List.getElem?_eq_getElem h]; rfl
theorem trim_le (a:List Int):(trimL a).length ≤ a.length:=by
 unfold trimL
 rw [List.length_reverse]
 exact Nat.le_trans (List.dropWhile_suffix _).length_le (by rw [List.length_reverse]; exact Nat.le_refl _)
theorem trim_cons (d:Int) (xs:List Int):trimL (d :: xs) = if trimL xs = [] then (if d = 0 then [] else [d]) else d :: trimL xs:=by
 unfold trimL
 rw [List.reverse_cons,List.dropWhile_append]
 by_cases h:(xs.reverse.dropWhile fun x => decide (x = 0)) = []
 ·rw [h]
  simp only [List.isEmpty_nil,if_true,List.reverse_nil,List.dropWhile_cons,List.dropWhile_nil,decide_eq_true_eq]
  split <;> simp_all
 ·rw [if_neg (by simpa using h),if_neg (by simpa using h)]
  simp
theorem dg_ne {n:Nat} (h:n ≠ 0):dg n ≠ []:=by rw [dg_pos h]; simp
theorem trim_dg (n:Nat):trimL (dg n) = dg n:=by
 induction n using Nat.strongRecOn with
 | _ n ih =>
  by_cases h:n = 0
  ·subst h; rw [dg_zero]; rfl
  ·rw [dg_pos h,trim_cons,ih _ (Nat.div_lt_self (by omega) (by decide))]
   by_cases h2:n / 1000000000 = 0
   ·rw [h2,dg_zero,if_pos rfl,if_neg (by omega)]
   ·rw [if_neg (dg_ne h2)]
theorem dg_few (k:Nat):∀ n:Nat,n < 1000000000 ^ k→(dg n).length ≤ k:=by
 induction k with
 | zero => intro n h; have:n = 0:=by simpa using h
           subst this; rw [dg_zero]; exact Nat.le_refl _
 | succ k ih =>
  intro n h
  by_cases h0:n = 0
  ·subst h0; rw [dg_zero]; exact Nat.zero_le _
  ·rw [dg_pos h0,List.length_cons]
   have:n / 1000000000 < 1000000000 ^ k:=Nat.div_lt_of_lt_mul (by rw [Nat.pow_succ,Nat.mul_comm] at h; exact h)
   have:=ih _ this
   omega
theorem dg_three {n:Nat} (h:n ≤ 9223372036854775807):(dg n).length ≤ 3:=dg_few 3 n (by omega)
theorem dg_mem (n:Nat):∀ x ∈ dg n,0 ≤ x∧x ≤ 999999999:=by
 induction n using Nat.strongRecOn with
 | _ n ih =>
  intro x hx
  by_cases h:n = 0
  ·subst h; rw [dg_zero] at hx; cases hx
  ·rw [dg_pos h] at hx
   rcases List.mem_cons.mp hx with rfl | hx
   ·omega
   ·exact ih _ (Nat.div_lt_self (by omega) (by decide)) x hx
def NatGood (a:List Int):Prop:=(∀ x ∈ a,inB x 0 999999999 = true)∧a.length ≤ 60∧trimL a = a
theorem trim_last {a:List Int} (h:a ≠ []):trimL a = a ↔ a[a.length - 1]'(by have:=List.length_pos_iff.mpr h; omega) ≠ 0:=by
 rcases List.eq_nil_or_concat a with rfl | ⟨b,x,e⟩
 ·exact absurd rfl h
 ·rw [List.concat_eq_append] at e
  subst e
  rw [trim_snoc]
  have:(b ++ [x])[(b ++ [x]).length - 1]'(by simp) = x:=by simp
  rw [this]
  by_cases hx:x = 0
  ·rw [if_pos hx]
   refine ⟨fun e => ?_,fun e => absurd hx e⟩
   have:=congrArg List.length e
   have h2:=trim_le b
   rw [List.length_append,List.length_singleton] at this
   omega
  ·rw [if_neg hx]; exact ⟨fun _ => hx,fun _ => rfl⟩
end Go.Proofs.YtoccmbjfkbemcaaGreat
namespace Go.Proofs.YtoccmbjfkbemcaaGreat
open Go Go.TV
theorem dg_drop (n j:Nat):(dg n).drop j = dg (n / 1000000000 ^ j):=by
 induction j generalizing n with
 | zero => simp
 | succ j ih =>
  by_cases h:n = 0
  ·subst h; rw [Nat.zero_div,dg_zero]; rfl
  ·rw [dg_pos h,List.drop_succ_cons,ih,Nat.div_div_eq_div_mul,Nat.pow_succ,Nat.mul_comm]
theorem dg_get {n j:Nat} (h:j < (dg n).length):(dg n)[j] = ((n / 1000000000 ^ j % 1000000000:Nat):Int):=by
 have h1:=List.drop_eq_getElem_cons h
 rw [dg_drop] at h1
 have h2:n / 1000000000 ^ j ≠ 0:=fun e => by rw [e,dg_zero] at h1; cases h1
 rw [dg_pos h2] at h1
 exact (List.cons.inj h1).1.symm
theorem dg_end (n:Nat):n / 1000000000 ^ (dg n).length = 0:=by
 have h:=dg_drop n (dg n).length
 rw [List.drop_length] at h
 exact Classical.byContradiction fun hn => dg_ne hn h.symm
theorem dg_shift (n j:Nat):n / 1000000000 ^ (j + 1) * 1000000000 + n / 1000000000 ^ j % 1000000000 = n / 1000000000 ^ j:=by
 rw [Nat.pow_succ,← Nat.div_div_eq_div_mul]
 omega
theorem app_len {xs:List Int} (h:xs ≠ []):¬xs.length = 0:=fun e => h (List.eq_nil_of_length_eq_zero e)
def pad (n k:Nat):List Int:=(List.range k).map fun j => ((n / 1000000000 ^ j % 1000000000:Nat):Int)
theorem pad_len (n k:Nat):(pad n k).length = k:=by simp [pad]
theorem pad_get (n k j:Nat) (h:j < (pad n k).length):(pad n k)[j] = ((n / 1000000000 ^ j % 1000000000:Nat):Int):=by simp [pad]
theorem pad_succ (n k:Nat):pad n (k + 1) = ((n % 1000000000:Nat):Int) :: pad (n / 1000000000) k:=by
 unfold pad
 rw [List.range_succ_eq_map,List.map_cons,List.map_map]
 congr 1
 ·rw [Nat.pow_zero,Nat.div_one]
 ·refine List.map_congr_left fun j _ => ?_
  show (((n / 1000000000 ^ (j + 1) % 1000000000:Nat)):Int) = _
  rw [Nat.div_div_eq_div_mul,Nat.pow_succ,Nat.mul_comm]
theorem trim_pad (k:Nat):∀ n:Nat,n < 1000000000 ^ k→trimL (pad n k) = dg n:=by
 induction k with
 | zero =>
  intro n h
  have:n = 0:=by simpa using h
  subst this; rw [dg_zero]; rfl
 | succ k ih =>
  intro n h
  have:n / 1000000000 < 1000000000 ^ k:=Nat.div_lt_of_lt_mul (by rw [Nat.pow_succ,Nat.mul_comm] at h; exact h)
  rw [pad_succ,trim_cons,ih _ this]
  by_cases h0:n = 0
  ·subst h0
   rw [Nat.zero_div,dg_zero,if_pos rfl,if_pos (by decide)]
  ·rw [dg_pos h0]
   by_cases h2:n / 1000000000 = 0
   ·rw [h2,dg_zero,if_pos rfl,if_neg (by omega)]
   ·rw [if_neg (dg_ne h2)]
theorem rep_set (j:Nat) (z v:V) (r:List V):(rep (j + 1) [z] ++ r).set j v = rep j [z] ++ v :: r:=by
 induction j with
 | zero => rfl
 | succ j ih =>
  have h1:rep (j + 1 + 1) [z] = z :: rep (j + 1) [z]:=rep_succ _ _
  have h2:rep (j + 1) [z] = z :: rep j [z]:=rep_succ _ _
  rw [h1]
  show z :: ((rep (j + 1) [z] ++ r).set j v) = rep (j + 1) [z] ++ v :: r
  rw [ih,h2]; rfl
theorem pad_drop {n k m:Nat} (h:m < k):(pad n k).drop m = ((n / 1000000000 ^ m % 1000000000:Nat):Int) :: (pad n k).drop (m + 1):=by
 rw [List.drop_eq_getElem_cons (by rw [pad_len]; exact h),pad_get]
end Go.Proofs.YtoccmbjfkbemcaaGreat
namespace Go.Proofs.YtoccmbjfkbemcaaGreat
open Go Go.TV
theorem dg_one {d:Nat} (h0:d ≠ 0) (h:d < 1000000000):dg d = [(d:Int)]:=by
 rw [dg_pos h0,Nat.div_eq_of_lt h,dg_zero,Nat.mod_eq_of_lt h]
end Go.Proofs.YtoccmbjfkbemcaaGreat
namespace Go.Proofs.YtoccmbjfkbemcaaGreat
open Go Go.TV
theorem isigned (neg:Bool) (a:List Int):fn Tryz.prog conv ext 109 [Bo neg,LI a] = some (.agg [Bo (neg && decide (0 < a.length)),LI a]):=by
 rw [fn_eq,ev_eqQ (rs:=[.cell 4 134]) [] rfl Tryz.func109 rfl rfl (by kernel_rfl) (by kernel_rfl)]
 by_cases h:0 < a.length
 ·have h':(0:Int) < (a.length:Int):=by omega
  cases neg <;> simp only [go_sem,h,h']
 ·have h':¬(0:Int) < (a.length:Int):=by omega
  cases neg <;> simp only [go_sem,h,h']
theorem u3:Tryz.prog.underlying 3 = some (.int .i64):=Tryz.underlying3
theorem u64t:Tryz.prog.underlying 104 = some (.int .u64):=Tryz.underlying104
theorem cvtU (k:IntKind) (n:Int) (σ:Store):evConvert Tryz.prog 3 104 (.sc (.int k n)) σ = some (.sc (.int .u64 (IntKind.u64.wrap n))):=ev_cvt u3 u64t
theorem cvtI (k:IntKind) (n:Int) (σ:Store):evConvert Tryz.prog 104 3 (.sc (.int k n)) σ = some (.sc (.int .i64 (IntKind.i64.wrap n))):=ev_cvt u64t u3
attribute [go_sem] cvtU cvtI
theorem ilimbs' (n:Nat) (hn:n ≤ 18446744073709551615):fn Tryz.prog conv ext 117 [.sc (.int .u64 n)] = some (LI (dg n)):=by
 rw [fn_eq,ev_eqQ (rs:=[.tmp 2]) [] rfl Tryz.func117 rfl rfl (by kernel_rfl) (by kernel_rfl)]
 simp only [go_sem]
 generalize hL:evLoopI _ _ = y
 obtain ⟨r,rfl,T',σ',nx',rfl,hr⟩:=loop_rule hL (fun m st => st.T 0 = .sc (.int .u64 m)∧∃ acc,Grow st.T st.σ st.nx 3 acc∧dg n = acc ++ dg m∧1000000000 ^ acc.length * m ≤ n)
  (fun r => ∃ T σ nx,r = (.exit 0,⟨T,σ,nx⟩)∧Grow T σ nx 3 (dg n)) (by
   clear hL
   rintro m ⟨T,σ,nx⟩ ⟨h0,acc,hacc,hd,hp⟩
   simp only at h0 hacc
   by_cases hm:m = 0
   ·subst hm
    have f0:¬(0:Int) < 0:=by omega
    refine .inr ⟨_,by simp only [go_sem,h0,f0]; rfl,by simp,_,_,_,rfl,?_⟩
    rw [dg_zero,List.append_nil] at hd
    rw [hd]
    simpa only [Grow,go_sem] using hacc
   ·have f0:(0:Int) < (m:Int):=by omega
    have hk:=pow_few hp (by omega) (by omega)
    have hmn:m ≤ n:=Nat.le_trans (Nat.le_mul_of_pos_left _ (Nat.pow_pos (by decide))) hp
    have f1:(m:Int).tmod 1000000000 = ((m % 1000000000:Nat):Int):=by rw [Int.tmod_eq_emod_of_nonneg (by omega)]; omega
    have f2:IntKind.u64.wrap ((m:Int).tdiv 1000000000) = ((m / 1000000000:Nat):Int):=by
     rw [Int.tdiv_eq_ediv_of_nonneg (by omega)]
     rw [wrap_u64 (by omega) (by omega)]; omega
    have f3:=wrap_id (n:=((m % 1000000000:Nat):Int)) (by omega) (by omega)
    have hd':dg n = (acc ++ [((m % 1000000000:Nat):Int)]) ++ dg (m / 1000000000):=by rw [hd,dg_pos hm]; simp
    have hp':1000000000 ^ (acc ++ [((m % 1000000000:Nat):Int)]).length * (m / 1000000000) ≤ n:=by
     rw [List.length_append,List.length_singleton,Nat.pow_succ,Nat.mul_assoc]
     exact Nat.le_trans (Nat.mul_le_mul_left _ (Nat.mul_div_le _ _)) hp
    have hlt:m / 1000000000 < m:=Nat.div_lt_self (by omega) (by decide)
    obtain ⟨σ',ha,hs⟩:=grow_append hacc ((m % 1000000000:Nat):Int) (by omega)
    refine .inl ⟨_,by simp only [go_sem,h0,f0,f1,f2,f3,ha]; rfl,_,hlt,?_,_,?_,hd',hp'⟩
    ·simp only [go_sem]
    ·exact grow_new hs (by simp [go_sem]) (by simp)) n ⟨by simp only [go_sem],[],.inl ⟨by simp only [go_sem],rfl⟩,rfl,by simp⟩
 obtain ⟨ids,h1⟩:=grow_strip hr 6
 simp only [go_sem,h1]
theorem ilimbs (n:Nat) (hn:n ≤ 9223372036854775807):fn Tryz.prog conv ext 117 [.sc (.int .u64 n)] = some (LI (dg n)):=ilimbs' n (by omega)
theorem closeNatOk (x:Int):fn Tryz.prog conv ext 130 [I x] = some (Bo (!inB x 0 999999999)):=by
 rw [fn_eq,ev_eqQ (rs:=[.tmp 2]) [] rfl Tryz.func130 rfl rfl (by kernel_rfl) (by kernel_rfl)]
 by_cases h:x < 0
 ·have:inB x 0 999999999 = false:=by unfold inB; rw [decide_eq_false (by omega)]; rfl
  rw [this]
  simp only [go_sem,h]
 ·have:inB x 0 999999999 = decide (x ≤ 999999999):=by unfold inB; rw [decide_eq_true (by omega),Bool.true_and]
  rw [this]
  by_cases h2:1000000000 ≤ x
  ·rw [decide_eq_false (by omega)]
   simp only [go_sem,h,h2]
  ·rw [decide_eq_true (by omega)]
   simp only [go_sem,h,h2]
theorem iNatOk (a:List Int) (ha:Short a):fn Tryz.prog conv ext 129 [LI a] = some (Bo (pb (NatGood a))):=by
 unfold Short at ha
 have hc:=hasInt a 130 (fun x => !inB x 0 999999999) (by unfold maxLen; omega) (by rfl) (fun x _ => closeNatOk x)
 rw [fn_eq,ev_eqQ (rs:=[.tmp 2]) [] rfl Tryz.func129 rfl rfl (by kernel_rfl) (by kernel_rfl)]
 by_cases h1:(60:Int) < (a.length:Int)
 ·rw [pb_false (fun hn:NatGood a => by have:=hn.2.1; omega)]
  simp only [go_sem,h1]
 have hg:(trimL a = a)→pb (NatGood a) = !decide (0 ≤ ix (fun x => !inB x 0 999999999) a):=fun ht => by
  refine (pb_eq ?_).symm
  rw [Bool.not_eq_true',decide_eq_false_iff_not,Int.not_le,ix_lt]
  exact ⟨fun hq => ⟨fun x hx => by simpa using hq x hx,by omega,ht⟩,fun hq m hm => by simp [hq.1 m hm]⟩
 by_cases hz:a = []
 ·have ht:trimL a = a:=by rw [hz]; rfl
  rw [hg ht]
  subst hz
  have:¬(0:Int) < 0:=by decide
  have h60:¬(60:Int) < 0:=by decide
  have hc':fn Tryz.prog conv ext 44 [.ts [] 0,.clo 130 []] = some (Bo (decide (0 ≤ ix (fun x => !inB x 0 999999999) []))):=hc
  simp only [go_sem,this,h60,hc']
 ·have hpos:0 < a.length:=List.length_pos_iff.mpr hz
  have c0:(0:Int) < (a.length:Int):=by omega
  have f1:=wrap_id (n:=(a.length:Int) - 1) (by omega) (by omega)
  have f2:(0:Int) ≤ (a.length:Int) - 1:=by omega
  have f3:(a.length:Int) - 1 < (a.length:Int):=by omega
  have f4:((a.length:Int) - 1).toNat = a.length - 1:=by omega
  have f5:=idx (xs:=a) (k:=a.length - 1) (by omega)
  have f9:=slot_ne (c:=cI) (s:=1) (fun _ => rfl) (by omega) a 0 hpos
  by_cases hl:a[a.length - 1] = 0
  ·have hl':(a[a.length - 1] == (0:Int)) = true:=by simpa using hl
   rw [pb_false (fun hn:NatGood a => (trim_last hz).mp hn.2.2 hl)]
   simp only [go_sem,h1,c0,f1,f2,f3,f4,f5,f9,hl']
  ·have hl':(a[a.length - 1] == (0:Int)) = false:=by simpa using hl
   rw [hg ((trim_last hz).mpr hl)]
   simp only [go_sem,h1,c0,f1,f2,f3,f4,f5,f9,hl',hc]
end Go.Proofs.YtoccmbjfkbemcaaGreat
namespace Go.Proofs.YtoccmbjfkbemcaaGreat
open Go Go.TV
theorem iBigIntOk (neg:Bool) (a:List Int) (ha:Short a):fn Tryz.prog conv ext 128 [.agg [Bo neg,LI a]] = some (Bo (pb (NatGood a) && !(neg && decide (a = [])))):=by
 have h1:=iNatOk a ha
 rw [fn_eq,ev_eqQ (rs:=[.tmp 2]) [] rfl Tryz.func128 rfl rfl (by kernel_rfl) (by kernel_rfl)]
 generalize pb (NatGood a) = b at *
 by_cases h:a = []
 ·subst h
  have h1':fn Tryz.prog conv ext 129 [.ts [] 0] = some (Bo b):=h1
  cases b <;> cases neg <;> simp only [go_sem,h1'] <;> rfl
 ·have h':((a.length:Int) == 0) = false:=by simpa using h
  rw [decide_eq_false h]
  cases b <;> cases neg <;> simp only [go_sem,h1,h'] <;> rfl
def cmpN (m n:Nat):Int:=if m < n then -1 else if m = n then 0 else 1
theorem dg_lt {n:Nat}:n < 1000000000 ^ (dg n).length:=(Nat.div_eq_zero_iff_lt (Nat.pow_pos (by decide))).mp (dg_end n)
theorem dg_ge {n k:Nat} (h:k < (dg n).length):1000000000 ^ k ≤ n:=by
 have h1:=dg_drop n k
 rw [List.drop_eq_getElem_cons h] at h1
 have h2:n / 1000000000 ^ k ≠ 0:=fun e => by rw [e,dg_zero] at h1; cases h1
 exact Classical.byContradiction fun hn => h2 (Nat.div_eq_of_lt (by omega))
theorem dg_len_lt {m n:Nat} (h:(dg m).length < (dg n).length):m < n:=Nat.lt_of_lt_of_le dg_lt (dg_ge h)
theorem lt_of_top {m n j:Nat} (h1:m / 1000000000 ^ (j + 1) = n / 1000000000 ^ (j + 1)) (h2:m / 1000000000 ^ j % 1000000000 < n / 1000000000 ^ j % 1000000000):m < n:=by
 have a:=dg_shift m j
 have b:=dg_shift n j
 rw [h1] at a
 have:m / 1000000000 ^ j < n / 1000000000 ^ j:=by omega
 exact Classical.byContradiction fun hn => by
  have:=Nat.div_le_div_right (c:=1000000000 ^ j) (show n ≤ m by omega)
  omega
theorem icompareL (m n:Nat) (l1:(dg m).length ≤ 1000000) (l2:(dg n).length ≤ 1000000):fn Tryz.prog conv ext 107 [LI (dg m),LI (dg n)] = some (I (cmpN m n)):=by
 rw [fn_eq,ev_eqQ (rs:=[.tmp 4]) [] rfl Tryz.func107 rfl rfl (by kernel_rfl) (by kernel_rfl)]
 by_cases hl:(dg m).length = (dg n).length
 ·have c1:(((dg m).length:Int) != ((dg n).length:Int)) = false:=by rw [hl]; simp
  have e1:=wrap_id (n:=((dg m).length:Int) - 1) (by omega) (by omega)
  simp only [go_sem,c1,e1]
  generalize hL:evLoopI _ _ = y
  obtain ⟨r,rfl,hr⟩:=loop_rule hL (fun k st => st.nx = 0∧st.σ = noStore∧st.T 0 = LI (dg m)∧st.T 1 = LI (dg n)∧st.T 5 = I ((k:Int) - 1)∧k ≤ (dg m).length∧m / 1000000000 ^ k = n / 1000000000 ^ k)
   (fun r => (∃ T,r = (.exit 0,⟨T,noStore,0⟩)∧m = n)∨(∃ T,r = (.ret,⟨T,noStore,0⟩)∧T 4 = I (cmpN m n))) (by
    clear hL
    rintro k ⟨T,σ,nx⟩ ⟨hnx,hσ,h0,h1,h5,hk,he⟩
    simp only at hnx hσ h0 h1 h5
    subst hnx hσ
    cases k with
    | zero =>
     have f0':¬(0:Int) ≤ 0 - 1:=by omega
     rw [Nat.pow_zero,Nat.div_one,Nat.div_one] at he
     exact .inr ⟨_,by simp only [go_sem,h5,f0']; rfl,by simp,.inl ⟨_,rfl,he⟩⟩
    | succ k =>
     have hlt:k < (dg m).length:=by omega
     have hlt2:k < (dg n).length:=by omega
     have e5:((k + 1:Nat):Int) - 1 = (k:Int):=by omega
     rw [e5] at h5
     have f0:(0:Int) ≤ (k:Int):=by omega
     have f3:(k:Int) < ((dg m).length:Int):=by omega
     have f3':(k:Int) < ((dg n).length:Int):=by omega
     have f5:=slot_ne (c:=cI) (s:=1) (fun _ => rfl) (by omega) (dg m) k hlt
     have f5':=slot_ne (c:=cI) (s:=1) (fun _ => rfl) (by omega) (dg n) k hlt2
     have f6:=idx hlt
     have f6':=idx hlt2
     rw [dg_get hlt] at f6
     rw [dg_get hlt2] at f6'
     have f7:=wrap_id (n:=(k:Int) - 1) (by omega) (by omega)
     by_cases q1:((m / 1000000000 ^ k % 1000000000:Nat):Int) < ((n / 1000000000 ^ k % 1000000000:Nat):Int)
     ·have hmn:m < n:=lt_of_top he (by omega)
      have hc:cmpN m n = -1:=by unfold cmpN; rw [if_pos hmn]
      exact .inr ⟨_,by simp only [go_sem,h0,h1,h5,f0,f3,f3',f5,f5',f6,f6',q1]; rfl,by simp,.inr ⟨_,rfl,by simp only [go_sem,hc]⟩⟩
     ·by_cases q2:((n / 1000000000 ^ k % 1000000000:Nat):Int) < ((m / 1000000000 ^ k % 1000000000:Nat):Int)
      ·have hmn:n < m:=lt_of_top he.symm (by omega)
       have hc:cmpN m n = 1:=by unfold cmpN; rw [if_neg (by omega),if_neg (by omega)]
       exact .inr ⟨_,by simp only [go_sem,h0,h1,h5,f0,f3,f3',f5,f5',f6,f6',q1,q2]; rfl,by simp,.inr ⟨_,rfl,by simp only [go_sem,hc]⟩⟩
      ·have heq:m / 1000000000 ^ k = n / 1000000000 ^ k:=by
        have a:=dg_shift m k
        have b:=dg_shift n k
        rw [he] at a
        omega
       refine .inl ⟨_,by simp only [go_sem,h0,h1,h5,f0,f3,f3',f5,f5',f6,f6',f7,q1,q2]; rfl,k,by omega,?_⟩
       simp only [go_sem,h0,h1]
       exact ⟨by omega,heq⟩) (dg m).length ⟨rfl,rfl,by simp only [go_sem],by simp only [go_sem],by simp only [go_sem],Nat.le_refl _,by rw [dg_end,hl,dg_end]⟩
  rcases hr with ⟨T,rfl,h⟩ | ⟨T,rfl,h⟩
  ·have hc:cmpN m n = 0:=by unfold cmpN; rw [if_neg (by omega),if_pos h]
   simp only [go_sem,hc]
  ·simp only [go_sem,h]
 ·have c1:(((dg m).length:Int) != ((dg n).length:Int)) = true:=by rw [bne_iff_ne]; omega
  by_cases hlt:((dg m).length:Int) < ((dg n).length:Int)
  ·have hmn:m < n:=dg_len_lt (by omega)
   have hc:cmpN m n = -1:=by unfold cmpN; rw [if_pos hmn]
   simp only [go_sem,c1,hlt,hc]
  ·have hmn:n < m:=dg_len_lt (by omega)
   have hc:cmpN m n = 1:=by unfold cmpN; rw [if_neg (by omega),if_neg (by omega)]
   simp only [go_sem,c1,hlt,hc]
theorem icompare (m n:Nat) (hm:m ≤ 9223372036854775807) (hn:n ≤ 9223372036854775807):fn Tryz.prog conv ext 107 [LI (dg m),LI (dg n)] = some (I (cmpN m n)) :=
 icompareL m n (by have:=dg_three hm; omega) (by have:=dg_three hn; omega)
end Go.Proofs.YtoccmbjfkbemcaaGreat
namespace Go.Proofs.YtoccmbjfkbemcaaGreat
open Go Go.TV
theorem itrim (a:List Int) (ha:Short a):fn Tryz.prog conv ext 123 [LI a] = some (LI (trimL a)):=by
 unfold Short at ha
 rw [fn_eq,ev_eqQ (rs:=[.tmp 2]) [] rfl Tryz.func123 rfl rfl (by kernel_rfl) (by kernel_rfl)]
 simp only [go_sem]
 generalize hL:evLoopI _ _ = y
 obtain ⟨r,rfl,T',rfl,hT'⟩:=loop_rule hL (fun k st => ∃ T,st = ⟨T,noStore,0⟩∧T 0 = LI (a.take k)∧k ≤ a.length∧trimL (a.take k) = trimL a) (fun r => ∃ T,r = (.exit 0,⟨T,noStore,0⟩)∧T 0 = LI (trimL a)) (by
  clear hL
  rintro k _ ⟨T,rfl,h0,hk,ht⟩
  have hl:(a.take k).length = k:=by rw [List.length_take,Nat.min_eq_left hk]
  cases k with
  | zero =>
   have h0':T 0 = .ts [] 0:=h0
   have f0:¬(0:Int) < 0:=by decide
   refine .inr ⟨_,by simp only [go_sem,h0',f0]; rfl,by simp,_,rfl,?_⟩
   simp only [go_sem,h0']
   rw [← ht]; rfl
  | succ k =>
   have hlt:k < a.length:=by omega
   have h0':T 0 = .ts ((a.take (k + 1)).flatMap cI) (k + 1):=by rw [h0]; show V.ts _ (a.take (k + 1)).length = _; rw [hl]
   have f0:(0:Int) < ((k + 1:Nat):Int):=by omega
   have e5:((k + 1:Nat):Int) - 1 = (k:Int):=by omega
   have e2:=wrap_id (n:=(k:Int)) (by omega) (by omega)
   have f1:(0:Int) ≤ (k:Int):=by omega
   have f2:(k:Int) < ((k + 1:Nat):Int):=by omega
   have f5:=slot_ne (c:=cI) (s:=1) (fun _ => rfl) (by omega) (a.take (k + 1)) k (by omega)
   have f6:=idx (xs:=a.take (k + 1)) (k:=k) (by omega)
   rw [List.getElem_take] at f6
   have f7:k ≤ k + 1:=by omega
   have hts:((a.take (k + 1)).flatMap cI).take k = (a.take k).flatMap cI:=by rw [cI_take,List.take_take,Nat.min_eq_left f7]
   rw [take_succ_get hlt,trim_snoc] at ht
   by_cases hx:a[k] = 0
   ·have fx:(a[k] == (0:Int)) = true:=by simpa using hx
    rw [if_pos hx] at ht
    refine .inl ⟨_,by simp only [go_sem,h0',f0,e5,e2,f1,f2,f5,f6,f7,hts,fx,Nat.zero_le]; rfl,k,by omega,_,rfl,?_,by omega,ht⟩
    simp only [go_sem]
    show _ = V.ts _ (a.take k).length
    rw [List.length_take,Nat.min_eq_left (by omega)]
   ·have fx:(a[k] == (0:Int)) = false:=by simpa using hx
    rw [if_neg hx] at ht
    refine .inr ⟨_,by simp only [go_sem,h0',f0,e5,e2,f1,f2,f5,f6,f7,fx]; rfl,by simp,_,rfl,?_⟩
    simp only [go_sem]
    rw [h0,← ht,take_succ_get hlt]) a.length ⟨_,rfl,by simp only [go_sem]; rw [List.take_length],Nat.le_refl _,by rw [List.take_length]⟩
 simp only [go_sem,hT']
theorem cmp_one {n:Nat}:(cmpN n 1 == 0) = decide (n = 1):=by
 unfold cmpN
 by_cases h:n < 1
 ·rw [if_pos h,decide_eq_false (by omega)]; rfl
 ·rw [if_neg h]
  by_cases h2:n = 1
  ·rw [if_pos h2,decide_eq_true h2]; rfl
  ·rw [if_neg h2,decide_eq_false h2]; rfl
theorem icmp1 (n:Nat) (hn:n ≤ 9223372036854775807):fn Tryz.prog conv ext 107 [LI (dg n),.ts [I 1] 1] = some (I (cmpN n 1)):=by
 have:=icompare n 1 hn (by decide)
 rw [dg_one (d:=1) (by decide) (by decide)] at this
 exact this
def lowD (neg:Bool) (m n:Nat):List V:=[Bo (neg && decide (0 < (dg (m / Nat.gcd m n)).length)),LI (dg (m / Nat.gcd m n)),LI (dg (n / Nat.gcd m n))]
end Go.Proofs.YtoccmbjfkbemcaaGreat
namespace Go.Proofs.YtoccmbjfkbemcaaGreat
open Go Go.TV
theorem ev_ptr {P:Program} {t e:TypeId} {x y:Operand} {row:List V} {off:Nat} (h:P.underlying t = some (.pointer e)):evBin P .eql t x y (.tp row off) (.sc (.pointer none)) = some (Bo false):=by
 simp only [evBin,toVal,h]
 rfl
theorem ptrEq (x y:Operand) (row:List V) (off:Nat):evBin Tryz.prog .eql 121 x y (.tp row off) (.sc (.pointer none)) = some (Bo false):=ev_ptr Tryz.underlying121
attribute [go_sem] ptrEq
theorem ifewer (b:Bool) (xs:List Int) (hx:xs.length ≤ 60):fn Tryz.prog conv ext 94 [.agg [Bo b,LI xs]] = some (.agg [Bo b,LI xs]):=by
 have c1:¬(60:Int) < (xs.length:Int):=by omega
 have k:=iClone xs (by omega)
 rw [fn_eq,ev_eqQ (rs:=[.cell 2 134]) [] rfl Tryz.func94 rfl rfl (by kernel_rfl) (by kernel_rfl)]
 simp only [go_sem,c1,k]
theorem istore (b:Bool) (xs ys:List Int) (hx:xs.length ≤ 24) (hy:ys.length ≤ 24):fn Tryz.prog conv ext 82 [.tp [Bo b,LI xs,LI ys] 0] = some (.agg [Bo b,LI xs,LI ys]):=by
 have k1:=ifewer b xs (by omega)
 have k2:=iClone ys (by omega)
 rw [fn_eq,ev_eqQ (rs:=[.cell 2 136]) [] rfl Tryz.func82 rfl rfl (by kernel_rfl) (by kernel_rfl)]
 simp only [go_sem,k1,k2]
end Go.Proofs.YtoccmbjfkbemcaaGreat
namespace Go.Proofs.YtoccmbjfkbemcaaGreat
open Go Go.TV
end Go.Proofs.YtoccmbjfkbemcaaGreat
namespace Go.Proofs.YtoccmbjfkbemcaaGreat
open Go Go.TV
end Go.Proofs.YtoccmbjfkbemcaaGreat
namespace Go.Proofs.YtoccmbjfkbemcaaGreat
open Go Go.TV
abbrev cB (n:Int):List V:=[.sc (.int .u8 n)]
theorem u8t:Tryz.prog.underlying 5 = some (.int .u8):=Tryz.underlying5
theorem cvt8 (k:IntKind) (n:Int) (σ:Store):evConvert Tryz.prog 5 3 (.sc (.int k n)) σ = some (.sc (.int .i64 (IntKind.i64.wrap n))):=ev_cvt u8t u3
attribute [go_sem] cvt8
def Cur (xs:List Int) (i h:Int) (st:Nat):Blk:=⟨[LL cB xs,I i,I h],st,true⟩
theorem sByteA (xs:List Int) (hx:∀ x ∈ xs,0 ≤ x∧x ≤ 255) (hl:xs.length ≤ 1048576) (i h:Int) (hi:0 ≤ i∧i ≤ xs.length) :
  ∃ r i' h',(∀ (b st nx:Nat) (σ:Store),σ b = some (Cur xs i h st)→b < nx→ev Tryz.prog conv ext 20 [.rp b 0] σ nx = some (I r,upd σ b (some (Cur xs i' h' st)),nx))∧(0 ≤ r∧r ≤ 255)∧0 ≤ i'∧i' ≤ xs.length:=by
 have z1:¬(33:Int) < 0:=by decide
 have z2:¬(45:Int) < 0:=by decide
 by_cases hlt:i < xs.length
 ·obtain ⟨k,rfl⟩:∃ k:Nat,i = k:=⟨i.toNat,by omega⟩
  have hk:k < xs.length:=by omega
  have f0:(0:Int) ≤ (k:Int):=by omega
  have f5:=slot_ne (c:=cB) (s:=1) (fun _ => rfl) (by omega) xs k hk
  have f6:(xs.flatMap cB)[k]? = some (.sc (.int .u8 xs[k])):=slot1 (fun n:Int => .sc (.int .u8 n)) xs k hk
  have hxk:=hx xs[k] (List.getElem_mem hk)
  have w1:=wrap_id (n:=xs[k]) (by omega) (by omega)
  have w2:=wrap_id (n:=(k:Int) + 1) (by omega) (by omega)
  have w3:=fun a:Int => wrap_id (n:=b255 a + xs[k]) (by have:=b255_range a; omega) (by have:=b255_range a; omega)
  exact ⟨_,(k:Int) + 1,_,fun b st nx σ hσ hb => by unfold Cur at hσ; rw [ev_eqQ (rs:=[.tmp 2]) [] rfl Tryz.func20 rfl rfl (by kernel_rfl) (by kernel_rfl)]; simp only [go_sem,hσ,hb,z1,z2,hlt,f0,f5,f6,w1,w2,w3]; rfl,b255_range _,by omega,by omega⟩
 ·exact ⟨_,i,_,fun b st nx σ hσ hb => by unfold Cur at hσ; rw [ev_eqQ (rs:=[.tmp 2]) [] rfl Tryz.func20 rfl rfl (by kernel_rfl) (by kernel_rfl)]; simp only [go_sem,hσ,hb,z1,z2,hlt]; rfl,b255_range _,hi.1,hi.2⟩
theorem sByte (xs:List Int) (hx:∀ x ∈ xs,0 ≤ x∧x ≤ 255) (hl:xs.length ≤ 1048576) (i h:Int) (hi:0 ≤ i∧i ≤ xs.length) (b st nx:Nat) (σ:Store) (hσ:σ b = some (Cur xs i h st)) (hb:b < nx) :
  ∃ r i' h',ev Tryz.prog conv ext 20 [.rp b 0] σ nx = some (I r,upd σ b (some (Cur xs i' h' st)),nx)∧(0 ≤ r∧r ≤ 255)∧0 ≤ i'∧i' ≤ xs.length:=by
 obtain ⟨r,i',h',k,hr⟩:=sByteA xs hx hl i h hi
 exact ⟨r,i',h',k b st nx σ hσ hb,hr⟩
theorem sNew (xs:List Int) (hx:∀ x ∈ xs,0 ≤ x∧x ≤ 255) (hl:xs.length ≤ 1048576) (nx:Nat) (σ:Store) :
  ∃ h,ev Tryz.prog conv ext 15 [LL cB xs] σ nx = some (.rp nx 0,upd σ nx (some (Cur xs 0 h 0)),nx + 1):=by
 have w0:=wrap_id (n:=1975 + (xs.length:Int)) (by omega) (by omega)
 rw [ev_eqQ (rs:=[.tmp 2]) [] rfl Tryz.func15 rfl rfl (by kernel_rfl) (by kernel_rfl)]
 simp only [go_sem,w0]
 generalize hL:evLoopI _ _ = y
 obtain ⟨r,rfl,T',g,rfl,h0,h3⟩:=count_rule hL xs.length (fun k st => st.nx = nx∧st.σ = σ∧st.T 0 = LL cB xs∧(∃ g,st.T 3 = I g)∧st.T 4 = I k)
  (fun r => ∃ T g,r = (.exit 0,⟨T,σ,nx⟩)∧T 0 = LL cB xs∧T 3 = I g) (by
   clear hL
   rintro k ⟨T,σ,nx⟩ hlt ⟨hn,hσ,h0,⟨g,h3⟩,h4⟩
   simp only at hn hσ h0 h3 h4
   subst hn hσ
   have f1:(k:Int) < (xs.length:Int):=by omega
   have f2:(0:Int) ≤ (k:Int):=by omega
   have f3:=wrap_id (n:=(k:Int) + 1) (by omega) (by omega)
   have f5:=slot_ne (c:=cB) (s:=1) (fun _ => rfl) (by omega) xs k hlt
   have f6:(xs.flatMap cB)[k]? = some (.sc (.int .u8 xs[k])):=slot1 (fun n:Int => .sc (.int .u8 n)) xs k hlt
   have hxk:=hx xs[k] (List.getElem_mem hlt)
   have w1:=wrap_id (n:=xs[k]) (by omega) (by omega)
   by_cases h4000:(k:Int) < 4000
   ·refine .inl ⟨_,by simp only [go_sem,h0,h3,h4,f1,f2,f3,f5,f6,w1,h4000]; rfl,?_⟩
    simp only [go_sem,h0]
    exact ⟨⟨_,rfl⟩,rfl⟩
   ·refine .inr ⟨_,by simp only [go_sem,h0,h4,f1,h4000]; rfl,by simp,_,g,rfl,?_,?_⟩ <;> simp only [go_sem,h0,h3]) (by
   clear hL
   rintro ⟨T,σ,nx⟩ ⟨hn,hσ,h0,⟨g,h3⟩,h4⟩
   simp only at hn hσ h0 h3 h4
   subst hn hσ
   refine ⟨_,by simp only [go_sem,h0,h4,Int.lt_irrefl]; rfl,by simp,_,g,rfl,?_,?_⟩ <;> simp only [go_sem,h0,h3]) (by
   simp only [go_sem]
   exact ⟨_,rfl⟩)
 refine ⟨g,?_⟩
 unfold Cur
 simp only [go_sem,h0,h3]
theorem sNewN (xs:List Int) (hx:∀ x ∈ xs,0 ≤ x∧x ≤ 255) (hl:xs.length ≤ 1048576) (n:Nat) (hn:n ≤ 1000000) (nx:Nat) (σ:Store) :
  ∃ i h,ev Tryz.prog conv ext 19 [LL cB xs,I n] σ nx = some (.rp nx 0,upd σ nx (some (Cur xs i h 0)),nx + 1)∧0 ≤ i∧i ≤ xs.length:=by
 obtain ⟨h,k1⟩:=sNew xs hx hl nx σ
 rw [ev_eqQ (rs:=[.tmp 4]) [] rfl Tryz.func19 rfl rfl (by kernel_rfl) (by kernel_rfl)]
 simp only [go_sem,call_inl,k1]
 generalize hL:evLoopI _ _ = y
 obtain ⟨r,rfl,T',i,h',rfl,h5,hi⟩:=count_rule hL n (fun k st => st.nx = nx + 1∧st.T 1 = I n∧st.T 5 = .rp nx 0∧st.T 6 = I k∧∃ i h,st.σ = upd σ nx (some (Cur xs i h 0))∧0 ≤ i∧i ≤ xs.length)
  (fun r => ∃ T i h,r = (.exit 0,⟨T,upd σ nx (some (Cur xs i h 0)),nx + 1⟩)∧T 5 = .rp nx 0∧0 ≤ i∧i ≤ xs.length) (by
   clear hL
   rintro k ⟨T,σ',nx'⟩ hlt ⟨hn',h1,h5,h6,i,h,hσ,hi⟩
   simp only at hn' h1 h5 h6 hσ
   subst hn' hσ
   have f1:(k:Int) < (n:Int):=by omega
   have f3:=wrap_id (n:=(k:Int) + 1) (by omega) (by omega)
   obtain ⟨r,i',h',k2,_,hi'⟩:=sByte xs hx hl i h hi nx 0 (nx + 1) (upd σ nx (some (Cur xs i h 0))) (by simp [upd]) (by omega)
   rw [upd_upd] at k2
   refine .inl ⟨_,by simp only [go_sem,call_inl,h1,h5,h6,f1,f3,k2]; rfl,?_⟩
   simp only [go_sem,h1,h5]
   exact ⟨rfl,i',h',rfl,hi'⟩) (by
   clear hL
   rintro ⟨T,σ',nx'⟩ ⟨hn',h1,h5,h6,i,h,hσ,hi⟩
   simp only at hn' h1 h5 h6 hσ
   subst hn' hσ
   exact ⟨_,by simp only [go_sem,h1,h6,Int.lt_irrefl]; rfl,by simp,_,i,h,rfl,by simp only [go_sem,h5],hi⟩) (by
   simp only [go_sem]
   exact ⟨0,h,rfl,by omega,by omega⟩)
 refine ⟨i,h',?_,hi⟩
 simp only [go_sem,h5]
theorem sMakeNum (xs:List Int) (hx:∀ x ∈ xs,0 ≤ x∧x ≤ 255) (hl:xs.length ≤ 1048576) (n:Nat) (hn:n ≤ 1000000) :
  ∃ r,fn Tryz.prog conv ext 7 [LL cB xs,I n] = some (I r)∧0 ≤ r∧r ≤ 65535:=by
 obtain ⟨i,h,k1,hi⟩:=sNewN xs hx hl n hn 0 noStore
 obtain ⟨r1,i1,h1,k2,hr1,hi1⟩:=sByte xs hx hl i h hi 0 0 1 (upd noStore 0 (some (Cur xs i h 0))) (by simp [upd]) (by omega)
 rw [upd_upd] at k2
 obtain ⟨r2,i2,h2,k3,hr2,hi2⟩:=sByte xs hx hl i1 h1 hi1 0 0 1 (upd noStore 0 (some (Cur xs i1 h1 0))) (by simp [upd]) (by omega)
 rw [upd_upd] at k3
 have w1:=wrap_id (n:=r1 * 256) (by omega) (by omega)
 have w2:=wrap_id (n:=r1 * 256 + r2) (by omega) (by omega)
 refine ⟨r1 * 256 + r2,?_,by omega,by omega⟩
 rw [fn_eq,ev_eqQ (rs:=[.tmp 4]) [] rfl Tryz.func7 rfl rfl (by kernel_rfl) (by kernel_rfl)]
 simp only [go_sem,call_inl,k1,k2,k3,w1,w2]
end Go.Proofs.YtoccmbjfkbemcaaGreat
namespace Go.Proofs.YtoccmbjfkbemcaaGreat
open Go Go.TV
def vl:List Int→Int
 | [] => 0
 | x :: xs => x + 1000000000 * vl xs
def bp (n:Nat):Int:=1000000000 ^ n
theorem bp_zero:bp 0 = 1:=rfl
theorem bp_succ (n:Nat):bp (n + 1) = 1000000000 * bp n:=by unfold bp; rw [Int.pow_succ,Int.mul_comm]
theorem bp_pos (n:Nat):0 < bp n:=Int.pow_pos (by decide)
theorem bp_add (m n:Nat):bp (m + n) = bp m * bp n:=by unfold bp; rw [Int.pow_add]
theorem bp_nat (n:Nat):bp n = ((1000000000 ^ n:Nat):Int):=by unfold bp; rw [Int.natCast_pow]; rfl
def Dg (xs:List Int):Prop:=∀ x ∈ xs,0 ≤ x∧x < 1000000000
theorem Dg.nil:Dg []:=fun x h => by cases h
theorem Dg.cons {x:Int} {xs:List Int} (h:Dg (x :: xs)):(0 ≤ x∧x < 1000000000)∧Dg xs:=⟨h x List.mem_cons_self,fun y hy => h y (List.mem_cons_of_mem _ hy)⟩
theorem Dg.app {xs ys:List Int} (h:Dg xs) (h':Dg ys):Dg (xs ++ ys):=fun x hx => (List.mem_append.mp hx).elim (h x) (h' x)
theorem Dg.snoc {xs:List Int} {y:Int} (h:Dg xs) (h0:0 ≤ y) (h1:y < 1000000000):Dg (xs ++ [y]):=h.app fun x hx => by
 rw [List.mem_singleton] at hx; subst hx; exact ⟨h0,h1⟩
theorem Dg.take {xs:List Int} (h:Dg xs) (n:Nat):Dg (xs.take n):=fun x hx => h x (List.mem_of_mem_take hx)
theorem Dg.drop {xs:List Int} (h:Dg xs) (n:Nat):Dg (xs.drop n):=fun x hx => h x (List.mem_of_mem_drop hx)
theorem Dg.get {xs:List Int} (h:Dg xs) {k:Nat} (hk:k < xs.length):0 ≤ xs[k]∧xs[k] < 1000000000:=h _ (List.getElem_mem hk)
theorem dg_Dg (n:Nat):Dg (dg n):=fun x hx => by have:=dg_mem n x hx; omega
theorem vl_dg (n:Nat):vl (dg n) = n:=by
 induction n using Nat.strongRecOn with
 | _ n ih =>
  by_cases h:n = 0
  ·subst h; rw [dg_zero]; rfl
  ·rw [dg_pos h]
   show _ + 1000000000 * vl _ = _
   rw [ih _ (Nat.div_lt_self (by omega) (by decide))]
   omega
theorem vl_app (xs ys:List Int):vl (xs ++ ys) = vl xs + bp xs.length * vl ys:=by
 induction xs with
 | nil => simp [vl,bp_zero]
 | cons x xs ih =>
  rw [List.cons_append,List.length_cons,bp_succ]
  show _ + 1000000000 * vl _ = (_ + 1000000000 * vl xs) + _
  rw [ih,Int.mul_add,Int.mul_assoc]; omega
theorem vl_snoc (xs:List Int) (y:Int):vl (xs ++ [y]) = vl xs + bp xs.length * y:=by
 rw [vl_app]; simp [vl]
theorem vl_nonneg {xs:List Int} (h:Dg xs):0 ≤ vl xs:=by
 induction xs with
 | nil => exact Int.le_refl _
 | cons x xs ih =>
  have:=h.cons
  have:=ih this.2
  show 0 ≤ x + 1000000000 * vl xs
  omega
theorem vl_lt {xs:List Int} (h:Dg xs):vl xs < bp xs.length:=by
 induction xs with
 | nil => exact bp_pos 0
 | cons x xs ih =>
  have:=h.cons
  have:=ih this.2
  rw [List.length_cons,bp_succ]
  show x + 1000000000 * vl xs < _
  omega
theorem trim_vl {xs:List Int} (h:Dg xs):trimL xs = dg (vl xs).toNat:=by
 induction xs with
 | nil => show trimL [] = dg 0; rw [dg_zero]; rfl
 | cons x xs ih =>
  have h1:=h.cons
  have h2:=vl_nonneg h1.2
  have h3:vl (x :: xs) = x + 1000000000 * vl xs:=rfl
  rw [trim_cons,ih h1.2,h3]
  by_cases hz:vl xs = 0
  ·rw [hz,show (0:Int).toNat = 0 from rfl,dg_zero,if_pos rfl]
   by_cases hx:x = 0
   ·subst hx; rw [if_pos rfl,Int.mul_zero,Int.add_zero]
    show _ = dg 0
    rw [dg_zero]
   ·rw [if_neg hx,Int.mul_zero,Int.add_zero,dg_one (by omega) (by omega)]
    rw [Int.toNat_of_nonneg (by omega)]
  ·rw [if_neg (dg_ne (by omega)),dg_pos (n:=(x + 1000000000 * vl xs).toNat) (by omega)]
   have e1:(((x + 1000000000 * vl xs).toNat % 1000000000:Nat):Int) = x:=by omega
   have e2:(x + 1000000000 * vl xs).toNat / 1000000000 = (vl xs).toNat:=by omega
   rw [e1,e2]
theorem trim_vl' {xs:List Int} {n:Nat} (h:Dg xs) (hv:vl xs = n):trimL xs = dg n:=by rw [trim_vl h,hv]; rfl
theorem vl_rep (n:Nat):vl (List.replicate n 0) = 0:=by
 induction n with
 | zero => rfl
 | succ n ih => rw [List.replicate_succ]; show 0 + 1000000000 * vl _ = 0; rw [ih]; rfl
theorem vl_take_succ {xs:List Int} {k:Nat} (h:k < xs.length):vl (xs.take (k + 1)) = vl (xs.take k) + bp k * xs[k]:=by
 rw [take_succ_get h,vl_snoc,List.length_take,Nat.min_eq_left (by omega)]
theorem vl_drop {xs:List Int} {k:Nat} (h:k < xs.length):vl (xs.drop k) = xs[k] + 1000000000 * vl (xs.drop (k + 1)):=by
 rw [List.drop_eq_getElem_cons h]; rfl
theorem vl_take_drop (xs:List Int) {k:Nat} (h:k ≤ xs.length):vl xs = vl (xs.take k) + bp k * vl (xs.drop k):=by
 have:=vl_app (xs.take k) (xs.drop k)
 rw [List.take_append_drop,List.length_take,Nat.min_eq_left h] at this
 exact this
def ln (n:Nat):Nat:=(dg n).length
theorem ln_zero:ln 0 = 0:=by unfold ln; rw [dg_zero]; rfl
theorem ln_le_iff {n k:Nat}:ln n ≤ k ↔ (n:Int) < bp k:=by
 constructor
 ·intro h
  have h1:=vl_lt (dg_Dg n)
  rw [vl_dg] at h1
  have h2:bp (dg n).length ≤ bp k:=by
   rw [bp_nat,bp_nat]
   exact Int.ofNat_le.mpr (Nat.pow_le_pow_right (by decide) h)
  omega
 ·intro h
  rw [bp_nat] at h
  exact dg_few k n (Int.ofNat_lt.mp h)
theorem ln_mono {m n:Nat} (h:m ≤ n):ln m ≤ ln n:=by
 have:=(ln_le_iff (n:=n)).mp (Nat.le_refl _)
 exact ln_le_iff.mpr (by omega)
theorem ln_mul (m n:Nat):ln (m * n) ≤ ln m + ln n:=by
 refine ln_le_iff.mpr ?_
 rw [bp_add,Int.natCast_mul]
 have h1:=(ln_le_iff (n:=m)).mp (Nat.le_refl _)
 have h2:=(ln_le_iff (n:=n)).mp (Nat.le_refl _)
 have h3:(m:Int) * n ≤ (bp (ln m) - 1) * n:=Int.mul_le_mul_of_nonneg_right (by omega) (by omega)
 have h4:=bp_pos (ln m)
 have h5:(bp (ln m) - 1) * n ≤ (bp (ln m) - 1) * (bp (ln n) - 1):=Int.mul_le_mul_of_nonneg_left (by omega) (by omega)
 have h6:(bp (ln m) - 1) * (bp (ln n) - 1) = bp (ln m) * bp (ln n) - bp (ln m) - bp (ln n) + 1:=by
  rw [Int.sub_mul,Int.mul_sub]; omega
 have h7:=bp_pos (ln n)
 omega
theorem ln_add (m n:Nat):ln (m + n) ≤ max (ln m) (ln n) + 1:=by
 refine ln_le_iff.mpr ?_
 rw [bp_succ]
 have h1:=(ln_le_iff (n:=m) (k:=max (ln m) (ln n))).mp (Nat.le_max_left _ _)
 have h2:=(ln_le_iff (n:=n) (k:=max (ln m) (ln n))).mp (Nat.le_max_right _ _)
 omega
theorem ln_pos {n:Nat} (h:n ≠ 0):0 < ln n:=List.length_pos_iff.mpr (dg_ne h)
theorem ln_small {n:Nat} (h:n < 1000000000):ln n ≤ 1:=ln_le_iff.mpr (by show (n:Int) < 1000000000; omega)
end Go.Proofs.YtoccmbjfkbemcaaGreat
namespace Go.Proofs.YtoccmbjfkbemcaaGreat
open Go Go.TV
def fil (o:List Int) (k:Nat):List V:=o.flatMap cI ++ rep k [I 0]
theorem fil_len (o:List Int) (k:Nat):(fil o k).length = o.length + k:=by unfold fil; rw [List.length_append,cI_len,rep_len]; simp
theorem fil_full (o:List Int):fil o 0 = o.flatMap cI:=by simp [fil,rep]
theorem fil_set (o:List Int) (k:Nat) (x:Int) {i:Nat} (h:o.length = i):(fil o (k + 1)).set i (I x) = fil (o ++ [x]) k:=by
 subst h
 unfold fil
 rw [List.set_append_right _ _ (by rw [cI_len]; exact Nat.le_refl _),cI_len,Nat.sub_self,rep_succ,List.flatMap_append]
 simp
theorem carry_step {P x q n v:Int} (h:x + 1000000000 * q = n):v + P * x + 1000000000 * P * q = v + P * n:=by subst h; grind
theorem tdivmod {n:Int} (h:0 ≤ n):n.tmod 1000000000 = n % 1000000000∧n.tdiv 1000000000 = n / 1000000000 :=
 ⟨Int.tmod_eq_emod_of_nonneg h,Int.tdiv_eq_ediv_of_nonneg h⟩
theorem make_ok {k:Nat} (h:k ≤ 3000000):(8:Int) * (k:Int) ≤ 281474976710656∧(k:Int) ≤ 9223372036854775807∧(0:Int) ≤ (k:Int):=by omega
theorem bp_take_all {xs:List Int} {k:Nat} (h:xs.length ≤ k):xs.take (k + 1) = xs.take k:=by rw [List.take_of_length_le (by omega),List.take_of_length_le h]
theorem iplus (m n:Nat) (hm:ln m ≤ 1000000) (hn:ln n ≤ 1000000):fn Tryz.prog conv ext 124 [LI (dg m),LI (dg n)] = some (LI (dg (m + n))):=by
 unfold ln at hm hn
 rw [fn_eq,ev_eqQ (rs:=[.tmp 4]) [] rfl Tryz.func124 rfl rfl (by kernel_rfl) (by kernel_rfl)]
 by_cases hc:((dg m).length:Int) < ((dg n).length:Int)
 ·have hBA:(dg m).length ≤ (dg n).length:=by omega
  obtain ⟨e1,e2,e3⟩:=make_ok (k:=(dg n).length + 1) (by omega)
  have e0:((dg n).length:Int) + 1 = (((dg n).length + 1:Nat):Int):=by omega
  have e4:=wrap_id (n:=(((dg n).length + 1:Nat):Int)) (by omega) (by omega)
  simp only [go_sem,hc,e0,e1,e2,e3,e4]
  generalize hL:evLoopI _ _ = y
  obtain ⟨r,rfl,T',σ',nx',c,o,rfl,h0,h5,h6,hnx,hσ,ho,hd,hv,hc0,hc1⟩:=count_rule hL (dg n).length (fun k st => st.T 0 = LI (dg n)∧st.T 1 = LI (dg m)∧st.T 5 = .rs 0 0 ((dg n).length + 1)∧st.T 20 = LI (dg n)∧st.T 21 = I (dg n).length∧st.T 22 = I k∧0 < st.nx∧∃ c o,st.T 6 = I c∧st.σ 0 = some ⟨fil o ((dg n).length + 1 - k),1,true⟩∧o.length = k∧Dg o∧vl o + bp k * c = vl ((dg n).take k) + vl ((dg m).take k)∧0 ≤ c∧c ≤ 1)
   (fun r => ∃ T σ nx c o,r = (.exit 0,⟨T,σ,nx⟩)∧T 0 = LI (dg n)∧T 5 = .rs 0 0 ((dg n).length + 1)∧T 6 = I c∧0 < nx∧σ 0 = some ⟨fil o 1,1,true⟩∧o.length = (dg n).length∧Dg o∧vl o + bp (dg n).length * c = (m + n:Nat)∧0 ≤ c∧c ≤ 1) (by
    clear hL
    rintro k ⟨T,σ,nx⟩ hlt ⟨h0,h1,h5,h20,h21,h22,hnx,c,o,h6,hσ,ho,hd,hv,hc0,hc1⟩
    simp only at h0 h1 h5 h20 h21 h22 hnx h6 hσ
    have f1:(k:Int) < ((dg n).length:Int):=by omega
    have f2:(0:Int) ≤ (k:Int):=by omega
    have f3:=wrap_id (n:=(k:Int) + 1) (by omega) (by omega)
    have f5:=slot_ne (c:=cI) (s:=1) (fun _ => rfl) (by omega) (dg n) k hlt
    have f6:=idx hlt
    have f7:(k:Int) < (((dg n).length + 1:Nat):Int):=by omega
    obtain ⟨x,hx⟩:∃ x,x = (dg n)[k]:=⟨_,rfl⟩
    have xr:=(dg_Dg n).get hlt
    rw [← hx] at f6 xr
    obtain ⟨g,hg⟩:∃ g,(dg n).length + 1 - k = g + 1:=⟨(dg n).length - k,by omega⟩
    have hg':(dg n).length + 1 - (k + 1) = g:=by omega
    rw [hg] at hσ
    have c5:k < (fil o (g + 1)).length:=by rw [fil_len]; omega
    have v1:=vl_take_succ hlt
    rw [← hx] at v1
    by_cases hB:k < (dg m).length
    ·have f8:(k:Int) < ((dg m).length:Int):=by omega
     have f9:=slot_ne (c:=cI) (s:=1) (fun _ => rfl) (by omega) (dg m) k hB
     have f10:=idx hB
     obtain ⟨z,hz⟩:∃ z,z = (dg m)[k]:=⟨_,rfl⟩
     have zr:=(dg_Dg m).get hB
     rw [← hz] at f10 zr
     have v2:=vl_take_succ hB
     rw [← hz] at v2
     have w1:=wrap_id (n:=x + c) (by omega) (by omega)
     have w2:=wrap_id (n:=x + c + z) (by omega) (by omega)
     obtain ⟨q1,q2⟩:=tdivmod (n:=x + c + z) (by omega)
     have w3:=wrap_id (n:=(x + c + z) / 1000000000) (by omega) (by omega)
     have c6:=fil_set o g ((x + c + z) % 1000000000) ho
     refine .inl ⟨_,by simp only [go_sem,h0,h1,h5,h6,h20,h21,h22,hnx,hσ,f1,f2,f3,f5,f6,f7,f8,f9,f10,w1,w2,w3,q1,q2,c5,c6]; rfl,?_⟩
     simp only [go_sem,h0,h1,h5,h20,h21,hg']
     refine ⟨rfl,hnx,_,_,rfl,rfl,by simp [ho],hd.snoc (by omega) (by omega),?_,by omega,by omega⟩
     rw [vl_snoc,ho,bp_succ,v1,v2,carry_step (n:=x + c + z) (by omega),Int.mul_add,Int.mul_add]
     omega
    ·have f8:¬(k:Int) < ((dg m).length:Int):=by omega
     have v2:=bp_take_all (xs:=dg m) (k:=k) (by omega)
     have w1:=wrap_id (n:=x + c) (by omega) (by omega)
     obtain ⟨q1,q2⟩:=tdivmod (n:=x + c) (by omega)
     have w3:=wrap_id (n:=(x + c) / 1000000000) (by omega) (by omega)
     have c6:=fil_set o g ((x + c) % 1000000000) ho
     refine .inl ⟨_,by simp only [go_sem,h0,h1,h5,h6,h20,h21,h22,hnx,hσ,f1,f2,f3,f5,f6,f7,f8,w1,w3,q1,q2,c5,c6]; rfl,?_⟩
     simp only [go_sem,h0,h1,h5,h20,h21,hg']
     refine ⟨rfl,hnx,_,_,rfl,rfl,by simp [ho],hd.snoc (by omega) (by omega),?_,by omega,by omega⟩
     rw [vl_snoc,ho,bp_succ,v1,v2,carry_step (n:=x + c) (by omega),Int.mul_add]
     omega) (by
    clear hL
    rintro ⟨T,σ,nx⟩ ⟨h0,h1,h5,h20,h21,h22,hnx,c,o,h6,hσ,ho,hd,hv,hc0,hc1⟩
    simp only at h0 h1 h5 h20 h21 h22 hnx h6 hσ
    refine ⟨_,by simp only [go_sem,h21,h22,Int.lt_irrefl]; rfl,by simp,_,_,_,c,o,rfl,by simp only [go_sem,h0],by simp only [go_sem,h5],by simp only [go_sem,h6],hnx,?_,ho,hd,?_,hc0,hc1⟩
    ·rw [hσ,show (dg n).length + 1 - (dg n).length = 1 by omega]
    ·rw [hv,List.take_length,List.take_of_length_le hBA,vl_dg,vl_dg]; omega) (by
    simp only [go_sem]
    exact ⟨0,[],rfl,rfl,rfl,Dg.nil,by simp [vl],Int.le_refl _,by decide⟩)
  have c5:(dg n).length < (fil o (0 + 1)).length:=by rw [fil_len]; omega
  have c6:=fil_set o 0 c ho
  have f2:(0:Int) ≤ ((dg n).length:Int):=by omega
  have f7:((dg n).length:Int) < (((dg n).length + 1:Nat):Int):=by omega
  have hD:Dg (o ++ [c]):=hd.snoc hc0 (by omega)
  have ht:=itrim (o ++ [c]) (by unfold Short; simp; omega)
  rw [trim_vl' (n:=m + n) hD (by rw [vl_snoc,ho,hv])] at ht
  have hl:(o ++ [c]).length = (dg n).length + 1:=by simp [ho]
  have ht':fn Tryz.prog conv ext 123 [.ts ((o ++ [c]).flatMap cI) ((dg n).length + 1)] = some (LI (dg (m + n))):=by rw [← hl]; exact ht
  have tk:List.take ((dg n).length + 1) ((o ++ [c]).flatMap cI) = (o ++ [c]).flatMap cI:=by rw [← hl]; exact cI_takeall _
  have hl2:((o ++ [c]).flatMap cI).length = (dg n).length + 1:=by rw [cI_len,hl]
  have hσ':σ' 0 = some ⟨fil o (0 + 1),1,true⟩:=hσ
  simp only [go_sem,h0,h5,h6,hnx,hσ',f2,f7,c5,c6,fil_full,hl2,tk,ht']
 ·have hBA:(dg n).length ≤ (dg m).length:=by omega
  obtain ⟨e1,e2,e3⟩:=make_ok (k:=(dg m).length + 1) (by omega)
  have e0:((dg m).length:Int) + 1 = (((dg m).length + 1:Nat):Int):=by omega
  have e4:=wrap_id (n:=(((dg m).length + 1:Nat):Int)) (by omega) (by omega)
  simp only [go_sem,hc,e0,e1,e2,e3,e4]
  generalize hL:evLoopI _ _ = y
  obtain ⟨r,rfl,T',σ',nx',c,o,rfl,h0,h5,h6,hnx,hσ,ho,hd,hv,hc0,hc1⟩:=count_rule hL (dg m).length (fun k st => st.T 0 = LI (dg m)∧st.T 1 = LI (dg n)∧st.T 5 = .rs 0 0 ((dg m).length + 1)∧st.T 20 = LI (dg m)∧st.T 21 = I (dg m).length∧st.T 22 = I k∧0 < st.nx∧∃ c o,st.T 6 = I c∧st.σ 0 = some ⟨fil o ((dg m).length + 1 - k),1,true⟩∧o.length = k∧Dg o∧vl o + bp k * c = vl ((dg m).take k) + vl ((dg n).take k)∧0 ≤ c∧c ≤ 1)
   (fun r => ∃ T σ nx c o,r = (.exit 0,⟨T,σ,nx⟩)∧T 0 = LI (dg m)∧T 5 = .rs 0 0 ((dg m).length + 1)∧T 6 = I c∧0 < nx∧σ 0 = some ⟨fil o 1,1,true⟩∧o.length = (dg m).length∧Dg o∧vl o + bp (dg m).length * c = (m + n:Nat)∧0 ≤ c∧c ≤ 1) (by
    clear hL
    rintro k ⟨T,σ,nx⟩ hlt ⟨h0,h1,h5,h20,h21,h22,hnx,c,o,h6,hσ,ho,hd,hv,hc0,hc1⟩
    simp only at h0 h1 h5 h20 h21 h22 hnx h6 hσ
    have f1:(k:Int) < ((dg m).length:Int):=by omega
    have f2:(0:Int) ≤ (k:Int):=by omega
    have f3:=wrap_id (n:=(k:Int) + 1) (by omega) (by omega)
    have f5:=slot_ne (c:=cI) (s:=1) (fun _ => rfl) (by omega) (dg m) k hlt
    have f6:=idx hlt
    have f7:(k:Int) < (((dg m).length + 1:Nat):Int):=by omega
    obtain ⟨x,hx⟩:∃ x,x = (dg m)[k]:=⟨_,rfl⟩
    have xr:=(dg_Dg m).get hlt
    rw [← hx] at f6 xr
    obtain ⟨g,hg⟩:∃ g,(dg m).length + 1 - k = g + 1:=⟨(dg m).length - k,by omega⟩
    have hg':(dg m).length + 1 - (k + 1) = g:=by omega
    rw [hg] at hσ
    have c5:k < (fil o (g + 1)).length:=by rw [fil_len]; omega
    have v1:=vl_take_succ hlt
    rw [← hx] at v1
    by_cases hB:k < (dg n).length
    ·have f8:(k:Int) < ((dg n).length:Int):=by omega
     have f9:=slot_ne (c:=cI) (s:=1) (fun _ => rfl) (by omega) (dg n) k hB
     have f10:=idx hB
     obtain ⟨z,hz⟩:∃ z,z = (dg n)[k]:=⟨_,rfl⟩
     have zr:=(dg_Dg n).get hB
     rw [← hz] at f10 zr
     have v2:=vl_take_succ hB
     rw [← hz] at v2
     have w1:=wrap_id (n:=x + c) (by omega) (by omega)
     have w2:=wrap_id (n:=x + c + z) (by omega) (by omega)
     obtain ⟨q1,q2⟩:=tdivmod (n:=x + c + z) (by omega)
     have w3:=wrap_id (n:=(x + c + z) / 1000000000) (by omega) (by omega)
     have c6:=fil_set o g ((x + c + z) % 1000000000) ho
     refine .inl ⟨_,by simp only [go_sem,h0,h1,h5,h6,h20,h21,h22,hnx,hσ,f1,f2,f3,f5,f6,f7,f8,f9,f10,w1,w2,w3,q1,q2,c5,c6]; rfl,?_⟩
     simp only [go_sem,h0,h1,h5,h20,h21,hg']
     refine ⟨rfl,hnx,_,_,rfl,rfl,by simp [ho],hd.snoc (by omega) (by omega),?_,by omega,by omega⟩
     rw [vl_snoc,ho,bp_succ,v1,v2,carry_step (n:=x + c + z) (by omega),Int.mul_add,Int.mul_add]
     omega
    ·have f8:¬(k:Int) < ((dg n).length:Int):=by omega
     have v2:=bp_take_all (xs:=dg n) (k:=k) (by omega)
     have w1:=wrap_id (n:=x + c) (by omega) (by omega)
     obtain ⟨q1,q2⟩:=tdivmod (n:=x + c) (by omega)
     have w3:=wrap_id (n:=(x + c) / 1000000000) (by omega) (by omega)
     have c6:=fil_set o g ((x + c) % 1000000000) ho
     refine .inl ⟨_,by simp only [go_sem,h0,h1,h5,h6,h20,h21,h22,hnx,hσ,f1,f2,f3,f5,f6,f7,f8,w1,w3,q1,q2,c5,c6]; rfl,?_⟩
     simp only [go_sem,h0,h1,h5,h20,h21,hg']
     refine ⟨rfl,hnx,_,_,rfl,rfl,by simp [ho],hd.snoc (by omega) (by omega),?_,by omega,by omega⟩
     rw [vl_snoc,ho,bp_succ,v1,v2,carry_step (n:=x + c) (by omega),Int.mul_add]
     omega) (by
    clear hL
    rintro ⟨T,σ,nx⟩ ⟨h0,h1,h5,h20,h21,h22,hnx,c,o,h6,hσ,ho,hd,hv,hc0,hc1⟩
    simp only at h0 h1 h5 h20 h21 h22 hnx h6 hσ
    refine ⟨_,by simp only [go_sem,h21,h22,Int.lt_irrefl]; rfl,by simp,_,_,_,c,o,rfl,by simp only [go_sem,h0],by simp only [go_sem,h5],by simp only [go_sem,h6],hnx,?_,ho,hd,?_,hc0,hc1⟩
    ·rw [hσ,show (dg m).length + 1 - (dg m).length = 1 by omega]
    ·rw [hv,List.take_length,List.take_of_length_le hBA,vl_dg,vl_dg]; omega) (by
    simp only [go_sem]
    exact ⟨0,[],rfl,rfl,rfl,Dg.nil,by simp [vl],Int.le_refl _,by decide⟩)
  have c5:(dg m).length < (fil o (0 + 1)).length:=by rw [fil_len]; omega
  have c6:=fil_set o 0 c ho
  have f2:(0:Int) ≤ ((dg m).length:Int):=by omega
  have f7:((dg m).length:Int) < (((dg m).length + 1:Nat):Int):=by omega
  have hD:Dg (o ++ [c]):=hd.snoc hc0 (by omega)
  have ht:=itrim (o ++ [c]) (by unfold Short; simp; omega)
  rw [trim_vl' (n:=m + n) hD (by rw [vl_snoc,ho,hv])] at ht
  have hl:(o ++ [c]).length = (dg m).length + 1:=by simp [ho]
  have ht':fn Tryz.prog conv ext 123 [.ts ((o ++ [c]).flatMap cI) ((dg m).length + 1)] = some (LI (dg (m + n))):=by rw [← hl]; exact ht
  have tk:List.take ((dg m).length + 1) ((o ++ [c]).flatMap cI) = (o ++ [c]).flatMap cI:=by rw [← hl]; exact cI_takeall _
  have hl2:((o ++ [c]).flatMap cI).length = (dg m).length + 1:=by rw [cI_len,hl]
  have hσ':σ' 0 = some ⟨fil o (0 + 1),1,true⟩:=hσ
  simp only [go_sem,h0,h5,h6,hnx,hσ',f2,f7,c5,c6,fil_full,hl2,tk,ht']
end Go.Proofs.YtoccmbjfkbemcaaGreat
namespace Go.Proofs.YtoccmbjfkbemcaaGreat
open Go Go.TV
theorem borrow_step {P x q n v:Int} (h:x = n + 1000000000 * q):v + P * x - 1000000000 * P * q = v + P * n:=by subst h; grind
theorem iminus (m n:Nat) (hm:ln m ≤ 1000000) (hle:n ≤ m):fn Tryz.prog conv ext 125 [LI (dg m),LI (dg n)] = some (LI (dg (m - n))):=by
 have hBA:(dg n).length ≤ (dg m).length:=ln_mono hle
 unfold ln at hm
 rw [fn_eq,ev_eqQ (rs:=[.tmp 4]) [] rfl Tryz.func125 rfl rfl (by kernel_rfl) (by kernel_rfl)]
 obtain ⟨e1,e2,e3⟩:=make_ok (k:=(dg m).length) (by omega)
 simp only [go_sem,e1,e2,e3]
 generalize hL:evLoopI _ _ = y
 obtain ⟨r,rfl,T',σ',nx',o,rfl,h5,hnx,hσ,ho,hd,hv⟩:=count_rule hL (dg m).length (fun k st => st.T 0 = LI (dg m)∧st.T 1 = LI (dg n)∧st.T 5 = .rs 0 0 (dg m).length∧st.T 12 = LI (dg m)∧st.T 13 = I (dg m).length∧st.T 14 = I k∧0 < st.nx∧∃ c o,st.T 6 = I c∧st.σ 0 = some ⟨fil o ((dg m).length - k),1,true⟩∧o.length = k∧Dg o∧vl o - bp k * c = vl ((dg m).take k) - vl ((dg n).take k)∧0 ≤ c∧c ≤ 1)
  (fun r => ∃ T σ nx o,r = (.exit 0,⟨T,σ,nx⟩)∧T 5 = .rs 0 0 (dg m).length∧0 < nx∧σ 0 = some ⟨o.flatMap cI,1,true⟩∧o.length = (dg m).length∧Dg o∧vl o = (m - n:Nat)) (by
   clear hL
   rintro k ⟨T,σ,nx⟩ hlt ⟨h0,h1,h5,h12,h13,h14,hnx,c,o,h6,hσ,ho,hd,hv,hc0,hc1⟩
   simp only at h0 h1 h5 h12 h13 h14 hnx h6 hσ
   have f1:(k:Int) < ((dg m).length:Int):=by omega
   have f2:(0:Int) ≤ (k:Int):=by omega
   have f3:=wrap_id (n:=(k:Int) + 1) (by omega) (by omega)
   have f5:=slot_ne (c:=cI) (s:=1) (fun _ => rfl) (by omega) (dg m) k hlt
   have f6:=idx hlt
   obtain ⟨x,hx⟩:∃ x,x = (dg m)[k]:=⟨_,rfl⟩
   have xr:=(dg_Dg m).get hlt
   rw [← hx] at f6 xr
   obtain ⟨g,hg⟩:∃ g,(dg m).length - k = g + 1:=⟨(dg m).length - k - 1,by omega⟩
   have hg':(dg m).length - (k + 1) = g:=by omega
   rw [hg] at hσ
   have c5:k < (fil o (g + 1)).length:=by rw [fil_len]; omega
   have v1:=vl_take_succ hlt
   rw [← hx] at v1
   have nf:¬(0:Int) < 0:=by decide
   have w1:=wrap_id (n:=x - c) (by omega) (by omega)
   by_cases hB:k < (dg n).length
   ·have f8:(k:Int) < ((dg n).length:Int):=by omega
    have f9:=slot_ne (c:=cI) (s:=1) (fun _ => rfl) (by omega) (dg n) k hB
    have f10:=idx hB
    obtain ⟨z,hz⟩:∃ z,z = (dg n)[k]:=⟨_,rfl⟩
    have zr:=(dg_Dg n).get hB
    rw [← hz] at f10 zr
    have v2:=vl_take_succ hB
    rw [← hz] at v2
    have w2:=wrap_id (n:=x - c - z) (by omega) (by omega)
    by_cases hneg:x - c - z < 0
    ·have w3:=wrap_id (n:=x - c - z + 1000000000) (by omega) (by omega)
     have c6:=fil_set o g (x - c - z + 1000000000) ho
     refine .inl ⟨_,by simp only [go_sem,h0,h1,h5,h6,h12,h13,h14,hnx,hσ,f1,f2,f3,f5,f6,f8,f9,f10,w1,w2,w3,hneg,c5,c6]; rfl,?_⟩
     simp only [go_sem,h0,h1,h5,h12,h13,hg']
     refine ⟨rfl,hnx,_,_,rfl,rfl,by simp [ho],hd.snoc (by omega) (by omega),?_,by omega,by omega⟩
     rw [vl_snoc,ho,bp_succ,v1,v2,borrow_step (n:=x - c - z) (by omega),Int.mul_sub,Int.mul_sub]
     omega
    ·have c6:=fil_set o g (x - c - z) ho
     refine .inl ⟨_,by simp only [go_sem,h0,h1,h5,h6,h12,h13,h14,hnx,hσ,f1,f2,f3,f5,f6,f8,f9,f10,w1,w2,hneg,c5,c6]; rfl,?_⟩
     simp only [go_sem,h0,h1,h5,h12,h13,hg']
     refine ⟨rfl,hnx,_,_,rfl,rfl,by simp [ho],hd.snoc (by omega) (by omega),?_,by omega,by omega⟩
     rw [vl_snoc,ho,bp_succ,v1,v2,borrow_step (n:=x - c - z) (by omega),Int.mul_sub,Int.mul_sub]
     omega
   ·have f8:¬(k:Int) < ((dg n).length:Int):=by omega
    have v2:=bp_take_all (xs:=dg n) (k:=k) (by omega)
    by_cases hneg:x - c < 0
    ·have w3:=wrap_id (n:=x - c + 1000000000) (by omega) (by omega)
     have c6:=fil_set o g (x - c + 1000000000) ho
     refine .inl ⟨_,by simp only [go_sem,h0,h1,h5,h6,h12,h13,h14,hnx,hσ,f1,f2,f3,f5,f6,f8,w1,w3,hneg,c5,c6]; rfl,?_⟩
     simp only [go_sem,h0,h1,h5,h12,h13,hg']
     refine ⟨rfl,hnx,_,_,rfl,rfl,by simp [ho],hd.snoc (by omega) (by omega),?_,by omega,by omega⟩
     rw [vl_snoc,ho,bp_succ,v1,v2,borrow_step (n:=x - c) (by omega),Int.mul_sub]
     omega
    ·have c6:=fil_set o g (x - c) ho
     refine .inl ⟨_,by simp only [go_sem,h0,h1,h5,h6,h12,h13,h14,hnx,hσ,f1,f2,f3,f5,f6,f8,w1,hneg,c5,c6]; rfl,?_⟩
     simp only [go_sem,h0,h1,h5,h12,h13,hg']
     refine ⟨rfl,hnx,_,_,rfl,rfl,by simp [ho],hd.snoc (by omega) (by omega),?_,by omega,by omega⟩
     rw [vl_snoc,ho,bp_succ,v1,v2,borrow_step (n:=x - c) (by omega),Int.mul_sub]
     omega) (by
   clear hL
   rintro ⟨T,σ,nx⟩ ⟨h0,h1,h5,h12,h13,h14,hnx,c,o,h6,hσ,ho,hd,hv,hc0,hc1⟩
   simp only at h0 h1 h5 h12 h13 h14 hnx h6 hσ
   rw [Nat.sub_self,fil_full] at hσ
   refine ⟨_,by simp only [go_sem,h13,h14,Int.lt_irrefl]; rfl,by simp,_,_,_,o,rfl,by simp only [go_sem,h5],hnx,hσ,ho,hd,?_⟩
   rw [List.take_length,List.take_of_length_le hBA,vl_dg,vl_dg,← ho] at hv
   have h7:=vl_lt hd
   have h8:=vl_nonneg hd
   have h9:=bp_pos o.length
   have hc:c = 0:=Classical.byContradiction fun hne => by
    have:c = 1:=by omega
    subst this
    rw [Int.mul_one] at hv
    omega
   subst hc
   rw [Int.mul_zero] at hv
   omega) (by
   simp only [go_sem]
   exact ⟨0,[],rfl,rfl,rfl,Dg.nil,by simp [vl],Int.le_refl _,by decide⟩)
 have ht:=itrim o (by unfold Short; omega)
 rw [trim_vl' hd hv] at ht
 have ht':fn Tryz.prog conv ext 123 [.ts (o.flatMap cI) (dg m).length] = some (LI (dg (m - n))):=by rw [← ho]; exact ht
 have tk:List.take (dg m).length (o.flatMap cI) = o.flatMap cI:=by rw [← ho]; exact cI_takeall _
 have hl2:(o.flatMap cI).length = (dg m).length:=by rw [cI_len,ho]
 simp only [go_sem,h5,hnx,hσ,hl2,tk,ht']
theorem vl_set {xs:List Int} {k:Nat} (h:k < xs.length) (y:Int):vl (xs.set k y) = vl xs + bp k * (y - xs[k]):=by
 induction xs generalizing k with
 | nil => cases h
 | cons x xs ih =>
  cases k with
  | zero =>
   rw [List.set_cons_zero,bp_zero]
   show y + 1000000000 * vl xs = x + 1000000000 * vl xs + 1 * (y - x)
   omega
  | succ k =>
   have h':k < xs.length:=by simpa using h
   rw [List.set_cons_succ,bp_succ]
   show x + 1000000000 * vl (xs.set k y) = x + 1000000000 * vl xs + 1000000000 * bp k * (y - xs[k])
   rw [ih h',Int.mul_add,Int.mul_assoc]
   omega
theorem Dg.set {xs:List Int} (h:Dg xs) (k:Nat) {y:Int} (h0:0 ≤ y) (h1:y < 1000000000):Dg (xs.set k y):=fun x hx => by
 rcases List.mem_or_eq_of_mem_set hx with h2 | h2
 ·exact h x h2
 ·rw [h2]; exact ⟨h0,h1⟩
theorem cI_set (xs:List Int) (k:Nat) (y:Int):(xs.flatMap cI).set k (I y) = (xs.set k y).flatMap cI:=by
 induction xs generalizing k with
 | nil => rfl
 | cons x xs ih =>
  cases k with
  | zero => rfl
  | succ k =>
   show I x :: (xs.flatMap cI).set k (I y) = I x :: (xs.set k y).flatMap cI
   rw [ih]
theorem fil_set_in {o:List Int} {k:Nat} (r:Nat) (y:Int) (h:k < o.length):(fil o r).set k (I y) = fil (o.set k y) r:=by
 unfold fil
 rw [List.set_append_left _ _ (by rw [cI_len]; exact h),cI_set]
theorem fil_get {o:List Int} {k:Nat} (r:Nat) (h:k < o.length):(fil o r)[k]? = some (I o[k]):=by
 unfold fil
 rw [List.getElem?_append_left (by rw [cI_len]; exact h),idx h]
theorem mul_lt9 {x y c w:Int} (hx:0 ≤ x∧x < 1000000000) (hy:0 ≤ y∧y < 1000000000) (hc:0 ≤ c∧c < 1000000000) (hw:0 ≤ w∧w < 1000000000):0 ≤ x * y∧x * y ≤ 999999998000000001∧(w + x * y + c) / 1000000000 < 1000000000:=by
 have h1:=Int.mul_nonneg hx.1 hy.1
 have h2:x * y ≤ 999999999 * 999999999:=Int.mul_le_mul (by omega) (by omega) hy.1 (by omega)
 omega
end Go.Proofs.YtoccmbjfkbemcaaGreat
