import Derived.Test.YtoccmbjfkbemcaaGreatTb4
set_option linter.unusedSimpArgs false
set_option linter.unusedVariables false
set_option linter.unusedSectionVars false
namespace Go.Proofs.YtoccmbjfkbemcaaGreat
open Go Go.TV
def CurAt (σ:Store) (c:Nat) (xs:List Int):Prop:=∃ i h,σ c = some (Cur xs i h 0)∧0 ≤ i∧i ≤ xs.length
theorem CurAt.upd {σ:Store} {c b:Nat} {xs:List Int} {x:Option Blk} (h:CurAt σ c xs) (hb:c ≠ b):CurAt (upd σ b x) c xs:=by
 obtain ⟨i,g,h1,h2⟩:=h
 exact ⟨i,g,by rw [upd_ne _ _ hb]; exact h1,h2⟩
theorem sBelowC {xs:List Int} (hx:∀ x ∈ xs,0 ≤ x∧x ≤ 255) (hl:xs.length ≤ 1048576) {σ:Store} {c nx:Nat} (hc:CurAt σ c xs) (hn:c < nx) (n:Int) (h1:1 ≤ n) (h2:n ≤ 256) :
  ∃ r x,ev Tryz.prog conv ext 27 [.rp c 0,I n] σ nx = some (I r,upd σ c x,nx)∧(0 ≤ r∧r < n)∧CurAt (upd σ c x) c xs:=by
 obtain ⟨i,h,k1,k2⟩:=hc
 obtain ⟨r,i',h',k,b,j⟩:=sBelow xs hx hl i h k2 n h1 h2
 exact ⟨r,_,k c 0 nx σ k1 hn,b,i',h',upd_same _ _ _,j⟩
theorem sOnceC {xs:List Int} (hx:∀ x ∈ xs,0 ≤ x∧x ≤ 255) (hl:xs.length ≤ 1048576) {σ:Store} {c nx:Nat} (hc:CurAt σ c xs) (hn:c < nx) (n:Int) (h1:1 ≤ n) (h2:n ≤ 256) :
  ∃ r x,ev Tryz.prog conv ext 26 [.rp c 0,I n] σ nx = some (Bo r,upd σ c x,nx)∧CurAt (upd σ c x) c xs:=by
 obtain ⟨i,h,k1,k2⟩:=hc
 obtain ⟨r,i',h',k,j⟩:=sOnceA xs hx hl i h k2 n h1 h2
 exact ⟨r,_,k c 0 nx σ k1 hn,i',h',upd_same _ _ _,j⟩
theorem sPickC {xs:List Int} (hx:∀ x ∈ xs,0 ≤ x∧x ≤ 255) (hl:xs.length ≤ 1048576) {σ:Store} {c b nx:Nat} (hc:CurAt σ c xs) (hn:c < nx) (ks:List Int) (h1:1 ≤ ks.length) (h2:ks.length ≤ 256) (hb:σ b = some ⟨ks.flatMap cI,1,true⟩) (hbn:b < nx) (hne:b ≠ c) :
  ∃ r,∃ hr:r < ks.length,∃ x,ev Tryz.prog conv ext 39 [.rp c 0,.rs b 0 ks.length] σ nx = some (I ks[r],upd σ c x,nx)∧CurAt (upd σ c x) c xs:=by
 obtain ⟨i,h,k1,k2⟩:=hc
 obtain ⟨r,hr,i',h',k,j⟩:=sPickA xs hx hl i h k2 ks h1 h2
 exact ⟨r,hr,_,k c b nx σ k1 hb hn hbn hne,i',h',upd_same _ _ _,j⟩
theorem set_cI (xs:List Int) (k:Nat) (v:Int):(xs.flatMap cI).set k (I v) = (xs.set k v).flatMap cI:=by
 induction xs generalizing k with
 | nil => rfl
 | cons x xs ih =>
  cases k with
  | zero => rfl
  | succ k => show I x :: (xs.flatMap cI).set k (I v) = _; rw [ih]; rfl
theorem rep_zero_cI (n:Nat):rep n [V.sc (.int .i64 0)] = (List.replicate n (0:Int)).flatMap cI:=by
 induction n with
 | zero => rfl
 | succ n ih => rw [rep_succ,ih,List.replicate_succ]; rfl
def Bd (L:List Int):Prop:=∀ x ∈ L,-100 ≤ x∧x ≤ 100
theorem Bd.set {L:List Int} (h:Bd L) {k:Nat} {v:Int} (hv:-100 ≤ v∧v ≤ 100):Bd (L.set k v):=fun x hx => by
 rcases List.mem_or_eq_of_mem_set hx with hx | rfl
 ·exact h x hx
 ·exact hv
set_option maxHeartbeats 2000000 in
set_option maxRecDepth 10000 in
theorem sLoad {xs:List Int} (hx:∀ x ∈ xs,0 ≤ x∧x ≤ 255) (hl:xs.length ≤ 1048576) {js:List Joint} (hn1:1 ≤ js.length) (hn4:js.length ≤ 4) {σ:Store} {c nx jb:Nat} {w:V} {wr:Bool} (hc:CurAt σ c xs) (hcn:c < nx) (hj:σ jb = some ⟨js.flatMap cJoint,4,wr⟩) (hjn:jb < nx) (hjc:jb ≠ c) (hw:isCell w = true) :
  ∃ L lb σ' nx',ev Tryz.prog conv ext 38 [.rp c 0,.agg [.rs jb 0 js.length,w]] σ nx = some (.rs lb 0 (2 * js.length),σ',nx')∧L.length = 2 * js.length∧Bd L∧σ' lb = some ⟨L.flatMap cI,1,true⟩∧nx ≤ lb∧lb < nx'∧CurAt σ' c xs∧∀ q,q < nx→q ≠ c→σ' q = σ q:=by
 obtain ⟨n,en⟩:∃ n,n = js.length:=⟨_,rfl⟩
 have e1:(2 * (n:Int)).toNat = 2 * n:=by omega
 have w1:=wrap_id (n:=2 * (n:Int)) (by omega) (by omega)
 have e3:(0:Int) ≤ 2 * (n:Int):=by omega
 have e4:8 * (2 * (n:Int)) ≤ 281474976710656:=by omega
 have e5:2 * (n:Int) ≤ 9223372036854775807:=by omega
 rw [← en] at hn1 hn4 ⊢
 have cw:=cells_of_cell hw
 have nj:¬jb = nx:=by omega
 have nj1:¬jb = nx + 1:=by omega
 have nn:¬nx = nx + 1:=by omega
 have rz:=rep_zero_cI (2 * n)
 rw [ev_eqQ (rs:=[.tmp 4]) [] rfl Tryz.func38 rfl rfl (by kernel_rfl) (by kernel_rfl)]
 simp only [go_sem,hw,cw,w1,e1,e3,e4,e5,Int.le_refl,nj,nj1,nn,rz]
 generalize hL:evLoopI _ _ = y
 obtain ⟨x,rfl,T,σ1,nx1,rfl,t0,t5,hnx1,hC,L,hLl,hLb,hlb,hfr⟩:=count_rule hL n (fun k st => st.T 0 = .rp c 0∧st.T 5 = .rs (nx + 1) 0 (2 * n)∧st.T 14 = .rs jb 0 n∧st.T 15 = I n∧st.T 16 = I k∧nx + 1 < st.nx∧CurAt st.σ c xs∧∃ L:List Int,L.length = 2 * n∧Bd L∧st.σ (nx + 1) = some ⟨L.flatMap cI,1,true⟩∧∀ q,q < nx→q ≠ c→st.σ q = σ q)
  (fun x => ∃ T σ1 nx1,x = (.exit 0,⟨T,σ1,nx1⟩)∧T 0 = .rp c 0∧T 5 = .rs (nx + 1) 0 (2 * n)∧nx + 1 < nx1∧CurAt σ1 c xs∧∃ L:List Int,L.length = 2 * n∧Bd L∧σ1 (nx + 1) = some ⟨L.flatMap cI,1,true⟩∧∀ q,q < nx→q ≠ c→σ1 q = σ q) (by
   clear hL
   rintro k ⟨T,σ1,m⟩ hk ⟨t0,t5,t14,t15,t16,hm,hC,L,hLl,hLb,hlb,hfr⟩
   simp only at t0 t5 t14 t15 t16 hm hC hlb hfr
   have hk':k < js.length:=by omega
   have f1:(k:Int) < (n:Int):=by omega
   have f2:(0:Int) ≤ (k:Int):=by omega
   have f3:=wrap_id (n:=(k:Int) + 1) (by omega) (by omega)
   have f4:=slot (c:=cJoint) (s:=4) (fun _ => rfl) js k hk'
   have f5:=slots_len (c:=cJoint) (s:=4) (fun _ => rfl) js
   rw [← en] at f5
   have f6:k * 4 + 4 ≤ n * 4:=by omega
   have hjb:σ1 jb = some ⟨js.flatMap cJoint,4,wr⟩:=by rw [hfr jb hjn hjc]; exact hj
   obtain ⟨j,ej⟩:∃ j,j = js[k]:=⟨_,rfl⟩
   rw [← ej] at f4
   obtain ⟨jn,jx,jy,jf⟩:=j
   obtain ⟨σ2,e2⟩:∃ σ2,σ2 = upd σ1 m (some ⟨cJoint ⟨jn,jx,jy,jf⟩,0,true⟩):=⟨_,rfl⟩
   have m1:σ2 m = some ⟨cJoint ⟨jn,jx,jy,jf⟩,0,true⟩:=by rw [e2,upd_same]
   have hC2:CurAt σ2 c xs:=by rw [e2]; exact hC.upd (by omega)
   have hlb2:σ2 (nx + 1) = some ⟨L.flatMap cI,1,true⟩:=by rw [e2,upd_ne _ _ (by omega)]; exact hlb
   have hfr2:∀ q,q < nx→q ≠ c→σ2 q = σ q:=fun q h1 h2 => by rw [e2,upd_ne _ _ (by omega)]; exact hfr q h1 h2
   have hlen:(L.flatMap cI).length = 2 * n:=by rw [cI_len,hLl]
   cases jf with
   | true =>
    refine .inl ⟨_,by simp only [go_sem,t0,t5,t14,t15,t16,f1,f2,f3,f4,f5,f6,hjb,← e2,m1]; rfl,?_⟩
    simp only [go_sem,t0,t5,t14,t15]
    exact ⟨rfl,by omega,hC2,L,hLl,hLb,hlb2,hfr2⟩
   | false =>
    obtain ⟨r1,x1,k1,b1,hC3⟩:=sBelowC hx hl hC2 (show c < m + 1 by omega) 7 (by decide) (by decide)
    have g1:=wrap_id (n:=2 * (k:Int)) (by omega) (by omega)
    have g2:=wrap_id (n:=r1 - 3) (by omega) (by omega)
    have g3:(2 * (k:Int)).toNat = 2 * k:=by omega
    have g4:(0:Int) ≤ 2 * (k:Int):=by omega
    have g5:2 * (k:Int) < ((2 * n:Nat):Int):=by omega
    have g6:2 * k < 2 * n:=by omega
    have hl3:upd σ2 c x1 (nx + 1) = some ⟨L.flatMap cI,1,true⟩:=by rw [upd_ne _ _ (by omega)]; exact hlb2
    have s1:=set_cI L (2 * k) (r1 - 3)
    obtain ⟨σ3,e3⟩:∃ σ3,σ3 = upd (upd σ2 c x1) (nx + 1) (some ⟨(L.set (2 * k) (r1 - 3)).flatMap cI,1,true⟩):=⟨_,rfl⟩
    have hC4:CurAt σ3 c xs:=by rw [e3]; exact hC3.upd (by omega)
    obtain ⟨r2,x2,k2,b2,hC5⟩:=sBelowC hx hl hC4 (show c < m + 1 by omega) 9 (by decide) (by decide)
    have g7:=wrap_id (n:=2 * (k:Int) + 1) (by omega) (by omega)
    have g8:=wrap_id (n:=0 - r2) (by omega) (by omega)
    have g9:(2 * (k:Int) + 1).toNat = 2 * k + 1:=by omega
    have g10:(0:Int) ≤ 2 * (k:Int) + 1:=by omega
    have g11:2 * (k:Int) + 1 < ((2 * n:Nat):Int):=by omega
    have g12:2 * k + 1 < 2 * n:=by omega
    have hl4:upd σ3 c x2 (nx + 1) = some ⟨(L.set (2 * k) (r1 - 3)).flatMap cI,1,true⟩:=by rw [upd_ne _ _ (by omega),e3,upd_same]
    have s2:=set_cI (L.set (2 * k) (r1 - 3)) (2 * k + 1) (0 - r2)
    have hlen2:((L.set (2 * k) (r1 - 3)).flatMap cI).length = 2 * n:=by rw [cI_len,List.length_set,hLl]
    refine .inl ⟨_,by simp only [go_sem,call_inl,t0,t5,t14,t15,t16,f1,f2,f3,f4,f5,f6,hjb,← e2,m1,k1,g1,g2,g3,g4,g5,g6,hl3,hlen,s1,← e3,k2,g7,g8,g9,g10,g11,g12,hl4,s2,hlen2]; rfl,?_⟩
    simp only [go_sem,t0,t5,t14,t15]
    refine ⟨rfl,by omega,hC5.upd (by omega),(L.set (2 * k) (r1 - 3)).set (2 * k + 1) (0 - r2),by rw [List.length_set,List.length_set,hLl],(hLb.set (by omega)).set (by omega),rfl,fun q h1 h2 => ?_⟩
    rw [upd_ne _ _ (by omega),upd_ne _ _ h2,e3,upd_ne _ _ (by omega),upd_ne _ _ h2]
    exact hfr2 q h1 h2) (by
   clear hL
   rintro ⟨T,σ1,m⟩ ⟨t0,t5,t14,t15,t16,hm,hC,L,hLl,hLb,hlb,hfr⟩
   simp only at t0 t5 t14 t15 t16 hm hC hlb hfr
   exact ⟨_,by simp only [go_sem,t15,t16,Int.lt_irrefl]; rfl,by simp,_,_,_,rfl,by simp only [go_sem,t0],by simp only [go_sem,t5],hm,hC,L,hLl,hLb,hlb,hfr⟩) (by
   simp only [go_sem]
   refine ⟨by omega,(hc.upd (by omega)).upd (by omega),List.replicate (2 * n) 0,by simp,fun x hx => by rw [List.eq_of_mem_replicate hx]; omega,rfl,fun q h1 h2 => ?_⟩
   rw [upd_ne _ _ (by omega),upd_ne _ _ (by omega)])
 obtain ⟨r,x3,k3,hC2⟩:=sOnceC hx hl hC (show c < nx1 by omega) 8 (by decide) (by decide)
 have hl3:upd σ1 c x3 (nx + 1) = some ⟨L.flatMap cI,1,true⟩:=by rw [upd_ne _ _ (by omega)]; exact hlb
 have hlen:(L.flatMap cI).length = 2 * n:=by rw [cI_len,hLl]
 have hfr2:∀ q,q < nx→q ≠ c→upd σ1 c x3 q = σ q:=fun q h1 h2 => by rw [upd_ne _ _ h2]; exact hfr q h1 h2
 cases r with
 | false =>
  simp only [go_sem,call_inl,t0,t5,k3]
  exact ⟨L,nx + 1,_,_,rfl,hLl,hLb,hl3,by omega,by omega,hC2,hfr2⟩
 | true =>
  have g7:=wrap_id (n:=((2 * n:Nat):Int) - 1) (by omega) (by omega)
  have g9:(((2 * n:Nat):Int) - 1).toNat = 2 * n - 1:=by omega
  have g10:(0:Int) ≤ ((2 * n:Nat):Int) - 1:=by omega
  have g11:((2 * n:Nat):Int) - 1 < ((2 * n:Nat):Int):=by omega
  have g12:2 * n - 1 < 2 * n:=by omega
  have s2:=set_cI L (2 * n - 1) 4
  simp only [go_sem,call_inl,t0,t5,k3,g7,g9,g10,g11,g12,hl3,hlen,s2]
  refine ⟨L.set (2 * n - 1) 4,nx + 1,_,_,rfl,by rw [List.length_set,hLl],hLb.set (by omega),upd_same _ _ _,by omega,by omega,hC2.upd (by omega),fun q h1 h2 => ?_⟩
  rw [upd_ne _ _ (by omega)]
  exact hfr2 q h1 h2
end Go.Proofs.YtoccmbjfkbemcaaGreat
namespace Go.Proofs.YtoccmbjfkbemcaaGreat
open Go Go.TV Go.Lp
attribute [-go_sem] app_rs
def GrowG {α:Type} (c:α→List V) (s:Nat) (T:Nat→V) (σ:Store) (nx t:Nat) (acc:List α):Prop:=(T t = .nil∧acc = [])∨∃ b,T t = .rs b 0 acc.length∧acc ≠ []∧σ b = some ⟨acc.flatMap c,s,true⟩∧b < nx
section
variable {α:Type} {c:α→List V} {s:Nat} {T:Nat→V} {σ:Store} {nx t:Nat} {acc:List α}
theorem growG_alloc (hg:GrowG c s T σ nx t acc) (x:Option Blk):GrowG c s T (upd σ nx x) (nx + 1) t acc:=by
 rcases hg with ⟨g1,g2⟩ | ⟨b,g1,g2,g3,g4⟩
 ·exact .inl ⟨g1,g2⟩
 ·exact .inr ⟨b,g1,g2,by rw [upd_ne _ _ (by omega)]; exact g3,by omega⟩
theorem growG_eq {T':Nat→V} {t':Nat} (h:T' t' = T t) (hg:GrowG c s T σ nx t acc):GrowG c s T' σ nx t' acc:=by
 unfold GrowG at *
 rw [h]; exact hg
theorem growG_append (hc:∀ x,(c x).length = s) (hcell:∀ x,(c x).all isCell = true) (hs:0 < s) {bytes:Nat} (hg:GrowG c s T σ nx t acc) (x:α) (hl:acc.length < 100000) (hb:bytes ≤ 1000) :
  ∃ σ',appendTo (upd σ nx (some ⟨c x,s,true⟩)) (nx + 1) s bytes (T t) (c x) 1 = some (.rs (nx + 1) 0 (acc.length + 1),σ',nx + 1 + 1)∧σ' (nx + 1) = some ⟨(acc ++ [x]).flatMap c,s,true⟩∧∀ y,y < nx→(∀ b o l,T t = .rs b o l→y ≠ b)→σ' y = σ y:=by
 have hm:acc.length + 1 ≤ maxLen:=by unfold maxLen; omega
 have hmul:(acc.length + 1) * bytes ≤ 100000 * 1000:=Nat.mul_le_mul (by omega) hb
 rcases hg with ⟨h1,rfl⟩ | ⟨b,h1,hne,hb',hbn⟩
 ·refine ⟨_,by rw [h1,app_nil,if_neg (by decide),if_pos ⟨by decide,by omega⟩]; rfl,?_⟩
  refine ⟨by simp [evBox,upd],fun y hy _ => ?_⟩
  unfold evBox
  rw [upd_ne _ _ (by omega),upd_ne _ _ (by omega)]
 ·have hlen:(acc.flatMap c).length = acc.length * s:=slots_len hc acc
  refine ⟨upd (upd (upd σ nx (some ⟨c x,s,true⟩)) b none) (nx + 1) (some ⟨acc.flatMap c ++ c x,s,true⟩),?_,?_,fun y hy hne => ?_⟩
  ·rw [h1,app_rs,upd_ne _ _ (by omega),hb']
   simp only [Option.bind_some]
   rw [if_neg (by decide),if_neg (by rw [hlen,Nat.add_mul]; omega),if_pos ⟨by rw [hlen]; omega,trivial,hm,by omega,hcell x⟩]
   rfl
  ·rw [upd_same,List.flatMap_append]; simp
  ·have:=hne _ _ _ h1
   rw [upd_ne _ _ (by omega),upd_ne _ _ this,upd_ne _ _ (by omega)]
theorem growG_lt (hg:GrowG c s T σ nx t acc) {b o l:Nat} (h:T t = .rs b o l):b < nx:=by
 rcases hg with ⟨h1,_⟩ | ⟨b',h1,_,_,h2⟩
 ·rw [h1] at h; cases h
 ·rw [h1] at h; cases h; exact h2
theorem growG_new {σ':Store} (h:σ' (nx + 1) = some ⟨acc.flatMap c,s,true⟩) (ht:T t = .rs (nx + 1) 0 acc.length) (hne:acc ≠ []):GrowG c s T σ' (nx + 1 + 1) t acc:=.inr ⟨nx + 1,ht,hne,h,by omega⟩
theorem growG_strip (hc:∀ x,(c x).length = s) (d:Nat) (hst:∀ x,stripL (strip σ d) (c x) = some (c x,[])) (hg:GrowG c s T σ nx t acc):∃ ids,strip σ (d + 1) (T t) = some (LL c acc,ids):=by
 rcases hg with ⟨h1,rfl⟩ | ⟨b,h1,hne,hb,hbn⟩
 ·exact ⟨[],by rw [h1,strip_nil]; rfl⟩
 ·refine ⟨[b],?_⟩
  rw [h1,strip_rs,hb]
  have hl:=slots_len hc acc
  simp only [Option.bind_some,Nat.zero_add,List.drop_zero,hl,Nat.le_refl,if_true]
  rw [List.take_of_length_le (by omega),stripL_slots hst]
  rfl
end
theorem rep_one (z:List V):rep 1 z = z:=by simp [rep]
theorem patch_two (a b c d:V):patch [a,b] 0 [c,d] = [c,d]:=rfl
theorem len_two (a b:V):2 ≤ [a,b].length:=Nat.le_refl 2
attribute [go_sem] rep_one patch_two len_two
abbrev cCol (p:Int × Int):List V:=[I p.1,I p.2]
def colsOf (m:Member) (k:Nat):List (Int × Int):=(if m.kind = 2 then [] else [((k:Int),1)]) ++ (if m.kind = 1 then [] else [((k:Int),-1)])
def cols (s:Structure) (n:Nat):List (Int × Int):=(List.range n).flatMap fun k => colsOf (mem s k) k
theorem cols_succ (s:Structure) (n:Nat):cols s (n + 1) = cols s n ++ colsOf (mem s n) n:=by simp [cols,List.range_succ]
theorem colsOf_len (m:Member) (k:Nat):(colsOf m k).length ≤ 2:=by
 unfold colsOf
 split <;> split <;> simp
theorem cols_len (s:Structure):∀ n,(cols s n).length ≤ 2 * n
 | 0 => by simp [cols]
 | n + 1 => by
  rw [cols_succ,List.length_append]
  have:=cols_len s n
  have:=colsOf_len (mem s n) n
  omega
set_option maxRecDepth 10000 in
theorem icolumns {s:Structure} (h:SG s):fn Tryz.prog conv ext 78 [.tp (cStructure s) 0] = some (LL cCol (cols s s.members.length)):=by
 have hnm:=h.nm
 rw [fn_eq,ev_eqQ (rs:=[.tmp 2]) [] rfl Tryz.func78 rfl rfl (by kernel_rfl) (by kernel_rfl)]
 simp only [go_sem]
 generalize hL:evLoopI _ _ = y
 obtain ⟨r,rfl,T',σ',nx',rfl,h2⟩:=count_rule hL s.members.length (fun k st => st.T 9 = LL cMember s.members∧st.T 10 = I s.members.length∧st.T 11 = I k∧GrowG cCol 2 st.T st.σ st.nx 3 (cols s k))
  (fun r => ∃ T σ nx',r = (.exit 0,⟨T,σ,nx'⟩)∧GrowG cCol 2 T σ nx' 3 (cols s s.members.length)) (by
   clear hL
   rintro k ⟨T,σ,nx⟩ hlt ⟨h9,h10,h11,hg⟩
   simp only at h9 h10 h11 hg
   have f1:(k:Int) < (s.members.length:Int):=by omega
   have f2:(0:Int) ≤ (k:Int):=by omega
   have f3:=wrap_id (n:=(k:Int) + 1) (by omega) (by omega)
   have f4:=slot (c:=cMember) (s:=3) (fun _ => rfl) s.members k hlt
   have f5:=slots_len (c:=cMember) (s:=3) (fun _ => rfl) s.members
   have f6:k * 3 + 3 ≤ s.members.length * 3:=by omega
   have f9:=slot_ne (c:=cMember) (s:=3) (fun _ => rfl) (by omega) s.members k hlt
   have hr:=h.mr k hlt
   rw [mem_get hlt] at f4 hr
   have hle:=cols_len s k
   rw [cols_succ]
   obtain ⟨m1,e1⟩:∃ m1,m1 = mem s k:=⟨_,rfl⟩
   rw [← e1] at f4 hr ⊢
   have hg1:=fun x => growG_alloc hg x
   unfold colsOf
   by_cases k2:m1.kind = 2
   ·have g1:(m1.kind != 2) = false:=by simpa using k2
    have g2:(m1.kind != 1) = true:=by simp [k2]
    obtain ⟨σ',ha,hs,hfr⟩:=growG_append (c:=cCol) (s:=2) (bytes:=16) (fun _ => rfl) (fun _ => rfl) (by decide) (hg1 (some ⟨cMember m1,0,true⟩)) ((k:Int),-1) (by omega) (by decide)
    refine .inl ⟨_,by simp only [go_sem,h9,h10,h11,f1,f2,f3,f4,f5,f6,f9,g1,g2,ha]; rfl,?_⟩
    simp only [go_sem,h9,h10]
    rw [if_pos k2,if_neg (by omega),List.nil_append]
    exact ⟨rfl,growG_new hs (by simp [go_sem]) (by simp)⟩
   ·by_cases k1:m1.kind = 1
    ·have g1:(m1.kind != 2) = true:=by simpa using k2
     have g2:(m1.kind != 1) = false:=by simpa using k1
     obtain ⟨σ',ha,hs,hfr⟩:=growG_append (c:=cCol) (s:=2) (bytes:=16) (fun _ => rfl) (fun _ => rfl) (by decide) (hg1 (some ⟨cMember m1,0,true⟩)) ((k:Int),1) (by omega) (by decide)
     have hb0:σ' nx = some ⟨cMember m1,0,true⟩:=by
      rw [hfr nx (by omega) (fun b o l h => by have:=growG_lt hg h; omega),upd_same]
     refine .inl ⟨_,by simp only [go_sem,h9,h10,h11,f1,f2,f3,f4,f5,f6,f9,g1,g2,ha,hb0]; rfl,?_⟩
     simp only [go_sem,h9,h10]
     rw [if_neg k2,if_pos k1,List.append_nil]
     exact ⟨rfl,growG_new hs (by simp [go_sem]) (by simp)⟩
    ·have g1:(m1.kind != 2) = true:=by simpa using k2
     have g2:(m1.kind != 1) = true:=by simpa using k1
     obtain ⟨σ',ha,hs,hfr⟩:=growG_append (c:=cCol) (s:=2) (bytes:=16) (fun _ => rfl) (fun _ => rfl) (by decide) (hg1 (some ⟨cMember m1,0,true⟩)) ((k:Int),1) (by omega) (by decide)
     have hb0:σ' nx = some ⟨cMember m1,0,true⟩:=by
      rw [hfr nx (by omega) (fun b o l h => by have:=growG_lt hg h; omega),upd_same]
     have hg2:GrowG cCol 2 (upd T 3 (.rs (nx + 1 + 1) 0 ((cols s k).length + 1))) σ' (nx + 1 + 1 + 1) 3 (cols s k ++ [((k:Int),1)]):=growG_new hs (by simp [go_sem]) (by simp)
     obtain ⟨σ2,ha2,hs2,_⟩:=growG_append (c:=cCol) (s:=2) (bytes:=16) (fun _ => rfl) (fun _ => rfl) (by decide) hg2 ((k:Int),-1) (by simp; omega) (by decide)
     rw [upd_same] at ha2
     refine .inl ⟨_,by simp only [go_sem,h9,h10,h11,f1,f2,f3,f4,f5,f6,f9,g1,g2,ha,ha2,hb0]; rfl,?_⟩
     simp only [go_sem,h9,h10]
     rw [if_neg k2,if_neg k1,← List.append_assoc]
     exact ⟨rfl,growG_new hs2 (by simp [go_sem]) (by simp)⟩) (by
   rintro ⟨T,σ,nx⟩ ⟨h9,h10,h11,hg⟩
   simp only at h9 h10 h11 hg
   exact ⟨_,by simp only [go_sem,h10,h11,Int.lt_irrefl]; rfl,by simp,_,_,_,rfl,growG_eq (by simp only [go_sem]) hg⟩) (by
   simp only [go_sem]
   exact .inl ⟨by simp only [go_sem],rfl⟩)
 obtain ⟨ids,hs⟩:=growG_strip (c:=cCol) (s:=2) (fun _ => rfl) 6 (fun x => by rw [stripL_cons,strip_sc,stripL_cons,strip_sc,stripL_nil]; rfl) h2
 simp only [go_sem,hs]
end Go.Proofs.YtoccmbjfkbemcaaGreat
namespace Go.Proofs.YtoccmbjfkbemcaaGreat
open Go Go.TV Go.Lp
attribute [-go_sem] app_rs
theorem growG_appendL {α:Type} {c:α→List V} {s:Nat} {T:Nat→V} {σ:Store} {nx t:Nat} {acc:List α} (hc:∀ x,(c x).length = s) (hcell:∀ x,(c x).all isCell = true) (hs:0 < s) {bytes:Nat} (hg:GrowG c s T σ nx t acc) (xs:List α) (hx:xs ≠ []) (hl:acc.length + xs.length < 100000) (hb:bytes ≤ 1000) :
  ∃ σ',appendTo (upd σ nx (some ⟨xs.flatMap c,s,true⟩)) (nx + 1) s bytes (T t) (xs.flatMap c) xs.length = some (.rs (nx + 1) 0 (acc.length + xs.length),σ',nx + 1 + 1)∧σ' (nx + 1) = some ⟨(acc ++ xs).flatMap c,s,true⟩∧∀ y,y < nx→(∀ b o l,T t = .rs b o l→y ≠ b)→σ' y = σ y:=by
 have hm:acc.length + xs.length ≤ maxLen:=by unfold maxLen; omega
 have hx0:xs.length ≠ 0:=fun e => hx (List.eq_nil_of_length_eq_zero e)
 have hmul:(acc.length + xs.length) * bytes ≤ 100000 * 1000:=Nat.mul_le_mul (by omega) hb
 have hmul2:xs.length * bytes ≤ 100000 * 1000:=Nat.mul_le_mul (by omega) hb
 have hall:(xs.flatMap c).all isCell = true:=by
  rw [List.all_eq_true]
  intro v hv
  obtain ⟨x,-,h⟩:=List.mem_flatMap.mp hv
  exact List.all_eq_true.mp (hcell x) v h
 rcases hg with ⟨h1,rfl⟩ | ⟨b,h1,hne,hb',hbn⟩
 ·refine ⟨_,by rw [h1,app_nil,if_neg hx0,if_pos ⟨by unfold maxLen; omega,by omega⟩]; simp only [List.length_nil,Nat.zero_add]; rfl,?_⟩
  refine ⟨by simp [evBox,upd],fun y hy _ => ?_⟩
  unfold evBox
  rw [upd_ne _ _ (by omega),upd_ne _ _ (by omega)]
 ·have hlen:(acc.flatMap c).length = acc.length * s:=slots_len hc acc
  have hp:0 < xs.length * s:=Nat.mul_pos (by omega) hs
  refine ⟨upd (upd (upd σ nx (some ⟨xs.flatMap c,s,true⟩)) b none) (nx + 1) (some ⟨acc.flatMap c ++ xs.flatMap c,s,true⟩),?_,?_,fun y hy hne => ?_⟩
  ·rw [h1,app_rs,upd_ne _ _ (by omega),hb']
   simp only [Option.bind_some]
   rw [if_neg hx0,if_neg (by rw [hlen,Nat.add_mul]; omega),if_pos ⟨by rw [hlen]; omega,trivial,hm,by omega,hall⟩]
   rfl
  ·rw [upd_same,List.flatMap_append]
  ·have:=hne _ _ _ h1
   rw [upd_ne _ _ (by omega),upd_ne _ _ this,upd_ne _ _ (by omega)]
def eX (s:Structure) (j:Int) (k:Nat):Int:=if j = (mem s k).a then vx s k else if j = (mem s k).b then -vx s k else 0
def eY (s:Structure) (j:Int) (k:Nat):Int:=if j = (mem s k).a then vy s k else if j = (mem s k).b then -vy s k else 0
def rows2 (s:Structure) (j:Int):List (List Int):=[(List.range s.members.length).map (eX s j),(List.range s.members.length).map (eY s j)]
def equil (s:Structure) (n:Nat):List (List Int):=((free s).take n).flatMap (rows2 s)
abbrev cRw (r:List Int):List V:=[LI r]
abbrev cRf (n:Nat) (b:Nat):List V:=[.rs b 0 n]
def RowsAt (σ:Store) (nx t n:Nat) (T:Nat→V) (rb:List Nat) (R:List (List Int)):Prop :=
 GrowG (cRf n) 1 T σ nx t rb∧rb.length = R.length∧(∀ j (h:j < rb.length) (h':j < R.length),σ rb[j] = some ⟨R[j].flatMap cI,1,true⟩)∧(∀ r ∈ R,r.length = n)∧∀ b ∈ rb,b < nx∧∀ c o l,T t = .rs c o l→b ≠ c
theorem rowsAt_strip {σ:Store} {nx t n:Nat} {T:Nat→V} {rb:List Nat} {R:List (List Int)} (h:RowsAt σ nx t n T rb R) (d:Nat):∃ ids,strip σ (d + 1 + 1) (T t) = some (LL cRw R,ids):=by
 obtain ⟨hg,hl,hr,hn,-⟩:=h
 have key:∀ {rb:List Nat} {R:List (List Int)},rb.length = R.length→(∀ j (h:j < rb.length) (h':j < R.length),σ rb[j] = some ⟨R[j].flatMap cI,1,true⟩)→(∀ r ∈ R,r.length = n)→∃ ids,stripL (strip σ (d + 1)) (rb.flatMap (cRf n)) = some (R.flatMap cRw,ids):=by
  intro rb
  induction rb with
  | nil => intro R h1 _ _; cases R with
   | nil => exact ⟨[],rfl⟩
   | cons => cases h1
  | cons b rb ih => intro R h1 h2 h3; cases R with
   | nil => cases h1
   | cons r R =>
    obtain ⟨ids,e⟩:=ih (R:=R) (by simpa using h1) (fun j h h' => h2 (j + 1) (by simpa using h) (by simpa using h')) (fun x hx => h3 x (by simp [hx]))
    have e1:=ints_strip (h2 0 (by simp) (by simp)) (h3 _ (by simp)) d
    refine ⟨b :: ids,?_⟩
    rw [List.flatMap_cons,List.flatMap_cons,show cRf n b ++ rb.flatMap (cRf n) = V.rs b 0 n :: rb.flatMap (cRf n) from rfl,stripL_cons,show strip σ (d + 1) (V.rs b 0 n) = some (LI r,[b]) from e1,e]
    rfl
 rcases hg with ⟨h1,rfl⟩ | ⟨b,h1,hne,hb,hbn⟩
 ·have:R = []:=List.eq_nil_of_length_eq_zero (by simpa using hl.symm)
  subst this
  exact ⟨[],by rw [h1,strip_nil]; rfl⟩
 ·obtain ⟨ids,e⟩:=key hl hr hn
  refine ⟨b :: ids,?_⟩
  rw [h1,strip_rs,hb]
  have hlen:=slots_len (c:=cRf n) (s:=1) (fun _ => rfl) rb
  simp only [Option.bind_some,Nat.zero_add,List.drop_zero,hlen,Nat.le_refl,if_true]
  rw [List.take_of_length_le (by omega),e]
  simp only [Option.map_some]
  rw [hl]
theorem rowsAt_eq {σ σ':Store} {nx nx' t n:Nat} {T T':Nat→V} {rb:List Nat} {R:List (List Int)} (h:RowsAt σ nx t n T rb R) (ht:T' t = T t) (hn:nx ≤ nx') (e:∀ b,b < nx→σ' b = σ b):RowsAt σ' nx' t n T' rb R:=by
 obtain ⟨hg,hl,hr,hn',hb⟩:=h
 refine ⟨?_,hl,fun j h h' => ?_,hn',fun b h => ?_⟩
 ·rcases hg with ⟨g1,g2⟩ | ⟨b,g1,g2,g3,g4⟩
  ·exact .inl ⟨ht.trans g1,g2⟩
  ·exact .inr ⟨b,ht.trans g1,g2,by rw [e b g4]; exact g3,by omega⟩
 ·rw [e _ (hb _ (List.getElem_mem h)).1]; exact hr j h h'
 ·obtain ⟨h1,h2⟩:=hb b h
  exact ⟨by omega,fun c o l hc => h2 c o l (ht ▸ hc)⟩
theorem eq_bd {s:Structure} (h:SG s) (j:Int) (k:Nat):-100 ≤ eX s j k∧eX s j k ≤ 100∧-100 ≤ eY s j k∧eY s j k ≤ 100:=by
 have:=vec_bd h k
 unfold eX eY
 split
 ·omega
 ·split <;> omega
theorem rep_two1 (z:V):rep 2 [z] = [z,z]:=rfl
theorem set_two (x y a b:V):([x,y].set 0 a).set 1 b = [a,b]:=rfl
theorem one_two (a b:V):1 ≤ [a,b].length:=Nat.le_add_left 1 1
attribute [go_sem] rep_two1 set_two one_two
theorem equil_succ (s:Structure) {i:Nat} (h:i < (free s).length):equil s (i + 1) = equil s i ++ rows2 s (free s)[i]:=by
 unfold equil
 rw [List.take_add_one,List.getElem?_eq_getElem h,List.flatMap_append]
 simp
theorem rows_two {R:List (List Int)} {j:Nat} (a b:List Int) (h:j < (R ++ [a,b]).length):(R ++ [a,b])[j] = if h1:j < R.length then R[j] else if j = R.length then a else b:=by
 by_cases h1:j < R.length
 ·rw [List.getElem_append_left h1,dif_pos h1]
 ·rw [dif_neg h1,List.getElem_append_right (by omega)]
  rw [List.length_append] at h
  simp only [List.length_cons,List.length_nil] at h
  by_cases h2:j = R.length
  ·rw [if_pos h2]; simp [h2]
  ·rw [if_neg h2]
   have:j - R.length = 1:=by omega
   simp [this]
theorem free_len (s:Structure):(free s).length ≤ s.joints.length:=tru_len _ _
set_option maxRecDepth 10000 in
set_option maxHeartbeats 1000000 in
theorem iequilibrium {s:Structure} (h:SG s):fn Tryz.prog conv ext 80 [.tp (cStructure s) 0] = some (LL cRw (equil s (free s).length)):=by
 have hnm:=h.nm
 have hfl:=free_len s
 have hnj:=h.nj
 have k1:=ifreeJoints h
 obtain ⟨nm,hm⟩:∃ nm,nm = s.members.length:=⟨_,rfl⟩
 rw [fn_eq,ev_eqQ (rs:=[.tmp 2]) [] rfl Tryz.func80 rfl rfl (by kernel_rfl) (by kernel_rfl)]
 simp only [go_sem,k1]
 generalize hL:evLoopI _ _ = y
 obtain ⟨r,rfl,T',σ',nx',rb,rfl,h2⟩:=count_rule hL (free s).length (fun i st => st.T 0 = .tp (cStructure s) 0∧st.T 13 = LI (free s)∧st.T 14 = I (free s).length∧st.T 15 = I i∧∃ rb,RowsAt st.σ st.nx 3 nm st.T rb (equil s i))
  (fun r => ∃ T σ nx' rb,r = (.exit 0,⟨T,σ,nx'⟩)∧RowsAt σ nx' 3 nm T rb (equil s (free s).length)) (by
   clear hL
   rintro i ⟨T,σ,nx⟩ hlt ⟨h0,h13,h14,h15,rb,hR⟩
   simp only at h0 h13 h14 h15 hR
   have f1:(i:Int) < ((free s).length:Int):=by omega
   have f2:(0:Int) ≤ (i:Int):=by omega
   have f3:=wrap_id (n:=(i:Int) + 1) (by omega) (by omega)
   have f4:=idx (xs:=free s) (k:=i) hlt
   have f5:=slot_ne (c:=cI) (s:=1) (fun _ => rfl) (by omega) (free s) i hlt
   obtain ⟨j,hj⟩:∃ j,j = (free s)[i]:=⟨_,rfl⟩
   rw [← hj] at f4
   have m1:(0:Int) ≤ (s.members.length:Int):=by omega
   have m2:8 * (s.members.length:Int) ≤ 281474976710656:=by omega
   have m3:(s.members.length:Int) ≤ 9223372036854775807:=by omega
   refine step_of ?_
   conv =>
    enter [1,r,1,1]
    simp only [go_sem,h0,h13,h14,h15,f1,f2,f4,f5,m1,m2,m3]
   generalize hL:evLoopI _ _ = z
   obtain ⟨x,rfl,T1,σ1,nx1,rfl,t0,t6,t7,t13,t14,t15,hx,hy,hnx,hR1⟩:=count_rule hL s.members.length (fun k st => st.T 0 = .tp (cStructure s) 0∧st.T 5 = I j∧st.T 6 = .rs nx 0 s.members.length∧st.T 7 = .rs (nx + 1) 0 s.members.length∧st.T 13 = LI (free s)∧st.T 14 = I (free s).length∧st.T 15 = I i∧st.T 34 = LL cMember s.members∧st.T 35 = I s.members.length∧st.T 36 = I k ∧
     st.σ nx = some ⟨(pm (eX s j) (fun _ => 0) k s.members.length).flatMap cI,1,true⟩∧st.σ (nx + 1) = some ⟨(pm (eY s j) (fun _ => 0) k s.members.length).flatMap cI,1,true⟩∧nx + 1 < st.nx∧st.T 3 = T 3∧∀ b,b < nx→st.σ b = σ b)
    (fun x => ∃ T1 σ1 nx1,x = (.exit 2,⟨T1,σ1,nx1⟩)∧T1 0 = .tp (cStructure s) 0∧T1 6 = .rs nx 0 s.members.length∧T1 7 = .rs (nx + 1) 0 s.members.length∧T1 13 = LI (free s)∧T1 14 = I (free s).length∧T1 15 = I i∧σ1 nx = some ⟨(pm (eX s j) (fun _ => 0) s.members.length s.members.length).flatMap cI,1,true⟩∧σ1 (nx + 1) = some ⟨(pm (eY s j) (fun _ => 0) s.members.length s.members.length).flatMap cI,1,true⟩∧nx + 1 < nx1∧T1 3 = T 3∧∀ b,b < nx→σ1 b = σ b) (by
     clear hL
     rintro k ⟨T1,σ1,nx1⟩ hk ⟨t0,t5,t6,t7,t13,t14,t15,t34,t35,t36,hx,hy,hnx,t3,hs⟩
     simp only at t0 t5 t6 t7 t13 t14 t15 t34 t35 t36 hx hy hnx t3 hs
     have g1:(k:Int) < (s.members.length:Int):=by omega
     have g2:(0:Int) ≤ (k:Int):=by omega
     have g3:=wrap_id (n:=(k:Int) + 1) (by omega) (by omega)
     have g4:=slot (c:=cMember) (s:=3) (fun _ => rfl) s.members k hk
     rw [mem_get hk] at g4
     have g5:=slots_len (c:=cMember) (s:=3) (fun _ => rfl) s.members
     have g6:k * 3 + 3 ≤ s.members.length * 3:=by omega
     have g9:=slot_ne (c:=cMember) (s:=3) (fun _ => rfl) (by omega) s.members k hk
     have k2:=ivector h hk
     have hb:=vec_bd h k
     have q1:((pm (eX s j) (fun _ => 0) k s.members.length).flatMap cI).length = s.members.length:=by rw [cI_len,pm_len]
     have q2:((pm (eY s j) (fun _ => 0) k s.members.length).flatMap cI).length = s.members.length:=by rw [cI_len,pm_len]
     have q3:=pm_set (eX s j) (fun _ => 0) hk
     have q4:=pm_set (eY s j) (fun _ => 0) hk
     have d1:¬nx = nx1:=by omega
     have d2:¬nx + 1 = nx1:=by omega
     have d3:¬nx + 1 = nx:=by omega
     have d4:¬nx = nx + 1:=by omega
     have d5:¬nx1 = nx:=by omega
     have d6:¬nx1 = nx + 1:=by omega
     have g7:k + 1 ≤ s.members.length:=hk
     have w1:=wrap_id (n:=-vx s k) (by omega) (by omega)
     have w2:=wrap_id (n:=-vy s k) (by omega) (by omega)
     have w3:IntKind.i64.wrap (0 - vx s k) = -vx s k:=by rw [wrap_id (by omega) (by omega)]; omega
     have w4:IntKind.i64.wrap (0 - vy s k) = -vy s k:=by rw [wrap_id (by omega) (by omega)]; omega
     by_cases c1:j = (mem s k).a
     ·have e1:(j == (mem s k).a) = true:=by simpa using c1
      have e2:((pm (eX s j) (fun _ => 0) k s.members.length).flatMap cI).set k (I (vx s k)) = (pm (eX s j) (fun _ => 0) (k + 1) s.members.length).flatMap cI:=by
       rw [cI_set,← q3]; unfold eX; rw [if_pos c1]
      have e3:((pm (eY s j) (fun _ => 0) k s.members.length).flatMap cI).set k (I (vy s k)) = (pm (eY s j) (fun _ => 0) (k + 1) s.members.length).flatMap cI:=by
       rw [cI_set,← q4]; unfold eY; rw [if_pos c1]
      refine .inl ⟨_,by simp only [go_sem,t0,t5,t6,t7,t13,t14,t15,t34,t35,t36,hx,hy,g1,g2,g3,g4,g5,g6,g7,g9,k2,q1,q2,hk,d1,d2,d3,d4,d5,d6,e1,e2,e3]; rfl,?_⟩
      simp only [go_sem,t0,t5,t6,t7,t13,t14,t15,t34,t35,d1,d2,d3,d4]
      exact ⟨rfl,by omega,t3,fun b hb => by rw [upd_ne _ _ (by omega),upd_ne _ _ (by omega),upd_ne _ _ (by omega)]; exact hs b hb⟩
     ·have e1:(j == (mem s k).a) = false:=by simpa using c1
      by_cases c2:j = (mem s k).b
      ·have e4:(j == (mem s k).b) = true:=by simpa using c2
       have e2:((pm (eX s j) (fun _ => 0) k s.members.length).flatMap cI).set k (I (-vx s k)) = (pm (eX s j) (fun _ => 0) (k + 1) s.members.length).flatMap cI:=by
        rw [cI_set,← q3]; unfold eX; rw [if_neg c1,if_pos c2]
       have e3:((pm (eY s j) (fun _ => 0) k s.members.length).flatMap cI).set k (I (-vy s k)) = (pm (eY s j) (fun _ => 0) (k + 1) s.members.length).flatMap cI:=by
        rw [cI_set,← q4]; unfold eY; rw [if_neg c1,if_pos c2]
       refine .inl ⟨_,by simp only [go_sem,t0,t5,t6,t7,t13,t14,t15,t34,t35,t36,hx,hy,g1,g2,g3,g4,g5,g6,g7,g9,k2,q1,q2,hk,d1,d2,d3,d4,d5,d6,e1,e4,e2,e3,w1,w2,w3,w4]; rfl,?_⟩
       simp only [go_sem,t0,t5,t6,t7,t13,t14,t15,t34,t35,d1,d2,d3,d4]
       exact ⟨rfl,by omega,t3,fun b hb => by rw [upd_ne _ _ (by omega),upd_ne _ _ (by omega),upd_ne _ _ (by omega)]; exact hs b hb⟩
      ·have e4:(j == (mem s k).b) = false:=by simpa using c2
       have e2:=pm_same (eX s j) (fun _ => 0) (k:=k) (N:=s.members.length) (by unfold eX; rw [if_neg c1,if_neg c2])
       have e3:=pm_same (eY s j) (fun _ => 0) (k:=k) (N:=s.members.length) (by unfold eY; rw [if_neg c1,if_neg c2])
       refine .inl ⟨_,by simp only [go_sem,t0,t5,t6,t7,t13,t14,t15,t34,t35,t36,hx,hy,g1,g2,g3,g4,g5,g6,g7,g9,k2,q1,q2,hk,d1,d2,d3,d4,d5,d6,e1,e4]; rfl,?_⟩
       simp only [go_sem,t0,t5,t6,t7,t13,t14,t15,t34,t35,d1,d2,d3,d4]
       refine ⟨rfl,by rw [hx,e2],by rw [hy,e3],by omega,t3,fun b hb => by rw [upd_ne _ _ (by omega)]; exact hs b hb⟩) (by
     rintro ⟨T1,σ1,nx1⟩ ⟨t0,t5,t6,t7,t13,t14,t15,t34,t35,t36,hx,hy,hnx,t3,hs⟩
     simp only at t0 t5 t6 t7 t13 t14 t15 t34 t35 t36 hx hy hnx t3 hs
     have g1:¬(s.members.length:Int) < (s.members.length:Int):=by omega
     refine ⟨_,by simp only [go_sem,t35,t36,g1]; rfl,by simp,_,_,_,rfl,?_⟩
     simp only [go_sem,t0,t6,t7,t13,t14,t15]
     exact ⟨hx,hy,hnx,t3,hs⟩) (by
     simp only [go_sem,h0,h13,h14,h15]
     rw [pm_zero,pm_zero,range_const,← rep_ints,upd_ne _ _ (by omega),upd_same]
     exact ⟨rfl,rfl,by omega,fun b hb => by rw [upd_ne _ _ (by omega),upd_ne _ _ (by omega)]⟩)
   rw [pm_full] at hx hy
   have ht3:=hR1.1
   have hR1:RowsAt σ1 nx1 3 nm T1 rb (equil s i):=rowsAt_eq hR hR1.1 (by omega) hR1.2
   obtain ⟨hg,hl,hr,hln,hbl⟩:=hR1
   have hrl:rb.length ≤ 2 * i:=by
    rw [hl]; unfold equil
    have:=List.length_take_le i (free s)
    have e:∀ l:List Int,(l.flatMap (rows2 s)).length = 2 * l.length:=fun l => by
     induction l with
     | nil => rfl
     | cons a l ih => rw [List.flatMap_cons,List.length_append,ih,List.length_cons]; simp only [rows2,List.length_cons,List.length_nil]; omega
    rw [e]; omega
   obtain ⟨σ2,ha,hs2,hfr⟩:=growG_appendL (c:=cRf nm) (s:=1) (bytes:=24) (fun _ => rfl) (fun _ => rfl) (by decide) hg [nx,nx + 1] (by simp) (by simp only [List.length_cons,List.length_nil]; omega) (by decide)
   have ha:appendTo (upd σ1 nx1 (some ⟨[V.rs nx 0 s.members.length,V.rs (nx + 1) 0 s.members.length],1,true⟩)) (nx1 + 1) 1 24 (T1 3) [V.rs nx 0 s.members.length,V.rs (nx + 1) 0 s.members.length] 2 = some (.rs (nx1 + 1) 0 (rb.length + 2),σ2,nx1 + 1 + 1):=by rw [← hm]; exact ha
   refine ⟨_,by simp only [go_sem,t0,t6,t7,t13,t14,t15,f3,ha]; rfl,.inl ⟨_,rfl,?_⟩⟩
   simp only [go_sem,t0,t13,t14]
   have hsame:∀ b,b < nx1→(b ∈ rb∨b = nx∨b = nx + 1)→σ2 b = σ1 b:=fun b hb hc => by
    refine hfr b hb fun c o l h => ?_
    rcases hc with hc | hc | hc
    ·exact (hbl b hc).2 c o l h
    ·have:=growG_lt hR.1 (ht3 ▸ h); omega
    ·have:=growG_lt hR.1 (ht3 ▸ h); omega
   refine ⟨rfl,rb ++ [nx,nx + 1],?_⟩
   rw [equil_succ s hlt,← hj]
   refine ⟨.inr ⟨nx1 + 1,by simp [go_sem],by simp,hs2,by omega⟩,by simp [hl,rows2],fun q h1 h2 => ?_,fun r hr' => ?_,fun b hb => ?_⟩
   ·have hq:(equil s i ++ rows2 s j)[q] = if h1:q < (equil s i).length then (equil s i)[q] else if q = (equil s i).length then (List.range s.members.length).map (eX s j) else (List.range s.members.length).map (eY s j):=rows_two _ _ h2
    rw [hq]
    by_cases c1:q < rb.length
    ·rw [dif_pos (by omega),List.getElem_append_left c1,hsame _ (hbl _ (List.getElem_mem c1)).1 (.inl (List.getElem_mem c1))]
     exact hr q c1 (by omega)
    ·rw [dif_neg (by omega),List.getElem_append_right (by omega)]
     rw [List.length_append] at h1
     simp only [List.length_cons,List.length_nil] at h1
     by_cases c2:q = (equil s i).length
     ·rw [if_pos c2]
      have:q - rb.length = 0:=by omega
      simp only [this,List.getElem_cons_zero]
      rw [hsame nx (by omega) (.inr (.inl rfl))]; exact hx
     ·rw [if_neg c2]
      have:q - rb.length = 1:=by omega
      simp only [this,List.getElem_cons_succ,List.getElem_cons_zero]
      rw [hsame (nx + 1) (by omega) (.inr (.inr rfl))]; exact hy
   ·rcases List.mem_append.mp hr' with h | h
    ·exact hln r h
    ·simp only [rows2,List.mem_cons,List.not_mem_nil,or_false] at h
     rcases h with h | h <;> rw [h] <;> simp [hm]
   ·have hb2:b < nx1:=by
     rcases List.mem_append.mp hb with h | h
     ·exact (hbl b h).1
     ·simp only [List.mem_cons,List.not_mem_nil,or_false] at h; omega
    refine ⟨by omega,fun c o l h => ?_⟩
    simp only [go_sem,V.rs.injEq] at h
    omega) (by
   rintro ⟨T,σ,nx⟩ ⟨h0,h13,h14,h15,rb,hR⟩
   simp only at h0 h13 h14 h15 hR
   exact ⟨_,by simp only [go_sem,h14,h15,Int.lt_irrefl]; rfl,by simp,_,_,_,rb,rfl,rowsAt_eq hR (by simp only [go_sem]) (Nat.le_refl _) fun _ _ => rfl⟩) (by
   simp only [go_sem]
   refine ⟨[],.inl ⟨by simp only [go_sem],rfl⟩,by simp [equil],?_,?_,?_⟩
   ·intro j h; cases h
   ·intro r hr; simp [equil] at hr
   ·intro b hb; cases hb)
 obtain ⟨ids,hs⟩:=rowsAt_strip h2 5
 simp only [go_sem,hs]
end Go.Proofs.YtoccmbjfkbemcaaGreat
namespace Go.Proofs.YtoccmbjfkbemcaaGreat
open Go Go.TV Go.Lp
attribute [-go_sem] app_rs
def preL (X:List Int) (k:Nat):List Int:=X.take k ++ List.replicate (X.length - k) 0
theorem preL_len (X:List Int) {k:Nat} (h:k ≤ X.length):(preL X k).length = X.length:=by unfold preL; rw [List.length_append,List.length_take,List.length_replicate]; omega
theorem preL_zero (X:List Int):preL X 0 = List.replicate X.length 0:=by simp [preL]
theorem preL_full (X:List Int):preL X X.length = X:=by simp [preL]
theorem preL_set (X:List Int) {k:Nat} (h:k < X.length):(preL X k).set k X[k] = preL X (k + 1):=by
 unfold preL
 have h1:(X.take k).length = k:=by rw [List.length_take]; omega
 rw [List.set_append_right _ _ (by omega),h1,Nat.sub_self,show X.length - k = X.length - (k + 1) + 1 by omega,List.replicate_succ,List.set_cons_zero,take_snoc h,List.append_assoc]
 rfl
def fpA (s:Structure):List Int:=(equil s (free s).length).flatMap fun r => (cols s s.members.length).map fun p => p.2 * r.getD p.1.toNat 0
def fpB (s:Structure) (l:List Int):List Int:=(free s).flatMap fun j => [-l.getD (2 * j.toNat) 0,-l.getD (2 * j.toNat + 1) 0]
theorem flat_len {α:Type} (f:α→List Int) {C:Nat} (hf:∀ x,(f x).length = C):∀ xs:List α,(xs.flatMap f).length = xs.length * C
 | [] => by simp
 | x :: xs => by rw [List.flatMap_cons,List.length_append,flat_len f hf xs,hf,List.length_cons,Nat.succ_mul]; omega
theorem flat_get {α:Type} (f:α→List Int) {C:Nat} (hf:∀ x,(f x).length = C):∀ (xs:List α) {i c:Nat} (hi:i < xs.length) (hc:c < C),(xs.flatMap f)[i * C + c]? = (f xs[i])[c]?
 | x :: xs,0,c,_,hc => by rw [List.flatMap_cons,Nat.zero_mul,Nat.zero_add,List.getElem?_append_left (by rw [hf]; exact hc)]; rfl
 | x :: xs,i + 1,c,hi,hc => by
  rw [List.flatMap_cons,List.getElem?_append_right (by rw [hf,Nat.succ_mul]; omega),hf,show (i + 1) * C + c - C = i * C + c by rw [Nat.succ_mul]; omega,flat_get f hf xs (by simpa using hi) hc]
  rfl
theorem equil_len (s:Structure):(equil s (free s).length).length = 2 * (free s).length:=by
 unfold equil
 rw [List.take_length]
 induction free s with
 | nil => rfl
 | cons a l ih => rw [List.flatMap_cons,List.length_append,ih,List.length_cons]; simp only [rows2,List.length_cons,List.length_nil]; omega
theorem equil_row {s:Structure} {r:List Int} (h:r ∈ equil s (free s).length):r.length = s.members.length:=by
 unfold equil at h
 obtain ⟨j,-,h⟩:=List.mem_flatMap.mp h
 simp only [rows2,List.mem_cons,List.not_mem_nil,or_false] at h
 rcases h with h | h <;> rw [h] <;> simp
theorem equil_bd {s:Structure} (hs:SG s) {r:List Int} (h:r ∈ equil s (free s).length):∀ x ∈ r,-100 ≤ x∧x ≤ 100:=by
 unfold equil at h
 obtain ⟨j,-,h⟩:=List.mem_flatMap.mp h
 simp only [rows2,List.mem_cons,List.not_mem_nil,or_false] at h
 intro x hx
 rcases h with h | h <;> rw [h] at hx <;> obtain ⟨k,-,rfl⟩:=List.mem_map.mp hx
 ·have:=eq_bd hs j k; omega
 ·have:=eq_bd hs j k; omega
theorem cols_mem {s:Structure}:∀ {n:Nat} {p:Int × Int},p ∈ cols s n→(∃ k:Nat,p.1 = (k:Int)∧k < n)∧(p.2 = 1∨p.2 = -1):=fun {n p} h => by
 unfold cols at h
 obtain ⟨k,hk,h⟩:=List.mem_flatMap.mp h
 have hk':=List.mem_range.mp hk
 unfold colsOf at h
 rcases List.mem_append.mp h with h | h
 ·split at h
  ·cases h
  ·rw [List.mem_singleton.mp h]; exact ⟨⟨k,rfl,hk'⟩,.inl rfl⟩
 ·split at h
  ·cases h
  ·rw [List.mem_singleton.mp h]; exact ⟨⟨k,rfl,hk'⟩,.inr rfl⟩
theorem fpA_len (s:Structure):(fpA s).length = 2 * (free s).length * (cols s s.members.length).length:=by
 unfold fpA
 rw [flat_len _ (fun _ => List.length_map _),equil_len]
theorem fpB_len (s:Structure) (l:List Int):(fpB s l).length = 2 * (free s).length:=by
 unfold fpB
 rw [flat_len _ (C:=2) (fun _ => rfl)]; omega
def fpR (s:Structure):Nat:=2 * (free s).length
def fpC (s:Structure):Nat:=(cols s s.members.length).length
set_option maxRecDepth 10000 in
set_option maxHeartbeats 1000000 in
theorem iforceProgram {s:Structure} (h:SG s) {l:List Int} (hl:l.length = 2 * s.joints.length) (hb:∀ x ∈ l,-100 ≤ x∧x ≤ 100):fn Tryz.prog conv ext 74 [.tp (cStructure s) 0,LI l,I 0,I 0] = some (.agg (prR (fpR s) (fpC s) (fpA s) (fpB s l) (List.replicate (fpC s) 0))):=by
 have hnm:=h.nm
 have hfl:=free_len s
 have hnj:=h.nj
 have hcl:=cols_len s s.members.length
 have k1:=iequilibrium h
 have k2:=icolumns h
 have k3:=ifreeJoints h
 have hEl:=equil_len s
 obtain ⟨E,hE⟩:∃ E,E = equil s (free s).length:=⟨_,rfl⟩
 obtain ⟨K,hK⟩:∃ K,K = cols s s.members.length:=⟨_,rfl⟩
 have hR:E.length = fpR s:=by rw [hE]; exact hEl
 have hC:K.length = fpC s:=by rw [hK]; rfl
 have hRb:fpR s ≤ 12:=by unfold fpR; omega
 have hCb:fpC s ≤ 16:=by rw [← hC,hK]; omega
 have hAl:(fpA s).length = fpR s * fpC s:=fpA_len s
 have hRC:fpR s * fpC s ≤ 12 * 16:=Nat.mul_le_mul hRb hCb
 rw [← hE] at k1
 rw [← hK] at k2
 have k1:fn Tryz.prog conv ext 80 [.tp (cStructure s) 0] = some (.ts (E.flatMap cRw) (fpR s)):=by rw [← hR]; exact k1
 have k2:fn Tryz.prog conv ext 78 [.tp (cStructure s) 0] = some (.ts (K.flatMap cCol) (fpC s)):=by rw [← hC]; exact k2
 obtain ⟨R,eR⟩:∃ R,R = fpR s:=⟨_,rfl⟩
 obtain ⟨C,eC⟩:∃ C,C = fpC s:=⟨_,rfl⟩
 rw [← eR] at k1 hR hRb hAl hRC ⊢
 rw [← eC] at k2 hC hCb hAl hRC ⊢
 have f1:=wrap_id (n:=(R:Int)) (by omega) (by omega)
 have f2:=wrap_id (n:=(C:Int)) (by omega) (by omega)
 have e3:(R:Int) * (C:Int) = ((R * C:Nat):Int):=by push_cast; rfl
 have f3:=wrap_id (n:=((R * C:Nat):Int)) (by omega) (by omega)
 have f4:(0:Int) ≤ ((R * C:Nat):Int):=by omega
 have f5:8 * ((R * C:Nat):Int) ≤ 281474976710656:=by omega
 have f6:((R * C:Nat):Int) ≤ 9223372036854775807:=by omega
 have f7:(0:Int) ≤ (R:Int):=by omega
 have f8:8 * (R:Int) ≤ 281474976710656:=by omega
 have f9:(R:Int) ≤ 9223372036854775807:=by omega
 have f10:(0:Int) ≤ (C:Int):=by omega
 have f11:8 * (C:Int) ≤ 281474976710656:=by omega
 have f12:(C:Int) ≤ 9223372036854775807:=by omega
 have f13:(R:Int) + 0 = R:=by omega
 have f14:(C:Int) + 0 = C:=by omega
 rw [fn_eq,ev_eqQ (rs:=[.cell 8 117]) [3,10,16] rfl Tryz.func74 rfl rfl (by kernel_rfl) (by kernel_rfl)]
 unfold prR
 simp only [go_sem,k1,k2,f1,f2,e3,f3,f4,f5,f6,f7,f8,f9,f10,f11,f12,f13,f14]
 generalize hL:evLoopI _ _ = y
 have hAl2:=hAl
 obtain ⟨FA,eFA⟩:∃ FA,FA = fpA s:=⟨_,rfl⟩
 have hAg:∀ i c (hi:i < R) (hc:c < C) (hq:i * C + c < FA.length),FA[i * C + c] = (K[c]'(by omega)).2 * (E[i]'(by omega)).getD (K[c]'(by omega)).1.toNat 0:=fun i c hi hc hq => by
  have:=flat_get (fun r:List Int => K.map fun p => p.2 * r.getD p.1.toNat 0) (C:=C) (fun _ => by rw [List.length_map]; exact hC) E (i:=i) (c:=c) (by omega) hc
  rw [List.getElem?_map,List.getElem?_eq_getElem (l:=K) (i:=c) (by omega)] at this
  have e2:FA = E.flatMap fun r => K.map fun p => p.2 * r.getD p.1.toNat 0:=by rw [eFA,hE,hK]; rfl
  rw [← e2,List.getElem?_eq_getElem hq] at this
  exact Option.some.inj this
 rw [← eFA] at hAl ⊢
 obtain ⟨x,rfl,T1,σ1,nx1,rfl,t0,t1,t8,t11,hn1,s0,s1,s2,s3,s4⟩:=count_rule hL R (fun i st => st.T 0 = .tp (cStructure s) 0∧st.T 1 = LI l∧st.T 8 = .rp 0 0∧st.T 11 = .rp 1 0∧st.T 10 = .ts (K.flatMap cCol) C∧st.T 46 = .ts (E.flatMap cRw) R∧st.T 47 = I R∧st.T 48 = I i∧4 < st.nx ∧
   st.σ 0 = some ⟨[I 0,I 0,.nil,.nil,.nil],0,true⟩∧st.σ 1 = some ⟨[I R,I C,.rs 2 0 (R * C),.rs 3 0 R,.rs 4 0 C],0,true⟩∧st.σ 2 = some ⟨(preL FA (i * C)).flatMap cI,1,true⟩∧st.σ 3 = some ⟨(List.replicate R 0).flatMap cI,1,true⟩∧st.σ 4 = some ⟨(List.replicate C 0).flatMap cI,1,true⟩)
  (fun x => ∃ T1 σ1 nx1,x = (.exit 0,⟨T1,σ1,nx1⟩)∧T1 0 = .tp (cStructure s) 0∧T1 1 = LI l∧T1 8 = .rp 0 0∧T1 11 = .rp 1 0∧4 < nx1∧σ1 0 = some ⟨[I 0,I 0,.nil,.nil,.nil],0,true⟩∧σ1 1 = some ⟨[I R,I C,.rs 2 0 (R * C),.rs 3 0 R,.rs 4 0 C],0,true⟩∧σ1 2 = some ⟨FA.flatMap cI,1,true⟩∧σ1 3 = some ⟨(List.replicate R 0).flatMap cI,1,true⟩∧σ1 4 = some ⟨(List.replicate C 0).flatMap cI,1,true⟩) (by
   clear hL
   rintro i ⟨T,σ,nx⟩ hi ⟨t0,t1,t8,t11,t10,t46,t47,t48,hnx,s0,s1,s2,s3,s4⟩
   simp only at t0 t1 t8 t11 t10 t46 t47 t48 hnx s0 s1 s2 s3 s4
   have g1:(i:Int) < (R:Int):=by omega
   have g2:(0:Int) ≤ (i:Int):=by omega
   have g3:=wrap_id (n:=(i:Int) + 1) (by omega) (by omega)
   have g4:(E.flatMap cRw)[i]? = some (LI (E[i]'(by omega))):=slot1 (fun r => LI r) E i (by omega)
   have g5:=slot_ne (c:=cRw) (s:=1) (fun _ => rfl) (by omega) E i (by omega)
   have g6:(E.flatMap cRw).length = R:=by rw [slots_len (c:=cRw) (s:=1) (fun _ => rfl),hR,Nat.mul_one]
   have hrow:(E[i]'(by omega)).length = s.members.length:=by subst hE; exact equil_row (List.getElem_mem _)
   have hrb:∀ x ∈ (E[i]'(by omega)),-100 ≤ x∧x ≤ 100:=by subst hE; exact equil_bd h (List.getElem_mem _)
   obtain ⟨r,er⟩:∃ r,r = E[i]'(by omega):=⟨_,rfl⟩
   have hAi:=hAg i
   rw [← er] at g4 hrow hrb
   refine step_of ?_
   conv =>
    enter [1,q,1,1]
    simp only [go_sem,t0,t1,t8,t11,t10,t46,t47,t48,g1,g2,g4,g5,g6]
   generalize hL:evLoopI _ _ = z
   have hiC:(i + 1) * C ≤ R * C:=Nat.mul_le_mul_right _ hi
   rw [Nat.succ_mul] at hiC
   obtain ⟨x,rfl,T2,σ2,nx2,rfl,t0,t1,t8,t11,t10,t46,t47,t48,hnx,s0,s1,s2,s3,s4⟩:=count_rule hL C (fun c st => st.T 0 = .tp (cStructure s) 0∧st.T 1 = LI l∧st.T 8 = .rp 0 0∧st.T 11 = .rp 1 0∧st.T 10 = .ts (K.flatMap cCol) C∧st.T 46 = .ts (E.flatMap cRw) R∧st.T 47 = I R∧st.T 48 = I i∧st.T 12 = I i∧st.T 13 = LI r∧st.T 53 = .ts (K.flatMap cCol) C∧st.T 54 = I C∧st.T 55 = I c∧4 < st.nx ∧
     st.σ 0 = some ⟨[I 0,I 0,.nil,.nil,.nil],0,true⟩∧st.σ 1 = some ⟨[I R,I C,.rs 2 0 (R * C),.rs 3 0 R,.rs 4 0 C],0,true⟩∧st.σ 2 = some ⟨(preL FA (i * C + c)).flatMap cI,1,true⟩∧st.σ 3 = some ⟨(List.replicate R 0).flatMap cI,1,true⟩∧st.σ 4 = some ⟨(List.replicate C 0).flatMap cI,1,true⟩)
    (fun x => ∃ T2 σ2 nx2,x = (.exit 2,⟨T2,σ2,nx2⟩)∧T2 0 = .tp (cStructure s) 0∧T2 1 = LI l∧T2 8 = .rp 0 0∧T2 11 = .rp 1 0∧T2 10 = .ts (K.flatMap cCol) C∧T2 46 = .ts (E.flatMap cRw) R∧T2 47 = I R∧T2 48 = I i∧4 < nx2 ∧
     σ2 0 = some ⟨[I 0,I 0,.nil,.nil,.nil],0,true⟩∧σ2 1 = some ⟨[I R,I C,.rs 2 0 (R * C),.rs 3 0 R,.rs 4 0 C],0,true⟩∧σ2 2 = some ⟨(preL FA (i * C + C)).flatMap cI,1,true⟩∧σ2 3 = some ⟨(List.replicate R 0).flatMap cI,1,true⟩∧σ2 4 = some ⟨(List.replicate C 0).flatMap cI,1,true⟩) (by
     clear hL
     rintro c ⟨T2,σ2,nx2⟩ hc ⟨t0,t1,t8,t11,t10,t46,t47,t48,t12,t13,t53,t54,t55,hnx,s0,s1,s2,s3,s4⟩
     simp only at t0 t1 t8 t11 t10 t46 t47 t48 t12 t13 t53 t54 t55 hnx s0 s1 s2 s3 s4
     have a1:(c:Int) < (C:Int):=by omega
     have a2:(0:Int) ≤ (c:Int):=by omega
     have a3:=wrap_id (n:=(c:Int) + 1) (by omega) (by omega)
     have hcK:c < K.length:=by omega
     have a4:=slot (c:=cCol) (s:=2) (fun _ => rfl) K c hcK
     have a5:=slot_ne (c:=cCol) (s:=2) (fun _ => rfl) (by omega) K c hcK
     have a6:(K.flatMap cCol).length = C * 2:=by rw [slots_len (c:=cCol) (s:=2) (fun _ => rfl),hC]
     have a7:c * 2 + 2 ≤ C * 2:=by omega
     have hmem:K[c] ∈ cols s s.members.length:=by rw [← hK]; exact List.getElem_mem hcK
     obtain ⟨⟨k,hk,hkn⟩,hsg⟩:=cols_mem hmem
     have hq:i * C + c < FA.length:=by omega
     have hval:=hAi c hi hc hq
     rw [← er] at hval
     obtain ⟨kp,ekp⟩:∃ kp,kp = K[c]:=⟨_,rfl⟩
     rw [← ekp] at a4 hk hsg hval
     obtain ⟨k1',sg1⟩:=kp
     simp only at hk hsg hval a4
     subst hk
     rw [Int.toNat_natCast] at hval
     have a8:=idx (xs:=r) (k:=k) (by omega)
     have e8:r[k]'(by omega) = r.getD k 0:=by rw [List.getD_eq_getElem?_getD,List.getElem?_eq_getElem (by omega)]; rfl
     have hrk:=hrb _ (List.getElem_mem (l:=r) (n:=k) (by omega))
     rw [e8] at a8 hrk
     have a9:=slot_ne (c:=cI) (s:=1) (fun _ => rfl) (by omega) r k (by omega)
     have a10:(k:Int) < (r.length:Int):=by omega
     have a11:(0:Int) ≤ (k:Int):=by omega
     have hsv:-100 ≤ sg1 * r.getD k 0∧sg1 * r.getD k 0 ≤ 100:=by rcases hsg with e | e <;> rw [e] <;> omega
     have a12:=wrap_id (n:=sg1 * r.getD k 0) (by omega) (by omega)
     have a13:(i:Int) * (C:Int) = ((i * C:Nat):Int):=by push_cast; rfl
     have a14:=wrap_id (n:=((i * C:Nat):Int)) (by omega) (by omega)
     have a15:((i * C:Nat):Int) + (c:Int) = ((i * C + c:Nat):Int):=by omega
     have a16:=wrap_id (n:=((i * C + c:Nat):Int)) (by omega) (by omega)
     have a17:((i * C + c:Nat):Int) < ((R * C:Nat):Int):=by omega
     have a18:(0:Int) ≤ ((i * C + c:Nat):Int):=by omega
     have a19:i * C + c < R * C:=by omega
     have a20:i * C + c + 1 ≤ R * C:=by omega
     have a21:((preL FA (i * C + c)).flatMap cI).length = R * C:=by rw [cI_len,preL_len _ (by omega),hAl]
     have a22:((preL FA (i * C + c)).flatMap cI).set (i * C + c) (I (sg1 * r.getD k 0)) = (preL FA (i * C + c + 1)).flatMap cI:=by
      rw [cI_set,← preL_set FA hq,hval]
     have a23:(r.flatMap cI).length = r.length:=cI_len r
     have d0:¬0 = nx2:=by omega
     have d1:¬1 = nx2:=by omega
     have d2:¬2 = nx2:=by omega
     have d3:¬3 = nx2:=by omega
     have d4:¬4 = nx2:=by omega
     have d5:¬nx2 = 2:=by omega
     have d6:1 < nx2 + 1:=by omega
     have d7:2 < nx2 + 1:=by omega
     have d8:nx2 < nx2 + 1:=by omega
     have d9:¬nx2 = 1:=by omega
     refine .inl ⟨_,by simp only [go_sem,t0,t1,t8,t11,t10,t46,t47,t48,t12,t13,t53,t54,t55,s1,s2,a1,a2,a3,a4,a5,a6,a7,a8,a9,a10,a11,a12,a13,a14,a15,a16,a17,a18,a19,a20,a21,a22,a23,d0,d1,d2,d3,d4,d5,d6,d7,d8,d9]; rfl,?_⟩
     simp only [go_sem,t0,t1,t8,t11,t10,t46,t47,t48,t12,t13,t53,t54]
     refine ⟨rfl,by omega,?_,?_,rfl,?_,?_⟩
     ·rw [upd_ne _ _ d0]; exact s0
     ·rw [upd_ne _ _ d1]; exact s1
     ·rw [upd_ne _ _ d3]; exact s3
     ·rw [upd_ne _ _ d4]; exact s4) (by
     rintro ⟨T2,σ2,nx2⟩ ⟨t0,t1,t8,t11,t10,t46,t47,t48,t12,t13,t53,t54,t55,hnx,s0,s1,s2,s3,s4⟩
     simp only at t0 t1 t8 t11 t10 t46 t47 t48 t12 t13 t53 t54 t55 hnx s0 s1 s2 s3 s4
     have a1:¬(C:Int) < (C:Int):=by omega
     refine ⟨_,by simp only [go_sem,t54,t55,a1]; rfl,by simp,_,_,_,rfl,?_⟩
     simp only [go_sem,t0,t1,t8,t11,t10,t46,t47,t48]
     exact ⟨hnx,s0,s1,s2,s3,s4⟩) (by
     simp only [go_sem,t0,t1,t8,t11,t10,t46,t47,t48]
     exact ⟨hnx,s0,s1,s2,s3,s4⟩)
   refine ⟨_,by simp only [go_sem,t0,t1,t8,t11,t10,t46,t47,t48,g3]; rfl,.inl ⟨_,rfl,?_⟩⟩
   simp only [go_sem,t0,t1,t8,t11,t10,t46,t47]
   refine ⟨rfl,hnx,s0,s1,?_,s3,s4⟩
   rw [Nat.succ_mul]; exact s2) (by
   rintro ⟨T,σ,nx⟩ ⟨t0,t1,t8,t11,t10,t46,t47,t48,hnx,s0,s1,s2,s3,s4⟩
   simp only at t0 t1 t8 t11 t10 t46 t47 t48 hnx s0 s1 s2 s3 s4
   have g1:¬(R:Int) < (R:Int):=by omega
   refine ⟨_,by simp only [go_sem,t47,t48,g1]; rfl,by simp,_,_,_,rfl,?_⟩
   simp only [go_sem,t0,t1,t8,t11]
   rw [← hAl,preL_full] at s2
   exact ⟨hnx,s0,s1,s2,s3,s4⟩) (by
   simp only [go_sem,preL_zero,hAl,← rep_ints])
 clear hL
 simp only [go_sem,t0,k3]
 generalize hL:evLoopI _ _ = y
 obtain ⟨F,eF⟩:∃ F,F = free s:=⟨_,rfl⟩
 have hFR:R = 2 * F.length:=by rw [eR,eF]; rfl
 have hBl:=fpB_len s l
 obtain ⟨FB,eFB⟩:∃ FB,FB = fpB s l:=⟨_,rfl⟩
 rw [← eFB] at hBl ⊢
 rw [← eF] at hBl
 have hBg:∀ i (hi:i < F.length),∃ j:Nat,F[i] = (j:Int)∧j < s.joints.length∧FB[2 * i]'(by omega) = -l.getD (2 * j) 0∧FB[2 * i + 1]'(by omega) = -l.getD (2 * j + 1) 0:=fun i hi => by
  have hmem:F[i] ∈ tru (isFree s) s.joints.length:=by subst eF; exact List.getElem_mem hi
  unfold tru at hmem
  obtain ⟨j,hj,e⟩:=List.mem_map.mp hmem
  have hj':=List.mem_range.mp (List.mem_filter.mp hj).1
  have e2:FB = F.flatMap fun j => [-l.getD (2 * j.toNat) 0,-l.getD (2 * j.toNat + 1) 0]:=by rw [eFB,eF]; rfl
  have g0:=flat_get (fun j:Int => [-l.getD (2 * j.toNat) 0,-l.getD (2 * j.toNat + 1) 0]) (C:=2) (fun _ => rfl) F (i:=i) (c:=0) hi (by decide)
  have g1:=flat_get (fun j:Int => [-l.getD (2 * j.toNat) 0,-l.getD (2 * j.toNat + 1) 0]) (C:=2) (fun _ => rfl) F (i:=i) (c:=1) hi (by decide)
  rw [← e2,← e,Int.toNat_natCast] at g0 g1
  refine ⟨j,e.symm,hj',?_,?_⟩
  ·rw [show i * 2 + 0 = 2 * i by omega,List.getElem?_eq_getElem (by omega)] at g0
   exact Option.some.inj g0
  ·rw [show i * 2 + 1 = 2 * i + 1 by omega,List.getElem?_eq_getElem (by omega)] at g1
   exact Option.some.inj g1
 have hFn:F.length ≤ 6:=by rw [eF]; omega
 obtain ⟨x,rfl,T3,σ3,nx3,rfl,t8,t11,s0,s1,s2,s3,s4⟩:=count_rule hL F.length (fun i st => st.T 1 = LI l∧st.T 8 = .rp 0 0∧st.T 11 = .rp 1 0∧st.T 80 = LI F∧st.T 81 = I F.length∧st.T 82 = I i∧4 < st.nx ∧
   st.σ 0 = some ⟨[I 0,I 0,.nil,.nil,.nil],0,true⟩∧st.σ 1 = some ⟨[I R,I C,.rs 2 0 (R * C),.rs 3 0 R,.rs 4 0 C],0,true⟩∧st.σ 2 = some ⟨FA.flatMap cI,1,true⟩∧st.σ 3 = some ⟨(preL FB (2 * i)).flatMap cI,1,true⟩∧st.σ 4 = some ⟨(List.replicate C 0).flatMap cI,1,true⟩)
  (fun x => ∃ T3 σ3 nx3,x = (.exit 4,⟨T3,σ3,nx3⟩)∧T3 8 = .rp 0 0∧T3 11 = .rp 1 0∧σ3 0 = some ⟨[I 0,I 0,.nil,.nil,.nil],0,true⟩∧σ3 1 = some ⟨[I R,I C,.rs 2 0 (R * C),.rs 3 0 R,.rs 4 0 C],0,true⟩∧σ3 2 = some ⟨FA.flatMap cI,1,true⟩∧σ3 3 = some ⟨FB.flatMap cI,1,true⟩∧σ3 4 = some ⟨(List.replicate C 0).flatMap cI,1,true⟩) (by
   clear hL
   rintro i ⟨T,σ,nx⟩ hi ⟨t1,t8,t11,t80,t81,t82,hnx,s0,s1,s2,s3,s4⟩
   simp only at t1 t8 t11 t80 t81 t82 hnx s0 s1 s2 s3 s4
   obtain ⟨j,hj,hjn,hx,hy⟩:=hBg i hi
   have g1:(i:Int) < (F.length:Int):=by omega
   have g2:(0:Int) ≤ (i:Int):=by omega
   have g3:=wrap_id (n:=(i:Int) + 1) (by omega) (by omega)
   have g4:=idx (xs:=F) (k:=i) hi
   rw [hj] at g4
   have g5:=slot_ne (c:=cI) (s:=1) (fun _ => rfl) (by omega) F i hi
   have a1:(2:Int) * (i:Int) = ((2 * i:Nat):Int):=by push_cast; rfl
   have a2:=wrap_id (n:=((2 * i:Nat):Int)) (by omega) (by omega)
   have a3:((2 * i:Nat):Int) + 1 = ((2 * i + 1:Nat):Int):=by omega
   have a4:=wrap_id (n:=((2 * i + 1:Nat):Int)) (by omega) (by omega)
   have a5:(2:Int) * (j:Int) = ((2 * j:Nat):Int):=by push_cast; rfl
   have a6:=wrap_id (n:=((2 * j:Nat):Int)) (by omega) (by omega)
   have a7:((2 * j:Nat):Int) + 1 = ((2 * j + 1:Nat):Int):=by omega
   have a8:=wrap_id (n:=((2 * j + 1:Nat):Int)) (by omega) (by omega)
   have lget:∀ q (h:q < l.length),(l.flatMap cI)[q]? = some (I (l.getD q 0)):=fun q h => by
    rw [idx h,List.getD_eq_getElem?_getD,List.getElem?_eq_getElem h]; rfl
   have lbd:∀ q (h:q < l.length),-100 ≤ l.getD q 0∧l.getD q 0 ≤ 100:=fun q h => by
    rw [List.getD_eq_getElem?_getD,List.getElem?_eq_getElem h]; exact hb _ (List.getElem_mem h)
   have a9:=lget (2 * j) (by omega)
   have a10:=lget (2 * j + 1) (by omega)
   have b9:=lbd (2 * j) (by omega)
   have b10:=lbd (2 * j + 1) (by omega)
   have a11:=slot_ne (c:=cI) (s:=1) (fun _ => rfl) (by omega) l (2 * j) (by omega)
   have a12:((2 * j:Nat):Int) < (l.length:Int):=by omega
   have a13:((2 * j + 1:Nat):Int) < (l.length:Int):=by omega
   have a14:(0:Int) ≤ ((2 * j:Nat):Int):=by omega
   have a15:(0:Int) ≤ ((2 * j + 1:Nat):Int):=by omega
   have a16:((2 * i:Nat):Int) < (R:Int):=by omega
   have a17:((2 * i + 1:Nat):Int) < (R:Int):=by omega
   have a18:(0:Int) ≤ ((2 * i:Nat):Int):=by omega
   have a19:(0:Int) ≤ ((2 * i + 1:Nat):Int):=by omega
   have w1:=wrap_id (n:=-l.getD (2 * j) 0) (by omega) (by omega)
   have w2:=wrap_id (n:=-l.getD (2 * j + 1) 0) (by omega) (by omega)
   have w3:IntKind.i64.wrap (0 - l.getD (2 * j) 0) = -l.getD (2 * j) 0:=by rw [wrap_id (by omega) (by omega)]; omega
   have w4:IntKind.i64.wrap (0 - l.getD (2 * j + 1) 0) = -l.getD (2 * j + 1) 0:=by rw [wrap_id (by omega) (by omega)]; omega
   have p1:((preL FB (2 * i)).flatMap cI).length = R:=by rw [cI_len,preL_len _ (by omega)]; omega
   have p2:((preL FB (2 * i + 1)).flatMap cI).length = R:=by rw [cI_len,preL_len _ (by omega)]; omega
   have p3:((preL FB (2 * i)).flatMap cI).set (2 * i) (I (-l.getD (2 * j) 0)) = (preL FB (2 * i + 1)).flatMap cI:=by
    rw [cI_set,← preL_set FB (k:=2 * i) (by omega),hx]
   have p4:((preL FB (2 * i + 1)).flatMap cI).set (2 * i + 1) (I (-l.getD (2 * j + 1) 0)) = (preL FB (2 * i + 1 + 1)).flatMap cI:=by
    rw [cI_set,← preL_set FB (k:=2 * i + 1) (by omega),hy]
   have p5:2 * i < R:=by omega
   have p6:2 * i + 1 < R:=by omega
   have p7:2 * i + 1 ≤ R:=by omega
   have p8:2 * i + 1 + 1 ≤ R:=by omega
   have p9:3 < nx:=by omega
   have p10:1 < nx:=by omega
   refine .inl ⟨_,by simp only [go_sem,t1,t8,t11,t80,t81,t82,s1,s3,g1,g2,g3,g4,g5,a1,a2,a3,a4,a5,a6,a7,a8,a9,a10,a11,a12,a13,a14,a15,a16,a17,a18,a19,w1,w2,w3,w4,p1,p2,p3,p4,p5,p6,p7,p8,p9,p10]; rfl,?_⟩
   simp only [go_sem,t1,t8,t11,t80,t81]
   exact ⟨rfl,hnx,s0,s1,s2,by rw [show 2 * (i + 1) = 2 * i + 1 + 1 by omega],s4⟩) (by
   rintro ⟨T,σ,nx⟩ ⟨t1,t8,t11,t80,t81,t82,hnx,s0,s1,s2,s3,s4⟩
   simp only at t1 t8 t11 t80 t81 t82 hnx s0 s1 s2 s3 s4
   have g1:¬(F.length:Int) < (F.length:Int):=by omega
   refine ⟨_,by simp only [go_sem,t81,t82,g1]; rfl,by simp,_,_,_,rfl,?_⟩
   simp only [go_sem,t8,t11]
   have:preL FB (2 * F.length) = FB:=by rw [show 2 * F.length = FB.length by omega,preL_full]
   rw [this] at s3
   exact ⟨s0,s1,s2,s3,s4⟩) (by
   simp only [go_sem,t1,t8,t11,Nat.mul_zero,preL_zero,← eF]
   rw [hBl,← hFR]
   exact ⟨hn1,s0,s1,s2,s3,s4⟩)
 clear hL
 have u1:R * C ≤ FA.length:=by omega
 have u2:R ≤ FB.length:=by omega
 have u3:C ≤ (List.replicate C (0:Int)).length:=by simp
 have v1:(FA.flatMap cI).take (R * C) = FA.flatMap cI:=List.take_of_length_le (by rw [cI_len]; omega)
 have v2:(FB.flatMap cI).take R = FB.flatMap cI:=List.take_of_length_le (by rw [cI_len]; omega)
 have v3:((List.replicate C (0:Int)).flatMap cI).take C = (List.replicate C (0:Int)).flatMap cI:=List.take_of_length_le (by rw [cI_len]; simp)
 simp only [go_sem,t8,t11,s0,s1,s2,s3,s4,u1,u2,u3,v1,v2,v3]
 have w1:FA.length = R * C:=by omega
 have w2:FB.length = R:=by omega
 have w3:(List.replicate C (0:Int)).length = C:=by simp
 show some (V.agg [I R,I C,V.ts (FA.flatMap cI) (R * C),V.ts (FB.flatMap cI) R,V.ts ((List.replicate C (0:Int)).flatMap cI) C]) = some (V.agg [I R,I C,V.ts (FA.flatMap cI) FA.length,V.ts (FB.flatMap cI) FB.length,V.ts ((List.replicate C (0:Int)).flatMap cI) (List.replicate C (0:Int)).length])
 rw [w1,w2,w3]
end Go.Proofs.YtoccmbjfkbemcaaGreat
namespace Go.Proofs.YtoccmbjfkbemcaaGreat
open Go Go.TV Go.Lp
attribute [-go_sem] app_rs
theorem ev_ptr0 {P:Program} {t e:TypeId} {x y:Operand} (h:P.underlying t = some (.pointer e)):evBin P .eql t x y (.sc (.pointer none)) (.sc (.pointer none)) = some (Bo true):=by
 have key:evPure P ((Op.equal t (.pointer none) (.pointer none)).bind fun r => pure (Value.bool r)) = some (.bool true):=by
  show evPure P ((Op.equalIn (9999 + 1) t _ _).bind fun r => pure (Value.bool r)) = _
  unfold Op.equalIn underlying
  show evPure P (.program fun p => _) = _
  simp only [evPure]
  have pb:∀ {β γ:Type} (a:β) (f:β→Sem γ),(Sem.pure a).bind f = f a:=fun _ _ => rfl
  have pb':∀ {β γ:Type} (a:β) (f:β→Sem γ),(pure a:Sem β).bind f = f a:=fun _ _ => rfl
  simp only [h,pb,pb']
  rfl
 simp only [evBin,toVal,eqGuard_at_pointer,pure_bind,binOp]
 erw [key]
 rfl
theorem ptrEq0 (x y:Operand):evBin Tryz.prog .eql 121 x y (.sc (.pointer none)) (.sc (.pointer none)) = some (Bo true):=ev_ptr0 Tryz.underlying121
theorem ptrEqR (x y:Operand) (b off:Nat):evBin Tryz.prog .eql 121 x y (.rp b off) (.sc (.pointer none)) = some (Bo false):=by
 unfold evBin
 simp only [toVal,Tryz.underlying121]
 rfl
attribute [go_sem] ptrEq0 ptrEqR
def addO:Option Rat→Option Rat→Option Rat
 | some x,some y => fitO (x + y)
 | _,_ => none
def mulO:Option Rat→Option Rat→Option Rat
 | some x,some y => fitO (x * y)
 | _,_ => none
def LnO (k:Nat) (a:Option Rat):Prop:=∀ x,a = some x→Ln k x
theorem ineg (a:Option Rat):fn Tryz.prog conv ext 91 [pQ a] = some (pQ (a.map fun x => -x)):=by
 cases a with
 | none =>
  show fn Tryz.prog conv ext 91 [.sc (.pointer none)] = some (.sc (.pointer none))
  rw [fn_eq,ev_eqQ (rs:=[.tmp 2]) [] rfl Tryz.func91 rfl rfl (by kernel_rfl) (by kernel_rfl)]
  simp only [go_sem]
 | some x =>
  have k:=ioppositeZ x.num
  have e1:(-x).num = -x.num:=rfl
  have e2:(-x).den = x.den:=rfl
  show fn Tryz.prog conv ext 91 [.tp (cQ x) 0] = some (.tp (cQ (-x)) 0)
  rw [fn_eq,ev_eqQ (rs:=[.tmp 2]) [] rfl Tryz.func91 rfl rfl (by kernel_rfl) (by kernel_rfl)]
  unfold cQ
  rw [e1,e2]
  unfold cZ at k
  simp only [go_sem,k]
theorem pQ_strip (σ:Store) (a:Option Rat):Option.map (fun x => x.1) (strip σ 7 (pQ a)) = some (pQ a):=by
 cases a with
 | none => rfl
 | some q => unfold pQ; rw [strip_tp]; rfl
theorem ladd {a b:Option Rat} (ha:LnO 100 a) (hb:LnO 100 b):fn Tryz.prog convL extL 92 [pQ a,pQ b] = some (pQ (addO a b)):=by
 cases a with
 | none =>
  show fn Tryz.prog convL extL 92 [.sc (.pointer none),pQ b] = some (.sc (.pointer none))
  rw [fn_eq,ev_eqQ (rs:=[.tmp 4]) [] rfl Tryz.func92 rfl rfl (by kernel_rfl) (by kernel_rfl)]
  simp only [go_sem]
 | some x => cases b with
  | none =>
   show fn Tryz.prog convL extL 92 [.tp (cQ x) 0,.sc (.pointer none)] = some (.sc (.pointer none))
   rw [fn_eq,ev_eqQ (rs:=[.tmp 4]) [] rfl Tryz.func92 rfl rfl (by kernel_rfl) (by kernel_rfl)]
   simp only [go_sem]
  | some y =>
   have k1:=lqplus x y ((ha x rfl).mono (by decide)) ((hb y rfl).mono (by decide))
   have k2:=lfit (x + y) (Ln.mono (Ln_add (ha x rfl) (hb y rfl) ) (by decide))
   show fn Tryz.prog convL extL 92 [.tp (cQ x) 0,.tp (cQ y) 0] = some (pQ (fitO (x + y)))
   rw [fn_eq,ev_eqQ (rs:=[.tmp 4]) [] rfl Tryz.func92 rfl rfl (by kernel_rfl) (by kernel_rfl)]
   simp only [go_sem,k1,k2]
   exact pQ_strip _ _
theorem lmul {a b:Option Rat} (ha:LnO 100 a) (hb:LnO 100 b):fn Tryz.prog convL extL 116 [pQ a,pQ b] = some (pQ (mulO a b)):=by
 cases a with
 | none =>
  show fn Tryz.prog convL extL 116 [.sc (.pointer none),pQ b] = some (.sc (.pointer none))
  rw [fn_eq,ev_eqQ (rs:=[.tmp 4]) [] rfl Tryz.func116 rfl rfl (by kernel_rfl) (by kernel_rfl)]
  simp only [go_sem]
 | some x => cases b with
  | none =>
   show fn Tryz.prog convL extL 116 [.tp (cQ x) 0,.sc (.pointer none)] = some (.sc (.pointer none))
   rw [fn_eq,ev_eqQ (rs:=[.tmp 4]) [] rfl Tryz.func116 rfl rfl (by kernel_rfl) (by kernel_rfl)]
   simp only [go_sem]
  | some y =>
   have k1:=lqtimes x y ((ha x rfl).mono (by decide)) ((hb y rfl).mono (by decide))
   have k2:=lfit (x * y) (Ln.mono (Ln_mul (ha x rfl) (hb y rfl) (by decide)) (by decide))
   show fn Tryz.prog convL extL 116 [.tp (cQ x) 0,.tp (cQ y) 0] = some (pQ (fitO (x * y)))
   rw [fn_eq,ev_eqQ (rs:=[.tmp 4]) [] rfl Tryz.func116 rfl rfl (by kernel_rfl) (by kernel_rfl)]
   simp only [go_sem,k1,k2]
   exact pQ_strip _ _
end Go.Proofs.YtoccmbjfkbemcaaGreat
namespace Go.Proofs.YtoccmbjfkbemcaaGreat
open Go Go.TV Go.Lp
attribute [-go_sem] app_rs
abbrev cOQ (a:Option Rat):List V:=[pQ a]
def putQ (o:Option Rat) (v:Rat):Option Rat:=match o with
 | none => some v
 | some y => fitO (y + v)
def sgQ (s:Int) (x:Rat):Rat:=if s < 0 then -x else x
def frQ (K:List (Int × Int)) (X:List Rat) (nm:Nat):Nat→List (Option Rat)
 | 0 => List.replicate nm none
 | c + 1 => (frQ K X nm c).set (K.getD c (0,0)).1.toNat (putQ ((frQ K X nm c).getD (K.getD c (0,0)).1.toNat none) (sgQ (K.getD c (0,0)).2 (X.getD c 0)))
theorem frQ_len (K:List (Int × Int)) (X:List Rat) (nm:Nat):∀ c,(frQ K X nm c).length = nm
 | 0 => by simp [frQ]
 | c + 1 => by rw [frQ,List.length_set]; exact frQ_len K X nm c
theorem fitO_Ln {q y:Rat} (h:fitO q = some y):Ln 24 y:=by
 unfold fitO at h
 split at h
 ·cases h; assumption
 ·cases h
theorem frQ_Ln {K:List (Int × Int)} {X:List Rat} {nm:Nat} (hX:∀ x ∈ X,Ln 24 x):∀ c,∀ o ∈ frQ K X nm c,LnO 24 o
 | 0 => fun o ho y hy => by
  have:=(List.mem_replicate.mp ho).2
  rw [this] at hy; cases hy
 | c + 1 => fun o ho y hy => by
  rw [frQ] at ho
  rcases List.mem_or_eq_of_mem_set ho with h | h
  ·exact frQ_Ln hX c o h y hy
  ·subst h
   unfold putQ at hy
   split at hy
   ·cases hy
    have hx:Ln 24 (X.getD c 0):=by
     rw [List.getD_eq_getElem?_getD]
     by_cases hc:c < X.length
     ·rw [List.getElem?_eq_getElem hc]; exact hX _ (List.getElem_mem hc)
     ·rw [List.getElem?_eq_none (by omega)]; exact (Ln_int (z:=0) (by decide)).mono (by decide)
    unfold sgQ
    split
    ·have e1:(-(X.getD c 0)).num = -(X.getD c 0).num:=rfl
     have e2:(-(X.getD c 0)).den = (X.getD c 0).den:=rfl
     exact ⟨by rw [e1,Int.natAbs_neg]; exact hx.1,by rw [e2]; exact hx.2⟩
    ·exact hx
   ·exact (fitO_Ln hy).mono (by decide)
theorem cOQ_set (X:List (Option Rat)):∀ (k:Nat) (q:Option Rat),(X.flatMap cOQ).set k (pQ q) = (X.set k q).flatMap cOQ:=by
 induction X with
 | nil => intro k q; rfl
 | cons a X ih => intro k q; cases k with
  | zero => rfl
  | succ k => show pQ a :: ((X.flatMap cOQ).set k (pQ q)) = _; rw [ih]; rfl
theorem rep_none (N:Nat):rep N [V.sc (.pointer none)] = (List.replicate N (none:Option Rat)).flatMap cOQ:=by
 induction N with
 | zero => rfl
 | succ N ih => rw [rep_succ,ih,List.replicate_succ]; rfl
theorem pQ_cells (a:Option Rat):cellsOfV (pQ a) = some [pQ a]:=by cases a <;> rfl
theorem pQ_cell (a:Option Rat):isCell (pQ a) = true:=by cases a <;> rfl
theorem pQ_stripL (σ:Store) (d:Nat):∀ X:List (Option Rat),stripL (strip σ d) (X.flatMap cOQ) = some (X.flatMap cOQ,[])
 | [] => by rw [List.flatMap_nil,stripL_nil]
 | a :: X => by
  rw [List.flatMap_cons,show cOQ a ++ X.flatMap cOQ = pQ a :: X.flatMap cOQ from rfl,stripL_cons,pQ_stripL σ d X]
  cases a with
  | none => unfold pQ; rw [strip_sc]; rfl
  | some q => unfold pQ; rw [strip_tp]; rfl
attribute [go_sem] pQ_cells pQ_cell
set_option maxRecDepth 10000 in
set_option maxHeartbeats 1000000 in
theorem lfrom {s:Structure} (h:SG s) {X:List Rat} (hX:X.length = (cols s s.members.length).length) (hL:∀ x ∈ X,Ln 24 x) :
  fn Tryz.prog convL extL 79 [.tp (cStructure s) 0,LL cF X] = some (LL cOQ (frQ (cols s s.members.length) X s.members.length (cols s s.members.length).length)):=by
 have hnm:=h.nm
 have hcl:=cols_len s s.members.length
 have k2:=icolumns h
 have m1:(0:Int) ≤ (s.members.length:Int):=by omega
 have m2:8 * (s.members.length:Int) ≤ 281474976710656:=by omega
 have m3:(s.members.length:Int) ≤ 9223372036854775807:=by omega
 obtain ⟨K,hK⟩:∃ K,K = cols s s.members.length:=⟨_,rfl⟩
 have hcm:∀ c (hc:c < K.length),(∃ k:Nat,K[c].1 = (k:Int)∧k < s.members.length)∧(K[c].2 = 1∨K[c].2 = -1):=fun c hc => by subst hK; exact cols_mem (List.getElem_mem hc)
 rw [← hK] at k2 hX hcl ⊢
 rw [fn_eq,ev_eqQ (rs:=[.tmp 4]) [10] rfl Tryz.func79 rfl rfl (by kernel_rfl) (by kernel_rfl)]
 simp only [go_sem,k2,m1,m2,m3]
 generalize hL2:evLoopI _ _ = y
 obtain ⟨nm,hnme⟩:∃ nm,nm = s.members.length:=⟨_,rfl⟩
 rw [← hnme] at hcm hnm m1 m2 m3 ⊢
 obtain ⟨x,rfl,T1,σ1,nx1,rfl,t5,s0⟩:=count_rule hL2 K.length (fun c st => st.T 1 = LL cF X∧st.T 5 = .rs 0 0 nm∧st.T 16 = LL cCol K∧st.T 17 = I K.length∧st.T 18 = I c∧0 < st.nx∧st.σ 0 = some ⟨(frQ K X nm c).flatMap cOQ,1,true⟩)
  (fun x => ∃ T1 σ1 nx1,x = (.exit 0,⟨T1,σ1,nx1⟩)∧T1 5 = .rs 0 0 nm∧σ1 0 = some ⟨(frQ K X nm K.length).flatMap cOQ,1,true⟩) (by
   clear hL2
   rintro c ⟨T,σ,nx⟩ hc ⟨t1,t5,t16,t17,t18,hnx,s0⟩
   simp only at t1 t5 t16 t17 t18 hnx s0
   have g1:(c:Int) < (K.length:Int):=by omega
   have g2:(0:Int) ≤ (c:Int):=by omega
   have g3:=wrap_id (n:=(c:Int) + 1) (by omega) (by omega)
   have a4:=slot (c:=cCol) (s:=2) (fun _ => rfl) K c hc
   have a5:=slot_ne (c:=cCol) (s:=2) (fun _ => rfl) (by omega) K c hc
   have a6:=slots_len (c:=cCol) (s:=2) (fun _ => rfl) K
   have a7:c * 2 + 2 ≤ K.length * 2:=by omega
   have a8:=cF_get X (k:=c) (by omega)
   have a9:(X.flatMap cF).length = X.length:=cF_len X
   have a10:(c:Int) < (X.length:Int):=by omega
   have hXne:X.flatMap cF ≠ []:=fun e => by rw [e] at a9; have:X.length = 0:=a9.symm; omega
   obtain ⟨⟨k,hk,hkn⟩,hsg⟩:=hcm c hc
   have hfr:frQ K X nm (c + 1) = (frQ K X nm c).set K[c].1.toNat (putQ ((frQ K X nm c).getD K[c].1.toNat none) (sgQ K[c].2 X[c])):=by
    rw [frQ]
    have e1:K.getD c (0,0) = K[c]:=by rw [List.getD_eq_getElem?_getD,List.getElem?_eq_getElem hc]; rfl
    have e2:X.getD c 0 = X[c]'(by omega):=by rw [List.getD_eq_getElem?_getD,List.getElem?_eq_getElem (by omega)]; rfl
    rw [e1,e2]
   have hxL:=hL _ (List.getElem_mem (l:=X) (n:=c) (by omega))
   obtain ⟨kp,ekp⟩:∃ kp,kp = K[c]:=⟨_,rfl⟩
   rw [← ekp] at a4 hk hsg hfr
   obtain ⟨k1,sg1⟩:=kp
   simp only at hk hsg hfr
   subst hk
   rw [Int.toNat_natCast] at hfr
   obtain ⟨xc,exc⟩:∃ xc,xc = X[c]'(by omega):=⟨_,rfl⟩
   rw [← exc] at a8 hfr hxL
   have hlen:=frQ_len K X nm c
   have hmemL:=frQ_Ln (K:=K) (nm:=nm) hL c
   obtain ⟨O,eO⟩:∃ O,O = frQ K X nm c:=⟨_,rfl⟩
   rw [← eO] at s0 hfr hlen hmemL
   have b1:=slot1 (fun a => pQ a) O k (by omega)
   have b1:(O.flatMap cOQ)[k]? = some (pQ (O.getD k none)):=by
    rw [b1,List.getD_eq_getElem?_getD,List.getElem?_eq_getElem (by omega)]; rfl
   have hoL:LnO 24 (O.getD k none):=by
    rw [List.getD_eq_getElem?_getD,List.getElem?_eq_getElem (by omega)]; exact hmemL _ (List.getElem_mem _)
   have b2:(O.flatMap cOQ).length = nm:=by rw [slots_len (c:=cOQ) (s:=1) (fun _ => rfl),hlen,Nat.mul_one]
   have b3:(k:Int) < (nm:Int):=by omega
   have b4:(0:Int) ≤ (k:Int):=by omega
   have b5:k + 1 ≤ nm:=hkn
   have hvL:Ln 24 (sgQ sg1 xc):=by
    unfold sgQ
    split
    ·exact ⟨by show ln (-xc.num).natAbs ≤ 24; rw [Int.natAbs_neg]; exact hxL.1,hxL.2⟩
    ·exact hxL
   have b6:=cOQ_set O k (putQ (O.getD k none) (sgQ sg1 xc))
   rw [← hfr] at b6
   obtain ⟨o,eo⟩:∃ o,o = O.getD k none:=⟨_,rfl⟩
   rw [← eo] at b1 b6 hoL
   have kneg:fn Tryz.prog conv ext 91 [.tp (cQ xc) 0] = some (.tp (cQ (-xc)) 0):=ineg (some xc)
   have d0:¬nx = 0:=by omega
   have d1:¬0 = nx:=by omega
   have d2:0 < nx + 1:=by omega
   have d3:nx < nx + 1:=by omega
   refine step_of ?_
   have n1:¬(1:Int) < 0:=by decide
   have n2:(-1:Int) < 0:=by decide
   rcases hsg with rfl | rfl
   ·have sv:sgQ 1 xc = xc:=rfl
    rw [sv] at b6 hvL
    rcases o with _ | y
    ·have e6:(O.flatMap cOQ).set k (.tp (cQ (xc)) 0) = (frQ K X nm (c + 1)).flatMap cOQ:=b6
     have e1:(O.flatMap cOQ)[k]? = some (.sc (.pointer none)):=b1
     refine ⟨_,by simp only [go_sem,t1,t5,t16,t17,t18,s0,g1,g2,g3,a4,a5,a6,a7,a8,a9,a10,hXne,b2,b3,b4,b5,hkn,e1,e6,kneg,n1,n2,d0,d1,d2,d3]; rfl,.inl ⟨_,rfl,?_⟩⟩
     simp only [go_sem,t1,t5,t16,t17,d0,d1,d2]
     first | rfl | exact ⟨rfl,rfl⟩ | trace_state
    ·have e6:(O.flatMap cOQ).set k (pQ (fitO (y + xc))) = (frQ K X nm (c + 1)).flatMap cOQ:=b6
     have e1:(O.flatMap cOQ)[k]? = some (.tp (cQ y) 0):=b1
     have kadd:fn Tryz.prog convL extL 92 [.tp (cQ y) 0,.tp (cQ (xc)) 0] = some (pQ (fitO (y + xc))):=ladd (a:=some y) (b:=some (xc)) (fun z hz => (hoL z hz).mono (by decide)) (fun z hz => by cases hz; exact hvL.mono (by decide))
     refine ⟨_,by simp only [go_sem,t1,t5,t16,t17,t18,s0,g1,g2,g3,a4,a5,a6,a7,a8,a9,a10,hXne,b2,b3,b4,b5,hkn,e1,e6,kneg,kadd,n1,n2,d0,d1,d2,d3]; rfl,.inl ⟨_,rfl,?_⟩⟩
     simp only [go_sem,t1,t5,t16,t17,d0,d1,d2]
     first | rfl | exact ⟨rfl,rfl⟩ | trace_state
   ·have sv:sgQ (-1) xc = -xc:=rfl
    rw [sv] at b6 hvL
    rcases o with _ | y
    ·have e6:(O.flatMap cOQ).set k (.tp (cQ (-xc)) 0) = (frQ K X nm (c + 1)).flatMap cOQ:=b6
     have e1:(O.flatMap cOQ)[k]? = some (.sc (.pointer none)):=b1
     refine ⟨_,by simp only [go_sem,t1,t5,t16,t17,t18,s0,g1,g2,g3,a4,a5,a6,a7,a8,a9,a10,hXne,b2,b3,b4,b5,hkn,e1,e6,kneg,n1,n2,d0,d1,d2,d3]; rfl,.inl ⟨_,rfl,?_⟩⟩
     simp only [go_sem,t1,t5,t16,t17,d0,d1,d2]
     first | rfl | exact ⟨rfl,rfl⟩ | trace_state
    ·have e6:(O.flatMap cOQ).set k (pQ (fitO (y + -xc))) = (frQ K X nm (c + 1)).flatMap cOQ:=b6
     have e1:(O.flatMap cOQ)[k]? = some (.tp (cQ y) 0):=b1
     have kadd:fn Tryz.prog convL extL 92 [.tp (cQ y) 0,.tp (cQ (-xc)) 0] = some (pQ (fitO (y + -xc))):=ladd (a:=some y) (b:=some (-xc)) (fun z hz => (hoL z hz).mono (by decide)) (fun z hz => by cases hz; exact hvL.mono (by decide))
     refine ⟨_,by simp only [go_sem,t1,t5,t16,t17,t18,s0,g1,g2,g3,a4,a5,a6,a7,a8,a9,a10,hXne,b2,b3,b4,b5,hkn,e1,e6,kneg,kadd,n1,n2,d0,d1,d2,d3]; rfl,.inl ⟨_,rfl,?_⟩⟩
     simp only [go_sem,t1,t5,t16,t17,d0,d1,d2]
     first | rfl | exact ⟨rfl,rfl⟩ | trace_state) (by
   rintro ⟨T,σ,nx⟩ ⟨t1,t5,t16,t17,t18,hnx,s0⟩
   simp only at t1 t5 t16 t17 t18 hnx s0
   have g1:¬(K.length:Int) < (K.length:Int):=by omega
   refine ⟨_,by simp only [go_sem,t17,t18,g1]; rfl,by simp,_,_,_,rfl,?_⟩
   simp only [go_sem,t5]
   exact s0) (by
   simp only [go_sem,← hnme]
   rw [frQ,← rep_none])
 have hlen:=frQ_len K X nm K.length
 have u1:nm ≤ ((frQ K X nm K.length).flatMap cOQ).length:=by rw [slots_len (c:=cOQ) (s:=1) (fun _ => rfl),hlen]; omega
 have u2:((frQ K X nm K.length).flatMap cOQ).take nm = (frQ K X nm K.length).flatMap cOQ:=List.take_of_length_le (by rw [slots_len (c:=cOQ) (s:=1) (fun _ => rfl),hlen]; omega)
 have u3:=pQ_stripL σ1 6 (frQ K X nm K.length)
 simp only [go_sem,t5,s0,u1,u2,u3]
 show some (V.ts _ nm) = some (V.ts _ (frQ K X nm K.length).length)
 rw [hlen]
end Go.Proofs.YtoccmbjfkbemcaaGreat
namespace Go.Proofs.YtoccmbjfkbemcaaGreat
open Go Go.TV Go.Lp
attribute [-go_sem] app_rs
def fpP (s:Structure) (l:List Int):Prog:=prg (fpA s) (fpB s l) (List.replicate (fpC s) 0) (fpR s) (fpC s)
theorem fpA_bd {s:Structure} (h:SG s):∀ x ∈ fpA s,-1000 ≤ x∧x ≤ 1000:=fun x hx => by
 unfold fpA at hx
 obtain ⟨r,hr,hx⟩:=List.mem_flatMap.mp hx
 obtain ⟨p,hp,rfl⟩:=List.mem_map.mp hx
 have hb:-100 ≤ r.getD p.1.toNat 0∧r.getD p.1.toNat 0 ≤ 100:=by
  rw [List.getD_eq_getElem?_getD]
  by_cases hi:p.1.toNat < r.length
  ·rw [List.getElem?_eq_getElem hi]; exact equil_bd h hr _ (List.getElem_mem hi)
  ·rw [List.getElem?_eq_none (by omega)]; simp
 rcases (cols_mem hp).2 with e | e <;> rw [e] <;> omega
theorem fpB_bd {s:Structure} {l:List Int} (hb:∀ x ∈ l,-100 ≤ x∧x ≤ 100):∀ x ∈ fpB s l,-1000 ≤ x∧x ≤ 1000:=fun x hx => by
 unfold fpB at hx
 obtain ⟨j,-,hx⟩:=List.mem_flatMap.mp hx
 have key:∀ q,-100 ≤ l.getD q 0∧l.getD q 0 ≤ 100:=fun q => by
  rw [List.getD_eq_getElem?_getD]
  by_cases hi:q < l.length
  ·rw [List.getElem?_eq_getElem hi]; exact hb _ (List.getElem_mem hi)
  ·rw [List.getElem?_eq_none (by omega)]; simp
 simp only [List.mem_cons,List.not_mem_nil,or_false] at hx
 rcases hx with rfl | rfl
 ·have:=key (2 * j.toNat); omega
 ·have:=key (2 * j.toNat + 1); omega
theorem fp_ok {s:Structure} (h:SG s) {l:List Int} (hb:∀ x ∈ l,-100 ≤ x∧x ≤ 100) (h0:0 < fpR s):PrOk (fpA s) (fpB s l) (List.replicate (fpC s) 0) (fpR s) (fpC s):=by
 have h1:=free_len s
 have h2:=h.nj
 have h3:=cols_len s s.members.length
 have h4:=h.nm
 refine ⟨fpA_len s,fpB_len s l,by simp,h0,by unfold fpR; omega,by unfold fpC; omega,fpA_bd h,fpB_bd hb,fun x hx => ?_⟩
 rw [(List.mem_replicate.mp hx).2]; omega
theorem no_member {s:Structure} (h:StrOk s) (h0:free s = []):s.members = []:=by
 refine Classical.byContradiction fun hn => ?_
 obtain ⟨m,ms,e⟩:=List.exists_cons_of_ne_nil hn
 have hm:m ∈ s.members:=by rw [e]; simp
 have h1:=h.2.2.2 m hm
 have hr:MemRange s.joints.length m:=Classical.byContradiction fun hr => by rw [memB_no hr] at h1; cases h1
 obtain ⟨r1,r2,r3,r4,r5,r6⟩:=hr
 have ha:m.a.toNat < s.joints.length:=by omega
 have hb:m.b.toNat < s.joints.length:=by omega
 rw [memB_pair ⟨r1,r2,r3,r4,r5,r6⟩ (List.getElem?_eq_getElem ha) (List.getElem?_eq_getElem hb)] at h1
 have fixed:∀ i (hi:i < s.joints.length),s.joints[i].fixed = true:=fun i hi => by
  cases hf:s.joints[i].fixed with
  | true => rfl
  | false =>
   have hq:isFree s i = true:=by simp [isFree,List.getElem?_eq_getElem hi,hf]
   have:(i:Int) ∈ free s:=by
    unfold free tru
    exact List.mem_map.mpr ⟨i,List.mem_filter.mpr ⟨List.mem_range.mpr hi,hq⟩,rfl⟩
   rw [h0] at this; cases this
 unfold pairB at h1
 rw [fixed _ ha,fixed _ hb] at h1
 simp at h1
theorem lsolveS {s:Structure} (h:StrOk s) {l:List Int} (hb:∀ x ∈ l,-100 ≤ x∧x ≤ 100):∃ r,fn Tryz.prog convL extL 77 [.tp (prR (fpR s) (fpC s) (fpA s) (fpB s l) (List.replicate (fpC s) 0)) 0] = some r∧SolP (fpP s l) r:=by
 by_cases h0:0 < fpR s
 ·exact lsolve (fp_ok h.sg hb h0)
 ·have e0:free s = []:=List.eq_nil_of_length_eq_zero (by unfold fpR at h0; omega)
  have e1:=no_member h e0
  have eR:fpR s = 0:=by omega
  have eC:fpC s = 0:=by unfold fpC; rw [e1]; rfl
  have eA:fpA s = []:=by unfold fpA equil; rw [e0]; rfl
  have eB:fpB s l = []:=by unfold fpB; rw [e0]; rfl
  refine ⟨_,by rw [eR,eC,eA,eB]; exact lsolve0,.inr (.inr ⟨fun _ => 0,?_,fun j hj => ?_,?_⟩)⟩
  ·unfold fpP
   rw [eR,eC,eA,eB]
   refine ⟨⟨fun k hk => absurd hk (Nat.not_lt_zero k),fun j hj => absurd hj (Nat.not_lt_zero j)⟩,fun y hy => ?_⟩
   refine .inr fun q _ => ?_
   show (0:Rat) - 0 = 0
   grind
  ·exact (Ln_int (z:=0) (by decide)).mono (by decide)
  ·unfold fpP
   rw [eR,eC,eA,eB]
   rfl
def ToldP (s:Structure) (l:List Int) (r:V):Prop:=(r = .tup [.ts [] 0,.ts [] 0,Bo false]∧((fpP s l).None∨(fpP s l).Open)) ∨
 ∃ x:Nat→Rat,(fpP s l).Best x∧(∀ j,j < fpC s→Ln 24 (x j))∧r = .tup [LL cOQ (frQ (cols s s.members.length) ((List.range (fpC s)).map x) s.members.length (fpC s)),.ts [] 0,Bo true]
theorem ltoldBy {s:Structure} (h:StrOk s) {l:List Int} (hb:∀ x ∈ l,-100 ≤ x∧x ≤ 100):∃ r,fn Tryz.prog convL extL 73 [.tp (cStructure s) 0,.agg (prR (fpR s) (fpC s) (fpA s) (fpB s l) (List.replicate (fpC s) 0))] = some r∧ToldP s l r:=by
 obtain ⟨r0,ks,hr⟩:=lsolveS h hb
 have k2:=icolumns h.sg
 have hC:(cols s s.members.length).length = fpC s:=rfl
 obtain ⟨C,eC⟩:∃ C,C = fpC s:=⟨_,rfl⟩
 have hn:(fpP s l).n = fpC s:=rfl
 have hcl:fpC s ≤ 16:=by have:=cols_len s s.members.length; have:=h.sg.nm; omega
 rw [fn_eq,ev_eqQ (rs:=[.tmp 4,.tmp 5,.tmp 6]) [] rfl Tryz.func73 rfl rfl (by kernel_rfl) (by kernel_rfl)]
 unfold prR at ks ⊢
 rcases hr with ⟨rfl,h1⟩ | ⟨rfl,h1⟩ | ⟨x,h1,h2,rfl⟩
 ·refine ⟨_,by simp only [go_sem,ks]; rfl,.inl ⟨rfl,.inl h1⟩⟩
 ·refine ⟨_,by simp only [go_sem,ks]; rfl,.inl ⟨rfl,.inr h1⟩⟩
 ·rw [hn] at ks h2
  obtain ⟨X,hX⟩:∃ X:List Rat,X = (List.range (fpC s)).map x:=⟨_,rfl⟩
  have hXl:X.length = fpC s:=by rw [hX]; simp
  have kf:=lfrom h.sg (X:=X) (by rw [hXl]; rfl) (fun y hy => by
   rw [hX] at hy
   obtain ⟨j,hj,rfl⟩:=List.mem_map.mp hy
   exact h2 j (List.mem_range.mp hj))
  rw [← hX] at ks
  have k2':fn Tryz.prog conv ext 78 [.tp (cStructure s) 0] = some (.ts ((cols s s.members.length).flatMap cCol) X.length):=by rw [hXl]; exact k2
  have z1:(X.flatMap cF).take X.length = X.flatMap cF:=List.take_of_length_le (by rw [cF_len]; exact Nat.le_refl _)
  have z2:(X.flatMap cF).drop X.length = []:=List.drop_of_length_le (by rw [cF_len]; exact Nat.le_refl _)
  have z0:(0:Int) ≤ (X.length:Int):=by omega
  refine ⟨_,by simp only [go_sem,ks,k2',z0,z1,z2,kf,Nat.sub_self,List.take_nil,pQ_stripL]; rfl,.inr ⟨x,h1,h2,?_⟩⟩
  rw [← hX]
  rfl
end Go.Proofs.YtoccmbjfkbemcaaGreat
namespace Go.Proofs.YtoccmbjfkbemcaaGreat
open Go Go.TV Go.Lp
attribute [-go_sem] app_rs
def seqO:List (Option Rat)→Option (List Rat)
 | [] => some []
 | none :: _ => none
 | some q :: l => (seqO l).map (q :: ·)
theorem seqO_snoc:∀ (l:List (Option Rat)) (a:Option Rat),seqO (l ++ [a]) = (seqO l).bind fun qs => a.map fun q => qs ++ [q]
 | [],none => rfl
 | [],some q => rfl
 | none :: l,a => rfl
 | some q :: l,a => by
  show (seqO (l ++ [a])).map _ = ((seqO l).map _).bind _
  rw [seqO_snoc l a]
  cases seqO l with
  | none => rfl
  | some qs => cases a <;> rfl
theorem seqO_none:∀ {l l':List (Option Rat)},seqO l = none→seqO (l ++ l') = none
 | [],_,h => by cases h
 | none :: l,_,_ => rfl
 | some q :: l,l',h => by
  show (seqO (l ++ l')).map _ = none
  have:seqO l = none:=by
   cases e:seqO l with
   | none => rfl
   | some qs => rw [show seqO (some q :: l) = (seqO l).map (q :: ·) from rfl,e] at h; cases h
  rw [seqO_none this]; rfl
theorem seqO_len:∀ {l:List (Option Rat)} {qs:List Rat},seqO l = some qs→qs.length = l.length
 | [],qs,h => by cases h; rfl
 | none :: l,_,h => by cases h
 | some q :: l,qs,h => by
  cases e:seqO l with
  | none => rw [show seqO (some q :: l) = (seqO l).map (q :: ·) from rfl,e] at h; cases h
  | some rs => rw [show seqO (some q :: l) = (seqO l).map (q :: ·) from rfl,e] at h; cases h; simp [seqO_len e]
abbrev zR:List V:=[Bo false,.nil,.nil]
def preQ (qs:List Rat) (n:Nat):List V:=qs.flatMap cQ ++ rep (n - qs.length) zR
theorem preQ_len (qs:List Rat) {n:Nat} (h:qs.length ≤ n):(preQ qs n).length = n * 3:=by
 unfold preQ
 rw [List.length_append,slots_len (c:=cQ) (s:=3) (fun _ => rfl),rep_len]
 simp only [List.length_cons,List.length_nil]
 omega
theorem preQ_set (qs:List Rat) {n:Nat} (h:qs.length < n) (q:Rat):patch (preQ qs n) (qs.length * 3) (cQ q) = preQ (qs ++ [q]) n:=by
 have hl:=slots_len (c:=cQ) (s:=3) (fun _ => rfl) qs
 rw [patch_eq _ _ _ (by rw [preQ_len qs (by omega)]; show qs.length * 3 + 3 ≤ n * 3; omega)]
 unfold preQ
 rw [List.take_append_of_le_length (by omega),List.take_of_length_le (by omega),List.flatMap_append,List.length_append,List.length_singleton,show n - qs.length = n - (qs.length + 1) + 1 by omega,rep_succ]
 rw [List.drop_append,List.drop_of_length_le (by rw [hl]; omega),List.nil_append,hl,show qs.length * 3 + (cQ q).length - qs.length * 3 = 3 by show qs.length * 3 + 3 - qs.length * 3 = 3; omega]
 simp
theorem cQs_strip (σ:Store) (d:Nat) (qs:List Rat):stripL (strip σ d) (qs.flatMap cQ) = some (qs.flatMap cQ,[]):=stripL_slots (fun q => cQ_strip σ d q) qs
theorem cQ_cells (q:Rat):(cQ q).all isCell = true:=rfl
theorem cQ_take (q:Rat):(cQ q).take 3 = cQ q:=rfl
theorem cQ_len3 (q:Rat):(cQ q).length = 3:=rfl
attribute [go_sem] cQ_cells cQ_take cQ_len3
def storesR (O:List (Option Rat)):V:=match seqO O with
 | some qs => .tup [LL cQ qs,Bo true]
 | none => .tup [.ts [] 0,Bo false]
set_option maxRecDepth 10000 in
theorem istores (O:List (Option Rat)) (hL:∀ o ∈ O,LnO 24 o) (hn:O.length ≤ 1000):fn Tryz.prog conv ext 75 [LL cOQ O] = some (storesR O):=by
 have m1:(0:Int) ≤ (O.length:Int):=by omega
 have m2:56 * (O.length:Int) ≤ 281474976710656:=by omega
 have m3:(O.length:Int) ≤ 9223372036854775807:=by omega
 rw [fn_eq,ev_eqQ (rs:=[.tmp 2,.tmp 3]) [] rfl Tryz.func75 rfl rfl (by kernel_rfl) (by kernel_rfl)]
 simp only [go_sem,m1,m2,m3]
 generalize hL2:evLoopI _ _ = y
 obtain ⟨x,rfl,hx⟩:=count_rule hL2 O.length (fun k st => st.T 4 = .rs 0 0 O.length∧st.T 10 = LL cOQ O∧st.T 11 = I O.length∧st.T 12 = I k∧0 < st.nx∧∃ qs,seqO (O.take k) = some qs∧st.σ 0 = some ⟨preQ qs O.length,3,true⟩)
  (fun x => ∃ T σ nx,(x = (.exit 0,⟨T,σ,nx⟩)∧T 4 = .rs 0 0 O.length∧∃ qs,seqO O = some qs∧σ 0 = some ⟨preQ qs O.length,3,true⟩)∨(x = (.ret,⟨T,σ,nx⟩)∧T 2 = .nil∧T 3 = Bo false∧seqO O = none)) (by
   clear hL2
   rintro k ⟨T,σ,nx⟩ hk ⟨t4,t10,t11,t12,hnx,qs,hqs,s0⟩
   simp only at t4 t10 t11 t12 hnx s0
   have g1:(k:Int) < (O.length:Int):=by omega
   have g2:(0:Int) ≤ (k:Int):=by omega
   have g3:=wrap_id (n:=(k:Int) + 1) (by omega) (by omega)
   have g4:(O.flatMap cOQ)[k]? = some (pQ O[k]):=slot1 (fun a => pQ a) O k hk
   have g5:=slot_ne (c:=cOQ) (s:=1) (fun _ => rfl) (by omega) O k hk
   have g6:=slots_len (c:=cOQ) (s:=1) (fun _ => rfl) O
   rw [Nat.mul_one] at g6
   have hql:qs.length = k:=by rw [seqO_len hqs,List.length_take]; omega
   have htk:O.take (k + 1) = O.take k ++ [O[k]]:=take_snoc hk
   have ho:=hL _ (List.getElem_mem hk)
   obtain ⟨o,eo⟩:∃ o,o = O[k]:=⟨_,rfl⟩
   rw [← eo] at g4 htk ho
   cases o with
   | none =>
    have g4:(O.flatMap cOQ)[k]? = some (.sc (.pointer none)):=g4
    refine .inr ⟨_,by simp only [go_sem,t4,t10,t11,t12,g1,g2,g4,g5,g6,hk]; rfl,by simp,_,_,_,.inr ⟨rfl,?_⟩⟩
    simp only [go_sem]
    have:O = O.take (k + 1) ++ O.drop (k + 1):=(List.take_append_drop _ _).symm
    rw [this,htk]
    refine seqO_none ?_
    rw [seqO_snoc,hqs]; rfl
   | some q =>
    have g4:(O.flatMap cOQ)[k]? = some (.tp (cQ q) 0):=g4
    have hq:=ho q rfl
    have ks:=istoreQ q hq.1 hq.2
    have p1:=preQ_len qs (n:=O.length) (by omega)
    have p2:=preQ_set qs (n:=O.length) (by omega) q
    rw [hql] at p2
    have p3:k * 3 + 3 ≤ O.length * 3:=by omega
    refine .inl ⟨_,by simp only [go_sem,t4,t10,t11,t12,s0,g1,g2,g3,g4,g5,g6,hk,ks,p1,p2,p3]; rfl,?_⟩
    simp only [go_sem,t4,t10,t11]
    refine ⟨rfl,hnx,qs ++ [q],?_,rfl⟩
    rw [htk,seqO_snoc,hqs]; rfl) (by
   rintro ⟨T,σ,nx⟩ ⟨t4,t10,t11,t12,hnx,qs,hqs,s0⟩
   simp only at t4 t10 t11 t12 hnx s0
   have g1:¬(O.length:Int) < (O.length:Int):=by omega
   refine ⟨_,by simp only [go_sem,t11,t12,g1]; rfl,by simp,_,_,_,.inl ⟨rfl,?_⟩⟩
   simp only [go_sem,t4]
   rw [List.take_length] at hqs
   exact ⟨qs,hqs,s0⟩) (by
   simp only [go_sem]
   refine ⟨[],rfl,?_⟩
   unfold preQ
   rfl)
 rcases hx with ⟨T,σ,nx,⟨rfl,t4,qs,hqs,s0⟩ | ⟨rfl,t2,t3,hqs⟩⟩
 ·have hl:=seqO_len hqs
  have e1:preQ qs O.length = qs.flatMap cQ:=by unfold preQ; rw [hl,Nat.sub_self]; exact List.append_nil _
  rw [e1] at s0
  have u0:=slots_len (c:=cQ) (s:=3) (fun _ => rfl) qs
  have u1:O.length * 3 ≤ (qs.flatMap cQ).length:=by rw [u0]; omega
  have u2:(qs.flatMap cQ).take (O.length * 3) = qs.flatMap cQ:=List.take_of_length_le (by rw [u0]; omega)
  have u3:=cQs_strip σ 5 qs
  unfold storesR
  rw [hqs]
  simp only [go_sem,t4,s0,u1,u2,u3]
  show some (V.tup [V.ts _ O.length,_]) = some (V.tup [V.ts _ qs.length,_])
  rw [hl]
 ·unfold storesR
  rw [hqs]
  simp only [go_sem,t2,t3]
end Go.Proofs.YtoccmbjfkbemcaaGreat
namespace Go.Proofs.YtoccmbjfkbemcaaGreat
open Go Go.TV Go.Lp
attribute [-go_sem] app_rs
theorem behind_upd (σ:Store) (b:Nat) (cells:List V) (st:Nat) (wr:Bool) (t:V):behind (upd σ b (some ⟨cells,st,wr⟩)) [b] t = upd σ b (some ⟨cells,st,wr && flat depth t⟩):=by
 unfold behind
 cases hf:flat depth t with
 | true => simp
 | false =>
  simp only [List.isEmpty_cons,Bool.or_self,Bool.false_eq_true,if_false,Bool.and_false]
  unfold freezeL freezeL
  rw [upd_same,upd_upd]
  rfl
attribute [go_sem] behind_upd
def noR:V:=.tup [.ts [] 0,Bo false]
def DensP (s:Structure) (l:List Int) (r:V):Prop:=(¬(StrOk s∧LoadGood s.joints.length l)∧r = noR)∨(StrOk s∧LoadGood s.joints.length l∧((r = noR∧((fpP s l).None∨(fpP s l).Open)) ∨
 ∃ x:Nat→Rat,(fpP s l).Best x∧(∀ j,j < fpC s→Ln 24 (x j))∧r = storesR (frQ (cols s s.members.length) ((List.range (fpC s)).map x) s.members.length (fpC s))))
theorem lDensitiesOf {s:Structure} (h:okStructure s) {l:List Int} (hl:l.length ≤ maxLen):∃ r,fn Tryz.prog convL extL 70 [.agg (cStructure s),LI l] = some r∧DensP s l r:=by
 have k1:=iLoadOk s l h hl
 by_cases hok:StrOk s∧LoadGood s.joints.length l
 ·obtain ⟨h1,h2⟩:=hok
  rw [pb_true h1,pb_true h2] at k1
  have hb:∀ x ∈ l,-100 ≤ x∧x ≤ 100:=fun x hx => inB_true (h2.2 x hx)
  have k2:=iforceProgram h1.sg h2.1 hb
  obtain ⟨r0,k3,hr⟩:=ltoldBy h1 hb
  unfold prR at k2 k3
  rw [fn_eq,ev_eqQ (rs:=[.tmp 4,.tmp 5]) [] rfl Tryz.func70 rfl rfl (by kernel_rfl) (by kernel_rfl)]
  rcases hr with ⟨rfl,h3⟩ | ⟨x,h3,h4,rfl⟩
  ·refine ⟨_,by simp only [go_sem,k1,k2,k3]; rfl,.inr ⟨h1,h2,.inl ⟨rfl,h3⟩⟩⟩
  ·obtain ⟨O,eO⟩:∃ O,O = frQ (cols s s.members.length) ((List.range (fpC s)).map x) s.members.length (fpC s):=⟨_,rfl⟩
   have hOL:∀ o ∈ O,LnO 24 o:=by
    rw [eO]
    exact frQ_Ln (fun y hy => by
     obtain ⟨j,hj,rfl⟩:=List.mem_map.mp hy
     exact h4 j (List.mem_range.mp hj)) _
   have hOl:O.length ≤ 1000:=by rw [eO,frQ_len]; have:=h1.2.1; omega
   have k4:=istores O hOL hOl
   rw [← eO] at k3
   refine ⟨storesR O,?_,.inr ⟨h1,h2,.inr ⟨x,h3,h4,by rw [eO]⟩⟩⟩
   unfold storesR at k4 ⊢
   cases hq:seqO O with
   | none => rw [hq] at k4; simp only [go_sem,k1,k2,k3,k4]
   | some qs => rw [hq] at k4; simp only [go_sem,k1,k2,k3,k4]
 ·have hf:(pb (StrOk s) && pb (LoadGood s.joints.length l)) = false:=by
   by_cases a:StrOk s
   ·have:¬LoadGood s.joints.length l:=fun b => hok ⟨a,b⟩
    rw [pb_false this,Bool.and_false]
   ·rw [pb_false a,Bool.false_and]
  rw [hf] at k1
  rw [fn_eq,ev_eqQ (rs:=[.tmp 4,.tmp 5]) [] rfl Tryz.func70 rfl rfl (by kernel_rfl) (by kernel_rfl)]
  refine ⟨_,by simp only [go_sem,k1]; rfl,.inl ⟨hok,rfl⟩⟩
end Go.Proofs.YtoccmbjfkbemcaaGreat
namespace Go.Proofs.YtoccmbjfkbemcaaGreat
open Go Go.TV Go.Lp
attribute [-go_sem] app_rs
theorem natGood_all {n:Nat} (h:ln n ≤ 60):NatGood (dg n) :=
 ⟨fun x hx => by have:=dg_mem n x hx; unfold inB; rw [decide_eq_true this.1,decide_eq_true this.2]; rfl,h,trim_dg n⟩
theorem lRatOk (q:Rat) (h:Ln 24 q):fn Tryz.prog convL extL 127 [.agg (cQ q)] = some (Bo true):=by
 have hl1:(dg q.num.natAbs).length ≤ 24:=h.1
 have hl2:(dg q.den).length ≤ 24:=h.2
 have k1:=iBigIntOk (decide (q.num < 0)) (dg q.num.natAbs) (by unfold Short; omega)
 have hbb:(decide (q.num < 0) && decide (dg q.num.natAbs = [])) = false:=by
  by_cases hz:q.num < 0
  ·rw [decide_eq_false (dg_ne (n:=q.num.natAbs) (by omega)),Bool.and_false]
  ·rw [decide_eq_false hz]; rfl
 rw [pb_true (natGood_all (by have:=h.1; omega)),hbb] at k1
 have k2:=iNatOk (dg q.den) (by unfold Short; omega)
 rw [pb_true (natGood_all (by have:=h.2; omega))] at k2
 have k3:=ldivisor q.num.natAbs q.den (by have:=h.1; omega) (by have:=h.2; omega)
 rw [show Nat.gcd q.num.natAbs q.den = 1 from q.reduced,dg_one (d:=1) (by decide) (by decide)] at k3
 have k4:fn Tryz.prog conv ext 107 [.ts [I 1] 1,.ts [I 1] 1] = some (I 0):=by
  have:=icmp1 1 (by decide)
  rw [dg_one (d:=1) (by decide) (by decide)] at this
  exact this
 have k3':fn Tryz.prog convL extL 106 [LI (dg q.num.natAbs),LI (dg q.den)] = some (.ts [I 1] 1):=k3
 have c0:(((dg q.den).length:Int) == 0) = false:=by rw [beq_eq_false_iff_ne]; have:=app_len (dg_ne q.den_nz); omega
 have c1:¬(24:Int) < ((dg q.num.natAbs).length:Int):=by omega
 have c2:¬(24:Int) < ((dg q.den).length:Int):=by omega
 unfold cQ
 rw [fn_eq,ev_eqQ (rs:=[.tmp 2]) [] rfl Tryz.func127 rfl rfl (by kernel_rfl) (by kernel_rfl)]
 simp only [go_sem] at k1
 simp only [go_sem,k1,k2,k3',k4,c0,c1,c2]
theorem lload (q:Rat) (h:Ln 24 q):fn Tryz.prog convL extL 126 [.agg (cQ q)] = some (.tp (cQ q) 0):=by
 have k1:=lRatOk q h
 unfold cQ at k1 ⊢
 rw [fn_eq,ev_eqQ (rs:=[.tmp 2]) [] rfl Tryz.func126 rfl rfl (by kernel_rfl) (by kernel_rfl)]
 simp only [go_sem,k1]
theorem fill_set (qs:List Rat) {k:Nat} (h:k < qs.length):((qs.take k).flatMap cF ++ rep (qs.length - k) [V.sc (.pointer none)]).set k (.tp (cQ qs[k]) 0) = (qs.take (k + 1)).flatMap cF ++ rep (qs.length - (k + 1)) [V.sc (.pointer none)]:=by
 have h1:((qs.take k).flatMap cF).length = k:=by rw [cF_len,List.length_take]; omega
 rw [List.set_append_right _ _ (by omega),h1,Nat.sub_self,show qs.length - k = qs.length - (k + 1) + 1 by omega,rep_succ,take_snoc h,List.flatMap_append,List.append_assoc]
 rfl
theorem fill_get (qs:List Rat) {k:Nat} (h:k < qs.length):((qs.take (k + 1)).flatMap cF ++ rep (qs.length - (k + 1)) [V.sc (.pointer none)])[k]? = some (.tp (cQ qs[k]) 0):=by
 have hl:k < (qs.take (k + 1)).length:=by rw [List.length_take]; omega
 rw [List.getElem?_append_left (by rw [cF_len]; exact hl),cF_get _ hl,List.getElem_take]
theorem fill_len (qs:List Rat) {k:Nat} (h:k ≤ qs.length):((qs.take k).flatMap cF ++ rep (qs.length - k) [V.sc (.pointer none)]).length = qs.length:=by
 rw [List.length_append,cF_len,rep_len,List.length_take]; simp; omega
theorem cQ_patch3 (a b c:V) (q:Rat):patch [a,b,c] 0 (cQ q) = cQ q:=rfl
attribute [go_sem] cQ_patch3
set_option maxRecDepth 10000 in
theorem lloads (qs:List Rat) (hL:∀ q ∈ qs,Ln 24 q) (hn:qs.length ≤ 1000):fn Tryz.prog convL extL 115 [LL cQ qs] = some (.tup [LL cF qs,Bo true]):=by
 have m1:(0:Int) ≤ (qs.length:Int):=by omega
 have m2:8 * (qs.length:Int) ≤ 281474976710656:=by omega
 have m3:(qs.length:Int) ≤ 9223372036854775807:=by omega
 rw [fn_eq,ev_eqQ (rs:=[.tmp 2,.tmp 3]) [] rfl Tryz.func115 rfl rfl (by kernel_rfl) (by kernel_rfl)]
 simp only [go_sem,m1,m2,m3]
 generalize hL2:evLoopI _ _ = y
 obtain ⟨x,rfl,T,σ,nx,rfl,t4,s0⟩:=count_rule hL2 qs.length (fun k st => st.T 4 = .rs 0 0 qs.length∧st.T 10 = LL cQ qs∧st.T 11 = I qs.length∧st.T 12 = I k∧0 < st.nx∧st.σ 0 = some ⟨(qs.take k).flatMap cF ++ rep (qs.length - k) [V.sc (.pointer none)],1,true⟩)
  (fun x => ∃ T σ nx,x = (.exit 0,⟨T,σ,nx⟩)∧T 4 = .rs 0 0 qs.length∧σ 0 = some ⟨qs.flatMap cF,1,true⟩) (by
   clear hL2
   rintro k ⟨T,σ,nx⟩ hk ⟨t4,t10,t11,t12,hnx,s0⟩
   simp only at t4 t10 t11 t12 hnx s0
   have g1:(k:Int) < (qs.length:Int):=by omega
   have g2:(0:Int) ≤ (k:Int):=by omega
   have g3:=wrap_id (n:=(k:Int) + 1) (by omega) (by omega)
   have g4:=slot (c:=cQ) (s:=3) (fun _ => rfl) qs k hk
   have g5:=slot_ne (c:=cQ) (s:=3) (fun _ => rfl) (by omega) qs k hk
   have g6:=slots_len (c:=cQ) (s:=3) (fun _ => rfl) qs
   have g7:k * 3 + 3 ≤ qs.length * 3:=by omega
   have kl:=lload qs[k] (hL _ (List.getElem_mem hk))
   have p1:=fill_set qs hk
   have p2:=fill_get qs hk
   have p3:=fill_len qs (k:=k) (by omega)
   have p4:=fill_len qs (k:=k + 1) (by omega)
   have d1:¬0 = nx:=by omega
   have d2:¬nx = 0:=by omega
   have d3:k + 1 ≤ qs.length:=hk
   obtain ⟨q,eq⟩:∃ q,q = qs[k]:=⟨_,rfl⟩
   rw [← eq] at g4 kl p1 p2
   have st1:∀ σ d,stripL (strip σ d) (cQ q) = some (cQ q,[]):=fun σ d => cQ_strip σ d q
   refine .inl ⟨_,by simp only [go_sem,t4,t10,t11,t12,s0,g1,g2,g3,g4,g5,g6,g7,hk,kl,p1,p2,p3,p4,d1,d2,d3,st1]; rfl,?_⟩
   simp only [go_sem,t4,t10,t11,d1,d2]
   exact ⟨rfl,by omega⟩) (by
   rintro ⟨T,σ,nx⟩ ⟨t4,t10,t11,t12,hnx,s0⟩
   simp only at t4 t10 t11 t12 hnx s0
   have g1:¬(qs.length:Int) < (qs.length:Int):=by omega
   refine ⟨_,by simp only [go_sem,t11,t12,g1]; rfl,by simp,_,_,_,rfl,?_⟩
   simp only [go_sem,t4]
   have e:rep 0 [V.sc (.pointer none)] = []:=rfl
   rw [List.take_length,Nat.sub_self,e,List.append_nil] at s0
   exact s0) (by
   simp only [go_sem])
 have u1:qs.length ≤ (qs.flatMap cF).length:=by rw [cF_len]; exact Nat.le_refl _
 have u2:(qs.flatMap cF).take qs.length = qs.flatMap cF:=List.take_of_length_le (by rw [cF_len]; exact Nat.le_refl _)
 have u3:=cF_strip σ 4 qs
 simp only [go_sem,t4,s0,u1,u2,u3]
theorem ldensities {s:Structure} (h:StrOk s) (ho:okStructure s) {qs:List Rat} (hl:qs.length = s.members.length) (hL:∀ q ∈ qs,Ln 24 q):fn Tryz.prog convL extL 95 [.tp (cStructure s) 0,LL cQ qs] = some (.tup [LL cF qs,Bo true]):=by
 have hnm:=h.2.1
 have k1:=iStructureOk s ho
 rw [pb_true h] at k1
 have k2:=lloads qs hL (by omega)
 have c0:((qs.length:Int) != (s.members.length:Int)) = false:=by rw [hl]; simp
 rw [fn_eq,ev_eqQ (rs:=[.tmp 4,.tmp 5]) [] rfl Tryz.func95 rfl rfl (by kernel_rfl) (by kernel_rfl)]
 simp only [go_sem,k1,k2,c0]
end Go.Proofs.YtoccmbjfkbemcaaGreat
namespace Go.Proofs.YtoccmbjfkbemcaaGreat
open Go Go.TV Go.Lp
attribute [-go_sem] app_rs
def sqQ (s:Structure) (q:Rat) (k:Nat):Option Rat:=mulO (mulO (some q) (some q)) (some ((vx s k * vx s k + vy s k * vy s k:Int):Rat))
theorem mulO_Ln {a b:Option Rat}:LnO 24 (mulO a b):=fun y h => by
 cases a with
 | none => cases h
 | some x => cases b with
  | none => cases h
  | some z => exact fitO_Ln h
theorem lforceSquare {s:Structure} (h:SG s) {qs:List Rat} (hl:qs.length = s.members.length) (hL:∀ q ∈ qs,Ln 24 q) {k:Nat} (hk:k < qs.length) :
  fn Tryz.prog convL extL 96 [.tp (cStructure s) 0,LL cF qs,I k] = some (pQ (sqQ s qs[k] k)):=by
 have k1:=ivector h (k:=k) (by omega)
 have hb:=vec_bd h k
 have hnm:=h.nm
 have g1:(k:Int) < (qs.length:Int):=by omega
 have g2:(0:Int) ≤ (k:Int):=by omega
 have g4:=cF_get qs hk
 have g9:(qs.flatMap cF).length = qs.length:=cF_len qs
 have hne:qs.flatMap cF ≠ []:=fun e => by rw [e] at g9; have:qs.length = 0:=g9.symm; omega
 have hq:=hL _ (List.getElem_mem hk)
 obtain ⟨q,eq⟩:∃ q,q = qs[k]:=⟨_,rfl⟩
 rw [← eq] at g4 hq ⊢
 have x2:0 ≤ vx s k * vx s k∧vx s k * vx s k ≤ 10000:=by
  have h1:vx s k * vx s k = ((vx s k).natAbs * (vx s k).natAbs:Nat):=by rw [Int.natAbs_mul_self]
  have h2:(vx s k).natAbs * (vx s k).natAbs ≤ 100 * 100:=Nat.mul_le_mul (by omega) (by omega)
  omega
 have y2:0 ≤ vy s k * vy s k∧vy s k * vy s k ≤ 10000:=by
  have h1:vy s k * vy s k = ((vy s k).natAbs * (vy s k).natAbs:Nat):=by rw [Int.natAbs_mul_self]
  have h2:(vy s k).natAbs * (vy s k).natAbs ≤ 100 * 100:=Nat.mul_le_mul (by omega) (by omega)
  omega
 have w1:=wrap_id (n:=vx s k * vx s k) (by omega) (by omega)
 have w2:=wrap_id (n:=vy s k * vy s k) (by omega) (by omega)
 have w3:=wrap_id (n:=vx s k * vx s k + vy s k * vy s k) (by omega) (by omega)
 have k2:=iwholeZ (vx s k * vx s k + vy s k * vy s k) (by omega) (by omega)
 have k3:fn Tryz.prog convL extL 116 [.tp (cQ q) 0,.tp (cQ q) 0] = some (pQ (mulO (some q) (some q))):=lmul (a:=some q) (b:=some q) (fun z hz => by cases hz; exact hq.mono (by decide)) (fun z hz => by cases hz; exact hq.mono (by decide))
 have k4:fn Tryz.prog convL extL 116 [pQ (mulO (some q) (some q)),.tp (cQ ((vx s k * vx s k + vy s k * vy s k:Int):Rat)) 0] = some (pQ (sqQ s q k)) :=
  lmul (b:=some ((vx s k * vx s k + vy s k * vy s k:Int):Rat)) (fun z hz => (mulO_Ln z hz).mono (by decide)) (fun z hz => by cases hz; exact (Ln_int (by omega)).mono (by decide))
 have st1:∀ σ d,strip σ d (pQ (mulO (some q) (some q))) = some (pQ (mulO (some q) (some q)),[]):=fun σ d => by
  cases mulO (some q) (some q) with
  | none => unfold pQ; rw [strip_sc]
  | some z => unfold pQ; rw [strip_tp]
 have e1:(((vx s k * vx s k + vy s k * vy s k:Int):Rat)) = ((vx s k * vx s k + vy s k * vy s k:Int):Rat):=rfl
 obtain ⟨m1,em1⟩:∃ m1,m1 = pQ (mulO (some q) (some q)):=⟨_,rfl⟩
 rw [← em1] at k3 k4 st1
 obtain ⟨m2,em2⟩:∃ m2,m2 = cQ ((vx s k * vx s k + vy s k * vy s k:Int):Rat):=⟨_,rfl⟩
 rw [← em2] at k2 k4
 rw [fn_eq,ev_eqQ (rs:=[.tmp 6]) [] rfl Tryz.func96 rfl rfl (by kernel_rfl) (by kernel_rfl)]
 simp only [go_sem,k1,g1,g2,g4,g9,hne,hk,w1,w2,w3,k2,k3,k4,st1]
 exact pQ_strip _ _
end Go.Proofs.YtoccmbjfkbemcaaGreat
namespace Go.Proofs.YtoccmbjfkbemcaaGreat
open Go Go.TV Go.Lp
attribute [-go_sem] app_rs
def sqs (s:Structure) (qs:List Rat):List (Option Rat):=(List.range qs.length).map fun k => sqQ s (qs.getD k 0) k
theorem sqs_len (s:Structure) (qs:List Rat):(sqs s qs).length = qs.length:=by simp [sqs]
theorem sqs_get (s:Structure) (qs:List Rat) {k:Nat} (h:k < qs.length):(sqs s qs)[k]'(by rw [sqs_len]; exact h) = sqQ s qs[k] k:=by
 simp [sqs,List.getD_eq_getElem?_getD,List.getElem?_eq_getElem h]
def squaresR (O:List (Option Rat)):V:=match seqO O with
 | some xs => .tup [LL cF xs,Bo true]
 | none => .tup [.ts [] 0,Bo false]
def preF (xs:List Rat) (n:Nat):List V:=xs.flatMap cF ++ rep (n - xs.length) [V.sc (.pointer none)]
theorem preF_len (xs:List Rat) {n:Nat} (h:xs.length ≤ n):(preF xs n).length = n:=by
 unfold preF; rw [List.length_append,cF_len,rep_len]; simp; omega
theorem preF_set (xs:List Rat) {n:Nat} (h:xs.length < n) (q:Rat):(preF xs n).set xs.length (.tp (cQ q) 0) = preF (xs ++ [q]) n:=by
 unfold preF
 rw [List.set_append_right _ _ (by rw [cF_len]; exact Nat.le_refl _),cF_len,Nat.sub_self,List.length_append,List.length_singleton,show n - xs.length = n - (xs.length + 1) + 1 by omega,rep_succ,List.flatMap_append,List.append_assoc]
 rfl
theorem preF_get (xs:List Rat) {n:Nat} (q:Rat):(preF (xs ++ [q]) n)[xs.length]? = some (.tp (cQ q) 0):=by
 unfold preF
 rw [List.getElem?_append_left (by rw [cF_len]; simp),cF_get _ (by simp)]
 simp
set_option maxRecDepth 10000 in
theorem lforceSquares {s:Structure} (h:StrOk s) (ho:okStructure s) {qs:List Rat} (hl:qs.length = s.members.length) (hL:∀ q ∈ qs,Ln 24 q) :
  fn Tryz.prog convL extL 83 [.tp (cStructure s) 0,LL cQ qs] = some (squaresR (sqs s qs)):=by
 have hnm:=h.2.1
 have k1:=ldensities h ho hl hL
 have m1:(0:Int) ≤ (qs.length:Int):=by omega
 have m2:8 * (qs.length:Int) ≤ 281474976710656:=by omega
 have m3:(qs.length:Int) ≤ 9223372036854775807:=by omega
 rw [fn_eq,ev_eqQ (rs:=[.tmp 4,.tmp 5]) [] rfl Tryz.func83 rfl rfl (by kernel_rfl) (by kernel_rfl)]
 simp only [go_sem,k1,m1,m2,m3]
 generalize hL2:evLoopI _ _ = y
 obtain ⟨x,rfl,hx⟩:=count_rule hL2 qs.length (fun k st => st.T 0 = .tp (cStructure s) 0∧st.T 6 = LL cF qs∧st.T 8 = .rs 0 0 qs.length∧st.T 22 = I qs.length∧st.T 23 = I k∧0 < st.nx∧∃ xs,seqO ((sqs s qs).take k) = some xs∧st.σ 0 = some ⟨preF xs qs.length,1,true⟩)
  (fun x => ∃ T σ nx,(x = (.exit 0,⟨T,σ,nx⟩)∧T 8 = .rs 0 0 qs.length∧∃ xs,seqO (sqs s qs) = some xs∧σ 0 = some ⟨preF xs qs.length,1,true⟩)∨(x = (.ret,⟨T,σ,nx⟩)∧T 4 = .nil∧T 5 = Bo false∧seqO (sqs s qs) = none)) (by
   clear hL2
   rintro k ⟨T,σ,nx⟩ hk ⟨t0,t6,t8,t22,t23,hnx,xs,hxs,s0⟩
   simp only at t0 t6 t8 t22 t23 hnx s0
   have g1:(k:Int) < (qs.length:Int):=by omega
   have g2:(0:Int) ≤ (k:Int):=by omega
   have g3:=wrap_id (n:=(k:Int) + 1) (by omega) (by omega)
   have hk':k < (sqs s qs).length:=by rw [sqs_len]; exact hk
   have hxl:xs.length = k:=by rw [seqO_len hxs,List.length_take]; omega
   have htk:(sqs s qs).take (k + 1) = (sqs s qs).take k ++ [sqQ s qs[k] k]:=by rw [take_snoc hk',sqs_get s qs hk]
   have k2:=lforceSquare h.sg hl hL hk
   have p1:=preF_len xs (n:=qs.length) (by omega)
   have g5:k + 1 ≤ qs.length:=hk
   cases hv:sqQ s qs[k] k with
   | none =>
    rw [hv] at k2 htk
    have k2:fn Tryz.prog convL extL 96 [.tp (cStructure s) 0,LL cF qs,I k] = some (.sc (.pointer none)):=k2
    have p3:((preF xs qs.length).set k (V.sc (.pointer none)))[k]? = some (V.sc (.pointer none)):=by
     rw [List.getElem?_set_self (by omega)]
    have p4:((preF xs qs.length).set k (V.sc (.pointer none))).length = qs.length:=by rw [List.length_set]; exact p1
    refine .inr ⟨_,by simp only [go_sem,t0,t6,t8,t22,t23,s0,g1,g2,g5,hk,k2,p1,p3,p4]; rfl,by simp,_,_,_,.inr ⟨rfl,?_⟩⟩
    simp only [go_sem]
    have:sqs s qs = (sqs s qs).take (k + 1) ++ (sqs s qs).drop (k + 1):=(List.take_append_drop _ _).symm
    rw [this,htk]
    refine seqO_none ?_
    rw [seqO_snoc,hxs]; rfl
   | some z =>
    rw [hv] at k2 htk
    have k2:fn Tryz.prog convL extL 96 [.tp (cStructure s) 0,LL cF qs,I k] = some (.tp (cQ z) 0):=k2
    have p2:=preF_set xs (n:=qs.length) (by omega) z
    have p3:=preF_get xs (n:=qs.length) z
    have p4:=preF_len (xs ++ [z]) (n:=qs.length) (by simp; omega)
    rw [hxl] at p2 p3
    refine .inl ⟨_,by simp only [go_sem,t0,t6,t8,t22,t23,s0,g1,g2,g3,g5,hk,k2,p1,p2,p3,p4]; rfl,?_⟩
    simp only [go_sem,t0,t6,t8,t22]
    refine ⟨rfl,hnx,xs ++ [z],?_,rfl⟩
    rw [htk,seqO_snoc,hxs]; rfl) (by
   rintro ⟨T,σ,nx⟩ ⟨t0,t6,t8,t22,t23,hnx,xs,hxs,s0⟩
   simp only at t0 t6 t8 t22 t23 hnx s0
   have g1:¬(qs.length:Int) < (qs.length:Int):=by omega
   refine ⟨_,by simp only [go_sem,t22,t23,g1]; rfl,by simp,_,_,_,.inl ⟨rfl,?_⟩⟩
   simp only [go_sem,t8]
   rw [← sqs_len s qs,List.take_length] at hxs
   exact ⟨xs,hxs,s0⟩) (by
   simp only [go_sem]
   refine ⟨[],rfl,?_⟩
   unfold preF
   rfl)
 rcases hx with ⟨T,σ,nx,⟨rfl,t8,xs,hxs,s0⟩ | ⟨rfl,t4,t5,hxs⟩⟩
 ·have hxl:xs.length = qs.length:=by rw [seqO_len hxs,sqs_len]
  have e1:preF xs qs.length = xs.flatMap cF:=by unfold preF; rw [hxl,Nat.sub_self]; exact List.append_nil _
  rw [e1] at s0
  have u1:qs.length ≤ (xs.flatMap cF).length:=by rw [cF_len]; omega
  have u2:(xs.flatMap cF).take qs.length = xs.flatMap cF:=List.take_of_length_le (by rw [cF_len]; omega)
  have u3:=cF_strip σ 4 xs
  unfold squaresR
  rw [hxs]
  simp only [go_sem,t8,s0,u1,u2,u3]
  show some (V.tup [V.ts _ qs.length,_]) = some (V.tup [V.ts _ xs.length,_])
  rw [hxl]
 ·unfold squaresR
  rw [hxs]
  simp only [go_sem,t4,t5]
end Go.Proofs.YtoccmbjfkbemcaaGreat
namespace Go.Proofs.YtoccmbjfkbemcaaGreat
open Go Go.TV Go.Lp
attribute [-go_sem] app_rs
theorem iCmpL (x y:Rat) (hx:Ln 100 x) (hy:Ln 100 y):fn Tryz.prog conv ext 84 [.tp (cQ x) 0,.tp (cQ y) 0] = some (I (cmpZ (x.num * y.den) (y.num * x.den))):=by
 have n1:=ln_nd hx hy
 have n2:=ln_nd hy hx
 have k1:=iscaledQ x y.den (by have:=hx.1; omega) (by have:=hy.2; omega)
 have k2:=iscaledQ y x.den (by have:=hy.1; omega) (by have:=hx.2; omega)
 have k3:=iBcompare (x.num * y.den) (y.num * x.den) (by omega) (by omega)
 unfold cQ at *
 unfold cZ at *
 rw [fn_eq,ev_eqQ (rs:=[.tmp 4]) [] rfl Tryz.func84 rfl rfl (by kernel_rfl) (by kernel_rfl)]
 simp only [go_sem,k1,k2,k3]
def over1 (x:Rat) (w:Int):Bool:=decide (0 < cmpZ (x.num * ((w * w:Int):Rat).den) (((w * w:Int):Rat).num * x.den))
theorem seqO_get:∀ {l:List (Option Rat)} {xs:List Rat},seqO l = some xs→∀ x ∈ xs,some x ∈ l
 | [],xs,h,x,hx => by cases h; cases hx
 | none :: l,_,h,_,_ => by cases h
 | some q :: l,xs,h,x,hx => by
  cases e:seqO l with
  | none => rw [show seqO (some q :: l) = (seqO l).map (q :: ·) from rfl,e] at h; cases h
  | some rs =>
   rw [show seqO (some q :: l) = (seqO l).map (q :: ·) from rfl,e] at h
   cases h
   rcases List.mem_cons.mp hx with rfl | hx
   ·exact List.mem_cons_self
   ·exact List.mem_cons_of_mem _ (seqO_get e x hx)
theorem sqs_Ln {s:Structure} {qs xs:List Rat} (h:seqO (sqs s qs) = some xs):∀ x ∈ xs,Ln 24 x:=fun x hx => by
 have:=seqO_get h x hx
 unfold sqs at this
 obtain ⟨k,-,e⟩:=List.mem_map.mp this
 exact mulO_Ln x e
def overB (xs:List Rat) (w:List Int) (k:Nat):Bool:=over1 (xs.getD k 0) (w.getD k 0)
def overR (O:List (Option Rat)) (w:List Int):V:=match seqO O with
 | some xs => .tup [LI (tru (overB xs w) xs.length),Bo true]
 | none => .tup [.ts [] 0,Bo false]
set_option maxRecDepth 10000 in
theorem loverloaded {s:Structure} (h:StrOk s) (ho:okStructure s) {qs:List Rat} (hl:qs.length = s.members.length) (hL:∀ q ∈ qs,Ln 24 q) {w:List Int} (hw:LimGood s.members.length w) :
  fn Tryz.prog convL extL 76 [.tp (cStructure s) 0,LL cQ qs,LI w] = some (overR (sqs s qs) w):=by
 have hnm:=h.2.1
 have k1:=lforceSquares h ho hl hL
 have k2:=ifitsLimits (cStructure s) 0 s.members w rfl (by rw [hw.1]; unfold maxLen; omega)
 rw [pb_true hw] at k2
 unfold squaresR at k1
 unfold overR
 rw [fn_eq,ev_eqQ (rs:=[.tmp 6,.tmp 7]) [] rfl Tryz.func76 rfl rfl (by kernel_rfl) (by kernel_rfl)]
 cases hq:seqO (sqs s qs) with
 | none =>
  rw [hq] at k1
  simp only [go_sem,k1]
 | some xs =>
  rw [hq] at k1
  simp only [go_sem,k1,k2]
  have hxl:xs.length = s.members.length:=by rw [seqO_len hq,sqs_len,hl]
  generalize hL2:evLoopI _ _ = y
  obtain ⟨x,rfl,T,σ,nx,rfl,hg⟩:=count_rule hL2 xs.length (fun k st => st.T 2 = LI w∧st.T 27 = LL cF xs∧st.T 28 = I xs.length∧st.T 29 = I k∧Grow st.T st.σ st.nx 10 (tru (overB xs w) k))
   (fun x => ∃ T σ nx,x = (.exit 0,⟨T,σ,nx⟩)∧Grow T σ nx 10 (tru (overB xs w) xs.length)) (by
    clear hL2
    rintro k ⟨T,σ,nx⟩ hk ⟨t2,t27,t28,t29,hg⟩
    simp only at t2 t27 t28 t29 hg
    have g1:(k:Int) < (xs.length:Int):=by omega
    have g2:(0:Int) ≤ (k:Int):=by omega
    have g3:=wrap_id (n:=(k:Int) + 1) (by omega) (by omega)
    have g4:=cF_get xs hk
    have g9:(xs.flatMap cF).length = xs.length:=cF_len xs
    have hne:xs.flatMap cF ≠ []:=fun e => by rw [e] at g9; have:xs.length = 0:=g9.symm; omega
    have hkw:k < w.length:=by rw [hw.1]; omega
    have hwk:=inB_true (hw.2 _ (List.getElem_mem hkw))
    have a1:=idx (xs:=w) (k:=k) hkw
    have a2:=slot_ne (c:=cI) (s:=1) (fun _ => rfl) (by omega) w k hkw
    have a3:(k:Int) < (w.length:Int):=by omega
    have hx:=sqs_Ln hq _ (List.getElem_mem hk)
    have hov:overB xs w k = over1 xs[k] w[k]:=by
     unfold overB
     rw [List.getD_eq_getElem?_getD,List.getElem?_eq_getElem hk,List.getD_eq_getElem?_getD,List.getElem?_eq_getElem hkw]; rfl
    obtain ⟨x,ex⟩:∃ x,x = xs[k]:=⟨_,rfl⟩
    obtain ⟨v,ev⟩:∃ v,v = w[k]:=⟨_,rfl⟩
    rw [← ex,← ev] at hov
    rw [← ex] at g4 hx
    rw [← ev] at a1 hwk
    have v2:0 ≤ v * v∧v * v ≤ 1000000:=by
     have h1:v * v = (v.natAbs * v.natAbs:Nat):=by rw [Int.natAbs_mul_self]
     have h2:v.natAbs * v.natAbs ≤ 1000 * 1000:=Nat.mul_le_mul (by omega) (by omega)
     omega
    have w1:=wrap_id (n:=v * v) (by omega) (by omega)
    have k3:=iwholeZ (v * v) (by omega) (by omega)
    have k4:=iCmpL x ((v * v:Int):Rat) (hx.mono (by decide)) ((Ln_int (by omega)).mono (by decide))
    have hle:=tru_len (overB xs w) k
    unfold over1 at hov
    obtain ⟨m2,em2⟩:∃ m2,m2 = cQ ((v * v:Int):Rat):=⟨_,rfl⟩
    obtain ⟨z,ez⟩:∃ z,z = cmpZ (x.num * ((v * v:Int):Rat).den) (((v * v:Int):Rat).num * x.den):=⟨_,rfl⟩
    rw [← em2] at k3 k4
    rw [← ez] at k4 hov
    by_cases hz:0 < z
    ·rw [decide_eq_true hz] at hov
     obtain ⟨σ',ha,hs⟩:=grow_append hg (k:Int) (by omega)
     refine .inl ⟨_,by simp only [go_sem,t2,t27,t28,t29,g1,g2,g3,g4,g9,hne,hk,hkw,a1,a2,a3,w1,k3,k4,hz,ha]; rfl,?_⟩
     simp only [go_sem,t2,t27,t28]
     rw [tru_yes hov]
     exact ⟨rfl,grow_new hs (by simp [go_sem]) (by simp)⟩
    ·rw [decide_eq_false hz] at hov
     refine .inl ⟨_,by simp only [go_sem,t2,t27,t28,t29,g1,g2,g3,g4,g9,hne,hk,hkw,a1,a2,a3,w1,k3,k4,hz]; rfl,?_⟩
     simp only [go_sem,t2,t27,t28]
     rw [tru_no hov]
     exact ⟨rfl,grow_eq (T:=T) (by simp only [go_sem]) hg⟩) (by
    rintro ⟨T,σ,nx⟩ ⟨t2,t27,t28,t29,hg⟩
    simp only at t2 t27 t28 t29 hg
    exact ⟨_,by simp only [go_sem,t28,t29,Int.lt_irrefl]; rfl,by simp,_,_,_,rfl,grow_eq (T:=T) (by simp only [go_sem]) hg⟩) (by
    simp only [go_sem]
    exact .inl ⟨by simp only [go_sem],rfl⟩)
  obtain ⟨ids,hs⟩:=grow_strip hg 5
  simp only [go_sem,hs]
end Go.Proofs.YtoccmbjfkbemcaaGreat
namespace Go.Proofs.YtoccmbjfkbemcaaGreat
open Go Go.TV Go.Lp
attribute [-go_sem] app_rs
def withinB (s:Structure) (qs:List Rat) (w:List Int):Bool:=match seqO (sqs s qs) with
 | some xs => decide ((tru (overB xs w) xs.length).length = 0)
 | none => false
theorem lIsWithin {s:Structure} (h:StrOk s) (ho:okStructure s) {qs:List Rat} (hl:qs.length = s.members.length) (hL:∀ q ∈ qs,Ln 24 q) {w:List Int} (hw:LimGood s.members.length w) :
  fn Tryz.prog convL extL 71 [.agg (cStructure s),LL cQ qs,LI w] = some (Bo (withinB s qs w)):=by
 have k1:=loverloaded h ho hl hL hw
 unfold overR at k1
 unfold withinB
 rw [fn_eq,ev_eqQ (rs:=[.tmp 6]) [] rfl Tryz.func71 rfl rfl (by kernel_rfl) (by kernel_rfl)]
 cases hq:seqO (sqs s qs) with
 | none =>
  rw [hq] at k1
  simp only [go_sem,k1]
 | some xs =>
  rw [hq] at k1
  by_cases hz:(tru (overB xs w) xs.length).length = 0
  ·have e:(((tru (overB xs w) xs.length).length:Int) == 0) = true:=by rw [hz]; rfl
   simp only [go_sem,k1,e,decide_eq_true hz]
  ·have e:(((tru (overB xs w) xs.length).length:Int) == 0) = false:=by rw [beq_eq_false_iff_ne]; omega
   simp only [go_sem,k1,e,decide_eq_false hz]
def SafeP (s:Structure) (l w:List Int) (r:V):Prop :=
 (∃ qs,qs.length = s.members.length∧(∀ q ∈ qs,Ln 24 q)∧DensP s l (.tup [LL cQ qs,Bo true])∧withinB s qs w = true∧r = .tup [LL cQ qs,Bo true]) ∨
 (r = noR∧(DensP s l noR∨∃ qs,qs.length = s.members.length∧(∀ q ∈ qs,Ln 24 q)∧DensP s l (.tup [LL cQ qs,Bo true])∧withinB s qs w = false))
theorem lSafeDensities {s:Structure} (h:StrOk s) (ho:okStructure s) {l w:List Int} (hl:LoadGood s.joints.length l) (hw:LimGood s.members.length w) :
  ∃ r,fn Tryz.prog convL extL 61 [.agg (cStructure s),LI l,LI w] = some r∧SafeP s l w r:=by
 have hnj:=h.1
 obtain ⟨r,k1,hr⟩:=lDensitiesOf ho (l:=l) (by rw [hl.1]; unfold maxLen; omega)
 have no:r = noR→∃ r,fn Tryz.prog convL extL 61 [.agg (cStructure s),LI l,LI w] = some r∧SafeP s l w r:=fun e => by
  subst e
  have k1':fn Tryz.prog convL extL 70 [.agg (cStructure s),LI l] = some (.tup [.ts [] 0,Bo false]):=k1
  refine ⟨noR,?_,.inr ⟨rfl,.inl hr⟩⟩
  unfold noR
  rw [fn_eq,ev_eqQ (rs:=[.tmp 6,.tmp 7]) [] rfl Tryz.func61 rfl rfl (by kernel_rfl) (by kernel_rfl)]
  simp only [go_sem,k1']
 rcases hr with ⟨_,e⟩ | ⟨h1,h2,⟨e,_⟩ | ⟨x,hb,hx,e⟩⟩
 ·exact no e
 ·exact no e
 ·cases hq:seqO (frQ (cols s s.members.length) ((List.range (fpC s)).map x) s.members.length (fpC s)) with
  | none => exact no (by rw [e]; unfold storesR; rw [hq]; rfl)
  | some qs =>
   have e2:r = .tup [LL cQ qs,Bo true]:=by rw [e]; unfold storesR; rw [hq]
   have hql:qs.length = s.members.length:=by rw [seqO_len hq,frQ_len]
   have hqL:∀ q ∈ qs,Ln 24 q:=fun q hm => frQ_Ln (fun y hy => by
    obtain ⟨j,hj,rfl⟩:=List.mem_map.mp hy
    exact hx j (List.mem_range.mp hj)) _ _ (seqO_get hq q hm) q rfl
   have hD:DensP s l (.tup [LL cQ qs,Bo true]):=by
    rw [← e2]
    exact .inr ⟨h1,h2,.inr ⟨x,hb,hx,e⟩⟩
   rw [e2] at k1
   have k2:=lIsWithin h ho hql hqL hw
   cases hwb:withinB s qs w with
   | true =>
    rw [hwb] at k2
    refine ⟨.tup [LL cQ qs,Bo true],?_,.inl ⟨qs,hql,hqL,hD,hwb,rfl⟩⟩
    rw [fn_eq,ev_eqQ (rs:=[.tmp 6,.tmp 7]) [] rfl Tryz.func61 rfl rfl (by kernel_rfl) (by kernel_rfl)]
    simp only [go_sem,k1,k2]
   | false =>
    rw [hwb] at k2
    refine ⟨noR,?_,.inr ⟨rfl,.inr ⟨qs,hql,hqL,hD,hwb⟩⟩⟩
    unfold noR
    rw [fn_eq,ev_eqQ (rs:=[.tmp 6,.tmp 7]) [] rfl Tryz.func61 rfl rfl (by kernel_rfl) (by kernel_rfl)]
    simp only [go_sem,k1,k2]
theorem lIsSafe {s:Structure} (h:StrOk s) (ho:okStructure s) {l w:List Int} (hl:LoadGood s.joints.length l) (hw:LimGood s.members.length w) :
  ∃ b r,fn Tryz.prog convL extL 48 [.agg (cStructure s),LI l,LI w] = some (Bo b)∧SafeP s l w r∧(b = true ↔ r ≠ noR):=by
 obtain ⟨r,k1,hr⟩:=lSafeDensities h ho hl hw
 rcases hr with ⟨qs,a1,a2,a3,a4,rfl⟩ | ⟨rfl,a1⟩
 ·refine ⟨true,_,?_,.inl ⟨qs,a1,a2,a3,a4,rfl⟩,⟨fun _ e => ?_,fun _ => rfl⟩⟩
  ·rw [fn_eq,ev_eqQ (rs:=[.tmp 6]) [] rfl Tryz.func48 rfl rfl (by kernel_rfl) (by kernel_rfl)]
   simp only [go_sem,k1]
  ·unfold noR at e
   injection e with e
   injection e with _ e
   injection e with e _
   cases e
 ·refine ⟨false,_,?_,.inr ⟨rfl,a1⟩,⟨fun e => by (cases e),fun e => absurd rfl e⟩⟩
  unfold noR at k1
  rw [fn_eq,ev_eqQ (rs:=[.tmp 6]) [] rfl Tryz.func48 rfl rfl (by kernel_rfl) (by kernel_rfl)]
  simp only [go_sem,k1]
end Go.Proofs.YtoccmbjfkbemcaaGreat
namespace Go.Proofs.YtoccmbjfkbemcaaGreat
open Go Go.TV
attribute [-go_sem] app_rs
def StanceP (t:Stance) (k:Nat):Prop:=HangP t.st∧t.name = tname k∧t.load.length = 2 * t.st.joints.length∧Bd t.load∧t.limits.length = t.st.members.length∧∀ x ∈ t.limits,x = 5∨x = 20∨x = 100∨x = 500
theorem hang_len {s:Structure} (h:HangP s):1 ≤ s.joints.length∧s.joints.length ≤ 4∧1 ≤ s.members.length∧s.members.length ≤ 3:=by
 obtain ⟨x1,y1,x2,y2,x3,y3,k,_,rfl | ⟨x4,k3,_,_,rfl⟩⟩:=h
 ·simp
 ·simp
theorem digit_ok (k:Nat) (h:k < 4):digitB (48 + k).toUInt8 = true:=by
 have:k = 0∨k = 1∨k = 2∨k = 3:=by omega
 rcases this with rfl | rfl | rfl | rfl <;> decide
theorem stance_ok {t:Stance} {k:Nat} (hk:k < 4) (h:StanceP t k):stanceB t = true∧okStance t:=by
 obtain ⟨h1,h2,h3,h4,h5,h6⟩:=h
 obtain ⟨g1,g2⟩:=hang_ok h1
 obtain ⟨l1,l2,l3,l4⟩:=hang_len h1
 have mx:8 ≤ maxLen:=by decide
 have nm:NameOk t.name:=by
  rw [h2]; exact name2 116 _ (by decide) (digit_ok k hk)
 have nz:t.name.size = 2:=by rw [h2]; rfl
 refine ⟨?_,by unfold okS; omega,g2,⟨fun x hx => okI_iff.mpr (by have:=h4 x hx; omega),by omega,by omega⟩,⟨fun x hx => okI_iff.mpr (by have:=h6 x hx; omega),by omega,by omega⟩⟩
 unfold stanceB
 have a1:LoadGood t.st.joints.length t.load:=⟨h3,fun x hx => inB_yes (by have:=h4 x hx; omega)⟩
 have a2:LimGood t.st.members.length t.limits:=⟨h5,fun x hx => inB_yes (by have:=h6 x hx; omega)⟩
 rw [pb_true nm,pb_true g1,pb_true a1,pb_true a2]; rfl
theorem members_strip (σ:Store) (d:Nat) (ms:List Member):stripL (strip σ d) (ms.flatMap cMember) = some (ms.flatMap cMember,[]):=stripL_slots (fun x => by rw [stripL_cons,strip_sc,stripL_cons,strip_sc,stripL_cons,strip_sc,stripL_nil]; rfl) ms
theorem joints_strip (σ:Store) (d:Nat) (js:List Joint):stripL (strip σ d) (js.flatMap cJoint) = some (js.flatMap cJoint,[]):=stripL_slots (fun x => by rw [stripL_cons,strip_sc,stripL_cons,strip_sc,stripL_cons,strip_sc,stripL_cons,strip_sc,stripL_nil]; rfl) js
theorem slice_strip {α:Type} {c:α→List V} {s:Nat} (hc:∀ x,(c x).length = s) (hs:∀ (σ:Store) (d:Nat) (l:List α),stripL (strip σ d) (l.flatMap c) = some (l.flatMap c,[])) {σ:Store} {b:Nat} {l:List α} {w:Bool} (h:σ b = some ⟨l.flatMap c,s,w⟩) (d:Nat):strip σ (d + 1) (.rs b 0 l.length) = some (LL c l,[b]):=by
 have hl:=slots_len hc l
 rw [strip_rs,h]
 simp only [Option.bind_some,Nat.zero_add,List.drop_zero,hl,Nat.le_refl,if_true]
 rw [List.take_of_length_le (by omega),hs]
 rfl
set_option maxHeartbeats 4000000 in
set_option maxRecDepth 10000 in
theorem sStance {xs:List Int} (hx:∀ x ∈ xs,0 ≤ x∧x ≤ 255) (hl:xs.length ≤ 1048576) {σ:Store} {c nx:Nat} (hc:CurAt σ c xs) (hcn:c < nx) (k:Nat) (hk:k < 4) :
  ∃ t cells ids σ' nx',ev Tryz.prog conv ext 28 [.rp c 0,I k] σ nx = some (.agg cells,σ',nx')∧StanceP t k∧cells.length = 5∧cells.all isCell = true∧stripL (strip σ' 5) cells = some (cStance t,ids)∧(∀ b ∈ ids,nx ≤ b∧b < nx')∧nx < nx'∧CurAt σ' c xs∧∀ q,q < nx→q ≠ c→σ' q = σ q:=by
 obtain ⟨i,h,hc1,hc2⟩:=hc
 obtain ⟨s,hs,i',h',dj,dm,dn,kh,d1,d2,d3,j1⟩:=sHang xs hx hl i h hc2
 obtain ⟨l1,l2,l3,l4⟩:=hang_len hs
 obtain ⟨σ1,k1,hcur1,hj1,hm1,hf1⟩:=kh c (nx + 1) (upd σ nx (some ⟨[Sg ByteArray.empty,.nil,.nil,.nil,.nil],0,true⟩)) (by rw [upd_ne _ _ (by omega)]; exact hc1) (by omega)
 obtain ⟨jb,ejb⟩:∃ jb,jb = nx + 1 + dj:=⟨_,rfl⟩
 obtain ⟨mb,emb⟩:∃ mb,mb = nx + 1 + dm:=⟨_,rfl⟩
 obtain ⟨n2,en2⟩:∃ n2,n2 = nx + 1 + dn:=⟨_,rfl⟩
 rw [← ejb,← emb,← en2] at k1
 rw [← ejb] at hj1
 rw [← emb] at hm1
 have C1:CurAt σ1 c xs:=⟨i',h',hcur1,j1⟩
 have b1:σ1 nx = some ⟨[Sg ByteArray.empty,.nil,.nil,.nil,.nil],0,true⟩:=by rw [hf1 nx (by omega) (by omega),upd_same]
 obtain ⟨σ2,e2⟩:∃ σ2,σ2 = upd σ1 n2 (some ⟨[.rs jb 0 s.joints.length,.rs mb 0 s.members.length],0,true⟩):=⟨_,rfl⟩
 have C2:CurAt σ2 c xs:=by rw [e2]; exact C1.upd (by omega)
 have b2:σ2 n2 = some ⟨[.rs jb 0 s.joints.length,.rs mb 0 s.members.length],0,true⟩:=by rw [e2,upd_same]
 have b2n:σ2 nx = some ⟨[Sg ByteArray.empty,.nil,.nil,.nil,.nil],0,true⟩:=by rw [e2,upd_ne _ _ (by omega)]; exact b1
 have b2j:σ2 jb = some ⟨s.joints.flatMap cJoint,4,true⟩:=by rw [e2,upd_ne _ _ (by omega)]; exact hj1
 have b2m:σ2 mb = some ⟨s.members.flatMap cMember,3,true⟩:=by rw [e2,upd_ne _ _ (by omega)]; exact hm1
 have kd:=sDigit k hk
 have hF:∀ q,q ∈ [c,jb,mb]→restrict σ2 [c,jb,mb] q = σ2 q:=fun q hq => by unfold restrict; rw [if_pos hq]
 obtain ⟨L,lb,σr,n3,k3,hLl,hLb,b3l,g1,g2,Cr,f3⟩:=sLoad hx hl (js:=s.joints) l1 l2 (w:=.rs mb 0 s.members.length) (σ:=restrict σ2 [c,jb,mb]) (nx:=n2 + 1) (c:=c) (jb:=jb) (by
  obtain ⟨a1,a2,a3,a4⟩:=C2
  exact ⟨a1,a2,by rw [hF c (by simp)]; exact a3,a4⟩) (by omega) (by rw [hF jb (by simp)]; exact b2j) (by omega) (by omega) rfl
 obtain ⟨σ3,e3⟩:∃ σ3,σ3 = patchS [c,jb,mb] (n2 + 1) n3 σ2 σr:=⟨_,rfl⟩
 have p3:∀ q,q < n2 + 1→q ≠ c→σ3 q = σ2 q:=fun q hq hne => by
  rw [e3]
  unfold patchS
  split
  ·rw [f3 q hq hne]
   rename_i hh
   rcases hh with hh | hh
   ·exact hF q hh
   ·omega
  ·rfl
 have C3:CurAt σ3 c xs:=by
  obtain ⟨a1,a2,a3,a4⟩:=Cr
  refine ⟨a1,a2,?_,a4⟩
  rw [e3]; unfold patchS; rw [if_pos (.inl (by simp))]; exact a3
 have b3l':σ3 lb = some ⟨L.flatMap cI,1,true⟩:=by
  rw [e3]; unfold patchS; rw [if_pos (.inr ⟨g1,g2⟩)]; exact b3l
 have b3:σ3 n2 = some ⟨[.rs jb 0 s.joints.length,.rs mb 0 s.members.length],0,true⟩:=by rw [p3 n2 (by omega) (by omega)]; exact b2
 have b3n:σ3 nx = some ⟨[Sg ByteArray.empty,.nil,.nil,.nil,.nil],0,true⟩:=by rw [p3 nx (by omega) (by omega)]; exact b2n
 have b3j:σ3 jb = some ⟨s.joints.flatMap cJoint,4,true⟩:=by rw [p3 jb (by omega) (by omega)]; exact b2j
 have b3m:σ3 mb = some ⟨s.members.flatMap cMember,3,true⟩:=by rw [p3 mb (by omega) (by omega)]; exact b2m
 have fr3:∀ q,q < nx→q ≠ c→σ3 q = σ q:=fun q h1 h2 => by
  rw [p3 q (by omega) h2,e2,upd_ne _ _ (by omega),hf1 q (by omega) h2,upd_ne _ _ (by omega)]
 rw [ev_eqQ (rs:=[.cell 4 47]) [2,5] rfl Tryz.func28 rfl rfl (by kernel_rfl) (by kernel_rfl)]
 have z1:¬n2 = nx:=by omega
 have z2:¬nx = n2:=by omega
 have z3:n2 < n2 + 1:=by omega
 have z4:c < n2 + 1:=by omega
 have z5:jb < n2 + 1:=by omega
 have z6:mb < n2 + 1:=by omega
 have z7:¬n3 = n2:=by omega
 have z8:¬n2 = n3:=by omega
 have sz:(⟨#[116]⟩:ByteArray).size + (dname k).size ≤ 9223372036854775807:=by show 1 + 1 ≤ _; omega
 have nm:(⟨#[116]⟩:ByteArray) ++ dname k = tname k:=rfl
 have z9:n3 < n3 + 1:=by omega
 have z10:(n2 == c) = false:=by rw [beq_eq_false_iff_ne]; omega
 have z11:(c == n2) = false:=by rw [beq_eq_false_iff_ne]; omega
 have z12:(n2 == jb) = false:=by rw [beq_eq_false_iff_ne]; omega
 have z13:(n2 == mb) = false:=by rw [beq_eq_false_iff_ne]; omega
 have z14:(jb == n2) = false:=by rw [beq_eq_false_iff_ne]; omega
 have z15:(mb == n2) = false:=by rw [beq_eq_false_iff_ne]; omega
 have z16:(n3 == c) = false:=by rw [beq_eq_false_iff_ne]; omega
 have z17:(n3 == jb) = false:=by rw [beq_eq_false_iff_ne]; omega
 have z18:(n3 == mb) = false:=by rw [beq_eq_false_iff_ne]; omega
 have z19:(n3 == n2) = false:=by rw [beq_eq_false_iff_ne]; omega
 obtain ⟨Z,eZ⟩:∃ Z:V→List V,Z = fun w => [Sg (tname k),.rs jb 0 s.joints.length,.rs mb 0 s.members.length,.rs lb 0 (2 * s.joints.length),w]:=⟨_,rfl⟩
 obtain ⟨m0,em0⟩:∃ m0,m0 = s.members.length:=⟨_,rfl⟩
 simp only [go_sem,call_inl,k1,← e2,b2,kd,k3,z1,z2,z3,z4,z5,z6,z7,z8,z9,z10,z11,z12,z13,z14,z15,z16,z17,z18,z19,sz,nm,← e3,b3]
 generalize hL:evLoopI _ _ = y
 obtain ⟨x,rfl,T,σ4,n4,rfl,t4,t6,hn4,C4,acc,w,ha,hv,hb4,hG,hB,fr4⟩:=count_rule hL m0 (fun j st => st.T 0 = .rp c 0∧st.T 4 = .rp nx 0∧st.T 6 = .rp n3 0∧st.T 19 = I m0∧st.T 20 = I j∧n3 < st.nx∧CurAt st.σ c xs∧∃ acc w,acc.length = j∧(∀ x ∈ acc,x = 5∨x = 20∨x = 100∨x = 500)∧st.σ n3 = some ⟨Z w,0,true⟩∧Grow (fun _ => w) st.σ st.nx 0 acc∧(∀ b o l,w = .rs b o l→n3 < b)∧∀ q,q < n3→q ≠ c→st.σ q = σ3 q)
  (fun x => ∃ T σ4 n4,x = (.exit 0,⟨T,σ4,n4⟩)∧T 4 = .rp nx 0∧T 6 = .rp n3 0∧n3 < n4∧CurAt σ4 c xs∧∃ acc w,acc.length = m0∧(∀ x ∈ acc,x = 5∨x = 20∨x = 100∨x = 500)∧σ4 n3 = some ⟨Z w,0,true⟩∧Grow (fun _ => w) σ4 n4 0 acc∧(∀ b o l,w = .rs b o l→n3 < b)∧∀ q,q < n3→q ≠ c→σ4 q = σ3 q) (by
   clear hL
   rintro j ⟨T,σ4,m⟩ hj ⟨t0,t4,t6,t19,t20,hm,C4,acc,w,ha,hv,hb4,hG,hB,fr4⟩
   simp only at t0 t4 t6 t19 t20 hm C4 hb4 hG fr4
   have f1:(j:Int) < (m0:Int):=by omega
   have f2:(0:Int) ≤ (j:Int):=by omega
   have f3:=wrap_id (n:=(j:Int) + 1) (by omega) (by omega)
   have rq4:∀ a:V,rep 4 [a] = [a,a,a,a]:=fun _ => rfl
   have rq1:∀ z:List V,rep 1 z = z:=fun z => by simp [rep]
   obtain ⟨σ5,e5⟩:∃ σ5,σ5 = upd σ4 m (some ⟨[I 5,I 20,I 100,I 500],1,true⟩):=⟨_,rfl⟩
   have C5:CurAt σ5 c xs:=by rw [e5]; exact C4.upd (by omega)
   obtain ⟨r,hr,x,kp,C6r⟩:=sPickC hx hl (σ:=restrict σ5 [c,m]) (c:=c) (b:=m) (nx:=m + 1) (by
    obtain ⟨a1,a2,a3,a4⟩:=C5
    exact ⟨a1,a2,by rw [restrict_fst]; exact a3,a4⟩) (by omega) [5,20,100,500] (by decide) (by decide) (by rw [restrict_snd,e5,upd_same]; rfl) (by omega) (by omega)
   obtain ⟨v,evv⟩:∃ v,v = ([5,20,100,500]:List Int)[r]:=⟨_,rfl⟩
   have hvv:v = 5∨v = 20∨v = 100∨v = 500:=by
    have:r = 0∨r = 1∨r = 2∨r = 3:=by simp only [List.length_cons,List.length_nil] at hr; omega
    rcases this with rfl | rfl | rfl | rfl <;> subst evv <;> simp
   rw [← evv] at kp
   have kp:ev Tryz.prog conv ext 39 [.rp c 0,.rs m 0 4] (restrict σ5 [c,m]) (m + 1) = some (I v,upd (restrict σ5 [c,m]) c x,m + 1):=kp
   obtain ⟨σ6,e6⟩:∃ σ6,σ6 = upd σ5 c x:=⟨_,rfl⟩
   have C6:CurAt σ6 c xs:=by
    obtain ⟨a1,a2,a3,a4⟩:=C6r
    rw [upd_same] at a3
    exact ⟨a1,a2,by rw [e6,upd_same]; exact a3,a4⟩
   obtain ⟨σ7,e7⟩:∃ σ7,σ7 = upd σ6 (m + 1) (some ⟨[I v],1,true⟩):=⟨_,rfl⟩
   have C7:CurAt σ7 c xs:=by rw [e7]; exact C6.upd (by omega)
   have b7:σ7 n3 = some ⟨Z w,0,true⟩:=by rw [e7,upd_ne _ _ (by omega),e6,upd_ne _ _ (by omega),e5,upd_ne _ _ (by omega)]; exact hb4
   have b7n:σ7 (m + 1) = some ⟨[I v],1,true⟩:=by rw [e7,upd_same]
   have b5:σ5 n3 = some ⟨Z w,0,true⟩:=by rw [e5,upd_ne _ _ (by omega)]; exact hb4
   have fr7:∀ q,q < n3→q ≠ c→σ7 q = σ3 q:=fun q h1 h2 => by rw [e7,upd_ne _ _ (by omega),e6,upd_ne _ _ h2,e5,upd_ne _ _ (by omega)]; exact fr4 q h1 h2
   have y1:¬n3 = m:=by omega
   have y2:¬n3 = m + 1:=by omega
   have y3:¬n3 = m + 1 + 1:=by omega
   have y4:n3 < m:=hm
   have y5:c < m + 1:=by omega
   have y6:m < m + 1:=by omega
   have y7:m + 1 < m + 1 + 1:=by omega
   have y8:n3 < m + 1 + 1 + 1:=by omega
   have y9:(n3 == c) = false:=by rw [beq_eq_false_iff_ne]; omega
   have y10:(c == n3) = false:=by rw [beq_eq_false_iff_ne]; omega
   have y11:(n3 == m) = false:=by rw [beq_eq_false_iff_ne]; omega
   have y12:(n3 == m + 1) = false:=by rw [beq_eq_false_iff_ne]; omega
   have y13:(m == n3) = false:=by rw [beq_eq_false_iff_ne]; omega
   have y14:(m + 1 == n3) = false:=by rw [beq_eq_false_iff_ne]; omega
   have y15:(m + 1 == c) = false:=by rw [beq_eq_false_iff_ne]; omega
   have y16:(m + 1 == m) = false:=by rw [beq_eq_false_iff_ne]; omega
   have y17:¬n3 = c:=by omega
   have Zw:∀ w',(Z w).set 4 w' = Z w':=fun w' => by rw [eZ]; rfl
   have Z4:(Z w)[4]? = some w:=by rw [eZ]; rfl
   have Zl:(Z w).length = 5:=by rw [eZ]; rfl
   rcases hG with ⟨hw,rfl⟩ | ⟨b,hw,hne,hbb,hbn⟩
   ·have hw:w = .nil:=hw
    subst hw
    refine .inl ⟨_,by simp only [go_sem,call_inl,t0,t4,t6,t19,t20,f1,f2,f3,rq4,rq1,← e5,kp,hb4,b5,← e6,← e7,b7,b7n,y1,y2,y3,y4,y5,y6,y7,y8,y9,y10,y11,y12,y13,y14,y15,y16,y17,Z4,Zl,Zw,one_le_maxLen]; rfl,?_⟩
    simp only [go_sem,t0,t4,t6,t19]
    refine ⟨rfl,by omega,(C7.upd (by omega)).upd (by omega),[v],.rs (m + 1 + 1) 0 1,by rw [← ha]; rfl,fun x hx => by rw [List.mem_singleton] at hx; subst hx; exact hvv,rfl,.inr ⟨m + 1 + 1,rfl,by simp,?_,by omega⟩,fun b o l hb => by cases hb; omega,fun q h1 h2 => ?_⟩
    ·rw [upd_ne _ _ (by omega),upd_same]; rfl
    ·rw [upd_ne _ _ (by omega),upd_ne _ _ (by omega)]; exact fr7 q h1 h2
   ·have hw:w = .rs b 0 acc.length:=hw
    subst hw
    have hbl:=hB b 0 _ rfl
    have hb7:σ7 b = some ⟨acc.flatMap cI,1,true⟩:=by rw [e7,upd_ne _ _ (by omega),e6,upd_ne _ _ (by omega),e5,upd_ne _ _ (by omega)]; exact hbb
    have happ:=app_full (σ:=restrict σ7 [b,m + 1]) (nx:=m + 1 + 1) (bytes:=8) (b:=b) (len:=acc.length) (m:=1) (B:=⟨acc.flatMap cI,1,true⟩) (row:=[I v]) (by rw [restrict_fst]; exact hb7) (cI_len acc) rfl (by decide) (by unfold maxLen; omega) (by omega) rfl
    have x1:b < m + 1 + 1:=by omega
    have x2:(n3 == b) = false:=by rw [beq_eq_false_iff_ne]; omega
    have x3:(b == n3) = false:=by rw [beq_eq_false_iff_ne]; omega
    have x4:(b == c) = false:=by rw [beq_eq_false_iff_ne]; omega
    have x5:(c == b) = false:=by rw [beq_eq_false_iff_ne]; omega
    have x6:(b == m) = false:=by rw [beq_eq_false_iff_ne]; omega
    have x7:(m == b) = false:=by rw [beq_eq_false_iff_ne]; omega
    have x8:¬n3 = b:=by omega
    refine .inl ⟨_,by simp only [go_sem,call_inl,t0,t4,t6,t19,t20,f1,f2,f3,rq4,rq1,← e5,kp,hb4,b5,← e6,← e7,b7,b7n,y1,y2,y3,y4,y5,y6,y7,y8,y9,y10,y11,y12,y13,y14,y15,y16,y17,Z4,Zl,Zw,one_le_maxLen,happ,x1,x2,x3,x4,x5,x6,x7,x8]; rfl,?_⟩
    simp only [go_sem,t0,t4,t6,t19]
    refine ⟨rfl,by omega,((C7.upd (by omega)).upd (by omega)).upd (by omega),acc ++ [v],.rs (m + 1 + 1) 0 (acc.length + 1),by rw [List.length_append,ha]; rfl,fun x hx => ?_,rfl,.inr ⟨m + 1 + 1,by rw [List.length_append]; rfl,by simp,?_,by omega⟩,fun b o l hb => by cases hb; omega,fun q h1 h2 => ?_⟩
    ·rcases List.mem_append.mp hx with hx | hx
     ·exact hv x hx
     ·rw [List.mem_singleton] at hx; subst hx; exact hvv
    ·rw [upd_ne _ _ (by omega),upd_same,List.flatMap_append]; rfl
    ·rw [upd_ne _ _ (by omega),upd_ne _ _ (by omega),upd_ne _ _ (by omega)]; exact fr7 q h1 h2) (by
   clear hL
   rintro ⟨T,σ4,m⟩ ⟨t0,t4,t6,t19,t20,hm,C4,acc,w,ha,hv,hb4,hG,hB,fr4⟩
   simp only at t0 t4 t6 t19 t20 hm C4 hb4 hG fr4
   exact ⟨_,by simp only [go_sem,t19,t20,Int.lt_irrefl]; rfl,by simp,_,_,_,rfl,by simp only [go_sem,t4],by simp only [go_sem,t6],hm,C4,acc,w,ha,hv,hb4,hG,hB,fr4⟩) (by
   simp only [go_sem,em0]
   refine ⟨by omega,C3.upd (by omega),[],.nil,rfl,?_⟩
   refine ⟨fun x hx => by (cases hx),?_⟩
   exact ⟨by rw [eZ],.inl ⟨rfl,rfl⟩,fun b o l hb => by (cases hb),fun q h1 h2 => upd_ne _ _ (by omega)⟩)
 have Z5:Z w = [Sg (tname k),.rs jb 0 s.joints.length,.rs mb 0 s.members.length,.rs lb 0 (2 * s.joints.length),w]:=by rw [eZ]
 have bn4:σ4 nx = some ⟨[Sg ByteArray.empty,.nil,.nil,.nil,.nil],0,true⟩:=by rw [fr4 nx (by omega) (by omega)]; exact b3n
 have cw:isCell w = true:=by
  rcases hG with ⟨hw,_⟩ | ⟨b,hw,_⟩
  ·have hw:w = .nil:=hw
   rw [hw]; rfl
  ·have hw:w = .rs b 0 _:=hw
   rw [hw]; rfl
 have z20:¬n3 = nx:=by omega
 have z21:¬nx = n3:=by omega
 rw [Z5] at hb4
 simp only [go_sem,t4,t6,hb4,bn4,cw,z20,z21]
 refine ⟨⟨tname k,s,L,acc⟩,[Sg (tname k),.rs jb 0 s.joints.length,.rs mb 0 s.members.length,.rs lb 0 (2 * s.joints.length),w],?_⟩
 have sj:strip (upd σ4 nx (some ⟨[Sg (tname k),.rs jb 0 s.joints.length,.rs mb 0 s.members.length,.rs lb 0 (2 * s.joints.length),w],0,true⟩)) 5 (.rs jb 0 s.joints.length) = some (LL cJoint s.joints,[jb]) :=
  slice_strip (c:=cJoint) (s:=4) (fun _ => rfl) joints_strip (w:=true) (by rw [upd_ne _ _ (by omega),fr4 jb (by omega) (by omega)]; exact b3j) 4
 have sm:strip (upd σ4 nx (some ⟨[Sg (tname k),.rs jb 0 s.joints.length,.rs mb 0 s.members.length,.rs lb 0 (2 * s.joints.length),w],0,true⟩)) 5 (.rs mb 0 s.members.length) = some (LL cMember s.members,[mb]) :=
  slice_strip (c:=cMember) (s:=3) (fun _ => rfl) members_strip (w:=true) (by rw [upd_ne _ _ (by omega),fr4 mb (by omega) (by omega)]; exact b3m) 4
 have sl:strip (upd σ4 nx (some ⟨[Sg (tname k),.rs jb 0 s.joints.length,.rs mb 0 s.members.length,.rs lb 0 (2 * s.joints.length),w],0,true⟩)) 5 (.rs lb 0 (2 * s.joints.length)) = some (LI L,[lb]) :=
  ints_strip (by rw [upd_ne _ _ (by omega),fr4 lb (by omega) (by omega)]; exact b3l') hLl 4
 obtain ⟨iw,hiw,hiw2⟩:∃ iw,strip (upd σ4 nx (some ⟨[Sg (tname k),.rs jb 0 s.joints.length,.rs mb 0 s.members.length,.rs lb 0 (2 * s.joints.length),w],0,true⟩)) 5 w = some (LI acc,iw)∧∀ b ∈ iw,nx ≤ b∧b < n4:=by
  rcases hG with ⟨hw,rfl⟩ | ⟨b,hw,_,hbb,hbn⟩
  ·have hw:w = .nil:=hw
   exact ⟨[],by rw [hw,strip_nil]; rfl,by simp⟩
  ·have hw:w = .rs b 0 acc.length:=hw
   have:=hB b 0 _ hw
   refine ⟨[b],by rw [hw]; exact ints_strip (by rw [upd_ne _ _ (by omega)]; exact hbb) rfl 4,fun q hq => by rw [List.mem_singleton] at hq; omega⟩
 refine ⟨[] ++ ([jb] ++ ([mb] ++ ([lb] ++ (iw ++ [])))),_,n4,rfl,⟨hs,rfl,hLl,hLb,?_,hv⟩,rfl,?_,?_,fun b hb => ?_,by omega,C4.upd (by omega),fun q h1 h2 => ?_⟩
 ·rw [ha,em0]
 ·simp only [List.all_cons,cw]; rfl
 ·rw [stripL_cons,strip_sc,stripL_cons,sj,stripL_cons,sm,stripL_cons,sl,stripL_cons,hiw,stripL_nil]; rfl
 ·simp only [List.mem_append,List.mem_singleton,List.not_mem_nil,or_false,false_or] at hb
  rcases hb with rfl | rfl | rfl | hb
  ·omega
  ·omega
  ·omega
  ·exact hiw2 b hb
 ·rw [upd_ne _ _ (by omega),fr4 q (by omega) h2]; exact fr3 q h1 h2
end Go.Proofs.YtoccmbjfkbemcaaGreat
namespace Go.Proofs.YtoccmbjfkbemcaaGreat
open Go Go.TV
attribute [-go_sem] app_rs
theorem stripL_app {f:V→Option (V × List Nat)}:∀ {a b ta tb:List V} {ia ib:List Nat},stripL f a = some (ta,ia)→stripL f b = some (tb,ib)→stripL f (a ++ b) = some (ta ++ tb,ia ++ ib)
 | [],b,ta,tb,ia,ib,h1,h2 => by
  rw [stripL_nil] at h1
  cases h1
  exact h2
 | v :: a,b,ta,tb,ia,ib,h1,h2 => by
  rw [stripL_cons] at h1
  cases hv:f v with
  | none => rw [hv] at h1; cases h1
  | some p =>
   cases hr:stripL f a with
   | none => rw [hv,hr] at h1; cases h1
   | some q =>
    rw [hv,hr] at h1
    have ih:=stripL_app hr h2
    rw [List.cons_append,stripL_cons,hv,ih]
    simp only [Option.bind_some,Option.map_some,Option.some.injEq,Prod.mk.injEq] at h1 ⊢
    obtain ⟨rfl,rfl⟩:=h1
    exact ⟨rfl,by rw [List.append_assoc]⟩
theorem stripL_frame {σ σ':Store} {d:Nat} {cells ts:List V} {ids:List Nat} (h:stripL (strip σ d) cells = some (ts,ids)) (hf:∀ b ∈ ids,σ' b = σ b):stripL (strip σ' d) cells = some (ts,ids) :=
 stripL_congr (fun v t i h hi => strip_congr _ v t i h fun b hb => hf b (hi b hb)) h
theorem app_fullS {σ:Store} {nx size bytes b len m:Nat} {cells row:List V} (hb:σ b = some ⟨cells,size,true⟩) (hl:len * size = cells.length) (hs:0 < size) (hm:m ≠ 0) (h1:len + m ≤ maxLen) (h2:(len + m) * bytes ≤ 140737488355328) (hr:row.all isCell = true) :
  appendTo σ nx size bytes (.rs b 0 len) row m = some (.rs nx 0 (len + m),upd (upd σ b none) nx (some ⟨cells ++ row,size,true⟩),nx + 1):=by
 rw [app_rs,hb]
 simp only [Option.bind_some]
 have h3:size ≤ m * size:=Nat.le_mul_of_pos_left _ (by omega)
 rw [if_neg hm,if_neg (by rw [Nat.add_mul]; omega),if_pos ⟨by omega,trivial,h1,h2,hr⟩]
 rfl
theorem patch_whole {z vs:List V} (h:vs.length = z.length) (h2:2 ≤ vs.length):patch z 0 vs = vs:=by
 rw [patch_eq _ _ _ (by omega),List.take_zero,List.nil_append,Nat.zero_add,List.drop_of_length_le (by omega),List.append_nil]
structure StsAt (σ:Store) (lo hi:Nat) (w:V) (sts:List Stance) (cells:List V) (ids:List Nat):Prop where
 w:(w = .nil∧sts = []∧cells = [])∨∃ sb,w = .rs sb 0 sts.length∧sts ≠ []∧σ sb = some ⟨cells,5,true⟩∧lo ≤ sb∧sb < hi∧sb ∉ ids
 st:stripL (strip σ 5) cells = some (sts.flatMap cStance,ids)
 len:cells.length = sts.length * 5
 cell:cells.all isCell = true
 ids:∀ b ∈ ids,lo ≤ b∧b < hi
 ok:∀ i (h:i < sts.length),StanceP sts[i] i
theorem StsAt.frame {σ σ':Store} {lo hi hi':Nat} {w:V} {sts:List Stance} {cells:List V} {ids:List Nat} (h:StsAt σ lo hi w sts cells ids) (hh:hi ≤ hi') (hf:∀ b,lo ≤ b→b < hi→σ' b = σ b):StsAt σ' lo hi' w sts cells ids:=by
 refine ⟨?_,stripL_frame h.st fun b hb => hf b (h.ids b hb).1 (h.ids b hb).2,h.len,h.cell,fun b hb => ⟨(h.ids b hb).1,Nat.lt_of_lt_of_le (h.ids b hb).2 hh⟩,h.ok⟩
 rcases h.w with hw | ⟨sb,h1,h2,h3,h4,h5,h6⟩
 ·exact .inl hw
 ·exact .inr ⟨sb,h1,h2,by rw [hf sb h4 h5]; exact h3,h4,by omega,h6⟩
end Go.Proofs.YtoccmbjfkbemcaaGreat
namespace Go.Proofs.YtoccmbjfkbemcaaGreat
open Go Go.TV
attribute [-go_sem] app_rs
def idsOf:V→List Nat
 | .rs b _ _ => [b]
 | _ => []
structure MsOk (n:Nat) (ms:List TV.Move) (i k:Nat):Prop where
 len:ms.length ≤ 12
 good:∀ j (h:j < ms.length),MoveGood n ms[j]∧(ms[j].fr < (i:Int)∨(ms[j].fr = (i:Int)∧ms[j].to < (k:Int)))
 dis:∀ a b (ha:a < ms.length) (hb:b < ms.length),a < b→sameM ms[b] ms[a] = false
theorem MsOk.mono {n:Nat} {ms:List TV.Move} {i k i' k':Nat} (h:MsOk n ms i k) (hh:∀ f t:Int,(f < (i:Int)∨(f = (i:Int)∧t < (k:Int)))→f < (n:Int)→t < (n:Int)→f < (i':Int)∨(f = (i':Int)∧t < (k':Int))):MsOk n ms i' k' :=
 ⟨h.len,fun j hj => ⟨(h.good j hj).1,hh _ _ (h.good j hj).2 (h.good j hj).1.2.1 (h.good j hj).1.2.2.2.1⟩,h.dis⟩
theorem MsOk.add {n:Nat} {ms:List TV.Move} {i k:Nat} (h:MsOk n ms i k) (hl:ms.length < 12) (hi:i < n) (hk:k < n) (hne:i ≠ k):MsOk n (ms ++ [⟨(i:Int),(k:Int)⟩]) i (k + 1):=by
 have gl:∀ {a:Nat} (ha:a < (ms ++ [(⟨(i:Int),(k:Int)⟩:TV.Move)]).length),(∃ h':a < ms.length,(ms ++ [(⟨(i:Int),(k:Int)⟩:TV.Move)])[a] = ms[a])∨(a = ms.length∧(ms ++ [(⟨(i:Int),(k:Int)⟩:TV.Move)])[a] = ⟨(i:Int),(k:Int)⟩):=fun {a} ha => by
  by_cases h':a < ms.length
  ·exact .inl ⟨h',List.getElem_append_left h'⟩
  ·have:a = ms.length:=by rw [List.length_append,List.length_singleton] at ha; omega
   subst this
   exact .inr ⟨rfl,by simp⟩
 refine ⟨by rw [List.length_append]; exact hl,fun j hj => ?_,fun a b ha hb hab => ?_⟩
 ·rcases gl hj with ⟨h',e⟩ | ⟨_,e⟩
  ·rw [e]
   have:=h.good j h'
   exact ⟨this.1,by omega⟩
  ·rw [e]
   exact ⟨⟨by show (0:Int) ≤ (i:Int); omega,by show (i:Int) < (n:Int); omega,by show (0:Int) ≤ (k:Int); omega,by show (k:Int) < (n:Int); omega,by show (i:Int) ≠ (k:Int); omega⟩,.inr ⟨rfl,by show (k:Int) < ((k + 1:Nat):Int); omega⟩⟩
 ·rcases gl ha with ⟨ha',ea⟩ | ⟨ra,ea⟩ <;> rcases gl hb with ⟨hb',eb⟩ | ⟨rb,eb⟩
  ·rw [ea,eb]; exact h.dis a b ha' hb' hab
  ·rw [ea,eb]
   have:=(h.good a ha').2
   unfold sameM
   simp only
   by_cases e1:(i:Int) = ms[a].fr
   ·have e2:¬(k:Int) = ms[a].to:=by omega
    rw [show ((k:Int) == ms[a].to) = false by rw [beq_eq_false_iff_ne]; exact e2,Bool.and_false]
   ·rw [show ((i:Int) == ms[a].fr) = false by rw [beq_eq_false_iff_ne]; exact e1,Bool.false_and]
  ·omega
  ·omega
theorem growG_frame {α:Type} {c:α→List V} {s:Nat} {T:Nat→V} {σ σ':Store} {nx nx' t:Nat} {acc:List α} (hg:GrowG c s T σ nx t acc) (hn:nx ≤ nx') (h:∀ b o l,T t = .rs b o l→σ' b = σ b):GrowG c s T σ' nx' t acc:=by
 rcases hg with ⟨g1,g2⟩ | ⟨b,g1,g2,g3,g4⟩
 ·exact .inl ⟨g1,g2⟩
 ·exact .inr ⟨b,g1,g2,by rw [h _ _ _ g1]; exact g3,by omega⟩
theorem tname_no {i k:Nat} (hi:i < 4) (hk:k < 4) (h:i ≠ k):((tname i).toList == (tname k).toList) = false:=by
 have e:∀ w:UInt8,(⟨#[116,w]⟩:ByteArray).toList = [116,w]:=fun w => by
  unfold ByteArray.toList ByteArray.toList.loop ByteArray.toList.loop ByteArray.toList.loop
  rfl
 unfold tname
 rw [e,e]
 have h1:i = 0∨i = 1∨i = 2∨i = 3:=by omega
 have h2:k = 0∨k = 1∨k = 2∨k = 3:=by omega
 rcases h1 with rfl | rfl | rfl | rfl <;> rcases h2 with rfl | rfl | rfl | rfl <;> first | exact absurd rfl h | rfl
theorem yard_ok {sts:List Stance} {ms:List TV.Move} {b:Bool} {i k:Nat} (h4:sts.length ≤ 4) (hs:∀ i (h:i < sts.length),StanceP sts[i] i) (hm:MsOk sts.length ms i k):YardGood ⟨sts,ms,b⟩∧okYard ⟨sts,ms,b⟩:=by
 have mx:12 ≤ maxLen:=by decide
 have hl:=hm.len
 refine ⟨⟨by show sts.length ≤ 6; omega,hl,fun i hi => ⟨(stance_ok (by have hi:i < sts.length:=hi; omega) (hs i hi)).1,?_⟩,fun j hj => ⟨(hm.good j hj).1,?_⟩⟩,⟨fun t ht => ?_,by show sts.length * 112 ≤ _; omega,by show sts.length ≤ _; omega⟩,⟨fun m hmm => ?_,by show ms.length * 16 ≤ _; omega,by show ms.length ≤ _; omega⟩,trivial⟩
 ·refine ix_at hi (fun j hj hji => ?_) (by simp [isNamed])
  show ((sts[j]).name.toList == (sts[i]).name.toList) = false
  have hi:i < sts.length:=hi
  rw [(hs j hj).2.1,(hs i hi).2.1]
  exact tname_no (by omega) (by omega) (by omega)
 ·refine ix_at hj (fun a ha haj => hm.dis a j ha hj haj) (by simp [sameM])
 ·obtain ⟨i,hi,rfl⟩:=List.getElem_of_mem ht
  exact (stance_ok (by have:i < sts.length:=hi; omega) (hs i hi)).2
 ·obtain ⟨j,hj,rfl⟩:=List.getElem_of_mem hmm
  obtain ⟨⟨a1,a2,a3,a4,_⟩,_⟩:=hm.good j hj
  exact ⟨okI_iff.mpr (by show _ ≤ ms[j].fr∧ms[j].fr ≤ _; omega),okI_iff.mpr (by show _ ≤ ms[j].to∧ms[j].to ≤ _; omega)⟩
set_option maxHeartbeats 4000000 in
set_option maxRecDepth 10000 in
theorem sYard {xs:List Int} (hx:∀ x ∈ xs,0 ≤ x∧x ≤ 255) (hl:xs.length ≤ 1048576) {σ:Store} {c nx:Nat} (hc:CurAt σ c xs) (hcn:c < nx) :
  ∃ y cells ids σ' nx',ev Tryz.prog conv ext 14 [.rp c 0] σ nx = some (.agg cells,σ',nx')∧cells.all isCell = true∧cells.length = 3∧(∀ f,(∀ b,b ≠ c→nx ≤ b→f b = σ' b)→stripL (strip f 6) cells = some (cYard y,ids))∧YardGood y∧okYard y∧2 ≤ y.stances.length∧∀ q,q < nx→q ≠ c→σ' q = σ q:=by
 obtain ⟨b,x0,k0,C0⟩:=sOnceC hx hl (hc.upd (b:=nx) (x:=some ⟨[.nil,.nil,Bo false],0,true⟩) (by omega)) (show c < nx + 1 by omega) 4 (by decide) (by decide)
 have z1:¬nx = nx + 1:=by omega
 have z2:¬nx + 1 = nx:=by omega
 have z3:c < nx + 1:=by omega
 rw [ev_eqQ (rs:=[.cell 2 26]) [5] rfl Tryz.func14 rfl rfl (by kernel_rfl) (by kernel_rfl)]
 simp only [go_sem,call_inl,k0,z1,z2,z3]
 generalize hL:evLoopI _ _ = y
 obtain ⟨x,rfl,T,σ5,n5,rfl,t0,t2,t3,hn5,C5,sts,cells,ids,w,hk2,hk4,bnx,bnx1,hS,fr5⟩:=loop_rule hL (fun m st => ∃ k,m + k = 4∧st.T 0 = .rp c 0∧st.T 2 = .rp nx 0∧st.T 3 = .rp (nx + 1) 0∧st.T 4 = I k∧nx + 1 < st.nx∧CurAt st.σ c xs∧∃ sts cells ids w,sts.length = k∧st.σ nx = some ⟨[.nil,.nil,Bo false],0,true⟩∧st.σ (nx + 1) = some ⟨[w,.nil,Bo b],0,true⟩∧StsAt st.σ (nx + 1 + 1) st.nx w sts cells ids∧∀ q,q < nx→q ≠ c→st.σ q = σ q)
  (fun x => ∃ T σ5 n5,x = (.exit 0,⟨T,σ5,n5⟩)∧T 0 = .rp c 0∧T 2 = .rp nx 0∧T 3 = .rp (nx + 1) 0∧nx + 1 < n5∧CurAt σ5 c xs∧∃ sts cells ids w,2 ≤ sts.length∧sts.length ≤ 4∧σ5 nx = some ⟨[.nil,.nil,Bo false],0,true⟩∧σ5 (nx + 1) = some ⟨[w,.nil,Bo b],0,true⟩∧StsAt σ5 (nx + 1 + 1) n5 w sts cells ids∧∀ q,q < nx→q ≠ c→σ5 q = σ q) (by
   clear hL
   rintro m ⟨T,σ1,m1⟩ ⟨k,hmk,t0,t2,t3,t4,hm1,C1,sts,cells,ids,w,hlen,b0,b1,hS,fr⟩
   simp only at t0 t2 t3 t4 hm1 C1 b0 b1 hS fr
   obtain ⟨r,x1,k1,hr,C2⟩:=sBelowC hx hl C1 (show c < m1 by omega) 3 (by decide) (by decide)
   obtain ⟨σ2,e2⟩:∃ σ2,σ2 = upd σ1 c x1:=⟨_,rfl⟩
   rw [← e2] at C2
   have fr2:∀ q,q ≠ c→σ2 q = σ1 q:=fun q h => by rw [e2,upd_ne _ _ h]
   have w1:=wrap_id (n:=2 + r) (by omega) (by omega)
   by_cases g1:(k:Int) < 2 + r
   ·by_cases g2:(k:Int) < 4
    ·have w2:=wrap_id (n:=(k:Int) + 1) (by omega) (by omega)
     obtain ⟨t,sc,is,σr,n',ks,hP,hsl,hsc,hst,his,hnn,Cr,frr⟩:=sStance hx hl (σ:=restrict σ2 [c]) (c:=c) (nx:=m1) (by
      obtain ⟨a1,a2,a3,a4⟩:=C2
      exact ⟨a1,a2,by rw [restrict_one]; exact a3,a4⟩) (by omega) k (by omega)
     obtain ⟨σ3,e3⟩:∃ σ3,σ3 = patchS [c] m1 n' σ2 σr:=⟨_,rfl⟩
     have p1:∀ q,q < m1→q ≠ c→σ3 q = σ1 q:=fun q h1 h2 => by
      rw [e3]; unfold patchS
      rw [if_neg (by simp only [List.mem_singleton]; omega)]
      exact fr2 q h2
     have p2:∀ q,m1 ≤ q→q < n'→σ3 q = σr q:=fun q h1 h2 => by
      rw [e3]; unfold patchS; rw [if_pos (.inr ⟨h1,h2⟩)]
     have C3:CurAt σ3 c xs:=by
      obtain ⟨a1,a2,a3,a4⟩:=Cr
      refine ⟨a1,a2,?_,a4⟩
      rw [e3]; unfold patchS; rw [if_pos (.inl (by simp))]; exact a3
     have hst3:stripL (strip σ3 5) sc = some (cStance t,is):=stripL_frame hst fun b hb => p2 b (his b hb).1 (his b hb).2
     have pz:∀ a b c d e:V,patch [a,b,c,d,e] 0 sc = sc:=fun a b c d e => patch_whole (by rw [hsl]; rfl) (by omega)
     have rq1:∀ z:List V,rep 1 z = z:=fun z => by simp [rep]
     have tk:sc.take 5 = sc:=List.take_of_length_le (by omega)
     obtain ⟨σ4,e4⟩:∃ σ4,σ4 = upd σ3 n' (some ⟨sc,5,true⟩):=⟨_,rfl⟩
     have b41:σ4 (nx + 1) = some ⟨[w,.nil,Bo b],0,true⟩:=by rw [e4,upd_ne _ _ (by omega),p1 _ (by omega) (by omega)]; exact b1
     have b4n:σ4 n' = some ⟨sc,5,true⟩:=by rw [e4,upd_same]
     have b21:σ2 (nx + 1) = some ⟨[w,.nil,Bo b],0,true⟩:=by rw [fr2 _ (by omega)]; exact b1
     have C4:CurAt σ4 c xs:=by rw [e4]; exact C3.upd (by omega)
     have p4:∀ q,q < m1→q ≠ c→σ4 q = σ1 q:=fun q h1 h2 => by rw [e4,upd_ne _ _ (by omega)]; exact p1 q h1 h2
     have hst4:stripL (strip σ4 5) sc = some (cStance t,is):=stripL_frame hst3 fun b hb => by rw [e4,upd_ne _ _ (by have:=his b hb; omega)]
     have y1:nx + 1 < m1:=hm1
     have y2:c < m1:=by omega
     have y3:n' < n' + 1:=by omega
     have y4:nx + 1 < n' + 1 + 1:=by omega
     have y5:¬nx + 1 = n':=by omega
     have y6:¬nx + 1 = n' + 1:=by omega
     have y7:(nx + 1 == c) = false:=by rw [beq_eq_false_iff_ne]; omega
     have y8:(c == nx + 1) = false:=by rw [beq_eq_false_iff_ne]; omega
     have y9:(nx + 1 == n') = false:=by rw [beq_eq_false_iff_ne]; omega
     have y10:(n' == nx + 1) = false:=by rw [beq_eq_false_iff_ne]; omega
     have y11:(n' == c) = false:=by rw [beq_eq_false_iff_ne]; omega
     have y12:5 ≤ sc.length:=by omega
     rcases hS.w with ⟨rfl,rfl,rfl⟩ | ⟨sb,rfl,hne,hsb,s1,s2,s3⟩
     ·refine .inl ⟨_,by simp only [go_sem,call_inl,t0,t2,t3,t4,k1,← e2,w1,w2,g1,g2,b1,b21,ks,← e3,hsl,hsc,pz,rq1,tk,← e4,b41,b4n,y1,y2,y3,y4,y5,y6,y7,y8,y9,y10,y11,y12,one_le_maxLen]; rfl,?_⟩
      simp only [go_sem,t0,t2,t3]
      have hk0:k = 0:=hlen.symm
      refine ⟨3,by omega,1,by omega,by rw [hk0]; rfl,by omega,(C4.upd (by omega)).upd (by omega),[t],sc,is,.rs (n' + 1) 0 1,rfl,?_,rfl,?_,fun q h1 h2 => ?_⟩
      ·rw [upd_ne _ _ (by omega),upd_ne _ _ (by omega),p4 _ (by omega) (by omega)]; exact b0
      ·refine ⟨.inr ⟨n' + 1,rfl,by simp,by rw [upd_ne _ _ (by omega),upd_same],by omega,by omega,fun hm => by have:=his _ hm; omega⟩,?_,by rw [hsl]; rfl,hsc,fun b hb => by have:=his b hb; omega,fun i hi => ?_⟩
       ·have e:[t].flatMap cStance = cStance t:=by simp
        rw [e]
        exact stripL_frame hst4 fun b hb => by rw [upd_ne _ _ (by have:=his b hb; omega),upd_ne _ _ (by have:=his b hb; omega)]
       ·have hi0:i = 0:=by rw [List.length_singleton] at hi; omega
        subst hi0
        rw [hk0] at hP
        exact hP
      ·rw [upd_ne _ _ (by omega),upd_ne _ _ (by omega),p4 _ (by omega) h2]; exact fr q h1 h2
     ·rw [hlen] at b1 b21 b41
      have hb4:σ4 sb = some ⟨cells,5,true⟩:=by rw [p4 _ (by omega) (by omega)]; exact hsb
      have happ:=app_fullS (σ:=restrict σ4 [sb,n']) (nx:=n' + 1) (size:=5) (bytes:=112) (b:=sb) (len:=k) (m:=1) (row:=sc) (by rw [restrict_fst]; exact hb4) (by rw [hS.len,hlen]) (by omega) (by decide) (by unfold maxLen; omega) (by omega) hsc
      have x1:sb < n' + 1:=by omega
      have x2:(nx + 1 == sb) = false:=by rw [beq_eq_false_iff_ne]; omega
      have x3:(sb == nx + 1) = false:=by rw [beq_eq_false_iff_ne]; omega
      have x4:(sb == c) = false:=by rw [beq_eq_false_iff_ne]; omega
      have x5:(c == sb) = false:=by rw [beq_eq_false_iff_ne]; omega
      have x6:¬nx + 1 = sb:=by omega
      refine .inl ⟨_,by simp only [go_sem,call_inl,t0,t2,t3,t4,k1,← e2,w1,w2,g1,g2,b1,b21,ks,← e3,hsl,hsc,pz,rq1,tk,← e4,b41,b4n,y1,y2,y3,y4,y5,y6,y7,y8,y9,y10,y11,y12,one_le_maxLen,happ,x1,x2,x3,x4,x5,x6]; rfl,?_⟩
      simp only [go_sem,t0,t2,t3]
      refine ⟨m - 1,by omega,k + 1,by omega,rfl,by omega,((C4.upd (by omega)).upd (by omega)).upd (by omega),sts ++ [t],cells ++ sc,ids ++ is,.rs (n' + 1) 0 (k + 1),by rw [List.length_append,hlen]; rfl,?_,rfl,?_,fun q h1 h2 => ?_⟩
      ·rw [upd_ne _ _ (by omega),upd_ne _ _ (by omega),upd_ne _ _ (by omega),p4 _ (by omega) (by omega)]; exact b0
      ·refine ⟨.inr ⟨n' + 1,by rw [List.length_append,hlen]; rfl,by simp,by rw [upd_ne _ _ (by omega),upd_same],by omega,by omega,fun hm => ?_⟩,?_,by rw [List.length_append,List.length_append,hS.len,hsl,Nat.add_mul]; rfl,by rw [List.all_append,hS.cell,hsc]; rfl,fun b hb => ?_,fun i hi => ?_⟩
       ·rcases List.mem_append.mp hm with hm | hm
        ·have:=hS.ids _ hm; omega
        ·have:=his _ hm; omega
       ·rw [List.flatMap_append]
        have e:[t].flatMap cStance = cStance t:=by simp
        rw [e]
        refine stripL_app (stripL_frame hS.st fun b hb => ?_) (stripL_frame hst4 fun b hb => ?_)
        ·have:=hS.ids b hb
         rw [upd_ne _ _ (by omega),upd_ne _ _ (by omega),upd_ne _ _ (fun e => s3 (by rw [← e]; exact hb)),p4 _ (by omega) (by omega)]
        ·have:=his b hb
         rw [upd_ne _ _ (by omega),upd_ne _ _ (by omega),upd_ne _ _ (by omega)]
       ·rcases List.mem_append.mp hb with hb | hb
        ·have:=hS.ids b hb; omega
        ·have:=his b hb; omega
       ·by_cases hi':i < sts.length
        ·rw [List.getElem_append_left hi']; exact hS.ok i hi'
        ·have hik:i = sts.length:=by rw [List.length_append,List.length_singleton] at hi; omega
         subst hik
         rw [List.getElem_append_right (Nat.le_refl _)]
         simp only [Nat.sub_self,List.getElem_cons_zero]
         rw [hlen]; exact hP
      ·rw [upd_ne _ _ (by omega),upd_ne _ _ (by omega),upd_ne _ _ (by omega),p4 _ (by omega) h2]; exact fr q h1 h2
    ·refine .inr ⟨_,by simp only [go_sem,call_inl,t0,t4,k1,← e2,w1,g1,g2]; rfl,by simp,_,_,_,rfl,by simp only [go_sem,t0],by simp only [go_sem,t2],by simp only [go_sem,t3],hm1,C2,sts,cells,ids,w,by omega,by omega,by rw [fr2 _ (by omega)]; exact b0,by rw [fr2 _ (by omega)]; exact b1,hS.frame (Nat.le_refl _) fun q h1 h2 => fr2 q (by omega),fun q h1 h2 => by rw [fr2 q h2]; exact fr q h1 h2⟩
   ·refine .inr ⟨_,by simp only [go_sem,call_inl,t0,t4,k1,← e2,w1,g1]; rfl,by simp,_,_,_,rfl,by simp only [go_sem,t0],by simp only [go_sem,t2],by simp only [go_sem,t3],hm1,C2,sts,cells,ids,w,by omega,by omega,by rw [fr2 _ (by omega)]; exact b0,by rw [fr2 _ (by omega)]; exact b1,hS.frame (Nat.le_refl _) fun q h1 h2 => fr2 q (by omega),fun q h1 h2 => by rw [fr2 q h2]; exact fr q h1 h2⟩) 4 (by
   simp only [go_sem]
   refine ⟨0,by omega,rfl,by omega,C0.upd (by omega),[],[],[],.nil,rfl,?_,rfl,⟨.inl ⟨rfl,rfl,rfl⟩,rfl,rfl,rfl,fun b hb => by (cases hb),fun i hi => absurd hi (Nat.not_lt_zero _)⟩,fun q h1 h2 => ?_⟩
   ·rw [upd_ne _ _ (by omega),upd_ne _ _ (by omega),upd_same]
   ·rw [upd_ne _ _ (by omega),upd_ne _ _ h2,upd_ne _ _ (by omega)])
 obtain ⟨n,en⟩:∃ n,n = sts.length:=⟨_,rfl⟩
 obtain ⟨sb,rfl,hsb,s1,s2,s3⟩:∃ sb,w = .rs sb 0 n∧σ5 sb = some ⟨cells,5,true⟩∧nx + 1 + 1 ≤ sb∧sb < n5∧sb ∉ ids:=by
  rcases hS.w with ⟨_,hs,_⟩ | ⟨sb,hw,_,h3,h4,h5,h6⟩
  ·rw [hs] at hk2; simp at hk2
  ·exact ⟨sb,by rw [hw,en],h3,h4,h5,h6⟩
 rw [← en] at hk2 hk4
 simp only [go_sem,t3,bnx1]
 generalize hL:evLoopI _ _ = z
 obtain ⟨x,rfl,T2,σ6,n6,rfl,t2,t3,hn6,ms,w2,c0,c1,hG,hM,hB,fr6⟩:=count_rule hL n (fun i st => st.T 0 = .rp c 0∧st.T 2 = .rp nx 0∧st.T 3 = .rp (nx + 1) 0∧st.T 5 = I n∧st.T 6 = I i∧n5 ≤ st.nx∧CurAt st.σ c xs∧∃ ms w2,st.σ nx = some ⟨[.nil,.nil,Bo false],0,true⟩∧st.σ (nx + 1) = some ⟨[.rs sb 0 n,w2,Bo b],0,true⟩∧GrowG cMove 2 (fun _ => w2) st.σ st.nx 0 ms∧MsOk n ms i 0∧(∀ b o l,w2 = .rs b o l→n5 ≤ b)∧∀ q,q < n5→q ≠ c→q ≠ nx + 1→st.σ q = σ5 q)
  (fun x => ∃ T σ6 n6,x = (.exit 2,⟨T,σ6,n6⟩)∧T 2 = .rp nx 0∧T 3 = .rp (nx + 1) 0∧n5 ≤ n6∧∃ ms w2,σ6 nx = some ⟨[.nil,.nil,Bo false],0,true⟩∧σ6 (nx + 1) = some ⟨[.rs sb 0 n,w2,Bo b],0,true⟩∧GrowG cMove 2 (fun _ => w2) σ6 n6 0 ms∧MsOk n ms n 0∧(∀ b o l,w2 = .rs b o l→n5 ≤ b)∧∀ q,q < n5→q ≠ c→q ≠ nx + 1→σ6 q = σ5 q) (by
   clear hL
   rintro i ⟨T,σ1,m1⟩ hi ⟨t0,t2,t3,t5,t6,hm1,C1,ms,w2,c0,c1,hG,hM,hB,fr⟩
   simp only at t0 t2 t3 t5 t6 hm1 C1 c0 c1 hG fr
   have f1:(i:Int) < (n:Int):=by omega
   have f3:=wrap_id (n:=(i:Int) + 1) (by omega) (by omega)
   refine step_of ?_
   conv =>
    enter [1,r,1,1]
    simp only [go_sem,t5,t6,f1]
   generalize hL:evLoopI _ _ = z
   obtain ⟨x,rfl,T',σ',m',rfl,t0,t2,t3,t5,t6,hm,C',ms',w2',d0,d1,hG',hM',hB',fr'⟩:=count_rule hL n (fun k st => st.T 0 = .rp c 0∧st.T 2 = .rp nx 0∧st.T 3 = .rp (nx + 1) 0∧st.T 5 = I n∧st.T 6 = I i∧st.T 7 = I k∧n5 ≤ st.nx∧CurAt st.σ c xs∧∃ ms w2,st.σ nx = some ⟨[.nil,.nil,Bo false],0,true⟩∧st.σ (nx + 1) = some ⟨[.rs sb 0 n,w2,Bo b],0,true⟩∧GrowG cMove 2 (fun _ => w2) st.σ st.nx 0 ms∧MsOk n ms i k∧(∀ b o l,w2 = .rs b o l→n5 ≤ b)∧∀ q,q < n5→q ≠ c→q ≠ nx + 1→st.σ q = σ5 q)
    (fun x => ∃ T σ6 n6,x = (.exit 4,⟨T,σ6,n6⟩)∧T 0 = .rp c 0∧T 2 = .rp nx 0∧T 3 = .rp (nx + 1) 0∧T 5 = I n∧T 6 = I i∧n5 ≤ n6∧CurAt σ6 c xs∧∃ ms w2,σ6 nx = some ⟨[.nil,.nil,Bo false],0,true⟩∧σ6 (nx + 1) = some ⟨[.rs sb 0 n,w2,Bo b],0,true⟩∧GrowG cMove 2 (fun _ => w2) σ6 n6 0 ms∧MsOk n ms i n∧(∀ b o l,w2 = .rs b o l→n5 ≤ b)∧∀ q,q < n5→q ≠ c→q ≠ nx + 1→σ6 q = σ5 q) (by
     clear hL
     rintro k ⟨T,σ1,m1⟩ hk ⟨t0,t2,t3,t5,t6,t7,hm1,C1,ms,w2,c0,c1,hG,hM,hB,fr⟩
     simp only at t0 t2 t3 t5 t6 t7 hm1 C1 c0 c1 hG fr
     have g1:(k:Int) < (n:Int):=by omega
     have g3:=wrap_id (n:=(k:Int) + 1) (by omega) (by omega)
     have next:MsOk n ms i (k + 1):=hM.mono fun f t h _ _ => by omega
     by_cases hik:i = k
     ·have e1:((i:Int) != (k:Int)) = false:=by rw [hik]; simp
      refine .inl ⟨_,by simp only [go_sem,t0,t3,t5,t6,t7,g1,g3,e1]; rfl,?_⟩
      simp only [go_sem,t0,t2,t3,t5,t6]
      exact ⟨rfl,hm1,C1,ms,w2,c0,c1,hG,next,hB,fr⟩
     ·have e1:((i:Int) != (k:Int)) = true:=by simp; omega
      obtain ⟨r,x1,k1,C2⟩:=sOnceC hx hl C1 (show c < m1 by omega) 2 (by decide) (by decide)
      obtain ⟨σ2,e2⟩:∃ σ2,σ2 = upd σ1 c x1:=⟨_,rfl⟩
      rw [← e2] at C2
      have fr2:∀ q,q ≠ c→σ2 q = σ1 q:=fun q h => by rw [e2,upd_ne _ _ h]
      have c02:σ2 nx = some ⟨[.nil,.nil,Bo false],0,true⟩:=by rw [fr2 _ (by omega)]; exact c0
      have c12:σ2 (nx + 1) = some ⟨[.rs sb 0 n,w2,Bo b],0,true⟩:=by rw [fr2 _ (by omega)]; exact c1
      have fr3:∀ q,q < n5→q ≠ c→q ≠ nx + 1→σ2 q = σ5 q:=fun q h1 h2 h3 => by rw [fr2 q h2]; exact fr q h1 h2 h3
      have hG2:GrowG cMove 2 (fun _ => w2) σ2 m1 0 ms:=growG_frame hG (Nat.le_refl _) fun b o l h => fr2 b (by have:=hB b o l h; omega)
      have hml:=hM.len
      have no:evLen Tryz.prog 24 w2 = some (I ms.length):=by
       rcases hG with ⟨h1,h2⟩ | ⟨bb,h1,_⟩
       ·have h1:w2 = .nil:=h1
        rw [h1,h2]; rfl
       ·have h1:w2 = .rs bb 0 ms.length:=h1
        rw [h1]; rfl
      cases r with
      | false =>
       refine .inl ⟨_,by simp only [go_sem,call_inl,t0,t3,t5,t6,t7,g1,g3,e1,k1,← e2]; rfl,?_⟩
       simp only [go_sem,t0,t2,t3,t5,t6]
       exact ⟨rfl,hm1,C2,ms,w2,c02,c12,hG2,next,hB,fr3⟩
      | true =>
       by_cases hl12:(ms.length:Int) < 12
       ·have hg1:=growG_append (c:=cMove) (s:=2) (bytes:=16) (fun _ => rfl) (fun _ => rfl) (by decide) hG2 (⟨(i:Int),(k:Int)⟩:TV.Move) (by omega) (by decide)
        obtain ⟨σ3,ha,hs3,hf3⟩:=hg1
        have u1:∀ q,q < m1→(∀ b o l,w2 = .rs b o l→q ≠ b)→σ3 q = σ2 q:=hf3
        have d1:σ3 (nx + 1) = some ⟨[.rs sb 0 n,w2,Bo b],0,true⟩:=by rw [u1 _ (by omega) fun b o l h => by have:=hB b o l h; omega]; exact c12
        have d0:σ3 nx = some ⟨[.nil,.nil,Bo false],0,true⟩:=by rw [u1 _ (by omega) fun b o l h => by have:=hB b o l h; omega]; exact c02
        have C3:CurAt σ3 c xs:=by
         obtain ⟨a1,a2,a3,a4⟩:=C2
         exact ⟨a1,a2,by rw [u1 _ (by omega) fun b o l h => by have:=hB b o l h; omega]; exact a3,a4⟩
        refine .inl ⟨_,by simp only [go_sem,call_inl,t0,t3,t5,t6,t7,g1,g3,e1,k1,← e2,c12,no,hl12,ha,d1]; rfl,?_⟩
        simp only [go_sem,t0,t2,t3,t5,t6]
        refine ⟨rfl,by omega,C3.upd (by omega),ms ++ [⟨(i:Int),(k:Int)⟩],.rs (m1 + 1) 0 (ms.length + 1),?_,rfl,?_,hM.add (by omega) (by omega) (by omega) hik,fun b o l hb => by (cases hb; omega),fun q h1 h2 h3 => ?_⟩
        ·rw [upd_ne _ _ (by omega)]; exact d0
        ·refine .inr ⟨m1 + 1,by rw [List.length_append]; rfl,by simp,?_,by omega⟩
         rw [upd_ne _ _ (by omega)]; exact hs3
        ·rw [upd_ne _ _ h3,u1 q (by omega) fun b o l h => by have:=hB b o l h; omega]; exact fr3 q h1 h2 h3
       ·refine .inl ⟨_,by simp only [go_sem,call_inl,t0,t3,t5,t6,t7,g1,g3,e1,k1,← e2,c12,no,hl12]; rfl,?_⟩
        simp only [go_sem,t0,t2,t3,t5,t6]
        exact ⟨rfl,hm1,C2,ms,w2,c02,c12,hG2,next,hB,fr3⟩) (by
     clear hL
     rintro ⟨T,σ1,m1⟩ ⟨t0,t2,t3,t5,t6,t7,hm1,C1,ms,w2,c0,c1,hG,hM,hB,fr⟩
     simp only at t0 t2 t3 t5 t6 t7 hm1 C1 c0 c1 hG fr
     exact ⟨_,by simp only [go_sem,t5,t7,Int.lt_irrefl]; rfl,by simp,_,_,_,rfl,by simp only [go_sem,t0],by simp only [go_sem,t2],by simp only [go_sem,t3],by simp only [go_sem,t5],by simp only [go_sem,t6],hm1,C1,ms,w2,c0,c1,hG,hM,hB,fr⟩) (by
     simp only [go_sem,t0,t2,t3,t5,t6]
     exact ⟨hm1,C1,ms,w2,c0,c1,hG,hM,hB,fr⟩)
   refine ⟨_,by simp only [go_sem,t6,f3]; rfl,.inl ⟨_,rfl,?_⟩⟩
   simp only [go_sem,t0,t2,t3,t5]
   exact ⟨rfl,hm,C',ms',w2',d0,d1,hG',hM'.mono fun f t h h1 h2 => by omega,hB',fr'⟩) (by
   clear hL
   rintro ⟨T,σ1,m1⟩ ⟨t0,t2,t3,t5,t6,hm1,C1,ms,w2,c0,c1,hG,hM,hB,fr⟩
   simp only at t0 t2 t3 t5 t6 hm1 C1 c0 c1 hG fr
   exact ⟨_,by simp only [go_sem,t5,t6,Int.lt_irrefl]; rfl,by simp,_,_,_,rfl,by simp only [go_sem,t2],by simp only [go_sem,t3],hm1,ms,w2,c0,c1,hG,hM,hB,fr⟩) (by
   simp only [go_sem,t0,t2,t3]
   exact ⟨C5,[],.nil,bnx,bnx1,.inl ⟨rfl,rfl⟩,⟨Nat.zero_le _,fun j hj => absurd hj (Nat.not_lt_zero _),fun a b ha => absurd ha (Nat.not_lt_zero _)⟩,fun b o l h => by (cases h),fun q _ _ _ => trivial⟩)
 have cw:isCell w2 = true:=by
  rcases hG with ⟨h1,_⟩ | ⟨bb,h1,_⟩
  ·have h1:w2 = .nil:=h1
   rw [h1]; rfl
  ·have h1:w2 = .rs bb 0 ms.length:=h1
   rw [h1]; rfl
 simp only [go_sem,t2,t3,c0,c1,cw,z1,z2]
 obtain ⟨yo1,yo2⟩:=yard_ok (b:=b) (sts:=sts) (ms:=ms) (i:=n) (k:=0) (by omega) hS.ok (by rw [← en]; exact hM)
 obtain ⟨σf,ef⟩:∃ σf,σf = upd σ6 nx (some ⟨[.rs sb 0 n,w2,Bo b],0,true⟩):=⟨_,rfl⟩
 have l1:∀ q,nx < q→σf q = σ6 q:=fun q h => by rw [ef,upd_ne _ _ (by omega)]
 rw [← ef]
 refine ⟨⟨sts,ms,b⟩,[.rs sb 0 n,w2,Bo b],sb :: ids ++ (idsOf w2 ++ ([] ++ [])),σf,n6,rfl,by simp only [List.all_cons,cw]; rfl,rfl,fun f hf => ?_,yo1,yo2,by show 2 ≤ sts.length; omega,fun q h1 h2 => ?_⟩
 ·have hfs:∀ q,nx + 1 < q→q < n5→f q = σ5 q:=fun q h1 h2 => by
   rw [hf q (by omega) (by omega),l1 q (by omega),fr6 q h2 (by omega) (by omega)]
  have g1:strip f 6 (.rs sb 0 n) = some (LL cStance sts,sb :: ids):=by
   have hst:stripL (strip f 5) cells = some (sts.flatMap cStance,ids):=stripL_frame hS.st fun q hq => hfs q (by have:=hS.ids q hq; omega) (hS.ids q hq).2
   rw [strip_rs,hfs sb (by omega) s2,hsb]
   have hl:=hS.len
   rw [← en] at hl
   simp only [Option.bind_some,Nat.zero_add,List.drop_zero,hl,Nat.le_refl,if_true]
   rw [List.take_of_length_le (by omega),hst]
   show some (V.ts _ n,_) = some (V.ts _ sts.length,_)
   rw [en]
  have g2:strip f 6 w2 = some (LL cMove ms,idsOf w2):=by
   rcases hG with ⟨h1,rfl⟩ | ⟨bb,h1,_,h3,h4⟩
   ·have h1:w2 = .nil:=h1
    rw [h1,strip_nil]; rfl
   ·have h1:w2 = .rs bb 0 ms.length:=h1
    have:=hB bb 0 _ h1
    rw [h1]
    exact slice_strip (c:=cMove) (s:=2) (fun _ => rfl) (fun σ d l => stripL_slots (fun x => by rw [stripL_cons,strip_sc,stripL_cons,strip_sc,stripL_nil]; rfl) l) (w:=true) (by rw [hf bb (by omega) (by omega),l1 bb (by omega)]; exact h3) 5
  rw [stripL_cons,g1,stripL_cons,g2,stripL_cons,strip_sc,stripL_nil]
  rfl
 ·rw [ef,upd_ne _ _ (by omega),fr6 q (by omega) h2 (by omega)]; exact fr5 q h1 h2
theorem sMakeYard (xs:List Int) (hx:∀ x ∈ xs,0 ≤ x∧x ≤ 255) (hl:xs.length ≤ 1048576):∃ y,fn Tryz.prog conv ext 5 [LL cB xs] = some (.agg (cYard y))∧YardGood y∧okYard y∧2 ≤ y.stances.length:=by
 obtain ⟨h0,k0⟩:=sNew xs hx hl 1 (upd noStore 0 (some ⟨[.nil,.nil,Bo false],0,true⟩))
 obtain ⟨y,cells,ids,σ',nx',k1,hc,hcl,hst,g1,g2,g3,hfr⟩:=sYard hx hl (c:=1) (nx:=2) (σ:=upd (upd noStore 0 (some ⟨[.nil,.nil,Bo false],0,true⟩)) 1 (some (Cur xs 0 h0 0))) ⟨0,h0,by rw [upd_same],by omega,by omega⟩ (by omega)
 have b0:σ' 0 = some ⟨[.nil,.nil,Bo false],0,true⟩:=by rw [hfr 0 (by omega) (by omega),upd_ne _ _ (by omega),upd_same]
 have s0:=hst (upd σ' 0 (some ⟨cells,0,true⟩)) fun b h1 h2 => upd_ne _ _ (by omega)
 obtain ⟨a1,a2,a3,rfl⟩:∃ a1 a2 a3,cells = [a1,a2,a3]:=by
  match cells,hcl with
  | [a1,a2,a3],_ => exact ⟨a1,a2,a3,rfl⟩
 refine ⟨y,?_,g1,g2,g3⟩
 simp only [List.all_cons,List.all_nil,Bool.and_eq_true] at hc
 rw [fn_eq,ev_eqQ (rs:=[.cell 2 26]) [] rfl Tryz.func5 rfl rfl (by kernel_rfl) (by kernel_rfl)]
 simp only [go_sem,call_inl,k0,k1,b0,hc,s0]
end Go.Proofs.YtoccmbjfkbemcaaGreat
namespace Go.Proofs.YtoccmbjfkbemcaaGreat
open Go Go.TV
abbrev topS:List Nat:=[3,4,8,11,12,13,23,24,34,35,47,58,59]
abbrev viaM:List Nat:=[22,21,9]
def convS:FuncId→Conv:=fun f => if f ∈ ([11,12,13,22,35,60,25,68]:List Nat) then .own else if f ∈ ([59]:List Nat) then .inl else .imm
noncomputable def extS:Ext:=fun f => if f = 60 then some (cloneG) else if f = 25 then some (cloneK 1) else if f = 68 then some (cloneK 4) else if f ∈ topS then none else if f ∈ viaM then some (fun args σ nx => ev Tryz.prog convM extM f args σ nx) else some fun args σ nx => ev Tryz.prog convL extL f args σ nx
theorem extSOk:ExtOk Tryz.prog extS:=fun f g h args σ nx v σ' nx' hg => by
 unfold extS at h
 by_cases hf60:f = 60
 ·subst hf60
  rw [if_pos rfl] at h
  cases h
  exact clone_sound args σ nx v σ' nx' hg
 have n60:=hf60
 by_cases hf25:f = 25
 ·subst hf25
  rw [if_neg (by decide),if_pos rfl] at h
  cases h
  exact clone_soundB args σ nx v σ' nx' hg
 have n25:=hf25
 by_cases hf68:f = 68
 ·subst hf68
  rw [if_neg (by decide),if_neg (by decide),if_pos rfl] at h
  cases h
  exact clone_soundJ args σ nx v σ' nx' hg
 have n68:=hf68
 simp only [n60,n25,n68,if_false] at h
 split at h
 ·cases h
 ·split at h
  ·cases h
   exact ev_sound (by kernel_rfl) extMOk f args σ nx v σ' nx' hg
  ·cases h
   exact ev_sound (by kernel_rfl) extLOk f args σ nx v σ' nx' hg
theorem fnS {f:FuncId} (h:List.contains ([60,25,68] ++ topS ++ viaM) f = false) (ts:List V):fn Tryz.prog convS extS f ts = fn Tryz.prog convL extL f ts:=by
 have hn:¬f ∈ ([60,25,68] ++ topS ++ viaM:List Nat):=fun e => by rw [List.contains_iff_mem.mpr e] at h; cases h
 simp only [List.mem_append,not_or] at hn
 have h0:=hn.1.1
 simp only [List.mem_cons,List.not_mem_nil,or_false,not_or] at h0
 rw [fn_eq,fn_eq,ev_ext (g:=fun args σ nx => ev Tryz.prog convL extL f args σ nx) (by unfold extS; simp only [h0,if_false]; rw [if_neg hn.1.2,if_neg hn.2])]
theorem evSM22 (args:List V) (σ:Store) (nx:Nat):ev Tryz.prog convS extS 22 args σ nx = ev Tryz.prog convM extM 22 args σ nx:=ev_ext (g:=fun args σ nx => ev Tryz.prog convM extM 22 args σ nx) rfl args σ nx
theorem evSM21 (args:List V) (σ:Store) (nx:Nat):ev Tryz.prog convS extS 21 args σ nx = ev Tryz.prog convM extM 21 args σ nx:=ev_ext (g:=fun args σ nx => ev Tryz.prog convM extM 21 args σ nx) rfl args σ nx
theorem fnSM21 (ts:List V):fn Tryz.prog convS extS 21 ts = fn Tryz.prog convM extM 21 ts:=by rw [fn_eq,fn_eq,evSM21]
theorem evSC60 (args:List V) (σ:Store) (nx:Nat):ev Tryz.prog convS extS 60 args σ nx = (cloneG) args σ nx:=ev_ext (g:=(cloneG)) rfl args σ nx
theorem evSC25 (args:List V) (σ:Store) (nx:Nat):ev Tryz.prog convS extS 25 args σ nx = (cloneK 1) args σ nx:=ev_ext (g:=(cloneK 1)) rfl args σ nx
theorem evSC68 (args:List V) (σ:Store) (nx:Nat):ev Tryz.prog convS extS 68 args σ nx = (cloneK 4) args σ nx:=ev_ext (g:=(cloneK 4)) rfl args σ nx
theorem fnS5 (ts:List V):fn Tryz.prog convS extS 5 ts = fn Tryz.prog convL extL 5 ts:=fnS rfl ts
theorem fnS6 (ts:List V):fn Tryz.prog convS extS 6 ts = fn Tryz.prog convL extL 6 ts:=fnS rfl ts
theorem fnS7 (ts:List V):fn Tryz.prog convS extS 7 ts = fn Tryz.prog convL extL 7 ts:=fnS rfl ts
theorem fnS10 (ts:List V):fn Tryz.prog convS extS 10 ts = fn Tryz.prog convL extL 10 ts:=fnS rfl ts
theorem fnS14 (ts:List V):fn Tryz.prog convS extS 14 ts = fn Tryz.prog convL extL 14 ts:=fnS rfl ts
theorem fnS15 (ts:List V):fn Tryz.prog convS extS 15 ts = fn Tryz.prog convL extL 15 ts:=fnS rfl ts
theorem fnS16 (ts:List V):fn Tryz.prog convS extS 16 ts = fn Tryz.prog convL extL 16 ts:=fnS rfl ts
theorem fnS17 (ts:List V):fn Tryz.prog convS extS 17 ts = fn Tryz.prog convL extL 17 ts:=fnS rfl ts
theorem fnS18 (ts:List V):fn Tryz.prog convS extS 18 ts = fn Tryz.prog convL extL 18 ts:=fnS rfl ts
theorem fnS19 (ts:List V):fn Tryz.prog convS extS 19 ts = fn Tryz.prog convL extL 19 ts:=fnS rfl ts
theorem fnS20 (ts:List V):fn Tryz.prog convS extS 20 ts = fn Tryz.prog convL extL 20 ts:=fnS rfl ts
theorem fnS26 (ts:List V):fn Tryz.prog convS extS 26 ts = fn Tryz.prog convL extL 26 ts:=fnS rfl ts
theorem fnS27 (ts:List V):fn Tryz.prog convS extS 27 ts = fn Tryz.prog convL extL 27 ts:=fnS rfl ts
theorem fnS28 (ts:List V):fn Tryz.prog convS extS 28 ts = fn Tryz.prog convL extL 28 ts:=fnS rfl ts
theorem fnS29 (ts:List V):fn Tryz.prog convS extS 29 ts = fn Tryz.prog convL extL 29 ts:=fnS rfl ts
theorem fnS30 (ts:List V):fn Tryz.prog convS extS 30 ts = fn Tryz.prog convL extL 30 ts:=fnS rfl ts
theorem fnS31 (ts:List V):fn Tryz.prog convS extS 31 ts = fn Tryz.prog convL extL 31 ts:=fnS rfl ts
theorem fnS32 (ts:List V):fn Tryz.prog convS extS 32 ts = fn Tryz.prog convL extL 32 ts:=fnS rfl ts
theorem fnS33 (ts:List V):fn Tryz.prog convS extS 33 ts = fn Tryz.prog convL extL 33 ts:=fnS rfl ts
theorem fnS36 (ts:List V):fn Tryz.prog convS extS 36 ts = fn Tryz.prog convL extL 36 ts:=fnS rfl ts
theorem fnS37 (ts:List V):fn Tryz.prog convS extS 37 ts = fn Tryz.prog convL extL 37 ts:=fnS rfl ts
theorem fnS38 (ts:List V):fn Tryz.prog convS extS 38 ts = fn Tryz.prog convL extL 38 ts:=fnS rfl ts
theorem fnS39 (ts:List V):fn Tryz.prog convS extS 39 ts = fn Tryz.prog convL extL 39 ts:=fnS rfl ts
theorem fnS40 (ts:List V):fn Tryz.prog convS extS 40 ts = fn Tryz.prog convL extL 40 ts:=fnS rfl ts
theorem fnS41 (ts:List V):fn Tryz.prog convS extS 41 ts = fn Tryz.prog convL extL 41 ts:=fnS rfl ts
theorem fnS42 (ts:List V):fn Tryz.prog convS extS 42 ts = fn Tryz.prog convL extL 42 ts:=fnS rfl ts
theorem fnS43 (ts:List V):fn Tryz.prog convS extS 43 ts = fn Tryz.prog convL extL 43 ts:=fnS rfl ts
theorem fnS44 (ts:List V):fn Tryz.prog convS extS 44 ts = fn Tryz.prog convL extL 44 ts:=fnS rfl ts
theorem fnS45 (ts:List V):fn Tryz.prog convS extS 45 ts = fn Tryz.prog convL extL 45 ts:=fnS rfl ts
theorem fnS46 (ts:List V):fn Tryz.prog convS extS 46 ts = fn Tryz.prog convL extL 46 ts:=fnS rfl ts
theorem fnS48 (ts:List V):fn Tryz.prog convS extS 48 ts = fn Tryz.prog convL extL 48 ts:=fnS rfl ts
theorem fnS49 (ts:List V):fn Tryz.prog convS extS 49 ts = fn Tryz.prog convL extL 49 ts:=fnS rfl ts
theorem fnS50 (ts:List V):fn Tryz.prog convS extS 50 ts = fn Tryz.prog convL extL 50 ts:=fnS rfl ts
theorem fnS51 (ts:List V):fn Tryz.prog convS extS 51 ts = fn Tryz.prog convL extL 51 ts:=fnS rfl ts
theorem fnS52 (ts:List V):fn Tryz.prog convS extS 52 ts = fn Tryz.prog convL extL 52 ts:=fnS rfl ts
theorem fnS53 (ts:List V):fn Tryz.prog convS extS 53 ts = fn Tryz.prog convL extL 53 ts:=fnS rfl ts
theorem fnS54 (ts:List V):fn Tryz.prog convS extS 54 ts = fn Tryz.prog convL extL 54 ts:=fnS rfl ts
theorem fnS55 (ts:List V):fn Tryz.prog convS extS 55 ts = fn Tryz.prog convL extL 55 ts:=fnS rfl ts
theorem fnS56 (ts:List V):fn Tryz.prog convS extS 56 ts = fn Tryz.prog convL extL 56 ts:=fnS rfl ts
theorem fnS57 (ts:List V):fn Tryz.prog convS extS 57 ts = fn Tryz.prog convL extL 57 ts:=fnS rfl ts
theorem fnS61 (ts:List V):fn Tryz.prog convS extS 61 ts = fn Tryz.prog convL extL 61 ts:=fnS rfl ts
theorem fnS63 (ts:List V):fn Tryz.prog convS extS 63 ts = fn Tryz.prog convL extL 63 ts:=fnS rfl ts
theorem fnS64 (ts:List V):fn Tryz.prog convS extS 64 ts = fn Tryz.prog convL extL 64 ts:=fnS rfl ts
theorem fnS65 (ts:List V):fn Tryz.prog convS extS 65 ts = fn Tryz.prog convL extL 65 ts:=fnS rfl ts
theorem fnS66 (ts:List V):fn Tryz.prog convS extS 66 ts = fn Tryz.prog convL extL 66 ts:=fnS rfl ts
theorem fnS67 (ts:List V):fn Tryz.prog convS extS 67 ts = fn Tryz.prog convL extL 67 ts:=fnS rfl ts
theorem fnS69 (ts:List V):fn Tryz.prog convS extS 69 ts = fn Tryz.prog convL extL 69 ts:=fnS rfl ts
theorem fnS70 (ts:List V):fn Tryz.prog convS extS 70 ts = fn Tryz.prog convL extL 70 ts:=fnS rfl ts
theorem fnS71 (ts:List V):fn Tryz.prog convS extS 71 ts = fn Tryz.prog convL extL 71 ts:=fnS rfl ts
theorem fnS72 (ts:List V):fn Tryz.prog convS extS 72 ts = fn Tryz.prog convL extL 72 ts:=fnS rfl ts
theorem fnS73 (ts:List V):fn Tryz.prog convS extS 73 ts = fn Tryz.prog convL extL 73 ts:=fnS rfl ts
theorem fnS74 (ts:List V):fn Tryz.prog convS extS 74 ts = fn Tryz.prog convL extL 74 ts:=fnS rfl ts
theorem fnS75 (ts:List V):fn Tryz.prog convS extS 75 ts = fn Tryz.prog convL extL 75 ts:=fnS rfl ts
theorem fnS76 (ts:List V):fn Tryz.prog convS extS 76 ts = fn Tryz.prog convL extL 76 ts:=fnS rfl ts
theorem fnS77 (ts:List V):fn Tryz.prog convS extS 77 ts = fn Tryz.prog convL extL 77 ts:=fnS rfl ts
theorem fnS78 (ts:List V):fn Tryz.prog convS extS 78 ts = fn Tryz.prog convL extL 78 ts:=fnS rfl ts
theorem fnS79 (ts:List V):fn Tryz.prog convS extS 79 ts = fn Tryz.prog convL extL 79 ts:=fnS rfl ts
theorem fnS80 (ts:List V):fn Tryz.prog convS extS 80 ts = fn Tryz.prog convL extL 80 ts:=fnS rfl ts
theorem fnS81 (ts:List V):fn Tryz.prog convS extS 81 ts = fn Tryz.prog convL extL 81 ts:=fnS rfl ts
theorem fnS82 (ts:List V):fn Tryz.prog convS extS 82 ts = fn Tryz.prog convL extL 82 ts:=fnS rfl ts
theorem fnS83 (ts:List V):fn Tryz.prog convS extS 83 ts = fn Tryz.prog convL extL 83 ts:=fnS rfl ts
theorem fnS84 (ts:List V):fn Tryz.prog convS extS 84 ts = fn Tryz.prog convL extL 84 ts:=fnS rfl ts
theorem fnS85 (ts:List V):fn Tryz.prog convS extS 85 ts = fn Tryz.prog convL extL 85 ts:=fnS rfl ts
theorem fnS86 (ts:List V):fn Tryz.prog convS extS 86 ts = fn Tryz.prog convL extL 86 ts:=fnS rfl ts
theorem fnS87 (ts:List V):fn Tryz.prog convS extS 87 ts = fn Tryz.prog convL extL 87 ts:=fnS rfl ts
theorem fnS88 (ts:List V):fn Tryz.prog convS extS 88 ts = fn Tryz.prog convL extL 88 ts:=fnS rfl ts
theorem fnS89 (ts:List V):fn Tryz.prog convS extS 89 ts = fn Tryz.prog convL extL 89 ts:=fnS rfl ts
theorem fnS90 (ts:List V):fn Tryz.prog convS extS 90 ts = fn Tryz.prog convL extL 90 ts:=fnS rfl ts
theorem fnS91 (ts:List V):fn Tryz.prog convS extS 91 ts = fn Tryz.prog convL extL 91 ts:=fnS rfl ts
theorem fnS92 (ts:List V):fn Tryz.prog convS extS 92 ts = fn Tryz.prog convL extL 92 ts:=fnS rfl ts
theorem fnS93 (ts:List V):fn Tryz.prog convS extS 93 ts = fn Tryz.prog convL extL 93 ts:=fnS rfl ts
theorem fnS94 (ts:List V):fn Tryz.prog convS extS 94 ts = fn Tryz.prog convL extL 94 ts:=fnS rfl ts
theorem fnS95 (ts:List V):fn Tryz.prog convS extS 95 ts = fn Tryz.prog convL extL 95 ts:=fnS rfl ts
theorem fnS96 (ts:List V):fn Tryz.prog convS extS 96 ts = fn Tryz.prog convL extL 96 ts:=fnS rfl ts
theorem fnS97 (ts:List V):fn Tryz.prog convS extS 97 ts = fn Tryz.prog convL extL 97 ts:=fnS rfl ts
theorem fnS98 (ts:List V):fn Tryz.prog convS extS 98 ts = fn Tryz.prog convL extL 98 ts:=fnS rfl ts
theorem fnS99 (ts:List V):fn Tryz.prog convS extS 99 ts = fn Tryz.prog convL extL 99 ts:=fnS rfl ts
theorem fnS100 (ts:List V):fn Tryz.prog convS extS 100 ts = fn Tryz.prog convL extL 100 ts:=fnS rfl ts
theorem fnS101 (ts:List V):fn Tryz.prog convS extS 101 ts = fn Tryz.prog convL extL 101 ts:=fnS rfl ts
theorem fnS102 (ts:List V):fn Tryz.prog convS extS 102 ts = fn Tryz.prog convL extL 102 ts:=fnS rfl ts
theorem fnS103 (ts:List V):fn Tryz.prog convS extS 103 ts = fn Tryz.prog convL extL 103 ts:=fnS rfl ts
theorem fnS104 (ts:List V):fn Tryz.prog convS extS 104 ts = fn Tryz.prog convL extL 104 ts:=fnS rfl ts
theorem fnS105 (ts:List V):fn Tryz.prog convS extS 105 ts = fn Tryz.prog convL extL 105 ts:=fnS rfl ts
theorem fnS106 (ts:List V):fn Tryz.prog convS extS 106 ts = fn Tryz.prog convL extL 106 ts:=fnS rfl ts
theorem fnS107 (ts:List V):fn Tryz.prog convS extS 107 ts = fn Tryz.prog convL extL 107 ts:=fnS rfl ts
theorem fnS108 (ts:List V):fn Tryz.prog convS extS 108 ts = fn Tryz.prog convL extL 108 ts:=fnS rfl ts
theorem fnS109 (ts:List V):fn Tryz.prog convS extS 109 ts = fn Tryz.prog convL extL 109 ts:=fnS rfl ts
theorem fnS110 (ts:List V):fn Tryz.prog convS extS 110 ts = fn Tryz.prog convL extL 110 ts:=fnS rfl ts
theorem fnS111 (ts:List V):fn Tryz.prog convS extS 111 ts = fn Tryz.prog convL extL 111 ts:=fnS rfl ts
theorem fnS112 (ts:List V):fn Tryz.prog convS extS 112 ts = fn Tryz.prog convL extL 112 ts:=fnS rfl ts
theorem fnS113 (ts:List V):fn Tryz.prog convS extS 113 ts = fn Tryz.prog convL extL 113 ts:=fnS rfl ts
theorem fnS114 (ts:List V):fn Tryz.prog convS extS 114 ts = fn Tryz.prog convL extL 114 ts:=fnS rfl ts
theorem fnS115 (ts:List V):fn Tryz.prog convS extS 115 ts = fn Tryz.prog convL extL 115 ts:=fnS rfl ts
theorem fnS116 (ts:List V):fn Tryz.prog convS extS 116 ts = fn Tryz.prog convL extL 116 ts:=fnS rfl ts
theorem fnS117 (ts:List V):fn Tryz.prog convS extS 117 ts = fn Tryz.prog convL extL 117 ts:=fnS rfl ts
theorem fnS118 (ts:List V):fn Tryz.prog convS extS 118 ts = fn Tryz.prog convL extL 118 ts:=fnS rfl ts
theorem fnS119 (ts:List V):fn Tryz.prog convS extS 119 ts = fn Tryz.prog convL extL 119 ts:=fnS rfl ts
theorem fnS120 (ts:List V):fn Tryz.prog convS extS 120 ts = fn Tryz.prog convL extL 120 ts:=fnS rfl ts
theorem fnS121 (ts:List V):fn Tryz.prog convS extS 121 ts = fn Tryz.prog convL extL 121 ts:=fnS rfl ts
theorem fnS122 (ts:List V):fn Tryz.prog convS extS 122 ts = fn Tryz.prog convL extL 122 ts:=fnS rfl ts
theorem fnS123 (ts:List V):fn Tryz.prog convS extS 123 ts = fn Tryz.prog convL extL 123 ts:=fnS rfl ts
theorem fnS124 (ts:List V):fn Tryz.prog convS extS 124 ts = fn Tryz.prog convL extL 124 ts:=fnS rfl ts
theorem fnS125 (ts:List V):fn Tryz.prog convS extS 125 ts = fn Tryz.prog convL extL 125 ts:=fnS rfl ts
theorem fnS126 (ts:List V):fn Tryz.prog convS extS 126 ts = fn Tryz.prog convL extL 126 ts:=fnS rfl ts
theorem fnS127 (ts:List V):fn Tryz.prog convS extS 127 ts = fn Tryz.prog convL extL 127 ts:=fnS rfl ts
theorem fnS128 (ts:List V):fn Tryz.prog convS extS 128 ts = fn Tryz.prog convL extL 128 ts:=fnS rfl ts
theorem fnS129 (ts:List V):fn Tryz.prog convS extS 129 ts = fn Tryz.prog convL extL 129 ts:=fnS rfl ts
theorem fnS130 (ts:List V):fn Tryz.prog convS extS 130 ts = fn Tryz.prog convL extL 130 ts:=fnS rfl ts
theorem cvS4:convS 4 = .imm:=id rfl
theorem cvS5:convS 5 = .imm:=id rfl
theorem cvS6:convS 6 = .imm:=id rfl
theorem cvS7:convS 7 = .imm:=id rfl
theorem cvS10:convS 10 = .imm:=id rfl
theorem cvS12:convS 12 = .own:=id rfl
theorem cvS13:convS 13 = .own:=id rfl
theorem cvS14:convS 14 = .imm:=id rfl
theorem cvS15:convS 15 = .imm:=id rfl
theorem cvS16:convS 16 = .imm:=id rfl
theorem cvS17:convS 17 = .imm:=id rfl
theorem cvS18:convS 18 = .imm:=id rfl
theorem cvS19:convS 19 = .imm:=id rfl
theorem cvS20:convS 20 = .imm:=id rfl
theorem cvS21:convS 21 = .imm:=id rfl
theorem cvS22:convS 22 = .own:=id rfl
theorem cvS23:convS 23 = .imm:=id rfl
theorem cvS24:convS 24 = .imm:=id rfl
theorem cvS25:convS 25 = .own:=id rfl
theorem cvS26:convS 26 = .imm:=id rfl
theorem cvS27:convS 27 = .imm:=id rfl
theorem cvS28:convS 28 = .imm:=id rfl
theorem cvS29:convS 29 = .imm:=id rfl
theorem cvS30:convS 30 = .imm:=id rfl
theorem cvS31:convS 31 = .imm:=id rfl
theorem cvS32:convS 32 = .imm:=id rfl
theorem cvS33:convS 33 = .imm:=id rfl
theorem cvS34:convS 34 = .imm:=id rfl
theorem cvS35:convS 35 = .own:=id rfl
theorem cvS36:convS 36 = .imm:=id rfl
theorem cvS37:convS 37 = .imm:=id rfl
theorem cvS38:convS 38 = .imm:=id rfl
theorem cvS39:convS 39 = .imm:=id rfl
theorem cvS40:convS 40 = .imm:=id rfl
theorem cvS41:convS 41 = .imm:=id rfl
theorem cvS42:convS 42 = .imm:=id rfl
theorem cvS43:convS 43 = .imm:=id rfl
theorem cvS44:convS 44 = .imm:=id rfl
theorem cvS45:convS 45 = .imm:=id rfl
theorem cvS46:convS 46 = .imm:=id rfl
theorem cvS47:convS 47 = .imm:=id rfl
theorem cvS48:convS 48 = .imm:=id rfl
theorem cvS49:convS 49 = .imm:=id rfl
theorem cvS50:convS 50 = .imm:=id rfl
theorem cvS51:convS 51 = .imm:=id rfl
theorem cvS52:convS 52 = .imm:=id rfl
theorem cvS53:convS 53 = .imm:=id rfl
theorem cvS54:convS 54 = .imm:=id rfl
theorem cvS55:convS 55 = .imm:=id rfl
theorem cvS56:convS 56 = .imm:=id rfl
theorem cvS57:convS 57 = .imm:=id rfl
theorem cvS58:convS 58 = .imm:=id rfl
theorem cvS59:convS 59 = .inl:=id rfl
theorem cvS60:convS 60 = .own:=id rfl
theorem cvS61:convS 61 = .imm:=id rfl
theorem cvS63:convS 63 = .imm:=id rfl
theorem cvS64:convS 64 = .imm:=id rfl
theorem cvS65:convS 65 = .imm:=id rfl
theorem cvS66:convS 66 = .imm:=id rfl
theorem cvS67:convS 67 = .imm:=id rfl
theorem cvS68:convS 68 = .own:=id rfl
theorem cvS69:convS 69 = .imm:=id rfl
theorem cvS70:convS 70 = .imm:=id rfl
theorem cvS71:convS 71 = .imm:=id rfl
theorem cvS72:convS 72 = .imm:=id rfl
theorem cvS73:convS 73 = .imm:=id rfl
theorem cvS74:convS 74 = .imm:=id rfl
theorem cvS75:convS 75 = .imm:=id rfl
theorem cvS76:convS 76 = .imm:=id rfl
theorem cvS77:convS 77 = .imm:=id rfl
theorem cvS78:convS 78 = .imm:=id rfl
theorem cvS79:convS 79 = .imm:=id rfl
theorem cvS80:convS 80 = .imm:=id rfl
theorem cvS81:convS 81 = .imm:=id rfl
theorem cvS82:convS 82 = .imm:=id rfl
theorem cvS83:convS 83 = .imm:=id rfl
theorem cvS84:convS 84 = .imm:=id rfl
theorem cvS85:convS 85 = .imm:=id rfl
theorem cvS86:convS 86 = .imm:=id rfl
theorem cvS87:convS 87 = .imm:=id rfl
theorem cvS88:convS 88 = .imm:=id rfl
theorem cvS89:convS 89 = .imm:=id rfl
theorem cvS90:convS 90 = .imm:=id rfl
theorem cvS91:convS 91 = .imm:=id rfl
theorem cvS92:convS 92 = .imm:=id rfl
theorem cvS93:convS 93 = .imm:=id rfl
theorem cvS94:convS 94 = .imm:=id rfl
theorem cvS95:convS 95 = .imm:=id rfl
theorem cvS96:convS 96 = .imm:=id rfl
theorem cvS97:convS 97 = .imm:=id rfl
theorem cvS98:convS 98 = .imm:=id rfl
theorem cvS99:convS 99 = .imm:=id rfl
theorem cvS100:convS 100 = .imm:=id rfl
theorem cvS101:convS 101 = .imm:=id rfl
theorem cvS102:convS 102 = .imm:=id rfl
theorem cvS103:convS 103 = .imm:=id rfl
theorem cvS104:convS 104 = .imm:=id rfl
theorem cvS105:convS 105 = .imm:=id rfl
theorem cvS106:convS 106 = .imm:=id rfl
theorem cvS107:convS 107 = .imm:=id rfl
theorem cvS108:convS 108 = .imm:=id rfl
theorem cvS109:convS 109 = .imm:=id rfl
theorem cvS110:convS 110 = .imm:=id rfl
theorem cvS111:convS 111 = .imm:=id rfl
theorem cvS112:convS 112 = .imm:=id rfl
theorem cvS113:convS 113 = .imm:=id rfl
theorem cvS114:convS 114 = .imm:=id rfl
theorem cvS115:convS 115 = .imm:=id rfl
theorem cvS116:convS 116 = .imm:=id rfl
theorem cvS117:convS 117 = .imm:=id rfl
theorem cvS118:convS 118 = .imm:=id rfl
theorem cvS119:convS 119 = .imm:=id rfl
theorem cvS120:convS 120 = .imm:=id rfl
theorem cvS121:convS 121 = .imm:=id rfl
theorem cvS122:convS 122 = .imm:=id rfl
theorem cvS123:convS 123 = .imm:=id rfl
theorem cvS124:convS 124 = .imm:=id rfl
theorem cvS125:convS 125 = .imm:=id rfl
theorem cvS126:convS 126 = .imm:=id rfl
theorem cvS127:convS 127 = .imm:=id rfl
theorem cvS128:convS 128 = .imm:=id rfl
theorem cvS129:convS 129 = .imm:=id rfl
theorem cvS130:convS 130 = .imm:=id rfl
attribute [go_sem] fnS5 fnS6 fnS7 fnS10 fnS14 fnS15 fnS16 fnS17 fnS18 fnS19 fnS20 fnS26 fnS27 fnS28 fnS29 fnS30 fnS31 fnS32 fnS33 fnS36 fnS37 fnS38 fnS39 fnS40 fnS41 fnS42 fnS43 fnS44 fnS45 fnS46 fnS48 fnS49 fnS50 fnS51 fnS52 fnS53 fnS54 fnS55 fnS56 fnS57 fnS61 fnS63 fnS64 fnS65 fnS66 fnS67 fnS69 fnS70 fnS71 fnS72 fnS73 fnS74 fnS75 fnS76 fnS77 fnS78 fnS79 fnS80 fnS81 fnS82 fnS83 fnS84 fnS85 fnS86 fnS87 fnS88 fnS89 fnS90 fnS91 fnS92 fnS93 fnS94 fnS95 fnS96 fnS97 fnS98 fnS99 fnS100 fnS101 fnS102 fnS103 fnS104 fnS105 fnS106 fnS107 fnS108 fnS109 fnS110 fnS111 fnS112 fnS113 fnS114 fnS115 fnS116 fnS117 fnS118 fnS119 fnS120 fnS121 fnS122 fnS123 fnS124 fnS125 fnS126 fnS127 fnS128 fnS129 fnS130
attribute [go_sem] cvS4 cvS5 cvS6 cvS7 cvS10 cvS12 cvS13 cvS14 cvS15 cvS16 cvS17 cvS18 cvS19 cvS20 cvS21 cvS22 cvS23 cvS24 cvS25 cvS26 cvS27 cvS28 cvS29 cvS30 cvS31 cvS32 cvS33 cvS34 cvS35 cvS36 cvS37 cvS38 cvS39 cvS40 cvS41 cvS42 cvS43 cvS44 cvS45 cvS46 cvS47 cvS48 cvS49 cvS50 cvS51 cvS52 cvS53 cvS54 cvS55 cvS56 cvS57 cvS58 cvS59 cvS60 cvS61 cvS63 cvS64 cvS65 cvS66 cvS67 cvS68 cvS69 cvS70 cvS71 cvS72 cvS73 cvS74 cvS75 cvS76 cvS77 cvS78 cvS79 cvS80 cvS81 cvS82 cvS83 cvS84 cvS85 cvS86 cvS87 cvS88 cvS89 cvS90 cvS91 cvS92 cvS93 cvS94 cvS95 cvS96 cvS97 cvS98 cvS99 cvS100 cvS101 cvS102 cvS103 cvS104 cvS105 cvS106 cvS107 cvS108 cvS109 cvS110 cvS111 cvS112 cvS113 cvS114 cvS115 cvS116 cvS117 cvS118 cvS119 cvS120 cvS121 cvS122 cvS123 cvS124 cvS125 cvS126 cvS127 cvS128 cvS129 cvS130
attribute [go_sem] evSM22 evSM21
attribute [go_sem] evSC60 evSC25 evSC68
end Go.Proofs.YtoccmbjfkbemcaaGreat
namespace Go.Proofs.YtoccmbjfkbemcaaGreat
open Go Go.TV Go.Plan
attribute [-go_sem] app_rs
def andU (a b:Int):Int:=IntKind.u64.wrap ((BitVec.ofInt 64 a &&& BitVec.ofInt 64 b).toNat:Nat)
theorem ev_andU {P:Program} {t:TypeId} {x y:Operand} {a b:Int}:evBin P .and t x y (.sc (.int .u64 a)) (.sc (.int .u64 b)) = some (.sc (.int .u64 (andU a b))):=by
 simp only [evBin,toVal,eqGuard_at_int,binOp_and]
 rfl
attribute [go_sem] ev_andU
theorem iMul64 (n:Nat) (h1:1 ≤ n) (h6:n ≤ 6):fn Tryz.prog conv ext 63 [.sc (.int .u64 1),.sc (.int .u64 n)] = some (.tup [.sc (.int .u64 0),.sc (.int .u64 n)]):=by
 have hn:n = 1∨n = 2∨n = 3∨n = 4∨n = 5∨n = 6:=by omega
 have c32:¬(32:Int) < 0:=by decide
 rcases hn with rfl | rfl | rfl | rfl | rfl | rfl <;> rw [fn_eq,ev_eqQ (rs:=[.tmp 4,.tmp 5]) [] rfl Tryz.func63 rfl rfl (by kernel_rfl) (by kernel_rfl)] <;> simp only [go_sem,c32] <;> rfl
theorem iMul (n:Nat) (h1:1 ≤ n) (h6:n ≤ 6):fn Tryz.prog conv ext 49 [.sc (.int .u64 1),.sc (.int .u64 n)] = some (.tup [.sc (.int .u64 0),.sc (.int .u64 n)]):=by
 have k:=iMul64 n h1 h6
 rw [fn_eq,ev_eqQ (rs:=[.tmp 4,.tmp 5]) [] rfl Tryz.func49 rfl rfl (by kernel_rfl) (by kernel_rfl)]
 simp only [go_sem,k]
theorem cvtUi (k:IntKind) (n:Int) (σ:Store):evConvert Tryz.prog 3 71 (.sc (.int k n)) σ = some (.sc (.int .u64 (IntKind.u64.wrap n))):=ev_cvt Tryz.underlying3 Tryz.underlying71
theorem cvtIu (k:IntKind) (n:Int) (σ:Store):evConvert Tryz.prog 71 3 (.sc (.int k n)) σ = some (.sc (.int .i64 (IntKind.i64.wrap n))):=ev_cvt Tryz.underlying71 Tryz.underlying3
section
variable {P:Program} {conv:FuncId→Conv} {call:TV.Call} (d:Option Tmp) (ty:TypeId) (ps:String) (af:Array Edge) (gd:Option (Nat × Bool)) (T:Nat→V) (σ:Store) (nx:Nat)
theorem foot_copy (s x:Operand) (ts:Array TypeId):footIds conv T σ ⟨d,.call ⟨.builtin .copy,#[s,x],ts⟩,ty,ps,af,gd⟩ = refsC (val T s) ++ refsC (val T x):=by
 show ([val T s,val T x].flatMap refsC) = _
 simp only [List.flatMap_cons,List.flatMap_nil,List.append_nil]
theorem w_copy (s x:Operand) (ts:Array TypeId):writer conv ⟨d,.call ⟨.builtin .copy,#[s,x],ts⟩,ty,ps,af,gd⟩ = true:=rfl
theorem opD_copy (s x:Operand) (t u:TypeId):evOpD P conv call ⟨d,.call ⟨.builtin .copy,#[s,x],#[t,u]⟩,ty,ps,af,gd⟩ T σ nx =
  if ((refsC (val T s) ++ refsC (val T x)).all fun b => decide (b < nx)) = true then appK (refsC (val T s) ++ refsC (val T x)) σ nx (evCopy P #[t,u] (val T s) (val T x) (restrict σ (refsC (val T s) ++ refsC (val T x))) nx) else none:=by
 rw [evOpD_of (F:=refsC (val T s) ++ refsC (val T x)) T σ nx (by
  show some ([val T s,val T x].flatMap refsC) = _
  simp only [List.flatMap_cons,List.flatMap_nil,List.append_nil]) (fun _ => rfl)]
 rfl
end
attribute [go_sem] foot_copy w_copy opD_copy
def fillL (n k:Nat):List Int:=List.replicate k (-1) ++ List.replicate (n - k) 0
theorem fillL_len {n k:Nat} (h:k ≤ n):(fillL n k).length = n:=by simp [fillL]; omega
theorem fill_patch {n k m:Nat} (h:k + m ≤ n) (hm:m ≤ k) (h0:m ≠ 0):patch ((fillL n k).flatMap cI) k ((((fillL n k).flatMap cI).take k).take m) = (fillL n (k + m)).flatMap cI:=by
 have hl:((fillL n k).flatMap cI).length = n:=by rw [cI_len,fillL_len (by omega)]
 have e1:((fillL n k).flatMap cI).take k = (List.replicate k (-1)).flatMap cI:=by
  rw [cI_take]; congr 1; unfold fillL; rw [List.take_left' (by simp)]
 have e2:((List.replicate k (-1:Int)).flatMap cI).take m = (List.replicate m (-1)).flatMap cI:=by
  rw [cI_take,List.take_replicate,Nat.min_eq_left hm]
 have e3:∀ (j:Nat) (xs:List Int),(xs.flatMap cI).drop j = (xs.drop j).flatMap cI:=fun j => by
  induction j with
  | zero => intro xs; rfl
  | succ j ih =>
   intro xs
   cases xs with
   | nil => rfl
   | cons y ys => exact ih ys
 rw [e1,e2,patch_eq _ _ _ (by rw [cI_len,hl]; simp; omega),e1,cI_len,List.length_replicate,e3,← List.flatMap_append,← List.flatMap_append]
 congr 1
 unfold fillL
 rw [List.drop_append,List.drop_of_length_le (by simp),List.nil_append,List.drop_replicate,List.length_replicate,List.replicate_append_replicate]
 congr 2
 omega
set_option maxHeartbeats 1000000 in
theorem iRepeatO (n:Nat) (h1:1 ≤ n) (h6:n ≤ 6) (nx:Nat):∃ σ1 nx1,ev Tryz.prog convS extS 35 [.ts [I (-1)] 1,I n] noStore nx = some (.rs nx 0 n,σ1,nx1)∧nx < nx1∧σ1 nx = some ⟨(List.replicate n (-1)).flatMap cI,1,true⟩:=by
 have c1:¬(n:Int) < 0:=by omega
 have k:=iMul n h1 h6
 have w1:=wrap_u64 (n:=(n:Int)) (by omega) (by omega)
 have w2:=wrap_u64 (n:=1) (by omega) (by omega)
 have w3:=wrap_id (n:=(n:Int)) (by omega) (by omega)
 have c2:¬(0:Int) < 0:=by decide
 have c3:¬(9223372036854775807:Int) < (n:Int):=by omega
 have m1:(0:Int) ≤ (n:Int):=by omega
 have m2:8 * (n:Int) ≤ 281474976710656:=by omega
 have m3:(n:Int) ≤ 9223372036854775807:=by omega
 have m4:min 1 n = 1:=by omega
 have m5:¬(1:Nat) = 0:=by decide
 have r1:((rep n [V.sc (.int .i64 0)])).length = n:=by rw [rep_len]; simp
 have r2:patch (rep n [V.sc (.int .i64 0)]) 0 [I (-1)] = (fillL n 1).flatMap cI:=by
  have hn:n = 1∨n = 2∨n = 3∨n = 4∨n = 5∨n = 6:=by omega
  rcases hn with rfl | rfl | rfl | rfl | rfl | rfl <;> rfl
 have m6:1 ≤ n:=h1
 rw [ev_eqQ (rs:=[.tmp 4]) [9] rfl Tryz.func35 rfl rfl (by kernel_rfl) (by kernel_rfl)]
 simp only [go_sem,c1,c2,c3,w1,w2,w3,k,m1,m2,m3,cvtUi,cvtIu,r1,m4,m5,m6,copyTo,r2]
 generalize hL:evLoopI _ _ = y
 obtain ⟨x,rfl,T,σ,nx1,rfl,hnx,t7,hs⟩:=loop_rule hL (fun m st => ∃ k,1 ≤ k∧k ≤ n∧m + k = n∧nx < st.nx∧st.T 7 = .rs nx 0 n∧st.T 8 = I k∧st.σ nx = some ⟨(fillL n k).flatMap cI,1,true⟩)
  (fun x => ∃ T σ nx1,x = (.exit 0,⟨T,σ,nx1⟩)∧nx < nx1∧T 7 = .rs nx 0 n∧σ nx = some ⟨(fillL n n).flatMap cI,1,true⟩) (by
   clear hL
   rintro m ⟨T,σ,nx1⟩ ⟨k,k1,k2,k3,hnx,t7,t8,hs⟩
   simp only at hnx t7 t8 hs
   have hlen:((fillL n k).flatMap cI).length = n:=by rw [cI_len,fillL_len k2]
   by_cases hk:k < n
   ·have g1:(k:Int) < (n:Int):=by omega
    have g2:(0:Int) ≤ (k:Int):=by omega
    have g3:¬k = 0:=by omega
    have g4:¬k = n:=by omega
    have g5:k ≤ n:=k2
    obtain ⟨q,hq⟩:∃ q,q = min k (n - k):=⟨_,rfl⟩
    have g6:¬q = 0:=by omega
    have g7:k + q ≤ n:=by omega
    have g8:(((fillL n k).flatMap cI).take k).take q = (List.replicate q (-1)).flatMap cI:=by
     rw [cI_take,cI_take]
     congr 1
     unfold fillL
     rw [List.take_left' (by simp),List.take_replicate,Nat.min_eq_left (by omega)]
    have g9:=fill_patch (n:=n) (k:=k) (m:=q) (by omega) (by omega) g6
    have g10:((List.replicate q (-1)).flatMap cI).all isCell = true:=cI_cells _
    have w4:=wrap_id (n:=(k:Int) + (q:Int)) (by omega) (by omega)
    rw [g8] at g9
    refine .inl ⟨_,by simp only [go_sem,t7,t8,hs,g1,g2,g3,g4,g5,hlen,hnx,← hq,g6,g7,g8,g9,g10,w4,copyTo]; rfl,m - q,by omega,k + q,by omega,by omega,by omega,?_⟩
    simp only [go_sem,t7]
    exact ⟨hnx,rfl⟩
   ·have:k = n:=by omega
    subst this
    refine .inr ⟨_,by simp only [go_sem,t7,t8,Int.lt_irrefl]; rfl,by simp,_,_,_,rfl,hnx,?_,hs⟩
    simp only [go_sem,t7]) (n - 1) (by
   simp only [go_sem]
   exact ⟨1,Nat.le_refl _,h1,by omega,by omega,rfl,rfl⟩)
 simp only [go_sem,t7]
 refine ⟨_,_,rfl,hnx,?_⟩
 rw [hs]
 unfold fillL
 rw [Nat.sub_self]
 simp
end Go.Proofs.YtoccmbjfkbemcaaGreat
namespace Go.Proofs.YtoccmbjfkbemcaaGreat
open Go Go.TV Go.Plan
attribute [-go_sem] app_rs
def mvY (y:Yard) (i k:Nat):Bool:=movesTo y.moves (i:Int) k
def alB (al:List Bool) (i:Nat):Bool:=al.getD i false
theorem alB_lt {al:List Bool} {i:Nat} (h:alB al i = true):i < al.length:=by
 unfold alB at h
 rw [List.getD_eq_getElem?_getD] at h
 by_cases hi:i < al.length
 ·exact hi
 ·rw [List.getElem?_eq_none (by omega)] at h; cases h
theorem alB_get {al:List Bool} {i:Nat} (h:i < al.length):alB al i = al[i]:=by
 unfold alB; rw [List.getD_eq_getElem?_getD,List.getElem?_eq_getElem h]; rfl
def labs (n:Nat) (out:Nat→Int):List Int:=(List.range n).map out
theorem labs_len (n:Nat) (out:Nat→Int):(labs n out).length = n:=by simp [labs]
theorem labs_at {n:Nat} (out:Nat→Int) {a:Nat} (h:a < n):((labs n out).flatMap cI)[a]? = some (I (out a)):=by
 rw [idx (xs:=labs n out) (k:=a) (by rw [labs_len]; exact h)]
 simp [labs]
theorem labs_set {n:Nat} (out:Nat→Int) (a:Nat) (v:Int):((labs n out).flatMap cI).set a (I v) = (labs n (put out a v)).flatMap cI:=by
 have e:∀ (l:List Int) (k:Nat),(l.flatMap cI).set k (I v) = (l.set k v).flatMap cI:=fun l => by
  induction l with
  | nil => intro k; rfl
  | cons x l ih =>
   intro k
   cases k with
   | zero => rfl
   | succ k =>
    show I x :: (l.flatMap cI).set k (I v) = _
    rw [ih]; rfl
 rw [e]
 congr 1
 refine List.ext_getElem (by simp [labs]) fun i h1 h2 => ?_
 rw [List.getElem_set]
 simp only [labs,List.getElem_map,List.getElem_range,put]
 by_cases c:a = i
 ·subst c; simp
 ·rw [if_neg c,if_neg (fun e => c e.symm)]
def QueueAt (T:Nat→V) (σ:Store) (nx t b7:Nat) (l:List Int):Prop:=∃ (b off:Nat) (cells:List Int),T t = .rs b off l.length∧σ b = some ⟨cells.flatMap cI,1,true⟩∧off + l.length = cells.length∧cells.drop off = l∧b < nx∧b ≠ b7
theorem queue_append {T:Nat→V} {σ:Store} {nx t b7:Nat} {l:List Int} (h:QueueAt T σ nx t b7 l) (hb:b7 < nx) (x:Int) (hl:l.length < 100000) :
  ∃ σ',appendTo (upd σ nx (some ⟨[I x],1,true⟩)) (nx + 1) 1 8 (T t) [I x] 1 = some (.rs (nx + 1) 0 (l.length + 1),σ',nx + 1 + 1)∧σ' (nx + 1) = some ⟨(l ++ [x]).flatMap cI,1,true⟩∧σ' b7 = σ b7:=by
 obtain ⟨b,off,cells,h1,h2,h3,h4,h5,h6⟩:=h
 have hm:l.length + 1 ≤ maxLen:=by unfold maxLen; omega
 have hcl:(cells.flatMap cI).length = cells.length:=cI_len cells
 refine ⟨upd (upd (upd σ nx (some ⟨[I x],1,true⟩)) b none) (nx + 1) (some ⟨(cells.flatMap cI).drop off ++ [I x],1,true⟩),?_,?_,?_⟩
 ·rw [h1,app_rs,upd_ne _ _ (by omega),h2]
  simp only [Option.bind_some]
  rw [if_neg (by decide),if_neg (by rw [hcl]; omega),if_pos ⟨by rw [hcl]; omega,trivial,hm,by omega,rfl⟩]
 ·rw [upd_same]
  have:(cells.flatMap cI).drop off = l.flatMap cI:=by
   rw [← h4]
   have e:∀ (k:Nat) (xs:List Int),(xs.flatMap cI).drop k = (xs.drop k).flatMap cI:=fun k => by
    induction k with
    | zero => intro xs; rfl
    | succ k ih =>
     intro xs
     cases xs with
     | nil => rfl
     | cons y ys => exact ih ys
   exact e _ _
  rw [this,List.flatMap_append]
  rfl
 ·rw [upd_ne _ _ (by omega),upd_ne _ _ (fun e => h6 e.symm),upd_ne _ _ (by omega)]
theorem queue_new {T:Nat→V} {σ:Store} {nx t b7 b:Nat} {l:List Int} (h1:T t = .rs b 0 l.length) (h2:σ b = some ⟨l.flatMap cI,1,true⟩) (h3:b < nx) (h4:b ≠ b7):QueueAt T σ nx t b7 l:=⟨b,0,l,h1,h2,by omega,rfl,h3,h4⟩
theorem queue_eq {T T':Nat→V} {σ:Store} {nx nx' t b7:Nat} {l:List Int} (h:QueueAt T σ nx t b7 l) (ht:T' t = T t) (hn:nx ≤ nx'):QueueAt T' σ nx' t b7 l:=by
 obtain ⟨b,off,cells,h1,h2,h3,h4,h5,h6⟩:=h
 exact ⟨b,off,cells,by rw [ht,h1],h2,h3,h4,by omega,h6⟩
theorem queue_upd {T:Nat→V} {σ:Store} {nx t b7:Nat} {l:List Int} (h:QueueAt T σ nx t b7 l) (x:Option Blk):QueueAt T (upd σ b7 x) nx t b7 l:=by
 obtain ⟨b,off,cells,h1,h2,h3,h4,h5,h6⟩:=h
 exact ⟨b,off,cells,h1,by rw [upd_ne _ _ h6]; exact h2,h3,h4,h5,h6⟩
theorem queue_alloc {T:Nat→V} {σ:Store} {nx t b7:Nat} {l:List Int} (h:QueueAt T σ nx t b7 l) (x:Option Blk):QueueAt T (upd σ nx x) (nx + 1) t b7 l:=by
 obtain ⟨b,off,cells,h1,h2,h3,h4,h5,h6⟩:=h
 exact ⟨b,off,cells,h1,by rw [upd_ne _ _ (by omega)]; exact h2,h3,h4,by omega,h6⟩
theorem queue_head {cells:List Int} {off:Nat} {x:Int} {l:List Int} (h:cells.drop off = x :: l):(cells.flatMap cI)[off]? = some (I x):=by
 have ho:off < cells.length:=by
  refine Classical.byContradiction fun hn => ?_
  rw [List.drop_of_length_le (by omega)] at h; cases h
 rw [idx (xs:=cells) (k:=off) ho]
 rw [List.drop_eq_getElem_cons ho] at h
 injection h with h _
 rw [h]
theorem queue_tail {cells:List Int} {off:Nat} {x:Int} {l:List Int} (h:cells.drop off = x :: l):cells.drop (off + 1) = l:=by
 rw [← List.drop_drop,h]; rfl
def toInts (l:List Nat):List Int:=l.map fun (i:Nat) => (i:Int)
theorem move_at {y:Yard} (hg:YardGood y) {j:Nat} (hj:j < y.moves.length):∃ a c:Nat,y.moves[j] = ⟨(a:Int),(c:Int)⟩∧a < y.stances.length∧c < y.stances.length:=by
 obtain ⟨_,_,_,hm⟩:=hg
 obtain ⟨h1,h2,h3,h4,_⟩:=(hm j hj).1
 refine ⟨y.moves[j].fr.toNat,y.moves[j].to.toNat,?_,by omega,by omega⟩
 rw [Int.toNat_of_nonneg h1,Int.toNat_of_nonneg h3]
theorem mvY_iff (y:Yard) (i k:Nat):mvY y i k = true ↔ ∃ j,∃ h:j < y.moves.length,y.moves[j] = ⟨(i:Int),(k:Int)⟩:=by
 unfold mvY movesTo
 rw [List.any_eq_true]
 constructor
 ·rintro ⟨m,hm,hp⟩
  obtain ⟨j,hj,rfl⟩:=List.getElem_of_mem hm
  rw [Bool.and_eq_true,beq_iff_eq,beq_iff_eq] at hp
  refine ⟨j,hj,?_⟩
  rw [← hp.1,← hp.2]
 ·rintro ⟨j,hj,e⟩
  exact ⟨_,List.getElem_mem hj,by rw [e]; simp⟩
noncomputable def stp (y:Yard) (al:List Bool) (to:Int) (i:Nat):Int:=if 0 ≤ to∧to < (y.stances.length:Int) then dst (mvY y) (alB al) to.toNat i else -1
theorem stp_no {y:Yard} {al:List Bool} {to:Int} (h:¬(0 ≤ to∧to < (y.stances.length:Int)∧alB al to.toNat = true)) (i:Nat):stp y al to i = -1:=by
 unfold stp
 split
 ·rename_i c
  refine dst_none fun k hk => h ⟨c.1,c.2,hk.lst⟩
 ·rfl
theorem labs_congr {n:Nat} {f g:Nat→Int} (h:∀ i,i < n→f i = g i):labs n f = labs n g:=List.map_congr_left fun i hi => h i (by simpa using hi)
theorem labs_const (n:Nat) (v:Int):labs n (fun _ => v) = List.replicate n v:=by
 unfold labs
 refine List.ext_getElem (by simp) fun i h1 h2 => by simp
theorem toInts_len (l:List Nat):(toInts l).length = l.length:=by simp [toInts]
theorem toInts_drop (l:List Nat) {p:Nat} (h:p < l.length):toInts (l.drop p) = (l[p]:Int) :: toInts (l.drop (p + 1)):=by
 rw [List.drop_eq_getElem_cons h]; rfl
theorem labs_dst {y:Yard} {al:List Bool} {t:Nat} {all:List Nat} {p:Nat} {out:Nat→Int} (h:Bfs (mvY y) (alB al) t all p out) (hp:all.length ≤ p) (ht:t < y.stances.length):labs y.stances.length out = labs y.stances.length (stp y al (t:Int)) :=
 labs_congr fun i _ => by
  unfold stp
  rw [if_pos (by omega),Int.toNat_natCast]
  exact (h.fin hp i).symm
set_option maxHeartbeats 4000000 in
set_option maxRecDepth 10000 in
theorem iSteps (y:Yard) (hg:YardGood y) (hne:y.stances.length ≠ 0) (to:Int) (al:List Bool) (hal:al.length = y.stances.length) :
  fn Tryz.prog convS extS 24 [.tp (cYard y) 0,I to,LL cBo al] = some (LI (labs y.stances.length (stp y al to))):=by
 have hn6:=hg.1
 have hm12:=hg.2.1
 obtain ⟨n,en⟩:∃ n,n = y.stances.length:=⟨_,rfl⟩
 obtain ⟨σ1,nx1,k1,hn1,s1⟩:=iRepeatO n (by omega) (by omega) 1
 have o1:Own σ1 1 (.rs 1 0 n) (LI (List.replicate n (-1))) [1]:=by
  have:=own_of_rs (d:=0) s1 (st:=1) (by simp)
  rwa [List.length_replicate] at this
 have g1:=fun d => o1.gather (d':=d + 1) (by omega)
 have j1:∀ σ,joinS 1 σ σ1 [1] 1 = σ1 1:=fun σ => join_in (by omega) (by simp)
 rw [fn_eq,ev_eqQ (rs:=[.tmp 6]) [12] rfl Tryz.func24 rfl rfl (by kernel_rfl) (by kernel_rfl)]
 have fin:∀ (σ:Store) (out:Nat→Int) (d:Nat),σ 1 = some ⟨(labs n out).flatMap cI,1,true⟩→strip σ (d + 1) (.rs 1 0 n) = some (LI (labs n out),[1]):=fun σ out d h => ints_strip h (labs_len n out) d
 rw [← labs_const] at s1
 have s2:∀ σ,joinS 1 σ σ1 [1] 1 = some ⟨(labs n (fun _ => -1)).flatMap cI,1,true⟩:=fun σ => (j1 σ).trans s1
 rw [← en]
 have no:(∀ i,stp y al to i = -1)→some (LI (labs n (fun _ => -1))) = some (LI (labs n (stp y al to))):=fun h => by rw [labs_congr (f:=fun _ => -1) (g:=stp y al to) (fun i _ => (h i).symm)]
 by_cases c1:to < 0
 ·rw [← no fun i => stp_no (fun h => by omega) i]
  have f0:=fun σ d => fin (joinS 1 σ σ1 [1]) (fun _ => -1) d (s2 σ)
  simp only [go_sem,← en,k1,g1,s2,c1,f0]
 by_cases c2:(n:Int) ≤ to
 ·rw [← no fun i => stp_no (fun h => by omega) i]
  have f0:=fun σ d => fin (joinS 1 σ σ1 [1]) (fun _ => -1) d (s2 σ)
  simp only [go_sem,← en,k1,g1,s2,c1,c2,f0]
 obtain ⟨t,rfl⟩:∃ t:Nat,to = (t:Int):=⟨to.toNat,by omega⟩
 have ht:t < n:=by omega
 have d1:(t:Int) < (n:Int):=by omega
 have d2:(0:Int) ≤ (t:Int):=by omega
 have hta:t < al.length:=by omega
 have d3:(al.flatMap cBo)[t]? = some (Bo (alB al t)):=by rw [alB_get hta]; exact slot1 (fun b => Bo b) al t hta
 have d4:=slots_len (c:=cBo) (s:=1) (fun _ => rfl) al
 have d5:=slot_ne (c:=cBo) (s:=1) (fun _ => rfl) (by omega) al t hta
 have d6:(t:Int) < (al.length:Int):=by omega
 cases hat:alB al t with
 | false =>
  rw [hat] at d3
  rw [← no fun i => stp_no (fun h => by rw [Int.toNat_natCast] at h; rw [hat] at h; cases h.2.2) i]
  have f0:=fun σ d => fin (joinS 1 σ σ1 [1]) (fun _ => -1) d (s2 σ)
  simp only [go_sem,← en,k1,g1,s2,c1,c2,d1,d2,d3,d4,d5,d6,hta,f0]
 | true =>
  rw [hat] at d3
  have e1:=labs_at (n:=n) (fun _ => -1) ht
  have e2:=labs_set (n:=n) (fun _ => -1) t 0
  have e3:((labs n fun _ => (-1:Int)).flatMap cI).length = n:=by rw [cI_len,labs_len]
  have nz:¬nx1 = 1:=by omega
  have nz':¬1 = nx1:=by omega
  have nl:1 < nx1:=hn1
  simp only [go_sem,← en,k1,g1,s2,c1,c2,d1,d2,d3,d4,d5,d6,hta,e1,e2,e3,ht,nz,nz',nl]
  generalize hL:evLoopI _ _ = w
  obtain ⟨x,rfl,T,σ,nx,rfl,t7,out,hs,hout⟩:=loop_rule hL (fun m st => st.T 0 = .tp (cYard y) 0∧st.T 2 = LL cBo al∧st.T 7 = .rs 1 0 n∧1 < st.nx∧∃ all p out,Bfs (mvY y) (alB al) t all p out∧p ≤ all.length∧m + p = n∧st.σ 1 = some ⟨(labs n out).flatMap cI,1,true⟩ ∧
    ((p = all.length∧st.T 8 = .ts [] 0)∨(p < all.length∧QueueAt st.T st.σ st.nx 8 1 (toInts (all.drop p)))))
   (fun x => ∃ T σ nx,x = (.exit 0,⟨T,σ,nx⟩)∧T 7 = .rs 1 0 n∧∃ out,σ 1 = some ⟨(labs n out).flatMap cI,1,true⟩∧labs n out = labs n (stp y al (t:Int))) (by
    clear hL
    rintro m ⟨T,σ,nx⟩ ⟨t0,t2,t7,hnx,all,p,out,hB,hp,hm,hs,hq⟩
    simp only at t0 t2 t7 hnx hs hq
    rcases hq with ⟨rfl,t8⟩ | ⟨hp,hq⟩
    ·refine .inr ⟨_,by simp only [go_sem,t8]; rfl,by simp,_,_,_,rfl,by simp only [go_sem,t7],out,hs,?_⟩
     rw [en]
     exact labs_dst hB (Nat.le_refl _) (by omega)
    ·have hbd:=hB.bound (n:=n) fun i hi => by have:=alB_lt hi; omega
     obtain ⟨h,eh⟩:∃ h,h = all[p]:=⟨_,rfl⟩
     have hq0:=hq
     rw [toInts_drop all hp,← eh] at hq0
     obtain ⟨b,off,cells,q1,q2,q3,q4,q5,q6⟩:=hq0
     have q7:=queue_head q4
     have p1:((h:Int) :: toInts (all.drop (p + 1))).length = all.length - p:=by rw [List.length_cons,toInts_len,List.length_drop]; omega
     rw [p1] at q1
     have p2:(0:Int) < ((all.length - p:Nat):Int):=by omega
     refine step_of ?_
     conv =>
      enter [1,r,1,1]
      simp only [go_sem,t0,t2,t7,q1,p2]
     generalize hL:evLoopI _ _ = w
     obtain ⟨r,rfl,T1,σ',nx',rfl,t0,t2,t7,hnx',all',out',hB',hp',eh',hs',hq',hdone⟩:=count_rule hL y.moves.length (fun j st => st.T 0 = .tp (cYard y) 0∧st.T 2 = LL cBo al∧st.T 7 = .rs 1 0 n∧st.T 47 = LL cMove y.moves∧st.T 48 = I y.moves.length∧st.T 49 = I j∧1 < st.nx ∧
       ∃ all out,Bfs (mvY y) (alB al) t all p out∧∃ hp:p < all.length,h = all[p]∧st.σ 1 = some ⟨(labs n out).flatMap cI,1,true⟩∧QueueAt st.T st.σ st.nx 8 1 (toInts (all.drop p))∧∀ i (hi:i < y.moves.length),i < j→∀ a:Nat,y.moves[i] = ⟨(a:Int),(h:Int)⟩→alB al a = true→a ∈ all)
      (fun r => ∃ T σ nx,r = (.exit 2,⟨T,σ,nx⟩)∧T 0 = .tp (cYard y) 0∧T 2 = LL cBo al∧T 7 = .rs 1 0 n∧1 < nx ∧
       ∃ all out,Bfs (mvY y) (alB al) t all p out∧∃ hp:p < all.length,h = all[p]∧σ 1 = some ⟨(labs n out).flatMap cI,1,true⟩∧QueueAt T σ nx 8 1 (toInts (all.drop p))∧∀ i (hi:i < y.moves.length),∀ a:Nat,y.moves[i] = ⟨(a:Int),(h:Int)⟩→alB al a = true→a ∈ all) (by
       clear hL
       rintro j ⟨T,σ,nx⟩ hj ⟨t0,t2,t7,t47,t48,t49,hnx,all,out,hB,hp,eh,hs,hq,hd⟩
       simp only at t0 t2 t7 t47 t48 t49 hnx hs hq
       have hbd:=hB.bound (n:=n) fun i hi => by have:=alB_lt hi; omega
       obtain ⟨a,c,e,ha,hc⟩:=move_at hg hj
       rw [← en] at ha hc
       have hq0:=hq
       rw [toInts_drop all hp,← eh] at hq0
       obtain ⟨b,off,cells,q1,q2,q3,q4,q5,q6⟩:=hq0
       have q7:=queue_head q4
       have p1:((h:Int) :: toInts (all.drop (p + 1))).length = all.length - p:=by rw [List.length_cons,toInts_len,List.length_drop]; omega
       rw [p1] at q1
       have p2:(0:Int) < ((all.length - p:Nat):Int):=by omega
       have p3:0 < all.length - p:=by omega
       have p4:(0:Int) ≤ 0:=by omega
       have p5:(0:Int).toNat = 0:=rfl
       have f1:(j:Int) < (y.moves.length:Int):=by omega
       have f2:(0:Int) ≤ (j:Int):=by omega
       have f3:=wrap_id (n:=(j:Int) + 1) (by omega) (by omega)
       have f4:=slot (c:=cMove) (s:=2) (fun _ => rfl) y.moves j hj
       rw [e] at f4
       have f5:=slots_len (c:=cMove) (s:=2) (fun _ => rfl) y.moves
       have f6:j * 2 + 2 ≤ y.moves.length * 2:=by omega
       have f9:=slot_ne (c:=cMove) (s:=2) (fun _ => rfl) (by omega) y.moves j hj
       obtain ⟨σ0,hσ0⟩:∃ σ0,σ0 = upd σ nx (some ⟨cMove ⟨(a:Int),(c:Int)⟩,0,true⟩):=⟨_,rfl⟩
       have b0:σ0 nx = some ⟨cMove ⟨(a:Int),(c:Int)⟩,0,true⟩:=by rw [hσ0,upd_same]
       have b1:σ0 1 = some ⟨(labs n out).flatMap cI,1,true⟩:=by rw [hσ0,upd_ne _ _ (by omega)]; exact hs
       have b2:σ0 b = some ⟨cells.flatMap cI,1,true⟩:=by rw [hσ0,upd_ne _ _ (by omega)]; exact q2
       have z1:b < nx + 1:=by omega
       have z2:nx < nx + 1:=by omega
       have z3:1 < nx + 1:=by omega
       have ic:(c:Int) < (n:Int):=by omega
       have ic0:(0:Int) ≤ (c:Int):=by omega
       have ia:(a:Int) < (n:Int):=by omega
       have ia0:(0:Int) ≤ (a:Int):=by omega
       have iaL:(a:Int) < (al.length:Int):=by omega
       have haL:a < al.length:=by omega
       have la:=labs_at out ha
       have lc:=labs_at out hc
       have ll:((labs n out).flatMap cI).length = n:=by rw [cI_len,labs_len]
       have v3:(al.flatMap cBo)[a]? = some (Bo (alB al a)):=by rw [alB_get haL]; exact slot1 (fun b => Bo b) al a haL
       have v4:=slots_len (c:=cBo) (s:=1) (fun _ => rfl) al
       have v5:=slot_ne (c:=cBo) (s:=1) (fun _ => rfl) (by omega) al a haL
       have hq1:QueueAt T σ0 (nx + 1) 8 1 (toInts (all.drop p)):=by rw [hσ0]; exact queue_alloc hq _
       by_cases ech:c = h
       ·have c1:((c:Int) == (h:Int)) = true:=by simp [ech]
        have ea:∀ (a':Nat),y.moves[j] = ⟨(a':Int),(h:Int)⟩→a' = a:=fun a' e' => by
         rw [e] at e'
         simp only [TV.Move.mk.injEq] at e'
         omega
        cases hla:alB al a with
        | false =>
         rw [hla] at v3
         refine .inl ⟨_,by simp only [go_sem,t0,t2,t7,t47,t48,t49,f1,f2,f3,f4,f5,f6,f9,← hσ0,b0,b1,b2,q1,q7,z1,z2,z3,p2,p3,p4,p5,c1,ic,ic0,ia,ia0,iaL,haL,ha,hc,v3,v4,v5,la,lc]; rfl,?_⟩
         simp only [go_sem,t0,t2,t7,t47,t48]
         refine ⟨rfl,by omega,all,out,hB,hp,eh,b1,queue_eq hq1 (by simp only [go_sem]) (Nat.le_refl _),fun i hi hij a' e' hl' => ?_⟩
         by_cases hij':i = j
         ·subst hij'
          rw [ea a' e',hla] at hl'; cases hl'
         ·exact hd i hi (by omega) a' e' hl'
        | true =>
         rw [hla] at v3
         by_cases hm:a ∈ all
         ·have o1:¬out a < 0:=fun hlt => (hB.lo a).mp hlt hm
          refine .inl ⟨_,by simp only [go_sem,t0,t2,t7,t47,t48,t49,f1,f2,f3,f4,f5,f6,f9,← hσ0,b0,b1,b2,q1,q7,z1,z2,z3,p2,p3,p4,p5,c1,ic,ic0,ia,ia0,iaL,haL,ha,hc,v3,v4,v5,la,lc,o1]; rfl,?_⟩
          simp only [go_sem,t0,t2,t7,t47,t48]
          refine ⟨rfl,by omega,all,out,hB,hp,eh,b1,queue_eq hq1 (by simp only [go_sem]) (Nat.le_refl _),fun i hi hij a' e' hl' => ?_⟩
          by_cases hij':i = j
          ·subst hij'
           rw [ea a' e']; exact hm
          ·exact hd i hi (by omega) a' e' hl'
         ·have o1:out a < 0:=(hB.lo a).mpr hm
          have hmvs:mvY y a all[p] = true:=by
           rw [← eh]
           exact (mvY_iff y a h).mpr ⟨j,hj,by rw [e,ech]⟩
          have hB2:=hB.add hp hm hla hmvs
          rw [← eh,← ech] at hB2
          have oc:0 ≤ out c∧out c < 10:=by
           have hcm:c ∈ all:=by rw [ech,eh]; exact List.getElem_mem hp
           obtain ⟨kk,hk1,_⟩:=hB.way c hcm
           have:=hB.bnd c hcm
           omega
          have w4:=wrap_id (n:=out c + 1) (by omega) (by omega)
          have st:=labs_set (n:=n) out a (out c + 1)
          obtain ⟨σ2,hσ2⟩:∃ σ2,σ2 = upd σ0 1 (some ⟨(labs n (put out a (out c + 1))).flatMap cI,1,true⟩):=⟨_,rfl⟩
          have hq2:QueueAt T σ2 (nx + 1) 8 1 (toInts (all.drop p)):=by rw [hσ2]; exact queue_upd hq1 _
          have b3:σ2 nx = some ⟨cMove ⟨(a:Int),(c:Int)⟩,0,true⟩:=by rw [hσ2,upd_ne _ _ (by omega)]; exact b0
          obtain ⟨σ3,ha3,hs3,hf3⟩:=queue_append hq2 (by omega) (a:Int) (by rw [toInts_len,List.length_drop]; omega)
          rw [toInts_len,List.length_drop] at ha3
          rw [q1] at ha3
          refine .inl ⟨_,by simp only [go_sem,t0,t2,t7,t47,t48,t49,f1,f2,f3,f4,f5,f6,f9,← hσ0,b0,b1,b2,q1,q7,z1,z2,z3,p2,p3,p4,p5,c1,ic,ic0,ia,ia0,iaL,haL,ha,hc,v3,v4,v5,la,lc,ll,o1,w4,st,← hσ2,b3,ha3]; rfl,?_⟩
          simp only [go_sem,t0,t2,t7,t47,t48]
          have hp2:p < (all ++ [a]).length:=by rw [List.length_append]; omega
          refine ⟨rfl,by omega,all ++ [a],_,hB2,hp2,by rw [List.getElem_append_left hp]; exact eh,?_,?_,fun i hi hij a' e' hl' => ?_⟩
          ·rw [hf3,hσ2,upd_same]
          ·have ed:toInts ((all ++ [a]).drop p) = toInts (all.drop p) ++ [(a:Int)]:=by
            rw [List.drop_append_of_le_length (by omega)]; simp [toInts]
           rw [ed]
           refine queue_new (b:=nx + 1 + 1) ?_ hs3 (by omega) (by omega)
           rw [List.length_append,toInts_len,List.length_drop]
           simp only [go_sem]
          ·by_cases hij':i = j
           ·subst hij'
            rw [ea a' e']; simp
           ·exact List.mem_append_left _ (hd i hi (by omega) a' e' hl')
       ·have c1:((c:Int) == (h:Int)) = false:=by rw [beq_eq_false_iff_ne]; omega
        refine .inl ⟨_,by simp only [go_sem,t0,t2,t7,t47,t48,t49,f1,f2,f3,f4,f5,f6,f9,← hσ0,b0,b1,b2,q1,q7,z1,z2,z3,p2,p3,p4,p5,c1]; rfl,?_⟩
        simp only [go_sem,t0,t2,t7,t47,t48]
        refine ⟨rfl,by omega,all,out,hB,hp,eh,b1,queue_eq hq1 (by simp only [go_sem]) (Nat.le_refl _),fun i hi hij a' e' hl' => ?_⟩
        by_cases hij':i = j
        ·subst hij'
         rw [e] at e'
         simp only [TV.Move.mk.injEq] at e'
         omega
        ·exact hd i hi (by omega) a' e' hl') (by
       clear hL
       rintro ⟨T,σ,nx⟩ ⟨t0,t2,t7,t47,t48,t49,hnx,all,out,hB,hp,eh,hs,hq,hd⟩
       simp only at t0 t2 t7 t47 t48 t49 hnx hs hq
       refine ⟨_,by simp only [go_sem,t48,t49,Int.lt_irrefl]; rfl,by simp,_,_,_,rfl,by simp only [go_sem,t0],by simp only [go_sem,t2],by simp only [go_sem,t7],hnx,all,out,hB,hp,eh,hs,queue_eq hq (by simp only [go_sem]) (Nat.le_refl _),fun i hi => hd i hi hi⟩) (by
       simp only [go_sem,t0,t2,t7]
       exact ⟨hnx,all,out,hB,hp,eh,hs,queue_eq hq (by simp only [go_sem]) (Nat.le_refl _),fun i hi h0 => absurd h0 (Nat.not_lt_zero _)⟩)
     have hB2:=hB'.next hp' fun i hi hmv => by
      obtain ⟨j,hj,ej⟩:=(mvY_iff y i all'[p]).mp hmv
      exact hdone j hj i (by rw [ej,eh']) hi
     have hbd':=hB'.bound (n:=n) fun i hi => by have:=alB_lt hi; omega
     have hq2:=hq'
     rw [toInts_drop all' hp',← eh'] at hq2
     obtain ⟨b',off',cells',r1,r2,r3,r4,r5,r6⟩:=hq2
     have p1':((h:Int) :: toInts (all'.drop (p + 1))).length = all'.length - p:=by rw [List.length_cons,toInts_len,List.length_drop]; omega
     rw [p1'] at r1 r3
     have r7:((cells'.flatMap cI)).length = cells'.length:=cI_len _
     have r8:off' + (all'.length - p) ≤ cells'.length:=by omega
     have r9:1 ≤ all'.length - p:=by omega
     have r10:¬(1:Nat) = 0:=by decide
     have r11:(0:Int) ≤ 1:=by decide
     have r12:(1:Int).toNat = 1:=rfl
     by_cases hl:all'.length - p = 1
     ·rw [hl] at r1 r8
      refine ⟨_,by simp only [go_sem,r1,r2,r7,r8,r10,r11,r12,Nat.le_refl]; rfl,.inl ⟨_,rfl,m - 1,by omega,?_⟩⟩
      simp only [go_sem,t0,t2,t7]
      exact ⟨hnx',all',p + 1,out',hB2,by omega,by omega,hs',.inl (by omega)⟩
     ·have hl':¬1 = all'.length - p:=fun e => hl e.symm
      refine ⟨_,by simp only [go_sem,r1,r2,r7,r8,r9,r10,r11,r12,hl']; rfl,.inl ⟨_,rfl,m - 1,by omega,?_⟩⟩
      simp only [go_sem,t0,t2,t7]
      refine ⟨hnx',all',p + 1,out',hB2,by omega,by omega,hs',.inr ⟨by omega,b',off' + 1,cells',?_,r2,?_,queue_tail r4,r5,r6⟩⟩
      ·simp only [go_sem]
       rw [toInts_len,List.length_drop]
       congr 1
      ·rw [toInts_len,List.length_drop]; omega) n (by
    simp only [go_sem]
    refine ⟨by omega,[t],0,_,bfs_start hat,by simp,by omega,?_,.inr ⟨by simp,?_⟩⟩
    ·rw [upd_ne _ _ (by omega),upd_same]
    ·refine queue_new (b:=nx1) (by simp only [go_sem]; rfl) ?_ (by omega) (by omega)
     simp only [go_sem]
     rfl)
  have f0:=fun d => fin σ out d hs
  simp only [go_sem,t7,f0,hout]
end Go.Proofs.YtoccmbjfkbemcaaGreat
namespace Go.Proofs.YtoccmbjfkbemcaaGreat
open Go Go.TV
attribute [-go_sem] app_rs
def del (s:Structure) (k:Nat):Structure:=⟨s.joints,s.members.eraseIdx k⟩
theorem erase_len_le {α:Type} (l:List α) (k:Nat):(l.eraseIdx k).length ≤ l.length:=List.length_eraseIdx_le l k
theorem del_ok {s:Structure} (h:StrOk s) (k:Nat):StrOk (del s k) :=
 ⟨h.1,Nat.le_trans (erase_len_le _ _) h.2.1,h.2.2.1,fun m hm => h.2.2.2 m (List.mem_of_mem_eraseIdx hm)⟩
theorem del_okS {s:Structure} (h:okStructure s) (k:Nat):okStructure (del s k) :=
 ⟨h.1,fun m hm => h.2.1 m (List.mem_of_mem_eraseIdx hm),Nat.le_trans (Nat.mul_le_mul_right _ (erase_len_le _ _)) h.2.2.1,Nat.le_trans (erase_len_le _ _) h.2.2.2⟩
theorem erase_lim {n k:Nat} {w:List Int} (h:LimGood n w) (hk:k < n):LimGood (n - 1) (w.eraseIdx k) :=
 ⟨by rw [List.length_eraseIdx_of_lt (by rw [h.1]; exact hk),h.1],fun x hx => h.2 x (List.mem_of_mem_eraseIdx hx)⟩
def keepM (ms:List Member) (k j:Nat):List Member:=(ms.take j).eraseIdx k
theorem keep_yes {ms:List Member} {k j:Nat} (hj:j < ms.length) (h:j ≠ k):keepM ms k (j + 1) = keepM ms k j ++ [ms[j]]:=by
 unfold keepM
 rw [take_snoc hj]
 have hl:(ms.take j).length = j:=by rw [List.length_take]; omega
 by_cases hkj:k < j
 ·rw [List.eraseIdx_append_of_lt_length (by omega)]
 ·have e1:[ms[j]].eraseIdx (k - (ms.take j).length) = [ms[j]]:=List.eraseIdx_of_length_le (by rw [hl,List.length_singleton]; omega)
  have e2:(ms.take j).eraseIdx k = ms.take j:=List.eraseIdx_of_length_le (by omega)
  rw [List.eraseIdx_append_of_length_le (by omega),e1,e2]
theorem keep_no {ms:List Member} {k:Nat} (hk:k < ms.length):keepM ms k (k + 1) = keepM ms k k:=by
 unfold keepM
 have hl:(ms.take k).length = k:=by rw [List.length_take]; omega
 have e2:(ms.take k).eraseIdx k = ms.take k:=List.eraseIdx_of_length_le (by omega)
 rw [take_snoc hk,List.eraseIdx_append_of_length_le (by omega),hl,Nat.sub_self,e2]
 simp
theorem keep_len (ms:List Member) (k j:Nat):(keepM ms k j).length ≤ j:=by
 unfold keepM
 have:=erase_len_le (ms.take j) k
 rw [List.length_take] at this
 omega
theorem ownL_scs (σ:Store) (d:Nat):∀ {cells:List V},(cells.all isSc) = true→ownL (own σ d) cells = some (cells,[])
 | [],_ => rfl
 | v :: cells,h => by
  rw [List.all_cons,Bool.and_eq_true] at h
  unfold ownL
  rw [ownL_scs σ d h.2]
  cases v <;> first | (cases d <;> rfl) | cases h.1
theorem joints_sc (js:List Joint):((js.flatMap cJoint).all isSc) = true:=by
 induction js with
 | nil => rfl
 | cons j js ih => exact ih
theorem joints_cell (js:List Joint):((js.flatMap cJoint).all isCell) = true:=by
 induction js with
 | nil => rfl
 | cons j js ih => exact ih
theorem cloneJO (js:List Joint) (h:js.length ≤ 1000000) (nx:Nat):∃ v σ1 nx1 ids,cloneK 4 [LL cJoint js] noStore nx = some (v,σ1,nx1)∧nx ≤ nx1∧Own σ1 1 v (LL cJoint js) ids∧∀ b ∈ ids,nx ≤ b∧b < nx1:=by
 have hl:=slots_len (c:=cJoint) (s:=4) (fun _ => rfl) js
 have e:cloneK 4 [LL cJoint js] noStore nx = if js.length = 0 then some (.nil,noStore,nx) else some (.rs nx 0 js.length,evBox noStore nx (js.flatMap cJoint) 4,nx + 1):=by
  show (if (js.flatMap cJoint).length = js.length * 4∧js.length ≤ 1000000∧_ then _ else _) = _
  rw [if_pos ⟨hl,h,joints_cell js⟩]
 rw [e]
 by_cases hz:js.length = 0
 ·have:js = []:=List.eq_nil_of_length_eq_zero hz
  subst this
  exact ⟨.nil,noStore,nx,[],rfl,Nat.le_refl _,own_of_nil _ _,by simp⟩
 ·rw [if_neg hz]
  refine ⟨_,_,_,[nx],rfl,by omega,⟨?_,by simp⟩,by simp⟩
  have k0:=ownL_scs (evBox noStore nx (js.flatMap cJoint) 4) 0 (joints_sc js)
  simp only [own,evBox,upd_same] at k0 ⊢
  rw [if_pos ⟨trivial,trivial,hl.symm⟩,k0]
theorem cell_of_own {σ:Store} {d:Nat} {α:Type} {c:α→List V} {v:V} {xs:List α} {ids:List Nat} (h:Own σ (d + 1) v (LL c xs) ids):isCell v = true:=by
 obtain ⟨h,_⟩:=h
 cases v <;> simp only [own] at h <;> first | rfl | (cases h; done) | (split at h <;> simp at h)
set_option maxRecDepth 10000 in
theorem iWithout (s:Structure) (hj:s.joints.length ≤ 1000000) (hm:s.members.length ≤ 1000) (k:Nat) (hk:k < s.members.length):fn Tryz.prog convS extS 58 [.agg (cStructure s),.ts [I k] 1] = some (.agg (cStructure (del s k))):=by
 obtain ⟨v,σ1,n1,ids,k1,hn1,o1,hi1⟩:=cloneJO s.joints hj 2
 have g1:=fun d => o1.gather (d':=d + 1) (by omega)
 have c1:=cell_of_own o1
 have c2:=cells_of_cell c1
 obtain ⟨σa,ea⟩:∃ σa,σa = joinS 2 (upd (upd noStore 0 (some ⟨cStructure s,0,true⟩)) 1 (some ⟨[.nil,.nil],0,true⟩)) σ1 ids:=⟨_,rfl⟩
 have oa:Own σa 1 v (LL cJoint s.joints) ids:=by rw [ea]; exact o1.join fun b hb => (hi1 b hb).1
 have a0:σa 0 = some ⟨cStructure s,0,true⟩:=by rw [ea,join_lt (by omega)]; rfl
 have a1:σa 1 = some ⟨[.nil,.nil],0,true⟩:=by rw [ea,join_lt (by omega)]; rfl
 rw [fn_eq,ev_eqQ (rs:=[.cell 4 45]) [] rfl Tryz.func58 rfl rfl (by kernel_rfl) (by kernel_rfl)]
 have n0:¬n1 = 0:=by omega
 have n0':¬0 = n1:=by omega
 have n2:¬n1 = 1:=by omega
 have n2':¬1 = n1:=by omega
 simp only [go_sem,k1,g1,c1,c2,← ea,a0,a1,n0,n0',n2,n2']
 generalize hL:evLoopI _ _ = y
 obtain ⟨x,rfl,T,σ,nx,rfl,t4,t5,w,h1,hb5,o2,hg,hw⟩:=count_rule hL s.members.length (fun j st => st.T 1 = .ts [I k] 1∧st.T 4 = .rp 1 0∧st.T 5 = .rp n1 0∧st.T 13 = LL cMember s.members∧st.T 14 = I s.members.length∧st.T 15 = I j∧n1 < st.nx∧∃ w,st.σ 1 = some ⟨[.nil,.nil],0,true⟩∧st.σ n1 = some ⟨[v,w],0,true⟩∧Own st.σ 1 v (LL cJoint s.joints) ids∧GrowG cMember 3 (fun _ => w) st.σ st.nx 0 (keepM s.members k j)∧∀ b o l,w = .rs b o l→n1 < b)
  (fun x => ∃ T σ nx,x = (.exit 0,⟨T,σ,nx⟩)∧T 4 = .rp 1 0∧T 5 = .rp n1 0∧∃ w,σ 1 = some ⟨[.nil,.nil],0,true⟩∧σ n1 = some ⟨[v,w],0,true⟩∧Own σ 1 v (LL cJoint s.joints) ids∧GrowG cMember 3 (fun _ => w) σ nx 0 (keepM s.members k s.members.length)∧∀ b o l,w = .rs b o l→n1 < b) (by
   clear hL
   rintro j ⟨T,σ,nx⟩ hj ⟨t1,t4,t5,t13,t14,t15,hnx,w,h1,hb5,o2,hg,hw⟩
   simp only at t1 t4 t5 t13 t14 t15 hnx h1 hb5 o2 hg
   have f1:(j:Int) < (s.members.length:Int):=by omega
   have f2:(0:Int) ≤ (j:Int):=by omega
   have f3:=wrap_id (n:=(j:Int) + 1) (by omega) (by omega)
   have f4:=slot (c:=cMember) (s:=3) (fun _ => rfl) s.members j hj
   have f5:=slots_len (c:=cMember) (s:=3) (fun _ => rfl) s.members
   have f6:j * 3 + 3 ≤ s.members.length * 3:=by omega
   have f9:=slot_ne (c:=cMember) (s:=3) (fun _ => rfl) (by omega) s.members j hj
   have k2:=iHas [(k:Int)] (j:Int) (by simp)
   have hle:=keep_len s.members k j
   have z1:¬n1 = nx:=by omega
   have z2:¬nx = n1:=by omega
   have z3:¬1 = nx:=by omega
   have o3:=fun x => (Own.upd (σ:=σ) (d:=1) (v:=v) (t:=LL cJoint s.joints) (ids:=ids) (c:=nx) (x:=x) (fun hb => by have:=(hi1 nx hb).2; omega)).symm ▸ o2
   obtain ⟨m1,em⟩:∃ m1,m1 = s.members[j]:=⟨_,rfl⟩
   rw [← em] at f4
   by_cases hjk:j = k
   ·have km:decide ((j:Int) ∈ [(k:Int)]) = true:=by rw [hjk]; simp
    rw [km] at k2
    have k2':fn Tryz.prog conv ext 69 [.ts [I k] 1,I j] = some (Bo true):=k2
    refine .inl ⟨_,by simp only [go_sem,t1,t4,t5,t13,t14,t15,f1,f2,f3,f4,f5,f6,f9,hj,k2']; rfl,?_⟩
    simp only [go_sem,t1,t4,t5,t13,t14,z1,z2,z3,h1,hb5]
    have ek:keepM s.members k (j + 1) = keepM s.members k j:=by subst hjk; exact keep_no hj
    rw [ek]
    exact ⟨rfl,by omega,w,rfl,o3 _,growG_alloc hg _,hw⟩
   ·have km:decide ((j:Int) ∈ [(k:Int)]) = false:=by simp; omega
    rw [km] at k2
    have k2':fn Tryz.prog conv ext 69 [.ts [I k] 1,I j] = some (Bo false):=k2
    have hg1:=growG_alloc hg (some ⟨cMember m1,0,true⟩)
    obtain ⟨σ',ha,hs,hfr⟩:=growG_append (c:=cMember) (s:=3) (bytes:=24) (fun _ => rfl) (fun _ => rfl) (by decide) hg1 m1 (by omega) (by decide)
    have y1:∀ q,q < nx→(∀ b o l,w = .rs b o l→q ≠ b)→σ' q = σ q:=fun q hq hne => by
     rw [hfr q (by omega) (fun b o l h => hne b o l h),upd_ne _ _ (by omega)]
    have y2:σ' n1 = some ⟨[v,w],0,true⟩:=by rw [y1 n1 hnx (fun b o l h e => by have:=hw b o l h; omega)]; exact hb5
    have y3:σ' 1 = some ⟨[.nil,.nil],0,true⟩:=by rw [y1 1 (by omega) (fun b o l h e => by have:=hw b o l h; omega)]; exact h1
    have o4:Own σ' 1 v (LL cJoint s.joints) ids:=o2.frame fun q hq => y1 q (by have:=(hi1 q hq).2; omega) (fun b o l h e => by have:=hw b o l h; have:=(hi1 q hq).2; omega)
    refine .inl ⟨_,by simp only [go_sem,t1,t4,t5,t13,t14,t15,f1,f2,f3,f4,f5,f6,f9,hj,k2',z1,z2,z3,hb5,ha,y2]; rfl,?_⟩
    simp only [go_sem,t1,t4,t5,t13,t14]
    rw [keep_yes hj hjk,← em]
    refine ⟨rfl,by omega,_,?_,rfl,?_,?_,?_⟩
    ·rw [upd_ne _ _ (by omega)]; exact y3
    ·exact (Own.upd (fun hb => by have:=(hi1 n1 hb).2; omega)).symm ▸ o4
    ·refine .inr ⟨nx + 1 + 1,by rw [List.length_append]; rfl,by simp,?_,by omega⟩
     rw [upd_ne _ _ (by omega)]; exact hs
    ·intro b o l hb
     cases hb; omega) (by
   clear hL
   rintro ⟨T,σ,nx⟩ ⟨t1,t4,t5,t13,t14,t15,hnx,w,h1,hb5,o2,hg,hw⟩
   simp only at t1 t4 t5 t13 t14 t15 hnx h1 hb5 o2 hg
   exact ⟨_,by simp only [go_sem,t14,t15,Int.lt_irrefl]; rfl,by simp,_,_,_,rfl,by simp only [go_sem,t4],by simp only [go_sem,t5],w,h1,hb5,o2,hg,hw⟩) (by
   simp only [go_sem,n2,n2',a1]
   exact ⟨by omega,_,rfl,(Own.upd (c:=n1) (fun hb => by have:=(hi1 _ hb).2; omega)).symm ▸ oa,.inl ⟨rfl,rfl⟩,fun b o l h => by cases h⟩)
 have ek:keepM s.members k s.members.length = (del s k).members:=by
  unfold keepM del; rw [List.take_length]
 rw [ek] at hg
 have z3:¬1 = n1:=by omega
 have cw:isCell w = true:=by
  rcases hg with ⟨a,_⟩ | ⟨b,a,_⟩
  ·have a:w = .nil:=a
   rw [a]; rfl
  ·have a:w = .rs b 0 _:=a
   rw [a]; rfl
 obtain ⟨jds,hj2⟩:∃ jds,stripL (strip (upd σ 1 (some ⟨[v,w],0,true⟩)) 6) [v,w] = some ([LL cJoint s.joints,LL cMember (del s k).members],jds):=by
  have hv:=o2.strip (d':=6) (by omega)
  have hv':strip (upd σ 1 (some ⟨[v,w],0,true⟩)) 6 v = some (LL cJoint s.joints,ids):=by
   have:=((Own.upd (σ:=σ) (d:=1) (v:=v) (t:=LL cJoint s.joints) (ids:=ids) (c:=1) (x:=some ⟨[v,w],0,true⟩) (fun hb => by have:=(hi1 1 hb).1; omega)).symm ▸ o2).strip (d':=6) (by omega)
   exact this
  have hg':GrowG cMember 3 (fun _ => w) (upd σ 1 (some ⟨[v,w],0,true⟩)) nx 0 (del s k).members:=by
   rcases hg with ⟨a,b⟩ | ⟨b,a1,a2,a3,a4⟩
   ·exact .inl ⟨a,b⟩
   ·exact .inr ⟨b,a1,a2,by rw [upd_ne _ _ (by have:=hw _ _ _ a1; omega)]; exact a3,a4⟩
  obtain ⟨is,hws⟩:=growG_strip (c:=cMember) (s:=3) (fun _ => rfl) 5 (fun x => by rw [stripL_cons,strip_sc,stripL_cons,strip_sc,stripL_cons,strip_sc,stripL_nil]; rfl) hg'
  refine ⟨ids ++ (is ++ []),?_⟩
  rw [stripL_cons,hv',stripL_cons,hws,stripL_nil]
  rfl
 simp only [go_sem,t4,t5,h1,hb5,z3,hj2,c1,cw]
 rfl
end Go.Proofs.YtoccmbjfkbemcaaGreat
namespace Go.Proofs.YtoccmbjfkbemcaaGreat
open Go Go.TV
attribute [-go_sem] app_rs
theorem map_cI (xs:List Int):xs.flatMap cI = xs.map I:=by
 induction xs with
 | nil => rfl
 | cons x xs ih => show I x :: xs.flatMap cI = _; rw [ih]; rfl
theorem erase_cI (xs:List Int) (k:Nat):(xs.flatMap cI).eraseIdx k = (xs.eraseIdx k).flatMap cI:=by rw [map_cI,map_cI,map_erase]
theorem pre_strip {σ:Store} {b:Nat} {xs:List Int} {ex:List V} {n:Nat} (h:σ b = some ⟨xs.flatMap cI ++ ex,1,true⟩) (hn:xs.length = n) (d:Nat):strip σ (d + 1) (.rs b 0 n) = some (LI xs,[b]):=by
 rw [strip_rs,h]
 simp only [Option.bind_some,Nat.mul_one,Nat.zero_add,List.drop_zero]
 rw [if_pos (by rw [List.length_append,cI_len]; omega),List.take_left' (by rw [cI_len,hn]),cI_strip']
 show some (V.ts _ n,[b]) = _
 rw [← hn]
theorem evSlice3_rs {P:Program} {σ:Store} {t:TypeId} {b off len:Nat} {lo hi mx:V} (h:(tyI P t).slice = true) (he:(tyI P t).eok = true):evSlice P t (.rs b off len) (some lo) (some hi) (some mx) σ = (bnd (some lo) 0).bind fun l => (bnd (some hi) 0).bind fun h => (bnd (some mx) 0).bind fun m => if l ≤ h∧h ≤ m∧m ≤ len then some .junk else none:=by
 obtain ⟨e,ei,z,h1,h2,h3,h4,h5,h6,h7⟩:=tyI_slice h he
 unfold evSlice
 simp only [h1,h2,h5]
 cases bnd (some lo) 0 <;> cases bnd (some hi) 0 <;> cases bnd (some mx) 0 <;> rfl
attribute [go_sem] evSlice3_rs
set_option maxRecDepth 10000 in
theorem lDelete {σ:Store} {nx b:Nat} {w:List Int} {n k:Nat} (hb:σ b = some ⟨w.flatMap cI,1,true⟩) (hbn:b < nx) (hw:w.length = n) (hn:n ≤ 1000) (hk:k < n) :
  ∃ σ',ev Tryz.prog convS extS 59 [.rs b 0 n,I k,I ((k:Int) + 1)] σ nx = some (.rs b 0 (n - 1),σ',nx)∧(∃ ex,σ' b = some ⟨(w.eraseIdx k).flatMap cI ++ ex,1,true⟩)∧∀ c,c ≠ b→σ' c = σ c:=by
 have hl:(w.flatMap cI).length = n:=by rw [cI_len,hw]
 have e1:((k:Int) == (k:Int) + 1) = false:=by rw [beq_eq_false_iff_ne]; omega
 have i0:(0:Int) ≤ (k:Int):=by omega
 have i1:(0:Int) ≤ (k:Int) + 1:=by omega
 have i2:((k:Int) + 1).toNat = k + 1:=by omega
 have i3:k ≤ k + 1:=by omega
 have i4:k + 1 ≤ n:=hk
 have i5:¬k + 1 = 0:=by omega
 have i6:k ≤ n:=by omega
 have i7:(0:Int) ≤ (n:Int):=by omega
 rw [ev_eqQ (rs:=[.tmp 6]) [5] rfl Tryz.func59 rfl rfl (by kernel_rfl) (by kernel_rfl)]
 have hn0:¬n = 0:=by omega
 have z1:∀ (c:Nat) (x:Option Blk),c ≠ b→upd σ b x c = σ c:=fun c x h => upd_ne _ _ h
 by_cases hlast:k + 1 = n
 ·have m1:n - 1 = k:=by omega
  have m3:n - k = 1:=by omega
  have hkn:¬k = n:=by omega
  have ha:=app_none (restrict σ [b]) nx 1 8 b 0 k [] (B:=⟨w.flatMap cI,1,true⟩) (by rw [restrict_one]; exact hb)
  have le:∃ ex,patch (w.flatMap cI) k [I 0] = (w.eraseIdx k).flatMap cI ++ ex:=by
   rw [patch_eq _ _ _ (by rw [hl]; simp; omega),← erase_cI,List.eraseIdx_eq_take_drop_succ,List.drop_of_length_le (l:=w.flatMap cI) (i:=k + 1) (by omega),List.append_nil,List.append_assoc]
   exact ⟨_,rfl⟩
  by_cases hk0:k = 0
  ·have hk0':(k = 0) = True:=eq_true hk0
   have hr:rep n [I 0] = [I 0]:=by
    have:n = 1:=by omega
    rw [this]; rfl
   have hnl:0 + n ≤ n:=by omega
   simp only [go_sem,hb,hl,hbn,e1,i0,i1,i2,i3,i4,i5,i6,i7,hlast,hkn,ha,hn0,hk0',Int.toNat_natCast,Nat.le_refl,clearTo,m1,hr,hnl]
   exact ⟨_,rfl,by rw [upd_same]; obtain ⟨ex,e⟩:=le; exact ⟨ex,by rw [← e,hk0,patch_one]⟩,fun c hc => upd_ne _ _ hc⟩
  ·simp only [go_sem,hb,hl,hbn,e1,i0,i1,i2,i3,i4,i5,i6,i7,hlast,hkn,ha,hn0,hk0,m3,Int.toNat_natCast,Nat.le_refl,clearTo,m1]
   exact ⟨_,rfl,by rw [upd_same]; obtain ⟨ex,e⟩:=le; exact ⟨ex,by rw [← e]; rfl⟩,fun c hc => upd_ne _ _ hc⟩
 ·have m1:¬n - (k + 1) = 0:=by omega
  have m2:((w.flatMap cI).drop (k + 1)).take (n - (k + 1)) = (w.flatMap cI).drop (k + 1):=List.take_of_length_le (by rw [List.length_drop,hl]; omega)
  have i8:k + 1 + (n - (k + 1)) ≤ n:=by omega
  have rl:((w.flatMap cI).drop (k + 1)).length = n - (k + 1):=by rw [List.length_drop,hl]
  have hcell:((w.flatMap cI).drop (k + 1)).all isCell = true:=by
   rw [map_cI,← List.map_drop,← map_cI]; exact cI_cells _
  obtain ⟨Pc,hP⟩:∃ Pc,Pc = patch (w.flatMap cI) k ((w.flatMap cI).drop (k + 1)):=⟨_,rfl⟩
  have hPl:Pc.length = n:=by
   rw [hP,patch_eq _ _ _ (by rw [rl,hl]; omega)]
   simp only [List.length_append,List.length_take,List.length_drop,hl]
   omega
  obtain ⟨ex1,hP1⟩:∃ ex,Pc = (w.eraseIdx k).flatMap cI ++ ex:=by
   obtain ⟨ex,e⟩:=patch_erase (w.flatMap cI) [] (i:=k) (m:=n) hl hk m1
   rw [List.append_nil] at e
   exact ⟨ex,by rw [hP,e,erase_cI]⟩
  have ha:=app_in (σ:=restrict σ [b,b]) (nx:=nx) (bytes:=8) (b:=b) (len:=k) (m:=n - (k + 1)) (row:=(w.flatMap cI).drop (k + 1)) (cells:=w.flatMap cI) (by rw [restrict_two]; exact hb) m1 (by rw [hl]; omega) hcell
  rw [← hP] at ha
  have m5:k + (n - (k + 1)) = n - 1:=by omega
  rw [m5] at ha
  have j1:((n - 1:Nat):Int).toNat = n - 1:=Int.toNat_natCast _
  have j2:(0:Int) ≤ ((n - 1:Nat):Int):=by omega
  have j3:n - 1 ≤ n:=by omega
  have j4:¬n - 1 = 0:=by omega
  have j5:¬n - 1 = n:=by omega
  have j6:n - (n - 1) = 1:=by omega
  have j7:n - 1 + 1 ≤ n:=by omega
  have le:∃ ex,patch Pc (n - 1) [I 0] = (w.eraseIdx k).flatMap cI ++ ex:=by
   have hel:((w.eraseIdx k).flatMap cI).length = n - 1:=by rw [cI_len,List.length_eraseIdx_of_lt (by omega),hw]
   rw [patch_eq _ _ _ (by rw [hPl]; simp; omega),hP1,List.take_left' hel,List.append_assoc]
   exact ⟨_,rfl⟩
  simp only [go_sem,hb,hl,hbn,e1,i0,i1,i2,i3,i4,i5,i6,i7,i8,hlast,m1,m2,ha,hn0,Int.toNat_natCast,Nat.le_refl,j1,j2,j3,j4,j5,j6,j7,hPl,clearTo]
  exact ⟨_,rfl,by rw [upd_same]; obtain ⟨ex,e⟩:=le; exact ⟨ex,by rw [← e]; rfl⟩,fun c hc => upd_ne _ _ hc⟩
end Go.Proofs.YtoccmbjfkbemcaaGreat
namespace Go.Proofs.YtoccmbjfkbemcaaGreat
open Go Go.TV
attribute [-go_sem] app_rs
def SafeI (s:Structure) (l w:List Int):Prop:=fn Tryz.prog convL extL 48 [.agg (cStructure s),LI l,LI w] = some (Bo true)
theorem iIsSafeB {s:Structure} (h:StrOk s) (ho:okStructure s) {l w:List Int} (hl:LoadGood s.joints.length l) (hw:LimGood s.members.length w) :
  fn Tryz.prog convL extL 48 [.agg (cStructure s),LI l,LI w] = some (Bo (pb (SafeI s l w))):=by
 obtain ⟨b,r,k,_⟩:=lIsSafe h ho hl hw
 rw [k]
 cases b with
 | true =>
  have:SafeI s l w:=k
  rw [pb_true this]
 | false =>
  have:¬SafeI s l w:=fun e => by unfold SafeI at e; rw [k] at e; cases e
  rw [pb_false this]
noncomputable def upto (s:Structure) (l w:List Int) (n:Nat):Bool:=(List.range n).all fun k => pb (SafeI (del s k) l (w.eraseIdx k))
theorem upto_succ (s:Structure) (l w:List Int) (n:Nat):upto s l w (n + 1) = (upto s l w n && pb (SafeI (del s n) l (w.eraseIdx n))):=by simp [upto,List.range_succ]
theorem upto_false {s:Structure} {l w:List Int} {k n:Nat} (hk:k < n) (h:pb (SafeI (del s k) l (w.eraseIdx k)) = false):upto s l w n = false:=by
 unfold upto
 rw [List.all_eq_false]
 exact ⟨k,by simpa using hk,by rw [h]; simp⟩
noncomputable def alwaysB (s:Structure) (l w:List Int):Bool:=pb (SafeI s l w) && upto s l w s.members.length
theorem cloneGe (w:List Int) (hw:w.length ≤ 1000) (hne:w.length ≠ 0) (nx:Nat):cloneG [LI w] noStore nx = some (.rs nx 0 w.length,evBox noStore nx (w.flatMap cI) 1,nx + 1):=by
 show (if (w.flatMap cI).length = w.length∧w.length ≤ 17592186044000∧(w.flatMap cI).all isCell = true then _ else none) = _
 rw [if_pos ⟨cI_len w,by omega,cI_cells w⟩,if_neg hne]
set_option maxRecDepth 10000 in
theorem iSafeAlways {s:Structure} (h:StrOk s) (ho:okStructure s) {l w:List Int} (hl:LoadGood s.joints.length l) (hw:LimGood s.members.length w) :
  fn Tryz.prog convS extS 47 [.agg (cStructure s),LI l,LI w] = some (Bo (alwaysB s l w)):=by
 have k1:=iIsSafeB h ho hl hw
 have hnm:=h.2.1
 have hnj:=h.1
 have hwl:=hw.1
 unfold alwaysB
 rw [fn_eq,ev_eqQ (rs:=[.tmp 6]) [] rfl Tryz.func47 rfl rfl (by kernel_rfl) (by kernel_rfl)]
 cases hs:pb (SafeI s l w) with
 | false =>
  rw [hs] at k1
  simp only [go_sem,k1]
 | true =>
  rw [hs] at k1
  simp only [go_sem,k1]
  generalize hL:evLoopI _ _ = y
  obtain ⟨x,rfl,hx⟩:=count_rule hL s.members.length (fun j st => st.T 1 = LI l∧st.T 2 = LI w∧st.T 3 = .rp 0 0∧st.T 15 = I s.members.length∧st.T 16 = I j∧0 < st.nx∧st.σ 0 = some ⟨cStructure s,0,true⟩∧upto s l w j = true)
   (fun x => ∃ T σ nx,(x = (.exit 0,⟨T,σ,nx⟩)∧upto s l w s.members.length = true)∨(x = (.ret,⟨T,σ,nx⟩)∧T 6 = Bo false∧upto s l w s.members.length = false)) (by
    clear hL
    rintro j ⟨T,σ,nx⟩ hj ⟨t1,t2,t3,t15,t16,hnx,hσ,hu⟩
    simp only at t1 t2 t3 t15 t16 hnx hσ
    have f1:(j:Int) < (s.members.length:Int):=by omega
    have f2:(0:Int) ≤ (j:Int):=by omega
    have f3:=wrap_id (n:=(j:Int) + 1) (by omega) (by omega)
    have k2:=iWithout s (by omega) (by omega) j hj
    have k3:=cloneGe w (by omega) (by omega) (nx + 1)
    rw [hwl] at k3
    obtain ⟨S,eS⟩:∃ S,S = del s j:=⟨_,rfl⟩
    rw [← eS] at k2
    have hlen:(w.eraseIdx j).length = s.members.length - 1:=by rw [List.length_eraseIdx_of_lt (by omega),hwl]
    have hSj:S.joints = s.joints:=by rw [eS]; rfl
    have hSm:S.members.length = s.members.length - 1:=by
     rw [eS]; unfold del; exact List.length_eraseIdx_of_lt hj
    have k5:=iIsSafeB (s:=S) (l:=l) (w:=w.eraseIdx j) (by rw [eS]; exact del_ok h j) (by rw [eS]; exact del_okS ho j) (by rw [hSj]; exact hl) (by rw [hSm]; exact erase_lim hw hj)
    have oc:Own (evBox noStore (nx + 1) (w.flatMap cI) 1) 1 (.rs (nx + 1) 0 s.members.length) (LI w) [nx + 1]:=by
     have:=own_of_rs (σ:=evBox noStore (nx + 1) (w.flatMap cI) 1) (d:=0) (b:=nx + 1) (st:=1) (xs:=w) (by unfold evBox; rw [upd_same]) (by omega)
     rwa [hwl] at this
    have gc:=fun d => oc.gather (d':=d + 1) (by omega)
    unfold evBox at k3 gc
    obtain ⟨σ1,e1⟩:∃ σ1,σ1 = upd σ nx (some ⟨[I j],1,flat 7 (.agg (cStructure S))⟩):=⟨_,rfl⟩
    have b1:σ1 0 = some ⟨cStructure s,0,true⟩:=by rw [e1,upd_ne _ _ (by omega)]; exact hσ
    obtain ⟨σ2,e2⟩:∃ σ2,σ2 = joinS (nx + 1) σ1 (upd noStore (nx + 1) (some ⟨w.flatMap cI,1,true⟩)) [nx + 1]:=⟨_,rfl⟩
    have b2:σ2 0 = some ⟨cStructure s,0,true⟩:=by rw [e2,join_lt (by omega)]; exact b1
    have b3:σ2 (nx + 1) = some ⟨w.flatMap cI,1,true⟩:=by rw [e2,join_in (by omega) (by simp),upd_same]
    obtain ⟨σ3,k4,⟨ex,b4⟩,b5⟩:=lDelete (nx:=nx + 1 + 1) (k:=j) b3 (by omega) hwl (by omega) hj
    have b6:σ3 0 = some ⟨cStructure s,0,true⟩:=by rw [b5 0 (by omega)]; exact b2
    have st:=fun d => pre_strip b4 hlen d
    have f4:=wrap_id (n:=(j:Int) + 1) (by omega) (by omega)
    have us:=upto_succ s l w j
    rw [← eS] at us
    cases hsf:pb (SafeI S l (w.eraseIdx j)) with
    | true =>
     rw [hsf] at k5 us
     refine .inl ⟨_,by simp only [go_sem,call_inl,t1,t2,t3,t15,t16,hσ,f1,f2,f3,k2,← e1,k3,gc,← e2,k4,st,k5,b6]; rfl,?_⟩
     simp only [go_sem,t1,t2,t3,t15,b6]
     exact ⟨rfl,by omega,by rw [us,hu]; rfl⟩
    | false =>
     rw [hsf] at k5
     refine .inr ⟨_,by simp only [go_sem,call_inl,t1,t2,t3,t15,t16,hσ,f1,f2,f3,k2,← e1,k3,gc,← e2,k4,st,k5,b6]; rfl,by simp,_,_,_,.inr ⟨rfl,by simp only [go_sem],?_⟩⟩
     rw [eS] at hsf
     exact upto_false hj hsf) (by
    rintro ⟨T,σ,nx⟩ ⟨t1,t2,t3,t15,t16,hnx,hσ,hu⟩
    simp only at t1 t2 t3 t15 t16 hnx hσ
    exact ⟨_,by simp only [go_sem,t15,t16,Int.lt_irrefl]; rfl,by simp,_,_,_,.inl ⟨rfl,hu⟩⟩) (by
    simp only [go_sem]
    rfl)
  obtain ⟨T,σ,nx,⟨rfl,hu⟩ | ⟨rfl,t6,hu⟩⟩:=hx
  ·rw [hu]
   simp only [go_sem]
  ·rw [hu]
   simp only [go_sem,t6]
noncomputable def safeT (t:Stance) (strict:Bool):Bool:=stanceB t && (if strict = true then alwaysB t.st t.load t.limits else pb (SafeI t.st t.load t.limits))
theorem stance_parts {t:Stance} (h:stanceB t = true):StrOk t.st∧LoadGood t.st.joints.length t.load∧LimGood t.st.members.length t.limits:=by
 unfold stanceB at h
 simp only [Bool.and_eq_true] at h
 exact ⟨of_pb h.2.1.1,of_pb h.2.1.2,of_pb h.2.2⟩
theorem iSafeStance (t:Stance) (ho:okStance t) (strict:Bool):fn Tryz.prog convS extS 34 [.agg (cStance t),Bo strict] = some (Bo (safeT t strict)):=by
 have k1:=iStanceOk t ho
 unfold safeT
 rw [fn_eq,ev_eqQ (rs:=[.tmp 4]) [] rfl Tryz.func34 rfl rfl (by kernel_rfl) (by kernel_rfl)]
 cases hs:stanceB t with
 | false =>
  rw [hs] at k1
  simp only [go_sem,k1]
 | true =>
  rw [hs] at k1
  obtain ⟨h1,h2,h3⟩:=stance_parts hs
  have k2:=iSafeAlways h1 ho.2.1 h2 h3
  have k3:=iIsSafeB h1 ho.2.1 h2 h3
  cases strict with
  | true => simp only [go_sem,k1,k2]
  | false => simp only [go_sem,k1,k3]
end Go.Proofs.YtoccmbjfkbemcaaGreat
namespace Go.Proofs.YtoccmbjfkbemcaaGreat
open Go Go.TV Go.Plan
attribute [-go_sem] app_rs
theorem set_mix {α:Type} {xs:List α} {n k:Nat} (d:α) (hk:k < xs.length) (hn:xs.length = n):(xs.take k ++ List.replicate (n - k) d).set k xs[k] = xs.take (k + 1) ++ List.replicate (n - (k + 1)) d:=by
 have hl:(xs.take k).length = k:=by rw [List.length_take]; omega
 rw [List.set_append_right _ _ (by omega),hl,Nat.sub_self,show n - k = n - (k + 1) + 1 by omega,List.replicate_succ,List.set_cons_zero,take_snoc hk,List.append_assoc]
 rfl
theorem rep_false (n:Nat):rep n [Bo false] = (List.replicate n false).flatMap cBo:=rep_flags n
noncomputable def safeL (y:Yard):List Bool:=y.stances.map fun t => safeT t y.strict
theorem safeL_len (y:Yard):(safeL y).length = y.stances.length:=by simp [safeL]
theorem bo_strip {σ:Store} {b:Nat} {xs:List Bool} (h:σ b = some ⟨xs.flatMap cBo,1,true⟩) {n:Nat} (hn:xs.length = n) (d:Nat):strip σ (d + 1) (.rs b 0 n) = some (LL cBo xs,[b]):=by
 have hl:(xs.flatMap cBo).length = xs.length:=by rw [slots_len (c:=cBo) (s:=1) (fun _ => rfl),Nat.mul_one]
 rw [strip_rs,h]
 simp only [Option.bind_some,Nat.mul_one,Nat.zero_add,List.drop_zero,hl]
 rw [if_pos (by omega),List.take_of_length_le (by omega),stripL_slots (fun x => by rw [stripL_cons,strip_sc,stripL_nil]; rfl)]
 show some (V.ts _ n,[b]) = _
 rw [← hn]
set_option maxRecDepth 10000 in
theorem iSafe (y:Yard) (ho:okYard y) (hn6:y.stances.length ≤ 6):fn Tryz.prog convS extS 23 [.tp (cYard y) 0] = some (LL cBo (safeL y)):=by
 obtain ⟨n,en⟩:∃ n,n = y.stances.length:=⟨_,rfl⟩
 have e1:1 * (n:Int) ≤ 281474976710656:=by omega
 have e2:(n:Int) ≤ 9223372036854775807:=by omega
 have e3:(0:Int) ≤ (n:Int):=by omega
 have hsl:=safeL_len y
 rw [fn_eq,ev_eqQ (rs:=[.tmp 2]) [5] rfl Tryz.func23 rfl rfl (by kernel_rfl) (by kernel_rfl)]
 simp only [go_sem,← en,e1,e2,e3,Int.le_refl]
 generalize hL:evLoopI _ _ = z
 obtain ⟨r,rfl,T',σ',nx',rfl,h3,hs⟩:=count_rule hL n (fun k s => 1 ≤ s.nx∧s.T 0 = .tp (cYard y) 0∧s.T 3 = .rs 0 0 n∧s.T 15 = LL cStance y.stances∧s.T 16 = I n∧s.T 17 = I k∧s.σ 0 = some ⟨((safeL y).take k ++ List.replicate (n - k) false).flatMap cBo,1,true⟩)
  (fun r => ∃ T σ nx',r = (.exit 0,⟨T,σ,nx'⟩)∧T 3 = .rs 0 0 n∧σ 0 = some ⟨(safeL y).flatMap cBo,1,true⟩) (by
   clear hL
   rintro k ⟨T,σ,m⟩ hk ⟨hm,h0,h3,h15,h16,h17,hs⟩
   simp only at hm h0 h3 h15 h16 h17 hs
   have hk':k < y.stances.length:=by omega
   have hks:k < (safeL y).length:=by omega
   have f1:(k:Int) < (n:Int):=by omega
   have f2:(0:Int) ≤ (k:Int):=by omega
   have f3:=wrap_id (n:=(k:Int) + 1) (by omega) (by omega)
   have f4:=slot (c:=cStance) (s:=5) (fun _ => rfl) y.stances k hk'
   have f5:=slots_len (c:=cStance) (s:=5) (fun _ => rfl) y.stances
   rw [← en] at f5
   have f6:k * 5 + 5 ≤ n * 5:=by omega
   have f9:=slot_ne (c:=cStance) (s:=5) (fun _ => rfl) (by omega) y.stances k hk'
   have f7:(((safeL y).take k ++ List.replicate (n - k) false).flatMap cBo).length = n:=by
    rw [slots_len (c:=cBo) (s:=1) (fun _ => rfl),Nat.mul_one,List.length_append,List.length_take,List.length_replicate]; omega
   have k1:=iSafeStance y.stances[k] (ho.1.1 _ (List.getElem_mem hk')) y.strict
   have es:(safeL y)[k] = safeT y.stances[k] y.strict:=by simp [safeL]
   have f8:=cBo_set ((safeL y).take k ++ List.replicate (n - k) false) k (safeL y)[k]
   rw [set_mix false hks (by omega),es] at f8
   have nz:¬0 = m:=by omega
   have nz':¬m = 0:=by omega
   have f10:k < n:=hk
   have f11:0 < m + 1:=by omega
   have f12:m < m + 1:=by omega
   obtain ⟨t,et⟩:∃ t,t = y.stances[k]:=⟨_,rfl⟩
   rw [← et] at f4 k1 f8
   obtain ⟨sb,eb⟩:∃ sb,sb = safeT t y.strict:=⟨_,rfl⟩
   rw [← eb] at k1 f8
   refine .inl ⟨_,by simp only [go_sem,← en,h0,h3,h15,h16,h17,hs,f1,f2,f3,f4,f5,f6,f7,f8,f9,f10,f11,f12,k1,nz,nz']; rfl,?_⟩
   simp only [go_sem,h0,h3,h15,h16]
   rfl) (by
   clear hL
   rintro ⟨T,σ,m⟩ ⟨hm,h0,h3,h15,h16,h17,hs⟩
   simp only at hm h0 h3 h15 h16 h17 hs
   rw [List.take_of_length_le (by omega),Nat.sub_self,List.replicate_zero,List.append_nil] at hs
   exact ⟨_,by simp only [go_sem,h16,h17,Int.lt_irrefl]; rfl,by simp,_,_,_,rfl,by simp only [go_sem,h3],hs⟩) (by
   simp only [go_sem]
   rw [← rep_false])
 have hst:=fun d => bo_strip hs (n:=n) (by omega) d
 simp only [go_sem,h3,hst]
end Go.Proofs.YtoccmbjfkbemcaaGreat
namespace Go.Proofs.YtoccmbjfkbemcaaGreat
open Go Go.TV Go.Plan
attribute [-go_sem] app_rs
theorem iNextS (y:Yard) (hg:YardGood y) (i:Int):fn Tryz.prog convS extS 21 [.tp (cYard y) 0,I i] = some (LI (tru (movesTo y.moves i) y.stances.length)):=by
 obtain ⟨v,σ1,nx1,ids,k,_,ho,_⟩:=yardNextO y hg i 0
 rw [fnSM21,fn_eq,k]
 simp only [go_sem,ho.strip (d':=7) (by omega)]
def nexts (y:Yard) (a:Nat):List Nat:=(List.range y.stances.length).filter (mvY y a)
theorem tru_nexts (y:Yard) (a:Nat):tru (movesTo y.moves (a:Int)) y.stances.length = toInts (nexts y a):=rfl
theorem toInts_get (l:List Nat) {j:Nat} (h:j < l.length):(toInts l)[j]'(by rw [toInts_len]; exact h) = (l[j]:Int):=by simp [toInts]
theorem toInts_at (l:List Nat) {j:Nat} (h:j < l.length):((toInts l).flatMap cI)[j]? = some (I (l[j]:Int)):=by
 rw [idx (xs:=toInts l) (k:=j) (by rw [toInts_len]; exact h),toInts_get l h]
theorem find_at {α:Type} {p:α→Bool}:∀ {l:List α} {j:Nat} (h:j < l.length),(∀ i (hi:i < l.length),i < j→p l[i] = false)→p l[j] = true→l.find? p = some l[j]
 | [],_,h,_,_ => absurd h (Nat.not_lt_zero _)
 | x :: l,0,_,_,h => by
  have h:p x = true:=h
  simp [List.find?_cons,h]
 | x :: l,j + 1,hj,hlo,h => by
  have h0:p x = false:=hlo 0 (by simp) (by omega)
  have:=find_at (l:=l) (j:=j) (by rw [List.length_cons] at hj; omega) (fun i hi hij => hlo (i + 1) (by rw [List.length_cons]; omega) (by omega)) h
  simp only [List.find?_cons,h0]
  exact this
theorem nxt_at {y:Yard} {out:Nat→Int} {a j:Nat} (h:j < (nexts y a).length) (hlo:∀ i (hi:i < (nexts y a).length),i < j→(out (nexts y a)[i] == out a - 1) = false) (hj:(out (nexts y a)[j] == out a - 1) = true):nxt (mvY y) out y.stances.length a = (nexts y a)[j]:=by
 have h1:=find_at (p:=fun i => out i == out a - 1) h hlo hj
 unfold nxt
 have h2:(List.range y.stances.length).find? (fun i => mvY y a i && (out i == out a - 1)) = (nexts y a).find? (fun i => out i == out a - 1):=by
  unfold nexts
  rw [List.find?_filter]
  congr 1
  funext i
  generalize mvY y a i = b1
  generalize (out i == out a - 1) = b2
  cases b1 <;> cases b2 <;> rfl
 rw [h2,h1]
 rfl
theorem nexts_lt {y:Yard} {a j:Nat} (h:j < (nexts y a).length):(nexts y a)[j] < y.stances.length:=by
 have:=List.getElem_mem h
 exact List.mem_range.mp (List.mem_filter.mp this).1
theorem nexts_le (y:Yard) (a:Nat):(nexts y a).length ≤ y.stances.length:=by
 unfold nexts
 exact Nat.le_trans (List.length_filter_le _ _) (by simp)
theorem nexts_none {y:Yard} {al:List Bool} (hal:al.length = y.stances.length) {to a:Nat} (h:0 < dst (mvY y) (alB al) to a):∃ j,∃ hj:j < (nexts y a).length,(dst (mvY y) (alB al) to (nexts y a)[j] == dst (mvY y) (alB al) to a - 1) = true:=by
 obtain ⟨h1,h2,h3⟩:=nxt_is (mv:=mvY y) (al:=alB al) (n:=y.stances.length) (to:=to) (a:=a) (fun i hi => by have:=alB_lt hi; omega) h
 have hm:nxt (mvY y) (dst (mvY y) (alB al) to) y.stances.length a ∈ nexts y a:=by
  unfold nexts
  rw [List.mem_filter]
  exact ⟨by simpa using h1,h2⟩
 obtain ⟨j,hj,e⟩:=List.getElem_of_mem hm
 exact ⟨j,hj,by rw [e,h3]; simp⟩
noncomputable def planOk (y:Yard) (fr to:Int):Bool:=pb (YardGood y) && (decide (0 ≤ fr) && decide (fr < (y.stances.length:Int)) && decide (0 ≤ stp y (safeL y) to fr.toNat))
noncomputable def planI (y:Yard) (fr to:Int):List Int:=if planOk y fr to = true then toInts (plan (mvY y) (stp y (safeL y) to) y.stances.length fr.toNat) else []
theorem stp_dst {y:Yard} {al:List Bool} {to:Int} {i:Nat} (h:0 ≤ stp y al to i):(0 ≤ to∧to < (y.stances.length:Int))∧stp y al to = dst (mvY y) (alB al) to.toNat:=by
 by_cases c:0 ≤ to∧to < (y.stances.length:Int)
 ·exact ⟨c,funext fun i => by unfold stp; rw [if_pos c]⟩
 ·unfold stp at h
  rw [if_neg c] at h
  omega
theorem behind_at {σ:Store} {b:Nat} {cells:List V} {st:Nat} {wr:Bool} (h:σ b = some ⟨cells,st,wr⟩) (t:V):behind σ [b] t = upd σ b (some ⟨cells,st,wr && flat depth t⟩):=by
 unfold behind
 cases hf:flat depth t with
 | true =>
  simp only [Bool.and_true,List.isEmpty_cons,Bool.false_or,if_true]
  funext i
  by_cases e:i = b
  ·subst e; rw [upd_same,h]
  ·rw [upd_ne _ _ e]
 | false =>
  simp only [List.isEmpty_cons,Bool.or_self,Bool.false_eq_true,if_false,Bool.and_false]
  unfold freezeL freezeL
  rw [h]
  rfl
theorem grow_frame {T:Nat→V} {σ σ':Store} {nx t:Nat} {acc:List Int} (hg:Grow T σ nx t acc) (h:∀ b o l,T t = .rs b o l→σ' b = σ b):Grow T σ' nx t acc:=by
 rcases hg with ⟨g1,g2⟩ | ⟨b,g1,g2,g3,g4⟩
 ·exact .inl ⟨g1,g2⟩
 ·exact .inr ⟨b,g1,g2,by rw [h _ _ _ g1]; exact g3,g4⟩
def wayTo (y:Yard) (out:Nat→Int) (a k:Nat):List Int:=toInts ((List.range (k + 1)).map (itr (mvY y) out y.stances.length a))
theorem wayTo_len (y:Yard) (out:Nat→Int) (a k:Nat):(wayTo y out a k).length = k + 1:=by simp [wayTo,toInts]
theorem wayTo_succ (y:Yard) (out:Nat→Int) (a k:Nat):wayTo y out a (k + 1) = wayTo y out a k ++ [((itr (mvY y) out y.stances.length a (k + 1):Nat):Int)]:=by
 unfold wayTo toInts
 rw [List.range_succ]
 simp
set_option maxHeartbeats 4000000 in
set_option maxRecDepth 10000 in
theorem iFindPlan (y:Yard) (ho:okYard y) (fr to:Int) (nx:Nat):∃ v σ1 nx1 ids,ev Tryz.prog convS extS 12 [.agg (cYard y),I fr,I to] noStore nx = some (.tup [v,Bo (planOk y fr to)],σ1,nx1)∧nx ≤ nx1∧Own σ1 1 v (LI (planI y fr to)) ids∧∀ b ∈ ids,nx ≤ b∧b < nx1:=by
 obtain ⟨n,en⟩:∃ n,n = y.stances.length:=⟨_,rfl⟩
 have k1:=iYardOk y ho
 have hne:∀ ok,ok = planOk y fr to→ok = false→planI y fr to = []:=fun ok e h => by unfold planI; rw [← e,h,if_neg (by simp)]
 rw [ev_eqQ (rs:=[.tmp 6,.tmp 7]) [] rfl Tryz.func12 rfl rfl (by kernel_rfl) (by kernel_rfl)]
 cases hg:pb (YardGood y) with
 | false =>
  have e:planOk y fr to = false:=by unfold planOk; rw [hg,Bool.false_and]
  rw [hg] at k1
  rw [e,hne _ e.symm rfl]
  simp only [go_sem,k1]
  exact ⟨_,_,_,[],rfl,by omega,own_of_nil _ _,by simp⟩
 | true =>
  rw [hg] at k1
  have hG:=of_pb hg
  by_cases c1:fr < 0
  ·have e:planOk y fr to = false:=by unfold planOk; rw [hg,decide_eq_false (p:=0 ≤ fr) (by omega)]; rfl
   rw [e,hne _ e.symm rfl]
   simp only [go_sem,k1,c1]
   exact ⟨_,_,_,[],rfl,by omega,own_of_nil _ _,by simp⟩
  by_cases c2:(y.stances.length:Int) ≤ fr
  ·have e:planOk y fr to = false:=by unfold planOk; rw [hg,decide_eq_false (p:=fr < _) (by omega),Bool.and_false]; rfl
   rw [e,hne _ e.symm rfl]
   simp only [go_sem,k1,c1,c2]
   exact ⟨_,_,_,[],rfl,by omega,own_of_nil _ _,by simp⟩
  obtain ⟨a0,rfl⟩:∃ a:Nat,fr = (a:Int):=⟨fr.toNat,by omega⟩
  have ha0:a0 < y.stances.length:=by omega
  have hn6:=hG.1
  have k2:=iSafe y ho hn6
  have k3:=iSteps y hG (by omega) to (safeL y) (safeL_len y)
  obtain ⟨out,eo⟩:∃ out,out = stp y (safeL y) to:=⟨_,rfl⟩
  rw [← eo] at k3
  have f1:(a0:Int) < (y.stances.length:Int):=by omega
  have f2:(0:Int) ≤ (a0:Int):=by omega
  have la:=fun {a:Nat} (h:a < y.stances.length) => labs_at (n:=y.stances.length) out h
  have la0:=la ha0
  have ll:=labs_len y.stances.length out
  have lne:(labs y.stances.length out).flatMap cI ≠ []:=fun e => by
   have h:=cI_len (labs y.stances.length out)
   rw [e,ll] at h
   have h:0 = y.stances.length:=h
   omega
  by_cases c3:out a0 < 0
  ·have e:planOk y a0 to = false:=by
    unfold planOk; rw [← eo,Int.toNat_natCast,decide_eq_false (p:=0 ≤ out a0) (by omega),Bool.and_false,Bool.and_false]
   rw [e,hne _ e.symm rfl]
   simp only [go_sem,k1,c1,c2,k2,k3,ll,lne,la0,f1,f2,c3]
   exact ⟨_,_,_,[],rfl,by omega,own_of_nil _ _,by simp⟩
  have e:planOk y a0 to = true:=by
   unfold planOk
   rw [← eo,hg,Int.toNat_natCast,decide_eq_true (p:=0 ≤ out a0) (by omega),decide_eq_true f2,decide_eq_true (p:=(a0:Int) < _) (by omega)]; rfl
  obtain ⟨⟨t0,t1⟩,es⟩:=stp_dst (y:=y) (al:=safeL y) (to:=to) (i:=a0) (by rw [← eo]; omega)
  rw [← eo] at es
  have epl:planI y a0 to = wayTo y out a0 (out a0).toNat:=by
   unfold planI
   rw [if_pos e,← eo,Int.toNat_natCast]
   rfl
  rw [e,epl]
  obtain ⟨d,hd⟩:∃ d:Nat,out a0 = (d:Int):=⟨(out a0).toNat,by omega⟩
  have hal:∀ i,alB (safeL y) i = true→i < y.stances.length:=fun i hi => by have:=alB_lt hi; rw [safeL_len] at this; exact this
  have hit:∀ k:Nat,k ≤ d→out (itr (mvY y) out y.stances.length a0 k) = (d:Int) - k:=fun k hk => by
   have:=itr_is hal (mv:=mvY y) (to:=to.toNat) (a:=a0) k (by rw [← es,hd]; omega)
   rw [← es,hd] at this
   exact this
  have hrg:∀ k:Nat,k ≤ d→itr (mvY y) out y.stances.length a0 k < y.stances.length:=fun k hk => by
   have h1:=hit k hk
   have h2:=dst_al (mv:=mvY y) (al:=alB (safeL y)) (to:=to.toNat) (i:=itr (mvY y) out y.stances.length a0 k) (by rw [← es]; omega)
   exact hal _ h2.1
  have hdn:d ≤ 6:=by
   have:=dst_lt hal (mv:=mvY y) (to:=to.toNat) (a:=a0) (by rw [← es,hd]; omega)
   rw [← es,hd] at this
   omega
  obtain ⟨at_,eat⟩:∃ at_,at_ = itr (mvY y) out y.stances.length a0:=⟨_,rfl⟩
  rw [← eat] at hit hrg
  have wsu:∀ k,wayTo y out a0 (k + 1) = wayTo y out a0 k ++ [((at_ (k + 1):Nat):Int)]:=fun k => by rw [eat]; exact wayTo_succ y out a0 k
  have w0:wayTo y out a0 0 = [(a0:Int)]:=rfl
  have wl:=wayTo_len y out a0
  have hd0:(out a0).toNat = d:=by omega
  rw [hd0]
  simp only [go_sem,k1,c1,c2,k2,k3,ll,lne,la0,f1,f2,c3]
  generalize hL:evLoopI _ _ = z
  obtain ⟨x,rfl,T,σ,nx',rfl,hnx,hG9,hB9⟩:=loop_rule hL (fun m st => ∃ k,k + m = d∧st.T 3 = .rp nx 0∧st.T 8 = LI (labs y.stances.length out)∧st.T 10 = I (at_ k)∧nx + 1 < st.nx∧(∃ wr,st.σ nx = some ⟨cYard y,0,wr⟩)∧Grow st.T st.σ st.nx 9 (wayTo y out a0 k)∧∀ b o l,st.T 9 = .rs b o l→nx + 1 ≤ b)
   (fun x => ∃ T σ nx',x = (.exit 0,⟨T,σ,nx'⟩)∧nx + 1 < nx'∧Grow T σ nx' 9 (wayTo y out a0 d)∧∀ b o l,T 9 = .rs b o l→nx + 1 ≤ b) (by
    clear hL
    rintro m ⟨T,σ,nx2⟩ ⟨k,hk,t3,t8,t10,hnx,⟨wr,hσ⟩,hGr,hB⟩
    simp only at t3 t8 t10 hnx hσ hGr hB
    have ha:=hrg k (by omega)
    have ho:=hit k (by omega)
    have la1:=la ha
    have g1:(at_ k:Int) < (y.stances.length:Int):=by omega
    have g2:(0:Int) ≤ (at_ k:Int):=by omega
    by_cases hm:m = 0
    ·subst hm
     have hkd:k = d:=by omega
     have g3:¬0 < out (at_ k):=by omega
     refine .inr ⟨_,by simp only [go_sem,t8,t10,ll,lne,la1,g1,g2,ha,g3]; rfl,by simp,_,_,_,rfl,hnx,?_,by simpa only [go_sem] using hB⟩
     rw [← hkd]
     exact grow_eq (by simp only [go_sem]) hGr
    ·have g3:0 < out (at_ k):=by omega
     have k4:=iNextS y hG (at_ k:Int)
     rw [tru_nexts] at k4
     have hnl:=nexts_le y (at_ k)
     have hbh:=behind_at hσ (LI (toInts (nexts y (at_ k))))
     obtain ⟨σb,eσb⟩:∃ σb,σb = behind σ [nx] (LI (toInts (nexts y (at_ k)))):=⟨_,rfl⟩
     rw [← eσb] at hbh
     have hσb:∃ wr,σb nx = some ⟨cYard y,0,wr⟩:=⟨_,by rw [hbh,upd_same]⟩
     have hGb:Grow T σb nx2 9 (wayTo y out a0 k):=grow_frame hGr fun b o l h => by rw [hbh,upd_ne _ _ (by have:=hB b o l h; omega)]
     have w4:=wrap_id (n:=out (at_ k) - 1) (by omega) (by omega)
     have hat':at_ (k + 1) = nxt (mvY y) out y.stances.length (at_ k):=by rw [eat]; rfl
     refine step_of ?_
     conv =>
      enter [1,r,1,1]
      simp only [go_sem,t3,t8,t10,hσ,ll,lne,la1,g1,g2,ha,g3,k4,toInts_len,← eσb]
     generalize hL:evLoopI _ _ = w
     obtain ⟨r,rfl,T',σ',nx3,rfl,t3,t8,t10,hnx,⟨wr',hσ⟩,hGr,hB⟩:=count_rule hL (nexts y (at_ k)).length (fun j st => st.T 3 = .rp nx 0∧st.T 8 = LI (labs y.stances.length out)∧st.T 10 = I (at_ k)∧st.T 44 = LI (toInts (nexts y (at_ k)))∧st.T 45 = I (nexts y (at_ k)).length∧st.T 46 = I j∧nx + 1 < st.nx∧(∃ wr,st.σ nx = some ⟨cYard y,0,wr⟩)∧Grow st.T st.σ st.nx 9 (wayTo y out a0 k)∧(∀ b o l,st.T 9 = .rs b o l→nx + 1 ≤ b)∧∀ i (hi:i < (nexts y (at_ k)).length),i < j→(out (nexts y (at_ k))[i] == out (at_ k) - 1) = false)
      (fun r => ∃ T σ nx3,r = (.exit 2,⟨T,σ,nx3⟩)∧T 3 = .rp nx 0∧T 8 = LI (labs y.stances.length out)∧T 10 = I (at_ (k + 1))∧nx + 1 < nx3∧(∃ wr,σ nx = some ⟨cYard y,0,wr⟩)∧Grow T σ nx3 9 (wayTo y out a0 k)∧∀ b o l,T 9 = .rs b o l→nx + 1 ≤ b) (by
       clear hL
       rintro j ⟨T,σ,nx2⟩ hj ⟨t3,t8,t10,t44,t45,t46,hnx,hσ,hGr,hB,hlo⟩
       simp only at t3 t8 t10 t44 t45 t46 hnx hσ hGr hB
       have f1:(j:Int) < ((nexts y (at_ k)).length:Int):=by omega
       have f2:(0:Int) ≤ (j:Int):=by omega
       have f3:=wrap_id (n:=(j:Int) + 1) (by omega) (by omega)
       have f4:=toInts_at (nexts y (at_ k)) hj
       have f5:=toInts_len (nexts y (at_ k))
       have f6:(toInts (nexts y (at_ k))).flatMap cI ≠ []:=fun e => by
        have h:=cI_len (toInts (nexts y (at_ k)))
        rw [e,f5] at h
        have h:0 = (nexts y (at_ k)).length:=h
        omega
       have hc:=nexts_lt hj
       have la2:=la hc
       obtain ⟨c,ec⟩:∃ c,c = (nexts y (at_ k))[j]:=⟨_,rfl⟩
       rw [← ec] at f4 hc la2
       have i1:(c:Int) < (y.stances.length:Int):=by omega
       have i2:(0:Int) ≤ (c:Int):=by omega
       cases hq:(out c == out (at_ k) - 1) with
       | true =>
        have hn:=nxt_at hj hlo (by rw [← ec]; exact hq)
        refine .inr ⟨_,by simp only [go_sem,t3,t8,t10,t44,t45,t46,ll,lne,la1,la2,g1,g2,ha,f1,f2,f3,f4,f5,f6,hj,hc,i1,i2,w4,hq]; rfl,by simp,_,_,_,rfl,?_⟩
        simp only [go_sem,t3,t8]
        rw [hat',hn,← ec]
        exact ⟨rfl,hnx,hσ,grow_eq (by simp only [go_sem]) hGr,hB⟩
       | false =>
        refine .inl ⟨_,by simp only [go_sem,t3,t8,t10,t44,t45,t46,ll,lne,la1,la2,g1,g2,ha,f1,f2,f3,f4,f5,f6,hj,hc,i1,i2,w4,hq]; rfl,?_⟩
        simp only [go_sem,t3,t8,t10,t44,t45]
        refine ⟨rfl,hnx,hσ,grow_eq (by simp only [go_sem]) hGr,hB,fun i hi hij => ?_⟩
        by_cases e:i = j
        ·subst e; rw [← ec]; exact hq
        ·exact hlo i hi (by omega)) (by
       clear hL
       rintro ⟨T,σ,nx2⟩ ⟨t3,t8,t10,t44,t45,t46,hnx,hσ,hGr,hB,hlo⟩
       exfalso
       obtain ⟨j,hj,hq⟩:=nexts_none (y:=y) (al:=safeL y) (safeL_len y) (to:=to.toNat) (a:=at_ k) (by rw [← es]; exact g3)
       rw [← es,hlo j hj hj] at hq
       cases hq) (by
       simp only [go_sem,t3,t8,t10]
       exact ⟨hnx,hσb,grow_eq (by simp only [go_sem]) hGb,hB,fun i hi h0 => absurd h0 (Nat.not_lt_zero _)⟩)
     obtain ⟨σ4,ha4,hs4,hf4⟩:=grow_append2 hGr (at_ (k + 1):Int) (by rw [wl]; omega)
     rw [wl] at ha4
     refine ⟨_,by simp only [go_sem,t10,ha4]; rfl,.inl ⟨_,rfl,m - 1,by omega,k + 1,by omega,?_⟩⟩
     simp only [go_sem,t3,t8,t10]
     refine ⟨by omega,?_,?_,fun b o l hb => ?_⟩
     ·exact ⟨wr',by rw [hf4 nx (by omega) (fun b o l hb => by have:=hB b o l hb; omega)]; exact hσ⟩
     ·rw [wsu]
      exact grow_new hs4 (by simp only [go_sem,List.length_append,wl]) (by simp)
     ·cases hb; omega) d (by
    simp only [go_sem]
    refine ⟨0,by omega,by rw [eat]; rfl,by omega,⟨_,by rw [upd_ne _ _ (by omega),upd_same]⟩,.inr ⟨nx + 1,?_,by rw [w0]; simp,?_,by omega⟩,fun b o l hb => by cases hb; omega⟩
    ·simp only [go_sem]
     rfl
    ·rw [upd_same]; rfl)
  obtain ⟨ids,ho9,hi9⟩:=grow_own hG9 hB9
  simp only [go_sem]
  exact ⟨_,_,_,ids,rfl,by omega,ho9,fun b hb => by have:=hi9 b hb; omega⟩
theorem planI_len (y:Yard) (fr to:Int):(planI y fr to).length ≤ 1000000:=by
 unfold planI
 split
 ·rename_i h
  unfold planOk at h
  simp only [Bool.and_eq_true,decide_eq_true_eq] at h
  obtain ⟨hg,⟨h1,h2⟩,h3⟩:=h
  obtain ⟨_,es⟩:=stp_dst h3
  have:=dst_lt (mv:=mvY y) (al:=alB (safeL y)) (n:=y.stances.length) (to:=to.toNat) (a:=fr.toNat) (fun i hi => by have:=alB_lt hi; rw [safeL_len] at this; exact this) (by rw [← es]; exact h3)
  rw [toInts_len,plan_len,es]
  have:=(of_pb hg).1
  omega
 ·exact Nat.zero_le _
end Go.Proofs.YtoccmbjfkbemcaaGreat
namespace Go.Proofs.YtoccmbjfkbemcaaGreat
open Go Go.TV Go.Plan
attribute [-go_sem] app_rs
theorem lHas (xs:List Int) (m:Int) (h:xs.length ≤ 1000000):fn Tryz.prog conv ext 10 [LI xs,I m] = some (Bo (decide (m ∈ xs))):=by
 rw [fn_eq,ev_eqQ (rs:=[.tmp 4]) [] rfl Tryz.func10 rfl rfl (by kernel_rfl) (by kernel_rfl)]
 simp only [go_sem]
 generalize hL:evLoopI _ _ = y
 obtain ⟨x,rfl,hx⟩:=count_rule hL xs.length (fun k st => st.T 1 = I m∧st.T 7 = LI xs∧st.T 8 = I xs.length∧st.T 9 = I k∧∀ i (h:i < xs.length),i < k→xs[i] ≠ m)
  (fun x => ∃ T σ nx,(x = (.exit 0,⟨T,σ,nx⟩)∧m ∉ xs)∨(x = (.ret,⟨T,σ,nx⟩)∧T 4 = Bo true∧m ∈ xs)) (by
   clear hL
   rintro k ⟨T,σ,nx⟩ hk ⟨t1,t7,t8,t9,hlo⟩
   simp only at t1 t7 t8 t9
   have f1:(k:Int) < (xs.length:Int):=by omega
   have f2:(0:Int) ≤ (k:Int):=by omega
   have f3:=wrap_id (n:=(k:Int) + 1) (by omega) (by omega)
   have f4:=idx (xs:=xs) (k:=k) hk
   have f5:=slot_ne (c:=cI) (s:=1) (fun _ => rfl) (by omega) xs k hk
   by_cases e:xs[k] = m
   ·have e':(xs[k] == m) = true:=by simpa using e
    refine .inr ⟨_,by simp only [go_sem,t1,t7,t8,t9,f1,f2,f4,f5,hk,e']; rfl,by simp,_,_,_,.inr ⟨rfl,by simp only [go_sem],?_⟩⟩
    rw [← e]; exact List.getElem_mem hk
   ·have e':(xs[k] == m) = false:=by simpa using e
    refine .inl ⟨_,by simp only [go_sem,t1,t7,t8,t9,f1,f2,f3,f4,f5,hk,e']; rfl,?_⟩
    simp only [go_sem,t1,t7,t8]
    refine ⟨rfl,fun i hi hik => ?_⟩
    by_cases h':i = k
    ·subst h'; exact e
    ·exact hlo i hi (by omega)) (by
   clear hL
   rintro ⟨T,σ,nx⟩ ⟨t1,t7,t8,t9,hlo⟩
   simp only at t1 t7 t8 t9
   refine ⟨_,by simp only [go_sem,t8,t9,Int.lt_irrefl]; rfl,by simp,_,_,_,.inl ⟨rfl,fun hm => ?_⟩⟩
   obtain ⟨i,hi,e⟩:=List.getElem_of_mem hm
   exact hlo i hi hi e) (by
   simp only [go_sem]
   exact fun i _ h => absurd h (Nat.not_lt_zero _))
 obtain ⟨T,σ,nx,⟨rfl,hm⟩ | ⟨rfl,t4,hm⟩⟩:=hx
 ·rw [decide_eq_false hm]
  simp only [go_sem]
 ·rw [decide_eq_true hm]
  simp only [go_sem,t4]
end Go.Proofs.YtoccmbjfkbemcaaGreat
namespace Go.Proofs.YtoccmbjfkbemcaaGreat
open Go Go.TV Go.Plan
attribute [-go_sem] app_rs
theorem freeze_keep (ids:List Nat):∀ {σ:Store} {b:Nat} {c:List V} {st:Nat} {wr:Bool},σ b = some ⟨c,st,wr⟩→∃ wr',freezeL σ ids b = some ⟨c,st,wr'⟩:=by
 induction ids with
 | nil => intro σ b c st wr h; exact ⟨wr,h⟩
 | cons i ids ih =>
  intro σ b c st wr h
  unfold freezeL
  by_cases e:b = i
  ·subst e
   exact ih (σ:=upd σ b ((σ b).map fun B => { B with wr:=false })) (wr:=false) (by rw [upd_same,h]; rfl)
  ·exact ih (wr:=wr) (by rw [upd_ne _ _ e]; exact h)
theorem behind_keep {σ:Store} {ids:List Nat} {t:V} {b:Nat} {c:List V} {st:Nat} {wr:Bool} (h:σ b = some ⟨c,st,wr⟩):∃ wr',behind σ ids t b = some ⟨c,st,wr'⟩:=by
 unfold behind
 split
 ·exact ⟨wr,h⟩
 ·exact freeze_keep ids h
noncomputable def blk (y:Yard) (fr to:Int) (i:Nat):Bool:=!((i:Int) == fr) && (!((i:Int) == to) && (alB (safeL y) i && decide (stp y ((safeL y).set i false) to fr.toNat < 0)))
noncomputable def blockI (y:Yard) (fr to:Int):List Int:=if planOk y fr to = true then tru (blk y fr to) y.stances.length else []
theorem bools_sc (bs:List Bool):((bs.flatMap cBo).all isSc) = true:=by
 induction bs with
 | nil => rfl
 | cons b bs ih => exact ih
theorem cloneBe (bs:List Bool) (hb:bs.length ≤ 1000) (hne:bs.length ≠ 0) (nx:Nat):cloneK 1 [LL cBo bs] noStore nx = some (.rs nx 0 bs.length,evBox noStore nx (bs.flatMap cBo) 1,nx + 1):=by
 have hl:=slots_len (c:=cBo) (s:=1) (fun _ => rfl) bs
 have hc:(bs.flatMap cBo).all isCell = true:=by
  clear hb hne hl
  induction bs with
  | nil => rfl
  | cons b bs ih => exact ih
 show (if (bs.flatMap cBo).length = bs.length * 1∧bs.length ≤ 1000000∧_ then _ else _) = _
 rw [if_pos ⟨hl,by omega,hc⟩,if_neg hne]
set_option maxHeartbeats 4000000 in
set_option maxRecDepth 10000 in
theorem iBlockingO (y:Yard) (ho:okYard y) (fr to:Int) (nx:Nat):∃ v σ1 nx1 ids,ev Tryz.prog convS extS 13 [.agg (cYard y),I fr,I to] noStore nx = some (v,σ1,nx1)∧nx ≤ nx1∧Own σ1 1 v (LI (blockI y fr to)) ids∧∀ b ∈ ids,nx ≤ b∧b < nx1:=by
 obtain ⟨v,σ1,n1,ids,k1,hn1,o1,hi1⟩:=iFindPlan y ho fr to (nx + 1)
 have g1:=fun d => o1.gather (d':=d + 1) (by omega)
 unfold blockI
 obtain ⟨ok,eok⟩:∃ ok,ok = planOk y fr to:=⟨_,rfl⟩
 rw [← eok] at k1 ⊢
 obtain ⟨σa,ea⟩:∃ σa,σa = joinS (nx + 1) (upd noStore nx (some ⟨cYard y,0,true⟩)) σ1 ids:=⟨_,rfl⟩
 have a0:σa nx = some ⟨cYard y,0,true⟩:=by rw [ea,join_lt (by omega),upd_same]
 rw [ev_eqQ (rs:=[.tmp 6]) [] rfl Tryz.func13 rfl rfl (by kernel_rfl) (by kernel_rfl)]
 cases ok with
 | false =>
  rw [if_neg (by simp)]
  simp only [go_sem,k1,g1]
  exact ⟨_,_,_,[],rfl,by omega,own_of_nil _ _,by simp⟩
 | true =>
  rw [if_pos rfl]
  have eok':=eok
  unfold planOk at eok'
  have eok':=eok'.symm
  simp only [Bool.and_eq_true,decide_eq_true_eq] at eok'
  obtain ⟨hg,⟨hf0,hf1⟩,_⟩:=eok'
  have hG:=of_pb hg
  have hn6:=hG.1
  obtain ⟨a,rfl⟩:∃ a:Nat,fr = (a:Int):=⟨fr.toNat,by omega⟩
  have ha:a < y.stances.length:=by omega
  have k2:=iSafe y ho hn6
  have hsl:=safeL_len y
  obtain ⟨S,eS⟩:∃ S,S = safeL y:=⟨_,rfl⟩
  rw [← eS] at k2 hsl
  obtain ⟨wr,hb⟩:=behind_keep (ids:=[nx]) (t:=LL cBo S) a0
  obtain ⟨σb,eb⟩:∃ σb,σb = behind σa [nx] (LL cBo S):=⟨_,rfl⟩
  rw [← eb] at hb
  simp only [go_sem,k1,g1,← ea,a0,k2,← eb,hsl]
  generalize hL:evLoopI _ _ = z
  obtain ⟨x,rfl,T,σ',nx',rfl,hnx',hG',hB'⟩:=count_rule hL y.stances.length (fun k st => st.T 1 = I a∧st.T 2 = I to∧st.T 3 = .rp nx 0∧st.T 9 = LL cBo S∧st.T 24 = I y.stances.length∧st.T 25 = I k∧nx < st.nx∧(∃ wr,st.σ nx = some ⟨cYard y,0,wr⟩)∧Grow st.T st.σ st.nx 10 (tru (blk y a to) k)∧∀ b o l,st.T 10 = .rs b o l→nx + 1 ≤ b)
   (fun x => ∃ T σ nx',x = (.exit 0,⟨T,σ,nx'⟩)∧nx < nx'∧Grow T σ nx' 10 (tru (blk y a to) y.stances.length)∧∀ b o l,T 10 = .rs b o l→nx + 1 ≤ b) (by
    clear hL
    rintro k ⟨T,σ,m⟩ hk ⟨t1,t2,t3,t9,t24,t25,hm,⟨wr,hσ⟩,hGr,hB⟩
    simp only at t1 t2 t3 t9 t24 t25 hm hσ hGr hB
    have f1:(k:Int) < (y.stances.length:Int):=by omega
    have f2:(0:Int) ≤ (k:Int):=by omega
    have f3:=wrap_id (n:=(k:Int) + 1) (by omega) (by omega)
    have hkS:k < S.length:=by omega
    have f4:(S.flatMap cBo)[k]? = some (Bo (alB S k)):=by rw [alB_get hkS]; exact slot1 (fun b => Bo b) S k hkS
    have f5:=slot_ne (c:=cBo) (s:=1) (fun _ => rfl) (by omega) S k hkS
    by_cases c1:(k:Int) = (a:Int)
    ·have c1':((k:Int) == (a:Int)) = true:=by simpa using c1
     have hq:blk y a to k = false:=by unfold blk; rw [c1']; rfl
     refine .inl ⟨_,by simp only [go_sem,t1,t2,t3,t9,t24,t25,f1,f2,f3,c1']; rfl,?_⟩
     simp only [go_sem,t1,t2,t3,t9,t24]
     rw [tru_no hq]
     exact ⟨rfl,hm,⟨wr,hσ⟩,grow_eq (by simp only [go_sem]) hGr,hB⟩
    have c1':((k:Int) == (a:Int)) = false:=by simpa using c1
    by_cases c2:(k:Int) = to
    ·have c2':((k:Int) == to) = true:=by simpa using c2
     have hq:blk y a to k = false:=by unfold blk; rw [c2']; simp
     refine .inl ⟨_,by simp only [go_sem,t1,t2,t3,t9,t24,t25,f1,f2,f3,c1',c2']; rfl,?_⟩
     simp only [go_sem,t1,t2,t3,t9,t24]
     rw [tru_no hq]
     exact ⟨rfl,hm,⟨wr,hσ⟩,grow_eq (by simp only [go_sem]) hGr,hB⟩
    have c2':((k:Int) == to) = false:=by simpa using c2
    cases hs:alB S k with
    | false =>
     rw [hs] at f4
     have hq:blk y a to k = false:=by unfold blk; rw [← eS,hs]; simp
     refine .inl ⟨_,by simp only [go_sem,t1,t2,t3,t9,t24,t25,f1,f2,f3,f4,f5,hk,hsl,c1',c2']; rfl,?_⟩
     simp only [go_sem,t1,t2,t3,t9,t24]
     rw [tru_no hq]
     exact ⟨rfl,hm,⟨wr,hσ⟩,grow_eq (by simp only [go_sem]) hGr,hB⟩
    | true =>
     rw [hs] at f4
     have kc:cloneK 1 [.ts (S.flatMap cBo) S.length] noStore m = some (.rs m 0 S.length,evBox noStore m (S.flatMap cBo) 1,m + 1):=cloneBe S (by omega) (by omega) m
     rw [hsl] at kc
     have oc:Own (evBox noStore m (S.flatMap cBo) 1) 1 (.rs m 0 y.stances.length) (LL cBo S) [m]:=by
      have k0:=ownL_scs (evBox noStore m (S.flatMap cBo) 1) 0 (bools_sc S)
      refine ⟨?_,by simp⟩
      simp only [own,evBox,upd_same] at k0 ⊢
      rw [if_pos ⟨trivial,trivial,by rw [slots_len (c:=cBo) (s:=1) (fun _ => rfl)]; omega⟩,k0]
      show some (V.ts _ y.stances.length,_) = some (V.ts _ S.length,_)
      rw [hsl]
     have gc:=fun d => oc.gather (d':=d + 1) (by omega)
     unfold evBox at kc gc
     obtain ⟨σ2,e2⟩:∃ σ2,σ2 = joinS m σ (upd noStore m (some ⟨S.flatMap cBo,1,true⟩)) [m]:=⟨_,rfl⟩
     have b2:σ2 m = some ⟨S.flatMap cBo,1,true⟩:=by rw [e2,join_in (by omega) (by simp),upd_same]
     have l2:∀ q,q < m→σ2 q = σ q:=fun q h => by rw [e2,join_lt h]
     have hset:=cBo_set S k false
     have hfl:(S.flatMap cBo).length = y.stances.length:=by rw [slots_len (c:=cBo) (s:=1) (fun _ => rfl),hsl,Nat.mul_one]
     obtain ⟨σ3,e3⟩:∃ σ3,σ3 = upd σ2 m (some ⟨(S.set k false).flatMap cBo,1,true⟩):=⟨_,rfl⟩
     have b3:σ3 nx = some ⟨cYard y,0,wr⟩:=by rw [e3,upd_ne _ _ (by omega),l2 nx hm]; exact hσ
     have st3:=fun d => bo_strip (σ:=σ3) (b:=m) (xs:=S.set k false) (by rw [e3,upd_same]) (n:=y.stances.length) (by rw [List.length_set,hsl]) d
     have k4:=iSteps y hG (by omega) to (S.set k false) (by rw [List.length_set,hsl])
     obtain ⟨out,eo⟩:∃ out,out = stp y (S.set k false) to:=⟨_,rfl⟩
     rw [← eo] at k4
     have la:=labs_at (n:=y.stances.length) out ha
     have ll:=labs_len y.stances.length out
     have lne:(labs y.stances.length out).flatMap cI ≠ []:=fun e => by
      have h:=cI_len (labs y.stances.length out)
      rw [e,ll] at h
      have h:0 = y.stances.length:=h
      omega
     have ia0:(0:Int) ≤ (a:Int):=by omega
     have ia1:(a:Int) < (y.stances.length:Int):=by omega
     have z1:¬nx = m:=by omega
     have z2:¬m = nx:=by omega
     obtain ⟨σ4,e4⟩:∃ σ4,σ4 = behind σ3 [nx,m] (LI (labs y.stances.length out)):=⟨_,rfl⟩
     obtain ⟨wr4,h4⟩:=behind_keep (ids:=[nx,m]) (t:=LI (labs y.stances.length out)) b3
     rw [← e4] at h4
     have hG4:Grow T σ4 (m + 1) 10 (tru (blk y a to) k):=by
      rcases hGr with h | ⟨b,h1,h2,h3,h5⟩
      ·exact .inl h
      ·have hb:=hB b 0 _ h1
       refine .inr ⟨b,h1,h2,?_,by omega⟩
       rw [e4,behind_ne (by simp only [List.contains_cons,List.contains_nil,Bool.or_false,Bool.or_eq_false_iff,beq_eq_false_iff_ne]; omega),e3,upd_ne _ _ (by omega),l2 b h5]
       exact h3
     have hbl:blk y a to k = decide (out a < 0):=by
      unfold blk
      rw [c1',c2',← eS,hs,← eo,Int.toNat_natCast]; simp
     have hle:=tru_len (blk y a to) k
     by_cases c3:out a < 0
     ·rw [decide_eq_true c3] at hbl
      obtain ⟨σ5,h5,h6,_⟩:=grow_append2 hG4 (k:Int) (by omega)
      obtain ⟨σ5',h5,h6,h7⟩:∃ σ',appendTo (upd σ4 (m + 1) (some ⟨[I (k:Int)],1,true⟩)) (m + 1 + 1) 1 8 (T 10) [I (k:Int)] 1 = some (.rs (m + 1 + 1) 0 ((tru (blk y a to) k).length + 1),σ',m + 1 + 1 + 1)∧σ' (m + 1 + 1) = some ⟨(tru (blk y a to) k ++ [(k:Int)]).flatMap cI,1,true⟩∧∀ c,c < m + 1→(∀ b o l,T 10 = .rs b o l→¬c = b)→σ' c = σ4 c:=grow_append2 hG4 (k:Int) (by omega)
      refine .inl ⟨_,by simp only [go_sem,call_inl,t1,t2,t3,t9,t24,t25,f1,f2,f3,f4,f5,hk,hsl,c1',c2',kc,gc,← e2,b2,hset,hfl,← e3,b3,st3,k4,← e4,ll,lne,la,ha,ia0,ia1,c3,h5,z1,z2]; rfl,?_⟩
      simp only [go_sem,t1,t2,t3,t9,t24]
      rw [tru_yes hbl]
      refine ⟨rfl,by omega,⟨wr4,by rw [h7 nx (by omega) fun b o l h => by have:=hB b o l h; omega]; exact h4⟩,grow_new h6 (by simp only [go_sem,List.length_append]) (by simp),fun b o l h => by (cases h; omega)⟩
     ·rw [decide_eq_false c3] at hbl
      refine .inl ⟨_,by simp only [go_sem,call_inl,t1,t2,t3,t9,t24,t25,f1,f2,f3,f4,f5,hk,hsl,c1',c2',kc,gc,← e2,b2,hset,hfl,← e3,b3,st3,k4,← e4,ll,lne,la,ha,ia0,ia1,c3,z1,z2]; rfl,?_⟩
      simp only [go_sem,t1,t2,t3,t9,t24]
      rw [tru_no hbl]
      exact ⟨rfl,by omega,⟨wr4,h4⟩,grow_eq (by simp only [go_sem]) hG4,hB⟩) (by
    clear hL
    rintro ⟨T,σ,m⟩ ⟨t1,t2,t3,t9,t24,t25,hm,hσ,hGr,hB⟩
    simp only at t1 t2 t3 t9 t24 t25 hm hσ hGr hB
    exact ⟨_,by simp only [go_sem,t24,t25,Int.lt_irrefl]; rfl,by simp,_,_,_,rfl,hm,grow_eq (by simp only [go_sem]) hGr,by simpa only [go_sem] using hB⟩) (by
    simp only [go_sem]
    exact ⟨by omega,⟨wr,hb⟩,.inl ⟨by simp only [go_sem],rfl⟩,fun b o l h => by (cases h)⟩)
  obtain ⟨ids,ho9,hi9⟩:=grow_own hG' hB'
  simp only [go_sem]
  exact ⟨_,_,_,ids,rfl,by omega,ho9,fun b hb => by have:=hi9 b hb; omega⟩
end Go.Proofs.YtoccmbjfkbemcaaGreat
