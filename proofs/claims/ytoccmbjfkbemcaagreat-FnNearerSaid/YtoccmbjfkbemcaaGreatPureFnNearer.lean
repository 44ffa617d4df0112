import Derived.Test.YtoccmbjfkbemcaaGreatTb5
set_option linter.unusedSimpArgs false
set_option linter.unusedVariables false
set_option linter.unusedSectionVars false
namespace Go.Proofs.YtoccmbjfkbemcaaGreat
open Go Go.TV Go.Plan
attribute [-go_sem] app_rs
theorem code_rng {x0:List Int} (h0:okL 1 (fun n => (Lit.int .u8 n).wf = true) x0):∀ x ∈ x0,0 ≤ x∧x ≤ 255:=fun x hx => by
 have:=h0.1 x hx
 simp only [Lit.wf,Bool.and_eq_true,decide_eq_true_eq] at this
 have m1:IntKind.u8.min = 0:=by decide
 have m2:IntKind.u8.max = 255:=by decide
 rw [m1,m2] at this
 exact this
theorem rem_nat {r:Int} {n:Nat} (h:0 ≤ r) (hn:n ≠ 0):∃ a:Nat,r.tmod (n:Int) = (a:Int)∧a < n:=by
 rw [Int.tmod_eq_emod_of_nonneg h]
 have h1:=Int.emod_nonneg r (b:=(n:Int)) (by omega)
 have h2:=Int.emod_lt_of_pos r (b:=(n:Int)) (by omega)
 exact ⟨(r % (n:Int)).toNat,by omega,by omega⟩
namespace Pure
set_option maxHeartbeats 2000000 in
set_option maxRecDepth 10000 in
theorem FnNearer (x0:(List Int)) (h0:(okL 1 (fun n => (Lit.int .u8 n).wf = true)) x0) :
  fn Tryz.prog convS extS 3 [LL (fun n:Int => [.sc (.int .u8 n)]) x0] = some (Bo true):=by
 by_cases hs:(1048576:Int) < (x0.length:Int)
 ·rw [fn_eq,ev_eqQ (rs:=[.tmp 2]) [] rfl Tryz.func3 rfl rfl (by kernel_rfl) (by kernel_rfl)]
  simp only [go_sem,hs]
 have hx:=code_rng h0
 have hl:x0.length ≤ 1048576:=by omega
 obtain ⟨y,k1_,hG,ho,hn2⟩:=sMakeYard x0 hx hl
 have k1:fn Tryz.prog conv ext 5 [LL (fun n:Int => [.sc (.int .u8 n)]) x0] = some (.agg (cYard y)):=k1_
 obtain ⟨r1,k2_,a2⟩:=sMakeNum x0 hx hl 40 (by decide)
 have k2:fn Tryz.prog conv ext 7 [LL (fun n:Int => [.sc (.int .u8 n)]) x0,I 40] = some (I r1):=k2_
 obtain ⟨r2,k3_,a3⟩:=sMakeNum x0 hx hl 42 (by decide)
 have k3:fn Tryz.prog conv ext 7 [LL (fun n:Int => [.sc (.int .u8 n)]) x0,I 42] = some (I r2):=k3_
 have k4:=iYardOk y ho
 rw [pb_true hG] at k4
 obtain ⟨fr,efr,hfr⟩:=rem_nat (n:=y.stances.length) a2.1 (by omega)
 obtain ⟨to,eto,hto⟩:=rem_nat (n:=y.stances.length) a3.1 (by omega)
 have hnn:¬(y.stances.length:Int) = 0:=by omega
 have k5:=iLeastStances y ho fr to
 rw [planI_lst hG hfr hto] at k5
 have k6:=iNextStancesS y ho fr
 have en:nextL y (fr:Int) = toInts (nexts y fr):=by
  unfold nextL
  rw [if_pos ⟨pb_true hG,by omega,by omega⟩]
  exact tru_nexts y fr
 rw [en] at k6
 obtain ⟨L,eL⟩:∃ L,L = toInts (nexts y fr):=⟨_,rfl⟩
 rw [← eL] at k6
 have hLl:L.length ≤ 6:=by
  rw [eL,toInts_len]
  exact Nat.le_trans (nexts_le y fr) hG.1
 have hLm:∀ k,k ∈ L ↔ ∃ j:Nat,k = (j:Int)∧j < y.stances.length∧mvY y fr j = true:=fun k => by
  rw [eL]
  unfold toInts nexts
  rw [List.mem_map]
  constructor
  ·rintro ⟨j,hj,rfl⟩
   rw [List.mem_filter,List.mem_range] at hj
   exact ⟨j,rfl,hj.1,hj.2⟩
  ·rintro ⟨j,rfl,h1,h2⟩
   exact ⟨j,by rw [List.mem_filter,List.mem_range]; exact ⟨h1,h2⟩,rfl⟩
 obtain ⟨F,eF⟩:∃ F:Int→Int,F = fun k => lst (mvY y) (alB (safeL y)) to k.toNat:=⟨_,rfl⟩
 have Fle:∀ k,-1 ≤ F k∧F k ≤ 100:=fun k => by
  rw [eF]
  simp only
  unfold lst
  split
  ·rename_i hd
   have:=dst_lt (mv:=mvY y) (al:=alB (safeL y)) (n:=y.stances.length) (to:=to) (a:=k.toNat) (fun i hi => by have:=alB_lt hi; rw [safeL_len] at this; exact this) hd
   have:=hG.1
   omega
  ·omega
 obtain ⟨D,eD⟩:∃ D,D = lst (mvY y) (alB (safeL y)) to fr:=⟨_,rfl⟩
 rw [← eD] at k5
 have tt:LL (fun n:Int => [V.sc (.int .u8 n)]) x0 = .ts (x0.flatMap fun n:Int => [V.sc (.int .u8 n)]) x0.length:=rfl
 rw [fn_eq,ev_eqQ (rs:=[.tmp 2]) [] rfl Tryz.func3 rfl rfl (by kernel_rfl) (by kernel_rfl)]
 simp only [go_sem,hs,k1,k2,k3,k4,hnn,efr,eto,k5,k6]
 generalize hL:evLoopI _ _ = z
 obtain ⟨x,rfl,T,σ,nx,rfl,t3,t5,t6,t7,t8,hnx,hσ⟩:=count_rule hL L.length (fun j st => st.T 3 = .rp 0 0∧st.T 5 = I fr∧st.T 6 = I to∧st.T 7 = I D∧st.T 8 = I (best F (L.take j))∧st.T 37 = LI L∧st.T 38 = I L.length∧st.T 39 = I j∧0 < st.nx∧∃ wr,st.σ 0 = some ⟨cYard y,0,wr⟩)
  (fun x => ∃ T σ nx,x = (.exit 0,⟨T,σ,nx⟩)∧T 3 = .rp 0 0∧T 5 = I fr∧T 6 = I to∧T 7 = I D∧T 8 = I (best F L)∧0 < nx∧∃ wr,σ 0 = some ⟨cYard y,0,wr⟩) (by
   clear hL
   rintro j ⟨T,σ,nx⟩ hj ⟨t3,t5,t6,t7,t8,t37,t38,t39,hnx,wr,hσ⟩
   simp only at t3 t5 t6 t7 t8 t37 t38 t39 hnx hσ
   have f1:(j:Int) < (L.length:Int):=by omega
   have f2:(0:Int) ≤ (j:Int):=by omega
   have f3:=wrap_id (n:=(j:Int) + 1) (by omega) (by omega)
   have f4:=idx (xs:=L) (k:=j) hj
   have f5:=slot_ne (c:=cI) (s:=1) (fun _ => rfl) (by omega) L j hj
   obtain ⟨q,eq,hq1,_⟩:=(hLm L[j]).mp (List.getElem_mem hj)
   have bt:=best_take F L hj
   rw [eq] at f4 bt
   have k7:=iLeastStances y ho q to
   rw [planI_lst hG hq1 hto] at k7
   have eFq:lst (mvY y) (alB (safeL y)) to q = F (q:Int):=by rw [eF]; simp only [Int.toNat_natCast]
   rw [eFq] at k7
   obtain ⟨B,eB⟩:∃ B,B = best F (L.take j):=⟨_,rfl⟩
   rw [← eB] at t8 bt
   by_cases c1:0 < F q
   ·by_cases c2:B = 0
    ·have c2':(B == 0) = true:=by simpa using c2
     have e:bstep F B q = F q:=by unfold bstep; rw [if_pos ⟨c1,.inl c2⟩]
     refine .inl ⟨_,by simp only [go_sem,t3,t5,t6,t7,t8,t37,t38,t39,hσ,f1,f2,f3,f4,f5,hj,k7,c1,c2']; rfl,?_⟩
     simp only [go_sem,t3,t5,t6,t7,t37,t38]
     exact ⟨by rw [bt,e],rfl,by omega,wr,hσ⟩
    ·have c2':(B == 0) = false:=by simpa using c2
     by_cases c3:F q < B
     ·have e:bstep F B q = F q:=by unfold bstep; rw [if_pos ⟨c1,.inr c3⟩]
      refine .inl ⟨_,by simp only [go_sem,t3,t5,t6,t7,t8,t37,t38,t39,hσ,f1,f2,f3,f4,f5,hj,k7,c1,c2',c3]; rfl,?_⟩
      simp only [go_sem,t3,t5,t6,t7,t37,t38]
      exact ⟨by rw [bt,e],rfl,by omega,wr,hσ⟩
     ·have e:bstep F B q = B:=by unfold bstep; rw [if_neg (fun h => by rcases h.2 with h | h; exact c2 h; exact c3 h)]
      refine .inl ⟨_,by simp only [go_sem,t3,t5,t6,t7,t8,t37,t38,t39,hσ,f1,f2,f3,f4,f5,hj,k7,c1,c2',c3]; rfl,?_⟩
      simp only [go_sem,t3,t5,t6,t7,t8,t37,t38]
      exact ⟨by rw [bt,e],rfl,by omega,wr,hσ⟩
   ·have e:bstep F B q = B:=by unfold bstep; rw [if_neg (fun h => c1 h.1)]
    refine .inl ⟨_,by simp only [go_sem,t3,t5,t6,t7,t8,t37,t38,t39,hσ,f1,f2,f3,f4,f5,hj,k7,c1]; rfl,?_⟩
    simp only [go_sem,t3,t5,t6,t7,t8,t37,t38]
    exact ⟨by rw [bt,e],rfl,by omega,wr,hσ⟩) (by
   clear hL
   rintro ⟨T,σ,nx⟩ ⟨t3,t5,t6,t7,t8,t37,t38,t39,hnx,hσ⟩
   simp only at t3 t5 t6 t7 t8 t37 t38 t39 hnx hσ
   rw [List.take_length] at t8
   refine ⟨_,by simp only [go_sem,t38,t39,Int.lt_irrefl]; rfl,by simp,_,_,_,rfl,by simp only [go_sem,t3],by simp only [go_sem,t5],by simp only [go_sem,t6],by simp only [go_sem,t7],by simp only [go_sem,t8],hnx,hσ⟩) (by
   simp only [go_sem]
   first | exact rfl | exact ⟨rfl,_,rfl⟩ | exact ⟨rfl,by omega,_,rfl⟩)
 obtain ⟨wr,hσ⟩:=hσ
 obtain ⟨v,σ1,n1,ids,k8,hn1,o1,hi1⟩:=iSafeStancesO y ho nx
 have g1:=fun d => o1.gather (d':=d + 1) (by omega)
 have o2:Own (joinS nx σ σ1 ids) 1 v (LI (safeI y)) ids:=o1.join fun b hb => (hi1 b hb).1
 have s2:=fun d => o2.strip (d':=d + 1) (by omega)
 have hsl:(safeI y).length ≤ 1000000:=by
  unfold safeI
  split
  ·exact Nat.le_trans (tru_len _ _) (by have:=hG.1; omega)
  ·exact Nat.zero_le _
 have k9:=lHas (safeI y) (fr:Int) hsl
 have hmem:((fr:Int) ∈ safeI y) ↔ alB (safeL y) fr = true:=by
  unfold safeI
  rw [if_pos (pb_true hG),mem_tru]
  exact ⟨fun h => h.2,fun h => ⟨hfr,h⟩⟩
 by_cases hsafe:alB (safeL y) fr = true
 ·rw [decide_eq_true (hmem.mpr hsafe)] at k9
  by_cases hft:fr = to
  ·have e1:((fr:Int) == (to:Int)) = true:=by simp [hft]
   have hD:D = 1:=by
    rw [eD,← hft]
    unfold lst
    rw [dst_self hsafe]; rfl
   have e2:(D == 1) = true:=by simpa using hD
   simp only [go_sem,t3,t5,t6,t7,t8,hσ,k8,g1,s2,k9,e1,e2]
  ·have e1:((fr:Int) == (to:Int)) = false:=by rw [beq_eq_false_iff_ne]; omega
   have hnr:=nearer (mv:=mvY y) (al:=alB (safeL y)) (n:=y.stances.length) (fr:=fr) (to:=to) (fun i hi => by have:=alB_lt hi; rw [safeL_len] at this; exact this) L hLm hsafe hft
   rw [← eF,← eD] at hnr
   rcases hnr with ⟨h1,h2⟩ | ⟨h1,h2⟩
   ·have e2:(D == 0) = true:=by simpa using h1
    have e3:(best F L == 0) = true:=by simpa using h2
    simp only [go_sem,t3,t5,t6,t7,t8,hσ,k8,g1,s2,k9,e1,e2,e3]
   ·have hb:best F L ≤ 100:=by
     have hbi:=best_is F L
     rcases hbi with ⟨h,_⟩ | ⟨k,_,h,_⟩
     ·omega
     ·have:=Fle k; omega
    have w9:=wrap_id (n:=best F L + 1) (by omega) (by omega)
    have e2:(D == 0) = false:=by rw [beq_eq_false_iff_ne]; omega
    have e3:(D == best F L + 1) = true:=by simpa using h1
    simp only [go_sem,t3,t5,t6,t7,t8,hσ,k8,g1,s2,k9,e1,e2,w9,e3,h2]
 ·rw [decide_eq_false (fun h => hsafe (hmem.mp h))] at k9
  have hD:D = 0:=by
   rw [eD]
   unfold lst
   rw [if_neg]
   intro hd
   exact hsafe (dst_al hd).1
  have e2:(D == 0) = true:=by simpa using hD
  simp only [go_sem,t3,t5,t6,t7,t8,hσ,k8,g1,s2,k9,e2]
end Pure
end Go.Proofs.YtoccmbjfkbemcaaGreat
