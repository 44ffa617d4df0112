import Derived.Test.YtoccmbjfkbemcaaGreatTb5
set_option linter.unusedSimpArgs false
set_option linter.unusedVariables false
set_option linter.unusedSectionVars false
namespace Go.Proofs.YtoccmbjfkbemcaaGreat
open Go Go.TV Go.Plan
attribute [-go_sem] app_rs
theorem code_rng {x0:List Int} (h0:okL 1 (fun n => (Lit.int .u8 n).wf = true) x0):∀ x ∈ x0,0 ≤ x∧x ≤ 255:=fun x hx => by
 have:=h0.1 x hx
 simp only [Lit.wf,Bool.and_eq_true,decide_eq_true_eq] at this
 have m1:IntKind.u8.min = 0:=by decide
 have m2:IntKind.u8.max = 255:=by decide
 rw [m1,m2] at this
 exact this
theorem rem_nat {r:Int} {n:Nat} (h:0 ≤ r) (hn:n ≠ 0):∃ a:Nat,r.tmod (n:Int) = (a:Int)∧a < n:=by
 rw [Int.tmod_eq_emod_of_nonneg h]
 have h1:=Int.emod_nonneg r (b:=(n:Int)) (by omega)
 have h2:=Int.emod_lt_of_pos r (b:=(n:Int)) (by omega)
 exact ⟨(r % (n:Int)).toNat,by omega,by omega⟩
theorem alB_set (S:List Bool) (i:Nat):alB (S.set i false) = fun j => alB S j && decide (j ≠ i):=by
 funext j
 unfold alB
 rw [List.getD_eq_getElem?_getD,List.getD_eq_getElem?_getD,List.getElem?_set]
 by_cases h:i = j
 ·subst h
  rw [if_pos rfl]
  by_cases hl:i < S.length
  ·simp [hl]
  ·simp [hl]
 ·rw [if_neg h]
  have:decide (j ≠ i) = true:=by simp; omega
  rw [this,Bool.and_true]
theorem blk_told {y:Yard} {fr i:Nat} {to:Int} (hok:planOk y fr to = true) (hb:blk y fr to i = true):(i:Int) ∈ planI y fr to∧¬(i:Int) = fr∧¬(i:Int) = to:=by
 unfold blk at hb
 simp only [Bool.and_eq_true,Bool.not_eq_true',beq_eq_false_iff_ne,decide_eq_true_eq] at hb
 obtain ⟨h1,h2,h3,h4⟩:=hb
 refine ⟨?_,h1,h2⟩
 have hok':=hok
 unfold planOk at hok'
 simp only [Bool.and_eq_true,decide_eq_true_eq] at hok'
 obtain ⟨_,⟨_,hf1⟩,h5⟩:=hok'
 obtain ⟨ht,es⟩:=stp_dst h5
 unfold planI
 rw [if_pos hok,es,Int.toNat_natCast]
 rw [es,Int.toNat_natCast] at h5
 unfold stp at h4
 rw [if_pos ht,alB_set,Int.toNat_natCast] at h4
 refine Classical.byContradiction fun hn => ?_
 have hn':i ∉ plan (mvY y) (dst (mvY y) (alB (safeL y)) to.toNat) y.stances.length fr:=fun hm => hn (by unfold toInts; exact List.mem_map.mpr ⟨i,hm,rfl⟩)
 have:=way_plan (mv:=mvY y) (al:=alB (safeL y)) (n:=y.stances.length) (to:=to.toNat) (fun i hi => by have:=alB_lt hi; rw [safeL_len] at this; exact this) h5 (fun j => decide (j ≠ i)) fun j hj => by
  rw [decide_eq_true_eq]
  intro e
  exact hn' (e ▸ hj)
 omega
namespace Pure
set_option maxHeartbeats 2000000 in
set_option maxRecDepth 10000 in
theorem FnBlocking (x0:(List Int)) (h0:(okL 1 (fun n => (Lit.int .u8 n).wf = true)) x0) :
  fn Tryz.prog convS extS 4 [LL (fun n:Int => [.sc (.int .u8 n)]) x0] = some (Bo true):=by
 by_cases hs:(1048576:Int) < (x0.length:Int)
 ·rw [fn_eq,ev_eqQ (rs:=[.tmp 2]) [] rfl Tryz.func4 rfl rfl (by kernel_rfl) (by kernel_rfl)]
  simp only [go_sem,hs]
 have hx:=code_rng h0
 have hl:x0.length ≤ 1048576:=by omega
 obtain ⟨y,k1_,hG,ho,hn2⟩:=sMakeYard x0 hx hl
 have k1:fn Tryz.prog conv ext 5 [LL (fun n:Int => [.sc (.int .u8 n)]) x0] = some (.agg (cYard y)):=k1_
 obtain ⟨r1,k2_,a2⟩:=sMakeNum x0 hx hl 40 (by decide)
 have k2:fn Tryz.prog conv ext 7 [LL (fun n:Int => [.sc (.int .u8 n)]) x0,I 40] = some (I r1):=k2_
 obtain ⟨r2,k3_,a3⟩:=sMakeNum x0 hx hl 42 (by decide)
 have k3:fn Tryz.prog conv ext 7 [LL (fun n:Int => [.sc (.int .u8 n)]) x0,I 42] = some (I r2):=k3_
 have k4:=iYardOk y ho
 rw [pb_true hG] at k4
 obtain ⟨fr,efr,hfr⟩:=rem_nat (n:=y.stances.length) a2.1 (by omega)
 obtain ⟨to,eto,hto⟩:=rem_nat (n:=y.stances.length) a3.1 (by omega)
 have hnn:¬(y.stances.length:Int) = 0:=by omega
 obtain ⟨v,σ1,n1,i1,k5,hn1,o1,hi1⟩:=iFindPlan y ho fr to 1
 have g1:=fun d => o1.gather (d':=d + 1) (by omega)
 obtain ⟨σa,ea⟩:∃ σa,σa = joinS 1 (upd noStore 0 (some ⟨cYard y,0,true⟩)) σ1 i1:=⟨_,rfl⟩
 have o1a:Own σa 1 v (LI (planI y fr to)) i1:=by rw [ea]; exact o1.join fun b hb => (hi1 b hb).1
 have a0:σa 0 = some ⟨cYard y,0,true⟩:=by rw [ea,join_lt (by omega),upd_same]
 obtain ⟨w,σ2,n2,i2,k6,hn2',o2,hi2⟩:=iBlockingO y ho fr to n1
 have g2:=fun d => o2.gather (d':=d + 1) (by omega)
 obtain ⟨σb,eb⟩:∃ σb,σb = joinS n1 σa σ2 i2:=⟨_,rfl⟩
 have o1b:Own σb 1 v (LI (planI y fr to)) i1:=by rw [eb]; exact o1a.joinLow fun b hb => (hi1 b hb).2
 have o2b:Own σb 1 w (LI (blockI y fr to)) i2:=by rw [eb]; exact o2.join fun b hb => (hi2 b hb).1
 have s1:=fun d => o1b.strip (d':=d + 1) (by omega)
 obtain ⟨Bk,eBk⟩:∃ Bk,Bk = blockI y fr to:=⟨_,rfl⟩
 rw [← eBk] at o2b
 have hBl:Bk.length ≤ 6:=by
  rw [eBk]; unfold blockI
  split
  ·exact Nat.le_trans (tru_len _ _) hG.1
  ·exact Nat.zero_le _
 have hBin:∀ k (hk:k < Bk.length),Bk[k] ∈ planI y fr to∧¬Bk[k] = (fr:Int)∧¬Bk[k] = (to:Int):=fun k hk => by
  have hm:=List.getElem_mem hk
  obtain ⟨q,eq⟩:∃ q,q = Bk[k]:=⟨_,rfl⟩
  rw [← eq] at hm ⊢
  rw [eBk] at hm
  unfold blockI at hm
  split at hm
  ·rename_i hok
   unfold tru at hm
   obtain ⟨i,hi,rfl⟩:=List.mem_map.mp hm
   rw [List.mem_filter] at hi
   exact blk_told hok hi.2
  ·cases hm
 have hB0:planOk y fr to = false→Bk = []:=fun h => by rw [eBk]; unfold blockI; rw [h,if_neg (by simp)]
 obtain ⟨ok,eok⟩:∃ ok,ok = planOk y fr to:=⟨_,rfl⟩
 rw [← eok] at k5 hB0
 have hlen:∀ t:TypeId,(tyI Tryz.prog t).slice = true→evLen Tryz.prog t w = some (I Bk.length):=fun t h => by
  rcases own_ints o2b with ⟨rfl,e,_⟩ | ⟨b,st,rfl,_⟩
  ·rw [evLen_nil h,e]; rfl
  ·rw [evLen_rs h]
 have hlen':=hlen 31 (by kernel_rfl)
 rw [fn_eq,ev_eqQ (rs:=[.tmp 2]) [] rfl Tryz.func4 rfl rfl (by kernel_rfl) (by kernel_rfl)]
 simp only [go_sem,hs,k1,k2,k3,k4,hnn,efr,eto,k5,g1,← ea,a0,k6,g2,← eb,hlen']
 generalize hL:evLoopI _ _ = z
 obtain ⟨x,rfl,T,nx,rfl,t8,t9⟩:=count_rule hL Bk.length (fun j st => st.T 5 = I fr∧st.T 6 = I to∧st.T 7 = v∧st.T 8 = Bo ok∧st.T 9 = w∧st.T 42 = w∧st.T 43 = I Bk.length∧st.T 44 = I j∧st.σ = σb)
  (fun x => ∃ T nx,x = (.exit 0,⟨T,σb,nx⟩)∧T 8 = Bo ok∧T 9 = w) (by
   clear hL
   rintro j ⟨T,σ,nx⟩ hj ⟨t5,t6,t7,t8,t9,t42,t43,t44,hσ⟩
   simp only at t5 t6 t7 t8 t9 t42 t43 t44 hσ
   subst hσ
   have f1:(j:Int) < (Bk.length:Int):=by omega
   have f2:(0:Int) ≤ (j:Int):=by omega
   have f3:=wrap_id (n:=(j:Int) + 1) (by omega) (by omega)
   have f4:=idx (xs:=Bk) (k:=j) hj
   obtain ⟨hq1,hq2,hq3⟩:=hBin j hj
   have k7:=lHas (planI y fr to) Bk[j] (planI_len _ _ _)
   rw [decide_eq_true hq1] at k7
   have c1:(Bk[j] == (fr:Int)) = false:=by simpa using hq2
   have c2:(Bk[j] == (to:Int)) = false:=by simpa using hq3
   obtain ⟨b,st,hw,_,hb,_⟩:∃ b st,w = .rs b 0 Bk.length∧i2 = [b]∧σ b = some ⟨Bk.flatMap cI,st,true⟩∧Bk.length * st = Bk.length:=by
    rcases own_ints o2b with ⟨_,e,_⟩ | h
    ·rw [e] at hj; exact absurd hj (Nat.not_lt_zero _)
    ·exact h
   refine .inl ⟨_,by simp only [go_sem,t5,t6,t7,t42,hw,t43,t44,hb,f1,f2,f3,f4,s1,k7,c1,c2]; rfl,?_⟩
   simp only [go_sem,t5,t6,t7,t8,t9,t42,t43]
   exact rfl) (by
   clear hL
   rintro ⟨T,σ,nx⟩ ⟨t5,t6,t7,t8,t9,t42,t43,t44,hσ⟩
   simp only at t5 t6 t7 t8 t9 t42 t43 t44 hσ
   subst hσ
   exact ⟨_,by simp only [go_sem,t43,t44,Int.lt_irrefl]; rfl,by simp,_,_,rfl,by simp only [go_sem,t8],by simp only [go_sem,t9]⟩) (by
   simp only [go_sem])
 cases ok with
 | true => simp only [go_sem,t8,t9]
 | false =>
  have hlen0:evLen Tryz.prog 31 w = some (I 0):=by rw [hlen',hB0 rfl]; rfl
  simp only [go_sem,t8,t9,hlen0]
end Pure
end Go.Proofs.YtoccmbjfkbemcaaGreat
