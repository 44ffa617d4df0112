import Derived.Test.YtoccmbjfkbemcaaGreatTb2
set_option linter.unusedSimpArgs false
set_option linter.unusedVariables false
set_option linter.unusedSectionVars false
namespace Go.Proofs.YtoccmbjfkbemcaaGreat
open Go Go.TV
theorem mul_inner {W bi bij w x b c y q v0 t:Int} (hq:y + 1000000000 * q = w + x * b + c) (hv:W + bij * c = v0 + bi * (x * t)) (hb:bij * (x * b) = bi * (x * (bij * b))∨True) :
  W + bij * (y - w) + 1000000000 * bij * q = v0 + bi * (x * t) + bij * (x * b):=by
 have:1000000000 * bij * q = bij * (1000000000 * q):=by grind
 rw [this]
 have e:bij * (y - w) + bij * (1000000000 * q) = bij * (x * b + c):=by rw [← Int.mul_add]; congr 1; omega
 rw [Int.mul_add] at e
 omega
theorem itimesL (m n:Nat) (hm:ln m ≤ 1000000) (hn:ln n ≤ 1000000):fn Tryz.prog conv ext 111 [LI (dg m),LI (dg n)] = some (LI (dg (m * n))):=by
 unfold ln at hm hn
 rw [fn_eq,ev_eqQ (rs:=[.tmp 4]) [] rfl Tryz.func111 rfl rfl (by kernel_rfl) (by kernel_rfl)]
 by_cases zm:m = 0
 ·subst zm
  rw [Nat.zero_mul,dg_zero]
  (simp only [go_sem]) <;> rfl
 have cm:((((dg m).length:Nat):Int) == 0) = false:=by rw [beq_eq_false_iff_ne]; have:=app_len (dg_ne zm); omega
 by_cases zn:n = 0
 ·subst zn
  rw [Nat.mul_zero,dg_zero]
  (simp only [go_sem,cm]) <;> rfl
 have cn:((((dg n).length:Nat):Int) == 0) = false:=by rw [beq_eq_false_iff_ne]; have:=app_len (dg_ne zn); omega
 have pn:0 < (dg n).length:=List.length_pos_iff.mpr (dg_ne zn)
 obtain ⟨e1,e2,e3⟩:=make_ok (k:=(dg m).length + (dg n).length) (by omega)
 have e0:((dg m).length:Int) + ((dg n).length:Int) = (((dg m).length + (dg n).length:Nat):Int):=by omega
 have e4:=wrap_id (n:=(((dg m).length + (dg n).length:Nat):Int)) (by omega) (by omega)
 simp only [go_sem,cm,cn,e0,e1,e2,e3,e4]
 generalize hL:evLoopI _ _ = y
 obtain ⟨r,rfl,T',σ',nx',P,rfl,h5,hnx,hσ,hP,hd,hv⟩:=count_rule hL (dg m).length (fun k st => st.T 1 = LI (dg n)∧st.T 5 = .rs 0 0 ((dg m).length + (dg n).length)∧st.T 26 = LI (dg m)∧st.T 27 = I (dg m).length∧st.T 28 = I k∧0 < st.nx∧∃ P,st.σ 0 = some ⟨fil P ((dg m).length - k),1,true⟩∧P.length = k + (dg n).length∧Dg P∧vl P = vl ((dg m).take k) * n)
  (fun r => ∃ T σ nx P,r = (.exit 0,⟨T,σ,nx⟩)∧T 5 = .rs 0 0 ((dg m).length + (dg n).length)∧0 < nx∧σ 0 = some ⟨P.flatMap cI,1,true⟩∧P.length = (dg m).length + (dg n).length∧Dg P∧vl P = (m * n:Nat)) (by
   clear hL
   rintro k ⟨T,σ,nx⟩ hlt ⟨h1,h5,h26,h27,h28,hnx,P,hσ,hP,hd,hv⟩
   simp only at h1 h5 h26 h27 h28 hnx hσ
   have f1:(k:Int) < ((dg m).length:Int):=by omega
   have f2:(0:Int) ≤ (k:Int):=by omega
   have f3:=wrap_id (n:=(k:Int) + 1) (by omega) (by omega)
   have f5:=slot_ne (c:=cI) (s:=1) (fun _ => rfl) (by omega) (dg m) k hlt
   have f6:=idx hlt
   obtain ⟨x,hx⟩:∃ x,x = (dg m)[k]:=⟨_,rfl⟩
   have xr:=(dg_Dg m).get hlt
   rw [← hx] at f6 xr
   have v1:=vl_take_succ hlt
   rw [← hx] at v1
   obtain ⟨g,hg⟩:∃ g,(dg m).length - k = g + 1:=⟨(dg m).length - k - 1,by omega⟩
   have hg':(dg m).length - (k + 1) = g:=by omega
   rw [hg] at hσ
   refine step_of ?_
   conv =>
    enter [1,r,1,1]
    simp only [go_sem,h1,h5,h26,h27,h28,hnx,f1,f2,f5,f6]
   generalize hL:evLoopI _ _ = z
   obtain ⟨r,rfl,T',σ',nx',c,W,rfl,h1,h5,h6,h8,h26,h27,h28,hnx,hσ,hW,hd,hv,hc0,hc1⟩:=count_rule hL (dg n).length (fun j st => st.T 1 = LI (dg n)∧st.T 5 = .rs 0 0 ((dg m).length + (dg n).length)∧st.T 6 = I k∧st.T 7 = I x∧st.T 26 = LI (dg m)∧st.T 27 = I (dg m).length∧st.T 28 = I k∧st.T 33 = LI (dg n)∧st.T 34 = I (dg n).length∧st.T 35 = I j∧0 < st.nx∧∃ c W,st.T 8 = I c∧st.σ 0 = some ⟨fil W (g + 1),1,true⟩∧W.length = k + (dg n).length∧Dg W∧vl W + bp (k + j) * c = vl ((dg m).take k) * n + bp k * (x * vl ((dg n).take j))∧0 ≤ c∧c < 1000000000)
    (fun r => ∃ T σ nx c W,r = (.exit 2,⟨T,σ,nx⟩)∧T 1 = LI (dg n)∧T 5 = .rs 0 0 ((dg m).length + (dg n).length)∧T 6 = I k∧T 8 = I c∧T 26 = LI (dg m)∧T 27 = I (dg m).length∧T 28 = I k∧0 < nx∧σ 0 = some ⟨fil W (g + 1),1,true⟩∧W.length = k + (dg n).length∧Dg W∧vl W + bp (k + (dg n).length) * c = vl ((dg m).take k) * n + bp k * (x * n)∧0 ≤ c∧c < 1000000000) (by
     clear hL
     rintro j ⟨T,σ,nx⟩ hj ⟨h1,h5,h6,h7,h26,h27,h28,h33,h34,h35,hnx,c,W,h8,hσ,hW,hd,hv,hc0,hc1⟩
     simp only at h1 h5 h6 h7 h8 h26 h27 h28 h33 h34 h35 hnx hσ
     have g1:(j:Int) < ((dg n).length:Int):=by omega
     have g2:(0:Int) ≤ (j:Int):=by omega
     have g3:=wrap_id (n:=(j:Int) + 1) (by omega) (by omega)
     have g5:=slot_ne (c:=cI) (s:=1) (fun _ => rfl) (by omega) (dg n) j hj
     have g6:=idx hj
     obtain ⟨b,hb⟩:∃ b,b = (dg n)[j]:=⟨_,rfl⟩
     have br:=(dg_Dg n).get hj
     rw [← hb] at g6 br
     have v2:=vl_take_succ hj
     rw [← hb] at v2
     have p0:(k:Int) + (j:Int) = ((k + j:Nat):Int):=by omega
     have p1:=wrap_id (n:=((k + j:Nat):Int)) (by omega) (by omega)
     have p2:(0:Int) ≤ ((k + j:Nat):Int):=by omega
     have p3:((k + j:Nat):Int) < (((dg m).length + (dg n).length:Nat):Int):=by omega
     have p4:k + j < W.length:=by omega
     have p5:=fil_get (o:=W) (g + 1) p4
     have p6:k + j < (fil W (g + 1)).length:=by rw [fil_len]; omega
     obtain ⟨w,hw⟩:∃ w,w = W[k + j]:=⟨_,rfl⟩
     have wr:=hd.get p4
     rw [← hw] at p5 wr
     have mm:=mul_lt9 (x:=x) (y:=b) (c:=c) (w:=w) xr br ⟨hc0,hc1⟩ wr
     have w1:=wrap_id (n:=x * b) (by omega) (by omega)
     have w2:=wrap_id (n:=w + x * b) (by omega) (by omega)
     have w3:=wrap_id (n:=w + x * b + c) (by omega) (by omega)
     obtain ⟨q1,q2⟩:=tdivmod (n:=w + x * b + c) (by omega)
     have w4:=wrap_id (n:=(w + x * b + c) / 1000000000) (by omega) (by omega)
     have c6:=fil_set_in (g + 1) ((w + x * b + c) % 1000000000) p4
     have vs:=vl_set p4 ((w + x * b + c) % 1000000000)
     rw [← hw] at vs
     refine .inl ⟨_,by simp only [go_sem,h1,h5,h6,h7,h8,h26,h27,h28,h33,h34,h35,hnx,hσ,g1,g2,g3,g5,g6,p0,p1,p2,p3,p5,p6,w1,w2,w3,w4,q1,q2,c6]; rfl,?_⟩
     simp only [go_sem,h1,h5,h6,h7,h26,h27,h28,h33,h34]
     refine ⟨rfl,hnx,_,_,rfl,rfl,by rw [List.length_set]; exact hW,hd.set _ (by omega) (by omega),?_,by omega,by omega⟩
     rw [vs,show k + (j + 1) = k + j + 1 by omega,bp_succ,mul_inner (c:=c) (x:=x) (b:=b) (by omega) hv (.inr trivial),v2,bp_add]
     grind) (by
     clear hL
     rintro ⟨T,σ,nx⟩ ⟨h1,h5,h6,h7,h26,h27,h28,h33,h34,h35,hnx,c,W,h8,hσ,hW,hd,hv,hc0,hc1⟩
     simp only at h1 h5 h6 h7 h8 h26 h27 h28 h33 h34 h35 hnx hσ
     rw [List.take_length,vl_dg] at hv
     refine ⟨_,by simp only [go_sem,h34,h35,Int.lt_irrefl]; rfl,by simp,_,_,_,c,W,rfl,?_⟩
     simp only [go_sem,h1,h5,h6,h8,h26,h27,h28]
     exact ⟨hnx,hσ,hW,hd,hv,hc0,hc1⟩) (by
     simp only [go_sem,h1,h5,h26,h27,h28]
     exact ⟨hnx,0,P,rfl,hσ,hP,hd,by rw [Int.mul_zero,hv]; simp [vl],Int.le_refl _,by decide⟩)
   have p0:(k:Int) + ((dg n).length:Int) = ((k + (dg n).length:Nat):Int):=by omega
   have p1:=wrap_id (n:=((k + (dg n).length:Nat):Int)) (by omega) (by omega)
   have p2:(0:Int) ≤ ((k + (dg n).length:Nat):Int):=by omega
   have p3:((k + (dg n).length:Nat):Int) < (((dg m).length + (dg n).length:Nat):Int):=by omega
   have p6:k + (dg n).length < (fil W (g + 1)).length:=by rw [fil_len]; omega
   have c6:=fil_set W g c hW
   refine ⟨_,by simp only [go_sem,h1,h5,h6,h8,h26,h27,h28,hnx,hσ,f3,p0,p1,p2,p3,p6,c6]; rfl,.inl ⟨_,rfl,?_⟩⟩
   simp only [go_sem,h1,h5,h26,h27,hg']
   refine ⟨rfl,hnx,_,rfl,by simp [hW]; omega,hd.snoc hc0 hc1,?_⟩
   rw [vl_snoc,hW,hv,v1]
   grind) (by
   clear hL
   rintro ⟨T,σ,nx⟩ ⟨h1,h5,h26,h27,h28,hnx,P,hσ,hP,hd,hv⟩
   simp only at h1 h5 h26 h27 h28 hnx hσ
   rw [Nat.sub_self,fil_full] at hσ
   refine ⟨_,by simp only [go_sem,h27,h28,Int.lt_irrefl]; rfl,by simp,_,_,_,P,rfl,by simp only [go_sem,h5],hnx,hσ,hP,hd,?_⟩
   rw [hv,List.take_length,vl_dg,Int.natCast_mul]) (by
   simp only [go_sem]
   refine ⟨List.replicate (dg n).length 0,?_,by simp,fun x hx => by rw [List.mem_replicate] at hx; omega,(vl_rep _).trans (by simp [vl])⟩
   congr 2
   unfold fil
   rw [show List.flatMap cI (List.replicate (dg n).length 0) = rep (dg n).length [I 0] by unfold rep; rw [List.flatMap_replicate]]
   unfold rep
   rw [← List.flatten_append,List.replicate_append_replicate,Nat.add_comm])
 have ht:=itrim P (by unfold Short; omega)
 rw [trim_vl' hd hv] at ht
 have ht':fn Tryz.prog conv ext 123 [.ts (P.flatMap cI) ((dg m).length + (dg n).length)] = some (LI (dg (m * n))):=by rw [← hP]; exact ht
 have tk:List.take ((dg m).length + (dg n).length) (P.flatMap cI) = P.flatMap cI:=by rw [← hP]; exact cI_takeall _
 have hl2:(P.flatMap cI).length = (dg m).length + (dg n).length:=by rw [cI_len,hP]
 simp only [go_sem,h5,hnx,hσ,hl2,tk,ht']
end Go.Proofs.YtoccmbjfkbemcaaGreat
namespace Go.Proofs.YtoccmbjfkbemcaaGreat
open Go Go.TV
def cZ (z:Int):List V:=[Bo (decide (z < 0)),LI (dg z.natAbs)]
def sgnN (b:Bool) (n:Nat):Int:=if b = true then -(n:Int) else n
theorem cZ_sgn (b:Bool) (n:Nat):cZ (sgnN b n) = [Bo (b && decide (0 < (dg n).length)),LI (dg n)]:=by
 unfold cZ sgnN
 cases b with
 | false => simp
 | true =>
  have h1:((-(n:Int)).natAbs) = n:=by simp
  have h2:decide (-(n:Int) < 0) = decide (0 < (dg n).length):=by
   rw [decide_eq_decide]
   by_cases h:n = 0
   ·subst h; rw [dg_zero]; simp
   ·have:=List.length_pos_iff.mpr (dg_ne h); omega
  simp only [if_true,Bool.true_and,h1,h2]
theorem sgn_abs (z:Int):sgnN (decide (z < 0)) z.natAbs = z:=by
 unfold sgnN
 by_cases h:z < 0
 ·rw [decide_eq_true h,if_pos rfl]; omega
 ·rw [decide_eq_false h,if_neg (by decide)]; omega
theorem isignedZ (b:Bool) (n:Nat):fn Tryz.prog conv ext 109 [Bo b,LI (dg n)] = some (.agg (cZ (sgnN b n))):=by
 rw [isigned,cZ_sgn]
theorem iintegerZ (z:Int) (h0:-9223372036854775808 ≤ z) (h1:z ≤ 9223372036854775807):fn Tryz.prog conv ext 99 [I z] = some (.agg (cZ z)):=by
 rw [fn_eq,ev_eqQ (rs:=[.cell 2 134]) [] rfl Tryz.func99 rfl rfl (by kernel_rfl) (by kernel_rfl)]
 by_cases hz:z < 0
 ·have w1:=wrap_id (n:=z + 1) (by omega) (by omega)
  have w2:IntKind.i64.wrap (0 - (z + 1)) = -(z + 1):=by rw [wrap_id (by omega) (by omega)]; omega
  have w3:=wrap_u64 (n:=-(z + 1)) (by omega) (by omega)
  have w4:=wrap_u64 (n:=-(z + 1) + 1) (by omega) (by omega)
  have e:-(z + 1) + 1 = ((z.natAbs:Nat):Int):=by omega
  rw [e] at w4
  have k1:=ilimbs' z.natAbs (by omega)
  have k2:=isignedZ true z.natAbs
  have e2:sgnN true z.natAbs = z:=by unfold sgnN; rw [if_pos rfl]; omega
  rw [e2] at k2
  unfold cZ at *
  simp only [go_sem,hz,w1,w2,w3,e,w4,k1,k2]
 ·have w3:=wrap_u64 (n:=z) (by omega) (by omega)
  have e:z = ((z.natAbs:Nat):Int):=by omega
  have k1:=ilimbs' z.natAbs (by omega)
  rw [← e] at k1
  have k2:=isignedZ false z.natAbs
  have e2:sgnN false z.natAbs = z:=by unfold sgnN; rw [if_neg (by decide)]; omega
  rw [e2] at k2
  unfold cZ at *
  simp only [go_sem,hz,w3,k1,k2]
theorem ioppositeZ (z:Int):fn Tryz.prog conv ext 113 [.agg (cZ z)] = some (.agg (cZ (-z))):=by
 have k2:=isignedZ (!decide (z < 0)) z.natAbs
 have e:cZ (sgnN (!decide (z < 0)) z.natAbs) = cZ (-z):=by
  unfold sgnN
  by_cases h:z < 0
  ·rw [decide_eq_true h,Bool.not_true,if_neg (by decide)]; congr 1; omega
  ·rw [decide_eq_false h,Bool.not_false,if_pos rfl]; congr 1; omega
 rw [e] at k2
 unfold cZ at *
 rw [fn_eq,ev_eqQ (rs:=[.cell 2 134]) [] rfl Tryz.func113 rfl rfl (by kernel_rfl) (by kernel_rfl)]
 simp only [go_sem,k2]
theorem cmpN_neg {m n:Nat}:cmpN m n < 0 ↔ m < n:=by
 unfold cmpN
 by_cases h:m < n
 ·rw [if_pos h]; simp [h]
 ·rw [if_neg h]; split <;> simp [h]
theorem iBplus (x y:Int) (hx:ln x.natAbs ≤ 1000000) (hy:ln y.natAbs ≤ 1000000):fn Tryz.prog conv ext 110 [.agg (cZ x),.agg (cZ y)] = some (.agg (cZ (x + y))):=by
 have k1:=icompareL x.natAbs y.natAbs hx hy
 have k2:=iplus x.natAbs y.natAbs hx hy
 have sg:∀ b m,sgnN b m = x + y→fn Tryz.prog conv ext 109 [Bo b,LI (dg m)] = some (.agg (cZ (x + y))):=fun b m h => by rw [← h]; exact isignedZ b m
 rw [fn_eq,ev_eqQ (rs:=[.cell 4 134]) [4,6,2] rfl Tryz.func110 rfl rfl (by kernel_rfl) (by kernel_rfl)]
 by_cases h1:x < 0 <;> by_cases h2:y < 0
 ·have k3:=sg true (x.natAbs + y.natAbs) (by unfold sgnN; rw [if_pos rfl]; omega)
  unfold cZ at *
  rw [decide_eq_true h1,decide_eq_true h2]
  simp only [go_sem,k1,k2,k3]
 ·unfold cZ at *
  rw [decide_eq_true h1,decide_eq_false h2]
  by_cases hc:x.natAbs < y.natAbs
  ·have c1:¬0 ≤ cmpN x.natAbs y.natAbs:=by have:=cmpN_neg.mpr hc; omega
   have k4:=iminus y.natAbs x.natAbs hy (by omega)
   have k3:=sg false (y.natAbs - x.natAbs) (by unfold sgnN; rw [if_neg (by decide)]; omega)
   simp only [go_sem,k1,k3,k4,c1]
  ·have c1:0 ≤ cmpN x.natAbs y.natAbs:=by have:=mt cmpN_neg.mp hc; omega
   have k4:=iminus x.natAbs y.natAbs hx (by omega)
   have k3:=sg true (x.natAbs - y.natAbs) (by unfold sgnN; rw [if_pos rfl]; omega)
   simp only [go_sem,k1,k3,k4,c1]
 ·unfold cZ at *
  rw [decide_eq_false h1,decide_eq_true h2]
  by_cases hc:x.natAbs < y.natAbs
  ·have c1:¬0 ≤ cmpN x.natAbs y.natAbs:=by have:=cmpN_neg.mpr hc; omega
   have k4:=iminus y.natAbs x.natAbs hy (by omega)
   have k3:=sg true (y.natAbs - x.natAbs) (by unfold sgnN; rw [if_pos rfl]; omega)
   simp only [go_sem,k1,k3,k4,c1]
  ·have c1:0 ≤ cmpN x.natAbs y.natAbs:=by have:=mt cmpN_neg.mp hc; omega
   have k4:=iminus x.natAbs y.natAbs hx (by omega)
   have k3:=sg false (x.natAbs - y.natAbs) (by unfold sgnN; rw [if_neg (by decide)]; omega)
   simp only [go_sem,k1,k3,k4,c1]
 ·have k3:=sg false (x.natAbs + y.natAbs) (by unfold sgnN; rw [if_neg (by decide)]; omega)
  unfold cZ at *
  rw [decide_eq_false h1,decide_eq_false h2]
  simp only [go_sem,k1,k2,k3]
theorem iBminus (x y:Int) (hx:ln x.natAbs ≤ 1000000) (hy:ln y.natAbs ≤ 1000000):fn Tryz.prog conv ext 118 [.agg (cZ x),.agg (cZ y)] = some (.agg (cZ (x - y))):=by
 have k1:=ioppositeZ y
 have k2:=iBplus x (-y) hx (by rwa [Int.natAbs_neg])
 rw [← Int.sub_eq_add_neg] at k2
 unfold cZ at *
 rw [fn_eq,ev_eqQ (rs:=[.cell 4 134]) [1] rfl Tryz.func118 rfl rfl (by kernel_rfl) (by kernel_rfl)]
 simp only [go_sem,k1,k2]
theorem iBtimes (x y:Int) (hx:ln x.natAbs ≤ 1000000) (hy:ln y.natAbs ≤ 1000000):fn Tryz.prog conv ext 112 [.agg (cZ x),.agg (cZ y)] = some (.agg (cZ (x * y))):=by
 have k1:=itimesL x.natAbs y.natAbs hx hy
 have sg:∀ b,sgnN b (x.natAbs * y.natAbs) = x * y→fn Tryz.prog conv ext 109 [Bo b,LI (dg (x.natAbs * y.natAbs))] = some (.agg (cZ (x * y))):=fun b h => by rw [← h]; exact isignedZ b _
 have e:∀ z:Int,(z.natAbs:Int) = if z < 0 then -z else z:=fun z => by split <;> omega
 rw [fn_eq,ev_eqQ (rs:=[.cell 4 134]) [1] rfl Tryz.func112 rfl rfl (by kernel_rfl) (by kernel_rfl)]
 by_cases h1:x < 0 <;> by_cases h2:y < 0
 ·have k3:=sg false (by unfold sgnN; rw [if_neg (by decide),Int.natCast_mul,e,e,if_pos h1,if_pos h2,Int.neg_mul_neg])
  unfold cZ at *
  rw [decide_eq_true h1,decide_eq_true h2]
  simp only [go_sem,k1,k3]
 ·have k3:=sg true (by unfold sgnN; rw [if_pos rfl,Int.natCast_mul,e,e,if_pos h1,if_neg h2,Int.neg_mul,Int.neg_neg])
  unfold cZ at *
  rw [decide_eq_true h1,decide_eq_false h2]
  simp only [go_sem,k1,k3]
 ·have k3:=sg true (by unfold sgnN; rw [if_pos rfl,Int.natCast_mul,e,e,if_neg h1,if_pos h2,Int.mul_neg,Int.neg_neg])
  unfold cZ at *
  rw [decide_eq_false h1,decide_eq_true h2]
  simp only [go_sem,k1,k3]
 ·have k3:=sg false (by unfold sgnN; rw [if_neg (by decide),Int.natCast_mul,e,e,if_neg h1,if_neg h2])
  unfold cZ at *
  rw [decide_eq_false h1,decide_eq_false h2]
  simp only [go_sem,k1,k3]
def cmpZ (x y:Int):Int:=if x < y then -1 else if x = y then 0 else 1
theorem cmpZ_pp {m n:Nat}:cmpN m n = cmpZ m n:=by unfold cmpN cmpZ; split <;> split <;> first | rfl | (split <;> first | rfl | omega) | omega
theorem iBcompare (x y:Int) (hx:ln x.natAbs ≤ 1000000) (hy:ln y.natAbs ≤ 1000000):fn Tryz.prog conv ext 98 [.agg (cZ x),.agg (cZ y)] = some (I (cmpZ x y)):=by
 have k1:=icompareL x.natAbs y.natAbs hx hy
 have k2:=icompareL y.natAbs x.natAbs hy hx
 rw [cmpZ_pp] at k1 k2
 unfold cZ
 rw [fn_eq,ev_eqQ (rs:=[.tmp 4]) [] rfl Tryz.func98 rfl rfl (by kernel_rfl) (by kernel_rfl)]
 by_cases h1:x < 0 <;> by_cases h2:y < 0
 ·have e:cmpZ ((y.natAbs:Nat):Int) ((x.natAbs:Nat):Int) = cmpZ x y:=by unfold cmpZ; (repeat' split) <;> first | rfl | omega
  rw [decide_eq_true h1,decide_eq_true h2]
  simp only [go_sem,k2,e]
 ·have e:cmpZ x y = -1:=by unfold cmpZ; rw [if_pos (by omega)]
  rw [decide_eq_true h1,decide_eq_false h2,e]
  simp only [go_sem]
 ·have e:cmpZ x y = 1:=by unfold cmpZ; rw [if_neg (by omega),if_neg (by omega)]
  rw [decide_eq_false h1,decide_eq_true h2,e]
  simp only [go_sem]
 ·have e:cmpZ ((x.natAbs:Nat):Int) ((y.natAbs:Nat):Int) = cmpZ x y:=by unfold cmpZ; (repeat' split) <;> first | rfl | omega
  rw [decide_eq_false h1,decide_eq_false h2]
  simp only [go_sem,k1,e]
theorem isignZ (x:Int):fn Tryz.prog conv ext 101 [.agg (cZ x)] = some (I (cmpZ x 0)):=by
 unfold cZ
 rw [fn_eq,ev_eqQ (rs:=[.tmp 2]) [] rfl Tryz.func101 rfl rfl (by kernel_rfl) (by kernel_rfl)]
 by_cases h0:x = 0
 ·subst h0
  have e:cmpZ 0 0 = 0:=by decide
  rw [e,Int.natAbs_zero,dg_zero]
  (simp only [go_sem]) <;> rfl
 ·have c1:(((dg x.natAbs).length:Int) == 0) = false:=by rw [beq_eq_false_iff_ne]; have:=app_len (dg_ne (n:=x.natAbs) (by omega)); omega
  by_cases h1:x < 0
  ·have e:cmpZ x 0 = -1:=by unfold cmpZ; rw [if_pos h1]
   rw [decide_eq_true h1,e]
   simp only [go_sem,c1]
  ·have e:cmpZ x 0 = 1:=by unfold cmpZ; rw [if_neg h1,if_neg h0]
   rw [decide_eq_false h1,e]
   simp only [go_sem,c1]
end Go.Proofs.YtoccmbjfkbemcaaGreat
namespace Go.Proofs.YtoccmbjfkbemcaaGreat
open Go Go.TV
def cQ (q:Rat):List V:=[Bo (decide (q.num < 0)),LI (dg q.num.natAbs),LI (dg q.den)]
def pQ:Option Rat→V
 | some q => .tp (cQ q) 0
 | none => .sc (.pointer none)
theorem cQ_mk (z:Int) {d:Nat} (h:d ≠ 0):cQ (mkRat z d) = lowD (decide (z < 0)) z.natAbs d:=by
 have hg:Nat.gcd d z.natAbs = Nat.gcd z.natAbs d:=Nat.gcd_comm _ _
 have hgp:0 < Nat.gcd z.natAbs d:=Nat.gcd_pos_of_pos_right _ (by omega)
 have hdv:Nat.gcd z.natAbs d ∣ z.natAbs:=Nat.gcd_dvd_left _ _
 have hdvz:((Nat.gcd z.natAbs d:Nat):Int) ∣ z:=Int.ofNat_dvd_left.mpr hdv
 unfold cQ lowD
 rw [Rat.num_mkRat,Rat.den_mkRat,if_neg h,if_neg h,hg]
 have e1:(z / ((Nat.gcd z.natAbs d:Nat):Int)).natAbs = z.natAbs / Nat.gcd z.natAbs d:=by
  obtain ⟨k,hk⟩:=hdvz
  have e:z / ((Nat.gcd z.natAbs d:Nat):Int) = k:=Int.ediv_eq_of_eq_mul_right (by omega) hk
  have e2:z.natAbs = Nat.gcd z.natAbs d * k.natAbs:=by
   have:=congrArg Int.natAbs hk
   rw [Int.natAbs_mul,Int.natAbs_natCast] at this
   exact this
  rw [e,Nat.div_eq_of_eq_mul_right hgp e2]
 have e2:decide (z / ((Nat.gcd z.natAbs d:Nat):Int) < 0) = (decide (z < 0) && decide (0 < (dg (z.natAbs / Nat.gcd z.natAbs d)).length)):=by
  have e3:(z / ((Nat.gcd z.natAbs d:Nat):Int) < 0) ↔ z < 0:=by
   obtain ⟨k,hk⟩:=hdvz
   have e:z / ((Nat.gcd z.natAbs d:Nat):Int) = k:=Int.ediv_eq_of_eq_mul_right (by omega) hk
   rw [e]
   have hG:(0:Int) < ((Nat.gcd z.natAbs d:Nat):Int):=by omega
   generalize ((Nat.gcd z.natAbs d:Nat):Int) = G at *
   constructor
   ·intro hkn; rw [hk]; exact Int.mul_neg_of_pos_of_neg hG hkn
   ·intro hz
    refine Classical.byContradiction fun hn => ?_
    have:=Int.mul_nonneg (Int.le_of_lt hG) (Int.not_lt.mp hn)
    rw [← hk] at this
    omega
  by_cases hz:z < 0
  ·have hne:z.natAbs / Nat.gcd z.natAbs d ≠ 0:=by
    have:=Nat.div_pos (Nat.gcd_le_left d (show 0 < z.natAbs by omega)) hgp
    omega
   rw [decide_eq_true (e3.mpr hz),decide_eq_true hz,decide_eq_true (List.length_pos_iff.mpr (dg_ne hne))]; rfl
  ·rw [decide_eq_false (mt e3.mp hz),decide_eq_false hz]; rfl
 rw [e1,e2]
def Sm (q:Rat):Prop:=q.num.natAbs < 400000000∧q.den < 30000
theorem lnS {n:Nat} (h:n < 1000000000000000000):ln n ≤ 1000000:=by
 have:=ln_le_iff (n:=n) (k:=2) |>.mpr (by have:bp 2 = 1000000000000000000:=by decide
                                          omega)
 omega
theorem Sm.n {q:Rat} (h:Sm q):ln q.num.natAbs ≤ 1000000:=lnS (by have:=h.1; omega)
theorem Sm.d {q:Rat} (h:Sm q):ln q.den ≤ 1000000:=lnS (by have:=h.2; omega)
theorem Sm.dd {x y:Rat} (h:Sm x) (h':Sm y):x.den * y.den < 1000000000:=by
 have:=Nat.mul_lt_mul'' h.2 h'.2
 omega
theorem Sm.nd {x y:Rat} (h:Sm x) (h':Sm y):(x.num * y.den).natAbs < 12000000000000:=by
 rw [Int.natAbs_mul,Int.natAbs_natCast]
 have:=Nat.mul_lt_mul'' h.1 h'.2
 omega
theorem dd0 (x y:Rat):x.den * y.den ≠ 0:=Nat.mul_ne_zero x.den_nz y.den_nz
theorem iscaledQ (x:Rat) (d:Nat) (hx:ln x.num.natAbs ≤ 1000000) (hd:ln d ≤ 1000000):fn Tryz.prog conv ext 97 [.tp (cQ x) 0,LI (dg d)] = some (.agg (cZ (x.num * d))):=by
 have k1:=itimesL x.num.natAbs d hx hd
 have k2:=isignedZ (decide (x.num < 0)) (x.num.natAbs * d)
 have e:sgnN (decide (x.num < 0)) (x.num.natAbs * d) = x.num * d:=by
  have h:=sgn_abs x.num
  conv => rhs; rw [← h]
  unfold sgnN
  by_cases q:x.num < 0
  ·rw [decide_eq_true q,if_pos rfl,if_pos rfl,Int.natCast_mul,Int.neg_mul]
  ·rw [decide_eq_false q,if_neg (by decide),if_neg (by decide),Int.natCast_mul]
 rw [e] at k2
 unfold cQ
 unfold cZ at *
 rw [fn_eq,ev_eqQ (rs:=[.cell 4 134]) [] rfl Tryz.func97 rfl rfl (by kernel_rfl) (by kernel_rfl)]
 simp only [go_sem,k1,k2]
theorem istoreQ (q:Rat) (h1:ln q.num.natAbs ≤ 24) (h2:ln q.den ≤ 24):fn Tryz.prog conv ext 82 [.tp (cQ q) 0] = some (.agg (cQ q)):=istore _ _ _ h1 h2
theorem mk_small (z:Int) {d:Nat} (h:d ≠ 0):(mkRat z d).num.natAbs ≤ z.natAbs∧(mkRat z d).den ≤ d:=by
 rw [Rat.num_mkRat,Rat.den_mkRat,if_neg h,if_neg h]
 exact ⟨Int.natAbs_ediv_le_natAbs _ _,Nat.div_le_self _ _⟩
theorem Sm.add {x y:Rat} (hx:Sm x) (hy:Sm y):(x + y).num.natAbs < 1000000000000000000∧(x + y).den < 1000000000:=by
 have n1:=hx.nd hy
 have n2:=hy.nd hx
 have:=mk_small (x.num * y.den + y.num * x.den) (dd0 x y)
 rw [← Rat.add_def'] at this
 have h3:=hx.dd hy
 omega
theorem Sm.sub {x y:Rat} (hx:Sm x) (hy:Sm y):(x - y).num.natAbs < 1000000000000000000∧(x - y).den < 1000000000:=by
 have n1:=hx.nd hy
 have n2:=hy.nd hx
 have:=mk_small (x.num * y.den - y.num * x.den) (dd0 x y)
 rw [← Rat.sub_def'] at this
 have h3:=hx.dd hy
 omega
theorem iwholeZ (z:Int) (h0:-9223372036854775808 ≤ z) (h1:z ≤ 9223372036854775807):fn Tryz.prog conv ext 85 [I z] = some (.tp (cQ (z:Rat)) 0):=by
 have k:=iintegerZ z h0 h1
 have e1:(z:Rat).num = z:=rfl
 have e2:(z:Rat).den = 1:=rfl
 unfold cQ
 rw [e1,e2,dg_one (d:=1) (by decide) (by decide)]
 unfold cZ at k
 rw [fn_eq,ev_eqQ (rs:=[.tmp 2]) [] rfl Tryz.func85 rfl rfl (by kernel_rfl) (by kernel_rfl)]
 (simp only [go_sem,k]) <;> rfl
end Go.Proofs.YtoccmbjfkbemcaaGreat
namespace Go.Proofs.YtoccmbjfkbemcaaGreat
open Go Go.TV
end Go.Proofs.YtoccmbjfkbemcaaGreat
namespace Go.Proofs.YtoccmbjfkbemcaaGreat
open Go Go.TV
theorem sBelow (xs:List Int) (hx:∀ x ∈ xs,0 ≤ x∧x ≤ 255) (hl:xs.length ≤ 1048576) (i h:Int) (hi:0 ≤ i∧i ≤ xs.length) (n:Int) (h1:1 ≤ n) (h2:n ≤ 256) :
  ∃ r i' h',(∀ (b st nx:Nat) (σ:Store),σ b = some (Cur xs i h st)→b < nx→ev Tryz.prog conv ext 27 [.rp b 0,I n] σ nx = some (I r,upd σ b (some (Cur xs i' h' st)),nx))∧(0 ≤ r∧r < n)∧0 ≤ i'∧i' ≤ xs.length:=by
 obtain ⟨r,i',h',k,hr,hi'⟩:=sByteA xs hx hl i h hi
 have c1:¬n ≤ 0:=by omega
 have c2:¬n = 0:=by omega
 refine ⟨r.tmod n,i',h',fun b st nx σ hσ hb => ?_,?_,hi'⟩
 ·have k':=k b st nx σ hσ hb
  rw [ev_eqQ (rs:=[.tmp 4]) [] rfl Tryz.func27 rfl rfl (by kernel_rfl) (by kernel_rfl)]
  simp only [go_sem,call_inl,k',c1,c2,h2]
 ·rw [Int.tmod_eq_emod_of_nonneg hr.1]
  exact ⟨Int.emod_nonneg _ (by omega),Int.emod_lt_of_pos _ (by omega)⟩
end Go.Proofs.YtoccmbjfkbemcaaGreat
namespace Go.Proofs.YtoccmbjfkbemcaaGreat
open Go Go.TV
theorem trim_prefix (o:List Int):∃ r,o = trimL o ++ r:=by
 induction o with
 | nil => exact ⟨[],rfl⟩
 | cons x o ih =>
  obtain ⟨r,hr⟩:=ih
  rw [trim_cons]
  split
  ·split
   ·exact ⟨x :: o,rfl⟩
   ·exact ⟨o,rfl⟩
  ·exact ⟨r,by rw [List.cons_append,← hr]⟩
end Go.Proofs.YtoccmbjfkbemcaaGreat
namespace Go.Proofs.YtoccmbjfkbemcaaGreat
open Go Go.TV
theorem Sm.neg {q:Rat} (h:Sm q):Sm (-q):=by
 unfold Sm at *
 rw [Rat.neg_num,Rat.neg_den,Int.natAbs_neg]; exact h
end Go.Proofs.YtoccmbjfkbemcaaGreat
namespace Go.Proofs.YtoccmbjfkbemcaaGreat
open Go Go.TV
end Go.Proofs.YtoccmbjfkbemcaaGreat
namespace Go.TV
def ownL (f:V→Option (V × List Nat)):List V→Option (List V × List Nat)
 | [] => some ([],[])
 | v :: vs => match f v,ownL f vs with
  | some (t,i),some (ts,j) => some (t :: ts,i ++ j)
  | _,_ => none
def own (σ:Store):Nat→V→Option (V × List Nat)
 | 0,v => match v with
  | .sc u => some (.sc u,[])
  | .nil => some (.ts [] 0,[])
  | _ => none
 | d + 1,v => match v with
  | .sc u => some (.sc u,[])
  | .nil => some (.ts [] 0,[])
  | .agg vs => match ownL (own σ d) vs with
   | some (ts,ids) => some (.agg ts,ids)
   | none => none
  | .rs b off len => match σ b with
   | some B => if off = 0∧B.wr = true∧len * B.st = B.cells.length then
     match ownL (own σ d) B.cells with
     | some (ts,ids) => some (.ts ts len,b :: ids)
     | none => none
    else none
   | none => none
  | _ => none
def Own (σ:Store) (d:Nat) (v t:V) (ids:List Nat):Prop:=own σ d v = some (t,ids)∧ids.Nodup
theorem ownL_congr {f g:V→Option (V × List Nat)}:∀ {vs ts:List V} {ids:List Nat},(∀ v t i,f v = some (t,i)→(∀ b ∈ i,b ∈ ids)→g v = some (t,i))→ownL f vs = some (ts,ids)→ownL g vs = some (ts,ids)
 | [],ts,ids,_,h => h
 | v :: vs,ts,ids,hfg,h => by
  unfold ownL at h ⊢
  split at h
  ·rename_i t i ts' j e1 e2
   simp only [Option.some.injEq,Prod.mk.injEq] at h
   obtain ⟨rfl,rfl⟩:=h
   rw [hfg v t i e1 (fun b hb => List.mem_append_left _ hb),ownL_congr (fun v t i h hi => hfg v t i h (fun b hb => List.mem_append_right _ (hi b hb))) e2]
  ·cases h
theorem own_frame {σ σ':Store}:∀ (d:Nat) (v t:V) (ids:List Nat),own σ d v = some (t,ids)→(∀ b ∈ ids,σ' b = σ b)→own σ' d v = some (t,ids)
 | 0,v,t,ids,h,_ => by cases v <;> simp [own] at h ⊢ <;> exact h
 | d + 1,v,t,ids,h,hb => by
  cases v <;> simp only [own] at h ⊢ <;> try exact h
  ·split at h
   ·rename_i ts i e
    simp only [Option.some.injEq,Prod.mk.injEq] at h
    obtain ⟨rfl,rfl⟩:=h
    rw [ownL_congr (fun v t i h hi => own_frame d v t i h fun b hb' => hb b (hi b hb')) e]
   ·cases h
  ·rename_i b off len
   split at h
   ·rename_i B hB
    split at h
    ·rename_i hc
     split at h
     ·rename_i ts i e
      simp only [Option.some.injEq,Prod.mk.injEq] at h
      obtain ⟨rfl,rfl⟩:=h
      rw [hb b List.mem_cons_self,hB]
      simp only
      rw [if_pos hc,ownL_congr (fun v t i h hi => own_frame d v t i h fun b hb' => hb b (List.mem_cons_of_mem _ (hi b hb'))) e]
     ·cases h
    ·cases h
   ·cases h
theorem ownL_strip {σ:Store} {f g:V→Option (V × List Nat)} (hfg:∀ v t i,f v = some (t,i)→g v = some (t,i)):∀ {vs ts:List V} {ids:List Nat},ownL f vs = some (ts,ids)→stripL g vs = some (ts,ids)
 | [],ts,ids,h => h
 | v :: vs,ts,ids,h => by
  unfold ownL at h
  unfold stripL
  split at h
  ·rename_i t i ts' j e1 e2
   simp only [Option.some.injEq,Prod.mk.injEq] at h
   obtain ⟨rfl,rfl⟩:=h
   rw [hfg v t i e1,ownL_strip (σ:=σ) hfg e2]
  ·cases h
theorem own_strip {σ:Store}:∀ (d:Nat) (v t:V) (ids:List Nat),own σ d v = some (t,ids)→∀ d',d ≤ d'→strip σ d' v = some (t,ids)
 | 0,v,t,ids,h,d',_ => by
  cases v <;> simp [own] at h
  ·rename_i u; obtain ⟨rfl,rfl⟩:=h; exact strip_sc _ _ _
  ·obtain ⟨rfl,rfl⟩:=h; exact strip_nil _ _
 | d + 1,v,t,ids,h,d',hd => by
  obtain ⟨e,rfl⟩:∃ e,d' = e + 1:=⟨d' - 1,by omega⟩
  cases v <;> simp only [own] at h
  ·simp only [Option.some.injEq,Prod.mk.injEq] at h; obtain ⟨rfl,rfl⟩:=h; exact strip_sc _ _ _
  ·simp only [Option.some.injEq,Prod.mk.injEq] at h; obtain ⟨rfl,rfl⟩:=h; exact strip_nil _ _
  ·cases h
  ·split at h
   ·rename_i ts i e1
    simp only [Option.some.injEq,Prod.mk.injEq] at h
    obtain ⟨rfl,rfl⟩:=h
    rw [strip_agg,ownL_strip (σ:=σ) (fun v t i h => own_strip d v t i h e (by omega)) e1]; rfl
   ·cases h
  ·cases h
  ·cases h
  ·cases h
  ·cases h
  ·cases h
  ·rename_i b off len
   split at h
   ·rename_i B hB
    split at h
    ·rename_i hc
     split at h
     ·rename_i ts i e1
      simp only [Option.some.injEq,Prod.mk.injEq] at h
      obtain ⟨rfl,rfl⟩:=h
      obtain ⟨rfl,_,hl⟩:=hc
      rw [strip_rs,hB]
      simp only [Option.bind_some]
      rw [if_pos (by omega),List.drop_zero,List.take_of_length_le (by omega),ownL_strip (σ:=σ) (fun v t i h => own_strip d v t i h e (by omega)) e1]; rfl
     ·cases h
    ·cases h
   ·cases h
theorem ownL_gather {f:V→Option (V × List Nat)} {g:V→Option (List Nat)} (hfg:∀ v t i,f v = some (t,i)→g v = some i):∀ {vs ts:List V} {ids:List Nat},ownL f vs = some (ts,ids)→gatherL g vs = some ids
 | [],ts,ids,h => by simp only [ownL,Option.some.injEq,Prod.mk.injEq] at h; rw [← h.2]; rfl
 | v :: vs,ts,ids,h => by
  unfold ownL at h
  unfold gatherL
  split at h
  ·rename_i t i ts' j e1 e2
   simp only [Option.some.injEq,Prod.mk.injEq] at h
   obtain ⟨rfl,rfl⟩:=h
   rw [hfg v t i e1,ownL_gather hfg e2]
  ·cases h
theorem own_gather {σ:Store}:∀ (d:Nat) (v t:V) (ids:List Nat),own σ d v = some (t,ids)→∀ d',d ≤ d'→gather σ d' v = some ids
 | 0,v,t,ids,h,d',_ => by
  cases v <;> simp [own] at h
  ·obtain ⟨rfl,rfl⟩:=h; cases d' <;> rfl
  ·obtain ⟨rfl,rfl⟩:=h; cases d' <;> rfl
 | d + 1,v,t,ids,h,d',hd => by
  obtain ⟨e,rfl⟩:∃ e,d' = e + 1:=⟨d' - 1,by omega⟩
  cases v <;> simp only [own] at h
  ·simp only [Option.some.injEq,Prod.mk.injEq] at h; rw [← h.2]; rfl
  ·simp only [Option.some.injEq,Prod.mk.injEq] at h; rw [← h.2]; rfl
  ·cases h
  ·split at h
   ·rename_i ts i e1
    simp only [Option.some.injEq,Prod.mk.injEq] at h
    obtain ⟨rfl,rfl⟩:=h
    unfold gather
    exact ownL_gather (fun v t i h => own_gather d v t i h e (by omega)) e1
   ·cases h
  ·cases h
  ·cases h
  ·cases h
  ·cases h
  ·cases h
  ·rename_i b off len
   split at h
   ·rename_i B hB
    split at h
    ·rename_i hc
     split at h
     ·rename_i ts i e1
      simp only [Option.some.injEq,Prod.mk.injEq] at h
      obtain ⟨rfl,rfl⟩:=h
      unfold gather
      simp only [hB]
      rw [ownL_gather (fun v t i h => own_gather d v t i h e (by omega)) e1]
     ·cases h
    ·cases h
   ·cases h
theorem Own.frame {σ σ':Store} {d:Nat} {v t:V} {ids:List Nat} (h:Own σ d v t ids) (hb:∀ b ∈ ids,σ' b = σ b):Own σ' d v t ids:=⟨own_frame d v t ids h.1 hb,h.2⟩
theorem Own.upd {σ:Store} {d:Nat} {v t:V} {ids:List Nat} {c:Nat} {x:Option Blk} (hc:¬c ∈ ids):Own (upd σ c x) d v t ids = Own σ d v t ids:=by
 refine propext ⟨fun h => h.frame fun b hb => ?_,fun h => h.frame fun b hb => ?_⟩
 ·exact (upd_ne _ _ (fun e => hc (by rw [← e]; exact hb))).symm
 ·exact upd_ne _ _ (fun e => hc (by rw [← e]; exact hb))
theorem join_in {n:Nat} {σ σ1:Store} {ids:List Nat} {b:Nat} (hn:¬b < n) (hb:b ∈ ids):joinS n σ σ1 ids b = σ1 b:=by
 unfold joinS; rw [if_neg hn,if_pos hb]
theorem join_lt {n:Nat} {σ σ1:Store} {ids:List Nat} {b:Nat} (hn:b < n):joinS n σ σ1 ids b = σ b:=by
 unfold joinS; rw [if_pos hn]
theorem Own.join {n:Nat} {σ σ1:Store} {d:Nat} {v t:V} {ids:List Nat} (h:Own σ1 d v t ids) (hn:∀ b ∈ ids,n ≤ b):Own (joinS n σ σ1 ids) d v t ids :=
 h.frame fun b hb => join_in (by have:=hn b hb; omega) hb
theorem Own.joinLow {n:Nat} {σ σ1:Store} {ids':List Nat} {d:Nat} {v t:V} {ids:List Nat} (h:Own σ d v t ids) (hn:∀ b ∈ ids,b < n):Own (joinS n σ σ1 ids') d v t ids :=
 h.frame fun b hb => join_lt (hn b hb)
theorem Own.strip {σ:Store} {d:Nat} {v t:V} {ids:List Nat} (h:Own σ d v t ids) {d':Nat} (hd:d ≤ d'):TV.strip σ d' v = some (t,ids):=own_strip d v t ids h.1 d' hd
theorem Own.gather {σ:Store} {d:Nat} {v t:V} {ids:List Nat} (h:Own σ d v t ids) {d':Nat} (hd:d ≤ d'):TV.gather σ d' v = some ids:=own_gather d v t ids h.1 d' hd
theorem ownL_ints {σ:Store} {d:Nat}:∀ {cells:List V} {xs:List Int} {ids:List Nat},ownL (own σ d) cells = some (xs.flatMap cI,ids)→cells = xs.flatMap cI∧ids = []
 | [],xs,ids,h => by
  simp only [ownL,Option.some.injEq,Prod.mk.injEq] at h
  exact ⟨h.1,h.2.symm⟩
 | v :: vs,xs,ids,h => by
  unfold ownL at h
  split at h
  ·rename_i t i ts' j e1 e2
   simp only [Option.some.injEq,Prod.mk.injEq] at h
   obtain ⟨h1,rfl⟩:=h
   cases xs with
   | nil => cases h1
   | cons x xs =>
    have h1':t :: ts' = I x :: xs.flatMap cI:=h1
    obtain ⟨rfl,rfl⟩:=List.cons.inj h1'
    obtain ⟨rfl,rfl⟩:=ownL_ints e2
    have:v = I x∧i = []:=by
     cases d with
     | zero => cases v <;> simp [own] at e1; exact ⟨by rw [e1.1],e1.2⟩
     | succ d =>
      cases v <;> simp only [own] at e1
      ·simp only [Option.some.injEq,Prod.mk.injEq] at e1; exact ⟨by rw [e1.1],e1.2.symm⟩
      ·simp at e1
      ·cases e1
      ·split at e1 <;> simp at e1
      ·cases e1
      ·cases e1
      ·cases e1
      ·cases e1
      ·cases e1
      ·split at e1
       ·split at e1
        ·split at e1 <;> simp at e1
        ·cases e1
       ·cases e1
    exact ⟨by rw [this.1]; rfl,by rw [this.2]; rfl⟩
  ·cases h
theorem own_ints {σ:Store} {d:Nat} {v:V} {xs:List Int} {ids:List Nat} (h:Own σ (d + 1) v (LI xs) ids):(v = .nil∧xs = []∧ids = [])∨∃ b st,v = .rs b 0 xs.length∧ids = [b]∧σ b = some ⟨xs.flatMap cI,st,true⟩∧xs.length * st = xs.length:=by
 obtain ⟨h,_⟩:=h
 cases v <;> simp only [own] at h
 ·simp at h
 ·simp only [Option.some.injEq,Prod.mk.injEq] at h
  refine .inl ⟨rfl,?_,h.2.symm⟩
  have h1:=h.1
  simp only [LI,V.ts.injEq] at h1
  exact List.eq_nil_of_length_eq_zero h1.2.symm
 ·cases h
 ·split at h <;> simp at h
 ·cases h
 ·cases h
 ·cases h
 ·cases h
 ·cases h
 ·rename_i b off len
  split at h
  ·rename_i B hB
   split at h
   ·rename_i hc
    obtain ⟨rfl,hw,hl⟩:=hc
    split at h
    ·rename_i ts i e1
     simp only [Option.some.injEq,Prod.mk.injEq,LI,V.ts.injEq] at h
     obtain ⟨⟨rfl,rfl⟩,rfl⟩:=h
     obtain ⟨h1,rfl⟩:=ownL_ints e1
     obtain ⟨cells,st,wr⟩:=B
     simp only at hw hl h1
     subst hw h1
     exact .inr ⟨b,st,rfl,rfl,hB,by rw [hl,cI_len]⟩
    ·cases h
   ·cases h
  ·cases h
theorem ownL_cI (σ:Store) (d:Nat) (xs:List Int):ownL (own σ d) (xs.flatMap cI) = some (xs.flatMap cI,[]):=by
 induction xs with
 | nil => rfl
 | cons x xs ih =>
  show ownL (own σ d) (I x :: xs.flatMap cI) = _
  unfold ownL
  rw [ih]
  cases d <;> rfl
theorem own_of_rs {σ:Store} {d b st:Nat} {xs:List Int} (h:σ b = some ⟨xs.flatMap cI,st,true⟩) (hl:xs.length * st = xs.length):Own σ (d + 1) (.rs b 0 xs.length) (LI xs) [b]:=by
 refine ⟨?_,by simp⟩
 simp only [own,h]
 rw [if_pos ⟨trivial,trivial,by rw [cI_len]; exact hl⟩,ownL_cI]
theorem own_of_nil (σ:Store) (d:Nat):Own σ d .nil (LI []) []:=⟨by cases d <;> rfl,by simp⟩
def drawJ (nx nx1:Nat) (σ σ1:Store) (ids:List Nat):Store:=patchS [] nx nx1 σ (joinS nx (restrict σ []) σ1 ids)
theorem opD_own {P:Program} {conv:FuncId→Conv} {call:Call} {d:Option Tmp} {ty:TypeId} {ps:String} {af:Array Edge} {gd:Option (Nat × Bool)} {T:Nat→V} {σ:Store} {nx:Nat} {g:FuncId} (h:conv g = .own) (args:Array Operand) (ts:Array TypeId) :
  evOpD P conv call ⟨d,.call ⟨.value (.func g),args,ts⟩,ty,ps,af,gd⟩ T σ nx = (stripL (strip σ depth) (args.toList.map (val T))).bind fun p => if (p.2.all fun b => decide (b < nx)) = true then (call g p.1 noStore nx).bind fun q => (gather q.2.1 depth q.1).map fun ids => (q.1,drawJ nx q.2.2 σ q.2.1 ids,q.2.2) else none:=by
 unfold evOpD
 rw [foot_deep d ty ps af gd T σ (by rw [h]; exact fun e => by cases e)]
 cases hst:stripL (strip σ depth) (args.toList.map (val T)) with
 | none => rfl
 | some p =>
  obtain ⟨us,F⟩:=p
  simp only [Option.map_some,Option.bind_some]
  by_cases hall:(F.all fun b => decide (b < nx)) = true
  ·rw [if_pos hall,if_pos hall]
   have e:=op_call (P:=P) (conv:=conv) (call:=call) d ty ps af gd T (restrict σ F) nx (.func g) args ts
   rw [e]
   have hst':stripL (strip (restrict σ F) depth) (args.toList.map (val T)) = some (us,F) :=
    stripL_congr (fun v t i h hi => strip_congr _ v t i h fun b hb => by unfold restrict; rw [if_pos (hi b hb)]) hst
   simp only [val,callV_clo,List.append_nil,call_own h,hst',Option.bind_some]
   cases call g us noStore nx with
   | none => rfl
   | some q =>
    simp only [Option.bind_some]
    cases gather q.2.1 depth q.1 with
    | none => rfl
    | some ids =>
     simp only [Option.map_some,keeps,val,h,if_true,Option.some.injEq,Prod.mk.injEq,true_and,and_true]
     have hlt:∀ b ∈ F,b < nx:=fun b hb => by simpa using List.all_eq_true.1 hall b hb
     unfold drawJ
     funext b
     unfold patchS
     by_cases h1:nx ≤ b∧b < q.2.2
     ·rw [if_pos (.inr h1),if_pos (.inr h1)]
      unfold joinS
      simp only [if_neg (show ¬b < nx by omega)]
     ·by_cases h2:b ∈ F
      ·rw [if_pos (.inl h2),if_neg (fun e => e.elim (fun e => by cases e) h1)]
       unfold joinS restrict
       rw [if_pos (hlt b h2),if_pos h2]
      ·rw [if_neg (fun e => e.elim h2 h1),if_neg (fun e => e.elim (fun e => by cases e) h1)]
  ·rw [if_neg hall,if_neg hall]
theorem w_own {conv:FuncId→Conv} {d:Option Tmp} {ty:TypeId} {ps:String} {af:Array Edge} {gd:Option (Nat × Bool)} {g:FuncId} (h:conv g = .own) (args:Array Operand) (ts:Array TypeId):writer conv ⟨d,.call ⟨.value (.func g),args,ts⟩,ty,ps,af,gd⟩ = false:=by unfold writer; simp only [h]
theorem foot_own {conv:FuncId→Conv} {d:Option Tmp} {ty:TypeId} {ps:String} {af:Array Edge} {gd:Option (Nat × Bool)} {T:Nat→V} {σ:Store} {g:FuncId} (h:conv g = .own) (args:Array Operand) (ts:Array TypeId):footIds conv T σ ⟨d,.call ⟨.value (.func g),args,ts⟩,ty,ps,af,gd⟩ = ((stripL (strip σ depth) (args.toList.map (val T))).map (·.2)).getD []:=by
 unfold footIds
 rw [foot_deep d ty ps af gd T σ (by rw [h]; exact fun e => by cases e)]
theorem dj_in {nx nx1:Nat} {σ σ1:Store} {ids:List Nat} {b:Nat} (h0:nx ≤ b) (h1:b < nx1) (hb:b ∈ ids):drawJ nx nx1 σ σ1 ids b = σ1 b:=by
 unfold drawJ patchS
 rw [if_pos (.inr ⟨h0,h1⟩),join_in (by omega) hb]
theorem dj_lt {nx nx1:Nat} {σ σ1:Store} {ids:List Nat} {b:Nat} (h:b < nx):drawJ nx nx1 σ σ1 ids b = σ b:=by
 unfold drawJ patchS
 rw [if_neg (by simp; omega)]
theorem Own.draw {nx nx1:Nat} {σ σ1:Store} {d:Nat} {v t:V} {ids:List Nat} (h:Own σ1 d v t ids) (hn:∀ b ∈ ids,nx ≤ b∧b < nx1):Own (drawJ nx nx1 σ σ1 ids) d v t ids :=
 h.frame fun b hb => dj_in (hn b hb).1 (hn b hb).2 hb
theorem gather_sc (σ:Store) (d:Nat) (u:Value):gather σ d (.sc u) = some []:=by cases d <;> rfl
theorem gather_nil (σ:Store) (d:Nat):gather σ d .nil = some []:=by cases d <;> rfl
theorem gather_agg (σ:Store) (d:Nat) (vs:List V):gather σ (d + 1) (.agg vs) = gatherL (gather σ d) vs:=rfl
theorem gather_tup (σ:Store) (d:Nat) (vs:List V):gather σ (d + 1) (.tup vs) = gatherL (gather σ d) vs:=rfl
theorem gatherL_nil (f:V→Option (List Nat)):gatherL f [] = some []:=rfl
theorem gatherL_cons (f:V→Option (List Nat)) (v:V) (vs:List V):gatherL f (v :: vs) = (f v).bind fun i => (gatherL f vs).map fun j => i ++ j:=by
 show (match f v,gatherL f vs with | some i,some j => some (i ++ j) | _,_ => none) = _
 cases f v <;> cases gatherL f vs <;> rfl
attribute [go_sem] opD_own w_own foot_own gather_sc gather_nil gather_agg gather_tup gatherL_nil gatherL_cons call_own
theorem Own.cell {σ:Store} {d:Nat} {v:V} {xs:List Int} {ids:List Nat} (h:Own σ (d + 1) v (LI xs) ids):isCell v = true:=by
 rcases own_ints h with ⟨rfl,_⟩ | ⟨b,st,rfl,_⟩ <;> rfl
theorem cells_of_cell {v:V} (h:isCell v = true):cellsOfV v = some [v]:=by cases v <;> simp_all [cellsOfV,isCell]
end Go.TV
namespace Go.Proofs.YtoccmbjfkbemcaaGreat
open Go Go.TV
def convM:FuncId→Conv:=fun f => if f ∈ ([901656,901202,901679,900998,901199,82,94,9,21,22,60]:List Nat) then .own else if f ∈ ([901334,901525,901247,901152,901441,901358,901729,901351,901435,901134,901242,901551,901635,901929,901641,901558,901442,901352]:List Nat) then .inl else .imm
abbrev tops:List Nat:=[901656,901202,901679,900998,901199,82,94,9,21,22,901334,901525,901247,901152,901441,901358,901729,901351,901435,901134,901242,901551,901635,901929,901641,901558,901442,901352,902340,901886,902363,902342]
noncomputable def extM:Ext:=fun f => if f = 60 then some cloneG else if f ∈ tops then none else some fun args σ nx => ev Tryz.prog conv ext f args σ nx
theorem extMOk:ExtOk Tryz.prog extM:=fun f g h args σ nx v σ' nx' hg => by
 unfold extM at h
 split at h
 ·rename_i hf
  subst hf
  cases h
  exact clone_sound args σ nx v σ' nx' hg
 ·split at h
  ·cases h
  ·cases h
   exact ev_sound (by kernel_rfl) extOk f args σ nx v σ' nx' hg
theorem fnM {f:FuncId} (h:List.contains (60 :: tops) f = false) (ts:List V):fn Tryz.prog convM extM f ts = fn Tryz.prog conv ext f ts:=by
 have hc:¬f = 60:=fun e => by subst e; simp at h
 have ht:¬f ∈ tops:=fun e => by
  rw [List.contains_cons,Bool.or_eq_false_iff] at h
  rw [List.contains_iff_mem.mpr e] at h
  cases h.2
 rw [fn_eq,fn_eq,ev_ext (g:=fun args σ nx => ev Tryz.prog conv ext f args σ nx) (by unfold extM; rw [if_neg hc,if_neg ht])]
theorem cvM {f:FuncId} (h:List.contains (60 :: tops) f = false):convM f = .imm:=by
 have hc:¬f = 60:=fun e => by subst e; simp at h
 have ht:¬f ∈ tops:=fun e => by
  rw [List.contains_cons,Bool.or_eq_false_iff] at h
  rw [List.contains_iff_mem.mpr e] at h
  cases h.2
 unfold convM
 simp only [tops,List.mem_cons,List.not_mem_nil,or_false,not_or] at ht
 rw [if_neg (by simp only [List.mem_cons,List.not_mem_nil,or_false,not_or]; simp only [ht,hc,not_false_eq_true,and_self]),if_neg (by simp only [List.mem_cons,List.not_mem_nil,or_false,not_or]; simp only [ht,not_false_eq_true,and_self])]
theorem own_slg:convM 901656 = .own:=id rfl
theorem own_sha:convM 901202 = .own:=id rfl
theorem own_wsh:convM 901679 = .own:=id rfl
theorem own_rof:convM 900998 = .own:=id rfl
theorem own_rmk:convM 901199 = .own:=id rfl
theorem own_sto:convM 82 = .own:=id rfl
theorem own_few:convM 94 = .own:=id rfl
theorem own_nxt:convM 9 = .own:=id rfl
theorem own_ynx:convM 21 = .own:=id rfl
theorem own_mkd:convM 22 = .own:=id rfl
theorem inl_ints:convM 901334 = .inl:=id rfl
theorem inl_big:convM 901525 = .inl:=id rfl
theorem inl_rat:convM 901247 = .inl:=id rfl
theorem inl_tyd:convM 901152 = .inl:=id rfl
theorem inl_tss:convM 901441 = .inl:=id rfl
theorem inl_tst:convM 901358 = .inl:=id rfl
theorem inl_tsu:convM 901729 = .inl:=id rfl
theorem inl_tjs:convM 901351 = .inl:=id rfl
theorem inl_tms:convM 901435 = .inl:=id rfl
theorem inl_tis:convM 901134 = .inl:=id rfl
theorem inl_tmv:convM 901242 = .inl:=id rfl
theorem inl_kjs:convM 901551 = .inl:=id rfl
theorem inl_kms:convM 901635 = .inl:=id rfl
theorem inl_ksu:convM 901929 = .inl:=id rfl
theorem inl_kss:convM 901641 = .inl:=id rfl
theorem inl_kst:convM 901558 = .inl:=id rfl
theorem inl_kmv:convM 901442 = .inl:=id rfl
theorem inl_kyd:convM 901352 = .inl:=id rfl
theorem own_cln:convM 60 = .own:=id rfl
attribute [go_sem] cvM own_slg own_sha own_wsh own_rof own_rmk own_sto own_few own_cln inl_ints inl_big inl_rat own_nxt own_ynx own_mkd inl_tyd inl_tss inl_tst inl_tsu inl_tjs inl_tms inl_tis inl_tmv inl_kjs inl_kms inl_ksu inl_kss inl_kst inl_kmv inl_kyd fnM
end Go.Proofs.YtoccmbjfkbemcaaGreat
namespace Go.Proofs.YtoccmbjfkbemcaaGreat
open Go Go.TV
end Go.Proofs.YtoccmbjfkbemcaaGreat
namespace Go.Proofs.YtoccmbjfkbemcaaGreat
open Go Go.TV
end Go.Proofs.YtoccmbjfkbemcaaGreat
namespace Go.Proofs.YtoccmbjfkbemcaaGreat
open Go Go.TV
end Go.Proofs.YtoccmbjfkbemcaaGreat
namespace Go.Proofs.YtoccmbjfkbemcaaGreat
open Go Go.TV
structure StaAt (σ:Store) (b:Nat) (s:Stance):Prop where
 j:σ b = some ⟨s.st.joints.flatMap cJoint,4,true⟩
 m:σ (b + 1) = some ⟨s.st.members.flatMap cMember,3,true⟩
 l:σ (b + 2) = some ⟨s.load.flatMap cI,1,true⟩
 x:σ (b + 3) = some ⟨s.limits.flatMap cI,1,true⟩
abbrev staV (b:Nat) (s:Stance):List V:=[Sg s.name,.rs b 0 s.st.joints.length,.rs (b + 1) 0 s.st.members.length,.rs (b + 2) 0 s.load.length,.rs (b + 3) 0 s.limits.length]
theorem StaAt.frame {σ σ':Store} {b:Nat} {s:Stance} (h:StaAt σ b s) (hs:∀ c,b ≤ c→c < b + 4→σ' c = σ c):StaAt σ' b s :=
 ⟨by rw [hs _ (by omega) (by omega)]; exact h.j,by rw [hs _ (by omega) (by omega)]; exact h.m,by rw [hs _ (by omega) (by omega)]; exact h.l,by rw [hs _ (by omega) (by omega)]; exact h.x⟩
end Go.Proofs.YtoccmbjfkbemcaaGreat
namespace Go.Proofs.YtoccmbjfkbemcaaGreat
open Go Go.TV
abbrev staC (n:Nat):Stance × Nat→List V:=fun p => staV (n + 7 + 10 * p.2) p.1
structure StasAt (σ:Store) (n:Nat) (xs:List Stance):Prop where
 b:σ n = some ⟨xs.zipIdx.flatMap (staC n),5,true⟩
 s:∀ j (h:j < xs.length),StaAt σ (n + 7 + 10 * j) xs[j]
end Go.Proofs.YtoccmbjfkbemcaaGreat
namespace Go.Proofs.YtoccmbjfkbemcaaGreat
open Go Go.TV
theorem ownL_sc (f:V→Option (V × List Nat)) (hf:∀ u,f (.sc u) = some (.sc u,[])):∀ cells:List V,(∀ v ∈ cells,∃ u,v = .sc u)→ownL f cells = some (cells,[])
 | [],_ => rfl
 | v :: vs,h => by
  obtain ⟨u,rfl⟩:=h v List.mem_cons_self
  unfold ownL
  rw [hf,ownL_sc f hf vs fun w hw => h w (List.mem_cons_of_mem _ hw)]
  rfl
theorem own_sc (σ:Store) (d:Nat) (u:Value):own σ d (.sc u) = some (.sc u,[]):=by cases d <;> rfl
theorem ownL_app {f:V→Option (V × List Nat)} {a b ta tb:List V} {ia ib:List Nat} (ha:ownL f a = some (ta,ia)) (hb:ownL f b = some (tb,ib)):ownL f (a ++ b) = some (ta ++ tb,ia ++ ib):=by
 induction a generalizing ta ia with
 | nil => simp only [ownL,Option.some.injEq,Prod.mk.injEq] at ha; obtain ⟨rfl,rfl⟩:=ha; exact hb
 | cons v a ih =>
  unfold ownL at ha
  split at ha
  ·rename_i t i ts' j e1 e2
   simp only [Option.some.injEq,Prod.mk.injEq] at ha
   obtain ⟨rfl,rfl⟩:=ha
   rw [List.cons_append]
   unfold ownL
   rw [e1,ih e2]
   simp
  ·cases ha
theorem ownL_flat {α:Type} {f:V→Option (V × List Nat)} {c c':α→List V} {g:α→List Nat}:∀ {ys:List α},(∀ y ∈ ys,ownL f (c y) = some (c' y,g y))→ownL f (ys.flatMap c) = some (ys.flatMap c',ys.flatMap g)
 | [],_ => rfl
 | y :: ys,h => by
  rw [List.flatMap_cons,List.flatMap_cons,List.flatMap_cons]
  exact ownL_app (h y List.mem_cons_self) (ownL_flat fun z hz => h z (List.mem_cons_of_mem _ hz))
theorem own_rs {σ:Store} {d b n s:Nat} {cells ts:List V} {ids:List Nat} (h:σ b = some ⟨cells,s,true⟩) (hl:n * s = cells.length) (ho:ownL (own σ d) cells = some (ts,ids)):own σ (d + 1) (.rs b 0 n) = some (.ts ts n,b :: ids):=by
 simp only [own,h]
 rw [if_pos ⟨trivial,trivial,hl⟩,ho]
theorem own_rows {α:Type} {σ:Store} {d b s:Nat} {c:α→List V} {xs:List α} (h:σ b = some ⟨xs.flatMap c,s,true⟩) (hc:∀ x,(c x).length = s) (hs:∀ x,∀ v ∈ c x,∃ u,v = .sc u):own σ (d + 1) (.rs b 0 xs.length) = some (LL c xs,[b]) :=
 own_rs h (slots_len hc xs).symm (ownL_sc _ (own_sc σ d) _ fun v hv => by obtain ⟨x,_,hx⟩:=List.mem_flatMap.mp hv; exact hs x v hx)
theorem sc_joint:∀ x:Joint,∀ v ∈ cJoint x,∃ u,v = .sc u:=by intro x v hv; simp only [List.mem_cons,List.not_mem_nil,or_false] at hv; rcases hv with rfl | rfl | rfl | rfl <;> exact ⟨_,rfl⟩
theorem sc_member:∀ x:Member,∀ v ∈ cMember x,∃ u,v = .sc u:=by intro x v hv; simp only [List.mem_cons,List.not_mem_nil,or_false] at hv; rcases hv with rfl | rfl | rfl <;> exact ⟨_,rfl⟩
theorem sc_move:∀ x:TV.Move,∀ v ∈ cMove x,∃ u,v = .sc u:=by intro x v hv; simp only [List.mem_cons,List.not_mem_nil,or_false] at hv; rcases hv with rfl | rfl <;> exact ⟨_,rfl⟩
theorem sc_int:∀ x:Int,∀ v ∈ cI x,∃ u,v = .sc u:=by intro x v hv; simp only [List.mem_cons,List.not_mem_nil,or_false] at hv; subst hv; exact ⟨_,rfl⟩
theorem StaAt.own {σ:Store} {b:Nat} {s:Stance} (h:StaAt σ b s) (d:Nat):ownL (own σ (d + 1)) (staV b s) = some (cStance s,[b,b + 1,b + 2,b + 3]):=by
 unfold staV
 simp only [ownL,own_sc,own_rows (d:=d) h.j (fun _ => rfl) sc_joint,own_rows (d:=d) h.m (fun _ => rfl) sc_member,own_rows (d:=d) h.l (fun _ => rfl) sc_int,own_rows (d:=d) h.x (fun _ => rfl) sc_int]
 rfl
abbrev staI (n:Nat):Stance × Nat→List Nat:=fun p => [n + 7 + 10 * p.2,n + 7 + 10 * p.2 + 1,n + 7 + 10 * p.2 + 2,n + 7 + 10 * p.2 + 3]
theorem flat_idx {α β:Type} (c:α→List β) (xs:List α) (k:Nat):(xs.zipIdx k).flatMap (fun p => c p.1) = xs.flatMap c:=by
 induction xs generalizing k with
 | nil => rfl
 | cons x xs ih => rw [List.zipIdx_cons,List.flatMap_cons,List.flatMap_cons,ih]
theorem StasAt.own {σ:Store} {n:Nat} {xs:List Stance} (h:StasAt σ n xs) (d:Nat):own σ (d + 2) (.rs n 0 xs.length) = some (LL cStance xs,n :: xs.zipIdx.flatMap (staI n)):=by
 have hl:=slots_len (c:=staC n) (s:=5) (fun _ => rfl) xs.zipIdx
 rw [List.length_zipIdx] at hl
 refine own_rs h.b hl.symm ?_
 have:=flat_idx cStance xs 0
 rw [← this]
 refine ownL_flat fun p hp => ?_
 obtain ⟨s,i⟩:=p
 have hp':=List.mem_zipIdx hp
 have hi:i < xs.length:=by omega
 have hs:=h.s i hi
 have he:xs[i] = s:=by rw [hp'.2.2]; simp
 rw [he] at hs
 exact hs.own d
theorem StasAt.frame {σ σ':Store} {n:Nat} {xs:List Stance} (h:StasAt σ n xs) (hs:∀ c,n ≤ c→c < n + 1 + 10 * xs.length→σ' c = σ c):StasAt σ' n xs :=
 ⟨by rw [hs _ (by omega) (by omega)]; exact h.b,fun j hj => (h.s j hj).frame fun c h1 h2 => hs c (by omega) (by omega)⟩
structure YardAt (σ:Store) (n:Nat) (y:Yard):Prop where
 s:StasAt σ n y.stances
 m:σ (n + 1 + 10 * y.stances.length) = some ⟨y.moves.flatMap cMove,2,true⟩
def yardV (n:Nat) (y:Yard):List V:=[.rs n 0 y.stances.length,.rs (n + 1 + 10 * y.stances.length) 0 y.moves.length,Bo y.strict]
def yardI (n:Nat) (y:Yard):List Nat:=(n :: y.stances.zipIdx.flatMap (staI n)) ++ [n + 1 + 10 * y.stances.length]
theorem YardAt.frame {σ σ':Store} {n:Nat} {y:Yard} (h:YardAt σ n y) (hs:∀ c,n ≤ c→c < n + 2 + 10 * y.stances.length→σ' c = σ c):YardAt σ' n y :=
 ⟨h.s.frame fun c h1 h2 => hs c h1 (by omega),by rw [hs _ (by omega) (by omega)]; exact h.m⟩
theorem YardAt.own {σ:Store} {n:Nat} {y:Yard} (h:YardAt σ n y) (d:Nat):own σ (d + 3) (.agg (yardV n y)) = some (.agg (cYard y),yardI n y):=by
 have h1:=h.s.own d
 have h2:=own_rows (d:=d + 1) h.m (fun _ => rfl) sc_move
 unfold yardV yardI
 unfold TV.own
 simp only [ownL,h1,h2,own_sc]
 simp
theorem YardAt.strip {σ:Store} {n:Nat} {y:Yard} (h:YardAt σ n y) (d:Nat):TV.strip σ (d + 3) (.agg (yardV n y)) = some (.agg (cYard y),yardI n y):=own_strip 3 _ _ _ (h.own 0) _ (by omega)
end Go.Proofs.YtoccmbjfkbemcaaGreat
namespace Go.Proofs.YtoccmbjfkbemcaaGreat
open Go Go.TV
theorem cvt8i (k:IntKind) (n:Int) (σ:Store):evConvert Tryz.prog 3 5 (.sc (.int k n)) σ = some (.sc (.int .u8 (IntKind.u8.wrap n))):=ev_cvt u3 u8t
attribute [go_sem] cvt8i
end Go.Proofs.YtoccmbjfkbemcaaGreat
namespace Go.Proofs.YtoccmbjfkbemcaaGreat
open Go Go.TV
end Go.Proofs.YtoccmbjfkbemcaaGreat
namespace Go.Proofs.YtoccmbjfkbemcaaGreat
open Go Go.TV
abbrev cBo (b:Bool):List V:=[Bo b]
def tru (p:Nat→Bool) (n:Nat):List Int:=((List.range n).filter p).map fun (i:Nat) => (i:Int)
theorem tru_yes {p:Nat→Bool} {k:Nat} (h:p k = true):tru p (k + 1) = tru p k ++ [(k:Int)]:=by simp [tru,List.range_succ,List.filter_append,h]
theorem tru_no {p:Nat→Bool} {k:Nat} (h:p k = false):tru p (k + 1) = tru p k:=by simp [tru,List.range_succ,List.filter_append,h]
theorem tru_len (p:Nat→Bool) (n:Nat):(tru p n).length ≤ n:=by
 unfold tru
 rw [List.length_map]
 exact Nat.le_trans (List.length_filter_le _ _) (by simp)
theorem tru_congr {p q:Nat→Bool} {n:Nat} (h:∀ i,i < n→p i = q i):tru p n = tru q n:=by
 unfold tru
 congr 1
 exact List.filter_congr fun i hi => h i (by simpa using hi)
theorem grow_own {T:Nat→V} {σ:Store} {nx t n0:Nat} {acc:List Int} (h:Grow T σ nx t acc) (hb:∀ b o l,T t = .rs b o l→n0 ≤ b):∃ ids,Own σ 1 (T t) (LI acc) ids∧∀ b ∈ ids,n0 ≤ b∧b < nx:=by
 rcases h with ⟨h1,rfl⟩ | ⟨b,h1,_,h2,h3⟩
 ·rw [h1]; exact ⟨[],own_of_nil _ _,by simp⟩
 ·rw [h1]
  exact ⟨[b],own_of_rs h2 (by omega),fun c hc => by have:=hb _ _ _ h1; simp only [List.mem_singleton] at hc; omega⟩
theorem markedO (bs:List Bool) (hl:bs.length ≤ 1000) (nx:Nat):∃ v σ1 nx1 ids,ev Tryz.prog convM extM 22 [LL cBo bs] noStore nx = some (v,σ1,nx1)∧nx ≤ nx1∧Own σ1 1 v (LI (tru (fun i => bs[i]? == some true) bs.length)) ids∧∀ b ∈ ids,nx ≤ b∧b < nx1:=by
 rw [ev_eqQ (rs:=[.tmp 2]) [] rfl Tryz.func22 rfl rfl (by kernel_rfl) (by kernel_rfl)]
 simp only [go_sem]
 generalize hL:evLoopI _ _ = y
 obtain ⟨r,rfl,T',σ',nx',rfl,h1,h2,h3⟩:=count_rule hL bs.length (fun k s => nx ≤ s.nx∧s.T 6 = LL cBo bs∧s.T 7 = I bs.length∧s.T 8 = I k∧Grow s.T s.σ s.nx 3 (tru (fun i => bs[i]? == some true) k)∧∀ b o l,s.T 3 = .rs b o l→nx ≤ b)
  (fun r => ∃ T σ nx',r = (.exit 0,⟨T,σ,nx'⟩)∧nx ≤ nx'∧Grow T σ nx' 3 (tru (fun i => bs[i]? == some true) bs.length)∧∀ b o l,T 3 = .rs b o l→nx ≤ b) (by
   clear hL
   rintro k ⟨T,σ,m⟩ hlt ⟨hn,h6,h7,h8,hg,hb⟩
   simp only at hn h6 h7 h8 hg hb
   have f1:(k:Int) < (bs.length:Int):=by omega
   have f2:(0:Int) ≤ (k:Int):=by omega
   have f3:=wrap_id (n:=(k:Int) + 1) (by omega) (by omega)
   have f4:(bs.flatMap cBo)[k]? = some (Bo bs[k]):=slot1 (fun b => Bo b) bs k hlt
   have f5:=slots_len (c:=cBo) (s:=1) (fun _ => rfl) bs
   have f9:=slot_ne (c:=cBo) (s:=1) (fun _ => rfl) (by omega) bs k hlt
   have hle:=tru_len (fun i => bs[i]? == some true) k
   cases hp:bs[k] with
   | true =>
    have hq:(fun i => bs[i]? == some true) k = true:=by simp [List.getElem?_eq_getElem hlt,hp]
    obtain ⟨σ',ha,hs⟩:=grow_append hg (k:Int) (by omega)
    refine .inl ⟨_,by simp only [go_sem,h6,h7,h8,f1,f2,f3,f4,f5,f9,hp,hlt,ha]; rfl,?_⟩
    simp only [go_sem,h6,h7]
    rw [tru_yes hq]
    refine ⟨by omega,rfl,grow_new hs (by simp [go_sem]) (by simp),fun b o l h => ?_⟩
    simp only [V.rs.injEq] at h
    omega
   | false =>
    have hq:(fun i => bs[i]? == some true) k = false:=by simp [List.getElem?_eq_getElem hlt,hp]
    refine .inl ⟨_,by simp only [go_sem,h6,h7,h8,f1,f2,f3,f4,f5,f9,hp,hlt]; rfl,?_⟩
    simp only [go_sem,h6,h7]
    rw [tru_no hq]
    exact ⟨hn,rfl,grow_eq (by simp only [go_sem]) hg,hb⟩) (by
   clear hL
   rintro ⟨T,σ,m⟩ ⟨hn,h6,h7,h8,hg,hb⟩
   simp only at hn h6 h7 h8 hg hb
   exact ⟨_,by simp only [go_sem,h7,h8,Int.lt_irrefl]; rfl,by simp,_,_,_,rfl,hn,grow_eq (by simp only [go_sem]) hg,by simpa only [go_sem] using hb⟩) (by
   simp only [go_sem]
   exact ⟨.inl ⟨by simp only [go_sem],rfl⟩,by simp⟩)
 obtain ⟨ids,ho,hi⟩:=grow_own h2 h3
 simp only [go_sem]
 exact ⟨_,_,_,ids,rfl,h1,ho,hi⟩
def movesTo (ms:List TV.Move) (i:Int) (k:Nat):Bool:=ms.any fun m => (m.fr == i) && (m.to == (k:Int))
def flags (ms:List TV.Move) (i:Int) (n:Nat):List Bool:=(List.range n).map (movesTo ms i)
theorem flags_len (ms:List TV.Move) (i:Int) (n:Nat):(flags ms i n).length = n:=by simp [flags]
theorem flags_yes {ms:List TV.Move} {i:Int} {n:Nat} {m:TV.Move} (h:m.fr = i) (h0:0 ≤ m.to):flags (ms ++ [m]) i n = (flags ms i n).set m.to.toNat true:=by
 refine List.ext_getElem (by simp [flags]) fun j h1 h2 => ?_
 rw [List.getElem_set]
 simp only [flags,List.getElem_map,List.getElem_range,movesTo,List.any_append,List.any_cons,List.any_nil,h,BEq.rfl,Bool.true_and,Bool.or_false]
 split
 ·rename_i e
  have:m.to = (j:Int):=by omega
  simp [this]
 ·rename_i e
  have:¬m.to = (j:Int):=by omega
  simp [this]
theorem flags_no {ms:List TV.Move} {i:Int} {n:Nat} {m:TV.Move} (h:¬m.fr = i):flags (ms ++ [m]) i n = flags ms i n:=by
 refine List.ext_getElem (by simp [flags]) fun j h1 h2 => ?_
 simp only [flags,List.getElem_map,List.getElem_range,movesTo,List.any_append,List.any_cons,List.any_nil]
 have:(m.fr == i) = false:=by simpa using h
 simp [this]
theorem flags_nil (i:Int) (n:Nat):flags [] i n = List.replicate n false:=by
 refine List.ext_getElem (by simp [flags]) fun j h1 h2 => ?_
 simp [flags,movesTo]
theorem rep_flags (n:Nat):rep n [Bo false] = (List.replicate n false).flatMap cBo:=by
 induction n with
 | zero => rfl
 | succ n ih => rw [rep_succ,ih,List.replicate_succ]; rfl
theorem cBo_set (xs:List Bool) (k:Nat) (b:Bool):(xs.flatMap cBo).set k (Bo b) = (xs.set k b).flatMap cBo:=by
 induction xs generalizing k with
 | nil => rfl
 | cons x xs ih =>
  cases k with
  | zero => rfl
  | succ k =>
   show Bo x :: (xs.flatMap cBo).set k (Bo b) = _
   rw [ih]; rfl
theorem yardNextO (y:Yard) (hg:YardGood y) (i:Int) (nx:Nat):∃ v σ1 nx1 ids,ev Tryz.prog convM extM 21 [.tp (cYard y) 0,I i] noStore nx = some (v,σ1,nx1)∧nx ≤ nx1∧Own σ1 1 v (LI (tru (movesTo y.moves i) y.stances.length)) ids∧∀ b ∈ ids,nx ≤ b∧b < nx1:=by
 obtain ⟨h6,h12,_,hm⟩:=hg
 have e1:1 * (y.stances.length:Int) ≤ 281474976710656:=by omega
 have e2:(y.stances.length:Int) ≤ 9223372036854775807:=by omega
 have e3:(0:Int) ≤ (y.stances.length:Int):=by omega
 rw [ev_eqQ (rs:=[.tmp 4]) [] rfl Tryz.func21 rfl rfl (by kernel_rfl) (by kernel_rfl)]
 simp only [go_sem,e1,e2,e3,Int.le_refl]
 generalize hL:evLoopI _ _ = z
 obtain ⟨r,rfl,T',σ',nx',rfl,h1,h2,h3⟩:=count_rule hL y.moves.length (fun k s => nx + 1 ≤ s.nx∧s.T 1 = I i∧s.T 5 = .rs nx 0 y.stances.length∧s.T 17 = LL cMove y.moves∧s.T 18 = I y.moves.length∧s.T 19 = I k∧s.σ nx = some ⟨(flags (y.moves.take k) i y.stances.length).flatMap cBo,1,true⟩)
  (fun r => ∃ T σ nx',r = (.exit 0,⟨T,σ,nx'⟩)∧nx + 1 ≤ nx'∧T 5 = .rs nx 0 y.stances.length∧σ nx = some ⟨(flags y.moves i y.stances.length).flatMap cBo,1,true⟩) (by
   clear hL
   rintro k ⟨T,σ,m⟩ hlt ⟨hn,h1,h5,h17,h18,h19,hs⟩
   simp only at hn h1 h5 h17 h18 h19 hs
   have f1:(k:Int) < (y.moves.length:Int):=by omega
   have f2:(0:Int) ≤ (k:Int):=by omega
   have f3:=wrap_id (n:=(k:Int) + 1) (by omega) (by omega)
   have f4:=slot (c:=cMove) (s:=2) (fun _ => rfl) y.moves k hlt
   have f5:=slots_len (c:=cMove) (s:=2) (fun _ => rfl) y.moves
   have f6:k * 2 + 2 ≤ y.moves.length * 2:=by omega
   have f9:=slot_ne (c:=cMove) (s:=2) (fun _ => rfl) (by omega) y.moves k hlt
   have nz:¬nx = m:=by omega
   have nz':¬m = nx:=by omega
   have ht:y.moves.take (k + 1) = y.moves.take k ++ [y.moves[k]]:=by rw [List.take_add_one,List.getElem?_eq_getElem hlt]; rfl
   obtain ⟨_,_,m1,m2,_⟩:=(hm k hlt).1
   by_cases hp:y.moves[k].fr = i
   ·have hp':(y.moves[k].fr == i) = true:=by simpa using hp
    have b1:y.moves[k].to < (y.stances.length:Int):=m2
    have b2:y.moves[k].to.toNat < y.stances.length:=by omega
    have f7:((flags (y.moves.take k) i y.stances.length).flatMap cBo).length = y.stances.length:=by rw [slots_len (c:=cBo) (s:=1) (fun _ => rfl),flags_len,Nat.mul_one]
    have f8:=cBo_set (flags (y.moves.take k) i y.stances.length) y.moves[k].to.toNat true
    refine .inl ⟨_,by simp only [go_sem,h1,h5,h17,h18,h19,hs,f1,f2,f3,f4,f5,f6,f7,f8,f9,hp',m1,b1,b2,nz,nz']; rfl,?_⟩
    simp only [go_sem,h1,h5,h17,h18]
    refine ⟨by omega,?_⟩
    rw [ht,flags_yes hp m1]
    exact ⟨rfl,rfl⟩
   ·have hp':(y.moves[k].fr == i) = false:=by simpa using hp
    refine .inl ⟨_,by simp only [go_sem,h1,h5,h17,h18,h19,hs,f1,f2,f3,f4,f5,f6,f9,hp',nz,nz']; rfl,?_⟩
    simp only [go_sem,h1,h5,h17,h18,nz,hs]
    refine ⟨by omega,?_⟩
    rw [ht,flags_no hp]
    exact ⟨rfl,rfl⟩) (by
   clear hL
   rintro ⟨T,σ,m⟩ ⟨hn,h1,h5,h17,h18,h19,hs⟩
   simp only at hn h1 h5 h17 h18 h19 hs
   rw [List.take_length] at hs
   exact ⟨_,by simp only [go_sem,h18,h19,Int.lt_irrefl]; rfl,by simp,_,_,_,rfl,hn,by simp only [go_sem,h5],hs⟩) (by
   simp only [go_sem]
   rw [flags_nil,← rep_flags])
 obtain ⟨v,σ1,nx1,ids,k1,hn1,ho,hi⟩:=markedO (flags y.moves i y.stances.length) (by rw [flags_len]; omega) nx'
 rw [flags_len] at ho
 have k1':ev Tryz.prog convM extM 22 [.ts ((flags y.moves i y.stances.length).flatMap cBo) y.stances.length] noStore nx' = some (v,σ1,nx1):=by
  rw [← k1]
  show _ = ev _ _ _ _ [.ts _ (flags y.moves i y.stances.length).length] _ _
  rw [flags_len]
 have g0:((flags y.moves i y.stances.length).flatMap cBo).length = y.stances.length:=by rw [slots_len (c:=cBo) (s:=1) (fun _ => rfl),flags_len,Nat.mul_one]
 have g1:((flags y.moves i y.stances.length).flatMap cBo).take y.stances.length = (flags y.moves i y.stances.length).flatMap cBo:=List.take_of_length_le (by omega)
 have g2:∀ (σ:Store) (d:Nat),stripL (strip σ d) ((flags y.moves i y.stances.length).flatMap cBo) = some ((flags y.moves i y.stances.length).flatMap cBo,[]):=fun σ d => stripL_slots (fun x => by rw [stripL_cons,strip_sc,stripL_nil]; rfl) _
 have g3:=fun d => ho.gather (d':=d + 1) (by omega)
 simp only [go_sem,h2,h3,g0,g1,g2,g3,k1',Nat.le_refl]
 refine ⟨v,_,nx1,ids,rfl,by omega,?_,fun b hb => ⟨by have:=(hi b hb).1; omega,(hi b hb).2⟩⟩
 have:tru (fun j => (flags y.moves i y.stances.length)[j]? == some true) y.stances.length = tru (movesTo y.moves i) y.stances.length:=by
  refine tru_congr fun j hj => ?_
  have:(flags y.moves i y.stances.length)[j]? = some (movesTo y.moves i j):=by simp [flags,hj]
  rw [this]
  cases movesTo y.moves i j <;> rfl
 rw [this] at ho
 exact ho.join fun b hb => (hi b hb).1
end Go.Proofs.YtoccmbjfkbemcaaGreat
namespace Go.Proofs.YtoccmbjfkbemcaaGreat
open Go Go.TV
theorem grow_append2 {T:Nat→V} {σ:Store} {nx t:Nat} {acc:List Int} (hg:Grow T σ nx t acc) (x:Int) (hl:acc.length < 17592186044415) :
  ∃ σ',appendTo (upd σ nx (some ⟨[I x],1,true⟩)) (nx + 1) 1 8 (T t) [I x] 1 = some (.rs (nx + 1) 0 (acc.length + 1),σ',nx + 1 + 1)∧σ' (nx + 1) = some ⟨(acc ++ [x]).flatMap cI,1,true⟩∧∀ c,c < nx→(∀ b o l,T t = .rs b o l→¬c = b)→σ' c = σ c:=by
 have hm:acc.length + 1 ≤ maxLen:=by unfold maxLen; omega
 rcases hg with ⟨h1,rfl⟩ | ⟨b,h1,hne,hb,hbn⟩
 ·refine ⟨_,by rw [h1,app_nil,if_neg (by decide),if_pos (by decide)]; rfl,?_,fun c hc _ => ?_⟩
  ·simp [evBox,upd]
  ·simp only [evBox,upd]
   rw [if_neg (by omega),if_neg (by omega)]
 ·refine ⟨_,by rw [h1,app_full (B:=⟨acc.flatMap cI,1,true⟩) (by rw [upd_ne _ _ (by omega)]; exact hb) (cI_len acc) rfl (by decide) hm (by omega) rfl],?_,fun c hc hcb => ?_⟩
  ·simp [upd]
  ·have:=hcb _ _ _ h1
   simp only [upd]
   rw [if_neg (by omega),if_neg (by omega),if_neg (by omega)]
theorem take_snoc {α:Type} {xs:List α} {k:Nat} (h:k < xs.length):xs.take (k + 1) = xs.take k ++ [xs[k]]:=by rw [List.take_add_one,List.getElem?_eq_getElem h]; rfl
end Go.Proofs.YtoccmbjfkbemcaaGreat
namespace Go.Lp
def sm (f:Nat→Rat):Nat→Rat
 | 0 => 0
 | n + 1 => sm f n + f n
theorem sm_congr {f g:Nat→Rat}:∀ {n:Nat},(∀ j,j < n→f j = g j)→sm f n = sm g n
 | 0,_ => rfl
 | n + 1,h => by unfold sm; rw [sm_congr fun j hj => h j (by omega),h n (by omega)]
theorem sm_add (f g:Nat→Rat):∀ n,sm (fun j => f j + g j) n = sm f n + sm g n
 | 0 => by unfold sm; grind
 | n + 1 => by unfold sm; rw [sm_add f g n]; grind
theorem sm_sub (f g:Nat→Rat):∀ n,sm (fun j => f j - g j) n = sm f n - sm g n
 | 0 => by unfold sm; grind
 | n + 1 => by unfold sm; rw [sm_sub f g n]; grind
theorem sm_mul (a:Rat) (f:Nat→Rat):∀ n,sm (fun j => a * f j) n = a * sm f n
 | 0 => by simp [sm]
 | n + 1 => by unfold sm; rw [sm_mul a f n]; grind
theorem sm_zero {f:Nat→Rat}:∀ {n:Nat},(∀ j,j < n→f j = 0)→sm f n = 0
 | 0,_ => rfl
 | n + 1,h => by unfold sm; rw [sm_zero fun j hj => h j (by omega),h n (by omega)]; grind
theorem sm_single {f:Nat→Rat} {k:Nat}:∀ {n:Nat},k < n→(∀ j,j < n→j ≠ k→f j = 0)→sm f n = f k
 | n + 1,hk,h => by
  unfold sm
  by_cases e:k = n
  ·subst e
   rw [sm_zero fun j hj => h j (by omega) (by omega)]; grind
  ·rw [sm_single (n:=n) (by omega) fun j hj => h j (by omega),h n (by omega) (by omega)]; grind
theorem sm_nonneg {f:Nat→Rat}:∀ {n:Nat},(∀ j,j < n→0 ≤ f j)→0 ≤ sm f n
 | 0,_ => by simp [sm]
 | n + 1,h => by
  unfold sm
  have h1:=sm_nonneg (n:=n) fun j hj => h j (by omega)
  have h2:=h n (by omega)
  grind
theorem sm_swap (f:Nat→Nat→Rat) (n:Nat):∀ m,sm (fun i => sm (fun j => f i j) n) m = sm (fun j => sm (fun i => f i j) m) n
 | 0 => (sm_zero (n:=n) fun j _ => rfl).symm
 | m + 1 => by
  show sm _ m + _ = _
  rw [sm_swap f n m,← sm_add]
  rfl
structure Tab where
 e:Nat→Nat→Rat
 b:Nat→Rat
 B:Nat→Nat
def Sol (m n:Nat) (T:Tab) (x:Nat→Rat):Prop:=∀ i,i < m→sm (fun j => T.e i j * x j) n = T.b i
structure Ok (m n:Nat) (T:Tab):Prop where
 bn:∀ i,i < m→T.B i < n
 un:∀ i k,i < m→k < m→T.e i (T.B k) = if i = k then 1 else 0
 nb:∀ i,i < m→0 ≤ T.b i
def basic (m:Nat) (T:Tab) (j:Nat):Prop:=∃ i,i < m∧T.B i = j
def piv (T:Tab) (r k:Nat):Tab where
 e i j:=if i = r then T.e r j / T.e r k else T.e i j - T.e i k * (T.e r j / T.e r k)
 b i:=if i = r then T.b r / T.e r k else T.b i - T.e i k * (T.b r / T.e r k)
 B i:=if i = r then k else T.B i
section
variable {m n:Nat} {T:Tab}
theorem Ok.inj (h:Ok m n T) {i k:Nat} (hi:i < m) (hk:k < m) (e:T.B i = T.B k):i = k:=by
 have h1:=h.un i k hi hk
 have h2:=h.un i i hi hi
 rw [← e,h2] at h1
 by_cases q:i = k
 ·exact q
 ·simp [q] at h1
theorem sol_piv {r k:Nat} (hr:r < m) (hk:T.e r k ≠ 0) (x:Nat→Rat):Sol m n (piv T r k) x ↔ Sol m n T x:=by
 have row:sm (fun j => T.e r j / T.e r k * x j) n = sm (fun j => T.e r j * x j) n / T.e r k:=by
  rw [Rat.div_def,Rat.mul_comm,← sm_mul]
  exact sm_congr fun j _ => by grind
 have other:∀ i,i ≠ r→sm (fun j => (piv T r k).e i j * x j) n = sm (fun j => T.e i j * x j) n - T.e i k * sm (fun j => T.e r j / T.e r k * x j) n:=fun i hi => by
  rw [← sm_mul,← sm_sub]
  refine sm_congr fun j _ => ?_
  simp only [piv,if_neg hi]
  grind
 constructor
 ·intro h i hi
  have h1:=h r hr
  simp only [piv,if_pos] at h1
  rw [row] at h1
  by_cases e:i = r
  ·subst e
   grind
  ·have h2:=h i hi
   rw [other i e,row,h1] at h2
   simp only [piv,if_neg e] at h2
   grind
 ·intro h i hi
  have h1:=h r hr
  by_cases e:i = r
  ·subst e
   simp only [piv,if_pos]
   rw [row,h1]
  ·rw [other i e,row,h1,h i hi]
   simp only [piv,if_neg e]
theorem ok_piv (h:Ok m n T) {r s:Nat} (hr:r < m) (hs:s < n) (hp:0 < T.e r s) (hmin:∀ i,i < m→0 < T.e i s→T.b r * T.e i s ≤ T.b i * T.e r s):Ok m n (piv T r s):=by
 have hne:T.e r s ≠ 0:=by grind
 refine ⟨fun i hi => ?_,fun i k hi hk => ?_,fun i hi => ?_⟩
 ·simp only [piv]
  split
  ·exact hs
  ·exact h.bn i hi
 ·have u1:=h.un i k hi hk
  have u2:=h.un r k hr hk
  simp only [piv]
  by_cases ek:k = r
  ·subst ek
   rw [if_pos rfl]
   by_cases ei:i = k
   ·rw [if_pos ei,if_pos ei]; grind
   ·rw [if_neg ei,if_neg ei]; grind
  ·rw [if_neg ek]
   rw [if_neg (Ne.symm ek)] at u2
   by_cases ei:i = r
   ·subst ei
    rw [if_pos rfl,if_neg (Ne.symm ek),u2]; grind
   ·rw [if_neg ei,u1,u2]; grind
 ·simp only [piv]
  have b0:=h.nb r hr
  have hq:0 ≤ T.b r / T.e r s:=by
   rw [Rat.div_def]
   exact Rat.mul_nonneg b0 (Rat.le_of_lt (Rat.inv_pos.mpr hp))
  by_cases ei:i = r
  ·rw [if_pos ei]; exact hq
  ·rw [if_neg ei]
   have bi:=h.nb i hi
   by_cases hpos:0 < T.e i s
   ·have h1:=hmin i hi hpos
    have h2:T.e i s * (T.b r / T.e r s) * T.e r s = T.b r * T.e i s:=by grind
    have h3:T.e i s * (T.b r / T.e r s) ≤ T.b i:=Rat.le_of_mul_le_mul_right (by rw [h2]; exact h1) hp
    grind
   ·have h1:T.e i s ≤ 0:=Rat.not_lt.mp hpos
    have h2:T.e i s * (T.b r / T.e r s) ≤ 0:=by
     have:=Rat.mul_le_mul_of_nonneg_right h1 hq
     rwa [Rat.zero_mul] at this
    grind
def bas (m:Nat) (T:Tab) (j:Nat):Rat:=sm (fun i => if T.B i = j then T.b i else 0) m
theorem bas_B (h:Ok m n T) {i:Nat} (hi:i < m):bas m T (T.B i) = T.b i:=by
 unfold bas
 rw [sm_single hi fun k hk hne => if_neg fun e => hne (h.inj hk hi e)]
 simp
theorem bas_non {j:Nat} (h:¬basic m T j):bas m T j = 0:=sm_zero fun i hi => if_neg fun e => h ⟨i,hi,e⟩
theorem bas_nonneg (h:Ok m n T) (j:Nat):0 ≤ bas m T j:=sm_nonneg fun i hi => by
 split
 ·exact h.nb i hi
 ·exact Rat.le_refl
theorem split_basic (h:Ok m n T) {i:Nat} (hi:i < m) (x:Nat→Rat):sm (fun j => T.e i j * x j) n = x (T.B i) + sm (fun j => if sm (fun k => if T.B k = j then (1:Rat) else 0) m = 0 then T.e i j * x j else 0) n:=by
 have hb:∀ j,basic m T j→sm (fun k => if T.B k = j then (1:Rat) else 0) m = 1:=by
  rintro j ⟨k,hk,rfl⟩
  rw [sm_single hk fun q hq hne => if_neg fun e => hne (h.inj hq hk e)]
  simp
 have e1:sm (fun j => T.e i j * x j) n = sm (fun j => if j = T.B i then x j else 0) n + sm (fun j => if sm (fun k => if T.B k = j then (1:Rat) else 0) m = 0 then T.e i j * x j else 0) n:=by
  rw [← sm_add]
  refine sm_congr fun j hj => ?_
  by_cases hbj:basic m T j
  ·have e10:¬((1:Rat) = 0):=by decide
   rw [hb j hbj,if_neg e10]
   obtain ⟨k,hk,rfl⟩:=hbj
   have u:=h.un i k hi hk
   by_cases e:i = k
   ·subst e; rw [if_pos rfl] at u; rw [if_pos rfl,u]; grind
   ·rw [if_neg e] at u
    rw [if_neg fun q => e (h.inj hk hi q).symm,u]; grind
  ·rw [sm_zero fun k hk => if_neg fun e => hbj ⟨k,hk,e⟩,if_pos rfl,if_neg fun e => hbj ⟨i,hi,e.symm⟩]; grind
 rw [e1,sm_single (h.bn i hi) fun j _ hne => if_neg hne]
 simp
theorem bas_sol (h:Ok m n T):Sol m n T (bas m T):=fun i hi => by
 rw [split_basic h hi,bas_B h hi,sm_zero fun j hj => ?_]
 ·grind
 ·split
  ·rename_i hz
   rw [bas_non,Rat.mul_zero]
   rintro ⟨k,hk,rfl⟩
   rw [sm_single hk fun q hq hne => if_neg fun e => hne (h.inj hq hk e)] at hz
   simp at hz
  ·rfl
theorem sol_unique (h:Ok m n T) {x:Nat→Rat} (hx:Sol m n T x) (hz:∀ j,j < n→¬basic m T j→x j = 0):∀ j,j < n→x j = bas m T j:=fun j hj => by
 by_cases hb:basic m T j
 ·obtain ⟨i,hi,rfl⟩:=hb
  have h1:=hx i hi
  rw [split_basic h hi,sm_zero fun q hq => ?_] at h1
  ·rw [bas_B h hi]; grind
  ·split
   ·rename_i hz'
    rw [hz q hq,Rat.mul_zero]
    rintro ⟨k,hk,rfl⟩
    rw [sm_single hk fun q hq hne => if_neg fun e => hne (h.inj hq hk e)] at hz'
    simp at hz'
   ·rfl
 ·rw [bas_non hb]; exact hz j hj hb
def gm (m:Nat) (T:Tab) (c:Nat→Rat) (j:Nat):Rat:=c j - sm (fun i => T.e i j * c (T.B i)) m
def ob (n:Nat) (c x:Nat→Rat):Rat:=sm (fun j => c j * x j) n
def zz (m:Nat) (T:Tab) (c:Nat→Rat):Rat:=sm (fun i => T.b i * c (T.B i)) m
theorem ob_eq {c x:Nat→Rat} (hx:Sol m n T x):ob n c x = zz m T c + ob n (gm m T c) x:=by
 have h1:ob n (gm m T c) x = ob n c x - sm (fun j => sm (fun i => T.e i j * c (T.B i)) m * x j) n:=by
  unfold ob
  rw [← sm_sub]
  exact sm_congr fun j _ => by unfold gm; grind
 have h2:sm (fun j => sm (fun i => T.e i j * c (T.B i)) m * x j) n = zz m T c:=by
  have:sm (fun j => sm (fun i => T.e i j * c (T.B i)) m * x j) n = sm (fun j => sm (fun i => (T.e i j * x j) * c (T.B i)) m) n:=sm_congr fun j _ => by
   rw [Rat.mul_comm,← sm_mul]
   exact sm_congr fun i _ => by grind
  rw [this,← sm_swap]
  unfold zz
  refine sm_congr fun i hi => ?_
  rw [← hx i hi,Rat.mul_comm,← sm_mul]
  exact sm_congr fun j _ => by grind
 rw [h1,h2]; grind
theorem gm_B (h:Ok m n T) (c:Nat→Rat) {k:Nat} (hk:k < m):gm m T c (T.B k) = 0:=by
 unfold gm
 rw [sm_single hk fun i hi hne => by rw [h.un i k hi hk,if_neg hne]; grind]
 rw [h.un k k hk hk,if_pos rfl]; grind
theorem zz_eq (h:Ok m n T) (c:Nat→Rat):ob n c (bas m T) = zz m T c:=by
 rw [ob_eq (bas_sol h)]
 have:ob n (gm m T c) (bas m T) = 0:=sm_zero fun j _ => by
  by_cases hb:basic m T j
  ·obtain ⟨i,hi,rfl⟩:=hb
   rw [gm_B h c hi,Rat.zero_mul]
  ·rw [bas_non hb,Rat.mul_zero]
 rw [this]; grind
end
end Go.Lp
namespace Go.Lp
def Zr (d:Nat) (w:Nat→Rat):Prop:=∀ q,q < d→w q = 0
def Lp:Nat→(Nat→Rat)→Prop
 | 0,_ => False
 | d + 1,w => Lp d w∨(Zr d w∧0 < w d)
def Nn (d:Nat) (w:Nat→Rat):Prop:=Lp d w∨Zr d w
theorem Zr.succ {d:Nat} {w:Nat→Rat}:Zr (d + 1) w ↔ Zr d w∧w d = 0 :=
 ⟨fun h => ⟨fun q hq => h q (by omega),h d (by omega)⟩,fun h q hq => by
  rcases Nat.lt_or_eq_of_le (Nat.le_of_lt_succ hq) with h1 | h1
  ·exact h.1 q h1
  ·rw [h1]; exact h.2⟩
theorem Lp.not_zr {w:Nat→Rat}:∀ {d:Nat},Lp d w→¬Zr d w
 | 0,h,_ => h
 | d + 1,h,hz => by
  have hz:=Zr.succ.mp hz
  rcases h with h | ⟨_,h⟩
  ·exact h.not_zr hz.1
  ·have:=hz.2; grind
theorem lex_tri (w:Nat→Rat):∀ d,Lp d w∨Zr d w∨Lp d (fun q => -w q)
 | 0 => .inr (.inl fun q hq => by omega)
 | d + 1 => by
  rcases lex_tri w d with h | h | h
  ·exact .inl (.inl h)
  ·by_cases h0:w d = 0
   ·exact .inr (.inl (Zr.succ.mpr ⟨h,h0⟩))
   ·by_cases hp:0 < w d
    ·exact .inl (.inr ⟨h,hp⟩)
    ·exact .inr (.inr (.inr ⟨fun q hq => by show -w q = 0; rw [h q hq]; rfl,by show 0 < -w d; grind⟩))
  ·exact .inr (.inr (.inl h))
theorem Lp.congr {w v:Nat→Rat}:∀ {d:Nat},(∀ q,q < d→w q = v q)→Lp d w→Lp d v
 | 0,_,h => h
 | d + 1,e,h => by
  rcases h with h | ⟨h1,h2⟩
  ·exact .inl (Lp.congr (fun q hq => e q (by omega)) h)
  ·exact .inr ⟨fun q hq => by rw [← e q (by omega)]; exact h1 q hq,by rw [← e d (by omega)]; exact h2⟩
theorem Zr.congr {d:Nat} {w v:Nat→Rat} (e:∀ q,q < d→w q = v q) (h:Zr d w):Zr d v:=fun q hq => by rw [← e q hq]; exact h q hq
theorem Zr.add {d:Nat} {w v:Nat→Rat} (h:Zr d w) (h':Zr d v):Zr d fun q => w q + v q:=fun q hq => by
 show w q + v q = 0
 rw [h q hq,h' q hq]; grind
theorem Lp.add_zr {w v:Nat→Rat}:∀ {d:Nat},Lp d w→Zr d v→Lp d fun q => w q + v q
 | d + 1,h,hz => by
  have hz:=Zr.succ.mp hz
  rcases h with h | ⟨h1,h2⟩
  ·exact .inl (h.add_zr hz.1)
  ·exact .inr ⟨h1.add hz.1,by show 0 < w d + v d; rw [hz.2]; grind⟩
theorem Lp.add {w v:Nat→Rat}:∀ {d:Nat},Lp d w→Lp d v→Lp d fun q => w q + v q
 | d + 1,h,h' => by
  rcases h with h | ⟨h1,h2⟩ <;> rcases h' with h' | ⟨h1',h2'⟩
  ·exact .inl (h.add h')
  ·exact .inl (h.add_zr h1')
  ·exact .inl ((h'.add_zr h1).congr fun q _ => by grind)
  ·exact .inr ⟨h1.add h1',by show 0 < w d + v d; grind⟩
theorem Nn.add {d:Nat} {w v:Nat→Rat} (h:Nn d w) (h':Nn d v):Nn d fun q => w q + v q:=by
 rcases h with h | h <;> rcases h' with h' | h'
 ·exact .inl (h.add h')
 ·exact .inl (h.add_zr h')
 ·exact .inl ((h'.add_zr h).congr fun q _ => by grind)
 ·exact .inr (h.add h')
theorem Lp.add_nn {d:Nat} {w v:Nat→Rat} (h:Lp d w) (h':Nn d v):Lp d fun q => w q + v q:=by
 rcases h' with h' | h'
 ·exact h.add h'
 ·exact h.add_zr h'
theorem Lp.smul {w:Nat→Rat} {a:Rat} (ha:0 < a):∀ {d:Nat},Lp d w→Lp d fun q => a * w q
 | d + 1,h => by
  rcases h with h | ⟨h1,h2⟩
  ·exact .inl (h.smul ha)
  ·exact .inr ⟨fun q hq => by show a * w q = 0; rw [h1 q hq]; grind,Rat.mul_pos ha h2⟩
theorem Zr.smul {d:Nat} {w:Nat→Rat} (a:Rat) (h:Zr d w):Zr d fun q => a * w q:=fun q hq => by show a * w q = 0; rw [h q hq]; grind
theorem Nn.smul {d:Nat} {w:Nat→Rat} {a:Rat} (ha:0 ≤ a) (h:Nn d w):Nn d fun q => a * w q:=by
 by_cases h0:a = 0
 ·subst h0; exact .inr fun q _ => by show 0 * w q = 0; grind
 ·rcases h with h | h
  ·exact .inl (h.smul (by grind))
  ·exact .inr (h.smul a)
theorem nn_of_not {d:Nat} {w:Nat→Rat} (h:¬Lp d w):Nn d fun q => -w q:=by
 rcases lex_tri w d with h1 | h1 | h1
 ·exact absurd h1 h
 ·exact .inr fun q hq => by show -w q = 0; rw [h1 q hq]; rfl
 ·exact .inl h1
theorem not_of_nn {d:Nat} {w:Nat→Rat} (h:Nn d fun q => -w q):¬Lp d w:=fun hp => by
 have h1:=hp.add_nn h
 exact h1.not_zr fun q _ => by show w q + -w q = 0; grind
theorem Nn.sum {d:Nat} {f:Nat→Nat→Rat}:∀ {n:Nat},(∀ j,j < n→Nn d fun q => f q j)→Nn d fun q => sm (f q) n
 | 0,_ => .inr fun q _ => rfl
 | n + 1,h => (Nn.sum fun j hj => h j (by omega)).add (h n (by omega))
theorem lp_sum {d n:Nat} {f:Nat→Nat→Rat} (h:Lp d fun q => sm (f q) n):∃ j,j < n∧Lp d fun q => f q j:=by
 refine Classical.byContradiction fun hn => not_of_nn ?_ h
 have h1:Nn d fun q => sm (fun j => -f q j) n:=Nn.sum fun j hj => nn_of_not fun hp => hn ⟨j,hj,hp⟩
 refine h1.imp (Lp.congr fun q _ => ?_) (Zr.congr fun q _ => ?_)
 all_goals
  show sm (fun j => -f q j) n = -sm (f q) n
  have:=sm_mul (-1) (f q) n
  rw [show (fun j => -f q j) = fun j => -1 * f q j by funext j; grind,this]; grind
def gv (m:Nat) (T:Tab) (C:Nat→Nat→Rat) (j:Nat):Nat→Rat:=fun q => gm m T (C q) j
structure Enters (m n d:Nat) (C:Nat→Nat→Rat) (Fr:Nat→Prop) (T:Tab) (s:Nat):Prop where
 lt:s < n
 fr:Fr s
 non:¬basic m T s
 pos:Lp d (gv m T C s)
 low:∀ j,j < s→Fr j→¬basic m T j→¬Lp d (gv m T C j)
structure Leaves (m:Nat) (T:Tab) (s r:Nat):Prop where
 lt:r < m
 pos:0 < T.e r s
 low:∀ i,i < m→0 < T.e i s→T.b r * T.e i s ≤ T.b i * T.e r s
 tie:∀ i,i < m→0 < T.e i s→T.b r * T.e i s = T.b i * T.e r s→T.B r ≤ T.B i
def Step (m n d:Nat) (C:Nat→Nat→Rat) (Fr:Nat→Prop) (T T':Tab):Prop:=∃ s r,Enters m n d C Fr T s∧Leaves m T s r∧T' = piv T r s
section
variable {m n d:Nat} {C:Nat→Nat→Rat} {Fr:Nat→Prop}
theorem gm_piv_zz {T:Tab} (h:Ok m n T) {r s:Nat} (hr:r < m) (hs:s < n) (hok:Ok m n (piv T r s)) (hp:0 < T.e r s) (c:Nat→Rat):zz m (piv T r s) c = zz m T c + T.b r / T.e r s * gm m T c s:=by
 have hne:T.e r s ≠ 0:=by grind
 rw [← zz_eq hok c,ob_eq ((sol_piv hr hne _).mp (bas_sol hok))]
 congr 1
 have hB:(piv T r s).B r = s:=by simp [piv]
 have hb:bas m (piv T r s) s = T.b r / T.e r s:=by
  have:=bas_B hok hr
  rw [hB] at this
  rw [this]; simp [piv]
 unfold ob
 rw [sm_single hs fun j hj hne' => ?_,hb,Rat.mul_comm]
 by_cases hbj:basic m T j
 ·obtain ⟨i,hi,rfl⟩:=hbj
  rw [gm_B h c hi,Rat.zero_mul]
 ·rw [bas_non,Rat.mul_zero]
  rintro ⟨i,hi,e⟩
  simp only [piv] at e
  split at e
  ·exact hne' e.symm
  ·exact hbj ⟨i,hi,e⟩
theorem basic_piv {T:Tab} {r s:Nat} (hr:r < m) (j:Nat):basic m (piv T r s) j ↔ j = s∨∃ i,i < m∧i ≠ r∧T.B i = j:=by
 constructor
 ·rintro ⟨i,hi,e⟩
  simp only [piv] at e
  split at e
  ·exact .inl e.symm
  ·rename_i hne; exact .inr ⟨i,hi,hne,e⟩
 ·rintro (rfl | ⟨i,hi,hne,e⟩)
  ·exact ⟨r,hr,by simp [piv]⟩
  ·exact ⟨i,hi,by simp [piv,hne,e]⟩
theorem bas_same {T:Tab} (h:Ok m n T) {r s:Nat} (hr:r < m) (h0:T.b r = 0) (j:Nat):bas m (piv T r s) j = bas m T j:=by
 unfold bas
 refine sm_congr fun i hi => ?_
 by_cases e:i = r
 ·subst e
  have h1:(piv T i s).b i = 0:=by
   simp only [piv,if_true,h0]
   rw [Rat.div_def]; grind
  rw [h1,h0]; simp
 ·have h1:(piv T r s).b i = T.b i:=by
   simp only [piv,if_neg e,h0]
   rw [Rat.div_def]; grind
  have h2:(piv T r s).B i = T.B i:=by simp only [piv,if_neg e]
  rw [h1,h2]
def dir (m:Nat) (T:Tab) (s:Nat) (j:Nat):Rat:=(if j = s then 1 else 0) - sm (fun i => if T.B i = j then T.e i s else 0) m
theorem dir_s {T:Tab} {s:Nat} (hs:¬basic m T s):dir m T s s = 1:=by
 unfold dir
 rw [if_pos rfl,sm_zero fun i hi => if_neg fun e => hs ⟨i,hi,e⟩]; grind
theorem dir_B {T:Tab} (h:Ok m n T) {s:Nat} (hs:¬basic m T s) {i:Nat} (hi:i < m):dir m T s (T.B i) = -T.e i s:=by
 unfold dir
 rw [if_neg fun e => hs ⟨i,hi,e⟩,sm_single hi fun k hk hne => if_neg fun e => hne (h.inj hk hi e),if_pos rfl]; grind
theorem dir_non {T:Tab} {s j:Nat} (hj:¬basic m T j) (hne:j ≠ s):dir m T s j = 0:=by
 unfold dir
 rw [if_neg hne,sm_zero fun i hi => if_neg fun e => hj ⟨i,hi,e⟩]; grind
theorem dir_sol {T:Tab} (h:Ok m n T) {s:Nat} (hs:s < n) (hns:¬basic m T s) (a:Rat):Sol m n T fun j => bas m T j + a * dir m T s j:=fun i hi => by
 have e1:sm (fun j => T.e i j * (bas m T j + a * dir m T s j)) n = sm (fun j => T.e i j * bas m T j) n + a * sm (fun j => T.e i j * dir m T s j) n:=by
  rw [← sm_mul,← sm_add]
  exact sm_congr fun j _ => by grind
 have e2:sm (fun j => T.e i j * dir m T s j) n = 0:=by
  have q:sm (fun j => T.e i j * dir m T s j) n = sm (fun j => if j = s then T.e i j else 0) n - sm (fun j => if j = T.B i then T.e i s else 0) n:=by
   rw [← sm_sub]
   refine sm_congr fun j hj => ?_
   by_cases hb:basic m T j
   ·obtain ⟨k,hk,rfl⟩:=hb
    rw [dir_B h hns hk,h.un i k hi hk,if_neg fun e => hns ⟨k,hk,e⟩]
    by_cases e:i = k
    ·subst e; rw [if_pos rfl,if_pos rfl]; grind
    ·rw [if_neg e,if_neg fun q => e (h.inj hk hi q).symm]; grind
   ·have hne:¬j = T.B i:=fun e => hb ⟨i,hi,e.symm⟩
    by_cases e:j = s
    ·subst e; rw [dir_s hb,if_pos rfl,if_neg hne]; grind
    ·rw [dir_non hb e,if_neg e,if_neg hne]; grind
  rw [q,sm_single hs fun j _ hne => if_neg hne,sm_single (h.bn i hi) fun j _ hne => if_neg hne]
  simp only [if_true]; grind
 rw [e1,bas_sol h i hi,e2]; grind
end
end Go.Lp
namespace Go.Lp
section
variable {m n d:Nat} {C:Nat→Nat→Rat} {Fr:Nat→Prop}
theorem Step.ok {T T':Tab} (h:Ok m n T) (hs:Step m n d C Fr T T'):Ok m n T':=by
 obtain ⟨s,r,he,hl,rfl⟩:=hs
 exact ok_piv h hl.lt he.lt hl.pos fun i hi hp => hl.low i hi hp
structure Chain (m n d:Nat) (C:Nat→Nat→Rat) (Fr:Nat→Prop) (f:Nat→Tab) (s r:Nat→Nat) (a b:Nat):Prop where
 ok:∀ i,a ≤ i→i ≤ b→Ok m n (f i)
 en:∀ i,a ≤ i→i < b→Enters m n d C Fr (f i) (s i)
 lv:∀ i,a ≤ i→i < b→Leaves m (f i) (s i) (r i)
 nx:∀ i,a ≤ i→i < b→f (i + 1) = piv (f i) (r i) (s i)
variable {f:Nat→Tab} {s r:Nat→Nat} {a b:Nat}
def zv (m:Nat) (T:Tab) (C:Nat→Nat→Rat):Nat→Rat:=fun q => zz m T (C q)
theorem Chain.mono (h:Chain m n d C Fr f s r a b) {i j:Nat} (ha:a ≤ i) (hij:i ≤ j) (hb:j ≤ b):Nn d fun q => zv m (f j) C q - zv m (f i) C q:=by
 induction j with
 | zero => obtain rfl:i = 0:=by omega
           exact .inr fun q _ => by show _ - _ = _; grind
 | succ j ih =>
  by_cases e:i = j + 1
  ·subst e; exact .inr fun q _ => by show _ - _ = _; grind
  ·have h1:=ih (by omega) (by omega)
   have ok1:=h.ok j (by omega) (by omega)
   have ok2:=h.ok (j + 1) (by omega) (by omega)
   have en:=h.en j (by omega) (by omega)
   have lv:=h.lv j (by omega) (by omega)
   rw [h.nx j (by omega) (by omega)] at ok2 ⊢
   have hq:0 ≤ (f j).b (r j) / (f j).e (r j) (s j):=by
    rw [Rat.div_def]; exact Rat.mul_nonneg (ok1.nb _ lv.lt) (Rat.le_of_lt (Rat.inv_pos.mpr lv.pos))
   have h2:=Nn.smul (d:=d) (w:=gv m (f j) C (s j)) hq (.inl en.pos)
   have h3:=h1.add h2
   refine h3.imp (Lp.congr fun q _ => ?_) (Zr.congr fun q _ => ?_)
   all_goals
    have:=gm_piv_zz ok1 lv.lt en.lt ok2 lv.pos (C q)
    unfold zv gv
    rw [this]; grind
theorem Chain.flat (h:Chain m n d C Fr f s r a b) (hz:Zr d fun q => zv m (f b) C q - zv m (f a) C q) {i:Nat} (ha:a ≤ i) (hb:i < b):(f i).b (r i) = 0:=by
 have ok1:=h.ok i ha (by omega)
 have ok2:=h.ok (i + 1) (by omega) (by omega)
 have en:=h.en i ha hb
 have lv:=h.lv i ha hb
 refine Classical.byContradiction fun h0 => ?_
 have hpos:0 < (f i).b (r i) / (f i).e (r i) (s i):=by
  rw [Rat.div_def]
  have:=ok1.nb _ lv.lt
  exact Rat.mul_pos (by grind) (Rat.inv_pos.mpr lv.pos)
 have h1:=h.mono (Nat.le_refl a) ha (by omega)
 have h2:=h.mono (i:=i + 1) (j:=b) (by omega) (by omega) (Nat.le_refl _)
 have h3:=(Lp.smul (d:=d) (w:=gv m (f i) C (s i)) hpos en.pos).add_nn (h1.add h2)
 refine h3.not_zr (hz.congr fun q _ => ?_)
 rw [h.nx i ha hb] at ok2 ⊢
 have:=gm_piv_zz ok1 lv.lt en.lt ok2 lv.pos (C q)
 unfold zv gv at *
 rw [this]; grind
theorem Chain.still (h:Chain m n d C Fr f s r a b) (hz:Zr d fun q => zv m (f b) C q - zv m (f a) C q) {i:Nat} (ha:a ≤ i) (hb:i ≤ b) (j:Nat):bas m (f i) j = bas m (f a) j:=by
 induction i with
 | zero => obtain rfl:a = 0:=by omega
           rfl
 | succ i ih =>
  by_cases e:a = i + 1
  ·rw [e]
  ·rw [h.nx i (by omega) (by omega),bas_same (h.ok i (by omega) (by omega)) (h.lv i (by omega) (by omega)).lt (h.flat hz (by omega) (by omega))]
   exact ih (by omega) (by omega)
theorem Chain.stay_non (h:Chain m n d C Fr f s r a b) {j:Nat} (hne:∀ i,a ≤ i→i < b→s i ≠ j) {i k:Nat} (ha:a ≤ i) (hik:i ≤ k) (hb:k ≤ b) (hj:¬basic m (f i) j):¬basic m (f k) j:=by
 induction k with
 | zero => obtain rfl:i = 0:=by omega
           exact hj
 | succ k ih =>
  by_cases e:i = k + 1
  ·rw [← e]; exact hj
  ·have h1:=ih (by omega) (by omega)
   rw [h.nx k (by omega) (by omega),basic_piv (h.lv k (by omega) (by omega)).lt]
   rintro (h2 | ⟨q,hq,_,h2⟩)
   ·exact hne k (by omega) (by omega) h2.symm
   ·exact h1 ⟨q,hq,h2⟩
theorem Chain.stay_basic (h:Chain m n d C Fr f s r a b) {j:Nat} (hne:∀ i,a ≤ i→i < b→(f i).B (r i) ≠ j) {i k:Nat} (ha:a ≤ i) (hik:i ≤ k) (hb:k ≤ b) (hj:basic m (f i) j):basic m (f k) j:=by
 induction k with
 | zero => obtain rfl:i = 0:=by omega
           exact hj
 | succ k ih =>
  by_cases e:i = k + 1
  ·rw [← e]; exact hj
  ·have h1:=ih (by omega) (by omega)
   rw [h.nx k (by omega) (by omega),basic_piv (h.lv k (by omega) (by omega)).lt]
   obtain ⟨q,hq,h2⟩:=h1
   refine .inr ⟨q,hq,fun e => ?_,h2⟩
   rw [e] at h2
   exact hne k (by omega) (by omega) h2
theorem greatest {p:Nat→Prop} {N:Nat} (hN:∀ j,p j→j < N) {j:Nat} (hj:p j):∃ t,p t∧∀ k,p k→k ≤ t:=by
 induction N generalizing j with
 | zero => exact absurd (hN j hj) (by omega)
 | succ N ih =>
  by_cases h:p N
  ·exact ⟨N,h,fun k hk => by have:=hN k hk; omega⟩
  ·exact ih (fun k hk => by
    have:=hN k hk
    have:k ≠ N:=fun e => h (e ▸ hk)
    omega) hj
theorem sol_chain (h:Chain m n d C Fr f s r a b) {i k:Nat} (ha:a ≤ i) (hik:i ≤ k) (hb:k ≤ b) (x:Nat→Rat):Sol m n (f k) x ↔ Sol m n (f i) x:=by
 induction k with
 | zero => obtain rfl:i = 0:=by omega
           exact Iff.rfl
 | succ k ih =>
  by_cases e:i = k + 1
  ·rw [← e]
  ·have lv:=h.lv k (by omega) (by omega)
   have hp:=lv.pos
   rw [h.nx k (by omega) (by omega),sol_piv lv.lt (by grind)]
   exact ih (by omega) (by omega)
theorem no_cycle (h:Chain m n d C Fr f s r a b) (hab:a < b) (hbas:∀ j,j < n→(basic m (f a) j ↔ basic m (f b) j)):False:=by
 have hlt:∀ i,a ≤ i→i ≤ b→∀ j,basic m (f i) j→j < n:=fun i ha hb j hj => by
  obtain ⟨q,hq,rfl⟩:=hj
  exact (h.ok i ha hb).bn q hq
 have hbas':∀ j,(basic m (f a) j ↔ basic m (f b) j):=fun j =>
  ⟨fun hj => (hbas j (hlt a (Nat.le_refl _) (by omega) j hj)).mp hj,fun hj => (hbas j (hlt b (by omega) (Nat.le_refl _) j hj)).mpr hj⟩
 have oka:=h.ok a (Nat.le_refl _) (by omega)
 have okb:=h.ok b (by omega) (Nat.le_refl _)
 have hsame:∀ j,j < n→bas m (f b) j = bas m (f a) j:=sol_unique oka ((sol_chain h (Nat.le_refl _) (by omega) (Nat.le_refl _) _).mp (bas_sol okb)) fun j _ hj => bas_non fun hb => hj ((hbas' j).mpr hb)
 have hz:Zr d fun q => zv m (f b) C q - zv m (f a) C q:=fun q _ => by
  show zz m (f b) (C q) - zz m (f a) (C q) = 0
  rw [← zz_eq okb,← zz_eq oka]
  have:ob n (C q) (bas m (f b)) = ob n (C q) (bas m (f a)):=sm_congr fun j hj => by rw [hsame j hj]
  rw [this]; grind
 obtain ⟨t,⟨u,hua,hub,hut⟩,htop⟩:=greatest (p:=fun j => ∃ i,a ≤ i∧i < b∧s i = j) (N:=n) (fun j ⟨i,h1,h2,h3⟩ => h3 ▸ (h.en i h1 h2).lt) (j:=s a) ⟨a,Nat.le_refl _,hab,rfl⟩
 have enu:=h.en u hua hub
 rw [hut] at enu
 have oku:=h.ok u hua (by omega)
 obtain ⟨v,hva,hvb,hvt⟩:∃ v,a ≤ v∧v < b∧(f v).B (r v) = t:=by
  refine Classical.byContradiction fun hn => enu.non ?_
  have hne:∀ i,a ≤ i→i < b→(f i).B (r i) ≠ t:=fun i h1 h2 h3 => hn ⟨i,h1,h2,h3⟩
  have h1:basic m (f (u + 1)) t:=by
   rw [h.nx u hua hub,basic_piv (h.lv u hua hub).lt]
   exact .inl hut.symm
  have h2:=h.stay_basic hne (i:=u + 1) (k:=b) (by omega) (by omega) (Nat.le_refl _) h1
  exact h.stay_basic hne (Nat.le_refl a) hua (by omega) ((hbas' t).mpr h2)
 have env:=h.en v hva hvb
 have lvv:=h.lv v hva hvb
 have okv:=h.ok v hva (by omega)
 have fick:∀ j,basic m (f v) j→¬basic m (f u) j→∃ i,a ≤ i∧i < b∧s i = j:=fun j hv hu => by
  refine Classical.byContradiction fun hn => ?_
  have hne:∀ i,a ≤ i→i < b→s i ≠ j:=fun i h1 h2 h3 => hn ⟨i,h1,h2,h3⟩
  have h1:=h.stay_non hne hua (by omega) (Nat.le_refl b) hu
  have h2:=h.stay_non hne (Nat.le_refl a) hva (by omega) fun hb => h1 ((hbas' j).mp hb)
  exact h2 hv
 have zero:∀ {i:Nat},i < m→¬basic m (f u) ((f v).B i)→(f v).b i = 0:=fun {i} hi hu => by
  rw [← bas_B okv hi,h.still hz hva (by omega),← h.still hz hua (by omega)]
  exact bas_non hu
 have hd1:=dir_sol okv env.lt env.non 1
 have hd0:=bas_sol okv
 have tou:∀ x,Sol m n (f v) x→Sol m n (f u) x:=fun x hx => by
  rcases Nat.le_total u v with huv | huv
  ·exact (sol_chain h hua huv (by omega) x).mp hx
  ·exact (sol_chain h hva huv (by omega) x).mpr hx
 have key:∀ q,gm m (f v) (C q) (s v) = sm (fun j => gm m (f u) (C q) j * dir m (f v) (s v) j) n:=fun q => by
  have lin:∀ T,ob n (gm m T (C q)) (fun j => bas m (f v) j + 1 * dir m (f v) (s v) j) = ob n (gm m T (C q)) (bas m (f v)) + ob n (gm m T (C q)) (dir m (f v) (s v)):=fun T => by
   unfold ob
   rw [← sm_add]
   exact sm_congr fun j _ => by grind
  have e1:=ob_eq (c:=C q) hd1
  have e2:=ob_eq (c:=C q) hd0
  have e3:=ob_eq (c:=C q) (tou _ hd1)
  have e4:=ob_eq (c:=C q) (tou _ hd0)
  rw [lin] at e1 e3
  have e5:ob n (gm m (f v) (C q)) (dir m (f v) (s v)) = gm m (f v) (C q) (s v):=by
   unfold ob
   rw [sm_single env.lt fun j hj hne => ?_,dir_s env.non,Rat.mul_one]
   by_cases hb:basic m (f v) j
   ·obtain ⟨i,hi,rfl⟩:=hb
    rw [gm_B okv _ hi,Rat.zero_mul]
   ·rw [dir_non hb hne,Rat.mul_zero]
  have e6:ob n (gm m (f u) (C q)) (dir m (f v) (s v)) = sm (fun j => gm m (f u) (C q) j * dir m (f v) (s v) j) n:=rfl
  rw [← e6,← e5]; grind
 have hpos:Lp d fun q => sm (fun j => gm m (f u) (C q) j * dir m (f v) (s v) j) n:=env.pos.congr fun q _ => key q
 obtain ⟨j,hj,hjp⟩:=lp_sum hpos
 have hnz:dir m (f v) (s v) j ≠ 0:=fun e => hjp.not_zr fun q _ => by show _ * _ = (0:Rat); rw [e,Rat.mul_zero]
 have hnb:¬basic m (f u) j:=by
  rintro ⟨i,hi,rfl⟩
  exact hjp.not_zr fun q _ => by show _ * _ = (0:Rat); rw [gm_B oku _ hi,Rat.zero_mul]
 by_cases hbv:basic m (f v) j
 ·obtain ⟨i,hi,rfl⟩:=hbv
  rw [dir_B okv env.non hi] at hjp hnz
  obtain ⟨w,hw1,hw2,hw3⟩:=fick _ ⟨i,hi,rfl⟩ hnb
  have hle:=htop _ ⟨w,hw1,hw2,hw3⟩
  by_cases het:(f v).B i = t
  ·-- t itself
   have hir:i = r v:=okv.inj hi lvv.lt (het.trans hvt.symm)
   subst hir
   have hp:=lvv.pos
   refine not_of_nn (w:=fun q => gm m (f u) (C q) ((f v).B (r v)) * -(f v).e (r v) (s v)) ?_ hjp
   rw [het] at *
   have:=Nn.smul (d:=d) (Rat.le_of_lt hp) (.inl enu.pos)
   exact this.imp (Lp.congr fun q _ => by unfold gv; grind) (Zr.congr fun q _ => by unfold gv; grind)
  ·have hlt:(f v).B i < t:=by omega
   have hfr:Fr ((f v).B i):=by have:=(h.en w hw1 hw2).fr; rwa [hw3] at this
   have hlow:=enu.low _ hlt hfr hnb
   have hp:0 < (f v).e i (s v):=by
    refine Classical.byContradiction fun hq => hlow ?_
    have hneg:0 < -(f v).e i (s v):=by grind
    have:=Lp.smul (d:=d) (Rat.inv_pos.mpr hneg) hjp
    exact this.congr fun q _ => by unfold gv; grind
   have b1:=zero hi hnb
   have b2:=zero lvv.lt (by rw [hvt]; exact enu.non)
   have:=lvv.tie i hi hp (by rw [b1,b2]; grind)
   rw [hvt] at this
   omega
 ·have hjs:j = s v:=Classical.byContradiction fun hne => hnz (dir_non hbv hne)
  subst hjs
  rw [dir_s env.non] at hjp
  have hle:=htop _ ⟨v,hva,hvb,rfl⟩
  have hne:s v ≠ t:=fun e => env.non (by rw [e,← hvt]; exact ⟨r v,lvv.lt,rfl⟩)
  exact enu.low _ (by omega) env.fr hnb (hjp.congr fun q _ => by unfold gv; grind)
end
end Go.Lp
namespace Go.Lp
def code (p:Nat→Bool):Nat→Nat
 | 0 => 0
 | n + 1 => code p n + (if p n then 2 ^ n else 0)
theorem code_lt (p:Nat→Bool):∀ n,code p n < 2 ^ n
 | 0 => by simp [code]
 | n + 1 => by
  have:=code_lt p n
  unfold code
  rw [Nat.pow_succ]
  split <;> omega
theorem code_inj {p q:Nat→Bool}:∀ {n:Nat},code p n = code q n→∀ j,j < n→p j = q j
 | 0,_,j,hj => by omega
 | n + 1,h,j,hj => by
  have h1:=code_lt p n
  have h2:=code_lt q n
  unfold code at h
  have h3:p n = q n:=by
   cases hp:p n <;> cases hq:q n
   ·rfl
   ·simp only [hp,hq,Bool.false_eq_true,if_false,if_true] at h; omega
   ·simp only [hp,hq,Bool.false_eq_true,if_false,if_true] at h; omega
   ·rfl
  have h4:code p n = code q n:=by rw [h3] at h; omega
  rcases Nat.lt_or_eq_of_le (Nat.le_of_lt_succ hj) with h5 | h5
  ·exact code_inj h4 j h5
  ·rw [h5]; exact h3
theorem pigeon:∀ (N:Nat) (g:Nat→Nat),(∀ i,i ≤ N→g i < N)→∃ i j,i < j∧j ≤ N∧g i = g j
 | 0,g,h => absurd (h 0 (Nat.le_refl _)) (by omega)
 | N + 1,g,h => by
  by_cases hc:∃ i,i ≤ N∧g i = g (N + 1)
  ·obtain ⟨i,hi,e⟩:=hc
   exact ⟨i,N + 1,by omega,Nat.le_refl _,e⟩
  ·have hl:=h (N + 1) (Nat.le_refl _)
   have hne:∀ i,i ≤ N→g i ≠ g (N + 1):=fun i hi e => hc ⟨i,hi,e⟩
   obtain ⟨i,j,hij,hj,e⟩:=pigeon N (fun i => if g i = N then g (N + 1) else g i) (fun i hi => by
    have h1:=h i (by omega)
    have h2:=hne i hi
    show (if g i = N then g (N + 1) else g i) < N
    split <;> omega)
   refine ⟨i,j,hij,by omega,?_⟩
   have h1:=hne i (by omega)
   have h2:=hne j hj
   have e':(if g i = N then g (N + 1) else g i) = (if g j = N then g (N + 1) else g j):=e
   split at e' <;> split at e' <;> omega
section
variable {m n d:Nat} {C:Nat→Nat→Rat} {Fr:Nat→Prop}
def NoCh (m n d:Nat) (C:Nat→Nat→Rat) (Fr:Nat→Prop):Nat→Tab→Prop
 | 0,_ => False
 | k + 1,T => ∀ T',Step m n d C Fr T T'→NoCh m n d C Fr k T'
theorem not_noCh:∀ {k:Nat} {T:Tab},¬NoCh m n d C Fr k T→∃ f:Nat→Tab,f 0 = T∧∀ i,i < k→Step m n d C Fr (f i) (f (i + 1))
 | 0,T,_ => ⟨fun _ => T,rfl,fun i h => by omega⟩
 | k + 1,T,h => by
  unfold NoCh at h
  obtain ⟨T',h1⟩:=Classical.not_forall.mp h
  obtain ⟨h2,h3⟩:=Classical.not_imp.mp h1
  obtain ⟨f,h4,h5⟩:=not_noCh h3
  refine ⟨fun i => if i = 0 then T else f (i - 1),rfl,fun i hi => ?_⟩
  cases i with
  | zero => simpa [h4] using h2
  | succ i => simpa using h5 i (by omega)
theorem bland {T:Tab} (h:Ok m n T):NoCh m n d C Fr (2 ^ n) T:=by
 refine Classical.byContradiction fun hn => ?_
 obtain ⟨f,h0,hs⟩:=not_noCh hn
 have hok:∀ i,i ≤ 2 ^ n→Ok m n (f i):=fun i => by
  induction i with
  | zero => intro _; rw [h0]; exact h
  | succ i ih => intro hi; exact (hs i (by omega)).ok (ih (by omega))
 have:∃ sr:Nat→Nat × Nat,∀ i,i < 2 ^ n→Enters m n d C Fr (f i) (sr i).1∧Leaves m (f i) (sr i).1 (sr i).2∧f (i + 1) = piv (f i) (sr i).2 (sr i).1:=by
  refine ⟨fun i => if hi:i < 2 ^ n then ⟨(hs i hi).choose,(hs i hi).choose_spec.choose⟩ else (0,0),fun i hi => ?_⟩
  simp only [dif_pos hi]
  exact (hs i hi).choose_spec.choose_spec
 obtain ⟨sr,hsr⟩:=this
 have dec:∀ i,∃ p:Nat→Bool,∀ j,p j = true ↔ basic m (f i) j:=fun i => by
  refine ⟨fun j => @decide (basic m (f i) j) (Classical.propDecidable _),fun j => ?_⟩
  simp
 obtain ⟨i,j,hij,hj,e⟩:=pigeon (2 ^ n) (fun i => code (dec i).choose n) (fun i _ => code_lt _ _)
 have hb:∀ k,k < n→(basic m (f i) k ↔ basic m (f j) k):=fun k hk => by
  rw [← (dec i).choose_spec k,← (dec j).choose_spec k,code_inj e k hk]
 exact no_cycle (m:=m) (n:=n) (d:=d) (C:=C) (Fr:=Fr) (f:=f) (s:=fun i => (sr i).1) (r:=fun i => (sr i).2) (a:=i) (b:=j)
  ⟨fun k _ h2 => hok k (by omega),fun k _ h2 => (hsr k (by omega)).1,fun k _ h2 => (hsr k (by omega)).2.1,fun k _ h2 => (hsr k (by omega)).2.2⟩ hij hb
def Feas (m n:Nat) (T:Tab) (x:Nat→Rat):Prop:=Sol m n T x∧∀ j,j < n→0 ≤ x j
theorem bas_feas {T:Tab} (h:Ok m n T):Feas m n T (bas m T):=⟨bas_sol h,fun j _ => bas_nonneg h j⟩
theorem optimal {T:Tab} (_h:Ok m n T) (hend:∀ j,j < n→Fr j→¬basic m T j→¬Lp d (gv m T C j)) {x:Nat→Rat} (hx:Feas m n T x) (hfr:∀ j,j < n→¬Fr j→¬basic m T j→x j = 0) :
  Nn d fun q => zz m T (C q) - ob n (C q) x:=by
 have h1:Nn d fun q => sm (fun j => -(gm m T (C q) j * x j)) n:=Nn.sum fun j hj => by
  by_cases hb:basic m T j
  ·obtain ⟨i,hi,rfl⟩:=hb
   exact .inr fun q _ => by show -(gm m T (C q) (T.B i) * x (T.B i)) = 0; rw [gm_B _h _ hi]; grind
  ·by_cases hf:Fr j
   ·have:=Nn.smul (d:=d) (hx.2 j hj) (nn_of_not (hend j hj hf hb))
    exact this.imp (Lp.congr fun q _ => by unfold gv; grind) (Zr.congr fun q _ => by unfold gv; grind)
   ·exact .inr fun q _ => by show -(gm m T (C q) j * x j) = 0; rw [hfr j hj hf hb]; grind
 refine h1.imp (Lp.congr fun q _ => ?_) (Zr.congr fun q _ => ?_)
 all_goals
  have e1:=ob_eq (c:=C q) hx.1
  have e2:=sm_mul (-1) (fun j => gm m T (C q) j * x j) n
  have e3:sm (fun j => -(gm m T (C q) j * x j)) n = sm (fun j => -1 * (gm m T (C q) j * x j)) n:=sm_congr fun j _ => by grind
  show sm (fun j => -(gm m T (C q) j * x j)) n = _
  rw [e3,e2,e1]
  unfold ob
  grind
theorem unbounded {T:Tab} (h:Ok m n T) {s:Nat} (hs:s < n) (hns:¬basic m T s) (hray:∀ i,i < m→T.e i s ≤ 0) (c:Nat→Rat) (a:Rat) (ha:0 ≤ a) :
  ∃ x,Feas m n T x∧ob n c x = zz m T c + a * gm m T c s:=by
 refine ⟨fun j => bas m T j + a * dir m T s j,⟨dir_sol h hs hns a,fun j hj => ?_⟩,?_⟩
 ·show 0 ≤ bas m T j + a * dir m T s j
  by_cases hb:basic m T j
  ·obtain ⟨i,hi,rfl⟩:=hb
   rw [dir_B h hns hi,bas_B h hi]
   have h1:=h.nb i hi
   have h2:=Rat.mul_nonneg ha (show 0 ≤ -T.e i s by have:=hray i hi; grind)
   grind
  ·by_cases e:j = s
   ·subst e; rw [dir_s hns,bas_non hb]; grind
   ·rw [dir_non hb e,bas_non hb]; grind
 ·rw [ob_eq (dir_sol h hs hns a)]
  congr 1
  unfold ob
  rw [sm_single hs fun j hj hne => ?_]
  ·show gm m T c s * (bas m T s + a * dir m T s s) = _
   rw [dir_s hns,bas_non hns]; grind
  ·by_cases hb:basic m T j
   ·obtain ⟨i,hi,rfl⟩:=hb
    rw [gm_B h _ hi,Rat.zero_mul]
   ·show gm m T c j * (bas m T j + a * dir m T s j) = 0
    rw [dir_non hb hne,bas_non hb]; grind
end
end Go.Lp
namespace Go.Lp
def sg (k:Nat):Rat:=if k % 2 = 0 then 1 else -1
theorem sg_succ (k:Nat):sg (k + 1) = -sg k:=by
 unfold sg
 by_cases h:k % 2 = 0
 ·rw [if_pos h,if_neg (by omega)]
 ·rw [if_neg h,if_pos (by omega)]; rfl
def rem (i:Nat) (V:Nat→Nat→Rat):Nat→Nat→Rat:=fun p => V (if p < i then p else p + 1)
def put (V:Nat→Nat→Rat) (p:Nat) (u:Nat→Rat):Nat→Nat→Rat:=fun q => if q = p then u else V q
def det:Nat→(Nat→Nat→Rat)→Rat
 | 0,_ => 1
 | m + 1,V => sm (fun i => sg (i + m) * V i m * det m (rem i V)) (m + 1)
theorem det_congr:∀ {m:Nat} {V W:Nat→Nat→Rat},(∀ i k,i < m→k < m→V i k = W i k)→det m V = det m W
 | 0,_,_,_ => rfl
 | m + 1,V,W,h => by
  unfold det
  refine sm_congr fun i hi => ?_
  rw [h i m hi (by omega),det_congr (m:=m) (V:=rem i V) (W:=rem i W) fun p k hp hk => ?_]
  unfold rem
  exact h _ k (by split <;> omega) (by omega)
theorem rem_put_same (V:Nat→Nat→Rat) (p:Nat) (u:Nat→Rat):rem p (put V p u) = rem p V:=by
 funext q
 unfold rem put
 rw [if_neg]
 split <;> omega
theorem rem_put_ne {V:Nat→Nat→Rat} {i p:Nat} (u:Nat→Rat) (h:i ≠ p):rem i (put V p u) = put (rem i V) (if p < i then p else p - 1) u:=by
 funext q
 unfold rem put
 by_cases e:(if q < i then q else q + 1) = p
 ·rw [if_pos e,if_pos]
  split at e <;> split <;> omega
 ·have e2:¬q = (if p < i then p else p - 1):=by split at e <;> split <;> omega
  rw [if_neg e,if_neg e2]
theorem det_lin:∀ {m:Nat} (V:Nat→Nat→Rat) {p:Nat} (_:p < m) (a b:Rat) (u w:Nat→Rat),det m (put V p fun k => a * u k + b * w k) = a * det m (put V p u) + b * det m (put V p w)
 | m + 1,V,p,hp,a,b,u,w => by
  unfold det
  rw [← sm_mul,← sm_mul,← sm_add]
  refine sm_congr fun i hi => ?_
  by_cases e:i = p
  ·subst e
   rw [rem_put_same,rem_put_same,rem_put_same]
   simp only [put,if_true]
   grind
  ·rw [rem_put_ne _ e,rem_put_ne _ e,rem_put_ne _ e,det_lin (m:=m) (rem i V) (by split <;> omega) a b u w]
   simp only [put,if_neg e]
   grind
theorem put_self (V:Nat→Nat→Rat) (p:Nat):put V p (V p) = V:=by
 funext q
 unfold put
 split
 ·rename_i h; rw [h]
 ·rfl
theorem put_comm (V:Nat→Nat→Rat) {p q:Nat} (h:p ≠ q) (u w:Nat→Rat):put (put V p u) q w = put (put V q w) p u:=by
 funext i
 unfold put
 by_cases e:i = q
 ·subst e; rw [if_pos rfl,if_neg (Ne.symm h),if_pos rfl]
 ·rw [if_neg e,if_neg e]
theorem det_add (m:Nat) (V:Nat→Nat→Rat) {p:Nat} (hp:p < m) (u w:Nat→Rat):det m (put V p fun k => u k + w k) = det m (put V p u) + det m (put V p w):=by
 have:=det_lin V hp 1 1 u w
 rw [Rat.one_mul,Rat.one_mul] at this
 rw [← this]
 congr 2
 funext k; grind
theorem det_adj:∀ {m:Nat} {V:Nat→Nat→Rat} {p:Nat},p + 1 < m→(∀ k,k < m→V p k = V (p + 1) k)→det m V = 0
 | m + 1,V,p,hp,h => by
  unfold det
  have other:∀ i,i < m + 1→i ≠ p→i ≠ p + 1→sg (i + m) * V i m * det m (rem i V) = 0:=fun i hi h1 h2 => by
   have:det m (rem i V) = 0:=by
    by_cases hlt:i < p
    ·refine det_adj (p:=p - 1) (by omega) fun k hk => ?_
     unfold rem
     rw [if_neg (by omega),if_neg (by omega)]
     have:=h k (by omega)
     rw [show p - 1 + 1 = p by omega]; exact this
    ·refine det_adj (p:=p) (by omega) fun k hk => ?_
     unfold rem
     rw [if_pos (by omega),if_pos (by omega)]
     exact h k (by omega)
   rw [this,Rat.mul_zero]
  have hsum:∀ (f:Nat→Rat) (n:Nat),p + 1 < n→(∀ i,i < n→i ≠ p→i ≠ p + 1→f i = 0)→sm f n = f p + f (p + 1):=by
   intro f n hn hz
   have e:sm f n = sm (fun i => if i = p then f i else 0) n + sm (fun i => if i = p + 1 then f i else 0) n:=by
    rw [← sm_add]
    refine sm_congr fun i hi => ?_
    by_cases e1:i = p
    ·rw [if_pos e1,if_neg (by omega)]; grind
    ·rw [if_neg e1]
     by_cases e2:i = p + 1
     ·rw [if_pos e2]; grind
     ·rw [if_neg e2,hz i hi e1 e2]; grind
   rw [e,sm_single (k:=p) (by omega) fun i _ hne => if_neg hne,sm_single (k:=p + 1) hn fun i _ hne => if_neg hne,if_pos rfl,if_pos rfl]
  rw [hsum _ _ hp other]
  have hm:det m (rem p V) = det m (rem (p + 1) V):=det_congr fun q k hq hk => by
   unfold rem
   by_cases h1:q < p
   ·rw [if_pos h1,if_pos (by omega)]
   ·rw [if_neg h1]
    by_cases h2:q = p
    ·subst h2; rw [if_pos (by omega)]; exact (h k (by omega)).symm
    ·rw [if_neg (by omega)]
  rw [hm,h m (by omega),show p + 1 + m = p + m + 1 by omega,sg_succ]
  grind
theorem det_swap {m:Nat} {V:Nat→Nat→Rat} {p:Nat} (hp:p + 1 < m) (u w:Nat→Rat):det m (put (put V p u) (p + 1) w) = -det m (put (put V p w) (p + 1) u):=by
 have hne:p ≠ p + 1:=by omega
 have z:∀ x:Nat→Rat,det m (put (put V p x) (p + 1) x) = 0:=fun x => det_adj hp fun k _ => by
  unfold put
  rw [if_neg hne,if_pos rfl,if_pos rfl]
 have h:=z fun k => u k + w k
 rw [det_add m _ hp,put_comm _ hne,det_add m _ (by omega),put_comm _ hne,det_add m _ (by omega),put_comm _ (Ne.symm hne),put_comm _ (Ne.symm hne),put_comm _ (Ne.symm hne) ,put_comm _ (Ne.symm hne)] at h
 have:=z u
 have:=z w
 grind
theorem put_eq (V:Nat→Nat→Rat) (p q:Nat):put (put V p (V p)) q (V q) = V:=by rw [put_self,put_self]
theorem det_alt {m:Nat}:∀ (g:Nat) {V:Nat→Nat→Rat} {p:Nat},p + 1 + g < m→(∀ k,k < m→V p k = V (p + 1 + g) k)→det m V = 0
 | 0,V,p,hp,h => det_adj hp h
 | g + 1,V,p,hp,h => by
  have e:=det_swap (m:=m) (V:=V) (p:=p + 1 + g) (by omega) (V (p + 1 + g)) (V (p + 1 + g + 1))
  rw [put_eq] at e
  rw [e,det_alt g (p:=p) (by omega) fun k hk => ?_]
  ·rfl
  ·have h1:p ≠ p + 1 + g + 1:=by omega
   have h2:p ≠ p + 1 + g:=by omega
   have h3:p + 1 + g ≠ p + 1 + g + 1:=by omega
   unfold put
   rw [if_neg h1,if_neg h2,if_neg h3,if_pos rfl]
   exact h k hk
theorem det_eq {m:Nat} {V:Nat→Nat→Rat} {p q:Nat} (hp:p < m) (hq:q < m) (hne:p ≠ q) (h:∀ k,k < m→V p k = V q k):det m V = 0:=by
 rcases Nat.lt_or_gt_of_ne hne with hlt | hlt
 ·exact det_alt (q - p - 1) (p:=p) (by omega) fun k hk => by rw [show p + 1 + (q - p - 1) = q by omega]; exact h k hk
 ·exact det_alt (p - q - 1) (p:=q) (by omega) fun k hk => by rw [show q + 1 + (p - q - 1) = p by omega]; exact (h k hk).symm
theorem det_sum {m:Nat} (V:Nat→Nat→Rat) {p:Nat} (hp:p < m) (c:Nat→Rat) (W:Nat→Nat→Rat):∀ n,det m (put V p fun k => sm (fun j => c j * W j k) n) = sm (fun j => c j * det m (put V p (W j))) n
 | 0 => by
  have h:=det_lin V hp 0 0 (fun _ => 0) (fun _ => 0)
  have e:(fun k:Nat => (0:Rat) * (fun _:Nat => (0:Rat)) k + 0 * (fun _:Nat => (0:Rat)) k) = fun k => sm (fun j => c j * W j k) 0:=by funext k; unfold sm; grind
  rw [e] at h
  rw [h]; unfold sm; grind
 | n + 1 => by
  have h:=det_lin V hp 1 (c n) (fun k => sm (fun j => c j * W j k) n) (W n)
  have e:(fun k:Nat => (1:Rat) * (fun k => sm (fun j => c j * W j k) n) k + c n * W n k) = fun k => sm (fun j => c j * W j k) (n + 1):=by funext k; show 1 * sm _ n + _ = sm _ n + _; grind
  rw [e,det_sum V hp c W n] at h
  rw [h]; show _ = sm _ n + _; grind
theorem cramer {m:Nat} (V:Nat→Nat→Rat) {i:Nat} (hi:i < m) (c:Nat→Rat) (w:Nat→Rat) (hw:∀ k,k < m→w k = sm (fun p => c p * V p k) m):det m (put V i w) = c i * det m V:=by
 have e:det m (put V i w) = det m (put V i fun k => sm (fun p => c p * V p k) m):=det_congr fun q k _ hk => by
  unfold put
  split
  ·exact hw k hk
  ·rfl
 rw [e,det_sum V hi c V,sm_single hi fun p hp hne => ?_,put_self]
 rw [det_eq (p:=i) (q:=p) hi hp (Ne.symm hne) fun k _ => ?_,Rat.mul_zero]
 unfold put
 rw [if_pos rfl,if_neg hne]
def IsZ (q:Rat):Prop:=∃ z:Int,q = z
theorem IsZ.add {a b:Rat} (h:IsZ a) (h':IsZ b):IsZ (a + b):=by
 obtain ⟨x,rfl⟩:=h; obtain ⟨y,rfl⟩:=h'; exact ⟨x + y,by simp⟩
theorem IsZ.mul {a b:Rat} (h:IsZ a) (h':IsZ b):IsZ (a * b):=by
 obtain ⟨x,rfl⟩:=h; obtain ⟨y,rfl⟩:=h'; exact ⟨x * y,by simp⟩
theorem IsZ.neg {a:Rat} (h:IsZ a):IsZ (-a):=by
 obtain ⟨x,rfl⟩:=h; exact ⟨-x,by simp⟩
theorem IsZ.sum {f:Nat→Rat}:∀ {n:Nat},(∀ j,j < n→IsZ (f j))→IsZ (sm f n)
 | 0,_ => ⟨0,rfl⟩
 | n + 1,h => (IsZ.sum fun j hj => h j (by omega)).add (h n (by omega))
theorem isZ_sg (k:Nat):IsZ (sg k):=by
 unfold sg
 split
 ·exact ⟨1,rfl⟩
 ·exact ⟨-1,rfl⟩
theorem det_Z:∀ {m:Nat} {V:Nat→Nat→Rat},(∀ i k,i < m→k < m→IsZ (V i k))→IsZ (det m V)
 | 0,_,_ => ⟨1,rfl⟩
 | m + 1,V,h => IsZ.sum fun i hi => ((isZ_sg _).mul (h i m hi (by omega))).mul (det_Z fun p k hp hk => h _ k (by split <;> omega) (by omega))
def Bd (M a:Rat):Prop:=-M ≤ a∧a ≤ M
theorem Bd.mul {M N a b:Rat} (h:Bd M a) (h':Bd N b):Bd (M * N) (a * b):=by
 obtain ⟨h1,h2⟩:=h
 obtain ⟨h3,h4⟩:=h'
 have hM:0 ≤ M:=by grind
 have e1:=Rat.mul_nonneg (show 0 ≤ M - a by grind) (show 0 ≤ N - b by grind)
 have e2:=Rat.mul_nonneg (show 0 ≤ M + a by grind) (show 0 ≤ N + b by grind)
 have e3:=Rat.mul_nonneg (show 0 ≤ M - a by grind) (show 0 ≤ N + b by grind)
 have e4:=Rat.mul_nonneg (show 0 ≤ M + a by grind) (show 0 ≤ N - b by grind)
 constructor <;> grind
theorem Bd.sum {f:Nat→Rat} {M:Rat}:∀ {n:Nat},(∀ j,j < n→Bd M (f j))→Bd (n * M) (sm f n)
 | 0,_ => by
  have e:((0:Nat):Rat) * M = 0:=by simp
  unfold Bd sm; rw [e]; constructor <;> decide
 | n + 1,h => by
  have h1:=Bd.sum (n:=n) fun j hj => h j (by omega)
  have h2:=h n (by omega)
  unfold Bd at *
  have e:((n + 1:Nat):Rat) * M = n * M + M:=by simp; grind
  rw [e]
  unfold sm
  constructor <;> grind
theorem bd_sg (k:Nat):Bd 1 (sg k):=by
 unfold sg Bd
 split <;> constructor <;> decide
def fact (M:Nat):Nat→Nat
 | 0 => 1
 | m + 1 => (m + 1) * (M * fact M m)
theorem det_bd:∀ {m:Nat} {V:Nat→Nat→Rat} {M:Nat},(∀ i k,i < m→k < m→Bd M (V i k))→Bd (fact M m) (det m V)
 | 0,_,_,_ => by unfold Bd fact det; constructor <;> decide
 | m + 1,V,M,h => by
  have h1:=Bd.sum (n:=m + 1) (f:=fun i => sg (i + m) * V i m * det m (rem i V)) (M:=1 * M * fact M m) fun i hi => ((bd_sg _).mul (h i m hi (by omega))).mul (det_bd fun p k hp hk => h _ k (by split <;> omega) (by omega))
  have e:((m + 1:Nat):Rat) * (1 * M * fact M m) = (fact M (m + 1):Nat):=by
   show _ = (((m + 1) * (M * fact M m):Nat):Rat)
   rw [Rat.natCast_mul,Rat.natCast_mul]; grind
  rw [e] at h1
  exact h1
theorem det_one:∀ m,det m (fun i k => if i = k then 1 else 0) = 1
 | 0 => rfl
 | m + 1 => by
  unfold det
  rw [sm_single (k:=m) (by omega) fun i hi hne => by show sg (i + m) * (if i = m then 1 else 0) * _ = 0; rw [if_neg hne]; grind]
  show sg (m + m) * (if m = m then 1 else 0) * _ = 1
  rw [if_pos rfl]
  have e:det m (rem m fun i k => if i = k then (1:Rat) else 0) = det m (fun i k => if i = k then 1 else 0):=det_congr fun i k hi hk => by
   unfold rem
   rw [if_pos hi]
  rw [e,det_one m]
  unfold sg
  rw [if_pos (by omega)]; grind
end Go.Lp
namespace Go.Lp
structure Edm (m n:Nat) (A:Nat→Nat→Rat) (w:Nat→Rat) (T:Tab):Prop where
 col:∀ j k,j < n→k < m→A j k = sm (fun p => T.e p j * A (T.B p) k) m
 rhs:∀ k,k < m→w k = sm (fun p => T.b p * A (T.B p) k) m
 ind:det m (fun p => A (T.B p)) ≠ 0
section
variable {m n:Nat} {A:Nat→Nat→Rat} {w:Nat→Rat} {T:Tab}
theorem swap_sum {m r:Nat} (hr:r < m) (f g u:Nat→Rat) (t v:Rat) (h0:f r = g r * t) (h1:sm (fun p => g p * u p) m = v) :
  sm (fun p => (if p = r then t else f p - g p * t) * (if p = r then v else u p)) m = sm (fun p => f p * u p) m:=by
 have e:sm (fun p => (if p = r then t else f p - g p * t) * (if p = r then v else u p)) m = sm (fun p => f p * u p) m - t * sm (fun p => g p * u p) m + sm (fun p => if p = r then t * v else 0) m:=by
  rw [← sm_mul,← sm_sub,← sm_add]
  refine sm_congr fun p _ => ?_
  by_cases h:p = r
  ·subst h; simp only [if_true,h0]; grind
  ·simp only [if_neg h]; grind
 rw [e,h1,sm_single hr fun p _ hne => if_neg hne,if_pos rfl]; grind
theorem Edm.piv (h:Edm m n A w T) {r s:Nat} (hr:r < m) (hs:s < n) (hp:T.e r s ≠ 0):Edm m n A w (piv T r s):=by
 have key:∀ (f:Nat→Rat) (k:Nat),k < m→sm (fun p => (if p = r then f r / T.e r s else f p - T.e p s * (f r / T.e r s)) * A (if p = r then s else T.B p) k) m = sm (fun p => f p * A (T.B p) k) m:=fun f k hk => by
  rw [← swap_sum hr f (fun p => T.e p s) (fun p => A (T.B p) k) (f r / T.e r s) (A s k) (by grind) (h.col s k hs hk).symm]
  refine sm_congr fun p _ => ?_
  by_cases e:p = r
  ·subst e; simp only [if_true]
  ·simp only [if_neg e]
 refine ⟨fun j k hj hk => ?_,fun k hk => ?_,?_⟩
 ·rw [h.col j k hj hk,← key (fun p => T.e p j) k hk]
  rfl
 ·rw [h.rhs k hk,← key T.b k hk]
  rfl
 ·have e:(fun p => A ((Lp.piv T r s).B p)) = put (fun p => A (T.B p)) r (A s):=by
   funext p k
   unfold put Lp.piv
   simp only
   by_cases e:p = r
   ·rw [if_pos e,if_pos e]
   ·rw [if_neg e,if_neg e]
  rw [e,cramer (fun p => A (T.B p)) hr (fun p => T.e p s) (A s) fun k hk => h.col s k hs hk]
  intro h0
  rcases Rat.mul_eq_zero.mp h0 with h1 | h1
  ·exact hp h1
  ·exact h.ind h1
theorem Edm.ent (h:Edm m n A w T) {i j:Nat} (hi:i < m) (hj:j < n):T.e i j * det m (fun p => A (T.B p)) = det m (put (fun p => A (T.B p)) i (A j)) :=
 (cramer (fun p => A (T.B p)) hi (fun p => T.e p j) (A j) fun k hk => h.col j k hj hk).symm
theorem Edm.right (h:Edm m n A w T) {i:Nat} (hi:i < m):T.b i * det m (fun p => A (T.B p)) = det m (put (fun p => A (T.B p)) i w) :=
 (cramer (fun p => A (T.B p)) hi T.b w fun k hk => h.rhs k hk).symm
theorem Edm.det_piv (h:Edm m n A w T) {r s:Nat} (hr:r < m) (hs:s < n):det m (fun p => A ((Lp.piv T r s).B p)) = T.e r s * det m (fun p => A (T.B p)):=by
 have e:(fun p => A ((Lp.piv T r s).B p)) = put (fun p => A (T.B p)) r (A s):=by
  funext p k
  unfold put Lp.piv
  simp only
  by_cases e:p = r
  ·rw [if_pos e,if_pos e]
  ·rw [if_neg e,if_neg e]
 rw [e,cramer (fun p => A (T.B p)) hr (fun p => T.e p s) (A s) fun k hk => h.col s k hs hk]
end
def ZB (M:Nat) (q:Rat):Prop:=∃ z:Int,q = z∧z.natAbs ≤ M
theorem ZB.of {M:Nat} {q:Rat} (h:IsZ q) (h':Bd M q):ZB M q:=by
 obtain ⟨z,rfl⟩:=h
 refine ⟨z,rfl,?_⟩
 obtain ⟨h1,h2⟩:=h'
 have e2:z ≤ (M:Int):=by exact_mod_cast h2
 have e1:-(M:Int) ≤ z:=by
  have:((-(M:Int):Int):Rat) ≤ z:=by rw [Rat.intCast_neg]; exact h1
  exact_mod_cast this
 omega
theorem ZB.isZ {M:Nat} {q:Rat} (h:ZB M q):IsZ q:=let ⟨z,e,_⟩:=h; ⟨z,e⟩
theorem ZB.bd {M:Nat} {q:Rat} (h:ZB M q):Bd M q:=by
 obtain ⟨z,rfl,h⟩:=h
 have e1:-(M:Int) ≤ z:=by omega
 have e2:z ≤ (M:Int):=by omega
 constructor
 ·have:((-(M:Int):Int):Rat) ≤ z:=by exact_mod_cast e1
  rw [Rat.intCast_neg] at this; exact this
 ·exact_mod_cast e2
theorem det_ZB {m M:Nat} {V:Nat→Nat→Rat} (h:∀ i k,i < m→k < m→ZB M (V i k)):ZB (fact M m) (det m V) :=
 .of (det_Z fun i k hi hk => (h i k hi hk).isZ) (det_bd fun i k hi hk => (h i k hi hk).bd)
section
variable {m n M:Nat} {A:Nat→Nat→Rat} {w:Nat→Rat} {T:Tab}
theorem Edm.det_ZB (_h:Edm m n A w T) (hB:∀ i,i < m→T.B i < n) (hA:∀ j k,j < n→k < m→ZB M (A j k)):ZB (fact M m) (det m fun p => A (T.B p)) :=
 Lp.det_ZB fun i k hi hk => hA _ k (hB i hi) hk
theorem Edm.ent_ZB (h:Edm m n A w T) (hB:∀ i,i < m→T.B i < n) (hA:∀ j k,j < n→k < m→ZB M (A j k)) {i j:Nat} (hi:i < m) (hj:j < n):ZB (fact M m) (T.e i j * det m fun p => A (T.B p)):=by
 rw [h.ent hi hj]
 refine Lp.det_ZB fun p k hp hk => ?_
 unfold put
 split
 ·exact hA j k hj hk
 ·exact hA _ k (hB p hp) hk
theorem Edm.right_ZB (h:Edm m n A w T) (hB:∀ i,i < m→T.B i < n) (hA:∀ j k,j < n→k < m→ZB M (A j k)) (hw:∀ k,k < m→ZB M (w k)) {i:Nat} (hi:i < m):ZB (fact M m) (T.b i * det m fun p => A (T.B p)):=by
 rw [h.right hi]
 refine Lp.det_ZB fun p k hp hk => ?_
 unfold put
 split
 ·exact hw k hk
 ·exact hA _ k (hB p hp) hk
end
end Go.Lp
namespace Go.Lp
theorem ok_piv0 {m n:Nat} {T:Tab} (h:Ok m n T) {r s:Nat} (hr:r < m) (hs:s < n) (hne:T.e r s ≠ 0) (h0:T.b r = 0):Ok m n (piv T r s):=by
 refine ⟨fun i hi => ?_,fun i k hi hk => ?_,fun i hi => ?_⟩
 ·simp only [piv]
  split
  ·exact hs
  ·exact h.bn i hi
 ·have u1:=h.un i k hi hk
  have u2:=h.un r k hr hk
  simp only [piv]
  by_cases ek:k = r
  ·subst ek
   rw [if_pos rfl]
   by_cases ei:i = k
   ·rw [if_pos ei,if_pos ei]; grind
   ·rw [if_neg ei,if_neg ei]; grind
  ·rw [if_neg ek]
   rw [if_neg (Ne.symm ek)] at u2
   by_cases ei:i = r
   ·subst ei
    rw [if_pos rfl,if_neg (Ne.symm ek),u2]; grind
   ·rw [if_neg ei,u1,u2]; grind
 ·simp only [piv,h0]
  have e:(0:Rat) / T.e r s = 0:=by rw [Rat.div_def]; grind
  rw [e]
  have:=h.nb i hi
  split
  ·exact Rat.le_refl
  ·grind
structure Prog where
 m:Nat
 n:Nat
 a:Nat→Nat→Rat
 w:Nat→Rat
 c:Nat→Rat
namespace Prog
variable (p:Prog)
def N:Nat:=p.n + p.m
def A (j k:Nat):Rat:=if j < p.n then p.a j k else if k + p.n = j then 1 else 0
def T0:Tab:=⟨fun i j => p.A j i,p.w,fun i => i + p.n⟩
def F (x:Nat→Rat):Prop:=(∀ k,k < p.m→sm (fun j => p.a j k * x j) p.n = p.w k)∧∀ j,j < p.n→0 ≤ x j
def C (q:Nat) (j:Nat):Rat:=if q = 0 then (if j < p.n then p.c j else 0) else if j + 1 = q∧j < p.n then -1 else 0
def c1 (j:Nat):Rat:=if j < p.n then 0 else -1
def None:Prop:=∀ x,¬p.F x
def Open:Prop:=∀ a:Rat,∃ x,p.F x∧a ≤ ob p.n p.c x
def Best (x:Nat→Rat):Prop:=p.F x∧∀ y,p.F y→Nn (p.n + 1) fun q => ob p.n (p.C q) x - ob p.n (p.C q) y
structure Good (T:Tab):Prop where
 ok:Ok p.m p.N T
 ed:Edm p.m p.N p.A p.w T
 sol:∀ x,Sol p.m p.N T x ↔ Sol p.m p.N p.T0 x
structure Out (T:Tab):Prop where
 z:∀ i,i < p.m→p.n ≤ T.B i→T.b i = 0∧∀ j,j < p.n→T.e i j = 0
variable {p:Prog}
theorem A_unit {i k:Nat}:p.A (i + p.n) k = if k = i then 1 else 0:=by
 unfold A
 rw [if_neg (by omega)]
 by_cases h:k = i
 ·rw [if_pos h,if_pos (by omega)]
 ·rw [if_neg h,if_neg (by omega)]
theorem good0 (hw:∀ k,k < p.m→0 ≤ p.w k):p.Good p.T0:=by
 refine ⟨⟨fun i hi => ?_,fun i k hi hk => ?_,fun i hi => hw i hi⟩,⟨fun j k hj hk => ?_,fun k hk => ?_,?_⟩,fun x => Iff.rfl⟩
 ·show i + p.n < p.n + p.m; omega
 ·exact A_unit
 ·show p.A j k = sm (fun q => p.A j q * p.A (q + p.n) k) p.m
  rw [sm_single (k:=k) hk fun q _ hne => by rw [A_unit,if_neg (Ne.symm hne)]; grind]
  rw [A_unit,if_pos rfl]; grind
 ·show p.w k = sm (fun q => p.w q * p.A (q + p.n) k) p.m
  rw [sm_single (k:=k) hk fun q _ hne => by rw [A_unit,if_neg (Ne.symm hne)]; grind]
  rw [A_unit,if_pos rfl]; grind
 ·have e:det p.m (fun q => p.A (q + p.n)) = det p.m fun i k => if i = k then 1 else 0:=det_congr fun i k _ _ => by
   rw [A_unit]
   by_cases h:i = k
   ·rw [if_pos h,if_pos h.symm]
   ·rw [if_neg h,if_neg (Ne.symm h)]
  show det p.m (fun q => p.A (q + p.n)) ≠ 0
  rw [e,det_one]; decide
theorem Good.piv {T:Tab} (h:p.Good T) {r s:Nat} (hr:r < p.m) (hs:s < p.N) (hne:T.e r s ≠ 0) (hok:Ok p.m p.N (Lp.piv T r s)):p.Good (Lp.piv T r s) :=
 ⟨hok,h.ed.piv hr hs hne,fun x => (sol_piv hr hne x).trans (h.sol x)⟩
theorem Good.step {d:Nat} {C:Nat→Nat→Rat} {Fr:Nat→Prop} {T T':Tab} (h:p.Good T) (hs:Step p.m p.N d C Fr T T'):p.Good T':=by
 have hok:=hs.ok h.ok
 obtain ⟨s,r,h1,h2,rfl⟩:=hs
 exact h.piv h2.lt h1.lt (by have:=h2.pos; grind) hok
theorem Good.piv0 {T:Tab} (h:p.Good T) {r s:Nat} (hr:r < p.m) (hs:s < p.N) (hne:T.e r s ≠ 0) (h0:T.b r = 0):p.Good (Lp.piv T r s) :=
 h.piv hr hs hne (ok_piv0 h.ok hr hs hne h0)
def ext (p:Prog) (x:Nat→Rat) (j:Nat):Rat:=if j < p.n then x j else 0
theorem sm_split (f:Nat→Rat) (n:Nat):∀ m,sm f (n + m) = sm f n + sm (fun i => f (n + i)) m
 | 0 => by show sm f n = sm f n + 0; grind
 | m + 1 => by
  show sm f (n + m) + f (n + m) = sm f n + (sm _ m + f (n + m))
  rw [sm_split f n m]; grind
theorem sol0 (x:Nat→Rat):Sol p.m p.N p.T0 x ↔ ∀ k,k < p.m→sm (fun j => p.a j k * x j) p.n + x (p.n + k) = p.w k:=by
 refine forall_congr' fun k => ?_
 have hk:k < p.m→sm (fun j => p.T0.e k j * x j) p.N = sm (fun j => p.a j k * x j) p.n + x (p.n + k):=fun hk => by
  unfold N
  rw [sm_split]
  congr 1
  ·exact sm_congr fun j hj => by show p.A j k * x j = _; unfold A; rw [if_pos hj]
  ·rw [sm_single (k:=k) hk fun i _ hne => by
    show p.A (p.n + i) k * _ = 0
    rw [Nat.add_comm,A_unit,if_neg (Ne.symm hne)]; grind]
   show p.A (p.n + k) k * _ = _
   rw [Nat.add_comm,A_unit,if_pos rfl]; grind
 constructor
 ·intro h hk'
  rw [← hk hk']; exact h hk'
 ·intro h hk'
  rw [hk hk']; exact h hk'
theorem feas_ext {T:Tab} (h:p.Good T) {x:Nat→Rat} (hx:p.F x):Feas p.m p.N T (p.ext x):=by
 refine ⟨(h.sol _).mpr ((sol0 _).mpr fun k hk => ?_),fun j _ => ?_⟩
 ·rw [← hx.1 k hk]
  have e:p.ext x (p.n + k) = 0:=by unfold ext; rw [if_neg (by omega)]
  rw [e,sm_congr (g:=fun j => p.a j k * x j) fun j hj => by unfold ext; rw [if_pos hj]]
  grind
 ·unfold ext
  split
  ·rename_i hj; exact hx.2 j hj
  ·exact Rat.le_refl
theorem feas_back {T:Tab} (h:p.Good T) {x:Nat→Rat} (hx:Feas p.m p.N T x) (hz:∀ k,k < p.m→x (p.n + k) = 0):p.F x:=by
 refine ⟨fun k hk => ?_,fun j hj => hx.2 j (by unfold N; omega)⟩
 have:=(sol0 x).mp ((h.sol x).mp hx.1) k hk
 rw [hz k hk] at this
 grind
theorem Out.bas {T:Tab} (h:p.Good T) (ho:p.Out T) {k:Nat} (_hk:k < p.m):bas p.m T (p.n + k) = 0:=by
 by_cases hb:basic p.m T (p.n + k)
 ·obtain ⟨i,hi,e⟩:=hb
  rw [← e,bas_B h.ok hi]
  exact (ho.z i hi (by omega)).1
 ·exact bas_non hb
theorem Out.F {T:Tab} (h:p.Good T) (ho:p.Out T):p.F (Lp.bas p.m T):=feas_back h (bas_feas h.ok) fun _ hk => ho.bas h hk
theorem Out.piv {T:Tab} (ho:p.Out T) {r s:Nat} (_hr:T.B r < p.n) (hs:s < p.n):p.Out (Lp.piv T r s):=by
 refine ⟨fun i hi hB => ?_⟩
 simp only [Lp.piv] at hB ⊢
 by_cases e:i = r
 ·rw [if_pos e] at hB; omega
 ·rw [if_neg e] at hB
  obtain ⟨h1,h2⟩:=ho.z i hi hB
  rw [if_neg e,h1,h2 s hs]
  refine ⟨by grind,fun j hj => ?_⟩
  rw [if_neg e,h2 j hj]; grind
theorem ob_ext {c:Nat→Rat} (hc:∀ j,p.n ≤ j→c j = 0) (x:Nat→Rat):ob p.N c x = ob p.n c x:=by
 unfold ob N
 rw [sm_split,sm_zero (f:=fun i => c (p.n + i) * x (p.n + i)) fun i _ => by rw [hc _ (by omega)]; grind]
 grind
theorem C_out (q:Nat) {j:Nat} (hj:p.n ≤ j):p.C q j = 0:=by
 unfold C
 split
 ·rw [if_neg (by omega)]
 ·rw [if_neg (by omega)]
theorem ob_extx (c x:Nat→Rat):ob p.n c (p.ext x) = ob p.n c x:=sm_congr fun j hj => by unfold ext; rw [if_pos hj]
theorem ob_C0 (x:Nat→Rat):ob p.n (p.C 0) x = ob p.n p.c x:=sm_congr fun j hj => by unfold C; rw [if_pos rfl,if_pos hj]
theorem ob_Cs {q:Nat} (hq:q < p.n) (x:Nat→Rat):ob p.n (p.C (q + 1)) x = -x q:=by
 unfold ob
 rw [sm_single hq fun j _ hne => by unfold C; rw [if_neg (by omega),if_neg (by omega)]; grind]
 unfold C
 rw [if_neg (by omega),if_pos (by omega)]; grind
theorem Best.eq {x y:Nat→Rat} (hx:p.Best x) (hy:p.Best y):∀ j,j < p.n→x j = y j:=by
 have h1:=hx.2 y hy.1
 have h2:=hy.2 x hx.1
 have hz:Zr (p.n + 1) fun q => ob p.n (p.C q) x - ob p.n (p.C q) y:=by
  rcases h1 with h1 | h1
  ·refine absurd h1 (not_of_nn ?_)
   exact h2.imp (Lp.congr fun q _ => by grind) (Zr.congr fun q _ => by grind)
  ·exact h1
 intro j hj
 have:=hz (j + 1) (by omega)
 simp only [ob_Cs hj] at this
 grind
theorem Nn.first {d:Nat} {v:Nat→Rat} (h:Nn (d + 1) v):0 ≤ v 0:=by
 have key:∀ d,Lp (d + 1) v→0 ≤ v 0:=by
  intro d
  induction d with
  | zero =>
   rintro (h | ⟨_,h⟩)
   ·exact h.elim
   ·exact Rat.le_of_lt h
  | succ d ih =>
   rintro (h | ⟨h,_⟩)
   ·exact ih h
   ·rw [h 0 (by omega)]; exact Rat.le_refl
 rcases h with h | h
 ·exact key d h
 ·rw [h 0 (by omega)]; exact Rat.le_refl
theorem phase1 {T:Tab} (h:p.Good T) {Fr:Nat→Prop} (hfr:∀ j,j < p.n→Fr j) (hend:∀ j,j < p.N→Fr j→¬basic p.m T j→¬Lp 1 (gv p.m T (fun _ => p.c1) j)) :
  (∀ i,i < p.m→p.n ≤ T.B i→T.b i = 0)∨p.None:=by
 by_cases hz:∀ i,i < p.m→p.n ≤ T.B i→T.b i = 0
 ·exact .inl hz
 ·refine .inr fun x hx => hz fun i hi hB => ?_
  have h1:=optimal h.ok hend (feas_ext h hx) (fun j _ hn _ => by unfold ext; rw [if_neg fun hj => hn (hfr j hj)])
  have h2:=Nn.first h1
  have e:ob p.N p.c1 (p.ext x) = 0:=sm_zero fun j _ => by
   unfold c1 ext
   split <;> grind
  simp only [e] at h2
  have h3:zz p.m T p.c1 = -sm (fun i => if p.n ≤ T.B i then T.b i else 0) p.m:=by
   unfold zz
   have:=sm_mul (-1) (fun i => if p.n ≤ T.B i then T.b i else 0) p.m
   have e2:-sm (fun i => if p.n ≤ T.B i then T.b i else 0) p.m = -1 * sm (fun i => if p.n ≤ T.B i then T.b i else 0) p.m:=by grind
   rw [e2,← this]
   refine sm_congr fun i _ => ?_
   unfold c1
   by_cases hq:T.B i < p.n
   ·rw [if_pos hq,if_neg (by omega)]; grind
   ·rw [if_neg hq,if_pos (by omega)]; grind
  have h4:∀ m' i,i < m'→m' ≤ p.m→(if p.n ≤ T.B i then T.b i else 0) ≤ sm (fun i => if p.n ≤ T.B i then T.b i else 0) m':=by
   intro m'
   induction m' with
   | zero => intro i hi; omega
   | succ m' ih =>
    intro i hi hm
    have hnn:∀ q,q < p.m→0 ≤ (if p.n ≤ T.B q then T.b q else 0):=fun q hq => by
     split
     ·exact h.ok.nb q hq
     ·exact Rat.le_refl
    show _ ≤ sm _ m' + _
    by_cases e:i = m'
    ·subst e
     have:=sm_nonneg (f:=fun i => if p.n ≤ T.B i then T.b i else 0) (n:=i) fun q hq => hnn q (by omega)
     grind
    ·have h5:=ih i (by omega) (by omega)
     have h6:=hnn m' (by omega)
     grind
  have h5:=h4 p.m i hi (Nat.le_refl _)
  rw [if_pos hB] at h5
  have h6:=h.ok.nb i hi
  grind
theorem none_of {T:Tab} (h:p.Good T) {Fr:Nat→Prop} (hfr:∀ j,j < p.n→Fr j) (hend:∀ j,j < p.N→Fr j→¬basic p.m T j→¬Lp 1 (gv p.m T (fun _ => p.c1) j)) {i:Nat} (hi:i < p.m) (hB:p.n ≤ T.B i) (hb:T.b i ≠ 0):p.None:=by
 rcases phase1 h hfr hend with h1 | h1
 ·exact absurd (h1 i hi hB) hb
 ·exact h1
theorem no_ray1 {T:Tab} (h:p.Good T) {s:Nat} (hs:s < p.N) (hns:¬basic p.m T s) (hp:Lp 1 (gv p.m T (fun _ => p.c1) s)):¬∀ i,i < p.m→T.e i s ≤ 0:=fun hray => by
 have hg:0 < gm p.m T p.c1 s:=by
  rcases hp with hp | ⟨_,hp⟩
  ·exact hp.elim
  ·exact hp
 have hle:∀ x,(∀ j,j < p.N→0 ≤ x j)→ob p.N p.c1 x ≤ 0:=fun x hx => by
  have:=sm_nonneg (f:=fun j => -(p.c1 j * x j)) (n:=p.N) fun j hj => by
   have:=hx j hj
   unfold c1
   split <;> grind
  have e:=sm_mul (-1) (fun j => p.c1 j * x j) p.N
  have e2:sm (fun j => -(p.c1 j * x j)) p.N = sm (fun j => -1 * (p.c1 j * x j)) p.N:=sm_congr fun j _ => by grind
  unfold ob
  rw [e2,e] at this
  grind
 have ha:0 ≤ (1 - zz p.m T p.c1) / gm p.m T p.c1 s∨True:=.inr trivial
 obtain ⟨x,hx,e⟩:=unbounded h.ok hs hns hray p.c1 ((1 - zz p.m T p.c1) / gm p.m T p.c1 s) (by
  have h0:=hle _ (fun j _ => bas_nonneg h.ok j)
  rw [zz_eq h.ok] at h0
  rw [Rat.div_def]
  exact Rat.mul_nonneg (by grind) (Rat.le_of_lt (Rat.inv_pos.mpr hg)))
 have h1:=hle x hx.2
 rw [e] at h1
 have e2:(1 - zz p.m T p.c1) / gm p.m T p.c1 s * gm p.m T p.c1 s = 1 - zz p.m T p.c1:=by grind
 rw [e2] at h1
 grind
theorem ob_bas {T:Tab} (h:p.Good T) (q:Nat):zz p.m T (p.C q) = ob p.n (p.C q) (Lp.bas p.m T):=by
 rw [← zz_eq h.ok,ob_ext fun j hj => C_out q hj]
theorem open_ray {T:Tab} (h:p.Good T) (ho:p.Out T) {s:Nat} (hs:s < p.n) (hns:¬basic p.m T s) (hg:0 < gm p.m T (p.C 0) s) (hray:∀ i,i < p.m→T.e i s ≤ 0):p.Open:=fun a => by
 have key:∀ b:Rat,0 ≤ b→p.F fun j => Lp.bas p.m T j + b * dir p.m T s j:=fun b hb => by
  have hN:s < p.N:=by unfold N; omega
  refine feas_back h ⟨dir_sol h.ok hN hns b,fun j hj => ?_⟩ fun k hk => ?_
  ·show 0 ≤ Lp.bas p.m T j + b * dir p.m T s j
   by_cases hbj:basic p.m T j
   ·obtain ⟨i,hi,rfl⟩:=hbj
    rw [dir_B h.ok hns hi,bas_B h.ok hi]
    have h1:=h.ok.nb i hi
    have h2:=Rat.mul_nonneg hb (show 0 ≤ -T.e i s by have:=hray i hi; grind)
    grind
   ·by_cases e:j = s
    ·subst e; rw [dir_s hns,bas_non hbj]; grind
    ·rw [dir_non hbj e,bas_non hbj]; grind
  ·show Lp.bas p.m T (p.n + k) + b * dir p.m T s (p.n + k) = 0
   rw [ho.bas h hk]
   by_cases hbj:basic p.m T (p.n + k)
   ·obtain ⟨i,hi,e⟩:=hbj
    rw [← e,dir_B h.ok hns hi,(ho.z i hi (by omega)).2 s hs]; grind
   ·rw [dir_non hbj (by omega)]; grind
 have hval:∀ b:Rat,ob p.n p.c (fun j => Lp.bas p.m T j + b * dir p.m T s j) = zz p.m T (p.C 0) + b * gm p.m T (p.C 0) s:=fun b => by
  have hN:s < p.N:=by unfold N; omega
  rw [← ob_C0,← ob_ext (fun j hj => C_out 0 hj),ob_eq (dir_sol h.ok hN hns b)]
  congr 1
  unfold ob
  rw [sm_single hN fun j hj hne => ?_]
  ·show gm p.m T (p.C 0) s * (Lp.bas p.m T s + b * dir p.m T s s) = _
   rw [dir_s hns,bas_non hns]; grind
  ·by_cases hbj:basic p.m T j
   ·obtain ⟨i,hi,rfl⟩:=hbj
    rw [gm_B h.ok _ hi,Rat.zero_mul]
   ·show gm p.m T (p.C 0) j * (Lp.bas p.m T j + b * dir p.m T s j) = 0
    rw [dir_non hbj hne,bas_non hbj]; grind
 by_cases hneg:a ≤ zz p.m T (p.C 0)
 ·refine ⟨_,key 0 Rat.le_refl,?_⟩
  rw [hval]; grind
 ·refine ⟨_,key ((a - zz p.m T (p.C 0)) / gm p.m T (p.C 0) s) ?_,?_⟩
  ·rw [Rat.div_def]
   exact Rat.mul_nonneg (by grind) (Rat.le_of_lt (Rat.inv_pos.mpr hg))
  ·rw [hval]
   have e2:(a - zz p.m T (p.C 0)) / gm p.m T (p.C 0) s * gm p.m T (p.C 0) s = a - zz p.m T (p.C 0):=by grind
   rw [e2]; grind
structure Stage (p:Prog) (q:Nat) (v:Nat→Rat) (Fr:Nat→Prop) (T:Tab):Prop where
 top:∀ y,p.F y→Nn q (fun i => v i - ob p.n (p.C i) y)∧(Zr q (fun i => v i - ob p.n (p.C i) y)→∀ j,j < p.n→¬Fr j→y j = 0)
 all:∀ y,p.F y→(∀ j,j < p.n→¬Fr j→y j = 0)→∀ i,i < q→ob p.n (p.C i) y = v i
 non:∀ j,j < p.n→¬Fr j→¬basic p.m T j
 inn:∀ j,Fr j→j < p.n
theorem stage0 {T:Tab}:Stage p 0 (fun _ => 0) (fun j => j < p.n) T :=
 ⟨fun y _ => ⟨.inr fun q hq => by omega,fun _ j hj hn => absurd hj hn⟩,fun y _ _ i hi => by omega,fun j hj hn => absurd hj hn,fun _ h => h⟩
theorem Stage.step {q d:Nat} {v:Nat→Rat} {Fr:Nat→Prop} {C:Nat→Nat→Rat} {T T':Tab} (h:Stage p q v Fr T) (hs:Step p.m p.N d C Fr T T'):Stage p q v Fr T':=by
 obtain ⟨s,r,h1,h2,rfl⟩:=hs
 refine ⟨h.top,h.all,fun j hj hn hb => ?_,h.inn⟩
 rcases (basic_piv h2.lt j).mp hb with rfl | ⟨i,hi,_,e⟩
 ·exact hn h1.fr
 ·exact h.non j hj hn ⟨i,hi,e⟩
theorem Stage.next {q:Nat} {v:Nat→Rat} {Fr Fr':Nat→Prop} {T:Tab} (hg:p.Good T) (ho:p.Out T) (h:Stage p q v Fr T)
  (hend:∀ j,j < p.n→Fr j→¬basic p.m T j→¬0 < gm p.m T (p.C q) j) (hfr:∀ j,j < p.n→(Fr' j ↔ Fr j∧(basic p.m T j∨¬gm p.m T (p.C q) j < 0))) (hin:∀ j,Fr' j→j < p.n) :
  Stage p (q + 1) (fun i => if i = q then zz p.m T (p.C q) else v i) Fr' T:=by
 have val:∀ y,p.F y→ob p.n (p.C q) y = zz p.m T (p.C q) + sm (fun j => gm p.m T (p.C q) j * p.ext y j) p.N:=fun y hy => by
  rw [← ob_extx,← ob_ext fun j hj => C_out q hj,ob_eq (feas_ext hg hy).1]
  rfl
 have vq:∀ i,i < q→(if i = q then zz p.m T (p.C q) else v i) = v i:=fun i hi => if_neg (by omega)
 have term:∀ y,p.F y→(∀ j,j < p.n→¬Fr j→y j = 0)→∀ j,gm p.m T (p.C q) j * p.ext y j ≤ 0:=fun y hy hz j => by
  unfold ext
  split
  ·rename_i hj
   by_cases hf:Fr j
   ·by_cases hb:basic p.m T j
    ·obtain ⟨i,hi,rfl⟩:=hb
     rw [gm_B hg.ok _ hi]; grind
    ·have h1:=hend j hj hf hb
     have h2:=hy.2 j hj
     have:=Rat.mul_nonneg (show 0 ≤ -gm p.m T (p.C q) j by grind) h2
     grind
   ·rw [hz j hj hf]; grind
  ·grind
 refine ⟨fun y hy => ?_,fun y hy hz i hi => ?_,fun j hj hn => ?_,hin⟩
 ·obtain ⟨h1,h2⟩:=h.top y hy
  rcases h1 with h1 | h1
  ·have h3:Lp q fun i => (if i = q then zz p.m T (p.C q) else v i) - ob p.n (p.C i) y:=h1.congr fun i hi => by rw [vq i hi]
   exact ⟨.inl (.inl h3),fun hz => absurd (Zr.succ.mp hz).1 h3.not_zr⟩
  ·have hz:=h2 h1
   have h3:Zr q fun i => (if i = q then zz p.m T (p.C q) else v i) - ob p.n (p.C i) y:=h1.congr fun i hi => by rw [vq i hi]
   have hsum:=sm_nonneg (f:=fun j => -(gm p.m T (p.C q) j * p.ext y j)) (n:=p.N) fun j _ => by have:=term y hy hz j; grind
   have e:=sm_mul (-1) (fun j => gm p.m T (p.C q) j * p.ext y j) p.N
   have e2:sm (fun j => -(gm p.m T (p.C q) j * p.ext y j)) p.N = sm (fun j => -1 * (gm p.m T (p.C q) j * p.ext y j)) p.N:=sm_congr fun j _ => by grind
   have hv:=val y hy
   have hd:(if q = q then zz p.m T (p.C q) else v q) - ob p.n (p.C q) y = sm (fun j => -(gm p.m T (p.C q) j * p.ext y j)) p.N:=by
    rw [if_pos rfl,hv,e2,e]; grind
   by_cases h0:sm (fun j => -(gm p.m T (p.C q) j * p.ext y j)) p.N = 0
   ·refine ⟨.inr (Zr.succ.mpr ⟨h3,by show (if q = q then zz p.m T (p.C q) else v q) - ob p.n (p.C q) y = 0; rw [hd]; exact h0⟩),fun _ j hj hn => ?_⟩
    by_cases hf:Fr j
    ·have hnb:¬basic p.m T j∧gm p.m T (p.C q) j < 0:=by
      refine ⟨fun hb => hn ((hfr j hj).mpr ⟨hf,.inl hb⟩),?_⟩
      refine Classical.byContradiction fun hlt => hn ((hfr j hj).mpr ⟨hf,.inr hlt⟩)
     have each:∀ N (f:Nat→Rat),(∀ j,0 ≤ f j)→sm f N = 0→∀ j,j < N→f j = 0:=by
      intro N f hf
      induction N with
      | zero => intro _ j hj; omega
      | succ N ih =>
       intro h0 j hj
       have h4:=sm_nonneg (f:=f) (n:=N) fun j _ => hf j
       have h5:=hf N
       have h6:sm f N + f N = 0:=h0
       by_cases e:j = N
       ·subst e; grind
       ·exact ih (by grind) j (by omega)
     have h4:=each p.N _ (fun j => by have:=term y hy hz j; grind) h0 j (by unfold N; omega)
     have h5:gm p.m T (p.C q) j * y j = 0:=by
      have:p.ext y j = y j:=by unfold ext; rw [if_pos hj]
      rw [this] at h4; grind
     rcases Rat.mul_eq_zero.mp h5 with h6 | h6
     ·have:=hnb.2; grind
     ·exact h6
    ·exact hz j hj hf
   ·have hpos:0 < sm (fun j => -(gm p.m T (p.C q) j * p.ext y j)) p.N:=by grind
    refine ⟨.inl (.inr ⟨h3,by show 0 < (if q = q then zz p.m T (p.C q) else v q) - ob p.n (p.C q) y; rw [hd]; exact hpos⟩),fun hz' => ?_⟩
    have:(if q = q then zz p.m T (p.C q) else v q) - ob p.n (p.C q) y = 0:=(Zr.succ.mp hz').2
    rw [hd] at this
    exact absurd this h0
 ·have hz0:∀ j,j < p.n→¬Fr j→y j = 0:=fun j hj hn => hz j hj fun hf => hn ((hfr j hj).mp hf).1
  by_cases e:i = q
  ·subst e
   rw [if_pos rfl,val y hy,sm_zero fun j _ => ?_]
   ·grind
   ·unfold ext
    split
    ·rename_i hj
     by_cases hf:Fr' j
     ·obtain ⟨h1,h2⟩:=(hfr j hj).mp hf
      rcases h2 with ⟨i,hi,rfl⟩ | h2
      ·rw [gm_B hg.ok _ hi]; grind
      ·by_cases hb:basic p.m T j
       ·obtain ⟨i,hi,rfl⟩:=hb
        rw [gm_B hg.ok _ hi]; grind
       ·have h3:=hend j hj h1 hb
        have:gm p.m T (p.C i) j = 0:=by grind
        rw [this]; grind
     ·rw [hz j hj hf]; grind
    ·grind
  ·rw [vq i (by omega)]
   exact h.all y hy hz0 i (by omega)
 ·intro hb
  by_cases hf:Fr j
  ·exact hn ((hfr j hj).mpr ⟨hf,.inl hb⟩)
  ·exact h.non j hj hf hb
theorem Stage.best {v:Nat→Rat} {Fr:Nat→Prop} {T:Tab} (hg:p.Good T) (ho:p.Out T) (h:Stage p (p.n + 1) v Fr T):p.Best (Lp.bas p.m T):=by
 have hF:=ho.F hg
 refine ⟨hF,fun y hy => ?_⟩
 have h1:=h.all _ hF fun j hj hn => bas_non (h.non j hj hn)
 exact (h.top y hy).1.imp (Lp.congr fun q hq => by rw [h1 q hq]) (Zr.congr fun q hq => by rw [h1 q hq])
theorem no_ray2 {T:Tab} (h:p.Good T) {q s:Nat} (hq:q < p.n) (hs:s < p.n) (hns:¬basic p.m T s) (hg:0 < gm p.m T (p.C (q + 1)) s):¬∀ i,i < p.m→T.e i s ≤ 0:=fun hray => by
 have hN:s < p.N:=by unfold N; omega
 have hz:zz p.m T (p.C (q + 1)) ≤ 0:=by
  rw [ob_bas h,ob_Cs hq]
  have:=bas_nonneg h.ok q
  grind
 obtain ⟨x,hx,e⟩:=unbounded h.ok hN hns hray (p.C (q + 1)) ((1 - zz p.m T (p.C (q + 1))) / gm p.m T (p.C (q + 1)) s) (by
  rw [Rat.div_def]
  exact Rat.mul_nonneg (by grind) (Rat.le_of_lt (Rat.inv_pos.mpr hg)))
 rw [ob_ext fun j hj => C_out _ hj,ob_Cs hq] at e
 have e2:(1 - zz p.m T (p.C (q + 1))) / gm p.m T (p.C (q + 1)) s * gm p.m T (p.C (q + 1)) s = 1 - zz p.m T (p.C (q + 1)):=by grind
 rw [e2] at e
 have:=hx.2 q (by unfold N; omega)
 grind
end Prog
end Go.Lp
namespace Go.Lp
structure TZ where
 R:List (List Int)
 by_:Int
 B:List Nat
 fr:List Bool
def rw_ (R:List (List Int)) (i:Nat):List Int:=R.getD i []
def en (R:List (List Int)) (i j:Nat):Int:=(rw_ R i).getD j 0
def pivRow (p f b:Int) (x y:List Int):List Int:=List.zipWith (fun u v => (u * p - f * v).tdiv b) x y
def pivR (R:List (List Int)) (r k:Nat) (b:Int):List (List Int):=R.mapIdx fun i x => if i = r then x else pivRow (en R r k) (x.getD k 0) b x (rw_ R r)
def negR (R:List (List Int)):List (List Int):=R.map fun x => x.map fun z => -z
def pivZ (D:TZ) (r k:Nat):TZ :=
 if 0 < en D.R r k then ⟨pivR D.R r k D.by_,en D.R r k,D.B.set r k,D.fr⟩ else ⟨negR (pivR D.R r k D.by_),-en D.R r k,D.B.set r k,D.fr⟩
theorem rw_get {R:List (List Int)} {i:Nat} (h:i < R.length):rw_ R i = R[i]:=by unfold rw_; rw [List.getD_eq_getElem?_getD,List.getElem?_eq_getElem h]; rfl
theorem pivR_len (R:List (List Int)) (r k:Nat) (b:Int):(pivR R r k b).length = R.length:=by unfold pivR; rw [List.length_mapIdx]
theorem negR_len (R:List (List Int)):(negR R).length = R.length:=by unfold negR; rw [List.length_map]
theorem en_neg (R:List (List Int)) (i j:Nat):en (negR R) i j = -en R i j:=by
 unfold en rw_ negR
 rw [List.getD_eq_getElem?_getD,List.getD_eq_getElem?_getD,List.getD_eq_getElem?_getD,List.getD_eq_getElem?_getD,List.getElem?_map]
 cases R[i]? with
 | none => simp
 | some x =>
  simp only [Option.map_some,Option.getD_some,List.getElem?_map]
  cases x[j]? <;> simp
theorem en_piv_same (R:List (List Int)) (r k j:Nat) (b:Int):en (pivR R r k b) r j = en R r j:=by
 unfold en rw_ pivR
 simp only [List.getD_eq_getElem?_getD,List.getElem?_mapIdx]
 cases R[r]? <;> simp
theorem en_piv {R:List (List Int)} {r k i j:Nat} {b:Int} {n:Nat} (hn:∀ x ∈ R,x.length = n) (hi:i < R.length) (hr:r < R.length) (hj:j < n) (hne:i ≠ r):en (pivR R r k b) i j = (en R i j * en R r k - en R i k * en R r j).tdiv b:=by
 have e1:rw_ (pivR R r k b) i = pivRow (en R r k) (en R i k) b (rw_ R i) (rw_ R r):=by
  show (pivR R r k b).getD i [] = _
  unfold pivR
  rw [List.getD_eq_getElem?_getD,List.getElem?_mapIdx,List.getElem?_eq_getElem hi]
  simp only [Option.map_some,Option.getD_some,if_neg hne]
  unfold en
  rw [rw_get hi]
 have l1:(rw_ R i).length = n:=by rw [rw_get hi]; exact hn _ (List.getElem_mem hi)
 have l2:(rw_ R r).length = n:=by rw [rw_get hr]; exact hn _ (List.getElem_mem hr)
 have key:∀ (x y:List Int) (f:Int→Int→Int),j < x.length→j < y.length→(List.zipWith f x y).getD j 0 = f (x.getD j 0) (y.getD j 0):=fun x y f hx hy => by
  rw [List.getD_eq_getElem?_getD,List.getD_eq_getElem?_getD,List.getD_eq_getElem?_getD,List.getElem?_zipWith,List.getElem?_eq_getElem hx,List.getElem?_eq_getElem hy]; rfl
 show (rw_ (pivR R r k b) i).getD j 0 = _
 rw [e1]
 unfold pivRow
 rw [key _ _ _ (by omega) (by omega)]
 rfl
structure Vw (p:Prog) (T:Tab) (D:TZ) (ι:List Nat):Prop where
 len:ι.length = D.R.length
 lenB:D.B.length = D.R.length
 row:∀ x ∈ D.R,x.length = p.N + 1
 lt:∀ r ∈ ι,r < p.m
 nd:ι.Nodup
 ent:∀ i j,i < D.R.length→j < p.N→(en D.R i j:Rat) = D.by_ * T.e (ι.getD i 0) j
 rhs:∀ i,i < D.R.length→(en D.R i p.N:Rat) = D.by_ * T.b (ι.getD i 0)
 bas:∀ i,i < D.R.length→D.B.getD i 0 = T.B (ι.getD i 0)
 pos:0 < D.by_
 det:(D.by_:Rat) = Lp.det p.m (fun q => p.A (T.B q))∨(D.by_:Rat) = -Lp.det p.m (fun q => p.A (T.B q))
 hid:∀ r,r < p.m→r ∉ ι→p.n ≤ T.B r∧T.b r = 0∧∀ j,j < p.n→T.e r j = 0
structure Whole (p:Prog) (M:Nat):Prop where
 one:1 ≤ M
 a:∀ j k,j < p.n→k < p.m→ZB M (p.a j k)
 w:∀ k,k < p.m→ZB M (p.w k)
theorem Whole.A {p:Prog} {M:Nat} (h:Whole p M) (j k:Nat) (_hj:j < p.N) (hk:k < p.m):ZB M (p.A j k):=by
 unfold Prog.A
 split
 ·rename_i hj; exact h.a j k hj hk
 ·split
  ·exact ⟨1,rfl,h.one⟩
  ·exact ⟨0,rfl,Nat.zero_le _⟩
section
variable {p:Prog} {T:Tab} {D:TZ} {ι:List Nat} {M:Nat}
theorem getD_mem {l:List Nat} {i:Nat} (h:i < l.length):l.getD i 0 ∈ l:=by
 rw [List.getD_eq_getElem?_getD,List.getElem?_eq_getElem h]
 exact List.getElem_mem h
theorem getD_inj {l:List Nat} (hn:l.Nodup) {i k:Nat} (hi:i < l.length) (hk:k < l.length) (e:l.getD i 0 = l.getD k 0):i = k:=by
 rw [List.getD_eq_getElem?_getD,List.getD_eq_getElem?_getD,List.getElem?_eq_getElem hi,List.getElem?_eq_getElem hk] at e
 exact (List.getElem_inj hn).mp e
theorem mem_getD {l:List Nat} {r:Nat} (h:r ∈ l):∃ i,i < l.length∧l.getD i 0 = r:=by
 obtain ⟨i,hi,e⟩:=List.mem_iff_getElem.mp h
 exact ⟨i,hi,by rw [List.getD_eq_getElem?_getD,List.getElem?_eq_getElem hi]; exact e⟩
theorem Vw.io (h:Vw p T D ι) {i:Nat} (hi:i < D.R.length):ι.getD i 0 < p.m:=h.lt _ (getD_mem (by rw [h.len]; exact hi))
theorem scale_ZB {M:Nat} {b q d:Rat} (hb:b = d∨b = -d) (h:ZB M (q * d)):ZB M (b * q):=by
 obtain ⟨z,e,hz⟩:=h
 rcases hb with rfl | rfl
 ·exact ⟨z,by rw [← e]; grind,hz⟩
 ·exact ⟨-z,by rw [Rat.intCast_neg,← e]; grind,by omega⟩
theorem ZB.int {M:Nat} {z:Int} (h:ZB M (z:Rat)):z.natAbs ≤ M:=by
 obtain ⟨y,e,h⟩:=h
 have:z = y:=by exact_mod_cast e
 rw [this]; exact h
theorem Vw.bound (h:Vw p T D ι) (hg:p.Good T) (hw:Whole p M):(∀ i j,i < D.R.length→j ≤ p.N→(en D.R i j).natAbs ≤ fact M p.m)∧D.by_.natAbs ≤ fact M p.m:=by
 refine ⟨fun i j hi hj => ZB.int ?_,ZB.int ?_⟩
 ·by_cases e:j = p.N
  ·subst e
   rw [h.rhs i hi]
   exact scale_ZB h.det (hg.ed.right_ZB hg.ok.bn hw.A hw.w (h.io hi))
  ·rw [h.ent i j hi (by omega)]
   exact scale_ZB h.det (hg.ed.ent_ZB hg.ok.bn hw.A (h.io hi) (by omega))
 ·obtain ⟨z,e,hz⟩:=hg.ed.det_ZB hg.ok.bn hw.A
  rcases h.det with h1 | h1
  ·rw [h1]; exact ⟨z,e,hz⟩
  ·rw [h1]; exact ⟨-z,by rw [Rat.intCast_neg,e],by omega⟩
theorem Vw.ne (h:Vw p T D ι):(D.by_:Rat) ≠ 0:=by
 have:=h.pos
 intro e
 have:D.by_ = 0:=by exact_mod_cast e
 omega
theorem Vw.pos' (h:Vw p T D ι):(0:Rat) < D.by_:=by have:=h.pos; exact_mod_cast this
theorem exact_div {X b z:Int} (hb:b ≠ 0) (h:X = b * z):X.tdiv b = z:=by rw [h,Int.mul_tdiv_cancel_left _ hb]
theorem Vw.cell (h:Vw p T D ι) {r k:Nat} (hg:p.Good T) (hw:Whole p M) (hr:r < D.R.length) (hk:k < p.N) (hne:en D.R r k ≠ 0) (hok:Ok p.m p.N (piv T (ι.getD r 0) k)) :
  (∀ i j,i < D.R.length→i ≠ r→j < p.N→((en D.R i j * en D.R r k - en D.R i k * en D.R r j).tdiv D.by_:Rat) = en D.R r k * (piv T (ι.getD r 0) k).e (ι.getD i 0) j) ∧
  (∀ i,i < D.R.length→i ≠ r→((en D.R i p.N * en D.R r k - en D.R i k * en D.R r p.N).tdiv D.by_:Rat) = en D.R r k * (piv T (ι.getD r 0) k).b (ι.getD i 0)):=by
 have hb:=h.ne
 have hbz:D.by_ ≠ 0:=by have:=h.pos; omega
 have hp:(en D.R r k:Rat) ≠ 0:=fun e => hne (by exact_mod_cast e)
 have ep:=h.ent r k hr hk
 have he:T.e (ι.getD r 0) k ≠ 0:=fun e => hp (by rw [ep,e]; grind)
 have hg':=hg.piv (h.io hr) hk he hok
 have hd:=hg.ed.det_piv (h.io hr) hk
 have neq:∀ i,i < D.R.length→i ≠ r→¬ι.getD i 0 = ι.getD r 0:=fun i hi hne e => hne (getD_inj h.nd (by rw [h.len]; exact hi) (by rw [h.len]; exact hr) e)
 have fin:∀ (x f y xx ff yy:Rat),x = D.by_ * xx→f = D.by_ * ff→y = D.by_ * yy→x * en D.R r k - f * y = D.by_ * (en D.R r k * (xx - ff * (yy / T.e (ι.getD r 0) k))):=fun x f y xx ff yy h1 h2 h3 => by
  subst h1 h2 h3
  rw [ep]; grind
 have whole:∀ q:Rat,ZB (fact M p.m) (q * Lp.det p.m fun i => p.A ((piv T (ι.getD r 0) k).B i))→∃ z:Int,(en D.R r k:Rat) * q = z:=fun q hq => by
  rw [hd] at hq
  have:ZB (fact M p.m) ((T.e (ι.getD r 0) k * q) * Lp.det p.m fun i => p.A (T.B i)):=by
   obtain ⟨z,e,hz⟩:=hq
   exact ⟨z,by rw [← e]; grind,hz⟩
  obtain ⟨z,e,_⟩:=scale_ZB h.det this
  exact ⟨z,by rw [← e,ep]; grind⟩
 have close:∀ (X:Int) (q:Rat),(X:Rat) = D.by_ * (en D.R r k * q)→(∃ z:Int,(en D.R r k:Rat) * q = z)→((X.tdiv D.by_:Int):Rat) = en D.R r k * q:=fun X q hX ⟨z,hz⟩ => by
  have:X = D.by_ * z:=by
   rw [hz] at hX
   exact_mod_cast hX
  rw [exact_div hbz this,hz]
 refine ⟨fun i j hi hir hj => ?_,fun i hi hir => ?_⟩
 ·refine close _ _ ?_ (whole _ (hg'.ed.ent_ZB hok.bn hw.A (h.io hi) hj))
  rw [Rat.intCast_sub,Rat.intCast_mul,Rat.intCast_mul,fin _ _ _ _ _ _ (h.ent i j hi hj) (h.ent i k hi hk) (h.ent r j hr hj)]
  simp only [piv,if_neg (neq i hi hir)]
 ·refine close _ _ ?_ (whole _ (hg'.ed.right_ZB hok.bn hw.A hw.w (h.io hi)))
  rw [Rat.intCast_sub,Rat.intCast_mul,Rat.intCast_mul,fin _ _ _ _ _ _ (h.rhs i hi) (h.ent i k hi hk) (h.rhs r hr)]
  simp only [piv,if_neg (neq i hi hir)]
theorem getD_set {l:List Nat} {r k i:Nat} (hi:i < l.length):(l.set r k).getD i 0 = if i = r then k else l.getD i 0:=by
 rw [List.getD_eq_getElem?_getD,List.getElem?_set,List.getD_eq_getElem?_getD]
 by_cases h:r = i
 ·subst h; rw [if_pos rfl,if_pos hi,if_pos rfl]; rfl
 ·rw [if_neg h,if_neg (Ne.symm h)]
theorem pivR_row {R:List (List Int)} {n:Nat} (h:∀ x ∈ R,x.length = n) {r k:Nat} (hr:r < R.length) (b:Int):∀ x ∈ pivR R r k b,x.length = n:=fun x hx => by
 unfold pivR at hx
 obtain ⟨i,hi,rfl⟩:=List.mem_mapIdx.mp hx
 split
 ·exact h _ (List.getElem_mem hi)
 ·unfold pivRow
  rw [List.length_zipWith,h _ (List.getElem_mem hi),rw_get hr,h _ (List.getElem_mem hr)]
  omega
theorem Vw.piv (h:Vw p T D ι) {r k:Nat} (hg:p.Good T) (hw:Whole p M) (hr:r < D.R.length) (hk:k < p.N) (hne:en D.R r k ≠ 0) (hok:Ok p.m p.N (piv T (ι.getD r 0) k)) (hh:k < p.n∨∀ r',r' < p.m→r' ∈ ι) :
  Vw p (Lp.piv T (ι.getD r 0) k) (pivZ D r k) ι:=by
 obtain ⟨c1,c2⟩:=h.cell hg hw hr hk hne hok
 have hp:(en D.R r k:Rat) ≠ 0:=fun e => hne (by exact_mod_cast e)
 have ep:=h.ent r k hr hk
 have he:T.e (ι.getD r 0) k ≠ 0:=fun e => hp (by rw [ep,e]; grind)
 have hd:=hg.ed.det_piv (h.io hr) hk
 have neq:∀ i,i < D.R.length→i ≠ r→¬ι.getD i 0 = ι.getD r 0:=fun i hi hne e => hne (getD_inj h.nd (by rw [h.len]; exact hi) (by rw [h.len]; exact hr) e)
 have E:∀ i j,i < D.R.length→j < p.N→(en (pivR D.R r k D.by_) i j:Rat) = en D.R r k * (Lp.piv T (ι.getD r 0) k).e (ι.getD i 0) j:=fun i j hi hj => by
  by_cases e:i = r
  ·subst e
   rw [en_piv_same,h.ent i j hi hj,ep]
   simp only [Lp.piv,if_true]
   grind
  ·rw [en_piv h.row hi hr (by omega) e]
   exact c1 i j hi e hj
 have Rh:∀ i,i < D.R.length→(en (pivR D.R r k D.by_) i p.N:Rat) = en D.R r k * (Lp.piv T (ι.getD r 0) k).b (ι.getD i 0):=fun i hi => by
  by_cases e:i = r
  ·subst e
   rw [en_piv_same,h.rhs i hi,ep]
   simp only [Lp.piv,if_true]
   grind
  ·rw [en_piv h.row hi hr (by omega) e]
   exact c2 i hi e
 have hB:∀ i,i < D.R.length→(D.B.set r k).getD i 0 = (Lp.piv T (ι.getD r 0) k).B (ι.getD i 0):=fun i hi => by
  rw [getD_set (by rw [h.lenB]; exact hi)]
  simp only [Lp.piv]
  by_cases e:i = r
  ·subst e; rw [if_pos rfl,if_pos rfl]
  ·rw [if_neg e,if_neg (neq i hi e),h.bas i hi]
 have hid:∀ q,q < p.m→q ∉ ι→p.n ≤ (Lp.piv T (ι.getD r 0) k).B q∧(Lp.piv T (ι.getD r 0) k).b q = 0∧∀ j,j < p.n→(Lp.piv T (ι.getD r 0) k).e q j = 0:=fun q hq hn => by
  rcases hh with hh | hh
  ·obtain ⟨h1,h2,h3⟩:=h.hid q hq hn
   have hqr:¬q = ι.getD r 0:=fun e => hn (by rw [e]; exact getD_mem (by rw [h.len]; exact hr))
   simp only [Lp.piv,if_neg hqr,h2,h3 k hh]
   refine ⟨h1,by grind,fun j hj => ?_⟩
   rw [h3 j hj]; grind
  ·exact absurd (hh q hq) hn
 have hdet:(en D.R r k:Rat) = Lp.det p.m (fun q => p.A ((Lp.piv T (ι.getD r 0) k).B q))∨(en D.R r k:Rat) = -Lp.det p.m (fun q => p.A ((Lp.piv T (ι.getD r 0) k).B q)):=by
  rw [hd,ep]
  rcases h.det with h1 | h1 <;> rw [h1]
  ·exact .inl (by grind)
  ·exact .inr (by grind)
 unfold pivZ
 by_cases hpos:0 < en D.R r k
 ·rw [if_pos hpos]
  exact ⟨by rw [h.len]; exact (pivR_len ..).symm,by show (D.B.set r k).length = (pivR D.R r k D.by_).length; rw [List.length_set,pivR_len]; exact h.lenB,pivR_row h.row hr _,h.lt,h.nd,
   fun i j hi hj => E i j (by rw [pivR_len] at hi; exact hi) hj,fun i hi => Rh i (by rw [pivR_len] at hi; exact hi),fun i hi => hB i (by rw [pivR_len] at hi; exact hi),hpos,hdet,hid⟩
 ·rw [if_neg hpos]
  have hl:(negR (pivR D.R r k D.by_)).length = D.R.length:=by rw [negR_len,pivR_len]
  refine ⟨by rw [h.len]; exact hl.symm,by show (D.B.set r k).length = (negR (pivR D.R r k D.by_)).length; rw [List.length_set,hl]; exact h.lenB,fun x hx => ?_,h.lt,h.nd,
   fun i j hi hj => ?_,fun i hi => ?_,fun i hi => hB i (by rw [hl] at hi; exact hi),by show 0 < -en D.R r k; omega,?_,hid⟩
  ·unfold negR at hx
   obtain ⟨y,hy,rfl⟩:=List.mem_map.mp hx
   rw [List.length_map]
   exact pivR_row h.row hr _ y hy
  ·show ((en (negR (pivR D.R r k D.by_)) i j:Int):Rat) = ((-en D.R r k:Int):Rat) * _
   rw [en_neg,Rat.intCast_neg,Rat.intCast_neg,E i j (by rw [hl] at hi; exact hi) hj]; grind
  ·show ((en (negR (pivR D.R r k D.by_)) i p.N:Int):Rat) = ((-en D.R r k:Int):Rat) * _
   rw [en_neg,Rat.intCast_neg,Rat.intCast_neg,Rh i (by rw [hl] at hi; exact hi)]; grind
  ·show ((-en D.R r k:Int):Rat) = _∨((-en D.R r k:Int):Rat) = _
   rw [Rat.intCast_neg]
   rcases hdet with h1 | h1 <;> rw [h1]
   ·exact .inr rfl
   ·exact .inl (by grind)
end
end Go.Lp
namespace Go.Lp
def sl (f:Nat→Rat):List Nat→Rat
 | [] => 0
 | r :: l => f r + sl f l
theorem sl_congr {f g:Nat→Rat}:∀ {l:List Nat},(∀ r ∈ l,f r = g r)→sl f l = sl g l
 | [],_ => rfl
 | r :: l,h => by unfold sl; rw [h r List.mem_cons_self,sl_congr fun q hq => h q (List.mem_cons_of_mem _ hq)]
theorem sl_sm {m:Nat}:∀ {l:List Nat} {f:Nat→Rat},l.Nodup→(∀ r ∈ l,r < m)→(∀ r,r < m→r ∉ l→f r = 0)→sl f l = sm f m
 | [],f,_,_,hz => (sm_zero fun r hr => hz r hr List.not_mem_nil).symm
 | a :: l,f,hn,hl,hz => by
  rw [List.nodup_cons] at hn
  have ha:=hl a List.mem_cons_self
  have h1:=sl_sm (m:=m) (l:=l) (f:=fun r => if r = a then 0 else f r) hn.2 (fun r hr => hl r (List.mem_cons_of_mem _ hr)) fun r hr hq => by
   show (if r = a then (0:Rat) else f r) = 0
   split
   ·rfl
   ·rename_i e; exact hz r hr (by simp [e,hq])
  have h2:sl (fun r => if r = a then 0 else f r) l = sl f l:=sl_congr fun r hr => if_neg (fun e:r = a => hn.1 (e ▸ hr))
  have h3:sm f m = sm (fun r => if r = a then 0 else f r) m + sm (fun r => if r = a then f r else 0) m:=by
   rw [← sm_add]
   refine sm_congr fun r _ => ?_
   by_cases e:r = a
   ·rw [if_pos e,if_pos e]; grind
   ·rw [if_neg e,if_neg e]; grind
  show f a + sl f l = _
  rw [h3,← h1,h2,sm_single ha fun r _ hne => if_neg hne,if_pos rfl]; grind
def gainR (o:Nat→Int) (k:Nat):List (List Int)→List Nat→Int
 | x :: R,b :: B => gainR o k R B - x.getD k 0 * o b
 | _,_ => 0
def gainZ (D:TZ) (o:Nat→Int) (k:Nat):Int:=D.by_ * o k + gainR o k D.R D.B
structure EntersZ (n:Nat) (D:TZ) (o:Nat→Int) (s:Nat):Prop where
 lt:s < n
 fr:D.fr.getD s false = true
 non:s ∉ D.B
 pos:0 < gainZ D o s
 low:∀ j,j < s→D.fr.getD j false = true→j ∉ D.B→¬0 < gainZ D o j
structure LeavesZ (n:Nat) (D:TZ) (s r:Nat):Prop where
 lt:r < D.R.length
 pos:0 < en D.R r s
 low:∀ i,i < D.R.length→0 < en D.R i s→en D.R r n * en D.R i s ≤ en D.R i n * en D.R r s
 tie:∀ i,i < D.R.length→0 < en D.R i s→en D.R r n * en D.R i s = en D.R i n * en D.R r s→D.B.getD r 0 ≤ D.B.getD i 0
def StepZ (n:Nat) (o:Nat→Int) (D D':TZ):Prop:=∃ s r,EntersZ n D o s∧LeavesZ n D s r∧D' = pivZ D r s
def NoChZ (n:Nat) (o:Nat→Int):Nat→TZ→Prop
 | 0,_ => False
 | k + 1,D => ∀ D',StepZ n o D D'→NoChZ n o k D'
section
variable {p:Prog} {T:Tab} {D:TZ} {ι:List Nat} {M:Nat} {o:Nat→Int}
theorem gainR_eq (b:Rat) (k:Nat) (f:Nat→Rat) (B:Nat→Nat):∀ (R:List (List Int)) (Bs:List Nat) (l:List Nat),l.length = R.length→Bs.length = R.length →
  (∀ i,i < R.length→(en R i k:Rat) = b * f (l.getD i 0))→(∀ i,i < R.length→Bs.getD i 0 = B (l.getD i 0)) →
  (gainR o k R Bs:Rat) = -(b * sl (fun r => f r * o (B r)) l)
 | [],Bs,l,h1,h2,_,_ => by
  cases l with
  | nil => simp [gainR,sl]
  | cons a l => simp at h1
 | x :: R,[],l,_,h2,_,_ => by simp at h2
 | x :: R,b' :: Bs,[],h1,_,_,_ => by simp at h1
 | x :: R,b' :: Bs,a :: l,h1,h2,h3,h4 => by
  have e1:=h3 0 (by simp)
  have e2:b' = B a:=h4 0 (by simp)
  have e3:(x.getD k 0:Rat) = b * f a:=e1
  have ih:=gainR_eq b k f B R Bs l (by simpa using h1) (by simpa using h2) (fun i hi => h3 (i + 1) (by simpa using hi)) (fun i hi => h4 (i + 1) (by simpa using hi))
  show ((gainR o k R Bs - x.getD k 0 * o b':Int):Rat) = -(b * (f a * o (B a) + sl _ l))
  rw [Rat.intCast_sub,Rat.intCast_mul,ih,e3,e2]; grind
theorem Vw.gain (h:Vw p T D ι) {k:Nat} (hk:k < p.N) (hh:∀ r,r < p.m→r ∉ ι→T.e r k * o (T.B r) = 0):(gainZ D o k:Rat) = D.by_ * gm p.m T (fun j => o j) k:=by
 unfold gainZ
 rw [Rat.intCast_add,Rat.intCast_mul,gainR_eq D.by_ k (fun r => T.e r k) T.B D.R D.B ι h.len h.lenB (fun i hi => h.ent i k hi hk) h.bas,sl_sm h.nd h.lt hh]
 unfold gm; grind
theorem Vw.mem (h:Vw p T D ι) {s:Nat} (hh:s < p.n∨∀ r',r' < p.m→r' ∈ ι):s ∈ D.B ↔ basic p.m T s:=by
 constructor
 ·intro hs
  obtain ⟨i,hi,e⟩:=mem_getD hs
  rw [h.lenB] at hi
  exact ⟨_,h.io hi,by rw [← h.bas i hi,e]⟩
 ·rintro ⟨r,hr,rfl⟩
  have hm:r ∈ ι:=by
   refine Classical.byContradiction fun hn => ?_
   rcases hh with hh | hh
   ·have:=(h.hid r hr hn).1; omega
   ·exact hn (hh r hr)
  obtain ⟨i,hi,rfl⟩:=mem_getD hm
  rw [h.len] at hi
  rw [← h.bas i hi]
  exact getD_mem (by rw [h.lenB]; exact hi)
theorem Vw.sign (h:Vw p T D ι) {i k:Nat} (hi:i < D.R.length) (hk:k < p.N):(0 < en D.R i k ↔ 0 < T.e (ι.getD i 0) k)∧(en D.R i k = 0 ↔ T.e (ι.getD i 0) k = 0):=by
 have e:=h.ent i k hi hk
 have hb:=h.pos'
 have hp:(0:Rat) < en D.R i k ↔ 0 < en D.R i k:=by
  constructor
  ·intro h; exact_mod_cast h
  ·intro h; exact_mod_cast h
 refine ⟨?_,?_⟩
 ·rw [← hp,e]
  constructor
  ·intro h1
   refine Classical.byContradiction fun h2 => ?_
   have:=Rat.mul_nonneg (Rat.le_of_lt hb) (show 0 ≤ -T.e (ι.getD i 0) k by grind)
   grind
  ·intro h1; exact Rat.mul_pos hb h1
 ·constructor
  ·intro h1
   have:(en D.R i k:Rat) = 0:=by rw [h1]; rfl
   rw [e] at this
   rcases Rat.mul_eq_zero.mp this with h2 | h2
   ·exact absurd h2 h.ne
   ·exact h2
  ·intro h1
   have:(en D.R i k:Rat) = 0:=by rw [e,h1]; grind
   exact_mod_cast this
theorem Vw.signR (h:Vw p T D ι) {i:Nat} (hi:i < D.R.length):en D.R i p.N = 0 ↔ T.b (ι.getD i 0) = 0:=by
 have e:=h.rhs i hi
 constructor
 ·intro h1
  have:(en D.R i p.N:Rat) = 0:=by rw [h1]; rfl
  rw [e] at this
  rcases Rat.mul_eq_zero.mp this with h2 | h2
  ·exact absurd h2 h.ne
  ·exact h2
 ·intro h1
  have:(en D.R i p.N:Rat) = 0:=by rw [e,h1]; grind
  exact_mod_cast this
theorem Vw.nonneg (h:Vw p T D ι) (hok:Ok p.m p.N T) {i:Nat} (hi:i < D.R.length):0 ≤ en D.R i p.N:=by
 have e:=h.rhs i hi
 have:(0:Rat) ≤ en D.R i p.N:=by rw [e]; exact Rat.mul_nonneg (Rat.le_of_lt h.pos') (hok.nb _ (h.io hi))
 exact_mod_cast this
theorem Vw.leaves (h:Vw p T D ι) {s r:Nat} (hs:s < p.N) (hh:s < p.n∨∀ r',r' < p.m→r' ∈ ι) (hl:LeavesZ p.N D s r):Leaves p.m T s (ι.getD r 0):=by
 have seen:∀ i,i < p.m→0 < T.e i s→∃ q,q < D.R.length∧ι.getD q 0 = i:=fun i hi hp => by
  have hm:i ∈ ι:=by
   refine Classical.byContradiction fun hn => ?_
   rcases hh with hh | hh
   ·have:=(h.hid i hi hn).2.2 s hh; grind
   ·exact hn (hh i hi)
  obtain ⟨q,hq,e⟩:=mem_getD hm
  exact ⟨q,by rw [← h.len]; exact hq,e⟩
 have hb2:(0:Rat) < D.by_ * D.by_:=Rat.mul_pos h.pos' h.pos'
 have val:∀ i q,i < D.R.length→q < D.R.length→((en D.R i p.N * en D.R q s:Int):Rat) = D.by_ * D.by_ * (T.b (ι.getD i 0) * T.e (ι.getD q 0) s):=fun i q hi hq => by
  rw [Rat.intCast_mul,h.rhs i hi,h.ent q s hq hs]; grind
 refine ⟨h.io hl.lt,(h.sign hl.lt hs).1.mp hl.pos,fun i hi hp => ?_,fun i hi hp he => ?_⟩
 ·obtain ⟨q,hq,rfl⟩:=seen i hi hp
  have h1:=hl.low q hq ((h.sign hq hs).1.mpr hp)
  have h2:((en D.R r p.N * en D.R q s:Int):Rat) ≤ ((en D.R q p.N * en D.R r s:Int):Rat):=by exact_mod_cast h1
  rw [val r q hl.lt hq,val q r hq hl.lt] at h2
  exact Rat.le_of_mul_le_mul_left h2 hb2
 ·obtain ⟨q,hq,rfl⟩:=seen i hi hp
  rw [← h.bas r hl.lt,← h.bas q hq]
  refine hl.tie q hq ((h.sign hq hs).1.mpr hp) ?_
  have h2:((en D.R r p.N * en D.R q s:Int):Rat) = ((en D.R q p.N * en D.R r s:Int):Rat):=by rw [val r q hl.lt hq,val q r hq hl.lt,he]
  exact_mod_cast h2
structure Fit (p:Prog) (T:Tab) (ι:List Nat) (o:Nat→Int) (fr:List Bool):Prop where
 obj:∀ r,r < p.m→r ∉ ι→∀ k,k < p.N→fr.getD k false = true→T.e r k * o (T.B r) = 0
 col:∀ k,fr.getD k false = true→k < p.n∨∀ r',r' < p.m→r' ∈ ι
theorem gain_pos (h:Vw p T D ι) {k:Nat} (hk:k < p.N) (hh:∀ r,r < p.m→r ∉ ι→T.e r k * o (T.B r) = 0):(0 < gainZ D o k ↔ 0 < gm p.m T (fun j => o j) k)∧(gainZ D o k < 0 ↔ gm p.m T (fun j => o j) k < 0):=by
 have e:=h.gain hk hh
 have hb:=h.pos'
 have c1:(0:Rat) < gainZ D o k ↔ 0 < gainZ D o k:=⟨fun h => by exact_mod_cast h,fun h => by exact_mod_cast h⟩
 have c2:(gainZ D o k:Rat) < 0 ↔ gainZ D o k < 0:=⟨fun h => by exact_mod_cast h,fun h => by exact_mod_cast h⟩
 rw [← c1,← c2,e]
 generalize gm p.m T (fun j => (o j:Rat)) k = g
 constructor <;> constructor
 ·intro h1
  refine Classical.byContradiction fun h2 => ?_
  have:=Rat.mul_nonneg (Rat.le_of_lt hb) (show 0 ≤ -g by grind)
  grind
 ·intro h1; exact Rat.mul_pos hb h1
 ·intro h1
  refine Classical.byContradiction fun h2 => ?_
  have:=Rat.mul_nonneg (Rat.le_of_lt hb) (show 0 ≤ g by grind)
  grind
 ·intro h1
  have:=Rat.mul_pos hb (show 0 < -g by grind)
  grind
theorem lp1 {v:Nat→Rat}:Lp 1 v ↔ 0 < v 0:=by
 constructor
 ·rintro (h | ⟨_,h⟩)
  ·exact h.elim
  ·exact h
 ·intro h; exact .inr ⟨fun q hq => absurd hq (Nat.not_lt_zero q),h⟩
theorem Vw.step (h:Vw p T D ι) (hg:p.Good T) (hw:Whole p M) (hf:Fit p T ι o D.fr) {D':TZ} (hs:StepZ p.N o D D') :
  ∃ T',Step p.m p.N 1 (fun _ j => o j) (fun j => D.fr.getD j false = true) T T'∧Vw p T' D' ι∧D'.fr = D.fr:=by
 obtain ⟨s,r,h1,h2,rfl⟩:=hs
 have hl:=h.leaves h1.lt (hf.col s h1.fr) h2
 have en':Enters p.m p.N 1 (fun _ j => o j) (fun j => D.fr.getD j false = true) T s:=by
  refine ⟨h1.lt,h1.fr,fun hb => h1.non ((h.mem (hf.col s h1.fr)).mpr hb),lp1.mpr ((gain_pos h h1.lt fun r hr hn => hf.obj r hr hn s h1.lt h1.fr).1.mp h1.pos),fun j hj hfj hb hp => ?_⟩
  exact h1.low j hj hfj (fun hm => hb ((h.mem (hf.col j hfj)).mp hm)) ((gain_pos h (by have:=h1.lt; omega) fun r hr hn => hf.obj r hr hn j (by have:=h1.lt; omega) hfj).1.mpr (lp1.mp hp))
 have hst:Step p.m p.N 1 (fun _ j => o j) (fun j => D.fr.getD j false = true) T (Lp.piv T (ι.getD r 0) s):=⟨s,_,en',hl,rfl⟩
 refine ⟨_,hst,h.piv hg hw h2.lt h1.lt (by have:=h2.pos; omega) (hst.ok hg.ok) (hf.col s h1.fr),?_⟩
 unfold pivZ
 split <;> rfl
theorem Fit.step {T':Tab} (hf:Fit p T ι o D.fr) (h:Vw p T D ι) (h':Vw p T' D ι∨True) (hs:∃ s r,r ∈ ι∧D.fr.getD s false = true∧s < p.N∧T' = Lp.piv T r s):Fit p T' ι o D.fr:=by
 obtain ⟨s,r,hr,hfs,hsN,rfl⟩:=hs
 refine ⟨fun q hq hn k hk hfk => ?_,hf.col⟩
 rcases hf.col s hfs with hs | hs
 ·have h1:=hf.obj q hq hn k hk hfk
  have h2:=(h.hid q hq hn).2.2 s hs
  have hqr:¬q = r:=fun e => hn (e ▸ hr)
  simp only [Lp.piv,if_neg hqr,h2]
  have:T.e q k - 0 * (T.e r k / T.e r s) = T.e q k:=by grind
  rw [this]; exact h1
 ·exact absurd (hs q hq) hn
theorem Vw.noCh (hw:Whole p M):∀ {k:Nat} {T:Tab} {D:TZ},Vw p T D ι→p.Good T→Fit p T ι o D.fr→NoCh p.m p.N 1 (fun _ j => o j) (fun j => D.fr.getD j false = true) k T→NoChZ p.N o k D
 | 0,_,_,_,_,_,h => h
 | k + 1,T,D,h,hg,hf,hn => fun D' hs => by
  obtain ⟨T',h1,h2,h3⟩:=h.step hg hw hf hs
  have hf':Fit p T' ι o D'.fr:=by
   rw [h3]
   obtain ⟨s,r,g1,g2,g3⟩:=hs
   refine hf.step h (.inr trivial) ?_
   obtain ⟨s',r',q1,q2,q3⟩:=h1
   have e:=h.leaves g1.lt (hf.col s g1.fr) g2
   refine ⟨s',r',?_,q1.fr,q1.lt,q3⟩
   refine Classical.byContradiction fun hni => ?_
   rcases hf.col s' q1.fr with hc | hc
   ·have:=(h.hid r' q2.lt hni).2.2 s' hc
    have:=q2.pos
    grind
   ·exact hni (hc r' q2.lt)
  exact Vw.noCh hw h2 (hg.step h1) hf' (by rw [h3]; exact hn T' h1)
end
end Go.Lp
namespace Go.Lp
inductive ReachZ (n:Nat) (o:Nat→Int):TZ→TZ→Prop
 | refl (D:TZ):ReachZ n o D D
 | tail {D D1 D2:TZ}:ReachZ n o D D1→StepZ n o D1 D2→ReachZ n o D D2
def frZ (n:Nat) (o:Nat→Int) (D:TZ) (fr:List Bool):Prop:=fr.length = D.fr.length∧∀ j,j < n→(fr.getD j false = true ↔ D.fr.getD j false = true∧(j ∈ D.B∨¬gainZ D o j < 0))
def MaxZ (n:Nat) (o:Nat→Int) (D:TZ) (res:Bool) (D':TZ):Prop :=
 ∃ D1,ReachZ n o D D1∧((res = true∧(∀ j,j < n→D1.fr.getD j false = true→j ∉ D1.B→¬0 < gainZ D1 o j)∧∃ fr,frZ n o D1 fr∧D' = { D1 with fr:=fr }) ∨
  (res = false∧D' = D1∧∃ s,EntersZ n D1 o s∧∀ i,i < D1.R.length→¬0 < en D1.R i s))
section
variable {p:Prog} {T:Tab} {D:TZ} {ι:List Nat} {M:Nat} {o:Nat→Int}
theorem ReachZ.run (hw:Whole p M) {D D1:TZ} (hr:ReachZ p.N o D D1) {T:Tab} (h:Vw p T D ι) (hg:p.Good T) (hf:Fit p T ι o D.fr) {Q:Tab→Prop} (hQ:Q T)
  (hs:∀ T T',p.Good T→Q T→Step p.m p.N 1 (fun _ j => o j) (fun j => D.fr.getD j false = true) T T'→Q T') :
  ∃ T1,Vw p T1 D1 ι∧p.Good T1∧Fit p T1 ι o D1.fr∧Q T1∧D1.fr = D.fr:=by
 induction hr with
 | refl => exact ⟨T,h,hg,hf,hQ,rfl⟩
 | tail h1 h2 ih =>
  obtain ⟨T1,k1,k2,k3,k4,k5⟩:=ih
  obtain ⟨T2,g1,g2,g3⟩:=k1.step k2 hw k3 h2
  rw [k5] at g1
  refine ⟨T2,g2,k2.step g1,?_,hs _ _ k2 k4 g1,g3.trans k5⟩
  rw [g3]
  refine k3.step k1 (.inr trivial) ?_
  rw [k5]
  obtain ⟨s',r',q1,q2,q3⟩:=g1
  refine ⟨s',r',?_,q1.fr,q1.lt,q3⟩
  refine Classical.byContradiction fun hni => ?_
  rcases k3.col s' (by rw [k5]; exact q1.fr) with hc | hc
  ·have:=(k1.hid r' q2.lt hni).2.2 s' hc
   have:=q2.pos
   grind
  ·exact hni (hc r' q2.lt)
theorem Vw.frame (h:Vw p T D ι) (fr:List Bool):Vw p T { D with fr:=fr } ι:=⟨h.len,h.lenB,h.row,h.lt,h.nd,h.ent,h.rhs,h.bas,h.pos,h.det,h.hid⟩
def o1 (n:Nat) (j:Nat):Int:=if j < n then 0 else -1
theorem o1_c1:(fun j => ((o1 p.n j:Int):Rat)) = p.c1:=by
 funext j
 unfold o1 Prog.c1
 split <;> rfl
def Zero (p:Prog) (T:Tab):Prop:=∀ r,r < p.m→p.n ≤ T.B r→T.b r = 0
theorem first_end (hw:Whole p M) {D D':TZ} {res:Bool} (hm:MaxZ p.N (o1 p.n) D res D') (h:Vw p p.T0 D ι) (hg:p.Good p.T0) (hι:∀ r,r < p.m→r ∈ ι) (hfr:∀ j,D.fr.getD j false = true ↔ j < p.n) :
  ∃ T,Vw p T D' ι∧p.Good T∧((∀ i,i < D'.R.length→p.n ≤ D'.B.getD i 0→¬0 < en D'.R i p.N)→Zero p T)∧((∃ i,i < D'.R.length∧p.n ≤ D'.B.getD i 0∧0 < en D'.R i p.N)→p.None):=by
 obtain ⟨D1,h1,h2⟩:=hm
 have hf:Fit p p.T0 ι (o1 p.n) D.fr:=⟨fun r hr hn => absurd (hι r hr) hn,fun k _ => .inr hι⟩
 obtain ⟨T1,k1,k2,k3,_,k5⟩:=h1.run hw h hg hf (Q:=fun _ => True) trivial (fun _ _ _ _ _ => trivial)
 have hN:∀ j,j < p.n→j < p.N:=fun j hj => by unfold Prog.N; omega
 have hobj:∀ k,k < p.N→∀ r,r < p.m→r ∉ ι→T1.e r k * o1 p.n (T1.B r) = 0:=fun k _ r hr hn => absurd (hι r hr) hn
 rcases h2 with ⟨_,h2,fr,_,rfl⟩ | ⟨_,_,s,h3,h4⟩
 ·have hend:∀ j,j < p.N→j < p.n→¬basic p.m T1 j→¬Lp 1 (gv p.m T1 (fun _ => p.c1) j):=fun j hj hjn hb hp => by
   refine h2 j hj (by rw [k5]; exact (hfr j).mpr hjn) (fun hm => hb ((k1.mem (.inr hι)).mp hm)) ?_
   refine (gain_pos k1 hj (hobj j hj)).1.mpr ?_
   rw [o1_c1]
   exact lp1.mp hp
  refine ⟨T1,k1.frame fr,k2,fun hz r hr hB => ?_,?_⟩
  ·obtain ⟨i,hi,rfl⟩:=mem_getD (hι r hr)
   rw [k1.len] at hi
   refine (k1.signR hi).mp ?_
   have h5:=hz i hi (by show p.n ≤ D1.B.getD i 0; rw [k1.bas i hi]; exact hB)
   have h6:=k1.nonneg k2.ok hi
   have:¬0 < en D1.R i p.N:=h5
   omega
  ·rintro ⟨i,hi,hB,hp⟩
   have hB:p.n ≤ D1.B.getD i 0:=hB
   rw [k1.bas i hi] at hB
   refine Prog.none_of k2 (Fr:=fun j => j < p.n) (fun _ h => h) (fun j hj hjn hb => hend j hj hjn hb) (k1.io hi) hB fun e => ?_
   have:=(k1.signR hi).mpr e
   have hp:0 < en D1.R i p.N:=hp
   omega
 ·exfalso
  have hs:=h3.lt
  have hfs:=h3.fr
  have hns:¬basic p.m T1 s:=fun hb => h3.non ((k1.mem (.inr hι)).mpr hb)
  refine Prog.no_ray1 k2 hs hns ?_ fun r hr => ?_
  ·refine lp1.mpr ?_
   have:=(gain_pos k1 hs (hobj s hs)).1.mp h3.pos
   rw [o1_c1] at this
   exact this
  ·obtain ⟨i,hi,rfl⟩:=mem_getD (hι r hr)
   rw [k1.len] at hi
   refine Rat.not_lt.mp fun hp => h4 i hi ((k1.sign hi hs).1.mpr hp)
theorem Zero.piv (hz:Zero p T) {r s:Nat} (_hr:r < p.m) (h0:T.b r = 0) (hs:s < p.n):Zero p (Lp.piv T r s):=fun q hq hB => by
 simp only [Lp.piv] at hB ⊢
 by_cases e:q = r
 ·rw [if_pos e] at hB; omega
 ·rw [if_neg e] at hB
  rw [if_neg e,h0,hz q hq hB]
  rw [Rat.div_def]; grind
theorem leave_piv (hw:Whole p M) (h:Vw p T D ι) (hg:p.Good T) (hz:Zero p T) {i k:Nat} (hi:i < D.R.length) (hB:p.n ≤ D.B.getD i 0) (hk:k < p.n) (hne:en D.R i k ≠ 0) :
  Vw p (Lp.piv T (ι.getD i 0) k) (pivZ D i k) ι∧p.Good (Lp.piv T (ι.getD i 0) k)∧Zero p (Lp.piv T (ι.getD i 0) k):=by
 have hkN:k < p.N:=by unfold Prog.N; omega
 have h0:T.b (ι.getD i 0) = 0:=hz _ (h.io hi) (by rw [← h.bas i hi]; exact hB)
 have he:T.e (ι.getD i 0) k ≠ 0:=fun e => hne ((h.sign hi hkN).2.mpr e)
 have hok:=ok_piv0 hg.ok (h.io hi) hkN he h0
 exact ⟨h.piv hg hw hi hkN hne hok (.inl hk),hg.piv0 (h.io hi) hkN he h0,hz.piv (h.io hi) h0 hk⟩
theorem getD_erase {α:Type} (d:α) (l:List α) (i j:Nat):(l.eraseIdx i).getD j d = l.getD (if j < i then j else j + 1) d:=by
 simp only [List.getD_eq_getElem?_getD,List.getElem?_eraseIdx]
 split <;> rfl
theorem leave_drop (h:Vw p T D ι) (hz:Zero p T) {i:Nat} (hi:i < D.R.length) (hB:p.n ≤ D.B.getD i 0) (hrow:∀ k,k < p.n→en D.R i k = 0) :
  Vw p T { D with R:=D.R.eraseIdx i,B:=D.B.eraseIdx i } (ι.eraseIdx i):=by
 have hl:(D.R.eraseIdx i).length = D.R.length - 1:=List.length_eraseIdx_of_lt hi
 have sh:∀ j,j < D.R.length - 1→(if j < i then j else j + 1) < D.R.length:=fun j hj => by split <;> omega
 have hent:∀ j k,en (D.R.eraseIdx i) j k = en D.R (if j < i then j else j + 1) k:=fun j k => by
  unfold en rw_
  rw [getD_erase]
 refine ⟨?_,?_,fun x hx => h.row x (List.mem_of_mem_eraseIdx hx),fun r hr => h.lt r (List.mem_of_mem_eraseIdx hr),h.nd.sublist (List.eraseIdx_sublist ..),fun j k hj hk => ?_,fun j hj => ?_,fun j hj => ?_,h.pos,h.det,fun r hr hn => ?_⟩
 ·show (ι.eraseIdx i).length = (D.R.eraseIdx i).length
  rw [hl,List.length_eraseIdx_of_lt (by rw [h.len]; exact hi),h.len]
 ·show (D.B.eraseIdx i).length = (D.R.eraseIdx i).length
  rw [hl,List.length_eraseIdx_of_lt (by rw [h.lenB]; exact hi),h.lenB]
 ·show (en (D.R.eraseIdx i) j k:Rat) = _
  rw [hent,getD_erase]
  exact h.ent _ k (sh j (by rw [← hl]; exact hj)) hk
 ·show (en (D.R.eraseIdx i) j p.N:Rat) = _
  rw [hent,getD_erase]
  exact h.rhs _ (sh j (by rw [← hl]; exact hj))
 ·show (D.B.eraseIdx i).getD j 0 = _
  rw [getD_erase,getD_erase]
  exact h.bas _ (sh j (by rw [← hl]; exact hj))
 ·by_cases hm:r ∈ ι
  ·obtain ⟨q,hq,rfl⟩:=mem_getD hm
   have hqi:q = i:=by
    refine Classical.byContradiction fun hne => hn ?_
    have hq':q < D.R.length:=by rw [← h.len]; exact hq
    have e:(ι.eraseIdx i).getD (if q < i then q else q - 1) 0 = ι.getD q 0:=by
     rw [getD_erase]
     by_cases hlt:q < i
     ·rw [if_pos hlt,if_pos hlt]
     ·rw [if_neg hlt,if_neg (by omega),show q - 1 + 1 = q by omega]
    rw [← e]
    refine getD_mem ?_
    rw [List.length_eraseIdx_of_lt (by rw [h.len]; exact hi),h.len]
    split <;> omega
   subst hqi
   have hB':p.n ≤ T.B (ι.getD q 0):=by rw [← h.bas q hi]; exact hB
   refine ⟨hB',hz _ hr hB',fun j hj => ?_⟩
   exact (h.sign hi (by unfold Prog.N; omega)).2.mp (hrow j hj)
  ·exact h.hid r hr hm
theorem leave_end (h:Vw p T D ι) (hB:∀ i,i < D.R.length→D.B.getD i 0 < p.n):p.Out T:=⟨fun r hr hn => by
 by_cases hm:r ∈ ι
 ·obtain ⟨i,hi,rfl⟩:=mem_getD hm
  rw [h.len] at hi
  have:=hB i hi
  rw [h.bas i hi] at this
  omega
 ·exact (h.hid r hr hm).2⟩
def oq (n:Nat) (c:Nat→Int) (q j:Nat):Int:=if q = 0 then (if j < n then c j else 0) else if j + 1 = q∧j < n then -1 else 0
theorem oq_C {c:Nat→Int} (hc:∀ j,j < p.n→p.c j = c j) (q:Nat):(fun j => ((oq p.n c q j:Int):Rat)) = p.C q:=by
 funext j
 unfold oq Prog.C
 split
 ·split
  ·rename_i hj; rw [hc j hj]
  ·rfl
 ·split <;> rfl
theorem fit2 (h:Vw p T D ι) {c:Nat→Int} {q:Nat} {fr:List Bool} (hfr:∀ j,fr.getD j false = true→j < p.n):Fit p T ι (oq p.n c q) fr :=
 ⟨fun r hr hn k _ _ => by
  have h1:=(h.hid r hr hn).1
  have:oq p.n c q (T.B r) = 0:=by
   unfold oq
   split
   ·rw [if_neg (by omega)]
   ·rw [if_neg (by omega)]
  rw [this]; grind,fun k hk => .inl (hfr k hk)⟩
theorem stage_run (hw:Whole p M) {c:Nat→Int} (hc:∀ j,j < p.n→p.c j = c j) {q:Nat} {v:Nat→Rat} {D D':TZ} {res:Bool} (hm:MaxZ p.N (oq p.n c q) D res D') (h:Vw p T D ι) (hg:p.Good T) (ho:p.Out T)
  (hs:p.Stage q v (fun j => D.fr.getD j false = true) T) (hlen:D.fr.length ≤ p.N) :
  ∃ T',Vw p T' D' ι∧p.Good T'∧p.Out T'∧D'.fr.length = D.fr.length∧((res = true∧p.Stage (q + 1) (fun i => if i = q then zz p.m T' (p.C q) else v i) (fun j => D'.fr.getD j false = true) T') ∨
   (res = false∧∃ s,s < p.n∧¬basic p.m T' s∧0 < gm p.m T' (p.C q) s∧∀ i,i < p.m→T'.e i s ≤ 0)):=by
 obtain ⟨D1,h1,h2⟩:=hm
 have hf:Fit p T ι (oq p.n c q) D.fr:=fit2 h fun j hj => hs.inn j hj
 obtain ⟨T1,k1,k2,k3,⟨k4,k6⟩,k5⟩:=h1.run hw h hg hf (Q:=fun T => p.Out T∧p.Stage q v (fun j => D.fr.getD j false = true) T) ⟨ho,hs⟩ (fun T T' _ hq hst => by
  refine ⟨?_,hq.2.step hst⟩
  obtain ⟨s,r,g1,g2,rfl⟩:=hst
  by_cases hB:T.B r < p.n
  ·exact hq.1.piv hB (hq.2.inn s g1.fr)
  ·have:=(hq.1.z r g2.lt (by omega)).2 s (hq.2.inn s g1.fr)
   have:=g2.pos
   grind)
 have hgain:∀ k,k < p.N→(0 < gainZ D1 (oq p.n c q) k ↔ 0 < gm p.m T1 (p.C q) k)∧(gainZ D1 (oq p.n c q) k < 0 ↔ gm p.m T1 (p.C q) k < 0):=fun k hk => by
  have:=gain_pos (o:=oq p.n c q) k1 hk fun r hr hn => by
   have h1:=(k1.hid r hr hn).1
   have:oq p.n c q (T1.B r) = 0:=by
    unfold oq
    split
    ·rw [if_neg (by omega)]
    ·rw [if_neg (by omega)]
   rw [this]; grind
  rw [oq_C hc] at this
  exact this
 have hN:∀ j,j < p.n→j < p.N:=fun j hj => by unfold Prog.N; omega
 refine ⟨T1,?_⟩
 rcases h2 with ⟨e,h2,fr,⟨hfl,hfr⟩,rfl⟩ | ⟨e,rfl,s,h3,h4⟩
 ·refine ⟨k1.frame fr,k2,k4,by show fr.length = _; rw [hfl,k5],.inl ⟨e,?_⟩⟩
  refine Prog.Stage.next (Fr':=fun j => fr.getD j false = true) k2 k4 k6 (fun j hj hfj hb hp => ?_) (fun j hj => ?_) (fun j hj => ?_)
  ·exact h2 j (hN j hj) (by rw [k5]; exact hfj) (fun hm => hb ((k1.mem (.inl hj)).mp hm)) ((hgain j (hN j hj)).1.mpr hp)
  ·rw [hfr j (hN j hj),k5,k1.mem (.inl hj),(hgain j (hN j hj)).2]
  ·by_cases hjN:j < p.N
   ·have:=((hfr j hjN).mp hj).1
    rw [k5] at this
    exact k6.inn j this
   ·exfalso
    have hj:fr.getD j false = true:=hj
    rw [List.getD_eq_getElem?_getD,List.getElem?_eq_none (by rw [hfl,k5]; omega)] at hj
    cases hj
 ·refine ⟨k1,k2,k4,by rw [k5],.inr ⟨e,s,?_⟩⟩
  have hs':s < p.n:=k6.inn s (by rw [← k5]; exact h3.fr)
  refine ⟨hs',fun hb => h3.non ((k1.mem (.inl hs')).mpr hb),(hgain s h3.lt).1.mp h3.pos,fun i hi => ?_⟩
  by_cases hm:i ∈ ι
  ·obtain ⟨q',hq,rfl⟩:=mem_getD hm
   rw [k1.len] at hq
   exact Rat.not_lt.mp fun hp => h4 q' hq ((k1.sign hq h3.lt).1.mpr hp)
  ·rw [(k1.hid i hi hm).2.2 s hs']; exact Rat.le_refl
theorem read (h:Vw p T D ι) (hg:p.Good T) {i:Nat} (hi:i < D.R.length):(en D.R i p.N:Rat) / D.by_ = bas p.m T (D.B.getD i 0):=by
 rw [h.rhs i hi,h.bas i hi,bas_B hg.ok (h.io hi)]
 have:=h.ne
 grind
theorem read_non (h:Vw p T D ι) {j:Nat} (hj:j < p.n) (hn:j ∉ D.B):bas p.m T j = 0:=bas_non fun hb => hn ((h.mem (.inl hj)).mpr hb)
end
end Go.Lp
namespace Go.Proofs.YtoccmbjfkbemcaaGreat
open Go Go.TV
theorem kn_hi {U V v1 top P g Vr Ur:Int} (hg:0 ≤ g) (hP:0 ≤ P) (hV:V = v1 * P + Vr) (hVr:0 ≤ Vr) (hU:U = top * P + Ur) (hUr:Ur < P) (h:top < (g + 1) * v1):U < (g + 1) * V:=by
 have h1:(top + 1) * P ≤ (g + 1) * v1 * P:=Int.mul_le_mul_of_nonneg_right (by omega) hP
 have h2:0 ≤ (g + 1) * Vr:=Int.mul_nonneg (by omega) hVr
 subst hV hU
 rw [Int.mul_add,← Int.mul_assoc]
 rw [Int.add_mul top] at h1
 omega
theorem kn_base {U V g B:Int} (hV:0 ≤ V) (h:U < V * B) (hg:B ≤ g):U < g * V:=by
 have:=Int.mul_le_mul_of_nonneg_right hg hV
 rw [Int.mul_comm V B] at h
 omega
theorem kn_two {U V v1 v2 top rest u2 P g B Vr Ur:Int} (hg:0 ≤ g) (hP:0 ≤ P) (hV:V = (v1 * B + v2) * P + Vr) (hVr:0 ≤ Vr) (hU:U = (top * B + u2) * P + Ur) (hUr:Ur < P) (hr:rest = top - g * v1) (h:rest * B + u2 < g * v2):U < g * V:=by
 have e:g * (v1 * B + v2) = g * v1 * B + g * v2:=by rw [Int.mul_add,Int.mul_assoc]
 have e2:rest * B = top * B - g * v1 * B:=by rw [hr,Int.sub_mul]
 have h1:(top * B + u2 + 1) * P ≤ g * (v1 * B + v2) * P:=Int.mul_le_mul_of_nonneg_right (by omega) hP
 have h2:0 ≤ g * Vr:=Int.mul_nonneg hg hVr
 subst hV hU
 rw [Int.mul_add,← Int.mul_assoc]
 rw [Int.add_mul (top * B + u2)] at h1
 omega
theorem kn_lo {U V v1 v2 top rest u2 P g B Vr Ur:Int} (hg:0 ≤ g) (hgB:g ≤ B) (hB:0 ≤ B) (hP:0 ≤ P) (hv1:1 ≤ v1) (hv2:0 ≤ v2) (hV:V = (v1 * B + v2) * P + Vr) (hVr:0 ≤ Vr) (hVP:Vr ≤ P) (hU:U = (top * B + u2) * P + Ur) (hUr:0 ≤ Ur) (hr:rest = top - g * v1) (h:g * v2 ≤ rest * B + u2):(g - 1) * V ≤ U:=by
 have e:g * (v1 * B + v2) = g * v1 * B + g * v2:=by rw [Int.mul_add,Int.mul_assoc]
 have e2:rest * B = top * B - g * v1 * B:=by rw [hr,Int.sub_mul]
 have h1:g * (v1 * B + v2) * P ≤ (top * B + u2) * P:=Int.mul_le_mul_of_nonneg_right (by omega) hP
 have h2:g * Vr ≤ B * P:=Int.le_trans (Int.mul_le_mul_of_nonneg_left hVP hg) (Int.mul_le_mul_of_nonneg_right hgB hP)
 have h3:1 * B ≤ v1 * B:=Int.mul_le_mul_of_nonneg_right hv1 hB
 have h4:B * P ≤ (v1 * B + v2) * P:=Int.mul_le_mul_of_nonneg_right (by omega) hP
 have e3:g * V = g * (v1 * B + v2) * P + g * Vr:=by rw [hV,Int.mul_add,Int.mul_assoc]
 rw [Int.sub_mul,Int.one_mul,e3]
 omega
theorem kn_cut {U V v1 v2 top rest u2 P g B Vr Ur:Int} (hg:0 ≤ g) (hgB:g ≤ B) (hB:0 ≤ B) (hP:0 ≤ P) (hv2:v2 < B) (hV:V = (v1 * B + v2) * P + Vr) (hVr:Vr ≤ P) (hU:U = (top * B + u2) * P + Ur) (hUr:0 ≤ Ur) (hu2:0 ≤ u2) (hr:rest = top - g * v1) (h:B ≤ rest):g * V ≤ U:=by
 have h1:v2 * P + P ≤ B * P:=by
  have:=Int.mul_le_mul_of_nonneg_right (c:=P) (show v2 + 1 ≤ B by omega) hP
  rw [Int.add_mul] at this; omega
 have h2:g * (v2 * P + Vr) ≤ B * (B * P):=Int.le_trans (Int.mul_le_mul_of_nonneg_left (show v2 * P + Vr ≤ B * P by omega) hg) (Int.mul_le_mul_of_nonneg_right hgB (Int.mul_nonneg hB hP))
 have h3:g * v1 * (B * P) ≤ (top - B) * (B * P):=Int.mul_le_mul_of_nonneg_right (by omega) (Int.mul_nonneg hB hP)
 have h4:0 ≤ u2 * P:=Int.mul_nonneg hu2 hP
 have e1:g * V = g * v1 * (B * P) + g * (v2 * P + Vr):=by rw [hV]; grind
 have e2:U = top * (B * P) + u2 * P + Ur:=by rw [hU]; grind
 rw [Int.sub_mul] at h3
 omega
theorem kn_digit {U V g:Int} (h1:U < (g + 1) * V) (h2:(g - 1) * V ≤ U):(0 ≤ U - g * V∧U - g * V < V)∨(U - g * V < 0∧0 ≤ U - (g - 1) * V∧U - (g - 1) * V < V):=by
 rw [Int.add_mul] at h1
 have e:(g - 1) * V = g * V - V:=by rw [Int.sub_mul]; omega
 rw [e] at h2 ⊢
 omega
theorem top_zero {lo t P X:Int} (hlo:0 ≤ lo) (hlo':lo < P) (h0:0 ≤ X) (h1:X < P) (e:X = lo + P * t):t = 0:=by
 have hP:0 < P:=by omega
 rcases Int.lt_trichotomy t 0 with h | h | h
 ·have:=Int.mul_le_mul_of_nonneg_left (show t ≤ -1 by omega) (Int.le_of_lt hP)
  omega
 ·exact h
 ·have:=Int.mul_le_mul_of_nonneg_left (show 1 ≤ t by omega) (Int.le_of_lt hP)
  omega
theorem top_neg {lo t P X:Int} (hlo:0 ≤ lo) (hlo':lo < P) (h0:-P ≤ X) (h1:X < 0) (e:X = lo + P * t):t = -1:=by
 have hP:0 < P:=by omega
 rcases Int.lt_trichotomy t (-1) with h | h | h
 ·have:=Int.mul_le_mul_of_nonneg_left (show t ≤ -2 by omega) (Int.le_of_lt hP)
  omega
 ·exact h
 ·have:=Int.mul_le_mul_of_nonneg_left (show 0 ≤ t by omega) (Int.le_of_lt hP)
  omega
theorem take_limb {u g n c:Int} (hu:0 ≤ u∧u < 1000000000) (hg:0 ≤ g∧g < 1000000000) (hn:0 ≤ n∧n < 1000000000) (hc:0 ≤ c∧c ≤ 1000000000) :
  -999999999000000001 ≤ u - g * n - c∧u - g * n - c < 1000000000∧0 ≤ g * n∧g * n ≤ 999999998000000001:=by
 have h1:g * n ≤ 999999999 * 999999999:=Int.le_trans (Int.mul_le_mul_of_nonneg_right (show g ≤ 999999999 by omega) hn.1) (Int.mul_le_mul_of_nonneg_left (by omega) (by decide))
 have h2:=Int.mul_nonneg hg.1 hn.1
 omega
theorem kn_scale {b1:Int} (h0:0 < b1) (h1:b1 < 1000000000):1 ≤ 1000000000 / (b1 + 1)∧1000000000 / (b1 + 1) * (b1 + 1) ≤ 1000000000∧500000000 ≤ b1 * (1000000000 / (b1 + 1))∧1000000000 / (b1 + 1) ≤ 500000000:=by
 have hq:1 ≤ 1000000000 / (b1 + 1):=(Int.le_ediv_iff_mul_le (by omega)).mpr (by omega)
 have hm:1000000000 / (b1 + 1) * (b1 + 1) ≤ 1000000000:=Int.ediv_mul_le _ (by omega)
 have hlt:=Int.lt_ediv_add_one_mul_self 1000000000 (show 0 < b1 + 1 by omega)
 refine ⟨hq,hm,?_,?_⟩
 ·generalize 1000000000 / (b1 + 1) = q at *
  have e1:q * (b1 + 1) = q * b1 + q:=by rw [Int.mul_add,Int.mul_one]
  have e2:(q + 1) * (b1 + 1) = q * b1 + q + b1 + 1:=by rw [Int.add_mul]; omega
  rw [Int.mul_comm b1 q]
  by_cases h:q ≤ b1
  ·have h3:1 * b1 ≤ q * b1:=Int.mul_le_mul_of_nonneg_right hq (by omega)
   by_cases h4:q + b1 + 1 ≤ 500000000
   ·omega
   ·by_cases h5:2 ≤ q
    ·have:2 * b1 ≤ q * b1:=Int.mul_le_mul_of_nonneg_right h5 (by omega)
     by_cases h6:250000000 ≤ b1
     ·omega
     ·omega
    ·have:q = 1:=by omega
     subst this; omega
  ·have h3:b1 * q ≥ b1 * (b1 + 1):=Int.mul_le_mul_of_nonneg_left (by omega) (by omega)
   have h7:1 * q ≤ b1 * q:=Int.mul_le_mul_of_nonneg_right (by omega) (by omega)
   rw [Int.mul_comm b1 q] at h7
   by_cases h5:2 ≤ b1
   ·have:q * 2 ≤ q * b1:=Int.mul_le_mul_of_nonneg_left h5 (by omega)
    omega
   ·have:b1 = 1:=by omega
    subst this; omega
 ·have:=Int.mul_le_mul_of_nonneg_left (show 2 ≤ b1 + 1 by omega) (show 0 ≤ 1000000000 / (b1 + 1) by omega)
  omega
end Go.Proofs.YtoccmbjfkbemcaaGreat
namespace Go.Proofs.YtoccmbjfkbemcaaGreat
open Go Go.TV
def convO:FuncId→Conv:=fun f => if f ∈ ([111,120]:List Nat) then .own else if f ∈ ([123,121,122]:List Nat) then .inl else .imm
abbrev topO:List Nat:=[108,111,120,123,121,122]
noncomputable def extO:Ext:=fun f => if f ∈ topO then none else some fun args σ nx => ev Tryz.prog conv ext f args σ nx
theorem extOOk:ExtOk Tryz.prog extO:=fun f g h args σ nx v σ' nx' hg => by
 unfold extO at h
 split at h
 ·cases h
 ·cases h
  exact ev_sound (by kernel_rfl) extOk f args σ nx v σ' nx' hg
theorem notO {f:FuncId} (h:List.contains topO f = false):¬f ∈ topO:=fun e => by
 rw [List.contains_iff_mem.mpr e] at h
 cases h
theorem fnO {f:FuncId} (h:List.contains topO f = false) (ts:List V):fn Tryz.prog convO extO f ts = fn Tryz.prog conv ext f ts:=by
 rw [fn_eq,fn_eq,ev_ext (g:=fun args σ nx => ev Tryz.prog conv ext f args σ nx) (by unfold extO; rw [if_neg (notO h)])]
theorem cvO {f:FuncId} (h:List.contains topO f = false):convO f = .imm:=by
 have ht:=notO h
 unfold convO
 simp only [topO,List.mem_cons,List.not_mem_nil,or_false,not_or] at ht
 simp only [List.mem_cons,List.not_mem_nil,or_false,ht,if_false]
theorem oO_times:convO 111 = .own:=id rfl
theorem oO_small:convO 120 = .own:=id rfl
theorem oO_trim:convO 123 = .inl:=id rfl
theorem oO_take:convO 121 = .inl:=id rfl
theorem oO_give:convO 122 = .inl:=id rfl
attribute [go_sem] fnO cvO oO_times oO_small oO_trim oO_take oO_give
theorem otrim {σ:Store} {nx b:Nat} {xs:List Int} (hb:σ b = some ⟨xs.flatMap cI,1,true⟩) (ha:Short xs):ev Tryz.prog convO extO 123 [.rs b 0 xs.length] σ nx = some (.rs b 0 (trimL xs).length,σ,nx):=by
 unfold Short at ha
 rw [ev_eqQ (rs:=[.tmp 2]) [] rfl Tryz.func123 rfl rfl (by kernel_rfl) (by kernel_rfl)]
 simp only [go_sem]
 generalize hL:evLoopI _ _ = y
 obtain ⟨r,rfl,T',rfl,hT'⟩:=loop_rule hL (fun k st => ∃ T,st = ⟨T,σ,nx⟩∧T 0 = .rs b 0 k∧k ≤ xs.length∧trimL (xs.take k) = trimL xs) (fun r => ∃ T,r = (.exit 0,⟨T,σ,nx⟩)∧T 0 = .rs b 0 (trimL xs).length) (by
  clear hL
  rintro k _ ⟨T,rfl,h0,hk,ht⟩
  cases k with
  | zero =>
   have f0:¬(0:Int) < 0:=by decide
   refine .inr ⟨_,by simp only [go_sem,h0,f0]; rfl,by simp,_,rfl,?_⟩
   simp only [go_sem,h0]
   rw [← ht]; rfl
  | succ k =>
   have hlt:k < xs.length:=by omega
   have f0:(0:Int) < ((k + 1:Nat):Int):=by omega
   have e5:((k + 1:Nat):Int) - 1 = (k:Int):=by omega
   have e2:=wrap_id (n:=(k:Int)) (by omega) (by omega)
   have f1:(0:Int) ≤ (k:Int):=by omega
   have f2:(k:Int) < ((k + 1:Nat):Int):=by omega
   have f6:=idx hlt
   have f7:k ≤ k + 1:=by omega
   have f8:k ≤ xs.length:=by omega
   rw [take_succ_get hlt,trim_snoc] at ht
   by_cases hx:xs[k] = 0
   ·have fx:(xs[k] == (0:Int)) = true:=by simpa using hx
    rw [if_pos hx] at ht
    refine .inl ⟨_,by simp only [go_sem,h0,hb,f0,e5,e2,f1,f2,f6,f7,f8,fx,Nat.zero_le]; rfl,k,by omega,_,rfl,?_,by omega,ht⟩
    simp only [go_sem]
   ·have fx:(xs[k] == (0:Int)) = false:=by simpa using hx
    rw [if_neg hx] at ht
    refine .inr ⟨_,by simp only [go_sem,h0,hb,f0,e5,e2,f1,f2,f6,f7,fx]; rfl,by simp,_,rfl,?_⟩
    simp only [go_sem]
    rw [h0,← ht]
    simp; omega) xs.length ⟨_,rfl,by simp only [go_sem],Nat.le_refl _,by rw [List.take_length]⟩
 simp only [go_sem,hT']
theorem otimes (m n:Nat) (hm:ln m ≤ 1000000) (hn:ln n ≤ 1000000) (zm:m ≠ 0) (zn:n ≠ 0) (nx:Nat):∃ σ1 P,ev Tryz.prog convO extO 111 [LI (dg m),LI (dg n)] noStore nx = some (.rs nx 0 (ln (m * n)),σ1,nx + 1)∧σ1 nx = some ⟨P.flatMap cI,1,true⟩∧P.length = ln m + ln n∧Dg P∧vl P = (m * n:Nat):=by
 unfold ln at hm hn
 rw [ev_eqQ (rs:=[.tmp 4]) [] rfl Tryz.func111 rfl rfl (by kernel_rfl) (by kernel_rfl)]
 have cm:((((dg m).length:Nat):Int) == 0) = false:=by rw [beq_eq_false_iff_ne]; have:=app_len (dg_ne zm); omega
 have cn:((((dg n).length:Nat):Int) == 0) = false:=by rw [beq_eq_false_iff_ne]; have:=app_len (dg_ne zn); omega
 have pn:0 < (dg n).length:=List.length_pos_iff.mpr (dg_ne zn)
 obtain ⟨e1,e2,e3⟩:=make_ok (k:=(dg m).length + (dg n).length) (by omega)
 have e0:((dg m).length:Int) + ((dg n).length:Int) = (((dg m).length + (dg n).length:Nat):Int):=by omega
 have e4:=wrap_id (n:=(((dg m).length + (dg n).length:Nat):Int)) (by omega) (by omega)
 simp only [go_sem,cm,cn,e0,e1,e2,e3,e4]
 generalize hL:evLoopI _ _ = y
 obtain ⟨r,rfl,T',σ',P,rfl,h5,hσ,hP,hd,hv⟩:=count_rule hL (dg m).length (fun k st => st.T 1 = LI (dg n)∧st.T 5 = .rs nx 0 ((dg m).length + (dg n).length)∧st.T 26 = LI (dg m)∧st.T 27 = I (dg m).length∧st.T 28 = I k∧st.nx = nx + 1∧∃ P,st.σ nx = some ⟨fil P ((dg m).length - k),1,true⟩∧P.length = k + (dg n).length∧Dg P∧vl P = vl ((dg m).take k) * n)
  (fun r => ∃ T σ P,r = (.exit 0,⟨T,σ,nx + 1⟩)∧T 5 = .rs nx 0 ((dg m).length + (dg n).length)∧σ nx = some ⟨P.flatMap cI,1,true⟩∧P.length = (dg m).length + (dg n).length∧Dg P∧vl P = (m * n:Nat)) (by
   clear hL
   rintro k ⟨T,σ,nx0⟩ hlt ⟨h1,h5,h26,h27,h28,hnx,P,hσ,hP,hd,hv⟩
   simp only at h1 h5 h26 h27 h28 hnx hσ
   subst hnx
   have f1:(k:Int) < ((dg m).length:Int):=by omega
   have f2:(0:Int) ≤ (k:Int):=by omega
   have f3:=wrap_id (n:=(k:Int) + 1) (by omega) (by omega)
   have f5:=slot_ne (c:=cI) (s:=1) (fun _ => rfl) (by omega) (dg m) k hlt
   have f6:=idx hlt
   obtain ⟨x,hx⟩:∃ x,x = (dg m)[k]:=⟨_,rfl⟩
   have xr:=(dg_Dg m).get hlt
   rw [← hx] at f6 xr
   have v1:=vl_take_succ hlt
   rw [← hx] at v1
   obtain ⟨g,hg⟩:∃ g,(dg m).length - k = g + 1:=⟨(dg m).length - k - 1,by omega⟩
   have hg':(dg m).length - (k + 1) = g:=by omega
   rw [hg] at hσ
   refine step_of ?_
   conv =>
    enter [1,r,1,1]
    simp only [go_sem,h1,h5,h26,h27,h28,f1,f2,f5,f6]
   generalize hL:evLoopI _ _ = z
   obtain ⟨r,rfl,T',σ',c,W,rfl,h1,h5,h6,h8,h26,h27,h28,hσ,hW,hd,hv,hc0,hc1⟩:=count_rule hL (dg n).length (fun j st => st.T 1 = LI (dg n)∧st.T 5 = .rs nx 0 ((dg m).length + (dg n).length)∧st.T 6 = I k∧st.T 7 = I x∧st.T 26 = LI (dg m)∧st.T 27 = I (dg m).length∧st.T 28 = I k∧st.T 33 = LI (dg n)∧st.T 34 = I (dg n).length∧st.T 35 = I j∧st.nx = nx + 1∧∃ c W,st.T 8 = I c∧st.σ nx = some ⟨fil W (g + 1),1,true⟩∧W.length = k + (dg n).length∧Dg W∧vl W + bp (k + j) * c = vl ((dg m).take k) * n + bp k * (x * vl ((dg n).take j))∧0 ≤ c∧c < 1000000000)
    (fun r => ∃ T σ c W,r = (.exit 2,⟨T,σ,nx + 1⟩)∧T 1 = LI (dg n)∧T 5 = .rs nx 0 ((dg m).length + (dg n).length)∧T 6 = I k∧T 8 = I c∧T 26 = LI (dg m)∧T 27 = I (dg m).length∧T 28 = I k∧σ nx = some ⟨fil W (g + 1),1,true⟩∧W.length = k + (dg n).length∧Dg W∧vl W + bp (k + (dg n).length) * c = vl ((dg m).take k) * n + bp k * (x * n)∧0 ≤ c∧c < 1000000000) (by
     clear hL
     rintro j ⟨T,σ,nx0⟩ hj ⟨h1,h5,h6,h7,h26,h27,h28,h33,h34,h35,hnx,c,W,h8,hσ,hW,hd,hv,hc0,hc1⟩
     simp only at h1 h5 h6 h7 h8 h26 h27 h28 h33 h34 h35 hnx hσ
     subst hnx
     have g1:(j:Int) < ((dg n).length:Int):=by omega
     have g2:(0:Int) ≤ (j:Int):=by omega
     have g3:=wrap_id (n:=(j:Int) + 1) (by omega) (by omega)
     have g5:=slot_ne (c:=cI) (s:=1) (fun _ => rfl) (by omega) (dg n) j hj
     have g6:=idx hj
     obtain ⟨b,hb⟩:∃ b,b = (dg n)[j]:=⟨_,rfl⟩
     have br:=(dg_Dg n).get hj
     rw [← hb] at g6 br
     have v2:=vl_take_succ hj
     rw [← hb] at v2
     have p0:(k:Int) + (j:Int) = ((k + j:Nat):Int):=by omega
     have p1:=wrap_id (n:=((k + j:Nat):Int)) (by omega) (by omega)
     have p2:(0:Int) ≤ ((k + j:Nat):Int):=by omega
     have p3:((k + j:Nat):Int) < (((dg m).length + (dg n).length:Nat):Int):=by omega
     have p4:k + j < W.length:=by omega
     have p5:=fil_get (o:=W) (g + 1) p4
     have p6:k + j < (fil W (g + 1)).length:=by rw [fil_len]; omega
     obtain ⟨w,hw⟩:∃ w,w = W[k + j]:=⟨_,rfl⟩
     have wr:=hd.get p4
     rw [← hw] at p5 wr
     have mm:=mul_lt9 (x:=x) (y:=b) (c:=c) (w:=w) xr br ⟨hc0,hc1⟩ wr
     have w1:=wrap_id (n:=x * b) (by omega) (by omega)
     have w2:=wrap_id (n:=w + x * b) (by omega) (by omega)
     have w3:=wrap_id (n:=w + x * b + c) (by omega) (by omega)
     obtain ⟨q1,q2⟩:=tdivmod (n:=w + x * b + c) (by omega)
     have w4:=wrap_id (n:=(w + x * b + c) / 1000000000) (by omega) (by omega)
     have c6:=fil_set_in (g + 1) ((w + x * b + c) % 1000000000) p4
     have vs:=vl_set p4 ((w + x * b + c) % 1000000000)
     rw [← hw] at vs
     refine .inl ⟨_,by simp only [go_sem,h1,h5,h6,h7,h8,h26,h27,h28,h33,h34,h35,hσ,g1,g2,g3,g5,g6,p0,p1,p2,p3,p5,p6,w1,w2,w3,w4,q1,q2,c6]; rfl,?_⟩
     simp only [go_sem,h1,h5,h6,h7,h26,h27,h28,h33,h34]
     refine ⟨rfl,_,_,rfl,rfl,by rw [List.length_set]; exact hW,hd.set _ (by omega) (by omega),?_,by omega,by omega⟩
     rw [vs,show k + (j + 1) = k + j + 1 by omega,bp_succ,mul_inner (c:=c) (x:=x) (b:=b) (by omega) hv (.inr trivial),v2,bp_add]
     grind) (by
     clear hL
     rintro ⟨T,σ,nx0⟩ ⟨h1,h5,h6,h7,h26,h27,h28,h33,h34,h35,hnx,c,W,h8,hσ,hW,hd,hv,hc0,hc1⟩
     simp only at h1 h5 h6 h7 h8 h26 h27 h28 h33 h34 h35 hnx hσ
     subst hnx
     rw [List.take_length,vl_dg] at hv
     refine ⟨_,by simp only [go_sem,h34,h35,Int.lt_irrefl]; rfl,by simp,_,_,c,W,rfl,?_⟩
     simp only [go_sem,h1,h5,h6,h8,h26,h27,h28]
     exact ⟨hσ,hW,hd,hv,hc0,hc1⟩) (by
     simp only [go_sem,h1,h5,h26,h27,h28]
     exact ⟨0,P,rfl,hσ,hP,hd,by rw [Int.mul_zero,hv]; simp [vl],Int.le_refl _,by decide⟩)
   have p0:(k:Int) + ((dg n).length:Int) = ((k + (dg n).length:Nat):Int):=by omega
   have p1:=wrap_id (n:=((k + (dg n).length:Nat):Int)) (by omega) (by omega)
   have p2:(0:Int) ≤ ((k + (dg n).length:Nat):Int):=by omega
   have p3:((k + (dg n).length:Nat):Int) < (((dg m).length + (dg n).length:Nat):Int):=by omega
   have p6:k + (dg n).length < (fil W (g + 1)).length:=by rw [fil_len]; omega
   have c6:=fil_set W g c hW
   refine ⟨_,by simp only [go_sem,h1,h5,h6,h8,h26,h27,h28,hσ,f3,p0,p1,p2,p3,p6,c6]; rfl,.inl ⟨_,rfl,?_⟩⟩
   simp only [go_sem,h1,h5,h26,h27,hg']
   refine ⟨rfl,_,rfl,by simp [hW]; omega,hd.snoc hc0 hc1,?_⟩
   rw [vl_snoc,hW,hv,v1]
   grind) (by
   clear hL
   rintro ⟨T,σ,nx0⟩ ⟨h1,h5,h26,h27,h28,hnx,P,hσ,hP,hd,hv⟩
   simp only at h1 h5 h26 h27 h28 hnx hσ
   subst hnx
   rw [Nat.sub_self,fil_full] at hσ
   refine ⟨_,by simp only [go_sem,h27,h28,Int.lt_irrefl]; rfl,by simp,_,_,P,rfl,by simp only [go_sem,h5],hσ,hP,hd,?_⟩
   rw [hv,List.take_length,vl_dg,Int.natCast_mul]) (by
   simp only [go_sem]
   refine ⟨List.replicate (dg n).length 0,?_,by simp,fun x hx => by rw [List.mem_replicate] at hx; omega,(vl_rep _).trans (by simp [vl])⟩
   congr 2
   unfold fil
   rw [show List.flatMap cI (List.replicate (dg n).length 0) = rep (dg n).length [I 0] by unfold rep; rw [List.flatMap_replicate]]
   unfold rep
   rw [← List.flatten_append,List.replicate_append_replicate,Nat.add_comm])
 have ht:=otrim (σ:=σ') (nx:=nx + 1) (b:=nx) (xs:=P) hσ (by unfold Short; omega)
 rw [trim_vl' hd hv,hP] at ht
 refine ⟨σ',P,by simp only [go_sem,call_inl,h5,ht]; rfl,hσ,hP,hd,hv⟩
theorem osmall (n d:Nat) (hl:(dg n).length ≤ 1000000) (h0:d ≠ 0) (hd:d < 1000000000) (nx:Nat):∃ σ1,ev Tryz.prog convO extO 120 [LI (dg n),I d] noStore nx = some (.tup [.rs nx 0 (ln (n / d)),I (n % d:Nat)],σ1,nx + 1)∧σ1 nx = some ⟨(pad (n / d) (dg n).length).flatMap cI,1,true⟩:=by
 have e1:(8:Int) * ((dg n).length:Int) ≤ 281474976710656:=by omega
 have e2:((dg n).length:Int) ≤ 9223372036854775807:=by omega
 have e3:(0:Int) ≤ ((dg n).length:Int):=by omega
 have e4:=wrap_id (n:=((dg n).length:Int) - 1) (by omega) (by omega)
 rw [ev_eqQ (rs:=[.tmp 4,.tmp 5]) [7] rfl Tryz.func120 rfl rfl (by kernel_rfl) (by kernel_rfl)]
 simp only [go_sem,e1,e2,e3,e4]
 generalize hL:evLoopI _ _ = y
 obtain ⟨r,rfl,T',σ',rfl,h6,h7,hσ⟩:=loop_rule hL (fun m st => st.T 0 = LI (dg n)∧st.T 1 = I d∧st.T 6 = .rs nx 0 (dg n).length∧st.T 8 = I ((m:Int) - 1)∧st.T 7 = I (n / 1000000000 ^ m % d:Nat)∧m ≤ (dg n).length∧st.nx = nx + 1∧st.σ nx = some ⟨rep m [I 0] ++ ((pad (n / d) (dg n).length).drop m).flatMap cI,1,true⟩)
  (fun r => ∃ T σ,r = (.exit 0,⟨T,σ,nx + 1⟩)∧T 6 = .rs nx 0 (dg n).length∧T 7 = I (n % d:Nat)∧σ nx = some ⟨(pad (n / d) (dg n).length).flatMap cI,1,true⟩) (by
   clear hL
   rintro m ⟨T,σ,nx0⟩ ⟨t0,t1,t6,t8,t7,hm,hnx,hσ⟩
   simp only at t0 t1 t6 t8 t7 hnx hσ
   subst hnx
   have hnx:nx < nx + 1:=by omega
   cases m with
   | zero =>
    have f0':¬(0:Int) ≤ 0 - 1:=by omega
    rw [Nat.pow_zero,Nat.div_one] at t7
    refine .inr ⟨_,by simp only [go_sem,t8,f0']; rfl,by simp,_,_,rfl,by simp only [go_sem,t6],by simp only [go_sem,t7],?_⟩
    rw [hσ,List.drop_zero]; rfl
   | succ m =>
    have hlt:m < (dg n).length:=by omega
    have e5:((m + 1:Nat):Int) - 1 = (m:Int):=by omega
    rw [e5] at t8
    have f0:(0:Int) ≤ (m:Int):=by omega
    have f3:(m:Int) < ((dg n).length:Int):=by omega
    have f5:=slot_ne (c:=cI) (s:=1) (fun _ => rfl) (by omega) (dg n) m hlt
    have f6:=idx hlt
    rw [dg_get hlt] at f6
    have hdg:=dg_shift n m
    have hpd:=pad_drop (n:=n / d) (k:=(dg n).length) hlt
    have hq:n / d / 1000000000 ^ m = n / 1000000000 ^ m / d:=by rw [Nat.div_div_eq_div_mul,Nat.div_div_eq_div_mul,Nat.mul_comm]
    rw [hq] at hpd
    have hle:n / 1000000000 ^ m ≤ n:=Nat.div_le_self _ _
    obtain ⟨u,hu⟩:∃ u,n / 1000000000 ^ (m + 1) = u:=⟨_,rfl⟩
    obtain ⟨w,hw0⟩:∃ w,n / 1000000000 ^ m = w:=⟨_,rfl⟩
    rw [hu] at t7
    rw [hu,hw0] at hdg
    rw [hw0] at f6 hpd hle
    have hw:w % 1000000000 < 1000000000:=Nat.mod_lt _ (by decide)
    have hr:u % d < d:=Nat.mod_lt _ (by omega)
    have hx:u % d * 1000000000 + w % 1000000000 < d * 1000000000:=by omega
    have hwu:w = d * 1000000000 * (u / d) + (u % d * 1000000000 + w % 1000000000):=by
     have:=Nat.div_add_mod u d
     have h3:d * (u / d) * 1000000000 = d * 1000000000 * (u / d):=by rw [Nat.mul_right_comm]
     omega
    obtain ⟨x,hxx⟩:∃ x,u % d * 1000000000 + w % 1000000000 = x:=⟨_,rfl⟩
    rw [hxx] at hwu hx
    have hdq:w / d % 1000000000 = x / d:=by
     have h1:w / d = 1000000000 * (u / d) + x / d:=by
      rw [hwu,Nat.mul_assoc,Nat.add_comm,Nat.add_mul_div_left _ _ (by omega),Nat.add_comm]
     have h2:x / d < 1000000000:=Nat.div_lt_of_lt_mul hx
     rw [h1]
     generalize x / d = q at h2 ⊢
     generalize u / d = p
     omega
    have hdr:w % d = x % d:=by
     rw [hwu,Nat.mul_assoc,Nat.add_comm,Nat.add_mul_mod_self_left]
    have f7:=wrap_id (n:=(m:Int) - 1) (by omega) (by omega)
    have f8:=wrap_id (n:=((u % d:Nat):Int) * 1000000000) (by omega) (by omega)
    have g9:((u % d:Nat):Int) * 1000000000 + ((w % 1000000000:Nat):Int) = (x:Int):=by omega
    have f9:=wrap_id (n:=(x:Int)) (by omega) (by omega)
    have c1:¬(d:Int) = 0:=by omega
    have c2:(x:Int).tdiv (d:Int) = ((x / d:Nat):Int):=by rw [Int.tdiv_eq_ediv_of_nonneg (by omega)]; rfl
    have c3:(x:Int).tmod (d:Int) = ((x % d:Nat):Int):=by rw [Int.tmod_eq_emod_of_nonneg (by omega)]; rfl
    have hxd:x / d ≤ x:=Nat.div_le_self _ _
    have c4:=wrap_id (n:=((x / d:Nat):Int)) (by omega) (by omega)
    have c5:m < (rep (m + 1) [I 0] ++ ((pad (n / d) (dg n).length).drop (m + 1)).flatMap cI).length:=by rw [List.length_append,rep_len]; simp; omega
    have c6:=rep_set m (I 0) (I (x / d:Nat)) (((pad (n / d) (dg n).length).drop (m + 1)).flatMap cI)
    refine .inl ⟨_,by simp only [go_sem,t0,t1,t6,t8,t7,hσ,f0,f3,f5,f6,f7,f8,f9,g9,c1,c2,c3,c4,c5,c6,hnx]; rfl,m,by omega,?_⟩
    simp only [go_sem,t0,t1,t6]
    refine ⟨by rw [hw0,hdr],by omega,?_⟩
    rw [hpd,hdq]; rfl) (dg n).length ⟨by simp only [go_sem],by simp only [go_sem],by simp only [go_sem],by simp only [go_sem],by simp only [go_sem,dg_end,Nat.zero_mod],Nat.le_refl _,by simp only [go_sem],by simp only [go_sem]; rw [List.drop_of_length_le (by rw [pad_len]; exact Nat.le_refl _)]; simp⟩
 have pl:(pad (n / d) (dg n).length).length = (dg n).length:=pad_len _ _
 have ht:=otrim (σ:=σ') (nx:=nx + 1) (b:=nx) (xs:=pad (n / d) (dg n).length) hσ (by unfold Short; omega)
 rw [trim_pad _ _ (Nat.lt_of_le_of_lt (Nat.div_le_self _ _) (by
   have:=dg_end n
   exact (Nat.div_eq_zero_iff_lt (Nat.pow_pos (by decide))).mp this)),pl] at ht
 refine ⟨σ',by simp only [go_sem,call_inl,h6,h7,ht]; rfl,hσ⟩
end Go.Proofs.YtoccmbjfkbemcaaGreat
namespace Go.Proofs.YtoccmbjfkbemcaaGreat
open Go Go.TV
theorem upd_self {σ:Store} {b:Nat} {B:Option Blk} (h:σ b = B):upd σ b B = σ:=by
 funext i
 unfold upd
 split
 ·rename_i e; subst e; exact h.symm
 ·rfl
def lay (U:List Int) (j:Nat) (o:List Int):List Int:=U.take j ++ (o ++ U.drop (j + o.length))
theorem lay_len {U:List Int} {j:Nat} {o:List Int} (h:j + o.length ≤ U.length):(lay U j o).length = U.length:=by
 unfold lay
 simp only [List.length_append,List.length_take,List.length_drop]; omega
theorem lay_nil (U:List Int) (j:Nat):lay U j [] = U:=by unfold lay; simp
theorem lay_get {U:List Int} {j k:Nat} {o:List Int} (ho:o.length = k) (h:j + k < U.length):(lay U j o)[j + k]'(by rw [lay_len (by omega)]; exact h) = U[j + k]:=by
 subst ho
 have e:(lay U j o)[j + o.length]? = U[j + o.length]?:=by
  unfold lay
  rw [List.getElem?_append_right (by simp; omega),List.getElem?_append_right (by simp; omega),List.getElem?_drop]
  congr 1
  simp; omega
 rw [List.getElem?_eq_getElem (by rw [lay_len (by omega)]; exact h),List.getElem?_eq_getElem h] at e
 exact Option.some.inj e
theorem lay_set {U:List Int} {j k:Nat} {o:List Int} (ho:o.length = k) (h:j + k < U.length) (y:Int):(lay U j o).set (j + k) y = lay U j (o ++ [y]):=by
 subst ho
 unfold lay
 rw [List.set_append_right _ _ (by simp; omega),List.set_append_right _ _ (by simp; omega)]
 have e1:j + o.length - (U.take j).length - o.length = 0:=by simp; omega
 rw [e1,List.drop_eq_getElem_cons h,List.set_cons_zero]
 simp only [List.length_append,List.length_singleton,List.append_assoc,List.singleton_append]
 rw [show j + (o.length + 1) = j + o.length + 1 by omega]
theorem take_step {lo c g x n v:Int} {P:Int} {x' c':Int} (hx:x' = x - c + 1000000000 * c') (hv:lo + P * (-c) = v):lo + P * x' + 1000000000 * P * (-c') = v + P * x:=by
 subst hx
 rw [← hv]; grind
theorem otake {σ:Store} {nx bu bv:Nat} {U W:List Int} {j n:Nat} {g:Int} {L:Nat} {B:Blk} (hL0:n < L) (hu:σ bu = some ⟨U.flatMap cI,1,true⟩) (hv:σ bv = some B) (hne:bu ≠ bv) (hW:∀ k (h:k < W.length),B.cells[k]? = some (I W[k])) (hn:W.length = n)
  (hj:j + n < U.length) (hl:U.length ≤ 3000000) (dU:Dg U) (dW:Dg W) (hg:0 ≤ g∧g < 1000000000) :
  ∃ lo t,ev Tryz.prog convO extO 121 [.rs bu j L,.rs bv 0 n,I g] σ nx = some (Bo (decide (t < 0)),upd σ bu (some ⟨(lay U j (lo ++ [t])).flatMap cI,1,true⟩),nx)∧lo.length = n∧Dg lo∧vl lo + bp n * t = vl ((U.drop j).take n) + bp n * U[j + n] - g * vl W∧-1000000000 ≤ t∧t ≤ 1000000000:=by
 have ubv:∀ (x:Option Blk),upd σ bu x bv = some B:=fun x => by rw [upd_ne _ _ (Ne.symm hne)]; exact hv
 have ubu:∀ (x:Option Blk),upd σ bu x bu = x:=fun x => upd_same _ _ _
 rw [ev_eqQ (rs:=[.tmp 6]) [] rfl Tryz.func121 rfl rfl (by kernel_rfl) (by kernel_rfl)]
 simp only [go_sem]
 generalize hL:evLoopI _ _ = y
 obtain ⟨r,rfl,T',lo,c,rfl,h0,h1,h7,hlo,dlo,hval,hc⟩:=count_rule hL n (fun k st => st.T 0 = .rs bu j L∧st.T 1 = .rs bv 0 n∧st.T 2 = I g∧st.T 11 = .rs bv 0 n∧st.T 12 = I n∧st.T 13 = I k∧st.nx = nx∧∃ lo c,st.T 7 = I c∧st.σ = upd σ bu (some ⟨(lay U j lo).flatMap cI,1,true⟩)∧lo.length = k∧Dg lo∧vl lo + bp k * (-c) = vl ((U.drop j).take k) - g * vl (W.take k)∧0 ≤ c∧c ≤ 1000000000)
  (fun r => ∃ T lo c,r = (.exit 0,⟨T,upd σ bu (some ⟨(lay U j lo).flatMap cI,1,true⟩),nx⟩)∧T 0 = .rs bu j L∧T 1 = .rs bv 0 n∧T 7 = I c∧lo.length = n∧Dg lo∧vl lo + bp n * (-c) = vl ((U.drop j).take n) - g * vl W∧0 ≤ c∧c ≤ 1000000000) (by
   clear hL
   rintro k ⟨T,σ',nx'⟩ hlt ⟨h0,h1,h2,h11,h12,h13,hnx,lo,c,h7,hσ,hlo,dlo,hval,hc0,hc1⟩
   simp only at h0 h1 h2 h7 h11 h12 h13 hnx hσ
   subst hnx hσ
   have f1:(k:Int) < (n:Int):=by omega
   have f2:(0:Int) ≤ (k:Int):=by omega
   have f3:=wrap_id (n:=(k:Int) + 1) (by omega) (by omega)
   have hkW:k < W.length:=by omega
   have hcell:=hW k hkW
   obtain ⟨m,hm⟩:∃ m,m = W[k]:=⟨_,rfl⟩
   have mr:=dW.get hkW
   rw [← hm] at hcell mr
   have hjk:j + k < U.length:=by omega
   have f4:(k:Int) < (L:Int):=by omega
   obtain ⟨u,huu⟩:∃ u,u = U[j + k]:=⟨_,rfl⟩
   have ur:=dU.get hjk
   have ucell:=idx (xs:=lay U j lo) (k:=j + k) (by rw [lay_len (by omega)]; exact hjk)
   rw [lay_get hlo hjk] at ucell
   rw [← huu] at ur ucell
   have c5:j + k < (lay U j lo).length:=by rw [lay_len (by omega)]; exact hjk
   have v1:vl ((U.drop j).take (k + 1)) = vl ((U.drop j).take k) + bp k * u:=by
    rw [vl_take_succ (by rw [List.length_drop]; omega),List.getElem_drop,huu]
   have v2:vl (W.take (k + 1)) = vl (W.take k) + bp k * m:=by rw [vl_take_succ hkW,hm]
   obtain ⟨q1,q2,q3,q4⟩:=take_limb ur hg mr ⟨hc0,hc1⟩
   have w1:=wrap_id (n:=g * m) (by omega) (by omega)
   have w2:=wrap_id (n:=u - g * m) (by omega) (by omega)
   have w3:=wrap_id (n:=u - g * m - c) (by omega) (by omega)
   have fin:∀ x' c':Int,x' = (u - g * m) - c + 1000000000 * c'→vl lo + bp k * x' + bp (k + 1) * (-c') = vl ((U.drop j).take (k + 1)) - g * vl (W.take (k + 1)):=fun x' c' hx => by
    rw [bp_succ,take_step (c:=c) (g:=g) (n:=m) hx hval,v1,v2]
    grind
   by_cases hneg:u - g * m - c < 0
   ·obtain ⟨x,hxx⟩:∃ x,x = u - g * m - c:=⟨_,rfl⟩
    rw [← hxx] at hneg q1 q2 w3
    have w4:=wrap_id (n:=999999999 - x) (by omega) (by omega)
    have t1:(999999999 - x).tdiv 1000000000 = (999999999 - x) / 1000000000:=Int.tdiv_eq_ediv_of_nonneg (by omega)
    have w5:=wrap_id (n:=(999999999 - x) / 1000000000) (by omega) (by omega)
    have w6:=wrap_id (n:=(999999999 - x) / 1000000000 * 1000000000) (by omega) (by omega)
    have w7:=wrap_id (n:=x + (999999999 - x) / 1000000000 * 1000000000) (by omega) (by omega)
    have c6:=cI_set (lay U j lo) (j + k) (x + (999999999 - x) / 1000000000 * 1000000000)
    rw [lay_set hlo hjk] at c6
    refine .inl ⟨_,by simp only [go_sem,h0,h1,h2,h7,h11,h12,h13,ubv,ubu,hcell,ucell,f1,f2,f3,f4,c5,w1,w2,← hxx,w3,hneg,w4,t1,w5,w6,w7,billion,c6,upd_upd]; rfl,?_⟩
    simp only [go_sem,h0,h1,h2,h11,h12]
    refine ⟨rfl,_,_,rfl,rfl,by simp [hlo],dlo.snoc (by omega) (by omega),?_,by omega,by omega⟩
    rw [vl_snoc,hlo]
    exact fin _ _ (by omega)
   ·have c6:=cI_set (lay U j lo) (j + k) (u - g * m - c)
    rw [lay_set hlo hjk] at c6
    refine .inl ⟨_,by simp only [go_sem,h0,h1,h2,h7,h11,h12,h13,ubv,ubu,hcell,ucell,f1,f2,f3,f4,c5,w1,w2,w3,hneg,c6,upd_upd]; rfl,?_⟩
    simp only [go_sem,h0,h1,h2,h11,h12]
    refine ⟨rfl,_,_,rfl,rfl,by simp [hlo],dlo.snoc (by omega) (by omega),?_,by omega,by omega⟩
    rw [vl_snoc,hlo]
    exact fin _ 0 (by omega)) (by
   clear hL
   rintro ⟨T,σ',nx'⟩ ⟨h0,h1,h2,h11,h12,h13,hnx,lo,c,h7,hσ,hlo,dlo,hval,hc0,hc1⟩
   simp only at h0 h1 h2 h7 h11 h12 h13 hnx hσ
   subst hnx hσ
   rw [List.take_of_length_le (l:=W) (by omega)] at hval
   refine ⟨_,by simp only [go_sem,h12,h13,Int.lt_irrefl]; rfl,by simp,_,lo,c,rfl,by simp only [go_sem,h0],by simp only [go_sem,h1],by simp only [go_sem,h7],hlo,dlo,hval,hc0,hc1⟩) (by
   simp only [go_sem]
   exact ⟨[],0,rfl,by rw [lay_nil,upd_self hu],rfl,Dg.nil,by simp [vl],Int.le_refl _,by decide⟩)
 have f1:(0:Int) ≤ (n:Int):=by omega
 have f2:(n:Int) < (L:Int):=by omega
 have ucell:=idx (xs:=lay U j lo) (k:=j + n) (by rw [lay_len (by omega)]; exact hj)
 rw [lay_get hlo hj] at ucell
 have c5:j + n < (lay U j lo).length:=by rw [lay_len (by omega)]; exact hj
 have ur:=dU.get hj
 have w1:=wrap_id (n:=U[j + n] - c) (by omega) (by omega)
 have c6:=cI_set (lay U j lo) (j + n) (U[j + n] - c)
 rw [lay_set hlo hj] at c6
 have c7:=idx (xs:=lay U j (lo ++ [U[j + n] - c])) (k:=j + n) (by rw [lay_len (by simp; omega)]; exact hj)
 have e7:(lay U j (lo ++ [U[j + n] - c]))[j + n]'(by rw [lay_len (by simp; omega)]; exact hj) = U[j + n] - c:=by
  have:(lay U j (lo ++ [U[j + n] - c]))[j + n]? = some (U[j + n] - c):=by
   rw [← lay_set hlo hj,List.getElem?_set_self (by rw [lay_len (by omega)]; exact hj)]
  rw [List.getElem?_eq_getElem (by rw [lay_len (by simp; omega)]; exact hj)] at this
  exact Option.some.inj this
 rw [e7] at c7
 refine ⟨lo,U[j + n] - c,by simp only [go_sem,h0,h1,h7,ubv,ubu,f1,f2,ucell,c5,w1,c6,c7,upd_upd],hlo,dlo,?_,by omega,by omega⟩
 rw [Int.mul_sub]
 have:bp n * -c = -(bp n * c):=by rw [Int.mul_neg]
 omega
theorem ogive {σ:Store} {nx bu bv:Nat} {U W:List Int} {j n:Nat} {t:Int} {L:Nat} {B:Blk} (hL0:n < L) (hu:σ bu = some ⟨U.flatMap cI,1,true⟩) (hv:σ bv = some B) (hne:bu ≠ bv) (hW:∀ k (h:k < W.length),B.cells[k]? = some (I W[k])) (hn:W.length = n)
  (hj:j + n < U.length) (hl:U.length ≤ 3000000) (dU:∀ k (h:k < U.length),k < j + n→0 ≤ U[k]∧U[k] < 1000000000) (hU:U[j + n] = t) (ht:-1000000000 ≤ t∧t ≤ 1000000000) (dW:Dg W) :
  ∃ lo c,ev Tryz.prog convO extO 122 [.rs bu j L,.rs bv 0 n] σ nx = some (.tup [],upd σ bu (some ⟨(lay U j (lo ++ [t + c])).flatMap cI,1,true⟩),nx)∧lo.length = n∧Dg lo∧vl lo + bp n * c = vl ((U.drop j).take n) + vl W∧0 ≤ c∧c ≤ 1:=by
 have ubv:∀ (x:Option Blk),upd σ bu x bv = some B:=fun x => by rw [upd_ne _ _ (Ne.symm hne)]; exact hv
 have ubu:∀ (x:Option Blk),upd σ bu x bu = x:=fun x => upd_same _ _ _
 rw [ev_eqQ (rs:=[]) [] rfl Tryz.func122 rfl rfl (by kernel_rfl) (by kernel_rfl)]
 simp only [go_sem]
 generalize hL:evLoopI _ _ = y
 obtain ⟨r,rfl,T',lo,c,rfl,h0,h1,h4,hlo,dlo,hval,hc⟩:=count_rule hL n (fun k st => st.T 0 = .rs bu j L∧st.T 1 = .rs bv 0 n∧st.T 8 = .rs bv 0 n∧st.T 9 = I n∧st.T 10 = I k∧st.nx = nx∧∃ lo c,st.T 4 = I c∧st.σ = upd σ bu (some ⟨(lay U j lo).flatMap cI,1,true⟩)∧lo.length = k∧Dg lo∧vl lo + bp k * c = vl ((U.drop j).take k) + vl (W.take k)∧0 ≤ c∧c ≤ 1)
  (fun r => ∃ T lo c,r = (.exit 0,⟨T,upd σ bu (some ⟨(lay U j lo).flatMap cI,1,true⟩),nx⟩)∧T 0 = .rs bu j L∧T 1 = .rs bv 0 n∧T 4 = I c∧lo.length = n∧Dg lo∧vl lo + bp n * c = vl ((U.drop j).take n) + vl W∧0 ≤ c∧c ≤ 1) (by
   clear hL
   rintro k ⟨T,σ',nx'⟩ hlt ⟨h0,h1,h8,h9,h10,hnx,lo,c,h4,hσ,hlo,dlo,hval,hc0,hc1⟩
   simp only at h0 h1 h4 h8 h9 h10 hnx hσ
   subst hnx hσ
   have f1:(k:Int) < (n:Int):=by omega
   have f2:(0:Int) ≤ (k:Int):=by omega
   have f3:=wrap_id (n:=(k:Int) + 1) (by omega) (by omega)
   have hkW:k < W.length:=by omega
   have hcell:=hW k hkW
   obtain ⟨m,hm⟩:∃ m,m = W[k]:=⟨_,rfl⟩
   have mr:=dW.get hkW
   rw [← hm] at hcell mr
   have hjk:j + k < U.length:=by omega
   have f4:(k:Int) < (L:Int):=by omega
   obtain ⟨u,huu⟩:∃ u,u = U[j + k]:=⟨_,rfl⟩
   have ur:=dU (j + k) hjk (by omega)
   have ucell:=idx (xs:=lay U j lo) (k:=j + k) (by rw [lay_len (by omega)]; exact hjk)
   rw [lay_get hlo hjk] at ucell
   rw [← huu] at ur ucell
   have c5:j + k < (lay U j lo).length:=by rw [lay_len (by omega)]; exact hjk
   have v1:vl ((U.drop j).take (k + 1)) = vl ((U.drop j).take k) + bp k * u:=by
    rw [vl_take_succ (by rw [List.length_drop]; omega),List.getElem_drop,huu]
   have v2:vl (W.take (k + 1)) = vl (W.take k) + bp k * m:=by rw [vl_take_succ hkW,hm]
   have w1:=wrap_id (n:=u + m) (by omega) (by omega)
   have w2:=wrap_id (n:=u + m + c) (by omega) (by omega)
   obtain ⟨q1,q2⟩:=tdivmod (n:=u + m + c) (by omega)
   have w3:=wrap_id (n:=(u + m + c) / 1000000000) (by omega) (by omega)
   have c6:=cI_set (lay U j lo) (j + k) ((u + m + c) % 1000000000)
   rw [lay_set hlo hjk] at c6
   refine .inl ⟨_,by simp only [go_sem,h0,h1,h4,h8,h9,h10,ubv,ubu,hcell,ucell,f1,f2,f3,f4,c5,w1,w2,w3,q1,q2,billion,c6,upd_upd]; rfl,?_⟩
   simp only [go_sem,h0,h1,h8,h9]
   refine ⟨rfl,_,_,rfl,rfl,by simp [hlo],dlo.snoc (by omega) (by omega),?_,by omega,by omega⟩
   rw [vl_snoc,hlo,bp_succ,v1,v2,carry_step (n:=u + m + c) (by omega),Int.mul_add,Int.mul_add]
   omega) (by
   clear hL
   rintro ⟨T,σ',nx'⟩ ⟨h0,h1,h8,h9,h10,hnx,lo,c,h4,hσ,hlo,dlo,hval,hc0,hc1⟩
   simp only at h0 h1 h4 h8 h9 h10 hnx hσ
   subst hnx hσ
   rw [List.take_of_length_le (l:=W) (by omega)] at hval
   refine ⟨_,by simp only [go_sem,h9,h10,Int.lt_irrefl]; rfl,by simp,_,lo,c,rfl,by simp only [go_sem,h0],by simp only [go_sem,h1],by simp only [go_sem,h4],hlo,dlo,hval,hc0,hc1⟩) (by
   simp only [go_sem]
   exact ⟨[],0,rfl,by rw [lay_nil,upd_self hu],rfl,Dg.nil,by simp [vl],Int.le_refl _,by decide⟩)
 have f1:(0:Int) ≤ (n:Int):=by omega
 have f2:(n:Int) < (L:Int):=by omega
 have ucell:=idx (xs:=lay U j lo) (k:=j + n) (by rw [lay_len (by omega)]; exact hj)
 rw [lay_get hlo hj,hU] at ucell
 have c5:j + n < (lay U j lo).length:=by rw [lay_len (by omega)]; exact hj
 have w1:=wrap_id (n:=t + c) (by omega) (by omega)
 have c6:=cI_set (lay U j lo) (j + n) (t + c)
 rw [lay_set hlo hj] at c6
 exact ⟨lo,c,by simp only [go_sem,h0,h1,h4,ubv,ubu,f1,f2,ucell,c5,w1,c6,upd_upd],hlo,dlo,hval,hc⟩
end Go.Proofs.YtoccmbjfkbemcaaGreat
namespace Go.Proofs.YtoccmbjfkbemcaaGreat
open Go Go.TV
theorem prefix_dg {xs:List Int} {n:Nat} (h:Dg xs) (hv:vl xs = n):(xs.flatMap cI).take (ln n) = (dg n).flatMap cI∧ln n ≤ xs.length:=by
 obtain ⟨r,hr⟩:=trim_prefix xs
 rw [trim_vl' h hv] at hr
 have hl:(dg n).length = ln n:=rfl
 refine ⟨?_,?_⟩
 ·rw [cI_take]
  conv => lhs; rw [hr]
  rw [← hl,List.take_left']
  rfl
 ·rw [hr,List.length_append]; omega
theorem ln_scale {n:Nat} (h2:2 ≤ ln n):∃ (b1 s:Nat) (h:ln n - 1 < (dg n).length),(dg n)[ln n - 1] = (b1:Int)∧0 < b1∧b1 < 1000000000∧s = 1000000000 / (b1 + 1)∧1 ≤ s∧s < 1000000000∧ln (n * s) = ln n∧bp (ln n - 1) * 500000000 ≤ (n * s:Nat):=by
 have hl:(dg n).length = ln n:=rfl
 have h:ln n - 1 < (dg n).length:=by omega
 have hd:=(dg_Dg n).get h
 obtain ⟨b1,hb1⟩:∃ b1:Nat,(dg n)[ln n - 1] = (b1:Int):=⟨((dg n)[ln n - 1]).toNat,by omega⟩
 have hn0:n ≠ 0:=fun e => by rw [e,ln_zero] at h2; omega
 have hval:(n:Int) = vl ((dg n).take (ln n - 1)) + bp (ln n - 1) * b1:=by
  have:=vl_take_succ h
  rw [show ln n - 1 + 1 = (dg n).length by omega,List.take_length,vl_dg,hb1] at this
  exact this
 have hlo:=vl_lt ((dg_Dg n).take (ln n - 1))
 rw [List.length_take,Nat.min_eq_left (by omega)] at hlo
 have hlo0:=vl_nonneg ((dg_Dg n).take (ln n - 1))
 have hP:=bp_pos (ln n - 1)
 have hb0:0 < b1:=by
  rcases Nat.eq_zero_or_pos b1 with e | e
  ·subst e
   rw [show ((0:Nat):Int) = 0 from rfl,Int.mul_zero] at hval
   have:=(ln_le_iff (n:=n) (k:=ln n - 1)).mpr (by omega)
   omega
  ·exact e
 rw [hb1] at hd
 obtain ⟨k1,k2,k3,k4⟩:=kn_scale (b1:=b1) (by omega) (by omega)
 have hs:((1000000000 / (b1 + 1):Nat):Int) = 1000000000 / ((b1:Int) + 1):=by simp
 rw [← hs] at k1 k2 k3 k4
 refine ⟨b1,1000000000 / (b1 + 1),h,hb1,hb0,by omega,rfl,by omega,by omega,?_,?_⟩
 ·refine Nat.le_antisymm (ln_le_iff.mpr ?_) ?_
  ·have e:bp (ln n) = bp (ln n - 1) * 1000000000:=by
    have:=bp_succ (ln n - 1)
    rw [show ln n - 1 + 1 = ln n by omega] at this
    rw [this,Int.mul_comm]
   have h1:(n:Int) < bp (ln n - 1) * (b1 + 1):=by rw [Int.mul_add]; omega
   rw [Int.natCast_mul,e]
   generalize ((1000000000 / (b1 + 1):Nat):Int) = s at *
   have h2:(n:Int) * s < bp (ln n - 1) * (b1 + 1) * s:=Int.mul_lt_mul_of_pos_right h1 (by omega)
   have h3:bp (ln n - 1) * ((b1 + 1) * s) ≤ bp (ln n - 1) * 1000000000:=Int.mul_le_mul_of_nonneg_left (by rw [Int.mul_comm]; exact k2) (by omega)
   rw [← Int.mul_assoc] at h3
   omega
  ·exact ln_mono (Nat.le_mul_of_pos_right _ (by omega))
 ·rw [Int.natCast_mul]
  generalize ((1000000000 / (b1 + 1):Nat):Int) = s at *
  have h1:bp (ln n - 1) * b1 * s ≤ (n:Int) * s:=Int.mul_le_mul_of_nonneg_right (by omega) (by omega)
  have h2:bp (ln n - 1) * 500000000 ≤ bp (ln n - 1) * (b1 * s):=Int.mul_le_mul_of_nonneg_left k3 (by omega)
  rw [← Int.mul_assoc] at h2
  omega
theorem grow0 {σ:Store} {nx b:Nat} {P:List Int} {N:Nat} (hb:σ b = some ⟨P.flatMap cI,1,true⟩) (hlt:b < nx) (hd:Dg P) (hv:vl P = N) (hN:N ≠ 0) (hl:P.length ≤ 1000000 + 1000000) (hp:P.length ≤ ln N + 1) :
  ∃ bu σ' nx',appendTo σ nx 1 8 (.rs b 0 (ln N)) [I 0] 1 = some (.rs bu 0 (ln N + 1),σ',nx')∧σ' bu = some ⟨(dg N ++ [0]).flatMap cI,1,true⟩∧nx ≤ nx'∧(bu = b∨bu = nx)∧bu < nx'∧∀ c,c < nx→¬c = b→σ' c = σ c:=by
 obtain ⟨r,hr⟩:=trim_prefix P
 rw [trim_vl' hd hv] at hr
 have hll:(dg N).length = ln N:=rfl
 have hle:P.length = ln N + r.length:=by rw [hr,List.length_append,hll]
 have cell:∀ xs:List Int,(xs.flatMap cI).length = xs.length:=cI_len
 unfold appendTo
 simp only [hb]
 rw [if_neg (by decide)]
 by_cases h:r = []
 ·subst h
  have hP:P = dg N:=by rw [hr]; simp
  have hPl:P.length = ln N:=by rw [hle]; rfl
  rw [if_neg (by rw [cell]; omega),if_pos (by
   refine ⟨by rw [cell]; omega,by simp,by unfold maxLen; omega,by omega,by simp [isCell]⟩)]
  refine ⟨nx,_,nx + 1,rfl,?_,by omega,.inr rfl,by omega,fun c hc hne => ?_⟩
  ·rw [upd_same,hP,List.flatMap_append]; rfl
  ·rw [upd_ne _ _ (by omega),upd_ne _ _ hne]
 ·have hr1:r.length = 1:=by
   have:=List.length_pos_iff.mpr h
   omega
  rw [if_pos (by rw [cell]; omega),if_pos ⟨by simp,by simp,by simp [isCell]⟩]
  refine ⟨b,_,nx,rfl,?_,Nat.le_refl _,.inl rfl,hlt,fun c _ hne => upd_ne _ _ hne⟩
  rw [upd_same]
  congr 2
  show (P.flatMap cI).set (0 + ln N * 1) (I 0) = _
  rw [Nat.zero_add,Nat.mul_one,cI_set]
  congr 1
  obtain ⟨x,hx⟩:∃ x,r = [x]:=List.length_eq_one_iff.mp hr1
  subst hx
  conv => lhs; rw [hr]
  rw [← hll,List.set_append_right _ _ (Nat.le_refl _),Nat.sub_self]
  rfl
theorem window {U W:List Int} {j e:Nat} {V:Int} (dU:Dg U) (hW:W.length = e + 2) (dW:Dg W) (hV:vl W = V) (hj:j + (e + 2) < U.length) (hlt:vl (U.drop (j + 1)) < V) :
  vl (U.drop j) = vl ((U.drop j).take (e + 2)) + bp (e + 2) * U[j + (e + 2)]∧vl (U.drop j) < V * 1000000000 ∧
  (∃ Ur,0 ≤ Ur∧Ur < bp e∧vl (U.drop j) = ((U[j + (e + 2)] * 1000000000 + U[j + e + 1]) * 1000000000 + U[j + e]) * bp e + Ur) ∧
  (∃ Vr,0 ≤ Vr∧Vr < bp e∧V = (W[e + 1] * 1000000000 + W[e]) * bp e + Vr)∧U[j + (e + 2)] ≤ W[e + 1]∧vl (U.drop (j + (e + 2) + 1)) = 0:=by
 have hV2:V < bp (e + 2):=by rw [← hV,← hW]; exact vl_lt dW
 have d1:=vl_drop (xs:=U) (k:=j) (by omega)
 have u0:=dU.get (k:=j) (by omega)
 have X2:vl (U.drop j) < V * 1000000000:=by omega
 have hl:(U.drop j).length = U.length - j:=List.length_drop
 have s1:=vl_take_drop (U.drop j) (k:=e + 2) (by omega)
 rw [List.drop_drop] at s1
 have s2:=vl_drop (xs:=U) (k:=j + (e + 2)) hj
 have un:=dU.get hj
 have lo0:=vl_nonneg ((dU.drop j).take (e + 2))
 have hi0:=vl_nonneg (dU.drop (j + (e + 2) + 1))
 have hi:vl (U.drop (j + (e + 2) + 1)) = 0:=by
  rcases Int.lt_trichotomy (vl (U.drop (j + (e + 2) + 1))) 0 with h | h | h
  ·omega
  ·exact h
  ·exfalso
   have h1:bp (e + 2) * 1000000000 ≤ bp (e + 2) * vl (U.drop (j + (e + 2))):=Int.mul_le_mul_of_nonneg_left (by omega) (Int.le_of_lt (bp_pos _))
   have h2:V * 1000000000 ≤ bp (e + 2) * 1000000000:=Int.mul_le_mul_of_nonneg_right (by omega) (by decide)
   omega
 rw [hi] at s2
 have s3:vl (U.drop j) = vl ((U.drop j).take (e + 2)) + bp (e + 2) * U[j + (e + 2)]:=by rw [s1,s2]; simp
 have g:∀ {xs:List Int} (h:e + 1 < xs.length),vl (xs.take (e + 2)) = vl (xs.take e) + bp e * xs[e] + bp e * 1000000000 * xs[e + 1]:=fun {xs} h => by
  rw [vl_take_succ (k:=e + 1) h,vl_take_succ (k:=e) (by omega),bp_succ]; grind
 have g1:=g (xs:=U.drop j) (by omega)
 simp only [List.getElem_drop] at g1
 have e1:U[j + (e + 1)] = U[j + e + 1]:=rfl
 rw [e1] at g1
 have g2:=g (xs:=W) (by omega)
 rw [List.take_of_length_le (by omega),hV] at g2
 have b2:bp (e + 2) = bp e * 1000000000 * 1000000000:=by rw [bp_succ,bp_succ]; grind
 have rU:=vl_lt ((dU.drop j).take e)
 rw [List.length_take,hl,Nat.min_eq_left (by omega)] at rU
 have rV:=vl_lt (dW.take e)
 rw [List.length_take,Nat.min_eq_left (by omega)] at rV
 refine ⟨s3,X2,⟨_,vl_nonneg ((dU.drop j).take e),rU,?_⟩,⟨_,vl_nonneg (dW.take e),rV,?_⟩,?_,hi⟩
 ·rw [s3,g1,b2]; grind
 ·rw [g2]; grind
 ·have w1:=dW.get (k:=e) (by omega)
  have w2:=dW.get (k:=e + 1) (by omega)
  refine Int.not_lt.mp fun h => ?_
  have h1:bp (e + 2) * (W[e + 1] + 1) ≤ bp (e + 2) * U[j + (e + 2)]:=Int.mul_le_mul_of_nonneg_left (by omega) (Int.le_of_lt (bp_pos _))
  have h2:bp e * W[e] ≤ bp e * 999999999:=Int.mul_le_mul_of_nonneg_left (by omega) (Int.le_of_lt (bp_pos _))
  have h3:V < bp e * 1000000000 * (W[e + 1] + 1):=by rw [g2,Int.mul_add]; omega
  have h4:V * 1000000000 < bp (e + 2) * (W[e + 1] + 1):=by
   rw [b2]
   have:=Int.mul_lt_mul_of_pos_right h3 (show (0:Int) < 1000000000 by decide)
   have e:bp e * 1000000000 * (W[e + 1] + 1) * 1000000000 = bp e * 1000000000 * 1000000000 * (W[e + 1] + 1):=by grind
   omega
  omega
end Go.Proofs.YtoccmbjfkbemcaaGreat
namespace Go.Proofs.YtoccmbjfkbemcaaGreat
open Go Go.TV
theorem lay_lay {U a b:List Int} {j:Nat} (h:a.length = b.length) (hj:j + a.length ≤ U.length):lay (lay U j a) j b = lay U j b:=by
 unfold lay
 have e1:(U.take j).length = j:=by rw [List.length_take]; omega
 rw [List.take_left' e1]
 congr 2
 rw [← List.append_assoc,List.drop_left' (by rw [List.length_append,e1,h]),h]
theorem lay_drop {U a:List Int} {j:Nat} (hj:j + a.length ≤ U.length):(lay U j a).drop j = a ++ U.drop (j + a.length):=by
 unfold lay
 exact List.drop_left' (by rw [List.length_take]; omega)
theorem lay_take {U a:List Int} {j:Nat} (hj:j + a.length ≤ U.length):(lay U j a).take j = U.take j:=by
 unfold lay
 exact List.take_left' (by rw [List.length_take]; omega)
theorem lay_Dg {U a:List Int} {j:Nat} (h:Dg U) (h':Dg a):Dg (lay U j a):=(h.take _).app (h'.app (h.drop _))
theorem div_step {U:List Int} {j n:Nat} {L Q:List Int} {q V N:Int} (hj:j + (n + 1) ≤ U.length) (hL:L.length = n) (hhi:vl (U.drop (j + n + 1)) = 0) (hv:vl L = vl (U.drop j) - q * V) (hU:vl U + V * (bp (j + 1) * vl Q) = N) :
  vl ((lay U j (L ++ [0])).drop j) = vl L∧vl (lay U j (L ++ [0])) + V * (bp j * vl (q :: Q)) = N:=by
 have hl:(L ++ [0]).length = n + 1:=by simp [hL]
 have h1:vl ((lay U j (L ++ [0])).drop j) = vl L:=by
  rw [lay_drop (by omega),vl_app,vl_snoc,hl,show j + (n + 1) = j + n + 1 by omega,hhi]; simp
 refine ⟨h1,?_⟩
 have h2:=vl_take_drop (lay U j (L ++ [0])) (k:=j) (by rw [lay_len (by omega)]; omega)
 rw [lay_take (by omega),h1] at h2
 have h3:=vl_take_drop U (k:=j) (by omega)
 rw [h2,hv,← hU,h3,bp_succ]
 show _ + bp j * _ + V * (bp j * (q + 1000000000 * vl Q)) = _
 grind
theorem gatherL_I (f:V→Option (List Nat)) (h:∀ x,f (I x) = some []) (xs:List Int):gatherL f (xs.flatMap cI) = some []:=by
 induction xs with
 | nil => rfl
 | cons x xs ih =>
  show gatherL f (I x :: xs.flatMap cI) = _
  rw [gatherL_cons,h,ih]; rfl
theorem gather_own {σ:Store} {b off len:Nat} {xs:List Int} (d:Nat) (h:σ b = some ⟨xs.flatMap cI,1,true⟩):gather σ (d + 1) (.rs b off len) = some [b]:=by
 have e:gather σ (d + 1) (.rs b off len) = match σ b with
   | some B => match gatherL (gather σ d) B.cells with
    | some ids => some (b :: ids)
    | none => none
   | none => none:=rfl
 rw [e,h]
 simp only
 rw [gatherL_I _ (fun x => gather_sc σ d _)]
theorem slice_u {σ:Store} {b lu j:Nat} {xs:List Int} (h:σ b = some ⟨xs.flatMap cI,1,true⟩) (hx:xs.length = lu) (hj:j < lu) :
  ((σ b).bind fun B => if j ≤ lu∧B.st = 1∧lu ≤ B.cells.length then if j = 0 then some (V.rs b 0 lu) else if j = lu then some (V.ts [] 0) else some (V.rs b j (lu - j)) else none) = some (.rs b j (lu - j)):=by
 rw [h]
 simp only [Option.bind_some,cI_len,hx]
 rw [if_pos ⟨by omega,trivial,Nat.le_refl _⟩]
 by_cases hz:j = 0
 ·subst hz; rw [if_pos rfl]; rfl
 ·rw [if_neg hz,if_neg (by omega)]
theorem slice_v {b lu j l:Nat} (hx:l = lu) (hj:j < lu) :
  (if j ≤ lu∧lu ≤ l then if j = 0 then some (V.rs b 0 lu) else if j = lu then some (V.ts [] 0) else some (V.rs b j (lu - j)) else none) = some (.rs b j (lu - j)):=by
 subst hx
 rw [if_pos ⟨by omega,Nat.le_refl _⟩]
 by_cases hz:j = 0
 ·subst hz; rw [if_pos rfl]; rfl
 ·rw [if_neg hz,if_neg (by omega)]
theorem after_take {U lo:List Int} {j e:Nat} {X g tt Vn:Int} (hlo:lo.length = e + 2) (dlo:Dg lo) (hval:vl lo + bp (e + 2) * tt = X - g * Vn) (gh:X < (g + 1) * Vn) (gl:(g - 1) * Vn ≤ X) (dV:Vn < bp (e + 2)) (V0:0 < Vn) (g0:0 ≤ g) (X0:0 ≤ X) :
  (tt = 0∧vl lo = X - g * Vn∧vl lo < Vn)∨(tt = -1∧0 ≤ g - 1∧∀ (lo':List Int) (cc:Int),lo'.length = e + 2→Dg lo'→vl lo' + bp (e + 2) * cc = vl lo + Vn→cc = 1∧vl lo' = X - (g - 1) * Vn∧vl lo' < Vn):=by
 have hlo1:=vl_lt dlo
 rw [hlo] at hlo1
 have hlo0:=vl_nonneg dlo
 rcases kn_digit gh gl with ⟨z1,z2⟩ | ⟨z1,z2,z3⟩
 ·have htt:tt = 0:=top_zero hlo0 hlo1 z1 (by omega) hval.symm
  subst htt
  rw [Int.mul_zero,Int.add_zero] at hval
  exact .inl ⟨rfl,hval,by omega⟩
 ·have e1:(g - 1) * Vn = g * Vn - Vn:=by rw [Int.sub_mul,Int.one_mul]
  rw [e1] at z2 z3 ⊢
  have htt:tt = -1:=top_neg hlo0 hlo1 (by omega) z1 hval.symm
  subst htt
  have g1:0 ≤ g - 1:=by
   refine Int.not_lt.mp fun h => ?_
   have:g = 0:=by omega
   subst this
   omega
  refine .inr ⟨rfl,g1,fun lo' cc h1 h2 h3 => ?_⟩
  have hlo2:=vl_lt h2
  rw [h1] at hlo2
  have e2:bp (e + 2) * (cc - 1) = bp (e + 2) * cc - bp (e + 2):=by rw [Int.mul_sub,Int.mul_one]
  have e3:bp (e + 2) * -1 = -bp (e + 2):=by rw [Int.mul_neg,Int.mul_one]
  rw [e3] at hval
  have hcc:cc - 1 = 0:=top_zero (X:=X - (g * Vn - Vn)) (vl_nonneg h2) hlo2 z2 (by omega) (by rw [e2]; omega)
  have:cc = 1:=by omega
  subst this
  rw [Int.mul_one] at h3
  exact ⟨rfl,by omega,by omega⟩
theorem lay_neg {U lo:List Int} {j e lu:Nat} (dU:Dg U) (lU:U.length = lu) (hju:j + (e + 2) < U.length) (hlo:lo.length = e + 2) (dlo:Dg lo) :
  ∃ U1,lay U j (lo ++ [-1]) = U1∧U1.length = lu∧(∃ h:j + (e + 2) < U1.length,U1[j + (e + 2)] = -1)∧(∀ k (h:k < U1.length),k < j + (e + 2)→0 ≤ U1[k]∧U1[k] < 1000000000)∧(U1.drop j).take (e + 2) = lo ∧
   ∀ Ld:List Int,Ld.length = e + 2→lay U1 j (Ld ++ [0]) = lay U j (Ld ++ [0]):=by
 have hl1:(lo ++ [-1]).length = e + 3:=by simp [hlo]
 have U1d:(lay U j (lo ++ [-1])).drop j = lo ++ [-1] ++ U.drop (j + (e + 3)):=by rw [lay_drop (by omega),hl1]
 have U1t:(lay U j (lo ++ [-1])).take j = U.take j:=by rw [lay_take (by omega)]
 have lU1:(lay U j (lo ++ [-1])).length = lu:=by rw [lay_len (by omega)]; exact lU
 refine ⟨_,rfl,lU1,⟨by omega,?_⟩,fun k hk hlt => ?_,by rw [U1d,List.append_assoc,List.take_left' hlo],fun Ld h => ?_⟩
 ·have:((lay U j (lo ++ [-1])).drop j)[e + 2]? = some (-1):=by
   rw [U1d,List.append_assoc,List.getElem?_append_right (by omega),hlo,Nat.sub_self]; rfl
  rw [List.getElem?_drop,List.getElem?_eq_getElem (by omega)] at this
  exact Option.some.inj this
 ·by_cases hkj:k < j
  ·have:((lay U j (lo ++ [-1])).take j)[k]? = some (lay U j (lo ++ [-1]))[k]:=by rw [List.getElem?_take_of_lt hkj,List.getElem?_eq_getElem hk]
   rw [U1t,List.getElem?_take_of_lt hkj,List.getElem?_eq_getElem (by omega)] at this
   rw [← Option.some.inj this]
   exact dU.get (by omega)
  ·have:((lay U j (lo ++ [-1])).drop j)[k - j]? = some (lay U j (lo ++ [-1]))[k]:=by
    rw [List.getElem?_drop]
    have e2:j + (k - j) = k:=by omega
    rw [e2,List.getElem?_eq_getElem hk]
   rw [U1d,List.append_assoc,List.getElem?_append_left (by omega),List.getElem?_eq_getElem (by omega)] at this
   rw [← Option.some.inj this]
   exact dlo.get (by omega)
 ·exact lay_lay (by rw [hl1]; simp [h]) (by omega)
theorem digit_in {U Q Ld:List Int} {j e lu:Nat} {q X Vn N:Int} (dU:Dg U) (dQ:Dg Q) (lU:U.length = lu) (hju:j + (e + 2) < U.length) (lQ:Q.length + (j + 1) = lu - (e + 2)) (hhi:vl (U.drop (j + (e + 2) + 1)) = 0) (eX:X = vl (U.drop j)) (hsum:vl U + Vn * (bp (j + 1) * vl Q) = N)
  (h1:Ld.length = e + 2) (h2:Dg Ld) (h3:0 ≤ q) (h4:q < 1000000000) (h5:vl Ld = X - q * Vn) (h6:vl Ld < Vn) :
  ∃ U' Q',(lay U j (Ld ++ [0])) = U'∧I q :: Q.flatMap cI = Q'.flatMap cI∧Dg U'∧Dg Q'∧U'.length = lu∧Q'.length + j = lu - (e + 2)∧vl (U'.drop j) < Vn∧vl U' + Vn * (bp j * vl Q') = N:=by
 rw [eX] at h5
 obtain ⟨y1,y2⟩:=div_step (U:=U) (j:=j) (n:=e + 2) (L:=Ld) (Q:=Q) (q:=q) (by omega) h1 hhi h5 hsum
 have hl:(Ld ++ [0]).length = e + 3:=by simp [h1]
 refine ⟨_,q :: Q,rfl,rfl,lay_Dg dU (h2.snoc (by decide) (by decide)),fun x hx => ?_,by rw [lay_len (by omega)]; exact lU,by simp; omega,by rw [y1]; exact h6,y2⟩
 rcases List.mem_cons.mp hx with rfl | hx
 ·exact ⟨h3,h4⟩
 ·exact dQ x hx
theorem pad_Dg (n k:Nat):Dg (pad n k):=fun x hx => by
 unfold pad at hx
 obtain ⟨i,_,rfl⟩:=List.mem_map.mp hx
 omega
theorem pad_vl (n k:Nat) (h:n < 1000000000 ^ k):vl (pad n k) = n:=by
 have h1:=trim_pad k n h
 rw [trim_vl (pad_Dg n k)] at h1
 have h2:=congrArg vl h1
 rw [vl_dg,vl_dg,Int.toNat_of_nonneg (vl_nonneg (pad_Dg n k))] at h2
 exact h2
theorem dg_single {s:Nat} (h0:1 ≤ s) (h:s < 1000000000):LI (dg s) = .ts [I s] 1:=by rw [dg_one (by omega) h]; rfl
set_option maxHeartbeats 2000000 in
theorem oover (m n:Nat) (hm:ln m ≤ 1000000) (h2:2 ≤ ln n) (hle:n ≤ m):fn Tryz.prog convO extO 108 [LI (dg m),LI (dg n)] = some (.tup [LI (dg (m / n)),LI (dg (m % n))]):=by
 obtain ⟨b1,s,hb,hb1,hb0,hbl,hs,hs1,hs9,hln,hbig⟩:=ln_scale h2
 have hll:(dg n).length = ln n:=rfl
 have hmm:(dg m).length = ln m:=rfl
 have hnm:ln n ≤ ln m:=ln_mono hle
 have hm0:m ≠ 0:=fun e => by rw [e,ln_zero] at hnm; omega
 have hn0:n ≠ 0:=fun e => by rw [e,ln_zero] at h2; omega
 have k1:=icompareL m n (by omega) (by omega)
 have hc:¬cmpN m n < 0:=by unfold cmpN; rw [if_neg (by omega)]; split <;> decide
 have c1:(((dg n).length:Int) == 1) = false:=by rw [beq_eq_false_iff_ne]; omega
 have lns:ln s = 1:=by
  have:=ln_small hs9
  have:=ln_pos (n:=s) (by omega)
  omega
 obtain ⟨σ1,P1,t1,tb1,tl1,td1,tv1⟩:=otimes m s hm (by omega) hm0 (by omega) 1
 rw [dg_single hs1 hs9] at t1
 have hms0:m * s ≠ 0:=Nat.mul_ne_zero hm0 (by omega)
 have lms:ln m ≤ ln (m * s):=ln_mono (Nat.le_mul_of_pos_right _ (by omega))
 have lms2:ln (m * s) ≤ ln m + 1:=by have:=ln_mul m s; omega
 obtain ⟨σa,ea⟩:∃ σa,σa = upd (joinS 1 (upd noStore 0 (some ⟨[I s],1,true⟩)) σ1 [1]) 2 (some ⟨[I 0],1,true⟩):=⟨_,rfl⟩
 have sa1:σa 1 = some ⟨P1.flatMap cI,1,true⟩:=by
  rw [ea,upd_ne _ _ (by decide),join_in (by decide) (by simp)]; exact tb1
 have sa0:σa 0 = some ⟨[I s],1,true⟩:=by
  rw [ea,upd_ne _ _ (by decide),join_lt (by decide)]; exact upd_same _ _ _
 obtain ⟨bu,σb,nb,ga,gb,gn,gbu,gbl,gfr⟩:=grow0 (nx:=3) sa1 (by decide) td1 tv1 hms0 (by omega) (by omega)
 have sb0:σb 0 = some ⟨[I s],1,true⟩:=by rw [gfr 0 (by decide) (by decide)]; exact sa0
 obtain ⟨σ2,P2,t2,tb2,tl2,td2,tv2⟩:=otimes n s (by omega) (by omega) hn0 (by omega) nb
 rw [dg_single hs1 hs9,hln] at t2
 obtain ⟨e,he⟩:∃ e,ln n = e + 2:=⟨ln n - 2,by omega⟩
 obtain ⟨lu,hlu⟩:∃ lu,lu = ln (m * s) + 1:=⟨_,rfl⟩
 obtain ⟨σc,ec⟩:∃ σc,σc = joinS nb σb σ2 [nb]:=⟨_,rfl⟩
 have scv:σc nb = some ⟨P2.flatMap cI,1,true⟩:=by rw [ec,join_in (by omega) (by simp)]; exact tb2
 have sc0:σc 0 = some ⟨[I s],1,true⟩:=by rw [ec,join_lt (by omega)]; exact sb0
 have scu:σc bu = some ⟨(dg (m * s) ++ [0]).flatMap cI,1,true⟩:=by rw [ec,join_lt gbl]; exact gb
 obtain ⟨W,eW⟩:∃ W,W = dg (n * s):=⟨_,rfl⟩
 have hWl:W.length = e + 2:=by rw [eW]; show ln (n * s) = _; rw [hln,he]
 have dW:Dg W:=by rw [eW]; exact dg_Dg _
 have vW:vl W = (n * s:Nat):=by rw [eW]; exact vl_dg _
 have hcW:∀ k (h:k < W.length),(P2.flatMap cI)[k]? = some (I W[k]):=fun k h => by
  obtain ⟨p1,p2⟩:=prefix_dg td2 tv2
  have:((P2.flatMap cI).take (ln (n * s)))[k]? = some (I W[k]):=by rw [p1,← eW]; exact idx h
  rw [List.getElem?_take_of_lt (by rw [hln]; omega)] at this
  exact this
 have big:bp (e + 1) * 500000000 ≤ (n * s:Nat):=by
  have h:=hbig
  rw [he] at h
  exact h
 have hP:=bp_pos e
 obtain ⟨Vn,eV⟩:∃ Vn:Int,Vn = (n * s:Nat):=⟨_,rfl⟩
 rw [← eV] at big vW
 have Vpos:0 < Vn:=by have:=bp_pos (e + 1); omega
 have dV:=vl_lt dW
 rw [hWl,vW] at dV
 have hv1:500000000 ≤ W[e + 1]:=by
  have g1:=vl_take_succ (xs:=W) (k:=e + 1) (by omega)
  rw [List.take_of_length_le (by omega),vW] at g1
  have g2:=vl_lt (dW.take (e + 1))
  rw [List.length_take,Nat.min_eq_left (by omega)] at g2
  refine Int.not_lt.mp fun h => ?_
  have:bp (e + 1) * (W[e + 1] + 1) ≤ bp (e + 1) * 500000000:=Int.mul_le_mul_of_nonneg_left (by omega) (Int.le_of_lt (bp_pos _))
  rw [Int.mul_add] at this
  omega
 have w10:=dW.get (k:=e + 1) (by omega)
 have w20:=dW.get (k:=e) (by omega)
 obtain ⟨v1,ev1⟩:∃ v1,v1 = W[e + 1]:=⟨_,rfl⟩
 obtain ⟨v2,ev2⟩:∃ v2,v2 = W[e]:=⟨_,rfl⟩
 have cv1:=hcW (e + 1) (by omega)
 have cv2:=hcW e (by omega)
 rw [← ev1] at hv1 w10 cv1
 rw [← ev2] at w20 cv2
 have i0:(0:Int) ≤ ((dg n).length:Int) - 1:=by omega
 have i1:=wrap_id (n:=((ln n - 1:Nat):Int)) (by omega) (by omega)
 have i2:((dg n).length:Int) - 1 = ((ln n - 1:Nat):Int):=by omega
 have i3:((ln n - 1:Nat):Int) < ((dg n).length:Int):=by omega
 have i3':(0:Int) ≤ ((ln n - 1:Nat):Int):=by omega
 have i4:=slot_ne (c:=cI) (s:=1) (fun _ => rfl) (by omega) (dg n) (ln n - 1) hb
 have i5:=idx hb
 rw [hb1] at i5
 have i6:=wrap_id (n:=(b1:Int) + 1) (by omega) (by omega)
 have i7:¬((b1:Int) + 1) = 0:=by omega
 have i8:(1000000000:Int).tdiv ((b1:Int) + 1) = (s:Int):=by
  rw [Int.tdiv_eq_ediv_of_nonneg (by decide),hs]; simp
 have i9:=wrap_id (n:=(s:Int)) (by omega) (by omega)
 have j1:¬(((lu:Nat):Int) ≤ ((dg m).length:Int)):=by omega
 have j2:((lu:Nat):Int) - ((e + 2:Nat):Int) = ((lu - (e + 2):Nat):Int):=by omega
 have j3:=wrap_id (n:=((lu - (e + 2):Nat):Int)) (by omega) (by omega)
 obtain ⟨j4,j5,j6⟩:=make_ok (k:=lu - (e + 2)) (by omega)
 have j7:=wrap_id (n:=((lu - (e + 2):Nat):Int) - 1) (by omega) (by omega)
 have ga':appendTo σa 3 1 8 (.rs 1 0 (ln (m * s))) [I 0] 1 = some (.rs bu 0 lu,σb,nb):=by rw [ga,hlu]
 have gg:=gather_own (σ:=σ1) (b:=1) (off:=0) (len:=ln (m * s)) 6 tb1
 have gg2:=gather_own (σ:=σ2) (b:=nb) (off:=0) (len:=e + 2) 6 tb2
 rw [he] at t2
 have j8:(dg n).length = e + 2:=by omega
 have row2:((σa 2).bind fun B => if 1 ≤ B.cells.length then some (List.take 1 B.cells,1) else none) = some ([I 0],1):=by
  rw [ea,upd_same]; rfl
 rw [fn_eq,ev_eqQ (rs:=[.tmp 4,.tmp 5]) [15,16,17,25] rfl Tryz.func108 rfl rfl (by kernel_rfl) (by kernel_rfl)]
 simp only [go_sem,k1,hc,c1,i0,i1,i2,i3,i3',i4,i5,i6,i7,i8,i9,t1,gg,← ea,row2,ga',sb0,t2,gg2,← ec]
 generalize hL:evLoopI _ _ = y
 obtain ⟨r,rfl,T1,rfl,q0,q8,q9,q10⟩:=loop_rule hL (fun _ st => st.T 0 = LI (dg m)∧st.T 8 = .rs 0 0 1∧st.T 9 = .rs bu 0 lu∧st.T 10 = .rs nb 0 (e + 2)∧st.σ = σc∧st.nx = nb + 1)
  (fun r => ∃ T,r = (.exit 0,⟨T,σc,nb + 1⟩)∧T 0 = LI (dg m)∧T 8 = .rs 0 0 1∧T 9 = .rs bu 0 lu∧T 10 = .rs nb 0 (e + 2)) (by
   clear hL
   rintro k ⟨T,σ,nx⟩ ⟨h0,h8,h9,h10,hσ,hnx⟩
   simp only at h0 h8 h9 h10 hσ hnx
   subst hσ hnx
   refine .inr ⟨_,by simp only [go_sem,h0,h9,j1]; rfl,by simp,_,rfl,?_⟩
   simp only [go_sem,h0,h8,h9,h10]) 0 (by simp only [go_sem])
 simp only [go_sem,q0,q8,q9,q10,j2,j3,j4,j5,j6,j7]
 obtain ⟨bq,ebq⟩:∃ bq,bq = nb + 1:=⟨_,rfl⟩
 have lub:lu ≤ 1000002:=by omega
 generalize hL:evLoopI _ _ = y
 obtain ⟨r,rfl,T1,σd,U,Q,rfl,p8,p9,p10,p12,sU,s0,sq,dU,dQ,lU,lQ,hlow,hsum⟩:=loop_rule hL (fun mm st => st.T 8 = .rs 0 0 1∧st.T 9 = .rs bu 0 lu∧st.T 10 = .rs nb 0 (e + 2)∧st.T 11 = I ((e + 2:Nat):Int)∧st.T 12 = .rs bq 0 (lu - (e + 2))∧st.T 13 = I ((mm:Int) - 1)∧st.nx = bq + 1∧mm ≤ lu - (e + 2) ∧
   ∃ U Q,st.σ bu = some ⟨U.flatMap cI,1,true⟩∧st.σ nb = some ⟨P2.flatMap cI,1,true⟩∧st.σ 0 = some ⟨[I s],1,true⟩∧st.σ bq = some ⟨rep mm [I 0] ++ Q.flatMap cI,1,true⟩∧Dg U∧Dg Q∧U.length = lu∧Q.length + mm = lu - (e + 2)∧vl (U.drop mm) < Vn∧vl U + Vn * (bp mm * vl Q) = (m * s:Nat))
  (fun r => ∃ T σ U Q,r = (.exit 2,⟨T,σ,bq + 1⟩)∧T 8 = .rs 0 0 1∧T 9 = .rs bu 0 lu∧T 10 = .rs nb 0 (e + 2)∧T 12 = .rs bq 0 (lu - (e + 2))∧σ bu = some ⟨U.flatMap cI,1,true⟩∧σ 0 = some ⟨[I s],1,true⟩∧σ bq = some ⟨Q.flatMap cI,1,true⟩∧Dg U∧Dg Q∧U.length = lu∧Q.length = lu - (e + 2)∧vl U < Vn∧vl U + Vn * vl Q = (m * s:Nat)) (by
   clear hL
   clear i0 i1 i2 i3 i3' i4 i5 i6 i7 i8 i9 j1 j2 j3 j4 j5 j6 j7 j8 gg gg2 row2 ga ga' gfr tb1 tl1 td1 tv1 t1 t2 tb2 tl2 td2 tv2 sa0 sa1 ea sb0 sc0 scu scv ec lms lms2 lns c1 hc k1 hbig hs hbl hb0 hb1 hmm hll hnm q0 q8 q9 q10 big eW
   rintro mm ⟨T,σ,nx⟩ ⟨p8,p9,p10,p11,p12,p13,hnx,hmm',U,Q,sU,sV,s0,sq,dU,dQ,lU,lQ,hlow,hsum⟩
   simp only at p8 p9 p10 p11 p12 p13 hnx sU sV s0 sq
   subst hnx
   cases mm with
   | zero =>
    have f0:¬(0:Int) ≤ ((0:Nat):Int) - 1:=by omega
    refine .inr ⟨_,by simp only [go_sem,p13,f0]; rfl,by simp,_,σ,U,Q,rfl,?_⟩
    simp only [go_sem,p8,p9,p10,p12]
    refine ⟨sU,s0,?_,dU,dQ,lU,by omega,by rw [List.drop_zero] at hlow; exact hlow,by rw [← hsum,bp_zero,Int.one_mul]⟩
    rw [sq]; rfl
   | succ j =>
    have e5:((j + 1:Nat):Int) - 1 = (j:Int):=by omega
    rw [e5] at p13
    have hju:j + (e + 2) < U.length:=by omega
    obtain ⟨x1,x2,⟨Ur,ur0,ur1,xU⟩,⟨Vr,vr0,vr1,xV⟩,x5,x6⟩:=window (W:=W) (V:=Vn) dU hWl dW vW hju hlow
    have r1:=dU.get hju
    have r2:=dU.get (k:=j + e + 1) (by omega)
    have r3:=dU.get (k:=j + e) (by omega)
    have cu1:=idx hju
    have cu2:=idx (xs:=U) (k:=j + e + 1) (by omega)
    have cu3:=idx (xs:=U) (k:=j + e) (by omega)
    obtain ⟨un,eun⟩:∃ un,un = U[j + (e + 2)]:=⟨_,rfl⟩
    obtain ⟨u1,eu1⟩:∃ u1,u1 = U[j + e + 1]:=⟨_,rfl⟩
    obtain ⟨u2,eu2⟩:∃ u2,u2 = U[j + e]:=⟨_,rfl⟩
    rw [← eun] at x1 xU x5 r1 cu1
    rw [← eu1] at xU r2 cu2
    rw [← eu2] at xU r3 cu3
    rw [← ev1] at xV x5
    rw [← ev2] at xV
    obtain ⟨top,etop⟩:∃ top,top = un * 1000000000 + u1:=⟨_,rfl⟩
    rw [← etop] at xU
    have tb:top ≤ v1 * 1000000000 + 999999999:=by
     have:=Int.mul_le_mul_of_nonneg_right x5 (show (0:Int) ≤ 1000000000 by decide)
     omega
    have t0:0 ≤ top:=by omega
    obtain ⟨X,eX⟩:∃ X,X = vl (U.drop j):=⟨_,rfl⟩
    rw [← eX] at x1 x2 xU
    have P0:0 ≤ bp e:=Int.le_of_lt (bp_pos e)
    have d1:bu < bq + 1:=by omega
    have d2:nb < bq + 1:=by omega
    have a0:(j:Int) + ((e + 2:Nat):Int) = ((j + (e + 2):Nat):Int):=by omega
    have a1:=wrap_id (n:=((j + (e + 2):Nat):Int)) (by omega) (by omega)
    have a2:(0:Int) ≤ ((j + (e + 2):Nat):Int):=by omega
    have a3:((j + (e + 2):Nat):Int) < (lu:Int):=by omega
    have a4:((j + (e + 2):Nat):Int) - 1 = ((j + e + 1:Nat):Int):=by omega
    have a5:=wrap_id (n:=((j + e + 1:Nat):Int)) (by omega) (by omega)
    have a6:(0:Int) ≤ ((j + e + 1:Nat):Int):=by omega
    have a7:((j + e + 1:Nat):Int) < (lu:Int):=by omega
    have a8:=wrap_id (n:=un * 1000000000) (by omega) (by omega)
    have a9:=wrap_id (n:=top) (by omega) (by omega)
    have b0:(0:Int) ≤ (j:Int):=by omega
    have b1':((e + 2:Nat):Int) - 1 = ((e + 1:Nat):Int):=by omega
    have b2:=wrap_id (n:=((e + 1:Nat):Int)) (by omega) (by omega)
    have b3:(0:Int) ≤ ((e + 1:Nat):Int):=by omega
    have b4:((e + 1:Nat):Int) < ((e + 2:Nat):Int):=by omega
    have b5:¬v1 = 0:=by omega
    have b6:top.tdiv v1 = top / v1:=Int.tdiv_eq_ediv_of_nonneg t0
    have b7:top.tmod v1 = top % v1:=Int.tmod_eq_emod_of_nonneg t0
    have g00:0 ≤ top / v1:=Int.ediv_nonneg t0 (by omega)
    have g01:top / v1 ≤ 1000000001:=by
     refine Int.le_of_lt_add_one (Int.ediv_lt_of_lt_mul (by omega) ?_)
     have:1000000002 * v1 = v1 * 1000000000 + 2 * v1:=by omega
     show top < 1000000002 * v1
     omega
    have b8:=wrap_id (n:=top / v1) (by omega) (by omega)
    have m0:=Int.emod_nonneg top (show v1 ≠ 0 by omega)
    have m1:=Int.emod_lt_of_pos top (show 0 < v1 by omega)
    have b9:=wrap_id (n:=top % v1) (by omega) (by omega)
    have hdm:top % v1 = top - top / v1 * v1:=by have:=Int.emod_def top v1; rw [Int.mul_comm] at this; exact this
    have hi0:X < (top / v1 + 1) * Vn:=by
     refine kn_hi (v1:=v1) (top:=top) (P:=bp e * 1000000000) (Vr:=v2 * bp e + Vr) (Ur:=u2 * bp e + Ur) g00 (by omega) ?_ ?_ ?_ ?_ ?_
     ·rw [xV]; grind
     ·have:=Int.mul_nonneg w20.1 P0; omega
     ·rw [xU]; grind
     ·have:u2 * bp e ≤ 999999999 * bp e:=Int.mul_le_mul_of_nonneg_right (by omega) P0
      omega
     ·rw [Int.add_mul]; omega
    have c0:((j + (e + 2):Nat):Int) - 2 = ((j + e:Nat):Int):=by omega
    have c1':=wrap_id (n:=((j + e:Nat):Int)) (by omega) (by omega)
    have c2:(0:Int) ≤ ((j + e:Nat):Int):=by omega
    have c3:((j + e:Nat):Int) < (lu:Int):=by omega
    have c4:((e + 2:Nat):Int) - 2 = (e:Int):=by omega
    have c5:=wrap_id (n:=(e:Int)) (by omega) (by omega)
    have c6:(0:Int) ≤ (e:Int):=by omega
    have c7:(e:Int) < ((e + 2:Nat):Int):=by omega
    refine step_of ?_
    conv =>
     enter [1,r,1,1]
     simp only [go_sem,p8,p9,p10,p11,p12,p13,sU,sV,d1,d2,cu1,cu2,cv1,a0,a1,a2,a3,a4,a5,a6,a7,a8,a9,b0,b1',b2,b3,b4,b5,b6,b7,b8,b9,← etop]
    generalize hL:evLoopI _ _ = z
    obtain ⟨r,rfl,T1,g,rfl,p8,p9,p10,p11,p12,p13,p15,g0,gB,gh,gl⟩:=loop_rule hL (fun k st => st.T 8 = .rs 0 0 1∧st.T 9 = .rs bu 0 lu∧st.T 10 = .rs nb 0 (e + 2)∧st.T 11 = I ((e + 2:Nat):Int)∧st.T 12 = .rs bq 0 (lu - (e + 2))∧st.T 13 = I j∧st.σ = σ∧st.nx = bq + 1 ∧
      ∃ g rest,st.T 15 = I g∧st.T 16 = I rest∧g = (k:Int)∧g ≤ 1000000001∧X < (g + 1) * Vn∧rest = top - g * v1∧0 ≤ rest∧rest < 1000000000)
     (fun r => ∃ T g,r = (.exit 4,⟨T,σ,bq + 1⟩)∧T 8 = .rs 0 0 1∧T 9 = .rs bu 0 lu∧T 10 = .rs nb 0 (e + 2)∧T 11 = I ((e + 2:Nat):Int)∧T 12 = .rs bq 0 (lu - (e + 2))∧T 13 = I j∧T 15 = I g∧0 ≤ g∧g < 1000000000∧X < (g + 1) * Vn∧(g - 1) * Vn ≤ X) (by
      clear hL
      rintro k ⟨T,σ',nx⟩ ⟨p8,p9,p10,p11,p12,p13,hσ,hnx,g,rest,p15,p16,hgk,hgB,gh,hr,r0,rB⟩
      simp only at p8 p9 p10 p11 p12 p13 p15 p16 hσ hnx
      subst hσ hnx
      have gm:g * v2 ≤ 1000000001 * 999999999∧0 ≤ g * v2:=by
       refine ⟨Int.le_trans (Int.mul_le_mul_of_nonneg_right hgB w20.1) (Int.mul_le_mul_of_nonneg_left (by omega) (by decide)),Int.mul_nonneg (by omega) w20.1⟩
      have z1:=wrap_id (n:=g * v2) (by omega) (by omega)
      have z2:=wrap_id (n:=rest * 1000000000) (by omega) (by omega)
      have z3:=wrap_id (n:=rest * 1000000000 + u2) (by omega) (by omega)
      have z4:=wrap_id (n:=g - 1) (by omega) (by omega)
      have z5:=wrap_id (n:=rest + v1) (by omega) (by omega)
      have go:(1000000000 ≤ g∨rest * 1000000000 + u2 < g * v2)→X < g * Vn∧1 ≤ g:=by
       rintro (h | h)
       ·exact ⟨kn_base (by omega) x2 h,by omega⟩
       ·refine ⟨kn_two (by omega) P0 xV vr0 xU ur1 hr h,?_⟩
        refine Int.not_lt.mp fun hlt => ?_
        have:g = 0:=by omega
        subst this
        omega
      have fin:X < g * Vn→1 ≤ g→rest + v1 = top - (g - 1) * v1∧X < (g - 1 + 1) * Vn:=fun h _ => by
       refine ⟨by rw [Int.sub_mul]; omega,by rw [Int.sub_add_cancel]; exact h⟩
      have cut:X < g * Vn→1 ≤ g→1000000000 ≤ rest + v1→g - 1 < 1000000000∧(g - 1 - 1) * Vn ≤ X:=fun h h1 hge => by
       obtain ⟨q1,q2⟩:=fin h h1
       have q3:g - 1 < 1000000000:=by
        refine Int.not_le.mp fun hn => ?_
        have:1000000000 * v1 ≤ (g - 1) * v1:=Int.mul_le_mul_of_nonneg_right hn (by omega)
        omega
       have q4:=kn_cut (g:=g - 1) (by omega) (Int.le_of_lt q3) (by decide) P0 (by omega) xV (Int.le_of_lt vr1) xU ur0 (by omega) q1 hge
       refine ⟨q3,?_⟩
       rw [Int.sub_mul (g - 1),Int.one_mul]; omega
      by_cases hB:1000000000 ≤ g
      ·obtain ⟨y1,y2⟩:=go (.inl hB)
       obtain ⟨y3,y4⟩:=fin y1 y2
       by_cases hE:1000000000 ≤ rest + v1
       ·obtain ⟨y5,y6⟩:=cut y1 y2 hE
        refine .inr ⟨_,by simp only [go_sem,p9,p10,p11,p13,p15,p16,sU,sV,d1,d2,cu3,cv1,cv2,a0,a1,a2,b0,b1',b2,b3,b4,c0,c1',c2,c3,c4,c5,c6,c7,z1,z2,z3,z4,z5,hB,hE]; rfl,by simp,_,g - 1,rfl,?_⟩
        simp only [go_sem,p8,p9,p10,p11,p12,p13]
        exact ⟨by omega,y5,y4,y6⟩
       ·refine .inl ⟨_,by simp only [go_sem,p9,p10,p11,p13,p15,p16,sU,sV,d1,d2,cu3,cv1,cv2,a0,a1,a2,b0,b1',b2,b3,b4,c0,c1',c2,c3,c4,c5,c6,c7,z1,z2,z3,z4,z5,hB,hE]; rfl,k - 1,by omega,?_⟩
        simp only [go_sem,p8,p9,p10,p11,p12,p13]
        exact ⟨_,_,rfl,rfl,by omega,by omega,y4,y3,by omega,by omega⟩
      ·by_cases hC:rest * 1000000000 + u2 < g * v2
       ·obtain ⟨y1,y2⟩:=go (.inr hC)
        obtain ⟨y3,y4⟩:=fin y1 y2
        by_cases hE:1000000000 ≤ rest + v1
        ·obtain ⟨y5,y6⟩:=cut y1 y2 hE
         refine .inr ⟨_,by simp only [go_sem,p9,p10,p11,p13,p15,p16,sU,sV,d1,d2,cu3,cv1,cv2,a0,a1,a2,b0,b1',b2,b3,b4,c0,c1',c2,c3,c4,c5,c6,c7,z1,z2,z3,z4,z5,hB,hC,hE]; rfl,by simp,_,g - 1,rfl,?_⟩
         simp only [go_sem,p8,p9,p10,p11,p12,p13]
         exact ⟨by omega,y5,y4,y6⟩
        ·refine .inl ⟨_,by simp only [go_sem,p9,p10,p11,p13,p15,p16,sU,sV,d1,d2,cu3,cv1,cv2,a0,a1,a2,b0,b1',b2,b3,b4,c0,c1',c2,c3,c4,c5,c6,c7,z1,z2,z3,z4,z5,hB,hC,hE]; rfl,k - 1,by omega,?_⟩
         simp only [go_sem,p8,p9,p10,p11,p12,p13]
         exact ⟨_,_,rfl,rfl,by omega,by omega,y4,y3,by omega,by omega⟩
       ·refine .inr ⟨_,by simp only [go_sem,p9,p10,p11,p13,p15,p16,sU,sV,d1,d2,cu3,cv1,cv2,a0,a1,a2,b0,b1',b2,b3,b4,c0,c1',c2,c3,c4,c5,c6,c7,z1,z2,z3,z4,z5,hB,hC]; rfl,by simp,_,g,rfl,?_⟩
        simp only [go_sem,p8,p9,p10,p11,p12,p13,p15]
        refine ⟨by omega,by omega,gh,?_⟩
        exact kn_lo (by omega) (by omega) (by decide) P0 (by omega) w20.1 xV vr0 (Int.le_of_lt vr1) xU ur0 hr (by omega)) (top / v1).toNat (by
      simp only [go_sem,p8,p9,p10,p11,p12,p13]
      exact ⟨_,_,rfl,rfl,by omega,g01,hi0,hdm,m0,by omega⟩)
    have hne:bu ≠ nb:=by omega
    have hneq:¬bq = bu:=by omega
    obtain ⟨lo,tt,k2,hlo,dlo,hval,ht0,ht1⟩:=otake (nx:=bq + 1) (L:=lu - j) (n:=e + 2) (g:=g) (by omega) sU sV hne hcW hWl hju (by omega) dU dW ⟨g0,gB⟩
    rw [← eun,vW,← x1] at hval
    have X0:0 ≤ X:=by rw [eX]; exact vl_nonneg (dU.drop j)
    have sl1:=slice_u sU lU (show j < lu by omega)
    have sq1:∀ x,upd σ bu x bq = some ⟨rep (j + 1) [I 0] ++ Q.flatMap cI,1,true⟩:=fun x => by rw [upd_ne _ _ hneq]; exact sq
    have sv1:∀ x,upd σ bu x nb = some ⟨P2.flatMap cI,1,true⟩:=fun x => by rw [upd_ne _ _ (Ne.symm hne)]; exact sV
    have su1:∀ x y,upd (upd σ bu x) bq y bu = x:=fun x y => by rw [upd_ne _ _ (Ne.symm hneq),upd_same]
    have sv2:∀ x y,upd (upd σ bu x) bq y nb = some ⟨P2.flatMap cI,1,true⟩:=fun x y => by rw [upd_ne _ _ (by omega)]; exact sv1 x
    have s02:∀ x y,upd (upd σ bu x) bq y 0 = some ⟨[I s],1,true⟩:=fun x y => by rw [upd_ne _ _ (by omega),upd_ne _ _ (by omega)]; exact s0
    have l1:(j:Int) < ((lu - (e + 2):Nat):Int):=by omega
    have l2:j < (rep (j + 1) [I 0] ++ Q.flatMap cI).length:=by rw [List.length_append,rep_len]; simp; omega
    have l3:=wrap_id (n:=(j:Int) - 1) (by omega) (by omega)
    have w0:=wrap_id (n:=g - 1) (by omega) (by omega)
    have gB1:g - 1 < 1000000000:=by omega
    have jl:j < lu - (e + 2):=by omega
    have jl2:j ≤ lu - (e + 2):=by omega
    have jl1:j < j + 1:=by omega
    have hLj:e + 2 < lu - j:=by omega
    rcases after_take (U:=U) (j:=j) hlo dlo hval gh gl dV Vpos g0 X0 with ⟨htt,z1,z2⟩ | ⟨htt,g1,z3⟩
    ·subst htt
     have dc:decide ((0:Int) < 0) = false:=by decide
     rw [dc] at k2
     have l4:=rep_set j (I 0) (I g) (Q.flatMap cI)
     obtain ⟨U',Q',eU',eQ',w1,w2,w3,w4,w5,w6⟩:=digit_in dU dQ lU hju lQ x6 eX hsum hlo dlo g0 gB z1 z2
     rw [eU'] at k2
     rw [eQ'] at l4
     refine ⟨_,by simp only [go_sem,sl1,call_inl,p8,p9,p10,p11,p12,p13,p15,k2,b0,l1,l2,l3,l4,sq1]; rfl,.inl ⟨_,rfl,j,jl1,?_⟩⟩
     simp only [go_sem,p8,p9,p10,p11,p12]
     exact ⟨jl2,U',Q',su1 _ _,sv2 _ _,s02 _ _,rfl,w1,w2,w3,w4,w5,w6⟩
    ·subst htt
     have dc:decide ((-1:Int) < 0) = true:=by decide
     rw [dc] at k2
     obtain ⟨U1,eU1,lU1,⟨hju1,U1g⟩,U1D,tk1,ll⟩:=lay_neg dU lU hju hlo dlo
     rw [eU1] at k2
     obtain ⟨lo',cc,k3,hlo',dlo',hval',_,_⟩:=ogive (σ:=upd σ bu (some ⟨U1.flatMap cI,1,true⟩)) (nx:=bq + 1) (L:=lu - j) (n:=e + 2) (t:=-1) hLj (upd_same _ _ _) (sv1 _) hne hcW hWl hju1 (by omega) U1D U1g (by decide) dW
     rw [tk1,vW] at hval'
     obtain ⟨hcc,z4,z5⟩:=z3 lo' cc hlo' dlo' hval'
     subst hcc
     have e11:(-1:Int) + 1 = 0:=by decide
     rw [e11,ll lo' hlo',upd_upd] at k3
     have sl2:=slice_v (b:=bu) lU1 (show j < lu by omega)
     have l4:=rep_set j (I 0) (I (g - 1)) (Q.flatMap cI)
     obtain ⟨U',Q',eU',eQ',w1,w2,w3,w4,w5,w6⟩:=digit_in dU dQ lU hju lQ x6 eX hsum hlo' dlo' g1 gB1 z4 z5
     rw [eU'] at k3
     rw [eQ'] at l4
     refine ⟨_,by simp only [go_sem,sl1,sl2,call_inl,p8,p9,p10,p11,p12,p13,p15,k2,k3,w0,b0,l1,l2,l3,l4,sq1]; rfl,.inl ⟨_,rfl,j,jl1,?_⟩⟩
     simp only [go_sem,p8,p9,p10,p11,p12]
     exact ⟨jl2,U',Q',su1 _ _,sv2 _ _,s02 _ _,rfl,w1,w2,w3,w4,w5,w6⟩) (lu - (e + 2)) (by
    clear hL
    simp only [go_sem,q8,q9,q10]
    rw [← ebq]
    have hbq:¬bu = bq:=by omega
    have hnq:¬nb = bq:=by omega
    refine ⟨rfl,rfl,dg (m * s) ++ [0],[],?_,?_,?_,by rw [upd_same]; simp,(dg_Dg _).snoc (by decide) (by decide),Dg.nil,by rw [List.length_append]; show ln (m * s) + 1 = lu; omega,by simp,?_,?_⟩
    ·rw [upd_ne _ _ hbq]; exact scu
    ·rw [upd_ne _ _ hnq]; exact scv
    ·exact sc0
    ·have hlm:(dg (m * s)).length = ln (m * s):=rfl
     rw [List.drop_append_of_le_length (by omega),vl_snoc,Int.mul_zero,Int.add_zero]
     have:=vl_lt ((dg_Dg (m * s)).drop (lu - (e + 2)))
     rw [List.length_drop,show (dg (m * s)).length - (lu - (e + 2)) = e + 1 by omega] at this
     have h3:=bp_pos (e + 1)
     omega
    ·rw [vl_snoc,vl_dg]; simp [vl])
 obtain ⟨R,eR⟩:∃ R:Nat,(R:Int) = vl U:=⟨(vl U).toNat,Int.toNat_of_nonneg (vl_nonneg dU)⟩
 obtain ⟨Qn,eQ⟩:∃ Qn:Nat,(Qn:Int) = vl Q:=⟨(vl Q).toNat,Int.toNat_of_nonneg (vl_nonneg dQ)⟩
 rw [← eR,← eQ,eV] at hsum
 rw [← eR,eV] at hlow
 have nsum:n * s * Qn + R = m * s:=by
  have h:((R + n * s * Qn:Nat):Int) = ((m * s:Nat):Int):=by
   rw [Int.natCast_add,Int.natCast_mul (n * s) Qn]; exact hsum
  have:=Int.ofNat_inj.mp h
  omega
 have nlow:R < n * s:=Int.ofNat_lt.mp hlow
 have s0':0 < s:=by omega
 have hq:Qn = m / n:=by
  rw [← Nat.mul_div_mul_right m n s0',← nsum,Nat.mul_add_div (Nat.mul_pos (by omega) s0'),Nat.div_eq_of_lt nlow]; rfl
 have hr:R = m % n * s:=by
  rw [← Nat.mul_mod_mul_right,← nsum,Nat.mul_add_mod_self_left,Nat.mod_eq_of_lt nlow]
 have hrs:R / s = m % n:=by rw [hr,Nat.mul_div_cancel _ s0']
 have lR:ln R ≤ 1000002:=Nat.le_trans (prefix_dg dU eR.symm).2 (by omega)
 have hns:n * s ≤ m * s:=Nat.mul_le_mul_right _ hle
 have lR2:ln R ≤ 1000000:=by
  have h1:=ln_mono (Nat.le_of_lt nlow)
  rw [hln] at h1
  omega
 obtain ⟨σ3,t3,tb3⟩:=osmall R s (by show ln R ≤ _; omega) (by omega) hs9 (bq + 1)
 have gt3:=gather_own (off:=0) (len:=ln (R / s)) 5 tb3
 have tr1:=otrim (σ:=restrict σd [bu]) (nx:=bq + 1) (b:=bu) (xs:=U) (by rw [restrict_one]; exact sU) (by unfold Short; omega)
 rw [trim_vl' (n:=R) dU eR.symm,lU,show (dg R).length = ln R from rfl] at tr1
 have pr:patchS [bu] (bq + 1) (bq + 1) σd (restrict σd [bu]) = σd:=by
  funext i
  unfold patchS restrict
  by_cases h:i = bu
  ·subst h; simp
  ·rw [if_neg (by simp only [List.mem_singleton,h,false_or]; omega)]
 obtain ⟨pf1,pf2⟩:=prefix_dg dU eR.symm
 have d1:bu < bq + 1:=by omega
 have d0:0 < bq + 1:=by omega
 have st1:strip σd (6 + 1) (.rs bu 0 (ln R)) = some (LI (dg R),[bu]):=by
  rw [strip_rs,sU]
  simp only [Option.bind_some,Nat.mul_one,Nat.zero_add,List.drop_zero,cI_len]
  rw [if_pos pf2,pf1,cI_strip']
  rfl
 obtain ⟨σe,eσe⟩:∃ σe,σe = drawJ (bq + 1) (bq + 1 + 1) σd σ3 [bq + 1]:=⟨_,rfl⟩
 have sq':σe bq = some ⟨Q.flatMap cI,1,true⟩:=by rw [eσe,dj_lt (by omega)]; exact sq
 have sr':σe (bq + 1) = some ⟨(pad (R / s) (dg R).length).flatMap cI,1,true⟩:=by rw [eσe,dj_in (by omega) (by omega) (by simp)]; exact tb3
 have tr2:=otrim (σ:=σe) (nx:=bq + 1 + 1) (b:=bq) (xs:=Q) sq' (by unfold Short; omega)
 rw [trim_vl' (n:=Qn) dQ eQ.symm,lQ,show (dg Qn).length = ln Qn from rfl] at tr2
 obtain ⟨pq1,pq2⟩:=prefix_dg dQ eQ.symm
 have sq2:strip σe (5 + 1) (.rs bq 0 (ln Qn)) = some (LI (dg Qn),[bq]):=by
  rw [strip_rs,sq']
  simp only [Option.bind_some,Nat.mul_one,Nat.zero_add,List.drop_zero,cI_len]
  rw [if_pos pq2,pq1,cI_strip']
  rfl
 have sr2:strip σe (5 + 1) (.rs (bq + 1) 0 (ln (R / s))) = some (LI (dg (R / s)),[bq + 1]):=by
  obtain ⟨pp1,pp2⟩:=prefix_dg (xs:=pad (R / s) (dg R).length) (n:=R / s) (pad_Dg _ _) (pad_vl _ _ (Nat.lt_of_le_of_lt (Nat.div_le_self _ _) dg_lt))
  rw [strip_rs,sr']
  simp only [Option.bind_some,Nat.mul_one,Nat.zero_add,List.drop_zero,cI_len]
  rw [if_pos pp2,pp1,cI_strip']
  rfl
 have z0:(0:Int) ≤ 0:=by decide
 have z1:(0:Int) < 1:=by decide
 have z3:(0:Int).toNat = 0:=id rfl
 have bu0:(bu == 0) = false:=by rw [beq_eq_false_iff_ne]; omega
 rw [← hq,← hrs]
 simp only [go_sem,call_inl,p8,p9,p10,p12,sU,s0,tr1,pr,d1,d0,st1,t3,gt3,← eσe,tr2,sq2,sr2,z0,z1,z3,bu0]
end Go.Proofs.YtoccmbjfkbemcaaGreat
namespace Go.Proofs.YtoccmbjfkbemcaaGreat
open Go Go.TV
theorem iCloneDg (m:Nat) (h:ln m ≤ 1000000):fn Tryz.prog conv ext 60 [LI (dg m)] = some (LI (dg m)):=iClone (dg m) (by show ln m ≤ _; omega)
theorem ooverAll (m n:Nat) (hm:ln m ≤ 1000000) (h0:n ≠ 0) (hn:ln n ≤ 1000000):fn Tryz.prog convO extO 108 [LI (dg m),LI (dg n)] = some (.tup [LI (dg (m / n)),LI (dg (m % n))]):=by
 by_cases hlt:m < n
 ·have k1:=icompareL m n hm hn
  have k2:=iCloneDg m hm
  have hc:cmpN m n = -1:=by unfold cmpN; rw [if_pos hlt]
  have m1:(-1:Int) < 0:=by decide
  rw [hc] at k1
  rw [Nat.div_eq_of_lt hlt,Nat.mod_eq_of_lt hlt,dg_zero]
  rw [fn_eq,ev_eqQ (rs:=[.tmp 4,.tmp 5]) [15,16,17,25] rfl Tryz.func108 rfl rfl (by kernel_rfl) (by kernel_rfl)]
  (simp only [go_sem,k1,k2,m1]) <;> rfl
 by_cases h2:2 ≤ ln n
 ·exact oover m n hm h2 (by omega)
 have hp:=ln_pos h0
 have hn1:n < 1000000000:=by
  have:=(ln_le_iff (n:=n) (k:=1)).mp (by omega)
  have e:bp 1 = 1000000000:=by decide
  rw [e] at this
  omega
 have k1:=icompareL m n hm hn
 have hc:¬cmpN m n < 0:=by unfold cmpN; rw [if_neg hlt]; split <;> decide
 obtain ⟨σ3,t3,tb3⟩:=osmall m n hm h0 hn1 0
 have gt3:=gather_own (off:=0) (len:=ln (m / n)) 5 tb3
 have hr:m % n < n:=Nat.mod_lt _ (by omega)
 have k4:=ilimbs (m % n) (by omega)
 have w1:=wrap_u64 (n:=((m % n:Nat):Int)) (by omega) (by omega)
 have z1:(0:Int) < 1:=by decide
 have z2:(0:Int) ≤ 0:=by decide
 have z3:(0:Int).toNat = 0:=id rfl
 obtain ⟨pp1,pp2⟩:=prefix_dg (xs:=pad (m / n) (dg m).length) (n:=m / n) (pad_Dg _ _) (pad_vl _ _ (Nat.lt_of_le_of_lt (Nat.div_le_self _ _) dg_lt))
 have st:strip (joinS 0 noStore σ3 [0]) (5 + 1) (.rs 0 0 (ln (m / n))) = some (LI (dg (m / n)),[0]):=by
  rw [strip_rs,join_in (by decide) (by simp),tb3]
  simp only [Option.bind_some,Nat.mul_one,Nat.zero_add,List.drop_zero,cI_len]
  rw [if_pos pp2,pp1,cI_strip']
  rfl
 rw [dg_one h0 hn1] at k1 ⊢
 have k1':fn Tryz.prog conv ext 107 [LI (dg m),.ts [I n] 1] = some (I (cmpN m n)):=k1
 rw [fn_eq,ev_eqQ (rs:=[.tmp 4,.tmp 5]) [15,16,17,25] rfl Tryz.func108 rfl rfl (by kernel_rfl) (by kernel_rfl)]
 simp only [go_sem,k1',hc,z1,z2,z3,t3,gt3,w1,k4,st]
end Go.Proofs.YtoccmbjfkbemcaaGreat
namespace Go.Proofs.YtoccmbjfkbemcaaGreat
open Go Go.TV
abbrev topL:List Nat:=[3,4,8,11,12,13,23,34,47,48,61,70,71,73,76,77,79,83,86,87,88,89,90,92,95,96,102,105,106,115,116,119,126,127]
def convL:FuncId→Conv:=fun f => if f ∈ ([]:List Nat) then .own else if f ∈ ([86,87,102,105]:List Nat) then .inl else .imm
noncomputable def extL:Ext:=fun f => if f = 108 then some (fun args σ nx => ev Tryz.prog convO extO 108 args σ nx) else if f ∈ topL then none else some fun args σ nx => ev Tryz.prog conv ext f args σ nx
theorem extLOk:ExtOk Tryz.prog extL:=fun f g h args σ nx v σ' nx' hg => by
 unfold extL at h
 split at h
 ·rename_i hf
  subst hf
  cases h
  exact ev_sound (by kernel_rfl) extOOk 108 args σ nx v σ' nx' hg
 ·split at h
  ·cases h
  ·cases h
   exact ev_sound (by kernel_rfl) extOk f args σ nx v σ' nx' hg
theorem fnL {f:FuncId} (h:(f == 108 || List.contains topL f) = false) (ts:List V):fn Tryz.prog convL extL f ts = fn Tryz.prog conv ext f ts:=by
 rw [Bool.or_eq_false_iff] at h
 have h1:¬f = 108:=fun e => by subst e; simp at h
 have h2:¬f ∈ topL:=fun e => by rw [List.contains_iff_mem.mpr e] at h; cases h.2
 rw [fn_eq,fn_eq,ev_ext (g:=fun args σ nx => ev Tryz.prog conv ext f args σ nx) (by unfold extL; rw [if_neg h1,if_neg h2])]
theorem fnL_over (ts:List V):fn Tryz.prog convL extL 108 ts = fn Tryz.prog convO extO 108 ts:=by
 rw [fn_eq,fn_eq,ev_ext (g:=fun args σ nx => ev Tryz.prog convO extO 108 args σ nx) (by unfold extL; rw [if_pos rfl])]
theorem fnL5 (ts:List V):fn Tryz.prog convL extL 5 ts = fn Tryz.prog conv ext 5 ts:=fnL rfl ts
theorem fnL6 (ts:List V):fn Tryz.prog convL extL 6 ts = fn Tryz.prog conv ext 6 ts:=fnL rfl ts
theorem fnL7 (ts:List V):fn Tryz.prog convL extL 7 ts = fn Tryz.prog conv ext 7 ts:=fnL rfl ts
theorem fnL10 (ts:List V):fn Tryz.prog convL extL 10 ts = fn Tryz.prog conv ext 10 ts:=fnL rfl ts
theorem fnL14 (ts:List V):fn Tryz.prog convL extL 14 ts = fn Tryz.prog conv ext 14 ts:=fnL rfl ts
theorem fnL15 (ts:List V):fn Tryz.prog convL extL 15 ts = fn Tryz.prog conv ext 15 ts:=fnL rfl ts
theorem fnL16 (ts:List V):fn Tryz.prog convL extL 16 ts = fn Tryz.prog conv ext 16 ts:=fnL rfl ts
theorem fnL17 (ts:List V):fn Tryz.prog convL extL 17 ts = fn Tryz.prog conv ext 17 ts:=fnL rfl ts
theorem fnL18 (ts:List V):fn Tryz.prog convL extL 18 ts = fn Tryz.prog conv ext 18 ts:=fnL rfl ts
theorem fnL19 (ts:List V):fn Tryz.prog convL extL 19 ts = fn Tryz.prog conv ext 19 ts:=fnL rfl ts
theorem fnL20 (ts:List V):fn Tryz.prog convL extL 20 ts = fn Tryz.prog conv ext 20 ts:=fnL rfl ts
theorem fnL21 (ts:List V):fn Tryz.prog convL extL 21 ts = fn Tryz.prog conv ext 21 ts:=fnL rfl ts
theorem fnL22 (ts:List V):fn Tryz.prog convL extL 22 ts = fn Tryz.prog conv ext 22 ts:=fnL rfl ts
theorem fnL24 (ts:List V):fn Tryz.prog convL extL 24 ts = fn Tryz.prog conv ext 24 ts:=fnL rfl ts
theorem fnL25 (ts:List V):fn Tryz.prog convL extL 25 ts = fn Tryz.prog conv ext 25 ts:=fnL rfl ts
theorem fnL26 (ts:List V):fn Tryz.prog convL extL 26 ts = fn Tryz.prog conv ext 26 ts:=fnL rfl ts
theorem fnL27 (ts:List V):fn Tryz.prog convL extL 27 ts = fn Tryz.prog conv ext 27 ts:=fnL rfl ts
theorem fnL28 (ts:List V):fn Tryz.prog convL extL 28 ts = fn Tryz.prog conv ext 28 ts:=fnL rfl ts
theorem fnL29 (ts:List V):fn Tryz.prog convL extL 29 ts = fn Tryz.prog conv ext 29 ts:=fnL rfl ts
theorem fnL30 (ts:List V):fn Tryz.prog convL extL 30 ts = fn Tryz.prog conv ext 30 ts:=fnL rfl ts
theorem fnL31 (ts:List V):fn Tryz.prog convL extL 31 ts = fn Tryz.prog conv ext 31 ts:=fnL rfl ts
theorem fnL32 (ts:List V):fn Tryz.prog convL extL 32 ts = fn Tryz.prog conv ext 32 ts:=fnL rfl ts
theorem fnL33 (ts:List V):fn Tryz.prog convL extL 33 ts = fn Tryz.prog conv ext 33 ts:=fnL rfl ts
theorem fnL35 (ts:List V):fn Tryz.prog convL extL 35 ts = fn Tryz.prog conv ext 35 ts:=fnL rfl ts
theorem fnL36 (ts:List V):fn Tryz.prog convL extL 36 ts = fn Tryz.prog conv ext 36 ts:=fnL rfl ts
theorem fnL37 (ts:List V):fn Tryz.prog convL extL 37 ts = fn Tryz.prog conv ext 37 ts:=fnL rfl ts
theorem fnL38 (ts:List V):fn Tryz.prog convL extL 38 ts = fn Tryz.prog conv ext 38 ts:=fnL rfl ts
theorem fnL39 (ts:List V):fn Tryz.prog convL extL 39 ts = fn Tryz.prog conv ext 39 ts:=fnL rfl ts
theorem fnL40 (ts:List V):fn Tryz.prog convL extL 40 ts = fn Tryz.prog conv ext 40 ts:=fnL rfl ts
theorem fnL41 (ts:List V):fn Tryz.prog convL extL 41 ts = fn Tryz.prog conv ext 41 ts:=fnL rfl ts
theorem fnL42 (ts:List V):fn Tryz.prog convL extL 42 ts = fn Tryz.prog conv ext 42 ts:=fnL rfl ts
theorem fnL43 (ts:List V):fn Tryz.prog convL extL 43 ts = fn Tryz.prog conv ext 43 ts:=fnL rfl ts
theorem fnL44 (ts:List V):fn Tryz.prog convL extL 44 ts = fn Tryz.prog conv ext 44 ts:=fnL rfl ts
theorem fnL45 (ts:List V):fn Tryz.prog convL extL 45 ts = fn Tryz.prog conv ext 45 ts:=fnL rfl ts
theorem fnL46 (ts:List V):fn Tryz.prog convL extL 46 ts = fn Tryz.prog conv ext 46 ts:=fnL rfl ts
theorem fnL49 (ts:List V):fn Tryz.prog convL extL 49 ts = fn Tryz.prog conv ext 49 ts:=fnL rfl ts
theorem fnL50 (ts:List V):fn Tryz.prog convL extL 50 ts = fn Tryz.prog conv ext 50 ts:=fnL rfl ts
theorem fnL51 (ts:List V):fn Tryz.prog convL extL 51 ts = fn Tryz.prog conv ext 51 ts:=fnL rfl ts
theorem fnL52 (ts:List V):fn Tryz.prog convL extL 52 ts = fn Tryz.prog conv ext 52 ts:=fnL rfl ts
theorem fnL53 (ts:List V):fn Tryz.prog convL extL 53 ts = fn Tryz.prog conv ext 53 ts:=fnL rfl ts
theorem fnL54 (ts:List V):fn Tryz.prog convL extL 54 ts = fn Tryz.prog conv ext 54 ts:=fnL rfl ts
theorem fnL55 (ts:List V):fn Tryz.prog convL extL 55 ts = fn Tryz.prog conv ext 55 ts:=fnL rfl ts
theorem fnL56 (ts:List V):fn Tryz.prog convL extL 56 ts = fn Tryz.prog conv ext 56 ts:=fnL rfl ts
theorem fnL57 (ts:List V):fn Tryz.prog convL extL 57 ts = fn Tryz.prog conv ext 57 ts:=fnL rfl ts
theorem fnL58 (ts:List V):fn Tryz.prog convL extL 58 ts = fn Tryz.prog conv ext 58 ts:=fnL rfl ts
theorem fnL59 (ts:List V):fn Tryz.prog convL extL 59 ts = fn Tryz.prog conv ext 59 ts:=fnL rfl ts
theorem fnL60 (ts:List V):fn Tryz.prog convL extL 60 ts = fn Tryz.prog conv ext 60 ts:=fnL rfl ts
theorem fnL63 (ts:List V):fn Tryz.prog convL extL 63 ts = fn Tryz.prog conv ext 63 ts:=fnL rfl ts
theorem fnL64 (ts:List V):fn Tryz.prog convL extL 64 ts = fn Tryz.prog conv ext 64 ts:=fnL rfl ts
theorem fnL65 (ts:List V):fn Tryz.prog convL extL 65 ts = fn Tryz.prog conv ext 65 ts:=fnL rfl ts
theorem fnL66 (ts:List V):fn Tryz.prog convL extL 66 ts = fn Tryz.prog conv ext 66 ts:=fnL rfl ts
theorem fnL67 (ts:List V):fn Tryz.prog convL extL 67 ts = fn Tryz.prog conv ext 67 ts:=fnL rfl ts
theorem fnL68 (ts:List V):fn Tryz.prog convL extL 68 ts = fn Tryz.prog conv ext 68 ts:=fnL rfl ts
theorem fnL69 (ts:List V):fn Tryz.prog convL extL 69 ts = fn Tryz.prog conv ext 69 ts:=fnL rfl ts
theorem fnL72 (ts:List V):fn Tryz.prog convL extL 72 ts = fn Tryz.prog conv ext 72 ts:=fnL rfl ts
theorem fnL74 (ts:List V):fn Tryz.prog convL extL 74 ts = fn Tryz.prog conv ext 74 ts:=fnL rfl ts
theorem fnL75 (ts:List V):fn Tryz.prog convL extL 75 ts = fn Tryz.prog conv ext 75 ts:=fnL rfl ts
theorem fnL78 (ts:List V):fn Tryz.prog convL extL 78 ts = fn Tryz.prog conv ext 78 ts:=fnL rfl ts
theorem fnL80 (ts:List V):fn Tryz.prog convL extL 80 ts = fn Tryz.prog conv ext 80 ts:=fnL rfl ts
theorem fnL81 (ts:List V):fn Tryz.prog convL extL 81 ts = fn Tryz.prog conv ext 81 ts:=fnL rfl ts
theorem fnL82 (ts:List V):fn Tryz.prog convL extL 82 ts = fn Tryz.prog conv ext 82 ts:=fnL rfl ts
theorem fnL84 (ts:List V):fn Tryz.prog convL extL 84 ts = fn Tryz.prog conv ext 84 ts:=fnL rfl ts
theorem fnL85 (ts:List V):fn Tryz.prog convL extL 85 ts = fn Tryz.prog conv ext 85 ts:=fnL rfl ts
theorem fnL91 (ts:List V):fn Tryz.prog convL extL 91 ts = fn Tryz.prog conv ext 91 ts:=fnL rfl ts
theorem fnL93 (ts:List V):fn Tryz.prog convL extL 93 ts = fn Tryz.prog conv ext 93 ts:=fnL rfl ts
theorem fnL94 (ts:List V):fn Tryz.prog convL extL 94 ts = fn Tryz.prog conv ext 94 ts:=fnL rfl ts
theorem fnL97 (ts:List V):fn Tryz.prog convL extL 97 ts = fn Tryz.prog conv ext 97 ts:=fnL rfl ts
theorem fnL98 (ts:List V):fn Tryz.prog convL extL 98 ts = fn Tryz.prog conv ext 98 ts:=fnL rfl ts
theorem fnL99 (ts:List V):fn Tryz.prog convL extL 99 ts = fn Tryz.prog conv ext 99 ts:=fnL rfl ts
theorem fnL100 (ts:List V):fn Tryz.prog convL extL 100 ts = fn Tryz.prog conv ext 100 ts:=fnL rfl ts
theorem fnL101 (ts:List V):fn Tryz.prog convL extL 101 ts = fn Tryz.prog conv ext 101 ts:=fnL rfl ts
theorem fnL103 (ts:List V):fn Tryz.prog convL extL 103 ts = fn Tryz.prog conv ext 103 ts:=fnL rfl ts
theorem fnL104 (ts:List V):fn Tryz.prog convL extL 104 ts = fn Tryz.prog conv ext 104 ts:=fnL rfl ts
theorem fnL107 (ts:List V):fn Tryz.prog convL extL 107 ts = fn Tryz.prog conv ext 107 ts:=fnL rfl ts
theorem fnL109 (ts:List V):fn Tryz.prog convL extL 109 ts = fn Tryz.prog conv ext 109 ts:=fnL rfl ts
theorem fnL110 (ts:List V):fn Tryz.prog convL extL 110 ts = fn Tryz.prog conv ext 110 ts:=fnL rfl ts
theorem fnL111 (ts:List V):fn Tryz.prog convL extL 111 ts = fn Tryz.prog conv ext 111 ts:=fnL rfl ts
theorem fnL112 (ts:List V):fn Tryz.prog convL extL 112 ts = fn Tryz.prog conv ext 112 ts:=fnL rfl ts
theorem fnL113 (ts:List V):fn Tryz.prog convL extL 113 ts = fn Tryz.prog conv ext 113 ts:=fnL rfl ts
theorem fnL114 (ts:List V):fn Tryz.prog convL extL 114 ts = fn Tryz.prog conv ext 114 ts:=fnL rfl ts
theorem fnL117 (ts:List V):fn Tryz.prog convL extL 117 ts = fn Tryz.prog conv ext 117 ts:=fnL rfl ts
theorem fnL118 (ts:List V):fn Tryz.prog convL extL 118 ts = fn Tryz.prog conv ext 118 ts:=fnL rfl ts
theorem fnL120 (ts:List V):fn Tryz.prog convL extL 120 ts = fn Tryz.prog conv ext 120 ts:=fnL rfl ts
theorem fnL121 (ts:List V):fn Tryz.prog convL extL 121 ts = fn Tryz.prog conv ext 121 ts:=fnL rfl ts
theorem fnL122 (ts:List V):fn Tryz.prog convL extL 122 ts = fn Tryz.prog conv ext 122 ts:=fnL rfl ts
theorem fnL123 (ts:List V):fn Tryz.prog convL extL 123 ts = fn Tryz.prog conv ext 123 ts:=fnL rfl ts
theorem fnL124 (ts:List V):fn Tryz.prog convL extL 124 ts = fn Tryz.prog conv ext 124 ts:=fnL rfl ts
theorem fnL125 (ts:List V):fn Tryz.prog convL extL 125 ts = fn Tryz.prog conv ext 125 ts:=fnL rfl ts
theorem fnL128 (ts:List V):fn Tryz.prog convL extL 128 ts = fn Tryz.prog conv ext 128 ts:=fnL rfl ts
theorem fnL129 (ts:List V):fn Tryz.prog convL extL 129 ts = fn Tryz.prog conv ext 129 ts:=fnL rfl ts
theorem fnL130 (ts:List V):fn Tryz.prog convL extL 130 ts = fn Tryz.prog conv ext 130 ts:=fnL rfl ts
theorem cvL4:convL 4 = .imm:=id rfl
theorem cvL5:convL 5 = .imm:=id rfl
theorem cvL6:convL 6 = .imm:=id rfl
theorem cvL7:convL 7 = .imm:=id rfl
theorem cvL10:convL 10 = .imm:=id rfl
theorem cvL12:convL 12 = .imm:=id rfl
theorem cvL13:convL 13 = .imm:=id rfl
theorem cvL14:convL 14 = .imm:=id rfl
theorem cvL15:convL 15 = .imm:=id rfl
theorem cvL16:convL 16 = .imm:=id rfl
theorem cvL17:convL 17 = .imm:=id rfl
theorem cvL18:convL 18 = .imm:=id rfl
theorem cvL19:convL 19 = .imm:=id rfl
theorem cvL20:convL 20 = .imm:=id rfl
theorem cvL21:convL 21 = .imm:=id rfl
theorem cvL22:convL 22 = .imm:=id rfl
theorem cvL23:convL 23 = .imm:=id rfl
theorem cvL24:convL 24 = .imm:=id rfl
theorem cvL25:convL 25 = .imm:=id rfl
theorem cvL26:convL 26 = .imm:=id rfl
theorem cvL27:convL 27 = .imm:=id rfl
theorem cvL28:convL 28 = .imm:=id rfl
theorem cvL29:convL 29 = .imm:=id rfl
theorem cvL30:convL 30 = .imm:=id rfl
theorem cvL31:convL 31 = .imm:=id rfl
theorem cvL32:convL 32 = .imm:=id rfl
theorem cvL33:convL 33 = .imm:=id rfl
theorem cvL34:convL 34 = .imm:=id rfl
theorem cvL35:convL 35 = .imm:=id rfl
theorem cvL36:convL 36 = .imm:=id rfl
theorem cvL37:convL 37 = .imm:=id rfl
theorem cvL38:convL 38 = .imm:=id rfl
theorem cvL39:convL 39 = .imm:=id rfl
theorem cvL40:convL 40 = .imm:=id rfl
theorem cvL41:convL 41 = .imm:=id rfl
theorem cvL42:convL 42 = .imm:=id rfl
theorem cvL43:convL 43 = .imm:=id rfl
theorem cvL44:convL 44 = .imm:=id rfl
theorem cvL45:convL 45 = .imm:=id rfl
theorem cvL46:convL 46 = .imm:=id rfl
theorem cvL47:convL 47 = .imm:=id rfl
theorem cvL48:convL 48 = .imm:=id rfl
theorem cvL49:convL 49 = .imm:=id rfl
theorem cvL50:convL 50 = .imm:=id rfl
theorem cvL51:convL 51 = .imm:=id rfl
theorem cvL52:convL 52 = .imm:=id rfl
theorem cvL53:convL 53 = .imm:=id rfl
theorem cvL54:convL 54 = .imm:=id rfl
theorem cvL55:convL 55 = .imm:=id rfl
theorem cvL56:convL 56 = .imm:=id rfl
theorem cvL57:convL 57 = .imm:=id rfl
theorem cvL58:convL 58 = .imm:=id rfl
theorem cvL59:convL 59 = .imm:=id rfl
theorem cvL60:convL 60 = .imm:=id rfl
theorem cvL61:convL 61 = .imm:=id rfl
theorem cvL63:convL 63 = .imm:=id rfl
theorem cvL64:convL 64 = .imm:=id rfl
theorem cvL65:convL 65 = .imm:=id rfl
theorem cvL66:convL 66 = .imm:=id rfl
theorem cvL67:convL 67 = .imm:=id rfl
theorem cvL68:convL 68 = .imm:=id rfl
theorem cvL69:convL 69 = .imm:=id rfl
theorem cvL70:convL 70 = .imm:=id rfl
theorem cvL71:convL 71 = .imm:=id rfl
theorem cvL72:convL 72 = .imm:=id rfl
theorem cvL73:convL 73 = .imm:=id rfl
theorem cvL74:convL 74 = .imm:=id rfl
theorem cvL75:convL 75 = .imm:=id rfl
theorem cvL76:convL 76 = .imm:=id rfl
theorem cvL77:convL 77 = .imm:=id rfl
theorem cvL78:convL 78 = .imm:=id rfl
theorem cvL79:convL 79 = .imm:=id rfl
theorem cvL80:convL 80 = .imm:=id rfl
theorem cvL81:convL 81 = .imm:=id rfl
theorem cvL82:convL 82 = .imm:=id rfl
theorem cvL83:convL 83 = .imm:=id rfl
theorem cvL84:convL 84 = .imm:=id rfl
theorem cvL85:convL 85 = .imm:=id rfl
theorem cvL86:convL 86 = .inl:=id rfl
theorem cvL87:convL 87 = .inl:=id rfl
theorem cvL88:convL 88 = .imm:=id rfl
theorem cvL89:convL 89 = .imm:=id rfl
theorem cvL90:convL 90 = .imm:=id rfl
theorem cvL91:convL 91 = .imm:=id rfl
theorem cvL92:convL 92 = .imm:=id rfl
theorem cvL93:convL 93 = .imm:=id rfl
theorem cvL94:convL 94 = .imm:=id rfl
theorem cvL95:convL 95 = .imm:=id rfl
theorem cvL96:convL 96 = .imm:=id rfl
theorem cvL97:convL 97 = .imm:=id rfl
theorem cvL98:convL 98 = .imm:=id rfl
theorem cvL99:convL 99 = .imm:=id rfl
theorem cvL100:convL 100 = .imm:=id rfl
theorem cvL101:convL 101 = .imm:=id rfl
theorem cvL102:convL 102 = .inl:=id rfl
theorem cvL103:convL 103 = .imm:=id rfl
theorem cvL104:convL 104 = .imm:=id rfl
theorem cvL105:convL 105 = .inl:=id rfl
theorem cvL106:convL 106 = .imm:=id rfl
theorem cvL107:convL 107 = .imm:=id rfl
theorem cvL108:convL 108 = .imm:=id rfl
theorem cvL109:convL 109 = .imm:=id rfl
theorem cvL110:convL 110 = .imm:=id rfl
theorem cvL111:convL 111 = .imm:=id rfl
theorem cvL112:convL 112 = .imm:=id rfl
theorem cvL113:convL 113 = .imm:=id rfl
theorem cvL114:convL 114 = .imm:=id rfl
theorem cvL115:convL 115 = .imm:=id rfl
theorem cvL116:convL 116 = .imm:=id rfl
theorem cvL117:convL 117 = .imm:=id rfl
theorem cvL118:convL 118 = .imm:=id rfl
theorem cvL119:convL 119 = .imm:=id rfl
theorem cvL120:convL 120 = .imm:=id rfl
theorem cvL121:convL 121 = .imm:=id rfl
theorem cvL122:convL 122 = .imm:=id rfl
theorem cvL123:convL 123 = .imm:=id rfl
theorem cvL124:convL 124 = .imm:=id rfl
theorem cvL125:convL 125 = .imm:=id rfl
theorem cvL126:convL 126 = .imm:=id rfl
theorem cvL127:convL 127 = .imm:=id rfl
theorem cvL128:convL 128 = .imm:=id rfl
theorem cvL129:convL 129 = .imm:=id rfl
theorem cvL130:convL 130 = .imm:=id rfl
attribute [go_sem] fnL_over fnL5 fnL6 fnL7 fnL10 fnL14 fnL15 fnL16 fnL17 fnL18 fnL19 fnL20 fnL21 fnL22 fnL24 fnL25 fnL26 fnL27 fnL28 fnL29 fnL30 fnL31 fnL32 fnL33 fnL35 fnL36 fnL37 fnL38 fnL39 fnL40 fnL41 fnL42 fnL43 fnL44 fnL45 fnL46 fnL49 fnL50 fnL51 fnL52 fnL53 fnL54 fnL55 fnL56 fnL57 fnL58 fnL59 fnL60 fnL63 fnL64 fnL65 fnL66 fnL67 fnL68 fnL69 fnL72 fnL74 fnL75 fnL78 fnL80 fnL81 fnL82 fnL84 fnL85 fnL91 fnL93 fnL94 fnL97 fnL98 fnL99 fnL100 fnL101 fnL103 fnL104 fnL107 fnL109 fnL110 fnL111 fnL112 fnL113 fnL114 fnL117 fnL118 fnL120 fnL121 fnL122 fnL123 fnL124 fnL125 fnL128 fnL129 fnL130
attribute [go_sem] cvL4 cvL5 cvL6 cvL7 cvL10 cvL12 cvL13 cvL14 cvL15 cvL16 cvL17 cvL18 cvL19 cvL20 cvL21 cvL22 cvL23 cvL24 cvL25 cvL26 cvL27 cvL28 cvL29 cvL30 cvL31 cvL32 cvL33 cvL34 cvL35 cvL36 cvL37 cvL38 cvL39 cvL40 cvL41 cvL42 cvL43 cvL44 cvL45 cvL46 cvL47 cvL48 cvL49 cvL50 cvL51 cvL52 cvL53 cvL54 cvL55 cvL56 cvL57 cvL58 cvL59 cvL60 cvL61 cvL63 cvL64 cvL65 cvL66 cvL67 cvL68 cvL69 cvL70 cvL71 cvL72 cvL73 cvL74 cvL75 cvL76 cvL77 cvL78 cvL79 cvL80 cvL81 cvL82 cvL83 cvL84 cvL85 cvL86 cvL87 cvL88 cvL89 cvL90 cvL91 cvL92 cvL93 cvL94 cvL95 cvL96 cvL97 cvL98 cvL99 cvL100 cvL101 cvL102 cvL103 cvL104 cvL105 cvL106 cvL107 cvL108 cvL109 cvL110 cvL111 cvL112 cvL113 cvL114 cvL115 cvL116 cvL117 cvL118 cvL119 cvL120 cvL121 cvL122 cvL123 cvL124 cvL125 cvL126 cvL127 cvL128 cvL129 cvL130
end Go.Proofs.YtoccmbjfkbemcaaGreat
namespace Go.Proofs.YtoccmbjfkbemcaaGreat
open Go Go.TV
theorem lover (m n:Nat) (hm:ln m ≤ 1000000) (h0:n ≠ 0) (hn:ln n ≤ 1000000):fn Tryz.prog convL extL 108 [LI (dg m),LI (dg n)] = some (.tup [LI (dg (m / n)),LI (dg (m % n))]):=by
 rw [fnL_over,ooverAll m n hm h0 hn]
theorem ldivisor (m n:Nat) (hm:ln m ≤ 1000000) (hn:ln n ≤ 1000000):fn Tryz.prog convL extL 106 [LI (dg m),LI (dg n)] = some (LI (dg (Nat.gcd m n))):=by
 have ho:=lover
 rw [fn_eq,ev_eqQ (rs:=[.tmp 4]) [] rfl Tryz.func106 rfl rfl (by kernel_rfl) (by kernel_rfl)]
 simp only [go_sem]
 generalize hL:evLoopI _ _ = y
 obtain ⟨r,rfl,T',rfl,h0⟩:=loop_rule hL (fun b st => st.nx = 0∧st.σ = noStore∧ln b ≤ 1000000∧∃ a:Nat,ln a ≤ 1000000∧st.T 0 = LI (dg a)∧st.T 1 = LI (dg b)∧Nat.gcd a b = Nat.gcd m n)
  (fun r => ∃ T,r = (.exit 0,⟨T,noStore,0⟩)∧T 0 = LI (dg (Nat.gcd m n))) (by
   clear hL
   rintro b ⟨T,σ,nx⟩ ⟨hnx,hσ,hb,a,ha,h0,h1,hg⟩
   simp only at hnx hσ h0 h1
   subst hnx hσ
   by_cases hz:b = 0
   ·subst hz
    rw [dg_zero] at h1
    have h1':T 1 = .ts [] 0:=h1
    have f0:¬(0:Int) < 0:=by decide
    rw [Nat.gcd_zero_right] at hg
    exact .inr ⟨_,by simp only [go_sem,h1',f0]; rfl,by simp,_,rfl,by simp only [go_sem,h0,hg]⟩
   ·have f0:(0:Int) < ((dg b).length:Int):=by have:=List.length_pos_iff.mpr (dg_ne hz); omega
    have k1:=ho a b ha hz hb
    rw [fnL_over] at k1
    have hlt:a % b < b:=Nat.mod_lt _ (by omega)
    refine .inl ⟨_,by simp only [go_sem,h0,h1,f0,k1]; rfl,a % b,hlt,?_⟩
    simp only [go_sem]
    refine ⟨Nat.le_trans (ln_mono (Nat.le_of_lt hlt)) hb,b,hb,rfl,?_⟩
    rw [← hg,Nat.gcd_comm a b,Nat.gcd_rec b a,Nat.gcd_comm]) n ⟨rfl,rfl,hn,m,hm,by simp only [go_sem],by simp only [go_sem],rfl⟩
 simp only [go_sem,h0]
theorem tdiv_sgn (x y:Int):sgnN (decide (x < 0) != decide (y < 0)) (x.natAbs / y.natAbs) = x.tdiv y:=by
 obtain ⟨a,ha | ha⟩:=Int.eq_nat_or_neg x <;> obtain ⟨b,hb | hb⟩:=Int.eq_nat_or_neg y <;> subst ha hb
 ·have h1:decide ((a:Int) < 0) = false:=by simp
  have h2:decide ((b:Int) < 0) = false:=by simp
  rw [h1,h2,Int.natAbs_natCast,Int.natAbs_natCast]
  unfold sgnN; simp [Int.ofNat_tdiv]
 ·by_cases h:b = 0
  ·subst h; simp [sgnN]
  ·have h1:decide ((a:Int) < 0) = false:=by simp
   have h2:decide (-(b:Int) < 0) = true:=by simp; omega
   rw [h1,h2,Int.natAbs_natCast,Int.natAbs_neg,Int.natAbs_natCast,Int.tdiv_neg]
   unfold sgnN; simp [Int.ofNat_tdiv]
 ·by_cases h:a = 0
  ·subst h; simp [sgnN]
  ·have h1:decide (-(a:Int) < 0) = true:=by simp; omega
   have h2:decide ((b:Int) < 0) = false:=by simp
   rw [h1,h2,Int.natAbs_natCast,Int.natAbs_neg,Int.natAbs_natCast,Int.neg_tdiv]
   unfold sgnN; simp [Int.ofNat_tdiv]
 ·by_cases h:a = 0
  ·subst h; simp [sgnN]
  ·by_cases hb:b = 0
   ·subst hb; simp [sgnN]
   ·have h1:decide (-(a:Int) < 0) = true:=by simp; omega
    have h2:decide (-(b:Int) < 0) = true:=by simp; omega
    rw [h1,h2,Int.natAbs_neg,Int.natAbs_neg,Int.natAbs_natCast,Int.natAbs_natCast,Int.neg_tdiv,Int.tdiv_neg,Int.neg_neg]
    unfold sgnN; simp [Int.ofNat_tdiv]
theorem lexactly (x y:Int) (hx:ln x.natAbs ≤ 1000000) (hy:ln y.natAbs ≤ 1000000) (h0:y ≠ 0):fn Tryz.prog convL extL 119 [.agg (cZ x),.agg (cZ y)] = some (.agg (cZ (x.tdiv y))):=by
 have k1:=lover x.natAbs y.natAbs hx (by omega) hy
 rw [fnL_over] at k1
 have k2:=isignedZ (decide (x < 0) != decide (y < 0)) (x.natAbs / y.natAbs)
 rw [tdiv_sgn] at k2
 have e:∀ a b:Bool,(!a == b) = (a != b):=by decide
 unfold cZ at *
 rw [fn_eq,ev_eqQ (rs:=[.cell 4 134]) [] rfl Tryz.func119 rfl rfl (by kernel_rfl) (by kernel_rfl)]
 simp only [go_sem,k1,k2,e]
theorem icmpOne (n:Nat) (hn:ln n ≤ 1000000):fn Tryz.prog conv ext 107 [LI (dg n),.ts [I 1] 1] = some (I (cmpN n 1)):=by
 have:=icompareL n 1 hn (by show ln 1 ≤ _; rw [show ln 1 = 1 by unfold ln; rw [dg_one (d:=1) (by decide) (by decide)]; rfl]; decide)
 rw [dg_one (d:=1) (by decide) (by decide)] at this
 exact this
theorem llowest (neg:Bool) (m n:Nat) (hm:ln m ≤ 1000000) (h0:n ≠ 0) (hn:ln n ≤ 1000000) :
  fn Tryz.prog convL extL 88 [.agg [Bo (neg && decide (0 < (dg m).length)),LI (dg m)],LI (dg n)] = some (.tp (lowD neg m n) 0):=by
 have hg0:Nat.gcd m n ≠ 0:=fun e => h0 (Nat.eq_zero_of_gcd_eq_zero_right e)
 have hgn:Nat.gcd m n ≤ n:=Nat.gcd_le_right _ (by omega)
 have hgl:ln (Nat.gcd m n) ≤ 1000000:=Nat.le_trans (ln_mono hgn) hn
 have k1:=ldivisor m n hm hn
 have k2:=icmpOne (Nat.gcd m n) hgl
 have k3:=lover m (Nat.gcd m n) hm hg0 hgl
 have k4:=lover n (Nat.gcd m n) hn hg0 hgl
 rw [fnL_over] at k3 k4
 have k5:=fun b => isigned b (dg (m / Nat.gcd m n))
 have hc:=cmp_one (n:=Nat.gcd m n)
 unfold lowD
 rw [fn_eq,ev_eqQ (rs:=[.tmp 4]) [] rfl Tryz.func88 rfl rfl (by kernel_rfl) (by kernel_rfl)]
 by_cases hz:m = 0
 ·subst hz
  rw [Nat.gcd_zero_left,Nat.zero_div,Nat.div_self (by omega),dg_zero,dg_one (d:=1) (by decide) (by decide)]
  (simp only [go_sem]) <;> rfl
 ·have lz:(((dg m).length:Int) == 0) = false:=by rw [beq_eq_false_iff_ne]; have:=app_len (dg_ne hz); omega
  have lp:0 < (dg m).length:=List.length_pos_iff.mpr (dg_ne hz)
  have hmg:m / Nat.gcd m n ≠ 0:=by
   have:=Nat.div_pos (Nat.gcd_le_left n (Nat.pos_of_ne_zero hz)) (by omega)
   omega
  have lq:0 < (dg (m / Nat.gcd m n)).length:=List.length_pos_iff.mpr (dg_ne hmg)
  by_cases hg1:Nat.gcd m n = 1
  ·rw [decide_eq_true hg1] at hc
   simp only [hg1,Nat.div_one] at k1 k2 hc ⊢
   (simp only [go_sem,lz,lp,k1,k2,hc]) <;> rfl
  ·rw [decide_eq_false hg1] at hc
   (simp only [go_sem,lz,lp,lq,k1,k2,hc,k3,k4,k5]) <;> rfl
theorem llowestQ (z:Int) (d:Nat) (hz:ln z.natAbs ≤ 1000000) (h0:d ≠ 0) (hd:ln d ≤ 1000000):fn Tryz.prog convL extL 88 [.agg (cZ z),LI (dg d)] = some (.tp (cQ (mkRat z d)) 0):=by
 have k:=llowest (decide (z < 0)) z.natAbs d hz h0 hd
 rw [← cZ_sgn,sgn_abs,← cQ_mk z h0] at k
 exact k
def Ln (k:Nat) (q:Rat):Prop:=ln q.num.natAbs ≤ k∧ln q.den ≤ k
theorem Ln.mono {k l:Nat} {q:Rat} (h:Ln k q) (hl:k ≤ l):Ln l q:=⟨Nat.le_trans h.1 hl,Nat.le_trans h.2 hl⟩
theorem ln_nd {x y:Rat} {k l:Nat} (h:Ln k x) (h':Ln l y):ln (x.num * y.den).natAbs ≤ k + l:=by
 rw [Int.natAbs_mul,Int.natAbs_natCast]
 have:=ln_mul x.num.natAbs y.den
 have:=h.1; have:=h'.2
 omega
theorem ln_dd {x y:Rat} {k l:Nat} (h:Ln k x) (h':Ln l y):ln (x.den * y.den) ≤ k + l:=by
 have:=ln_mul x.den y.den
 have:=h.2; have:=h'.2
 omega
theorem ln_addZ (x y:Int):ln (x + y).natAbs ≤ max (ln x.natAbs) (ln y.natAbs) + 1 :=
 Nat.le_trans (ln_mono (Int.natAbs_add_le x y)) (ln_add _ _)
theorem ln_subZ (x y:Int):ln (x - y).natAbs ≤ max (ln x.natAbs) (ln y.natAbs) + 1:=by
 have:=ln_addZ x (-y)
 rw [Int.natAbs_neg,← Int.sub_eq_add_neg] at this
 exact this
theorem lqplus (x y:Rat) (hx:Ln 1000 x) (hy:Ln 1000 y):fn Tryz.prog convL extL 89 [.tp (cQ x) 0,.tp (cQ y) 0] = some (.tp (cQ (x + y)) 0):=by
 have n1:=ln_nd hx hy
 have n2:=ln_nd hy hx
 have n3:=ln_addZ (x.num * y.den) (y.num * x.den)
 have k1:=iscaledQ x y.den (by have:=hx.1; omega) (by have:=hy.2; omega)
 have k2:=iscaledQ y x.den (by have:=hy.1; omega) (by have:=hx.2; omega)
 have k3:=iBplus (x.num * y.den) (y.num * x.den) (by omega) (by omega)
 have k4:=itimesL x.den y.den (by have:=hx.2; omega) (by have:=hy.2; omega)
 have k5:=llowestQ (x.num * y.den + y.num * x.den) (x.den * y.den) (by omega) (dd0 x y) (by have:=ln_dd hx hy; omega)
 rw [← Rat.add_def'] at k5
 unfold cQ at *
 unfold cZ at *
 rw [fn_eq,ev_eqQ (rs:=[.tmp 4]) [] rfl Tryz.func89 rfl rfl (by kernel_rfl) (by kernel_rfl)]
 simp only [go_sem,k1,k2,k3,k4,k5]
theorem lqtimes (x y:Rat) (hx:Ln 1000 x) (hy:Ln 1000 y):fn Tryz.prog convL extL 90 [.tp (cQ x) 0,.tp (cQ y) 0] = some (.tp (cQ (x * y)) 0):=by
 have n1:ln (x.num * y.num).natAbs ≤ 2000:=by
  rw [Int.natAbs_mul]
  have:=ln_mul x.num.natAbs y.num.natAbs
  have:=hx.1; have:=hy.1
  omega
 have k3:=iBtimes x.num y.num (by have:=hx.1; omega) (by have:=hy.1; omega)
 have k4:=itimesL x.den y.den (by have:=hx.2; omega) (by have:=hy.2; omega)
 have k5:=llowestQ (x.num * y.num) (x.den * y.den) (by omega) (dd0 x y) (by have:=ln_dd hx hy; omega)
 rw [← Rat.mul_def'] at k5
 unfold cQ at *
 unfold cZ at *
 rw [fn_eq,ev_eqQ (rs:=[.tmp 4]) [] rfl Tryz.func90 rfl rfl (by kernel_rfl) (by kernel_rfl)]
 simp only [go_sem,k3,k4,k5]
def fitO (q:Rat):Option Rat:=if ln q.num.natAbs ≤ 24∧ln q.den ≤ 24 then some q else none
theorem lfit (q:Rat) (h:Ln 100000 q):fn Tryz.prog conv ext 114 [.tp (cQ q) 0] = some (pQ (fitO q)):=by
 have hb:((dg q.num.natAbs).length:Int) ≤ 100000:=Int.ofNat_le.mpr h.1
 have hd:((dg q.den).length:Int) ≤ 100000:=Int.ofNat_le.mpr h.2
 unfold fitO
 rw [fn_eq,ev_eqQ (rs:=[.tmp 2]) [] rfl Tryz.func114 rfl rfl (by kernel_rfl) (by kernel_rfl)]
 by_cases h1:ln q.num.natAbs ≤ 24
 ·have c1:¬(24:Int) < ((dg q.num.natAbs).length:Int):=by unfold ln at h1; omega
  by_cases h2:ln q.den ≤ 24
  ·have c2:¬(24:Int) < ((dg q.den).length:Int):=by unfold ln at h2; omega
   rw [if_pos ⟨h1,h2⟩]
   unfold cQ pQ
   (simp only [go_sem,c1,c2]) <;> rfl
  ·have c2:(24:Int) < ((dg q.den).length:Int):=by unfold ln at h2; omega
   rw [if_neg fun h => h2 h.2]
   unfold cQ pQ
   (simp only [go_sem,c1,c2]) <;> rfl
 ·have c1:(24:Int) < ((dg q.num.natAbs).length:Int):=by unfold ln at h1; omega
  rw [if_neg fun h => h1 h.1]
  unfold cQ pQ
  (simp only [go_sem,c1]) <;> rfl
end Go.Proofs.YtoccmbjfkbemcaaGreat
