import Derived.Test.YtehdaknhabeiaaaGreatTb6
set_option linter.unusedSimpArgs false
set_option linter.unusedVariables false
set_option linter.unusedSectionVars false
set_option linter.defProp false
set_option maxRecDepth 10000
set_option maxHeartbeats 4000000
open Bool renaming not_false->xJ
namespace Go.Proofs.YtehdaknhabeiaaaGreat
open Go Go.TV
namespace Pure
theorem FnExactIsSafeStance(s:Stance)(S:okStance s)(b:Bool) :
  fn Tryz.prog fK jJ 3 [.agg (cStance s),Bo b]=some (Bo true):=by
 obtain⟨r,r1,r2⟩:=Va s 1048576 S (by omega) (by omega)
 by_cases hr:r<0
 .rw[aH,ak [.tmp 4] [10] Tryz.func3]
  simp only[go_sem,r1,hr]
 have k1:=DK s S b;have k2:=JE s S b;have a3:=U9 s S;obtain⟨w,hw⟩:∃w,w=BJ s b:=⟨_,rfl⟩;rw[<- hw]at k1 k2;obtain⟨gI,s0⟩:∃gI,gI=upd aK 0 (some ⟨cStance s,0,true⟩):=⟨_,rfl⟩;have b0:gI 0=some ⟨cStance s,0,true⟩:=by rw[s0,upd_same]
 obtain⟨O,e1,y1,f1⟩:=Ee s S gI 1;obtain⟨E,a4⟩:∃E,E=1+10:=⟨_,rfl⟩;rw[<- a4]at e1;have b1:O 0=some ⟨cStance s,0,true⟩:=by rw[f1 0 (by omega),b0]
 have t1:=fun d=>y1.stripL d
 obtain⟨σ2,e2,y2,f2⟩:=Ee s S O E;obtain⟨J,a5⟩:∃J,J=E+10:=⟨_,rfl⟩;rw[<- a5]at e2;have b2:σ2 0=some ⟨cStance s,0,true⟩:=by rw[f2 0 (by omega),b1]
 obtain⟨G,Y⟩:∃G,G=upd σ2 J (some ⟨vF (E+6) s,0,true⟩):=⟨_,rfl⟩;have b3:G 0=some ⟨cStance s,0,true⟩:=by rw[Y,ay,b2]
 have p3:G J=some ⟨vF (E+6) s,0,true⟩:=by rw[Y,upd_same]
 have y3:uJ G (E+6) s:=y2.frame fun c h1 h2=>by rw[Y,ay]
 have t3:=fun d=>y3.stripL d
 obtain⟨a6,e5,y5,_⟩:=Ee s S (restrict G []) (J+1);obtain⟨n4,a7⟩:∃n4,n4=J+1+10:=⟨_,rfl⟩;rw[<- a7]at e5;obtain⟨jY,s5⟩:∃jY,jY=aY [] (J+1) n4 G a6:=⟨_,rfl⟩;have l5:∀c,c<J+1->jY c=G c:=fun c hc=>by rw[s5,Ez hc]
 have a8:uJ jY (E+6) s:=y3.frame fun c h1 h2=>l5 c (by omega)
 have a9:uJ jY (J+1+6) s:=y5.frame fun c h1 h2=>by rw[s5,H7 (by omega) (by omega)]
 have a0:=fun d=>a8.stripL d
 have a1:=fun d=>a9.stripL d
 have b4:((F9 (E+6)).all fun b=>decide (b<n4))=true:=NV (by omega);have b5:((F9 (J+1+6)).all fun b=>decide (b<n4))=true:=NV (by omega);have z1:¬J=0:=by omega
 have z2:¬0=J:=by omega
 have z3:J<J+1:=by omega
 have z4:0<J+1:=by omega
 have v1:(vF (E+6) s).length=5:=rfl;have v2:(vF (E+6) s).all aT=true:=rfl;have v3:patch uw 0 (vF (E+6) s)=vF (E+6) s:=rfl;have v4:(vF (E+6) s).take 5=vF (E+6) s:=rfl;obtain⟨V3,b6⟩:∃V3,V3=vF (E+6) s:=⟨_,rfl⟩;rw[<- b6]at e2 Y p3 t3 a0 v1 v2 v3 v4;obtain⟨V1,a2⟩:∃V1,V1=vF (1+6) s:=⟨_,rfl⟩;have t1:∀d,TV.stripL (TV.strip O (d+2)) V1=some (cStance s,F9 (1+6)):=by rw[a2];exact t1
 have e1:ev Tryz.prog aZ fU 12 [.agg (cStance s)] gI 1=some (.agg V1,O,E):=by rw[a2];exact e1
 obtain⟨V5,b7⟩:∃V5,V5=vF (J+1+6) s:=⟨_,rfl⟩;rw[<- b7]at e5 a1;rw[aH,ak [.tmp 4] [10] Tryz.func3];simp (maxDischargeDepth:=9) only[go_sem,bM,r1,hr,<- s0,b0,e1,b1,t1,k1,e2,b2,v1,v2,v3,v4,<- Y,b3,p3,t3,k2,e5,<- s5,a0,a1,b4,b5,List.all_append,a3,H8,xJ,z1,z2,z3,z4]
end Pure
end Go.Proofs.YtehdaknhabeiaaaGreat
