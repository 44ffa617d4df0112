import Derived.Test.YtehdaknhabeiaaaGreatTb6
set_option linter.unusedSimpArgs false
set_option linter.unusedVariables false
set_option linter.unusedSectionVars false
set_option linter.defProp false
set_option maxRecDepth 10000
set_option maxHeartbeats 4000000
open Bool renaming not_false->xJ
namespace Go.Proofs.YtehdaknhabeiaaaGreat
open Go Go.TV Go.Plan
namespace Pure
theorem FnExactLeastStances(y:Yard)(O:okYard y)(fr:Int)(h1:okI fr)(to:Int)(h2:okI to) :
  fn Tryz.prog fK jJ 7 [.agg (cYard y),I fr,I to]=some (Bo true):=by
 obtain⟨r,r1,r2,r3⟩:=Y0 y 1048576 O (by omega) (by omega)
 by_cases hr:r<0
 .rw[aH,ak [.tmp 6] [10] Tryz.func7]
  simp only[go_sem,r1,hr]
 have k1:=OA y O fr to;have k2:=Oz y O fr to;have a0:fn Tryz.prog conv ext 20 [.agg (cYard y),.agg (cYard y)]=some (Bo true):=YZ y O
 obtain⟨w,hw⟩:∃w:Int,w=((Ak y fr to).length:Int):=⟨_,rfl⟩;rw[<- hw]at k1 k2;have kw:(w !=w)=false:=by simp
 obtain⟨gI,s0⟩:∃gI,gI=upd aK 0 (some ⟨cYard y,0,true⟩):=⟨_,rfl⟩;have b0:gI 0=some ⟨cYard y,0,true⟩:=by rw[s0,upd_same]
 obtain⟨S,e1,y1,f1⟩:=pK y O gI 1;obtain⟨G,a1⟩:∃G,G=1+5+10*y.stances.length:=⟨_,rfl⟩;rw[<- a1]at e1;have b1:S 0=some ⟨cYard y,0,true⟩:=by rw[f1 0 (by omega),b0]
 have t1:=fun d=>y1.stripL d
 obtain⟨σ2,e2,y2,f2⟩:=pK y O S G;obtain⟨J,a2⟩:∃J,J=G+5+10*y.stances.length:=⟨_,rfl⟩;rw[<- a2]at e2;have b2:σ2 0=some ⟨cYard y,0,true⟩:=by rw[f2 0 (by omega),b1]
 obtain⟨E,s3⟩:∃E,E=upd σ2 J (some ⟨iy (G+3) y,0,true⟩):=⟨_,rfl⟩;have b3:E 0=some ⟨cYard y,0,true⟩:=by rw[s3,ay,b2]
 have p3:E J=some ⟨iy (G+3) y,0,true⟩:=by rw[s3,upd_same]
 have y3:iQ E (G+3) y:=y2.frame fun c h1 h2=>by rw[s3,ay]
 have t3:=fun d=>y3.stripL d
 obtain⟨a3,e5,y5,_⟩:=pK y O (restrict E []) (J+1);obtain⟨Y,a4⟩:∃Y,Y=J+1+5+10*y.stances.length:=⟨_,rfl⟩;rw[<- a4]at e5;obtain⟨jY,s5⟩:∃jY,jY=aY [] (J+1) Y E a3:=⟨_,rfl⟩;have l5:∀c,c<J+1->jY c=E c:=fun c hc=>by rw[s5,Ez hc]
 have a5:iQ jY (G+3) y:=y3.frame fun c h1 h2=>l5 c (by omega)
 have a6:iQ jY (J+1+3) y:=y5.frame fun c h1 h2=>by rw[s5,H7 (by omega) (by omega)]
 have a7:=fun d=>a5.stripL d
 have a8:=fun d=>a6.stripL d
 have a9:((sS (G+3) y).all fun b=>decide (b<Y))=true:=rP (by omega);have b4:((sS (J+1+3) y).all fun b=>decide (b<Y))=true:=rP (by omega);have v1:(iy (G+3) y).length=3:=rfl;have v2:(iy (G+3) y).all aT=true:=rfl;have v3:patch [V.nil,V.nil,Bo false] 0 (iy (G+3) y)=iy (G+3) y:=rfl;have v4:(iy (G+3) y).take 3=iy (G+3) y:=rfl;have z1:¬J=0:=by omega
 have z2:¬0=J:=by omega
 have z3:J<J+1:=by omega
 have z4:0<J+1:=by omega
 rw[aH,ak [.tmp 6] [10] Tryz.func7];simp (maxDischargeDepth:=9) only[go_sem,bM,r1,hr,<- s0,b0,e1,b1,t1,k1,e2,b2,v1,v2,v3,v4,<- s3,b3,p3,t3,k2,kw,e5,<- s5,a7,a8,a9,b4,List.all_append,a0,H8,xJ,z1,z2,z3,z4]
end Pure
end Go.Proofs.YtehdaknhabeiaaaGreat
