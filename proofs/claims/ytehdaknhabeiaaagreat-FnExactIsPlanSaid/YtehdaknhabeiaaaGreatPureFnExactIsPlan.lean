import Derived.Test.YtehdaknhabeiaaaGreatTb6
set_option linter.unusedSimpArgs false
set_option linter.unusedVariables false
set_option linter.unusedSectionVars false
set_option linter.defProp false
set_option maxRecDepth 10000
set_option maxHeartbeats 4000000
open Bool renaming not_false->xJ
namespace Go.Proofs.YtehdaknhabeiaaaGreat
open Go Go.TV Go.Plan
namespace Pure
theorem FnExactIsPlan(y:Yard)(Y:okYard y)(p:List Int)(h1:okL 8 okI p) :
  fn Tryz.prog fK jJ 4 [.agg (cYard y),LI p]=some (Bo true):=by
 by_cases hs:(1048576:Int)<(p.length:Int)
 .rw[aH,ak [.tmp 4] [13] Tryz.func4]
  simp only[go_sem,hs]
 obtain⟨r,r1,r2,r3⟩:=Y0 y 1048576 Y (by omega) (by omega)
 by_cases hr:r<0
 .rw[aH,ak [.tmp 4] [13] Tryz.func4]
  simp only[go_sem,hs,r1,hr]
 have k1:=ak6 y Y p (by omega);have k2:=ak7 y Y p (by omega);have a4:fn Tryz.prog conv ext 20 [.agg (cYard y),.agg (cYard y)]=some (Bo true):=YZ y Y
 have ke:=QT p (by unfold maxLen;omega);obtain⟨w,hw⟩:∃w,w=H9 y p:=⟨_,rfl⟩;rw[<- hw]at k1 k2;have ti:=fun σ n=>Rj p h1 σ n
 obtain⟨gI,s0⟩:∃gI,gI=upd aK 0 (some ⟨cYard y,0,true⟩):=⟨_,rfl⟩;have b0:gI 0=some ⟨cYard y,0,true⟩:=by rw[s0,upd_same]
 obtain⟨a0,e1,y1,f1⟩:=pK y Y gI 1;obtain⟨G,a5⟩:∃G,G=1+5+10*y.stances.length:=⟨_,rfl⟩;rw[<- a5]at e1;obtain⟨Vz,q1⟩:∃Vz,Vz=upd a0 G (some ⟨p.flatMap cI,1,true⟩):=⟨_,rfl⟩;have a1:=ti a0 G;rw[<- q1]at a1;have b1:Vz 0=some ⟨cYard y,0,true⟩:=by rw[q1,ay,f1 0 (by omega),b0]
 have a6:iQ Vz (1+3) y:=y1.frame fun c h1 h2=>by rw[q1,ay]
 have t1:=fun d=>a6.stripL d
 have a7:=fun d=>dO (σ:=Vz) (b:=G) (xs:=p) (by rw[q1,upd_same]) (n:=p.length) rfl d
 obtain⟨σ2,e2,y2,f2⟩:=pK y Y Vz (G+1);obtain⟨E,a8⟩:∃E,E=G+1+5+10*y.stances.length:=⟨_,rfl⟩;rw[<- a8]at e2;have b2:σ2 0=some ⟨cYard y,0,true⟩:=by rw[f2 0 (by omega),b1]
 obtain⟨J,s3⟩:∃J,J=upd σ2 E (some ⟨iy (G+1+3) y,0,true⟩):=⟨_,rfl⟩;obtain⟨O,s4⟩:∃O,O=upd J (E+1) (some ⟨p.flatMap cI,1,true⟩):=⟨_,rfl⟩;have a2:=ti J (E+1);rw[<- s4]at a2;have b3:J 0=some ⟨cYard y,0,true⟩:=by rw[s3,ay,b2]
 have b4:O 0=some ⟨cYard y,0,true⟩:=by rw[s4,ay,b3]
 have p4:O E=some ⟨iy (G+1+3) y,0,true⟩:=by rw[s4,ay,s3,upd_same]
 have y4:iQ O (G+1+3) y:=y2.frame fun c h1 h2=>by rw[s4,ay,s3,ay]
 have t4:=fun d=>y4.stripL d
 have g4:O (E+1)=some ⟨p.flatMap cI,1,true⟩:=by rw[s4,upd_same]
 have a9:=fun d=>dO g4 (n:=p.length) rfl d
 obtain⟨b5,e5,y5,_⟩:=pK y Y (restrict O []) (E+1+1);obtain⟨S,b6⟩:∃S,S=E+1+1+5+10*y.stances.length:=⟨_,rfl⟩;rw[<- b6]at e5;obtain⟨jY,s5⟩:∃jY,jY=aY [] (E+1+1) S O b5:=⟨_,rfl⟩;have l5:∀c,c<E+1+1->jY c=O c:=fun c hc=>by rw[s5,Ez hc]
 have b7:iQ jY (G+1+3) y:=y4.frame fun c h1 h2=>l5 c (by omega)
 have b8:iQ jY (E+1+1+3) y:=y5.frame fun c h1 h2=>by rw[s5,H7 (by omega) (by omega)]
 have b9:=fun d=>b7.stripL d
 have c0:=fun d=>b8.stripL d
 have c2:((sS (G+1+3) y).all fun b=>decide (b<S))=true:=rP (by omega);have c3:((sS (E+1+1+3) y).all fun b=>decide (b<S))=true:=rP (by omega);obtain⟨kU,s6⟩:∃kU,kU=upd jY S (some ⟨p.flatMap cI,1,true⟩):=⟨_,rfl⟩;have a3:=ti jY S;rw[<- s6]at a3;have c4:=fun d=>dO (σ:=kU) (b:=E+1) (xs:=p) (by rw[s6,ay,l5 _ (by omega)];exact g4) (n:=p.length) rfl d
 have c5:=fun d=>dO (σ:=kU) (b:=S) (xs:=p) (by rw[s6,upd_same]) (n:=p.length) rfl d
 have v1:(iy (G+1+3) y).length=3:=rfl;have v2:(iy (G+1+3) y).all aT=true:=rfl;have v3:patch [V.nil,V.nil,Bo false] 0 (iy (G+1+3) y)=iy (G+1+3) y:=rfl;have v4:(iy (G+1+3) y).take 3=iy (G+1+3) y:=rfl;have z1:¬E=0:=by omega
 have z2:¬0=E:=by omega
 have z3:E<E+1+1:=by omega
 have z4:0<E+1+1:=by omega
 have ek:∀a b:Bool,(a !=b)=(b !=a):=by decide
 rw[aH,ak [.tmp 4] [13] Tryz.func4];simp (maxDischargeDepth:=9) only[go_sem,bM,hs,r1,hr,<- s0,b0,e1,b1,t1,a1,a7,k1,e2,b2,v1,v2,v3,v4,<- s3,b3,a2,b4,p4,t4,a9,k2,e5,<- s5,b9,c0,c2,c3,List.all_append,a4,H8,xJ,a3,c4,c5,ke,z1,z2,z3,z4]
end Pure
end Go.Proofs.YtehdaknhabeiaaaGreat
