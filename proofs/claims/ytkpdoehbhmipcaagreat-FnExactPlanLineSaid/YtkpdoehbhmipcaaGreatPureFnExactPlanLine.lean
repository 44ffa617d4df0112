import Derived.Test.YtkpdoehbhmipcaaGreatTb6
set_option linter.unusedSimpArgs false
set_option linter.unusedVariables false
set_option linter.unusedSectionVars false
set_option linter.defProp false
set_option maxRecDepth 10000
set_option maxHeartbeats 4000000
open Go.Proofs.Tryz renaming prog->Ze
open Go.Proofs.Tryz
open Bool renaming not_false->wY
namespace Go.Proofs.YtkpdoehbhmipcaaGreat
open Go Go.TV Go.Plan
namespace Pure
theorem FnExactPlanLine(y:Yard)(h0:okYard y)(p:List Int)(h1:okL 8 okI p) :
  fn Ze BA Di 4 [.agg (cYard y),LI p]=some (Bo true):=by
 by_cases hs:(1048576:Int)<(p.length:Int)
 .rw[mW,nK [.tmp 4] [13] func4]
  simp only[go_sem,hs]
 obtain⟨r,r1,r2,r3⟩:=am5 y 1048576 h0 (by omega) (by omega)
 by_cases hr:r<0
 .rw[mW,nK [.tmp 4] [13] func4]
  simp only[go_sem,hs,r1,hr]
 have k1:=aeD y h0 p (by omega);have k2:=aeC y h0 p (by omega);have b5:fn Ze conv ext 25 [.agg (cYard y),.agg (cYard y)]=some (Bo true):=am4 y h0
 have ke:=Rt p (by unfold maxLen;omega);obtain⟨w,hw⟩:∃w,w=XU y p:=⟨_,rfl⟩;rw[<- hw]at k1 k2;have ti:=fun σ n=>RS p h1 σ n
 obtain⟨Ci,s0⟩:∃Ci,Ci=upd lI 0 (some ⟨cYard y,0,true⟩):=⟨_,rfl⟩;have b0:Ci 0=some ⟨cYard y,0,true⟩:=by rw[s0,aF]
 obtain⟨a1,e1,y1,f1⟩:=RV y h0 Ci 1;obtain⟨G,b6⟩:∃G,G=1+5+10*y.stances.length:=⟨_,rfl⟩;rw[<- b6]at e1;obtain⟨J,q1⟩:∃J,J=upd a1 G (some ⟨p.flatMap cI,1,true⟩):=⟨_,rfl⟩;have a6:=ti a1 G;rw[<- q1]at a6;have b1:J 0=some ⟨cYard y,0,true⟩:=by rw[q1,aH,f1 0 (by omega),b0]
 have b7:DJ J (1+3) y:=y1.frame fun c h1 h2=>by rw[q1,aH]
 have t1:=fun d=>b7.stripL d
 have b8:=fun d=>kR (σ:=J) (b:=G) (xs:=p) (by rw[q1,aF]) (n:=p.length) rfl d
 obtain⟨σ2,e2,y2,f2⟩:=RV y h0 J (G+1);obtain⟨E,b9⟩:∃E,E=G+1+5+10*y.stances.length:=⟨_,rfl⟩;rw[<- b9]at e2;have b2:σ2 0=some ⟨cYard y,0,true⟩:=by rw[f2 0 (by omega),b1]
 obtain⟨O,s3⟩:∃O,O=upd σ2 E (some ⟨EU (G+1+3) y,0,true⟩):=⟨_,rfl⟩;obtain⟨S,s4⟩:∃S,S=upd O (E+1) (some ⟨p.flatMap cI,1,true⟩):=⟨_,rfl⟩;have a7:=ti O (E+1);rw[<- s4]at a7;have b3:O 0=some ⟨cYard y,0,true⟩:=by rw[s3,aH,b2]
 have b4:S 0=some ⟨cYard y,0,true⟩:=by rw[s4,aH,b3]
 have p4:S E=some ⟨EU (G+1+3) y,0,true⟩:=by rw[s4,aH,s3,aF]
 have y4:DJ S (G+1+3) y:=y2.frame fun c h1 h2=>by rw[s4,aH,s3,aH]
 have t4:=fun d=>y4.stripL d
 have g4:S (E+1)=some ⟨p.flatMap cI,1,true⟩:=by rw[s4,aF]
 have c0:=fun d=>kR g4 (n:=p.length) rfl d
 obtain⟨c2,e5,y5,_⟩:=RV y h0 (restrict S []) (E+1+1);obtain⟨Y,c3⟩:∃Y,Y=E+1+1+5+10*y.stances.length:=⟨_,rfl⟩;rw[<- c3]at e5;obtain⟨Dn,s5⟩:∃Dn,Dn=xI [] (E+1+1) Y S c2:=⟨_,rfl⟩;have l5:∀c,c<E+1+1->Dn c=S c:=fun c hc=>by rw[s5,QE hc]
 have c4:DJ Dn (G+1+3) y:=y4.frame fun c h1 h2=>l5 c (by omega)
 have c5:DJ Dn (E+1+1+3) y:=y5.frame fun c h1 h2=>by rw[s5,XM (by omega) (by omega)]
 have c6:=fun d=>c4.stripL d
 have c7:=fun d=>c5.stripL d
 have c8:((Ic (G+1+3) y).all fun b=>decide (b<Y))=true:=QF (by omega);have c9:((Ic (E+1+1+3) y).all fun b=>decide (b<Y))=true:=QF (by omega);obtain⟨Dh,s6⟩:∃Dh,Dh=upd Dn Y (some ⟨p.flatMap cI,1,true⟩):=⟨_,rfl⟩;have a8:=ti Dn Y;rw[<- s6]at a8;have e0:=fun d=>kR (σ:=Dh) (b:=E+1) (xs:=p) (by rw[s6,aH,l5 _ (by omega)];exact g4) (n:=p.length) rfl d
 have e3:=fun d=>kR (σ:=Dh) (b:=Y) (xs:=p) (by rw[s6,aF]) (n:=p.length) rfl d
 have v1:(EU (G+1+3) y).length=3:=rfl;have v2:(EU (G+1+3) y).all qI=true:=rfl;have v3:patch [V.nil,V.nil,Bo false] 0 (EU (G+1+3) y)=EU (G+1+3) y:=rfl;have v4:(EU (G+1+3) y).take 3=EU (G+1+3) y:=rfl;have z1:¬E=0:=by omega
 have z2:¬0=E:=by omega
 have z3:E<E+1+1:=by omega
 have z4:0<E+1+1:=by omega
 have ek:∀a b:Bool,(a !=b)=(b !=a):=by decide
 rw[mW,nK [.tmp 4] [13] func4];simp (maxDischargeDepth:=9) only[go_sem,qM,hs,r1,hr,<- s0,b0,e1,b1,t1,a6,b8,k1,e2,b2,v1,v2,v3,v4,<- s3,b3,a7,b4,p4,t4,c0,k2,e5,<- s5,c6,c7,c8,c9,List.all_append,b5,XP,wY,a8,e0,e3,ke,z1,z2,z3,z4]
end Pure
end Go.Proofs.YtkpdoehbhmipcaaGreat
