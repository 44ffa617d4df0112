import Derived.Test.YtehdaknhabeiaaaGreatTb6
set_option linter.unusedSimpArgs false
set_option linter.unusedVariables false
set_option linter.unusedSectionVars false
set_option linter.defProp false
set_option maxRecDepth 10000
set_option maxHeartbeats 4000000
open Go.Proofs.Tryz renaming prog->ZH
open Go.Proofs.Tryz
open Bool renaming not_false->wu
namespace Go.Proofs.YtehdaknhabeiaaaGreat
open Go Go.TV Go.Plan
namespace Pure
theorem FnExactFindPlan(y:Yard)(h0:okYard y)(fr:Int)(h1:okI fr)(to:Int)(h2:okI to) :
  fn ZH Bh Dk 8 [.agg (cYard y),I fr,I to]=some (Bo true):=by
 obtain⟨r,r1,r2,r3⟩:=aaO y 1048576 h0 (by omega) (by omega)
 by_cases hr:r<0
 .rw[mM,nG [.tmp 6] [10] func8]
  simp only[go_sem,r1,hr]
 have sm:=r3 (by omega);obtain⟨hL,hM⟩:y.stances.length<=1048576/\y.moves.length<=1048576:=by rcases r2 with h|⟨_,h⟩<;>constructor<;>omega
 have k1:=afO y h0 fr to;have a4:fn ZH conv ext 20 [.agg (cYard y),.agg (cYard y)]=some (Bo true):=aaN y h0
 obtain⟨w,hw⟩:∃w,w=FP y fr to:=⟨_,rfl⟩;have d0:w.length<=1000000:=by rw[hw];exact afB y fr to
 have ke:=Nr w (by unfold maxLen;omega);obtain⟨ok,a1⟩:∃ok,ok=AY y fr to:=⟨_,rfl⟩;rw[<- hw,<- a1]at k1;obtain⟨BJ,s0⟩:∃BJ,BJ=upd lI 0 (some ⟨cYard y,0,true⟩):=⟨_,rfl⟩;have b0:BJ 0=some ⟨cYard y,0,true⟩:=by rw[s0,Zi]
 obtain⟨a2,e1,y1,f1⟩:=Zw y h0 BJ 1;obtain⟨E,a5⟩:∃E,E=1+5+10*y.stances.length:=⟨_,rfl⟩;rw[<- a5]at e1;have b1:a2 0=some ⟨cYard y,0,true⟩:=by rw[f1 0 (by omega),b0]
 have t1:=fun d=>y1.stripL d
 obtain⟨QK,q1⟩:∃QK,QK=behind a2 (Eo (1+3) y) (.AP [LI w,Bo ok]):=⟨_,rfl⟩;have c1:QK 0=some ⟨cYard y,0,true⟩:=by rw[q1,qm (Ph (by omega)),b1]
 obtain⟨σ2,e2,y2,f2⟩:=Zw y h0 QK E;obtain⟨G,a6⟩:∃G,G=E+5+10*y.stances.length:=⟨_,rfl⟩;rw[<- a6]at e2;have b2:σ2 0=some ⟨cYard y,0,true⟩:=by rw[f2 0 (by omega),c1]
 obtain⟨J,s3⟩:∃J,J=upd σ2 G (some ⟨Bv (E+3) y,0,true⟩):=⟨_,rfl⟩;have b3:J 0=some ⟨cYard y,0,true⟩:=by rw[s3,Zk,b2]
 have p3:J G=some ⟨Bv (E+3) y,0,true⟩:=by rw[s3,Zi]
 have y3:BR J (E+3) y:=y2.frame fun c h1 h2=>by rw[s3,Zk]
 have t3:=fun d=>y3.stripL d
 obtain⟨v,ρ,n3,ids,e3,d2,o3,O⟩:=J7 y h0 fr to (G+1);rw[<- hw]at o3;rw[<- a1]at e3;have g3:=fun d=>o3.gather (d':=d+1) (by omega)
 obtain⟨S,s4⟩:∃S,S=Cb (G+1) J ρ ids:=⟨_,rfl⟩;have l4:∀c,c<G+1->S c=J c:=fun c hc=>by rw[s4,jw hc]
 have b4:S 0=some ⟨cYard y,0,true⟩:=by rw[l4 0 (by omega),b3]
 have p4:S G=some ⟨Bv (E+3) y,0,true⟩:=by rw[l4 G (by omega),p3]
 have y4:BR S (E+3) y:=y3.frame fun c h1 h2=>l4 c (by omega)
 have o4:Own S 1 v (LI w) ids:=by rw[s4];exact o3.join fun b hb=>(O b hb).1
 have t4:=fun d=>o4.strip (d':=d+1) (by omega)
 obtain⟨a7,e5,y5,_⟩:=Zw y h0 (restrict S []) n3;obtain⟨Y,a8⟩:∃Y,Y=n3+5+10*y.stances.length:=⟨_,rfl⟩;rw[<- a8]at e5;obtain⟨CY,s5⟩:∃CY,CY=wI [] n3 Y S a7:=⟨_,rfl⟩;have l5:∀c,c<n3->CY c=S c:=fun c hc=>by rw[s5,J_ hc]
 have b5:CY 0=some ⟨cYard y,0,true⟩:=by rw[l5 0 (by omega),b4]
 have p5:CY G=some ⟨Bv (E+3) y,0,true⟩:=by rw[l5 G (by omega),p4]
 have a3:BR CY (E+3) y:=y4.frame fun c h1 h2=>l5 c (by omega)
 have a9:BR CY (n3+3) y:=y5.frame fun c h1 h2=>by rw[s5,Pe (by omega) (by omega)]
 have b8:=fun d=>a3.stripL d
 have b9:=fun d=>a9.stripL d
 have c0:((Eo (E+3) y).all fun b=>decide (b<Y))=true:=ZM (by omega);have c2:((Eo (n3+3) y).all fun b=>decide (b<Y))=true:=ZM (by omega);have o5:Own CY 1 v (LI w) ids:=o4.frame fun b hb=>l5 b (O b hb).2
 obtain⟨k',Dy,e6,f6⟩:=NC (nx:=Y) y a3 (by omega) sm hL hM;have l6:∀c,G<=c->c<Y->Dy c=CY c:=fun c h1 h2=>f6 c (by omega) h2
 have b6:Dy 0=some ⟨cYard y,0,true⟩:=by rw[f6 0 (by omega) (by omega),b5]
 have o6:Own Dy 1 v (LI w) ids:=o5.frame fun b hb=>l6 b (by have:=O b hb;omega) (by have:=O b hb;omega)
 have t6:=fun d=>o6.strip (d':=d+1) (by omega)
 obtain⟨EJ,e7,o7,f7⟩:=Iy (nx:=Y+1) o6 (by omega) 1 (by omega);have b7:EJ 0=some ⟨cYard y,0,true⟩:=by rw[f7 0 (fun hb=>by have:=O 0 hb;omega),b6]
 have t7:=fun d=>o7.strip (d':=d+1) (by omega)
 have kh:=Nz 1 w.length (by omega) (by omega);obtain⟨Yw,e8,y8,f8⟩:=Zw y h0 EJ (Y+1);obtain⟨n5,c3⟩:∃n5,n5=Y+1+5+10*y.stances.length:=⟨_,rfl⟩;rw[<- c3]at e8;have t8:=fun d=>y8.stripL d
 obtain⟨v',c4,n6,Du,e9,G5,o9,c5⟩:=J7 y h0 fr to n5;rw[<- hw]at o9;rw[<- a1]at e9;have g9:=fun d=>o9.gather (d':=d+1) (by omega)
 obtain⟨a0,s9⟩:∃a0,a0=Cb n5 Yw c4 Du:=⟨_,rfl⟩;have c6:Own a0 1 v' (LI w) Du:=by rw[s9];exact o9.join fun b hb=>(c5 b hb).1
 have c7:Own a0 1 v (LI (marks 1 w.length)) ids:=o7.frame fun b hb=>by have:=O b hb;rw[s9,jw (by omega),f8 b (by omega)]
 have c8:=fun d=>c6.strip (d':=d+1) (by omega)
 have c9:=fun d=>c7.strip (d':=d+1) (by omega)
 have d1:cellsOfV v=some [v]:=qA o3.cell;have v1:(Bv (E+3) y).length=3:=rfl;have v2:(Bv (E+3) y).all pI=true:=rfl;have v3:patch [V.nil,V.nil,Bo false] 0 (Bv (E+3) y)=Bv (E+3) y:=rfl;have v4:(Bv (E+3) y).take 3=Bv (E+3) y:=rfl;have z1:¬G=0:=by omega
 have z2:¬0=G:=by omega
 have z3:G<n3:=by omega
 have z4:0<n3:=by omega
 have z5:¬(k':Int)<0:=by omega
 have z6:¬(1:Int)+(w.length:Int)<0:=by omega
 rw[mM,nG [.tmp 6] [10] func8];simp (maxDischargeDepth:=9) only[go_sem,qJ,r1,hr,<- s0,b0,e1,b1,t1,k1,<- q1,c1,e2,b2,v1,v2,v3,v4,<- s3,b3,p3,t3,e3,g3,<- s4,b4,p4,t4,ke,e5,<- s5,b5,p5,b8,b9,c0,c2,List.all_append,a4,e6,b6,t6,e7,b7,t7,kh,e8,t8,e9,g9,<- s9,c8,c9,Pg,wu,d1,z1,z2,z3,z4,z5,z6]
end Pure
end Go.Proofs.YtehdaknhabeiaaaGreat
