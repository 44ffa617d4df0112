import Derived.Test.YtkpdoehbhmipcaaGreatTb6
set_option linter.unusedSimpArgs false
set_option linter.unusedVariables false
set_option linter.unusedSectionVars false
set_option linter.defProp false
set_option maxRecDepth 10000
set_option maxHeartbeats 4000000
open Go.Proofs.Tryz renaming prog->Ze
open Go.Proofs.Tryz
open Bool renaming not_false->wY
namespace Go.Proofs.YtkpdoehbhmipcaaGreat
open Go Go.TV
namespace Pure
theorem FnExactNeedsOfStance(s:Stance)(h0:okStance s) :
  fn Ze BA Di 5 [.agg (cStance s)]=some (Bo true):=by
 obtain⟨r,r1,r2⟩:=VG s 1048576 h0 (by omega) (by omega)
 by_cases hr:r<0
 .rw[mW,nK [.tmp 2] [10] func5]
  simp only[go_sem,r1,hr]
 have sm:ET s:=by
  unfold Szd at r2;unfold ET;rcases r2 with h|⟨_,h⟩<;>refine⟨?_,?_,?_,?_⟩<;>omega
 obtain⟨o,hN⟩:=ait s h0;have k1:=hN.2.1;unfold XR at k1;have c3:=VE s h0;obtain⟨w,hw⟩:∃w,w=o.getD []:=⟨_,rfl⟩;have i4:w.length<=8:=by
  rw[hw];cases o with
  |none=>simp
  |some L=>exact hN.1 L rfl
 have ke:=Rt w (by unfold maxLen;omega);obtain⟨ok,a8⟩:∃ok,ok=o.isSome:=⟨_,rfl⟩;rw[<- hw,<- a8]at k1;have hI:=avI hN;rw[<- hw,<- a8]at hI;obtain⟨Ci,s0⟩:∃Ci,Ci=upd lI 0 (some ⟨cStance s,0,true⟩):=⟨_,rfl⟩;have b0:Ci 0=some ⟨cStance s,0,true⟩:=by rw[s0,aF]
 obtain⟨Y,e1,y1,f1⟩:=aU s h0 Ci 1;obtain⟨E,c4⟩:∃E,E=1+10:=⟨_,rfl⟩;rw[<- c4]at e1;have b1:Y 0=some ⟨cStance s,0,true⟩:=by rw[f1 0 (by omega),b0]
 have t1:=fun d=>y1.stripL d
 obtain⟨a1,q1⟩:∃a1,a1=behind Y (FT (1+6)) (.Au [LI w,Bo ok]):=⟨_,rfl⟩;have c1:a1 0=some ⟨cStance s,0,true⟩:=by rw[q1,qy (by decide),b1]
 obtain⟨σ2,e2,y2,f2⟩:=aU s h0 a1 E;obtain⟨G,c5⟩:∃G,G=E+10:=⟨_,rfl⟩;rw[<- c5]at e2;have b2:σ2 0=some ⟨cStance s,0,true⟩:=by rw[f2 0 (by omega),c1]
 obtain⟨J,s3⟩:∃J,J=upd σ2 G (some ⟨DI (E+6) s,0,true⟩):=⟨_,rfl⟩;have b3:J 0=some ⟨cStance s,0,true⟩:=by rw[s3,aH,b2]
 have p3:J G=some ⟨DI (E+6) s,0,true⟩:=by rw[s3,aF]
 have y3:Eo J (E+6) s:=y2.frame fun c h1 h2=>by rw[s3,aH]
 have t3:=fun d=>y3.stripL d
 obtain⟨v,ρ,n3,ids,e3,i5,o3,O⟩:=hI (G+1);have g3:=fun d=>o3.gather d
 obtain⟨S,s4⟩:∃S,S=CV (G+1) J ρ ids:=⟨_,rfl⟩;have l4:∀c,c<G+1->S c=J c:=fun c hc=>by rw[s4,kF hc]
 have b4:S 0=some ⟨cStance s,0,true⟩:=by rw[l4 0 (by omega),b3]
 have p4:S G=some ⟨DI (E+6) s,0,true⟩:=by rw[l4 G (by omega),p3]
 have y4:Eo S (E+6) s:=y3.frame fun c h1 h2=>l4 c (by omega)
 have o4:Fe S v w ids:=by rw[s4];exact o3.join fun b hb=>(O b hb).1
 have t4:=fun d=>o4.strip d
 obtain⟨c6,e5,y5,_⟩:=aU s h0 (restrict S []) n3;obtain⟨n4,c7⟩:∃n4,n4=n3+10:=⟨_,rfl⟩;rw[<- c7]at e5;obtain⟨Dn,s5⟩:∃Dn,Dn=xI [] n3 n4 S c6:=⟨_,rfl⟩;have l5:∀c,c<n3->Dn c=S c:=fun c hc=>by rw[s5,QE hc]
 have b5:Dn 0=some ⟨cStance s,0,true⟩:=by rw[l5 0 (by omega),b4]
 have p5:Dn G=some ⟨DI (E+6) s,0,true⟩:=by rw[l5 G (by omega),p4]
 have b8:Eo Dn (E+6) s:=y4.frame fun c h1 h2=>l5 c (by omega)
 have c8:Eo Dn (n3+6) s:=y5.frame fun c h1 h2=>by rw[s5,XM (by omega) (by omega)]
 have b9:=fun d=>b8.stripL d
 have c0:=fun d=>c8.stripL d
 have c9:((FT (E+6)).all fun b=>decide (b<n4))=true:=Ox (by omega);have e0:((FT (n3+6)).all fun b=>decide (b<n4))=true:=Ox (by omega);have o5:Fe Dn v w ids:=o4.frame fun b hb=>l5 b (O b hb).2
 obtain⟨k',Dh,a6,e6,i6,f6⟩:=aaY (nx:=n4) s b8 (by omega) sm;have l6:∀c,G<=c->c<n4->Dh c=Dn c:=fun c h1 h2=>f6 c (by omega) h2
 have b6:Dh 0=some ⟨cStance s,0,true⟩:=by rw[f6 0 (by omega) (by omega),b5]
 have o6:Fe Dh v w ids:=o5.frame fun b hb=>l6 b (by have:=O b hb;omega) (by have:=O b hb;omega)
 have t6:=fun d=>o6.strip d
 obtain⟨Fa,e7,o7,f7⟩:=o6.mark (nx:=a6) (by omega) 1 (by omega);have b7:Fa 0=some ⟨cStance s,0,true⟩:=by rw[f7 0 (fun hb=>by have:=O 0 hb;omega),b6]
 have t7:=fun d=>o7.strip d
 have kh:=agh 1 w.length (by omega) (by omega);obtain⟨e4,e8,y8,f8⟩:=aU s h0 Fa a6;obtain⟨n5,h3⟩:∃n5,n5=a6+10:=⟨_,rfl⟩;rw[<- h3]at e8;have t8:=fun d=>y8.stripL d
 obtain⟨v',h4,n6,Dv,e9,Qb,o9,h5⟩:=hI n5;have g9:=fun d=>o9.gather d
 obtain⟨a7,s9⟩:∃a7,a7=CV n5 e4 h4 Dv:=⟨_,rfl⟩;have h6:Fe a7 v' w Dv:=by rw[s9];exact o9.join fun b hb=>(h5 b hb).1
 have h7:Fe a7 v (marks 1 w.length) ids:=o7.frame fun b hb=>by have:=O b hb;rw[s9,kF (by omega),f8 b (by omega)]
 have h8:=fun d=>h6.strip d
 have h9:=fun d=>h7.strip d
 have d1:cellsOfV v=some [v]:=qE o3.cell;have z1:¬G=0:=by omega
 have z2:¬0=G:=by omega
 have z3:G<n3:=by omega
 have z4:0<n3:=by omega
 have z5:¬(k':Int)<0:=by omega
 have z6:¬(1:Int)+(w.length:Int)<0:=by omega
 have v1:(DI (E+6) s).length=5:=rfl;have v2:(DI (E+6) s).all qI=true:=rfl;have v3:patch ES 0 (DI (E+6) s)=DI (E+6) s:=rfl;have v4:(DI (E+6) s).take 5=DI (E+6) s:=rfl;obtain⟨V3,i0⟩:∃V3,V3=DI (E+6) s:=⟨_,rfl⟩;rw[<- i0]at e2 s3 p3 p4 p5 t3 b9 v1 v2 v3 v4 e6;obtain⟨V1,c2⟩:∃V1,V1=DI (1+6) s:=⟨_,rfl⟩;have t1:∀d,TV.stripL (TV.strip Y (d+2)) V1=some (cStance s,FT (1+6)):=by rw[c2];exact t1
 have e1:ev Ze Aa BN 29 [.agg (cStance s)] Ci 1=some (.agg V1,Y,E):=by rw[c2];exact e1
 obtain⟨V5,i1⟩:∃V5,V5=DI (n3+6) s:=⟨_,rfl⟩;rw[<- i1]at e5 c0;obtain⟨V8,i2⟩:∃V8,V8=DI (a6+6) s:=⟨_,rfl⟩;rw[<- i2]at e8 t8;obtain⟨I1,i3⟩:∃I1,I1=FT (1+6):=⟨_,rfl⟩;rw[<- i3]at t1 q1;rw[mW,nK [.tmp 2] [10] func5];simp (maxDischargeDepth:=9) only[go_sem,qM,r1,hr,<- s0,b0,e1,b1,t1,k1,<- q1,c1,e2,b2,v1,v2,v3,v4,<- s3,b3,p3,t3,e3,g3,<- s4,b4,p4,t4,ke,e5,<- s5,b5,p5,b9,c0,c9,e0,List.all_append,c3,e6,b6,t6,e7,b7,t7,kh,e8,t8,e9,g9,<- s9,h8,h9,XP,wY,d1,z1,z2,z3,z4,z5,z6]
end Pure
end Go.Proofs.YtkpdoehbhmipcaaGreat
