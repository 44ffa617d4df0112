import Derived.Test.YtkpdoehbhmipcaaGreatTb6
set_option linter.unusedSimpArgs false
set_option linter.unusedVariables false
set_option linter.unusedSectionVars false
set_option linter.defProp false
set_option maxRecDepth 10000
set_option maxHeartbeats 4000000
open Go.Proofs.Tryz renaming prog->ZL
open Go.Proofs.Tryz
open Int renaming lt_irrefl->zk
open List renaming getElem_mem->zu,take_of_length_le->zl,length_take->zh,eq_nil_of_length_eq_zero->zZ,flatMap_append->zT,length_drop->zO,append_nil->zC,length_eraseIdx_of_lt->yV,nil_append->yO,drop_of_length_le->xw,all_eq_true->wO,eraseIdx_eq_take_drop_succ->vX
open Nat renaming le_refl->zq,le_trans->zU
namespace Go.Proofs.YtkpdoehbhmipcaaGreat
open Go Go.TV Go.Plan
attribute [-go_sem] qw
namespace Pure
theorem FnEveryYard(y:Yard)(ho:okYard y)(fr:Int)(h1:okI fr)(to:Int)(h2:okI to) :
  fn ZL Du EZ 3 [.agg (cYard y),I fr,I to]=some (Bo true):=by
 by_cases hs:(1048576:Int)<(y.stances.length:Int)
 .rw[m_,mg [.tmp 6] [24,25] func3]
  simp only[go_sem,hs]
 by_cases b8:(1048576:Int)<(y.moves.length:Int)
 .rw[m_,mg [.tmp 6] [24,25] func3]
  simp only[go_sem,hs,b8]
 have k4:=Lh y ho;have k3:=abS y ho
 by_cases hG:Ak y
 case neg=>
  rw[iE hG]at k3 k4;rw[m_,mg [.tmp 6] [24,25] func3];simp only[go_sem,hs,b8,k3,k4]
 rw[iD hG]at k3 k4;have KX:=hG.1;obtain⟨v,b7,n1,i1,k5,j6,o1,h8⟩:=aeX y ho fr to 1;have g1:=fun d=>o1.gather (d':=d+1) (by omega)
 obtain⟨Tf,ea⟩:∃Tf,Tf=CQ 1 (upd lI 0 (some ⟨cYard y,0,true⟩)) b7 i1:=⟨_,rfl⟩;have h9:Own Tf 1 v (LI (Dh y fr to)) i1:=by rw[ea];exact o1.join fun b hb=>(h8 b hb).1
 have a0:Tf 0=some ⟨cYard y,0,true⟩:=by rw[ea,jk (by omega),Zk]
 obtain⟨w,σ2,n2,i2,k6,j7,o2,j1⟩:=al3 y ho fr n1;have g2:=fun d=>o2.gather (d':=d+1) (by omega)
 obtain⟨Qq,eb⟩:∃Qq,Qq=CQ n1 Tf σ2 i2:=⟨_,rfl⟩;have b0:Qq 0=some ⟨cYard y,0,true⟩:=by rw[eb,jk (by omega),a0]
 have j2:Own Qq 1 w (LI (Ed y fr)) i2:=by rw[eb];exact o2.join fun b hb=>(j1 b hb).1
 have s2:=fun d=>j2.strip (d':=d+1) (by omega)
 have k7:=ayq (Ed y fr) to (abx y fr);rw[m_,mg [.tmp 6] [24,25] func3];cases c0:BI y fr to with
 |false=>
  rw[c0]at k5
  by_cases c1:fr<0
  .simp only[go_sem,hs,b8,k3,k4,k5,g1,<- ea,a0,c1]
  by_cases c2:(y.stances.length:Int)<=fr
  .simp only[go_sem,hs,b8,k3,k4,k5,g1,<- ea,a0,c1,c2]
  by_cases c3:to<0
  .simp only[go_sem,hs,b8,k3,k4,k5,g1,<- ea,a0,c1,c2,c3]
  by_cases c4:(y.stances.length:Int)<=to
  .simp only[go_sem,hs,b8,k3,k4,k5,g1,<- ea,a0,c1,c2,c3,c4]
  have j3:to∉Ed y fr:=by
   obtain⟨a,rfl⟩:∃a:Nat,fr=(a:Int):=⟨fr.toNat,by omega⟩;obtain⟨t,rfl⟩:∃t:Nat,to=(t:Int):=⟨to.toNat,by omega⟩;exact abB hG c0 (by omega) (by omega)
  rw[sD j3]at k7;simp only[go_sem,hs,b8,k3,k4,k5,g1,<- ea,a0,c1,c2,c3,c4,k6,g2,<- eb,b0,s2,k7]
 |true=>
  rw[c0]at k5;rw[sF (ae_ c0)]at k7;have i0:=zU (QT y fr to) (by decide:1000000<=1048576);have k9:=al2 y ho (Dh y fr to) i0;have k8:=al1 y ho (Dh y fr to) i0;rw[Yg c0]at k9 k8;have hP:=al7 c0;obtain⟨e8,i3,i6⟩:=ae' c0;obtain⟨P,eP⟩:∃P,P=Dh y fr to:=⟨_,rfl⟩;have j8:P.length<=1000000:=by rw[eP];exact QT y fr to
  simp only[<- eP]at h9 k9 k8 hP e8 i3 i6;obtain⟨b,hv,j4,i7⟩:∃b,v= .rs b 0 P.length/\i1=[b]/\Tf b=some ⟨P.flatMap cI,1,true⟩:=by
   rcases Wx h9 with ⟨_,e,_⟩|⟨b,st,h1,h2,h3,h4⟩
   .exact absurd e hP.1
   .have:st=1:=by
     rcases Nat.lt_trichotomy st 1 with c|c|c
     .have:st=0:=by omega
      subst this;omega
     .exact c
     .have:P.length*1<P.length*st:=Nat.mul_lt_mul_of_pos_left c e8
      omega
    subst this;exact⟨b,h1,h2,h3⟩
  have j9:=h8 b (by rw[j4];simp);subst hv;have bb:Qq b=some ⟨P.flatMap cI,1,true⟩:=by rw[eb,jk (by omega),i7]
  have sP:=fun d=>kD bb (n:=P.length) rfl d
  have x1:((P.length:Int)==0)=false:=by rw[sG];omega
  have x2:(0:Int)<(P.length:Int):=by omega
  have x3:=idx (xs:=P) (k:=0) e8;rw[i3]at x3;have x4:=idx (xs:=P) (k:=P.length-1) (by omega);rw[i6]at x4;have x5:=ZT (n:=(P.length:Int) - 1);have x6:(P.length:Int) - 1=((P.length-1:Nat):Int):=by omega
  rw[x6]at x5;have x7:((P.length-1:Nat):Int)<(P.length:Int):=by omega
  have x8:(0:Int)<=((P.length-1:Nat):Int):=by omega
  have x9:P.length-1<P.length:=by omega
  have xa:(fr !=fr)=false:=by simp
  have xb:(to !=to)=false:=by simp
  have xc:=bZ (c:=cI) (s:=1) (fun _=>rfl) P;have x0:Int.toNat 0=0:=rfl;have xd:(0:Int)<=0:=by decide
  simp only[go_sem,hs,b8,k3,k4,k5,g1,<- ea,a0,i7,x0,xd,x1,x2,x3,x4,x5,x6,x7,x8,x9,xa,xb,xc,e8,k6,g2,<- eb,b0,bb,s2,k7,sP,k8,k9];generalize hL:dI _ _=z;obtain⟨x,rfl,T,σ,nx,rfl,t3,t7,c9,b0,bb⟩:=oZ hL P.length (fun j st=>st.T 3= .rp 0 0/\st.T 7= .rs b 0 P.length/\st.T 111= .rs b 0 P.length/\st.T 112=I P.length/\st.T 113=I j/\n2<=st.nx/\st.σ 0=some ⟨cYard y,0,true⟩/\st.σ b=some ⟨P.flatMap cI,1,true⟩)
   (fun x=>∃T σ nx,x=(.exit 0,⟨T,σ,nx⟩)/\T 3= .rp 0 0/\T 7= .rs b 0 P.length/\n2<=nx/\σ 0=some ⟨cYard y,0,true⟩/\σ b=some ⟨P.flatMap cI,1,true⟩) (by
    clear hL;rintro j ⟨T,σ,m⟩ hj ⟨t3,t7,D8,DW,DX,hm,b0,bb⟩;simp only at t3 t7 D8 DW DX hm b0 bb;have f1:(j:Int)<(P.length:Int):=by omega
    have f2:=jD j;have f3:=ZT (n:=(j:Int)+1);have f4:=idx (xs:=P) (k:=j) hj;have f5:=bZ (c:=cI) (s:=1) (fun _=>rfl) P;obtain⟨i,ei,hi,e0⟩:=hP.2 j hj;rw[ei]at f4;have g1:(i:Int)<(y.stances.length:Int):=by omega
    have g2:=jD i;have g3:¬(i:Int)<0:=by omega
    have g4:¬(y.stances.length:Int)<=(i:Int):=by omega
    have g5:=aao y.stances i hi;have g6:=MV y.stances;have g7:i*5+5<=y.stances.length*5:=by omega
    have g9:=aap y.stances i hi;have e9:=ho.1.1 _ (zu hi);obtain⟨t,et⟩:∃t,t=y.stances[i]:=⟨_,rfl⟩;rw[<- et]at g5 e0 e9;obtain⟨p1,p2,p3,j5,hS⟩:=abA e0;obtain⟨q,hE,m1,m2,m3⟩:=aiT p1 e9.2.1 p2 p3 j5;have m4:=OL p1 e9.2.1 p2 hE;have k0:=p1.2.1;have Pj:=p1.1;have z1:¬0=m:=by omega
    have z2:¬m=0:=by omega
    have z3:¬b=m:=by omega
    have z4:¬m=b:=by omega
    refine bC ?_
    conv=>
     enter [1,r,1,1]
     simp only[go_sem,t3,t7,D8,DW,DX,b0,bb,f1,f2,f4,f5,hj,g1,g2,g3,g4,g5,g6,g7,g9,m1,m2,m3,m4,z1,z2,z3,z4]
    generalize hL:dI _ _=z;obtain⟨x,rfl,T1,b7,nI,rfl,t3,t7,D8,DW,DX,k1,b0,bb⟩:=oZ hL t.st.members.length (fun k st=>st.T 3= .rp 0 0/\st.T 7= .rs b 0 P.length/\st.T 11= .rp m 0/\st.T 111= .rs b 0 P.length/\st.T 112=I P.length/\st.T 113=I j/\st.T 173=I t.st.members.length/\st.T 174=I k/\m<st.nx/\st.σ 0=some ⟨cYard y,0,true⟩/\st.σ m=some ⟨cStance t,0,true⟩/\st.σ b=some ⟨P.flatMap cI,1,true⟩)
     (fun x=>∃T σ nx,x=(.exit 2,⟨T,σ,nx⟩)/\T 3= .rp 0 0/\T 7= .rs b 0 P.length/\T 111= .rs b 0 P.length/\T 112=I P.length/\T 113=I j/\m<nx/\σ 0=some ⟨cYard y,0,true⟩/\σ b=some ⟨P.flatMap cI,1,true⟩) (by
      clear hL;rintro k ⟨T,σ,nx⟩ hk ⟨t3,t7,t11,D8,DW,DX,t173,KY,c9,b0,bm,bb⟩;simp only at t3 t7 t11 D8 DW DX t173 KY c9 b0 bm bb;have f1:(k:Int)<(t.st.members.length:Int):=by omega
      have f2:=jD k;have f3:=ZT (n:=(k:Int)+1);have i9:=p3.1;have e7:t.limits.eraseIdx k=t.limits.take k++t.limits.drop (k+1):=vX ..;have hlen:(t.limits.eraseIdx k).length=t.st.members.length-1:=by rw[yV (by omega),i9]
      have e1:(t.limits.flatMap cI).take k=(t.limits.take k).flatMap cI:=qJ ..;have e2:((t.limits.flatMap cI).drop (k+1)).take (t.st.members.length - (k+1))=(t.limits.drop (k+1)).flatMap cI:=by
       have:(t.limits.flatMap cI).drop (k+1)=(t.limits.drop (k+1)).flatMap cI:=by rw[jM,<- List.map_drop,<- jM]
       rw[this,zl (by rw[qL,zO];omega)]
      have i2:((k:Int)+1).toNat=k+1:=by omega
      have i1:(0:Int)<=(k:Int)+1:=by omega
      have i4:k+1<=t.st.members.length:=hk;have i5:k<=t.st.members.length:=by omega
      have c1:=qM (t.limits.take k);have c2:=qM (t.limits.drop (k+1));have l1:(t.limits.take k).length=k:=by rw[zh];omega
      have l2:(t.limits.drop (k+1)).length=t.st.members.length - (k+1):=by rw[zO];omega
      have l3:=i9;have y1:nx<nx+1:=by omega
      have y2:m<nx:=c9;have y3:0<nx:=by omega
      by_cases h0:k=0
      .have z0:(k=0)=True:=eq_true h0
       have w0:t.limits.take k=[]:=by rw[h0];rfl
       by_cases h5:k+1=t.st.members.length
       .have m1:(t.st.members.length - (k+1)=0)=True:=eq_true (by omega)
        have Yb:t.limits.eraseIdx k=[]:=zZ (by omega);obtain⟨σ2,J⟩:∃σ2,σ2=σ:=⟨_,rfl⟩;have G:σ2 0=some ⟨cYard y,0,true⟩:=by rw[J];exact b0
        have UG:σ2 m=some ⟨cStance t,0,true⟩:=by rw[J];exact bm
        have a8:σ2 b=some ⟨P.flatMap cI,1,true⟩:=by rw[J];exact bb
        obtain⟨E,e3⟩:∃E,E=upd σ2 (nx) (some ⟨[I k],1,true⟩):=⟨_,rfl⟩;have b2:E 0=some ⟨cYard y,0,true⟩:=by rw[e3,Zm];exact G
        have b3:E m=some ⟨cStance t,0,true⟩:=by rw[e3,Zm];exact UG
        have c5:E b=some ⟨P.flatMap cI,1,true⟩:=by rw[e3,Zm];exact a8
        have st:∀d,strip E (d+1) (.nil)=some (LI (t.limits.eraseIdx k),[]):=fun d=>by rw[Yb,aS];rfl
        have h6:∀d,strip σ2 (d+1) (.nil)=some (LI (t.limits.eraseIdx k),[]):=fun d=>by rw[Yb,aS];rfl
        have c6:∀d,strip E (d+1) (.rs (nx) 0 1)=some (.ts [I k] 1,[nx]):=fun d=>by
         have:=kD (σ:=E) (b:=nx) (xs:=[(k:Int)]) (by rw[e3,Zk];rfl) (n:=1) rfl d;exact this
        have yA:0<nx:=by omega
        have yH:m<nx+1:=by omega
        have yI:0<nx+1:=by omega
        have yE:(m==nx)=false:=by rw[sG];omega
        have yF:(m==nx+1)=false:=by rw[sG];omega
        have yB:m<nx:=by omega
        have yC:m<nx+1:=by omega
        have yD:0<nx+1:=by omega
        cases O:y.strict with
        |false=>
         refine .inl ⟨_,by simp only[go_sem,t3,t7,t11,D8,DW,DX,t173,KY,b0,bm,O,f1,f2,f3,e1,e2,i1,i2,i4,i5,c1,c2,l1,l2,l3,y1,y2,y3,yA,yB,yC,yD,yE,yF,yH,yI,z0,m1,<- J,G,UG];rfl,?_⟩;simp only[go_sem,t3,t7,t11,D8,DW,DX,t173];exact⟨rfl,by omega,G,UG,a8⟩
        |true=>
         have k5:=hS k hk;rw[O]at k5;have k5:=k5 rfl;obtain⟨v1,v2,c7,S,Ht,k2,h7,hO,b5⟩:=kK t.st (by omega) (by omega) k hk (nx+1);have gO:=fun d=>hO.gather (d':=d+2) (by omega)
         obtain⟨Y,e6⟩:∃Y,Y=Gg (nx+1) S E c7 Ht:=⟨_,rfl⟩;have a1:Y 0=some ⟨cYard y,0,true⟩:=by rw[e6,oG (by omega)];exact b2
         have a7:Y m=some ⟨cStance t,0,true⟩:=by rw[e6,oG (by omega)];exact b3
         have b6:Y b=some ⟨P.flatMap cI,1,true⟩:=by rw[e6,oG (by omega)];exact c5
         have o4:Own Y 2 (.agg [v1,v2]) (.agg (cStructure (del t.st k))) Ht:=by rw[e6];exact hO.draw b5
         have so:=fun d=>o4.strip (d':=d+2) (by omega)
         have c8:∀d,strip Y (d+1) (.nil)=some (LI (t.limits.eraseIdx k),[]):=fun d=>by rw[Yb,aS];rfl
         have a5:(Ht.all fun b=>decide (b<S))=true:=by
          rw[wO];intro b hb;have:=(b5 b hb).2
          simpa using this
         have a6:((Ht++[]).all fun b=>decide (b<S))=true:=by
          rw[List.all_append,a5];simp
          try omega
         have y4:nx<nx+1:=by omega
         have y5:0<S:=by omega
         have y6:m<S:=by omega
         have y7:nx<S:=by omega
         have y8:nx+1<S\/True:=.inr trivial;refine .inl ⟨_,by simp only[go_sem,t3,t7,t11,D8,DW,DX,t173,KY,b0,bm,O,f1,f2,f3,e1,e2,i1,i2,i4,i5,c1,c2,l1,l2,l3,k2,gO,k5,c8,c6,so,a5,a6,y1,y2,y3,y4,y5,y6,y7,yA,yB,yC,yD,yE,yF,yH,yI,z0,m1,<- J,G,UG,<- e3,b2,b3,<- e6,a1,a7,I_];rfl,?_⟩;simp only[go_sem,t3,t7,t11,D8,DW,DX,t173]
         first
          |exact⟨rfl,by omega,a1,a7,b6⟩
          |exact⟨by omega,a1,a7,b6⟩
       .have m1:¬t.st.members.length - (k+1)=0:=by omega
        have Yb:t.limits.eraseIdx k=t.limits.drop (k+1):=by rw[e7,w0,yO]
        have s1:t.st.members.length - (k+1)<=maxLen/\(t.st.members.length - (k+1))*8<=140737488355328:=by unfold maxLen;omega
        obtain⟨σ2,J⟩:∃σ2,σ2=upd σ nx (some ⟨(t.limits.drop (k+1)).flatMap cI,1,true⟩):=⟨_,rfl⟩;have G:σ2 0=some ⟨cYard y,0,true⟩:=by rw[J,Zm];exact b0
        have UG:σ2 m=some ⟨cStance t,0,true⟩:=by rw[J,Zm];exact bm
        have a8:σ2 b=some ⟨P.flatMap cI,1,true⟩:=by rw[J,Zm];exact bb
        obtain⟨E,e3⟩:∃E,E=upd σ2 (nx+1) (some ⟨[I k],1,true⟩):=⟨_,rfl⟩;have b2:E 0=some ⟨cYard y,0,true⟩:=by rw[e3,Zm];exact G
        have b3:E m=some ⟨cStance t,0,true⟩:=by rw[e3,Zm];exact UG
        have c5:E b=some ⟨P.flatMap cI,1,true⟩:=by rw[e3,Zm];exact a8
        have st:∀d,strip E (d+1) (.rs nx 0 (t.st.members.length - (k+1)))=some (LI (t.limits.eraseIdx k),[nx]):=fun d=>by rw[Yb];exact kD (by rw[e3,Zm,J,Zk]) (by omega) d
        have h6:∀d,strip σ2 (d+1) (.rs nx 0 (t.st.members.length - (k+1)))=some (LI (t.limits.eraseIdx k),[nx]):=fun d=>by rw[Yb];exact kD (by rw[J,Zk]) (by omega) d
        have c6:∀d,strip E (d+1) (.rs (nx+1) 0 1)=some (.ts [I k] 1,[nx+1]):=fun d=>by
         have:=kD (σ:=E) (b:=nx+1) (xs:=[(k:Int)]) (by rw[e3,Zk];rfl) (n:=1) rfl d;exact this
        have yA:0<nx+1:=by omega
        have yH:m<nx+1:=by omega
        have yI:0<nx+1:=by omega
        have yE:(m==nx)=false:=by rw[sG];omega
        have yF:(m==nx+1)=false:=by rw[sG];omega
        have yB:m<nx+1:=by omega
        have yC:m<nx+1+1:=by omega
        have yD:0<nx+1+1:=by omega
        cases O:y.strict with
        |false=>
         refine .inl ⟨_,by simp only[go_sem,t3,t7,t11,D8,DW,DX,t173,KY,b0,bm,O,f1,f2,f3,e1,e2,i1,i2,i4,i5,c1,c2,l1,l2,l3,y1,y2,y3,yA,yB,yC,yD,yE,yF,yH,yI,z0,m1,s1,<- J,G,UG];rfl,?_⟩;simp only[go_sem,t3,t7,t11,D8,DW,DX,t173];exact⟨rfl,by omega,G,UG,a8⟩
        |true=>
         have k5:=hS k hk;rw[O]at k5;have k5:=k5 rfl;obtain⟨v1,v2,c7,S,Ht,k2,h7,hO,b5⟩:=kK t.st (by omega) (by omega) k hk (nx+1+1);have gO:=fun d=>hO.gather (d':=d+2) (by omega)
         obtain⟨Y,e6⟩:∃Y,Y=Gg (nx+1+1) S E c7 Ht:=⟨_,rfl⟩;have a1:Y 0=some ⟨cYard y,0,true⟩:=by rw[e6,oG (by omega)];exact b2
         have a7:Y m=some ⟨cStance t,0,true⟩:=by rw[e6,oG (by omega)];exact b3
         have b6:Y b=some ⟨P.flatMap cI,1,true⟩:=by rw[e6,oG (by omega)];exact c5
         have o4:Own Y 2 (.agg [v1,v2]) (.agg (cStructure (del t.st k))) Ht:=by rw[e6];exact hO.draw b5
         have so:=fun d=>o4.strip (d':=d+2) (by omega)
         have c8:∀d,strip Y (d+1) (.rs nx 0 (t.st.members.length - (k+1)))=some (LI (t.limits.eraseIdx k),[nx]):=fun d=>by rw[Yb];exact kD (by rw[e6,oG (by omega),e3,Zm,J,Zk]) (by omega) d
         have a5:(Ht.all fun b=>decide (b<S))=true:=by
          rw[wO];intro b hb;have:=(b5 b hb).2
          simpa using this
         have a6:((Ht++[nx]).all fun b=>decide (b<S))=true:=by
          rw[List.all_append,a5];simp
          try omega
         have y4:nx+1<nx+1+1:=by omega
         have y5:0<S:=by omega
         have y6:m<S:=by omega
         have y7:nx<S:=by omega
         have y8:nx+1<S\/True:=.inr trivial;refine .inl ⟨_,by simp only[go_sem,t3,t7,t11,D8,DW,DX,t173,KY,b0,bm,O,f1,f2,f3,e1,e2,i1,i2,i4,i5,c1,c2,l1,l2,l3,k2,gO,k5,c8,c6,so,a5,a6,y1,y2,y3,y4,y5,y6,y7,yA,yB,yC,yD,yE,yF,yH,yI,z0,m1,s1,<- J,G,UG,<- e3,b2,b3,<- e6,a1,a7,I_];rfl,?_⟩;simp only[go_sem,t3,t7,t11,D8,DW,DX,t173]
         first
          |exact⟨rfl,by omega,a1,a7,b6⟩
          |exact⟨by omega,a1,a7,b6⟩
      .have z0:¬k=0:=h0
       have s1:k<=maxLen/\k*8<=140737488355328:=by unfold maxLen;omega
       by_cases h5:k+1=t.st.members.length
       .have m1:t.st.members.length - (k+1)=0:=by omega
        have w0:t.limits.drop (k+1)=[]:=xw (by omega);have Yb:t.limits.eraseIdx k=t.limits.take k:=by rw[e7,w0,zC]
        obtain⟨σ2,J⟩:∃σ2,σ2=upd σ nx (some ⟨(t.limits.take k).flatMap cI,1,true⟩):=⟨_,rfl⟩;have G:σ2 0=some ⟨cYard y,0,true⟩:=by rw[J,Zm];exact b0
        have UG:σ2 m=some ⟨cStance t,0,true⟩:=by rw[J,Zm];exact bm
        have a8:σ2 b=some ⟨P.flatMap cI,1,true⟩:=by rw[J,Zm];exact bb
        have b9:=NV (restrict σ2 [nx]) (nx+1) 1 8 nx 0 k [] (B:=⟨(t.limits.take k).flatMap cI,1,true⟩) (by rw[fJ,J,Zk]);obtain⟨E,e3⟩:∃E,E=upd σ2 (nx+1) (some ⟨[I k],1,true⟩):=⟨_,rfl⟩;have b2:E 0=some ⟨cYard y,0,true⟩:=by rw[e3,Zm];exact G
        have b3:E m=some ⟨cStance t,0,true⟩:=by rw[e3,Zm];exact UG
        have c5:E b=some ⟨P.flatMap cI,1,true⟩:=by rw[e3,Zm];exact a8
        have st:∀d,strip E (d+1) (.rs nx 0 k)=some (LI (t.limits.eraseIdx k),[nx]):=fun d=>by rw[Yb];exact kD (by rw[e3,Zm,J,Zk]) (by omega) d
        have h6:∀d,strip σ2 (d+1) (.rs nx 0 k)=some (LI (t.limits.eraseIdx k),[nx]):=fun d=>by rw[Yb];exact kD (by rw[J,Zk]) (by omega) d
        have c6:∀d,strip E (d+1) (.rs (nx+1) 0 1)=some (.ts [I k] 1,[nx+1]):=fun d=>by
         have:=kD (σ:=E) (b:=nx+1) (xs:=[(k:Int)]) (by rw[e3,Zk];rfl) (n:=1) rfl d;exact this
        have yA:0<nx+1:=by omega
        have yH:m<nx+1:=by omega
        have yI:0<nx+1:=by omega
        have yE:(m==nx)=false:=by rw[sG];omega
        have yF:(m==nx+1)=false:=by rw[sG];omega
        have yB:m<nx+1:=by omega
        have yC:m<nx+1+1:=by omega
        have yD:0<nx+1+1:=by omega
        cases O:y.strict with
        |false=>
         refine .inl ⟨_,by simp only[go_sem,t3,t7,t11,D8,DW,DX,t173,KY,b0,bm,O,f1,f2,f3,e1,e2,i1,i2,i4,i5,c1,c2,l1,l2,l3,y1,y2,y3,yA,yB,yC,yD,yE,yF,yH,yI,z0,m1,s1,<- J,b9,G,UG];rfl,?_⟩;simp only[go_sem,t3,t7,t11,D8,DW,DX,t173];exact⟨rfl,by omega,G,UG,a8⟩
        |true=>
         have k5:=hS k hk;rw[O]at k5;have k5:=k5 rfl;obtain⟨v1,v2,c7,S,Ht,k2,h7,hO,b5⟩:=kK t.st (by omega) (by omega) k hk (nx+1+1);have gO:=fun d=>hO.gather (d':=d+2) (by omega)
         obtain⟨Y,e6⟩:∃Y,Y=Gg (nx+1+1) S E c7 Ht:=⟨_,rfl⟩;have a1:Y 0=some ⟨cYard y,0,true⟩:=by rw[e6,oG (by omega)];exact b2
         have a7:Y m=some ⟨cStance t,0,true⟩:=by rw[e6,oG (by omega)];exact b3
         have b6:Y b=some ⟨P.flatMap cI,1,true⟩:=by rw[e6,oG (by omega)];exact c5
         have o4:Own Y 2 (.agg [v1,v2]) (.agg (cStructure (del t.st k))) Ht:=by rw[e6];exact hO.draw b5
         have so:=fun d=>o4.strip (d':=d+2) (by omega)
         have c8:∀d,strip Y (d+1) (.rs nx 0 k)=some (LI (t.limits.eraseIdx k),[nx]):=fun d=>by rw[Yb];exact kD (by rw[e6,oG (by omega),e3,Zm,J,Zk]) (by omega) d
         have a5:(Ht.all fun b=>decide (b<S))=true:=by
          rw[wO];intro b hb;have:=(b5 b hb).2
          simpa using this
         have a6:((Ht++[nx]).all fun b=>decide (b<S))=true:=by
          rw[List.all_append,a5];simp
          try omega
         have y4:nx+1<nx+1+1:=by omega
         have y5:0<S:=by omega
         have y6:m<S:=by omega
         have y7:nx<S:=by omega
         have y8:nx+1<S\/True:=.inr trivial;refine .inl ⟨_,by simp only[go_sem,t3,t7,t11,D8,DW,DX,t173,KY,b0,bm,O,f1,f2,f3,e1,e2,i1,i2,i4,i5,c1,c2,l1,l2,l3,k2,gO,k5,c8,c6,so,a5,a6,y1,y2,y3,y4,y5,y6,y7,yA,yB,yC,yD,yE,yF,yH,yI,z0,m1,s1,<- J,b9,G,UG,<- e3,b2,b3,<- e6,a1,a7,I_];rfl,?_⟩;simp only[go_sem,t3,t7,t11,D8,DW,DX,t173]
         first
          |exact⟨rfl,by omega,a1,a7,b6⟩
          |exact⟨by omega,a1,a7,b6⟩
       .have m1:¬t.st.members.length - (k+1)=0:=by omega
        obtain⟨b7,e5⟩:∃b7,b7=upd σ nx (some ⟨(t.limits.take k).flatMap cI,1,true⟩):=⟨_,rfl⟩;have j0:b7 m=some ⟨cStance t,0,true⟩:=by rw[e5,Zm];exact bm
        have b9:=rC (σ:=restrict b7 [nx]) (nx:=nx+1) (bytes:=8) (b:=nx) (len:=k) (m:=t.st.members.length - (k+1)) (row:=(t.limits.drop (k+1)).flatMap cI) (B:=⟨(t.limits.take k).flatMap cI,1,true⟩) (by rw[fJ,e5,Zk]) (by show((t.limits.take k).flatMap cI).length=_;rw[qL,l1]) rfl m1 (by unfold maxLen;omega) (by omega) c2;obtain⟨σ2,J⟩:∃σ2,σ2=Aa [nx] (nx+1) (nx+1+1) b7 (upd (upd (restrict b7 [nx]) nx none) (nx+1) (some ⟨(t.limits.take k).flatMap cI++(t.limits.drop (k+1)).flatMap cI,1,true⟩)):=⟨_,rfl⟩;have G:σ2 0=some ⟨cYard y,0,true⟩:=by rw[J];unfold Aa;rw[sJ (by simp;omega),e5,Zm];exact b0
        have UG:σ2 m=some ⟨cStance t,0,true⟩:=by rw[J];unfold Aa;rw[sJ (by simp;omega),e5,Zm];exact bm
        have a8:σ2 b=some ⟨P.flatMap cI,1,true⟩:=by rw[J];unfold Aa;rw[sJ (by simp;omega),e5,Zm];exact bb
        have b4:σ2 (nx+1)=some ⟨(t.limits.take k).flatMap cI++(t.limits.drop (k+1)).flatMap cI,1,true⟩:=by
         rw[J];unfold Aa;rw[sH (.inr ⟨zq _,by omega⟩),Zk]
        obtain⟨E,e3⟩:∃E,E=upd σ2 (nx+1+1) (some ⟨[I k],1,true⟩):=⟨_,rfl⟩;have b2:E 0=some ⟨cYard y,0,true⟩:=by rw[e3,Zm];exact G
        have b3:E m=some ⟨cStance t,0,true⟩:=by rw[e3,Zm];exact UG
        have c5:E b=some ⟨P.flatMap cI,1,true⟩:=by rw[e3,Zm];exact a8
        have st:∀d,strip E (d+1) (.rs (nx+1) 0 (k+(t.st.members.length - (k+1))))=some (LI (t.limits.eraseIdx k),[nx+1]):=fun d=>kD (by rw[e3,Zm,b4,<- zT,<- e7]) (by omega) d
        have h6:∀d,strip σ2 (d+1) (.rs (nx+1) 0 (k+(t.st.members.length - (k+1))))=some (LI (t.limits.eraseIdx k),[nx+1]):=fun d=>kD (by rw[b4,<- zT,<- e7]) (by omega) d
        have c6:∀d,strip E (d+1) (.rs (nx+1+1) 0 1)=some (.ts [I k] 1,[nx+1+1]):=fun d=>by
         have:=kD (σ:=E) (b:=nx+1+1) (xs:=[(k:Int)]) (by rw[e3,Zk];rfl) (n:=1) rfl d;exact this
        have yA:0<nx+1+1:=by omega
        have yH:m<nx+1:=by omega
        have yI:0<nx+1:=by omega
        have yE:(m==nx)=false:=by rw[sG];omega
        have yF:(m==nx+1)=false:=by rw[sG];omega
        have yB:m<nx+1+1:=by omega
        have yC:m<nx+1+1+1:=by omega
        have yD:0<nx+1+1+1:=by omega
        cases O:y.strict with
        |false=>
         refine .inl ⟨_,by simp only[go_sem,t3,t7,t11,D8,DW,DX,t173,KY,b0,bm,O,f1,f2,f3,e1,e2,i1,i2,i4,i5,c1,c2,l1,l2,l3,y1,y2,y3,yA,yB,yC,yD,yE,yF,yH,yI,z0,m1,s1,<- J,<- e5,j0,b9,G,UG];rfl,?_⟩;simp only[go_sem,t3,t7,t11,D8,DW,DX,t173];exact⟨rfl,by omega,G,UG,a8⟩
        |true=>
         have k5:=hS k hk;rw[O]at k5;have k5:=k5 rfl;obtain⟨v1,v2,c7,S,Ht,k2,h7,hO,b5⟩:=kK t.st (by omega) (by omega) k hk (nx+1+1+1);have gO:=fun d=>hO.gather (d':=d+2) (by omega)
         obtain⟨Y,e6⟩:∃Y,Y=Gg (nx+1+1+1) S E c7 Ht:=⟨_,rfl⟩;have a1:Y 0=some ⟨cYard y,0,true⟩:=by rw[e6,oG (by omega)];exact b2
         have a7:Y m=some ⟨cStance t,0,true⟩:=by rw[e6,oG (by omega)];exact b3
         have b6:Y b=some ⟨P.flatMap cI,1,true⟩:=by rw[e6,oG (by omega)];exact c5
         have o4:Own Y 2 (.agg [v1,v2]) (.agg (cStructure (del t.st k))) Ht:=by rw[e6];exact hO.draw b5
         have so:=fun d=>o4.strip (d':=d+2) (by omega)
         have c8:∀d,strip Y (d+1) (.rs (nx+1) 0 (k+(t.st.members.length - (k+1))))=some (LI (t.limits.eraseIdx k),[nx+1]):=fun d=>kD (by rw[e6,oG (by omega),e3,Zm,b4,<- zT,<- e7]) (by omega) d
         have a5:(Ht.all fun b=>decide (b<S))=true:=by
          rw[wO];intro b hb;have:=(b5 b hb).2
          simpa using this
         have a6:((Ht++[nx+1]).all fun b=>decide (b<S))=true:=by
          rw[List.all_append,a5];simp
          try omega
         have y4:nx+1+1<nx+1+1+1:=by omega
         have y5:0<S:=by omega
         have y6:m<S:=by omega
         have y7:nx<S:=by omega
         have y8:nx+1<S\/True:=.inr trivial;refine .inl ⟨_,by simp only[go_sem,t3,t7,t11,D8,DW,DX,t173,KY,b0,bm,O,f1,f2,f3,e1,e2,i1,i2,i4,i5,c1,c2,l1,l2,l3,k2,gO,k5,c8,c6,so,a5,a6,y1,y2,y3,y4,y5,y6,y7,yA,yB,yC,yD,yE,yF,yH,yI,z0,m1,s1,<- J,<- e5,j0,b9,G,UG,<- e3,b2,b3,<- e6,a1,a7,I_];rfl,?_⟩;simp only[go_sem,t3,t7,t11,D8,DW,DX,t173]
         first
          |exact⟨rfl,by omega,a1,a7,b6⟩
          |exact⟨by omega,a1,a7,b6⟩) (by
      clear hL;rintro ⟨T,σ,nx⟩ ⟨t3,t7,t11,D8,DW,DX,t173,KY,c9,b0,bm,bb⟩;simp only at t3 t7 t11 D8 DW DX t173 KY c9 b0 bm bb;exact⟨_,by simp only[go_sem,t173,KY,zk];rfl,by simp,_,_,_,rfl,by simp only[go_sem,t3],by simp only[go_sem,t7],by simp only[go_sem,D8],by simp only[go_sem,DW],by simp only[go_sem,DX],c9,b0,bb⟩) (by
      simp only[go_sem,t3,t7,D8,DW,DX];refine⟨by omega,?_,?_⟩
      .rw[Zm];exact b0
      .rw[Zm];exact bb)
    refine⟨_,by simp only[go_sem,DX,f3];rfl,.inl ⟨_,rfl,?_⟩⟩;simp only[go_sem,t3,t7,D8,DW];exact⟨rfl,by omega,b0,bb⟩) (by
    clear hL;rintro ⟨T,σ,m⟩ ⟨t3,t7,D8,DW,DX,hm,b0,bb⟩;simp only at t3 t7 D8 DW DX hm b0 bb;exact⟨_,by simp only[go_sem,DW,DX,zk];rfl,by simp,_,_,_,rfl,by simp only[go_sem,t3],by simp only[go_sem,t7],hm,b0,bb⟩) (by
    simp only[go_sem];exact⟨b0,bb⟩)
  simp only[go_sem]
end Pure
end Go.Proofs.YtkpdoehbhmipcaaGreat
