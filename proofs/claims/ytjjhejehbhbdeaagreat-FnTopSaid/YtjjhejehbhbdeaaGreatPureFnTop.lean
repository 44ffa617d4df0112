import Derived.Test.YtjjhejehbhbdeaaGreatTb6
set_option linter.unusedSimpArgs false
set_option linter.unusedVariables false
set_option linter.unusedSectionVars false
set_option linter.defProp false
set_option maxRecDepth 10000
set_option maxHeartbeats 4000000
open Go.Proofs.Tryz renaming prog->ZK
open Go.Proofs.Tryz
open Int renaming lt_irrefl->zi
open List renaming getElem_mem->zu,take_of_length_le->zl,length_take->zf,eq_nil_of_length_eq_zero->zZ,flatMap_append->zS,length_drop->zN,append_nil->zC,length_eraseIdx_of_lt->yN,nil_append->yM,drop_of_length_le->xk,all_eq_true->wo,eraseIdx_eq_take_drop_succ->uf
open Nat renaming le_refl->zq,le_trans->zT
namespace Go.Proofs.YtjjhejehbhbdeaaGreat
open Go Go.TV Go.Plan
attribute [-go_sem] qy
namespace Pure
theorem FnTop(x0:(List Int))(h0:(okL 1 (fun n=>(Lit.int .u8 n).wf=true)) x0) :
  fn ZK DK Fp 3 [LL (fun n:Int=>[.sc (.int .u8 n)]) x0]=some (Bo true):=by
 by_cases hs:(1048576:Int)<(x0.length:Int)
 .rw[m_,mg [.tmp 2] [8,21,22] func3]
  simp only[go_sem,hs]
 have hx:=aiV h0;have hl:x0.length<=1048576:=by omega
 obtain⟨y,e0,hG,ho,f6⟩:=ae2 x0 hx hl;have k1:fn ZK conv ext 5 [LL (fun n:Int=>[.sc (.int .u8 n)]) x0]=some (.agg (AQ y)):=e0
 have k4:=LD y ho;rw[gy hG]at k4;have Ol:=hG.1;have w0:=ZR (n:=(y.aI.length:Int) - 1);obtain⟨to,c9⟩:∃to:Int,to=(y.aI.length:Int) - 1:=⟨_,rfl⟩;rw[<- c9]at w0;obtain⟨v,b6,n1,i1,k5,f7,o1,d4⟩:=ae8 y ho 0 to 1;have g1:=fun d=>o1.gather (d':=d+1) (by omega)
 obtain⟨TJ,ea⟩:∃TJ,TJ=Di 1 (upd pI 0 (some ⟨AQ y,0,true⟩)) b6 i1:=⟨_,rfl⟩;have d5:Own TJ 1 v (LI (Ea y 0 to)) i1:=by rw[ea];exact o1.join fun b hb=>(d4 b hb).1
 have a0:TJ 0=some ⟨AQ y,0,true⟩:=by rw[ea,jk (by omega),Zi]
 rw[m_,mg [.tmp 2] [8,21,22] func3];cases c6:Cj y 0 to with
 |false=>
  rw[c6]at k5;obtain⟨w,σ2,n2,i2,k6,f8,o2,d6⟩:=aml y ho 0 n1;have g2:=fun d=>o2.gather (d':=d+1) (by omega)
  obtain⟨TK,eb⟩:∃TK,TK=FU n1 n2 TJ σ2 i2:=⟨_,rfl⟩;have b0:TK 0=some ⟨AQ y,0,true⟩:=by rw[eb,oG (by omega),a0]
  have e7:Own TK 1 w (LI (FP y 0)) i2:=by rw[eb];exact o2.draw d6
  have s2:=fun d=>e7.strip (d':=d+1) (by omega)
  have k7:=ayK (FP y 0) to (abD y 0);rw[sG (aiW hG c6 (by omega) (by omega))]at k7;have a2:(i2.all fun b=>decide (b<n2))=true:=by
   rw[wo];intro b hb;have:=(d6 b hb).2
   simpa using this
  have z0:0<n2:=by omega
  have z1:0<n1:=by omega
  simp only[go_sem,qC,hs,k1,k4,<- c9,w0,k5,g1,<- ea,a0,k6,g2,<- eb,b0,s2,k7,a2,z0,z1,iZ]
 |true=>
  rw[c6]at k5;have k9:=amk y ho (Ea y 0 to) (zT (Rk y 0 to) (by decide));rw[Yj c6]at k9;have hP:=amq c6;obtain⟨P,eP⟩:∃P,P=Ea y 0 to:=⟨_,rfl⟩;rw[<- eP]at d5 k9 hP;obtain⟨b,hv,e8,e9,a1⟩:∃b,v= .rs b 0 P.length/\i1=[b]/\TJ b=some ⟨P.flatMap cI,1,true⟩/\0<P.length:=by
   rcases WI d5 with ⟨_,e,_⟩|⟨b,st,h1,h2,h3,h4⟩
   .exact absurd e hP.1
   .have hl:0<P.length:=List.length_pos_iff.mpr hP.1
    have:st=1:=by
     rcases Nat.lt_trichotomy st 1 with c|c|c
     .have:st=0:=by omega
      subst this;omega
     .exact c
     .have:P.length*1<P.length*st:=Nat.mul_lt_mul_of_pos_left c hl
      omega
    subst this;exact⟨b,h1,h2,h3,hl⟩
  have f9:=d4 b (by rw[e8];simp);have g0:P.length<=1000000:=by rw[eP];exact Rk y 0 to
  subst hv;simp only[go_sem,hs,k1,k4,<- c9,w0,k5,g1,<- ea,a0];generalize hL:jI _ _=z;obtain⟨x,rfl,T,σ,nx,rfl,t3,t4,c5,b0,bb⟩:=oZ hL P.length (fun j st=>st.T 3= .rp 0 0/\st.T 4= .rs b 0 P.length/\st.T 40= .rs b 0 P.length/\st.T 41=I P.length/\st.T 42=I j/\n1<=st.nx/\st.σ 0=some ⟨AQ y,0,true⟩/\st.σ b=some ⟨P.flatMap cI,1,true⟩)
   (fun x=>∃T σ nx,x=(.exit 0,⟨T,σ,nx⟩)/\T 3= .rp 0 0/\T 4= .rs b 0 P.length/\n1<=nx/\σ 0=some ⟨AQ y,0,true⟩/\σ b=some ⟨P.flatMap cI,1,true⟩) (by
    clear hL;rintro j ⟨T,σ,m⟩ hj ⟨t3,t4,O,G,J,hm,b0,bb⟩;simp only at t3 t4 O G J hm b0 bb;have f1:(j:Int)<(P.length:Int):=by omega
    have f2:=jC j;have f3:=ZR (n:=(j:Int)+1);have f4:=idx (xs:=P) (k:=j) hj;have f5:=bU (c:=cI) (s:=1) (fun _=>rfl) P;obtain⟨i,ei,hi,c7⟩:=hP.2 j hj;rw[ei]at f4;have g1:(i:Int)<(y.aI.length:Int):=by omega
    have g2:=jC i;have g3:¬(i:Int)<0:=by omega
    have g4:¬(y.aI.length:Int)<=(i:Int):=by omega
    have g5:=aj0 y.aI i hi;have g6:=abQ y.aI;have g7:i*5+5<=y.aI.length*5:=by omega
    have g9:=aj1 y.aI i hi;have d7:=ho.1.1 _ (zu hi);obtain⟨t,et⟩:∃t,t=y.aI[i]:=⟨_,rfl⟩;rw[<- et]at g5 c7 d7;obtain⟨p1,p2,p3,f0,hS⟩:=abG c7;obtain⟨q,hE,m1,m2,m3⟩:=aiU p1 d7.2.1 p2 p3 f0;have g8:=p1.2.1;have Yq:=p1.1;have z1:¬0=m:=by omega
    have z2:¬m=0:=by omega
    have z3:¬b=m:=by omega
    have z4:¬m=b:=by omega
    refine bC ?_
    conv=>
     enter [1,r,1,1]
     simp only[go_sem,t3,t4,O,G,J,b0,bb,f1,f2,f4,f5,hj,g1,g2,g3,g4,g5,g6,g7,g9,m1,m2,m3,z1,z2,z3,z4]
    generalize hL:jI _ _=z;obtain⟨x,rfl,T1,b6,qI,rfl,t3,t4,O,G,J,h5,b0,bb⟩:=oZ hL t.st.members.length (fun k st=>st.T 3= .rp 0 0/\st.T 4= .rs b 0 P.length/\st.T 8= .rp m 0/\st.T 40= .rs b 0 P.length/\st.T 41=I P.length/\st.T 42=I j/\st.T 93=I t.st.members.length/\st.T 94=I k/\m<st.nx/\st.σ 0=some ⟨AQ y,0,true⟩/\st.σ m=some ⟨Au t,0,true⟩/\st.σ b=some ⟨P.flatMap cI,1,true⟩)
     (fun x=>∃T σ nx,x=(.exit 2,⟨T,σ,nx⟩)/\T 3= .rp 0 0/\T 4= .rs b 0 P.length/\T 40= .rs b 0 P.length/\T 41=I P.length/\T 42=I j/\m<nx/\σ 0=some ⟨AQ y,0,true⟩/\σ b=some ⟨P.flatMap cI,1,true⟩) (by
      clear hL;rintro k ⟨T,σ,nx⟩ hk ⟨t3,t4,t8,O,G,J,S,Rq,c5,b0,bm,bb⟩;simp only at t3 t4 t8 O G J S Rq c5 b0 bm bb;have b7:=t8;have f1:(k:Int)<(t.st.members.length:Int):=by omega
      have f2:=jC k;have f3:=ZR (n:=(k:Int)+1);have d8:=p3.1;have c8:t.limits.eraseIdx k=t.limits.take k++t.limits.drop (k+1):=uf ..;have hlen:(t.limits.eraseIdx k).length=t.st.members.length-1:=by rw[yN (by omega),d8]
      have e1:(t.limits.flatMap cI).take k=(t.limits.take k).flatMap cI:=qK ..;have e2:((t.limits.flatMap cI).drop (k+1)).take (t.st.members.length - (k+1))=(t.limits.drop (k+1)).flatMap cI:=by
       have:(t.limits.flatMap cI).drop (k+1)=(t.limits.drop (k+1)).flatMap cI:=by rw[jL,<- List.map_drop,<- jL]
       rw[this,zl (by rw[qM,zN];omega)]
      have i2:((k:Int)+1).toNat=k+1:=by omega
      have i1:(0:Int)<=(k:Int)+1:=by omega
      have i4:k+1<=t.st.members.length:=hk;have i5:k<=t.st.members.length:=by omega
      have c1:=qN (t.limits.take k);have c2:=qN (t.limits.drop (k+1));have l1:(t.limits.take k).length=k:=by rw[zf];omega
      have l2:(t.limits.drop (k+1)).length=t.st.members.length - (k+1):=by rw[zN];omega
      have l3:=d8;have y1:nx<nx+1:=by omega
      have y2:m<nx:=c5;have y3:0<nx:=by omega
      by_cases d0:k=0
      .have z0:(k=0)=True:=eq_true d0
       have w0:t.limits.take k=[]:=by rw[d0];rfl
       by_cases d1:k+1=t.st.members.length
       .have m1:(t.st.members.length - (k+1)=0)=True:=eq_true (by omega)
        have a7:t.limits.eraseIdx k=[]:=zZ (by omega);obtain⟨σ2,e4⟩:∃σ2,σ2=σ:=⟨_,rfl⟩;have Y:σ2 0=some ⟨AQ y,0,true⟩:=by rw[e4];exact b0
        have PV:σ2 m=some ⟨Au t,0,true⟩:=by rw[e4];exact bm
        have a8:σ2 b=some ⟨P.flatMap cI,1,true⟩:=by rw[e4];exact bb
        obtain⟨E,e3⟩:∃E,E=upd σ2 (nx) (some ⟨[I k],1,true⟩):=⟨_,rfl⟩;have a9:E 0=some ⟨AQ y,0,true⟩:=by rw[e3,Zk];exact Y
        have b2:E m=some ⟨Au t,0,true⟩:=by rw[e3,Zk];exact PV
        have b9:E b=some ⟨P.flatMap cI,1,true⟩:=by rw[e3,Zk];exact a8
        have st:∀d,strip E (d+1) (.nil)=some (LI (t.limits.eraseIdx k),[]):=fun d=>by rw[a7,aS];rfl
        have d2:∀d,strip σ2 (d+1) (.nil)=some (LI (t.limits.eraseIdx k),[]):=fun d=>by rw[a7,aS];rfl
        have c0:∀d,strip E (d+1) (.rs (nx) 0 1)=some (.ts [I k] 1,[nx]):=fun d=>by
         have:=kF (σ:=E) (b:=nx) (xs:=[(k:Int)]) (by rw[e3,Zi];rfl) (n:=1) rfl d;exact this
        have yA:0<nx:=by omega
        have yH:m<nx+1:=by omega
        have yI:0<nx+1:=by omega
        have yE:(m==nx)=false:=by rw[sJ];omega
        have yF:(m==nx+1)=false:=by rw[sJ];omega
        have yB:m<nx:=by omega
        have yC:m<nx+1:=by omega
        have yD:0<nx+1:=by omega
        cases a1:y.strict with
        |false=>
         refine .inl ⟨_,by simp only[go_sem,t3,t4,t8,b7,O,G,J,S,Rq,b0,bm,a1,f1,f2,f3,e1,e2,i1,i2,i4,i5,c1,c2,l1,l2,l3,y1,y2,y3,yA,yB,yC,yD,yE,yF,yH,yI,z0,m1,<- e4,Y,PV];rfl,?_⟩;simp only[go_sem,t3,t4,t8,O,G,J,S];exact⟨rfl,by omega,Y,PV,a8⟩
        |true=>
         have k5:=hS k hk;rw[a1]at k5;have k5:=k5 rfl;obtain⟨v1,v2,c3,nw,JX,k2,d3,hO,b3⟩:=kM t.st (by omega) (by omega) k hk (nx+1);have gO:=fun d=>hO.gather (d':=d+2) (by omega)
         obtain⟨BN,e6⟩:∃BN,BN=FU (nx+1) nw E c3 JX:=⟨_,rfl⟩;have a3:BN 0=some ⟨AQ y,0,true⟩:=by rw[e6,oG (by omega)];exact a9
         have a4:BN m=some ⟨Au t,0,true⟩:=by rw[e6,oG (by omega)];exact b2
         have b5:BN b=some ⟨P.flatMap cI,1,true⟩:=by rw[e6,oG (by omega)];exact b9
         have o4:Own BN 2 (.agg [v1,v2]) (.agg (iI (del t.st k))) JX:=by rw[e6];exact hO.draw b3
         have so:=fun d=>o4.strip (d':=d+2) (by omega)
         have c4:∀d,strip BN (d+1) (.nil)=some (LI (t.limits.eraseIdx k),[]):=fun d=>by rw[a7,aS];rfl
         have a5:(JX.all fun b=>decide (b<nw))=true:=by
          rw[wo];intro b hb;have:=(b3 b hb).2
          simpa using this
         have a6:((JX++[]).all fun b=>decide (b<nw))=true:=by
          rw[List.all_append,a5];simp
          try omega
         have y4:nx<nx+1:=by omega
         have y5:0<nw:=by omega
         have y6:m<nw:=by omega
         have y7:nx<nw:=by omega
         have y8:nx+1<nw\/True:=.inr trivial;refine .inl ⟨_,by simp only[go_sem,t3,t4,t8,b7,O,G,J,S,Rq,b0,bm,a1,f1,f2,f3,e1,e2,i1,i2,i4,i5,c1,c2,l1,l2,l3,k2,gO,k5,c4,c0,so,a5,a6,y1,y2,y3,y4,y5,y6,y7,yA,yB,yC,yD,yE,yF,yH,yI,z0,m1,<- e4,Y,PV,<- e3,a9,b2,<- e6,a3,a4,iZ];rfl,?_⟩;simp only[go_sem,t3,t4,t8,O,G,J,S]
         first
          |exact⟨rfl,by omega,a3,a4,b5⟩
          |exact⟨by omega,a3,a4,b5⟩
       .have m1:¬t.st.members.length - (k+1)=0:=by omega
        have a7:t.limits.eraseIdx k=t.limits.drop (k+1):=by rw[c8,w0,yM]
        have s1:t.st.members.length - (k+1)<=maxLen/\(t.st.members.length - (k+1))*8<=140737488355328:=by unfold maxLen;omega
        obtain⟨σ2,e4⟩:∃σ2,σ2=upd σ nx (some ⟨(t.limits.drop (k+1)).flatMap cI,1,true⟩):=⟨_,rfl⟩;have Y:σ2 0=some ⟨AQ y,0,true⟩:=by rw[e4,Zk];exact b0
        have PV:σ2 m=some ⟨Au t,0,true⟩:=by rw[e4,Zk];exact bm
        have a8:σ2 b=some ⟨P.flatMap cI,1,true⟩:=by rw[e4,Zk];exact bb
        obtain⟨E,e3⟩:∃E,E=upd σ2 (nx+1) (some ⟨[I k],1,true⟩):=⟨_,rfl⟩;have a9:E 0=some ⟨AQ y,0,true⟩:=by rw[e3,Zk];exact Y
        have b2:E m=some ⟨Au t,0,true⟩:=by rw[e3,Zk];exact PV
        have b9:E b=some ⟨P.flatMap cI,1,true⟩:=by rw[e3,Zk];exact a8
        have st:∀d,strip E (d+1) (.rs nx 0 (t.st.members.length - (k+1)))=some (LI (t.limits.eraseIdx k),[nx]):=fun d=>by rw[a7];exact kF (by rw[e3,Zk,e4,Zi]) (by omega) d
        have d2:∀d,strip σ2 (d+1) (.rs nx 0 (t.st.members.length - (k+1)))=some (LI (t.limits.eraseIdx k),[nx]):=fun d=>by rw[a7];exact kF (by rw[e4,Zi]) (by omega) d
        have c0:∀d,strip E (d+1) (.rs (nx+1) 0 1)=some (.ts [I k] 1,[nx+1]):=fun d=>by
         have:=kF (σ:=E) (b:=nx+1) (xs:=[(k:Int)]) (by rw[e3,Zi];rfl) (n:=1) rfl d;exact this
        have yA:0<nx+1:=by omega
        have yH:m<nx+1:=by omega
        have yI:0<nx+1:=by omega
        have yE:(m==nx)=false:=by rw[sJ];omega
        have yF:(m==nx+1)=false:=by rw[sJ];omega
        have yB:m<nx+1:=by omega
        have yC:m<nx+1+1:=by omega
        have yD:0<nx+1+1:=by omega
        cases a1:y.strict with
        |false=>
         refine .inl ⟨_,by simp only[go_sem,t3,t4,t8,b7,O,G,J,S,Rq,b0,bm,a1,f1,f2,f3,e1,e2,i1,i2,i4,i5,c1,c2,l1,l2,l3,y1,y2,y3,yA,yB,yC,yD,yE,yF,yH,yI,z0,m1,s1,<- e4,Y,PV];rfl,?_⟩;simp only[go_sem,t3,t4,t8,O,G,J,S];exact⟨rfl,by omega,Y,PV,a8⟩
        |true=>
         have k5:=hS k hk;rw[a1]at k5;have k5:=k5 rfl;obtain⟨v1,v2,c3,nw,JX,k2,d3,hO,b3⟩:=kM t.st (by omega) (by omega) k hk (nx+1+1);have gO:=fun d=>hO.gather (d':=d+2) (by omega)
         obtain⟨BN,e6⟩:∃BN,BN=FU (nx+1+1) nw E c3 JX:=⟨_,rfl⟩;have a3:BN 0=some ⟨AQ y,0,true⟩:=by rw[e6,oG (by omega)];exact a9
         have a4:BN m=some ⟨Au t,0,true⟩:=by rw[e6,oG (by omega)];exact b2
         have b5:BN b=some ⟨P.flatMap cI,1,true⟩:=by rw[e6,oG (by omega)];exact b9
         have o4:Own BN 2 (.agg [v1,v2]) (.agg (iI (del t.st k))) JX:=by rw[e6];exact hO.draw b3
         have so:=fun d=>o4.strip (d':=d+2) (by omega)
         have c4:∀d,strip BN (d+1) (.rs nx 0 (t.st.members.length - (k+1)))=some (LI (t.limits.eraseIdx k),[nx]):=fun d=>by rw[a7];exact kF (by rw[e6,oG (by omega),e3,Zk,e4,Zi]) (by omega) d
         have a5:(JX.all fun b=>decide (b<nw))=true:=by
          rw[wo];intro b hb;have:=(b3 b hb).2
          simpa using this
         have a6:((JX++[nx]).all fun b=>decide (b<nw))=true:=by
          rw[List.all_append,a5];simp
          try omega
         have y4:nx+1<nx+1+1:=by omega
         have y5:0<nw:=by omega
         have y6:m<nw:=by omega
         have y7:nx<nw:=by omega
         have y8:nx+1<nw\/True:=.inr trivial;refine .inl ⟨_,by simp only[go_sem,t3,t4,t8,b7,O,G,J,S,Rq,b0,bm,a1,f1,f2,f3,e1,e2,i1,i2,i4,i5,c1,c2,l1,l2,l3,k2,gO,k5,c4,c0,so,a5,a6,y1,y2,y3,y4,y5,y6,y7,yA,yB,yC,yD,yE,yF,yH,yI,z0,m1,s1,<- e4,Y,PV,<- e3,a9,b2,<- e6,a3,a4,iZ];rfl,?_⟩;simp only[go_sem,t3,t4,t8,O,G,J,S]
         first
          |exact⟨rfl,by omega,a3,a4,b5⟩
          |exact⟨by omega,a3,a4,b5⟩
      .have z0:¬k=0:=d0
       have s1:k<=maxLen/\k*8<=140737488355328:=by unfold maxLen;omega
       by_cases d1:k+1=t.st.members.length
       .have m1:t.st.members.length - (k+1)=0:=by omega
        have w0:t.limits.drop (k+1)=[]:=xk (by omega);have a7:t.limits.eraseIdx k=t.limits.take k:=by rw[c8,w0,zC]
        obtain⟨σ2,e4⟩:∃σ2,σ2=upd σ nx (some ⟨(t.limits.take k).flatMap cI,1,true⟩):=⟨_,rfl⟩;have Y:σ2 0=some ⟨AQ y,0,true⟩:=by rw[e4,Zk];exact b0
        have PV:σ2 m=some ⟨Au t,0,true⟩:=by rw[e4,Zk];exact bm
        have a8:σ2 b=some ⟨P.flatMap cI,1,true⟩:=by rw[e4,Zk];exact bb
        have b8:=Xq (restrict σ2 [nx]) (nx+1) 1 8 nx 0 k [] (B:=⟨(t.limits.take k).flatMap cI,1,true⟩) (by rw[fG,e4,Zi]);obtain⟨E,e3⟩:∃E,E=upd σ2 (nx+1) (some ⟨[I k],1,true⟩):=⟨_,rfl⟩;have a9:E 0=some ⟨AQ y,0,true⟩:=by rw[e3,Zk];exact Y
        have b2:E m=some ⟨Au t,0,true⟩:=by rw[e3,Zk];exact PV
        have b9:E b=some ⟨P.flatMap cI,1,true⟩:=by rw[e3,Zk];exact a8
        have st:∀d,strip E (d+1) (.rs nx 0 k)=some (LI (t.limits.eraseIdx k),[nx]):=fun d=>by rw[a7];exact kF (by rw[e3,Zk,e4,Zi]) (by omega) d
        have d2:∀d,strip σ2 (d+1) (.rs nx 0 k)=some (LI (t.limits.eraseIdx k),[nx]):=fun d=>by rw[a7];exact kF (by rw[e4,Zi]) (by omega) d
        have c0:∀d,strip E (d+1) (.rs (nx+1) 0 1)=some (.ts [I k] 1,[nx+1]):=fun d=>by
         have:=kF (σ:=E) (b:=nx+1) (xs:=[(k:Int)]) (by rw[e3,Zi];rfl) (n:=1) rfl d;exact this
        have yA:0<nx+1:=by omega
        have yH:m<nx+1:=by omega
        have yI:0<nx+1:=by omega
        have yE:(m==nx)=false:=by rw[sJ];omega
        have yF:(m==nx+1)=false:=by rw[sJ];omega
        have yB:m<nx+1:=by omega
        have yC:m<nx+1+1:=by omega
        have yD:0<nx+1+1:=by omega
        cases a1:y.strict with
        |false=>
         refine .inl ⟨_,by simp only[go_sem,t3,t4,t8,b7,O,G,J,S,Rq,b0,bm,a1,f1,f2,f3,e1,e2,i1,i2,i4,i5,c1,c2,l1,l2,l3,y1,y2,y3,yA,yB,yC,yD,yE,yF,yH,yI,z0,m1,s1,<- e4,b8,Y,PV];rfl,?_⟩;simp only[go_sem,t3,t4,t8,O,G,J,S];exact⟨rfl,by omega,Y,PV,a8⟩
        |true=>
         have k5:=hS k hk;rw[a1]at k5;have k5:=k5 rfl;obtain⟨v1,v2,c3,nw,JX,k2,d3,hO,b3⟩:=kM t.st (by omega) (by omega) k hk (nx+1+1);have gO:=fun d=>hO.gather (d':=d+2) (by omega)
         obtain⟨BN,e6⟩:∃BN,BN=FU (nx+1+1) nw E c3 JX:=⟨_,rfl⟩;have a3:BN 0=some ⟨AQ y,0,true⟩:=by rw[e6,oG (by omega)];exact a9
         have a4:BN m=some ⟨Au t,0,true⟩:=by rw[e6,oG (by omega)];exact b2
         have b5:BN b=some ⟨P.flatMap cI,1,true⟩:=by rw[e6,oG (by omega)];exact b9
         have o4:Own BN 2 (.agg [v1,v2]) (.agg (iI (del t.st k))) JX:=by rw[e6];exact hO.draw b3
         have so:=fun d=>o4.strip (d':=d+2) (by omega)
         have c4:∀d,strip BN (d+1) (.rs nx 0 k)=some (LI (t.limits.eraseIdx k),[nx]):=fun d=>by rw[a7];exact kF (by rw[e6,oG (by omega),e3,Zk,e4,Zi]) (by omega) d
         have a5:(JX.all fun b=>decide (b<nw))=true:=by
          rw[wo];intro b hb;have:=(b3 b hb).2
          simpa using this
         have a6:((JX++[nx]).all fun b=>decide (b<nw))=true:=by
          rw[List.all_append,a5];simp
          try omega
         have y4:nx+1<nx+1+1:=by omega
         have y5:0<nw:=by omega
         have y6:m<nw:=by omega
         have y7:nx<nw:=by omega
         have y8:nx+1<nw\/True:=.inr trivial;refine .inl ⟨_,by simp only[go_sem,t3,t4,t8,b7,O,G,J,S,Rq,b0,bm,a1,f1,f2,f3,e1,e2,i1,i2,i4,i5,c1,c2,l1,l2,l3,k2,gO,k5,c4,c0,so,a5,a6,y1,y2,y3,y4,y5,y6,y7,yA,yB,yC,yD,yE,yF,yH,yI,z0,m1,s1,<- e4,b8,Y,PV,<- e3,a9,b2,<- e6,a3,a4,iZ];rfl,?_⟩;simp only[go_sem,t3,t4,t8,O,G,J,S]
         first
          |exact⟨rfl,by omega,a3,a4,b5⟩
          |exact⟨by omega,a3,a4,b5⟩
       .have m1:¬t.st.members.length - (k+1)=0:=by omega
        obtain⟨b6,e5⟩:∃b6,b6=upd σ nx (some ⟨(t.limits.take k).flatMap cI,1,true⟩):=⟨_,rfl⟩;have d9:b6 m=some ⟨Au t,0,true⟩:=by rw[e5,Zk];exact bm
        have b8:=rE (σ:=restrict b6 [nx]) (nx:=nx+1) (bytes:=8) (b:=nx) (len:=k) (m:=t.st.members.length - (k+1)) (row:=(t.limits.drop (k+1)).flatMap cI) (B:=⟨(t.limits.take k).flatMap cI,1,true⟩) (by rw[fG,e5,Zi]) (by show((t.limits.take k).flatMap cI).length=_;rw[qM,l1]) rfl m1 (by unfold maxLen;omega) (by omega) c2;obtain⟨σ2,e4⟩:∃σ2,σ2=zI [nx] (nx+1) (nx+1+1) b6 (upd (upd (restrict b6 [nx]) nx none) (nx+1) (some ⟨(t.limits.take k).flatMap cI++(t.limits.drop (k+1)).flatMap cI,1,true⟩)):=⟨_,rfl⟩;have Y:σ2 0=some ⟨AQ y,0,true⟩:=by rw[e4];unfold zI;rw[sO (by simp;omega),e5,Zk];exact b0
        have PV:σ2 m=some ⟨Au t,0,true⟩:=by rw[e4];unfold zI;rw[sO (by simp;omega),e5,Zk];exact bm
        have a8:σ2 b=some ⟨P.flatMap cI,1,true⟩:=by rw[e4];unfold zI;rw[sO (by simp;omega),e5,Zk];exact bb
        have b4:σ2 (nx+1)=some ⟨(t.limits.take k).flatMap cI++(t.limits.drop (k+1)).flatMap cI,1,true⟩:=by
         rw[e4];unfold zI;rw[sN (.inr ⟨zq _,by omega⟩),Zi]
        obtain⟨E,e3⟩:∃E,E=upd σ2 (nx+1+1) (some ⟨[I k],1,true⟩):=⟨_,rfl⟩;have a9:E 0=some ⟨AQ y,0,true⟩:=by rw[e3,Zk];exact Y
        have b2:E m=some ⟨Au t,0,true⟩:=by rw[e3,Zk];exact PV
        have b9:E b=some ⟨P.flatMap cI,1,true⟩:=by rw[e3,Zk];exact a8
        have st:∀d,strip E (d+1) (.rs (nx+1) 0 (k+(t.st.members.length - (k+1))))=some (LI (t.limits.eraseIdx k),[nx+1]):=fun d=>kF (by rw[e3,Zk,b4,<- zS,<- c8]) (by omega) d
        have d2:∀d,strip σ2 (d+1) (.rs (nx+1) 0 (k+(t.st.members.length - (k+1))))=some (LI (t.limits.eraseIdx k),[nx+1]):=fun d=>kF (by rw[b4,<- zS,<- c8]) (by omega) d
        have c0:∀d,strip E (d+1) (.rs (nx+1+1) 0 1)=some (.ts [I k] 1,[nx+1+1]):=fun d=>by
         have:=kF (σ:=E) (b:=nx+1+1) (xs:=[(k:Int)]) (by rw[e3,Zi];rfl) (n:=1) rfl d;exact this
        have yA:0<nx+1+1:=by omega
        have yH:m<nx+1:=by omega
        have yI:0<nx+1:=by omega
        have yE:(m==nx)=false:=by rw[sJ];omega
        have yF:(m==nx+1)=false:=by rw[sJ];omega
        have yB:m<nx+1+1:=by omega
        have yC:m<nx+1+1+1:=by omega
        have yD:0<nx+1+1+1:=by omega
        cases a1:y.strict with
        |false=>
         refine .inl ⟨_,by simp only[go_sem,t3,t4,t8,b7,O,G,J,S,Rq,b0,bm,a1,f1,f2,f3,e1,e2,i1,i2,i4,i5,c1,c2,l1,l2,l3,y1,y2,y3,yA,yB,yC,yD,yE,yF,yH,yI,z0,m1,s1,<- e4,<- e5,d9,b8,Y,PV];rfl,?_⟩;simp only[go_sem,t3,t4,t8,O,G,J,S];exact⟨rfl,by omega,Y,PV,a8⟩
        |true=>
         have k5:=hS k hk;rw[a1]at k5;have k5:=k5 rfl;obtain⟨v1,v2,c3,nw,JX,k2,d3,hO,b3⟩:=kM t.st (by omega) (by omega) k hk (nx+1+1+1);have gO:=fun d=>hO.gather (d':=d+2) (by omega)
         obtain⟨BN,e6⟩:∃BN,BN=FU (nx+1+1+1) nw E c3 JX:=⟨_,rfl⟩;have a3:BN 0=some ⟨AQ y,0,true⟩:=by rw[e6,oG (by omega)];exact a9
         have a4:BN m=some ⟨Au t,0,true⟩:=by rw[e6,oG (by omega)];exact b2
         have b5:BN b=some ⟨P.flatMap cI,1,true⟩:=by rw[e6,oG (by omega)];exact b9
         have o4:Own BN 2 (.agg [v1,v2]) (.agg (iI (del t.st k))) JX:=by rw[e6];exact hO.draw b3
         have so:=fun d=>o4.strip (d':=d+2) (by omega)
         have c4:∀d,strip BN (d+1) (.rs (nx+1) 0 (k+(t.st.members.length - (k+1))))=some (LI (t.limits.eraseIdx k),[nx+1]):=fun d=>kF (by rw[e6,oG (by omega),e3,Zk,b4,<- zS,<- c8]) (by omega) d
         have a5:(JX.all fun b=>decide (b<nw))=true:=by
          rw[wo];intro b hb;have:=(b3 b hb).2
          simpa using this
         have a6:((JX++[nx+1]).all fun b=>decide (b<nw))=true:=by
          rw[List.all_append,a5];simp
          try omega
         have y4:nx+1+1<nx+1+1+1:=by omega
         have y5:0<nw:=by omega
         have y6:m<nw:=by omega
         have y7:nx<nw:=by omega
         have y8:nx+1<nw\/True:=.inr trivial;refine .inl ⟨_,by simp only[go_sem,t3,t4,t8,b7,O,G,J,S,Rq,b0,bm,a1,f1,f2,f3,e1,e2,i1,i2,i4,i5,c1,c2,l1,l2,l3,k2,gO,k5,c4,c0,so,a5,a6,y1,y2,y3,y4,y5,y6,y7,yA,yB,yC,yD,yE,yF,yH,yI,z0,m1,s1,<- e4,<- e5,d9,b8,Y,PV,<- e3,a9,b2,<- e6,a3,a4,iZ];rfl,?_⟩;simp only[go_sem,t3,t4,t8,O,G,J,S]
         first
          |exact⟨rfl,by omega,a3,a4,b5⟩
          |exact⟨by omega,a3,a4,b5⟩) (by
      clear hL;rintro ⟨T,σ,nx⟩ ⟨t3,t4,t8,O,G,J,S,Rq,c5,b0,bm,bb⟩;simp only at t3 t4 t8 O G J S Rq c5 b0 bm bb;exact⟨_,by simp only[go_sem,S,Rq,zi];rfl,by simp,_,_,_,rfl,by simp only[go_sem,t3],by simp only[go_sem,t4],by simp only[go_sem,O],by simp only[go_sem,G],by simp only[go_sem,J],c5,b0,bb⟩) (by
      simp only[go_sem,t3,t4,O,G,J];refine⟨by omega,?_,?_⟩
      .rw[Zk];exact b0
      .rw[Zk];exact bb)
    refine⟨_,by simp only[go_sem,J,f3];rfl,.inl ⟨_,rfl,?_⟩⟩;simp only[go_sem,t3,t4,O,G];exact⟨rfl,by omega,b0,bb⟩) (by
    clear hL;rintro ⟨T,σ,m⟩ ⟨t3,t4,O,G,J,hm,b0,bb⟩;simp only at t3 t4 O G J hm b0 bb;exact⟨_,by simp only[go_sem,G,J,zi];rfl,by simp,_,_,_,rfl,by simp only[go_sem,t3],by simp only[go_sem,t4],hm,b0,bb⟩) (by
    simp only[go_sem];exact⟨a0,e9⟩)
  have sP:=fun d=>kF bb (n:=P.length) rfl d
  simp only[go_sem,t3,t4,b0,sP,k9]
end Pure
end Go.Proofs.YtjjhejehbhbdeaaGreat
