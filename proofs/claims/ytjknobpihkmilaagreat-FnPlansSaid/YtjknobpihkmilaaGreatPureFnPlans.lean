import Derived.Test.YtjknobpihkmilaaGreatTb5
set_option linter.unusedSimpArgs false
set_option linter.unusedVariables false
set_option linter.unusedSectionVars false
set_option linter.defProp false
set_option maxRecDepth 10000
set_option maxHeartbeats 4000000
open Go.Proofs.Tryz renaming prog->gu
open Go.Proofs.Tryz
open Bool renaming not_false->vH
open Int renaming lt_irrefl->zX
open List renaming getElem_mem->zq,length_take->zY,flatMap_append->zC,all_cons->xH,all_nil->xG,all_eq_true->wW,take_append_drop->wJ
open Nat renaming le_trans->zL,zero_le->wM
namespace Go.Proofs.YtjknobpihkmilaaGreat
open Go Go.TV Go.Plan
attribute [-go_sem] u_
theorem Z7{acc:List (Nat×Bool×List Nat)}{k:Nat}{ids:List Nat}(h:(acc.all fun p=> !p.2.1)=true):((JW acc k false ids).all fun p=> !p.2.1)=true:=by
 cases ids with
 |nil=>exact h
 |cons b E=>rw[JW,List.all_append,h];rfl
namespace Pure
theorem FnPlans(Y:(List Int))(h0:(okL 1 (fun n=>(Lit.int .u8 n).wf=true)) Y) :
  fn gu d_ wI 3 [LL (fun n:Int=>[.sc (.int .u8 n)]) Y]=some (Bo true):=by
 by_cases hs:(1048576:Int)<(Y.length:Int)
 .rw[qB,qO [.tmp 2] [12,16] func3]
  simp only[go_sem,hs]
 have hx:=adJ h0;have hl:Y.length<=1048576:=by omega
 obtain⟨y,c7,hG,ho,h8⟩:=ZK Y hx hl;have k1:fn gu conv ext 6 [LL (fun n:Int=>[.sc (.int .u8 n)]) Y]=some (.agg (bQ y)):=c7
 obtain⟨r1,c8,a2⟩:=QO Y hx hl 40 (by decide);have k2:fn gu conv ext 7 [LL (fun n:Int=>[.sc (.int .u8 n)]) Y,I 40]=some (I r1):=c8
 obtain⟨r2,c9,a3⟩:=QO Y hx hl 42 (by decide);have k3:fn gu conv ext 7 [LL (fun n:Int=>[.sc (.int .u8 n)]) Y,I 42]=some (I r2):=c9
 have k4:=oW y ho;rw[mJ hG]at k4;have Z_:=hG.1;obtain⟨fr,a8,J⟩:=S9 (n:=y.ah.length) a2.1 (by omega);obtain⟨to,b2,b6⟩:=S9 (n:=y.ah.length) a3.1 (by omega);have b3:¬(y.ah.length:Int)=0:=by omega
 obtain⟨v,e0,n1,i1,k5,h9,o1,b4⟩:=ML y ho fr to 1;have g1:=fun d=>o1.gather (d':=d+1) (by omega)
 obtain⟨O1,ea⟩:∃O1,O1=eG 1 (upd aG 0 (some ⟨bQ y,0,true⟩)) e0 i1:=⟨_,rfl⟩;have e2:Own O1 1 v (LI (dA y fr to)) i1:=by rw[ea];exact o1.join fun b hb=>(b4 b hb).1
 have a0:O1 0=some ⟨bQ y,0,true⟩:=by rw[ea,oG (by omega),iW]
 obtain⟨w,σ2,n2,i2,k6,i3,o2,e3⟩:=agG y ho fr n1;have g2:=fun d=>o2.gather (d':=d+1) (by omega)
 obtain⟨JQ,eb⟩:∃JQ,JQ=eG n1 O1 σ2 i2:=⟨_,rfl⟩;have b0:JQ 0=some ⟨bQ y,0,true⟩:=by rw[eb,oG (by omega),a0]
 have b5:Own JQ 1 v (LI (dA y fr to)) i1:=by rw[eb];exact e2.ae4 fun b hb=>(b4 b hb).2
 have e4:Own JQ 1 w (LI (Ad y fr)) i2:=by rw[eb];exact o2.join fun b hb=>(e3 b hb).1
 have s2:=fun d=>e4.strip (d':=d+1) (by omega)
 have k7:=agA (Ad y fr) to (Wj y fr);rw[ZY hG J b6]at k7;have k8:=KC y ho fr to;have hlen:∀t:TypeId,(aN gu t).slice=true->Ar gu t v=some (I (dA y fr to).length):=fun t h=>by
  rcases D7 b5 with ⟨rfl,e,_⟩|⟨b,st,rfl,_⟩
  .rw[KR h,e];rfl
  .rw[PO h]
 have E:=hlen 29 (by kernel_rfl);have i4:((dA y fr to).length !=(dA y fr to).length)=false:=by simp
 have a7:(((dA y fr to).length:Int) !=((dA y fr to).length:Int))=false:=by simp
 rw[qB,qO [.tmp 2] [12,16] func3];cases G:b_ y fr to with
 |false=>
  rw[G]at k5 k7;have k9:=OX y ho [(fr:Int),(to:Int)] (by simp);rw[agI hG J b6 G]at k9;have k9:fn gu d_ wI 13 [.agg (bQ y),.ts [I fr,I to] 2]=some (Bo false):=k9;obtain⟨Ob,ec⟩:∃Ob,Ob=upd JQ n2 (some ⟨[I fr,I to],1,true⟩):=⟨_,rfl⟩;have c0:Ob 0=some ⟨bQ y,0,true⟩:=by rw[ec,iZ,b0]
  have sc:∀d,strip Ob (d+1) (.rs n2 0 2)=some (.ts [I fr,I to] 2,[n2]):=fun d=>by
   have:=oQ (σ:=Ob) (b:=n2) (xs:=[(fr:Int),(to:Int)]) (by rw[ec,iW];rfl) (n:=2) rfl d;exact this
  have z0:0<n2:=by omega
  have z1:0<n2+1:=by omega
  have z2:n2<n2+1:=by omega
  by_cases e5:fr=to
  .subst e5
   have O:=Gw y.ah[fr] (ho.1.1 _ (zq J)) y.strict;rw[not_safe hG J G]at O;have f1:(fr:Int)<(y.ah.length:Int):=by omega
   have f2:=nP fr;have g5:=abr y.ah fr J;have g6:=QF y.ah;have g7:fr*5+5<=y.ah.length*5:=by omega
   have g9:=abt y.ah fr J;have e1:((fr:Int) !=(fr:Int))=false:=by simp
   obtain⟨t,et⟩:∃t,t=y.ah[fr]:=⟨_,rfl⟩;rw[<- et]at g5 O;simp only[go_sem,sG,hs,k1,k2,k3,k4,b3,a8,b2,k5,g1,<- ea,a0,k6,g2,<- eb,b0,s2,k7,k8,E,a7,k9,<- ec,c0,sc,z0,z1,z2,e1,f1,f2,g5,g6,g7,g9,J,O,EG]
  .have e1:((fr:Int) !=(to:Int))=true:=by simp;omega
   simp only[go_sem,sG,hs,k1,k2,k3,k4,b3,a8,b2,k5,g1,<- ea,a0,k6,g2,<- eb,b0,s2,k7,k8,E,a7,k9,<- ec,c0,sc,z0,z1,z2,e1,EG]
 |true=>
  rw[G]at k5 k7;have b7:=zL (MN y fr to) (by decide:1000000<=1048576);have k9:=OX y ho (dA y fr to) b7;have O:=ZX y ho (dA y fr to) b7;rw[Gy G]at k9;have b8:=agJ (Gy G);have hP:=Wq G;obtain⟨S,b9,c2⟩:=ZV G;obtain⟨P,eP⟩:∃P,P=dA y fr to:=⟨_,rfl⟩;have i5:P.length<=1000000:=by rw[eP];exact MN y fr to
  simp only[<- eP]at b5 k8 k9 O hP S b9 c2 E a7 b8;obtain⟨b,hv,e6,e7⟩:∃b,v= .rs b 0 P.length/\i1=[b]/\JQ b=some ⟨P.flatMap cI,1,true⟩:=by
   rcases D7 b5 with ⟨_,e,_⟩|⟨b,st,h1,h2,h3,h4⟩
   .rw[e]at S;exact absurd S (Nat.lt_irrefl _)
   .have:st=1:=by
     rcases Nat.lt_trichotomy st 1 with c|c|c
     .have:st=0:=by omega
      subst this;omega
     .exact c
     .have:P.length*1<P.length*st:=Nat.mul_lt_mul_of_pos_left c S
      omega
    subst this;exact⟨b,h1,h2,h3⟩
  have i6:=b4 b (by rw[e6];simp);subst hv;have e8:=agA (Gx y);have i7:(Gx y).length<=6:=by
   unfold Gx
   split
   .exact zL (iy _ _) Z_
   .exact wM _
  simp only[go_sem,sG,hs,k1,k2,k3,k4,b3,a8,b2,k5,g1,<- ea,a0,k6,g2,<- eb,b0,s2,k7,k8,E,a7];generalize hL:aA _ _=z;obtain⟨x,rfl,T,σ,nx,rfl,t3,t5,t6,t7,i9,b0,bb⟩:=rP hL P.length (fun j st=>st.T 3= .rp 0 0/\st.T 5=I fr/\st.T 6=I to/\st.T 7= .rs b 0 P.length/\st.T 81= .rs b 0 P.length/\st.T 82=I P.length/\st.T 83=I j/\n2<=st.nx/\st.σ 0=some ⟨bQ y,0,true⟩/\st.σ b=some ⟨P.flatMap cI,1,true⟩)
   (fun x=>∃T σ nx,x=(.exit 0,⟨T,σ,nx⟩)/\T 3= .rp 0 0/\T 5=I fr/\T 6=I to/\T 7= .rs b 0 P.length/\n2<=nx/\σ 0=some ⟨bQ y,0,true⟩/\σ b=some ⟨P.flatMap cI,1,true⟩) (by
    clear hL;rintro j ⟨T,σ,m⟩ hj ⟨t3,t5,t6,t7,Xw,t82,t83,hm,b0,bb⟩;simp only at t3 t5 t6 t7 Xw t82 t83 hm b0 bb;have f1:(j:Int)<(P.length:Int):=by omega
    have f2:=nP j;have f3:=iF (n:=(j:Int)+1);have f4:=idx (xs:=P) (k:=j) hj;have f5:=kD (c:=cI) (s:=1) (fun _=>rfl) P;obtain⟨p1,p2,p3⟩:=hP j hj;have c3:σ b=some ⟨(P.take j).flatMap cI++(P.drop j).flatMap cI,1,true⟩:=by rw[bb,<- zC,wJ]
    have e9:(P.take j).length=j:=by rw[zY];omega
    obtain⟨v',σ',m',ids,c4,j0,o3,c5⟩:=KE y ho m;have g3:=fun d=>o3.gather (d':=d+1) (by omega)
    obtain⟨Ob,ec⟩:∃Ob,Ob=D8 m m' σ σ' ids:=⟨_,rfl⟩;have c0:Ob 0=some ⟨bQ y,0,true⟩:=by rw[ec,abR (by omega),b0]
    have cb:Ob b=some ⟨P.flatMap cI,1,true⟩:=by rw[ec,abR (by omega),bb]
    have h5:Own Ob 1 v' (LI (Gx y)) ids:=by rw[ec];exact o3.draw c5
    have s3:=fun d=>h5.strip (d':=d+1) (by omega)
    have a3:(ids.all fun b=>decide (b<m'))=true:=by
     rw[wW];intro b hb;have:=(c5 b hb).2
     simpa using this
    have sT:=fun d=>MG c3 (n:=j) e9 d
    have a1:=agA (P.take j) P[j] (by omega);rw[uX p1]at a1;have a6:=e8 P[j] (by omega);rw[uY p2]at a6;have l1:j<=P.length:=by omega
    have z1:b<m:=by omega
    have z2:0<m:=by omega
    have z3:0<m':=by omega
    have z4:b<m':=by omega
    by_cases j1:j=0
    .have i0:¬(0:Int)<(j:Int):=by omega
     obtain⟨q,eq⟩:∃q,q=P[j]:=⟨_,rfl⟩;rw[<- eq]at f4 a1 a6;refine .inl ⟨_,by simp only[go_sem,sG,t3,t5,t6,t7,Xw,t82,t83,b0,bb,f1,f2,f3,f4,f5,hj,i0,sT,a1,l1,z1,z2,z3,z4,c4,g3,<- ec,c0,cb,s3,a3,a6,EG];rfl,?_⟩;simp only[go_sem,t3,t5,t6,t7,Xw,t82];exact⟨rfl,by omega,c0,cb⟩
    .have i0:(0:Int)<(j:Int):=by omega
     have w1:=iF (n:=(j:Int) - 1);have w2:(j:Int) - 1=((j-1:Nat):Int):=by omega
     rw[w2]at w1;have w3:((j-1:Nat):Int)<(P.length:Int):=by omega
     have w4:(0:Int)<=((j-1:Nat):Int):=by omega
     have w5:j-1<P.length:=by omega
     have w6:=idx (xs:=P) (k:=j-1) w5;have p4:=p3 (by omega);obtain⟨q,eq⟩:∃q,q=P[j]:=⟨_,rfl⟩;rw[<- eq]at f4 a1 a6 p4;obtain⟨q',h6⟩:∃q',q'=P[j-1]'(by omega):=⟨_,rfl⟩;rw[<- h6]at w6 p4;have h7:=KD y ho q';have j2:(nextL y q').length<=6:=by
      unfold nextL
      split
      .exact zL (iy _ _) Z_
      .exact wM _
     have c6:=agA (nextL y q') q (by omega);rw[uY p4]at c6;refine .inl ⟨_,by simp only[go_sem,sG,t3,t5,t6,t7,Xw,t82,t83,b0,bb,f1,f2,f3,f4,f5,hj,i0,sT,a1,l1,z1,z2,z3,z4,c4,g3,<- ec,c0,cb,s3,a3,a6,w1,w2,w3,w4,w5,w6,h7,c6,EG,JL,Z7,List.all_append,xH,xG,vH,Bool.and_self];rfl,?_⟩;simp only[go_sem,t3,t5,t6,t7,Xw,t82];exact⟨rfl,by omega,c0,cb⟩) (by
    clear hL;rintro ⟨T,σ,m⟩ ⟨t3,t5,t6,t7,Xw,t82,t83,hm,b0,bb⟩;simp only at t3 t5 t6 t7 Xw t82 t83 hm b0 bb;exact⟨_,by simp only[go_sem,t82,t83,zX];rfl,by simp,_,_,_,rfl,by simp only[go_sem,t3],by simp only[go_sem,t5],by simp only[go_sem,t6],by simp only[go_sem,t7],hm,b0,bb⟩) (by
    simp only[go_sem];exact⟨b0,e7⟩)
  have sP:=fun d=>oQ bb (n:=P.length) rfl d
  have Y:Int.toNat 0=0:=rfl;have xd:(0:Int)<=0:=by decide
  have x2:(0:Int)<(P.length:Int):=by omega
  have x3:=idx (xs:=P) (k:=0) S;rw[b9]at x3;have x4:=idx (xs:=P) (k:=P.length-1) (by omega);rw[c2]at x4;have x5:=iF (n:=(P.length:Int) - 1);have x6:(P.length:Int) - 1=((P.length-1:Nat):Int):=by omega
  rw[x6]at x5;have x7:((P.length-1:Nat):Int)<(P.length:Int):=by omega
  have x8:(0:Int)<=((P.length-1:Nat):Int):=by omega
  have x9:P.length-1<P.length:=by omega
  have xa:((fr:Int)==(fr:Int))=true:=by simp
  have xb:((to:Int)==(to:Int))=true:=by simp
  have xc:=kD (c:=cI) (s:=1) (fun _=>rfl) P;have xe:=toList_empty (SY y P);rw[uX b8]at xe;simp only[go_sem,t3,t5,t6,t7,b0,bb,Y,xd,x2,x3,x4,x5,x6,x7,x8,x9,xa,xb,xc,S,sP,k9,O,xe]
end Pure
end Go.Proofs.YtjknobpihkmilaaGreat
