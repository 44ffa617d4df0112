import Derived.Test.YtehdaknhabeiaaaGreatTb2
set_option linter.unusedSimpArgs false
set_option linter.unusedVariables false
set_option linter.unusedSectionVars false
set_option linter.defProp false
set_option maxRecDepth 10000
set_option maxHeartbeats 4000000
open Go.Proofs.Tryz renaming prog->ZH
open Go.Proofs.Tryz
open Bool renaming false_eq_true->yL,and_false->xu,not_false->wu,false_and->wE,true_and->vJ,not_true->vH,or_eq_false_iff->uM
open Classical renaming byContradiction->zf
open Int renaming lt_irrefl->zl,mul_le_mul_of_nonneg_right->zS,mul_le_mul_of_nonneg_left->zA,natCast_mul->yh,tdiv_eq_ediv_of_nonneg->yH,le_refl->yD,mul_add->xY,tmod_eq_emod_of_nonneg->xH,le_of_lt->xG,natAbs_natCast->wz,natAbs_neg->wC,mul_zero->vZ,mul_nonneg->vV,mul_sub->uw,mul_assoc->ug,natAbs_mul->uX,add_zero->uS,sub_mul->uH,mul_lt_mul_of_pos_right->t_
open List renaming getElem?_eq_getElem->zy,getD_eq_getElem?_getD->zx,getElem_mem->zu,length_append->zo,take_of_length_le->zk,length_take->zh,eq_nil_of_length_eq_zero->zZ,mem_cons_of_mem->zY,mem_cons->zX,getElem?_append_left->zV,flatMap_append->zU,flatMap_cons->zT,getElem?_append_right->zQ,length_map->zO,length_drop->zN,mem_cons_self->zM,append_nil->zK,not_mem_nil->zH,mem_append_left->zD,append_assoc->z_,mem_append_right->yw,take_length->yg,getElem?_map->yc,getElem?_eq_none->yZ,drop_zero->yY,getElem_of_mem->yV,drop_eq_getElem_cons->yU,cons_append->yT,ext_getElem->yS,length_eraseIdx_of_lt->yR,take_add_one->yN,length_singleton->yM,length_set->yJ,getElem_append_left->yG,set_append_right->yC,getElem_map->yB,drop_of_length_le->xk,nodup_cons->xZ,getElem?_drop->xX,replicate_succ->xR,take_left'->xM,mem_singleton->xC,range_succ->wY,getElem_set->wP,getElem_append_right->wO,replicate_append_replicate->wF,set_cons_zero->vg,getElem_range->vC,mem_or_eq_of_mem_set->vB,mem_of_mem_eraseIdx->uj,getElem_take->uh,getElem_inj->uV,getElem?_mapIdx->uK,getElem?_take_of_lt->uD,length_zipWith->tq,contains_cons->tN,getElem?_set_self->tJ,eraseIdx_sublist->tC
open Nat renaming le_refl->zq,not_lt_zero->zW,le_trans->zL,zero_add->yX,mul_one->yQ,sub_self->yP,mul_le_mul->yE,min_eq_left->yA,lt_or_eq_of_le->xw,succ_mul->xq,le_of_lt_succ->xg,lt_of_lt_of_le->xP,div_le_self->xJ,div_div_eq_div_mul->xA,div_one->x9,add_comm->wR,mul_comm->wL,zero_le->wK,mod_lt->vX,mul_assoc->vG,zero_mul->uq,pow_succ->um
open Ne renaming symm->yu
open Option renaming bind_some->zi,map_some->zG,getD_some->xK
open Rat renaming mul_nonneg->xQ,le_of_lt->vY,intCast_neg->vS,intCast_mul->vP,div_def->vM,le_refl->uT,mul_zero->uF
open Option.some renaming injEq->su
open Prod.mk renaming injEq->sZ
namespace Go.Proofs.YtehdaknhabeiaaaGreat
open Go Go.TV
theorem qj{P x q n v:Int}(h:x=n+1000000000*q):v+P*x-1000000000*P*q=v+P*n:=by subst h;grind
theorem Tz(m n:Nat)(hm:ln m<=1000000)(hle:n<=m):fn ZH conv ext 244 [LI (dg m),LI (dg n)]=some (LI (dg (m-n))):=by
 have a3:(dg n).length<=(dg m).length:=jf hle;unfold ln at hm;rw[mM,nG [.tmp 4] [] func244];obtain⟨e1,e2,e3⟩:=jT (k:=(dg m).length) (by omega);simp only[go_sem,e1,e2,e3];generalize hL:dI _ _=y;obtain⟨r,rfl,T',σ',nx',o,rfl,h5,E,G,S,hd,hv⟩:=pF hL (dg m).length (fun k st=>st.T 0=LI (dg m)/\st.T 1=LI (dg n)/\st.T 5= .rs 0 0 (dg m).length/\st.T 12=LI (dg m)/\st.T 13=I (dg m).length/\st.T 14=I k/\0<st.nx/\∃c o,st.T 6=I c/\st.σ 0=some ⟨FD o ((dg m).length-k),1,true⟩/\o.length=k/\Dg o/\vl o-bp k*c=vl ((dg m).take k) - vl ((dg n).take k)/\0<=c/\c<=1)
  (fun r=>∃T σ nx o,r=(.exit 0,⟨T,σ,nx⟩)/\T 5= .rs 0 0 (dg m).length/\0<nx/\σ 0=some ⟨o.flatMap cI,1,true⟩/\o.length=(dg m).length/\Dg o/\vl o=(m-n:Nat)) (by
   clear hL;rintro k ⟨T,σ,nx⟩ a0 ⟨h0,h1,h5,O,J,FH,E,c,o,h6,G,S,hd,hv,a4,a5⟩;simp only at h0 h1 h5 O J FH E h6 G;have f1:(k:Int)<((dg m).length:Int):=by omega
   have f2:=jD k;have f3:=ZQ (n:=(k:Int)+1);have f5:=AZ (dg m) k a0;have f6:=idx a0;obtain⟨x,hx⟩:∃x,x=(dg m)[k]:=⟨_,rfl⟩;have xr:=(oh m).get a0;rw[<- hx]at f6 xr;obtain⟨g,hg⟩:∃g,(dg m).length-k=g+1:=⟨(dg m).length-k-1,by omega⟩;have a1:(dg m).length - (k+1)=g:=by omega
   rw[hg]at G;have c5:k<(FD o (g+1)).length:=by rw[mg];omega
   have v1:=ZW a0;rw[<- hx]at v1;have nf:¬(0:Int)<0:=by decide
   have w1:=ZQ (n:=x-c)
   by_cases hB:k<(dg n).length
   .have f8:(k:Int)<((dg n).length:Int):=by omega
    have f9:=AZ (dg n) k hB;have a2:=idx hB;obtain⟨z,hz⟩:∃z,z=(dg n)[k]:=⟨_,rfl⟩;have zr:=(oh n).get hB;rw[<- hz]at a2 zr;have v2:=ZW hB;rw[<- hz]at v2;have w2:=ZQ (n:=x-c-z)
    by_cases Y:x-c-z<0
    .have w3:=ZQ (n:=x-c-z+1000000000)
     have c6:=mZ o g (x-c-z+1000000000) S;refine .inl ⟨_,by simp only[go_sem,h0,h1,h5,h6,O,J,FH,E,G,f1,f2,f3,f5,f6,f8,f9,a2,w1,w2,w3,Y,c5,c6];rfl,?_⟩;simp only[go_sem,h0,h1,h5,O,J,a1];refine⟨rfl,E,_,_,rfl,rfl,by simp[S],hd.snoc (by omega) (by omega),?_,by omega,by omega⟩;rw[ZY,S,qZ,v1,v2,qj (n:=x-c-z) (by omega),uw,uw];omega
    .have c6:=mZ o g (x-c-z) S
     refine .inl ⟨_,by simp only[go_sem,h0,h1,h5,h6,O,J,FH,E,G,f1,f2,f3,f5,f6,f8,f9,a2,w1,w2,Y,c5,c6];rfl,?_⟩;simp only[go_sem,h0,h1,h5,O,J,a1];refine⟨rfl,E,_,_,rfl,rfl,by simp[S],hd.snoc (by omega) (by omega),?_,by omega,by omega⟩;rw[ZY,S,qZ,v1,v2,qj (n:=x-c-z) (by omega),uw,uw];omega
   .have f8:¬(k:Int)<((dg n).length:Int):=by omega
    have v2:=qY (xs:=dg n) (k:=k) (by omega)
    by_cases Y:x-c<0
    .have w3:=ZQ (n:=x-c+1000000000)
     have c6:=mZ o g (x-c+1000000000) S;refine .inl ⟨_,by simp only[go_sem,h0,h1,h5,h6,O,J,FH,E,G,f1,f2,f3,f5,f6,f8,w1,w3,Y,c5,c6];rfl,?_⟩;simp only[go_sem,h0,h1,h5,O,J,a1];refine⟨rfl,E,_,_,rfl,rfl,by simp[S],hd.snoc (by omega) (by omega),?_,by omega,by omega⟩;rw[ZY,S,qZ,v1,v2,qj (n:=x-c) (by omega),uw];omega
    .have c6:=mZ o g (x-c) S
     refine .inl ⟨_,by simp only[go_sem,h0,h1,h5,h6,O,J,FH,E,G,f1,f2,f3,f5,f6,f8,w1,Y,c5,c6];rfl,?_⟩;simp only[go_sem,h0,h1,h5,O,J,a1];refine⟨rfl,E,_,_,rfl,rfl,by simp[S],hd.snoc (by omega) (by omega),?_,by omega,by omega⟩;rw[ZY,S,qZ,v1,v2,qj (n:=x-c) (by omega),uw];omega) (by
   clear hL;rintro ⟨T,σ,nx⟩ ⟨h0,h1,h5,O,J,FH,E,c,o,h6,G,S,hd,hv,a4,a5⟩;simp only at h0 h1 h5 O J FH E h6 G;rw[yP,n_]at G;refine⟨_,by simp only[go_sem,J,FH,zl];rfl,by simp,_,_,_,o,rfl,by simp only[go_sem,h5],E,G,S,hd,?_⟩;rw[yg,zk a3,Zc,Zc,<- S]at hv;have h7:=Zb hd;have h8:=Za hd;have h9:=qg o.length;have hc:c=0:=zf fun a8=>by
    have:c=1:=by omega
    subst this;rw[Int.mul_one]at hv;omega
   subst hc;rw[vZ]at hv;omega) (by
   simp only[go_sem];exact⟨0,[],rfl,rfl,rfl,Dg.nil,by simp[vl],yD _,by decide⟩)
 have ht:=acn o (by unfold Short;omega);rw[CV hd hv]at ht;have a6:fn ZH conv ext 242 [.ts (o.flatMap cI) (dg m).length]=some (LI (dg (m-n))):=by rw[<- S];exact ht
 have tk:List.take (dg m).length (o.flatMap cI)=o.flatMap cI:=by rw[<- S];exact qO _
 have a7:(o.flatMap cI).length=(dg m).length:=by rw[qR,S]
 simp only[go_sem,h5,E,G,a7,tk,a6]
theorem aaX{xs:List Int}{k:Nat}(h:k<xs.length)(y:Int):vl (xs.set k y)=vl xs+bp k*(y-xs[k]):=by
 induction xs generalizing k with
 |nil=>cases h
 |cons x xs E=>
  cases k with
  |zero=>
   rw[vg,Tt];show y+1000000000*vl xs=x+1000000000*vl xs+1*(y-x);omega
  |succ k=>
   have G:k<xs.length:=by simpa using h
   rw[List.set_cons_succ,qZ];show x+1000000000*vl (xs.set k y)=x+1000000000*vl xs+1000000000*bp k*(y-xs[k]);rw[E G,xY,ug];omega
theorem Dg.set{xs:List Int}(h:Dg xs)(k:Nat){y:Int}(G:0<=y)(J:y<1000000000):Dg (xs.set k y):=fun x O=>by
 rcases vB O with E|E
 .exact h x E
 .rw[E];exact⟨G,J⟩
theorem qQ(xs:List Int)(k:Nat)(y:Int):(xs.flatMap cI).set k (I y)=(xs.set k y).flatMap cI:=by
 induction xs generalizing k with
 |nil=>rfl
 |cons x xs E=>
  cases k with
  |zero=>rfl
  |succ k=>
   show I x :: (xs.flatMap cI).set k (I y)=I x :: (xs.set k y).flatMap cI;rw[E]
theorem mY{o:List Int}{k:Nat}(r:Nat)(y:Int)(h:k<o.length):(FD o r).set k (I y)=FD (o.set k y) r:=by
 unfold FD;rw[List.set_append_left _ _ (by rw[qR];exact h),qQ]
theorem TA{o:List Int}{k:Nat}(r:Nat)(h:k<o.length):(FD o r)[k]?=some (I o[k]):=by
 unfold FD;rw[zV (by rw[qR];exact h),idx h]
theorem TB{x y c w:Int}(G:0<=x/\x<1000000000)(E:0<=y/\y<1000000000)(hc:0<=c/\c<1000000000)(hw:0<=w/\w<1000000000):0<=x*y/\x*y<=999999998000000001/\(w+x*y+c) / 1000000000<1000000000:=by
 have J:=vV G.1 E.1;have O:x*y<=999999999*999999999:=Int.mul_le_mul (by omega) (by omega) E.1 (by omega);omega
theorem JI{W bi E w x b c y q G t:Int}(J:y+1000000000*q=w+x*b+c)(O:W+E*c=G+bi*(x*t))(hb:E*(x*b)=bi*(x*(E*b))\/True) :
  W+E*(y-w)+1000000000*E*q=G+bi*(x*t)+E*(x*b):=by
 have:1000000000*E*q=E*(1000000000*q):=by grind
 rw[this];have e:E*(y-w)+E*(1000000000*q)=E*(x*b+c):=by rw[<- xY];congr 1;omega
 rw[xY]at e;omega
theorem LU(m n:Nat)(hm:ln m<=1000000)(hn:ln n<=1000000):fn ZH conv ext 225 [LI (dg m),LI (dg n)]=some (LI (dg (m*n))):=by
 unfold ln at hm hn;rw[mM,nG [.tmp 4] [] func225]
 by_cases zm:m=0
 .subst zm
  rw[uq,oO]
  (simp only[go_sem])<;>rfl
 have cm:((((dg m).length:Nat):Int)==0)=false:=by rw[sQ];have:=rF (oV zm);omega
 by_cases zn:n=0
 .subst zn
  rw[Nat.mul_zero,oO]
  (simp only[go_sem,cm])<;>rfl
 have cn:((((dg n).length:Nat):Int)==0)=false:=by rw[sQ];have:=rF (oV zn);omega
 have pn:0<(dg n).length:=List.length_pos_iff.mpr (oV zn);obtain⟨e1,e2,e3⟩:=jT (k:=(dg m).length+(dg n).length) (by omega);have e0:((dg m).length:Int)+((dg n).length:Int)=(((dg m).length+(dg n).length:Nat):Int):=by omega
 have e4:=ZQ (n:=(((dg m).length+(dg n).length:Nat):Int)) (by omega) (by omega);simp only[go_sem,cm,cn,e0,e1,e2,e3,e4];generalize hL:dI _ _=y;obtain⟨r,rfl,T',σ',nx',P,rfl,S,E,G,hP,hd,hv⟩:=pF hL (dg m).length (fun k st=>st.T 1=LI (dg n)/\st.T 5= .rs 0 0 ((dg m).length+(dg n).length)/\st.T 26=LI (dg m)/\st.T 27=I (dg m).length/\st.T 28=I k/\0<st.nx/\∃P,st.σ 0=some ⟨FD P ((dg m).length-k),1,true⟩/\P.length=k+(dg n).length/\Dg P/\vl P=vl ((dg m).take k)*n)
  (fun r=>∃T σ nx P,r=(.exit 0,⟨T,σ,nx⟩)/\T 5= .rs 0 0 ((dg m).length+(dg n).length)/\0<nx/\σ 0=some ⟨P.flatMap cI,1,true⟩/\P.length=(dg m).length+(dg n).length/\Dg P/\vl P=(m*n:Nat)) (by
   clear hL;rintro k ⟨T,σ,nx⟩ a3 ⟨Y,S,EP,J,O,E,P,G,hP,hd,hv⟩;simp only at Y S EP J O E G;have f1:(k:Int)<((dg m).length:Int):=by omega
   have f2:=jD k;have f3:=ZQ (n:=(k:Int)+1);have f5:=AZ (dg m) k a3;have f6:=idx a3;obtain⟨x,hx⟩:∃x,x=(dg m)[k]:=⟨_,rfl⟩;have xr:=(oh m).get a3;rw[<- hx]at f6 xr;have v1:=ZW a3;rw[<- hx]at v1;obtain⟨g,hg⟩:∃g,(dg m).length-k=g+1:=⟨(dg m).length-k-1,by omega⟩;have a4:(dg m).length - (k+1)=g:=by omega
   rw[hg]at G;refine bF ?_
   conv=>
    enter [1,r,1,1]
    simp only[go_sem,Y,S,EP,J,O,E,f1,f2,f5,f6]
   generalize hL:dI _ _=z;obtain⟨r,rfl,T',σ',nx',c,W,rfl,Y,S,h6,h8,EP,J,O,E,G,hW,hd,hv,a0,a1⟩:=pF hL (dg n).length (fun j st=>st.T 1=LI (dg n)/\st.T 5= .rs 0 0 ((dg m).length+(dg n).length)/\st.T 6=I k/\st.T 7=I x/\st.T 26=LI (dg m)/\st.T 27=I (dg m).length/\st.T 28=I k/\st.T 33=LI (dg n)/\st.T 34=I (dg n).length/\st.T 35=I j/\0<st.nx/\∃c W,st.T 8=I c/\st.σ 0=some ⟨FD W (g+1),1,true⟩/\W.length=k+(dg n).length/\Dg W/\vl W+bp (k+j)*c=vl ((dg m).take k)*n+bp k*(x*vl ((dg n).take j))/\0<=c/\c<1000000000)
    (fun r=>∃T σ nx c W,r=(.exit 2,⟨T,σ,nx⟩)/\T 1=LI (dg n)/\T 5= .rs 0 0 ((dg m).length+(dg n).length)/\T 6=I k/\T 8=I c/\T 26=LI (dg m)/\T 27=I (dg m).length/\T 28=I k/\0<nx/\σ 0=some ⟨FD W (g+1),1,true⟩/\W.length=k+(dg n).length/\Dg W/\vl W+bp (k+(dg n).length)*c=vl ((dg m).take k)*n+bp k*(x*n)/\0<=c/\c<1000000000) (by
     clear hL;rintro j ⟨T,σ,nx⟩ hj ⟨Y,S,h6,h7,EP,J,O,WT,QE,a2,E,c,W,h8,G,hW,hd,hv,a0,a1⟩;simp only at Y S h6 h7 h8 EP J O WT QE a2 E G;have g1:(j:Int)<((dg n).length:Int):=by omega
     have g2:=jD j;have g3:=ZQ (n:=(j:Int)+1);have g5:=AZ (dg n) j hj;have g6:=idx hj;obtain⟨b,hb⟩:∃b,b=(dg n)[j]:=⟨_,rfl⟩;have br:=(oh n).get hj;rw[<- hb]at g6 br;have v2:=ZW hj;rw[<- hb]at v2;have p0:(k:Int)+(j:Int)=((k+j:Nat):Int):=by omega
     have p1:=ZQ (n:=((k+j:Nat):Int));have p2:(0:Int)<=((k+j:Nat):Int):=by omega
     have p3:((k+j:Nat):Int)<(((dg m).length+(dg n).length:Nat):Int):=by omega
     have p4:k+j<W.length:=by omega
     have p5:=TA (o:=W) (g+1) p4;have p6:k+j<(FD W (g+1)).length:=by rw[mg];omega
     obtain⟨w,hw⟩:∃w,w=W[k+j]:=⟨_,rfl⟩;have wr:=hd.get p4;rw[<- hw]at p5 wr;have mm:=TB (x:=x) (y:=b) (c:=c) (w:=w) xr br ⟨a0,a1⟩ wr;have w1:=ZQ (n:=x*b);have w2:=ZQ (n:=w+x*b);have w3:=ZQ (n:=w+x*b+c);obtain⟨q1,q2⟩:=aG (n:=w+x*b+c) (by omega);have w4:=ZQ (n:=(w+x*b+c) / 1000000000);have c6:=mY (g+1) ((w+x*b+c)%1000000000) p4;have vs:=aaX p4 ((w+x*b+c)%1000000000);rw[<- hw]at vs;refine .inl ⟨_,by simp only[go_sem,Y,S,h6,h7,h8,EP,J,O,WT,QE,a2,E,G,g1,g2,g3,g5,g6,p0,p1,p2,p3,p5,p6,w1,w2,w3,w4,q1,q2,c6];rfl,?_⟩;simp only[go_sem,Y,S,h6,h7,EP,J,O,WT,QE];refine⟨rfl,E,_,_,rfl,rfl,by rw[yJ];exact hW,hd.set _ (by omega) (by omega),?_,by omega,by omega⟩;rw[vs,show k+(j+1)=k+j+1 by omega,qZ,JI (c:=c) (x:=x) (b:=b) (by omega) hv (.inr trivial),v2,Tv];grind) (by
     clear hL;rintro ⟨T,σ,nx⟩ ⟨Y,S,h6,h7,EP,J,O,WT,QE,a2,E,c,W,h8,G,hW,hd,hv,a0,a1⟩;simp only at Y S h6 h7 h8 EP J O WT QE a2 E G;rw[yg,Zc]at hv;refine⟨_,by simp only[go_sem,QE,a2,zl];rfl,by simp,_,_,_,c,W,rfl,?_⟩;simp only[go_sem,Y,S,h6,h8,EP,J,O];exact⟨E,G,hW,hd,hv,a0,a1⟩) (by
     simp only[go_sem,Y,S,EP,J,O];exact⟨E,0,P,rfl,G,hP,hd,by rw[vZ,hv];simp[vl],yD _,by decide⟩)
   have p0:(k:Int)+((dg n).length:Int)=((k+(dg n).length:Nat):Int):=by omega
   have p1:=ZQ (n:=((k+(dg n).length:Nat):Int)) (by omega) (by omega);have p2:(0:Int)<=((k+(dg n).length:Nat):Int):=by omega
   have p3:((k+(dg n).length:Nat):Int)<(((dg m).length+(dg n).length:Nat):Int):=by omega
   have p6:k+(dg n).length<(FD W (g+1)).length:=by rw[mg];omega
   have c6:=mZ W g c hW;refine⟨_,by simp only[go_sem,Y,S,h6,h8,EP,J,O,E,G,f3,p0,p1,p2,p3,p6,c6];rfl,.inl ⟨_,rfl,?_⟩⟩;simp only[go_sem,Y,S,EP,J,a4];refine⟨rfl,E,_,rfl,by simp[hW];omega,hd.snoc a0 a1,?_⟩;rw[ZY,hW,hv,v1];grind) (by
   clear hL;rintro ⟨T,σ,nx⟩ ⟨Y,S,EP,J,O,E,P,G,hP,hd,hv⟩;simp only at Y S EP J O E G;rw[yP,n_]at G;refine⟨_,by simp only[go_sem,J,O,zl];rfl,by simp,_,_,_,P,rfl,by simp only[go_sem,S],E,G,hP,hd,?_⟩;rw[hv,yg,Zc,yh]) (by
   simp only[go_sem];refine⟨List.replicate (dg n).length 0,?_,by simp,fun x hx=>by rw[List.mem_replicate]at hx;omega,(aaW _).trans (by simp[vl])⟩;congr 2;unfold FD;rw[show List.flatMap cI (List.replicate (dg n).length 0)=rep (dg n).length [I 0] by unfold rep;rw[List.flatMap_replicate]];unfold rep;rw[<- List.flatten_append,wF,wR])
 have ht:=acn P (by unfold Short;omega);rw[CV hd hv]at ht;have a5:fn ZH conv ext 242 [.ts (P.flatMap cI) ((dg m).length+(dg n).length)]=some (LI (dg (m*n))):=by rw[<- hP];exact ht
 have tk:List.take ((dg m).length+(dg n).length) (P.flatMap cI)=P.flatMap cI:=by rw[<- hP];exact qO _
 have a6:(P.flatMap cI).length=(dg m).length+(dg n).length:=by rw[qR,hP]
 simp only[go_sem,S,E,G,a6,tk,a5]
def cZ(z:Int):List V:=[Bo (decide (z<0)),LI (dg z.natAbs)]
def AL(b:Bool)(n:Nat):Int:=if b=true then -(n:Int)else n
theorem aaY(b:Bool)(n:Nat):cZ (AL b n)=[Bo (b && decide (0<(dg n).length)),LI (dg n)]:=by
 unfold cZ AL;cases b with
 |false=>simp
 |true=>
  have E:((-(n:Int)).natAbs)=n:=by simp
  have G:decide (-(n:Int)<0)=decide (0<(dg n).length):=by
   rw[decide_eq_decide]
   by_cases h:n=0
   .subst h;rw[oO];simp
   .have:=List.length_pos_iff.mpr (oV h);omega
  simp only[if_true,vJ,E,G]
theorem dB(z:Int):AL (decide (z<0)) z.natAbs=z:=by
 unfold AL
 by_cases h:z<0
 .rw[sO h,sS rfl];omega
 .rw[sN h,sW (by decide)];omega
theorem kF(b:Bool)(n:Nat):fn ZH conv ext 223 [Bo b,LI (dg n)]=some (.agg (cZ (AL b n))):=by
 rw[acj,aaY]
theorem kM(z:Int)(h0:-9223372036854775808<=z)(h1:z<=9223372036854775807):fn ZH conv ext 199 [I z]=some (.agg (cZ z)):=by
 rw[mM,nG [.cell 2 145] [] func199]
 by_cases S:z<0
 .have w1:=ZQ (n:=z+1)
  have w2:IntKind.i64.wrap (0 - (z+1))= -(z+1):=by rw[ZQ];omega
  have J:=ZP (n:=-(z+1)) (by omega) (by omega);have Y:=ZP (n:=-(z+1)+1) (by omega) (by omega);have e:-(z+1)+1=((z.natAbs:Nat):Int):=by omega
  rw[e]at Y;have G:=Tq z.natAbs (by omega);have E:=kF true z.natAbs;have O:AL true z.natAbs=z:=by unfold AL;rw[sS rfl];omega
  rw[O]at E;unfold cZ at *;simp only[go_sem,S,w1,w2,J,e,Y,G,E]
 .have J:=ZP (n:=z) (by omega) (by omega)
  have e:z=((z.natAbs:Nat):Int):=by omega
  have G:=Tq z.natAbs (by omega);rw[<- e]at G;have E:=kF false z.natAbs;have O:AL false z.natAbs=z:=by unfold AL;rw[sW (by decide)];omega
  rw[O]at E;unfold cZ at *;simp only[go_sem,S,J,G,E]
theorem kH(z:Int):fn ZH conv ext 227 [.agg (cZ z)]=some (.agg (cZ (-z))):=by
 have E:=kF (!decide (z<0)) z.natAbs;have e:cZ (AL (!decide (z<0)) z.natAbs)=cZ (-z):=by
  unfold AL
  by_cases h:z<0
  .rw[sO h,vH,sW (by decide)];congr 1;omega
  .rw[sN h,wu,sS rfl];congr 1;omega
 rw[e]at E;unfold cZ at *;rw[mM,nG [.cell 2 145] [] func227];simp only[go_sem,E]
theorem pW{m n:Nat}:A_ m n<0↔m<n:=by
 unfold A_
 by_cases h:m<n
 .rw[sS h];simp[h]
 .rw[sW h];split<;>simp[h]
theorem aho(x y:Int)(O:ln x.natAbs<=1000000)(S:ln y.natAbs<=1000000):fn ZH conv ext 224 [.agg (cZ x),.agg (cZ y)]=some (.agg (cZ (x+y))):=by
 have J:=kN x.natAbs y.natAbs O S;have k2:=asZ x.natAbs y.natAbs O S;have sg:∀b m,AL b m=x+y->fn ZH conv ext 223 [Bo b,LI (dg m)]=some (.agg (cZ (x+y))):=fun b m h=>by rw[<- h];exact kF b m
 rw[mM,nG [.cell 4 145] [4,6,2] func224]
 by_cases Y:x<0<;>by_cases h2:y<0
 .have E:=sg true (x.natAbs+y.natAbs) (by unfold AL;rw[sS rfl];omega)
  unfold cZ at *;rw[sO Y,sO h2];simp only[go_sem,J,k2,E]
 .unfold cZ at *
  rw[sO Y,sN h2]
  by_cases hc:x.natAbs<y.natAbs
  .have c1:¬0<=A_ x.natAbs y.natAbs:=by have:=pW.mpr hc;omega
   have G:=Tz y.natAbs x.natAbs S (by omega);have E:=sg false (y.natAbs-x.natAbs) (by unfold AL;rw[sW (by decide)];omega);simp only[go_sem,J,E,G,c1]
  .have c1:0<=A_ x.natAbs y.natAbs:=by have:=mt pW.mp hc;omega
   have G:=Tz x.natAbs y.natAbs O (by omega);have E:=sg true (x.natAbs-y.natAbs) (by unfold AL;rw[sS rfl];omega);simp only[go_sem,J,E,G,c1]
 .unfold cZ at *
  rw[sN Y,sO h2]
  by_cases hc:x.natAbs<y.natAbs
  .have c1:¬0<=A_ x.natAbs y.natAbs:=by have:=pW.mpr hc;omega
   have G:=Tz y.natAbs x.natAbs S (by omega);have E:=sg true (y.natAbs-x.natAbs) (by unfold AL;rw[sS rfl];omega);simp only[go_sem,J,E,G,c1]
  .have c1:0<=A_ x.natAbs y.natAbs:=by have:=mt pW.mp hc;omega
   have G:=Tz x.natAbs y.natAbs O (by omega);have E:=sg false (x.natAbs-y.natAbs) (by unfold AL;rw[sW (by decide)];omega);simp only[go_sem,J,E,G,c1]
 .have E:=sg false (x.natAbs+y.natAbs) (by unfold AL;rw[sW (by decide)];omega)
  unfold cZ at *;rw[sN Y,sN h2];simp only[go_sem,J,k2,E]
theorem acr(x y:Int)(G:ln x.natAbs<=1000000)(O:ln y.natAbs<=1000000):fn ZH conv ext 237 [.agg (cZ x),.agg (cZ y)]=some (.agg (cZ (x-y))):=by
 have J:=kH y;have E:=aho x (-y) G (by rwa [wC]);rw[<- Int.sub_eq_add_neg]at E;unfold cZ at *;rw[mM,nG [.cell 4 145] [1] func237];simp only[go_sem,J,E]
theorem kP(x y:Int)(S:ln x.natAbs<=1000000)(Y:ln y.natAbs<=1000000):fn ZH conv ext 226 [.agg (cZ x),.agg (cZ y)]=some (.agg (cZ (x*y))):=by
 have O:=LU x.natAbs y.natAbs S Y;have sg:∀b,AL b (x.natAbs*y.natAbs)=x*y->fn ZH conv ext 223 [Bo b,LI (dg (x.natAbs*y.natAbs))]=some (.agg (cZ (x*y))):=fun b h=>by rw[<- h];exact kF b _
 have e:∀z:Int,(z.natAbs:Int)=if z<0 then -z else z:=fun z=>by split<;>omega
 rw[mM,nG [.cell 4 145] [1] func226]
 by_cases E:x<0<;>by_cases G:y<0
 .have J:=sg false (by unfold AL;rw[sW (by decide),yh,e,e,sS E,sS G,Int.neg_mul_neg])
  unfold cZ at *;rw[sO E,sO G];simp only[go_sem,O,J]
 .have J:=sg true (by unfold AL;rw[sS rfl,yh,e,e,sS E,sW G,Int.neg_mul,Int.neg_neg])
  unfold cZ at *;rw[sO E,sN G];simp only[go_sem,O,J]
 .have J:=sg true (by unfold AL;rw[sS rfl,yh,e,e,sW E,sS G,Int.mul_neg,Int.neg_neg])
  unfold cZ at *;rw[sN E,sO G];simp only[go_sem,O,J]
 .have J:=sg false (by unfold AL;rw[sW (by decide),yh,e,e,sW E,sW G])
  unfold cZ at *;rw[sN E,sN G];simp only[go_sem,O,J]
def Ak(x y:Int):Int:=if x<y then -1 else if x=y then 0 else 1
theorem ak8{m n:Nat}:A_ m n=Ak m n:=by unfold A_ Ak;split<;>split<;>first|rfl|(split<;>first|rfl|omega)|omega
theorem QF(x y:Int)(J:ln x.natAbs<=1000000)(O:ln y.natAbs<=1000000):fn ZH conv ext 198 [.agg (cZ x),.agg (cZ y)]=some (I (Ak x y)):=by
 have S:=kN x.natAbs y.natAbs J O;have Y:=kN y.natAbs x.natAbs O J;rw[ak8]at S Y;unfold cZ;rw[mM,nG [.tmp 4] [] func198]
 by_cases E:x<0<;>by_cases G:y<0
 .have e:Ak ((y.natAbs:Nat):Int) ((x.natAbs:Nat):Int)=Ak x y:=by unfold Ak;(repeat' split)<;>first|rfl|omega
  rw[sO E,sO G];simp only[go_sem,Y,e]
 .have e:Ak x y= -1:=by unfold Ak;rw[sS (by omega)]
  rw[sO E,sN G,e];simp only[go_sem]
 .have e:Ak x y=1:=by unfold Ak;rw[sW (by omega),sW (by omega)]
  rw[sN E,sO G,e];simp only[go_sem]
 .have e:Ak ((x.natAbs:Nat):Int) ((y.natAbs:Nat):Int)=Ak x y:=by unfold Ak;(repeat' split)<;>first|rfl|omega
  rw[sN E,sN G];simp only[go_sem,S,e]
theorem kG(x:Int):fn ZH conv ext 215 [.agg (cZ x)]=some (I (Ak x 0)):=by
 unfold cZ;rw[mM,nG [.tmp 2] [] func215]
 by_cases G:x=0
 .subst G
  have e:Ak 0 0=0:=by decide
  rw[e,Int.natAbs_zero,oO]
  (simp only[go_sem])<;>rfl
 .have c1:(((dg x.natAbs).length:Int)==0)=false:=by rw[sQ];have:=rF (oV (n:=x.natAbs) (by omega));omega
  by_cases E:x<0
  .have e:Ak x 0= -1:=by unfold Ak;rw[sS E]
   rw[sO E,e];simp only[go_sem,c1]
  .have e:Ak x 0=1:=by unfold Ak;rw[sW E,sW G]
   rw[sN E,e];simp only[go_sem,c1]
def cQ(q:Rat):List V:=[Bo (decide (q.num<0)),LI (dg q.num.natAbs),LI (dg q.den)]
def pQ:Option Rat->V
 |some q=> .tp (cQ q) 0
 |none=> .sc (.pointer none)
theorem qN(q:Rat):(cQ q).length=3:=rfl
theorem ahp(z:Int){d:Nat}(h:d≠0):cQ (mkRat z d)=aeM (decide (z<0)) z.natAbs d:=by
 have hg:Nat.gcd d z.natAbs=Nat.gcd z.natAbs d:=Nat.gcd_comm _ _;have J:0<Nat.gcd z.natAbs d:=Nat.gcd_pos_of_pos_right _ (by omega);have Y:Nat.gcd z.natAbs d ∣ z.natAbs:=Nat.gcd_dvd_left _ _;have O:((Nat.gcd z.natAbs d:Nat):Int) ∣ z:=Int.ofNat_dvd_left.mpr Y;unfold cQ aeM;rw[Rat.num_mkRat,Rat.den_mkRat,sW h,sW h,hg];have e1:(z / ((Nat.gcd z.natAbs d:Nat):Int)).natAbs=z.natAbs / Nat.gcd z.natAbs d:=by
  obtain⟨k,E⟩:=O;have e:z / ((Nat.gcd z.natAbs d:Nat):Int)=k:=Int.ediv_eq_of_eq_mul_right (by omega) E;have e2:z.natAbs=Nat.gcd z.natAbs d*k.natAbs:=by
   have:=congrArg Int.natAbs E;rw[uX,wz]at this;exact this
  rw[e,Nat.div_eq_of_eq_mul_right J e2]
 have e2:decide (z / ((Nat.gcd z.natAbs d:Nat):Int)<0)=(decide (z<0) && decide (0<(dg (z.natAbs / Nat.gcd z.natAbs d)).length)):=by
  have e3:(z / ((Nat.gcd z.natAbs d:Nat):Int)<0)↔z<0:=by
   obtain⟨k,E⟩:=O;have e:z / ((Nat.gcd z.natAbs d:Nat):Int)=k:=Int.ediv_eq_of_eq_mul_right (by omega) E;rw[e];have hG:(0:Int)<((Nat.gcd z.natAbs d:Nat):Int):=by omega
   generalize ((Nat.gcd z.natAbs d:Nat):Int)=G at *;constructor
   .intro a0;rw[E];exact Int.mul_neg_of_pos_of_neg hG a0
   .intro S
    refine zf fun hn=>?_
    have:=vV (xG hG) (Int.not_lt.mp hn);rw[<- E]at this;omega
  by_cases S:z<0
  .have a1:z.natAbs / Nat.gcd z.natAbs d≠0:=by
    have:=Nat.div_pos (Nat.gcd_le_left d (show 0<z.natAbs by omega)) J;omega
   rw[sO (e3.mpr S),sO S,sO (List.length_pos_iff.mpr (oV a1))];rfl
  .rw[sN (mt e3.mp S),sN S];rfl
 rw[e1,e2]
def Sm(q:Rat):Prop:=q.num.natAbs<400000000/\q.den<30000
theorem lnS{n:Nat}(h:n<1000000000000000000):ln n<=1000000:=by
 have:=jg (n:=n) (k:=2)|>.mpr (by have:bp 2=1000000000000000000:=by decide
                                  omega)
 omega
theorem Sm.n{q:Rat}(h:Sm q):ln q.num.natAbs<=1000000:=lnS (by have:=h.1;omega)
theorem Sm.d{q:Rat}(h:Sm q):ln q.den<=1000000:=lnS (by have:=h.2;omega)
theorem dd0(x y:Rat):x.den*y.den≠0:=Nat.mul_ne_zero x.den_nz y.den_nz
theorem Iu(x:Rat)(d:Nat)(G:ln x.num.natAbs<=1000000)(J:ln d<=1000000):fn ZH conv ext 197 [.tp (cQ x) 0,LI (dg d)]=some (.agg (cZ (x.num*d))):=by
 have O:=LU x.num.natAbs d G J;have E:=kF (decide (x.num<0)) (x.num.natAbs*d);have e:AL (decide (x.num<0)) (x.num.natAbs*d)=x.num*d:=by
  have h:=dB x.num
  conv=>rhs;rw[<- h]
  unfold AL
  by_cases q:x.num<0
  .rw[sO q,sS rfl,sS rfl,yh,Int.neg_mul]
  .rw[sN q,sW (by decide),sW (by decide),yh]
 rw[e]at E;unfold cQ;unfold cZ at *;rw[mM,nG [.cell 4 145] [] func197];simp only[go_sem,O,E]
theorem ahq(x y:Rat)(Y:y.num≠0):x / y=mkRat (AL (decide (x.num<0) !=decide (y.num<0)) (x.num.natAbs*y.den)) (x.den*y.num.natAbs):=by
 have S:x / y=Rat.divInt (x.num*y.den) (x.den*y.num):=by
  rw[vM]
  conv=>lhs;rw[<- Rat.num_divInt_den x,<- Rat.num_divInt_den y]
  rw[Rat.inv_divInt,Rat.divInt_mul_divInt]
 rw[S,<- Rat.divInt_ofNat,yh];have hx:=dB x.num
 by_cases J:x.num<0<;>by_cases O:y.num<0
 .have E:((x.num.natAbs:Nat):Int)= -x.num:=by omega
  have G:((y.num.natAbs:Nat):Int)= -y.num:=by omega
  rw[sO J,sO O];unfold AL;rw[sW (by decide),yh,E,G,Int.neg_mul,Int.mul_neg,Rat.neg_divInt_neg]
 .have E:((x.num.natAbs:Nat):Int)= -x.num:=by omega
  have G:((y.num.natAbs:Nat):Int)=y.num:=by omega
  rw[sO J,sN O];unfold AL;rw[sS (by decide),yh,E,G,Int.neg_mul,Int.neg_neg]
 .have E:((x.num.natAbs:Nat):Int)=x.num:=by omega
  have G:((y.num.natAbs:Nat):Int)= -y.num:=by omega
  rw[sN J,sO O];unfold AL;rw[sS (by decide),yh,E,G,Int.mul_neg];rw[<- Rat.neg_divInt_neg (-(x.num*y.den)),Int.neg_neg,Int.neg_neg]
 .have E:((x.num.natAbs:Nat):Int)=x.num:=by omega
  have G:((y.num.natAbs:Nat):Int)=y.num:=by omega
  rw[sN J,sN O];unfold AL;rw[sW (by decide),yh,E,G]
theorem ak9(q:Rat)(E:ln q.num.natAbs<=24)(G:ln q.den<=24):fn ZH conv ext 166 [.tp (cQ q) 0]=some (.agg (cQ q)):=aoA _ _ _ E G
theorem kE(z:Int)(E:-9223372036854775808<=z)(G:z<=9223372036854775807):fn ZH conv ext 169 [I z]=some (.tp (cQ (z:Rat)) 0):=by
 have k:=kM z E G;have J:(z:Rat).num=z:=rfl;have O:(z:Rat).den=1:=rfl;unfold cQ;rw[J,O,oU (d:=1) (by decide) (by decide)];unfold cZ at k;rw[mM,nG [.tmp 2] [] func169]
 (simp only[go_sem,k])<;>rfl
theorem WU(m n:Nat)(l1:(dg m).length<=1000000)(l2:(dg n).length<=1000000):fn ZH conv ext 212 [LI (dg m),LI (dg n)]=some (I (A_ m n)):=by
 rw[mM,nG [.tmp 4] [] func212]
 by_cases hl:(dg m).length=(dg n).length
 .have c1:(((dg m).length:Int) !=((dg n).length:Int))=false:=by rw[hl];simp
  have e1:=ZQ (n:=((dg m).length:Int) - 1);simp only[go_sem,c1,e1];generalize hL:dI _ _=y;obtain⟨r,rfl,hr⟩:=jV hL (fun k st=>st.nx=0/\st.σ=lI/\st.T 0=LI (dg m)/\st.T 1=LI (dg n)/\st.T 5=I ((k:Int) - 1)/\k<=(dg m).length/\m / 1000000000^k=n / 1000000000^k)
   (fun r=>(∃T,r=(.exit 0,⟨T,lI,0⟩)/\m=n)\/(∃T,r=(.ret,⟨T,lI,0⟩)/\T 4=I (A_ m n))) (by
    clear hL;rintro k ⟨T,σ,nx⟩ ⟨a0,a1,h0,h1,h5,hk,he⟩;simp only at a0 a1 h0 h1 h5;subst a0 a1;cases k with
    |zero=>
     have a2:¬(0:Int)<=0-1:=by omega
     rw[Nat.pow_zero,x9,x9]at he;exact .inr ⟨_,by simp only[go_sem,h5,a2];rfl,by simp,.inl ⟨_,rfl,he⟩⟩
    |succ k=>
     have E:k<(dg m).length:=by omega
     have G:k<(dg n).length:=by omega
     have e5:((k+1:Nat):Int) - 1=(k:Int):=by omega
     rw[e5]at h5;have f0:=jD k;have f3:(k:Int)<((dg m).length:Int):=by omega
     have S:(k:Int)<((dg n).length:Int):=by omega
     have f5:=AZ (dg m) k E;have Y:=AZ (dg n) k G;have f6:=idx E;have O:=idx G;rw[oZ E]at f6;rw[oZ G]at O;have f7:=ZQ (n:=(k:Int) - 1)
     by_cases q1:((m / 1000000000^k%1000000000:Nat):Int)<((n / 1000000000^k%1000000000:Nat):Int)
     .have J:m<n:=jU he (by omega)
      have hc:A_ m n= -1:=by unfold A_;rw[sS J]
      exact .inr ⟨_,by simp only[go_sem,h0,h1,h5,f0,f3,S,f5,Y,f6,O,q1];rfl,by simp,.inr ⟨_,rfl,by simp only[go_sem,hc]⟩⟩
     .by_cases q2:((n / 1000000000^k%1000000000:Nat):Int)<((m / 1000000000^k%1000000000:Nat):Int)
      .have J:n<m:=jU he.symm (by omega)
       have hc:A_ m n=1:=by unfold A_;rw[sW (by omega),sW (by omega)]
       exact .inr ⟨_,by simp only[go_sem,h0,h1,h5,f0,f3,S,f5,Y,f6,O,q1,q2];rfl,by simp,.inr ⟨_,rfl,by simp only[go_sem,hc]⟩⟩
      .have a3:m / 1000000000^k=n / 1000000000^k:=by
        have a:=oQ m k;have b:=oQ n k;rw[he]at a;omega
       refine .inl ⟨_,by simp only[go_sem,h0,h1,h5,f0,f3,S,f5,Y,f6,O,f7,q1,q2];rfl,k,by omega,?_⟩;simp only[go_sem,h0,h1];exact⟨by omega,a3⟩) (dg m).length ⟨rfl,rfl,by simp only[go_sem],by simp only[go_sem],by simp only[go_sem],zq _,by rw[og,hl,og]⟩
  rcases hr with ⟨T,rfl,h⟩|⟨T,rfl,h⟩
  .have hc:A_ m n=0:=by unfold A_;rw[sW (by omega),sS h]
   simp only[go_sem,hc]
  .simp only[go_sem,h]
 .have c1:(((dg m).length:Int) !=((dg n).length:Int))=true:=by rw[bne_iff_ne];omega
  by_cases E:((dg m).length:Int)<((dg n).length:Int)
  .have J:m<n:=oW (by omega)
   have hc:A_ m n= -1:=by unfold A_;rw[sS J]
   simp only[go_sem,c1,E,hc]
  .have J:n<m:=oW (by omega)
   have hc:A_ m n=1:=by unfold A_;rw[sW (by omega),sW (by omega)]
   simp only[go_sem,c1,E,hc]
theorem dN(m n:Nat)(hm:ln m<=1000000)(hn:ln n<=1000000):fn ZH conv ext 185 [LI (dg m),LI (dg n)]=some (LI (dg (m*n))):=by
 unfold ln at hm hn;rw[mM,nG [.tmp 4] [] func185]
 by_cases zm:m=0
 .subst zm
  rw[uq,oO]
  (simp only[go_sem])<;>rfl
 have cm:((((dg m).length:Nat):Int)==0)=false:=by rw[sQ];have:=rF (oV zm);omega
 by_cases zn:n=0
 .subst zn
  rw[Nat.mul_zero,oO]
  (simp only[go_sem,cm])<;>rfl
 have cn:((((dg n).length:Nat):Int)==0)=false:=by rw[sQ];have:=rF (oV zn);omega
 have pn:0<(dg n).length:=List.length_pos_iff.mpr (oV zn);obtain⟨e1,e2,e3⟩:=jT (k:=(dg m).length+(dg n).length) (by omega);have e0:((dg m).length:Int)+((dg n).length:Int)=(((dg m).length+(dg n).length:Nat):Int):=by omega
 have e4:=ZQ (n:=(((dg m).length+(dg n).length:Nat):Int)) (by omega) (by omega);simp only[go_sem,cm,cn,e0,e1,e2,e3,e4];generalize hL:dI _ _=y;obtain⟨r,rfl,T',σ',nx',P,rfl,S,E,G,hP,hd,hv⟩:=pF hL (dg m).length (fun k st=>st.T 1=LI (dg n)/\st.T 5= .rs 0 0 ((dg m).length+(dg n).length)/\st.T 26=LI (dg m)/\st.T 27=I (dg m).length/\st.T 28=I k/\0<st.nx/\∃P,st.σ 0=some ⟨FD P ((dg m).length-k),1,true⟩/\P.length=k+(dg n).length/\Dg P/\vl P=vl ((dg m).take k)*n)
  (fun r=>∃T σ nx P,r=(.exit 0,⟨T,σ,nx⟩)/\T 5= .rs 0 0 ((dg m).length+(dg n).length)/\0<nx/\σ 0=some ⟨P.flatMap cI,1,true⟩/\P.length=(dg m).length+(dg n).length/\Dg P/\vl P=(m*n:Nat)) (by
   clear hL;rintro k ⟨T,σ,nx⟩ a3 ⟨Y,S,EP,J,O,E,P,G,hP,hd,hv⟩;simp only at Y S EP J O E G;have f1:(k:Int)<((dg m).length:Int):=by omega
   have f2:=jD k;have f3:=ZQ (n:=(k:Int)+1);have f5:=AZ (dg m) k a3;have f6:=idx a3;obtain⟨x,hx⟩:∃x,x=(dg m)[k]:=⟨_,rfl⟩;have xr:=(oh m).get a3;rw[<- hx]at f6 xr;have v1:=ZW a3;rw[<- hx]at v1;obtain⟨g,hg⟩:∃g,(dg m).length-k=g+1:=⟨(dg m).length-k-1,by omega⟩;have a4:(dg m).length - (k+1)=g:=by omega
   rw[hg]at G;refine bF ?_
   conv=>
    enter [1,r,1,1]
    simp only[go_sem,Y,S,EP,J,O,E,f1,f2,f5,f6]
   generalize hL:dI _ _=z;obtain⟨r,rfl,T',σ',nx',c,W,rfl,Y,S,h6,h8,EP,J,O,E,G,hW,hd,hv,a0,a1⟩:=pF hL (dg n).length (fun j st=>st.T 1=LI (dg n)/\st.T 5= .rs 0 0 ((dg m).length+(dg n).length)/\st.T 6=I k/\st.T 7=I x/\st.T 26=LI (dg m)/\st.T 27=I (dg m).length/\st.T 28=I k/\st.T 33=LI (dg n)/\st.T 34=I (dg n).length/\st.T 35=I j/\0<st.nx/\∃c W,st.T 8=I c/\st.σ 0=some ⟨FD W (g+1),1,true⟩/\W.length=k+(dg n).length/\Dg W/\vl W+bp (k+j)*c=vl ((dg m).take k)*n+bp k*(x*vl ((dg n).take j))/\0<=c/\c<1000000000)
    (fun r=>∃T σ nx c W,r=(.exit 2,⟨T,σ,nx⟩)/\T 1=LI (dg n)/\T 5= .rs 0 0 ((dg m).length+(dg n).length)/\T 6=I k/\T 8=I c/\T 26=LI (dg m)/\T 27=I (dg m).length/\T 28=I k/\0<nx/\σ 0=some ⟨FD W (g+1),1,true⟩/\W.length=k+(dg n).length/\Dg W/\vl W+bp (k+(dg n).length)*c=vl ((dg m).take k)*n+bp k*(x*n)/\0<=c/\c<1000000000) (by
     clear hL;rintro j ⟨T,σ,nx⟩ hj ⟨Y,S,h6,h7,EP,J,O,WT,QE,a2,E,c,W,h8,G,hW,hd,hv,a0,a1⟩;simp only at Y S h6 h7 h8 EP J O WT QE a2 E G;have g1:(j:Int)<((dg n).length:Int):=by omega
     have g2:=jD j;have g3:=ZQ (n:=(j:Int)+1);have g5:=AZ (dg n) j hj;have g6:=idx hj;obtain⟨b,hb⟩:∃b,b=(dg n)[j]:=⟨_,rfl⟩;have br:=(oh n).get hj;rw[<- hb]at g6 br;have v2:=ZW hj;rw[<- hb]at v2;have p0:(k:Int)+(j:Int)=((k+j:Nat):Int):=by omega
     have p1:=ZQ (n:=((k+j:Nat):Int));have p2:(0:Int)<=((k+j:Nat):Int):=by omega
     have p3:((k+j:Nat):Int)<(((dg m).length+(dg n).length:Nat):Int):=by omega
     have p4:k+j<W.length:=by omega
     have p5:=TA (o:=W) (g+1) p4;have p6:k+j<(FD W (g+1)).length:=by rw[mg];omega
     obtain⟨w,hw⟩:∃w,w=W[k+j]:=⟨_,rfl⟩;have wr:=hd.get p4;rw[<- hw]at p5 wr;have mm:=TB (x:=x) (y:=b) (c:=c) (w:=w) xr br ⟨a0,a1⟩ wr;have w1:=ZQ (n:=x*b);have w2:=ZQ (n:=w+x*b);have w3:=ZQ (n:=w+x*b+c);obtain⟨q1,q2⟩:=aG (n:=w+x*b+c) (by omega);have w4:=ZQ (n:=(w+x*b+c) / 1000000000);have c6:=mY (g+1) ((w+x*b+c)%1000000000) p4;have vs:=aaX p4 ((w+x*b+c)%1000000000);rw[<- hw]at vs;refine .inl ⟨_,by simp only[go_sem,Y,S,h6,h7,h8,EP,J,O,WT,QE,a2,E,G,g1,g2,g3,g5,g6,p0,p1,p2,p3,p5,p6,w1,w2,w3,w4,q1,q2,c6];rfl,?_⟩;simp only[go_sem,Y,S,h6,h7,EP,J,O,WT,QE];refine⟨rfl,E,_,_,rfl,rfl,by rw[yJ];exact hW,hd.set _ (by omega) (by omega),?_,by omega,by omega⟩;rw[vs,show k+(j+1)=k+j+1 by omega,qZ,JI (c:=c) (x:=x) (b:=b) (by omega) hv (.inr trivial),v2,Tv];grind) (by
     clear hL;rintro ⟨T,σ,nx⟩ ⟨Y,S,h6,h7,EP,J,O,WT,QE,a2,E,c,W,h8,G,hW,hd,hv,a0,a1⟩;simp only at Y S h6 h7 h8 EP J O WT QE a2 E G;rw[yg,Zc]at hv;refine⟨_,by simp only[go_sem,QE,a2,zl];rfl,by simp,_,_,_,c,W,rfl,?_⟩;simp only[go_sem,Y,S,h6,h8,EP,J,O];exact⟨E,G,hW,hd,hv,a0,a1⟩) (by
     simp only[go_sem,Y,S,EP,J,O];exact⟨E,0,P,rfl,G,hP,hd,by rw[vZ,hv];simp[vl],yD _,by decide⟩)
   have p0:(k:Int)+((dg n).length:Int)=((k+(dg n).length:Nat):Int):=by omega
   have p1:=ZQ (n:=((k+(dg n).length:Nat):Int)) (by omega) (by omega);have p2:(0:Int)<=((k+(dg n).length:Nat):Int):=by omega
   have p3:((k+(dg n).length:Nat):Int)<(((dg m).length+(dg n).length:Nat):Int):=by omega
   have p6:k+(dg n).length<(FD W (g+1)).length:=by rw[mg];omega
   have c6:=mZ W g c hW;refine⟨_,by simp only[go_sem,Y,S,h6,h8,EP,J,O,E,G,f3,p0,p1,p2,p3,p6,c6];rfl,.inl ⟨_,rfl,?_⟩⟩;simp only[go_sem,Y,S,EP,J,a4];refine⟨rfl,E,_,rfl,by simp[hW];omega,hd.snoc a0 a1,?_⟩;rw[ZY,hW,hv,v1];grind) (by
   clear hL;rintro ⟨T,σ,nx⟩ ⟨Y,S,EP,J,O,E,P,G,hP,hd,hv⟩;simp only at Y S EP J O E G;rw[yP,n_]at G;refine⟨_,by simp only[go_sem,J,O,zl];rfl,by simp,_,_,_,P,rfl,by simp only[go_sem,S],E,G,hP,hd,?_⟩;rw[hv,yg,Zc,yh]) (by
   simp only[go_sem];refine⟨List.replicate (dg n).length 0,?_,by simp,fun x hx=>by rw[List.mem_replicate]at hx;omega,(aaW _).trans (by simp[vl])⟩;congr 2;unfold FD;rw[show List.flatMap cI (List.replicate (dg n).length 0)=rep (dg n).length [I 0] by unfold rep;rw[List.flatMap_replicate]];unfold rep;rw[<- List.flatten_append,wF,wR])
 have ht:=bD P (by unfold Short;omega);rw[CV hd hv]at ht;have a5:fn ZH conv ext 213 [.ts (P.flatMap cI) ((dg m).length+(dg n).length)]=some (LI (dg (m*n))):=by rw[<- hP];exact ht
 have tk:List.take ((dg m).length+(dg n).length) (P.flatMap cI)=P.flatMap cI:=by rw[<- hP];exact qO _
 have a6:(P.flatMap cI).length=(dg m).length+(dg n).length:=by rw[qR,hP]
 simp only[go_sem,S,E,G,a6,tk,a5]
theorem anh{n j:Nat}(h:bp j<=n):j+1<=ln n:=by
 refine zf fun hn=>?_
 have:=jg.mp (show ln n<=j by omega);omega
theorem ani{n:Nat}(h:n≠0):bp (ln n-1)<=n:=by
 refine zf fun hn=>?_
 have:=jg.mpr (show(n:Int)<bp (ln n-1) by omega);have:=jZ h;omega
theorem Zt(o:List Int):∃r,o=Bf o++r:=by
 induction o with
 |nil=>exact⟨[],rfl⟩
 |cons x o E=>
  obtain⟨r,G⟩:=E;rw[Zv]
  split
  .split
   .exact⟨x :: o,rfl⟩
   .exact⟨o,rfl⟩
  .exact⟨r,by rw[yT,<- G]⟩
theorem TD{o:List Int}{n:Nat}(J:Dg o)(O:vl o=n)(S:o.length<=ln n):o=dg n:=by
 obtain⟨r,E⟩:=Zt o;have G:=CV J O;have:r=[]:=by
  refine zZ ?_;have Y:=congrArg List.length E;rw[zo,G]at Y;unfold ln at S;omega
 rw[this,zK,G]at E;exact E
theorem as3(m n:Nat)(hm:ln m<=1000000)(hn:ln n<=1000000):fn ZH conv ext 232 [LI (dg m),LI (dg n)]=some (LI (dg (m+n))):=by
 have a4:m≠0->bp (ln m-1)<=m:=ani;have a5:n≠0->bp (ln n-1)<=n:=ani;have a6:m=0->ln m=0:=fun h=>by rw[h,jX]
 have a7:n=0->ln n=0:=fun h=>by rw[h,jX]
 unfold ln at *;rw[mM,nG [.tmp 4] [] func232];simp only[go_sem];generalize hL:dI _ _=y;obtain⟨M,a9,b2,hM⟩:∃M,(dg m).length<=M/\(dg n).length<=M/\(M=(dg m).length\/M=(dg n).length):=by
  rcases Nat.le_total (dg m).length (dg n).length with h|h
  .exact⟨_,h,zq _,.inr rfl⟩
  .exact⟨_,zq _,h,.inl rfl⟩
 obtain⟨r,rfl,T',σ',nx',rfl,hr⟩:=jV hL (fun g st=>∃k c o,g+k=M+1/\st.T 0=LI (dg m)/\st.T 1=LI (dg n)/\st.T 6=I c/\st.T 7=I (k:Nat)/\Grow st.T st.σ st.nx 5 o/\o.length=k/\Dg o/\vl o+bp k*c=vl ((dg m).take k)+vl ((dg n).take k)/\0<=c/\c<=1/\(k=M+1->c=0/\bp M<=(m+n:Nat)))
  (fun r=>∃T σ nx,r=(.exit 0,⟨T,σ,nx⟩)/\Grow T σ nx 5 (dg (m+n))) (by
   clear hL;rintro g ⟨T,σ,nx⟩ ⟨k,c,o,hg,J,E,h6,h7,hG,ho,hd,hv,b3,b4,hk⟩;simp only at J E h6 h7 hG;have fin:(dg m).length<=k->(dg n).length<=k->c=0->o=dg (m+n):=by
    intro a1 a2 a3;subst a3;rw[zk a1,zk a2,Zc,Zc,vZ,uS]at hv;refine TD hd (by rw[hv];omega) ?_
    by_cases a0:k=M+1
    .have:=anh (hk a0).2
     omega
    .have b5:k=M:=by omega
     by_cases b6:M=0
     .omega
     .have:bp (M-1)<=(m+n:Nat):=by
       rcases hM with e|e
       .have:=a4 (fun h=>by have:=a6 h;omega)
        rw[<- e]at this;omega
       .have:=a5 (fun h=>by have:=a7 h;omega)
        rw[<- e]at this;omega
      have:=anh this;omega
   have go:∀x z:Int,0<=x->x<1000000000->0<=z->z<1000000000->vl ((dg m).take (k+1))=vl ((dg m).take k)+bp k*x->vl ((dg n).take (k+1))=vl ((dg n).take k)+bp k*z->(k=M->x=0/\z=0)->k<M+1 ->
     vl (o++[(c+x+z)%1000000000])+bp (k+1)*((c+x+z) / 1000000000)=vl ((dg m).take (k+1))+vl ((dg n).take (k+1)):=by
    intro x z x0 x1 z0 z1 e1 e2 _ _;rw[ZY,ho,qZ,e1,e2,qH (n:=c+x+z) (by omega),xY,xY];omega
   have nz:¬(0:Int)<0:=by decide
   by_cases hA:k<(dg m).length
   .have f1:(k:Int)<((dg m).length:Int):=by omega
    have f2:=jD k;have f3:=ZQ (n:=(k:Int)+1);have f5:=AZ (dg m) k hA;have f6:=idx hA;obtain⟨x,hx⟩:∃x,x=(dg m)[k]:=⟨_,rfl⟩;have xr:=(oh m).get hA;have v1:=ZW hA;rw[<- hx]at f6 xr v1;have w1:=ZQ (n:=c+x)
    by_cases O:k<(dg n).length
    .have Y:(k:Int)<((dg n).length:Int):=by omega
     have f9:=AZ (dg n) k O;have G:=idx O;obtain⟨z,hz⟩:∃z,z=(dg n)[k]:=⟨_,rfl⟩;have zr:=(oh n).get O;have S:=ZW O;rw[<- hz]at G zr S;have w2:=ZQ (n:=c+x+z);obtain⟨q1,q2⟩:=aG (n:=c+x+z) (by omega);have w3:=ZQ (n:=(c+x+z) / 1000000000);obtain⟨σ',ha,hs⟩:=kU hG ((c+x+z)%1000000000) (by omega);refine .inl ⟨_,by simp only[go_sem,J,E,h6,h7,f1,f2,f3,f5,f6,Y,f9,G,w1,w2,w3,q1,q2,ha];rfl,g-1,by omega,k+1,(c+x+z) / 1000000000,o++[(c+x+z)%1000000000],by omega,?_,?_,?_,?_,?_,by simp[ho],hd.snoc (by omega) (by omega),?_,by omega,by omega,fun h=>by omega⟩
     .simp only[go_sem,J]
     .simp only[go_sem,E]
     .simp only[go_sem]
     .simp only[go_sem];rfl
     .exact kR hs (by simp[go_sem]) (by simp)
     exact go x z xr.1 xr.2 zr.1 zr.2 v1 S (fun h=>by omega) (by omega)
    .have Y:¬(k:Int)<((dg n).length:Int):=by omega
     have S:vl ((dg n).take (k+1))=vl ((dg n).take k)+bp k*0:=by rw[qY (by omega)];omega
     obtain⟨q1,q2⟩:=aG (n:=c+x) (by omega);have w3:=ZQ (n:=(c+x) / 1000000000);obtain⟨σ',ha,hs⟩:=kU hG ((c+x)%1000000000) (by omega);refine .inl ⟨_,by simp only[go_sem,J,E,h6,h7,f1,f2,f3,f5,f6,Y,w1,w3,q1,q2,ha];rfl,g-1,by omega,k+1,(c+x) / 1000000000,o++[(c+x)%1000000000],by omega,?_,?_,?_,?_,?_,by simp[ho],hd.snoc (by omega) (by omega),?_,by omega,by omega,fun h=>by omega⟩
     .simp only[go_sem,J]
     .simp only[go_sem,E]
     .simp only[go_sem]
     .simp only[go_sem];rfl
     .exact kR hs (by simp[go_sem]) (by simp)
     have:=go x 0 xr.1 xr.2 (by decide) (by decide) v1 S (fun h=>by omega) (by omega)
     rwa [uS]at this
   .have f1:¬(k:Int)<((dg m).length:Int):=by omega
    have f2:=jD k;have f3:=ZQ (n:=(k:Int)+1);have v1:vl ((dg m).take (k+1))=vl ((dg m).take k)+bp k*0:=by rw[qY (by omega)];omega
    by_cases O:k<(dg n).length
    .have Y:(k:Int)<((dg n).length:Int):=by omega
     have f9:=AZ (dg n) k O;have G:=idx O;obtain⟨z,hz⟩:∃z,z=(dg n)[k]:=⟨_,rfl⟩;have zr:=(oh n).get O;have S:=ZW O;rw[<- hz]at G zr S;have w2:=ZQ (n:=c+z);obtain⟨q1,q2⟩:=aG (n:=c+z) (by omega);have w3:=ZQ (n:=(c+z) / 1000000000);obtain⟨σ',ha,hs⟩:=kU hG ((c+z)%1000000000) (by omega);refine .inl ⟨_,by simp only[go_sem,J,E,h6,h7,f1,f2,f3,Y,f9,G,w2,w3,q1,q2,ha];rfl,g-1,by omega,k+1,(c+z) / 1000000000,o++[(c+z)%1000000000],by omega,?_,?_,?_,?_,?_,by simp[ho],hd.snoc (by omega) (by omega),?_,by omega,by omega,fun h=>by omega⟩
     .simp only[go_sem,J]
     .simp only[go_sem,E]
     .simp only[go_sem]
     .simp only[go_sem];rfl
     .exact kR hs (by simp[go_sem]) (by simp)
     have:=go 0 z (by decide) (by decide) zr.1 zr.2 v1 S (fun h=>by omega) (by omega)
     rwa [uS]at this
    .have Y:¬(k:Int)<((dg n).length:Int):=by omega
     have S:vl ((dg n).take (k+1))=vl ((dg n).take k)+bp k*0:=by rw[qY (by omega)];omega
     by_cases hc:c=0
     .subst hc
      refine .inr ⟨_,by simp only[go_sem,J,E,h6,h7,f1,Y,nz];rfl,by simp,_,_,_,rfl,?_⟩;rw[<- fin (by omega) (by omega) rfl];exact kS (by simp only[go_sem]) hG
     .have a8:c=1:=by omega
      subst a8;have a0:k=M:=by
       rcases Nat.lt_or_ge k (M+1)with h|h
       .omega
       .have:=(hk (by omega)).1;omega
      have p1:(0:Int)<1:=by decide
      obtain⟨q1,q2⟩:=aG (n:=1) (by decide);have q3:(1:Int)%1000000000=1:=by decide
      have q4:(1:Int) / 1000000000=0:=by decide
      have q5:IntKind.i64.wrap 0=0:=by decide
      rw[q3]at q1;rw[q4]at q2;obtain⟨σ',ha,hs⟩:=kU hG 1 (by omega);refine .inl ⟨_,by simp only[go_sem,J,E,h6,h7,f1,f2,f3,Y,p1,q1,q2,q5,ha];rfl,g-1,by omega,k+1,0,o++[1],by omega,?_,?_,?_,?_,?_,by simp[ho],hd.snoc (by omega) (by omega),?_,by omega,by omega,fun h=>⟨rfl,?_⟩⟩
      .simp only[go_sem,J]
      .simp only[go_sem,E]
      .simp only[go_sem]
      .simp only[go_sem];rfl
      .exact kR hs (by simp[go_sem]) (by simp)
      .have:=go 0 0 (by decide) (by decide) (by decide) (by decide) v1 S (fun _=>⟨rfl,rfl⟩) (by omega)
       rw[uS,uS,q3,q4]at this;exact this
      .rw[zk (by omega),zk (by omega),Zc,Zc,Int.mul_one]at hv
       have:=Za hd;rw[<- a0];omega) (M+1) ⟨0,0,[],by omega,by simp only[go_sem],by simp only[go_sem],by simp only[go_sem],by simp only[go_sem],.inl ⟨by simp only[go_sem],rfl⟩,rfl,Dg.nil,by simp[vl],by decide,by decide,fun h=>by omega⟩
 obtain⟨ids,E⟩:=kQ hr 6;have h5:∃u,T' 5=u:=⟨_,rfl⟩;simp only[go_sem,E]
theorem WV(m n:Nat)(hm:ln m<=1000000)(hle:n<=m):fn ZH conv ext 233 [LI (dg m),LI (dg n)]=some (LI (dg (m-n))):=by
 have a4:(dg n).length<=(dg m).length:=jf hle;unfold ln at hm;rw[mM,nG [.tmp 4] [] func233];simp only[go_sem];generalize hL:dI _ _=y;obtain⟨r,rfl,T',σ',nx',o,rfl,hG,ho,hd,hv⟩:=pF hL (dg m).length (fun k st=>st.T 0=LI (dg m)/\st.T 1=LI (dg n)/\st.T 10=LI (dg m)/\st.T 11=I (dg m).length/\st.T 12=I k/\∃c o,st.T 6=I c/\Grow st.T st.σ st.nx 5 o/\o.length=k/\Dg o/\vl o-bp k*c=vl ((dg m).take k) - vl ((dg n).take k)/\0<=c/\c<=1)
  (fun r=>∃T σ nx o,r=(.exit 0,⟨T,σ,nx⟩)/\Grow T σ nx 5 o/\o.length=(dg m).length/\Dg o/\vl o=(m-n:Nat)) (by
   clear hL;rintro k ⟨T,σ,nx⟩ a0 ⟨Y,S,G,E,J,c,o,h6,hG,ho,hd,hv,a5,a6⟩;simp only at Y S G E J h6 hG;have f1:(k:Int)<((dg m).length:Int):=by omega
   have f2:=jD k;have f3:=ZQ (n:=(k:Int)+1);have f5:=AZ (dg m) k a0;have f6:=idx a0;obtain⟨x,hx⟩:∃x,x=(dg m)[k]:=⟨_,rfl⟩;have xr:=(oh m).get a0;have v1:=ZW a0;rw[<- hx]at f6 xr v1;have w1:=ZQ (n:=x-c);obtain⟨z,b,a7,hb,hF⟩:∃z b,(0<=z/\z<1000000000)/\vl ((dg n).take (k+1))=vl ((dg n).take k)+bp k*z/\((b=true/\(k:Int)<((dg n).length:Int)/\(dg n).flatMap cI≠[]/\((dg n).flatMap cI)[k]?=some (I z))\/(b=false/\¬(k:Int)<((dg n).length:Int)/\z=0)):=by
    by_cases hB:k<(dg n).length
    .exact⟨(dg n)[k],true,(oh n).get hB,ZW hB,.inl ⟨rfl,by omega,AZ (dg n) k hB,idx hB⟩⟩
    .exact⟨0,false,by decide,by rw[qY (by omega)];omega,.inr ⟨rfl,by omega,rfl⟩⟩
   have w2:=ZQ (n:=x-c-z);have go:∀y q:Int,y=x-c-z+1000000000*q->vl (o++[y]) - bp (k+1)*q=vl ((dg m).take (k+1)) - vl ((dg n).take (k+1)):=by
    intro y q hy;rw[ZY,ho,qZ,v1,hb,qj hy,uw,uw];omega
   have w3:=ZQ (n:=x-c-z+1000000000);obtain⟨a8,a1,s1⟩:=kU hG (x-c-z) (by omega);obtain⟨σ2,a2,s2⟩:=kU hG (x-c-z+1000000000) (by omega);rcases hF with ⟨_,f8,f9,a3⟩|⟨_,f8,rfl⟩
   .by_cases O:x-c-z<0
    .refine .inl ⟨_,by simp only[go_sem,Y,S,h6,G,E,J,f1,f2,f3,f5,f6,f8,f9,a3,w1,w2,w3,O,a2];rfl,?_⟩
     simp only[go_sem,Y,S,G,E];exact⟨rfl,1,o++[x-c-z+1000000000],rfl,kR s2 (by simp[go_sem]) (by simp),by simp[ho],hd.snoc (by omega) (by omega),go _ 1 (by omega),by omega,by omega⟩
    .refine .inl ⟨_,by simp only[go_sem,Y,S,h6,G,E,J,f1,f2,f3,f5,f6,f8,f9,a3,w1,w2,O,a1];rfl,?_⟩
     simp only[go_sem,Y,S,G,E];exact⟨rfl,0,o++[x-c-z],rfl,kR s1 (by simp[go_sem]) (by simp),by simp[ho],hd.snoc (by omega) (by omega),go _ 0 (by omega),by omega,by omega⟩
   .rw[Int.sub_zero]at *
    by_cases O:x-c<0
    .refine .inl ⟨_,by simp only[go_sem,Y,S,h6,G,E,J,f1,f2,f3,f5,f6,f8,w1,w3,O,a2];rfl,?_⟩
     simp only[go_sem,Y,S,G,E];exact⟨rfl,1,o++[x-c+1000000000],rfl,kR s2 (by simp[go_sem]) (by simp),by simp[ho],hd.snoc (by omega) (by omega),go _ 1 (by omega),by omega,by omega⟩
    .refine .inl ⟨_,by simp only[go_sem,Y,S,h6,G,E,J,f1,f2,f3,f5,f6,f8,w1,O,a1];rfl,?_⟩
     simp only[go_sem,Y,S,G,E];exact⟨rfl,0,o++[x-c],rfl,kR s1 (by simp[go_sem]) (by simp),by simp[ho],hd.snoc (by omega) (by omega),go _ 0 (by omega),by omega,by omega⟩) (by
   clear hL;rintro ⟨T,σ,nx⟩ ⟨Y,S,G,E,J,c,o,h6,hG,ho,hd,hv,a5,a6⟩;simp only at Y S G E J h6 hG;refine⟨_,by simp only[go_sem,E,J,zl];rfl,by simp,_,_,_,o,rfl,kS (by simp only[go_sem]) hG,ho,hd,?_⟩;rw[yg,zk a4,Zc,Zc,<- ho]at hv;have h7:=Zb hd;have h8:=Za hd;have h9:=qg o.length;have hc:c=0:=zf fun a9=>by
    have:c=1:=by omega
    subst this;rw[Int.mul_one]at hv;omega
   subst hc;rw[vZ]at hv;omega) (by
   simp only[go_sem];exact⟨0,[],rfl,.inl ⟨by simp only[go_sem],rfl⟩,rfl,Dg.nil,by simp[vl],yD _,by decide⟩)
 have ht:=bD o (by unfold Short;omega);rw[CV hd hv]at ht;obtain⟨ids,S⟩:=kQ hG 6;simp only[go_sem,S,ht]
theorem Ny(b:Bool)(n:Nat)(h:ln n<=60):fn ZH conv ext 178 [Bo b,LI (dg n)]=some (.agg (cZ (AL b n))):=by
 have k:=ahi b (dg n) (dA (by omega)) (by rw[Zu];exact h);rw[Zu]at k;rw[aaY];exact k
theorem WW(x y:Int)(O:ln x.natAbs<=1000000)(S:ln y.natAbs<=1000000)(h:ln (x+y).natAbs<=60):fn ZH conv ext 201 [.agg (cZ x),.agg (cZ y)]=some (.agg (cZ (x+y))):=by
 have J:=WU x.natAbs y.natAbs O S;have k2:=as3 x.natAbs y.natAbs O S;have sg:∀b m,AL b m=x+y->fn ZH conv ext 178 [Bo b,LI (dg m)]=some (.agg (cZ (x+y))):=fun b m hs=>by
  have:(x+y).natAbs=m:=by rw[<- hs];unfold AL;split<;>omega
  rw[<- hs];exact Ny b m (by rw[<- this];exact h)
 rw[mM,nG [.cell 4 145] [2,4,5] func201]
 by_cases Y:x<0<;>by_cases h2:y<0
 .have E:=sg true (x.natAbs+y.natAbs) (by unfold AL;rw[sS rfl];omega)
  unfold cZ at *;rw[sO Y,sO h2];simp only[go_sem,J,k2,E]
 .unfold cZ at *
  rw[sO Y,sN h2]
  by_cases hc:x.natAbs<y.natAbs
  .have c1:¬0<=A_ x.natAbs y.natAbs:=by have:=pW.mpr hc;omega
   have G:=WV y.natAbs x.natAbs S (by omega);have E:=sg false (y.natAbs-x.natAbs) (by unfold AL;rw[sW (by decide)];omega);simp only[go_sem,J,E,G,c1]
  .have c1:0<=A_ x.natAbs y.natAbs:=by have:=mt pW.mp hc;omega
   have G:=WV x.natAbs y.natAbs O (by omega);have E:=sg true (x.natAbs-y.natAbs) (by unfold AL;rw[sS rfl];omega);simp only[go_sem,J,E,G,c1]
 .unfold cZ at *
  rw[sN Y,sO h2]
  by_cases hc:x.natAbs<y.natAbs
  .have c1:¬0<=A_ x.natAbs y.natAbs:=by have:=pW.mpr hc;omega
   have G:=WV y.natAbs x.natAbs S (by omega);have E:=sg true (y.natAbs-x.natAbs) (by unfold AL;rw[sS rfl];omega);simp only[go_sem,J,E,G,c1]
  .have c1:0<=A_ x.natAbs y.natAbs:=by have:=mt pW.mp hc;omega
   have G:=WV x.natAbs y.natAbs O (by omega);have E:=sg false (x.natAbs-y.natAbs) (by unfold AL;rw[sW (by decide)];omega);simp only[go_sem,J,E,G,c1]
 .have E:=sg false (x.natAbs+y.natAbs) (by unfold AL;rw[sW (by decide)];omega)
  unfold cZ at *;rw[sN Y,sN h2];simp only[go_sem,J,k2,E]
theorem aaZ(z:Int)(Y:-9223372036854775808<z)(h1:z<=9223372036854775807):fn ZH conv ext 179 [I z]=some (.agg (cZ z)):=by
 have c1:(z== -9223372036854775808)=false:=by rw[sQ];omega
 have G:=Nw z.natAbs (by omega);have O:ln z.natAbs<=60:=by have:=aoC (n:=z.natAbs) (by omega);omega
 rw[mM,nG [.cell 2 145] [] func179]
 by_cases S:z<0
 .have E:=Ny true z.natAbs O
  have e:AL true z.natAbs=z:=by unfold AL;rw[sS rfl];omega
  have J:((z.natAbs:Nat):Int)=0-z:=by omega
  have w:=ZQ (n:=0-z);rw[e]at E;rw[J]at G;unfold cZ at *;simp only[go_sem,c1,S,w,G,E]
 .have E:=Ny false z.natAbs O
  have e:AL false z.natAbs=z:=by unfold AL;rw[sW (by decide)];omega
  have J:((z.natAbs:Nat):Int)=z:=by omega
  rw[e]at E;rw[J]at G;unfold cZ at *;simp only[go_sem,c1,S,G,E]
theorem dO(z:Int)(E:-9223372036854775808<z)(G:z<=9223372036854775807):fn ZH conv ext 144 [I z]=some (.agg (cQ (z:Rat))):=by
 have J:=aaZ z E G;have O:(z:Rat).num=z:=rfl;have S:(z:Rat).den=1:=rfl;unfold cZ at *;unfold cQ;rw[O,S,oU (d:=1) (by decide) (by decide),mM,nG [.cell 2 147] [] func144]
 (simp only[go_sem,J])<;>rfl
theorem QG(n:Nat)(h:ln n<=1000000):fn ZH conv ext 200 [LI (dg n)]=some (Bo (decide (n=1))):=by
 rw[asV (dg n) (dA h),decide_eq_decide.mpr (QD n)]
theorem ahr(q:Rat)(G:ln q.num.natAbs<=60)(J:ln q.den<=60):fn ZH conv ext 143 [.agg (cQ q)]=some (.agg (cQ (-q))):=by
 have E:=Ny (!decide (q.num<0)) q.num.natAbs G;have e:cZ (AL (!decide (q.num<0)) q.num.natAbs)=cZ (-q.num):=by
  unfold AL
  by_cases h:q.num<0
  .rw[sO h,vH,sW (by decide)];congr 1;omega
  .rw[sN h,wu,sS rfl];congr 1;omega
 rw[e]at E;have O:¬(dg q.den).length=0:=rF (oV q.den_nz);have S:(dg q.den).length<=maxLen/\(dg q.den).length*8<=140737488355328:=by unfold ln at J;unfold maxLen;omega
 unfold cZ at *;unfold cQ;rw[Rat.neg_num,Rat.neg_den,mM,nG [.cell 2 147] [1] func143];simp only[go_sem,E,O,S]
end Go.Proofs.YtehdaknhabeiaaaGreat
namespace Go.TV
def DC(f:V->Option (V×List Nat)):List V->Option (List V×List Nat)
 |[]=>some ([],[])
 |v :: vs=>match f v,DC f vs with
  |some (t,i),some (ts,j)=>some (t :: ts,i++j)
  |_,_=>none
def own(σ:Store):Nat->V->Option (V×List Nat)
 |0,v=>match v with
  | .sc u=>some (.sc u,[])
  | .nil=>some (.ts [] 0,[])
  |_=>none
 |d+1,v=>match v with
  | .sc u=>some (.sc u,[])
  | .nil=>some (.ts [] 0,[])
  | .agg vs=>match DC (own σ d) vs with
   |some (ts,ids)=>some (.agg ts,ids)
   |none=>none
  | .rs b off len=>match σ b with
   |some B=>if off=0/\B.wr=true/\len*B.st=B.cells.length then
     match DC (own σ d) B.cells with
     |some (ts,ids)=>some (.ts ts len,b :: ids)
     |none=>none
    else none
   |none=>none
  |_=>none
def Own(σ:Store)(d:Nat)(v t:V)(ids:List Nat):Prop:=own σ d v=some (t,ids)/\ids.Nodup
theorem iU{f g:V->Option (V×List Nat)}:∀ {vs ts:List V} {ids:List Nat},(∀v t i,f v=some (t,i)->(∀b∈i,b∈ids)->g v=some (t,i))->DC f vs=some (ts,ids)->DC g vs=some (ts,ids)
 |[],ts,ids,_,h=>h
 |v :: vs,ts,ids,hfg,h=>by
  unfold DC at h⊢
  split at h
  .rename_i t i E j G J
   simp only[su,sZ]at h;obtain⟨rfl,rfl⟩:=h;rw[hfg v t i G (fun b hb=>zD _ hb),iU (fun v t i h hi=>hfg v t i h (fun b hb=>yw _ (hi b hb))) J]
  .cases h
theorem JJ{σ σ':Store}:∀(d:Nat) (v t:V) (ids:List Nat),own σ d v=some (t,ids)->(∀b∈ids,σ' b=σ b)->own σ' d v=some (t,ids)
 |0,v,t,ids,h,_=>by cases v<;>simp[own]at h⊢ <;>exact h
 |d+1,v,t,ids,h,hb=>by
  cases v<;>simp only[own]at h⊢ <;>try exact h
  .split at h
   .rename_i ts i e
    simp only[su,sZ]at h;obtain⟨rfl,rfl⟩:=h;rw[iU (fun v t i h hi=>JJ d v t i h fun b E=>hb b (hi b E)) e]
   .cases h
  .rename_i b off len
   split at h
   .rename_i B G
    split at h
    .rename_i hc
     split at h
     .rename_i ts i e
      simp only[su,sZ]at h;obtain⟨rfl,rfl⟩:=h;rw[hb b zM,G];simp only;rw[sS hc,iU (fun v t i h hi=>JJ d v t i h fun b E=>hb b (zY _ (hi b E))) e]
     .cases h
    .cases h
   .cases h
theorem iR{σ:Store}{f g:V->Option (V×List Nat)}(E:∀v t i,f v=some (t,i)->g v=some (t,i)):∀ {vs ts:List V} {ids:List Nat},DC f vs=some (ts,ids)->stripL g vs=some (ts,ids)
 |[],ts,ids,h=>h
 |v :: vs,ts,ids,h=>by
  unfold DC at h;unfold stripL
  split at h
  .rename_i t i G j J O
   simp only[su,sZ]at h;obtain⟨rfl,rfl⟩:=h;rw[E v t i J,iR (σ:=σ) E O]
  .cases h
theorem iL{σ:Store}:∀(d:Nat) (v t:V) (ids:List Nat),own σ d v=some (t,ids)->∀d',d<=d'->strip σ d' v=some (t,ids)
 |0,v,t,ids,h,d',_=>by
  cases v<;>simp[own]at h
  .rename_i u;obtain⟨rfl,rfl⟩:=h;exact aQ _ _ _
  .obtain⟨rfl,rfl⟩:=h;exact aT _ _
 |d+1,v,t,ids,h,d',hd=>by
  obtain⟨e,rfl⟩:∃e,d'=e+1:=⟨d'-1,by omega⟩;cases v<;>simp only[own]at h
  .simp only[su,sZ]at h;obtain⟨rfl,rfl⟩:=h;exact aQ _ _ _
  .simp only[su,sZ]at h;obtain⟨rfl,rfl⟩:=h;exact aT _ _
  .cases h
  .split at h
   .rename_i ts i E
    simp only[su,sZ]at h;obtain⟨rfl,rfl⟩:=h;rw[aW,iR (σ:=σ) (fun v t i h=>iL d v t i h e (by omega)) E];rfl
   .cases h
  .cases h
  .cases h
  .cases h
  .cases h
  .cases h
  .rename_i b off len
   split at h
   .rename_i B G
    split at h
    .rename_i hc
     split at h
     .rename_i ts i E
      simp only[su,sZ]at h;obtain⟨rfl,rfl⟩:=h;obtain⟨rfl,_,J⟩:=hc;rw[aS,G];simp only[zi];rw[sS (by omega),yY,zk (by omega),iR (σ:=σ) (fun v t i h=>iL d v t i h e (by omega)) E];rfl
     .cases h
    .cases h
   .cases h
theorem iT{f:V->Option (V×List Nat)}{g:V->Option (List Nat)}(E:∀v t i,f v=some (t,i)->g v=some i):∀ {vs ts:List V} {ids:List Nat},DC f vs=some (ts,ids)->AU g vs=some ids
 |[],ts,ids,h=>by simp only[DC,su,sZ]at h;rw[<- h.2];rfl
 |v :: vs,ts,ids,h=>by
  unfold DC at h;unfold AU
  split at h
  .rename_i t i G j J O
   simp only[su,sZ]at h;obtain⟨rfl,rfl⟩:=h;rw[E v t i J,iT E O]
  .cases h
theorem iQ{σ:Store}:∀(d:Nat) (v t:V) (ids:List Nat),own σ d v=some (t,ids)->∀d',d<=d'->gather σ d' v=some ids
 |0,v,t,ids,h,d',_=>by
  cases v<;>simp[own]at h
  .obtain⟨rfl,rfl⟩:=h;cases d'<;>rfl
  .obtain⟨rfl,rfl⟩:=h;cases d'<;>rfl
 |d+1,v,t,ids,h,d',hd=>by
  obtain⟨e,rfl⟩:∃e,d'=e+1:=⟨d'-1,by omega⟩;cases v<;>simp only[own]at h
  .simp only[su,sZ]at h;rw[<- h.2];rfl
  .simp only[su,sZ]at h;rw[<- h.2];rfl
  .cases h
  .split at h
   .rename_i ts i E
    simp only[su,sZ]at h;obtain⟨rfl,rfl⟩:=h;unfold gather;exact iT (fun v t i h=>iQ d v t i h e (by omega)) E
   .cases h
  .cases h
  .cases h
  .cases h
  .cases h
  .cases h
  .rename_i b off len
   split at h
   .rename_i B G
    split at h
    .rename_i hc
     split at h
     .rename_i ts i E
      simp only[su,sZ]at h;obtain⟨rfl,rfl⟩:=h;unfold gather;simp only[G];rw[iT (fun v t i h=>iQ d v t i h e (by omega)) E]
     .cases h
    .cases h
   .cases h
theorem Own.frame{σ σ':Store}{d:Nat}{v t:V}{ids:List Nat}(h:Own σ d v t ids)(hb:∀b∈ids,σ' b=σ b):Own σ' d v t ids:=⟨JJ d v t ids h.1 hb,h.2⟩
theorem Own.upd{σ:Store}{d:Nat}{v t:V}{ids:List Nat}{c:Nat}{x:Option E_}(hc:¬c∈ids):Own (upd σ c x) d v t ids=Own σ d v t ids:=by
 refine propext ⟨fun h=>h.frame fun b hb=>?_,fun h=>h.frame fun b hb=>?_⟩
 .exact(Zj _ _ (fun e=>hc (by rw[<- e];exact hb))).symm
 .exact Zj _ _ (fun e=>hc (by rw[<- e];exact hb))
theorem jy{n:Nat}{σ E:Store}{ids:List Nat}{b:Nat}(hn:¬b<n)(hb:b∈ids):Cb n σ E ids b=E b:=by
 unfold Cb;rw[sW hn,sS hb]
theorem jw{n:Nat}{σ E:Store}{ids:List Nat}{b:Nat}(hn:b<n):Cb n σ E ids b=σ b:=by
 unfold Cb;rw[sS hn]
theorem Own.join{n:Nat}{σ E:Store}{d:Nat}{v t:V}{ids:List Nat}(h:Own E d v t ids)(hn:∀b∈ids,n<=b):Own (Cb n σ E ids) d v t ids :=
 h.frame fun b hb=>jy (by have:=hn b hb;omega) hb
theorem Own.strip{σ:Store}{d:Nat}{v t:V}{ids:List Nat}(h:Own σ d v t ids){d':Nat}(E:d<=d'):TV.strip σ d' v=some (t,ids):=iL d v t ids h.1 d' E
theorem Own.gather{σ:Store}{d:Nat}{v t:V}{ids:List Nat}(h:Own σ d v t ids){d':Nat}(E:d<=d'):TV.gather σ d' v=some ids:=iQ d v t ids h.1 d' E
theorem QH{σ:Store}{d:Nat}:∀ {cells:List V} {xs:List Int} {ids:List Nat},DC (own σ d) cells=some (xs.flatMap cI,ids)->cells=xs.flatMap cI/\ids=[]
 |[],xs,ids,h=>by
  simp only[DC,su,sZ]at h;exact⟨h.1,h.2.symm⟩
 |v :: vs,xs,ids,h=>by
  unfold DC at h
  split at h
  .rename_i t i G j E S
   simp only[su,sZ]at h;obtain⟨O,rfl⟩:=h;cases xs with
   |nil=>cases O
   |cons x xs=>
    have J:t :: G=I x :: xs.flatMap cI:=O;obtain⟨rfl,rfl⟩:=List.cons.inj J;obtain⟨rfl,rfl⟩:=QH S;have:v=I x/\i=[]:=by
     cases d with
     |zero=>cases v<;>simp[own]at E;exact⟨by rw[E.1],E.2⟩
     |succ d=>
      cases v<;>simp only[own]at E
      .simp only[su,sZ]at E;exact⟨by rw[E.1],E.2.symm⟩
      .simp at E
      .cases E
      .split at E<;>simp at E
      .cases E
      .cases E
      .cases E
      .cases E
      .cases E
      .split at E
       .split at E
        .split at E<;>simp at E
        .cases E
       .cases E
    exact⟨by rw[this.1];rfl,by rw[this.2];rfl⟩
  .cases h
theorem WX{σ:Store}{d:Nat}{v:V}{xs:List Int}{ids:List Nat}(h:Own σ (d+1) v (LI xs) ids):(v= .nil/\xs=[]/\ids=[])\/∃b st,v= .rs b 0 xs.length/\ids=[b]/\σ b=some ⟨xs.flatMap cI,st,true⟩/\xs.length*st=xs.length:=by
 obtain⟨h,_⟩:=h;cases v<;>simp only[own]at h
 .simp at h
 .simp only[su,sZ]at h
  refine .inl ⟨rfl,?_,h.2.symm⟩;have E:=h.1;simp only[LI,V.ts.injEq]at E;exact zZ E.2.symm
 .cases h
 .split at h<;>simp at h
 .cases h
 .cases h
 .cases h
 .cases h
 .cases h
 .rename_i b off len
  split at h
  .rename_i B J
   split at h
   .rename_i hc
    obtain⟨rfl,hw,G⟩:=hc
    split at h
    .rename_i ts i O
     simp only[su,sZ,LI,V.ts.injEq]at h;obtain⟨⟨rfl,rfl⟩,rfl⟩:=h;obtain⟨E,rfl⟩:=QH O;obtain⟨cells,st,wr⟩:=B;simp only at hw G E;subst hw E;exact .inr ⟨b,st,rfl,rfl,J,by rw[G,qR]⟩
    .cases h
   .cases h
  .cases h
theorem ak_(σ:Store)(d:Nat)(xs:List Int):DC (own σ d) (xs.flatMap cI)=some (xs.flatMap cI,[]):=by
 induction xs with
 |nil=>rfl
 |cons x xs E=>
  show DC (own σ d) (I x :: xs.flatMap cI)=_;unfold DC;rw[E];cases d<;>rfl
theorem iO{σ:Store}{d b st:Nat}{xs:List Int}(h:σ b=some ⟨xs.flatMap cI,st,true⟩)(E:xs.length*st=xs.length):Own σ (d+1) (.rs b 0 xs.length) (LI xs) [b]:=by
 refine⟨?_,by simp⟩;simp only[own,h];rw[sS ⟨trivial,trivial,by rw[qR];exact E⟩,ak_]
theorem iP(σ:Store)(d:Nat):Own σ d .nil (LI []) []:=⟨by cases d<;>rfl,by simp⟩
def marks(k:Int):Nat->List Int
 |0=>[]
 |n+1=>k :: marks (k+1) n
theorem jQ(k:Int)(n:Nat):(marks k n).length=n:=by
 induction n generalizing k with
 |zero=>rfl
 |succ n E=>simp[marks,E]
theorem JK(k:Int)(n i:Nat)(h:i<(marks k n).length):(marks k n)[i]=k+i:=by
 induction n generalizing k i with
 |zero=>simp[marks]at h
 |succ n E=>
  cases i with
  |zero=>simp[marks]
  |succ i=>
   have:=E (k+1) i (by simpa[marks]using h);simp only[marks,List.getElem_cons_succ,this];omega
def KG(nx G:Nat)(σ E:Store)(ids:List Nat):Store:=wI [] nx G σ (Cb nx (restrict σ []) E ids)
theorem ak'{P:Program}{conv:FuncId->Conv}{call:Call}{d:Option Tmp}{ty:TypeId}{ps:String}{S:Array Edge}{Y:Option (Nat×Bool)}{T:Nat->V}{σ:Store}{nx:Nat}{g:FuncId}(h:conv g= .own)(args:Array Operand)(ts:Array TypeId) :
  Ag P conv call ⟨d,.call ⟨.value (.func g),args,ts⟩,ty,ps,S,Y⟩ T σ nx=(stripL (strip σ depth) (args.toList.map (val T))).bind fun p=>if(p.2.all fun b=>decide (b<nx))=true then(call g p.1 lI nx).bind fun q=>(gather q.2.1 depth q.1).map fun ids=>(q.1,KG nx q.2.2 σ q.2.1 ids,q.2.2)else none:=by
 unfold Ag;rw[mG d ty ps S Y T σ (by rw[h];exact fun e=>by cases e)];cases a0:stripL (strip σ depth) (args.toList.map (val T))with
 |none=>rfl
 |some p=>
  obtain⟨us,F⟩:=p;simp only[zG,zi]
  by_cases E:(F.all fun b=>decide (b<nx))=true
  .rw[sS E,sS E]
   have e:=LK (P:=P) (conv:=conv) (call:=call) d ty ps S Y T (restrict σ F) nx (.func g) args ts;rw[e];have G:stripL (strip (restrict σ F) depth) (args.toList.map (val T))=some (us,F) :=
    ay (fun v t i h hi=>aV _ v t i h fun b hb=>by unfold restrict;rw[sS (hi b hb)]) a0
   simp only[val,qK,zK,Wy h,G,zi];cases call g us lI nx with
   |none=>rfl
   |some q=>
    simp only[zi];cases gather q.2.1 depth q.1 with
    |none=>rfl
    |some ids=>
     simp only[zG,keeps,val,h,if_true,su,sZ,true_and,and_true];have a1:∀b∈F,b<nx:=fun b hb=>by simpa using List.all_eq_true.1 E b hb
     unfold KG;funext b;unfold wI
     by_cases J:nx<=b/\b<q.2.2
     .rw[sS (.inr J),sS (.inr J)]
      unfold Cb;simp only[sW (show ¬b<nx by omega)]
     .by_cases O:b∈F
      .rw[sS (.inl O),sW (fun e=>e.elim (fun e=>by cases e) J)]
       unfold Cb restrict;rw[sS (a1 b O),sS O]
      .rw[sW (fun e=>e.elim O J),sW (fun e=>e.elim (fun e=>by cases e) J)]
  .rw[sW E,sW E]
theorem as4{conv:FuncId->Conv}{d:Option Tmp}{ty:TypeId}{ps:String}{E:Array Edge}{G:Option (Nat×Bool)}{g:FuncId}(h:conv g= .own)(args:Array Operand)(ts:Array TypeId):writer conv ⟨d,.call ⟨.value (.func g),args,ts⟩,ty,ps,E,G⟩=false:=by unfold writer;simp only[h]
theorem ahs{conv:FuncId->Conv}{d:Option Tmp}{ty:TypeId}{ps:String}{E:Array Edge}{G:Option (Nat×Bool)}{T:Nat->V}{σ:Store}{g:FuncId}(h:conv g= .own)(args:Array Operand)(ts:Array TypeId):Aa conv T σ ⟨d,.call ⟨.value (.func g),args,ts⟩,ty,ps,E,G⟩=((stripL (strip σ depth) (args.toList.map (val T))).map (·.2)).getD []:=by
 unfold Aa;rw[mG d ty ps E G T σ (by rw[h];exact fun e=>by cases e)]
theorem anj{nx G:Nat}{σ E:Store}{ids:List Nat}{b:Nat}(J:nx<=b)(O:b<G)(hb:b∈ids):KG nx G σ E ids b=E b:=by
 unfold KG wI;rw[sS (.inr ⟨J,O⟩),jy (by omega) hb]
theorem as5{nx G:Nat}{σ E:Store}{ids:List Nat}{b:Nat}(h:b<nx):KG nx G σ E ids b=σ b:=by
 unfold KG wI;rw[sW (by simp;omega)]
theorem Own.draw{nx G:Nat}{σ E:Store}{d:Nat}{v t:V}{ids:List Nat}(h:Own E d v t ids)(hn:∀b∈ids,nx<=b/\b<G):Own (KG nx G σ E ids) d v t ids :=
 h.frame fun b hb=>anj (hn b hb).1 (hn b hb).2 hb
theorem QI(σ:Store)(d:Nat)(u:Value):gather σ d (.sc u)=some []:=by cases d<;>rfl
theorem aa0(σ:Store)(d:Nat):gather σ d .nil=some []:=by cases d<;>rfl
theorem aa1(σ:Store)(d:Nat)(vs:List V):gather σ (d+1) (.agg vs)=AU (gather σ d) vs:=rfl
theorem aa2(σ:Store)(d:Nat)(vs:List V):gather σ (d+1) (.AP vs)=AU (gather σ d) vs:=rfl
theorem WY(f:V->Option (List Nat)):AU f []=some []:=rfl
theorem Iw(f:V->Option (List Nat))(v:V)(vs:List V):AU f (v :: vs)=(f v).bind fun i=>(AU f vs).map fun j=>i++j:=by
 show(match f v,AU f vs with|some i,some j=>some (i++j)|_,_=>none)=_;cases f v<;>cases AU f vs<;>rfl
attribute [go_sem] ak' as4 ahs QI aa0 aa1 aa2 WY Iw Wy
theorem Own.cell{σ:Store}{d:Nat}{v:V}{xs:List Int}{ids:List Nat}(h:Own σ (d+1) v (LI xs) ids):pI v=true:=by
 rcases WX h with ⟨rfl,_⟩|⟨b,st,rfl,_⟩<;>rfl
theorem qA{v:V}(h:pI v=true):cellsOfV v=some [v]:=by cases v<;>simp_all [cellsOfV,pI]
end Go.TV
namespace Go.Proofs.YtehdaknhabeiaaaGreat
open Go Go.TV
def zI:FuncId->Conv:=fun f=>if f∈([901656,901202,901679,900998,901199,166,194,901658,63,58,81]:List Nat)then .own else if f∈([25,901525,901247,17,51,12,40,74,75,18,52,91,92,901929,59,901558,60,24]:List Nat)then .inl else .Jo
abbrev aeN:List Nat:=[901656,901202,901679,900998,901199,166,194,901658,63,58,25,901525,901247,17,51,12,40,74,75,18,52,91,92,901929,59,901558,60,24,902340,901886,902363,902342]
noncomputable def Bl:Ext:=fun f=>if f=81 then some Fv else if f∈aeN then none else some fun args σ nx=>ev ZH conv ext f args σ nx
theorem aoE:Ky ZH Bl:=fun f g h args σ nx v σ' nx' E=>by
 unfold Bl at h
 split at h
 .rename_i G
  subst G;cases h;exact pY args σ nx v σ' nx' E
 .split at h
  .cases h
  .cases h
   exact nC (by kernel_rfl) ag6 f args σ nx v σ' nx' E
theorem fnM{f:FuncId}(h:List.contains (81 :: aeN) f=false)(ts:List V):fn ZH zI Bl f ts=fn ZH conv ext f ts:=by
 have hc:¬f=81:=fun e=>by subst e;simp at h
 have E:¬f∈aeN:=fun e=>by
  rw[tN,uM]at h;rw[List.contains_iff_mem.mpr e]at h;cases h.2
 rw[mM,mM,nD (g:=fun args σ nx=>ev ZH conv ext f args σ nx) (by unfold Bl;rw[sW hc,sW E])]
theorem cvM{f:FuncId}(h:List.contains (81 :: aeN) f=false):zI f= .Jo:=by
 have hc:¬f=81:=fun e=>by subst e;simp at h
 have E:¬f∈aeN:=fun e=>by
  rw[tN,uM]at h;rw[List.contains_iff_mem.mpr e]at h;cases h.2
 unfold zI;simp only[aeN,zX,zH,or_false,not_or]at E;rw[sW (by simp only[zX,zH,or_false,not_or];simp only[E,hc,not_false_eq_true,and_self]),sW (by simp only[zX,zH,or_false,not_or];simp only[E,not_false_eq_true,and_self])]
theorem ala:zI 901656= .own:=id rfl
theorem alb:zI 901202= .own:=id rfl
theorem alc:zI 901679= .own:=id rfl
theorem ald:zI 900998= .own:=id rfl
theorem ale:zI 901199= .own:=id rfl
theorem alf:zI 166= .own:=id rfl
theorem alg:zI 194= .own:=id rfl
theorem alh:zI 901658= .own:=id rfl
theorem ali:zI 63= .own:=id rfl
theorem alj:zI 58= .own:=id rfl
theorem aht:zI 25= .inl:=id rfl
theorem alk:zI 901525= .inl:=id rfl
theorem alm:zI 901247= .inl:=id rfl
theorem aln:zI 17= .inl:=id rfl
theorem alo:zI 51= .inl:=id rfl
theorem alp:zI 12= .inl:=id rfl
theorem alq:zI 40= .inl:=id rfl
theorem alr:zI 74= .inl:=id rfl
theorem als:zI 75= .inl:=id rfl
theorem alu:zI 18= .inl:=id rfl
theorem alv:zI 52= .inl:=id rfl
theorem alx:zI 91= .inl:=id rfl
theorem aly:zI 92= .inl:=id rfl
theorem alz:zI 901929= .inl:=id rfl
theorem alA:zI 59= .inl:=id rfl
theorem alC:zI 901558= .inl:=id rfl
theorem alD:zI 60= .inl:=id rfl
theorem alE:zI 24= .inl:=id rfl
theorem alF:zI 81= .own:=id rfl
attribute [go_sem] cvM ala alb alc ald ale alf alg alF aht alk alm alh ali alj aln alo alp alq alr als alu alv alx aly alz alA alC alD alE fnM
theorem ahu{k:Int}{xs:List Int}{n i:Nat}(hn:n=xs.length)(hi:i<n):((marks k i++xs.drop i).flatMap cI).set i (I (k+i))=(marks k (i+1)++xs.drop (i+1)).flatMap cI:=by
 rw[qQ,yC _ _ (by rw[jQ];exact zq _),jQ,yP,yU (by omega),vg];have:marks k (i+1)=marks k i++[k+i]:=by
  refine yS (by simp[jQ]) fun j E J=>?_
  rw[JK];rw[jQ]at E
  by_cases G:j<i
  .rw[yG (by rw[jQ];exact G),JK]
  .have:j=i:=by omega
   subst this;rw[wO (by rw[jQ];exact zq _)];simp[jQ]
 rw[this,z_];rfl
theorem Iy{σ:Store}{nx:Nat}{v:V}{xs:List Int}{ids:List Nat}(ho:Own σ 1 v (LI xs) ids)(hl:xs.length<=1000000000000)(k:Int)(hk:0<=k/\k<=10000000000000000) :
  ∃σ',ev ZH zI Bl 25 [v,I k] σ nx=some (I (k+xs.length),σ',nx)/\Own σ' 1 v (LI (marks k xs.length)) ids/\∀b,¬b∈ids->σ' b=σ b:=by
 rw[nG [.tmp 4] [] func25];rcases WX ho with ⟨rfl,rfl,rfl⟩|⟨b,st,rfl,rfl,hb,S⟩
 .simp only[go_sem]
  rw[nY];have f0:¬(0:Int)<0:=by decide
  simp only[go_sem,f0];exact⟨σ,by simp,iP _ _,fun _ _=>rfl⟩
 .simp only[go_sem]
  generalize Y:dI _ _=y;obtain⟨r,rfl,T',σ',rfl,E,h2,h3⟩:=pF Y xs.length (fun i s=>s.nx=nx/\s.T 0= .rs b 0 xs.length/\s.T 1=I (k+i)/\s.T 5=I i/\s.σ b=some ⟨(marks k i++xs.drop i).flatMap cI,st,true⟩/\∀c,¬c=b->s.σ c=σ c)
   (fun r=>∃T σ',r=(.exit 0,⟨T,σ',nx⟩)/\T 1=I (k+xs.length)/\σ' b=some ⟨(marks k xs.length).flatMap cI,st,true⟩/\∀c,¬c=b->σ' c=σ c) (by
    clear Y;rintro i ⟨T,τ,m⟩ a0 ⟨hn,G,E,J,hs,O⟩;simp only at hn G E J hs O;subst hn;have f1:(i:Int)<(xs.length:Int):=by omega
    have f2:=jD i;have f3:=ZQ (n:=(i:Int)+1);have f4:=ZQ (n:=k+(i:Int)+1);have c5:i<(marks k i++xs.drop i).length:=by rw[zo,jQ,zN];omega
    have c6:=ahu (k:=k) (xs:=xs) rfl a0;refine .inl ⟨_,by simp only[go_sem,G,E,J,hs,f1,f2,f3,f4,c5,c6];rfl,?_⟩;simp only[go_sem,G];refine⟨by rw[show k+(i:Int)+1=k+((i+1:Nat):Int) by omega],rfl,fun c hc=>?_⟩;rw[Zj _ _ hc];exact O c hc) (by
    clear Y;rintro ⟨T,τ,m⟩ ⟨hn,G,E,J,hs,O⟩;simp only at hn G E J hs O;subst hn;refine⟨_,by simp only[go_sem,G,J,zl];rfl,by simp,_,_,rfl,by simp only[go_sem,E],?_,O⟩;rw[hs,List.drop_length,zK]) (by
    simp only[go_sem];exact⟨by simp,by rw[hb];rfl,fun _ _=>trivial⟩)
  simp only[go_sem,E];refine⟨_,rfl,?_,fun c hc=>h3 c (by simpa using hc)⟩;have:=iO (σ:=σ') (d:=0) (b:=b) (st:=st) (xs:=marks k xs.length) h2 (by rw[jQ];exact S)
  rwa [jQ]at this
theorem Nz(k:Int)(n:Nat)(hk:0<=k/\k<=1000000000000)(hn:n<=1000000000000):fn ZH conv ext 26 [LI (marks k n),I k]=some (I (k+n)):=by
 rw[mM,nG [.tmp 4] [] func26];simp only[go_sem];generalize hL:dI _ _=y;have a0:=jQ k n;obtain⟨r,rfl,T',rfl,O⟩:=pF hL n (fun i s=>s.nx=0/\s.σ=lI/\s.T 0=LI (marks k n)/\s.T 1=I (k+i)/\s.T 5=I i)
  (fun r=>∃T,r=(.exit 0,⟨T,lI,0⟩)/\T 1=I (k+n)) (by
   clear hL;rintro i ⟨T,τ,m⟩ a1 ⟨E,G,S,O,Y⟩;simp only at E G S O Y;subst E G;have J:i<(marks k n).length:=by omega
   have f1:(i:Int)<((marks k n).length:Int):=by omega
   have f2:=jD i;have f3:=ZQ (n:=(i:Int)+1);have f4:=ZQ (n:=k+(i:Int)+1);have f5:=AZ (marks k n) i J;have f6:=idx J;rw[JK]at f6;refine .inl ⟨_,by simp only[go_sem,S,O,Y,f1,f2,f3,f4,f5,f6];rfl,?_⟩;simp only[go_sem,S];exact⟨by rw[show k+(i:Int)+1=k+((i+1:Nat):Int) by omega],rfl⟩) (by
   clear hL;rintro ⟨T,τ,m⟩ ⟨E,G,S,O,Y⟩;simp only at E G S O Y;subst E G;have f1:¬(n:Int)<((marks k n).length:Int):=by omega
   exact⟨_,by simp only[go_sem,S,Y,f1];rfl,by simp,_,rfl,by simp only[go_sem,O]⟩) (by
   simp only[go_sem];simp)
 simp only[go_sem,O]
theorem ahv(xs:List TV.Move)(h:okL 16 okMove xs)(BJ:Store)(n:Nat):ev ZH zI Bl 52 [LL cMove xs] BJ n=some (.rs n 0 xs.length,upd BJ n (some ⟨xs.flatMap cMove,2,true⟩),n+1):=by
 have e1:(16:Int)*xs.length<=281474976710656:=by have:=h.2.1;omega
 have e2:(xs.length:Int)<=9223372036854775807:=by have:=h.2.1;omega
 have e3:(0:Int)<=(xs.length:Int):=by omega
 rw[nG [.tmp 2] [] func52];simp only[go_sem,e1,e2,e3,yD];generalize Y:dI _ _=y;obtain⟨r,rfl,T',σ',rfl,a0,hs⟩:=pF Y xs.length (fun k st=>st.nx=n+1/\st.σ=upd BJ n (some ⟨mix cMove ag8 xs xs.length k,2,true⟩)/\st.T 0=LL cMove xs/\st.T 3= .rs n 0 xs.length/\st.T 4=I k)
  (fun r=>∃T σ,r=(.exit 0,⟨T,σ,n+1⟩)/\T 3= .rs n 0 xs.length/\σ=upd BJ n (some ⟨xs.flatMap cMove,2,true⟩)) (by
   clear Y;rintro k ⟨T,σ,nx⟩ G ⟨hn,E,J,O,S⟩;simp only at hn E J O S;subst hn E;have f1:(k:Int)<(xs.length:Int):=by omega
   have f2:=jD k;have f3:=ZQ (n:=(k:Int)+1);have f4:=PG xs k G;have f5:=Gx xs;have f6:k*2+2<=xs.length*2:=by omega
   have f7:=jH (c:=cMove) (s:=2) (fun _=>rfl) (z:=ag8) rfl xs k (by omega);have f8:=jG (c:=cMove) (s:=2) (fun _=>rfl) (z:=ag8) rfl xs k G;have f9:=PI xs k G;have a1:fn ZH conv ext 86 [.agg (cMove xs[k])]=some (.agg (cMove xs[k])):=by
    have hx:=h.1 xs[k] (zu G)
    revert hx
    generalize xs[k]=x;intro hx;exact aoq x
   refine .inl ⟨_,by simp only[go_sem,J,O,S,f1,f2,f3,f4,f5,f6,f7,f8,f9,a1];rfl,?_⟩;simp only[go_sem,J,O];rfl) (by
   clear Y;rintro ⟨T,σ,nx⟩ ⟨hn,E,J,O,S⟩;simp only at hn E J O S;subst hn E;refine⟨_,by simp only[go_sem,J,S,zl];rfl,by simp,_,_,rfl,?_,?_⟩
   .simp only[go_sem,O]
   .rw[jJ]) (by
   (simp only[go_sem,<- jF])<;>trivial)
 simp only[go_sem,a0,hs]
theorem aeO(xs:List Joint)(h:okL 40 okJoint xs)(BJ:Store)(n:Nat):ev ZH zI Bl 74 [LL cJoint xs] BJ n=some (.rs n 0 xs.length,upd BJ n (some ⟨xs.flatMap cJoint,4,true⟩),n+1):=by
 have e1:(40:Int)*xs.length<=281474976710656:=by have:=h.2.1;omega
 have e2:(xs.length:Int)<=9223372036854775807:=by have:=h.2.1;omega
 have e3:(0:Int)<=(xs.length:Int):=by omega
 rw[nG [.tmp 2] [] func74];simp only[go_sem,e1,e2,e3,yD];generalize Y:dI _ _=y;obtain⟨r,rfl,T',σ',rfl,a0,hs⟩:=pF Y xs.length (fun k st=>st.nx=n+1/\st.σ=upd BJ n (some ⟨mix cJoint aaM xs xs.length k,4,true⟩)/\st.T 0=LL cJoint xs/\st.T 3= .rs n 0 xs.length/\st.T 4=I k)
  (fun r=>∃T σ,r=(.exit 0,⟨T,σ,n+1⟩)/\T 3= .rs n 0 xs.length/\σ=upd BJ n (some ⟨xs.flatMap cJoint,4,true⟩)) (by
   clear Y;rintro k ⟨T,σ,nx⟩ G ⟨hn,E,J,O,S⟩;simp only at hn E J O S;subst hn E;have f1:(k:Int)<(xs.length:Int):=by omega
   have f2:=jD k;have f3:=ZQ (n:=(k:Int)+1);have f4:=Hr xs k G;have f5:=EN xs;have f6:k*4+4<=xs.length*4:=by omega
   have f7:=jH (c:=cJoint) (s:=4) (fun _=>rfl) (z:=aaM) rfl xs k (by omega);have f8:=jG (c:=cJoint) (s:=4) (fun _=>rfl) (z:=aaM) rfl xs k G;have f9:=JD xs k G;have a1:fn ZH conv ext 99 [.agg (cJoint xs[k])]=some (.agg (cJoint xs[k])):=by
    have hx:=h.1 xs[k] (zu G)
    revert hx
    generalize xs[k]=x;intro hx;exact akS x
   refine .inl ⟨_,by simp only[go_sem,J,O,S,f1,f2,f3,f4,f5,f6,f7,f8,f9,a1];rfl,?_⟩;simp only[go_sem,J,O];rfl) (by
   clear Y;rintro ⟨T,σ,nx⟩ ⟨hn,E,J,O,S⟩;simp only at hn E J O S;subst hn E;refine⟨_,by simp only[go_sem,J,S,zl];rfl,by simp,_,_,rfl,?_,?_⟩
   .simp only[go_sem,O]
   .rw[jJ]) (by
   (simp only[go_sem,<- jF])<;>trivial)
 simp only[go_sem,a0,hs]
theorem aa3(xs:List Member)(h:okL 24 okMember xs)(BJ:Store)(n:Nat):ev ZH zI Bl 75 [LL cMember xs] BJ n=some (.rs n 0 xs.length,upd BJ n (some ⟨xs.flatMap cMember,3,true⟩),n+1):=by
 have e1:(24:Int)*xs.length<=281474976710656:=by have:=h.2.1;omega
 have e2:(xs.length:Int)<=9223372036854775807:=by have:=h.2.1;omega
 have e3:(0:Int)<=(xs.length:Int):=by omega
 rw[nG [.tmp 2] [] func75];simp only[go_sem,e1,e2,e3,yD];generalize Y:dI _ _=y;obtain⟨r,rfl,T',σ',rfl,a0,hs⟩:=pF Y xs.length (fun k st=>st.nx=n+1/\st.σ=upd BJ n (some ⟨mix cMember Tc xs xs.length k,3,true⟩)/\st.T 0=LL cMember xs/\st.T 3= .rs n 0 xs.length/\st.T 4=I k)
  (fun r=>∃T σ,r=(.exit 0,⟨T,σ,n+1⟩)/\T 3= .rs n 0 xs.length/\σ=upd BJ n (some ⟨xs.flatMap cMember,3,true⟩)) (by
   clear Y;rintro k ⟨T,σ,nx⟩ G ⟨hn,E,J,O,S⟩;simp only at hn E J O S;subst hn E;have f1:(k:Int)<(xs.length:Int):=by omega
   have f2:=jD k;have f3:=ZQ (n:=(k:Int)+1);have f4:=Lc xs k G;have f5:=Gg xs;have f6:k*3+3<=xs.length*3:=by omega
   have f7:=jH (c:=cMember) (s:=3) (fun _=>rfl) (z:=Tc) rfl xs k (by omega);have f8:=jG (c:=cMember) (s:=3) (fun _=>rfl) (z:=Tc) rfl xs k G;have f9:=Lh xs k G;have a1:fn ZH conv ext 100 [.agg (cMember xs[k])]=some (.agg (cMember xs[k])):=by
    have hx:=h.1 xs[k] (zu G)
    revert hx
    generalize xs[k]=x;intro hx;exact ag7 x
   refine .inl ⟨_,by simp only[go_sem,J,O,S,f1,f2,f3,f4,f5,f6,f7,f8,f9,a1];rfl,?_⟩;simp only[go_sem,J,O];rfl) (by
   clear Y;rintro ⟨T,σ,nx⟩ ⟨hn,E,J,O,S⟩;simp only at hn E J O S;subst hn E;refine⟨_,by simp only[go_sem,J,S,zl];rfl,by simp,_,_,rfl,?_,?_⟩
   .simp only[go_sem,O]
   .rw[jJ]) (by
   (simp only[go_sem,<- jF])<;>trivial)
 simp only[go_sem,a0,hs]
theorem acs(xs:List Int)(h:okL 8 okI xs)(BJ:Store)(n:Nat):ev ZH zI Bl 18 [LI xs] BJ n=some (.rs n 0 xs.length,upd BJ n (some ⟨xs.flatMap cI,1,true⟩),n+1):=by
 have e1:(8:Int)*xs.length<=281474976710656:=by have:=h.2.1;omega
 have e2:(xs.length:Int)<=9223372036854775807:=by have:=h.2.1;omega
 have e3:(0:Int)<=(xs.length:Int):=by omega
 rw[nG [.tmp 2] [] func18];simp only[go_sem,e1,e2,e3,yD];generalize Y:dI _ _=y;obtain⟨r,rfl,T',σ',rfl,a0,hs⟩:=pF Y xs.length (fun k st=>st.nx=n+1/\st.σ=upd BJ n (some ⟨mix cI [I 0] xs xs.length k,1,true⟩)/\st.T 0=LI xs/\st.T 3= .rs n 0 xs.length/\st.T 4=I k)
  (fun r=>∃T σ,r=(.exit 0,⟨T,σ,n+1⟩)/\T 3= .rs n 0 xs.length/\σ=upd BJ n (some ⟨xs.flatMap cI,1,true⟩)) (by
   clear Y;rintro k ⟨T,σ,nx⟩ G ⟨hn,E,J,O,S⟩;simp only at hn E J O S;subst hn E;have f1:(k:Int)<(xs.length:Int):=by omega
   have f2:=jD k;have f3:=ZQ (n:=(k:Int)+1);have f4:(xs.flatMap cI)[k]?=some (I xs[k]):=cu I xs k G;have f7:=jH (c:=cI) (s:=1) (fun _=>rfl) (z:=[I 0]) rfl xs k (by omega);have f8:(mix cI [I 0] xs xs.length k).set k (I xs[k])=mix cI [I 0] xs xs.length (k+1):=akJ (c:=I) xs k G;have f9:=AZ xs k G;refine .inl ⟨_,by simp only[go_sem,J,O,S,f1,f2,f3,f4,f7,f8,f9,G];rfl,?_⟩;simp only[go_sem,J,O];rfl) (by
   clear Y;rintro ⟨T,σ,nx⟩ ⟨hn,E,J,O,S⟩;simp only at hn E J O S;subst hn E;refine⟨_,by simp only[go_sem,J,S,zl];rfl,by simp,_,_,rfl,?_,?_⟩
   .simp only[go_sem,O]
   .rw[jJ]) (by
   (simp only[go_sem,<- jF])<;>trivial)
 simp only[go_sem,a0,hs]
structure as6 (σ:Store) (b:Nat) (s:Structure):Prop where
 j:σ b=some ⟨s.joints.flatMap cJoint,4,true⟩
 m:σ (b+1)=some ⟨s.members.flatMap cMember,3,true⟩
def as7(b:Nat)(s:Structure):List V:=[.rs b 0 s.joints.length,.rs (b+1) 0 s.members.length]
theorem TF(s:Structure)(h:okStructure s)(BJ:Store)(n:Nat):∃σ,ev ZH zI Bl 40 [.agg (cStructure s)] BJ n=some (.agg (as7 (n+3) s),σ,n+5)/\as6 σ (n+3) s/\∀b,b<n->σ b=BJ b:=by
 have E:=fun σ n=>aeO _ h.1 σ n
 have G:=fun σ n=>aa3 _ h.2 σ n
 have J:¬n=n+1:=by omega
 have O:¬n=n+1+1:=by omega
 have S:¬n+1=n+1+1:=by omega
 have Y:¬n=n+1+1+1:=by omega
 have e5:¬n+1=n+1+1+1:=by omega
 have e6:¬n+1+1=n+1+1+1:=by omega
 have e7:¬n=n+1+1+1+1:=by omega
 have e8:¬n+1=n+1+1+1+1:=by omega
 have e9:¬n+1+1=n+1+1+1+1:=by omega
 rw[nG [.cell 2 34] [] func40];simp only[go_sem,qJ,E,G,J,O,S,Y,e5,e6,e7,e8,e9];refine⟨_,rfl,⟨?_,?_⟩,fun b hb=>?_⟩
 .simp[upd]
 .simp[upd]
 .simp only[upd]
  repeat' rw[sW (by omega)]
structure Gz (σ:Store) (b:Nat) (s:Stance):Prop where
 j:σ b=some ⟨s.st.joints.flatMap cJoint,4,true⟩
 m:σ (b+1)=some ⟨s.st.members.flatMap cMember,3,true⟩
 l:σ (b+2)=some ⟨s.load.flatMap cI,1,true⟩
 x:σ (b+3)=some ⟨s.limits.flatMap cI,1,true⟩
abbrev PO(b:Nat)(s:Stance):List V:=[Sg s.name,.rs b 0 s.st.joints.length,.rs (b+1) 0 s.st.members.length,.rs (b+2) 0 s.load.length,.rs (b+3) 0 s.limits.length]
theorem Gz.frame{σ σ':Store}{b:Nat}{s:Stance}(h:Gz σ b s)(hs:∀c,b<=c->c<b+4->σ' c=σ c):Gz σ' b s :=
 ⟨by rw[hs _ (by omega) (by omega)];exact h.j,by rw[hs _ (by omega) (by omega)];exact h.m,by rw[hs _ (by omega) (by omega)];exact h.l,by rw[hs _ (by omega) (by omega)];exact h.x⟩
theorem aeP(s:Stance)(h:okStance s)(BJ:Store)(n:Nat):∃σ,ev ZH zI Bl 12 [.agg (cStance s)] BJ n=some (.agg (PO (n+6) s),σ,n+10)/\Gz σ (n+6) s/\∀b,b<n->σ b=BJ b:=by
 have h1:=TF _ h.2.1;have h2:=fun σ n=>acs _ h.2.2.1 σ n
 have h3:=fun σ n=>acs _ h.2.2.2 σ n
 have S:¬n=n+1:=by omega
 have Y:¬n=n+1+1:=by omega
 have e3:¬n+1=n+1+1:=by omega
 have e4:¬n+1=n+8:=by omega
 have e5:¬n+1+1=n+8:=by omega
 have e6:¬n=n+8:=by omega
 have e7:¬n=n+9:=by omega
 have e8:¬n+1=n+9:=by omega
 have e9:¬n+1+1=n+9:=by omega
 obtain⟨E,hs⟩:∃E,E=upd (upd (upd BJ n (some ⟨cStance s,0,true⟩)) (n+1) (some ⟨FY,0,true⟩)) (n+1+1) (some ⟨[Sg s.name,.nil,.nil,.nil,.nil],0,true⟩):=⟨_,rfl⟩;obtain⟨σ2,J,O,G⟩:=h1 E (n+1+1+1);have q0:E n=some ⟨cStance s,0,true⟩:=by rw[hs];simp[upd,S,Y]
 have q1:E (n+1)=some ⟨FY,0,true⟩:=by rw[hs];simp[upd,e3]
 have q2:E (n+1+1)=some ⟨[Sg s.name,.nil,.nil,.nil,.nil],0,true⟩:=by rw[hs];simp[upd]
 have g0:σ2 n=some ⟨cStance s,0,true⟩:=by rw[G n (by omega),q0]
 have g1:σ2 (n+1)=some ⟨FY,0,true⟩:=by rw[G (n+1) (by omega),q1]
 have g2:σ2 (n+1+1)=some ⟨[Sg s.name,.nil,.nil,.nil,.nil],0,true⟩:=by rw[G (n+1+1) (by omega),q2]
 have n1:n+1+1+1+5=n+8:=rfl;have n2:n+1+1+1+3=n+6:=rfl;rw[n1,n2]at J;rw[n2]at O;unfold as7 at J;rw[nG [.cell 2 36] [] func12];simp only[go_sem,qJ,S,Y,e3,e4,e5,e6,e7,e8,e9,<- hs,J,h2,h3,g0,g1,g2,q0,q1,q2];refine⟨_,rfl,⟨?_,?_,?_,?_⟩,fun b hb=>?_⟩
 .simp only[upd]
  repeat' rw[sW (by omega)]
  exact O.j
 .simp only[upd]
  repeat' rw[sW (by omega)]
  exact O.m
 .simp[upd]
 .simp[upd]
 .simp only[upd]
  repeat' rw[sW (by omega)]
  rw[G b (by omega),hs];simp only[upd]
  repeat' rw[sW (by omega)]
abbrev Lm(n:Nat):Stance×Nat->List V:=fun p=>PO (n+7+10*p.2) p.1
structure GH (σ:Store) (n:Nat) (xs:List Stance):Prop where
 b:σ n=some ⟨xs.zipIdx.flatMap (Lm n),5,true⟩
 s:∀j (h:j<xs.length),Gz σ (n+7+10*j) xs[j]
theorem aa4(xs:List Stance)(h:okL 112 okStance xs)(BJ:Store)(n:Nat):∃σ,ev ZH zI Bl 51 [LL cStance xs] BJ n=some (.rs n 0 xs.length,σ,n+1+10*xs.length)/\GH σ n xs/\∀b,b<n->σ b=BJ b:=by
 have e1:(112:Int)*xs.length<=281474976710656:=by have:=h.2.1;omega
 have e2:(xs.length:Int)<=9223372036854775807:=by have:=h.2.1;omega
 have e3:(0:Int)<=(xs.length:Int):=by omega
 have hz:xs.zipIdx.length=xs.length:=List.length_zipIdx;rw[nG [.tmp 2] [] func51];simp only[go_sem,e1,e2,e3,yD];generalize hL:dI _ _=y;obtain⟨r,rfl,T',σ',rfl,a0,hs,hf,E⟩:=pF hL xs.length (fun k st=>st.nx=n+1+10*k/\(st.σ n=some ⟨mix (Lm n) FY xs.zipIdx xs.zipIdx.length k,5,true⟩/\(∀j (h:j<xs.length),j<k->Gz st.σ (n+7+10*j) xs[j])/\∀b,b<n->st.σ b=BJ b)/\st.T 0=LL cStance xs/\st.T 3= .rs n 0 xs.length/\st.T 4=I k)
  (fun r=>∃T σ,r=(.exit 0,⟨T,σ,n+1+10*xs.length⟩)/\T 3= .rs n 0 xs.length/\σ n=some ⟨xs.zipIdx.flatMap (Lm n),5,true⟩/\(∀b,b<n->σ b=BJ b)/\∀j (h:j<xs.length),Gz σ (n+7+10*j) xs[j]) (by
   clear hL;rintro k ⟨T,σ,nx⟩ O ⟨hn,⟨G,E,J⟩,Y,h3,h4⟩;simp only at hn G E J Y h3 h4;subst hn;have f1:(k:Int)<(xs.length:Int):=by omega
   have f2:=jD k;have f3:=ZQ (n:=(k:Int)+1);have f4:=Td xs k O;have f5:=Il xs;have f6:k*5+5<=xs.length*5:=by omega
   have f7:(mix (Lm n) FY xs.zipIdx xs.zipIdx.length k).length=xs.length*5:=by rw[jH (c:=Lm n) (s:=5) (fun _=>rfl) (z:=FY) rfl xs.zipIdx k (by omega),hz]
   have f8:=jG (c:=Lm n) (s:=5) (fun _=>rfl) (z:=FY) rfl xs.zipIdx k (by omega);have f9:=Tf xs k O;have fz:Lm n (xs.zipIdx[k]'(by omega))=PO (n+1+10*k+6) xs[k]:=by
    rw[List.getElem_zipIdx,yX,show n+1+10*k+6=n+7+10*k by omega]
   rw[fz]at f8;obtain⟨σ2,k1,s1,S⟩:=aeP xs[k] (h.1 xs[k] (zu O)) σ (n+1+10*k);have g0:=S n (by omega);rw[G]at g0;refine .inl ⟨_,by simp only[go_sem,qJ,Y,h3,h4,f1,f2,f3,f4,f5,f6,f7,f8,f9,k1,g0];rfl,?_⟩;simp only[go_sem,Y,h3];refine⟨by omega,⟨fun j hj a2=>?_,fun b hb=>?_⟩,rfl⟩
   .by_cases a1:j<k
    .refine(E j hj a1).frame fun c h1 h2=>?_
     rw[Zk,S c (by omega)]
    .have:j=k:=by omega
     subst this;rw[show n+1+10*j+6=n+7+10*j by omega]at s1;refine s1.frame fun c h1 h2=>?_
     rw[Zk]
   .rw[Zk,S b (by omega),J b hb]) (by
   clear hL;rintro ⟨T,σ,nx⟩ ⟨hn,⟨G,E,J⟩,Y,h3,h4⟩;simp only at hn G E J Y h3 h4;subst hn;refine⟨_,by simp only[go_sem,Y,h4,zl];rfl,by simp,_,_,rfl,?_,?_,J,fun j hj=>E j hj hj⟩
   .simp only[go_sem,h3]
   .rw[G,<- hz,jJ]) (by
   simp only[go_sem,hz];refine⟨by rw[<- jF],fun j _ hj=>absurd hj (zW j),fun b hb=>?_⟩;rw[Zk])
 simp only[go_sem,a0];exact⟨_,rfl,⟨hs,E⟩,hf⟩
theorem acu(f:V->Option (V×List Nat))(E:∀u,f (.sc u)=some (.sc u,[])):∀cells:List V,(∀v∈cells,∃u,v= .sc u)->DC f cells=some (cells,[])
 |[],_=>rfl
 |v :: vs,h=>by
  obtain⟨u,rfl⟩:=h v zM;unfold DC;rw[E,acu f E vs fun w hw=>h w (zY _ hw)];rfl
theorem aa5(σ:Store)(d:Nat)(u:Value):own σ d (.sc u)=some (.sc u,[]):=by cases d<;>rfl
theorem ahw{f:V->Option (V×List Nat)}{a b E J:List V}{G O:List Nat}(ha:DC f a=some (E,G))(hb:DC f b=some (J,O)):DC f (a++b)=some (E++J,G++O):=by
 induction a generalizing E G with
 |nil=>simp only[DC,su,sZ]at ha;obtain⟨rfl,rfl⟩:=ha;exact hb
 |cons v a S=>
  unfold DC at ha
  split at ha
  .rename_i t i Y j e1 e2
   simp only[su,sZ]at ha;obtain⟨rfl,rfl⟩:=ha;rw[yT];unfold DC;rw[e1,S e2];simp
  .cases ha
theorem QJ{α:Type}{f:V->Option (V×List Nat)}{c c':α->List V}{g:α->List Nat}:∀ {E:List α},(∀y∈E,DC f (c y)=some (c' y,g y))->DC f (E.flatMap c)=some (E.flatMap c',E.flatMap g)
 |[],_=>rfl
 |y :: E,h=>by
  rw[zT,zT,zT];exact ahw (h y zM) (QJ fun z G=>h z (zY _ G))
theorem ahx{σ:Store}{d b n s:Nat}{cells ts:List V}{ids:List Nat}(h:σ b=some ⟨cells,s,true⟩)(E:n*s=cells.length)(G:DC (own σ d) cells=some (ts,ids)):own σ (d+1) (.rs b 0 n)=some (.ts ts n,b :: ids):=by
 simp only[own,h];rw[sS ⟨trivial,trivial,E⟩,G]
theorem iM{α:Type}{σ:Store}{d b s:Nat}{c:α->List V}{xs:List α}(h:σ b=some ⟨xs.flatMap c,s,true⟩)(hc:∀x,(c x).length=s)(hs:∀x,∀v∈c x,∃u,v= .sc u):own σ (d+1) (.rs b 0 xs.length)=some (LL c xs,[b]) :=
 ahx h (bZ hc xs).symm (acu _ (aa5 σ d) _ fun v E=>by obtain⟨x,_,G⟩:=List.mem_flatMap.mp E;exact hs x v G)
theorem ahy:∀x:Joint,∀v∈cJoint x,∃u,v= .sc u:=by intro x v E;simp only[zX,zH,or_false]at E;rcases E with rfl|rfl|rfl|rfl<;>exact⟨_,rfl⟩
theorem aeQ:∀x:Member,∀v∈cMember x,∃u,v= .sc u:=by intro x v E;simp only[zX,zH,or_false]at E;rcases E with rfl|rfl|rfl<;>exact⟨_,rfl⟩
theorem alG:∀x:TV.Move,∀v∈cMove x,∃u,v= .sc u:=by intro x v E;simp only[zX,zH,or_false]at E;rcases E with rfl|rfl<;>exact⟨_,rfl⟩
theorem ahz:∀x:Int,∀v∈cI x,∃u,v= .sc u:=by intro x v E;simp only[zX,zH,or_false]at E;subst E;exact⟨_,rfl⟩
theorem Gz.own{σ:Store}{b:Nat}{s:Stance}(h:Gz σ b s)(d:Nat):DC (own σ (d+1)) (PO b s)=some (cStance s,[b,b+1,b+2,b+3]):=by
 unfold PO;simp only[DC,aa5,iM (d:=d) h.j (fun _=>rfl) ahy,iM (d:=d) h.m (fun _=>rfl) aeQ,iM (d:=d) h.l (fun _=>rfl) ahz,iM (d:=d) h.x (fun _=>rfl) ahz];rfl
abbrev as8(n:Nat):Stance×Nat->List Nat:=fun p=>[n+7+10*p.2,n+7+10*p.2+1,n+7+10*p.2+2,n+7+10*p.2+3]
theorem ahA{α β:Type}(c:α->List β)(xs:List α)(k:Nat):(xs.zipIdx k).flatMap (fun p=>c p.1)=xs.flatMap c:=by
 induction xs generalizing k with
 |nil=>rfl
 |cons x xs E=>rw[List.zipIdx_cons,zT,zT,E]
theorem GH.own{σ:Store}{n:Nat}{xs:List Stance}(h:GH σ n xs)(d:Nat):own σ (d+2) (.rs n 0 xs.length)=some (LL cStance xs,n :: xs.zipIdx.flatMap (as8 n)):=by
 have G:=bZ (c:=Lm n) (s:=5) (fun _=>rfl) xs.zipIdx;rw[List.length_zipIdx]at G;refine ahx h.b G.symm ?_;have:=ahA cStance xs 0;rw[<- this];refine QJ fun p hp=>?_
 obtain⟨s,i⟩:=p;have E:=List.mem_zipIdx hp;have hi:i<xs.length:=by omega
 have hs:=h.s i hi;have J:xs[i]=s:=by rw[E.2.2];simp
 rw[J]at hs;exact hs.own d
theorem GH.frame{σ σ':Store}{n:Nat}{xs:List Stance}(h:GH σ n xs)(hs:∀c,n<=c->c<n+1+10*xs.length->σ' c=σ c):GH σ' n xs :=
 ⟨by rw[hs _ (by omega) (by omega)];exact h.b,fun j E=>(h.s j E).frame fun c G J=>hs c (by omega) (by omega)⟩
structure BR (σ:Store) (n:Nat) (y:Yard):Prop where
 s:GH σ n y.stances
 m:σ (n+1+10*y.stances.length)=some ⟨y.moves.flatMap cMove,2,true⟩
def Bv(n:Nat)(y:Yard):List V:=[.rs n 0 y.stances.length,.rs (n+1+10*y.stances.length) 0 y.moves.length,Bo y.strict]
def Eo(n:Nat)(y:Yard):List Nat:=(n :: y.stances.zipIdx.flatMap (as8 n))++[n+1+10*y.stances.length]
theorem WZ{n:Nat}{y:Yard}{b:Nat}(h:b∈Eo n y):n<=b/\b<n+2+10*y.stances.length:=by
 unfold Eo at h;rcases List.mem_append.mp h with h|h
 .rcases List.mem_cons.mp h with rfl|h
  .omega
  .obtain⟨p,hp,hb⟩:=List.mem_flatMap.mp h
   have:=List.mem_zipIdx hp;simp only[zX,zH,or_false]at hb;omega
 .simp only[xC]at h;omega
theorem BR.frame{σ σ':Store}{n:Nat}{y:Yard}(h:BR σ n y)(hs:∀c,n<=c->c<n+2+10*y.stances.length->σ' c=σ c):BR σ' n y :=
 ⟨h.s.frame fun c E G=>hs c E (by omega),by rw[hs _ (by omega) (by omega)];exact h.m⟩
theorem BR.own{σ:Store}{n:Nat}{y:Yard}(h:BR σ n y)(d:Nat):own σ (d+3) (.agg (Bv n y))=some (.agg (cYard y),Eo n y):=by
 have E:=h.s.own d;have G:=iM (d:=d+1) h.m (fun _=>rfl) alG;unfold Bv Eo;unfold TV.own;simp only[DC,E,G,aa5];simp
theorem BR.strip{σ:Store}{n:Nat}{y:Yard}(h:BR σ n y)(d:Nat):TV.strip σ (d+3) (.agg (Bv n y))=some (.agg (cYard y),Eo n y):=iL 3 _ _ _ (h.own 0) _ (by omega)
theorem Zw(y:Yard)(h:okYard y)(BJ:Store)(n:Nat):∃σ,ev ZH zI Bl 17 [.agg (cYard y)] BJ n=some (.agg (Bv (n+3) y),σ,n+5+10*y.stances.length)/\BR σ (n+3) y/\∀b,b<n->σ b=BJ b:=by
 have J:=fun σ n=>ahv _ h.2.1 σ n
 have O:¬n=n+1:=by omega
 have S:¬n=n+1+1:=by omega
 have Y:¬n+1=n+1+1:=by omega
 have e4:¬n+1=n+4+10*y.stances.length:=by omega
 have e5:¬n+1+1=n+4+10*y.stances.length:=by omega
 have e6:¬n=n+4+10*y.stances.length:=by omega
 obtain⟨E,hs⟩:∃E,E=upd (upd (upd BJ n (some ⟨cYard y,0,true⟩)) (n+1) (some ⟨[.nil,.nil,Bo false],0,true⟩)) (n+1+1) (some ⟨[.nil,.nil,Bo false],0,true⟩):=⟨_,rfl⟩;have q0:E n=some ⟨cYard y,0,true⟩:=by rw[hs];simp[upd,O,S]
 have q1:E (n+1)=some ⟨[.nil,.nil,Bo false],0,true⟩:=by rw[hs];simp[upd,Y]
 have q2:E (n+1+1)=some ⟨[.nil,.nil,Bo false],0,true⟩:=by rw[hs];simp[upd]
 obtain⟨σ2,k1,s1,G⟩:=aa4 _ h.1 E (n+1+1+1);have g0:σ2 n=some ⟨cYard y,0,true⟩:=by rw[G n (by omega),q0]
 have g1:σ2 (n+1)=some ⟨[.nil,.nil,Bo false],0,true⟩:=by rw[G (n+1) (by omega),q1]
 have g2:σ2 (n+1+1)=some ⟨[.nil,.nil,Bo false],0,true⟩:=by rw[G (n+1+1) (by omega),q2]
 have n1:n+1+1+1+1=n+4:=rfl;rw[n1]at k1;rw[nG [.cell 2 49] [] func17];simp only[go_sem,qJ,O,S,Y,e4,e5,e6,<- hs,k1,J,g0,g1,g2,q0,q1,q2];have z1:n+3+1+10*y.stances.length=n+4+10*y.stances.length:=by omega
 refine⟨_,by unfold Bv;rw[z1,show n+4+10*y.stances.length+1=n+5+10*y.stances.length by omega],⟨s1.frame fun c h1 J=>?_,?_⟩,fun b hb=>?_⟩
 .simp only[upd]
  repeat' rw[sW (by omega)]
 .rw[z1]
  simp[upd]
  repeat' rw[sW (by omega)]
 .simp only[upd]
  repeat' rw[sW (by omega)]
  rw[G b (by omega),hs];simp only[upd]
  repeat' rw[sW (by omega)]
theorem as9(k:IntKind)(n:Int)(σ:Store):Bj ZH 3 5 (.sc (.int k n)) σ=some (.sc (.int .u8 (IntKind.u8.wrap n))):=JC u3 u8t
attribute [go_sem] as9
theorem wrap_u8{n:Int}(J:0<=n)(O:n<256):IntKind.u8.wrap n=n:=by
 unfold IntKind.wrap;have E:IntKind.u8.signed=false:=by decide
 have G:IntKind.u8.bits=8:=by decide
 simp only[E,G,wE];rw[sW (by simp)];omega
theorem W9(k:Nat)(E:0<k)(hk:k<=100000000000000000):fn ZH conv ext 90 [I k]=some (Sg (mT k)):=by
 have c1:¬(k:Int)<=0:=by omega
 have k0:0<=k:=by omega
 rw[mM,nG [.tmp 2] [] func90];simp only[go_sem,c1];generalize Y:dI _ _=y;obtain⟨r,rfl,T',σ',nx',rfl,h1⟩:=jV Y (fun n s=>∃acc:ByteArray,s.T 0=I n/\s.T 3=Sg acc/\mTd n acc=mTd k ⟨#[]⟩/\acc.size+n<=k)
  (fun r=>∃T σ nx,r=(.exit 0,⟨T,σ,nx⟩)/\T 3=Sg (mTd k ⟨#[]⟩)) (by
   clear Y;rintro n ⟨T,σ,nx⟩ ⟨acc,E,G,hm,hs⟩;simp only at E G
   by_cases hn:n=0
   .subst hn
    right;have J:¬(0:Int)<((0:Nat):Int):=by omega
    refine⟨_,by simp only[go_sem,E,J];rfl,by simp,_,_,_,rfl,?_⟩;simp only[go_sem,G];have e0:mTd 0 acc=acc:=by unfold mTd;rw[dif_pos rfl]
    rw[<- hm,e0]
   .left
    have J:(0:Int)<(n:Int):=by omega
    have f2:((n:Int).tmod 10)=((n%10:Nat):Int):=by rw[xH (by omega)];omega
    have f3:((n:Int).tdiv 10)=((n / 10:Nat):Int):=by rw[yH (by omega)];omega
    have f4:=ZQ (n:=48+((n%10:Nat):Int));have f5:=wrap_u8 (n:=48+((n%10:Nat):Int)) (by omega) (by omega);have f6:=ZQ (n:=((n / 10:Nat):Int));have f7:(0:Int)<=48+((n%10:Nat):Int):=by omega
    have f8:48+((n%10:Nat):Int)<256:=by omega
    have f9:(48+((n%10:Nat):Int)).toNat=48+n%10:=by omega
    have O:(⟨#[UInt8.ofNat (48+n%10)]⟩:ByteArray).size+acc.size<=9223372036854775807:=by
     have:(⟨#[UInt8.ofNat (48+n%10)]⟩:ByteArray).size=1:=rfl;omega
    have S:(10:Int)≠0:=by decide
    refine⟨_,by simp only[go_sem,E,G,J,f2,f3,f4,f5,f6,f7,f8,f9,O,S];rfl,n / 10,by omega,⟨#[UInt8.ofNat (48+n%10)]⟩++acc,?_,?_,?_,?_⟩
    .simp only[go_sem]
    .simp only[go_sem]
    .rw[<- hm]
     conv=>rhs;unfold mTd
     rw[dif_neg hn]
    .rw[WG]
     have:(⟨#[UInt8.ofNat (48+n%10)]⟩:ByteArray).size=1:=rfl;omega) k ⟨⟨#[]⟩,by simp only[go_sem],by simp only[go_sem],rfl,by simp[ByteArray.size]⟩
 have g1:(⟨#[109]⟩:ByteArray).size+(mTd k ⟨#[]⟩).size<=9223372036854775807:=by
  have:=ag5 k ⟨#[]⟩;have e:(⟨#[109]⟩:ByteArray).size=1:=rfl;have e2:(⟨#[]⟩:ByteArray).size=0:=rfl;omega
 simp only[go_sem,h1,g1];rfl
def mJ1(k:Nat):Joint:=⟨mT k,((k+1:Nat):Int),((k+2:Nat):Int),(((k+3:Nat):Int).tmod 3==0)⟩
def mM1(k:Nat):Member:=⟨(k:Int),((k+1:Nat):Int),((k+2:Nat):Int)⟩
def mV1(k:Nat):TV.Move:=⟨(k:Int),((k+1:Nat):Int)⟩
def E8{α:Type}(f:Nat->α)(s k n:Nat):List α:=(List.range n).map fun i=>f (k+s*i)
theorem ahB{α:Type}(f:Nat->α)(s k n:Nat):(E8 f s k n).length=n:=by simp[E8]
theorem aeR{α:Type}(f:Nat->α)(s k n:Nat):E8 f s k (n+1)=E8 f s k n++[f (k+s*n)]:=by simp[E8,wY]
theorem dD{P Q:List V}{n:Nat}(E:P.length=n)(j:Nat)(v:V):(P++Q).set (n+j) v=P++Q.set j v:=by
 rw[yC _ _ (by omega),E];congr 2;omega
theorem JL{α:Type}{c:α->List V}{s:Nat}(hc:∀x,(c x).length=s)(f:Nat->α)(t k:Nat)(xs:List α)(i:Nat)(h:i<xs.length) :
  (E8 f t k i++xs.drop i).flatMap c=(E8 f t k i).flatMap c++(c xs[i]++(xs.drop (i+1)).flatMap c)/\((E8 f t k i).flatMap c).length=i*s /\
  (E8 f t k (i+1)++xs.drop (i+1)).flatMap c=(E8 f t k i).flatMap c++(c (f (k+t*i))++(xs.drop (i+1)).flatMap c):=by
 refine⟨?_,?_,?_⟩
 .rw[zU,yU h,zT]
 .rw[bZ hc,ahB]
 .rw[aeR,zU,zU,z_]
  simp
theorem aa6{σ:Store}{nx b:Nat}(xs:List Joint)(hb:σ b=some ⟨xs.flatMap cJoint,4,true⟩)(hl:xs.length<=1000000000000)(k:Nat)(h0:0<k)(hk:k<=10000000000000000) :
  ∃σ',ev ZH zI Bl 91 [.rs b 0 xs.length,I k] σ nx=some (I ((k+4*xs.length:Nat):Int),σ',nx)/\σ' b=some ⟨(E8 mJ1 4 k xs.length).flatMap cJoint,4,true⟩/\∀c,¬c=b->σ' c=σ c:=by
 rw[nG [.tmp 4] [] func91];simp only[go_sem];generalize S:dI _ _=y;obtain⟨r,rfl,T',σ',rfl,G,h2,h3⟩:=pF S xs.length (fun i s=>s.nx=nx/\s.T 0= .rs b 0 xs.length/\s.T 1=I ((k+4*i:Nat):Int)/\s.T 5=I i/\s.σ b=some ⟨(E8 mJ1 4 k i++xs.drop i).flatMap cJoint,4,true⟩/\∀c,¬c=b->s.σ c=σ c)
  (fun r=>∃T σ',r=(.exit 0,⟨T,σ',nx⟩)/\T 1=I ((k+4*xs.length:Nat):Int)/\σ' b=some ⟨(E8 mJ1 4 k xs.length).flatMap cJoint,4,true⟩/\∀c,¬c=b->σ' c=σ c) (by
   clear S;rintro i ⟨T,τ,m⟩ Y ⟨hn,E,G,J,hs,O⟩;simp only at hn E G J hs O;subst hn;have f1:(i:Int)<(xs.length:Int):=by omega
   have f2:=jD i;have f3:=ZQ (n:=(i:Int)+1);have t1:((k+4*i:Nat):Int)+1=((k+4*i+1:Nat):Int):=by omega
   have t2:((k+4*i+1:Nat):Int)+1=((k+4*i+2:Nat):Int):=by omega
   have t3:((k+4*i+2:Nat):Int)+1=((k+4*i+3:Nat):Int):=by omega
   have t4:((k+4*i+3:Nat):Int)+1=((k+4*i+4:Nat):Int):=by omega
   have w1:=ZQ (n:=((k+4*i+1:Nat):Int));have w2:=ZQ (n:=((k+4*i+2:Nat):Int));have w3:=ZQ (n:=((k+4*i+3:Nat):Int));have w4:=ZQ (n:=((k+4*i+4:Nat):Int));have m1:=W9 (k+4*i) (by omega) (by omega);obtain⟨q1,q2,q3⟩:=JL (c:=cJoint) (s:=4) (fun _=>rfl) mJ1 4 k xs i Y;rw[q1]at hs;rw[q3];generalize (E8 mJ1 4 k i).flatMap cJoint=P at *;generalize (xs.drop (i+1)).flatMap cJoint=Q at *;have p0:∀(R:List V) (v:V),(P++R).set (i*4) v=P++R.set 0 v:=fun R v=>dD q2 0 v
   have p1:∀(R:List V) (j:Nat) (v:V),(P++R).set (i*4+j) v=P++R.set j v:=fun R j v=>dD q2 j v
   have p2:∀R:List V,(P++R).length=i*4+R.length:=fun R=>by rw[zo,q2]
   have c0:i*4<i*4+(Q.length+1+1+1+1):=by omega
   have c1:i*4+1<i*4+(Q.length+1+1+1+1):=by omega
   have c2:i*4+2<i*4+(Q.length+1+1+1+1):=by omega
   have c3:i*4+3<i*4+(Q.length+1+1+1+1):=by omega
   have c4:(3:Int)≠0:=by decide
   refine .inl ⟨_,by simp only[go_sem,E,G,J,hs,f1,f2,f3,t1,t2,t3,t4,w1,w2,w3,w4,m1,p0,p1,p2,c0,c1,c2,c3,c4];rfl,?_⟩;simp only[go_sem,E];refine⟨by rw[show k+4*(i+1)=k+4*i+4 by omega],rfl,rfl,fun c hc=>?_⟩;rw[Zj _ _ hc];exact O c hc) (by
   clear S;rintro ⟨T,τ,m⟩ ⟨hn,E,G,J,hs,O⟩;simp only at hn E G J hs O;subst hn;refine⟨_,by simp only[go_sem,E,J,zl];rfl,by simp,_,_,rfl,by simp only[go_sem,G],?_,O⟩;rw[hs,List.drop_length,zK]) (by
   simp only[go_sem];rw[hb];exact⟨by first|rfl|trivial,fun _ _=>trivial⟩)
 simp only[go_sem,G];exact⟨_,rfl,h2,h3⟩
theorem W_{σ:Store}{nx b:Nat}(xs:List Member)(hb:σ b=some ⟨xs.flatMap cMember,3,true⟩)(hl:xs.length<=1000000000000)(k:Nat)(h0:0<k)(hk:k<=10000000000000000) :
  ∃σ',ev ZH zI Bl 92 [.rs b 0 xs.length,I k] σ nx=some (I ((k+3*xs.length:Nat):Int),σ',nx)/\σ' b=some ⟨(E8 mM1 3 k xs.length).flatMap cMember,3,true⟩/\∀c,¬c=b->σ' c=σ c:=by
 rw[nG [.tmp 4] [] func92];simp only[go_sem];generalize S:dI _ _=y;obtain⟨r,rfl,T',σ',rfl,G,h2,h3⟩:=pF S xs.length (fun i s=>s.nx=nx/\s.T 0= .rs b 0 xs.length/\s.T 1=I ((k+3*i:Nat):Int)/\s.T 5=I i/\s.σ b=some ⟨(E8 mM1 3 k i++xs.drop i).flatMap cMember,3,true⟩/\∀c,¬c=b->s.σ c=σ c)
  (fun r=>∃T σ',r=(.exit 0,⟨T,σ',nx⟩)/\T 1=I ((k+3*xs.length:Nat):Int)/\σ' b=some ⟨(E8 mM1 3 k xs.length).flatMap cMember,3,true⟩/\∀c,¬c=b->σ' c=σ c) (by
   clear S;rintro i ⟨T,τ,m⟩ Y ⟨hn,E,G,J,hs,O⟩;simp only at hn E G J hs O;subst hn;have f1:(i:Int)<(xs.length:Int):=by omega
   have f2:=jD i;have f3:=ZQ (n:=(i:Int)+1);have t1:((k+3*i:Nat):Int)+1=((k+3*i+1:Nat):Int):=by omega
   have t2:((k+3*i+1:Nat):Int)+1=((k+3*i+2:Nat):Int):=by omega
   have t3:((k+3*i+2:Nat):Int)+1=((k+3*i+3:Nat):Int):=by omega
   have w1:=ZQ (n:=((k+3*i+1:Nat):Int));have w2:=ZQ (n:=((k+3*i+2:Nat):Int));have w3:=ZQ (n:=((k+3*i+3:Nat):Int));obtain⟨q1,q2,q3⟩:=JL (c:=cMember) (s:=3) (fun _=>rfl) mM1 3 k xs i Y;rw[q1]at hs;rw[q3];generalize (E8 mM1 3 k i).flatMap cMember=P at *;generalize (xs.drop (i+1)).flatMap cMember=Q at *;have p0:∀(R:List V) (v:V),(P++R).set (i*3) v=P++R.set 0 v:=fun R v=>dD q2 0 v
   have p1:∀(R:List V) (j:Nat) (v:V),(P++R).set (i*3+j) v=P++R.set j v:=fun R j v=>dD q2 j v
   have p2:∀R:List V,(P++R).length=i*3+R.length:=fun R=>by rw[zo,q2]
   have c0:i*3<i*3+(Q.length+1+1+1):=by omega
   have c1:i*3+1<i*3+(Q.length+1+1+1):=by omega
   have c2:i*3+2<i*3+(Q.length+1+1+1):=by omega
   refine .inl ⟨_,by simp only[go_sem,E,G,J,hs,f1,f2,f3,t1,t2,t3,w1,w2,w3,p0,p1,p2,c0,c1,c2];rfl,?_⟩;simp only[go_sem,E];refine⟨by rw[show k+3*(i+1)=k+3*i+3 by omega],rfl,rfl,fun c hc=>?_⟩;rw[Zj _ _ hc];exact O c hc) (by
   clear S;rintro ⟨T,τ,m⟩ ⟨hn,E,G,J,hs,O⟩;simp only at hn E G J hs O;subst hn;refine⟨_,by simp only[go_sem,E,J,zl];rfl,by simp,_,_,rfl,by simp only[go_sem,G],?_,O⟩;rw[hs,List.drop_length,zK]) (by
   simp only[go_sem];rw[hb];exact⟨by first|rfl|trivial,fun _ _=>trivial⟩)
 simp only[go_sem,G];exact⟨_,rfl,h2,h3⟩
theorem aeS{σ:Store}{nx b:Nat}(xs:List TV.Move)(hb:σ b=some ⟨xs.flatMap cMove,2,true⟩)(hl:xs.length<=1000000000000)(k:Nat)(h0:0<k)(hk:k<=10000000000000000) :
  ∃σ',ev ZH zI Bl 60 [.rs b 0 xs.length,I k] σ nx=some (I ((k+2*xs.length:Nat):Int),σ',nx)/\σ' b=some ⟨(E8 mV1 2 k xs.length).flatMap cMove,2,true⟩/\∀c,¬c=b->σ' c=σ c:=by
 rw[nG [.tmp 4] [] func60];simp only[go_sem];generalize S:dI _ _=y;obtain⟨r,rfl,T',σ',rfl,G,h2,h3⟩:=pF S xs.length (fun i s=>s.nx=nx/\s.T 0= .rs b 0 xs.length/\s.T 1=I ((k+2*i:Nat):Int)/\s.T 5=I i/\s.σ b=some ⟨(E8 mV1 2 k i++xs.drop i).flatMap cMove,2,true⟩/\∀c,¬c=b->s.σ c=σ c)
  (fun r=>∃T σ',r=(.exit 0,⟨T,σ',nx⟩)/\T 1=I ((k+2*xs.length:Nat):Int)/\σ' b=some ⟨(E8 mV1 2 k xs.length).flatMap cMove,2,true⟩/\∀c,¬c=b->σ' c=σ c) (by
   clear S;rintro i ⟨T,τ,m⟩ Y ⟨hn,E,G,J,hs,O⟩;simp only at hn E G J hs O;subst hn;have f1:(i:Int)<(xs.length:Int):=by omega
   have f2:=jD i;have f3:=ZQ (n:=(i:Int)+1);have t1:((k+2*i:Nat):Int)+1=((k+2*i+1:Nat):Int):=by omega
   have t2:((k+2*i+1:Nat):Int)+1=((k+2*i+2:Nat):Int):=by omega
   have w1:=ZQ (n:=((k+2*i+1:Nat):Int));have w2:=ZQ (n:=((k+2*i+2:Nat):Int));obtain⟨q1,q2,q3⟩:=JL (c:=cMove) (s:=2) (fun _=>rfl) mV1 2 k xs i Y;rw[q1]at hs;rw[q3];generalize (E8 mV1 2 k i).flatMap cMove=P at *;generalize (xs.drop (i+1)).flatMap cMove=Q at *;have p0:∀(R:List V) (v:V),(P++R).set (i*2) v=P++R.set 0 v:=fun R v=>dD q2 0 v
   have p1:∀(R:List V) (j:Nat) (v:V),(P++R).set (i*2+j) v=P++R.set j v:=fun R j v=>dD q2 j v
   have p2:∀R:List V,(P++R).length=i*2+R.length:=fun R=>by rw[zo,q2]
   have c0:i*2<i*2+(Q.length+1+1):=by omega
   have c1:i*2+1<i*2+(Q.length+1+1):=by omega
   refine .inl ⟨_,by simp only[go_sem,E,G,J,hs,f1,f2,f3,t1,t2,w1,w2,p0,p1,p2,c0,c1];rfl,?_⟩;simp only[go_sem,E];refine⟨by rw[show k+2*(i+1)=k+2*i+2 by omega],rfl,rfl,fun c hc=>?_⟩;rw[Zj _ _ hc];exact O c hc) (by
   clear S;rintro ⟨T,τ,m⟩ ⟨hn,E,G,J,hs,O⟩;simp only at hn E G J hs O;subst hn;refine⟨_,by simp only[go_sem,E,J,zl];rfl,by simp,_,_,rfl,by simp only[go_sem,G],?_,O⟩;rw[hs,List.drop_length,zK]) (by
   simp only[go_sem];rw[hb];exact⟨by first|rfl|trivial,fun _ _=>trivial⟩)
 simp only[go_sem,G];exact⟨_,rfl,h2,h3⟩
theorem KH{σ:Store}{nx b:Nat}{xs:List Int}(hb:σ b=some ⟨xs.flatMap cI,1,true⟩)(E:xs.length<=1000000000000)(k:Nat)(O:k<=10000000000000000) :
  ∃σ',ev ZH zI Bl 25 [.rs b 0 xs.length,I k] σ nx=some (I ((k+xs.length:Nat):Int),σ',nx)/\∀c,¬c=b->σ' c=σ c:=by
 obtain⟨σ',G,_,J⟩:=Iy (nx:=nx) (iO (d:=0) hb (by omega)) E k (by omega);refine⟨σ',by rw[G,show(k:Int)+(xs.length:Int)=((k+xs.length:Nat):Int) by omega],fun c hc=>J c (by simpa using hc)⟩
theorem Xa{σ:Store}{nx n:Nat}(xs:List Stance)(hx:GH σ n xs)(hs:∀i (h:i<xs.length),FZ xs[i])(hl:xs.length<=1048576)(k:Nat)(h0:0<k)(hk:k<=1000000) :
  ∃(O:Nat) (σ':Store),ev ZH zI Bl 59 [.rs n 0 xs.length,I k] σ nx=some (I O,σ',nx)/\k<=O/\O<=k+9437185*xs.length/\∀c,c<n\/n+1+10*xs.length<=c->σ' c=σ c:=by
 rw[nG [.tmp 4] [] func59];simp only[go_sem];generalize hL:dI _ _=y;have hz:xs.zipIdx.length=xs.length:=List.length_zipIdx;obtain⟨r,rfl,O,T',σ',rfl,Y,h2,h3,h4⟩:=pF hL xs.length (fun i s=>∃(E:Nat) (A:List V),s.nx=nx/\s.T 0= .rs n 0 xs.length/\s.T 1=I E/\s.T 5=I i/\k<=E/\E<=k+9437185*i/\A.length=i*5/\s.σ n=some ⟨A++(xs.zipIdx.drop i).flatMap (Lm n),5,true⟩/\(∀c,n+7+10*i<=c->s.σ c=σ c)/\∀c,c<n\/n+1+10*xs.length<=c->s.σ c=σ c)
  (fun r=>∃(O:Nat) (T:Nat->V) (σ':Store),r=(.exit 0,⟨T,σ',nx⟩)/\T 1=I O/\k<=O/\O<=k+9437185*xs.length/\∀c,c<n\/n+1+10*xs.length<=c->σ' c=σ c) (by
   clear hL;rintro i ⟨T,τ,m⟩ a5 ⟨E,A,hn,G,Y,h5,g1,g2,hA,J,S,hg⟩;simp only at hn G Y h5 J S hg;subst hn;have f1:(i:Int)<(xs.length:Int):=by omega
   have f2:=jD i;have f3:=ZQ (n:=(i:Int)+1);have sm:=hs i a5;obtain⟨s1,s2,s3,s4⟩:=sm;have sa:=hx.s i a5;have hd:(xs.zipIdx.drop i).flatMap (Lm n)=PO (n+7+10*i) xs[i]++(xs.zipIdx.drop (i+1)).flatMap (Lm n):=by
    rw[yU (by omega),zT,List.getElem_zipIdx,yX]
   rw[hd]at J;generalize (xs.zipIdx.drop (i+1)).flatMap (Lm n)=Q at *;generalize xs[i]=s at *;have a1:τ (n+7+10*i)=some ⟨s.st.joints.flatMap cJoint,4,true⟩:=by rw[S _ (by omega)];exact sa.j
   have a2:τ (n+7+10*i+1)=some ⟨s.st.members.flatMap cMember,3,true⟩:=by rw[S _ (by omega)];exact sa.m
   have a3:τ (n+7+10*i+2)=some ⟨s.load.flatMap cI,1,true⟩:=by rw[S _ (by omega)];exact sa.l
   have a4:τ (n+7+10*i+3)=some ⟨s.limits.flatMap cI,1,true⟩:=by rw[S _ (by omega)];exact sa.x
   have t1:(E:Int)+1=((E+1:Nat):Int):=by omega
   have w1:=ZQ (n:=((E+1:Nat):Int));have m0:=W9 E (by omega) (by omega);obtain⟨QK,a0⟩:∃QK,QK=upd τ n (some ⟨A++(Sg (mT E) :: .rs (n+7+10*i) 0 s.st.joints.length :: .rs (n+7+10*i+1) 0 s.st.members.length :: .rs (n+7+10*i+2) 0 s.load.length :: .rs (n+7+10*i+3) 0 s.limits.length :: Q),5,true⟩):=⟨_,rfl⟩;have b1:QK n=some ⟨A++(Sg (mT E) :: .rs (n+7+10*i) 0 s.st.joints.length :: .rs (n+7+10*i+1) 0 s.st.members.length :: .rs (n+7+10*i+2) 0 s.load.length :: .rs (n+7+10*i+3) 0 s.limits.length :: Q),5,true⟩:=by rw[a0,Zi]
   have u1:∀c,¬c=n->QK c=τ c:=fun c hc=>by rw[a0,Zj _ _ hc]
   obtain⟨a6,k2,_,u2⟩:=aa6 (σ:=QK) (b:=n+7+10*i) (nx:=m) s.st.joints (by rw[u1 _ (by omega)];exact a1) (by omega) (E+1) (by omega) (by omega);have b2:=u2 n (by omega);rw[b1]at b2;obtain⟨a7,k3,_,u3⟩:=W_ (σ:=a6) (b:=n+7+10*i+1) (nx:=m) s.st.members (by rw[u2 _ (by omega),u1 _ (by omega)];exact a2) (by omega) (E+1+4*s.st.joints.length) (by omega) (by omega);have b3:=u3 n (by omega);rw[b2]at b3;obtain⟨a8,k4,u4⟩:=KH (σ:=a7) (b:=n+7+10*i+2) (nx:=m) (xs:=s.load) (by rw[u3 _ (by omega),u2 _ (by omega),u1 _ (by omega)];exact a3) (by omega) (E+1+4*s.st.joints.length+3*s.st.members.length) (by omega);have b4:=u4 n (by omega);rw[b3]at b4;obtain⟨a9,k5,u5⟩:=KH (σ:=a8) (b:=n+7+10*i+3) (nx:=m) (xs:=s.limits) (by rw[u4 _ (by omega),u3 _ (by omega),u2 _ (by omega),u1 _ (by omega)];exact a4) (by omega) (E+1+4*s.st.joints.length+3*s.st.members.length+s.load.length) (by omega);have b5:=u5 n (by omega);rw[b4]at b5;have p0:∀(R:List V) (v:V),(A++R).set (i*5) v=A++R.set 0 v:=fun R v=>dD hA 0 v
   have p2:∀R:List V,(A++R).length=i*5+R.length:=fun R=>by rw[zo,hA]
   have p3:∀(R:List V) (j:Nat),(A++R)[i*5+j]?=R[j]?:=fun R j=>by rw[zQ (by omega),hA];congr 1;omega
   have p4:∀R:List V,(A++R)[i*5+1+1]?=R[2]?:=fun R=>p3 R 2
   have c0:i*5<i*5+(Q.length+1+1+1+1+1):=by omega
   have e0:A++(PO (n+7+10*i) s++Q)=A++(Sg s.name :: .rs (n+7+10*i) 0 s.st.joints.length :: .rs (n+7+10*i+1) 0 s.st.members.length :: .rs (n+7+10*i+2) 0 s.load.length :: .rs (n+7+10*i+3) 0 s.limits.length :: Q):=rfl;rw[e0]at J;refine .inl ⟨_,by simp only[go_sem,qJ,G,Y,h5,J,f1,f2,f3,t1,w1,m0,p0,p2,p3,p4,c0,<- a0,b1,k2,b2,k3,b3,k4,b4,k5];rfl,?_⟩;simp only[go_sem,G];refine⟨_,A++[Sg (mT E),.rs (n+7+10*i) 0 s.st.joints.length,.rs (n+7+10*i+1) 0 s.st.members.length,.rs (n+7+10*i+2) 0 s.load.length,.rs (n+7+10*i+3) 0 s.limits.length],rfl,rfl,by omega,by omega,?_,?_,fun c hc=>?_,fun c hc=>?_⟩
   .rw[zo,hA];simp;omega
   .rw[b5];simp
   .rw[u5 c (by omega),u4 c (by omega),u3 c (by omega),u2 c (by omega),u1 c (by omega),S c (by omega)]
   .rw[u5 c (by omega),u4 c (by omega),u3 c (by omega),u2 c (by omega),u1 c (by omega),hg c hc]) (by
   clear hL;rintro ⟨T,τ,m⟩ ⟨E,A,hn,G,Y,h5,g1,g2,hA,J,S,hg⟩;simp only at hn G Y h5 J S hg;subst hn;exact⟨_,by simp only[go_sem,G,h5,zl];rfl,by simp,E,_,_,rfl,by simp only[go_sem,Y],g1,g2,hg⟩) (by
   simp only[go_sem];refine⟨k,[],?_⟩;rw[hx.b];simp)
 simp only[go_sem,Y];exact⟨O,_,rfl,h2,h3,h4⟩
theorem TG{σ:Store}{nx b:Nat}(xs:List TV.Move)(hb:σ b=some ⟨xs.flatMap cMove,2,true⟩)(O:xs.length<=1048576)(k:Nat)(E:0<k)(S:k<=1000000000000000) :
  ∃σ',ev ZH zI Bl 60 [.rs b 0 xs.length,I k] σ nx=some (I ((k+2*xs.length:Nat):Int),σ',nx)/\∀c,¬c=b->σ' c=σ c:=by
 obtain⟨σ',G,_,J⟩:=aeS (nx:=nx) xs hb (by omega) k E (by omega);exact⟨σ',G,J⟩
theorem NC{σ:Store}{nx n:Nat}(y:Yard)(hy:BR σ n y)(hn:n+2+10*y.stances.length<=nx)(hs:∀i (h:i<y.stances.length),FZ y.stances[i])(hl:y.stances.length<=1048576)(hm:y.moves.length<=1048576) :
  ∃(k':Nat) (σ':Store),ev ZH zI Bl 24 [.agg (Bv n y),I 1] σ nx=some (I k',σ',nx+1)/\∀c,(c<n\/n+2+10*y.stances.length<=c)->c<nx->σ' c=σ c:=by
 obtain⟨BJ,G⟩:∃BJ,BJ=upd σ nx (some ⟨[.rs n 0 y.stances.length,.rs (n+1+10*y.stances.length) 0 y.moves.length,Bo y.strict],0,true⟩):=⟨_,rfl⟩;have u0:∀c,c<nx->BJ c=σ c:=fun c hc=>by rw[G,Zk]
 have y0:BR BJ n y:=hy.frame fun c h1 h2=>u0 c (by omega)
 have b0:BJ nx=some ⟨[.rs n 0 y.stances.length,.rs (n+1+10*y.stances.length) 0 y.moves.length,Bo y.strict],0,true⟩:=by rw[G,Zi]
 obtain⟨J,E,e1,g1,g2,O⟩:=Xa (nx:=nx+1) y.stances y0.s hs hl 1 (by omega) (by omega);have b1:E nx=some ⟨[.rs n 0 y.stances.length,.rs (n+1+10*y.stances.length) 0 y.moves.length,Bo y.strict],0,true⟩:=by rw[O nx (.inr (by omega))];exact b0
 obtain⟨σ2,e2,f2⟩:=TG (σ:=E) (b:=n+1+10*y.stances.length) (nx:=nx+1) y.moves (by rw[O (n+1+10*y.stances.length) (.inr (zq _))];exact y0.m) hm J (by omega) (by omega);have S:ev ZH zI Bl 59 [.rs n 0 y.stances.length,I 1] BJ (nx+1)=some (I J,E,nx+1):=e1;refine⟨J+2*y.moves.length,σ2,?_,fun c hc Y=>by rw[f2 c (by omega),O c (by omega),u0 c Y]⟩;rw[nG [.tmp 4] [] func24];unfold Bv;simp only[go_sem,qJ,<- G,b0,S,b1,e2]
abbrev CQ(b:Bool):List V:=[Bo b]
def DT(p:Nat->Bool)(n:Nat):List Int:=((List.range n).filter p).map fun(i:Nat)=>(i:Int)
theorem Zn{p:Nat->Bool}{k:Nat}(h:p k=true):DT p (k+1)=DT p k++[(k:Int)]:=by simp[DT,wY,List.filter_append,h]
theorem Zo{p:Nat->Bool}{k:Nat}(h:p k=false):DT p (k+1)=DT p k:=by simp[DT,wY,List.filter_append,h]
theorem Zp(p:Nat->Bool)(n:Nat):(DT p n).length<=n:=by
 unfold DT;rw[zO];exact zL (List.length_filter_le _ _) (by simp)
theorem QL{p q:Nat->Bool}{n:Nat}(h:∀i,i<n->p i=q i):DT p n=DT q n:=by
 unfold DT;congr 1;exact List.filter_congr fun i hi=>h i (by simpa using hi)
theorem ND{T:Nat->V}{σ:Store}{nx t G:Nat}{acc:List Int}(h:Grow T σ nx t acc)(hb:∀b o l,T t= .rs b o l->G<=b):∃ids,Own σ 1 (T t) (LI acc) ids/\∀b∈ids,G<=b/\b<nx:=by
 rcases h with ⟨E,rfl⟩|⟨b,E,_,J,O⟩
 .rw[E];exact⟨[],iP _ _,by simp⟩
 .rw[E]
  exact⟨[b],iO J (by omega),fun c hc=>by have:=hb _ _ _ E;simp only[xC]at hc;omega⟩
def TI:=bg (c:=CQ) (s:=1) (fun _=>rfl) (by omega)
def Gh:=bZ (c:=CQ) (s:=1) (fun _=>rfl)
theorem acv(E:List Bool)(hl:E.length<=1000)(nx:Nat):∃v a0 nI ids,ev ZH zI Bl 58 [LL CQ E] lI nx=some (v,a0,nI)/\nx<=nI/\Own a0 1 v (LI (DT (fun i=>E[i]?==some true) E.length)) ids/\∀b∈ids,nx<=b/\b<nI:=by
 rw[nG [.tmp 2] [] func58];simp only[go_sem];generalize hL:dI _ _=y;obtain⟨r,rfl,T',σ',nx',rfl,h1,h2,h3⟩:=pF hL E.length (fun k s=>nx<=s.nx/\s.T 6=LL CQ E/\s.T 7=I E.length/\s.T 8=I k/\Grow s.T s.σ s.nx 3 (DT (fun i=>E[i]?==some true) k)/\∀b o l,s.T 3= .rs b o l->nx<=b)
  (fun r=>∃T σ nx',r=(.exit 0,⟨T,σ,nx'⟩)/\nx<=nx'/\Grow T σ nx' 3 (DT (fun i=>E[i]?==some true) E.length)/\∀b o l,T 3= .rs b o l->nx<=b) (by
   clear hL;rintro k ⟨T,σ,m⟩ G ⟨hn,O,J,S,Y,hb⟩;simp only at hn O J S Y hb;have f1:(k:Int)<(E.length:Int):=by omega
   have f2:=jD k;have f3:=ZQ (n:=(k:Int)+1);have f4:(E.flatMap CQ)[k]?=some (Bo E[k]):=cu (fun b=>Bo b) E k G;have f5:=Gh E;have f9:=TI E k G;have hle:=Zp (fun i=>E[i]?==some true) k;cases hp:E[k]with
   |true=>
    have hq:(fun i=>E[i]?==some true) k=true:=by simp[zy G,hp]
    obtain⟨σ',ha,hs⟩:=kU Y (k:Int) (by omega);refine .inl ⟨_,by simp only[go_sem,O,J,S,f1,f2,f3,f4,f5,f9,hp,G,ha];rfl,?_⟩;simp only[go_sem,O,J];rw[Zn hq];refine⟨by omega,rfl,kR hs (by simp[go_sem]) (by simp),fun b o l h=>?_⟩;simp only[V.rs.injEq]at h;omega
   |false=>
    have hq:(fun i=>E[i]?==some true) k=false:=by simp[zy G,hp]
    refine .inl ⟨_,by simp only[go_sem,O,J,S,f1,f2,f3,f4,f5,f9,hp,G];rfl,?_⟩;simp only[go_sem,O,J];rw[Zo hq];exact⟨hn,rfl,kS (by simp only[go_sem]) Y,hb⟩) (by
   clear hL;rintro ⟨T,σ,m⟩ ⟨hn,O,J,S,Y,hb⟩;simp only at hn O J S Y hb;exact⟨_,by simp only[go_sem,J,S,zl];rfl,by simp,_,_,_,rfl,hn,kS (by simp only[go_sem]) Y,by simpa only[go_sem]using hb⟩) (by
   simp only[go_sem];exact⟨.inl ⟨by simp only[go_sem],rfl⟩,by simp⟩)
 obtain⟨ids,ho,hi⟩:=ND h2 h3;simp only[go_sem];exact⟨_,_,_,ids,rfl,h1,ho,hi⟩
def Aw(ms:List TV.Move)(i:Int)(k:Nat):Bool:=ms.any fun m=>(m.fr==i) && (m.to==(k:Int))
def flags(ms:List TV.Move)(i:Int)(n:Nat):List Bool:=(List.range n).map (Aw ms i)
theorem mW(ms:List TV.Move)(i:Int)(n:Nat):(flags ms i n).length=n:=by simp[flags]
theorem aeT{ms:List TV.Move}{i:Int}{n:Nat}{m:TV.Move}(h:m.fr=i)(E:0<=m.to):flags (ms++[m]) i n=(flags ms i n).set m.to.toNat true:=by
 refine yS (by simp[flags]) fun j G J=>?_
 rw[wP];simp only[flags,yB,vC,Aw,List.any_append,List.any_cons,List.any_nil,h,BEq.rfl,vJ,Bool.or_false]
 split
 .rename_i e
  have:m.to=(j:Int):=by omega
  simp[this]
 .rename_i e
  have:¬m.to=(j:Int):=by omega
  simp[this]
theorem ahC{ms:List TV.Move}{i:Int}{n:Nat}{m:TV.Move}(h:¬m.fr=i):flags (ms++[m]) i n=flags ms i n:=by
 refine yS (by simp[flags]) fun j E G=>?_
 simp only[flags,yB,vC,Aw,List.any_append,List.any_cons,List.any_nil];have:(m.fr==i)=false:=by simpa using h
 simp[this]
theorem aeU(i:Int)(n:Nat):flags [] i n=List.replicate n false:=by
 refine yS (by simp[flags]) fun j E G=>?_
 simp[flags,Aw]
theorem QM(n:Nat):rep n [Bo false]=(List.replicate n false).flatMap CQ:=by
 induction n with
 |zero=>rfl
 |succ n E=>rw[fK,E,xR];rfl
theorem LV(xs:List Bool)(k:Nat)(b:Bool):(xs.flatMap CQ).set k (Bo b)=(xs.set k b).flatMap CQ:=by
 induction xs generalizing k with
 |nil=>rfl
 |cons x xs E=>
  cases k with
  |zero=>rfl
  |succ k=>
   show Bo x :: (xs.flatMap CQ).set k (Bo b)=_;rw[E];rfl
theorem aeV(y:Yard)(hg:AA y)(i:Int)(nx:Nat):∃v O nI ids,ev ZH zI Bl 63 [.tp (cYard y) 0,I i] lI nx=some (v,O,nI)/\nx<=nI/\Own O 1 v (LI (DT (Aw y.moves i) y.stances.length)) ids/\∀b∈ids,nx<=b/\b<nI:=by
 obtain⟨h6,a3,_,hm⟩:=hg;have e1:1*(y.stances.length:Int)<=281474976710656:=by omega
 have e2:(y.stances.length:Int)<=9223372036854775807:=by omega
 have e3:(0:Int)<=(y.stances.length:Int):=by omega
 rw[nG [.tmp 4] [] func63];simp only[go_sem,e1,e2,e3,yD];generalize hL:dI _ _=z;obtain⟨r,rfl,T',σ',nx',rfl,Y,h2,h3⟩:=pF hL y.moves.length (fun k s=>nx+1<=s.nx/\s.T 1=I i/\s.T 5= .rs nx 0 y.stances.length/\s.T 17=LL cMove y.moves/\s.T 18=I y.moves.length/\s.T 19=I k/\s.σ nx=some ⟨(flags (y.moves.take k) i y.stances.length).flatMap CQ,1,true⟩)
  (fun r=>∃T σ nx',r=(.exit 0,⟨T,σ,nx'⟩)/\nx+1<=nx'/\T 5= .rs nx 0 y.stances.length/\σ nx=some ⟨(flags y.moves i y.stances.length).flatMap CQ,1,true⟩) (by
   clear hL;rintro k ⟨T,σ,m⟩ S ⟨hn,Y,h5,G,E,J,hs⟩;simp only at hn Y h5 G E J hs;have f1:(k:Int)<(y.moves.length:Int):=by omega
   have f2:=jD k;have f3:=ZQ (n:=(k:Int)+1);have f4:=PG y.moves k S;have f5:=Gx y.moves;have f6:k*2+2<=y.moves.length*2:=by omega
   have f9:=PI y.moves k S;have nz:¬nx=m:=by omega
   have a1:¬m=nx:=by omega
   have ht:y.moves.take (k+1)=y.moves.take k++[y.moves[k]]:=by rw[yN,zy S];rfl
   obtain⟨_,_,m1,m2,_⟩:=(hm k S).1
   by_cases hp:y.moves[k].fr=i
   .have a0:(y.moves[k].fr==i)=true:=by simpa using hp
    have b1:y.moves[k].to<(y.stances.length:Int):=m2;have b2:y.moves[k].to.toNat<y.stances.length:=by omega
    have f7:((flags (y.moves.take k) i y.stances.length).flatMap CQ).length=y.stances.length:=by rw[Gh,mW,yQ]
    have f8:=LV (flags (y.moves.take k) i y.stances.length) y.moves[k].to.toNat true;refine .inl ⟨_,by simp only[go_sem,Y,h5,G,E,J,hs,f1,f2,f3,f4,f5,f6,f7,f8,f9,a0,m1,b1,b2,nz,a1];rfl,?_⟩;simp only[go_sem,Y,h5,G,E];refine⟨by omega,?_⟩;rw[ht,aeT hp m1];exact⟨rfl,rfl⟩
   .have a0:(y.moves[k].fr==i)=false:=by simpa using hp
    refine .inl ⟨_,by simp only[go_sem,Y,h5,G,E,J,hs,f1,f2,f3,f4,f5,f6,f9,a0,nz,a1];rfl,?_⟩;simp only[go_sem,Y,h5,G,E,nz,hs];refine⟨by omega,?_⟩;rw[ht,ahC hp];exact⟨rfl,rfl⟩) (by
   clear hL;rintro ⟨T,σ,m⟩ ⟨hn,Y,h5,G,E,J,hs⟩;simp only at hn Y h5 G E J hs;rw[yg]at hs;exact⟨_,by simp only[go_sem,E,J,zl];rfl,by simp,_,_,_,rfl,hn,by simp only[go_sem,h5],hs⟩) (by
   simp only[go_sem];rw[aeU,<- QM])
 obtain⟨v,O,nI,ids,k1,a4,ho,hi⟩:=acv (flags y.moves i y.stances.length) (by rw[mW];omega) nx';rw[mW]at ho;have a2:ev ZH zI Bl 58 [.ts ((flags y.moves i y.stances.length).flatMap CQ) y.stances.length] lI nx'=some (v,O,nI):=by
  rw[<- k1];show _=ev _ _ _ _ [.ts _ (flags y.moves i y.stances.length).length] _ _;rw[mW]
 have g0:((flags y.moves i y.stances.length).flatMap CQ).length=y.stances.length:=by rw[Gh,mW,yQ]
 have g1:((flags y.moves i y.stances.length).flatMap CQ).take y.stances.length=(flags y.moves i y.stances.length).flatMap CQ:=zk (by omega);have g2:∀(σ:Store) (d:Nat),stripL (strip σ d) ((flags y.moves i y.stances.length).flatMap CQ)=some ((flags y.moves i y.stances.length).flatMap CQ,[]):=fun σ d=>aY (fun x=>by rw[au,aQ,aZ];rfl) _
 have g3:=fun d=>ho.gather (d':=d+1) (by omega)
 simp only[go_sem,h2,h3,g0,g1,g2,g3,a2,zq];refine⟨v,_,nI,ids,rfl,by omega,?_,fun b hb=>⟨by have:=(hi b hb).1;omega,(hi b hb).2⟩⟩;have:DT (fun j=>(flags y.moves i y.stances.length)[j]?==some true) y.stances.length=DT (Aw y.moves i) y.stances.length:=by
  refine QL fun j hj=>?_
  have:(flags y.moves i y.stances.length)[j]?=some (Aw y.moves i j):=by simp[flags,hj]
  rw[this];cases Aw y.moves i j<;>rfl
 rw[this]at ho;exact ho.join fun b hb=>(hi b hb).1
theorem kT{T:Nat->V}{σ:Store}{nx t:Nat}{acc:List Int}(J:Grow T σ nx t acc)(x:Int)(Y:acc.length<17592186044415) :
  ∃σ',Ad (upd σ nx (some ⟨[I x],1,true⟩)) (nx+1) 1 8 (T t) [I x] 1=some (.rs (nx+1) 0 (acc.length+1),σ',nx+1+1)/\σ' (nx+1)=some ⟨(acc++[x]).flatMap cI,1,true⟩/\∀c,c<nx->(∀b o l,T t= .rs b o l->¬c=b)->σ' c=σ c:=by
 have hm:acc.length+1<=maxLen:=by unfold maxLen;omega
 rcases J with ⟨E,rfl⟩|⟨b,E,O,hb,S⟩
 .refine⟨_,by rw[E,rE,sW (by decide),sS (by decide)];rfl,?_,fun c hc _=>?_⟩
  .simp[Ai,upd]
  .simp only[Ai,upd]
   rw[sW (by omega),sW (by omega)]
 .refine⟨_,by rw[E,rH (B:=⟨acc.flatMap cI,1,true⟩) (by rw[Zk];exact hb) (qR acc) rfl (by decide) hm (by omega) rfl],?_,fun c hc G=>?_⟩
  .simp[upd]
  .have:=G _ _ _ E
   simp only[upd];rw[sW (by omega),sW (by omega),sW (by omega)]
theorem aJ{α:Type}{xs:List α}{k:Nat}(h:k<xs.length):xs.take (k+1)=xs.take k++[xs[k]]:=by rw[yN,zy h];rfl
theorem TJ(ms:List TV.Move)(m:TV.Move)(i:Int)(k:Nat):Aw (ms++[m]) i k=(Aw ms i k||((m.fr==i) && (m.to==(k:Int)))):=by simp[Aw]
theorem atd(y:Yard)(h:okYard y)(hg:AA y)(i:Int):fn ZH conv ext 64 [.agg (cYard y),I i]=some (LI (DT (Aw y.moves i) y.stances.length)):=by
 obtain⟨h6,c0,_,hm⟩:=hg;have a8:∀j (hj:j<y.moves.length) (k:Nat),y.moves[j].fr=i->y.moves[j].to=(k:Int)->Aw (y.moves.take j) i k=false:=by
  intro j hj k e1 e2;have hb:=(hm j hj).2;refine Bool.eq_false_iff.mpr fun ht=>?_
  obtain⟨m,a9,hp⟩:=List.any_eq_true.mp ht;obtain⟨l,hl,rfl⟩:=yV a9;rw[zh]at hl;have b2:l<j:=by omega
  have hx:=Qx hb l (by omega) b2;rw[uh]at hp;unfold Cc at hx;rw[e1,e2,Bool.beq_comm (a:=i),Bool.beq_comm (a:=(k:Int))]at hx;rw[hx]at hp;cases hp
 rw[mM,nG [.tmp 4] [] func64];simp only[go_sem];generalize hL:dI _ _=z;obtain⟨r,rfl,T',σ',nx',rfl,hr⟩:=pF hL y.stances.length (fun k st=>0<st.nx/\st.σ 0=some ⟨cYard y,0,true⟩/\st.T 1=I i/\st.T 2= .rp 0 0/\st.T 12=I y.stances.length/\st.T 13=I k/\Grow st.T st.σ st.nx 5 (DT (Aw y.moves i) k)/\∀b o l,st.T 5= .rs b o l->1<=b)
  (fun r=>∃T σ nx,r=(.exit 0,⟨T,σ,nx⟩)/\Grow T σ nx 5 (DT (Aw y.moves i) y.stances.length)) (by
   clear hL;rintro k ⟨T,σ,nx⟩ c2 ⟨J,E,h1,h2,Iz,G,hG,hB⟩;simp only at J E h1 h2 Iz G hG hB;have f1:(k:Int)<(y.stances.length:Int):=by omega
   have f2:=jD k;have f3:=ZQ (n:=(k:Int)+1);refine bF ?_
   conv=>
    enter [1,r,1,1]
    simp only[go_sem,h1,h2,Iz,G,E,J,f1,f2]
   generalize hL:dI _ _=w;obtain⟨r,rfl,T',σ',nx',rfl,b3,PN,g1,g2,b4,b5,g6,b6,b7⟩:=pF hL y.moves.length (fun j st=>0<st.nx/\st.σ 0=some ⟨cYard y,0,true⟩/\st.T 1=I i/\st.T 2= .rp 0 0/\st.T 6=I k/\st.T 12=I y.stances.length/\st.T 13=I k/\st.T 17=LL cMove y.moves/\st.T 18=I y.moves.length/\st.T 19=I j/\Grow st.T st.σ st.nx 5 (DT (Aw y.moves i) k++if Aw (y.moves.take j) i k=true then [(k:Int)]else [])/\∀b o l,st.T 5= .rs b o l->1<=b)
    (fun r=>∃T σ nx,r=(.exit 2,⟨T,σ,nx⟩)/\0<nx/\σ 0=some ⟨cYard y,0,true⟩/\T 1=I i/\T 2= .rp 0 0/\T 12=I y.stances.length/\T 13=I k/\T 6=I k/\Grow T σ nx 5 (DT (Aw y.moves i) k++if Aw y.moves i k=true then [(k:Int)]else [])/\∀b o l,T 5= .rs b o l->1<=b) (by
     clear hL;rintro j ⟨T,σ,nx⟩ hj ⟨J,E,h1,h2,O,Iz,G,Y,S,a0,hG,hB⟩;simp only at J E h1 h2 O Iz G Y S a0 hG hB;have q1:(j:Int)<(y.moves.length:Int):=by omega
     have q2:=jD j;have q3:=ZQ (n:=(j:Int)+1);have q4:=PG y.moves j hj;have q5:=Gx y.moves;have q6:j*2+2<=y.moves.length*2:=by omega
     have q9:=PI y.moves j hj;have nz:¬0=nx:=by omega
     have tk:=aJ hj;have ms:=TJ (y.moves.take j) y.moves[j] i k;rw[<- tk]at ms;have on:=a8 j hj k;obtain⟨BJ,EI⟩:∃BJ,BJ=upd σ nx (some ⟨cMove y.moves[j],0,true⟩):=⟨_,rfl⟩;have a6:Grow T BJ (nx+1) 5 (DT (Aw y.moves i) k++if Aw (y.moves.take j) i k=true then [(k:Int)]else []):=by
      rcases hG with h|⟨b,a1,a2,a3,a4⟩
      .exact .inl h
      .exact .inr ⟨b,a1,a2,by rw[EI,Zk];exact a3,by omega⟩
     have b0:BJ 0=some ⟨cYard y,0,true⟩:=by rw[EI,Zj _ _ nz];exact E
     have b1:BJ nx=some ⟨cMove y.moves[j],0,true⟩:=by rw[EI,Zi]
     by_cases p1:y.moves[j].fr=i
     .have a5:(y.moves[j].fr==i)=true:=by simpa using p1
      by_cases p2:y.moves[j].to=(k:Int)
      .have a7:(y.moves[j].to==(k:Int))=true:=by simpa using p2
       rw[on p1 p2]at a6 ms;simp only[yL,if_false,zK]at a6;rw[a5,a7,Bool.and_self,Bool.or_true]at ms;have tl:=Zp (Aw y.moves i) k;obtain⟨σ',ha,hs,b8⟩:=kT a6 (k:Int) (by omega);refine .inl ⟨_,by simp only[go_sem,h1,h2,O,Y,S,a0,E,q1,q2,q3,q4,q5,q6,q9,a5,a7,nz,<- EI,b0,b1,ha];rfl,?_⟩;simp only[go_sem,h1,h2,O,Iz,G,Y,S];rw[ms,sS rfl];refine⟨by omega,by rw[b8 0 (by omega) (fun b o l hb=>by have:=hB b o l hb;omega)];exact b0,rfl,?_,fun b o l hb=>?_⟩
       .exact kR hs (by simp[go_sem]) (by simp)
       .simp only[V.rs.injEq]at hb
        omega
      .have a7:(y.moves[j].to==(k:Int))=false:=by simpa using p2
       rw[a7,xu,Bool.or_false]at ms;refine .inl ⟨_,by simp only[go_sem,h1,h2,O,Y,S,a0,E,q1,q2,q3,q4,q5,q6,q9,a5,a7,nz,<- EI,b0,b1];rfl,?_⟩;simp only[go_sem,h1,h2,O,Iz,G,Y,S];rw[ms];exact⟨by omega,b0,rfl,kS (by simp only[go_sem]) a6,hB⟩
     .have a5:(y.moves[j].fr==i)=false:=by simpa using p1
      rw[a5,wE,Bool.or_false]at ms;refine .inl ⟨_,by simp only[go_sem,h1,h2,O,Y,S,a0,E,q1,q2,q3,q4,q5,q6,q9,a5,nz,<- EI,b0,b1];rfl,?_⟩;simp only[go_sem,h1,h2,O,Iz,G,Y,S];rw[ms];exact⟨by omega,b0,rfl,kS (by simp only[go_sem]) a6,hB⟩) (by
     clear hL;rintro ⟨T,σ,nx⟩ ⟨J,E,h1,h2,O,Iz,G,Y,S,a0,hG,hB⟩;simp only at J E h1 h2 O Iz G Y S a0 hG hB;rw[yg]at hG;refine⟨_,by simp only[go_sem,S,a0,zl];rfl,by simp,_,_,_,rfl,J,E,?_,?_,?_,?_,?_,kS (by simp only[go_sem]) hG,by simpa only[go_sem]using hB⟩
     all_goals simp only[go_sem,h1,h2,O,Iz,G]) (by
     simp only[go_sem,h1,h2,Iz,G,E,J];refine⟨?_,by simpa only[go_sem]using hB⟩;simp only[Aw,List.take_zero,List.any_nil,yL,if_false,zK];exact kS (by simp only[go_sem]) hG)
   refine⟨_,by simp only[go_sem,b5,f3];rfl,.inl ⟨_,rfl,?_⟩⟩;simp only[go_sem,g1,g2,b4,PN,b3];have b9:DT (Aw y.moves i) (k+1)=DT (Aw y.moves i) k++if Aw y.moves i k=true then [(k:Int)]else []:=by
    cases hp:Aw y.moves i k with
    |true=>rw[Zn hp];rfl
    |false=>rw[Zo hp];simp
   rw[b9];exact⟨rfl,kS (by simp only[go_sem]) b6,by simpa only[go_sem]using b7⟩) (by
   clear hL;rintro ⟨T,σ,nx⟩ ⟨J,E,h1,h2,Iz,G,hG,hB⟩;simp only at J E h1 h2 Iz G hG hB;exact⟨_,by simp only[go_sem,Iz,G,zl];rfl,by simp,_,_,_,rfl,kS (by simp only[go_sem]) hG⟩) (by
   simp only[go_sem];exact⟨.inl ⟨by simp only[go_sem],rfl⟩,by simp⟩)
 obtain⟨ids,h1⟩:=kQ hr 6;simp only[go_sem,h1]
end Go.Proofs.YtehdaknhabeiaaaGreat
namespace Go.Lp
def sm(f:Nat->Rat):Nat->Rat
 |0=>0
 |n+1=>sm f n+f n
theorem bU{f g:Nat->Rat}:∀ {n:Nat},(∀j,j<n->f j=g j)->sm f n=sm g n
 |0,_=>rfl
 |n+1,h=>by unfold sm;rw[bU fun j E=>h j (by omega),h n (by omega)]
theorem bY(f g:Nat->Rat):∀n,sm (fun j=>f j+g j) n=sm f n+sm g n
 |0=>by unfold sm;grind
 |n+1=>by unfold sm;rw[bY f g n];grind
theorem bM(f g:Nat->Rat):∀n,sm (fun j=>f j-g j) n=sm f n-sm g n
 |0=>by unfold sm;grind
 |n+1=>by unfold sm;rw[bM f g n];grind
theorem bT(a:Rat)(f:Nat->Rat):∀n,sm (fun j=>a*f j) n=a*sm f n
 |0=>by simp[sm]
 |n+1=>by unfold sm;rw[bT a f n];grind
theorem bK{f:Nat->Rat}:∀ {n:Nat},(∀j,j<n->f j=0)->sm f n=0
 |0,_=>rfl
 |n+1,h=>by unfold sm;rw[bK fun j E=>h j (by omega),h n (by omega)];grind
theorem bP{f:Nat->Rat}{k:Nat}:∀ {n:Nat},k<n->(∀j,j<n->j≠k->f j=0)->sm f n=f k
 |n+1,hk,h=>by
  unfold sm
  by_cases e:k=n
  .subst e
   rw[bK fun j E=>h j (by omega) (by omega)];grind
  .rw[bP (n:=n) (by omega) fun j E=>h j (by omega),h n (by omega) (by omega)];grind
theorem bQ{f:Nat->Rat}:∀ {n:Nat},(∀j,j<n->0<=f j)->0<=sm f n
 |0,_=>by simp[sm]
 |n+1,h=>by
  unfold sm;have E:=bQ (n:=n) fun j G=>h j (by omega)
  have J:=h n (by omega);grind
theorem acw(f:Nat->Nat->Rat)(n:Nat):∀m,sm (fun i=>sm (fun j=>f i j) n) m=sm (fun j=>sm (fun i=>f i j) m) n
 |0=>(bK (n:=n) fun j _=>rfl).symm
 |m+1=>by
  show sm _ m+_=_;rw[acw f n m,<- bY];rfl
structure Tab where
 e:Nat->Nat->Rat
 b:Nat->Rat
 B:Nat->Nat
def Sol(m n:Nat)(T:Tab)(x:Nat->Rat):Prop:=∀i,i<m->sm (fun j=>T.e i j*x j) n=T.b i
structure Ok (m n:Nat) (T:Tab):Prop where
 bn:∀i,i<m->T.B i<n
 un:∀i k,i<m->k<m->T.e i (T.B k)=if i=k then 1 else 0
 nb:∀i,i<m->0<=T.b i
def basic(m:Nat)(T:Tab)(j:Nat):Prop:=∃i,i<m/\T.B i=j
def piv(T:Tab)(r k:Nat):Tab where
 e i j:=if i=r then T.e r j / T.e r k else T.e i j-T.e i k*(T.e r j / T.e r k)
 b i:=if i=r then T.b r / T.e r k else T.b i-T.e i k*(T.b r / T.e r k)
 B i:=if i=r then k else T.B i
section
variable {m n:Nat} {T:Tab}
theorem Ok.inj(h:Ok m n T){i k:Nat}(hi:i<m)(G:k<m)(e:T.B i=T.B k):i=k:=by
 have E:=h.un i k hi G;have J:=h.un i i hi hi;rw[<- e,J]at E
 by_cases q:i=k
 .exact q
 .simp[q]at E
theorem TK{r k:Nat}(G:r<m)(O:T.e r k≠0)(x:Nat->Rat):Sol m n (piv T r k) x↔Sol m n T x:=by
 have row:sm (fun j=>T.e r j / T.e r k*x j) n=sm (fun j=>T.e r j*x j) n / T.e r k:=by
  rw[vM,Rat.mul_comm,<- bT];exact bU fun j _=>by grind
 have other:∀i,i≠r->sm (fun j=>(piv T r k).e i j*x j) n=sm (fun j=>T.e i j*x j) n-T.e i k*sm (fun j=>T.e r j / T.e r k*x j) n:=fun i hi=>by
  rw[<- bT,<- bM];refine bU fun j _=>?_
  simp only[piv,sW hi];grind
 constructor
 .intro h i hi
  have E:=h r G;simp only[piv,sS]at E;rw[row]at E
  by_cases e:i=r
  .subst e
   grind
  .have J:=h i hi
   rw[other i e,row,E]at J;simp only[piv,sW e]at J;grind
 .intro h i hi
  have E:=h r G
  by_cases e:i=r
  .subst e
   simp only[piv,sS];rw[row,E]
  .rw[other i e,row,E,h i hi]
   simp only[piv,sW e]
theorem aoF(h:Ok m n T){r s:Nat}(hr:r<m)(hs:s<n)(hp:0<T.e r s)(J:∀i,i<m->0<T.e i s->T.b r*T.e i s<=T.b i*T.e r s):Ok m n (piv T r s):=by
 have a0:T.e r s≠0:=by grind
 refine⟨fun i hi=>?_,fun i k hi hk=>?_,fun i hi=>?_⟩
 .simp only[piv]
  split
  .exact hs
  .exact h.bn i hi
 .have u1:=h.un i k hi hk
  have S:=h.un r k hr hk;simp only[piv]
  by_cases O:k=r
  .subst O
   rw[sS rfl]
   by_cases E:i=k
   .rw[sS E,sS E];grind
   .rw[sW E,sW E];grind
  .rw[sW O]
   rw[sW (yu O)]at S
   by_cases E:i=r
   .subst E
    rw[sS rfl,sW (yu O),S];grind
   .rw[sW E,u1,S];grind
 .simp only[piv]
  have b0:=h.nb r hr;have hq:0<=T.b r / T.e r s:=by
   rw[vM];exact xQ b0 (vY (Rat.inv_pos.mpr hp))
  by_cases E:i=r
  .rw[sS E];exact hq
  .rw[sW E]
   have bi:=h.nb i hi
   by_cases G:0<T.e i s
   .have Y:=J i hi G
    have h2:T.e i s*(T.b r / T.e r s)*T.e r s=T.b r*T.e i s:=by grind
    have h3:T.e i s*(T.b r / T.e r s)<=T.b i:=Rat.le_of_mul_le_mul_right (by rw[h2];exact Y) hp;grind
   .have Y:T.e i s<=0:=Rat.not_lt.mp G
    have h2:T.e i s*(T.b r / T.e r s)<=0:=by
     have:=Rat.mul_le_mul_of_nonneg_right Y hq
     rwa [Rat.zero_mul]at this
    grind
def BD(m:Nat)(T:Tab)(j:Nat):Rat:=sm (fun i=>if T.B i=j then T.b i else 0) m
theorem IB(h:Ok m n T){i:Nat}(hi:i<m):BD m T (T.B i)=T.b i:=by
 unfold BD;rw[bP hi fun k G E=>sW fun e=>E (h.inj G hi e)];simp
theorem qy{j:Nat}(h:¬basic m T j):BD m T j=0:=bK fun i hi=>sW fun e=>h ⟨i,hi,e⟩
theorem qx(h:Ok m n T)(j:Nat):0<=BD m T j:=bQ fun i hi=>by
 split
 .exact h.nb i hi
 .exact uT
theorem KI(h:Ok m n T){i:Nat}(hi:i<m)(x:Nat->Rat):sm (fun j=>T.e i j*x j) n=x (T.B i)+sm (fun j=>if sm (fun k=>if T.B k=j then(1:Rat)else 0) m=0 then T.e i j*x j else 0) n:=by
 have hb:∀j,basic m T j->sm (fun k=>if T.B k=j then(1:Rat)else 0) m=1:=by
  rintro j ⟨k,G,rfl⟩;rw[bP G fun q S J=>sW fun e=>J (h.inj S G e)];simp
 have Y:sm (fun j=>T.e i j*x j) n=sm (fun j=>if j=T.B i then x j else 0) n+sm (fun j=>if sm (fun k=>if T.B k=j then(1:Rat)else 0) m=0 then T.e i j*x j else 0) n:=by
  rw[<- bY];refine bU fun j hj=>?_
  by_cases E:basic m T j
  .have O:¬((1:Rat)=0):=by decide
   rw[hb j E,sW O];obtain⟨k,G,rfl⟩:=E;have u:=h.un i k hi G
   by_cases e:i=k
   .subst e;rw[sS rfl]at u;rw[sS rfl,u];grind
   .rw[sW e]at u
    rw[sW fun q=>e (h.inj G hi q).symm,u];grind
  .rw[bK fun k G=>sW fun e=>E ⟨k,G,e⟩,sS rfl,sW fun e=>E ⟨i,hi,e.symm⟩];grind
 rw[Y,bP (h.bn i hi) fun j _ J=>sW J];simp
theorem qw(h:Ok m n T):Sol m n T (BD m T):=fun i hi=>by
 rw[KI h hi,IB h hi,bK fun j S=>?_]
 .grind
 .split
  .rename_i G
   rw[qy,uF];rintro ⟨k,J,rfl⟩;rw[bP J fun q O E=>sW fun e=>E (h.inj O J e)]at G;simp at G
  .rfl
theorem aa7(h:Ok m n T){x:Nat->Rat}(Y:Sol m n T x)(O:∀j,j<n->¬basic m T j->x j=0):∀j,j<n->x j=BD m T j:=fun j hj=>by
 by_cases hb:basic m T j
 .obtain⟨i,hi,rfl⟩:=hb
  have h1:=Y i hi;rw[KI h hi,bK fun q G=>?_]at h1
  .rw[IB h hi];grind
  .split
   .rename_i E
    rw[O q G,uF];rintro ⟨k,S,rfl⟩;rw[bP S fun q G J=>sW fun e=>J (h.inj G S e)]at E;simp at E
   .rfl
 .rw[qy hb];exact O j hj hb
def gm(m:Nat)(T:Tab)(c:Nat->Rat)(j:Nat):Rat:=c j-sm (fun i=>T.e i j*c (T.B i)) m
def ob(n:Nat)(c x:Nat->Rat):Rat:=sm (fun j=>c j*x j) n
def zz(m:Nat)(T:Tab)(c:Nat->Rat):Rat:=sm (fun i=>T.b i*c (T.B i)) m
theorem iy{c x:Nat->Rat}(E:Sol m n T x):ob n c x=zz m T c+ob n (gm m T c) x:=by
 have G:ob n (gm m T c) x=ob n c x-sm (fun j=>sm (fun i=>T.e i j*c (T.B i)) m*x j) n:=by
  unfold ob;rw[<- bM];exact bU fun j _=>by unfold gm;grind
 have J:sm (fun j=>sm (fun i=>T.e i j*c (T.B i)) m*x j) n=zz m T c:=by
  have:sm (fun j=>sm (fun i=>T.e i j*c (T.B i)) m*x j) n=sm (fun j=>sm (fun i=>(T.e i j*x j)*c (T.B i)) m) n:=bU fun j _=>by
   rw[Rat.mul_comm,<- bT];exact bU fun i _=>by grind
  rw[this,<- acw];unfold zz;refine bU fun i hi=>?_
  rw[<- E i hi,Rat.mul_comm,<- bT];exact bU fun j _=>by grind
 rw[G,J];grind
theorem PS(h:Ok m n T)(c:Nat->Rat){k:Nat}(E:k<m):gm m T c (T.B k)=0:=by
 unfold gm;rw[bP E fun i hi G=>by rw[h.un i k hi E,sW G];grind];rw[h.un k k E E,sS rfl];grind
theorem Xb(h:Ok m n T)(c:Nat->Rat):ob n c (BD m T)=zz m T c:=by
 rw[iy (qw h)];have:ob n (gm m T c) (BD m T)=0:=bK fun j _=>by
  by_cases hb:basic m T j
  .obtain⟨i,hi,rfl⟩:=hb
   rw[PS h c hi,Rat.zero_mul]
  .rw[qy hb,uF]
 rw[this];grind
end
end Go.Lp
namespace Go.Lp
def Zr(d:Nat)(w:Nat->Rat):Prop:=∀q,q<d->w q=0
def Lp:Nat->(Nat->Rat)->Prop
 |0,_=>False
 |d+1,w=>Lp d w\/(Zr d w/\0<w d)
def Nn(d:Nat)(w:Nat->Rat):Prop:=Lp d w\/Zr d w
theorem Zr.succ{d:Nat}{w:Nat->Rat}:Zr (d+1) w↔Zr d w/\w d=0 :=
 ⟨fun h=>⟨fun q G=>h q (by omega),h d (by omega)⟩,fun h q G=>by
  rcases xw (xg G)with E|E
  .exact h.1 q E
  .rw[E];exact h.2⟩
theorem Lp.GI{w:Nat->Rat}:∀ {d:Nat},Lp d w->¬Zr d w
 |0,h,_=>h
 |d+1,h,E=>by
  have E:=Zr.succ.mp E;rcases h with h|⟨_,h⟩
  .exact h.GI E.1
  .have:=E.2;grind
theorem acz(w:Nat->Rat):∀d,Lp d w\/Zr d w\/Lp d (fun q=> -w q)
 |0=> .inr (.inl fun q E=>by omega)
 |d+1=>by
  rcases acz w d with h|h|h
  .exact .inl (.inl h)
  .by_cases G:w d=0
   .exact .inr (.inl (Zr.succ.mpr ⟨h,G⟩))
   .by_cases hp:0<w d
    .exact .inl (.inr ⟨h,hp⟩)
    .exact .inr (.inr (.inr ⟨fun q E=>by show -w q=0;rw[h q E];rfl,by show 0< -w d;grind⟩))
  .exact .inr (.inr (.inl h))
theorem Lp.congr{w v:Nat->Rat}:∀ {d:Nat},(∀q,q<d->w q=v q)->Lp d w->Lp d v
 |0,_,h=>h
 |d+1,e,h=>by
  rcases h with h|⟨G,J⟩
  .exact .inl (Lp.congr (fun q E=>e q (by omega)) h)
  .exact .inr ⟨fun q E=>by rw[<- e q (by omega)];exact G q E,by rw[<- e d (by omega)];exact J⟩
theorem Zr.congr{d:Nat}{w v:Nat->Rat}(e:∀q,q<d->w q=v q)(h:Zr d w):Zr d v:=fun q E=>by rw[<- e q E];exact h q E
theorem Zr.add{d:Nat}{w v:Nat->Rat}(h:Zr d w)(G:Zr d v):Zr d fun q=>w q+v q:=fun q E=>by
 show w q+v q=0;rw[h q E,G q E];grind
theorem Lp.JM{w v:Nat->Rat}:∀ {d:Nat},Lp d w->Zr d v->Lp d fun q=>w q+v q
 |d+1,h,E=>by
  have E:=Zr.succ.mp E;rcases h with h|⟨G,J⟩
  .exact .inl (h.JM E.1)
  .exact .inr ⟨G.add E.1,by show 0<w d+v d;rw[E.2];grind⟩
theorem Lp.add{w v:Nat->Rat}:∀ {d:Nat},Lp d w->Lp d v->Lp d fun q=>w q+v q
 |d+1,h,G=>by
  rcases h with h|⟨J,S⟩<;>rcases G with G|⟨E,O⟩
  .exact .inl (h.add G)
  .exact .inl (h.JM E)
  .exact .inl ((G.JM J).congr fun q _=>by grind)
  .exact .inr ⟨J.add E,by show 0<w d+v d;grind⟩
theorem Nn.add{d:Nat}{w v:Nat->Rat}(h:Nn d w)(E:Nn d v):Nn d fun q=>w q+v q:=by
 rcases h with h|h<;>rcases E with E|E
 .exact .inl (h.add E)
 .exact .inl (h.JM E)
 .exact .inl ((E.JM h).congr fun q _=>by grind)
 .exact .inr (h.add E)
theorem Lp.ahE{d:Nat}{w v:Nat->Rat}(h:Lp d w)(E:Nn d v):Lp d fun q=>w q+v q:=by
 rcases E with E|E
 .exact h.add E
 .exact h.JM E
theorem Lp.smul{w:Nat->Rat}{a:Rat}(ha:0<a):∀ {d:Nat},Lp d w->Lp d fun q=>a*w q
 |d+1,h=>by
  rcases h with h|⟨E,G⟩
  .exact .inl (h.smul ha)
  .exact .inr ⟨fun q J=>by show a*w q=0;rw[E q J];grind,Rat.mul_pos ha G⟩
theorem Zr.smul{d:Nat}{w:Nat->Rat}(a:Rat)(h:Zr d w):Zr d fun q=>a*w q:=fun q E=>by show a*w q=0;rw[h q E];grind
theorem Nn.smul{d:Nat}{w:Nat->Rat}{a:Rat}(ha:0<=a)(h:Nn d w):Nn d fun q=>a*w q:=by
 by_cases E:a=0
 .subst E;exact .inr fun q _=>by show 0*w q=0;grind
 .rcases h with h|h
  .exact .inl (h.smul (by grind))
  .exact .inr (h.smul a)
theorem QN{d:Nat}{w:Nat->Rat}(h:¬Lp d w):Nn d fun q=> -w q:=by
 rcases acz w d with E|E|E
 .exact absurd E h
 .exact .inr fun q G=>by show -w q=0;rw[E q G];rfl
 .exact .inl E
theorem JO{d:Nat}{w:Nat->Rat}(h:Nn d fun q=> -w q):¬Lp d w:=fun hp=>by
 have E:=hp.ahE h;exact E.GI fun q _=>by show w q+ -w q=0;grind
theorem Nn.sum{d:Nat}{f:Nat->Nat->Rat}:∀ {n:Nat},(∀j,j<n->Nn d fun q=>f q j)->Nn d fun q=>sm (f q) n
 |0,_=> .inr fun q _=>rfl
 |n+1,h=>(Nn.sum fun j E=>h j (by omega)).add (h n (by omega))
theorem aoG{d n:Nat}{f:Nat->Nat->Rat}(h:Lp d fun q=>sm (f q) n):∃j,j<n/\Lp d fun q=>f q j:=by
 refine zf fun hn=>JO ?_ h
 have E:Nn d fun q=>sm (fun j=> -f q j) n:=Nn.sum fun j G=>QN fun hp=>hn ⟨j,G,hp⟩
 refine E.imp (Lp.congr fun q _=>?_) (Zr.congr fun q _=>?_)
 all_goals
  show sm (fun j=> -f q j) n= -sm (f q) n;have:=bT (-1) (f q) n;rw[show(fun j=> -f q j)=fun j=> -1*f q j by funext j;grind,this];grind
def gv(m:Nat)(T:Tab)(C:Nat->Nat->Rat)(j:Nat):Nat->Rat:=fun q=>gm m T (C q) j
structure Enters (m n d:Nat) (C:Nat->Nat->Rat) (Fr:Nat->Prop) (T:Tab) (s:Nat):Prop where
 lt:s<n
 fr:Fr s
 non:¬basic m T s
 pos:Lp d (gv m T C s)
 low:∀j,j<s->Fr j->¬basic m T j->¬Lp d (gv m T C j)
structure Leaves (m:Nat) (T:Tab) (s r:Nat):Prop where
 lt:r<m
 pos:0<T.e r s
 low:∀i,i<m->0<T.e i s->T.b r*T.e i s<=T.b i*T.e r s
 tie:∀i,i<m->0<T.e i s->T.b r*T.e i s=T.b i*T.e r s->T.B r<=T.B i
def Step(m n d:Nat)(C:Nat->Nat->Rat)(Fr:Nat->Prop)(T T':Tab):Prop:=∃s r,Enters m n d C Fr T s/\Leaves m T s r/\T'=piv T r s
section
variable {m n d:Nat} {C:Nat->Nat->Rat} {Fr:Nat->Prop}
theorem QO{T:Tab}(h:Ok m n T){r s:Nat}(S:r<m)(hs:s<n)(E:Ok m n (piv T r s))(hp:0<T.e r s)(c:Nat->Rat):zz m (piv T r s) c=zz m T c+T.b r / T.e r s*gm m T c s:=by
 have O:T.e r s≠0:=by grind
 rw[<- Xb E c,iy ((TK S O _).mp (qw E))];congr 1;have Y:(piv T r s).B r=s:=by simp[piv]
 have hb:BD m (piv T r s) s=T.b r / T.e r s:=by
  have:=IB E S;rw[Y]at this;rw[this];simp[piv]
 unfold ob;rw[bP hs fun j hj G=>?_,hb,Rat.mul_comm]
 by_cases J:basic m T j
 .obtain⟨i,hi,rfl⟩:=J
  rw[PS h c hi,Rat.zero_mul]
 .rw[qy,uF]
  rintro ⟨i,hi,e⟩;simp only[piv]at e
  split at e
  .exact G e.symm
  .exact J ⟨i,hi,e⟩
theorem qp{T:Tab}{r s:Nat}(G:r<m)(j:Nat):basic m (piv T r s) j↔j=s\/∃i,i<m/\i≠r/\T.B i=j:=by
 constructor
 .rintro ⟨i,hi,e⟩
  simp only[piv]at e
  split at e
  .exact .inl e.symm
  .rename_i E;exact .inr ⟨i,hi,E,e⟩
 .rintro (rfl|⟨i,hi,E,e⟩)
  .exact⟨r,G,by simp[piv]⟩
  .exact⟨i,hi,by simp[piv,E,e]⟩
theorem ahF{T:Tab}(h:Ok m n T){r s:Nat}(O:r<m)(E:T.b r=0)(j:Nat):BD m (piv T r s) j=BD m T j:=by
 unfold BD;refine bU fun i hi=>?_
 by_cases e:i=r
 .subst e
  have G:(piv T i s).b i=0:=by
   simp only[piv,if_true,E];rw[vM];grind
  rw[G,E];simp
 .have G:(piv T r s).b i=T.b i:=by
   simp only[piv,sW e,E];rw[vM];grind
  have J:(piv T r s).B i=T.B i:=by simp only[piv,sW e]
  rw[G,J]
def dir(m:Nat)(T:Tab)(s:Nat)(j:Nat):Rat:=(if j=s then 1 else 0) - sm (fun i=>if T.B i=j then T.e i s else 0) m
theorem NG{T:Tab}{s:Nat}(hs:¬basic m T s):dir m T s s=1:=by
 unfold dir;rw[sS rfl,bK fun i hi=>sW fun e=>hs ⟨i,hi,e⟩];grind
theorem Xc{T:Tab}(h:Ok m n T){s:Nat}(hs:¬basic m T s){i:Nat}(hi:i<m):dir m T s (T.B i)= -T.e i s:=by
 unfold dir;rw[sW fun e=>hs ⟨i,hi,e⟩,bP hi fun k G E=>sW fun e=>E (h.inj G hi e),sS rfl];grind
theorem oN{T:Tab}{s j:Nat}(G:¬basic m T j)(E:j≠s):dir m T s j=0:=by
 unfold dir;rw[sW E,bK fun i hi=>sW fun e=>G ⟨i,hi,e⟩];grind
theorem IC{T:Tab}(h:Ok m n T){s:Nat}(hs:s<n)(G:¬basic m T s)(a:Rat):Sol m n T fun j=>BD m T j+a*dir m T s j:=fun i hi=>by
 have O:sm (fun j=>T.e i j*(BD m T j+a*dir m T s j)) n=sm (fun j=>T.e i j*BD m T j) n+a*sm (fun j=>T.e i j*dir m T s j) n:=by
  rw[<- bT,<- bY];exact bU fun j _=>by grind
 have S:sm (fun j=>T.e i j*dir m T s j) n=0:=by
  have q:sm (fun j=>T.e i j*dir m T s j) n=sm (fun j=>if j=s then T.e i j else 0) n-sm (fun j=>if j=T.B i then T.e i s else 0) n:=by
   rw[<- bM];refine bU fun j Y=>?_
   by_cases hb:basic m T j
   .obtain⟨k,J,rfl⟩:=hb
    rw[Xc h G J,h.un i k hi J,sW fun e=>G ⟨k,J,e⟩]
    by_cases e:i=k
    .subst e;rw[sS rfl,sS rfl];grind
    .rw[sW e,sW fun q=>e (h.inj J hi q).symm];grind
   .have E:¬j=T.B i:=fun e=>hb ⟨i,hi,e.symm⟩
    by_cases e:j=s
    .subst e;rw[NG hb,sS rfl,sW E];grind
    .rw[oN hb e,sW e,sW E];grind
  rw[q,bP hs fun j _ E=>sW E,bP (h.bn i hi) fun j _ E=>sW E];simp only[if_true];grind
 rw[O,qw h i hi,S];grind
end
end Go.Lp
namespace Go.Lp
section
variable {m n d:Nat} {C:Nat->Nat->Rat} {Fr:Nat->Prop}
theorem Step.ok{T T':Tab}(h:Ok m n T)(hs:Step m n d C Fr T T'):Ok m n T':=by
 obtain⟨s,r,G,E,rfl⟩:=hs;exact aoF h E.lt G.lt E.pos fun i hi hp=>E.low i hi hp
structure Chain (m n d:Nat) (C:Nat->Nat->Rat) (Fr:Nat->Prop) (f:Nat->Tab) (s r:Nat->Nat) (a b:Nat):Prop where
 ok:∀i,a<=i->i<=b->Ok m n (f i)
 en:∀i,a<=i->i<b->Enters m n d C Fr (f i) (s i)
 lv:∀i,a<=i->i<b->Leaves m (f i) (s i) (r i)
 nx:∀i,a<=i->i<b->f (i+1)=piv (f i) (r i) (s i)
variable {f:Nat->Tab} {s r:Nat->Nat} {a b:Nat}
def zv(m:Nat)(T:Tab)(C:Nat->Nat->Rat):Nat->Rat:=fun q=>zz m T (C q)
theorem Chain.mono(h:Chain m n d C Fr f s r a b){i j:Nat}(ha:a<=i)(J:i<=j)(hb:j<=b):Nn d fun q=>zv m (f j) C q-zv m (f i) C q:=by
 induction j with
 |zero=>obtain rfl:i=0:=by omega
        exact .inr fun q _=>by show _ - _=_;grind
 |succ j O=>
  by_cases e:i=j+1
  .subst e;exact .inr fun q _=>by show _ - _=_;grind
  .have S:=O (by omega) (by omega)
   have E:=h.ok j (by omega) (by omega);have G:=h.ok (j+1) (by omega) (by omega);have en:=h.en j (by omega) (by omega);have lv:=h.lv j (by omega) (by omega);rw[h.nx j (by omega) (by omega)]at G⊢;have Y:0<=(f j).b (r j) / (f j).e (r j) (s j):=by
    rw[vM];exact xQ (E.nb _ lv.lt) (vY (Rat.inv_pos.mpr lv.pos))
   have h2:=Nn.smul (d:=d) (w:=gv m (f j) C (s j)) Y (.inl en.pos);have h3:=S.add h2;refine h3.imp (Lp.congr fun q _=>?_) (Zr.congr fun q _=>?_)
   all_goals
    have:=QO E lv.lt en.lt G lv.pos (C q);unfold zv gv;rw[this];grind
theorem Chain.flat(h:Chain m n d C Fr f s r a b)(O:Zr d fun q=>zv m (f b) C q-zv m (f a) C q){i:Nat}(ha:a<=i)(hb:i<b):(f i).b (r i)=0:=by
 have E:=h.ok i ha (by omega);have G:=h.ok (i+1) (by omega) (by omega);have en:=h.en i ha hb;have lv:=h.lv i ha hb;refine zf fun h0=>?_
 have J:0<(f i).b (r i) / (f i).e (r i) (s i):=by
  rw[vM];have:=E.nb _ lv.lt;exact Rat.mul_pos (by grind) (Rat.inv_pos.mpr lv.pos)
 have S:=h.mono (zq a) ha (by omega);have Y:=h.mono (i:=i+1) (j:=b) (by omega) (by omega) (zq _);have h3:=(Lp.smul (d:=d) (w:=gv m (f i) C (s i)) J en.pos).ahE (S.add Y);refine h3.GI (O.congr fun q _=>?_);rw[h.nx i ha hb]at G⊢;have:=QO E lv.lt en.lt G lv.pos (C q);unfold zv gv at *;rw[this];grind
theorem Chain.still(h:Chain m n d C Fr f s r a b)(E:Zr d fun q=>zv m (f b) C q-zv m (f a) C q){i:Nat}(ha:a<=i)(hb:i<=b)(j:Nat):BD m (f i) j=BD m (f a) j:=by
 induction i with
 |zero=>obtain rfl:a=0:=by omega
        rfl
 |succ i G=>
  by_cases e:a=i+1
  .rw[e]
  .rw[h.nx i (by omega) (by omega),ahF (h.ok i (by omega) (by omega)) (h.lv i (by omega) (by omega)).lt (h.flat E (by omega) (by omega))]
   exact G (by omega) (by omega)
theorem Chain.Xd(h:Chain m n d C Fr f s r a b){j:Nat}(E:∀i,a<=i->i<b->s i≠j){i k:Nat}(ha:a<=i)(O:i<=k)(hb:k<=b)(J:¬basic m (f i) j):¬basic m (f k) j:=by
 induction k with
 |zero=>obtain rfl:i=0:=by omega
        exact J
 |succ k S=>
  by_cases e:i=k+1
  .rw[<- e];exact J
  .have Y:=S (by omega) (by omega)
   rw[h.nx k (by omega) (by omega),qp (h.lv k (by omega) (by omega)).lt];rintro (G|⟨q,hq,_,G⟩)
   .exact E k (by omega) (by omega) G.symm
   .exact Y ⟨q,hq,G⟩
theorem Chain.NH(h:Chain m n d C Fr f s r a b){j:Nat}(E:∀i,a<=i->i<b->(f i).B (r i)≠j){i k:Nat}(ha:a<=i)(O:i<=k)(hb:k<=b)(J:basic m (f i) j):basic m (f k) j:=by
 induction k with
 |zero=>obtain rfl:i=0:=by omega
        exact J
 |succ k S=>
  by_cases e:i=k+1
  .rw[<- e];exact J
  .have Y:=S (by omega) (by omega)
   rw[h.nx k (by omega) (by omega),qp (h.lv k (by omega) (by omega)).lt];obtain⟨q,hq,G⟩:=Y;refine .inr ⟨q,hq,fun e=>?_,G⟩;rw[e]at G;exact E k (by omega) (by omega) G
theorem greatest{p:Nat->Prop}{N:Nat}(G:∀j,p j->j<N){j:Nat}(J:p j):∃t,p t/\∀k,p k->k<=t:=by
 induction N generalizing j with
 |zero=>exact absurd (G j J) (by omega)
 |succ N O=>
  by_cases h:p N
  .exact⟨N,h,fun k E=>by have:=G k E;omega⟩
  .exact O (fun k E=>by
    have:=G k E;have:k≠N:=fun e=>h (e ▸ E)
    omega) J
theorem JQ(h:Chain m n d C Fr f s r a b){i k:Nat}(ha:a<=i)(E:i<=k)(hb:k<=b)(x:Nat->Rat):Sol m n (f k) x↔Sol m n (f i) x:=by
 induction k with
 |zero=>obtain rfl:i=0:=by omega
        exact Iff.rfl
 |succ k G=>
  by_cases e:i=k+1
  .rw[<- e]
  .have lv:=h.lv k (by omega) (by omega)
   have hp:=lv.pos;rw[h.nx k (by omega) (by omega),TK lv.lt (by grind)];exact G (by omega) (by omega)
theorem ahG(h:Chain m n d C Fr f s r a b)(d1:a<b)(b4:∀j,j<n->(basic m (f a) j↔basic m (f b) j)):False:=by
 have a2:∀i,a<=i->i<=b->∀j,basic m (f i) j->j<n:=fun i ha hb j S=>by
  obtain⟨q,hq,rfl⟩:=S;exact(h.ok i ha hb).bn q hq
 have a6:∀j,(basic m (f a) j↔basic m (f b) j):=fun j=>
  ⟨fun S=>(b4 j (a2 a (zq _) (by omega) j S)).mp S,fun S=>(b4 j (a2 b (by omega) (zq _) j S)).mpr S⟩
 have b5:=h.ok a (zq _) (by omega);have b6:=h.ok b (by omega) (zq _);have a7:∀j,j<n->BD m (f b) j=BD m (f a) j:=aa7 b5 ((JQ h (zq _) (by omega) (zq _) _).mp (qw b6)) fun j _ S=>qy fun hb=>S ((a6 j).mpr hb)
 have hz:Zr d fun q=>zv m (f b) C q-zv m (f a) C q:=fun q _=>by
  show zz m (f b) (C q) - zz m (f a) (C q)=0;rw[<- Xb b6,<- Xb b5];have:ob n (C q) (BD m (f b))=ob n (C q) (BD m (f a)):=bU fun j S=>by rw[a7 j S]
  rw[this];grind
 obtain⟨t,⟨u,G,a8,b7⟩,a5⟩:=greatest (p:=fun j=>∃i,a<=i/\i<b/\s i=j) (N:=n) (fun j ⟨i,h1,h2,h3⟩=>h3 ▸ (h.en i h1 h2).lt) (j:=s a) ⟨a,zq _,d1,rfl⟩;have Y:=h.en u G a8;rw[b7]at Y;have d2:=h.ok u G (by omega);obtain⟨v,J,a9,a3⟩:∃v,a<=v/\v<b/\(f v).B (r v)=t:=by
  refine zf fun hn=>Y.non ?_
  have E:∀i,a<=i->i<b->(f i).B (r i)≠t:=fun i h1 h2 h3=>hn ⟨i,h1,h2,h3⟩
  have h1:basic m (f (u+1)) t:=by
   rw[h.nx u G a8,qp (h.lv u G a8).lt];exact .inl b7.symm
  have h2:=h.NH E (i:=u+1) (k:=b) (by omega) (by omega) (zq _) h1;exact h.NH E (zq a) G (by omega) ((a6 t).mpr h2)
 have env:=h.en v J a9;have a1:=h.lv v J a9;have a0:=h.ok v J (by omega);have d3:∀j,basic m (f v) j->¬basic m (f u) j->∃i,a<=i/\i<b/\s i=j:=fun j hv hu=>by
  refine zf fun hn=>?_
  have E:∀i,a<=i->i<b->s i≠j:=fun i h1 h2 h3=>hn ⟨i,h1,h2,h3⟩
  have h1:=h.Xd E G (by omega) (zq b) hu;have h2:=h.Xd E (zq a) J (by omega) fun hb=>h1 ((a6 j).mp hb)
  exact h2 hv
 have zero:∀ {i:Nat},i<m->¬basic m (f u) ((f v).B i)->(f v).b i=0:=fun {i} hi hu=>by
  rw[<- IB a0 hi,h.still hz J (by omega),<- h.still hz G (by omega)];exact qy hu
 have b8:=IC a0 env.lt env.non 1;have b9:=qw a0;have c0:∀x,Sol m n (f v) x->Sol m n (f u) x:=fun x hx=>by
  rcases Nat.le_total u v with b3|b3
  .exact(JQ h G b3 (by omega) x).mp hx
  .exact(JQ h J b3 (by omega) x).mpr hx
 have key:∀q,gm m (f v) (C q) (s v)=sm (fun j=>gm m (f u) (C q) j*dir m (f v) (s v) j) n:=fun q=>by
  have d4:∀T,ob n (gm m T (C q)) (fun j=>BD m (f v) j+1*dir m (f v) (s v) j)=ob n (gm m T (C q)) (BD m (f v))+ob n (gm m T (C q)) (dir m (f v) (s v)):=fun T=>by
   unfold ob;rw[<- bY];exact bU fun j _=>by grind
  have e1:=iy (c:=C q) b8;have e2:=iy (c:=C q) b9;have e3:=iy (c:=C q) (c0 _ b8);have e4:=iy (c:=C q) (c0 _ b9);rw[d4]at e1 e3;have e5:ob n (gm m (f v) (C q)) (dir m (f v) (s v))=gm m (f v) (C q) (s v):=by
   unfold ob;rw[bP env.lt fun j S E=>?_,NG env.non,Rat.mul_one]
   by_cases hb:basic m (f v) j
   .obtain⟨i,hi,rfl⟩:=hb
    rw[PS a0 _ hi,Rat.zero_mul]
   .rw[oN hb E,uF]
  have e6:ob n (gm m (f u) (C q)) (dir m (f v) (s v))=sm (fun j=>gm m (f u) (C q) j*dir m (f v) (s v) j) n:=rfl;rw[<- e6,<- e5];grind
 have c2:Lp d fun q=>sm (fun j=>gm m (f u) (C q) j*dir m (f v) (s v) j) n:=env.pos.congr fun q _=>key q
 obtain⟨j,S,O⟩:=aoG c2;have c3:dir m (f v) (s v) j≠0:=fun e=>O.GI fun q _=>by show _*_=(0:Rat);rw[e,uF]
 have a4:¬basic m (f u) j:=by
  rintro ⟨i,hi,rfl⟩;exact O.GI fun q _=>by show _*_=(0:Rat);rw[PS d2 _ hi,Rat.zero_mul]
 by_cases c4:basic m (f v) j
 .obtain⟨i,hi,rfl⟩:=c4
  rw[Xc a0 env.non hi]at O c3;obtain⟨w,c5,c6,c7⟩:=d3 _ ⟨i,hi,rfl⟩ a4;have hle:=a5 _ ⟨w,c5,c6,c7⟩
  by_cases c8:(f v).B i=t
  ·-- t itself
   have d5:i=r v:=a0.inj hi a1.lt (c8.trans a3.symm);subst d5;have hp:=a1.pos;refine JO (w:=fun q=>gm m (f u) (C q) ((f v).B (r v))* -(f v).e (r v) (s v)) ?_ O;rw[c8]at *;have:=Nn.smul (d:=d) (vY hp) (.inl Y.pos);exact this.imp (Lp.congr fun q _=>by unfold gv;grind) (Zr.congr fun q _=>by unfold gv;grind)
  .have a2:(f v).B i<t:=by omega
   have d6:Fr ((f v).B i):=by have:=(h.en w c5 c6).fr;rwa [c7]at this
   have c9:=Y.low _ a2 d6 a4;have hp:0<(f v).e i (s v):=by
    refine zf fun hq=>c9 ?_
    have d0:0< -(f v).e i (s v):=by grind
    have:=Lp.smul (d:=d) (Rat.inv_pos.mpr d0) O;exact this.congr fun q _=>by unfold gv;grind
   have b1:=zero hi a4;have b2:=zero a1.lt (by rw[a3];exact Y.non);have:=a1.tie i hi hp (by rw[b1,b2];grind);rw[a3]at this;omega
 .have d7:j=s v:=zf fun E=>c3 (oN c4 E)
  subst d7;rw[NG env.non]at O;have hle:=a5 _ ⟨v,J,a9,rfl⟩;have E:s v≠t:=fun e=>env.non (by rw[e,<- a3];exact⟨r v,a1.lt,rfl⟩)
  exact Y.low _ (by omega) env.fr a4 (O.congr fun q _=>by unfold gv;grind)
end
end Go.Lp
namespace Go.Lp
def code(p:Nat->Bool):Nat->Nat
 |0=>0
 |n+1=>code p n+(if p n then 2^n else 0)
theorem LW(p:Nat->Bool):∀n,code p n<2^n
 |0=>by simp[code]
 |n+1=>by
  have:=LW p n;unfold code;rw[um]
  split<;>omega
theorem code_inj{p q:Nat->Bool}:∀ {n:Nat},code p n=code q n->∀j,j<n->p j=q j
 |0,_,j,hj=>by omega
 |n+1,h,j,hj=>by
  have S:=LW p n;have Y:=LW q n;unfold code at h;have G:p n=q n:=by
   cases hp:p n<;>cases J:q n
   .rfl
   .simp only[hp,J,yL,if_false,if_true]at h;omega
   .simp only[hp,J,yL,if_false,if_true]at h;omega
   .rfl
  have O:code p n=code q n:=by rw[G]at h;omega
  rcases xw (xg hj)with E|E
  .exact code_inj O j E
  .rw[E];exact G
theorem ahI:∀(N:Nat) (g:Nat->Nat),(∀i,i<=N->g i<N)->∃i j,i<j/\j<=N/\g i=g j
 |0,g,h=>absurd (h 0 (zq _)) (by omega)
 |N+1,g,h=>by
  by_cases hc:∃i,i<=N/\g i=g (N+1)
  .obtain⟨i,hi,e⟩:=hc
   exact⟨i,N+1,by omega,zq _,e⟩
  .have hl:=h (N+1) (zq _)
   have E:∀i,i<=N->g i≠g (N+1):=fun i hi e=>hc ⟨i,hi,e⟩
   obtain⟨i,j,G,O,e⟩:=ahI N (fun i=>if g i=N then g (N+1)else g i) (fun i hi=>by
    have S:=h i (by omega);have Y:=E i hi;show(if g i=N then g (N+1)else g i)<N
    split<;>omega)
   refine⟨i,j,G,by omega,?_⟩;have S:=E i (by omega);have Y:=E j O;have J:(if g i=N then g (N+1)else g i)=(if g j=N then g (N+1)else g j):=e
   split at J<;>split at J<;>omega
section
variable {m n d:Nat} {C:Nat->Nat->Rat} {Fr:Nat->Prop}
def aeX(m n d:Nat)(C:Nat->Nat->Rat)(Fr:Nat->Prop):Nat->Tab->Prop
 |0,_=>False
 |k+1,T=>∀T',Step m n d C Fr T T'->aeX m n d C Fr k T'
theorem Xe:∀ {k:Nat} {T:Tab},¬aeX m n d C Fr k T->∃f:Nat->Tab,f 0=T/\∀i,i<k->Step m n d C Fr (f i) (f (i+1))
 |0,T,_=>⟨fun _=>T,rfl,fun i h=>by omega⟩
 |k+1,T,h=>by
  unfold aeX at h;obtain⟨T',E⟩:=Classical.not_forall.mp h;obtain⟨G,J⟩:=Classical.not_imp.mp E;obtain⟨f,O,S⟩:=Xe J;refine⟨fun i=>if i=0 then T else f (i-1),rfl,fun i hi=>?_⟩;cases i with
  |zero=>simpa[O]using G
  |succ i=>simpa using S i (by omega)
theorem acA{T:Tab}(h:Ok m n T):aeX m n d C Fr (2^n) T:=by
 refine zf fun hn=>?_
 obtain⟨f,Y,hs⟩:=Xe hn;have J:∀i,i<=2^n->Ok m n (f i):=fun i=>by
  induction i with
  |zero=>intro _;rw[Y];exact h
  |succ i ih=>intro hi;exact(hs i (by omega)).ok (ih (by omega))
 have:∃E:Nat->Nat×Nat,∀i,i<2^n->Enters m n d C Fr (f i) (E i).1/\Leaves m (f i) (E i).1 (E i).2/\f (i+1)=piv (f i) (E i).2 (E i).1:=by
  refine⟨fun i=>if hi:i<2^n then ⟨(hs i hi).choose,(hs i hi).choose_spec.choose⟩else(0,0),fun i hi=>?_⟩;simp only[dif_pos hi];exact(hs i hi).choose_spec.choose_spec
 obtain⟨E,G⟩:=this;have dec:∀i,∃p:Nat->Bool,∀j,p j=true↔basic m (f i) j:=fun i=>by
  refine⟨fun j=>@decide (basic m (f i) j) (Classical.propDecidable _),fun j=>?_⟩;simp
 obtain⟨i,j,O,hj,e⟩:=ahI (2^n) (fun i=>code (dec i).choose n) (fun i _=>LW _ _);have hb:∀k,k<n->(basic m (f i) k↔basic m (f j) k):=fun k hk=>by
  rw[<- (dec i).choose_spec k,<- (dec j).choose_spec k,code_inj e k hk]
 exact ahG (m:=m) (n:=n) (d:=d) (C:=C) (Fr:=Fr) (f:=f) (s:=fun i=>(E i).1) (r:=fun i=>(E i).2) (a:=i) (b:=j)
  ⟨fun k _ S=>J k (by omega),fun k _ S=>(G k (by omega)).1,fun k _ S=>(G k (by omega)).2.1,fun k _ S=>(G k (by omega)).2.2⟩ O hb
def ahJ(m n:Nat)(T:Tab)(x:Nat->Rat):Prop:=Sol m n T x/\∀j,j<n->0<=x j
theorem ahK{T:Tab}(h:Ok m n T):ahJ m n T (BD m T):=⟨qw h,fun j _=>qx h j⟩
theorem optimal{T:Tab}(Y:Ok m n T)(E:∀j,j<n->Fr j->¬basic m T j->¬Lp d (gv m T C j)){x:Nat->Rat}(O:ahJ m n T x)(G:∀j,j<n->¬Fr j->¬basic m T j->x j=0) :
  Nn d fun q=>zz m T (C q) - ob n (C q) x:=by
 have h1:Nn d fun q=>sm (fun j=> -(gm m T (C q) j*x j)) n:=Nn.sum fun j J=>by
  by_cases hb:basic m T j
  .obtain⟨i,hi,rfl⟩:=hb
   exact .inr fun q _=>by show -(gm m T (C q) (T.B i)*x (T.B i))=0;rw[PS Y _ hi];grind
  .by_cases S:Fr j
   .have:=Nn.smul (d:=d) (O.2 j J) (QN (E j J S hb))
    exact this.imp (Lp.congr fun q _=>by unfold gv;grind) (Zr.congr fun q _=>by unfold gv;grind)
   .exact .inr fun q _=>by show -(gm m T (C q) j*x j)=0;rw[G j J S hb];grind
 refine h1.imp (Lp.congr fun q _=>?_) (Zr.congr fun q _=>?_)
 all_goals
  have e1:=iy (c:=C q) O.1;have e2:=bT (-1) (fun j=>gm m T (C q) j*x j) n;have e3:sm (fun j=> -(gm m T (C q) j*x j)) n=sm (fun j=> -1*(gm m T (C q) j*x j)) n:=bU fun j _=>by grind
  show sm (fun j=> -(gm m T (C q) j*x j)) n=_;rw[e3,e2,e1];unfold ob;grind
theorem unbounded{T:Tab}(h:Ok m n T){s:Nat}(hs:s<n)(E:¬basic m T s)(J:∀i,i<m->T.e i s<=0)(c:Nat->Rat)(a:Rat)(ha:0<=a) :
  ∃x,ahJ m n T x/\ob n c x=zz m T c+a*gm m T c s:=by
 refine⟨fun j=>BD m T j+a*dir m T s j,⟨IC h hs E a,fun j O=>?_⟩,?_⟩
 .show 0<=BD m T j+a*dir m T s j
  by_cases hb:basic m T j
  .obtain⟨i,hi,rfl⟩:=hb
   rw[Xc h E hi,IB h hi];have S:=h.nb i hi;have Y:=xQ ha (show 0<= -T.e i s by have:=J i hi;grind);grind
  .by_cases e:j=s
   .subst e;rw[NG E,qy hb];grind
   .rw[oN hb e,qy hb];grind
 .rw[iy (IC h hs E a)]
  congr 1;unfold ob;rw[bP hs fun j O G=>?_]
  .show gm m T c s*(BD m T s+a*dir m T s s)=_
   rw[NG E,qy E];grind
  .by_cases hb:basic m T j
   .obtain⟨i,hi,rfl⟩:=hb
    rw[PS h _ hi,Rat.zero_mul]
   .show gm m T c j*(BD m T j+a*dir m T s j)=0
    rw[oN hb G,qy hb];grind
end
end Go.Lp
namespace Go.Lp
def sg(k:Nat):Rat:=if k%2=0 then 1 else -1
theorem alH(k:Nat):sg (k+1)= -sg k:=by
 unfold sg
 by_cases h:k%2=0
 .rw[sS h,sW (by omega)]
 .rw[sW h,sS (by omega)];rfl
def rem(i:Nat)(V:Nat->Nat->Rat):Nat->Nat->Rat:=fun p=>V (if p<i then p else p+1)
def put(V:Nat->Nat->Rat)(p:Nat)(u:Nat->Rat):Nat->Nat->Rat:=fun q=>if q=p then u else V q
def CW:Nat->(Nat->Nat->Rat)->Rat
 |0,_=>1
 |m+1,V=>sm (fun i=>sg (i+m)*V i m*CW m (rem i V)) (m+1)
theorem ou:∀ {m:Nat} {V W:Nat->Nat->Rat},(∀i k,i<m->k<m->V i k=W i k)->CW m V=CW m W
 |0,_,_,_=>rfl
 |m+1,V,W,h=>by
  unfold CW;refine bU fun i hi=>?_
  rw[h i m hi (by omega),ou (m:=m) (V:=rem i V) (W:=rem i W) fun p k hp E=>?_];unfold rem;exact h _ k (by split<;>omega) (by omega)
theorem fP(V:Nat->Nat->Rat)(p:Nat)(u:Nat->Rat):rem p (put V p u)=rem p V:=by
 funext q;unfold rem put;rw[sW]
 split<;>omega
theorem fQ{V:Nat->Nat->Rat}{i p:Nat}(u:Nat->Rat)(h:i≠p):rem i (put V p u)=put (rem i V) (if p<i then p else p-1) u:=by
 funext q;unfold rem put
 by_cases e:(if q<i then q else q+1)=p
 .rw[sS e,sS]
  split at e<;>split<;>omega
 .have E:¬q=(if p<i then p else p-1):=by split at e<;>split<;>omega
  rw[sW e,sW E]
theorem LX:∀ {m:Nat} (V:Nat->Nat->Rat) {p:Nat} (_:p<m) (a b:Rat) (u w:Nat->Rat),CW m (put V p fun k=>a*u k+b*w k)=a*CW m (put V p u)+b*CW m (put V p w)
 |m+1,V,p,hp,a,b,u,w=>by
  unfold CW;rw[<- bT,<- bT,<- bY];refine bU fun i hi=>?_
  by_cases e:i=p
  .subst e
   rw[fP,fP,fP];simp only[put,if_true];grind
  .rw[fQ _ e,fQ _ e,fQ _ e,LX (m:=m) (rem i V) (by split<;>omega) a b u w]
   simp only[put,sW e];grind
theorem gQ(V:Nat->Nat->Rat)(p:Nat):put V p (V p)=V:=by
 funext q;unfold put
 split
 .rename_i h;rw[h]
 .rfl
theorem gW(V:Nat->Nat->Rat){p q:Nat}(h:p≠q)(u w:Nat->Rat):put (put V p u) q w=put (put V q w) p u:=by
 funext i;unfold put
 by_cases e:i=q
 .subst e;rw[sS rfl,sW (yu h),sS rfl]
 .rw[sW e,sW e]
theorem TL(m:Nat)(V:Nat->Nat->Rat){p:Nat}(hp:p<m)(u w:Nat->Rat):CW m (put V p fun k=>u k+w k)=CW m (put V p u)+CW m (put V p w):=by
 have:=LX V hp 1 1 u w;rw[Rat.one_mul,Rat.one_mul]at this;rw[<- this];congr 2;funext k;grind
theorem LY:∀ {m:Nat} {V:Nat->Nat->Rat} {p:Nat},p+1<m->(∀k,k<m->V p k=V (p+1) k)->CW m V=0
 |m+1,V,p,hp,h=>by
  unfold CW;have other:∀i,i<m+1->i≠p->i≠p+1->sg (i+m)*V i m*CW m (rem i V)=0:=fun i hi J Y=>by
   have:CW m (rem i V)=0:=by
    by_cases a0:i<p
    .refine LY (p:=p-1) (by omega) fun k hk=>?_
     unfold rem;rw[sW (by omega),sW (by omega)];have:=h k (by omega);rw[show p-1+1=p by omega];exact this
    .refine LY (p:=p) (by omega) fun k hk=>?_
     unfold rem;rw[sS (by omega),sS (by omega)];exact h k (by omega)
   rw[this,uF]
  have G:∀(f:Nat->Rat) (n:Nat),p+1<n->(∀i,i<n->i≠p->i≠p+1->f i=0)->sm f n=f p+f (p+1):=by
   intro f n hn hz;have e:sm f n=sm (fun i=>if i=p then f i else 0) n+sm (fun i=>if i=p+1 then f i else 0) n:=by
    rw[<- bY];refine bU fun i hi=>?_
    by_cases O:i=p
    .rw[sS O,sW (by omega)];grind
    .rw[sW O]
     by_cases S:i=p+1
     .rw[sS S];grind
     .rw[sW S,hz i hi O S];grind
   rw[e,bP (k:=p) (by omega) fun i _ E=>sW E,bP (k:=p+1) hn fun i _ E=>sW E,sS rfl,sS rfl]
  rw[G _ _ hp other];have hm:CW m (rem p V)=CW m (rem (p+1) V):=ou fun q k hq hk=>by
   unfold rem
   by_cases J:q<p
   .rw[sS J,sS (by omega)]
   .rw[sW J]
    by_cases Y:q=p
    .subst Y;rw[sS (by omega)];exact(h k (by omega)).symm
    .rw[sW (by omega)]
  rw[hm,h m (by omega),show p+1+m=p+m+1 by omega,alH];grind
theorem ahL{m:Nat}{V:Nat->Nat->Rat}{p:Nat}(hp:p+1<m)(u w:Nat->Rat):CW m (put (put V p u) (p+1) w)= -CW m (put (put V p w) (p+1) u):=by
 have E:p≠p+1:=by omega
 have z:∀x:Nat->Rat,CW m (put (put V p x) (p+1) x)=0:=fun x=>LY hp fun k _=>by
  unfold put;rw[sW E,sS rfl,sS rfl]
 have h:=z fun k=>u k+w k
 rw[TL m _ hp,gW _ E,TL m _ (by omega),gW _ E,TL m _ (by omega),gW _ (yu E),gW _ (yu E),gW _ (yu E) ,gW _ (yu E)]at h;have:=z u;have:=z w;grind
theorem put_eq(V:Nat->Nat->Rat)(p q:Nat):put (put V p (V p)) q (V q)=V:=by rw[gQ,gQ]
theorem TM{m:Nat}:∀(g:Nat) {V:Nat->Nat->Rat} {p:Nat},p+1+g<m->(∀k,k<m->V p k=V (p+1+g) k)->CW m V=0
 |0,V,p,hp,h=>LY hp h
 |g+1,V,p,hp,h=>by
  have e:=ahL (m:=m) (V:=V) (p:=p+1+g) (by omega) (V (p+1+g)) (V (p+1+g+1));rw[put_eq]at e;rw[e,TM g (p:=p) (by omega) fun k E=>?_]
  .rfl
  .have G:p≠p+1+g+1:=by omega
   have J:p≠p+1+g:=by omega
   have O:p+1+g≠p+1+g+1:=by omega
   unfold put;rw[sW G,sW J,sW O,sS rfl];exact h k E
theorem aoH{m:Nat}{V:Nat->Nat->Rat}{p q:Nat}(hp:p<m)(O:q<m)(E:p≠q)(h:∀k,k<m->V p k=V q k):CW m V=0:=by
 rcases Nat.lt_or_gt_of_ne E with G|G
 .exact TM (q-p-1) (p:=p) (by omega) fun k J=>by rw[show p+1+(q-p-1)=q by omega];exact h k J
 .exact TM (p-q-1) (p:=q) (by omega) fun k J=>by rw[show q+1+(p-q-1)=p by omega];exact(h k J).symm
theorem acB{m:Nat}(V:Nat->Nat->Rat){p:Nat}(hp:p<m)(c:Nat->Rat)(W:Nat->Nat->Rat):∀n,CW m (put V p fun k=>sm (fun j=>c j*W j k) n)=sm (fun j=>c j*CW m (put V p (W j))) n
 |0=>by
  have h:=LX V hp 0 0 (fun _=>0) (fun _=>0);have e:(fun k:Nat=>(0:Rat)*(fun _:Nat=>(0:Rat)) k+0*(fun _:Nat=>(0:Rat)) k)=fun k=>sm (fun j=>c j*W j k) 0:=by funext k;unfold sm;grind
  rw[e]at h;rw[h];unfold sm;grind
 |n+1=>by
  have h:=LX V hp 1 (c n) (fun k=>sm (fun j=>c j*W j k) n) (W n);have e:(fun k:Nat=>(1:Rat)*(fun k=>sm (fun j=>c j*W j k) n) k+c n*W n k)=fun k=>sm (fun j=>c j*W j k) (n+1):=by funext k;show 1*sm _ n+_=sm _ n+_;grind
  rw[e,acB V hp c W n]at h;rw[h];show _=sm _ n+_;grind
theorem TN{m:Nat}(V:Nat->Nat->Rat){i:Nat}(hi:i<m)(c:Nat->Rat)(w:Nat->Rat)(hw:∀k,k<m->w k=sm (fun p=>c p*V p k) m):CW m (put V i w)=c i*CW m V:=by
 have e:CW m (put V i w)=CW m (put V i fun k=>sm (fun p=>c p*V p k) m):=ou fun q k _ G=>by
  unfold put
  split
  .exact hw k G
  .rfl
 rw[e,acB V hi c V,bP hi fun p hp E=>?_,gQ];rw[aoH (p:=i) (q:=p) hi hp (yu E) fun k _=>?_,uF];unfold put;rw[sS rfl,sW E]
def U_(q:Rat):Prop:=∃z:Int,q=z
theorem U_.add{a b:Rat}(h:U_ a)(E:U_ b):U_ (a+b):=by
 obtain⟨x,rfl⟩:=h;obtain⟨y,rfl⟩:=E;exact⟨x+y,by simp⟩
theorem U_.mul{a b:Rat}(h:U_ a)(E:U_ b):U_ (a*b):=by
 obtain⟨x,rfl⟩:=h;obtain⟨y,rfl⟩:=E;exact⟨x*y,by simp⟩
theorem U_.sum{f:Nat->Rat}:∀ {n:Nat},(∀j,j<n->U_ (f j))->U_ (sm f n)
 |0,_=>⟨0,rfl⟩
 |n+1,h=>(U_.sum fun j E=>h j (by omega)).add (h n (by omega))
theorem aoI(k:Nat):U_ (sg k):=by
 unfold sg
 split
 .exact⟨1,rfl⟩
 .exact⟨-1,rfl⟩
theorem anl:∀ {m:Nat} {V:Nat->Nat->Rat},(∀i k,i<m->k<m->U_ (V i k))->U_ (CW m V)
 |0,_,_=>⟨1,rfl⟩
 |m+1,V,h=>U_.sum fun i hi=>((aoI _).mul (h i m hi (by omega))).mul (anl fun p k hp E=>h _ k (by split<;>omega) (by omega))
def Bd(M a:Rat):Prop:=-M<=a/\a<=M
theorem Bd.mul{M N a b:Rat}(h:Bd M a)(E:Bd N b):Bd (M*N) (a*b):=by
 obtain⟨G,J⟩:=h;obtain⟨O,S⟩:=E;have Y:0<=M:=by grind
 have e1:=xQ (show 0<=M-a by grind) (show 0<=N-b by grind);have e2:=xQ (show 0<=M+a by grind) (show 0<=N+b by grind);have e3:=xQ (show 0<=M-a by grind) (show 0<=N+b by grind);have e4:=xQ (show 0<=M+a by grind) (show 0<=N-b by grind);constructor<;>grind
theorem Bd.sum{f:Nat->Rat}{M:Rat}:∀ {n:Nat},(∀j,j<n->Bd M (f j))->Bd (n*M) (sm f n)
 |0,_=>by
  have e:((0:Nat):Rat)*M=0:=by simp
  unfold Bd sm;rw[e];constructor<;>decide
 |n+1,h=>by
  have E:=Bd.sum (n:=n) fun j G=>h j (by omega)
  have J:=h n (by omega);unfold Bd at *;have e:((n+1:Nat):Rat)*M=n*M+M:=by simp;grind
  rw[e];unfold sm;constructor<;>grind
theorem atf(k:Nat):Bd 1 (sg k):=by
 unfold sg Bd
 split<;>constructor<;>decide
def fact(M:Nat):Nat->Nat
 |0=>1
 |m+1=>(m+1)*(M*fact M m)
theorem ahM:∀ {m:Nat} {V:Nat->Nat->Rat} {M:Nat},(∀i k,i<m->k<m->Bd M (V i k))->Bd (fact M m) (CW m V)
 |0,_,_,_=>by unfold Bd fact CW;constructor<;>decide
 |m+1,V,M,h=>by
  have E:=Bd.sum (n:=m+1) (f:=fun i=>sg (i+m)*V i m*CW m (rem i V)) (M:=1*M*fact M m) fun i hi=>((atf _).mul (h i m hi (by omega))).mul (ahM fun p k hp G=>h _ k (by split<;>omega) (by omega))
  have e:((m+1:Nat):Rat)*(1*M*fact M m)=(fact M (m+1):Nat):=by
   show _=(((m+1)*(M*fact M m):Nat):Rat);rw[Rat.natCast_mul,Rat.natCast_mul];grind
  rw[e]at E;exact E
theorem TP:∀m,CW m (fun i k=>if i=k then 1 else 0)=1
 |0=>rfl
 |m+1=>by
  unfold CW;rw[bP (k:=m) (by omega) fun i hi E=>by show sg (i+m)*(if i=m then 1 else 0)*_=0;rw[sW E];grind];show sg (m+m)*(if m=m then 1 else 0)*_=1;rw[sS rfl];have e:CW m (rem m fun i k=>if i=k then(1:Rat)else 0)=CW m (fun i k=>if i=k then 1 else 0):=ou fun i k hi G=>by
   unfold rem;rw[sS hi]
  rw[e,TP m];unfold sg;rw[sS (by omega)];grind
end Go.Lp
namespace Go.Lp
structure YH (m n:Nat) (A:Nat->Nat->Rat) (w:Nat->Rat) (T:Tab):Prop where
 col:∀j k,j<n->k<m->A j k=sm (fun p=>T.e p j*A (T.B p) k) m
 rhs:∀k,k<m->w k=sm (fun p=>T.b p*A (T.B p) k) m
 ind:CW m (fun p=>A (T.B p))≠0
section
variable {m n:Nat} {A:Nat->Nat->Rat} {w:Nat->Rat} {T:Tab}
theorem ahN{m r:Nat}(G:r<m)(f g u:Nat->Rat)(t v:Rat)(J:f r=g r*t)(O:sm (fun p=>g p*u p) m=v) :
  sm (fun p=>(if p=r then t else f p-g p*t)*(if p=r then v else u p)) m=sm (fun p=>f p*u p) m:=by
 have e:sm (fun p=>(if p=r then t else f p-g p*t)*(if p=r then v else u p)) m=sm (fun p=>f p*u p) m-t*sm (fun p=>g p*u p) m+sm (fun p=>if p=r then t*v else 0) m:=by
  rw[<- bT,<- bM,<- bY];refine bU fun p _=>?_
  by_cases h:p=r
  .subst h;simp only[if_true,J];grind
  .simp only[sW h];grind
 rw[e,O,bP G fun p _ E=>sW E,sS rfl];grind
theorem YH.piv(h:YH m n A w T){r s:Nat}(J:r<m)(hs:s<n)(hp:T.e r s≠0):YH m n A w (piv T r s):=by
 have key:∀(f:Nat->Rat) (k:Nat),k<m->sm (fun p=>(if p=r then f r / T.e r s else f p-T.e p s*(f r / T.e r s))*A (if p=r then s else T.B p) k) m=sm (fun p=>f p*A (T.B p) k) m:=fun f k E=>by
  rw[<- ahN J f (fun p=>T.e p s) (fun p=>A (T.B p) k) (f r / T.e r s) (A s k) (by grind) (h.col s k hs E).symm];refine bU fun p _=>?_
  by_cases e:p=r
  .subst e;simp only[if_true]
  .simp only[sW e]
 refine⟨fun j k O E=>?_,fun k E=>?_,?_⟩
 .rw[h.col j k O E,<- key (fun p=>T.e p j) k E]
  rfl
 .rw[h.rhs k E,<- key T.b k E]
  rfl
 .have e:(fun p=>A ((Lp.piv T r s).B p))=put (fun p=>A (T.B p)) r (A s):=by
   funext p k;unfold put Lp.piv;simp only
   by_cases e:p=r
   .rw[sS e,sS e]
   .rw[sW e,sW e]
  rw[e,TN (fun p=>A (T.B p)) J (fun p=>T.e p s) (A s) fun k E=>h.col s k hs E];intro S;rcases Rat.mul_eq_zero.mp S with G|G
  .exact hp G
  .exact h.ind G
theorem YH.ent(h:YH m n A w T){i j:Nat}(hi:i<m)(E:j<n):T.e i j*CW m (fun p=>A (T.B p))=CW m (put (fun p=>A (T.B p)) i (A j)) :=
 (TN (fun p=>A (T.B p)) hi (fun p=>T.e p j) (A j) fun k G=>h.col j k E G).symm
theorem YH.right(h:YH m n A w T){i:Nat}(hi:i<m):T.b i*CW m (fun p=>A (T.B p))=CW m (put (fun p=>A (T.B p)) i w) :=
 (TN (fun p=>A (T.B p)) hi T.b w fun k E=>h.rhs k E).symm
theorem YH.acC(h:YH m n A w T){r s:Nat}(E:r<m)(hs:s<n):CW m (fun p=>A ((Lp.piv T r s).B p))=T.e r s*CW m (fun p=>A (T.B p)):=by
 have e:(fun p=>A ((Lp.piv T r s).B p))=put (fun p=>A (T.B p)) r (A s):=by
  funext p k;unfold put Lp.piv;simp only
  by_cases e:p=r
  .rw[sS e,sS e]
  .rw[sW e,sW e]
 rw[e,TN (fun p=>A (T.B p)) E (fun p=>T.e p s) (A s) fun k G=>h.col s k hs G]
end
def ZB(M:Nat)(q:Rat):Prop:=∃z:Int,q=z/\z.natAbs<=M
theorem ZB.of{M:Nat}{q:Rat}(h:U_ q)(E:Bd M q):ZB M q:=by
 obtain⟨z,rfl⟩:=h;refine⟨z,rfl,?_⟩;obtain⟨G,J⟩:=E;have O:z<=(M:Int):=by exact_mod_cast J
 have S:-(M:Int)<=z:=by
  have:((-(M:Int):Int):Rat)<=z:=by rw[vS];exact G
  exact_mod_cast this
 omega
theorem ZB.isZ{M:Nat}{q:Rat}(h:ZB M q):U_ q:=let ⟨z,e,_⟩:=h;⟨z,e⟩
theorem ZB.bd{M:Nat}{q:Rat}(h:ZB M q):Bd M q:=by
 obtain⟨z,rfl,h⟩:=h;have E:-(M:Int)<=z:=by omega
 have G:z<=(M:Int):=by omega
 constructor
 .have:((-(M:Int):Int):Rat)<=z:=by exact_mod_cast E
  rw[vS]at this;exact this
 .exact_mod_cast G
theorem Fz{m M:Nat}{V:Nat->Nat->Rat}(h:∀i k,i<m->k<m->ZB M (V i k)):ZB (fact M m) (CW m V) :=
 .of (anl fun i k hi E=>(h i k hi E).isZ) (ahM fun i k hi E=>(h i k hi E).bd)
section
variable {m n M:Nat} {A:Nat->Nat->Rat} {w:Nat->Rat} {T:Tab}
theorem YH.Fz(J:YH m n A w T)(E:∀i,i<m->T.B i<n)(hA:∀j k,j<n->k<m->ZB M (A j k)):ZB (fact M m) (CW m fun p=>A (T.B p)) :=
 Lp.Fz fun i k hi G=>hA _ k (E i hi) G
theorem YH.NI(h:YH m n A w T)(J:∀i,i<m->T.B i<n)(hA:∀j k,j<n->k<m->ZB M (A j k)){i j:Nat}(hi:i<m)(E:j<n):ZB (fact M m) (T.e i j*CW m fun p=>A (T.B p)):=by
 rw[h.ent hi E];refine Lp.Fz fun p k hp G=>?_
 unfold put
 split
 .exact hA j k E G
 .exact hA _ k (J p hp) G
theorem YH.GK(h:YH m n A w T)(G:∀i,i<m->T.B i<n)(hA:∀j k,j<n->k<m->ZB M (A j k))(hw:∀k,k<m->ZB M (w k)){i:Nat}(hi:i<m):ZB (fact M m) (T.b i*CW m fun p=>A (T.B p)):=by
 rw[h.right hi];refine Lp.Fz fun p k hp E=>?_
 unfold put
 split
 .exact hw k E
 .exact hA _ k (G p hp) E
end
theorem IE{M:Nat}{q D:Rat}(hD:ZB M D)(h0:D≠0)(h:ZB M (q*D)):q.num.natAbs<=M/\q.den<=M:=by
 obtain⟨d,rfl,hd⟩:=hD;obtain⟨z,e,hz⟩:=h;have a0:d≠0:=fun e=>h0 (by rw[e];rfl)
 have e1:(q.num:Rat)=q*q.den:=by
  have Y:=Rat.mkRat_self q;rw[Rat.mkRat_eq_div]at Y;have h2:(q.den:Rat)≠0:=by have:=q.den_nz;exact_mod_cast this
  rw[<- Y];have G:mkRat q.num q.den=q:=Rat.mkRat_self q;grind
 have e2:q.num*d=z*q.den:=by
  have:((q.num*d:Int):Rat)=((z*q.den:Int):Rat):=by
   rw[vP,vP,<- e,e1];show q*(q.den:Rat)*d=q*d*((q.den:Int):Rat);have:(((q.den:Nat):Int):Rat)=(q.den:Rat):=rfl;rw[this];grind
  exact_mod_cast this
 have G:q.num.natAbs*d.natAbs=z.natAbs*q.den:=by
  have:=congrArg Int.natAbs e2;rw[uX,uX]at this
  simpa using this
 have E:Nat.Coprime q.den q.num.natAbs:=q.reduced.symm;have J:q.den ∣ d.natAbs:=by
  refine E.dvd_of_dvd_mul_left ?_;rw[G];exact Nat.dvd_mul_left _ _
 have O:q.num.natAbs ∣ z.natAbs:=by
  refine E.symm.dvd_of_dvd_mul_right ?_;rw[<- G];exact Nat.dvd_mul_right _ _
 refine⟨?_,zL (Nat.le_of_dvd (by omega) J) hd⟩
 by_cases S:z=0
 .subst S
  have:q.num.natAbs=0:=by
   have:q.num.natAbs*d.natAbs=0:=by rw[G];simp
   rcases Nat.mul_eq_zero.mp this with h|h
   .exact h
   .omega
  omega
 .exact zL (Nat.le_of_dvd (by omega) O) hz
end Go.Lp
namespace Go.Lp
theorem acD{m n:Nat}{T:Tab}(h:Ok m n T){r s:Nat}(S:r<m)(hs:s<n)(Y:T.e r s≠0)(h0:T.b r=0):Ok m n (piv T r s):=by
 refine⟨fun i hi=>?_,fun i k hi O=>?_,fun i hi=>?_⟩
 .simp only[piv]
  split
  .exact hs
  .exact h.bn i hi
 .have u1:=h.un i k hi O
  have J:=h.un r k S O;simp only[piv]
  by_cases G:k=r
  .subst G
   rw[sS rfl]
   by_cases E:i=k
   .rw[sS E,sS E];grind
   .rw[sW E,sW E];grind
  .rw[sW G]
   rw[sW (yu G)]at J
   by_cases E:i=r
   .subst E
    rw[sS rfl,sW (yu G),J];grind
   .rw[sW E,u1,J];grind
 .simp only[piv,h0]
  have e:(0:Rat) / T.e r s=0:=by rw[vM];grind
  rw[e];have:=h.nb i hi
  split
  .exact uT
  .grind
structure Prog where
 m:Nat
 n:Nat
 a:Nat->Nat->Rat
 w:Nat->Rat
 c:Nat->Rat
namespace Prog
variable (p:Prog)
def N:Nat:=p.n+p.m
def A(j k:Nat):Rat:=if j<p.n then p.a j k else if k+p.n=j then 1 else 0
def T0:Tab:=⟨fun i j=>p.A j i,p.w,fun i=>i+p.n⟩
def F(x:Nat->Rat):Prop:=(∀k,k<p.m->sm (fun j=>p.a j k*x j) p.n=p.w k)/\∀j,j<p.n->0<=x j
def C(q:Nat)(j:Nat):Rat:=if q=0 then(if j<p.n then p.c j else 0)else if j+1=q/\j<p.n then -1 else 0
def c1(j:Nat):Rat:=if j<p.n then 0 else -1
def None:Prop:=∀x,¬p.F x
def Open:Prop:=∀a:Rat,∃x,p.F x/\a<=ob p.n p.c x
def Best(x:Nat->Rat):Prop:=p.F x/\∀y,p.F y->Nn (p.n+1) fun q=>ob p.n (p.C q) x-ob p.n (p.C q) y
structure Good (T:Tab):Prop where
 ok:Ok p.m p.N T
 ed:YH p.m p.N p.A p.w T
 sol:∀x,Sol p.m p.N T x↔Sol p.m p.N p.T0 x
structure Out (T:Tab):Prop where
 z:∀i,i<p.m->p.n<=T.B i->T.b i=0/\∀j,j<p.n->T.e i j=0
variable {p:Prog}
theorem F5{i k:Nat}:p.A (i+p.n) k=if k=i then 1 else 0:=by
 unfold A;rw[sW (by omega)]
 by_cases h:k=i
 .rw[sS h,sS (by omega)]
 .rw[sW h,sW (by omega)]
theorem atg(hw:∀k,k<p.m->0<=p.w k):p.Good p.T0:=by
 refine⟨⟨fun i hi=>?_,fun i k hi G=>?_,fun i hi=>hw i hi⟩,⟨fun j k J G=>?_,fun k G=>?_,?_⟩,fun x=>Iff.rfl⟩
 .show i+p.n<p.n+p.m;omega
 .exact F5
 .show p.A j k=sm (fun q=>p.A j q*p.A (q+p.n) k) p.m
  rw[bP (k:=k) G fun q _ E=>by rw[F5,sW (yu E)];grind];rw[F5,sS rfl];grind
 .show p.w k=sm (fun q=>p.w q*p.A (q+p.n) k) p.m
  rw[bP (k:=k) G fun q _ E=>by rw[F5,sW (yu E)];grind];rw[F5,sS rfl];grind
 .have e:CW p.m (fun q=>p.A (q+p.n))=CW p.m fun i k=>if i=k then 1 else 0:=ou fun i k _ _=>by
   rw[F5]
   by_cases h:i=k
   .rw[sS h,sS h.symm]
   .rw[sW h,sW (yu h)]
  show CW p.m (fun q=>p.A (q+p.n))≠0;rw[e,TP];decide
theorem Good.piv{T:Tab}(h:p.Good T){r s:Nat}(J:r<p.m)(hs:s<p.N)(E:T.e r s≠0)(G:Ok p.m p.N (Lp.piv T r s)):p.Good (Lp.piv T r s) :=
 ⟨G,h.ed.piv J hs E,fun x=>(TK J E x).trans (h.sol x)⟩
theorem Good.step{d:Nat}{C:Nat->Nat->Rat}{Fr:Nat->Prop}{T T':Tab}(h:p.Good T)(hs:Step p.m p.N d C Fr T T'):p.Good T':=by
 have E:=hs.ok h.ok;obtain⟨s,r,J,G,rfl⟩:=hs;exact h.piv G.lt J.lt (by have:=G.pos;grind) E
theorem Good.ath{T:Tab}(h:p.Good T){r s:Nat}(G:r<p.m)(hs:s<p.N)(E:T.e r s≠0)(J:T.b r=0):p.Good (Lp.piv T r s) :=
 h.piv G hs E (acD h.ok G hs E J)
def ext(p:Prog)(x:Nat->Rat)(j:Nat):Rat:=if j<p.n then x j else 0
theorem NJ(f:Nat->Rat)(n:Nat):∀m,sm f (n+m)=sm f n+sm (fun i=>f (n+i)) m
 |0=>by show sm f n=sm f n+0;grind
 |m+1=>by
  show sm f (n+m)+f (n+m)=sm f n+(sm _ m+f (n+m));rw[NJ f n m];grind
theorem ati(x:Nat->Rat):Sol p.m p.N p.T0 x↔∀k,k<p.m->sm (fun j=>p.a j k*x j) p.n+x (p.n+k)=p.w k:=by
 refine forall_congr' fun k=>?_
 have G:k<p.m->sm (fun j=>p.T0.e k j*x j) p.N=sm (fun j=>p.a j k*x j) p.n+x (p.n+k):=fun G=>by
  unfold N;rw[NJ];congr 1
  .exact bU fun j O=>by show p.A j k*x j=_;unfold A;rw[sS O]
  .rw[bP (k:=k) G fun i _ J=>by
    show p.A (p.n+i) k*_=0;rw[wR,F5,sW (yu J)];grind]
   show p.A (p.n+k) k*_=_;rw[wR,F5,sS rfl];grind
 constructor
 .intro h E
  rw[<- G E];exact h E
 .intro h E
  rw[G E];exact h E
theorem NK{T:Tab}(h:p.Good T){x:Nat->Rat}(G:p.F x):ahJ p.m p.N T (p.ext x):=by
 refine⟨(h.sol _).mpr ((ati _).mpr fun k J=>?_),fun j _=>?_⟩
 .rw[<- G.1 k J]
  have e:p.ext x (p.n+k)=0:=by unfold ext;rw[sW (by omega)]
  rw[e,bU (g:=fun j=>p.a j k*x j) fun j E=>by unfold ext;rw[sS E]];grind
 .unfold ext
  split
  .rename_i E;exact G.2 j E
  .exact uT
theorem QS{T:Tab}(h:p.Good T){x:Nat->Rat}(E:ahJ p.m p.N T x)(J:∀k,k<p.m->x (p.n+k)=0):p.F x:=by
 refine⟨fun k G=>?_,fun j O=>E.2 j (by unfold N;omega)⟩;have:=(ati x).mp ((h.sol x).mp E.1) k G;rw[J k G]at this;grind
theorem Out.BD{T:Tab}(h:p.Good T)(E:p.Out T){k:Nat}(G:k<p.m):BD p.m T (p.n+k)=0:=by
 by_cases hb:basic p.m T (p.n+k)
 .obtain⟨i,hi,e⟩:=hb
  rw[<- e,IB h.ok hi];exact(E.z i hi (by omega)).1
 .exact qy hb
theorem Out.F{T:Tab}(h:p.Good T)(E:p.Out T):p.F (Lp.BD p.m T):=QS h (ahK h.ok) fun _ G=>E.BD h G
theorem Out.piv{T:Tab}(J:p.Out T){r s:Nat}(O:T.B r<p.n)(hs:s<p.n):p.Out (Lp.piv T r s):=by
 refine⟨fun i hi E=>?_⟩;simp only[Lp.piv]at E⊢
 by_cases e:i=r
 .rw[sS e]at E;omega
 .rw[sW e]at E
  obtain⟨S,G⟩:=J.z i hi E;rw[sW e,S,G s hs];refine⟨by grind,fun j Y=>?_⟩;rw[sW e,G j Y];grind
theorem NM{c:Nat->Rat}(hc:∀j,p.n<=j->c j=0)(x:Nat->Rat):ob p.N c x=ob p.n c x:=by
 unfold ob N;rw[NJ,bK (f:=fun i=>c (p.n+i)*x (p.n+i)) fun i _=>by rw[hc _ (by omega)];grind];grind
theorem QT(q:Nat){j:Nat}(E:p.n<=j):p.C q j=0:=by
 unfold C
 split
 .rw[sW (by omega)]
 .rw[sW (by omega)]
theorem acE(c x:Nat->Rat):ob p.n c (p.ext x)=ob p.n c x:=bU fun j E=>by unfold ext;rw[sS E]
theorem anm(x:Nat->Rat):ob p.n (p.C 0) x=ob p.n p.c x:=bU fun j E=>by unfold C;rw[sS rfl,sS E]
theorem ahO{q:Nat}(E:q<p.n)(x:Nat->Rat):ob p.n (p.C (q+1)) x= -x q:=by
 unfold ob;rw[bP E fun j _ G=>by unfold C;rw[sW (by omega),sW (by omega)];grind];unfold C;rw[sW (by omega),sS (by omega)];grind
theorem Best.eq{x y:Nat->Rat}(G:p.Best x)(J:p.Best y):∀j,j<p.n->x j=y j:=by
 have E:=G.2 y J.1;have O:=J.2 x G.1;have S:Zr (p.n+1) fun q=>ob p.n (p.C q) x-ob p.n (p.C q) y:=by
  rcases E with E|E
  .refine absurd E (JO ?_)
   exact O.imp (Lp.congr fun q _=>by grind) (Zr.congr fun q _=>by grind)
  .exact E
 intro j Y;have:=S (j+1) (by omega);simp only[ahO Y]at this;grind
theorem Nn.first{d:Nat}{v:Nat->Rat}(h:Nn (d+1) v):0<=v 0:=by
 have key:∀d,Lp (d+1) v->0<=v 0:=by
  intro d
  induction d with
  |zero=>
   rintro (h|⟨_,h⟩)
   .exact h.elim
   .exact vY h
  |succ d E=>
   rintro (h|⟨h,_⟩)
   .exact E h
   .rw[h 0 (by omega)];exact uT
 rcases h with h|h
 .exact key d h
 .rw[h 0 (by omega)];exact uT
theorem Best.Xf{x:Nat->Rat}(E:p.Best x):¬p.None:=fun h=>h x E.1
theorem phase1{T:Tab}(h:p.Good T){Fr:Nat->Prop}(S:∀j,j<p.n->Fr j)(G:∀j,j<p.N->Fr j->¬basic p.m T j->¬Lp 1 (gv p.m T (fun _=>p.c1) j)) :
  (∀i,i<p.m->p.n<=T.B i->T.b i=0)\/p.None:=by
 by_cases Y:∀i,i<p.m->p.n<=T.B i->T.b i=0
 .exact .inl Y
 .refine .inr fun x hx=>Y fun i hi hB=>?_
  have h1:=optimal h.ok G (NK h hx) (fun j _ hn _=>by unfold ext;rw[sW fun hj=>hn (S j hj)]);have h2:=Nn.first h1;have e:ob p.N p.c1 (p.ext x)=0:=bK fun j _=>by
   unfold c1 ext
   split<;>grind
  simp only[e]at h2;have h3:zz p.m T p.c1= -sm (fun i=>if p.n<=T.B i then T.b i else 0) p.m:=by
   unfold zz;have:=bT (-1) (fun i=>if p.n<=T.B i then T.b i else 0) p.m;have e2:-sm (fun i=>if p.n<=T.B i then T.b i else 0) p.m= -1*sm (fun i=>if p.n<=T.B i then T.b i else 0) p.m:=by grind
   rw[e2,<- this];refine bU fun i _=>?_
   unfold c1
   by_cases J:T.B i<p.n
   .rw[sS J,sW (by omega)];grind
   .rw[sW J,sS (by omega)];grind
  have h4:∀E i,i<E->E<=p.m->(if p.n<=T.B i then T.b i else 0)<=sm (fun i=>if p.n<=T.B i then T.b i else 0) E:=by
   intro E
   induction E with
   |zero=>intro i hi;omega
   |succ E ih=>
    intro i hi hm;have O:∀q,q<p.m->0<=(if p.n<=T.B q then T.b q else 0):=fun q J=>by
     split
     .exact h.ok.nb q J
     .exact uT
    show _<=sm _ E+_
    by_cases e:i=E
    .subst e
     have:=bQ (f:=fun i=>if p.n<=T.B i then T.b i else 0) (n:=i) fun q J=>O q (by omega)
     grind
    .have h5:=ih i (by omega) (by omega)
     have h6:=O E (by omega);grind
  have h5:=h4 p.m i hi (zq _);rw[sS hB]at h5;have h6:=h.ok.nb i hi;grind
theorem alI{T:Tab}(h:p.Good T){Fr:Nat->Prop}(G:∀j,j<p.n->Fr j)(E:∀j,j<p.N->Fr j->¬basic p.m T j->¬Lp 1 (gv p.m T (fun _=>p.c1) j)){i:Nat}(hi:i<p.m)(O:p.n<=T.B i)(hb:T.b i≠0):p.None:=by
 rcases phase1 h G E with J|J
 .exact absurd (J i hi O) hb
 .exact J
theorem acF{T:Tab}(h:p.Good T){s:Nat}(hs:s<p.N)(E:¬basic p.m T s)(hp:Lp 1 (gv p.m T (fun _=>p.c1) s)):¬∀i,i<p.m->T.e i s<=0:=fun S=>by
 have Y:0<gm p.m T p.c1 s:=by
  rcases hp with hp|⟨_,hp⟩
  .exact hp.elim
  .exact hp
 have hle:∀x,(∀j,j<p.N->0<=x j)->ob p.N p.c1 x<=0:=fun x G=>by
  have:=bQ (f:=fun j=> -(p.c1 j*x j)) (n:=p.N) fun j hj=>by
   have:=G j hj;unfold c1
   split<;>grind
  have e:=bT (-1) (fun j=>p.c1 j*x j) p.N;have J:sm (fun j=> -(p.c1 j*x j)) p.N=sm (fun j=> -1*(p.c1 j*x j)) p.N:=bU fun j _=>by grind
  unfold ob;rw[J,e]at this;grind
 have ha:0<=(1-zz p.m T p.c1) / gm p.m T p.c1 s\/True:=.inr trivial;obtain⟨x,G,e⟩:=unbounded h.ok hs E S p.c1 ((1-zz p.m T p.c1) / gm p.m T p.c1 s) (by
  have h0:=hle _ (fun j _=>qx h.ok j);rw[Xb h.ok]at h0;rw[vM];exact xQ (by grind) (vY (Rat.inv_pos.mpr Y)))
 have O:=hle x G.2;rw[e]at O;have J:(1-zz p.m T p.c1) / gm p.m T p.c1 s*gm p.m T p.c1 s=1-zz p.m T p.c1:=by grind
 rw[J]at O;grind
theorem aa8{T:Tab}(h:p.Good T)(q:Nat):zz p.m T (p.C q)=ob p.n (p.C q) (Lp.BD p.m T):=by
 rw[<- Xb h.ok,NM fun j E=>QT q E]
theorem ahP{T:Tab}(h:p.Good T)(G:p.Out T)(E:∀j,j<p.n->¬basic p.m T j->¬Lp (p.n+1) (gv p.m T p.C j)):p.Best (Lp.BD p.m T):=by
 refine⟨G.F h,fun y J=>?_⟩;have O:=optimal (Fr:=fun j=>j<p.n) h.ok (fun j _ S hb=>E j S hb) (NK h J) (fun j _ hn _=>by unfold ext;rw[sW hn]);refine O.imp (Lp.congr fun q _=>?_) (Zr.congr fun q _=>?_)
 all_goals rw[aa8 h,NM fun j Y=>QT q Y,acE]
theorem NP{T:Tab}(h:p.Good T)(ho:p.Out T){s:Nat}(hs:s<p.n)(G:¬basic p.m T s)(hg:0<gm p.m T (p.C 0) s)(Gl:∀i,i<p.m->T.e i s<=0):p.Open:=fun a=>by
 have key:∀b:Rat,0<=b->p.F fun j=>Lp.BD p.m T j+b*dir p.m T s j:=fun b hb=>by
  have O:s<p.N:=by unfold N;omega
  refine QS h ⟨IC h.ok O G b,fun j S=>?_⟩ fun k hk=>?_
  .show 0<=Lp.BD p.m T j+b*dir p.m T s j
   by_cases E:basic p.m T j
   .obtain⟨i,hi,rfl⟩:=E
    rw[Xc h.ok G hi,IB h.ok hi];have h1:=h.ok.nb i hi;have h2:=xQ hb (show 0<= -T.e i s by have:=Gl i hi;grind);grind
   .by_cases e:j=s
    .subst e;rw[NG G,qy E];grind
    .rw[oN E e,qy E];grind
  .show Lp.BD p.m T (p.n+k)+b*dir p.m T s (p.n+k)=0
   rw[ho.BD h hk]
   by_cases E:basic p.m T (p.n+k)
   .obtain⟨i,hi,e⟩:=E
    rw[<- e,Xc h.ok G hi,(ho.z i hi (by omega)).2 s hs];grind
   .rw[oN E (by omega)];grind
 have J:∀b:Rat,ob p.n p.c (fun j=>Lp.BD p.m T j+b*dir p.m T s j)=zz p.m T (p.C 0)+b*gm p.m T (p.C 0) s:=fun b=>by
  have O:s<p.N:=by unfold N;omega
  rw[<- anm,<- NM (fun j S=>QT 0 S),iy (IC h.ok O G b)];congr 1;unfold ob;rw[bP O fun j S Y=>?_]
  .show gm p.m T (p.C 0) s*(Lp.BD p.m T s+b*dir p.m T s s)=_
   rw[NG G,qy G];grind
  .by_cases E:basic p.m T j
   .obtain⟨i,hi,rfl⟩:=E
    rw[PS h.ok _ hi,Rat.zero_mul]
   .show gm p.m T (p.C 0) j*(Lp.BD p.m T j+b*dir p.m T s j)=0
    rw[oN E Y,qy E];grind
 by_cases a0:a<=zz p.m T (p.C 0)
 .refine⟨_,key 0 uT,?_⟩
  rw[J];grind
 .refine⟨_,key ((a-zz p.m T (p.C 0)) / gm p.m T (p.C 0) s) ?_,?_⟩
  .rw[vM]
   exact xQ (by grind) (vY (Rat.inv_pos.mpr hg))
  .rw[J]
   have e2:(a-zz p.m T (p.C 0)) / gm p.m T (p.C 0) s*gm p.m T (p.C 0) s=a-zz p.m T (p.C 0):=by grind
   rw[e2];grind
structure Ep (p:Prog) (q:Nat) (v:Nat->Rat) (Fr:Nat->Prop) (T:Tab):Prop where
 top:∀y,p.F y->Nn q (fun i=>v i-ob p.n (p.C i) y)/\(Zr q (fun i=>v i-ob p.n (p.C i) y)->∀j,j<p.n->¬Fr j->y j=0)
 all:∀y,p.F y->(∀j,j<p.n->¬Fr j->y j=0)->∀i,i<q->ob p.n (p.C i) y=v i
 non:∀j,j<p.n->¬Fr j->¬basic p.m T j
 inn:∀j,Fr j->j<p.n
theorem stage0{T:Tab}:Ep p 0 (fun _=>0) (fun j=>j<p.n) T :=
 ⟨fun y _=>⟨.inr fun q G=>by omega,fun _ j E hn=>absurd E hn⟩,fun y _ _ i hi=>by omega,fun j E hn=>absurd E hn,fun _ h=>h⟩
theorem Ep.step{q d:Nat}{v:Nat->Rat}{Fr:Nat->Prop}{C:Nat->Nat->Rat}{T T':Tab}(h:Ep p q v Fr T)(hs:Step p.m p.N d C Fr T T'):Ep p q v Fr T':=by
 obtain⟨s,r,E,G,rfl⟩:=hs;refine⟨h.top,h.all,fun j J hn hb=>?_,h.inn⟩;rcases (qp G.lt j).mp hb with rfl|⟨i,hi,_,e⟩
 .exact hn E.fr
 .exact h.non j J hn ⟨i,hi,e⟩
theorem Ep.next{q:Nat}{v:Nat->Rat}{Fr Fr':Nat->Prop}{T:Tab}(hg:p.Good T)(ho:p.Out T)(h:Ep p q v Fr T)
  (a0:∀j,j<p.n->Fr j->¬basic p.m T j->¬0<gm p.m T (p.C q) j) (J:∀j,j<p.n->(Fr' j↔Fr j/\(basic p.m T j\/¬gm p.m T (p.C q) j<0))) (a2:∀j,Fr' j->j<p.n) :
  Ep p (q+1) (fun i=>if i=q then zz p.m T (p.C q)else v i) Fr' T:=by
 have val:∀y,p.F y->ob p.n (p.C q) y=zz p.m T (p.C q)+sm (fun j=>gm p.m T (p.C q) j*p.ext y j) p.N:=fun y O=>by
  rw[<- acE,<- NM fun j E=>QT q E,iy (NK hg O).1];rfl
 have vq:∀i,i<q->(if i=q then zz p.m T (p.C q)else v i)=v i:=fun i hi=>sW (by omega)
 have term:∀y,p.F y->(∀j,j<p.n->¬Fr j->y j=0)->∀j,gm p.m T (p.C q) j*p.ext y j<=0:=fun y O S j=>by
  unfold ext
  split
  .rename_i E
   by_cases G:Fr j
   .by_cases hb:basic p.m T j
    .obtain⟨i,hi,rfl⟩:=hb
     rw[PS hg.ok _ hi];grind
    .have Y:=a0 j E G hb
     have h2:=O.2 j E;have:=xQ (show 0<= -gm p.m T (p.C q) j by grind) h2;grind
   .rw[S j E G];grind
  .grind
 refine⟨fun y O=>?_,fun y O S i hi=>?_,fun j E hn=>?_,a2⟩
 .obtain⟨Y,h2⟩:=h.top y O
  rcases Y with Y|Y
  .have h3:Lp q fun i=>(if i=q then zz p.m T (p.C q)else v i) - ob p.n (p.C i) y:=Y.congr fun i hi=>by rw[vq i hi]
   exact⟨.inl (.inl h3),fun S=>absurd (Zr.succ.mp S).1 h3.GI⟩
  .have S:=h2 Y
   have h3:Zr q fun i=>(if i=q then zz p.m T (p.C q)else v i) - ob p.n (p.C i) y:=Y.congr fun i hi=>by rw[vq i hi]
   have a7:=bQ (f:=fun j=> -(gm p.m T (p.C q) j*p.ext y j)) (n:=p.N) fun j _=>by have:=term y O S j;grind
   have e:=bT (-1) (fun j=>gm p.m T (p.C q) j*p.ext y j) p.N;have e2:sm (fun j=> -(gm p.m T (p.C q) j*p.ext y j)) p.N=sm (fun j=> -1*(gm p.m T (p.C q) j*p.ext y j)) p.N:=bU fun j _=>by grind
   have hv:=val y O;have hd:(if q=q then zz p.m T (p.C q)else v q) - ob p.n (p.C q) y=sm (fun j=> -(gm p.m T (p.C q) j*p.ext y j)) p.N:=by
    rw[sS rfl,hv,e2,e];grind
   by_cases h0:sm (fun j=> -(gm p.m T (p.C q) j*p.ext y j)) p.N=0
   .refine⟨.inr (Zr.succ.mpr ⟨h3,by show(if q=q then zz p.m T (p.C q)else v q) - ob p.n (p.C q) y=0;rw[hd];exact h0⟩),fun _ j E hn=>?_⟩
    by_cases G:Fr j
    .have a3:¬basic p.m T j/\gm p.m T (p.C q) j<0:=by
      refine⟨fun hb=>hn ((J j E).mpr ⟨G,.inl hb⟩),?_⟩;refine zf fun a4=>hn ((J j E).mpr ⟨G,.inr a4⟩)
     have each:∀N (f:Nat->Rat),(∀j,0<=f j)->sm f N=0->∀j,j<N->f j=0:=by
      intro N f G
      induction N with
      |zero=>intro _ j E;omega
      |succ N ih=>
       intro h0 j E;have h4:=bQ (f:=f) (n:=N) fun j _=>G j
       have h5:=G N;have h6:sm f N+f N=0:=h0
       by_cases e:j=N
       .subst e;grind
       .exact ih (by grind) j (by omega)
     have h4:=each p.N _ (fun j=>by have:=term y O S j;grind) h0 j (by unfold N;omega);have h5:gm p.m T (p.C q) j*y j=0:=by
      have:p.ext y j=y j:=by unfold ext;rw[sS E]
      rw[this]at h4;grind
     rcases Rat.mul_eq_zero.mp h5 with h6|h6
     .have:=a3.2;grind
     .exact h6
    .exact S j E G
   .have a1:0<sm (fun j=> -(gm p.m T (p.C q) j*p.ext y j)) p.N:=by grind
    refine⟨.inl (.inr ⟨h3,by show 0<(if q=q then zz p.m T (p.C q)else v q) - ob p.n (p.C q) y;rw[hd];exact a1⟩),fun a5=>?_⟩;have:(if q=q then zz p.m T (p.C q)else v q) - ob p.n (p.C q) y=0:=(Zr.succ.mp a5).2;rw[hd]at this;exact absurd this h0
 .have a6:∀j,j<p.n->¬Fr j->y j=0:=fun j E hn=>S j E fun G=>hn ((J j E).mp G).1
  by_cases e:i=q
  .subst e
   rw[sS rfl,val y O,bK fun j _=>?_]
   .grind
   .unfold ext
    split
    .rename_i E
     by_cases G:Fr' j
     .obtain⟨Y,h2⟩:=(J j E).mp G
      rcases h2 with ⟨i,hi,rfl⟩|h2
      .rw[PS hg.ok _ hi];grind
      .by_cases hb:basic p.m T j
       .obtain⟨i,hi,rfl⟩:=hb
        rw[PS hg.ok _ hi];grind
       .have h3:=a0 j E Y hb
        have:gm p.m T (p.C i) j=0:=by grind
        rw[this];grind
     .rw[S j E G];grind
    .grind
  .rw[vq i (by omega)]
   exact h.all y O a6 i (by omega)
 .intro hb
  by_cases G:Fr j
  .exact hn ((J j E).mpr ⟨G,.inl hb⟩)
  .exact h.non j E G hb
theorem Ep.best{v:Nat->Rat}{Fr:Nat->Prop}{T:Tab}(O:p.Good T)(S:p.Out T)(h:Ep p (p.n+1) v Fr T):p.Best (Lp.BD p.m T):=by
 have G:=S.F O;refine⟨G,fun y Y=>?_⟩;have J:=h.all _ G fun j hj hn=>qy (h.non j hj hn)
 exact(h.top y Y).1.imp (Lp.congr fun q E=>by rw[J q E]) (Zr.congr fun q E=>by rw[J q E])
theorem TS{T:Tab}(h:p.Good T){q s:Nat}(G:q<p.n)(hs:s<p.n)(E:¬basic p.m T s)(J:0<gm p.m T (p.C (q+1)) s):¬∀i,i<p.m->T.e i s<=0:=fun O=>by
 have S:s<p.N:=by unfold N;omega
 have hz:zz p.m T (p.C (q+1))<=0:=by
  rw[aa8 h,ahO G];have:=qx h.ok q;grind
 obtain⟨x,Y,e⟩:=unbounded h.ok S E O (p.C (q+1)) ((1-zz p.m T (p.C (q+1))) / gm p.m T (p.C (q+1)) s) (by
  rw[vM];exact xQ (by grind) (vY (Rat.inv_pos.mpr J)))
 rw[NM fun j hj=>QT _ hj,ahO G]at e;have e2:(1-zz p.m T (p.C (q+1))) / gm p.m T (p.C (q+1)) s*gm p.m T (p.C (q+1)) s=1-zz p.m T (p.C (q+1)):=by grind
 rw[e2]at e;have:=Y.2 q (by unfold N;omega);grind
theorem aeY{T:Tab}(h:p.Good T){s:Nat}(hs:s<p.n)(G:¬basic p.m T s)(hp:Lp (p.n+1) (gv p.m T p.C s))(J:∀i,i<p.m->T.e i s<=0):0<gm p.m T (p.C 0) s:=by
 have key:∀d,d<=p.n->Lp (d+1) (gv p.m T p.C s)->0<gm p.m T (p.C 0) s:=by
  intro d
  induction d with
  |zero=>
   rintro _ (E|⟨_,E⟩)
   .exact E.elim
   .exact E
  |succ d O=>
   rintro S (E|⟨_,E⟩)
   .exact O (by omega) E
   .exact absurd J (TS h (q:=d) (by omega) hs G E)
 exact key p.n (zq _) hp
end Prog
end Go.Lp
namespace Go.Lp
structure TZ where
 R:List (List Int)
 Ba:Int
 B:List Nat
 fr:List Bool
def DZ(R:List (List Int))(i:Nat):List Int:=R.getD i []
def en(R:List (List Int))(i j:Nat):Int:=(DZ R i).getD j 0
def ER(p f b:Int)(x y:List Int):List Int:=List.zipWith (fun u v=>(u*p-f*v).tdiv b) x y
def BG(R:List (List Int))(r k:Nat)(b:Int):List (List Int):=R.mapIdx fun i x=>if i=r then x else ER (en R r k) (x.getD k 0) b x (DZ R r)
def negR(R:List (List Int)):List (List Int):=R.map fun x=>x.map fun z=> -z
def F6(D:TZ)(r k:Nat):TZ :=
 if 0<en D.R r k then ⟨BG D.R r k D.Ba,en D.R r k,D.B.set r k,D.fr⟩else ⟨negR (BG D.R r k D.Ba),-en D.R r k,D.B.set r k,D.fr⟩
theorem dS{R:List (List Int)}{i:Nat}(h:i<R.length):DZ R i=R[i]:=by unfold DZ;rw[zx,zy h];rfl
theorem gu(R:List (List Int))(r k:Nat)(b:Int):(BG R r k b).length=R.length:=by unfold BG;rw[List.length_mapIdx]
theorem NQ(R:List (List Int)):(negR R).length=R.length:=by unfold negR;rw[zO]
theorem ahQ(R:List (List Int))(i j:Nat):en (negR R) i j= -en R i j:=by
 unfold en DZ negR;rw[zx,zx,zx,zx,yc];cases R[i]? with
 |none=>simp
 |some x=>
  simp only[zG,xK,yc];cases x[j]?<;>simp
theorem KJ(R:List (List Int))(r k j:Nat)(b:Int):en (BG R r k b) r j=en R r j:=by
 unfold en DZ BG;simp only[zx,uK];cases R[r]?<;>simp
theorem ahR{R:List (List Int)}{r k i j:Nat}{b:Int}{n:Nat}(hn:∀x∈R,x.length=n)(hi:i<R.length)(G:r<R.length)(Y:j<n)(E:i≠r):en (BG R r k b) i j=(en R i j*en R r k-en R i k*en R r j).tdiv b:=by
 have J:DZ (BG R r k b) i=ER (en R r k) (en R i k) b (DZ R i) (DZ R r):=by
  show(BG R r k b).getD i []=_;unfold BG;rw[zx,uK,zy hi];simp only[zG,xK,sW E];unfold en;rw[dS hi]
 have l1:(DZ R i).length=n:=by rw[dS hi];exact hn _ (zu hi)
 have l2:(DZ R r).length=n:=by rw[dS G];exact hn _ (zu G)
 have key:∀(x y:List Int) (f:Int->Int->Int),j<x.length->j<y.length->(List.zipWith f x y).getD j 0=f (x.getD j 0) (y.getD j 0):=fun x y f O S=>by
  rw[zx,zx,zx,List.getElem?_zipWith,zy O,zy S];rfl
 show(DZ (BG R r k b) i).getD j 0=_;rw[J];unfold ER;rw[key _ _ _ (by omega) (by omega)];rfl
structure Vw (p:Prog) (T:Tab) (D:TZ) (ι:List Nat):Prop where
 len:ι.length=D.R.length
 Bg:D.B.length=D.R.length
 row:∀x∈D.R,x.length=p.N+1
 lt:∀r∈ι,r<p.m
 nd:ι.Nodup
 ent:∀i j,i<D.R.length->j<p.N->(en D.R i j:Rat)=D.Ba*T.e (ι.getD i 0) j
 rhs:∀i,i<D.R.length->(en D.R i p.N:Rat)=D.Ba*T.b (ι.getD i 0)
 BD:∀i,i<D.R.length->D.B.getD i 0=T.B (ι.getD i 0)
 pos:0<D.Ba
 CW:(D.Ba:Rat)=Lp.CW p.m (fun q=>p.A (T.B q))\/(D.Ba:Rat)= -Lp.CW p.m (fun q=>p.A (T.B q))
 hid:∀r,r<p.m->r∉ι->p.n<=T.B r/\T.b r=0/\∀j,j<p.n->T.e r j=0
structure Whole (p:Prog) (M:Nat):Prop where
 one:1<=M
 a:∀j k,j<p.n->k<p.m->ZB M (p.a j k)
 w:∀k,k<p.m->ZB M (p.w k)
theorem Whole.A{p:Prog}{M:Nat}(h:Whole p M)(j k:Nat)(E:j<p.N)(G:k<p.m):ZB M (p.A j k):=by
 unfold Prog.A
 split
 .rename_i J;exact h.a j k J G
 .split
  .exact⟨1,rfl,h.one⟩
  .exact⟨0,rfl,wK _⟩
section
variable {p:Prog} {T:Tab} {D:TZ} {ι:List Nat} {M:Nat}
theorem lF{l:List Nat}{i:Nat}(h:i<l.length):l.getD i 0∈l:=by
 rw[zx,zy h];exact zu h
theorem lG{l:List Nat}(hn:l.Nodup){i k:Nat}(hi:i<l.length)(E:k<l.length)(e:l.getD i 0=l.getD k 0):i=k:=by
 rw[zx,zx,zy hi,zy E]at e;exact(uV hn).mp e
theorem jM{l:List Nat}{r:Nat}(h:r∈l):∃i,i<l.length/\l.getD i 0=r:=by
 obtain⟨i,hi,e⟩:=List.mem_iff_getElem.mp h;exact⟨i,hi,by rw[zx,zy hi];exact e⟩
theorem Vw.io(h:Vw p T D ι){i:Nat}(hi:i<D.R.length):ι.getD i 0<p.m:=h.lt _ (lF (by rw[h.len];exact hi))
theorem NR{M:Nat}{b q d:Rat}(hb:b=d\/b= -d)(h:ZB M (q*d)):ZB M (b*q):=by
 obtain⟨z,e,E⟩:=h;rcases hb with rfl|rfl
 .exact⟨z,by rw[<- e];grind,E⟩
 .exact⟨-z,by rw[vS,<- e];grind,by omega⟩
theorem ZB.int{M:Nat}{z:Int}(h:ZB M (z:Rat)):z.natAbs<=M:=by
 obtain⟨y,e,h⟩:=h;have:z=y:=by exact_mod_cast e
 rw[this];exact h
theorem Vw.bound(h:Vw p T D ι)(E:p.Good T)(hw:Whole p M):(∀i j,i<D.R.length->j<=p.N->(en D.R i j).natAbs<=fact M p.m)/\D.Ba.natAbs<=fact M p.m:=by
 refine⟨fun i j hi O=>ZB.int ?_,ZB.int ?_⟩
 .by_cases e:j=p.N
  .subst e
   rw[h.rhs i hi];exact NR h.CW (E.ed.GK E.ok.bn hw.A hw.w (h.io hi))
  .rw[h.ent i j hi (by omega)]
   exact NR h.CW (E.ed.NI E.ok.bn hw.A (h.io hi) (by omega))
 .obtain⟨z,e,J⟩:=E.ed.Fz E.ok.bn hw.A
  rcases h.CW with G|G
  .rw[G];exact⟨z,e,J⟩
  .rw[G];exact⟨-z,by rw[vS,e],by omega⟩
theorem Vw.ne(h:Vw p T D ι):(D.Ba:Rat)≠0:=by
 have:=h.pos;intro e;have:D.Ba=0:=by exact_mod_cast e
 omega
theorem Vw.pos'(h:Vw p T D ι):(0:Rat)<D.Ba:=by have:=h.pos;exact_mod_cast this
theorem aeZ{X b z:Int}(hb:b≠0)(h:X=b*z):X.tdiv b=z:=by rw[h,Int.mul_tdiv_cancel_left _ hb]
theorem Vw.cell(h:Vw p T D ι){r k:Nat}(hg:p.Good T)(hw:Whole p M)(O:r<D.R.length)(S:k<p.N)(E:en D.R r k≠0)(G:Ok p.m p.N (piv T (ι.getD r 0) k)) :
  (∀i j,i<D.R.length->i≠r->j<p.N->((en D.R i j*en D.R r k-en D.R i k*en D.R r j).tdiv D.Ba:Rat)=en D.R r k*(piv T (ι.getD r 0) k).e (ι.getD i 0) j) /\
  (∀i,i<D.R.length->i≠r->((en D.R i p.N*en D.R r k-en D.R i k*en D.R r p.N).tdiv D.Ba:Rat)=en D.R r k*(piv T (ι.getD r 0) k).b (ι.getD i 0)):=by
 have hb:=h.ne;have a0:D.Ba≠0:=by have:=h.pos;omega
 have hp:(en D.R r k:Rat)≠0:=fun e=>E (by exact_mod_cast e)
 have ep:=h.ent r k O S;have he:T.e (ι.getD r 0) k≠0:=fun e=>hp (by rw[ep,e];grind)
 have Y:=hg.piv (h.io O) S he G;have hd:=hg.ed.acC (h.io O) S;have neq:∀i,i<D.R.length->i≠r->¬ι.getD i 0=ι.getD r 0:=fun i hi E e=>E (lG h.nd (by rw[h.len];exact hi) (by rw[h.len];exact O) e)
 have fin:∀(x f y xx ff yy:Rat),x=D.Ba*xx->f=D.Ba*ff->y=D.Ba*yy->x*en D.R r k-f*y=D.Ba*(en D.R r k*(xx-ff*(yy / T.e (ι.getD r 0) k))):=fun x f y xx ff yy h1 h2 h3=>by
  subst h1 h2 h3;rw[ep];grind
 have whole:∀q:Rat,ZB (fact M p.m) (q*Lp.CW p.m fun i=>p.A ((piv T (ι.getD r 0) k).B i))->∃z:Int,(en D.R r k:Rat)*q=z:=fun q hq=>by
  rw[hd]at hq;have:ZB (fact M p.m) ((T.e (ι.getD r 0) k*q)*Lp.CW p.m fun i=>p.A (T.B i)):=by
   obtain⟨z,e,hz⟩:=hq;exact⟨z,by rw[<- e];grind,hz⟩
  obtain⟨z,e,_⟩:=NR h.CW this;exact⟨z,by rw[<- e,ep];grind⟩
 have close:∀(X:Int) (q:Rat),(X:Rat)=D.Ba*(en D.R r k*q)->(∃z:Int,(en D.R r k:Rat)*q=z)->((X.tdiv D.Ba:Int):Rat)=en D.R r k*q:=fun X q hX ⟨z,hz⟩=>by
  have:X=D.Ba*z:=by
   rw[hz]at hX
   exact_mod_cast hX
  rw[aeZ a0 this,hz]
 refine⟨fun i j hi J hj=>?_,fun i hi J=>?_⟩
 .refine close _ _ ?_ (whole _ (Y.ed.NI G.bn hw.A (h.io hi) hj))
  rw[Rat.intCast_sub,vP,vP,fin _ _ _ _ _ _ (h.ent i j hi hj) (h.ent i k hi S) (h.ent r j O hj)];simp only[piv,sW (neq i hi J)]
 .refine close _ _ ?_ (whole _ (Y.ed.GK G.bn hw.A hw.w (h.io hi)))
  rw[Rat.intCast_sub,vP,vP,fin _ _ _ _ _ _ (h.rhs i hi) (h.ent i k hi S) (h.rhs r O)];simp only[piv,sW (neq i hi J)]
theorem lD{l:List Nat}{r k i:Nat}(hi:i<l.length):(l.set r k).getD i 0=if i=r then k else l.getD i 0:=by
 rw[zx,List.getElem?_set,zx]
 by_cases h:r=i
 .subst h;rw[sS rfl,sS hi,sS rfl];rfl
 .rw[sW h,sW (yu h)]
theorem NS{R:List (List Int)}{n:Nat}(h:∀x∈R,x.length=n){r k:Nat}(E:r<R.length)(b:Int):∀x∈BG R r k b,x.length=n:=fun x G=>by
 unfold BG at G;obtain⟨i,hi,rfl⟩:=List.mem_mapIdx.mp G
 split
 .exact h _ (zu hi)
 .unfold ER
  rw[tq,h _ (zu hi),dS E,h _ (zu E)];omega
theorem Vw.piv(h:Vw p T D ι){r k:Nat}(hg:p.Good T)(hw:Whole p M)(J:r<D.R.length)(hk:k<p.N)(O:en D.R r k≠0)(a1:Ok p.m p.N (piv T (ι.getD r 0) k))(hh:k<p.n\/∀r',r'<p.m->r'∈ι) :
  Vw p (Lp.piv T (ι.getD r 0) k) (F6 D r k) ι:=by
 obtain⟨c1,c2⟩:=h.cell hg hw J hk O a1;have hp:(en D.R r k:Rat)≠0:=fun e=>O (by exact_mod_cast e)
 have ep:=h.ent r k J hk;have he:T.e (ι.getD r 0) k≠0:=fun e=>hp (by rw[ep,e];grind)
 have hd:=hg.ed.acC (h.io J) hk;have neq:∀i,i<D.R.length->i≠r->¬ι.getD i 0=ι.getD r 0:=fun i hi O e=>O (lG h.nd (by rw[h.len];exact hi) (by rw[h.len];exact J) e)
 have E:∀i j,i<D.R.length->j<p.N->(en (BG D.R r k D.Ba) i j:Rat)=en D.R r k*(Lp.piv T (ι.getD r 0) k).e (ι.getD i 0) j:=fun i j hi S=>by
  by_cases e:i=r
  .subst e
   rw[KJ,h.ent i j hi S,ep];simp only[Lp.piv,if_true];grind
  .rw[ahR h.row hi J (by omega) e]
   exact c1 i j hi e S
 have Rh:∀i,i<D.R.length->(en (BG D.R r k D.Ba) i p.N:Rat)=en D.R r k*(Lp.piv T (ι.getD r 0) k).b (ι.getD i 0):=fun i hi=>by
  by_cases e:i=r
  .subst e
   rw[KJ,h.rhs i hi,ep];simp only[Lp.piv,if_true];grind
  .rw[ahR h.row hi J (by omega) e]
   exact c2 i hi e
 have hB:∀i,i<D.R.length->(D.B.set r k).getD i 0=(Lp.piv T (ι.getD r 0) k).B (ι.getD i 0):=fun i hi=>by
  rw[lD (by rw[h.Bg];exact hi)];simp only[Lp.piv]
  by_cases e:i=r
  .subst e;rw[sS rfl,sS rfl]
  .rw[sW e,sW (neq i hi e),h.BD i hi]
 have hid:∀q,q<p.m->q∉ι->p.n<=(Lp.piv T (ι.getD r 0) k).B q/\(Lp.piv T (ι.getD r 0) k).b q=0/\∀j,j<p.n->(Lp.piv T (ι.getD r 0) k).e q j=0:=fun q hq hn=>by
  rcases hh with hh|hh
  .obtain⟨Y,h2,h3⟩:=h.hid q hq hn
   have a2:¬q=ι.getD r 0:=fun e=>hn (by rw[e];exact lF (by rw[h.len];exact J))
   simp only[Lp.piv,sW a2,h2,h3 k hh];refine⟨Y,by grind,fun j S=>?_⟩;rw[h3 j S];grind
  .exact absurd (hh q hq) hn
 have a0:(en D.R r k:Rat)=Lp.CW p.m (fun q=>p.A ((Lp.piv T (ι.getD r 0) k).B q))\/(en D.R r k:Rat)= -Lp.CW p.m (fun q=>p.A ((Lp.piv T (ι.getD r 0) k).B q)):=by
  rw[hd,ep];rcases h.CW with Y|Y<;>rw[Y]
  .exact .inl (by grind)
  .exact .inr (by grind)
 unfold F6
 by_cases G:0<en D.R r k
 .rw[sS G]
  exact⟨by rw[h.len];exact(gu ..).symm,by show(D.B.set r k).length=(BG D.R r k D.Ba).length;rw[yJ,gu];exact h.Bg,NS h.row J _,h.lt,h.nd,
   fun i j hi S=>E i j (by rw[gu]at hi;exact hi) S,fun i hi=>Rh i (by rw[gu]at hi;exact hi),fun i hi=>hB i (by rw[gu]at hi;exact hi),G,a0,hid⟩
 .rw[sW G]
  have hl:(negR (BG D.R r k D.Ba)).length=D.R.length:=by rw[NQ,gu]
  refine⟨by rw[h.len];exact hl.symm,by show(D.B.set r k).length=(negR (BG D.R r k D.Ba)).length;rw[yJ,hl];exact h.Bg,fun x hx=>?_,h.lt,h.nd,
   fun i j hi S=>?_,fun i hi=>?_,fun i hi=>hB i (by rw[hl]at hi;exact hi),by show 0< -en D.R r k;omega,?_,hid⟩
  .unfold negR at hx
   obtain⟨y,hy,rfl⟩:=List.mem_map.mp hx;rw[zO];exact NS h.row J _ y hy
  .show((en (negR (BG D.R r k D.Ba)) i j:Int):Rat)=((-en D.R r k:Int):Rat)*_
   rw[ahQ,vS,vS,E i j (by rw[hl]at hi;exact hi) S];grind
  .show((en (negR (BG D.R r k D.Ba)) i p.N:Int):Rat)=((-en D.R r k:Int):Rat)*_
   rw[ahQ,vS,vS,Rh i (by rw[hl]at hi;exact hi)];grind
  .show((-en D.R r k:Int):Rat)=_\/((-en D.R r k:Int):Rat)=_
   rw[vS];rcases a0 with Y|Y<;>rw[Y]
   .exact .inr rfl
   .exact .inl (by grind)
end
end Go.Lp
namespace Go.Lp
def sl(f:Nat->Rat):List Nat->Rat
 |[]=>0
 |r :: l=>f r+sl f l
theorem Xg{f g:Nat->Rat}:∀ {l:List Nat},(∀r∈l,f r=g r)->sl f l=sl g l
 |[],_=>rfl
 |r :: l,h=>by unfold sl;rw[h r zM,Xg fun q E=>h q (zY _ E)]
theorem Xh{m:Nat}:∀ {l:List Nat} {f:Nat->Rat},l.Nodup->(∀r∈l,r<m)->(∀r,r<m->r∉l->f r=0)->sl f l=sm f m
 |[],f,_,_,hz=>(bK fun r E=>hz r E zH).symm
 |a :: l,f,hn,hl,hz=>by
  rw[xZ]at hn;have ha:=hl a zM;have J:=Xh (m:=m) (l:=l) (f:=fun r=>if r=a then 0 else f r) hn.2 (fun r E=>hl r (zY _ E)) fun r E O=>by
   show(if r=a then(0:Rat)else f r)=0
   split
   .rfl
   .rename_i e;exact hz r E (by simp[e,O])
  have S:sl (fun r=>if r=a then 0 else f r) l=sl f l:=Xg fun r E=>sW (fun e:r=a=>hn.1 (e ▸ E))
  have Y:sm f m=sm (fun r=>if r=a then 0 else f r) m+sm (fun r=>if r=a then f r else 0) m:=by
   rw[<- bY];refine bU fun r _=>?_
   by_cases e:r=a
   .rw[sS e,sS e];grind
   .rw[sW e,sW e];grind
  show f a+sl f l=_;rw[Y,<- J,S,bP ha fun r _ G=>sW G,sS rfl];grind
def Ee(o:Nat->Int)(k:Nat):List (List Int)->List Nat->Int
 |x :: R,b :: B=>Ee o k R B-x.getD k 0*o b
 |_,_=>0
def BF(D:TZ)(o:Nat->Int)(k:Nat):Int:=D.Ba*o k+Ee o k D.R D.B
structure IG (n:Nat) (D:TZ) (o:Nat->Int) (s:Nat):Prop where
 lt:s<n
 fr:D.fr.getD s false=true
 non:s∉D.B
 pos:0<BF D o s
 low:∀j,j<s->D.fr.getD j false=true->j∉D.B->¬0<BF D o j
structure acG (n:Nat) (D:TZ) (s r:Nat):Prop where
 lt:r<D.R.length
 pos:0<en D.R r s
 low:∀i,i<D.R.length->0<en D.R i s->en D.R r n*en D.R i s<=en D.R i n*en D.R r s
 tie:∀i,i<D.R.length->0<en D.R i s->en D.R r n*en D.R i s=en D.R i n*en D.R r s->D.B.getD r 0<=D.B.getD i 0
def ES(n:Nat)(o:Nat->Int)(D E:TZ):Prop:=∃s r,IG n D o s/\acG n D s r/\E=F6 D r s
def II(n:Nat)(o:Nat->Int):Nat->TZ->Prop
 |0,_=>False
 |k+1,D=>∀E,ES n o D E->II n o k E
section
variable {p:Prog} {T:Tab} {D:TZ} {ι:List Nat} {M:Nat} {o:Nat->Int}
theorem Xi(b:Rat)(k:Nat)(f:Nat->Rat)(B:Nat->Nat):∀(R:List (List Int)) (E:List Nat) (l:List Nat),l.length=R.length->E.length=R.length ->
  (∀i,i<R.length->(en R i k:Rat)=b*f (l.getD i 0))->(∀i,i<R.length->E.getD i 0=B (l.getD i 0)) ->
  (Ee o k R E:Rat)= -(b*sl (fun r=>f r*o (B r)) l)
 |[],E,l,h1,h2,_,_=>by
  cases l with
  |nil=>simp[Ee,sl]
  |cons a l=>simp at h1
 |x :: R,[],l,_,h2,_,_=>by simp at h2
 |x :: R,b' :: E,[],h1,_,_,_=>by simp at h1
 |x :: R,b' :: E,a :: l,h1,h2,h3,h4=>by
  have G:=h3 0 (by simp);have J:b'=B a:=h4 0 (by simp);have O:(x.getD k 0:Rat)=b*f a:=G;have S:=Xi b k f B R E l (by simpa using h1) (by simpa using h2) (fun i hi=>h3 (i+1) (by simpa using hi)) (fun i hi=>h4 (i+1) (by simpa using hi));show((Ee o k R E-x.getD k 0*o b':Int):Rat)= -(b*(f a*o (B a)+sl _ l));rw[Rat.intCast_sub,vP,S,O,J];grind
theorem Vw.gain(h:Vw p T D ι){k:Nat}(E:k<p.N)(G:∀r,r<p.m->r∉ι->T.e r k*o (T.B r)=0):(BF D o k:Rat)=D.Ba*gm p.m T (fun j=>o j) k:=by
 unfold BF;rw[Rat.intCast_add,vP,Xi D.Ba k (fun r=>T.e r k) T.B D.R D.B ι h.len h.Bg (fun i hi=>h.ent i k hi E) h.BD,Xh h.nd h.lt G];unfold gm;grind
theorem Vw.mem(h:Vw p T D ι){s:Nat}(E:s<p.n\/∀r',r'<p.m->r'∈ι):s∈D.B↔basic p.m T s:=by
 constructor
 .intro hs
  obtain⟨i,hi,e⟩:=jM hs;rw[h.Bg]at hi;exact⟨_,h.io hi,by rw[<- h.BD i hi,e]⟩
 .rintro ⟨r,G,rfl⟩
  have hm:r∈ι:=by
   refine zf fun hn=>?_
   rcases E with E|E
   .have:=(h.hid r G hn).1;omega
   .exact hn (E r G)
  obtain⟨i,hi,rfl⟩:=jM hm;rw[h.len]at hi;rw[<- h.BD i hi];exact lF (by rw[h.Bg];exact hi)
theorem Vw.sign(h:Vw p T D ι){i k:Nat}(hi:i<D.R.length)(J:k<p.N):(0<en D.R i k↔0<T.e (ι.getD i 0) k)/\(en D.R i k=0↔T.e (ι.getD i 0) k=0):=by
 have e:=h.ent i k hi J;have hb:=h.pos';have hp:(0:Rat)<en D.R i k↔0<en D.R i k:=by
  constructor
  .intro h;exact_mod_cast h
  .intro h;exact_mod_cast h
 refine⟨?_,?_⟩
 .rw[<- hp,e]
  constructor
  .intro E
   refine zf fun G=>?_
   have:=xQ (vY hb) (show 0<= -T.e (ι.getD i 0) k by grind);grind
  .intro E;exact Rat.mul_pos hb E
 .constructor
  .intro E
   have:(en D.R i k:Rat)=0:=by rw[E];rfl
   rw[e]at this;rcases Rat.mul_eq_zero.mp this with G|G
   .exact absurd G h.ne
   .exact G
  .intro E
   have:(en D.R i k:Rat)=0:=by rw[e,E];grind
   exact_mod_cast this
theorem Vw.ano(h:Vw p T D ι){i:Nat}(hi:i<D.R.length):en D.R i p.N=0↔T.b (ι.getD i 0)=0:=by
 have e:=h.rhs i hi;constructor
 .intro E
  have:(en D.R i p.N:Rat)=0:=by rw[E];rfl
  rw[e]at this;rcases Rat.mul_eq_zero.mp this with G|G
  .exact absurd G h.ne
  .exact G
 .intro E
  have:(en D.R i p.N:Rat)=0:=by rw[e,E];grind
  exact_mod_cast this
theorem Vw.nonneg(h:Vw p T D ι)(E:Ok p.m p.N T){i:Nat}(hi:i<D.R.length):0<=en D.R i p.N:=by
 have e:=h.rhs i hi;have:(0:Rat)<=en D.R i p.N:=by rw[e];exact xQ (vY h.pos') (E.nb _ (h.io hi))
 exact_mod_cast this
theorem Vw.leaves(h:Vw p T D ι){s r:Nat}(hs:s<p.N)(J:s<p.n\/∀r',r'<p.m->r'∈ι)(G:acG p.N D s r):Leaves p.m T s (ι.getD r 0):=by
 have seen:∀i,i<p.m->0<T.e i s->∃q,q<D.R.length/\ι.getD q 0=i:=fun i hi hp=>by
  have hm:i∈ι:=by
   refine zf fun hn=>?_
   rcases J with J|J
   .have:=(h.hid i hi hn).2.2 s J;grind
   .exact hn (J i hi)
  obtain⟨q,E,e⟩:=jM hm;exact⟨q,by rw[<- h.len];exact E,e⟩
 have S:(0:Rat)<D.Ba*D.Ba:=Rat.mul_pos h.pos' h.pos';have val:∀i q,i<D.R.length->q<D.R.length->((en D.R i p.N*en D.R q s:Int):Rat)=D.Ba*D.Ba*(T.b (ι.getD i 0)*T.e (ι.getD q 0) s):=fun i q hi E=>by
  rw[vP,h.rhs i hi,h.ent q s E hs];grind
 refine⟨h.io G.lt,(h.sign G.lt hs).1.mp G.pos,fun i hi hp=>?_,fun i hi hp Y=>?_⟩
 .obtain⟨q,E,rfl⟩:=seen i hi hp
  have h1:=G.low q E ((h.sign E hs).1.mpr hp);have O:((en D.R r p.N*en D.R q s:Int):Rat)<=((en D.R q p.N*en D.R r s:Int):Rat):=by exact_mod_cast h1
  rw[val r q G.lt E,val q r E G.lt]at O;exact Rat.le_of_mul_le_mul_left O S
 .obtain⟨q,E,rfl⟩:=seen i hi hp
  rw[<- h.BD r G.lt,<- h.BD q E];refine G.tie q E ((h.sign E hs).1.mpr hp) ?_;have O:((en D.R r p.N*en D.R q s:Int):Rat)=((en D.R q p.N*en D.R r s:Int):Rat):=by rw[val r q G.lt E,val q r E G.lt,Y]
  exact_mod_cast O
structure Fit (p:Prog) (T:Tab) (ι:List Nat) (o:Nat->Int) (fr:List Bool):Prop where
 obj:∀r,r<p.m->r∉ι->∀k,k<p.N->fr.getD k false=true->T.e r k*o (T.B r)=0
 col:∀k,fr.getD k false=true->k<p.n\/∀r',r'<p.m->r'∈ι
theorem lT(h:Vw p T D ι){k:Nat}(G:k<p.N)(J:∀r,r<p.m->r∉ι->T.e r k*o (T.B r)=0):(0<BF D o k↔0<gm p.m T (fun j=>o j) k)/\(BF D o k<0↔gm p.m T (fun j=>o j) k<0):=by
 have e:=h.gain G J;have hb:=h.pos';have c1:(0:Rat)<BF D o k↔0<BF D o k:=⟨fun h=>by exact_mod_cast h,fun h=>by exact_mod_cast h⟩;have O:(BF D o k:Rat)<0↔BF D o k<0:=⟨fun h=>by exact_mod_cast h,fun h=>by exact_mod_cast h⟩;rw[<- c1,<- O,e];generalize gm p.m T (fun j=>(o j:Rat)) k=g;constructor<;>constructor
 .intro E
  refine zf fun S=>?_
  have:=xQ (vY hb) (show 0<= -g by grind);grind
 .intro E;exact Rat.mul_pos hb E
 .intro E
  refine zf fun S=>?_
  have:=xQ (vY hb) (show 0<=g by grind);grind
 .intro E
  have:=Rat.mul_pos hb (show 0< -g by grind);grind
theorem lp1{v:Nat->Rat}:Lp 1 v↔0<v 0:=by
 constructor
 .rintro (h|⟨_,h⟩)
  .exact h.elim
  .exact h
 .intro h;exact .inr ⟨fun q E=>absurd E (zW q),h⟩
theorem Vw.step(h:Vw p T D ι)(hg:p.Good T)(hw:Whole p M)(J:Fit p T ι o D.fr){S:TZ}(hs:ES p.N o D S) :
  ∃T',Step p.m p.N 1 (fun _ j=>o j) (fun j=>D.fr.getD j false=true) T T'/\Vw p T' S ι/\S.fr=D.fr:=by
 obtain⟨s,r,E,Y,rfl⟩:=hs;have hl:=h.leaves E.lt (J.col s E.fr) Y;have a0:Enters p.m p.N 1 (fun _ j=>o j) (fun j=>D.fr.getD j false=true) T s:=by
  refine⟨E.lt,E.fr,fun hb=>E.non ((h.mem (J.col s E.fr)).mpr hb),lp1.mpr ((lT h E.lt fun r hr hn=>J.obj r hr hn s E.lt E.fr).1.mp E.pos),fun j hj G hb hp=>?_⟩;exact E.low j hj G (fun hm=>hb ((h.mem (J.col j G)).mp hm)) ((lT h (by have:=E.lt;omega) fun r hr hn=>J.obj r hr hn j (by have:=E.lt;omega) G).1.mpr (lp1.mp hp))
 have O:Step p.m p.N 1 (fun _ j=>o j) (fun j=>D.fr.getD j false=true) T (Lp.piv T (ι.getD r 0) s):=⟨s,_,a0,hl,rfl⟩;refine⟨_,O,h.piv hg hw Y.lt E.lt (by have:=Y.pos;omega) (O.ok hg.ok) (J.col s E.fr),?_⟩;unfold F6
 split<;>rfl
theorem Fit.step{T':Tab}(E:Fit p T ι o D.fr)(h:Vw p T D ι)(h':Vw p T' D ι\/True)(hs:∃s r,r∈ι/\D.fr.getD s false=true/\s<p.N/\T'=Lp.piv T r s):Fit p T' ι o D.fr:=by
 obtain⟨s,r,Y,G,a0,rfl⟩:=hs;refine⟨fun q J hn k hk O=>?_,E.col⟩;rcases E.col s G with hs|hs
 .have h1:=E.obj q J hn k hk O
  have h2:=(h.hid q J hn).2.2 s hs;have S:¬q=r:=fun e=>hn (e ▸ Y)
  simp only[Lp.piv,sW S,h2];have:T.e q k-0*(T.e r k / T.e r s)=T.e q k:=by grind
  rw[this];exact h1
 .exact absurd (hs q J) hn
theorem Vw.aa9(hw:Whole p M):∀ {k:Nat} {T:Tab} {D:TZ},Vw p T D ι->p.Good T->Fit p T ι o D.fr->aeX p.m p.N 1 (fun _ j=>o j) (fun j=>D.fr.getD j false=true) k T->II p.N o k D
 |0,_,_,_,_,_,h=>h
 |k+1,T,D,h,hg,hf,hn=>fun D' hs=>by
  obtain⟨T',G,h2,Y⟩:=h.step hg hw hf hs;have J:Fit p T' ι o D'.fr:=by
   rw[Y];obtain⟨s,r,g1,g2,g3⟩:=hs;refine hf.step h (.inr trivial) ?_;obtain⟨s',r',O,S,q3⟩:=G;have e:=h.leaves g1.lt (hf.col s g1.fr) g2;refine⟨s',r',?_,O.fr,O.lt,q3⟩;refine zf fun E=>?_
   rcases hf.col s' O.fr with hc|hc
   .have:=(h.hid r' S.lt E).2.2 s' hc
    have:=S.pos;grind
   .exact E (hc r' S.lt)
  exact Vw.aa9 hw h2 (hg.step G) J (by rw[Y];exact hn T' G)
end
end Go.Lp
namespace Go.Lp
inductive ET (n:Nat) (o:Nat->Int):TZ->TZ->Prop
 |refl (D:TZ):ET n o D D
 |tail {D D1 D2:TZ}:ET n o D D1->ES n o D1 D2->ET n o D D2
def frZ(n:Nat)(o:Nat->Int)(D:TZ)(fr:List Bool):Prop:=fr.length=D.fr.length/\∀j,j<n->(fr.getD j false=true↔D.fr.getD j false=true/\(j∈D.B\/¬BF D o j<0))
def TT(n:Nat)(o:Nat->Int)(D:TZ)(E:Bool)(G:TZ):Prop :=
 ∃D1,ET n o D D1/\((E=true/\(∀j,j<n->D1.fr.getD j false=true->j∉D1.B->¬0<BF D1 o j)/\∃fr,frZ n o D1 fr/\G={ D1 with fr:=fr }) \/
  (E=false/\G=D1/\∃s,IG n D1 o s/\∀i,i<D1.R.length->¬0<en D1.R i s))
section
variable {p:Prog} {T:Tab} {D:TZ} {ι:List Nat} {M:Nat} {o:Nat->Int}
theorem ET.run(hw:Whole p M){D D1:TZ}(hr:ET p.N o D D1){T:Tab}(h:Vw p T D ι)(hg:p.Good T)(hf:Fit p T ι o D.fr){Q:Tab->Prop}(hQ:Q T)
  (hs:∀T T',p.Good T->Q T->Step p.m p.N 1 (fun _ j=>o j) (fun j=>D.fr.getD j false=true) T T'->Q T') :
  ∃E,Vw p E D1 ι/\p.Good E/\Fit p E ι o D1.fr/\Q E/\D1.fr=D.fr:=by
 induction hr with
 |refl=>exact⟨T,h,hg,hf,hQ,rfl⟩
 |tail h1 h2 ih=>
  obtain⟨E,S,Y,k3,k4,J⟩:=ih;obtain⟨T2,O,g2,g3⟩:=S.step Y hw k3 h2;rw[J]at O;refine⟨T2,g2,Y.step O,?_,hs _ _ Y k4 O,g3.trans J⟩;rw[g3];refine k3.step S (.inr trivial) ?_;rw[J];obtain⟨s',r',q1,q2,q3⟩:=O;refine⟨s',r',?_,q1.fr,q1.lt,q3⟩;refine zf fun G=>?_
  rcases k3.col s' (by rw[J];exact q1.fr)with hc|hc
  .have:=(S.hid r' q2.lt G).2.2 s' hc
   have:=q2.pos;grind
  .exact G (hc r' q2.lt)
theorem Vw.frame(h:Vw p T D ι)(fr:List Bool):Vw p T { D with fr:=fr } ι:=⟨h.len,h.Bg,h.row,h.lt,h.nd,h.ent,h.rhs,h.BD,h.pos,h.CW,h.hid⟩
def o1(n:Nat)(j:Nat):Int:=if j<n then 0 else -1
theorem anp:(fun j=>((o1 p.n j:Int):Rat))=p.c1:=by
 funext j;unfold o1 Prog.c1
 split<;>rfl
def Zero(p:Prog)(T:Tab):Prop:=∀r,r<p.m->p.n<=T.B r->T.b r=0
theorem ae0(hw:Whole p M){D G:TZ}{a2:Bool}(hm:TT p.N (o1 p.n) D a2 G)(h:Vw p p.T0 D ι)(hg:p.Good p.T0)(J:∀r,r<p.m->r∈ι)(a3:∀j,D.fr.getD j false=true↔j<p.n) :
  ∃T,Vw p T G ι/\p.Good T/\((∀i,i<G.R.length->p.n<=G.B.getD i 0->¬0<en G.R i p.N)->Zero p T)/\((∃i,i<G.R.length/\p.n<=G.B.getD i 0/\0<en G.R i p.N)->p.None):=by
 obtain⟨D1,h1,h2⟩:=hm;have hf:Fit p p.T0 ι (o1 p.n) D.fr:=⟨fun r O hn=>absurd (J r O) hn,fun k _=> .inr J⟩;obtain⟨Y,E,k2,k3,_,k5⟩:=h1.run hw h hg hf (Q:=fun _=>True) trivial (fun _ _ _ _ _=>trivial);have hN:∀j,j<p.n->j<p.N:=fun j hj=>by unfold Prog.N;omega
 have a0:∀k,k<p.N->∀r,r<p.m->r∉ι->Y.e r k*o1 p.n (Y.B r)=0:=fun k _ r O hn=>absurd (J r O) hn
 rcases h2 with ⟨_,h2,fr,_,rfl⟩|⟨_,_,s,h3,h4⟩
 .have a1:∀j,j<p.N->j<p.n->¬basic p.m Y j->¬Lp 1 (gv p.m Y (fun _=>p.c1) j):=fun j hj S hb hp=>by
   refine h2 j hj (by rw[k5];exact(a3 j).mpr S) (fun hm=>hb ((E.mem (.inr J)).mp hm)) ?_;refine(lT E hj (a0 j hj)).1.mpr ?_;rw[anp];exact lp1.mp hp
  refine⟨Y,E.frame fr,k2,fun hz r O hB=>?_,?_⟩
  .obtain⟨i,hi,rfl⟩:=jM (J r O)
   rw[E.len]at hi;refine(E.ano hi).mp ?_;have h5:=hz i hi (by show p.n<=D1.B.getD i 0;rw[E.BD i hi];exact hB);have h6:=E.nonneg k2.ok hi;have:¬0<en D1.R i p.N:=h5;omega
  .rintro ⟨i,hi,hB,hp⟩
   have hB:p.n<=D1.B.getD i 0:=hB;rw[E.BD i hi]at hB;refine Prog.alI k2 (Fr:=fun j=>j<p.n) (fun _ h=>h) (fun j hj S hb=>a1 j hj S hb) (E.io hi) hB fun e=>?_
   have:=(E.ano hi).mpr e;have hp:0<en D1.R i p.N:=hp;omega
 .exfalso
  have hs:=h3.lt;have a5:=h3.fr;have a4:¬basic p.m Y s:=fun hb=>h3.non ((E.mem (.inr J)).mpr hb)
  refine Prog.acF k2 hs a4 ?_ fun r O=>?_
  .refine lp1.mpr ?_
   have:=(lT E hs (a0 s hs)).1.mp h3.pos;rw[anp]at this;exact this
  .obtain⟨i,hi,rfl⟩:=jM (J r O)
   rw[E.len]at hi;refine Rat.not_lt.mp fun hp=>h4 i hi ((E.sign hi hs).1.mpr hp)
theorem Zero.piv(G:Zero p T){r s:Nat}(J:r<p.m)(O:T.b r=0)(hs:s<p.n):Zero p (Lp.piv T r s):=fun q S E=>by
 simp only[Lp.piv]at E⊢
 by_cases e:q=r
 .rw[sS e]at E;omega
 .rw[sW e]at E
  rw[sW e,O,G q S E];rw[vM];grind
theorem ae1(hw:Whole p M)(h:Vw p T D ι)(J:p.Good T)(Y:Zero p T){i k:Nat}(hi:i<D.R.length)(hB:p.n<=D.B.getD i 0)(hk:k<p.n)(G:en D.R i k≠0) :
  Vw p (Lp.piv T (ι.getD i 0) k) (F6 D i k) ι/\p.Good (Lp.piv T (ι.getD i 0) k)/\Zero p (Lp.piv T (ι.getD i 0) k):=by
 have E:k<p.N:=by unfold Prog.N;omega
 have O:T.b (ι.getD i 0)=0:=Y _ (h.io hi) (by rw[<- h.BD i hi];exact hB);have he:T.e (ι.getD i 0) k≠0:=fun e=>G ((h.sign hi E).2.mpr e)
 have S:=acD J.ok (h.io hi) E he O;exact⟨h.piv J hw hi E G S (.inl hk),J.ath (h.io hi) E he O,Y.piv (h.io hi) O hk⟩
theorem lH{α:Type}(d:α)(l:List α)(i j:Nat):(l.eraseIdx i).getD j d=l.getD (if j<i then j else j+1) d:=by
 simp only[zx,List.getElem?_eraseIdx]
 split<;>rfl
theorem aa_(h:Vw p T D ι)(hz:Zero p T){i:Nat}(hi:i<D.R.length)(hB:p.n<=D.B.getD i 0)(O:∀k,k<p.n->en D.R i k=0) :
  Vw p T { D with R:=D.R.eraseIdx i,B:=D.B.eraseIdx i } (ι.eraseIdx i):=by
 have S:(D.R.eraseIdx i).length=D.R.length-1:=yR hi;have sh:∀j,j<D.R.length-1->(if j<i then j else j+1)<D.R.length:=fun j E=>by split<;>omega
 have G:∀j k,en (D.R.eraseIdx i) j k=en D.R (if j<i then j else j+1) k:=fun j k=>by
  unfold en DZ;rw[lH]
 refine⟨?_,?_,fun x hx=>h.row x (uj hx),fun r hr=>h.lt r (uj hr),h.nd.sublist (tC ..),fun j k E hk=>?_,fun j E=>?_,fun j E=>?_,h.pos,h.CW,fun r hr hn=>?_⟩
 .show(ι.eraseIdx i).length=(D.R.eraseIdx i).length
  rw[S,yR (by rw[h.len];exact hi),h.len]
 .show(D.B.eraseIdx i).length=(D.R.eraseIdx i).length
  rw[S,yR (by rw[h.Bg];exact hi),h.Bg]
 .show(en (D.R.eraseIdx i) j k:Rat)=_
  rw[G,lH];exact h.ent _ k (sh j (by rw[<- S];exact E)) hk
 .show(en (D.R.eraseIdx i) j p.N:Rat)=_
  rw[G,lH];exact h.rhs _ (sh j (by rw[<- S];exact E))
 .show(D.B.eraseIdx i).getD j 0=_
  rw[lH,lH];exact h.BD _ (sh j (by rw[<- S];exact E))
 .by_cases hm:r∈ι
  .obtain⟨q,hq,rfl⟩:=jM hm
   have a0:q=i:=by
    refine zf fun a1=>hn ?_
    have a2:q<D.R.length:=by rw[<- h.len];exact hq
    have e:(ι.eraseIdx i).getD (if q<i then q else q-1) 0=ι.getD q 0:=by
     rw[lH]
     by_cases J:q<i
     .rw[sS J,sS J]
     .rw[sW J,sW (by omega),show q-1+1=q by omega]
    rw[<- e];refine lF ?_;rw[yR (by rw[h.len];exact hi),h.len]
    split<;>omega
   subst a0;have Y:p.n<=T.B (ι.getD q 0):=by rw[<- h.BD q hi];exact hB
   refine⟨Y,hz _ hr Y,fun j E=>?_⟩;exact(h.sign hi (by unfold Prog.N;omega)).2.mp (O j E)
  .exact h.hid r hr hm
theorem ae2(h:Vw p T D ι)(E:∀i,i<D.R.length->D.B.getD i 0<p.n):p.Out T:=⟨fun r G hn=>by
 by_cases hm:r∈ι
 .obtain⟨i,hi,rfl⟩:=jM hm
  rw[h.len]at hi;have:=E i hi;rw[h.BD i hi]at this;omega
 .exact(h.hid r G hm).2⟩
def oq(n:Nat)(c:Nat->Int)(q j:Nat):Int:=if q=0 then(if j<n then c j else 0)else if j+1=q/\j<n then -1 else 0
theorem ayP{c:Nat->Int}(hc:∀j,j<p.n->p.c j=c j)(q:Nat):(fun j=>((oq p.n c q j:Int):Rat))=p.C q:=by
 funext j;unfold oq Prog.C
 split
 .split
  .rename_i E;rw[hc j E]
  .rfl
 .split<;>rfl
theorem aoJ(h:Vw p T D ι){c:Nat->Int}{q:Nat}{fr:List Bool}(E:∀j,fr.getD j false=true->j<p.n):Fit p T ι (oq p.n c q) fr :=
 ⟨fun r G hn k _ _=>by
  have O:=(h.hid r G hn).1;have:oq p.n c q (T.B r)=0:=by
   unfold oq
   split
   .rw[sW (by omega)]
   .rw[sW (by omega)]
  rw[this];grind,fun k J=> .inl (E k J)⟩
theorem ae3(hw:Whole p M){c:Nat->Int}(hc:∀j,j<p.n->p.c j=c j){q:Nat}{v:Nat->Rat}{D D':TZ}{O:Bool}(hm:TT p.N (oq p.n c q) D O D')(h:Vw p T D ι)(hg:p.Good T)(ho:p.Out T)
  (hs:p.Ep q v (fun j=>D.fr.getD j false=true) T) (hlen:D.fr.length<=p.N) :
  ∃T',Vw p T' D' ι/\p.Good T'/\p.Out T'/\D'.fr.length=D.fr.length/\((O=true/\p.Ep (q+1) (fun i=>if i=q then zz p.m T' (p.C q)else v i) (fun j=>D'.fr.getD j false=true) T') \/
   (O=false/\∃s,s<p.n/\¬basic p.m T' s/\0<gm p.m T' (p.C q) s/\∀i,i<p.m->T'.e i s<=0)):=by
 obtain⟨D1,h1,h2⟩:=hm;have hf:Fit p T ι (oq p.n c q) D.fr:=aoJ h fun j E=>hs.inn j E
 obtain⟨T1,G,k2,k3,⟨k4,k6⟩,S⟩:=h1.run hw h hg hf (Q:=fun T=>p.Out T/\p.Ep q v (fun j=>D.fr.getD j false=true) T) ⟨ho,hs⟩ (fun T T' _ J a1=>by
  refine⟨?_,J.2.step a1⟩;obtain⟨s,r,g1,g2,rfl⟩:=a1
  by_cases hB:T.B r<p.n
  .exact J.1.piv hB (J.2.inn s g1.fr)
  .have:=(J.1.z r g2.lt (by omega)).2 s (J.2.inn s g1.fr)
   have:=g2.pos;grind)
 have Y:∀k,k<p.N->(0<BF D1 (oq p.n c q) k↔0<gm p.m T1 (p.C q) k)/\(BF D1 (oq p.n c q) k<0↔gm p.m T1 (p.C q) k<0):=fun k hk=>by
  have:=lT (o:=oq p.n c q) G hk fun r hr hn=>by
   have h1:=(G.hid r hr hn).1;have:oq p.n c q (T1.B r)=0:=by
    unfold oq
    split
    .rw[sW (by omega)]
    .rw[sW (by omega)]
   rw[this];grind
  rw[ayP hc]at this;exact this
 have hN:∀j,j<p.n->j<p.N:=fun j E=>by unfold Prog.N;omega
 refine⟨T1,?_⟩;rcases h2 with ⟨e,h2,fr,⟨a2,a3⟩,rfl⟩|⟨e,rfl,s,h3,h4⟩
 .refine⟨G.frame fr,k2,k4,by show fr.length=_;rw[a2,S],.inl ⟨e,?_⟩⟩
  refine Prog.Ep.next (Fr':=fun j=>fr.getD j false=true) k2 k4 k6 (fun j E a4 hb hp=>?_) (fun j E=>?_) (fun j E=>?_)
  .exact h2 j (hN j E) (by rw[S];exact a4) (fun hm=>hb ((G.mem (.inl E)).mp hm)) ((Y j (hN j E)).1.mpr hp)
  .rw[a3 j (hN j E),S,G.mem (.inl E),(Y j (hN j E)).2]
  .by_cases a5:j<p.N
   .have:=((a3 j a5).mp E).1
    rw[S]at this;exact k6.inn j this
   .exfalso
    have E:fr.getD j false=true:=E;rw[zx,yZ (by rw[a2,S];omega)]at E;cases E
 .refine⟨G,k2,k4,by rw[S],.inr ⟨e,s,?_⟩⟩
  have a0:s<p.n:=k6.inn s (by rw[<- S];exact h3.fr);refine⟨a0,fun hb=>h3.non ((G.mem (.inl a0)).mpr hb),(Y s h3.lt).1.mp h3.pos,fun i hi=>?_⟩
  by_cases hm:i∈ι
  .obtain⟨q',J,rfl⟩:=jM hm
   rw[G.len]at J;exact Rat.not_lt.mp fun hp=>h4 q' J ((G.sign J h3.lt).1.mpr hp)
  .rw[(G.hid i hi hm).2.2 s a0];exact uT
theorem read(h:Vw p T D ι)(E:p.Good T){i:Nat}(hi:i<D.R.length):(en D.R i p.N:Rat) / D.Ba=BD p.m T (D.B.getD i 0):=by
 rw[h.rhs i hi,h.BD i hi,IB E.ok (h.io hi)];have:=h.ne;grind
theorem Xj(h:Vw p T D ι){j:Nat}(E:j<p.n)(hn:j∉D.B):BD p.m T j=0:=qy fun hb=>hn ((h.mem (.inl E)).mpr hb)
end
end Go.Lp
namespace Go.Lp
theorem aoK{m:Nat}{T:Tab}{r s:Nat}(E:r<m)(G:T.e r s≠0)(c:Nat->Rat)(j:Nat):gm m (piv T r s) c j=gm m T c j-gm m T c s*(T.e r j / T.e r s):=by
 have key:sm (fun i=>(piv T r s).e i j*c ((piv T r s).B i)) m=sm (fun i=>T.e i j*c (T.B i)) m+T.e r j / T.e r s*gm m T c s:=by
  have e:sm (fun i=>(piv T r s).e i j*c ((piv T r s).B i)) m=sm (fun i=>T.e i j*c (T.B i)) m-T.e r j / T.e r s*sm (fun i=>T.e i s*c (T.B i)) m+sm (fun i=>if i=r then T.e r j / T.e r s*c s else 0) m:=by
   rw[<- bT,<- bM,<- bY];refine bU fun i _=>?_
   simp only[piv]
   by_cases h:i=r
   .subst h;simp only[if_true];grind
   .simp only[sW h];grind
  rw[e,bP E fun i _ h=>sW h,sS rfl];unfold gm;grind
 show c j - _=c j - _ - _;rw[key];grind
theorem aoL{m:Nat}{T:Tab}{r s:Nat}(E:r<m)(G:T.e r s≠0)(c:Nat->Rat):zz m (piv T r s) c=zz m T c+gm m T c s*(T.b r / T.e r s):=by
 have e:sm (fun i=>(piv T r s).b i*c ((piv T r s).B i)) m=sm (fun i=>T.b i*c (T.B i)) m-T.b r / T.e r s*sm (fun i=>T.e i s*c (T.B i)) m+sm (fun i=>if i=r then T.b r / T.e r s*c s else 0) m:=by
  rw[<- bT,<- bM,<- bY];refine bU fun i _=>?_
  simp only[piv]
  by_cases h:i=r
  .subst h;simp only[if_true];grind
  .simp only[sW h];grind
 show sm (fun i=>(piv T r s).b i*c ((piv T r s).B i)) m=_;rw[e,bP E fun i _ h=>sW h,sS rfl];unfold gm zz;grind
theorem ZB.add{M N:Nat}{a b:Rat}(h:ZB M a)(E:ZB N b):ZB (M+N) (a+b):=by
 obtain⟨x,rfl,G⟩:=h;obtain⟨y,rfl,J⟩:=E;exact⟨x+y,by simp,by omega⟩
theorem ZB.mul{M N:Nat}{a b:Rat}(h:ZB M a)(E:ZB N b):ZB (M*N) (a*b):=by
 obtain⟨x,rfl,G⟩:=h;obtain⟨y,rfl,J⟩:=E;exact⟨x*y,by simp,by rw[uX];exact yE G J⟩
theorem ZB.neg{M:Nat}{a:Rat}(h:ZB M a):ZB M (-a):=by
 obtain⟨x,rfl,E⟩:=h;exact⟨-x,by simp,by omega⟩
theorem ZB.sum{M:Nat}{f:Nat->Rat}:∀ {n:Nat},(∀j,j<n->ZB M (f j))->ZB (n*M) (sm f n)
 |0,_=>⟨0,rfl,wK _⟩
 |n+1,h=>by
  have:=(ZB.sum (n:=n) fun j E=>h j (by omega)).add (h n (by omega));rw[xq];exact this
theorem ZB.mono{M N:Nat}{a:Rat}(h:ZB M a)(E:M<=N):ZB N a:=by
 obtain⟨x,e,G⟩:=h;exact⟨x,e,zL G E⟩
section
variable {p:Prog} {T:Tab} {M K:Nat} {c:Nat->Rat}
theorem atn(E:p.Good T)(hw:Whole p M)(hc:∀j,ZB K (c j)){j:Nat}(O:j<p.N):ZB ((p.m+1)*(K*fact M p.m)) (gm p.m T c j*Lp.CW p.m fun q=>p.A (T.B q)):=by
 have e:gm p.m T c j*Lp.CW p.m (fun q=>p.A (T.B q))=c j*Lp.CW p.m (fun q=>p.A (T.B q))+ -sm (fun i=>c (T.B i)*(T.e i j*Lp.CW p.m fun q=>p.A (T.B q))) p.m:=by
  have G:=bT (Lp.CW p.m fun q=>p.A (T.B q)) (fun i=>T.e i j*c (T.B i)) p.m;have J:sm (fun i=>c (T.B i)*(T.e i j*Lp.CW p.m fun q=>p.A (T.B q))) p.m=sm (fun i=>Lp.CW p.m (fun q=>p.A (T.B q))*(T.e i j*c (T.B i))) p.m:=bU fun i _=>by grind
  rw[J,G];unfold gm;grind
 rw[e];have G:=(hc j).mul (E.ed.Fz E.ok.bn hw.A);have J:=(ZB.sum (n:=p.m) (f:=fun i=>c (T.B i)*(T.e i j*Lp.CW p.m fun q=>p.A (T.B q))) fun i hi=>(hc _).mul (E.ed.NI E.ok.bn hw.A hi O)).neg;exact(G.add J).mono (by rw[xq];omega)
theorem ato(E:p.Good T)(hw:Whole p M)(hc:∀j,ZB K (c j)):ZB ((p.m+1)*(K*fact M p.m)) (zz p.m T c*Lp.CW p.m fun q=>p.A (T.B q)):=by
 have e:zz p.m T c*Lp.CW p.m (fun q=>p.A (T.B q))=sm (fun i=>c (T.B i)*(T.b i*Lp.CW p.m fun q=>p.A (T.B q))) p.m:=by
  have G:=bT (Lp.CW p.m fun q=>p.A (T.B q)) (fun i=>T.b i*c (T.B i)) p.m;have J:sm (fun i=>c (T.B i)*(T.b i*Lp.CW p.m fun q=>p.A (T.B q))) p.m=sm (fun i=>Lp.CW p.m (fun q=>p.A (T.B q))*(T.b i*c (T.B i))) p.m:=bU fun i _=>by grind
  rw[J,G];unfold zz;grind
 rw[e];refine(ZB.sum fun i hi=>(hc _).mul (E.ed.GK E.ok.bn hw.A hw.w hi)).mono ?_;rw[xq];omega
def Lim(M:Nat)(q:Rat):Prop:=q.num.natAbs<=M/\q.den<=M
theorem alJ(E:p.Good T)(hw:Whole p M){i j:Nat}(hi:i<p.m)(G:j<p.N):Lim (fact M p.m) (T.e i j) :=
 IE (E.ed.Fz E.ok.bn hw.A) E.ed.ind (E.ed.NI E.ok.bn hw.A hi G)
theorem ae4(E:p.Good T)(hw:Whole p M){i:Nat}(hi:i<p.m):Lim (fact M p.m) (T.b i) :=
 IE (E.ed.Fz E.ok.bn hw.A) E.ed.ind (E.ed.GK E.ok.bn hw.A hw.w hi)
theorem Xk(E:p.Good T)(hw:Whole p M):ZB ((p.m+1)*(K*fact M p.m)+fact M p.m) (Lp.CW p.m fun q=>p.A (T.B q)):=(E.ed.Fz E.ok.bn hw.A).mono (by omega)
theorem aoM(E:p.Good T)(hw:Whole p M)(hc:∀j,ZB K (c j)){j:Nat}(G:j<p.N):Lim ((p.m+1)*(K*fact M p.m)+fact M p.m) (gm p.m T c j) :=
 IE (Xk E hw) E.ed.ind ((atn E hw hc G).mono (by omega))
theorem aoN(E:p.Good T)(hw:Whole p M)(hc:∀j,ZB K (c j)):Lim ((p.m+1)*(K*fact M p.m)+fact M p.m) (zz p.m T c) :=
 IE (Xk E hw) E.ed.ind ((ato E hw hc).mono (by omega))
end
structure TQ where
 R:List (List Rat)
 B:List Nat
 c:List Rat
def B_(R:List (List Rat))(i j:Nat):Rat:=(R.getD i []).getD j 0
def Ls(t x:List Rat)(f:Rat):List Rat:=List.zipWith (fun u v=>u-f*v) t x
def D7(R:List (List Rat))(r k:Nat):List (List Rat):=R.mapIdx fun i x=>if i=r then x.map (· / B_ R r k)else Ls x ((R.getD r []).map (· / B_ R r k)) (x.getD k 0)
def NT(D:TQ)(r k:Nat):TQ:=⟨D7 D.R r k,D.B.set r k,Ls D.c ((D.R.getD r []).map (· / B_ D.R r k)) (D.c.getD k 0)⟩
theorem pX{t x:List Rat}{f:Rat}(h:x.length=t.length):(Ls t x f).length=t.length:=by unfold Ls;rw[tq,h];omega
theorem IJ{t x:List Rat}{f:Rat}{j:Nat}(h:x.length=t.length)(E:j<t.length):(Ls t x f).getD j 0=t.getD j 0-f*x.getD j 0:=by
 unfold Ls;simp only[zx,List.getElem?_zipWith];rw[zy E,zy (by omega)];rfl
theorem LZ{x:List Rat}{d:Rat}{j:Nat}(E:j<x.length):(x.map (· / d)).getD j 0=x.getD j 0 / d:=by
 simp only[zx,yc];rw[zy E];rfl
structure Vq (p:Prog) (n':Nat) (C:Nat->Rat) (T:Tab) (D:TQ) (ι:List Nat):Prop where
 len:ι.length=D.R.length
 Bg:D.B.length=D.R.length
 Gm:D.c.length=n'+1
 row:∀x∈D.R,x.length=n'+1
 lt:∀r∈ι,r<p.m
 nd:ι.Nodup
 le:n'<=p.N
 ent:∀i j,i<D.R.length->j<n'->B_ D.R i j=T.e (ι.getD i 0) j
 rhs:∀i,i<D.R.length->B_ D.R i n'=T.b (ι.getD i 0)
 BD:∀i,i<D.R.length->D.B.getD i 0=T.B (ι.getD i 0)
 cost:∀j,j<n'->D.c.getD j 0=gm p.m T C j
 val:D.c.getD n' 0= -zz p.m T C
 hid:∀r,r<p.m->r∉ι->n'<=T.B r/\T.b r=0/\∀j,j<n'->T.e r j=0
section
variable {p:Prog} {T:Tab} {D:TQ} {ι:List Nat} {n':Nat} {C:Nat->Rat}
theorem Vq.io(h:Vq p n' C T D ι){i:Nat}(hi:i<D.R.length):ι.getD i 0<p.m:=h.lt _ (lF (by rw[h.len];exact hi))
theorem Vq.aoO(h:Vq p n' C T D ι){i:Nat}(hi:i<D.R.length):(D.R.getD i []).length=n'+1:=by
 rw[zx,zy hi];exact h.row _ (zu hi)
theorem gy(R:List (List Rat))(r k:Nat):(D7 R r k).length=R.length:=by unfold D7;rw[List.length_mapIdx]
theorem ae5{R:List (List Rat)}{n:Nat}(h:∀x∈R,x.length=n){r k:Nat}(E:r<R.length):∀x∈D7 R r k,x.length=n:=fun x G=>by
 unfold D7 at G;obtain⟨i,hi,rfl⟩:=List.mem_mapIdx.mp G;have J:(R.getD r []).length=n:=by
  rw[zx,zy E];exact h _ (zu E)
 split
 .rw[zO];exact h _ (zu hi)
 .rw[pX (by rw[zO,J,h _ (zu hi)]),h _ (zu hi)]
theorem TU{R:List (List Rat)}{n:Nat}(h:∀x∈R,x.length=n){r k i j:Nat}(J:r<R.length)(hi:i<R.length)(G:j<n) :
  B_ (D7 R r k) i j=if i=r then B_ R r j / B_ R r k else B_ R i j-B_ R i k*(B_ R r j / B_ R r k):=by
 have E:∀q,q<R.length->(R.getD q []).length=n:=fun q O=>by
  rw[zx,zy O];exact h _ (zu O)
 have S:(D7 R r k).getD i []=if i=r then(R.getD i []).map (· / B_ R r k)else Ls (R.getD i []) ((R.getD r []).map (· / B_ R r k)) ((R.getD i []).getD k 0):=by
  unfold D7;simp only[zx,uK];rw[zy hi];rfl
 show((D7 R r k).getD i []).getD j 0=_;rw[S]
 split
 .rename_i e;subst e
  rw[LZ (by rw[E _ hi];exact G)];rfl
 .rw[IJ (by rw[zO,E _ J,E _ hi]) (by rw[E _ hi];exact G),LZ (by rw[E _ J];exact G)];rfl
theorem Vq.piv(h:Vq p n' C T D ι){r k:Nat}(E:r<D.R.length)(Y:k<n')(J:B_ D.R r k≠0):Vq p n' C (Lp.piv T (ι.getD r 0) k) (NT D r k) ι:=by
 have O:=h.ent r k E Y;have he:T.e (ι.getD r 0) k≠0:=by rw[<- O];exact J
 have neq:∀i,i<D.R.length->i≠r->¬ι.getD i 0=ι.getD r 0:=fun i hi J e=>J (lG h.nd (by rw[h.len];exact hi) (by rw[h.len];exact E) e)
 have S:((D.R.getD r []).map (· / B_ D.R r k)).length=D.c.length:=by rw[zO,h.aoO E,h.Gm]
 refine⟨by rw[h.len];exact(gy ..).symm,by show(D.B.set r k).length=(D7 D.R r k).length;rw[yJ,gy];exact h.Bg,by show(Ls _ _ _).length=_;rw[pX S,h.Gm],ae5 h.row E,h.lt,h.nd,h.le,
  fun i j hi G=>?_,fun i hi=>?_,fun i hi=>?_,fun j G=>?_,?_,fun q hq hn=>?_⟩
 .replace hi:i<D.R.length:=by rw[<- gy D.R r k];exact hi
  show B_ (D7 D.R r k) i j=_;rw[TU h.row E hi (by omega)];simp only[Lp.piv]
  by_cases e:i=r
  .subst e;rw[sS rfl,sS rfl,h.ent i j hi G,O]
  .rw[sW e,sW (neq i hi e),h.ent i j hi G,h.ent i k hi Y,h.ent r j E G,O]
 .replace hi:i<D.R.length:=by rw[<- gy D.R r k];exact hi
  show B_ (D7 D.R r k) i n'=_;rw[TU h.row E hi (by omega)];simp only[Lp.piv]
  by_cases e:i=r
  .subst e;rw[sS rfl,sS rfl,h.rhs i hi,O]
  .rw[sW e,sW (neq i hi e),h.rhs i hi,h.ent i k hi Y,h.rhs r E,O]
 .replace hi:i<D.R.length:=by rw[<- gy D.R r k];exact hi
  show(D.B.set r k).getD i 0=_;rw[lD (by rw[h.Bg];exact hi)];simp only[Lp.piv]
  by_cases e:i=r
  .subst e;rw[sS rfl,sS rfl]
  .rw[sW e,sW (neq i hi e),h.BD i hi]
 .show(Ls _ _ _).getD j 0=_
  rw[IJ S (by rw[h.Gm];omega),LZ (by rw[h.aoO E];omega),h.cost j G,h.cost k Y,aoK (h.io E) he];have:(D.R.getD r []).getD j 0=T.e (ι.getD r 0) j:=h.ent r j E G;rw[this,O]
 .show(Ls _ _ _).getD n' 0=_
  rw[IJ S (by rw[h.Gm];omega),LZ (by rw[h.aoO E];omega),h.val,h.cost k Y,aoL (h.io E) he];have:(D.R.getD r []).getD n' 0=T.b (ι.getD r 0):=h.rhs r E;rw[this,O];grind
 .obtain⟨h1,h2,h3⟩:=h.hid q hq hn
  have a0:¬q=ι.getD r 0:=fun e=>hn (by rw[e];exact lF (by rw[h.len];exact E))
  simp only[Lp.piv,sW a0,h2,h3 k Y];refine⟨h1,by grind,fun j G=>?_⟩;rw[h3 j G];grind
end
end Go.Lp
namespace Go.Lp
def IK(q j:Nat):List (List Rat)->List Nat->Rat
 |x :: R,b :: B=>(if b=q then x.getD j 0 else 0)+IK q j R B
 |_,_=>0
def L6(D:TQ)(j q:Nat):Rat:=if q=0 then D.c.getD j 0 else(if j+1=q then -1 else 0)+IK (q-1) j D.R D.B
structure L8 (n d:Nat) (D:TQ) (s:Nat):Prop where
 lt:s<n
 non:s∉D.B
 pos:Lp d (L6 D s)
 low:∀j,j<s->j∉D.B->¬Lp d (L6 D j)
structure acH (n:Nat) (D:TQ) (s r:Nat):Prop where
 lt:r<D.R.length
 pos:0<B_ D.R r s
 low:∀i,i<D.R.length->0<B_ D.R i s->B_ D.R r n / B_ D.R r s<=B_ D.R i n / B_ D.R i s
 tie:∀i,i<D.R.length->0<B_ D.R i s->B_ D.R r n / B_ D.R r s=B_ D.R i n / B_ D.R i s->D.B.getD r 0<=D.B.getD i 0
def NU(n d:Nat)(D E:TQ):Prop:=∃s r,L8 n d D s/\acH n D s r/\E=NT D r s
def Xl(n d:Nat):Nat->TQ->Prop
 |0,_=>False
 |k+1,D=>∀E,NU n d D E->Xl n d k E
inductive GL (n d:Nat):TQ->TQ->Prop
 |refl (D:TQ):GL n d D D
 |tail {D D1 D2:TQ}:GL n d D D1->NU n d D1 D2->GL n d D D2
def alK(n d:Nat)(D:TQ)(G:Bool)(E:TQ):Prop :=
 GL n d D E/\((G=true/\∀j,j<n->j∉E.B->¬Lp d (L6 E j))\/(G=false/\∃s,L8 n d E s/\∀i,i<E.R.length->¬0<B_ E.R i s))
section
variable {p:Prog} {T:Tab} {D:TQ} {ι:List Nat} {M n' d:Nat} {C:Nat->Nat->Rat}
theorem Vq.mem(h:Vq p n' (C 0) T D ι){s:Nat}(hs:s<n'):s∈D.B↔basic p.m T s:=by
 constructor
 .intro hs
  obtain⟨i,hi,e⟩:=jM hs;rw[h.Bg]at hi;exact⟨_,h.io hi,by rw[<- h.BD i hi,e]⟩
 .rintro ⟨r,E,rfl⟩
  have hm:r∈ι:=by
   refine zf fun hn=>?_
   have:=(h.hid r E hn).1;omega
  obtain⟨i,hi,rfl⟩:=jM hm;rw[h.len]at hi;rw[<- h.BD i hi];exact lF (by rw[h.Bg];exact hi)
theorem aoP{a b c d:Rat}(hb:0<b)(E:0<d)(h:a / b<=c / d):a*d<=c*b:=by
 have G:=xQ (show 0<=c / d-a / b by grind) (vY (Rat.mul_pos hb E));have e:(c / d-a / b)*(b*d)=c*b-a*d:=by
  have:b≠0:=by grind
  have:d≠0:=by grind
  grind
 grind
theorem Vq.leaves(h:Vq p n' (C 0) T D ι){s r:Nat}(hs:s<n')(G:acH n' D s r):Leaves p.m T s (ι.getD r 0):=by
 have seen:∀i,i<p.m->0<T.e i s->∃q,q<D.R.length/\ι.getD q 0=i:=fun i hi hp=>by
  have hm:i∈ι:=by
   refine zf fun hn=>?_
   have:=(h.hid i hi hn).2.2 s hs;grind
  obtain⟨q,E,e⟩:=jM hm;exact⟨q,by rw[<- h.len];exact E,e⟩
 have J:0<T.e (ι.getD r 0) s:=by rw[<- h.ent r s G.lt hs];exact G.pos
 refine⟨h.io G.lt,J,fun i hi hp=>?_,fun i hi hp S=>?_⟩
 .obtain⟨q,E,rfl⟩:=seen i hi hp
  have O:=G.low q E (by rw[h.ent q s E hs];exact hp);rw[h.ent q s E hs,h.ent r s G.lt hs,h.rhs q E,h.rhs r G.lt]at O;exact aoP J hp O
 .obtain⟨q,E,rfl⟩:=seen i hi hp
  rw[<- h.BD r G.lt,<- h.BD q E];refine G.tie q E (by rw[h.ent q s E hs];exact hp) ?_;rw[h.ent q s E hs,h.ent r s G.lt hs,h.rhs q E,h.rhs r G.lt];have:T.e (ι.getD r 0) s≠0:=by grind
  have:T.e (ι.getD q 0) s≠0:=by grind
  grind
def NV(p:Prog)(n' d:Nat)(C:Nat->Nat->Rat)(ι:List Nat):Prop:=∀T D,Vq p n' (C 0) T D ι->∀j,j<n'->∀q,q<d->L6 D j q=gm p.m T (C q) j
theorem NV.lp(G:NV p n' d C ι)(h:Vq p n' (C 0) T D ι){j:Nat}(J:j<n'):Lp d (L6 D j)↔Lp d (gv p.m T C j) :=
 ⟨Lp.congr fun q E=>G T D h j J q E,Lp.congr fun q E=>(G T D h j J q E).symm⟩
theorem Vq.step(O:NV p n' d C ι)(h:Vq p n' (C 0) T D ι){S:TQ}(hs:NU n' d D S) :
  ∃T',Step p.m p.N d C (fun j=>j<n') T T'/\Vq p n' (C 0) T' S ι:=by
 obtain⟨s,r,E,J,rfl⟩:=hs;have Y:=h.leaves E.lt J;have he:Enters p.m p.N d C (fun j=>j<n') T s:=⟨xP E.lt h.le,E.lt,fun hb=>E.non ((h.mem E.lt).mpr hb),(O.lp h E.lt).mp E.pos,fun j hj G hb hp=>
  E.low j hj (fun hm=>hb ((h.mem G).mp hm)) ((O.lp h G).mpr hp)⟩
 exact⟨_,⟨s,_,he,Y,rfl⟩,h.piv J.lt E.lt (by have:=J.pos;grind)⟩
theorem Vq.aa9(E:NV p n' d C ι):∀ {k:Nat} {T:Tab} {D:TQ},Vq p n' (C 0) T D ι->aeX p.m p.N d C (fun j=>j<n') k T->Xl n' d k D
 |0,_,_,_,h=>h
 |k+1,T,D,h,hn=>fun O hs=>by
  obtain⟨T',G,J⟩:=h.step E hs;exact Vq.aa9 E J (hn T' G)
theorem GL.run(O:NV p n' d C ι){D D1:TQ}(S:GL n' d D D1){T:Tab}(h:Vq p n' (C 0) T D ι)(Y:p.Good T){Q:Tab->Prop}(hQ:Q T)
  (hs:∀T T',p.Good T->Q T->Step p.m p.N d C (fun j=>j<n') T T'->Q T'):∃E,Vq p n' (C 0) E D1 ι/\p.Good E/\Q E:=by
 induction S with
 |refl=>exact⟨T,h,Y,hQ⟩
 |tail h1 h2 ih=>
  obtain⟨E,k1,G,k3⟩:=ih;obtain⟨T2,J,g2⟩:=k1.step O h2;exact⟨T2,g2,G.step J,hs _ _ G k3 J⟩
theorem NW:NV p n' 1 (fun _=>p.c1) ι:=fun T D h j E q G=>by
 have:q=0:=by omega
 subst this;unfold L6;rw[sS rfl];exact h.cost j E
theorem aa'{D S:TQ}{a0:Bool}(hm:alK p.N 1 D a0 S)(h:Vq p p.N p.c1 p.T0 D ι)(hg:p.Good p.T0)(PU:∀r,r<p.m->r∈ι) :
  ∃T,Vq p p.N p.c1 T S ι/\p.Good T/\(S.c.getD p.N 0=0->Zero p T)/\(S.c.getD p.N 0≠0->p.None):=by
 obtain⟨h1,h2⟩:=hm;obtain⟨E,G,k2,_⟩:=h1.run (NW (n':=p.N)) h hg (Q:=fun _=>True) trivial (fun _ _ _ _ _=>trivial);have J:S.c.getD p.N 0=sm (fun i=>if p.n<=E.B i then E.b i else 0) p.m:=by
  rw[G.val];unfold zz;have:=bT (-1) (fun i=>E.b i*p.c1 (E.B i)) p.m;have e2:-sm (fun i=>E.b i*p.c1 (E.B i)) p.m= -1*sm (fun i=>E.b i*p.c1 (E.B i)) p.m:=by grind
  rw[e2,<- this];refine bU fun i _=>?_
  unfold Prog.c1
  by_cases hq:E.B i<p.n
  .rw[sS hq,sW (by omega)];grind
  .rw[sW hq,sS (by omega)];grind
 have a1:∀q,q<p.m->0<=(if p.n<=E.B q then E.b q else 0):=fun q hq=>by
  split
  .exact k2.ok.nb q hq
  .exact uT
 rcases h2 with ⟨_,h2⟩|⟨_,s,h3,h4⟩
 .have Y:∀j,j<p.N->j<p.N->¬basic p.m E j->¬Lp 1 (gv p.m E (fun _=>p.c1) j):=fun j O _ hb hp=>
   h2 j O (fun hm=>hb ((G.mem (C:=fun _=>p.c1) O).mp hm)) ((NW.lp G O).mpr hp)
  have hN:∀j,j<p.n->j<p.N:=fun j O=>by unfold Prog.N;omega
  refine⟨E,G,k2,fun hz r hr hB=>?_,fun hz=>?_⟩
  .rw[J]at hz
   have each:∀N (f:Nat->Rat),(∀j,j<N->0<=f j)->sm f N=0->∀j,j<N->f j=0:=by
    intro N f
    induction N with
    |zero=>intro _ _ j O;omega
    |succ N ih=>
     intro hf h0 j O;have h4:=bQ (f:=f) (n:=N) fun j O=>hf j (by omega)
     have h5:=hf N (by omega);have h6:sm f N+f N=0:=h0
     by_cases e:j=N
     .subst e;grind
     .exact ih (fun j O=>hf j (by omega)) (by grind) j (by omega)
   have:=each p.m _ a1 hz r hr;rw[sS hB]at this;exact this
  .rcases Prog.phase1 k2 (Fr:=fun j=>j<p.N) hN Y with h5|h5
   .exfalso
    apply hz;rw[J];refine bK fun i hi=>?_
    split
    .rename_i hB;exact h5 i hi hB
    .rfl
   .exact h5
 .exfalso
  have hs:=h3.lt;refine Prog.acF k2 hs (fun hb=>h3.non ((G.mem (C:=fun _=>p.c1) hs).mpr hb)) ((NW.lp G hs).mp h3.pos) fun r hr=>?_
  obtain⟨i,hi,rfl⟩:=jM (PU r hr);rw[G.len]at hi;rw[<- G.ent i s hi hs];exact Rat.not_lt.mp (h4 i hi)
theorem abb(h:Vq p p.N p.c1 T D ι)(S:p.Good T)(J:Zero p T){i k:Nat}(hi:i<D.R.length)(Y:p.n<=D.B.getD i 0)(hk:k<p.n)(G:B_ D.R i k≠0) :
  Vq p p.N p.c1 (Lp.piv T (ι.getD i 0) k) (NT D i k) ι/\p.Good (Lp.piv T (ι.getD i 0) k)/\Zero p (Lp.piv T (ι.getD i 0) k):=by
 have E:k<p.N:=by unfold Prog.N;omega
 have O:T.b (ι.getD i 0)=0:=J _ (h.io hi) (by rw[<- h.BD i hi];exact Y);have he:T.e (ι.getD i 0) k≠0:=by rw[<- h.ent i k hi E];exact G
 exact⟨h.piv hi E G,S.ath (h.io hi) E he O,J.piv (h.io hi) O hk⟩
def pick(n:Nat):List (List Rat)->List Nat->List (List Rat)×List Nat
 |x :: R,b :: B=>if b<n then((x.take n++[x.getLastD 0]) :: (pick n R B).1,b :: (pick n R B).2)else pick n R B
 |_,_=>([],[])
def CX(n:Nat):List Nat->List Nat->List Nat
 |r :: ι,b :: B=>if b<n then r :: CX n ι B else CX n ι B
 |_,_=>[]
def clears:List Rat->List (List Rat)->List Nat->List Rat
 |c,x :: R,b :: B=>clears (Ls c x (c.getD b 0)) R B
 |c,_,_=>c
theorem QU(n N:Nat):∀(R:List (List Rat)) (B ι:List Nat),B.length=R.length->ι.length=R.length->(∀x∈R,x.length=N+1)->n<=N ->
  (pick n R B).1.length=(CX n ι B).length/\(pick n R B).2.length=(CX n ι B).length/\(∀x∈(pick n R B).1,x.length=n+1)/\(∀b∈(pick n R B).2,b<n) /\
  (∀q,q<(CX n ι B).length->∃i,i<R.length/\(CX n ι B).getD q 0=ι.getD i 0/\(pick n R B).2.getD q 0=B.getD i 0/\(∀j,j<n->B_ (pick n R B).1 q j=B_ R i j)/\B_ (pick n R B).1 q n=B_ R i N) /\
  List.Sublist (CX n ι B) ι/\(∀i,i<R.length->B.getD i 0<n->ι.getD i 0∈CX n ι B)
 |[],B,ι,hB,PU,_,_=>by
  cases B<;>cases ι<;>simp at hB PU;exact⟨rfl,rfl,fun x S=>by simp[pick]at S,fun b hb=>by simp[pick]at hb,fun q O=>by simp[CX]at O,List.Sublist.refl _,fun i hi=>by simp at hi⟩
 |x :: R,[],ι,hB,_,_,_=>by simp at hB
 |x :: R,b :: B,[],_,PU,_,_=>by simp at PU
 |x :: R,b :: B,r :: ι,hB,PU,hr,hn=>by
  obtain⟨h1,h2,h3,h4,h5,h6,h7⟩:=QU n N R B ι (by simpa using hB) (by simpa using PU) (fun y E=>hr y (zY _ E)) hn;have S:=hr x zM;have J:x.getLastD 0=x.getD N 0:=by
   rw[List.getLastD_eq_getLast?,List.getLast?_eq_getElem?,zx,S];rfl
  unfold pick CX
  by_cases hb:b<n
  .simp only[sS hb]
   refine⟨by simp[h1],by simp[h2],fun y E=>?_,fun y E=>?_,fun q O=>?_,h6.cons_cons _,fun i hi G=>?_⟩
   .rcases List.mem_cons.mp E with rfl|E
    .simp[S];omega
    .exact h3 y E
   .rcases List.mem_cons.mp E with rfl|E
    .exact hb
    .exact h4 y E
   .cases q with
    |zero=>
     refine⟨0,by simp,rfl,rfl,fun j hj=>?_,?_⟩
     .show(x.take n++[x.getLastD 0]).getD j 0=x.getD j 0
      simp only[zx];rw[zV (by simp;omega),uD hj]
     .show(x.take n++[x.getLastD 0]).getD n 0=x.getD N 0
      rw[<- J];simp only[zx];rw[zQ (by simp;omega)];have:n - (x.take n).length=0:=by simp;omega
      rw[this];rfl
    |succ q=>
     obtain⟨i,Y,g2,g3,g4,g5⟩:=h5 q (by simpa using O);exact⟨i+1,by simpa using Y,g2,g3,g4,g5⟩
   .cases i with
    |zero=>exact zM
    |succ i=>exact zY _ (h7 i (by simpa using hi) G)
  .simp only[sW hb]
   refine⟨h1,h2,h3,h4,fun q O=>?_,h6.cons _,fun i hi G=>?_⟩
   .obtain⟨i,Y,g2,g3,g4,g5⟩:=h5 q O
    exact⟨i+1,by simpa using Y,g2,g3,g4,g5⟩
   .cases i with
    |zero=>exact absurd G hb
    |succ i=>exact h7 i (by simpa using hi) G
end
end Go.Lp
namespace Go.Lp
section
variable {p:Prog} {T:Tab} {D:TQ} {ι:List Nat} {M n' d:Nat}
def FI(c:List Rat)(j:Nat):List (List Rat)->List Nat->Rat
 |x :: R,b :: B=>c.getD b 0*x.getD j 0+FI c j R B
 |_,_=>0
theorem NY{c c':List Rat}{j:Nat}:∀ {R:List (List Rat)} {B:List Nat},(∀b∈B,c.getD b 0=c'.getD b 0)->FI c j R B=FI c' j R B
 |[],[],_=>rfl
 |[],_ :: _,_=>rfl
 |_ :: _,[],_=>rfl
 |x :: R,b :: B,h=>by
  unfold FI;rw[h b zM,NY fun q E=>h q (zY _ E)]
def Units:List (List Rat)->List Nat->Prop
 |x :: R,_ :: B=>(∀b'∈B,x.getD b' 0=0)/\Units R B
 |_,_=>True
theorem JR{n:Nat}:∀ {R:List (List Rat)} {B:List Nat} {c:List Rat},c.length=n->(∀x∈R,x.length=n)->(∀b∈B,b<n)->Units R B->B.length=R.length ->
  (clears c R B).length=n/\∀j,j<n->(clears c R B).getD j 0=c.getD j 0-FI c j R B
 |[],[],c,hc,_,_,_,_=>⟨hc,fun j _=>by unfold clears FI;grind⟩
 |[],_ :: _,c,_,_,_,_,h=>by simp at h
 |_ :: _,[],c,_,_,_,_,h=>by simp at h
 |x :: R,b :: B,c,hc,hx,hb,hu,hl=>by
  have J:=hx x zM;have G:(Ls c x (c.getD b 0)).length=n:=by rw[pX (by omega)];exact hc
  obtain⟨O,S⟩:=JR (R:=R) (B:=B) G (fun y Y=>hx y (zY _ Y)) (fun q E=>hb q (zY _ E)) hu.2 (by simpa using hl);refine⟨O,fun j hj=>?_⟩;show(clears (Ls c x (c.getD b 0)) R B).getD j 0=c.getD j 0 - (c.getD b 0*x.getD j 0+FI c j R B);rw[S j hj,IJ (by omega) (by omega),NY (c':=c) fun q E=>by
   rw[IJ (by omega) (by have:=hb q (zY _ E);omega),hu.1 q E];grind]
  grind
theorem TW(c:List Rat)(j:Nat)(f g:Nat->Rat):∀(R:List (List Rat)) (B l:List Nat),l.length=R.length->B.length=R.length->(∀i,i<R.length->B_ R i j=f (l.getD i 0))->(∀i,i<R.length->c.getD (B.getD i 0) 0=g (l.getD i 0)) ->
  FI c j R B=sl (fun r=>f r*g r) l
 |[],[],[],_,_,_,_=>rfl
 |[],_ :: _,_,_,h,_,_=>by simp at h
 |[],[],_ :: _,h,_,_,_=>by simp at h
 |_ :: _,[],_,_,h,_,_=>by simp at h
 |_ :: _,_ :: _,[],h,_,_,_=>by simp at h
 |x :: R,b :: B,a :: l,h1,h2,h3,h4=>by
  have E:x.getD j 0=f a:=h3 0 (by simp);have G:c.getD b 0=g a:=h4 0 (by simp);have J:=TW c j f g R B l (by simpa using h1) (by simpa using h2) (fun i hi=>h3 (i+1) (by simpa using hi)) (fun i hi=>h4 (i+1) (by simpa using hi));show c.getD b 0*x.getD j 0+FI c j R B=f a*g a+sl _ l;rw[E,G,J];grind
theorem acI(q j:Nat)(f:Nat->Rat)(g:Nat->Nat):∀(R:List (List Rat)) (B l:List Nat),l.length=R.length->B.length=R.length->(∀i,i<R.length->B_ R i j=f (l.getD i 0))->(∀i,i<R.length->B.getD i 0=g (l.getD i 0)) ->
  IK q j R B=sl (fun r=>if g r=q then f r else 0) l
 |[],[],[],_,_,_,_=>rfl
 |[],_ :: _,_,_,h,_,_=>by simp at h
 |[],[],_ :: _,h,_,_,_=>by simp at h
 |_ :: _,[],_,_,h,_,_=>by simp at h
 |_ :: _,_ :: _,[],h,_,_,_=>by simp at h
 |x :: R,b :: B,a :: l,h1,h2,h3,h4=>by
  have E:x.getD j 0=f a:=h3 0 (by simp);have G:b=g a:=h4 0 (by simp);have J:=acI q j f g R B l (by simpa using h1) (by simpa using h2) (fun i hi=>h3 (i+1) (by simpa using hi)) (fun i hi=>h4 (i+1) (by simpa using hi));show(if b=q then x.getD j 0 else 0)+IK q j R B=(if g a=q then f a else 0)+sl _ l;rw[E,G,J]
theorem Xm{R:List (List Rat)}:∀ {k:Nat} {B:List Nat},B.length=(R.drop k).length->(∀i q,i<R.length->q<R.length->i<q->k<=i->B_ R i (B.getD (q-k) 0)=0)->Units (R.drop k) B:=by
 intro k B
 induction hn:(R.drop k).length generalizing k B with
 |zero=>
  intro E _;have:B=[]:=zZ E;subst this;have:R.drop k=[]:=zZ hn;rw[this];trivial
 |succ n Y=>
  intro E h;have G:k<R.length:=by simp at hn;omega
  rw[yU G];cases B with
  |nil=>simp at E
  |cons b B=>
   have J:B.length=n:=by simpa using E
   refine⟨fun b' O=>?_,Y (k:=k+1) (by simp at hn⊢;omega) J fun i q hi hq S hle=>?_⟩
   .obtain⟨t,ht,e⟩:=jM O
    have hlen:n+1+k=R.length:=by simp at hn;omega
    have:=h k (k+1+t) G (by omega) (by omega) (zq _);rw[show k+1+t-k=t+1 by omega]at this;have e2:(b :: B).getD (t+1) 0=b':=e;rw[e2]at this;have e3:R[k].getD b' 0=B_ R k b':=by
     have:R.getD k []=R[k]:=by
      rw[zx,zy G];rfl
     unfold B_;rw[this]
    rw[e3];exact this
   .have:=h i q hi hq S (by omega)
    rw[show q-k=(q - (k+1))+1 by omega]at this;exact this
theorem Xn(h:Vq p p.N p.c1 T D ι)(hg:p.Good T)(PU:∀r,r<p.m->r∈ι)(hz:Zero p T)(a3:∀i,i<D.R.length->p.n<=D.B.getD i 0->∀j,j<p.n->B_ D.R i j=0){cs:List Rat}(a9:cs.length=p.n+1)(a4:∀j,j<p.n->cs.getD j 0=p.c j)(b2:cs.getD p.n 0=0) :
  Vq p p.n (p.C 0) T ⟨(pick p.n D.R D.B).1,(pick p.n D.R D.B).2,clears cs (pick p.n D.R D.B).1 (pick p.n D.R D.B).2⟩ (CX p.n ι D.B):=by
 obtain⟨E,h2,h3,h4,h5,h6,h7⟩:=QU p.n p.N D.R D.B ι h.Bg h.len h.row (by unfold Prog.N;omega);have hN:∀j,j<p.n->j<p.N:=fun j S=>by unfold Prog.N;omega
 have J:∀i j,i<(pick p.n D.R D.B).1.length->j<p.n->B_ (pick p.n D.R D.B).1 i j=T.e ((CX p.n ι D.B).getD i 0) j:=fun i j hi S=>by
  obtain⟨q,g1,g2,g3,g4,g5⟩:=h5 i (by rw[<- E];exact hi);rw[g4 j S,h.ent q j g1 (hN j S),g2]
 have a1:∀i,i<(pick p.n D.R D.B).1.length->B_ (pick p.n D.R D.B).1 i p.n=T.b ((CX p.n ι D.B).getD i 0):=fun i hi=>by
  obtain⟨q,g1,g2,g3,g4,g5⟩:=h5 i (by rw[<- E];exact hi);rw[g5,h.rhs q g1,g2]
 have a2:∀i,i<(pick p.n D.R D.B).1.length->(pick p.n D.R D.B).2.getD i 0=T.B ((CX p.n ι D.B).getD i 0):=fun i hi=>by
  obtain⟨q,g1,g2,g3,g4,g5⟩:=h5 i (by rw[<- E];exact hi);rw[g3,h.BD q g1,g2]
 have a0:(CX p.n ι D.B).Nodup:=h.nd.sublist h6;have G:∀r∈CX p.n ι D.B,r<p.m:=fun r Y=>h.lt r (h6.subset Y)
 have a5:∀r,r<p.m->r∉CX p.n ι D.B->p.n<=T.B r/\T.b r=0/\∀j,j<p.n->T.e r j=0:=fun r Y hn=>by
  obtain⟨i,hi,rfl⟩:=jM (PU r Y);rw[h.len]at hi;have hB:p.n<=D.B.getD i 0:=Nat.le_of_not_lt fun G=>hn (h7 i hi G)
  have a6:p.n<=T.B (ι.getD i 0):=by rw[<- h.BD i hi];exact hB
  exact⟨a6,hz _ Y a6,fun j S=>by rw[<- h.ent i j hi (hN j S)];exact a3 i hi hB j S⟩
 have O:∀i,i<(pick p.n D.R D.B).1.length->(pick p.n D.R D.B).2.getD i 0<p.n:=fun i hi=>h4 _ (lF (by rw[h2,<- E];exact hi))
 have b3:Units (pick p.n D.R D.B).1 (pick p.n D.R D.B).2:=by
  have:=Xm (R:=(pick p.n D.R D.B).1) (k:=0) (B:=(pick p.n D.R D.B).2) (by rw[yY,h2,E]) fun i q hi hq b4 _=>by
   rw[Nat.sub_zero,J i _ hi (O q hq),a2 q hq,hg.ok.un _ _ (G _ (lF (by rw[<- E];exact hi))) (G _ (lF (by rw[<- E];exact hq)))];rw[sW fun e=>by have:=lG a0 (by rw[<- E];exact hi) (by rw[<- E];exact hq) e;omega]
  rwa [yY]at this
 obtain⟨k1,k2⟩:=JR (n:=p.n+1) a9 h3 (fun b hb=>by have:=h4 b hb;omega) b3 (by rw[h2,E]);have a7:∀i,i<(pick p.n D.R D.B).1.length->cs.getD ((pick p.n D.R D.B).2.getD i 0) 0=p.C 0 (T.B ((CX p.n ι D.B).getD i 0)):=fun i hi=>by
  rw[a4 _ (O i hi),<- a2 i hi];unfold Prog.C;rw[sS rfl,sS (O i hi)]
 have a8:∀r,r<p.m->r∉CX p.n ι D.B->p.C 0 (T.B r)=0:=fun r Y hn=>Prog.QT 0 (a5 r Y hn).1
 refine⟨E.symm,by rw[h2,E],k1,h3,G,a0,by unfold Prog.N;omega,J,a1,a2,fun j S=>?_,?_,a5⟩
 .show(clears _ _ _).getD j 0=_
  rw[k2 j (by omega),TW cs j (fun r=>T.e r j) (fun r=>p.C 0 (T.B r)) _ _ _ E.symm (by rw[h2,E]) (fun i hi=>J i j hi S) a7,Xh a0 G fun r Y hn=>by rw[a8 r Y hn];grind,a4 j S];unfold gm;have:p.C 0 j=p.c j:=by unfold Prog.C;rw[sS rfl,sS S]
  rw[this]
 .show(clears _ _ _).getD p.n 0=_
  rw[k2 p.n (by omega),TW cs p.n T.b (fun r=>p.C 0 (T.B r)) _ _ _ E.symm (by rw[h2,E]) a1 a7,Xh a0 G fun r Y hn=>by rw[a8 r Y hn];grind,b2];unfold zz;grind
theorem NZ:NV p p.n (p.n+1) p.C ι:=fun T D h j G q hq=>by
 unfold L6
 by_cases E:q=0
 .subst E
  rw[sS rfl];exact h.cost j G
 .rw[sW E,acI (q-1) j (fun r=>T.e r j) T.B D.R D.B ι h.len h.Bg (fun i hi=>h.ent i j hi G) h.BD,Xh h.nd h.lt fun r J hn=>by
   have:=(h.hid r J hn).1;rw[sW (by omega)]]
  unfold gm;have O:p.C q j=if j+1=q then -1 else 0:=by
   unfold Prog.C;rw[sW E]
   by_cases e:j+1=q
   .rw[sS e,sS ⟨e,G⟩]
   .rw[sW e,sW fun h=>e h.1]
  have S:sm (fun i=>T.e i j*p.C q (T.B i)) p.m= -sm (fun r=>if T.B r=q-1 then T.e r j else 0) p.m:=by
   have:=bT (-1) (fun r=>if T.B r=q-1 then T.e r j else 0) p.m;have Y:-sm (fun r=>if T.B r=q-1 then T.e r j else 0) p.m= -1*sm (fun r=>if T.B r=q-1 then T.e r j else 0) p.m:=by grind
   rw[Y,<- this];refine bU fun i _=>?_
   unfold Prog.C;rw[sW E]
   by_cases e:T.B i=q-1
   .rw[sS e,sS (by omega)];grind
   .rw[sW e,sW (by omega)];grind
  rw[O,S];grind
theorem abd{D':TQ}{O:Bool}(hm:alK p.n (p.n+1) D O D')(h:Vq p p.n (p.C 0) T D ι)(hg:p.Good T)(ho:p.Out T) :
  ∃T',Vq p p.n (p.C 0) T' D' ι/\p.Good T'/\p.Out T'/\(O=true->p.Best (BD p.m T'))/\(O=false->p.Open):=by
 obtain⟨h1,E⟩:=hm;obtain⟨T1,G,k2,k3⟩:=h1.run NZ h hg (Q:=fun T=>p.Out T) ho (fun T T' _ S a0=>by
  obtain⟨s,r,g1,g2,rfl⟩:=a0
  by_cases hB:T.B r<p.n
  .exact S.piv hB g1.fr
  .have:=(S.z r g2.lt (by omega)).2 s g1.fr
   have:=g2.pos;grind)
 refine⟨T1,G,k2,k3,fun e=>?_,fun e=>?_⟩
 .rcases E with ⟨_,E⟩|⟨E,_⟩
  .exact Prog.ahP k2 k3 fun j hj hb hp=>E j hj (fun hm=>hb ((G.mem hj).mp hm)) ((NZ.lp G hj).mpr hp)
  .rw[e]at E;cases E
 .rcases E with ⟨E,_⟩|⟨_,s,J,h4⟩
  .rw[e]at E;cases E
  .have Y:¬basic p.m T1 s:=fun hb=>J.non ((G.mem J.lt).mpr hb)
   have Gl:∀i,i<p.m->T1.e i s<=0:=fun i hi=>by
    by_cases hm:i∈ι
    .obtain⟨q,S,rfl⟩:=jM hm
     rw[G.len]at S;rw[<- G.ent q s S J.lt];exact Rat.not_lt.mp (h4 q S)
    .rw[(G.hid i hi hm).2.2 s J.lt];exact uT
   exact Prog.NP k2 k3 J.lt Y (Prog.aeY k2 J.lt Y ((NZ.lp G J.lt).mp J.pos) Gl) Gl
theorem atq{C:Nat->Rat}(h:Vq p n' C T D ι)(E:p.Good T){i:Nat}(hi:i<D.R.length):B_ D.R i n'=BD p.m T (D.B.getD i 0):=by
 rw[h.rhs i hi,h.BD i hi,IB E.ok (h.io hi)]
theorem aoQ(h:Vq p p.n (p.C 0) T D ι)(E:p.Good T):-D.c.getD p.n 0=ob p.n p.c (BD p.m T):=by
 rw[h.val,<- Prog.anm,<- Prog.aa8 E];grind
end
end Go.Lp
namespace Go.Proofs.YtehdaknhabeiaaaGreat
open Go Go.TV
theorem atr{U V v1 top P g Vr Ur:Int}(hg:0<=g)(G:0<=P)(J:V=v1*P+Vr)(E:0<=Vr)(O:U=top*P+Ur)(S:Ur<P)(h:top<(g+1)*v1):U<(g+1)*V:=by
 have Y:(top+1)*P<=(g+1)*v1*P:=zS (by omega) G;have h2:0<=(g+1)*Vr:=vV (by omega) E;subst J O;rw[xY,<- ug];rw[Int.add_mul top]at Y;omega
theorem alL{U V g B:Int}(E:0<=V)(h:U<V*B)(G:B<=g):U<g*V:=by
 have:=zS G E;rw[Int.mul_comm V B]at h;omega
theorem aoR{U V v1 E top rest G P g B Vr Ur:Int}(O:0<=g)(S:0<=P)(Y:V=(v1*B+E)*P+Vr)(J:0<=Vr)(hU:U=(top*B+G)*P+Ur)(a0:Ur<P)(hr:rest=top-g*v1)(h:rest*B+G<g*E):U<g*V:=by
 have e:g*(v1*B+E)=g*v1*B+g*E:=by rw[xY,ug]
 have e2:rest*B=top*B-g*v1*B:=by rw[hr,uH]
 have h1:(top*B+G+1)*P<=g*(v1*B+E)*P:=zS (by omega) S;have h2:0<=g*Vr:=vV O J;subst Y hU;rw[xY,<- ug];rw[Int.add_mul (top*B+G)]at h1;omega
theorem atu{U V v1 E top rest G P g B Vr Ur:Int}(hg:0<=g)(J:g<=B)(hB:0<=B)(O:0<=P)(S:1<=v1)(a0:0<=E)(hV:V=(v1*B+E)*P+Vr)(a1:0<=Vr)(Y:Vr<=P)(hU:U=(top*B+G)*P+Ur)(a2:0<=Ur)(hr:rest=top-g*v1)(h:g*E<=rest*B+G):(g-1)*V<=U:=by
 have e:g*(v1*B+E)=g*v1*B+g*E:=by rw[xY,ug]
 have e2:rest*B=top*B-g*v1*B:=by rw[hr,uH]
 have h1:g*(v1*B+E)*P<=(top*B+G)*P:=zS (by omega) O;have h2:g*Vr<=B*P:=Int.le_trans (zA Y hg) (zS J O);have h3:1*B<=v1*B:=zS S hB;have h4:B*P<=(v1*B+E)*P:=zS (by omega) O;have e3:g*V=g*(v1*B+E)*P+g*Vr:=by rw[hV,xY,ug]
 rw[uH,Int.one_mul,e3];omega
theorem aoS{U V v1 E top rest G P g B Vr Ur:Int}(hg:0<=g)(O:g<=B)(Y:0<=B)(J:0<=P)(a0:E<B)(hV:V=(v1*B+E)*P+Vr)(a1:Vr<=P)(hU:U=(top*B+G)*P+Ur)(a2:0<=Ur)(S:0<=G)(hr:rest=top-g*v1)(h:B<=rest):g*V<=U:=by
 have h1:E*P+P<=B*P:=by
  have:=zS (c:=P) (show E+1<=B by omega) J;rw[Int.add_mul]at this;omega
 have h2:g*(E*P+Vr)<=B*(B*P):=Int.le_trans (zA (show E*P+Vr<=B*P by omega) hg) (zS O (vV Y J));have h3:g*v1*(B*P)<=(top-B)*(B*P):=zS (by omega) (vV Y J);have h4:0<=G*P:=vV S J;have e1:g*V=g*v1*(B*P)+g*(E*P+Vr):=by rw[hV];grind
 have e2:U=top*(B*P)+G*P+Ur:=by rw[hU];grind
 rw[uH]at h3;omega
theorem ahT{U V g:Int}(E:U<(g+1)*V)(G:(g-1)*V<=U):(0<=U-g*V/\U-g*V<V)\/(U-g*V<0/\0<=U - (g-1)*V/\U - (g-1)*V<V):=by
 rw[Int.add_mul]at E;have e:(g-1)*V=g*V-V:=by rw[uH];omega
 rw[e]at G⊢;omega
theorem Xo{lo t P X:Int}(G:0<=lo)(J:lo<P)(O:0<=X)(S:X<P)(e:X=lo+P*t):t=0:=by
 have E:0<P:=by omega
 rcases Int.lt_trichotomy t 0 with h|h|h
 .have:=zA (show t<= -1 by omega) (xG E)
  omega
 .exact h
 .have:=zA (show 1<=t by omega) (xG E)
  omega
theorem alM{lo t P X:Int}(G:0<=lo)(J:lo<P)(O:-P<=X)(S:X<0)(e:X=lo+P*t):t= -1:=by
 have E:0<P:=by omega
 rcases Int.lt_trichotomy t (-1)with h|h|h
 .have:=zA (show t<= -2 by omega) (xG E)
  omega
 .exact h
 .have:=zA (show 0<=t by omega) (xG E)
  omega
theorem ae6{u g n c:Int}(hu:0<=u/\u<1000000000)(E:0<=g/\g<1000000000)(hn:0<=n/\n<1000000000)(hc:0<=c/\c<=1000000000) :
  -999999999000000001<=u-g*n-c/\u-g*n-c<1000000000/\0<=g*n/\g*n<=999999998000000001:=by
 have G:g*n<=999999999*999999999:=Int.le_trans (zS (show g<=999999999 by omega) hn.1) (zA (by omega) (by decide));have J:=vV E.1 hn.1;omega
theorem ahV{b1:Int}(Y:0<b1)(h1:b1<1000000000):1<=1000000000 / (b1+1)/\1000000000 / (b1+1)*(b1+1)<=1000000000/\500000000<=b1*(1000000000 / (b1+1))/\1000000000 / (b1+1)<=500000000:=by
 have G:1<=1000000000 / (b1+1):=(Int.le_ediv_iff_mul_le (by omega)).mpr (by omega);have hm:1000000000 / (b1+1)*(b1+1)<=1000000000:=Int.ediv_mul_le _ (by omega);have J:=Int.lt_ediv_add_one_mul_self 1000000000 (show 0<b1+1 by omega);refine⟨G,hm,?_,?_⟩
 .generalize 1000000000 / (b1+1)=q at *
  have e1:q*(b1+1)=q*b1+q:=by rw[xY,Int.mul_one]
  have e2:(q+1)*(b1+1)=q*b1+q+b1+1:=by rw[Int.add_mul];omega
  rw[Int.mul_comm b1 q]
  by_cases h:q<=b1
  .have O:1*b1<=q*b1:=zS G (by omega)
   by_cases h4:q+b1+1<=500000000
   .omega
   .by_cases E:2<=q
    .have:2*b1<=q*b1:=zS E (by omega)
     by_cases h6:250000000<=b1
     .omega
     .omega
    .have:q=1:=by omega
     subst this;omega
  .have O:b1*q≥b1*(b1+1):=zA (by omega) (by omega)
   have S:1*q<=b1*q:=zS (by omega) (by omega);rw[Int.mul_comm b1 q]at S
   by_cases E:2<=b1
   .have:q*2<=q*b1:=zA E (by omega)
    omega
   .have:b1=1:=by omega
    subst this;omega
 .have:=zA (show 2<=b1+1 by omega) (show 0<=1000000000 / (b1+1) by omega)
  omega
def Ef:FuncId->Conv:=fun f=>if f∈([225,239]:List Nat)then .own else if f∈([242,240,241]:List Nat)then .inl else .Jo
abbrev ae7:List Nat:=[222,225,239,242,240,241]
noncomputable def IL:Ext:=fun f=>if f∈ae7 then none else some fun args σ nx=>ev ZH conv ext f args σ nx
theorem aoT:Ky ZH IL:=fun f g h args σ nx v σ' nx' E=>by
 unfold IL at h
 split at h
 .cases h
 .cases h
  exact nC (by kernel_rfl) ag6 f args σ nx v σ' nx' E
theorem atv{f:FuncId}(h:List.contains ae7 f=false):¬f∈ae7:=fun e=>by
 rw[List.contains_iff_mem.mpr e]at h;cases h
theorem fnO{f:FuncId}(h:List.contains ae7 f=false)(ts:List V):fn ZH Ef IL f ts=fn ZH conv ext f ts:=by
 rw[mM,mM,nD (g:=fun args σ nx=>ev ZH conv ext f args σ nx) (by unfold IL;rw[sW (atv h)])]
theorem cvO{f:FuncId}(h:List.contains ae7 f=false):Ef f= .Jo:=by
 have E:=atv h;unfold Ef;simp only[ae7,zX,zH,or_false,not_or]at E;simp only[zX,zH,or_false,E,if_false]
theorem ahW:Ef 225= .own:=id rfl
theorem ahX:Ef 239= .own:=id rfl
theorem alN:Ef 242= .inl:=id rfl
theorem alO:Ef 240= .inl:=id rfl
theorem alP:Ef 241= .inl:=id rfl
attribute [go_sem] fnO cvO ahW ahX alN alO alP
theorem acJ{σ:Store}{nx b:Nat}{xs:List Int}(hb:σ b=some ⟨xs.flatMap cI,1,true⟩)(ha:Short xs):ev ZH Ef IL 242 [.rs b 0 xs.length] σ nx=some (.rs b 0 (Bf xs).length,σ,nx):=by
 unfold Short at ha;rw[nG [.tmp 2] [] func242];simp only[go_sem];generalize hL:dI _ _=y;obtain⟨r,rfl,T',rfl,Y⟩:=jV hL (fun k st=>∃T,st=⟨T,σ,nx⟩/\T 0= .rs b 0 k/\k<=xs.length/\Bf (xs.take k)=Bf xs) (fun r=>∃T,r=(.exit 0,⟨T,σ,nx⟩)/\T 0= .rs b 0 (Bf xs).length) (by
  clear hL;rintro k _ ⟨T,rfl,G,hk,E⟩;cases k with
  |zero=>
   have O:¬(0:Int)<0:=by decide
   refine .inr ⟨_,by simp only[go_sem,G,O];rfl,by simp,_,rfl,?_⟩;simp only[go_sem,G];rw[<- E];rfl
  |succ k=>
   have J:k<xs.length:=by omega
   have O:(0:Int)<((k+1:Nat):Int):=by omega
   have e5:((k+1:Nat):Int) - 1=(k:Int):=by omega
   have e2:=ZQ (n:=(k:Int));have f1:=jD k;have f2:(k:Int)<((k+1:Nat):Int):=by omega
   have f6:=idx J;have f7:k<=k+1:=by omega
   have f8:k<=xs.length:=by omega
   rw[aH J,Zq]at E
   by_cases S:xs[k]=0
   .have fx:(xs[k]==(0:Int))=true:=by simpa using S
    rw[sS S]at E;refine .inl ⟨_,by simp only[go_sem,G,hb,O,e5,e2,f1,f2,f6,f7,f8,fx,wK];rfl,k,by omega,_,rfl,?_,by omega,E⟩;simp only[go_sem]
   .have fx:(xs[k]==(0:Int))=false:=by simpa using S
    rw[sW S]at E;refine .inr ⟨_,by simp only[go_sem,G,hb,O,e5,e2,f1,f2,f6,f7,fx];rfl,by simp,_,rfl,?_⟩;simp only[go_sem];rw[G,<- E];simp;omega) xs.length ⟨_,rfl,by simp only[go_sem],zq _,by rw[yg]⟩
 simp only[go_sem,Y]
theorem ahY(m n:Nat)(hm:ln m<=1000000)(hn:ln n<=1000000)(zm:m≠0)(zn:n≠0)(nx:Nat):∃a4 P,ev ZH Ef IL 225 [LI (dg m),LI (dg n)] lI nx=some (.rs nx 0 (ln (m*n)),a4,nx+1)/\a4 nx=some ⟨P.flatMap cI,1,true⟩/\P.length=ln m+ln n/\Dg P/\vl P=(m*n:Nat):=by
 unfold ln at hm hn;rw[nG [.tmp 4] [] func225];have cm:((((dg m).length:Nat):Int)==0)=false:=by rw[sQ];have:=rF (oV zm);omega
 have cn:((((dg n).length:Nat):Int)==0)=false:=by rw[sQ];have:=rF (oV zn);omega
 have pn:0<(dg n).length:=List.length_pos_iff.mpr (oV zn);obtain⟨e1,e2,e3⟩:=jT (k:=(dg m).length+(dg n).length) (by omega);have e0:((dg m).length:Int)+((dg n).length:Int)=(((dg m).length+(dg n).length:Nat):Int):=by omega
 have e4:=ZQ (n:=(((dg m).length+(dg n).length:Nat):Int)) (by omega) (by omega);simp only[go_sem,cm,cn,e0,e1,e2,e3,e4];generalize hL:dI _ _=y;obtain⟨r,rfl,T',σ',P,rfl,S,E,hP,hd,hv⟩:=pF hL (dg m).length (fun k st=>st.T 1=LI (dg n)/\st.T 5= .rs nx 0 ((dg m).length+(dg n).length)/\st.T 26=LI (dg m)/\st.T 27=I (dg m).length/\st.T 28=I k/\st.nx=nx+1/\∃P,st.σ nx=some ⟨FD P ((dg m).length-k),1,true⟩/\P.length=k+(dg n).length/\Dg P/\vl P=vl ((dg m).take k)*n)
  (fun r=>∃T σ P,r=(.exit 0,⟨T,σ,nx+1⟩)/\T 5= .rs nx 0 ((dg m).length+(dg n).length)/\σ nx=some ⟨P.flatMap cI,1,true⟩/\P.length=(dg m).length+(dg n).length/\Dg P/\vl P=(m*n:Nat)) (by
   clear hL;rintro k ⟨T,σ,Gw⟩ a3 ⟨Y,S,EP,G,J,O,P,E,hP,hd,hv⟩;simp only at Y S EP G J O E;subst O;have f1:(k:Int)<((dg m).length:Int):=by omega
   have f2:=jD k;have f3:=ZQ (n:=(k:Int)+1);have f5:=AZ (dg m) k a3;have f6:=idx a3;obtain⟨x,hx⟩:∃x,x=(dg m)[k]:=⟨_,rfl⟩;have xr:=(oh m).get a3;rw[<- hx]at f6 xr;have v1:=ZW a3;rw[<- hx]at v1;obtain⟨g,hg⟩:∃g,(dg m).length-k=g+1:=⟨(dg m).length-k-1,by omega⟩;have a5:(dg m).length - (k+1)=g:=by omega
   rw[hg]at E;refine bF ?_
   conv=>
    enter [1,r,1,1]
    simp only[go_sem,Y,S,EP,G,J,f1,f2,f5,f6]
   generalize hL:dI _ _=z;obtain⟨r,rfl,T',σ',c,W,rfl,Y,S,h6,h8,EP,G,J,E,hW,hd,hv,a0,a1⟩:=pF hL (dg n).length (fun j st=>st.T 1=LI (dg n)/\st.T 5= .rs nx 0 ((dg m).length+(dg n).length)/\st.T 6=I k/\st.T 7=I x/\st.T 26=LI (dg m)/\st.T 27=I (dg m).length/\st.T 28=I k/\st.T 33=LI (dg n)/\st.T 34=I (dg n).length/\st.T 35=I j/\st.nx=nx+1/\∃c W,st.T 8=I c/\st.σ nx=some ⟨FD W (g+1),1,true⟩/\W.length=k+(dg n).length/\Dg W/\vl W+bp (k+j)*c=vl ((dg m).take k)*n+bp k*(x*vl ((dg n).take j))/\0<=c/\c<1000000000)
    (fun r=>∃T σ c W,r=(.exit 2,⟨T,σ,nx+1⟩)/\T 1=LI (dg n)/\T 5= .rs nx 0 ((dg m).length+(dg n).length)/\T 6=I k/\T 8=I c/\T 26=LI (dg m)/\T 27=I (dg m).length/\T 28=I k/\σ nx=some ⟨FD W (g+1),1,true⟩/\W.length=k+(dg n).length/\Dg W/\vl W+bp (k+(dg n).length)*c=vl ((dg m).take k)*n+bp k*(x*n)/\0<=c/\c<1000000000) (by
     clear hL;rintro j ⟨T,σ,Gw⟩ hj ⟨Y,S,h6,h7,EP,G,J,WT,QE,a2,O,c,W,h8,E,hW,hd,hv,a0,a1⟩;simp only at Y S h6 h7 h8 EP G J WT QE a2 O E;subst O;have g1:(j:Int)<((dg n).length:Int):=by omega
     have g2:=jD j;have g3:=ZQ (n:=(j:Int)+1);have g5:=AZ (dg n) j hj;have g6:=idx hj;obtain⟨b,hb⟩:∃b,b=(dg n)[j]:=⟨_,rfl⟩;have br:=(oh n).get hj;rw[<- hb]at g6 br;have v2:=ZW hj;rw[<- hb]at v2;have p0:(k:Int)+(j:Int)=((k+j:Nat):Int):=by omega
     have p1:=ZQ (n:=((k+j:Nat):Int));have p2:(0:Int)<=((k+j:Nat):Int):=by omega
     have p3:((k+j:Nat):Int)<(((dg m).length+(dg n).length:Nat):Int):=by omega
     have p4:k+j<W.length:=by omega
     have p5:=TA (o:=W) (g+1) p4;have p6:k+j<(FD W (g+1)).length:=by rw[mg];omega
     obtain⟨w,hw⟩:∃w,w=W[k+j]:=⟨_,rfl⟩;have wr:=hd.get p4;rw[<- hw]at p5 wr;have mm:=TB (x:=x) (y:=b) (c:=c) (w:=w) xr br ⟨a0,a1⟩ wr;have w1:=ZQ (n:=x*b);have w2:=ZQ (n:=w+x*b);have w3:=ZQ (n:=w+x*b+c);obtain⟨q1,q2⟩:=aG (n:=w+x*b+c) (by omega);have w4:=ZQ (n:=(w+x*b+c) / 1000000000);have c6:=mY (g+1) ((w+x*b+c)%1000000000) p4;have vs:=aaX p4 ((w+x*b+c)%1000000000);rw[<- hw]at vs;refine .inl ⟨_,by simp only[go_sem,Y,S,h6,h7,h8,EP,G,J,WT,QE,a2,E,g1,g2,g3,g5,g6,p0,p1,p2,p3,p5,p6,w1,w2,w3,w4,q1,q2,c6];rfl,?_⟩;simp only[go_sem,Y,S,h6,h7,EP,G,J,WT,QE];refine⟨rfl,_,_,rfl,rfl,by rw[yJ];exact hW,hd.set _ (by omega) (by omega),?_,by omega,by omega⟩;rw[vs,show k+(j+1)=k+j+1 by omega,qZ,JI (c:=c) (x:=x) (b:=b) (by omega) hv (.inr trivial),v2,Tv];grind) (by
     clear hL;rintro ⟨T,σ,Gw⟩ ⟨Y,S,h6,h7,EP,G,J,WT,QE,a2,O,c,W,h8,E,hW,hd,hv,a0,a1⟩;simp only at Y S h6 h7 h8 EP G J WT QE a2 O E;subst O;rw[yg,Zc]at hv;refine⟨_,by simp only[go_sem,QE,a2,zl];rfl,by simp,_,_,c,W,rfl,?_⟩;simp only[go_sem,Y,S,h6,h8,EP,G,J];exact⟨E,hW,hd,hv,a0,a1⟩) (by
     simp only[go_sem,Y,S,EP,G,J];exact⟨0,P,rfl,E,hP,hd,by rw[vZ,hv];simp[vl],yD _,by decide⟩)
   have p0:(k:Int)+((dg n).length:Int)=((k+(dg n).length:Nat):Int):=by omega
   have p1:=ZQ (n:=((k+(dg n).length:Nat):Int)) (by omega) (by omega);have p2:(0:Int)<=((k+(dg n).length:Nat):Int):=by omega
   have p3:((k+(dg n).length:Nat):Int)<(((dg m).length+(dg n).length:Nat):Int):=by omega
   have p6:k+(dg n).length<(FD W (g+1)).length:=by rw[mg];omega
   have c6:=mZ W g c hW;refine⟨_,by simp only[go_sem,Y,S,h6,h8,EP,G,J,E,f3,p0,p1,p2,p3,p6,c6];rfl,.inl ⟨_,rfl,?_⟩⟩;simp only[go_sem,Y,S,EP,G,a5];refine⟨rfl,_,rfl,by simp[hW];omega,hd.snoc a0 a1,?_⟩;rw[ZY,hW,hv,v1];grind) (by
   clear hL;rintro ⟨T,σ,Gw⟩ ⟨Y,S,EP,G,J,O,P,E,hP,hd,hv⟩;simp only at Y S EP G J O E;subst O;rw[yP,n_]at E;refine⟨_,by simp only[go_sem,G,J,zl];rfl,by simp,_,_,P,rfl,by simp only[go_sem,S],E,hP,hd,?_⟩;rw[hv,yg,Zc,yh]) (by
   simp only[go_sem];refine⟨List.replicate (dg n).length 0,?_,by simp,fun x hx=>by rw[List.mem_replicate]at hx;omega,(aaW _).trans (by simp[vl])⟩;congr 2;unfold FD;rw[show List.flatMap cI (List.replicate (dg n).length 0)=rep (dg n).length [I 0] by unfold rep;rw[List.flatMap_replicate]];unfold rep;rw[<- List.flatten_append,wF,wR])
 have ht:=acJ (σ:=σ') (nx:=nx+1) (b:=nx) (xs:=P) E (by unfold Short;omega);rw[CV hd hv,hP]at ht;refine⟨σ',P,by simp only[go_sem,qJ,S,ht];rfl,E,hP,hd,hv⟩
theorem ahZ(n d:Nat)(hl:(dg n).length<=1000000)(h0:d≠0)(hd:d<1000000000)(nx:Nat):∃a0,ev ZH Ef IL 239 [LI (dg n),I d] lI nx=some (.AP [.rs nx 0 (ln (n / d)),I (n%d:Nat)],a0,nx+1)/\a0 nx=some ⟨(pad (n / d) (dg n).length).flatMap cI,1,true⟩:=by
 have e1:(8:Int)*((dg n).length:Int)<=281474976710656:=by omega
 have e2:((dg n).length:Int)<=9223372036854775807:=by omega
 have e3:(0:Int)<=((dg n).length:Int):=by omega
 have e4:=ZQ (n:=((dg n).length:Int) - 1);rw[nG [.tmp 4,.tmp 5] [7] func239];simp only[go_sem,e1,e2,e3,e4];generalize hL:dI _ _=y;obtain⟨r,rfl,T',σ',rfl,h6,h7,E⟩:=jV hL (fun m st=>st.T 0=LI (dg n)/\st.T 1=I d/\st.T 6= .rs nx 0 (dg n).length/\st.T 8=I ((m:Int) - 1)/\st.T 7=I (n / 1000000000^m%d:Nat)/\m<=(dg n).length/\st.nx=nx+1/\st.σ nx=some ⟨rep m [I 0]++((pad (n / d) (dg n).length).drop m).flatMap cI,1,true⟩)
  (fun r=>∃T σ,r=(.exit 0,⟨T,σ,nx+1⟩)/\T 6= .rs nx 0 (dg n).length/\T 7=I (n%d:Nat)/\σ nx=some ⟨(pad (n / d) (dg n).length).flatMap cI,1,true⟩) (by
   clear hL;rintro m ⟨T,σ,Gw⟩ ⟨t0,t1,t6,t8,t7,hm,G,E⟩;simp only at t0 t1 t6 t8 t7 G E;subst G;have G:nx<nx+1:=by omega
   cases m with
   |zero=>
    have a1:¬(0:Int)<=0-1:=by omega
    rw[Nat.pow_zero,x9]at t7;refine .inr ⟨_,by simp only[go_sem,t8,a1];rfl,by simp,_,_,rfl,by simp only[go_sem,t6],by simp only[go_sem,t7],?_⟩;rw[E,yY];rfl
   |succ m=>
    have J:m<(dg n).length:=by omega
    have e5:((m+1:Nat):Int) - 1=(m:Int):=by omega
    rw[e5]at t8;have f0:=jD m;have f3:(m:Int)<((dg n).length:Int):=by omega
    have f5:=AZ (dg n) m J;have f6:=idx J;rw[oZ J]at f6;have a2:=oQ n m;have O:=WS (n:=n / d) (k:=(dg n).length) J;have hq:n / d / 1000000000^m=n / 1000000000^m / d:=by rw[xA,xA,wL]
    rw[hq]at O;have hle:n / 1000000000^m<=n:=xJ _ _;obtain⟨u,hu⟩:∃u,n / 1000000000^(m+1)=u:=⟨_,rfl⟩;obtain⟨w,S⟩:∃w,n / 1000000000^m=w:=⟨_,rfl⟩;rw[hu]at t7;rw[hu,S]at a2;rw[S]at f6 O hle;have hw:w%1000000000<1000000000:=vX _ (by decide);have hr:u%d<d:=vX _ (by omega);have hx:u%d*1000000000+w%1000000000<d*1000000000:=by omega
    have Y:w=d*1000000000*(u / d)+(u%d*1000000000+w%1000000000):=by
     have:=Nat.div_add_mod u d;have h3:d*(u / d)*1000000000=d*1000000000*(u / d):=by rw[Nat.mul_right_comm]
     omega
    obtain⟨x,a3⟩:∃x,u%d*1000000000+w%1000000000=x:=⟨_,rfl⟩;rw[a3]at Y hx;have a4:w / d%1000000000=x / d:=by
     have h1:w / d=1000000000*(u / d)+x / d:=by
      rw[Y,vG,wR,Nat.add_mul_div_left _ _ (by omega),wR]
     have h2:x / d<1000000000:=Nat.div_lt_of_lt_mul hx;rw[h1];generalize x / d=q at h2⊢;generalize u / d=p;omega
    have a5:w%d=x%d:=by
     rw[Y,vG,wR,Nat.add_mul_mod_self_left]
    have f7:=ZQ (n:=(m:Int) - 1);have f8:=ZQ (n:=((u%d:Nat):Int)*1000000000);have g9:((u%d:Nat):Int)*1000000000+((w%1000000000:Nat):Int)=(x:Int):=by omega
    have f9:=ZQ (n:=(x:Int));have c1:¬(d:Int)=0:=by omega
    have c2:(x:Int).tdiv (d:Int)=((x / d:Nat):Int):=by rw[yH (by omega)];rfl
    have c3:(x:Int).tmod (d:Int)=((x%d:Nat):Int):=by rw[xH (by omega)];rfl
    have a6:x / d<=x:=xJ _ _;have c4:=ZQ (n:=((x / d:Nat):Int));have c5:m<(rep (m+1) [I 0]++((pad (n / d) (dg n).length).drop (m+1)).flatMap cI).length:=by rw[zo,fM];simp;omega
    have c6:=LQ m (I 0) (I (x / d:Nat)) (((pad (n / d) (dg n).length).drop (m+1)).flatMap cI);refine .inl ⟨_,by simp only[go_sem,t0,t1,t6,t8,t7,E,f0,f3,f5,f6,f7,f8,f9,g9,c1,c2,c3,c4,c5,c6,G];rfl,m,by omega,?_⟩;simp only[go_sem,t0,t1,t6];refine⟨by rw[S,a5],by omega,?_⟩;rw[O,a4];rfl) (dg n).length ⟨by simp only[go_sem],by simp only[go_sem],by simp only[go_sem],by simp only[go_sem],by simp only[go_sem,og,Nat.zero_mod],zq _,by simp only[go_sem],by simp only[go_sem];rw[xk (by rw[iK];exact zq _)];simp⟩
 have pl:(pad (n / d) (dg n).length).length=(dg n).length:=iK _ _;have ht:=acJ (σ:=σ') (nx:=nx+1) (b:=nx) (xs:=pad (n / d) (dg n).length) E (by unfold Short;omega)
 rw[Ir _ _ (Nat.lt_of_le_of_lt (xJ _ _) (by
   have:=og n;exact(Nat.div_eq_zero_iff_lt (Nat.pow_pos (by decide))).mp this)),pl]at ht
 refine⟨σ',by simp only[go_sem,qJ,h6,h7,ht];rfl,E⟩
theorem Xp{σ:Store}{b:Nat}{B:Option E_}(h:σ b=B):upd σ b B=σ:=by
 funext i;unfold upd
 split
 .rename_i e;subst e;exact h.symm
 .rfl
def lay(U:List Int)(j:Nat)(o:List Int):List Int:=U.take j++(o++U.drop (j+o.length))
theorem jm{U:List Int}{j:Nat}{o:List Int}(h:j+o.length<=U.length):(lay U j o).length=U.length:=by
 unfold lay;simp only[zo,zh,zN];omega
theorem acK(U:List Int)(j:Nat):lay U j []=U:=by unfold lay;simp
theorem L9{U:List Int}{j k:Nat}{o:List Int}(E:o.length=k)(h:j+k<U.length):(lay U j o)[j+k]'(by rw[jm (by omega)];exact h)=U[j+k]:=by
 subst E;have e:(lay U j o)[j+o.length]?=U[j+o.length]?:=by
  unfold lay;rw[zQ (by simp;omega),zQ (by simp;omega),xX];congr 1;simp;omega
 rw[zy (by rw[jm (by omega)];exact h),zy h]at e;exact Option.some.inj e
theorem jk{U:List Int}{j k:Nat}{o:List Int}(E:o.length=k)(h:j+k<U.length)(y:Int):(lay U j o).set (j+k) y=lay U j (o++[y]):=by
 subst E;unfold lay;rw[yC _ _ (by simp;omega),yC _ _ (by simp;omega)];have G:j+o.length - (U.take j).length-o.length=0:=by simp;omega
 rw[G,yU h,vg];simp only[zo,yM,z_,List.singleton_append];rw[show j+(o.length+1)=j+o.length+1 by omega]
theorem ae8{lo c g x n v:Int}{P:Int}{E c':Int}(G:E=x-c+1000000000*c')(J:lo+P*(-c)=v):lo+P*E+1000000000*P*(-c')=v+P*x:=by
 subst G;rw[<- J];grind
theorem atw{σ:Store}{nx bu bv:Nat}{U W:List Int}{j n:Nat}{g:Int}{L:Nat}{B:E_}(b4:n<L)(hu:σ bu=some ⟨U.flatMap cI,1,true⟩)(hv:σ bv=some B)(b3:bu≠bv)(hW:∀k (h:k<W.length),B.cells[k]?=some (I W[k]))(hn:W.length=n)
  (hj:j+n<U.length) (hl:U.length<=3000000) (dU:Dg U) (dW:Dg W) (hg:0<=g/\g<1000000000) :
  ∃lo t,ev ZH Ef IL 240 [.rs bu j L,.rs bv 0 n,I g] σ nx=some (Bo (decide (t<0)),upd σ bu (some ⟨(lay U j (lo++[t])).flatMap cI,1,true⟩),nx)/\lo.length=n/\Dg lo/\vl lo+bp n*t=vl ((U.drop j).take n)+bp n*U[j+n] - g*vl W/\-1000000000<=t/\t<=1000000000:=by
 have a4:∀(x:Option E_),upd σ bu x bv=some B:=fun x=>by rw[Zj _ _ (yu b3)];exact hv
 have a5:∀(x:Option E_),upd σ bu x bu=x:=fun x=>Zi _ _ _
 rw[nG [.tmp 6] [] func240];simp only[go_sem];generalize hL:dI _ _=y;obtain⟨r,rfl,T',lo,c,rfl,h0,h1,h7,E,PV,G,hc⟩:=pF hL n (fun k st=>st.T 0= .rs bu j L/\st.T 1= .rs bv 0 n/\st.T 2=I g/\st.T 11= .rs bv 0 n/\st.T 12=I n/\st.T 13=I k/\st.nx=nx/\∃lo c,st.T 7=I c/\st.σ=upd σ bu (some ⟨(lay U j lo).flatMap cI,1,true⟩)/\lo.length=k/\Dg lo/\vl lo+bp k*(-c)=vl ((U.drop j).take k) - g*vl (W.take k)/\0<=c/\c<=1000000000)
  (fun r=>∃T lo c,r=(.exit 0,⟨T,upd σ bu (some ⟨(lay U j lo).flatMap cI,1,true⟩),nx⟩)/\T 0= .rs bu j L/\T 1= .rs bv 0 n/\T 7=I c/\lo.length=n/\Dg lo/\vl lo+bp n*(-c)=vl ((U.drop j).take n) - g*vl W/\0<=c/\c<=1000000000) (by
   clear hL;rintro k ⟨T,σ',nx'⟩ b5 ⟨h0,h1,h2,O,J,Y,a1,lo,c,h7,a2,E,PV,G,a6,a7⟩;simp only at h0 h1 h2 h7 O J Y a1 a2;subst a1 a2;have f1:(k:Int)<(n:Int):=by omega
   have f2:=jD k;have f3:=ZQ (n:=(k:Int)+1);have a8:k<W.length:=by omega
   have S:=hW k a8;obtain⟨m,hm⟩:∃m,m=W[k]:=⟨_,rfl⟩;have mr:=dW.get a8;rw[<- hm]at S mr;have a0:j+k<U.length:=by omega
   have f4:(k:Int)<(L:Int):=by omega
   obtain⟨u,a9⟩:∃u,u=U[j+k]:=⟨_,rfl⟩;have ur:=dU.get a0;have Fe:=idx (xs:=lay U j lo) (k:=j+k) (by rw[jm (by omega)];exact a0);rw[L9 E a0]at Fe;rw[<- a9]at ur Fe;have c5:j+k<(lay U j lo).length:=by rw[jm (by omega)];exact a0
   have v1:vl ((U.drop j).take (k+1))=vl ((U.drop j).take k)+bp k*u:=by
    rw[ZW (by rw[zN];omega),List.getElem_drop,a9]
   have v2:vl (W.take (k+1))=vl (W.take k)+bp k*m:=by rw[ZW a8,hm]
   obtain⟨q1,q2,q3,q4⟩:=ae6 ur hg mr ⟨a6,a7⟩;have w1:=ZQ (n:=g*m);have w2:=ZQ (n:=u-g*m);have w3:=ZQ (n:=u-g*m-c);have fin:∀x' c':Int,x'=(u-g*m) - c+1000000000*c'->vl lo+bp k*x'+bp (k+1)*(-c')=vl ((U.drop j).take (k+1)) - g*vl (W.take (k+1)):=fun x' c' hx=>by
    rw[qZ,ae8 (c:=c) (g:=g) (n:=m) hx G,v1,v2];grind
   by_cases a3:u-g*m-c<0
   .obtain⟨x,b2⟩:∃x,x=u-g*m-c:=⟨_,rfl⟩
    rw[<- b2]at a3 q1 q2 w3;have w4:=ZQ (n:=999999999-x);have t1:(999999999-x).tdiv 1000000000=(999999999-x) / 1000000000:=yH (by omega);have w5:=ZQ (n:=(999999999-x) / 1000000000);have w6:=ZQ (n:=(999999999-x) / 1000000000*1000000000);have w7:=ZQ (n:=x+(999999999-x) / 1000000000*1000000000);have c6:=qQ (lay U j lo) (j+k) (x+(999999999-x) / 1000000000*1000000000);rw[jk E a0]at c6;refine .inl ⟨_,by simp only[go_sem,h0,h1,h2,h7,O,J,Y,a4,a5,S,Fe,f1,f2,f3,f4,c5,w1,w2,<- b2,w3,a3,w4,t1,w5,w6,w7,S9,c6,Zh];rfl,?_⟩;simp only[go_sem,h0,h1,h2,O,J];refine⟨rfl,_,_,rfl,rfl,by simp[E],PV.snoc (by omega) (by omega),?_,by omega,by omega⟩;rw[ZY,E];exact fin _ _ (by omega)
   .have c6:=qQ (lay U j lo) (j+k) (u-g*m-c)
    rw[jk E a0]at c6;refine .inl ⟨_,by simp only[go_sem,h0,h1,h2,h7,O,J,Y,a4,a5,S,Fe,f1,f2,f3,f4,c5,w1,w2,w3,a3,c6,Zh];rfl,?_⟩;simp only[go_sem,h0,h1,h2,O,J];refine⟨rfl,_,_,rfl,rfl,by simp[E],PV.snoc (by omega) (by omega),?_,by omega,by omega⟩;rw[ZY,E];exact fin _ 0 (by omega)) (by
   clear hL;rintro ⟨T,σ',nx'⟩ ⟨h0,h1,h2,O,J,Y,a1,lo,c,h7,a2,E,PV,G,a6,a7⟩;simp only at h0 h1 h2 h7 O J Y a1 a2;subst a1 a2;rw[zk (l:=W) (by omega)]at G;refine⟨_,by simp only[go_sem,J,Y,zl];rfl,by simp,_,lo,c,rfl,by simp only[go_sem,h0],by simp only[go_sem,h1],by simp only[go_sem,h7],E,PV,G,a6,a7⟩) (by
   simp only[go_sem];exact⟨[],0,rfl,by rw[acK,Xp hu],rfl,Dg.nil,by simp[vl],yD _,by decide⟩)
 have f1:=jD n;have f2:(n:Int)<(L:Int):=by omega
 have Fe:=idx (xs:=lay U j lo) (k:=j+n) (by rw[jm (by omega)];exact hj);rw[L9 E hj]at Fe;have c5:j+n<(lay U j lo).length:=by rw[jm (by omega)];exact hj
 have ur:=dU.get hj;have w1:=ZQ (n:=U[j+n] - c);have c6:=qQ (lay U j lo) (j+n) (U[j+n] - c);rw[jk E hj]at c6;have c7:=idx (xs:=lay U j (lo++[U[j+n] - c])) (k:=j+n) (by rw[jm (by simp;omega)];exact hj);have e7:(lay U j (lo++[U[j+n] - c]))[j+n]'(by rw[jm (by simp;omega)];exact hj)=U[j+n] - c:=by
  have:(lay U j (lo++[U[j+n] - c]))[j+n]?=some (U[j+n] - c):=by
   rw[<- jk E hj,tJ (by rw[jm (by omega)];exact hj)]
  rw[zy (by rw[jm (by simp;omega)];exact hj)]at this;exact Option.some.inj this
 rw[e7]at c7;refine⟨lo,U[j+n] - c,by simp only[go_sem,h0,h1,h7,a4,a5,f1,f2,Fe,c5,w1,c6,c7,Zh],E,PV,?_,by omega,by omega⟩;rw[uw];have:bp n* -c= -(bp n*c):=by rw[Int.mul_neg]
 omega
theorem aty{σ:Store}{nx J bv:Nat}{U W:List Int}{j n:Nat}{t:Int}{L:Nat}{B:E_}(a9:n<L)(hu:σ J=some ⟨U.flatMap cI,1,true⟩)(hv:σ bv=some B)(a8:J≠bv)(hW:∀k (h:k<W.length),B.cells[k]?=some (I W[k]))(hn:W.length=n)
  (hj:j+n<U.length) (hl:U.length<=3000000) (dU:∀k (h:k<U.length),k<j+n->0<=U[k]/\U[k]<1000000000) (hU:U[j+n]=t) (ht:-1000000000<=t/\t<=1000000000) (dW:Dg W) :
  ∃lo c,ev ZH Ef IL 241 [.rs J j L,.rs bv 0 n] σ nx=some (.AP [],upd σ J (some ⟨(lay U j (lo++[t+c])).flatMap cI,1,true⟩),nx)/\lo.length=n/\Dg lo/\vl lo+bp n*c=vl ((U.drop j).take n)+vl W/\0<=c/\c<=1:=by
 have a3:∀(x:Option E_),upd σ J x bv=some B:=fun x=>by rw[Zj _ _ (yu a8)];exact hv
 have a4:∀(x:Option E_),upd σ J x J=x:=fun x=>Zi _ _ _
 rw[nG [] [] func241];simp only[go_sem];generalize hL:dI _ _=y;obtain⟨r,rfl,T',lo,c,rfl,h0,h1,h4,E,PV,G,hc⟩:=pF hL n (fun k st=>st.T 0= .rs J j L/\st.T 1= .rs bv 0 n/\st.T 8= .rs bv 0 n/\st.T 9=I n/\st.T 10=I k/\st.nx=nx/\∃lo c,st.T 4=I c/\st.σ=upd σ J (some ⟨(lay U j lo).flatMap cI,1,true⟩)/\lo.length=k/\Dg lo/\vl lo+bp k*c=vl ((U.drop j).take k)+vl (W.take k)/\0<=c/\c<=1)
  (fun r=>∃T lo c,r=(.exit 0,⟨T,upd σ J (some ⟨(lay U j lo).flatMap cI,1,true⟩),nx⟩)/\T 0= .rs J j L/\T 1= .rs bv 0 n/\T 4=I c/\lo.length=n/\Dg lo/\vl lo+bp n*c=vl ((U.drop j).take n)+vl W/\0<=c/\c<=1) (by
   clear hL;rintro k ⟨T,σ',nx'⟩ b2 ⟨h0,h1,h8,h9,O,S,lo,c,h4,Y,E,PV,G,a5,a6⟩;simp only at h0 h1 h4 h8 h9 O S Y;subst S Y;have f1:(k:Int)<(n:Int):=by omega
   have f2:=jD k;have f3:=ZQ (n:=(k:Int)+1);have a2:k<W.length:=by omega
   have a0:=hW k a2;obtain⟨m,hm⟩:∃m,m=W[k]:=⟨_,rfl⟩;have mr:=dW.get a2;rw[<- hm]at a0 mr;have a1:j+k<U.length:=by omega
   have f4:(k:Int)<(L:Int):=by omega
   obtain⟨u,a7⟩:∃u,u=U[j+k]:=⟨_,rfl⟩;have ur:=dU (j+k) a1 (by omega);have Fe:=idx (xs:=lay U j lo) (k:=j+k) (by rw[jm (by omega)];exact a1);rw[L9 E a1]at Fe;rw[<- a7]at ur Fe;have c5:j+k<(lay U j lo).length:=by rw[jm (by omega)];exact a1
   have v1:vl ((U.drop j).take (k+1))=vl ((U.drop j).take k)+bp k*u:=by
    rw[ZW (by rw[zN];omega),List.getElem_drop,a7]
   have v2:vl (W.take (k+1))=vl (W.take k)+bp k*m:=by rw[ZW a2,hm]
   have w1:=ZQ (n:=u+m);have w2:=ZQ (n:=u+m+c);obtain⟨q1,q2⟩:=aG (n:=u+m+c) (by omega);have w3:=ZQ (n:=(u+m+c) / 1000000000);have c6:=qQ (lay U j lo) (j+k) ((u+m+c)%1000000000);rw[jk E a1]at c6;refine .inl ⟨_,by simp only[go_sem,h0,h1,h4,h8,h9,O,a3,a4,a0,Fe,f1,f2,f3,f4,c5,w1,w2,w3,q1,q2,S9,c6,Zh];rfl,?_⟩;simp only[go_sem,h0,h1,h8,h9];refine⟨rfl,_,_,rfl,rfl,by simp[E],PV.snoc (by omega) (by omega),?_,by omega,by omega⟩;rw[ZY,E,qZ,v1,v2,qH (n:=u+m+c) (by omega),xY,xY];omega) (by
   clear hL;rintro ⟨T,σ',nx'⟩ ⟨h0,h1,h8,h9,O,S,lo,c,h4,Y,E,PV,G,a5,a6⟩;simp only at h0 h1 h4 h8 h9 O S Y;subst S Y;rw[zk (l:=W) (by omega)]at G;refine⟨_,by simp only[go_sem,h9,O,zl];rfl,by simp,_,lo,c,rfl,by simp only[go_sem,h0],by simp only[go_sem,h1],by simp only[go_sem,h4],E,PV,G,a5,a6⟩) (by
   simp only[go_sem];exact⟨[],0,rfl,by rw[acK,Xp hu],rfl,Dg.nil,by simp[vl],yD _,by decide⟩)
 have f1:=jD n;have f2:(n:Int)<(L:Int):=by omega
 have Fe:=idx (xs:=lay U j lo) (k:=j+n) (by rw[jm (by omega)];exact hj);rw[L9 E hj,hU]at Fe;have c5:j+n<(lay U j lo).length:=by rw[jm (by omega)];exact hj
 have w1:=ZQ (n:=t+c);have c6:=qQ (lay U j lo) (j+n) (t+c);rw[jk E hj]at c6;exact⟨lo,c,by simp only[go_sem,h0,h1,h4,a3,a4,f1,f2,Fe,c5,w1,c6,Zh],E,PV,G,hc⟩
theorem gi{xs:List Int}{n:Nat}(h:Dg xs)(G:vl xs=n):(xs.flatMap cI).take (ln n)=(dg n).flatMap cI/\ln n<=xs.length:=by
 obtain⟨r,E⟩:=Zt xs;rw[CV h G]at E;have J:(dg n).length=ln n:=rfl;refine⟨?_,?_⟩
 .rw[qP]
  conv=>lhs;rw[E]
  rw[<- J,xM];rfl
 .rw[E,zo];omega
theorem ah0{n:Nat}(J:2<=ln n):∃(b1 s:Nat) (h:ln n-1<(dg n).length),(dg n)[ln n-1]=(b1:Int)/\0<b1/\b1<1000000000/\s=1000000000 / (b1+1)/\1<=s/\s<1000000000/\ln (n*s)=ln n/\bp (ln n-1)*500000000<=(n*s:Nat):=by
 have hl:(dg n).length=ln n:=rfl;have h:ln n-1<(dg n).length:=by omega
 have hd:=(oh n).get h;obtain⟨b1,E⟩:∃b1:Nat,(dg n)[ln n-1]=(b1:Int):=⟨((dg n)[ln n-1]).toNat,by omega⟩;have a0:n≠0:=fun e=>by rw[e,jX]at J;omega
 have G:(n:Int)=vl ((dg n).take (ln n-1))+bp (ln n-1)*b1:=by
  have:=ZW h;rw[show ln n-1+1=(dg n).length by omega,yg,Zc,E]at this;exact this
 have O:=Zb ((oh n).take (ln n-1));rw[zh,yA (by omega)]at O;have Y:=Za ((oh n).take (ln n-1));have hP:=qg (ln n-1);have S:0<b1:=by
  rcases Nat.eq_zero_or_pos b1 with e|e
  .subst e
   rw[show((0:Nat):Int)=0 from rfl,vZ]at G;have:=(jg (n:=n) (k:=ln n-1)).mpr (by omega);omega
  .exact e
 rw[E]at hd;obtain⟨k1,k2,k3,k4⟩:=ahV (b1:=b1) (by omega) (by omega);have hs:((1000000000 / (b1+1):Nat):Int)=1000000000 / ((b1:Int)+1):=by simp
 rw[<- hs]at k1 k2 k3 k4;refine⟨b1,1000000000 / (b1+1),h,E,S,by omega,rfl,by omega,by omega,?_,?_⟩
 .refine Nat.le_antisymm (jg.mpr ?_) ?_
  .have e:bp (ln n)=bp (ln n-1)*1000000000:=by
    have:=qZ (ln n-1);rw[show ln n-1+1=ln n by omega]at this;rw[this,Int.mul_comm]
   have h1:(n:Int)<bp (ln n-1)*(b1+1):=by rw[xY];omega
   rw[yh,e];generalize ((1000000000 / (b1+1):Nat):Int)=s at *;have J:(n:Int)*s<bp (ln n-1)*(b1+1)*s:=t_ h1 (by omega);have h3:bp (ln n-1)*((b1+1)*s)<=bp (ln n-1)*1000000000:=zA (by rw[Int.mul_comm];exact k2) (by omega);rw[<- ug]at h3;omega
  .exact jf (Nat.le_mul_of_pos_right _ (by omega))
 .rw[yh]
  generalize ((1000000000 / (b1+1):Nat):Int)=s at *;have h1:bp (ln n-1)*b1*s<=(n:Int)*s:=zS (by omega) (by omega);have J:bp (ln n-1)*500000000<=bp (ln n-1)*(b1*s):=zA k3 (by omega);rw[<- ug]at J;omega
theorem atz{σ:Store}{nx b:Nat}{P:List Int}{N:Nat}(hb:σ b=some ⟨P.flatMap cI,1,true⟩)(S:b<nx)(hd:Dg P)(hv:vl P=N)(hN:N≠0)(hl:P.length<=1000000+1000000)(hp:P.length<=ln N+1) :
  ∃G σ' nx',Ad σ nx 1 8 (.rs b 0 (ln N)) [I 0] 1=some (.rs G 0 (ln N+1),σ',nx')/\σ' G=some ⟨(dg N++[0]).flatMap cI,1,true⟩/\nx<=nx'/\(G=b\/G=nx)/\G<nx'/\∀c,c<nx->¬c=b->σ' c=σ c:=by
 obtain⟨r,O⟩:=Zt P;rw[CV hd hv]at O;have J:(dg N).length=ln N:=rfl;have hle:P.length=ln N+r.length:=by rw[O,zo,J]
 have cell:∀xs:List Int,(xs.flatMap cI).length=xs.length:=qR;unfold Ad;simp only[hb];rw[sW (by decide)]
 by_cases h:r=[]
 .subst h
  have hP:P=dg N:=by rw[O];simp
  have a0:P.length=ln N:=by rw[hle];rfl
  rw[sW (by rw[cell];omega),sS (by
   refine⟨by rw[cell];omega,by simp,by unfold maxLen;omega,by omega,by simp[pI]⟩)]
  refine⟨nx,_,nx+1,rfl,?_,by omega,.inr rfl,by omega,fun c hc E=>?_⟩
  .rw[Zi,hP,zU];rfl
  .rw[Zk,Zj _ _ E]
 .have Y:r.length=1:=by
   have:=List.length_pos_iff.mpr h;omega
  rw[sS (by rw[cell];omega),sS ⟨by simp,by simp,by simp[pI]⟩];refine⟨b,_,nx,rfl,?_,zq _,.inl rfl,S,fun c _ E=>Zj _ _ E⟩;rw[Zi];congr 2;show(P.flatMap cI).set (0+ln N*1) (I 0)=_;rw[yX,yQ,qQ];congr 1;obtain⟨x,hx⟩:∃x,r=[x]:=List.length_eq_one_iff.mp Y;subst hx
  conv=>lhs;rw[O]
  rw[<- J,yC _ _ (zq _),yP];rfl
theorem window{U W:List Int}{j e:Nat}{V:Int}(E:Dg U)(hW:W.length=e+2)(G:Dg W)(S:vl W=V)(Y:j+(e+2)<U.length)(a0:vl (U.drop (j+1))<V) :
  vl (U.drop j)=vl ((U.drop j).take (e+2))+bp (e+2)*U[j+(e+2)]/\vl (U.drop j)<V*1000000000 /\
  (∃Ur,0<=Ur/\Ur<bp e/\vl (U.drop j)=((U[j+(e+2)]*1000000000+U[j+e+1])*1000000000+U[j+e])*bp e+Ur) /\
  (∃Vr,0<=Vr/\Vr<bp e/\V=(W[e+1]*1000000000+W[e])*bp e+Vr)/\U[j+(e+2)]<=W[e+1]/\vl (U.drop (j+(e+2)+1))=0:=by
 have a1:V<bp (e+2):=by rw[<- S,<- hW];exact Zb G
 have d1:=acp (xs:=U) (k:=j) (by omega);have u0:=E.get (k:=j) (by omega);have X2:vl (U.drop j)<V*1000000000:=by omega
 have hl:(U.drop j).length=U.length-j:=zN;have s1:=ZX (U.drop j) (k:=e+2) (by omega);rw[List.drop_drop]at s1;have s2:=acp (xs:=U) (k:=j+(e+2)) Y;have un:=E.get Y;have lo0:=Za ((E.drop j).take (e+2));have hi0:=Za (E.drop (j+(e+2)+1));have hi:vl (U.drop (j+(e+2)+1))=0:=by
  rcases Int.lt_trichotomy (vl (U.drop (j+(e+2)+1))) 0 with h|h|h
  .omega
  .exact h
  .exfalso
   have h1:bp (e+2)*1000000000<=bp (e+2)*vl (U.drop (j+(e+2))):=zA (by omega) (xG (qg _));have h2:V*1000000000<=bp (e+2)*1000000000:=zS (by omega) (by decide);omega
 rw[hi]at s2;have s3:vl (U.drop j)=vl ((U.drop j).take (e+2))+bp (e+2)*U[j+(e+2)]:=by rw[s1,s2];simp
 have g:∀ {xs:List Int} (h:e+1<xs.length),vl (xs.take (e+2))=vl (xs.take e)+bp e*xs[e]+bp e*1000000000*xs[e+1]:=fun {xs} h=>by
  rw[ZW (k:=e+1) h,ZW (k:=e) (by omega),qZ];grind
 have J:=g (xs:=U.drop j) (by omega);simp only[List.getElem_drop]at J;have e1:U[j+(e+1)]=U[j+e+1]:=rfl;rw[e1]at J;have O:=g (xs:=W) (by omega);rw[zk (by omega),S]at O;have b2:bp (e+2)=bp e*1000000000*1000000000:=by rw[qZ,qZ];grind
 have rU:=Zb ((E.drop j).take e);rw[zh,hl,yA (by omega)]at rU;have rV:=Zb (G.take e);rw[zh,yA (by omega)]at rV;refine⟨s3,X2,⟨_,Za ((E.drop j).take e),rU,?_⟩,⟨_,Za (G.take e),rV,?_⟩,?_,hi⟩
 .rw[s3,J,b2];grind
 .rw[O];grind
 .have w1:=G.get (k:=e) (by omega)
  have w2:=G.get (k:=e+1) (by omega);refine Int.not_lt.mp fun h=>?_
  have h1:bp (e+2)*(W[e+1]+1)<=bp (e+2)*U[j+(e+2)]:=zA (by omega) (xG (qg _));have h2:bp e*W[e]<=bp e*999999999:=zA (by omega) (xG (qg _));have h3:V<bp e*1000000000*(W[e+1]+1):=by rw[O,xY];omega
  have h4:V*1000000000<bp (e+2)*(W[e+1]+1):=by
   rw[b2];have:=t_ h3 (show(0:Int)<1000000000 by decide);have e:bp e*1000000000*(W[e+1]+1)*1000000000=bp e*1000000000*1000000000*(W[e+1]+1):=by grind
   omega
  omega
end Go.Proofs.YtehdaknhabeiaaaGreat
