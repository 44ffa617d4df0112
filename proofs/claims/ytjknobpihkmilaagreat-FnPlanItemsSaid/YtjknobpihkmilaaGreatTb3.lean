import Derived.Test.YtjknobpihkmilaaGreatTb2
set_option linter.unusedSimpArgs false
set_option linter.unusedVariables false
set_option linter.unusedSectionVars false
set_option linter.defProp false
set_option maxRecDepth 10000
set_option maxHeartbeats 4000000
open Go.Proofs.Tryz renaming prog->ZM
open Go.Proofs.Tryz
open Bool renaming false_eq_true->yE,true_and->xY,not_false->wE,not_true->vH
open Classical renaming byContradiction->zf
open Int renaming lt_irrefl->zi,mul_le_mul_of_nonneg_right->zS,mul_le_mul_of_nonneg_left->zB,natCast_mul->yj,tdiv_eq_ediv_of_nonneg->yB,mul_add->xg,le_refl->xP,tmod_eq_emod_of_nonneg->xC,le_of_lt->x9,natAbs_natCast->wo,natAbs_neg->wC,mul_zero->vk,mul_nonneg->vV,mul_sub->uw,mul_assoc->uh,toNat_of_nonneg->uZ,natAbs_mul->uY,add_zero->uQ,sub_mul->uF,mul_lt_mul_of_pos_right->sZ
open List renaming getElem?_eq_getElem->zy,getD_eq_getElem?_getD->zx,getElem_mem->zu,length_append->zo,take_of_length_le->zl,length_take->zh,eq_nil_of_length_eq_zero->zZ,mem_cons_of_mem->zY,mem_cons->zX,getElem?_append_left->zU,length_map->zT,flatMap_append->zQ,mem_cons_self->zO,getElem?_append_right->zN,not_mem_nil->zK,append_nil->zH,flatMap_cons->zG,length_drop->zC,mem_append_left->z_,append_assoc->yw,mem_append_right->yh,drop_zero->yg,getElem?_map->yc,getElem?_eq_none->yX,length_singleton->yV,take_length->yT,drop_eq_getElem_cons->yS,cons_append->yR,ext_getElem->yQ,length_set->yP,take_add_one->yL,length_eraseIdx_of_lt->yH,mem_singleton->yD,getElem_map->yC,drop_of_length_le->yA,getElem?_drop->xw,replicate_succ->xu,nodup_cons->xk,set_append_right->xO,map_append->xH,take_left'->xG,getElem_range->wZ,range_succ->wX,getElem_set->wW,replicate_append_replicate->wG,set_cons_zero->vC,take_append_drop->vB,mem_of_mem_eraseIdx->uo,getElem?_take_of_lt->um,drop_append_of_le_length->ug,getElem_inj->uX,flatMap_replicate->uV,getElem?_mapIdx->uH,set_eq_take_append_cons_drop->uG,drop_drop->uD,length_zipWith->tZ,filter_append->tH,getElem?_set_self->tC,eraseIdx_sublist->su
open Nat renaming le_refl->zq,not_lt_zero->zW,le_trans->zL,mul_le_mul_right->zD,zero_add->yZ,mul_one->yN,sub_self->yM,succ_mul->xq,min_eq_left->xX,lt_of_lt_of_le->xQ,mul_le_mul->xK,lt_or_eq_of_le->xJ,div_le_self->xE,le_of_lt_succ->xA,div_div_eq_div_mul->wu,add_comm->wQ,mul_comm->wL,mod_eq_of_lt->wK,zero_le->wF,mod_lt->vX,zero_mul->vM,div_one->vK,mul_assoc->vG,div_eq_of_lt->vF,pow_succ->uq
open Ne renaming symm->yu
open Option renaming bind_some->zk,map_some->zJ,getD_some->yG
open Rat renaming mul_nonneg->xR,le_of_lt->vg,intCast_neg->vO,intCast_mul->vN,div_def->vJ,le_refl->uU,mul_zero->u_
open Option.some renaming injEq->sW
open Prod.mk renaming injEq->sS
namespace Go.Proofs.YtjknobpihkmilaaGreat
open Go Go.TV
theorem WY(m n:Nat)(l1:(dg m).length<=1000000)(l2:(dg n).length<=1000000):fn ZM conv ext 242 [LI (dg m),LI (dg n)]=some (I (Bg m n)):=by
 rw[mJ,nC [.tmp 4] [] func242]
 by_cases hl:(dg m).length=(dg n).length
 .have c1:(((dg m).length:Int) !=((dg n).length:Int))=false:=by rw[hl];simp
  have e1:=ZU (n:=((dg m).length:Int) - 1);simp only[go_sem,c1,e1];generalize hL:iI _ _=y;obtain⟨r,rfl,hr⟩:=jS hL (fun k st=>st.nx=0/\st.σ=pI/\st.T 0=LI (dg m)/\st.T 1=LI (dg n)/\st.T 5=I ((k:Int) - 1)/\k<=(dg m).length/\m / 1000000000^k=n / 1000000000^k)
   (fun r=>(∃T,r=(.exit 0,⟨T,pI,0⟩)/\m=n)\/(∃T,r=(.ret,⟨T,pI,0⟩)/\T 4=I (Bg m n))) (by
    clear hL;rintro k ⟨T,σ,nx⟩ ⟨a1,a6,h0,h1,h5,hk,he⟩;simp only at a1 a6 h0 h1 h5;subst a1 a6;cases k with
    |zero=>
     have a7:¬(0:Int)<=0-1:=by omega
     rw[Nat.pow_zero,vK,vK]at he;exact .inr ⟨_,by simp only[go_sem,h5,a7];rfl,by simp,.inl ⟨_,rfl,he⟩⟩
    |succ k=>
     have E:k<(dg m).length:=by omega
     have G:k<(dg n).length:=by omega
     have e5:((k+1:Nat):Int) - 1=(k:Int):=by omega
     rw[e5]at h5;have f0:=jF k;have f3:(k:Int)<((dg m).length:Int):=by omega
     have S:(k:Int)<((dg n).length:Int):=by omega
     have f5:=Ba (dg m) k E;have Y:=Ba (dg n) k G;have f6:=idx E;have O:=idx G;rw[oQ E]at f6;rw[oQ G]at O;have f7:=ZU (n:=(k:Int) - 1)
     by_cases q1:((m / 1000000000^k%1000000000:Nat):Int)<((n / 1000000000^k%1000000000:Nat):Int)
     .have J:m<n:=jR he (by omega)
      have hc:Bg m n= -1:=by unfold Bg;rw[sO J]
      exact .inr ⟨_,by simp only[go_sem,h0,h1,h5,f0,f3,S,f5,Y,f6,O,q1];rfl,by simp,.inr ⟨_,rfl,by simp only[go_sem,hc]⟩⟩
     .by_cases q2:((n / 1000000000^k%1000000000:Nat):Int)<((m / 1000000000^k%1000000000:Nat):Int)
      .have J:n<m:=jR he.symm (by omega)
       have hc:Bg m n=1:=by unfold Bg;rw[sQ (by omega),sQ (by omega)]
       exact .inr ⟨_,by simp only[go_sem,h0,h1,h5,f0,f3,S,f5,Y,f6,O,q1,q2];rfl,by simp,.inr ⟨_,rfl,by simp only[go_sem,hc]⟩⟩
      .have a8:m / 1000000000^k=n / 1000000000^k:=by
        have a:=oL m k;have b:=oL n k;rw[he]at a;omega
       refine .inl ⟨_,by simp only[go_sem,h0,h1,h5,f0,f3,S,f5,Y,f6,O,f7,q1,q2];rfl,k,by omega,?_⟩;simp only[go_sem,h0,h1];exact⟨by omega,a8⟩) (dg m).length ⟨rfl,rfl,by simp only[go_sem],by simp only[go_sem],by simp only[go_sem],zq _,by rw[oS,hl,oS]⟩
  rcases hr with ⟨T,rfl,h⟩|⟨T,rfl,h⟩
  .have hc:Bg m n=0:=by unfold Bg;rw[sQ (by omega),sO h]
   simp only[go_sem,hc]
  .simp only[go_sem,h]
 .have c1:(((dg m).length:Int) !=((dg n).length:Int))=true:=by rw[bne_iff_ne];omega
  by_cases E:((dg m).length:Int)<((dg n).length:Int)
  .have J:m<n:=oP (by omega)
   have hc:Bg m n= -1:=by unfold Bg;rw[sO J]
   simp only[go_sem,c1,E,hc]
  .have J:n<m:=oP (by omega)
   have hc:Bg m n=1:=by unfold Bg;rw[sQ (by omega),sQ (by omega)]
   simp only[go_sem,c1,E,hc]
theorem dN(m n:Nat)(hm:ln m<=1000000)(hn:ln n<=1000000):fn ZM conv ext 227 [LI (dg m),LI (dg n)]=some (LI (dg (m*n))):=by
 unfold ln at hm hn;rw[mJ,nC [.tmp 4] [] func227]
 by_cases zm:m=0
 .subst zm
  rw[vM,oJ]
  (simp only[go_sem])<;>rfl
 have cm:((((dg m).length:Nat):Int)==0)=false:=by rw[sN];have:=rC (oO zm);omega
 by_cases zn:n=0
 .subst zn
  rw[Nat.mul_zero,oJ]
  (simp only[go_sem,cm])<;>rfl
 have cn:((((dg n).length:Nat):Int)==0)=false:=by rw[sN];have:=rC (oO zn);omega
 have pn:0<(dg n).length:=List.length_pos_iff.mpr (oO zn);obtain⟨e1,e2,e3⟩:=jQ (k:=(dg m).length+(dg n).length) (by omega);have e0:((dg m).length:Int)+((dg n).length:Int)=(((dg m).length+(dg n).length:Nat):Int):=by omega
 have e4:=ZU (n:=(((dg m).length+(dg n).length:Nat):Int)) (by omega) (by omega);simp only[go_sem,cm,cn,e0,e1,e2,e3,e4];generalize hL:iI _ _=y;obtain⟨r,rfl,T',σ',nx',P,rfl,S,E,G,hP,hd,hv⟩:=oZ hL (dg m).length (fun k st=>st.T 1=LI (dg n)/\st.T 5= .rs 0 0 ((dg m).length+(dg n).length)/\st.T 26=LI (dg m)/\st.T 27=I (dg m).length/\st.T 28=I k/\0<st.nx/\∃P,st.σ 0=some ⟨FW P ((dg m).length-k),1,true⟩/\P.length=k+(dg n).length/\Dg P/\vl P=vl ((dg m).take k)*n)
  (fun r=>∃T σ nx P,r=(.exit 0,⟨T,σ,nx⟩)/\T 5= .rs 0 0 ((dg m).length+(dg n).length)/\0<nx/\σ 0=some ⟨P.flatMap cI,1,true⟩/\P.length=(dg m).length+(dg n).length/\Dg P/\vl P=(m*n:Nat)) (by
   clear hL;rintro k ⟨T,σ,nx⟩ a8 ⟨Y,S,E_,J,O,E,P,G,hP,hd,hv⟩;simp only at Y S E_ J O E G;have f1:(k:Int)<((dg m).length:Int):=by omega
   have f2:=jF k;have f3:=ZU (n:=(k:Int)+1);have f5:=Ba (dg m) k a8;have f6:=idx a8;obtain⟨x,hx⟩:∃x,x=(dg m)[k]:=⟨_,rfl⟩;have xr:=(oU m).get a8;rw[<- hx]at f6 xr;have v1:=Za a8;rw[<- hx]at v1;obtain⟨g,hg⟩:∃g,(dg m).length-k=g+1:=⟨(dg m).length-k-1,by omega⟩;have b2:(dg m).length - (k+1)=g:=by omega
   rw[hg]at G;refine bD ?_
   conv=>
    enter [1,r,1,1]
    simp only[go_sem,Y,S,E_,J,O,E,f1,f2,f5,f6]
   generalize hL:iI _ _=z;obtain⟨r,rfl,T',σ',nx',c,W,rfl,Y,S,h6,h8,E_,J,O,E,G,hW,hd,hv,a1,a6⟩:=oZ hL (dg n).length (fun j st=>st.T 1=LI (dg n)/\st.T 5= .rs 0 0 ((dg m).length+(dg n).length)/\st.T 6=I k/\st.T 7=I x/\st.T 26=LI (dg m)/\st.T 27=I (dg m).length/\st.T 28=I k/\st.T 33=LI (dg n)/\st.T 34=I (dg n).length/\st.T 35=I j/\0<st.nx/\∃c W,st.T 8=I c/\st.σ 0=some ⟨FW W (g+1),1,true⟩/\W.length=k+(dg n).length/\Dg W/\vl W+bp (k+j)*c=vl ((dg m).take k)*n+bp k*(x*vl ((dg n).take j))/\0<=c/\c<1000000000)
    (fun r=>∃T σ nx c W,r=(.exit 2,⟨T,σ,nx⟩)/\T 1=LI (dg n)/\T 5= .rs 0 0 ((dg m).length+(dg n).length)/\T 6=I k/\T 8=I c/\T 26=LI (dg m)/\T 27=I (dg m).length/\T 28=I k/\0<nx/\σ 0=some ⟨FW W (g+1),1,true⟩/\W.length=k+(dg n).length/\Dg W/\vl W+bp (k+(dg n).length)*c=vl ((dg m).take k)*n+bp k*(x*n)/\0<=c/\c<1000000000) (by
     clear hL;rintro j ⟨T,σ,nx⟩ hj ⟨Y,S,h6,h7,E_,J,O,WX,QJ,a7,E,c,W,h8,G,hW,hd,hv,a1,a6⟩;simp only at Y S h6 h7 h8 E_ J O WX QJ a7 E G;have g1:(j:Int)<((dg n).length:Int):=by omega
     have g2:=jF j;have g3:=ZU (n:=(j:Int)+1);have g5:=Ba (dg n) j hj;have g6:=idx hj;obtain⟨b,hb⟩:∃b,b=(dg n)[j]:=⟨_,rfl⟩;have br:=(oU n).get hj;rw[<- hb]at g6 br;have v2:=Za hj;rw[<- hb]at v2;have p0:(k:Int)+(j:Int)=((k+j:Nat):Int):=by omega
     have p1:=ZU (n:=((k+j:Nat):Int));have p2:(0:Int)<=((k+j:Nat):Int):=by omega
     have p3:((k+j:Nat):Int)<(((dg m).length+(dg n).length:Nat):Int):=by omega
     have p4:k+j<W.length:=by omega
     have p5:=TA (o:=W) (g+1) p4;have p6:k+j<(FW W (g+1)).length:=by rw[mY];omega
     obtain⟨w,hw⟩:∃w,w=W[k+j]:=⟨_,rfl⟩;have wr:=hd.get p4;rw[<- hw]at p5 wr;have mm:=TB (x:=x) (y:=b) (c:=c) (w:=w) xr br ⟨a1,a6⟩ wr;have w1:=ZU (n:=x*b);have w2:=ZU (n:=w+x*b);have w3:=ZU (n:=w+x*b+c);obtain⟨q1,q2⟩:=aG (n:=w+x*b+c) (by omega);have w4:=ZU (n:=(w+x*b+c) / 1000000000);have c6:=mW (g+1) ((w+x*b+c)%1000000000) p4;have vs:=aaT p4 ((w+x*b+c)%1000000000);rw[<- hw]at vs;refine .inl ⟨_,by simp only[go_sem,Y,S,h6,h7,h8,E_,J,O,WX,QJ,a7,E,G,g1,g2,g3,g5,g6,p0,p1,p2,p3,p5,p6,w1,w2,w3,w4,q1,q2,c6];rfl,?_⟩;simp only[go_sem,Y,S,h6,h7,E_,J,O,WX,QJ];refine⟨rfl,E,_,_,rfl,rfl,by rw[yP];exact hW,hd.set _ (by omega) (by omega),?_,by omega,by omega⟩;rw[vs,show k+(j+1)=k+j+1 by omega,qW,J5 (c:=c) (x:=x) (b:=b) (by omega) hv (.inr trivial),v2,Tv];grind) (by
     clear hL;rintro ⟨T,σ,nx⟩ ⟨Y,S,h6,h7,E_,J,O,WX,QJ,a7,E,c,W,h8,G,hW,hd,hv,a1,a6⟩;simp only at Y S h6 h7 h8 E_ J O WX QJ a7 E G;rw[yT,Zf]at hv;refine⟨_,by simp only[go_sem,QJ,a7,zi];rfl,by simp,_,_,_,c,W,rfl,?_⟩;simp only[go_sem,Y,S,h6,h8,E_,J,O];exact⟨E,G,hW,hd,hv,a1,a6⟩) (by
     simp only[go_sem,Y,S,E_,J,O];exact⟨E,0,P,rfl,G,hP,hd,by rw[vk,hv];simp[vl],xP _,by decide⟩)
   have p0:(k:Int)+((dg n).length:Int)=((k+(dg n).length:Nat):Int):=by omega
   have p1:=ZU (n:=((k+(dg n).length:Nat):Int)) (by omega) (by omega);have p2:(0:Int)<=((k+(dg n).length:Nat):Int):=by omega
   have p3:((k+(dg n).length:Nat):Int)<(((dg m).length+(dg n).length:Nat):Int):=by omega
   have p6:k+(dg n).length<(FW W (g+1)).length:=by rw[mY];omega
   have c6:=mX W g c hW;refine⟨_,by simp only[go_sem,Y,S,h6,h8,E_,J,O,E,G,f3,p0,p1,p2,p3,p6,c6];rfl,.inl ⟨_,rfl,?_⟩⟩;simp only[go_sem,Y,S,E_,J,b2];refine⟨rfl,E,_,rfl,by simp[hW];omega,hd.snoc a1 a6,?_⟩;rw[Zc,hW,hv,v1];grind) (by
   clear hL;rintro ⟨T,σ,nx⟩ ⟨Y,S,E_,J,O,E,P,G,hP,hd,hv⟩;simp only at Y S E_ J O E G;rw[yM,mZ]at G;refine⟨_,by simp only[go_sem,J,O,zi];rfl,by simp,_,_,_,P,rfl,by simp only[go_sem,S],E,G,hP,hd,?_⟩;rw[hv,yT,Zf,yj]) (by
   simp only[go_sem];refine⟨List.replicate (dg n).length 0,?_,by simp,fun x hx=>by rw[List.mem_replicate]at hx;omega,(aaS _).trans (by simp[vl])⟩;congr 2;unfold FW;rw[show List.flatMap cI (List.replicate (dg n).length 0)=rep (dg n).length [I 0] by unfold rep;rw[uV]];unfold rep;rw[<- List.flatten_append,wG,wQ])
 have ht:=KZ P (by unfold Short;omega);rw[CW hd hv]at ht;have b3:fn ZM conv ext 243 [.ts (P.flatMap cI) ((dg m).length+(dg n).length)]=some (LI (dg (m*n))):=by rw[<- hP];exact ht
 have tk:List.take ((dg m).length+(dg n).length) (P.flatMap cI)=P.flatMap cI:=by rw[<- hP];exact qK _
 have b4:(P.flatMap cI).length=(dg m).length+(dg n).length:=by rw[qN,hP]
 simp only[go_sem,S,E,G,b4,tk,b3]
theorem anp{n j:Nat}(h:bp j<=n):j+1<=ln n:=by
 refine zf fun hn=>?_
 have:=jd.mp (show ln n<=j by omega);omega
theorem anq{n:Nat}(h:n≠0):bp (ln n-1)<=n:=by
 refine zf fun hn=>?_
 have:=jd.mpr (show(n:Int)<bp (ln n-1) by omega);have:=jW h;omega
theorem Zq(o:List Int):∃r,o=Bl o++r:=by
 induction o with
 |nil=>exact⟨[],rfl⟩
 |cons x o E=>
  obtain⟨r,G⟩:=E;rw[Zu]
  split
  .split
   .exact⟨x :: o,rfl⟩
   .exact⟨o,rfl⟩
  .exact⟨r,by rw[yR,<- G]⟩
theorem TD{o:List Int}{n:Nat}(J:Dg o)(O:vl o=n)(S:o.length<=ln n):o=dg n:=by
 obtain⟨r,E⟩:=Zq o;have G:=CW J O;have:r=[]:=by
  refine zZ ?_;have Y:=congrArg List.length E;rw[zo,G]at Y;unfold ln at S;omega
 rw[this,zH,G]at E;exact E
theorem asX(m n:Nat)(hm:ln m<=1000000)(hn:ln n<=1000000):fn ZM conv ext 245 [LI (dg m),LI (dg n)]=some (LI (dg (m+n))):=by
 have a6:m≠0->bp (ln m-1)<=m:=anq;have a7:n≠0->bp (ln n-1)<=n:=anq;have a8:m=0->ln m=0:=fun h=>by rw[h,jU]
 have b2:n=0->ln n=0:=fun h=>by rw[h,jU]
 unfold ln at *;rw[mJ,nC [.tmp 4] [] func245];simp only[go_sem];generalize hL:iI _ _=y;obtain⟨M,b4,b5,hM⟩:∃M,(dg m).length<=M/\(dg n).length<=M/\(M=(dg m).length\/M=(dg n).length):=by
  rcases Nat.le_total (dg m).length (dg n).length with h|h
  .exact⟨_,h,zq _,.inr rfl⟩
  .exact⟨_,zq _,h,.inl rfl⟩
 obtain⟨r,rfl,T',σ',nx',rfl,hr⟩:=jS hL (fun g st=>∃k c o,g+k=M+1/\st.T 0=LI (dg m)/\st.T 1=LI (dg n)/\st.T 6=I c/\st.T 7=I (k:Nat)/\Grow st.T st.σ st.nx 5 o/\o.length=k/\Dg o/\vl o+bp k*c=vl ((dg m).take k)+vl ((dg n).take k)/\0<=c/\c<=1/\(k=M+1->c=0/\bp M<=(m+n:Nat)))
  (fun r=>∃T σ nx,r=(.exit 0,⟨T,σ,nx⟩)/\Grow T σ nx 5 (dg (m+n))) (by
   clear hL;rintro g ⟨T,σ,nx⟩ ⟨k,c,o,hg,G,E,h6,h7,hG,ho,hd,hv,b6,b7,hk⟩;simp only at G E h6 h7 hG;have fin:(dg m).length<=k->(dg n).length<=k->c=0->o=dg (m+n):=by
    intro a1 a2 a3;subst a3;rw[zl a1,zl a2,Zf,Zf,vk,uQ]at hv;refine TD hd (by rw[hv];omega) ?_
    by_cases Y:k=M+1
    .have:=anp (hk Y).2
     omega
    .have b8:k=M:=by omega
     by_cases b9:M=0
     .omega
     .have:bp (M-1)<=(m+n:Nat):=by
       rcases hM with e|e
       .have:=a6 (fun h=>by have:=a8 h;omega)
        rw[<- e]at this;omega
       .have:=a7 (fun h=>by have:=b2 h;omega)
        rw[<- e]at this;omega
      have:=anp this;omega
   have go:∀x z:Int,0<=x->x<1000000000->0<=z->z<1000000000->vl ((dg m).take (k+1))=vl ((dg m).take k)+bp k*x->vl ((dg n).take (k+1))=vl ((dg n).take k)+bp k*z->(k=M->x=0/\z=0)->k<M+1 ->
     vl (o++[(c+x+z)%1000000000])+bp (k+1)*((c+x+z) / 1000000000)=vl ((dg m).take (k+1))+vl ((dg n).take (k+1)):=by
    intro x z x0 x1 z0 z1 e1 e2 _ _;rw[Zc,ho,qW,e1,e2,qC (n:=c+x+z) (by omega),xg,xg];omega
   have nz:¬(0:Int)<0:=by decide
   by_cases hA:k<(dg m).length
   .have f1:(k:Int)<((dg m).length:Int):=by omega
    have f2:=jF k;have f3:=ZU (n:=(k:Int)+1);have f5:=Ba (dg m) k hA;have f6:=idx hA;obtain⟨x,hx⟩:∃x,x=(dg m)[k]:=⟨_,rfl⟩;have xr:=(oU m).get hA;have v1:=Za hA;rw[<- hx]at f6 xr v1;have w1:=ZU (n:=c+x)
    by_cases J:k<(dg n).length
    .have f8:(k:Int)<((dg n).length:Int):=by omega
     have f9:=Ba (dg n) k J;have f10:=idx J;obtain⟨z,hz⟩:∃z,z=(dg n)[k]:=⟨_,rfl⟩;have zr:=(oU n).get J;have v2:=Za J;rw[<- hz]at f10 zr v2;have w2:=ZU (n:=c+x+z);obtain⟨O,S⟩:=aG (n:=c+x+z) (by omega);have w3:=ZU (n:=(c+x+z) / 1000000000);obtain⟨σ',ha,hs⟩:=kW hG ((c+x+z)%1000000000) (by omega);refine .inl ⟨_,by simp only[go_sem,G,E,h6,h7,f1,f2,f3,f5,f6,f8,f9,f10,w1,w2,w3,O,S,ha];rfl,g-1,by omega,k+1,(c+x+z) / 1000000000,o++[(c+x+z)%1000000000],by omega,?_,?_,?_,?_,?_,by simp[ho],hd.snoc (by omega) (by omega),?_,by omega,by omega,fun h=>by omega⟩
     .simp only[go_sem,G]
     .simp only[go_sem,E]
     .simp only[go_sem]
     .simp only[go_sem];rfl
     .exact kS hs (by simp[go_sem]) (by simp)
     exact go x z xr.1 xr.2 zr.1 zr.2 v1 v2 (fun h=>by omega) (by omega)
    .have f8:¬(k:Int)<((dg n).length:Int):=by omega
     have v2:vl ((dg n).take (k+1))=vl ((dg n).take k)+bp k*0:=by rw[qV (by omega)];omega
     obtain⟨O,S⟩:=aG (n:=c+x) (by omega);have w3:=ZU (n:=(c+x) / 1000000000);obtain⟨σ',ha,hs⟩:=kW hG ((c+x)%1000000000) (by omega);refine .inl ⟨_,by simp only[go_sem,G,E,h6,h7,f1,f2,f3,f5,f6,f8,w1,w3,O,S,ha];rfl,g-1,by omega,k+1,(c+x) / 1000000000,o++[(c+x)%1000000000],by omega,?_,?_,?_,?_,?_,by simp[ho],hd.snoc (by omega) (by omega),?_,by omega,by omega,fun h=>by omega⟩
     .simp only[go_sem,G]
     .simp only[go_sem,E]
     .simp only[go_sem]
     .simp only[go_sem];rfl
     .exact kS hs (by simp[go_sem]) (by simp)
     have:=go x 0 xr.1 xr.2 (by decide) (by decide) v1 v2 (fun h=>by omega) (by omega)
     rwa [uQ]at this
   .have f1:¬(k:Int)<((dg m).length:Int):=by omega
    have f2:=jF k;have f3:=ZU (n:=(k:Int)+1);have v1:vl ((dg m).take (k+1))=vl ((dg m).take k)+bp k*0:=by rw[qV (by omega)];omega
    by_cases J:k<(dg n).length
    .have f8:(k:Int)<((dg n).length:Int):=by omega
     have f9:=Ba (dg n) k J;have f10:=idx J;obtain⟨z,hz⟩:∃z,z=(dg n)[k]:=⟨_,rfl⟩;have zr:=(oU n).get J;have v2:=Za J;rw[<- hz]at f10 zr v2;have w2:=ZU (n:=c+z);obtain⟨O,S⟩:=aG (n:=c+z) (by omega);have w3:=ZU (n:=(c+z) / 1000000000);obtain⟨σ',ha,hs⟩:=kW hG ((c+z)%1000000000) (by omega);refine .inl ⟨_,by simp only[go_sem,G,E,h6,h7,f1,f2,f3,f8,f9,f10,w2,w3,O,S,ha];rfl,g-1,by omega,k+1,(c+z) / 1000000000,o++[(c+z)%1000000000],by omega,?_,?_,?_,?_,?_,by simp[ho],hd.snoc (by omega) (by omega),?_,by omega,by omega,fun h=>by omega⟩
     .simp only[go_sem,G]
     .simp only[go_sem,E]
     .simp only[go_sem]
     .simp only[go_sem];rfl
     .exact kS hs (by simp[go_sem]) (by simp)
     have:=go 0 z (by decide) (by decide) zr.1 zr.2 v1 v2 (fun h=>by omega) (by omega)
     rwa [uQ]at this
    .have f8:¬(k:Int)<((dg n).length:Int):=by omega
     have v2:vl ((dg n).take (k+1))=vl ((dg n).take k)+bp k*0:=by rw[qV (by omega)];omega
     by_cases hc:c=0
     .subst hc
      refine .inr ⟨_,by simp only[go_sem,G,E,h6,h7,f1,f8,nz];rfl,by simp,_,_,_,rfl,?_⟩;rw[<- fin (by omega) (by omega) rfl];exact kU (by simp only[go_sem]) hG
     .have b3:c=1:=by omega
      subst b3;have Y:k=M:=by
       rcases Nat.lt_or_ge k (M+1)with h|h
       .omega
       .have:=(hk (by omega)).1;omega
      have p1:(0:Int)<1:=by decide
      obtain⟨O,S⟩:=aG (n:=1) (by decide);have q3:(1:Int)%1000000000=1:=by decide
      have q4:(1:Int) / 1000000000=0:=by decide
      have q5:IntKind.i64.wrap 0=0:=by decide
      rw[q3]at O;rw[q4]at S;obtain⟨σ',ha,hs⟩:=kW hG 1 (by omega);refine .inl ⟨_,by simp only[go_sem,G,E,h6,h7,f1,f2,f3,f8,p1,O,S,q5,ha];rfl,g-1,by omega,k+1,0,o++[1],by omega,?_,?_,?_,?_,?_,by simp[ho],hd.snoc (by omega) (by omega),?_,by omega,by omega,fun h=>⟨rfl,?_⟩⟩
      .simp only[go_sem,G]
      .simp only[go_sem,E]
      .simp only[go_sem]
      .simp only[go_sem];rfl
      .exact kS hs (by simp[go_sem]) (by simp)
      .have:=go 0 0 (by decide) (by decide) (by decide) (by decide) v1 v2 (fun _=>⟨rfl,rfl⟩) (by omega)
       rw[uQ,uQ,q3,q4]at this;exact this
      .rw[zl (by omega),zl (by omega),Zf,Zf,Int.mul_one]at hv
       have:=Zd hd;rw[<- Y];omega) (M+1) ⟨0,0,[],by omega,by simp only[go_sem],by simp only[go_sem],by simp only[go_sem],by simp only[go_sem],.inl ⟨by simp only[go_sem],rfl⟩,rfl,Dg.nil,by simp[vl],by decide,by decide,fun h=>by omega⟩
 obtain⟨ids,E⟩:=kR hr 6;have h5:∃u,T' 5=u:=⟨_,rfl⟩;simp only[go_sem,E]
theorem WZ(m n:Nat)(hm:ln m<=1000000)(hle:n<=m):fn ZM conv ext 246 [LI (dg m),LI (dg n)]=some (LI (dg (m-n))):=by
 have a7:(dg n).length<=(dg m).length:=jc hle;unfold ln at hm;rw[mJ,nC [.tmp 4] [] func246];simp only[go_sem];generalize hL:iI _ _=y;obtain⟨r,rfl,T',σ',nx',o,rfl,hG,ho,hd,hv⟩:=oZ hL (dg m).length (fun k st=>st.T 0=LI (dg m)/\st.T 1=LI (dg n)/\st.T 10=LI (dg m)/\st.T 11=I (dg m).length/\st.T 12=I k/\∃c o,st.T 6=I c/\Grow st.T st.σ st.nx 5 o/\o.length=k/\Dg o/\vl o-bp k*c=vl ((dg m).take k) - vl ((dg n).take k)/\0<=c/\c<=1)
  (fun r=>∃T σ nx o,r=(.exit 0,⟨T,σ,nx⟩)/\Grow T σ nx 5 o/\o.length=(dg m).length/\Dg o/\vl o=(m-n:Nat)) (by
   clear hL;rintro k ⟨T,σ,nx⟩ a6 ⟨Y,S,G,E,J,c,o,h6,hG,ho,hd,hv,a8,b2⟩;simp only at Y S G E J h6 hG;have f1:(k:Int)<((dg m).length:Int):=by omega
   have f2:=jF k;have f3:=ZU (n:=(k:Int)+1);have f5:=Ba (dg m) k a6;have f6:=idx a6;obtain⟨x,hx⟩:∃x,x=(dg m)[k]:=⟨_,rfl⟩;have xr:=(oU m).get a6;have v1:=Za a6;rw[<- hx]at f6 xr v1;have w1:=ZU (n:=x-c);obtain⟨z,b,b3,hb,hF⟩:∃z b,(0<=z/\z<1000000000)/\vl ((dg n).take (k+1))=vl ((dg n).take k)+bp k*z/\((b=true/\(k:Int)<((dg n).length:Int)/\(dg n).flatMap cI≠[]/\((dg n).flatMap cI)[k]?=some (I z))\/(b=false/\¬(k:Int)<((dg n).length:Int)/\z=0)):=by
    by_cases hB:k<(dg n).length
    .exact⟨(dg n)[k],true,(oU n).get hB,Za hB,.inl ⟨rfl,by omega,Ba (dg n) k hB,idx hB⟩⟩
    .exact⟨0,false,by decide,by rw[qV (by omega)];omega,.inr ⟨rfl,by omega,rfl⟩⟩
   have w2:=ZU (n:=x-c-z);have go:∀y q:Int,y=x-c-z+1000000000*q->vl (o++[y]) - bp (k+1)*q=vl ((dg m).take (k+1)) - vl ((dg n).take (k+1)):=by
    intro y q hy;rw[Zc,ho,qW,v1,hb,qZ hy,uw,uw];omega
   have w3:=ZU (n:=x-c-z+1000000000);obtain⟨b4,a1,s1⟩:=kW hG (x-c-z) (by omega);obtain⟨σ2,a2,s2⟩:=kW hG (x-c-z+1000000000) (by omega);rcases hF with ⟨_,f8,f9,f10⟩|⟨_,f8,rfl⟩
   .by_cases O:x-c-z<0
    .refine .inl ⟨_,by simp only[go_sem,Y,S,h6,G,E,J,f1,f2,f3,f5,f6,f8,f9,f10,w1,w2,w3,O,a2];rfl,?_⟩
     simp only[go_sem,Y,S,G,E];exact⟨rfl,1,o++[x-c-z+1000000000],rfl,kS s2 (by simp[go_sem]) (by simp),by simp[ho],hd.snoc (by omega) (by omega),go _ 1 (by omega),by omega,by omega⟩
    .refine .inl ⟨_,by simp only[go_sem,Y,S,h6,G,E,J,f1,f2,f3,f5,f6,f8,f9,f10,w1,w2,O,a1];rfl,?_⟩
     simp only[go_sem,Y,S,G,E];exact⟨rfl,0,o++[x-c-z],rfl,kS s1 (by simp[go_sem]) (by simp),by simp[ho],hd.snoc (by omega) (by omega),go _ 0 (by omega),by omega,by omega⟩
   .rw[Int.sub_zero]at *
    by_cases O:x-c<0
    .refine .inl ⟨_,by simp only[go_sem,Y,S,h6,G,E,J,f1,f2,f3,f5,f6,f8,w1,w3,O,a2];rfl,?_⟩
     simp only[go_sem,Y,S,G,E];exact⟨rfl,1,o++[x-c+1000000000],rfl,kS s2 (by simp[go_sem]) (by simp),by simp[ho],hd.snoc (by omega) (by omega),go _ 1 (by omega),by omega,by omega⟩
    .refine .inl ⟨_,by simp only[go_sem,Y,S,h6,G,E,J,f1,f2,f3,f5,f6,f8,w1,O,a1];rfl,?_⟩
     simp only[go_sem,Y,S,G,E];exact⟨rfl,0,o++[x-c],rfl,kS s1 (by simp[go_sem]) (by simp),by simp[ho],hd.snoc (by omega) (by omega),go _ 0 (by omega),by omega,by omega⟩) (by
   clear hL;rintro ⟨T,σ,nx⟩ ⟨Y,S,G,E,J,c,o,h6,hG,ho,hd,hv,a8,b2⟩;simp only at Y S G E J h6 hG;refine⟨_,by simp only[go_sem,E,J,zi];rfl,by simp,_,_,_,o,rfl,kU (by simp only[go_sem]) hG,ho,hd,?_⟩;rw[yT,zl a7,Zf,Zf,<- ho]at hv;have h7:=Ze hd;have h8:=Zd hd;have h9:=qX o.length;have hc:c=0:=zf fun b5=>by
    have:c=1:=by omega
    subst this;rw[Int.mul_one]at hv;omega
   subst hc;rw[vk]at hv;omega) (by
   simp only[go_sem];exact⟨0,[],rfl,.inl ⟨by simp only[go_sem],rfl⟩,rfl,Dg.nil,by simp[vl],xP _,by decide⟩)
 have ht:=KZ o (by unfold Short;omega);rw[CW hd hv]at ht;obtain⟨ids,S⟩:=kR hG 6;simp only[go_sem,S,ht]
theorem NU(b:Bool)(n:Nat)(h:ln n<=60):fn ZM conv ext 220 [Bo b,LI (dg n)]=some (.agg (cZ (A_ b n))):=by
 have k:=anl b (dg n) (dD (by omega)) (by rw[Zt];exact h);rw[Zt]at k;rw[aaU];exact k
theorem W9(x y:Int)(O:ln x.natAbs<=1000000)(S:ln y.natAbs<=1000000)(h:ln (x+y).natAbs<=60):fn ZM conv ext 231 [.agg (cZ x),.agg (cZ y)]=some (.agg (cZ (x+y))):=by
 have J:=WY x.natAbs y.natAbs O S;have k2:=asX x.natAbs y.natAbs O S;have sg:∀b m,A_ b m=x+y->fn ZM conv ext 220 [Bo b,LI (dg m)]=some (.agg (cZ (x+y))):=fun b m hs=>by
  have:(x+y).natAbs=m:=by rw[<- hs];unfold A_;split<;>omega
  rw[<- hs];exact NU b m (by rw[<- this];exact h)
 rw[mJ,nC [.cell 4 171] [2,4,5] func231]
 by_cases Y:x<0<;>by_cases h2:y<0
 .have E:=sg true (x.natAbs+y.natAbs) (by unfold A_;rw[sO rfl];omega)
  unfold cZ at *;rw[sJ Y,sJ h2];simp only[go_sem,J,k2,E]
 .unfold cZ at *
  rw[sJ Y,sH h2]
  by_cases hc:x.natAbs<y.natAbs
  .have c1:¬0<=Bg x.natAbs y.natAbs:=by have:=pK.mpr hc;omega
   have G:=WZ y.natAbs x.natAbs S (by omega);have E:=sg false (y.natAbs-x.natAbs) (by unfold A_;rw[sQ (by decide)];omega);simp only[go_sem,J,E,G,c1]
  .have c1:0<=Bg x.natAbs y.natAbs:=by have:=mt pK.mp hc;omega
   have G:=WZ x.natAbs y.natAbs O (by omega);have E:=sg true (x.natAbs-y.natAbs) (by unfold A_;rw[sO rfl];omega);simp only[go_sem,J,E,G,c1]
 .unfold cZ at *
  rw[sH Y,sJ h2]
  by_cases hc:x.natAbs<y.natAbs
  .have c1:¬0<=Bg x.natAbs y.natAbs:=by have:=pK.mpr hc;omega
   have G:=WZ y.natAbs x.natAbs S (by omega);have E:=sg true (y.natAbs-x.natAbs) (by unfold A_;rw[sO rfl];omega);simp only[go_sem,J,E,G,c1]
  .have c1:0<=Bg x.natAbs y.natAbs:=by have:=mt pK.mp hc;omega
   have G:=WZ x.natAbs y.natAbs O (by omega);have E:=sg false (x.natAbs-y.natAbs) (by unfold A_;rw[sQ (by decide)];omega);simp only[go_sem,J,E,G,c1]
 .have E:=sg false (x.natAbs+y.natAbs) (by unfold A_;rw[sQ (by decide)];omega)
  unfold cZ at *;rw[sH Y,sH h2];simp only[go_sem,J,k2,E]
theorem aaV(z:Int)(Y:-9223372036854775808<z)(h1:z<=9223372036854775807):fn ZM conv ext 221 [I z]=some (.agg (cZ z)):=by
 have c1:(z== -9223372036854775808)=false:=by rw[sN];omega
 have G:=NT z.natAbs (by omega);have O:ln z.natAbs<=60:=by have:=aoM (n:=z.natAbs) (by omega);omega
 rw[mJ,nC [.cell 2 171] [] func221]
 by_cases S:z<0
 .have E:=NU true z.natAbs O
  have e:A_ true z.natAbs=z:=by unfold A_;rw[sO rfl];omega
  have J:((z.natAbs:Nat):Int)=0-z:=by omega
  have w:=ZU (n:=0-z);rw[e]at E;rw[J]at G;unfold cZ at *;simp only[go_sem,c1,S,w,G,E]
 .have E:=NU false z.natAbs O
  have e:A_ false z.natAbs=z:=by unfold A_;rw[sQ (by decide)];omega
  have J:((z.natAbs:Nat):Int)=z:=by omega
  rw[e]at E;rw[J]at G;unfold cZ at *;simp only[go_sem,c1,S,G,E]
theorem dO(z:Int)(E:-9223372036854775808<z)(G:z<=9223372036854775807):fn ZM conv ext 190 [I z]=some (.agg (cQ (z:Rat))):=by
 have J:=aaV z E G;have O:(z:Rat).num=z:=rfl;have S:(z:Rat).den=1:=rfl;unfold cZ at *;unfold cQ;rw[O,S,oN (d:=1) (by decide) (by decide),mJ,nC [.cell 2 173] [] func190]
 (simp only[go_sem,J])<;>rfl
theorem aco(n:Nat)(h:ln n<=1000000):fn ZM conv ext 230 [LI (dg n)]=some (Bo (decide (n=1))):=by
 rw[asQ (dg n) (dD h),decide_eq_decide.mpr (QH n)]
theorem ahl(q:Rat)(G:ln q.num.natAbs<=60)(J:ln q.den<=60):fn ZM conv ext 189 [.agg (cQ q)]=some (.agg (cQ (-q))):=by
 have E:=NU (!decide (q.num<0)) q.num.natAbs G;have e:cZ (A_ (!decide (q.num<0)) q.num.natAbs)=cZ (-q.num):=by
  unfold A_
  by_cases h:q.num<0
  .rw[sJ h,vH,sQ (by decide)];congr 1;omega
  .rw[sH h,wE,sO rfl];congr 1;omega
 rw[e]at E;have O:¬(dg q.den).length=0:=rC (oO q.den_nz);have S:(dg q.den).length<=maxLen/\(dg q.den).length*8<=140737488355328:=by unfold ln at J;unfold maxLen;omega
 unfold cZ at *;unfold cQ;rw[Rat.neg_num,Rat.neg_den,mJ,nC [.cell 2 173] [1] func189];simp only[go_sem,E,O,S]
end Go.Proofs.YtjknobpihkmilaaGreat
namespace Go.TV
def EG(f:V->Option (V×List Nat)):List V->Option (List V×List Nat)
 |[]=>some ([],[])
 |v :: vs=>match f v,EG f vs with
  |some (t,i),some (ts,j)=>some (t :: ts,i++j)
  |_,_=>none
def own(σ:Store):Nat->V->Option (V×List Nat)
 |0,v=>match v with
  | .sc u=>some (.sc u,[])
  | .nil=>some (.ts [] 0,[])
  |_=>none
 |d+1,v=>match v with
  | .sc u=>some (.sc u,[])
  | .nil=>some (.ts [] 0,[])
  | .agg vs=>match EG (own σ d) vs with
   |some (ts,ids)=>some (.agg ts,ids)
   |none=>none
  | .rs b off len=>match σ b with
   |some B=>if off=0/\B.wr=true/\len*B.st=B.cells.length then
     match EG (own σ d) B.cells with
     |some (ts,ids)=>some (.ts ts len,b :: ids)
     |none=>none
    else none
   |none=>none
  |_=>none
def Own(σ:Store)(d:Nat)(v t:V)(ids:List Nat):Prop:=own σ d v=some (t,ids)/\ids.Nodup
theorem iT{f g:V->Option (V×List Nat)}:∀ {vs ts:List V} {ids:List Nat},(∀v t i,f v=some (t,i)->(∀b∈i,b∈ids)->g v=some (t,i))->EG f vs=some (ts,ids)->EG g vs=some (ts,ids)
 |[],ts,ids,_,h=>h
 |v :: vs,ts,ids,hfg,h=>by
  unfold EG at h⊢
  split at h
  .rename_i t i E j G J
   simp only[sW,sS]at h;obtain⟨rfl,rfl⟩:=h;rw[hfg v t i G (fun b hb=>z_ _ hb),iT (fun v t i h hi=>hfg v t i h (fun b hb=>yh _ (hi b hb))) J]
  .cases h
theorem J6{σ σ':Store}:∀(d:Nat) (v t:V) (ids:List Nat),own σ d v=some (t,ids)->(∀b∈ids,σ' b=σ b)->own σ' d v=some (t,ids)
 |0,v,t,ids,h,_=>by cases v<;>simp[own]at h⊢ <;>exact h
 |d+1,v,t,ids,h,hb=>by
  cases v<;>simp only[own]at h⊢ <;>try exact h
  .split at h
   .rename_i ts i e
    simp only[sW,sS]at h;obtain⟨rfl,rfl⟩:=h;rw[iT (fun v t i h hi=>J6 d v t i h fun b E=>hb b (hi b E)) e]
   .cases h
  .rename_i b off len
   split at h
   .rename_i B G
    split at h
    .rename_i hc
     split at h
     .rename_i ts i e
      simp only[sW,sS]at h;obtain⟨rfl,rfl⟩:=h;rw[hb b zO,G];simp only;rw[sO hc,iT (fun v t i h hi=>J6 d v t i h fun b E=>hb b (zY _ (hi b E))) e]
     .cases h
    .cases h
   .cases h
theorem iQ{σ:Store}{f g:V->Option (V×List Nat)}(E:∀v t i,f v=some (t,i)->g v=some (t,i)):∀ {vs ts:List V} {ids:List Nat},EG f vs=some (ts,ids)->stripL g vs=some (ts,ids)
 |[],ts,ids,h=>h
 |v :: vs,ts,ids,h=>by
  unfold EG at h;unfold stripL
  split at h
  .rename_i t i G j J O
   simp only[sW,sS]at h;obtain⟨rfl,rfl⟩:=h;rw[E v t i J,iQ (σ:=σ) E O]
  .cases h
theorem J7{σ:Store}:∀(d:Nat) (v t:V) (ids:List Nat),own σ d v=some (t,ids)->∀d',d<=d'->strip σ d' v=some (t,ids)
 |0,v,t,ids,h,d',_=>by
  cases v<;>simp[own]at h
  .rename_i u;obtain⟨rfl,rfl⟩:=h;exact aQ _ _ _
  .obtain⟨rfl,rfl⟩:=h;exact aT _ _
 |d+1,v,t,ids,h,d',hd=>by
  obtain⟨e,rfl⟩:∃e,d'=e+1:=⟨d'-1,by omega⟩;cases v<;>simp only[own]at h
  .simp only[sW,sS]at h;obtain⟨rfl,rfl⟩:=h;exact aQ _ _ _
  .simp only[sW,sS]at h;obtain⟨rfl,rfl⟩:=h;exact aT _ _
  .cases h
  .split at h
   .rename_i ts i E
    simp only[sW,sS]at h;obtain⟨rfl,rfl⟩:=h;rw[Qx,iQ (σ:=σ) (fun v t i h=>J7 d v t i h e (by omega)) E];rfl
   .cases h
  .cases h
  .cases h
  .cases h
  .cases h
  .cases h
  .rename_i b off len
   split at h
   .rename_i B G
    split at h
    .rename_i hc
     split at h
     .rename_i ts i E
      simp only[sW,sS]at h;obtain⟨rfl,rfl⟩:=h;obtain⟨rfl,_,J⟩:=hc;rw[aS,G];simp only[zk];rw[sO (by omega),yg,zl (by omega),iQ (σ:=σ) (fun v t i h=>J7 d v t i h e (by omega)) E];rfl
     .cases h
    .cases h
   .cases h
theorem iR{f:V->Option (V×List Nat)}{g:V->Option (List Nat)}(E:∀v t i,f v=some (t,i)->g v=some i):∀ {vs ts:List V} {ids:List Nat},EG f vs=some (ts,ids)->AL g vs=some ids
 |[],ts,ids,h=>by simp only[EG,sW,sS]at h;rw[<- h.2];rfl
 |v :: vs,ts,ids,h=>by
  unfold EG at h;unfold AL
  split at h
  .rename_i t i G j J O
   simp only[sW,sS]at h;obtain⟨rfl,rfl⟩:=h;rw[E v t i J,iR E O]
  .cases h
theorem iP{σ:Store}:∀(d:Nat) (v t:V) (ids:List Nat),own σ d v=some (t,ids)->∀d',d<=d'->gather σ d' v=some ids
 |0,v,t,ids,h,d',_=>by
  cases v<;>simp[own]at h
  .obtain⟨rfl,rfl⟩:=h;cases d'<;>rfl
  .obtain⟨rfl,rfl⟩:=h;cases d'<;>rfl
 |d+1,v,t,ids,h,d',hd=>by
  obtain⟨e,rfl⟩:∃e,d'=e+1:=⟨d'-1,by omega⟩;cases v<;>simp only[own]at h
  .simp only[sW,sS]at h;rw[<- h.2];rfl
  .simp only[sW,sS]at h;rw[<- h.2];rfl
  .cases h
  .split at h
   .rename_i ts i E
    simp only[sW,sS]at h;obtain⟨rfl,rfl⟩:=h;unfold gather;exact iR (fun v t i h=>iP d v t i h e (by omega)) E
   .cases h
  .cases h
  .cases h
  .cases h
  .cases h
  .cases h
  .rename_i b off len
   split at h
   .rename_i B G
    split at h
    .rename_i hc
     split at h
     .rename_i ts i E
      simp only[sW,sS]at h;obtain⟨rfl,rfl⟩:=h;unfold gather;simp only[G];rw[iR (fun v t i h=>iP d v t i h e (by omega)) E]
     .cases h
    .cases h
   .cases h
theorem Own.frame{σ σ':Store}{d:Nat}{v t:V}{ids:List Nat}(h:Own σ d v t ids)(hb:∀b∈ids,σ' b=σ b):Own σ' d v t ids:=⟨J6 d v t ids h.1 hb,h.2⟩
theorem Own.upd{σ:Store}{d:Nat}{v t:V}{ids:List Nat}{c:Nat}{x:Option Fv}(hc:¬c∈ids):Own (upd σ c x) d v t ids=Own σ d v t ids:=by
 refine propext ⟨fun h=>h.frame fun b hb=>?_,fun h=>h.frame fun b hb=>?_⟩
 .exact(Zk _ _ (fun e=>hc (by rw[<- e];exact hb))).symm
 .exact Zk _ _ (fun e=>hc (by rw[<- e];exact hb))
theorem jr{n:Nat}{σ E:Store}{ids:List Nat}{b:Nat}(hn:¬b<n)(hb:b∈ids):Ce n σ E ids b=E b:=by
 unfold Ce;rw[sQ hn,sO hb]
theorem jq{n:Nat}{σ E:Store}{ids:List Nat}{b:Nat}(hn:b<n):Ce n σ E ids b=σ b:=by
 unfold Ce;rw[sO hn]
theorem Own.join{n:Nat}{σ E:Store}{d:Nat}{v t:V}{ids:List Nat}(h:Own E d v t ids)(hn:∀b∈ids,n<=b):Own (Ce n σ E ids) d v t ids :=
 h.frame fun b hb=>jr (by have:=hn b hb;omega) hb
theorem Own.strip{σ:Store}{d:Nat}{v t:V}{ids:List Nat}(h:Own σ d v t ids){d':Nat}(E:d<=d'):TV.strip σ d' v=some (t,ids):=J7 d v t ids h.1 d' E
theorem Own.gather{σ:Store}{d:Nat}{v t:V}{ids:List Nat}(h:Own σ d v t ids){d':Nat}(E:d<=d'):TV.gather σ d' v=some ids:=iP d v t ids h.1 d' E
theorem QL{σ:Store}{d:Nat}:∀ {cells:List V} {xs:List Int} {ids:List Nat},EG (own σ d) cells=some (xs.flatMap cI,ids)->cells=xs.flatMap cI/\ids=[]
 |[],xs,ids,h=>by
  simp only[EG,sW,sS]at h;exact⟨h.1,h.2.symm⟩
 |v :: vs,xs,ids,h=>by
  unfold EG at h
  split at h
  .rename_i t i G j E S
   simp only[sW,sS]at h;obtain⟨O,rfl⟩:=h;cases xs with
   |nil=>cases O
   |cons x xs=>
    have J:t :: G=I x :: xs.flatMap cI:=O;obtain⟨rfl,rfl⟩:=List.cons.inj J;obtain⟨rfl,rfl⟩:=QL S;have:v=I x/\i=[]:=by
     cases d with
     |zero=>cases v<;>simp[own]at E;exact⟨by rw[E.1],E.2⟩
     |succ d=>
      cases v<;>simp only[own]at E
      .simp only[sW,sS]at E;exact⟨by rw[E.1],E.2.symm⟩
      .simp at E
      .cases E
      .split at E<;>simp at E
      .cases E
      .cases E
      .cases E
      .cases E
      .cases E
      .split at E
       .split at E
        .split at E<;>simp at E
        .cases E
       .cases E
    exact⟨by rw[this.1];rfl,by rw[this.2];rfl⟩
  .cases h
theorem IV{σ:Store}{d:Nat}{v:V}{xs:List Int}{ids:List Nat}(h:Own σ (d+1) v (LI xs) ids):(v= .nil/\xs=[]/\ids=[])\/∃b st,v= .rs b 0 xs.length/\ids=[b]/\σ b=some ⟨xs.flatMap cI,st,true⟩/\xs.length*st=xs.length:=by
 obtain⟨h,_⟩:=h;cases v<;>simp only[own]at h
 .simp at h
 .simp only[sW,sS]at h
  refine .inl ⟨rfl,?_,h.2.symm⟩;have E:=h.1;simp only[LI,V.ts.injEq]at E;exact zZ E.2.symm
 .cases h
 .split at h<;>simp at h
 .cases h
 .cases h
 .cases h
 .cases h
 .cases h
 .rename_i b off len
  split at h
  .rename_i B J
   split at h
   .rename_i hc
    obtain⟨rfl,hw,G⟩:=hc
    split at h
    .rename_i ts i O
     simp only[sW,sS,LI,V.ts.injEq]at h;obtain⟨⟨rfl,rfl⟩,rfl⟩:=h;obtain⟨E,rfl⟩:=QL O;obtain⟨cells,st,wr⟩:=B;simp only at hw G E;subst hw E;exact .inr ⟨b,st,rfl,rfl,J,by rw[G,qN]⟩
    .cases h
   .cases h
  .cases h
theorem ak0(σ:Store)(d:Nat)(xs:List Int):EG (own σ d) (xs.flatMap cI)=some (xs.flatMap cI,[]):=by
 induction xs with
 |nil=>rfl
 |cons x xs E=>
  show EG (own σ d) (I x :: xs.flatMap cI)=_;unfold EG;rw[E];cases d<;>rfl
theorem iM{σ:Store}{d b st:Nat}{xs:List Int}(h:σ b=some ⟨xs.flatMap cI,st,true⟩)(E:xs.length*st=xs.length):Own σ (d+1) (.rs b 0 xs.length) (LI xs) [b]:=by
 refine⟨?_,by simp⟩;simp only[own,h];rw[sO ⟨trivial,trivial,by rw[qN];exact E⟩,ak0]
theorem iO(σ:Store)(d:Nat):Own σ d .nil (LI []) []:=⟨by cases d<;>rfl,by simp⟩
def marks(k:Int):Nat->List Int
 |0=>[]
 |n+1=>k :: marks (k+1) n
def K_(nx G:Nat)(σ E:Store)(ids:List Nat):Store:=yI [] nx G σ (Ce nx (restrict σ []) E ids)
theorem ak1{P:Program}{conv:FuncId->Conv}{call:Call}{d:Option Tmp}{ty:TypeId}{ps:String}{S:Array Edge}{Y:Option (Nat×Bool)}{T:Nat->V}{σ:Store}{nx:Nat}{g:FuncId}(h:conv g= .own)(args:Array Operand)(ts:Array TypeId) :
  Ai P conv call ⟨d,.call ⟨.value (.func g),args,ts⟩,ty,ps,S,Y⟩ T σ nx=(stripL (strip σ depth) (args.toList.map (val T))).bind fun p=>if(p.2.all fun b=>decide (b<nx))=true then(call g p.1 pI nx).bind fun q=>(gather q.2.1 depth q.1).map fun ids=>(q.1,K_ nx q.2.2 σ q.2.1 ids,q.2.2)else none:=by
 unfold Ai;rw[mG d ty ps S Y T σ (by rw[h];exact fun e=>by cases e)];cases a1:stripL (strip σ depth) (args.toList.map (val T))with
 |none=>rfl
 |some p=>
  obtain⟨us,F⟩:=p;simp only[zJ,zk]
  by_cases E:(F.all fun b=>decide (b<nx))=true
  .rw[sO E,sO E]
   have e:=Mc (P:=P) (conv:=conv) (call:=call) d ty ps S Y T (restrict σ F) nx (.func g) args ts;rw[e];have G:stripL (strip (restrict σ F) depth) (args.toList.map (val T))=some (us,F) :=
    ay (fun v t i h hi=>aV _ v t i h fun b hb=>by unfold restrict;rw[sO (hi b hb)]) a1
   simp only[val,qF,zH,WG h,G,zk];cases call g us pI nx with
   |none=>rfl
   |some q=>
    simp only[zk];cases gather q.2.1 depth q.1 with
    |none=>rfl
    |some ids=>
     simp only[zJ,keeps,val,h,if_true,sW,sS,true_and,and_true];have a6:∀b∈F,b<nx:=fun b hb=>by simpa using List.all_eq_true.1 E b hb
     unfold K_;funext b;unfold yI
     by_cases J:nx<=b/\b<q.2.2
     .rw[sO (.inr J),sO (.inr J)]
      unfold Ce;simp only[sQ (show ¬b<nx by omega)]
     .by_cases O:b∈F
      .rw[sO (.inl O),sQ (fun e=>e.elim (fun e=>by cases e) J)]
       unfold Ce restrict;rw[sO (a6 b O),sO O]
      .rw[sQ (fun e=>e.elim O J),sQ (fun e=>e.elim (fun e=>by cases e) J)]
  .rw[sQ E,sQ E]
theorem asY{conv:FuncId->Conv}{d:Option Tmp}{ty:TypeId}{ps:String}{E:Array Edge}{G:Option (Nat×Bool)}{g:FuncId}(h:conv g= .own)(args:Array Operand)(ts:Array TypeId):writer conv ⟨d,.call ⟨.value (.func g),args,ts⟩,ty,ps,E,G⟩=false:=by unfold writer;simp only[h]
theorem ahm{conv:FuncId->Conv}{d:Option Tmp}{ty:TypeId}{ps:String}{E:Array Edge}{G:Option (Nat×Bool)}{T:Nat->V}{σ:Store}{g:FuncId}(h:conv g= .own)(args:Array Operand)(ts:Array TypeId):Ad conv T σ ⟨d,.call ⟨.value (.func g),args,ts⟩,ty,ps,E,G⟩=((stripL (strip σ depth) (args.toList.map (val T))).map (·.2)).getD []:=by
 unfold Ad;rw[mG d ty ps E G T σ (by rw[h];exact fun e=>by cases e)]
theorem asZ{nx G:Nat}{σ E:Store}{ids:List Nat}{b:Nat}(J:nx<=b)(O:b<G)(hb:b∈ids):K_ nx G σ E ids b=E b:=by
 unfold K_ yI;rw[sO (.inr ⟨J,O⟩),jr (by omega) hb]
theorem anr{nx G:Nat}{σ E:Store}{ids:List Nat}{b:Nat}(h:b<nx):K_ nx G σ E ids b=σ b:=by
 unfold K_ yI;rw[sQ (by simp;omega)]
theorem QM(σ:Store)(d:Nat)(u:Value):gather σ d (.sc u)=some []:=by cases d<;>rfl
theorem aaW(σ:Store)(d:Nat):gather σ d .nil=some []:=by cases d<;>rfl
theorem aaX(σ:Store)(d:Nat)(vs:List V):gather σ (d+1) (.agg vs)=AL (gather σ d) vs:=rfl
theorem aaY(σ:Store)(d:Nat)(vs:List V):gather σ (d+1) (.AX vs)=AL (gather σ d) vs:=rfl
theorem W_(f:V->Option (List Nat)):AL f []=some []:=rfl
theorem IW(f:V->Option (List Nat))(v:V)(vs:List V):AL f (v :: vs)=(f v).bind fun i=>(AL f vs).map fun j=>i++j:=by
 show(match f v,AL f vs with|some i,some j=>some (i++j)|_,_=>none)=_;cases f v<;>cases AL f vs<;>rfl
attribute [go_sem] ak1 asY ahm QM aaW aaX aaY W_ IW WG
theorem Own.cell{σ:Store}{d:Nat}{v:V}{xs:List Int}{ids:List Nat}(h:Own σ (d+1) v (LI xs) ids):vI v=true:=by
 rcases IV h with ⟨rfl,_⟩|⟨b,st,rfl,_⟩<;>rfl
theorem pW{v:V}(h:vI v=true):cellsOfV v=some [v]:=by cases v<;>simp_all [cellsOfV,vI]
end Go.TV
namespace Go.Proofs.YtjknobpihkmilaaGreat
open Go Go.TV
def BA:FuncId->Conv:=fun f=>if f∈([901656,901202,901679,900998,901199,112,151,16,32,33,64]:List Nat)then .own else if f∈([901334,901525,901247,901152,901441,24,54,92,93,55,901242,901551,901635,901929,901641,901558,901442,901352]:List Nat)then .inl else .KI
abbrev ayH:List Nat:=[901656,901202,901679,900998,901199,112,151,16,32,33,901334,901525,901247,901152,901441,24,54,92,93,55,901242,901551,901635,901929,901641,901558,901442,901352,902340,901886,902363,902342]
noncomputable def NV:Ext:=fun f=>if f=64 then some FT else if f∈ayH then none else some fun args σ nx=>ev ZM conv ext f args σ nx
theorem aoP:Iw ZM NV:=fun f g h args σ nx v σ' nx' E=>by
 unfold NV at h
 split at h
 .rename_i G
  subst G;cases h;exact pU args σ nx v σ' nx' E
 .split at h
  .cases h
  .cases h
   exact mg (by kernel_rfl) ag9 f args σ nx v σ' nx' E
theorem ak2:BA 901656= .own:=id rfl
theorem ak3:BA 901202= .own:=id rfl
theorem ak4:BA 901679= .own:=id rfl
theorem ak5:BA 900998= .own:=id rfl
theorem ak6:BA 901199= .own:=id rfl
theorem ak7:BA 112= .own:=id rfl
theorem ak8:BA 151= .own:=id rfl
theorem ak9:BA 16= .own:=id rfl
theorem ak_:BA 32= .own:=id rfl
theorem ak':BA 33= .own:=id rfl
theorem ahn:BA 901334= .inl:=id rfl
theorem ala:BA 901525= .inl:=id rfl
theorem alb:BA 901247= .inl:=id rfl
theorem alc:BA 901152= .inl:=id rfl
theorem ald:BA 901441= .inl:=id rfl
theorem ale:BA 24= .inl:=id rfl
theorem alf:BA 54= .inl:=id rfl
theorem alg:BA 92= .inl:=id rfl
theorem alh:BA 93= .inl:=id rfl
theorem ali:BA 55= .inl:=id rfl
theorem alj:BA 901242= .inl:=id rfl
theorem alk:BA 901551= .inl:=id rfl
theorem alm:BA 901635= .inl:=id rfl
theorem aln:BA 901929= .inl:=id rfl
theorem alo:BA 901641= .inl:=id rfl
theorem alp:BA 901558= .inl:=id rfl
theorem alq:BA 901442= .inl:=id rfl
theorem alr:BA 901352= .inl:=id rfl
theorem als:BA 64= .own:=id rfl
attribute [go_sem] ak2 ak3 ak4 ak5 ak6 ak7 ak8 als ahn ala alb ak9 ak_ ak' alc ald ale alf alg alh ali alj alk alm aln alo alp alq alr
theorem acp(f:V->Option (V×List Nat))(E:∀u,f (.sc u)=some (.sc u,[])):∀cells:List V,(∀v∈cells,∃u,v= .sc u)->EG f cells=some (cells,[])
 |[],_=>rfl
 |v :: vs,h=>by
  obtain⟨u,rfl⟩:=h v zO;unfold EG;rw[E,acp f E vs fun w hw=>h w (zY _ hw)];rfl
theorem aoQ(σ:Store)(d:Nat)(u:Value):own σ d (.sc u)=some (.sc u,[]):=by cases d<;>rfl
theorem aoR{σ:Store}{d b n s:Nat}{cells ts:List V}{ids:List Nat}(h:σ b=some ⟨cells,s,true⟩)(E:n*s=cells.length)(G:EG (own σ d) cells=some (ts,ids)):own σ (d+1) (.rs b 0 n)=some (.ts ts n,b :: ids):=by
 simp only[own,h];rw[sO ⟨trivial,trivial,E⟩,G]
theorem aho{α:Type}{σ:Store}{d b s:Nat}{c:α->List V}{xs:List α}(h:σ b=some ⟨xs.flatMap c,s,true⟩)(hc:∀x,(c x).length=s)(hs:∀x,∀v∈c x,∃u,v= .sc u):own σ (d+1) (.rs b 0 xs.length)=some (LL c xs,[b]) :=
 aoR h (bZ hc xs).symm (acp _ (aoQ σ d) _ fun v E=>by obtain⟨x,_,G⟩:=List.mem_flatMap.mp E;exact hs x v G)
theorem aeP:∀x:Member,∀v∈Ac x,∃u,v= .sc u:=by intro x v E;simp only[zX,zK,or_false]at E;rcases E with rfl|rfl|rfl<;>exact⟨_,rfl⟩
theorem as1(k:IntKind)(n:Int)(σ:Store):Bv ZM 3 5 (.sc (.int k n)) σ=some (.sc (.int .u8 (IntKind.u8.wrap n))):=JV u3 u8t
attribute [go_sem] as1
abbrev D8(b:Bool):List V:=[Bo b]
def F5(p:Nat->Bool)(n:Nat):List Int:=((List.range n).filter p).map fun(i:Nat)=>(i:Int)
theorem MF{p:Nat->Bool}{k:Nat}(h:p k=true):F5 p (k+1)=F5 p k++[(k:Int)]:=by simp[F5,wX,tH,h]
theorem TF{p:Nat->Bool}{k:Nat}(h:p k=false):F5 p (k+1)=F5 p k:=by simp[F5,wX,tH,h]
theorem IX(p:Nat->Bool)(n:Nat):(F5 p n).length<=n:=by
 unfold F5;rw[zT];exact zL (List.length_filter_le _ _) (by simp)
theorem aeQ{p q:Nat->Bool}{n:Nat}(h:∀i,i<n->p i=q i):F5 p n=F5 q n:=by
 unfold F5;congr 1;exact List.filter_congr fun i hi=>h i (by simpa using hi)
theorem Xa{T:Nat->V}{σ:Store}{nx t G:Nat}{acc:List Int}(h:Grow T σ nx t acc)(hb:∀b o l,T t= .rs b o l->G<=b):∃ids,Own σ 1 (T t) (LI acc) ids/\∀b∈ids,G<=b/\b<nx:=by
 rcases h with ⟨E,rfl⟩|⟨b,E,_,J,O⟩
 .rw[E];exact⟨[],iO _ _,by simp⟩
 .rw[E]
  exact⟨[b],iM J (by omega),fun c hc=>by have:=hb _ _ _ E;simp only[yD]at hc;omega⟩
def ahp:=bg (c:=D8) (s:=1) (fun _=>rfl) (by omega)
def Ht:=bZ (c:=D8) (s:=1) (fun _=>rfl)
theorem alu(E:List Bool)(hl:E.length<=1000)(nx:Nat):∃v a1 qI ids,ev ZM BA NV 33 [LL D8 E] pI nx=some (v,a1,qI)/\nx<=qI/\Own a1 1 v (LI (F5 (fun i=>E[i]?==some true) E.length)) ids/\∀b∈ids,nx<=b/\b<qI:=by
 rw[nC [.tmp 2] [] func33];simp only[go_sem];generalize hL:iI _ _=y;obtain⟨r,rfl,T',σ',nx',rfl,h1,h2,h3⟩:=oZ hL E.length (fun k s=>nx<=s.nx/\s.T 6=LL D8 E/\s.T 7=I E.length/\s.T 8=I k/\Grow s.T s.σ s.nx 3 (F5 (fun i=>E[i]?==some true) k)/\∀b o l,s.T 3= .rs b o l->nx<=b)
  (fun r=>∃T σ nx',r=(.exit 0,⟨T,σ,nx'⟩)/\nx<=nx'/\Grow T σ nx' 3 (F5 (fun i=>E[i]?==some true) E.length)/\∀b o l,T 3= .rs b o l->nx<=b) (by
   clear hL;rintro k ⟨T,σ,m⟩ G ⟨hn,O,J,S,Y,hb⟩;simp only at hn O J S Y hb;have f1:(k:Int)<(E.length:Int):=by omega
   have f2:=jF k;have f3:=ZU (n:=(k:Int)+1);have f4:(E.flatMap D8)[k]?=some (Bo E[k]):=cu (fun b=>Bo b) E k G;have f5:=Ht E;have f9:=ahp E k G;have hle:=IX (fun i=>E[i]?==some true) k;cases hp:E[k]with
   |true=>
    have hq:(fun i=>E[i]?==some true) k=true:=by simp[zy G,hp]
    obtain⟨σ',ha,hs⟩:=kW Y (k:Int) (by omega);refine .inl ⟨_,by simp only[go_sem,O,J,S,f1,f2,f3,f4,f5,f9,hp,G,ha];rfl,?_⟩;simp only[go_sem,O,J];rw[MF hq];refine⟨by omega,rfl,kS hs (by simp[go_sem]) (by simp),fun b o l h=>?_⟩;simp only[V.rs.injEq]at h;omega
   |false=>
    have hq:(fun i=>E[i]?==some true) k=false:=by simp[zy G,hp]
    refine .inl ⟨_,by simp only[go_sem,O,J,S,f1,f2,f3,f4,f5,f9,hp,G];rfl,?_⟩;simp only[go_sem,O,J];rw[TF hq];exact⟨hn,rfl,kU (by simp only[go_sem]) Y,hb⟩) (by
   clear hL;rintro ⟨T,σ,m⟩ ⟨hn,O,J,S,Y,hb⟩;simp only at hn O J S Y hb;exact⟨_,by simp only[go_sem,J,S,zi];rfl,by simp,_,_,_,rfl,hn,kU (by simp only[go_sem]) Y,by simpa only[go_sem]using hb⟩) (by
   simp only[go_sem];exact⟨.inl ⟨by simp only[go_sem],rfl⟩,by simp⟩)
 obtain⟨ids,ho,hi⟩:=Xa h2 h3;simp only[go_sem];exact⟨_,_,_,ids,rfl,h1,ho,hi⟩
def DT(ms:List TV.Move)(i:Int)(k:Nat):Bool:=ms.any fun m=>(m.fr==i) && (m.to==(k:Int))
def flags(ms:List TV.Move)(i:Int)(n:Nat):List Bool:=(List.range n).map (DT ms i)
theorem mQ(ms:List TV.Move)(i:Int)(n:Nat):(flags ms i n).length=n:=by simp[flags]
theorem aeR{ms:List TV.Move}{i:Int}{n:Nat}{m:TV.Move}(h:m.fr=i)(E:0<=m.to):flags (ms++[m]) i n=(flags ms i n).set m.to.toNat true:=by
 refine yQ (by simp[flags]) fun j G J=>?_
 rw[wW];simp only[flags,yC,wZ,DT,List.any_append,List.any_cons,List.any_nil,h,BEq.rfl,xY,Bool.or_false]
 split
 .rename_i e
  have:m.to=(j:Int):=by omega
  simp[this]
 .rename_i e
  have:¬m.to=(j:Int):=by omega
  simp[this]
theorem ahq{ms:List TV.Move}{i:Int}{n:Nat}{m:TV.Move}(h:¬m.fr=i):flags (ms++[m]) i n=flags ms i n:=by
 refine yQ (by simp[flags]) fun j E G=>?_
 simp only[flags,yC,wZ,DT,List.any_append,List.any_cons,List.any_nil];have:(m.fr==i)=false:=by simpa using h
 simp[this]
theorem aeS(i:Int)(n:Nat):flags [] i n=List.replicate n false:=by
 refine yQ (by simp[flags]) fun j E G=>?_
 simp[flags,DT]
theorem QN(n:Nat):rep n [Bo false]=(List.replicate n false).flatMap D8:=by
 induction n with
 |zero=>rfl
 |succ n E=>rw[fP,E,xu];rfl
theorem acr(xs:List Bool)(k:Nat)(b:Bool):(xs.flatMap D8).set k (Bo b)=(xs.set k b).flatMap D8:=by
 induction xs generalizing k with
 |nil=>rfl
 |cons x xs E=>
  cases k with
  |zero=>rfl
  |succ k=>
   show Bo x :: (xs.flatMap D8).set k (Bo b)=_;rw[E];rfl
theorem aeT(y:BZ)(hg:AU y)(i:Int)(nx:Nat):∃v O qI ids,ev ZM BA NV 32 [.tp (Cj y) 0,I i] pI nx=some (v,O,qI)/\nx<=qI/\Own O 1 v (LI (F5 (DT y.moves i) y.aI.length)) ids/\∀b∈ids,nx<=b/\b<qI:=by
 obtain⟨h6,a8,_,hm⟩:=hg;have e1:1*(y.aI.length:Int)<=281474976710656:=by omega
 have e2:(y.aI.length:Int)<=9223372036854775807:=by omega
 have e3:(0:Int)<=(y.aI.length:Int):=by omega
 rw[nC [.tmp 4] [] func32];simp only[go_sem,e1,e2,e3,xP];generalize hL:iI _ _=z;obtain⟨r,rfl,T',σ',nx',rfl,Y,h2,h3⟩:=oZ hL y.moves.length (fun k s=>nx+1<=s.nx/\s.T 1=I i/\s.T 5= .rs nx 0 y.aI.length/\s.T 17=LL Dp y.moves/\s.T 18=I y.moves.length/\s.T 19=I k/\s.σ nx=some ⟨(flags (y.moves.take k) i y.aI.length).flatMap D8,1,true⟩)
  (fun r=>∃T σ nx',r=(.exit 0,⟨T,σ,nx'⟩)/\nx+1<=nx'/\T 5= .rs nx 0 y.aI.length/\σ nx=some ⟨(flags y.moves i y.aI.length).flatMap D8,1,true⟩) (by
   clear hL;rintro k ⟨T,σ,m⟩ S ⟨hn,Y,h5,G,E,J,hs⟩;simp only at hn Y h5 G E J hs;have f1:(k:Int)<(y.moves.length:Int):=by omega
   have f2:=jF k;have f3:=ZU (n:=(k:Int)+1);have f4:=akQ y.moves k S;have f5:=ace y.moves;have f6:k*2+2<=y.moves.length*2:=by omega
   have f9:=acd y.moves k S;have nz:¬nx=m:=by omega
   have a6:¬m=nx:=by omega
   have ht:y.moves.take (k+1)=y.moves.take k++[y.moves[k]]:=by rw[yL,zy S];rfl
   obtain⟨_,_,m1,m2,_⟩:=(hm k S).1
   by_cases hp:y.moves[k].fr=i
   .have a1:(y.moves[k].fr==i)=true:=by simpa using hp
    have b1:y.moves[k].to<(y.aI.length:Int):=m2;have b2:y.moves[k].to.toNat<y.aI.length:=by omega
    have f7:((flags (y.moves.take k) i y.aI.length).flatMap D8).length=y.aI.length:=by rw[Ht,mQ,yN]
    have f8:=acr (flags (y.moves.take k) i y.aI.length) y.moves[k].to.toNat true;refine .inl ⟨_,by simp only[go_sem,Y,h5,G,E,J,hs,f1,f2,f3,f4,f5,f6,f7,f8,f9,a1,m1,b1,b2,nz,a6];rfl,?_⟩;simp only[go_sem,Y,h5,G,E];refine⟨by omega,?_⟩;rw[ht,aeR hp m1];exact⟨rfl,rfl⟩
   .have a1:(y.moves[k].fr==i)=false:=by simpa using hp
    refine .inl ⟨_,by simp only[go_sem,Y,h5,G,E,J,hs,f1,f2,f3,f4,f5,f6,f9,a1,nz,a6];rfl,?_⟩;simp only[go_sem,Y,h5,G,E,nz,hs];refine⟨by omega,?_⟩;rw[ht,ahq hp];exact⟨rfl,rfl⟩) (by
   clear hL;rintro ⟨T,σ,m⟩ ⟨hn,Y,h5,G,E,J,hs⟩;simp only at hn Y h5 G E J hs;rw[yT]at hs;exact⟨_,by simp only[go_sem,E,J,zi];rfl,by simp,_,_,_,rfl,hn,by simp only[go_sem,h5],hs⟩) (by
   simp only[go_sem];rw[aeS,<- QN])
 obtain⟨v,O,qI,ids,k1,b3,ho,hi⟩:=alu (flags y.moves i y.aI.length) (by rw[mQ];omega) nx';rw[mQ]at ho;have a7:ev ZM BA NV 33 [.ts ((flags y.moves i y.aI.length).flatMap D8) y.aI.length] pI nx'=some (v,O,qI):=by
  rw[<- k1];show _=ev _ _ _ _ [.ts _ (flags y.moves i y.aI.length).length] _ _;rw[mQ]
 have g0:((flags y.moves i y.aI.length).flatMap D8).length=y.aI.length:=by rw[Ht,mQ,yN]
 have g1:((flags y.moves i y.aI.length).flatMap D8).take y.aI.length=(flags y.moves i y.aI.length).flatMap D8:=zl (by omega);have g2:∀(σ:Store) (d:Nat),stripL (strip σ d) ((flags y.moves i y.aI.length).flatMap D8)=some ((flags y.moves i y.aI.length).flatMap D8,[]):=fun σ d=>aX (fun x=>by rw[au,aQ,aY];rfl) _
 have g3:=fun d=>ho.gather (d':=d+1) (by omega)
 simp only[go_sem,h2,h3,g0,g1,g2,g3,a7,zq];refine⟨v,_,qI,ids,rfl,by omega,?_,fun b hb=>⟨by have:=(hi b hb).1;omega,(hi b hb).2⟩⟩;have:F5 (fun j=>(flags y.moves i y.aI.length)[j]?==some true) y.aI.length=F5 (DT y.moves i) y.aI.length:=by
  refine aeQ fun j hj=>?_
  have:(flags y.moves i y.aI.length)[j]?=some (DT y.moves i j):=by simp[flags,hj]
  rw[this];cases DT y.moves i j<;>rfl
 rw[this]at ho;exact ho.join fun b hb=>(hi b hb).1
theorem IY{T:Nat->V}{σ:Store}{nx t:Nat}{acc:List Int}(J:Grow T σ nx t acc)(x:Int)(Y:acc.length<17592186044415) :
  ∃σ',Ah (upd σ nx (some ⟨[I x],1,true⟩)) (nx+1) 1 8 (T t) [I x] 1=some (.rs (nx+1) 0 (acc.length+1),σ',nx+1+1)/\σ' (nx+1)=some ⟨(acc++[x]).flatMap cI,1,true⟩/\∀c,c<nx->(∀b o l,T t= .rs b o l->¬c=b)->σ' c=σ c:=by
 have hm:acc.length+1<=maxLen:=by unfold maxLen;omega
 rcases J with ⟨E,rfl⟩|⟨b,E,O,hb,S⟩
 .refine⟨_,by rw[E,r_,sQ (by decide),sO (by decide)];rfl,?_,fun c hc _=>?_⟩
  .simp[Au,upd]
  .simp only[Au,upd]
   rw[sQ (by omega),sQ (by omega)]
 .refine⟨_,by rw[E,rE (B:=⟨acc.flatMap cI,1,true⟩) (by rw[Zm];exact hb) (qN acc) rfl (by decide) hm (by omega) rfl],?_,fun c hc G=>?_⟩
  .simp[upd]
  .have:=G _ _ _ E
   simp only[upd];rw[sQ (by omega),sQ (by omega),sQ (by omega)]
theorem aJ{α:Type}{xs:List α}{k:Nat}(h:k<xs.length):xs.take (k+1)=xs.take k++[xs[k]]:=by rw[yL,zy h];rfl
noncomputable def nextL(y:BZ)(i:Int):List Int:=if pb (AU y)=true/\0<=i/\i<(y.aI.length:Int)then F5 (DT y.moves i) y.aI.length else []
end Go.Proofs.YtjknobpihkmilaaGreat
namespace Go.Lp
def sm(f:Nat->Rat):Nat->Rat
 |0=>0
 |n+1=>sm f n+f n
theorem bU{f g:Nat->Rat}:∀ {n:Nat},(∀j,j<n->f j=g j)->sm f n=sm g n
 |0,_=>rfl
 |n+1,h=>by unfold sm;rw[bU fun j E=>h j (by omega),h n (by omega)]
theorem bY(f g:Nat->Rat):∀n,sm (fun j=>f j+g j) n=sm f n+sm g n
 |0=>by unfold sm;grind
 |n+1=>by unfold sm;rw[bY f g n];grind
theorem bM(f g:Nat->Rat):∀n,sm (fun j=>f j-g j) n=sm f n-sm g n
 |0=>by unfold sm;grind
 |n+1=>by unfold sm;rw[bM f g n];grind
theorem bT(a:Rat)(f:Nat->Rat):∀n,sm (fun j=>a*f j) n=a*sm f n
 |0=>by simp[sm]
 |n+1=>by unfold sm;rw[bT a f n];grind
theorem bK{f:Nat->Rat}:∀ {n:Nat},(∀j,j<n->f j=0)->sm f n=0
 |0,_=>rfl
 |n+1,h=>by unfold sm;rw[bK fun j E=>h j (by omega),h n (by omega)];grind
theorem bP{f:Nat->Rat}{k:Nat}:∀ {n:Nat},k<n->(∀j,j<n->j≠k->f j=0)->sm f n=f k
 |n+1,hk,h=>by
  unfold sm
  by_cases e:k=n
  .subst e
   rw[bK fun j E=>h j (by omega) (by omega)];grind
  .rw[bP (n:=n) (by omega) fun j E=>h j (by omega),h n (by omega) (by omega)];grind
theorem bQ{f:Nat->Rat}:∀ {n:Nat},(∀j,j<n->0<=f j)->0<=sm f n
 |0,_=>by simp[sm]
 |n+1,h=>by
  unfold sm;have E:=bQ (n:=n) fun j G=>h j (by omega)
  have J:=h n (by omega);grind
theorem acs(f:Nat->Nat->Rat)(n:Nat):∀m,sm (fun i=>sm (fun j=>f i j) n) m=sm (fun j=>sm (fun i=>f i j) m) n
 |0=>(bK (n:=n) fun j _=>rfl).symm
 |m+1=>by
  show sm _ m+_=_;rw[acs f n m,<- bY];rfl
structure Tab where
 e:Nat->Nat->Rat
 b:Nat->Rat
 B:Nat->Nat
def Sol(m n:Nat)(T:Tab)(x:Nat->Rat):Prop:=∀i,i<m->sm (fun j=>T.e i j*x j) n=T.b i
structure Ok (m n:Nat) (T:Tab):Prop where
 bn:∀i,i<m->T.B i<n
 un:∀i k,i<m->k<m->T.e i (T.B k)=if i=k then 1 else 0
 nb:∀i,i<m->0<=T.b i
def basic(m:Nat)(T:Tab)(j:Nat):Prop:=∃i,i<m/\T.B i=j
def piv(T:Tab)(r k:Nat):Tab where
 e i j:=if i=r then T.e r j / T.e r k else T.e i j-T.e i k*(T.e r j / T.e r k)
 b i:=if i=r then T.b r / T.e r k else T.b i-T.e i k*(T.b r / T.e r k)
 B i:=if i=r then k else T.B i
section
variable {m n:Nat} {T:Tab}
theorem Ok.inj(h:Ok m n T){i k:Nat}(hi:i<m)(G:k<m)(e:T.B i=T.B k):i=k:=by
 have E:=h.un i k hi G;have J:=h.un i i hi hi;rw[<- e,J]at E
 by_cases q:i=k
 .exact q
 .simp[q]at E
theorem TG{r k:Nat}(G:r<m)(O:T.e r k≠0)(x:Nat->Rat):Sol m n (piv T r k) x↔Sol m n T x:=by
 have row:sm (fun j=>T.e r j / T.e r k*x j) n=sm (fun j=>T.e r j*x j) n / T.e r k:=by
  rw[vJ,Rat.mul_comm,<- bT];exact bU fun j _=>by grind
 have other:∀i,i≠r->sm (fun j=>(piv T r k).e i j*x j) n=sm (fun j=>T.e i j*x j) n-T.e i k*sm (fun j=>T.e r j / T.e r k*x j) n:=fun i hi=>by
  rw[<- bT,<- bM];refine bU fun j _=>?_
  simp only[piv,sQ hi];grind
 constructor
 .intro h i hi
  have E:=h r G;simp only[piv,sO]at E;rw[row]at E
  by_cases e:i=r
  .subst e
   grind
  .have J:=h i hi
   rw[other i e,row,E]at J;simp only[piv,sQ e]at J;grind
 .intro h i hi
  have E:=h r G
  by_cases e:i=r
  .subst e
   simp only[piv,sO];rw[row,E]
  .rw[other i e,row,E,h i hi]
   simp only[piv,sQ e]
theorem aoS(h:Ok m n T){r s:Nat}(hr:r<m)(hs:s<n)(hp:0<T.e r s)(J:∀i,i<m->0<T.e i s->T.b r*T.e i s<=T.b i*T.e r s):Ok m n (piv T r s):=by
 have a1:T.e r s≠0:=by grind
 refine⟨fun i hi=>?_,fun i k hi hk=>?_,fun i hi=>?_⟩
 .simp only[piv]
  split
  .exact hs
  .exact h.bn i hi
 .have u1:=h.un i k hi hk
  have S:=h.un r k hr hk;simp only[piv]
  by_cases O:k=r
  .subst O
   rw[sO rfl]
   by_cases E:i=k
   .rw[sO E,sO E];grind
   .rw[sQ E,sQ E];grind
  .rw[sQ O]
   rw[sQ (yu O)]at S
   by_cases E:i=r
   .subst E
    rw[sO rfl,sQ (yu O),S];grind
   .rw[sQ E,u1,S];grind
 .simp only[piv]
  have b0:=h.nb r hr;have hq:0<=T.b r / T.e r s:=by
   rw[vJ];exact xR b0 (vg (Rat.inv_pos.mpr hp))
  by_cases E:i=r
  .rw[sO E];exact hq
  .rw[sQ E]
   have bi:=h.nb i hi
   by_cases G:0<T.e i s
   .have Y:=J i hi G
    have h2:T.e i s*(T.b r / T.e r s)*T.e r s=T.b r*T.e i s:=by grind
    have h3:T.e i s*(T.b r / T.e r s)<=T.b i:=Rat.le_of_mul_le_mul_right (by rw[h2];exact Y) hp;grind
   .have Y:T.e i s<=0:=Rat.not_lt.mp G
    have h2:T.e i s*(T.b r / T.e r s)<=0:=by
     have:=Rat.mul_le_mul_of_nonneg_right Y hq
     rwa [Rat.zero_mul]at this
    grind
def BH(m:Nat)(T:Tab)(j:Nat):Rat:=sm (fun i=>if T.B i=j then T.b i else 0) m
theorem IZ(h:Ok m n T){i:Nat}(hi:i<m):BH m T (T.B i)=T.b i:=by
 unfold BH;rw[bP hi fun k G E=>sQ fun e=>E (h.inj G hi e)];simp
theorem qm{j:Nat}(h:¬basic m T j):BH m T j=0:=bK fun i hi=>sQ fun e=>h ⟨i,hi,e⟩
theorem ql(h:Ok m n T)(j:Nat):0<=BH m T j:=bQ fun i hi=>by
 split
 .exact h.nb i hi
 .exact uU
theorem La(h:Ok m n T){i:Nat}(hi:i<m)(x:Nat->Rat):sm (fun j=>T.e i j*x j) n=x (T.B i)+sm (fun j=>if sm (fun k=>if T.B k=j then(1:Rat)else 0) m=0 then T.e i j*x j else 0) n:=by
 have hb:∀j,basic m T j->sm (fun k=>if T.B k=j then(1:Rat)else 0) m=1:=by
  rintro j ⟨k,G,rfl⟩;rw[bP G fun q S J=>sQ fun e=>J (h.inj S G e)];simp
 have Y:sm (fun j=>T.e i j*x j) n=sm (fun j=>if j=T.B i then x j else 0) n+sm (fun j=>if sm (fun k=>if T.B k=j then(1:Rat)else 0) m=0 then T.e i j*x j else 0) n:=by
  rw[<- bY];refine bU fun j hj=>?_
  by_cases E:basic m T j
  .have O:¬((1:Rat)=0):=by decide
   rw[hb j E,sQ O];obtain⟨k,G,rfl⟩:=E;have u:=h.un i k hi G
   by_cases e:i=k
   .subst e;rw[sO rfl]at u;rw[sO rfl,u];grind
   .rw[sQ e]at u
    rw[sQ fun q=>e (h.inj G hi q).symm,u];grind
  .rw[bK fun k G=>sQ fun e=>E ⟨k,G,e⟩,sO rfl,sQ fun e=>E ⟨i,hi,e.symm⟩];grind
 rw[Y,bP (h.bn i hi) fun j _ J=>sQ J];simp
theorem qj(h:Ok m n T):Sol m n T (BH m T):=fun i hi=>by
 rw[La h hi,IZ h hi,bK fun j S=>?_]
 .grind
 .split
  .rename_i G
   rw[qm,u_];rintro ⟨k,J,rfl⟩;rw[bP J fun q O E=>sQ fun e=>E (h.inj O J e)]at G;simp at G
  .rfl
theorem aaZ(h:Ok m n T){x:Nat->Rat}(Y:Sol m n T x)(O:∀j,j<n->¬basic m T j->x j=0):∀j,j<n->x j=BH m T j:=fun j hj=>by
 by_cases hb:basic m T j
 .obtain⟨i,hi,rfl⟩:=hb
  have h1:=Y i hi;rw[La h hi,bK fun q G=>?_]at h1
  .rw[IZ h hi];grind
  .split
   .rename_i E
    rw[O q G,u_];rintro ⟨k,S,rfl⟩;rw[bP S fun q G J=>sQ fun e=>J (h.inj G S e)]at E;simp at E
   .rfl
 .rw[qm hb];exact O j hj hb
def gm(m:Nat)(T:Tab)(c:Nat->Rat)(j:Nat):Rat:=c j-sm (fun i=>T.e i j*c (T.B i)) m
def ob(n:Nat)(c x:Nat->Rat):Rat:=sm (fun j=>c j*x j) n
def zz(m:Nat)(T:Tab)(c:Nat->Rat):Rat:=sm (fun i=>T.b i*c (T.B i)) m
theorem j_{c x:Nat->Rat}(E:Sol m n T x):ob n c x=zz m T c+ob n (gm m T c) x:=by
 have G:ob n (gm m T c) x=ob n c x-sm (fun j=>sm (fun i=>T.e i j*c (T.B i)) m*x j) n:=by
  unfold ob;rw[<- bM];exact bU fun j _=>by unfold gm;grind
 have J:sm (fun j=>sm (fun i=>T.e i j*c (T.B i)) m*x j) n=zz m T c:=by
  have:sm (fun j=>sm (fun i=>T.e i j*c (T.B i)) m*x j) n=sm (fun j=>sm (fun i=>(T.e i j*x j)*c (T.B i)) m) n:=bU fun j _=>by
   rw[Rat.mul_comm,<- bT];exact bU fun i _=>by grind
  rw[this,<- acs];unfold zz;refine bU fun i hi=>?_
  rw[<- E i hi,Rat.mul_comm,<- bT];exact bU fun j _=>by grind
 rw[G,J];grind
theorem PZ(h:Ok m n T)(c:Nat->Rat){k:Nat}(E:k<m):gm m T c (T.B k)=0:=by
 unfold gm;rw[bP E fun i hi G=>by rw[h.un i k hi E,sQ G];grind];rw[h.un k k E E,sO rfl];grind
theorem Xb(h:Ok m n T)(c:Nat->Rat):ob n c (BH m T)=zz m T c:=by
 rw[j_ (qj h)];have:ob n (gm m T c) (BH m T)=0:=bK fun j _=>by
  by_cases hb:basic m T j
  .obtain⟨i,hi,rfl⟩:=hb
   rw[PZ h c hi,Rat.zero_mul]
  .rw[qm hb,u_]
 rw[this];grind
end
end Go.Lp
namespace Go.Lp
def Zr(d:Nat)(w:Nat->Rat):Prop:=∀q,q<d->w q=0
def Lp:Nat->(Nat->Rat)->Prop
 |0,_=>False
 |d+1,w=>Lp d w\/(Zr d w/\0<w d)
def Nn(d:Nat)(w:Nat->Rat):Prop:=Lp d w\/Zr d w
theorem Zr.succ{d:Nat}{w:Nat->Rat}:Zr (d+1) w↔Zr d w/\w d=0 :=
 ⟨fun h=>⟨fun q G=>h q (by omega),h d (by omega)⟩,fun h q G=>by
  rcases xJ (xA G)with E|E
  .exact h.1 q E
  .rw[E];exact h.2⟩
theorem Lp.GY{w:Nat->Rat}:∀ {d:Nat},Lp d w->¬Zr d w
 |0,h,_=>h
 |d+1,h,E=>by
  have E:=Zr.succ.mp E;rcases h with h|⟨_,h⟩
  .exact h.GY E.1
  .have:=E.2;grind
theorem acv(w:Nat->Rat):∀d,Lp d w\/Zr d w\/Lp d (fun q=> -w q)
 |0=> .inr (.inl fun q E=>by omega)
 |d+1=>by
  rcases acv w d with h|h|h
  .exact .inl (.inl h)
  .by_cases G:w d=0
   .exact .inr (.inl (Zr.succ.mpr ⟨h,G⟩))
   .by_cases hp:0<w d
    .exact .inl (.inr ⟨h,hp⟩)
    .exact .inr (.inr (.inr ⟨fun q E=>by show -w q=0;rw[h q E];rfl,by show 0< -w d;grind⟩))
  .exact .inr (.inr (.inl h))
theorem Lp.congr{w v:Nat->Rat}:∀ {d:Nat},(∀q,q<d->w q=v q)->Lp d w->Lp d v
 |0,_,h=>h
 |d+1,e,h=>by
  rcases h with h|⟨G,J⟩
  .exact .inl (Lp.congr (fun q E=>e q (by omega)) h)
  .exact .inr ⟨fun q E=>by rw[<- e q (by omega)];exact G q E,by rw[<- e d (by omega)];exact J⟩
theorem Zr.congr{d:Nat}{w v:Nat->Rat}(e:∀q,q<d->w q=v q)(h:Zr d w):Zr d v:=fun q E=>by rw[<- e q E];exact h q E
theorem Zr.add{d:Nat}{w v:Nat->Rat}(h:Zr d w)(G:Zr d v):Zr d fun q=>w q+v q:=fun q E=>by
 show w q+v q=0;rw[h q E,G q E];grind
theorem Lp.J8{w v:Nat->Rat}:∀ {d:Nat},Lp d w->Zr d v->Lp d fun q=>w q+v q
 |d+1,h,E=>by
  have E:=Zr.succ.mp E;rcases h with h|⟨G,J⟩
  .exact .inl (h.J8 E.1)
  .exact .inr ⟨G.add E.1,by show 0<w d+v d;rw[E.2];grind⟩
theorem Lp.add{w v:Nat->Rat}:∀ {d:Nat},Lp d w->Lp d v->Lp d fun q=>w q+v q
 |d+1,h,G=>by
  rcases h with h|⟨J,S⟩<;>rcases G with G|⟨E,O⟩
  .exact .inl (h.add G)
  .exact .inl (h.J8 E)
  .exact .inl ((G.J8 J).congr fun q _=>by grind)
  .exact .inr ⟨J.add E,by show 0<w d+v d;grind⟩
theorem Nn.add{d:Nat}{w v:Nat->Rat}(h:Nn d w)(E:Nn d v):Nn d fun q=>w q+v q:=by
 rcases h with h|h<;>rcases E with E|E
 .exact .inl (h.add E)
 .exact .inl (h.J8 E)
 .exact .inl ((E.J8 h).congr fun q _=>by grind)
 .exact .inr (h.add E)
theorem Lp.ahr{d:Nat}{w v:Nat->Rat}(h:Lp d w)(E:Nn d v):Lp d fun q=>w q+v q:=by
 rcases E with E|E
 .exact h.add E
 .exact h.J8 E
theorem Lp.smul{w:Nat->Rat}{a:Rat}(ha:0<a):∀ {d:Nat},Lp d w->Lp d fun q=>a*w q
 |d+1,h=>by
  rcases h with h|⟨E,G⟩
  .exact .inl (h.smul ha)
  .exact .inr ⟨fun q J=>by show a*w q=0;rw[E q J];grind,Rat.mul_pos ha G⟩
theorem Zr.smul{d:Nat}{w:Nat->Rat}(a:Rat)(h:Zr d w):Zr d fun q=>a*w q:=fun q E=>by show a*w q=0;rw[h q E];grind
theorem Nn.smul{d:Nat}{w:Nat->Rat}{a:Rat}(ha:0<=a)(h:Nn d w):Nn d fun q=>a*w q:=by
 by_cases E:a=0
 .subst E;exact .inr fun q _=>by show 0*w q=0;grind
 .rcases h with h|h
  .exact .inl (h.smul (by grind))
  .exact .inr (h.smul a)
theorem QO{d:Nat}{w:Nat->Rat}(h:¬Lp d w):Nn d fun q=> -w q:=by
 rcases acv w d with E|E|E
 .exact absurd E h
 .exact .inr fun q G=>by show -w q=0;rw[E q G];rfl
 .exact .inl E
theorem J9{d:Nat}{w:Nat->Rat}(h:Nn d fun q=> -w q):¬Lp d w:=fun hp=>by
 have E:=hp.ahr h;exact E.GY fun q _=>by show w q+ -w q=0;grind
theorem Nn.sum{d:Nat}{f:Nat->Nat->Rat}:∀ {n:Nat},(∀j,j<n->Nn d fun q=>f q j)->Nn d fun q=>sm (f q) n
 |0,_=> .inr fun q _=>rfl
 |n+1,h=>(Nn.sum fun j E=>h j (by omega)).add (h n (by omega))
theorem aoT{d n:Nat}{f:Nat->Nat->Rat}(h:Lp d fun q=>sm (f q) n):∃j,j<n/\Lp d fun q=>f q j:=by
 refine zf fun hn=>J9 ?_ h
 have E:Nn d fun q=>sm (fun j=> -f q j) n:=Nn.sum fun j G=>QO fun hp=>hn ⟨j,G,hp⟩
 refine E.imp (Lp.congr fun q _=>?_) (Zr.congr fun q _=>?_)
 all_goals
  show sm (fun j=> -f q j) n= -sm (f q) n;have:=bT (-1) (f q) n;rw[show(fun j=> -f q j)=fun j=> -1*f q j by funext j;grind,this];grind
def gv(m:Nat)(T:Tab)(C:Nat->Nat->Rat)(j:Nat):Nat->Rat:=fun q=>gm m T (C q) j
structure Enters (m n d:Nat) (C:Nat->Nat->Rat) (Fr:Nat->Prop) (T:Tab) (s:Nat):Prop where
 lt:s<n
 fr:Fr s
 non:¬basic m T s
 pos:Lp d (gv m T C s)
 low:∀j,j<s->Fr j->¬basic m T j->¬Lp d (gv m T C j)
structure Leaves (m:Nat) (T:Tab) (s r:Nat):Prop where
 lt:r<m
 pos:0<T.e r s
 low:∀i,i<m->0<T.e i s->T.b r*T.e i s<=T.b i*T.e r s
 tie:∀i,i<m->0<T.e i s->T.b r*T.e i s=T.b i*T.e r s->T.B r<=T.B i
def Step(m n d:Nat)(C:Nat->Nat->Rat)(Fr:Nat->Prop)(T T':Tab):Prop:=∃s r,Enters m n d C Fr T s/\Leaves m T s r/\T'=piv T r s
section
variable {m n d:Nat} {C:Nat->Nat->Rat} {Fr:Nat->Prop}
theorem QS{T:Tab}(h:Ok m n T){r s:Nat}(S:r<m)(hs:s<n)(E:Ok m n (piv T r s))(hp:0<T.e r s)(c:Nat->Rat):zz m (piv T r s) c=zz m T c+T.b r / T.e r s*gm m T c s:=by
 have O:T.e r s≠0:=by grind
 rw[<- Xb E c,j_ ((TG S O _).mp (qj E))];congr 1;have Y:(piv T r s).B r=s:=by simp[piv]
 have hb:BH m (piv T r s) s=T.b r / T.e r s:=by
  have:=IZ E S;rw[Y]at this;rw[this];simp[piv]
 unfold ob;rw[bP hs fun j hj G=>?_,hb,Rat.mul_comm]
 by_cases J:basic m T j
 .obtain⟨i,hi,rfl⟩:=J
  rw[PZ h c hi,Rat.zero_mul]
 .rw[qm,u_]
  rintro ⟨i,hi,e⟩;simp only[piv]at e
  split at e
  .exact G e.symm
  .exact J ⟨i,hi,e⟩
theorem qh{T:Tab}{r s:Nat}(G:r<m)(j:Nat):basic m (piv T r s) j↔j=s\/∃i,i<m/\i≠r/\T.B i=j:=by
 constructor
 .rintro ⟨i,hi,e⟩
  simp only[piv]at e
  split at e
  .exact .inl e.symm
  .rename_i E;exact .inr ⟨i,hi,E,e⟩
 .rintro (rfl|⟨i,hi,E,e⟩)
  .exact⟨r,G,by simp[piv]⟩
  .exact⟨i,hi,by simp[piv,E,e]⟩
theorem ahs{T:Tab}(h:Ok m n T){r s:Nat}(O:r<m)(E:T.b r=0)(j:Nat):BH m (piv T r s) j=BH m T j:=by
 unfold BH;refine bU fun i hi=>?_
 by_cases e:i=r
 .subst e
  have G:(piv T i s).b i=0:=by
   simp only[piv,if_true,E];rw[vJ];grind
  rw[G,E];simp
 .have G:(piv T r s).b i=T.b i:=by
   simp only[piv,sQ e,E];rw[vJ];grind
  have J:(piv T r s).B i=T.B i:=by simp only[piv,sQ e]
  rw[G,J]
def dir(m:Nat)(T:Tab)(s:Nat)(j:Nat):Rat:=(if j=s then 1 else 0) - sm (fun i=>if T.B i=j then T.e i s else 0) m
theorem NW{T:Tab}{s:Nat}(hs:¬basic m T s):dir m T s s=1:=by
 unfold dir;rw[sO rfl,bK fun i hi=>sQ fun e=>hs ⟨i,hi,e⟩];grind
theorem Xc{T:Tab}(h:Ok m n T){s:Nat}(hs:¬basic m T s){i:Nat}(hi:i<m):dir m T s (T.B i)= -T.e i s:=by
 unfold dir;rw[sQ fun e=>hs ⟨i,hi,e⟩,bP hi fun k G E=>sQ fun e=>E (h.inj G hi e),sO rfl];grind
theorem oH{T:Tab}{s j:Nat}(G:¬basic m T j)(E:j≠s):dir m T s j=0:=by
 unfold dir;rw[sQ E,bK fun i hi=>sQ fun e=>G ⟨i,hi,e⟩];grind
theorem I4{T:Tab}(h:Ok m n T){s:Nat}(hs:s<n)(G:¬basic m T s)(a:Rat):Sol m n T fun j=>BH m T j+a*dir m T s j:=fun i hi=>by
 have O:sm (fun j=>T.e i j*(BH m T j+a*dir m T s j)) n=sm (fun j=>T.e i j*BH m T j) n+a*sm (fun j=>T.e i j*dir m T s j) n:=by
  rw[<- bT,<- bY];exact bU fun j _=>by grind
 have S:sm (fun j=>T.e i j*dir m T s j) n=0:=by
  have q:sm (fun j=>T.e i j*dir m T s j) n=sm (fun j=>if j=s then T.e i j else 0) n-sm (fun j=>if j=T.B i then T.e i s else 0) n:=by
   rw[<- bM];refine bU fun j Y=>?_
   by_cases hb:basic m T j
   .obtain⟨k,J,rfl⟩:=hb
    rw[Xc h G J,h.un i k hi J,sQ fun e=>G ⟨k,J,e⟩]
    by_cases e:i=k
    .subst e;rw[sO rfl,sO rfl];grind
    .rw[sQ e,sQ fun q=>e (h.inj J hi q).symm];grind
   .have E:¬j=T.B i:=fun e=>hb ⟨i,hi,e.symm⟩
    by_cases e:j=s
    .subst e;rw[NW hb,sO rfl,sQ E];grind
    .rw[oH hb e,sQ e,sQ E];grind
  rw[q,bP hs fun j _ E=>sQ E,bP (h.bn i hi) fun j _ E=>sQ E];simp only[if_true];grind
 rw[O,qj h i hi,S];grind
end
end Go.Lp
namespace Go.Lp
section
variable {m n d:Nat} {C:Nat->Nat->Rat} {Fr:Nat->Prop}
theorem Step.ok{T T':Tab}(h:Ok m n T)(hs:Step m n d C Fr T T'):Ok m n T':=by
 obtain⟨s,r,G,E,rfl⟩:=hs;exact aoS h E.lt G.lt E.pos fun i hi hp=>E.low i hi hp
structure Chain (m n d:Nat) (C:Nat->Nat->Rat) (Fr:Nat->Prop) (f:Nat->Tab) (s r:Nat->Nat) (a b:Nat):Prop where
 ok:∀i,a<=i->i<=b->Ok m n (f i)
 en:∀i,a<=i->i<b->Enters m n d C Fr (f i) (s i)
 lv:∀i,a<=i->i<b->Leaves m (f i) (s i) (r i)
 nx:∀i,a<=i->i<b->f (i+1)=piv (f i) (r i) (s i)
variable {f:Nat->Tab} {s r:Nat->Nat} {a b:Nat}
def zv(m:Nat)(T:Tab)(C:Nat->Nat->Rat):Nat->Rat:=fun q=>zz m T (C q)
theorem Chain.mono(h:Chain m n d C Fr f s r a b){i j:Nat}(ha:a<=i)(J:i<=j)(hb:j<=b):Nn d fun q=>zv m (f j) C q-zv m (f i) C q:=by
 induction j with
 |zero=>obtain rfl:i=0:=by omega
        exact .inr fun q _=>by show _ - _=_;grind
 |succ j O=>
  by_cases e:i=j+1
  .subst e;exact .inr fun q _=>by show _ - _=_;grind
  .have S:=O (by omega) (by omega)
   have E:=h.ok j (by omega) (by omega);have G:=h.ok (j+1) (by omega) (by omega);have en:=h.en j (by omega) (by omega);have lv:=h.lv j (by omega) (by omega);rw[h.nx j (by omega) (by omega)]at G⊢;have Y:0<=(f j).b (r j) / (f j).e (r j) (s j):=by
    rw[vJ];exact xR (E.nb _ lv.lt) (vg (Rat.inv_pos.mpr lv.pos))
   have h2:=Nn.smul (d:=d) (w:=gv m (f j) C (s j)) Y (.inl en.pos);have h3:=S.add h2;refine h3.imp (Lp.congr fun q _=>?_) (Zr.congr fun q _=>?_)
   all_goals
    have:=QS E lv.lt en.lt G lv.pos (C q);unfold zv gv;rw[this];grind
theorem Chain.flat(h:Chain m n d C Fr f s r a b)(O:Zr d fun q=>zv m (f b) C q-zv m (f a) C q){i:Nat}(ha:a<=i)(hb:i<b):(f i).b (r i)=0:=by
 have E:=h.ok i ha (by omega);have G:=h.ok (i+1) (by omega) (by omega);have en:=h.en i ha hb;have lv:=h.lv i ha hb;refine zf fun h0=>?_
 have J:0<(f i).b (r i) / (f i).e (r i) (s i):=by
  rw[vJ];have:=E.nb _ lv.lt;exact Rat.mul_pos (by grind) (Rat.inv_pos.mpr lv.pos)
 have S:=h.mono (zq a) ha (by omega);have Y:=h.mono (i:=i+1) (j:=b) (by omega) (by omega) (zq _);have h3:=(Lp.smul (d:=d) (w:=gv m (f i) C (s i)) J en.pos).ahr (S.add Y);refine h3.GY (O.congr fun q _=>?_);rw[h.nx i ha hb]at G⊢;have:=QS E lv.lt en.lt G lv.pos (C q);unfold zv gv at *;rw[this];grind
theorem Chain.still(h:Chain m n d C Fr f s r a b)(E:Zr d fun q=>zv m (f b) C q-zv m (f a) C q){i:Nat}(ha:a<=i)(hb:i<=b)(j:Nat):BH m (f i) j=BH m (f a) j:=by
 induction i with
 |zero=>obtain rfl:a=0:=by omega
        rfl
 |succ i G=>
  by_cases e:a=i+1
  .rw[e]
  .rw[h.nx i (by omega) (by omega),ahs (h.ok i (by omega) (by omega)) (h.lv i (by omega) (by omega)).lt (h.flat E (by omega) (by omega))]
   exact G (by omega) (by omega)
theorem Chain.Xd(h:Chain m n d C Fr f s r a b){j:Nat}(E:∀i,a<=i->i<b->s i≠j){i k:Nat}(ha:a<=i)(O:i<=k)(hb:k<=b)(J:¬basic m (f i) j):¬basic m (f k) j:=by
 induction k with
 |zero=>obtain rfl:i=0:=by omega
        exact J
 |succ k S=>
  by_cases e:i=k+1
  .rw[<- e];exact J
  .have Y:=S (by omega) (by omega)
   rw[h.nx k (by omega) (by omega),qh (h.lv k (by omega) (by omega)).lt];rintro (G|⟨q,hq,_,G⟩)
   .exact E k (by omega) (by omega) G.symm
   .exact Y ⟨q,hq,G⟩
theorem Chain.NY(h:Chain m n d C Fr f s r a b){j:Nat}(E:∀i,a<=i->i<b->(f i).B (r i)≠j){i k:Nat}(ha:a<=i)(O:i<=k)(hb:k<=b)(J:basic m (f i) j):basic m (f k) j:=by
 induction k with
 |zero=>obtain rfl:i=0:=by omega
        exact J
 |succ k S=>
  by_cases e:i=k+1
  .rw[<- e];exact J
  .have Y:=S (by omega) (by omega)
   rw[h.nx k (by omega) (by omega),qh (h.lv k (by omega) (by omega)).lt];obtain⟨q,hq,G⟩:=Y;refine .inr ⟨q,hq,fun e=>?_,G⟩;rw[e]at G;exact E k (by omega) (by omega) G
theorem greatest{p:Nat->Prop}{N:Nat}(G:∀j,p j->j<N){j:Nat}(J:p j):∃t,p t/\∀k,p k->k<=t:=by
 induction N generalizing j with
 |zero=>exact absurd (G j J) (by omega)
 |succ N O=>
  by_cases h:p N
  .exact⟨N,h,fun k E=>by have:=G k E;omega⟩
  .exact O (fun k E=>by
    have:=G k E;have:k≠N:=fun e=>h (e ▸ E)
    omega) J
theorem J_(h:Chain m n d C Fr f s r a b){i k:Nat}(ha:a<=i)(E:i<=k)(hb:k<=b)(x:Nat->Rat):Sol m n (f k) x↔Sol m n (f i) x:=by
 induction k with
 |zero=>obtain rfl:i=0:=by omega
        exact Iff.rfl
 |succ k G=>
  by_cases e:i=k+1
  .rw[<- e]
  .have lv:=h.lv k (by omega) (by omega)
   have hp:=lv.pos;rw[h.nx k (by omega) (by omega),TG lv.lt (by grind)];exact G (by omega) (by omega)
theorem aht(h:Chain m n d C Fr f s r a b)(h6:a<b)(c0:∀j,j<n->(basic m (f a) j↔basic m (f b) j)):False:=by
 have a7:∀i,a<=i->i<=b->∀j,basic m (f i) j->j<n:=fun i ha hb j S=>by
  obtain⟨q,hq,rfl⟩:=S;exact(h.ok i ha hb).bn q hq
 have b5:∀j,(basic m (f a) j↔basic m (f b) j):=fun j=>
  ⟨fun S=>(c0 j (a7 a (zq _) (by omega) j S)).mp S,fun S=>(c0 j (a7 b (by omega) (zq _) j S)).mpr S⟩
 have c2:=h.ok a (zq _) (by omega);have c3:=h.ok b (by omega) (zq _);have b6:∀j,j<n->BH m (f b) j=BH m (f a) j:=aaZ c2 ((J_ h (zq _) (by omega) (zq _) _).mp (qj c3)) fun j _ S=>qm fun hb=>S ((b5 j).mpr hb)
 have hz:Zr d fun q=>zv m (f b) C q-zv m (f a) C q:=fun q _=>by
  show zz m (f b) (C q) - zz m (f a) (C q)=0;rw[<- Xb c3,<- Xb c2];have:ob n (C q) (BH m (f b))=ob n (C q) (BH m (f a)):=bU fun j S=>by rw[b6 j S]
  rw[this];grind
 obtain⟨t,⟨u,G,b7,c4⟩,b4⟩:=greatest (p:=fun j=>∃i,a<=i/\i<b/\s i=j) (N:=n) (fun j ⟨i,h1,h2,h3⟩=>h3 ▸ (h.en i h1 h2).lt) (j:=s a) ⟨a,zq _,h6,rfl⟩;have Y:=h.en u G b7;rw[c4]at Y;have h7:=h.ok u G (by omega);obtain⟨v,J,b8,a8⟩:∃v,a<=v/\v<b/\(f v).B (r v)=t:=by
  refine zf fun hn=>Y.non ?_
  have E:∀i,a<=i->i<b->(f i).B (r i)≠t:=fun i h1 h2 h3=>hn ⟨i,h1,h2,h3⟩
  have h1:basic m (f (u+1)) t:=by
   rw[h.nx u G b7,qh (h.lv u G b7).lt];exact .inl c4.symm
  have h2:=h.NY E (i:=u+1) (k:=b) (by omega) (by omega) (zq _) h1;exact h.NY E (zq a) G (by omega) ((b5 t).mpr h2)
 have env:=h.en v J b8;have a6:=h.lv v J b8;have a1:=h.ok v J (by omega);have h8:∀j,basic m (f v) j->¬basic m (f u) j->∃i,a<=i/\i<b/\s i=j:=fun j hv hu=>by
  refine zf fun hn=>?_
  have E:∀i,a<=i->i<b->s i≠j:=fun i h1 h2 h3=>hn ⟨i,h1,h2,h3⟩
  have h1:=h.Xd E G (by omega) (zq b) hu;have h2:=h.Xd E (zq a) J (by omega) fun hb=>h1 ((b5 j).mp hb)
  exact h2 hv
 have zero:∀ {i:Nat},i<m->¬basic m (f u) ((f v).B i)->(f v).b i=0:=fun {i} hi hu=>by
  rw[<- IZ a1 hi,h.still hz J (by omega),<- h.still hz G (by omega)];exact qm hu
 have c5:=I4 a1 env.lt env.non 1;have c6:=qj a1;have c7:∀x,Sol m n (f v) x->Sol m n (f u) x:=fun x hx=>by
  rcases Nat.le_total u v with b9|b9
  .exact(J_ h G b9 (by omega) x).mp hx
  .exact(J_ h J b9 (by omega) x).mpr hx
 have key:∀q,gm m (f v) (C q) (s v)=sm (fun j=>gm m (f u) (C q) j*dir m (f v) (s v) j) n:=fun q=>by
  have h9:∀T,ob n (gm m T (C q)) (fun j=>BH m (f v) j+1*dir m (f v) (s v) j)=ob n (gm m T (C q)) (BH m (f v))+ob n (gm m T (C q)) (dir m (f v) (s v)):=fun T=>by
   unfold ob;rw[<- bY];exact bU fun j _=>by grind
  have e1:=j_ (c:=C q) c5;have e2:=j_ (c:=C q) c6;have e3:=j_ (c:=C q) (c7 _ c5);have e4:=j_ (c:=C q) (c7 _ c6);rw[h9]at e1 e3;have e5:ob n (gm m (f v) (C q)) (dir m (f v) (s v))=gm m (f v) (C q) (s v):=by
   unfold ob;rw[bP env.lt fun j S E=>?_,NW env.non,Rat.mul_one]
   by_cases hb:basic m (f v) j
   .obtain⟨i,hi,rfl⟩:=hb
    rw[PZ a1 _ hi,Rat.zero_mul]
   .rw[oH hb E,u_]
  have e6:ob n (gm m (f u) (C q)) (dir m (f v) (s v))=sm (fun j=>gm m (f u) (C q) j*dir m (f v) (s v) j) n:=rfl;rw[<- e6,<- e5];grind
 have c8:Lp d fun q=>sm (fun j=>gm m (f u) (C q) j*dir m (f v) (s v) j) n:=env.pos.congr fun q _=>key q
 obtain⟨j,S,O⟩:=aoT c8;have c9:dir m (f v) (s v) j≠0:=fun e=>O.GY fun q _=>by show _*_=(0:Rat);rw[e,u_]
 have b3:¬basic m (f u) j:=by
  rintro ⟨i,hi,rfl⟩;exact O.GY fun q _=>by show _*_=(0:Rat);rw[PZ h7 _ hi,Rat.zero_mul]
 by_cases e0:basic m (f v) j
 .obtain⟨i,hi,rfl⟩:=e0
  rw[Xc a1 env.non hi]at O c9;obtain⟨w,e7,e8,e9⟩:=h8 _ ⟨i,hi,rfl⟩ b3;have hle:=b4 _ ⟨w,e7,e8,e9⟩
  by_cases h0:(f v).B i=t
  ·-- t itself
   have i0:i=r v:=a1.inj hi a6.lt (h0.trans a8.symm);subst i0;have hp:=a6.pos;refine J9 (w:=fun q=>gm m (f u) (C q) ((f v).B (r v))* -(f v).e (r v) (s v)) ?_ O;rw[h0]at *;have:=Nn.smul (d:=d) (vg hp) (.inl Y.pos);exact this.imp (Lp.congr fun q _=>by unfold gv;grind) (Zr.congr fun q _=>by unfold gv;grind)
  .have a7:(f v).B i<t:=by omega
   have i1:Fr ((f v).B i):=by have:=(h.en w e7 e8).fr;rwa [e9]at this
   have h4:=Y.low _ a7 i1 b3;have hp:0<(f v).e i (s v):=by
    refine zf fun hq=>h4 ?_
    have h5:0< -(f v).e i (s v):=by grind
    have:=Lp.smul (d:=d) (Rat.inv_pos.mpr h5) O;exact this.congr fun q _=>by unfold gv;grind
   have b1:=zero hi b3;have b2:=zero a6.lt (by rw[a8];exact Y.non);have:=a6.tie i hi hp (by rw[b1,b2];grind);rw[a8]at this;omega
 .have i2:j=s v:=zf fun E=>c9 (oH e0 E)
  subst i2;rw[NW env.non]at O;have hle:=b4 _ ⟨v,J,b8,rfl⟩;have E:s v≠t:=fun e=>env.non (by rw[e,<- a8];exact⟨r v,a6.lt,rfl⟩)
  exact Y.low _ (by omega) env.fr b3 (O.congr fun q _=>by unfold gv;grind)
end
end Go.Lp
namespace Go.Lp
def code(p:Nat->Bool):Nat->Nat
 |0=>0
 |n+1=>code p n+(if p n then 2^n else 0)
theorem MG(p:Nat->Bool):∀n,code p n<2^n
 |0=>by simp[code]
 |n+1=>by
  have:=MG p n;unfold code;rw[uq]
  split<;>omega
theorem code_inj{p q:Nat->Bool}:∀ {n:Nat},code p n=code q n->∀j,j<n->p j=q j
 |0,_,j,hj=>by omega
 |n+1,h,j,hj=>by
  have S:=MG p n;have Y:=MG q n;unfold code at h;have G:p n=q n:=by
   cases hp:p n<;>cases J:q n
   .rfl
   .simp only[hp,J,yE,if_false,if_true]at h;omega
   .simp only[hp,J,yE,if_false,if_true]at h;omega
   .rfl
  have O:code p n=code q n:=by rw[G]at h;omega
  rcases xJ (xA hj)with E|E
  .exact code_inj O j E
  .rw[E];exact G
theorem ahv:∀(N:Nat) (g:Nat->Nat),(∀i,i<=N->g i<N)->∃i j,i<j/\j<=N/\g i=g j
 |0,g,h=>absurd (h 0 (zq _)) (by omega)
 |N+1,g,h=>by
  by_cases hc:∃i,i<=N/\g i=g (N+1)
  .obtain⟨i,hi,e⟩:=hc
   exact⟨i,N+1,by omega,zq _,e⟩
  .have hl:=h (N+1) (zq _)
   have E:∀i,i<=N->g i≠g (N+1):=fun i hi e=>hc ⟨i,hi,e⟩
   obtain⟨i,j,G,O,e⟩:=ahv N (fun i=>if g i=N then g (N+1)else g i) (fun i hi=>by
    have S:=h i (by omega);have Y:=E i hi;show(if g i=N then g (N+1)else g i)<N
    split<;>omega)
   refine⟨i,j,G,by omega,?_⟩;have S:=E i (by omega);have Y:=E j O;have J:(if g i=N then g (N+1)else g i)=(if g j=N then g (N+1)else g j):=e
   split at J<;>split at J<;>omega
section
variable {m n d:Nat} {C:Nat->Nat->Rat} {Fr:Nat->Prop}
def aeV(m n d:Nat)(C:Nat->Nat->Rat)(Fr:Nat->Prop):Nat->Tab->Prop
 |0,_=>False
 |k+1,T=>∀T',Step m n d C Fr T T'->aeV m n d C Fr k T'
theorem Xe:∀ {k:Nat} {T:Tab},¬aeV m n d C Fr k T->∃f:Nat->Tab,f 0=T/\∀i,i<k->Step m n d C Fr (f i) (f (i+1))
 |0,T,_=>⟨fun _=>T,rfl,fun i h=>by omega⟩
 |k+1,T,h=>by
  unfold aeV at h;obtain⟨T',E⟩:=Classical.not_forall.mp h;obtain⟨G,J⟩:=Classical.not_imp.mp E;obtain⟨f,O,S⟩:=Xe J;refine⟨fun i=>if i=0 then T else f (i-1),rfl,fun i hi=>?_⟩;cases i with
  |zero=>simpa[O]using G
  |succ i=>simpa using S i (by omega)
theorem acw{T:Tab}(h:Ok m n T):aeV m n d C Fr (2^n) T:=by
 refine zf fun hn=>?_
 obtain⟨f,Y,hs⟩:=Xe hn;have J:∀i,i<=2^n->Ok m n (f i):=fun i=>by
  induction i with
  |zero=>intro _;rw[Y];exact h
  |succ i ih=>intro hi;exact(hs i (by omega)).ok (ih (by omega))
 have:∃E:Nat->Nat×Nat,∀i,i<2^n->Enters m n d C Fr (f i) (E i).1/\Leaves m (f i) (E i).1 (E i).2/\f (i+1)=piv (f i) (E i).2 (E i).1:=by
  refine⟨fun i=>if hi:i<2^n then ⟨(hs i hi).choose,(hs i hi).choose_spec.choose⟩else(0,0),fun i hi=>?_⟩;simp only[dif_pos hi];exact(hs i hi).choose_spec.choose_spec
 obtain⟨E,G⟩:=this;have dec:∀i,∃p:Nat->Bool,∀j,p j=true↔basic m (f i) j:=fun i=>by
  refine⟨fun j=>@decide (basic m (f i) j) (Classical.propDecidable _),fun j=>?_⟩;simp
 obtain⟨i,j,O,hj,e⟩:=ahv (2^n) (fun i=>code (dec i).choose n) (fun i _=>MG _ _);have hb:∀k,k<n->(basic m (f i) k↔basic m (f j) k):=fun k hk=>by
  rw[<- (dec i).choose_spec k,<- (dec j).choose_spec k,code_inj e k hk]
 exact aht (m:=m) (n:=n) (d:=d) (C:=C) (Fr:=Fr) (f:=f) (s:=fun i=>(E i).1) (r:=fun i=>(E i).2) (a:=i) (b:=j)
  ⟨fun k _ S=>J k (by omega),fun k _ S=>(G k (by omega)).1,fun k _ S=>(G k (by omega)).2.1,fun k _ S=>(G k (by omega)).2.2⟩ O hb
def ahw(m n:Nat)(T:Tab)(x:Nat->Rat):Prop:=Sol m n T x/\∀j,j<n->0<=x j
theorem ahx{T:Tab}(h:Ok m n T):ahw m n T (BH m T):=⟨qj h,fun j _=>ql h j⟩
theorem optimal{T:Tab}(Y:Ok m n T)(E:∀j,j<n->Fr j->¬basic m T j->¬Lp d (gv m T C j)){x:Nat->Rat}(O:ahw m n T x)(G:∀j,j<n->¬Fr j->¬basic m T j->x j=0) :
  Nn d fun q=>zz m T (C q) - ob n (C q) x:=by
 have h1:Nn d fun q=>sm (fun j=> -(gm m T (C q) j*x j)) n:=Nn.sum fun j J=>by
  by_cases hb:basic m T j
  .obtain⟨i,hi,rfl⟩:=hb
   exact .inr fun q _=>by show -(gm m T (C q) (T.B i)*x (T.B i))=0;rw[PZ Y _ hi];grind
  .by_cases S:Fr j
   .have:=Nn.smul (d:=d) (O.2 j J) (QO (E j J S hb))
    exact this.imp (Lp.congr fun q _=>by unfold gv;grind) (Zr.congr fun q _=>by unfold gv;grind)
   .exact .inr fun q _=>by show -(gm m T (C q) j*x j)=0;rw[G j J S hb];grind
 refine h1.imp (Lp.congr fun q _=>?_) (Zr.congr fun q _=>?_)
 all_goals
  have e1:=j_ (c:=C q) O.1;have e2:=bT (-1) (fun j=>gm m T (C q) j*x j) n;have e3:sm (fun j=> -(gm m T (C q) j*x j)) n=sm (fun j=> -1*(gm m T (C q) j*x j)) n:=bU fun j _=>by grind
  show sm (fun j=> -(gm m T (C q) j*x j)) n=_;rw[e3,e2,e1];unfold ob;grind
theorem unbounded{T:Tab}(h:Ok m n T){s:Nat}(hs:s<n)(E:¬basic m T s)(J:∀i,i<m->T.e i s<=0)(c:Nat->Rat)(a:Rat)(ha:0<=a) :
  ∃x,ahw m n T x/\ob n c x=zz m T c+a*gm m T c s:=by
 refine⟨fun j=>BH m T j+a*dir m T s j,⟨I4 h hs E a,fun j O=>?_⟩,?_⟩
 .show 0<=BH m T j+a*dir m T s j
  by_cases hb:basic m T j
  .obtain⟨i,hi,rfl⟩:=hb
   rw[Xc h E hi,IZ h hi];have S:=h.nb i hi;have Y:=xR ha (show 0<= -T.e i s by have:=J i hi;grind);grind
  .by_cases e:j=s
   .subst e;rw[NW E,qm hb];grind
   .rw[oH hb e,qm hb];grind
 .rw[j_ (I4 h hs E a)]
  congr 1;unfold ob;rw[bP hs fun j O G=>?_]
  .show gm m T c s*(BH m T s+a*dir m T s s)=_
   rw[NW E,qm E];grind
  .by_cases hb:basic m T j
   .obtain⟨i,hi,rfl⟩:=hb
    rw[PZ h _ hi,Rat.zero_mul]
   .show gm m T c j*(BH m T j+a*dir m T s j)=0
    rw[oH hb G,qm hb];grind
end
end Go.Lp
namespace Go.Lp
def sg(k:Nat):Rat:=if k%2=0 then 1 else -1
theorem alv(k:Nat):sg (k+1)= -sg k:=by
 unfold sg
 by_cases h:k%2=0
 .rw[sO h,sQ (by omega)]
 .rw[sQ h,sO (by omega)];rfl
def rem(i:Nat)(V:Nat->Nat->Rat):Nat->Nat->Rat:=fun p=>V (if p<i then p else p+1)
def put(V:Nat->Nat->Rat)(p:Nat)(u:Nat->Rat):Nat->Nat->Rat:=fun q=>if q=p then u else V q
def CX:Nat->(Nat->Nat->Rat)->Rat
 |0,_=>1
 |m+1,V=>sm (fun i=>sg (i+m)*V i m*CX m (rem i V)) (m+1)
theorem oV:∀ {m:Nat} {V W:Nat->Nat->Rat},(∀i k,i<m->k<m->V i k=W i k)->CX m V=CX m W
 |0,_,_,_=>rfl
 |m+1,V,W,h=>by
  unfold CX;refine bU fun i hi=>?_
  rw[h i m hi (by omega),oV (m:=m) (V:=rem i V) (W:=rem i W) fun p k hp E=>?_];unfold rem;exact h _ k (by split<;>omega) (by omega)
theorem fV(V:Nat->Nat->Rat)(p:Nat)(u:Nat->Rat):rem p (put V p u)=rem p V:=by
 funext q;unfold rem put;rw[sQ]
 split<;>omega
theorem fZ{V:Nat->Nat->Rat}{i p:Nat}(u:Nat->Rat)(h:i≠p):rem i (put V p u)=put (rem i V) (if p<i then p else p-1) u:=by
 funext q;unfold rem put
 by_cases e:(if q<i then q else q+1)=p
 .rw[sO e,sO]
  split at e<;>split<;>omega
 .have E:¬q=(if p<i then p else p-1):=by split at e<;>split<;>omega
  rw[sQ e,sQ E]
theorem MH:∀ {m:Nat} (V:Nat->Nat->Rat) {p:Nat} (_:p<m) (a b:Rat) (u w:Nat->Rat),CX m (put V p fun k=>a*u k+b*w k)=a*CX m (put V p u)+b*CX m (put V p w)
 |m+1,V,p,hp,a,b,u,w=>by
  unfold CX;rw[<- bT,<- bT,<- bY];refine bU fun i hi=>?_
  by_cases e:i=p
  .subst e
   rw[fV,fV,fV];simp only[put,if_true];grind
  .rw[fZ _ e,fZ _ e,fZ _ e,MH (m:=m) (rem i V) (by split<;>omega) a b u w]
   simp only[put,sQ e];grind
theorem gU(V:Nat->Nat->Rat)(p:Nat):put V p (V p)=V:=by
 funext q;unfold put
 split
 .rename_i h;rw[h]
 .rfl
theorem gW(V:Nat->Nat->Rat){p q:Nat}(h:p≠q)(u w:Nat->Rat):put (put V p u) q w=put (put V q w) p u:=by
 funext i;unfold put
 by_cases e:i=q
 .subst e;rw[sO rfl,sQ (yu h),sO rfl]
 .rw[sQ e,sQ e]
theorem TI(m:Nat)(V:Nat->Nat->Rat){p:Nat}(hp:p<m)(u w:Nat->Rat):CX m (put V p fun k=>u k+w k)=CX m (put V p u)+CX m (put V p w):=by
 have:=MH V hp 1 1 u w;rw[Rat.one_mul,Rat.one_mul]at this;rw[<- this];congr 2;funext k;grind
theorem MI:∀ {m:Nat} {V:Nat->Nat->Rat} {p:Nat},p+1<m->(∀k,k<m->V p k=V (p+1) k)->CX m V=0
 |m+1,V,p,hp,h=>by
  unfold CX;have other:∀i,i<m+1->i≠p->i≠p+1->sg (i+m)*V i m*CX m (rem i V)=0:=fun i hi J Y=>by
   have:CX m (rem i V)=0:=by
    by_cases a1:i<p
    .refine MI (p:=p-1) (by omega) fun k hk=>?_
     unfold rem;rw[sQ (by omega),sQ (by omega)];have:=h k (by omega);rw[show p-1+1=p by omega];exact this
    .refine MI (p:=p) (by omega) fun k hk=>?_
     unfold rem;rw[sO (by omega),sO (by omega)];exact h k (by omega)
   rw[this,u_]
  have G:∀(f:Nat->Rat) (n:Nat),p+1<n->(∀i,i<n->i≠p->i≠p+1->f i=0)->sm f n=f p+f (p+1):=by
   intro f n hn hz;have e:sm f n=sm (fun i=>if i=p then f i else 0) n+sm (fun i=>if i=p+1 then f i else 0) n:=by
    rw[<- bY];refine bU fun i hi=>?_
    by_cases O:i=p
    .rw[sO O,sQ (by omega)];grind
    .rw[sQ O]
     by_cases S:i=p+1
     .rw[sO S];grind
     .rw[sQ S,hz i hi O S];grind
   rw[e,bP (k:=p) (by omega) fun i _ E=>sQ E,bP (k:=p+1) hn fun i _ E=>sQ E,sO rfl,sO rfl]
  rw[G _ _ hp other];have hm:CX m (rem p V)=CX m (rem (p+1) V):=oV fun q k hq hk=>by
   unfold rem
   by_cases J:q<p
   .rw[sO J,sO (by omega)]
   .rw[sQ J]
    by_cases Y:q=p
    .subst Y;rw[sO (by omega)];exact(h k (by omega)).symm
    .rw[sQ (by omega)]
  rw[hm,h m (by omega),show p+1+m=p+m+1 by omega,alv];grind
theorem ahy{m:Nat}{V:Nat->Nat->Rat}{p:Nat}(hp:p+1<m)(u w:Nat->Rat):CX m (put (put V p u) (p+1) w)= -CX m (put (put V p w) (p+1) u):=by
 have E:p≠p+1:=by omega
 have z:∀x:Nat->Rat,CX m (put (put V p x) (p+1) x)=0:=fun x=>MI hp fun k _=>by
  unfold put;rw[sQ E,sO rfl,sO rfl]
 have h:=z fun k=>u k+w k
 rw[TI m _ hp,gW _ E,TI m _ (by omega),gW _ E,TI m _ (by omega),gW _ (yu E),gW _ (yu E),gW _ (yu E) ,gW _ (yu E)]at h;have:=z u;have:=z w;grind
theorem put_eq(V:Nat->Nat->Rat)(p q:Nat):put (put V p (V p)) q (V q)=V:=by rw[gU,gU]
theorem TJ{m:Nat}:∀(g:Nat) {V:Nat->Nat->Rat} {p:Nat},p+1+g<m->(∀k,k<m->V p k=V (p+1+g) k)->CX m V=0
 |0,V,p,hp,h=>MI hp h
 |g+1,V,p,hp,h=>by
  have e:=ahy (m:=m) (V:=V) (p:=p+1+g) (by omega) (V (p+1+g)) (V (p+1+g+1));rw[put_eq]at e;rw[e,TJ g (p:=p) (by omega) fun k E=>?_]
  .rfl
  .have G:p≠p+1+g+1:=by omega
   have J:p≠p+1+g:=by omega
   have O:p+1+g≠p+1+g+1:=by omega
   unfold put;rw[sQ G,sQ J,sQ O,sO rfl];exact h k E
theorem aoU{m:Nat}{V:Nat->Nat->Rat}{p q:Nat}(hp:p<m)(O:q<m)(E:p≠q)(h:∀k,k<m->V p k=V q k):CX m V=0:=by
 rcases Nat.lt_or_gt_of_ne E with G|G
 .exact TJ (q-p-1) (p:=p) (by omega) fun k J=>by rw[show p+1+(q-p-1)=q by omega];exact h k J
 .exact TJ (p-q-1) (p:=q) (by omega) fun k J=>by rw[show q+1+(p-q-1)=p by omega];exact(h k J).symm
theorem acy{m:Nat}(V:Nat->Nat->Rat){p:Nat}(hp:p<m)(c:Nat->Rat)(W:Nat->Nat->Rat):∀n,CX m (put V p fun k=>sm (fun j=>c j*W j k) n)=sm (fun j=>c j*CX m (put V p (W j))) n
 |0=>by
  have h:=MH V hp 0 0 (fun _=>0) (fun _=>0);have e:(fun k:Nat=>(0:Rat)*(fun _:Nat=>(0:Rat)) k+0*(fun _:Nat=>(0:Rat)) k)=fun k=>sm (fun j=>c j*W j k) 0:=by funext k;unfold sm;grind
  rw[e]at h;rw[h];unfold sm;grind
 |n+1=>by
  have h:=MH V hp 1 (c n) (fun k=>sm (fun j=>c j*W j k) n) (W n);have e:(fun k:Nat=>(1:Rat)*(fun k=>sm (fun j=>c j*W j k) n) k+c n*W n k)=fun k=>sm (fun j=>c j*W j k) (n+1):=by funext k;show 1*sm _ n+_=sm _ n+_;grind
  rw[e,acy V hp c W n]at h;rw[h];show _=sm _ n+_;grind
theorem TK{m:Nat}(V:Nat->Nat->Rat){i:Nat}(hi:i<m)(c:Nat->Rat)(w:Nat->Rat)(hw:∀k,k<m->w k=sm (fun p=>c p*V p k) m):CX m (put V i w)=c i*CX m V:=by
 have e:CX m (put V i w)=CX m (put V i fun k=>sm (fun p=>c p*V p k) m):=oV fun q k _ G=>by
  unfold put
  split
  .exact hw k G
  .rfl
 rw[e,acy V hi c V,bP hi fun p hp E=>?_,gU];rw[aoU (p:=i) (q:=p) hi hp (yu E) fun k _=>?_,u_];unfold put;rw[sO rfl,sQ E]
def Va(q:Rat):Prop:=∃z:Int,q=z
theorem Va.add{a b:Rat}(h:Va a)(E:Va b):Va (a+b):=by
 obtain⟨x,rfl⟩:=h;obtain⟨y,rfl⟩:=E;exact⟨x+y,by simp⟩
theorem Va.mul{a b:Rat}(h:Va a)(E:Va b):Va (a*b):=by
 obtain⟨x,rfl⟩:=h;obtain⟨y,rfl⟩:=E;exact⟨x*y,by simp⟩
theorem Va.sum{f:Nat->Rat}:∀ {n:Nat},(∀j,j<n->Va (f j))->Va (sm f n)
 |0,_=>⟨0,rfl⟩
 |n+1,h=>(Va.sum fun j E=>h j (by omega)).add (h n (by omega))
theorem aoV(k:Nat):Va (sg k):=by
 unfold sg
 split
 .exact⟨1,rfl⟩
 .exact⟨-1,rfl⟩
theorem anu:∀ {m:Nat} {V:Nat->Nat->Rat},(∀i k,i<m->k<m->Va (V i k))->Va (CX m V)
 |0,_,_=>⟨1,rfl⟩
 |m+1,V,h=>Va.sum fun i hi=>((aoV _).mul (h i m hi (by omega))).mul (anu fun p k hp E=>h _ k (by split<;>omega) (by omega))
def Bd(M a:Rat):Prop:=-M<=a/\a<=M
theorem Bd.mul{M N a b:Rat}(h:Bd M a)(E:Bd N b):Bd (M*N) (a*b):=by
 obtain⟨G,J⟩:=h;obtain⟨O,S⟩:=E;have Y:0<=M:=by grind
 have e1:=xR (show 0<=M-a by grind) (show 0<=N-b by grind);have e2:=xR (show 0<=M+a by grind) (show 0<=N+b by grind);have e3:=xR (show 0<=M-a by grind) (show 0<=N+b by grind);have e4:=xR (show 0<=M+a by grind) (show 0<=N-b by grind);constructor<;>grind
theorem Bd.sum{f:Nat->Rat}{M:Rat}:∀ {n:Nat},(∀j,j<n->Bd M (f j))->Bd (n*M) (sm f n)
 |0,_=>by
  have e:((0:Nat):Rat)*M=0:=by simp
  unfold Bd sm;rw[e];constructor<;>decide
 |n+1,h=>by
  have E:=Bd.sum (n:=n) fun j G=>h j (by omega)
  have J:=h n (by omega);unfold Bd at *;have e:((n+1:Nat):Rat)*M=n*M+M:=by simp;grind
  rw[e];unfold sm;constructor<;>grind
theorem as3(k:Nat):Bd 1 (sg k):=by
 unfold sg Bd
 split<;>constructor<;>decide
def fact(M:Nat):Nat->Nat
 |0=>1
 |m+1=>(m+1)*(M*fact M m)
theorem ahz:∀ {m:Nat} {V:Nat->Nat->Rat} {M:Nat},(∀i k,i<m->k<m->Bd M (V i k))->Bd (fact M m) (CX m V)
 |0,_,_,_=>by unfold Bd fact CX;constructor<;>decide
 |m+1,V,M,h=>by
  have E:=Bd.sum (n:=m+1) (f:=fun i=>sg (i+m)*V i m*CX m (rem i V)) (M:=1*M*fact M m) fun i hi=>((as3 _).mul (h i m hi (by omega))).mul (ahz fun p k hp G=>h _ k (by split<;>omega) (by omega))
  have e:((m+1:Nat):Rat)*(1*M*fact M m)=(fact M (m+1):Nat):=by
   show _=(((m+1)*(M*fact M m):Nat):Rat);rw[Rat.natCast_mul,Rat.natCast_mul];grind
  rw[e]at E;exact E
theorem TL:∀m,CX m (fun i k=>if i=k then 1 else 0)=1
 |0=>rfl
 |m+1=>by
  unfold CX;rw[bP (k:=m) (by omega) fun i hi E=>by show sg (i+m)*(if i=m then 1 else 0)*_=0;rw[sQ E];grind];show sg (m+m)*(if m=m then 1 else 0)*_=1;rw[sO rfl];have e:CX m (rem m fun i k=>if i=k then(1:Rat)else 0)=CX m (fun i k=>if i=k then 1 else 0):=oV fun i k hi G=>by
   unfold rem;rw[sO hi]
  rw[e,TL m];unfold sg;rw[sO (by omega)];grind
end Go.Lp
namespace Go.Lp
structure YF (m n:Nat) (A:Nat->Nat->Rat) (w:Nat->Rat) (T:Tab):Prop where
 col:∀j k,j<n->k<m->A j k=sm (fun p=>T.e p j*A (T.B p) k) m
 rhs:∀k,k<m->w k=sm (fun p=>T.b p*A (T.B p) k) m
 ind:CX m (fun p=>A (T.B p))≠0
section
variable {m n:Nat} {A:Nat->Nat->Rat} {w:Nat->Rat} {T:Tab}
theorem ahA{m r:Nat}(G:r<m)(f g u:Nat->Rat)(t v:Rat)(J:f r=g r*t)(O:sm (fun p=>g p*u p) m=v) :
  sm (fun p=>(if p=r then t else f p-g p*t)*(if p=r then v else u p)) m=sm (fun p=>f p*u p) m:=by
 have e:sm (fun p=>(if p=r then t else f p-g p*t)*(if p=r then v else u p)) m=sm (fun p=>f p*u p) m-t*sm (fun p=>g p*u p) m+sm (fun p=>if p=r then t*v else 0) m:=by
  rw[<- bT,<- bM,<- bY];refine bU fun p _=>?_
  by_cases h:p=r
  .subst h;simp only[if_true,J];grind
  .simp only[sQ h];grind
 rw[e,O,bP G fun p _ E=>sQ E,sO rfl];grind
theorem YF.piv(h:YF m n A w T){r s:Nat}(J:r<m)(hs:s<n)(hp:T.e r s≠0):YF m n A w (piv T r s):=by
 have key:∀(f:Nat->Rat) (k:Nat),k<m->sm (fun p=>(if p=r then f r / T.e r s else f p-T.e p s*(f r / T.e r s))*A (if p=r then s else T.B p) k) m=sm (fun p=>f p*A (T.B p) k) m:=fun f k E=>by
  rw[<- ahA J f (fun p=>T.e p s) (fun p=>A (T.B p) k) (f r / T.e r s) (A s k) (by grind) (h.col s k hs E).symm];refine bU fun p _=>?_
  by_cases e:p=r
  .subst e;simp only[if_true]
  .simp only[sQ e]
 refine⟨fun j k O E=>?_,fun k E=>?_,?_⟩
 .rw[h.col j k O E,<- key (fun p=>T.e p j) k E]
  rfl
 .rw[h.rhs k E,<- key T.b k E]
  rfl
 .have e:(fun p=>A ((Lp.piv T r s).B p))=put (fun p=>A (T.B p)) r (A s):=by
   funext p k;unfold put Lp.piv;simp only
   by_cases e:p=r
   .rw[sO e,sO e]
   .rw[sQ e,sQ e]
  rw[e,TK (fun p=>A (T.B p)) J (fun p=>T.e p s) (A s) fun k E=>h.col s k hs E];intro S;rcases Rat.mul_eq_zero.mp S with G|G
  .exact hp G
  .exact h.ind G
theorem YF.ent(h:YF m n A w T){i j:Nat}(hi:i<m)(E:j<n):T.e i j*CX m (fun p=>A (T.B p))=CX m (put (fun p=>A (T.B p)) i (A j)) :=
 (TK (fun p=>A (T.B p)) hi (fun p=>T.e p j) (A j) fun k G=>h.col j k E G).symm
theorem YF.right(h:YF m n A w T){i:Nat}(hi:i<m):T.b i*CX m (fun p=>A (T.B p))=CX m (put (fun p=>A (T.B p)) i w) :=
 (TK (fun p=>A (T.B p)) hi T.b w fun k E=>h.rhs k E).symm
theorem YF.acz(h:YF m n A w T){r s:Nat}(E:r<m)(hs:s<n):CX m (fun p=>A ((Lp.piv T r s).B p))=T.e r s*CX m (fun p=>A (T.B p)):=by
 have e:(fun p=>A ((Lp.piv T r s).B p))=put (fun p=>A (T.B p)) r (A s):=by
  funext p k;unfold put Lp.piv;simp only
  by_cases e:p=r
  .rw[sO e,sO e]
  .rw[sQ e,sQ e]
 rw[e,TK (fun p=>A (T.B p)) E (fun p=>T.e p s) (A s) fun k G=>h.col s k hs G]
end
def ZB(M:Nat)(q:Rat):Prop:=∃z:Int,q=z/\z.natAbs<=M
theorem ZB.of{M:Nat}{q:Rat}(h:Va q)(E:Bd M q):ZB M q:=by
 obtain⟨z,rfl⟩:=h;refine⟨z,rfl,?_⟩;obtain⟨G,J⟩:=E;have O:z<=(M:Int):=by exact_mod_cast J
 have S:-(M:Int)<=z:=by
  have:((-(M:Int):Int):Rat)<=z:=by rw[vO];exact G
  exact_mod_cast this
 omega
theorem ZB.isZ{M:Nat}{q:Rat}(h:ZB M q):Va q:=let ⟨z,e,_⟩:=h;⟨z,e⟩
theorem ZB.bd{M:Nat}{q:Rat}(h:ZB M q):Bd M q:=by
 obtain⟨z,rfl,h⟩:=h;have E:-(M:Int)<=z:=by omega
 have G:z<=(M:Int):=by omega
 constructor
 .have:((-(M:Int):Int):Rat)<=z:=by exact_mod_cast E
  rw[vO]at this;exact this
 .exact_mod_cast G
theorem FU{m M:Nat}{V:Nat->Nat->Rat}(h:∀i k,i<m->k<m->ZB M (V i k)):ZB (fact M m) (CX m V) :=
 .of (anu fun i k hi E=>(h i k hi E).isZ) (ahz fun i k hi E=>(h i k hi E).bd)
section
variable {m n M:Nat} {A:Nat->Nat->Rat} {w:Nat->Rat} {T:Tab}
theorem YF.FU(J:YF m n A w T)(E:∀i,i<m->T.B i<n)(hA:∀j k,j<n->k<m->ZB M (A j k)):ZB (fact M m) (CX m fun p=>A (T.B p)) :=
 Lp.FU fun i k hi G=>hA _ k (E i hi) G
theorem YF.NZ(h:YF m n A w T)(J:∀i,i<m->T.B i<n)(hA:∀j k,j<n->k<m->ZB M (A j k)){i j:Nat}(hi:i<m)(E:j<n):ZB (fact M m) (T.e i j*CX m fun p=>A (T.B p)):=by
 rw[h.ent hi E];refine Lp.FU fun p k hp G=>?_
 unfold put
 split
 .exact hA j k E G
 .exact hA _ k (J p hp) G
theorem YF.GZ(h:YF m n A w T)(G:∀i,i<m->T.B i<n)(hA:∀j k,j<n->k<m->ZB M (A j k))(hw:∀k,k<m->ZB M (w k)){i:Nat}(hi:i<m):ZB (fact M m) (T.b i*CX m fun p=>A (T.B p)):=by
 rw[h.right hi];refine Lp.FU fun p k hp E=>?_
 unfold put
 split
 .exact hw k E
 .exact hA _ k (G p hp) E
end
theorem I5{M:Nat}{q D:Rat}(hD:ZB M D)(h0:D≠0)(h:ZB M (q*D)):q.num.natAbs<=M/\q.den<=M:=by
 obtain⟨d,rfl,hd⟩:=hD;obtain⟨z,e,hz⟩:=h;have a1:d≠0:=fun e=>h0 (by rw[e];rfl)
 have e1:(q.num:Rat)=q*q.den:=by
  have Y:=Rat.mkRat_self q;rw[Rat.mkRat_eq_div]at Y;have h2:(q.den:Rat)≠0:=by have:=q.den_nz;exact_mod_cast this
  rw[<- Y];have G:mkRat q.num q.den=q:=Rat.mkRat_self q;grind
 have e2:q.num*d=z*q.den:=by
  have:((q.num*d:Int):Rat)=((z*q.den:Int):Rat):=by
   rw[vN,vN,<- e,e1];show q*(q.den:Rat)*d=q*d*((q.den:Int):Rat);have:(((q.den:Nat):Int):Rat)=(q.den:Rat):=rfl;rw[this];grind
  exact_mod_cast this
 have G:q.num.natAbs*d.natAbs=z.natAbs*q.den:=by
  have:=congrArg Int.natAbs e2;rw[uY,uY]at this
  simpa using this
 have E:Nat.Coprime q.den q.num.natAbs:=q.reduced.symm;have J:q.den ∣ d.natAbs:=by
  refine E.dvd_of_dvd_mul_left ?_;rw[G];exact Nat.dvd_mul_left _ _
 have O:q.num.natAbs ∣ z.natAbs:=by
  refine E.symm.dvd_of_dvd_mul_right ?_;rw[<- G];exact Nat.dvd_mul_right _ _
 refine⟨?_,zL (Nat.le_of_dvd (by omega) J) hd⟩
 by_cases S:z=0
 .subst S
  have:q.num.natAbs=0:=by
   have:q.num.natAbs*d.natAbs=0:=by rw[G];simp
   rcases Nat.mul_eq_zero.mp this with h|h
   .exact h
   .omega
  omega
 .exact zL (Nat.le_of_dvd (by omega) O) hz
end Go.Lp
namespace Go.Lp
theorem acA{m n:Nat}{T:Tab}(h:Ok m n T){r s:Nat}(S:r<m)(hs:s<n)(Y:T.e r s≠0)(h0:T.b r=0):Ok m n (piv T r s):=by
 refine⟨fun i hi=>?_,fun i k hi O=>?_,fun i hi=>?_⟩
 .simp only[piv]
  split
  .exact hs
  .exact h.bn i hi
 .have u1:=h.un i k hi O
  have J:=h.un r k S O;simp only[piv]
  by_cases G:k=r
  .subst G
   rw[sO rfl]
   by_cases E:i=k
   .rw[sO E,sO E];grind
   .rw[sQ E,sQ E];grind
  .rw[sQ G]
   rw[sQ (yu G)]at J
   by_cases E:i=r
   .subst E
    rw[sO rfl,sQ (yu G),J];grind
   .rw[sQ E,u1,J];grind
 .simp only[piv,h0]
  have e:(0:Rat) / T.e r s=0:=by rw[vJ];grind
  rw[e];have:=h.nb i hi
  split
  .exact uU
  .grind
structure Prog where
 m:Nat
 n:Nat
 a:Nat->Nat->Rat
 w:Nat->Rat
 c:Nat->Rat
namespace Prog
variable (p:Prog)
def N:Nat:=p.n+p.m
def A(j k:Nat):Rat:=if j<p.n then p.a j k else if k+p.n=j then 1 else 0
def T0:Tab:=⟨fun i j=>p.A j i,p.w,fun i=>i+p.n⟩
def F(x:Nat->Rat):Prop:=(∀k,k<p.m->sm (fun j=>p.a j k*x j) p.n=p.w k)/\∀j,j<p.n->0<=x j
def C(q:Nat)(j:Nat):Rat:=if q=0 then(if j<p.n then p.c j else 0)else if j+1=q/\j<p.n then -1 else 0
def c1(j:Nat):Rat:=if j<p.n then 0 else -1
def None:Prop:=∀x,¬p.F x
def Open:Prop:=∀a:Rat,∃x,p.F x/\a<=ob p.n p.c x
def Best(x:Nat->Rat):Prop:=p.F x/\∀y,p.F y->Nn (p.n+1) fun q=>ob p.n (p.C q) x-ob p.n (p.C q) y
structure Good (T:Tab):Prop where
 ok:Ok p.m p.N T
 ed:YF p.m p.N p.A p.w T
 sol:∀x,Sol p.m p.N T x↔Sol p.m p.N p.T0 x
structure Out (T:Tab):Prop where
 z:∀i,i<p.m->p.n<=T.B i->T.b i=0/\∀j,j<p.n->T.e i j=0
variable {p:Prog}
theorem Gn{i k:Nat}:p.A (i+p.n) k=if k=i then 1 else 0:=by
 unfold A;rw[sQ (by omega)]
 by_cases h:k=i
 .rw[sO h,sO (by omega)]
 .rw[sQ h,sQ (by omega)]
theorem as4(hw:∀k,k<p.m->0<=p.w k):p.Good p.T0:=by
 refine⟨⟨fun i hi=>?_,fun i k hi G=>?_,fun i hi=>hw i hi⟩,⟨fun j k J G=>?_,fun k G=>?_,?_⟩,fun x=>Iff.rfl⟩
 .show i+p.n<p.n+p.m;omega
 .exact Gn
 .show p.A j k=sm (fun q=>p.A j q*p.A (q+p.n) k) p.m
  rw[bP (k:=k) G fun q _ E=>by rw[Gn,sQ (yu E)];grind];rw[Gn,sO rfl];grind
 .show p.w k=sm (fun q=>p.w q*p.A (q+p.n) k) p.m
  rw[bP (k:=k) G fun q _ E=>by rw[Gn,sQ (yu E)];grind];rw[Gn,sO rfl];grind
 .have e:CX p.m (fun q=>p.A (q+p.n))=CX p.m fun i k=>if i=k then 1 else 0:=oV fun i k _ _=>by
   rw[Gn]
   by_cases h:i=k
   .rw[sO h,sO h.symm]
   .rw[sQ h,sQ (yu h)]
  show CX p.m (fun q=>p.A (q+p.n))≠0;rw[e,TL];decide
theorem Good.piv{T:Tab}(h:p.Good T){r s:Nat}(J:r<p.m)(hs:s<p.N)(E:T.e r s≠0)(G:Ok p.m p.N (Lp.piv T r s)):p.Good (Lp.piv T r s) :=
 ⟨G,h.ed.piv J hs E,fun x=>(TG J E x).trans (h.sol x)⟩
theorem Good.step{d:Nat}{C:Nat->Nat->Rat}{Fr:Nat->Prop}{T T':Tab}(h:p.Good T)(hs:Step p.m p.N d C Fr T T'):p.Good T':=by
 have E:=hs.ok h.ok;obtain⟨s,r,J,G,rfl⟩:=hs;exact h.piv G.lt J.lt (by have:=G.pos;grind) E
theorem Good.as5{T:Tab}(h:p.Good T){r s:Nat}(G:r<p.m)(hs:s<p.N)(E:T.e r s≠0)(J:T.b r=0):p.Good (Lp.piv T r s) :=
 h.piv G hs E (acA h.ok G hs E J)
def ext(p:Prog)(x:Nat->Rat)(j:Nat):Rat:=if j<p.n then x j else 0
theorem N7(f:Nat->Rat)(n:Nat):∀m,sm f (n+m)=sm f n+sm (fun i=>f (n+i)) m
 |0=>by show sm f n=sm f n+0;grind
 |m+1=>by
  show sm f (n+m)+f (n+m)=sm f n+(sm _ m+f (n+m));rw[N7 f n m];grind
theorem as6(x:Nat->Rat):Sol p.m p.N p.T0 x↔∀k,k<p.m->sm (fun j=>p.a j k*x j) p.n+x (p.n+k)=p.w k:=by
 refine forall_congr' fun k=>?_
 have G:k<p.m->sm (fun j=>p.T0.e k j*x j) p.N=sm (fun j=>p.a j k*x j) p.n+x (p.n+k):=fun G=>by
  unfold N;rw[N7];congr 1
  .exact bU fun j O=>by show p.A j k*x j=_;unfold A;rw[sO O]
  .rw[bP (k:=k) G fun i _ J=>by
    show p.A (p.n+i) k*_=0;rw[wQ,Gn,sQ (yu J)];grind]
   show p.A (p.n+k) k*_=_;rw[wQ,Gn,sO rfl];grind
 constructor
 .intro h E
  rw[<- G E];exact h E
 .intro h E
  rw[G E];exact h E
theorem N8{T:Tab}(h:p.Good T){x:Nat->Rat}(G:p.F x):ahw p.m p.N T (p.ext x):=by
 refine⟨(h.sol _).mpr ((as6 _).mpr fun k J=>?_),fun j _=>?_⟩
 .rw[<- G.1 k J]
  have e:p.ext x (p.n+k)=0:=by unfold ext;rw[sQ (by omega)]
  rw[e,bU (g:=fun j=>p.a j k*x j) fun j E=>by unfold ext;rw[sO E]];grind
 .unfold ext
  split
  .rename_i E;exact G.2 j E
  .exact uU
theorem QT{T:Tab}(h:p.Good T){x:Nat->Rat}(E:ahw p.m p.N T x)(J:∀k,k<p.m->x (p.n+k)=0):p.F x:=by
 refine⟨fun k G=>?_,fun j O=>E.2 j (by unfold N;omega)⟩;have:=(as6 x).mp ((h.sol x).mp E.1) k G;rw[J k G]at this;grind
theorem Out.BH{T:Tab}(h:p.Good T)(E:p.Out T){k:Nat}(G:k<p.m):BH p.m T (p.n+k)=0:=by
 by_cases hb:basic p.m T (p.n+k)
 .obtain⟨i,hi,e⟩:=hb
  rw[<- e,IZ h.ok hi];exact(E.z i hi (by omega)).1
 .exact qm hb
theorem Out.F{T:Tab}(h:p.Good T)(E:p.Out T):p.F (Lp.BH p.m T):=QT h (ahx h.ok) fun _ G=>E.BH h G
theorem Out.piv{T:Tab}(J:p.Out T){r s:Nat}(O:T.B r<p.n)(hs:s<p.n):p.Out (Lp.piv T r s):=by
 refine⟨fun i hi E=>?_⟩;simp only[Lp.piv]at E⊢
 by_cases e:i=r
 .rw[sO e]at E;omega
 .rw[sQ e]at E
  obtain⟨S,G⟩:=J.z i hi E;rw[sQ e,S,G s hs];refine⟨by grind,fun j Y=>?_⟩;rw[sQ e,G j Y];grind
theorem N9{c:Nat->Rat}(hc:∀j,p.n<=j->c j=0)(x:Nat->Rat):ob p.N c x=ob p.n c x:=by
 unfold ob N;rw[N7,bK (f:=fun i=>c (p.n+i)*x (p.n+i)) fun i _=>by rw[hc _ (by omega)];grind];grind
theorem QU(q:Nat){j:Nat}(E:p.n<=j):p.C q j=0:=by
 unfold C
 split
 .rw[sQ (by omega)]
 .rw[sQ (by omega)]
theorem acB(c x:Nat->Rat):ob p.n c (p.ext x)=ob p.n c x:=bU fun j E=>by unfold ext;rw[sO E]
theorem anv(x:Nat->Rat):ob p.n (p.C 0) x=ob p.n p.c x:=bU fun j E=>by unfold C;rw[sO rfl,sO E]
theorem ahB{q:Nat}(E:q<p.n)(x:Nat->Rat):ob p.n (p.C (q+1)) x= -x q:=by
 unfold ob;rw[bP E fun j _ G=>by unfold C;rw[sQ (by omega),sQ (by omega)];grind];unfold C;rw[sQ (by omega),sO (by omega)];grind
theorem Best.eq{x y:Nat->Rat}(G:p.Best x)(J:p.Best y):∀j,j<p.n->x j=y j:=by
 have E:=G.2 y J.1;have O:=J.2 x G.1;have S:Zr (p.n+1) fun q=>ob p.n (p.C q) x-ob p.n (p.C q) y:=by
  rcases E with E|E
  .refine absurd E (J9 ?_)
   exact O.imp (Lp.congr fun q _=>by grind) (Zr.congr fun q _=>by grind)
  .exact E
 intro j Y;have:=S (j+1) (by omega);simp only[ahB Y]at this;grind
theorem Nn.first{d:Nat}{v:Nat->Rat}(h:Nn (d+1) v):0<=v 0:=by
 have key:∀d,Lp (d+1) v->0<=v 0:=by
  intro d
  induction d with
  |zero=>
   rintro (h|⟨_,h⟩)
   .exact h.elim
   .exact vg h
  |succ d E=>
   rintro (h|⟨h,_⟩)
   .exact E h
   .rw[h 0 (by omega)];exact uU
 rcases h with h|h
 .exact key d h
 .rw[h 0 (by omega)];exact uU
theorem Best.Xf{x:Nat->Rat}(E:p.Best x):¬p.None:=fun h=>h x E.1
theorem phase1{T:Tab}(h:p.Good T){Fr:Nat->Prop}(S:∀j,j<p.n->Fr j)(G:∀j,j<p.N->Fr j->¬basic p.m T j->¬Lp 1 (gv p.m T (fun _=>p.c1) j)) :
  (∀i,i<p.m->p.n<=T.B i->T.b i=0)\/p.None:=by
 by_cases Y:∀i,i<p.m->p.n<=T.B i->T.b i=0
 .exact .inl Y
 .refine .inr fun x hx=>Y fun i hi hB=>?_
  have h1:=optimal h.ok G (N8 h hx) (fun j _ hn _=>by unfold ext;rw[sQ fun hj=>hn (S j hj)]);have h2:=Nn.first h1;have e:ob p.N p.c1 (p.ext x)=0:=bK fun j _=>by
   unfold c1 ext
   split<;>grind
  simp only[e]at h2;have h3:zz p.m T p.c1= -sm (fun i=>if p.n<=T.B i then T.b i else 0) p.m:=by
   unfold zz;have:=bT (-1) (fun i=>if p.n<=T.B i then T.b i else 0) p.m;have e2:-sm (fun i=>if p.n<=T.B i then T.b i else 0) p.m= -1*sm (fun i=>if p.n<=T.B i then T.b i else 0) p.m:=by grind
   rw[e2,<- this];refine bU fun i _=>?_
   unfold c1
   by_cases J:T.B i<p.n
   .rw[sO J,sQ (by omega)];grind
   .rw[sQ J,sO (by omega)];grind
  have h4:∀E i,i<E->E<=p.m->(if p.n<=T.B i then T.b i else 0)<=sm (fun i=>if p.n<=T.B i then T.b i else 0) E:=by
   intro E
   induction E with
   |zero=>intro i hi;omega
   |succ E ih=>
    intro i hi hm;have O:∀q,q<p.m->0<=(if p.n<=T.B q then T.b q else 0):=fun q J=>by
     split
     .exact h.ok.nb q J
     .exact uU
    show _<=sm _ E+_
    by_cases e:i=E
    .subst e
     have:=bQ (f:=fun i=>if p.n<=T.B i then T.b i else 0) (n:=i) fun q J=>O q (by omega)
     grind
    .have h5:=ih i (by omega) (by omega)
     have h6:=O E (by omega);grind
  have h5:=h4 p.m i hi (zq _);rw[sO hB]at h5;have h6:=h.ok.nb i hi;grind
theorem alx{T:Tab}(h:p.Good T){Fr:Nat->Prop}(G:∀j,j<p.n->Fr j)(E:∀j,j<p.N->Fr j->¬basic p.m T j->¬Lp 1 (gv p.m T (fun _=>p.c1) j)){i:Nat}(hi:i<p.m)(O:p.n<=T.B i)(hb:T.b i≠0):p.None:=by
 rcases phase1 h G E with J|J
 .exact absurd (J i hi O) hb
 .exact J
theorem acC{T:Tab}(h:p.Good T){s:Nat}(hs:s<p.N)(E:¬basic p.m T s)(hp:Lp 1 (gv p.m T (fun _=>p.c1) s)):¬∀i,i<p.m->T.e i s<=0:=fun S=>by
 have Y:0<gm p.m T p.c1 s:=by
  rcases hp with hp|⟨_,hp⟩
  .exact hp.elim
  .exact hp
 have hle:∀x,(∀j,j<p.N->0<=x j)->ob p.N p.c1 x<=0:=fun x G=>by
  have:=bQ (f:=fun j=> -(p.c1 j*x j)) (n:=p.N) fun j hj=>by
   have:=G j hj;unfold c1
   split<;>grind
  have e:=bT (-1) (fun j=>p.c1 j*x j) p.N;have J:sm (fun j=> -(p.c1 j*x j)) p.N=sm (fun j=> -1*(p.c1 j*x j)) p.N:=bU fun j _=>by grind
  unfold ob;rw[J,e]at this;grind
 have ha:0<=(1-zz p.m T p.c1) / gm p.m T p.c1 s\/True:=.inr trivial;obtain⟨x,G,e⟩:=unbounded h.ok hs E S p.c1 ((1-zz p.m T p.c1) / gm p.m T p.c1 s) (by
  have h0:=hle _ (fun j _=>ql h.ok j);rw[Xb h.ok]at h0;rw[vJ];exact xR (by grind) (vg (Rat.inv_pos.mpr Y)))
 have O:=hle x G.2;rw[e]at O;have J:(1-zz p.m T p.c1) / gm p.m T p.c1 s*gm p.m T p.c1 s=1-zz p.m T p.c1:=by grind
 rw[J]at O;grind
theorem aa0{T:Tab}(h:p.Good T)(q:Nat):zz p.m T (p.C q)=ob p.n (p.C q) (Lp.BH p.m T):=by
 rw[<- Xb h.ok,N9 fun j E=>QU q E]
theorem ahC{T:Tab}(h:p.Good T)(G:p.Out T)(E:∀j,j<p.n->¬basic p.m T j->¬Lp (p.n+1) (gv p.m T p.C j)):p.Best (Lp.BH p.m T):=by
 refine⟨G.F h,fun y J=>?_⟩;have O:=optimal (Fr:=fun j=>j<p.n) h.ok (fun j _ S hb=>E j S hb) (N8 h J) (fun j _ hn _=>by unfold ext;rw[sQ hn]);refine O.imp (Lp.congr fun q _=>?_) (Zr.congr fun q _=>?_)
 all_goals rw[aa0 h,N9 fun j Y=>QU q Y,acB]
theorem N_{T:Tab}(h:p.Good T)(ho:p.Out T){s:Nat}(hs:s<p.n)(G:¬basic p.m T s)(hg:0<gm p.m T (p.C 0) s)(Gx:∀i,i<p.m->T.e i s<=0):p.Open:=fun a=>by
 have key:∀b:Rat,0<=b->p.F fun j=>Lp.BH p.m T j+b*dir p.m T s j:=fun b hb=>by
  have O:s<p.N:=by unfold N;omega
  refine QT h ⟨I4 h.ok O G b,fun j S=>?_⟩ fun k hk=>?_
  .show 0<=Lp.BH p.m T j+b*dir p.m T s j
   by_cases E:basic p.m T j
   .obtain⟨i,hi,rfl⟩:=E
    rw[Xc h.ok G hi,IZ h.ok hi];have h1:=h.ok.nb i hi;have h2:=xR hb (show 0<= -T.e i s by have:=Gx i hi;grind);grind
   .by_cases e:j=s
    .subst e;rw[NW G,qm E];grind
    .rw[oH E e,qm E];grind
  .show Lp.BH p.m T (p.n+k)+b*dir p.m T s (p.n+k)=0
   rw[ho.BH h hk]
   by_cases E:basic p.m T (p.n+k)
   .obtain⟨i,hi,e⟩:=E
    rw[<- e,Xc h.ok G hi,(ho.z i hi (by omega)).2 s hs];grind
   .rw[oH E (by omega)];grind
 have J:∀b:Rat,ob p.n p.c (fun j=>Lp.BH p.m T j+b*dir p.m T s j)=zz p.m T (p.C 0)+b*gm p.m T (p.C 0) s:=fun b=>by
  have O:s<p.N:=by unfold N;omega
  rw[<- anv,<- N9 (fun j S=>QU 0 S),j_ (I4 h.ok O G b)];congr 1;unfold ob;rw[bP O fun j S Y=>?_]
  .show gm p.m T (p.C 0) s*(Lp.BH p.m T s+b*dir p.m T s s)=_
   rw[NW G,qm G];grind
  .by_cases E:basic p.m T j
   .obtain⟨i,hi,rfl⟩:=E
    rw[PZ h.ok _ hi,Rat.zero_mul]
   .show gm p.m T (p.C 0) j*(Lp.BH p.m T j+b*dir p.m T s j)=0
    rw[oH E Y,qm E];grind
 by_cases a1:a<=zz p.m T (p.C 0)
 .refine⟨_,key 0 uU,?_⟩
  rw[J];grind
 .refine⟨_,key ((a-zz p.m T (p.C 0)) / gm p.m T (p.C 0) s) ?_,?_⟩
  .rw[vJ]
   exact xR (by grind) (vg (Rat.inv_pos.mpr hg))
  .rw[J]
   have e2:(a-zz p.m T (p.C 0)) / gm p.m T (p.C 0) s*gm p.m T (p.C 0) s=a-zz p.m T (p.C 0):=by grind
   rw[e2];grind
structure EH (p:Prog) (q:Nat) (v:Nat->Rat) (Fr:Nat->Prop) (T:Tab):Prop where
 top:∀y,p.F y->Nn q (fun i=>v i-ob p.n (p.C i) y)/\(Zr q (fun i=>v i-ob p.n (p.C i) y)->∀j,j<p.n->¬Fr j->y j=0)
 all:∀y,p.F y->(∀j,j<p.n->¬Fr j->y j=0)->∀i,i<q->ob p.n (p.C i) y=v i
 non:∀j,j<p.n->¬Fr j->¬basic p.m T j
 inn:∀j,Fr j->j<p.n
theorem stage0{T:Tab}:EH p 0 (fun _=>0) (fun j=>j<p.n) T :=
 ⟨fun y _=>⟨.inr fun q G=>by omega,fun _ j E hn=>absurd E hn⟩,fun y _ _ i hi=>by omega,fun j E hn=>absurd E hn,fun _ h=>h⟩
theorem EH.step{q d:Nat}{v:Nat->Rat}{Fr:Nat->Prop}{C:Nat->Nat->Rat}{T T':Tab}(h:EH p q v Fr T)(hs:Step p.m p.N d C Fr T T'):EH p q v Fr T':=by
 obtain⟨s,r,E,G,rfl⟩:=hs;refine⟨h.top,h.all,fun j J hn hb=>?_,h.inn⟩;rcases (qh G.lt j).mp hb with rfl|⟨i,hi,_,e⟩
 .exact hn E.fr
 .exact h.non j J hn ⟨i,hi,e⟩
theorem EH.next{q:Nat}{v:Nat->Rat}{Fr Fr':Nat->Prop}{T:Tab}(hg:p.Good T)(ho:p.Out T)(h:EH p q v Fr T)
  (a1:∀j,j<p.n->Fr j->¬basic p.m T j->¬0<gm p.m T (p.C q) j) (J:∀j,j<p.n->(Fr' j↔Fr j/\(basic p.m T j\/¬gm p.m T (p.C q) j<0))) (a7:∀j,Fr' j->j<p.n) :
  EH p (q+1) (fun i=>if i=q then zz p.m T (p.C q)else v i) Fr' T:=by
 have val:∀y,p.F y->ob p.n (p.C q) y=zz p.m T (p.C q)+sm (fun j=>gm p.m T (p.C q) j*p.ext y j) p.N:=fun y O=>by
  rw[<- acB,<- N9 fun j E=>QU q E,j_ (N8 hg O).1];rfl
 have vq:∀i,i<q->(if i=q then zz p.m T (p.C q)else v i)=v i:=fun i hi=>sQ (by omega)
 have term:∀y,p.F y->(∀j,j<p.n->¬Fr j->y j=0)->∀j,gm p.m T (p.C q) j*p.ext y j<=0:=fun y O S j=>by
  unfold ext
  split
  .rename_i E
   by_cases G:Fr j
   .by_cases hb:basic p.m T j
    .obtain⟨i,hi,rfl⟩:=hb
     rw[PZ hg.ok _ hi];grind
    .have Y:=a1 j E G hb
     have h2:=O.2 j E;have:=xR (show 0<= -gm p.m T (p.C q) j by grind) h2;grind
   .rw[S j E G];grind
  .grind
 refine⟨fun y O=>?_,fun y O S i hi=>?_,fun j E hn=>?_,a7⟩
 .obtain⟨Y,h2⟩:=h.top y O
  rcases Y with Y|Y
  .have h3:Lp q fun i=>(if i=q then zz p.m T (p.C q)else v i) - ob p.n (p.C i) y:=Y.congr fun i hi=>by rw[vq i hi]
   exact⟨.inl (.inl h3),fun S=>absurd (Zr.succ.mp S).1 h3.GY⟩
  .have S:=h2 Y
   have h3:Zr q fun i=>(if i=q then zz p.m T (p.C q)else v i) - ob p.n (p.C i) y:=Y.congr fun i hi=>by rw[vq i hi]
   have b5:=bQ (f:=fun j=> -(gm p.m T (p.C q) j*p.ext y j)) (n:=p.N) fun j _=>by have:=term y O S j;grind
   have e:=bT (-1) (fun j=>gm p.m T (p.C q) j*p.ext y j) p.N;have e2:sm (fun j=> -(gm p.m T (p.C q) j*p.ext y j)) p.N=sm (fun j=> -1*(gm p.m T (p.C q) j*p.ext y j)) p.N:=bU fun j _=>by grind
   have hv:=val y O;have hd:(if q=q then zz p.m T (p.C q)else v q) - ob p.n (p.C q) y=sm (fun j=> -(gm p.m T (p.C q) j*p.ext y j)) p.N:=by
    rw[sO rfl,hv,e2,e];grind
   by_cases h0:sm (fun j=> -(gm p.m T (p.C q) j*p.ext y j)) p.N=0
   .refine⟨.inr (Zr.succ.mpr ⟨h3,by show(if q=q then zz p.m T (p.C q)else v q) - ob p.n (p.C q) y=0;rw[hd];exact h0⟩),fun _ j E hn=>?_⟩
    by_cases G:Fr j
    .have a8:¬basic p.m T j/\gm p.m T (p.C q) j<0:=by
      refine⟨fun hb=>hn ((J j E).mpr ⟨G,.inl hb⟩),?_⟩;refine zf fun b2=>hn ((J j E).mpr ⟨G,.inr b2⟩)
     have each:∀N (f:Nat->Rat),(∀j,0<=f j)->sm f N=0->∀j,j<N->f j=0:=by
      intro N f G
      induction N with
      |zero=>intro _ j E;omega
      |succ N ih=>
       intro h0 j E;have h4:=bQ (f:=f) (n:=N) fun j _=>G j
       have h5:=G N;have h6:sm f N+f N=0:=h0
       by_cases e:j=N
       .subst e;grind
       .exact ih (by grind) j (by omega)
     have h4:=each p.N _ (fun j=>by have:=term y O S j;grind) h0 j (by unfold N;omega);have h5:gm p.m T (p.C q) j*y j=0:=by
      have:p.ext y j=y j:=by unfold ext;rw[sO E]
      rw[this]at h4;grind
     rcases Rat.mul_eq_zero.mp h5 with h6|h6
     .have:=a8.2;grind
     .exact h6
    .exact S j E G
   .have a6:0<sm (fun j=> -(gm p.m T (p.C q) j*p.ext y j)) p.N:=by grind
    refine⟨.inl (.inr ⟨h3,by show 0<(if q=q then zz p.m T (p.C q)else v q) - ob p.n (p.C q) y;rw[hd];exact a6⟩),fun b3=>?_⟩;have:(if q=q then zz p.m T (p.C q)else v q) - ob p.n (p.C q) y=0:=(Zr.succ.mp b3).2;rw[hd]at this;exact absurd this h0
 .have b4:∀j,j<p.n->¬Fr j->y j=0:=fun j E hn=>S j E fun G=>hn ((J j E).mp G).1
  by_cases e:i=q
  .subst e
   rw[sO rfl,val y O,bK fun j _=>?_]
   .grind
   .unfold ext
    split
    .rename_i E
     by_cases G:Fr' j
     .obtain⟨Y,h2⟩:=(J j E).mp G
      rcases h2 with ⟨i,hi,rfl⟩|h2
      .rw[PZ hg.ok _ hi];grind
      .by_cases hb:basic p.m T j
       .obtain⟨i,hi,rfl⟩:=hb
        rw[PZ hg.ok _ hi];grind
       .have h3:=a1 j E Y hb
        have:gm p.m T (p.C i) j=0:=by grind
        rw[this];grind
     .rw[S j E G];grind
    .grind
  .rw[vq i (by omega)]
   exact h.all y O b4 i (by omega)
 .intro hb
  by_cases G:Fr j
  .exact hn ((J j E).mpr ⟨G,.inl hb⟩)
  .exact h.non j E G hb
theorem EH.best{v:Nat->Rat}{Fr:Nat->Prop}{T:Tab}(O:p.Good T)(S:p.Out T)(h:EH p (p.n+1) v Fr T):p.Best (Lp.BH p.m T):=by
 have G:=S.F O;refine⟨G,fun y Y=>?_⟩;have J:=h.all _ G fun j hj hn=>qm (h.non j hj hn)
 exact(h.top y Y).1.imp (Lp.congr fun q E=>by rw[J q E]) (Zr.congr fun q E=>by rw[J q E])
theorem TM{T:Tab}(h:p.Good T){q s:Nat}(G:q<p.n)(hs:s<p.n)(E:¬basic p.m T s)(J:0<gm p.m T (p.C (q+1)) s):¬∀i,i<p.m->T.e i s<=0:=fun O=>by
 have S:s<p.N:=by unfold N;omega
 have hz:zz p.m T (p.C (q+1))<=0:=by
  rw[aa0 h,ahB G];have:=ql h.ok q;grind
 obtain⟨x,Y,e⟩:=unbounded h.ok S E O (p.C (q+1)) ((1-zz p.m T (p.C (q+1))) / gm p.m T (p.C (q+1)) s) (by
  rw[vJ];exact xR (by grind) (vg (Rat.inv_pos.mpr J)))
 rw[N9 fun j hj=>QU _ hj,ahB G]at e;have e2:(1-zz p.m T (p.C (q+1))) / gm p.m T (p.C (q+1)) s*gm p.m T (p.C (q+1)) s=1-zz p.m T (p.C (q+1)):=by grind
 rw[e2]at e;have:=Y.2 q (by unfold N;omega);grind
theorem aeW{T:Tab}(h:p.Good T){s:Nat}(hs:s<p.n)(G:¬basic p.m T s)(hp:Lp (p.n+1) (gv p.m T p.C s))(J:∀i,i<p.m->T.e i s<=0):0<gm p.m T (p.C 0) s:=by
 have key:∀d,d<=p.n->Lp (d+1) (gv p.m T p.C s)->0<gm p.m T (p.C 0) s:=by
  intro d
  induction d with
  |zero=>
   rintro _ (E|⟨_,E⟩)
   .exact E.elim
   .exact E
  |succ d O=>
   rintro S (E|⟨_,E⟩)
   .exact O (by omega) E
   .exact absurd J (TM h (q:=d) (by omega) hs G E)
 exact key p.n (zq _) hp
end Prog
end Go.Lp
namespace Go.Lp
structure TZ where
 R:List (List Int)
 Bh:Int
 B:List Nat
 fr:List Bool
def Ee(R:List (List Int))(i:Nat):List Int:=R.getD i []
def en(R:List (List Int))(i j:Nat):Int:=(Ee R i).getD j 0
def Fa(p f b:Int)(x y:List Int):List Int:=List.zipWith (fun u v=>(u*p-f*v).tdiv b) x y
def BK(R:List (List Int))(r k:Nat)(b:Int):List (List Int):=R.mapIdx fun i x=>if i=r then x else Fa (en R r k) (x.getD k 0) b x (Ee R r)
def negR(R:List (List Int)):List (List Int):=R.map fun x=>x.map fun z=> -z
def Gp(D:TZ)(r k:Nat):TZ :=
 if 0<en D.R r k then ⟨BK D.R r k D.Bh,en D.R r k,D.B.set r k,D.fr⟩else ⟨negR (BK D.R r k D.Bh),-en D.R r k,D.B.set r k,D.fr⟩
theorem dY{R:List (List Int)}{i:Nat}(h:i<R.length):Ee R i=R[i]:=by unfold Ee;rw[zx,zy h];rfl
theorem gy(R:List (List Int))(r k:Nat)(b:Int):(BK R r k b).length=R.length:=by unfold BK;rw[List.length_mapIdx]
theorem Oa(R:List (List Int)):(negR R).length=R.length:=by unfold negR;rw[zT]
theorem ahD(R:List (List Int))(i j:Nat):en (negR R) i j= -en R i j:=by
 unfold en Ee negR;rw[zx,zx,zx,zx,yc];cases R[i]? with
 |none=>simp
 |some x=>
  simp only[zJ,yG,yc];cases x[j]?<;>simp
theorem Lc(R:List (List Int))(r k j:Nat)(b:Int):en (BK R r k b) r j=en R r j:=by
 unfold en Ee BK;simp only[zx,uH];cases R[r]?<;>simp
theorem ahE{R:List (List Int)}{r k i j:Nat}{b:Int}{n:Nat}(hn:∀x∈R,x.length=n)(hi:i<R.length)(G:r<R.length)(Y:j<n)(E:i≠r):en (BK R r k b) i j=(en R i j*en R r k-en R i k*en R r j).tdiv b:=by
 have J:Ee (BK R r k b) i=Fa (en R r k) (en R i k) b (Ee R i) (Ee R r):=by
  show(BK R r k b).getD i []=_;unfold BK;rw[zx,uH,zy hi];simp only[zJ,yG,sQ E];unfold en;rw[dY hi]
 have l1:(Ee R i).length=n:=by rw[dY hi];exact hn _ (zu hi)
 have l2:(Ee R r).length=n:=by rw[dY G];exact hn _ (zu G)
 have key:∀(x y:List Int) (f:Int->Int->Int),j<x.length->j<y.length->(List.zipWith f x y).getD j 0=f (x.getD j 0) (y.getD j 0):=fun x y f O S=>by
  rw[zx,zx,zx,List.getElem?_zipWith,zy O,zy S];rfl
 show(Ee (BK R r k b) i).getD j 0=_;rw[J];unfold Fa;rw[key _ _ _ (by omega) (by omega)];rfl
structure Vw (p:Prog) (T:Tab) (D:TZ) (ι:List Nat):Prop where
 len:ι.length=D.R.length
 Bq:D.B.length=D.R.length
 row:∀x∈D.R,x.length=p.N+1
 lt:∀r∈ι,r<p.m
 nd:ι.Nodup
 ent:∀i j,i<D.R.length->j<p.N->(en D.R i j:Rat)=D.Bh*T.e (ι.getD i 0) j
 rhs:∀i,i<D.R.length->(en D.R i p.N:Rat)=D.Bh*T.b (ι.getD i 0)
 BH:∀i,i<D.R.length->D.B.getD i 0=T.B (ι.getD i 0)
 pos:0<D.Bh
 CX:(D.Bh:Rat)=Lp.CX p.m (fun q=>p.A (T.B q))\/(D.Bh:Rat)= -Lp.CX p.m (fun q=>p.A (T.B q))
 hid:∀r,r<p.m->r∉ι->p.n<=T.B r/\T.b r=0/\∀j,j<p.n->T.e r j=0
structure Whole (p:Prog) (M:Nat):Prop where
 one:1<=M
 a:∀j k,j<p.n->k<p.m->ZB M (p.a j k)
 w:∀k,k<p.m->ZB M (p.w k)
theorem Whole.A{p:Prog}{M:Nat}(h:Whole p M)(j k:Nat)(E:j<p.N)(G:k<p.m):ZB M (p.A j k):=by
 unfold Prog.A
 split
 .rename_i J;exact h.a j k J G
 .split
  .exact⟨1,rfl,h.one⟩
  .exact⟨0,rfl,wF _⟩
section
variable {p:Prog} {T:Tab} {D:TZ} {ι:List Nat} {M:Nat}
theorem lF{l:List Nat}{i:Nat}(h:i<l.length):l.getD i 0∈l:=by
 rw[zx,zy h];exact zu h
theorem lG{l:List Nat}(hn:l.Nodup){i k:Nat}(hi:i<l.length)(E:k<l.length)(e:l.getD i 0=l.getD k 0):i=k:=by
 rw[zx,zx,zy hi,zy E]at e;exact(uX hn).mp e
theorem jK{l:List Nat}{r:Nat}(h:r∈l):∃i,i<l.length/\l.getD i 0=r:=by
 obtain⟨i,hi,e⟩:=List.mem_iff_getElem.mp h;exact⟨i,hi,by rw[zx,zy hi];exact e⟩
theorem Vw.io(h:Vw p T D ι){i:Nat}(hi:i<D.R.length):ι.getD i 0<p.m:=h.lt _ (lF (by rw[h.len];exact hi))
theorem Ob{M:Nat}{b q d:Rat}(hb:b=d\/b= -d)(h:ZB M (q*d)):ZB M (b*q):=by
 obtain⟨z,e,E⟩:=h;rcases hb with rfl|rfl
 .exact⟨z,by rw[<- e];grind,E⟩
 .exact⟨-z,by rw[vO,<- e];grind,by omega⟩
theorem ZB.int{M:Nat}{z:Int}(h:ZB M (z:Rat)):z.natAbs<=M:=by
 obtain⟨y,e,h⟩:=h;have:z=y:=by exact_mod_cast e
 rw[this];exact h
theorem Vw.bound(h:Vw p T D ι)(E:p.Good T)(hw:Whole p M):(∀i j,i<D.R.length->j<=p.N->(en D.R i j).natAbs<=fact M p.m)/\D.Bh.natAbs<=fact M p.m:=by
 refine⟨fun i j hi O=>ZB.int ?_,ZB.int ?_⟩
 .by_cases e:j=p.N
  .subst e
   rw[h.rhs i hi];exact Ob h.CX (E.ed.GZ E.ok.bn hw.A hw.w (h.io hi))
  .rw[h.ent i j hi (by omega)]
   exact Ob h.CX (E.ed.NZ E.ok.bn hw.A (h.io hi) (by omega))
 .obtain⟨z,e,J⟩:=E.ed.FU E.ok.bn hw.A
  rcases h.CX with G|G
  .rw[G];exact⟨z,e,J⟩
  .rw[G];exact⟨-z,by rw[vO,e],by omega⟩
theorem Vw.ne(h:Vw p T D ι):(D.Bh:Rat)≠0:=by
 have:=h.pos;intro e;have:D.Bh=0:=by exact_mod_cast e
 omega
theorem Vw.pos'(h:Vw p T D ι):(0:Rat)<D.Bh:=by have:=h.pos;exact_mod_cast this
theorem aeX{X b z:Int}(hb:b≠0)(h:X=b*z):X.tdiv b=z:=by rw[h,Int.mul_tdiv_cancel_left _ hb]
theorem Vw.cell(h:Vw p T D ι){r k:Nat}(hg:p.Good T)(hw:Whole p M)(O:r<D.R.length)(S:k<p.N)(E:en D.R r k≠0)(G:Ok p.m p.N (piv T (ι.getD r 0) k)) :
  (∀i j,i<D.R.length->i≠r->j<p.N->((en D.R i j*en D.R r k-en D.R i k*en D.R r j).tdiv D.Bh:Rat)=en D.R r k*(piv T (ι.getD r 0) k).e (ι.getD i 0) j) /\
  (∀i,i<D.R.length->i≠r->((en D.R i p.N*en D.R r k-en D.R i k*en D.R r p.N).tdiv D.Bh:Rat)=en D.R r k*(piv T (ι.getD r 0) k).b (ι.getD i 0)):=by
 have hb:=h.ne;have a1:D.Bh≠0:=by have:=h.pos;omega
 have hp:(en D.R r k:Rat)≠0:=fun e=>E (by exact_mod_cast e)
 have ep:=h.ent r k O S;have he:T.e (ι.getD r 0) k≠0:=fun e=>hp (by rw[ep,e];grind)
 have Y:=hg.piv (h.io O) S he G;have hd:=hg.ed.acz (h.io O) S;have neq:∀i,i<D.R.length->i≠r->¬ι.getD i 0=ι.getD r 0:=fun i hi E e=>E (lG h.nd (by rw[h.len];exact hi) (by rw[h.len];exact O) e)
 have fin:∀(x f y xx ff yy:Rat),x=D.Bh*xx->f=D.Bh*ff->y=D.Bh*yy->x*en D.R r k-f*y=D.Bh*(en D.R r k*(xx-ff*(yy / T.e (ι.getD r 0) k))):=fun x f y xx ff yy h1 h2 h3=>by
  subst h1 h2 h3;rw[ep];grind
 have whole:∀q:Rat,ZB (fact M p.m) (q*Lp.CX p.m fun i=>p.A ((piv T (ι.getD r 0) k).B i))->∃z:Int,(en D.R r k:Rat)*q=z:=fun q hq=>by
  rw[hd]at hq;have:ZB (fact M p.m) ((T.e (ι.getD r 0) k*q)*Lp.CX p.m fun i=>p.A (T.B i)):=by
   obtain⟨z,e,hz⟩:=hq;exact⟨z,by rw[<- e];grind,hz⟩
  obtain⟨z,e,_⟩:=Ob h.CX this;exact⟨z,by rw[<- e,ep];grind⟩
 have close:∀(X:Int) (q:Rat),(X:Rat)=D.Bh*(en D.R r k*q)->(∃z:Int,(en D.R r k:Rat)*q=z)->((X.tdiv D.Bh:Int):Rat)=en D.R r k*q:=fun X q hX ⟨z,hz⟩=>by
  have:X=D.Bh*z:=by
   rw[hz]at hX
   exact_mod_cast hX
  rw[aeX a1 this,hz]
 refine⟨fun i j hi J hj=>?_,fun i hi J=>?_⟩
 .refine close _ _ ?_ (whole _ (Y.ed.NZ G.bn hw.A (h.io hi) hj))
  rw[Rat.intCast_sub,vN,vN,fin _ _ _ _ _ _ (h.ent i j hi hj) (h.ent i k hi S) (h.ent r j O hj)];simp only[piv,sQ (neq i hi J)]
 .refine close _ _ ?_ (whole _ (Y.ed.GZ G.bn hw.A hw.w (h.io hi)))
  rw[Rat.intCast_sub,vN,vN,fin _ _ _ _ _ _ (h.rhs i hi) (h.ent i k hi S) (h.rhs r O)];simp only[piv,sQ (neq i hi J)]
theorem lD{l:List Nat}{r k i:Nat}(hi:i<l.length):(l.set r k).getD i 0=if i=r then k else l.getD i 0:=by
 rw[zx,List.getElem?_set,zx]
 by_cases h:r=i
 .subst h;rw[sO rfl,sO hi,sO rfl];rfl
 .rw[sQ h,sQ (yu h)]
theorem Oc{R:List (List Int)}{n:Nat}(h:∀x∈R,x.length=n){r k:Nat}(E:r<R.length)(b:Int):∀x∈BK R r k b,x.length=n:=fun x G=>by
 unfold BK at G;obtain⟨i,hi,rfl⟩:=List.mem_mapIdx.mp G
 split
 .exact h _ (zu hi)
 .unfold Fa
  rw[tZ,h _ (zu hi),dY E,h _ (zu E)];omega
theorem Vw.piv(h:Vw p T D ι){r k:Nat}(hg:p.Good T)(hw:Whole p M)(J:r<D.R.length)(hk:k<p.N)(O:en D.R r k≠0)(a6:Ok p.m p.N (piv T (ι.getD r 0) k))(hh:k<p.n\/∀r',r'<p.m->r'∈ι) :
  Vw p (Lp.piv T (ι.getD r 0) k) (Gp D r k) ι:=by
 obtain⟨c1,c2⟩:=h.cell hg hw J hk O a6;have hp:(en D.R r k:Rat)≠0:=fun e=>O (by exact_mod_cast e)
 have ep:=h.ent r k J hk;have he:T.e (ι.getD r 0) k≠0:=fun e=>hp (by rw[ep,e];grind)
 have hd:=hg.ed.acz (h.io J) hk;have neq:∀i,i<D.R.length->i≠r->¬ι.getD i 0=ι.getD r 0:=fun i hi O e=>O (lG h.nd (by rw[h.len];exact hi) (by rw[h.len];exact J) e)
 have E:∀i j,i<D.R.length->j<p.N->(en (BK D.R r k D.Bh) i j:Rat)=en D.R r k*(Lp.piv T (ι.getD r 0) k).e (ι.getD i 0) j:=fun i j hi S=>by
  by_cases e:i=r
  .subst e
   rw[Lc,h.ent i j hi S,ep];simp only[Lp.piv,if_true];grind
  .rw[ahE h.row hi J (by omega) e]
   exact c1 i j hi e S
 have Rh:∀i,i<D.R.length->(en (BK D.R r k D.Bh) i p.N:Rat)=en D.R r k*(Lp.piv T (ι.getD r 0) k).b (ι.getD i 0):=fun i hi=>by
  by_cases e:i=r
  .subst e
   rw[Lc,h.rhs i hi,ep];simp only[Lp.piv,if_true];grind
  .rw[ahE h.row hi J (by omega) e]
   exact c2 i hi e
 have hB:∀i,i<D.R.length->(D.B.set r k).getD i 0=(Lp.piv T (ι.getD r 0) k).B (ι.getD i 0):=fun i hi=>by
  rw[lD (by rw[h.Bq];exact hi)];simp only[Lp.piv]
  by_cases e:i=r
  .subst e;rw[sO rfl,sO rfl]
  .rw[sQ e,sQ (neq i hi e),h.BH i hi]
 have hid:∀q,q<p.m->q∉ι->p.n<=(Lp.piv T (ι.getD r 0) k).B q/\(Lp.piv T (ι.getD r 0) k).b q=0/\∀j,j<p.n->(Lp.piv T (ι.getD r 0) k).e q j=0:=fun q hq hn=>by
  rcases hh with hh|hh
  .obtain⟨Y,h2,h3⟩:=h.hid q hq hn
   have a7:¬q=ι.getD r 0:=fun e=>hn (by rw[e];exact lF (by rw[h.len];exact J))
   simp only[Lp.piv,sQ a7,h2,h3 k hh];refine⟨Y,by grind,fun j S=>?_⟩;rw[h3 j S];grind
  .exact absurd (hh q hq) hn
 have a1:(en D.R r k:Rat)=Lp.CX p.m (fun q=>p.A ((Lp.piv T (ι.getD r 0) k).B q))\/(en D.R r k:Rat)= -Lp.CX p.m (fun q=>p.A ((Lp.piv T (ι.getD r 0) k).B q)):=by
  rw[hd,ep];rcases h.CX with Y|Y<;>rw[Y]
  .exact .inl (by grind)
  .exact .inr (by grind)
 unfold Gp
 by_cases G:0<en D.R r k
 .rw[sO G]
  exact⟨by rw[h.len];exact(gy ..).symm,by show(D.B.set r k).length=(BK D.R r k D.Bh).length;rw[yP,gy];exact h.Bq,Oc h.row J _,h.lt,h.nd,
   fun i j hi S=>E i j (by rw[gy]at hi;exact hi) S,fun i hi=>Rh i (by rw[gy]at hi;exact hi),fun i hi=>hB i (by rw[gy]at hi;exact hi),G,a1,hid⟩
 .rw[sQ G]
  have hl:(negR (BK D.R r k D.Bh)).length=D.R.length:=by rw[Oa,gy]
  refine⟨by rw[h.len];exact hl.symm,by show(D.B.set r k).length=(negR (BK D.R r k D.Bh)).length;rw[yP,hl];exact h.Bq,fun x hx=>?_,h.lt,h.nd,
   fun i j hi S=>?_,fun i hi=>?_,fun i hi=>hB i (by rw[hl]at hi;exact hi),by show 0< -en D.R r k;omega,?_,hid⟩
  .unfold negR at hx
   obtain⟨y,hy,rfl⟩:=List.mem_map.mp hx;rw[zT];exact Oc h.row J _ y hy
  .show((en (negR (BK D.R r k D.Bh)) i j:Int):Rat)=((-en D.R r k:Int):Rat)*_
   rw[ahD,vO,vO,E i j (by rw[hl]at hi;exact hi) S];grind
  .show((en (negR (BK D.R r k D.Bh)) i p.N:Int):Rat)=((-en D.R r k:Int):Rat)*_
   rw[ahD,vO,vO,Rh i (by rw[hl]at hi;exact hi)];grind
  .show((-en D.R r k:Int):Rat)=_\/((-en D.R r k:Int):Rat)=_
   rw[vO];rcases a1 with Y|Y<;>rw[Y]
   .exact .inr rfl
   .exact .inl (by grind)
end
end Go.Lp
namespace Go.Lp
def sl(f:Nat->Rat):List Nat->Rat
 |[]=>0
 |r :: l=>f r+sl f l
theorem Xg{f g:Nat->Rat}:∀ {l:List Nat},(∀r∈l,f r=g r)->sl f l=sl g l
 |[],_=>rfl
 |r :: l,h=>by unfold sl;rw[h r zO,Xg fun q E=>h q (zY _ E)]
theorem Xh{m:Nat}:∀ {l:List Nat} {f:Nat->Rat},l.Nodup->(∀r∈l,r<m)->(∀r,r<m->r∉l->f r=0)->sl f l=sm f m
 |[],f,_,_,hz=>(bK fun r E=>hz r E zK).symm
 |a :: l,f,hn,hl,hz=>by
  rw[xk]at hn;have ha:=hl a zO;have J:=Xh (m:=m) (l:=l) (f:=fun r=>if r=a then 0 else f r) hn.2 (fun r E=>hl r (zY _ E)) fun r E O=>by
   show(if r=a then(0:Rat)else f r)=0
   split
   .rfl
   .rename_i e;exact hz r E (by simp[e,O])
  have S:sl (fun r=>if r=a then 0 else f r) l=sl f l:=Xg fun r E=>sQ (fun e:r=a=>hn.1 (e ▸ E))
  have Y:sm f m=sm (fun r=>if r=a then 0 else f r) m+sm (fun r=>if r=a then f r else 0) m:=by
   rw[<- bY];refine bU fun r _=>?_
   by_cases e:r=a
   .rw[sO e,sO e];grind
   .rw[sQ e,sQ e];grind
  show f a+sl f l=_;rw[Y,<- J,S,bP ha fun r _ G=>sQ G,sO rfl];grind
def Et(o:Nat->Int)(k:Nat):List (List Int)->List Nat->Int
 |x :: R,b :: B=>Et o k R B-x.getD k 0*o b
 |_,_=>0
def BI(D:TZ)(o:Nat->Int)(k:Nat):Int:=D.Bh*o k+Et o k D.R D.B
structure I7 (n:Nat) (D:TZ) (o:Nat->Int) (s:Nat):Prop where
 lt:s<n
 fr:D.fr.getD s false=true
 non:s∉D.B
 pos:0<BI D o s
 low:∀j,j<s->D.fr.getD j false=true->j∉D.B->¬0<BI D o j
structure acD (n:Nat) (D:TZ) (s r:Nat):Prop where
 lt:r<D.R.length
 pos:0<en D.R r s
 low:∀i,i<D.R.length->0<en D.R i s->en D.R r n*en D.R i s<=en D.R i n*en D.R r s
 tie:∀i,i<D.R.length->0<en D.R i s->en D.R r n*en D.R i s=en D.R i n*en D.R r s->D.B.getD r 0<=D.B.getD i 0
def Fb(n:Nat)(o:Nat->Int)(D E:TZ):Prop:=∃s r,I7 n D o s/\acD n D s r/\E=Gp D r s
def I8(n:Nat)(o:Nat->Int):Nat->TZ->Prop
 |0,_=>False
 |k+1,D=>∀E,Fb n o D E->I8 n o k E
section
variable {p:Prog} {T:Tab} {D:TZ} {ι:List Nat} {M:Nat} {o:Nat->Int}
theorem Xi(b:Rat)(k:Nat)(f:Nat->Rat)(B:Nat->Nat):∀(R:List (List Int)) (E:List Nat) (l:List Nat),l.length=R.length->E.length=R.length ->
  (∀i,i<R.length->(en R i k:Rat)=b*f (l.getD i 0))->(∀i,i<R.length->E.getD i 0=B (l.getD i 0)) ->
  (Et o k R E:Rat)= -(b*sl (fun r=>f r*o (B r)) l)
 |[],E,l,h1,h2,_,_=>by
  cases l with
  |nil=>simp[Et,sl]
  |cons a l=>simp at h1
 |x :: R,[],l,_,h2,_,_=>by simp at h2
 |x :: R,b' :: E,[],h1,_,_,_=>by simp at h1
 |x :: R,b' :: E,a :: l,h1,h2,h3,h4=>by
  have G:=h3 0 (by simp);have J:b'=B a:=h4 0 (by simp);have O:(x.getD k 0:Rat)=b*f a:=G;have S:=Xi b k f B R E l (by simpa using h1) (by simpa using h2) (fun i hi=>h3 (i+1) (by simpa using hi)) (fun i hi=>h4 (i+1) (by simpa using hi));show((Et o k R E-x.getD k 0*o b':Int):Rat)= -(b*(f a*o (B a)+sl _ l));rw[Rat.intCast_sub,vN,S,O,J];grind
theorem Vw.gain(h:Vw p T D ι){k:Nat}(E:k<p.N)(G:∀r,r<p.m->r∉ι->T.e r k*o (T.B r)=0):(BI D o k:Rat)=D.Bh*gm p.m T (fun j=>o j) k:=by
 unfold BI;rw[Rat.intCast_add,vN,Xi D.Bh k (fun r=>T.e r k) T.B D.R D.B ι h.len h.Bq (fun i hi=>h.ent i k hi E) h.BH,Xh h.nd h.lt G];unfold gm;grind
theorem Vw.mem(h:Vw p T D ι){s:Nat}(E:s<p.n\/∀r',r'<p.m->r'∈ι):s∈D.B↔basic p.m T s:=by
 constructor
 .intro hs
  obtain⟨i,hi,e⟩:=jK hs;rw[h.Bq]at hi;exact⟨_,h.io hi,by rw[<- h.BH i hi,e]⟩
 .rintro ⟨r,G,rfl⟩
  have hm:r∈ι:=by
   refine zf fun hn=>?_
   rcases E with E|E
   .have:=(h.hid r G hn).1;omega
   .exact hn (E r G)
  obtain⟨i,hi,rfl⟩:=jK hm;rw[h.len]at hi;rw[<- h.BH i hi];exact lF (by rw[h.Bq];exact hi)
theorem Vw.sign(h:Vw p T D ι){i k:Nat}(hi:i<D.R.length)(J:k<p.N):(0<en D.R i k↔0<T.e (ι.getD i 0) k)/\(en D.R i k=0↔T.e (ι.getD i 0) k=0):=by
 have e:=h.ent i k hi J;have hb:=h.pos';have hp:(0:Rat)<en D.R i k↔0<en D.R i k:=by
  constructor
  .intro h;exact_mod_cast h
  .intro h;exact_mod_cast h
 refine⟨?_,?_⟩
 .rw[<- hp,e]
  constructor
  .intro E
   refine zf fun G=>?_
   have:=xR (vg hb) (show 0<= -T.e (ι.getD i 0) k by grind);grind
  .intro E;exact Rat.mul_pos hb E
 .constructor
  .intro E
   have:(en D.R i k:Rat)=0:=by rw[E];rfl
   rw[e]at this;rcases Rat.mul_eq_zero.mp this with G|G
   .exact absurd G h.ne
   .exact G
  .intro E
   have:(en D.R i k:Rat)=0:=by rw[e,E];grind
   exact_mod_cast this
theorem Vw.anw(h:Vw p T D ι){i:Nat}(hi:i<D.R.length):en D.R i p.N=0↔T.b (ι.getD i 0)=0:=by
 have e:=h.rhs i hi;constructor
 .intro E
  have:(en D.R i p.N:Rat)=0:=by rw[E];rfl
  rw[e]at this;rcases Rat.mul_eq_zero.mp this with G|G
  .exact absurd G h.ne
  .exact G
 .intro E
  have:(en D.R i p.N:Rat)=0:=by rw[e,E];grind
  exact_mod_cast this
theorem Vw.nonneg(h:Vw p T D ι)(E:Ok p.m p.N T){i:Nat}(hi:i<D.R.length):0<=en D.R i p.N:=by
 have e:=h.rhs i hi;have:(0:Rat)<=en D.R i p.N:=by rw[e];exact xR (vg h.pos') (E.nb _ (h.io hi))
 exact_mod_cast this
theorem Vw.leaves(h:Vw p T D ι){s r:Nat}(hs:s<p.N)(J:s<p.n\/∀r',r'<p.m->r'∈ι)(G:acD p.N D s r):Leaves p.m T s (ι.getD r 0):=by
 have seen:∀i,i<p.m->0<T.e i s->∃q,q<D.R.length/\ι.getD q 0=i:=fun i hi hp=>by
  have hm:i∈ι:=by
   refine zf fun hn=>?_
   rcases J with J|J
   .have:=(h.hid i hi hn).2.2 s J;grind
   .exact hn (J i hi)
  obtain⟨q,E,e⟩:=jK hm;exact⟨q,by rw[<- h.len];exact E,e⟩
 have S:(0:Rat)<D.Bh*D.Bh:=Rat.mul_pos h.pos' h.pos';have val:∀i q,i<D.R.length->q<D.R.length->((en D.R i p.N*en D.R q s:Int):Rat)=D.Bh*D.Bh*(T.b (ι.getD i 0)*T.e (ι.getD q 0) s):=fun i q hi E=>by
  rw[vN,h.rhs i hi,h.ent q s E hs];grind
 refine⟨h.io G.lt,(h.sign G.lt hs).1.mp G.pos,fun i hi hp=>?_,fun i hi hp Y=>?_⟩
 .obtain⟨q,E,rfl⟩:=seen i hi hp
  have h1:=G.low q E ((h.sign E hs).1.mpr hp);have O:((en D.R r p.N*en D.R q s:Int):Rat)<=((en D.R q p.N*en D.R r s:Int):Rat):=by exact_mod_cast h1
  rw[val r q G.lt E,val q r E G.lt]at O;exact Rat.le_of_mul_le_mul_left O S
 .obtain⟨q,E,rfl⟩:=seen i hi hp
  rw[<- h.BH r G.lt,<- h.BH q E];refine G.tie q E ((h.sign E hs).1.mpr hp) ?_;have O:((en D.R r p.N*en D.R q s:Int):Rat)=((en D.R q p.N*en D.R r s:Int):Rat):=by rw[val r q G.lt E,val q r E G.lt,Y]
  exact_mod_cast O
structure Fit (p:Prog) (T:Tab) (ι:List Nat) (o:Nat->Int) (fr:List Bool):Prop where
 obj:∀r,r<p.m->r∉ι->∀k,k<p.N->fr.getD k false=true->T.e r k*o (T.B r)=0
 col:∀k,fr.getD k false=true->k<p.n\/∀r',r'<p.m->r'∈ι
theorem lV(h:Vw p T D ι){k:Nat}(G:k<p.N)(J:∀r,r<p.m->r∉ι->T.e r k*o (T.B r)=0):(0<BI D o k↔0<gm p.m T (fun j=>o j) k)/\(BI D o k<0↔gm p.m T (fun j=>o j) k<0):=by
 have e:=h.gain G J;have hb:=h.pos';have c1:(0:Rat)<BI D o k↔0<BI D o k:=⟨fun h=>by exact_mod_cast h,fun h=>by exact_mod_cast h⟩;have O:(BI D o k:Rat)<0↔BI D o k<0:=⟨fun h=>by exact_mod_cast h,fun h=>by exact_mod_cast h⟩;rw[<- c1,<- O,e];generalize gm p.m T (fun j=>(o j:Rat)) k=g;constructor<;>constructor
 .intro E
  refine zf fun S=>?_
  have:=xR (vg hb) (show 0<= -g by grind);grind
 .intro E;exact Rat.mul_pos hb E
 .intro E
  refine zf fun S=>?_
  have:=xR (vg hb) (show 0<=g by grind);grind
 .intro E
  have:=Rat.mul_pos hb (show 0< -g by grind);grind
theorem lp1{v:Nat->Rat}:Lp 1 v↔0<v 0:=by
 constructor
 .rintro (h|⟨_,h⟩)
  .exact h.elim
  .exact h
 .intro h;exact .inr ⟨fun q E=>absurd E (zW q),h⟩
theorem Vw.step(h:Vw p T D ι)(hg:p.Good T)(hw:Whole p M)(J:Fit p T ι o D.fr){S:TZ}(hs:Fb p.N o D S) :
  ∃T',Step p.m p.N 1 (fun _ j=>o j) (fun j=>D.fr.getD j false=true) T T'/\Vw p T' S ι/\S.fr=D.fr:=by
 obtain⟨s,r,E,Y,rfl⟩:=hs;have hl:=h.leaves E.lt (J.col s E.fr) Y;have a1:Enters p.m p.N 1 (fun _ j=>o j) (fun j=>D.fr.getD j false=true) T s:=by
  refine⟨E.lt,E.fr,fun hb=>E.non ((h.mem (J.col s E.fr)).mpr hb),lp1.mpr ((lV h E.lt fun r hr hn=>J.obj r hr hn s E.lt E.fr).1.mp E.pos),fun j hj G hb hp=>?_⟩;exact E.low j hj G (fun hm=>hb ((h.mem (J.col j G)).mp hm)) ((lV h (by have:=E.lt;omega) fun r hr hn=>J.obj r hr hn j (by have:=E.lt;omega) G).1.mpr (lp1.mp hp))
 have O:Step p.m p.N 1 (fun _ j=>o j) (fun j=>D.fr.getD j false=true) T (Lp.piv T (ι.getD r 0) s):=⟨s,_,a1,hl,rfl⟩;refine⟨_,O,h.piv hg hw Y.lt E.lt (by have:=Y.pos;omega) (O.ok hg.ok) (J.col s E.fr),?_⟩;unfold Gp
 split<;>rfl
theorem Fit.step{T':Tab}(E:Fit p T ι o D.fr)(h:Vw p T D ι)(h':Vw p T' D ι\/True)(hs:∃s r,r∈ι/\D.fr.getD s false=true/\s<p.N/\T'=Lp.piv T r s):Fit p T' ι o D.fr:=by
 obtain⟨s,r,Y,G,a1,rfl⟩:=hs;refine⟨fun q J hn k hk O=>?_,E.col⟩;rcases E.col s G with hs|hs
 .have h1:=E.obj q J hn k hk O
  have h2:=(h.hid q J hn).2.2 s hs;have S:¬q=r:=fun e=>hn (e ▸ Y)
  simp only[Lp.piv,sQ S,h2];have:T.e q k-0*(T.e r k / T.e r s)=T.e q k:=by grind
  rw[this];exact h1
 .exact absurd (hs q J) hn
theorem Vw.aa1(hw:Whole p M):∀ {k:Nat} {T:Tab} {D:TZ},Vw p T D ι->p.Good T->Fit p T ι o D.fr->aeV p.m p.N 1 (fun _ j=>o j) (fun j=>D.fr.getD j false=true) k T->I8 p.N o k D
 |0,_,_,_,_,_,h=>h
 |k+1,T,D,h,hg,hf,hn=>fun D' hs=>by
  obtain⟨T',G,h2,Y⟩:=h.step hg hw hf hs;have J:Fit p T' ι o D'.fr:=by
   rw[Y];obtain⟨s,r,g1,g2,g3⟩:=hs;refine hf.step h (.inr trivial) ?_;obtain⟨s',r',O,S,q3⟩:=G;have e:=h.leaves g1.lt (hf.col s g1.fr) g2;refine⟨s',r',?_,O.fr,O.lt,q3⟩;refine zf fun E=>?_
   rcases hf.col s' O.fr with hc|hc
   .have:=(h.hid r' S.lt E).2.2 s' hc
    have:=S.pos;grind
   .exact E (hc r' S.lt)
  exact Vw.aa1 hw h2 (hg.step G) J (by rw[Y];exact hn T' G)
end
end Go.Lp
namespace Go.Lp
inductive Fe (n:Nat) (o:Nat->Int):TZ->TZ->Prop
 |refl (D:TZ):Fe n o D D
 |tail {D D1 D2:TZ}:Fe n o D D1->Fb n o D1 D2->Fe n o D D2
def frZ(n:Nat)(o:Nat->Int)(D:TZ)(fr:List Bool):Prop:=fr.length=D.fr.length/\∀j,j<n->(fr.getD j false=true↔D.fr.getD j false=true/\(j∈D.B\/¬BI D o j<0))
def TN(n:Nat)(o:Nat->Int)(D:TZ)(E:Bool)(G:TZ):Prop :=
 ∃D1,Fe n o D D1/\((E=true/\(∀j,j<n->D1.fr.getD j false=true->j∉D1.B->¬0<BI D1 o j)/\∃fr,frZ n o D1 fr/\G={ D1 with fr:=fr }) \/
  (E=false/\G=D1/\∃s,I7 n D1 o s/\∀i,i<D1.R.length->¬0<en D1.R i s))
section
variable {p:Prog} {T:Tab} {D:TZ} {ι:List Nat} {M:Nat} {o:Nat->Int}
theorem Fe.run(hw:Whole p M){D D1:TZ}(hr:Fe p.N o D D1){T:Tab}(h:Vw p T D ι)(hg:p.Good T)(hf:Fit p T ι o D.fr){Q:Tab->Prop}(hQ:Q T)
  (hs:∀T T',p.Good T->Q T->Step p.m p.N 1 (fun _ j=>o j) (fun j=>D.fr.getD j false=true) T T'->Q T') :
  ∃E,Vw p E D1 ι/\p.Good E/\Fit p E ι o D1.fr/\Q E/\D1.fr=D.fr:=by
 induction hr with
 |refl=>exact⟨T,h,hg,hf,hQ,rfl⟩
 |tail h1 h2 ih=>
  obtain⟨E,O,S,Y,k4,J⟩:=ih;obtain⟨T2,g1,g2,g3⟩:=O.step S hw Y h2;rw[J]at g1;refine⟨T2,g2,S.step g1,?_,hs _ _ S k4 g1,g3.trans J⟩;rw[g3];refine Y.step O (.inr trivial) ?_;rw[J];obtain⟨s',r',q1,q2,q3⟩:=g1;refine⟨s',r',?_,q1.fr,q1.lt,q3⟩;refine zf fun G=>?_
  rcases Y.col s' (by rw[J];exact q1.fr)with hc|hc
  .have:=(O.hid r' q2.lt G).2.2 s' hc
   have:=q2.pos;grind
  .exact G (hc r' q2.lt)
theorem Vw.frame(h:Vw p T D ι)(fr:List Bool):Vw p T { D with fr:=fr } ι:=⟨h.len,h.Bq,h.row,h.lt,h.nd,h.ent,h.rhs,h.BH,h.pos,h.CX,h.hid⟩
def o1(n:Nat)(j:Nat):Int:=if j<n then 0 else -1
theorem anx:(fun j=>((o1 p.n j:Int):Rat))=p.c1:=by
 funext j;unfold o1 Prog.c1
 split<;>rfl
def Zero(p:Prog)(T:Tab):Prop:=∀r,r<p.m->p.n<=T.B r->T.b r=0
theorem aeY(hw:Whole p M){D G:TZ}{a7:Bool}(hm:TN p.N (o1 p.n) D a7 G)(h:Vw p p.T0 D ι)(hg:p.Good p.T0)(J:∀r,r<p.m->r∈ι)(a8:∀j,D.fr.getD j false=true↔j<p.n) :
  ∃T,Vw p T G ι/\p.Good T/\((∀i,i<G.R.length->p.n<=G.B.getD i 0->¬0<en G.R i p.N)->Zero p T)/\((∃i,i<G.R.length/\p.n<=G.B.getD i 0/\0<en G.R i p.N)->p.None):=by
 obtain⟨D1,h1,h2⟩:=hm;have hf:Fit p p.T0 ι (o1 p.n) D.fr:=⟨fun r O hn=>absurd (J r O) hn,fun k _=> .inr J⟩;obtain⟨Y,E,k2,k3,_,k5⟩:=h1.run hw h hg hf (Q:=fun _=>True) trivial (fun _ _ _ _ _=>trivial);have hN:∀j,j<p.n->j<p.N:=fun j hj=>by unfold Prog.N;omega
 have a1:∀k,k<p.N->∀r,r<p.m->r∉ι->Y.e r k*o1 p.n (Y.B r)=0:=fun k _ r O hn=>absurd (J r O) hn
 rcases h2 with ⟨_,h2,fr,_,rfl⟩|⟨_,_,s,h3,h4⟩
 .have a6:∀j,j<p.N->j<p.n->¬basic p.m Y j->¬Lp 1 (gv p.m Y (fun _=>p.c1) j):=fun j hj S hb hp=>by
   refine h2 j hj (by rw[k5];exact(a8 j).mpr S) (fun hm=>hb ((E.mem (.inr J)).mp hm)) ?_;refine(lV E hj (a1 j hj)).1.mpr ?_;rw[anx];exact lp1.mp hp
  refine⟨Y,E.frame fr,k2,fun hz r O hB=>?_,?_⟩
  .obtain⟨i,hi,rfl⟩:=jK (J r O)
   rw[E.len]at hi;refine(E.anw hi).mp ?_;have h5:=hz i hi (by show p.n<=D1.B.getD i 0;rw[E.BH i hi];exact hB);have h6:=E.nonneg k2.ok hi;have:¬0<en D1.R i p.N:=h5;omega
  .rintro ⟨i,hi,hB,hp⟩
   have hB:p.n<=D1.B.getD i 0:=hB;rw[E.BH i hi]at hB;refine Prog.alx k2 (Fr:=fun j=>j<p.n) (fun _ h=>h) (fun j hj S hb=>a6 j hj S hb) (E.io hi) hB fun e=>?_
   have:=(E.anw hi).mpr e;have hp:0<en D1.R i p.N:=hp;omega
 .exfalso
  have hs:=h3.lt;have b3:=h3.fr;have b2:¬basic p.m Y s:=fun hb=>h3.non ((E.mem (.inr J)).mpr hb)
  refine Prog.acC k2 hs b2 ?_ fun r O=>?_
  .refine lp1.mpr ?_
   have:=(lV E hs (a1 s hs)).1.mp h3.pos;rw[anx]at this;exact this
  .obtain⟨i,hi,rfl⟩:=jK (J r O)
   rw[E.len]at hi;refine Rat.not_lt.mp fun hp=>h4 i hi ((E.sign hi hs).1.mpr hp)
theorem Zero.piv(G:Zero p T){r s:Nat}(J:r<p.m)(O:T.b r=0)(hs:s<p.n):Zero p (Lp.piv T r s):=fun q S E=>by
 simp only[Lp.piv]at E⊢
 by_cases e:q=r
 .rw[sO e]at E;omega
 .rw[sQ e]at E
  rw[sQ e,O,G q S E];rw[vJ];grind
theorem aeZ(hw:Whole p M)(h:Vw p T D ι)(J:p.Good T)(Y:Zero p T){i k:Nat}(hi:i<D.R.length)(hB:p.n<=D.B.getD i 0)(hk:k<p.n)(G:en D.R i k≠0) :
  Vw p (Lp.piv T (ι.getD i 0) k) (Gp D i k) ι/\p.Good (Lp.piv T (ι.getD i 0) k)/\Zero p (Lp.piv T (ι.getD i 0) k):=by
 have E:k<p.N:=by unfold Prog.N;omega
 have O:T.b (ι.getD i 0)=0:=Y _ (h.io hi) (by rw[<- h.BH i hi];exact hB);have he:T.e (ι.getD i 0) k≠0:=fun e=>G ((h.sign hi E).2.mpr e)
 have S:=acA J.ok (h.io hi) E he O;exact⟨h.piv J hw hi E G S (.inl hk),J.as5 (h.io hi) E he O,Y.piv (h.io hi) O hk⟩
theorem lJ{α:Type}(d:α)(l:List α)(i j:Nat):(l.eraseIdx i).getD j d=l.getD (if j<i then j else j+1) d:=by
 simp only[zx,List.getElem?_eraseIdx]
 split<;>rfl
theorem aa2(h:Vw p T D ι)(hz:Zero p T){i:Nat}(hi:i<D.R.length)(hB:p.n<=D.B.getD i 0)(O:∀k,k<p.n->en D.R i k=0) :
  Vw p T { D with R:=D.R.eraseIdx i,B:=D.B.eraseIdx i } (ι.eraseIdx i):=by
 have S:(D.R.eraseIdx i).length=D.R.length-1:=yH hi;have sh:∀j,j<D.R.length-1->(if j<i then j else j+1)<D.R.length:=fun j E=>by split<;>omega
 have G:∀j k,en (D.R.eraseIdx i) j k=en D.R (if j<i then j else j+1) k:=fun j k=>by
  unfold en Ee;rw[lJ]
 refine⟨?_,?_,fun x hx=>h.row x (uo hx),fun r hr=>h.lt r (uo hr),h.nd.sublist (su ..),fun j k E hk=>?_,fun j E=>?_,fun j E=>?_,h.pos,h.CX,fun r hr hn=>?_⟩
 .show(ι.eraseIdx i).length=(D.R.eraseIdx i).length
  rw[S,yH (by rw[h.len];exact hi),h.len]
 .show(D.B.eraseIdx i).length=(D.R.eraseIdx i).length
  rw[S,yH (by rw[h.Bq];exact hi),h.Bq]
 .show(en (D.R.eraseIdx i) j k:Rat)=_
  rw[G,lJ];exact h.ent _ k (sh j (by rw[<- S];exact E)) hk
 .show(en (D.R.eraseIdx i) j p.N:Rat)=_
  rw[G,lJ];exact h.rhs _ (sh j (by rw[<- S];exact E))
 .show(D.B.eraseIdx i).getD j 0=_
  rw[lJ,lJ];exact h.BH _ (sh j (by rw[<- S];exact E))
 .by_cases hm:r∈ι
  .obtain⟨q,hq,rfl⟩:=jK hm
   have a1:q=i:=by
    refine zf fun a6=>hn ?_
    have a7:q<D.R.length:=by rw[<- h.len];exact hq
    have e:(ι.eraseIdx i).getD (if q<i then q else q-1) 0=ι.getD q 0:=by
     rw[lJ]
     by_cases J:q<i
     .rw[sO J,sO J]
     .rw[sQ J,sQ (by omega),show q-1+1=q by omega]
    rw[<- e];refine lF ?_;rw[yH (by rw[h.len];exact hi),h.len]
    split<;>omega
   subst a1;have Y:p.n<=T.B (ι.getD q 0):=by rw[<- h.BH q hi];exact hB
   refine⟨Y,hz _ hr Y,fun j E=>?_⟩;exact(h.sign hi (by unfold Prog.N;omega)).2.mp (O j E)
  .exact h.hid r hr hm
theorem ae0(h:Vw p T D ι)(E:∀i,i<D.R.length->D.B.getD i 0<p.n):p.Out T:=⟨fun r G hn=>by
 by_cases hm:r∈ι
 .obtain⟨i,hi,rfl⟩:=jK hm
  rw[h.len]at hi;have:=E i hi;rw[h.BH i hi]at this;omega
 .exact(h.hid r G hm).2⟩
def oq(n:Nat)(c:Nat->Int)(q j:Nat):Int:=if q=0 then(if j<n then c j else 0)else if j+1=q/\j<n then -1 else 0
theorem ayJ{c:Nat->Int}(hc:∀j,j<p.n->p.c j=c j)(q:Nat):(fun j=>((oq p.n c q j:Int):Rat))=p.C q:=by
 funext j;unfold oq Prog.C
 split
 .split
  .rename_i E;rw[hc j E]
  .rfl
 .split<;>rfl
theorem aoW(h:Vw p T D ι){c:Nat->Int}{q:Nat}{fr:List Bool}(E:∀j,fr.getD j false=true->j<p.n):Fit p T ι (oq p.n c q) fr :=
 ⟨fun r G hn k _ _=>by
  have O:=(h.hid r G hn).1;have:oq p.n c q (T.B r)=0:=by
   unfold oq
   split
   .rw[sQ (by omega)]
   .rw[sQ (by omega)]
  rw[this];grind,fun k J=> .inl (E k J)⟩
theorem ae1(hw:Whole p M){c:Nat->Int}(hc:∀j,j<p.n->p.c j=c j){q:Nat}{v:Nat->Rat}{D D':TZ}{O:Bool}(hm:TN p.N (oq p.n c q) D O D')(h:Vw p T D ι)(hg:p.Good T)(ho:p.Out T)
  (hs:p.EH q v (fun j=>D.fr.getD j false=true) T) (hlen:D.fr.length<=p.N) :
  ∃T',Vw p T' D' ι/\p.Good T'/\p.Out T'/\D'.fr.length=D.fr.length/\((O=true/\p.EH (q+1) (fun i=>if i=q then zz p.m T' (p.C q)else v i) (fun j=>D'.fr.getD j false=true) T') \/
   (O=false/\∃s,s<p.n/\¬basic p.m T' s/\0<gm p.m T' (p.C q) s/\∀i,i<p.m->T'.e i s<=0)):=by
 obtain⟨D1,h1,h2⟩:=hm;have hf:Fit p T ι (oq p.n c q) D.fr:=aoW h fun j E=>hs.inn j E
 obtain⟨T1,G,k2,k3,⟨k4,k6⟩,S⟩:=h1.run hw h hg hf (Q:=fun T=>p.Out T/\p.EH q v (fun j=>D.fr.getD j false=true) T) ⟨ho,hs⟩ (fun T T' _ J a6=>by
  refine⟨?_,J.2.step a6⟩;obtain⟨s,r,g1,g2,rfl⟩:=a6
  by_cases hB:T.B r<p.n
  .exact J.1.piv hB (J.2.inn s g1.fr)
  .have:=(J.1.z r g2.lt (by omega)).2 s (J.2.inn s g1.fr)
   have:=g2.pos;grind)
 have Y:∀k,k<p.N->(0<BI D1 (oq p.n c q) k↔0<gm p.m T1 (p.C q) k)/\(BI D1 (oq p.n c q) k<0↔gm p.m T1 (p.C q) k<0):=fun k hk=>by
  have:=lV (o:=oq p.n c q) G hk fun r hr hn=>by
   have h1:=(G.hid r hr hn).1;have:oq p.n c q (T1.B r)=0:=by
    unfold oq
    split
    .rw[sQ (by omega)]
    .rw[sQ (by omega)]
   rw[this];grind
  rw[ayJ hc]at this;exact this
 have hN:∀j,j<p.n->j<p.N:=fun j E=>by unfold Prog.N;omega
 refine⟨T1,?_⟩;rcases h2 with ⟨e,h2,fr,⟨a7,a8⟩,rfl⟩|⟨e,rfl,s,h3,h4⟩
 .refine⟨G.frame fr,k2,k4,by show fr.length=_;rw[a7,S],.inl ⟨e,?_⟩⟩
  refine Prog.EH.next (Fr':=fun j=>fr.getD j false=true) k2 k4 k6 (fun j E b2 hb hp=>?_) (fun j E=>?_) (fun j E=>?_)
  .exact h2 j (hN j E) (by rw[S];exact b2) (fun hm=>hb ((G.mem (.inl E)).mp hm)) ((Y j (hN j E)).1.mpr hp)
  .rw[a8 j (hN j E),S,G.mem (.inl E),(Y j (hN j E)).2]
  .by_cases b3:j<p.N
   .have:=((a8 j b3).mp E).1
    rw[S]at this;exact k6.inn j this
   .exfalso
    have E:fr.getD j false=true:=E;rw[zx,yX (by rw[a7,S];omega)]at E;cases E
 .refine⟨G,k2,k4,by rw[S],.inr ⟨e,s,?_⟩⟩
  have a1:s<p.n:=k6.inn s (by rw[<- S];exact h3.fr);refine⟨a1,fun hb=>h3.non ((G.mem (.inl a1)).mpr hb),(Y s h3.lt).1.mp h3.pos,fun i hi=>?_⟩
  by_cases hm:i∈ι
  .obtain⟨q',J,rfl⟩:=jK hm
   rw[G.len]at J;exact Rat.not_lt.mp fun hp=>h4 q' J ((G.sign J h3.lt).1.mpr hp)
  .rw[(G.hid i hi hm).2.2 s a1];exact uU
theorem read(h:Vw p T D ι)(E:p.Good T){i:Nat}(hi:i<D.R.length):(en D.R i p.N:Rat) / D.Bh=BH p.m T (D.B.getD i 0):=by
 rw[h.rhs i hi,h.BH i hi,IZ E.ok (h.io hi)];have:=h.ne;grind
theorem Xj(h:Vw p T D ι){j:Nat}(E:j<p.n)(hn:j∉D.B):BH p.m T j=0:=qm fun hb=>hn ((h.mem (.inl E)).mpr hb)
end
end Go.Lp
namespace Go.Lp
theorem aoX{m:Nat}{T:Tab}{r s:Nat}(E:r<m)(G:T.e r s≠0)(c:Nat->Rat)(j:Nat):gm m (piv T r s) c j=gm m T c j-gm m T c s*(T.e r j / T.e r s):=by
 have key:sm (fun i=>(piv T r s).e i j*c ((piv T r s).B i)) m=sm (fun i=>T.e i j*c (T.B i)) m+T.e r j / T.e r s*gm m T c s:=by
  have e:sm (fun i=>(piv T r s).e i j*c ((piv T r s).B i)) m=sm (fun i=>T.e i j*c (T.B i)) m-T.e r j / T.e r s*sm (fun i=>T.e i s*c (T.B i)) m+sm (fun i=>if i=r then T.e r j / T.e r s*c s else 0) m:=by
   rw[<- bT,<- bM,<- bY];refine bU fun i _=>?_
   simp only[piv]
   by_cases h:i=r
   .subst h;simp only[if_true];grind
   .simp only[sQ h];grind
  rw[e,bP E fun i _ h=>sQ h,sO rfl];unfold gm;grind
 show c j - _=c j - _ - _;rw[key];grind
theorem aoY{m:Nat}{T:Tab}{r s:Nat}(E:r<m)(G:T.e r s≠0)(c:Nat->Rat):zz m (piv T r s) c=zz m T c+gm m T c s*(T.b r / T.e r s):=by
 have e:sm (fun i=>(piv T r s).b i*c ((piv T r s).B i)) m=sm (fun i=>T.b i*c (T.B i)) m-T.b r / T.e r s*sm (fun i=>T.e i s*c (T.B i)) m+sm (fun i=>if i=r then T.b r / T.e r s*c s else 0) m:=by
  rw[<- bT,<- bM,<- bY];refine bU fun i _=>?_
  simp only[piv]
  by_cases h:i=r
  .subst h;simp only[if_true];grind
  .simp only[sQ h];grind
 show sm (fun i=>(piv T r s).b i*c ((piv T r s).B i)) m=_;rw[e,bP E fun i _ h=>sQ h,sO rfl];unfold gm zz;grind
theorem ZB.add{M N:Nat}{a b:Rat}(h:ZB M a)(E:ZB N b):ZB (M+N) (a+b):=by
 obtain⟨x,rfl,G⟩:=h;obtain⟨y,rfl,J⟩:=E;exact⟨x+y,by simp,by omega⟩
theorem ZB.mul{M N:Nat}{a b:Rat}(h:ZB M a)(E:ZB N b):ZB (M*N) (a*b):=by
 obtain⟨x,rfl,G⟩:=h;obtain⟨y,rfl,J⟩:=E;exact⟨x*y,by simp,by rw[uY];exact xK G J⟩
theorem ZB.neg{M:Nat}{a:Rat}(h:ZB M a):ZB M (-a):=by
 obtain⟨x,rfl,E⟩:=h;exact⟨-x,by simp,by omega⟩
theorem ZB.sum{M:Nat}{f:Nat->Rat}:∀ {n:Nat},(∀j,j<n->ZB M (f j))->ZB (n*M) (sm f n)
 |0,_=>⟨0,rfl,wF _⟩
 |n+1,h=>by
  have:=(ZB.sum (n:=n) fun j E=>h j (by omega)).add (h n (by omega));rw[xq];exact this
theorem ZB.mono{M N:Nat}{a:Rat}(h:ZB M a)(E:M<=N):ZB N a:=by
 obtain⟨x,e,G⟩:=h;exact⟨x,e,zL G E⟩
section
variable {p:Prog} {T:Tab} {M K:Nat} {c:Nat->Rat}
theorem ata(E:p.Good T)(hw:Whole p M)(hc:∀j,ZB K (c j)){j:Nat}(O:j<p.N):ZB ((p.m+1)*(K*fact M p.m)) (gm p.m T c j*Lp.CX p.m fun q=>p.A (T.B q)):=by
 have e:gm p.m T c j*Lp.CX p.m (fun q=>p.A (T.B q))=c j*Lp.CX p.m (fun q=>p.A (T.B q))+ -sm (fun i=>c (T.B i)*(T.e i j*Lp.CX p.m fun q=>p.A (T.B q))) p.m:=by
  have G:=bT (Lp.CX p.m fun q=>p.A (T.B q)) (fun i=>T.e i j*c (T.B i)) p.m;have J:sm (fun i=>c (T.B i)*(T.e i j*Lp.CX p.m fun q=>p.A (T.B q))) p.m=sm (fun i=>Lp.CX p.m (fun q=>p.A (T.B q))*(T.e i j*c (T.B i))) p.m:=bU fun i _=>by grind
  rw[J,G];unfold gm;grind
 rw[e];have G:=(hc j).mul (E.ed.FU E.ok.bn hw.A);have J:=(ZB.sum (n:=p.m) (f:=fun i=>c (T.B i)*(T.e i j*Lp.CX p.m fun q=>p.A (T.B q))) fun i hi=>(hc _).mul (E.ed.NZ E.ok.bn hw.A hi O)).neg;exact(G.add J).mono (by rw[xq];omega)
theorem atb(E:p.Good T)(hw:Whole p M)(hc:∀j,ZB K (c j)):ZB ((p.m+1)*(K*fact M p.m)) (zz p.m T c*Lp.CX p.m fun q=>p.A (T.B q)):=by
 have e:zz p.m T c*Lp.CX p.m (fun q=>p.A (T.B q))=sm (fun i=>c (T.B i)*(T.b i*Lp.CX p.m fun q=>p.A (T.B q))) p.m:=by
  have G:=bT (Lp.CX p.m fun q=>p.A (T.B q)) (fun i=>T.b i*c (T.B i)) p.m;have J:sm (fun i=>c (T.B i)*(T.b i*Lp.CX p.m fun q=>p.A (T.B q))) p.m=sm (fun i=>Lp.CX p.m (fun q=>p.A (T.B q))*(T.b i*c (T.B i))) p.m:=bU fun i _=>by grind
  rw[J,G];unfold zz;grind
 rw[e];refine(ZB.sum fun i hi=>(hc _).mul (E.ed.GZ E.ok.bn hw.A hw.w hi)).mono ?_;rw[xq];omega
def Lim(M:Nat)(q:Rat):Prop:=q.num.natAbs<=M/\q.den<=M
theorem aly(E:p.Good T)(hw:Whole p M){i j:Nat}(hi:i<p.m)(G:j<p.N):Lim (fact M p.m) (T.e i j) :=
 I5 (E.ed.FU E.ok.bn hw.A) E.ed.ind (E.ed.NZ E.ok.bn hw.A hi G)
theorem ae2(E:p.Good T)(hw:Whole p M){i:Nat}(hi:i<p.m):Lim (fact M p.m) (T.b i) :=
 I5 (E.ed.FU E.ok.bn hw.A) E.ed.ind (E.ed.GZ E.ok.bn hw.A hw.w hi)
theorem Xk(E:p.Good T)(hw:Whole p M):ZB ((p.m+1)*(K*fact M p.m)+fact M p.m) (Lp.CX p.m fun q=>p.A (T.B q)):=(E.ed.FU E.ok.bn hw.A).mono (by omega)
theorem aoZ(E:p.Good T)(hw:Whole p M)(hc:∀j,ZB K (c j)){j:Nat}(G:j<p.N):Lim ((p.m+1)*(K*fact M p.m)+fact M p.m) (gm p.m T c j) :=
 I5 (Xk E hw) E.ed.ind ((ata E hw hc G).mono (by omega))
theorem ao0(E:p.Good T)(hw:Whole p M)(hc:∀j,ZB K (c j)):Lim ((p.m+1)*(K*fact M p.m)+fact M p.m) (zz p.m T c) :=
 I5 (Xk E hw) E.ed.ind ((atb E hw hc).mono (by omega))
end
structure TQ where
 R:List (List Rat)
 B:List Nat
 c:List Rat
def Cm(R:List (List Rat))(i j:Nat):Rat:=(R.getD i []).getD j 0
def LW(t x:List Rat)(f:Rat):List Rat:=List.zipWith (fun u v=>u-f*v) t x
def Ef(R:List (List Rat))(r k:Nat):List (List Rat):=R.mapIdx fun i x=>if i=r then x.map (· / Cm R r k)else LW x ((R.getD r []).map (· / Cm R r k)) (x.getD k 0)
def Oe(D:TQ)(r k:Nat):TQ:=⟨Ef D.R r k,D.B.set r k,LW D.c ((D.R.getD r []).map (· / Cm D.R r k)) (D.c.getD k 0)⟩
theorem pO{t x:List Rat}{f:Rat}(h:x.length=t.length):(LW t x f).length=t.length:=by unfold LW;rw[tZ,h];omega
theorem I9{t x:List Rat}{f:Rat}{j:Nat}(h:x.length=t.length)(E:j<t.length):(LW t x f).getD j 0=t.getD j 0-f*x.getD j 0:=by
 unfold LW;simp only[zx,List.getElem?_zipWith];rw[zy E,zy (by omega)];rfl
theorem MJ{x:List Rat}{d:Rat}{j:Nat}(E:j<x.length):(x.map (· / d)).getD j 0=x.getD j 0 / d:=by
 simp only[zx,yc];rw[zy E];rfl
structure Vq (p:Prog) (n':Nat) (C:Nat->Rat) (T:Tab) (D:TQ) (ι:List Nat):Prop where
 len:ι.length=D.R.length
 Bq:D.B.length=D.R.length
 Gy:D.c.length=n'+1
 row:∀x∈D.R,x.length=n'+1
 lt:∀r∈ι,r<p.m
 nd:ι.Nodup
 le:n'<=p.N
 ent:∀i j,i<D.R.length->j<n'->Cm D.R i j=T.e (ι.getD i 0) j
 rhs:∀i,i<D.R.length->Cm D.R i n'=T.b (ι.getD i 0)
 BH:∀i,i<D.R.length->D.B.getD i 0=T.B (ι.getD i 0)
 cost:∀j,j<n'->D.c.getD j 0=gm p.m T C j
 val:D.c.getD n' 0= -zz p.m T C
 hid:∀r,r<p.m->r∉ι->n'<=T.B r/\T.b r=0/\∀j,j<n'->T.e r j=0
section
variable {p:Prog} {T:Tab} {D:TQ} {ι:List Nat} {n':Nat} {C:Nat->Rat}
theorem Vq.io(h:Vq p n' C T D ι){i:Nat}(hi:i<D.R.length):ι.getD i 0<p.m:=h.lt _ (lF (by rw[h.len];exact hi))
theorem Vq.ao1(h:Vq p n' C T D ι){i:Nat}(hi:i<D.R.length):(D.R.getD i []).length=n'+1:=by
 rw[zx,zy hi];exact h.row _ (zu hi)
theorem h_(R:List (List Rat))(r k:Nat):(Ef R r k).length=R.length:=by unfold Ef;rw[List.length_mapIdx]
theorem ae3{R:List (List Rat)}{n:Nat}(h:∀x∈R,x.length=n){r k:Nat}(E:r<R.length):∀x∈Ef R r k,x.length=n:=fun x G=>by
 unfold Ef at G;obtain⟨i,hi,rfl⟩:=List.mem_mapIdx.mp G;have J:(R.getD r []).length=n:=by
  rw[zx,zy E];exact h _ (zu E)
 split
 .rw[zT];exact h _ (zu hi)
 .rw[pO (by rw[zT,J,h _ (zu hi)]),h _ (zu hi)]
theorem TP{R:List (List Rat)}{n:Nat}(h:∀x∈R,x.length=n){r k i j:Nat}(J:r<R.length)(hi:i<R.length)(G:j<n) :
  Cm (Ef R r k) i j=if i=r then Cm R r j / Cm R r k else Cm R i j-Cm R i k*(Cm R r j / Cm R r k):=by
 have E:∀q,q<R.length->(R.getD q []).length=n:=fun q O=>by
  rw[zx,zy O];exact h _ (zu O)
 have S:(Ef R r k).getD i []=if i=r then(R.getD i []).map (· / Cm R r k)else LW (R.getD i []) ((R.getD r []).map (· / Cm R r k)) ((R.getD i []).getD k 0):=by
  unfold Ef;simp only[zx,uH];rw[zy hi];rfl
 show((Ef R r k).getD i []).getD j 0=_;rw[S]
 split
 .rename_i e;subst e
  rw[MJ (by rw[E _ hi];exact G)];rfl
 .rw[I9 (by rw[zT,E _ J,E _ hi]) (by rw[E _ hi];exact G),MJ (by rw[E _ J];exact G)];rfl
theorem Vq.piv(h:Vq p n' C T D ι){r k:Nat}(E:r<D.R.length)(Y:k<n')(J:Cm D.R r k≠0):Vq p n' C (Lp.piv T (ι.getD r 0) k) (Oe D r k) ι:=by
 have O:=h.ent r k E Y;have he:T.e (ι.getD r 0) k≠0:=by rw[<- O];exact J
 have neq:∀i,i<D.R.length->i≠r->¬ι.getD i 0=ι.getD r 0:=fun i hi J e=>J (lG h.nd (by rw[h.len];exact hi) (by rw[h.len];exact E) e)
 have S:((D.R.getD r []).map (· / Cm D.R r k)).length=D.c.length:=by rw[zT,h.ao1 E,h.Gy]
 refine⟨by rw[h.len];exact(h_ ..).symm,by show(D.B.set r k).length=(Ef D.R r k).length;rw[yP,h_];exact h.Bq,by show(LW _ _ _).length=_;rw[pO S,h.Gy],ae3 h.row E,h.lt,h.nd,h.le,
  fun i j hi G=>?_,fun i hi=>?_,fun i hi=>?_,fun j G=>?_,?_,fun q hq hn=>?_⟩
 .replace hi:i<D.R.length:=by rw[<- h_ D.R r k];exact hi
  show Cm (Ef D.R r k) i j=_;rw[TP h.row E hi (by omega)];simp only[Lp.piv]
  by_cases e:i=r
  .subst e;rw[sO rfl,sO rfl,h.ent i j hi G,O]
  .rw[sQ e,sQ (neq i hi e),h.ent i j hi G,h.ent i k hi Y,h.ent r j E G,O]
 .replace hi:i<D.R.length:=by rw[<- h_ D.R r k];exact hi
  show Cm (Ef D.R r k) i n'=_;rw[TP h.row E hi (by omega)];simp only[Lp.piv]
  by_cases e:i=r
  .subst e;rw[sO rfl,sO rfl,h.rhs i hi,O]
  .rw[sQ e,sQ (neq i hi e),h.rhs i hi,h.ent i k hi Y,h.rhs r E,O]
 .replace hi:i<D.R.length:=by rw[<- h_ D.R r k];exact hi
  show(D.B.set r k).getD i 0=_;rw[lD (by rw[h.Bq];exact hi)];simp only[Lp.piv]
  by_cases e:i=r
  .subst e;rw[sO rfl,sO rfl]
  .rw[sQ e,sQ (neq i hi e),h.BH i hi]
 .show(LW _ _ _).getD j 0=_
  rw[I9 S (by rw[h.Gy];omega),MJ (by rw[h.ao1 E];omega),h.cost j G,h.cost k Y,aoX (h.io E) he];have:(D.R.getD r []).getD j 0=T.e (ι.getD r 0) j:=h.ent r j E G;rw[this,O]
 .show(LW _ _ _).getD n' 0=_
  rw[I9 S (by rw[h.Gy];omega),MJ (by rw[h.ao1 E];omega),h.val,h.cost k Y,aoY (h.io E) he];have:(D.R.getD r []).getD n' 0=T.b (ι.getD r 0):=h.rhs r E;rw[this,O];grind
 .obtain⟨h1,h2,h3⟩:=h.hid q hq hn
  have a1:¬q=ι.getD r 0:=fun e=>hn (by rw[e];exact lF (by rw[h.len];exact E))
  simp only[Lp.piv,sQ a1,h2,h3 k Y];refine⟨h1,by grind,fun j G=>?_⟩;rw[h3 j G];grind
end
end Go.Lp
namespace Go.Lp
def I_(q j:Nat):List (List Rat)->List Nat->Rat
 |x :: R,b :: B=>(if b=q then x.getD j 0 else 0)+I_ q j R B
 |_,_=>0
def MK(D:TQ)(j q:Nat):Rat:=if q=0 then D.c.getD j 0 else(if j+1=q then -1 else 0)+I_ (q-1) j D.R D.B
structure ML (n d:Nat) (D:TQ) (s:Nat):Prop where
 lt:s<n
 non:s∉D.B
 pos:Lp d (MK D s)
 low:∀j,j<s->j∉D.B->¬Lp d (MK D j)
structure acE (n:Nat) (D:TQ) (s r:Nat):Prop where
 lt:r<D.R.length
 pos:0<Cm D.R r s
 low:∀i,i<D.R.length->0<Cm D.R i s->Cm D.R r n / Cm D.R r s<=Cm D.R i n / Cm D.R i s
 tie:∀i,i<D.R.length->0<Cm D.R i s->Cm D.R r n / Cm D.R r s=Cm D.R i n / Cm D.R i s->D.B.getD r 0<=D.B.getD i 0
def Og(n d:Nat)(D E:TQ):Prop:=∃s r,ML n d D s/\acE n D s r/\E=Oe D r s
def Xl(n d:Nat):Nat->TQ->Prop
 |0,_=>False
 |k+1,D=>∀E,Og n d D E->Xl n d k E
inductive G5 (n d:Nat):TQ->TQ->Prop
 |refl (D:TQ):G5 n d D D
 |tail {D D1 D2:TQ}:G5 n d D D1->Og n d D1 D2->G5 n d D D2
def alz(n d:Nat)(D:TQ)(G:Bool)(E:TQ):Prop :=
 G5 n d D E/\((G=true/\∀j,j<n->j∉E.B->¬Lp d (MK E j))\/(G=false/\∃s,ML n d E s/\∀i,i<E.R.length->¬0<Cm E.R i s))
section
variable {p:Prog} {T:Tab} {D:TQ} {ι:List Nat} {M n' d:Nat} {C:Nat->Nat->Rat}
theorem Vq.mem(h:Vq p n' (C 0) T D ι){s:Nat}(hs:s<n'):s∈D.B↔basic p.m T s:=by
 constructor
 .intro hs
  obtain⟨i,hi,e⟩:=jK hs;rw[h.Bq]at hi;exact⟨_,h.io hi,by rw[<- h.BH i hi,e]⟩
 .rintro ⟨r,E,rfl⟩
  have hm:r∈ι:=by
   refine zf fun hn=>?_
   have:=(h.hid r E hn).1;omega
  obtain⟨i,hi,rfl⟩:=jK hm;rw[h.len]at hi;rw[<- h.BH i hi];exact lF (by rw[h.Bq];exact hi)
theorem ao2{a b c d:Rat}(hb:0<b)(E:0<d)(h:a / b<=c / d):a*d<=c*b:=by
 have G:=xR (show 0<=c / d-a / b by grind) (vg (Rat.mul_pos hb E));have e:(c / d-a / b)*(b*d)=c*b-a*d:=by
  have:b≠0:=by grind
  have:d≠0:=by grind
  grind
 grind
theorem Vq.leaves(h:Vq p n' (C 0) T D ι){s r:Nat}(hs:s<n')(G:acE n' D s r):Leaves p.m T s (ι.getD r 0):=by
 have seen:∀i,i<p.m->0<T.e i s->∃q,q<D.R.length/\ι.getD q 0=i:=fun i hi hp=>by
  have hm:i∈ι:=by
   refine zf fun hn=>?_
   have:=(h.hid i hi hn).2.2 s hs;grind
  obtain⟨q,E,e⟩:=jK hm;exact⟨q,by rw[<- h.len];exact E,e⟩
 have J:0<T.e (ι.getD r 0) s:=by rw[<- h.ent r s G.lt hs];exact G.pos
 refine⟨h.io G.lt,J,fun i hi hp=>?_,fun i hi hp S=>?_⟩
 .obtain⟨q,E,rfl⟩:=seen i hi hp
  have O:=G.low q E (by rw[h.ent q s E hs];exact hp);rw[h.ent q s E hs,h.ent r s G.lt hs,h.rhs q E,h.rhs r G.lt]at O;exact ao2 J hp O
 .obtain⟨q,E,rfl⟩:=seen i hi hp
  rw[<- h.BH r G.lt,<- h.BH q E];refine G.tie q E (by rw[h.ent q s E hs];exact hp) ?_;rw[h.ent q s E hs,h.ent r s G.lt hs,h.rhs q E,h.rhs r G.lt];have:T.e (ι.getD r 0) s≠0:=by grind
  have:T.e (ι.getD q 0) s≠0:=by grind
  grind
def Oh(p:Prog)(n' d:Nat)(C:Nat->Nat->Rat)(ι:List Nat):Prop:=∀T D,Vq p n' (C 0) T D ι->∀j,j<n'->∀q,q<d->MK D j q=gm p.m T (C q) j
theorem Oh.lp(G:Oh p n' d C ι)(h:Vq p n' (C 0) T D ι){j:Nat}(J:j<n'):Lp d (MK D j)↔Lp d (gv p.m T C j) :=
 ⟨Lp.congr fun q E=>G T D h j J q E,Lp.congr fun q E=>(G T D h j J q E).symm⟩
theorem Vq.step(O:Oh p n' d C ι)(h:Vq p n' (C 0) T D ι){S:TQ}(hs:Og n' d D S) :
  ∃T',Step p.m p.N d C (fun j=>j<n') T T'/\Vq p n' (C 0) T' S ι:=by
 obtain⟨s,r,E,J,rfl⟩:=hs;have Y:=h.leaves E.lt J;have he:Enters p.m p.N d C (fun j=>j<n') T s:=⟨xQ E.lt h.le,E.lt,fun hb=>E.non ((h.mem E.lt).mpr hb),(O.lp h E.lt).mp E.pos,fun j hj G hb hp=>
  E.low j hj (fun hm=>hb ((h.mem G).mp hm)) ((O.lp h G).mpr hp)⟩
 exact⟨_,⟨s,_,he,Y,rfl⟩,h.piv J.lt E.lt (by have:=J.pos;grind)⟩
theorem Vq.aa1(E:Oh p n' d C ι):∀ {k:Nat} {T:Tab} {D:TQ},Vq p n' (C 0) T D ι->aeV p.m p.N d C (fun j=>j<n') k T->Xl n' d k D
 |0,_,_,_,h=>h
 |k+1,T,D,h,hn=>fun O hs=>by
  obtain⟨T',G,J⟩:=h.step E hs;exact Vq.aa1 E J (hn T' G)
theorem G5.run(J:Oh p n' d C ι){D D1:TQ}(O:G5 n' d D D1){T:Tab}(h:Vq p n' (C 0) T D ι)(S:p.Good T){Q:Tab->Prop}(Y:Q T)
  (hs:∀T T',p.Good T->Q T->Step p.m p.N d C (fun j=>j<n') T T'->Q T'):∃E,Vq p n' (C 0) E D1 ι/\p.Good E/\Q E:=by
 induction O with
 |refl=>exact⟨T,h,S,Y⟩
 |tail h1 h2 ih=>
  obtain⟨E,k1,G,k3⟩:=ih;obtain⟨T2,g1,g2⟩:=k1.step J h2;exact⟨T2,g2,G.step g1,hs _ _ G k3 g1⟩
theorem Oi:Oh p n' 1 (fun _=>p.c1) ι:=fun T D h j E q G=>by
 have:q=0:=by omega
 subst this;unfold MK;rw[sO rfl];exact h.cost j E
theorem aa3{D S:TQ}{a1:Bool}(hm:alz p.N 1 D a1 S)(h:Vq p p.N p.c1 p.T0 D ι)(hg:p.Good p.T0)(P5:∀r,r<p.m->r∈ι) :
  ∃T,Vq p p.N p.c1 T S ι/\p.Good T/\(S.c.getD p.N 0=0->Zero p T)/\(S.c.getD p.N 0≠0->p.None):=by
 obtain⟨h1,h2⟩:=hm;obtain⟨E,G,k2,_⟩:=h1.run (Oi (n':=p.N)) h hg (Q:=fun _=>True) trivial (fun _ _ _ _ _=>trivial);have J:S.c.getD p.N 0=sm (fun i=>if p.n<=E.B i then E.b i else 0) p.m:=by
  rw[G.val];unfold zz;have:=bT (-1) (fun i=>E.b i*p.c1 (E.B i)) p.m;have e2:-sm (fun i=>E.b i*p.c1 (E.B i)) p.m= -1*sm (fun i=>E.b i*p.c1 (E.B i)) p.m:=by grind
  rw[e2,<- this];refine bU fun i _=>?_
  unfold Prog.c1
  by_cases hq:E.B i<p.n
  .rw[sO hq,sQ (by omega)];grind
  .rw[sQ hq,sO (by omega)];grind
 have a6:∀q,q<p.m->0<=(if p.n<=E.B q then E.b q else 0):=fun q hq=>by
  split
  .exact k2.ok.nb q hq
  .exact uU
 rcases h2 with ⟨_,h2⟩|⟨_,s,h3,h4⟩
 .have Y:∀j,j<p.N->j<p.N->¬basic p.m E j->¬Lp 1 (gv p.m E (fun _=>p.c1) j):=fun j O _ hb hp=>
   h2 j O (fun hm=>hb ((G.mem (C:=fun _=>p.c1) O).mp hm)) ((Oi.lp G O).mpr hp)
  have hN:∀j,j<p.n->j<p.N:=fun j O=>by unfold Prog.N;omega
  refine⟨E,G,k2,fun hz r hr hB=>?_,fun hz=>?_⟩
  .rw[J]at hz
   have each:∀N (f:Nat->Rat),(∀j,j<N->0<=f j)->sm f N=0->∀j,j<N->f j=0:=by
    intro N f
    induction N with
    |zero=>intro _ _ j O;omega
    |succ N ih=>
     intro hf h0 j O;have h4:=bQ (f:=f) (n:=N) fun j O=>hf j (by omega)
     have h5:=hf N (by omega);have h6:sm f N+f N=0:=h0
     by_cases e:j=N
     .subst e;grind
     .exact ih (fun j O=>hf j (by omega)) (by grind) j (by omega)
   have:=each p.m _ a6 hz r hr;rw[sO hB]at this;exact this
  .rcases Prog.phase1 k2 (Fr:=fun j=>j<p.N) hN Y with h5|h5
   .exfalso
    apply hz;rw[J];refine bK fun i hi=>?_
    split
    .rename_i hB;exact h5 i hi hB
    .rfl
   .exact h5
 .exfalso
  have hs:=h3.lt;refine Prog.acC k2 hs (fun hb=>h3.non ((G.mem (C:=fun _=>p.c1) hs).mpr hb)) ((Oi.lp G hs).mp h3.pos) fun r hr=>?_
  obtain⟨i,hi,rfl⟩:=jK (P5 r hr);rw[G.len]at hi;rw[<- G.ent i s hi hs];exact Rat.not_lt.mp (h4 i hi)
theorem aa4(h:Vq p p.N p.c1 T D ι)(S:p.Good T)(J:Zero p T){i k:Nat}(hi:i<D.R.length)(Y:p.n<=D.B.getD i 0)(hk:k<p.n)(G:Cm D.R i k≠0) :
  Vq p p.N p.c1 (Lp.piv T (ι.getD i 0) k) (Oe D i k) ι/\p.Good (Lp.piv T (ι.getD i 0) k)/\Zero p (Lp.piv T (ι.getD i 0) k):=by
 have E:k<p.N:=by unfold Prog.N;omega
 have O:T.b (ι.getD i 0)=0:=J _ (h.io hi) (by rw[<- h.BH i hi];exact Y);have he:T.e (ι.getD i 0) k≠0:=by rw[<- h.ent i k hi E];exact G
 exact⟨h.piv hi E G,S.as5 (h.io hi) E he O,J.piv (h.io hi) O hk⟩
def pick(n:Nat):List (List Rat)->List Nat->List (List Rat)×List Nat
 |x :: R,b :: B=>if b<n then((x.take n++[x.getLastD 0]) :: (pick n R B).1,b :: (pick n R B).2)else pick n R B
 |_,_=>([],[])
def CY(n:Nat):List Nat->List Nat->List Nat
 |r :: ι,b :: B=>if b<n then r :: CY n ι B else CY n ι B
 |_,_=>[]
def clears:List Rat->List (List Rat)->List Nat->List Rat
 |c,x :: R,b :: B=>clears (LW c x (c.getD b 0)) R B
 |c,_,_=>c
theorem QV(n N:Nat):∀(R:List (List Rat)) (B ι:List Nat),B.length=R.length->ι.length=R.length->(∀x∈R,x.length=N+1)->n<=N ->
  (pick n R B).1.length=(CY n ι B).length/\(pick n R B).2.length=(CY n ι B).length/\(∀x∈(pick n R B).1,x.length=n+1)/\(∀b∈(pick n R B).2,b<n) /\
  (∀q,q<(CY n ι B).length->∃i,i<R.length/\(CY n ι B).getD q 0=ι.getD i 0/\(pick n R B).2.getD q 0=B.getD i 0/\(∀j,j<n->Cm (pick n R B).1 q j=Cm R i j)/\Cm (pick n R B).1 q n=Cm R i N) /\
  List.Sublist (CY n ι B) ι/\(∀i,i<R.length->B.getD i 0<n->ι.getD i 0∈CY n ι B)
 |[],B,ι,hB,P5,_,_=>by
  cases B<;>cases ι<;>simp at hB P5;exact⟨rfl,rfl,fun x S=>by simp[pick]at S,fun b hb=>by simp[pick]at hb,fun q O=>by simp[CY]at O,List.Sublist.refl _,fun i hi=>by simp at hi⟩
 |x :: R,[],ι,hB,_,_,_=>by simp at hB
 |x :: R,b :: B,[],_,P5,_,_=>by simp at P5
 |x :: R,b :: B,r :: ι,hB,P5,hr,hn=>by
  obtain⟨Y,h2,h3,h4,h5,h6,h7⟩:=QV n N R B ι (by simpa using hB) (by simpa using P5) (fun y E=>hr y (zY _ E)) hn;have S:=hr x zO;have J:x.getLastD 0=x.getD N 0:=by
   rw[List.getLastD_eq_getLast?,List.getLast?_eq_getElem?,zx,S];rfl
  unfold pick CY
  by_cases hb:b<n
  .simp only[sO hb]
   refine⟨by simp[Y],by simp[h2],fun y E=>?_,fun y E=>?_,fun q O=>?_,h6.cons_cons _,fun i hi G=>?_⟩
   .rcases List.mem_cons.mp E with rfl|E
    .simp[S];omega
    .exact h3 y E
   .rcases List.mem_cons.mp E with rfl|E
    .exact hb
    .exact h4 y E
   .cases q with
    |zero=>
     refine⟨0,by simp,rfl,rfl,fun j hj=>?_,?_⟩
     .show(x.take n++[x.getLastD 0]).getD j 0=x.getD j 0
      simp only[zx];rw[zU (by simp;omega),um hj]
     .show(x.take n++[x.getLastD 0]).getD n 0=x.getD N 0
      rw[<- J];simp only[zx];rw[zN (by simp;omega)];have:n - (x.take n).length=0:=by simp;omega
      rw[this];rfl
    |succ q=>
     obtain⟨i,g1,g2,g3,g4,g5⟩:=h5 q (by simpa using O);exact⟨i+1,by simpa using g1,g2,g3,g4,g5⟩
   .cases i with
    |zero=>exact zO
    |succ i=>exact zY _ (h7 i (by simpa using hi) G)
  .simp only[sQ hb]
   refine⟨Y,h2,h3,h4,fun q O=>?_,h6.cons _,fun i hi G=>?_⟩
   .obtain⟨i,g1,g2,g3,g4,g5⟩:=h5 q O
    exact⟨i+1,by simpa using g1,g2,g3,g4,g5⟩
   .cases i with
    |zero=>exact absurd G hb
    |succ i=>exact h7 i (by simpa using hi) G
end
end Go.Lp
namespace Go.Lp
section
variable {p:Prog} {T:Tab} {D:TQ} {ι:List Nat} {M n' d:Nat}
def F6(c:List Rat)(j:Nat):List (List Rat)->List Nat->Rat
 |x :: R,b :: B=>c.getD b 0*x.getD j 0+F6 c j R B
 |_,_=>0
theorem Oj{c c':List Rat}{j:Nat}:∀ {R:List (List Rat)} {B:List Nat},(∀b∈B,c.getD b 0=c'.getD b 0)->F6 c j R B=F6 c' j R B
 |[],[],_=>rfl
 |[],_ :: _,_=>rfl
 |_ :: _,[],_=>rfl
 |x :: R,b :: B,h=>by
  unfold F6;rw[h b zO,Oj fun q E=>h q (zY _ E)]
def Units:List (List Rat)->List Nat->Prop
 |x :: R,_ :: B=>(∀b'∈B,x.getD b' 0=0)/\Units R B
 |_,_=>True
theorem Ko{n:Nat}:∀ {R:List (List Rat)} {B:List Nat} {c:List Rat},c.length=n->(∀x∈R,x.length=n)->(∀b∈B,b<n)->Units R B->B.length=R.length ->
  (clears c R B).length=n/\∀j,j<n->(clears c R B).getD j 0=c.getD j 0-F6 c j R B
 |[],[],c,hc,_,_,_,_=>⟨hc,fun j _=>by unfold clears F6;grind⟩
 |[],_ :: _,c,_,_,_,_,h=>by simp at h
 |_ :: _,[],c,_,_,_,_,h=>by simp at h
 |x :: R,b :: B,c,hc,hx,hb,hu,hl=>by
  have J:=hx x zO;have G:(LW c x (c.getD b 0)).length=n:=by rw[pO (by omega)];exact hc
  obtain⟨O,S⟩:=Ko (R:=R) (B:=B) G (fun y Y=>hx y (zY _ Y)) (fun q E=>hb q (zY _ E)) hu.2 (by simpa using hl);refine⟨O,fun j hj=>?_⟩;show(clears (LW c x (c.getD b 0)) R B).getD j 0=c.getD j 0 - (c.getD b 0*x.getD j 0+F6 c j R B);rw[S j hj,I9 (by omega) (by omega),Oj (c':=c) fun q E=>by
   rw[I9 (by omega) (by have:=hb q (zY _ E);omega),hu.1 q E];grind]
  grind
theorem TS(c:List Rat)(j:Nat)(f g:Nat->Rat):∀(R:List (List Rat)) (B l:List Nat),l.length=R.length->B.length=R.length->(∀i,i<R.length->Cm R i j=f (l.getD i 0))->(∀i,i<R.length->c.getD (B.getD i 0) 0=g (l.getD i 0)) ->
  F6 c j R B=sl (fun r=>f r*g r) l
 |[],[],[],_,_,_,_=>rfl
 |[],_ :: _,_,_,h,_,_=>by simp at h
 |[],[],_ :: _,h,_,_,_=>by simp at h
 |_ :: _,[],_,_,h,_,_=>by simp at h
 |_ :: _,_ :: _,[],h,_,_,_=>by simp at h
 |x :: R,b :: B,a :: l,h1,h2,h3,h4=>by
  have E:x.getD j 0=f a:=h3 0 (by simp);have G:c.getD b 0=g a:=h4 0 (by simp);have J:=TS c j f g R B l (by simpa using h1) (by simpa using h2) (fun i hi=>h3 (i+1) (by simpa using hi)) (fun i hi=>h4 (i+1) (by simpa using hi));show c.getD b 0*x.getD j 0+F6 c j R B=f a*g a+sl _ l;rw[E,G,J];grind
theorem acF(q j:Nat)(f:Nat->Rat)(g:Nat->Nat):∀(R:List (List Rat)) (B l:List Nat),l.length=R.length->B.length=R.length->(∀i,i<R.length->Cm R i j=f (l.getD i 0))->(∀i,i<R.length->B.getD i 0=g (l.getD i 0)) ->
  I_ q j R B=sl (fun r=>if g r=q then f r else 0) l
 |[],[],[],_,_,_,_=>rfl
 |[],_ :: _,_,_,h,_,_=>by simp at h
 |[],[],_ :: _,h,_,_,_=>by simp at h
 |_ :: _,[],_,_,h,_,_=>by simp at h
 |_ :: _,_ :: _,[],h,_,_,_=>by simp at h
 |x :: R,b :: B,a :: l,h1,h2,h3,h4=>by
  have E:x.getD j 0=f a:=h3 0 (by simp);have G:b=g a:=h4 0 (by simp);have J:=acF q j f g R B l (by simpa using h1) (by simpa using h2) (fun i hi=>h3 (i+1) (by simpa using hi)) (fun i hi=>h4 (i+1) (by simpa using hi));show(if b=q then x.getD j 0 else 0)+I_ q j R B=(if g a=q then f a else 0)+sl _ l;rw[E,G,J]
theorem Xm{R:List (List Rat)}:∀ {k:Nat} {B:List Nat},B.length=(R.drop k).length->(∀i q,i<R.length->q<R.length->i<q->k<=i->Cm R i (B.getD (q-k) 0)=0)->Units (R.drop k) B:=by
 intro k B
 induction hn:(R.drop k).length generalizing k B with
 |zero=>
  intro E _;have:B=[]:=zZ E;subst this;have:R.drop k=[]:=zZ hn;rw[this];trivial
 |succ n Y=>
  intro E h;have G:k<R.length:=by simp at hn;omega
  rw[yS G];cases B with
  |nil=>simp at E
  |cons b B=>
   have J:B.length=n:=by simpa using E
   refine⟨fun b' O=>?_,Y (k:=k+1) (by simp at hn⊢;omega) J fun i q hi hq S hle=>?_⟩
   .obtain⟨t,ht,e⟩:=jK O
    have hlen:n+1+k=R.length:=by simp at hn;omega
    have:=h k (k+1+t) G (by omega) (by omega) (zq _);rw[show k+1+t-k=t+1 by omega]at this;have e2:(b :: B).getD (t+1) 0=b':=e;rw[e2]at this;have e3:R[k].getD b' 0=Cm R k b':=by
     have:R.getD k []=R[k]:=by
      rw[zx,zy G];rfl
     unfold Cm;rw[this]
    rw[e3];exact this
   .have:=h i q hi hq S (by omega)
    rw[show q-k=(q - (k+1))+1 by omega]at this;exact this
theorem Xn(h:Vq p p.N p.c1 T D ι)(hg:p.Good T)(P5:∀r,r<p.m->r∈ι)(hz:Zero p T)(a8:∀i,i<D.R.length->p.n<=D.B.getD i 0->∀j,j<p.n->Cm D.R i j=0){cs:List Rat}(b7:cs.length=p.n+1)(b2:∀j,j<p.n->cs.getD j 0=p.c j)(b8:cs.getD p.n 0=0) :
  Vq p p.n (p.C 0) T ⟨(pick p.n D.R D.B).1,(pick p.n D.R D.B).2,clears cs (pick p.n D.R D.B).1 (pick p.n D.R D.B).2⟩ (CY p.n ι D.B):=by
 obtain⟨E,h2,h3,h4,h5,h6,h7⟩:=QV p.n p.N D.R D.B ι h.Bq h.len h.row (by unfold Prog.N;omega);have hN:∀j,j<p.n->j<p.N:=fun j S=>by unfold Prog.N;omega
 have J:∀i j,i<(pick p.n D.R D.B).1.length->j<p.n->Cm (pick p.n D.R D.B).1 i j=T.e ((CY p.n ι D.B).getD i 0) j:=fun i j hi S=>by
  obtain⟨q,g1,g2,g3,g4,g5⟩:=h5 i (by rw[<- E];exact hi);rw[g4 j S,h.ent q j g1 (hN j S),g2]
 have a6:∀i,i<(pick p.n D.R D.B).1.length->Cm (pick p.n D.R D.B).1 i p.n=T.b ((CY p.n ι D.B).getD i 0):=fun i hi=>by
  obtain⟨q,g1,g2,g3,g4,g5⟩:=h5 i (by rw[<- E];exact hi);rw[g5,h.rhs q g1,g2]
 have a7:∀i,i<(pick p.n D.R D.B).1.length->(pick p.n D.R D.B).2.getD i 0=T.B ((CY p.n ι D.B).getD i 0):=fun i hi=>by
  obtain⟨q,g1,g2,g3,g4,g5⟩:=h5 i (by rw[<- E];exact hi);rw[g3,h.BH q g1,g2]
 have a1:(CY p.n ι D.B).Nodup:=h.nd.sublist h6;have G:∀r∈CY p.n ι D.B,r<p.m:=fun r Y=>h.lt r (h6.subset Y)
 have b3:∀r,r<p.m->r∉CY p.n ι D.B->p.n<=T.B r/\T.b r=0/\∀j,j<p.n->T.e r j=0:=fun r Y hn=>by
  obtain⟨i,hi,rfl⟩:=jK (P5 r Y);rw[h.len]at hi;have hB:p.n<=D.B.getD i 0:=Nat.le_of_not_lt fun G=>hn (h7 i hi G)
  have b4:p.n<=T.B (ι.getD i 0):=by rw[<- h.BH i hi];exact hB
  exact⟨b4,hz _ Y b4,fun j S=>by rw[<- h.ent i j hi (hN j S)];exact a8 i hi hB j S⟩
 have O:∀i,i<(pick p.n D.R D.B).1.length->(pick p.n D.R D.B).2.getD i 0<p.n:=fun i hi=>h4 _ (lF (by rw[h2,<- E];exact hi))
 have b9:Units (pick p.n D.R D.B).1 (pick p.n D.R D.B).2:=by
  have:=Xm (R:=(pick p.n D.R D.B).1) (k:=0) (B:=(pick p.n D.R D.B).2) (by rw[yg,h2,E]) fun i q hi hq c0 _=>by
   rw[Nat.sub_zero,J i _ hi (O q hq),a7 q hq,hg.ok.un _ _ (G _ (lF (by rw[<- E];exact hi))) (G _ (lF (by rw[<- E];exact hq)))];rw[sQ fun e=>by have:=lG a1 (by rw[<- E];exact hi) (by rw[<- E];exact hq) e;omega]
  rwa [yg]at this
 obtain⟨k1,k2⟩:=Ko (n:=p.n+1) b7 h3 (fun b hb=>by have:=h4 b hb;omega) b9 (by rw[h2,E]);have b5:∀i,i<(pick p.n D.R D.B).1.length->cs.getD ((pick p.n D.R D.B).2.getD i 0) 0=p.C 0 (T.B ((CY p.n ι D.B).getD i 0)):=fun i hi=>by
  rw[b2 _ (O i hi),<- a7 i hi];unfold Prog.C;rw[sO rfl,sO (O i hi)]
 have b6:∀r,r<p.m->r∉CY p.n ι D.B->p.C 0 (T.B r)=0:=fun r Y hn=>Prog.QU 0 (b3 r Y hn).1
 refine⟨E.symm,by rw[h2,E],k1,h3,G,a1,by unfold Prog.N;omega,J,a6,a7,fun j S=>?_,?_,b3⟩
 .show(clears _ _ _).getD j 0=_
  rw[k2 j (by omega),TS cs j (fun r=>T.e r j) (fun r=>p.C 0 (T.B r)) _ _ _ E.symm (by rw[h2,E]) (fun i hi=>J i j hi S) b5,Xh a1 G fun r Y hn=>by rw[b6 r Y hn];grind,b2 j S];unfold gm;have:p.C 0 j=p.c j:=by unfold Prog.C;rw[sO rfl,sO S]
  rw[this]
 .show(clears _ _ _).getD p.n 0=_
  rw[k2 p.n (by omega),TS cs p.n T.b (fun r=>p.C 0 (T.B r)) _ _ _ E.symm (by rw[h2,E]) a6 b5,Xh a1 G fun r Y hn=>by rw[b6 r Y hn];grind,b8];unfold zz;grind
theorem Ol:Oh p p.n (p.n+1) p.C ι:=fun T D h j G q hq=>by
 unfold MK
 by_cases E:q=0
 .subst E
  rw[sO rfl];exact h.cost j G
 .rw[sQ E,acF (q-1) j (fun r=>T.e r j) T.B D.R D.B ι h.len h.Bq (fun i hi=>h.ent i j hi G) h.BH,Xh h.nd h.lt fun r J hn=>by
   have:=(h.hid r J hn).1;rw[sQ (by omega)]]
  unfold gm;have O:p.C q j=if j+1=q then -1 else 0:=by
   unfold Prog.C;rw[sQ E]
   by_cases e:j+1=q
   .rw[sO e,sO ⟨e,G⟩]
   .rw[sQ e,sQ fun h=>e h.1]
  have S:sm (fun i=>T.e i j*p.C q (T.B i)) p.m= -sm (fun r=>if T.B r=q-1 then T.e r j else 0) p.m:=by
   have:=bT (-1) (fun r=>if T.B r=q-1 then T.e r j else 0) p.m;have Y:-sm (fun r=>if T.B r=q-1 then T.e r j else 0) p.m= -1*sm (fun r=>if T.B r=q-1 then T.e r j else 0) p.m:=by grind
   rw[Y,<- this];refine bU fun i _=>?_
   unfold Prog.C;rw[sQ E]
   by_cases e:T.B i=q-1
   .rw[sO e,sO (by omega)];grind
   .rw[sQ e,sQ (by omega)];grind
  rw[O,S];grind
theorem aa5{D':TQ}{O:Bool}(hm:alz p.n (p.n+1) D O D')(h:Vq p p.n (p.C 0) T D ι)(hg:p.Good T)(ho:p.Out T) :
  ∃T',Vq p p.n (p.C 0) T' D' ι/\p.Good T'/\p.Out T'/\(O=true->p.Best (BH p.m T'))/\(O=false->p.Open):=by
 obtain⟨h1,E⟩:=hm;obtain⟨T1,G,k2,k3⟩:=h1.run Ol h hg (Q:=fun T=>p.Out T) ho (fun T T' _ S a1=>by
  obtain⟨s,r,g1,g2,rfl⟩:=a1
  by_cases hB:T.B r<p.n
  .exact S.piv hB g1.fr
  .have:=(S.z r g2.lt (by omega)).2 s g1.fr
   have:=g2.pos;grind)
 refine⟨T1,G,k2,k3,fun e=>?_,fun e=>?_⟩
 .rcases E with ⟨_,E⟩|⟨E,_⟩
  .exact Prog.ahC k2 k3 fun j hj hb hp=>E j hj (fun hm=>hb ((G.mem hj).mp hm)) ((Ol.lp G hj).mpr hp)
  .rw[e]at E;cases E
 .rcases E with ⟨E,_⟩|⟨_,s,J,h4⟩
  .rw[e]at E;cases E
  .have Y:¬basic p.m T1 s:=fun hb=>J.non ((G.mem J.lt).mpr hb)
   have Gx:∀i,i<p.m->T1.e i s<=0:=fun i hi=>by
    by_cases hm:i∈ι
    .obtain⟨q,S,rfl⟩:=jK hm
     rw[G.len]at S;rw[<- G.ent q s S J.lt];exact Rat.not_lt.mp (h4 q S)
    .rw[(G.hid i hi hm).2.2 s J.lt];exact uU
   exact Prog.N_ k2 k3 J.lt Y (Prog.aeW k2 J.lt Y ((Ol.lp G J.lt).mp J.pos) Gx) Gx
theorem atd{C:Nat->Rat}(h:Vq p n' C T D ι)(E:p.Good T){i:Nat}(hi:i<D.R.length):Cm D.R i n'=BH p.m T (D.B.getD i 0):=by
 rw[h.rhs i hi,h.BH i hi,IZ E.ok (h.io hi)]
theorem ao3(h:Vq p p.n (p.C 0) T D ι)(E:p.Good T):-D.c.getD p.n 0=ob p.n p.c (BH p.m T):=by
 rw[h.val,<- Prog.anv,<- Prog.aa0 E];grind
end
end Go.Lp
namespace Go.Proofs.YtjknobpihkmilaaGreat
open Go Go.TV
theorem ate{U V v1 top P g Vr Ur:Int}(hg:0<=g)(G:0<=P)(J:V=v1*P+Vr)(E:0<=Vr)(O:U=top*P+Ur)(S:Ur<P)(h:top<(g+1)*v1):U<(g+1)*V:=by
 have Y:(top+1)*P<=(g+1)*v1*P:=zS (by omega) G;have h2:0<=(g+1)*Vr:=vV (by omega) E;subst J O;rw[xg,<- uh];rw[Int.add_mul top]at Y;omega
theorem alA{U V g B:Int}(E:0<=V)(h:U<V*B)(G:B<=g):U<g*V:=by
 have:=zS G E;rw[Int.mul_comm V B]at h;omega
theorem ao4{U V v1 v2 top rest E P g B Vr Ur:Int}(J:0<=g)(O:0<=P)(S:V=(v1*B+v2)*P+Vr)(G:0<=Vr)(Y:U=(top*B+E)*P+Ur)(a1:Ur<P)(hr:rest=top-g*v1)(h:rest*B+E<g*v2):U<g*V:=by
 have e:g*(v1*B+v2)=g*v1*B+g*v2:=by rw[xg,uh]
 have e2:rest*B=top*B-g*v1*B:=by rw[hr,uF]
 have h1:(top*B+E+1)*P<=g*(v1*B+v2)*P:=zS (by omega) O;have h2:0<=g*Vr:=vV J G;subst S Y;rw[xg,<- uh];rw[Int.add_mul (top*B+E)]at h1;omega
theorem atg{U V v1 v2 top rest E P g B Vr Ur:Int}(Y:0<=g)(G:g<=B)(hB:0<=B)(J:0<=P)(O:1<=v1)(a1:0<=v2)(hV:V=(v1*B+v2)*P+Vr)(a6:0<=Vr)(S:Vr<=P)(hU:U=(top*B+E)*P+Ur)(a7:0<=Ur)(hr:rest=top-g*v1)(h:g*v2<=rest*B+E):(g-1)*V<=U:=by
 have e:g*(v1*B+v2)=g*v1*B+g*v2:=by rw[xg,uh]
 have e2:rest*B=top*B-g*v1*B:=by rw[hr,uF]
 have h1:g*(v1*B+v2)*P<=(top*B+E)*P:=zS (by omega) J;have h2:g*Vr<=B*P:=Int.le_trans (zB S Y) (zS G J);have h3:1*B<=v1*B:=zS O hB;have h4:B*P<=(v1*B+v2)*P:=zS (by omega) J;have e3:g*V=g*(v1*B+v2)*P+g*Vr:=by rw[hV,xg,uh]
 rw[uF,Int.one_mul,e3];omega
theorem ao5{U V v1 v2 top rest E P g B Vr Ur:Int}(Y:0<=g)(J:g<=B)(S:0<=B)(G:0<=P)(a1:v2<B)(hV:V=(v1*B+v2)*P+Vr)(a6:Vr<=P)(hU:U=(top*B+E)*P+Ur)(a7:0<=Ur)(O:0<=E)(hr:rest=top-g*v1)(h:B<=rest):g*V<=U:=by
 have h1:v2*P+P<=B*P:=by
  have:=zS (c:=P) (show v2+1<=B by omega) G;rw[Int.add_mul]at this;omega
 have h2:g*(v2*P+Vr)<=B*(B*P):=Int.le_trans (zB (show v2*P+Vr<=B*P by omega) Y) (zS J (vV S G));have h3:g*v1*(B*P)<=(top-B)*(B*P):=zS (by omega) (vV S G);have h4:0<=E*P:=vV O G;have e1:g*V=g*v1*(B*P)+g*(v2*P+Vr):=by rw[hV];grind
 have e2:U=top*(B*P)+E*P+Ur:=by rw[hU];grind
 rw[uF]at h3;omega
theorem ahG{U V g:Int}(E:U<(g+1)*V)(G:(g-1)*V<=U):(0<=U-g*V/\U-g*V<V)\/(U-g*V<0/\0<=U - (g-1)*V/\U - (g-1)*V<V):=by
 rw[Int.add_mul]at E;have e:(g-1)*V=g*V-V:=by rw[uF];omega
 rw[e]at G⊢;omega
theorem Xo{lo t P X:Int}(G:0<=lo)(J:lo<P)(O:0<=X)(S:X<P)(e:X=lo+P*t):t=0:=by
 have E:0<P:=by omega
 rcases Int.lt_trichotomy t 0 with h|h|h
 .have:=zB (show t<= -1 by omega) (x9 E)
  omega
 .exact h
 .have:=zB (show 1<=t by omega) (x9 E)
  omega
theorem alC{lo t P X:Int}(G:0<=lo)(J:lo<P)(O:-P<=X)(S:X<0)(e:X=lo+P*t):t= -1:=by
 have E:0<P:=by omega
 rcases Int.lt_trichotomy t (-1)with h|h|h
 .have:=zB (show t<= -2 by omega) (x9 E)
  omega
 .exact h
 .have:=zB (show 0<=t by omega) (x9 E)
  omega
theorem ae4{u g n c:Int}(hu:0<=u/\u<1000000000)(E:0<=g/\g<1000000000)(hn:0<=n/\n<1000000000)(hc:0<=c/\c<=1000000000) :
  -999999999000000001<=u-g*n-c/\u-g*n-c<1000000000/\0<=g*n/\g*n<=999999998000000001:=by
 have G:g*n<=999999999*999999999:=Int.le_trans (zS (show g<=999999999 by omega) hn.1) (zB (by omega) (by decide));have J:=vV E.1 hn.1;omega
theorem ahI{b1:Int}(Y:0<b1)(h1:b1<1000000000):1<=1000000000 / (b1+1)/\1000000000 / (b1+1)*(b1+1)<=1000000000/\500000000<=b1*(1000000000 / (b1+1))/\1000000000 / (b1+1)<=500000000:=by
 have G:1<=1000000000 / (b1+1):=(Int.le_ediv_iff_mul_le (by omega)).mpr (by omega);have hm:1000000000 / (b1+1)*(b1+1)<=1000000000:=Int.ediv_mul_le _ (by omega);have J:=Int.lt_ediv_add_one_mul_self 1000000000 (show 0<b1+1 by omega);refine⟨G,hm,?_,?_⟩
 .generalize 1000000000 / (b1+1)=q at *
  have e1:q*(b1+1)=q*b1+q:=by rw[xg,Int.mul_one]
  have e2:(q+1)*(b1+1)=q*b1+q+b1+1:=by rw[Int.add_mul];omega
  rw[Int.mul_comm b1 q]
  by_cases h:q<=b1
  .have O:1*b1<=q*b1:=zS G (by omega)
   by_cases h4:q+b1+1<=500000000
   .omega
   .by_cases E:2<=q
    .have:2*b1<=q*b1:=zS E (by omega)
     by_cases h6:250000000<=b1
     .omega
     .omega
    .have:q=1:=by omega
     subst this;omega
  .have O:b1*q≥b1*(b1+1):=zB (by omega) (by omega)
   have S:1*q<=b1*q:=zS (by omega) (by omega);rw[Int.mul_comm b1 q]at S
   by_cases E:2<=b1
   .have:q*2<=q*b1:=zB E (by omega)
    omega
   .have:b1=1:=by omega
    subst this;omega
 .have:=zB (show 2<=b1+1 by omega) (show 0<=1000000000 / (b1+1) by omega)
  omega
def Eu:FuncId->Conv:=fun f=>if f∈([179,205]:List Nat)then .own else if f∈([208,206,207]:List Nat)then .inl else .KI
abbrev ae5:List Nat:=[176,179,205,208,206,207]
noncomputable def Ja:Ext:=fun f=>if f∈ae5 then none else some fun args σ nx=>ev ZM conv ext f args σ nx
theorem ao6:Iw ZM Ja:=fun f g h args σ nx v σ' nx' E=>by
 unfold Ja at h
 split at h
 .cases h
 .cases h
  exact mg (by kernel_rfl) ag9 f args σ nx v σ' nx' E
theorem ath{f:FuncId}(h:List.contains ae5 f=false):¬f∈ae5:=fun e=>by
 rw[List.contains_iff_mem.mpr e]at h;cases h
theorem fnO{f:FuncId}(h:List.contains ae5 f=false)(ts:List V):fn ZM Eu Ja f ts=fn ZM conv ext f ts:=by
 rw[mJ,mJ,n_ (g:=fun args σ nx=>ev ZM conv ext f args σ nx) (by unfold Ja;rw[sQ (ath h)])]
theorem cvO{f:FuncId}(h:List.contains ae5 f=false):Eu f= .KI:=by
 have E:=ath h;unfold Eu;simp only[ae5,zX,zK,or_false,not_or]at E;simp only[zX,zK,or_false,E,if_false]
theorem ahJ:Eu 179= .own:=id rfl
theorem ahK:Eu 205= .own:=id rfl
theorem alD:Eu 208= .inl:=id rfl
theorem alE:Eu 206= .inl:=id rfl
theorem alF:Eu 207= .inl:=id rfl
attribute [go_sem] fnO cvO ahJ ahK alD alE alF
theorem acG{σ:Store}{nx b:Nat}{xs:List Int}(hb:σ b=some ⟨xs.flatMap cI,1,true⟩)(ha:Short xs):ev ZM Eu Ja 208 [.rs b 0 xs.length] σ nx=some (.rs b 0 (Bl xs).length,σ,nx):=by
 unfold Short at ha;rw[nC [.tmp 2] [] func208];simp only[go_sem];generalize hL:iI _ _=y;obtain⟨r,rfl,T',rfl,S⟩:=jS hL (fun k st=>∃T,st=⟨T,σ,nx⟩/\T 0= .rs b 0 k/\k<=xs.length/\Bl (xs.take k)=Bl xs) (fun r=>∃T,r=(.exit 0,⟨T,σ,nx⟩)/\T 0= .rs b 0 (Bl xs).length) (by
  clear hL;rintro k _ ⟨T,rfl,G,hk,E⟩;cases k with
  |zero=>
   have f0:¬(0:Int)<0:=by decide
   refine .inr ⟨_,by simp only[go_sem,G,f0];rfl,by simp,_,rfl,?_⟩;simp only[go_sem,G];rw[<- E];rfl
  |succ k=>
   have J:k<xs.length:=by omega
   have f0:(0:Int)<((k+1:Nat):Int):=by omega
   have e5:((k+1:Nat):Int) - 1=(k:Int):=by omega
   have e2:=ZU (n:=(k:Int));have f1:=jF k;have f2:(k:Int)<((k+1:Nat):Int):=by omega
   have f6:=idx J;have f7:k<=k+1:=by omega
   have f8:k<=xs.length:=by omega
   rw[aH J,Zp]at E
   by_cases O:xs[k]=0
   .have Y:(xs[k]==(0:Int))=true:=by simpa using O
    rw[sO O]at E;refine .inl ⟨_,by simp only[go_sem,G,hb,f0,e5,e2,f1,f2,f6,f7,f8,Y,wF];rfl,k,by omega,_,rfl,?_,by omega,E⟩;simp only[go_sem]
   .have Y:(xs[k]==(0:Int))=false:=by simpa using O
    rw[sQ O]at E;refine .inr ⟨_,by simp only[go_sem,G,hb,f0,e5,e2,f1,f2,f6,f7,Y];rfl,by simp,_,rfl,?_⟩;simp only[go_sem];rw[G,<- E];simp;omega) xs.length ⟨_,rfl,by simp only[go_sem],zq _,by rw[yT]⟩
 simp only[go_sem,S]
theorem ahL(m n:Nat)(hm:ln m<=1000000)(hn:ln n<=1000000)(zm:m≠0)(zn:n≠0)(nx:Nat):∃b2 P,ev ZM Eu Ja 179 [LI (dg m),LI (dg n)] pI nx=some (.rs nx 0 (ln (m*n)),b2,nx+1)/\b2 nx=some ⟨P.flatMap cI,1,true⟩/\P.length=ln m+ln n/\Dg P/\vl P=(m*n:Nat):=by
 unfold ln at hm hn;rw[nC [.tmp 4] [] func179];have cm:((((dg m).length:Nat):Int)==0)=false:=by rw[sN];have:=rC (oO zm);omega
 have cn:((((dg n).length:Nat):Int)==0)=false:=by rw[sN];have:=rC (oO zn);omega
 have pn:0<(dg n).length:=List.length_pos_iff.mpr (oO zn);obtain⟨e1,e2,e3⟩:=jQ (k:=(dg m).length+(dg n).length) (by omega);have e0:((dg m).length:Int)+((dg n).length:Int)=(((dg m).length+(dg n).length:Nat):Int):=by omega
 have e4:=ZU (n:=(((dg m).length+(dg n).length:Nat):Int)) (by omega) (by omega);simp only[go_sem,cm,cn,e0,e1,e2,e3,e4];generalize hL:iI _ _=y;obtain⟨r,rfl,T',σ',P,rfl,S,E,hP,hd,hv⟩:=oZ hL (dg m).length (fun k st=>st.T 1=LI (dg n)/\st.T 5= .rs nx 0 ((dg m).length+(dg n).length)/\st.T 26=LI (dg m)/\st.T 27=I (dg m).length/\st.T 28=I k/\st.nx=nx+1/\∃P,st.σ nx=some ⟨FW P ((dg m).length-k),1,true⟩/\P.length=k+(dg n).length/\Dg P/\vl P=vl ((dg m).take k)*n)
  (fun r=>∃T σ P,r=(.exit 0,⟨T,σ,nx+1⟩)/\T 5= .rs nx 0 ((dg m).length+(dg n).length)/\σ nx=some ⟨P.flatMap cI,1,true⟩/\P.length=(dg m).length+(dg n).length/\Dg P/\vl P=(m*n:Nat)) (by
   clear hL;rintro k ⟨T,σ,GX⟩ a8 ⟨Y,S,E_,G,J,O,P,E,hP,hd,hv⟩;simp only at Y S E_ G J O E;subst O;have f1:(k:Int)<((dg m).length:Int):=by omega
   have f2:=jF k;have f3:=ZU (n:=(k:Int)+1);have f5:=Ba (dg m) k a8;have f6:=idx a8;obtain⟨x,hx⟩:∃x,x=(dg m)[k]:=⟨_,rfl⟩;have xr:=(oU m).get a8;rw[<- hx]at f6 xr;have v1:=Za a8;rw[<- hx]at v1;obtain⟨g,hg⟩:∃g,(dg m).length-k=g+1:=⟨(dg m).length-k-1,by omega⟩;have b3:(dg m).length - (k+1)=g:=by omega
   rw[hg]at E;refine bD ?_
   conv=>
    enter [1,r,1,1]
    simp only[go_sem,Y,S,E_,G,J,f1,f2,f5,f6]
   generalize hL:iI _ _=z;obtain⟨r,rfl,T',σ',c,W,rfl,Y,S,h6,h8,E_,G,J,E,hW,hd,hv,a1,a6⟩:=oZ hL (dg n).length (fun j st=>st.T 1=LI (dg n)/\st.T 5= .rs nx 0 ((dg m).length+(dg n).length)/\st.T 6=I k/\st.T 7=I x/\st.T 26=LI (dg m)/\st.T 27=I (dg m).length/\st.T 28=I k/\st.T 33=LI (dg n)/\st.T 34=I (dg n).length/\st.T 35=I j/\st.nx=nx+1/\∃c W,st.T 8=I c/\st.σ nx=some ⟨FW W (g+1),1,true⟩/\W.length=k+(dg n).length/\Dg W/\vl W+bp (k+j)*c=vl ((dg m).take k)*n+bp k*(x*vl ((dg n).take j))/\0<=c/\c<1000000000)
    (fun r=>∃T σ c W,r=(.exit 2,⟨T,σ,nx+1⟩)/\T 1=LI (dg n)/\T 5= .rs nx 0 ((dg m).length+(dg n).length)/\T 6=I k/\T 8=I c/\T 26=LI (dg m)/\T 27=I (dg m).length/\T 28=I k/\σ nx=some ⟨FW W (g+1),1,true⟩/\W.length=k+(dg n).length/\Dg W/\vl W+bp (k+(dg n).length)*c=vl ((dg m).take k)*n+bp k*(x*n)/\0<=c/\c<1000000000) (by
     clear hL;rintro j ⟨T,σ,GX⟩ hj ⟨Y,S,h6,h7,E_,G,J,WX,QJ,a7,O,c,W,h8,E,hW,hd,hv,a1,a6⟩;simp only at Y S h6 h7 h8 E_ G J WX QJ a7 O E;subst O;have g1:(j:Int)<((dg n).length:Int):=by omega
     have g2:=jF j;have g3:=ZU (n:=(j:Int)+1);have g5:=Ba (dg n) j hj;have g6:=idx hj;obtain⟨b,hb⟩:∃b,b=(dg n)[j]:=⟨_,rfl⟩;have br:=(oU n).get hj;rw[<- hb]at g6 br;have v2:=Za hj;rw[<- hb]at v2;have p0:(k:Int)+(j:Int)=((k+j:Nat):Int):=by omega
     have p1:=ZU (n:=((k+j:Nat):Int));have p2:(0:Int)<=((k+j:Nat):Int):=by omega
     have p3:((k+j:Nat):Int)<(((dg m).length+(dg n).length:Nat):Int):=by omega
     have p4:k+j<W.length:=by omega
     have p5:=TA (o:=W) (g+1) p4;have p6:k+j<(FW W (g+1)).length:=by rw[mY];omega
     obtain⟨w,hw⟩:∃w,w=W[k+j]:=⟨_,rfl⟩;have wr:=hd.get p4;rw[<- hw]at p5 wr;have mm:=TB (x:=x) (y:=b) (c:=c) (w:=w) xr br ⟨a1,a6⟩ wr;have w1:=ZU (n:=x*b);have w2:=ZU (n:=w+x*b);have w3:=ZU (n:=w+x*b+c);obtain⟨q1,q2⟩:=aG (n:=w+x*b+c) (by omega);have w4:=ZU (n:=(w+x*b+c) / 1000000000);have c6:=mW (g+1) ((w+x*b+c)%1000000000) p4;have vs:=aaT p4 ((w+x*b+c)%1000000000);rw[<- hw]at vs;refine .inl ⟨_,by simp only[go_sem,Y,S,h6,h7,h8,E_,G,J,WX,QJ,a7,E,g1,g2,g3,g5,g6,p0,p1,p2,p3,p5,p6,w1,w2,w3,w4,q1,q2,c6];rfl,?_⟩;simp only[go_sem,Y,S,h6,h7,E_,G,J,WX,QJ];refine⟨rfl,_,_,rfl,rfl,by rw[yP];exact hW,hd.set _ (by omega) (by omega),?_,by omega,by omega⟩;rw[vs,show k+(j+1)=k+j+1 by omega,qW,J5 (c:=c) (x:=x) (b:=b) (by omega) hv (.inr trivial),v2,Tv];grind) (by
     clear hL;rintro ⟨T,σ,GX⟩ ⟨Y,S,h6,h7,E_,G,J,WX,QJ,a7,O,c,W,h8,E,hW,hd,hv,a1,a6⟩;simp only at Y S h6 h7 h8 E_ G J WX QJ a7 O E;subst O;rw[yT,Zf]at hv;refine⟨_,by simp only[go_sem,QJ,a7,zi];rfl,by simp,_,_,c,W,rfl,?_⟩;simp only[go_sem,Y,S,h6,h8,E_,G,J];exact⟨E,hW,hd,hv,a1,a6⟩) (by
     simp only[go_sem,Y,S,E_,G,J];exact⟨0,P,rfl,E,hP,hd,by rw[vk,hv];simp[vl],xP _,by decide⟩)
   have p0:(k:Int)+((dg n).length:Int)=((k+(dg n).length:Nat):Int):=by omega
   have p1:=ZU (n:=((k+(dg n).length:Nat):Int)) (by omega) (by omega);have p2:(0:Int)<=((k+(dg n).length:Nat):Int):=by omega
   have p3:((k+(dg n).length:Nat):Int)<(((dg m).length+(dg n).length:Nat):Int):=by omega
   have p6:k+(dg n).length<(FW W (g+1)).length:=by rw[mY];omega
   have c6:=mX W g c hW;refine⟨_,by simp only[go_sem,Y,S,h6,h8,E_,G,J,E,f3,p0,p1,p2,p3,p6,c6];rfl,.inl ⟨_,rfl,?_⟩⟩;simp only[go_sem,Y,S,E_,G,b3];refine⟨rfl,_,rfl,by simp[hW];omega,hd.snoc a1 a6,?_⟩;rw[Zc,hW,hv,v1];grind) (by
   clear hL;rintro ⟨T,σ,GX⟩ ⟨Y,S,E_,G,J,O,P,E,hP,hd,hv⟩;simp only at Y S E_ G J O E;subst O;rw[yM,mZ]at E;refine⟨_,by simp only[go_sem,G,J,zi];rfl,by simp,_,_,P,rfl,by simp only[go_sem,S],E,hP,hd,?_⟩;rw[hv,yT,Zf,yj]) (by
   simp only[go_sem];refine⟨List.replicate (dg n).length 0,?_,by simp,fun x hx=>by rw[List.mem_replicate]at hx;omega,(aaS _).trans (by simp[vl])⟩;congr 2;unfold FW;rw[show List.flatMap cI (List.replicate (dg n).length 0)=rep (dg n).length [I 0] by unfold rep;rw[uV]];unfold rep;rw[<- List.flatten_append,wG,wQ])
 have ht:=acG (σ:=σ') (nx:=nx+1) (b:=nx) (xs:=P) E (by unfold Short;omega);rw[CW hd hv,hP]at ht;refine⟨σ',P,by simp only[go_sem,qE,S,ht];rfl,E,hP,hd,hv⟩
theorem ahM(n d:Nat)(hl:(dg n).length<=1000000)(h0:d≠0)(hd:d<1000000000)(nx:Nat):∃a1,ev ZM Eu Ja 205 [LI (dg n),I d] pI nx=some (.AX [.rs nx 0 (ln (n / d)),I (n%d:Nat)],a1,nx+1)/\a1 nx=some ⟨(pad (n / d) (dg n).length).flatMap cI,1,true⟩:=by
 have e1:(8:Int)*((dg n).length:Int)<=281474976710656:=by omega
 have e2:((dg n).length:Int)<=9223372036854775807:=by omega
 have e3:(0:Int)<=((dg n).length:Int):=by omega
 have e4:=ZU (n:=((dg n).length:Int) - 1);rw[nC [.tmp 4,.tmp 5] [7] func205];simp only[go_sem,e1,e2,e3,e4];generalize hL:iI _ _=y;obtain⟨r,rfl,T',σ',rfl,h6,h7,E⟩:=jS hL (fun m st=>st.T 0=LI (dg n)/\st.T 1=I d/\st.T 6= .rs nx 0 (dg n).length/\st.T 8=I ((m:Int) - 1)/\st.T 7=I (n / 1000000000^m%d:Nat)/\m<=(dg n).length/\st.nx=nx+1/\st.σ nx=some ⟨rep m [I 0]++((pad (n / d) (dg n).length).drop m).flatMap cI,1,true⟩)
  (fun r=>∃T σ,r=(.exit 0,⟨T,σ,nx+1⟩)/\T 6= .rs nx 0 (dg n).length/\T 7=I (n%d:Nat)/\σ nx=some ⟨(pad (n / d) (dg n).length).flatMap cI,1,true⟩) (by
   clear hL;rintro m ⟨T,σ,GX⟩ ⟨t0,t1,t6,t8,t7,hm,G,E⟩;simp only at t0 t1 t6 t8 t7 G E;subst G;have G:nx<nx+1:=by omega
   cases m with
   |zero=>
    have a6:¬(0:Int)<=0-1:=by omega
    rw[Nat.pow_zero,vK]at t7;refine .inr ⟨_,by simp only[go_sem,t8,a6];rfl,by simp,_,_,rfl,by simp only[go_sem,t6],by simp only[go_sem,t7],?_⟩;rw[E,yg];rfl
   |succ m=>
    have J:m<(dg n).length:=by omega
    have e5:((m+1:Nat):Int) - 1=(m:Int):=by omega
    rw[e5]at t8;have f0:=jF m;have f3:(m:Int)<((dg n).length:Int):=by omega
    have f5:=Ba (dg n) m J;have f6:=idx J;rw[oQ J]at f6;have a7:=oL n m;have O:=WW (n:=n / d) (k:=(dg n).length) J;have hq:n / d / 1000000000^m=n / 1000000000^m / d:=by rw[wu,wu,wL]
    rw[hq]at O;have hle:n / 1000000000^m<=n:=xE _ _;obtain⟨u,hu⟩:∃u,n / 1000000000^(m+1)=u:=⟨_,rfl⟩;obtain⟨w,S⟩:∃w,n / 1000000000^m=w:=⟨_,rfl⟩;rw[hu]at t7;rw[hu,S]at a7;rw[S]at f6 O hle;have hw:w%1000000000<1000000000:=vX _ (by decide);have hr:u%d<d:=vX _ (by omega);have hx:u%d*1000000000+w%1000000000<d*1000000000:=by omega
    have Y:w=d*1000000000*(u / d)+(u%d*1000000000+w%1000000000):=by
     have:=Nat.div_add_mod u d;have h3:d*(u / d)*1000000000=d*1000000000*(u / d):=by rw[Nat.mul_right_comm]
     omega
    obtain⟨x,a8⟩:∃x,u%d*1000000000+w%1000000000=x:=⟨_,rfl⟩;rw[a8]at Y hx;have b2:w / d%1000000000=x / d:=by
     have h1:w / d=1000000000*(u / d)+x / d:=by
      rw[Y,vG,wQ,Nat.add_mul_div_left _ _ (by omega),wQ]
     have h2:x / d<1000000000:=Nat.div_lt_of_lt_mul hx;rw[h1];generalize x / d=q at h2⊢;generalize u / d=p;omega
    have b3:w%d=x%d:=by
     rw[Y,vG,wQ,Nat.add_mul_mod_self_left]
    have f7:=ZU (n:=(m:Int) - 1);have f8:=ZU (n:=((u%d:Nat):Int)*1000000000);have g9:((u%d:Nat):Int)*1000000000+((w%1000000000:Nat):Int)=(x:Int):=by omega
    have f9:=ZU (n:=(x:Int));have c1:¬(d:Int)=0:=by omega
    have c2:(x:Int).tdiv (d:Int)=((x / d:Nat):Int):=by rw[yB (by omega)];rfl
    have c3:(x:Int).tmod (d:Int)=((x%d:Nat):Int):=by rw[xC (by omega)];rfl
    have b4:x / d<=x:=xE _ _;have c4:=ZU (n:=((x / d:Nat):Int));have c5:m<(rep (m+1) [I 0]++((pad (n / d) (dg n).length).drop (m+1)).flatMap cI).length:=by rw[zo,fQ];simp;omega
    have c6:=MB m (I 0) (I (x / d:Nat)) (((pad (n / d) (dg n).length).drop (m+1)).flatMap cI);refine .inl ⟨_,by simp only[go_sem,t0,t1,t6,t8,t7,E,f0,f3,f5,f6,f7,f8,f9,g9,c1,c2,c3,c4,c5,c6,G];rfl,m,by omega,?_⟩;simp only[go_sem,t0,t1,t6];refine⟨by rw[S,b3],by omega,?_⟩;rw[O,b2];rfl) (dg n).length ⟨by simp only[go_sem],by simp only[go_sem],by simp only[go_sem],by simp only[go_sem],by simp only[go_sem,oS,Nat.zero_mod],zq _,by simp only[go_sem],by simp only[go_sem];rw[yA (by rw[iL];exact zq _)];simp⟩
 have pl:(pad (n / d) (dg n).length).length=(dg n).length:=iL _ _;have ht:=acG (σ:=σ') (nx:=nx+1) (b:=nx) (xs:=pad (n / d) (dg n).length) E (by unfold Short;omega)
 rw[IQ _ _ (Nat.lt_of_le_of_lt (xE _ _) (by
   have:=oS n;exact(Nat.div_eq_zero_iff_lt (Nat.pow_pos (by decide))).mp this)),pl]at ht
 refine⟨σ',by simp only[go_sem,qE,h6,h7,ht];rfl,E⟩
theorem Xp{σ:Store}{b:Nat}{B:Option Fv}(h:σ b=B):upd σ b B=σ:=by
 funext i;unfold upd
 split
 .rename_i e;subst e;exact h.symm
 .rfl
def lay(U:List Int)(j:Nat)(o:List Int):List Int:=U.take j++(o++U.drop (j+o.length))
theorem jk{U:List Int}{j:Nat}{o:List Int}(h:j+o.length<=U.length):(lay U j o).length=U.length:=by
 unfold lay;simp only[zo,zh,zC];omega
theorem acH(U:List Int)(j:Nat):lay U j []=U:=by unfold lay;simp
theorem MN{U:List Int}{j k:Nat}{o:List Int}(E:o.length=k)(h:j+k<U.length):(lay U j o)[j+k]'(by rw[jk (by omega)];exact h)=U[j+k]:=by
 subst E;have e:(lay U j o)[j+o.length]?=U[j+o.length]?:=by
  unfold lay;rw[zN (by simp;omega),zN (by simp;omega),xw];congr 1;simp;omega
 rw[zy (by rw[jk (by omega)];exact h),zy h]at e;exact Option.some.inj e
theorem ji{U:List Int}{j k:Nat}{o:List Int}(E:o.length=k)(h:j+k<U.length)(y:Int):(lay U j o).set (j+k) y=lay U j (o++[y]):=by
 subst E;unfold lay;rw[xO _ _ (by simp;omega),xO _ _ (by simp;omega)];have G:j+o.length - (U.take j).length-o.length=0:=by simp;omega
 rw[G,yS h,vC];simp only[zo,yV,yw,List.singleton_append];rw[show j+(o.length+1)=j+o.length+1 by omega]
theorem ae6{lo c g x n v:Int}{P:Int}{E c':Int}(G:E=x-c+1000000000*c')(J:lo+P*(-c)=v):lo+P*E+1000000000*P*(-c')=v+P*x:=by
 subst G;rw[<- J];grind
theorem ati{σ:Store}{nx bu bv:Nat}{U W:List Int}{j n:Nat}{g:Int}{L:Nat}{B:Fv}(c0:n<L)(hu:σ bu=some ⟨U.flatMap cI,1,true⟩)(hv:σ bv=some B)(b9:bu≠bv)(hW:∀k (h:k<W.length),B.cells[k]?=some (I W[k]))(hn:W.length=n)
  (hj:j+n<U.length) (hl:U.length<=3000000) (dU:Dg U) (dW:Dg W) (hg:0<=g/\g<1000000000) :
  ∃lo t,ev ZM Eu Ja 206 [.rs bu j L,.rs bv 0 n,I g] σ nx=some (Bo (decide (t<0)),upd σ bu (some ⟨(lay U j (lo++[t])).flatMap cI,1,true⟩),nx)/\lo.length=n/\Dg lo/\vl lo+bp n*t=vl ((U.drop j).take n)+bp n*U[j+n] - g*vl W/\-1000000000<=t/\t<=1000000000:=by
 have b2:∀(x:Option Fv),upd σ bu x bv=some B:=fun x=>by rw[Zk _ _ (yu b9)];exact hv
 have b3:∀(x:Option Fv),upd σ bu x bu=x:=fun x=>Zj _ _ _
 rw[nC [.tmp 6] [] func206];simp only[go_sem];generalize hL:iI _ _=y;obtain⟨r,rfl,T',lo,c,rfl,h0,h1,h7,E,P6,G,hc⟩:=oZ hL n (fun k st=>st.T 0= .rs bu j L/\st.T 1= .rs bv 0 n/\st.T 2=I g/\st.T 11= .rs bv 0 n/\st.T 12=I n/\st.T 13=I k/\st.nx=nx/\∃lo c,st.T 7=I c/\st.σ=upd σ bu (some ⟨(lay U j lo).flatMap cI,1,true⟩)/\lo.length=k/\Dg lo/\vl lo+bp k*(-c)=vl ((U.drop j).take k) - g*vl (W.take k)/\0<=c/\c<=1000000000)
  (fun r=>∃T lo c,r=(.exit 0,⟨T,upd σ bu (some ⟨(lay U j lo).flatMap cI,1,true⟩),nx⟩)/\T 0= .rs bu j L/\T 1= .rs bv 0 n/\T 7=I c/\lo.length=n/\Dg lo/\vl lo+bp n*(-c)=vl ((U.drop j).take n) - g*vl W/\0<=c/\c<=1000000000) (by
   clear hL;rintro k ⟨T,σ',nx'⟩ c2 ⟨h0,h1,h2,O,J,Y,a6,lo,c,h7,a7,E,P6,G,b4,b5⟩;simp only at h0 h1 h2 h7 O J Y a6 a7;subst a6 a7;have f1:(k:Int)<(n:Int):=by omega
   have f2:=jF k;have f3:=ZU (n:=(k:Int)+1);have b6:k<W.length:=by omega
   have S:=hW k b6;obtain⟨m,hm⟩:∃m,m=W[k]:=⟨_,rfl⟩;have mr:=dW.get b6;rw[<- hm]at S mr;have a1:j+k<U.length:=by omega
   have f4:(k:Int)<(L:Int):=by omega
   obtain⟨u,b7⟩:∃u,u=U[j+k]:=⟨_,rfl⟩;have ur:=dU.get a1;have FH:=idx (xs:=lay U j lo) (k:=j+k) (by rw[jk (by omega)];exact a1);rw[MN E a1]at FH;rw[<- b7]at ur FH;have c5:j+k<(lay U j lo).length:=by rw[jk (by omega)];exact a1
   have v1:vl ((U.drop j).take (k+1))=vl ((U.drop j).take k)+bp k*u:=by
    rw[Za (by rw[zC];omega),List.getElem_drop,b7]
   have v2:vl (W.take (k+1))=vl (W.take k)+bp k*m:=by rw[Za b6,hm]
   obtain⟨q1,q2,q3,q4⟩:=ae4 ur hg mr ⟨b4,b5⟩;have w1:=ZU (n:=g*m);have w2:=ZU (n:=u-g*m);have w3:=ZU (n:=u-g*m-c);have fin:∀x' c':Int,x'=(u-g*m) - c+1000000000*c'->vl lo+bp k*x'+bp (k+1)*(-c')=vl ((U.drop j).take (k+1)) - g*vl (W.take (k+1)):=fun x' c' hx=>by
    rw[qW,ae6 (c:=c) (g:=g) (n:=m) hx G,v1,v2];grind
   by_cases a8:u-g*m-c<0
   .obtain⟨x,b8⟩:∃x,x=u-g*m-c:=⟨_,rfl⟩
    rw[<- b8]at a8 q1 q2 w3;have w4:=ZU (n:=999999999-x);have t1:(999999999-x).tdiv 1000000000=(999999999-x) / 1000000000:=yB (by omega);have w5:=ZU (n:=(999999999-x) / 1000000000);have w6:=ZU (n:=(999999999-x) / 1000000000*1000000000);have w7:=ZU (n:=x+(999999999-x) / 1000000000*1000000000);have c6:=qM (lay U j lo) (j+k) (x+(999999999-x) / 1000000000*1000000000);rw[ji E a1]at c6;refine .inl ⟨_,by simp only[go_sem,h0,h1,h2,h7,O,J,Y,b2,b3,S,FH,f1,f2,f3,f4,c5,w1,w2,<- b8,w3,a8,w4,t1,w5,w6,w7,Tc,c6,Zi];rfl,?_⟩;simp only[go_sem,h0,h1,h2,O,J];refine⟨rfl,_,_,rfl,rfl,by simp[E],P6.snoc (by omega) (by omega),?_,by omega,by omega⟩;rw[Zc,E];exact fin _ _ (by omega)
   .have c6:=qM (lay U j lo) (j+k) (u-g*m-c)
    rw[ji E a1]at c6;refine .inl ⟨_,by simp only[go_sem,h0,h1,h2,h7,O,J,Y,b2,b3,S,FH,f1,f2,f3,f4,c5,w1,w2,w3,a8,c6,Zi];rfl,?_⟩;simp only[go_sem,h0,h1,h2,O,J];refine⟨rfl,_,_,rfl,rfl,by simp[E],P6.snoc (by omega) (by omega),?_,by omega,by omega⟩;rw[Zc,E];exact fin _ 0 (by omega)) (by
   clear hL;rintro ⟨T,σ',nx'⟩ ⟨h0,h1,h2,O,J,Y,a6,lo,c,h7,a7,E,P6,G,b4,b5⟩;simp only at h0 h1 h2 h7 O J Y a6 a7;subst a6 a7;rw[zl (l:=W) (by omega)]at G;refine⟨_,by simp only[go_sem,J,Y,zi];rfl,by simp,_,lo,c,rfl,by simp only[go_sem,h0],by simp only[go_sem,h1],by simp only[go_sem,h7],E,P6,G,b4,b5⟩) (by
   simp only[go_sem];exact⟨[],0,rfl,by rw[acH,Xp hu],rfl,Dg.nil,by simp[vl],xP _,by decide⟩)
 have f1:=jF n;have f2:(n:Int)<(L:Int):=by omega
 have FH:=idx (xs:=lay U j lo) (k:=j+n) (by rw[jk (by omega)];exact hj);rw[MN E hj]at FH;have c5:j+n<(lay U j lo).length:=by rw[jk (by omega)];exact hj
 have ur:=dU.get hj;have w1:=ZU (n:=U[j+n] - c);have c6:=qM (lay U j lo) (j+n) (U[j+n] - c);rw[ji E hj]at c6;have c7:=idx (xs:=lay U j (lo++[U[j+n] - c])) (k:=j+n) (by rw[jk (by simp;omega)];exact hj);have e7:(lay U j (lo++[U[j+n] - c]))[j+n]'(by rw[jk (by simp;omega)];exact hj)=U[j+n] - c:=by
  have:(lay U j (lo++[U[j+n] - c]))[j+n]?=some (U[j+n] - c):=by
   rw[<- ji E hj,tC (by rw[jk (by omega)];exact hj)]
  rw[zy (by rw[jk (by simp;omega)];exact hj)]at this;exact Option.some.inj this
 rw[e7]at c7;refine⟨lo,U[j+n] - c,by simp only[go_sem,h0,h1,h7,b2,b3,f1,f2,FH,c5,w1,c6,c7,Zi],E,P6,?_,by omega,by omega⟩;rw[uw];have:bp n* -c= -(bp n*c):=by rw[Int.mul_neg]
 omega
theorem atl{σ:Store}{nx J bv:Nat}{U W:List Int}{j n:Nat}{t:Int}{L:Nat}{B:Fv}(b7:n<L)(hu:σ J=some ⟨U.flatMap cI,1,true⟩)(hv:σ bv=some B)(b6:J≠bv)(hW:∀k (h:k<W.length),B.cells[k]?=some (I W[k]))(hn:W.length=n)
  (hj:j+n<U.length) (hl:U.length<=3000000) (dU:∀k (h:k<U.length),k<j+n->0<=U[k]/\U[k]<1000000000) (hU:U[j+n]=t) (ht:-1000000000<=t/\t<=1000000000) (dW:Dg W) :
  ∃lo c,ev ZM Eu Ja 207 [.rs J j L,.rs bv 0 n] σ nx=some (.AX [],upd σ J (some ⟨(lay U j (lo++[t+c])).flatMap cI,1,true⟩),nx)/\lo.length=n/\Dg lo/\vl lo+bp n*c=vl ((U.drop j).take n)+vl W/\0<=c/\c<=1:=by
 have a8:∀(x:Option Fv),upd σ J x bv=some B:=fun x=>by rw[Zk _ _ (yu b6)];exact hv
 have b2:∀(x:Option Fv),upd σ J x J=x:=fun x=>Zj _ _ _
 rw[nC [] [] func207];simp only[go_sem];generalize hL:iI _ _=y;obtain⟨r,rfl,T',lo,c,rfl,h0,h1,h4,E,P6,G,hc⟩:=oZ hL n (fun k st=>st.T 0= .rs J j L/\st.T 1= .rs bv 0 n/\st.T 8= .rs bv 0 n/\st.T 9=I n/\st.T 10=I k/\st.nx=nx/\∃lo c,st.T 4=I c/\st.σ=upd σ J (some ⟨(lay U j lo).flatMap cI,1,true⟩)/\lo.length=k/\Dg lo/\vl lo+bp k*c=vl ((U.drop j).take k)+vl (W.take k)/\0<=c/\c<=1)
  (fun r=>∃T lo c,r=(.exit 0,⟨T,upd σ J (some ⟨(lay U j lo).flatMap cI,1,true⟩),nx⟩)/\T 0= .rs J j L/\T 1= .rs bv 0 n/\T 4=I c/\lo.length=n/\Dg lo/\vl lo+bp n*c=vl ((U.drop j).take n)+vl W/\0<=c/\c<=1) (by
   clear hL;rintro k ⟨T,σ',nx'⟩ b8 ⟨h0,h1,h8,h9,O,S,lo,c,h4,Y,E,P6,G,b3,b4⟩;simp only at h0 h1 h4 h8 h9 O S Y;subst S Y;have f1:(k:Int)<(n:Int):=by omega
   have f2:=jF k;have f3:=ZU (n:=(k:Int)+1);have a7:k<W.length:=by omega
   have a1:=hW k a7;obtain⟨m,hm⟩:∃m,m=W[k]:=⟨_,rfl⟩;have mr:=dW.get a7;rw[<- hm]at a1 mr;have a6:j+k<U.length:=by omega
   have f4:(k:Int)<(L:Int):=by omega
   obtain⟨u,b5⟩:∃u,u=U[j+k]:=⟨_,rfl⟩;have ur:=dU (j+k) a6 (by omega);have FH:=idx (xs:=lay U j lo) (k:=j+k) (by rw[jk (by omega)];exact a6);rw[MN E a6]at FH;rw[<- b5]at ur FH;have c5:j+k<(lay U j lo).length:=by rw[jk (by omega)];exact a6
   have v1:vl ((U.drop j).take (k+1))=vl ((U.drop j).take k)+bp k*u:=by
    rw[Za (by rw[zC];omega),List.getElem_drop,b5]
   have v2:vl (W.take (k+1))=vl (W.take k)+bp k*m:=by rw[Za a7,hm]
   have w1:=ZU (n:=u+m);have w2:=ZU (n:=u+m+c);obtain⟨q1,q2⟩:=aG (n:=u+m+c) (by omega);have w3:=ZU (n:=(u+m+c) / 1000000000);have c6:=qM (lay U j lo) (j+k) ((u+m+c)%1000000000);rw[ji E a6]at c6;refine .inl ⟨_,by simp only[go_sem,h0,h1,h4,h8,h9,O,a8,b2,a1,FH,f1,f2,f3,f4,c5,w1,w2,w3,q1,q2,Tc,c6,Zi];rfl,?_⟩;simp only[go_sem,h0,h1,h8,h9];refine⟨rfl,_,_,rfl,rfl,by simp[E],P6.snoc (by omega) (by omega),?_,by omega,by omega⟩;rw[Zc,E,qW,v1,v2,qC (n:=u+m+c) (by omega),xg,xg];omega) (by
   clear hL;rintro ⟨T,σ',nx'⟩ ⟨h0,h1,h8,h9,O,S,lo,c,h4,Y,E,P6,G,b3,b4⟩;simp only at h0 h1 h4 h8 h9 O S Y;subst S Y;rw[zl (l:=W) (by omega)]at G;refine⟨_,by simp only[go_sem,h9,O,zi];rfl,by simp,_,lo,c,rfl,by simp only[go_sem,h0],by simp only[go_sem,h1],by simp only[go_sem,h4],E,P6,G,b3,b4⟩) (by
   simp only[go_sem];exact⟨[],0,rfl,by rw[acH,Xp hu],rfl,Dg.nil,by simp[vl],xP _,by decide⟩)
 have f1:=jF n;have f2:(n:Int)<(L:Int):=by omega
 have FH:=idx (xs:=lay U j lo) (k:=j+n) (by rw[jk (by omega)];exact hj);rw[MN E hj,hU]at FH;have c5:j+n<(lay U j lo).length:=by rw[jk (by omega)];exact hj
 have w1:=ZU (n:=t+c);have c6:=qM (lay U j lo) (j+n) (t+c);rw[ji E hj]at c6;exact⟨lo,c,by simp only[go_sem,h0,h1,h4,a8,b2,f1,f2,FH,c5,w1,c6,Zi],E,P6,G,hc⟩
theorem gi{xs:List Int}{n:Nat}(h:Dg xs)(G:vl xs=n):(xs.flatMap cI).take (ln n)=(dg n).flatMap cI/\ln n<=xs.length:=by
 obtain⟨r,E⟩:=Zq xs;rw[CW h G]at E;have J:(dg n).length=ln n:=rfl;refine⟨?_,?_⟩
 .rw[qL]
  conv=>lhs;rw[E]
  rw[<- J,xG];rfl
 .rw[E,zo];omega
theorem ahN{n:Nat}(J:2<=ln n):∃(b1 s:Nat) (h:ln n-1<(dg n).length),(dg n)[ln n-1]=(b1:Int)/\0<b1/\b1<1000000000/\s=1000000000 / (b1+1)/\1<=s/\s<1000000000/\ln (n*s)=ln n/\bp (ln n-1)*500000000<=(n*s:Nat):=by
 have hl:(dg n).length=ln n:=rfl;have h:ln n-1<(dg n).length:=by omega
 have hd:=(oU n).get h;obtain⟨b1,E⟩:∃b1:Nat,(dg n)[ln n-1]=(b1:Int):=⟨((dg n)[ln n-1]).toNat,by omega⟩;have a1:n≠0:=fun e=>by rw[e,jU]at J;omega
 have G:(n:Int)=vl ((dg n).take (ln n-1))+bp (ln n-1)*b1:=by
  have:=Za h;rw[show ln n-1+1=(dg n).length by omega,yT,Zf,E]at this;exact this
 have O:=Ze ((oU n).take (ln n-1));rw[zh,xX (by omega)]at O;have Y:=Zd ((oU n).take (ln n-1));have hP:=qX (ln n-1);have S:0<b1:=by
  rcases Nat.eq_zero_or_pos b1 with e|e
  .subst e
   rw[show((0:Nat):Int)=0 from rfl,vk]at G;have:=(jd (n:=n) (k:=ln n-1)).mpr (by omega);omega
  .exact e
 rw[E]at hd;obtain⟨k1,k2,k3,k4⟩:=ahI (b1:=b1) (by omega) (by omega);have hs:((1000000000 / (b1+1):Nat):Int)=1000000000 / ((b1:Int)+1):=by simp
 rw[<- hs]at k1 k2 k3 k4;refine⟨b1,1000000000 / (b1+1),h,E,S,by omega,rfl,by omega,by omega,?_,?_⟩
 .refine Nat.le_antisymm (jd.mpr ?_) ?_
  .have e:bp (ln n)=bp (ln n-1)*1000000000:=by
    have:=qW (ln n-1);rw[show ln n-1+1=ln n by omega]at this;rw[this,Int.mul_comm]
   have h1:(n:Int)<bp (ln n-1)*(b1+1):=by rw[xg];omega
   rw[yj,e];generalize ((1000000000 / (b1+1):Nat):Int)=s at *;have J:(n:Int)*s<bp (ln n-1)*(b1+1)*s:=sZ h1 (by omega);have h3:bp (ln n-1)*((b1+1)*s)<=bp (ln n-1)*1000000000:=zB (by rw[Int.mul_comm];exact k2) (by omega);rw[<- uh]at h3;omega
  .exact jc (Nat.le_mul_of_pos_right _ (by omega))
 .rw[yj]
  generalize ((1000000000 / (b1+1):Nat):Int)=s at *;have h1:bp (ln n-1)*b1*s<=(n:Int)*s:=zS (by omega) (by omega);have J:bp (ln n-1)*500000000<=bp (ln n-1)*(b1*s):=zB k3 (by omega);rw[<- uh]at J;omega
theorem atm{σ:Store}{nx b:Nat}{P:List Int}{N:Nat}(hb:σ b=some ⟨P.flatMap cI,1,true⟩)(S:b<nx)(hd:Dg P)(hv:vl P=N)(hN:N≠0)(hl:P.length<=1000000+1000000)(hp:P.length<=ln N+1) :
  ∃G σ' nx',Ah σ nx 1 8 (.rs b 0 (ln N)) [I 0] 1=some (.rs G 0 (ln N+1),σ',nx')/\σ' G=some ⟨(dg N++[0]).flatMap cI,1,true⟩/\nx<=nx'/\(G=b\/G=nx)/\G<nx'/\∀c,c<nx->¬c=b->σ' c=σ c:=by
 obtain⟨r,O⟩:=Zq P;rw[CW hd hv]at O;have J:(dg N).length=ln N:=rfl;have hle:P.length=ln N+r.length:=by rw[O,zo,J]
 have cell:∀xs:List Int,(xs.flatMap cI).length=xs.length:=qN;unfold Ah;simp only[hb];rw[sQ (by decide)]
 by_cases h:r=[]
 .subst h
  have hP:P=dg N:=by rw[O];simp
  have a1:P.length=ln N:=by rw[hle];rfl
  rw[sQ (by rw[cell];omega),sO (by
   refine⟨by rw[cell];omega,by simp,by unfold maxLen;omega,by omega,by simp[vI]⟩)]
  refine⟨nx,_,nx+1,rfl,?_,by omega,.inr rfl,by omega,fun c hc E=>?_⟩
  .rw[Zj,hP,zQ];rfl
  .rw[Zm,Zk _ _ E]
 .have Y:r.length=1:=by
   have:=List.length_pos_iff.mpr h;omega
  rw[sO (by rw[cell];omega),sO ⟨by simp,by simp,by simp[vI]⟩];refine⟨b,_,nx,rfl,?_,zq _,.inl rfl,S,fun c _ E=>Zk _ _ E⟩;rw[Zj];congr 2;show(P.flatMap cI).set (0+ln N*1) (I 0)=_;rw[yZ,yN,qM];congr 1;obtain⟨x,hx⟩:∃x,r=[x]:=List.length_eq_one_iff.mp Y;subst hx
  conv=>lhs;rw[O]
  rw[<- J,xO _ _ (zq _),yM];rfl
theorem window{U W:List Int}{j e:Nat}{V:Int}(E:Dg U)(hW:W.length=e+2)(G:Dg W)(J:vl W=V)(O:j+(e+2)<U.length)(a1:vl (U.drop (j+1))<V) :
  vl (U.drop j)=vl ((U.drop j).take (e+2))+bp (e+2)*U[j+(e+2)]/\vl (U.drop j)<V*1000000000 /\
  (∃Ur,0<=Ur/\Ur<bp e/\vl (U.drop j)=((U[j+(e+2)]*1000000000+U[j+e+1])*1000000000+U[j+e])*bp e+Ur) /\
  (∃Vr,0<=Vr/\Vr<bp e/\V=(W[e+1]*1000000000+W[e])*bp e+Vr)/\U[j+(e+2)]<=W[e+1]/\vl (U.drop (j+(e+2)+1))=0:=by
 have a6:V<bp (e+2):=by rw[<- J,<- hW];exact Ze G
 have d1:=acj (xs:=U) (k:=j) (by omega);have u0:=E.get (k:=j) (by omega);have X2:vl (U.drop j)<V*1000000000:=by omega
 have hl:(U.drop j).length=U.length-j:=zC;have S:=Zb (U.drop j) (k:=e+2) (by omega);rw[uD]at S;have Y:=acj (xs:=U) (k:=j+(e+2)) O;have un:=E.get O;have lo0:=Zd ((E.drop j).take (e+2));have hi0:=Zd (E.drop (j+(e+2)+1));have hi:vl (U.drop (j+(e+2)+1))=0:=by
  rcases Int.lt_trichotomy (vl (U.drop (j+(e+2)+1))) 0 with h|h|h
  .omega
  .exact h
  .exfalso
   have h1:bp (e+2)*1000000000<=bp (e+2)*vl (U.drop (j+(e+2))):=zB (by omega) (x9 (qX _));have h2:V*1000000000<=bp (e+2)*1000000000:=zS (by omega) (by decide);omega
 rw[hi]at Y;have s3:vl (U.drop j)=vl ((U.drop j).take (e+2))+bp (e+2)*U[j+(e+2)]:=by rw[S,Y];simp
 have g:∀ {xs:List Int} (h:e+1<xs.length),vl (xs.take (e+2))=vl (xs.take e)+bp e*xs[e]+bp e*1000000000*xs[e+1]:=fun {xs} h=>by
  rw[Za (k:=e+1) h,Za (k:=e) (by omega),qW];grind
 have g1:=g (xs:=U.drop j) (by omega);simp only[List.getElem_drop]at g1;have e1:U[j+(e+1)]=U[j+e+1]:=rfl;rw[e1]at g1;have g2:=g (xs:=W) (by omega);rw[zl (by omega),J]at g2;have b2:bp (e+2)=bp e*1000000000*1000000000:=by rw[qW,qW];grind
 have rU:=Ze ((E.drop j).take e);rw[zh,hl,xX (by omega)]at rU;have rV:=Ze (G.take e);rw[zh,xX (by omega)]at rV;refine⟨s3,X2,⟨_,Zd ((E.drop j).take e),rU,?_⟩,⟨_,Zd (G.take e),rV,?_⟩,?_,hi⟩
 .rw[s3,g1,b2];grind
 .rw[g2];grind
 .have w1:=G.get (k:=e) (by omega)
  have w2:=G.get (k:=e+1) (by omega);refine Int.not_lt.mp fun h=>?_
  have h1:bp (e+2)*(W[e+1]+1)<=bp (e+2)*U[j+(e+2)]:=zB (by omega) (x9 (qX _));have h2:bp e*W[e]<=bp e*999999999:=zB (by omega) (x9 (qX _));have h3:V<bp e*1000000000*(W[e+1]+1):=by rw[g2,xg];omega
  have h4:V*1000000000<bp (e+2)*(W[e+1]+1):=by
   rw[b2];have:=sZ h3 (show(0:Int)<1000000000 by decide);have e:bp e*1000000000*(W[e+1]+1)*1000000000=bp e*1000000000*1000000000*(W[e+1]+1):=by grind
   omega
  omega
theorem alG{U a b:List Int}{j:Nat}(h:a.length=b.length)(G:j+a.length<=U.length):lay (lay U j a) j b=lay U j b:=by
 unfold lay;have E:(U.take j).length=j:=by rw[zh];omega
 rw[xG E];congr 2;rw[<- yw,List.drop_left' (by rw[zo,E,h]),h]
theorem Xq{U a:List Int}{j:Nat}(E:j+a.length<=U.length):(lay U j a).drop j=a++U.drop (j+a.length):=by
 unfold lay;exact List.drop_left' (by rw[zh];omega)
theorem Xr{U a:List Int}{j:Nat}(E:j+a.length<=U.length):(lay U j a).take j=U.take j:=by
 unfold lay;exact xG (by rw[zh];omega)
theorem ao7{U a:List Int}{j:Nat}(h:Dg U)(E:Dg a):Dg (lay U j a):=(h.take _).app (E.app (h.drop _))
theorem ahO{U:List Int}{j n:Nat}{L Q:List Int}{q V N:Int}(hj:j+(n+1)<=U.length)(O:L.length=n)(E:vl (U.drop (j+n+1))=0)(S:vl L=vl (U.drop j) - q*V)(Y:vl U+V*(bp (j+1)*vl Q)=N) :
  vl ((lay U j (L++[0])).drop j)=vl L/\vl (lay U j (L++[0]))+V*(bp j*vl (q :: Q))=N:=by
 have hl:(L++[0]).length=n+1:=by simp[O]
 have G:vl ((lay U j (L++[0])).drop j)=vl L:=by
  rw[Xq (by omega),aaR,Zc,hl,show j+(n+1)=j+n+1 by omega,E];simp
 refine⟨G,?_⟩;have J:=Zb (lay U j (L++[0])) (k:=j) (by rw[jk (by omega)];omega);rw[Xr (by omega),G]at J;have h3:=Zb U (k:=j) (by omega);rw[J,S,<- Y,h3,qW];show _+bp j*_+V*(bp j*(q+1000000000*vl Q))=_;grind
theorem ae7(f:V->Option (List Nat))(h:∀x,f (I x)=some [])(xs:List Int):AL f (xs.flatMap cI)=some []:=by
 induction xs with
 |nil=>rfl
 |cons x xs E=>
  show AL f (I x :: xs.flatMap cI)=_;rw[IW,h,E];rfl
theorem lN{σ:Store}{b off len:Nat}{xs:List Int}(d:Nat)(h:σ b=some ⟨xs.flatMap cI,1,true⟩):gather σ (d+1) (.rs b off len)=some [b]:=by
 have e:gather σ (d+1) (.rs b off len)=match σ b with
   |some B=>match AL (gather σ d) B.cells with
    |some ids=>some (b :: ids)
    |none=>none
   |none=>none:=rfl
 rw[e,h];simp only;rw[ae7 _ (fun x=>QM σ d _)]
theorem alH{σ:Store}{b E j:Nat}{xs:List Int}(h:σ b=some ⟨xs.flatMap cI,1,true⟩)(J:xs.length=E)(O:j<E) :
  ((σ b).bind fun B=>if j<=E/\B.st=1/\E<=B.cells.length then if j=0 then some (V.rs b 0 E)else if j=E then some (V.ts [] 0)else some (V.rs b j (E-j))else none)=some (.rs b j (E-j)):=by
 rw[h];simp only[zk,qN,J];rw[sO ⟨by omega,trivial,zq _⟩]
 by_cases G:j=0
 .subst G;rw[sO rfl];rfl
 .rw[sQ G,sQ (by omega)]
theorem alI{b E j l:Nat}(J:l=E)(O:j<E) :
  (if j<=E/\E<=l then if j=0 then some (V.rs b 0 E)else if j=E then some (V.ts [] 0)else some (V.rs b j (E-j))else none)=some (.rs b j (E-j)):=by
 subst J;rw[sO ⟨by omega,zq _⟩]
 by_cases G:j=0
 .subst G;rw[sO rfl];rfl
 .rw[sQ G,sQ (by omega)]
theorem after_take{U lo:List Int}{j e:Nat}{X g tt G:Int}(a6:lo.length=e+2)(P6:Dg lo)(E:vl lo+bp (e+2)*tt=X-g*G)(gh:X<(g+1)*G)(gl:(g-1)*G<=X)(dV:G<bp (e+2))(V0:0<G)(g0:0<=g)(X0:0<=X) :
  (tt=0/\vl lo=X-g*G/\vl lo<G)\/(tt= -1/\0<=g-1/\∀(J:List Int) (cc:Int),J.length=e+2->Dg J->vl J+bp (e+2)*cc=vl lo+G->cc=1/\vl J=X - (g-1)*G/\vl J<G):=by
 have O:=Ze P6;rw[a6]at O;have S:=Zd P6;rcases ahG gh gl with ⟨z1,z2⟩|⟨z1,z2,z3⟩
 .have a1:tt=0:=Xo S O z1 (by omega) E.symm
  subst a1;rw[vk,uQ]at E;exact .inl ⟨rfl,E,by omega⟩
 .have e1:(g-1)*G=g*G-G:=by rw[uF,Int.one_mul]
  rw[e1]at z2 z3⊢;have a1:tt= -1:=alC S O (by omega) z1 E.symm;subst a1;have g1:0<=g-1:=by
   refine Int.not_lt.mp fun h=>?_
   have:g=0:=by omega
   subst this;omega
  refine .inr ⟨rfl,g1,fun J cc h1 h2 h3=>?_⟩;have Y:=Ze h2;rw[h1]at Y;have e2:bp (e+2)*(cc-1)=bp (e+2)*cc-bp (e+2):=by rw[uw,Int.mul_one]
  have e3:bp (e+2)* -1= -bp (e+2):=by rw[Int.mul_neg,Int.mul_one]
  rw[e3]at E;have a7:cc-1=0:=Xo (X:=X - (g*G-G)) (Zd h2) Y z2 (by omega) (by rw[e2];omega);have:cc=1:=by omega
  subst this;rw[Int.mul_one]at h3;exact⟨rfl,by omega,by omega⟩
theorem alJ{U lo:List Int}{j e lu:Nat}(dU:Dg U)(lU:U.length=lu)(a7:j+(e+2)<U.length)(G:lo.length=e+2)(P6:Dg lo) :
  ∃E,lay U j (lo++[-1])=E/\E.length=lu/\(∃h:j+(e+2)<E.length,E[j+(e+2)]= -1)/\(∀k (h:k<E.length),k<j+(e+2)->0<=E[k]/\E[k]<1000000000)/\(E.drop j).take (e+2)=lo /\
   ∀Y:List Int,Y.length=e+2->lay E j (Y++[0])=lay U j (Y++[0]):=by
 have O:(lo++[-1]).length=e+3:=by simp[G]
 have J:(lay U j (lo++[-1])).drop j=lo++[-1]++U.drop (j+(e+3)):=by rw[Xq (by omega),O]
 have a1:(lay U j (lo++[-1])).take j=U.take j:=by rw[Xr (by omega)]
 have a6:(lay U j (lo++[-1])).length=lu:=by rw[jk (by omega)];exact lU
 refine⟨_,rfl,a6,⟨by omega,?_⟩,fun k hk a8=>?_,by rw[J,yw,xG G],fun Y h=>?_⟩
 .have:((lay U j (lo++[-1])).drop j)[e+2]?=some (-1):=by
   rw[J,yw,zN (by omega),G,yM];rfl
  rw[xw,zy (by omega)]at this;exact Option.some.inj this
 .by_cases S:k<j
  .have:((lay U j (lo++[-1])).take j)[k]?=some (lay U j (lo++[-1]))[k]:=by rw[um S,zy hk]
   rw[a1,um S,zy (by omega)]at this;rw[<- Option.some.inj this];exact dU.get (by omega)
  .have:((lay U j (lo++[-1])).drop j)[k-j]?=some (lay U j (lo++[-1]))[k]:=by
    rw[xw];have e2:j+(k-j)=k:=by omega
    rw[e2,zy hk]
   rw[J,yw,zU (by omega),zy (by omega)]at this;rw[<- Option.some.inj this];exact P6.get (by omega)
 .exact alG (by rw[O];simp[h]) (by omega)
theorem Xt{U Q E:List Int}{j e S:Nat}{q X G N:Int}(dU:Dg U)(dQ:Dg Q)(lU:U.length=S)(a6:j+(e+2)<U.length)(lQ:Q.length+(j+1)=S - (e+2))(a1:vl (U.drop (j+(e+2)+1))=0)(eX:X=vl (U.drop j))(J:vl U+G*(bp (j+1)*vl Q)=N)
  (h1:E.length=e+2) (h2:Dg E) (h3:0<=q) (h4:q<1000000000) (h5:vl E=X-q*G) (h6:vl E<G) :
  ∃O Y,(lay U j (E++[0]))=O/\I q :: Q.flatMap cI=Y.flatMap cI/\Dg O/\Dg Y/\O.length=S/\Y.length+j=S - (e+2)/\vl (O.drop j)<G/\vl O+G*(bp j*vl Y)=N:=by
 rw[eX]at h5;obtain⟨y1,y2⟩:=ahO (U:=U) (j:=j) (n:=e+2) (L:=E) (Q:=Q) (q:=q) (by omega) h1 a1 h5 J;have hl:(E++[0]).length=e+3:=by simp[h1]
 refine⟨_,q :: Q,rfl,rfl,ao7 dU (h2.snoc (by decide) (by decide)),fun x hx=>?_,by rw[jk (by omega)];exact lU,by simp;omega,by rw[y1];exact h6,y2⟩;rcases List.mem_cons.mp hx with rfl|hx
 .exact⟨h3,h4⟩
 .exact dQ x hx
theorem TT(n k:Nat):Dg (pad n k):=fun x E=>by
 unfold pad at E;obtain⟨i,_,rfl⟩:=List.mem_map.mp E;omega
theorem ahP(n k:Nat)(h:n<1000000000^k):vl (pad n k)=n:=by
 have E:=IQ k n h;rw[aci (TT n k)]at E;have G:=congrArg vl E;rw[Zf,Zf,uZ (Zd (TT n k))]at G;exact G
theorem QW{s:Nat}(E:1<=s)(h:s<1000000000):LI (dg s)= .ts [I s] 1:=by rw[oN (by omega) h];rfl
theorem atn(m n:Nat)(hm:ln m<=1000000)(h2:2<=ln n)(hle:n<=m):fn ZM Eu Ja 176 [LI (dg m),LI (dg n)]=some (.AX [LI (dg (m / n)),LI (dg (m%n))]):=by
 obtain⟨b1,s,hb,m8,u0,u5,hs,m9,j0,j9,k5⟩:=ahN h2;have u6:(dg n).length=ln n:=rfl;have u7:(dg m).length=ln m:=rfl;have n0:ln n<=ln m:=jc hle;have n1:m≠0:=fun e=>by rw[e,jU]at n0;omega
 have u9:n≠0:=fun e=>by rw[e,jU]at h2;omega
 have k1:=kN m n (by omega) (by omega);have hc:¬Bg m n<0:=by unfold Bg;rw[sQ (by omega)];split<;>decide
 have c1:(((dg n).length:Int)==1)=false:=by rw[sN];omega
 have v6:ln s=1:=by
  have:=jV j0;have:=jW (n:=s) (by omega);omega
 obtain⟨n2,P1,t1,k8,v7,n3,n4⟩:=ahL m s hm (by omega) n1 (by omega) 1;rw[QW m9 j0]at t1;have v8:m*s≠0:=Nat.mul_ne_zero n1 (by omega);have w7:ln m<=ln (m*s):=jc (Nat.le_mul_of_pos_right _ (by omega));have w8:ln (m*s)<=ln m+1:=by have:=jZ m s;omega
 obtain⟨Jw,ea⟩:∃Jw,Jw=upd (Ce 1 (upd pI 0 (some ⟨[I s],1,true⟩)) n2 [1]) 2 (some ⟨[I 0],1,true⟩):=⟨_,rfl⟩;have n5:Jw 1=some ⟨P1.flatMap cI,1,true⟩:=by
  rw[ea,Zk _ _ (by decide),jr (by decide) (by simp)];exact k8
 have n6:Jw 0=some ⟨[I s],1,true⟩:=by
  rw[ea,Zk _ _ (by decide),jq (by decide)];exact Zj _ _ _
 obtain⟨bu,Jy,nb,ga,gb,gn,D4,w9,n7⟩:=atm (nx:=3) n5 (by decide) n3 n4 v8 (by omega) (by omega);have k9:Jy 0=some ⟨[I s],1,true⟩:=by rw[n7 0 (by decide) (by decide)];exact n6
 obtain⟨σ2,P2,t2,l5,x0,n8,n9⟩:=ahL n s (by omega) (by omega) u9 (by omega) nb;rw[QW m9 j0,j9]at t2;obtain⟨e,he⟩:∃e,ln n=e+2:=⟨ln n-2,by omega⟩;obtain⟨O,x3⟩:∃O,O=ln (m*s)+1:=⟨_,rfl⟩;obtain⟨Jz,ec⟩:∃Jz,Jz=Ce nb Jy σ2 [nb]:=⟨_,rfl⟩;have o0:Jz nb=some ⟨P2.flatMap cI,1,true⟩:=by rw[ec,jr (by omega) (by simp)];exact l5
 have o2:Jz 0=some ⟨[I s],1,true⟩:=by rw[ec,jq (by omega)];exact k9
 have o3:Jz bu=some ⟨(dg (m*s)++[0]).flatMap cI,1,true⟩:=by rw[ec,jq w9];exact gb
 obtain⟨W,eW⟩:∃W,W=dg (n*s):=⟨_,rfl⟩;have k0:W.length=e+2:=by rw[eW];show ln (n*s)=_;rw[j9,he]
 have dW:Dg W:=by rw[eW];exact oU _
 have vW:vl W=(n*s:Nat):=by rw[eW];exact Zf _
 have k4:∀k (h:k<W.length),(P2.flatMap cI)[k]?=some (I W[k]):=fun k h=>by
  obtain⟨p1,p2⟩:=gi n8 n9;have:((P2.flatMap cI).take (ln (n*s)))[k]?=some (I W[k]):=by rw[p1,<- eW];exact idx h
  rw[um (by rw[j9];omega)]at this;exact this
 have big:bp (e+1)*500000000<=(n*s:Nat):=by
  have h:=k5;rw[he]at h;exact h
 have hP:=qX e;obtain⟨Vn,eV⟩:∃Vn:Int,Vn=(n*s:Nat):=⟨_,rfl⟩;rw[<- eV]at big vW;have x4:0<Vn:=by have:=qX (e+1);omega
 have dV:=Ze dW;rw[k0,vW]at dV;have x7:500000000<=W[e+1]:=by
  have g1:=Za (xs:=W) (k:=e+1) (by omega);rw[zl (by omega),vW]at g1;have g2:=Ze (dW.take (e+1));rw[zh,xX (by omega)]at g2;refine Int.not_lt.mp fun h=>?_
  have:bp (e+1)*(W[e+1]+1)<=bp (e+1)*500000000:=zB (by omega) (x9 (qX _));rw[xg]at this;omega
 have x8:=dW.get (k:=e+1) (by omega);have h4:=dW.get (k:=e) (by omega);obtain⟨v1,o4⟩:∃v1,v1=W[e+1]:=⟨_,rfl⟩;obtain⟨v2,o5⟩:∃v2,v2=W[e]:=⟨_,rfl⟩;have e2:=k4 (e+1) (by omega);have e6:=k4 e (by omega);rw[<- o4]at x7 x8 e2;rw[<- o5]at h4 e6;have i0:(0:Int)<=((dg n).length:Int) - 1:=by omega
 have i1:=ZU (n:=((ln n-1:Nat):Int));have i2:((dg n).length:Int) - 1=((ln n-1:Nat):Int):=by omega
 have i3:((ln n-1:Nat):Int)<((dg n).length:Int):=by omega
 have o6:(0:Int)<=((ln n-1:Nat):Int):=by omega
 have i4:=Ba (dg n) (ln n-1) hb;have i5:=idx hb;rw[m8]at i5;have i6:=ZU (n:=(b1:Int)+1);have i7:¬((b1:Int)+1)=0:=by omega
 have i8:(1000000000:Int).tdiv ((b1:Int)+1)=(s:Int):=by
  rw[yB (by decide),hs];simp
 have i9:=ZU (n:=(s:Int));have j1:¬(((O:Nat):Int)<=((dg m).length:Int)):=by omega
 have j2:((O:Nat):Int) - ((e+2:Nat):Int)=((O - (e+2):Nat):Int):=by omega
 have j3:=ZU (n:=((O - (e+2):Nat):Int)) (by omega) (by omega);obtain⟨j4,j5,j6⟩:=jQ (k:=O - (e+2)) (by omega);have j7:=ZU (n:=((O - (e+2):Nat):Int) - 1) (by omega) (by omega);have o7:Ah Jw 3 1 8 (.rs 1 0 (ln (m*s))) [I 0] 1=some (.rs bu 0 O,Jy,nb):=by rw[ga,x3]
 have gg:=lN (σ:=n2) (b:=1) (off:=0) (len:=ln (m*s)) 6 k8;have p0:=lN (σ:=σ2) (b:=nb) (off:=0) (len:=e+2) 6 l5;rw[he]at t2;have j8:(dg n).length=e+2:=by omega
 have F7:((Jw 2).bind fun B=>if 1<=B.cells.length then some (List.take 1 B.cells,1)else none)=some ([I 0],1):=by
  rw[ea,Zj];rfl
 rw[mJ,nC [.tmp 4,.tmp 5] [15,16,17,25] func176];simp only[go_sem,k1,hc,c1,i0,i1,i2,i3,o6,i4,i5,i6,i7,i8,i9,t1,gg,<- ea,F7,o7,k9,t2,p0,<- ec];generalize hL:iI _ _=y;obtain⟨r,rfl,T1,rfl,q0,q8,q9,l6⟩:=jS hL (fun _ st=>st.T 0=LI (dg m)/\st.T 8= .rs 0 0 1/\st.T 9= .rs bu 0 O/\st.T 10= .rs nb 0 (e+2)/\st.σ=Jz/\st.nx=nb+1)
  (fun r=>∃T,r=(.exit 0,⟨T,Jz,nb+1⟩)/\T 0=LI (dg m)/\T 8= .rs 0 0 1/\T 9= .rs bu 0 O/\T 10= .rs nb 0 (e+2)) (by
   clear hL;rintro k ⟨T,σ,nx⟩ ⟨h0,h8,h9,p3,h5,e1⟩;simp only at h0 h8 h9 p3 h5 e1;subst h5 e1;refine .inr ⟨_,by simp only[go_sem,h0,h9,j1];rfl,by simp,_,rfl,?_⟩;simp only[go_sem,h0,h8,h9,p3]) 0 (by simp only[go_sem])
 simp only[go_sem,q0,q8,q9,l6,j2,j3,j4,j5,j6,j7];obtain⟨S,y0⟩:∃S,S=nb+1:=⟨_,rfl⟩;have D5:O<=1000002:=by omega
 generalize hL:iI _ _=y
 obtain⟨r,rfl,T1,YG,U,Q,rfl,p8,p9,E,Y,sU,s0,sq,dU,dQ,lU,lQ,c9,e0⟩:=jS hL (fun mm st=>st.T 8= .rs 0 0 1/\st.T 9= .rs bu 0 O/\st.T 10= .rs nb 0 (e+2)/\st.T 11=I ((e+2:Nat):Int)/\st.T 12= .rs S 0 (O - (e+2))/\st.T 13=I ((mm:Int) - 1)/\st.nx=S+1/\mm<=O - (e+2) /\
   ∃U Q,st.σ bu=some ⟨U.flatMap cI,1,true⟩/\st.σ nb=some ⟨P2.flatMap cI,1,true⟩/\st.σ 0=some ⟨[I s],1,true⟩/\st.σ S=some ⟨rep mm [I 0]++Q.flatMap cI,1,true⟩/\Dg U/\Dg Q/\U.length=O/\Q.length+mm=O - (e+2)/\vl (U.drop mm)<Vn/\vl U+Vn*(bp mm*vl Q)=(m*s:Nat))
  (fun r=>∃T σ U Q,r=(.exit 2,⟨T,σ,S+1⟩)/\T 8= .rs 0 0 1/\T 9= .rs bu 0 O/\T 10= .rs nb 0 (e+2)/\T 12= .rs S 0 (O - (e+2))/\σ bu=some ⟨U.flatMap cI,1,true⟩/\σ 0=some ⟨[I s],1,true⟩/\σ S=some ⟨Q.flatMap cI,1,true⟩/\Dg U/\Dg Q/\U.length=O/\Q.length=O - (e+2)/\vl U<Vn/\vl U+Vn*vl Q=(m*s:Nat)) (by
   clear hL;clear i0 i1 i2 i3 o6 i4 i5 i6 i7 i8 i9 j1 j2 j3 j4 j5 j6 j7 j8 gg p0 F7 ga o7 n7 k8 v7 n3 n4 t1 t2 l5 x0 n8 n9 n6 n5 ea k9 o2 o3 o0 ec w7 w8 v6 c1 hc k1 k5 hs u5 u0 m8 u7 u6 n0 q0 q8 q9 l6 big eW;rintro mm ⟨T,σ,nx⟩ ⟨p8,p9,E,G,Y,J,e1,D3,U,Q,sU,sV,s0,sq,dU,dQ,lU,lQ,c9,e0⟩;simp only at p8 p9 E G Y J e1 sU sV s0 sq;subst e1;cases mm with
   |zero=>
    have f0:¬(0:Int)<=((0:Nat):Int) - 1:=by omega
    refine .inr ⟨_,by simp only[go_sem,J,f0];rfl,by simp,_,σ,U,Q,rfl,?_⟩;simp only[go_sem,p8,p9,E,Y];refine⟨sU,s0,?_,dU,dQ,lU,by omega,by rw[yg]at c9;exact c9,by rw[<- e0,Tt,Int.one_mul]⟩;rw[sq];rfl
   |succ j=>
    have e5:((j+1:Nat):Int) - 1=(j:Int):=by omega
    rw[e5]at J;have e3:j+(e+2)<U.length:=by omega
    obtain⟨x1,x2,⟨Ur,p4,y7,xU⟩,⟨Vr,p5,p6,xV⟩,x5,x6⟩:=window (W:=W) (V:=Vn) dU k0 dW vW e3 c9;have r1:=dU.get e3;have r2:=dU.get (k:=j+e+1) (by omega);have r3:=dU.get (k:=j+e) (by omega);have p7:=idx e3;have q5:=idx (xs:=U) (k:=j+e+1) (by omega);have e7:=idx (xs:=U) (k:=j+e) (by omega);obtain⟨un,q6⟩:∃un,un=U[j+(e+2)]:=⟨_,rfl⟩;obtain⟨u1,y8⟩:∃u1,u1=U[j+e+1]:=⟨_,rfl⟩;obtain⟨u2,y9⟩:∃u2,u2=U[j+e]:=⟨_,rfl⟩;rw[<- q6]at x1 xU x5 r1 p7;rw[<- y8]at xU r2 q5;rw[<- y9]at xU r3 e7;rw[<- o4]at xV x5;rw[<- o5]at xV;obtain⟨top,q7⟩:∃top,top=un*1000000000+u1:=⟨_,rfl⟩;rw[<- q7]at xU;have tb:top<=v1*1000000000+999999999:=by
     have:=zS x5 (show(0:Int)<=1000000000 by decide);omega
    have t0:0<=top:=by omega
    obtain⟨X,eX⟩:∃X,X=vl (U.drop j):=⟨_,rfl⟩;rw[<- eX]at x1 x2 xU;have P0:0<=bp e:=x9 (qX e);have d1:bu<S+1:=by omega
    have d2:nb<S+1:=by omega
    have a0:(j:Int)+((e+2:Nat):Int)=((j+(e+2):Nat):Int):=by omega
    have a1:=ZU (n:=((j+(e+2):Nat):Int)) (by omega) (by omega);have a2:(0:Int)<=((j+(e+2):Nat):Int):=by omega
    have a3:((j+(e+2):Nat):Int)<(O:Int):=by omega
    have a4:((j+(e+2):Nat):Int) - 1=((j+e+1:Nat):Int):=by omega
    have a5:=ZU (n:=((j+e+1:Nat):Int));have a6:(0:Int)<=((j+e+1:Nat):Int):=by omega
    have a7:((j+e+1:Nat):Int)<(O:Int):=by omega
    have a8:=ZU (n:=un*1000000000);have a9:=ZU (n:=top);have b0:=jF j;have e8:((e+2:Nat):Int) - 1=((e+1:Nat):Int):=by omega
    have b2:=ZU (n:=((e+1:Nat):Int));have b3:(0:Int)<=((e+1:Nat):Int):=by omega
    have b4:((e+1:Nat):Int)<((e+2:Nat):Int):=by omega
    have b5:¬v1=0:=by omega
    have b6:top.tdiv v1=top / v1:=yB t0;have b7:top.tmod v1=top%v1:=xC t0;have z6:0<=top / v1:=Int.ediv_nonneg t0 (by omega);have z7:top / v1<=1000000001:=by
     refine Int.le_of_lt_add_one (Int.ediv_lt_of_lt_mul (by omega) ?_);have:1000000002*v1=v1*1000000000+2*v1:=by omega
     show top<1000000002*v1;omega
    have b8:=ZU (n:=top / v1);have m0:=Int.emod_nonneg top (show v1≠0 by omega);have m1:=Int.emod_lt_of_pos top (show 0<v1 by omega);have b9:=ZU (n:=top%v1);have z8:top%v1=top-top / v1*v1:=by have:=Int.emod_def top v1;rw[Int.mul_comm]at this;exact this
    have hi0:X<(top / v1+1)*Vn:=by
     refine ate (v1:=v1) (top:=top) (P:=bp e*1000000000) (Vr:=v2*bp e+Vr) (Ur:=u2*bp e+Ur) z6 (by omega) ?_ ?_ ?_ ?_ ?_
     .rw[xV];grind
     .have:=vV h4.1 P0;omega
     .rw[xU];grind
     .have:u2*bp e<=999999999*bp e:=zS (by omega) P0
      omega
     .rw[Int.add_mul];omega
    have c0:((j+(e+2):Nat):Int) - 2=((j+e:Nat):Int):=by omega
    have h6:=ZU (n:=((j+e:Nat):Int));have c2:(0:Int)<=((j+e:Nat):Int):=by omega
    have c3:((j+e:Nat):Int)<(O:Int):=by omega
    have c4:((e+2:Nat):Int) - 2=(e:Int):=by omega
    have c5:=ZU (n:=(e:Int));have c6:=jF e;have c7:(e:Int)<((e+2:Nat):Int):=by omega
    refine bD ?_
    conv=>
     enter [1,r,1,1]
     simp only[go_sem,p8,p9,E,G,Y,J,sU,sV,d1,d2,p7,q5,e2,a0,a1,a2,a3,a4,a5,a6,a7,a8,a9,b0,e8,b2,b3,b4,b5,b6,b7,b8,b9,<- q7]
    generalize hL:iI _ _=z
    obtain⟨r,rfl,T1,g,rfl,p8,p9,E,G,Y,J,c8,g0,gB,gh,gl⟩:=jS hL (fun k st=>st.T 8= .rs 0 0 1/\st.T 9= .rs bu 0 O/\st.T 10= .rs nb 0 (e+2)/\st.T 11=I ((e+2:Nat):Int)/\st.T 12= .rs S 0 (O - (e+2))/\st.T 13=I j/\st.σ=σ/\st.nx=S+1 /\
      ∃g rest,st.T 15=I g/\st.T 16=I rest/\g=(k:Int)/\g<=1000000001/\X<(g+1)*Vn/\rest=top-g*v1/\0<=rest/\rest<1000000000)
     (fun r=>∃T g,r=(.exit 4,⟨T,σ,S+1⟩)/\T 8= .rs 0 0 1/\T 9= .rs bu 0 O/\T 10= .rs nb 0 (e+2)/\T 11=I ((e+2:Nat):Int)/\T 12= .rs S 0 (O - (e+2))/\T 13=I j/\T 15=I g/\0<=g/\g<1000000000/\X<(g+1)*Vn/\(g-1)*Vn<=X) (by
      clear hL;rintro k ⟨T,σ',nx⟩ ⟨p8,p9,E,G,Y,J,h5,e1,g,rest,c8,e9,D6,A0,gh,hr,r0,rB⟩;simp only at p8 p9 E G Y J c8 e9 h5 e1;subst h5 e1;have gm:g*v2<=1000000001*999999999/\0<=g*v2:=by
       refine⟨Int.le_trans (zS A0 h4.1) (zB (by omega) (by decide)),vV (by omega) h4.1⟩
      have z1:=ZU (n:=g*v2);have z2:=ZU (n:=rest*1000000000);have z3:=ZU (n:=rest*1000000000+u2);have z4:=ZU (n:=g-1);have z5:=ZU (n:=rest+v1);have go:(1000000000<=g\/rest*1000000000+u2<g*v2)->X<g*Vn/\1<=g:=by
       rintro (h|h)
       .exact⟨alA (by omega) x2 h,by omega⟩
       .refine⟨ao4 (by omega) P0 xV p5 xU y7 hr h,?_⟩
        refine Int.not_lt.mp fun D9=>?_
        have:g=0:=by omega
        subst this;omega
      have fin:X<g*Vn->1<=g->rest+v1=top - (g-1)*v1/\X<(g-1+1)*Vn:=fun h _=>by
       refine⟨by rw[uF];omega,by rw[Int.sub_add_cancel];exact h⟩
      have cut:X<g*Vn->1<=g->1000000000<=rest+v1->g-1<1000000000/\(g-1-1)*Vn<=X:=fun h h1 A1=>by
       obtain⟨q1,q2⟩:=fin h h1;have q3:g-1<1000000000:=by
        refine Int.not_le.mp fun hn=>?_
        have:1000000000*v1<=(g-1)*v1:=zS hn (by omega);omega
       have q4:=ao5 (g:=g-1) (by omega) (x9 q3) (by decide) P0 (by omega) xV (x9 p6) xU p4 (by omega) q1 A1;refine⟨q3,?_⟩;rw[uF (g-1),Int.one_mul];omega
      by_cases hB:1000000000<=g
      .obtain⟨y1,y2⟩:=go (.inl hB)
       obtain⟨y3,y4⟩:=fin y1 y2
       by_cases hE:1000000000<=rest+v1
       .obtain⟨y5,y6⟩:=cut y1 y2 hE
        refine .inr ⟨_,by simp only[go_sem,p9,E,G,J,c8,e9,sU,sV,d1,d2,e7,e2,e6,a0,a1,a2,b0,e8,b2,b3,b4,c0,h6,c2,c3,c4,c5,c6,c7,z1,z2,z3,z4,z5,hB,hE];rfl,by simp,_,g-1,rfl,?_⟩;simp only[go_sem,p8,p9,E,G,Y,J];exact⟨by omega,y5,y4,y6⟩
       .refine .inl ⟨_,by simp only[go_sem,p9,E,G,J,c8,e9,sU,sV,d1,d2,e7,e2,e6,a0,a1,a2,b0,e8,b2,b3,b4,c0,h6,c2,c3,c4,c5,c6,c7,z1,z2,z3,z4,z5,hB,hE];rfl,k-1,by omega,?_⟩
        simp only[go_sem,p8,p9,E,G,Y,J];exact⟨_,_,rfl,rfl,by omega,by omega,y4,y3,by omega,by omega⟩
      .by_cases hC:rest*1000000000+u2<g*v2
       .obtain⟨y1,y2⟩:=go (.inr hC)
        obtain⟨y3,y4⟩:=fin y1 y2
        by_cases hE:1000000000<=rest+v1
        .obtain⟨y5,y6⟩:=cut y1 y2 hE
         refine .inr ⟨_,by simp only[go_sem,p9,E,G,J,c8,e9,sU,sV,d1,d2,e7,e2,e6,a0,a1,a2,b0,e8,b2,b3,b4,c0,h6,c2,c3,c4,c5,c6,c7,z1,z2,z3,z4,z5,hB,hC,hE];rfl,by simp,_,g-1,rfl,?_⟩;simp only[go_sem,p8,p9,E,G,Y,J];exact⟨by omega,y5,y4,y6⟩
        .refine .inl ⟨_,by simp only[go_sem,p9,E,G,J,c8,e9,sU,sV,d1,d2,e7,e2,e6,a0,a1,a2,b0,e8,b2,b3,b4,c0,h6,c2,c3,c4,c5,c6,c7,z1,z2,z3,z4,z5,hB,hC,hE];rfl,k-1,by omega,?_⟩
         simp only[go_sem,p8,p9,E,G,Y,J];exact⟨_,_,rfl,rfl,by omega,by omega,y4,y3,by omega,by omega⟩
       .refine .inr ⟨_,by simp only[go_sem,p9,E,G,J,c8,e9,sU,sV,d1,d2,e7,e2,e6,a0,a1,a2,b0,e8,b2,b3,b4,c0,h6,c2,c3,c4,c5,c6,c7,z1,z2,z3,z4,z5,hB,hC];rfl,by simp,_,g,rfl,?_⟩
        simp only[go_sem,p8,p9,E,G,Y,J,c8];refine⟨by omega,by omega,gh,?_⟩;exact atg (by omega) (by omega) (by decide) P0 (by omega) h4.1 xV p5 (x9 p6) xU p4 hr (by omega)) (top / v1).toNat (by
      simp only[go_sem,p8,p9,E,G,Y,J];exact⟨_,_,rfl,rfl,by omega,z7,hi0,z8,m0,by omega⟩)
    have l7:bu≠nb:=by omega
    have k6:¬S=bu:=by omega
    obtain⟨lo,tt,k2,l8,P6,k7,E0,E1⟩:=ati (nx:=S+1) (L:=O-j) (n:=e+2) (g:=g) (by omega) sU sV l7 k4 k0 e3 (by omega) dU dW ⟨g0,gB⟩;rw[<- q6,vW,<- x1]at k7;have X0:0<=X:=by rw[eX];exact Zd (dU.drop j)
    have r4:=alH sU lU (show j<O by omega);have r5:∀x,upd σ bu x S=some ⟨rep (j+1) [I 0]++Q.flatMap cI,1,true⟩:=fun x=>by rw[Zk _ _ k6];exact sq
    have r6:∀x,upd σ bu x nb=some ⟨P2.flatMap cI,1,true⟩:=fun x=>by rw[Zk _ _ (yu l7)];exact sV
    have r7:∀x y,upd (upd σ bu x) S y bu=x:=fun x y=>by rw[Zk _ _ (yu k6),Zj]
    have r8:∀x y,upd (upd σ bu x) S y nb=some ⟨P2.flatMap cI,1,true⟩:=fun x y=>by rw[Zm];exact r6 x
    have r9:∀x y,upd (upd σ bu x) S y 0=some ⟨[I s],1,true⟩:=fun x y=>by rw[Zm,Zm];exact s0
    have l1:(j:Int)<((O - (e+2):Nat):Int):=by omega
    have l2:j<(rep (j+1) [I 0]++Q.flatMap cI).length:=by rw[zo,fQ];simp;omega
    have l3:=ZU (n:=(j:Int) - 1);have w0:=ZU (n:=g-1);have A2:g-1<1000000000:=by omega
    have jl:j<O - (e+2):=by omega
    have s1:j<=O - (e+2):=by omega
    have s2:j<j+1:=by omega
    have A3:e+2<O-j:=by omega
    rcases after_take (U:=U) (j:=j) l8 P6 k7 gh gl dV x4 g0 X0 with ⟨l9,z1,z2⟩|⟨l9,g1,z3⟩
    .subst l9
     have dc:decide ((0:Int)<0)=false:=by decide
     rw[dc]at k2;have l4:=MB j (I 0) (I g) (Q.flatMap cI);obtain⟨U',Q',m2,m3,w1,w2,w3,w4,w5,w6⟩:=Xt dU dQ lU e3 lQ x6 eX e0 l8 P6 g0 gB z1 z2;rw[m2]at k2;rw[m3]at l4;refine⟨_,by simp only[go_sem,r4,qE,p8,p9,E,G,Y,J,c8,k2,b0,l1,l2,l3,l4,r5];rfl,.inl ⟨_,rfl,j,s2,?_⟩⟩;simp only[go_sem,p8,p9,E,G,Y];exact⟨s1,U',Q',r7 _ _,r8 _ _,r9 _ _,rfl,w1,w2,w3,w4,w5,w6⟩
    .subst l9
     have dc:decide ((-1:Int)<0)=true:=by decide
     rw[dc]at k2;obtain⟨U1,A4,A5,⟨A6,A7⟩,A8,A9,ll⟩:=alJ dU lU e3 l8 P6;rw[A4]at k2;obtain⟨s3,cc,k3,m4,s4,h7,_,_⟩:=atl (σ:=upd σ bu (some ⟨U1.flatMap cI,1,true⟩)) (nx:=S+1) (L:=O-j) (n:=e+2) (t:=-1) A3 (Zj _ _ _) (r6 _) l7 k4 k0 A6 (by omega) A8 A7 (by decide) dW;rw[A9,vW]at h7;obtain⟨B1,z4,z5⟩:=z3 s3 cc m4 s4 h7;subst B1;have B2:(-1:Int)+1=0:=by decide
     rw[B2,ll s3 m4,Zi]at k3;have B3:=alI (b:=bu) A5 (show j<O by omega);have l4:=MB j (I 0) (I (g-1)) (Q.flatMap cI);obtain⟨U',Q',m2,m3,w1,w2,w3,w4,w5,w6⟩:=Xt dU dQ lU e3 lQ x6 eX e0 m4 s4 g1 A2 z4 z5;rw[m2]at k3;rw[m3]at l4;refine⟨_,by simp only[go_sem,r4,B3,qE,p8,p9,E,G,Y,J,c8,k2,k3,w0,b0,l1,l2,l3,l4,r5];rfl,.inl ⟨_,rfl,j,s2,?_⟩⟩;simp only[go_sem,p8,p9,E,G,Y];exact⟨s1,U',Q',r7 _ _,r8 _ _,r9 _ _,rfl,w1,w2,w3,w4,w5,w6⟩) (O - (e+2)) (by
    clear hL;simp only[go_sem,q8,q9,l6];rw[<- y0];have B4:¬bu=S:=by omega
    have B5:¬nb=S:=by omega
    refine⟨rfl,rfl,dg (m*s)++[0],[],?_,?_,?_,by rw[Zj];simp,(oU _).snoc (by decide) (by decide),Dg.nil,by rw[zo];show ln (m*s)+1=O;omega,by simp,?_,?_⟩
    .rw[Zk _ _ B4];exact o3
    .rw[Zk _ _ B5];exact o0
    .exact o2
    .have E2:(dg (m*s)).length=ln (m*s):=rfl
     rw[ug (by omega),Zc,vk,uQ];have:=Ze ((oU (m*s)).drop (O - (e+2)));rw[zC,show(dg (m*s)).length - (O - (e+2))=e+1 by omega]at this;have h3:=qX (e+1);omega
    .rw[Zc,Zf];simp[vl])
 obtain⟨R,eR⟩:∃R:Nat,(R:Int)=vl U:=⟨(vl U).toNat,uZ (Zd dU)⟩;obtain⟨Qn,eQ⟩:∃Qn:Nat,(Qn:Int)=vl Q:=⟨(vl Q).toNat,uZ (Zd dQ)⟩;rw[<- eR,<- eQ,eV]at e0;rw[<- eR,eV]at c9;have s5:n*s*Qn+R=m*s:=by
  have h:((R+n*s*Qn:Nat):Int)=((m*s:Nat):Int):=by
   rw[Int.natCast_add,yj (n*s) Qn];exact e0
  have:=Int.ofNat_inj.mp h;omega
 have m5:R<n*s:=Int.ofNat_lt.mp c9;have m6:0<s:=by omega
 have hq:Qn=m / n:=by
  rw[<- Nat.mul_div_mul_right m n m6,<- s5,Nat.mul_add_div (Nat.mul_pos (by omega) m6),vF m5];rfl
 have hr:R=m%n*s:=by
  rw[<- Nat.mul_mod_mul_right,<- s5,Nat.mul_add_mod_self_left,wK m5]
 have B6:R / s=m%n:=by rw[hr,Nat.mul_div_cancel _ m6]
 have lR:ln R<=1000002:=zL (gi dU eR.symm).2 (by omega);have E3:n*s<=m*s:=zD _ hle;have E4:ln R<=1000000:=by
  have h1:=jc (Nat.le_of_lt m5);rw[j9]at h1;omega
 obtain⟨B7,t3,s6⟩:=ahM R s (by show ln R<=_;omega) (by omega) j0 (S+1);have B8:=lN (off:=0) (len:=ln (R / s)) 5 s6;have s7:=acG (σ:=restrict YG [bu]) (nx:=S+1) (b:=bu) (xs:=U) (by rw[fM];exact sU) (by unfold Short;omega);rw[CW (n:=R) dU eR.symm,lU,show(dg R).length=ln R from rfl]at s7;have pr:yI [bu] (S+1) (S+1) YG (restrict YG [bu])=YG:=by
  funext i;unfold yI restrict
  by_cases h:i=bu
  .subst h;simp
  .rw[sQ (by simp only[yD,h,false_or];omega)]
 obtain⟨B9,C0⟩:=gi dU eR.symm;have d1:bu<S+1:=by omega
 have d0:0<S+1:=by omega
 have st1:strip YG (6+1) (.rs bu 0 (ln R))=some (LI (dg R),[bu]):=by
  rw[aS,sU];simp only[zk,yN,yZ,yg,qN];rw[sO C0,B9,Dt];rfl
 obtain⟨e4,m7⟩:∃e4,e4=K_ (S+1) (S+1+1) YG B7 [S+1]:=⟨_,rfl⟩;have s8:e4 S=some ⟨Q.flatMap cI,1,true⟩:=by rw[m7,anr (by omega)];exact sq
 have C1:e4 (S+1)=some ⟨(pad (R / s) (dg R).length).flatMap cI,1,true⟩:=by rw[m7,asZ (by omega) (by omega) (by simp)];exact s6
 have s9:=acG (σ:=e4) (nx:=S+1+1) (b:=S) (xs:=Q) s8 (by unfold Short;omega);rw[CW (n:=Qn) dQ eQ.symm,lQ,show(dg Qn).length=ln Qn from rfl]at s9;obtain⟨C2,C3⟩:=gi dQ eQ.symm;have C4:strip e4 (5+1) (.rs S 0 (ln Qn))=some (LI (dg Qn),[S]):=by
  rw[aS,s8];simp only[zk,yN,yZ,yg,qN];rw[sO C3,C2,Dt];rfl
 have C5:strip e4 (5+1) (.rs (S+1) 0 (ln (R / s)))=some (LI (dg (R / s)),[S+1]):=by
  obtain⟨C6,C7⟩:=gi (xs:=pad (R / s) (dg R).length) (n:=R / s) (TT _ _) (ahP _ _ (Nat.lt_of_le_of_lt (xE _ _) ahf));rw[aS,C1];simp only[zk,yN,yZ,yg,qN];rw[sO C7,C6,Dt];rfl
 have z0:(0:Int)<=0:=by decide
 have z1:(0:Int)<1:=by decide
 have z3:(0:Int).toNat=0:=id rfl;have C8:(bu==0)=false:=by rw[sN];omega
 rw[<- hq,<- B6];simp only[go_sem,qE,p8,p9,E,Y,sU,s0,s7,pr,d1,d0,st1,t3,B8,<- m7,s9,C4,C5,z0,z1,z3,C8]
theorem ahR(m:Nat)(h:ln m<=1000000):fn ZM conv ext 64 [LI (dg m)]=some (LI (dg m)):=aaJ (dg m) (by show ln m<=_;omega)
theorem ahS(m n:Nat)(hm:ln m<=1000000)(S:n≠0)(hn:ln n<=1000000):fn ZM Eu Ja 176 [LI (dg m),LI (dg n)]=some (.AX [LI (dg (m / n)),LI (dg (m%n))]):=by
 by_cases E:m<n
 .have G:=kN m n hm hn
  have k2:=ahR m hm;have hc:Bg m n= -1:=by unfold Bg;rw[sO E]
  have m1:(-1:Int)<0:=by decide
  rw[hc]at G;rw[vF E,wK E,oJ];rw[mJ,nC [.tmp 4,.tmp 5] [15,16,17,25] func176]
  (simp only[go_sem,G,k2,m1])<;>rfl
 by_cases h2:2<=ln n
 .exact atn m n hm h2 (by omega)
 have hp:=jW S;have J:n<1000000000:=by
  have:=(jd (n:=n) (k:=1)).mp (by omega);have e:bp 1=1000000000:=by decide
  rw[e]at this;omega
 have G:=kN m n hm hn;have hc:¬Bg m n<0:=by unfold Bg;rw[sQ E];split<;>decide
 obtain⟨Y,t3,O⟩:=ahM m n hm S J 0;have a1:=lN (off:=0) (len:=ln (m / n)) 5 O;have hr:m%n<n:=vX _ (by omega);have k4:=aoF (m%n) (by omega);have w1:=ZT (n:=((m%n:Nat):Int)) (by omega) (by omega);have z1:(0:Int)<1:=by decide
 have z2:(0:Int)<=0:=by decide
 have z3:(0:Int).toNat=0:=id rfl;obtain⟨a6,a7⟩:=gi (xs:=pad (m / n) (dg m).length) (n:=m / n) (TT _ _) (ahP _ _ (Nat.lt_of_le_of_lt (xE _ _) ahf));have st:strip (Ce 0 pI Y [0]) (5+1) (.rs 0 0 (ln (m / n)))=some (LI (dg (m / n)),[0]):=by
  rw[aS,jr (by decide) (by simp),O];simp only[zk,yN,yZ,yg,qN];rw[sO a7,a6,Dt];rfl
 rw[oN S J]at G⊢;have a8:fn ZM conv ext 175 [LI (dg m),.ts [I n] 1]=some (I (Bg m n)):=G
 rw[mJ,nC [.tmp 4,.tmp 5] [15,16,17,25] func176];simp only[go_sem,a8,hc,z1,z2,z3,t3,a1,w1,k4,st]
abbrev apa:List Nat:=[3,4,5,8,9,12,13,14,15,17,18,19,23,31,36,37,40,41,52,53,65,72,75,91,103,107,109,113,114,128,137,143,144,145,146,147,149,152,153,163,165,170,173,174,183,185,186,188,197,204,211,217,219,223]
def Aa:FuncId->Conv:=fun f=>if f∈([]:List Nat)then .own else if f∈([143,144,170,173,185,186,188,217,219,197,223]:List Nat)then .inl else .KI
noncomputable def Ak:Ext:=fun f=>if f=176 then some (fun args σ nx=>ev ZM Eu Ja 176 args σ nx)else if f∈apa then none else some fun args σ nx=>ev ZM conv ext f args σ nx
theorem apb:Iw ZM Ak:=fun f g h args σ nx v σ' nx' E=>by
 unfold Ak at h
 split at h
 .rename_i G
  subst G;cases h;exact mg (by kernel_rfl) ao6 176 args σ nx v σ' nx' E
 .split at h
  .cases h
  .cases h
   exact mg (by kernel_rfl) ag9 f args σ nx v σ' nx' E
theorem fnL{f:FuncId}(h:(f==176||List.contains apa f)=false)(ts:List V):fn ZM Aa Ak f ts=fn ZM conv ext f ts:=by
 rw[Bool.or_eq_false_iff]at h;have E:¬f=176:=fun e=>by subst e;simp at h
 have G:¬f∈apa:=fun e=>by rw[List.contains_iff_mem.mpr e]at h;cases h.2
 rw[mJ,mJ,n_ (g:=fun args σ nx=>ev ZM conv ext f args σ nx) (by unfold Ak;rw[sQ E,sQ G])]
theorem mM(ts:List V):fn ZM Aa Ak 176 ts=fn ZM Eu Ja 176 ts:=by
 rw[mJ,mJ,n_ (g:=fun args σ nx=>ev ZM Eu Ja 176 args σ nx) (by unfold Ak;rw[sO rfl])]
abbrev oI(n:Nat):Prop:=∀ts:List V,fn ZM Aa Ak n ts=fn ZM conv ext n ts
theorem apd:oI 6/\oI 10/\oI 20/\oI 21/\oI 26/\oI 27/\oI 29/\oI 30/\oI 32/\oI 33/\oI 34/\oI 35/\oI 39/\oI 42/\oI 43/\oI 44/\oI 45/\oI 46/\oI 47/\oI 48/\oI 58/\oI 59/\oI 60/\oI 61:=by and_intros<;>exact fnL rfl
theorem ape:oI 62/\oI 63/\oI 64/\oI 69/\oI 70/\oI 71/\oI 73/\oI 74/\oI 76/\oI 77/\oI 78/\oI 79/\oI 80/\oI 81/\oI 82/\oI 83/\oI 84/\oI 87/\oI 88/\oI 96/\oI 97/\oI 98/\oI 99/\oI 100:=by and_intros<;>exact fnL rfl
theorem apf:oI 101/\oI 102/\oI 106/\oI 108/\oI 110/\oI 111/\oI 112/\oI 115/\oI 116/\oI 117/\oI 118/\oI 119/\oI 120/\oI 121/\oI 122/\oI 123/\oI 125/\oI 126/\oI 135/\oI 136/\oI 140/\oI 141/\oI 142/\oI 148:=by and_intros<;>exact fnL rfl
theorem apg:oI 150/\oI 151/\oI 154/\oI 155/\oI 156/\oI 157/\oI 158/\oI 159/\oI 160/\oI 161/\oI 162/\oI 164/\oI 168/\oI 169/\oI 171/\oI 172/\oI 175/\oI 177/\oI 178/\oI 179/\oI 180/\oI 181/\oI 182/\oI 184:=by and_intros<;>exact fnL rfl
theorem aph:oI 187/\oI 189/\oI 190/\oI 191/\oI 192/\oI 193/\oI 194/\oI 195/\oI 196/\oI 198/\oI 199/\oI 202/\oI 203/\oI 205/\oI 206/\oI 207/\oI 208/\oI 209/\oI 210/\oI 212/\oI 213/\oI 214/\oI 215/\oI 216:=by and_intros<;>exact fnL rfl
theorem apj:oI 218/\oI 220/\oI 221/\oI 222/\oI 226/\oI 227/\oI 228/\oI 229/\oI 230/\oI 231/\oI 232/\oI 233/\oI 234/\oI 235/\oI 236/\oI 237/\oI 238/\oI 239/\oI 240/\oI 242/\oI 243/\oI 244/\oI 245/\oI 246:=by and_intros<;>exact fnL rfl
theorem apk:oI 247/\oI 248/\oI 249/\oI 250/\oI 251:=by and_intros<;>exact fnL rfl
abbrev dI(n:Nat):Prop:=Aa n= .KI
abbrev Eh(n:Nat):Prop:=Aa n= .inl
theorem apl:dI 4/\dI 6/\dI 8/\dI 10/\dI 13/\dI 14/\dI 18/\dI 19/\dI 20/\dI 21/\dI 26/\dI 27/\dI 29/\dI 30/\dI 31/\dI 32/\dI 33/\dI 34/\dI 35/\dI 36/\dI 37/\dI 39/\dI 40/\dI 41:=by and_intros<;>exact rfl
theorem apm:dI 42/\dI 43/\dI 44/\dI 45/\dI 46/\dI 47/\dI 48/\dI 58/\dI 59/\dI 60/\dI 61/\dI 62/\dI 63/\dI 64/\dI 65/\dI 69/\dI 70/\dI 71/\dI 72/\dI 73/\dI 74/\dI 75/\dI 76/\dI 77:=by and_intros<;>exact rfl
theorem apn:dI 78/\dI 79/\dI 80/\dI 81/\dI 82/\dI 83/\dI 84/\dI 87/\dI 88/\dI 96/\dI 97/\dI 98/\dI 99/\dI 100/\dI 101/\dI 102/\dI 103/\dI 106/\dI 107/\dI 108/\dI 109/\dI 110/\dI 111/\dI 112:=by and_intros<;>exact rfl
theorem apo:dI 113/\dI 114/\dI 115/\dI 116/\dI 117/\dI 118/\dI 119/\dI 120/\dI 121/\dI 122/\dI 123/\dI 125/\dI 126/\dI 128/\dI 135/\dI 136/\dI 137/\dI 140/\dI 141/\dI 142/\Eh 143/\Eh 144/\dI 145/\dI 146:=by and_intros<;>exact rfl
theorem apq:dI 147/\dI 148/\dI 149/\dI 150/\dI 151/\dI 152/\dI 153/\dI 154/\dI 155/\dI 156/\dI 157/\dI 158/\dI 159/\dI 160/\dI 161/\dI 162/\dI 163/\dI 164/\dI 165/\dI 168/\dI 169/\Eh 170/\dI 171/\dI 172:=by and_intros<;>exact rfl
theorem apr:Eh 173/\dI 174/\dI 175/\dI 176/\dI 177/\dI 178/\dI 179/\dI 180/\dI 181/\dI 182/\dI 183/\dI 184/\Eh 185/\Eh 186/\dI 187/\Eh 188/\dI 189/\dI 190/\dI 191/\dI 192/\dI 193/\dI 194/\dI 195/\dI 196:=by and_intros<;>exact rfl
theorem aps:Eh 197/\dI 198/\dI 199/\dI 202/\dI 203/\dI 204/\dI 205/\dI 206/\dI 207/\dI 208/\dI 209/\dI 210/\dI 211/\dI 212/\dI 213/\dI 214/\dI 215/\dI 216/\Eh 217/\dI 218/\Eh 219/\dI 220/\dI 221/\dI 222:=by and_intros<;>exact rfl
theorem apt:Eh 223/\dI 226/\dI 227/\dI 228/\dI 229/\dI 230/\dI 231/\dI 232/\dI 233/\dI 234/\dI 235/\dI 236/\dI 237/\dI 238/\dI 239/\dI 240/\dI 242/\dI 243/\dI 244/\dI 245/\dI 246/\dI 247/\dI 248/\dI 249:=by and_intros<;>exact rfl
theorem apu:dI 250/\dI 251:=by and_intros<;>exact rfl
attribute [go_sem] mM apd ape apf apg aph apj apk
attribute [go_sem] apl apm apn apo apq apr aps apt apu
theorem ahT(m n:Nat):ln (m / n)<=ln m:=jc (xE _ _)
theorem acI(m n:Nat)(hm:ln m<=1000000)(E:n≠0)(hn:ln n<=1000000):fn ZM Aa Ak 176 [LI (dg m),LI (dg n)]=some (.AX [LI (dg (m / n)),LI (dg (m%n))]):=by
 rw[mM,ahS m n hm E hn]
theorem Xu(m n:Nat)(hm:ln m<=1000000)(hn:ln n<=1000000):fn ZM Aa Ak 174 [LI (dg m),LI (dg n)]=some (LI (dg (Nat.gcd m n))):=by
 have ho:=acI;rw[mJ,nC [.tmp 4] [] func174];simp only[go_sem];generalize hL:iI _ _=y;obtain⟨r,rfl,T',rfl,E⟩:=jS hL (fun b st=>st.nx=0/\st.σ=pI/\ln b<=1000000/\∃a:Nat,ln a<=1000000/\st.T 0=LI (dg a)/\st.T 1=LI (dg b)/\Nat.gcd a b=Nat.gcd m n)
  (fun r=>∃T,r=(.exit 0,⟨T,pI,0⟩)/\T 0=LI (dg (Nat.gcd m n))) (by
   clear hL;rintro b ⟨T,σ,nx⟩ ⟨G,J,hb,a,ha,E,S,Y⟩;simp only at G J E S;subst G J
   by_cases hz:b=0
   .subst hz
    rw[oJ]at S;have a1:T 1= .ts [] 0:=S;have f0:¬(0:Int)<0:=by decide
    rw[Nat.gcd_zero_right]at Y;exact .inr ⟨_,by simp only[go_sem,a1,f0];rfl,by simp,_,rfl,by simp only[go_sem,E,Y]⟩
   .have f0:(0:Int)<((dg b).length:Int):=by have:=List.length_pos_iff.mpr (oO hz);omega
    have k1:=ho a b ha hz hb;rw[mM]at k1;have O:a%b<b:=vX _ (by omega);refine .inl ⟨_,by simp only[go_sem,E,S,f0,k1];rfl,a%b,O,?_⟩;simp only[go_sem];refine⟨zL (jc (Nat.le_of_lt O)) hb,b,hb,rfl,?_⟩;rw[<- Y,Nat.gcd_comm a b,Nat.gcd_rec b a,Nat.gcd_comm]) n ⟨rfl,rfl,hn,m,hm,by simp only[go_sem],by simp only[go_sem],rfl⟩
 simp only[go_sem,E]
theorem ahU(x y:Int):A_ (decide (x<0) !=decide (y<0)) (x.natAbs / y.natAbs)=x.tdiv y:=by
 obtain⟨a,ha|ha⟩:=Int.eq_nat_or_neg x<;>obtain⟨b,hb|hb⟩:=Int.eq_nat_or_neg y<;>subst ha hb
 .have E:decide ((a:Int)<0)=false:=by simp
  have G:decide ((b:Int)<0)=false:=by simp
  rw[E,G,wo,wo];unfold A_;simp[Int.ofNat_tdiv]
 .by_cases h:b=0
  .subst h;simp[A_]
  .have E:decide ((a:Int)<0)=false:=by simp
   have G:decide (-(b:Int)<0)=true:=by simp;omega
   rw[E,G,wo,wC,wo,Int.tdiv_neg];unfold A_;simp[Int.ofNat_tdiv]
 .by_cases h:a=0
  .subst h;simp[A_]
  .have E:decide (-(a:Int)<0)=true:=by simp;omega
   have G:decide ((b:Int)<0)=false:=by simp
   rw[E,G,wo,wC,wo,Int.neg_tdiv];unfold A_;simp[Int.ofNat_tdiv]
 .by_cases h:a=0
  .subst h;simp[A_]
  .by_cases hb:b=0
   .subst hb;simp[A_]
   .have E:decide (-(a:Int)<0)=true:=by simp;omega
    have G:decide (-(b:Int)<0)=true:=by simp;omega
    rw[E,G,wC,wC,wo,wo,Int.neg_tdiv,Int.tdiv_neg,Int.neg_neg];unfold A_;simp[Int.ofNat_tdiv]
theorem Om(x y:Int)(J:ln x.natAbs<=1000000)(O:ln y.natAbs<=1000000)(S:y≠0):fn ZM Aa Ak 204 [.agg (cZ x),.agg (cZ y)]=some (.agg (cZ (x.tdiv y))):=by
 have E:=acI x.natAbs y.natAbs J (by omega) O;rw[mM]at E;have G:=kF (decide (x<0) !=decide (y<0)) (x.natAbs / y.natAbs);rw[ahU]at G;have e:∀a b:Bool,(!a==b)=(a !=b):=by decide
 unfold cZ at *;rw[mJ,nC [.cell 4 171] [] func204];simp only[go_sem,E,G,e]
theorem alL(n:Nat)(hn:ln n<=1000000):fn ZM conv ext 175 [LI (dg n),.ts [I 1] 1]=some (I (Bg n 1)):=by
 have:=kN n 1 hn (by show ln 1<=_;rw[show ln 1=1 by unfold ln;rw[oN (d:=1) (by decide) (by decide)];rfl];decide);rw[oN (d:=1) (by decide) (by decide)]at this;exact this
theorem alM(neg:Bool)(m n:Nat)(hm:ln m<=1000000)(h0:n≠0)(hn:ln n<=1000000) :
  fn ZM Aa Ak 145 [.agg [Bo (neg && decide (0<(dg m).length)),LI (dg m)],LI (dg n)]=some (.tp (ahh neg m n) 0):=by
 have J:Nat.gcd m n≠0:=fun e=>h0 (Nat.eq_zero_of_gcd_eq_zero_right e)
 have S:Nat.gcd m n<=n:=Nat.gcd_le_right _ (by omega);have E:ln (Nat.gcd m n)<=1000000:=zL (jc S) hn;have Y:=Xu m n hm hn;have k2:=alL (Nat.gcd m n) E;have k3:=acI m (Nat.gcd m n) hm J E;have k4:=acI n (Nat.gcd m n) hn J E;rw[mM]at k3 k4;have k5:=fun b=>acg b (dg (m / Nat.gcd m n))
 have hc:=akX (n:=Nat.gcd m n);unfold ahh;rw[mJ,nC [.tmp 4] [] func145]
 by_cases O:m=0
 .subst O
  rw[Nat.gcd_zero_left,Nat.zero_div,Nat.div_self (by omega),oJ,oN (d:=1) (by decide) (by decide)]
  (simp only[go_sem])<;>rfl
 .have lz:(((dg m).length:Int)==0)=false:=by rw[sN];have:=rC (oO O);omega
  have lp:0<(dg m).length:=List.length_pos_iff.mpr (oO O);have a1:m / Nat.gcd m n≠0:=by
   have:=Nat.div_pos (Nat.gcd_le_left n (Nat.pos_of_ne_zero O)) (by omega);omega
  have lq:0<(dg (m / Nat.gcd m n)).length:=List.length_pos_iff.mpr (oO a1)
  by_cases G:Nat.gcd m n=1
  .rw[sJ G]at hc
   simp only[G,vK]at Y k2 hc⊢
   (simp only[go_sem,lz,lp,Y,k2,hc])<;>rfl
  .rw[sH G]at hc
   (simp only[go_sem,lz,lp,lq,Y,k2,hc,k3,k4,k5])<;>rfl
theorem Oo(z:Int)(d:Nat)(G:ln z.natAbs<=1000000)(E:d≠0)(J:ln d<=1000000):fn ZM Aa Ak 145 [.agg (cZ z),LI (dg d)]=some (.tp (cQ (mkRat z d)) 0):=by
 have k:=alM (decide (z<0)) z.natAbs d G E J;rw[<- aaU,dF,<- ano z E]at k;exact k
def Ln(k:Nat)(q:Rat):Prop:=ln q.num.natAbs<=k/\ln q.den<=k
theorem Ln.mono{k l:Nat}{q:Rat}(h:Ln k q)(E:k<=l):Ln l q:=⟨zL h.1 E,zL h.2 E⟩
theorem jX{x y:Rat}{k l:Nat}(h:Ln k x)(E:Ln l y):ln (x.num*y.den).natAbs<=k+l:=by
 rw[uY,wo];have:=jZ x.num.natAbs y.den;have:=h.1;have:=E.2;omega
theorem QX{x y:Rat}{k l:Nat}(h:Ln k x)(E:Ln l y):ln (x.den*y.den)<=k+l:=by
 have:=jZ x.den y.den;have:=h.2;have:=E.2;omega
theorem Jb(x y:Int):ln (x+y).natAbs<=max (ln x.natAbs) (ln y.natAbs)+1 :=
 zL (jc (Int.natAbs_add_le x y)) (aoL _ _)
theorem acJ(x y:Int):ln (x-y).natAbs<=max (ln x.natAbs) (ln y.natAbs)+1:=by
 have:=Jb x (-y);rw[wC,<- Int.sub_eq_add_neg]at this;exact this
theorem ahV(x y:Rat)(E:Ln 1000 x)(G:Ln 1000 y):fn ZM Aa Ak 146 [.tp (cQ x) 0,.tp (cQ y) 0]=some (.tp (cQ (x+y)) 0):=by
 have n1:=jX E G;have n2:=jX G E;have n3:=Jb (x.num*y.den) (y.num*x.den);have O:=IU x y.den (by have:=E.1;omega) (by have:=G.2;omega);have S:=IU y x.den (by have:=G.1;omega) (by have:=E.2;omega);have Y:=ahj (x.num*y.den) (y.num*x.den) (by omega) (by omega);have k4:=MC x.den y.den (by have:=E.2;omega) (by have:=G.2;omega);have J:=Oo (x.num*y.den+y.num*x.den) (x.den*y.den) (by omega) (dd0 x y) (by have:=QX E G;omega);rw[<- Rat.add_def']at J;unfold cQ at *;unfold cZ at *;rw[mJ,nC [.tmp 4] [] func146];simp only[go_sem,O,S,Y,k4,J]
theorem alN(x y:Rat):x*y=mkRat (A_ (decide (x.num<0) !=decide (y.num<0)) (x.num.natAbs*y.num.natAbs)) (x.den*y.den):=by
 have e:A_ (decide (x.num<0) !=decide (y.num<0)) (x.num.natAbs*y.num.natAbs)=x.num*y.num:=by
  have J:=dF x.num;have O:=dF y.num
  conv=>rhs;rw[<- J,<- O]
  unfold A_
  by_cases E:x.num<0<;>by_cases G:y.num<0
  .rw[sJ E,sJ G,sQ (by decide),sO rfl,sO rfl,Int.neg_mul_neg,yj]
  .rw[sJ E,sH G,sO (by decide),sO rfl,sQ (by decide),Int.neg_mul,yj]
  .rw[sH E,sJ G,sO (by decide),sQ (by decide),sO rfl,Int.mul_neg,yj]
  .rw[sH E,sH G,sQ (by decide),sQ (by decide),sQ (by decide),yj]
 rw[e,Rat.mul_def']
theorem acK(x y:Rat)(E:Ln 1000 x)(G:Ln 1000 y):fn ZM Aa Ak 147 [.tp (cQ x) 0,.tp (cQ y) 0]=some (.tp (cQ (x*y)) 0):=by
 have Y:ln (x.num*y.num).natAbs<=2000:=by
  rw[uY];have:=jZ x.num.natAbs y.num.natAbs;have:=E.1;have:=G.1;omega
 have O:=kQ x.num y.num (by have:=E.1;omega) (by have:=G.1;omega);have S:=MC x.den y.den (by have:=E.2;omega) (by have:=G.2;omega);have J:=Oo (x.num*y.num) (x.den*y.den) (by omega) (dd0 x y) (by have:=QX E G;omega);rw[<- Rat.mul_def']at J;unfold cQ at *;unfold cZ at *;rw[mJ,nC [.tmp 4] [] func147];simp only[go_sem,O,S,J]
def Jc(q:Rat):Option Rat:=if ln q.num.natAbs<=24/\ln q.den<=24 then some q else none
theorem ae8{q:Rat}(h:Ln 24 q):Jc q=some q:=sO h
theorem atu(q:Rat)(h:Ln 100000 q):fn ZM conv ext 182 [.tp (cQ q) 0]=some (pQ (Jc q)):=by
 have hb:((dg q.num.natAbs).length:Int)<=100000:=Int.ofNat_le.mpr h.1;have O:((dg q.den).length:Int)<=100000:=Int.ofNat_le.mpr h.2;unfold Jc;rw[mJ,nC [.tmp 2] [] func182]
 by_cases E:ln q.num.natAbs<=24
 .have c1:¬(24:Int)<((dg q.num.natAbs).length:Int):=by unfold ln at E;omega
  by_cases G:ln q.den<=24
  .have J:¬(24:Int)<((dg q.den).length:Int):=by unfold ln at G;omega
   rw[sO ⟨E,G⟩];unfold cQ pQ
   (simp only[go_sem,c1,J])<;>rfl
  .have J:(24:Int)<((dg q.den).length:Int):=by unfold ln at G;omega
   rw[sQ fun h=>G h.2];unfold cQ pQ
   (simp only[go_sem,c1,J])<;>rfl
 .have c1:(24:Int)<((dg q.num.natAbs).length:Int):=by unfold ln at E;omega
  rw[sQ fun h=>E h.1];unfold cQ pQ
  (simp only[go_sem,c1])<;>rfl
open Go.Lp
abbrev Ia(b:Bool):List V:=[Bo b]
def aa6(x:List Int):List V:=[LL cZ x]
def CB(B:List Nat):List Int:=B.map fun(n:Nat)=>(n:Int)
def Xv(D:TZ)(N:Nat):List V:=[LL aa6 D.R,Bo (decide (D.Bh<0)),LI (dg D.Bh.natAbs),LI (CB D.B),I N,LL Ia D.fr]
def ahW(D:TZ)(N:Nat):V:=.tp (Xv D N) 0
structure Xw (D:TZ) (N:Nat):Prop where
 row:∀x∈D.R,x.length=N+1
 Bq:D.B.length=D.R.length
 Gz:D.R.length<=1000
 Xx:D.fr.length=N
 sz:N<=1000
 big:∀i j,i<D.R.length->j<=N->ln (en D.R i j).natAbs<=50
 Bh:ln D.Bh.natAbs<=50
 inB:∀i,i<D.R.length->D.B.getD i 0<N
theorem aA(B:List Nat):(CB B).length=B.length:=by simp[CB]
theorem aB{B:List Nat}{i:Nat}(h:i<B.length):(CB B)[i]'(by rw[aA];exact h)=((B.getD i 0:Nat):Int):=by
 simp only[CB,yC];rw[zx,zy h];rfl
theorem Oq(o:Nat->Int)(k:Nat)(x:List Int)(b:Nat):∀(R:List (List Int)) (B:List Nat),R.length=B.length->Et o k (R++[x]) (B++[b])=Et o k R B-x.getD k 0*o b
 |[],[],_=>by show(0:Int) - _=0 - _;rfl
 |[],_ :: _,h=>by simp at h
 |_ :: _,[],h=>by simp at h
 |y :: R,c :: B,h=>by
  show Et o k (R++[x]) (B++[b]) - _=Et o k R B - _ - _;rw[Oq o k x b R B (by simpa using h)];omega
theorem aa7(o:Nat->Int)(k:Nat){R:List (List Int)}{B:List Nat}{i:Nat}(h:i<R.length)(E:B.length=R.length) :
  Et o k (R.take (i+1)) (B.take (i+1))=Et o k (R.take i) (B.take i) - en R i k*o (B.getD i 0):=by
 rw[yL,yL,zy h,zy (by omega)];simp only[Option.toList];rw[Oq _ _ _ _ _ _ (by rw[zh,zh,E])];congr 1;have G:R[i].getD k 0=en R i k:=by unfold en;rw[dY h]
 have J:B[i]'(by omega)=B.getD i 0:=by rw[zx,zy (by omega)];rfl
 rw[G,J]
theorem jY(x y:Int):ln (x*y).natAbs<=ln x.natAbs+ln y.natAbs:=by rw[uY];exact jZ _ _
theorem Ot(z:Int):(Ar z 0==0)=decide (z=0):=by
 unfold Ar
 by_cases h:z<0
 .rw[sO h,sH (by omega)];rfl
 .rw[sQ h]
  by_cases E:z=0
  .rw[sO E,sJ E];rfl
  .rw[sQ E,sH E];rfl
theorem TU(z:Int):(Ar z 0 !=0)= !decide (z=0):=by rw[<- Ot];rfl
theorem pG(z:Int):Ar z 0<=0↔¬0<z:=by
 unfold Ar
 by_cases h:z<0
 .rw[sO h];constructor
  .intro _;omega
  .intro _;decide
 .rw[sQ h]
  by_cases E:z=0
  .rw[sO E];constructor
   .intro _;omega
   .intro _;decide
  .rw[sQ E];constructor
   .intro h;exact absurd h (by decide)
   .intro _;omega
theorem cmp_neg(z:Int):Ar z 0<0↔z<0:=by
 unfold Ar
 by_cases h:z<0
 .rw[sO h];constructor
  .intro _;exact h
  .intro _;decide
 .rw[sQ h]
  by_cases E:z=0
  .rw[sO E];constructor
   .intro h;exact absurd h (by decide)
   .intro _;omega
  .rw[sQ E];constructor
   .intro h;exact absurd h (by decide)
   .intro _;omega
theorem qG(z:Int):(cZ z).length=2:=rfl
theorem TW(z:Int):(cZ z).take 2=cZ z:=rfl
theorem Xy(z:Int):(cZ z).all vI=true:=rfl
theorem Xz(a b:Int):patch (cZ a) 0 (cZ b)=cZ b:=rfl
theorem XA(σ:Store)(d:Nat)(z:Int):stripL (strip σ d) (cZ z)=some (cZ z,[]):=by
 unfold cZ;rw[au,aQ,au,aN,aY];rfl
theorem qH(σ:Store)(d:Nat)(q:Rat):stripL (strip σ d) (cQ q)=some (cQ q,[]):=by
 unfold cQ;rw[au,aQ,au,aN,au,aN,aY];rfl
attribute [go_sem] XA qH
theorem Ou{R:List (List Int)}{i:Nat}(h:i<R.length):(R.flatMap aa6)[i]?=some (LL cZ (Ee R i)):=by
 have:=cu (fun x=>LL cZ x) R i h;rw[dY h];exact this
theorem qA{R:List (List Int)}{i j n:Nat}(hn:∀x∈R,x.length=n)(h:i<R.length)(E:j<n):(((Ee R i).flatMap cZ).drop (j*2)).take 2=cZ (en R i j):=by
 have G:(Ee R i).length=n:=by rw[dY h];exact hn _ (zu h)
 rw[d_ qG (Ee R i) j (by omega)];unfold en;rw[zx,zy (by omega)];rfl
theorem anz(D:TZ)(N:Nat)(h:Xw D N)(o:List Int)(ho:o.length=N)(b2:∀x∈o,-1000000<=x/\x<=1000000)(k:Nat)(hk:k<N) :
  fn ZM conv ext 171 [ahW D N,LI o,I k]=some (I (Ar (BI D (fun j=>o.getD j 0) k) 0)):=by
 have hN:=h.sz;have a8:∀j (hj:j<o.length),o[j]=o.getD j 0:=fun j hj=>by rw[zx,zy hj];rfl
 have ob:∀j,j<N->-1000000<=o.getD j 0/\o.getD j 0<=1000000:=fun j hj=>by rw[<- a8 j (by omega)];exact b2 _ (zu (by omega))
 have a6:∀j,j<N->ln (o.getD j 0).natAbs<=1:=fun j hj=>jV (by have:=ob j hj;omega)
 have a1:=jF k;have a2:(k:Int)<(o.length:Int):=by omega
 have a3:=Ba o k (by omega);have a4:=idx (xs:=o) (k:=k) (by omega);rw[a8 k (by omega)]at a4;have b5:=ob k hk;have k1:=kM (o.getD k 0) (by omega) (by omega);have k2:=kQ D.Bh (o.getD k 0) (by have:=h.Bh;omega) (by have:=a6 k hk;omega);have tl:(CB D.B).length=D.R.length:=by rw[aA];exact h.Bq
 unfold ahW Xv;rw[mJ,nC [.tmp 6] [1,6] func171];unfold cZ at k1 k2;simp only[go_sem,a1,a2,a3,a4,k1,k2];generalize hL:iI _ _=y
 obtain⟨r,rfl,T',σ',nx',b,rfl,Y,E⟩:=oZ hL D.R.length (fun i st=>st.T 0= .tp (Xv D N) 0/\st.T 1=LI o/\st.T 2=I k/\st.T 23=LI (CB D.B)/\st.T 24=I D.R.length/\st.T 25=I i/\st.T 7= .rp 0 0/\0<st.nx /\
   ∃g,st.σ 0=some ⟨cZ g,0,true⟩/\g=D.Bh*o.getD k 0+Et (fun j=>o.getD j 0) k (D.R.take i) (D.B.take i)/\ln g.natAbs<=60+i)
  (fun r=>∃T σ nx b,r=(.exit 0,⟨T,σ,nx⟩)/\T 7= .rp b 0/\σ b=some ⟨cZ (BI D (fun j=>o.getD j 0) k),0,true⟩) (by
   clear hL;rintro i ⟨T,σ,nx⟩ hi ⟨h0,h1,h2,J,G,O,Y,S,g,E,hg,b3⟩;simp only at h0 h1 h2 J G O Y S E;have hb:=h.inB i hi;have f1:(i:Int)<(D.R.length:Int):=by omega
   have f2:=jF i;have f3:=ZU (n:=(i:Int)+1) (by have:=h.Gz;omega) (by have:=h.Gz;omega);have f5:=Ba (CB D.B) i (by omega);have f6:=idx (xs:=CB D.B) (k:=i) (by omega);rw[aB (by have:=h.Bq;omega)]at f6;obtain⟨b,eb⟩:∃b,b=D.B.getD i 0:=⟨_,rfl⟩;rw[<- eb]at f6 hb;have f7:=jF b;have f8:(b:Int)<(o.length:Int):=by omega
   have f9:=idx (xs:=o) (k:=b) (by omega);rw[a8 b (by omega)]at f9;have b6:=ob b hb;have r1:=Ou hi;have r2:=bg (c:=aa6) (s:=1) (fun _=>rfl) (by omega) D.R i hi;have r3:(Ee D.R i).length=N+1:=by rw[dY hi];exact h.row _ (zu hi)
   have r4:(k:Int)<((N+1:Nat):Int):=by omega
   have r5:=qA h.row hi (show k<N+1 by omega);have r6:=bg (c:=cZ) (s:=2) qG (by omega) (Ee D.R i) k (by omega);have r7:=bZ (c:=cZ) (s:=2) qG (Ee D.R i);rw[r3]at r7;have r8:k*2+2<=(N+1)*2:=by omega
   have s1:=kG (en D.R i k);have a7:=aa7 (fun j=>o.getD j 0) k hi h.Bq;rw[<- eb]at a7
   by_cases z1:o.getD b 0=0
   .have c1:(o.getD b 0 !=(0:Int))=false:=by rw[z1];rfl
    refine .inl ⟨_,by simp only[go_sem,h0,h1,h2,J,G,O,Y,E,f1,f2,f3,f5,f6,f7,f8,f9,a3,c1,tl];rfl,?_⟩;simp only[go_sem,h0,h1,h2,J,G,Y,tl];refine⟨rfl,S,g,E,?_,by omega⟩;rw[hg,a7,z1];simp
   .have c1:(o.getD b 0 !=(0:Int))=true:=bne_iff_ne.mpr z1
    have c2:=TU (en D.R i k);have b4:=h.big i k hi (by omega);unfold Xv at h0
    by_cases z2:en D.R i k=0
    .rw[sJ z2,vH]at c2
     refine .inl ⟨_,by simp only[go_sem,h0,h1,h2,J,G,O,Y,E,f1,f2,f3,f5,f6,f7,f8,f9,a1,a3,c1,c2,tl,r1,r2,r3,r4,r5,r6,r7,r8,s1];rfl,?_⟩;simp only[go_sem,h0,h1,h2,J,G,Y,tl];refine⟨rfl,rfl,S,g,E,?_,by omega⟩;rw[hg,a7,z2];simp
    .rw[sH z2,wE]at c2
     have k3:=kM (o.getD b 0) (by omega) (by omega);have k4:=kQ (en D.R i k) (o.getD b 0) (by omega) (by have:=a6 b hb;omega);have hm:=jY (en D.R i k) (o.getD b 0);have hs:=acJ g (en D.R i k*o.getD b 0);have b7:=h.Gz;have b8:=a6 b hb;have k5:=acn g (en D.R i k*o.getD b 0) (by omega) (by omega);have e1:=Xy (g-en D.R i k*o.getD b 0);refine .inl ⟨_,by simp only[go_sem,h0,h1,h2,J,G,O,Y,E,f1,f2,f3,f5,f6,f7,f8,f9,a1,a3,c1,c2,tl,r1,r2,r3,r4,r5,r6,r7,r8,s1,k3,k4,k5,S,qG,e1,TW,Xz];rfl,?_⟩;simp only[go_sem,h0,h1,h2,J,G,Y,tl];refine⟨rfl,rfl,S,_,rfl,?_,by omega⟩;rw[hg,a7];omega) (by
   clear hL;rintro ⟨T,σ,nx⟩ ⟨h0,h1,h2,J,G,O,Y,S,g,E,hg,b3⟩;simp only at h0 h1 h2 J G O Y S E;rw[zl (zq _),zl (Nat.le_of_eq h.Bq)]at hg;refine⟨_,by simp only[go_sem,G,O,zi];rfl,by simp,_,_,_,0,rfl,?_,?_⟩
   .simp only[go_sem,Y]
   .rw[E,hg];rfl) (by
   simp only[go_sem,tl];refine⟨rfl,_,rfl,by simp[Et],?_⟩;have:=jY D.Bh (o.getD k 0);have:=a6 k hk;have:=h.Bh;omega)
 have k9:=kG (BI D (fun j=>o.getD j 0) k);simp only[go_sem,Y,E,qG,TW,zq,k9]
theorem XB{S E O G Y J:Int}(hr:0<G)(hi:0<E)(hj:0<J)(h1:S*G<O*E)(h2:O*J<=Y*G):S*J<Y*E:=by
 have e1:S*G*J<O*E*J:=sZ h1 hj;have e2:O*J*E<=Y*G*E:=zS h2 (x9 hi);refine Int.lt_of_mul_lt_mul_right (a:=G) ?_ (x9 hr);have e3:S*J*G=S*G*J:=by grind
 have e4:Y*E*G=Y*G*E:=by grind
 have e5:O*E*J=O*J*E:=by grind
 omega
theorem XC{Y E O J S G:Int}(hr:0<J)(hi:0<E)(hj:0<G)(h1:Y*J=O*E)(h2:O*G<=S*J):Y*G<=S*E/\(Y*G=S*E->O*G=S*J):=by
 have e3:Y*G*J=Y*J*G:=by grind
 have e4:S*E*J=S*J*E:=by grind
 have e5:O*E*G=O*G*E:=by grind
 have e6:Y*J*G=O*E*G:=by rw[h1]
 refine⟨?_,fun h=>?_⟩
 .refine Int.le_of_mul_le_mul_right (a:=J) ?_ hr
  have e2:O*G*E<=S*J*E:=zS h2 (x9 hi);omega
 .have:O*G*E=S*J*E:=by rw[<- e4,<- h,e3,e6,e5]
  exact Int.eq_of_mul_eq_mul_right (by omega) this
def D_(D:TZ)(N k i:Nat)(r:Int):Prop :=
 (r= -1/\∀j,j<i->¬0<en D.R j k)\/∃r':Nat,r=r'/\r'<i/\0<en D.R r' k/\(∀j,j<i->0<en D.R j k->en D.R r' N*en D.R j k<=en D.R j N*en D.R r' k) /\
  ∀j,j<i->0<en D.R j k->en D.R r' N*en D.R j k=en D.R j N*en D.R r' k->D.B.getD r' 0<=D.B.getD j 0
theorem D_.skip{D:TZ}{N k i:Nat}{r:Int}(h:D_ D N k i r)(hn:¬0<en D.R i k):D_ D N k (i+1) r:=by
 rcases h with ⟨rfl,h⟩|⟨r',rfl,S,G,J,O⟩
 .exact .inl ⟨rfl,fun j E=>by
   by_cases e:j=i
   .subst e;exact hn
   .exact h j (by omega)⟩
 .exact .inr ⟨r',rfl,by omega,G,fun j E hp=>J j (by
   by_cases e:j=i
   .subst e;exact absurd hp hn
   .omega) hp,fun j E hp=>O j (by
   by_cases e:j=i
   .subst e;exact absurd hp hn
   .omega) hp⟩
theorem D_.first{D:TZ}{N k i:Nat}(h:D_ D N k i (-1))(hp:0<en D.R i k):D_ D N k (i+1) i:=by
 rcases h with ⟨_,h⟩|⟨r',e,_⟩
 .exact .inr ⟨i,rfl,by omega,hp,fun j G E=>by
   by_cases e:j=i
   .subst e;exact xP _
   .exact absurd E (h j (by omega)),fun j G E _=>by
   by_cases e:j=i
   .subst e;exact zq _
   .exact absurd E (h j (by omega))⟩
 .omega
theorem D_.less{D:TZ}{N k i r:Nat}(h:D_ D N k i r)(hp:0<en D.R i k)(hc:en D.R i N*en D.R r k<en D.R r N*en D.R i k):D_ D N k (i+1) i:=by
 rcases h with ⟨e,_⟩|⟨r',e,S,G,J,Y⟩
 .omega
 .have:r=r':=by omega
  subst this;refine .inr ⟨i,rfl,by omega,hp,fun j O E=>?_,fun j O E he=>?_⟩
  .by_cases e:j=i
   .subst e;exact xP _
   .exact x9 (XB G hp E hc (J j (by omega) E))
  .by_cases e:j=i
   .subst e;exact zq _
   .have:=XB G hp E hc (J j (by omega) E)
    omega
theorem D_.same{D:TZ}{N k i r:Nat}(h:D_ D N k i r)(hp:0<en D.R i k)(hc:en D.R i N*en D.R r k=en D.R r N*en D.R i k)(hB:D.B.getD i 0<D.B.getD r 0):D_ D N k (i+1) i:=by
 rcases h with ⟨e,_⟩|⟨r',e,h1,G,J,O⟩
 .omega
 .have:r=r':=by omega
  subst this;refine .inr ⟨i,rfl,by omega,hp,fun j S E=>?_,fun j S E Y=>?_⟩
  .by_cases e:j=i
   .subst e;exact xP _
   .exact(XC G hp E hc (J j (by omega) E)).1
  .by_cases e:j=i
   .subst e;exact zq _
   .have:=O j (by omega) E ((XC G hp E hc (J j (by omega) E)).2 Y)
    omega
theorem D_.keep{D:TZ}{N k i r:Nat}(h:D_ D N k i r)(hc:en D.R r N*en D.R i k<=en D.R i N*en D.R r k)(J:en D.R r N*en D.R i k=en D.R i N*en D.R r k->D.B.getD r 0<=D.B.getD i 0):D_ D N k (i+1) r:=by
 rcases h with ⟨e,_⟩|⟨r',e,h1,O,S,Y⟩
 .omega
 .have:r=r':=by omega
  subst this;refine .inr ⟨r,rfl,by omega,O,fun j hj E=>?_,fun j hj E G=>?_⟩
  .by_cases e:j=i
   .subst e;exact hc
   .exact S j (by omega) E
  .by_cases e:j=i
   .subst e;exact J G
   .exact Y j (by omega) E G
theorem pJ(x y:Int):(x<y/\Ar x y= -1)\/(x=y/\Ar x y=0)\/(y<x/\Ar x y=1):=by
 unfold Ar
 by_cases h:x<y
 .exact .inl ⟨h,sO h⟩
 .rw[sQ h]
  by_cases E:x=y
  .exact .inr (.inl ⟨E,sO E⟩)
  .exact .inr (.inr ⟨by omega,sQ E⟩)
theorem ahX(D:TZ)(N:Nat)(h:Xw D N)(k:Nat)(hk:k<N) :
  ∃r,fn ZM conv ext 172 [ahW D N,I k]=some (I r)/\D_ D N k D.R.length r:=by
 have hN:=h.sz;have hR:=h.Gz;have a1:=jF k;have tl:(CB D.B).length=D.R.length:=by rw[aA];exact h.Bq
 have a7:∀i,i<D.R.length->(Ee D.R i).length=N+1:=fun i hi=>by rw[dY hi];exact h.row _ (zu hi)
 have r4:(k:Int)<((N+1:Nat):Int):=by omega
 have r8:k*2+2<=(N+1)*2:=by omega
 have n4:(N:Int)<((N+1:Nat):Int):=by omega
 have n8:N*2+2<=(N+1)*2:=by omega
 have n0:=jF N;have m1:(-1:Int)<0:=by decide
 have m2:¬(1:Int)<0:=by decide
 have m3:¬(0:Int)<0:=by decide
 have m4:((0:Int)==0)=true:=by decide
 have m5:((1:Int)==0)=false:=by decide
 unfold ahW Xv;rw[mJ,nC [.tmp 4] [8,9] func172];simp only[go_sem];generalize hL:iI _ _=y;obtain⟨x,rfl,T',σ',nx',r,rfl,O,hb⟩:=oZ hL D.R.length (fun i st=>st.T 0= .tp (Xv D N) 0/\st.T 1=I k/\st.T 12=LL aa6 D.R/\st.T 13=I D.R.length/\st.T 14=I i/\∃r,st.T 5=I r/\D_ D N k i r)
  (fun x=>∃T σ nx r,x=(.exit 0,⟨T,σ,nx⟩)/\T 5=I r/\D_ D N k D.R.length r) (by
   clear hL;rintro i ⟨T,σ,nx⟩ hi ⟨J,S,G,E,FX,r,O,hb⟩;simp only at J S G E FX O;have f1:(i:Int)<(D.R.length:Int):=by omega
   have f2:=jF i;have f3:=ZU (n:=(i:Int)+1);have r1:=Ou hi;have r2:=bg (c:=aa6) (s:=1) (fun _=>rfl) (by omega) D.R i hi;have r3:=a7 i hi;have r5:=qA h.row hi (show k<N+1 by omega);have r6:=bg (c:=cZ) (s:=2) qG (by omega) (Ee D.R i) k (by omega);have r7:=bZ (c:=cZ) (s:=2) qG (Ee D.R i);rw[r3]at r7;have s1:=kG (en D.R i k)
   by_cases hp:0<en D.R i k
   .have c1:¬Ar (en D.R i k) 0<=0:=fun e=>(pG _).mp e hp
    rcases hb with ⟨rfl,hb⟩|⟨r',rfl,b5,b6,b7,b8⟩
    .refine .inl ⟨_,by simp only[go_sem,J,S,G,E,FX,O,f1,f2,f3,r1,r2,r3,r4,r5,r6,r7,r8,s1,a1,c1,m1];rfl,?_⟩
     simp only[go_sem,J,S,G,E];exact⟨rfl,i,rfl,D_.first (.inl ⟨rfl,hb⟩) hp⟩
    .have a6:D_ D N k i r':=.inr ⟨r',rfl,b5,b6,b7,b8⟩
     have Y:r'<D.R.length:=by omega
     have q0:¬(r':Int)<0:=by omega
     have q1:(r':Int)<(D.R.length:Int):=by omega
     have q2:(0:Int)<=(r':Int):=by omega
     have q3:=Ou Y;have q4:=a7 r' Y;have q5:=qA h.row Y (show k<N+1 by omega);have q6:=bg (c:=cZ) (s:=2) qG (by omega) (Ee D.R r') k (by omega);have q7:=bZ (c:=cZ) (s:=2) qG (Ee D.R r');rw[q4]at q7;have q8:=qA h.row hi (show N<N+1 by omega);have q9:=qA h.row Y (show N<N+1 by omega);have b1:=h.big i N hi (zq _);have b2:=h.big r' k Y (by omega);have b3:=h.big r' N Y (zq _);have b4:=h.big i k hi (by omega);have k1:=kQ (en D.R i N) (en D.R r' k) (by omega) (by omega);have k2:=kQ (en D.R r' N) (en D.R i k) (by omega) (by omega);have l1:=jY (en D.R i N) (en D.R r' k);have l2:=jY (en D.R r' N) (en D.R i k);have k3:=QK (en D.R i N*en D.R r' k) (en D.R r' N*en D.R i k) (by omega) (by omega);have t1:=Ba (CB D.B) i (by omega);have t2:=idx (xs:=CB D.B) (k:=i) (by omega);rw[aB (by have:=h.Bq;omega)]at t2;have t3:=idx (xs:=CB D.B) (k:=r') (by omega);rw[aB (by have:=h.Bq;omega)]at t3;unfold Xv at J;rcases pJ (en D.R i N*en D.R r' k) (en D.R r' N*en D.R i k)with ⟨hc,e⟩|⟨hc,e⟩|⟨hc,e⟩
     .rw[e]at k3
      refine .inl ⟨_,by simp only[go_sem,J,S,G,E,FX,O,f1,f2,f3,r1,r2,r3,r4,r5,r6,r7,r8,s1,a1,c1,q0,q1,q2,q3,q4,q5,q6,q7,q8,q9,n0,n4,n8,k1,k2,k3,m1];rfl,?_⟩;simp only[go_sem,J,S,G,E];exact⟨rfl,rfl,i,rfl,a6.less hp hc⟩
     .rw[e]at k3
      by_cases hB:D.B.getD i 0<D.B.getD r' 0
      .have a8:((D.B.getD i 0:Nat):Int)<((D.B.getD r' 0:Nat):Int):=by omega
       refine .inl ⟨_,by simp only[go_sem,J,S,G,E,FX,O,f1,f2,f3,r1,r2,r3,r4,r5,r6,r7,r8,s1,a1,c1,q0,q1,q2,q3,q4,q5,q6,q7,q8,q9,n0,n4,n8,k1,k2,k3,m3,m4,t1,t2,t3,tl,a8];rfl,?_⟩;simp only[go_sem,J,S,G,E];exact⟨rfl,rfl,i,rfl,a6.same hp hc hB⟩
      .have a8:¬((D.B.getD i 0:Nat):Int)<((D.B.getD r' 0:Nat):Int):=by omega
       refine .inl ⟨_,by simp only[go_sem,J,S,G,E,FX,O,f1,f2,f3,r1,r2,r3,r4,r5,r6,r7,r8,s1,a1,c1,q0,q1,q2,q3,q4,q5,q6,q7,q8,q9,n0,n4,n8,k1,k2,k3,m3,m4,t1,t2,t3,tl,a8];rfl,?_⟩;simp only[go_sem,J,S,G,E,O];exact⟨rfl,rfl,r',rfl,a6.keep (by omega) fun _=>by omega⟩
     .rw[e]at k3
      refine .inl ⟨_,by simp only[go_sem,J,S,G,E,FX,O,f1,f2,f3,r1,r2,r3,r4,r5,r6,r7,r8,s1,a1,c1,q0,q1,q2,q3,q4,q5,q6,q7,q8,q9,n0,n4,n8,k1,k2,k3,m2,m5];rfl,?_⟩;simp only[go_sem,J,S,G,E,O];exact⟨rfl,rfl,r',rfl,a6.keep (by omega) fun e=>by omega⟩
   .have c1:Ar (en D.R i k) 0<=0:=(pG _).mpr hp
    refine .inl ⟨_,by simp only[go_sem,J,S,G,E,FX,O,f1,f2,f3,r1,r2,r3,r4,r5,r6,r7,r8,s1,a1,c1];rfl,?_⟩;simp only[go_sem,J,S,G,E,O];exact⟨rfl,r,rfl,hb.skip hp⟩) (by
   clear hL;rintro ⟨T,σ,nx⟩ ⟨J,S,G,E,FX,r,O,hb⟩;simp only at J S G E FX O;refine⟨_,by simp only[go_sem,E,FX,zi];rfl,by simp,_,_,_,r,rfl,?_,hb⟩;simp only[go_sem,O]) (by
   simp only[go_sem];exact⟨rfl,-1,rfl,.inl ⟨rfl,fun j hj=>by omega⟩⟩)
 exact⟨r,by simp only[go_sem,O],hb⟩
def zc(p:Int×Bool):List V:=[Bo (decide (p.1<0)),if p.2=true then .nil else LI (dg p.1.natAbs)]
theorem ZP(p:Int×Bool):(zc p).length=2:=rfl
theorem acL(z:Int):zc (z,false)=cZ z:=rfl
theorem ZO(σ:Store)(d:Nat){p:Int×Bool}(h:p.2=true->p.1=0):stripL (strip σ d) (zc p)=some (cZ p.1,[]):=by
 obtain⟨z,b⟩:=p;cases b with
 |false=>exact XA σ d z
 |true=>
  have:z=0:=h rfl;subst this;unfold zc;rw[au,aQ,sO rfl,au,aT,aY];show some ([Bo (decide ((0:Int)<0)),V.ts [] 0],[]++([]++[]))=_;unfold cZ;rw[Int.natAbs_zero,oJ];rfl
theorem ahY(p:Int×Bool):(zc p).all vI=true:=by
 unfold zc;cases p.2<;>rfl
theorem ahZ(a b:V)(p:Int×Bool):patch [a,b] 0 (zc p)=zc p:=rfl
theorem alO(p:Int×Bool):(zc p).take 2=zc p:=rfl
theorem ae9(a b:V)(z:Int):patch [a,b] 0 (cZ z)=cZ z:=rfl
attribute [go_sem] ZP ahY ahZ alO qG Xy TW Xz ae9
def EI(σ:Store)(b:Nat)(E:List Int):Prop:=∃L:List (Int×Bool),σ b=some ⟨L.flatMap zc,2,true⟩/\L.map (·.1)=E/\∀p∈L,p.2=true->p.1=0
theorem EI.congr{σ σ':Store}{b:Nat}{E:List Int}(h:EI σ b E)(e:σ' b=σ b):EI σ' b E:=by
 obtain⟨L,G,J⟩:=h;exact⟨L,by rw[e];exact G,J⟩
theorem iE{α:Type}{c:α->List V}{s:Nat}(hc:∀x,(c x).length=s)(xs:List α)(k:Nat)(h:k<xs.length)(y:α):patch (xs.flatMap c) (k*s) (c y)=(xs.set k y).flatMap c:=by
 have E:=bZ hc xs;have hle:(k+1)*s<=xs.length*s:=zD _ h;rw[xq]at hle;rw[iH _ _ _ (by rw[E,hc];exact hle),hc];have G:(xs.flatMap c).take (k*s)=(xs.take k).flatMap c:=by
  have:=vB k xs
  conv=>lhs;rw[<- this]
  rw[zQ,xG];rw[bZ hc,zh,xX (by omega)]
 have J:(xs.flatMap c).drop (k*s+s)=(xs.drop (k+1)).flatMap c:=by rw[<- xq];exact Qz hc xs (k+1)
 rw[G,J,uG,sO h,zQ,zG,yw]
def newR(W:List Int)(L:List (Int×Bool))(c:Nat):List (Int×Bool):=(W.take c).map (fun z=>(z,false))++L.drop c
theorem Kq(W:List Int)(L:List (Int×Bool)):newR W L 0=L:=by simp[newR]
theorem jE{W:List Int}{L:List (Int×Bool)}(h:W.length=L.length){c:Nat}(hc:c<=L.length):(newR W L c).length=L.length:=by
 unfold newR;simp;omega
theorem XD{W:List Int}{L:List (Int×Bool)}(h:W.length=L.length){c:Nat}(hc:c<L.length):(newR W L c)[c]'(by rw[jE h (by omega)];exact hc)=L[c]:=by
 have:(newR W L c)[c]?=L[c]?:=by
  unfold newR;rw[zN (by simp;omega),xw];congr 1;simp;omega
 rw[zy (by rw[jE h (by omega)];exact hc),zy hc]at this;exact Option.some.inj this
theorem Ov{W:List Int}{L:List (Int×Bool)}(h:W.length=L.length){c:Nat}(hc:c<L.length):(newR W L c).set c (W[c],false)=newR W L (c+1):=by
 unfold newR;have E:((W.take c).map fun z=>(z,false)).length=c:=by simp;omega
 rw[xO _ _ (by omega),E,yM,yS hc,vC,yL,zy (by omega),xH,yw];rfl
theorem QY{W:List Int}{L:List (Int×Bool)}(h:W.length=L.length):newR W L L.length=W.map fun z=>(z,false):=by
 unfold newR;rw[zl (by omega),yA (zq _),zH]
theorem XE{σ:Store}{b:Nat}{W:List Int}{L:List (Int×Bool)}(h:W.length=L.length)(hb:σ b=some ⟨(newR W L L.length).flatMap zc,2,true⟩):EI σ b W:=by
 refine⟨_,hb,?_,?_⟩
 .rw[QY h,List.map_map]
  exact List.map_id'' (fun _=>rfl) W
 .rw[QY h]
  intro p hp;obtain⟨z,_,rfl⟩:=List.mem_map.mp hp;intro e;cases e
structure DU (σ:Store) (bt br bb bf:Nat) (rb:List Nat) (D:TZ) (N:Nat):Prop where
 t:σ bt=some ⟨[.rs br 0 D.R.length,Bo (decide (D.Bh<0)),LI (dg D.Bh.natAbs),.rs bb 0 D.R.length,I N,.rs bf 0 N],0,true⟩
 r:∃ex,σ br=some ⟨rb.map (fun b=>V.rs b 0 (N+1))++ex,1,true⟩
 row:∀i (h:i<rb.length),EI σ rb[i] (Ee D.R i)
 b:∃ex,σ bb=some ⟨(CB D.B).flatMap cI++ex,1,true⟩
 f:σ bf=some ⟨D.fr.flatMap Ia,1,true⟩
 len:rb.length=D.R.length
 nd:(bt :: br :: bb :: bf :: rb).Nodup
theorem acM{R:List (List Int)}{r k j:Nat}{b:Int}(h:j<R.length):Ee (BK R r k b) j=if j=r then Ee R j else Fa (en R r k) (en R j k) b (Ee R j) (Ee R r):=by
 show(BK R r k b).getD j []=_;unfold BK;rw[zx,uH,zy h];simp only[zJ,yG];rw[dY h]
 split
 .rfl
 .unfold en;rw[dY h]
theorem aa8(p f b:Int){x y:List Int}(h:x.length=y.length):(Fa p f b x y).length=x.length:=by unfold Fa;rw[tZ,h,Nat.min_self]
theorem aa9(p f b:Int){x y:List Int}{c:Nat}(h:c<x.length)(E:c<y.length):(Fa p f b x y)[c]'(by unfold Fa;rw[tZ];omega)=(x[c]*p-f*y[c]).tdiv b:=by
 unfold Fa;rw[List.getElem_zipWith]
theorem QZ{L:List (Int×Bool)}{E:List Int}(h:L.map (·.1)=E){c:Nat}(hc:c<E.length):∃G:c<L.length,(L[c]'G).1=E[c]:=by
 subst h;exact⟨by simpa using hc,by simp⟩
end Go.Proofs.YtjknobpihkmilaaGreat
