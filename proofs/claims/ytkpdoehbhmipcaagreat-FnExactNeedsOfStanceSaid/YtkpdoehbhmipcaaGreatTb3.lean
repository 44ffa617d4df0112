import Derived.Test.YtkpdoehbhmipcaaGreatTb2
set_option linter.unusedSimpArgs false
set_option linter.unusedVariables false
set_option linter.unusedSectionVars false
set_option linter.defProp false
set_option maxRecDepth 10000
set_option maxHeartbeats 4000000
open Go.Proofs.Tryz renaming prog->Ze
open Go.Proofs.Tryz
open Bool renaming false_eq_true->yD,not_false->wY,true_and->vw,not_true->vN,false_and->uj
open Classical renaming byContradiction->zf
open Int renaming lt_irrefl->zk,mul_le_mul_of_nonneg_right->zS,mul_le_mul_of_nonneg_left->zG,natCast_mul->zC,tdiv_eq_ediv_of_nonneg->yQ,mul_add->xu,le_refl->xW,tmod_eq_emod_of_nonneg->xM,le_of_lt->xJ,natAbs_natCast->xA,natAbs_neg->wH,mul_zero->wB,mul_nonneg->vg,mul_sub->vF,mul_assoc->uq,natAbs_mul->uh,add_zero->uX,sub_mul->uM,mul_lt_mul_of_pos_right->tH
open List renaming getElem?_eq_getElem->zy,getD_eq_getElem?_getD->zx,getElem_mem->zu,take_of_length_le->zo,length_append->zl,length_take->zh,eq_nil_of_length_eq_zero->zZ,mem_cons_of_mem->zY,mem_cons->zX,getElem?_append_left->zW,length_map->zV,flatMap_append->zT,mem_cons_self->zQ,flatMap_cons->zO,getElem?_append_right->zN,append_nil->zM,not_mem_nil->zJ,append_assoc->zF,mem_append_right->zA,getElem?_map->z_,drop_zero->yw,length_drop->yj,mem_append_left->yh,getElem?_eq_none->yg,take_length->yZ,cons_append->yY,drop_eq_getElem_cons->yU,length_eraseIdx_of_lt->yT,take_add_one->yN,length_set->yK,length_singleton->yH,set_append_right->yF,ext_getElem->yE,nodup_cons->xw,getElem?_drop->xq,replicate_succ->xg,drop_of_length_le->xZ,take_left'->wu,range_succ->wX,getElem_append_right->wS,getElem_append_left->wP,mem_singleton->wF,set_cons_zero->wC,replicate_append_replicate->vH,mem_of_mem_eraseIdx->uz,getElem_inj->ug,flatMap_replicate->uf,mem_or_eq_of_mem_set->uP,getElem?_mapIdx->uO,drop_drop->uK,getElem?_take_of_lt->uH,length_zipWith->uD,filter_append->tZ,getElem?_set_self->tV,eraseIdx_sublist->tJ
open Nat renaming le_refl->zq,not_lt_zero->zU,le_trans->zL,zero_add->yu,sub_self->yP,mul_one->yO,mul_le_mul->yM,succ_mul->yG,lt_or_eq_of_le->yC,le_of_lt_succ->yA,min_eq_left->xY,lt_of_lt_of_le->xR,div_le_self->xP,div_div_eq_div_mul->xE,div_one->xC,mul_comm->wW,add_comm->wV,mod_lt->vk,zero_le->vS,mul_assoc->vM,zero_mul->vC,pow_succ->vB
open Ne renaming symm->zD
open Option renaming bind_some->zi,map_some->zH,getD_some->yB
open Rat renaming mul_nonneg->xX,le_of_lt->w_,intCast_neg->vX,intCast_mul->vV,div_def->vO,le_refl->uZ,mul_zero->uJ
open Option.some renaming injEq->tC
open Prod.mk renaming injEq->t_
namespace Go.Proofs.YtkpdoehbhmipcaaGreat
open Go Go.TV
def Fg(o:List Int)(k:Nat):List V:=o.flatMap cI++rep k [I 0]
theorem nD(o:List Int)(k:Nat):(Fg o k).length=o.length+k:=by unfold Fg;rw[zl,qW,gW];simp
theorem nG(o:List Int):Fg o 0=o.flatMap cI:=by simp[Fg,rep]
theorem nC(o:List Int)(k:Nat)(x:Int){i:Nat}(h:o.length=i):(Fg o (k+1)).set i (I x)=Fg (o++[x]) k:=by
 subst h;unfold Fg;rw[yF _ _ (by rw[qW];exact zq _),qW,yP,gV,zT];simp
theorem qL{P x q n v:Int}(h:x+1000000000*q=n):v+P*x+1000000000*P*q=v+P*n:=by subst h;grind
theorem aY{n:Int}(h:0<=n):n.tmod 1000000000=n%1000000000/\n.tdiv 1000000000=n / 1000000000 :=
 ⟨xM h,yQ h⟩
theorem jc{k:Nat}(h:k<=3000000):(8:Int)*(k:Int)<=281474976710656/\(k:Int)<=9223372036854775807/\(0:Int)<=(k:Int):=by omega
theorem qj{xs:List Int}{k:Nat}(h:xs.length<=k):xs.take (k+1)=xs.take k:=by rw[zo (by omega),zo h]
theorem arn(m n:Nat)(hm:ln m<=1000000)(hn:ln n<=1000000):fn Ze conv ext 270 [LI (dg m),LI (dg n)]=some (LI (dg (m+n))):=by
 unfold ln at hm hn;rw[mW,nK [.tmp 4] [] func270]
 by_cases hc:((dg m).length:Int)<((dg n).length:Int)
 .have b2:(dg m).length<=(dg n).length:=by omega
  obtain⟨e1,e2,e3⟩:=jc (k:=(dg n).length+1) (by omega);have e0:((dg n).length:Int)+1=(((dg n).length+1:Nat):Int):=by omega
  have e4:=Zl (n:=(((dg n).length+1:Nat):Int)) (by omega) (by omega);simp only[go_sem,hc,e0,e1,e2,e3,e4];generalize hL:gI _ _=y;obtain⟨r,rfl,T',σ',nx',c,o,rfl,h0,h5,h6,E,G,Y,hd,hv,a1,a7⟩:=pJ hL (dg n).length (fun k st=>st.T 0=LI (dg n)/\st.T 1=LI (dg m)/\st.T 5= .rs 0 0 ((dg n).length+1)/\st.T 20=LI (dg n)/\st.T 21=I (dg n).length/\st.T 22=I k/\0<st.nx/\∃c o,st.T 6=I c/\st.σ 0=some ⟨Fg o ((dg n).length+1-k),1,true⟩/\o.length=k/\Dg o/\vl o+bp k*c=vl ((dg n).take k)+vl ((dg m).take k)/\0<=c/\c<=1)
   (fun r=>∃T σ nx c o,r=(.exit 0,⟨T,σ,nx⟩)/\T 0=LI (dg n)/\T 5= .rs 0 0 ((dg n).length+1)/\T 6=I c/\0<nx/\σ 0=some ⟨Fg o 1,1,true⟩/\o.length=(dg n).length/\Dg o/\vl o+bp (dg n).length*c=(m+n:Nat)/\0<=c/\c<=1) (by
    clear hL;rintro k ⟨T,σ,nx⟩ a6 ⟨h0,h1,h5,O,J,S,E,c,o,h6,G,Y,hd,hv,a1,a7⟩;simp only at h0 h1 h5 O J S E h6 G;have f1:(k:Int)<((dg n).length:Int):=by omega
    have f2:=jL k;have f3:=Zl (n:=(k:Int)+1);have f5:=Aw (dg n) k a6;have f6:=idx a6;have f7:(k:Int)<(((dg n).length+1:Nat):Int):=by omega
    obtain⟨x,hx⟩:∃x,x=(dg n)[k]:=⟨_,rfl⟩;have xr:=(oz n).get a6;rw[<- hx]at f6 xr;obtain⟨g,hg⟩:∃g,(dg n).length+1-k=g+1:=⟨(dg n).length-k,by omega⟩;have a8:(dg n).length+1 - (k+1)=g:=by omega
    rw[hg]at G;have c5:k<(Fg o (g+1)).length:=by rw[nD];omega
    have v1:=Zq a6;rw[<- hx]at v1
    by_cases hB:k<(dg m).length
    .have f8:(k:Int)<((dg m).length:Int):=by omega
     have f9:=Aw (dg m) k hB;have f10:=idx hB;obtain⟨z,hz⟩:∃z,z=(dg m)[k]:=⟨_,rfl⟩;have zr:=(oz m).get hB;rw[<- hz]at f10 zr;have v2:=Zq hB;rw[<- hz]at v2;have w1:=Zl (n:=x+c);have w2:=Zl (n:=x+c+z);obtain⟨q1,q2⟩:=aY (n:=x+c+z) (by omega);have w3:=Zl (n:=(x+c+z) / 1000000000);have c6:=nC o g ((x+c+z)%1000000000) Y;refine .inl ⟨_,by simp only[go_sem,h0,h1,h5,h6,O,J,S,E,G,f1,f2,f3,f5,f6,f7,f8,f9,f10,w1,w2,w3,q1,q2,c5,c6];rfl,?_⟩;simp only[go_sem,h0,h1,h5,O,J,a8];refine⟨rfl,E,_,_,rfl,rfl,by simp[Y],hd.snoc (by omega) (by omega),?_,by omega,by omega⟩;rw[Zu,Y,ql,v1,v2,qL (n:=x+c+z) (by omega),xu,xu];omega
    .have f8:¬(k:Int)<((dg m).length:Int):=by omega
     have v2:=qj (xs:=dg m) (k:=k) (by omega);have w1:=Zl (n:=x+c);obtain⟨q1,q2⟩:=aY (n:=x+c) (by omega);have w3:=Zl (n:=(x+c) / 1000000000);have c6:=nC o g ((x+c)%1000000000) Y;refine .inl ⟨_,by simp only[go_sem,h0,h1,h5,h6,O,J,S,E,G,f1,f2,f3,f5,f6,f7,f8,w1,w3,q1,q2,c5,c6];rfl,?_⟩;simp only[go_sem,h0,h1,h5,O,J,a8];refine⟨rfl,E,_,_,rfl,rfl,by simp[Y],hd.snoc (by omega) (by omega),?_,by omega,by omega⟩;rw[Zu,Y,ql,v1,v2,qL (n:=x+c) (by omega),xu];omega) (by
    clear hL;rintro ⟨T,σ,nx⟩ ⟨h0,h1,h5,O,J,S,E,c,o,h6,G,Y,hd,hv,a1,a7⟩;simp only at h0 h1 h5 O J S E h6 G;refine⟨_,by simp only[go_sem,J,S,zk];rfl,by simp,_,_,_,c,o,rfl,by simp only[go_sem,h0],by simp only[go_sem,h5],by simp only[go_sem,h6],E,?_,Y,hd,?_,a1,a7⟩
    .rw[G,show(dg n).length+1 - (dg n).length=1 by omega]
    .rw[hv,yZ,zo b2,Zx,Zx];omega) (by
    simp only[go_sem];exact⟨0,[],rfl,rfl,rfl,Dg.nil,by simp[vl],xW _,by decide⟩)
  have c5:(dg n).length<(Fg o (0+1)).length:=by rw[nD];omega
  have c6:=nC o 0 c Y;have f2:(0:Int)<=((dg n).length:Int):=by omega
  have f7:((dg n).length:Int)<(((dg n).length+1:Nat):Int):=by omega
  have hD:Dg (o++[c]):=hd.snoc a1 (by omega);have ht:=abd (o++[c]) (by unfold Short;simp;omega);rw[Cj (n:=m+n) hD (by rw[Zu,Y,hv])]at ht;have hl:(o++[c]).length=(dg n).length+1:=by simp[Y]
  have b3:fn Ze conv ext 272 [.ts ((o++[c]).flatMap cI) ((dg n).length+1)]=some (LI (dg (m+n))):=by rw[<- hl];exact ht
  have tk:List.take ((dg n).length+1) ((o++[c]).flatMap cI)=(o++[c]).flatMap cI:=by rw[<- hl];exact qR _
  have b4:((o++[c]).flatMap cI).length=(dg n).length+1:=by rw[qW,hl]
  have b5:σ' 0=some ⟨Fg o (0+1),1,true⟩:=G;simp only[go_sem,h0,h5,h6,E,b5,f2,f7,c5,c6,nG,b4,tk,b3]
 .have b2:(dg n).length<=(dg m).length:=by omega
  obtain⟨e1,e2,e3⟩:=jc (k:=(dg m).length+1) (by omega);have e0:((dg m).length:Int)+1=(((dg m).length+1:Nat):Int):=by omega
  have e4:=Zl (n:=(((dg m).length+1:Nat):Int)) (by omega) (by omega);simp only[go_sem,hc,e0,e1,e2,e3,e4];generalize hL:gI _ _=y;obtain⟨r,rfl,T',σ',nx',c,o,rfl,h0,h5,h6,E,G,Y,hd,hv,a1,a7⟩:=pJ hL (dg m).length (fun k st=>st.T 0=LI (dg m)/\st.T 1=LI (dg n)/\st.T 5= .rs 0 0 ((dg m).length+1)/\st.T 20=LI (dg m)/\st.T 21=I (dg m).length/\st.T 22=I k/\0<st.nx/\∃c o,st.T 6=I c/\st.σ 0=some ⟨Fg o ((dg m).length+1-k),1,true⟩/\o.length=k/\Dg o/\vl o+bp k*c=vl ((dg m).take k)+vl ((dg n).take k)/\0<=c/\c<=1)
   (fun r=>∃T σ nx c o,r=(.exit 0,⟨T,σ,nx⟩)/\T 0=LI (dg m)/\T 5= .rs 0 0 ((dg m).length+1)/\T 6=I c/\0<nx/\σ 0=some ⟨Fg o 1,1,true⟩/\o.length=(dg m).length/\Dg o/\vl o+bp (dg m).length*c=(m+n:Nat)/\0<=c/\c<=1) (by
    clear hL;rintro k ⟨T,σ,nx⟩ a6 ⟨h0,h1,h5,O,J,S,E,c,o,h6,G,Y,hd,hv,a1,a7⟩;simp only at h0 h1 h5 O J S E h6 G;have f1:(k:Int)<((dg m).length:Int):=by omega
    have f2:=jL k;have f3:=Zl (n:=(k:Int)+1);have f5:=Aw (dg m) k a6;have f6:=idx a6;have f7:(k:Int)<(((dg m).length+1:Nat):Int):=by omega
    obtain⟨x,hx⟩:∃x,x=(dg m)[k]:=⟨_,rfl⟩;have xr:=(oz m).get a6;rw[<- hx]at f6 xr;obtain⟨g,hg⟩:∃g,(dg m).length+1-k=g+1:=⟨(dg m).length-k,by omega⟩;have a8:(dg m).length+1 - (k+1)=g:=by omega
    rw[hg]at G;have c5:k<(Fg o (g+1)).length:=by rw[nD];omega
    have v1:=Zq a6;rw[<- hx]at v1
    by_cases hB:k<(dg n).length
    .have f8:(k:Int)<((dg n).length:Int):=by omega
     have f9:=Aw (dg n) k hB;have f10:=idx hB;obtain⟨z,hz⟩:∃z,z=(dg n)[k]:=⟨_,rfl⟩;have zr:=(oz n).get hB;rw[<- hz]at f10 zr;have v2:=Zq hB;rw[<- hz]at v2;have w1:=Zl (n:=x+c);have w2:=Zl (n:=x+c+z);obtain⟨q1,q2⟩:=aY (n:=x+c+z) (by omega);have w3:=Zl (n:=(x+c+z) / 1000000000);have c6:=nC o g ((x+c+z)%1000000000) Y;refine .inl ⟨_,by simp only[go_sem,h0,h1,h5,h6,O,J,S,E,G,f1,f2,f3,f5,f6,f7,f8,f9,f10,w1,w2,w3,q1,q2,c5,c6];rfl,?_⟩;simp only[go_sem,h0,h1,h5,O,J,a8];refine⟨rfl,E,_,_,rfl,rfl,by simp[Y],hd.snoc (by omega) (by omega),?_,by omega,by omega⟩;rw[Zu,Y,ql,v1,v2,qL (n:=x+c+z) (by omega),xu,xu];omega
    .have f8:¬(k:Int)<((dg n).length:Int):=by omega
     have v2:=qj (xs:=dg n) (k:=k) (by omega);have w1:=Zl (n:=x+c);obtain⟨q1,q2⟩:=aY (n:=x+c) (by omega);have w3:=Zl (n:=(x+c) / 1000000000);have c6:=nC o g ((x+c)%1000000000) Y;refine .inl ⟨_,by simp only[go_sem,h0,h1,h5,h6,O,J,S,E,G,f1,f2,f3,f5,f6,f7,f8,w1,w3,q1,q2,c5,c6];rfl,?_⟩;simp only[go_sem,h0,h1,h5,O,J,a8];refine⟨rfl,E,_,_,rfl,rfl,by simp[Y],hd.snoc (by omega) (by omega),?_,by omega,by omega⟩;rw[Zu,Y,ql,v1,v2,qL (n:=x+c) (by omega),xu];omega) (by
    clear hL;rintro ⟨T,σ,nx⟩ ⟨h0,h1,h5,O,J,S,E,c,o,h6,G,Y,hd,hv,a1,a7⟩;simp only at h0 h1 h5 O J S E h6 G;refine⟨_,by simp only[go_sem,J,S,zk];rfl,by simp,_,_,_,c,o,rfl,by simp only[go_sem,h0],by simp only[go_sem,h5],by simp only[go_sem,h6],E,?_,Y,hd,?_,a1,a7⟩
    .rw[G,show(dg m).length+1 - (dg m).length=1 by omega]
    .rw[hv,yZ,zo b2,Zx,Zx];omega) (by
    simp only[go_sem];exact⟨0,[],rfl,rfl,rfl,Dg.nil,by simp[vl],xW _,by decide⟩)
  have c5:(dg m).length<(Fg o (0+1)).length:=by rw[nD];omega
  have c6:=nC o 0 c Y;have f2:(0:Int)<=((dg m).length:Int):=by omega
  have f7:((dg m).length:Int)<(((dg m).length+1:Nat):Int):=by omega
  have hD:Dg (o++[c]):=hd.snoc a1 (by omega);have ht:=abd (o++[c]) (by unfold Short;simp;omega);rw[Cj (n:=m+n) hD (by rw[Zu,Y,hv])]at ht;have hl:(o++[c]).length=(dg m).length+1:=by simp[Y]
  have b3:fn Ze conv ext 272 [.ts ((o++[c]).flatMap cI) ((dg m).length+1)]=some (LI (dg (m+n))):=by rw[<- hl];exact ht
  have tk:List.take ((dg m).length+1) ((o++[c]).flatMap cI)=(o++[c]).flatMap cI:=by rw[<- hl];exact qR _
  have b4:((o++[c]).flatMap cI).length=(dg m).length+1:=by rw[qW,hl]
  have b5:σ' 0=some ⟨Fg o (0+1),1,true⟩:=G;simp only[go_sem,h0,h5,h6,E,b5,f2,f7,c5,c6,nG,b4,tk,b3]
theorem qw{P x q n v:Int}(h:x=n+1000000000*q):v+P*x-1000000000*P*q=v+P*n:=by subst h;grind
theorem RJ(m n:Nat)(hm:ln m<=1000000)(hle:n<=m):fn Ze conv ext 271 [LI (dg m),LI (dg n)]=some (LI (dg (m-n))):=by
 have a7:(dg n).length<=(dg m).length:=jq hle;unfold ln at hm;rw[mW,nK [.tmp 4] [] func271];obtain⟨e1,e2,e3⟩:=jc (k:=(dg m).length) (by omega);simp only[go_sem,e1,e2,e3];generalize hL:gI _ _=y;obtain⟨r,rfl,T',σ',nx',o,rfl,h5,E,G,S,hd,hv⟩:=pJ hL (dg m).length (fun k st=>st.T 0=LI (dg m)/\st.T 1=LI (dg n)/\st.T 5= .rs 0 0 (dg m).length/\st.T 12=LI (dg m)/\st.T 13=I (dg m).length/\st.T 14=I k/\0<st.nx/\∃c o,st.T 6=I c/\st.σ 0=some ⟨Fg o ((dg m).length-k),1,true⟩/\o.length=k/\Dg o/\vl o-bp k*c=vl ((dg m).take k) - vl ((dg n).take k)/\0<=c/\c<=1)
  (fun r=>∃T σ nx o,r=(.exit 0,⟨T,σ,nx⟩)/\T 5= .rs 0 0 (dg m).length/\0<nx/\σ 0=some ⟨o.flatMap cI,1,true⟩/\o.length=(dg m).length/\Dg o/\vl o=(m-n:Nat)) (by
   clear hL;rintro k ⟨T,σ,nx⟩ a1 ⟨h0,h1,h5,O,J,Fh,E,c,o,h6,G,S,hd,hv,a8,b2⟩;simp only at h0 h1 h5 O J Fh E h6 G;have f1:(k:Int)<((dg m).length:Int):=by omega
   have f2:=jL k;have f3:=Zl (n:=(k:Int)+1);have f5:=Aw (dg m) k a1;have f6:=idx a1;obtain⟨x,hx⟩:∃x,x=(dg m)[k]:=⟨_,rfl⟩;have xr:=(oz m).get a1;rw[<- hx]at f6 xr;obtain⟨g,hg⟩:∃g,(dg m).length-k=g+1:=⟨(dg m).length-k-1,by omega⟩;have a6:(dg m).length - (k+1)=g:=by omega
   rw[hg]at G;have c5:k<(Fg o (g+1)).length:=by rw[nD];omega
   have v1:=Zq a1;rw[<- hx]at v1;have nf:¬(0:Int)<0:=by decide
   have w1:=Zl (n:=x-c)
   by_cases hB:k<(dg n).length
   .have f8:(k:Int)<((dg n).length:Int):=by omega
    have f9:=Aw (dg n) k hB;have f10:=idx hB;obtain⟨z,hz⟩:∃z,z=(dg n)[k]:=⟨_,rfl⟩;have zr:=(oz n).get hB;rw[<- hz]at f10 zr;have v2:=Zq hB;rw[<- hz]at v2;have w2:=Zl (n:=x-c-z)
    by_cases Y:x-c-z<0
    .have w3:=Zl (n:=x-c-z+1000000000)
     have c6:=nC o g (x-c-z+1000000000) S;refine .inl ⟨_,by simp only[go_sem,h0,h1,h5,h6,O,J,Fh,E,G,f1,f2,f3,f5,f6,f8,f9,f10,w1,w2,w3,Y,c5,c6];rfl,?_⟩;simp only[go_sem,h0,h1,h5,O,J,a6];refine⟨rfl,E,_,_,rfl,rfl,by simp[S],hd.snoc (by omega) (by omega),?_,by omega,by omega⟩;rw[Zu,S,ql,v1,v2,qw (n:=x-c-z) (by omega),vF,vF];omega
    .have c6:=nC o g (x-c-z) S
     refine .inl ⟨_,by simp only[go_sem,h0,h1,h5,h6,O,J,Fh,E,G,f1,f2,f3,f5,f6,f8,f9,f10,w1,w2,Y,c5,c6];rfl,?_⟩;simp only[go_sem,h0,h1,h5,O,J,a6];refine⟨rfl,E,_,_,rfl,rfl,by simp[S],hd.snoc (by omega) (by omega),?_,by omega,by omega⟩;rw[Zu,S,ql,v1,v2,qw (n:=x-c-z) (by omega),vF,vF];omega
   .have f8:¬(k:Int)<((dg n).length:Int):=by omega
    have v2:=qj (xs:=dg n) (k:=k) (by omega)
    by_cases Y:x-c<0
    .have w3:=Zl (n:=x-c+1000000000)
     have c6:=nC o g (x-c+1000000000) S;refine .inl ⟨_,by simp only[go_sem,h0,h1,h5,h6,O,J,Fh,E,G,f1,f2,f3,f5,f6,f8,w1,w3,Y,c5,c6];rfl,?_⟩;simp only[go_sem,h0,h1,h5,O,J,a6];refine⟨rfl,E,_,_,rfl,rfl,by simp[S],hd.snoc (by omega) (by omega),?_,by omega,by omega⟩;rw[Zu,S,ql,v1,v2,qw (n:=x-c) (by omega),vF];omega
    .have c6:=nC o g (x-c) S
     refine .inl ⟨_,by simp only[go_sem,h0,h1,h5,h6,O,J,Fh,E,G,f1,f2,f3,f5,f6,f8,w1,Y,c5,c6];rfl,?_⟩;simp only[go_sem,h0,h1,h5,O,J,a6];refine⟨rfl,E,_,_,rfl,rfl,by simp[S],hd.snoc (by omega) (by omega),?_,by omega,by omega⟩;rw[Zu,S,ql,v1,v2,qw (n:=x-c) (by omega),vF];omega) (by
   clear hL;rintro ⟨T,σ,nx⟩ ⟨h0,h1,h5,O,J,Fh,E,c,o,h6,G,S,hd,hv,a8,b2⟩;simp only at h0 h1 h5 O J Fh E h6 G;rw[yP,nG]at G;refine⟨_,by simp only[go_sem,J,Fh,zk];rfl,by simp,_,_,_,o,rfl,by simp only[go_sem,h5],E,G,S,hd,?_⟩;rw[yZ,zo a7,Zx,Zx,<- S]at hv;have h7:=Zw hd;have h8:=Zv hd;have h9:=qm o.length;have hc:c=0:=zf fun b5=>by
    have:c=1:=by omega
    subst this;rw[Int.mul_one]at hv;omega
   subst hc;rw[wB]at hv;omega) (by
   simp only[go_sem];exact⟨0,[],rfl,rfl,rfl,Dg.nil,by simp[vl],xW _,by decide⟩)
 have ht:=abd o (by unfold Short;omega);rw[Cj hd hv]at ht;have b3:fn Ze conv ext 272 [.ts (o.flatMap cI) (dg m).length]=some (LI (dg (m-n))):=by rw[<- S];exact ht
 have tk:List.take (dg m).length (o.flatMap cI)=o.flatMap cI:=by rw[<- S];exact qR _
 have b4:(o.flatMap cI).length=(dg m).length:=by rw[qW,S]
 simp only[go_sem,h5,E,G,b4,tk,b3]
theorem Z5{xs:List Int}{k:Nat}(h:k<xs.length)(y:Int):vl (xs.set k y)=vl xs+bp k*(y-xs[k]):=by
 induction xs generalizing k with
 |nil=>cases h
 |cons x xs E=>
  cases k with
  |zero=>
   rw[wC,RH];show y+1000000000*vl xs=x+1000000000*vl xs+1*(y-x);omega
  |succ k=>
   have G:k<xs.length:=by simpa using h
   rw[List.set_cons_succ,ql];show x+1000000000*vl (xs.set k y)=x+1000000000*vl xs+1000000000*bp k*(y-xs[k]);rw[E G,xu,uq];omega
theorem Dg.set{xs:List Int}(h:Dg xs)(k:Nat){y:Int}(G:0<=y)(J:y<1000000000):Dg (xs.set k y):=fun x O=>by
 rcases uP O with E|E
 .exact h x E
 .rw[E];exact⟨G,J⟩
theorem qV(xs:List Int)(k:Nat)(y:Int):(xs.flatMap cI).set k (I y)=(xs.set k y).flatMap cI:=by
 induction xs generalizing k with
 |nil=>rfl
 |cons x xs E=>
  cases k with
  |zero=>rfl
  |succ k=>
   show I x :: (xs.flatMap cI).set k (I y)=I x :: (xs.set k y).flatMap cI;rw[E]
theorem n_{o:List Int}{k:Nat}(r:Nat)(y:Int)(h:k<o.length):(Fg o r).set k (I y)=Fg (o.set k y) r:=by
 unfold Fg;rw[List.set_append_left _ _ (by rw[qW];exact h),qV]
theorem RN{o:List Int}{k:Nat}(r:Nat)(h:k<o.length):(Fg o r)[k]?=some (I o[k]):=by
 unfold Fg;rw[zW (by rw[qW];exact h),idx h]
theorem RP{x y c w:Int}(G:0<=x/\x<1000000000)(E:0<=y/\y<1000000000)(hc:0<=c/\c<1000000000)(hw:0<=w/\w<1000000000):0<=x*y/\x*y<=999999998000000001/\(w+x*y+c) / 1000000000<1000000000:=by
 have J:=vg G.1 E.1;have O:x*y<=999999999*999999999:=Int.mul_le_mul (by omega) (by omega) E.1 (by omega);omega
theorem Jp{W bi E w x b c y q v0 t:Int}(G:y+1000000000*q=w+x*b+c)(J:W+E*c=v0+bi*(x*t))(hb:E*(x*b)=bi*(x*(E*b))\/True) :
  W+E*(y-w)+1000000000*E*q=v0+bi*(x*t)+E*(x*b):=by
 have:1000000000*E*q=E*(1000000000*q):=by grind
 rw[this];have e:E*(y-w)+E*(1000000000*q)=E*(x*b+c):=by rw[<- xu];congr 1;omega
 rw[xu]at e;omega
theorem KT(m n:Nat)(hm:ln m<=1000000)(hn:ln n<=1000000):fn Ze conv ext 226 [LI (dg m),LI (dg n)]=some (LI (dg (m*n))):=by
 unfold ln at hm hn;rw[mW,nK [.tmp 4] [] func226]
 by_cases zm:m=0
 .subst zm
  rw[vC,oQ]
  (simp only[go_sem])<;>rfl
 have cm:((((dg m).length:Nat):Int)==0)=false:=by rw[sW];have:=rM (oZ zm);omega
 by_cases zn:n=0
 .subst zn
  rw[Nat.mul_zero,oQ]
  (simp only[go_sem,cm])<;>rfl
 have cn:((((dg n).length:Nat):Int)==0)=false:=by rw[sW];have:=rM (oZ zn);omega
 have pn:0<(dg n).length:=List.length_pos_iff.mpr (oZ zn);obtain⟨e1,e2,e3⟩:=jc (k:=(dg m).length+(dg n).length) (by omega);have e0:((dg m).length:Int)+((dg n).length:Int)=(((dg m).length+(dg n).length:Nat):Int):=by omega
 have e4:=Zl (n:=(((dg m).length+(dg n).length:Nat):Int)) (by omega) (by omega);simp only[go_sem,cm,cn,e0,e1,e2,e3,e4];generalize hL:gI _ _=y;obtain⟨r,rfl,T',σ',nx',P,rfl,S,E,G,hP,hd,hv⟩:=pJ hL (dg m).length (fun k st=>st.T 1=LI (dg n)/\st.T 5= .rs 0 0 ((dg m).length+(dg n).length)/\st.T 26=LI (dg m)/\st.T 27=I (dg m).length/\st.T 28=I k/\0<st.nx/\∃P,st.σ 0=some ⟨Fg P ((dg m).length-k),1,true⟩/\P.length=k+(dg n).length/\Dg P/\vl P=vl ((dg m).take k)*n)
  (fun r=>∃T σ nx P,r=(.exit 0,⟨T,σ,nx⟩)/\T 5= .rs 0 0 ((dg m).length+(dg n).length)/\0<nx/\σ 0=some ⟨P.flatMap cI,1,true⟩/\P.length=(dg m).length+(dg n).length/\Dg P/\vl P=(m*n:Nat)) (by
   clear hL;rintro k ⟨T,σ,nx⟩ a8 ⟨Y,S,EG,J,O,E,P,G,hP,hd,hv⟩;simp only at Y S EG J O E G;have f1:(k:Int)<((dg m).length:Int):=by omega
   have f2:=jL k;have f3:=Zl (n:=(k:Int)+1);have f5:=Aw (dg m) k a8;have f6:=idx a8;obtain⟨x,hx⟩:∃x,x=(dg m)[k]:=⟨_,rfl⟩;have xr:=(oz m).get a8;rw[<- hx]at f6 xr;have v1:=Zq a8;rw[<- hx]at v1;obtain⟨g,hg⟩:∃g,(dg m).length-k=g+1:=⟨(dg m).length-k-1,by omega⟩;have b2:(dg m).length - (k+1)=g:=by omega
   rw[hg]at G;refine cu ?_
   conv=>
    enter [1,r,1,1]
    simp only[go_sem,Y,S,EG,J,O,E,f1,f2,f5,f6]
   generalize hL:gI _ _=z;obtain⟨r,rfl,T',σ',nx',c,W,rfl,Y,S,h6,h8,EG,J,O,E,G,hW,hd,hv,a1,a6⟩:=pJ hL (dg n).length (fun j st=>st.T 1=LI (dg n)/\st.T 5= .rs 0 0 ((dg m).length+(dg n).length)/\st.T 6=I k/\st.T 7=I x/\st.T 26=LI (dg m)/\st.T 27=I (dg m).length/\st.T 28=I k/\st.T 33=LI (dg n)/\st.T 34=I (dg n).length/\st.T 35=I j/\0<st.nx/\∃c W,st.T 8=I c/\st.σ 0=some ⟨Fg W (g+1),1,true⟩/\W.length=k+(dg n).length/\Dg W/\vl W+bp (k+j)*c=vl ((dg m).take k)*n+bp k*(x*vl ((dg n).take j))/\0<=c/\c<1000000000)
    (fun r=>∃T σ nx c W,r=(.exit 2,⟨T,σ,nx⟩)/\T 1=LI (dg n)/\T 5= .rs 0 0 ((dg m).length+(dg n).length)/\T 6=I k/\T 8=I c/\T 26=LI (dg m)/\T 27=I (dg m).length/\T 28=I k/\0<nx/\σ 0=some ⟨Fg W (g+1),1,true⟩/\W.length=k+(dg n).length/\Dg W/\vl W+bp (k+(dg n).length)*c=vl ((dg m).take k)*n+bp k*(x*n)/\0<=c/\c<1000000000) (by
     clear hL;rintro j ⟨T,σ,nx⟩ hj ⟨Y,S,h6,h7,EG,J,O,VP,PD,a7,E,c,W,h8,G,hW,hd,hv,a1,a6⟩;simp only at Y S h6 h7 h8 EG J O VP PD a7 E G;have g1:(j:Int)<((dg n).length:Int):=by omega
     have g2:=jL j;have g3:=Zl (n:=(j:Int)+1);have g5:=Aw (dg n) j hj;have g6:=idx hj;obtain⟨b,hb⟩:∃b,b=(dg n)[j]:=⟨_,rfl⟩;have br:=(oz n).get hj;rw[<- hb]at g6 br;have v2:=Zq hj;rw[<- hb]at v2;have p0:(k:Int)+(j:Int)=((k+j:Nat):Int):=by omega
     have p1:=Zl (n:=((k+j:Nat):Int));have p2:(0:Int)<=((k+j:Nat):Int):=by omega
     have p3:((k+j:Nat):Int)<(((dg m).length+(dg n).length:Nat):Int):=by omega
     have p4:k+j<W.length:=by omega
     have p5:=RN (o:=W) (g+1) p4;have p6:k+j<(Fg W (g+1)).length:=by rw[nD];omega
     obtain⟨w,hw⟩:∃w,w=W[k+j]:=⟨_,rfl⟩;have wr:=hd.get p4;rw[<- hw]at p5 wr;have mm:=RP (x:=x) (y:=b) (c:=c) (w:=w) xr br ⟨a1,a6⟩ wr;have w1:=Zl (n:=x*b);have w2:=Zl (n:=w+x*b);have w3:=Zl (n:=w+x*b+c);obtain⟨q1,q2⟩:=aY (n:=w+x*b+c) (by omega);have w4:=Zl (n:=(w+x*b+c) / 1000000000);have c6:=n_ (g+1) ((w+x*b+c)%1000000000) p4;have vs:=Z5 p4 ((w+x*b+c)%1000000000);rw[<- hw]at vs;refine .inl ⟨_,by simp only[go_sem,Y,S,h6,h7,h8,EG,J,O,VP,PD,a7,E,G,g1,g2,g3,g5,g6,p0,p1,p2,p3,p5,p6,w1,w2,w3,w4,q1,q2,c6];rfl,?_⟩;simp only[go_sem,Y,S,h6,h7,EG,J,O,VP,PD];refine⟨rfl,E,_,_,rfl,rfl,by rw[yK];exact hW,hd.set _ (by omega) (by omega),?_,by omega,by omega⟩;rw[vs,show k+(j+1)=k+j+1 by omega,ql,Jp (c:=c) (x:=x) (b:=b) (by omega) hv (.inr trivial),v2,RI];grind) (by
     clear hL;rintro ⟨T,σ,nx⟩ ⟨Y,S,h6,h7,EG,J,O,VP,PD,a7,E,c,W,h8,G,hW,hd,hv,a1,a6⟩;simp only at Y S h6 h7 h8 EG J O VP PD a7 E G;rw[yZ,Zx]at hv;refine⟨_,by simp only[go_sem,PD,a7,zk];rfl,by simp,_,_,_,c,W,rfl,?_⟩;simp only[go_sem,Y,S,h6,h8,EG,J,O];exact⟨E,G,hW,hd,hv,a1,a6⟩) (by
     simp only[go_sem,Y,S,EG,J,O];exact⟨E,0,P,rfl,G,hP,hd,by rw[wB,hv];simp[vl],xW _,by decide⟩)
   have p0:(k:Int)+((dg n).length:Int)=((k+(dg n).length:Nat):Int):=by omega
   have p1:=Zl (n:=((k+(dg n).length:Nat):Int)) (by omega) (by omega);have p2:(0:Int)<=((k+(dg n).length:Nat):Int):=by omega
   have p3:((k+(dg n).length:Nat):Int)<(((dg m).length+(dg n).length:Nat):Int):=by omega
   have p6:k+(dg n).length<(Fg W (g+1)).length:=by rw[nD];omega
   have c6:=nC W g c hW;refine⟨_,by simp only[go_sem,Y,S,h6,h8,EG,J,O,E,G,f3,p0,p1,p2,p3,p6,c6];rfl,.inl ⟨_,rfl,?_⟩⟩;simp only[go_sem,Y,S,EG,J,b2];refine⟨rfl,E,_,rfl,by simp[hW];omega,hd.snoc a1 a6,?_⟩;rw[Zu,hW,hv,v1];grind) (by
   clear hL;rintro ⟨T,σ,nx⟩ ⟨Y,S,EG,J,O,E,P,G,hP,hd,hv⟩;simp only at Y S EG J O E G;rw[yP,nG]at G;refine⟨_,by simp only[go_sem,J,O,zk];rfl,by simp,_,_,_,P,rfl,by simp only[go_sem,S],E,G,hP,hd,?_⟩;rw[hv,yZ,Zx,zC]) (by
   simp only[go_sem];refine⟨List.replicate (dg n).length 0,?_,by simp,fun x hx=>by rw[List.mem_replicate]at hx;omega,(Z4 _).trans (by simp[vl])⟩;congr 2;unfold Fg;rw[show List.flatMap cI (List.replicate (dg n).length 0)=rep (dg n).length [I 0] by unfold rep;rw[uf]];unfold rep;rw[<- List.flatten_append,vH,wV])
 have ht:=abd P (by unfold Short;omega);rw[Cj hd hv]at ht;have b3:fn Ze conv ext 272 [.ts (P.flatMap cI) ((dg m).length+(dg n).length)]=some (LI (dg (m*n))):=by rw[<- hP];exact ht
 have tk:List.take ((dg m).length+(dg n).length) (P.flatMap cI)=P.flatMap cI:=by rw[<- hP];exact qR _
 have b4:(P.flatMap cI).length=(dg m).length+(dg n).length:=by rw[qW,hP]
 simp only[go_sem,S,E,G,b4,tk,b3]
def cZ(z:Int):List V:=[Bo (decide (z<0)),LI (dg z.natAbs)]
def Az(b:Bool)(n:Nat):Int:=if b=true then -(n:Int)else n
theorem Z7(b:Bool)(n:Nat):cZ (Az b n)=[Bo (b && decide (0<(dg n).length)),LI (dg n)]:=by
 unfold cZ Az;cases b with
 |false=>simp
 |true=>
  have E:((-(n:Int)).natAbs)=n:=by simp
  have G:decide (-(n:Int)<0)=decide (0<(dg n).length):=by
   rw[decide_eq_decide]
   by_cases h:n=0
   .subst h;rw[oQ];simp
   .have:=List.length_pos_iff.mpr (oZ h);omega
  simp only[if_true,vw,E,G]
theorem dY(z:Int):Az (decide (z<0)) z.natAbs=z:=by
 unfold Az
 by_cases h:z<0
 .rw[sS h,sZ rfl];omega
 .rw[sQ h,su (by decide)];omega
theorem kN(b:Bool)(n:Nat):fn Ze conv ext 227 [Bo b,LI (dg n)]=some (.agg (cZ (Az b n))):=by
 rw[abb,Z7]
theorem kU(z:Int)(h0:-9223372036854775808<=z)(h1:z<=9223372036854775807):fn Ze conv ext 172 [I z]=some (.agg (cZ z)):=by
 rw[mW,nK [.cell 2 159] [] func172]
 by_cases S:z<0
 .have w1:=Zl (n:=z+1)
  have w2:IntKind.i64.wrap (0 - (z+1))= -(z+1):=by rw[Zl];omega
  have J:=Zk (n:=-(z+1)) (by omega) (by omega);have Y:=Zk (n:=-(z+1)+1) (by omega) (by omega);have e:-(z+1)+1=((z.natAbs:Nat):Int):=by omega
  rw[e]at Y;have G:=RG z.natAbs (by omega);have E:=kN true z.natAbs;have O:Az true z.natAbs=z:=by unfold Az;rw[sZ rfl];omega
  rw[O]at E;unfold cZ at *;simp only[go_sem,S,w1,w2,J,e,Y,G,E]
 .have J:=Zk (n:=z) (by omega) (by omega)
  have e:z=((z.natAbs:Nat):Int):=by omega
  have G:=RG z.natAbs (by omega);rw[<- e]at G;have E:=kN false z.natAbs;have O:Az false z.natAbs=z:=by unfold Az;rw[su (by decide)];omega
  rw[O]at E;unfold cZ at *;simp only[go_sem,S,J,G,E]
theorem kQ(z:Int):fn Ze conv ext 268 [.agg (cZ z)]=some (.agg (cZ (-z))):=by
 have E:=kN (!decide (z<0)) z.natAbs;have e:cZ (Az (!decide (z<0)) z.natAbs)=cZ (-z):=by
  unfold Az
  by_cases h:z<0
  .rw[sS h,vN,su (by decide)];congr 1;omega
  .rw[sQ h,wY,sZ rfl];congr 1;omega
 rw[e]at E;unfold cZ at *;rw[mW,nK [.cell 2 159] [] func268];simp only[go_sem,E]
theorem pq{m n:Nat}:AU m n<0↔m<n:=by
 unfold AU
 by_cases h:m<n
 .rw[sZ h];simp[h]
 .rw[su h];split<;>simp[h]
theorem af'(x y:Int)(O:ln x.natAbs<=1000000)(S:ln y.natAbs<=1000000):fn Ze conv ext 225 [.agg (cZ x),.agg (cZ y)]=some (.agg (cZ (x+y))):=by
 have J:=kW x.natAbs y.natAbs O S;have k2:=arn x.natAbs y.natAbs O S;have sg:∀b m,Az b m=x+y->fn Ze conv ext 227 [Bo b,LI (dg m)]=some (.agg (cZ (x+y))):=fun b m h=>by rw[<- h];exact kN b m
 rw[mW,nK [.cell 4 159] [4,6,2] func225]
 by_cases Y:x<0<;>by_cases h2:y<0
 .have E:=sg true (x.natAbs+y.natAbs) (by unfold Az;rw[sZ rfl];omega)
  unfold cZ at *;rw[sS Y,sS h2];simp only[go_sem,J,k2,E]
 .unfold cZ at *
  rw[sS Y,sQ h2]
  by_cases hc:x.natAbs<y.natAbs
  .have c1:¬0<=AU x.natAbs y.natAbs:=by have:=pq.mpr hc;omega
   have G:=RJ y.natAbs x.natAbs S (by omega);have E:=sg false (y.natAbs-x.natAbs) (by unfold Az;rw[su (by decide)];omega);simp only[go_sem,J,E,G,c1]
  .have c1:0<=AU x.natAbs y.natAbs:=by have:=mt pq.mp hc;omega
   have G:=RJ x.natAbs y.natAbs O (by omega);have E:=sg true (x.natAbs-y.natAbs) (by unfold Az;rw[sZ rfl];omega);simp only[go_sem,J,E,G,c1]
 .unfold cZ at *
  rw[sQ Y,sS h2]
  by_cases hc:x.natAbs<y.natAbs
  .have c1:¬0<=AU x.natAbs y.natAbs:=by have:=pq.mpr hc;omega
   have G:=RJ y.natAbs x.natAbs S (by omega);have E:=sg true (y.natAbs-x.natAbs) (by unfold Az;rw[sZ rfl];omega);simp only[go_sem,J,E,G,c1]
  .have c1:0<=AU x.natAbs y.natAbs:=by have:=mt pq.mp hc;omega
   have G:=RJ x.natAbs y.natAbs O (by omega);have E:=sg false (x.natAbs-y.natAbs) (by unfold Az;rw[su (by decide)];omega);simp only[go_sem,J,E,G,c1]
 .have E:=sg false (x.natAbs+y.natAbs) (by unfold Az;rw[su (by decide)];omega)
  unfold cZ at *;rw[sQ Y,sQ h2];simp only[go_sem,J,k2,E]
theorem abg(x y:Int)(G:ln x.natAbs<=1000000)(O:ln y.natAbs<=1000000):fn Ze conv ext 283 [.agg (cZ x),.agg (cZ y)]=some (.agg (cZ (x-y))):=by
 have J:=kQ y;have E:=af' x (-y) G (by rwa [wH]);rw[<- Int.sub_eq_add_neg]at E;unfold cZ at *;rw[mW,nK [.cell 4 159] [1] func283];simp only[go_sem,J,E]
theorem kX(x y:Int)(S:ln x.natAbs<=1000000)(Y:ln y.natAbs<=1000000):fn Ze conv ext 267 [.agg (cZ x),.agg (cZ y)]=some (.agg (cZ (x*y))):=by
 have O:=KT x.natAbs y.natAbs S Y;have sg:∀b,Az b (x.natAbs*y.natAbs)=x*y->fn Ze conv ext 227 [Bo b,LI (dg (x.natAbs*y.natAbs))]=some (.agg (cZ (x*y))):=fun b h=>by rw[<- h];exact kN b _
 have e:∀z:Int,(z.natAbs:Int)=if z<0 then -z else z:=fun z=>by split<;>omega
 rw[mW,nK [.cell 4 159] [1] func267]
 by_cases E:x<0<;>by_cases G:y<0
 .have J:=sg false (by unfold Az;rw[su (by decide),zC,e,e,sZ E,sZ G,Int.neg_mul_neg])
  unfold cZ at *;rw[sS E,sS G];simp only[go_sem,O,J]
 .have J:=sg true (by unfold Az;rw[sZ rfl,zC,e,e,sZ E,su G,Int.neg_mul,Int.neg_neg])
  unfold cZ at *;rw[sS E,sQ G];simp only[go_sem,O,J]
 .have J:=sg true (by unfold Az;rw[sZ rfl,zC,e,e,su E,sZ G,Int.mul_neg,Int.neg_neg])
  unfold cZ at *;rw[sQ E,sS G];simp only[go_sem,O,J]
 .have J:=sg false (by unfold Az;rw[su (by decide),zC,e,e,su E,su G])
  unfold cZ at *;rw[sQ E,sQ G];simp only[go_sem,O,J]
def Ah(x y:Int):Int:=if x<y then -1 else if x=y then 0 else 1
theorem ajK{m n:Nat}:AU m n=Ah m n:=by unfold AU Ah;split<;>split<;>first|rfl|(split<;>first|rfl|omega)|omega
theorem PE(x y:Int)(J:ln x.natAbs<=1000000)(O:ln y.natAbs<=1000000):fn Ze conv ext 180 [.agg (cZ x),.agg (cZ y)]=some (I (Ah x y)):=by
 have S:=kW x.natAbs y.natAbs J O;have Y:=kW y.natAbs x.natAbs O J;rw[ajK]at S Y;unfold cZ;rw[mW,nK [.tmp 4] [] func180]
 by_cases E:x<0<;>by_cases G:y<0
 .have e:Ah ((y.natAbs:Nat):Int) ((x.natAbs:Nat):Int)=Ah x y:=by unfold Ah;(repeat' split)<;>first|rfl|omega
  rw[sS E,sS G];simp only[go_sem,Y,e]
 .have e:Ah x y= -1:=by unfold Ah;rw[sZ (by omega)]
  rw[sS E,sQ G,e];simp only[go_sem]
 .have e:Ah x y=1:=by unfold Ah;rw[su (by omega),su (by omega)]
  rw[sQ E,sS G,e];simp only[go_sem]
 .have e:Ah ((x.natAbs:Nat):Int) ((y.natAbs:Nat):Int)=Ah x y:=by unfold Ah;(repeat' split)<;>first|rfl|omega
  rw[sQ E,sQ G];simp only[go_sem,S,e]
theorem kP(x:Int):fn Ze conv ext 173 [.agg (cZ x)]=some (I (Ah x 0)):=by
 unfold cZ;rw[mW,nK [.tmp 2] [] func173]
 by_cases G:x=0
 .subst G
  have e:Ah 0 0=0:=by decide
  rw[e,Int.natAbs_zero,oQ]
  (simp only[go_sem])<;>rfl
 .have c1:(((dg x.natAbs).length:Int)==0)=false:=by rw[sW];have:=rM (oZ (n:=x.natAbs) (by omega));omega
  by_cases E:x<0
  .have e:Ah x 0= -1:=by unfold Ah;rw[sZ E]
   rw[sS E,e];simp only[go_sem,c1]
  .have e:Ah x 0=1:=by unfold Ah;rw[su E,su G]
   rw[sQ E,e];simp only[go_sem,c1]
def cQ(q:Rat):List V:=[Bo (decide (q.num<0)),LI (dg q.num.natAbs),LI (dg q.den)]
def pQ:Option Rat->V
 |some q=> .tp (cQ q) 0
 |none=> .sc (.pointer none)
theorem qQ(q:Rat):(cQ q).length=3:=rfl
theorem aga(z:Int){d:Nat}(h:d≠0):cQ (mkRat z d)=adE (decide (z<0)) z.natAbs d:=by
 have hg:Nat.gcd d z.natAbs=Nat.gcd z.natAbs d:=Nat.gcd_comm _ _;have J:0<Nat.gcd z.natAbs d:=Nat.gcd_pos_of_pos_right _ (by omega);have Y:Nat.gcd z.natAbs d ∣ z.natAbs:=Nat.gcd_dvd_left _ _;have O:((Nat.gcd z.natAbs d:Nat):Int) ∣ z:=Int.ofNat_dvd_left.mpr Y;unfold cQ adE;rw[Rat.num_mkRat,Rat.den_mkRat,su h,su h,hg];have e1:(z / ((Nat.gcd z.natAbs d:Nat):Int)).natAbs=z.natAbs / Nat.gcd z.natAbs d:=by
  obtain⟨k,E⟩:=O;have e:z / ((Nat.gcd z.natAbs d:Nat):Int)=k:=Int.ediv_eq_of_eq_mul_right (by omega) E;have e2:z.natAbs=Nat.gcd z.natAbs d*k.natAbs:=by
   have:=congrArg Int.natAbs E;rw[uh,xA]at this;exact this
  rw[e,Nat.div_eq_of_eq_mul_right J e2]
 have e2:decide (z / ((Nat.gcd z.natAbs d:Nat):Int)<0)=(decide (z<0) && decide (0<(dg (z.natAbs / Nat.gcd z.natAbs d)).length)):=by
  have e3:(z / ((Nat.gcd z.natAbs d:Nat):Int)<0)↔z<0:=by
   obtain⟨k,E⟩:=O;have e:z / ((Nat.gcd z.natAbs d:Nat):Int)=k:=Int.ediv_eq_of_eq_mul_right (by omega) E;rw[e];have hG:(0:Int)<((Nat.gcd z.natAbs d:Nat):Int):=by omega
   generalize ((Nat.gcd z.natAbs d:Nat):Int)=G at *;constructor
   .intro a1;rw[E];exact Int.mul_neg_of_pos_of_neg hG a1
   .intro S
    refine zf fun hn=>?_
    have:=vg (xJ hG) (Int.not_lt.mp hn);rw[<- E]at this;omega
  by_cases S:z<0
  .have a6:z.natAbs / Nat.gcd z.natAbs d≠0:=by
    have:=Nat.div_pos (Nat.gcd_le_left d (show 0<z.natAbs by omega)) J;omega
   rw[sS (e3.mpr S),sS S,sS (List.length_pos_iff.mpr (oZ a6))];rfl
  .rw[sQ (mt e3.mp S),sQ S];rfl
 rw[e1,e2]
def Sm(q:Rat):Prop:=q.num.natAbs<400000000/\q.den<30000
theorem lnS{n:Nat}(h:n<1000000000000000000):ln n<=1000000:=by
 have:=jr (n:=n) (k:=2)|>.mpr (by have:bp 2=1000000000000000000:=by decide
                                  omega)
 omega
theorem Sm.n{q:Rat}(h:Sm q):ln q.num.natAbs<=1000000:=lnS (by have:=h.1;omega)
theorem Sm.d{q:Rat}(h:Sm q):ln q.den<=1000000:=lnS (by have:=h.2;omega)
theorem dd0(x y:Rat):x.den*y.den≠0:=Nat.mul_ne_zero x.den_nz y.den_nz
theorem Ia(x:Rat)(d:Nat)(G:ln x.num.natAbs<=1000000)(J:ln d<=1000000):fn Ze conv ext 179 [.tp (cQ x) 0,LI (dg d)]=some (.agg (cZ (x.num*d))):=by
 have O:=KT x.num.natAbs d G J;have E:=kN (decide (x.num<0)) (x.num.natAbs*d);have e:Az (decide (x.num<0)) (x.num.natAbs*d)=x.num*d:=by
  have h:=dY x.num
  conv=>rhs;rw[<- h]
  unfold Az
  by_cases q:x.num<0
  .rw[sS q,sZ rfl,sZ rfl,zC,Int.neg_mul]
  .rw[sQ q,su (by decide),su (by decide),zC]
 rw[e]at E;unfold cQ;unfold cZ at *;rw[mW,nK [.cell 4 159] [] func179];simp only[go_sem,O,E]
theorem agb(x y:Rat)(S:y.num≠0):x / y=mkRat (Az (decide (x.num<0) !=decide (y.num<0)) (x.num.natAbs*y.den)) (x.den*y.num.natAbs):=by
 have O:x / y=Rat.divInt (x.num*y.den) (x.den*y.num):=by
  rw[vO]
  conv=>lhs;rw[<- Rat.num_divInt_den x,<- Rat.num_divInt_den y]
  rw[Rat.inv_divInt,Rat.divInt_mul_divInt]
 rw[O,<- Rat.divInt_ofNat,zC];have Y:=dY x.num
 by_cases G:x.num<0<;>by_cases J:y.num<0
 .have E:((x.num.natAbs:Nat):Int)= -x.num:=by omega
  have a2:((y.num.natAbs:Nat):Int)= -y.num:=by omega
  rw[sS G,sS J];unfold Az;rw[su (by decide),zC,E,a2,Int.neg_mul,Int.mul_neg,Rat.neg_divInt_neg]
 .have E:((x.num.natAbs:Nat):Int)= -x.num:=by omega
  have a2:((y.num.natAbs:Nat):Int)=y.num:=by omega
  rw[sS G,sQ J];unfold Az;rw[sZ (by decide),zC,E,a2,Int.neg_mul,Int.neg_neg]
 .have E:((x.num.natAbs:Nat):Int)=x.num:=by omega
  have a2:((y.num.natAbs:Nat):Int)= -y.num:=by omega
  rw[sQ G,sS J];unfold Az;rw[sZ (by decide),zC,E,a2,Int.mul_neg];rw[<- Rat.neg_divInt_neg (-(x.num*y.den)),Int.neg_neg,Int.neg_neg]
 .have E:((x.num.natAbs:Nat):Int)=x.num:=by omega
  have a2:((y.num.natAbs:Nat):Int)=y.num:=by omega
  rw[sQ G,sQ J];unfold Az;rw[su (by decide),zC,E,a2]
theorem ajL(q:Rat)(E:ln q.num.natAbs<=24)(G:ln q.den<=24):fn Ze conv ext 164 [.tp (cQ q) 0]=some (.agg (cQ q)):=anc _ _ _ E G
theorem kM(z:Int)(E:-9223372036854775808<=z)(G:z<=9223372036854775807):fn Ze conv ext 112 [I z]=some (.tp (cQ (z:Rat)) 0):=by
 have k:=kU z E G;have J:(z:Rat).num=z:=rfl;have O:(z:Rat).den=1:=rfl;unfold cQ;rw[J,O,oW (d:=1) (by decide) (by decide)];unfold cZ at k;rw[mW,nK [.tmp 2] [] func112]
 (simp only[go_sem,k])<;>rfl
theorem VQ(m n:Nat)(l1:(dg m).length<=1000000)(l2:(dg n).length<=1000000):fn Ze conv ext 247 [LI (dg m),LI (dg n)]=some (I (AU m n)):=by
 rw[mW,nK [.tmp 4] [] func247]
 by_cases hl:(dg m).length=(dg n).length
 .have c1:(((dg m).length:Int) !=((dg n).length:Int))=false:=by rw[hl];simp
  have e1:=Zl (n:=((dg m).length:Int) - 1);simp only[go_sem,c1,e1];generalize hL:gI _ _=y;obtain⟨r,rfl,hr⟩:=je hL (fun k st=>st.nx=0/\st.σ=lI/\st.T 0=LI (dg m)/\st.T 1=LI (dg n)/\st.T 5=I ((k:Int) - 1)/\k<=(dg m).length/\m / 1000000000^k=n / 1000000000^k)
   (fun r=>(∃T,r=(.exit 0,⟨T,lI,0⟩)/\m=n)\/(∃T,r=(.ret,⟨T,lI,0⟩)/\T 4=I (AU m n))) (by
    clear hL;rintro k ⟨T,σ,nx⟩ ⟨a1,a6,h0,h1,h5,hk,he⟩;simp only at a1 a6 h0 h1 h5;subst a1 a6;cases k with
    |zero=>
     have a7:¬(0:Int)<=0-1:=by omega
     rw[Nat.pow_zero,xC,xC]at he;exact .inr ⟨_,by simp only[go_sem,h5,a7];rfl,by simp,.inl ⟨_,rfl,he⟩⟩
    |succ k=>
     have E:k<(dg m).length:=by omega
     have G:k<(dg n).length:=by omega
     have e5:((k+1:Nat):Int) - 1=(k:Int):=by omega
     rw[e5]at h5;have f0:=jL k;have f3:(k:Int)<((dg m).length:Int):=by omega
     have S:(k:Int)<((dg n).length:Int):=by omega
     have f5:=Aw (dg m) k E;have Y:=Aw (dg n) k G;have f6:=idx E;have O:=idx G;rw[oh E]at f6;rw[oh G]at O;have f7:=Zl (n:=(k:Int) - 1)
     by_cases q1:((m / 1000000000^k%1000000000:Nat):Int)<((n / 1000000000^k%1000000000:Nat):Int)
     .have J:m<n:=jd he (by omega)
      have hc:AU m n= -1:=by unfold AU;rw[sZ J]
      exact .inr ⟨_,by simp only[go_sem,h0,h1,h5,f0,f3,S,f5,Y,f6,O,q1];rfl,by simp,.inr ⟨_,rfl,by simp only[go_sem,hc]⟩⟩
     .by_cases q2:((n / 1000000000^k%1000000000:Nat):Int)<((m / 1000000000^k%1000000000:Nat):Int)
      .have J:n<m:=jd he.symm (by omega)
       have hc:AU m n=1:=by unfold AU;rw[su (by omega),su (by omega)]
       exact .inr ⟨_,by simp only[go_sem,h0,h1,h5,f0,f3,S,f5,Y,f6,O,q1,q2];rfl,by simp,.inr ⟨_,rfl,by simp only[go_sem,hc]⟩⟩
      .have a8:m / 1000000000^k=n / 1000000000^k:=by
        have a:=oU m k;have b:=oU n k;rw[he]at a;omega
       refine .inl ⟨_,by simp only[go_sem,h0,h1,h5,f0,f3,S,f5,Y,f6,O,f7,q1,q2];rfl,k,by omega,?_⟩;simp only[go_sem,h0,h1];exact⟨by omega,a8⟩) (dg m).length ⟨rfl,rfl,by simp only[go_sem],by simp only[go_sem],by simp only[go_sem],zq _,by rw[ou,hl,ou]⟩
  rcases hr with ⟨T,rfl,h⟩|⟨T,rfl,h⟩
  .have hc:AU m n=0:=by unfold AU;rw[su (by omega),sZ h]
   simp only[go_sem,hc]
  .simp only[go_sem,h]
 .have c1:(((dg m).length:Int) !=((dg n).length:Int))=true:=by rw[bne_iff_ne];omega
  by_cases E:((dg m).length:Int)<((dg n).length:Int)
  .have J:m<n:=og (by omega)
   have hc:AU m n= -1:=by unfold AU;rw[sZ J]
   simp only[go_sem,c1,E,hc]
  .have J:n<m:=og (by omega)
   have hc:AU m n=1:=by unfold AU;rw[su (by omega),su (by omega)]
   simp only[go_sem,c1,E,hc]
theorem fC(m n:Nat)(hm:ln m<=1000000)(hn:ln n<=1000000):fn Ze conv ext 197 [LI (dg m),LI (dg n)]=some (LI (dg (m*n))):=by
 unfold ln at hm hn;rw[mW,nK [.tmp 4] [] func197]
 by_cases zm:m=0
 .subst zm
  rw[vC,oQ]
  (simp only[go_sem])<;>rfl
 have cm:((((dg m).length:Nat):Int)==0)=false:=by rw[sW];have:=rM (oZ zm);omega
 by_cases zn:n=0
 .subst zn
  rw[Nat.mul_zero,oQ]
  (simp only[go_sem,cm])<;>rfl
 have cn:((((dg n).length:Nat):Int)==0)=false:=by rw[sW];have:=rM (oZ zn);omega
 have pn:0<(dg n).length:=List.length_pos_iff.mpr (oZ zn);obtain⟨e1,e2,e3⟩:=jc (k:=(dg m).length+(dg n).length) (by omega);have e0:((dg m).length:Int)+((dg n).length:Int)=(((dg m).length+(dg n).length:Nat):Int):=by omega
 have e4:=Zl (n:=(((dg m).length+(dg n).length:Nat):Int)) (by omega) (by omega);simp only[go_sem,cm,cn,e0,e1,e2,e3,e4];generalize hL:gI _ _=y;obtain⟨r,rfl,T',σ',nx',P,rfl,S,E,G,hP,hd,hv⟩:=pJ hL (dg m).length (fun k st=>st.T 1=LI (dg n)/\st.T 5= .rs 0 0 ((dg m).length+(dg n).length)/\st.T 26=LI (dg m)/\st.T 27=I (dg m).length/\st.T 28=I k/\0<st.nx/\∃P,st.σ 0=some ⟨Fg P ((dg m).length-k),1,true⟩/\P.length=k+(dg n).length/\Dg P/\vl P=vl ((dg m).take k)*n)
  (fun r=>∃T σ nx P,r=(.exit 0,⟨T,σ,nx⟩)/\T 5= .rs 0 0 ((dg m).length+(dg n).length)/\0<nx/\σ 0=some ⟨P.flatMap cI,1,true⟩/\P.length=(dg m).length+(dg n).length/\Dg P/\vl P=(m*n:Nat)) (by
   clear hL;rintro k ⟨T,σ,nx⟩ a8 ⟨Y,S,EG,J,O,E,P,G,hP,hd,hv⟩;simp only at Y S EG J O E G;have f1:(k:Int)<((dg m).length:Int):=by omega
   have f2:=jL k;have f3:=Zl (n:=(k:Int)+1);have f5:=Aw (dg m) k a8;have f6:=idx a8;obtain⟨x,hx⟩:∃x,x=(dg m)[k]:=⟨_,rfl⟩;have xr:=(oz m).get a8;rw[<- hx]at f6 xr;have v1:=Zq a8;rw[<- hx]at v1;obtain⟨g,hg⟩:∃g,(dg m).length-k=g+1:=⟨(dg m).length-k-1,by omega⟩;have b2:(dg m).length - (k+1)=g:=by omega
   rw[hg]at G;refine cu ?_
   conv=>
    enter [1,r,1,1]
    simp only[go_sem,Y,S,EG,J,O,E,f1,f2,f5,f6]
   generalize hL:gI _ _=z;obtain⟨r,rfl,T',σ',nx',c,W,rfl,Y,S,h6,h8,EG,J,O,E,G,hW,hd,hv,a1,a6⟩:=pJ hL (dg n).length (fun j st=>st.T 1=LI (dg n)/\st.T 5= .rs 0 0 ((dg m).length+(dg n).length)/\st.T 6=I k/\st.T 7=I x/\st.T 26=LI (dg m)/\st.T 27=I (dg m).length/\st.T 28=I k/\st.T 33=LI (dg n)/\st.T 34=I (dg n).length/\st.T 35=I j/\0<st.nx/\∃c W,st.T 8=I c/\st.σ 0=some ⟨Fg W (g+1),1,true⟩/\W.length=k+(dg n).length/\Dg W/\vl W+bp (k+j)*c=vl ((dg m).take k)*n+bp k*(x*vl ((dg n).take j))/\0<=c/\c<1000000000)
    (fun r=>∃T σ nx c W,r=(.exit 2,⟨T,σ,nx⟩)/\T 1=LI (dg n)/\T 5= .rs 0 0 ((dg m).length+(dg n).length)/\T 6=I k/\T 8=I c/\T 26=LI (dg m)/\T 27=I (dg m).length/\T 28=I k/\0<nx/\σ 0=some ⟨Fg W (g+1),1,true⟩/\W.length=k+(dg n).length/\Dg W/\vl W+bp (k+(dg n).length)*c=vl ((dg m).take k)*n+bp k*(x*n)/\0<=c/\c<1000000000) (by
     clear hL;rintro j ⟨T,σ,nx⟩ hj ⟨Y,S,h6,h7,EG,J,O,VP,PD,a7,E,c,W,h8,G,hW,hd,hv,a1,a6⟩;simp only at Y S h6 h7 h8 EG J O VP PD a7 E G;have g1:(j:Int)<((dg n).length:Int):=by omega
     have g2:=jL j;have g3:=Zl (n:=(j:Int)+1);have g5:=Aw (dg n) j hj;have g6:=idx hj;obtain⟨b,hb⟩:∃b,b=(dg n)[j]:=⟨_,rfl⟩;have br:=(oz n).get hj;rw[<- hb]at g6 br;have v2:=Zq hj;rw[<- hb]at v2;have p0:(k:Int)+(j:Int)=((k+j:Nat):Int):=by omega
     have p1:=Zl (n:=((k+j:Nat):Int));have p2:(0:Int)<=((k+j:Nat):Int):=by omega
     have p3:((k+j:Nat):Int)<(((dg m).length+(dg n).length:Nat):Int):=by omega
     have p4:k+j<W.length:=by omega
     have p5:=RN (o:=W) (g+1) p4;have p6:k+j<(Fg W (g+1)).length:=by rw[nD];omega
     obtain⟨w,hw⟩:∃w,w=W[k+j]:=⟨_,rfl⟩;have wr:=hd.get p4;rw[<- hw]at p5 wr;have mm:=RP (x:=x) (y:=b) (c:=c) (w:=w) xr br ⟨a1,a6⟩ wr;have w1:=Zl (n:=x*b);have w2:=Zl (n:=w+x*b);have w3:=Zl (n:=w+x*b+c);obtain⟨q1,q2⟩:=aY (n:=w+x*b+c) (by omega);have w4:=Zl (n:=(w+x*b+c) / 1000000000);have c6:=n_ (g+1) ((w+x*b+c)%1000000000) p4;have vs:=Z5 p4 ((w+x*b+c)%1000000000);rw[<- hw]at vs;refine .inl ⟨_,by simp only[go_sem,Y,S,h6,h7,h8,EG,J,O,VP,PD,a7,E,G,g1,g2,g3,g5,g6,p0,p1,p2,p3,p5,p6,w1,w2,w3,w4,q1,q2,c6];rfl,?_⟩;simp only[go_sem,Y,S,h6,h7,EG,J,O,VP,PD];refine⟨rfl,E,_,_,rfl,rfl,by rw[yK];exact hW,hd.set _ (by omega) (by omega),?_,by omega,by omega⟩;rw[vs,show k+(j+1)=k+j+1 by omega,ql,Jp (c:=c) (x:=x) (b:=b) (by omega) hv (.inr trivial),v2,RI];grind) (by
     clear hL;rintro ⟨T,σ,nx⟩ ⟨Y,S,h6,h7,EG,J,O,VP,PD,a7,E,c,W,h8,G,hW,hd,hv,a1,a6⟩;simp only at Y S h6 h7 h8 EG J O VP PD a7 E G;rw[yZ,Zx]at hv;refine⟨_,by simp only[go_sem,PD,a7,zk];rfl,by simp,_,_,_,c,W,rfl,?_⟩;simp only[go_sem,Y,S,h6,h8,EG,J,O];exact⟨E,G,hW,hd,hv,a1,a6⟩) (by
     simp only[go_sem,Y,S,EG,J,O];exact⟨E,0,P,rfl,G,hP,hd,by rw[wB,hv];simp[vl],xW _,by decide⟩)
   have p0:(k:Int)+((dg n).length:Int)=((k+(dg n).length:Nat):Int):=by omega
   have p1:=Zl (n:=((k+(dg n).length:Nat):Int)) (by omega) (by omega);have p2:(0:Int)<=((k+(dg n).length:Nat):Int):=by omega
   have p3:((k+(dg n).length:Nat):Int)<(((dg m).length+(dg n).length:Nat):Int):=by omega
   have p6:k+(dg n).length<(Fg W (g+1)).length:=by rw[nD];omega
   have c6:=nC W g c hW;refine⟨_,by simp only[go_sem,Y,S,h6,h8,EG,J,O,E,G,f3,p0,p1,p2,p3,p6,c6];rfl,.inl ⟨_,rfl,?_⟩⟩;simp only[go_sem,Y,S,EG,J,b2];refine⟨rfl,E,_,rfl,by simp[hW];omega,hd.snoc a1 a6,?_⟩;rw[Zu,hW,hv,v1];grind) (by
   clear hL;rintro ⟨T,σ,nx⟩ ⟨Y,S,EG,J,O,E,P,G,hP,hd,hv⟩;simp only at Y S EG J O E G;rw[yP,nG]at G;refine⟨_,by simp only[go_sem,J,O,zk];rfl,by simp,_,_,_,P,rfl,by simp only[go_sem,S],E,G,hP,hd,?_⟩;rw[hv,yZ,Zx,zC]) (by
   simp only[go_sem];refine⟨List.replicate (dg n).length 0,?_,by simp,fun x hx=>by rw[List.mem_replicate]at hx;omega,(Z4 _).trans (by simp[vl])⟩;congr 2;unfold Fg;rw[show List.flatMap cI (List.replicate (dg n).length 0)=rep (dg n).length [I 0] by unfold rep;rw[uf]];unfold rep;rw[<- List.flatten_append,vH,wV])
 have ht:=cO P (by unfold Short;omega);rw[Cj hd hv]at ht;have b3:fn Ze conv ext 249 [.ts (P.flatMap cI) ((dg m).length+(dg n).length)]=some (LI (dg (m*n))):=by rw[<- hP];exact ht
 have tk:List.take ((dg m).length+(dg n).length) (P.flatMap cI)=P.flatMap cI:=by rw[<- hP];exact qR _
 have b4:(P.flatMap cI).length=(dg m).length+(dg n).length:=by rw[qW,hP]
 simp only[go_sem,S,E,G,b4,tk,b3]
theorem alX{n j:Nat}(h:bp j<=n):j+1<=ln n:=by
 refine zf fun hn=>?_
 have:=jr.mp (show ln n<=j by omega);omega
theorem alY{n:Nat}(h:n≠0):bp (ln n-1)<=n:=by
 refine zf fun hn=>?_
 have:=jr.mpr (show(n:Int)<bp (ln n-1) by omega);have:=ji h;omega
theorem aO(o:List Int):∃r,o=AZ o++r:=by
 induction o with
 |nil=>exact⟨[],rfl⟩
 |cons x o E=>
  obtain⟨r,G⟩:=E;rw[aQ]
  split
  .split
   .exact⟨x :: o,rfl⟩
   .exact⟨o,rfl⟩
  .exact⟨r,by rw[yY,<- G]⟩
theorem RQ{o:List Int}{n:Nat}(J:Dg o)(O:vl o=n)(S:o.length<=ln n):o=dg n:=by
 obtain⟨r,E⟩:=aO o;have G:=Cj J O;have:r=[]:=by
  refine zZ ?_;have Y:=congrArg List.length E;rw[zl,G]at Y;unfold ln at S;omega
 rw[this,zM,G]at E;exact E
theorem arq(m n:Nat)(hm:ln m<=1000000)(hn:ln n<=1000000):fn Ze conv ext 290 [LI (dg m),LI (dg n)]=some (LI (dg (m+n))):=by
 have a6:m≠0->bp (ln m-1)<=m:=alY;have a7:n≠0->bp (ln n-1)<=n:=alY;have a8:m=0->ln m=0:=fun h=>by rw[h,jg]
 have b2:n=0->ln n=0:=fun h=>by rw[h,jg]
 unfold ln at *;rw[mW,nK [.tmp 4] [] func290];simp only[go_sem];generalize hL:gI _ _=y;obtain⟨M,b4,b5,hM⟩:∃M,(dg m).length<=M/\(dg n).length<=M/\(M=(dg m).length\/M=(dg n).length):=by
  rcases Nat.le_total (dg m).length (dg n).length with h|h
  .exact⟨_,h,zq _,.inr rfl⟩
  .exact⟨_,zq _,h,.inl rfl⟩
 obtain⟨r,rfl,T',σ',nx',rfl,hr⟩:=je hL (fun g st=>∃k c o,g+k=M+1/\st.T 0=LI (dg m)/\st.T 1=LI (dg n)/\st.T 6=I c/\st.T 7=I (k:Nat)/\Grow st.T st.σ st.nx 5 o/\o.length=k/\Dg o/\vl o+bp k*c=vl ((dg m).take k)+vl ((dg n).take k)/\0<=c/\c<=1/\(k=M+1->c=0/\bp M<=(m+n:Nat)))
  (fun r=>∃T σ nx,r=(.exit 0,⟨T,σ,nx⟩)/\Grow T σ nx 5 (dg (m+n))) (by
   clear hL;rintro g ⟨T,σ,nx⟩ ⟨k,c,o,hg,G,E,h6,h7,hG,ho,hd,hv,b6,b7,hk⟩;simp only at G E h6 h7 hG;have fin:(dg m).length<=k->(dg n).length<=k->c=0->o=dg (m+n):=by
    intro a1 a2 a3;subst a3;rw[zo a1,zo a2,Zx,Zx,wB,uX]at hv;refine RQ hd (by rw[hv];omega) ?_
    by_cases Y:k=M+1
    .have:=alX (hk Y).2
     omega
    .have b8:k=M:=by omega
     by_cases b9:M=0
     .omega
     .have:bp (M-1)<=(m+n:Nat):=by
       rcases hM with e|e
       .have:=a6 (fun h=>by have:=a8 h;omega)
        rw[<- e]at this;omega
       .have:=a7 (fun h=>by have:=b2 h;omega)
        rw[<- e]at this;omega
      have:=alX this;omega
   have go:∀x z:Int,0<=x->x<1000000000->0<=z->z<1000000000->vl ((dg m).take (k+1))=vl ((dg m).take k)+bp k*x->vl ((dg n).take (k+1))=vl ((dg n).take k)+bp k*z->(k=M->x=0/\z=0)->k<M+1 ->
     vl (o++[(c+x+z)%1000000000])+bp (k+1)*((c+x+z) / 1000000000)=vl ((dg m).take (k+1))+vl ((dg n).take (k+1)):=by
    intro x z x0 x1 z0 z1 e1 e2 _ _;rw[Zu,ho,ql,e1,e2,qL (n:=c+x+z) (by omega),xu,xu];omega
   have nz:¬(0:Int)<0:=by decide
   by_cases hA:k<(dg m).length
   .have f1:(k:Int)<((dg m).length:Int):=by omega
    have f2:=jL k;have f3:=Zl (n:=(k:Int)+1);have f5:=Aw (dg m) k hA;have f6:=idx hA;obtain⟨x,hx⟩:∃x,x=(dg m)[k]:=⟨_,rfl⟩;have xr:=(oz m).get hA;have v1:=Zq hA;rw[<- hx]at f6 xr v1;have w1:=Zl (n:=c+x)
    by_cases J:k<(dg n).length
    .have f8:(k:Int)<((dg n).length:Int):=by omega
     have f9:=Aw (dg n) k J;have f10:=idx J;obtain⟨z,hz⟩:∃z,z=(dg n)[k]:=⟨_,rfl⟩;have zr:=(oz n).get J;have v2:=Zq J;rw[<- hz]at f10 zr v2;have w2:=Zl (n:=c+x+z);obtain⟨O,S⟩:=aY (n:=c+x+z) (by omega);have w3:=Zl (n:=(c+x+z) / 1000000000);obtain⟨σ',ha,hs⟩:=lC hG ((c+x+z)%1000000000) (by omega);refine .inl ⟨_,by simp only[go_sem,G,E,h6,h7,f1,f2,f3,f5,f6,f8,f9,f10,w1,w2,w3,O,S,ha];rfl,g-1,by omega,k+1,(c+x+z) / 1000000000,o++[(c+x+z)%1000000000],by omega,?_,?_,?_,?_,?_,by simp[ho],hd.snoc (by omega) (by omega),?_,by omega,by omega,fun h=>by omega⟩
     .simp only[go_sem,G]
     .simp only[go_sem,E]
     .simp only[go_sem]
     .simp only[go_sem];rfl
     .exact kZ hs (by simp[go_sem]) (by simp)
     exact go x z xr.1 xr.2 zr.1 zr.2 v1 v2 (fun h=>by omega) (by omega)
    .have f8:¬(k:Int)<((dg n).length:Int):=by omega
     have v2:vl ((dg n).take (k+1))=vl ((dg n).take k)+bp k*0:=by rw[qj (by omega)];omega
     obtain⟨O,S⟩:=aY (n:=c+x) (by omega);have w3:=Zl (n:=(c+x) / 1000000000);obtain⟨σ',ha,hs⟩:=lC hG ((c+x)%1000000000) (by omega);refine .inl ⟨_,by simp only[go_sem,G,E,h6,h7,f1,f2,f3,f5,f6,f8,w1,w3,O,S,ha];rfl,g-1,by omega,k+1,(c+x) / 1000000000,o++[(c+x)%1000000000],by omega,?_,?_,?_,?_,?_,by simp[ho],hd.snoc (by omega) (by omega),?_,by omega,by omega,fun h=>by omega⟩
     .simp only[go_sem,G]
     .simp only[go_sem,E]
     .simp only[go_sem]
     .simp only[go_sem];rfl
     .exact kZ hs (by simp[go_sem]) (by simp)
     have:=go x 0 xr.1 xr.2 (by decide) (by decide) v1 v2 (fun h=>by omega) (by omega)
     rwa [uX]at this
   .have f1:¬(k:Int)<((dg m).length:Int):=by omega
    have f2:=jL k;have f3:=Zl (n:=(k:Int)+1);have v1:vl ((dg m).take (k+1))=vl ((dg m).take k)+bp k*0:=by rw[qj (by omega)];omega
    by_cases J:k<(dg n).length
    .have f8:(k:Int)<((dg n).length:Int):=by omega
     have f9:=Aw (dg n) k J;have f10:=idx J;obtain⟨z,hz⟩:∃z,z=(dg n)[k]:=⟨_,rfl⟩;have zr:=(oz n).get J;have v2:=Zq J;rw[<- hz]at f10 zr v2;have w2:=Zl (n:=c+z);obtain⟨O,S⟩:=aY (n:=c+z) (by omega);have w3:=Zl (n:=(c+z) / 1000000000);obtain⟨σ',ha,hs⟩:=lC hG ((c+z)%1000000000) (by omega);refine .inl ⟨_,by simp only[go_sem,G,E,h6,h7,f1,f2,f3,f8,f9,f10,w2,w3,O,S,ha];rfl,g-1,by omega,k+1,(c+z) / 1000000000,o++[(c+z)%1000000000],by omega,?_,?_,?_,?_,?_,by simp[ho],hd.snoc (by omega) (by omega),?_,by omega,by omega,fun h=>by omega⟩
     .simp only[go_sem,G]
     .simp only[go_sem,E]
     .simp only[go_sem]
     .simp only[go_sem];rfl
     .exact kZ hs (by simp[go_sem]) (by simp)
     have:=go 0 z (by decide) (by decide) zr.1 zr.2 v1 v2 (fun h=>by omega) (by omega)
     rwa [uX]at this
    .have f8:¬(k:Int)<((dg n).length:Int):=by omega
     have v2:vl ((dg n).take (k+1))=vl ((dg n).take k)+bp k*0:=by rw[qj (by omega)];omega
     by_cases hc:c=0
     .subst hc
      refine .inr ⟨_,by simp only[go_sem,G,E,h6,h7,f1,f8,nz];rfl,by simp,_,_,_,rfl,?_⟩;rw[<- fin (by omega) (by omega) rfl];exact ku (by simp only[go_sem]) hG
     .have b3:c=1:=by omega
      subst b3;have Y:k=M:=by
       rcases Nat.lt_or_ge k (M+1)with h|h
       .omega
       .have:=(hk (by omega)).1;omega
      have p1:(0:Int)<1:=by decide
      obtain⟨O,S⟩:=aY (n:=1) (by decide);have q3:(1:Int)%1000000000=1:=by decide
      have q4:(1:Int) / 1000000000=0:=by decide
      have q5:IntKind.i64.wrap 0=0:=by decide
      rw[q3]at O;rw[q4]at S;obtain⟨σ',ha,hs⟩:=lC hG 1 (by omega);refine .inl ⟨_,by simp only[go_sem,G,E,h6,h7,f1,f2,f3,f8,p1,O,S,q5,ha];rfl,g-1,by omega,k+1,0,o++[1],by omega,?_,?_,?_,?_,?_,by simp[ho],hd.snoc (by omega) (by omega),?_,by omega,by omega,fun h=>⟨rfl,?_⟩⟩
      .simp only[go_sem,G]
      .simp only[go_sem,E]
      .simp only[go_sem]
      .simp only[go_sem];rfl
      .exact kZ hs (by simp[go_sem]) (by simp)
      .have:=go 0 0 (by decide) (by decide) (by decide) (by decide) v1 v2 (fun _=>⟨rfl,rfl⟩) (by omega)
       rw[uX,uX,q3,q4]at this;exact this
      .rw[zo (by omega),zo (by omega),Zx,Zx,Int.mul_one]at hv
       have:=Zv hd;rw[<- Y];omega) (M+1) ⟨0,0,[],by omega,by simp only[go_sem],by simp only[go_sem],by simp only[go_sem],by simp only[go_sem],.inl ⟨by simp only[go_sem],rfl⟩,rfl,Dg.nil,by simp[vl],by decide,by decide,fun h=>by omega⟩
 obtain⟨ids,E⟩:=kY hr 6;have h5:∃u,T' 5=u:=⟨_,rfl⟩;simp only[go_sem,E]
theorem VT(m n:Nat)(hm:ln m<=1000000)(hle:n<=m):fn Ze conv ext 291 [LI (dg m),LI (dg n)]=some (LI (dg (m-n))):=by
 have a7:(dg n).length<=(dg m).length:=jq hle;unfold ln at hm;rw[mW,nK [.tmp 4] [] func291];simp only[go_sem];generalize hL:gI _ _=y;obtain⟨r,rfl,T',σ',nx',o,rfl,hG,ho,hd,hv⟩:=pJ hL (dg m).length (fun k st=>st.T 0=LI (dg m)/\st.T 1=LI (dg n)/\st.T 10=LI (dg m)/\st.T 11=I (dg m).length/\st.T 12=I k/\∃c o,st.T 6=I c/\Grow st.T st.σ st.nx 5 o/\o.length=k/\Dg o/\vl o-bp k*c=vl ((dg m).take k) - vl ((dg n).take k)/\0<=c/\c<=1)
  (fun r=>∃T σ nx o,r=(.exit 0,⟨T,σ,nx⟩)/\Grow T σ nx 5 o/\o.length=(dg m).length/\Dg o/\vl o=(m-n:Nat)) (by
   clear hL;rintro k ⟨T,σ,nx⟩ a6 ⟨Y,S,G,E,J,c,o,h6,hG,ho,hd,hv,a8,b2⟩;simp only at Y S G E J h6 hG;have f1:(k:Int)<((dg m).length:Int):=by omega
   have f2:=jL k;have f3:=Zl (n:=(k:Int)+1);have f5:=Aw (dg m) k a6;have f6:=idx a6;obtain⟨x,hx⟩:∃x,x=(dg m)[k]:=⟨_,rfl⟩;have xr:=(oz m).get a6;have v1:=Zq a6;rw[<- hx]at f6 xr v1;have w1:=Zl (n:=x-c);obtain⟨z,b,b3,hb,hF⟩:∃z b,(0<=z/\z<1000000000)/\vl ((dg n).take (k+1))=vl ((dg n).take k)+bp k*z/\((b=true/\(k:Int)<((dg n).length:Int)/\(dg n).flatMap cI≠[]/\((dg n).flatMap cI)[k]?=some (I z))\/(b=false/\¬(k:Int)<((dg n).length:Int)/\z=0)):=by
    by_cases hB:k<(dg n).length
    .exact⟨(dg n)[k],true,(oz n).get hB,Zq hB,.inl ⟨rfl,by omega,Aw (dg n) k hB,idx hB⟩⟩
    .exact⟨0,false,by decide,by rw[qj (by omega)];omega,.inr ⟨rfl,by omega,rfl⟩⟩
   have w2:=Zl (n:=x-c-z);have go:∀y q:Int,y=x-c-z+1000000000*q->vl (o++[y]) - bp (k+1)*q=vl ((dg m).take (k+1)) - vl ((dg n).take (k+1)):=by
    intro y q hy;rw[Zu,ho,ql,v1,hb,qw hy,vF,vF];omega
   have w3:=Zl (n:=x-c-z+1000000000);obtain⟨b4,a1,s1⟩:=lC hG (x-c-z) (by omega);obtain⟨σ2,a2,s2⟩:=lC hG (x-c-z+1000000000) (by omega);rcases hF with ⟨_,f8,f9,f10⟩|⟨_,f8,rfl⟩
   .by_cases O:x-c-z<0
    .refine .inl ⟨_,by simp only[go_sem,Y,S,h6,G,E,J,f1,f2,f3,f5,f6,f8,f9,f10,w1,w2,w3,O,a2];rfl,?_⟩
     simp only[go_sem,Y,S,G,E];exact⟨rfl,1,o++[x-c-z+1000000000],rfl,kZ s2 (by simp[go_sem]) (by simp),by simp[ho],hd.snoc (by omega) (by omega),go _ 1 (by omega),by omega,by omega⟩
    .refine .inl ⟨_,by simp only[go_sem,Y,S,h6,G,E,J,f1,f2,f3,f5,f6,f8,f9,f10,w1,w2,O,a1];rfl,?_⟩
     simp only[go_sem,Y,S,G,E];exact⟨rfl,0,o++[x-c-z],rfl,kZ s1 (by simp[go_sem]) (by simp),by simp[ho],hd.snoc (by omega) (by omega),go _ 0 (by omega),by omega,by omega⟩
   .rw[Int.sub_zero]at *
    by_cases O:x-c<0
    .refine .inl ⟨_,by simp only[go_sem,Y,S,h6,G,E,J,f1,f2,f3,f5,f6,f8,w1,w3,O,a2];rfl,?_⟩
     simp only[go_sem,Y,S,G,E];exact⟨rfl,1,o++[x-c+1000000000],rfl,kZ s2 (by simp[go_sem]) (by simp),by simp[ho],hd.snoc (by omega) (by omega),go _ 1 (by omega),by omega,by omega⟩
    .refine .inl ⟨_,by simp only[go_sem,Y,S,h6,G,E,J,f1,f2,f3,f5,f6,f8,w1,O,a1];rfl,?_⟩
     simp only[go_sem,Y,S,G,E];exact⟨rfl,0,o++[x-c],rfl,kZ s1 (by simp[go_sem]) (by simp),by simp[ho],hd.snoc (by omega) (by omega),go _ 0 (by omega),by omega,by omega⟩) (by
   clear hL;rintro ⟨T,σ,nx⟩ ⟨Y,S,G,E,J,c,o,h6,hG,ho,hd,hv,a8,b2⟩;simp only at Y S G E J h6 hG;refine⟨_,by simp only[go_sem,E,J,zk];rfl,by simp,_,_,_,o,rfl,ku (by simp only[go_sem]) hG,ho,hd,?_⟩;rw[yZ,zo a7,Zx,Zx,<- ho]at hv;have h7:=Zw hd;have h8:=Zv hd;have h9:=qm o.length;have hc:c=0:=zf fun b5=>by
    have:c=1:=by omega
    subst this;rw[Int.mul_one]at hv;omega
   subst hc;rw[wB]at hv;omega) (by
   simp only[go_sem];exact⟨0,[],rfl,.inl ⟨by simp only[go_sem],rfl⟩,rfl,Dg.nil,by simp[vl],xW _,by decide⟩)
 have ht:=cO o (by unfold Short;omega);rw[Cj hd hv]at ht;obtain⟨ids,S⟩:=kY hG 6;simp only[go_sem,S,ht]
theorem MS(b:Bool)(n:Nat)(h:ln n<=60):fn Ze conv ext 196 [Bo b,LI (dg n)]=some (.agg (cZ (Az b n))):=by
 have k:=af5 b (dg n) (dX (by omega)) (by rw[aP];exact h);rw[aP]at k;rw[Z7];exact k
theorem VU(x y:Int)(O:ln x.natAbs<=1000000)(S:ln y.natAbs<=1000000)(h:ln (x+y).natAbs<=60):fn Ze conv ext 274 [.agg (cZ x),.agg (cZ y)]=some (.agg (cZ (x+y))):=by
 have J:=VQ x.natAbs y.natAbs O S;have k2:=arq x.natAbs y.natAbs O S;have sg:∀b m,Az b m=x+y->fn Ze conv ext 196 [Bo b,LI (dg m)]=some (.agg (cZ (x+y))):=fun b m hs=>by
  have:(x+y).natAbs=m:=by rw[<- hs];unfold Az;split<;>omega
  rw[<- hs];exact MS b m (by rw[<- this];exact h)
 rw[mW,nK [.cell 4 159] [2,4,5] func274]
 by_cases Y:x<0<;>by_cases h2:y<0
 .have E:=sg true (x.natAbs+y.natAbs) (by unfold Az;rw[sZ rfl];omega)
  unfold cZ at *;rw[sS Y,sS h2];simp only[go_sem,J,k2,E]
 .unfold cZ at *
  rw[sS Y,sQ h2]
  by_cases hc:x.natAbs<y.natAbs
  .have c1:¬0<=AU x.natAbs y.natAbs:=by have:=pq.mpr hc;omega
   have G:=VT y.natAbs x.natAbs S (by omega);have E:=sg false (y.natAbs-x.natAbs) (by unfold Az;rw[su (by decide)];omega);simp only[go_sem,J,E,G,c1]
  .have c1:0<=AU x.natAbs y.natAbs:=by have:=mt pq.mp hc;omega
   have G:=VT x.natAbs y.natAbs O (by omega);have E:=sg true (x.natAbs-y.natAbs) (by unfold Az;rw[sZ rfl];omega);simp only[go_sem,J,E,G,c1]
 .unfold cZ at *
  rw[sQ Y,sS h2]
  by_cases hc:x.natAbs<y.natAbs
  .have c1:¬0<=AU x.natAbs y.natAbs:=by have:=pq.mpr hc;omega
   have G:=VT y.natAbs x.natAbs S (by omega);have E:=sg true (y.natAbs-x.natAbs) (by unfold Az;rw[sZ rfl];omega);simp only[go_sem,J,E,G,c1]
  .have c1:0<=AU x.natAbs y.natAbs:=by have:=mt pq.mp hc;omega
   have G:=VT x.natAbs y.natAbs O (by omega);have E:=sg false (x.natAbs-y.natAbs) (by unfold Az;rw[su (by decide)];omega);simp only[go_sem,J,E,G,c1]
 .have E:=sg false (x.natAbs+y.natAbs) (by unfold Az;rw[su (by decide)];omega)
  unfold cZ at *;rw[sQ Y,sQ h2];simp only[go_sem,J,k2,E]
theorem Z8(z:Int)(Y:-9223372036854775808<z)(h1:z<=9223372036854775807):fn Ze conv ext 198 [I z]=some (.agg (cZ z)):=by
 have c1:(z== -9223372036854775808)=false:=by rw[sW];omega
 have G:=MR z.natAbs (by omega);have O:ln z.natAbs<=60:=by have:=anf (n:=z.natAbs) (by omega);omega
 rw[mW,nK [.cell 2 159] [] func198]
 by_cases S:z<0
 .have E:=MS true z.natAbs O
  have e:Az true z.natAbs=z:=by unfold Az;rw[sZ rfl];omega
  have J:((z.natAbs:Nat):Int)=0-z:=by omega
  have w:=Zl (n:=0-z);rw[e]at E;rw[J]at G;unfold cZ at *;simp only[go_sem,c1,S,w,G,E]
 .have E:=MS false z.natAbs O
  have e:Az false z.natAbs=z:=by unfold Az;rw[su (by decide)];omega
  have J:((z.natAbs:Nat):Int)=z:=by omega
  rw[e]at E;rw[J]at G;unfold cZ at *;simp only[go_sem,c1,S,G,E]
theorem fD(z:Int)(E:-9223372036854775808<z)(G:z<=9223372036854775807):fn Ze conv ext 133 [I z]=some (.agg (cQ (z:Rat))):=by
 have J:=Z8 z E G;have O:(z:Rat).num=z:=rfl;have S:(z:Rat).den=1:=rfl;unfold cZ at *;unfold cQ;rw[O,S,oW (d:=1) (by decide) (by decide),mW,nK [.cell 2 161] [] func133]
 (simp only[go_sem,J])<;>rfl
theorem PG(n:Nat)(h:ln n<=1000000):fn Ze conv ext 234 [LI (dg n)]=some (Bo (decide (n=1))):=by
 rw[ari (dg n) (dX h),decide_eq_decide.mpr (Pz n)]
theorem agc(q:Rat)(G:ln q.num.natAbs<=60)(J:ln q.den<=60):fn Ze conv ext 187 [.agg (cQ q)]=some (.agg (cQ (-q))):=by
 have E:=MS (!decide (q.num<0)) q.num.natAbs G;have e:cZ (Az (!decide (q.num<0)) q.num.natAbs)=cZ (-q.num):=by
  unfold Az
  by_cases h:q.num<0
  .rw[sS h,vN,su (by decide)];congr 1;omega
  .rw[sQ h,wY,sZ rfl];congr 1;omega
 rw[e]at E;have O:¬(dg q.den).length=0:=rM (oZ q.den_nz);have S:(dg q.den).length<=maxLen/\(dg q.den).length*8<=140737488355328:=by unfold ln at J;unfold maxLen;omega
 unfold cZ at *;unfold cQ;rw[Rat.neg_num,Rat.neg_den,mW,nK [.cell 2 161] [1] func187];simp only[go_sem,E,O,S]
end Go.Proofs.YtkpdoehbhmipcaaGreat
namespace Go.TV
def CY(f:V->Option (V×List Nat)):List V->Option (List V×List Nat)
 |[]=>some ([],[])
 |v :: vs=>match f v,CY f vs with
  |some (t,i),some (ts,j)=>some (t :: ts,i++j)
  |_,_=>none
def own(σ:Store):Nat->V->Option (V×List Nat)
 |0,v=>match v with
  | .sc u=>some (.sc u,[])
  | .nil=>some (.ts [] 0,[])
  |_=>none
 |d+1,v=>match v with
  | .sc u=>some (.sc u,[])
  | .nil=>some (.ts [] 0,[])
  | .agg vs=>match CY (own σ d) vs with
   |some (ts,ids)=>some (.agg ts,ids)
   |none=>none
  | .rs b off len=>match σ b with
   |some B=>if off=0/\B.wr=true/\len*B.st=B.cells.length then
     match CY (own σ d) B.cells with
     |some (ts,ids)=>some (.ts ts len,b :: ids)
     |none=>none
    else none
   |none=>none
  |_=>none
def Own(σ:Store)(d:Nat)(v t:V)(ids:List Nat):Prop:=own σ d v=some (t,ids)/\ids.Nodup
theorem iy{f g:V->Option (V×List Nat)}:∀ {vs ts:List V} {ids:List Nat},(∀v t i,f v=some (t,i)->(∀b∈i,b∈ids)->g v=some (t,i))->CY f vs=some (ts,ids)->CY g vs=some (ts,ids)
 |[],ts,ids,_,h=>h
 |v :: vs,ts,ids,hfg,h=>by
  unfold CY at h⊢
  split at h
  .rename_i t i E j G J
   simp only[tC,t_]at h;obtain⟨rfl,rfl⟩:=h;rw[hfg v t i G (fun b hb=>yh _ hb),iy (fun v t i h hi=>hfg v t i h (fun b hb=>zA _ (hi b hb))) J]
  .cases h
theorem Jq{σ σ':Store}:∀(d:Nat) (v t:V) (ids:List Nat),own σ d v=some (t,ids)->(∀b∈ids,σ' b=σ b)->own σ' d v=some (t,ids)
 |0,v,t,ids,h,_=>by cases v<;>simp[own]at h⊢ <;>exact h
 |d+1,v,t,ids,h,hb=>by
  cases v<;>simp only[own]at h⊢ <;>try exact h
  .split at h
   .rename_i ts i e
    simp only[tC,t_]at h;obtain⟨rfl,rfl⟩:=h;rw[iy (fun v t i h hi=>Jq d v t i h fun b E=>hb b (hi b E)) e]
   .cases h
  .rename_i b off len
   split at h
   .rename_i B G
    split at h
    .rename_i hc
     split at h
     .rename_i ts i e
      simp only[tC,t_]at h;obtain⟨rfl,rfl⟩:=h;rw[hb b zQ,G];simp only;rw[sZ hc,iy (fun v t i h hi=>Jq d v t i h fun b E=>hb b (zY _ (hi b E))) e]
     .cases h
    .cases h
   .cases h
theorem iq{σ:Store}{f g:V->Option (V×List Nat)}(E:∀v t i,f v=some (t,i)->g v=some (t,i)):∀ {vs ts:List V} {ids:List Nat},CY f vs=some (ts,ids)->stripL g vs=some (ts,ids)
 |[],ts,ids,h=>h
 |v :: vs,ts,ids,h=>by
  unfold CY at h;unfold stripL
  split at h
  .rename_i t i G j J O
   simp only[tC,t_]at h;obtain⟨rfl,rfl⟩:=h;rw[E v t i J,iq (σ:=σ) E O]
  .cases h
theorem iW{σ:Store}:∀(d:Nat) (v t:V) (ids:List Nat),own σ d v=some (t,ids)->∀d',d<=d'->strip σ d' v=some (t,ids)
 |0,v,t,ids,h,d',_=>by
  cases v<;>simp[own]at h
  .rename_i u;obtain⟨rfl,rfl⟩:=h;exact bC _ _ _
  .obtain⟨rfl,rfl⟩:=h;exact bF _ _
 |d+1,v,t,ids,h,d',hd=>by
  obtain⟨e,rfl⟩:∃e,d'=e+1:=⟨d'-1,by omega⟩;cases v<;>simp only[own]at h
  .simp only[tC,t_]at h;obtain⟨rfl,rfl⟩:=h;exact bC _ _ _
  .simp only[tC,t_]at h;obtain⟨rfl,rfl⟩:=h;exact bF _ _
  .cases h
  .split at h
   .rename_i ts i E
    simp only[tC,t_]at h;obtain⟨rfl,rfl⟩:=h;rw[bJ,iq (σ:=σ) (fun v t i h=>iW d v t i h e (by omega)) E];rfl
   .cases h
  .cases h
  .cases h
  .cases h
  .cases h
  .cases h
  .rename_i b off len
   split at h
   .rename_i B G
    split at h
    .rename_i hc
     split at h
     .rename_i ts i E
      simp only[tC,t_]at h;obtain⟨rfl,rfl⟩:=h;obtain⟨rfl,_,J⟩:=hc;rw[bD,G];simp only[zi];rw[sZ (by omega),yw,zo (by omega),iq (σ:=σ) (fun v t i h=>iW d v t i h e (by omega)) E];rfl
     .cases h
    .cases h
   .cases h
theorem iw{f:V->Option (V×List Nat)}{g:V->Option (List Nat)}(E:∀v t i,f v=some (t,i)->g v=some i):∀ {vs ts:List V} {ids:List Nat},CY f vs=some (ts,ids)->AO g vs=some ids
 |[],ts,ids,h=>by simp only[CY,tC,t_]at h;rw[<- h.2];rfl
 |v :: vs,ts,ids,h=>by
  unfold CY at h;unfold AO
  split at h
  .rename_i t i G j J O
   simp only[tC,t_]at h;obtain⟨rfl,rfl⟩:=h;rw[E v t i J,iw E O]
  .cases h
theorem ig{σ:Store}:∀(d:Nat) (v t:V) (ids:List Nat),own σ d v=some (t,ids)->∀d',d<=d'->gather σ d' v=some ids
 |0,v,t,ids,h,d',_=>by
  cases v<;>simp[own]at h
  .obtain⟨rfl,rfl⟩:=h;cases d'<;>rfl
  .obtain⟨rfl,rfl⟩:=h;cases d'<;>rfl
 |d+1,v,t,ids,h,d',hd=>by
  obtain⟨e,rfl⟩:∃e,d'=e+1:=⟨d'-1,by omega⟩;cases v<;>simp only[own]at h
  .simp only[tC,t_]at h;rw[<- h.2];rfl
  .simp only[tC,t_]at h;rw[<- h.2];rfl
  .cases h
  .split at h
   .rename_i ts i E
    simp only[tC,t_]at h;obtain⟨rfl,rfl⟩:=h;unfold gather;exact iw (fun v t i h=>ig d v t i h e (by omega)) E
   .cases h
  .cases h
  .cases h
  .cases h
  .cases h
  .cases h
  .rename_i b off len
   split at h
   .rename_i B G
    split at h
    .rename_i hc
     split at h
     .rename_i ts i E
      simp only[tC,t_]at h;obtain⟨rfl,rfl⟩:=h;unfold gather;simp only[G];rw[iw (fun v t i h=>ig d v t i h e (by omega)) E]
     .cases h
    .cases h
   .cases h
theorem Own.frame{σ σ':Store}{d:Nat}{v t:V}{ids:List Nat}(h:Own σ d v t ids)(hb:∀b∈ids,σ' b=σ b):Own σ' d v t ids:=⟨Jq d v t ids h.1 hb,h.2⟩
theorem Own.upd{σ:Store}{d:Nat}{v t:V}{ids:List Nat}{c:Nat}{x:Option FU}(hc:¬c∈ids):Own (upd σ c x) d v t ids=Own σ d v t ids:=by
 refine propext ⟨fun h=>h.frame fun b hb=>?_,fun h=>h.frame fun b hb=>?_⟩
 .exact(aG _ _ (fun e=>hc (by rw[<- e];exact hb))).symm
 .exact aG _ _ (fun e=>hc (by rw[<- e];exact hb))
theorem kG{n:Nat}{σ E:Store}{ids:List Nat}{b:Nat}(hn:¬b<n)(hb:b∈ids):CV n σ E ids b=E b:=by
 unfold CV;rw[su hn,sZ hb]
theorem kF{n:Nat}{σ E:Store}{ids:List Nat}{b:Nat}(hn:b<n):CV n σ E ids b=σ b:=by
 unfold CV;rw[sZ hn]
theorem Own.join{n:Nat}{σ E:Store}{d:Nat}{v t:V}{ids:List Nat}(h:Own E d v t ids)(hn:∀b∈ids,n<=b):Own (CV n σ E ids) d v t ids :=
 h.frame fun b hb=>kG (by have:=hn b hb;omega) hb
theorem Own.strip{σ:Store}{d:Nat}{v t:V}{ids:List Nat}(h:Own σ d v t ids){d':Nat}(E:d<=d'):TV.strip σ d' v=some (t,ids):=iW d v t ids h.1 d' E
theorem Own.gather{σ:Store}{d:Nat}{v t:V}{ids:List Nat}(h:Own σ d v t ids){d':Nat}(E:d<=d'):TV.gather σ d' v=some ids:=ig d v t ids h.1 d' E
theorem PI{σ:Store}{d:Nat}:∀ {cells:List V} {xs:List Int} {ids:List Nat},CY (own σ d) cells=some (xs.flatMap cI,ids)->cells=xs.flatMap cI/\ids=[]
 |[],xs,ids,h=>by
  simp only[CY,tC,t_]at h;exact⟨h.1,h.2.symm⟩
 |v :: vs,xs,ids,h=>by
  unfold CY at h
  split at h
  .rename_i t i G j E S
   simp only[tC,t_]at h;obtain⟨O,rfl⟩:=h;cases xs with
   |nil=>cases O
   |cons x xs=>
    have J:t :: G=I x :: xs.flatMap cI:=O;obtain⟨rfl,rfl⟩:=List.cons.inj J;obtain⟨rfl,rfl⟩:=PI S;have:v=I x/\i=[]:=by
     cases d with
     |zero=>cases v<;>simp[own]at E;exact⟨by rw[E.1],E.2⟩
     |succ d=>
      cases v<;>simp only[own]at E
      .simp only[tC,t_]at E;exact⟨by rw[E.1],E.2.symm⟩
      .simp at E
      .cases E
      .split at E<;>simp at E
      .cases E
      .cases E
      .cases E
      .cases E
      .cases E
      .split at E
       .split at E
        .split at E<;>simp at E
        .cases E
       .cases E
    exact⟨by rw[this.1];rfl,by rw[this.2];rfl⟩
  .cases h
theorem VW{σ:Store}{d:Nat}{v:V}{xs:List Int}{ids:List Nat}(h:Own σ (d+1) v (LI xs) ids):(v= .nil/\xs=[]/\ids=[])\/∃b st,v= .rs b 0 xs.length/\ids=[b]/\σ b=some ⟨xs.flatMap cI,st,true⟩/\xs.length*st=xs.length:=by
 obtain⟨h,_⟩:=h;cases v<;>simp only[own]at h
 .simp at h
 .simp only[tC,t_]at h
  refine .inl ⟨rfl,?_,h.2.symm⟩;have E:=h.1;simp only[LI,V.ts.injEq]at E;exact zZ E.2.symm
 .cases h
 .split at h<;>simp at h
 .cases h
 .cases h
 .cases h
 .cases h
 .cases h
 .rename_i b off len
  split at h
  .rename_i B J
   split at h
   .rename_i hc
    obtain⟨rfl,hw,G⟩:=hc
    split at h
    .rename_i ts i O
     simp only[tC,t_,LI,V.ts.injEq]at h;obtain⟨⟨rfl,rfl⟩,rfl⟩:=h;obtain⟨E,rfl⟩:=PI O;obtain⟨cells,st,wr⟩:=B;simp only at hw G E;subst hw E;exact .inr ⟨b,st,rfl,rfl,J,by rw[G,qW]⟩
    .cases h
   .cases h
  .cases h
theorem ajM(σ:Store)(d:Nat)(xs:List Int):CY (own σ d) (xs.flatMap cI)=some (xs.flatMap cI,[]):=by
 induction xs with
 |nil=>rfl
 |cons x xs E=>
  show CY (own σ d) (I x :: xs.flatMap cI)=_;unfold CY;rw[E];cases d<;>rfl
theorem Jr{σ:Store}{d b st:Nat}{xs:List Int}(h:σ b=some ⟨xs.flatMap cI,st,true⟩)(E:xs.length*st=xs.length):Own σ (d+1) (.rs b 0 xs.length) (LI xs) [b]:=by
 refine⟨?_,by simp⟩;simp only[own,h];rw[sZ ⟨trivial,trivial,by rw[qW];exact E⟩,ajM]
theorem iZ(σ:Store)(d:Nat):Own σ d .nil (LI []) []:=⟨by cases d<;>rfl,by simp⟩
def marks(k:Int):Nat->List Int
 |0=>[]
 |n+1=>k :: marks (k+1) n
theorem jX(k:Int)(n:Nat):(marks k n).length=n:=by
 induction n generalizing k with
 |zero=>rfl
 |succ n E=>simp[marks,E]
theorem Js(k:Int)(n i:Nat)(h:i<(marks k n).length):(marks k n)[i]=k+i:=by
 induction n generalizing k i with
 |zero=>simp[marks]at h
 |succ n E=>
  cases i with
  |zero=>simp[marks]
  |succ i=>
   have:=E (k+1) i (by simpa[marks]using h);simp only[marks,List.getElem_cons_succ,this];omega
def MV(nx G:Nat)(σ E:Store)(ids:List Nat):Store:=xI [] nx G σ (CV nx (restrict σ []) E ids)
theorem ajN{P:Program}{conv:FuncId->Conv}{call:Call}{d:Option Tmp}{ty:TypeId}{ps:String}{S:Array Edge}{Y:Option (Nat×Bool)}{T:Nat->V}{σ:Store}{nx:Nat}{g:FuncId}(h:conv g= .own)(args:Array Operand)(ts:Array TypeId) :
  Af P conv call ⟨d,.call ⟨.value (.func g),args,ts⟩,ty,ps,S,Y⟩ T σ nx=(stripL (strip σ depth) (args.toList.map (val T))).bind fun p=>if(p.2.all fun b=>decide (b<nx))=true then(call g p.1 lI nx).bind fun q=>(gather q.2.1 depth q.1).map fun ids=>(q.1,MV nx q.2.2 σ q.2.1 ids,q.2.2)else none:=by
 unfold Af;rw[mQ d ty ps S Y T σ (by rw[h];exact fun e=>by cases e)];cases a1:stripL (strip σ depth) (args.toList.map (val T))with
 |none=>rfl
 |some p=>
  obtain⟨us,F⟩:=p;simp only[zH,zi]
  by_cases E:(F.all fun b=>decide (b<nx))=true
  .rw[sZ E,sZ E]
   have e:=KO (P:=P) (conv:=conv) (call:=call) d ty ps S Y T (restrict σ F) nx (.func g) args ts;rw[e];have G:stripL (strip (restrict σ F) depth) (args.toList.map (val T))=some (us,F) :=
    bY (fun v t i h hi=>bH _ v t i h fun b hb=>by unfold restrict;rw[sZ (hi b hb)]) a1
   simp only[val,qN,zM,Vm h,G,zi];cases call g us lI nx with
   |none=>rfl
   |some q=>
    simp only[zi];cases gather q.2.1 depth q.1 with
    |none=>rfl
    |some ids=>
     simp only[zH,keeps,val,h,if_true,tC,t_,true_and,and_true];have a6:∀b∈F,b<nx:=fun b hb=>by simpa using List.all_eq_true.1 E b hb
     unfold MV;funext b;unfold xI
     by_cases J:nx<=b/\b<q.2.2
     .rw[sZ (.inr J),sZ (.inr J)]
      unfold CV;simp only[su (show ¬b<nx by omega)]
     .by_cases O:b∈F
      .rw[sZ (.inl O),su (fun e=>e.elim (fun e=>by cases e) J)]
       unfold CV restrict;rw[sZ (a6 b O),sZ O]
      .rw[su (fun e=>e.elim O J),su (fun e=>e.elim (fun e=>by cases e) J)]
  .rw[su E,su E]
theorem ars{conv:FuncId->Conv}{d:Option Tmp}{ty:TypeId}{ps:String}{E:Array Edge}{G:Option (Nat×Bool)}{g:FuncId}(h:conv g= .own)(args:Array Operand)(ts:Array TypeId):writer conv ⟨d,.call ⟨.value (.func g),args,ts⟩,ty,ps,E,G⟩=false:=by unfold writer;simp only[h]
theorem agd{conv:FuncId->Conv}{d:Option Tmp}{ty:TypeId}{ps:String}{E:Array Edge}{G:Option (Nat×Bool)}{T:Nat->V}{σ:Store}{g:FuncId}(h:conv g= .own)(args:Array Operand)(ts:Array TypeId):yI conv T σ ⟨d,.call ⟨.value (.func g),args,ts⟩,ty,ps,E,G⟩=((stripL (strip σ depth) (args.toList.map (val T))).map (·.2)).getD []:=by
 unfold yI;rw[mQ d ty ps E G T σ (by rw[h];exact fun e=>by cases e)]
theorem aru{nx G:Nat}{σ E:Store}{ids:List Nat}{b:Nat}(J:nx<=b)(O:b<G)(hb:b∈ids):MV nx G σ E ids b=E b:=by
 unfold MV xI;rw[sZ (.inr ⟨J,O⟩),kG (by omega) hb]
theorem arv{nx G:Nat}{σ E:Store}{ids:List Nat}{b:Nat}(h:b<nx):MV nx G σ E ids b=σ b:=by
 unfold MV xI;rw[su (by simp;omega)]
theorem PK(σ:Store)(d:Nat)(u:Value):gather σ d (.sc u)=some []:=by cases d<;>rfl
theorem Z9(σ:Store)(d:Nat):gather σ d .nil=some []:=by cases d<;>rfl
theorem Z_(σ:Store)(d:Nat)(vs:List V):gather σ (d+1) (.agg vs)=AO (gather σ d) vs:=rfl
theorem aac(σ:Store)(d:Nat)(vs:List V):gather σ (d+1) (.Au vs)=AO (gather σ d) vs:=rfl
theorem VX(f:V->Option (List Nat)):AO f []=some []:=rfl
theorem Ib(f:V->Option (List Nat))(v:V)(vs:List V):AO f (v :: vs)=(f v).bind fun i=>(AO f vs).map fun j=>i++j:=by
 show(match f v,AO f vs with|some i,some j=>some (i++j)|_,_=>none)=_;cases f v<;>cases AO f vs<;>rfl
attribute [go_sem] ajN ars agd PK Z9 Z_ aac VX Ib Vm
theorem Own.cell{σ:Store}{d:Nat}{v:V}{xs:List Int}{ids:List Nat}(h:Own σ (d+1) v (LI xs) ids):qI v=true:=by
 rcases VW h with ⟨rfl,_⟩|⟨b,st,rfl,_⟩<;>rfl
theorem qE{v:V}(h:qI v=true):cellsOfV v=some [v]:=by cases v<;>simp_all [cellsOfV,qI]
end Go.TV
namespace Go.Proofs.YtkpdoehbhmipcaaGreat
open Go Go.TV
def Aa:FuncId->Conv:=fun f=>if f∈([901656,901202,901679,900998,901199,164,223,901658,53,54,215]:List Nat)then .own else if f∈([33,901525,901247,22,69,29,78,134,135,23,70,140,141,83,89,32,90,41]:List Nat)then .inl else .JJ
abbrev adF:List Nat:=[901656,901202,901679,900998,901199,164,223,901658,53,54,33,901525,901247,22,69,29,78,134,135,23,70,140,141,83,89,32,90,41,902340,901886,902363,902342]
noncomputable def BN:Ext:=fun f=>if f=215 then some E8 else if f∈adF then none else some fun args σ nx=>ev Ze conv ext f args σ nx
theorem anh:Hw Ze BN:=fun f g h args σ nx v σ' nx' E=>by
 unfold BN at h
 split at h
 .rename_i G
  subst G;cases h;exact qB args σ nx v σ' nx' E
 .split at h
  .cases h
  .cases h
   exact nH (by kernel_rfl) afR f args σ nx v σ' nx' E
theorem fnM{f:FuncId}(h:List.contains (215 :: adF) f=false)(ts:List V):fn Ze Aa BN f ts=fn Ze conv ext f ts:=by
 have hc:¬f=215:=fun e=>by subst e;simp at h
 have E:¬f∈adF:=fun e=>by
  rw[List.contains_cons,Bool.or_eq_false_iff]at h;rw[List.contains_iff_mem.mpr e]at h;cases h.2
 rw[mW,mW,nJ (g:=fun args σ nx=>ev Ze conv ext f args σ nx) (by unfold BN;rw[su hc,su E])]
theorem cvM{f:FuncId}(h:List.contains (215 :: adF) f=false):Aa f= .JJ:=by
 have hc:¬f=215:=fun e=>by subst e;simp at h
 have E:¬f∈adF:=fun e=>by
  rw[List.contains_cons,Bool.or_eq_false_iff]at h;rw[List.contains_iff_mem.mpr e]at h;cases h.2
 unfold Aa;simp only[adF,zX,zJ,or_false,not_or]at E;rw[su (by simp only[zX,zJ,or_false,not_or];simp only[E,hc,not_false_eq_true,and_self]),su (by simp only[zX,zJ,or_false,not_or];simp only[E,not_false_eq_true,and_self])]
theorem ajO:Aa 901656= .own:=id rfl
theorem ajP:Aa 901202= .own:=id rfl
theorem ajQ:Aa 901679= .own:=id rfl
theorem ajR:Aa 900998= .own:=id rfl
theorem ajS:Aa 901199= .own:=id rfl
theorem ajT:Aa 164= .own:=id rfl
theorem ajU:Aa 223= .own:=id rfl
theorem ajV:Aa 901658= .own:=id rfl
theorem ajW:Aa 53= .own:=id rfl
theorem ajX:Aa 54= .own:=id rfl
theorem agf:Aa 33= .inl:=id rfl
theorem ajY:Aa 901525= .inl:=id rfl
theorem ajZ:Aa 901247= .inl:=id rfl
theorem aj0:Aa 22= .inl:=id rfl
theorem aj1:Aa 69= .inl:=id rfl
theorem aj2:Aa 29= .inl:=id rfl
theorem aj3:Aa 78= .inl:=id rfl
theorem aj6:Aa 134= .inl:=id rfl
theorem aj7:Aa 135= .inl:=id rfl
theorem aj8:Aa 23= .inl:=id rfl
theorem aj9:Aa 70= .inl:=id rfl
theorem aj_:Aa 140= .inl:=id rfl
theorem aj':Aa 141= .inl:=id rfl
theorem akb:Aa 83= .inl:=id rfl
theorem akc:Aa 89= .inl:=id rfl
theorem akd:Aa 32= .inl:=id rfl
theorem ake:Aa 90= .inl:=id rfl
theorem akf:Aa 41= .inl:=id rfl
theorem akg:Aa 215= .own:=id rfl
attribute [go_sem] cvM ajO ajP ajQ ajR ajS ajT ajU akg agf ajY ajZ ajV ajW ajX aj0 aj1 aj2 aj3 aj6 aj7 aj8 aj9 aj_ aj' akb akc akd ake akf fnM
theorem VY{k:Int}{xs:List Int}{n i:Nat}(hn:n=xs.length)(hi:i<n):((marks k i++xs.drop i).flatMap cI).set i (I (k+i))=(marks k (i+1)++xs.drop (i+1)).flatMap cI:=by
 rw[qV,yF _ _ (by rw[jX];exact zq _),jX,yP,yU (by omega),wC];have:marks k (i+1)=marks k i++[k+i]:=by
  refine yE (by simp[jX]) fun j E J=>?_
  rw[Js];rw[jX]at E
  by_cases G:j<i
  .rw[wP (by rw[jX];exact G),Js]
  .have:j=i:=by omega
   subst this;rw[wS (by rw[jX];exact zq _)];simp[jX]
 rw[this,zF];rfl
theorem VZ{σ:Store}{nx:Nat}{v:V}{xs:List Int}{ids:List Nat}(ho:Own σ 1 v (LI xs) ids)(hl:xs.length<=1000000000000)(k:Int)(hk:0<=k/\k<=10000000000000000) :
  ∃σ',ev Ze Aa BN 33 [v,I k] σ nx=some (I (k+xs.length),σ',nx)/\Own σ' 1 v (LI (marks k xs.length)) ids/\∀b,¬b∈ids->σ' b=σ b:=by
 rw[nK [.tmp 4] [] func33];rcases VW ho with ⟨rfl,rfl,rfl⟩|⟨b,st,rfl,rfl,hb,S⟩
 .simp only[go_sem]
  rw[nk];have f0:¬(0:Int)<0:=by decide
  simp only[go_sem,f0];exact⟨σ,by simp,iZ _ _,fun _ _=>rfl⟩
 .simp only[go_sem]
  generalize Y:gI _ _=y;obtain⟨r,rfl,T',σ',rfl,E,h2,h3⟩:=pJ Y xs.length (fun i s=>s.nx=nx/\s.T 0= .rs b 0 xs.length/\s.T 1=I (k+i)/\s.T 5=I i/\s.σ b=some ⟨(marks k i++xs.drop i).flatMap cI,st,true⟩/\∀c,¬c=b->s.σ c=σ c)
   (fun r=>∃T σ',r=(.exit 0,⟨T,σ',nx⟩)/\T 1=I (k+xs.length)/\σ' b=some ⟨(marks k xs.length).flatMap cI,st,true⟩/\∀c,¬c=b->σ' c=σ c) (by
    clear Y;rintro i ⟨T,τ,m⟩ a1 ⟨hn,G,E,J,hs,O⟩;simp only at hn G E J hs O;subst hn;have f1:(i:Int)<(xs.length:Int):=by omega
    have f2:=jL i;have f3:=Zl (n:=(i:Int)+1);have f4:=Zl (n:=k+(i:Int)+1);have c5:i<(marks k i++xs.drop i).length:=by rw[zl,jX,yj];omega
    have c6:=VY (k:=k) (xs:=xs) rfl a1;refine .inl ⟨_,by simp only[go_sem,G,E,J,hs,f1,f2,f3,f4,c5,c6];rfl,?_⟩;simp only[go_sem,G];refine⟨by rw[show k+(i:Int)+1=k+((i+1:Nat):Int) by omega],rfl,fun c hc=>?_⟩;rw[aG _ _ hc];exact O c hc) (by
    clear Y;rintro ⟨T,τ,m⟩ ⟨hn,G,E,J,hs,O⟩;simp only at hn G E J hs O;subst hn;refine⟨_,by simp only[go_sem,G,J,zk];rfl,by simp,_,_,rfl,by simp only[go_sem,E],?_,O⟩;rw[hs,List.drop_length,zM]) (by
    simp only[go_sem];exact⟨by simp,by rw[hb];rfl,fun _ _=>trivial⟩)
  simp only[go_sem,E];refine⟨_,rfl,?_,fun c hc=>h3 c (by simpa using hc)⟩;have:=Jr (σ:=σ') (d:=0) (b:=b) (st:=st) (xs:=marks k xs.length) h2 (by rw[jX];exact S)
  rwa [jX]at this
theorem agh(k:Int)(n:Nat)(hk:0<=k/\k<=1000000000000)(hn:n<=1000000000000):fn Ze conv ext 34 [LI (marks k n),I k]=some (I (k+n)):=by
 rw[mW,nK [.tmp 4] [] func34];simp only[go_sem];generalize hL:gI _ _=y;have a1:=jX k n;obtain⟨r,rfl,T',rfl,O⟩:=pJ hL n (fun i s=>s.nx=0/\s.σ=lI/\s.T 0=LI (marks k n)/\s.T 1=I (k+i)/\s.T 5=I i)
  (fun r=>∃T,r=(.exit 0,⟨T,lI,0⟩)/\T 1=I (k+n)) (by
   clear hL;rintro i ⟨T,τ,m⟩ a6 ⟨E,G,S,O,Y⟩;simp only at E G S O Y;subst E G;have J:i<(marks k n).length:=by omega
   have f1:(i:Int)<((marks k n).length:Int):=by omega
   have f2:=jL i;have f3:=Zl (n:=(i:Int)+1);have f4:=Zl (n:=k+(i:Int)+1);have f5:=Aw (marks k n) i J;have f6:=idx J;rw[Js]at f6;refine .inl ⟨_,by simp only[go_sem,S,O,Y,f1,f2,f3,f4,f5,f6];rfl,?_⟩;simp only[go_sem,S];exact⟨by rw[show k+(i:Int)+1=k+((i+1:Nat):Int) by omega],rfl⟩) (by
   clear hL;rintro ⟨T,τ,m⟩ ⟨E,G,S,O,Y⟩;simp only at E G S O Y;subst E G;have f1:¬(n:Int)<((marks k n).length:Int):=by omega
   exact⟨_,by simp only[go_sem,S,Y,f1];rfl,by simp,_,rfl,by simp only[go_sem,O]⟩) (by
   simp only[go_sem];simp)
 simp only[go_sem,O]
theorem agi(xs:List TV.Move)(h:okL 16 okMove xs)(Ci:Store)(n:Nat):ev Ze Aa BN 70 [LL cMove xs] Ci n=some (.rs n 0 xs.length,upd Ci n (some ⟨xs.flatMap cMove,2,true⟩),n+1):=by
 have e1:(16:Int)*xs.length<=281474976710656:=by have:=h.2.1;omega
 have e2:(xs.length:Int)<=9223372036854775807:=by have:=h.2.1;omega
 have e3:(0:Int)<=(xs.length:Int):=by omega
 rw[nK [.tmp 2] [] func70];simp only[go_sem,e1,e2,e3,xW];generalize Y:gI _ _=y;obtain⟨r,rfl,T',σ',rfl,a1,hs⟩:=pJ Y xs.length (fun k st=>st.nx=n+1/\st.σ=upd Ci n (some ⟨mix cMove afT xs xs.length k,2,true⟩)/\st.T 0=LL cMove xs/\st.T 3= .rs n 0 xs.length/\st.T 4=I k)
  (fun r=>∃T σ,r=(.exit 0,⟨T,σ,n+1⟩)/\T 3= .rs n 0 xs.length/\σ=upd Ci n (some ⟨xs.flatMap cMove,2,true⟩)) (by
   clear Y;rintro k ⟨T,σ,nx⟩ G ⟨hn,E,J,O,S⟩;simp only at hn E J O S;subst hn E;have f1:(k:Int)<(xs.length:Int):=by omega
   have f2:=jL k;have f3:=Zl (n:=(k:Int)+1);have f4:=ZP xs k G;have f5:=JX xs;have f6:k*2+2<=xs.length*2:=by omega
   have f7:=jQ (c:=cMove) (s:=2) (fun _=>rfl) (z:=afT) rfl xs k (by omega);have f8:=jP (c:=cMove) (s:=2) (fun _=>rfl) (z:=afT) rfl xs k G;have f9:=ZQ xs k G;have f10:fn Ze conv ext 121 [.agg (cMove xs[k])]=some (.agg (cMove xs[k])):=by
    have hx:=h.1 xs[k] (zu G)
    revert hx
    generalize xs[k]=x;intro hx;exact am2 x
   refine .inl ⟨_,by simp only[go_sem,J,O,S,f1,f2,f3,f4,f5,f6,f7,f8,f9,f10];rfl,?_⟩;simp only[go_sem,J,O];rfl) (by
   clear Y;rintro ⟨T,σ,nx⟩ ⟨hn,E,J,O,S⟩;simp only at hn E J O S;subst hn E;refine⟨_,by simp only[go_sem,J,S,zk];rfl,by simp,_,_,rfl,?_,?_⟩
   .simp only[go_sem,O]
   .rw[jR]) (by
   (simp only[go_sem,<- jO])<;>trivial)
 simp only[go_sem,a1,hs]
theorem adG(xs:List Joint)(h:okL 40 okJoint xs)(Ci:Store)(n:Nat):ev Ze Aa BN 134 [LL cJoint xs] Ci n=some (.rs n 0 xs.length,upd Ci n (some ⟨xs.flatMap cJoint,4,true⟩),n+1):=by
 have e1:(40:Int)*xs.length<=281474976710656:=by have:=h.2.1;omega
 have e2:(xs.length:Int)<=9223372036854775807:=by have:=h.2.1;omega
 have e3:(0:Int)<=(xs.length:Int):=by omega
 rw[nK [.tmp 2] [] func134];simp only[go_sem,e1,e2,e3,xW];generalize Y:gI _ _=y;obtain⟨r,rfl,T',σ',rfl,a1,hs⟩:=pJ Y xs.length (fun k st=>st.nx=n+1/\st.σ=upd Ci n (some ⟨mix cJoint ZO xs xs.length k,4,true⟩)/\st.T 0=LL cJoint xs/\st.T 3= .rs n 0 xs.length/\st.T 4=I k)
  (fun r=>∃T σ,r=(.exit 0,⟨T,σ,n+1⟩)/\T 3= .rs n 0 xs.length/\σ=upd Ci n (some ⟨xs.flatMap cJoint,4,true⟩)) (by
   clear Y;rintro k ⟨T,σ,nx⟩ G ⟨hn,E,J,O,S⟩;simp only at hn E J O S;subst hn E;have f1:(k:Int)<(xs.length:Int):=by omega
   have f2:=jL k;have f3:=Zl (n:=(k:Int)+1);have f4:=GX xs k G;have f5:=ED xs;have f6:k*4+4<=xs.length*4:=by omega
   have f7:=jQ (c:=cJoint) (s:=4) (fun _=>rfl) (z:=ZO) rfl xs k (by omega);have f8:=jP (c:=cJoint) (s:=4) (fun _=>rfl) (z:=ZO) rfl xs k G;have f9:=Jh xs k G;have f10:fn Ze conv ext 199 [.agg (cJoint xs[k])]=some (.agg (cJoint xs[k])):=by
    have hx:=h.1 xs[k] (zu G)
    revert hx
    generalize xs[k]=x;intro hx;exact ajt x
   refine .inl ⟨_,by simp only[go_sem,J,O,S,f1,f2,f3,f4,f5,f6,f7,f8,f9,f10];rfl,?_⟩;simp only[go_sem,J,O];rfl) (by
   clear Y;rintro ⟨T,σ,nx⟩ ⟨hn,E,J,O,S⟩;simp only at hn E J O S;subst hn E;refine⟨_,by simp only[go_sem,J,S,zk];rfl,by simp,_,_,rfl,?_,?_⟩
   .simp only[go_sem,O]
   .rw[jR]) (by
   (simp only[go_sem,<- jO])<;>trivial)
 simp only[go_sem,a1,hs]
theorem aad(xs:List Member)(h:okL 24 okMember xs)(Ci:Store)(n:Nat):ev Ze Aa BN 135 [LL cMember xs] Ci n=some (.rs n 0 xs.length,upd Ci n (some ⟨xs.flatMap cMember,3,true⟩),n+1):=by
 have e1:(24:Int)*xs.length<=281474976710656:=by have:=h.2.1;omega
 have e2:(xs.length:Int)<=9223372036854775807:=by have:=h.2.1;omega
 have e3:(0:Int)<=(xs.length:Int):=by omega
 rw[nK [.tmp 2] [] func135];simp only[go_sem,e1,e2,e3,xW];generalize Y:gI _ _=y;obtain⟨r,rfl,T',σ',rfl,a1,hs⟩:=pJ Y xs.length (fun k st=>st.nx=n+1/\st.σ=upd Ci n (some ⟨mix cMember Rq xs xs.length k,3,true⟩)/\st.T 0=LL cMember xs/\st.T 3= .rs n 0 xs.length/\st.T 4=I k)
  (fun r=>∃T σ,r=(.exit 0,⟨T,σ,n+1⟩)/\T 3= .rs n 0 xs.length/\σ=upd Ci n (some ⟨xs.flatMap cMember,3,true⟩)) (by
   clear Y;rintro k ⟨T,σ,nx⟩ G ⟨hn,E,J,O,S⟩;simp only at hn E J O S;subst hn E;have f1:(k:Int)<(xs.length:Int):=by omega
   have f2:=jL k;have f3:=Zl (n:=(k:Int)+1);have f4:=KA xs k G;have f5:=FV xs;have f6:k*3+3<=xs.length*3:=by omega
   have f7:=jQ (c:=cMember) (s:=3) (fun _=>rfl) (z:=Rq) rfl xs k (by omega);have f8:=jP (c:=cMember) (s:=3) (fun _=>rfl) (z:=Rq) rfl xs k G;have f9:=KC xs k G;have f10:fn Ze conv ext 200 [.agg (cMember xs[k])]=some (.agg (cMember xs[k])):=by
    have hx:=h.1 xs[k] (zu G)
    revert hx
    generalize xs[k]=x;intro hx;exact afS x
   refine .inl ⟨_,by simp only[go_sem,J,O,S,f1,f2,f3,f4,f5,f6,f7,f8,f9,f10];rfl,?_⟩;simp only[go_sem,J,O];rfl) (by
   clear Y;rintro ⟨T,σ,nx⟩ ⟨hn,E,J,O,S⟩;simp only at hn E J O S;subst hn E;refine⟨_,by simp only[go_sem,J,S,zk];rfl,by simp,_,_,rfl,?_,?_⟩
   .simp only[go_sem,O]
   .rw[jR]) (by
   (simp only[go_sem,<- jO])<;>trivial)
 simp only[go_sem,a1,hs]
theorem RS(xs:List Int)(h:okL 8 okI xs)(Ci:Store)(n:Nat):ev Ze Aa BN 23 [LI xs] Ci n=some (.rs n 0 xs.length,upd Ci n (some ⟨xs.flatMap cI,1,true⟩),n+1):=by
 have e1:(8:Int)*xs.length<=281474976710656:=by have:=h.2.1;omega
 have e2:(xs.length:Int)<=9223372036854775807:=by have:=h.2.1;omega
 have e3:(0:Int)<=(xs.length:Int):=by omega
 rw[nK [.tmp 2] [] func23];simp only[go_sem,e1,e2,e3,xW];generalize Y:gI _ _=y;obtain⟨r,rfl,T',σ',rfl,a1,hs⟩:=pJ Y xs.length (fun k st=>st.nx=n+1/\st.σ=upd Ci n (some ⟨mix cI [I 0] xs xs.length k,1,true⟩)/\st.T 0=LI xs/\st.T 3= .rs n 0 xs.length/\st.T 4=I k)
  (fun r=>∃T σ,r=(.exit 0,⟨T,σ,n+1⟩)/\T 3= .rs n 0 xs.length/\σ=upd Ci n (some ⟨xs.flatMap cI,1,true⟩)) (by
   clear Y;rintro k ⟨T,σ,nx⟩ G ⟨hn,E,J,O,S⟩;simp only at hn E J O S;subst hn E;have f1:(k:Int)<(xs.length:Int):=by omega
   have f2:=jL k;have f3:=Zl (n:=(k:Int)+1);have f4:(xs.flatMap cI)[k]?=some (I xs[k]):=dR I xs k G;have f7:=jQ (c:=cI) (s:=1) (fun _=>rfl) (z:=[I 0]) rfl xs k (by omega);have f8:(mix cI [I 0] xs xs.length k).set k (I xs[k])=mix cI [I 0] xs xs.length (k+1):=Rl (c:=I) xs k G;have f9:=Aw xs k G;refine .inl ⟨_,by simp only[go_sem,J,O,S,f1,f2,f3,f4,f7,f8,f9,G];rfl,?_⟩;simp only[go_sem,J,O];rfl) (by
   clear Y;rintro ⟨T,σ,nx⟩ ⟨hn,E,J,O,S⟩;simp only at hn E J O S;subst hn E;refine⟨_,by simp only[go_sem,J,S,zk];rfl,by simp,_,_,rfl,?_,?_⟩
   .simp only[go_sem,O]
   .rw[jR]) (by
   (simp only[go_sem,<- jO])<;>trivial)
 simp only[go_sem,a1,hs]
structure arw (σ:Store) (b:Nat) (s:Structure):Prop where
 j:σ b=some ⟨s.joints.flatMap cJoint,4,true⟩
 m:σ (b+1)=some ⟨s.members.flatMap cMember,3,true⟩
def arx(b:Nat)(s:Structure):List V:=[.rs b 0 s.joints.length,.rs (b+1) 0 s.members.length]
theorem RU(s:Structure)(h:okStructure s)(Ci:Store)(n:Nat):∃σ,ev Ze Aa BN 78 [.agg (cStructure s)] Ci n=some (.agg (arx (n+3) s),σ,n+5)/\arw σ (n+3) s/\∀b,b<n->σ b=Ci b:=by
 have E:=fun σ n=>adG _ h.1 σ n
 have G:=fun σ n=>aad _ h.2 σ n
 have J:¬n=n+1:=by omega
 have O:¬n=n+1+1:=by omega
 have S:¬n+1=n+1+1:=by omega
 have Y:¬n=n+1+1+1:=by omega
 have e5:¬n+1=n+1+1+1:=by omega
 have e6:¬n+1+1=n+1+1+1:=by omega
 have e7:¬n=n+1+1+1+1:=by omega
 have e8:¬n+1=n+1+1+1+1:=by omega
 have e9:¬n+1+1=n+1+1+1+1:=by omega
 rw[nK [.cell 2 36] [] func78];simp only[go_sem,qM,E,G,J,O,S,Y,e5,e6,e7,e8,e9];refine⟨_,rfl,⟨?_,?_⟩,fun b hb=>?_⟩
 .simp[upd]
 .simp[upd]
 .simp only[upd]
  repeat' rw[su (by omega)]
structure Eo (σ:Store) (b:Nat) (s:Stance):Prop where
 j:σ b=some ⟨s.st.joints.flatMap cJoint,4,true⟩
 m:σ (b+1)=some ⟨s.st.members.flatMap cMember,3,true⟩
 l:σ (b+2)=some ⟨s.load.flatMap cI,1,true⟩
 x:σ (b+3)=some ⟨s.limits.flatMap cI,1,true⟩
abbrev DI(b:Nat)(s:Stance):List V:=[Sg s.name,.rs b 0 s.st.joints.length,.rs (b+1) 0 s.st.members.length,.rs (b+2) 0 s.load.length,.rs (b+3) 0 s.limits.length]
theorem Eo.frame{σ σ':Store}{b:Nat}{s:Stance}(h:Eo σ b s)(hs:∀c,b<=c->c<b+4->σ' c=σ c):Eo σ' b s :=
 ⟨by rw[hs _ (by omega) (by omega)];exact h.j,by rw[hs _ (by omega) (by omega)];exact h.m,by rw[hs _ (by omega) (by omega)];exact h.l,by rw[hs _ (by omega) (by omega)];exact h.x⟩
theorem aU(s:Stance)(h:okStance s)(Ci:Store)(n:Nat):∃σ,ev Ze Aa BN 29 [.agg (cStance s)] Ci n=some (.agg (DI (n+6) s),σ,n+10)/\Eo σ (n+6) s/\∀b,b<n->σ b=Ci b:=by
 have h1:=RU _ h.2.1;have h2:=fun σ n=>RS _ h.2.2.1 σ n
 have h3:=fun σ n=>RS _ h.2.2.2 σ n
 have O:¬n=n+1:=by omega
 have S:¬n=n+1+1:=by omega
 have Y:¬n+1=n+1+1:=by omega
 have e4:¬n+1=n+8:=by omega
 have e5:¬n+1+1=n+8:=by omega
 have e6:¬n=n+8:=by omega
 have e7:¬n=n+9:=by omega
 have e8:¬n+1=n+9:=by omega
 have e9:¬n+1+1=n+9:=by omega
 obtain⟨E,hs⟩:∃E,E=upd (upd (upd Ci n (some ⟨cStance s,0,true⟩)) (n+1) (some ⟨ES,0,true⟩)) (n+1+1) (some ⟨[Sg s.name,.nil,.nil,.nil,.nil],0,true⟩):=⟨_,rfl⟩;obtain⟨σ2,G,J,f1⟩:=h1 E (n+1+1+1);have q0:E n=some ⟨cStance s,0,true⟩:=by rw[hs];simp[upd,O,S]
 have q1:E (n+1)=some ⟨ES,0,true⟩:=by rw[hs];simp[upd,Y]
 have q2:E (n+1+1)=some ⟨[Sg s.name,.nil,.nil,.nil,.nil],0,true⟩:=by rw[hs];simp[upd]
 have g0:σ2 n=some ⟨cStance s,0,true⟩:=by rw[f1 n (by omega),q0]
 have g1:σ2 (n+1)=some ⟨ES,0,true⟩:=by rw[f1 (n+1) (by omega),q1]
 have g2:σ2 (n+1+1)=some ⟨[Sg s.name,.nil,.nil,.nil,.nil],0,true⟩:=by rw[f1 (n+1+1) (by omega),q2]
 have n1:n+1+1+1+5=n+8:=rfl;have n2:n+1+1+1+3=n+6:=rfl;rw[n1,n2]at G;rw[n2]at J;unfold arx at G;rw[nK [.cell 2 38] [] func29];simp only[go_sem,qM,O,S,Y,e4,e5,e6,e7,e8,e9,<- hs,G,h2,h3,g0,g1,g2,q0,q1,q2];refine⟨_,rfl,⟨?_,?_,?_,?_⟩,fun b hb=>?_⟩
 .simp only[upd]
  repeat' rw[su (by omega)]
  exact J.j
 .simp only[upd]
  repeat' rw[su (by omega)]
  exact J.m
 .simp[upd]
 .simp[upd]
 .simp only[upd]
  repeat' rw[su (by omega)]
  rw[f1 b (by omega),hs];simp only[upd]
  repeat' rw[su (by omega)]
abbrev V6(n:Nat):Stance×Nat->List V:=fun p=>DI (n+7+10*p.2) p.1
structure GY (σ:Store) (n:Nat) (xs:List Stance):Prop where
 b:σ n=some ⟨xs.zipIdx.flatMap (V6 n),5,true⟩
 s:∀j (h:j<xs.length),Eo σ (n+7+10*j) xs[j]
theorem aae(xs:List Stance)(h:okL 112 okStance xs)(Ci:Store)(n:Nat):∃σ,ev Ze Aa BN 69 [LL cStance xs] Ci n=some (.rs n 0 xs.length,σ,n+1+10*xs.length)/\GY σ n xs/\∀b,b<n->σ b=Ci b:=by
 have e1:(112:Int)*xs.length<=281474976710656:=by have:=h.2.1;omega
 have e2:(xs.length:Int)<=9223372036854775807:=by have:=h.2.1;omega
 have e3:(0:Int)<=(xs.length:Int):=by omega
 have hz:xs.zipIdx.length=xs.length:=List.length_zipIdx;rw[nK [.tmp 2] [] func69];simp only[go_sem,e1,e2,e3,xW];generalize hL:gI _ _=y;obtain⟨r,rfl,T',σ',rfl,a1,hs,hf,E⟩:=pJ hL xs.length (fun k st=>st.nx=n+1+10*k/\(st.σ n=some ⟨mix (V6 n) ES xs.zipIdx xs.zipIdx.length k,5,true⟩/\(∀j (h:j<xs.length),j<k->Eo st.σ (n+7+10*j) xs[j])/\∀b,b<n->st.σ b=Ci b)/\st.T 0=LL cStance xs/\st.T 3= .rs n 0 xs.length/\st.T 4=I k)
  (fun r=>∃T σ,r=(.exit 0,⟨T,σ,n+1+10*xs.length⟩)/\T 3= .rs n 0 xs.length/\σ n=some ⟨xs.zipIdx.flatMap (V6 n),5,true⟩/\(∀b,b<n->σ b=Ci b)/\∀j (h:j<xs.length),Eo σ (n+7+10*j) xs[j]) (by
   clear hL;rintro k ⟨T,σ,nx⟩ O ⟨hn,⟨G,E,J⟩,S,Y,h4⟩;simp only at hn G E J S Y h4;subst hn;have f1:(k:Int)<(xs.length:Int):=by omega
   have f2:=jL k;have f3:=Zl (n:=(k:Int)+1);have f4:=MK xs k O;have f5:=Gi xs;have f6:k*5+5<=xs.length*5:=by omega
   have f7:(mix (V6 n) ES xs.zipIdx xs.zipIdx.length k).length=xs.length*5:=by rw[jQ (c:=V6 n) (s:=5) (fun _=>rfl) (z:=ES) rfl xs.zipIdx k (by omega),hz]
   have f8:=jP (c:=V6 n) (s:=5) (fun _=>rfl) (z:=ES) rfl xs.zipIdx k (by omega);have f9:=ML xs k O;have fz:V6 n (xs.zipIdx[k]'(by omega))=DI (n+1+10*k+6) xs[k]:=by
    rw[List.getElem_zipIdx,yu,show n+1+10*k+6=n+7+10*k by omega]
   rw[fz]at f8;obtain⟨σ2,k1,s1,f10⟩:=aU xs[k] (h.1 xs[k] (zu O)) σ (n+1+10*k);have g0:=f10 n (by omega);rw[G]at g0;refine .inl ⟨_,by simp only[go_sem,qM,S,Y,h4,f1,f2,f3,f4,f5,f6,f7,f8,f9,k1,g0];rfl,?_⟩;simp only[go_sem,S,Y];refine⟨by omega,⟨fun j hj a7=>?_,fun b hb=>?_⟩,rfl⟩
   .by_cases a6:j<k
    .refine(E j hj a6).frame fun c h1 h2=>?_
     rw[aH,f10 c (by omega)]
    .have:j=k:=by omega
     subst this;rw[show n+1+10*j+6=n+7+10*j by omega]at s1;refine s1.frame fun c h1 h2=>?_
     rw[aH]
   .rw[aH,f10 b (by omega),J b hb]) (by
   clear hL;rintro ⟨T,σ,nx⟩ ⟨hn,⟨G,E,J⟩,S,Y,h4⟩;simp only at hn G E J S Y h4;subst hn;refine⟨_,by simp only[go_sem,S,h4,zk];rfl,by simp,_,_,rfl,?_,?_,J,fun j hj=>E j hj hj⟩
   .simp only[go_sem,Y]
   .rw[G,<- hz,jR]) (by
   simp only[go_sem,hz];refine⟨by rw[<- jO],fun j _ hj=>absurd hj (zU j),fun b hb=>?_⟩;rw[aH])
 simp only[go_sem,a1];exact⟨_,rfl,⟨hs,E⟩,hf⟩
theorem abh(f:V->Option (V×List Nat))(E:∀u,f (.sc u)=some (.sc u,[])):∀cells:List V,(∀v∈cells,∃u,v= .sc u)->CY f cells=some (cells,[])
 |[],_=>rfl
 |v :: vs,h=>by
  obtain⟨u,rfl⟩:=h v zQ;unfold CY;rw[E,abh f E vs fun w hw=>h w (zY _ hw)];rfl
theorem aaf(σ:Store)(d:Nat)(u:Value):own σ d (.sc u)=some (.sc u,[]):=by cases d<;>rfl
theorem agj{f:V->Option (V×List Nat)}{a b G O:List V}{J S:List Nat}(E:CY f a=some (G,J))(hb:CY f b=some (O,S)):CY f (a++b)=some (G++O,J++S):=by
 induction a generalizing G J with
 |nil=>simp only[CY,tC,t_]at E;obtain⟨rfl,rfl⟩:=E;exact hb
 |cons v a Y=>
  unfold CY at E
  split at E
  .rename_i t i a1 j e1 e2
   simp only[tC,t_]at E;obtain⟨rfl,rfl⟩:=E;rw[yY];unfold CY;rw[e1,Y e2];simp
  .cases E
theorem PL{α:Type}{f:V->Option (V×List Nat)}{c c':α->List V}{g:α->List Nat}:∀ {E:List α},(∀y∈E,CY f (c y)=some (c' y,g y))->CY f (E.flatMap c)=some (E.flatMap c',E.flatMap g)
 |[],_=>rfl
 |y :: E,h=>by
  rw[zO,zO,zO];exact agj (h y zQ) (PL fun z G=>h z (zY _ G))
theorem agk{σ:Store}{d b n s:Nat}{cells ts:List V}{ids:List Nat}(h:σ b=some ⟨cells,s,true⟩)(E:n*s=cells.length)(G:CY (own σ d) cells=some (ts,ids)):own σ (d+1) (.rs b 0 n)=some (.ts ts n,b :: ids):=by
 simp only[own,h];rw[sZ ⟨trivial,trivial,E⟩,G]
theorem iY{α:Type}{σ:Store}{d b s:Nat}{c:α->List V}{xs:List α}(h:σ b=some ⟨xs.flatMap c,s,true⟩)(hc:∀x,(c x).length=s)(hs:∀x,∀v∈c x,∃u,v= .sc u):own σ (d+1) (.rs b 0 xs.length)=some (LL c xs,[b]) :=
 agk h (dN hc xs).symm (abh _ (aaf σ d) _ fun v E=>by obtain⟨x,_,G⟩:=List.mem_flatMap.mp E;exact hs x v G)
theorem agl:∀x:Joint,∀v∈cJoint x,∃u,v= .sc u:=by intro x v E;simp only[zX,zJ,or_false]at E;rcases E with rfl|rfl|rfl|rfl<;>exact⟨_,rfl⟩
theorem PN:∀x:Member,∀v∈cMember x,∃u,v= .sc u:=by intro x v E;simp only[zX,zJ,or_false]at E;rcases E with rfl|rfl|rfl<;>exact⟨_,rfl⟩
theorem akh:∀x:TV.Move,∀v∈cMove x,∃u,v= .sc u:=by intro x v E;simp only[zX,zJ,or_false]at E;rcases E with rfl|rfl<;>exact⟨_,rfl⟩
theorem agm:∀x:Int,∀v∈cI x,∃u,v= .sc u:=by intro x v E;simp only[zX,zJ,or_false]at E;subst E;exact⟨_,rfl⟩
theorem Eo.own{σ:Store}{b:Nat}{s:Stance}(h:Eo σ b s)(d:Nat):CY (own σ (d+1)) (DI b s)=some (cStance s,[b,b+1,b+2,b+3]):=by
 unfold DI;simp only[CY,aaf,iY (d:=d) h.j (fun _=>rfl) agl,iY (d:=d) h.m (fun _=>rfl) PN,iY (d:=d) h.l (fun _=>rfl) agm,iY (d:=d) h.x (fun _=>rfl) agm];rfl
abbrev arz(n:Nat):Stance×Nat->List Nat:=fun p=>[n+7+10*p.2,n+7+10*p.2+1,n+7+10*p.2+2,n+7+10*p.2+3]
theorem agn{α β:Type}(c:α->List β)(xs:List α)(k:Nat):(xs.zipIdx k).flatMap (fun p=>c p.1)=xs.flatMap c:=by
 induction xs generalizing k with
 |nil=>rfl
 |cons x xs E=>rw[List.zipIdx_cons,zO,zO,E]
theorem GY.own{σ:Store}{n:Nat}{xs:List Stance}(h:GY σ n xs)(d:Nat):own σ (d+2) (.rs n 0 xs.length)=some (LL cStance xs,n :: xs.zipIdx.flatMap (arz n)):=by
 have G:=dN (c:=V6 n) (s:=5) (fun _=>rfl) xs.zipIdx;rw[List.length_zipIdx]at G;refine agk h.b G.symm ?_;have:=agn cStance xs 0;rw[<- this];refine PL fun p J=>?_
 obtain⟨s,i⟩:=p;have E:=List.mem_zipIdx J;have hi:i<xs.length:=by omega
 have hs:=h.s i hi;have O:xs[i]=s:=by rw[E.2.2];simp
 rw[O]at hs;exact hs.own d
theorem GY.frame{σ σ':Store}{n:Nat}{xs:List Stance}(h:GY σ n xs)(hs:∀c,n<=c->c<n+1+10*xs.length->σ' c=σ c):GY σ' n xs :=
 ⟨by rw[hs _ (by omega) (by omega)];exact h.b,fun j E=>(h.s j E).frame fun c G J=>hs c (by omega) (by omega)⟩
structure DJ (σ:Store) (n:Nat) (y:Yard):Prop where
 s:GY σ n y.stances
 m:σ (n+1+10*y.stances.length)=some ⟨y.moves.flatMap cMove,2,true⟩
def EU(n:Nat)(y:Yard):List V:=[.rs n 0 y.stances.length,.rs (n+1+10*y.stances.length) 0 y.moves.length,Bo y.strict]
def Ic(n:Nat)(y:Yard):List Nat:=(n :: y.stances.zipIdx.flatMap (arz n))++[n+1+10*y.stances.length]
theorem agp{n:Nat}{y:Yard}{b:Nat}(h:b∈Ic n y):n<=b/\b<n+2+10*y.stances.length:=by
 unfold Ic at h;rcases List.mem_append.mp h with h|h
 .rcases List.mem_cons.mp h with rfl|h
  .omega
  .obtain⟨p,E,hb⟩:=List.mem_flatMap.mp h
   have:=List.mem_zipIdx E;simp only[zX,zJ,or_false]at hb;omega
 .simp only[wF]at h;omega
theorem DJ.frame{σ σ':Store}{n:Nat}{y:Yard}(h:DJ σ n y)(hs:∀c,n<=c->c<n+2+10*y.stances.length->σ' c=σ c):DJ σ' n y :=
 ⟨h.s.frame fun c E G=>hs c E (by omega),by rw[hs _ (by omega) (by omega)];exact h.m⟩
theorem DJ.own{σ:Store}{n:Nat}{y:Yard}(h:DJ σ n y)(d:Nat):own σ (d+3) (.agg (EU n y))=some (.agg (cYard y),Ic n y):=by
 have E:=h.s.own d;have G:=iY (d:=d+1) h.m (fun _=>rfl) akh;unfold EU Ic;unfold TV.own;simp only[CY,E,G,aaf];simp
theorem DJ.strip{σ:Store}{n:Nat}{y:Yard}(h:DJ σ n y)(d:Nat):TV.strip σ (d+3) (.agg (EU n y))=some (.agg (cYard y),Ic n y):=iW 3 _ _ _ (h.own 0) _ (by omega)
theorem RV(y:Yard)(h:okYard y)(Ci:Store)(n:Nat):∃σ,ev Ze Aa BN 22 [.agg (cYard y)] Ci n=some (.agg (EU (n+3) y),σ,n+5+10*y.stances.length)/\DJ σ (n+3) y/\∀b,b<n->σ b=Ci b:=by
 have G:=fun σ n=>agi _ h.2.1 σ n
 have J:¬n=n+1:=by omega
 have O:¬n=n+1+1:=by omega
 have S:¬n+1=n+1+1:=by omega
 have e4:¬n+1=n+4+10*y.stances.length:=by omega
 have e5:¬n+1+1=n+4+10*y.stances.length:=by omega
 have e6:¬n=n+4+10*y.stances.length:=by omega
 obtain⟨E,hs⟩:∃E,E=upd (upd (upd Ci n (some ⟨cYard y,0,true⟩)) (n+1) (some ⟨[.nil,.nil,Bo false],0,true⟩)) (n+1+1) (some ⟨[.nil,.nil,Bo false],0,true⟩):=⟨_,rfl⟩;have Y:E n=some ⟨cYard y,0,true⟩:=by rw[hs];simp[upd,J,O]
 have q1:E (n+1)=some ⟨[.nil,.nil,Bo false],0,true⟩:=by rw[hs];simp[upd,S]
 have q2:E (n+1+1)=some ⟨[.nil,.nil,Bo false],0,true⟩:=by rw[hs];simp[upd]
 obtain⟨σ2,k1,s1,f1⟩:=aae _ h.1 E (n+1+1+1);have g0:σ2 n=some ⟨cYard y,0,true⟩:=by rw[f1 n (by omega),Y]
 have g1:σ2 (n+1)=some ⟨[.nil,.nil,Bo false],0,true⟩:=by rw[f1 (n+1) (by omega),q1]
 have g2:σ2 (n+1+1)=some ⟨[.nil,.nil,Bo false],0,true⟩:=by rw[f1 (n+1+1) (by omega),q2]
 have n1:n+1+1+1+1=n+4:=rfl;rw[n1]at k1;rw[nK [.cell 2 25] [] func22];simp only[go_sem,qM,J,O,S,e4,e5,e6,<- hs,k1,G,g0,g1,g2,Y,q1,q2];have z1:n+3+1+10*y.stances.length=n+4+10*y.stances.length:=by omega
 refine⟨_,by unfold EU;rw[z1,show n+4+10*y.stances.length+1=n+5+10*y.stances.length by omega],⟨s1.frame fun c h1 G=>?_,?_⟩,fun b hb=>?_⟩
 .simp only[upd]
  repeat' rw[su (by omega)]
 .rw[z1]
  simp[upd]
  repeat' rw[su (by omega)]
 .simp only[upd]
  repeat' rw[su (by omega)]
  rw[f1 b (by omega),hs];simp only[upd]
  repeat' rw[su (by omega)]
theorem arA(k:IntKind)(n:Int)(σ:Store):BL Ze 3 5 (.sc (.int k n)) σ=some (.sc (.int .u8 (IntKind.u8.wrap n))):=ZL u3 u8t
attribute [go_sem] arA
theorem wrap_u8{n:Int}(J:0<=n)(O:n<256):IntKind.u8.wrap n=n:=by
 unfold IntKind.wrap;have E:IntKind.u8.signed=false:=by decide
 have G:IntKind.u8.bits=8:=by decide
 simp only[E,G,uj];rw[su (by simp)];omega
theorem agq(k:Nat)(E:0<k)(Y:k<=100000000000000000):fn Ze conv ext 91 [I k]=some (Sg (mT k)):=by
 have c1:¬(k:Int)<=0:=by omega
 have k0:0<=k:=by omega
 rw[mW,nK [.tmp 2] [] func91];simp only[go_sem,c1];generalize J:gI _ _=y;obtain⟨r,rfl,T',σ',nx',rfl,O⟩:=je J (fun n s=>∃acc:ByteArray,s.T 0=I n/\s.T 3=Sg acc/\mTd n acc=mTd k ⟨#[]⟩/\acc.size+n<=k)
  (fun r=>∃T σ nx,r=(.exit 0,⟨T,σ,nx⟩)/\T 3=Sg (mTd k ⟨#[]⟩)) (by
   clear J;rintro n ⟨T,σ,nx⟩ ⟨acc,E,G,hm,hs⟩;simp only at E G
   by_cases hn:n=0
   .subst hn
    right;have f1:¬(0:Int)<((0:Nat):Int):=by omega
    refine⟨_,by simp only[go_sem,E,f1];rfl,by simp,_,_,_,rfl,?_⟩;simp only[go_sem,G];have S:mTd 0 acc=acc:=by unfold mTd;rw[dif_pos rfl]
    rw[<- hm,S]
   .left
    have f1:(0:Int)<(n:Int):=by omega
    have f2:((n:Int).tmod 10)=((n%10:Nat):Int):=by rw[xM (by omega)];omega
    have f3:((n:Int).tdiv 10)=((n / 10:Nat):Int):=by rw[yQ (by omega)];omega
    have f4:=Zl (n:=48+((n%10:Nat):Int));have f5:=wrap_u8 (n:=48+((n%10:Nat):Int)) (by omega) (by omega);have f6:=Zl (n:=((n / 10:Nat):Int));have f7:(0:Int)<=48+((n%10:Nat):Int):=by omega
    have f8:48+((n%10:Nat):Int)<256:=by omega
    have f9:(48+((n%10:Nat):Int)).toNat=48+n%10:=by omega
    have f10:(⟨#[UInt8.ofNat (48+n%10)]⟩:ByteArray).size+acc.size<=9223372036854775807:=by
     have:(⟨#[UInt8.ofNat (48+n%10)]⟩:ByteArray).size=1:=rfl;omega
    have f11:(10:Int)≠0:=by decide
    have f12:(#[UInt8.ofNat (48+n%10)]:Array UInt8).size+acc.size<=9223372036854775807:=f10;refine⟨_,by simp only[go_sem,E,G,f1,f2,f3,f4,f5,f6,f7,f8,f9,f10,f11,f12];rfl,n / 10,by omega,⟨#[UInt8.ofNat (48+n%10)]⟩++acc,?_,?_,?_,?_⟩
    .simp only[go_sem]
    .simp only[go_sem]
    .rw[<- hm]
     conv=>rhs;unfold mTd
     rw[dif_neg hn]
    .rw[VA]
     have:(⟨#[UInt8.ofNat (48+n%10)]⟩:ByteArray).size=1:=rfl;omega) k ⟨⟨#[]⟩,by simp only[go_sem],by simp only[go_sem],rfl,by simp[ByteArray.size]⟩
 have g1:(⟨#[109]⟩:ByteArray).size+(mTd k ⟨#[]⟩).size<=9223372036854775807:=by
  have:=afQ k ⟨#[]⟩;have e:(⟨#[109]⟩:ByteArray).size=1:=rfl;have e2:(⟨#[]⟩:ByteArray).size=0:=rfl;omega
 have g2:(#[109]:Array UInt8).size+(mTd k ⟨#[]⟩).size<=9223372036854775807:=g1;simp only[go_sem,O,g1,g2];rfl
def mJ1(k:Nat):Joint:=⟨mT k,((k+1:Nat):Int),((k+2:Nat):Int),(((k+3:Nat):Int).tmod 3==0)⟩
def mM1(k:Nat):Member:=⟨(k:Int),((k+1:Nat):Int),((k+2:Nat):Int)⟩
def FY{α:Type}(f:Nat->α)(s k n:Nat):List α:=(List.range n).map fun i=>f (k+s*i)
theorem agr{α:Type}(f:Nat->α)(s k n:Nat):(FY f s k n).length=n:=by simp[FY]
theorem adH{α:Type}(f:Nat->α)(s k n:Nat):FY f s k (n+1)=FY f s k n++[f (k+s*n)]:=by simp[FY,wX]
theorem RX{P Q:List V}{n:Nat}(E:P.length=n)(j:Nat)(v:V):(P++Q).set (n+j) v=P++Q.set j v:=by
 rw[yF _ _ (by omega),E];congr 2;omega
theorem PO{α:Type}{c:α->List V}{s:Nat}(hc:∀x,(c x).length=s)(f:Nat->α)(t k:Nat)(xs:List α)(i:Nat)(h:i<xs.length) :
  (FY f t k i++xs.drop i).flatMap c=(FY f t k i).flatMap c++(c xs[i]++(xs.drop (i+1)).flatMap c)/\((FY f t k i).flatMap c).length=i*s /\
  (FY f t k (i+1)++xs.drop (i+1)).flatMap c=(FY f t k i).flatMap c++(c (f (k+t*i))++(xs.drop (i+1)).flatMap c):=by
 refine⟨?_,?_,?_⟩
 .rw[zT,yU h,zO]
 .rw[dN hc,agr]
 .rw[adH,zT,zT,zF]
  simp
theorem aag{σ:Store}{nx b:Nat}(xs:List Joint)(hb:σ b=some ⟨xs.flatMap cJoint,4,true⟩)(hl:xs.length<=1000000000000)(k:Nat)(h0:0<k)(hk:k<=10000000000000000) :
  ∃σ',ev Ze Aa BN 140 [.rs b 0 xs.length,I k] σ nx=some (I ((k+4*xs.length:Nat):Int),σ',nx)/\σ' b=some ⟨(FY mJ1 4 k xs.length).flatMap cJoint,4,true⟩/\∀c,¬c=b->σ' c=σ c:=by
 rw[nK [.tmp 4] [] func140];simp only[go_sem];generalize S:gI _ _=y;obtain⟨r,rfl,T',σ',rfl,G,h2,h3⟩:=pJ S xs.length (fun i s=>s.nx=nx/\s.T 0= .rs b 0 xs.length/\s.T 1=I ((k+4*i:Nat):Int)/\s.T 5=I i/\s.σ b=some ⟨(FY mJ1 4 k i++xs.drop i).flatMap cJoint,4,true⟩/\∀c,¬c=b->s.σ c=σ c)
  (fun r=>∃T σ',r=(.exit 0,⟨T,σ',nx⟩)/\T 1=I ((k+4*xs.length:Nat):Int)/\σ' b=some ⟨(FY mJ1 4 k xs.length).flatMap cJoint,4,true⟩/\∀c,¬c=b->σ' c=σ c) (by
   clear S;rintro i ⟨T,τ,m⟩ Y ⟨hn,E,G,J,hs,O⟩;simp only at hn E G J hs O;subst hn;have f1:(i:Int)<(xs.length:Int):=by omega
   have f2:=jL i;have f3:=Zl (n:=(i:Int)+1);have t1:((k+4*i:Nat):Int)+1=((k+4*i+1:Nat):Int):=by omega
   have t2:((k+4*i+1:Nat):Int)+1=((k+4*i+2:Nat):Int):=by omega
   have t3:((k+4*i+2:Nat):Int)+1=((k+4*i+3:Nat):Int):=by omega
   have t4:((k+4*i+3:Nat):Int)+1=((k+4*i+4:Nat):Int):=by omega
   have w1:=Zl (n:=((k+4*i+1:Nat):Int));have w2:=Zl (n:=((k+4*i+2:Nat):Int));have w3:=Zl (n:=((k+4*i+3:Nat):Int));have w4:=Zl (n:=((k+4*i+4:Nat):Int));have m1:=agq (k+4*i) (by omega) (by omega);obtain⟨q1,q2,q3⟩:=PO (c:=cJoint) (s:=4) (fun _=>rfl) mJ1 4 k xs i Y;rw[q1]at hs;rw[q3];generalize (FY mJ1 4 k i).flatMap cJoint=P at *;generalize (xs.drop (i+1)).flatMap cJoint=Q at *;have p0:∀(R:List V) (v:V),(P++R).set (i*4) v=P++R.set 0 v:=fun R v=>RX q2 0 v
   have p1:∀(R:List V) (j:Nat) (v:V),(P++R).set (i*4+j) v=P++R.set j v:=fun R j v=>RX q2 j v
   have p2:∀R:List V,(P++R).length=i*4+R.length:=fun R=>by rw[zl,q2]
   have c0:i*4<i*4+(Q.length+1+1+1+1):=by omega
   have c1:i*4+1<i*4+(Q.length+1+1+1+1):=by omega
   have c2:i*4+2<i*4+(Q.length+1+1+1+1):=by omega
   have c3:i*4+3<i*4+(Q.length+1+1+1+1):=by omega
   have c4:(3:Int)≠0:=by decide
   refine .inl ⟨_,by simp only[go_sem,E,G,J,hs,f1,f2,f3,t1,t2,t3,t4,w1,w2,w3,w4,m1,p0,p1,p2,c0,c1,c2,c3,c4];rfl,?_⟩;simp only[go_sem,E];refine⟨by rw[show k+4*(i+1)=k+4*i+4 by omega],rfl,rfl,fun c hc=>?_⟩;rw[aG _ _ hc];exact O c hc) (by
   clear S;rintro ⟨T,τ,m⟩ ⟨hn,E,G,J,hs,O⟩;simp only at hn E G J hs O;subst hn;refine⟨_,by simp only[go_sem,E,J,zk];rfl,by simp,_,_,rfl,by simp only[go_sem,G],?_,O⟩;rw[hs,List.drop_length,zM]) (by
   simp only[go_sem];rw[hb];exact⟨by first|rfl|trivial,fun _ _=>trivial⟩)
 simp only[go_sem,G];exact⟨_,rfl,h2,h3⟩
theorem V7{σ:Store}{nx b:Nat}(xs:List Member)(hb:σ b=some ⟨xs.flatMap cMember,3,true⟩)(hl:xs.length<=1000000000000)(k:Nat)(h0:0<k)(hk:k<=10000000000000000) :
  ∃σ',ev Ze Aa BN 141 [.rs b 0 xs.length,I k] σ nx=some (I ((k+3*xs.length:Nat):Int),σ',nx)/\σ' b=some ⟨(FY mM1 3 k xs.length).flatMap cMember,3,true⟩/\∀c,¬c=b->σ' c=σ c:=by
 rw[nK [.tmp 4] [] func141];simp only[go_sem];generalize S:gI _ _=y;obtain⟨r,rfl,T',σ',rfl,G,h2,h3⟩:=pJ S xs.length (fun i s=>s.nx=nx/\s.T 0= .rs b 0 xs.length/\s.T 1=I ((k+3*i:Nat):Int)/\s.T 5=I i/\s.σ b=some ⟨(FY mM1 3 k i++xs.drop i).flatMap cMember,3,true⟩/\∀c,¬c=b->s.σ c=σ c)
  (fun r=>∃T σ',r=(.exit 0,⟨T,σ',nx⟩)/\T 1=I ((k+3*xs.length:Nat):Int)/\σ' b=some ⟨(FY mM1 3 k xs.length).flatMap cMember,3,true⟩/\∀c,¬c=b->σ' c=σ c) (by
   clear S;rintro i ⟨T,τ,m⟩ Y ⟨hn,E,G,J,hs,O⟩;simp only at hn E G J hs O;subst hn;have f1:(i:Int)<(xs.length:Int):=by omega
   have f2:=jL i;have f3:=Zl (n:=(i:Int)+1);have t1:((k+3*i:Nat):Int)+1=((k+3*i+1:Nat):Int):=by omega
   have t2:((k+3*i+1:Nat):Int)+1=((k+3*i+2:Nat):Int):=by omega
   have t3:((k+3*i+2:Nat):Int)+1=((k+3*i+3:Nat):Int):=by omega
   have w1:=Zl (n:=((k+3*i+1:Nat):Int));have w2:=Zl (n:=((k+3*i+2:Nat):Int));have w3:=Zl (n:=((k+3*i+3:Nat):Int));obtain⟨q1,q2,q3⟩:=PO (c:=cMember) (s:=3) (fun _=>rfl) mM1 3 k xs i Y;rw[q1]at hs;rw[q3];generalize (FY mM1 3 k i).flatMap cMember=P at *;generalize (xs.drop (i+1)).flatMap cMember=Q at *;have p0:∀(R:List V) (v:V),(P++R).set (i*3) v=P++R.set 0 v:=fun R v=>RX q2 0 v
   have p1:∀(R:List V) (j:Nat) (v:V),(P++R).set (i*3+j) v=P++R.set j v:=fun R j v=>RX q2 j v
   have p2:∀R:List V,(P++R).length=i*3+R.length:=fun R=>by rw[zl,q2]
   have c0:i*3<i*3+(Q.length+1+1+1):=by omega
   have c1:i*3+1<i*3+(Q.length+1+1+1):=by omega
   have c2:i*3+2<i*3+(Q.length+1+1+1):=by omega
   refine .inl ⟨_,by simp only[go_sem,E,G,J,hs,f1,f2,f3,t1,t2,t3,w1,w2,w3,p0,p1,p2,c0,c1,c2];rfl,?_⟩;simp only[go_sem,E];refine⟨by rw[show k+3*(i+1)=k+3*i+3 by omega],rfl,rfl,fun c hc=>?_⟩;rw[aG _ _ hc];exact O c hc) (by
   clear S;rintro ⟨T,τ,m⟩ ⟨hn,E,G,J,hs,O⟩;simp only at hn E G J hs O;subst hn;refine⟨_,by simp only[go_sem,E,J,zk];rfl,by simp,_,_,rfl,by simp only[go_sem,G],?_,O⟩;rw[hs,List.drop_length,zM]) (by
   simp only[go_sem];rw[hb];exact⟨by first|rfl|trivial,fun _ _=>trivial⟩)
 simp only[go_sem,G];exact⟨_,rfl,h2,h3⟩
theorem J3{σ:Store}{nx b:Nat}{xs:List Int}(hb:σ b=some ⟨xs.flatMap cI,1,true⟩)(E:xs.length<=1000000000000)(k:Nat)(O:k<=10000000000000000) :
  ∃σ',ev Ze Aa BN 33 [.rs b 0 xs.length,I k] σ nx=some (I ((k+xs.length:Nat):Int),σ',nx)/\∀c,¬c=b->σ' c=σ c:=by
 obtain⟨σ',G,_,J⟩:=VZ (nx:=nx) (Jr (d:=0) hb (by omega)) E k (by omega);refine⟨σ',by rw[G,show(k:Int)+(xs.length:Int)=((k+xs.length:Nat):Int) by omega],fun c hc=>J c (by simpa using hc)⟩
abbrev J4(b:Bool):List V:=[Bo b]
def G9(p:Nat->Bool)(n:Nat):List Int:=((List.range n).filter p).map fun(i:Nat)=>(i:Int)
theorem KU{p:Nat->Bool}{k:Nat}(h:p k=true):G9 p (k+1)=G9 p k++[(k:Int)]:=by simp[G9,wX,tZ,h]
theorem RY{p:Nat->Bool}{k:Nat}(h:p k=false):G9 p (k+1)=G9 p k:=by simp[G9,wX,tZ,h]
theorem Ie(p:Nat->Bool)(n:Nat):(G9 p n).length<=n:=by
 unfold G9;rw[zV];exact zL (List.length_filter_le _ _) (by simp)
def aki(E:List TV.Move)(i:Int)(k:Nat):Bool:=E.any fun m=>(m.fr==i) && (m.to==(k:Int))
theorem adI(n:Nat):rep n [Bo false]=(List.replicate n false).flatMap J4:=by
 induction n with
 |zero=>rfl
 |succ n E=>rw[gV,E,xg];rfl
theorem akj(xs:List Bool)(k:Nat)(b:Bool):(xs.flatMap J4).set k (Bo b)=(xs.set k b).flatMap J4:=by
 induction xs generalizing k with
 |nil=>rfl
 |cons x xs E=>
  cases k with
  |zero=>rfl
  |succ k=>
   show Bo x :: (xs.flatMap J4).set k (Bo b)=_;rw[E];rfl
theorem ah{α:Type}{xs:List α}{k:Nat}(h:k<xs.length):xs.take (k+1)=xs.take k++[xs[k]]:=by rw[yN,zy h];rfl
end Go.Proofs.YtkpdoehbhmipcaaGreat
namespace Go.Lp
def sm(f:Nat->Rat):Nat->Rat
 |0=>0
 |n+1=>sm f n+f n
theorem dL{f g:Nat->Rat}:∀ {n:Nat},(∀j,j<n->f j=g j)->sm f n=sm g n
 |0,_=>rfl
 |n+1,h=>by unfold sm;rw[dL fun j E=>h j (by omega),h n (by omega)]
theorem dM(f g:Nat->Rat):∀n,sm (fun j=>f j+g j) n=sm f n+sm g n
 |0=>by unfold sm;grind
 |n+1=>by unfold sm;rw[dM f g n];grind
theorem dG(f g:Nat->Rat):∀n,sm (fun j=>f j-g j) n=sm f n-sm g n
 |0=>by unfold sm;grind
 |n+1=>by unfold sm;rw[dG f g n];grind
theorem dK(a:Rat)(f:Nat->Rat):∀n,sm (fun j=>a*f j) n=a*sm f n
 |0=>by simp[sm]
 |n+1=>by unfold sm;rw[dK a f n];grind
theorem dF{f:Nat->Rat}:∀ {n:Nat},(∀j,j<n->f j=0)->sm f n=0
 |0,_=>rfl
 |n+1,h=>by unfold sm;rw[dF fun j E=>h j (by omega),h n (by omega)];grind
theorem dH{f:Nat->Rat}{k:Nat}:∀ {n:Nat},k<n->(∀j,j<n->j≠k->f j=0)->sm f n=f k
 |n+1,hk,h=>by
  unfold sm
  by_cases e:k=n
  .subst e
   rw[dF fun j E=>h j (by omega) (by omega)];grind
  .rw[dH (n:=n) (by omega) fun j E=>h j (by omega),h n (by omega) (by omega)];grind
theorem dJ{f:Nat->Rat}:∀ {n:Nat},(∀j,j<n->0<=f j)->0<=sm f n
 |0,_=>by simp[sm]
 |n+1,h=>by
  unfold sm;have E:=dJ (n:=n) fun j G=>h j (by omega)
  have J:=h n (by omega);grind
theorem abj(f:Nat->Nat->Rat)(n:Nat):∀m,sm (fun i=>sm (fun j=>f i j) n) m=sm (fun j=>sm (fun i=>f i j) m) n
 |0=>(dF (n:=n) fun j _=>rfl).symm
 |m+1=>by
  show sm _ m+_=_;rw[abj f n m,<- dM];rfl
structure Tab where
 e:Nat->Nat->Rat
 b:Nat->Rat
 B:Nat->Nat
def Sol(m n:Nat)(T:Tab)(x:Nat->Rat):Prop:=∀i,i<m->sm (fun j=>T.e i j*x j) n=T.b i
structure Ok (m n:Nat) (T:Tab):Prop where
 bn:∀i,i<m->T.B i<n
 un:∀i k,i<m->k<m->T.e i (T.B k)=if i=k then 1 else 0
 nb:∀i,i<m->0<=T.b i
def basic(m:Nat)(T:Tab)(j:Nat):Prop:=∃i,i<m/\T.B i=j
def piv(T:Tab)(r k:Nat):Tab where
 e i j:=if i=r then T.e r j / T.e r k else T.e i j-T.e i k*(T.e r j / T.e r k)
 b i:=if i=r then T.b r / T.e r k else T.b i-T.e i k*(T.b r / T.e r k)
 B i:=if i=r then k else T.B i
section
variable {m n:Nat} {T:Tab}
theorem Ok.inj(h:Ok m n T){i k:Nat}(hi:i<m)(G:k<m)(e:T.B i=T.B k):i=k:=by
 have E:=h.un i k hi G;have J:=h.un i i hi hi;rw[<- e,J]at E
 by_cases q:i=k
 .exact q
 .simp[q]at E
theorem RZ{r k:Nat}(G:r<m)(O:T.e r k≠0)(x:Nat->Rat):Sol m n (piv T r k) x↔Sol m n T x:=by
 have row:sm (fun j=>T.e r j / T.e r k*x j) n=sm (fun j=>T.e r j*x j) n / T.e r k:=by
  rw[vO,Rat.mul_comm,<- dK];exact dL fun j _=>by grind
 have other:∀i,i≠r->sm (fun j=>(piv T r k).e i j*x j) n=sm (fun j=>T.e i j*x j) n-T.e i k*sm (fun j=>T.e r j / T.e r k*x j) n:=fun i hi=>by
  rw[<- dK,<- dG];refine dL fun j _=>?_
  simp only[piv,su hi];grind
 constructor
 .intro h i hi
  have E:=h r G;simp only[piv,sZ]at E;rw[row]at E
  by_cases e:i=r
  .subst e
   grind
  .have J:=h i hi
   rw[other i e,row,E]at J;simp only[piv,su e]at J;grind
 .intro h i hi
  have E:=h r G
  by_cases e:i=r
  .subst e
   simp only[piv,sZ];rw[row,E]
  .rw[other i e,row,E,h i hi]
   simp only[piv,su e]
theorem ani(h:Ok m n T){r s:Nat}(hr:r<m)(hs:s<n)(hp:0<T.e r s)(J:∀i,i<m->0<T.e i s->T.b r*T.e i s<=T.b i*T.e r s):Ok m n (piv T r s):=by
 have a1:T.e r s≠0:=by grind
 refine⟨fun i hi=>?_,fun i k hi hk=>?_,fun i hi=>?_⟩
 .simp only[piv]
  split
  .exact hs
  .exact h.bn i hi
 .have u1:=h.un i k hi hk
  have S:=h.un r k hr hk;simp only[piv]
  by_cases O:k=r
  .subst O
   rw[sZ rfl]
   by_cases E:i=k
   .rw[sZ E,sZ E];grind
   .rw[su E,su E];grind
  .rw[su O]
   rw[su (zD O)]at S
   by_cases E:i=r
   .subst E
    rw[sZ rfl,su (zD O),S];grind
   .rw[su E,u1,S];grind
 .simp only[piv]
  have b0:=h.nb r hr;have hq:0<=T.b r / T.e r s:=by
   rw[vO];exact xX b0 (w_ (Rat.inv_pos.mpr hp))
  by_cases E:i=r
  .rw[sZ E];exact hq
  .rw[su E]
   have bi:=h.nb i hi
   by_cases G:0<T.e i s
   .have Y:=J i hi G
    have h2:T.e i s*(T.b r / T.e r s)*T.e r s=T.b r*T.e i s:=by grind
    have h3:T.e i s*(T.b r / T.e r s)<=T.b i:=Rat.le_of_mul_le_mul_right (by rw[h2];exact Y) hp;grind
   .have Y:T.e i s<=0:=Rat.not_lt.mp G
    have h2:T.e i s*(T.b r / T.e r s)<=0:=by
     have:=Rat.mul_le_mul_of_nonneg_right Y hq
     rwa [Rat.zero_mul]at this
    grind
def Bh(m:Nat)(T:Tab)(j:Nat):Rat:=sm (fun i=>if T.B i=j then T.b i else 0) m
theorem Ig(h:Ok m n T){i:Nat}(hi:i<m):Bh m T (T.B i)=T.b i:=by
 unfold Bh;rw[dH hi fun k G E=>su fun e=>E (h.inj G hi e)];simp
theorem rE{j:Nat}(h:¬basic m T j):Bh m T j=0:=dF fun i hi=>su fun e=>h ⟨i,hi,e⟩
theorem rD(h:Ok m n T)(j:Nat):0<=Bh m T j:=dJ fun i hi=>by
 split
 .exact h.nb i hi
 .exact uZ
theorem J5(h:Ok m n T){i:Nat}(hi:i<m)(x:Nat->Rat):sm (fun j=>T.e i j*x j) n=x (T.B i)+sm (fun j=>if sm (fun k=>if T.B k=j then(1:Rat)else 0) m=0 then T.e i j*x j else 0) n:=by
 have hb:∀j,basic m T j->sm (fun k=>if T.B k=j then(1:Rat)else 0) m=1:=by
  rintro j ⟨k,G,rfl⟩;rw[dH G fun q S J=>su fun e=>J (h.inj S G e)];simp
 have Y:sm (fun j=>T.e i j*x j) n=sm (fun j=>if j=T.B i then x j else 0) n+sm (fun j=>if sm (fun k=>if T.B k=j then(1:Rat)else 0) m=0 then T.e i j*x j else 0) n:=by
  rw[<- dM];refine dL fun j hj=>?_
  by_cases E:basic m T j
  .have O:¬((1:Rat)=0):=by decide
   rw[hb j E,su O];obtain⟨k,G,rfl⟩:=E;have u:=h.un i k hi G
   by_cases e:i=k
   .subst e;rw[sZ rfl]at u;rw[sZ rfl,u];grind
   .rw[su e]at u
    rw[su fun q=>e (h.inj G hi q).symm,u];grind
  .rw[dF fun k G=>su fun e=>E ⟨k,G,e⟩,sZ rfl,su fun e=>E ⟨i,hi,e.symm⟩];grind
 rw[Y,dH (h.bn i hi) fun j _ J=>su J];simp
theorem rC(h:Ok m n T):Sol m n T (Bh m T):=fun i hi=>by
 rw[J5 h hi,Ig h hi,dF fun j S=>?_]
 .grind
 .split
  .rename_i G
   rw[rE,uJ];rintro ⟨k,J,rfl⟩;rw[dH J fun q O E=>su fun e=>E (h.inj O J e)]at G;simp at G
  .rfl
theorem aah(h:Ok m n T){x:Nat->Rat}(Y:Sol m n T x)(O:∀j,j<n->¬basic m T j->x j=0):∀j,j<n->x j=Bh m T j:=fun j hj=>by
 by_cases hb:basic m T j
 .obtain⟨i,hi,rfl⟩:=hb
  have h1:=Y i hi;rw[J5 h hi,dF fun q G=>?_]at h1
  .rw[Ig h hi];grind
  .split
   .rename_i E
    rw[O q G,uJ];rintro ⟨k,S,rfl⟩;rw[dH S fun q G J=>su fun e=>J (h.inj G S e)]at E;simp at E
   .rfl
 .rw[rE hb];exact O j hj hb
def gm(m:Nat)(T:Tab)(c:Nat->Rat)(j:Nat):Rat:=c j-sm (fun i=>T.e i j*c (T.B i)) m
def ob(n:Nat)(c x:Nat->Rat):Rat:=sm (fun j=>c j*x j) n
def zz(m:Nat)(T:Tab)(c:Nat->Rat):Rat:=sm (fun i=>T.b i*c (T.B i)) m
theorem jG{c x:Nat->Rat}(E:Sol m n T x):ob n c x=zz m T c+ob n (gm m T c) x:=by
 have G:ob n (gm m T c) x=ob n c x-sm (fun j=>sm (fun i=>T.e i j*c (T.B i)) m*x j) n:=by
  unfold ob;rw[<- dG];exact dL fun j _=>by unfold gm;grind
 have J:sm (fun j=>sm (fun i=>T.e i j*c (T.B i)) m*x j) n=zz m T c:=by
  have:sm (fun j=>sm (fun i=>T.e i j*c (T.B i)) m*x j) n=sm (fun j=>sm (fun i=>(T.e i j*x j)*c (T.B i)) m) n:=dL fun j _=>by
   rw[Rat.mul_comm,<- dK];exact dL fun i _=>by grind
  rw[this,<- abj];unfold zz;refine dL fun i hi=>?_
  rw[<- E i hi,Rat.mul_comm,<- dK];exact dL fun j _=>by grind
 rw[G,J];grind
theorem OO(h:Ok m n T)(c:Nat->Rat){k:Nat}(E:k<m):gm m T c (T.B k)=0:=by
 unfold gm;rw[dH E fun i hi G=>by rw[h.un i k hi E,su G];grind];rw[h.un k k E E,sZ rfl];grind
theorem V9(h:Ok m n T)(c:Nat->Rat):ob n c (Bh m T)=zz m T c:=by
 rw[jG (rC h)];have:ob n (gm m T c) (Bh m T)=0:=dF fun j _=>by
  by_cases hb:basic m T j
  .obtain⟨i,hi,rfl⟩:=hb
   rw[OO h c hi,Rat.zero_mul]
  .rw[rE hb,uJ]
 rw[this];grind
end
end Go.Lp
namespace Go.Lp
def Zr(d:Nat)(w:Nat->Rat):Prop:=∀q,q<d->w q=0
def Lp:Nat->(Nat->Rat)->Prop
 |0,_=>False
 |d+1,w=>Lp d w\/(Zr d w/\0<w d)
def Nn(d:Nat)(w:Nat->Rat):Prop:=Lp d w\/Zr d w
theorem Zr.succ{d:Nat}{w:Nat->Rat}:Zr (d+1) w↔Zr d w/\w d=0 :=
 ⟨fun h=>⟨fun q G=>h q (by omega),h d (by omega)⟩,fun h q G=>by
  rcases yC (yA G)with E|E
  .exact h.1 q E
  .rw[E];exact h.2⟩
theorem Lp.Gl{w:Nat->Rat}:∀ {d:Nat},Lp d w->¬Zr d w
 |0,h,_=>h
 |d+1,h,E=>by
  have E:=Zr.succ.mp E;rcases h with h|⟨_,h⟩
  .exact h.Gl E.1
  .have:=E.2;grind
theorem abl(w:Nat->Rat):∀d,Lp d w\/Zr d w\/Lp d (fun q=> -w q)
 |0=> .inr (.inl fun q E=>by omega)
 |d+1=>by
  rcases abl w d with h|h|h
  .exact .inl (.inl h)
  .by_cases G:w d=0
   .exact .inr (.inl (Zr.succ.mpr ⟨h,G⟩))
   .by_cases J:0<w d
    .exact .inl (.inr ⟨h,J⟩)
    .exact .inr (.inr (.inr ⟨fun q E=>by show -w q=0;rw[h q E];rfl,by show 0< -w d;grind⟩))
  .exact .inr (.inr (.inl h))
theorem Lp.congr{w v:Nat->Rat}:∀ {d:Nat},(∀q,q<d->w q=v q)->Lp d w->Lp d v
 |0,_,h=>h
 |d+1,e,h=>by
  rcases h with h|⟨G,J⟩
  .exact .inl (Lp.congr (fun q E=>e q (by omega)) h)
  .exact .inr ⟨fun q E=>by rw[<- e q (by omega)];exact G q E,by rw[<- e d (by omega)];exact J⟩
theorem Zr.congr{d:Nat}{w v:Nat->Rat}(e:∀q,q<d->w q=v q)(h:Zr d w):Zr d v:=fun q E=>by rw[<- e q E];exact h q E
theorem Zr.add{d:Nat}{w v:Nat->Rat}(h:Zr d w)(G:Zr d v):Zr d fun q=>w q+v q:=fun q E=>by
 show w q+v q=0;rw[h q E,G q E];grind
theorem Lp.Jt{w v:Nat->Rat}:∀ {d:Nat},Lp d w->Zr d v->Lp d fun q=>w q+v q
 |d+1,h,E=>by
  have E:=Zr.succ.mp E;rcases h with h|⟨G,J⟩
  .exact .inl (h.Jt E.1)
  .exact .inr ⟨G.add E.1,by show 0<w d+v d;rw[E.2];grind⟩
theorem Lp.add{w v:Nat->Rat}:∀ {d:Nat},Lp d w->Lp d v->Lp d fun q=>w q+v q
 |d+1,h,G=>by
  rcases h with h|⟨J,S⟩<;>rcases G with G|⟨E,O⟩
  .exact .inl (h.add G)
  .exact .inl (h.Jt E)
  .exact .inl ((G.Jt J).congr fun q _=>by grind)
  .exact .inr ⟨J.add E,by show 0<w d+v d;grind⟩
theorem Nn.add{d:Nat}{w v:Nat->Rat}(h:Nn d w)(E:Nn d v):Nn d fun q=>w q+v q:=by
 rcases h with h|h<;>rcases E with E|E
 .exact .inl (h.add E)
 .exact .inl (h.Jt E)
 .exact .inl ((E.Jt h).congr fun q _=>by grind)
 .exact .inr (h.add E)
theorem Lp.ags{d:Nat}{w v:Nat->Rat}(h:Lp d w)(E:Nn d v):Lp d fun q=>w q+v q:=by
 rcases E with E|E
 .exact h.add E
 .exact h.Jt E
theorem Lp.smul{w:Nat->Rat}{a:Rat}(E:0<a):∀ {d:Nat},Lp d w->Lp d fun q=>a*w q
 |d+1,h=>by
  rcases h with h|⟨G,J⟩
  .exact .inl (h.smul E)
  .exact .inr ⟨fun q O=>by show a*w q=0;rw[G q O];grind,Rat.mul_pos E J⟩
theorem Zr.smul{d:Nat}{w:Nat->Rat}(a:Rat)(h:Zr d w):Zr d fun q=>a*w q:=fun q E=>by show a*w q=0;rw[h q E];grind
theorem Nn.smul{d:Nat}{w:Nat->Rat}{a:Rat}(G:0<=a)(h:Nn d w):Nn d fun q=>a*w q:=by
 by_cases E:a=0
 .subst E;exact .inr fun q _=>by show 0*w q=0;grind
 .rcases h with h|h
  .exact .inl (h.smul (by grind))
  .exact .inr (h.smul a)
theorem PS{d:Nat}{w:Nat->Rat}(h:¬Lp d w):Nn d fun q=> -w q:=by
 rcases abl w d with E|E|E
 .exact absurd E h
 .exact .inr fun q G=>by show -w q=0;rw[E q G];rfl
 .exact .inl E
theorem Ju{d:Nat}{w:Nat->Rat}(h:Nn d fun q=> -w q):¬Lp d w:=fun E=>by
 have G:=E.ags h;exact G.Gl fun q _=>by show w q+ -w q=0;grind
theorem Nn.sum{d:Nat}{f:Nat->Nat->Rat}:∀ {n:Nat},(∀j,j<n->Nn d fun q=>f q j)->Nn d fun q=>sm (f q) n
 |0,_=> .inr fun q _=>rfl
 |n+1,h=>(Nn.sum fun j E=>h j (by omega)).add (h n (by omega))
theorem anj{d n:Nat}{f:Nat->Nat->Rat}(h:Lp d fun q=>sm (f q) n):∃j,j<n/\Lp d fun q=>f q j:=by
 refine zf fun hn=>Ju ?_ h
 have E:Nn d fun q=>sm (fun j=> -f q j) n:=Nn.sum fun j G=>PS fun J=>hn ⟨j,G,J⟩
 refine E.imp (Lp.congr fun q _=>?_) (Zr.congr fun q _=>?_)
 all_goals
  show sm (fun j=> -f q j) n= -sm (f q) n;have:=dK (-1) (f q) n;rw[show(fun j=> -f q j)=fun j=> -1*f q j by funext j;grind,this];grind
def gv(m:Nat)(T:Tab)(C:Nat->Nat->Rat)(j:Nat):Nat->Rat:=fun q=>gm m T (C q) j
structure Enters (m n d:Nat) (C:Nat->Nat->Rat) (Fr:Nat->Prop) (T:Tab) (s:Nat):Prop where
 lt:s<n
 fr:Fr s
 non:¬basic m T s
 pos:Lp d (gv m T C s)
 low:∀j,j<s->Fr j->¬basic m T j->¬Lp d (gv m T C j)
structure Leaves (m:Nat) (T:Tab) (s r:Nat):Prop where
 lt:r<m
 pos:0<T.e r s
 low:∀i,i<m->0<T.e i s->T.b r*T.e i s<=T.b i*T.e r s
 tie:∀i,i<m->0<T.e i s->T.b r*T.e i s=T.b i*T.e r s->T.B r<=T.B i
def Step(m n d:Nat)(C:Nat->Nat->Rat)(Fr:Nat->Prop)(T T':Tab):Prop:=∃s r,Enters m n d C Fr T s/\Leaves m T s r/\T'=piv T r s
section
variable {m n d:Nat} {C:Nat->Nat->Rat} {Fr:Nat->Prop}
theorem PU{T:Tab}(h:Ok m n T){r s:Nat}(S:r<m)(hs:s<n)(E:Ok m n (piv T r s))(hp:0<T.e r s)(c:Nat->Rat):zz m (piv T r s) c=zz m T c+T.b r / T.e r s*gm m T c s:=by
 have O:T.e r s≠0:=by grind
 rw[<- V9 E c,jG ((RZ S O _).mp (rC E))];congr 1;have Y:(piv T r s).B r=s:=by simp[piv]
 have hb:Bh m (piv T r s) s=T.b r / T.e r s:=by
  have:=Ig E S;rw[Y]at this;rw[this];simp[piv]
 unfold ob;rw[dH hs fun j hj G=>?_,hb,Rat.mul_comm]
 by_cases J:basic m T j
 .obtain⟨i,hi,rfl⟩:=J
  rw[OO h c hi,Rat.zero_mul]
 .rw[rE,uJ]
  rintro ⟨i,hi,e⟩;simp only[piv]at e
  split at e
  .exact G e.symm
  .exact J ⟨i,hi,e⟩
theorem r_{T:Tab}{r s:Nat}(G:r<m)(j:Nat):basic m (piv T r s) j↔j=s\/∃i,i<m/\i≠r/\T.B i=j:=by
 constructor
 .rintro ⟨i,hi,e⟩
  simp only[piv]at e
  split at e
  .exact .inl e.symm
  .rename_i E;exact .inr ⟨i,hi,E,e⟩
 .rintro (rfl|⟨i,hi,E,e⟩)
  .exact⟨r,G,by simp[piv]⟩
  .exact⟨i,hi,by simp[piv,E,e]⟩
theorem agt{T:Tab}(h:Ok m n T){r s:Nat}(O:r<m)(E:T.b r=0)(j:Nat):Bh m (piv T r s) j=Bh m T j:=by
 unfold Bh;refine dL fun i hi=>?_
 by_cases e:i=r
 .subst e
  have G:(piv T i s).b i=0:=by
   simp only[piv,if_true,E];rw[vO];grind
  rw[G,E];simp
 .have G:(piv T r s).b i=T.b i:=by
   simp only[piv,su e,E];rw[vO];grind
  have J:(piv T r s).B i=T.B i:=by simp only[piv,su e]
  rw[G,J]
def dir(m:Nat)(T:Tab)(s:Nat)(j:Nat):Rat:=(if j=s then 1 else 0) - sm (fun i=>if T.B i=j then T.e i s else 0) m
theorem MW{T:Tab}{s:Nat}(hs:¬basic m T s):dir m T s s=1:=by
 unfold dir;rw[sZ rfl,dF fun i hi=>su fun e=>hs ⟨i,hi,e⟩];grind
theorem V_{T:Tab}(h:Ok m n T){s:Nat}(hs:¬basic m T s){i:Nat}(hi:i<m):dir m T s (T.B i)= -T.e i s:=by
 unfold dir;rw[su fun e=>hs ⟨i,hi,e⟩,dH hi fun k G E=>su fun e=>E (h.inj G hi e),sZ rfl];grind
theorem oP{T:Tab}{s j:Nat}(G:¬basic m T j)(E:j≠s):dir m T s j=0:=by
 unfold dir;rw[su E,dF fun i hi=>su fun e=>G ⟨i,hi,e⟩];grind
theorem Ih{T:Tab}(h:Ok m n T){s:Nat}(hs:s<n)(G:¬basic m T s)(a:Rat):Sol m n T fun j=>Bh m T j+a*dir m T s j:=fun i hi=>by
 have O:sm (fun j=>T.e i j*(Bh m T j+a*dir m T s j)) n=sm (fun j=>T.e i j*Bh m T j) n+a*sm (fun j=>T.e i j*dir m T s j) n:=by
  rw[<- dK,<- dM];exact dL fun j _=>by grind
 have S:sm (fun j=>T.e i j*dir m T s j) n=0:=by
  have q:sm (fun j=>T.e i j*dir m T s j) n=sm (fun j=>if j=s then T.e i j else 0) n-sm (fun j=>if j=T.B i then T.e i s else 0) n:=by
   rw[<- dG];refine dL fun j Y=>?_
   by_cases hb:basic m T j
   .obtain⟨k,J,rfl⟩:=hb
    rw[V_ h G J,h.un i k hi J,su fun e=>G ⟨k,J,e⟩]
    by_cases e:i=k
    .subst e;rw[sZ rfl,sZ rfl];grind
    .rw[su e,su fun q=>e (h.inj J hi q).symm];grind
   .have E:¬j=T.B i:=fun e=>hb ⟨i,hi,e.symm⟩
    by_cases e:j=s
    .subst e;rw[MW hb,sZ rfl,su E];grind
    .rw[oP hb e,su e,su E];grind
  rw[q,dH hs fun j _ E=>su E,dH (h.bn i hi) fun j _ E=>su E];simp only[if_true];grind
 rw[O,rC h i hi,S];grind
end
end Go.Lp
namespace Go.Lp
section
variable {m n d:Nat} {C:Nat->Nat->Rat} {Fr:Nat->Prop}
theorem Step.ok{T T':Tab}(h:Ok m n T)(hs:Step m n d C Fr T T'):Ok m n T':=by
 obtain⟨s,r,G,E,rfl⟩:=hs;exact ani h E.lt G.lt E.pos fun i hi J=>E.low i hi J
structure Chain (m n d:Nat) (C:Nat->Nat->Rat) (Fr:Nat->Prop) (f:Nat->Tab) (s r:Nat->Nat) (a b:Nat):Prop where
 ok:∀i,a<=i->i<=b->Ok m n (f i)
 en:∀i,a<=i->i<b->Enters m n d C Fr (f i) (s i)
 lv:∀i,a<=i->i<b->Leaves m (f i) (s i) (r i)
 nx:∀i,a<=i->i<b->f (i+1)=piv (f i) (r i) (s i)
variable {f:Nat->Tab} {s r:Nat->Nat} {a b:Nat}
def zv(m:Nat)(T:Tab)(C:Nat->Nat->Rat):Nat->Rat:=fun q=>zz m T (C q)
theorem Chain.mono(h:Chain m n d C Fr f s r a b){i j:Nat}(ha:a<=i)(J:i<=j)(hb:j<=b):Nn d fun q=>zv m (f j) C q-zv m (f i) C q:=by
 induction j with
 |zero=>obtain rfl:i=0:=by omega
        exact .inr fun q _=>by show _ - _=_;grind
 |succ j O=>
  by_cases e:i=j+1
  .subst e;exact .inr fun q _=>by show _ - _=_;grind
  .have S:=O (by omega) (by omega)
   have E:=h.ok j (by omega) (by omega);have G:=h.ok (j+1) (by omega) (by omega);have en:=h.en j (by omega) (by omega);have lv:=h.lv j (by omega) (by omega);rw[h.nx j (by omega) (by omega)]at G⊢;have Y:0<=(f j).b (r j) / (f j).e (r j) (s j):=by
    rw[vO];exact xX (E.nb _ lv.lt) (w_ (Rat.inv_pos.mpr lv.pos))
   have h2:=Nn.smul (d:=d) (w:=gv m (f j) C (s j)) Y (.inl en.pos);have h3:=S.add h2;refine h3.imp (Lp.congr fun q _=>?_) (Zr.congr fun q _=>?_)
   all_goals
    have:=PU E lv.lt en.lt G lv.pos (C q);unfold zv gv;rw[this];grind
theorem Chain.flat(h:Chain m n d C Fr f s r a b)(S:Zr d fun q=>zv m (f b) C q-zv m (f a) C q){i:Nat}(E:a<=i)(hb:i<b):(f i).b (r i)=0:=by
 have G:=h.ok i E (by omega);have J:=h.ok (i+1) (by omega) (by omega);have en:=h.en i E hb;have lv:=h.lv i E hb;refine zf fun h0=>?_
 have O:0<(f i).b (r i) / (f i).e (r i) (s i):=by
  rw[vO];have:=G.nb _ lv.lt;exact Rat.mul_pos (by grind) (Rat.inv_pos.mpr lv.pos)
 have Y:=h.mono (zq a) E (by omega);have h2:=h.mono (i:=i+1) (j:=b) (by omega) (by omega) (zq _);have h3:=(Lp.smul (d:=d) (w:=gv m (f i) C (s i)) O en.pos).ags (Y.add h2);refine h3.Gl (S.congr fun q _=>?_);rw[h.nx i E hb]at J⊢;have:=PU G lv.lt en.lt J lv.pos (C q);unfold zv gv at *;rw[this];grind
theorem Chain.still(h:Chain m n d C Fr f s r a b)(E:Zr d fun q=>zv m (f b) C q-zv m (f a) C q){i:Nat}(J:a<=i)(hb:i<=b)(j:Nat):Bh m (f i) j=Bh m (f a) j:=by
 induction i with
 |zero=>obtain rfl:a=0:=by omega
        rfl
 |succ i G=>
  by_cases e:a=i+1
  .rw[e]
  .rw[h.nx i (by omega) (by omega),agt (h.ok i (by omega) (by omega)) (h.lv i (by omega) (by omega)).lt (h.flat E (by omega) (by omega))]
   exact G (by omega) (by omega)
theorem Chain.Wh(h:Chain m n d C Fr f s r a b){j:Nat}(E:∀i,a<=i->i<b->s i≠j){i k:Nat}(ha:a<=i)(O:i<=k)(hb:k<=b)(J:¬basic m (f i) j):¬basic m (f k) j:=by
 induction k with
 |zero=>obtain rfl:i=0:=by omega
        exact J
 |succ k S=>
  by_cases e:i=k+1
  .rw[<- e];exact J
  .have Y:=S (by omega) (by omega)
   rw[h.nx k (by omega) (by omega),r_ (h.lv k (by omega) (by omega)).lt];rintro (G|⟨q,hq,_,G⟩)
   .exact E k (by omega) (by omega) G.symm
   .exact Y ⟨q,hq,G⟩
theorem Chain.MX(h:Chain m n d C Fr f s r a b){j:Nat}(E:∀i,a<=i->i<b->(f i).B (r i)≠j){i k:Nat}(ha:a<=i)(O:i<=k)(hb:k<=b)(J:basic m (f i) j):basic m (f k) j:=by
 induction k with
 |zero=>obtain rfl:i=0:=by omega
        exact J
 |succ k S=>
  by_cases e:i=k+1
  .rw[<- e];exact J
  .have Y:=S (by omega) (by omega)
   rw[h.nx k (by omega) (by omega),r_ (h.lv k (by omega) (by omega)).lt];obtain⟨q,hq,G⟩:=Y;refine .inr ⟨q,hq,fun e=>?_,G⟩;rw[e]at G;exact E k (by omega) (by omega) G
theorem greatest{p:Nat->Prop}{N:Nat}(G:∀j,p j->j<N){j:Nat}(J:p j):∃t,p t/\∀k,p k->k<=t:=by
 induction N generalizing j with
 |zero=>exact absurd (G j J) (by omega)
 |succ N O=>
  by_cases h:p N
  .exact⟨N,h,fun k E=>by have:=G k E;omega⟩
  .exact O (fun k E=>by
    have:=G k E;have:k≠N:=fun e=>h (e ▸ E)
    omega) J
theorem Jv(h:Chain m n d C Fr f s r a b){i k:Nat}(J:a<=i)(E:i<=k)(hb:k<=b)(x:Nat->Rat):Sol m n (f k) x↔Sol m n (f i) x:=by
 induction k with
 |zero=>obtain rfl:i=0:=by omega
        exact Iff.rfl
 |succ k G=>
  by_cases e:i=k+1
  .rw[<- e]
  .have lv:=h.lv k (by omega) (by omega)
   have O:=lv.pos;rw[h.nx k (by omega) (by omega),RZ lv.lt (by grind)];exact G (by omega) (by omega)
theorem agu(h:Chain m n d C Fr f s r a b)(h6:a<b)(c0:∀j,j<n->(basic m (f a) j↔basic m (f b) j)):False:=by
 have a7:∀i,a<=i->i<=b->∀j,basic m (f i) j->j<n:=fun i ha hb j S=>by
  obtain⟨q,hq,rfl⟩:=S;exact(h.ok i ha hb).bn q hq
 have b5:∀j,(basic m (f a) j↔basic m (f b) j):=fun j=>
  ⟨fun S=>(c0 j (a7 a (zq _) (by omega) j S)).mp S,fun S=>(c0 j (a7 b (by omega) (zq _) j S)).mpr S⟩
 have c2:=h.ok a (zq _) (by omega);have c3:=h.ok b (by omega) (zq _);have b6:∀j,j<n->Bh m (f b) j=Bh m (f a) j:=aah c2 ((Jv h (zq _) (by omega) (zq _) _).mp (rC c3)) fun j _ S=>rE fun hb=>S ((b5 j).mpr hb)
 have hz:Zr d fun q=>zv m (f b) C q-zv m (f a) C q:=fun q _=>by
  show zz m (f b) (C q) - zz m (f a) (C q)=0;rw[<- V9 c3,<- V9 c2];have:ob n (C q) (Bh m (f b))=ob n (C q) (Bh m (f a)):=dL fun j S=>by rw[b6 j S]
  rw[this];grind
 obtain⟨t,⟨u,G,b7,c4⟩,b4⟩:=greatest (p:=fun j=>∃i,a<=i/\i<b/\s i=j) (N:=n) (fun j ⟨i,h1,h2,h3⟩=>h3 ▸ (h.en i h1 h2).lt) (j:=s a) ⟨a,zq _,h6,rfl⟩;have Y:=h.en u G b7;rw[c4]at Y;have h7:=h.ok u G (by omega);obtain⟨v,J,b8,a8⟩:∃v,a<=v/\v<b/\(f v).B (r v)=t:=by
  refine zf fun hn=>Y.non ?_
  have E:∀i,a<=i->i<b->(f i).B (r i)≠t:=fun i h1 h2 h3=>hn ⟨i,h1,h2,h3⟩
  have h1:basic m (f (u+1)) t:=by
   rw[h.nx u G b7,r_ (h.lv u G b7).lt];exact .inl c4.symm
  have h2:=h.MX E (i:=u+1) (k:=b) (by omega) (by omega) (zq _) h1;exact h.MX E (zq a) G (by omega) ((b5 t).mpr h2)
 have env:=h.en v J b8;have a6:=h.lv v J b8;have a1:=h.ok v J (by omega);have h8:∀j,basic m (f v) j->¬basic m (f u) j->∃i,a<=i/\i<b/\s i=j:=fun j hv hu=>by
  refine zf fun hn=>?_
  have E:∀i,a<=i->i<b->s i≠j:=fun i h1 h2 h3=>hn ⟨i,h1,h2,h3⟩
  have h1:=h.Wh E G (by omega) (zq b) hu;have h2:=h.Wh E (zq a) J (by omega) fun hb=>h1 ((b5 j).mp hb)
  exact h2 hv
 have zero:∀ {i:Nat},i<m->¬basic m (f u) ((f v).B i)->(f v).b i=0:=fun {i} hi hu=>by
  rw[<- Ig a1 hi,h.still hz J (by omega),<- h.still hz G (by omega)];exact rE hu
 have c5:=Ih a1 env.lt env.non 1;have c6:=rC a1;have c7:∀x,Sol m n (f v) x->Sol m n (f u) x:=fun x hx=>by
  rcases Nat.le_total u v with b9|b9
  .exact(Jv h G b9 (by omega) x).mp hx
  .exact(Jv h J b9 (by omega) x).mpr hx
 have key:∀q,gm m (f v) (C q) (s v)=sm (fun j=>gm m (f u) (C q) j*dir m (f v) (s v) j) n:=fun q=>by
  have h9:∀T,ob n (gm m T (C q)) (fun j=>Bh m (f v) j+1*dir m (f v) (s v) j)=ob n (gm m T (C q)) (Bh m (f v))+ob n (gm m T (C q)) (dir m (f v) (s v)):=fun T=>by
   unfold ob;rw[<- dM];exact dL fun j _=>by grind
  have e1:=jG (c:=C q) c5;have e2:=jG (c:=C q) c6;have e3:=jG (c:=C q) (c7 _ c5);have e4:=jG (c:=C q) (c7 _ c6);rw[h9]at e1 e3;have e5:ob n (gm m (f v) (C q)) (dir m (f v) (s v))=gm m (f v) (C q) (s v):=by
   unfold ob;rw[dH env.lt fun j S E=>?_,MW env.non,Rat.mul_one]
   by_cases hb:basic m (f v) j
   .obtain⟨i,hi,rfl⟩:=hb
    rw[OO a1 _ hi,Rat.zero_mul]
   .rw[oP hb E,uJ]
  have e6:ob n (gm m (f u) (C q)) (dir m (f v) (s v))=sm (fun j=>gm m (f u) (C q) j*dir m (f v) (s v) j) n:=rfl;rw[<- e6,<- e5];grind
 have c8:Lp d fun q=>sm (fun j=>gm m (f u) (C q) j*dir m (f v) (s v) j) n:=env.pos.congr fun q _=>key q
 obtain⟨j,S,O⟩:=anj c8;have c9:dir m (f v) (s v) j≠0:=fun e=>O.Gl fun q _=>by show _*_=(0:Rat);rw[e,uJ]
 have b3:¬basic m (f u) j:=by
  rintro ⟨i,hi,rfl⟩;exact O.Gl fun q _=>by show _*_=(0:Rat);rw[OO h7 _ hi,Rat.zero_mul]
 by_cases e0:basic m (f v) j
 .obtain⟨i,hi,rfl⟩:=e0
  rw[V_ a1 env.non hi]at O c9;obtain⟨w,e7,e8,e9⟩:=h8 _ ⟨i,hi,rfl⟩ b3;have hle:=b4 _ ⟨w,e7,e8,e9⟩
  by_cases h0:(f v).B i=t
  ·-- t itself
   have i0:i=r v:=a1.inj hi a6.lt (h0.trans a8.symm);subst i0;have hp:=a6.pos;refine Ju (w:=fun q=>gm m (f u) (C q) ((f v).B (r v))* -(f v).e (r v) (s v)) ?_ O;rw[h0]at *;have:=Nn.smul (d:=d) (w_ hp) (.inl Y.pos);exact this.imp (Lp.congr fun q _=>by unfold gv;grind) (Zr.congr fun q _=>by unfold gv;grind)
  .have a7:(f v).B i<t:=by omega
   have i1:Fr ((f v).B i):=by have:=(h.en w e7 e8).fr;rwa [e9]at this
   have h4:=Y.low _ a7 i1 b3;have hp:0<(f v).e i (s v):=by
    refine zf fun hq=>h4 ?_
    have h5:0< -(f v).e i (s v):=by grind
    have:=Lp.smul (d:=d) (Rat.inv_pos.mpr h5) O;exact this.congr fun q _=>by unfold gv;grind
   have b1:=zero hi b3;have b2:=zero a6.lt (by rw[a8];exact Y.non);have:=a6.tie i hi hp (by rw[b1,b2];grind);rw[a8]at this;omega
 .have i2:j=s v:=zf fun E=>c9 (oP e0 E)
  subst i2;rw[MW env.non]at O;have hle:=b4 _ ⟨v,J,b8,rfl⟩;have E:s v≠t:=fun e=>env.non (by rw[e,<- a8];exact⟨r v,a6.lt,rfl⟩)
  exact Y.low _ (by omega) env.fr b3 (O.congr fun q _=>by unfold gv;grind)
end
end Go.Lp
namespace Go.Lp
def code(p:Nat->Bool):Nat->Nat
 |0=>0
 |n+1=>code p n+(if p n then 2^n else 0)
theorem KW(p:Nat->Bool):∀n,code p n<2^n
 |0=>by simp[code]
 |n+1=>by
  have:=KW p n;unfold code;rw[vB]
  split<;>omega
theorem code_inj{p q:Nat->Bool}:∀ {n:Nat},code p n=code q n->∀j,j<n->p j=q j
 |0,_,j,hj=>by omega
 |n+1,h,j,hj=>by
  have Y:=KW p n;have h2:=KW q n;unfold code at h;have G:p n=q n:=by
   cases J:p n<;>cases O:q n
   .rfl
   .simp only[J,O,yD,if_false,if_true]at h;omega
   .simp only[J,O,yD,if_false,if_true]at h;omega
   .rfl
  have S:code p n=code q n:=by rw[G]at h;omega
  rcases yC (yA hj)with E|E
  .exact code_inj S j E
  .rw[E];exact G
theorem agw:∀(N:Nat) (g:Nat->Nat),(∀i,i<=N->g i<N)->∃i j,i<j/\j<=N/\g i=g j
 |0,g,h=>absurd (h 0 (zq _)) (by omega)
 |N+1,g,h=>by
  by_cases hc:∃i,i<=N/\g i=g (N+1)
  .obtain⟨i,hi,e⟩:=hc
   exact⟨i,N+1,by omega,zq _,e⟩
  .have hl:=h (N+1) (zq _)
   have E:∀i,i<=N->g i≠g (N+1):=fun i hi e=>hc ⟨i,hi,e⟩
   obtain⟨i,j,G,O,e⟩:=agw N (fun i=>if g i=N then g (N+1)else g i) (fun i hi=>by
    have S:=h i (by omega);have Y:=E i hi;show(if g i=N then g (N+1)else g i)<N
    split<;>omega)
   refine⟨i,j,G,by omega,?_⟩;have S:=E i (by omega);have Y:=E j O;have J:(if g i=N then g (N+1)else g i)=(if g j=N then g (N+1)else g j):=e
   split at J<;>split at J<;>omega
section
variable {m n d:Nat} {C:Nat->Nat->Rat} {Fr:Nat->Prop}
def adK(m n d:Nat)(C:Nat->Nat->Rat)(Fr:Nat->Prop):Nat->Tab->Prop
 |0,_=>False
 |k+1,T=>∀T',Step m n d C Fr T T'->adK m n d C Fr k T'
theorem Wi:∀ {k:Nat} {T:Tab},¬adK m n d C Fr k T->∃f:Nat->Tab,f 0=T/\∀i,i<k->Step m n d C Fr (f i) (f (i+1))
 |0,T,_=>⟨fun _=>T,rfl,fun i h=>by omega⟩
 |k+1,T,h=>by
  unfold adK at h;obtain⟨T',E⟩:=Classical.not_forall.mp h;obtain⟨G,J⟩:=Classical.not_imp.mp E;obtain⟨f,O,S⟩:=Wi J;refine⟨fun i=>if i=0 then T else f (i-1),rfl,fun i hi=>?_⟩;cases i with
  |zero=>simpa[O]using G
  |succ i=>simpa using S i (by omega)
theorem abm{T:Tab}(h:Ok m n T):adK m n d C Fr (2^n) T:=by
 refine zf fun hn=>?_
 obtain⟨f,Y,hs⟩:=Wi hn;have J:∀i,i<=2^n->Ok m n (f i):=fun i=>by
  induction i with
  |zero=>intro _;rw[Y];exact h
  |succ i ih=>intro hi;exact(hs i (by omega)).ok (ih (by omega))
 have:∃E:Nat->Nat×Nat,∀i,i<2^n->Enters m n d C Fr (f i) (E i).1/\Leaves m (f i) (E i).1 (E i).2/\f (i+1)=piv (f i) (E i).2 (E i).1:=by
  refine⟨fun i=>if hi:i<2^n then ⟨(hs i hi).choose,(hs i hi).choose_spec.choose⟩else(0,0),fun i hi=>?_⟩;simp only[dif_pos hi];exact(hs i hi).choose_spec.choose_spec
 obtain⟨E,G⟩:=this;have dec:∀i,∃p:Nat->Bool,∀j,p j=true↔basic m (f i) j:=fun i=>by
  refine⟨fun j=>@decide (basic m (f i) j) (Classical.propDecidable _),fun j=>?_⟩;simp
 obtain⟨i,j,O,hj,e⟩:=agw (2^n) (fun i=>code (dec i).choose n) (fun i _=>KW _ _);have hb:∀k,k<n->(basic m (f i) k↔basic m (f j) k):=fun k hk=>by
  rw[<- (dec i).choose_spec k,<- (dec j).choose_spec k,code_inj e k hk]
 exact agu (m:=m) (n:=n) (d:=d) (C:=C) (Fr:=Fr) (f:=f) (s:=fun i=>(E i).1) (r:=fun i=>(E i).2) (a:=i) (b:=j)
  ⟨fun k _ S=>J k (by omega),fun k _ S=>(G k (by omega)).1,fun k _ S=>(G k (by omega)).2.1,fun k _ S=>(G k (by omega)).2.2⟩ O hb
def agx(m n:Nat)(T:Tab)(x:Nat->Rat):Prop:=Sol m n T x/\∀j,j<n->0<=x j
theorem agy{T:Tab}(h:Ok m n T):agx m n T (Bh m T):=⟨rC h,fun j _=>rD h j⟩
theorem optimal{T:Tab}(Y:Ok m n T)(E:∀j,j<n->Fr j->¬basic m T j->¬Lp d (gv m T C j)){x:Nat->Rat}(O:agx m n T x)(G:∀j,j<n->¬Fr j->¬basic m T j->x j=0) :
  Nn d fun q=>zz m T (C q) - ob n (C q) x:=by
 have h1:Nn d fun q=>sm (fun j=> -(gm m T (C q) j*x j)) n:=Nn.sum fun j J=>by
  by_cases hb:basic m T j
  .obtain⟨i,hi,rfl⟩:=hb
   exact .inr fun q _=>by show -(gm m T (C q) (T.B i)*x (T.B i))=0;rw[OO Y _ hi];grind
  .by_cases S:Fr j
   .have:=Nn.smul (d:=d) (O.2 j J) (PS (E j J S hb))
    exact this.imp (Lp.congr fun q _=>by unfold gv;grind) (Zr.congr fun q _=>by unfold gv;grind)
   .exact .inr fun q _=>by show -(gm m T (C q) j*x j)=0;rw[G j J S hb];grind
 refine h1.imp (Lp.congr fun q _=>?_) (Zr.congr fun q _=>?_)
 all_goals
  have e1:=jG (c:=C q) O.1;have e2:=dK (-1) (fun j=>gm m T (C q) j*x j) n;have e3:sm (fun j=> -(gm m T (C q) j*x j)) n=sm (fun j=> -1*(gm m T (C q) j*x j)) n:=dL fun j _=>by grind
  show sm (fun j=> -(gm m T (C q) j*x j)) n=_;rw[e3,e2,e1];unfold ob;grind
theorem unbounded{T:Tab}(h:Ok m n T){s:Nat}(hs:s<n)(E:¬basic m T s)(J:∀i,i<m->T.e i s<=0)(c:Nat->Rat)(a:Rat)(O:0<=a) :
  ∃x,agx m n T x/\ob n c x=zz m T c+a*gm m T c s:=by
 refine⟨fun j=>Bh m T j+a*dir m T s j,⟨Ih h hs E a,fun j S=>?_⟩,?_⟩
 .show 0<=Bh m T j+a*dir m T s j
  by_cases hb:basic m T j
  .obtain⟨i,hi,rfl⟩:=hb
   rw[V_ h E hi,Ig h hi];have Y:=h.nb i hi;have h2:=xX O (show 0<= -T.e i s by have:=J i hi;grind);grind
  .by_cases e:j=s
   .subst e;rw[MW E,rE hb];grind
   .rw[oP hb e,rE hb];grind
 .rw[jG (Ih h hs E a)]
  congr 1;unfold ob;rw[dH hs fun j S G=>?_]
  .show gm m T c s*(Bh m T s+a*dir m T s s)=_
   rw[MW E,rE E];grind
  .by_cases hb:basic m T j
   .obtain⟨i,hi,rfl⟩:=hb
    rw[OO h _ hi,Rat.zero_mul]
   .show gm m T c j*(Bh m T j+a*dir m T s j)=0
    rw[oP hb G,rE hb];grind
end
end Go.Lp
namespace Go.Lp
def sg(k:Nat):Rat:=if k%2=0 then 1 else -1
theorem akk(k:Nat):sg (k+1)= -sg k:=by
 unfold sg
 by_cases h:k%2=0
 .rw[sZ h,su (by omega)]
 .rw[su h,sZ (by omega)];rfl
def rem(i:Nat)(V:Nat->Nat->Rat):Nat->Nat->Rat:=fun p=>V (if p<i then p else p+1)
def put(V:Nat->Nat->Rat)(p:Nat)(u:Nat->Rat):Nat->Nat->Rat:=fun q=>if q=p then u else V q
def Cm:Nat->(Nat->Nat->Rat)->Rat
 |0,_=>1
 |m+1,V=>sm (fun i=>sg (i+m)*V i m*Cm m (rem i V)) (m+1)
theorem pF:∀ {m:Nat} {V W:Nat->Nat->Rat},(∀i k,i<m->k<m->V i k=W i k)->Cm m V=Cm m W
 |0,_,_,_=>rfl
 |m+1,V,W,h=>by
  unfold Cm;refine dL fun i hi=>?_
  rw[h i m hi (by omega),pF (m:=m) (V:=rem i V) (W:=rem i W) fun p k E G=>?_];unfold rem;exact h _ k (by split<;>omega) (by omega)
theorem gY(V:Nat->Nat->Rat)(p:Nat)(u:Nat->Rat):rem p (put V p u)=rem p V:=by
 funext q;unfold rem put;rw[su]
 split<;>omega
theorem gZ{V:Nat->Nat->Rat}{i p:Nat}(u:Nat->Rat)(h:i≠p):rem i (put V p u)=put (rem i V) (if p<i then p else p-1) u:=by
 funext q;unfold rem put
 by_cases e:(if q<i then q else q+1)=p
 .rw[sZ e,sZ]
  split at e<;>split<;>omega
 .have E:¬q=(if p<i then p else p-1):=by split at e<;>split<;>omega
  rw[su e,su E]
theorem KX:∀ {m:Nat} (V:Nat->Nat->Rat) {p:Nat} (_:p<m) (a b:Rat) (u w:Nat->Rat),Cm m (put V p fun k=>a*u k+b*w k)=a*Cm m (put V p u)+b*Cm m (put V p w)
 |m+1,V,p,hp,a,b,u,w=>by
  unfold Cm;rw[<- dK,<- dK,<- dM];refine dL fun i hi=>?_
  by_cases e:i=p
  .subst e
   rw[gY,gY,gY];simp only[put,if_true];grind
  .rw[gZ _ e,gZ _ e,gZ _ e,KX (m:=m) (rem i V) (by split<;>omega) a b u w]
   simp only[put,su e];grind
theorem Ii(V:Nat->Nat->Rat)(p:Nat):put V p (V p)=V:=by
 funext q;unfold put
 split
 .rename_i h;rw[h]
 .rfl
theorem iC(V:Nat->Nat->Rat){p q:Nat}(h:p≠q)(u w:Nat->Rat):put (put V p u) q w=put (put V q w) p u:=by
 funext i;unfold put
 by_cases e:i=q
 .subst e;rw[sZ rfl,su (zD h),sZ rfl]
 .rw[su e,su e]
theorem R_(m:Nat)(V:Nat->Nat->Rat){p:Nat}(E:p<m)(u w:Nat->Rat):Cm m (put V p fun k=>u k+w k)=Cm m (put V p u)+Cm m (put V p w):=by
 have:=KX V E 1 1 u w;rw[Rat.one_mul,Rat.one_mul]at this;rw[<- this];congr 2;funext k;grind
theorem KY:∀ {m:Nat} {V:Nat->Nat->Rat} {p:Nat},p+1<m->(∀k,k<m->V p k=V (p+1) k)->Cm m V=0
 |m+1,V,p,hp,h=>by
  unfold Cm;have other:∀i,i<m+1->i≠p->i≠p+1->sg (i+m)*V i m*Cm m (rem i V)=0:=fun i hi J Y=>by
   have:Cm m (rem i V)=0:=by
    by_cases a1:i<p
    .refine KY (p:=p-1) (by omega) fun k hk=>?_
     unfold rem;rw[su (by omega),su (by omega)];have:=h k (by omega);rw[show p-1+1=p by omega];exact this
    .refine KY (p:=p) (by omega) fun k hk=>?_
     unfold rem;rw[sZ (by omega),sZ (by omega)];exact h k (by omega)
   rw[this,uJ]
  have G:∀(f:Nat->Rat) (n:Nat),p+1<n->(∀i,i<n->i≠p->i≠p+1->f i=0)->sm f n=f p+f (p+1):=by
   intro f n hn hz;have e:sm f n=sm (fun i=>if i=p then f i else 0) n+sm (fun i=>if i=p+1 then f i else 0) n:=by
    rw[<- dM];refine dL fun i hi=>?_
    by_cases O:i=p
    .rw[sZ O,su (by omega)];grind
    .rw[su O]
     by_cases S:i=p+1
     .rw[sZ S];grind
     .rw[su S,hz i hi O S];grind
   rw[e,dH (k:=p) (by omega) fun i _ E=>su E,dH (k:=p+1) hn fun i _ E=>su E,sZ rfl,sZ rfl]
  rw[G _ _ hp other];have hm:Cm m (rem p V)=Cm m (rem (p+1) V):=pF fun q k hq hk=>by
   unfold rem
   by_cases J:q<p
   .rw[sZ J,sZ (by omega)]
   .rw[su J]
    by_cases Y:q=p
    .subst Y;rw[sZ (by omega)];exact(h k (by omega)).symm
    .rw[su (by omega)]
  rw[hm,h m (by omega),show p+1+m=p+m+1 by omega,akk];grind
theorem agz{m:Nat}{V:Nat->Nat->Rat}{p:Nat}(G:p+1<m)(u w:Nat->Rat):Cm m (put (put V p u) (p+1) w)= -Cm m (put (put V p w) (p+1) u):=by
 have E:p≠p+1:=by omega
 have z:∀x:Nat->Rat,Cm m (put (put V p x) (p+1) x)=0:=fun x=>KY G fun k _=>by
  unfold put;rw[su E,sZ rfl,sZ rfl]
 have h:=z fun k=>u k+w k
 rw[R_ m _ G,iC _ E,R_ m _ (by omega),iC _ E,R_ m _ (by omega),iC _ (zD E),iC _ (zD E),iC _ (zD E) ,iC _ (zD E)]at h;have:=z u;have:=z w;grind
theorem put_eq(V:Nat->Nat->Rat)(p q:Nat):put (put V p (V p)) q (V q)=V:=by rw[Ii,Ii]
theorem Si{m:Nat}:∀(g:Nat) {V:Nat->Nat->Rat} {p:Nat},p+1+g<m->(∀k,k<m->V p k=V (p+1+g) k)->Cm m V=0
 |0,V,p,hp,h=>KY hp h
 |g+1,V,p,hp,h=>by
  have e:=agz (m:=m) (V:=V) (p:=p+1+g) (by omega) (V (p+1+g)) (V (p+1+g+1));rw[put_eq]at e;rw[e,Si g (p:=p) (by omega) fun k E=>?_]
  .rfl
  .have G:p≠p+1+g+1:=by omega
   have J:p≠p+1+g:=by omega
   have O:p+1+g≠p+1+g+1:=by omega
   unfold put;rw[su G,su J,su O,sZ rfl];exact h k E
theorem ank{m:Nat}{V:Nat->Nat->Rat}{p q:Nat}(O:p<m)(S:q<m)(E:p≠q)(h:∀k,k<m->V p k=V q k):Cm m V=0:=by
 rcases Nat.lt_or_gt_of_ne E with G|G
 .exact Si (q-p-1) (p:=p) (by omega) fun k J=>by rw[show p+1+(q-p-1)=q by omega];exact h k J
 .exact Si (p-q-1) (p:=q) (by omega) fun k J=>by rw[show q+1+(p-q-1)=p by omega];exact(h k J).symm
theorem abn{m:Nat}(V:Nat->Nat->Rat){p:Nat}(E:p<m)(c:Nat->Rat)(W:Nat->Nat->Rat):∀n,Cm m (put V p fun k=>sm (fun j=>c j*W j k) n)=sm (fun j=>c j*Cm m (put V p (W j))) n
 |0=>by
  have h:=KX V E 0 0 (fun _=>0) (fun _=>0);have e:(fun k:Nat=>(0:Rat)*(fun _:Nat=>(0:Rat)) k+0*(fun _:Nat=>(0:Rat)) k)=fun k=>sm (fun j=>c j*W j k) 0:=by funext k;unfold sm;grind
  rw[e]at h;rw[h];unfold sm;grind
 |n+1=>by
  have h:=KX V E 1 (c n) (fun k=>sm (fun j=>c j*W j k) n) (W n);have e:(fun k:Nat=>(1:Rat)*(fun k=>sm (fun j=>c j*W j k) n) k+c n*W n k)=fun k=>sm (fun j=>c j*W j k) (n+1):=by funext k;show 1*sm _ n+_=sm _ n+_;grind
  rw[e,abn V E c W n]at h;rw[h];show _=sm _ n+_;grind
theorem Sj{m:Nat}(V:Nat->Nat->Rat){i:Nat}(hi:i<m)(c:Nat->Rat)(w:Nat->Rat)(hw:∀k,k<m->w k=sm (fun p=>c p*V p k) m):Cm m (put V i w)=c i*Cm m V:=by
 have e:Cm m (put V i w)=Cm m (put V i fun k=>sm (fun p=>c p*V p k) m):=pF fun q k _ G=>by
  unfold put
  split
  .exact hw k G
  .rfl
 rw[e,abn V hi c V,dH hi fun p J E=>?_,Ii];rw[ank (p:=i) (q:=p) hi J (zD E) fun k _=>?_,uJ];unfold put;rw[sZ rfl,su E]
def Ud(q:Rat):Prop:=∃z:Int,q=z
theorem Ud.add{a b:Rat}(h:Ud a)(E:Ud b):Ud (a+b):=by
 obtain⟨x,rfl⟩:=h;obtain⟨y,rfl⟩:=E;exact⟨x+y,by simp⟩
theorem Ud.mul{a b:Rat}(h:Ud a)(E:Ud b):Ud (a*b):=by
 obtain⟨x,rfl⟩:=h;obtain⟨y,rfl⟩:=E;exact⟨x*y,by simp⟩
theorem Ud.sum{f:Nat->Rat}:∀ {n:Nat},(∀j,j<n->Ud (f j))->Ud (sm f n)
 |0,_=>⟨0,rfl⟩
 |n+1,h=>(Ud.sum fun j E=>h j (by omega)).add (h n (by omega))
theorem anl(k:Nat):Ud (sg k):=by
 unfold sg
 split
 .exact⟨1,rfl⟩
 .exact⟨-1,rfl⟩
theorem al0:∀ {m:Nat} {V:Nat->Nat->Rat},(∀i k,i<m->k<m->Ud (V i k))->Ud (Cm m V)
 |0,_,_=>⟨1,rfl⟩
 |m+1,V,h=>Ud.sum fun i hi=>((anl _).mul (h i m hi (by omega))).mul (al0 fun p k E G=>h _ k (by split<;>omega) (by omega))
def Bd(M a:Rat):Prop:=-M<=a/\a<=M
theorem Bd.mul{M N a b:Rat}(h:Bd M a)(E:Bd N b):Bd (M*N) (a*b):=by
 obtain⟨G,J⟩:=h;obtain⟨O,S⟩:=E;have Y:0<=M:=by grind
 have e1:=xX (show 0<=M-a by grind) (show 0<=N-b by grind);have e2:=xX (show 0<=M+a by grind) (show 0<=N+b by grind);have e3:=xX (show 0<=M-a by grind) (show 0<=N+b by grind);have e4:=xX (show 0<=M+a by grind) (show 0<=N-b by grind);constructor<;>grind
theorem Bd.sum{f:Nat->Rat}{M:Rat}:∀ {n:Nat},(∀j,j<n->Bd M (f j))->Bd (n*M) (sm f n)
 |0,_=>by
  have e:((0:Nat):Rat)*M=0:=by simp
  unfold Bd sm;rw[e];constructor<;>decide
 |n+1,h=>by
  have E:=Bd.sum (n:=n) fun j G=>h j (by omega)
  have J:=h n (by omega);unfold Bd at *;have e:((n+1:Nat):Rat)*M=n*M+M:=by simp;grind
  rw[e];unfold sm;constructor<;>grind
theorem arE(k:Nat):Bd 1 (sg k):=by
 unfold sg Bd
 split<;>constructor<;>decide
def fact(M:Nat):Nat->Nat
 |0=>1
 |m+1=>(m+1)*(M*fact M m)
theorem agA:∀ {m:Nat} {V:Nat->Nat->Rat} {M:Nat},(∀i k,i<m->k<m->Bd M (V i k))->Bd (fact M m) (Cm m V)
 |0,_,_,_=>by unfold Bd fact Cm;constructor<;>decide
 |m+1,V,M,h=>by
  have E:=Bd.sum (n:=m+1) (f:=fun i=>sg (i+m)*V i m*Cm m (rem i V)) (M:=1*M*fact M m) fun i hi=>((arE _).mul (h i m hi (by omega))).mul (agA fun p k G J=>h _ k (by split<;>omega) (by omega))
  have e:((m+1:Nat):Rat)*(1*M*fact M m)=(fact M (m+1):Nat):=by
   show _=(((m+1)*(M*fact M m):Nat):Rat);rw[Rat.natCast_mul,Rat.natCast_mul];grind
  rw[e]at E;exact E
theorem Sl:∀m,Cm m (fun i k=>if i=k then 1 else 0)=1
 |0=>rfl
 |m+1=>by
  unfold Cm;rw[dH (k:=m) (by omega) fun i hi E=>by show sg (i+m)*(if i=m then 1 else 0)*_=0;rw[su E];grind];show sg (m+m)*(if m=m then 1 else 0)*_=1;rw[sZ rfl];have e:Cm m (rem m fun i k=>if i=k then(1:Rat)else 0)=Cm m (fun i k=>if i=k then 1 else 0):=pF fun i k hi G=>by
   unfold rem;rw[sZ hi]
  rw[e,Sl m];unfold sg;rw[sZ (by omega)];grind
end Go.Lp
namespace Go.Lp
structure X5 (m n:Nat) (A:Nat->Nat->Rat) (w:Nat->Rat) (T:Tab):Prop where
 col:∀j k,j<n->k<m->A j k=sm (fun p=>T.e p j*A (T.B p) k) m
 rhs:∀k,k<m->w k=sm (fun p=>T.b p*A (T.B p) k) m
 ind:Cm m (fun p=>A (T.B p))≠0
section
variable {m n:Nat} {A:Nat->Nat->Rat} {w:Nat->Rat} {T:Tab}
theorem agB{m r:Nat}(G:r<m)(f g u:Nat->Rat)(t v:Rat)(J:f r=g r*t)(O:sm (fun p=>g p*u p) m=v) :
  sm (fun p=>(if p=r then t else f p-g p*t)*(if p=r then v else u p)) m=sm (fun p=>f p*u p) m:=by
 have e:sm (fun p=>(if p=r then t else f p-g p*t)*(if p=r then v else u p)) m=sm (fun p=>f p*u p) m-t*sm (fun p=>g p*u p) m+sm (fun p=>if p=r then t*v else 0) m:=by
  rw[<- dK,<- dG,<- dM];refine dL fun p _=>?_
  by_cases h:p=r
  .subst h;simp only[if_true,J];grind
  .simp only[su h];grind
 rw[e,O,dH G fun p _ E=>su E,sZ rfl];grind
theorem X5.piv(h:X5 m n A w T){r s:Nat}(J:r<m)(hs:s<n)(O:T.e r s≠0):X5 m n A w (piv T r s):=by
 have key:∀(f:Nat->Rat) (k:Nat),k<m->sm (fun p=>(if p=r then f r / T.e r s else f p-T.e p s*(f r / T.e r s))*A (if p=r then s else T.B p) k) m=sm (fun p=>f p*A (T.B p) k) m:=fun f k E=>by
  rw[<- agB J f (fun p=>T.e p s) (fun p=>A (T.B p) k) (f r / T.e r s) (A s k) (by grind) (h.col s k hs E).symm];refine dL fun p _=>?_
  by_cases e:p=r
  .subst e;simp only[if_true]
  .simp only[su e]
 refine⟨fun j k S E=>?_,fun k E=>?_,?_⟩
 .rw[h.col j k S E,<- key (fun p=>T.e p j) k E]
  rfl
 .rw[h.rhs k E,<- key T.b k E]
  rfl
 .have e:(fun p=>A ((Lp.piv T r s).B p))=put (fun p=>A (T.B p)) r (A s):=by
   funext p k;unfold put Lp.piv;simp only
   by_cases e:p=r
   .rw[sZ e,sZ e]
   .rw[su e,su e]
  rw[e,Sj (fun p=>A (T.B p)) J (fun p=>T.e p s) (A s) fun k E=>h.col s k hs E];intro Y;rcases Rat.mul_eq_zero.mp Y with G|G
  .exact O G
  .exact h.ind G
theorem X5.ent(h:X5 m n A w T){i j:Nat}(hi:i<m)(E:j<n):T.e i j*Cm m (fun p=>A (T.B p))=Cm m (put (fun p=>A (T.B p)) i (A j)) :=
 (Sj (fun p=>A (T.B p)) hi (fun p=>T.e p j) (A j) fun k G=>h.col j k E G).symm
theorem X5.right(h:X5 m n A w T){i:Nat}(hi:i<m):T.b i*Cm m (fun p=>A (T.B p))=Cm m (put (fun p=>A (T.B p)) i w) :=
 (Sj (fun p=>A (T.B p)) hi T.b w fun k E=>h.rhs k E).symm
theorem X5.abo(h:X5 m n A w T){r s:Nat}(E:r<m)(hs:s<n):Cm m (fun p=>A ((Lp.piv T r s).B p))=T.e r s*Cm m (fun p=>A (T.B p)):=by
 have e:(fun p=>A ((Lp.piv T r s).B p))=put (fun p=>A (T.B p)) r (A s):=by
  funext p k;unfold put Lp.piv;simp only
  by_cases e:p=r
  .rw[sZ e,sZ e]
  .rw[su e,su e]
 rw[e,Sj (fun p=>A (T.B p)) E (fun p=>T.e p s) (A s) fun k G=>h.col s k hs G]
end
def ZB(M:Nat)(q:Rat):Prop:=∃z:Int,q=z/\z.natAbs<=M
theorem ZB.of{M:Nat}{q:Rat}(h:Ud q)(E:Bd M q):ZB M q:=by
 obtain⟨z,rfl⟩:=h;refine⟨z,rfl,?_⟩;obtain⟨G,J⟩:=E;have O:z<=(M:Int):=by exact_mod_cast J
 have S:-(M:Int)<=z:=by
  have:((-(M:Int):Int):Rat)<=z:=by rw[vX];exact G
  exact_mod_cast this
 omega
theorem ZB.isZ{M:Nat}{q:Rat}(h:ZB M q):Ud q:=let ⟨z,e,_⟩:=h;⟨z,e⟩
theorem ZB.bd{M:Nat}{q:Rat}(h:ZB M q):Bd M q:=by
 obtain⟨z,rfl,h⟩:=h;have E:-(M:Int)<=z:=by omega
 have G:z<=(M:Int):=by omega
 constructor
 .have:((-(M:Int):Int):Rat)<=z:=by exact_mod_cast E
  rw[vX]at this;exact this
 .exact_mod_cast G
theorem E_{m M:Nat}{V:Nat->Nat->Rat}(h:∀i k,i<m->k<m->ZB M (V i k)):ZB (fact M m) (Cm m V) :=
 .of (al0 fun i k hi E=>(h i k hi E).isZ) (agA fun i k hi E=>(h i k hi E).bd)
section
variable {m n M:Nat} {A:Nat->Nat->Rat} {w:Nat->Rat} {T:Tab}
theorem X5.E_(J:X5 m n A w T)(E:∀i,i<m->T.B i<n)(hA:∀j k,j<n->k<m->ZB M (A j k)):ZB (fact M m) (Cm m fun p=>A (T.B p)) :=
 Lp.E_ fun i k hi G=>hA _ k (E i hi) G
theorem X5.MZ(h:X5 m n A w T)(J:∀i,i<m->T.B i<n)(hA:∀j k,j<n->k<m->ZB M (A j k)){i j:Nat}(hi:i<m)(E:j<n):ZB (fact M m) (T.e i j*Cm m fun p=>A (T.B p)):=by
 rw[h.ent hi E];refine Lp.E_ fun p k O G=>?_
 unfold put
 split
 .exact hA j k E G
 .exact hA _ k (J p O) G
theorem X5.Gm(h:X5 m n A w T)(G:∀i,i<m->T.B i<n)(hA:∀j k,j<n->k<m->ZB M (A j k))(hw:∀k,k<m->ZB M (w k)){i:Nat}(hi:i<m):ZB (fact M m) (T.b i*Cm m fun p=>A (T.B p)):=by
 rw[h.right hi];refine Lp.E_ fun p k J E=>?_
 unfold put
 split
 .exact hw k E
 .exact hA _ k (G p J) E
end
theorem Ij{M:Nat}{q D:Rat}(hD:ZB M D)(h0:D≠0)(h:ZB M (q*D)):q.num.natAbs<=M/\q.den<=M:=by
 obtain⟨d,rfl,hd⟩:=hD;obtain⟨z,e,hz⟩:=h;have a1:d≠0:=fun e=>h0 (by rw[e];rfl)
 have e1:(q.num:Rat)=q*q.den:=by
  have Y:=Rat.mkRat_self q;rw[Rat.mkRat_eq_div]at Y;have h2:(q.den:Rat)≠0:=by have:=q.den_nz;exact_mod_cast this
  rw[<- Y];have G:mkRat q.num q.den=q:=Rat.mkRat_self q;grind
 have e2:q.num*d=z*q.den:=by
  have:((q.num*d:Int):Rat)=((z*q.den:Int):Rat):=by
   rw[vV,vV,<- e,e1];show q*(q.den:Rat)*d=q*d*((q.den:Int):Rat);have:(((q.den:Nat):Int):Rat)=(q.den:Rat):=rfl;rw[this];grind
  exact_mod_cast this
 have G:q.num.natAbs*d.natAbs=z.natAbs*q.den:=by
  have:=congrArg Int.natAbs e2;rw[uh,uh]at this
  simpa using this
 have E:Nat.Coprime q.den q.num.natAbs:=q.reduced.symm;have J:q.den ∣ d.natAbs:=by
  refine E.dvd_of_dvd_mul_left ?_;rw[G];exact Nat.dvd_mul_left _ _
 have O:q.num.natAbs ∣ z.natAbs:=by
  refine E.symm.dvd_of_dvd_mul_right ?_;rw[<- G];exact Nat.dvd_mul_right _ _
 refine⟨?_,zL (Nat.le_of_dvd (by omega) J) hd⟩
 by_cases S:z=0
 .subst S
  have:q.num.natAbs=0:=by
   have:q.num.natAbs*d.natAbs=0:=by rw[G];simp
   rcases Nat.mul_eq_zero.mp this with h|h
   .exact h
   .omega
  omega
 .exact zL (Nat.le_of_dvd (by omega) O) hz
end Go.Lp
namespace Go.Lp
theorem abp{m n:Nat}{T:Tab}(h:Ok m n T){r s:Nat}(S:r<m)(hs:s<n)(Y:T.e r s≠0)(h0:T.b r=0):Ok m n (piv T r s):=by
 refine⟨fun i hi=>?_,fun i k hi O=>?_,fun i hi=>?_⟩
 .simp only[piv]
  split
  .exact hs
  .exact h.bn i hi
 .have u1:=h.un i k hi O
  have J:=h.un r k S O;simp only[piv]
  by_cases G:k=r
  .subst G
   rw[sZ rfl]
   by_cases E:i=k
   .rw[sZ E,sZ E];grind
   .rw[su E,su E];grind
  .rw[su G]
   rw[su (zD G)]at J
   by_cases E:i=r
   .subst E
    rw[sZ rfl,su (zD G),J];grind
   .rw[su E,u1,J];grind
 .simp only[piv,h0]
  have e:(0:Rat) / T.e r s=0:=by rw[vO];grind
  rw[e];have:=h.nb i hi
  split
  .exact uZ
  .grind
structure Prog where
 m:Nat
 n:Nat
 a:Nat->Nat->Rat
 w:Nat->Rat
 c:Nat->Rat
namespace Prog
variable (p:Prog)
def N:Nat:=p.n+p.m
def A(j k:Nat):Rat:=if j<p.n then p.a j k else if k+p.n=j then 1 else 0
def T0:Tab:=⟨fun i j=>p.A j i,p.w,fun i=>i+p.n⟩
def F(x:Nat->Rat):Prop:=(∀k,k<p.m->sm (fun j=>p.a j k*x j) p.n=p.w k)/\∀j,j<p.n->0<=x j
def C(q:Nat)(j:Nat):Rat:=if q=0 then(if j<p.n then p.c j else 0)else if j+1=q/\j<p.n then -1 else 0
def c1(j:Nat):Rat:=if j<p.n then 0 else -1
def None:Prop:=∀x,¬p.F x
def Open:Prop:=∀a:Rat,∃x,p.F x/\a<=ob p.n p.c x
def Best(x:Nat->Rat):Prop:=p.F x/\∀y,p.F y->Nn (p.n+1) fun q=>ob p.n (p.C q) x-ob p.n (p.C q) y
structure Good (T:Tab):Prop where
 ok:Ok p.m p.N T
 ed:X5 p.m p.N p.A p.w T
 sol:∀x,Sol p.m p.N T x↔Sol p.m p.N p.T0 x
structure Out (T:Tab):Prop where
 z:∀i,i<p.m->p.n<=T.B i->T.b i=0/\∀j,j<p.n->T.e i j=0
variable {p:Prog}
theorem FK{i k:Nat}:p.A (i+p.n) k=if k=i then 1 else 0:=by
 unfold A;rw[su (by omega)]
 by_cases h:k=i
 .rw[sZ h,sZ (by omega)]
 .rw[su h,su (by omega)]
theorem arF(hw:∀k,k<p.m->0<=p.w k):p.Good p.T0:=by
 refine⟨⟨fun i hi=>?_,fun i k hi G=>?_,fun i hi=>hw i hi⟩,⟨fun j k J G=>?_,fun k G=>?_,?_⟩,fun x=>Iff.rfl⟩
 .show i+p.n<p.n+p.m;omega
 .exact FK
 .show p.A j k=sm (fun q=>p.A j q*p.A (q+p.n) k) p.m
  rw[dH (k:=k) G fun q _ E=>by rw[FK,su (zD E)];grind];rw[FK,sZ rfl];grind
 .show p.w k=sm (fun q=>p.w q*p.A (q+p.n) k) p.m
  rw[dH (k:=k) G fun q _ E=>by rw[FK,su (zD E)];grind];rw[FK,sZ rfl];grind
 .have e:Cm p.m (fun q=>p.A (q+p.n))=Cm p.m fun i k=>if i=k then 1 else 0:=pF fun i k _ _=>by
   rw[FK]
   by_cases h:i=k
   .rw[sZ h,sZ h.symm]
   .rw[su h,su (zD h)]
  show Cm p.m (fun q=>p.A (q+p.n))≠0;rw[e,Sl];decide
theorem Good.piv{T:Tab}(h:p.Good T){r s:Nat}(J:r<p.m)(hs:s<p.N)(E:T.e r s≠0)(G:Ok p.m p.N (Lp.piv T r s)):p.Good (Lp.piv T r s) :=
 ⟨G,h.ed.piv J hs E,fun x=>(RZ J E x).trans (h.sol x)⟩
theorem Good.step{d:Nat}{C:Nat->Nat->Rat}{Fr:Nat->Prop}{T T':Tab}(h:p.Good T)(hs:Step p.m p.N d C Fr T T'):p.Good T':=by
 have E:=hs.ok h.ok;obtain⟨s,r,J,G,rfl⟩:=hs;exact h.piv G.lt J.lt (by have:=G.pos;grind) E
theorem Good.arG{T:Tab}(h:p.Good T){r s:Nat}(G:r<p.m)(hs:s<p.N)(E:T.e r s≠0)(J:T.b r=0):p.Good (Lp.piv T r s) :=
 h.piv G hs E (abp h.ok G hs E J)
def ext(p:Prog)(x:Nat->Rat)(j:Nat):Rat:=if j<p.n then x j else 0
theorem M_(f:Nat->Rat)(n:Nat):∀m,sm f (n+m)=sm f n+sm (fun i=>f (n+i)) m
 |0=>by show sm f n=sm f n+0;grind
 |m+1=>by
  show sm f (n+m)+f (n+m)=sm f n+(sm _ m+f (n+m));rw[M_ f n m];grind
theorem arH(x:Nat->Rat):Sol p.m p.N p.T0 x↔∀k,k<p.m->sm (fun j=>p.a j k*x j) p.n+x (p.n+k)=p.w k:=by
 refine forall_congr' fun k=>?_
 have G:k<p.m->sm (fun j=>p.T0.e k j*x j) p.N=sm (fun j=>p.a j k*x j) p.n+x (p.n+k):=fun G=>by
  unfold N;rw[M_];congr 1
  .exact dL fun j O=>by show p.A j k*x j=_;unfold A;rw[sZ O]
  .rw[dH (k:=k) G fun i _ J=>by
    show p.A (p.n+i) k*_=0;rw[wV,FK,su (zD J)];grind]
   show p.A (p.n+k) k*_=_;rw[wV,FK,sZ rfl];grind
 constructor
 .intro h E
  rw[<- G E];exact h E
 .intro h E
  rw[G E];exact h E
theorem Na{T:Tab}(h:p.Good T){x:Nat->Rat}(G:p.F x):agx p.m p.N T (p.ext x):=by
 refine⟨(h.sol _).mpr ((arH _).mpr fun k J=>?_),fun j _=>?_⟩
 .rw[<- G.1 k J]
  have e:p.ext x (p.n+k)=0:=by unfold ext;rw[su (by omega)]
  rw[e,dL (g:=fun j=>p.a j k*x j) fun j E=>by unfold ext;rw[sZ E]];grind
 .unfold ext
  split
  .rename_i E;exact G.2 j E
  .exact uZ
theorem PV{T:Tab}(h:p.Good T){x:Nat->Rat}(E:agx p.m p.N T x)(J:∀k,k<p.m->x (p.n+k)=0):p.F x:=by
 refine⟨fun k G=>?_,fun j O=>E.2 j (by unfold N;omega)⟩;have:=(arH x).mp ((h.sol x).mp E.1) k G;rw[J k G]at this;grind
theorem Out.Bh{T:Tab}(h:p.Good T)(E:p.Out T){k:Nat}(G:k<p.m):Bh p.m T (p.n+k)=0:=by
 by_cases hb:basic p.m T (p.n+k)
 .obtain⟨i,hi,e⟩:=hb
  rw[<- e,Ig h.ok hi];exact(E.z i hi (by omega)).1
 .exact rE hb
theorem Out.F{T:Tab}(h:p.Good T)(E:p.Out T):p.F (Lp.Bh p.m T):=PV h (agy h.ok) fun _ G=>E.Bh h G
theorem Out.piv{T:Tab}(J:p.Out T){r s:Nat}(O:T.B r<p.n)(hs:s<p.n):p.Out (Lp.piv T r s):=by
 refine⟨fun i hi E=>?_⟩;simp only[Lp.piv]at E⊢
 by_cases e:i=r
 .rw[sZ e]at E;omega
 .rw[su e]at E
  obtain⟨S,G⟩:=J.z i hi E;rw[su e,S,G s hs];refine⟨by grind,fun j Y=>?_⟩;rw[su e,G j Y];grind
theorem Nb{c:Nat->Rat}(hc:∀j,p.n<=j->c j=0)(x:Nat->Rat):ob p.N c x=ob p.n c x:=by
 unfold ob N;rw[M_,dF (f:=fun i=>c (p.n+i)*x (p.n+i)) fun i _=>by rw[hc _ (by omega)];grind];grind
theorem PW(q:Nat){j:Nat}(E:p.n<=j):p.C q j=0:=by
 unfold C
 split
 .rw[su (by omega)]
 .rw[su (by omega)]
theorem abq(c x:Nat->Rat):ob p.n c (p.ext x)=ob p.n c x:=dL fun j E=>by unfold ext;rw[sZ E]
theorem al1(x:Nat->Rat):ob p.n (p.C 0) x=ob p.n p.c x:=dL fun j E=>by unfold C;rw[sZ rfl,sZ E]
theorem agC{q:Nat}(E:q<p.n)(x:Nat->Rat):ob p.n (p.C (q+1)) x= -x q:=by
 unfold ob;rw[dH E fun j _ G=>by unfold C;rw[su (by omega),su (by omega)];grind];unfold C;rw[su (by omega),sZ (by omega)];grind
theorem Best.eq{x y:Nat->Rat}(G:p.Best x)(J:p.Best y):∀j,j<p.n->x j=y j:=by
 have E:=G.2 y J.1;have O:=J.2 x G.1;have S:Zr (p.n+1) fun q=>ob p.n (p.C q) x-ob p.n (p.C q) y:=by
  rcases E with E|E
  .refine absurd E (Ju ?_)
   exact O.imp (Lp.congr fun q _=>by grind) (Zr.congr fun q _=>by grind)
  .exact E
 intro j Y;have:=S (j+1) (by omega);simp only[agC Y]at this;grind
theorem Nn.first{d:Nat}{v:Nat->Rat}(h:Nn (d+1) v):0<=v 0:=by
 have key:∀d,Lp (d+1) v->0<=v 0:=by
  intro d
  induction d with
  |zero=>
   rintro (h|⟨_,h⟩)
   .exact h.elim
   .exact w_ h
  |succ d E=>
   rintro (h|⟨h,_⟩)
   .exact E h
   .rw[h 0 (by omega)];exact uZ
 rcases h with h|h
 .exact key d h
 .rw[h 0 (by omega)];exact uZ
theorem Best.Wj{x:Nat->Rat}(E:p.Best x):¬p.None:=fun h=>h x E.1
theorem phase1{T:Tab}(h:p.Good T){Fr:Nat->Prop}(S:∀j,j<p.n->Fr j)(G:∀j,j<p.N->Fr j->¬basic p.m T j->¬Lp 1 (gv p.m T (fun _=>p.c1) j)) :
  (∀i,i<p.m->p.n<=T.B i->T.b i=0)\/p.None:=by
 by_cases Y:∀i,i<p.m->p.n<=T.B i->T.b i=0
 .exact .inl Y
 .refine .inr fun x hx=>Y fun i hi hB=>?_
  have h1:=optimal h.ok G (Na h hx) (fun j _ hn _=>by unfold ext;rw[su fun hj=>hn (S j hj)]);have h2:=Nn.first h1;have e:ob p.N p.c1 (p.ext x)=0:=dF fun j _=>by
   unfold c1 ext
   split<;>grind
  simp only[e]at h2;have h3:zz p.m T p.c1= -sm (fun i=>if p.n<=T.B i then T.b i else 0) p.m:=by
   unfold zz;have:=dK (-1) (fun i=>if p.n<=T.B i then T.b i else 0) p.m;have e2:-sm (fun i=>if p.n<=T.B i then T.b i else 0) p.m= -1*sm (fun i=>if p.n<=T.B i then T.b i else 0) p.m:=by grind
   rw[e2,<- this];refine dL fun i _=>?_
   unfold c1
   by_cases J:T.B i<p.n
   .rw[sZ J,su (by omega)];grind
   .rw[su J,sZ (by omega)];grind
  have h4:∀E i,i<E->E<=p.m->(if p.n<=T.B i then T.b i else 0)<=sm (fun i=>if p.n<=T.B i then T.b i else 0) E:=by
   intro E
   induction E with
   |zero=>intro i hi;omega
   |succ E ih=>
    intro i hi hm;have O:∀q,q<p.m->0<=(if p.n<=T.B q then T.b q else 0):=fun q J=>by
     split
     .exact h.ok.nb q J
     .exact uZ
    show _<=sm _ E+_
    by_cases e:i=E
    .subst e
     have:=dJ (f:=fun i=>if p.n<=T.B i then T.b i else 0) (n:=i) fun q J=>O q (by omega)
     grind
    .have h5:=ih i (by omega) (by omega)
     have h6:=O E (by omega);grind
  have h5:=h4 p.m i hi (zq _);rw[sZ hB]at h5;have h6:=h.ok.nb i hi;grind
theorem akl{T:Tab}(h:p.Good T){Fr:Nat->Prop}(G:∀j,j<p.n->Fr j)(E:∀j,j<p.N->Fr j->¬basic p.m T j->¬Lp 1 (gv p.m T (fun _=>p.c1) j)){i:Nat}(hi:i<p.m)(O:p.n<=T.B i)(hb:T.b i≠0):p.None:=by
 rcases phase1 h G E with J|J
 .exact absurd (J i hi O) hb
 .exact J
theorem abr{T:Tab}(h:p.Good T){s:Nat}(hs:s<p.N)(G:¬basic p.m T s)(E:Lp 1 (gv p.m T (fun _=>p.c1) s)):¬∀i,i<p.m->T.e i s<=0:=fun Y=>by
 have hg:0<gm p.m T p.c1 s:=by
  rcases E with E|⟨_,E⟩
  .exact E.elim
  .exact E
 have hle:∀x,(∀j,j<p.N->0<=x j)->ob p.N p.c1 x<=0:=fun x J=>by
  have:=dJ (f:=fun j=> -(p.c1 j*x j)) (n:=p.N) fun j hj=>by
   have:=J j hj;unfold c1
   split<;>grind
  have e:=dK (-1) (fun j=>p.c1 j*x j) p.N;have O:sm (fun j=> -(p.c1 j*x j)) p.N=sm (fun j=> -1*(p.c1 j*x j)) p.N:=dL fun j _=>by grind
  unfold ob;rw[O,e]at this;grind
 have ha:0<=(1-zz p.m T p.c1) / gm p.m T p.c1 s\/True:=.inr trivial;obtain⟨x,J,e⟩:=unbounded h.ok hs G Y p.c1 ((1-zz p.m T p.c1) / gm p.m T p.c1 s) (by
  have h0:=hle _ (fun j _=>rD h.ok j);rw[V9 h.ok]at h0;rw[vO];exact xX (by grind) (w_ (Rat.inv_pos.mpr hg)))
 have S:=hle x J.2;rw[e]at S;have O:(1-zz p.m T p.c1) / gm p.m T p.c1 s*gm p.m T p.c1 s=1-zz p.m T p.c1:=by grind
 rw[O]at S;grind
theorem aai{T:Tab}(h:p.Good T)(q:Nat):zz p.m T (p.C q)=ob p.n (p.C q) (Lp.Bh p.m T):=by
 rw[<- V9 h.ok,Nb fun j E=>PW q E]
theorem agD{T:Tab}(h:p.Good T)(G:p.Out T)(E:∀j,j<p.n->¬basic p.m T j->¬Lp (p.n+1) (gv p.m T p.C j)):p.Best (Lp.Bh p.m T):=by
 refine⟨G.F h,fun y J=>?_⟩;have O:=optimal (Fr:=fun j=>j<p.n) h.ok (fun j _ S hb=>E j S hb) (Na h J) (fun j _ hn _=>by unfold ext;rw[su hn]);refine O.imp (Lp.congr fun q _=>?_) (Zr.congr fun q _=>?_)
 all_goals rw[aai h,Nb fun j Y=>PW q Y,abq]
theorem Nc{T:Tab}(h:p.Good T)(ho:p.Out T){s:Nat}(hs:s<p.n)(G:¬basic p.m T s)(hg:0<gm p.m T (p.C 0) s)(FZ:∀i,i<p.m->T.e i s<=0):p.Open:=fun a=>by
 have key:∀b:Rat,0<=b->p.F fun j=>Lp.Bh p.m T j+b*dir p.m T s j:=fun b hb=>by
  have O:s<p.N:=by unfold N;omega
  refine PV h ⟨Ih h.ok O G b,fun j S=>?_⟩ fun k hk=>?_
  .show 0<=Lp.Bh p.m T j+b*dir p.m T s j
   by_cases E:basic p.m T j
   .obtain⟨i,hi,rfl⟩:=E
    rw[V_ h.ok G hi,Ig h.ok hi];have h1:=h.ok.nb i hi;have h2:=xX hb (show 0<= -T.e i s by have:=FZ i hi;grind);grind
   .by_cases e:j=s
    .subst e;rw[MW G,rE E];grind
    .rw[oP E e,rE E];grind
  .show Lp.Bh p.m T (p.n+k)+b*dir p.m T s (p.n+k)=0
   rw[ho.Bh h hk]
   by_cases E:basic p.m T (p.n+k)
   .obtain⟨i,hi,e⟩:=E
    rw[<- e,V_ h.ok G hi,(ho.z i hi (by omega)).2 s hs];grind
   .rw[oP E (by omega)];grind
 have J:∀b:Rat,ob p.n p.c (fun j=>Lp.Bh p.m T j+b*dir p.m T s j)=zz p.m T (p.C 0)+b*gm p.m T (p.C 0) s:=fun b=>by
  have O:s<p.N:=by unfold N;omega
  rw[<- al1,<- Nb (fun j S=>PW 0 S),jG (Ih h.ok O G b)];congr 1;unfold ob;rw[dH O fun j S Y=>?_]
  .show gm p.m T (p.C 0) s*(Lp.Bh p.m T s+b*dir p.m T s s)=_
   rw[MW G,rE G];grind
  .by_cases E:basic p.m T j
   .obtain⟨i,hi,rfl⟩:=E
    rw[OO h.ok _ hi,Rat.zero_mul]
   .show gm p.m T (p.C 0) j*(Lp.Bh p.m T j+b*dir p.m T s j)=0
    rw[oP E Y,rE E];grind
 by_cases a1:a<=zz p.m T (p.C 0)
 .refine⟨_,key 0 uZ,?_⟩
  rw[J];grind
 .refine⟨_,key ((a-zz p.m T (p.C 0)) / gm p.m T (p.C 0) s) ?_,?_⟩
  .rw[vO]
   exact xX (by grind) (w_ (Rat.inv_pos.mpr hg))
  .rw[J]
   have e2:(a-zz p.m T (p.C 0)) / gm p.m T (p.C 0) s*gm p.m T (p.C 0) s=a-zz p.m T (p.C 0):=by grind
   rw[e2];grind
structure Ed (p:Prog) (q:Nat) (v:Nat->Rat) (Fr:Nat->Prop) (T:Tab):Prop where
 top:∀y,p.F y->Nn q (fun i=>v i-ob p.n (p.C i) y)/\(Zr q (fun i=>v i-ob p.n (p.C i) y)->∀j,j<p.n->¬Fr j->y j=0)
 all:∀y,p.F y->(∀j,j<p.n->¬Fr j->y j=0)->∀i,i<q->ob p.n (p.C i) y=v i
 non:∀j,j<p.n->¬Fr j->¬basic p.m T j
 inn:∀j,Fr j->j<p.n
theorem stage0{T:Tab}:Ed p 0 (fun _=>0) (fun j=>j<p.n) T :=
 ⟨fun y _=>⟨.inr fun q G=>by omega,fun _ j E hn=>absurd E hn⟩,fun y _ _ i hi=>by omega,fun j E hn=>absurd E hn,fun _ h=>h⟩
theorem Ed.step{q d:Nat}{v:Nat->Rat}{Fr:Nat->Prop}{C:Nat->Nat->Rat}{T T':Tab}(h:Ed p q v Fr T)(hs:Step p.m p.N d C Fr T T'):Ed p q v Fr T':=by
 obtain⟨s,r,E,G,rfl⟩:=hs;refine⟨h.top,h.all,fun j J hn hb=>?_,h.inn⟩;rcases (r_ G.lt j).mp hb with rfl|⟨i,hi,_,e⟩
 .exact hn E.fr
 .exact h.non j J hn ⟨i,hi,e⟩
theorem Ed.next{q:Nat}{v:Nat->Rat}{Fr Fr':Nat->Prop}{T:Tab}(hg:p.Good T)(ho:p.Out T)(h:Ed p q v Fr T)
  (a1:∀j,j<p.n->Fr j->¬basic p.m T j->¬0<gm p.m T (p.C q) j) (J:∀j,j<p.n->(Fr' j↔Fr j/\(basic p.m T j\/¬gm p.m T (p.C q) j<0))) (a7:∀j,Fr' j->j<p.n) :
  Ed p (q+1) (fun i=>if i=q then zz p.m T (p.C q)else v i) Fr' T:=by
 have val:∀y,p.F y->ob p.n (p.C q) y=zz p.m T (p.C q)+sm (fun j=>gm p.m T (p.C q) j*p.ext y j) p.N:=fun y O=>by
  rw[<- abq,<- Nb fun j E=>PW q E,jG (Na hg O).1];rfl
 have vq:∀i,i<q->(if i=q then zz p.m T (p.C q)else v i)=v i:=fun i hi=>su (by omega)
 have term:∀y,p.F y->(∀j,j<p.n->¬Fr j->y j=0)->∀j,gm p.m T (p.C q) j*p.ext y j<=0:=fun y O S j=>by
  unfold ext
  split
  .rename_i E
   by_cases G:Fr j
   .by_cases hb:basic p.m T j
    .obtain⟨i,hi,rfl⟩:=hb
     rw[OO hg.ok _ hi];grind
    .have Y:=a1 j E G hb
     have h2:=O.2 j E;have:=xX (show 0<= -gm p.m T (p.C q) j by grind) h2;grind
   .rw[S j E G];grind
  .grind
 refine⟨fun y O=>?_,fun y O S i hi=>?_,fun j E hn=>?_,a7⟩
 .obtain⟨Y,h2⟩:=h.top y O
  rcases Y with Y|Y
  .have h3:Lp q fun i=>(if i=q then zz p.m T (p.C q)else v i) - ob p.n (p.C i) y:=Y.congr fun i hi=>by rw[vq i hi]
   exact⟨.inl (.inl h3),fun S=>absurd (Zr.succ.mp S).1 h3.Gl⟩
  .have S:=h2 Y
   have h3:Zr q fun i=>(if i=q then zz p.m T (p.C q)else v i) - ob p.n (p.C i) y:=Y.congr fun i hi=>by rw[vq i hi]
   have b5:=dJ (f:=fun j=> -(gm p.m T (p.C q) j*p.ext y j)) (n:=p.N) fun j _=>by have:=term y O S j;grind
   have e:=dK (-1) (fun j=>gm p.m T (p.C q) j*p.ext y j) p.N;have e2:sm (fun j=> -(gm p.m T (p.C q) j*p.ext y j)) p.N=sm (fun j=> -1*(gm p.m T (p.C q) j*p.ext y j)) p.N:=dL fun j _=>by grind
   have hv:=val y O;have hd:(if q=q then zz p.m T (p.C q)else v q) - ob p.n (p.C q) y=sm (fun j=> -(gm p.m T (p.C q) j*p.ext y j)) p.N:=by
    rw[sZ rfl,hv,e2,e];grind
   by_cases h0:sm (fun j=> -(gm p.m T (p.C q) j*p.ext y j)) p.N=0
   .refine⟨.inr (Zr.succ.mpr ⟨h3,by show(if q=q then zz p.m T (p.C q)else v q) - ob p.n (p.C q) y=0;rw[hd];exact h0⟩),fun _ j E hn=>?_⟩
    by_cases G:Fr j
    .have a8:¬basic p.m T j/\gm p.m T (p.C q) j<0:=by
      refine⟨fun hb=>hn ((J j E).mpr ⟨G,.inl hb⟩),?_⟩;refine zf fun b2=>hn ((J j E).mpr ⟨G,.inr b2⟩)
     have each:∀N (f:Nat->Rat),(∀j,0<=f j)->sm f N=0->∀j,j<N->f j=0:=by
      intro N f G
      induction N with
      |zero=>intro _ j E;omega
      |succ N ih=>
       intro h0 j E;have h4:=dJ (f:=f) (n:=N) fun j _=>G j
       have h5:=G N;have h6:sm f N+f N=0:=h0
       by_cases e:j=N
       .subst e;grind
       .exact ih (by grind) j (by omega)
     have h4:=each p.N _ (fun j=>by have:=term y O S j;grind) h0 j (by unfold N;omega);have h5:gm p.m T (p.C q) j*y j=0:=by
      have:p.ext y j=y j:=by unfold ext;rw[sZ E]
      rw[this]at h4;grind
     rcases Rat.mul_eq_zero.mp h5 with h6|h6
     .have:=a8.2;grind
     .exact h6
    .exact S j E G
   .have a6:0<sm (fun j=> -(gm p.m T (p.C q) j*p.ext y j)) p.N:=by grind
    refine⟨.inl (.inr ⟨h3,by show 0<(if q=q then zz p.m T (p.C q)else v q) - ob p.n (p.C q) y;rw[hd];exact a6⟩),fun b3=>?_⟩;have:(if q=q then zz p.m T (p.C q)else v q) - ob p.n (p.C q) y=0:=(Zr.succ.mp b3).2;rw[hd]at this;exact absurd this h0
 .have b4:∀j,j<p.n->¬Fr j->y j=0:=fun j E hn=>S j E fun G=>hn ((J j E).mp G).1
  by_cases e:i=q
  .subst e
   rw[sZ rfl,val y O,dF fun j _=>?_]
   .grind
   .unfold ext
    split
    .rename_i E
     by_cases G:Fr' j
     .obtain⟨Y,h2⟩:=(J j E).mp G
      rcases h2 with ⟨i,hi,rfl⟩|h2
      .rw[OO hg.ok _ hi];grind
      .by_cases hb:basic p.m T j
       .obtain⟨i,hi,rfl⟩:=hb
        rw[OO hg.ok _ hi];grind
       .have h3:=a1 j E Y hb
        have:gm p.m T (p.C i) j=0:=by grind
        rw[this];grind
     .rw[S j E G];grind
    .grind
  .rw[vq i (by omega)]
   exact h.all y O b4 i (by omega)
 .intro hb
  by_cases G:Fr j
  .exact hn ((J j E).mpr ⟨G,.inl hb⟩)
  .exact h.non j E G hb
theorem Ed.best{v:Nat->Rat}{Fr:Nat->Prop}{T:Tab}(O:p.Good T)(S:p.Out T)(h:Ed p (p.n+1) v Fr T):p.Best (Lp.Bh p.m T):=by
 have G:=S.F O;refine⟨G,fun y Y=>?_⟩;have J:=h.all _ G fun j hj hn=>rE (h.non j hj hn)
 exact(h.top y Y).1.imp (Lp.congr fun q E=>by rw[J q E]) (Zr.congr fun q E=>by rw[J q E])
theorem Sr{T:Tab}(h:p.Good T){q s:Nat}(G:q<p.n)(hs:s<p.n)(E:¬basic p.m T s)(J:0<gm p.m T (p.C (q+1)) s):¬∀i,i<p.m->T.e i s<=0:=fun O=>by
 have S:s<p.N:=by unfold N;omega
 have hz:zz p.m T (p.C (q+1))<=0:=by
  rw[aai h,agC G];have:=rD h.ok q;grind
 obtain⟨x,Y,e⟩:=unbounded h.ok S E O (p.C (q+1)) ((1-zz p.m T (p.C (q+1))) / gm p.m T (p.C (q+1)) s) (by
  rw[vO];exact xX (by grind) (w_ (Rat.inv_pos.mpr J)))
 rw[Nb fun j hj=>PW _ hj,agC G]at e;have e2:(1-zz p.m T (p.C (q+1))) / gm p.m T (p.C (q+1)) s*gm p.m T (p.C (q+1)) s=1-zz p.m T (p.C (q+1)):=by grind
 rw[e2]at e;have:=Y.2 q (by unfold N;omega);grind
theorem adL{T:Tab}(h:p.Good T){s:Nat}(hs:s<p.n)(G:¬basic p.m T s)(J:Lp (p.n+1) (gv p.m T p.C s))(O:∀i,i<p.m->T.e i s<=0):0<gm p.m T (p.C 0) s:=by
 have key:∀d,d<=p.n->Lp (d+1) (gv p.m T p.C s)->0<gm p.m T (p.C 0) s:=by
  intro d
  induction d with
  |zero=>
   rintro _ (E|⟨_,E⟩)
   .exact E.elim
   .exact E
  |succ d S=>
   rintro Y (E|⟨_,E⟩)
   .exact S (by omega) E
   .exact absurd O (Sr h (q:=d) (by omega) hs G E)
 exact key p.n (zq _) J
end Prog
end Go.Lp
namespace Go.Lp
structure TZ where
 R:List (List Int)
 AV:Int
 B:List Nat
 fr:List Bool
def DK(R:List (List Int))(i:Nat):List Int:=R.getD i []
def en(R:List (List Int))(i j:Nat):Int:=(DK R i).getD j 0
def EH(p f b:Int)(x y:List Int):List Int:=List.zipWith (fun u v=>(u*p-f*v).tdiv b) x y
def Bl(R:List (List Int))(r k:Nat)(b:Int):List (List Int):=R.mapIdx fun i x=>if i=r then x else EH (en R r k) (x.getD k 0) b x (DK R r)
def negR(R:List (List Int)):List (List Int):=R.map fun x=>x.map fun z=> -z
def FM(D:TZ)(r k:Nat):TZ :=
 if 0<en D.R r k then ⟨Bl D.R r k D.AV,en D.R r k,D.B.set r k,D.fr⟩else ⟨negR (Bl D.R r k D.AV),-en D.R r k,D.B.set r k,D.fr⟩
theorem fG{R:List (List Int)}{i:Nat}(h:i<R.length):DK R i=R[i]:=by unfold DK;rw[zx,zy h];rfl
theorem iJ(R:List (List Int))(r k:Nat)(b:Int):(Bl R r k b).length=R.length:=by unfold Bl;rw[List.length_mapIdx]
theorem Nh(R:List (List Int)):(negR R).length=R.length:=by unfold negR;rw[zV]
theorem agE(R:List (List Int))(i j:Nat):en (negR R) i j= -en R i j:=by
 unfold en DK negR;rw[zx,zx,zx,zx,z_];cases R[i]? with
 |none=>simp
 |some x=>
  simp only[zH,yB,z_];cases x[j]?<;>simp
theorem J6(R:List (List Int))(r k j:Nat)(b:Int):en (Bl R r k b) r j=en R r j:=by
 unfold en DK Bl;simp only[zx,uO];cases R[r]?<;>simp
theorem agF{R:List (List Int)}{r k i j:Nat}{b:Int}{n:Nat}(hn:∀x∈R,x.length=n)(hi:i<R.length)(G:r<R.length)(Y:j<n)(E:i≠r):en (Bl R r k b) i j=(en R i j*en R r k-en R i k*en R r j).tdiv b:=by
 have J:DK (Bl R r k b) i=EH (en R r k) (en R i k) b (DK R i) (DK R r):=by
  show(Bl R r k b).getD i []=_;unfold Bl;rw[zx,uO,zy hi];simp only[zH,yB,su E];unfold en;rw[fG hi]
 have l1:(DK R i).length=n:=by rw[fG hi];exact hn _ (zu hi)
 have l2:(DK R r).length=n:=by rw[fG G];exact hn _ (zu G)
 have key:∀(x y:List Int) (f:Int->Int->Int),j<x.length->j<y.length->(List.zipWith f x y).getD j 0=f (x.getD j 0) (y.getD j 0):=fun x y f O S=>by
  rw[zx,zx,zx,List.getElem?_zipWith,zy O,zy S];rfl
 show(DK (Bl R r k b) i).getD j 0=_;rw[J];unfold EH;rw[key _ _ _ (by omega) (by omega)];rfl
structure Vw (p:Prog) (T:Tab) (D:TZ) (ι:List Nat):Prop where
 len:ι.length=D.R.length
 A8:D.B.length=D.R.length
 row:∀x∈D.R,x.length=p.N+1
 lt:∀r∈ι,r<p.m
 nd:ι.Nodup
 ent:∀i j,i<D.R.length->j<p.N->(en D.R i j:Rat)=D.AV*T.e (ι.getD i 0) j
 rhs:∀i,i<D.R.length->(en D.R i p.N:Rat)=D.AV*T.b (ι.getD i 0)
 Bh:∀i,i<D.R.length->D.B.getD i 0=T.B (ι.getD i 0)
 pos:0<D.AV
 Cm:(D.AV:Rat)=Lp.Cm p.m (fun q=>p.A (T.B q))\/(D.AV:Rat)= -Lp.Cm p.m (fun q=>p.A (T.B q))
 hid:∀r,r<p.m->r∉ι->p.n<=T.B r/\T.b r=0/\∀j,j<p.n->T.e r j=0
structure Whole (p:Prog) (M:Nat):Prop where
 one:1<=M
 a:∀j k,j<p.n->k<p.m->ZB M (p.a j k)
 w:∀k,k<p.m->ZB M (p.w k)
theorem Whole.A{p:Prog}{M:Nat}(h:Whole p M)(j k:Nat)(E:j<p.N)(G:k<p.m):ZB M (p.A j k):=by
 unfold Prog.A
 split
 .rename_i J;exact h.a j k J G
 .split
  .exact⟨1,rfl,h.one⟩
  .exact⟨0,rfl,vS _⟩
section
variable {p:Prog} {T:Tab} {D:TZ} {ι:List Nat} {M:Nat}
theorem lN{l:List Nat}{i:Nat}(h:i<l.length):l.getD i 0∈l:=by
 rw[zx,zy h];exact zu h
theorem lS{l:List Nat}(hn:l.Nodup){i k:Nat}(hi:i<l.length)(E:k<l.length)(e:l.getD i 0=l.getD k 0):i=k:=by
 rw[zx,zx,zy hi,zy E]at e;exact(ug hn).mp e
theorem jU{l:List Nat}{r:Nat}(h:r∈l):∃i,i<l.length/\l.getD i 0=r:=by
 obtain⟨i,hi,e⟩:=List.mem_iff_getElem.mp h;exact⟨i,hi,by rw[zx,zy hi];exact e⟩
theorem Vw.io(h:Vw p T D ι){i:Nat}(hi:i<D.R.length):ι.getD i 0<p.m:=h.lt _ (lN (by rw[h.len];exact hi))
theorem Nj{M:Nat}{b q d:Rat}(hb:b=d\/b= -d)(h:ZB M (q*d)):ZB M (b*q):=by
 obtain⟨z,e,E⟩:=h;rcases hb with rfl|rfl
 .exact⟨z,by rw[<- e];grind,E⟩
 .exact⟨-z,by rw[vX,<- e];grind,by omega⟩
theorem ZB.int{M:Nat}{z:Int}(h:ZB M (z:Rat)):z.natAbs<=M:=by
 obtain⟨y,e,h⟩:=h;have:z=y:=by exact_mod_cast e
 rw[this];exact h
theorem Vw.bound(h:Vw p T D ι)(E:p.Good T)(hw:Whole p M):(∀i j,i<D.R.length->j<=p.N->(en D.R i j).natAbs<=fact M p.m)/\D.AV.natAbs<=fact M p.m:=by
 refine⟨fun i j hi O=>ZB.int ?_,ZB.int ?_⟩
 .by_cases e:j=p.N
  .subst e
   rw[h.rhs i hi];exact Nj h.Cm (E.ed.Gm E.ok.bn hw.A hw.w (h.io hi))
  .rw[h.ent i j hi (by omega)]
   exact Nj h.Cm (E.ed.MZ E.ok.bn hw.A (h.io hi) (by omega))
 .obtain⟨z,e,J⟩:=E.ed.E_ E.ok.bn hw.A
  rcases h.Cm with G|G
  .rw[G];exact⟨z,e,J⟩
  .rw[G];exact⟨-z,by rw[vX,e],by omega⟩
theorem Vw.ne(h:Vw p T D ι):(D.AV:Rat)≠0:=by
 have:=h.pos;intro e;have:D.AV=0:=by exact_mod_cast e
 omega
theorem Vw.pos'(h:Vw p T D ι):(0:Rat)<D.AV:=by have:=h.pos;exact_mod_cast this
theorem adM{X b z:Int}(hb:b≠0)(h:X=b*z):X.tdiv b=z:=by rw[h,Int.mul_tdiv_cancel_left _ hb]
theorem Vw.cell(h:Vw p T D ι){r k:Nat}(hg:p.Good T)(hw:Whole p M)(O:r<D.R.length)(S:k<p.N)(E:en D.R r k≠0)(G:Ok p.m p.N (piv T (ι.getD r 0) k)) :
  (∀i j,i<D.R.length->i≠r->j<p.N->((en D.R i j*en D.R r k-en D.R i k*en D.R r j).tdiv D.AV:Rat)=en D.R r k*(piv T (ι.getD r 0) k).e (ι.getD i 0) j) /\
  (∀i,i<D.R.length->i≠r->((en D.R i p.N*en D.R r k-en D.R i k*en D.R r p.N).tdiv D.AV:Rat)=en D.R r k*(piv T (ι.getD r 0) k).b (ι.getD i 0)):=by
 have hb:=h.ne;have a1:D.AV≠0:=by have:=h.pos;omega
 have hp:(en D.R r k:Rat)≠0:=fun e=>E (by exact_mod_cast e)
 have ep:=h.ent r k O S;have he:T.e (ι.getD r 0) k≠0:=fun e=>hp (by rw[ep,e];grind)
 have Y:=hg.piv (h.io O) S he G;have hd:=hg.ed.abo (h.io O) S;have neq:∀i,i<D.R.length->i≠r->¬ι.getD i 0=ι.getD r 0:=fun i hi E e=>E (lS h.nd (by rw[h.len];exact hi) (by rw[h.len];exact O) e)
 have fin:∀(x f y xx ff yy:Rat),x=D.AV*xx->f=D.AV*ff->y=D.AV*yy->x*en D.R r k-f*y=D.AV*(en D.R r k*(xx-ff*(yy / T.e (ι.getD r 0) k))):=fun x f y xx ff yy h1 h2 h3=>by
  subst h1 h2 h3;rw[ep];grind
 have whole:∀q:Rat,ZB (fact M p.m) (q*Lp.Cm p.m fun i=>p.A ((piv T (ι.getD r 0) k).B i))->∃z:Int,(en D.R r k:Rat)*q=z:=fun q hq=>by
  rw[hd]at hq;have:ZB (fact M p.m) ((T.e (ι.getD r 0) k*q)*Lp.Cm p.m fun i=>p.A (T.B i)):=by
   obtain⟨z,e,hz⟩:=hq;exact⟨z,by rw[<- e];grind,hz⟩
  obtain⟨z,e,_⟩:=Nj h.Cm this;exact⟨z,by rw[<- e,ep];grind⟩
 have close:∀(X:Int) (q:Rat),(X:Rat)=D.AV*(en D.R r k*q)->(∃z:Int,(en D.R r k:Rat)*q=z)->((X.tdiv D.AV:Int):Rat)=en D.R r k*q:=fun X q hX ⟨z,hz⟩=>by
  have:X=D.AV*z:=by
   rw[hz]at hX
   exact_mod_cast hX
  rw[adM a1 this,hz]
 refine⟨fun i j hi J hj=>?_,fun i hi J=>?_⟩
 .refine close _ _ ?_ (whole _ (Y.ed.MZ G.bn hw.A (h.io hi) hj))
  rw[Rat.intCast_sub,vV,vV,fin _ _ _ _ _ _ (h.ent i j hi hj) (h.ent i k hi S) (h.ent r j O hj)];simp only[piv,su (neq i hi J)]
 .refine close _ _ ?_ (whole _ (Y.ed.Gm G.bn hw.A hw.w (h.io hi)))
  rw[Rat.intCast_sub,vV,vV,fin _ _ _ _ _ _ (h.rhs i hi) (h.ent i k hi S) (h.rhs r O)];simp only[piv,su (neq i hi J)]
theorem lM{l:List Nat}{r k i:Nat}(hi:i<l.length):(l.set r k).getD i 0=if i=r then k else l.getD i 0:=by
 rw[zx,List.getElem?_set,zx]
 by_cases h:r=i
 .subst h;rw[sZ rfl,sZ hi,sZ rfl];rfl
 .rw[su h,su (zD h)]
theorem Nk{R:List (List Int)}{n:Nat}(h:∀x∈R,x.length=n){r k:Nat}(E:r<R.length)(b:Int):∀x∈Bl R r k b,x.length=n:=fun x G=>by
 unfold Bl at G;obtain⟨i,hi,rfl⟩:=List.mem_mapIdx.mp G
 split
 .exact h _ (zu hi)
 .unfold EH
  rw[uD,h _ (zu hi),fG E,h _ (zu E)];omega
theorem Vw.piv(h:Vw p T D ι){r k:Nat}(hg:p.Good T)(hw:Whole p M)(J:r<D.R.length)(hk:k<p.N)(O:en D.R r k≠0)(a6:Ok p.m p.N (piv T (ι.getD r 0) k))(hh:k<p.n\/∀r',r'<p.m->r'∈ι) :
  Vw p (Lp.piv T (ι.getD r 0) k) (FM D r k) ι:=by
 obtain⟨c1,c2⟩:=h.cell hg hw J hk O a6;have hp:(en D.R r k:Rat)≠0:=fun e=>O (by exact_mod_cast e)
 have ep:=h.ent r k J hk;have he:T.e (ι.getD r 0) k≠0:=fun e=>hp (by rw[ep,e];grind)
 have hd:=hg.ed.abo (h.io J) hk;have neq:∀i,i<D.R.length->i≠r->¬ι.getD i 0=ι.getD r 0:=fun i hi O e=>O (lS h.nd (by rw[h.len];exact hi) (by rw[h.len];exact J) e)
 have E:∀i j,i<D.R.length->j<p.N->(en (Bl D.R r k D.AV) i j:Rat)=en D.R r k*(Lp.piv T (ι.getD r 0) k).e (ι.getD i 0) j:=fun i j hi S=>by
  by_cases e:i=r
  .subst e
   rw[J6,h.ent i j hi S,ep];simp only[Lp.piv,if_true];grind
  .rw[agF h.row hi J (by omega) e]
   exact c1 i j hi e S
 have Rh:∀i,i<D.R.length->(en (Bl D.R r k D.AV) i p.N:Rat)=en D.R r k*(Lp.piv T (ι.getD r 0) k).b (ι.getD i 0):=fun i hi=>by
  by_cases e:i=r
  .subst e
   rw[J6,h.rhs i hi,ep];simp only[Lp.piv,if_true];grind
  .rw[agF h.row hi J (by omega) e]
   exact c2 i hi e
 have hB:∀i,i<D.R.length->(D.B.set r k).getD i 0=(Lp.piv T (ι.getD r 0) k).B (ι.getD i 0):=fun i hi=>by
  rw[lM (by rw[h.A8];exact hi)];simp only[Lp.piv]
  by_cases e:i=r
  .subst e;rw[sZ rfl,sZ rfl]
  .rw[su e,su (neq i hi e),h.Bh i hi]
 have hid:∀q,q<p.m->q∉ι->p.n<=(Lp.piv T (ι.getD r 0) k).B q/\(Lp.piv T (ι.getD r 0) k).b q=0/\∀j,j<p.n->(Lp.piv T (ι.getD r 0) k).e q j=0:=fun q hq hn=>by
  rcases hh with hh|hh
  .obtain⟨Y,h2,h3⟩:=h.hid q hq hn
   have a7:¬q=ι.getD r 0:=fun e=>hn (by rw[e];exact lN (by rw[h.len];exact J))
   simp only[Lp.piv,su a7,h2,h3 k hh];refine⟨Y,by grind,fun j S=>?_⟩;rw[h3 j S];grind
  .exact absurd (hh q hq) hn
 have a1:(en D.R r k:Rat)=Lp.Cm p.m (fun q=>p.A ((Lp.piv T (ι.getD r 0) k).B q))\/(en D.R r k:Rat)= -Lp.Cm p.m (fun q=>p.A ((Lp.piv T (ι.getD r 0) k).B q)):=by
  rw[hd,ep];rcases h.Cm with Y|Y<;>rw[Y]
  .exact .inl (by grind)
  .exact .inr (by grind)
 unfold FM
 by_cases G:0<en D.R r k
 .rw[sZ G]
  exact⟨by rw[h.len];exact(iJ ..).symm,by show(D.B.set r k).length=(Bl D.R r k D.AV).length;rw[yK,iJ];exact h.A8,Nk h.row J _,h.lt,h.nd,
   fun i j hi S=>E i j (by rw[iJ]at hi;exact hi) S,fun i hi=>Rh i (by rw[iJ]at hi;exact hi),fun i hi=>hB i (by rw[iJ]at hi;exact hi),G,a1,hid⟩
 .rw[su G]
  have hl:(negR (Bl D.R r k D.AV)).length=D.R.length:=by rw[Nh,iJ]
  refine⟨by rw[h.len];exact hl.symm,by show(D.B.set r k).length=(negR (Bl D.R r k D.AV)).length;rw[yK,hl];exact h.A8,fun x hx=>?_,h.lt,h.nd,
   fun i j hi S=>?_,fun i hi=>?_,fun i hi=>hB i (by rw[hl]at hi;exact hi),by show 0< -en D.R r k;omega,?_,hid⟩
  .unfold negR at hx
   obtain⟨y,hy,rfl⟩:=List.mem_map.mp hx;rw[zV];exact Nk h.row J _ y hy
  .show((en (negR (Bl D.R r k D.AV)) i j:Int):Rat)=((-en D.R r k:Int):Rat)*_
   rw[agE,vX,vX,E i j (by rw[hl]at hi;exact hi) S];grind
  .show((en (negR (Bl D.R r k D.AV)) i p.N:Int):Rat)=((-en D.R r k:Int):Rat)*_
   rw[agE,vX,vX,Rh i (by rw[hl]at hi;exact hi)];grind
  .show((-en D.R r k:Int):Rat)=_\/((-en D.R r k:Int):Rat)=_
   rw[vX];rcases a1 with Y|Y<;>rw[Y]
   .exact .inr rfl
   .exact .inl (by grind)
end
end Go.Lp
namespace Go.Lp
def sl(f:Nat->Rat):List Nat->Rat
 |[]=>0
 |r :: l=>f r+sl f l
theorem Wn{f g:Nat->Rat}:∀ {l:List Nat},(∀r∈l,f r=g r)->sl f l=sl g l
 |[],_=>rfl
 |r :: l,h=>by unfold sl;rw[h r zQ,Wn fun q E=>h q (zY _ E)]
theorem Wp{m:Nat}:∀ {l:List Nat} {f:Nat->Rat},l.Nodup->(∀r∈l,r<m)->(∀r,r<m->r∉l->f r=0)->sl f l=sm f m
 |[],f,_,_,hz=>(dF fun r E=>hz r E zJ).symm
 |a :: l,f,hn,hl,hz=>by
  rw[xw]at hn;have J:=hl a zQ;have O:=Wp (m:=m) (l:=l) (f:=fun r=>if r=a then 0 else f r) hn.2 (fun r E=>hl r (zY _ E)) fun r E S=>by
   show(if r=a then(0:Rat)else f r)=0
   split
   .rfl
   .rename_i e;exact hz r E (by simp[e,S])
  have Y:sl (fun r=>if r=a then 0 else f r) l=sl f l:=Wn fun r E=>su (fun e:r=a=>hn.1 (e ▸ E))
  have h3:sm f m=sm (fun r=>if r=a then 0 else f r) m+sm (fun r=>if r=a then f r else 0) m:=by
   rw[<- dM];refine dL fun r _=>?_
   by_cases e:r=a
   .rw[sZ e,sZ e];grind
   .rw[su e,su e];grind
  show f a+sl f l=_;rw[h3,<- O,Y,dH J fun r _ G=>su G,sZ rfl];grind
def DZ(o:Nat->Int)(k:Nat):List (List Int)->List Nat->Int
 |x :: R,b :: B=>DZ o k R B-x.getD k 0*o b
 |_,_=>0
def Bj(D:TZ)(o:Nat->Int)(k:Nat):Int:=D.AV*o k+DZ o k D.R D.B
structure Ik (n:Nat) (D:TZ) (o:Nat->Int) (s:Nat):Prop where
 lt:s<n
 fr:D.fr.getD s false=true
 non:s∉D.B
 pos:0<Bj D o s
 low:∀j,j<s->D.fr.getD j false=true->j∉D.B->¬0<Bj D o j
structure abt (n:Nat) (D:TZ) (s r:Nat):Prop where
 lt:r<D.R.length
 pos:0<en D.R r s
 low:∀i,i<D.R.length->0<en D.R i s->en D.R r n*en D.R i s<=en D.R i n*en D.R r s
 tie:∀i,i<D.R.length->0<en D.R i s->en D.R r n*en D.R i s=en D.R i n*en D.R r s->D.B.getD r 0<=D.B.getD i 0
def EI(n:Nat)(o:Nat->Int)(D E:TZ):Prop:=∃s r,Ik n D o s/\abt n D s r/\E=FM D r s
def Il(n:Nat)(o:Nat->Int):Nat->TZ->Prop
 |0,_=>False
 |k+1,D=>∀E,EI n o D E->Il n o k E
section
variable {p:Prog} {T:Tab} {D:TZ} {ι:List Nat} {M:Nat} {o:Nat->Int}
theorem Wq(b:Rat)(k:Nat)(f:Nat->Rat)(B:Nat->Nat):∀(R:List (List Int)) (E:List Nat) (l:List Nat),l.length=R.length->E.length=R.length ->
  (∀i,i<R.length->(en R i k:Rat)=b*f (l.getD i 0))->(∀i,i<R.length->E.getD i 0=B (l.getD i 0)) ->
  (DZ o k R E:Rat)= -(b*sl (fun r=>f r*o (B r)) l)
 |[],E,l,h1,h2,_,_=>by
  cases l with
  |nil=>simp[DZ,sl]
  |cons a l=>simp at h1
 |x :: R,[],l,_,h2,_,_=>by simp at h2
 |x :: R,b' :: E,[],h1,_,_,_=>by simp at h1
 |x :: R,b' :: E,a :: l,h1,h2,h3,h4=>by
  have G:=h3 0 (by simp);have J:b'=B a:=h4 0 (by simp);have O:(x.getD k 0:Rat)=b*f a:=G;have S:=Wq b k f B R E l (by simpa using h1) (by simpa using h2) (fun i hi=>h3 (i+1) (by simpa using hi)) (fun i hi=>h4 (i+1) (by simpa using hi));show((DZ o k R E-x.getD k 0*o b':Int):Rat)= -(b*(f a*o (B a)+sl _ l));rw[Rat.intCast_sub,vV,S,O,J];grind
theorem Vw.gain(h:Vw p T D ι){k:Nat}(E:k<p.N)(G:∀r,r<p.m->r∉ι->T.e r k*o (T.B r)=0):(Bj D o k:Rat)=D.AV*gm p.m T (fun j=>o j) k:=by
 unfold Bj;rw[Rat.intCast_add,vV,Wq D.AV k (fun r=>T.e r k) T.B D.R D.B ι h.len h.A8 (fun i hi=>h.ent i k hi E) h.Bh,Wp h.nd h.lt G];unfold gm;grind
theorem Vw.mem(h:Vw p T D ι){s:Nat}(E:s<p.n\/∀r',r'<p.m->r'∈ι):s∈D.B↔basic p.m T s:=by
 constructor
 .intro hs
  obtain⟨i,hi,e⟩:=jU hs;rw[h.A8]at hi;exact⟨_,h.io hi,by rw[<- h.Bh i hi,e]⟩
 .rintro ⟨r,G,rfl⟩
  have hm:r∈ι:=by
   refine zf fun hn=>?_
   rcases E with E|E
   .have:=(h.hid r G hn).1;omega
   .exact hn (E r G)
  obtain⟨i,hi,rfl⟩:=jU hm;rw[h.len]at hi;rw[<- h.Bh i hi];exact lN (by rw[h.A8];exact hi)
theorem Vw.sign(h:Vw p T D ι){i k:Nat}(hi:i<D.R.length)(J:k<p.N):(0<en D.R i k↔0<T.e (ι.getD i 0) k)/\(en D.R i k=0↔T.e (ι.getD i 0) k=0):=by
 have e:=h.ent i k hi J;have hb:=h.pos';have O:(0:Rat)<en D.R i k↔0<en D.R i k:=by
  constructor
  .intro h;exact_mod_cast h
  .intro h;exact_mod_cast h
 refine⟨?_,?_⟩
 .rw[<- O,e]
  constructor
  .intro E
   refine zf fun G=>?_
   have:=xX (w_ hb) (show 0<= -T.e (ι.getD i 0) k by grind);grind
  .intro E;exact Rat.mul_pos hb E
 .constructor
  .intro E
   have:(en D.R i k:Rat)=0:=by rw[E];rfl
   rw[e]at this;rcases Rat.mul_eq_zero.mp this with G|G
   .exact absurd G h.ne
   .exact G
  .intro E
   have:(en D.R i k:Rat)=0:=by rw[e,E];grind
   exact_mod_cast this
theorem Vw.al2(h:Vw p T D ι){i:Nat}(hi:i<D.R.length):en D.R i p.N=0↔T.b (ι.getD i 0)=0:=by
 have e:=h.rhs i hi;constructor
 .intro E
  have:(en D.R i p.N:Rat)=0:=by rw[E];rfl
  rw[e]at this;rcases Rat.mul_eq_zero.mp this with G|G
  .exact absurd G h.ne
  .exact G
 .intro E
  have:(en D.R i p.N:Rat)=0:=by rw[e,E];grind
  exact_mod_cast this
theorem Vw.nonneg(h:Vw p T D ι)(E:Ok p.m p.N T){i:Nat}(hi:i<D.R.length):0<=en D.R i p.N:=by
 have e:=h.rhs i hi;have:(0:Rat)<=en D.R i p.N:=by rw[e];exact xX (w_ h.pos') (E.nb _ (h.io hi))
 exact_mod_cast this
theorem Vw.leaves(h:Vw p T D ι){s r:Nat}(hs:s<p.N)(O:s<p.n\/∀r',r'<p.m->r'∈ι)(G:abt p.N D s r):Leaves p.m T s (ι.getD r 0):=by
 have seen:∀i,i<p.m->0<T.e i s->∃q,q<D.R.length/\ι.getD q 0=i:=fun i hi J=>by
  have hm:i∈ι:=by
   refine zf fun hn=>?_
   rcases O with O|O
   .have:=(h.hid i hi hn).2.2 s O;grind
   .exact hn (O i hi)
  obtain⟨q,E,e⟩:=jU hm;exact⟨q,by rw[<- h.len];exact E,e⟩
 have Y:(0:Rat)<D.AV*D.AV:=Rat.mul_pos h.pos' h.pos';have val:∀i q,i<D.R.length->q<D.R.length->((en D.R i p.N*en D.R q s:Int):Rat)=D.AV*D.AV*(T.b (ι.getD i 0)*T.e (ι.getD q 0) s):=fun i q hi E=>by
  rw[vV,h.rhs i hi,h.ent q s E hs];grind
 refine⟨h.io G.lt,(h.sign G.lt hs).1.mp G.pos,fun i hi J=>?_,fun i hi J he=>?_⟩
 .obtain⟨q,E,rfl⟩:=seen i hi J
  have h1:=G.low q E ((h.sign E hs).1.mpr J);have S:((en D.R r p.N*en D.R q s:Int):Rat)<=((en D.R q p.N*en D.R r s:Int):Rat):=by exact_mod_cast h1
  rw[val r q G.lt E,val q r E G.lt]at S;exact Rat.le_of_mul_le_mul_left S Y
 .obtain⟨q,E,rfl⟩:=seen i hi J
  rw[<- h.Bh r G.lt,<- h.Bh q E];refine G.tie q E ((h.sign E hs).1.mpr J) ?_;have S:((en D.R r p.N*en D.R q s:Int):Rat)=((en D.R q p.N*en D.R r s:Int):Rat):=by rw[val r q G.lt E,val q r E G.lt,he]
  exact_mod_cast S
structure Fit (p:Prog) (T:Tab) (ι:List Nat) (o:Nat->Int) (fr:List Bool):Prop where
 obj:∀r,r<p.m->r∉ι->∀k,k<p.N->fr.getD k false=true->T.e r k*o (T.B r)=0
 col:∀k,fr.getD k false=true->k<p.n\/∀r',r'<p.m->r'∈ι
theorem mD(h:Vw p T D ι){k:Nat}(G:k<p.N)(J:∀r,r<p.m->r∉ι->T.e r k*o (T.B r)=0):(0<Bj D o k↔0<gm p.m T (fun j=>o j) k)/\(Bj D o k<0↔gm p.m T (fun j=>o j) k<0):=by
 have e:=h.gain G J;have hb:=h.pos';have c1:(0:Rat)<Bj D o k↔0<Bj D o k:=⟨fun h=>by exact_mod_cast h,fun h=>by exact_mod_cast h⟩;have O:(Bj D o k:Rat)<0↔Bj D o k<0:=⟨fun h=>by exact_mod_cast h,fun h=>by exact_mod_cast h⟩;rw[<- c1,<- O,e];generalize gm p.m T (fun j=>(o j:Rat)) k=g;constructor<;>constructor
 .intro E
  refine zf fun S=>?_
  have:=xX (w_ hb) (show 0<= -g by grind);grind
 .intro E;exact Rat.mul_pos hb E
 .intro E
  refine zf fun S=>?_
  have:=xX (w_ hb) (show 0<=g by grind);grind
 .intro E
  have:=Rat.mul_pos hb (show 0< -g by grind);grind
theorem lp1{v:Nat->Rat}:Lp 1 v↔0<v 0:=by
 constructor
 .rintro (h|⟨_,h⟩)
  .exact h.elim
  .exact h
 .intro h;exact .inr ⟨fun q E=>absurd E (zU q),h⟩
theorem Vw.step(h:Vw p T D ι)(hg:p.Good T)(hw:Whole p M)(J:Fit p T ι o D.fr){S:TZ}(hs:EI p.N o D S) :
  ∃T',Step p.m p.N 1 (fun _ j=>o j) (fun j=>D.fr.getD j false=true) T T'/\Vw p T' S ι/\S.fr=D.fr:=by
 obtain⟨s,r,E,Y,rfl⟩:=hs;have hl:=h.leaves E.lt (J.col s E.fr) Y;have a1:Enters p.m p.N 1 (fun _ j=>o j) (fun j=>D.fr.getD j false=true) T s:=by
  refine⟨E.lt,E.fr,fun hb=>E.non ((h.mem (J.col s E.fr)).mpr hb),lp1.mpr ((mD h E.lt fun r hr hn=>J.obj r hr hn s E.lt E.fr).1.mp E.pos),fun j hj G hb hp=>?_⟩;exact E.low j hj G (fun hm=>hb ((h.mem (J.col j G)).mp hm)) ((mD h (by have:=E.lt;omega) fun r hr hn=>J.obj r hr hn j (by have:=E.lt;omega) G).1.mpr (lp1.mp hp))
 have O:Step p.m p.N 1 (fun _ j=>o j) (fun j=>D.fr.getD j false=true) T (Lp.piv T (ι.getD r 0) s):=⟨s,_,a1,hl,rfl⟩;refine⟨_,O,h.piv hg hw Y.lt E.lt (by have:=Y.pos;omega) (O.ok hg.ok) (J.col s E.fr),?_⟩;unfold FM
 split<;>rfl
theorem Fit.step{T':Tab}(E:Fit p T ι o D.fr)(h:Vw p T D ι)(h':Vw p T' D ι\/True)(hs:∃s r,r∈ι/\D.fr.getD s false=true/\s<p.N/\T'=Lp.piv T r s):Fit p T' ι o D.fr:=by
 obtain⟨s,r,Y,G,a1,rfl⟩:=hs;refine⟨fun q J hn k hk O=>?_,E.col⟩;rcases E.col s G with hs|hs
 .have h1:=E.obj q J hn k hk O
  have h2:=(h.hid q J hn).2.2 s hs;have S:¬q=r:=fun e=>hn (e ▸ Y)
  simp only[Lp.piv,su S,h2];have:T.e q k-0*(T.e r k / T.e r s)=T.e q k:=by grind
  rw[this];exact h1
 .exact absurd (hs q J) hn
theorem Vw.aaj(hw:Whole p M):∀ {k:Nat} {T:Tab} {D:TZ},Vw p T D ι->p.Good T->Fit p T ι o D.fr->adK p.m p.N 1 (fun _ j=>o j) (fun j=>D.fr.getD j false=true) k T->Il p.N o k D
 |0,_,_,_,_,_,h=>h
 |k+1,T,D,h,hg,hf,hn=>fun D' hs=>by
  obtain⟨T',G,h2,Y⟩:=h.step hg hw hf hs;have J:Fit p T' ι o D'.fr:=by
   rw[Y];obtain⟨s,r,g1,g2,g3⟩:=hs;refine hf.step h (.inr trivial) ?_;obtain⟨s',r',O,S,q3⟩:=G;have e:=h.leaves g1.lt (hf.col s g1.fr) g2;refine⟨s',r',?_,O.fr,O.lt,q3⟩;refine zf fun E=>?_
   rcases hf.col s' O.fr with hc|hc
   .have:=(h.hid r' S.lt E).2.2 s' hc
    have:=S.pos;grind
   .exact E (hc r' S.lt)
  exact Vw.aaj hw h2 (hg.step G) J (by rw[Y];exact hn T' G)
end
end Go.Lp
namespace Go.Lp
inductive EJ (n:Nat) (o:Nat->Int):TZ->TZ->Prop
 |refl (D:TZ):EJ n o D D
 |tail {D D1 D2:TZ}:EJ n o D D1->EI n o D1 D2->EJ n o D D2
def frZ(n:Nat)(o:Nat->Int)(D:TZ)(fr:List Bool):Prop:=fr.length=D.fr.length/\∀j,j<n->(fr.getD j false=true↔D.fr.getD j false=true/\(j∈D.B\/¬Bj D o j<0))
def Sv(n:Nat)(o:Nat->Int)(D:TZ)(E:Bool)(G:TZ):Prop :=
 ∃D1,EJ n o D D1/\((E=true/\(∀j,j<n->D1.fr.getD j false=true->j∉D1.B->¬0<Bj D1 o j)/\∃fr,frZ n o D1 fr/\G={ D1 with fr:=fr }) \/
  (E=false/\G=D1/\∃s,Ik n D1 o s/\∀i,i<D1.R.length->¬0<en D1.R i s))
section
variable {p:Prog} {T:Tab} {D:TZ} {ι:List Nat} {M:Nat} {o:Nat->Int}
theorem EJ.run(hw:Whole p M){D D1:TZ}(hr:EJ p.N o D D1){T:Tab}(h:Vw p T D ι)(hg:p.Good T)(hf:Fit p T ι o D.fr){Q:Tab->Prop}(hQ:Q T)
  (hs:∀T T',p.Good T->Q T->Step p.m p.N 1 (fun _ j=>o j) (fun j=>D.fr.getD j false=true) T T'->Q T') :
  ∃E,Vw p E D1 ι/\p.Good E/\Fit p E ι o D1.fr/\Q E/\D1.fr=D.fr:=by
 induction hr with
 |refl=>exact⟨T,h,hg,hf,hQ,rfl⟩
 |tail h1 h2 ih=>
  obtain⟨E,O,S,Y,k4,J⟩:=ih;obtain⟨T2,g1,g2,g3⟩:=O.step S hw Y h2;rw[J]at g1;refine⟨T2,g2,S.step g1,?_,hs _ _ S k4 g1,g3.trans J⟩;rw[g3];refine Y.step O (.inr trivial) ?_;rw[J];obtain⟨s',r',q1,q2,q3⟩:=g1;refine⟨s',r',?_,q1.fr,q1.lt,q3⟩;refine zf fun G=>?_
  rcases Y.col s' (by rw[J];exact q1.fr)with hc|hc
  .have:=(O.hid r' q2.lt G).2.2 s' hc
   have:=q2.pos;grind
  .exact G (hc r' q2.lt)
theorem Vw.frame(h:Vw p T D ι)(fr:List Bool):Vw p T { D with fr:=fr } ι:=⟨h.len,h.A8,h.row,h.lt,h.nd,h.ent,h.rhs,h.Bh,h.pos,h.Cm,h.hid⟩
def o1(n:Nat)(j:Nat):Int:=if j<n then 0 else -1
theorem al3:(fun j=>((o1 p.n j:Int):Rat))=p.c1:=by
 funext j;unfold o1 Prog.c1
 split<;>rfl
def Zero(p:Prog)(T:Tab):Prop:=∀r,r<p.m->p.n<=T.B r->T.b r=0
theorem adN(hw:Whole p M){D G:TZ}{a7:Bool}(hm:Sv p.N (o1 p.n) D a7 G)(h:Vw p p.T0 D ι)(hg:p.Good p.T0)(J:∀r,r<p.m->r∈ι)(a8:∀j,D.fr.getD j false=true↔j<p.n) :
  ∃T,Vw p T G ι/\p.Good T/\((∀i,i<G.R.length->p.n<=G.B.getD i 0->¬0<en G.R i p.N)->Zero p T)/\((∃i,i<G.R.length/\p.n<=G.B.getD i 0/\0<en G.R i p.N)->p.None):=by
 obtain⟨D1,h1,h2⟩:=hm;have hf:Fit p p.T0 ι (o1 p.n) D.fr:=⟨fun r O hn=>absurd (J r O) hn,fun k _=> .inr J⟩;obtain⟨Y,E,k2,k3,_,k5⟩:=h1.run hw h hg hf (Q:=fun _=>True) trivial (fun _ _ _ _ _=>trivial);have hN:∀j,j<p.n->j<p.N:=fun j hj=>by unfold Prog.N;omega
 have a1:∀k,k<p.N->∀r,r<p.m->r∉ι->Y.e r k*o1 p.n (Y.B r)=0:=fun k _ r O hn=>absurd (J r O) hn
 rcases h2 with ⟨_,h2,fr,_,rfl⟩|⟨_,_,s,h3,h4⟩
 .have a6:∀j,j<p.N->j<p.n->¬basic p.m Y j->¬Lp 1 (gv p.m Y (fun _=>p.c1) j):=fun j hj S hb hp=>by
   refine h2 j hj (by rw[k5];exact(a8 j).mpr S) (fun hm=>hb ((E.mem (.inr J)).mp hm)) ?_;refine(mD E hj (a1 j hj)).1.mpr ?_;rw[al3];exact lp1.mp hp
  refine⟨Y,E.frame fr,k2,fun hz r O hB=>?_,?_⟩
  .obtain⟨i,hi,rfl⟩:=jU (J r O)
   rw[E.len]at hi;refine(E.al2 hi).mp ?_;have h5:=hz i hi (by show p.n<=D1.B.getD i 0;rw[E.Bh i hi];exact hB);have h6:=E.nonneg k2.ok hi;have:¬0<en D1.R i p.N:=h5;omega
  .rintro ⟨i,hi,hB,hp⟩
   have hB:p.n<=D1.B.getD i 0:=hB;rw[E.Bh i hi]at hB;refine Prog.akl k2 (Fr:=fun j=>j<p.n) (fun _ h=>h) (fun j hj S hb=>a6 j hj S hb) (E.io hi) hB fun e=>?_
   have:=(E.al2 hi).mpr e;have hp:0<en D1.R i p.N:=hp;omega
 .exfalso
  have hs:=h3.lt;have b3:=h3.fr;have b2:¬basic p.m Y s:=fun hb=>h3.non ((E.mem (.inr J)).mpr hb)
  refine Prog.abr k2 hs b2 ?_ fun r O=>?_
  .refine lp1.mpr ?_
   have:=(mD E hs (a1 s hs)).1.mp h3.pos;rw[al3]at this;exact this
  .obtain⟨i,hi,rfl⟩:=jU (J r O)
   rw[E.len]at hi;refine Rat.not_lt.mp fun hp=>h4 i hi ((E.sign hi hs).1.mpr hp)
theorem Zero.piv(G:Zero p T){r s:Nat}(J:r<p.m)(O:T.b r=0)(hs:s<p.n):Zero p (Lp.piv T r s):=fun q S E=>by
 simp only[Lp.piv]at E⊢
 by_cases e:q=r
 .rw[sZ e]at E;omega
 .rw[su e]at E
  rw[su e,O,G q S E];rw[vO];grind
theorem adO(hw:Whole p M)(h:Vw p T D ι)(J:p.Good T)(Y:Zero p T){i k:Nat}(hi:i<D.R.length)(hB:p.n<=D.B.getD i 0)(hk:k<p.n)(G:en D.R i k≠0) :
  Vw p (Lp.piv T (ι.getD i 0) k) (FM D i k) ι/\p.Good (Lp.piv T (ι.getD i 0) k)/\Zero p (Lp.piv T (ι.getD i 0) k):=by
 have E:k<p.N:=by unfold Prog.N;omega
 have O:T.b (ι.getD i 0)=0:=Y _ (h.io hi) (by rw[<- h.Bh i hi];exact hB);have he:T.e (ι.getD i 0) k≠0:=fun e=>G ((h.sign hi E).2.mpr e)
 have S:=abp J.ok (h.io hi) E he O;exact⟨h.piv J hw hi E G S (.inl hk),J.arG (h.io hi) E he O,Y.piv (h.io hi) O hk⟩
theorem lT{α:Type}(d:α)(l:List α)(i j:Nat):(l.eraseIdx i).getD j d=l.getD (if j<i then j else j+1) d:=by
 simp only[zx,List.getElem?_eraseIdx]
 split<;>rfl
theorem aak(h:Vw p T D ι)(hz:Zero p T){i:Nat}(hi:i<D.R.length)(hB:p.n<=D.B.getD i 0)(O:∀k,k<p.n->en D.R i k=0) :
  Vw p T { D with R:=D.R.eraseIdx i,B:=D.B.eraseIdx i } (ι.eraseIdx i):=by
 have S:(D.R.eraseIdx i).length=D.R.length-1:=yT hi;have sh:∀j,j<D.R.length-1->(if j<i then j else j+1)<D.R.length:=fun j E=>by split<;>omega
 have G:∀j k,en (D.R.eraseIdx i) j k=en D.R (if j<i then j else j+1) k:=fun j k=>by
  unfold en DK;rw[lT]
 refine⟨?_,?_,fun x hx=>h.row x (uz hx),fun r hr=>h.lt r (uz hr),h.nd.sublist (tJ ..),fun j k E hk=>?_,fun j E=>?_,fun j E=>?_,h.pos,h.Cm,fun r hr hn=>?_⟩
 .show(ι.eraseIdx i).length=(D.R.eraseIdx i).length
  rw[S,yT (by rw[h.len];exact hi),h.len]
 .show(D.B.eraseIdx i).length=(D.R.eraseIdx i).length
  rw[S,yT (by rw[h.A8];exact hi),h.A8]
 .show(en (D.R.eraseIdx i) j k:Rat)=_
  rw[G,lT];exact h.ent _ k (sh j (by rw[<- S];exact E)) hk
 .show(en (D.R.eraseIdx i) j p.N:Rat)=_
  rw[G,lT];exact h.rhs _ (sh j (by rw[<- S];exact E))
 .show(D.B.eraseIdx i).getD j 0=_
  rw[lT,lT];exact h.Bh _ (sh j (by rw[<- S];exact E))
 .by_cases hm:r∈ι
  .obtain⟨q,hq,rfl⟩:=jU hm
   have a1:q=i:=by
    refine zf fun a6=>hn ?_
    have a7:q<D.R.length:=by rw[<- h.len];exact hq
    have e:(ι.eraseIdx i).getD (if q<i then q else q-1) 0=ι.getD q 0:=by
     rw[lT]
     by_cases J:q<i
     .rw[sZ J,sZ J]
     .rw[su J,su (by omega),show q-1+1=q by omega]
    rw[<- e];refine lN ?_;rw[yT (by rw[h.len];exact hi),h.len]
    split<;>omega
   subst a1;have Y:p.n<=T.B (ι.getD q 0):=by rw[<- h.Bh q hi];exact hB
   refine⟨Y,hz _ hr Y,fun j E=>?_⟩;exact(h.sign hi (by unfold Prog.N;omega)).2.mp (O j E)
  .exact h.hid r hr hm
theorem adP(h:Vw p T D ι)(E:∀i,i<D.R.length->D.B.getD i 0<p.n):p.Out T:=⟨fun r G hn=>by
 by_cases hm:r∈ι
 .obtain⟨i,hi,rfl⟩:=jU hm
  rw[h.len]at hi;have:=E i hi;rw[h.Bh i hi]at this;omega
 .exact(h.hid r G hm).2⟩
def oq(n:Nat)(c:Nat->Int)(q j:Nat):Int:=if q=0 then(if j<n then c j else 0)else if j+1=q/\j<n then -1 else 0
theorem axd{c:Nat->Int}(hc:∀j,j<p.n->p.c j=c j)(q:Nat):(fun j=>((oq p.n c q j:Int):Rat))=p.C q:=by
 funext j;unfold oq Prog.C
 split
 .split
  .rename_i E;rw[hc j E]
  .rfl
 .split<;>rfl
theorem anm(h:Vw p T D ι){c:Nat->Int}{q:Nat}{fr:List Bool}(E:∀j,fr.getD j false=true->j<p.n):Fit p T ι (oq p.n c q) fr :=
 ⟨fun r G hn k _ _=>by
  have O:=(h.hid r G hn).1;have:oq p.n c q (T.B r)=0:=by
   unfold oq
   split
   .rw[su (by omega)]
   .rw[su (by omega)]
  rw[this];grind,fun k J=> .inl (E k J)⟩
theorem adQ(hw:Whole p M){c:Nat->Int}(hc:∀j,j<p.n->p.c j=c j){q:Nat}{v:Nat->Rat}{D D':TZ}{O:Bool}(hm:Sv p.N (oq p.n c q) D O D')(h:Vw p T D ι)(hg:p.Good T)(ho:p.Out T)
  (hs:p.Ed q v (fun j=>D.fr.getD j false=true) T) (hlen:D.fr.length<=p.N) :
  ∃T',Vw p T' D' ι/\p.Good T'/\p.Out T'/\D'.fr.length=D.fr.length/\((O=true/\p.Ed (q+1) (fun i=>if i=q then zz p.m T' (p.C q)else v i) (fun j=>D'.fr.getD j false=true) T') \/
   (O=false/\∃s,s<p.n/\¬basic p.m T' s/\0<gm p.m T' (p.C q) s/\∀i,i<p.m->T'.e i s<=0)):=by
 obtain⟨D1,h1,h2⟩:=hm;have hf:Fit p T ι (oq p.n c q) D.fr:=anm h fun j E=>hs.inn j E
 obtain⟨T1,G,k2,k3,⟨k4,k6⟩,S⟩:=h1.run hw h hg hf (Q:=fun T=>p.Out T/\p.Ed q v (fun j=>D.fr.getD j false=true) T) ⟨ho,hs⟩ (fun T T' _ J a6=>by
  refine⟨?_,J.2.step a6⟩;obtain⟨s,r,g1,g2,rfl⟩:=a6
  by_cases hB:T.B r<p.n
  .exact J.1.piv hB (J.2.inn s g1.fr)
  .have:=(J.1.z r g2.lt (by omega)).2 s (J.2.inn s g1.fr)
   have:=g2.pos;grind)
 have Y:∀k,k<p.N->(0<Bj D1 (oq p.n c q) k↔0<gm p.m T1 (p.C q) k)/\(Bj D1 (oq p.n c q) k<0↔gm p.m T1 (p.C q) k<0):=fun k hk=>by
  have:=mD (o:=oq p.n c q) G hk fun r hr hn=>by
   have h1:=(G.hid r hr hn).1;have:oq p.n c q (T1.B r)=0:=by
    unfold oq
    split
    .rw[su (by omega)]
    .rw[su (by omega)]
   rw[this];grind
  rw[axd hc]at this;exact this
 have hN:∀j,j<p.n->j<p.N:=fun j E=>by unfold Prog.N;omega
 refine⟨T1,?_⟩;rcases h2 with ⟨e,h2,fr,⟨a7,a8⟩,rfl⟩|⟨e,rfl,s,h3,h4⟩
 .refine⟨G.frame fr,k2,k4,by show fr.length=_;rw[a7,S],.inl ⟨e,?_⟩⟩
  refine Prog.Ed.next (Fr':=fun j=>fr.getD j false=true) k2 k4 k6 (fun j E b2 hb hp=>?_) (fun j E=>?_) (fun j E=>?_)
  .exact h2 j (hN j E) (by rw[S];exact b2) (fun hm=>hb ((G.mem (.inl E)).mp hm)) ((Y j (hN j E)).1.mpr hp)
  .rw[a8 j (hN j E),S,G.mem (.inl E),(Y j (hN j E)).2]
  .by_cases b3:j<p.N
   .have:=((a8 j b3).mp E).1
    rw[S]at this;exact k6.inn j this
   .exfalso
    have E:fr.getD j false=true:=E;rw[zx,yg (by rw[a7,S];omega)]at E;cases E
 .refine⟨G,k2,k4,by rw[S],.inr ⟨e,s,?_⟩⟩
  have a1:s<p.n:=k6.inn s (by rw[<- S];exact h3.fr);refine⟨a1,fun hb=>h3.non ((G.mem (.inl a1)).mpr hb),(Y s h3.lt).1.mp h3.pos,fun i hi=>?_⟩
  by_cases hm:i∈ι
  .obtain⟨q',J,rfl⟩:=jU hm
   rw[G.len]at J;exact Rat.not_lt.mp fun hp=>h4 q' J ((G.sign J h3.lt).1.mpr hp)
  .rw[(G.hid i hi hm).2.2 s a1];exact uZ
theorem read(h:Vw p T D ι)(E:p.Good T){i:Nat}(hi:i<D.R.length):(en D.R i p.N:Rat) / D.AV=Bh p.m T (D.B.getD i 0):=by
 rw[h.rhs i hi,h.Bh i hi,Ig E.ok (h.io hi)];have:=h.ne;grind
theorem Ws(h:Vw p T D ι){j:Nat}(E:j<p.n)(hn:j∉D.B):Bh p.m T j=0:=rE fun hb=>hn ((h.mem (.inl E)).mpr hb)
end
end Go.Lp
namespace Go.Lp
theorem ano{m:Nat}{T:Tab}{r s:Nat}(E:r<m)(G:T.e r s≠0)(c:Nat->Rat)(j:Nat):gm m (piv T r s) c j=gm m T c j-gm m T c s*(T.e r j / T.e r s):=by
 have key:sm (fun i=>(piv T r s).e i j*c ((piv T r s).B i)) m=sm (fun i=>T.e i j*c (T.B i)) m+T.e r j / T.e r s*gm m T c s:=by
  have e:sm (fun i=>(piv T r s).e i j*c ((piv T r s).B i)) m=sm (fun i=>T.e i j*c (T.B i)) m-T.e r j / T.e r s*sm (fun i=>T.e i s*c (T.B i)) m+sm (fun i=>if i=r then T.e r j / T.e r s*c s else 0) m:=by
   rw[<- dK,<- dG,<- dM];refine dL fun i _=>?_
   simp only[piv]
   by_cases h:i=r
   .subst h;simp only[if_true];grind
   .simp only[su h];grind
  rw[e,dH E fun i _ h=>su h,sZ rfl];unfold gm;grind
 show c j - _=c j - _ - _;rw[key];grind
theorem anp{m:Nat}{T:Tab}{r s:Nat}(E:r<m)(G:T.e r s≠0)(c:Nat->Rat):zz m (piv T r s) c=zz m T c+gm m T c s*(T.b r / T.e r s):=by
 have e:sm (fun i=>(piv T r s).b i*c ((piv T r s).B i)) m=sm (fun i=>T.b i*c (T.B i)) m-T.b r / T.e r s*sm (fun i=>T.e i s*c (T.B i)) m+sm (fun i=>if i=r then T.b r / T.e r s*c s else 0) m:=by
  rw[<- dK,<- dG,<- dM];refine dL fun i _=>?_
  simp only[piv]
  by_cases h:i=r
  .subst h;simp only[if_true];grind
  .simp only[su h];grind
 show sm (fun i=>(piv T r s).b i*c ((piv T r s).B i)) m=_;rw[e,dH E fun i _ h=>su h,sZ rfl];unfold gm zz;grind
theorem ZB.add{M N:Nat}{a b:Rat}(h:ZB M a)(E:ZB N b):ZB (M+N) (a+b):=by
 obtain⟨x,rfl,G⟩:=h;obtain⟨y,rfl,J⟩:=E;exact⟨x+y,by simp,by omega⟩
theorem ZB.mul{M N:Nat}{a b:Rat}(h:ZB M a)(E:ZB N b):ZB (M*N) (a*b):=by
 obtain⟨x,rfl,G⟩:=h;obtain⟨y,rfl,J⟩:=E;exact⟨x*y,by simp,by rw[uh];exact yM G J⟩
theorem ZB.neg{M:Nat}{a:Rat}(h:ZB M a):ZB M (-a):=by
 obtain⟨x,rfl,E⟩:=h;exact⟨-x,by simp,by omega⟩
theorem ZB.sum{M:Nat}{f:Nat->Rat}:∀ {n:Nat},(∀j,j<n->ZB M (f j))->ZB (n*M) (sm f n)
 |0,_=>⟨0,rfl,vS _⟩
 |n+1,h=>by
  have:=(ZB.sum (n:=n) fun j E=>h j (by omega)).add (h n (by omega));rw[yG];exact this
theorem ZB.mono{M N:Nat}{a:Rat}(h:ZB M a)(E:M<=N):ZB N a:=by
 obtain⟨x,e,G⟩:=h;exact⟨x,e,zL G E⟩
section
variable {p:Prog} {T:Tab} {M K:Nat} {c:Nat->Rat}
theorem arL(E:p.Good T)(hw:Whole p M)(hc:∀j,ZB K (c j)){j:Nat}(O:j<p.N):ZB ((p.m+1)*(K*fact M p.m)) (gm p.m T c j*Lp.Cm p.m fun q=>p.A (T.B q)):=by
 have e:gm p.m T c j*Lp.Cm p.m (fun q=>p.A (T.B q))=c j*Lp.Cm p.m (fun q=>p.A (T.B q))+ -sm (fun i=>c (T.B i)*(T.e i j*Lp.Cm p.m fun q=>p.A (T.B q))) p.m:=by
  have G:=dK (Lp.Cm p.m fun q=>p.A (T.B q)) (fun i=>T.e i j*c (T.B i)) p.m;have J:sm (fun i=>c (T.B i)*(T.e i j*Lp.Cm p.m fun q=>p.A (T.B q))) p.m=sm (fun i=>Lp.Cm p.m (fun q=>p.A (T.B q))*(T.e i j*c (T.B i))) p.m:=dL fun i _=>by grind
  rw[J,G];unfold gm;grind
 rw[e];have G:=(hc j).mul (E.ed.E_ E.ok.bn hw.A);have J:=(ZB.sum (n:=p.m) (f:=fun i=>c (T.B i)*(T.e i j*Lp.Cm p.m fun q=>p.A (T.B q))) fun i hi=>(hc _).mul (E.ed.MZ E.ok.bn hw.A hi O)).neg;exact(G.add J).mono (by rw[yG];omega)
theorem arM(E:p.Good T)(hw:Whole p M)(hc:∀j,ZB K (c j)):ZB ((p.m+1)*(K*fact M p.m)) (zz p.m T c*Lp.Cm p.m fun q=>p.A (T.B q)):=by
 have e:zz p.m T c*Lp.Cm p.m (fun q=>p.A (T.B q))=sm (fun i=>c (T.B i)*(T.b i*Lp.Cm p.m fun q=>p.A (T.B q))) p.m:=by
  have G:=dK (Lp.Cm p.m fun q=>p.A (T.B q)) (fun i=>T.b i*c (T.B i)) p.m;have J:sm (fun i=>c (T.B i)*(T.b i*Lp.Cm p.m fun q=>p.A (T.B q))) p.m=sm (fun i=>Lp.Cm p.m (fun q=>p.A (T.B q))*(T.b i*c (T.B i))) p.m:=dL fun i _=>by grind
  rw[J,G];unfold zz;grind
 rw[e];refine(ZB.sum fun i hi=>(hc _).mul (E.ed.Gm E.ok.bn hw.A hw.w hi)).mono ?_;rw[yG];omega
def Lim(M:Nat)(q:Rat):Prop:=q.num.natAbs<=M/\q.den<=M
theorem akm(E:p.Good T)(hw:Whole p M){i j:Nat}(hi:i<p.m)(G:j<p.N):Lim (fact M p.m) (T.e i j) :=
 Ij (E.ed.E_ E.ok.bn hw.A) E.ed.ind (E.ed.MZ E.ok.bn hw.A hi G)
theorem adR(E:p.Good T)(hw:Whole p M){i:Nat}(hi:i<p.m):Lim (fact M p.m) (T.b i) :=
 Ij (E.ed.E_ E.ok.bn hw.A) E.ed.ind (E.ed.Gm E.ok.bn hw.A hw.w hi)
theorem Wu(E:p.Good T)(hw:Whole p M):ZB ((p.m+1)*(K*fact M p.m)+fact M p.m) (Lp.Cm p.m fun q=>p.A (T.B q)):=(E.ed.E_ E.ok.bn hw.A).mono (by omega)
theorem anq(E:p.Good T)(hw:Whole p M)(hc:∀j,ZB K (c j)){j:Nat}(G:j<p.N):Lim ((p.m+1)*(K*fact M p.m)+fact M p.m) (gm p.m T c j) :=
 Ij (Wu E hw) E.ed.ind ((arL E hw hc G).mono (by omega))
theorem anr(E:p.Good T)(hw:Whole p M)(hc:∀j,ZB K (c j)):Lim ((p.m+1)*(K*fact M p.m)+fact M p.m) (zz p.m T c) :=
 Ij (Wu E hw) E.ed.ind ((arM E hw hc).mono (by omega))
end
structure TQ where
 R:List (List Rat)
 B:List Nat
 c:List Rat
def BO(R:List (List Rat))(i j:Nat):Rat:=(R.getD i []).getD j 0
def KF(t x:List Rat)(f:Rat):List Rat:=List.zipWith (fun u v=>u-f*v) t x
def DL(R:List (List Rat))(r k:Nat):List (List Rat):=R.mapIdx fun i x=>if i=r then x.map (· / BO R r k)else KF x ((R.getD r []).map (· / BO R r k)) (x.getD k 0)
def Nl(D:TQ)(r k:Nat):TQ:=⟨DL D.R r k,D.B.set r k,KF D.c ((D.R.getD r []).map (· / BO D.R r k)) (D.c.getD k 0)⟩
theorem qA{t x:List Rat}{f:Rat}(h:x.length=t.length):(KF t x f).length=t.length:=by unfold KF;rw[uD,h];omega
theorem Io{t x:List Rat}{f:Rat}{j:Nat}(h:x.length=t.length)(E:j<t.length):(KF t x f).getD j 0=t.getD j 0-f*x.getD j 0:=by
 unfold KF;simp only[zx,List.getElem?_zipWith];rw[zy E,zy (by omega)];rfl
theorem KZ{x:List Rat}{d:Rat}{j:Nat}(E:j<x.length):(x.map (· / d)).getD j 0=x.getD j 0 / d:=by
 simp only[zx,z_];rw[zy E];rfl
structure Vq (p:Prog) (n':Nat) (C:Nat->Rat) (T:Tab) (D:TQ) (ι:List Nat):Prop where
 len:ι.length=D.R.length
 A8:D.B.length=D.R.length
 F5:D.c.length=n'+1
 row:∀x∈D.R,x.length=n'+1
 lt:∀r∈ι,r<p.m
 nd:ι.Nodup
 le:n'<=p.N
 ent:∀i j,i<D.R.length->j<n'->BO D.R i j=T.e (ι.getD i 0) j
 rhs:∀i,i<D.R.length->BO D.R i n'=T.b (ι.getD i 0)
 Bh:∀i,i<D.R.length->D.B.getD i 0=T.B (ι.getD i 0)
 cost:∀j,j<n'->D.c.getD j 0=gm p.m T C j
 val:D.c.getD n' 0= -zz p.m T C
 hid:∀r,r<p.m->r∉ι->n'<=T.B r/\T.b r=0/\∀j,j<n'->T.e r j=0
section
variable {p:Prog} {T:Tab} {D:TQ} {ι:List Nat} {n':Nat} {C:Nat->Rat}
theorem Vq.io(h:Vq p n' C T D ι){i:Nat}(hi:i<D.R.length):ι.getD i 0<p.m:=h.lt _ (lN (by rw[h.len];exact hi))
theorem Vq.ant(h:Vq p n' C T D ι){i:Nat}(hi:i<D.R.length):(D.R.getD i []).length=n'+1:=by
 rw[zx,zy hi];exact h.row _ (zu hi)
theorem iK(R:List (List Rat))(r k:Nat):(DL R r k).length=R.length:=by unfold DL;rw[List.length_mapIdx]
theorem adS{R:List (List Rat)}{n:Nat}(h:∀x∈R,x.length=n){r k:Nat}(E:r<R.length):∀x∈DL R r k,x.length=n:=fun x G=>by
 unfold DL at G;obtain⟨i,hi,rfl⟩:=List.mem_mapIdx.mp G;have J:(R.getD r []).length=n:=by
  rw[zx,zy E];exact h _ (zu E)
 split
 .rw[zV];exact h _ (zu hi)
 .rw[qA (by rw[zV,J,h _ (zu hi)]),h _ (zu hi)]
theorem Sz{R:List (List Rat)}{n:Nat}(h:∀x∈R,x.length=n){r k i j:Nat}(J:r<R.length)(hi:i<R.length)(G:j<n) :
  BO (DL R r k) i j=if i=r then BO R r j / BO R r k else BO R i j-BO R i k*(BO R r j / BO R r k):=by
 have E:∀q,q<R.length->(R.getD q []).length=n:=fun q O=>by
  rw[zx,zy O];exact h _ (zu O)
 have S:(DL R r k).getD i []=if i=r then(R.getD i []).map (· / BO R r k)else KF (R.getD i []) ((R.getD r []).map (· / BO R r k)) ((R.getD i []).getD k 0):=by
  unfold DL;simp only[zx,uO];rw[zy hi];rfl
 show((DL R r k).getD i []).getD j 0=_;rw[S]
 split
 .rename_i e;subst e
  rw[KZ (by rw[E _ hi];exact G)];rfl
 .rw[Io (by rw[zV,E _ J,E _ hi]) (by rw[E _ hi];exact G),KZ (by rw[E _ J];exact G)];rfl
theorem Vq.piv(h:Vq p n' C T D ι){r k:Nat}(E:r<D.R.length)(Y:k<n')(J:BO D.R r k≠0):Vq p n' C (Lp.piv T (ι.getD r 0) k) (Nl D r k) ι:=by
 have O:=h.ent r k E Y;have he:T.e (ι.getD r 0) k≠0:=by rw[<- O];exact J
 have neq:∀i,i<D.R.length->i≠r->¬ι.getD i 0=ι.getD r 0:=fun i hi J e=>J (lS h.nd (by rw[h.len];exact hi) (by rw[h.len];exact E) e)
 have S:((D.R.getD r []).map (· / BO D.R r k)).length=D.c.length:=by rw[zV,h.ant E,h.F5]
 refine⟨by rw[h.len];exact(iK ..).symm,by show(D.B.set r k).length=(DL D.R r k).length;rw[yK,iK];exact h.A8,by show(KF _ _ _).length=_;rw[qA S,h.F5],adS h.row E,h.lt,h.nd,h.le,
  fun i j hi G=>?_,fun i hi=>?_,fun i hi=>?_,fun j G=>?_,?_,fun q hq hn=>?_⟩
 .replace hi:i<D.R.length:=by rw[<- iK D.R r k];exact hi
  show BO (DL D.R r k) i j=_;rw[Sz h.row E hi (by omega)];simp only[Lp.piv]
  by_cases e:i=r
  .subst e;rw[sZ rfl,sZ rfl,h.ent i j hi G,O]
  .rw[su e,su (neq i hi e),h.ent i j hi G,h.ent i k hi Y,h.ent r j E G,O]
 .replace hi:i<D.R.length:=by rw[<- iK D.R r k];exact hi
  show BO (DL D.R r k) i n'=_;rw[Sz h.row E hi (by omega)];simp only[Lp.piv]
  by_cases e:i=r
  .subst e;rw[sZ rfl,sZ rfl,h.rhs i hi,O]
  .rw[su e,su (neq i hi e),h.rhs i hi,h.ent i k hi Y,h.rhs r E,O]
 .replace hi:i<D.R.length:=by rw[<- iK D.R r k];exact hi
  show(D.B.set r k).getD i 0=_;rw[lM (by rw[h.A8];exact hi)];simp only[Lp.piv]
  by_cases e:i=r
  .subst e;rw[sZ rfl,sZ rfl]
  .rw[su e,su (neq i hi e),h.Bh i hi]
 .show(KF _ _ _).getD j 0=_
  rw[Io S (by rw[h.F5];omega),KZ (by rw[h.ant E];omega),h.cost j G,h.cost k Y,ano (h.io E) he];have:(D.R.getD r []).getD j 0=T.e (ι.getD r 0) j:=h.ent r j E G;rw[this,O]
 .show(KF _ _ _).getD n' 0=_
  rw[Io S (by rw[h.F5];omega),KZ (by rw[h.ant E];omega),h.val,h.cost k Y,anp (h.io E) he];have:(D.R.getD r []).getD n' 0=T.b (ι.getD r 0):=h.rhs r E;rw[this,O];grind
 .obtain⟨h1,h2,h3⟩:=h.hid q hq hn
  have a1:¬q=ι.getD r 0:=fun e=>hn (by rw[e];exact lN (by rw[h.len];exact E))
  simp only[Lp.piv,su a1,h2,h3 k Y];refine⟨h1,by grind,fun j G=>?_⟩;rw[h3 j G];grind
end
end Go.Lp
namespace Go.Lp
def Ip(q j:Nat):List (List Rat)->List Nat->Rat
 |x :: R,b :: B=>(if b=q then x.getD j 0 else 0)+Ip q j R B
 |_,_=>0
def K_(D:TQ)(j q:Nat):Rat:=if q=0 then D.c.getD j 0 else(if j+1=q then -1 else 0)+Ip (q-1) j D.R D.B
structure La (n d:Nat) (D:TQ) (s:Nat):Prop where
 lt:s<n
 non:s∉D.B
 pos:Lp d (K_ D s)
 low:∀j,j<s->j∉D.B->¬Lp d (K_ D j)
structure abu (n:Nat) (D:TQ) (s r:Nat):Prop where
 lt:r<D.R.length
 pos:0<BO D.R r s
 low:∀i,i<D.R.length->0<BO D.R i s->BO D.R r n / BO D.R r s<=BO D.R i n / BO D.R i s
 tie:∀i,i<D.R.length->0<BO D.R i s->BO D.R r n / BO D.R r s=BO D.R i n / BO D.R i s->D.B.getD r 0<=D.B.getD i 0
def Np(n d:Nat)(D E:TQ):Prop:=∃s r,La n d D s/\abu n D s r/\E=Nl D r s
def Wv(n d:Nat):Nat->TQ->Prop
 |0,_=>False
 |k+1,D=>∀E,Np n d D E->Wv n d k E
inductive Gn (n d:Nat):TQ->TQ->Prop
 |refl (D:TQ):Gn n d D D
 |tail {D D1 D2:TQ}:Gn n d D D1->Np n d D1 D2->Gn n d D D2
def akn(n d:Nat)(D:TQ)(G:Bool)(E:TQ):Prop :=
 Gn n d D E/\((G=true/\∀j,j<n->j∉E.B->¬Lp d (K_ E j))\/(G=false/\∃s,La n d E s/\∀i,i<E.R.length->¬0<BO E.R i s))
section
variable {p:Prog} {T:Tab} {D:TQ} {ι:List Nat} {M n' d:Nat} {C:Nat->Nat->Rat}
theorem Vq.mem(h:Vq p n' (C 0) T D ι){s:Nat}(hs:s<n'):s∈D.B↔basic p.m T s:=by
 constructor
 .intro hs
  obtain⟨i,hi,e⟩:=jU hs;rw[h.A8]at hi;exact⟨_,h.io hi,by rw[<- h.Bh i hi,e]⟩
 .rintro ⟨r,E,rfl⟩
  have hm:r∈ι:=by
   refine zf fun hn=>?_
   have:=(h.hid r E hn).1;omega
  obtain⟨i,hi,rfl⟩:=jU hm;rw[h.len]at hi;rw[<- h.Bh i hi];exact lN (by rw[h.A8];exact hi)
theorem anu{a b c d:Rat}(hb:0<b)(E:0<d)(h:a / b<=c / d):a*d<=c*b:=by
 have G:=xX (show 0<=c / d-a / b by grind) (w_ (Rat.mul_pos hb E));have e:(c / d-a / b)*(b*d)=c*b-a*d:=by
  have:b≠0:=by grind
  have:d≠0:=by grind
  grind
 grind
theorem Vq.leaves(h:Vq p n' (C 0) T D ι){s r:Nat}(hs:s<n')(G:abu n' D s r):Leaves p.m T s (ι.getD r 0):=by
 have seen:∀i,i<p.m->0<T.e i s->∃q,q<D.R.length/\ι.getD q 0=i:=fun i hi J=>by
  have hm:i∈ι:=by
   refine zf fun hn=>?_
   have:=(h.hid i hi hn).2.2 s hs;grind
  obtain⟨q,E,e⟩:=jU hm;exact⟨q,by rw[<- h.len];exact E,e⟩
 have O:0<T.e (ι.getD r 0) s:=by rw[<- h.ent r s G.lt hs];exact G.pos
 refine⟨h.io G.lt,O,fun i hi J=>?_,fun i hi J Y=>?_⟩
 .obtain⟨q,E,rfl⟩:=seen i hi J
  have S:=G.low q E (by rw[h.ent q s E hs];exact J);rw[h.ent q s E hs,h.ent r s G.lt hs,h.rhs q E,h.rhs r G.lt]at S;exact anu O J S
 .obtain⟨q,E,rfl⟩:=seen i hi J
  rw[<- h.Bh r G.lt,<- h.Bh q E];refine G.tie q E (by rw[h.ent q s E hs];exact J) ?_;rw[h.ent q s E hs,h.ent r s G.lt hs,h.rhs q E,h.rhs r G.lt];have:T.e (ι.getD r 0) s≠0:=by grind
  have:T.e (ι.getD q 0) s≠0:=by grind
  grind
def Nq(p:Prog)(n' d:Nat)(C:Nat->Nat->Rat)(ι:List Nat):Prop:=∀T D,Vq p n' (C 0) T D ι->∀j,j<n'->∀q,q<d->K_ D j q=gm p.m T (C q) j
theorem Nq.lp(G:Nq p n' d C ι)(h:Vq p n' (C 0) T D ι){j:Nat}(J:j<n'):Lp d (K_ D j)↔Lp d (gv p.m T C j) :=
 ⟨Lp.congr fun q E=>G T D h j J q E,Lp.congr fun q E=>(G T D h j J q E).symm⟩
theorem Vq.step(O:Nq p n' d C ι)(h:Vq p n' (C 0) T D ι){S:TQ}(hs:Np n' d D S) :
  ∃T',Step p.m p.N d C (fun j=>j<n') T T'/\Vq p n' (C 0) T' S ι:=by
 obtain⟨s,r,E,J,rfl⟩:=hs;have Y:=h.leaves E.lt J;have he:Enters p.m p.N d C (fun j=>j<n') T s:=⟨xR E.lt h.le,E.lt,fun hb=>E.non ((h.mem E.lt).mpr hb),(O.lp h E.lt).mp E.pos,fun j hj G hb hp=>
  E.low j hj (fun hm=>hb ((h.mem G).mp hm)) ((O.lp h G).mpr hp)⟩
 exact⟨_,⟨s,_,he,Y,rfl⟩,h.piv J.lt E.lt (by have:=J.pos;grind)⟩
theorem Vq.aaj(E:Nq p n' d C ι):∀ {k:Nat} {T:Tab} {D:TQ},Vq p n' (C 0) T D ι->adK p.m p.N d C (fun j=>j<n') k T->Wv n' d k D
 |0,_,_,_,h=>h
 |k+1,T,D,h,hn=>fun O hs=>by
  obtain⟨T',G,J⟩:=h.step E hs;exact Vq.aaj E J (hn T' G)
theorem Gn.run(J:Nq p n' d C ι){D D1:TQ}(O:Gn n' d D D1){T:Tab}(h:Vq p n' (C 0) T D ι)(S:p.Good T){Q:Tab->Prop}(Y:Q T)
  (hs:∀T T',p.Good T->Q T->Step p.m p.N d C (fun j=>j<n') T T'->Q T'):∃E,Vq p n' (C 0) E D1 ι/\p.Good E/\Q E:=by
 induction O with
 |refl=>exact⟨T,h,S,Y⟩
 |tail h1 h2 ih=>
  obtain⟨E,k1,G,k3⟩:=ih;obtain⟨T2,g1,g2⟩:=k1.step J h2;exact⟨T2,g2,G.step g1,hs _ _ G k3 g1⟩
theorem Nr:Nq p n' 1 (fun _=>p.c1) ι:=fun T D h j E q G=>by
 have:q=0:=by omega
 subst this;unfold K_;rw[sZ rfl];exact h.cost j E
theorem aal{D S:TQ}{a1:Bool}(hm:akn p.N 1 D a1 S)(h:Vq p p.N p.c1 p.T0 D ι)(hg:p.Good p.T0)(OQ:∀r,r<p.m->r∈ι) :
  ∃T,Vq p p.N p.c1 T S ι/\p.Good T/\(S.c.getD p.N 0=0->Zero p T)/\(S.c.getD p.N 0≠0->p.None):=by
 obtain⟨h1,h2⟩:=hm;obtain⟨E,G,k2,_⟩:=h1.run (Nr (n':=p.N)) h hg (Q:=fun _=>True) trivial (fun _ _ _ _ _=>trivial);have J:S.c.getD p.N 0=sm (fun i=>if p.n<=E.B i then E.b i else 0) p.m:=by
  rw[G.val];unfold zz;have:=dK (-1) (fun i=>E.b i*p.c1 (E.B i)) p.m;have e2:-sm (fun i=>E.b i*p.c1 (E.B i)) p.m= -1*sm (fun i=>E.b i*p.c1 (E.B i)) p.m:=by grind
  rw[e2,<- this];refine dL fun i _=>?_
  unfold Prog.c1
  by_cases hq:E.B i<p.n
  .rw[sZ hq,su (by omega)];grind
  .rw[su hq,sZ (by omega)];grind
 have a6:∀q,q<p.m->0<=(if p.n<=E.B q then E.b q else 0):=fun q hq=>by
  split
  .exact k2.ok.nb q hq
  .exact uZ
 rcases h2 with ⟨_,h2⟩|⟨_,s,h3,h4⟩
 .have Y:∀j,j<p.N->j<p.N->¬basic p.m E j->¬Lp 1 (gv p.m E (fun _=>p.c1) j):=fun j O _ hb hp=>
   h2 j O (fun hm=>hb ((G.mem (C:=fun _=>p.c1) O).mp hm)) ((Nr.lp G O).mpr hp)
  have hN:∀j,j<p.n->j<p.N:=fun j O=>by unfold Prog.N;omega
  refine⟨E,G,k2,fun hz r hr hB=>?_,fun hz=>?_⟩
  .rw[J]at hz
   have each:∀N (f:Nat->Rat),(∀j,j<N->0<=f j)->sm f N=0->∀j,j<N->f j=0:=by
    intro N f
    induction N with
    |zero=>intro _ _ j O;omega
    |succ N ih=>
     intro hf h0 j O;have h4:=dJ (f:=f) (n:=N) fun j O=>hf j (by omega)
     have h5:=hf N (by omega);have h6:sm f N+f N=0:=h0
     by_cases e:j=N
     .subst e;grind
     .exact ih (fun j O=>hf j (by omega)) (by grind) j (by omega)
   have:=each p.m _ a6 hz r hr;rw[sZ hB]at this;exact this
  .rcases Prog.phase1 k2 (Fr:=fun j=>j<p.N) hN Y with h5|h5
   .exfalso
    apply hz;rw[J];refine dF fun i hi=>?_
    split
    .rename_i hB;exact h5 i hi hB
    .rfl
   .exact h5
 .exfalso
  have hs:=h3.lt;refine Prog.abr k2 hs (fun hb=>h3.non ((G.mem (C:=fun _=>p.c1) hs).mpr hb)) ((Nr.lp G hs).mp h3.pos) fun r hr=>?_
  obtain⟨i,hi,rfl⟩:=jU (OQ r hr);rw[G.len]at hi;rw[<- G.ent i s hi hs];exact Rat.not_lt.mp (h4 i hi)
theorem aam(h:Vq p p.N p.c1 T D ι)(S:p.Good T)(J:Zero p T){i k:Nat}(hi:i<D.R.length)(Y:p.n<=D.B.getD i 0)(hk:k<p.n)(G:BO D.R i k≠0) :
  Vq p p.N p.c1 (Lp.piv T (ι.getD i 0) k) (Nl D i k) ι/\p.Good (Lp.piv T (ι.getD i 0) k)/\Zero p (Lp.piv T (ι.getD i 0) k):=by
 have E:k<p.N:=by unfold Prog.N;omega
 have O:T.b (ι.getD i 0)=0:=J _ (h.io hi) (by rw[<- h.Bh i hi];exact Y);have he:T.e (ι.getD i 0) k≠0:=by rw[<- h.ent i k hi E];exact G
 exact⟨h.piv hi E G,S.arG (h.io hi) E he O,J.piv (h.io hi) O hk⟩
def pick(n:Nat):List (List Rat)->List Nat->List (List Rat)×List Nat
 |x :: R,b :: B=>if b<n then((x.take n++[x.getLastD 0]) :: (pick n R B).1,b :: (pick n R B).2)else pick n R B
 |_,_=>([],[])
def CB(n:Nat):List Nat->List Nat->List Nat
 |r :: ι,b :: B=>if b<n then r :: CB n ι B else CB n ι B
 |_,_=>[]
def clears:List Rat->List (List Rat)->List Nat->List Rat
 |c,x :: R,b :: B=>clears (KF c x (c.getD b 0)) R B
 |c,_,_=>c
theorem PX(n N:Nat):∀(R:List (List Rat)) (B ι:List Nat),B.length=R.length->ι.length=R.length->(∀x∈R,x.length=N+1)->n<=N ->
  (pick n R B).1.length=(CB n ι B).length/\(pick n R B).2.length=(CB n ι B).length/\(∀x∈(pick n R B).1,x.length=n+1)/\(∀b∈(pick n R B).2,b<n) /\
  (∀q,q<(CB n ι B).length->∃i,i<R.length/\(CB n ι B).getD q 0=ι.getD i 0/\(pick n R B).2.getD q 0=B.getD i 0/\(∀j,j<n->BO (pick n R B).1 q j=BO R i j)/\BO (pick n R B).1 q n=BO R i N) /\
  List.Sublist (CB n ι B) ι/\(∀i,i<R.length->B.getD i 0<n->ι.getD i 0∈CB n ι B)
 |[],B,ι,hB,OQ,_,_=>by
  cases B<;>cases ι<;>simp at hB OQ;exact⟨rfl,rfl,fun x S=>by simp[pick]at S,fun b hb=>by simp[pick]at hb,fun q O=>by simp[CB]at O,List.Sublist.refl _,fun i hi=>by simp at hi⟩
 |x :: R,[],ι,hB,_,_,_=>by simp at hB
 |x :: R,b :: B,[],_,OQ,_,_=>by simp at OQ
 |x :: R,b :: B,r :: ι,hB,OQ,hr,hn=>by
  obtain⟨Y,h2,h3,h4,h5,h6,h7⟩:=PX n N R B ι (by simpa using hB) (by simpa using OQ) (fun y E=>hr y (zY _ E)) hn;have S:=hr x zQ;have J:x.getLastD 0=x.getD N 0:=by
   rw[List.getLastD_eq_getLast?,List.getLast?_eq_getElem?,zx,S];rfl
  unfold pick CB
  by_cases hb:b<n
  .simp only[sZ hb]
   refine⟨by simp[Y],by simp[h2],fun y E=>?_,fun y E=>?_,fun q O=>?_,h6.cons_cons _,fun i hi G=>?_⟩
   .rcases List.mem_cons.mp E with rfl|E
    .simp[S];omega
    .exact h3 y E
   .rcases List.mem_cons.mp E with rfl|E
    .exact hb
    .exact h4 y E
   .cases q with
    |zero=>
     refine⟨0,by simp,rfl,rfl,fun j hj=>?_,?_⟩
     .show(x.take n++[x.getLastD 0]).getD j 0=x.getD j 0
      simp only[zx];rw[zW (by simp;omega),uH hj]
     .show(x.take n++[x.getLastD 0]).getD n 0=x.getD N 0
      rw[<- J];simp only[zx];rw[zN (by simp;omega)];have:n - (x.take n).length=0:=by simp;omega
      rw[this];rfl
    |succ q=>
     obtain⟨i,g1,g2,g3,g4,g5⟩:=h5 q (by simpa using O);exact⟨i+1,by simpa using g1,g2,g3,g4,g5⟩
   .cases i with
    |zero=>exact zQ
    |succ i=>exact zY _ (h7 i (by simpa using hi) G)
  .simp only[su hb]
   refine⟨Y,h2,h3,h4,fun q O=>?_,h6.cons _,fun i hi G=>?_⟩
   .obtain⟨i,g1,g2,g3,g4,g5⟩:=h5 q O
    exact⟨i+1,by simpa using g1,g2,g3,g4,g5⟩
   .cases i with
    |zero=>exact absurd G hb
    |succ i=>exact h7 i (by simpa using hi) G
end
end Go.Lp
namespace Go.Lp
section
variable {p:Prog} {T:Tab} {D:TQ} {ι:List Nat} {M n' d:Nat}
def Fj(c:List Rat)(j:Nat):List (List Rat)->List Nat->Rat
 |x :: R,b :: B=>c.getD b 0*x.getD j 0+Fj c j R B
 |_,_=>0
theorem Ns{c c':List Rat}{j:Nat}:∀ {R:List (List Rat)} {B:List Nat},(∀b∈B,c.getD b 0=c'.getD b 0)->Fj c j R B=Fj c' j R B
 |[],[],_=>rfl
 |[],_ :: _,_=>rfl
 |_ :: _,[],_=>rfl
 |x :: R,b :: B,h=>by
  unfold Fj;rw[h b zQ,Ns fun q E=>h q (zY _ E)]
def Units:List (List Rat)->List Nat->Prop
 |x :: R,_ :: B=>(∀b'∈B,x.getD b' 0=0)/\Units R B
 |_,_=>True
theorem Jw{n:Nat}:∀ {R:List (List Rat)} {B:List Nat} {c:List Rat},c.length=n->(∀x∈R,x.length=n)->(∀b∈B,b<n)->Units R B->B.length=R.length ->
  (clears c R B).length=n/\∀j,j<n->(clears c R B).getD j 0=c.getD j 0-Fj c j R B
 |[],[],c,hc,_,_,_,_=>⟨hc,fun j _=>by unfold clears Fj;grind⟩
 |[],_ :: _,c,_,_,_,_,h=>by simp at h
 |_ :: _,[],c,_,_,_,_,h=>by simp at h
 |x :: R,b :: B,c,hc,hx,hb,hu,hl=>by
  have J:=hx x zQ;have G:(KF c x (c.getD b 0)).length=n:=by rw[qA (by omega)];exact hc
  obtain⟨O,S⟩:=Jw (R:=R) (B:=B) G (fun y Y=>hx y (zY _ Y)) (fun q E=>hb q (zY _ E)) hu.2 (by simpa using hl);refine⟨O,fun j hj=>?_⟩;show(clears (KF c x (c.getD b 0)) R B).getD j 0=c.getD j 0 - (c.getD b 0*x.getD j 0+Fj c j R B);rw[S j hj,Io (by omega) (by omega),Ns (c':=c) fun q E=>by
   rw[Io (by omega) (by have:=hb q (zY _ E);omega),hu.1 q E];grind]
  grind
theorem SA(c:List Rat)(j:Nat)(f g:Nat->Rat):∀(R:List (List Rat)) (B l:List Nat),l.length=R.length->B.length=R.length->(∀i,i<R.length->BO R i j=f (l.getD i 0))->(∀i,i<R.length->c.getD (B.getD i 0) 0=g (l.getD i 0)) ->
  Fj c j R B=sl (fun r=>f r*g r) l
 |[],[],[],_,_,_,_=>rfl
 |[],_ :: _,_,_,h,_,_=>by simp at h
 |[],[],_ :: _,h,_,_,_=>by simp at h
 |_ :: _,[],_,_,h,_,_=>by simp at h
 |_ :: _,_ :: _,[],h,_,_,_=>by simp at h
 |x :: R,b :: B,a :: l,h1,h2,h3,h4=>by
  have E:x.getD j 0=f a:=h3 0 (by simp);have G:c.getD b 0=g a:=h4 0 (by simp);have J:=SA c j f g R B l (by simpa using h1) (by simpa using h2) (fun i hi=>h3 (i+1) (by simpa using hi)) (fun i hi=>h4 (i+1) (by simpa using hi));show c.getD b 0*x.getD j 0+Fj c j R B=f a*g a+sl _ l;rw[E,G,J];grind
theorem abv(q j:Nat)(f:Nat->Rat)(g:Nat->Nat):∀(R:List (List Rat)) (B l:List Nat),l.length=R.length->B.length=R.length->(∀i,i<R.length->BO R i j=f (l.getD i 0))->(∀i,i<R.length->B.getD i 0=g (l.getD i 0)) ->
  Ip q j R B=sl (fun r=>if g r=q then f r else 0) l
 |[],[],[],_,_,_,_=>rfl
 |[],_ :: _,_,_,h,_,_=>by simp at h
 |[],[],_ :: _,h,_,_,_=>by simp at h
 |_ :: _,[],_,_,h,_,_=>by simp at h
 |_ :: _,_ :: _,[],h,_,_,_=>by simp at h
 |x :: R,b :: B,a :: l,h1,h2,h3,h4=>by
  have E:x.getD j 0=f a:=h3 0 (by simp);have G:b=g a:=h4 0 (by simp);have J:=abv q j f g R B l (by simpa using h1) (by simpa using h2) (fun i hi=>h3 (i+1) (by simpa using hi)) (fun i hi=>h4 (i+1) (by simpa using hi));show(if b=q then x.getD j 0 else 0)+Ip q j R B=(if g a=q then f a else 0)+sl _ l;rw[E,G,J]
theorem Wx{R:List (List Rat)}:∀ {k:Nat} {B:List Nat},B.length=(R.drop k).length->(∀i q,i<R.length->q<R.length->i<q->k<=i->BO R i (B.getD (q-k) 0)=0)->Units (R.drop k) B:=by
 intro k B
 induction hn:(R.drop k).length generalizing k B with
 |zero=>
  intro E _;have:B=[]:=zZ E;subst this;have:R.drop k=[]:=zZ hn;rw[this];trivial
 |succ n Y=>
  intro E h;have G:k<R.length:=by simp at hn;omega
  rw[yU G];cases B with
  |nil=>simp at E
  |cons b B=>
   have J:B.length=n:=by simpa using E
   refine⟨fun b' O=>?_,Y (k:=k+1) (by simp at hn⊢;omega) J fun i q hi hq S hle=>?_⟩
   .obtain⟨t,ht,e⟩:=jU O
    have hlen:n+1+k=R.length:=by simp at hn;omega
    have:=h k (k+1+t) G (by omega) (by omega) (zq _);rw[show k+1+t-k=t+1 by omega]at this;have e2:(b :: B).getD (t+1) 0=b':=e;rw[e2]at this;have e3:R[k].getD b' 0=BO R k b':=by
     have:R.getD k []=R[k]:=by
      rw[zx,zy G];rfl
     unfold BO;rw[this]
    rw[e3];exact this
   .have:=h i q hi hq S (by omega)
    rw[show q-k=(q - (k+1))+1 by omega]at this;exact this
theorem Wy(h:Vq p p.N p.c1 T D ι)(hg:p.Good T)(OQ:∀r,r<p.m->r∈ι)(hz:Zero p T)(a8:∀i,i<D.R.length->p.n<=D.B.getD i 0->∀j,j<p.n->BO D.R i j=0){cs:List Rat}(b7:cs.length=p.n+1)(b2:∀j,j<p.n->cs.getD j 0=p.c j)(b8:cs.getD p.n 0=0) :
  Vq p p.n (p.C 0) T ⟨(pick p.n D.R D.B).1,(pick p.n D.R D.B).2,clears cs (pick p.n D.R D.B).1 (pick p.n D.R D.B).2⟩ (CB p.n ι D.B):=by
 obtain⟨E,h2,h3,h4,h5,h6,h7⟩:=PX p.n p.N D.R D.B ι h.A8 h.len h.row (by unfold Prog.N;omega);have hN:∀j,j<p.n->j<p.N:=fun j S=>by unfold Prog.N;omega
 have J:∀i j,i<(pick p.n D.R D.B).1.length->j<p.n->BO (pick p.n D.R D.B).1 i j=T.e ((CB p.n ι D.B).getD i 0) j:=fun i j hi S=>by
  obtain⟨q,g1,g2,g3,g4,g5⟩:=h5 i (by rw[<- E];exact hi);rw[g4 j S,h.ent q j g1 (hN j S),g2]
 have a6:∀i,i<(pick p.n D.R D.B).1.length->BO (pick p.n D.R D.B).1 i p.n=T.b ((CB p.n ι D.B).getD i 0):=fun i hi=>by
  obtain⟨q,g1,g2,g3,g4,g5⟩:=h5 i (by rw[<- E];exact hi);rw[g5,h.rhs q g1,g2]
 have a7:∀i,i<(pick p.n D.R D.B).1.length->(pick p.n D.R D.B).2.getD i 0=T.B ((CB p.n ι D.B).getD i 0):=fun i hi=>by
  obtain⟨q,g1,g2,g3,g4,g5⟩:=h5 i (by rw[<- E];exact hi);rw[g3,h.Bh q g1,g2]
 have a1:(CB p.n ι D.B).Nodup:=h.nd.sublist h6;have G:∀r∈CB p.n ι D.B,r<p.m:=fun r Y=>h.lt r (h6.subset Y)
 have b3:∀r,r<p.m->r∉CB p.n ι D.B->p.n<=T.B r/\T.b r=0/\∀j,j<p.n->T.e r j=0:=fun r Y hn=>by
  obtain⟨i,hi,rfl⟩:=jU (OQ r Y);rw[h.len]at hi;have hB:p.n<=D.B.getD i 0:=Nat.le_of_not_lt fun G=>hn (h7 i hi G)
  have b4:p.n<=T.B (ι.getD i 0):=by rw[<- h.Bh i hi];exact hB
  exact⟨b4,hz _ Y b4,fun j S=>by rw[<- h.ent i j hi (hN j S)];exact a8 i hi hB j S⟩
 have O:∀i,i<(pick p.n D.R D.B).1.length->(pick p.n D.R D.B).2.getD i 0<p.n:=fun i hi=>h4 _ (lN (by rw[h2,<- E];exact hi))
 have b9:Units (pick p.n D.R D.B).1 (pick p.n D.R D.B).2:=by
  have:=Wx (R:=(pick p.n D.R D.B).1) (k:=0) (B:=(pick p.n D.R D.B).2) (by rw[yw,h2,E]) fun i q hi hq c0 _=>by
   rw[Nat.sub_zero,J i _ hi (O q hq),a7 q hq,hg.ok.un _ _ (G _ (lN (by rw[<- E];exact hi))) (G _ (lN (by rw[<- E];exact hq)))];rw[su fun e=>by have:=lS a1 (by rw[<- E];exact hi) (by rw[<- E];exact hq) e;omega]
  rwa [yw]at this
 obtain⟨k1,k2⟩:=Jw (n:=p.n+1) b7 h3 (fun b hb=>by have:=h4 b hb;omega) b9 (by rw[h2,E]);have b5:∀i,i<(pick p.n D.R D.B).1.length->cs.getD ((pick p.n D.R D.B).2.getD i 0) 0=p.C 0 (T.B ((CB p.n ι D.B).getD i 0)):=fun i hi=>by
  rw[b2 _ (O i hi),<- a7 i hi];unfold Prog.C;rw[sZ rfl,sZ (O i hi)]
 have b6:∀r,r<p.m->r∉CB p.n ι D.B->p.C 0 (T.B r)=0:=fun r Y hn=>Prog.PW 0 (b3 r Y hn).1
 refine⟨E.symm,by rw[h2,E],k1,h3,G,a1,by unfold Prog.N;omega,J,a6,a7,fun j S=>?_,?_,b3⟩
 .show(clears _ _ _).getD j 0=_
  rw[k2 j (by omega),SA cs j (fun r=>T.e r j) (fun r=>p.C 0 (T.B r)) _ _ _ E.symm (by rw[h2,E]) (fun i hi=>J i j hi S) b5,Wp a1 G fun r Y hn=>by rw[b6 r Y hn];grind,b2 j S];unfold gm;have:p.C 0 j=p.c j:=by unfold Prog.C;rw[sZ rfl,sZ S]
  rw[this]
 .show(clears _ _ _).getD p.n 0=_
  rw[k2 p.n (by omega),SA cs p.n T.b (fun r=>p.C 0 (T.B r)) _ _ _ E.symm (by rw[h2,E]) a6 b5,Wp a1 G fun r Y hn=>by rw[b6 r Y hn];grind,b8];unfold zz;grind
theorem Nu:Nq p p.n (p.n+1) p.C ι:=fun T D h j G q hq=>by
 unfold K_
 by_cases E:q=0
 .subst E
  rw[sZ rfl];exact h.cost j G
 .rw[su E,abv (q-1) j (fun r=>T.e r j) T.B D.R D.B ι h.len h.A8 (fun i hi=>h.ent i j hi G) h.Bh,Wp h.nd h.lt fun r J hn=>by
   have:=(h.hid r J hn).1;rw[su (by omega)]]
  unfold gm;have O:p.C q j=if j+1=q then -1 else 0:=by
   unfold Prog.C;rw[su E]
   by_cases e:j+1=q
   .rw[sZ e,sZ ⟨e,G⟩]
   .rw[su e,su fun h=>e h.1]
  have S:sm (fun i=>T.e i j*p.C q (T.B i)) p.m= -sm (fun r=>if T.B r=q-1 then T.e r j else 0) p.m:=by
   have:=dK (-1) (fun r=>if T.B r=q-1 then T.e r j else 0) p.m;have Y:-sm (fun r=>if T.B r=q-1 then T.e r j else 0) p.m= -1*sm (fun r=>if T.B r=q-1 then T.e r j else 0) p.m:=by grind
   rw[Y,<- this];refine dL fun i _=>?_
   unfold Prog.C;rw[su E]
   by_cases e:T.B i=q-1
   .rw[sZ e,sZ (by omega)];grind
   .rw[su e,su (by omega)];grind
  rw[O,S];grind
theorem aan{D':TQ}{O:Bool}(hm:akn p.n (p.n+1) D O D')(h:Vq p p.n (p.C 0) T D ι)(hg:p.Good T)(ho:p.Out T) :
  ∃T',Vq p p.n (p.C 0) T' D' ι/\p.Good T'/\p.Out T'/\(O=true->p.Best (Bh p.m T'))/\(O=false->p.Open):=by
 obtain⟨h1,E⟩:=hm;obtain⟨T1,G,k2,k3⟩:=h1.run Nu h hg (Q:=fun T=>p.Out T) ho (fun T T' _ S a1=>by
  obtain⟨s,r,g1,g2,rfl⟩:=a1
  by_cases hB:T.B r<p.n
  .exact S.piv hB g1.fr
  .have:=(S.z r g2.lt (by omega)).2 s g1.fr
   have:=g2.pos;grind)
 refine⟨T1,G,k2,k3,fun e=>?_,fun e=>?_⟩
 .rcases E with ⟨_,E⟩|⟨E,_⟩
  .exact Prog.agD k2 k3 fun j hj hb hp=>E j hj (fun hm=>hb ((G.mem hj).mp hm)) ((Nu.lp G hj).mpr hp)
  .rw[e]at E;cases E
 .rcases E with ⟨E,_⟩|⟨_,s,J,h4⟩
  .rw[e]at E;cases E
  .have Y:¬basic p.m T1 s:=fun hb=>J.non ((G.mem J.lt).mpr hb)
   have FZ:∀i,i<p.m->T1.e i s<=0:=fun i hi=>by
    by_cases hm:i∈ι
    .obtain⟨q,S,rfl⟩:=jU hm
     rw[G.len]at S;rw[<- G.ent q s S J.lt];exact Rat.not_lt.mp (h4 q S)
    .rw[(G.hid i hi hm).2.2 s J.lt];exact uZ
   exact Prog.Nc k2 k3 J.lt Y (Prog.adL k2 J.lt Y ((Nu.lp G J.lt).mp J.pos) FZ) FZ
theorem arO{C:Nat->Rat}(h:Vq p n' C T D ι)(E:p.Good T){i:Nat}(hi:i<D.R.length):BO D.R i n'=Bh p.m T (D.B.getD i 0):=by
 rw[h.rhs i hi,h.Bh i hi,Ig E.ok (h.io hi)]
theorem anv(h:Vq p p.n (p.C 0) T D ι)(E:p.Good T):-D.c.getD p.n 0=ob p.n p.c (Bh p.m T):=by
 rw[h.val,<- Prog.al1,<- Prog.aai E];grind
end
end Go.Lp
namespace Go.Proofs.YtkpdoehbhmipcaaGreat
open Go Go.TV
theorem arP{U V v1 top P g Vr Ur:Int}(hg:0<=g)(G:0<=P)(J:V=v1*P+Vr)(E:0<=Vr)(O:U=top*P+Ur)(S:Ur<P)(h:top<(g+1)*v1):U<(g+1)*V:=by
 have Y:(top+1)*P<=(g+1)*v1*P:=zS (by omega) G;have h2:0<=(g+1)*Vr:=vg (by omega) E;subst J O;rw[xu,<- uq];rw[Int.add_mul top]at Y;omega
theorem ako{U V g B:Int}(E:0<=V)(h:U<V*B)(G:B<=g):U<g*V:=by
 have:=zS G E;rw[Int.mul_comm V B]at h;omega
theorem anw{U V v1 v2 top rest E P g B Vr Ur:Int}(J:0<=g)(O:0<=P)(S:V=(v1*B+v2)*P+Vr)(G:0<=Vr)(Y:U=(top*B+E)*P+Ur)(a1:Ur<P)(hr:rest=top-g*v1)(h:rest*B+E<g*v2):U<g*V:=by
 have e:g*(v1*B+v2)=g*v1*B+g*v2:=by rw[xu,uq]
 have e2:rest*B=top*B-g*v1*B:=by rw[hr,uM]
 have h1:(top*B+E+1)*P<=g*(v1*B+v2)*P:=zS (by omega) O;have h2:0<=g*Vr:=vg J G;subst S Y;rw[xu,<- uq];rw[Int.add_mul (top*B+E)]at h1;omega
theorem arR{U V v1 v2 top rest E P g B Vr Ur:Int}(Y:0<=g)(G:g<=B)(hB:0<=B)(J:0<=P)(O:1<=v1)(a1:0<=v2)(hV:V=(v1*B+v2)*P+Vr)(a6:0<=Vr)(S:Vr<=P)(hU:U=(top*B+E)*P+Ur)(a7:0<=Ur)(hr:rest=top-g*v1)(h:g*v2<=rest*B+E):(g-1)*V<=U:=by
 have e:g*(v1*B+v2)=g*v1*B+g*v2:=by rw[xu,uq]
 have e2:rest*B=top*B-g*v1*B:=by rw[hr,uM]
 have h1:g*(v1*B+v2)*P<=(top*B+E)*P:=zS (by omega) J;have h2:g*Vr<=B*P:=Int.le_trans (zG S Y) (zS G J);have h3:1*B<=v1*B:=zS O hB;have h4:B*P<=(v1*B+v2)*P:=zS (by omega) J;have e3:g*V=g*(v1*B+v2)*P+g*Vr:=by rw[hV,xu,uq]
 rw[uM,Int.one_mul,e3];omega
theorem anx{U V v1 v2 top rest E P g B Vr Ur:Int}(Y:0<=g)(J:g<=B)(S:0<=B)(G:0<=P)(a1:v2<B)(hV:V=(v1*B+v2)*P+Vr)(a6:Vr<=P)(hU:U=(top*B+E)*P+Ur)(a7:0<=Ur)(O:0<=E)(hr:rest=top-g*v1)(h:B<=rest):g*V<=U:=by
 have h1:v2*P+P<=B*P:=by
  have:=zS (c:=P) (show v2+1<=B by omega) G;rw[Int.add_mul]at this;omega
 have h2:g*(v2*P+Vr)<=B*(B*P):=Int.le_trans (zG (show v2*P+Vr<=B*P by omega) Y) (zS J (vg S G));have h3:g*v1*(B*P)<=(top-B)*(B*P):=zS (by omega) (vg S G);have h4:0<=E*P:=vg O G;have e1:g*V=g*v1*(B*P)+g*(v2*P+Vr):=by rw[hV];grind
 have e2:U=top*(B*P)+E*P+Ur:=by rw[hU];grind
 rw[uM]at h3;omega
theorem agH{U V g:Int}(E:U<(g+1)*V)(G:(g-1)*V<=U):(0<=U-g*V/\U-g*V<V)\/(U-g*V<0/\0<=U - (g-1)*V/\U - (g-1)*V<V):=by
 rw[Int.add_mul]at E;have e:(g-1)*V=g*V-V:=by rw[uM];omega
 rw[e]at G⊢;omega
theorem WA{lo t P X:Int}(G:0<=lo)(J:lo<P)(O:0<=X)(S:X<P)(e:X=lo+P*t):t=0:=by
 have E:0<P:=by omega
 rcases Int.lt_trichotomy t 0 with h|h|h
 .have:=zG (show t<= -1 by omega) (xJ E)
  omega
 .exact h
 .have:=zG (show 1<=t by omega) (xJ E)
  omega
theorem akp{lo t P X:Int}(G:0<=lo)(J:lo<P)(O:-P<=X)(S:X<0)(e:X=lo+P*t):t= -1:=by
 have E:0<P:=by omega
 rcases Int.lt_trichotomy t (-1)with h|h|h
 .have:=zG (show t<= -2 by omega) (xJ E)
  omega
 .exact h
 .have:=zG (show 0<=t by omega) (xJ E)
  omega
theorem adT{u g n c:Int}(hu:0<=u/\u<1000000000)(E:0<=g/\g<1000000000)(hn:0<=n/\n<1000000000)(hc:0<=c/\c<=1000000000) :
  -999999999000000001<=u-g*n-c/\u-g*n-c<1000000000/\0<=g*n/\g*n<=999999998000000001:=by
 have G:g*n<=999999999*999999999:=Int.le_trans (zS (show g<=999999999 by omega) hn.1) (zG (by omega) (by decide));have J:=vg E.1 hn.1;omega
theorem agJ{b1:Int}(Y:0<b1)(h1:b1<1000000000):1<=1000000000 / (b1+1)/\1000000000 / (b1+1)*(b1+1)<=1000000000/\500000000<=b1*(1000000000 / (b1+1))/\1000000000 / (b1+1)<=500000000:=by
 have G:1<=1000000000 / (b1+1):=(Int.le_ediv_iff_mul_le (by omega)).mpr (by omega);have hm:1000000000 / (b1+1)*(b1+1)<=1000000000:=Int.ediv_mul_le _ (by omega);have J:=Int.lt_ediv_add_one_mul_self 1000000000 (show 0<b1+1 by omega);refine⟨G,hm,?_,?_⟩
 .generalize 1000000000 / (b1+1)=q at *
  have e1:q*(b1+1)=q*b1+q:=by rw[xu,Int.mul_one]
  have e2:(q+1)*(b1+1)=q*b1+q+b1+1:=by rw[Int.add_mul];omega
  rw[Int.mul_comm b1 q]
  by_cases h:q<=b1
  .have O:1*b1<=q*b1:=zS G (by omega)
   by_cases h4:q+b1+1<=500000000
   .omega
   .by_cases E:2<=q
    .have:2*b1<=q*b1:=zS E (by omega)
     by_cases h6:250000000<=b1
     .omega
     .omega
    .have:q=1:=by omega
     subst this;omega
  .have O:b1*q≥b1*(b1+1):=zG (by omega) (by omega)
   have S:1*q<=b1*q:=zS (by omega) (by omega);rw[Int.mul_comm b1 q]at S
   by_cases E:2<=b1
   .have:q*2<=q*b1:=zG E (by omega)
    omega
   .have:b1=1:=by omega
    subst this;omega
 .have:=zG (show 2<=b1+1 by omega) (show 0<=1000000000 / (b1+1) by omega)
  omega
def D7:FuncId->Conv:=fun f=>if f∈([226,285]:List Nat)then .own else if f∈([272,286,287]:List Nat)then .inl else .JJ
abbrev adU:List Nat:=[266,226,285,272,286,287]
noncomputable def Iq:Ext:=fun f=>if f∈adU then none else some fun args σ nx=>ev Ze conv ext f args σ nx
theorem anz:Hw Ze Iq:=fun f g h args σ nx v σ' nx' E=>by
 unfold Iq at h
 split at h
 .cases h
 .cases h
  exact nH (by kernel_rfl) afR f args σ nx v σ' nx' E
theorem arS{f:FuncId}(h:List.contains adU f=false):¬f∈adU:=fun e=>by
 rw[List.contains_iff_mem.mpr e]at h;cases h
theorem fnO{f:FuncId}(h:List.contains adU f=false)(ts:List V):fn Ze D7 Iq f ts=fn Ze conv ext f ts:=by
 rw[mW,mW,nJ (g:=fun args σ nx=>ev Ze conv ext f args σ nx) (by unfold Iq;rw[su (arS h)])]
theorem cvO{f:FuncId}(h:List.contains adU f=false):D7 f= .JJ:=by
 have E:=arS h;unfold D7;simp only[adU,zX,zJ,or_false,not_or]at E;simp only[zX,zJ,or_false,E,if_false]
theorem agK:D7 226= .own:=id rfl
theorem agL:D7 285= .own:=id rfl
theorem akq:D7 272= .inl:=id rfl
theorem akr:D7 286= .inl:=id rfl
theorem aks:D7 287= .inl:=id rfl
attribute [go_sem] fnO cvO agK agL akq akr aks
theorem abw{σ:Store}{nx b:Nat}{xs:List Int}(hb:σ b=some ⟨xs.flatMap cI,1,true⟩)(ha:Short xs):ev Ze D7 Iq 272 [.rs b 0 xs.length] σ nx=some (.rs b 0 (AZ xs).length,σ,nx):=by
 unfold Short at ha;rw[nK [.tmp 2] [] func272];simp only[go_sem];generalize hL:gI _ _=y;obtain⟨r,rfl,T',rfl,S⟩:=je hL (fun k st=>∃T,st=⟨T,σ,nx⟩/\T 0= .rs b 0 k/\k<=xs.length/\AZ (xs.take k)=AZ xs) (fun r=>∃T,r=(.exit 0,⟨T,σ,nx⟩)/\T 0= .rs b 0 (AZ xs).length) (by
  clear hL;rintro k _ ⟨T,rfl,G,hk,E⟩;cases k with
  |zero=>
   have f0:¬(0:Int)<0:=by decide
   refine .inr ⟨_,by simp only[go_sem,G,f0];rfl,by simp,_,rfl,?_⟩;simp only[go_sem,G];rw[<- E];rfl
  |succ k=>
   have J:k<xs.length:=by omega
   have f0:(0:Int)<((k+1:Nat):Int):=by omega
   have e5:((k+1:Nat):Int) - 1=(k:Int):=by omega
   have e2:=Zl (n:=(k:Int));have f1:=jL k;have f2:(k:Int)<((k+1:Nat):Int):=by omega
   have f6:=idx J;have f7:k<=k+1:=by omega
   have f8:k<=xs.length:=by omega
   rw[aZ J,aN]at E
   by_cases O:xs[k]=0
   .have Y:(xs[k]==(0:Int))=true:=by simpa using O
    rw[sZ O]at E;refine .inl ⟨_,by simp only[go_sem,G,hb,f0,e5,e2,f1,f2,f6,f7,f8,Y,vS];rfl,k,by omega,_,rfl,?_,by omega,E⟩;simp only[go_sem]
   .have Y:(xs[k]==(0:Int))=false:=by simpa using O
    rw[su O]at E;refine .inr ⟨_,by simp only[go_sem,G,hb,f0,e5,e2,f1,f2,f6,f7,Y];rfl,by simp,_,rfl,?_⟩;simp only[go_sem];rw[G,<- E];simp;omega) xs.length ⟨_,rfl,by simp only[go_sem],zq _,by rw[yZ]⟩
 simp only[go_sem,S]
theorem agM(m n:Nat)(hm:ln m<=1000000)(hn:ln n<=1000000)(zm:m≠0)(zn:n≠0)(nx:Nat):∃b2 P,ev Ze D7 Iq 226 [LI (dg m),LI (dg n)] lI nx=some (.rs nx 0 (ln (m*n)),b2,nx+1)/\b2 nx=some ⟨P.flatMap cI,1,true⟩/\P.length=ln m+ln n/\Dg P/\vl P=(m*n:Nat):=by
 unfold ln at hm hn;rw[nK [.tmp 4] [] func226];have cm:((((dg m).length:Nat):Int)==0)=false:=by rw[sW];have:=rM (oZ zm);omega
 have cn:((((dg n).length:Nat):Int)==0)=false:=by rw[sW];have:=rM (oZ zn);omega
 have pn:0<(dg n).length:=List.length_pos_iff.mpr (oZ zn);obtain⟨e1,e2,e3⟩:=jc (k:=(dg m).length+(dg n).length) (by omega);have e0:((dg m).length:Int)+((dg n).length:Int)=(((dg m).length+(dg n).length:Nat):Int):=by omega
 have e4:=Zl (n:=(((dg m).length+(dg n).length:Nat):Int)) (by omega) (by omega);simp only[go_sem,cm,cn,e0,e1,e2,e3,e4];generalize hL:gI _ _=y;obtain⟨r,rfl,T',σ',P,rfl,S,E,hP,hd,hv⟩:=pJ hL (dg m).length (fun k st=>st.T 1=LI (dg n)/\st.T 5= .rs nx 0 ((dg m).length+(dg n).length)/\st.T 26=LI (dg m)/\st.T 27=I (dg m).length/\st.T 28=I k/\st.nx=nx+1/\∃P,st.σ nx=some ⟨Fg P ((dg m).length-k),1,true⟩/\P.length=k+(dg n).length/\Dg P/\vl P=vl ((dg m).take k)*n)
  (fun r=>∃T σ P,r=(.exit 0,⟨T,σ,nx+1⟩)/\T 5= .rs nx 0 ((dg m).length+(dg n).length)/\σ nx=some ⟨P.flatMap cI,1,true⟩/\P.length=(dg m).length+(dg n).length/\Dg P/\vl P=(m*n:Nat)) (by
   clear hL;rintro k ⟨T,σ,Gh⟩ a8 ⟨Y,S,EG,G,J,O,P,E,hP,hd,hv⟩;simp only at Y S EG G J O E;subst O;have f1:(k:Int)<((dg m).length:Int):=by omega
   have f2:=jL k;have f3:=Zl (n:=(k:Int)+1);have f5:=Aw (dg m) k a8;have f6:=idx a8;obtain⟨x,hx⟩:∃x,x=(dg m)[k]:=⟨_,rfl⟩;have xr:=(oz m).get a8;rw[<- hx]at f6 xr;have v1:=Zq a8;rw[<- hx]at v1;obtain⟨g,hg⟩:∃g,(dg m).length-k=g+1:=⟨(dg m).length-k-1,by omega⟩;have b3:(dg m).length - (k+1)=g:=by omega
   rw[hg]at E;refine cu ?_
   conv=>
    enter [1,r,1,1]
    simp only[go_sem,Y,S,EG,G,J,f1,f2,f5,f6]
   generalize hL:gI _ _=z;obtain⟨r,rfl,T',σ',c,W,rfl,Y,S,h6,h8,EG,G,J,E,hW,hd,hv,a1,a6⟩:=pJ hL (dg n).length (fun j st=>st.T 1=LI (dg n)/\st.T 5= .rs nx 0 ((dg m).length+(dg n).length)/\st.T 6=I k/\st.T 7=I x/\st.T 26=LI (dg m)/\st.T 27=I (dg m).length/\st.T 28=I k/\st.T 33=LI (dg n)/\st.T 34=I (dg n).length/\st.T 35=I j/\st.nx=nx+1/\∃c W,st.T 8=I c/\st.σ nx=some ⟨Fg W (g+1),1,true⟩/\W.length=k+(dg n).length/\Dg W/\vl W+bp (k+j)*c=vl ((dg m).take k)*n+bp k*(x*vl ((dg n).take j))/\0<=c/\c<1000000000)
    (fun r=>∃T σ c W,r=(.exit 2,⟨T,σ,nx+1⟩)/\T 1=LI (dg n)/\T 5= .rs nx 0 ((dg m).length+(dg n).length)/\T 6=I k/\T 8=I c/\T 26=LI (dg m)/\T 27=I (dg m).length/\T 28=I k/\σ nx=some ⟨Fg W (g+1),1,true⟩/\W.length=k+(dg n).length/\Dg W/\vl W+bp (k+(dg n).length)*c=vl ((dg m).take k)*n+bp k*(x*n)/\0<=c/\c<1000000000) (by
     clear hL;rintro j ⟨T,σ,Gh⟩ hj ⟨Y,S,h6,h7,EG,G,J,VP,PD,a7,O,c,W,h8,E,hW,hd,hv,a1,a6⟩;simp only at Y S h6 h7 h8 EG G J VP PD a7 O E;subst O;have g1:(j:Int)<((dg n).length:Int):=by omega
     have g2:=jL j;have g3:=Zl (n:=(j:Int)+1);have g5:=Aw (dg n) j hj;have g6:=idx hj;obtain⟨b,hb⟩:∃b,b=(dg n)[j]:=⟨_,rfl⟩;have br:=(oz n).get hj;rw[<- hb]at g6 br;have v2:=Zq hj;rw[<- hb]at v2;have p0:(k:Int)+(j:Int)=((k+j:Nat):Int):=by omega
     have p1:=Zl (n:=((k+j:Nat):Int));have p2:(0:Int)<=((k+j:Nat):Int):=by omega
     have p3:((k+j:Nat):Int)<(((dg m).length+(dg n).length:Nat):Int):=by omega
     have p4:k+j<W.length:=by omega
     have p5:=RN (o:=W) (g+1) p4;have p6:k+j<(Fg W (g+1)).length:=by rw[nD];omega
     obtain⟨w,hw⟩:∃w,w=W[k+j]:=⟨_,rfl⟩;have wr:=hd.get p4;rw[<- hw]at p5 wr;have mm:=RP (x:=x) (y:=b) (c:=c) (w:=w) xr br ⟨a1,a6⟩ wr;have w1:=Zl (n:=x*b);have w2:=Zl (n:=w+x*b);have w3:=Zl (n:=w+x*b+c);obtain⟨q1,q2⟩:=aY (n:=w+x*b+c) (by omega);have w4:=Zl (n:=(w+x*b+c) / 1000000000);have c6:=n_ (g+1) ((w+x*b+c)%1000000000) p4;have vs:=Z5 p4 ((w+x*b+c)%1000000000);rw[<- hw]at vs;refine .inl ⟨_,by simp only[go_sem,Y,S,h6,h7,h8,EG,G,J,VP,PD,a7,E,g1,g2,g3,g5,g6,p0,p1,p2,p3,p5,p6,w1,w2,w3,w4,q1,q2,c6];rfl,?_⟩;simp only[go_sem,Y,S,h6,h7,EG,G,J,VP,PD];refine⟨rfl,_,_,rfl,rfl,by rw[yK];exact hW,hd.set _ (by omega) (by omega),?_,by omega,by omega⟩;rw[vs,show k+(j+1)=k+j+1 by omega,ql,Jp (c:=c) (x:=x) (b:=b) (by omega) hv (.inr trivial),v2,RI];grind) (by
     clear hL;rintro ⟨T,σ,Gh⟩ ⟨Y,S,h6,h7,EG,G,J,VP,PD,a7,O,c,W,h8,E,hW,hd,hv,a1,a6⟩;simp only at Y S h6 h7 h8 EG G J VP PD a7 O E;subst O;rw[yZ,Zx]at hv;refine⟨_,by simp only[go_sem,PD,a7,zk];rfl,by simp,_,_,c,W,rfl,?_⟩;simp only[go_sem,Y,S,h6,h8,EG,G,J];exact⟨E,hW,hd,hv,a1,a6⟩) (by
     simp only[go_sem,Y,S,EG,G,J];exact⟨0,P,rfl,E,hP,hd,by rw[wB,hv];simp[vl],xW _,by decide⟩)
   have p0:(k:Int)+((dg n).length:Int)=((k+(dg n).length:Nat):Int):=by omega
   have p1:=Zl (n:=((k+(dg n).length:Nat):Int)) (by omega) (by omega);have p2:(0:Int)<=((k+(dg n).length:Nat):Int):=by omega
   have p3:((k+(dg n).length:Nat):Int)<(((dg m).length+(dg n).length:Nat):Int):=by omega
   have p6:k+(dg n).length<(Fg W (g+1)).length:=by rw[nD];omega
   have c6:=nC W g c hW;refine⟨_,by simp only[go_sem,Y,S,h6,h8,EG,G,J,E,f3,p0,p1,p2,p3,p6,c6];rfl,.inl ⟨_,rfl,?_⟩⟩;simp only[go_sem,Y,S,EG,G,b3];refine⟨rfl,_,rfl,by simp[hW];omega,hd.snoc a1 a6,?_⟩;rw[Zu,hW,hv,v1];grind) (by
   clear hL;rintro ⟨T,σ,Gh⟩ ⟨Y,S,EG,G,J,O,P,E,hP,hd,hv⟩;simp only at Y S EG G J O E;subst O;rw[yP,nG]at E;refine⟨_,by simp only[go_sem,G,J,zk];rfl,by simp,_,_,P,rfl,by simp only[go_sem,S],E,hP,hd,?_⟩;rw[hv,yZ,Zx,zC]) (by
   simp only[go_sem];refine⟨List.replicate (dg n).length 0,?_,by simp,fun x hx=>by rw[List.mem_replicate]at hx;omega,(Z4 _).trans (by simp[vl])⟩;congr 2;unfold Fg;rw[show List.flatMap cI (List.replicate (dg n).length 0)=rep (dg n).length [I 0] by unfold rep;rw[uf]];unfold rep;rw[<- List.flatten_append,vH,wV])
 have ht:=abw (σ:=σ') (nx:=nx+1) (b:=nx) (xs:=P) E (by unfold Short;omega);rw[Cj hd hv,hP]at ht;refine⟨σ',P,by simp only[go_sem,qM,S,ht];rfl,E,hP,hd,hv⟩
theorem agN(n d:Nat)(hl:(dg n).length<=1000000)(h0:d≠0)(hd:d<1000000000)(nx:Nat):∃a1,ev Ze D7 Iq 285 [LI (dg n),I d] lI nx=some (.Au [.rs nx 0 (ln (n / d)),I (n%d:Nat)],a1,nx+1)/\a1 nx=some ⟨(pad (n / d) (dg n).length).flatMap cI,1,true⟩:=by
 have e1:(8:Int)*((dg n).length:Int)<=281474976710656:=by omega
 have e2:((dg n).length:Int)<=9223372036854775807:=by omega
 have e3:(0:Int)<=((dg n).length:Int):=by omega
 have e4:=Zl (n:=((dg n).length:Int) - 1);rw[nK [.tmp 4,.tmp 5] [7] func285];simp only[go_sem,e1,e2,e3,e4];generalize hL:gI _ _=y;obtain⟨r,rfl,T',σ',rfl,h6,h7,E⟩:=je hL (fun m st=>st.T 0=LI (dg n)/\st.T 1=I d/\st.T 6= .rs nx 0 (dg n).length/\st.T 8=I ((m:Int) - 1)/\st.T 7=I (n / 1000000000^m%d:Nat)/\m<=(dg n).length/\st.nx=nx+1/\st.σ nx=some ⟨rep m [I 0]++((pad (n / d) (dg n).length).drop m).flatMap cI,1,true⟩)
  (fun r=>∃T σ,r=(.exit 0,⟨T,σ,nx+1⟩)/\T 6= .rs nx 0 (dg n).length/\T 7=I (n%d:Nat)/\σ nx=some ⟨(pad (n / d) (dg n).length).flatMap cI,1,true⟩) (by
   clear hL;rintro m ⟨T,σ,Gh⟩ ⟨t0,t1,t6,t8,t7,hm,G,E⟩;simp only at t0 t1 t6 t8 t7 G E;subst G;have G:nx<nx+1:=by omega
   cases m with
   |zero=>
    have a6:¬(0:Int)<=0-1:=by omega
    rw[Nat.pow_zero,xC]at t7;refine .inr ⟨_,by simp only[go_sem,t8,a6];rfl,by simp,_,_,rfl,by simp only[go_sem,t6],by simp only[go_sem,t7],?_⟩;rw[E,yw];rfl
   |succ m=>
    have J:m<(dg n).length:=by omega
    have e5:((m+1:Nat):Int) - 1=(m:Int):=by omega
    rw[e5]at t8;have f0:=jL m;have f3:(m:Int)<((dg n).length:Int):=by omega
    have f5:=Aw (dg n) m J;have f6:=idx J;rw[oh J]at f6;have a7:=oU n m;have O:=VO (n:=n / d) (k:=(dg n).length) J;have hq:n / d / 1000000000^m=n / 1000000000^m / d:=by rw[xE,xE,wW]
    rw[hq]at O;have hle:n / 1000000000^m<=n:=xP _ _;obtain⟨u,hu⟩:∃u,n / 1000000000^(m+1)=u:=⟨_,rfl⟩;obtain⟨w,S⟩:∃w,n / 1000000000^m=w:=⟨_,rfl⟩;rw[hu]at t7;rw[hu,S]at a7;rw[S]at f6 O hle;have hw:w%1000000000<1000000000:=vk _ (by decide);have hr:u%d<d:=vk _ (by omega);have hx:u%d*1000000000+w%1000000000<d*1000000000:=by omega
    have Y:w=d*1000000000*(u / d)+(u%d*1000000000+w%1000000000):=by
     have:=Nat.div_add_mod u d;have h3:d*(u / d)*1000000000=d*1000000000*(u / d):=by rw[Nat.mul_right_comm]
     omega
    obtain⟨x,a8⟩:∃x,u%d*1000000000+w%1000000000=x:=⟨_,rfl⟩;rw[a8]at Y hx;have b2:w / d%1000000000=x / d:=by
     have h1:w / d=1000000000*(u / d)+x / d:=by
      rw[Y,vM,wV,Nat.add_mul_div_left _ _ (by omega),wV]
     have h2:x / d<1000000000:=Nat.div_lt_of_lt_mul hx;rw[h1];generalize x / d=q at h2⊢;generalize u / d=p;omega
    have b3:w%d=x%d:=by
     rw[Y,vM,wV,Nat.add_mul_mod_self_left]
    have f7:=Zl (n:=(m:Int) - 1);have f8:=Zl (n:=((u%d:Nat):Int)*1000000000);have g9:((u%d:Nat):Int)*1000000000+((w%1000000000:Nat):Int)=(x:Int):=by omega
    have f9:=Zl (n:=(x:Int));have c1:¬(d:Int)=0:=by omega
    have c2:(x:Int).tdiv (d:Int)=((x / d:Nat):Int):=by rw[yQ (by omega)];rfl
    have c3:(x:Int).tmod (d:Int)=((x%d:Nat):Int):=by rw[xM (by omega)];rfl
    have b4:x / d<=x:=xP _ _;have c4:=Zl (n:=((x / d:Nat):Int));have c5:m<(rep (m+1) [I 0]++((pad (n / d) (dg n).length).drop (m+1)).flatMap cI).length:=by rw[zl,gW];simp;omega
    have c6:=KR m (I 0) (I (x / d:Nat)) (((pad (n / d) (dg n).length).drop (m+1)).flatMap cI);refine .inl ⟨_,by simp only[go_sem,t0,t1,t6,t8,t7,E,f0,f3,f5,f6,f7,f8,f9,g9,c1,c2,c3,c4,c5,c6,G];rfl,m,by omega,?_⟩;simp only[go_sem,t0,t1,t6];refine⟨by rw[S,b3],by omega,?_⟩;rw[O,b2];rfl) (dg n).length ⟨by simp only[go_sem],by simp only[go_sem],by simp only[go_sem],by simp only[go_sem],by simp only[go_sem,ou,Nat.zero_mod],zq _,by simp only[go_sem],by simp only[go_sem];rw[xZ (by rw[iV];exact zq _)];simp⟩
 have pl:(pad (n / d) (dg n).length).length=(dg n).length:=iV _ _;have ht:=abw (σ:=σ') (nx:=nx+1) (b:=nx) (xs:=pad (n / d) (dg n).length) E (by unfold Short;omega)
 rw[H_ _ _ (Nat.lt_of_le_of_lt (xP _ _) (by
   have:=ou n;exact(Nat.div_eq_zero_iff_lt (Nat.pow_pos (by decide))).mp this)),pl]at ht
 refine⟨σ',by simp only[go_sem,qM,h6,h7,ht];rfl,E⟩
theorem WB{σ:Store}{b:Nat}{B:Option FU}(h:σ b=B):upd σ b B=σ:=by
 funext i;unfold upd
 split
 .rename_i e;subst e;exact h.symm
 .rfl
def lay(U:List Int)(j:Nat)(o:List Int):List Int:=U.take j++(o++U.drop (j+o.length))
theorem kD{U:List Int}{j:Nat}{o:List Int}(h:j+o.length<=U.length):(lay U j o).length=U.length:=by
 unfold lay;simp only[zl,zh,yj];omega
theorem abx(U:List Int)(j:Nat):lay U j []=U:=by unfold lay;simp
theorem Lc{U:List Int}{j k:Nat}{o:List Int}(E:o.length=k)(h:j+k<U.length):(lay U j o)[j+k]'(by rw[kD (by omega)];exact h)=U[j+k]:=by
 subst E;have e:(lay U j o)[j+o.length]?=U[j+o.length]?:=by
  unfold lay;rw[zN (by simp;omega),zN (by simp;omega),xq];congr 1;simp;omega
 rw[zy (by rw[kD (by omega)];exact h),zy h]at e;exact Option.some.inj e
theorem kC{U:List Int}{j k:Nat}{o:List Int}(E:o.length=k)(h:j+k<U.length)(y:Int):(lay U j o).set (j+k) y=lay U j (o++[y]):=by
 subst E;unfold lay;rw[yF _ _ (by simp;omega),yF _ _ (by simp;omega)];have G:j+o.length - (U.take j).length-o.length=0:=by simp;omega
 rw[G,yU h,wC];simp only[zl,yH,zF,List.singleton_append];rw[show j+(o.length+1)=j+o.length+1 by omega]
theorem adV{lo c g x n v:Int}{P:Int}{E c':Int}(G:E=x-c+1000000000*c')(J:lo+P*(-c)=v):lo+P*E+1000000000*P*(-c')=v+P*x:=by
 subst G;rw[<- J];grind
theorem arT{σ:Store}{nx bu bv:Nat}{U W:List Int}{j n:Nat}{g:Int}{L:Nat}{B:FU}(c0:n<L)(hu:σ bu=some ⟨U.flatMap cI,1,true⟩)(hv:σ bv=some B)(b9:bu≠bv)(hW:∀k (h:k<W.length),B.cells[k]?=some (I W[k]))(hn:W.length=n)
  (hj:j+n<U.length) (hl:U.length<=3000000) (dU:Dg U) (dW:Dg W) (hg:0<=g/\g<1000000000) :
  ∃lo t,ev Ze D7 Iq 286 [.rs bu j L,.rs bv 0 n,I g] σ nx=some (Bo (decide (t<0)),upd σ bu (some ⟨(lay U j (lo++[t])).flatMap cI,1,true⟩),nx)/\lo.length=n/\Dg lo/\vl lo+bp n*t=vl ((U.drop j).take n)+bp n*U[j+n] - g*vl W/\-1000000000<=t/\t<=1000000000:=by
 have b2:∀(x:Option FU),upd σ bu x bv=some B:=fun x=>by rw[aG _ _ (zD b9)];exact hv
 have b3:∀(x:Option FU),upd σ bu x bu=x:=fun x=>aF _ _ _
 rw[nK [.tmp 6] [] func286];simp only[go_sem];generalize hL:gI _ _=y;obtain⟨r,rfl,T',lo,c,rfl,h0,h1,h7,E,OT,G,hc⟩:=pJ hL n (fun k st=>st.T 0= .rs bu j L/\st.T 1= .rs bv 0 n/\st.T 2=I g/\st.T 11= .rs bv 0 n/\st.T 12=I n/\st.T 13=I k/\st.nx=nx/\∃lo c,st.T 7=I c/\st.σ=upd σ bu (some ⟨(lay U j lo).flatMap cI,1,true⟩)/\lo.length=k/\Dg lo/\vl lo+bp k*(-c)=vl ((U.drop j).take k) - g*vl (W.take k)/\0<=c/\c<=1000000000)
  (fun r=>∃T lo c,r=(.exit 0,⟨T,upd σ bu (some ⟨(lay U j lo).flatMap cI,1,true⟩),nx⟩)/\T 0= .rs bu j L/\T 1= .rs bv 0 n/\T 7=I c/\lo.length=n/\Dg lo/\vl lo+bp n*(-c)=vl ((U.drop j).take n) - g*vl W/\0<=c/\c<=1000000000) (by
   clear hL;rintro k ⟨T,σ',nx'⟩ c2 ⟨h0,h1,h2,O,J,Y,a6,lo,c,h7,a7,E,OT,G,b4,b5⟩;simp only at h0 h1 h2 h7 O J Y a6 a7;subst a6 a7;have f1:(k:Int)<(n:Int):=by omega
   have f2:=jL k;have f3:=Zl (n:=(k:Int)+1);have b6:k<W.length:=by omega
   have S:=hW k b6;obtain⟨m,hm⟩:∃m,m=W[k]:=⟨_,rfl⟩;have mr:=dW.get b6;rw[<- hm]at S mr;have a1:j+k<U.length:=by omega
   have f4:(k:Int)<(L:Int):=by omega
   obtain⟨u,b7⟩:∃u,u=U[j+k]:=⟨_,rfl⟩;have ur:=dU.get a1;have EW:=idx (xs:=lay U j lo) (k:=j+k) (by rw[kD (by omega)];exact a1);rw[Lc E a1]at EW;rw[<- b7]at ur EW;have c5:j+k<(lay U j lo).length:=by rw[kD (by omega)];exact a1
   have v1:vl ((U.drop j).take (k+1))=vl ((U.drop j).take k)+bp k*u:=by
    rw[Zq (by rw[yj];omega),List.getElem_drop,b7]
   have v2:vl (W.take (k+1))=vl (W.take k)+bp k*m:=by rw[Zq b6,hm]
   obtain⟨q1,q2,q3,q4⟩:=adT ur hg mr ⟨b4,b5⟩;have w1:=Zl (n:=g*m);have w2:=Zl (n:=u-g*m);have w3:=Zl (n:=u-g*m-c);have fin:∀x' c':Int,x'=(u-g*m) - c+1000000000*c'->vl lo+bp k*x'+bp (k+1)*(-c')=vl ((U.drop j).take (k+1)) - g*vl (W.take (k+1)):=fun x' c' hx=>by
    rw[ql,adV (c:=c) (g:=g) (n:=m) hx G,v1,v2];grind
   by_cases a8:u-g*m-c<0
   .obtain⟨x,b8⟩:∃x,x=u-g*m-c:=⟨_,rfl⟩
    rw[<- b8]at a8 q1 q2 w3;have w4:=Zl (n:=999999999-x);have t1:(999999999-x).tdiv 1000000000=(999999999-x) / 1000000000:=yQ (by omega);have w5:=Zl (n:=(999999999-x) / 1000000000);have w6:=Zl (n:=(999999999-x) / 1000000000*1000000000);have w7:=Zl (n:=x+(999999999-x) / 1000000000*1000000000);have c6:=qV (lay U j lo) (j+k) (x+(999999999-x) / 1000000000*1000000000);rw[kC E a1]at c6;refine .inl ⟨_,by simp only[go_sem,h0,h1,h2,h7,O,J,Y,b2,b3,S,EW,f1,f2,f3,f4,c5,w1,w2,<- b8,w3,a8,w4,t1,w5,w6,w7,Rn,c6,aC];rfl,?_⟩;simp only[go_sem,h0,h1,h2,O,J];refine⟨rfl,_,_,rfl,rfl,by simp[E],OT.snoc (by omega) (by omega),?_,by omega,by omega⟩;rw[Zu,E];exact fin _ _ (by omega)
   .have c6:=qV (lay U j lo) (j+k) (u-g*m-c)
    rw[kC E a1]at c6;refine .inl ⟨_,by simp only[go_sem,h0,h1,h2,h7,O,J,Y,b2,b3,S,EW,f1,f2,f3,f4,c5,w1,w2,w3,a8,c6,aC];rfl,?_⟩;simp only[go_sem,h0,h1,h2,O,J];refine⟨rfl,_,_,rfl,rfl,by simp[E],OT.snoc (by omega) (by omega),?_,by omega,by omega⟩;rw[Zu,E];exact fin _ 0 (by omega)) (by
   clear hL;rintro ⟨T,σ',nx'⟩ ⟨h0,h1,h2,O,J,Y,a6,lo,c,h7,a7,E,OT,G,b4,b5⟩;simp only at h0 h1 h2 h7 O J Y a6 a7;subst a6 a7;rw[zo (l:=W) (by omega)]at G;refine⟨_,by simp only[go_sem,J,Y,zk];rfl,by simp,_,lo,c,rfl,by simp only[go_sem,h0],by simp only[go_sem,h1],by simp only[go_sem,h7],E,OT,G,b4,b5⟩) (by
   simp only[go_sem];exact⟨[],0,rfl,by rw[abx,WB hu],rfl,Dg.nil,by simp[vl],xW _,by decide⟩)
 have f1:=jL n;have f2:(n:Int)<(L:Int):=by omega
 have EW:=idx (xs:=lay U j lo) (k:=j+n) (by rw[kD (by omega)];exact hj);rw[Lc E hj]at EW;have c5:j+n<(lay U j lo).length:=by rw[kD (by omega)];exact hj
 have ur:=dU.get hj;have w1:=Zl (n:=U[j+n] - c);have c6:=qV (lay U j lo) (j+n) (U[j+n] - c);rw[kC E hj]at c6;have c7:=idx (xs:=lay U j (lo++[U[j+n] - c])) (k:=j+n) (by rw[kD (by simp;omega)];exact hj);have e7:(lay U j (lo++[U[j+n] - c]))[j+n]'(by rw[kD (by simp;omega)];exact hj)=U[j+n] - c:=by
  have:(lay U j (lo++[U[j+n] - c]))[j+n]?=some (U[j+n] - c):=by
   rw[<- kC E hj,tV (by rw[kD (by omega)];exact hj)]
  rw[zy (by rw[kD (by simp;omega)];exact hj)]at this;exact Option.some.inj this
 rw[e7]at c7;refine⟨lo,U[j+n] - c,by simp only[go_sem,h0,h1,h7,b2,b3,f1,f2,EW,c5,w1,c6,c7,aC],E,OT,?_,by omega,by omega⟩;rw[vF];have:bp n* -c= -(bp n*c):=by rw[Int.mul_neg]
 omega
theorem arV{σ:Store}{nx J bv:Nat}{U W:List Int}{j n:Nat}{t:Int}{L:Nat}{B:FU}(b7:n<L)(hu:σ J=some ⟨U.flatMap cI,1,true⟩)(hv:σ bv=some B)(b6:J≠bv)(hW:∀k (h:k<W.length),B.cells[k]?=some (I W[k]))(hn:W.length=n)
  (hj:j+n<U.length) (hl:U.length<=3000000) (dU:∀k (h:k<U.length),k<j+n->0<=U[k]/\U[k]<1000000000) (hU:U[j+n]=t) (ht:-1000000000<=t/\t<=1000000000) (dW:Dg W) :
  ∃lo c,ev Ze D7 Iq 287 [.rs J j L,.rs bv 0 n] σ nx=some (.Au [],upd σ J (some ⟨(lay U j (lo++[t+c])).flatMap cI,1,true⟩),nx)/\lo.length=n/\Dg lo/\vl lo+bp n*c=vl ((U.drop j).take n)+vl W/\0<=c/\c<=1:=by
 have a8:∀(x:Option FU),upd σ J x bv=some B:=fun x=>by rw[aG _ _ (zD b6)];exact hv
 have b2:∀(x:Option FU),upd σ J x J=x:=fun x=>aF _ _ _
 rw[nK [] [] func287];simp only[go_sem];generalize hL:gI _ _=y;obtain⟨r,rfl,T',lo,c,rfl,h0,h1,h4,E,OT,G,hc⟩:=pJ hL n (fun k st=>st.T 0= .rs J j L/\st.T 1= .rs bv 0 n/\st.T 8= .rs bv 0 n/\st.T 9=I n/\st.T 10=I k/\st.nx=nx/\∃lo c,st.T 4=I c/\st.σ=upd σ J (some ⟨(lay U j lo).flatMap cI,1,true⟩)/\lo.length=k/\Dg lo/\vl lo+bp k*c=vl ((U.drop j).take k)+vl (W.take k)/\0<=c/\c<=1)
  (fun r=>∃T lo c,r=(.exit 0,⟨T,upd σ J (some ⟨(lay U j lo).flatMap cI,1,true⟩),nx⟩)/\T 0= .rs J j L/\T 1= .rs bv 0 n/\T 4=I c/\lo.length=n/\Dg lo/\vl lo+bp n*c=vl ((U.drop j).take n)+vl W/\0<=c/\c<=1) (by
   clear hL;rintro k ⟨T,σ',nx'⟩ b8 ⟨h0,h1,h8,h9,O,S,lo,c,h4,Y,E,OT,G,b3,b4⟩;simp only at h0 h1 h4 h8 h9 O S Y;subst S Y;have f1:(k:Int)<(n:Int):=by omega
   have f2:=jL k;have f3:=Zl (n:=(k:Int)+1);have a7:k<W.length:=by omega
   have a1:=hW k a7;obtain⟨m,hm⟩:∃m,m=W[k]:=⟨_,rfl⟩;have mr:=dW.get a7;rw[<- hm]at a1 mr;have a6:j+k<U.length:=by omega
   have f4:(k:Int)<(L:Int):=by omega
   obtain⟨u,b5⟩:∃u,u=U[j+k]:=⟨_,rfl⟩;have ur:=dU (j+k) a6 (by omega);have EW:=idx (xs:=lay U j lo) (k:=j+k) (by rw[kD (by omega)];exact a6);rw[Lc E a6]at EW;rw[<- b5]at ur EW;have c5:j+k<(lay U j lo).length:=by rw[kD (by omega)];exact a6
   have v1:vl ((U.drop j).take (k+1))=vl ((U.drop j).take k)+bp k*u:=by
    rw[Zq (by rw[yj];omega),List.getElem_drop,b5]
   have v2:vl (W.take (k+1))=vl (W.take k)+bp k*m:=by rw[Zq a7,hm]
   have w1:=Zl (n:=u+m);have w2:=Zl (n:=u+m+c);obtain⟨q1,q2⟩:=aY (n:=u+m+c) (by omega);have w3:=Zl (n:=(u+m+c) / 1000000000);have c6:=qV (lay U j lo) (j+k) ((u+m+c)%1000000000);rw[kC E a6]at c6;refine .inl ⟨_,by simp only[go_sem,h0,h1,h4,h8,h9,O,a8,b2,a1,EW,f1,f2,f3,f4,c5,w1,w2,w3,q1,q2,Rn,c6,aC];rfl,?_⟩;simp only[go_sem,h0,h1,h8,h9];refine⟨rfl,_,_,rfl,rfl,by simp[E],OT.snoc (by omega) (by omega),?_,by omega,by omega⟩;rw[Zu,E,ql,v1,v2,qL (n:=u+m+c) (by omega),xu,xu];omega) (by
   clear hL;rintro ⟨T,σ',nx'⟩ ⟨h0,h1,h8,h9,O,S,lo,c,h4,Y,E,OT,G,b3,b4⟩;simp only at h0 h1 h4 h8 h9 O S Y;subst S Y;rw[zo (l:=W) (by omega)]at G;refine⟨_,by simp only[go_sem,h9,O,zk];rfl,by simp,_,lo,c,rfl,by simp only[go_sem,h0],by simp only[go_sem,h1],by simp only[go_sem,h4],E,OT,G,b3,b4⟩) (by
   simp only[go_sem];exact⟨[],0,rfl,by rw[abx,WB hu],rfl,Dg.nil,by simp[vl],xW _,by decide⟩)
 have f1:=jL n;have f2:(n:Int)<(L:Int):=by omega
 have EW:=idx (xs:=lay U j lo) (k:=j+n) (by rw[kD (by omega)];exact hj);rw[Lc E hj,hU]at EW;have c5:j+n<(lay U j lo).length:=by rw[kD (by omega)];exact hj
 have w1:=Zl (n:=t+c);have c6:=qV (lay U j lo) (j+n) (t+c);rw[kC E hj]at c6;exact⟨lo,c,by simp only[go_sem,h0,h1,h4,a8,b2,f1,f2,EW,c5,w1,c6,aC],E,OT,G,hc⟩
theorem iG{xs:List Int}{n:Nat}(h:Dg xs)(G:vl xs=n):(xs.flatMap cI).take (ln n)=(dg n).flatMap cI/\ln n<=xs.length:=by
 obtain⟨r,E⟩:=aO xs;rw[Cj h G]at E;have J:(dg n).length=ln n:=rfl;refine⟨?_,?_⟩
 .rw[qU]
  conv=>lhs;rw[E]
  rw[<- J,wu];rfl
 .rw[E,zl];omega
theorem agO{n:Nat}(J:2<=ln n):∃(b1 s:Nat) (h:ln n-1<(dg n).length),(dg n)[ln n-1]=(b1:Int)/\0<b1/\b1<1000000000/\s=1000000000 / (b1+1)/\1<=s/\s<1000000000/\ln (n*s)=ln n/\bp (ln n-1)*500000000<=(n*s:Nat):=by
 have hl:(dg n).length=ln n:=rfl;have h:ln n-1<(dg n).length:=by omega
 have hd:=(oz n).get h;obtain⟨b1,E⟩:∃b1:Nat,(dg n)[ln n-1]=(b1:Int):=⟨((dg n)[ln n-1]).toNat,by omega⟩;have a1:n≠0:=fun e=>by rw[e,jg]at J;omega
 have G:(n:Int)=vl ((dg n).take (ln n-1))+bp (ln n-1)*b1:=by
  have:=Zq h;rw[show ln n-1+1=(dg n).length by omega,yZ,Zx,E]at this;exact this
 have O:=Zw ((oz n).take (ln n-1));rw[zh,xY (by omega)]at O;have Y:=Zv ((oz n).take (ln n-1));have hP:=qm (ln n-1);have S:0<b1:=by
  rcases Nat.eq_zero_or_pos b1 with e|e
  .subst e
   rw[show((0:Nat):Int)=0 from rfl,wB]at G;have:=(jr (n:=n) (k:=ln n-1)).mpr (by omega);omega
  .exact e
 rw[E]at hd;obtain⟨k1,k2,k3,k4⟩:=agJ (b1:=b1) (by omega) (by omega);have hs:((1000000000 / (b1+1):Nat):Int)=1000000000 / ((b1:Int)+1):=by simp
 rw[<- hs]at k1 k2 k3 k4;refine⟨b1,1000000000 / (b1+1),h,E,S,by omega,rfl,by omega,by omega,?_,?_⟩
 .refine Nat.le_antisymm (jr.mpr ?_) ?_
  .have e:bp (ln n)=bp (ln n-1)*1000000000:=by
    have:=ql (ln n-1);rw[show ln n-1+1=ln n by omega]at this;rw[this,Int.mul_comm]
   have h1:(n:Int)<bp (ln n-1)*(b1+1):=by rw[xu];omega
   rw[zC,e];generalize ((1000000000 / (b1+1):Nat):Int)=s at *;have J:(n:Int)*s<bp (ln n-1)*(b1+1)*s:=tH h1 (by omega);have h3:bp (ln n-1)*((b1+1)*s)<=bp (ln n-1)*1000000000:=zG (by rw[Int.mul_comm];exact k2) (by omega);rw[<- uq]at h3;omega
  .exact jq (Nat.le_mul_of_pos_right _ (by omega))
 .rw[zC]
  generalize ((1000000000 / (b1+1):Nat):Int)=s at *;have h1:bp (ln n-1)*b1*s<=(n:Int)*s:=zS (by omega) (by omega);have J:bp (ln n-1)*500000000<=bp (ln n-1)*(b1*s):=zG k3 (by omega);rw[<- uq]at J;omega
theorem arW{σ:Store}{nx b:Nat}{P:List Int}{N:Nat}(hb:σ b=some ⟨P.flatMap cI,1,true⟩)(S:b<nx)(hd:Dg P)(hv:vl P=N)(hN:N≠0)(hl:P.length<=1000000+1000000)(hp:P.length<=ln N+1) :
  ∃G σ' nx',Ae σ nx 1 8 (.rs b 0 (ln N)) [I 0] 1=some (.rs G 0 (ln N+1),σ',nx')/\σ' G=some ⟨(dg N++[0]).flatMap cI,1,true⟩/\nx<=nx'/\(G=b\/G=nx)/\G<nx'/\∀c,c<nx->¬c=b->σ' c=σ c:=by
 obtain⟨r,O⟩:=aO P;rw[Cj hd hv]at O;have J:(dg N).length=ln N:=rfl;have hle:P.length=ln N+r.length:=by rw[O,zl,J]
 have cell:∀xs:List Int,(xs.flatMap cI).length=xs.length:=qW;unfold Ae;simp only[hb];rw[su (by decide)]
 by_cases h:r=[]
 .subst h
  have hP:P=dg N:=by rw[O];simp
  have a1:P.length=ln N:=by rw[hle];rfl
  rw[su (by rw[cell];omega),sZ (by
   refine⟨by rw[cell];omega,by simp,by unfold maxLen;omega,by omega,by simp[qI]⟩)]
  refine⟨nx,_,nx+1,rfl,?_,by omega,.inr rfl,by omega,fun c hc E=>?_⟩
  .rw[aF,hP,zT];rfl
  .rw[aH,aG _ _ E]
 .have Y:r.length=1:=by
   have:=List.length_pos_iff.mpr h;omega
  rw[sZ (by rw[cell];omega),sZ ⟨by simp,by simp,by simp[qI]⟩];refine⟨b,_,nx,rfl,?_,zq _,.inl rfl,S,fun c _ E=>aG _ _ E⟩;rw[aF];congr 2;show(P.flatMap cI).set (0+ln N*1) (I 0)=_;rw[yu,yO,qV];congr 1;obtain⟨x,hx⟩:∃x,r=[x]:=List.length_eq_one_iff.mp Y;subst hx
  conv=>lhs;rw[O]
  rw[<- J,yF _ _ (zq _),yP];rfl
theorem window{U W:List Int}{j e:Nat}{V:Int}(E:Dg U)(hW:W.length=e+2)(G:Dg W)(J:vl W=V)(O:j+(e+2)<U.length)(a1:vl (U.drop (j+1))<V) :
  vl (U.drop j)=vl ((U.drop j).take (e+2))+bp (e+2)*U[j+(e+2)]/\vl (U.drop j)<V*1000000000 /\
  (∃Ur,0<=Ur/\Ur<bp e/\vl (U.drop j)=((U[j+(e+2)]*1000000000+U[j+e+1])*1000000000+U[j+e])*bp e+Ur) /\
  (∃Vr,0<=Vr/\Vr<bp e/\V=(W[e+1]*1000000000+W[e])*bp e+Vr)/\U[j+(e+2)]<=W[e+1]/\vl (U.drop (j+(e+2)+1))=0:=by
 have a6:V<bp (e+2):=by rw[<- J,<- hW];exact Zw G
 have d1:=abf (xs:=U) (k:=j) (by omega);have u0:=E.get (k:=j) (by omega);have X2:vl (U.drop j)<V*1000000000:=by omega
 have hl:(U.drop j).length=U.length-j:=yj;have S:=Zt (U.drop j) (k:=e+2) (by omega);rw[uK]at S;have Y:=abf (xs:=U) (k:=j+(e+2)) O;have un:=E.get O;have lo0:=Zv ((E.drop j).take (e+2));have hi0:=Zv (E.drop (j+(e+2)+1));have hi:vl (U.drop (j+(e+2)+1))=0:=by
  rcases Int.lt_trichotomy (vl (U.drop (j+(e+2)+1))) 0 with h|h|h
  .omega
  .exact h
  .exfalso
   have h1:bp (e+2)*1000000000<=bp (e+2)*vl (U.drop (j+(e+2))):=zG (by omega) (xJ (qm _));have h2:V*1000000000<=bp (e+2)*1000000000:=zS (by omega) (by decide);omega
 rw[hi]at Y;have s3:vl (U.drop j)=vl ((U.drop j).take (e+2))+bp (e+2)*U[j+(e+2)]:=by rw[S,Y];simp
 have g:∀ {xs:List Int} (h:e+1<xs.length),vl (xs.take (e+2))=vl (xs.take e)+bp e*xs[e]+bp e*1000000000*xs[e+1]:=fun {xs} h=>by
  rw[Zq (k:=e+1) h,Zq (k:=e) (by omega),ql];grind
 have g1:=g (xs:=U.drop j) (by omega);simp only[List.getElem_drop]at g1;have e1:U[j+(e+1)]=U[j+e+1]:=rfl;rw[e1]at g1;have g2:=g (xs:=W) (by omega);rw[zo (by omega),J]at g2;have b2:bp (e+2)=bp e*1000000000*1000000000:=by rw[ql,ql];grind
 have rU:=Zw ((E.drop j).take e);rw[zh,hl,xY (by omega)]at rU;have rV:=Zw (G.take e);rw[zh,xY (by omega)]at rV;refine⟨s3,X2,⟨_,Zv ((E.drop j).take e),rU,?_⟩,⟨_,Zv (G.take e),rV,?_⟩,?_,hi⟩
 .rw[s3,g1,b2];grind
 .rw[g2];grind
 .have w1:=G.get (k:=e) (by omega)
  have w2:=G.get (k:=e+1) (by omega);refine Int.not_lt.mp fun h=>?_
  have h1:bp (e+2)*(W[e+1]+1)<=bp (e+2)*U[j+(e+2)]:=zG (by omega) (xJ (qm _));have h2:bp e*W[e]<=bp e*999999999:=zG (by omega) (xJ (qm _));have h3:V<bp e*1000000000*(W[e+1]+1):=by rw[g2,xu];omega
  have h4:V*1000000000<bp (e+2)*(W[e+1]+1):=by
   rw[b2];have:=tH h3 (show(0:Int)<1000000000 by decide);have e:bp e*1000000000*(W[e+1]+1)*1000000000=bp e*1000000000*1000000000*(W[e+1]+1):=by grind
   omega
  omega
end Go.Proofs.YtkpdoehbhmipcaaGreat
