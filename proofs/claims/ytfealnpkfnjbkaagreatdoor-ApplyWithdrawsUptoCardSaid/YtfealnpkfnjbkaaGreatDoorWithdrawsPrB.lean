import Derived.Test.YtfealnpkfnjbkaaGreatDoorWithdrawsPrA
import Derived.Test.YtfealnpkfnjbkaaGreatDoorCtC
import Derived.Test.YtfealnpkfnjbkaaGreatDoorLib
set_option linter.unusedVariables false
set_option linter.unusedSimpArgs false
open Bool renaming false_eq_true->aB,and_eq_true->aG,not_true->aR,not_false->bJ,true_and->bL,and_self->cN,false_and->cO,not_eq_true'->dW,and_false->dY,not_eq_true->eU,false_or->fP,true_or->gW
open ByteArray renaming toList_data_append->cQ,size_append->fF
open Classical renaming byContradiction->cW
open Go.CT.Fld renaming enc->aW,J7->fK,Bs->fR,Da->gU
open Go.CT.IV renaming bulk->fB,Dk->iE
open Go.CT.O renaming Aa->aS,eq_int->bN,Ae->bO,Ba->dC,Az->dH,Ar->dK,append->dN,Ah->dS,Ci->eK,Al->eN,Cg->eP,Ao->eZ,setAt->fD,Ai->fG,Dg->fN,proj->fU,B5->fX,C4->fY,index->gO,Ed->gS,gt->gX,Bg->iH,Bm->iI
open Go.CT.Prim renaming ev->fM
open Go.CT.SFld renaming enc->bQ,Q3->eY,Bs->gN
open Go.CT.Sch renaming enc->cU,Hz->dR,Bs->eC,Cm->eF,Io->eO,Gw->fJ,Bl->gF,Dj->gZ,Ep->hJ,Cc->hQ,Dw->hZ
open Go.CT.Sch.Sch renaming Hp->eG
open Go.CT.Sch.Stp renaming enc->bY
open Go.CT.Srt renaming LE->eH,len->fA,idx->gB,Aru->iB
open Go.CT.Val renaming enc->bK,Cc->cH,Cm->cR,To->cX,Bs->cY,Bl->dE,Ym->dG,E8->dQ,Atr->eL,ind->eM,Da->eQ,Dj->eW,Ep->eX,Dw->fQ,B4->fT,size_eq->gG,Vi->gP,Vl->gQ,Ap->gR,E1->gV,fold->gY,Bgs->iC,get->iD
open Int renaming cast_ofNat_Int->aD,toNat_natCast->aU,natCast_nonneg->aV,toNat_zero->dI,le_refl->eA
open List renaming drop_eq_getElem_cons->aC,drop_zero->aE,getElem_mem->aF,length_map->aH,map_cons->aI,getElem?_eq_getElem->aJ,length_append->aK,map_nil->aL,drop_length->aM,append_nil->aO,flatMap_cons->aT,mem_map->aX,filter_cons->aY,drop_of_length_le->bA,length_nil->bB,mem_cons->bC,nil_append->bD,getElem?_map->bE,length_singleton->bF,singleton_append->bG,length_eq_one_iff->bH,append_assoc->bI,pairwise_cons->bM,length_cons->bP,all_eq_true->bR,mem_singleton->bU,find?_cons->bV,mem_cons_of_mem->bW,mem_of_find?_eq_some->bX,getElem?_cons_zero->cB,length_eq_zero_iff->cC,mem_cons_self->cD,mem_append->cE,filter_nil->cF,flatMap_nil->cG,length_filter_le->cL,mem_flatMap->cM,map_append->cS,mem_filter->cT,set_getElem_self->cV,all_cons->cZ,length->dD,all_nil->dF,mem_append_left->dJ,length_pos_iff->dL,filter_eq_self->dM,drop_eq_nil_of_le->dX,headD_cons->eD,all_append->eE,filter_append->eI,find?_eq_none->eJ,length_drop->eR,length_take->eS,pairwise_singleton->eT,take_of_length_le->eV,head?_cons->fE,mem_of_getElem?->fL,mem_map_of_mem->fO,mem_filterMap->fS,mem_of_head?->fZ,map_set->gC,pairwise_map->gD,getElem_map->gE,find?_some->gI,foldl_cons->gK,nodup_cons->gM
open List.Pairwise renaming nil->bT,filter->eB,map->iF,imp->iG
open List.cons renaming injEq->gJ
open Nat renaming le_refl->aN,le_trans->cK,zero_le->cP,le_of_not_lt->dA,zero_add->dU,le_add_right->dZ,mul_le_mul->fI,add_sub_cancel->fW,le_add_left->gL,add_zero->gT
open Option renaming bind_some->aA,map_some->aP,getD_some->aQ,isSome_some->aZ,isSome_iff_exists->bZ,isSome_none->cI,bind_eq_some_iff->cJ,getD_none->dB,map_none->dP,isSome_map->gA
open Option.some renaming inj->dO
open UInt8 renaming lt_iff_toNat_lt->fH,toNat_inj->gH
namespace Go.CT.Sch
open Go.Proofs
theorem sxb {s:ByteArray}{i:Nat}{c:UInt8}{r:List UInt8}(h:s.data.toList.drop i=c::r): ∃a:i<s.size,s[i]=c/\s.data.toList.drop (i+1)=r:=by
 obtain⟨_,a,d⟩:=sx h
 have b:=H6 a
 rw[h]at b
 exact⟨a,(List.cons.inj b).1.symm,d⟩
theorem pn_1 (s:ByteArray): ∀ (a:List UInt8) (i:Nat) (r:List UInt8),s.data.toList.drop i=a++r->i<=s.size->(∀c∈a,Bv c=true)->Z2 r->
  W F159 1 [.str s,.str s,.int i]=some [.int ((i+a.length:Nat):Int)]
 | [],i,r,h,g,_,j=>by
  rw[Aoy]
  cases r with
  | nil=>
   have b: ¬ i<s.size:=by
    have:=congrArg dD h
    rw[eR,C7]at this
    simp at this;omega
   have e:i=s.size:=by omega
   simp only[O.Un b,O.T0 b,O.O5 b,aA,aS,aB,Zf,iH,bB,gT]
   rw[e]
  | cons c t=>
   obtain⟨b,m,_⟩:=sxb (show s.data.toList.drop i=c::t from h)
   have o:=j c t rfl
   rw[<-m]at o
   have y:nmR (Utf8.decode s i).1 =false:=by
    by_cases q:s[i].toNat <128
    ·rw[Px b q,<-o,<-We]
    ·exact Adp (by have:=decode_high b (by omega);omega)
   simp only[O.R4 b,O.S3 b,O.Nk b,aA,aS,Zt,O.Sw,Alk,y,bO,dK,bJ,bB,gT]
 | c::a,i,r,h,g,u,j=>by
  obtain⟨b,m,z⟩:=sxb (show s.data.toList.drop i=c::(a++r) from h)
  have d:=u c (by simp)
  rw[<-m]at d
  have q:s[i].toNat <128:=by
   apply cW
   intro o
   rw[Ai9 (by omega)]at d;cases d
  have w:=pn_1 s a (i+1) r z (by omega) (λx A=>u x (by simp[A])) j
  have e:i+1+a.length=i+(c::a).length :=by simp;omega
  rw[e]at w
  rw[Aoy]
  simp only[O.R4 b,O.S3 b,O.Nk b,Px b q,aA,aS,Zt,O.Sw,Alk,We,d,bO,dK,aR,aB,Zf,w]
theorem A78 (s:ByteArray)(a r:List UInt8)(h:s.data.toList=a++r)(b: ∀c∈a,Bv c=true)(d:Z2 r):W F159 0 [.str s]=some [.int (a.length:Nat)]:=by
 have:=pn_1 s a 0 r (by rw[aE];exact h) (by omega) b d
 rw[dU]at this
 rw[A29]
 exact this
theorem slo {s:ByteArray}{i:Nat}{r:List UInt8}(h:s.data.toList.drop i=r)(a:i<=s.size):O.Jm (.str s) (.int i)=some (.str (bsL r)):=by
 rw[O.Aii,if_pos ⟨by omega,by omega⟩]
 congr 2
 apply Gm
 rw[ByteArray.data_extract,Array.toList_extract]
 simp only[aU,List.extract_eq_take_drop,bsL,h]
 refine eV ?_
 have:=congrArg dD h
 rw[eR,C7]at this
 omega
theorem Bhr (s:ByteArray)(J:s.size<=100000): ∀ (v:List UInt8) (i:Nat) (r:List UInt8) (o:ByteArray),s.data.toList.drop i=v.flatMap Jg++34::r->(∀c∈v,Iz c=true)->o.size+v.length<=1000->
  W Bhg 1 [.str s,.int i,.list (Ct o)]=some [.str (o++bsL v),.str (bsL r),.bool true]
 | [],i,r,o,h,_,_=>by
  obtain⟨j,m,q⟩:=sx (show s.data.toList.drop i=34::r from h)
  have t:=Bd (i:=i) (by omega)
  have e:o++bsL []=o:=by apply Gm;rw[cQ];simp[bsL]
  have A:((34:UInt8).toNat :Int)=34:=rfl
  rw[Acm]
  simp only[iH,aA,dS,Aj,m,Zd,aS,Zt,j,bN,A,Aus,O.Nt,bO,eN,t,slo q (by omega),e]
 | c::v,i,r,o,h,K,L=>by
  have M:=K c (by simp)
  have u: ∀x∈v,Iz x=true:=λx N=>K x (by simp[N])
  simp only[bP]at L
  have hrange:=U4 M
  simp only[aT,bI]at h
  have two: ∀d:UInt8,Jg c= [92,d]->(d.toNat=34\/d.toNat=92\/d.toNat=110)->(d.toNat=110↔c.toNat=10)->(d.toNat≠110->d=c)->
    W Bhg 1 [.str s,.int i,.list (Ct o)]=some [.str (o++bsL (c::v)),.str (bsL r),.bool true]:=by
   intro d B hd Q C
   rw[B]at h
   obtain⟨j,m,q⟩:=sx (show s.data.toList.drop i=92::(d::(v.flatMap Jg++34::r)) from h)
   obtain⟨R,S,T⟩:=sx q
   have t:=Bd (i:=i) (by omega)
   have F:=Bd (i:=i+1) (by omega)
   have G:((92:UInt8).toNat :Int)=92:=rfl
   have H:=Bhr s J v (i+1+1) r (o++bsL [c]) T u (by rw[fF,Cd,bF];omega)
   have nx:W Bhg 2 [.str s,.int ((i+1:Nat):Int),.list (Ct (o++bsL [c]))]=some [.str (o++bsL (c::v)),.str (bsL r),.bool true]:=by
    rw[Aml]
    simp only[eN,F,aA,H,Vz]
   rw[Acm]
   simp only[iH,aA,dS,Aj,m,Zd,aS,Zt,j,bN,G,show ¬ (92:Int)=34 by omega,Ze,aB,Zf,show ¬ (92:Int)<32 by omega,fX,show ¬ (126:Int)<92 by omega,eK,aR,eN,t,S,R]
   by_cases cn:d.toNat=110
   ·have g: ¬ (d.toNat:Int)=34:=by omega
    have w: ¬ (d.toNat:Int)=92:=by omega
    have I:(d.toNat:Int)=110:=by omega
    have y:c=10:=gH.1 (Q.1 cn)
    have a:=Nu o 10 (by omega)
    rw[show((10:UInt8).toNat :Int)=10 from rfl]at a
    rw[<-y]at a
    simp only[I,show ¬ (110:Int)=34 by omega,show ¬ (110:Int)=92 by omega,Zd,Ze,aB,Zf,Zt,aA,aS,a,bO,nx]
   ·have z:=C cn
    have a:=Nu o d (by omega)
    rw[z]at a
    subst z
    rcases hd with hd | hd | hd
    ·have g:(d.toNat:Int)=34:=by omega
     rw[g]at a
     simp only[g,Zd,Zt,aA,aS,a,bO,nx]
    ·have g: ¬ (d.toNat:Int)=34:=by omega
     have w:(d.toNat:Int)=92:=by omega
     rw[w]at a
     simp only[w,show ¬ (92:Int)=34 by omega,Zd,Ze,aB,Zf,Zt,aA,aS,a,bO,nx]
    ·exact absurd hd cn
  by_cases b:c.toNat=10
  ·exact two 110 (by unfold Jg;rw[if_pos b]) (.inr (.inr rfl)) ⟨λ_=>b,λ_=>rfl⟩ (λh=>(h rfl).elim)
  ·by_cases cq:c.toNat=34\/c.toNat=92
   ·exact two c (by unfold Jg;rw[if_neg b,if_pos cq]) (by omega) (by omega) (λ_=>rfl)
   ·have B:Jg c= [c]:=by unfold Jg;rw[if_neg b,if_neg cq]
    rw[B]at h
    obtain⟨j,m,q⟩:=sx (show s.data.toList.drop i=c::(v.flatMap Jg++34::r) from h)
    have t:=Bd (i:=i) (by omega)
    have H:=Bhr s J v (i+1) r (o++bsL [c]) q u (by rw[fF,Cd,bF];omega)
    have a:=Nu o c (by omega)
    have g: ¬ (c.toNat:Int)=34:=by omega
    have w: ¬ (c.toNat:Int)<32:=by omega
    have I: ¬ (126:Int)<c.toNat:=by omega
    have U: ¬ (c.toNat:Int)=92:=by omega
    rw[Acm]
    simp only[iH,aA,dS,Aj,m,Zd,aS,Zt,j,bN,g,Ze,aB,Zf,w,fX,I,eK,U,bJ,a,bO]
    rw[Aml]
    simp only[eN,t,aA,H,Vz]
theorem A8u (c:UInt8)(l:List UInt8):decide (bsL (c::l)=(⟨#[]⟩:ByteArray))=false:=decide_eq_false λe=>by
 have h:=congrArg ByteArray.size e
 rw[Cd,show(⟨#[]⟩:ByteArray).size =0 from rfl]at h
 cases h
theorem A6k (v:ByteArray)(a:Jw v=true)(r:List UInt8)(j:r.length<=20000):W Bhg 0 [.str (bsL (34::(v.data.toList.flatMap Jg++34::r)))]=some [.str v,.str (bsL r),.bool true]:=by
 have d:=Qd a
 unfold Jw at a
 simp only[aG,bR]at a
 have e:=Akx v.data.toList
 rw[C7]at e
 obtain⟨c,m,g⟩:=sx (s:=bsL (34::(v.data.toList.flatMap Jg++34::r))) (i:=0) (show _=34::(v.data.toList.flatMap Jg++34::r) from rfl)
 have h:(bsL (34::(v.data.toList.flatMap Jg++34::r))).size <=100000:=by
  rw[Cd]
  simp only[bP,aK];omega
 have:=Bhr _ h v.data.toList 1 r Am g a.1 (by rw[C7];show 0+_<=_;omega)
 rw[Hn,Qa]at this
 have b:((34:UInt8).toNat :Int)=34:=rfl
 simp only[aD]at c
 rw[A6g]
 simp only[fY,A8u,aA,aS,aB,Zf,c,eK,b,Zd,aR]
 exact this
theorem Bgn (r:List UInt8):Z2 (61::r):=N3 (by decide)
theorem Bgj (s nm vl:ByteArray)(m:C5 nm=true)(t:Jw vl=true)(r:List UInt8)(y:r.length<=10000)(h:s.data.toList=91::(nm.data.toList++61::(34::(vl.data.toList.flatMap Jg++34::(93::r))))):
  W F158 0 [.str s]=some [bY ⟨3,nm,0,vl⟩,.str (bsL r),.bool true]:=by
 obtain⟨d,a⟩:=Hh m
 have o:0<nm.data.toList.length:=dL.2 a
 have e:s.data.toList.drop 1=nm.data.toList++61::(34::(vl.data.toList.flatMap Jg++34::(93::r))):=by rw[h];rfl
 have b:=congrArg dD h
 rw[C7]at b
 simp only[bP,aK]at b
 have q:=slo e (by omega)
 simp only[aD]at q
 have a2:=A78 (bsL (nm.data.toList++61::(34::(vl.data.toList.flatMap Jg++34::(93::r))))) nm.data.toList _ rfl d (Bgn _)
 have u:IntKind.i64.wrap (1+((nm.data.toList.length:Nat):Int))=((1+nm.data.toList.length:Nat):Int):=by
  have:nm.data.toList.length<=40:=by rw[C7];exact Q1 m
  rw[wrap64 (by omega) (by omega)];omega
 have a3:=ssl e a
 simp only[aD]at a3
 rw[Qa]at a3
 have w:s.data.toList.drop (1+nm.data.toList.length)=61::(34::(vl.data.toList.flatMap Jg++34::(93::r))):=Th e
 have a4:=slo w (by omega)
 have x: ¬ ((nm.data.toList.length:Nat):Int)=0:=by omega
 have b1:=fun(c:UInt8) (l:List UInt8)=>(sx (s:=bsL (c::l)) (i:=0) (show _=c::l from rfl)).1
 simp only[aD]at b1
 have b2:=fun(c:UInt8) (l:List UInt8)=>slo (s:=bsL (c::l)) (i:=1) (show _=l from rfl) (by rw[Cd];simp)
 simp only[aD]at b2
 have g:((61:UInt8).toNat :Int)=61:=rfl
 have j:((93:UInt8).toNat :Int)=93:=rfl
 rw[A56]
 simp only[q,aA,a2,bO,eN,u,a3,a4,bN,x,Ze,aS,aB,Zf,fY,A8u,b1,g,j,show ¬ (61:Int)=93 by omega,eK,Zd,aR,b2,A6k vl t (93::r) (by simp;omega),O.Kn,dK,dC]
 rfl
theorem Bie {s:ByteArray}(h:s.data.toList= []):s=⟨#[]⟩:=Gm h
theorem pq_3 (s:ByteArray)(nm:ByteArray)(g:C5 nm=true)(r:List UInt8)(h:s.data.toList=nm.data.toList++r)(i:Z2 r)(done:List Stp)(hd:done.length<=100):
  W Bg1 3 [.str s,.list (done.map bY)]=W Bg1 1 [.str (bsL r),.list ((done++ [(⟨1,nm,0,Am⟩:Stp)]).map bY)]:=by
 obtain⟨b,a⟩:=Hh g
 have d:0<nm.data.toList.length:=dL.2 a
 have j:=A78 s nm.data.toList r h b i
 have m: ¬ ((nm.data.toList.length:Nat):Int)=0:=by omega
 have o:s.data.toList.drop 0=nm.data.toList++r:=h
 have a2:=ssl o a
 simp only[aD,dU]at a2
 rw[Qa]at a2
 have c:=congrArg dD h
 rw[C7,aK]at c
 have q:s.data.toList.drop nm.data.toList.length=r:=by rw[h,List.drop_left]
 have a3:=slo q (by omega)
 have e:IV.agg [.int 1,.str nm,.int 0,.str ⟨#[]⟩]=bY ⟨1,nm,0,Am⟩:=rfl
 rw[A31]
 simp only[j,bO,bN,m,Ze,aA,aS,aB,Zf,a2,dC,e,dH,apm bY (n:=48) done ⟨1,nm,0,Am⟩ (by omega),a3]
 rw[Ao4]
theorem pq_1 (full:List Stp)(b:C6 full=true)(K: ∀x∈full,x.k≠2): ∀ (p done:List Stp) (s:ByteArray),done++p=full->s.data.toList=(Cs (decide (done.length=0)) p).data.toList ->
  W Bg1 1 [.str s,.list (done.map bY)]=some [.list (full.map bY),.int 0]
 | [],done,s,hd,h=>by
  rw[aO]at hd
  subst hd
  have N:s=⟨#[]⟩:=Bie (by rw[h];rfl)
  subst N
  have g:=b
  unfold C6 at g
  simp only[aG,bR,decide_eq_true_eq]at g
  have w:=S5 done (λx d=>by
   have:=D1 (g.1 x d)
   exact⟨by omega,by omega⟩) (by omega)
  rw[Anb]
  simp only[gS,Zd,aR,aA,aS,aB,Zf,w,bO,b,dK]
 | x::p,done,s,hd,h=>by
  have g:=b
  unfold C6 at g
  simp only[aG,bR,decide_eq_true_eq]at g
  have d:Dr x=true:=g.1 x (by rw[<-hd];simp)
  have j:=K x (by rw[<-hd];simp)
  have hp: ∀y∈p,Dr y=true:=λy Q=>g.1 y (by rw[<-hd];simp[Q])
  have hlen:done.length+p.length+1=full.length:=by rw[<-hd];simp;omega
  have Y:=Qf p hp false
  have R:500 * p.length<=500 * 16:=fI (aN _) (by omega)
  simp only[Cs,cQ]at h
  have m:=Xc p hp
  have z:=(Ui (decide (done.length=0)) x d).1
  have A:=pq_1 full b K p (done++ [x]) (bsL (Cs false p).data.toList) (by rw[<-hd];simp) (by
   have:decide ((done++ [x]).length =0)=false:=decide_eq_false (by simp)
   rw[this];rfl)
  have o:decide (s=(⟨#[]⟩:ByteArray))=false:=decide_eq_false λe=>by
   subst e
   have h':([]:List UInt8)=(G9 (decide (done.length=0)) x).data.toList ++(Cs false p).data.toList :=h
   exact z (List.append_eq_nil_iff.1 h'.symm).1
  obtain⟨S,T,U,X,L⟩:=D1 d
  obtain⟨xk,xn,xi,xv⟩:=x
  simp only at S T U X L j
  unfold Dr at d
  unfold G9 at h
  simp only at d h
  rw[Anb]
  simp only[gS,o,bJ,aA,aS,Zt]
  rcases L with rfl | rfl | rfl
  ·simp only[Zt,aG,decide_eq_true_eq]at d
   obtain⟨⟨q,rfl⟩,rfl⟩:=d
   simp only[show ¬ (1:Int)=2 by omega,show ¬ (1:Int)=3 by omega,Zf]at h
   obtain⟨B,C⟩:=Hh q
   by_cases F:done.length=0
   ·simp only[F,Zd,Zt]at h
    obtain⟨c,a,r⟩:=List.exists_cons_of_ne_nil C
    have h':s.data.toList.drop 0=c::(a++(Cs false p).data.toList):=by rw[aE,h,r];rfl
    obtain⟨i,M,G⟩:=sx h'
    simp only[aD]at i
    have H:=B c (by rw[r];simp)
    have t: ¬ (c.toNat:Int)=91:=by
     intro e
     have:c.toNat=91:=by omega
     unfold Bv at H
     rw[this]at H
     simp at H
    have I:gX (.int (done.length:Nat)) (.int 0)=some (.bool false):=by rw[fX,F];rfl
    simp only[i,aA,bN,t,Ze,aS,aB,Zf,Gi,I]
    rw[pq_3 s xn q _ h m done (by omega),A]
   ·simp only[F,Ze,aB,Zf]at h
    have h':s.data.toList.drop 0=46::(xn.data.toList++(Cs false p).data.toList):=by rw[aE,h];simp[cQ,bsL]
    obtain⟨i,M,G⟩:=sx h'
    simp only[aD]at i
    have I:gX (.int (done.length:Nat)) (.int 0)=some (.bool true):=by rw[fX];congr 2;exact decide_eq_true (by omega)
    have u:=slo G (by omega)
    simp only[dU,aD]at u
    simp only[i,aA,bN,show((46:UInt8).toNat :Int)=46 from rfl,show ¬ (46:Int)=91 by omega,Ze,aS,aB,Zf,Gi,I,Zt,eK,Zd,aR,u]
    rw[pq_3 (bsL (xn.data.toList++(Cs false p).data.toList)) xn q _ rfl m done (by omega),A]
  ·exact absurd rfl j
  ·simp only[show ¬ (3:Int)=1 by omega,show ¬ (3:Int)=2 by omega,Zf,Zt,aG,decide_eq_true_eq]at d
   obtain⟨⟨q,w⟩,rfl⟩:=d
   simp only[show ¬ (3:Int)=2 by omega,Zf,Zt]at h
   have h':s.data.toList=91::(xn.data.toList++61::(34::(xv.data.toList.flatMap Jg++34::(93::(Cs false p).data.toList)))):=by
    rw[h];simp[cQ,bsL,K1]
   have J:=Bgj s xn xv q w _ (by rw[C7];omega) h'
   obtain⟨i,M,G⟩:=sx (show s.data.toList.drop 0=91::_ from h')
   simp only[aD]at i
   simp only[i,aA,bN,show((91:UInt8).toNat :Int)=91 from rfl,Zd,aS,Zt,J,O.Kn,dK,aR,aB,Zf,dH,apm bY (n:=48) done ⟨3,xn,0,xv⟩ (by omega)]
   rw[Ao4,A]
theorem Aqc (p:List Stp)(hp:C6 p=true)(c: ∀x∈p,x.k≠2):W Bg1 0 [.str (Cj p)]=some [.list (p.map bY),.int 0]:=by
 have a:=hp
 unfold C6 at a
 simp only[aG,bR,decide_eq_true_eq]at a
 have d:=Qf p a.1 true
 have g:500 * p.length<=500 * 16:=fI (aN _) a.2
 have e:Cj p=Cs true p:=by unfold Cj;rw[if_pos hp];rfl
 have b: ¬ (20000:Int)<((Cs true p).size :Int):=by omega
 have:=pq_1 p hp c p [] (Cs true p) rfl rfl
 simp only[aL]at this
 rw[A5f,e]
 simp only[iH,aA,fX,b,Ze,aS,aB,Zf,this]
end Go.CT.Sch
namespace Go.CT.Sch
open Go.Proofs
theorem Bga (ks:List ByteArray)(s:ByteArray):O.Aou (.bool false) (.list (Oj ks)) (.str s)=some (.bool (inB ks s)):=by
 unfold O.Aou
 simp only[fM,Zn,aP]
 cases inB ks s<;>simp
theorem Bfi (ks:List ByteArray)(s:ByteArray): ∃b,O.Aj0 (.list (Oj ks)) (.str s)=some (.bool b):=by
 unfold O.Aj0
 simp only[fM,Zn,aP]
 exact⟨_,rfl⟩
theorem Bfb (ks:List ByteArray)(s:ByteArray):O.Arb (.list (Oj ks)) (.str s) (.bool true)=some (.list (Oj (if inB ks s then ks else ks++ [s]))):=by
 unfold O.Arb
 simp only[fM,Ax9,aP]
def Bo (s:Sch)(x:Val):Kid:=(R5 s.key x,x,s.it.head?)
theorem R7 (s t:Sch)(v:Val)(e:s.it= [t])(o:v.Ap<=1048576): ∀ (n i:Nat) (b:List Kid) (acc:List ByteArray),i+n=v.l.length->b.length=i->
  W F141 1 [.list (v.l.map bK),.int v.l.length,.int i,s.enc,.list (b.map Hj),.list (Oj acc)]=some [.list ((if Dv s.key acc (v.l.drop i) then b++(v.l.drop i).map (Bo s) else[]).map Hj)]
 | 0,i,b,acc,h,m=>by
  have:i=v.l.length:=by omega
  subst this
  rw[Amn,aM,Dv]
  simp only[ltn,aA,aS,aB,Zf,Zt,aL,aO]
 | n+1,i,b,acc,h,m=>by
  have d:i<v.l.length:=by omega
  have z:=v.Bx
  have A:=dQ (aF d)
  have q:=Aan v.l[i] s.key (by omega)
  obtain⟨bb,r⟩:=Bfi acc (Dq v.l[i] s.key)
  have g:O.Aj0 (.list (Oj acc)) (.str ((v.l[i].get s.key).getD Au).s)=some (.bool bb):=r
  have a:=Bfb acc (Dq v.l[i] s.key)
  have c:=Bga acc (Dq v.l[i] s.key)
  unfold Dq at a c
  rw[Amn,aC d,Dv]
  simp only[lti d,aA,aS,Zt,Jq bK d,eF,q,I9,Jj,dK,eK,Ax,An,c,g]
  unfold isKey Dq
  cases B:(v.l[i].get s.key).isSome with
  | false=>simp
  | true=>
   by_cases j:((v.l[i].get s.key).getD Au).k =3
   ·cases u:inB acc ((v.l[i].get s.key).getD Au).s with
    | true=>simp[j]
    | false=>
     have w:=R7 s t v e o n (i+1) (b++ [Bo s v.l[i]]) (acc++ [Dq v.l[i] s.key]) (by omega) (by simp[m])
     have x:=apm Hj (n:=248) b (Bo s v.l[i]) (by omega)
     have y:(IV.agg [.int 3,.str s.key,.int 0,.str ((v.l[i].get s.key).getD Au).s,.int v.l[i].k,.int v.l[i].n,.str v.l[i].s,.list (v.l[i].l.map bK),.list (v.l[i].f.map aW),
      .int t.k,.int t.mn,.int t.mx,.list (t.en.map .str),.str t.key,.list (t.it.map cU),.list (t.f.map bQ),.bool true])=Hj (Bo s v.l[i]):=by
      unfold Bo Hj;rw[e];rfl
     simp only[j,Zd,aR,aB,Zf,a,u,aA,dR,e,aI,aL,fG,eA,Zt,dI,cB,eC,gZ,hJ,hQ,eF,eO,
      cY,eW,eX,cH,cR,dC,dH,nxt (show i<4611686018427387904 by omega),bJ,bL,Bool.and_true]
     rw[y,x]
     simp only[aA]
     refine w.trans ?_
     unfold Dq
     simp only[bI,bG]
   ·simp[j]
theorem Ajt (s t:Sch)(v:Val)(a:s.it= [t])(b:v.Ap<=1048576):W F141 0 [s.enc,v.enc]=some [.list ((if Dv s.key [] v.l then v.l.map (Bo s) else[]).map Hj)]:=by
 have:=R7 s t v a b v.l.length 0 [] [] (by omega) rfl
 rw[aE]at this
 rw[A6n]
 simp only[cH,aA,Gi]
 exact this
theorem Zr (x:Kid)(a: ∀s,x.2.2=some s->SB s/\s.Ap<=1048576)(g:x.2.1.Ap<=1048576):W F137 0 [Hj x]=some [.list ((kids x.2.2 x.2.1).map Hj)]:=by
 obtain⟨st,v,o⟩:=x
 rw[A4q]
 simp only[Bip,kid9,kid4,Biw,A9a,Ayn,aA,dK,eK,aS,Ax,An]
 cases o with
 | none=>simp[kids]
 | some s=>
  obtain⟨a,q⟩:=a s rfl
  simp only[aZ,aR,aB,Zf,aQ]
  rw[kids]
  by_cases h:s.k=v.k
  ·simp only[h,Zd,aR,aB,Zf,Zt,bN,aA]
   by_cases i:v.k=5
   ·simp only[i,Zd,Zt,Ar2 s v (by omega) g,bO];rfl
   ·simp only[i,Ze,aB,Zf,aS,Ax,gS,aA,An]
    by_cases c:v.k=4
    ·have j:=a.list (by omega)
     obtain⟨t,m⟩: ∃t,s.it= [t]:=bH.1 j
     by_cases b:s.key=Am
     ·have:s.key=(⟨#[]⟩:ByteArray):=b
      have e:decide (Am=(⟨#[]⟩:ByteArray))=true:=rfl
      simp only[c,Zd,Zt,e,aR,aB,Zf,b,ne_eq,not_true_eq_false,false_and,and_false,aL]
     ·have d: ¬ s.key=(⟨#[]⟩:ByteArray):=b
      simp only[c,Zd,Zt,d,Ze,bJ,Ajt s t v m g,bO,true_and,b,ne_eq,not_false_eq_true]
      rfl
    ·simp[c]
  ·simp[h]
theorem Aqa (p:List Stp)(s:Stp)(b:p.length<=1073741824):W F143 0 [.list (p.map bY),s.enc]=some [.list ((p++ [s]).map bY)]:=by
 have a:O.Iq [.list (p.map bY)]=some [.list (p.map bY)]:=Dy (by rw[aH];omega)
 rw[A6m]
 simp only[A66,a,bO,dH,aA,apm bY (n:=48) p s (by omega)]
def OSB (o:Option Sch):Prop:= ∀s,o=some s->SB s/\s.Ap<=1048576
theorem Akc {o:Option Sch}{v:Val}(h:OSB o){x:Kid}(a:x∈kids o v):OSB x.2.2:=by
 cases o with
 | none=>simp[kids]at a
 | some s=>
  obtain⟨c,e⟩:=h s rfl
  rw[kids]at a
  split at a
  ·split at a
   ·obtain⟨p,hp,rfl⟩:=aX.1 a
    intro t b
    have:=Jz b
    exact⟨c.sub b,by omega⟩
   ·split at a
    ·obtain⟨p,hp,rfl⟩:=aX.1 a
     intro t b
     have d:=fZ b
     have:=fJ d
     exact⟨c.I3 d,by omega⟩
    ·simp at a
  ·simp at a
theorem Zw {o:Option Sch}{v:Val}(h:OSB o)(b:v.Ap<=1048576){x:Kid}(a:x∈kids o v):x.1.fits:=by
 cases o with
 | none=>simp[kids]at a
 | some s=>
  obtain⟨c,d⟩:=h s rfl
  rw[kids]at a
  split at a
  ·split at a
   ·obtain⟨p,hp,rfl⟩:=aX.1 a
    have:=fQ hp
    exact Ji _ (by omega)
   ·split at a
    ·obtain⟨p,hp,rfl⟩:=aX.1 a
     have:=dQ hp
     have e:=Aqm p s.key
     have:=s.Adg
     exact⟨by show s.key.size<=_;omega,by show(Dq p s.key).size <=_;unfold Dq;omega⟩
    ·simp at a
  ·simp at a
end Go.CT.Sch
namespace Go.CT.Sch
open Go.Proofs
theorem Aq0 (o:Option Sch)(v:Val)(g:Kid->List ByteArray)(b: ∀x∈kids o v,(g x).length <=x.2.1.size):((kids o v).flatMap g).length <v.size:=by
 have i: ∀ (l:List (ByteArray × Val)) (s:Sch),(∀x∈l.map (Cy s),(g x).length <=x.2.1.size)->((l.map (Cy s)).flatMap g).length <=Bz l:=by
  intro l s
  induction l with
  | nil=>simp
  | cons a l c=>
   intro h
   have j:=h (Cy s a) (by simp)
   have m:=c λx d=>h x (by simp only[aI,bC];exact .inr d)
   have q:(Cy s a).2.1.size =a.2.size:=rfl
   have r:Bz (a::l)=a.2.size+Bz l:=rfl
   simp only[aI,aT,aK];omega
 have t: ∀ (l:List Val) (s:Sch),(∀x∈l.map (Bo s),(g x).length <=x.2.1.size)->((l.map (Bo s)).flatMap g).length <=Cn l:=by
  intro l s
  induction l with
  | nil=>simp
  | cons a l c=>
   intro h
   have j:=h (Bo s a) (by simp)
   have m:=c λx d=>h x (by simp only[aI,bC];exact .inr d)
   have q:(Bo s a).2.1.size =a.size:=rfl
   have r:Cn (a::l)=a.size+Cn l:=rfl
   simp only[aI,aT,aK];omega
 have y:=v.size_eq
 cases o with
 | none=>simp only[kids,cG,bB];omega
 | some s=>
  revert b
  rw[kids]
  intro b
  split
  ·rename_i u;rw[if_pos u]at b
   split
   ·rename_i e;rw[if_pos e]at b
    have:((v.f.map (Cy s)).flatMap g).length <=Bz v.f:=i v.f s b
    show((v.f.map (Cy s)).flatMap g).length <_
    omega
   ·rename_i e;rw[if_neg e]at b
    split
    ·rename_i w;rw[if_pos w]at b
     have:((v.l.map (Bo s)).flatMap g).length <=Cn v.l:=t v.l s b
     show((v.l.map (Bo s)).flatMap g).length <_
     omega
    ·simp only[cG,bB];omega
  ·simp only[cG,bB];omega
theorem Agh: ∀ (n:Nat) (o:Option Sch) (v:Val) (p:List Stp),(lv n o v p).length <=v.size
 | 0,_,_,_=>by simp[lv]
 | n+1,o,v,p=>by
  have:=v.size_pos
  rw[lv]
  split
  ·simp;omega
  ·exact Nat.le_of_lt (Aq0 o v _ λx _=>Agh n _ _ _)
theorem Au2: ∀ (n:Nat) (x:Kid) (p:List Stp) (out:List ByteArray),x.2.1.size<=n->OSB x.2.2->x.2.1.Ap<=1048576->(∀s∈p,s.fits)->p.length+n<=1073741824->out.length+(lv n x.2.2 x.2.1 p).length <=1073741824->
  W Biu 0 [Hj x,.list (p.map bY),SL out]=some [SL (out++lv n x.2.2 x.2.1 p)]
 | 0,x,p,out,h,_,_,_,_,_=>by have:=x.2.1.size_pos;omega
 | n+1,x,p,out,h,d,r,hp,B,g=>by
  rw[lv]at g ⊢
  have loop: ∀ (m i:Nat) (out:List ByteArray),i+m=(kids x.2.2 x.2.1).length ->out.length+(((kids x.2.2 x.2.1).drop i).flatMap λy=>lv n y.2.2 y.2.1 (p++ [y.1])).length <=1073741824->
    W Biu 2 [.list (p.map bY),.int (kids x.2.2 x.2.1).length,.int i,.list ((kids x.2.2 x.2.1).map Hj),SL out]=some [SL (out++((kids x.2.2 x.2.1).drop i).flatMap λy=>lv n y.2.2 y.2.1 (p++ [y.1]))]:=by
   intro m
   induction m with
   | zero=>
    intro i out t g
    have:i=(kids x.2.2 x.2.1).length :=by omega
    subst this
    rw[Aqp,aM]
    simp only[ltn,aA,aS,aB,Zf,cG,aO]
   | succ m j=>
    intro i out t g
    have b:i<(kids x.2.2 x.2.1).length :=by omega
    have o:=aF b
    obtain⟨u,w⟩:=Ms o
    rw[aC b,aT,aK]at g
    have hlen:(kids x.2.2 x.2.1).length <4611686018427387904:=by
     have:=Aq0 x.2.2 x.2.1 (λ_=> [Am]) (λy C=>by have:=y.2.1.size_pos;simp;omega)
     have F:((kids x.2.2 x.2.1).flatMap λ_=> [Am]).length =(kids x.2.2 x.2.1).length :=by
      generalize kids x.2.2 x.2.1=l
      induction l with
      | nil=>rfl
      | cons a l j=>simp[aT,j]
     have:=x.2.1.E9
     omega
    have z:=Au2 n (kids x.2.2 x.2.1)[i] (p++ [(kids x.2.2 x.2.1)[i].1]) out (by omega) (Akc d o) (by omega) (H0 hp (Zw d r o)) (by simp;omega) (by omega)
    rw[Aqp]
    simp only[lti b,aA,aS,Zt,Jq Hj b,Am8,Aqa p _ (show p.length<=1073741824 by omega),bO,z,nxt (show i<4611686018427387904 by omega)]
    rw[j (i+1) _ (by omega) (by simp only[aK];omega),aC b,aT,bI]
  rw[A1u]
  simp only[Zr x d r,bO,Gi,aA,bN,aS]
  by_cases c:kids x.2.2 x.2.1= []
  ·simp only[c,Zt,bB,aD,Zd,Ae1 p hp (by omega),eP,A3l,dH,aA]
   rw[if_pos c,bF]at g
   have A:=apm IV.str (n:=16) out (Cj p) (by omega)
   have q:dN 16 (SL out) (.list [.str (Cj p)])=some (SL (out++ [Cj p])):=A
   simp only[q,aA,bO]
   have:=loop 0 0 (out++ [Cj p]) (by rw[c];rfl) (by rw[c];simp;omega)
   rw[c]at this
   simp only[bB,aD,List.drop_nil,cG,aO]at this
   rw[Aoz]
   simp only[Gi,bB,aD,aA]
   exact this
  ·have c': ¬ ((kids x.2.2 x.2.1).length :Int)=0:=by
    have:(kids x.2.2 x.2.1).length ≠0:=λe=>c (cC.1 e)
    omega
   rw[if_neg c]at g ⊢
   simp only[c',Ze,aB,Zf]
   rw[Aoz]
   simp only[Gi,aA]
   have:=loop (kids x.2.2 x.2.1).length 0 out (by omega) (by rw[aE];exact g)
   rw[aE]at this
   exact this
theorem Aov (s:Sch)(v:Val)(a:s.Ap<=1048576)(b:v.Ap<=1048576):W F135 0 [s.enc,v.enc]=some [.bool (s.valid&&v.valid)]:=by
 rw[A5u]
 simp only[Pq s a,I2 v (by omega),bO,aS,Ax,An,aA]
 cases s.valid<;>cases v.valid<;>rfl
def Hv (s:Sch)(v:Val):List ByteArray:=if s.valid&&v.valid then Wb (lv v.size (some s) v []) else[]
theorem Awe (s:Sch)(v:Val)(d:s.Ap<=1048576)(e:v.Ap<=1048576):W F134 0 [s.enc,v.enc]=some [SL (Hv s v)]:=by
 rw[A5l]
 simp only[Aov s v d e,bO,dK,aA,aS]
 unfold Hv
 cases c:s.valid&&v.valid with
 | false=>simp only[bJ,Zt,aB,Zf];rfl
 | true=>
  have h:s.valid=true/\v.valid=true:=by simpa using c
  have a:=eG h.1
  have i:=v.E9
  have o:=Agh v.size (some s) v []
  have j:IV.agg [.int 0,.str ⟨#[]⟩,.int 0,.str ⟨#[]⟩,.int v.k,.int v.n,.str v.s,.list (v.l.map bK),.list (v.f.map aW),.int s.k,.int s.mn,.int s.mx,.list (s.en.map .str),.str s.key,.list (s.it.map cU),.list (s.f.map bQ),.bool true]=Hj (⟨0,Am,0,Am⟩,v,some s):=rfl
  have g:=Au2 v.size (⟨0,Am,0,Am⟩,v,some s) [] [] (aN _) (λt m=>by cases m;exact⟨a,d⟩) e (by simp) (by simp;omega) (by simp only[bB];omega)
  simp only[bD]at g
  simp only[aR,aB,Zf,Zt,cY,eW,eX,cH,cR,eC,gZ,hJ,hQ,eF,dR,eO,aA,dC,j]
  have b:W Biu 0 [Hj (⟨0,Am,0,Am⟩,v,some s),.list [],.list []]=some [SL (lv v.size (some s) v [])]:=g
  rw[b]
  simp only[bO,Bio (l:=lv v.size (some s) v []) (by omega)]
end Go.CT.Sch
namespace Go.CT.Sch
open Go.Proofs
theorem Asd {s:Sch}{v:Val}{i:Nat}(a:Gb v s.key=true):Ht s.key v i=R5 s.key v:=by
 unfold Ht R5;rw[if_pos a]
theorem Cp {key:ByteArray} : ∀ {l:List Val} {acc:List ByteArray},Dv key acc l=true-> ∀x∈l,isKey x key=true
 | [],_,_=>by simp
 | y::l,acc,h=>by
  simp only[Dv,aG]at h
  intro x a
  rcases bC.1 a with rfl | a
  ·exact h.1.1
  ·exact Cp h.2 x a
theorem Abf (s:Sch)(v:Val)(e:v.Ap<=1048576)(i:Nat)(g:i<v.l.length)(a:ByteArray): ∀ (n k:Nat),k+n=i->
  W Bg2 2 [.int i,.str a,.int k,s.enc,v.enc]=if inB (((v.l.take i).drop k).map λx=>Dq x s.key) a then some [.bool false]else W Bg2 1 [.int (i+1:Nat),s.enc,v.enc]
 | 0,k,h=>by
  have:k=i:=by omega
  subst this
  have j:=v.Bx
  rw[Anu,bA (by rw[eS];omega)]
  simp only[ltn,aA,aS,aB,Zf,nxt (show k<4611686018427387904 by omega),aL,inB,List.any_nil]
 | n+1,k,h=>by
  have m:k<i:=by omega
  have b:k<v.l.length:=by omega
  have j:=v.Bx
  have q:=dQ (aF b)
  have d:k<(v.l.take i).length :=by rw[eS];omega
  have o:=Abf s v e i g a n (k+1) (by omega)
  rw[Anu,aC d,aI,R1]
  simp only[lti m,aA,aS,Zt,cH,Jq bK b,eF,Md v.l[k] s.key (by omega),eP,fY,nxt (show k<4611686018427387904 by omega),o,List.getElem_take]
  by_cases c:a=Dq v.l[k] s.key
  ·simp[c]
  ·simp[c]
theorem Ab3 (s:Sch)(v:Val)(d:v.Ap<=1048576)(b:s.key≠Am): ∀ (n i:Nat),i+n=v.l.length->
  W Bg2 1 [.int i,s.enc,v.enc]=some [.bool (Dv s.key ((v.l.take i).map λx=>Dq x s.key) (v.l.drop i))]
 | 0,i,h=>by
  have:i=v.l.length:=by omega
  subst this
  rw[Ap5,aM,Dv]
  simp only[cH,Gi,ltn,aA,aS,aB,Zf]
 | n+1,i,h=>by
  have a:i<v.l.length:=by omega
  have m:=dQ (aF a)
  have e:=Ab3 s v d b n (i+1) (by omega)
  have c:=Abf s v d i a (Dq v.l[i] s.key) i 0 (by omega)
  rw[aE]at c
  have g:Gb v.l[i] s.key=isKey v.l[i] s.key:=by unfold Gb;simp[b]
  have j:v.l.take (i+1)=v.l.take i++ [v.l[i]]:=(V4 v.l a).symm
  rw[j,cS]at e
  rw[Ap5,aC a,Dv]
  simp only[cH,Gi,lti a,aA,aS,Zt,Jq bK a,eF,Md v.l[i] s.key (by omega),eP,dK,g]
  simp only[aD]at c
  cases o:isKey v.l[i] s.key with
  | false=>simp
  | true=>
   simp only[aR,aB,Zf,c,e,aI,aL,bL]
   cases inB ((v.l.take i).map λx=>Dq x s.key) (Dq v.l[i] s.key)<;>simp
theorem A3i (s:Sch)(v:Val)(h:v.Ap<=1048576):W Bg2 0 [s.enc,v.enc]=some [.bool (decide (s.k=4/\v.k=4/\s.key≠Am/\v.l≠ [])&&Dv s.key [] v.l)]:=by
 rw[A4x]
 simp only[eC,aA,eK,aS,eF,fY,cY,cH,Gi,bN,Ax,An]
 by_cases a:s.k=4
 ·by_cases b:s.key=Am
  ·have e:decide (Am=(⟨#[]⟩:ByteArray))=true:=rfl
   simp[a,b,e]
  ·have e:decide (s.key=(⟨#[]⟩:ByteArray))=false:=decide_eq_false b
   by_cases g:v.k=4
   ·by_cases c:v.l= []
    ·simp[a,c]
    ·have d: ¬ (v.l.length:Int)=0:=by
      have:v.l.length≠0:=λe=>c (cC.1 e)
      omega
     have:=Ab3 s v h b v.l.length 0 (by omega)
     simp only[List.take_zero,aL,aE,aD]at this
     simp only[a,e,g,d,Zd,Ze,aR,aB,Zf,this,b,c,ne_eq,not_false_eq_true,and_self,bL]
   ·simp[a,g]
 ·simp[a]
def oE (o:Option Sch):IV:=(o.getD Br).enc
theorem Ai7 (o:Option Sch)(v:Val)(h:v.Ap<=1048576):W F221 0 [oE o,.bool o.isSome,v.enc]=some [.bool !(kids o v).isEmpty]:=by
 rw[A2c]
 cases o with
 | none=>simp[kids]
 | some s=>
  simp only[oE,aZ,aS,Zt,aQ,A3i s v h,bO,aA,eC,bN,cY,cR,Gi,fX,Ax,An]
  congr 3
  rw[kids]
  by_cases d:s.k=v.k
  ·rw[if_pos d,d]
   by_cases b:v.k=5
   ·rw[if_pos b,List.isEmpty_map]
    cases v.f<;>simp[b]
   ·rw[if_neg b]
    by_cases c:v.k=4
    ·by_cases g:s.key=Am
     ·simp[g,c]
     ·cases i:v.l with
      | nil=>simp[c]
      | cons a l=>
       cases j:Dv s.key [] (a::l)<;>simp[c,g]
    ·simp[c,b]
  ·rw[if_neg d]
   by_cases b:s.k=5
   ·have: ¬ v.k=5:=λe=>d (b.trans e.symm)
    simp[b,this]
   ·by_cases c:s.k=4
    ·have: ¬ v.k=4:=λe=>d (c.trans e.symm)
     simp[c,this]
    ·simp[b,c]
theorem Aax (s:Sch)(nm:ByteArray)(j:s.Ap<=1048576)(b d e g:IV): ∀ (n i:Nat),i+n=s.f.length->
  W F223 1 [.str nm,.int i,s.enc,b,d,e,g]=some [oE (((s.f.drop i).find? λp=>decide (p.nm=nm)).map (·.s)),.bool ((s.f.drop i).find? λp=>decide (p.nm=nm)).isSome]
 | 0,i,h=>by
  have:i=s.f.length:=by omega
  subst this
  rw[Al7,aM]
  simp only[eO,Gi,ltn,aA,aS,aB,Zf,dC];rfl
 | n+1,i,h=>by
  have a:i<s.f.length:=by omega
  have o:=s.Bc
  have m:=Aax s nm j b d e g n (i+1) (by omega)
  rw[Al7,aC a,bV]
  simp only[eO,Gi,lti a,aA,aS,Zt,Jq bQ a,gN,fY,eY,nxt (show i<4611686018427387904 by omega),m]
  by_cases c:s.f[i].nm =nm
  ·simp[c,oE]
  ·have c':decide (s.f[i].nm =nm)=false:=by simpa using c
   simp only[c',aB,Zf]
theorem A4b (s:Sch)(nm:ByteArray)(d:s.Ap<=1048576)(a:SB s):W F223 0 [s.enc,.str nm]=some [oE (Eb s nm),.bool (Eb s nm).isSome]:=by
 have b:=a.one
 have:=Aax s nm d (.int 0) (.int 0) (.int 0) (.str ⟨#[]⟩) s.f.length 0 (by omega)
 rw[aE]at this
 rw[A1p]
 simp only[dR,aA,Gi,bN,aS]
 unfold Eb
 cases c:s.it with
 | nil=>
  have e:decide (((([]:List Sch).length :Nat):Int)=1)=false:=by decide
  simp only[e,aB,Zf,gA]
  exact this
 | cons t ts=>
  have g:ts= []:=by rw[c]at b;simp at b;exact b
  subst g
  simp[oE]
end Go.CT.Sch
namespace Go.CT.Sch
open Go.Proofs
theorem apS (l m:List ByteArray)(h:l.length+m.length<=137438953471):dN 16 (SL l) (SL m)=some (SL (l++m)):=by
 unfold SL eH
 rw[iI,if_pos]
 ·simp
 ·have:(l.length+m.length) * 16<=137438953472 * 1024:=fI (by omega) (by decide)
  simp only[aH]
  unfold Bb;omega
theorem Af0: ∀ (n:Nat) (o:Option Sch) (v:Val) (p:List Stp),v.size<=n->OSB o->v.Ap<=1048576->v.valid=true->(∀s∈p,s.fits)->p.length+n<=1073741824->
  W A2o 0 [oE o,.bool o.isSome,v.enc,.list (p.map bY)]=some [SL (lv n o v p)]
 | 0,o,v,p,h,_,_,_,_,_=>by have:=v.size_pos;omega
 | n+1,o,v,p,h,y,Q,q,hp,Y=>by
  have u:=Agh (n+1) o v p
  have R:=v.E9
  have recu: ∀x∈kids o v,x.2.1.valid=true->W A2o 0 [oE x.2.2,.bool x.2.2.isSome,x.2.1.enc,.list ((p++ [x.1]).map bY)]=some [SL (lv n x.2.2 x.2.1 (p++ [x.1]))]:=by
   intro x z I
   obtain⟨Z,h2⟩:=Ms z
   exact Af0 n x.2.2 x.2.1 (p++ [x.1]) (by omega) (Akc y z) (by omega) I (H0 hp (Zw y Q z)) (by simp;omega)
  rw[lv]at u ⊢
  rw[A5p]
  simp only[Ai7 o v Q,bO,dK,Bool.not_not,aA,aS]
  by_cases c:kids o v= []
  ·simp only[c,List.isEmpty_nil,Zt,Aiq p hp (by omega),eP,dH,aA];rfl
  ·have c':(kids o v).isEmpty =false:=by simpa using c
   rw[if_neg c]at u
   simp only[c',aB,Zf,c]
   cases o with
   | none=>simp[kids]at c
   | some s=>
    obtain⟨w,S⟩:=y s rfl
    have loop2:v.k=5->kids (some s) v=v.f.map (Cy s)-> ∀ (m i:Nat) (out:List ByteArray),i+m=v.f.length->out.length+(((kids (some s) v).drop i).flatMap λx=>lv n x.2.2 x.2.1 (p++ [x.1])).length <=1048576->
      W A2o 2 [.list (p.map bY),.int i,s.enc,v.enc,SL out]=some [SL (out++((kids (some s) v).drop i).flatMap λx=>lv n x.2.2 x.2.1 (p++ [x.1]))]:=by
     intro T a m
     induction m with
     | zero=>
      intro i out J _
      have:i=v.f.length:=by omega
      subst this
      have hd:(kids (some s) v).drop v.f.length= []:=bA (by rw[a,aH];exact aN _)
      rw[Ac3,hd]
      simp only[cR,Gi,ltn,aA,aS,aB,Zf,cG,aO]
     | succ m K=>
      intro i out J A
      have b:i<v.f.length:=by omega
      have d:i<(kids (some s) v).length :=by rw[a,aH];exact b
      have hlen:=v.Bc
      have e:(kids (some s) v)[i]=Cy s v.f[i]:=by simp only[a,gE]
      have B:=recu _ (aF d) (by rw[e];exact(Gl q (aF b)).1)
      rw[aC d,aT,aK]at A
      rw[e]at B A
      have r:W A2o 0 [oE (Eb s v.f[i].1),.bool (Eb s v.f[i].1).isSome,v.f[i].2.enc,.list ((p++ [Ch v.f[i].1]).map bY)]=some [SL (lv n (Cy s v.f[i]).2.2 (Cy s v.f[i]).2.1 (p++ [(Cy s v.f[i]).1]))]:=B
      have U:IV.agg [.int 1,.str v.f[i].1,.int 0,.str ⟨#[]⟩]=(Ch v.f[i].1).enc :=rfl
      rw[Ac3]
      simp only[cR,Gi,lti b,aA,aS,Zt,Jq aW b,fR,A4b s v.f[i].1 S w,eP,fK,dC,U,R8 p (Ch v.f[i].1) (show p.length<=1099511627776 by omega),bO,r]
      rw[apS _ _ (by omega)]
      simp only[aA,nxt (show i<4611686018427387904 by omega)]
      rw[K (i+1) _ (by omega) (by simp only[aK];omega),aC d,aT,bI,e]
    have loop1: ∀t,s.it= [t]->kids (some s) v=v.l.map (Bo s)->v.f= []->(∀x∈v.l,Gb x s.key=true)-> ∀ (m i:Nat) (out:List ByteArray),i+m=v.l.length->out.length+(((kids (some s) v).drop i).flatMap λx=>lv n x.2.2 x.2.1 (p++ [x.1])).length <=1048576->
      W A2o 1 [.list (p.map bY),.int i,s.enc,v.enc,SL out]=some [SL (out++((kids (some s) v).drop i).flatMap λx=>lv n x.2.2 x.2.1 (p++ [x.1]))]:=by
     intro t F a X j m
     induction m with
     | zero=>
      intro i out J _
      have:i=v.l.length:=by omega
      subst this
      have hd:(kids (some s) v).drop v.l.length= []:=bA (by rw[a,aH];exact aN _)
      have L:O.lt (.int 0) (.int 0)=some (.bool false):=rfl
      rw[Aec,hd]
      simp only[cH,Gi,ltn,aA,aS,aB,Zf,cG,aO]
      rw[Ac3]
      simp only[cR,X,aL,eZ,bB,aD,L,aA,aS,aB,Zf]
     | succ m K=>
      intro i out J A
      have b:i<v.l.length:=by omega
      have d:i<(kids (some s) v).length :=by rw[a,aH];exact b
      have hlen:=v.Bx
      have hm:=dQ (aF b)
      have e:(kids (some s) v)[i]=Bo s v.l[i]:=by simp only[a,gE]
      have B:=recu _ (aF d) (by rw[e];exact Eu q (aF b))
      rw[aC d,aT,aK]at A
      rw[e]at B A
      have M:=Asd (i:=i) (j _ (aF b))
      have r:W A2o 0 [oE s.it.head?,.bool s.it.head?.isSome,v.l[i].enc,.list ((p++ [R5 s.key v.l[i]]).map bY)]=some [SL (lv n (Bo s v.l[i]).2.2 (Bo s v.l[i]).2.1 (p++ [(Bo s v.l[i]).1]))]:=B
      rw[F]at r
      have hr'':W A2o 0 [t.enc,.bool true,v.l[i].enc,.list ((p++ [R5 s.key v.l[i]]).map bY)]=some [SL (lv n (Bo s v.l[i]).2.2 (Bo s v.l[i]).2.1 (p++ [(Bo s v.l[i]).1]))]:=r
      rw[Aec]
      simp only[cH,Gi,lti b,aA,aS,Zt,dR,F,aI,aL,fG,eA,dI,cB,aV,aU,bE,aJ b,aP,
       Y3 s v.l i b (by omega),bO,M,R8 p (R5 s.key v.l[i]) (show p.length<=1099511627776 by omega),hr'']
      rw[apS _ _ (by omega)]
      simp only[aA,nxt (show i<4611686018427387904 by omega)]
      rw[K (i+1) _ (by omega) (by simp only[aK];omega),aC d,aT,bI,e]
    show W A2o 1 [.list (p.map bY),.int 0,s.enc,v.enc,SL []]=_
    have g:=c
    rw[kids]at g
    by_cases G:s.k=v.k
    ·rw[if_pos G]at g
     by_cases C:v.k=5
     ·have a:kids (some s) v=v.f.map (Cy s):=by rw[kids,if_pos G,if_pos C];rfl
      have N:=Oo q (by omega)
      have L:O.lt (.int 0) (.int 0)=some (.bool false):=rfl
      have:=loop2 C a v.f.length 0 [] (by omega) (by rw[aE];simp only[bB];omega)
      rw[aE,bD]at this
      rw[Aec]
      simp only[cH,N,aL,eZ,bB,aD,L,aA,aS,aB,Zf]
      exact this
     ·rw[if_neg C]at g
      by_cases H:v.k=4/\s.key≠Am/\Dv s.key [] v.l=true
      ·have a:kids (some s) v=v.l.map (Bo s):=by rw[kids,if_pos G,if_neg C,if_pos H];rfl
       obtain⟨t,F⟩: ∃t,s.it= [t]:=bH.1 (w.list (by omega))
       have j: ∀x∈v.l,Gb x s.key=true:=λx z=>by
        have:=Cp H.2.2 x z
        unfold Gb;simp[this,H.2.1]
       have:=loop1 t F a (Ps q C) j v.l.length 0 [] (by omega) (by rw[aE];simp only[bB];omega)
       rw[aE,bD]at this
       exact this
      ·rw[if_neg H]at g;exact absurd rfl g
    ·rw[if_neg G]at g;exact absurd rfl g
theorem Ba3 (s:Sch)(v:Val)(a:s.Ap<=1048576)(b:v.Ap<=1048576):W F219 0 [s.enc,v.enc]=some [.bool (s.valid&&v.valid)]:=by
 rw[A6b]
 simp only[T8 s a,Tf v (by omega),bO,aS,Ax,An,aA]
 cases s.valid<;>cases v.valid<;>rfl
theorem Azd (s:Sch)(v:Val)(d:s.Ap<=1048576)(e:v.Ap<=1048576):W F218 0 [s.enc,v.enc]=some [SL (Hv s v)]:=by
 rw[A4p]
 simp only[Ba3 s v d e,bO,dK,aA,aS]
 unfold Hv
 cases c:s.valid&&v.valid with
 | false=>simp only[bJ,Zt,aB,Zf];rfl
 | true=>
  have g:s.valid=true/\v.valid=true:=by simpa using c
  have h:=v.E9
  have o:=Agh v.size (some s) v []
  have i:=Af0 v.size (some s) v [] (aN _) (λt j=>by cases j;exact⟨eG g.1,d⟩) e g.2 (by simp) (by simp;omega)
  have b:W A2o 0 [s.enc,.bool true,v.enc,.list []]=some [SL (lv v.size (some s) v [])]:=i
  have m:=Bgl (lv v.size (some s) v []) [] (by simp only[bB];omega)
  have a:W Bg9 0 [SL (lv v.size (some s) v []),.list []]=some [SL (Wb (lv v.size (some s) v []++ []))]:=m
  rw[aO]at a
  simp only[aR,aB,Zf,Zt,b,bO,a]
end Go.CT.Sch
namespace Go.CT.Sch
open Go.Proofs
theorem Aiv (v:Val)(a:v.Ap<=1099511627776)(n:Int)(c:0<=n)(d:n<=1000): ∃b,W F3 0 [v.enc,.int n]=some [.bool b]:=by
 obtain⟨r,h,_⟩:=Ax7 v a n n (by omega) (by omega) (by omega)
 exact⟨decide (0<=r),by rw[Bf2];simp[h]⟩
theorem Qx (s:Sch)(v:Val):(Hv s v).length <=v.size:=by
 unfold Hv
 split
 ·exact cK (Nw _) (Agh _ _ _ _)
 ·simp
end Go.CT.Sch
namespace Go.CT.Sch
open Go.Proofs
theorem Lf (p:ByteArray × Val)(nm:ByteArray):W F197 0 [aW p,.str nm]=some [.bool (decide (p.1=nm))]:=by
 rw[A0o];simp
theorem Ahe (l:List (ByteArray × Val))(nm:ByteArray)(d:l.length<=1099511627776): ∀ (n i:Nat),i+n=l.length->(∀p∈l.take i,¬ p.1=nm)->
  (W F196 1 [.list (l.map aW),.str nm,.int l.length,.int i]=some [.int (-1)]/\ ∀p∈l,¬ p.1=nm)\/
  ∃j,∃h:j<l.length,W F196 1 [.list (l.map aW),.str nm,.int l.length,.int i]=some [.int (j:Nat)]/\l[j].1 =nm/\ ∀p∈l.take j,¬ p.1=nm
 | 0,i,h,hp=>by
  left
  rw[Apw]
  have e: ¬ i<l.length:=by omega
  rw[eV (by omega)]at hp
  refine⟨?_,hp⟩
  simp only[dS,Aj,e,Ze,aA,aS,aB,Zf]
 | n+1,i,h,hp=>by
  have a:i<l.length:=by omega
  have g:=Bd (i:=i) (by omega)
  rw[Apw]
  by_cases c:l[i].1 =nm
  ·right
   refine⟨i,a,?_,c,hp⟩
   simp only[dS,Aj,a,Zd,aA,aS,Zt,fG,aV,aU,bE,aJ a,aP,Lf,bO,c]
  ·have:=Ahe l nm d n (i+1) (by omega) (by
    intro p b
    rw[<-V4 l a]at b
    rcases cE.1 b with h | h
    ·exact hp p h
    ·simp at h;subst h;exact c)
   simp only[dS,Aj,a,Zd,aA,aS,Zt,fG,aV,aU,bE,aJ a,aP,Lf,bO,c,Ze,aB,Zf,eN,g]
   exact this
theorem Pt (nm:ByteArray): ∀ (rest kept junk:List (ByteArray × Val)),junk≠ []->kept.length+junk.length+rest.length<=1099511627776->
  W F195 1 [.str nm,.int kept.length,.int (kept.length+junk.length:Nat),eH aW (kept++(junk++rest))]=some [eH aW (kept++rest.filter (Ix nm))]
 | [],kept,junk,d,e=>by
  have r:=dL.2 d
  rw[Aqw,fA]
  have b: ¬ ((kept.length+junk.length:Nat):Int)<(kept++(junk++ [])).length :=by simp
  have o: ∀z:IV,O.clear z (eH aW (kept++(junk++ []))) (.int kept.length) (.int (kept++(junk++ [])).length)=some (.list (kept.map aW++List.replicate junk.length z)):=by
   intro z
   unfold O.clear eH
   simp only[fM,aO,aH,aK,aV,true_and,aU,aN,and_true]
   rw[if_pos (by omega)]
   simp
  have t: ∀ys:List IV,O.slice (.list (kept.map aW++ys)) (.int 0) (.int kept.length)=some (eH aW kept):=by
   intro ys
   rw[O.Py,if_pos (by simp only[aK,aH];omega)]
   simp[eH]
  have a: ∃y,O.slice (eH aW (kept++(junk++ []))) (.int kept.length) (.int (kept++(junk++ [])).length)=some y:=by
   unfold eH
   rw[O.Py,if_pos (by simp only[aK,aH];omega)]
   exact⟨_,rfl⟩
  obtain⟨y,a⟩:=a
  simp only[aO]at b o a
  simp only[aO,aA,dS,b,Ze,aS,aB,Zf,a,o,t,cF,aO]
 | v::rest,kept,[],d,e=>absurd rfl d
 | v::rest,kept,y::js,d,e=>by
  simp only[bP]at e
  rw[Aqw,fA]
  have b:((kept.length+(y::js).length :Nat):Int)<(kept++(y::js++v::rest)).length :=by simp;omega
  have q:IntKind.i64.wrap (((kept.length+(y::js).length :Nat):Int)+1)=((kept.length+(y::js).length +1:Nat):Int):=by simp only[bP];rw[wrap64 (by omega) (by omega)];omega
  have g:IntKind.i64.wrap ((kept.length:Int)+1)=((kept.length+1:Nat):Int):=Bd (by omega)
  have gv:=gB aW (Srt.Df (l:=kept++(y::js++v::rest)) (A:=kept++y::js) (x:=v) (B:=rest) (by simp) (i:=kept.length+(y::js).length) (by simp))
  have gi:=gB aW (Srt.Df (l:=kept++(y::js++v::rest)) (A:=kept) (x:=y) (B:=js++v::rest) (by simp) (i:=kept.length) rfl)
  have st:=Srt.Jn (l:=kept++(y::js++v::rest)) (A:=kept) (x:=y) (y:=v) (B:=js++v::rest) (by simp) (i:=kept.length) rfl
  have h:kept.length<(kept++(y::js++v::rest)).length :=by simp
  rw[aY]
  by_cases c:v.1=nm
  ·have j:=Pt nm rest kept (y::js++ [v]) (by simp) (by simp;omega)
   have m:Ix nm v=false:=by simp[Ix,c]
   simp only[aA,dS,b,Zd,aS,Zt,gv,Lf,bO,c,dK,aR,aB,Zf,Ao9,eN,q,m]
   rw[show kept.length+(y::js).length +1=kept.length+(y::js++ [v]).length by simp;omega]
   rw[<-j];simp
  ·have j:=Pt nm rest (kept++ [v]) (js++ [v]) (by simp) (by simp;omega)
   have m:Ix nm v=true:=by simp[Ix,c]
   simp only[aA,dS,b,Zd,aS,Zt,gv,Lf,bO,c,Ze,dK,bJ,gi,iB aW h,st,eN,g,Ao9,q,m]
   rw[show kept.length+(y::js).length +1=(kept++ [v]).length +(js++ [v]).length by simp;omega,show kept.length+1=(kept++ [v]).length by simp]
   rw[show kept++v::(js++v::rest)=kept++ [v]++(js++ [v]++rest) by simp,j]
   simp
theorem Asr (l:List (ByteArray × Val))(nm:ByteArray)(h:l.length<=1099511627776):
  W F195 0 [.list (l.map aW),.str nm]=some [.list ((l.filter (Ix nm)).map aW)]:=by
 rw[A07,A3y]
 have key:=Ahe l nm h l.length 0 (by omega) (by simp)
 simp only[aD]at key
 rcases key with⟨a,b⟩ | ⟨j,i,a,b,m⟩
 ·simp only[eZ,aH,aA,a,bO,bN,Zd,aS,Zt]
  congr 3
  rw[dM.2 (λp hp=>by simp[Ix,b p hp])]
 ·have c: ¬ (j:Int)= -1:=by omega
  have d:IntKind.i64.wrap ((j:Int)+1)=((j+1:Nat):Int):=Bd (by omega)
  simp only[eZ,aH,aA,a,bO,bN,c,Ze,aS,aB,Zf,eN,d]
  have g:l=l.take j++([l[j]]++l.drop (j+1)):=by
   rw[bG,<-aC i,List.take_append_drop]
  have e:(l.take j).length =j:=by rw[eS];omega
  have o:(l.drop (j+1)).length =l.length - (j+1):=by rw[eR]
  have hd:=Pt nm (l.drop (j+1)) (l.take j) [l[j]] (by simp) (by simp only[bF];omega)
  rw[e,bF,<-g]at hd
  rw[show IV.list (l.map aW)=eH aW l from rfl,hd]
  have q:l.filter (Ix nm)=l.take j++(l.drop (j+1)).filter (Ix nm):=by
   conv=>lhs;rw[g]
   rw[eI,eI,dM.2 (λp hp=>by simp[Ix,m p hp])]
   congr 1
   simp[Ix,b]
  rw[q];rfl
theorem Akn (v:Val)(nm:ByteArray)(a:Ha 1073741824 v):W F194 0 [v.enc,.str nm]=some [.list ((Ea v nm).map aW)]:=by
 rw[A1o]
 unfold Ea
 have d:=a.O3
 have b:(v.f.map aW).length <=1073741824:=by rw[aH];omega
 have hd:=Asr v.f nm (by omega)
 by_cases c:v.k=5
 ·simp only[cY,cR,aA,eK,c,Zd,aR,aS,aB,Zf,A3r,Dy b,bO,hd,Zt]
  rfl
 ·simp[c]
theorem Aiw (v:Val)(nm:ByteArray)(x:Val)(b:Ha 1073741823 v)(e:Ha 1073741823 x):W F193 0 [v.enc,.str nm,x.enc]=some (De v nm x).E1 :=by
 have c:=Xy b nm
 have g:=c.1
 have d:=Ac0 (Ea v nm++ [(nm,x)]) ⟨by simp;omega,λp hp=>by
  rcases cE.1 hp with h | h
  ·exact(c.2 p h).mono (by omega)
  ·simp at h;subst h;exact e.mono (by omega)⟩
 have a:((Ea v nm).length +1) * 96<=Bb:=S9 (by omega) (by omega)
 simp only[cS,aI,aL]at d
 rw[A34]
 simp only[Akn v nm (b.mono (by omega)),bO,cY,eW,eX,cH,cR,aA,dC,gU,dH,iI,aH,bF,a,Zt,d,dE,fN]
 rfl
end Go.CT.Sch
namespace Go.CT.Sch
open Go.Proofs
theorem Kh (r:Kid->Val × Bool)(x:Kid)(l:List Kid):Gc r (x::l)=if(r x).2 then(x.1,(r x).1)::Gc r l else Gc r l:=by
 unfold Gc
 rw[List.filterMap_cons]
 cases(r x).2<;>simp
theorem Ai5 (r:Kid->Val × Bool)(l:List Kid):(Gc r l).length <=l.length:=List.length_filterMap_le _ _
theorem Sq {r:Kid->Val × Bool}{l:List Kid}{y:Stp × Val}(h:y∈Gc r l): ∃x∈l,(r x).2 =true/\y=(x.1,(r x).1):=by
 unfold Gc at h
 obtain⟨x,a,e⟩:=fS.1 h
 split at e
 ·rename_i c;cases e;exact⟨x,a,c,rfl⟩
 ·cases e
theorem Ayr {o:Option Sch}{v:Val}{x:Kid}(h:x∈kids o v):(v.k=5/\x.1.k=1)\/(v.k=4/\x.1.k=3):=by
 cases o with
 | none=>simp[kids]at h
 | some s=>
  rw[kids]at h
  split at h
  ·split at h
   ·obtain⟨p,hp,rfl⟩:=aX.1 h
    exact .inl ⟨by assumption,rfl⟩
   ·split at h
    ·obtain⟨p,hp,rfl⟩:=aX.1 h
     exact .inr ⟨by rename_i c;exact c.1,rfl⟩
    ·simp at h
  ·simp at h
theorem Aet (o:Option Sch)(v:Val):(kids o v).length <=if v.k=5 then v.f.length else v.l.length:=by
 cases o with
 | none=>simp[kids]
 | some s=>
  rw[kids]
  split
  ·split
   ·simp
   ·split
    ·simp
    ·simp
  ·simp
theorem Ey (d:Nat)(o:Option Sch)(v:Val)(p:List Stp)(ch:ByteArray->Bool):pt (d+1) o v p ch=if kids o v= []then(v,ch (Cj p)) else
 (⟨
   v.k,0,Am,if v.k=5 then[]else Ee (Gc (λx=>pt d x.2.2 x.2.1 (p++ [x.1]) ch) (kids o v)),
   if v.k=5 then fieldsOf (Gc (λx=>pt d x.2.2 x.2.1 (p++ [x.1]) ch) (kids o v)) else[]⟩,
  !(Gc (λx=>pt d x.2.2 x.2.1 (p++ [x.1]) ch) (kids o v)).isEmpty):=by rw[pt]
theorem A4m: ∀ (n:Nat) (o:Option Sch) (v:Val) (p:List Stp) (ch:ByteArray->Bool),(pt n o v p ch).1.f.length <=v.f.length
 | 0,_,_,_,_=>aN _
 | n+1,o,v,p,ch=>by
  rw[Ey]
  split
  ·exact aN _
  ·simp only[dG]
   split
   ·rename_i c
    have b:=Ai5 (λx=>pt n x.2.2 x.2.1 (p++ [x.1]) ch) (kids o v)
    have a:=Aet o v
    rw[if_pos c]at a
    simp only[fieldsOf,aH];omega
   ·simp
theorem Ag2 (s:ByteArray)(N:Nat):Ha N (K8 s):=by
 constructor<;>simp[K8]
theorem W8 (v:Val)(nm:ByteArray):(Ea v nm).length <=v.f.length:=by
 unfold Ea;split
 ·exact cL _ _
 ·simp
theorem Abb {N:Nat}{v x:Val}(nm:ByteArray)(h:Ha (N+1) v)(b:Ha (N+1) x)(d:v.f.length<=N):Ha (N+1) (De v nm x):=by
 have c:=Xy h nm
 have e:=W8 v nm
 have a:=Ahg (N:=N+1) (l:=Ea v nm++ [(nm,x)]) ⟨by simp;omega,λp hp=>by
  rcases cE.1 hp with h | h
  ·exact c.2 p h
  ·simp at h;subst h;exact b⟩
 constructor
 ·simp[De]
 ·exact a.1
 ·simp[De]
 ·exact a.2
theorem Agw {N:Nat}{o:Option Sch}{v:Val}(h:Ha N v){x:Kid}(a:x∈kids o v):Ha N x.2.1:=by
 cases o with
 | none=>simp[kids]at a
 | some s=>
  rw[kids]at a
  split at a
  ·split at a
   ·obtain⟨p,hp,rfl⟩:=aX.1 a;exact h.Ks hp
   ·split at a
    ·obtain⟨p,hp,rfl⟩:=aX.1 a;exact h.Nv hp
    ·simp at a
  ·simp at a
theorem Adu {N:Nat} : ∀ (n:Nat) (o:Option Sch) (v:Val) (p:List Stp) (ch:ByteArray->Bool),Ha N v->Ha (N+1) (pt n o v p ch).1
 | 0,_,v,_,_,h=>h.mono (by omega)
 | n+1,o,v,p,ch,h=>by
  rw[Ey]
  split
  ·exact h.mono (by omega)
  ·have i:=Ai5 (λx=>pt n x.2.2 x.2.1 (p++ [x.1]) ch) (kids o v)
   have e:=Aet o v
   have j:=h.Vm
   have m:=h.O3
   constructor
   ·simp only[cX]
    split
    ·simp
    ·rename_i c;rw[if_neg c]at e;simp only[Ee,aH];omega
   ·simp only[dG]
    split
    ·rename_i c;rw[if_pos c]at e;simp only[fieldsOf,aH];omega
    ·simp
   ·simp only[cX]
    split
    ·simp
    ·intro x a
     obtain⟨y,b,rfl⟩:=aX.1 a
     obtain⟨z,d,_,rfl⟩:=Sq b
     have:=A4m n z.2.2 z.2.1 (p++ [z.1]) ch
     have g:=Agw h d
     have:=g.O3
     exact Abb _ (Adu n _ _ _ _ g) (Ag2 _ _) (by show(pt n z.2.2 z.2.1 (p++ [z.1]) ch).1.f.length <=N;omega)
   ·simp only[dG]
    split
    ·intro x a
     obtain⟨y,b,rfl⟩:=aX.1 a
     obtain⟨z,d,_,rfl⟩:=Sq b
     exact Adu n _ _ _ _ (Agw h d)
    ·simp
def chB (ks:List ByteArray)(is:Bool):ByteArray->Bool:=λt=>inB ks t == is
theorem Avu (t:ByteArray)(ks:List ByteArray)(is:Bool):W F192 0 [.str t,.list (Oj ks),.bool is]=some [.bool (chB ks is t),.list (Oj ks),.bool is]:=by
 obtain⟨b,a⟩:=Bfi ks t
 rw[A48]
 simp only[Bga,a,aA,O.A5e];rfl
theorem Axh: ∀ (n:Nat) (x:Kid) (p:List Stp) (ks:List ByteArray) (is:Bool),x.2.1.size<=n->OSB x.2.2->x.2.1.Ap<=1048576->(∀s∈p,s.fits)->p.length+n<=1073741824->
  W Bin 0 [Hj x,.list (p.map bY),.list (Oj ks),.bool is]=some [(pt n x.2.2 x.2.1 p (chB ks is)).1.enc,.bool (pt n x.2.2 x.2.1 p (chB ks is)).2,.list (Oj ks),.bool is]
 | 0,x,p,ks,is,h,_,_,_,_=>by have:=x.2.1.size_pos;omega
 | n+1,x,p,ks,is,h,b,r,hp,Y=>by
  obtain⟨st,v,o⟩:=x
  simp only at h b r ⊢
  have t:=Aet o v
  have A:=v.Bc
  have B:=v.Bx
  have C:(kids o v).length <=1048576:=by split at t<;>omega
  have loop: ∀ (m i:Nat) (L:List Val) (F:List (ByteArray × Val)),i+m=(kids o v).length ->L.length+F.length<=i->
    W Bin 1 [.list (p.map bY),.int (kids o v).length,.int i,.bool is,.int 0,.int 0,.str ⟨#[]⟩,.int v.k,.int 0,.str ⟨#[]⟩,.list ((kids o v).map Hj),.list (Oj ks),.list (L.map bK),.list (F.map aW)]=
    some [(Val.mk v.k 0 Am (L++(if v.k=5 then[]else Ee (Gc (λx=>pt n x.2.2 x.2.1 (p++ [x.1]) (chB ks is)) ((kids o v).drop i)))) (F++(if v.k=5 then fieldsOf (Gc (λx=>pt n x.2.2 x.2.1 (p++ [x.1]) (chB ks is)) ((kids o v).drop i)) else[]))).enc,
     .bool (decide (0<L.length+F.length+(Gc (λx=>pt n x.2.2 x.2.1 (p++ [x.1]) (chB ks is)) ((kids o v).drop i)).length)),.list (Oj ks),.bool is]:=by
   intro m
   induction m with
   | zero=>
    intro i L F G H
    have:i=(kids o v).length :=by omega
    subst this
    have I:IntKind.i64.wrap ((F.length:Int)+(L.length:Int))=(F.length:Int)+(L.length:Int):=wrap64 (by omega) (by omega)
    rw[Anh,aM]
    simp only[ltn,aA,aS,aB,Zf,Gi,eN,I,fX,dC]
    have e1:Gc (λx=>pt n x.2.2 x.2.1 (p++ [x.1]) (chB ks is)) []= []:=rfl
    have J:(if v.k=5 then([]:List Val) else Ee [])= []:=by split<;>rfl
    have K:(if v.k=5 then fieldsOf []else([]:List (ByteArray × Val)))= []:=by split<;>rfl
    rw[e1,J,K,aO,aO,Val.Es,dE]
    have M:decide ((0:Int)<(F.length:Int)+(L.length:Int))=decide (0<L.length+F.length+([]:List (Stp × Val)).length):=by
     rw[decide_eq_decide];simp only[bB];omega
    rw[M];rfl
   | succ m u=>
    intro i L F G H
    have g:i<(kids o v).length :=by omega
    have q:=aF g
    obtain⟨Q,R⟩:=Ms q
    have S:=Axh n (kids o v)[i] (p++ [(kids o v)[i].1]) ks is (by omega) (Akc b q) (by omega) (H0 hp (Zw b r q)) (by simp;omega)
    have T:=Ayr q
    have j: ∀d,Gc (λx=>pt n x.2.2 x.2.1 (p++ [x.1]) (chB ks is)) ((kids o v)[i]::d)=if(pt n (kids o v)[i].2.2 (kids o v)[i].2.1 (p++ [(kids o v)[i].1]) (chB ks is)).2 then((kids o v)[i].1,(pt n (kids o v)[i].2.2 (kids o v)[i].2.1 (p++ [(kids o v)[i].1]) (chB ks is)).1)::Gc (λx=>pt n x.2.2 x.2.1 (p++ [x.1]) (chB ks is)) d else Gc (λx=>pt n x.2.2 x.2.1 (p++ [x.1]) (chB ks is)) d:=λd=>Kh _ _ _
    rw[Anh,aC g,j]
    simp only[lti g,aA,aS,Zt,Jq Hj g,Am8,Aqa p _ (show p.length<=1073741824 by omega),bO,S,O.Ado,dK]
    cases c:(pt n (kids o v)[i].2.2 (kids o v)[i].2.1 (p++ [(kids o v)[i].1]) (chB ks is)).2 with
    | false=>
     simp only[bJ,Zt,Ad7,nxt (show i<4611686018427387904 by omega),aA,aB,Zf]
     exact u (i+1) L F (by omega) (by omega)
    | true=>
     simp only[aR,aB,Zf,kid0,aA,bN,aS,Zt]
     rcases T with⟨U,k1⟩ | ⟨Z,k3⟩
     ·have w:=apm aW (n:=96) F ((kids o v)[i].1.nm,(pt n (kids o v)[i].2.2 (kids o v)[i].2.1 (p++ [(kids o v)[i].1]) (chB ks is)).1) (by omega)
      have ih':=u (i+1) L (F++ [((kids o v)[i].1.nm,(pt n (kids o v)[i].2.2 (kids o v)[i].2.1 (p++ [(kids o v)[i].1]) (chB ks is)).1)]) (by omega) (by simp;omega)
      simp only[k1,Zd,Zt,kid1,cY,eW,eX,cH,cR,aA,dC,gU,dH,w,Ad7,nxt (show i<4611686018427387904 by omega),ih']
      simp only[U,Zt,fieldsOf,aI,bI,bG,aK,bP,bB]
      congr 3
      rw[IV.bool.injEq,decide_eq_decide];omega
     ·have X: ¬ v.k=5:=by omega
      have y:=Adu (N:=1048576) n (kids o v)[i].2.2 (kids o v)[i].2.1 (p++ [(kids o v)[i].1]) (chB ks is) (Dd _ (by omega))
      have a:=Aiw (pt n (kids o v)[i].2.2 (kids o v)[i].2.1 (p++ [(kids o v)[i].1]) (chB ks is)).1 (kids o v)[i].1.nm (K8 (kids o v)[i].1.vl) (y.mono (by omega)) (Ag2 _ _)
      have w:=apm bK (n:=80) L (De (pt n (kids o v)[i].2.2 (kids o v)[i].2.1 (p++ [(kids o v)[i].1]) (chB ks is)).1 (kids o v)[i].1.nm (K8 (kids o v)[i].1.vl)) (by omega)
      have ih':=u (i+1) (L++ [De (pt n (kids o v)[i].2.2 (kids o v)[i].2.1 (p++ [(kids o v)[i].1]) (chB ks is)).1 (kids o v)[i].1.nm (K8 (kids o v)[i].1.vl)]) F (by omega) (by simp;omega)
      have z:W F56 0 [.str (kids o v)[i].1.vl]=some (K8 (kids o v)[i].1.vl).E1 :=by rw[Ajn];rfl
      have k1:decide ((kids o v)[i].1.k =1)=false:=by simp;omega
      rw[dE]at z a
      simp only[k1,aB,Zf,kid1,kid3,aA,z,fN,dC,eQ,a,dH,w,Ad7,nxt (show i<4611686018427387904 by omega),ih']
      simp only[X,Zf,Ee,aI,bI,bG,aK,bP,bB]
      congr 3
      rw[IV.bool.injEq,decide_eq_decide];omega
  rw[A53,Ey]
  simp only[Zr (st,v,o) b r,bO,Gi,aA,bN,aS]
  by_cases c:kids o v= []
  ·simp only[c,Zt,bB,aD,Zd,Ae1 p hp (by omega),eP,Ayn,aA,Avu,O.Kn]
  ·have c': ¬ ((kids o v).length :Int)=0:=by
    have:(kids o v).length ≠0:=λe=>c (cC.1 e)
    omega
   have:=loop (kids o v).length 0 [] [] (by omega) (by simp)
   rw[aE]at this
   simp only[c',Ze,aB,Zf,kid4,aA,c]
   refine this.trans ?_
   simp only[bD,bB,dU]
   congr 3
   rw[IV.bool.injEq]
   cases Gc (λx=>pt n x.2.2 x.2.1 (p++ [x.1]) (chB ks is)) (kids o v)<;>simp
end Go.CT.Sch
namespace Go.CT.Sch
open Go.Proofs
theorem Atd {y:Val}(h:y.valid=true)(a:y.k=3):y=K8 y.s:=by
 have b:=Oo h (by omega)
 have c:=Ps h (by omega)
 have d:y.n=0:=by
  rw[Gj]at h
  have:=((Cw 11 y).1 h.1).1
  unfold Gz at this
  rw[if_neg (by omega),if_neg (by omega),if_pos a]at this
  simp only[aG]at this
  simpa using this.1
 obtain⟨k,n,s,l,f⟩:=y
 simp only[iC,cX,dG,Val.Bh7,eL]at a b c d ⊢
 subst a b c d;rfl
theorem Baa {x:Val}{key:ByteArray}(c:x.valid=true)(a:isKey x key=true):(x.get key).getD Au=K8 (Dq x key):=by
 unfold isKey at a
 simp only[aG,decide_eq_true_eq]at a
 obtain⟨y,b⟩:=bZ.1 a.1
 unfold Dq
 rw[b]at a ⊢
 exact Atd (Ay4 c b) a.2
end Go.CT.Sch
namespace Go.CT.Sch
open Go.Proofs
def J4 (s:Sch)(v:Val)(set:List ByteArray)(is:Bool):Val:=
 if s.valid&&v.valid then(if(pt v.size (some s) v [] (chB set is)).2 then(pt v.size (some s) v [] (chB set is)).1 else if v.k=5\/v.k=4 then⟨v.k,0,Am,[],[]⟩else Au) else v
theorem Aph (w:Val)(d:Ha 1048577 w):(O.N9 [w.enc]).bind (λe=>calls (W Bgw 0 [e]) 5 λ_ _ _ a _=>(gO a (.int 0)).bind λb=>some [b])=some [w.enc]:=by
 have h:=Mr [w] (by simp) (λx c=>by simp at c;subst c;exact d.mono (by omega))
 simp only[aI,aL]at h
 rw[dE]at h
 simp only[dH,aA,h,fN,cX,aI,aL]
 rfl
theorem A3c (set:List ByteArray)(is:Bool):chB (Oh [] set) is=chB set is:=by
 funext t
 have:inB (Oh [] set) t=inB set t:=by
  rw[Bool.eq_iff_iff,Hs,Hs,Y8];simp
 unfold chB;rw[this]
theorem Acb (s:Sch)(v:Val)(set:List ByteArray)(is:Bool)(m:s.Ap<=1048576)(o:v.Ap<=1048576)(c:set.length<=1048576)(b:s.valid=true)(d:v.valid=true): ∀ (n i:Nat) (acc:List ByteArray),i+n=set.length->Oh acc (set.drop i)=Oh [] set->
  W Bh4 1 [SL set,.int set.length,.int i,s.enc,v.enc,.bool is,.int 0,.int 0,.str ⟨#[]⟩,.list (Oj acc)]=some [(J4 s v set is).enc]
 | 0,i,acc,h,e=>by
  have:i=set.length:=by omega
  subst this
  rw[aM,Oh]at e
  subst e
  have u:IV.agg [.int 0,.str ⟨#[]⟩,.int 0,.str ⟨#[]⟩,.int v.k,.int v.n,.str v.s,.list (v.l.map bK),.list (v.f.map aW),.int s.k,.int s.mn,.int s.mx,.list (s.en.map .str),.str s.key,.list (s.it.map cU),.list (s.f.map bQ),.bool true]=Hj (⟨0,Am,0,Am⟩,v,some s):=rfl
  have hp:=Axh v.size (⟨0,Am,0,Am⟩,v,some s) [] (Oh [] set) is (aN _) (λt w=>by cases w;exact⟨eG b,m⟩) o (by simp) (by have:=v.E9;simp;omega)
  have g:W Bin 0 [Hj (⟨0,Am,0,Am⟩,v,some s),.list [],.list (Oj (Oh [] set)),.bool is]=some [(pt v.size (some s) v [] (chB set is)).1.enc,.bool (pt v.size (some s) v [] (chB set is)).2,.list (Oj (Oh [] set)),.bool is]:=by rw[<-A3c];exact hp
  have x:=Aph (pt v.size (some s) v [] (chB set is)).1 (Adu _ _ _ _ _ (Dd _ (by omega)))
  have a:W F198 0 []=some Au.E1:=by rw[A5d];rfl
  rw[dE]at a
  rw[A79]
  simp only[ltn,aA,aS,aB,Zf,cY,eW,eX,cH,cR,eC,gZ,hJ,hQ,eF,dR,eO,dC,u,g,O.Ado,x,bN,Ax,An,a,fN]
  unfold J4
  simp only[b,d,cN,Zt]
  cases(pt v.size (some s) v [] (chB set is)).2 with
  | true=>rfl
  | false=>
   by_cases q:v.k=5
   ·simp only[q,Zd,Zt,true_or,aB,Zf];rfl
   ·by_cases r:v.k=4
    ·simp only[r];rfl
    ·simp only[r,q,Ze,aB,Zf,or_self,Ax];rfl
 | n+1,i,acc,h,e=>by
  have j:i<set.length:=by omega
  have y:=gB IV.str (aJ j)
  have z:=Acb s v set is m o c b d n (i+1) (if inB acc set[i]then acc else acc++ [set[i]]) (by omega) (by rw[<-e,aC j,Oh])
  rw[A79]
  simp only[lti j,aA,aS,Zt,y,Bfb,nxt (show i<4611686018427387904 by omega),z]
theorem A5s (s:Sch)(v:Val)(set:List ByteArray)(is:Bool)(b:s.Ap<=1048576)(d:v.Ap<=1048576)(a:set.length<=1048576):W Bh4 0 [s.enc,v.enc,SL set,.bool is]=some [(J4 s v set is).enc]:=by
 rw[A47]
 simp only[Aov s v b d,bO,dK,aA,aS]
 cases c:s.valid&&v.valid with
 | false=>
  have g:J4 s v set is=v:=by unfold J4;rw[c];rfl
  simp only[bJ,Zt,Aph v ((Dd (N:=1048576) v (by omega)).mono (by omega)),g]
 | true=>
  have e:s.valid=true/\v.valid=true:=by simpa using c
  have:=Acb s v set is b d a e.1 e.2 set.length 0 [] (by omega) (by rw[aE])
  simp only[aR,aB,Zf,fA,aA]
  exact this
end Go.CT.Sch
namespace Go.CT.Sch
open Go.Proofs
inductive Xp:List (ByteArray × Val)->List (ByteArray × Val)->Prop where
 | nil:Xp [] []
 | skip {a b q} :Xp a b->Xp a (q::b)
 | keep {a b} {p q:ByteArray × Val} :p.1=q.1->p.2.Ap<=q.2.Ap->Xp a b->Xp (p::a) (q::b)
theorem Xp.refl: ∀l,Xp l l
 | []=> .nil
 | _::l=> .keep rfl (aN _) (Xp.refl l)
theorem Xp.Bfd {a b:List (ByteArray × Val)}(h:Xp a b):Cq a<=Cq b:=by
 induction h with
 | nil=>exact aN _
 | skip _ c=>rw[Ca];omega
 | keep d e _ c=>rw[Ca,Ca,d];omega
theorem Xp.names {a b:List (ByteArray × Val)}(h:Xp a b): ∀p∈a,∃q∈b,q.1=p.1:=by
 induction h with
 | nil=>simp
 | skip _ c=>intro p hp;obtain⟨q,d,e⟩:=c p hp;exact⟨q,bW _ d,e⟩
 | keep d _ _ c=>
  intro p hp
  rcases bC.1 hp with rfl | hp
  ·exact⟨_,cD,d.symm⟩
  ·obtain⟨q,g,i⟩:=c p hp;exact⟨q,bW _ g,i⟩
theorem Xp.strict {a b:List (ByteArray × Val)}(h:Xp a b):Ck b->Ck a:=by
 induction h with
 | nil=>exact id
 | skip _ d=>intro g;exact d (bM.1 g).2
 | keep m _ c d=>
  intro g
  obtain⟨i,j⟩:=bM.1 g
  refine bM.2 ⟨λy o=>?_,d j⟩
  obtain⟨z,q,e⟩:=c.names y o
  rw[m,<-e];exact i z q
theorem Xp.filter {a b:List (ByteArray × Val)}(nm:ByteArray)(h:Xp a b):Xp (a.filter λp=> !decide (p.1=nm)) (b.filter λp=> !decide (p.1=nm)):=by
 induction h with
 | nil=>exact .nil
 | @skip a b q _ c=>
  rw[aY]
  split
  ·exact .skip c
  ·exact c
 | @keep a b p q d e _ c=>
  rw[aY,aY,d]
  split
  ·exact .keep d e c
  ·exact c
theorem K0 {key:ByteArray}{w:Val} : ∀ {l:List (ByteArray × Val)},(key,w)∈l->Cq (l.filter λp=> !decide (p.1=key))+(1+key.size+w.Ap)<=Cq l
 | [],h=>by simp at h
 | q::l,h=>by
  rw[aY,Ca]
  rcases bC.1 h with rfl | h
  ·have:=Kf (λp=> !decide (p.1=key)) l
   simp only[Zd,aR,aB,Zf];omega
  ·have a:=K0 h
   split
   ·rw[Ca];omega
   ·omega
theorem At8 {u x:Val}{key:ByteArray}{sv:Val}(a:u.k=5)(i:x.k=5)(b:Xp u.f x.f)(c:(key,sv)∈x.f):(De u key sv).Ap <=x.Ap:=by
 have j:Cq (De u key sv).f <=Cq (Ea u key)+(1+key.size+sv.Ap):=by
  have h:Cq (De u key sv).f <=Cq (Ea u key++ [(key,sv)]):=Ri _
  rw[It,Ca,Co]at h
  exact h
 have m:Cq (Ea u key)<=Cq (x.f.filter λp=> !decide (p.1=key)):=by
  unfold Ea;rw[if_pos a];exact(b.filter key).Bfd
 have o:=K0 c
 have q:=x.B4
 have d:=(De u key sv).B4
 have e:(De u key sv).s =Am:=rfl
 have g:(De u key sv).l = []:=rfl
 rw[e,g,Em,show Am.size=0 from rfl]at d
 omega
theorem Awx (nm:ByteArray)(l:List (ByteArray × Val))(p:ByteArray × Val):look nm (l++ [p])=if p.1=nm then some p else look nm l:=by
 unfold look
 rw[eI]
 by_cases c:p.1=nm
 ·simp[isName,c]
 ·simp[isName,c]
theorem Jl {u:Val}{key:ByteArray}{sv:Val}(g:u.k=5)(j:Ck u.f)(p:ByteArray × Val):p∈(De u key sv).f ↔(p.1≠key/\p∈u.f)\/p=(key,sv):=by
 have a:Ck (De u key sv).f :=Kw _
 have b:Ck (Ea u key):=by unfold Ea;rw[if_pos g];exact eB _ j
 rw[Mg a]
 have e:look p.1 (De u key sv).f =if key=p.1 then some (key,sv) else look p.1 (Ea u key):=by
  show look p.1 (Zz (Ea u key++ [(key,sv)]))=_
  rw[Td,Awx]
 rw[e]
 by_cases c:key=p.1
 ·rw[if_pos c]
  constructor
  ·intro h;exact .inr (dO h).symm
  ·rintro (⟨h,_⟩ | h)
   ·exact absurd c.symm h
   ·rw[h]
 ·rw[if_neg c,<-Mg b]
  unfold Ea
  rw[if_pos g,cT]
  constructor
  ·rintro⟨d,i⟩;exact .inl ⟨λe=>c e.symm,d⟩
  ·rintro (⟨d,i⟩ | h)
   ·exact⟨i,by simp[d]⟩
   ·rw[h]at c;exact absurd rfl c
theorem Tq {v w:Val}{nm:ByteArray}(a:v.k=5)(b:Ck v.f):v.get nm=some w↔(nm,w)∈v.f:=by
 constructor
 ·exact λh=>(D6 h).1
 ·intro h
  have:=M8 b h
  unfold iD
  rw[if_pos a,this];rfl
theorem Hd (u:Val)(key:ByteArray)(sv:Val):Ck (De u key sv).f :=Kw _
theorem O2 (u:Val){key:ByteArray}{sv:Val}(a:u.k=5)(b:Ck u.f):(De u key sv).get key=some sv:=
 (Tq rfl (Hd u key sv)).2 ((Jl a b _).2 (.inr rfl))
theorem Al0 (u:Val){key nm:ByteArray}{sv w:Val}(a:u.k=5)(b:Ck u.f)(c:nm≠key)(h:u.get nm=some w):(De u key sv).get nm=some w:=
 (Tq rfl (Hd u key sv)).2 ((Jl a b _).2 (.inl ⟨c,((Tq a b).1 h)⟩))
theorem Avt {x:Val}{key:ByteArray}{sv:Val}(b:x.valid=true)(h:x.get key=some sv):De x key sv=x:=by
 obtain⟨g,e⟩:=D6 h
 have d:=Gp b
 have i:(De x key sv).f =x.f:=Ab2 (Hd _ _ _) d λp=>by
  rw[Jl e d]
  constructor
  ·rintro (⟨_,h⟩ | rfl)
   ·exact h
   ·exact g
  ·intro hp
   by_cases c:p.1=key
   ·right
    have j:=M8 d hp
    have a:=M8 d g
    rw[c]at j
    rw[j]at a
    exact dO a
   ·exact .inl ⟨c,hp⟩
 have m:=Oo b (by omega)
 have a:x.n=0/\x.s=Am:=by
  rw[Gj]at b
  have:=((Cw 11 x).1 b.1).1
  unfold Gz at this
  rw[if_neg (by omega),if_neg (by omega),if_neg (by omega)]at this
  exact(of_decide_eq_true this).2
 obtain⟨k,n,s,l,f⟩:=x
 simp only[iC,cX,dG,Val.Bh7,eL]at e m i a
 obtain⟨rfl,rfl⟩:=a
 subst e m
 show Val.mk 5 0 Am [] (De ⟨5,0,Am,[],f⟩ key sv).f =_
 rw[i]
end Go.CT.Sch
namespace Go.CT.Sch
open Go.Proofs
def OV (o:Option Sch):Prop:= ∀s,o=some s->s.valid=true
theorem Au0 {o:Option Sch}{v:Val}(h:OV o){x:Kid}(a:x∈kids o v):OV x.2.2:=by
 cases o with
 | none=>simp[kids]at a
 | some s=>
  have c:=h s rfl
  rw[kids]at a
  split at a
  ·split at a
   ·obtain⟨p,hp,rfl⟩:=aX.1 a
    intro t b;exact Sch.Xo c b
   ·split at a
    ·obtain⟨p,hp,rfl⟩:=aX.1 a
     intro t b;exact Sch.V3 c (fZ b)
    ·simp at a
  ·simp at a
theorem Pz {o:Option Sch}{v:Val}(h:v.valid=true){x:Kid}(a:x∈kids o v):x.2.1.valid=true:=by
 cases o with
 | none=>simp[kids]at a
 | some s=>
  rw[kids]at a
  split at a
  ·split at a
   ·obtain⟨p,hp,rfl⟩:=aX.1 a;exact(Gl h hp).1
   ·split at a
    ·obtain⟨p,hp,rfl⟩:=aX.1 a;exact Eu h hp
    ·simp at a
  ·simp at a
theorem Jh {o:Option Sch}{v:Val}(h:kids o v≠ []): ∃s,o=some s/\s.k=v.k/\
  ((v.k=5/\kids o v=v.f.map (Cy s))\/(v.k=4/\s.key≠Am/\Dv s.key [] v.l=true/\kids o v=v.l.map (Bo s))):=by
 cases o with
 | none=>simp[kids]at h
 | some s=>
  refine⟨s,rfl,?_⟩
  rw[kids]at h ⊢
  by_cases b:s.k=v.k
  ·rw[if_pos b]at h ⊢
   by_cases c:v.k=5
   ·exact⟨b,.inl ⟨c,by rw[if_pos c];rfl⟩⟩
   ·rw[if_neg c]at h ⊢
    by_cases a:v.k=4/\s.key≠Am/\Dv s.key [] v.l=true
    ·exact⟨b,.inr ⟨a.1,a.2.1,a.2.2,by rw[if_pos a];rfl⟩⟩
    ·rw[if_neg a]at h;exact absurd rfl h
  ·rw[if_neg b]at h;exact absurd rfl h
theorem H3 {x:Val}{key:ByteArray}(d:x.valid=true)(h:isKey x key=true):x.k=5/\(key,K8 (Dq x key))∈x.f/\x.get key=some (K8 (Dq x key)):=by
 have c:=Baa d h
 unfold isKey at h
 simp only[aG]at h
 obtain⟨y,a⟩:=bZ.1 h.1
 rw[a]at c
 have b:y=K8 (Dq x key):=c
 rw[b]at a
 exact⟨(D6 a).2,(D6 a).1,a⟩
theorem Az5: ∀ (n:Nat) (o:Option Sch) (v:Val) (p:List Stp) (ch:ByteArray->Bool),(pt n o v p ch).1.k =v.k
 | 0,_,_,_,_=>rfl
 | n+1,o,v,p,ch=>by rw[Ey];split<;>rfl
theorem Af4 (s:Sch)(r:Kid->Val × Bool): ∀l:List (ByteArray × Val),(∀x∈l,(r (Cy s x)).1.Ap <=x.2.Ap)->Xp (fieldsOf (Gc r (l.map (Cy s)))) l
 | [],_=> .nil
 | x::l,h=>by
  have a:=Af4 s r l λy b=>h y (bW _ b)
  rw[aI,Kh]
  cases(r (Cy s x)).2 with
  | false=>exact .skip a
  | true=>exact .keep rfl (h x cD) a
theorem Aib (s:Sch)(r:Kid->Val × Bool): ∀l:List Val,(∀x∈l,(De (r (Bo s x)).1 s.key (K8 (Dq x s.key))).Ap <=x.Ap)->Du (Ee (Gc r (l.map (Bo s))))<=Du l
 | [],_=>aN _
 | x::l,h=>by
  have b:=Aib s r l λy a=>h y (bW _ a)
  have c:=h x cD
  rw[aI,Kh,Er]
  cases(r (Bo s x)).2 with
  | false=>simp only[aB,Zf];omega
  | true=>
   have e:Du (Ee (((Bo s x).1,(r (Bo s x)).1)::Gc r (l.map (Bo s))))=(De (r (Bo s x)).1 s.key (K8 (Dq x s.key))).Ap +Du (Ee (Gc r (l.map (Bo s)))):=Er _ _
   simp only[Zt]
   rw[e];omega
theorem Y9: ∀ (n:Nat) (o:Option Sch) (v:Val) (p:List Stp) (ch:ByteArray->Bool),v.valid=true->(pt n o v p ch).1.Ap <=v.Ap/\(v.k=5->Xp (pt n o v p ch).1.f v.f)
 | 0,_,v,_,_,_=>⟨aN _,λ_=>Xp.refl _⟩
 | n+1,o,v,p,ch,b=>by
  rw[Ey]
  split
  ·exact⟨aN _,λ_=>Xp.refl _⟩
  ·rename_i c
   obtain⟨s,rfl,y,t⟩:=Jh c
   rcases t with⟨u,d⟩ | ⟨z,q,g,d⟩
   ·have i:Xp (fieldsOf (Gc (λx=>pt n x.2.2 x.2.1 (p++ [x.1]) ch) (kids (some s) v))) v.f:=by
     rw[d]
     exact Af4 s _ v.f λx a=>(Y9 n (Cy s x).2.2 (Cy s x).2.1 (p++ [(Cy s x).1]) ch (Gl b a).1).1
    simp only[u,Zt]
    refine⟨?_,λ_=>i⟩
    have:=i.Bfd
    have e:=v.B4
    rw[fT]
    simp only[eL,cX,dG,Em,show Am.size=0 from rfl];omega
   ·have r: ¬ v.k=5:=by omega
    have i:Du (Ee (Gc (λx=>pt n x.2.2 x.2.1 (p++ [x.1]) ch) (kids (some s) v)))<=Du v.l:=by
     rw[d]
     refine Aib s _ v.l λx a=>?_
     obtain⟨j,xm,_⟩:=H3 (Eu b a) (Cp g x a)
     have w:=Y9 n (Bo s x).2.2 (Bo s x).2.1 (p++ [(Bo s x).1]) ch (Eu b a)
     have m:=Az5 n (Bo s x).2.2 (Bo s x).2.1 (p++ [(Bo s x).1]) ch
     exact At8 (m.trans j) j (w.2 j) xm
    simp only[r,Zf]
    refine⟨?_,λh=>absurd h (by first | exact r | exact not_false)⟩
    have e:=v.B4
    rw[fT]
    simp only[eL,cX,dG,Co,show Am.size=0 from rfl];omega
theorem K4 {n:Nat}{o:Option Sch}{v:Val}{p:List Stp}{ch:ByteArray->Bool}(a:v.valid=true)(b:v.k=5):Ck (pt n o v p ch).1.f :=
 ((Y9 n o v p ch a).2 b).strict (Gp a)
theorem A59 {s:Sch}{r:Kid->Val × Bool}{l:List (ByteArray × Val)}{x:ByteArray × Val}(a:x∈l)(h:(r (Cy s x)).2 =true):(x.1,(r (Cy s x)).1)∈fieldsOf (Gc r (l.map (Cy s))):=by
 unfold fieldsOf Gc
 refine aX.2 ⟨((Cy s x).1,(r (Cy s x)).1),fS.2 ⟨Cy s x,fO a,by rw[if_pos h]⟩,rfl⟩
theorem Lm {key:ByteArray} : ∀ {l:List Val} {acc:List ByteArray},Dv key acc l=true-> ∀x∈l,Dq x key∉acc
 | [],_,_=>by simp
 | y::l,acc,h=>by
  simp only[Dv,aG,dW]at h
  intro x a
  rcases bC.1 a with rfl | a
  ·intro b;have:=Hs.2 b;rw[this]at h;exact absurd h.1.2 (by simp)
  ·exact λb=>Lm h.2 x a (dJ _ b)
theorem Rs {key:ByteArray}{y:Val}{l:List Val}{acc:List ByteArray}(h:Dv key acc (y::l)=true):Dv key (acc++ [Dq y key]) l=true/\ ∀x∈l,Dq x key≠Dq y key:=by
 have h':=h
 simp only[Dv,aG]at h'
 exact⟨h'.2,λx a e=>Lm h'.2 x a (by rw[e];simp)⟩
theorem A28 {x:Val}{key:ByteArray}(h:isKey x key=true)(k:ByteArray):hasB key k x=decide (Dq x key=k):=by
 unfold isKey at h
 simp only[aG,decide_eq_true_eq]at h
 unfold hasB Dq
 rw[h.2];simp
theorem Ajw {key:ByteArray} : ∀ {l:List Val} {acc:List ByteArray},Dv key acc l=true-> ∀x∈l,l.find? (hasB key (Dq x key))=some x
 | [],_,_=>by simp
 | y::l,acc,h=>by
  intro x a
  have b:=Cp h
  obtain⟨d,e⟩:=Rs h
  rw[bV,A28 (b y cD)]
  by_cases c:Dq y key=Dq x key
  ·rcases bC.1 a with rfl | a
   ·simp
   ·exact absurd c.symm (e x a)
  ·rcases bC.1 a with rfl | a
   ·exact absurd rfl c
   ·simp only[c,Ze]
    exact Ajw d x a
theorem Agr (u:Val)(key kv k:ByteArray)(a:u.k=5)(b:Ck u.f):hasB key k (De u key (K8 kv))=decide (kv=k):=by
 unfold hasB
 rw[O2 u a b]
 show(decide ((3:Int)=3)&&decide (kv=k))=decide (kv=k)
 rw[decide_eq_true (rfl:(3:Int)=3),bL]
theorem Ajc {s:Sch}{r:Kid->Val × Bool} : ∀ {l:List Val} {acc:List ByteArray},Dv s.key acc l=true->(∀y∈l,(r (Bo s y)).1.k =5/\Ck (r (Bo s y)).1.f)-> ∀x∈l,(r (Bo s x)).2 =true->
  (Ee (Gc r (l.map (Bo s)))).find? (hasB s.key (Dq x s.key))=some (De (r (Bo s x)).1 s.key (K8 (Dq x s.key)))
 | [],_,_,_=>by simp
 | y::l,acc,h,g=>by
  intro x a d
  obtain⟨j,m⟩:=Rs h
  have b:=g y cD
  have i:=Ajc j λz o=>g z (bW _ o)
  rw[aI,Kh]
  have e: ∀z t,Ee (((Bo s y).1,z)::t)=De z s.key (K8 (Dq y s.key))::Ee t:=λ_ _=>rfl
  by_cases c:Dq y s.key=Dq x s.key
  ·rcases bC.1 a with rfl | a
   ·rw[if_pos d,e,bV,Agr _ _ _ _ b.1 b.2];simp
   ·exact absurd c.symm (m x a)
  ·rcases bC.1 a with rfl | a
   ·exact absurd rfl c
   ·cases(r (Bo s y)).2 with
    | false=>exact i x a d
    | true=>
     simp only[Zt]
     rw[e,bV,Agr _ _ _ _ b.1 b.2]
     simp only[c,Ze]
     exact i x a d
end Go.CT.Sch
namespace Go.CT.Sch.D
open Go.Proofs
inductive VOk:Val->Prop
 | mk (v:Val):Ck v.f->((v.k=5->v.n=0/\v.s=Am/\v.l= [])/\(v.k=4->v.n=0/\v.s=Am)/\(v.k≠5->v.f= []))->(∀x∈v.l,VOk x)->(∀p∈v.f,VOk p.2)->VOk v
def Eb (s:Sch)(nm:ByteArray):Option Sch:=if s.it.length=1 then s.it[0]? else(s.fld nm).map (·.s)
inductive Ahm:Sch->Val->Prop
 | leaf (s:Sch) (v:Val):v.k=s.k->v.k≠4->v.k≠5->Ahm s v
 | list (s:Sch) (v:Val) (t:Sch):v.k=s.k->v.k=4->s.it= [t]->(∀x∈v.l,Ahm t x)->Ahm s v
 | map (s:Sch) (v:Val):v.k=s.k->v.k=5->(∀p∈v.f,(Eb s p.1).isSome =true)->(∀p∈v.f,p.2.k≠0-> ∀t,Eb s p.1=some t->Ahm t p.2)->Ahm s v
inductive SOk:Sch->Prop
 | mk (s:Sch):s.it.length<=1->(s.it≠ []->s.f= [])->(s.k=4->s.it.length=1)->s.f.Pairwise (λa b=>blt a.nm b.nm=true)->
  (∀x∈s.it,SOk x)->(∀p∈s.f,SOk p.s)->(∀p∈s.f,p.df.length<=1)->(∀p∈s.f,∀d∈p.df,VOk d/\d.k≠0/\Ahm p.s d)->SOk s
theorem VOk.strict {v:Val}(h:VOk v):Ck v.f:=by cases h;assumption
theorem VOk.map {v:Val}(h:VOk v)(a:v.k=5):v.n=0/\v.s=Am/\v.l= []:=by cases h with | mk _ c b d e=>exact b.1 a
theorem VOk.list {v:Val}(h:VOk v)(b:v.k=4):v.n=0/\v.s=Am/\v.f= []:=by cases h with | mk _ c a d e=>exact⟨(a.2.1 b).1,(a.2.1 b).2,a.2.2 (by omega)⟩
theorem VOk.nof {v:Val}(h:VOk v)(a:v.k≠5):v.f= []:=by cases h with | mk _ c b d e=>exact b.2.2 a
theorem VOk.Nv {v:Val}(h:VOk v){x:Val}(a:x∈v.l):VOk x:=by cases h with | mk _ c d b e=>exact b x a
theorem VOk.Ks {v:Val}(h:VOk v){p:ByteArray × Val}(hp:p∈v.f):VOk p.2:=by cases h with | mk _ b c d a=>exact a p hp
theorem SOk.one {s:Sch}(h:SOk s):s.it.length<=1:=by cases h;assumption
theorem SOk.nof {s:Sch}(h:SOk s)(a:s.it≠ []):s.f= []:=by cases h with | mk _ c b d e g i j m=>exact b a
theorem SOk.list {s:Sch}(h:SOk s)(a:s.k=4):s.it.length=1:=by cases h with | mk _ c d b e g i j m=>exact b a
theorem SOk.names {s:Sch}(h:SOk s):s.f.Pairwise (λa b=>blt a.nm b.nm=true):=by cases h;assumption
theorem SOk.I3 {s x:Sch}(h:SOk s)(a:x∈s.it):SOk x:=by cases h with | mk _ c d e g b i j m=>exact b x a
theorem SOk.Ks {s:Sch}{p:SFld}(h:SOk s)(a:p∈s.f):SOk p.s:=by cases h with | mk _ c d e g i b j m=>exact b p a
theorem Mx {s t:Sch}{nm:ByteArray}(h:Eb s nm=some t):t∈s.it\/ ∃p∈s.f,p.nm=nm/\p.s=t:=by
 unfold Eb at h
 split at h
 ·exact .inl (fL h)
 ·right
  rw[Option.map_eq_some_iff]at h
  obtain⟨p,hp,rfl⟩:=h
  exact⟨p,bX hp,by simpa using gI hp,rfl⟩
theorem SOk.sub {s t:Sch}{nm:ByteArray}(a:SOk s)(h:Eb s nm=some t):SOk t:=by
 rcases Mx h with h | ⟨p,hp,_,rfl⟩
 ·exact a.I3 h
 ·exact a.Ks hp
theorem Jz {s t:Sch}{nm:ByteArray}(h:Eb s nm=some t):t.Ap<s.Ap:=by
 rcases Mx h with h | ⟨p,hp,_,rfl⟩
 ·exact fJ h
 ·have:=hZ hp;omega
theorem Aqg: ∀ (d:Nat) (v:Val),B9 d v=true->VOk v
 | 0,v,h=>by simp[B9]at h
 | d+1,v,h=>by
  simp only[B9,aG,bR,decide_eq_true_eq]at h
  obtain⟨⟨⟨⟨a,b⟩,c⟩,e⟩,g⟩:=h
  unfold Gz at a
  refine .mk v (Nc _ g) ⟨λi=>?_,λi=>?_,b.2.2.2⟩ (λx j=>Aqg d x (c x j)) (λp hp=>Aqg d p.2 (e p hp).2)
  ·rw[if_neg (by omega),if_neg (by omega),if_neg (by omega)]at a
   simp only[decide_eq_true_eq]at a
   exact⟨a.2.1,a.2.2,b.2.2.1 (by omega)⟩
  ·rw[if_neg (by omega),if_neg (by omega),if_neg (by omega)]at a
   simp only[decide_eq_true_eq]at a
   exact⟨a.2.1,a.2.2⟩
theorem O9 {v:Val}(h:v.valid=true):VOk v:=by
 unfold Val.valid at h
 simp only[aG]at h
 exact Aqg _ _ h.1
def Br:Sch:=⟨0,0,0,[],Am,[],[]⟩
def Vr (o:Option Sch):List IV:= [(o.getD Br).enc,.bool o.isSome]
theorem Qy:IV.agg [.int 0,.int 0,.int 0,.list [],.str ⟨#[]⟩,.list [],.list []]=Br.enc:=rfl
theorem Abm (s:Sch)(nm:ByteArray)(m:s.Ap<=1099511627776)(b d e g:IV): ∀ (n i:Nat),i+n=s.f.length->
  W F132 1 [.str nm,.list (s.f.map bQ),.int s.f.length,.int i,b,d,e,g]=some (Vr (((s.f.drop i).find? λp=>decide (p.nm=nm)).map (·.s)))
 | 0,i,h=>by
  rw[Apd]
  have j: ¬ i<s.f.length:=by omega
  simp[j,bA (dA j),Vr,Qy]
 | n+1,i,h=>by
  have a:i<s.f.length:=by omega
  have q:=s.Bc
  have o:=Bd (i:=i) (by omega)
  have:=Abm s nm m b d e g n (i+1) (by omega)
  rw[Apd,aC a]
  simp only[dS,Aj,a,Zd,aA,aS,Zt,fG,aV,aU,bE,aJ a,aP,gN,eY,fY,eN,o,this,bV]
  by_cases c:s.f[i].nm =nm
  ·simp[c,Vr]
  ·have c':decide (s.f[i].nm =nm)=false:=by simpa using c
   simp only[c,c',Ze,aB,Zf]
theorem A1n (s:Sch)(nm:ByteArray)(a:s.Ap<=1099511627776):W F132 0 [s.enc,.str nm]=some (Vr (Eb s nm)):=by
 rw[A52]
 unfold Eb
 have:=Abm s nm a (.int 0) (.int 0) (.int 0) (.str ⟨#[]⟩) s.f.length 0 (by omega)
 simp only[aE,aD]at this
 simp only[dR,eO,aA,bN,aS,eZ,aH,this]
 by_cases c:s.it.length=1
 ·have c':(s.it.length:Int)=1:=by omega
  obtain⟨t,b⟩:=bH.1 c
  simp[c,b,Vr]
 ·have c': ¬ (s.it.length:Int)=1:=by omega
  simp only[c,c',Ze,aB,Zf]
  rfl
mutual
def Bn:Val->Sch->Val
 | ⟨k,n,s,l,f⟩,sc=>
  if k=sc.k then
   if k=4 then(if sc.it.length=1 then⟨4,0,Am,Aeq l (sc.it.headD Br),[]⟩else⟨k,n,s,l,f⟩)
   else if k=5 then⟨5,0,Am,[],Aed f sc⟩
   else⟨k,n,s,l,f⟩
  else⟨k,n,s,l,f⟩
def Aeq:List Val->Sch->List Val
 | [],_=> []
 | v::vs,t=>Bn v t::Aeq vs t
def Aed:List (ByteArray × Val)->Sch->List (ByteArray × Val)
 | [],_=> []
 | (nm,v)::fs,sc=>(if v.k=0 then[]else match Eb sc nm with | some t=> [(nm,Bn v t)] | none=> [])++Aed fs sc
end
theorem Ajv (l:List Val)(t:Sch):Aeq l t=l.map λv=>Bn v t:=by
 induction l with
 | nil=>rfl
 | cons v l a=>simp[Aeq,a]
def Eg (sc:Sch)(p:ByteArray × Val):List (ByteArray × Val):=if p.2.k=0 then[]else match Eb sc p.1 with | some t=> [(p.1,Bn p.2 t)] | none=> []
theorem Ajy (l:List (ByteArray × Val))(sc:Sch):Aed l sc=l.flatMap (Eg sc):=by
 induction l with
 | nil=>rfl
 | cons p l a=>obtain⟨nm,v⟩:=p;simp only[Aed,a,aT];rfl
theorem N4 {sc:Sch}{p q:ByteArray × Val}(h:q∈Eg sc p):q.1=p.1:=by
 unfold Eg at h
 split at h
 ·simp at h
 ·split at h<;>simp at h
  subst h;rfl
theorem Hi (v:Val)(sc:Sch):Bn v sc=
  if v.k=sc.k then
   if v.k=4 then(if sc.it.length=1 then⟨4,0,Am,v.l.map λx=>Bn x (sc.it.headD Br),[]⟩else v)
   else if v.k=5 then⟨5,0,Am,[],v.f.flatMap (Eg sc)⟩
   else v
  else v:=by
 cases v with
 | mk k n s l f=>rw[<-Ajv,<-Ajy];simp only[Bn,iC,cX,dG];rfl
theorem Q9 (g:ByteArray × Val->List (ByteArray × Val))(c: ∀p q,q∈g p->q.1=p.1)(e: ∀p,(g p).length <=1): ∀l:List (ByteArray × Val),Ck l->Ck (l.flatMap g)
 | [],_=>bT
 | p::l,h=>by
  have i:=bM.1 h
  rw[aT]
  refine List.pairwise_append.2 ⟨?_,Q9 g c e l i.2,?_⟩
  ·have:=e p
   match o:g p,this with
   | [],_=>exact bT
   | [a],_=>exact eT _ _
   | _::_::_,h=>simp at h
  ·intro a j b d
   obtain⟨q,m,d⟩:=cM.1 d
   rw[c _ _ j,c _ _ d]
   exact i.1 q m
theorem Kj (sc:Sch)(p:ByteArray × Val):(Eg sc p).length <=1:=by
 unfold Eg
 split
 ·simp
 ·split<;>simp
theorem Qv: ∀ (v:Val) (sc:Sch),(Bn v sc).Ap <=v.Ap:=by
 refine eM λv a b sc=>?_
 have e: ∀ (t:Sch) (l:List Val),(∀x∈l,∀sc,(Bn x sc).Ap <=x.Ap)->Du (l.map λx=>Bn x t)<=Du l:=by
  intro t l
  induction l with
  | nil=>intro _;simp[Em]
  | cons x l c=>
   intro h
   have g:=h x (by simp) t
   have i:=c λy d=>h y (by simp[d])
   rw[aI,Er,Er];omega
 have j: ∀ (l:List (ByteArray × Val)),(∀p∈l,∀sc,(Bn p.2 sc).Ap <=p.2.Ap)->Cq (l.flatMap (Eg sc))<=Cq l:=by
  intro l
  induction l with
  | nil=>intro _;simp[Co]
  | cons p l c=>
   intro h
   have i:=c λy d=>h y (by simp[d])
   rw[aT,It,Ca]
   have:Cq (Eg sc p)<=1+p.1.size+p.2.Ap:=by
    unfold Eg
    split
    ·rw[Co];omega
    ·split
     ·next t _=>have g:=h p (by simp) t;rw[Ca,Co];simp only;omega
     ·rw[Co];omega
   omega
 rw[Hi]
 split
 ·split
  ·split
   ·have:=e (sc.it.headD Br) v.l a
    rw[fT,v.B4]
    simp only[eL,cX,dG,Co,show Am.size=0 from rfl];omega
   ·exact aN _
  ·split
   ·have:=j v.f b
    rw[fT,v.B4]
    simp only[eL,cX,dG,Em,show Am.size=0 from rfl];omega
   ·exact aN _
 ·exact aN _
theorem All (v:Val)(a:Ha 1073741824 v):W F129 0 [v.enc]=some [v.enc]:=by
 rw[A0u]
 have h:=Mr [v] (by simp) (by simpa using a)
 simp only[aI,aL]at h
 simp only[dH,aA,h,dE,fN,cX,aI,aL]
 rfl
theorem Aex (l:List Val)(b:Du l<=4294967200):W Bgw 0 [.list (l.map bK)]=some (gV ⟨4,0,Am,l,[]⟩):=
 Mr l (by have:=M4 l;omega) λx a=>Dd x (by
  have:x.Ap<=Du l:=Gt (fO a)
  omega)
theorem Asc (v:Val)(a:v.Ap<=4294967100):W F129 0 [v.enc]=some [v.enc]:=All v (Dd v (by omega))
end Go.CT.Sch.D
namespace Go.CT.Sch.D
open Go.Proofs
theorem Alc (sc:Sch)(p:ByteArray × Val):Cq (Eg sc p)<=1+p.1.size+p.2.Ap:=by
 unfold Eg
 split
 ·rw[Co];omega
 ·split
  ·next t _=>have a:=Qv p.2 t;rw[Ca,Co];simp only;omega
  ·rw[Co];omega
theorem Alf {l:List (ByteArray × Val)}{i:Nat}(h:i<l.length):Cq (l.drop i)=(1+l[i].1.size +l[i].2.Ap)+Cq (l.drop (i+1)):=by
 rw[aC h,Ca]
theorem Aj7 {l:List Val}{i:Nat}(h:i<l.length):Du (l.drop i)=l[i].Ap +Du (l.drop (i+1)):=by
 rw[aC h,Er]
theorem Ve (sc:Sch)(v:Val)(g:sc.Ap<=1099511627776)(x:v.Ap<=4294967000)(j m o:IV)(q: ∀p∈v.f,∀t,Eb sc p.1=some t->W Bfu 0 [t.enc,p.2.enc]=some [(Bn p.2 t).enc]):
  ∀ (n i:Nat) (acc:List (ByteArray × Val)),i+n=v.f.length->acc.length<=i->Cq acc+Cq (v.f.drop i)<=4294967000->
  W Bfu 1 [.list (v.f.map aW),.int v.f.length,.int i,sc.enc,j,m,o,.list (acc.map aW)]=some [(A6e (acc++(v.f.drop i).flatMap (Eg sc))).enc]
 | 0,i,acc,h,y,r=>by
  rw[Apa]
  have u: ¬ i<v.f.length:=by omega
  have b:=Avn acc (by omega)
  simp only[dS,Aj,u,Ze,aA,aS,aB,Zf,b,dE,fN,dC,eQ,bA (dA u),cG,aO]
 | n+1,i,acc,h,y,r=>by
  have c:i<v.f.length:=by omega
  have hlen:=v.Bc
  have z:=Bd (i:=i) (by omega)
  have hp:=Alc sc v.f[i]
  have A:=Kj sc v.f[i]
  rw[Alf c]at r
  have next:=Ve sc v g x j m o q n (i+1) (acc++Eg sc v.f[i]) (by omega) (by rw[aK];omega) (by rw[It];omega)
  have e:(acc.length+1) * 96<=Bb:=S9 (by omega) (by omega)
  rw[bI]at next
  rw[Apa,aC c,aT,<-next]
  simp only[dS,Aj,c,Zd,aA,aS,Zt,fG,aV,aU,bE,aJ c,aP,fR,Fld.Dj,fK,A1n sc _ g,Vr,eP,eK,A1k,eN,z]
  unfold Eg
  cases d:Eb sc v.f[i].1 with
  | none=>simp only[cI,aS,aB,Zf,aA,ite_self,aO]
  | some t=>
   have a:=q _ (aF c) t d
   by_cases w:v.f[i].2.k =0
   ·simp only[aZ,aS,Zt,aA,w,Zd,aR,aB,Zf,aO]
   ·simp only[aZ,aS,Zt,aA,w,Ze,bJ,Zf,aQ,a,bO,cY,eW,eX,cH,cR,dC,gU,dH,iI,aH,bF,e,cS,aI,aL]
theorem Vj (sc t:Sch)(v:Val)(u:v.Ap<=4294967000)(e g j:IV)(m:sc.it= [t])(o: ∀x∈v.l,W Bfu 0 [t.enc,x.enc]=some [(Bn x t).enc]):
  ∀ (n i:Nat) (acc:List Val),i+n=v.l.length->acc.length<=i->Du acc+Du (v.l.drop i)<=4294967000->
  W F131 1 [.list (v.l.map bK),.int v.l.length,.int i,sc.enc,e,g,j,.list (acc.map bK)]=some [(Val.mk 4 0 Am (acc++(v.l.drop i).map λx=>Bn x t) []).enc]
 | 0,i,acc,h,w,q=>by
  rw[Apm]
  have r: ¬ i<v.l.length:=by omega
  have b:=Aex acc (by omega)
  simp only[dS,Aj,r,Ze,aA,aS,aB,Zf,b,dE,fN,dC,eQ,bA (dA r),aL,aO]
 | n+1,i,acc,h,w,q=>by
  have c:i<v.l.length:=by omega
  have hlen:=v.Bx
  have y:=Bd (i:=i) (by omega)
  have hp:=Qv v.l[i] t
  rw[Aj7 c]at q
  have next:=Vj sc t v u e g j m o n (i+1) (acc++ [Bn v.l[i] t]) (by omega) (by rw[aK];simp;omega) (by rw[R2,Er,Em];omega)
  have d:(acc.length+1) * 80<=Bb:=S9 (by omega) (by omega)
  have a:=o _ (aF c)
  rw[bI,bG]at next
  rw[Apm,aC c,aI,<-next]
  simp only[dS,Aj,c,Zd,aA,aS,Zt,fG,aV,aU,bE,aJ c,aP,dR,m,aI,aL,eA,dI,cB,a,bO,dH,iI,aH,bF,d,cS,eN,y]
theorem A94 (sc:Sch)(l:List (ByteArray × Val))(h:Ck l):Zz (l.flatMap (Eg sc))=l.flatMap (Eg sc):=
 Ayo (Q9 _ (λ_ _ h=>N4 h) (Kj sc) l h)
theorem Ars: ∀v:Val,VOk v->v.Ap<=4294967000-> ∀sc:Sch,SOk sc->sc.Ap<=1099511627776->W Bfu 0 [sc.enc,v.enc]=some [(Bn v sc).enc]:=by
 refine eM λv d e g o sc h i=>?_
 have b:=Asc v (by omega)
 rw[A4j,Hi]
 simp only[cY,eC,aA,eK,bN,aS]
 by_cases q:v.k=sc.k
 ·simp only[q,Zd,aR,aB,Zf,aA,Zt]
  by_cases r:sc.k=5
  ·have y:v.k=5:=by omega
   have u:=Ve sc v i o (.int 0) (.int 0) (.str ⟨#[]⟩) (λp hp t a=>e p hp (g.Ks hp) (by have:=fQ hp;omega) t (h.sub a) (by have:=Jz a;omega)) v.f.length 0 [] (by omega) (by simp) (by rw[Co,aE];have:=v.B4;omega)
   simp only[aE,aD,aL,bD]at u
   simp[r,u,A6e,A94 sc _ g.strict]
  ·by_cases j:sc.k=4
   ·have z:v.k=4:=by omega
    obtain⟨t,a⟩:=bH.1 (h.list j)
    have c:t∈sc.it:=by rw[a];simp
    have w:=Vj sc t v o (.int 0) (.int 0) (.str ⟨#[]⟩) a (λx m=>d x m (g.Nv m) (by have:=dQ m;omega) t (h.I3 c) (by have:=fJ c;omega)) v.l.length 0 [] (by omega) (by simp) (by rw[Em,aE];have:=v.B4;omega)
    simp only[aE,aD,aL,bD]at w
    have A:W F131 0 [sc.enc,v.enc]=some [(Val.mk 4 0 Am (v.l.map λx=>Bn x t) []).enc]:=by
     rw[A0h]
     simp[a,w]
    simp[j,A,a]
   ·simp[j,r,b]
 ·simp[q,b]
end Go.CT.Sch.D
namespace Go.CT.Sch
open Go.Proofs
theorem Ys {x:IV}(h:WT Tryz.prog 3 x): ∃n,x= .int n:=by
 obtain⟨n,rfl,_⟩:=h.Ib (k:= .i64) (by kernel_rfl)
 exact⟨n,rfl⟩
theorem Uz {x:IV}(h:WT Tryz.prog 9 x): ∃s,x= .str s:=by
 obtain⟨s,rfl,_⟩:=h.Ir (by kernel_rfl)
 exact⟨s,rfl⟩
theorem Awu {x:IV}(h:WT Tryz.prog 4 x): ∃b,x= .bool b:=h.Ng (by kernel_rfl)
theorem Ax0 {x:IV}(h:WT Tryz.prog 22 x): ∃l:List ByteArray,x= .list (l.map .str):=by
 obtain⟨xs,rfl,_,h⟩:=h.Db (e:=9) (by kernel_rfl)
 obtain⟨es,rfl,_⟩:=Kv (enc:=IV.str) (ok:=λ_=>True) (xs:=xs) λx a=>by
  obtain⟨s,e⟩:=Uz (h x a)
  exact⟨s,e,trivial⟩
 exact⟨es,rfl⟩
theorem Aud {x:IV}(b:WT Tryz.prog 27 x)(h: ∀y,y.bulk<x.bulk->WT Tryz.prog 30 y-> ∃v:Val,y=v.enc): ∃l:List Val,x= .list (l.map bK):=by
 obtain⟨xs,rfl,_,c⟩:=b.Db (e:=30) (by kernel_rfl)
 obtain⟨es,rfl,_⟩:=Kv (enc:=bK) (ok:=λ_=>True) (xs:=xs) λy a=>by
  have d:y.bulk<(IV.list xs).bulk :=by have:=Gt a;simp only[fB];omega
  obtain⟨s,e⟩:=h y d (c y a)
  exact⟨s,e,trivial⟩
 exact⟨es,rfl⟩
theorem Ax4 {x:IV}(b:WT Tryz.prog 28 x)(h: ∀y,y.bulk<x.bulk->WT Tryz.prog 84 y-> ∃p,y=aW p): ∃l:List (ByteArray × Val),x= .list (l.map aW):=by
 obtain⟨xs,rfl,_,c⟩:=b.Db (e:=84) (by kernel_rfl)
 obtain⟨es,rfl,_⟩:=Kv (enc:=aW) (ok:=λ_=>True) (xs:=xs) λy a=>by
  have d:y.bulk<(IV.list xs).bulk :=by have:=Gt a;simp only[fB];omega
  obtain⟨s,e⟩:=h y d (c y a)
  exact⟨s,e,trivial⟩
 exact⟨es,rfl⟩
theorem Akt: ∀ (n:Nat) (x:IV),x.bulk<=n->(WT Tryz.prog 30 x-> ∃v:Val,x=v.enc)/\(WT Tryz.prog 84 x-> ∃p,x=aW p)
 | 0,x,g=>by have:=Aen x;omega
 | n+1,x,g=>by
  have u: ∀y:IV,y.bulk<=n->WT Tryz.prog 27 y-> ∃l:List Val,y= .list (l.map bK):=λy A h=>Aud h λz i j=>(Akt n z (by omega)).1 j
  have w: ∀y:IV,y.bulk<=n->WT Tryz.prog 28 y-> ∃l:List (ByteArray × Val),y= .list (l.map aW):=λy A h=>Ax4 h λz i j=>(Akt n z (by omega)).2 j
  constructor
  ·intro h
   obtain⟨xs,rfl,o⟩:=h.J5 (ts:= [3,3,9,27,28]) (by kernel_rfl) (by kernel_rfl)
   obtain⟨a,xs,rfl,q,h⟩:=o.cons_inv
   obtain⟨b,xs,rfl,g,h⟩:=h.cons_inv
   obtain⟨c,xs,rfl,r,h⟩:=h.cons_inv
   obtain⟨d,xs,rfl,hd,h⟩:=h.cons_inv
   obtain⟨e,xs,rfl,t,h⟩:=h.cons_inv
   obtain rfl:=h.Wl
   simp only[fB,iE]at g
   obtain⟨k,rfl⟩:=Ys q
   obtain⟨m,rfl⟩:=Ys ‹WT Tryz.prog 3 b›
   obtain⟨s,rfl⟩:=Uz r
   obtain⟨l,rfl⟩:=u d (by omega) hd
   obtain⟨f,rfl⟩:=w e (by omega) t
   exact⟨⟨k,m,s,l,f⟩,gY _ _ _ _ _⟩
  ·intro h
   obtain⟨xs,rfl,o⟩:=h.J5 (ts:= [9,3,3,9,27,28]) (by kernel_rfl) (by kernel_rfl)
   obtain⟨z,xs,rfl,i,h⟩:=o.cons_inv
   obtain⟨a,xs,rfl,q,h⟩:=h.cons_inv
   obtain⟨b,xs,rfl,g,h⟩:=h.cons_inv
   obtain⟨c,xs,rfl,r,h⟩:=h.cons_inv
   obtain⟨d,xs,rfl,hd,h⟩:=h.cons_inv
   obtain⟨e,xs,rfl,t,h⟩:=h.cons_inv
   obtain rfl:=h.Wl
   simp only[fB,iE]at g
   obtain⟨nm,rfl⟩:=Uz i
   obtain⟨k,rfl⟩:=Ys q
   obtain⟨m,rfl⟩:=Ys ‹WT Tryz.prog 3 b›
   obtain⟨s,rfl⟩:=Uz r
   obtain⟨l,rfl⟩:=u d (by omega) hd
   obtain⟨f,rfl⟩:=w e (by omega) t
   exact⟨(nm,⟨k,m,s,l,f⟩),Fld.fold _ _ _ _ _ _⟩
theorem A7l {x:IV}(h:WT Tryz.prog 30 x): ∃v:Val,x=v.enc:=(Akt _ x (aN _)).1 h
theorem Ata {x:IV}(h:WT Tryz.prog 27 x): ∃l:List Val,x= .list (l.map bK):=Aud h λ_ _ a=>A7l a
theorem Baq {x:IV}(b:WT Tryz.prog 23 x)(h: ∀y,y.bulk<x.bulk->WT Tryz.prog 26 y-> ∃v:Sch,y=v.enc): ∃l:List Sch,x= .list (l.map cU):=by
 obtain⟨xs,rfl,_,c⟩:=b.Db (e:=26) (by kernel_rfl)
 obtain⟨es,rfl,_⟩:=Kv (enc:=cU) (ok:=λ_=>True) (xs:=xs) λy a=>by
  have d:y.bulk<(IV.list xs).bulk :=by have:=Gt a;simp only[fB];omega
  obtain⟨s,e⟩:=h y d (c y a)
  exact⟨s,e,trivial⟩
 exact⟨es,rfl⟩
theorem Ar5 {x:IV}(b:WT Tryz.prog 24 x)(h: ∀y,y.bulk<x.bulk->WT Tryz.prog 94 y-> ∃p:SFld,y=p.enc): ∃l:List SFld,x= .list (l.map bQ):=by
 obtain⟨xs,rfl,_,c⟩:=b.Db (e:=94) (by kernel_rfl)
 obtain⟨es,rfl,_⟩:=Kv (enc:=bQ) (ok:=λ_=>True) (xs:=xs) λy a=>by
  have d:y.bulk<(IV.list xs).bulk :=by have:=Gt a;simp only[fB];omega
  obtain⟨s,e⟩:=h y d (c y a)
  exact⟨s,e,trivial⟩
 exact⟨es,rfl⟩
theorem Aks: ∀ (n:Nat) (x:IV),x.bulk<=n->(WT Tryz.prog 26 x-> ∃v:Sch,x=v.enc)/\(WT Tryz.prog 94 x-> ∃p:SFld,x=p.enc)
 | 0,x,A=>by have:=Aen x;omega
 | n+1,x,q=>by
  have C: ∀y:IV,y.bulk<=n->WT Tryz.prog 23 y-> ∃l:List Sch,y= .list (l.map cU):=λy F h=>Baq h λz G r=>(Aks n z (by omega)).1 r
  have H: ∀y:IV,y.bulk<=n->WT Tryz.prog 24 y-> ∃l:List SFld,y= .list (l.map bQ):=λy F h=>Ar5 h λz G r=>(Aks n z (by omega)).2 r
  have B: ∀xs,WTs Tryz.prog [3,3,3,22,9,23,24] xs->iE xs<=n-> ∃s:Sch,xs=s.E1:=by
   intro xs h A
   obtain⟨a,xs,rfl,t,h⟩:=h.cons_inv
   obtain⟨b,xs,rfl,j,h⟩:=h.cons_inv
   obtain⟨c,xs,rfl,u,h⟩:=h.cons_inv
   obtain⟨d,xs,rfl,hd,h⟩:=h.cons_inv
   obtain⟨e,xs,rfl,I,h⟩:=h.cons_inv
   obtain⟨g,xs,rfl,J,h⟩:=h.cons_inv
   obtain⟨i,xs,rfl,K,h⟩:=h.cons_inv
   obtain rfl:=h.Wl
   simp only[iE]at A
   obtain⟨k,rfl⟩:=Ys t
   obtain⟨m,rfl⟩:=Ys j
   obtain⟨o,rfl⟩:=Ys u
   obtain⟨en,rfl⟩:=Ax0 hd
   obtain⟨key,rfl⟩:=Uz I
   obtain⟨it,rfl⟩:=C g (by omega) J
   obtain⟨f,rfl⟩:=H i (by omega) K
   exact⟨⟨k,m,o,en,key,it,f⟩,by rw[gF];rfl⟩
  constructor
  ·intro h
   obtain⟨xs,rfl,w⟩:=h.J5 (ts:= [3,3,3,22,9,23,24]) (by kernel_rfl) (by kernel_rfl)
   simp only[fB]at q
   obtain⟨s,rfl⟩:=B xs w (by omega)
   exact⟨s,s.Es.symm⟩
  ·intro h
   obtain⟨xs,rfl,w⟩:=h.J5 (ts:= [9,4,4,27,3,3,3,22,9,23,24]) (by kernel_rfl) (by kernel_rfl)
   obtain⟨a,xs,rfl,t,h⟩:=w.cons_inv
   obtain⟨b,xs,rfl,j,h⟩:=h.cons_inv
   obtain⟨c,xs,rfl,u,h⟩:=h.cons_inv
   obtain⟨d,xs,rfl,hd,h⟩:=h.cons_inv
   simp only[fB,iE]at q
   obtain⟨s,rfl⟩:=B xs h (by omega)
   obtain⟨nm,rfl⟩:=Uz t
   obtain⟨rq,rfl⟩:=Awu j
   obtain⟨im,rfl⟩:=Awu u
   obtain⟨df,rfl⟩:=Ata hd
   exact⟨⟨nm,rq,im,df,s⟩,rfl⟩
theorem Bfs {x:IV}(h:WT Tryz.prog 26 x): ∃s:Sch,x=s.enc:=(Aks _ x (aN _)).1 h
structure Mgr where
 name:ByteArray
 paths:List ByteArray
def Mgr.enc (m:Mgr):IV:= .agg [.str m.name,.list (m.paths.map .str)]
theorem Bem {x:IV}(h:WT Tryz.prog 52 x): ∃m:Mgr,x=m.enc:=by
 obtain⟨xs,rfl,c⟩:=h.J5 (ts:= [9,22]) (by kernel_rfl) (by kernel_rfl)
 obtain⟨a,xs,rfl,d,h⟩:=c.cons_inv
 obtain⟨b,xs,rfl,e,h⟩:=h.cons_inv
 obtain rfl:=h.Wl
 obtain⟨nm,rfl⟩:=Uz d
 obtain⟨l,rfl⟩:=Ax0 e
 exact⟨⟨nm,l⟩,rfl⟩
theorem Bba {x:IV}(a:WT Tryz.prog 31 x): ∃l:List Mgr,x= .list (l.map Mgr.enc):=by
 obtain⟨xs,rfl,_,b⟩:=a.Db (e:=52) (by kernel_rfl)
 obtain⟨es,rfl,_⟩:=Kv (enc:=Mgr.enc) (ok:=λ_=>True) (xs:=xs) λy c=>by
  obtain⟨s,e⟩:=Bem (b y c)
  exact⟨s,e,trivial⟩
 exact⟨es,rfl⟩
end Go.CT.Sch
namespace Go.CT.Sch.D
open Go.Proofs
theorem Ae7 {s:Sch}(h:SB s)(nm:ByteArray):Eb s nm=Sch.Eb s nm:=by
 unfold Eb Sch.Eb
 have a:=h.one
 match b:s.it,a with
 | [],_=>simp
 | [t],_=>simp
theorem A3o: ∀ (v:Val) (s:Sch),SB s->Jo v s []= []->Ahm s v:=by
 refine eM λv c d s b h=>?_
 have e:=Xj h
 by_cases g:v.k=4
 ·obtain⟨t,a⟩:=bH.1 (b.list (by omega))
  have m:=(Azk h g).2
  rw[a,eD]at m
  exact .list s v t e g a λx o=>c x o t (b.I3 (by rw[a];simp)) (Af9 m x o)
 ·by_cases i:v.k=5
  ·have q:=(A4y h i).1
   refine .map s v e i (λp hp=>?_) (λp hp j t a=>?_)
   ·obtain⟨t,a⟩:=Ar0 (q p hp [])
    rw[Ae7 b,a];rfl
   ·rw[Ae7 b]at a
    exact d p hp t (b.sub a) (Uq (A5q (q p hp []) j a) [])
  ·exact .leaf s v e g i
theorem Aql {g:Sch->Bool} : ∀ (l:List SFld) (o:Option ByteArray),fOk g o l=true->l.Pairwise (λa b=>blt a.nm b.nm=true)/\ ∀q,o=some q-> ∀p∈l,blt q p.nm=true
 | [],o,_=>⟨bT,λq _ p hp=>by simp at hp⟩
 | x::l,o,h=>by
  simp only[fOk,aG]at h
  obtain⟨e,i⟩:=Aql l (some x.nm) h.2
  have d:=i x.nm rfl
  refine⟨bM.2 ⟨d,e⟩,λq j p hp=>?_⟩
  have c:=h.1.1.1.1.2
  subst j
  simp only[J0]at c
  rcases bC.1 hp with rfl | hp
  ·exact c
  ·exact G4 c (d p hp)
theorem Ud: ∀ (d:Nat) (s:Sch),Cl d s=true->SOk s
 | 0,s,h=>by simp[Cl]at h
 | d+1,s,h=>by
  have c:=Hg (d+1) s h
  have e: ∀p∈s.f,SOk p.s/\p.df.length<=1/\ ∀x∈p.df,VOk x/\x.k≠0/\Ahm p.s x:=by
   intro p hp
   obtain⟨_,_,j,o,g⟩:=Vw h hp
   refine⟨Ud d p.s j,o,λx q=>?_⟩
   unfold Bdx at g
   simp only[bR,aG,dW,decide_eq_false_iff_not,decide_eq_true_eq]at g
   obtain⟨⟨r,u⟩,w⟩:=g x q
   exact⟨O9 u,r,A3o x p.s (Hg d p.s j) (cC.1 w)⟩
  have i:s.f.Pairwise (λa b=>blt a.nm b.nm=true):=by
   by_cases m:s.f= []
   ·rw[m];exact bT
   ·obtain⟨p,hp⟩:=List.exists_mem_of_ne_nil _ m
    have y:=(Vw h hp).1
    rw[Cl,if_neg (by omega),if_neg (by omega),if_neg (by omega),if_neg (by omega),if_pos y]at h
    simp only[aG]at h
    exact(Aql s.f none h.2).1
  exact .mk s c.one c.nof c.list i (λt z=>Ud d t (Zp h z)) (λp hp=>(e p hp).1) (λp hp=>(e p hp).2.1) (λp hp=>(e p hp).2.2)
theorem Bb5 (v:Val)(s:Sch):(Bn v s).k =v.k:=by
 rw[Hi]
 split
 ·split
  ·split
   ·show(4:Int)=_;omega
   ·rfl
  ·split
   ·show(5:Int)=_;omega
   ·rfl
 ·rfl
theorem Aas {v:Val}(s:Sch)(a:v.k≠4)(b:v.k≠5):Bn v s=v:=by
 rw[Hi]
 split
 ·rfl
 ·rfl
theorem Aia (g:ByteArray × Val->List (ByteArray × Val))(o: ∀p q,q∈g p->q.1=p.1)(r: ∀p,(g p).length <=1)(nm:ByteArray): ∀l:List (ByteArray × Val),Ck l->
  (l.flatMap g).find? (λp=>decide (p.1=nm))=(l.find? λp=>decide (p.1=nm)).bind λp=>(g p).head?
 | [],_=>rfl
 | p::l,h=>by
  have t:=bM.1 h
  rw[aT,List.find?_append,bV,Aia g o r nm l t.2]
  have d:=o p
  have i:=r p
  by_cases c:p.1=nm
  ·have j:(l.find? λq=>decide (q.1=nm))=none:=by
    rw[eJ]
    intro q m
    have:=I1 (t.1 q m)
    simp only[decide_eq_true_eq]
    intro e
    exact this (by rw[c,e])
   rw[j]
   have c':decide (p.1=nm)=true:=by simpa using c
   rw[c']
   match b:g p,i with
   | [],_=>simp[b]
   | [a],_=>
    have:=d a (by rw[b];simp)
    simp[b,this,c]
  ·have c':decide (p.1=nm)=false:=by simpa using c
   rw[c']
   have:(g p).find? (λq=>decide (q.1=nm))=none:=by
    rw[eJ]
    intro q m
    rw[d q m,c'];simp
   rw[this];rfl
theorem Ay1 {v:Val}{s:Sch}(b:VOk v)(c:v.k=s.k)(a:v.k=5)(nm:ByteArray):(Bn v s).get nm=(v.get nm).bind λx=>if x.k=0 then none else(Eb s nm).map (Bn x):=by
 rw[Hi,if_pos c,if_neg (by omega),if_pos a]
 unfold iD
 rw[if_pos (show(Val.mk 5 0 Am [] (v.f.flatMap (Eg s))).k =5 from rfl),if_pos a]
 show((v.f.flatMap (Eg s)).find? λp=>decide (p.1=nm)).map (·.2)=_
 rw[Aia (Eg s) (λp q h=>N4 h) (Kj s) nm v.f b.strict]
 cases d:v.f.find? (λp=>decide (p.1=nm)) with
 | none=>rfl
 | some p=>
  have hp:p.1=nm:=by simpa using gI d
  simp only[aA,aP]
  unfold Eg
  split
  ·rfl
  ·rw[hp]
   cases Eb s nm<;>rfl
theorem Ni: ∀l:List (ByteArray × Val),Ck l->rising l=true
 | [],_=>rfl
 | [_],_=>rfl
 | p::q::r,h=>by
  have a:=bM.1 h
  simp only[rising,aG]
  exact⟨a.1 q (by simp),Ni (q::r) a.2⟩
theorem Amt (g:ByteArray × Val->List (ByteArray × Val))(a: ∀p,(g p).length <=1): ∀l:List (ByteArray × Val),(l.flatMap g).length <=l.length
 | []=>by simp
 | p::l=>by
  have:=a p
  have:=Amt g a l
  simp only[aT,aK,bP];omega
theorem Pc: ∀ (d:Nat) (v:Val) (s:Sch),B9 d v=true->B9 d (Bn v s)=true
 | 0,v,s,h=>by simp[B9]at h
 | d+1,v,s,h=>by
  have h':=(Cw d v).1 h
  have e:=Aqg _ _ h
  rw[Hi]
  split
  ·split
   ·split
    ·rename_i m _
     rw[Cw]
     refine⟨rfl,⟨by show(v.l.map _).length <=64;rw[aH];exact h'.2.1.1,by show(0:Nat)<=64;omega,λc=>absurd rfl c,λ_=>rfl⟩,λx b=>?_,λp hp=>by simp at hp,rfl⟩
     simp only[cX,aX]at b
     obtain⟨y,g,rfl⟩:=b
     exact Pc d y _ (h'.2.2.1 y g)
    ·exact h
   ·split
    ·rw[Cw]
     refine⟨rfl,⟨by show(0:Nat)<=64;omega,?_,λ_=>rfl,λc=>absurd rfl c⟩,λx b=>by simp at b,λp hp=>?_,?_⟩
     ·have:=Amt (Eg s) (Kj s) v.f
      show(v.f.flatMap (Eg s)).length <=64
      have:=h'.2.1.2.1
      omega
     ·simp only[dG,cM]at hp
      obtain⟨q,i,hp⟩:=hp
      have j:=N4 hp
      have a:=h'.2.2.2.1 q i
      rw[j]
      refine⟨a.1,?_⟩
      unfold Eg at hp
      split at hp
      ·simp at hp
      ·split at hp
       ·simp only[bU]at hp
        subst hp
        exact Pc d q.2 _ a.2
       ·simp at hp
     ·exact Ni _ (Q9 (Eg s) (λp q h=>N4 h) (Kj s) v.f e.strict)
    ·exact h
  ·exact h
theorem Arr: ∀ (v:Val) (s:Sch),(Bn v s).size <=v.size:=by
 refine eM λv a b s=>?_
 have e: ∀ (t:Sch) (l:List Val),(∀x∈l,∀s,(Bn x s).size <=x.size)->Cn (l.map λx=>Bn x t)<=Cn l:=by
  intro t l
  induction l with
  | nil=>intro _;simp[Cn]
  | cons x l c=>
   intro h
   have g:=h x (by simp) t
   have i:=c λy d=>h y (by simp[d])
   simp only[aI,Cn];omega
 have j: ∀ (l:List (ByteArray × Val)),(∀p∈l,∀s,(Bn p.2 s).size <=p.2.size)->Bz (l.flatMap (Eg s))<=Bz l:=by
  intro l
  induction l with
  | nil=>intro _;simp[Bz]
  | cons p l c=>
   intro h
   have i:=c λy d=>h y (by simp[d])
   have m:Bz (Eg s p)<=p.2.size:=by
    unfold Eg
    split
    ·simp[Bz]
    ·split
     ·next t _=>have g:=h p (by simp) t;simp only[Bz];omega
     ·simp[Bz]
   rw[aT,Nz]
   simp only[Bz];omega
 rw[Hi]
 split
 ·split
  ·split
   ·have:=e (s.it.headD Br) v.l a
    rw[gG,v.size_eq]
    simp only[cX,dG,Bz];omega
   ·exact aN _
  ·split
   ·have:=j v.f b
    rw[gG,v.size_eq]
    simp only[cX,dG,Cn];omega
   ·exact aN _
 ·exact aN _
theorem Ajl {v:Val}(s:Sch)(h:v.valid=true):(Bn v s).valid =true:=by
 rw[Gj]at h ⊢
 have:=Arr v s
 exact⟨Pc 12 v s h.1,by omega⟩
end Go.CT.Sch.D
namespace Go.CT.Sch
open Go.Proofs
def Awn (x:IV):Prop:= ∃t c,x= .agg [.str t,.int c]
theorem A1m (p:List Stp)(c:Int):Awn (Jb p c):=⟨_,_,rfl⟩
theorem Aw5: ∀ (v:Val) (s:Sch) (p:List Stp),∀x∈Jo v s p,Awn x:=by
 refine eM λv e g s p=>?_
 have sing: ∀ (q:List Stp) (c:Int),∀x∈ [Jb q c],Awn x:=λq c x b=>by simp at b;subst b;exact A1m q c
 have nil: ∀x∈([]:List IV),Awn x:=λx b=>by simp at b
 have i: ∀n,∀x∈Z1 p s n,Awn x:=λn=>by
  unfold Z1;split
  ·exact sing _ _
  ·exact nil
 have j: ∀ (l:List Val),(∀x∈l,∀s p,∀y∈Jo x s p,Awn y)-> ∀key t prev,∀y∈Ly l key t p prev,Awn y:=by
  intro l
  induction l with
  | nil=>intro _ key t prev y a;rw[Mn]at a;simp at a
  | cons x l m=>
   intro h key t prev y a
   rw[Il,cE,cE]at a
   rcases a with (a | a) | a
   ·exact h x (by simp) _ _ y a
   ·unfold Atq at a
    split at a
    ·exact sing _ _ y a
    ·simp at a
   ·exact m (λz o=>h z (by simp[o])) key t _ y a
 have r: ∀y∈Le v.f s p,Awn y:=by
  intro y a
  rw[Tu,cM]at a
  obtain⟨x,b,a⟩:=a
  unfold Ahl at a
  split at a
  ·exact sing _ _ y a
  ·split at a
   ·simp at a
   ·exact g x b _ _ y a
 have u: ∀y∈s.f.flatMap (Ke v p),Awn y:=by
  intro y a
  rw[cM]at a
  obtain⟨d,_,a⟩:=a
  unfold Ke at a
  split at a
  ·exact sing _ _ y a
  ·simp at a
 rw[Iv]
 split
 ·split
  ·exact i _
  ·split
   ·split
    ·exact sing _ _
    ·split
     ·exact sing _ _
     ·exact nil
   ·split
    ·intro x b
     rcases cE.1 b with b | b
     ·exact i _ x b
     ·exact j v.l e _ _ _ x b
    ·split
     ·intro x b
      rcases cE.1 b with b | b
      ·exact r x b
      ·exact u x b
     ·exact nil
 ·exact sing _ _
def chk (s:Sch)(v:Val):List IV:=if s.valid&&v.valid then Jo v s []else[.agg [.str Am,.int 1]]
theorem A1v (s:Sch)(v:Val)(b:s.Ap<=1048576)(c:v.Ap<=1048576):W F123 0 [s.enc,v.enc]=some [.list (chk s v)]:=by
 rw[A6q]
 unfold chk
 simp only[Pq s b,I2 v (by omega),bO,dK,aA,aS,Ax,An,dC,dH]
 cases a:s.valid with
 | false=>rfl
 | true=>
  cases v.valid with
  | false=>rfl
  | true=>simp[Ahh v c s (eG a) b]
theorem Aua (s:Sch)(v:Val)(b:s.Ap<=1048576)(c:v.Ap<=1048576):W F37 0 [s.enc,v.enc]=some [.list (chk s v)]:=by
 rw[Bco]
 unfold chk
 simp only[T8 s b,Tf v (by omega),bO,dK,aA,aS,Ax,An,dC,dH]
 cases a:s.valid with
 | false=>rfl
 | true=>
  cases v.valid with
  | false=>rfl
  | true=>
   have:=Aqt v c s (eG a) b [] (by simp) (by simp;omega)
   simp only[aL]at this
   simp[this]
end Go.CT.Sch
namespace Go.CT.Sch
open Go.Proofs
theorem Bcr (l:List SFld)(i:Nat)(a:i<l.length):fD 4 7 true false (.list (l.map bQ)) (.int i) l[i].s.enc =some (.list (l.map bQ)):=by
 have b:(l.map bQ)[i]?=some (bQ l[i]):=by rw[bE,aJ a];rfl
 have d:(l.map bQ).set i (bQ l[i])=l.map bQ:=by
  rw[<-gC,cV]
 unfold fD
 simp only[fM,aV,Zt,aU,b,aB,Zf]
 rw[l[i].s.Es]
 simp only[bQ]
 have c:l[i].s.E1.length =7:=rfl
 simp only[c,Zt]
 congr 2
theorem Bet (l:List SFld)(i:Nat)(a:i<l.length):fD 3 1 false false (.list (l.map bQ)) (.int i) (.list (l[i].df.map bK))=some (.list (l.map bQ)):=by
 have b:(l.map bQ)[i]?=some (bQ l[i]):=by rw[bE,aJ a];rfl
 have c:(l.map bQ).set i (bQ l[i])=l.map bQ:=by
  rw[<-gC,cV]
 unfold fD
 simp only[fM,aV,Zt,aU,b,aB,Zf]
 simp only[bQ]
 congr 2
theorem Sch.Da (s:Sch):IV.agg [.int s.k,.int s.mn,.int s.mx,.list (s.en.map .str),.str s.key,.list (s.it.map cU),.list (s.f.map bQ)]=s.enc:=by
 rw[s.Es,s.Bl]
theorem Xe {β:Type}{a b c d e g h:IV}{f:IV->IV->IV->IV->IV->IV->IV->Option β} :calls (some [a,b,c,d,e,g,h]) 7 f=f a b c d e g h:=rfl
theorem Bam {β:Type}{a b c d e g h i:IV}{f:IV->IV->IV->IV->IV->IV->IV->IV->Option β} :calls (some [a,b,c,d,e,g,h,i]) 8 f=f a b c d e g h i:=rfl
theorem Aal (s:Sch)(u:s.Ap<=1048576)(d e g j m o q r a b:IV)(t: ∀p∈s.f,W Bdv 0 [p.s.enc]=some p.s.E1): ∀ (n i:Nat),i+n=s.f.length->
  W Bdv 2 [.int s.f.length,.int i,d,e,g,j,m,o,q,r,.list (s.f.map bQ),a,b]=some [d,e,g,a,j,b,.list (s.f.map bQ)]
 | 0,i,h=>by
  rw[Ama]
  have w: ¬ i<s.f.length:=by omega
  simp only[dS,Aj,w,Ze,aA,aS,aB,Zf]
 | n+1,i,h=>by
  have c:i<s.f.length:=by omega
  have z:=s.Bc
  have x:=Bd (i:=i) (by omega)
  have y:=hZ (aF c)
  have:=Aal s u d e g j m o q r a b t n (i+1) (by omega)
  have hd:=Aex s.f[i].df (by omega)
  rw[dE]at hd
  rw[Ama]
  simp only[dS,Aj,c,Zd,aA,aS,Zt,fG,aV,aU,bE,aJ c,aP,eY,t _ (aF c),gF,Xe,dC,Sch.Da,Bcr s.f i c,SFld.Cc,hd,fN,cX,Bet s.f i c,eN,x,this]
theorem Ab8 (s:Sch)(u:s.Ap<=1048576)(e g j m o q r a b:IV)(t: ∀x∈s.it,W Bdv 0 [x.enc]=some x.E1): ∀ (n i:Nat),i+n=s.it.length->
  W Bdv 1 [.int s.it.length,.int i,e,g,j,m,.list (s.f.map bQ),o,q,r,a,.list (s.it.map cU),b]=W Bdv 2 [.int s.f.length,.int (0:Nat),e,g,j,m,o,q,r,a,.list (s.f.map bQ),b,.list (s.it.map cU)]
 | 0,i,h=>by
  rw[An4]
  have w: ¬ i<s.it.length:=by omega
  have A:=s.Bc
  have y:(s.f.map bQ).length <=1073741824:=by rw[aH];omega
  simp only[dS,Aj,w,Ze,aA,aS,aB,Zf,Beb,Dy y,bO,eZ,aH]
  rfl
 | n+1,i,h=>by
  have d:i<s.it.length:=by omega
  have B:=s.Rj
  have z:=Bd (i:=i) (by omega)
  have:=Ab8 s u e g j m o q r a b t n (i+1) (by omega)
  have c:fD 0 7 true true (.list (s.it.map cU)) (.int i) s.it[i].enc =some (.list (s.it.map cU)):=by
   rw[show(IV.list (s.it.map cU))=eH cU s.it from rfl,iB cU d,cV]
  rw[An4]
  simp only[dS,Aj,d,Zd,aA,aS,Zt,fG,aV,aU,bE,aJ d,aP,t _ (aF d),gF,Xe,dC,Sch.Da,c,eN,z,this]
theorem A01: ∀s:Sch,s.Ap<=1048576->W Bdv 0 [s.enc]=some s.E1:=by
 refine Sch.ind λs a b d=>?_
 have e:=Ab8 s d (.int s.k) (.int s.mn) (.int s.mx) (.str s.key) (.int 0) (.int 0) (.int 0) (.str ⟨#[]⟩) (.list (s.en.map .str)) (λx g=>a x g (by have:=fJ g;omega)) s.it.length 0 (by omega)
 have h:=Aal s d (.int s.k) (.int s.mn) (.int s.mx) (.str s.key) (.int 0) (.int 0) (.int 0) (.str ⟨#[]⟩) (.list (s.en.map .str)) (.list (s.it.map cU)) (λp hp=>b p hp (by have:=hZ hp;omega)) s.f.length 0 (by omega)
 rw[h]at e
 rw[A2w]
 have j:=s.Rj
 have m:=s.Ko
 have i:(s.it.map cU).length <=1073741824:=by rw[aH];omega
 have c:(s.en.map IV.str).length <=1073741824:=by rw[aH];omega
 simp only[eC,gZ,hJ,hQ,eF,dR,eO,aA,At9,Bfm,Dy i,Dy c,bO,eZ,aH]
 rw[gF]
 exact e
theorem Bbk (s:Sch)(x:Stp)(w:s.Ap<=1048576)(i:SB s):W F179 0 [s.enc,x.enc]=some [((Aej s x).getD Br).enc,.bool (Aej s x).isSome]:=by
 have a:=Adi s x.nm (by omega)
 have j:=Alr s
 rw[A46]
 simp only[Stp.Bs,Stp.Dj,aA,bN,aS,j,bO,Ax,An,dR,eF,eC,dC]
 unfold Aej
 by_cases k1:x.k=1
 ·simp only[k1,Zd,Zt]
  by_cases c:s.k=5
  ·simp only[c,Zd,bL,Zt]
   cases b:s.it with
   | nil=>
    rw[b]at a
    simp only[c,bB,and_self,Zd,bL,Zt]at a
    simp only[bB,Nat.lt_irrefl,Ze,aB,Zf,a,eP,eY,aA]
    unfold Eb
    rw[b]
    cases s.fld x.nm with
    | none=>rfl
    | some d=>rfl
   | cons t r=>
    simp[Eb,b]
  ·have q: ¬ (s.k=5/\s.it.length=0):=λh=>c h.1
   simp only[q,Ze,Zf,cO]at a
   simp only[c,Ze,cO,aB,Zf,a,eP,eY,aA]
   rfl
 ·simp only[k1,Ze,aB,Zf]
  by_cases m:s.k=4
  ·obtain⟨t,u⟩:=bH.1 (i.list m)
   simp only[m,Zd,Zt,gS,fY,aA,aS,Ax,An,u,aI,aL,fG,eA,dI,cB,fE,Dx]
   by_cases k2:x.k=2
   ·simp[k2]
   ·by_cases e:x.k=3
    ·by_cases g:s.key=Am
     ·simp[e,g];rfl
     ·by_cases o:s.key=x.nm
      ·simp[e,o]
       rw[o]at g
       simp[g]
      ·simp[e,g,o];rfl
    ·simp[k2,e];rfl
  ·simp only[m,Ze,aB,Zf]
   rfl
theorem A35 {s t:Sch}{x:Stp}(h:SB s)(a:Aej s x=some t):SB t:=by
 unfold Aej at a
 split at a
 ·split at a
  ·exact h.sub a
  ·cases a
 ·split at a
  ·split at a
   ·exact h.I3 (List.mem_of_mem_head? a)
   ·cases a
  ·cases a
def Bhh (o:Option Sch):List IV:=(o.getD Br).E1 ++ [.bool o.isSome]
theorem Axc (p:List Stp)(o:p.length<=1099511627776)(e g j m:IV): ∀ (n i:Nat) (s:Sch),i+n=p.length->s.Ap<=1048576->SB s->
  W F178 1 [.list (p.map bY),.int p.length,.int i,s.enc,e,g,j,m]=some (Bhh (atS s (p.drop i)))
 | 0,i,s,h,c,a=>by
  have q: ¬ i<p.length:=by omega
  rw[Aqd,bA (by omega)]
  simp only[dS,Aj,q,Ze,aA,aS,aB,Zf,A01 s c,gF,Xe,atS,Bhh,aQ,aZ]
  rfl
 | n+1,i,s,h,c,a=>by
  have d:i<p.length:=by omega
  have r:=Bd (i:=i) (by omega)
  rw[Aqd,aC d]
  simp only[dS,Aj,d,Zd,aA,aS,Zt,fG,aV,aU,bE,aJ d,aP,Bbk s p[i] c a,eP,dK,atS,eN,r]
  cases b:Aej s p[i]with
  | none=>rfl
  | some t=>
   have:=Axc p o e g j m n (i+1) t (by omega) (by have:=Art b;omega) (A35 a b)
   simp only[aZ,aR,aB,Zf,aQ,this,aA]
def atV (s:Sch)(p:List Stp):Option Sch:=if s.valid&&C6 p then atS s p else none
theorem Bih (s:Sch)(p:List Stp)(b:s.Ap<=1048576)(hp: ∀x∈p,x.fits)(c:p.length<=1099511627776):W F178 0 [s.enc,.list (p.map bY)]=some (Bhh (atV s p)):=by
 rw[A5w]
 unfold atV
 simp only[Pq s b,S5 p hp c,bO,dK,aA,aS,Ax,An,eZ,aH]
 cases a:s.valid with
 | false=>rfl
 | true=>
  cases C6 p with
  | false=>rfl
  | true=>
   have:=Axc p c (.int 0) (.int 0) (.int 0) (.str ⟨#[]⟩) p.length 0 s (by omega) b (eG a)
   simp only[aD,aE]at this
   simp only[aR,aB,Zf,this,cN,Zt]
end Go.CT.Sch
namespace Go.CT.Sch
open Go.Proofs
def H5:List ByteArray->Bool
 | []=>true
 | [_]=>true
 | a::b::l=>blt a b&&H5 (b::l)
theorem prv {i:Nat}(h:i<4611686018427387904):O.sub .i64 (.int ((i+1:Nat):Int)) (.int 1)=some (.int (i:Nat)):=by
 rw[O.Cz,wrap64 (by omega) (by omega)]
 congr 2
 omega
theorem Aq4 (l:List ByteArray)(d:l.length<=1099511627776): ∀ (n i:Nat),i+1+n=l.length->W F121 1 [.list (l.map .str),.int ((i+1:Nat):Int)]=some [.bool (H5 (l.drop i))]
 | 0,i,h=>by
  have a:i<l.length:=by omega
  have hd:l.drop i= [l[i]]:=by
   rw[aC a,dX (by omega)]
  have e:i+1=l.length:=by omega
  rw[Acq,Gi,hd]
  simp only[aA,e,ltn,aS,aB,Zf]
  rfl
 | n+1,i,h=>by
  have a:i<l.length:=by omega
  have b:i+1<l.length:=by omega
  have hd:l.drop i=l[i]::l[i+1]::l.drop (i+1+1):=by
   rw[aC a,aC b]
  have c:=Aq4 l d n (i+1) (by omega)
  rw[aC b]at c
  rw[Acq,Gi,hd]
  simp only[aA,lti b,aS,Zt,prv (i:=i) (by omega),Jq _ a,Jq _ b,Tp,nxt (i:=i+1) (by omega),c,H5]
  cases blt l[i] l[i+1]<;>simp
theorem A8d (l:List ByteArray)(b:l.length<=1099511627776):W F121 0 [.list (l.map .str)]=some [.bool (H5 l)]:=by
 rw[A2v]
 match l,b with
 | [],_=>rw[Acq];rfl
 | a::l,b=>
  have:=Aq4 (a::l) b l.length 0 (by simp[Nat.add_comm])
  simp only[dU,aE]at this
  exact this
def Kp (s:ByteArray):Bool:=decide (1<=s.size)&&decide (s.size<=40)
theorem Axl (s:ByteArray):W F120 0 [.str s]=some [.bool (Kp s)]:=by
 rw[A05]
 have a:O.ge (.int (s.size:Int)) (.int 1)=some (.bool (decide (1<=s.size))):=by rw[O.Gq];congr 2;exact decide_eq_decide.2 (by omega)
 have b:O.le (.int (s.size:Int)) (.int 40)=some (.bool (decide (s.size<=40))):=by rw[O.Ge];congr 2;exact decide_eq_decide.2 (by omega)
 simp only[iH,aA,a,aS,b,Kp]
 cases decide (1<=s.size)<;>simp
theorem Bf8 (s:ByteArray):W F41 0 [.str s]=some [.bool (Kp s)]:=by
 rw[Bcv]
 have a:O.ge (.int (s.size:Int)) (.int 1)=some (.bool (decide (1<=s.size))):=by rw[O.Gq];congr 2;exact decide_eq_decide.2 (by omega)
 have b:O.le (.int (s.size:Int)) (.int 40)=some (.bool (decide (s.size<=40))):=by rw[O.Ge];congr 2;exact decide_eq_decide.2 (by omega)
 simp only[iH,aA,a,aS,b,Kp]
 cases decide (1<=s.size)<;>simp
end Go.CT.Sch
namespace Go.CT.Sch
open Go.Proofs
def okM (m:Mgr):Bool:=Kp m.name&& !decide (m.paths.length=0)&&H5 m.paths
def Z8 (l:List Mgr):Bool:=l.all okM&&(decide (l.length<=16)&&H5 (l.map Mgr.name))
theorem Am0 (m:Mgr):fU 0 m.enc=some (.str m.name):=rfl
theorem Ass (m:Mgr):fU 1 m.enc=some (.list (m.paths.map .str)):=rfl
theorem eq0 (n:Nat):O.eq (.int (n:Int)) (.int 0)=some (.bool (decide (n=0))):=by rw[bN];congr 2;exact decide_eq_decide.2 (by omega)
theorem An7 (l:List Mgr)(d:l.length<=1048576)(hp: ∀m∈l,m.paths.length<=1099511627776): ∀ (n i:Nat) (acc:List ByteArray),i+n=l.length->acc.length=i->
  W F119 1 [.list (l.map Mgr.enc),.list (l.map Mgr.enc),.int (l.length:Nat),.int (i:Nat),.list (acc.map .str)]=some [.bool ((l.drop i).all okM&&(decide (l.length<=16)&&H5 (acc++(l.drop i).map Mgr.name)))]
 | 0,i,acc,h,c=>by
  have a:i=l.length:=by omega
  subst a
  have e:O.le (.int (l.length:Int)) (.int 16)=some (.bool (decide (l.length<=16))):=by rw[O.Ge];congr 2;exact decide_eq_decide.2 (by omega)
  rw[Amq]
  simp only[ltn,aA,aS,aB,Zf,Gi,e,A8d acc (by omega),bO,aM,dF,bL,aL,aO]
  cases decide (l.length<=16)<;>simp
 | n+1,i,acc,h,c=>by
  have a:i<l.length:=by omega
  have g:=An7 l d hp n (i+1) (acc++ [l[i].name]) (by omega) (by simp[c])
  have ap:=apm IV.str (n:=16) acc l[i].name (by omega)
  have b:=hp _ (aF a)
  rw[Amq,aC a]
  simp only[lti a,aA,aS,Zt,Jq _ a,Am0,Ass,Axl,bO,dK,Gi,eq0,A8d _ b,dH,ap,nxt (i:=i) (by omega),g,cZ,okM,aI,bI,bG]
  cases Kp l[i].name<;>cases decide (l[i].paths.length =0)<;>cases H5 l[i].paths<;>simp
theorem A7u (l:List Mgr)(a:l.length<=1048576)(hp: ∀m∈l,m.paths.length<=1099511627776):W F119 0 [.list (l.map Mgr.enc)]=some [.bool (Z8 l)]:=by
 have:=An7 l a hp l.length 0 [] (by omega) rfl
 simp only[aD,aE,bD,aL]at this
 rw[A50,Gi]
 exact this
theorem A8l (l:List Mgr)(i:Nat)(c:i<l.length)(g:l.length<=1048576)(hp:l[i].paths.length <=1099511627776): ∀ (n j:Nat),j+1+n=l[i].paths.length ->
  W F40 2 [.list (l.map Mgr.enc),.int (i:Nat),.int ((j+1:Nat):Int)]=if H5 (l[i].paths.drop j) then W F40 1 [.list (l.map Mgr.enc),.int ((i+1:Nat):Int)]else some [.bool false]
 | 0,j,h=>by
  have a:j<l[i].paths.length :=by omega
  have hd:l[i].paths.drop j= [l[i].paths[j]]:=by
   rw[aC a,dX (by omega)]
  have m:j+1=l[i].paths.length :=by omega
  rw[Axr,hd]
  simp only[Jq _ c,aA,Ass,Gi,m,ltn,aS,aB,Zf,nxt (i:=i) (by omega),H5,Zt]
 | n+1,j,h=>by
  have a:j<l[i].paths.length :=by omega
  have b:j+1<l[i].paths.length :=by omega
  have hd:l[i].paths.drop j=l[i].paths[j]::l[i].paths[j+1]::l[i].paths.drop (j+1+1):=by
   rw[aC a,aC b]
  have d:=A8l l i c g hp n (j+1) (by omega)
  rw[aC b]at d
  rw[Axr,hd]
  simp only[Jq _ c,aA,Ass,Gi,lti b,aS,Zt,prv (i:=j) (by omega),Jq _ a,Jq _ b,Tp,nxt (i:=j+1) (by omega),d,H5]
  by_cases e:blt l[i].paths[j] l[i].paths[j+1]=true
  ·simp[e,H5]
  ·simp[e]
theorem A74 (l:List Mgr)(j:l.length<=1048576)(hp: ∀m∈l,m.paths.length<=1099511627776): ∀ (n i:Nat),i+n=l.length->
  W F40 1 [.list (l.map Mgr.enc),.int (i:Nat)]=some [.bool ((l.drop i).all okM&&H5 ((l.drop (i - 1)).map Mgr.name))]
 | 0,i,h=>by
  have b:i=l.length:=by omega
  subst b
  have q:H5 ((l.drop (l.length - 1)).map Mgr.name)=true:=by
   by_cases a:l.length=0
   ·rw[cC.1 a];rfl
   ·rw[aC (by omega),dX (by omega)];rfl
  rw[Aw7]
  simp only[Gi,ltn,aA,aS,aB,Zf,q,aM,dF,bL]
 | n+1,i,h=>by
  have b:i<l.length:=by omega
  have r:=A74 l j hp n (i+1) (by omega)
  have c:=hp _ (aF b)
  have d:l[i].paths.length ≠0->W F40 2 [.list (l.map Mgr.enc),.int (i:Nat),.int 1]=if H5 l[i].paths then some [.bool ((l.drop (i+1)).all okM&&H5 ((l.drop i).map Mgr.name))]else some [.bool false]:=by
   intro a
   have:=A8l l i b j c (l[i].paths.length - 1) 0 (by omega)
   rw[r]at this
   simpa only[dU,fW,aE,aD]using this
  rw[Aw7,aC b]
  simp only[Gi,lti b,aA,aS,Zt,Jq _ b,Am0,Ass,Bf8,bO,dK,eq0,cZ,okM]
  cases i with
  | zero=>
   have g:gX (.int ((0:Nat):Int)) (.int 0)=some (.bool false):=rfl
   simp only[g,aA,aS,aB,Zf]
   rw[show l.drop (0 - 1)=l.drop 0 from rfl]
   cases Kp l[0].name
   ·simp
   ·by_cases a:l[0].paths.length =0
    ·simp[a]
    ·simp only[a,Ze,d a]
     cases H5 l[0].paths<;>simp
  | succ k=>
   have o:k<l.length:=by omega
   have g:gX (.int ((k+1:Nat):Int)) (.int 0)=some (.bool true):=by rw[fX];congr 2;exact decide_eq_true (by omega)
   have hd:(l.drop (k+1 - 1)).map Mgr.name=l[k].name ::(l.drop (k+1)).map Mgr.name:=by
    rw[fW,aC o,aI]
   have e:(l.drop (k+1)).map Mgr.name=l[k+1].name ::(l.drop (k+1+1)).map Mgr.name:=by
    rw[aC b,aI]
   simp only[g,aA,aS,Zt,prv (i:=k) (by omega),Jq _ o,Am0,Tp,hd]
   rw[e]at d ⊢
   simp only[H5]
   cases Kp l[k+1].name
   ·simp
   ·cases blt l[k].name l[k+1].name
    ·simp
    ·by_cases a:l[k+1].paths.length =0
     ·simp[a]
     ·simp only[a,Ze,d a]
      cases H5 l[k+1].paths<;>simp
theorem Bit (l:List Mgr)(a:l.length<=1048576)(hp: ∀m∈l,m.paths.length<=1099511627776):W F40 0 [.list (l.map Mgr.enc)]=some [.bool (Z8 l)]:=by
 have:=A74 l a hp l.length 0 (by omega)
 simp only[aD,aE,Nat.zero_sub]at this
 have g:gX (.int (l.length:Int)) (.int 16)=some (.bool (!decide (l.length<=16))):=by
  rw[fX];congr 2
  by_cases h:l.length<=16
  ·simp only[h,Zd,aR];exact decide_eq_false (by omega)
  ·simp only[h,Ze,bJ];exact decide_eq_true (by omega)
 rw[Bcz,Gi]
 simp only[aA,g,aS,this,Z8]
 cases decide (l.length<=16)<;>simp
end Go.CT.Sch
namespace Go.CT.Sch
open Go.Proofs
theorem Aqy (s:Sch)(v:Val)(a:v.Ap<=1048576):W F125 0 [s.enc,v.enc]=some [.str (Dq v s.key),.bool (isKey v s.key)]:=by
 rw[A03]
 unfold Dq isKey
 simp only[eF,Aan v s.key (by omega),I9,Jj,aS,bN,aA,Ax,An]
 cases(v.get s.key).isSome<;>simp
def Ig (s:Sch):Bool:=decide (s.k=4)&& !decide (s.key=Am)
theorem Adq (s:Sch):W F126 0 [s.enc]=some [.bool (Ig s)]:=by
 rw[A6x]
 simp only[eC,eF,aA,bN,gS,aS,Ax,An,Ig]
 by_cases h:s.k=4<;>simp[h,Am]
 all_goals rfl
theorem Aai (s:Sch)(nm:ByteArray)(g:s.Ap<=1048576)(a b c d:IV): ∀ (n i:Nat),i+n=s.f.length->
  W F127 1 [.str nm,.list (s.f.map bQ),.int (s.f.length:Nat),.int (i:Nat),a,b,c,d]=some [oE (((s.f.drop i).find? λp=>decide (p.nm=nm)).map (·.s)),.bool ((s.f.drop i).find? λp=>decide (p.nm=nm)).isSome]
 | 0,i,h=>by
  have e:i=s.f.length:=by omega
  subst e
  rw[Ann,aM]
  simp only[ltn,aA,aS,aB,Zf]
  rfl
 | n+1,i,h=>by
  have e:i<s.f.length:=by omega
  have m:s.f.length<=1048576:=by have:=s.Bc;omega
  have j:=Aai s nm g a b c d n (i+1) (by omega)
  rw[Ann,aC e,bV]
  simp only[lti e,aA,aS,Zt,Jq bQ e,gN,fY,eY,nxt (show i<4611686018427387904 by omega),j]
  by_cases c:s.f[i].nm =nm
  ·simp[c,oE]
  ·have c':decide (s.f[i].nm =nm)=false:=by simpa using c
   simp only[c',aB,Zf]
theorem Aqq (s:Sch)(nm:ByteArray)(d:s.Ap<=1048576)(a:SB s):W F127 0 [s.enc,.str nm]=some [oE (Eb s nm),.bool (Eb s nm).isSome]:=by
 have b:=a.one
 have:=Aai s nm d (.int 0) (.int 0) (.int 0) (.str ⟨#[]⟩) s.f.length 0 (by omega)
 simp only[aE,aD]at this
 rw[A6i]
 simp only[dR,eO,aA,Gi,bN,aS]
 unfold Eb
 cases c:s.it with
 | nil=>
  have e:decide (((([]:List Sch).length :Nat):Int)=1)=false:=by decide
  simp only[e,aB,Zf,gA]
  exact this
 | cons t ts=>
  have g:ts= []:=by rw[c]at b;simp at b;exact b
  subst g
  simp[oE]
end Go.CT.Sch
namespace Go.CT.Sch
open Go.Proofs
theorem Aly {s t:Sch}{nm:ByteArray}(h:Eb s nm=some t):t.Ap<s.Ap:=by
 rcases Mx h with h | ⟨p,hp,_,rfl⟩
 ·exact fJ h
 ·have:=hZ hp;omega
def Ak7 (s:Sch)(x:Val):Bool:= !Ig s||isKey x s.key
def kyB:Nat->Sch->Val->Bool
 | 0,_,_=>true
 | d+1,s,v=>if s.k=v.k then(v.l.all λx=>Ak7 s x&&((s.it.head?).map λt=>kyB d t x).getD true)&&(v.f.all λp=>((Eb s p.1).map λt=>kyB d t p.2).getD true) else true
def KyP (d:Nat):Prop:= ∀ (v:Val) (s:Sch),v.size<=d->v.Ap<=1048576->s.Ap<=1048576->SB s->W Bg7 0 [s.enc,v.enc]=some [.bool (kyB d s v)]
theorem Auc (d:Nat)(e:KyP d)(v:Val)(s:Sch)(hd:v.size<=d+1)(m:v.Ap<=1048576)(g:s.Ap<=1048576)(c:SB s): ∀ (n i:Nat),i+n=v.f.length->
  W Bg7 2 [.list (v.f.map aW),.int (v.f.length:Nat),.int (i:Nat),s.enc]=some [.bool ((v.f.drop i).all λp=>((Eb s p.1).map λt=>kyB d t p.2).getD true)]
 | 0,i,h=>by
  have:i=v.f.length:=by omega
  subst this
  rw[Aoa,aM]
  simp only[ltn,aA,aS,aB,Zf,dF]
 | n+1,i,h=>by
  have b:i<v.f.length:=by omega
  have o:=v.Bc
  have j:=aF b
  have u:=fQ j
  have w:=gP j
  have r:=Auc d e v s hd m g c n (i+1) (by omega)
  rw[Aoa,aC b,cZ]
  simp only[lti b,aA,aS,Zt,Jq aW b,fR,Aqq s _ g c,eP,fK,nxt (show i<4611686018427387904 by omega),r]
  cases a:Eb s v.f[i].1 with
  | none=>simp
  | some t=>
   have:=Aly a
   have q:=e v.f[i].2 t (by omega) (by omega) (by omega) (c.sub a)
   simp only[aZ,Zt,oE,aQ,q,bO,dK,aA,aP,aS]
   cases kyB d t v.f[i].2<;>simp
theorem Azr (d:Nat)(e:KyP d)(v:Val)(s:Sch)(hd:v.size<=d+1)(g:v.Ap<=1048576)(j:s.Ap<=1048576)(b:SB s): ∀ (n i:Nat),i+n=v.l.length->
  W Bg7 1 [.list (v.l.map bK),.int (v.l.length:Nat),.int (i:Nat),s.enc,v.enc]=some [.bool (((v.l.drop i).all λx=>Ak7 s x&&((s.it.head?).map λt=>kyB d t x).getD true)&&(v.f.all λp=>((Eb s p.1).map λt=>kyB d t p.2).getD true))]
 | 0,i,h=>by
  have:i=v.l.length:=by omega
  subst this
  have q:=Auc d e v s hd g j b v.f.length 0 (by omega)
  simp only[aD,aE]at q
  rw[Amy,aM]
  simp only[ltn,aA,aS,aB,Zf,dF,cR,Gi,q,bL]
 | n+1,i,h=>by
  have c:i<v.l.length:=by omega
  have y:=v.Bx
  have m:=aF c
  have z:=dQ m
  have A:=gQ m
  have r:=Azr d e v s hd g j b n (i+1) (by omega)
  have one:=b.one
  rw[Amy,aC c,cZ]
  simp only[lti c,aA,aS,Zt,Jq bK c,Aqy s _ (show v.l[i].Ap <=1048576 by omega),eP,Adq,bO,dK,dR,Gi,bN,nxt (show i<4611686018427387904 by omega),r,Ak7]
  cases a:s.it with
  | nil=>
   cases Ig s<;>cases isKey v.l[i] s.key<;>simp
  | cons t ts=>
   have u:ts= []:=by rw[a]at one;simp at one;exact one
   subst u
   have o:t∈s.it:=by rw[a];exact bU.2 rfl
   have:=fJ o
   have q:=e v.l[i] t (by omega) (by omega) (by omega) (b.I3 o)
   have ix:gO (.list ([t].map cU)) (.int 0)=some t.enc:=rfl
   have w:decide ((([t].length :Nat):Int)=1)=true:=rfl
   simp only[w,Zt,ix,aA,q,bO,dK,fE,aP,aQ]
   cases Ig s<;>cases isKey v.l[i] s.key<;>cases kyB d t v.l[i]<;>simp
theorem Be4: ∀d,KyP d
 | 0=>λv _ h=>by have:=v.size_pos;omega
 | d+1=>λv s hd a b c=>by
  have q:=Azr d (Be4 d) v s hd a b c v.l.length 0 (by omega)
  simp only[aD,aE]at q
  rw[A0l]
  simp only[eC,cY,aA,eK,aS,cH,Gi,q,kyB]
  by_cases h:s.k=v.k<;>simp[h]
end Go.CT.Sch
namespace Go.CT.Sch
open Go.Proofs
inductive VT:Val->Prop
 | mk (v:Val):(v.k≠4->v.l= [])->(v.k≠5->v.f= [])->(∀x∈v.l,VT x)->(∀p∈v.f,VT p.2)->VT v
theorem VT.nol {v:Val}(h:VT v):v.k≠4->v.l= []:=by cases h;assumption
theorem VT.nof {v:Val}(h:VT v):v.k≠5->v.f= []:=by cases h;assumption
theorem VT.Nv {v x:Val}(h:VT v)(a:x∈v.l):VT x:=by cases h with | mk _ c d b e=>exact b x a
theorem VT.Ks {v:Val}{p:ByteArray × Val}(h:VT v)(a:p∈v.f):VT p.2:=by cases h with | mk _ c d e b=>exact b p a
theorem Abi (s:Sch)(nm:ByteArray)(a b c d:IV): ∀ (n i:Nat),i+n=s.f.length->s.Ap<=1048576->
  W F39 1 [.str nm,.int (i:Nat),s.enc,a,b,c,d]=some [oE (((s.f.drop i).find? λp=>decide (p.nm=nm)).map (·.s))]
 | 0,i,h,g=>by
  have e:i=s.f.length:=by omega
  subst e
  rw[Ayk,aM]
  simp only[eO,Gi,ltn,aA,aS,aB,Zf]
  rfl
 | n+1,i,h,g=>by
  have e:i<s.f.length:=by omega
  have m:=s.Bc
  have j:=Abi s nm a b c d n (i+1) (by omega) g
  rw[Ayk,aC e,bV]
  simp only[eO,Gi,lti e,aA,aS,Zt,Jq bQ e,gN,fY,eY,nxt (show i<4611686018427387904 by omega),j]
  by_cases c:s.f[i].nm =nm
  ·simp[c,oE]
  ·have c':decide (s.f[i].nm =nm)=false:=by simpa using c
   simp only[c',aB,Zf]
theorem A2p (s:Sch)(nm:ByteArray)(b:s.Ap<=1048576):W F39 0 [s.enc,.str nm]=some [oE (Eb s nm)]:=by
 have:=Abi s nm (.int 0) (.int 0) (.int 0) (.str ⟨#[]⟩) s.f.length 0 (by omega) b
 simp only[aE,aD]at this
 rw[Bce]
 simp only[dR,aA,Gi,fX,aS]
 unfold Eb
 cases c:s.it with
 | nil=>
  have a:decide ((0:Int)<((([]:List Sch).length :Nat):Int))=false:=by decide
  simp only[a,aB,Zf]
  exact this
 | cons t ts=>
  have a:decide ((0:Int)<((((t::ts):List Sch).length :Nat):Int))=true:=decide_eq_true (by simp only[bP];omega)
  simp only[a,Zt]
  rfl
def KyR (d:Nat):Prop:= ∀ (v:Val) (s:Sch),v.size<=d->v.Ap<=1048576->s.Ap<=1048576->SB s->VT v->W F38 0 [s.enc,v.enc]=some [.bool (kyB d s v)]
theorem Ash (v:Val)(a:VT v):W F38 0 [Br.enc,v.enc]=some [.bool true]:=by
 rw[Awr]
 simp only[eC,cY,aA,eK,aS]
 by_cases h:Br.k=v.k
 ·have d:v.k=0:=h.symm
  have b:=a.nol (by omega)
  have c:=a.nof (by omega)
  simp only[h,Zd,aR,aB,Zf]
  rw[Ak1]
  simp only[cH,b,aA]
  rw[Aj9]
  simp only[cR,c]
  rfl
 ·simp[h]
theorem Azb (d:Nat)(e:KyR d)(v:Val)(s:Sch)(hd:v.size<=d+1)(u:v.Ap<=1048576)(g:s.Ap<=1048576)(j:SB s)(m:VT v): ∀ (n i:Nat),i+n=v.f.length->
  W F38 2 [.int (i:Nat),s.enc,v.enc]=some [.bool ((v.f.drop i).all λp=>((Eb s p.1).map λt=>kyB d t p.2).getD true)]
 | 0,i,h=>by
  have:i=v.f.length:=by omega
  subst this
  rw[Aj9,aM]
  simp only[cR,Gi,ltn,aA,aS,aB,Zf,dF]
 | n+1,i,h=>by
  have b:i<v.f.length:=by omega
  have w:=v.Bc
  have c:=aF b
  have x:=fQ c
  have y:=gP c
  have o:=m.Ks c
  have r:=Azb d e v s hd u g j m n (i+1) (by omega)
  rw[Aj9,aC b,cZ]
  simp only[cR,Gi,lti b,aA,aS,Zt,Jq aW b,fR,A2p s _ g,bO,fK,nxt (show i<4611686018427387904 by omega),r]
  cases a:Eb s v.f[i].1 with
  | none=>
   simp only[oE,dB,Ash _ o,bO,dK,aA,aS,dP]
   simp
  | some t=>
   have:=Aly a
   have q:=e v.f[i].2 t (by omega) (by omega) (by omega) (j.sub a) o
   simp only[oE,aQ,q,bO,dK,aA,aP,aS]
   cases kyB d t v.f[i].2<;>simp
theorem Aw1 (d:Nat)(o:KyR d)(v:Val)(s:Sch)(hd:v.size<=d+1)(w:v.Ap<=1048576)(y:s.Ap<=1048576)(j:SB s)(m:VT v)(z:s.k=v.k): ∀ (n i:Nat),i+n=v.l.length->
  W F38 1 [.int (i:Nat),s.enc,v.enc]=some [.bool (((v.l.drop i).all λx=>Ak7 s x&&((s.it.head?).map λt=>kyB d t x).getD true)&&(v.f.all λp=>((Eb s p.1).map λt=>kyB d t p.2).getD true))]
 | 0,i,h=>by
  have:i=v.l.length:=by omega
  subst this
  have q:=Azb d o v s hd w y j m v.f.length 0 (by omega)
  simp only[aD,aE]at q
  rw[Ak1,aM]
  simp only[cH,Gi,ltn,aA,aS,aB,Zf,dF,q,bL]
 | n+1,i,h=>by
  have b:i<v.l.length:=by omega
  have F:=v.Bx
  have u:=aF b
  have G:=dQ u
  have H:=gQ u
  have B:=m.Nv u
  have r:=Aw1 d o v s hd w y j m z n (i+1) (by omega)
  have A:s.k=4:=by
   rw[z]
   by_cases c:v.k=4
   ·exact c
   ·rw[m.nol c]at b;simp at b
  have one:=j.list A
  obtain⟨t,e⟩: ∃t,s.it= [t]:=bH.1 one
  have g:t∈s.it:=by rw[e];exact bU.2 rfl
  have:=fJ g
  have q:=o v.l[i] t (by omega) (by omega) (by omega) (j.I3 g) B
  have ix:gO (.list ([t].map cU)) (.int 0)=some t.enc:=rfl
  rw[Ak1,aC b,cZ]
  simp only[cH,Gi,lti b,aA,aS,Zt,Jq bK b,eF,Md _ _ (show v.l[i].Ap <=1048576 by omega),eP,gS,bO,dK,dR,e,ix,q,nxt (show i<4611686018427387904 by omega),r,Ak7,Ig,A,Gb,Zd,bL,fE,aP,aQ]
  by_cases a:s.key=Am
  ·have:s.key=(⟨#[]⟩:ByteArray):=a
   simp only[a,this,Zd]
   have C:Am=(⟨#[]⟩:ByteArray):=rfl
   cases isKey v.l[i] Am<;>cases kyB d t v.l[i]<;>simp[C]
  ·have: ¬ s.key=(⟨#[]⟩:ByteArray):=a
   simp only[a,this,Ze]
   cases isKey v.l[i] s.key<;>cases kyB d t v.l[i]<;>simp
theorem Bfj: ∀d,KyR d
 | 0=>λv _ h=>by have:=v.size_pos;omega
 | d+1=>λv s hd a b c e=>by
  rw[Awr]
  simp only[eC,cY,aA,eK,aS,kyB]
  by_cases h:s.k=v.k
  ·have q:=Aw1 d (Bfj d) v s hd a b c e h v.l.length 0 (by omega)
   simp only[aD,aE]at q
   simp only[q,h,Zd,aR,aB,Zf,Zt]
  ·simp[h]
theorem Adx: ∀ (n:Nat) (v:Val),v.size<=n->v.valid=true->VT v
 | 0,v,h,_=>by have:=v.size_pos;omega
 | n+1,v,h,a=>by
  refine .mk v (λb=>Oo a b) (λb=>Ps a b) (λx c=>?_) λp hp=>?_
  ·have:=gQ c
   exact Adx n x (by omega) (Eu a c)
  ·have:=gP hp
   exact Adx n p.2 (by omega) (Gl a hp).1
end Go.CT.Sch
namespace Go.CT.Sch
open Go.Proofs
def Vn:IV->Bool
 | .agg [_,.int c]=>decide (c=7)
 | _=>false
def Mu (s:Sch)(v:Val):Bool:=s.valid&&(v.valid&&(decide (v.k=5)&&((Jo v s []).all Vn&&kyB v.size s v)))
theorem idxr {e:List IV}{i:Nat}(h:i<e.length):gO (.list e) (.int i)=some e[i]:=by
 have:=Jq (λx:IV=>x) h
 simpa only[List.map_id']using this
theorem Azo (s:Sch)(v:Val)(e:List IV)(m:e.length<=2199025352704)(d: ∀x∈e,Awn x)(r:Bool)(g:W Bg7 0 [s.enc,v.enc]=some [.bool r]): ∀ (n i:Nat),i+n=e.length->
  W F122 1 [.int (e.length:Nat),.int (i:Nat),s.enc,v.enc,.list e]=some [.bool ((e.drop i).all Vn&&(decide (v.k=5)&&r))]
 | 0,i,h=>by
  have:i=e.length:=by omega
  subst this
  rw[V7,aM]
  simp only[ltn,aA,aS,aB,Zf,cY,bN,g,bO,dF,bL]
  cases decide (v.k=5)<;>simp
 | n+1,i,h=>by
  have c:i<e.length:=by omega
  have o:=Azo s v e m d r g n (i+1) (by omega)
  obtain⟨a,b,j⟩:=d _ (aF c)
  have q:fU 1 e[i]=some (.int b):=by rw[j];rfl
  have t:Vn e[i]=decide (b=7):=by rw[j];rfl
  rw[V7,aC c,cZ,t]
  simp only[lti c,aA,aS,Zt,idxr c,q,eK,nxt (show i<4611686018427387904 by omega),o]
  cases decide (b=7)<;>simp
theorem A4g (s:Sch)(v:Val)(b:s.Ap<=1048576)(c:v.Ap<=1048576):W F122 0 [s.enc,v.enc]=some [.bool (Mu s v)]:=by
 rw[A5v,A1v s v b c]
 simp only[bO,eZ,aA]
 unfold chk Mu
 by_cases a:s.valid=true
 ·by_cases d:v.valid=true
  ·have e:SB s:=Hg _ s a
   have g:=Be4 v.size v s (aN _) c b e
   have:=Azo s v (Jo v s []) (Agu e b c) (Aw5 v s []) _ g (Jo v s []).length 0 (by omega)
   simp only[aD,aE]at this
   simp only[a,d,cN,Zt,this,bL]
   cases decide (v.k=5)<;>cases(Jo v s []).all Vn<;>simp
  ·simp only[a,d,dY,aB,Zf,cO]
   rw[V7];rfl
 ·simp only[a,cO,aB,Zf]
  rw[V7];rfl
theorem Awh (s:Sch)(v:Val)(e:List IV)(m:e.length<=2199025352704)(d: ∀x∈e,Awn x)(r:Bool)(g:W F38 0 [s.enc,v.enc]=some [.bool r]): ∀ (n i:Nat),i+n=e.length->
  W F5 1 [.int (i:Nat),s.enc,v.enc,.list e]=some [.bool ((e.drop i).all Vn&&r)]
 | 0,i,h=>by
  have:i=e.length:=by omega
  subst this
  rw[A8k,aM]
  simp only[eZ,ltn,aA,aS,aB,Zf,g,bO,dF,bL]
 | n+1,i,h=>by
  have c:i<e.length:=by omega
  have o:=Awh s v e m d r g n (i+1) (by omega)
  obtain⟨a,b,j⟩:=d _ (aF c)
  have q:fU 1 e[i]=some (.int b):=by rw[j];rfl
  have t:Vn e[i]=decide (b=7):=by rw[j];rfl
  rw[A8k,aC c,cZ,t]
  simp only[eZ,lti c,aA,aS,Zt,idxr c,q,eK,nxt (show i<4611686018427387904 by omega),o]
  cases decide (b=7)<;>simp
theorem Bim (s:Sch)(v:Val)(a:s.Ap<=1048576)(c:v.Ap<=1048576):W F5 0 [s.enc,v.enc]=some [.bool (Mu s v)]:=by
 rw[Bec]
 simp only[cY,eK,aA,aS,T8 s a,Tf v (by omega),Aua s v a c,bO,dK,Ax,An]
 unfold chk Mu
 by_cases b:s.valid=true
 ·by_cases d:v.valid=true
  ·have g:SB s:=Hg _ s b
   have h:=Bfj v.size v s (aN _) c a g (Adx _ v (aN _) d)
   have:=Awh s v (Jo v s []) (Agu g a c) (Aw5 v s []) _ h (Jo v s []).length 0 (by omega)
   simp only[aD,aE]at this
   simp only[b,d,cN,Zt,this,bL]
   cases decide (v.k=5)<;>simp
  ·by_cases e:v.k=5<;>simp[b,d,e]
 ·by_cases e:v.k=5<;>simp[b,e]
end Go.CT.Sch
namespace Go.CT.Sch
open Go.Proofs
def Hk (l:List Mgr)(nm:ByteArray):List ByteArray:=((l.find? λm=>decide (m.name=nm)).map Mgr.paths).getD []
theorem Bbt (m:Mgr):fU 1 m.enc=some (SL m.paths):=rfl
theorem Ane (l:List Mgr)(nm:ByteArray)(d:l.length<=1048576)(hp: ∀m∈l,m.paths≠ []): ∀ (n i:Nat),i+n=l.length->
  W F184 1 [.str nm,.list (l.map Mgr.enc),.int (l.length:Nat),.int (i:Nat)]=some [SL (Hk (l.drop i) nm)]
 | 0,i,h=>by
  have:i=l.length:=by omega
  subst this
  rw[Ang,aM]
  simp only[ltn,aA,aS,aB,Zf]
  rfl
 | n+1,i,h=>by
  have a:i<l.length:=by omega
  have b:=Ane l nm d hp n (i+1) (by omega)
  have e:0<l[i].paths.length :=dL.2 (hp _ (aF a))
  have ix:=Jq IV.str e
  simp only[aD]at ix
  unfold Hk at b ⊢
  rw[Ang,aC a,bV]
  simp only[lti a,aA,aS,Zt,Jq Mgr.enc a,Am0,Ass,fY,ix,nxt (show i<4611686018427387904 by omega),b]
  by_cases c:l[i].name =nm
  ·simp only[c,Zd,Zt,aP,aQ];rfl
  ·have c':decide (l[i].name =nm)=false:=by simpa using c
   simp only[c',aB,Zf]
theorem A8i (l:List Mgr)(nm:ByteArray)(a:l.length<=1048576)(hp: ∀m∈l,m.paths≠ []):W F184 0 [.list (l.map Mgr.enc),.str nm]=some [SL (Hk l nm)]:=by
 have:=Ane l nm a hp l.length 0 (by omega)
 simp only[aD,aE]at this
 rw[A1t,Gi]
 exact this
def Arz (nm:ByteArray):List Mgr->List ByteArray->List ByteArray
 | [],a=>a
 | m::l,a=>Arz nm l (if m.name=nm then a else Wb (a++m.paths))
def Aek:List Mgr->Nat
 | []=>0
 | m::l=>m.paths.length+Aek l
theorem Wy (l:List Mgr)(nm:ByteArray)(d:l.length<=1048576): ∀ (n i:Nat) (a:List ByteArray),i+n=l.length->a.length+Aek (l.drop i)<=1048576->
  W F185 1 [.str nm,.list (l.map Mgr.enc),.int (l.length:Nat),.int (i:Nat),SL a]=some [SL (Arz nm (l.drop i) a)]
 | 0,i,a,h,e=>by
  have:i=l.length:=by omega
  subst this
  rw[An3,aM]
  simp only[ltn,aA,aS,aB,Zf,Arz]
 | n+1,i,a,h,e=>by
  have b:i<l.length:=by omega
  rw[aC b,Aek]at e
  have g:=Nw (a++l[i].paths)
  rw[aK]at g
  have i1:=Wy l nm d n (i+1) a (by omega) (by omega)
  have i2:=Wy l nm d n (i+1) (Wb (a++l[i].paths)) (by omega) (by omega)
  rw[An3,aC b,Arz]
  simp only[lti b,aA,aS,Zt,Jq Mgr.enc b,Am0,Bbt,gS,A7e a _ (by omega) (show l[i].paths.length <=1048576 by omega),bO]
  rw[Amf,Amf]
  simp only[nxt (show i<4611686018427387904 by omega),aA,i1,i2]
  by_cases c:l[i].name =nm<;>simp[c]
theorem Bc4 (l:List Mgr)(nm:ByteArray)(a:l.length<=1048576)(b:Aek l<=1048576):W F185 0 [.list (l.map Mgr.enc),.str nm]=some [SL (Arz nm l [])]:=by
 have:=Wy l nm a l.length 0 [] (by omega) (by simpa using b)
 simp only[aD,aE]at this
 rw[A0e,Gi]
 exact this
end Go.CT.Sch
namespace Go.CT.Sch
open Go.Proofs
def As (s:Sch)(v:Val):List ByteArray:=(Hv s v).filter λx=> !decide (x=Am)
theorem Acd (s:Sch)(v:Val):SS (Hv s v):=by
 unfold Hv
 split
 ·exact Akq _
 ·exact bT
theorem Awt {l:List ByteArray}(h:SS l):Wb l=l:=SS.ext (Akq l) h λ_=>Pu
theorem Adz (s:Sch)(v:Val):Hy (Hv s v) [Am]=As s v:=by
 unfold Hy As
 rw[Awt (Acd s v)]
 congr 1
 funext x
 simp[inB]
theorem Sr (s:Sch)(v:Val)(a:s.Ap<=1048576)(b:v.Ap<=1048576):W F133 0 [s.enc,v.enc]=some [SL (As s v)]:=by
 have c:=Qx s v
 have d:=v.E9
 have e:(IV.list [.str ⟨#[]⟩])=SL [Am]:=rfl
 rw[A4a,Awe s v a b]
 simp only[bO,dH,aA,e,Ag5 (Hv s v) [Am] (by omega) (by decide),Adz]
theorem Qw (l:List ByteArray)(d:l.length<=1048576): ∀ (n i:Nat) (a:List ByteArray),i+n=l.length->a.length<=i->
  W F217 1 [.int (i:Nat),SL l,SL a]=some [SL (a++(l.drop i).filter λx=> !decide (x=Am))]
 | 0,i,a,h,e=>by
  have:i=l.length:=by omega
  subst this
  rw[Ant,fA,aM]
  simp only[ltn,aA,aS,aB,Zf,cF,aO]
 | n+1,i,a,h,e=>by
  have b:i<l.length:=by omega
  have i1:=Qw l d n (i+1) a (by omega) (by omega)
  have i2:=Qw l d n (i+1) (a++ [l[i]]) (by omega) (by simp;omega)
  have g:=gB IV.str (aJ b)
  have ap:dN 16 (SL a) (.list [.str l[i]])=some (SL (a++ [l[i]])):=apm IV.str a l[i] (by omega)
  have j:Am=(⟨#[]⟩:ByteArray):=rfl
  rw[Ant,fA,aC b,aY]
  simp only[lti b,aA,aS,Zt,g,gS,dH,ap]
  rw[Aoj,Aoj]
  simp only[nxt (show i<4611686018427387904 by omega),aA,i1,i2,j]
  by_cases c:l[i]=(⟨#[]⟩:ByteArray)<;>simp[c]
theorem Af8 (s:Sch)(v:Val)(a:s.Ap<=1048576)(b:v.Ap<=1048576):W F217 0 [s.enc,v.enc]=some [SL (As s v)]:=by
 have c:=Qx s v
 have d:=v.E9
 have:=Qw (Hv s v) (by omega) (Hv s v).length 0 [] (by omega) (by simp)
 simp only[aD,aE,bD]at this
 rw[A0r,Azd s v a b]
 simp only[bO]
 exact this
end Go.CT.Sch
namespace Go.CT.Sch
open Go.Proofs
def Ef (p:ByteArray)(l:List Mgr):List ByteArray:=(l.filter λm=>inB m.paths p).map Mgr.name
theorem Bhi (l:List ByteArray)(x:ByteArray):(l.any λe=>decide (e=x))=inB l x:=by
 unfold inB
 congr 1
 funext e
 exact decide_eq_decide.2 eq_comm
theorem Xz (l:List Mgr)(p:ByteArray)(c:l.length<=1048576)(hp: ∀m∈l,m.paths.length<=1048576): ∀ (n i:Nat) (a:List ByteArray),i+n=l.length->a.length<=i->
  W Bhl 1 [.str p,.list (l.map Mgr.enc),.int (l.length:Nat),.int (i:Nat),SL a]=some [SL (a++Ef p (l.drop i))]
 | 0,i,a,h,d=>by
  have:i=l.length:=by omega
  subst this
  rw[Aqo,aM]
  simp only[ltn,aA,aS,aB,Zf,Ef,cF,aL,aO]
 | n+1,i,a,h,d=>by
  have b:i<l.length:=by omega
  have e:=hp _ (aF b)
  have i1:=Xz l p c hp n (i+1) a (by omega) (by omega)
  have i2:=Xz l p c hp n (i+1) (a++ [l[i].name]) (by omega) (by simp;omega)
  have ap:dN 16 (SL a) (.list [.str l[i].name])=some (SL (a++ [l[i].name])):=apm IV.str a l[i].name (by omega)
  unfold Ef at i1 i2 ⊢
  rw[Aqo,aC b,aY]
  simp only[lti b,aA,aS,Zt,Jq Mgr.enc b,Am0,Ass,Nb _ p (show l[i].paths.length <=1099511627776 by omega),Bhi,bO,dH,ap]
  rw[Aog,Aog]
  simp only[nxt (show i<4611686018427387904 by omega),aA,i1,i2]
  cases inB l[i].paths p<;>simp
theorem Azq (l:List Mgr)(p:ByteArray)(a:l.length<=1048576)(hp: ∀m∈l,m.paths.length<=1048576):W Bhl 0 [.list (l.map Mgr.enc),.str p]=some [SL (Ef p l)]:=by
 have:=Xz l p a hp l.length 0 [] (by omega) (by simp)
 simp only[aD,aE,bD]at this
 rw[A4w,Gi]
 exact this
end Go.CT.Sch
namespace Go.CT.Sch
open Go.Proofs
def I5 (l:List Mgr):List Mgr:=l.filter λm=>decide (0<m.paths.length)
theorem X4 (l:List Mgr)(c:l.length<=1048576)(hp: ∀m∈l,m.paths.length<=1048576): ∀ (n i:Nat) (a:List Mgr),i+n=l.length->a.length<=i->
  W Bia 1 [.list (l.map Mgr.enc),.int (l.length:Nat),.int (i:Nat),.list (a.map Mgr.enc)]=some [.list ((a++I5 (l.drop i)).map Mgr.enc)]
 | 0,i,a,h,d=>by
  have:i=l.length:=by omega
  subst this
  rw[Ame,aM]
  simp only[ltn,aA,aS,aB,Zf,I5,cF,aO]
 | n+1,i,a,h,d=>by
  have b:i<l.length:=by omega
  have e:=hp _ (aF b)
  have i1:=X4 l c hp n (i+1) a (by omega) (by omega)
  have i2:=X4 l c hp n (i+1) (a++ [l[i]]) (by omega) (by simp;omega)
  have ap:dN 40 (.list (a.map Mgr.enc)) (.list [.agg [.str l[i].name,.list (l[i].paths.map .str)]])=some (.list ((a++ [l[i]]).map Mgr.enc)):=apm Mgr.enc a l[i] (by omega)
  have g:gX (.int (l[i].paths.length :Int)) (.int 0)=some (.bool (decide (0<l[i].paths.length))):=by rw[fX];congr 2;exact decide_eq_decide.2 (by omega)
  have cl:O.Iq [.list (l[i].paths.map IV.str)]=some [.list (l[i].paths.map .str)]:=Dy (by rw[aH];omega)
  unfold I5 at i1 i2 ⊢
  rw[Ame,aC b,aY]
  simp only[lti b,aA,aS,Zt,Jq Mgr.enc b,Am0,Ass,Gi,g,At9,cl,bO,dC,dH,ap]
  rw[Aqj,Aqj]
  simp only[nxt (show i<4611686018427387904 by omega),aA,i1,i2]
  cases decide (0<l[i].paths.length)<;>simp
theorem Bct (l:List Mgr)(a:l.length<=1048576)(hp: ∀m∈l,m.paths.length<=1048576):W Bia 0 [.list (l.map Mgr.enc)]=some [.list ((I5 l).map Mgr.enc)]:=by
 have:=X4 l a hp l.length 0 [] (by omega) (by simp)
 simp only[aD,aE,bD,aL]at this
 rw[A5x,Gi]
 exact this
end Go.CT.Sch
namespace Go.CT.Sch
open Go.Proofs
structure Cf where
 path:ByteArray
 mgr:ByteArray
def Cf.enc (c:Cf):IV:= .agg [.str c.path,.str c.mgr]
theorem cf0 (c:Cf):fU 0 c.enc=some (.str c.path):=rfl
theorem cf1 (c:Cf):fU 1 c.enc=some (.str c.mgr):=rfl
def Z4 (cs:List Cf)(nm:ByteArray):List ByteArray:=(cs.filter λc=>decide (c.mgr=nm)).map Cf.path
theorem At5 (cs:List Cf)(m:Mgr)(d:cs.length<=1048576)(hp:m.paths.length<=1048576): ∀ (n i:Nat) (a:List ByteArray),i+n=cs.length->a.length<=i->
  W F204 1 [.list (cs.map Cf.enc),.int (cs.length:Nat),.int (i:Nat),m.enc,SL a]=some [SL (Hy m.paths (a++Z4 (cs.drop i) m.name))]
 | 0,i,a,h,e=>by
  have:i=cs.length:=by omega
  subst this
  rw[Aol,aM]
  simp only[ltn,aA,aS,aB,Zf,Z4,cF,aL,aO,Bbt,Ag5 m.paths a hp (by omega),bO]
 | n+1,i,a,h,e=>by
  have b:i<cs.length:=by omega
  have i1:=At5 cs m d hp n (i+1) a (by omega) (by omega)
  have i2:=At5 cs m d hp n (i+1) (a++ [cs[i].path]) (by omega) (by simp;omega)
  have ap:dN 16 (SL a) (.list [.str cs[i].path])=some (SL (a++ [cs[i].path])):=apm IV.str a cs[i].path (by omega)
  unfold Z4 at i1 i2 ⊢
  rw[Aol,aC b,aY]
  simp only[lti b,aA,aS,Zt,Jq Cf.enc b,cf0,cf1,Am0,fY,dH,ap]
  rw[Aok,Aok]
  simp only[nxt (show i<4611686018427387904 by omega),aA,i1,i2]
  by_cases c:cs[i].mgr =m.name<;>simp[c]
theorem pclo (cs:List Cf)(m:Mgr)(a:cs.length<=1048576)(hp:m.paths.length<=1048576):W F204 0 [m.enc,.list (cs.map Cf.enc)]=some [SL (Hy m.paths (Z4 cs m.name))]:=by
 have:=At5 cs m a hp cs.length 0 [] (by omega) (by simp)
 simp only[aD,aE,bD]at this
 rw[A5z,Gi]
 exact this
end Go.CT.Sch
namespace Go.CT.Sch
open Go.Proofs
def Z6 (nm:ByteArray)(a:List ByteArray):Bool->List Mgr->List Mgr
 | d,[]=>if d then[]else[⟨nm,a⟩]
 | d,m::l=>((if !d && !blt m.name nm then[⟨nm,a⟩]else[])++(if !decide (m.name=nm)&&decide (0<m.paths.length) then[m]else[]))++Z6 nm a (d|| !blt m.name nm) l
end Go.CT.Sch
namespace Go.CT.Sch
open Go.Proofs
def Awq (cs:List Cf)(nm:ByteArray)(l:List Mgr):List Mgr:=(l.filter λm=> !decide (m.name=nm)).map λm=>⟨m.name,Hy m.paths (Z4 cs m.name)⟩
theorem Ae0 (l:List Mgr)(cs:List Cf)(nm:ByteArray)(e:l.length<=1048576)(hp: ∀m∈l,m.paths.length<=1048576)(d:cs.length<=1048576): ∀ (n i:Nat) (a:List Mgr),i+n=l.length->a.length<=i+1->
  W Bgt 1 [.str nm,.list (cs.map Cf.enc),.list (l.map Mgr.enc),.int (l.length:Nat),.int (i:Nat),.list (a.map Mgr.enc)]=W Bgt 1 [.str nm,.list (cs.map Cf.enc),.list (l.map Mgr.enc),.int (l.length:Nat),.int (l.length:Nat),.list ((a++Awq cs nm (l.drop i)).map Mgr.enc)]
 | 0,i,a,h,g=>by
  have:i=l.length:=by omega
  subst this
  rw[aM]
  simp only[Awq,cF,aL,aO]
 | n+1,i,a,h,g=>by
  have b:i<l.length:=by omega
  have j:=hp _ (aF b)
  have i1:=Ae0 l cs nm e hp d n (i+1) a (by omega) (by omega)
  have i2:=Ae0 l cs nm e hp d n (i+1) (a++ [(⟨l[i].name,Hy l[i].paths (Z4 cs l[i].name)⟩:Mgr)]) (by omega) (by simp;omega)
  have ap:dN 40 (.list (a.map Mgr.enc)) (.list [.agg [.str l[i].name,SL (Hy l[i].paths (Z4 cs l[i].name))]])=some (.list ((a++ [(⟨l[i].name,Hy l[i].paths (Z4 cs l[i].name)⟩:Mgr)]).map Mgr.enc)):=apm Mgr.enc (n:=40) a (⟨l[i].name,Hy l[i].paths (Z4 cs l[i].name)⟩:Mgr) (by omega)
  unfold Awq at i1 i2 ⊢
  rw[Amu,aC b,aY]
  simp only[lti b,aA,aS,Zt,Jq Mgr.enc b,Am0,gS,pclo cs l[i] d j,bO,dC,dH,ap]
  rw[Ap6,Ap6]
  simp only[nxt (show i<4611686018427387904 by omega),aA,i1,i2]
  by_cases c:l[i].name =nm<;>simp[c]
end Go.CT.Sch
namespace Go.CT.Sch
open Go.Proofs
inductive Fit:Sch->Val->Prop
 | mk (s:Sch) (v:Val):v.k=s.k->(∀p∈v.f,(Eb s p.1).isSome =true)->(∀p∈v.f,∀t,Eb s p.1=some t->Fit t p.2)->(∀x∈v.l,∀t∈s.it,Fit t x)->(Ig s=true->Dv s.key [] v.l=true)->Fit s v
theorem Fit.kind {s:Sch}{v:Val}(h:Fit s v):v.k=s.k:=by cases h;assumption
theorem Fit.known {s:Sch}{v:Val}(h:Fit s v): ∀p∈v.f,(Eb s p.1).isSome =true:=by cases h;assumption
theorem Fit.fld {s:Sch}{v:Val}(h:Fit s v): ∀p∈v.f,∀t,Eb s p.1=some t->Fit t p.2:=by cases h;assumption
theorem Fit.el {s:Sch}{v:Val}(h:Fit s v): ∀x∈v.l,∀t∈s.it,Fit t x:=by cases h;assumption
theorem Fit.keyed {s:Sch}{v:Val}(h:Fit s v):Ig s=true->Dv s.key [] v.l=true:=by cases h;assumption
theorem E0 {s:Sch} :Ig s=true↔s.k=4/\s.key≠Am:=by simp[Ig]
theorem Aif (key:ByteArray)(t:Sch)(p:List Stp): ∀ (l prev:List Val),(Ly l key t p prev).all Vn=true->
  (∀x∈l,∃q,(Jo x t q).all Vn=true)/\(key≠Am->(∀x∈prev++l,isKey x key=true)->Dv key (prev.map λx=>Dq x key) l=true)
 | [],_,_=>⟨by simp,λ_ _=>rfl⟩
 | x::l,prev,h=>by
  rw[Il,eE,eE,aG,aG]at h
  obtain⟨i1,i2⟩:=Aif key t p l (prev++ [x]) h.2
  refine⟨λy b=>?_,λg c=>?_⟩
  ·rcases bC.1 b with rfl | b
   ·exact⟨_,h.1.1⟩
   ·exact i1 y b
  ·have i:=c x (by simp)
   have d:=i2 g (by simpa using c)
   rw[cS]at d
   simp only[aI,aL]at d
   rw[Dv,i,d]
   have hd:=h.1.2
   have m:inB (prev.map λx=>Dq x key) (Dq x key)=false:=by
    rw[<-eU,Hs]
    intro o
    obtain⟨u,j,e⟩:=aX.1 o
    have ku:=c u (by simp[j])
    have a:decide (key=Am)=false:=by simpa using g
    have:(Gb x key&&prev.any (sameKey key (Dq x key)))=true:=by
     rw[aG,List.any_eq_true]
     refine⟨by unfold Gb;rw[i,a];rfl,u,j,?_⟩
     unfold sameKey Gb
     rw[ku,a]
     simpa using e
    unfold Atq at hd
    rw[if_pos this]at hd
    exact absurd hd (show ¬ ((decide ((8:Int)=7)&&true)=true) by decide)
   rw[m];rfl
theorem Q2 {s t:Sch}(h:s.valid=true)(g:Ig s=true)(c:t∈s.it):t.k=5/\ ∃u,Eb t s.key=some u/\u.k=3:=by
 obtain⟨i,a⟩:=E0.1 g
 obtain⟨r,e,j,p,hp,_,m,_⟩:=Aac h i a
 rw[e,bU]at c
 subst c
 have b:=(eG h).I3 (show t∈s.it by rw[e];simp)
 have o:t.it= []:=by
  apply cW
  intro q
  have:=b.nof q
  have d:=(Acn hp).1
  rw[this]at d;simp at d
 refine⟨j,p.s,?_,m⟩
 unfold Eb
 rw[o]
 show(t.fld s.key).map (·.s)=_
 rw[hp];rfl
theorem Alh {s t:Sch}{x:Val}(h:s.valid=true)(i:Ig s=true)(e:t∈s.it)(j:D.VOk x)(b:x.k=t.k)(a:isKey x s.key=true):isKey (D.Bn x t) s.key=true/\Dq (D.Bn x t) s.key=Dq x s.key:=by
 obtain⟨o,u,m,q⟩:=Q2 h i e
 have c:=(eG h).I3 e
 have g:=D.Ay1 j b (by omega) s.key
 unfold isKey at a
 simp only[aG,decide_eq_true_eq]at a
 obtain⟨y,d⟩:=bZ.1 a.1
 rw[d,aQ]at a
 rw[d,aA,if_neg (by omega),D.Ae7 c,m,aP,D.Aas u (by omega) (by omega)]at g
 unfold isKey Dq
 rw[g,d]
 simp[a.2]
theorem Az0: ∀ (v:Val) (s:Sch) (p:List Stp) (n:Nat),s.valid=true->v.valid=true->v.size<=n->(Jo v s p).all Vn=true->kyB n s v=true->Fit s (D.Bn v s):=by
 refine eM λv J K s p n G z Y d m=>?_
 have L:=D.O9 z
 have A:=eG G
 cases n with
 | zero=>have:=v.size_pos;omega
 | succ n=>
 rw[Iv]at d
 by_cases r:v.k=s.k
 ·rw[if_pos r]at d
  rw[kyB,if_pos r.symm,aG,bR,bR]at m
  by_cases w:v.k=4
  ·rw[if_neg (by omega),if_neg (by omega),if_pos w,eE,aG]at d
   obtain⟨t,c⟩:=bH.1 (A.list (by omega))
   have B:t∈s.it:=by rw[c];simp
   rw[c,eD]at d
   obtain⟨e1,R⟩:=Aif s.key t p v.l [] d.2
   have g: ∀x∈v.l,Ak7 s x=true/\kyB n t x=true:=λx a=>by
    have:=m.1 x a
    rw[c]at this
    simpa using this
   have M: ∀x∈v.l,x.k=t.k:=λx a=>by
    obtain⟨q,b⟩:=e1 x a
    apply cW
    intro N
    rw[Iv,if_neg N]at b
    exact absurd b (show ¬ ((decide ((6:Int)=7)&&true)=true) by decide)
   rw[D.Hi,if_pos r,if_pos w,if_pos (by rw[c];rfl),c,eD]
   refine .mk _ _ (show(4:Int)=s.k by omega) (by simp) (by simp) ?_ ?_
   ·intro x a u C
    rw[c,bU]at C
    subst C
    obtain⟨y,e,rfl⟩:=aX.1 a
    obtain⟨q,b⟩:=e1 y e
    have:=gQ e
    exact J y e u q n (Sch.V3 G B) (Eu z e) (by omega) b (g y e).2
   ·intro o
    have i: ∀x∈v.l,isKey x s.key=true:=λx a=>by
     have:=(g x a).1
     unfold Ak7 at this
     rw[o]at this
     simpa using this
    have S:=R (E0.1 o).2 i
    have T: ∀ (l:List Val) (acc:List ByteArray),(∀x∈l,isKey (D.Bn x t) s.key=true/\Dq (D.Bn x t) s.key=Dq x s.key)->Dv s.key acc l=true->Dv s.key acc (l.map λx=>D.Bn x t)=true:=by
     intro l
     induction l with
     | nil=>intro _ _ _;rfl
     | cons x l U=>
      intro acc a h
      obtain⟨X,a2⟩:=a x (by simp)
      rw[Dv,aG,aG]at h
      rw[aI,Dv,X,a2,h.1.2,U _ (λy e=>a y (by simp[e])) h.2];rfl
    exact T v.l [] (λx a=>Alh G o B (L.Nv a) (M x a) (i x a)) S
  ·by_cases H:v.k=5
   ·rw[if_neg (by omega),if_neg (by omega),if_neg w,if_pos H,eE,aG,Tu,bR]at d
    have F: ∀q∈v.f.flatMap (D.Eg s),∃x∈v.f,∃t,x.2.k≠0/\Eb s x.1=some t/\q=(x.1,D.Bn x.2 t):=by
     intro q b
     obtain⟨x,a,b⟩:=cM.1 b
     unfold D.Eg at b
     split at b
     ·simp at b
     ·rename_i I
      split at b
      ·rename_i t c
       simp only[bU]at b
       rw[D.Ae7 A]at c
       exact⟨x,a,t,I,c,b⟩
      ·simp at b
    rw[D.Hi,if_pos r,if_neg w,if_pos H]
    refine .mk _ _ (show(5:Int)=s.k by omega) ?_ ?_ (by simp) (λh=>by have:=(E0.1 h).1;omega)
    ·intro q b
     obtain⟨x,a,t,I,c,rfl⟩:=F q b
     show(Eb s x.1).isSome =true
     rw[c];rfl
    ·intro q b u C
     obtain⟨x,a,t,I,c,rfl⟩:=F q b
     rw[show Eb s (x.1,D.Bn x.2 t).1 =Eb s x.1 from rfl,c]at C
     have eu:=dO C
     subst eu
     have j:=m.2 x a
     rw[c]at j
     have:=gP a
     refine K x a t (p++ [Ch x.1]) n (Sch.Xo G c) (Gl z a).1 (by omega) ?_ j
     rw[bR]
     intro y e
     refine d.1 y (cM.2 ⟨x,a,?_⟩)
     unfold Ahl
     rw[c]
     simp only[I,Zf]
     exact e
   ·have Q:=Oo z w
    have F:=Ps z H
    rw[D.Aas s w H]
    exact .mk _ _ r (by rw[F];simp) (by rw[F];simp) (by rw[Q];simp) (by rw[Q];intro _;rfl)
 ·rw[if_neg r]at d
  exact absurd d (show ¬ ((decide ((6:Int)=7)&&true)=true) by decide)
end Go.CT.Sch
namespace Go.CT.Sch
open Go.Proofs
theorem Aor (u:Val)(key kv:ByteArray)(a:u.k=5)(b:Ck u.f):isKey (De u key (K8 kv)) key=true/\Dq (De u key (K8 kv)) key=kv:=by
 unfold isKey Dq
 rw[O2 u a b]
 exact⟨rfl,rfl⟩
theorem P6 {s:Sch}{r:Kid->Val × Bool} : ∀ {l:List Val} {acc acc':List ByteArray},Dv s.key acc l=true->(∀k∈acc',k∈acc)->(∀y∈l,(r (Bo s y)).1.k =5/\Ck (r (Bo s y)).1.f)->
  Dv s.key acc' (Ee (Gc r (l.map (Bo s))))=true
 | [],_,_,_,_,_=>rfl
 | y::l,acc,acc',h,a,b=>by
  have i:=b y cD
  have m:=Lm h y cD
  obtain⟨j,_⟩:=Rs h
  have e: ∀z t,Ee (((Bo s y).1,z)::t)=De z s.key (K8 (Dq y s.key))::Ee t:=λ_ _=>rfl
  rw[aI,Kh]
  cases(r (Bo s y)).2 with
  | false=>exact P6 j (λk c=>dJ _ (a k c)) λz d=>b z (bW _ d)
  | true=>
   simp only[Zt]
   obtain⟨w1,o⟩:=Aor (r (Bo s y)).1 s.key (Dq y s.key) i.1 i.2
   rw[e,Dv,w1,o]
   have g:inB acc' (Dq y s.key)=false:=by
    rw[<-eU,Hs];exact λq=>m (a _ q)
   rw[g]
   simp only[bJ,cN,bL]
   refine P6 j (λk c=>?_) λz d=>b z (bW _ d)
   rcases cE.1 c with h | h
   ·exact dJ _ (a k h)
   ·exact List.mem_append_right _ h
theorem J2 {s:Sch}{r:Kid->Val × Bool}{l:List (ByteArray × Val)}{p:ByteArray × Val}(h:p∈fieldsOf (Gc r (l.map (Cy s)))): ∃y∈l,(r (Cy s y)).2 =true/\p=(y.1,(r (Cy s y)).1):=by
 obtain⟨z,a,rfl⟩:=aX.1 h
 obtain⟨x,b,c,rfl⟩:=Sq a
 obtain⟨y,d,rfl⟩:=aX.1 b
 exact⟨y,d,c,rfl⟩
theorem Nq {s:Sch}{r:Kid->Val × Bool}{l:List Val}{u:Val}(h:u∈Ee (Gc r (l.map (Bo s)))): ∃y∈l,(r (Bo s y)).2 =true/\u=De (r (Bo s y)).1 s.key (K8 (Dq y s.key)):=by
 obtain⟨z,a,rfl⟩:=aX.1 h
 obtain⟨x,b,c,rfl⟩:=Sq a
 obtain⟨y,d,rfl⟩:=aX.1 b
 exact⟨y,d,c,rfl⟩
theorem M5 (s:Sch)(v:Val)(set:List ByteArray)(is:Bool):(J4 s v set is).Ap <=v.Ap:=by
 unfold J4
 split
 ·rename_i a
  have b:v.valid=true:=by simp only[aG]at a;exact a.2
  split
  ·exact(Y9 _ _ _ _ _ b).1
  ·have c:=v.B4
   split
   ·rw[fT (Val.mk _ _ _ _ _)]
    simp only[eL,cX,dG,Co,Em,show Am.size=0 from rfl];omega
   ·rw[fT Au]
    simp only[Au,eL,cX,dG,Co,Em,show Am.size=0 from rfl];omega
 ·exact aN _
theorem Q6 {q:List Stp}(h:C6 q=true):(∀x∈q,x.fits)/\q.length<=16:=by
 unfold C6 at h
 simp only[aG,bR,decide_eq_true_eq]at h
 refine⟨λx a=>?_,h.2⟩
 obtain⟨b,c,_⟩:=D1 (h.1 x a)
 exact⟨by omega,by omega⟩
theorem A2f {u:Sch}(h:u.k=3)(b:ByteArray):Fit u (K8 b):=
 .mk _ _ h.symm (by simp[K8]) (by simp[K8]) (by simp[K8]) (λa=>by have:=(E0.1 a).1;omega)
theorem A4z {t u:Sch}{w:Val}{key:ByteArray}{b:ByteArray}(c:Fit t w)(e:w.k=5)(a:Ck w.f)(g:Eb t key=some u)(j:u.k=3):Fit t (De w key (K8 b)):=by
 have i:=c.kind
 refine .mk _ _ (show(5:Int)=t.k by omega) ?_ ?_ (by simp[De]) (λi=>by have:=(E0.1 i).1;omega)
 ·intro p hp
  rcases(Jl e a p).1 hp with⟨_,h⟩ | rfl
  ·exact c.known p h
  ·rw[g];rfl
 ·intro p hp x d
  rcases(Jl e a p).1 hp with⟨_,h⟩ | rfl
  ·exact c.fld p h x d
  ·rw[show Eb t (key,K8 b).1 =Eb t key from rfl,g]at d
   cases d
   exact A2f j b
theorem Ayi: ∀ (n:Nat) (s:Sch) (v:Val) (p:List Stp) (ch:ByteArray->Bool),s.valid=true->v.valid=true->Fit s v->Fit s (pt n (some s) v p ch).1
 | 0,_,_,_,_,_,_,h=>h
 | n+1,s,v,p,ch,m,o,h=>by
  have r:=h.kind
  rw[Ey]
  split
  ·exact h
  ·rename_i z
   obtain⟨s',e,R,H⟩:=Jh z
   cases e
   rcases H with⟨I,b⟩ | ⟨S,g,i,b⟩
   ·simp only[I,Zt]
    rw[b]
    refine .mk _ _ (show(5:Int)=s.k by omega) ?_ ?_ (by simp) (λr=>by have:=(E0.1 r).1;omega)
    ·intro q A
     obtain⟨y,a,_,rfl⟩:=J2 A
     exact h.known y a
    ·intro q A t j
     obtain⟨y,a,_,rfl⟩:=J2 A
     have c:Eb s y.1=some t:=j
     show Fit t (pt n (Eb s y.1) y.2 (p++ [(Cy s y).1]) ch).1
     rw[c]
     exact Ayi n t y.2 _ ch (Sch.Xo m c) (Gl o a).1 (h.fld y a t c)
   ·have J: ¬ v.k=5:=by omega
    simp only[J,Zf]
    rw[b]
    have B:Ig s=true:=E0.2 ⟨by omega,g⟩
    obtain⟨t,j⟩:=bH.1 ((eG m).list (by omega))
    have d:t∈s.it:=by rw[j];simp
    have K:s.it.head?=some t:=by rw[j];rfl
    have C: ∀y∈v.l,Fit t (pt n (Bo s y).2.2 (Bo s y).2.1 (p++ [(Bo s y).1]) ch).1 /\(pt n (Bo s y).2.2 (Bo s y).2.1 (p++ [(Bo s y).1]) ch).1.k =5/\Ck (pt n (Bo s y).2.2 (Bo s y).2.1 (p++ [(Bo s y).1]) ch).1.f :=by
     intro y a
     obtain⟨F,_,_⟩:=H3 (Eu o a) (Cp i y a)
     refine⟨?_,(Az5 _ _ _ _ _).trans F,K4 (Eu o a) F⟩
     show Fit t (pt n s.it.head? y (p++ [(Bo s y).1]) ch).1
     rw[K]
     exact Ayi n t y _ ch (Sch.V3 m d) (Eu o a) (h.el y a t d)
    refine .mk _ _ r (by simp) (by simp) ?_ ?_
    ·intro x L u G
     rw[j,bU]at G
     subst G
     obtain⟨y,a,_,rfl⟩:=Nq L
     obtain⟨T,w,M,N⟩:=Q2 m B d
     obtain⟨r1,r2,Q⟩:=C y a
     exact A4z r1 r2 Q M N
    ·intro _
     exact P6 i (by simp) λy a=>⟨(C y a).2.1,(C y a).2.2⟩
theorem Avc {s:Sch}{v:Val}(set:List ByteArray)(is:Bool)(b:s.valid=true)(c:v.valid=true)(h:Fit s v)(a:v.k=5):Fit s (J4 s v set is)/\(J4 s v set is).k =5:=by
 unfold J4
 rw[b,c]
 simp only[cN,Zt]
 split
 ·exact⟨Ayi _ _ _ _ _ b c h,(Az5 _ _ _ _ _).trans a⟩
 ·rw[if_pos (.inl a)]
  exact⟨.mk _ _ h.kind (by simp) (by simp) (by simp) (λ_=>rfl),a⟩
theorem A7n: ∀ (n:Nat) (o:Option Sch) (v:Val) (p:List Stp) (t:ByteArray),v.size<=n->v.valid=true->t∈lv n o v p-> ∃q w,t=Cj (p++q)/\Hw v q=some w/\ ∀x∈q,Dr x=true/\x.k≠2
 | 0,o,v,p,t,h,_,_=>by have:=v.size_pos;omega
 | n+1,o,v,p,t,h,m,a=>by
  rw[lv]at a
  by_cases c:kids o v= []
  ·rw[if_pos c,bU]at a
   subst a
   exact⟨[],v,by simp,rfl,by simp⟩
  ·rw[if_neg c]at a
   obtain⟨x,g,a⟩:=cM.1 a
   obtain⟨G,_⟩:=Ms g
   obtain⟨q,w,e1,A,B⟩:=A7n n x.2.2 x.2.1 (p++ [x.1]) t (by omega) (Pz m g) a
   rw[bI,bG]at e1
   obtain⟨s,rfl,L,H⟩:=Jh c
   rcases H with⟨M,r⟩ | ⟨I,C,j,r⟩
   ·rw[r]at g
    obtain⟨y,i,rfl⟩:=aX.1 g
    have J:v.get y.1=some y.2:=get_of_mem m i
    have u:=(Gl m i).2
    refine⟨Ch y.1::q,w,e1,?_,?_⟩
    ·simp only[Hw,Nl,Ch,Zt,J,aA];exact A
    ·intro z b
     rcases bC.1 b with rfl | b
     ·exact⟨by unfold Dr Ch;simp[u],show(1:Int)≠2 by decide⟩
     ·exact B z b
   ·rw[r]at g
    obtain⟨y,i,rfl⟩:=aX.1 g
    have d:=Eu m i
    obtain⟨N,ym,yg⟩:=H3 d (Cp j y i)
    have u:=(Gl d ym).2
    have e:Jw (K8 (Dq y s.key)).s =true:=Ain (Gl d ym).1 rfl
    have e:Jw (Dq y s.key)=true:=e
    have K: ¬ (3:Int)=1:=by decide
    have F: ¬ (3:Int)=2:=by decide
    refine⟨R5 s.key y::q,w,e1,?_,?_⟩
    ·simp only[Hw,Nl,R5,K,F,Zf,I,Zt,Ajw j y i,aA];exact A
    ·intro z b
     rcases bC.1 b with rfl | b
     ·exact⟨by unfold Dr R5;simp[u,e],F⟩
     ·exact B z b
theorem Ac4: ∀ (q:List Stp) (d:Nat) (v w:Val),B9 d v=true->Hw v q=some w->q.length<d
 | [],0,v,w,h,_=>by simp[B9]at h
 | [],d+1,_,_,_,_=>by simp
 | x::q,0,v,w,h,_=>by simp[B9]at h
 | x::q,d+1,v,w,h,b=>by
  simp only[Hw,cJ]at b
  obtain⟨u,a,c⟩:=b
  have h':=(Cw d v).1 h
  have e:B9 d u=true:=by
   unfold Nl at a
   split at a
   ·exact(h'.2.2.2.1 _ (D6 a).1).2
   ·split at a
    ·split at a
     ·exact h'.2.2.1 _ (fL a)
     ·exact h'.2.2.1 _ (bX a)
    ·cases a
  have:=Ac4 q d u w e c
  simp;omega
theorem Abu {s:Sch}{v:Val}{t:ByteArray}(c:v.valid=true)(a:t∈As s v): ∃q w,t=Cj q/\C6 q=true/\(∀x∈q,x.k≠2)/\Hw v q=some w:=by
 have a:=(cT.1 a).1
 unfold Hv at a
 split at a
 ·rw[Pu]at a
  obtain⟨q,w,e1,d,e⟩:=A7n v.size (some s) v [] t (aN _) c a
  rw[bD]at e1
  have hd:=Ac4 q 12 v w ((Gj v).1 c).1 d
  refine⟨q,w,e1,?_,λx b=>(e x b).2,d⟩
  unfold C6
  simp only[aG,bR,decide_eq_true_eq]
  exact⟨λx b=>(e x b).1,by omega⟩
 ·simp at a
end Go.CT.Sch
namespace Go.CT.Sch
open Go.Proofs
theorem U6 (v:Val)(j:Ha 1073741824 v)(c d e m o q g:IV)(r: ∀p∈v.f,W Bdt 0 [p.2.enc]=some p.2.E1): ∀ (n i:Nat),i+n=v.f.length->
  W Bdt 2 [.int v.f.length,.int i,c,d,e,m,o,q,g,.list (v.f.map aW)]=some [c,d,e,g,.list (v.f.map aW)]
 | 0,i,h=>by
  have:i=v.f.length:=by omega
  subst this
  rw[Amg]
  simp only[ltn,aA,aS,aB,Zf]
 | n+1,i,h=>by
  have b:i<v.f.length:=by omega
  have w:=j.O3
  have:=U6 v j c d e m o q g r n (i+1) (by omega)
  have a:fD 1 5 true false (.list (v.f.map aW)) (.int i) v.f[i].2.enc =some (.list (v.f.map aW)):=by
   have t:(v.f.map aW)[i]?=some (aW v.f[i]):=by rw[bE,aJ b];rfl
   have x:(v.f.map aW).set i (aW v.f[i])=v.f.map aW:=by
    rw[<-gC,cV]
   unfold fD
   simp only[fM,aV,Zt,aU,t,aB,Zf]
   rw[v.f[i].2.Es]
   simp only[aW]
   have u:v.f[i].2.E1.length =5:=rfl
   simp only[u,Zt]
   congr 2
  rw[Amg]
  simp only[lti b,aA,aS,Zt,Jq aW b,fK,r _ (aF b),dE,fN,dC,eQ,a,nxt (show i<4611686018427387904 by omega),this]
theorem Va (v:Val)(o:Ha 1073741824 v)(c d e g j m:IV)(q: ∀x∈v.l,W Bdt 0 [x.enc]=some x.E1): ∀ (n i:Nat),i+n=v.l.length->
  W Bdt 1 [.int v.l.length,.int i,c,d,e,g,j,m,.list (v.l.map bK),.list (v.f.map aW)]=W Bdt 2 [.int v.f.length,.int (0:Nat),c,d,e,g,j,m,.list (v.l.map bK),.list (v.f.map aW)]
 | 0,i,h=>by
  have:i=v.l.length:=by omega
  subst this
  rw[Aqe]
  simp only[ltn,aA,aS,aB,Zf,Gi]
  rfl
 | n+1,i,h=>by
  have b:i<v.l.length:=by omega
  have r:=o.Vm
  have:=Va v o c d e g j m q n (i+1) (by omega)
  have a:fD 0 5 true true (.list (v.l.map bK)) (.int i) v.l[i].enc =some (.list (v.l.map bK)):=by
   rw[show(IV.list (v.l.map bK))=eH bK v.l from rfl,iB bK b,cV]
  rw[Aqe]
  simp only[lti b,aA,aS,Zt,Jq bK b,q _ (aF b),dE,fN,dC,eQ,a,nxt (show i<4611686018427387904 by omega),this]
theorem Asw: ∀v:Val,Ha 1073741824 v->W Bdt 0 [v.enc]=some v.E1:=by
 refine eM λv b c a=>?_
 have d:=Va v a (.int v.k) (.int v.n) (.str v.s) (.int 0) (.int 0) (.str ⟨#[]⟩) (λx e=>b x e (a.Nv e)) v.l.length 0 (by omega)
 have g:=U6 v a (.int v.k) (.int v.n) (.str v.s) (.int 0) (.int 0) (.str ⟨#[]⟩) (.list (v.l.map bK)) (λp hp=>c p hp (a.Ks hp)) v.f.length 0 (by omega)
 rw[g]at d
 rw[A2s]
 have i:=a.Vm
 have j:=a.O3
 have h:(v.l.map bK).length <=1073741824:=by rw[aH];omega
 have hd:(v.f.map aW).length <=1073741824:=by rw[aH];omega
 simp only[cY,eW,eX,cH,cR,aA,Bgb,A3r,Dy h,Dy hd,bO,Gi]
 rw[dE]
 exact d
theorem A7d (v:Val)(x:Stp)(b:v.Ap<=1048576): ∀ (n i:Nat),i+n=v.f.length->
  ∃r:Int,W F164 1 [.list (v.f.map aW),x.enc,.int v.f.length,.int i]=some [.int r]/\
   ((((v.f.drop i).find? λp=>decide (p.1=x.nm))=none/\r<0)\/ ∃ (j:Nat) (u:Val),r=j/\v.f[j]?=some (x.nm,u)/\((v.f.drop i).find? λp=>decide (p.1=x.nm))=some (x.nm,u))
 | 0,i,h=>by
  have d:i=v.f.length:=by omega
  subst d
  rw[Al9]
  exact⟨-1,by simp only[ltn,aA,aS,aB,Zf],.inl ⟨by rw[aM];rfl,by omega⟩⟩
 | n+1,i,h=>by
  have a:i<v.f.length:=by omega
  have m:=v.Bc
  obtain⟨r,e,g⟩:=A7d v x b n (i+1) (by omega)
  rw[Al9,aC a,bV]
  simp only[lti a,aA,aS,Zt,Jq aW a,A3w,fR,Stp.Dj,fY,bO,nxt (show i<4611686018427387904 by omega),e]
  by_cases c:v.f[i].1 =x.nm
  ·exact⟨i,by simp[c],.inr ⟨i,v.f[i].2,rfl,by simp[a,<-c],by simp[<-c]⟩⟩
  ·have c':decide (v.f[i].1 =x.nm)=false:=by simpa using c
   simp only[c',aB,Zf]
   exact⟨r,rfl,g⟩
theorem Bfn (u:Val)(x:Stp)(a:u.Ap<=1048576):W F168 0 [u.enc,x.enc]=some [.bool (hasB x.nm x.vl u)]:=by
 rw[A0y]
 unfold hasB
 simp only[Stp.Dj,Stp.Cc,aA,Aan u x.nm (by omega),I9,Jj,aS,bN,fY,Ax,An]
 cases b:u.get x.nm with
 | none=>simp[Au]
 | some y=>by_cases c:y.k=3<;>simp[c]
theorem Bev (v:Val)(x:Stp)(b:v.Ap<=1048576): ∀ (n i:Nat),i+n=v.l.length->
  ∃r:Int,W F166 1 [.list (v.l.map bK),x.enc,.int v.l.length,.int i]=some [.int r]/\
   ((((v.l.drop i).find? (hasB x.nm x.vl))=none/\r<0)\/ ∃ (j:Nat) (u:Val),r=j/\v.l[j]?=some u/\((v.l.drop i).find? (hasB x.nm x.vl))=some u)
 | 0,i,h=>by
  have d:i=v.l.length:=by omega
  subst d
  rw[Aoo]
  exact⟨-1,by simp only[ltn,aA,aS,aB,Zf],.inl ⟨by rw[aM];rfl,by omega⟩⟩
 | n+1,i,h=>by
  have a:i<v.l.length:=by omega
  have m:=v.Bx
  have o:=dQ (aF a)
  obtain⟨r,e,g⟩:=Bev v x b n (i+1) (by omega)
  rw[Aoo,aC a,bV]
  simp only[lti a,aA,aS,Zt,Jq bK a,A6z,Bfn v.l[i] x (by omega),bO,nxt (show i<4611686018427387904 by omega),e]
  cases c:hasB x.nm x.vl v.l[i]with
  | true=>exact⟨i,by simp,.inr ⟨i,v.l[i],rfl,by simp[a],rfl⟩⟩
  | false=>exact⟨r,by simp,g⟩
theorem A3b (v:Val)(x:Stp)(o:v.Ap<=1048576)(q:Dr x=true): ∃r:Int,W F163 0 [v.enc,x.enc]=some [.int r]/\
  ((Nl v x=none/\r<0)\/ ∃ (j:Nat) (u:Val),r=j/\Nl v x=some u/\(x.k=1->v.f[j]?=some (x.nm,u))/\(x.k≠1->v.l[j]?=some u)):=by
 obtain⟨z,A,t,B,C⟩:=D1 q
 rw[A00]
 unfold Nl
 simp only[Stp.Bs,aA,bN,aS,cY,Ax,An]
 by_cases k1:x.k=1
 ·unfold iD
  by_cases i:v.k=5
  ·obtain⟨r,b,a⟩:=A7d v x o v.f.length 0 (by omega)
   simp only[aE,aD]at b a
   simp only[k1,i,Zd,Zt,cR,aA,A3q,Gi,b,bO]
   refine⟨r,rfl,?_⟩
   rcases a with⟨d,e⟩ | ⟨j,u,d,e,m⟩
   ·exact .inl ⟨by rw[d];rfl,e⟩
   ·exact .inr ⟨j,u,d,by rw[m];rfl,λ_=>e,λh=>(h rfl).elim⟩
  ·refine⟨-1,?_,.inl ⟨by rw[if_pos k1,if_neg i],by omega⟩⟩
   simp[k1,i]
 ·rw[if_neg k1]
  by_cases g:v.k=4
  ·rw[if_pos g]
   by_cases k2:x.k=2
   ·obtain⟨j,w⟩:=Int.eq_ofNat_of_zero_le (t k2).1
    rw[if_pos k2]
    simp only[k1,k2,g,Zd,Ze,aB,Zf,Zt,Stp.Ep,cH,Gi,aA,dS,w,Int.ofNat_eq_natCast,aU,Aj,show ¬ (2:Int)=1 by omega,show ¬ (2:Int)=3 by omega]
    by_cases c:j<v.l.length
    ·exact⟨j,by simp[c],.inr ⟨j,v.l[j],rfl,by simp[c],λh=>by simp at h,λ_=>by simp[c]⟩⟩
    ·exact⟨-1,by simp[c],.inl ⟨by simpa using c,by omega⟩⟩
   ·have y:x.k=3:=by omega
    obtain⟨r,b,a⟩:=Bev v x o v.l.length 0 (by omega)
    simp only[aE,aD]at b a
    rw[if_neg k2]
    simp only[y,g,Zd,Ze,aB,Zf,Zt,cH,aA,A0n,Gi,b,bO,show ¬ (3:Int)=1 by omega,show ¬ (3:Int)=2 by omega]
    refine⟨r,rfl,?_⟩
    rcases a with a | ⟨j,u,d,e,m⟩
    ·exact .inl a
    ·exact .inr ⟨j,u,d,m,λh=>by simp at h,λ_=>e⟩
  ·rw[if_neg g]
   refine⟨-1,?_,.inl ⟨rfl,by omega⟩⟩
   simp[k1,g]
theorem Aq6 (p:List Stp)(t:p.length<=1099511627776)(hp: ∀x∈p,Dr x=true)(c d e:IV): ∀ (n i:Nat) (v:Val),i+n=p.length->v.Ap<=1048576->
  W Bh6 1 [.list (p.map bY),.int p.length,.int i,v.enc,c,d,e]=some (I9 (Hw v (p.drop i)))
 | 0,i,v,h,m=>by
  have w:i=p.length:=by omega
  subst w
  have o:=Asw v (Dd v (by omega))
  rw[dE]at o
  rw[Am5,aM]
  simp only[ltn,aA,aS,aB,Zf,o,fN,Hw,I9,aQ,aZ]
 | n+1,i,v,h,m=>by
  have a:i<p.length:=by omega
  have y:=hp _ (aF a)
  obtain⟨r,z,A⟩:=A3b v p[i] m y
  rw[Am5,aC a]
  simp only[lti a,aA,aS,Zt,Jq bY a,z,bO,Stp.Bs,bN,dS,cH,cR,Hw]
  rcases A with⟨b,g⟩ | ⟨j,u,rfl,b,g,B⟩
  ·simp only[g,Zd,Zt,b];rfl
  ·have C: ¬ (j:Int)<0:=by omega
   have G:=Tn b
   have F:=Aq6 p t hp c d e n (i+1) u (by omega) (by omega)
   have q:W Bh6 2 [.list (p.map bY),.int p.length,.int i,u.enc,c,d,e]=some (I9 (Hw u (p.drop (i+1)))):=by
    rw[A5r]
    simp only[nxt (show i<4611686018427387904 by omega),aA,F]
   simp only[C,Ze,aB,Zf,b,aA,fG,aV,Zt,aU,bE]
   by_cases k1:p[i].k =1
   ·simp only[k1,Zd,Zt,g k1,aP,aA,fK,q]
   ·simp only[k1,Ze,aB,Zf,B k1,aP,aA,q]
theorem Bey (v:Val)(p:List Stp)(b:v.Ap<=1048576)(hp:C6 p=true):W Bh6 0 [v.enc,.list (p.map bY)]=some (I9 (Hw v p)):=by
 obtain⟨c,d⟩:=Q6 hp
 have a:=hp
 unfold C6 at a
 simp only[aG,bR]at a
 have:=Aq6 p (by omega) a.1 (.int 0) (.int 0) (.str ⟨#[]⟩) p.length 0 v (by omega) b
 simp only[aD,aE]at this
 rw[A3d]
 simp only[S5 p c (by omega),hp,bO,dK,aA,aS,aR,aB,Zf,Gi,this]
end Go.CT.Sch
namespace Go.CT.Sch
open Go.Proofs
theorem cmp0: ∀ (a b:List UInt8),Lib.compareBytes a b=0↔a=b
 | [],[]=>by simp[Lib.compareBytes]
 | [],_::_=>by simp[Lib.compareBytes]
 | _::_,[]=>by simp[Lib.compareBytes]
 | a::x,b::y=>by
  simp only[Lib.compareBytes]
  by_cases c:a<b
  ·have: ¬ a=b:=λe=>by subst e;exact absurd c (UInt8.lt_irrefl _)
   simp[c,this]
  ·by_cases d:b<a
   ·have: ¬ a=b:=λe=>by subst e;exact c d
    simp[c,d,this]
   ·have:a=b:=by
     have g: ¬ a.toNat<b.toNat:=λh=>c (fH.2 h)
     have i: ¬ b.toNat<a.toNat:=λh=>d (fH.2 h)
     exact gH.1 (by omega)
    subst this
    simp[c,cmp0 x y]
theorem Ayj (a b:ByteArray): ∃c:Int,W F78 0 [.str a,.str b]=some [.int c]/\(c=0↔a=b):=by
 refine⟨Lib.compareBytes a.data.toList b.data.toList,?_,?_⟩
 ·simp[Avy,Azx,Bfp,O.Qe]
 ·rw[cmp0];exact⟨Gm,λh=>by rw[h]⟩
theorem At2 (a b:Int): ∃c:Int,W F172 0 [.int a,.int b]=some [.int c]/\(c=0↔a=b):=by
 refine⟨if decide (a<b)=true then -1 else if decide (b<a)=true then 1 else 0,?_,Aku a b⟩
 rw[A44]
 simp only[A3f,eK,Zd,aR,aA,bO,aS,aB,Zf,dS,fX]
 split
 ·rfl
 ·split<;>rfl
theorem Awf (cs:List Int)(d:cs.length<=100): ∀ (n i:Nat),i+n=cs.length-> ∃r:Int,W F177 1 [.int 0,.list (cs.map .int),.int cs.length,.int i]=some [.int r]/\(r=0↔ ∀c∈cs.drop i,c=0)
 | 0,i,h=>by
  have e: ¬ i<cs.length:=by omega
  rw[Aqz,bA (by omega)]
  exact⟨0,by simp[e],by simp⟩
 | n+1,i,h=>by
  have b:i<cs.length:=by omega
  have g:=Bd (i:=i) (by omega)
  obtain⟨r,j,m⟩:=Awf cs d n (i+1) (by omega)
  rw[Aqz,aC b]
  simp only[dS,Aj,b,Zd,aA,aS,Zt,fG,aV,aU,bE,aJ b,aP,eK,eN,g,j]
  by_cases a:cs[i]=0
  ·exact⟨r,by simp[a],by simp only[bC,forall_eq_or_imp,a,true_and];exact m⟩
  ·exact⟨cs[i],by simp[a],by simp only[bC,forall_eq_or_imp,a,false_and]⟩
theorem Bes (cs:List Int)(a:cs.length<=100): ∃r:Int,W F177 0 [.list (cs.map .int)]=some [.int r]/\(r=0↔ ∀c∈cs,c=0):=by
 obtain⟨r,b,d⟩:=Awf cs a cs.length 0 (by omega)
 refine⟨r,?_,by simpa using d⟩
 rw[A4e]
 simp only[eZ,aH,aA]
 exact b
theorem Auq (a b:List Val)(u:a.length<=1099511627776)(o: ∀x∈a,∀y∈b,∃c:Int,W F171 0 [x.enc,y.enc]=some [.int c]/\(c=0↔x=y)): ∀ (n i:Nat),i+n=a.length->i<=b.length->
  ∃c:Int,W F174 1 [.list (a.map bK),.list (b.map bK),.list (a.map bK),.int a.length,.int i]=some [.int c]/\(c=0↔a.drop i=b.drop i)
 | 0,i,h,w=>by
  have q: ¬ i<a.length:=by omega
  have e1:a.drop i= []:=bA (by omega)
  rw[Am6,e1]
  by_cases g:a.length<b.length
  ·have z:(a.length:Int)<b.length:=by omega
   have: ¬ []=b.drop i:=λe=>by
    have:=congrArg dD e
    simp at this;omega
   exact⟨-1,by simp[q,g],by simp[this]⟩
  ·have z: ¬ (a.length:Int)<b.length:=by omega
   have:b.drop i= []:=bA (by omega)
   exact⟨0,by simp[q,g],by simp[this]⟩
 | n+1,i,h,w=>by
  have d:i<a.length:=by omega
  have A:=Bd (i:=i) (by omega)
  rw[Am6]
  by_cases m:i<b.length
  ·obtain⟨c,B,t⟩:=o _ (aF d) _ (aF m)
   obtain⟨r,r1,r2⟩:=Auq a b u o n (i+1) (by omega) (by omega)
   have g: ¬ (b.length:Int)<=i:=by omega
   have hd:(a.drop i=b.drop i)↔(a[i]=b[i]/\a.drop (i+1)=b.drop (i+1)):=by
    rw[aC d,aC m]
    simp only[gJ]
   simp only[dS,Aj,d,Zd,aA,aS,Zt,fG,aV,aU,bE,aJ d,aJ m,aP,eZ,aH,O.Gq,g,Ze,aB,Zf,B,bO,eK,eN,A,r1,hd]
   by_cases j:c=0
   ·exact⟨r,by simp[j],by rw[r2];simp[t.1 j]⟩
   ·exact⟨c,by simp[j],by simp[j];exact λe=>absurd (t.2 e) j⟩
  ·have g:(b.length:Int)<=i:=by omega
   have: ¬ a.drop i=b.drop i:=λe=>by
    have:=congrArg dD e
    simp at this;omega
   exact⟨1,by simp[d,g],by simp[this]⟩
theorem Azu (a b:List (ByteArray × Val))(u:a.length<=1099511627776)(o: ∀x∈a,∀y∈b,∃c:Int,W F176 0 [aW x,aW y]=some [.int c]/\(c=0↔x=y)): ∀ (n i:Nat),i+n=a.length->i<=b.length->
  ∃c:Int,W F175 1 [.list (a.map aW),.list (b.map aW),.list (a.map aW),.int a.length,.int i]=some [.int c]/\(c=0↔a.drop i=b.drop i)
 | 0,i,h,w=>by
  have q: ¬ i<a.length:=by omega
  have e1:a.drop i= []:=bA (by omega)
  rw[Amr,e1]
  by_cases g:a.length<b.length
  ·have z:(a.length:Int)<b.length:=by omega
   have: ¬ []=b.drop i:=λe=>by
    have:=congrArg dD e
    simp at this;omega
   exact⟨-1,by simp[q,g],by simp[this]⟩
  ·have z: ¬ (a.length:Int)<b.length:=by omega
   have:b.drop i= []:=bA (by omega)
   exact⟨0,by simp[q,g],by simp[this]⟩
 | n+1,i,h,w=>by
  have d:i<a.length:=by omega
  have A:=Bd (i:=i) (by omega)
  rw[Amr]
  by_cases m:i<b.length
  ·obtain⟨c,B,t⟩:=o _ (aF d) _ (aF m)
   obtain⟨r,r1,r2⟩:=Azu a b u o n (i+1) (by omega) (by omega)
   have g: ¬ (b.length:Int)<=i:=by omega
   have hd:(a.drop i=b.drop i)↔(a[i]=b[i]/\a.drop (i+1)=b.drop (i+1)):=by
    rw[aC d,aC m]
    simp only[gJ]
   simp only[dS,Aj,d,Zd,aA,aS,Zt,fG,aV,aU,bE,aJ d,aJ m,aP,eZ,aH,O.Gq,g,Ze,aB,Zf,B,bO,eK,eN,A,r1,hd]
   by_cases j:c=0
   ·exact⟨r,by simp[j],by rw[r2];simp[t.1 j]⟩
   ·exact⟨c,by simp[j],by simp[j];exact λe=>absurd (t.2 e) j⟩
  ·have g:(b.length:Int)<=i:=by omega
   have: ¬ a.drop i=b.drop i:=λe=>by
    have:=congrArg dD e
    simp at this;omega
   exact⟨1,by simp[d,g],by simp[this]⟩
theorem Beq: ∀a:Val,a.Ap<=1099511627776-> ∀b:Val,∃c:Int,W F171 0 [a.enc,b.enc]=some [.int c]/\(c=0↔a=b):=by
 refine eM λa g h L b=>?_
 have m1:=a.Bx
 have m2:=a.Bc
 obtain⟨t,u,r1⟩:=At2 a.k b.k
 obtain⟨w,z,r2⟩:=At2 a.n b.n
 obtain⟨A,B,C⟩:=Ayj a.s b.s
 obtain⟨F,j,m⟩:=Auq a.l b.l (by omega) (λx d y _=>g x d (by have:=dQ d;omega) y) a.l.length 0 (by omega) (cP _)
 have G: ∀x∈a.f,∀y∈b.f,∃c:Int,W F176 0 [aW x,aW y]=some [.int c]/\(c=0↔x=y):=by
  intro x d y _
  obtain⟨d1,H,I⟩:=Ayj x.1 y.1
  obtain⟨d2,J,v2⟩:=h x d (by have:=fQ d;omega) y.2
  obtain⟨r,e,i⟩:=Bes [d1,d2] (by simp)
  refine⟨r,?_,?_⟩
  ·rw[A2g]
   simp only[aI,aL]at e
   simp only[fR,fK,aA,H,J,bO,dH,e]
  ·rw[i];simp[I,v2,Prod.ext_iff]
 obtain⟨K,o,q⟩:=Azu a.f b.f (by omega) G a.f.length 0 (by omega) (cP _)
 obtain⟨r,e,i⟩:=Bes [t,w,A,F,K] (by simp)
 simp only[aE,aD]at j m o q
 simp only[aI,aL]at e
 refine⟨r,?_,?_⟩
 ·rw[A2h]
  simp only[cY,eW,eX,cH,cR,aA,u,z,B,bO,A0m,A2l,eZ,aH,j,o,dH,e]
 ·rw[i]
  simp only[bC,List.not_mem_nil,or_false,forall_eq_or_imp,forall_eq,r1,r2,C,m,q]
  cases a;cases b;simp
open Classical in
theorem Amd (a b:Val)(ha:a.Ap<=1099511627776):W F170 0 [a.enc,b.enc]=some [.bool (decide (a=b))]:=by
 obtain⟨c,h1,h2⟩:=Beq a ha b
 rw[A3e]
 simp only[h1,bO,bN,aA]
 congr 3
 simp only[h2]
end Go.CT.Sch
namespace Go.CT.Sch
open Go.Proofs
def emS (s:Sch)(c:Val):Bool:=(decide (c.k=5)&&decide (c.f.length=0))||(decide (c.k=4)&&decide (c.l.length=0)&&Ig s)
open Classical in
noncomputable def Atl (s:Sch) (cf lv:Val) (p:List Stp):Bool:=(Hw lv p).isSome &&(decide ((Hw cf p).getD Au=(Hw lv p).getD Au)||emS ((atV s p).getD Br) ((Hw cf p).getD Au))
theorem A82 (v:Val)(p:List Stp)(a:v.Ap<=1048576)(hp:C6 p=true)(b: ∀x∈p,x.k≠2):W F156 0 [v.enc,.str (Cj p)]=some (I9 (Hw v p)):=by
 rw[A4c]
 simp only[Aqc p hp b,eP,Bey v p a hp,I9,Jj]
theorem Bd7 (v:Val)(p:List Stp)(b:v.Ap<=1048576)(hp:C6 p=true):W F229 0 [v.enc,.str (Cj p)]=some [((Hw v p).getD Au).enc,.bool (Hw v p).isSome]:=by
 obtain⟨c,d⟩:=Q6 hp
 have a:=Bfk v p b c (by omega)
 unfold Bgz at a
 rw[if_pos hp]at a
 rw[A2r]
 simp only[Ac9 p hp,eP,eK,Zd,aR,aA,aS,aB,Zf,a]
theorem Zb {v:Val}{p:List Stp}(a:v.Ap<=1048576):((Hw v p).getD Au).Ap <=1048576:=by
 cases h:Hw v p with
 | none=>decide+kernel
 | some w=>have:=Ai6 p v w h;rw[aQ];omega
open Classical in
theorem Be3 (s:Sch)(cf lv:Val)(p:List Stp)(hs:s.Ap<=1048576)(hc:cf.Ap<=1048576)(hl:lv.Ap<=1048576)(hp:C6 p=true)(h2: ∀x∈p,x.k≠2):
  W F155 0 [s.enc,cf.enc,lv.enc,.str (Cj p)]=some [.bool (Atl s cf lv p)]:=by
 obtain⟨h1,h3⟩:=Q6 hp
 have hA:=Bih s p hs h1 (by omega)
 have m1:=Zb (p:=p) hc
 have hE:=Amd ((Hw cf p).getD Au) ((Hw lv p).getD Au) (by omega)
 have f0: ∀n:Nat,decide ((n:Int)=0)=decide (n=0):=λn=>decide_eq_decide.2 (by omega)
 have hk:IV.agg ((atV s p).getD Br).E1 =((atV s p).getD Br).enc :=(Sch.Es _).symm
 rw[gF]at hk
 unfold Bhh at hA
 rw[gF]at hA
 simp only[List.cons_append,bD]at hA
 rw[A5a]
 unfold Atl emS
 simp only[A82 cf p hc hp h2,A82 lv p hl hp h2,I9,Jj,dK,aA,aS,dC,eQ,hE,bO,Ax,An,Aqc p hp h2,eP,hA,Bam,bN,Gi,f0,hk,Adq]
 generalize decide ((Hw cf p).getD Au=(Hw lv p).getD Au)=E
 generalize decide (((Hw cf p).getD Au).k =5)=A
 generalize decide (((Hw cf p).getD Au).f.length =0)=B
 generalize decide (((Hw cf p).getD Au).k =4)=C
 generalize decide (((Hw cf p).getD Au).l.length =0)=D
 generalize Ig ((atV s p).getD Br)=K
 cases(Hw lv p).isSome<;>cases E<;>cases A<;>cases B<;>cases C<;>cases D<;>simp
end Go.CT.Sch
namespace Go.CT.Sch
open Go.Proofs
def Vs (s:Sch)(l:List Val)(k:ByteArray):Option Val:=l.find? λx=>decide (Dq x s.key=k)
def Bt:Val:=⟨5,0,Am,[],[]⟩
def mg:Nat->Sch->Val->Option Val->Val
 | 0,_,c,_=>c
 | n+1,s,c,o=>
  if(emS s c&&o.isSome)=true then o.getD c
  else if c.k=5 then c.f.foldl (λout p=>De out p.1 (mg n ((Eb s p.1).getD Br) p.2 (o.bind λv=>v.get p.1))) (o.getD Bt)
  else if(Ig s&&o.isSome)=true then⟨4,0,Am,((o.getD Bt).l.map λx=>((Vs s c.l (Dq x s.key)).map λe=>mg n (s.it.headD Br) e (some x)).getD x)++c.l.filter (λe=>(Vs s (o.getD Bt).l (Dq e s.key)).isNone),[]⟩
  else c
inductive Uv:Val->Prop
 | mk (v:Val):Ck v.f->(∀x∈v.l,Uv x)->(∀p∈v.f,Uv p.2)->Uv v
theorem Uv.strict {v:Val}(h:Uv v):Ck v.f:=by cases h;assumption
theorem Uv.Nv {v:Val}(h:Uv v): ∀x∈v.l,Uv x:=by cases h;assumption
theorem Uv.Ks {v:Val}(h:Uv v): ∀p∈v.f,Uv p.2:=by cases h;assumption
theorem Uv.get {v x:Val}{nm:ByteArray}(h:Uv v)(a:v.get nm=some x):Uv x:=h.Ks _ (D6 a).1
theorem Mo: ∀ (n:Nat) (v:Val),v.size<=n->v.valid=true->Uv v
 | 0,v,h,_=>by have:=v.size_pos;omega
 | n+1,v,h,a=> .mk v (Gp a) (λx b=>Mo n x (by have:=gQ b;omega) (Eu a b)) λp hp=>Mo n p.2 (by have:=gP hp;omega) (Gl a hp).1
theorem Auk {u x:Val}(nm:ByteArray)(h:u.k=5)(a:Uv u)(b:Uv x):Uv (De u nm x):=
 .mk _ (Hd _ _ _) (by simp[De]) λp hp=>by
  rcases(Jl h a.strict p).1 hp with⟨_,h⟩ | rfl
  ·exact a.Ks p h
  ·exact b
theorem Ajk: ∀ (n:Nat) (o:Option Sch) (v:Val) (p:List Stp) (ch:ByteArray->Bool),v.valid=true->Uv (pt n o v p ch).1
 | 0,_,v,_,_,h=>Mo _ v (aN _) h
 | n+1,o,v,p,ch,c=>by
  have e:=(Y9 (n+1) o v p ch c).2
  rw[Ey]at e ⊢
  by_cases a:kids o v= []
  ·rw[if_pos a];exact Mo _ v (aN _) c
  ·rw[if_neg a]at e ⊢
   obtain⟨s,rfl,A,r⟩:=Jh a
   rcases r with⟨j,b⟩ | ⟨B,m,g,b⟩
   ·have i:=(e j).strict (Gp c)
    simp only[j,Zt]at i ⊢
    rw[b]at i ⊢
    refine .mk _ i (by simp) λq t=>?_
    obtain⟨y,d,_,rfl⟩:=J2 t
    exact Ajk n _ y.2 _ ch (Gl c d).1
   ·have u: ¬ v.k=5:=by omega
    simp only[u,Zf]
    rw[b]
    refine .mk _ bT (λx w=>?_) (by simp)
    obtain⟨y,d,_,rfl⟩:=Nq w
    obtain⟨z,_,_⟩:=H3 (Eu c d) (Cp g y d)
    exact Auk _ ((Az5 _ _ _ _ _).trans z) (Ajk n _ y _ ch (Eu c d)) (.mk _ bT (by simp[K8]) (by simp[K8]))
theorem Atf {s:Sch}{v:Val}(set:List ByteArray)(is:Bool)(a:v.valid=true):Uv (J4 s v set is):=by
 unfold J4
 split
 ·split
  ·exact Ajk _ _ _ _ _ a
  ·split
   ·exact .mk _ bT (by simp) (by simp)
   ·exact .mk _ bT (by simp[Au]) (by simp[Au])
 ·exact Mo _ v (aN _) a
theorem A4v {u:Val}{nm key:ByteArray}(a:u.k=5)(b:Ck u.f)(c:nm≠key)(x:Val):(De u key x).get nm=u.get nm:=by
 apply Option.ext
 intro w
 rw[Tq rfl (Hd u key x),Tq a b,Jl a b]
 constructor
 ·rintro (⟨_,h⟩ | h)
  ·exact h
  ·exact absurd (congrArg Prod.fst h) c
 ·exact λh=> .inl ⟨c,h⟩
theorem Bhm (o:Option Val)(nm:ByteArray):(o.getD Bt).get nm=o.bind λv=>v.get nm:=by
 cases o<;>rfl
theorem Arx {u:Val}{nm:ByteArray}{x:Val}{m:Nat}(d:u.k=5)(a:x.Ap<=m+((u.get nm).map gR).getD 0):(De u nm x).Ap <=u.Ap+(1+nm.size+m):=by
 have e:Cq (De u nm x).f <=Cq (Ea u nm)+(1+nm.size+x.Ap):=by
  have h:Cq (De u nm x).f <=Cq (Ea u nm++ [(nm,x)]):=Ri _
  rw[It,Ca,Co]at h
  exact h
 have o:=u.B4
 have b:=(De u nm x).B4
 have g:(De u nm x).s =Am:=rfl
 have i:(De u nm x).l = []:=rfl
 have j:Ea u nm=u.f.filter λp=> !decide (p.1=nm):=by unfold Ea;rw[if_pos d]
 rw[g,i,Em,show Am.size=0 from rfl]at b
 rw[j]at e
 cases c:u.get nm with
 | none=>
  rw[c]at a
  have:=Kf (λp=> !decide (p.1=nm)) u.f
  simp only[dP,dB]at a
  omega
 | some y=>
  rw[c]at a
  have:=K0 (D6 c).1
  simp only[aP,aQ]at a
  omega
theorem Ahp (g:ByteArray × Val->Val): ∀ (l:List (ByteArray × Val)) (out:Val),Ck l->out.k=5->Ck out.f->(∀p∈l,(g p).Ap <=p.2.Ap+((out.get p.1).map gR).getD 0)->
  (l.foldl (λo p=>De o p.1 (g p)) out).Ap <=out.Ap+Cq l
 | [],out,_,_,_,_=>aN _
 | p::l,out,i,c,j,d=>by
  obtain⟨a,b⟩:=bM.1 i
  have m:=Arx (x:=g p) c (d p (by simp))
  have r:=Ahp g l (De out p.1 (g p)) b rfl (Hd _ _ _) λq h=>by
   rw[A4v c j (λe=>I1 (a q h) e.symm)]
   exact d q (by simp[h])
  rw[gK,Ca]
  omega
def Atv (s:Sch)(C:List Val):List Val->Nat
 | []=>0
 | x::L=>((Vs s C (Dq x s.key)).map gR).getD 0+Atv s C L
theorem Ww (s:Sch)(e:Val)(C:List Val)(k:ByteArray):Vs s (e::C) k=if Dq e s.key=k then some e else Vs s C k:=by
 unfold Vs
 rw[bV]
 by_cases c:Dq e s.key=k<;>simp[c]
theorem Ao3 (s:Sch): ∀L:List Val,Atv s [] L=0
 | []=>rfl
 | x::L=>by rw[Atv,Ao3 s L];rfl
theorem Agv (s:Sch)(e:Val)(C:List Val): ∀ (L:List Val) (acc:List ByteArray),Dv s.key acc L=true->(Dq e s.key∈acc->Atv s (e::C) L<=Atv s C L)/\Atv s (e::C) L<=Atv s C L+(if(Vs s L (Dq e s.key)).isSome then e.Ap else 0)
 | [],acc,_=>⟨λ_=>aN _,dZ _ _⟩
 | x::L,acc,h=>by
  have b:=Lm h x (by simp)
  have h':=h
  simp only[Dv,aG]at h'
  obtain⟨i1,i2⟩:=Agv s e C L (acc++ [Dq x s.key]) h'.2
  rw[Atv,Atv,Ww,Ww]
  by_cases c:Dq e s.key=Dq x s.key
  ·have d:=i1 (by rw[c];simp)
   have c':Dq x s.key=Dq e s.key:=c.symm
   rw[if_pos c,if_pos c']
   refine⟨λa=>absurd (c ▸ a) b,?_⟩
   simp only[aP,aQ,aZ,Zt]
   omega
  ·have c': ¬ Dq x s.key=Dq e s.key:=λe=>c e.symm
   rw[if_neg c,if_neg c']
   refine⟨λa=>?_,by omega⟩
   have:=i1 (dJ _ a)
   omega
theorem Ayt (s:Sch)(L:List Val)(acc:List ByteArray)(h:Dv s.key acc L=true): ∀C:List Val,Atv s C L+Du (C.filter λe=>(Vs s L (Dq e s.key)).isNone)<=Du C
 | []=>by rw[Ao3];exact aN _
 | e::C=>by
  have c:=Ayt s L acc h C
  have a:=(Agv s e C L acc h).2
  rw[aY,Er]
  cases b:Vs s L (Dq e s.key) with
  | none=>
   rw[b]at a
   simp only[cI,aB,Zf,Option.isNone_none,Zt]at a ⊢
   rw[Er];omega
  | some y=>
   rw[b]at a
   simp only[aZ,Zt,Option.isNone_some,aB,Zf]at a ⊢
   omega
theorem Ali: ∀ (n:Nat) (s:Sch) (c:Val) (o:Option Val),SB s->c.valid=true->Fit s c->(∀v,o=some v->Uv v/\Fit s v)->(mg n s c o).Ap <=c.Ap+(o.map gR).getD 0
 | 0,s,c,o,_,_,_,_=>dZ _ _
 | n+1,s,c,o,g,u,a,q=>by
  have S:=c.B4
  rw[mg]
  split
  ·cases o with
   | none=>exact dZ _ _
   | some v=>exact gL _ _
  ·split
   ·rename_i F
    have G:(o.getD Bt).k =5/\Ck (o.getD Bt).f /\(o.getD Bt).Ap <=6+(o.map gR).getD 0:=by
     cases o with
     | none=>exact⟨rfl,bT,by show Bt.Ap<=6+0;rw[fT];exact aN _⟩
     | some v=>exact⟨by rw[aQ,(q v rfl).2.kind,<-a.kind,F],(q v rfl).1.strict,gL _ _⟩
    have z:(o.getD Bt).Ap +Cq c.f<=c.Ap+(o.map gR).getD 0:=by omega
    refine cK (Ahp (λp=>mg n ((Eb s p.1).getD Br) p.2 (o.bind λv=>v.get p.1)) c.f _ (Gp u) G.1 G.2.1 λp hp=>?_) z
    obtain⟨t,d⟩:=bZ.1 (a.known p hp)
    show(mg n ((Eb s p.1).getD Br) p.2 (o.bind λv=>v.get p.1)).Ap <=_
    rw[Bhm,d,aQ]
    refine Ali n t p.2 _ (g.sub d) (Gl u hp).1 (a.fld p hp t d) λv H=>?_
    obtain⟨w,rfl,I⟩:=cJ.1 H
    obtain⟨A,r⟩:=q w rfl
    exact⟨A.get I,r.fld _ (D6 I).1 t d⟩
   ·split
    ·rename_i F b
     rw[aG]at b
     obtain⟨v,rfl⟩:=bZ.1 b.2
     obtain⟨A,r⟩:=q v rfl
     have B:=r.keyed b.1
     have H:=v.B4
     have T:=Ayt s v.l [] B c.l
     have M: ∀L:List Val,(∀x∈L,x∈v.l)->Du (L.map λx=>((Vs s c.l (Dq x s.key)).map λe=>mg n (s.it.headD Br) e (some x)).getD x)<=Du L+Atv s c.l L:=by
      intro L
      induction L with
      | nil=>intro _;exact aN _
      | cons x L N=>
       intro J
       have i:=N λy C=>J y (by simp[C])
       have j:=J x (by simp)
       rw[aI,Er,Er,Atv]
       cases Q:Vs s c.l (Dq x s.key) with
       | none=>simp only[dP,dB];omega
       | some e=>
        have K:e∈c.l:=bX Q
        simp only[aP,aQ]
        obtain⟨t,m⟩:=bH.1 (g.list (E0.1 b.1).1)
        have d:t∈s.it:=by rw[m];simp
        have:=Ali n t e (some x) (g.I3 d) (Eu u K) (a.el e K t d) λy C=>by cases C;exact⟨A.Nv x j,r.el x j t d⟩
        have e1:s.it.headD Br=t:=by rw[m];rfl
        simp only[aP,aQ]at this
        rw[<-e1]at this
        omega
     have R:=M v.l λ_ h=>h
     simp only[aQ,aP]
     rw[fT]
     simp only[eL,cX,dG,Co,R2,show Am.size=0 from rfl]
     omega
    ·exact dZ _ _
end Go.CT.Sch
namespace Go.CT.Sch
open Go.Proofs
theorem Ab4 (u:Val)(nm:ByteArray)(x:Val):(De u nm x).f.length <=u.f.length+1:=by
 have a:=Ap2 (Ea u nm++ [(nm,x)])
 have b:=W8 u nm
 rw[aK,bF]at a
 show(Zz (Ea u nm++ [(nm,x)])).length <=_
 omega
theorem Ace {K:Nat}{u x:Val}(nm:ByteArray)(a:Ha K u)(b:Ha K x)(c:u.f.length+1<=K):Ha K (De u nm x):=by
 obtain⟨m,rfl⟩: ∃m,K=m+1:=⟨K - 1,by omega⟩
 exact Abb nm a b (by omega)
theorem Ahj {K:Nat}(g:ByteArray × Val->Val): ∀ (l:List (ByteArray × Val)) (out:Val),out.f.length+l.length<=K->Ha K out->(∀p∈l,Ha K (g p))->Ha K (l.foldl (λo p=>De o p.1 (g p)) out)
 | [],_,_,h,_=>h
 | p::l,out,b,h,a=>by
  simp only[bP]at b
  have d:=Ab4 out p.1 (g p)
  rw[gK]
  exact Ahj g l _ (by omega) (Ace _ h (a p (by simp)) (by omega)) λq c=>a q (by simp[c])
theorem Ay2 {N:Nat}{v x:Val}{nm:ByteArray}(h:Ha N v)(a:v.get nm=some x):Ha N x:=h.Ks (D6 a).1
theorem Aj5 {N M:Nat} : ∀ (n:Nat) (s:Sch) (c:Val) (o:Option Val),Ha N c->(∀v,o=some v->Ha M v)->Ha (M+N) (mg n s c o)
 | 0,_,c,_,h,_=>h.mono (by omega)
 | n+1,s,c,o,a,b=>by
  rw[mg]
  split
  ·cases o with
   | none=>exact a.mono (by omega)
   | some v=>exact(b v rfl).mono (by omega)
  ·split
   ·have m:Ha (M+N) (o.getD Bt)/\(o.getD Bt).f.length <=M:=by
     cases o with
     | none=>exact⟨by constructor<;>simp[Bt],cP _⟩
     | some v=>exact⟨(b v rfl).mono (by omega),(b v rfl).O3⟩
    have B:=a.O3
    refine Ahj (λp=>mg n ((Eb s p.1).getD Br) p.2 (o.bind λv=>v.get p.1)) c.f _ (by omega) m.1 λp hp=>?_
    refine Aj5 n _ p.2 _ (a.Ks hp) λv d=>?_
    obtain⟨w,rfl,q⟩:=cJ.1 d
    exact Ay2 (b w rfl) q
   ·split
    ·rename_i C g
     rw[aG]at g
     obtain⟨v,rfl⟩:=bZ.1 g.2
     have d:=b v rfl
     refine .mk _ ?_ (cP _) ?_ (by simp)
     ·have F:=d.Vm
      have G:=a.Vm
      have H:=cL (λe=>(Vs s v.l (Dq e s.key)).isNone) c.l
      simp only[cX,aK,aH,aQ]
      omega
     ·intro x i
      rcases cE.1 i with i | i
      ·obtain⟨y,r,rfl⟩:=aX.1 i
       have j:y∈v.l:=r
       cases t:Vs s c.l (Dq y s.key) with
       | none=>exact(d.Nv j).mono (by omega)
       | some e=>
        have u:e∈c.l:=bX t
        exact Aj5 n _ e (some y) (a.Nv u) λz A=>by cases A;exact d.Nv j
      ·exact(a.Nv (cT.1 i).1).mono (by omega)
    ·exact a.mono (by omega)
theorem Adw (v:Val)(b:Ha 1073741824 v):W F200 0 [v.enc]=some [v.enc]:=by
 have h:=Mr [v] (by simp) (λx a=>by simp at a;subst a;exact b)
 simp only[aI,aL]at h
 rw[dE]at h
 rw[A3g]
 simp only[dH,aA,h,fN,cX,aI,aL]
 rfl
theorem Afs (s:Sch)(l:List Val)(k:ByteArray)(e: ∀x∈l,x.Ap<=1048576/\isKey x s.key=true)(j:l.length<=1048576)(a b c:IV)(g:(IV.agg [.int 0,.int 0,.str ⟨#[]⟩,.list [],.list []])=Au.enc): ∀ (n i:Nat),i+n=l.length->
  W F202 1 [.str k,.list (l.map bK),.int l.length,.int i,s.enc,a,b,c]=some [((Vs s (l.drop i) k).getD Au).enc,.bool (Vs s (l.drop i) k).isSome]
 | 0,i,h=>by
  have:i=l.length:=by omega
  subst this
  rw[Anp,aM]
  simp only[ltn,aA,aS,aB,Zf,dC,g]
  rfl
 | n+1,i,h=>by
  have d:i<l.length:=by omega
  obtain⟨m,o⟩:=e _ (aF d)
  have q:=Afs s l k e j a b c g n (i+1) (by omega)
  rw[Anp,aC d,Ww]
  simp only[lti d,aA,aS,Zt,Jq bK d,Aqy s l[i] m,o,eP,fY,nxt (show i<4611686018427387904 by omega),q]
  by_cases c:Dq l[i] s.key=k<;>simp[c]
theorem Au3 (s:Sch)(l:List Val)(k:ByteArray)(a: ∀x∈l,x.Ap<=1048576/\isKey x s.key=true)(b:l.length<=1048576):W F202 0 [s.enc,.list (l.map bK),.str k]=some [((Vs s l k).getD Au).enc,.bool (Vs s l k).isSome]:=by
 have:=Afs s l k a b (.int 0) (.int 0) (.str ⟨#[]⟩) rfl l.length 0 (by omega)
 simp only[aD,aE]at this
 rw[A3u,Gi]
 exact this
def Old (s:Sch)(o:Option Val):Prop:= ∀v,o=some v->v.Ap<=1048576/\Uv v/\Fit s v
def MgP (n:Nat):Prop:= ∀ (s:Sch) (c:Val) (o:Option Val),c.size<=n->SB s->s.Ap<=1048576->c.Ap<=1048576->c.valid=true->Fit s c->Old s o->
 W Bhb 0 [s.enc,c.enc,(o.getD Au).enc,.bool o.isSome]=some [(mg n s c o).enc]
theorem zget (o:Option Val)(nm:ByteArray):(o.getD Au).get nm=o.bind λv=>v.get nm:=by cases o<;>rfl
theorem Old.get {s t:Sch}{o:Option Val}(h:Old s o){nm:ByteArray}(b:Eb s nm=some t):Old t (o.bind λv=>v.get nm):=by
 intro v c
 obtain⟨w,rfl,a⟩:=cJ.1 c
 obtain⟨g,d,e⟩:=h w rfl
 have:nm.size+v.Ap<w.Ap:=fQ (D6 a).1
 exact⟨by omega,d.get a,e.fld _ (D6 a).1 t b⟩
theorem Apf {s:Sch}{o:Option Val}(h:Old s o):(o.getD Au).Ap <=1048576:=by
 cases o with
 | none=>decide+kernel
 | some v=>exact(h v rfl).1
theorem Ape {n:Nat}{s:Sch}{c:Val}{o:Option Val}(d:c.Ap<=1048576)(a:Old s o): ∀ (t:Sch),Ha 2097152 (mg n t c o):=λt=>
 Aj5 (N:=1048576) (M:=1048576) n t c o (Dd c (by omega)) λv b=>Dd v (by have:=(a v b).1;omega)
theorem A8x (n:Nat)(y:MgP n)(s:Sch)(c:Val)(o:Option Val)(H:c.size<=n+1)(d:SB s)(z:s.Ap<=1048576)(I:c.Ap<=1048576)(A:c.valid=true)(m:Fit s c)(q:Old s o)(r a2 a3:IV)(b0:Val)(B:Ha 2097152 b0)(C:b0.f.length<=1048576):
  W Bhb 2 [.list (c.f.map aW),.int c.f.length,.int (0:Nat),s.enc,(o.getD Au).enc,r,a2,a3,b0.enc]=some [(c.f.foldl (λout p=>De out p.1 (mg n ((Eb s p.1).getD Br) p.2 (o.bind λv=>v.get p.1))) b0).enc]:=by
 have hlen:=c.Bc
 refine Ahq c.f (λi (b:Val)=>Ha 2097152 b/\b.f.length<=1048576+i) (λi b=>W Bhb 2 [.list (c.f.map aW),.int c.f.length,.int i,s.enc,(o.getD Au).enc,r,a2,a3,b.enc]) (λout p=>De out p.1 (mg n ((Eb s p.1).getD Br) p.2 (o.bind λv=>v.get p.1))) (λb=>some [b.enc]) b0 ?_ ?_ ⟨B,by omega⟩
 ·intro i j b u
  have e:=aF j
  have J:=fQ e
  have K:=gP e
  obtain⟨t,a⟩:=bZ.1 (m.known _ e)
  have F:=Aly a
  have g:=q.get a
  have w:=Ape (n:=n) (c:=c.f[i].2) (by omega) g t
  have G:=y t c.f[i].2 (o.bind λv=>v.get c.f[i].1) (by omega) (d.sub a) (by omega) (by omega) (Gl A e).1 (m.fld _ e t a) g
  have x:=Aan (o.getD Au) c.f[i].1 (by have:=Apf q;omega)
  have h:=Aiw b c.f[i].1 (mg n t c.f[i].2 (o.bind λv=>v.get c.f[i].1)) (u.1.mono (by omega)) (w.mono (by omega))
  rw[dE]at h
  rw[zget]at x
  refine⟨?_,?_⟩
  ·rw[Ao8]
   simp only[lti j,aA,aS,Zt,Jq aW j,fR,Aqq s _ z d,a,oE,aQ,aZ,eP,x,I9,Jj,fK,dC,eQ,G,bO,h,fN,nxt (show i<4611686018427387904 by omega)]
  ·simp only[a,aQ]
   have:=Ab4 b c.f[i].1 (mg n t c.f[i].2 (o.bind λv=>v.get c.f[i].1))
   exact⟨Ace _ u.1 w (by omega),by omega⟩
 ·intro b _
  rw[Ao8]
  simp only[ltn,aA,aS,aB,Zf]
def mgE (n:Nat)(s t:Sch)(c:Val)(x:Val):Val:=((Vs s c.l (Dq x s.key)).map λe=>mg n t e (some x)).getD x
theorem Wf (s:Sch)(c lv:Val)(r:c.Ap<=1048576)(b:lv.Ap<=1048576)(t: ∀x∈c.l,isKey x s.key=true)(a: ∀x∈lv.l,isKey x s.key=true)(o a2 a3:IV): ∀ (m i:Nat) (acc:List Val),i+m=c.l.length->acc.length<=1048576+i->(∀x∈acc,Ha 1073741824 x)->
  W Bg4 3 [.list (c.l.map bK),.int c.l.length,.int i,s.enc,lv.enc,o,a2,a3,.list (acc.map bK)]=some (gV ⟨4,0,Am,acc++(c.l.drop i).filter (λe=>(Vs s lv.l (Dq e s.key)).isNone),[]⟩)
 | 0,i,acc,h,w,d=>by
  have:i=c.l.length:=by omega
  subst this
  have y:=c.Bx
  have u:=Mr acc (by omega) d
  rw[dE]at u
  rw[Ao2,aM,cF,aO,dE]
  simp only[ltn,aA,aS,aB,Zf,u,fN]
 | m+1,i,acc,h,w,d=>by
  have g:i<c.l.length:=by omega
  have y:=c.Bx
  have z:=lv.Bx
  have A:=aF g
  have B:=dQ A
  have i1:=Wf s c lv r b t a o a2 a3 m (i+1) acc (by omega) (by omega) d
  have i2:=Wf s c lv r b t a o a2 a3 m (i+1) (acc++ [c.l[i]]) (by omega) (by simp;omega) (λx j=>by
   rcases cE.1 j with h | h
   ·exact d x h
   ·rw[bU]at h;subst h;exact Dd _ (by omega))
  have q:=Au3 s lv.l (Dq c.l[i] s.key) (λx j=>⟨by have:=dQ j;omega,a x j⟩) (by omega)
  rw[Ao2,aC g,aY]
  simp only[lti g,aA,aS,Zt,Jq bK g,Aqy s c.l[i] (by omega),eP,cH,q,dK,dH,apm bK (n:=80) acc c.l[i] (by omega)]
  rw[Apx,Apx]
  simp only[nxt (show i<4611686018427387904 by omega),aA,i1,i2]
  cases Vs s lv.l (Dq c.l[i] s.key)<;>simp
theorem Aq5 (n:Nat)(L:MgP n)(s t:Sch)(c lv:Val)(S:c.size<=n+1)(d:SB s)(T:s.Ap<=1048576)(M:c.Ap<=1048576)(N:c.valid=true)(b:s.it= [t])(Q:Fit s c)(g:lv.Ap<=1048576)(j:Uv lv)(o:Fit s lv)(A: ∀x∈c.l,isKey x s.key=true)(q: ∀x∈lv.l,isKey x s.key=true)(r a2 a3:IV): ∀ (m i:Nat) (acc:List Val),i+m=lv.l.length->acc.length<=i->(∀x∈acc,Ha 1073741824 x)->
  W Bg4 1 [.list (lv.l.map bK),.int lv.l.length,.int i,s.enc,c.enc,lv.enc,r,a2,a3,.list (acc.map bK)]=some (gV ⟨4,0,Am,(acc++(lv.l.drop i).map (mgE n s t c))++c.l.filter (λe=>(Vs s lv.l (Dq e s.key)).isNone),[]⟩)
 | 0,i,acc,h,U,B=>by
  have:i=lv.l.length:=by omega
  subst this
  have X:=c.Bx
  have C:=lv.Bx
  have F:=Wf s c lv M g A q r a2 a3 c.l.length 0 acc (by omega) (by omega) B
  rw[aE]at F
  simp only[aD]at F
  rw[Ad2,aM,aL,aO]
  simp only[ltn,aA,aS,aB,Zf,cH,Gi]
  exact F
 | m+1,i,acc,h,U,B=>by
  have u:i<lv.l.length:=by omega
  have X:=c.Bx
  have C:=lv.Bx
  have G:=aF u
  have h1:=dQ G
  have a:t∈s.it:=by rw[b];simp
  have Y:=fJ a
  have step: ∀x:Val,Ha 1073741824 x->W Bg4 2 [.list (lv.l.map bK),.int lv.l.length,.int i,s.enc,c.enc,lv.enc,r,a2,a3,.list (acc.map bK),x.enc]=some (gV ⟨4,0,Am,(acc++x::(lv.l.drop (i+1)).map (mgE n s t c))++c.l.filter (λe=>(Vs s lv.l (Dq e s.key)).isNone),[]⟩):=by
   intro x w
   have i2:=Aq5 n L s t c lv S d T M N b Q g j o A q r a2 a3 m (i+1) (acc++ [x]) (by omega) (by simp;omega) (λy H=>by
    rcases cE.1 H with h | h
    ·exact B y h
    ·rw[bU]at h;subst h;exact w)
   rw[A2n]
   simp only[dH,aA,apm bK (n:=80) acc x (by omega),nxt (show i<4611686018427387904 by omega),i2,bI,bG]
  have I:=Au3 s c.l (Dq lv.l[i] s.key) (λx w=>⟨by have:=dQ w;omega,A x w⟩) (by omega)
  rw[Ad2,aC u,aI]
  simp only[lti u,aA,aS,Zt,Jq bK u,Aqy s lv.l[i] (by omega),eP,cH,I]
  unfold mgE at step ⊢
  cases J:Vs s c.l (Dq lv.l[i] s.key) with
  | none=>
   have:=step lv.l[i] (Dd _ (by omega))
   simp only[cI,aB,Zf,dP,dB]
   exact this
  | some e=>
   have z:e∈c.l:=bX J
   have Z:=dQ z
   have aa:=gQ z
   have hold:Old t (some lv.l[i]):=λy H=>by cases H;exact⟨by omega,j.Nv _ G,o.el _ G t a⟩
   have R:=L t e (some lv.l[i]) (by omega) (d.I3 a) (by omega) (by omega) (Eu N z) (Q.el e z t a) hold
   have K:=Ape (n:=n) (c:=e) (by omega) hold t
   have:=step (mg n t e (some lv.l[i])) (K.mono (by omega))
   have ix:gO (.list (s.it.map cU)) (.int 0)=some t.enc:=by rw[b];rfl
   simp only[aQ,aZ]at R
   simp only[aZ,Zt,dR,aA,ix,aQ,R,bO,aP]
   exact this
theorem Bdl (n:Nat)(j:MgP n)(s t:Sch)(c lv:Val)(m:c.size<=n+1)(a:SB s)(o:s.Ap<=1048576)(q:c.Ap<=1048576)(r:c.valid=true)(b:s.it= [t])(u:Fit s c)(d:lv.Ap<=1048576)(g:Uv lv)(h:Fit s lv)(w: ∀x∈c.l,isKey x s.key=true)(i: ∀x∈lv.l,isKey x s.key=true):
  W Bg4 0 [s.enc,c.enc,lv.enc]=some (gV ⟨4,0,Am,lv.l.map (mgE n s t c)++c.l.filter (λe=>(Vs s lv.l (Dq e s.key)).isNone),[]⟩):=by
 have:=Aq5 n j s t c lv m a o q r b u d g h w i (.int 0) (.int 0) (.str ⟨#[]⟩) lv.l.length 0 [] (by omega) (aN _) (by simp)
 simp only[aD,aE,bD,aL]at this
 rw[Ana]
 simp only[cH,aA,Gi]
 exact this
theorem Bb2 {c:Val}(h:c.valid=true)(a:c.k=5):c=⟨5,0,Am,[],c.f⟩:=by
 obtain⟨b,d,e⟩:=(D.O9 h).map a
 conv=>lhs;rw[Val.eta c,b,d,e,a]
theorem A36 {c:Val}(h:c.valid=true)(a:c.k=4):c=⟨4,0,Am,c.l,[]⟩:=by
 obtain⟨b,d,e⟩:=(D.O9 h).list a
 conv=>lhs;rw[Val.eta c,b,d,e,a]
end Go.CT.Sch
namespace Go.CT.Sch
open Go.Proofs
def Was (s:Sch)(o:Option Val):Prop:= ∀v,o=some v->Uv v/\Fit s v
theorem Was.get {s t:Sch}{o:Option Val}(h:Was s o){nm:ByteArray}(b:Eb s nm=some t):Was t (o.bind λv=>v.get nm):=by
 intro v c
 obtain⟨w,rfl,a⟩:=cJ.1 c
 obtain⟨d,e⟩:=h w rfl
 exact⟨d.get a,e.fld _ (D6 a).1 t b⟩
structure KL (s t:Sch)(c v:Val):Prop where
 ks:Ig s=true
 it:s.it= [t]
 u: ∃u,Eb t s.key=some u/\u.k=3
 vs:s.valid=true
 vc:c.valid=true
 fc:Fit s c
 nv:Uv v
 fv:Fit s v
theorem KL.mem {s t:Sch}{c v:Val}(h:KL s t c v):t∈s.it:=by rw[h.it];simp
theorem KL.kc {s t:Sch}{c v:Val}(h:KL s t c v): ∀e∈c.l,isKey e s.key=true:=Cp (h.fc.keyed h.ks)
theorem KL.kv {s t:Sch}{c v:Val}(h:KL s t c v): ∀e∈v.l,isKey e s.key=true:=Cp (h.fv.keyed h.ks)
end Go.CT.Sch
namespace Go.CT.Sch
open Go.Proofs
theorem Awm {u x w:Val}{key:ByteArray}{sv:Val}{q:List Stp}(d:u.k=5)(e:Ck u.f)(A:x.k=5)(i:x.get key=some sv)(g:Hw x q=some w)(h:Hw u q=some w)(j:q≠ []):Hw (De u key sv) q=some w:=by
 cases q with
 | nil=>exact absurd rfl j
 | cons a q=>
  simp only[Hw,cJ]at g h ⊢
  obtain⟨y,e1,m⟩:=g
  obtain⟨z,b,o⟩:=h
  have r:a.k=1:=by
   apply cW
   intro t
   unfold Nl at e1
   rw[if_neg t,if_neg (by omega)]at e1;cases e1
  unfold Nl at e1 b ⊢
  rw[if_pos r]at e1 b ⊢
  by_cases c:a.nm=key
  ·rw[c,O2 u d e]
   rw[c,i]at e1
   cases e1
   exact⟨_,rfl,m⟩
  ·exact⟨z,Al0 u d e c b,o⟩
theorem Ate {v:Val}(a:v.valid=true){x:ByteArray × Val}(b:x∈v.f):Dr (Ch x.1)=true:=by
 have:=(Gl a b).2
 unfold Dr Ch
 simp[this]
theorem As6 {x:Val}(a:x.valid=true){key:ByteArray}(d:isKey x key=true):Dr (R5 key x)=true:=by
 obtain⟨h,c,i⟩:=H3 a d
 have e:=(Gl a c).2
 have g:=Ain (Gl a c).1 rfl
 have b:Jw (Dq x key)=true:=g
 unfold Dr R5
 simp[e,b]
theorem Aix: ∀ (n:Nat) (o:Option Sch) (v:Val) (p:List Stp) (t:ByteArray),v.size<=n->v.valid=true->t∈lv n o v p->
  ∃q w,t=Cj (p++q)/\Hw v q=some w/\(∀x∈q,Dr x=true)/\(kids o v≠ []->q≠ [])/\ ∀ch,ch t=true->(pt n o v p ch).2 =true/\Hw (pt n o v p ch).1 q=some w
 | 0,o,v,p,t,h,_,_=>by have:=v.size_pos;omega
 | n+1,o,v,p,t,h,e,g=>by
  rw[lv]at g
  by_cases c:kids o v= []
  ·rw[if_pos c,bU]at g
   subst g
   refine⟨[],v,by simp,rfl,by simp,λh=>absurd c h,λch B=>?_⟩
   rw[Ey,if_pos c]
   exact⟨B,rfl⟩
  ·rw[if_neg c]at g
   obtain⟨x,A,g⟩:=cM.1 g
   obtain⟨ab,_⟩:=Ms A
   obtain⟨q,w,e1,I,Y,e4,e5⟩:=Aix n x.2.2 x.2.1 (p++ [x.1]) t (by omega) (Pz e A) g
   rw[bI,bG]at e1
   obtain⟨s,rfl,h1,C⟩:=Jh c
   rcases C with⟨K,i⟩ | ⟨Z,aa,d,i⟩
   ·rw[i]at A
    obtain⟨y,b,rfl⟩:=aX.1 A
    have hg:v.get y.1=some y.2:=get_of_mem e b
    refine⟨Ch y.1::q,w,e1,?_,?_,λ_=>by simp,λch B=>?_⟩
    ·simp only[Hw,Nl,Ch,Zt,hg,aA];exact I
    ·intro z a
     rcases bC.1 a with rfl | a
     ·exact Ate e b
     ·exact Y z a
    ·obtain⟨L,J⟩:=e5 ch B
     have M:=A59 (r:=λx=>pt n x.2.2 x.2.1 (p++ [x.1]) ch) b L
     have N:Ck (pt (n+1) (some s) v p ch).1.f :=K4 e K
     have j:=Az5 (n+1) (some s) v p ch
     have hf:(pt (n+1) (some s) v p ch).1.f =fieldsOf (Gc (λx=>pt n x.2.2 x.2.1 (p++ [x.1]) ch) (v.f.map (Cy s))):=by
      rw[Ey,if_neg c,i];simp only[K,Zt,dG]
     have C:(pt (n+1) (some s) v p ch).2 =true:=by
      rw[Ey,if_neg c,i]
      cases F:Gc (λx=>pt n x.2.2 x.2.1 (p++ [x.1]) ch) (v.f.map (Cy s)) with
      | nil=>rw[F]at M;simp[fieldsOf]at M
      | cons=>rfl
     have G:=(Tq (j.trans K) N).2 (by rw[hf];exact M)
     refine⟨C,?_⟩
     simp only[Hw,Nl,Ch,Zt,G,aA]
     exact J
   ·rw[i]at A
    obtain⟨y,b,rfl⟩:=aX.1 A
    have H:=Cp d y b
    have m:=Eu e b
    obtain⟨y5,ym,yg⟩:=H3 m H
    have Q:=Ajw d y b
    refine⟨R5 s.key y::q,w,e1,?_,?_,λ_=>by simp,λch B=>?_⟩
    ·have R: ¬ (3:Int)=1:=by decide
     have S: ¬ (3:Int)=2:=by decide
     simp only[Hw,Nl,R5,R,S,Zf,Z,Zt,Q,aA];exact I
    ·intro z a
     rcases bC.1 a with rfl | a
     ·exact As6 m H
     ·exact Y z a
    ·obtain⟨L,J⟩:=e5 ch B
     have T: ∀z∈v.l,(pt n (Bo s z).2.2 (Bo s z).2.1 (p++ [(Bo s z).1]) ch).1.k =5/\Ck (pt n (Bo s z).2.2 (Bo s z).2.1 (p++ [(Bo s z).1]) ch).1.f :=λz a=>by
      obtain⟨z5,_,_⟩:=H3 (Eu e a) (Cp d z a)
      exact⟨(Az5 _ _ _ _ _).trans z5,K4 (Eu e a) z5⟩
     have u:=Ajc (r:=λx=>pt n x.2.2 x.2.1 (p++ [x.1]) ch) d T y b L
     have n5: ¬ v.k=5:=by omega
     have F:(pt (n+1) (some s) v p ch).1.l =Ee (Gc (λx=>pt n x.2.2 x.2.1 (p++ [x.1]) ch) (v.l.map (Bo s))):=by
      rw[Ey,if_neg c,i];simp only[n5,Zf,cX]
     have C:(pt (n+1) (some s) v p ch).2 =true:=by
      rw[Ey,if_neg c,i]
      cases F:Gc (λx=>pt n x.2.2 x.2.1 (p++ [x.1]) ch) (v.l.map (Bo s)) with
      | nil=>rw[F]at u;simp[Ee]at u
      | cons=>rfl
     have j:=Az5 (n+1) (some s) v p ch
     refine⟨C,?_⟩
     have R: ¬ (3:Int)=1:=by decide
     have S: ¬ (3:Int)=2:=by decide
     simp only[Hw,Nl,R5,R,S,Zf,j,Z,Zt,F,u,aA]
     by_cases cq:q= []
     ·subst cq
      have U:y=w:=dO I
      have X:(pt n (Bo s y).2.2 (Bo s y).2.1 (p++ [(Bo s y).1]) ch).1 =w:=dO J
      rw[X,<-U,Avt m yg];rfl
     ·exact Awm (T y b).1 (T y b).2 y5 yg I J cq
end Go.CT.Sch
namespace Go.CT.Sch
open Go.Proofs
end Go.CT.Sch
namespace Go.CT.Sch
open Go.Proofs
def Shp (u:Val):Prop:=u=⟨5,0,Am,[],u.f⟩
theorem A4r (u:Val)(nm:ByteArray)(x:Val):Shp (De u nm x):=rfl
end Go.CT.Sch
namespace Go.CT.Sch
open Go.Proofs
theorem V5: ∀n,MgP n
 | 0=>λs c o h=>by have:=c.size_pos;omega
 | n+1=>λs c o J d K I q z g=>by
  have R:=Apf g
  have A:=z.kind
  have L: ∀v,o=some v->v.k=c.k:=λv q=>by rw[(g v q).2.2.kind,A]
  have r:=Adw c (Dd c (by omega))
  have i:=Adw (o.getD Au) (Dd _ (by omega))
  have S: ∀m:Nat,gX (.int (m:Int)) (.int 0)=some (.bool (!decide (m=0))):=λm=>by
   rw[fX];congr 2
   by_cases c:m=0
   ·subst c;rfl
   ·simp only[c,Ze,bJ];exact decide_eq_true (by omega)
  rw[A04,mg]
  simp only[cY,cH,cR,aA,bN,aS,Gi,S,Adq,bO,Ax,An]
  unfold emS
  by_cases B:c.k=5
  ·have X: ¬ c.k=4:=by omega
   have nk:Ig s=false:=by
    rw[<-eU]
    intro h
    have:=(E0.1 h).1
    omega
   by_cases u:c.f.length=0
   ·simp only[B,u,nk,Zd,aR,aB,Zf,Zt,cN,gW,bL]
    cases o with
    | none=>
     have j:=cC.1 u
     have Q:=Bb2 q B
     rw[j]at Q
     simp only[cI,aB,Zf,r,bO,j,List.foldl_nil,dB]
     rw[Q];rfl
    | some v=>simp only[aZ,Zt,i,bO];rfl
   ·have w:=Ac0 [] (by constructor<;>simp)
    rw[dE]at w
    have hlen:=c.Bc
    simp only[B,u,nk,Zd,Ze,bJ,Zt,aB,Zf,dY,fP,cO,show ¬ (5:Int)=4 by omega]
    simp only[aL]at w
    simp only[w,fN]
    cases o with
    | none=>
     have:=A8x n (V5 n) s c none J d K I q z g (.int 0) (.int 0) (.str ⟨#[]⟩) Bt (by constructor<;>simp[Bt]) (cP _)
     simp only[aD]at this
     simp only[cI,aB,Zf,dC,aA,Aoq,cR,Gi,eQ]
     exact this
    | some v=>
     have M:v.k=5:=by rw[L v rfl,B]
     have:=A8x n (V5 n) s c (some v) J d K I q z g (.int 0) (.int 0) (.str ⟨#[]⟩) v (Dd v (by have:=(g v rfl).1;omega)) (by have:=(g v rfl).1;have:=v.Bc;omega)
     simp only[aD]at this
     simp only[aQ]at i this
     simp only[aZ,Zt,aQ,M,Zd,i,bO,aA,Aoq,cR,Gi]
     exact this
  ·by_cases a:Ig s=true
   ·have N:c.k=4:=by rw[A];exact(E0.1 a).1
    obtain⟨t,C⟩:=bH.1 (d.list (E0.1 a).1)
    have b:=Cp (z.keyed a)
    by_cases F:c.l.length=0
    ·simp only[N,a,F,Zd,Ze,show ¬ (4:Int)=5 by omega,aR,aB,Zf,Zt,cN,cO,fP,bL,bN]
     cases o with
     | none=>simp only[cI,aB,Zf,r,bO]
     | some v=>simp only[aZ,Zt,i,bO];rfl
    ·have x:=Bdl n (V5 n) s t c (o.getD Au) J d K I q C z R (by
      cases o with
      | none=>exact .mk _ bT (by simp[Au]) (by simp[Au])
      | some v=>exact(g v rfl).2.1)
     simp only[N,a,F,Zd,Ze,show ¬ (4:Int)=5 by omega,bJ,aB,Zf,Zt,dY,cO,fP,bL,bN]
     cases o with
     | none=>
      have y:=Wf s c Au I (by decide+kernel) b (by simp[Au]) (.int 0) (.int 0) (.str ⟨#[]⟩) c.l.length 0 [] (by omega) (cP _) (by simp)
      have G:c.l.filter (λe=>(Vs s Au.l (Dq e s.key)).isNone)=c.l:=dM.2 λ_ _=>rfl
      rw[aE,bD,G,<-A36 q N]at y
      simp only[aD,aL,dE]at y
      have z3:fU 3 Au.enc=some (.list []):=rfl
      have T:O.len (.list [])=some (.int 0):=rfl
      have U:O.lt (.int 0) (.int 0)=some (.bool false):=rfl
      simp only[cI,aB,Zf,dB]
      rw[Ana,z3]
      simp only[aA,T]
      rw[Ad2]
      simp only[U,aA,aS,aB,Zf,cH,Gi,y,fN,dC,eQ]
     | some v=>
      have y:=x ((g v rfl).2.2) b (Cp ((g v rfl).2.2.keyed a))
      rw[dE]at y
      simp only[aQ]at y
      simp only[aZ,Zt,aQ,y,fN,dC,aA,eQ,C,eD]
      rfl
   ·have H:Ig s=false:=by simpa using a
    simp only[B,H,Ze,aB,Zf,dY,cO,Bool.or_self,ite_self,r,bO]
end Go.CT.Sch
namespace Go.CT.Sch
open Go.Proofs
end Go.CT.Sch
namespace Go.CT.Sch
open Go.Proofs
def Afl (x:Mgr):List Mgr->List Mgr
 | []=> [x]
 | y::r=>if blt y.name x.name then y::Afl x r else x::y::r
def I4 (l:List Mgr):Prop:=l.Pairwise λa b=>blt a.name b.name=true
theorem Kq (nm:ByteArray)(a:List ByteArray): ∀l:List Mgr,Z6 nm a true l=I5 (l.filter λm=> !decide (m.name=nm))
 | []=>rfl
 | m::l=>by
  rw[Z6,aY,gW,Kq nm a l]
  unfold I5
  by_cases c:m.name=nm
  ·simp[c]
  ·by_cases b:0<m.paths.length
   ·simp[c,b]
   ·simp[c,b]
theorem A7j (x:Mgr): ∀l:List Mgr,(∀m∈l,blt m.name x.name=false)->Afl x l=x::l
 | [],_=>rfl
 | y::l,h=>by rw[Afl,h y (by simp)];rfl
theorem Gx (m:Mgr)(l:List Mgr):I5 (m::l)=if decide (0<m.paths.length)=true then m::I5 l else I5 l:=aY
theorem Abp (x:Mgr)(a:x.paths.length=0): ∀l:List Mgr,I5 (Afl x l)=I5 l
 | []=>by rw[Afl,Gx,a];rfl
 | y::l=>by
  rw[Afl]
  split
  ·rw[Gx,Gx,Abp x a l]
  ·rw[Gx,a];rfl
theorem Avs (nm:ByteArray)(b:List ByteArray): ∀l:List Mgr,I4 l->I5 (Afl ⟨nm,b⟩ (l.filter λm=> !decide (m.name=nm)))=Z6 nm b (decide (b.length=0)) l:=by
 by_cases d:b.length=0
 ·intro l _
  rw[Abp _ d,d,decide_eq_true rfl,Kq]
 ·have hd:decide (0<b.length)=true:=decide_eq_true (by omega)
  rw[decide_eq_false d]
  intro l
  induction l with
  | nil=>intro _;rw[cF,Afl,Gx];simp only[hd,Zt];rfl
  | cons m l h=>
   intro i
   obtain⟨j,o⟩:=bM.1 i
   have ge:blt m.name nm=false-> ∀y∈l.filter (λm=> !decide (m.name=nm)),blt y.name nm=false:=by
    intro g y q
    have:=j y (cT.1 q).1
    cases a:blt y.name nm with
    | false=>rfl
    | true=>rw[G4 this a]at g;cases g
   rw[Z6,aY]
   cases a:blt m.name nm with
   | true=>
    have e: ¬ m.name=nm:=I1 a
    simp only[e,Ze,bJ,Zt,aR,dY,aB,Zf,bD,Bool.or_false,bL]
    rw[Afl]
    simp only[a,Zt]
    rw[Gx,h o]
    split<;>simp
   | false=>
    simp only[bJ,cN,Zt,Bool.or_true]
    rw[Kq]
    by_cases c:m.name=nm
    ·simp only[c,Zd,aR,aB,Zf,cO,aO]
     rw[A7j _ _ (ge a),Gx]
     simp only[hd,Zt,bG]
    ·simp only[c,Ze,bJ,Zt,bL]
     rw[Afl]
     simp only[a,aB,Zf]
     rw[Gx,Gx]
     simp only[hd,Zt]
     split<;>simp
theorem X3 (x:Mgr): ∀l:List Mgr,Au6 (x.name,x.enc) (l.map λm=>(m.name,m.enc))=(Afl x l).map λm=>(m.name,m.enc)
 | []=>rfl
 | y::l=>by
  rw[aI,Au6,Afl]
  unfold blt
  split
  ·rw[X3 x l];rfl
  ·rfl
theorem Ux: ∀l:List Mgr,I4 l->H2 (l.map λm=>(m.name,m.enc))=l.map λm=>(m.name,m.enc)
 | [],_=>rfl
 | x::l,h=>by
  obtain⟨a,b⟩:=bM.1 h
  rw[aI,H2,Ux l b,X3,A7j x l λm c=>Ou (a m c)];rfl
theorem Ahd: ∀l:List Mgr,Aju (l.map Mgr.enc)=some (l.map Mgr.name)
 | []=>rfl
 | x::l=>by rw[aI,Aju,Ahd l];rfl
theorem Asu (x:Mgr)(l:List Mgr)(d:I4 l)(g: ∀m∈l,¬ m.name=x.name)(o:l.length<=1048576):O.Zl [.list ((x::l).map Mgr.enc)]=some [.list ((Afl x l).map Mgr.enc)]:=by
 have i:((x::l).map Mgr.name).zip ((x::l).map Mgr.enc)=(x::l).map λm=>(m.name,m.enc):=by
  rw[List.zip_map']
 have c:((x::l).map Mgr.name).Nodup :=by
  rw[aI,gM]
  refine⟨λh=>?_,?_⟩
  ·obtain⟨m,j,e⟩:=aX.1 h
   exact g m j e
  ·exact iF _ (λa b h=>I1 h) d
 rw[O.Zl,Ahd,aA,if_pos ⟨c,by simp;omega⟩,i,aI,H2,Ux l d,X3,List.map_map]
 rfl
end Go.CT.Sch
namespace Go.CT.Sch
open Go.Proofs
theorem Aao: ∀l:List ByteArray,H5 l=true->l.Pairwise λa b=>blt a b=true
 | [],_=>bT
 | [_],_=>eT _ _
 | a::b::l,h=>by
  simp only[H5,aG]at h
  have d:=Aao (b::l) h.2
  refine bM.2 ⟨λx c=>?_,d⟩
  rcases bC.1 c with rfl | c
  ·exact h.1
  ·exact G4 h.1 ((bM.1 d).1 x c)
theorem Aep {l:List Mgr}(h:Z8 l=true):I4 l/\(∀m∈l,m.paths≠ [])/\l.length<=16:=by
 unfold Z8 at h
 simp only[aG,bR,decide_eq_true_eq]at h
 refine⟨gD.1 (Aao _ h.2.2),λm a e=>?_,h.2.1⟩
 have:=h.1 m a
 unfold okM at this
 simp only[aG,dW,decide_eq_false_iff_not]at this
 exact this.1.2 (by rw[e];rfl)
def Ru (cs:List Cf)(l:List Mgr):List Mgr:=l.map λm=>⟨m.name,Hy m.paths (Z4 cs m.name)⟩
theorem Arc (cs:List Cf)(nm:ByteArray): ∀l:List Mgr,Awq cs nm l=(Ru cs l).filter λm=> !decide (m.name=nm)
 | []=>rfl
 | m::l=>by
  have a:=Arc cs nm l
  unfold Awq Ru at a ⊢
  rw[aI,aY,aY,<-a]
  split<;>rfl
theorem Ab5 {g:Mgr->List ByteArray}{l:List Mgr}(h:I4 l):I4 (l.map λm=>⟨m.name,g m⟩):=gD.2 h
theorem Ub: ∀ {l:List Mgr} {m:Mgr},m∈l->m.paths.length<=Aek l
 | x::l,m,h=>by
  rw[Aek]
  rcases bC.1 h with rfl | h
  ·omega
  ·have:=Ub h;omega
theorem Aho (nm:ByteArray)(a:List ByteArray)(l:List Mgr)(j:I4 l)(B:l.length<=1000000)(hp:a.length<=1048576)(d: ∀m∈l,m.paths.length<=1048576):
  (calls (W F205 0 [.list (((⟨nm,a⟩:Mgr)::l.filter λm=> !decide (m.name=nm)).map Mgr.enc)]) 1 λq=>calls (W Bia 0 [q]) 1 λt=>some [t])=some [.list ((Z6 nm a (decide (a.length=0)) l).map Mgr.enc)]:=by
 have u:=cL (λm:Mgr=> !decide (m.name=nm)) l
 have e:=Asu ⟨nm,a⟩ (l.filter λm=> !decide (m.name=nm)) (eB _ j) (λm g=>by simpa using(cT.1 g).2) (by omega)
 have c: ∀ (x:Mgr) (r:List Mgr),(Afl x r).length =r.length+1/\ ∀y∈Afl x r,y=x\/y∈r:=by
  intro x r
  induction r with
  | nil=>exact⟨rfl,λy b=>by simpa [Afl]using b⟩
  | cons z r o=>
   rw[Afl]
   split
   ·refine⟨by rw[bP,o.1];rfl,λy b=>?_⟩
    rcases bC.1 b with rfl | b
    ·exact .inr cD
    ·rcases o.2 y b with h | h
     ·exact .inl h
     ·exact .inr (bW _ h)
   ·exact⟨rfl,λy b=>bC.1 b⟩
 obtain⟨w,A⟩:=c ⟨nm,a⟩ (l.filter λm=> !decide (m.name=nm))
 have i:=Bct (Afl ⟨nm,a⟩ (l.filter λm=> !decide (m.name=nm))) (by rw[w];omega) (λm g=>by
  rcases A m g with rfl | h
  ·exact hp
  ·exact d m (cT.1 h).1)
 simp only[Bex,e,bO,i,Avs nm a l j]
theorem Bea (cs:List Cf)(nm:ByteArray)(a:List ByteArray)(l:List Mgr)(d:I4 l)(j:l.length<=1000000)(hp:a.length<=1048576)(b: ∀m∈l,m.paths.length<=1048576)(g:cs.length<=1048576):
  W Bgt 0 [.list (l.map Mgr.enc),.str nm,SL a,.list (cs.map Cf.enc)]=some [.list ((Z6 nm a (decide (a.length=0)) (Ru cs l)).map Mgr.enc)]:=by
 have c:=Ae0 l cs nm (by omega) b g l.length 0 [(⟨nm,a⟩:Mgr)] (by omega) (aN _)
 have e:IV.agg [.str nm,SL a]=Mgr.enc ⟨nm,a⟩:=rfl
 simp only[aD,aE,aI,aL]at c
 rw[A54]
 simp only[dC,dH,aA,Gi,e,c]
 rw[Amu]
 simp only[ltn,aA,aS,aB,Zf]
 rw[Arc,bG]
 exact Aho nm a (Ru cs l) (Ab5 d) (by unfold Ru;rw[aH];omega) hp (λm h=>by
  obtain⟨x,i,rfl⟩:=aX.1 h
  exact cK (Oy _ _) (b x i))
end Go.CT.Sch
namespace Go.CT.Sch
open Go.Proofs
def Qp (t:ByteArray):Prop:= ∃p,Cj p=t/\C6 p=true/\ ∀x∈p,x.k≠2
theorem Vg {s:Sch}{v:Val}{t:ByteArray}(a:v.valid=true)(b:t∈As s v):Qp t:=by
 obtain⟨q,w,e1,c,d,_⟩:=Abu a b
 exact⟨q,e1.symm,c,d⟩
open Classical in
noncomputable def Aro (s:Sch) (cf lv:Val) (t:ByteArray):Bool:=if h:Qp t then Atl s cf lv h.choose else false
theorem Bic (s:Sch)(cf lv:Val)(t:ByteArray)(b:s.Ap<=1048576)(c:cf.Ap<=1048576)(d:lv.Ap<=1048576)(h:Qp t):W F155 0 [s.enc,cf.enc,lv.enc,.str t]=some [.bool (Aro s cf lv t)]:=by
 obtain⟨g,i,j⟩:=h.choose_spec
 have e:Aro s cf lv t=Atl s cf lv h.choose:=by unfold Aro;rw[dif_pos h]
 have a:=Be3 s cf lv h.choose b c d i j
 rw[g]at a
 rw[e]
 exact a
def Uc (l:List Mgr)(nm leaf:ByteArray):List Cf:=(l.filter λm=> !decide (m.name=nm)&&inB m.paths leaf).map λm=>⟨leaf,m.name⟩
def Vo (sat:ByteArray->Bool)(l:List Mgr)(nm:ByteArray)(set:List ByteArray):List Cf:=set.flatMap λleaf=>if sat leaf then[]else Uc l nm leaf
theorem Ai2: ∀ (a b:List ByteArray),a.Nodup->(∀x∈a,x∈b)->a.length<=b.length
 | [],b,_,_=>cP _
 | x::a,b,d,h=>by
  obtain⟨g,i⟩:=gM.1 d
  have j:=h x (by simp)
  have m:=Ai2 a (b.filter λy=> !decide (y=x)) i λy c=>cT.2 ⟨h y (by simp[c]),by
   have:y≠x:=λe=>g (by rw[<-e];exact c)
   simpa using this⟩
  have:=List.length_filter_lt_length_iff_exists (p:=λy=> !decide (y=x)).2 ⟨x,j,by simp⟩
  rw[bP];omega
theorem Ap3 (nm:ByteArray)(m:Mgr)(l:List Mgr): ∀set:List ByteArray,(set.flatMap (Uc (m::l) nm)).length =(set.filter λx=> !decide (m.name=nm)&&inB m.paths x).length +(set.flatMap (Uc l nm)).length
 | []=>rfl
 | x::set=>by
  have a:=Ap3 nm m l set
  have e:(Uc (m::l) nm x).length =(if(!decide (m.name=nm)&&inB m.paths x)=true then 1 else 0)+(Uc l nm x).length :=by
   unfold Uc
   rw[aY]
   split<;>simp<;>omega
  rw[aT,aT,aK,aK,a,e,aY]
  split<;>simp<;>omega
theorem An9 (nm:ByteArray)(set:List ByteArray)(a:set.Nodup): ∀l:List Mgr,(set.flatMap (Uc l nm)).length <=Aek l
 | []=>by
  have: ∀set:List ByteArray,set.flatMap (Uc [] nm)= []:=λset=>by
   induction set with
   | nil=>rfl
   | cons x set b=>rw[aT,b];rfl
  rw[this];exact aN _
 | m::l=>by
  have b:=An9 nm set a l
  have d:=Ai2 (set.filter λx=> !decide (m.name=nm)&&inB m.paths x) m.paths (List.Nodup.sublist List.filter_sublist a) λx c=>by
   have:=(cT.1 c).2
   rw[aG]at this
   exact Hs.1 this.2
  rw[Ap3,Aek];omega
theorem A1q (sat:ByteArray->Bool)(l:List Mgr)(nm:ByteArray)(set:List ByteArray)(a:set.Nodup):(Vo sat l nm set).length <=Aek l:=by
 refine cK ?_ (An9 nm set a l)
 unfold Vo
 clear a
 induction set with
 | nil=>exact aN _
 | cons x set b=>
  rw[aT,aT,aK,aK]
  split
  ·simp only[bB];omega
  ·omega
theorem Afr (sat:ByteArray->Bool)(l:List Mgr)(nm:ByteArray){set:List ByteArray}{i:Nat}(a:i<set.length):Vo sat l nm (set.drop i)=(if sat set[i]then[]else Uc l nm set[i])++Vo sat l nm (set.drop (i+1)):=by
 rw[aC a];rfl
theorem Aj1 (s:Sch)(v:Val):(As s v).Nodup :=iG (λh=>I1 h) (eB _ (Acd s v))
theorem Kr (s:Sch)(v:Val):(As s v).length <=v.Ap:=by
 have a:=cL (λx=> !decide (x=Am)) (Hv s v)
 have b:=Qx s v
 have c:=v.E9
 unfold As;omega
theorem Ajz (l:List Mgr)(nm leaf:ByteArray)(u:l.length<=1048576)(hp: ∀m∈l,m.paths.length<=1048576)(i o q r a b c d e g:IV): ∀ (n j:Nat) (cs:List Cf),j+n=l.length->cs.length+n<=4194304->
  W F51 3 [.list (l.map Mgr.enc),.str nm,i,.str leaf,o,q,.list (l.map Mgr.enc),.int l.length,.int j,r,a,b,c,d,e,g,.list (cs.map Cf.enc)]=
   W F51 2 [.list (l.map Mgr.enc),.str nm,i,o,q,r,a,b,c,d,e,g,.list ((cs++Uc (l.drop j) nm leaf).map Cf.enc)]
 | 0,j,cs,h,w=>by
  have:j=l.length:=by omega
  subst this
  rw[Axz,aM]
  simp only[ltn,aA,aS,aB,Zf,Uc,cF,aL,aO]
 | n+1,j,cs,h,w=>by
  have t:j<l.length:=by omega
  have x:=aF t
  have i1:=Ajz l nm leaf u hp i o q r a b c d e g n (j+1) cs (by omega) (by omega)
  have i2:=Ajz l nm leaf u hp i o q r a b c d e g n (j+1) (cs++ [(⟨leaf,l[j].name⟩:Cf)]) (by omega) (by simp;omega)
  have ap:dN 32 (.list (cs.map Cf.enc)) (.list [.agg [.str leaf,.str l[j].name]])=some (.list ((cs++ [(⟨leaf,l[j].name⟩:Cf)]).map Cf.enc)):=apm Cf.enc (n:=32) cs (⟨leaf,l[j].name⟩:Cf) (by omega)
  have y:=hp _ x
  unfold Uc at i1 i2 ⊢
  rw[Axz,aC t,aY]
  simp only[lti t,aA,aS,Zt,Jq Mgr.enc t,Am0,Ass,gS,Nb _ leaf (show l[j].paths.length <=1099511627776 by omega),Bhi,bO,dC,dH,ap,Ax,An]
  rw[Az2,Az2]
  simp only[nxt (show j<4611686018427387904 by omega),aA,i1,i2]
  cases decide (l[j].name =nm)<;>cases inB l[j].paths leaf<;>simp
theorem Akd (l:List Mgr)(nm:ByteArray)(w:l.length<=1048576)(e:Aek l<=1048576)(s:Sch)(cf lv:Val)(x:s.Ap<=1048576)(y:cf.Ap<=1048576)(j:lv.Ap<=1048576)(set:List ByteArray)(o:set.length<=1048576)(d: ∀t∈set,Qp t)(q a b c:IV): ∀ (n i:Nat) (cs:List Cf),i+n=set.length->cs.length+(Vo (Aro s cf lv) l nm (set.drop i)).length <=2097152->
  W F51 1 [.list (l.map Mgr.enc),.str nm,q,.int set.length,.int i,s.enc,lv.enc,cf.enc,a,b,c,SL set,.list (cs.map Cf.enc)]=
   W F51 1 [.list (l.map Mgr.enc),.str nm,q,.int set.length,.int set.length,s.enc,lv.enc,cf.enc,a,b,c,SL set,.list ((cs++Vo (Aro s cf lv) l nm (set.drop i)).map Cf.enc)]
 | 0,i,cs,h,g=>by
  have:i=set.length:=by omega
  subst this
  rw[aM]
  simp only[Vo,cG,aO]
 | n+1,i,cs,h,g=>by
  have r:i<set.length:=by omega
  have A:=gB IV.str (aJ r)
  have u:=(Bic s cf lv set[i] x y j (d _ (aF r)))
  rw[Afr _ _ _ r,aK]at g
  have i1:=Akd l nm w e s cf lv x y j set o d q a b c n (i+1) cs (by omega) (by omega)
  rw[Afr _ _ _ r,A7v]
  simp only[lti r,aA,aS,Zt,A,u,bO,Gi]
  cases B:Aro s cf lv set[i]with
  | true=>
   rw[Ay0]
   simp only[Zt,nxt (show i<4611686018427387904 by omega),aA,i1,bD]
  | false=>
   rw[B]at g
   simp only[aB,Zf]at g
   have z:=Ajz l nm set[i] w (λm C=>cK (Ub C) e) q (.int set.length) (.int i) s.enc lv.enc cf.enc a b c (SL set) l.length 0 cs (by omega) (by omega)
   have i2:=Akd l nm w e s cf lv x y j set o d q a b c n (i+1) (cs++Uc l nm set[i]) (by omega) (by rw[aK];omega)
   simp only[aD,aE]at z
   simp only[aB,Zf,z]
   rw[Ay0]
   simp only[nxt (show i<4611686018427387904 by omega),aA,i2,bI]
end Go.CT.Sch
namespace Go.CT.Sch.D
open Go.Proofs
theorem Ag8 (s:Sch)(nm:ByteArray)(m:s.Ap<=1099511627776)(b d e g:IV): ∀ (n i:Nat),i+n=s.f.length->
  W F228 1 [.str nm,.int i,s.enc,b,d,e,g]=some (Vr (((s.f.drop i).find? λp=>decide (p.nm=nm)).map (·.s)))
 | 0,i,h=>by
  rw[Aom]
  have j: ¬ i<s.f.length:=by omega
  simp[j,bA (dA j),Vr,Qy]
 | n+1,i,h=>by
  have a:i<s.f.length:=by omega
  have q:=s.Bc
  have o:=Bd (i:=i) (by omega)
  have:=Ag8 s nm m b d e g n (i+1) (by omega)
  rw[Aom,aC a]
  simp only[eO,eZ,aH,dS,Aj,a,Zd,aA,aS,Zt,fG,aV,aU,bE,aJ a,aP,gN,eY,fY,eN,o,this,bV]
  by_cases c:s.f[i].nm =nm
  ·simp[c,Vr]
  ·have c':decide (s.f[i].nm =nm)=false:=by simpa using c
   simp only[c,c',Ze,aB,Zf]
theorem Bcn (s:Sch)(nm:ByteArray)(a:s.Ap<=1099511627776):W F228 0 [s.enc,.str nm]=some (Vr ((s.fld nm).map (·.s))):=by
 rw[A0w]
 have:=Ag8 s nm a (.int 0) (.int 0) (.int 0) (.str ⟨#[]⟩) s.f.length 0 (by omega)
 simp only[aE,aD]at this
 exact this
theorem Bb4 (s:Sch):W F227 0 [s.enc]=some [.bool (decide (0<s.it.length))]:=by
 rw[A1j];simp
theorem Xk (sc:Sch)(v:Val)(b:SOk sc)(j:sc.Ap<=1099511627776)(A:v.Ap<=4294967000)(m o r:IV)(u: ∀p∈v.f,∀t,Eb sc p.1=some t->W Bdy 0 [t.enc,p.2.enc]=some [(Bn p.2 t).enc]):
  ∀ (n i:Nat) (acc:List (ByteArray × Val)),i+n=v.f.length->acc.length<=i->
  W Bdy 2 [.int i,sc.enc,v.enc,m,o,r,.list (acc.map aW)]=some [(Val.mk 5 0 Am [] (acc++(v.f.drop i).flatMap (Eg sc))).enc]
 | 0,i,acc,h,B=>by
  rw[Ard]
  have w: ¬ i<v.f.length:=by omega
  simp only[cR,eZ,aH,dS,Aj,w,Ze,aA,aS,aB,Zf,dC,bA (dA w),cG,aO]
  rw[<-gY];rfl
 | n+1,i,acc,h,B=>by
  have d:i<v.f.length:=by omega
  have hlen:=v.Bc
  have C:=Bd (i:=i) (by omega)
  have F:=Kj sc v.f[i]
  have next:=Xk sc v b j A m o r u n (i+1) (acc++Eg sc v.f[i]) (by omega) (by rw[aK];omega)
  have c:(acc.length+1) * 96<=Bb:=S9 (by omega) (by omega)
  rw[bI]at next
  rw[Ard,aC d,aT,<-next]
  simp only[cR,eZ,aH,dS,Aj,d,Zd,aA,aS,Zt,fG,aV,aU,bE,aJ d,aP,fR,Fld.Dj,fK,bN,Bb4,bO,Bcn sc _ j,A0j,A06,eN,C]
  have a:=u _ (aF d)
  unfold Eg
  by_cases x:v.f[i].2.k =0
  ·simp only[x,Zd,Zt,aO]
  ·simp only[x,Ze,aB,Zf]
   have y:=b.one
   unfold Eb at a ⊢
   by_cases hd:sc.it.length=1
   ·obtain⟨t,z⟩:=bH.1 hd
    simp only[z,bF,Zt,cB]at a
    have e:=a t rfl
    simp only[z,bF,Nat.lt_one_iff,Zd,Zt,dR,aA,aI,aL,fG,eA,dI,cB,e,bO,cY,eW,eX,cH,cR,dC,gU,dH,iI,aH,bF,c,cS]
   ·have g: ¬ 0<sc.it.length:=by omega
    simp only[hd,Zf]at a
    simp only[hd,g,Ze,aB,Zf]
    cases G:sc.fld v.f[i].1 with
    | none=>simp only[Vr,dP,cI,eP,aS,aB,Zf,aO]
    | some q=>
     have e:=a q.s (by rw[G];rfl)
     simp only[Vr,aP,aZ,eP,aS,Zt,aQ,e,bO,cY,eW,eX,cH,cR,aA,dC,gU,dH,iI,aH,bF,c,cS,aI,aL]
theorem W7 (sc t:Sch)(v:Val)(q:v.Ap<=4294967000)(d e g:IV)(j:sc.it= [t])(m: ∀x∈v.l,W Bdy 0 [t.enc,x.enc]=some [(Bn x t).enc]):
  ∀ (n i:Nat) (acc:List Val),i+n=v.l.length->acc.length<=i->
  W Bdy 1 [.int i,sc.enc,v.enc,d,e,g,.list (acc.map bK)]=some [(Val.mk 4 0 Am (acc++(v.l.drop i).map λx=>Bn x t) []).enc]
 | 0,i,acc,h,r=>by
  rw[Aqn]
  have o: ¬ i<v.l.length:=by omega
  simp only[cH,eZ,aH,dS,Aj,o,Ze,aA,aS,aB,Zf,dC,bA (dA o),aL,aO]
  rw[<-gY];rfl
 | n+1,i,acc,h,r=>by
  have b:i<v.l.length:=by omega
  have hlen:=v.Bx
  have u:=Bd (i:=i) (by omega)
  have next:=W7 sc t v q d e g j m n (i+1) (acc++ [Bn v.l[i] t]) (by omega) (by rw[aK];simp;omega)
  have c:(acc.length+1) * 80<=Bb:=S9 (by omega) (by omega)
  have a:=m _ (aF b)
  rw[bI,bG]at next
  rw[Aqn,aC b,aI,<-next]
  simp only[cH,eZ,aH,dS,Aj,b,Zd,aA,aS,Zt,fG,aV,aU,bE,aJ b,aP,dR,j,aI,aL,eA,dI,cB,a,bO,dH,iI,aH,bF,c,cS,eN,u]
theorem Ave: ∀v:Val,v.Ap<=4294967000-> ∀sc:Sch,SOk sc->sc.Ap<=1099511627776->W Bdy 0 [sc.enc,v.enc]=some [(Bn v sc).enc]:=by
 refine eM λv d e i sc c g=>?_
 rw[A2k,Hi]
 simp only[cY,eC,aA,eK,bN,aS]
 by_cases j:v.k=sc.k
 ·simp only[j,Zd,aR,aB,Zf,Zt]
  by_cases m:sc.k=5
  ·have o:=Xk sc v c g i (.int 0) (.int 0) (.str ⟨#[]⟩) (λp hp t a=>e p hp (by have:=fQ hp;omega) t (c.sub a) (by have:=Jz a;omega)) v.f.length 0 [] (by omega) (by simp)
   simp only[aE,aD,aL,bD]at o
   simp[m,o]
  ·by_cases h:sc.k=4
   ·obtain⟨t,a⟩:=bH.1 (c.list h)
    have b:t∈sc.it:=by rw[a];simp
    have q:=W7 sc t v i (.int 0) (.int 0) (.str ⟨#[]⟩) a (λx r=>d x r (by have:=dQ r;omega) t (c.I3 b) (by have:=fJ b;omega)) v.l.length 0 [] (by omega) (by simp)
    simp only[aE,aD,aL,bD]at q
    simp[h,a,q]
   ·simp[h,m]
 ·simp[j]
end Go.CT.Sch.D
namespace Go.CT.Sch
open Go.Proofs
def Ip (s:Sch)(lv:Val)(gone:List ByteArray):Val:=J4 s lv gone false
def I6 (m:List Mgr)(nm:ByteArray)(set:List ByteArray):List ByteArray:=Hy (Hy (Hk m nm) set) (Arz nm m [])
def okB (s:Sch)(a b:Val)(m:List Mgr)(nm:ByteArray):Bool:=Mu s a&&Mu s b&&Z8 m&&Kp nm
structure A7f where
 v:Val
 l:List Mgr
 c:List Cf
 e:Int
def A7f.enc (r:A7f):List IV:= [r.v.enc,.list (r.l.map Mgr.enc),.list (r.c.map Cf.enc),.int r.e]
noncomputable def Ak0 (s:Sch) (lv cf:Val) (m:List Mgr) (nm:ByteArray):List Cf:=Vo (Aro s cf lv) m nm (As s cf)
def Az7 (s:Sch)(lv cf:Val)(m:List Mgr)(nm:ByteArray):Val:=mg cf.size s cf (some (Ip s lv (I6 m nm (As s cf))))
noncomputable def A2e (s:Sch) (lv cf:Val) (m:List Mgr) (nm:ByteArray):List Mgr:=Z6 nm (As s cf) (decide ((As s cf).length =0)) (Ru (Ak0 s lv cf m nm) m)
noncomputable def Bdw (s:Sch) (lv cf:Val) (m:List Mgr) (nm:ByteArray) (force:Bool):A7f:=
 if(decide (0<(Ak0 s lv cf m nm).length)&& !force)=true then⟨Au,[],Ak0 s lv cf m nm,9⟩
 else if 16<(A2e s lv cf m nm).length then⟨Au,[],[],15⟩
 else if(Az7 s lv cf m nm).valid =true then⟨Az7 s lv cf m nm,A2e s lv cf m nm,[],0⟩else⟨Au,[],[],4⟩
noncomputable def Az9 (s:Sch) (live:Val) (m:List Mgr) (nm:ByteArray) (config:Val) (force:Bool):A7f:=
 if okB s live config m nm=true then Bdw s (D.Bn live s) (D.Bn config s) m nm force else⟨Au,[],[],1⟩
theorem S0 {s:Sch}{v:Val}(h:Mu s v=true):s.valid=true/\v.valid=true/\v.k=5/\(Jo v s []).all Vn=true/\kyB v.size s v=true:=by
 unfold Mu at h
 simp only[aG,decide_eq_true_eq]at h
 exact⟨h.1,h.2.1,h.2.2.1,h.2.2.2.1,h.2.2.2.2⟩
structure PV (s:Sch)(v:Val):Prop where
 sv:s.valid=true
 vv:v.valid=true
 k5:v.k=5
 fit:Fit s v
theorem T9 {s:Sch}{v:Val}(h:Mu s v=true):PV s (D.Bn v s):=by
 obtain⟨a,b,c,d,e⟩:=S0 h
 exact⟨a,D.Ajl s b,(D.Bb5 v s).trans c,Az0 v s [] v.size a b (aN _) d e⟩
theorem R3 {s:Sch}{v:Val}(h:Mu s v=true)(d:s.Ap<=1048576)(e:v.Ap<=1048576):W Bfu 0 [s.enc,v.enc]=some [(D.Bn v s).enc]/\W Bdy 0 [s.enc,v.enc]=some [(D.Bn v s).enc]:=by
 obtain⟨b,c,_⟩:=S0 h
 have a:=D.Ud 12 s b
 exact⟨D.Ars v (D.O9 c) (by omega) s a (by omega),D.Ave v (by omega) s a (by omega)⟩
theorem A65 (s:Sch)(a b:Val)(m:List Mgr)(nm:ByteArray):(((((((!s.valid)|| !a.valid)|| !b.valid)|| !Z8 m)|| !Kp nm)|| !Mu s a)|| !Mu s b)= !okB s a b m nm:=by
 unfold okB
 cases c:Mu s a with
 | false=>simp
 | true=>
  cases d:Mu s b with
  | false=>simp
  | true=>
   obtain⟨e,a2,_⟩:=S0 c
   obtain⟨_,b2,_⟩:=S0 d
   rw[e,a2,b2]
   cases Z8 m<;>cases Kp nm<;>rfl
theorem zv:IV.agg [.int 0,.int 0,.str ⟨#[]⟩,.list [],.list []]=Au.enc:=rfl
theorem gt0 (n:Nat):gX (.int (n:Int)) (.int 0)=some (.bool (decide (0<n))):=by rw[fX];congr 2;exact decide_eq_decide.2 (by omega)
theorem gt16 (n:Nat):gX (.int (n:Int)) (.int 16)=some (.bool (decide (16<n))):=by rw[fX];congr 2;exact decide_eq_decide.2 (by omega)
theorem Wu (m:List Mgr)(nm:ByteArray):(Hk m nm).length <=Aek m:=by
 unfold Hk
 cases h:m.find? λm=>decide (m.name=nm) with
 | none=>exact cP _
 | some x=>exact Ub (bX h)
theorem Ajr (nm:ByteArray): ∀ (m:List Mgr) (a:List ByteArray),(Arz nm m a).length <=a.length+Aek m
 | [],a=>aN _
 | x::m,a=>by
  rw[Arz,Aek]
  split
  ·have:=Ajr nm m a;omega
  ·have:=Ajr nm m (Wb (a++x.paths))
   have h:=Nw (a++x.paths)
   rw[aK]at h
   omega
structure Sz (s:Sch)(a b:Val)(m:List Mgr):Prop where
 hs:s.Ap<=1048576
 hab:a.Ap+b.Ap+Aek m<=1048576
 hm:m.length<=1000000
theorem Sz.hp {s:Sch}{a b:Val}{m:List Mgr}(h:Sz s a b m):Aek m<=1048576:=by have:=h.hab;omega
theorem Ki (v:Val)(s:Sch):(D.Bn v s).Ap <=v.Ap:=D.Qv v s
theorem Aqv {s:Sch}{lv:Val}(gone:List ByteArray)(h:PV s lv)(a:lv.Ap<=1048576):Old s (some (Ip s lv gone)):=λv b=>by
 cases b
 exact⟨cK (M5 s lv gone false) a,Atf gone false h.vv,(Avc gone false h.sv h.vv h.fit h.k5).1⟩
theorem Ayp {s:Sch}{lv cf:Val}{m:List Mgr}{nm:ByteArray}(b:PV s lv)(a:PV s cf)(e:lv.Ap+cf.Ap<=1048576):(Az7 s lv cf m nm).Ap <=1048576:=by
 have c:=Aqv (I6 m nm (As s cf)) b (by omega)
 have:=Ali cf.size s cf (some (Ip s lv (I6 m nm (As s cf)))) (eG a.sv) a.vv a.fit λv d=>(c v d).2
 have g:=M5 s lv (I6 m nm (As s cf)) false
 unfold Az7
 simp only[aP,aQ]at this
 unfold Ip at this ⊢
 omega
theorem A5j (m:List Mgr)(nm:ByteArray)(set:List ByteArray)(hp:Aek m<=1048576):(I6 m nm set).length <=1048576:=by
 have a:=Oy (Hy (Hk m nm) set) (Arz nm m [])
 have b:=Oy (Hk m nm) set
 have c:=Wu m nm
 unfold I6;omega
theorem Sf (s:Sch)(live:Val)(m:List Mgr)(nm:ByteArray)(config:Val)(force:Bool)(u:Sz s live config m):
  W F51 0 [s.enc,live.enc,.list (m.map Mgr.enc),.str nm,config.enc,.bool force]=some (Az9 s live m nm config force).enc :=by
 have Q:=u.hab
 have e:=u.hs
 have R:=u.hm
 have w:=u.hp
 have j: ∀x∈m,x.paths.length<=1048576:=λx y=>by have:=Ub y;omega
 rw[Bck]
 simp only[Pq s e,I2 live (by omega),I2 config (by omega),A7u m (by omega) (λx y=>by have:=j x y;omega),Axl,A4g s live e (by omega),A4g s config e (by omega),bO,dK,aA,aS,Ax,An]
 have z: ∀a b:Bool,(if a=true then true else b)=(a||b):=by decide
 simp only[z,A65]
 unfold Az9
 cases A:okB s live config m nm with
 | false=>simp only[bJ,Zt,aB,Zf,dC,zv];rfl
 | true=>
  have c:=A
  unfold okB at c
  simp only[aG]at c
  obtain⟨⟨⟨K,L⟩,S⟩,f4⟩:=c
  have B:=T9 K
  have i:=T9 L
  have T:=Ki live s
  have U:=Ki config s
  obtain⟨C,F,hlen⟩:=Aep S
  simp only[aR,aB,Zf,Zt,(R3 K e (by omega)).1,(R3 L e (by omega)).1,bO]
  generalize D.Bn live s=lv at B T ⊢
  generalize D.Bn config s=cf at i U ⊢
  have M:=Kr s cf
  have g: ∀t∈As s cf,Qp t:=λt X=>Vg i.vv X
  have Y:=A1q (Aro s cf lv) m nm (As s cf) (Aj1 s cf)
  have d:=Akd m nm (by omega) (by omega) s cf lv e (by omega) (by omega) (As s cf) (by omega) g (.bool force) (.int 0) (.int 0) (.str ⟨#[]⟩) (As s cf).length 0 [] (by omega) (by rw[aE];simp;omega)
  simp only[aD,aL,aE,bD]at d
  simp only[Sr s cf e (by omega),bO,fA,aA,d]
  have N:(Ak0 s lv cf m nm).length <=1048576:=by unfold Ak0;omega
  have hold:=Aqv (I6 m nm (As s cf)) B (by omega)
  have h:=V5 cf.size s cf (some (Ip s lv (I6 m nm (As s cf)))) (aN _) (eG i.sv) e (by omega) i.vv i.fit hold
  have Z:=Ayp (m:=m) (nm:=nm) B i (by omega)
  have hdr:=A5s s lv (I6 m nm (As s cf)) false e (by omega) (A5j m nm _ w)
  have o:=Bea (Ak0 s lv cf m nm) nm (As s cf) m C R (by omega) j (by omega)
  have aa:=Wu m nm
  have G:=Ajr nm m []
  have ab:=Oy (Hk m nm) (As s cf)
  have H:=I2 (Az7 s lv cf m nm) (by omega)
  have I:=Adw (Az7 s lv cf m nm) (Dd _ (by omega))
  have J:=Ag5 (Hk m nm) (As s cf) (by omega) (by omega)
  have q:=Ag5 (Hy (Hk m nm) (As s cf)) (Arz nm m []) (by omega) (by simp only[bB]at G;omega)
  change W Bh4 0 _=some [(Ip s lv (I6 m nm (As s cf))).enc]at hdr
  change W Bhb 0 _=some [(Az7 s lv cf m nm).enc]at h
  change W Bgt 0 _=some [.list ((A2e s lv cf m nm).map Mgr.enc)]at o
  change W F150 0 _=some [SL (I6 m nm (As s cf))]at q
  simp only[aQ,aZ]at h
  rw[show Vo (Aro s cf lv) m nm (As s cf)=Ak0 s lv cf m nm from rfl,A7v]
  simp only[ltn,aA,aS,aB,Zf,Gi,gt0,dK,Ax,An,A8i m nm (by omega) F,J,bO,Bc4 m nm (by omega) (by omega),q,A1c,hdr,h,o,gt16,H,I,dC,zv]
  unfold Bdw
  have hand: ∀a b:Bool,(if a=true then b else false)=(a&&b):=by decide
  simp only[hand]
  split
  ·rfl
  ·by_cases r:16<(A2e s lv cf m nm).length
   ·simp only[r,Zd,Zt];rfl
   ·simp only[r,Ze,aB,Zf]
    cases(Az7 s lv cf m nm).valid<;>rfl
end Go.CT.Sch
namespace Go.CT.Sch
open Go.Proofs
def Rv (x y:Val):Prop:=x.size<=y.size/\ ∀d,B9 d y=true->B9 d x=true
theorem Rv.refl (x:Val):Rv x x:=⟨aN _,λ_ h=>h⟩
theorem Akv: ∀ (b a:List (ByteArray × Val)),Ck a->Ck b->(∀p∈a,∃q∈b,q.1=p.1/\Rv p.2 q.2)->a.length<=b.length/\Bz a<=Bz b
 | [],[],_,_,_=>⟨aN _,aN _⟩
 | [],p::a,_,_,h=>by obtain⟨q,r,_⟩:=h p (by simp);simp at r
 | q::b,[],_,_,_=>⟨cP _,by simp[Bz]⟩
 | q::b,p::a,j,t,h=>by
  obtain⟨m,a2⟩:=bM.1 j
  obtain⟨b1,b2⟩:=bM.1 t
  obtain⟨z,g,o,z2⟩:=h p (by simp)
  rcases bC.1 g with rfl | g
  ·obtain⟨i1,i2⟩:=Akv b a a2 b2 λy c=>by
    obtain⟨w,d,w1,i⟩:=h y (by simp[c])
    rcases bC.1 d with rfl | d
    ·exact absurd (o.symm.trans w1) (I1 (m y c))
    ·exact⟨w,d,w1,i⟩
   obtain⟨z2,_⟩:=z2
   refine⟨by simp only[bP];omega,?_⟩
   show p.2.size+Bz a<=z.2.size+Bz b
   omega
  ·have e:blt q.1 p.1=true:=by rw[<-o];exact b1 z g
   obtain⟨i1,i2⟩:=Akv b (p::a) j b2 λy c=>by
    obtain⟨w,d,w1,i⟩:=h y c
    rcases bC.1 d with rfl | d
    ·rcases bC.1 c with rfl | c
     ·exact absurd w1 (I1 e)
     ·have:=G4 e (m y c)
      exact absurd w1 (I1 this)
    ·exact⟨w,d,w1,i⟩
   refine⟨by simp only[bP]at i1 ⊢;omega,?_⟩
   show Bz (p::a)<=q.2.size+Bz b
   omega
theorem A7i {u v:Val}(b:Shp u)(c:Ck u.f)(o:v.k=5)(g:Ck v.f)(h: ∀p∈u.f,∃q∈v.f,q.1=p.1/\Rv p.2 q.2):Rv u v:=by
 obtain⟨r,t⟩:=Akv v.f u.f c g h
 have a:u.l= []:=congrArg Val.l b
 refine⟨?_,λd hd=>?_⟩
 ·rw[u.size_eq,v.size_eq,a];simp only[Cn];omega
 ·cases d with
  | zero=>simp[B9]at hd
  | succ d=>
   have h':=(Cw d v).1 hd
   rw[Cw]
   refine⟨by rw[b];rfl,⟨by rw[a];exact cP _,by have:=h'.2.1.2.1;omega,λ_=>a,λi=>absurd (congrArg Val.k b) i⟩,by rw[a];simp,λp hp=>?_,D.Ni _ c⟩
   obtain⟨q,j,e,m⟩:=h p hp
   have:=h'.2.2.2.1 q j
   exact⟨by rw[<-e];exact this.1,m.2 d this.2⟩
theorem Agq (s:Sch)(r:Kid->Val × Bool): ∀l:List Val,(∀x∈l,(De (r (Bo s x)).1 s.key (K8 (Dq x s.key))).size <=x.size)->(Ee (Gc r (l.map (Bo s)))).length <=l.length/\Cn (Ee (Gc r (l.map (Bo s))))<=Cn l
 | [],_=>⟨aN _,aN _⟩
 | x::l,h=>by
  obtain⟨i1,i2⟩:=Agq s r l λy a=>h y (bW _ a)
  have b:=h x cD
  rw[aI,Kh]
  cases(r (Bo s x)).2 with
  | false=>simp only[aB,Zf,Cn,bP];omega
  | true=>
   simp only[Zt]
   refine⟨Nat.succ_le_succ i1,?_⟩
   show(De (r (Bo s x)).1 s.key (K8 (Dq x s.key))).size +Cn (Ee (Gc r (l.map (Bo s))))<=x.size+Cn l
   omega
theorem Ba2: ∀ (n:Nat) (o:Option Sch) (v:Val) (p:List Stp) (ch:ByteArray->Bool),v.valid=true->Rv (pt n o v p ch).1 v/\(v.k=5-> ∀g∈(pt n o v p ch).1.f,∃q∈v.f,q.1=g.1/\Rv g.2 q.2)
 | 0,_,v,_,_,_=>⟨.refl _,λ_ q a=>⟨q,a,rfl,.refl _⟩⟩
 | n+1,o,v,p,ch,j=>by
  by_cases b:kids o v= []
  ·rw[Ey,if_pos b];exact⟨.refl _,λ_ q a=>⟨q,a,rfl,.refl _⟩⟩
  ·obtain⟨s,rfl,L,H⟩:=Jh b
   rcases H with⟨m,t⟩ | ⟨B,C,u,t⟩
   ·have w:=K4 (n:=n+1) (o:=some s) (p:=p) (ch:=ch) j m
    have F: ∀g∈(pt (n+1) (some s) v p ch).1.f,∃q∈v.f,q.1=g.1/\Rv g.2 q.2:=by
     intro q a
     rw[Ey,if_neg b,t]at a
     simp only[m,Zt,dG]at a
     obtain⟨y,e,_,rfl⟩:=J2 a
     exact⟨y,e,rfl,(Ba2 n _ y.2 _ ch (Gl j e).1).1⟩
    refine⟨A7i ?_ w m (Gp j) F,λ_=>F⟩
    rw[Ey,if_neg b]
    simp only[m,Zt]
    rfl
   ·have G: ¬ v.k=5:=by omega
    refine⟨?_,λh=>absurd h G⟩
    have e: ∀y∈v.l,Rv (De (pt n (Bo s y).2.2 (Bo s y).2.1 (p++ [(Bo s y).1]) ch).1 s.key (K8 (Dq y s.key))) y:=by
     intro y e
     have c:=Eu j e
     obtain⟨r,ym,_⟩:=H3 c (Cp u y e)
     have z:=(Az5 n (Bo s y).2.2 (Bo s y).2.1 (p++ [(Bo s y).1]) ch).trans r
     have A:=K4 (n:=n) (o:=(Bo s y).2.2) (p:=p++ [(Bo s y).1]) (ch:=ch) c r
     refine A7i (A4r _ _ _) (Hd _ _ _) r (Gp c) λq a=>?_
     rcases(Jl z A q).1 a with⟨_,a⟩ | rfl
     ·exact(Ba2 n _ y _ ch c).2 r q a
     ·exact⟨_,ym,rfl,.refl _⟩
    obtain⟨M,N⟩:=Agq s (λx=>pt n x.2.2 x.2.1 (p++ [x.1]) ch) v.l λy h=>(e y h).1
    rw[Ey,if_neg b,t]
    simp only[G,Zf]
    refine⟨?_,λd hd=>?_⟩
    ·rw[gG,v.size_eq];simp only[cX,dG,Bz];omega
    ·cases d with
     | zero=>simp[B9]at hd
     | succ d=>
      have h':=(Cw d v).1 hd
      rw[Cw]
      have I:Gz ⟨v.k,0,Am,Ee (Gc (λx=>pt n x.2.2 x.2.1 (p++ [x.1]) ch) (v.l.map (Bo s))),[]⟩=true:=by rw[B];rfl
      refine⟨I,⟨by have:=h'.2.1.1;show dD _<=64;simp only[cX];omega,cP _,λJ=>absurd B J,λ_=>rfl⟩,λx K=>?_,by simp,rfl⟩
      obtain⟨y,i,_,rfl⟩:=Nq K
      exact(e y i).2 d (h'.2.2.1 y i)
theorem Asb {s:Sch}{lv:Val}(gone:List ByteArray)(h:PV s lv):(Ip s lv gone).valid =true:=by
 unfold Ip J4
 rw[h.sv,h.vv]
 simp only[cN,Zt]
 split
 ·have:=(Ba2 lv.size (some s) lv [] (chB gone false) h.vv).1
  have a:=(Gj lv).1 h.vv
  exact(Gj _).2 ⟨this.2 12 a.1,cK this.1 a.2⟩
 ·rw[if_pos (.inl h.k5),h.k5]
  decide+kernel
end Go.CT.Sch
namespace Go.CT.Sch
open Go.Proofs
end Go.CT.Sch
namespace Go.CT.Sch
open Go.Proofs
open Classical in
noncomputable def atB (v:Val) (t:ByteArray):Val:=if h:Qp t then(Hw v h.choose).getD Au else Au
open Classical in
noncomputable def Ba7 (s:Sch) (b a:Val) (t:ByteArray):Bool:= !inB (As s b) t|| !decide (atB b t=atB a t)
noncomputable def Atu (s:Sch) (b a:Val):List ByteArray:=(As s a).filter (Ba7 s b a)
def Tx (all new:List ByteArray)(l:List Mgr):List Mgr:=l.map λm=>⟨m.name,Hy (Pf m.paths all) new⟩
theorem Bgh (v:Val)(t:ByteArray)(c:v.Ap<=1048576)(h:Qp t): ∃b:Bool,W F156 0 [v.enc,.str t]=some [.int (atB v t).k,.int (atB v t).n,.str (atB v t).s,.list ((atB v t).l.map bK),.list ((atB v t).f.map aW),.bool b]:=by
 obtain⟨d,g,i⟩:=h.choose_spec
 have a:=A82 v h.choose c g i
 rw[d]at a
 have e:atB v t=(Hw v h.choose).getD Au:=by unfold atB;rw[dif_pos h]
 rw[e]
 exact⟨_,a⟩
theorem Apl {v:Val}(t:ByteArray)(a:v.Ap<=1048576):(atB v t).Ap <=1048576:=by
 unfold atB
 split
 ·exact Zb a
 ·decide+kernel
theorem Acw (s:Sch)(b a:Val)(e:b.Ap<=1048576)(g:a.Ap<=1048576)(d:a.valid=true): ∀ (n i:Nat) (acc:List ByteArray),i+n=(As s a).length ->acc.length<=i->
  W F208 1 [.int (As s a).length,.int i,b.enc,a.enc,SL (As s b),SL acc,SL (As s a)]=some [SL (acc++((As s a).drop i).filter (Ba7 s b a))]
 | 0,i,acc,h,o=>by
  have:i=(As s a).length :=by omega
  subst this
  rw[Aq7,aM,cF,aO]
  simp only[ltn,aA,aS,aB,Zf]
 | n+1,i,acc,h,o=>by
  have j:i<(As s a).length :=by omega
  have x:=Kr s a
  have q:=Kr s b
  have r:=aF j
  have t:=gB IV.str (aJ j)
  have hp:=Vg d r
  obtain⟨b1,w1⟩:=Bgh b _ e hp
  obtain⟨b2,u⟩:=Bgh a _ g hp
  have m1:=Apl (v:=b) (As s a)[i] e
  have m2:=Apl (v:=a) (As s a)[i] g
  have w:=Amd (atB b (As s a)[i]) (atB a (As s a)[i]) (by omega)
  have i1:=Acw s b a e g d n (i+1) acc (by omega) (by omega)
  have i2:=Acw s b a e g d n (i+1) (acc++ [(As s a)[i]]) (by omega) (by simp;omega)
  have ap:dN 16 (SL acc) (.list [.str (As s a)[i]])=some (SL (acc++ [(As s a)[i]])):=apm IV.str acc (As s a)[i] (by omega)
  have m:W F106 0 [SL (As s b),.str (As s a)[i]]=some [.bool (inB (As s b) (As s a)[i])]:=by
   have:=Nb (As s b) (As s a)[i] (by omega)
   rw[Bhi]at this
   exact this
  rw[Aq7,aC j,aY]
  unfold Ba7 at i1 i2 ⊢
  simp only[lti j,aA,aS,Zt,t,w1,u,Jj,m,bO,dK,dC,eQ,w,Ax,An,dH,ap]
  rw[Anx,Anx]
  simp only[nxt (show i<4611686018427387904 by omega),aA,i1,i2]
  cases inB (As s b) (As s a)[i]with
  | false=>simp
  | true=>
   by_cases c:atB b (As s a)[i]=atB a (As s a)[i]<;>simp[c]
theorem Be8 (s:Sch)(b a:Val)(d:s.Ap<=1048576)(e:b.Ap<=1048576)(g:a.Ap<=1048576)(c:a.valid=true):W F208 0 [s.enc,b.enc,a.enc]=some [SL (Atu s b a)]:=by
 have:=Acw s b a e g c (As s a).length 0 [] (by omega) (aN _)
 simp only[aD,aE,bD]at this
 rw[A4s]
 simp only[Sr s b d e,Sr s a d g,bO,fA,aA]
 exact this
theorem Wm (a b:List ByteArray):(Pf a b).length <=a.length:=cK (cL _ _) (Nw a)
theorem Atj (l:List Mgr)(all new:List ByteArray)(nm:ByteArray)(B:l.length<=1048576)(hp: ∀m∈l,m.paths.length<=1048576)(w:all.length<=1048576)(z:new.length<=1048576): ∀ (n i:Nat) (a:List Mgr),i+n=l.length->a.length<=i+1->
   W Bgu 1 [.str nm,SL all,SL new,.list (l.map Mgr.enc),.int l.length,.int i,.list (a.map Mgr.enc)]=W Bgu 1 [.str nm,SL all,SL new,.list (l.map Mgr.enc),.int l.length,.int l.length,.list ((a++(Tx all new (l.drop i)).filter λm=> !decide (m.name=nm)).map Mgr.enc)]
 :=by
  intro n
  induction n with
  | zero=>
   intro i a h e
   have:i=l.length:=by omega
   subst this
   rw[aM]
   simp only[Tx,cF,aL,aO]
  | succ n q=>
   intro i a h e
   have d:i<l.length:=by omega
   obtain⟨x,r⟩: ∃x,l[i]=x:=⟨_,rfl⟩
   have b:=Jq Mgr.enc d
   have hdr:=aC d
   have g:=hp _ (aF d)
   rw[r]at b hdr g
   have j:=nxt (show i<4611686018427387904 by omega)
   have o:=lti d
   clear r
   have e1:=A7z x.paths all g w
   have t:=Ag5 (Pf x.paths all) new (cK (Wm x.paths all) g) z
   generalize u:Hy (Pf x.paths all) new=y at t
   have A:Tx all new (l.drop i)=⟨x.name,y⟩::Tx all new (l.drop (i+1)):=by
    rw[hdr,<-u];rfl
   clear u
   have i1:=q (i+1) a (by omega) (by omega)
   have i2:=q (i+1) (a++ [(⟨x.name,y⟩:Mgr)]) (by omega) (by simp;omega)
   have ap:dN 40 (.list (a.map Mgr.enc)) (.list [.agg [.str x.name,SL y]])=some (.list ((a++ [(⟨x.name,y⟩:Mgr)]).map Mgr.enc)):=apm Mgr.enc (n:=40) a (⟨x.name,y⟩:Mgr) (by omega)
   rw[Aqf,A,aY]
   simp only[o,aA,aS,Zt,b,Am0,gS,A6d,Bbt,e1,t,bO,dC,dH,ap]
   rw[Ap1,Ap1]
   simp only[j,aA,i1,i2]
   by_cases c:x.name=nm<;>simp[c]
theorem Apn (l:List Mgr)(all new:List ByteArray)(nm:ByteArray)(a:List ByteArray)(d:I4 l)(o:l.length<=1000000)(hp:a.length<=1048576)(b: ∀m∈l,m.paths.length<=1048576)(g:all.length<=1048576)(h:new.length<=1048576):
  W Bgu 0 [.list (l.map Mgr.enc),.str nm,SL a,SL all,SL new]=some [.list ((Z6 nm a (decide (a.length=0)) (Tx all new l)).map Mgr.enc)]:=by
 have c:=Atj l all new nm (by omega) b g h l.length 0 [(⟨nm,a⟩:Mgr)] (by omega) (aN _)
 have e:IV.agg [.str nm,SL a]=Mgr.enc ⟨nm,a⟩:=rfl
 simp only[aD,aE,aI,aL]at c
 rw[A51]
 simp only[dC,dH,aA,Gi,e,c]
 rw[Aqf]
 simp only[ltn,aA,aS,aB,Zf]
 rw[bG]
 exact Aho nm a (Tx all new l) (Ab5 d) (by unfold Tx;rw[aH];omega) hp (λm i=>by
  obtain⟨x,j,rfl⟩:=aX.1 i
  exact cK (Oy _ _) (cK (Wm _ _) (b x j)))
end Go.CT.Sch
namespace Go.CT.Sch
open Go.Proofs
def Bff (m:List Mgr)(nm:ByteArray)(all new:List ByteArray):List Mgr:=
 if(decide ((Hk m nm).length =0)&&decide (16<=(Z6 nm [] true (Tx all new m)).length))=true then Z6 nm [] true (Tx all new m)
 else Z6 nm (Wb (Pf (Hk m nm) all++new)) (decide ((Wb (Pf (Hk m nm) all++new)).length =0)) (Tx all new m)
noncomputable def Bid (s:Sch) (b a:Val) (m:List Mgr) (nm:ByteArray):List Mgr:=Bff m nm (As s a) (Atu s b a)
noncomputable def Bhd (s:Sch) (b a:Val) (m:List Mgr) (nm:ByteArray):List Mgr:=if okB s b a m nm=true then Bid s (D.Bn b s) (D.Bn a s) m nm else m
theorem Aws (l:List Mgr)(c:l.length<=1048576)(hp: ∀m∈l,m.paths.length<=1048576): ∀ (n i:Nat) (a:List Mgr),i+n=l.length->a.length<=i->
  W F207 1 [.list (l.map Mgr.enc),.int l.length,.int i,.list (a.map Mgr.enc)]=some [.list ((a++l.drop i).map Mgr.enc)]
 | 0,i,a,h,d=>by
  have:i=l.length:=by omega
  subst this
  rw[A68,aM,aO]
  simp only[ltn,aA,aS,aB,Zf]
 | n+1,i,a,h,d=>by
  have b:i<l.length:=by omega
  have e:=hp _ (aF b)
  have i2:=Aws l c hp n (i+1) (a++ [l[i]]) (by omega) (by simp;omega)
  have ap:dN 40 (.list (a.map Mgr.enc)) (.list [.agg [.str l[i].name,.list (l[i].paths.map .str)]])=some (.list ((a++ [l[i]]).map Mgr.enc)):=apm Mgr.enc a l[i] (by omega)
  have cl:O.Iq [.list (l[i].paths.map IV.str)]=some [.list (l[i].paths.map .str)]:=Dy (by rw[aH];omega)
  rw[A68,aC b]
  simp only[lti b,aA,aS,Zt,Jq Mgr.enc b,Am0,Ass,At9,cl,bO,dC,dH,ap,nxt (show i<4611686018427387904 by omega),i2,bI,bG]
theorem A89 (s:Sch)(b a:Val):(Atu s b a).length <=a.Ap:=cK (cL _ _) (Kr s a)
theorem ge16 (n:Nat):O.ge (.int (n:Int)) (.int 16)=some (.bool (decide (16<=n))):=by rw[O.Gq];congr 2;exact decide_eq_decide.2 (by omega)
theorem own0 {m:List Mgr}{nm:ByteArray}(a: ∀x∈m,x.paths≠ [])(h:(Hk m nm).length =0)(all new:List ByteArray):Z6 nm [] true (Tx all new m)=I5 (Tx all new m):=by
 rw[Kq]
 congr 1
 refine dM.2 λx c=>?_
 obtain⟨y,d,rfl⟩:=aX.1 c
 show(!decide (y.name=nm))=true
 rw[dW,decide_eq_false_iff_not]
 intro e
 unfold Hk at h
 cases b:m.find? λm=>decide (m.name=nm) with
 | none=>exact absurd (eJ.1 b y d) (by simp[e])
 | some z=>
  rw[b]at h
  exact a z (bX b) (cC.1 h)
theorem Ava (s:Sch)(b a:Val)(m:List Mgr)(nm:ByteArray)(j:Sz s b a m):
  W F207 0 [s.enc,b.enc,a.enc,.list (m.map Mgr.enc),.str nm]=some [.list ((Bhd s b a m nm).map Mgr.enc)]:=by
 have F:=j.hab
 have h:=j.hs
 have y:=j.hm
 have G:=j.hp
 have e: ∀x∈m,x.paths.length<=1048576:=λx o=>by have:=Ub o;omega
 rw[A32]
 simp only[Pq s h,I2 b (by omega),I2 a (by omega),A7u m (by omega) (λx o=>by have:=e x o;omega),Axl,A4g s b h (by omega),A4g s a h (by omega),bO,dK,aA,aS,Ax,An]
 have q: ∀a b:Bool,(if a=true then true else b)=(a||b):=by decide
 simp only[q,A65]
 unfold Bhd
 cases r:okB s b a m nm with
 | false=>
  have:=Aws m (by omega) e m.length 0 [] (by omega) (aN _)
  simp only[aD,aL,aE,bD]at this
  simp only[bJ,Zt,aB,Zf,Gi,aA]
  exact this
 | true=>
  have d:=r
  unfold okB at d
  simp only[aG]at d
  obtain⟨⟨⟨z,A⟩,H⟩,f4⟩:=d
  have I:=T9 z
  have B:=T9 A
  have J:=Ki b s
  have K:=Ki a s
  obtain⟨i,t,hlen⟩:=Aep H
  simp only[aR,aB,Zf,Zt,(R3 z h (by omega)).1,(R3 A h (by omega)).1,bO]
  generalize D.Bn b s=g at I J ⊢
  generalize D.Bn a s=c at B K ⊢
  have C:=Kr s c
  have L:=A89 s g c
  have M:=Wu m nm
  have N:=Wm (Hk m nm) (As s c)
  have u:=Nw (Pf (Hk m nm) (As s c)++Atu s g c)
  rw[aK]at u
  have Q:=Apn m (As s c) (Atu s g c) nm [] i y (cP _) e (by omega) (by omega)
  have R:=Apn m (As s c) (Atu s g c) nm (Wb (Pf (Hk m nm) (As s c)++Atu s g c)) i y (by omega) e (by omega) (by omega)
  have w:W Bgu 0 [.list (m.map Mgr.enc),.str nm,.list [],SL (As s c),SL (Atu s g c)]=some [.list ((Z6 nm [] true (Tx (As s c) (Atu s g c) m)).map Mgr.enc)]:=Q
  simp only[Sr s c h (by omega),Be8 s g c h (by omega) (by omega) B.vv,bO,A8i m nm (by omega) t,A7z (Hk m nm) (As s c) (by omega) (by omega),A7e (Pf (Hk m nm) (As s c)) (Atu s g c) (by omega) (by omega),fA,aA,eq0,aS,w,Gi,ge16,R,Ax,An]
  unfold Bid Bff
  have hand: ∀a b:Bool,(if a=true then b else false)=(a&&b):=by decide
  simp only[hand]
  split<;>rfl
end Go.CT.Sch
