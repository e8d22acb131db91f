import Derived.Test.YtfealnpkfnjbkaaGreatDoorConflictsPrA
import Derived.Test.YtfealnpkfnjbkaaGreatDoorCtC
import Derived.Test.YtfealnpkfnjbkaaGreatDoorLib
set_option linter.unusedVariables false
set_option linter.unusedSimpArgs false
open Bool renaming false_eq_true->aB,and_eq_true->aE,not_true->aP,not_false->bE,true_and->bO,and_self->cM,false_and->cO,not_eq_true->dA,and_false->dL,not_eq_true'->dY,false_or->fR,true_or->gW
open ByteArray renaming toList_data_append->cQ,size_append->fI
open Classical renaming byContradiction->dM
open Go.CT.Fld renaming enc->aY,J0->fU,Bp->gE,C0->gR
open Go.CT.IV renaming bulk->fF,Dd->iE
open Go.CT.O renaming Aa->aS,eq_int->bL,Ae->bM,Ay->dB,Ah->dF,As->dN,Ba->dP,append->eD,Ak->eF,Cc->eL,Ao->eS,Ai->eV,Cg->fD,setAt->fG,Df->fP,proj->fW,Bx->gC,Ef->gD,Dh->gH,index->gM,gt->gX,Bh->iH
open Go.CT.Prim renaming ev->fO
open Go.CT.SFld renaming enc->bR,Ql->eO,Bp->gU
open Go.CT.Sch renaming enc->cR,Hz->dU,Bp->eH,Ck->eQ,Iy->eY,Gk->fB,Bm->gF,Dq->gT,C7->hJ,Eh->hQ,Cd->hZ
open Go.CT.Sch.Sch renaming Gv->eA
open Go.CT.Sch.Stp renaming enc->bZ,Bp->iB,C7->iC
open Go.CT.Srt renaming LE->eR,len->fY,idx->gL,Aqx->iD
open Go.CT.Val renaming enc->bI,Cd->cN,Ck->cT,Bp->cX,Bm->dD,Zj->dG,Ae2->dH,Gd->eG,ind->eP,C0->eT,C7->eZ,Eh->fA,Awv->fE,Dq->fS,Bv->fT,Ux->gN,U0->gO,Ap->gP,get->gS,E2->gV,fold->gY,size_eq->gZ
open Int renaming cast_ofNat_Int->aD,toNat_natCast->aT,natCast_nonneg->aU,toNat_zero->dJ,le_refl->eC
open List renaming drop_eq_getElem_cons->aC,getElem_mem->aF,drop_zero->aG,length_map->aH,getElem?_eq_getElem->aI,map_cons->aK,length_append->aM,map_nil->aN,drop_length->aO,append_nil->aQ,flatMap_cons->aV,filter_cons->aW,getElem?_map->aX,length_eq_one_iff->bA,mem_map->bB,singleton_append->bC,length_singleton->bD,drop_of_length_le->bF,nil_append->bG,append_assoc->bH,length_nil->bJ,mem_cons->bK,pairwise_cons->bN,all_eq_true->bP,mem_singleton->bT,mem_of_find?_eq_some->bU,find?_cons->bW,length_cons->bX,mem_append->bY,getElem?_cons_zero->cB,length_eq_zero_iff->cC,filter_nil->cE,mem_cons_of_mem->cF,mem_filter->cG,length_filter_le->cH,flatMap_nil->cI,mem_cons_self->cJ,mem_flatMap->cK,set_getElem_self->cS,map_append->cU,all_cons->cW,all_nil->dE,length->dI,mem_append_left->dK,length_pos_iff->dO,filter_eq_self->dQ,head?_cons->dR,find?_eq_none->dW,drop_eq_nil_of_le->dZ,find?_some->eI,headD_cons->eJ,all_append->eK,filter_append->eM,ne_nil_of_mem->eN,length_drop->eU,pairwise_singleton->eW,take_of_length_le->eX,foldl_cons->fH,mem_of_getElem?->fL,map_eq_nil_iff->fQ,find?_append->fZ,map_set->gA,pairwise_map->gB,nodup_cons->gK
open List.Pairwise renaming nil->bQ,filter->eE,map->iF,imp->iG
open List.cons renaming injEq->dS
open Nat renaming le_refl->aR,le_trans->cL,le_of_not_lt->cY,zero_le->dC,zero_add->dX,le_add_right->eB,mul_le_mul->fK,add_sub_cancel->fX,le_add_left->gJ,add_zero->gQ
open Option renaming bind_some->aA,map_some->aJ,getD_some->aL,isSome_some->aZ,isSome_iff_exists->bV,isSome_none->cD,bind_eq_some_iff->cP,map_none->cV,getD_none->cZ,some_or->fM,none_or->fN
open Option.some renaming inj->gI
open UInt8 renaming lt_iff_toNat_lt->fJ,toNat_inj->gG
namespace Go.CT.Sch
open Go.Proofs
theorem sxb {s:ByteArray}{i:Nat}{c:UInt8}{r:List UInt8}(h:s.data.toList.drop i=c::r): ∃a:i<s.size,s[i]=c/\s.data.toList.drop (i+1)=r:=by
 obtain⟨_,a,d⟩:=sx h
 have b:=Ht a
 rw[h]at b
 exact⟨a,(List.cons.inj b).1.symm,d⟩
theorem pn_1 (s:ByteArray): ∀ (a:List UInt8) (i:Nat) (r:List UInt8),s.data.toList.drop i=a++r->i<=s.size->(∀c∈a,Bu c=true)->Zn r->
  W F159 1 [.str s,.str s,.int i]=some [.int ((i+a.length:Nat):Int)]
 | [],i,r,h,g,_,j=>by
  rw[An8]
  cases r with
  | nil=>
   have b: ¬ i<s.size:=by
    have:=congrArg dI h
    rw[eU,C8]at this
    simp at this;omega
   have e:i=s.size:=by omega
   simp only[O.T7 b,O.Tk b,O.Oo b,aA,aS,aB,Zf,iH,bJ,gQ]
   rw[e]
  | cons c t=>
   obtain⟨b,m,_⟩:=sxb (show s.data.toList.drop i=c::t from h)
   have o:=j c t rfl
   rw[<-m]at o
   have y:nmR (Utf8.decode s i).1 =false:=by
    by_cases q:s[i].toNat <128
    ·rw[Pk b q,<-o,<-Vt]
    ·exact Ac8 (by have:=decode_high b (by omega);omega)
   simp only[O.Rk b,O.Sg b,O.M7 b,aA,aS,Zt,O.Sa,Aky,y,bM,dN,bE,bJ,gQ]
 | c::a,i,r,h,g,u,j=>by
  obtain⟨b,m,z⟩:=sxb (show s.data.toList.drop i=c::(a++r) from h)
  have d:=u c (by simp)
  rw[<-m]at d
  have q:s[i].toNat <128:=by
   apply dM
   intro o
   rw[Aip (by omega)]at d;cases d
  have w:=pn_1 s a (i+1) r z (by omega) (λx A=>u x (by simp[A])) j
  have e:i+1+a.length=i+(c::a).length :=by simp;omega
  rw[e]at w
  rw[An8]
  simp only[O.Rk b,O.Sg b,O.M7 b,Pk b q,aA,aS,Zt,O.Sa,Aky,Vt,d,bM,dN,aP,aB,Zf,w]
theorem A6x (s:ByteArray)(a r:List UInt8)(h:s.data.toList=a++r)(b: ∀c∈a,Bu c=true)(d:Zn r):W F159 0 [.str s]=some [.int (a.length:Nat)]:=by
 have:=pn_1 s a 0 r (by rw[aG];exact h) (by omega) b d
 rw[dX]at this
 rw[A1j]
 exact this
theorem slo {s:ByteArray}{i:Nat}{r:List UInt8}(h:s.data.toList.drop i=r)(a:i<=s.size):O.Jb (.str s) (.int i)=some (.str (bsL r)):=by
 rw[O.Ah1,if_pos ⟨by omega,by omega⟩]
 congr 2
 apply Gb
 rw[ByteArray.data_extract,Array.toList_extract]
 simp only[aT,List.extract_eq_take_drop,bsL,h]
 refine eX ?_
 have:=congrArg dI h
 rw[eU,C8]at this
 omega
theorem Bgj (s:ByteArray)(J:s.size<=100000): ∀ (v:List UInt8) (i:Nat) (r:List UInt8) (o:ByteArray),s.data.toList.drop i=v.flatMap I6++34::r->(∀c∈v,Ir c=true)->o.size+v.length<=1000->
  W Bf8 1 [.str s,.int i,.list (Cl o)]=some [.str (o++bsL v),.str (bsL r),.bool true]
 | [],i,r,o,h,_,_=>by
  obtain⟨j,m,q⟩:=sx (show s.data.toList.drop i=34::r from h)
  have t:=Bf (i:=i) (by omega)
  have e:o++bsL []=o:=by apply Gb;rw[cQ];simp[bsL]
  have A:((34:UInt8).toNat :Int)=34:=rfl
  rw[Ab4]
  simp only[iH,aA,dF,Al,m,Zd,aS,Zt,j,bL,A,Ats,O.Nc,bM,eF,t,slo q (by omega),e]
 | c::v,i,r,o,h,K,L=>by
  have M:=K c (by simp)
  have u: ∀x∈v,Ir x=true:=λx N=>K x (by simp[N])
  simp only[bX]at L
  have hrange:=Uj M
  simp only[aV,bH]at h
  have two: ∀d:UInt8,I6 c= [92,d]->(d.toNat=34\/d.toNat=92\/d.toNat=110)->(d.toNat=110↔c.toNat=10)->(d.toNat≠110->d=c)->
    W Bf8 1 [.str s,.int i,.list (Cl o)]=some [.str (o++bsL (c::v)),.str (bsL r),.bool true]:=by
   intro d B hd Q C
   rw[B]at h
   obtain⟨j,m,q⟩:=sx (show s.data.toList.drop i=92::(d::(v.flatMap I6++34::r)) from h)
   obtain⟨R,S,T⟩:=sx q
   have t:=Bf (i:=i) (by omega)
   have F:=Bf (i:=i+1) (by omega)
   have G:((92:UInt8).toNat :Int)=92:=rfl
   have H:=Bgj s J v (i+1+1) r (o++bsL [c]) T u (by rw[fI,Ca,bD];omega)
   have nx:W Bf8 2 [.str s,.int ((i+1:Nat):Int),.list (Cl (o++bsL [c]))]=some [.str (o++bsL (c::v)),.str (bsL r),.bool true]:=by
    rw[Alz]
    simp only[eF,F,aA,H,Vh]
   rw[Ab4]
   simp only[iH,aA,dF,Al,m,Zd,aS,Zt,j,bL,G,show ¬ (92:Int)=34 by omega,Ze,aB,Zf,show ¬ (92:Int)<32 by omega,gC,show ¬ (126:Int)<92 by omega,eL,aP,eF,t,S,R]
   by_cases cn:d.toNat=110
   ·have g: ¬ (d.toNat:Int)=34:=by omega
    have w: ¬ (d.toNat:Int)=92:=by omega
    have I:(d.toNat:Int)=110:=by omega
    have y:c=10:=gG.1 (Q.1 cn)
    have a:=Nd o 10 (by omega)
    rw[show((10:UInt8).toNat :Int)=10 from rfl]at a
    rw[<-y]at a
    simp only[I,show ¬ (110:Int)=34 by omega,show ¬ (110:Int)=92 by omega,Zd,Ze,aB,Zf,Zt,aA,aS,a,bM,nx]
   ·have z:=C cn
    have a:=Nd o d (by omega)
    rw[z]at a
    subst z
    rcases hd with hd | hd | hd
    ·have g:(d.toNat:Int)=34:=by omega
     rw[g]at a
     simp only[g,Zd,Zt,aA,aS,a,bM,nx]
    ·have g: ¬ (d.toNat:Int)=34:=by omega
     have w:(d.toNat:Int)=92:=by omega
     rw[w]at a
     simp only[w,show ¬ (92:Int)=34 by omega,Zd,Ze,aB,Zf,Zt,aA,aS,a,bM,nx]
    ·exact absurd hd cn
  by_cases b:c.toNat=10
  ·exact two 110 (by unfold I6;rw[if_pos b]) (.inr (.inr rfl)) ⟨λ_=>b,λ_=>rfl⟩ (λh=>(h rfl).elim)
  ·by_cases cq:c.toNat=34\/c.toNat=92
   ·exact two c (by unfold I6;rw[if_neg b,if_pos cq]) (by omega) (by omega) (λ_=>rfl)
   ·have B:I6 c= [c]:=by unfold I6;rw[if_neg b,if_neg cq]
    rw[B]at h
    obtain⟨j,m,q⟩:=sx (show s.data.toList.drop i=c::(v.flatMap I6++34::r) from h)
    have t:=Bf (i:=i) (by omega)
    have H:=Bgj s J v (i+1) r (o++bsL [c]) q u (by rw[fI,Ca,bD];omega)
    have a:=Nd o c (by omega)
    have g: ¬ (c.toNat:Int)=34:=by omega
    have w: ¬ (c.toNat:Int)<32:=by omega
    have I: ¬ (126:Int)<c.toNat:=by omega
    have U: ¬ (c.toNat:Int)=92:=by omega
    rw[Ab4]
    simp only[iH,aA,dF,Al,m,Zd,aS,Zt,j,bL,g,Ze,aB,Zf,w,gC,I,eL,U,bE,a,bM]
    rw[Alz]
    simp only[eF,t,aA,H,Vh]
theorem A7j (c:UInt8)(l:List UInt8):decide (bsL (c::l)=(⟨#[]⟩:ByteArray))=false:=decide_eq_false λe=>by
 have h:=congrArg ByteArray.size e
 rw[Ca,show(⟨#[]⟩:ByteArray).size =0 from rfl]at h
 cases h
theorem A5b (v:ByteArray)(a:Jj v=true)(r:List UInt8)(j:r.length<=20000):W Bf8 0 [.str (bsL (34::(v.data.toList.flatMap I6++34::r)))]=some [.str v,.str (bsL r),.bool true]:=by
 have d:=Pv a
 unfold Jj at a
 simp only[aE,bP]at a
 have e:=Akb v.data.toList
 rw[C8]at e
 obtain⟨c,m,g⟩:=sx (s:=bsL (34::(v.data.toList.flatMap I6++34::r))) (i:=0) (show _=34::(v.data.toList.flatMap I6++34::r) from rfl)
 have h:(bsL (34::(v.data.toList.flatMap I6++34::r))).size <=100000:=by
  rw[Ca]
  simp only[bX,aM];omega
 have:=Bgj _ h v.data.toList 1 r An g a.1 (by rw[C8];show 0+_<=_;omega)
 rw[Hd,Ps]at this
 have b:((34:UInt8).toNat :Int)=34:=rfl
 simp only[aD]at c
 rw[A47]
 simp only[gH,A7j,aA,aS,aB,Zf,c,eL,b,Zd,aP]
 exact this
theorem Bfg (r:List UInt8):Zn (61::r):=Nq (by decide)
theorem Bfc (s nm vl:ByteArray)(m:C4 nm=true)(t:Jj vl=true)(r:List UInt8)(y:r.length<=10000)(h:s.data.toList=91::(nm.data.toList++61::(34::(vl.data.toList.flatMap I6++34::(93::r))))):
  W F158 0 [.str s]=some [bZ ⟨3,nm,0,vl⟩,.str (bsL r),.bool true]:=by
 obtain⟨d,a⟩:=G6 m
 have o:0<nm.data.toList.length:=dO.2 a
 have e:s.data.toList.drop 1=nm.data.toList++61::(34::(vl.data.toList.flatMap I6++34::(93::r))):=by rw[h];rfl
 have b:=congrArg dI h
 rw[C8]at b
 simp only[bX,aM]at b
 have q:=slo e (by omega)
 simp only[aD]at q
 have a2:=A6x (bsL (nm.data.toList++61::(34::(vl.data.toList.flatMap I6++34::(93::r))))) nm.data.toList _ rfl d (Bfg _)
 have u:IntKind.i64.wrap (1+((nm.data.toList.length:Nat):Int))=((1+nm.data.toList.length:Nat):Int):=by
  have:nm.data.toList.length<=40:=by rw[C8];exact Qj m
  rw[wrap64 (by omega) (by omega)];omega
 have a3:=ssl e a
 simp only[aD]at a3
 rw[Ps]at a3
 have w:s.data.toList.drop (1+nm.data.toList.length)=61::(34::(vl.data.toList.flatMap I6++34::(93::r))):=Sy e
 have a4:=slo w (by omega)
 have x: ¬ ((nm.data.toList.length:Nat):Int)=0:=by omega
 have b1:=fun(c:UInt8) (l:List UInt8)=>(sx (s:=bsL (c::l)) (i:=0) (show _=c::l from rfl)).1
 simp only[aD]at b1
 have b2:=fun(c:UInt8) (l:List UInt8)=>slo (s:=bsL (c::l)) (i:=1) (show _=l from rfl) (by rw[Ca];simp)
 simp only[aD]at b2
 have g:((61:UInt8).toNat :Int)=61:=rfl
 have j:((93:UInt8).toNat :Int)=93:=rfl
 rw[A4z]
 simp only[q,aA,a2,bM,eF,u,a3,a4,bL,x,Ze,aS,aB,Zf,gH,A7j,b1,g,j,show ¬ (61:Int)=93 by omega,eL,Zd,aP,b2,A5b vl t (93::r) (by simp;omega),O.J7,dN,dB]
 rfl
theorem Bg8 {s:ByteArray}(h:s.data.toList= []):s=⟨#[]⟩:=Gb h
theorem pq_3 (s:ByteArray)(nm:ByteArray)(g:C4 nm=true)(r:List UInt8)(h:s.data.toList=nm.data.toList++r)(i:Zn r)(done:List Stp)(hd:done.length<=100):
  W Bfv 3 [.str s,.list (done.map bZ)]=W Bfv 1 [.str (bsL r),.list ((done++ [(⟨1,nm,0,An⟩:Stp)]).map bZ)]:=by
 obtain⟨b,a⟩:=G6 g
 have d:0<nm.data.toList.length:=dO.2 a
 have j:=A6x s nm.data.toList r h b i
 have m: ¬ ((nm.data.toList.length:Nat):Int)=0:=by omega
 have o:s.data.toList.drop 0=nm.data.toList++r:=h
 have a2:=ssl o a
 simp only[aD,dX]at a2
 rw[Ps]at a2
 have c:=congrArg dI h
 rw[C8,aM]at c
 have q:s.data.toList.drop nm.data.toList.length=r:=by rw[h,List.drop_left]
 have a3:=slo q (by omega)
 have e:IV.agg [.int 1,.str nm,.int 0,.str ⟨#[]⟩]=bZ ⟨1,nm,0,An⟩:=rfl
 rw[A2o]
 simp only[j,bM,bL,m,Ze,aA,aS,aB,Zf,a2,dB,e,dP,apm bZ (n:=48) done ⟨1,nm,0,An⟩ (by omega),a3]
 rw[Aod]
theorem pq_1 (full:List Stp)(b:Cy full=true)(K: ∀x∈full,x.k≠2): ∀ (p done:List Stp) (s:ByteArray),done++p=full->s.data.toList=(Ei (decide (done.length=0)) p).data.toList ->
  W Bfv 1 [.str s,.list (done.map bZ)]=some [.list (full.map bZ),.int 0]
 | [],done,s,hd,h=>by
  rw[aQ]at hd
  subst hd
  have N:s=⟨#[]⟩:=Bg8 (by rw[h];rfl)
  subst N
  have g:=b
  unfold Cy at g
  simp only[aE,bP,decide_eq_true_eq]at g
  have w:=Sh done (λx d=>by
   have:=Dv (g.1 x d)
   exact⟨by omega,by omega⟩) (by omega)
  rw[Amo]
  simp only[gD,Zd,aP,aA,aS,aB,Zf,w,bM,b,dN]
 | x::p,done,s,hd,h=>by
  have g:=b
  unfold Cy at g
  simp only[aE,bP,decide_eq_true_eq]at g
  have d:Dl x=true:=g.1 x (by rw[<-hd];simp)
  have j:=K x (by rw[<-hd];simp)
  have hp: ∀y∈p,Dl y=true:=λy Q=>g.1 y (by rw[<-hd];simp[Q])
  have hlen:done.length+p.length+1=full.length:=by rw[<-hd];simp;omega
  have Y:=T5 p hp false
  have R:500 * p.length<=500 * 16:=fK (aR _) (by omega)
  simp only[Ei,cQ]at h
  have m:=Wu p hp
  have z:=(T1 (decide (done.length=0)) x d).1
  have A:=pq_1 full b K p (done++ [x]) (bsL (Ei false p).data.toList) (by rw[<-hd];simp) (by
   have:decide ((done++ [x]).length =0)=false:=decide_eq_false (by simp)
   rw[this];rfl)
  have o:decide (s=(⟨#[]⟩:ByteArray))=false:=decide_eq_false λe=>by
   subst e
   have h':([]:List UInt8)=(H0 (decide (done.length=0)) x).data.toList ++(Ei false p).data.toList :=h
   exact z (List.append_eq_nil_iff.1 h'.symm).1
  obtain⟨S,T,U,X,L⟩:=Dv d
  obtain⟨xk,xn,xi,xv⟩:=x
  simp only at S T U X L j
  unfold Dl at d
  unfold H0 at h
  simp only at d h
  rw[Amo]
  simp only[gD,o,bE,aA,aS,Zt]
  rcases L with rfl | rfl | rfl
  ·simp only[Zt,aE,decide_eq_true_eq]at d
   obtain⟨⟨q,rfl⟩,rfl⟩:=d
   simp only[show ¬ (1:Int)=2 by omega,show ¬ (1:Int)=3 by omega,Zf]at h
   obtain⟨B,C⟩:=G6 q
   by_cases F:done.length=0
   ·simp only[F,Zd,Zt]at h
    obtain⟨c,a,r⟩:=List.exists_cons_of_ne_nil C
    have h':s.data.toList.drop 0=c::(a++(Ei false p).data.toList):=by rw[aG,h,r];rfl
    obtain⟨i,M,G⟩:=sx h'
    simp only[aD]at i
    have H:=B c (by rw[r];simp)
    have t: ¬ (c.toNat:Int)=91:=by
     intro e
     have:c.toNat=91:=by omega
     unfold Bu at H
     rw[this]at H
     simp at H
    have I:gX (.int (done.length:Nat)) (.int 0)=some (.bool false):=by rw[gC,F];rfl
    simp only[i,aA,bL,t,Ze,aS,aB,Zf,G5,I]
    rw[pq_3 s xn q _ h m done (by omega),A]
   ·simp only[F,Ze,aB,Zf]at h
    have h':s.data.toList.drop 0=46::(xn.data.toList++(Ei false p).data.toList):=by rw[aG,h];simp[cQ,bsL]
    obtain⟨i,M,G⟩:=sx h'
    simp only[aD]at i
    have I:gX (.int (done.length:Nat)) (.int 0)=some (.bool true):=by rw[gC];congr 2;exact decide_eq_true (by omega)
    have u:=slo G (by omega)
    simp only[dX,aD]at u
    simp only[i,aA,bL,show((46:UInt8).toNat :Int)=46 from rfl,show ¬ (46:Int)=91 by omega,Ze,aS,aB,Zf,G5,I,Zt,eL,Zd,aP,u]
    rw[pq_3 (bsL (xn.data.toList++(Ei false p).data.toList)) xn q _ rfl m done (by omega),A]
  ·exact absurd rfl j
  ·simp only[show ¬ (3:Int)=1 by omega,show ¬ (3:Int)=2 by omega,Zf,Zt,aE,decide_eq_true_eq]at d
   obtain⟨⟨q,w⟩,rfl⟩:=d
   simp only[show ¬ (3:Int)=2 by omega,Zf,Zt]at h
   have h':s.data.toList=91::(xn.data.toList++61::(34::(xv.data.toList.flatMap I6++34::(93::(Ei false p).data.toList)))):=by
    rw[h];simp[cQ,bsL,Me]
   have J:=Bfc s xn xv q w _ (by rw[C8];omega) h'
   obtain⟨i,M,G⟩:=sx (show s.data.toList.drop 0=91::_ from h')
   simp only[aD]at i
   simp only[i,aA,bL,show((91:UInt8).toNat :Int)=91 from rfl,Zd,aS,Zt,J,O.J7,dN,aP,aB,Zf,dP,apm bZ (n:=48) done ⟨3,xn,0,xv⟩ (by omega)]
   rw[Aod,A]
theorem Apl (p:List Stp)(hp:Cy p=true)(c: ∀x∈p,x.k≠2):W Bfv 0 [.str (Cn p)]=some [.list (p.map bZ),.int 0]:=by
 have a:=hp
 unfold Cy at a
 simp only[aE,bP,decide_eq_true_eq]at a
 have d:=T5 p a.1 true
 have g:500 * p.length<=500 * 16:=fK (aR _) a.2
 have e:Cn p=Ei true p:=by unfold Cn;rw[if_pos hp];rfl
 have b: ¬ (20000:Int)<((Ei true p).size :Int):=by omega
 have:=pq_1 p hp c p [] (Ei true p) rfl rfl
 simp only[aN]at this
 rw[A35,e]
 simp only[iH,aA,gC,b,Ze,aS,aB,Zf,this]
end Go.CT.Sch
namespace Go.CT.Sch
open Go.Proofs
theorem Be2 (ks:List ByteArray)(s:ByteArray):O.An4 (.bool false) (.list (N7 ks)) (.str s)=some (.bool (inB ks s)):=by
 unfold O.An4
 simp only[fO,Y4,aJ]
 cases inB ks s<;>simp
theorem Bea (ks:List ByteArray)(s:ByteArray): ∃b,O.Aji (.list (N7 ks)) (.str s)=some (.bool b):=by
 unfold O.Aji
 simp only[fO,Y4,aJ]
 exact⟨_,rfl⟩
theorem Bd2 (ks:List ByteArray)(s:ByteArray):O.Aqi (.list (N7 ks)) (.str s) (.bool true)=some (.list (N7 (if inB ks s then ks else ks++ [s]))):=by
 unfold O.Aqi
 simp only[fO,Axg,aJ]
def Ek (s:Sch)(x:Val):Kid:=(Al2 s.key x,x,s.it.head?)
theorem Rp (s t:Sch)(v:Val)(e:s.it= [t])(o:v.Ap<=1048576): ∀ (n i:Nat) (b:List Kid) (acc:List ByteArray),i+n=v.l.length->b.length=i->
  W F141 1 [.list (v.l.map bI),.int v.l.length,.int i,s.enc,.list (b.map G8),.list (N7 acc)]=some [.list ((if Em s.key acc (v.l.drop i) then b++(v.l.drop i).map (Ek s) else[]).map G8)]
 | 0,i,b,acc,h,m=>by
  have:i=v.l.length:=by omega
  subst this
  rw[Al3,aO,Em]
  simp only[ltn,aA,aS,aB,Zf,Zt,aN,aQ]
 | n+1,i,b,acc,h,m=>by
  have d:i<v.l.length:=by omega
  have z:=v.B5
  have A:=eG (aF d)
  have q:=Z8 v.l[i] s.key (by omega)
  obtain⟨bb,r⟩:=Bea acc (Dr v.l[i] s.key)
  have g:O.Aji (.list (N7 acc)) (.str ((v.l[i].get s.key).getD Ar).s)=some (.bool bb):=r
  have a:=Bd2 acc (Dr v.l[i] s.key)
  have c:=Be2 acc (Dr v.l[i] s.key)
  unfold Dr at a c
  rw[Al3,aC d,Em]
  simp only[lti d,aA,aS,Zt,Kg bI d,eQ,q,Ix,I8,dN,eL,Aw,Am,c,g]
  unfold isKey Dr
  cases B:(v.l[i].get s.key).isSome with
  | false=>simp
  | true=>
   by_cases j:((v.l[i].get s.key).getD Ar).k =3
   ·cases u:inB acc ((v.l[i].get s.key).getD Ar).s with
    | true=>simp[j]
    | false=>
     have w:=Rp s t v e o n (i+1) (b++ [Ek s v.l[i]]) (acc++ [Dr v.l[i] s.key]) (by omega) (by simp[m])
     have x:=apm G8 (n:=248) b (Ek s v.l[i]) (by omega)
     have y:(IV.agg [.int 3,.str s.key,.int 0,.str ((v.l[i].get s.key).getD Ar).s,.int v.l[i].k,.int v.l[i].n,.str v.l[i].s,.list (v.l[i].l.map bI),.list (v.l[i].f.map aY),
      .int t.k,.int t.mn,.int t.mx,.list (t.en.map .str),.str t.key,.list (t.it.map cR),.list (t.f.map bR),.bool true])=G8 (Ek s v.l[i]):=by
      unfold Ek G8;rw[e];rfl
     simp only[j,Zd,aP,aB,Zf,a,u,aA,dU,e,aK,aN,eV,eC,Zt,dJ,cB,eH,hJ,hQ,hZ,eQ,eY,
      cX,eZ,fA,cN,cT,dB,dP,nxt (show i<4611686018427387904 by omega),bE,bO,Bool.and_true]
     rw[y,x]
     simp only[aA]
     refine w.trans ?_
     unfold Dr
     simp only[bH,bC]
   ·simp[j]
theorem Ajc (s t:Sch)(v:Val)(a:s.it= [t])(b:v.Ap<=1048576):W F141 0 [s.enc,v.enc]=some [.list ((if Em s.key [] v.l then v.l.map (Ek s) else[]).map G8)]:=by
 have:=Rp s t v a b v.l.length 0 [] [] (by omega) rfl
 rw[aG]at this
 rw[A5e]
 simp only[cN,aA,G5]
 exact this
theorem Y9 (x:Kid)(a: ∀s,x.2.2=some s->SB s/\s.Ap<=1048576)(g:x.2.1.Ap<=1048576):W F137 0 [G8 x]=some [.list ((kids x.2.2 x.2.1).map G8)]:=by
 obtain⟨st,v,o⟩:=x
 rw[A3i]
 simp only[Bhk,kid9,kid4,Bhp,A7y,Axu,aA,dN,eL,aS,Aw,Am]
 cases o with
 | none=>simp[kids]
 | some s=>
  obtain⟨a,q⟩:=a s rfl
  simp only[aZ,aP,aB,Zf,aL]
  rw[kids]
  by_cases h:s.k=v.k
  ·simp only[h,Zd,aP,aB,Zf,Zt,bL,aA]
   by_cases i:v.k=5
   ·simp only[i,Zd,Zt,Aq3 s v (by omega) g,bM];rfl
   ·simp only[i,Ze,aB,Zf,aS,Aw,gD,aA,Am]
    by_cases c:v.k=4
    ·have j:=a.list (by omega)
     obtain⟨t,m⟩: ∃t,s.it= [t]:=bA.1 j
     by_cases b:s.key=An
     ·have:s.key=(⟨#[]⟩:ByteArray):=b
      have e:decide (An=(⟨#[]⟩:ByteArray))=true:=rfl
      simp only[c,Zd,Zt,e,aP,aB,Zf,b,ne_eq,not_true_eq_false,false_and,and_false,aN]
     ·have d: ¬ s.key=(⟨#[]⟩:ByteArray):=b
      simp only[c,Zd,Zt,d,Ze,bE,Ajc s t v m g,bM,true_and,b,ne_eq,not_false_eq_true]
      rfl
    ·simp[c]
  ·simp[h]
theorem Apj (p:List Stp)(s:Stp)(b:p.length<=1073741824):W F143 0 [.list (p.map bZ),s.enc]=some [.list ((p++ [s]).map bZ)]:=by
 have a:O.Ig [.list (p.map bZ)]=some [.list (p.map bZ)]:=Ds (by rw[aH];omega)
 rw[A5d]
 simp only[A5w,a,bM,dP,aA,apm bZ (n:=48) p s (by omega)]
def OSB (o:Option Sch):Prop:= ∀s,o=some s->SB s/\s.Ap<=1048576
theorem Avc {o:Option Sch}{v:Val}(h:OSB o){x:Kid}(a:x∈kids o v):OSB x.2.2:=by
 cases o with
 | none=>simp[kids]at a
 | some s=>
  obtain⟨c,e⟩:=h s rfl
  rw[kids]at a
  split at a
  ·split at a
   ·obtain⟨p,hp,rfl⟩:=bB.1 a
    intro t b
    have:=Jk b
    exact⟨c.sub b,by omega⟩
   ·split at a
    ·obtain⟨p,hp,rfl⟩:=bB.1 a
     intro t b
     have d:=List.mem_of_head? b
     have:=fB d
     exact⟨c.Iu d,by omega⟩
    ·simp at a
  ·simp at a
theorem Aiq {o:Option Sch}{v:Val}(h:OSB o)(b:v.Ap<=1048576){x:Kid}(a:x∈kids o v):x.1.fits:=by
 cases o with
 | none=>simp[kids]at a
 | some s=>
  obtain⟨c,d⟩:=h s rfl
  rw[kids]at a
  split at a
  ·split at a
   ·obtain⟨p,hp,rfl⟩:=bB.1 a
    have:=fS hp
    exact I7 _ (by omega)
   ·split at a
    ·obtain⟨p,hp,rfl⟩:=bB.1 a
     have:=eG hp
     have e:=Apv p s.key
     have:=s.Acx
     exact⟨by show s.key.size<=_;omega,by show(Dr p s.key).size <=_;unfold Dr;omega⟩
    ·simp at a
  ·simp at a
end Go.CT.Sch
namespace Go.CT.Sch
open Go.Proofs
theorem Ap9 (o:Option Sch)(v:Val)(g:Kid->List ByteArray)(b: ∀x∈kids o v,(g x).length <=x.2.1.size):((kids o v).flatMap g).length <v.size:=by
 have i: ∀ (l:List (ByteArray × Val)) (s:Sch),(∀x∈l.map (Hh s),(g x).length <=x.2.1.size)->((l.map (Hh s)).flatMap g).length <=B6 l:=by
  intro l s
  induction l with
  | nil=>simp
  | cons a l c=>
   intro h
   have j:=h (Hh s a) (by simp)
   have m:=c λx d=>h x (by simp only[aK,bK];exact .inr d)
   have q:(Hh s a).2.1.size =a.2.size:=rfl
   have r:B6 (a::l)=a.2.size+B6 l:=rfl
   simp only[aK,aV,aM];omega
 have t: ∀ (l:List Val) (s:Sch),(∀x∈l.map (Ek s),(g x).length <=x.2.1.size)->((l.map (Ek s)).flatMap g).length <=Cp l:=by
  intro l s
  induction l with
  | nil=>simp
  | cons a l c=>
   intro h
   have j:=h (Ek s a) (by simp)
   have m:=c λx d=>h x (by simp only[aK,bK];exact .inr d)
   have q:(Ek s a).2.1.size =a.size:=rfl
   have r:Cp (a::l)=a.size+Cp l:=rfl
   simp only[aK,aV,aM];omega
 have y:=v.size_eq
 cases o with
 | none=>simp only[kids,cI,bJ];omega
 | some s=>
  revert b
  rw[kids]
  intro b
  split
  ·rename_i u;rw[if_pos u]at b
   split
   ·rename_i e;rw[if_pos e]at b
    have:((v.f.map (Hh s)).flatMap g).length <=B6 v.f:=i v.f s b
    show((v.f.map (Hh s)).flatMap g).length <_
    omega
   ·rename_i e;rw[if_neg e]at b
    split
    ·rename_i w;rw[if_pos w]at b
     have:((v.l.map (Ek s)).flatMap g).length <=Cp v.l:=t v.l s b
     show((v.l.map (Ek s)).flatMap g).length <_
     omega
    ·simp only[cI,bJ];omega
  ·simp only[cI,bJ];omega
theorem At0: ∀ (n:Nat) (o:Option Sch) (v:Val) (p:List Stp),(lv n o v p).length <=v.size
 | 0,_,_,_=>by simp[lv]
 | n+1,o,v,p=>by
  have:=v.size_pos
  rw[lv]
  split
  ·simp;omega
  ·exact Nat.le_of_lt (Ap9 o v _ λx _=>At0 n _ _ _)
theorem At2: ∀ (n:Nat) (x:Kid) (p:List Stp) (out:List ByteArray),x.2.1.size<=n->OSB x.2.2->x.2.1.Ap<=1048576->(∀s∈p,s.fits)->p.length+n<=1073741824->out.length+(lv n x.2.2 x.2.1 p).length <=1073741824->
  W Bhn 0 [G8 x,.list (p.map bZ),SL out]=some [SL (out++lv n x.2.2 x.2.1 p)]
 | 0,x,p,out,h,_,_,_,_,_=>by have:=x.2.1.size_pos;omega
 | n+1,x,p,out,h,d,r,hp,B,g=>by
  rw[lv]at g ⊢
  have loop: ∀ (m i:Nat) (out:List ByteArray),i+m=(kids x.2.2 x.2.1).length ->out.length+(((kids x.2.2 x.2.1).drop i).flatMap λy=>lv n y.2.2 y.2.1 (p++ [y.1])).length <=1073741824->
    W Bhn 2 [.list (p.map bZ),.int (kids x.2.2 x.2.1).length,.int i,.list ((kids x.2.2 x.2.1).map G8),SL out]=some [SL (out++((kids x.2.2 x.2.1).drop i).flatMap λy=>lv n y.2.2 y.2.1 (p++ [y.1]))]:=by
   intro m
   induction m with
   | zero=>
    intro i out t g
    have:i=(kids x.2.2 x.2.1).length :=by omega
    subst this
    rw[Apy,aO]
    simp only[ltn,aA,aS,aB,Zf,cI,aQ]
   | succ m j=>
    intro i out t g
    have b:i<(kids x.2.2 x.2.1).length :=by omega
    have o:=aF b
    obtain⟨u,w⟩:=Sr o
    rw[aC b,aV,aM]at g
    have hlen:(kids x.2.2 x.2.1).length <4611686018427387904:=by
     have:=Ap9 x.2.2 x.2.1 (λ_=> [An]) (λy C=>by have:=y.2.1.size_pos;simp;omega)
     have F:((kids x.2.2 x.2.1).flatMap λ_=> [An]).length =(kids x.2.2 x.2.1).length :=by
      generalize kids x.2.2 x.2.1=l
      induction l with
      | nil=>rfl
      | cons a l j=>simp[aV,j]
     have:=x.2.1.G7
     omega
    have z:=At2 n (kids x.2.2 x.2.1)[i] (p++ [(kids x.2.2 x.2.1)[i].1]) out (by omega) (Avc d o) (by omega) (Iq hp (Aiq d r o)) (by simp;omega) (by omega)
    rw[Apy]
    simp only[lti b,aA,aS,Zt,Kg G8 b,Amk,Apj p _ (show p.length<=1073741824 by omega),bM,z,nxt (show i<4611686018427387904 by omega)]
    rw[j (i+1) _ (by omega) (by simp only[aM];omega),aC b,aV,bH]
  rw[A0q]
  simp only[Y9 x d r,bM,G5,aA,bL,aS]
  by_cases c:kids x.2.2 x.2.1= []
  ·simp only[c,Zt,bJ,aD,Zd,Aei p hp (by omega),fD,A1u,dP,aA]
   rw[if_pos c,bD]at g
   have A:=apm IV.str (n:=16) out (Cn p) (by omega)
   have q:eD 16 (SL out) (.list [.str (Cn p)])=some (SL (out++ [Cn p])):=A
   simp only[q,aA,bM]
   have:=loop 0 0 (out++ [Cn p]) (by rw[c];rfl) (by rw[c];simp;omega)
   rw[c]at this
   simp only[bJ,aD,List.drop_nil,cI,aQ]at this
   rw[An9]
   simp only[G5,bJ,aD,aA]
   exact this
  ·have c': ¬ ((kids x.2.2 x.2.1).length :Int)=0:=by
    have:(kids x.2.2 x.2.1).length ≠0:=λe=>c (cC.1 e)
    omega
   rw[if_neg c]at g ⊢
   simp only[c',Ze,aB,Zf]
   rw[An9]
   simp only[G5,aA]
   have:=loop (kids x.2.2 x.2.1).length 0 out (by omega) (by rw[aG];exact g)
   rw[aG]at this
   exact this
theorem An5 (s:Sch)(v:Val)(a:s.Ap<=1048576)(b:v.Ap<=1048576):W F135 0 [s.enc,v.enc]=some [.bool (s.valid&&v.valid)]:=by
 rw[A4m]
 simp only[Pb s a,It v (by omega),bM,aS,Aw,Am,aA]
 cases s.valid<;>cases v.valid<;>rfl
def Jt (s:Sch)(v:Val):List ByteArray:=if s.valid&&v.valid then Zw (lv v.size (some s) v []) else[]
theorem Avf (s:Sch)(v:Val)(d:s.Ap<=1048576)(e:v.Ap<=1048576):W F134 0 [s.enc,v.enc]=some [SL (Jt s v)]:=by
 rw[A4b]
 simp only[An5 s v d e,bM,dN,aA,aS]
 unfold Jt
 cases c:s.valid&&v.valid with
 | false=>simp only[bE,Zt,aB,Zf];rfl
 | true=>
  have h:s.valid=true/\v.valid=true:=by simpa using c
  have a:=eA h.1
  have i:=v.G7
  have o:=At0 v.size (some s) v []
  have j:IV.agg [.int 0,.str ⟨#[]⟩,.int 0,.str ⟨#[]⟩,.int v.k,.int v.n,.str v.s,.list (v.l.map bI),.list (v.f.map aY),.int s.k,.int s.mn,.int s.mx,.list (s.en.map .str),.str s.key,.list (s.it.map cR),.list (s.f.map bR),.bool true]=G8 (⟨0,An,0,An⟩,v,some s):=rfl
  have g:=At2 v.size (⟨0,An,0,An⟩,v,some s) [] [] (aR _) (λt m=>by cases m;exact⟨a,d⟩) e (by simp) (by simp;omega) (by simp only[bJ];omega)
  simp only[bG]at g
  simp only[aP,aB,Zf,Zt,cX,eZ,fA,cN,cT,eH,hJ,hQ,hZ,eQ,dU,eY,aA,dB,j]
  have b:W Bhn 0 [G8 (⟨0,An,0,An⟩,v,some s),.list [],.list []]=some [SL (lv v.size (some s) v [])]:=g
  rw[b]
  simp only[bM,Bhj (l:=lv v.size (some s) v []) (by omega)]
end Go.CT.Sch
namespace Go.CT.Sch
open Go.Proofs
theorem Dk {key:ByteArray} : ∀ {l:List Val} {acc:List ByteArray},Em key acc l=true-> ∀x∈l,isKey x key=true
 | [],_,_=>by simp
 | y::l,acc,h=>by
  simp only[Em,aE]at h
  intro x a
  rcases bK.1 a with rfl | a
  ·exact h.1.1
  ·exact Dk h.2 x a
def oE (o:Option Sch):IV:=(o.getD Bg).enc
end Go.CT.Sch
namespace Go.CT.Sch
open Go.Proofs
end Go.CT.Sch
namespace Go.CT.Sch
open Go.Proofs
theorem Aif (v:Val)(a:v.Ap<=1099511627776)(n:Int)(c:0<=n)(d:n<=1000): ∃b,W F3 0 [v.enc,.int n]=some [.bool b]:=by
 obtain⟨r,h,_⟩:=Axe v a n n (by omega) (by omega) (by omega)
 exact⟨decide (0<=r),by rw[Bev];simp[h]⟩
theorem Wb (s:Sch)(v:Val):(Jt s v).length <=v.size:=by
 unfold Jt
 split
 ·exact cL (Nf _) (At0 _ _ _ _)
 ·simp
end Go.CT.Sch
namespace Go.CT.Sch
open Go.Proofs
theorem Ks (p:ByteArray × Val)(nm:ByteArray):W F197 0 [aY p,.str nm]=some [.bool (decide (p.1=nm))]:=by
 rw[Azo];simp
theorem Agv (l:List (ByteArray × Val))(nm:ByteArray)(d:l.length<=1099511627776): ∀ (n i:Nat),i+n=l.length->(∀p∈l.take i,¬ p.1=nm)->
  (W F196 1 [.list (l.map aY),.str nm,.int l.length,.int i]=some [.int (-1)]/\ ∀p∈l,¬ p.1=nm)\/
  ∃j,∃h:j<l.length,W F196 1 [.list (l.map aY),.str nm,.int l.length,.int i]=some [.int (j:Nat)]/\l[j].1 =nm/\ ∀p∈l.take j,¬ p.1=nm
 | 0,i,h,hp=>by
  left
  rw[Ao3]
  have e: ¬ i<l.length:=by omega
  rw[eX (by omega)]at hp
  refine⟨?_,hp⟩
  simp only[dF,Al,e,Ze,aA,aS,aB,Zf]
 | n+1,i,h,hp=>by
  have a:i<l.length:=by omega
  have g:=Bf (i:=i) (by omega)
  rw[Ao3]
  by_cases c:l[i].1 =nm
  ·right
   refine⟨i,a,?_,c,hp⟩
   simp only[dF,Al,a,Zd,aA,aS,Zt,eV,aU,aT,aX,aI a,aJ,Ks,bM,c]
  ·have:=Agv l nm d n (i+1) (by omega) (by
    intro p b
    rw[<-Adq l a]at b
    rcases bY.1 b with h | h
    ·exact hp p h
    ·simp at h;subst h;exact c)
   simp only[dF,Al,a,Zd,aA,aS,Zt,eV,aU,aT,aX,aI a,aJ,Ks,bM,c,Ze,aB,Zf,eF,g]
   exact this
theorem Pf (nm:ByteArray): ∀ (rest kept junk:List (ByteArray × Val)),junk≠ []->kept.length+junk.length+rest.length<=1099511627776->
  W F195 1 [.str nm,.int kept.length,.int (kept.length+junk.length:Nat),eR aY (kept++(junk++rest))]=some [eR aY (kept++rest.filter (Io nm))]
 | [],kept,junk,d,e=>by
  have r:=dO.2 d
  rw[Ap5,fY]
  have b: ¬ ((kept.length+junk.length:Nat):Int)<(kept++(junk++ [])).length :=by simp
  have o: ∀z:IV,O.clear z (eR aY (kept++(junk++ []))) (.int kept.length) (.int (kept++(junk++ [])).length)=some (.list (kept.map aY++List.replicate junk.length z)):=by
   intro z
   unfold O.clear eR
   simp only[fO,aQ,aH,aM,aU,true_and,aT,aR,and_true]
   rw[if_pos (by omega)]
   simp
  have t: ∀ys:List IV,O.slice (.list (kept.map aY++ys)) (.int 0) (.int kept.length)=some (eR aY kept):=by
   intro ys
   rw[O.Pl,if_pos (by simp only[aM,aH];omega)]
   simp[eR]
  have a: ∃y,O.slice (eR aY (kept++(junk++ []))) (.int kept.length) (.int (kept++(junk++ [])).length)=some y:=by
   unfold eR
   rw[O.Pl,if_pos (by simp only[aM,aH];omega)]
   exact⟨_,rfl⟩
  obtain⟨y,a⟩:=a
  simp only[aQ]at b o a
  simp only[aQ,aA,dF,b,Ze,aS,aB,Zf,a,o,t,cE,aQ]
 | v::rest,kept,[],d,e=>absurd rfl d
 | v::rest,kept,y::js,d,e=>by
  simp only[bX]at e
  rw[Ap5,fY]
  have b:((kept.length+(y::js).length :Nat):Int)<(kept++(y::js++v::rest)).length :=by simp;omega
  have q:IntKind.i64.wrap (((kept.length+(y::js).length :Nat):Int)+1)=((kept.length+(y::js).length +1:Nat):Int):=by simp only[bX];rw[wrap64 (by omega) (by omega)];omega
  have g:IntKind.i64.wrap ((kept.length:Int)+1)=((kept.length+1:Nat):Int):=Bf (by omega)
  have gv:=gL aY (Srt.C9 (l:=kept++(y::js++v::rest)) (A:=kept++y::js) (x:=v) (B:=rest) (by simp) (i:=kept.length+(y::js).length) (by simp))
  have gi:=gL aY (Srt.C9 (l:=kept++(y::js++v::rest)) (A:=kept) (x:=y) (B:=js++v::rest) (by simp) (i:=kept.length) rfl)
  have st:=Srt.Jc (l:=kept++(y::js++v::rest)) (A:=kept) (x:=y) (y:=v) (B:=js++v::rest) (by simp) (i:=kept.length) rfl
  have h:kept.length<(kept++(y::js++v::rest)).length :=by simp
  rw[aW]
  by_cases c:v.1=nm
  ·have j:=Pf nm rest kept (y::js++ [v]) (by simp) (by simp;omega)
   have m:Io nm v=false:=by simp[Io,c]
   simp only[aA,dF,b,Zd,aS,Zt,gv,Ks,bM,c,dN,aP,aB,Zf,Aoj,eF,q,m]
   rw[show kept.length+(y::js).length +1=kept.length+(y::js++ [v]).length by simp;omega]
   rw[<-j];simp
  ·have j:=Pf nm rest (kept++ [v]) (js++ [v]) (by simp) (by simp;omega)
   have m:Io nm v=true:=by simp[Io,c]
   simp only[aA,dF,b,Zd,aS,Zt,gv,Ks,bM,c,Ze,dN,bE,gi,iD aY h,st,eF,g,Aoj,q,m]
   rw[show kept.length+(y::js).length +1=(kept++ [v]).length +(js++ [v]).length by simp;omega,show kept.length+1=(kept++ [v]).length by simp]
   rw[show kept++v::(js++v::rest)=kept++ [v]++(js++ [v]++rest) by simp,j]
   simp
theorem Arq (l:List (ByteArray × Val))(nm:ByteArray)(h:l.length<=1099511627776):
  W F195 0 [.list (l.map aY),.str nm]=some [.list ((l.filter (Io nm)).map aY)]:=by
 rw[Az6,A2l]
 have key:=Agv l nm h l.length 0 (by omega) (by simp)
 simp only[aD]at key
 rcases key with⟨a,b⟩ | ⟨j,i,a,b,m⟩
 ·simp only[eS,aH,aA,a,bM,bL,Zd,aS,Zt]
  congr 3
  rw[dQ.2 (λp hp=>by simp[Io,b p hp])]
 ·have c: ¬ (j:Int)= -1:=by omega
  have d:IntKind.i64.wrap ((j:Int)+1)=((j+1:Nat):Int):=Bf (by omega)
  simp only[eS,aH,aA,a,bM,bL,c,Ze,aS,aB,Zf,eF,d]
  have g:l=l.take j++([l[j]]++l.drop (j+1)):=by
   rw[bC,<-aC i,List.take_append_drop]
  have e:(l.take j).length =j:=by rw[List.length_take];omega
  have o:(l.drop (j+1)).length =l.length - (j+1):=by rw[eU]
  have hd:=Pf nm (l.drop (j+1)) (l.take j) [l[j]] (by simp) (by simp only[bD];omega)
  rw[e,bD,<-g]at hd
  rw[show IV.list (l.map aY)=eR aY l from rfl,hd]
  have q:l.filter (Io nm)=l.take j++(l.drop (j+1)).filter (Io nm):=by
   conv=>lhs;rw[g]
   rw[eM,eM,dQ.2 (λp hp=>by simp[Io,m p hp])]
   congr 1
   simp[Io,b]
  rw[q];rfl
theorem Aj3 (v:Val)(nm:ByteArray)(a:Gs 1073741824 v):W F194 0 [v.enc,.str nm]=some [.list ((D4 v nm).map aY)]:=by
 rw[A0l]
 unfold D4
 have d:=a.Om
 have b:(v.f.map aY).length <=1073741824:=by rw[aH];omega
 have hd:=Arq v.f nm (by omega)
 by_cases c:v.k=5
 ·simp only[cX,cT,aA,eL,c,Zd,aP,aS,aB,Zf,A2a,Ds b,bM,hd,Zt]
  rfl
 ·simp[c]
theorem Aig (v:Val)(nm:ByteArray)(x:Val)(b:Gs 1073741823 v)(e:Gs 1073741823 x):W F193 0 [v.enc,.str nm,x.enc]=some (Ez v nm x).E2 :=by
 have c:=Xk b nm
 have g:=c.1
 have d:=Acg (D4 v nm++ [(nm,x)]) ⟨by simp;omega,λp hp=>by
  rcases bY.1 hp with h | h
  ·exact(c.2 p h).mono (by omega)
  ·simp at h;subst h;exact e.mono (by omega)⟩
 have a:((D4 v nm).length +1) * 96<=Bb:=Sm (by omega) (by omega)
 simp only[cU,aK,aN]at d
 rw[A2s]
 simp only[Aj3 v nm (b.mono (by omega)),bM,cX,eZ,fA,cN,cT,aA,dB,gR,dP,O.Bs,aH,bD,a,Zt,d,dD,fP]
 rfl
end Go.CT.Sch
namespace Go.CT.Sch
open Go.Proofs
theorem Pg (r:Kid->Val × Bool)(x:Kid)(l:List Kid):Ic r (x::l)=if(r x).2 then(x.1,(r x).1)::Ic r l else Ic r l:=by
 unfold Ic
 rw[List.filterMap_cons]
 cases(r x).2<;>simp
theorem Aim (r:Kid->Val × Bool)(l:List Kid):(Ic r l).length <=l.length:=List.length_filterMap_le _ _
theorem R5 {r:Kid->Val × Bool}{l:List Kid}{y:Stp × Val}(h:y∈Ic r l): ∃x∈l,(r x).2 =true/\y=(x.1,(r x).1):=by
 unfold Ic at h
 obtain⟨x,a,e⟩:=List.mem_filterMap.1 h
 split at e
 ·rename_i c;cases e;exact⟨x,a,c,rfl⟩
 ·cases e
theorem Axy {o:Option Sch}{v:Val}{x:Kid}(h:x∈kids o v):(v.k=5/\x.1.k=1)\/(v.k=4/\x.1.k=3):=by
 cases o with
 | none=>simp[kids]at h
 | some s=>
  rw[kids]at h
  split at h
  ·split at h
   ·obtain⟨p,hp,rfl⟩:=bB.1 h
    exact .inl ⟨by assumption,rfl⟩
   ·split at h
    ·obtain⟨p,hp,rfl⟩:=bB.1 h
     exact .inr ⟨by rename_i c;exact c.1,rfl⟩
    ·simp at h
  ·simp at h
theorem Aeb (o:Option Sch)(v:Val):(kids o v).length <=if v.k=5 then v.f.length else v.l.length:=by
 cases o with
 | none=>simp[kids]
 | some s=>
  rw[kids]
  split
  ·split
   ·simp
   ·split
    ·simp
    ·simp
  ·simp
theorem Ra (d:Nat)(o:Option Sch)(v:Val)(p:List Stp)(ch:ByteArray->Bool):pt (d+1) o v p ch=if kids o v= []then(v,ch (Cn p)) else
 (⟨
   v.k,0,An,if v.k=5 then[]else Il (Ic (λx=>pt d x.2.2 x.2.1 (p++ [x.1]) ch) (kids o v)),
   if v.k=5 then fieldsOf (Ic (λx=>pt d x.2.2 x.2.1 (p++ [x.1]) ch) (kids o v)) else[]⟩,
  !(Ic (λx=>pt d x.2.2 x.2.1 (p++ [x.1]) ch) (kids o v)).isEmpty):=by rw[pt]
theorem A3d: ∀ (n:Nat) (o:Option Sch) (v:Val) (p:List Stp) (ch:ByteArray->Bool),(pt n o v p ch).1.f.length <=v.f.length
 | 0,_,_,_,_=>aR _
 | n+1,o,v,p,ch=>by
  rw[Ra]
  split
  ·exact aR _
  ·simp only[dH]
   split
   ·rename_i c
    have b:=Aim (λx=>pt n x.2.2 x.2.1 (p++ [x.1]) ch) (kids o v)
    have a:=Aeb o v
    rw[if_pos c]at a
    simp only[fieldsOf,aH];omega
   ·simp
theorem Agj (s:ByteArray)(N:Nat):Gs N (Qe s):=by
 constructor<;>simp[Qe]
theorem Wp (v:Val)(nm:ByteArray):(D4 v nm).length <=v.f.length:=by
 unfold D4;split
 ·exact cH _ _
 ·simp
theorem Aav {N:Nat}{v x:Val}(nm:ByteArray)(h:Gs (N+1) v)(b:Gs (N+1) x)(d:v.f.length<=N):Gs (N+1) (Ez v nm x):=by
 have c:=Xk h nm
 have e:=Wp v nm
 have a:=Agx (N:=N+1) (l:=D4 v nm++ [(nm,x)]) ⟨by simp;omega,λp hp=>by
  rcases bY.1 hp with h | h
  ·exact c.2 p h
  ·simp at h;subst h;exact b⟩
 constructor
 ·simp[Ez]
 ·exact a.1
 ·simp[Ez]
 ·exact a.2
theorem Age {N:Nat}{o:Option Sch}{v:Val}(h:Gs N v){x:Kid}(a:x∈kids o v):Gs N x.2.1:=by
 cases o with
 | none=>simp[kids]at a
 | some s=>
  rw[kids]at a
  split at a
  ·split at a
   ·obtain⟨p,hp,rfl⟩:=bB.1 a;exact h.J9 hp
   ·split at a
    ·obtain⟨p,hp,rfl⟩:=bB.1 a;exact h.Lh hp
    ·simp at a
  ·simp at a
theorem Adc {N:Nat} : ∀ (n:Nat) (o:Option Sch) (v:Val) (p:List Stp) (ch:ByteArray->Bool),Gs N v->Gs (N+1) (pt n o v p ch).1
 | 0,_,v,_,_,h=>h.mono (by omega)
 | n+1,o,v,p,ch,h=>by
  rw[Ra]
  split
  ·exact h.mono (by omega)
  ·have i:=Aim (λx=>pt n x.2.2 x.2.1 (p++ [x.1]) ch) (kids o v)
   have e:=Aeb o v
   have j:=h.U4
   have m:=h.Om
   constructor
   ·simp only[dG]
    split
    ·simp
    ·rename_i c;rw[if_neg c]at e;simp only[Il,aH];omega
   ·simp only[dH]
    split
    ·rename_i c;rw[if_pos c]at e;simp only[fieldsOf,aH];omega
    ·simp
   ·simp only[dG]
    split
    ·simp
    ·intro x a
     obtain⟨y,b,rfl⟩:=bB.1 a
     obtain⟨z,d,_,rfl⟩:=R5 b
     have:=A3d n z.2.2 z.2.1 (p++ [z.1]) ch
     have g:=Age h d
     have:=g.Om
     exact Aav _ (Adc n _ _ _ _ g) (Agj _ _) (by show(pt n z.2.2 z.2.1 (p++ [z.1]) ch).1.f.length <=N;omega)
   ·simp only[dH]
    split
    ·intro x a
     obtain⟨y,b,rfl⟩:=bB.1 a
     obtain⟨z,d,_,rfl⟩:=R5 b
     exact Adc n _ _ _ _ (Age h d)
    ·simp
def chB (ks:List ByteArray)(is:Bool):ByteArray->Bool:=λt=>inB ks t == is
theorem Aut (t:ByteArray)(ks:List ByteArray)(is:Bool):W F192 0 [.str t,.list (N7 ks),.bool is]=some [.bool (chB ks is t),.list (N7 ks),.bool is]:=by
 obtain⟨b,a⟩:=Bea ks t
 rw[A3y]
 simp only[Be2,a,aA,O.A34];rfl
theorem Awl: ∀ (n:Nat) (x:Kid) (p:List Stp) (ks:List ByteArray) (is:Bool),x.2.1.size<=n->OSB x.2.2->x.2.1.Ap<=1048576->(∀s∈p,s.fits)->p.length+n<=1073741824->
  W Bhi 0 [G8 x,.list (p.map bZ),.list (N7 ks),.bool is]=some [(pt n x.2.2 x.2.1 p (chB ks is)).1.enc,.bool (pt n x.2.2 x.2.1 p (chB ks is)).2,.list (N7 ks),.bool is]
 | 0,x,p,ks,is,h,_,_,_,_=>by have:=x.2.1.size_pos;omega
 | n+1,x,p,ks,is,h,b,r,hp,Y=>by
  obtain⟨st,v,o⟩:=x
  simp only at h b r ⊢
  have t:=Aeb o v
  have A:=v.Bc
  have B:=v.B5
  have C:(kids o v).length <=1048576:=by split at t<;>omega
  have loop: ∀ (m i:Nat) (L:List Val) (F:List (ByteArray × Val)),i+m=(kids o v).length ->L.length+F.length<=i->
    W Bhi 1 [.list (p.map bZ),.int (kids o v).length,.int i,.bool is,.int 0,.int 0,.str ⟨#[]⟩,.int v.k,.int 0,.str ⟨#[]⟩,.list ((kids o v).map G8),.list (N7 ks),.list (L.map bI),.list (F.map aY)]=
    some [(Val.mk v.k 0 An (L++(if v.k=5 then[]else Il (Ic (λx=>pt n x.2.2 x.2.1 (p++ [x.1]) (chB ks is)) ((kids o v).drop i)))) (F++(if v.k=5 then fieldsOf (Ic (λx=>pt n x.2.2 x.2.1 (p++ [x.1]) (chB ks is)) ((kids o v).drop i)) else[]))).enc,
     .bool (decide (0<L.length+F.length+(Ic (λx=>pt n x.2.2 x.2.1 (p++ [x.1]) (chB ks is)) ((kids o v).drop i)).length)),.list (N7 ks),.bool is]:=by
   intro m
   induction m with
   | zero=>
    intro i L F G H
    have:i=(kids o v).length :=by omega
    subst this
    have I:IntKind.i64.wrap ((F.length:Int)+(L.length:Int))=(F.length:Int)+(L.length:Int):=wrap64 (by omega) (by omega)
    rw[Amv,aO]
    simp only[ltn,aA,aS,aB,Zf,G5,eF,I,gC,dB]
    have e1:Ic (λx=>pt n x.2.2 x.2.1 (p++ [x.1]) (chB ks is)) []= []:=rfl
    have J:(if v.k=5 then([]:List Val) else Il [])= []:=by split<;>rfl
    have K:(if v.k=5 then fieldsOf []else([]:List (ByteArray × Val)))= []:=by split<;>rfl
    rw[e1,J,K,aQ,aQ,Val.Eo,dD]
    have M:decide ((0:Int)<(F.length:Int)+(L.length:Int))=decide (0<L.length+F.length+([]:List (Stp × Val)).length):=by
     rw[decide_eq_decide];simp only[bJ];omega
    rw[M];rfl
   | succ m u=>
    intro i L F G H
    have g:i<(kids o v).length :=by omega
    have q:=aF g
    obtain⟨Q,R⟩:=Sr q
    have S:=Awl n (kids o v)[i] (p++ [(kids o v)[i].1]) ks is (by omega) (Avc b q) (by omega) (Iq hp (Aiq b r q)) (by simp;omega)
    have T:=Axy q
    have j: ∀d,Ic (λx=>pt n x.2.2 x.2.1 (p++ [x.1]) (chB ks is)) ((kids o v)[i]::d)=if(pt n (kids o v)[i].2.2 (kids o v)[i].2.1 (p++ [(kids o v)[i].1]) (chB ks is)).2 then((kids o v)[i].1,(pt n (kids o v)[i].2.2 (kids o v)[i].2.1 (p++ [(kids o v)[i].1]) (chB ks is)).1)::Ic (λx=>pt n x.2.2 x.2.1 (p++ [x.1]) (chB ks is)) d else Ic (λx=>pt n x.2.2 x.2.1 (p++ [x.1]) (chB ks is)) d:=λd=>Pg _ _ _
    rw[Amv,aC g,j]
    simp only[lti g,aA,aS,Zt,Kg G8 g,Amk,Apj p _ (show p.length<=1073741824 by omega),bM,S,O.Ac6,dN]
    cases c:(pt n (kids o v)[i].2.2 (kids o v)[i].2.1 (p++ [(kids o v)[i].1]) (chB ks is)).2 with
    | false=>
     simp only[bE,Zt,Adr,nxt (show i<4611686018427387904 by omega),aA,aB,Zf]
     exact u (i+1) L F (by omega) (by omega)
    | true=>
     simp only[aP,aB,Zf,kid0,aA,bL,aS,Zt]
     rcases T with⟨U,k1⟩ | ⟨Z,k3⟩
     ·have w:=apm aY (n:=96) F ((kids o v)[i].1.nm,(pt n (kids o v)[i].2.2 (kids o v)[i].2.1 (p++ [(kids o v)[i].1]) (chB ks is)).1) (by omega)
      have ih':=u (i+1) L (F++ [((kids o v)[i].1.nm,(pt n (kids o v)[i].2.2 (kids o v)[i].2.1 (p++ [(kids o v)[i].1]) (chB ks is)).1)]) (by omega) (by simp;omega)
      simp only[k1,Zd,Zt,kid1,cX,eZ,fA,cN,cT,aA,dB,gR,dP,w,Adr,nxt (show i<4611686018427387904 by omega),ih']
      simp only[U,Zt,fieldsOf,aK,bH,bC,aM,bX,bJ]
      congr 3
      rw[IV.bool.injEq,decide_eq_decide];omega
     ·have X: ¬ v.k=5:=by omega
      have y:=Adc (N:=1048576) n (kids o v)[i].2.2 (kids o v)[i].2.1 (p++ [(kids o v)[i].1]) (chB ks is) (C6 _ (by omega))
      have a:=Aig (pt n (kids o v)[i].2.2 (kids o v)[i].2.1 (p++ [(kids o v)[i].1]) (chB ks is)).1 (kids o v)[i].1.nm (Qe (kids o v)[i].1.vl) (y.mono (by omega)) (Agj _ _)
      have w:=apm bI (n:=80) L (Ez (pt n (kids o v)[i].2.2 (kids o v)[i].2.1 (p++ [(kids o v)[i].1]) (chB ks is)).1 (kids o v)[i].1.nm (Qe (kids o v)[i].1.vl)) (by omega)
      have ih':=u (i+1) (L++ [Ez (pt n (kids o v)[i].2.2 (kids o v)[i].2.1 (p++ [(kids o v)[i].1]) (chB ks is)).1 (kids o v)[i].1.nm (Qe (kids o v)[i].1.vl)]) F (by omega) (by simp;omega)
      have z:W F56 0 [.str (kids o v)[i].1.vl]=some (Qe (kids o v)[i].1.vl).E2 :=by rw[Ai4];rfl
      have k1:decide ((kids o v)[i].1.k =1)=false:=by simp;omega
      rw[dD]at z a
      simp only[k1,aB,Zf,kid1,kid3,aA,z,fP,dB,eT,a,dP,w,Adr,nxt (show i<4611686018427387904 by omega),ih']
      simp only[X,Zf,Il,aK,bH,bC,aM,bX,bJ]
      congr 3
      rw[IV.bool.injEq,decide_eq_decide];omega
  rw[A4w,Ra]
  simp only[Y9 (st,v,o) b r,bM,G5,aA,bL,aS]
  by_cases c:kids o v= []
  ·simp only[c,Zt,bJ,aD,Zd,Aei p hp (by omega),fD,Axu,aA,Aut,O.J7]
  ·have c': ¬ ((kids o v).length :Int)=0:=by
    have:(kids o v).length ≠0:=λe=>c (cC.1 e)
    omega
   have:=loop (kids o v).length 0 [] [] (by omega) (by simp)
   rw[aG]at this
   simp only[c',Ze,aB,Zf,kid4,aA,c]
   refine this.trans ?_
   simp only[bG,bJ,dX]
   congr 3
   rw[IV.bool.injEq]
   cases Ic (λx=>pt n x.2.2 x.2.1 (p++ [x.1]) (chB ks is)) (kids o v)<;>simp
end Go.CT.Sch
namespace Go.CT.Sch
open Go.Proofs
theorem Ase {y:Val}(h:y.valid=true)(a:y.k=3):y=Qe y.s:=by
 have b:=W1 h (by omega)
 have c:=S0 h (by omega)
 have d:y.n=0:=by
  rw[Hp]at h
  have:=((D3 11 y).1 h.1).1
  unfold Hf at this
  rw[if_neg (by omega),if_neg (by omega),if_pos a]at this
  simp only[aE]at this
  simpa using this.1
 obtain⟨k,n,s,l,f⟩:=y
 simp only[Val.Bga,dG,dH,Val.n_mk,fE]at a b c d ⊢
 subst a b c d;rfl
theorem A8z {x:Val}{key:ByteArray}(c:x.valid=true)(a:isKey x key=true):(x.get key).getD Ar=Qe (Dr x key):=by
 unfold isKey at a
 simp only[aE,decide_eq_true_eq]at a
 obtain⟨y,b⟩:=bV.1 a.1
 unfold Dr
 rw[b]at a ⊢
 exact Ase (Ayc c b) a.2
end Go.CT.Sch
namespace Go.CT.Sch
open Go.Proofs
def Mh (s:Sch)(v:Val)(set:List ByteArray)(is:Bool):Val:=
 if s.valid&&v.valid then(if(pt v.size (some s) v [] (chB set is)).2 then(pt v.size (some s) v [] (chB set is)).1 else if v.k=5\/v.k=4 then⟨v.k,0,An,[],[]⟩else Ar) else v
theorem Aor (w:Val)(d:Gs 1048577 w):(O.Nx [w.enc]).bind (λe=>calls (W Bfq 0 [e]) 5 λ_ _ _ a _=>(gM a (.int 0)).bind λb=>some [b])=some [w.enc]:=by
 have h:=Mg [w] (by simp) (λx c=>by simp at c;subst c;exact d.mono (by omega))
 simp only[aK,aN]at h
 rw[dD]at h
 simp only[dP,aA,h,fP,dG,aK,aN]
 rfl
theorem A1m (set:List ByteArray)(is:Bool):chB (N5 [] set) is=chB set is:=by
 funext t
 have:inB (N5 [] set) t=inB set t:=by
  rw[Bool.eq_iff_iff,Ii,Ii,Yr];simp
 unfold chB;rw[this]
theorem Abt (s:Sch)(v:Val)(set:List ByteArray)(is:Bool)(m:s.Ap<=1048576)(o:v.Ap<=1048576)(c:set.length<=1048576)(b:s.valid=true)(d:v.valid=true): ∀ (n i:Nat) (acc:List ByteArray),i+n=set.length->N5 acc (set.drop i)=N5 [] set->
  W Bgx 1 [SL set,.int set.length,.int i,s.enc,v.enc,.bool is,.int 0,.int 0,.str ⟨#[]⟩,.list (N7 acc)]=some [(Mh s v set is).enc]
 | 0,i,acc,h,e=>by
  have:i=set.length:=by omega
  subst this
  rw[aO,N5]at e
  subst e
  have u:IV.agg [.int 0,.str ⟨#[]⟩,.int 0,.str ⟨#[]⟩,.int v.k,.int v.n,.str v.s,.list (v.l.map bI),.list (v.f.map aY),.int s.k,.int s.mn,.int s.mx,.list (s.en.map .str),.str s.key,.list (s.it.map cR),.list (s.f.map bR),.bool true]=G8 (⟨0,An,0,An⟩,v,some s):=rfl
  have hp:=Awl v.size (⟨0,An,0,An⟩,v,some s) [] (N5 [] set) is (aR _) (λt w=>by cases w;exact⟨eA b,m⟩) o (by simp) (by have:=v.G7;simp;omega)
  have g:W Bhi 0 [G8 (⟨0,An,0,An⟩,v,some s),.list [],.list (N7 (N5 [] set)),.bool is]=some [(pt v.size (some s) v [] (chB set is)).1.enc,.bool (pt v.size (some s) v [] (chB set is)).2,.list (N7 (N5 [] set)),.bool is]:=by rw[<-A1m];exact hp
  have x:=Aor (pt v.size (some s) v [] (chB set is)).1 (Adc _ _ _ _ _ (C6 _ (by omega)))
  have a:W F198 0 []=some Ar.E2:=by rw[A33];rfl
  rw[dD]at a
  rw[A6y]
  simp only[ltn,aA,aS,aB,Zf,cX,eZ,fA,cN,cT,eH,hJ,hQ,hZ,eQ,dU,eY,dB,u,g,O.Ac6,x,bL,Aw,Am,a,fP]
  unfold Mh
  simp only[b,d,cM,Zt]
  cases(pt v.size (some s) v [] (chB set is)).2 with
  | true=>rfl
  | false=>
   by_cases q:v.k=5
   ·simp only[q,Zd,Zt,true_or,aB,Zf];rfl
   ·by_cases r:v.k=4
    ·simp only[r];rfl
    ·simp only[r,q,Ze,aB,Zf,or_self,Aw];rfl
 | n+1,i,acc,h,e=>by
  have j:i<set.length:=by omega
  have y:=gL IV.str (aI j)
  have z:=Abt s v set is m o c b d n (i+1) (if inB acc set[i]then acc else acc++ [set[i]]) (by omega) (by rw[<-e,aC j,N5])
  rw[A6y]
  simp only[lti j,aA,aS,Zt,y,Bd2,nxt (show i<4611686018427387904 by omega),z]
theorem A4k (s:Sch)(v:Val)(set:List ByteArray)(is:Bool)(b:s.Ap<=1048576)(d:v.Ap<=1048576)(a:set.length<=1048576):W Bgx 0 [s.enc,v.enc,SL set,.bool is]=some [(Mh s v set is).enc]:=by
 rw[A3x]
 simp only[An5 s v b d,bM,dN,aA,aS]
 cases c:s.valid&&v.valid with
 | false=>
  have g:Mh s v set is=v:=by unfold Mh;rw[c];rfl
  simp only[bE,Zt,Aor v ((C6 (N:=1048576) v (by omega)).mono (by omega)),g]
 | true=>
  have e:s.valid=true/\v.valid=true:=by simpa using c
  have:=Abt s v set is b d a e.1 e.2 set.length 0 [] (by omega) (by rw[aG])
  simp only[aP,aB,Zf,fY,aA]
  exact this
end Go.CT.Sch
namespace Go.CT.Sch
open Go.Proofs
inductive Xb:List (ByteArray × Val)->List (ByteArray × Val)->Prop where
 | nil:Xb [] []
 | skip {a b q} :Xb a b->Xb a (q::b)
 | keep {a b} {p q:ByteArray × Val} :p.1=q.1->p.2.Ap<=q.2.Ap->Xb a b->Xb (p::a) (q::b)
theorem Xb.refl: ∀l,Xb l l
 | []=> .nil
 | _::l=> .keep rfl (aR _) (Xb.refl l)
theorem Xb.Bd4 {a b:List (ByteArray × Val)}(h:Xb a b):Ci a<=Ci b:=by
 induction h with
 | nil=>exact aR _
 | skip _ c=>rw[B7];omega
 | keep d e _ c=>rw[B7,B7,d];omega
theorem Xb.names {a b:List (ByteArray × Val)}(h:Xb a b): ∀p∈a,∃q∈b,q.1=p.1:=by
 induction h with
 | nil=>simp
 | skip _ c=>intro p hp;obtain⟨q,d,e⟩:=c p hp;exact⟨q,cF _ d,e⟩
 | keep d _ _ c=>
  intro p hp
  rcases bK.1 hp with rfl | hp
  ·exact⟨_,cJ,d.symm⟩
  ·obtain⟨q,g,i⟩:=c p hp;exact⟨q,cF _ g,i⟩
theorem Xb.strict {a b:List (ByteArray × Val)}(h:Xb a b):Cw b->Cw a:=by
 induction h with
 | nil=>exact id
 | skip _ d=>intro g;exact d (bN.1 g).2
 | keep m _ c d=>
  intro g
  obtain⟨i,j⟩:=bN.1 g
  refine bN.2 ⟨λy o=>?_,d j⟩
  obtain⟨z,q,e⟩:=c.names y o
  rw[m,<-e];exact i z q
theorem Xb.filter {a b:List (ByteArray × Val)}(nm:ByteArray)(h:Xb a b):Xb (a.filter λp=> !decide (p.1=nm)) (b.filter λp=> !decide (p.1=nm)):=by
 induction h with
 | nil=>exact .nil
 | @skip a b q _ c=>
  rw[aW]
  split
  ·exact .skip c
  ·exact c
 | @keep a b p q d e _ c=>
  rw[aW,aW,d]
  split
  ·exact .keep d e c
  ·exact c
theorem Ki {key:ByteArray}{w:Val} : ∀ {l:List (ByteArray × Val)},(key,w)∈l->Ci (l.filter λp=> !decide (p.1=key))+(1+key.size+w.Ap)<=Ci l
 | [],h=>by simp at h
 | q::l,h=>by
  rw[aW,B7]
  rcases bK.1 h with rfl | h
  ·have:=J1 (λp=> !decide (p.1=key)) l
   simp only[Zd,aP,aB,Zf];omega
  ·have a:=Ki h
   split
   ·rw[B7];omega
   ·omega
theorem As8 {u x:Val}{key:ByteArray}{sv:Val}(a:u.k=5)(i:x.k=5)(b:Xb u.f x.f)(c:(key,sv)∈x.f):(Ez u key sv).Ap <=x.Ap:=by
 have j:Ci (Ez u key sv).f <=Ci (D4 u key)+(1+key.size+sv.Ap):=by
  have h:Ci (Ez u key sv).f <=Ci (D4 u key++ [(key,sv)]):=Q0 _
  rw[Ij,B7,Ch]at h
  exact h
 have m:Ci (D4 u key)<=Ci (x.f.filter λp=> !decide (p.1=key)):=by
  unfold D4;rw[if_pos a];exact(b.filter key).Bd4
 have o:=Ki c
 have q:=x.Bv
 have d:=(Ez u key sv).Bv
 have e:(Ez u key sv).s =An:=rfl
 have g:(Ez u key sv).l = []:=rfl
 rw[e,g,Ed,show An.size=0 from rfl]at d
 omega
theorem Avx (nm:ByteArray)(l:List (ByteArray × Val))(p:ByteArray × Val):look nm (l++ [p])=if p.1=nm then some p else look nm l:=by
 unfold look
 rw[eM]
 by_cases c:p.1=nm
 ·simp[isName,c]
 ·simp[isName,c]
theorem Rh {u:Val}{key:ByteArray}{sv:Val}(g:u.k=5)(j:Cw u.f)(p:ByteArray × Val):p∈(Ez u key sv).f ↔(p.1≠key/\p∈u.f)\/p=(key,sv):=by
 have a:Cw (Ez u key sv).f :=Kc _
 have b:Cw (D4 u key):=by unfold D4;rw[if_pos g];exact eE _ j
 rw[Lo a]
 have e:look p.1 (Ez u key sv).f =if key=p.1 then some (key,sv) else look p.1 (D4 u key):=by
  show look p.1 (Zi (D4 u key++ [(key,sv)]))=_
  rw[Su,Avx]
 rw[e]
 by_cases c:key=p.1
 ·rw[if_pos c]
  constructor
  ·intro h;exact .inr (gI h).symm
  ·rintro (⟨h,_⟩ | h)
   ·exact absurd c.symm h
   ·rw[h]
 ·rw[if_neg c,<-Lo b]
  unfold D4
  rw[if_pos g,cG]
  constructor
  ·rintro⟨d,i⟩;exact .inl ⟨λe=>c e.symm,d⟩
  ·rintro (⟨d,i⟩ | h)
   ·exact⟨i,by simp[d]⟩
   ·rw[h]at c;exact absurd rfl c
theorem Ajb {v w:Val}{nm:ByteArray}(a:v.k=5)(b:Cw v.f):v.get nm=some w↔(nm,w)∈v.f:=by
 constructor
 ·exact λh=>(Ea h).1
 ·intro h
  have:=V8 b h
  unfold gS
  rw[if_pos a,this];rfl
theorem Jf (u:Val)(key:ByteArray)(sv:Val):Cw (Ez u key sv).f :=Kc _
theorem Un (u:Val){key:ByteArray}{sv:Val}(a:u.k=5)(b:Cw u.f):(Ez u key sv).get key=some sv:=
 (Ajb rfl (Jf u key sv)).2 ((Rh a b _).2 (.inr rfl))
end Go.CT.Sch
namespace Go.CT.Sch
open Go.Proofs
theorem Aqw {o:Option Sch}{v:Val}(h:v.valid=true){x:Kid}(a:x∈kids o v):x.2.1.valid=true:=by
 cases o with
 | none=>simp[kids]at a
 | some s=>
  rw[kids]at a
  split at a
  ·split at a
   ·obtain⟨p,hp,rfl⟩:=bB.1 a;exact(Gj h hp).1
   ·split at a
    ·obtain⟨p,hp,rfl⟩:=bB.1 a;exact Gx h hp
    ·simp at a
  ·simp at a
theorem Ma {o:Option Sch}{v:Val}(h:kids o v≠ []): ∃s,o=some s/\s.k=v.k/\
  ((v.k=5/\kids o v=v.f.map (Hh s))\/(v.k=4/\s.key≠An/\Em s.key [] v.l=true/\kids o v=v.l.map (Ek s))):=by
 cases o with
 | none=>simp[kids]at h
 | some s=>
  refine⟨s,rfl,?_⟩
  rw[kids]at h ⊢
  by_cases b:s.k=v.k
  ·rw[if_pos b]at h ⊢
   by_cases c:v.k=5
   ·exact⟨b,.inl ⟨c,by rw[if_pos c];rfl⟩⟩
   ·rw[if_neg c]at h ⊢
    by_cases a:v.k=4/\s.key≠An/\Em s.key [] v.l=true
    ·exact⟨b,.inr ⟨a.1,a.2.1,a.2.2,by rw[if_pos a];rfl⟩⟩
    ·rw[if_neg a]at h;exact absurd rfl h
  ·rw[if_neg b]at h;exact absurd rfl h
theorem Md {x:Val}{key:ByteArray}(d:x.valid=true)(h:isKey x key=true):x.k=5/\(key,Qe (Dr x key))∈x.f/\x.get key=some (Qe (Dr x key)):=by
 have c:=A8z d h
 unfold isKey at h
 simp only[aE]at h
 obtain⟨y,a⟩:=bV.1 h.1
 rw[a]at c
 have b:y=Qe (Dr x key):=c
 rw[b]at a
 exact⟨(Ea a).2,(Ea a).1,a⟩
theorem Bfm: ∀ (n:Nat) (o:Option Sch) (v:Val) (p:List Stp) (ch:ByteArray->Bool),(pt n o v p ch).1.k =v.k
 | 0,_,_,_,_=>rfl
 | n+1,o,v,p,ch=>by rw[Ra];split<;>rfl
theorem Afm (s:Sch)(r:Kid->Val × Bool): ∀l:List (ByteArray × Val),(∀x∈l,(r (Hh s x)).1.Ap <=x.2.Ap)->Xb (fieldsOf (Ic r (l.map (Hh s)))) l
 | [],_=> .nil
 | x::l,h=>by
  have a:=Afm s r l λy b=>h y (cF _ b)
  rw[aK,Pg]
  cases(r (Hh s x)).2 with
  | false=>exact .skip a
  | true=>exact .keep rfl (h x cJ) a
theorem Ahu (s:Sch)(r:Kid->Val × Bool): ∀l:List Val,(∀x∈l,(Ez (r (Ek s x)).1 s.key (Qe (Dr x s.key))).Ap <=x.Ap)->Dp (Il (Ic r (l.map (Ek s))))<=Dp l
 | [],_=>aR _
 | x::l,h=>by
  have b:=Ahu s r l λy a=>h y (cF _ a)
  have c:=h x cJ
  rw[aK,Pg,Ej]
  cases(r (Ek s x)).2 with
  | false=>simp only[aB,Zf];omega
  | true=>
   have e:Dp (Il (((Ek s x).1,(r (Ek s x)).1)::Ic r (l.map (Ek s))))=(Ez (r (Ek s x)).1 s.key (Qe (Dr x s.key))).Ap +Dp (Il (Ic r (l.map (Ek s)))):=Ej _ _
   simp only[Zt]
   rw[e];omega
theorem Ys: ∀ (n:Nat) (o:Option Sch) (v:Val) (p:List Stp) (ch:ByteArray->Bool),v.valid=true->(pt n o v p ch).1.Ap <=v.Ap/\(v.k=5->Xb (pt n o v p ch).1.f v.f)
 | 0,_,v,_,_,_=>⟨aR _,λ_=>Xb.refl _⟩
 | n+1,o,v,p,ch,b=>by
  rw[Ra]
  split
  ·exact⟨aR _,λ_=>Xb.refl _⟩
  ·rename_i c
   obtain⟨s,rfl,y,t⟩:=Ma c
   rcases t with⟨u,d⟩ | ⟨z,q,g,d⟩
   ·have i:Xb (fieldsOf (Ic (λx=>pt n x.2.2 x.2.1 (p++ [x.1]) ch) (kids (some s) v))) v.f:=by
     rw[d]
     exact Afm s _ v.f λx a=>(Ys n (Hh s x).2.2 (Hh s x).2.1 (p++ [(Hh s x).1]) ch (Gj b a).1).1
    simp only[u,Zt]
    refine⟨?_,λ_=>i⟩
    have:=i.Bd4
    have e:=v.Bv
    rw[fT]
    simp only[fE,dG,dH,Ed,show An.size=0 from rfl];omega
   ·have r: ¬ v.k=5:=by omega
    have i:Dp (Il (Ic (λx=>pt n x.2.2 x.2.1 (p++ [x.1]) ch) (kids (some s) v)))<=Dp v.l:=by
     rw[d]
     refine Ahu s _ v.l λx a=>?_
     obtain⟨j,xm,_⟩:=Md (Gx b a) (Dk g x a)
     have w:=Ys n (Ek s x).2.2 (Ek s x).2.1 (p++ [(Ek s x).1]) ch (Gx b a)
     have m:=Bfm n (Ek s x).2.2 (Ek s x).2.1 (p++ [(Ek s x).1]) ch
     exact As8 (m.trans j) j (w.2 j) xm
    simp only[r,Zf]
    refine⟨?_,λh=>absurd h (by first | exact r | exact not_false)⟩
    have e:=v.Bv
    rw[fT]
    simp only[fE,dG,dH,Ch,show An.size=0 from rfl];omega
theorem Ayb {n:Nat}{o:Option Sch}{v:Val}{p:List Stp}{ch:ByteArray->Bool}(a:v.valid=true)(b:v.k=5):Cw (pt n o v p ch).1.f :=
 ((Ys n o v p ch a).2 b).strict (H6 a)
theorem K0 {key:ByteArray} : ∀ {l:List Val} {acc:List ByteArray},Em key acc l=true-> ∀x∈l,Dr x key∉acc
 | [],_,_=>by simp
 | y::l,acc,h=>by
  simp only[Em,aE,dY]at h
  intro x a
  rcases bK.1 a with rfl | a
  ·intro b;have:=Ii.2 b;rw[this]at h;exact absurd h.1.2 (by simp)
  ·exact λb=>K0 h.2 x a (dK _ b)
theorem Yq {key:ByteArray}{y:Val}{l:List Val}{acc:List ByteArray}(h:Em key acc (y::l)=true):Em key (acc++ [Dr y key]) l=true/\ ∀x∈l,Dr x key≠Dr y key:=by
 have h':=h
 simp only[Em,aE]at h'
 exact⟨h'.2,λx a e=>K0 h'.2 x a (by rw[e];simp)⟩
theorem Ac7 {x:Val}{key:ByteArray}(h:isKey x key=true)(k:ByteArray):hasB key k x=decide (Dr x key=k):=by
 unfold isKey at h
 simp only[aE,decide_eq_true_eq]at h
 unfold hasB Dr
 rw[h.2];simp
theorem Ack {key:ByteArray} : ∀ {l:List Val} {acc:List ByteArray},Em key acc l=true-> ∀x∈l,l.find? (hasB key (Dr x key))=some x
 | [],_,_=>by simp
 | y::l,acc,h=>by
  intro x a
  have b:=Dk h
  obtain⟨d,e⟩:=Yq h
  rw[bW,Ac7 (b y cJ)]
  by_cases c:Dr y key=Dr x key
  ·rcases bK.1 a with rfl | a
   ·simp
   ·exact absurd c.symm (e x a)
  ·rcases bK.1 a with rfl | a
   ·exact absurd rfl c
   ·simp only[c,Ze]
    exact Ack d x a
end Go.CT.Sch
namespace Go.CT.Sch.D
open Go.Proofs
inductive VOk:Val->Prop
 | mk (v:Val):Cw v.f->((v.k=5->v.n=0/\v.s=An/\v.l= [])/\(v.k=4->v.n=0/\v.s=An)/\(v.k≠5->v.f= []))->(∀x∈v.l,VOk x)->(∀p∈v.f,VOk p.2)->VOk v
def D5 (s:Sch)(nm:ByteArray):Option Sch:=if s.it.length=1 then s.it[0]? else(s.fld nm).map (·.s)
inductive Ag3:Sch->Val->Prop
 | leaf (s:Sch) (v:Val):v.k=s.k->v.k≠4->v.k≠5->Ag3 s v
 | list (s:Sch) (v:Val) (t:Sch):v.k=s.k->v.k=4->s.it= [t]->(∀x∈v.l,Ag3 t x)->Ag3 s v
 | map (s:Sch) (v:Val):v.k=s.k->v.k=5->(∀p∈v.f,(D5 s p.1).isSome =true)->(∀p∈v.f,p.2.k≠0-> ∀t,D5 s p.1=some t->Ag3 t p.2)->Ag3 s v
inductive SOk:Sch->Prop
 | mk (s:Sch):s.it.length<=1->(s.it≠ []->s.f= [])->(s.k=4->s.it.length=1)->s.f.Pairwise (λa b=>blt a.nm b.nm=true)->
  (∀x∈s.it,SOk x)->(∀p∈s.f,SOk p.s)->(∀p∈s.f,p.df.length<=1)->(∀p∈s.f,∀d∈p.df,VOk d/\d.k≠0/\Ag3 p.s d)->SOk s
theorem VOk.strict {v:Val}(h:VOk v):Cw v.f:=by cases h;assumption
theorem VOk.map {v:Val}(h:VOk v)(a:v.k=5):v.n=0/\v.s=An/\v.l= []:=by cases h with | mk _ c b d e=>exact b.1 a
theorem VOk.list {v:Val}(h:VOk v)(b:v.k=4):v.n=0/\v.s=An/\v.f= []:=by cases h with | mk _ c a d e=>exact⟨(a.2.1 b).1,(a.2.1 b).2,a.2.2 (by omega)⟩
theorem VOk.nof {v:Val}(h:VOk v)(a:v.k≠5):v.f= []:=by cases h with | mk _ c b d e=>exact b.2.2 a
theorem VOk.Lh {v:Val}(h:VOk v){x:Val}(a:x∈v.l):VOk x:=by cases h with | mk _ c d b e=>exact b x a
theorem VOk.J9 {v:Val}(h:VOk v){p:ByteArray × Val}(hp:p∈v.f):VOk p.2:=by cases h with | mk _ b c d a=>exact a p hp
theorem SOk.one {s:Sch}(h:SOk s):s.it.length<=1:=by cases h;assumption
theorem SOk.nof {s:Sch}(h:SOk s)(a:s.it≠ []):s.f= []:=by cases h with | mk _ c b d e g i j m=>exact b a
theorem SOk.list {s:Sch}(h:SOk s)(a:s.k=4):s.it.length=1:=by cases h with | mk _ c d b e g i j m=>exact b a
theorem SOk.names {s:Sch}(h:SOk s):s.f.Pairwise (λa b=>blt a.nm b.nm=true):=by cases h;assumption
theorem SOk.Iu {s x:Sch}(h:SOk s)(a:x∈s.it):SOk x:=by cases h with | mk _ c d e g b i j m=>exact b x a
theorem SOk.J9 {s:Sch}{p:SFld}(h:SOk s)(a:p∈s.f):SOk p.s:=by cases h with | mk _ c d e g i b j m=>exact b p a
theorem Ml {s t:Sch}{nm:ByteArray}(h:D5 s nm=some t):t∈s.it\/ ∃p∈s.f,p.nm=nm/\p.s=t:=by
 unfold D5 at h
 split at h
 ·exact .inl (fL h)
 ·right
  rw[Option.map_eq_some_iff]at h
  obtain⟨p,hp,rfl⟩:=h
  exact⟨p,bU hp,by simpa using eI hp,rfl⟩
theorem SOk.sub {s t:Sch}{nm:ByteArray}(a:SOk s)(h:D5 s nm=some t):SOk t:=by
 rcases Ml h with h | ⟨p,hp,_,rfl⟩
 ·exact a.Iu h
 ·exact a.J9 hp
theorem Jk {s t:Sch}{nm:ByteArray}(h:D5 s nm=some t):t.Ap<s.Ap:=by
 rcases Ml h with h | ⟨p,hp,_,rfl⟩
 ·exact fB h
 ·have:=gT hp;omega
theorem Apq: ∀ (d:Nat) (v:Val),B9 d v=true->VOk v
 | 0,v,h=>by simp[B9]at h
 | d+1,v,h=>by
  simp only[B9,aE,bP,decide_eq_true_eq]at h
  obtain⟨⟨⟨⟨a,b⟩,c⟩,e⟩,g⟩:=h
  unfold Hf at a
  refine .mk v (My _ g) ⟨λi=>?_,λi=>?_,b.2.2.2⟩ (λx j=>Apq d x (c x j)) (λp hp=>Apq d p.2 (e p hp).2)
  ·rw[if_neg (by omega),if_neg (by omega),if_neg (by omega)]at a
   simp only[decide_eq_true_eq]at a
   exact⟨a.2.1,a.2.2,b.2.2.1 (by omega)⟩
  ·rw[if_neg (by omega),if_neg (by omega),if_neg (by omega)]at a
   simp only[decide_eq_true_eq]at a
   exact⟨a.2.1,a.2.2⟩
theorem Ow {v:Val}(h:v.valid=true):VOk v:=by
 unfold Val.valid at h
 simp only[aE]at h
 exact Apq _ _ h.1
def Bg:Sch:=⟨0,0,0,[],An,[],[]⟩
def U7 (o:Option Sch):List IV:= [(o.getD Bg).enc,.bool o.isSome]
theorem Mu:IV.agg [.int 0,.int 0,.int 0,.list [],.str ⟨#[]⟩,.list [],.list []]=Bg.enc:=rfl
theorem Aa6 (s:Sch)(nm:ByteArray)(m:s.Ap<=1099511627776)(b d e g:IV): ∀ (n i:Nat),i+n=s.f.length->
  W F132 1 [.str nm,.list (s.f.map bR),.int s.f.length,.int i,b,d,e,g]=some (U7 (((s.f.drop i).find? λp=>decide (p.nm=nm)).map (·.s)))
 | 0,i,h=>by
  rw[Aom]
  have j: ¬ i<s.f.length:=by omega
  simp[j,bF (cY j),U7,Mu]
 | n+1,i,h=>by
  have a:i<s.f.length:=by omega
  have q:=s.Bc
  have o:=Bf (i:=i) (by omega)
  have:=Aa6 s nm m b d e g n (i+1) (by omega)
  rw[Aom,aC a]
  simp only[dF,Al,a,Zd,aA,aS,Zt,eV,aU,aT,aX,aI a,aJ,gU,eO,gH,eF,o,this,bW]
  by_cases c:s.f[i].nm =nm
  ·simp[c,U7]
  ·have c':decide (s.f[i].nm =nm)=false:=by simpa using c
   simp only[c,c',Ze,aB,Zf]
theorem A0k (s:Sch)(nm:ByteArray)(a:s.Ap<=1099511627776):W F132 0 [s.enc,.str nm]=some (U7 (D5 s nm)):=by
 rw[A4v]
 unfold D5
 have:=Aa6 s nm a (.int 0) (.int 0) (.int 0) (.str ⟨#[]⟩) s.f.length 0 (by omega)
 simp only[aG,aD]at this
 simp only[dU,eY,aA,bL,aS,eS,aH,this]
 by_cases c:s.it.length=1
 ·have c':(s.it.length:Int)=1:=by omega
  obtain⟨t,b⟩:=bA.1 c
  simp[c,b,U7]
 ·have c': ¬ (s.it.length:Int)=1:=by omega
  simp only[c,c',Ze,aB,Zf]
  rfl
mutual
def Br:Val->Sch->Val
 | ⟨k,n,s,l,f⟩,sc=>
  if k=sc.k then
   if k=4 then(if sc.it.length=1 then⟨4,0,An,Ad7 l (sc.it.headD Bg),[]⟩else⟨k,n,s,l,f⟩)
   else if k=5 then⟨5,0,An,[],Adw f sc⟩
   else⟨k,n,s,l,f⟩
  else⟨k,n,s,l,f⟩
def Ad7:List Val->Sch->List Val
 | [],_=> []
 | v::vs,t=>Br v t::Ad7 vs t
def Adw:List (ByteArray × Val)->Sch->List (ByteArray × Val)
 | [],_=> []
 | (nm,v)::fs,sc=>(if v.k=0 then[]else match D5 sc nm with | some t=> [(nm,Br v t)] | none=> [])++Adw fs sc
end
theorem Aje (l:List Val)(t:Sch):Ad7 l t=l.map λv=>Br v t:=by
 induction l with
 | nil=>rfl
 | cons v l a=>simp[Ad7,a]
def D7 (sc:Sch)(p:ByteArray × Val):List (ByteArray × Val):=if p.2.k=0 then[]else match D5 sc p.1 with | some t=> [(p.1,Br p.2 t)] | none=> []
theorem Ajg (l:List (ByteArray × Val))(sc:Sch):Adw l sc=l.flatMap (D7 sc):=by
 induction l with
 | nil=>rfl
 | cons p l a=>obtain⟨nm,v⟩:=p;simp only[Adw,a,aV];rfl
theorem Nr {sc:Sch}{p q:ByteArray × Val}(h:q∈D7 sc p):q.1=p.1:=by
 unfold D7 at h
 split at h
 ·simp at h
 ·split at h<;>simp at h
  subst h;rfl
theorem Hn (v:Val)(sc:Sch):Br v sc=
  if v.k=sc.k then
   if v.k=4 then(if sc.it.length=1 then⟨4,0,An,v.l.map λx=>Br x (sc.it.headD Bg),[]⟩else v)
   else if v.k=5 then⟨5,0,An,[],v.f.flatMap (D7 sc)⟩
   else v
  else v:=by
 cases v with
 | mk k n s l f=>rw[<-Aje,<-Ajg];simp only[Br,Val.Bga,dG,dH];rfl
theorem Qq (g:ByteArray × Val->List (ByteArray × Val))(c: ∀p q,q∈g p->q.1=p.1)(e: ∀p,(g p).length <=1): ∀l:List (ByteArray × Val),Cw l->Cw (l.flatMap g)
 | [],_=>bQ
 | p::l,h=>by
  have i:=bN.1 h
  rw[aV]
  refine List.pairwise_append.2 ⟨?_,Qq g c e l i.2,?_⟩
  ·have:=e p
   match o:g p,this with
   | [],_=>exact bQ
   | [a],_=>exact eW _ _
   | _::_::_,h=>simp at h
  ·intro a j b d
   obtain⟨q,m,d⟩:=cK.1 d
   rw[c _ _ j,c _ _ d]
   exact i.1 q m
theorem J3 (sc:Sch)(p:ByteArray × Val):(D7 sc p).length <=1:=by
 unfold D7
 split
 ·simp
 ·split<;>simp
theorem Qg: ∀ (v:Val) (sc:Sch),(Br v sc).Ap <=v.Ap:=by
 refine eP λv a b sc=>?_
 have e: ∀ (t:Sch) (l:List Val),(∀x∈l,∀sc,(Br x sc).Ap <=x.Ap)->Dp (l.map λx=>Br x t)<=Dp l:=by
  intro t l
  induction l with
  | nil=>intro _;simp[Ed]
  | cons x l c=>
   intro h
   have g:=h x (by simp) t
   have i:=c λy d=>h y (by simp[d])
   rw[aK,Ej,Ej];omega
 have j: ∀ (l:List (ByteArray × Val)),(∀p∈l,∀sc,(Br p.2 sc).Ap <=p.2.Ap)->Ci (l.flatMap (D7 sc))<=Ci l:=by
  intro l
  induction l with
  | nil=>intro _;simp[Ch]
  | cons p l c=>
   intro h
   have i:=c λy d=>h y (by simp[d])
   rw[aV,Ij,B7]
   have:Ci (D7 sc p)<=1+p.1.size+p.2.Ap:=by
    unfold D7
    split
    ·rw[Ch];omega
    ·split
     ·next t _=>have g:=h p (by simp) t;rw[B7,Ch];simp only;omega
     ·rw[Ch];omega
   omega
 rw[Hn]
 split
 ·split
  ·split
   ·have:=e (sc.it.headD Bg) v.l a
    rw[fT,v.Bv]
    simp only[fE,dG,dH,Ch,show An.size=0 from rfl];omega
   ·exact aR _
  ·split
   ·have:=j v.f b
    rw[fT,v.Bv]
    simp only[fE,dG,dH,Ed,show An.size=0 from rfl];omega
   ·exact aR _
 ·exact aR _
theorem Akz (v:Val)(a:Gs 1073741824 v):W F129 0 [v.enc]=some [v.enc]:=by
 rw[Azu]
 have h:=Mg [v] (by simp) (by simpa using a)
 simp only[aK,aN]at h
 simp only[dP,aA,h,dD,fP,dG,aK,aN]
 rfl
theorem Aef (l:List Val)(b:Dp l<=4294967200):W Bfq 0 [.list (l.map bI)]=some (gV ⟨4,0,An,l,[]⟩):=
 Mg l (by have:=Mq l;omega) λx a=>C6 x (by
  have:x.Ap<=Dp l:=Gg (List.mem_map_of_mem a)
  omega)
theorem Arc (v:Val)(a:v.Ap<=4294967100):W F129 0 [v.enc]=some [v.enc]:=Akz v (C6 v (by omega))
end Go.CT.Sch.D
namespace Go.CT.Sch.D
open Go.Proofs
theorem Akp (sc:Sch)(p:ByteArray × Val):Ci (D7 sc p)<=1+p.1.size+p.2.Ap:=by
 unfold D7
 split
 ·rw[Ch];omega
 ·split
  ·next t _=>have a:=Qg p.2 t;rw[B7,Ch];simp only;omega
  ·rw[Ch];omega
theorem Aks {l:List (ByteArray × Val)}{i:Nat}(h:i<l.length):Ci (l.drop i)=(1+l[i].1.size +l[i].2.Ap)+Ci (l.drop (i+1)):=by
 rw[aC h,B7]
theorem Ajo {l:List Val}{i:Nat}(h:i<l.length):Dp (l.drop i)=l[i].Ap +Dp (l.drop (i+1)):=by
 rw[aC h,Ej]
theorem Uu (sc:Sch)(v:Val)(g:sc.Ap<=1099511627776)(x:v.Ap<=4294967000)(j m o:IV)(q: ∀p∈v.f,∀t,D5 sc p.1=some t->W Ben 0 [t.enc,p.2.enc]=some [(Br p.2 t).enc]):
  ∀ (n i:Nat) (acc:List (ByteArray × Val)),i+n=v.f.length->acc.length<=i->Ci acc+Ci (v.f.drop i)<=4294967000->
  W Ben 1 [.list (v.f.map aY),.int v.f.length,.int i,sc.enc,j,m,o,.list (acc.map aY)]=some [(A45 (acc++(v.f.drop i).flatMap (D7 sc))).enc]
 | 0,i,acc,h,y,r=>by
  rw[Aok]
  have u: ¬ i<v.f.length:=by omega
  have b:=Aum acc (by omega)
  simp only[dF,Al,u,Ze,aA,aS,aB,Zf,b,dD,fP,dB,eT,bF (cY u),cI,aQ]
 | n+1,i,acc,h,y,r=>by
  have c:i<v.f.length:=by omega
  have hlen:=v.Bc
  have z:=Bf (i:=i) (by omega)
  have hp:=Akp sc v.f[i]
  have A:=J3 sc v.f[i]
  rw[Aks c]at r
  have next:=Uu sc v g x j m o q n (i+1) (acc++D7 sc v.f[i]) (by omega) (by rw[aM];omega) (by rw[Ij];omega)
  have e:(acc.length+1) * 96<=Bb:=Sm (by omega) (by omega)
  rw[bH]at next
  rw[Aok,aC c,aV,<-next]
  simp only[dF,Al,c,Zd,aA,aS,Zt,eV,aU,aT,aX,aI c,aJ,gE,Fld.C7,fU,A0k sc _ g,U7,fD,eL,A0h,eF,z]
  unfold D7
  cases d:D5 sc v.f[i].1 with
  | none=>simp only[cD,aS,aB,Zf,aA,ite_self,aQ]
  | some t=>
   have a:=q _ (aF c) t d
   by_cases w:v.f[i].2.k =0
   ·simp only[aZ,aS,Zt,aA,w,Zd,aP,aB,Zf,aQ]
   ·simp only[aZ,aS,Zt,aA,w,Ze,bE,Zf,aL,a,bM,cX,eZ,fA,cN,cT,dB,gR,dP,O.Bs,aH,bD,e,cU,aK,aN]
theorem Uy (sc t:Sch)(v:Val)(u:v.Ap<=4294967000)(e g j:IV)(m:sc.it= [t])(o: ∀x∈v.l,W Ben 0 [t.enc,x.enc]=some [(Br x t).enc]):
  ∀ (n i:Nat) (acc:List Val),i+n=v.l.length->acc.length<=i->Dp acc+Dp (v.l.drop i)<=4294967000->
  W F131 1 [.list (v.l.map bI),.int v.l.length,.int i,sc.enc,e,g,j,.list (acc.map bI)]=some [(Val.mk 4 0 An (acc++(v.l.drop i).map λx=>Br x t) []).enc]
 | 0,i,acc,h,w,q=>by
  rw[Aov]
  have r: ¬ i<v.l.length:=by omega
  have b:=Aef acc (by omega)
  simp only[dF,Al,r,Ze,aA,aS,aB,Zf,b,dD,fP,dB,eT,bF (cY r),aN,aQ]
 | n+1,i,acc,h,w,q=>by
  have c:i<v.l.length:=by omega
  have hlen:=v.B5
  have y:=Bf (i:=i) (by omega)
  have hp:=Qg v.l[i] t
  rw[Ajo c]at q
  have next:=Uy sc t v u e g j m o n (i+1) (acc++ [Br v.l[i] t]) (by omega) (by rw[aM];simp;omega) (by rw[Ri,Ej,Ed];omega)
  have d:(acc.length+1) * 80<=Bb:=Sm (by omega) (by omega)
  have a:=o _ (aF c)
  rw[bH,bC]at next
  rw[Aov,aC c,aK,<-next]
  simp only[dF,Al,c,Zd,aA,aS,Zt,eV,aU,aT,aX,aI c,aJ,dU,m,aK,aN,eC,dJ,cB,a,bM,dP,O.Bs,aH,bD,d,cU,eF,y]
theorem A8s (sc:Sch)(l:List (ByteArray × Val))(h:Cw l):Zi (l.flatMap (D7 sc))=l.flatMap (D7 sc):=
 Axw (Qq _ (λ_ _ h=>Nr h) (J3 sc) l h)
theorem Aqu: ∀v:Val,VOk v->v.Ap<=4294967000-> ∀sc:Sch,SOk sc->sc.Ap<=1099511627776->W Ben 0 [sc.enc,v.enc]=some [(Br v sc).enc]:=by
 refine eP λv d e g o sc h i=>?_
 have b:=Arc v (by omega)
 rw[A3a,Hn]
 simp only[cX,eH,aA,eL,bL,aS]
 by_cases q:v.k=sc.k
 ·simp only[q,Zd,aP,aB,Zf,aA,Zt]
  by_cases r:sc.k=5
  ·have y:v.k=5:=by omega
   have u:=Uu sc v i o (.int 0) (.int 0) (.str ⟨#[]⟩) (λp hp t a=>e p hp (g.J9 hp) (by have:=fS hp;omega) t (h.sub a) (by have:=Jk a;omega)) v.f.length 0 [] (by omega) (by simp) (by rw[Ch,aG];have:=v.Bv;omega)
   simp only[aG,aD,aN,bG]at u
   simp[r,u,A45,A8s sc _ g.strict]
  ·by_cases j:sc.k=4
   ·have z:v.k=4:=by omega
    obtain⟨t,a⟩:=bA.1 (h.list j)
    have c:t∈sc.it:=by rw[a];simp
    have w:=Uy sc t v o (.int 0) (.int 0) (.str ⟨#[]⟩) a (λx m=>d x m (g.Lh m) (by have:=eG m;omega) t (h.Iu c) (by have:=fB c;omega)) v.l.length 0 [] (by omega) (by simp) (by rw[Ed,aG];have:=v.Bv;omega)
    simp only[aG,aD,aN,bG]at w
    have A:W F131 0 [sc.enc,v.enc]=some [(Val.mk 4 0 An (v.l.map λx=>Br x t) []).enc]:=by
     rw[Azi]
     simp[a,w]
    simp[j,A,a]
   ·simp[j,r,b]
 ·simp[q,b]
end Go.CT.Sch.D
namespace Go.CT.Sch
open Go.Proofs
theorem Yd {x:IV}(h:WT Tryz.prog 3 x): ∃n,x= .int n:=by
 obtain⟨n,rfl,_⟩:=h.H3 (k:= .i64) (by kernel_rfl)
 exact⟨n,rfl⟩
theorem Ug {x:IV}(h:WT Tryz.prog 9 x): ∃s,x= .str s:=by
 obtain⟨s,rfl,_⟩:=h.Ih (by kernel_rfl)
 exact⟨s,rfl⟩
theorem Avu {x:IV}(h:WT Tryz.prog 4 x): ∃b,x= .bool b:=h.M3 (by kernel_rfl)
theorem Aw6 {x:IV}(h:WT Tryz.prog 22 x): ∃l:List ByteArray,x= .list (l.map .str):=by
 obtain⟨xs,rfl,_,h⟩:=h.C3 (e:=9) (by kernel_rfl)
 obtain⟨es,rfl,_⟩:=Kb (enc:=IV.str) (ok:=λ_=>True) (xs:=xs) λx a=>by
  obtain⟨s,e⟩:=Ug (h x a)
  exact⟨s,e,trivial⟩
 exact⟨es,rfl⟩
theorem Atd {x:IV}(b:WT Tryz.prog 27 x)(h: ∀y,y.bulk<x.bulk->WT Tryz.prog 30 y-> ∃v:Val,y=v.enc): ∃l:List Val,x= .list (l.map bI):=by
 obtain⟨xs,rfl,_,c⟩:=b.C3 (e:=30) (by kernel_rfl)
 obtain⟨es,rfl,_⟩:=Kb (enc:=bI) (ok:=λ_=>True) (xs:=xs) λy a=>by
  have d:y.bulk<(IV.list xs).bulk :=by have:=Gg a;simp only[fF];omega
  obtain⟨s,e⟩:=h y d (c y a)
  exact⟨s,e,trivial⟩
 exact⟨es,rfl⟩
theorem Axb {x:IV}(b:WT Tryz.prog 28 x)(h: ∀y,y.bulk<x.bulk->WT Tryz.prog 84 y-> ∃p,y=aY p): ∃l:List (ByteArray × Val),x= .list (l.map aY):=by
 obtain⟨xs,rfl,_,c⟩:=b.C3 (e:=84) (by kernel_rfl)
 obtain⟨es,rfl,_⟩:=Kb (enc:=aY) (ok:=λ_=>True) (xs:=xs) λy a=>by
  have d:y.bulk<(IV.list xs).bulk :=by have:=Gg a;simp only[fF];omega
  obtain⟨s,e⟩:=h y d (c y a)
  exact⟨s,e,trivial⟩
 exact⟨es,rfl⟩
theorem Aj8: ∀ (n:Nat) (x:IV),x.bulk<=n->(WT Tryz.prog 30 x-> ∃v:Val,x=v.enc)/\(WT Tryz.prog 84 x-> ∃p,x=aY p)
 | 0,x,g=>by have:=Ad6 x;omega
 | n+1,x,g=>by
  have u: ∀y:IV,y.bulk<=n->WT Tryz.prog 27 y-> ∃l:List Val,y= .list (l.map bI):=λy A h=>Atd h λz i j=>(Aj8 n z (by omega)).1 j
  have w: ∀y:IV,y.bulk<=n->WT Tryz.prog 28 y-> ∃l:List (ByteArray × Val),y= .list (l.map aY):=λy A h=>Axb h λz i j=>(Aj8 n z (by omega)).2 j
  constructor
  ·intro h
   obtain⟨xs,rfl,o⟩:=h.Jo (ts:= [3,3,9,27,28]) (by kernel_rfl) (by kernel_rfl)
   obtain⟨a,xs,rfl,q,h⟩:=o.cons_inv
   obtain⟨b,xs,rfl,g,h⟩:=h.cons_inv
   obtain⟨c,xs,rfl,r,h⟩:=h.cons_inv
   obtain⟨d,xs,rfl,hd,h⟩:=h.cons_inv
   obtain⟨e,xs,rfl,t,h⟩:=h.cons_inv
   obtain rfl:=h.V0
   simp only[fF,iE]at g
   obtain⟨k,rfl⟩:=Yd q
   obtain⟨m,rfl⟩:=Yd ‹WT Tryz.prog 3 b›
   obtain⟨s,rfl⟩:=Ug r
   obtain⟨l,rfl⟩:=u d (by omega) hd
   obtain⟨f,rfl⟩:=w e (by omega) t
   exact⟨⟨k,m,s,l,f⟩,gY _ _ _ _ _⟩
  ·intro h
   obtain⟨xs,rfl,o⟩:=h.Jo (ts:= [9,3,3,9,27,28]) (by kernel_rfl) (by kernel_rfl)
   obtain⟨z,xs,rfl,i,h⟩:=o.cons_inv
   obtain⟨a,xs,rfl,q,h⟩:=h.cons_inv
   obtain⟨b,xs,rfl,g,h⟩:=h.cons_inv
   obtain⟨c,xs,rfl,r,h⟩:=h.cons_inv
   obtain⟨d,xs,rfl,hd,h⟩:=h.cons_inv
   obtain⟨e,xs,rfl,t,h⟩:=h.cons_inv
   obtain rfl:=h.V0
   simp only[fF,iE]at g
   obtain⟨nm,rfl⟩:=Ug i
   obtain⟨k,rfl⟩:=Yd q
   obtain⟨m,rfl⟩:=Yd ‹WT Tryz.prog 3 b›
   obtain⟨s,rfl⟩:=Ug r
   obtain⟨l,rfl⟩:=u d (by omega) hd
   obtain⟨f,rfl⟩:=w e (by omega) t
   exact⟨(nm,⟨k,m,s,l,f⟩),Fld.fold _ _ _ _ _ _⟩
theorem At5 {x:IV}(h:WT Tryz.prog 30 x): ∃v:Val,x=v.enc:=(Aj8 _ x (aR _)).1 h
theorem Asb {x:IV}(h:WT Tryz.prog 27 x): ∃l:List Val,x= .list (l.map bI):=Atd h λ_ _ a=>At5 a
theorem A9f {x:IV}(b:WT Tryz.prog 23 x)(h: ∀y,y.bulk<x.bulk->WT Tryz.prog 26 y-> ∃v:Sch,y=v.enc): ∃l:List Sch,x= .list (l.map cR):=by
 obtain⟨xs,rfl,_,c⟩:=b.C3 (e:=26) (by kernel_rfl)
 obtain⟨es,rfl,_⟩:=Kb (enc:=cR) (ok:=λ_=>True) (xs:=xs) λy a=>by
  have d:y.bulk<(IV.list xs).bulk :=by have:=Gg a;simp only[fF];omega
  obtain⟨s,e⟩:=h y d (c y a)
  exact⟨s,e,trivial⟩
 exact⟨es,rfl⟩
theorem Aq6 {x:IV}(b:WT Tryz.prog 24 x)(h: ∀y,y.bulk<x.bulk->WT Tryz.prog 94 y-> ∃p:SFld,y=p.enc): ∃l:List SFld,x= .list (l.map bR):=by
 obtain⟨xs,rfl,_,c⟩:=b.C3 (e:=94) (by kernel_rfl)
 obtain⟨es,rfl,_⟩:=Kb (enc:=bR) (ok:=λ_=>True) (xs:=xs) λy a=>by
  have d:y.bulk<(IV.list xs).bulk :=by have:=Gg a;simp only[fF];omega
  obtain⟨s,e⟩:=h y d (c y a)
  exact⟨s,e,trivial⟩
 exact⟨es,rfl⟩
theorem Aj7: ∀ (n:Nat) (x:IV),x.bulk<=n->(WT Tryz.prog 26 x-> ∃v:Sch,x=v.enc)/\(WT Tryz.prog 94 x-> ∃p:SFld,x=p.enc)
 | 0,x,A=>by have:=Ad6 x;omega
 | n+1,x,q=>by
  have C: ∀y:IV,y.bulk<=n->WT Tryz.prog 23 y-> ∃l:List Sch,y= .list (l.map cR):=λy F h=>A9f h λz G r=>(Aj7 n z (by omega)).1 r
  have H: ∀y:IV,y.bulk<=n->WT Tryz.prog 24 y-> ∃l:List SFld,y= .list (l.map bR):=λy F h=>Aq6 h λz G r=>(Aj7 n z (by omega)).2 r
  have B: ∀xs,WTs Tryz.prog [3,3,3,22,9,23,24] xs->iE xs<=n-> ∃s:Sch,xs=s.E2:=by
   intro xs h A
   obtain⟨a,xs,rfl,t,h⟩:=h.cons_inv
   obtain⟨b,xs,rfl,j,h⟩:=h.cons_inv
   obtain⟨c,xs,rfl,u,h⟩:=h.cons_inv
   obtain⟨d,xs,rfl,hd,h⟩:=h.cons_inv
   obtain⟨e,xs,rfl,I,h⟩:=h.cons_inv
   obtain⟨g,xs,rfl,J,h⟩:=h.cons_inv
   obtain⟨i,xs,rfl,K,h⟩:=h.cons_inv
   obtain rfl:=h.V0
   simp only[iE]at A
   obtain⟨k,rfl⟩:=Yd t
   obtain⟨m,rfl⟩:=Yd j
   obtain⟨o,rfl⟩:=Yd u
   obtain⟨en,rfl⟩:=Aw6 hd
   obtain⟨key,rfl⟩:=Ug I
   obtain⟨it,rfl⟩:=C g (by omega) J
   obtain⟨f,rfl⟩:=H i (by omega) K
   exact⟨⟨k,m,o,en,key,it,f⟩,by rw[gF];rfl⟩
  constructor
  ·intro h
   obtain⟨xs,rfl,w⟩:=h.Jo (ts:= [3,3,3,22,9,23,24]) (by kernel_rfl) (by kernel_rfl)
   simp only[fF]at q
   obtain⟨s,rfl⟩:=B xs w (by omega)
   exact⟨s,s.Eo.symm⟩
  ·intro h
   obtain⟨xs,rfl,w⟩:=h.Jo (ts:= [9,4,4,27,3,3,3,22,9,23,24]) (by kernel_rfl) (by kernel_rfl)
   obtain⟨a,xs,rfl,t,h⟩:=w.cons_inv
   obtain⟨b,xs,rfl,j,h⟩:=h.cons_inv
   obtain⟨c,xs,rfl,u,h⟩:=h.cons_inv
   obtain⟨d,xs,rfl,hd,h⟩:=h.cons_inv
   simp only[fF,iE]at q
   obtain⟨s,rfl⟩:=B xs h (by omega)
   obtain⟨nm,rfl⟩:=Ug t
   obtain⟨rq,rfl⟩:=Avu j
   obtain⟨im,rfl⟩:=Avu u
   obtain⟨df,rfl⟩:=Asb hd
   exact⟨⟨nm,rq,im,df,s⟩,rfl⟩
theorem Bek {x:IV}(h:WT Tryz.prog 26 x): ∃s:Sch,x=s.enc:=(Aj7 _ x (aR _)).1 h
structure Mgr where
 name:ByteArray
 paths:List ByteArray
def Mgr.enc (m:Mgr):IV:= .agg [.str m.name,.list (m.paths.map .str)]
theorem Bdb {x:IV}(h:WT Tryz.prog 52 x): ∃m:Mgr,x=m.enc:=by
 obtain⟨xs,rfl,c⟩:=h.Jo (ts:= [9,22]) (by kernel_rfl) (by kernel_rfl)
 obtain⟨a,xs,rfl,d,h⟩:=c.cons_inv
 obtain⟨b,xs,rfl,e,h⟩:=h.cons_inv
 obtain rfl:=h.V0
 obtain⟨nm,rfl⟩:=Ug d
 obtain⟨l,rfl⟩:=Aw6 e
 exact⟨⟨nm,l⟩,rfl⟩
theorem A9y {x:IV}(a:WT Tryz.prog 31 x): ∃l:List Mgr,x= .list (l.map Mgr.enc):=by
 obtain⟨xs,rfl,_,b⟩:=a.C3 (e:=52) (by kernel_rfl)
 obtain⟨es,rfl,_⟩:=Kb (enc:=Mgr.enc) (ok:=λ_=>True) (xs:=xs) λy c=>by
  obtain⟨s,e⟩:=Bdb (b y c)
  exact⟨s,e,trivial⟩
 exact⟨es,rfl⟩
end Go.CT.Sch
namespace Go.CT.Sch.D
open Go.Proofs
theorem Aeo {s:Sch}(h:SB s)(nm:ByteArray):D5 s nm=Sch.D5 s nm:=by
 unfold D5 Sch.D5
 have a:=h.one
 match b:s.it,a with
 | [],_=>simp
 | [t],_=>simp
theorem A1x: ∀ (v:Val) (s:Sch),SB s->Ji v s []= []->Ag3 s v:=by
 refine eP λv c d s b h=>?_
 have e:=W4 h
 by_cases g:v.k=4
 ·obtain⟨t,a⟩:=bA.1 (b.list (by omega))
  have m:=(Ayq h g).2
  rw[a,eJ]at m
  exact .list s v t e g a λx o=>c x o t (b.Iu (by rw[a];simp)) (Afq m x o)
 ·by_cases i:v.k=5
  ·have q:=(A3o h i).1
   refine .map s v e i (λp hp=>?_) (λp hp j t a=>?_)
   ·obtain⟨t,a⟩:=Aq1 (q p hp [])
    rw[Aeo b,a];rfl
   ·rw[Aeo b]at a
    exact d p hp t (b.sub a) (Ua (A4i (q p hp []) j a) [])
  ·exact .leaf s v e g i
theorem Apu {g:Sch->Bool} : ∀ (l:List SFld) (o:Option ByteArray),fOk g o l=true->l.Pairwise (λa b=>blt a.nm b.nm=true)/\ ∀q,o=some q-> ∀p∈l,blt q p.nm=true
 | [],o,_=>⟨bQ,λq _ p hp=>by simp at hp⟩
 | x::l,o,h=>by
  simp only[fOk,aE]at h
  obtain⟨e,i⟩:=Apu l (some x.nm) h.2
  have d:=i x.nm rfl
  refine⟨bN.2 ⟨d,e⟩,λq j p hp=>?_⟩
  have c:=h.1.1.1.1.2
  subst j
  simp only[Jl]at c
  rcases bK.1 hp with rfl | hp
  ·exact c
  ·exact Hm c (d p hp)
theorem Tw: ∀ (d:Nat) (s:Sch),Ce d s=true->SOk s
 | 0,s,h=>by simp[Ce]at h
 | d+1,s,h=>by
  have c:=G4 (d+1) s h
  have e: ∀p∈s.f,SOk p.s/\p.df.length<=1/\ ∀x∈p.df,VOk x/\x.k≠0/\Ag3 p.s x:=by
   intro p hp
   obtain⟨_,_,j,o,g⟩:=Vb h hp
   refine⟨Tw d p.s j,o,λx q=>?_⟩
   unfold Bcl at g
   simp only[bP,aE,dY,decide_eq_false_iff_not,decide_eq_true_eq]at g
   obtain⟨⟨r,u⟩,w⟩:=g x q
   exact⟨Ow u,r,A1x x p.s (G4 d p.s j) (cC.1 w)⟩
  have i:s.f.Pairwise (λa b=>blt a.nm b.nm=true):=by
   by_cases m:s.f= []
   ·rw[m];exact bQ
   ·obtain⟨p,hp⟩:=List.exists_mem_of_ne_nil _ m
    have y:=(Vb h hp).1
    rw[Ce,if_neg (by omega),if_neg (by omega),if_neg (by omega),if_neg (by omega),if_pos y]at h
    simp only[aE]at h
    exact(Apu s.f none h.2).1
  exact .mk s c.one c.nof c.list i (λt z=>Tw d t (Y6 h z)) (λp hp=>(e p hp).1) (λp hp=>(e p hp).2.1) (λp hp=>(e p hp).2.2)
theorem Bat (v:Val)(s:Sch):(Br v s).k =v.k:=by
 rw[Hn]
 split
 ·split
  ·split
   ·show(4:Int)=_;omega
   ·rfl
  ·split
   ·show(5:Int)=_;omega
   ·rfl
 ·rfl
theorem Aae {v:Val}(s:Sch)(a:v.k≠4)(b:v.k≠5):Br v s=v:=by
 rw[Hn]
 split
 ·rfl
 ·rfl
theorem Aht (g:ByteArray × Val->List (ByteArray × Val))(o: ∀p q,q∈g p->q.1=p.1)(r: ∀p,(g p).length <=1)(nm:ByteArray): ∀l:List (ByteArray × Val),Cw l->
  (l.flatMap g).find? (λp=>decide (p.1=nm))=(l.find? λp=>decide (p.1=nm)).bind λp=>(g p).head?
 | [],_=>rfl
 | p::l,h=>by
  have t:=bN.1 h
  rw[aV,fZ,bW,Aht g o r nm l t.2]
  have d:=o p
  have i:=r p
  by_cases c:p.1=nm
  ·have j:(l.find? λq=>decide (q.1=nm))=none:=by
    rw[dW]
    intro q m
    have:=Kz (t.1 q m)
    simp only[decide_eq_true_eq]
    intro e
    exact this (by rw[c,e])
   rw[j]
   have c':decide (p.1=nm)=true:=by simpa using c
   rw[c']
   match b:g p,i with
   | [],_=>simp[b]
   | [a],_=>
    have:=d a (by rw[b];simp)
    simp[b,this,c]
  ·have c':decide (p.1=nm)=false:=by simpa using c
   rw[c']
   have:(g p).find? (λq=>decide (q.1=nm))=none:=by
    rw[dW]
    intro q m
    rw[d q m,c'];simp
   rw[this];rfl
theorem Ax8 {v:Val}{s:Sch}(b:VOk v)(c:v.k=s.k)(a:v.k=5)(nm:ByteArray):(Br v s).get nm=(v.get nm).bind λx=>if x.k=0 then none else(D5 s nm).map (Br x):=by
 rw[Hn,if_pos c,if_neg (by omega),if_pos a]
 unfold gS
 rw[if_pos (show(Val.mk 5 0 An [] (v.f.flatMap (D7 s))).k =5 from rfl),if_pos a]
 show((v.f.flatMap (D7 s)).find? λp=>decide (p.1=nm)).map (·.2)=_
 rw[Aht (D7 s) (λp q h=>Nr h) (J3 s) nm v.f b.strict]
 cases d:v.f.find? (λp=>decide (p.1=nm)) with
 | none=>rfl
 | some p=>
  have hp:p.1=nm:=by simpa using eI d
  simp only[aA,aJ]
  unfold D7
  split
  ·rfl
  ·rw[hp]
   cases D5 s nm<;>rfl
theorem Rz: ∀l:List (ByteArray × Val),Cw l->rising l=true
 | [],_=>rfl
 | [_],_=>rfl
 | p::q::r,h=>by
  have a:=bN.1 h
  simp only[rising,aE]
  exact⟨a.1 q (by simp),Rz (q::r) a.2⟩
theorem Al8 (g:ByteArray × Val->List (ByteArray × Val))(a: ∀p,(g p).length <=1): ∀l:List (ByteArray × Val),(l.flatMap g).length <=l.length
 | []=>by simp
 | p::l=>by
  have:=a p
  have:=Al8 g a l
  simp only[aV,aM,bX];omega
theorem Ox: ∀ (d:Nat) (v:Val) (s:Sch),B9 d v=true->B9 d (Br v s)=true
 | 0,v,s,h=>by simp[B9]at h
 | d+1,v,s,h=>by
  have h':=(D3 d v).1 h
  have e:=Apq _ _ h
  rw[Hn]
  split
  ·split
   ·split
    ·rename_i m _
     rw[D3]
     refine⟨rfl,⟨by show(v.l.map _).length <=64;rw[aH];exact h'.2.1.1,by show(0:Nat)<=64;omega,λc=>absurd rfl c,λ_=>rfl⟩,λx b=>?_,λp hp=>by simp at hp,rfl⟩
     simp only[dG,bB]at b
     obtain⟨y,g,rfl⟩:=b
     exact Ox d y _ (h'.2.2.1 y g)
    ·exact h
   ·split
    ·rw[D3]
     refine⟨rfl,⟨by show(0:Nat)<=64;omega,?_,λ_=>rfl,λc=>absurd rfl c⟩,λx b=>by simp at b,λp hp=>?_,?_⟩
     ·have:=Al8 (D7 s) (J3 s) v.f
      show(v.f.flatMap (D7 s)).length <=64
      have:=h'.2.1.2.1
      omega
     ·simp only[dH,cK]at hp
      obtain⟨q,i,hp⟩:=hp
      have j:=Nr hp
      have a:=h'.2.2.2.1 q i
      rw[j]
      refine⟨a.1,?_⟩
      unfold D7 at hp
      split at hp
      ·simp at hp
      ·split at hp
       ·simp only[bT]at hp
        subst hp
        exact Ox d q.2 _ a.2
       ·simp at hp
     ·exact Rz _ (Qq (D7 s) (λp q h=>Nr h) (J3 s) v.f e.strict)
    ·exact h
  ·exact h
theorem Aqt: ∀ (v:Val) (s:Sch),(Br v s).size <=v.size:=by
 refine eP λv a b s=>?_
 have e: ∀ (t:Sch) (l:List Val),(∀x∈l,∀s,(Br x s).size <=x.size)->Cp (l.map λx=>Br x t)<=Cp l:=by
  intro t l
  induction l with
  | nil=>intro _;simp[Cp]
  | cons x l c=>
   intro h
   have g:=h x (by simp) t
   have i:=c λy d=>h y (by simp[d])
   simp only[aK,Cp];omega
 have j: ∀ (l:List (ByteArray × Val)),(∀p∈l,∀s,(Br p.2 s).size <=p.2.size)->B6 (l.flatMap (D7 s))<=B6 l:=by
  intro l
  induction l with
  | nil=>intro _;simp[B6]
  | cons p l c=>
   intro h
   have i:=c λy d=>h y (by simp[d])
   have m:B6 (D7 s p)<=p.2.size:=by
    unfold D7
    split
    ·simp[B6]
    ·split
     ·next t _=>have g:=h p (by simp) t;simp only[B6];omega
     ·simp[B6]
   rw[aV,Ni]
   simp only[B6];omega
 rw[Hn]
 split
 ·split
  ·split
   ·have:=e (s.it.headD Bg) v.l a
    rw[gZ,v.size_eq]
    simp only[dG,dH,B6];omega
   ·exact aR _
  ·split
   ·have:=j v.f b
    rw[gZ,v.size_eq]
    simp only[dG,dH,Cp];omega
   ·exact aR _
 ·exact aR _
theorem Ai2 {v:Val}(s:Sch)(h:v.valid=true):(Br v s).valid =true:=by
 rw[Hp]at h ⊢
 have:=Aqt v s
 exact⟨Ox 12 v s h.1,by omega⟩
end Go.CT.Sch.D
namespace Go.CT.Sch
open Go.Proofs
def Avm (x:IV):Prop:= ∃t c,x= .agg [.str t,.int c]
theorem A0j (p:List Stp)(c:Int):Avm (I0 p c):=⟨_,_,rfl⟩
theorem Av6: ∀ (v:Val) (s:Sch) (p:List Stp),∀x∈Ji v s p,Avm x:=by
 refine eP λv e g s p=>?_
 have sing: ∀ (q:List Stp) (c:Int),∀x∈ [I0 q c],Avm x:=λq c x b=>by simp at b;subst b;exact A0j q c
 have nil: ∀x∈([]:List IV),Avm x:=λx b=>by simp at b
 have i: ∀n,∀x∈Zl p s n,Avm x:=λn=>by
  unfold Zl;split
  ·exact sing _ _
  ·exact nil
 have j: ∀ (l:List Val),(∀x∈l,∀s p,∀y∈Ji x s p,Avm y)-> ∀key t prev,∀y∈Lc l key t p prev,Avm y:=by
  intro l
  induction l with
  | nil=>intro _ key t prev y a;rw[L9]at a;simp at a
  | cons x l m=>
   intro h key t prev y a
   rw[Ib,bY,bY]at a
   rcases a with (a | a) | a
   ·exact h x (by simp) _ _ y a
   ·unfold Asr at a
    split at a
    ·exact sing _ _ y a
    ·simp at a
   ·exact m (λz o=>h z (by simp[o])) key t _ y a
 have r: ∀y∈Lg v.f s p,Avm y:=by
  intro y a
  rw[Td,cK]at a
  obtain⟨x,b,a⟩:=a
  unfold Ag2 at a
  split at a
  ·exact sing _ _ y a
  ·split at a
   ·simp at a
   ·exact g x b _ _ y a
 have u: ∀y∈s.f.flatMap (Km v p),Avm y:=by
  intro y a
  rw[cK]at a
  obtain⟨d,_,a⟩:=a
  unfold Km at a
  split at a
  ·exact sing _ _ y a
  ·simp at a
 rw[Js]
 split
 ·split
  ·exact i _
  ·split
   ·split
    ·exact sing _ _
    ·split
     ·exact sing _ _
     ·exact nil
   ·split
    ·intro x b
     rcases bY.1 b with b | b
     ·exact i _ x b
     ·exact j v.l e _ _ _ x b
    ·split
     ·intro x b
      rcases bY.1 b with b | b
      ·exact r x b
      ·exact u x b
     ·exact nil
 ·exact sing _ _
def chk (s:Sch)(v:Val):List IV:=if s.valid&&v.valid then Ji v s []else[.agg [.str An,.int 1]]
theorem A0t (s:Sch)(v:Val)(b:s.Ap<=1048576)(c:v.Ap<=1048576):W F123 0 [s.enc,v.enc]=some [.list (chk s v)]:=by
 rw[A5g]
 unfold chk
 simp only[Pb s b,It v (by omega),bM,dN,aA,aS,Aw,Am,dB,dP]
 cases a:s.valid with
 | false=>rfl
 | true=>
  cases v.valid with
  | false=>rfl
  | true=>simp[Agy v c s (eA a) b]
theorem Ata (s:Sch)(v:Val)(b:s.Ap<=1048576)(c:v.Ap<=1048576):W F37 0 [s.enc,v.enc]=some [.list (chk s v)]:=by
 rw[Bbb]
 unfold chk
 simp only[Tu s b,Za v (by omega),bM,dN,aA,aS,Aw,Am,dB,dP]
 cases a:s.valid with
 | false=>rfl
 | true=>
  cases v.valid with
  | false=>rfl
  | true=>
   have:=Ap2 v c s (eA a) b [] (by simp) (by simp;omega)
   simp only[aN]at this
   simp[this]
end Go.CT.Sch
namespace Go.CT.Sch
open Go.Proofs
theorem Bbe (l:List SFld)(i:Nat)(a:i<l.length):fG 4 7 true false (.list (l.map bR)) (.int i) l[i].s.enc =some (.list (l.map bR)):=by
 have b:(l.map bR)[i]?=some (bR l[i]):=by rw[aX,aI a];rfl
 have d:(l.map bR).set i (bR l[i])=l.map bR:=by
  rw[<-gA,cS]
 unfold fG
 simp only[fO,aU,Zt,aT,b,aB,Zf]
 rw[l[i].s.Eo]
 simp only[bR]
 have c:l[i].s.E2.length =7:=rfl
 simp only[c,Zt]
 congr 2
theorem Bdk (l:List SFld)(i:Nat)(a:i<l.length):fG 3 1 false false (.list (l.map bR)) (.int i) (.list (l[i].df.map bI))=some (.list (l.map bR)):=by
 have b:(l.map bR)[i]?=some (bR l[i]):=by rw[aX,aI a];rfl
 have c:(l.map bR).set i (bR l[i])=l.map bR:=by
  rw[<-gA,cS]
 unfold fG
 simp only[fO,aU,Zt,aT,b,aB,Zf]
 simp only[bR]
 congr 2
theorem Sch.C0 (s:Sch):IV.agg [.int s.k,.int s.mn,.int s.mx,.list (s.en.map .str),.str s.key,.list (s.it.map cR),.list (s.f.map bR)]=s.enc:=by
 rw[s.Eo,s.Bm]
theorem Afr:IV.agg [.int 0,.int 0,.int 0,.list [],.str An,.list [],.list []]=Bg.enc:=rfl
theorem Ww {β:Type}{a b c d e g h:IV}{f:IV->IV->IV->IV->IV->IV->IV->Option β} :calls (some [a,b,c,d,e,g,h]) 7 f=f a b c d e g h:=rfl
theorem A9b {β:Type}{a b c d e g h i:IV}{f:IV->IV->IV->IV->IV->IV->IV->IV->Option β} :calls (some [a,b,c,d,e,g,h,i]) 8 f=f a b c d e g h i:=rfl
theorem Z6 (s:Sch)(u:s.Ap<=1048576)(d e g j m o q r a b:IV)(t: ∀p∈s.f,W Bcj 0 [p.s.enc]=some p.s.E2): ∀ (n i:Nat),i+n=s.f.length->
  W Bcj 2 [.int s.f.length,.int i,d,e,g,j,m,o,q,r,.list (s.f.map bR),a,b]=some [d,e,g,a,j,b,.list (s.f.map bR)]
 | 0,i,h=>by
  rw[Alo]
  have w: ¬ i<s.f.length:=by omega
  simp only[dF,Al,w,Ze,aA,aS,aB,Zf]
 | n+1,i,h=>by
  have c:i<s.f.length:=by omega
  have z:=s.Bc
  have x:=Bf (i:=i) (by omega)
  have y:=gT (aF c)
  have:=Z6 s u d e g j m o q r a b t n (i+1) (by omega)
  have hd:=Aef s.f[i].df (by omega)
  rw[dD]at hd
  rw[Alo]
  simp only[dF,Al,c,Zd,aA,aS,Zt,eV,aU,aT,aX,aI c,aJ,eO,t _ (aF c),gF,Ww,dB,Sch.C0,Bbe s.f i c,SFld.Cd,hd,fP,dG,Bdk s.f i c,eF,x,this]
theorem Abq (s:Sch)(u:s.Ap<=1048576)(e g j m o q r a b:IV)(t: ∀x∈s.it,W Bcj 0 [x.enc]=some x.E2): ∀ (n i:Nat),i+n=s.it.length->
  W Bcj 1 [.int s.it.length,.int i,e,g,j,m,.list (s.f.map bR),o,q,r,a,.list (s.it.map cR),b]=W Bcj 2 [.int s.f.length,.int (0:Nat),e,g,j,m,o,q,r,a,.list (s.f.map bR),b,.list (s.it.map cR)]
 | 0,i,h=>by
  rw[Ang]
  have w: ¬ i<s.it.length:=by omega
  have A:=s.Bc
  have y:(s.f.map bR).length <=1073741824:=by rw[aH];omega
  simp only[dF,Al,w,Ze,aA,aS,aB,Zf,Bcy,Ds y,bM,eS,aH]
  rfl
 | n+1,i,h=>by
  have d:i<s.it.length:=by omega
  have B:=s.Q1
  have z:=Bf (i:=i) (by omega)
  have:=Abq s u e g j m o q r a b t n (i+1) (by omega)
  have c:fG 0 7 true true (.list (s.it.map cR)) (.int i) s.it[i].enc =some (.list (s.it.map cR)):=by
   rw[show(IV.list (s.it.map cR))=eR cR s.it from rfl,iD cR d,cS]
  rw[Ang]
  simp only[dF,Al,d,Zd,aA,aS,Zt,eV,aU,aT,aX,aI d,aJ,t _ (aF d),gF,Ww,dB,Sch.C0,c,eF,z,this]
theorem Az0: ∀s:Sch,s.Ap<=1048576->W Bcj 0 [s.enc]=some s.E2:=by
 refine Sch.ind λs a b d=>?_
 have e:=Abq s d (.int s.k) (.int s.mn) (.int s.mx) (.str s.key) (.int 0) (.int 0) (.int 0) (.str ⟨#[]⟩) (.list (s.en.map .str)) (λx g=>a x g (by have:=fB g;omega)) s.it.length 0 (by omega)
 have h:=Z6 s d (.int s.k) (.int s.mn) (.int s.mx) (.str s.key) (.int 0) (.int 0) (.int 0) (.str ⟨#[]⟩) (.list (s.en.map .str)) (.list (s.it.map cR)) (λp hp=>b p hp (by have:=gT hp;omega)) s.f.length 0 (by omega)
 rw[h]at e
 rw[A1e]
 have j:=s.Q1
 have m:=s.J8
 have i:(s.it.map cR).length <=1073741824:=by rw[aH];omega
 have c:(s.en.map IV.str).length <=1073741824:=by rw[aH];omega
 simp only[eH,hJ,hQ,hZ,eQ,dU,eY,aA,As9,Bee,Ds i,Ds c,bM,eS,aH]
 rw[gF]
 exact e
theorem A97 (s:Sch)(x:Stp)(w:s.Ap<=1048576)(i:SB s):W F179 0 [s.enc,x.enc]=some [((Sb s x).getD Bg).enc,.bool (Sb s x).isSome]:=by
 have a:=Acz s x.nm (by omega)
 have j:=Ak4 s
 rw[A3w]
 simp only[iB,iC,aA,bL,aS,j,bM,Aw,Am,dU,eQ,eH,dB]
 unfold Sb
 by_cases k1:x.k=1
 ·simp only[k1,Zd,Zt]
  by_cases c:s.k=5
  ·simp only[c,Zd,bO,Zt]
   cases b:s.it with
   | nil=>
    rw[b]at a
    simp only[c,bJ,and_self,Zd,bO,Zt]at a
    simp only[bJ,Nat.lt_irrefl,Ze,aB,Zf,a,fD,eO,aA]
    unfold D5
    rw[b]
    cases s.fld x.nm with
    | none=>rfl
    | some d=>rfl
   | cons t r=>
    simp[D5,b]
  ·have q: ¬ (s.k=5/\s.it.length=0):=λh=>c h.1
   simp only[q,Ze,Zf,cO]at a
   simp only[c,Ze,cO,aB,Zf,a,fD,eO,aA]
   rfl
 ·simp only[k1,Ze,aB,Zf]
  by_cases m:s.k=4
  ·obtain⟨t,u⟩:=bA.1 (i.list m)
   simp only[m,Zd,Zt,gD,gH,aA,aS,Aw,Am,u,aK,aN,eV,eC,dJ,cB,dR,Dj]
   by_cases k2:x.k=2
   ·simp[k2]
   ·by_cases e:x.k=3
    ·by_cases g:s.key=An
     ·simp[e,g];rfl
     ·by_cases o:s.key=x.nm
      ·simp[e,o]
       rw[o]at g
       simp[g]
      ·simp[e,g,o];rfl
    ·simp[k2,e];rfl
  ·simp only[m,Ze,aB,Zf]
   rfl
theorem An7 {s t:Sch}{x:Stp}(h:SB s)(a:Sb s x=some t):SB t:=by
 unfold Sb at a
 split at a
 ·split at a
  ·exact h.sub a
  ·cases a
 ·split at a
  ·split at a
   ·exact h.Iu (List.mem_of_mem_head? a)
   ·cases a
  ·cases a
def Bf9 (o:Option Sch):List IV:=(o.getD Bg).E2 ++ [.bool o.isSome]
theorem Awf (p:List Stp)(o:p.length<=1099511627776)(e g j m:IV): ∀ (n i:Nat) (s:Sch),i+n=p.length->s.Ap<=1048576->SB s->
  W F178 1 [.list (p.map bZ),.int p.length,.int i,s.enc,e,g,j,m]=some (Bf9 (atS s (p.drop i)))
 | 0,i,s,h,c,a=>by
  have q: ¬ i<p.length:=by omega
  rw[Apm,bF (by omega)]
  simp only[dF,Al,q,Ze,aA,aS,aB,Zf,Az0 s c,gF,Ww,atS,Bf9,aL,aZ]
  rfl
 | n+1,i,s,h,c,a=>by
  have d:i<p.length:=by omega
  have r:=Bf (i:=i) (by omega)
  rw[Apm,aC d]
  simp only[dF,Al,d,Zd,aA,aS,Zt,eV,aU,aT,aX,aI d,aJ,A97 s p[i] c a,fD,dN,atS,eF,r]
  cases b:Sb s p[i]with
  | none=>rfl
  | some t=>
   have:=Awf p o e g j m n (i+1) t (by omega) (by have:=Aad b;omega) (An7 a b)
   simp only[aZ,aP,aB,Zf,aL,this,aA]
def atV (s:Sch)(p:List Stp):Option Sch:=if s.valid&&Cy p then atS s p else none
theorem Bhb (s:Sch)(p:List Stp)(b:s.Ap<=1048576)(hp: ∀x∈p,x.fits)(c:p.length<=1099511627776):W F178 0 [s.enc,.list (p.map bZ)]=some (Bf9 (atV s p)):=by
 rw[A4o]
 unfold atV
 simp only[Pb s b,Sh p hp c,bM,dN,aA,aS,Aw,Am,eS,aH]
 cases a:s.valid with
 | false=>rfl
 | true=>
  cases Cy p with
  | false=>rfl
  | true=>
   have:=Awf p c (.int 0) (.int 0) (.int 0) (.str ⟨#[]⟩) p.length 0 s (by omega) b (eA a)
   simp only[aD,aG]at this
   simp only[aP,aB,Zf,this,cM,Zt]
theorem Apd (p:List Stp)(H:p.length<=1099511627776)(u w x y:IV): ∀ (n i:Nat) (s:Sch),i+n=p.length->s.Ap<=1048576->SB s->
  W Bgp 1 [.list (p.map bZ),.int i,s.enc,u,w,x,y]=some [((atS s (p.drop i)).getD Bg).enc,.bool (atS s (p.drop i)).isSome]
 | 0,i,s,h,I,b=>by
  have J: ¬ i<p.length:=by omega
  rw[Amt,bF (by omega)]
  simp only[eS,aH,dF,Al,J,Ze,aA,aS,aB,Zf,atS,aL,aZ]
 | n+1,i,s,h,I,b=>by
  have q:i<p.length:=by omega
  have K:=Bf (i:=i) (by omega)
  have z:=Y7 s p[i].nm (by omega)
  have next: ∀t,Sb s p[i]=some t->W Bgp 2 [.list (p.map bZ),.int i,t.enc,u,w,x,y]=some [((atS s (p.drop i)).getD Bg).enc,.bool (atS s (p.drop i)).isSome]:=by
   intro t a
   rw[A3h]
   simp only[eF,K,aA]
   rw[Apd p H u w x y n (i+1) t (by omega) (by have:=Aad a;omega) (An7 b a),aC q]
   simp only[atS,a,aA]
  have stop:Sb s p[i]=none->some [Bg.enc,IV.bool false]=some [((atS s (p.drop i)).getD Bg).enc,.bool (atS s (p.drop i)).isSome]:=by
   intro a
   rw[aC q]
   simp only[atS,a]
   rfl
  rw[Amt]
  simp only[eS,aH,dF,Al,q,Zd,aA,aS,Zt,eV,aU,aT,aX,aI q,aJ,iB,iC,z,fD,bL,eH,eQ,dU,Aw,Am,O.S1,eO,gD,gH,dB,Afr,Dj]
  unfold Sb at next stop
  by_cases k1:p[i].k =1
  ·simp only[k1,Zt]at next stop
   by_cases c:s.k=5
   ·simp only[c,Zt]at next stop
    cases e:s.it with
    | nil=>
     unfold D5 at next stop
     rw[e]at next stop
     cases F:s.fld p[i].nm with
     | none=>
      rw[F]at stop
      have:=stop rfl
      simp[k1,c]
      simpa using this
     | some d=>
      rw[F]at next
      have:=next d.s rfl
      simp[k1,c]
      exact this
    | cons t r=>
     have L:r= []:=by have:=b.one;rw[e]at this;simpa using this
     subst L
     unfold D5 at next
     rw[e]at next
     have:=next t rfl
     simp[k1,c]
     exact this
   ·simp only[c,Zf]at stop
    have:=stop trivial
    simp[k1,c]
    simpa using this
  ·simp only[k1,Zf]at next stop
   by_cases j:s.k=4
   ·obtain⟨t,G⟩:=bA.1 (b.list j)
    simp only[j,Zt,G,dR]at next stop
    have c: ¬ (4:Int)=5:=by omega
    simp only[k1,j,c,Ze,aB,Zf,Zd,Zt,G,aK,aN,eC,dJ,cB,aA]
    by_cases m:p[i].k =2\/(p[i].k =3/\s.key≠An/\s.key=p[i].nm)
    ·have:=next t (by rw[if_pos m])
     rcases m with k2 | ⟨g,o,A⟩
     ·simp only[k2,Zd,Zt];exact this
     ·have k2: ¬ p[i].k =2:=by omega
      have B:decide (s.key=An)=false:=by simpa using o
      have C:decide (s.key=p[i].nm)=true:=by simpa using A
      simp only[g,B,C,Zd,bE,Zt,ite_self];exact this
    ·have:=stop (by rw[if_neg m])
     have k2: ¬ p[i].k =2:=λh=>m (.inl h)
     simp only[k2,Ze,aB,Zf]
     by_cases g:p[i].k =3
     ·by_cases o:s.key=An
      ·simp only[g,o,Zd,aP,aB,Zf,Zt];exact this
      ·have A: ¬ s.key=p[i].nm :=λh=>m (.inr ⟨g,o,h⟩)
       simp only[g,o,A,Ze,Zd,bE,aB,Zf,Zt];exact this
     ·simp only[g,Ze,aB,Zf];exact this
   ·simp only[j,Zf]at stop
    have:=stop trivial
    simp only[k1,j,Ze,aB,Zf,ite_self]
    exact this
theorem Bc6 (s:Sch)(p:List Stp)(b:s.Ap<=1048576)(hp: ∀x∈p,x.fits)(c:p.length<=1099511627776):W Bgp 0 [s.enc,.list (p.map bZ)]=some [((atV s p).getD Bg).enc,.bool (atV s p).isSome]:=by
 rw[Az1]
 unfold atV
 simp only[Tu s b,Ll p hp c,bM,dN,aA,aS,Aw,Am,dB,Mu]
 cases a:s.valid with
 | false=>rfl
 | true=>
  cases Cy p with
  | false=>rfl
  | true=>
   have:=Apd p c (.int 0) (.int 0) (.int 0) (.str ⟨#[]⟩) p.length 0 s (by omega) b (eA a)
   simp only[aD,aG]at this
   simp only[aP,aB,Zf,this,cM,Zt]
end Go.CT.Sch
namespace Go.CT.Sch
open Go.Proofs
def Hs:List ByteArray->Bool
 | []=>true
 | [_]=>true
 | a::b::l=>blt a b&&Hs (b::l)
theorem prv {i:Nat}(h:i<4611686018427387904):O.sub .i64 (.int ((i+1:Nat):Int)) (.int 1)=some (.int (i:Nat)):=by
 rw[O.Co,wrap64 (by omega) (by omega)]
 congr 2
 omega
theorem Aqc (l:List ByteArray)(d:l.length<=1099511627776): ∀ (n i:Nat),i+1+n=l.length->W F121 1 [.list (l.map .str),.int ((i+1:Nat):Int)]=some [.bool (Hs (l.drop i))]
 | 0,i,h=>by
  have a:i<l.length:=by omega
  have hd:l.drop i= [l[i]]:=by
   rw[aC a,dZ (by omega)]
  have e:i+1=l.length:=by omega
  rw[Ab8,G5,hd]
  simp only[aA,e,ltn,aS,aB,Zf]
  rfl
 | n+1,i,h=>by
  have a:i<l.length:=by omega
  have b:i+1<l.length:=by omega
  have hd:l.drop i=l[i]::l[i+1]::l.drop (i+1+1):=by
   rw[aC a,aC b]
  have c:=Aqc l d n (i+1) (by omega)
  rw[aC b]at c
  rw[Ab8,G5,hd]
  simp only[aA,lti b,aS,Zt,prv (i:=i) (by omega),Kg _ a,Kg _ b,Ta,nxt (i:=i+1) (by omega),c,Hs]
  cases blt l[i] l[i+1]<;>simp
theorem A62 (l:List ByteArray)(b:l.length<=1099511627776):W F121 0 [.list (l.map .str)]=some [.bool (Hs l)]:=by
 rw[A1d]
 match l,b with
 | [],_=>rw[Ab8];rfl
 | a::l,b=>
  have:=Aqc (a::l) b l.length 0 (by simp[Nat.add_comm])
  simp only[dX,aG]at this
  exact this
def N8 (s:ByteArray):Bool:=decide (1<=s.size)&&decide (s.size<=40)
theorem Awq (s:ByteArray):W F120 0 [.str s]=some [.bool (N8 s)]:=by
 rw[Az5]
 have a:O.ge (.int (s.size:Int)) (.int 1)=some (.bool (decide (1<=s.size))):=by rw[O.Gt];congr 2;exact decide_eq_decide.2 (by omega)
 have b:O.le (.int (s.size:Int)) (.int 40)=some (.bool (decide (s.size<=40))):=by rw[O.E4];congr 2;exact decide_eq_decide.2 (by omega)
 simp only[iH,aA,a,aS,b,N8]
 cases decide (1<=s.size)<;>simp
theorem Be1 (s:ByteArray):W F41 0 [.str s]=some [.bool (N8 s)]:=by
 rw[Bbi]
 have a:O.ge (.int (s.size:Int)) (.int 1)=some (.bool (decide (1<=s.size))):=by rw[O.Gt];congr 2;exact decide_eq_decide.2 (by omega)
 have b:O.le (.int (s.size:Int)) (.int 40)=some (.bool (decide (s.size<=40))):=by rw[O.E4];congr 2;exact decide_eq_decide.2 (by omega)
 simp only[iH,aA,a,aS,b,N8]
 cases decide (1<=s.size)<;>simp
end Go.CT.Sch
namespace Go.CT.Sch
open Go.Proofs
def okM (m:Mgr):Bool:=N8 m.name&& !decide (m.paths.length=0)&&Hs m.paths
def Adx (l:List Mgr):Bool:=l.all okM&&(decide (l.length<=16)&&Hs (l.map Mgr.name))
theorem Aqv (m:Mgr):fW 0 m.enc=some (.str m.name):=rfl
theorem Arr (m:Mgr):fW 1 m.enc=some (.list (m.paths.map .str)):=rfl
theorem eq0 (n:Nat):O.eq (.int (n:Int)) (.int 0)=some (.bool (decide (n=0))):=by rw[bL];congr 2;exact decide_eq_decide.2 (by omega)
theorem Anj (l:List Mgr)(d:l.length<=1048576)(hp: ∀m∈l,m.paths.length<=1099511627776): ∀ (n i:Nat) (acc:List ByteArray),i+n=l.length->acc.length=i->
  W F119 1 [.list (l.map Mgr.enc),.list (l.map Mgr.enc),.int (l.length:Nat),.int (i:Nat),.list (acc.map .str)]=some [.bool ((l.drop i).all okM&&(decide (l.length<=16)&&Hs (acc++(l.drop i).map Mgr.name)))]
 | 0,i,acc,h,c=>by
  have a:i=l.length:=by omega
  subst a
  have e:O.le (.int (l.length:Int)) (.int 16)=some (.bool (decide (l.length<=16))):=by rw[O.E4];congr 2;exact decide_eq_decide.2 (by omega)
  rw[Al5]
  simp only[ltn,aA,aS,aB,Zf,G5,e,A62 acc (by omega),bM,aO,dE,bO,aN,aQ]
  cases decide (l.length<=16)<;>simp
 | n+1,i,acc,h,c=>by
  have a:i<l.length:=by omega
  have g:=Anj l d hp n (i+1) (acc++ [l[i].name]) (by omega) (by simp[c])
  have ap:=apm IV.str (n:=16) acc l[i].name (by omega)
  have b:=hp _ (aF a)
  rw[Al5,aC a]
  simp only[lti a,aA,aS,Zt,Kg _ a,Aqv,Arr,Awq,bM,dN,G5,eq0,A62 _ b,dP,ap,nxt (i:=i) (by omega),g,cW,okM,aK,bH,bC]
  cases N8 l[i].name<;>cases decide (l[i].paths.length =0)<;>cases Hs l[i].paths<;>simp
theorem A6j (l:List Mgr)(a:l.length<=1048576)(hp: ∀m∈l,m.paths.length<=1099511627776):W F119 0 [.list (l.map Mgr.enc)]=some [.bool (Adx l)]:=by
 have:=Anj l a hp l.length 0 [] (by omega) rfl
 simp only[aD,aG,bG,aN]at this
 rw[A4s,G5]
 exact this
theorem A7a (l:List Mgr)(i:Nat)(c:i<l.length)(g:l.length<=1048576)(hp:l[i].paths.length <=1099511627776): ∀ (n j:Nat),j+1+n=l[i].paths.length ->
  W F40 2 [.list (l.map Mgr.enc),.int (i:Nat),.int ((j+1:Nat):Int)]=if Hs (l[i].paths.drop j) then W F40 1 [.list (l.map Mgr.enc),.int ((i+1:Nat):Int)]else some [.bool false]
 | 0,j,h=>by
  have a:j<l[i].paths.length :=by omega
  have hd:l[i].paths.drop j= [l[i].paths[j]]:=by
   rw[aC a,dZ (by omega)]
  have m:j+1=l[i].paths.length :=by omega
  rw[Awx,hd]
  simp only[Kg _ c,aA,Arr,G5,m,ltn,aS,aB,Zf,nxt (i:=i) (by omega),Hs,Zt]
 | n+1,j,h=>by
  have a:j<l[i].paths.length :=by omega
  have b:j+1<l[i].paths.length :=by omega
  have hd:l[i].paths.drop j=l[i].paths[j]::l[i].paths[j+1]::l[i].paths.drop (j+1+1):=by
   rw[aC a,aC b]
  have d:=A7a l i c g hp n (j+1) (by omega)
  rw[aC b]at d
  rw[Awx,hd]
  simp only[Kg _ c,aA,Arr,G5,lti b,aS,Zt,prv (i:=j) (by omega),Kg _ a,Kg _ b,Ta,nxt (i:=j+1) (by omega),d,Hs]
  by_cases e:blt l[i].paths[j] l[i].paths[j+1]=true
  ·simp[e,Hs]
  ·simp[e]
theorem A6t (l:List Mgr)(j:l.length<=1048576)(hp: ∀m∈l,m.paths.length<=1099511627776): ∀ (n i:Nat),i+n=l.length->
  W F40 1 [.list (l.map Mgr.enc),.int (i:Nat)]=some [.bool ((l.drop i).all okM&&Hs ((l.drop (i - 1)).map Mgr.name))]
 | 0,i,h=>by
  have b:i=l.length:=by omega
  subst b
  have q:Hs ((l.drop (l.length - 1)).map Mgr.name)=true:=by
   by_cases a:l.length=0
   ·rw[cC.1 a];rfl
   ·rw[aC (by omega),dZ (by omega)];rfl
  rw[Av9]
  simp only[G5,ltn,aA,aS,aB,Zf,q,aO,dE,bO]
 | n+1,i,h=>by
  have b:i<l.length:=by omega
  have r:=A6t l j hp n (i+1) (by omega)
  have c:=hp _ (aF b)
  have d:l[i].paths.length ≠0->W F40 2 [.list (l.map Mgr.enc),.int (i:Nat),.int 1]=if Hs l[i].paths then some [.bool ((l.drop (i+1)).all okM&&Hs ((l.drop i).map Mgr.name))]else some [.bool false]:=by
   intro a
   have:=A7a l i b j c (l[i].paths.length - 1) 0 (by omega)
   rw[r]at this
   simpa only[dX,fX,aG,aD]using this
  rw[Av9,aC b]
  simp only[G5,lti b,aA,aS,Zt,Kg _ b,Aqv,Arr,Be1,bM,dN,eq0,cW,okM]
  cases i with
  | zero=>
   have g:gX (.int ((0:Nat):Int)) (.int 0)=some (.bool false):=rfl
   simp only[g,aA,aS,aB,Zf]
   rw[show l.drop (0 - 1)=l.drop 0 from rfl]
   cases N8 l[0].name
   ·simp
   ·by_cases a:l[0].paths.length =0
    ·simp[a]
    ·simp only[a,Ze,d a]
     cases Hs l[0].paths<;>simp
  | succ k=>
   have o:k<l.length:=by omega
   have g:gX (.int ((k+1:Nat):Int)) (.int 0)=some (.bool true):=by rw[gC];congr 2;exact decide_eq_true (by omega)
   have hd:(l.drop (k+1 - 1)).map Mgr.name=l[k].name ::(l.drop (k+1)).map Mgr.name:=by
    rw[fX,aC o,aK]
   have e:(l.drop (k+1)).map Mgr.name=l[k+1].name ::(l.drop (k+1+1)).map Mgr.name:=by
    rw[aC b,aK]
   simp only[g,aA,aS,Zt,prv (i:=k) (by omega),Kg _ o,Aqv,Ta,hd]
   rw[e]at d ⊢
   simp only[Hs]
   cases N8 l[k+1].name
   ·simp
   ·cases blt l[k].name l[k+1].name
    ·simp
    ·by_cases a:l[k+1].paths.length =0
     ·simp[a]
     ·simp only[a,Ze,d a]
      cases Hs l[k+1].paths<;>simp
theorem Bhm (l:List Mgr)(a:l.length<=1048576)(hp: ∀m∈l,m.paths.length<=1099511627776):W F40 0 [.list (l.map Mgr.enc)]=some [.bool (Adx l)]:=by
 have:=A6t l a hp l.length 0 (by omega)
 simp only[aD,aG,Nat.zero_sub]at this
 have g:gX (.int (l.length:Int)) (.int 16)=some (.bool (!decide (l.length<=16))):=by
  rw[gC];congr 2
  by_cases h:l.length<=16
  ·simp only[h,Zd,aP];exact decide_eq_false (by omega)
  ·simp only[h,Ze,bE];exact decide_eq_true (by omega)
 rw[Bbm,G5]
 simp only[aA,g,aS,this,Adx]
 cases decide (l.length<=16)<;>simp
end Go.CT.Sch
namespace Go.CT.Sch
open Go.Proofs
theorem Ap7 (s:Sch)(v:Val)(a:v.Ap<=1048576):W F125 0 [s.enc,v.enc]=some [.str (Dr v s.key),.bool (isKey v s.key)]:=by
 rw[Az3]
 unfold Dr isKey
 simp only[eQ,Z8 v s.key (by omega),Ix,I8,aS,bL,aA,Aw,Am]
 cases(v.get s.key).isSome<;>simp
def E9 (s:Sch):Bool:=decide (s.k=4)&& !decide (s.key=An)
theorem Ac9 (s:Sch):W F126 0 [s.enc]=some [.bool (E9 s)]:=by
 rw[A5o]
 simp only[eH,eQ,aA,bL,gD,aS,Aw,Am,E9]
 by_cases h:s.k=4<;>simp[h,An]
 all_goals rfl
theorem Z3 (s:Sch)(nm:ByteArray)(g:s.Ap<=1048576)(a b c d:IV): ∀ (n i:Nat),i+n=s.f.length->
  W F127 1 [.str nm,.list (s.f.map bR),.int (s.f.length:Nat),.int (i:Nat),a,b,c,d]=some [oE (((s.f.drop i).find? λp=>decide (p.nm=nm)).map (·.s)),.bool ((s.f.drop i).find? λp=>decide (p.nm=nm)).isSome]
 | 0,i,h=>by
  have e:i=s.f.length:=by omega
  subst e
  rw[Am1,aO]
  simp only[ltn,aA,aS,aB,Zf]
  rfl
 | n+1,i,h=>by
  have e:i<s.f.length:=by omega
  have m:s.f.length<=1048576:=by have:=s.Bc;omega
  have j:=Z3 s nm g a b c d n (i+1) (by omega)
  rw[Am1,aC e,bW]
  simp only[lti e,aA,aS,Zt,Kg bR e,gU,gH,eO,nxt (show i<4611686018427387904 by omega),j]
  by_cases c:s.f[i].nm =nm
  ·simp[c,oE]
  ·have c':decide (s.f[i].nm =nm)=false:=by simpa using c
   simp only[c',aB,Zf]
theorem Apz (s:Sch)(nm:ByteArray)(d:s.Ap<=1048576)(a:SB s):W F127 0 [s.enc,.str nm]=some [oE (D5 s nm),.bool (D5 s nm).isSome]:=by
 have b:=a.one
 have:=Z3 s nm d (.int 0) (.int 0) (.int 0) (.str ⟨#[]⟩) s.f.length 0 (by omega)
 simp only[aG,aD]at this
 rw[A48]
 simp only[dU,eY,aA,G5,bL,aS]
 unfold D5
 cases c:s.it with
 | nil=>
  have e:decide (((([]:List Sch).length :Nat):Int)=1)=false:=by decide
  simp only[e,aB,Zf,Option.isSome_map]
  exact this
 | cons t ts=>
  have g:ts= []:=by rw[c]at b;simp at b;exact b
  subst g
  simp[oE]
end Go.CT.Sch
namespace Go.CT.Sch
open Go.Proofs
theorem Alb {s t:Sch}{nm:ByteArray}(h:D5 s nm=some t):t.Ap<s.Ap:=by
 rcases Ml h with h | ⟨p,hp,_,rfl⟩
 ·exact fB h
 ·have:=gT hp;omega
def Akk (s:Sch)(x:Val):Bool:= !E9 s||isKey x s.key
def kyB:Nat->Sch->Val->Bool
 | 0,_,_=>true
 | d+1,s,v=>if s.k=v.k then(v.l.all λx=>Akk s x&&((s.it.head?).map λt=>kyB d t x).getD true)&&(v.f.all λp=>((D5 s p.1).map λt=>kyB d t p.2).getD true) else true
def KyP (d:Nat):Prop:= ∀ (v:Val) (s:Sch),v.size<=d->v.Ap<=1048576->s.Ap<=1048576->SB s->W Bf0 0 [s.enc,v.enc]=some [.bool (kyB d s v)]
theorem Atc (d:Nat)(e:KyP d)(v:Val)(s:Sch)(hd:v.size<=d+1)(m:v.Ap<=1048576)(g:s.Ap<=1048576)(c:SB s): ∀ (n i:Nat),i+n=v.f.length->
  W Bf0 2 [.list (v.f.map aY),.int (v.f.length:Nat),.int (i:Nat),s.enc]=some [.bool ((v.f.drop i).all λp=>((D5 s p.1).map λt=>kyB d t p.2).getD true)]
 | 0,i,h=>by
  have:i=v.f.length:=by omega
  subst this
  rw[Ann,aO]
  simp only[ltn,aA,aS,aB,Zf,dE]
 | n+1,i,h=>by
  have b:i<v.f.length:=by omega
  have o:=v.Bc
  have j:=aF b
  have u:=fS j
  have w:=gN j
  have r:=Atc d e v s hd m g c n (i+1) (by omega)
  rw[Ann,aC b,cW]
  simp only[lti b,aA,aS,Zt,Kg aY b,gE,Apz s _ g c,fD,fU,nxt (show i<4611686018427387904 by omega),r]
  cases a:D5 s v.f[i].1 with
  | none=>simp
  | some t=>
   have:=Alb a
   have q:=e v.f[i].2 t (by omega) (by omega) (by omega) (c.sub a)
   simp only[aZ,Zt,oE,aL,q,bM,dN,aA,aJ,aS]
   cases kyB d t v.f[i].2<;>simp
theorem Ayv (d:Nat)(e:KyP d)(v:Val)(s:Sch)(hd:v.size<=d+1)(g:v.Ap<=1048576)(j:s.Ap<=1048576)(b:SB s): ∀ (n i:Nat),i+n=v.l.length->
  W Bf0 1 [.list (v.l.map bI),.int (v.l.length:Nat),.int (i:Nat),s.enc,v.enc]=some [.bool (((v.l.drop i).all λx=>Akk s x&&((s.it.head?).map λt=>kyB d t x).getD true)&&(v.f.all λp=>((D5 s p.1).map λt=>kyB d t p.2).getD true))]
 | 0,i,h=>by
  have:i=v.l.length:=by omega
  subst this
  have q:=Atc d e v s hd g j b v.f.length 0 (by omega)
  simp only[aD,aG]at q
  rw[Amc,aO]
  simp only[ltn,aA,aS,aB,Zf,dE,cT,G5,q,bO]
 | n+1,i,h=>by
  have c:i<v.l.length:=by omega
  have y:=v.B5
  have m:=aF c
  have z:=eG m
  have A:=gO m
  have r:=Ayv d e v s hd g j b n (i+1) (by omega)
  have one:=b.one
  rw[Amc,aC c,cW]
  simp only[lti c,aA,aS,Zt,Kg bI c,Ap7 s _ (show v.l[i].Ap <=1048576 by omega),fD,Ac9,bM,dN,dU,G5,bL,nxt (show i<4611686018427387904 by omega),r,Akk]
  cases a:s.it with
  | nil=>
   cases E9 s<;>cases isKey v.l[i] s.key<;>simp
  | cons t ts=>
   have u:ts= []:=by rw[a]at one;simp at one;exact one
   subst u
   have o:t∈s.it:=by rw[a];exact bT.2 rfl
   have:=fB o
   have q:=e v.l[i] t (by omega) (by omega) (by omega) (b.Iu o)
   have ix:gM (.list ([t].map cR)) (.int 0)=some t.enc:=rfl
   have w:decide ((([t].length :Nat):Int)=1)=true:=rfl
   simp only[w,Zt,ix,aA,q,bM,dN,dR,aJ,aL]
   cases E9 s<;>cases isKey v.l[i] s.key<;>cases kyB d t v.l[i]<;>simp
theorem Bdv: ∀d,KyP d
 | 0=>λv _ h=>by have:=v.size_pos;omega
 | d+1=>λv s hd a b c=>by
  have q:=Ayv d (Bdv d) v s hd a b c v.l.length 0 (by omega)
  simp only[aD,aG]at q
  rw[Azl]
  simp only[eH,cX,aA,eL,aS,cN,G5,q,kyB]
  by_cases h:s.k=v.k<;>simp[h]
end Go.CT.Sch
namespace Go.CT.Sch
open Go.Proofs
inductive VT:Val->Prop
 | mk (v:Val):(v.k≠4->v.l= [])->(v.k≠5->v.f= [])->(∀x∈v.l,VT x)->(∀p∈v.f,VT p.2)->VT v
theorem VT.nol {v:Val}(h:VT v):v.k≠4->v.l= []:=by cases h;assumption
theorem VT.nof {v:Val}(h:VT v):v.k≠5->v.f= []:=by cases h;assumption
theorem VT.Lh {v x:Val}(h:VT v)(a:x∈v.l):VT x:=by cases h with | mk _ c d b e=>exact b x a
theorem VT.J9 {v:Val}{p:ByteArray × Val}(h:VT v)(a:p∈v.f):VT p.2:=by cases h with | mk _ c d e b=>exact b p a
theorem Aa2 (s:Sch)(nm:ByteArray)(a b c d:IV): ∀ (n i:Nat),i+n=s.f.length->s.Ap<=1048576->
  W F39 1 [.str nm,.int (i:Nat),s.enc,a,b,c,d]=some [oE (((s.f.drop i).find? λp=>decide (p.nm=nm)).map (·.s))]
 | 0,i,h,g=>by
  have e:i=s.f.length:=by omega
  subst e
  rw[Axr,aO]
  simp only[eY,G5,ltn,aA,aS,aB,Zf]
  rfl
 | n+1,i,h,g=>by
  have e:i<s.f.length:=by omega
  have m:=s.Bc
  have j:=Aa2 s nm a b c d n (i+1) (by omega) g
  rw[Axr,aC e,bW]
  simp only[eY,G5,lti e,aA,aS,Zt,Kg bR e,gU,gH,eO,nxt (show i<4611686018427387904 by omega),j]
  by_cases c:s.f[i].nm =nm
  ·simp[c,oE]
  ·have c':decide (s.f[i].nm =nm)=false:=by simpa using c
   simp only[c',aB,Zf]
theorem A07 (s:Sch)(nm:ByteArray)(b:s.Ap<=1048576):W F39 0 [s.enc,.str nm]=some [oE (D5 s nm)]:=by
 have:=Aa2 s nm (.int 0) (.int 0) (.int 0) (.str ⟨#[]⟩) s.f.length 0 (by omega) b
 simp only[aG,aD]at this
 rw[Ba1]
 simp only[dU,aA,G5,gC,aS]
 unfold D5
 cases c:s.it with
 | nil=>
  have a:decide ((0:Int)<((([]:List Sch).length :Nat):Int))=false:=by decide
  simp only[a,aB,Zf]
  exact this
 | cons t ts=>
  have a:decide ((0:Int)<((((t::ts):List Sch).length :Nat):Int))=true:=decide_eq_true (by simp only[bX];omega)
  simp only[a,Zt]
  rfl
def KyR (d:Nat):Prop:= ∀ (v:Val) (s:Sch),v.size<=d->v.Ap<=1048576->s.Ap<=1048576->SB s->VT v->W F38 0 [s.enc,v.enc]=some [.bool (kyB d s v)]
theorem Arh (v:Val)(a:VT v):W F38 0 [Bg.enc,v.enc]=some [.bool true]:=by
 rw[Avq]
 simp only[eH,cX,aA,eL,aS]
 by_cases h:Bg.k=v.k
 ·have d:v.k=0:=h.symm
  have b:=a.nol (by omega)
  have c:=a.nof (by omega)
  simp only[h,Zd,aP,aB,Zf]
  rw[Ake]
  simp only[cN,b,aA]
  rw[Ajq]
  simp only[cT,c]
  rfl
 ·simp[h]
theorem Ayj (d:Nat)(e:KyR d)(v:Val)(s:Sch)(hd:v.size<=d+1)(u:v.Ap<=1048576)(g:s.Ap<=1048576)(j:SB s)(m:VT v): ∀ (n i:Nat),i+n=v.f.length->
  W F38 2 [.int (i:Nat),s.enc,v.enc]=some [.bool ((v.f.drop i).all λp=>((D5 s p.1).map λt=>kyB d t p.2).getD true)]
 | 0,i,h=>by
  have:i=v.f.length:=by omega
  subst this
  rw[Ajq,aO]
  simp only[cT,G5,ltn,aA,aS,aB,Zf,dE]
 | n+1,i,h=>by
  have b:i<v.f.length:=by omega
  have w:=v.Bc
  have c:=aF b
  have x:=fS c
  have y:=gN c
  have o:=m.J9 c
  have r:=Ayj d e v s hd u g j m n (i+1) (by omega)
  rw[Ajq,aC b,cW]
  simp only[cT,G5,lti b,aA,aS,Zt,Kg aY b,gE,A07 s _ g,bM,fU,nxt (show i<4611686018427387904 by omega),r]
  cases a:D5 s v.f[i].1 with
  | none=>
   simp only[oE,cZ,Arh _ o,bM,dN,aA,aS,cV]
   simp
  | some t=>
   have:=Alb a
   have q:=e v.f[i].2 t (by omega) (by omega) (by omega) (j.sub a) o
   simp only[oE,aL,q,bM,dN,aA,aJ,aS]
   cases kyB d t v.f[i].2<;>simp
theorem Av1 (d:Nat)(o:KyR d)(v:Val)(s:Sch)(hd:v.size<=d+1)(w:v.Ap<=1048576)(y:s.Ap<=1048576)(j:SB s)(m:VT v)(z:s.k=v.k): ∀ (n i:Nat),i+n=v.l.length->
  W F38 1 [.int (i:Nat),s.enc,v.enc]=some [.bool (((v.l.drop i).all λx=>Akk s x&&((s.it.head?).map λt=>kyB d t x).getD true)&&(v.f.all λp=>((D5 s p.1).map λt=>kyB d t p.2).getD true))]
 | 0,i,h=>by
  have:i=v.l.length:=by omega
  subst this
  have q:=Ayj d o v s hd w y j m v.f.length 0 (by omega)
  simp only[aD,aG]at q
  rw[Ake,aO]
  simp only[cN,G5,ltn,aA,aS,aB,Zf,dE,q,bO]
 | n+1,i,h=>by
  have b:i<v.l.length:=by omega
  have F:=v.B5
  have u:=aF b
  have G:=eG u
  have H:=gO u
  have B:=m.Lh u
  have r:=Av1 d o v s hd w y j m z n (i+1) (by omega)
  have A:s.k=4:=by
   rw[z]
   by_cases c:v.k=4
   ·exact c
   ·rw[m.nol c]at b;simp at b
  have one:=j.list A
  obtain⟨t,e⟩: ∃t,s.it= [t]:=bA.1 one
  have g:t∈s.it:=by rw[e];exact bT.2 rfl
  have:=fB g
  have q:=o v.l[i] t (by omega) (by omega) (by omega) (j.Iu g) B
  have ix:gM (.list ([t].map cR)) (.int 0)=some t.enc:=rfl
  rw[Ake,aC b,cW]
  simp only[cN,G5,lti b,aA,aS,Zt,Kg bI b,eQ,Rn _ _ (show v.l[i].Ap <=1048576 by omega),fD,gD,bM,dN,dU,e,ix,q,nxt (show i<4611686018427387904 by omega),r,Akk,E9,A,Ha,Zd,bO,dR,aJ,aL]
  by_cases a:s.key=An
  ·have:s.key=(⟨#[]⟩:ByteArray):=a
   simp only[a,this,Zd]
   have C:An=(⟨#[]⟩:ByteArray):=rfl
   cases isKey v.l[i] An<;>cases kyB d t v.l[i]<;>simp[C]
  ·have: ¬ s.key=(⟨#[]⟩:ByteArray):=a
   simp only[a,this,Ze]
   cases isKey v.l[i] s.key<;>cases kyB d t v.l[i]<;>simp
theorem Beb: ∀d,KyR d
 | 0=>λv _ h=>by have:=v.size_pos;omega
 | d+1=>λv s hd a b c e=>by
  rw[Avq]
  simp only[eH,cX,aA,eL,aS,kyB]
  by_cases h:s.k=v.k
  ·have q:=Av1 d (Beb d) v s hd a b c e h v.l.length 0 (by omega)
   simp only[aD,aG]at q
   simp only[q,h,Zd,aP,aB,Zf,Zt]
  ·simp[h]
theorem Adh: ∀ (n:Nat) (v:Val),v.size<=n->v.valid=true->VT v
 | 0,v,h,_=>by have:=v.size_pos;omega
 | n+1,v,h,a=>by
  refine .mk v (λb=>W1 a b) (λb=>S0 a b) (λx c=>?_) λp hp=>?_
  ·have:=gO c
   exact Adh n x (by omega) (Gx a c)
  ·have:=gN hp
   exact Adh n p.2 (by omega) (Gj a hp).1
end Go.CT.Sch
namespace Go.CT.Sch
open Go.Proofs
def Zm:IV->Bool
 | .agg [_,.int c]=>decide (c=7)
 | _=>false
def Np (s:Sch)(v:Val):Bool:=s.valid&&(v.valid&&(decide (v.k=5)&&((Ji v s []).all Zm&&kyB v.size s v)))
theorem idxr {e:List IV}{i:Nat}(h:i<e.length):gM (.list e) (.int i)=some e[i]:=by
 have:=Kg (λx:IV=>x) h
 simpa only[List.map_id']using this
theorem Ayu (s:Sch)(v:Val)(e:List IV)(m:e.length<=2199025352704)(d: ∀x∈e,Avm x)(r:Bool)(g:W Bf0 0 [s.enc,v.enc]=some [.bool r]): ∀ (n i:Nat),i+n=e.length->
  W F122 1 [.int (e.length:Nat),.int (i:Nat),s.enc,v.enc,.list e]=some [.bool ((e.drop i).all Zm&&(decide (v.k=5)&&r))]
 | 0,i,h=>by
  have:i=e.length:=by omega
  subst this
  rw[Vm,aO]
  simp only[ltn,aA,aS,aB,Zf,cX,bL,g,bM,dE,bO]
  cases decide (v.k=5)<;>simp
 | n+1,i,h=>by
  have c:i<e.length:=by omega
  have o:=Ayu s v e m d r g n (i+1) (by omega)
  obtain⟨a,b,j⟩:=d _ (aF c)
  have q:fW 1 e[i]=some (.int b):=by rw[j];rfl
  have t:Zm e[i]=decide (b=7):=by rw[j];rfl
  rw[Vm,aC c,cW,t]
  simp only[lti c,aA,aS,Zt,idxr c,q,eL,nxt (show i<4611686018427387904 by omega),o]
  cases decide (b=7)<;>simp
theorem A27 (s:Sch)(v:Val)(b:s.Ap<=1048576)(c:v.Ap<=1048576):W F122 0 [s.enc,v.enc]=some [.bool (Np s v)]:=by
 rw[A4n,A0t s v b c]
 simp only[bM,eS,aA]
 unfold chk Np
 by_cases a:s.valid=true
 ·by_cases d:v.valid=true
  ·have e:SB s:=G4 _ s a
   have g:=Bdv v.size v s (aR _) c b e
   have:=Ayu s v (Ji v s []) (Agb e b c) (Av6 v s []) _ g (Ji v s []).length 0 (by omega)
   simp only[aD,aG]at this
   simp only[a,d,cM,Zt,this,bO]
   cases decide (v.k=5)<;>cases(Ji v s []).all Zm<;>simp
  ·simp only[a,d,dL,aB,Zf,cO]
   rw[Vm];rfl
 ·simp only[a,cO,aB,Zf]
  rw[Vm];rfl
theorem Avi (s:Sch)(v:Val)(e:List IV)(m:e.length<=2199025352704)(d: ∀x∈e,Avm x)(r:Bool)(g:W F38 0 [s.enc,v.enc]=some [.bool r]): ∀ (n i:Nat),i+n=e.length->
  W F5 1 [.int (i:Nat),s.enc,v.enc,.list e]=some [.bool ((e.drop i).all Zm&&r)]
 | 0,i,h=>by
  have:i=e.length:=by omega
  subst this
  rw[A69,aO]
  simp only[eS,ltn,aA,aS,aB,Zf,g,bM,dE,bO]
 | n+1,i,h=>by
  have c:i<e.length:=by omega
  have o:=Avi s v e m d r g n (i+1) (by omega)
  obtain⟨a,b,j⟩:=d _ (aF c)
  have q:fW 1 e[i]=some (.int b):=by rw[j];rfl
  have t:Zm e[i]=decide (b=7):=by rw[j];rfl
  rw[A69,aC c,cW,t]
  simp only[eS,lti c,aA,aS,Zt,idxr c,q,eL,nxt (show i<4611686018427387904 by omega),o]
  cases decide (b=7)<;>simp
theorem Bel (s:Sch)(v:Val)(a:s.Ap<=1048576)(c:v.Ap<=1048576):W F5 0 [s.enc,v.enc]=some [.bool (Np s v)]:=by
 rw[Bcz]
 simp only[cX,eL,aA,aS,Tu s a,Za v (by omega),Ata s v a c,bM,dN,Aw,Am]
 unfold chk Np
 by_cases b:s.valid=true
 ·by_cases d:v.valid=true
  ·have g:SB s:=G4 _ s b
   have h:=Beb v.size v s (aR _) c a g (Adh _ v (aR _) d)
   have:=Avi s v (Ji v s []) (Agb g a c) (Av6 v s []) _ h (Ji v s []).length 0 (by omega)
   simp only[aD,aG]at this
   simp only[b,d,cM,Zt,this,bO]
   cases decide (v.k=5)<;>simp
  ·by_cases e:v.k=5<;>simp[b,d,e]
 ·by_cases e:v.k=5<;>simp[b,e]
end Go.CT.Sch
namespace Go.CT.Sch
open Go.Proofs
def Hq (l:List Mgr)(nm:ByteArray):List ByteArray:=((l.find? λm=>decide (m.name=nm)).map Mgr.paths).getD []
theorem Bag (m:Mgr):fW 1 m.enc=some (SL m.paths):=rfl
theorem Amq (l:List Mgr)(nm:ByteArray)(d:l.length<=1048576)(hp: ∀m∈l,m.paths≠ []): ∀ (n i:Nat),i+n=l.length->
  W F184 1 [.str nm,.list (l.map Mgr.enc),.int (l.length:Nat),.int (i:Nat)]=some [SL (Hq (l.drop i) nm)]
 | 0,i,h=>by
  have:i=l.length:=by omega
  subst this
  rw[Ams,aO]
  simp only[ltn,aA,aS,aB,Zf]
  rfl
 | n+1,i,h=>by
  have a:i<l.length:=by omega
  have b:=Amq l nm d hp n (i+1) (by omega)
  have e:0<l[i].paths.length :=dO.2 (hp _ (aF a))
  have ix:=Kg IV.str e
  simp only[aD]at ix
  unfold Hq at b ⊢
  rw[Ams,aC a,bW]
  simp only[lti a,aA,aS,Zt,Kg Mgr.enc a,Aqv,Arr,gH,ix,nxt (show i<4611686018427387904 by omega),b]
  by_cases c:l[i].name =nm
  ·simp only[c,Zd,Zt,aJ,aL];rfl
  ·have c':decide (l[i].name =nm)=false:=by simpa using c
   simp only[c',aB,Zf]
theorem A67 (l:List Mgr)(nm:ByteArray)(a:l.length<=1048576)(hp: ∀m∈l,m.paths≠ []):W F184 0 [.list (l.map Mgr.enc),.str nm]=some [SL (Hq l nm)]:=by
 have:=Amq l nm a hp l.length 0 (by omega)
 simp only[aD,aG]at this
 rw[A0p,G5]
 exact this
def Aza (nm:ByteArray):List Mgr->List ByteArray->List ByteArray
 | [],a=>a
 | m::l,a=>Aza nm l (if m.name=nm then a else Zw (a++m.paths))
def Ad3:List Mgr->Nat
 | []=>0
 | m::l=>m.paths.length+Ad3 l
theorem Wh (l:List Mgr)(nm:ByteArray)(d:l.length<=1048576): ∀ (n i:Nat) (a:List ByteArray),i+n=l.length->a.length+Ad3 (l.drop i)<=1048576->
  W F185 1 [.str nm,.list (l.map Mgr.enc),.int (l.length:Nat),.int (i:Nat),SL a]=some [SL (Aza nm (l.drop i) a)]
 | 0,i,a,h,e=>by
  have:i=l.length:=by omega
  subst this
  rw[Anf,aO]
  simp only[ltn,aA,aS,aB,Zf,Aza]
 | n+1,i,a,h,e=>by
  have b:i<l.length:=by omega
  rw[aC b,Ad3]at e
  have g:=Nf (a++l[i].paths)
  rw[aM]at g
  have i1:=Wh l nm d n (i+1) a (by omega) (by omega)
  have i2:=Wh l nm d n (i+1) (Zw (a++l[i].paths)) (by omega) (by omega)
  rw[Anf,aC b,Aza]
  simp only[lti b,aA,aS,Zt,Kg Mgr.enc b,Aqv,Bag,gD,A55 a _ (by omega) (show l[i].paths.length <=1048576 by omega),bM]
  rw[Alu,Alu]
  simp only[nxt (show i<4611686018427387904 by omega),aA,i1,i2]
  by_cases c:l[i].name =nm<;>simp[c]
theorem Bbr (l:List Mgr)(nm:ByteArray)(a:l.length<=1048576)(b:Ad3 l<=1048576):W F185 0 [.list (l.map Mgr.enc),.str nm]=some [SL (Aza nm l [])]:=by
 have:=Wh l nm a l.length 0 [] (by omega) (by simpa using b)
 simp only[aD,aG]at this
 rw[Azg,G5]
 exact this
end Go.CT.Sch
namespace Go.CT.Sch
open Go.Proofs
def Az (s:Sch)(v:Val):List ByteArray:=(Jt s v).filter λx=> !decide (x=An)
theorem Abu (s:Sch)(v:Val):SS (Jt s v):=by
 unfold Jt
 split
 ·exact Av7 _
 ·exact bQ
theorem Avs {l:List ByteArray}(h:SS l):Zw l=l:=SS.ext (Av7 l) h λ_=>Ve
theorem Adj (s:Sch)(v:Val):Hg (Jt s v) [An]=Az s v:=by
 unfold Hg Az
 rw[Avs (Abu s v)]
 congr 1
 funext x
 simp[inB]
theorem R6 (s:Sch)(v:Val)(a:s.Ap<=1048576)(b:v.Ap<=1048576):W F133 0 [s.enc,v.enc]=some [SL (Az s v)]:=by
 have c:=Wb s v
 have d:=v.G7
 have e:(IV.list [.str ⟨#[]⟩])=SL [An]:=rfl
 rw[A2x,Avf s v a b]
 simp only[bM,dP,aA,e,Agm (Jt s v) [An] (by omega) (by decide),Adj]
end Go.CT.Sch
namespace Go.CT.Sch
open Go.Proofs
def Hl (p:ByteArray)(l:List Mgr):List ByteArray:=(l.filter λm=>inB m.paths p).map Mgr.name
theorem Bgb (l:List ByteArray)(x:ByteArray):(l.any λe=>decide (e=x))=inB l x:=by
 unfold inB
 congr 1
 funext e
 exact decide_eq_decide.2 eq_comm
theorem Xl (l:List Mgr)(p:ByteArray)(c:l.length<=1048576)(hp: ∀m∈l,m.paths.length<=1048576): ∀ (n i:Nat) (a:List ByteArray),i+n=l.length->a.length<=i->
  W Bge 1 [.str p,.list (l.map Mgr.enc),.int (l.length:Nat),.int (i:Nat),SL a]=some [SL (a++Hl p (l.drop i))]
 | 0,i,a,h,d=>by
  have:i=l.length:=by omega
  subst this
  rw[Apx,aO]
  simp only[ltn,aA,aS,aB,Zf,Hl,cE,aN,aQ]
 | n+1,i,a,h,d=>by
  have b:i<l.length:=by omega
  have e:=hp _ (aF b)
  have i1:=Xl l p c hp n (i+1) a (by omega) (by omega)
  have i2:=Xl l p c hp n (i+1) (a++ [l[i].name]) (by omega) (by simp;omega)
  have ap:eD 16 (SL a) (.list [.str l[i].name])=some (SL (a++ [l[i].name])):=apm IV.str a l[i].name (by omega)
  unfold Hl at i1 i2 ⊢
  rw[Apx,aC b,aW]
  simp only[lti b,aA,aS,Zt,Kg Mgr.enc b,Aqv,Arr,Mx _ p (show l[i].paths.length <=1099511627776 by omega),Bgb,bM,dP,ap]
  rw[Ant,Ant]
  simp only[nxt (show i<4611686018427387904 by omega),aA,i1,i2]
  cases inB l[i].paths p<;>simp
theorem Ale (l:List Mgr)(p:ByteArray)(a:l.length<=1048576)(hp: ∀m∈l,m.paths.length<=1048576):W Bge 0 [.list (l.map Mgr.enc),.str p]=some [SL (Hl p l)]:=by
 have:=Xl l p a hp l.length 0 [] (by omega) (by simp)
 simp only[aD,aG,bG]at this
 rw[A3m,G5]
 exact this
end Go.CT.Sch
namespace Go.CT.Sch
open Go.Proofs
def I9 (l:List Mgr):List Mgr:=l.filter λm=>decide (0<m.paths.length)
theorem Xn (l:List Mgr)(c:l.length<=1048576)(hp: ∀m∈l,m.paths.length<=1048576): ∀ (n i:Nat) (a:List Mgr),i+n=l.length->a.length<=i->
  W Bg2 1 [.list (l.map Mgr.enc),.int (l.length:Nat),.int (i:Nat),.list (a.map Mgr.enc)]=some [.list ((a++I9 (l.drop i)).map Mgr.enc)]
 | 0,i,a,h,d=>by
  have:i=l.length:=by omega
  subst this
  rw[Als,aO]
  simp only[ltn,aA,aS,aB,Zf,I9,cE,aQ]
 | n+1,i,a,h,d=>by
  have b:i<l.length:=by omega
  have e:=hp _ (aF b)
  have i1:=Xn l c hp n (i+1) a (by omega) (by omega)
  have i2:=Xn l c hp n (i+1) (a++ [l[i]]) (by omega) (by simp;omega)
  have ap:eD 40 (.list (a.map Mgr.enc)) (.list [.agg [.str l[i].name,.list (l[i].paths.map .str)]])=some (.list ((a++ [l[i]]).map Mgr.enc)):=apm Mgr.enc a l[i] (by omega)
  have g:gX (.int (l[i].paths.length :Int)) (.int 0)=some (.bool (decide (0<l[i].paths.length))):=by rw[gC];congr 2;exact decide_eq_decide.2 (by omega)
  have cl:O.Ig [.list (l[i].paths.map IV.str)]=some [.list (l[i].paths.map .str)]:=Ds (by rw[aH];omega)
  unfold I9 at i1 i2 ⊢
  rw[Als,aC b,aW]
  simp only[lti b,aA,aS,Zt,Kg Mgr.enc b,Aqv,Arr,G5,g,As9,cl,bM,dB,dP,ap]
  rw[Aps,Aps]
  simp only[nxt (show i<4611686018427387904 by omega),aA,i1,i2]
  cases decide (0<l[i].paths.length)<;>simp
theorem Bbg (l:List Mgr)(a:l.length<=1048576)(hp: ∀m∈l,m.paths.length<=1048576):W Bg2 0 [.list (l.map Mgr.enc)]=some [.list ((I9 l).map Mgr.enc)]:=by
 have:=Xn l a hp l.length 0 [] (by omega) (by simp)
 simp only[aD,aG,bG,aN]at this
 rw[A4p,G5]
 exact this
end Go.CT.Sch
namespace Go.CT.Sch
open Go.Proofs
structure Cf where
 path:ByteArray
 mgr:ByteArray
def Cf.enc (c:Cf):IV:= .agg [.str c.path,.str c.mgr]
theorem cf0 (c:Cf):fW 0 c.enc=some (.str c.path):=rfl
theorem cf1 (c:Cf):fW 1 c.enc=some (.str c.mgr):=rfl
def Tf (cs:List Cf)(nm:ByteArray):List ByteArray:=(cs.filter λc=>decide (c.mgr=nm)).map Cf.path
theorem As5 (cs:List Cf)(m:Mgr)(d:cs.length<=1048576)(hp:m.paths.length<=1048576): ∀ (n i:Nat) (a:List ByteArray),i+n=cs.length->a.length<=i->
  W F204 1 [.list (cs.map Cf.enc),.int (cs.length:Nat),.int (i:Nat),m.enc,SL a]=some [SL (Hg m.paths (a++Tf (cs.drop i) m.name))]
 | 0,i,a,h,e=>by
  have:i=cs.length:=by omega
  subst this
  rw[Anx,aO]
  simp only[ltn,aA,aS,aB,Zf,Tf,cE,aN,aQ,Bag,Agm m.paths a hp (by omega),bM]
 | n+1,i,a,h,e=>by
  have b:i<cs.length:=by omega
  have i1:=As5 cs m d hp n (i+1) a (by omega) (by omega)
  have i2:=As5 cs m d hp n (i+1) (a++ [cs[i].path]) (by omega) (by simp;omega)
  have ap:eD 16 (SL a) (.list [.str cs[i].path])=some (SL (a++ [cs[i].path])):=apm IV.str a cs[i].path (by omega)
  unfold Tf at i1 i2 ⊢
  rw[Anx,aC b,aW]
  simp only[lti b,aA,aS,Zt,Kg Cf.enc b,cf0,cf1,Aqv,gH,dP,ap]
  rw[Anw,Anw]
  simp only[nxt (show i<4611686018427387904 by omega),aA,i1,i2]
  by_cases c:cs[i].mgr =m.name<;>simp[c]
theorem pclo (cs:List Cf)(m:Mgr)(a:cs.length<=1048576)(hp:m.paths.length<=1048576):W F204 0 [m.enc,.list (cs.map Cf.enc)]=some [SL (Hg m.paths (Tf cs m.name))]:=by
 have:=As5 cs m a hp cs.length 0 [] (by omega) (by simp)
 simp only[aD,aG,bG]at this
 rw[A4r,G5]
 exact this
end Go.CT.Sch
namespace Go.CT.Sch
open Go.Proofs
def Zq (nm:ByteArray)(a:List ByteArray):Bool->List Mgr->List Mgr
 | d,[]=>if d then[]else[⟨nm,a⟩]
 | d,m::l=>((if !d && !blt m.name nm then[⟨nm,a⟩]else[])++(if !decide (m.name=nm)&&decide (0<m.paths.length) then[m]else[]))++Zq nm a (d|| !blt m.name nm) l
end Go.CT.Sch
namespace Go.CT.Sch
open Go.Proofs
def Avp (cs:List Cf)(nm:ByteArray)(l:List Mgr):List Mgr:=(l.filter λm=> !decide (m.name=nm)).map λm=>⟨m.name,Hg m.paths (Tf cs m.name)⟩
theorem Aeh (l:List Mgr)(cs:List Cf)(nm:ByteArray)(e:l.length<=1048576)(hp: ∀m∈l,m.paths.length<=1048576)(d:cs.length<=1048576): ∀ (n i:Nat) (a:List Mgr),i+n=l.length->a.length<=i+1->
  W Bfn 1 [.str nm,.list (cs.map Cf.enc),.list (l.map Mgr.enc),.int (l.length:Nat),.int (i:Nat),.list (a.map Mgr.enc)]=W Bfn 1 [.str nm,.list (cs.map Cf.enc),.list (l.map Mgr.enc),.int (l.length:Nat),.int (l.length:Nat),.list ((a++Avp cs nm (l.drop i)).map Mgr.enc)]
 | 0,i,a,h,g=>by
  have:i=l.length:=by omega
  subst this
  rw[aO]
  simp only[Avp,cE,aN,aQ]
 | n+1,i,a,h,g=>by
  have b:i<l.length:=by omega
  have j:=hp _ (aF b)
  have i1:=Aeh l cs nm e hp d n (i+1) a (by omega) (by omega)
  have i2:=Aeh l cs nm e hp d n (i+1) (a++ [(⟨l[i].name,Hg l[i].paths (Tf cs l[i].name)⟩:Mgr)]) (by omega) (by simp;omega)
  have ap:eD 40 (.list (a.map Mgr.enc)) (.list [.agg [.str l[i].name,SL (Hg l[i].paths (Tf cs l[i].name))]])=some (.list ((a++ [(⟨l[i].name,Hg l[i].paths (Tf cs l[i].name)⟩:Mgr)]).map Mgr.enc)):=apm Mgr.enc (n:=40) a (⟨l[i].name,Hg l[i].paths (Tf cs l[i].name)⟩:Mgr) (by omega)
  unfold Avp at i1 i2 ⊢
  rw[Al9,aC b,aW]
  simp only[lti b,aA,aS,Zt,Kg Mgr.enc b,Aqv,gD,pclo cs l[i] d j,bM,dB,dP,ap]
  rw[Apf,Apf]
  simp only[nxt (show i<4611686018427387904 by omega),aA,i1,i2]
  by_cases c:l[i].name =nm<;>simp[c]
end Go.CT.Sch
namespace Go.CT.Sch
open Go.Proofs
inductive Fit:Sch->Val->Prop
 | mk (s:Sch) (v:Val):v.k=s.k->(∀p∈v.f,(D5 s p.1).isSome =true)->(∀p∈v.f,∀t,D5 s p.1=some t->Fit t p.2)->(∀x∈v.l,∀t∈s.it,Fit t x)->(E9 s=true->Em s.key [] v.l=true)->Fit s v
theorem Fit.kind {s:Sch}{v:Val}(h:Fit s v):v.k=s.k:=by cases h;assumption
theorem Fit.known {s:Sch}{v:Val}(h:Fit s v): ∀p∈v.f,(D5 s p.1).isSome =true:=by cases h;assumption
theorem Fit.fld {s:Sch}{v:Val}(h:Fit s v): ∀p∈v.f,∀t,D5 s p.1=some t->Fit t p.2:=by cases h;assumption
theorem Fit.el {s:Sch}{v:Val}(h:Fit s v): ∀x∈v.l,∀t∈s.it,Fit t x:=by cases h;assumption
theorem Fit.keyed {s:Sch}{v:Val}(h:Fit s v):E9 s=true->Em s.key [] v.l=true:=by cases h;assumption
theorem Cs {s:Sch} :E9 s=true↔s.k=4/\s.key≠An:=by simp[E9]
theorem Ahy (key:ByteArray)(t:Sch)(p:List Stp): ∀ (l prev:List Val),(Lc l key t p prev).all Zm=true->
  (∀x∈l,∃q,(Ji x t q).all Zm=true)/\(key≠An->(∀x∈prev++l,isKey x key=true)->Em key (prev.map λx=>Dr x key) l=true)
 | [],_,_=>⟨by simp,λ_ _=>rfl⟩
 | x::l,prev,h=>by
  rw[Ib,eK,eK,aE,aE]at h
  obtain⟨i1,i2⟩:=Ahy key t p l (prev++ [x]) h.2
  refine⟨λy b=>?_,λg c=>?_⟩
  ·rcases bK.1 b with rfl | b
   ·exact⟨_,h.1.1⟩
   ·exact i1 y b
  ·have i:=c x (by simp)
   have d:=i2 g (by simpa using c)
   rw[cU]at d
   simp only[aK,aN]at d
   rw[Em,i,d]
   have hd:=h.1.2
   have m:inB (prev.map λx=>Dr x key) (Dr x key)=false:=by
    rw[<-dA,Ii]
    intro o
    obtain⟨u,j,e⟩:=bB.1 o
    have ku:=c u (by simp[j])
    have a:decide (key=An)=false:=by simpa using g
    have:(Ha x key&&prev.any (sameKey key (Dr x key)))=true:=by
     rw[aE,List.any_eq_true]
     refine⟨by unfold Ha;rw[i,a];rfl,u,j,?_⟩
     unfold sameKey Ha
     rw[ku,a]
     simpa using e
    unfold Asr at hd
    rw[if_pos this]at hd
    exact absurd hd (show ¬ ((decide ((8:Int)=7)&&true)=true) by decide)
   rw[m];rfl
theorem Qk {s t:Sch}(h:s.valid=true)(g:E9 s=true)(c:t∈s.it):t.k=5/\ ∃u,D5 t s.key=some u/\u.k=3:=by
 obtain⟨i,a⟩:=Cs.1 g
 obtain⟨r,e,j,p,hp,_,m,_⟩:=Zx h i a
 rw[e,bT]at c
 subst c
 have b:=(eA h).Iu (show t∈s.it by rw[e];simp)
 have o:t.it= []:=by
  apply dM
  intro q
  have:=b.nof q
  have d:=(Ab5 hp).1
  rw[this]at d;simp at d
 refine⟨j,p.s,?_,m⟩
 unfold D5
 rw[o]
 show(t.fld s.key).map (·.s)=_
 rw[hp];rfl
theorem Aku {s t:Sch}{x:Val}(h:s.valid=true)(i:E9 s=true)(e:t∈s.it)(j:D.VOk x)(b:x.k=t.k)(a:isKey x s.key=true):isKey (D.Br x t) s.key=true/\Dr (D.Br x t) s.key=Dr x s.key:=by
 obtain⟨o,u,m,q⟩:=Qk h i e
 have c:=(eA h).Iu e
 have g:=D.Ax8 j b (by omega) s.key
 unfold isKey at a
 simp only[aE,decide_eq_true_eq]at a
 obtain⟨y,d⟩:=bV.1 a.1
 rw[d,aL]at a
 rw[d,aA,if_neg (by omega),D.Aeo c,m,aJ,D.Aae u (by omega) (by omega)]at g
 unfold isKey Dr
 rw[g,d]
 simp[a.2]
theorem Ay4: ∀ (v:Val) (s:Sch) (p:List Stp) (n:Nat),s.valid=true->v.valid=true->v.size<=n->(Ji v s p).all Zm=true->kyB n s v=true->Fit s (D.Br v s):=by
 refine eP λv J K s p n G z Y d m=>?_
 have L:=D.Ow z
 have A:=eA G
 cases n with
 | zero=>have:=v.size_pos;omega
 | succ n=>
 rw[Js]at d
 by_cases r:v.k=s.k
 ·rw[if_pos r]at d
  rw[kyB,if_pos r.symm,aE,bP,bP]at m
  by_cases w:v.k=4
  ·rw[if_neg (by omega),if_neg (by omega),if_pos w,eK,aE]at d
   obtain⟨t,c⟩:=bA.1 (A.list (by omega))
   have B:t∈s.it:=by rw[c];simp
   rw[c,eJ]at d
   obtain⟨e1,R⟩:=Ahy s.key t p v.l [] d.2
   have g: ∀x∈v.l,Akk s x=true/\kyB n t x=true:=λx a=>by
    have:=m.1 x a
    rw[c]at this
    simpa using this
   have M: ∀x∈v.l,x.k=t.k:=λx a=>by
    obtain⟨q,b⟩:=e1 x a
    apply dM
    intro N
    rw[Js,if_neg N]at b
    exact absurd b (show ¬ ((decide ((6:Int)=7)&&true)=true) by decide)
   rw[D.Hn,if_pos r,if_pos w,if_pos (by rw[c];rfl),c,eJ]
   refine .mk _ _ (show(4:Int)=s.k by omega) (by simp) (by simp) ?_ ?_
   ·intro x a u C
    rw[c,bT]at C
    subst C
    obtain⟨y,e,rfl⟩:=bB.1 a
    obtain⟨q,b⟩:=e1 y e
    have:=gO e
    exact J y e u q n (Sch.Vj G B) (Gx z e) (by omega) b (g y e).2
   ·intro o
    have i: ∀x∈v.l,isKey x s.key=true:=λx a=>by
     have:=(g x a).1
     unfold Akk at this
     rw[o]at this
     simpa using this
    have S:=R (Cs.1 o).2 i
    have T: ∀ (l:List Val) (acc:List ByteArray),(∀x∈l,isKey (D.Br x t) s.key=true/\Dr (D.Br x t) s.key=Dr x s.key)->Em s.key acc l=true->Em s.key acc (l.map λx=>D.Br x t)=true:=by
     intro l
     induction l with
     | nil=>intro _ _ _;rfl
     | cons x l U=>
      intro acc a h
      obtain⟨X,a2⟩:=a x (by simp)
      rw[Em,aE,aE]at h
      rw[aK,Em,X,a2,h.1.2,U _ (λy e=>a y (by simp[e])) h.2];rfl
    exact T v.l [] (λx a=>Aku G o B (L.Lh a) (M x a) (i x a)) S
  ·by_cases H:v.k=5
   ·rw[if_neg (by omega),if_neg (by omega),if_neg w,if_pos H,eK,aE,Td,bP]at d
    have F: ∀q∈v.f.flatMap (D.D7 s),∃x∈v.f,∃t,x.2.k≠0/\D5 s x.1=some t/\q=(x.1,D.Br x.2 t):=by
     intro q b
     obtain⟨x,a,b⟩:=cK.1 b
     unfold D.D7 at b
     split at b
     ·simp at b
     ·rename_i I
      split at b
      ·rename_i t c
       simp only[bT]at b
       rw[D.Aeo A]at c
       exact⟨x,a,t,I,c,b⟩
      ·simp at b
    rw[D.Hn,if_pos r,if_neg w,if_pos H]
    refine .mk _ _ (show(5:Int)=s.k by omega) ?_ ?_ (by simp) (λh=>by have:=(Cs.1 h).1;omega)
    ·intro q b
     obtain⟨x,a,t,I,c,rfl⟩:=F q b
     show(D5 s x.1).isSome =true
     rw[c];rfl
    ·intro q b u C
     obtain⟨x,a,t,I,c,rfl⟩:=F q b
     rw[show D5 s (x.1,D.Br x.2 t).1 =D5 s x.1 from rfl,c]at C
     have eu:=gI C
     subst eu
     have j:=m.2 x a
     rw[c]at j
     have:=gN a
     refine K x a t (p++ [Cv x.1]) n (Sch.Xa G c) (Gj z a).1 (by omega) ?_ j
     rw[bP]
     intro y e
     refine d.1 y (cK.2 ⟨x,a,?_⟩)
     unfold Ag2
     rw[c]
     simp only[I,Zf]
     exact e
   ·have Q:=W1 z w
    have F:=S0 z H
    rw[D.Aae s w H]
    exact .mk _ _ r (by rw[F];simp) (by rw[F];simp) (by rw[Q];simp) (by rw[Q];intro _;rfl)
 ·rw[if_neg r]at d
  exact absurd d (show ¬ ((decide ((6:Int)=7)&&true)=true) by decide)
end Go.CT.Sch
namespace Go.CT.Sch
open Go.Proofs
theorem A2g (u:Val)(key kv:ByteArray)(a:u.k=5)(b:Cw u.f):isKey (Ez u key (Qe kv)) key=true/\Dr (Ez u key (Qe kv)) key=kv:=by
 unfold isKey Dr
 rw[Un u a b]
 exact⟨rfl,rfl⟩
theorem Tl {s:Sch}{r:Kid->Val × Bool} : ∀ {l:List Val} {acc acc':List ByteArray},Em s.key acc l=true->(∀k∈acc',k∈acc)->(∀y∈l,(r (Ek s y)).1.k =5/\Cw (r (Ek s y)).1.f)->
  Em s.key acc' (Il (Ic r (l.map (Ek s))))=true
 | [],_,_,_,_,_=>rfl
 | y::l,acc,acc',h,a,b=>by
  have i:=b y cJ
  have m:=K0 h y cJ
  obtain⟨j,_⟩:=Yq h
  have e: ∀z t,Il (((Ek s y).1,z)::t)=Ez z s.key (Qe (Dr y s.key))::Il t:=λ_ _=>rfl
  rw[aK,Pg]
  cases(r (Ek s y)).2 with
  | false=>exact Tl j (λk c=>dK _ (a k c)) λz d=>b z (cF _ d)
  | true=>
   simp only[Zt]
   obtain⟨w1,o⟩:=A2g (r (Ek s y)).1 s.key (Dr y s.key) i.1 i.2
   rw[e,Em,w1,o]
   have g:inB acc' (Dr y s.key)=false:=by
    rw[<-dA,Ii];exact λq=>m (a _ q)
   rw[g]
   simp only[bE,cM,bO]
   refine Tl j (λk c=>?_) λz d=>b z (cF _ d)
   rcases bY.1 c with h | h
   ·exact dK _ (a k h)
   ·exact List.mem_append_right _ h
theorem O7 {s:Sch}{r:Kid->Val × Bool}{l:List (ByteArray × Val)}{p:ByteArray × Val}(h:p∈fieldsOf (Ic r (l.map (Hh s)))): ∃y∈l,(r (Hh s y)).2 =true/\p=(y.1,(r (Hh s y)).1):=by
 obtain⟨z,a,rfl⟩:=bB.1 h
 obtain⟨x,b,c,rfl⟩:=R5 a
 obtain⟨y,d,rfl⟩:=bB.1 b
 exact⟨y,d,c,rfl⟩
theorem X6 {s:Sch}{r:Kid->Val × Bool}{l:List Val}{u:Val}(h:u∈Il (Ic r (l.map (Ek s)))): ∃y∈l,(r (Ek s y)).2 =true/\u=Ez (r (Ek s y)).1 s.key (Qe (Dr y s.key)):=by
 obtain⟨z,a,rfl⟩:=bB.1 h
 obtain⟨x,b,c,rfl⟩:=R5 a
 obtain⟨y,d,rfl⟩:=bB.1 b
 exact⟨y,d,c,rfl⟩
theorem V5 (s:Sch)(v:Val)(set:List ByteArray)(is:Bool):(Mh s v set is).Ap <=v.Ap:=by
 unfold Mh
 split
 ·rename_i a
  have b:v.valid=true:=by simp only[aE]at a;exact a.2
  split
  ·exact(Ys _ _ _ _ _ b).1
  ·have c:=v.Bv
   split
   ·rw[fT (Val.mk _ _ _ _ _)]
    simp only[fE,dG,dH,Ch,Ed,show An.size=0 from rfl];omega
   ·rw[fT Ar]
    simp only[Ar,fE,dG,dH,Ch,Ed,show An.size=0 from rfl];omega
 ·exact aR _
theorem M4 {q:List Stp}(h:Cy q=true):(∀x∈q,x.fits)/\q.length<=16:=by
 unfold Cy at h
 simp only[aE,bP,decide_eq_true_eq]at h
 refine⟨λx a=>?_,h.2⟩
 obtain⟨b,c,_⟩:=Dv (h.1 x a)
 exact⟨by omega,by omega⟩
theorem Amy {u:Sch}(h:u.k=3)(b:ByteArray):Fit u (Qe b):=
 .mk _ _ h.symm (by simp[Qe]) (by simp[Qe]) (by simp[Qe]) (λa=>by have:=(Cs.1 a).1;omega)
theorem A3p {t u:Sch}{w:Val}{key:ByteArray}{b:ByteArray}(c:Fit t w)(e:w.k=5)(a:Cw w.f)(g:D5 t key=some u)(j:u.k=3):Fit t (Ez w key (Qe b)):=by
 have i:=c.kind
 refine .mk _ _ (show(5:Int)=t.k by omega) ?_ ?_ (by simp[Ez]) (λi=>by have:=(Cs.1 i).1;omega)
 ·intro p hp
  rcases(Rh e a p).1 hp with⟨_,h⟩ | rfl
  ·exact c.known p h
  ·rw[g];rfl
 ·intro p hp x d
  rcases(Rh e a p).1 hp with⟨_,h⟩ | rfl
  ·exact c.fld p h x d
  ·rw[show D5 t (key,Qe b).1 =D5 t key from rfl,g]at d
   cases d
   exact Amy j b
theorem Axp: ∀ (n:Nat) (s:Sch) (v:Val) (p:List Stp) (ch:ByteArray->Bool),s.valid=true->v.valid=true->Fit s v->Fit s (pt n (some s) v p ch).1
 | 0,_,_,_,_,_,_,h=>h
 | n+1,s,v,p,ch,m,o,h=>by
  have r:=h.kind
  rw[Ra]
  split
  ·exact h
  ·rename_i z
   obtain⟨s',e,R,H⟩:=Ma z
   cases e
   rcases H with⟨I,b⟩ | ⟨S,g,i,b⟩
   ·simp only[I,Zt]
    rw[b]
    refine .mk _ _ (show(5:Int)=s.k by omega) ?_ ?_ (by simp) (λr=>by have:=(Cs.1 r).1;omega)
    ·intro q A
     obtain⟨y,a,_,rfl⟩:=O7 A
     exact h.known y a
    ·intro q A t j
     obtain⟨y,a,_,rfl⟩:=O7 A
     have c:D5 s y.1=some t:=j
     show Fit t (pt n (D5 s y.1) y.2 (p++ [(Hh s y).1]) ch).1
     rw[c]
     exact Axp n t y.2 _ ch (Sch.Xa m c) (Gj o a).1 (h.fld y a t c)
   ·have J: ¬ v.k=5:=by omega
    simp only[J,Zf]
    rw[b]
    have B:E9 s=true:=Cs.2 ⟨by omega,g⟩
    obtain⟨t,j⟩:=bA.1 ((eA m).list (by omega))
    have d:t∈s.it:=by rw[j];simp
    have K:s.it.head?=some t:=by rw[j];rfl
    have C: ∀y∈v.l,Fit t (pt n (Ek s y).2.2 (Ek s y).2.1 (p++ [(Ek s y).1]) ch).1 /\(pt n (Ek s y).2.2 (Ek s y).2.1 (p++ [(Ek s y).1]) ch).1.k =5/\Cw (pt n (Ek s y).2.2 (Ek s y).2.1 (p++ [(Ek s y).1]) ch).1.f :=by
     intro y a
     obtain⟨F,_,_⟩:=Md (Gx o a) (Dk i y a)
     refine⟨?_,(Bfm _ _ _ _ _).trans F,Ayb (Gx o a) F⟩
     show Fit t (pt n s.it.head? y (p++ [(Ek s y).1]) ch).1
     rw[K]
     exact Axp n t y _ ch (Sch.Vj m d) (Gx o a) (h.el y a t d)
    refine .mk _ _ r (by simp) (by simp) ?_ ?_
    ·intro x L u G
     rw[j,bT]at G
     subst G
     obtain⟨y,a,_,rfl⟩:=X6 L
     obtain⟨T,w,M,N⟩:=Qk m B d
     obtain⟨r1,r2,Q⟩:=C y a
     exact A3p r1 r2 Q M N
    ·intro _
     exact Tl i (by simp) λy a=>⟨(C y a).2.1,(C y a).2.2⟩
theorem Af4 {s:Sch}{v:Val}(set:List ByteArray)(is:Bool)(b:s.valid=true)(c:v.valid=true)(h:Fit s v)(a:v.k=5):Fit s (Mh s v set is)/\(Mh s v set is).k =5:=by
 unfold Mh
 rw[b,c]
 simp only[cM,Zt]
 split
 ·exact⟨Axp _ _ _ _ _ b c h,(Bfm _ _ _ _ _).trans a⟩
 ·rw[if_pos (.inl a)]
  exact⟨.mk _ _ h.kind (by simp) (by simp) (by simp) (λ_=>rfl),a⟩
theorem A6c: ∀ (n:Nat) (o:Option Sch) (v:Val) (p:List Stp) (t:ByteArray),v.size<=n->v.valid=true->t∈lv n o v p-> ∃q w,t=Cn (p++q)/\Hb v q=some w/\ ∀x∈q,Dl x=true/\x.k≠2
 | 0,o,v,p,t,h,_,_=>by have:=v.size_pos;omega
 | n+1,o,v,p,t,h,m,a=>by
  rw[lv]at a
  by_cases c:kids o v= []
  ·rw[if_pos c,bT]at a
   subst a
   exact⟨[],v,by simp,rfl,by simp⟩
  ·rw[if_neg c]at a
   obtain⟨x,g,a⟩:=cK.1 a
   obtain⟨G,_⟩:=Sr g
   obtain⟨q,w,e1,A,B⟩:=A6c n x.2.2 x.2.1 (p++ [x.1]) t (by omega) (Aqw m g) a
   rw[bH,bC]at e1
   obtain⟨s,rfl,L,H⟩:=Ma c
   rcases H with⟨M,r⟩ | ⟨I,C,j,r⟩
   ·rw[r]at g
    obtain⟨y,i,rfl⟩:=bB.1 g
    have J:v.get y.1=some y.2:=get_of_mem m i
    have u:=(Gj m i).2
    refine⟨Cv y.1::q,w,e1,?_,?_⟩
    ·simp only[Hb,Qu,Cv,Zt,J,aA];exact A
    ·intro z b
     rcases bK.1 b with rfl | b
     ·exact⟨by unfold Dl Cv;simp[u],show(1:Int)≠2 by decide⟩
     ·exact B z b
   ·rw[r]at g
    obtain⟨y,i,rfl⟩:=bB.1 g
    have d:=Gx m i
    obtain⟨N,ym,yg⟩:=Md d (Dk j y i)
    have u:=(Gj d ym).2
    have e:Jj (Qe (Dr y s.key)).s =true:=Ah6 (Gj d ym).1 rfl
    have e:Jj (Dr y s.key)=true:=e
    have K: ¬ (3:Int)=1:=by decide
    have F: ¬ (3:Int)=2:=by decide
    refine⟨Al2 s.key y::q,w,e1,?_,?_⟩
    ·simp only[Hb,Qu,Al2,K,F,Zf,I,Zt,Ack j y i,aA];exact A
    ·intro z b
     rcases bK.1 b with rfl | b
     ·exact⟨by unfold Dl Al2;simp[u,e],F⟩
     ·exact B z b
theorem Acl: ∀ (q:List Stp) (d:Nat) (v w:Val),B9 d v=true->Hb v q=some w->q.length<d
 | [],0,v,w,h,_=>by simp[B9]at h
 | [],d+1,_,_,_,_=>by simp
 | x::q,0,v,w,h,_=>by simp[B9]at h
 | x::q,d+1,v,w,h,b=>by
  simp only[Hb,cP]at b
  obtain⟨u,a,c⟩:=b
  have h':=(D3 d v).1 h
  have e:B9 d u=true:=by
   unfold Qu at a
   split at a
   ·exact(h'.2.2.2.1 _ (Ea a).1).2
   ·split at a
    ·split at a
     ·exact h'.2.2.1 _ (fL a)
     ·exact h'.2.2.1 _ (bU a)
    ·cases a
  have:=Acl q d u w e c
  simp;omega
theorem Arv {s:Sch}{v:Val}{t:ByteArray}(c:v.valid=true)(a:t∈Az s v): ∃q w,t=Cn q/\Cy q=true/\(∀x∈q,x.k≠2)/\Hb v q=some w:=by
 have a:=(cG.1 a).1
 unfold Jt at a
 split at a
 ·rw[Ve]at a
  obtain⟨q,w,e1,d,e⟩:=A6c v.size (some s) v [] t (aR _) c a
  rw[bG]at e1
  have hd:=Acl q 12 v w ((Hp v).1 c).1 d
  refine⟨q,w,e1,?_,λx b=>(e x b).2,d⟩
  unfold Cy
  simp only[aE,bP,decide_eq_true_eq]
  exact⟨λx b=>(e x b).1,by omega⟩
 ·simp at a
end Go.CT.Sch
namespace Go.CT.Sch
open Go.Proofs
theorem Ul (v:Val)(j:Gs 1073741824 v)(c d e m o q g:IV)(r: ∀p∈v.f,W Bch 0 [p.2.enc]=some p.2.E2): ∀ (n i:Nat),i+n=v.f.length->
  W Bch 2 [.int v.f.length,.int i,c,d,e,m,o,q,g,.list (v.f.map aY)]=some [c,d,e,g,.list (v.f.map aY)]
 | 0,i,h=>by
  have:i=v.f.length:=by omega
  subst this
  rw[Alv]
  simp only[ltn,aA,aS,aB,Zf]
 | n+1,i,h=>by
  have b:i<v.f.length:=by omega
  have w:=j.Om
  have:=Ul v j c d e m o q g r n (i+1) (by omega)
  have a:fG 1 5 true false (.list (v.f.map aY)) (.int i) v.f[i].2.enc =some (.list (v.f.map aY)):=by
   have t:(v.f.map aY)[i]?=some (aY v.f[i]):=by rw[aX,aI b];rfl
   have x:(v.f.map aY).set i (aY v.f[i])=v.f.map aY:=by
    rw[<-gA,cS]
   unfold fG
   simp only[fO,aU,Zt,aT,t,aB,Zf]
   rw[v.f[i].2.Eo]
   simp only[aY]
   have u:v.f[i].2.E2.length =5:=rfl
   simp only[u,Zt]
   congr 2
  rw[Alv]
  simp only[lti b,aA,aS,Zt,Kg aY b,fU,r _ (aF b),dD,fP,dB,eT,a,nxt (show i<4611686018427387904 by omega),this]
theorem Uq (v:Val)(o:Gs 1073741824 v)(c d e g j m:IV)(q: ∀x∈v.l,W Bch 0 [x.enc]=some x.E2): ∀ (n i:Nat),i+n=v.l.length->
  W Bch 1 [.int v.l.length,.int i,c,d,e,g,j,m,.list (v.l.map bI),.list (v.f.map aY)]=W Bch 2 [.int v.f.length,.int (0:Nat),c,d,e,g,j,m,.list (v.l.map bI),.list (v.f.map aY)]
 | 0,i,h=>by
  have:i=v.l.length:=by omega
  subst this
  rw[Apn]
  simp only[ltn,aA,aS,aB,Zf,G5]
  rfl
 | n+1,i,h=>by
  have b:i<v.l.length:=by omega
  have r:=o.U4
  have:=Uq v o c d e g j m q n (i+1) (by omega)
  have a:fG 0 5 true true (.list (v.l.map bI)) (.int i) v.l[i].enc =some (.list (v.l.map bI)):=by
   rw[show(IV.list (v.l.map bI))=eR bI v.l from rfl,iD bI b,cS]
  rw[Apn]
  simp only[lti b,aA,aS,Zt,Kg bI b,q _ (aF b),dD,fP,dB,eT,a,nxt (show i<4611686018427387904 by omega),this]
theorem Arw: ∀v:Val,Gs 1073741824 v->W Bch 0 [v.enc]=some v.E2:=by
 refine eP λv b c a=>?_
 have d:=Uq v a (.int v.k) (.int v.n) (.str v.s) (.int 0) (.int 0) (.str ⟨#[]⟩) (λx e=>b x e (a.Lh e)) v.l.length 0 (by omega)
 have g:=Ul v a (.int v.k) (.int v.n) (.str v.s) (.int 0) (.int 0) (.str ⟨#[]⟩) (.list (v.l.map bI)) (λp hp=>c p hp (a.J9 hp)) v.f.length 0 (by omega)
 rw[g]at d
 rw[A1b]
 have i:=a.U4
 have j:=a.Om
 have h:(v.l.map bI).length <=1073741824:=by rw[aH];omega
 have hd:(v.f.map aY).length <=1073741824:=by rw[aH];omega
 simp only[cX,eZ,fA,cN,cT,aA,Be3,A2a,Ds h,Ds hd,bM,G5]
 rw[dD]
 exact d
theorem A53 (v:Val)(x:Stp)(b:v.Ap<=1048576): ∀ (n i:Nat),i+n=v.f.length->
  ∃r:Int,W F164 1 [.list (v.f.map aY),x.enc,.int v.f.length,.int i]=some [.int r]/\
   ((((v.f.drop i).find? λp=>decide (p.1=x.nm))=none/\r<0)\/ ∃ (j:Nat) (u:Val),r=j/\v.f[j]?=some (x.nm,u)/\((v.f.drop i).find? λp=>decide (p.1=x.nm))=some (x.nm,u))
 | 0,i,h=>by
  have d:i=v.f.length:=by omega
  subst d
  rw[Aln]
  exact⟨-1,by simp only[ltn,aA,aS,aB,Zf],.inl ⟨by rw[aO];rfl,by omega⟩⟩
 | n+1,i,h=>by
  have a:i<v.f.length:=by omega
  have m:=v.Bc
  obtain⟨r,e,g⟩:=A53 v x b n (i+1) (by omega)
  rw[Aln,aC a,bW]
  simp only[lti a,aA,aS,Zt,Kg aY a,A2h,gE,iC,gH,bM,nxt (show i<4611686018427387904 by omega),e]
  by_cases c:v.f[i].1 =x.nm
  ·exact⟨i,by simp[c],.inr ⟨i,v.f[i].2,rfl,by simp[a,<-c],by simp[<-c]⟩⟩
  ·have c':decide (v.f[i].1 =x.nm)=false:=by simpa using c
   simp only[c',aB,Zf]
   exact⟨r,rfl,g⟩
theorem Bef (u:Val)(x:Stp)(a:u.Ap<=1048576):W F168 0 [u.enc,x.enc]=some [.bool (hasB x.nm x.vl u)]:=by
 rw[Azx]
 unfold hasB
 simp only[iC,Stp.Cd,aA,Z8 u x.nm (by omega),Ix,I8,aS,bL,gH,Aw,Am]
 cases b:u.get x.nm with
 | none=>simp[Ar]
 | some y=>by_cases c:y.k=3<;>simp[c]
theorem Bdn (v:Val)(x:Stp)(b:v.Ap<=1048576): ∀ (n i:Nat),i+n=v.l.length->
  ∃r:Int,W F166 1 [.list (v.l.map bI),x.enc,.int v.l.length,.int i]=some [.int r]/\
   ((((v.l.drop i).find? (hasB x.nm x.vl))=none/\r<0)\/ ∃ (j:Nat) (u:Val),r=j/\v.l[j]?=some u/\((v.l.drop i).find? (hasB x.nm x.vl))=some u)
 | 0,i,h=>by
  have d:i=v.l.length:=by omega
  subst d
  rw[An0]
  exact⟨-1,by simp only[ltn,aA,aS,aB,Zf],.inl ⟨by rw[aO];rfl,by omega⟩⟩
 | n+1,i,h=>by
  have a:i<v.l.length:=by omega
  have m:=v.B5
  have o:=eG (aF a)
  obtain⟨r,e,g⟩:=Bdn v x b n (i+1) (by omega)
  rw[An0,aC a,bW]
  simp only[lti a,aA,aS,Zt,Kg bI a,A5q,Bef v.l[i] x (by omega),bM,nxt (show i<4611686018427387904 by omega),e]
  cases c:hasB x.nm x.vl v.l[i]with
  | true=>exact⟨i,by simp,.inr ⟨i,v.l[i],rfl,by simp[a],rfl⟩⟩
  | false=>exact⟨r,by simp,g⟩
theorem A1l (v:Val)(x:Stp)(o:v.Ap<=1048576)(q:Dl x=true): ∃r:Int,W F163 0 [v.enc,x.enc]=some [.int r]/\
  ((Qu v x=none/\r<0)\/ ∃ (j:Nat) (u:Val),r=j/\Qu v x=some u/\(x.k=1->v.f[j]?=some (x.nm,u))/\(x.k≠1->v.l[j]?=some u)):=by
 obtain⟨z,A,t,B,C⟩:=Dv q
 rw[Azz]
 unfold Qu
 simp only[iB,aA,bL,aS,cX,Aw,Am]
 by_cases k1:x.k=1
 ·unfold gS
  by_cases i:v.k=5
  ·obtain⟨r,b,a⟩:=A53 v x o v.f.length 0 (by omega)
   simp only[aG,aD]at b a
   simp only[k1,i,Zd,Zt,cT,aA,A1z,G5,b,bM]
   refine⟨r,rfl,?_⟩
   rcases a with⟨d,e⟩ | ⟨j,u,d,e,m⟩
   ·exact .inl ⟨by rw[d];rfl,e⟩
   ·exact .inr ⟨j,u,d,by rw[m];rfl,λ_=>e,λh=>(h rfl).elim⟩
  ·refine⟨-1,?_,.inl ⟨by rw[if_pos k1,if_neg i],by omega⟩⟩
   simp[k1,i]
 ·rw[if_neg k1]
  by_cases g:v.k=4
  ·rw[if_pos g]
   by_cases k2:x.k=2
   ·obtain⟨j,w⟩:=Int.eq_ofNat_of_zero_le (t k2).1
    rw[if_pos k2]
    simp only[k1,k2,g,Zd,Ze,aB,Zf,Zt,Stp.Eh,cN,G5,aA,dF,w,Int.ofNat_eq_natCast,aT,Al,show ¬ (2:Int)=1 by omega,show ¬ (2:Int)=3 by omega]
    by_cases c:j<v.l.length
    ·exact⟨j,by simp[c],.inr ⟨j,v.l[j],rfl,by simp[c],λh=>by simp at h,λ_=>by simp[c]⟩⟩
    ·exact⟨-1,by simp[c],.inl ⟨by simpa using c,by omega⟩⟩
   ·have y:x.k=3:=by omega
    obtain⟨r,b,a⟩:=Bdn v x o v.l.length 0 (by omega)
    simp only[aG,aD]at b a
    rw[if_neg k2]
    simp only[y,g,Zd,Ze,aB,Zf,Zt,cN,aA,Azn,G5,b,bM,show ¬ (3:Int)=1 by omega,show ¬ (3:Int)=2 by omega]
    refine⟨r,rfl,?_⟩
    rcases a with a | ⟨j,u,d,e,m⟩
    ·exact .inl a
    ·exact .inr ⟨j,u,d,m,λh=>by simp at h,λ_=>e⟩
  ·rw[if_neg g]
   refine⟨-1,?_,.inl ⟨rfl,by omega⟩⟩
   simp[k1,g]
theorem Aqe (p:List Stp)(t:p.length<=1099511627776)(hp: ∀x∈p,Dl x=true)(c d e:IV): ∀ (n i:Nat) (v:Val),i+n=p.length->v.Ap<=1048576->
  W Bgz 1 [.list (p.map bZ),.int p.length,.int i,v.enc,c,d,e]=some (Ix (Hb v (p.drop i)))
 | 0,i,v,h,m=>by
  have w:i=p.length:=by omega
  subst w
  have o:=Arw v (C6 v (by omega))
  rw[dD]at o
  rw[Ami,aO]
  simp only[ltn,aA,aS,aB,Zf,o,fP,Hb,Ix,aL,aZ]
 | n+1,i,v,h,m=>by
  have a:i<p.length:=by omega
  have y:=hp _ (aF a)
  obtain⟨r,z,A⟩:=A1l v p[i] m y
  rw[Ami,aC a]
  simp only[lti a,aA,aS,Zt,Kg bZ a,z,bM,iB,bL,dF,cN,cT,Hb]
  rcases A with⟨b,g⟩ | ⟨j,u,rfl,b,g,B⟩
  ·simp only[g,Zd,Zt,b];rfl
  ·have C: ¬ (j:Int)<0:=by omega
   have G:=S9 b
   have F:=Aqe p t hp c d e n (i+1) u (by omega) (by omega)
   have q:W Bgz 2 [.list (p.map bZ),.int p.length,.int i,u.enc,c,d,e]=some (Ix (Hb u (p.drop (i+1)))):=by
    rw[A4j]
    simp only[nxt (show i<4611686018427387904 by omega),aA,F]
   simp only[C,Ze,aB,Zf,b,aA,eV,aU,Zt,aT,aX]
   by_cases k1:p[i].k =1
   ·simp only[k1,Zd,Zt,g k1,aJ,aA,fU,q]
   ·simp only[k1,Ze,aB,Zf,B k1,aJ,aA,q]
theorem Bdq (v:Val)(p:List Stp)(b:v.Ap<=1048576)(hp:Cy p=true):W Bgz 0 [v.enc,.list (p.map bZ)]=some (Ix (Hb v p)):=by
 obtain⟨c,d⟩:=M4 hp
 have a:=hp
 unfold Cy at a
 simp only[aE,bP]at a
 have:=Aqe p (by omega) a.1 (.int 0) (.int 0) (.str ⟨#[]⟩) p.length 0 v (by omega) b
 simp only[aD,aG]at this
 rw[A1o]
 simp only[Sh p c (by omega),hp,bM,dN,aA,aS,aP,aB,Zf,G5,this]
end Go.CT.Sch
namespace Go.CT.Sch
open Go.Proofs
theorem cmp0: ∀ (a b:List UInt8),Lib.compareBytes a b=0↔a=b
 | [],[]=>by simp[Lib.compareBytes]
 | [],_::_=>by simp[Lib.compareBytes]
 | _::_,[]=>by simp[Lib.compareBytes]
 | a::x,b::y=>by
  simp only[Lib.compareBytes]
  by_cases c:a<b
  ·have: ¬ a=b:=λe=>by subst e;exact absurd c (UInt8.lt_irrefl _)
   simp[c,this]
  ·by_cases d:b<a
   ·have: ¬ a=b:=λe=>by subst e;exact c d
    simp[c,d,this]
   ·have:a=b:=by
     have g: ¬ a.toNat<b.toNat:=λh=>c (fJ.2 h)
     have i: ¬ b.toNat<a.toNat:=λh=>d (fJ.2 h)
     exact gG.1 (by omega)
    subst this
    simp[c,cmp0 x y]
theorem Axq (a b:ByteArray): ∃c:Int,W F78 0 [.str a,.str b]=some [.int c]/\(c=0↔a=b):=by
 refine⟨Lib.compareBytes a.data.toList b.data.toList,?_,?_⟩
 ·simp[Aux,Ay1,Beh,O.Pw]
 ·rw[cmp0];exact⟨Gb,λh=>by rw[h]⟩
theorem As3 (a b:Int): ∃c:Int,W F172 0 [.int a,.int b]=some [.int c]/\(c=0↔a=b):=by
 refine⟨if decide (a<b)=true then -1 else if decide (b<a)=true then 1 else 0,?_,Aj9 a b⟩
 rw[A3u]
 simp only[A1q,eL,Zd,aP,aA,bM,aS,aB,Zf,dF,gC]
 split
 ·rfl
 ·split<;>rfl
theorem Avg (cs:List Int)(d:cs.length<=100): ∀ (n i:Nat),i+n=cs.length-> ∃r:Int,W F177 1 [.int 0,.list (cs.map .int),.int cs.length,.int i]=some [.int r]/\(r=0↔ ∀c∈cs.drop i,c=0)
 | 0,i,h=>by
  have e: ¬ i<cs.length:=by omega
  rw[Ap8,bF (by omega)]
  exact⟨0,by simp[e],by simp⟩
 | n+1,i,h=>by
  have b:i<cs.length:=by omega
  have g:=Bf (i:=i) (by omega)
  obtain⟨r,j,m⟩:=Avg cs d n (i+1) (by omega)
  rw[Ap8,aC b]
  simp only[dF,Al,b,Zd,aA,aS,Zt,eV,aU,aT,aX,aI b,aJ,eL,eF,g,j]
  by_cases a:cs[i]=0
  ·exact⟨r,by simp[a],by simp only[bK,forall_eq_or_imp,a,true_and];exact m⟩
  ·exact⟨cs[i],by simp[a],by simp only[bK,forall_eq_or_imp,a,false_and]⟩
theorem Bdj (cs:List Int)(a:cs.length<=100): ∃r:Int,W F177 0 [.list (cs.map .int)]=some [.int r]/\(r=0↔ ∀c∈cs,c=0):=by
 obtain⟨r,b,d⟩:=Avg cs a cs.length 0 (by omega)
 refine⟨r,?_,by simpa using d⟩
 rw[A25]
 simp only[eS,aH,aA]
 exact b
theorem Atq (a b:List Val)(u:a.length<=1099511627776)(o: ∀x∈a,∀y∈b,∃c:Int,W F171 0 [x.enc,y.enc]=some [.int c]/\(c=0↔x=y)): ∀ (n i:Nat),i+n=a.length->i<=b.length->
  ∃c:Int,W F174 1 [.list (a.map bI),.list (b.map bI),.list (a.map bI),.int a.length,.int i]=some [.int c]/\(c=0↔a.drop i=b.drop i)
 | 0,i,h,w=>by
  have q: ¬ i<a.length:=by omega
  have e1:a.drop i= []:=bF (by omega)
  rw[Amj,e1]
  by_cases g:a.length<b.length
  ·have z:(a.length:Int)<b.length:=by omega
   have: ¬ []=b.drop i:=λe=>by
    have:=congrArg dI e
    simp at this;omega
   exact⟨-1,by simp[q,g],by simp[this]⟩
  ·have z: ¬ (a.length:Int)<b.length:=by omega
   have:b.drop i= []:=bF (by omega)
   exact⟨0,by simp[q,g],by simp[this]⟩
 | n+1,i,h,w=>by
  have d:i<a.length:=by omega
  have A:=Bf (i:=i) (by omega)
  rw[Amj]
  by_cases m:i<b.length
  ·obtain⟨c,B,t⟩:=o _ (aF d) _ (aF m)
   obtain⟨r,r1,r2⟩:=Atq a b u o n (i+1) (by omega) (by omega)
   have g: ¬ (b.length:Int)<=i:=by omega
   have hd:(a.drop i=b.drop i)↔(a[i]=b[i]/\a.drop (i+1)=b.drop (i+1)):=by
    rw[aC d,aC m]
    simp only[dS]
   simp only[dF,Al,d,Zd,aA,aS,Zt,eV,aU,aT,aX,aI d,aI m,aJ,eS,aH,O.Gt,g,Ze,aB,Zf,B,bM,eL,eF,A,r1,hd]
   by_cases j:c=0
   ·exact⟨r,by simp[j],by rw[r2];simp[t.1 j]⟩
   ·exact⟨c,by simp[j],by simp[j];exact λe=>absurd (t.2 e) j⟩
  ·have g:(b.length:Int)<=i:=by omega
   have: ¬ a.drop i=b.drop i:=λe=>by
    have:=congrArg dI e
    simp at this;omega
   exact⟨1,by simp[d,g],by simp[this]⟩
theorem Ayy (a b:List (ByteArray × Val))(u:a.length<=1099511627776)(o: ∀x∈a,∀y∈b,∃c:Int,W F176 0 [aY x,aY y]=some [.int c]/\(c=0↔x=y)): ∀ (n i:Nat),i+n=a.length->i<=b.length->
  ∃c:Int,W F175 1 [.list (a.map aY),.list (b.map aY),.list (a.map aY),.int a.length,.int i]=some [.int c]/\(c=0↔a.drop i=b.drop i)
 | 0,i,h,w=>by
  have q: ¬ i<a.length:=by omega
  have e1:a.drop i= []:=bF (by omega)
  rw[Al6,e1]
  by_cases g:a.length<b.length
  ·have z:(a.length:Int)<b.length:=by omega
   have: ¬ []=b.drop i:=λe=>by
    have:=congrArg dI e
    simp at this;omega
   exact⟨-1,by simp[q,g],by simp[this]⟩
  ·have z: ¬ (a.length:Int)<b.length:=by omega
   have:b.drop i= []:=bF (by omega)
   exact⟨0,by simp[q,g],by simp[this]⟩
 | n+1,i,h,w=>by
  have d:i<a.length:=by omega
  have A:=Bf (i:=i) (by omega)
  rw[Al6]
  by_cases m:i<b.length
  ·obtain⟨c,B,t⟩:=o _ (aF d) _ (aF m)
   obtain⟨r,r1,r2⟩:=Ayy a b u o n (i+1) (by omega) (by omega)
   have g: ¬ (b.length:Int)<=i:=by omega
   have hd:(a.drop i=b.drop i)↔(a[i]=b[i]/\a.drop (i+1)=b.drop (i+1)):=by
    rw[aC d,aC m]
    simp only[dS]
   simp only[dF,Al,d,Zd,aA,aS,Zt,eV,aU,aT,aX,aI d,aI m,aJ,eS,aH,O.Gt,g,Ze,aB,Zf,B,bM,eL,eF,A,r1,hd]
   by_cases j:c=0
   ·exact⟨r,by simp[j],by rw[r2];simp[t.1 j]⟩
   ·exact⟨c,by simp[j],by simp[j];exact λe=>absurd (t.2 e) j⟩
  ·have g:(b.length:Int)<=i:=by omega
   have: ¬ a.drop i=b.drop i:=λe=>by
    have:=congrArg dI e
    simp at this;omega
   exact⟨1,by simp[d,g],by simp[this]⟩
theorem Bdg: ∀a:Val,a.Ap<=1099511627776-> ∀b:Val,∃c:Int,W F171 0 [a.enc,b.enc]=some [.int c]/\(c=0↔a=b):=by
 refine eP λa g h L b=>?_
 have m1:=a.B5
 have m2:=a.Bc
 obtain⟨t,u,r1⟩:=As3 a.k b.k
 obtain⟨w,z,r2⟩:=As3 a.n b.n
 obtain⟨A,B,C⟩:=Axq a.s b.s
 obtain⟨F,j,m⟩:=Atq a.l b.l (by omega) (λx d y _=>g x d (by have:=eG d;omega) y) a.l.length 0 (by omega) (dC _)
 have G: ∀x∈a.f,∀y∈b.f,∃c:Int,W F176 0 [aY x,aY y]=some [.int c]/\(c=0↔x=y):=by
  intro x d y _
  obtain⟨d1,H,I⟩:=Axq x.1 y.1
  obtain⟨d2,J,v2⟩:=h x d (by have:=fS d;omega) y.2
  obtain⟨r,e,i⟩:=Bdj [d1,d2] (by simp)
  refine⟨r,?_,?_⟩
  ·rw[A00]
   simp only[aK,aN]at e
   simp only[gE,fU,aA,H,J,bM,dP,e]
  ·rw[i];simp[I,v2,Prod.ext_iff]
 obtain⟨K,o,q⟩:=Ayy a.f b.f (by omega) G a.f.length 0 (by omega) (dC _)
 obtain⟨r,e,i⟩:=Bdj [t,w,A,F,K] (by simp)
 simp only[aG,aD]at j m o q
 simp only[aK,aN]at e
 refine⟨r,?_,?_⟩
 ·rw[A01]
  simp only[cX,eZ,fA,cN,cT,aA,u,z,B,bM,Azm,A04,eS,aH,j,o,dP,e]
 ·rw[i]
  simp only[bK,List.not_mem_nil,or_false,forall_eq_or_imp,forall_eq,r1,r2,C,m,q]
  cases a;cases b;simp
open Classical in
theorem Alr (a b:Val)(ha:a.Ap<=1099511627776):W F170 0 [a.enc,b.enc]=some [.bool (decide (a=b))]:=by
 obtain⟨c,h1,h2⟩:=Bdg a ha b
 rw[A1p]
 simp only[h1,bM,bL,aA]
 congr 3
 simp only[h2]
end Go.CT.Sch
namespace Go.CT.Sch
open Go.Proofs
def emS (s:Sch)(c:Val):Bool:=(decide (c.k=5)&&decide (c.f.length=0))||(decide (c.k=4)&&decide (c.l.length=0)&&E9 s)
open Classical in
noncomputable def Aiy (s:Sch) (cf lv:Val) (p:List Stp):Bool:=(Hb lv p).isSome &&(decide ((Hb cf p).getD Ar=(Hb lv p).getD Ar)||emS ((atV s p).getD Bg) ((Hb cf p).getD Ar))
theorem A7q (v:Val)(p:List Stp)(a:v.Ap<=1048576)(hp:Cy p=true)(b: ∀x∈p,x.k≠2):W F156 0 [v.enc,.str (Cn p)]=some (Ix (Hb v p)):=by
 rw[A2y]
 simp only[Apl p hp b,fD,Bdq v p a hp,Ix,I8]
theorem Bcu (v:Val)(p:List Stp)(b:v.Ap<=1048576)(hp:Cy p=true):W F222 0 [v.enc,.str (Cn p)]=some [((Hb v p).getD Ar).enc,.bool (Hb v p).isSome]:=by
 obtain⟨c,d⟩:=M4 hp
 have a:=Bec v p b c (by omega)
 unfold Bft at a
 rw[if_pos hp]at a
 rw[A3n]
 simp only[Vg p hp,fD,eL,Zd,aP,aA,aS,aB,Zf,a]
theorem Sn {v:Val}{p:List Stp}(a:v.Ap<=1048576):((Hb v p).getD Ar).Ap <=1048576:=by
 cases h:Hb v p with
 | none=>decide+kernel
 | some w=>have:=Ain p v w h;rw[aL];omega
theorem A4c (s:Sch)(c:Val):W F235 0 [s.enc,c.enc]=some [.bool (emS s c)]:=by
 have a: ∀b:ByteArray,decide (b=(⟨#[]⟩:ByteArray))=decide (b=An):=λ_=>rfl
 rw[A0d]
 simp only[cX,cN,cT,eH,eQ,G5,bL,aA,aS,Aw,Am,gD,a,emS,E9]
 have d: ∀n:Nat,decide ((n:Int)=0)=decide (n=0):=λn=>decide_eq_decide.2 (by omega)
 simp only[d]
 cases decide (c.k=5)<;>cases decide (c.f.length=0)<;>cases decide (c.k=4)<;>cases decide (c.l.length=0)<;>cases decide (s.k=4)<;>simp
open Classical in
theorem Bdu (s:Sch)(cf lv:Val)(p:List Stp)(hs:s.Ap<=1048576)(hc:cf.Ap<=1048576)(hl:lv.Ap<=1048576)(hp:Cy p=true)(h2: ∀x∈p,x.k≠2):
  W F155 0 [s.enc,cf.enc,lv.enc,.str (Cn p)]=some [.bool (Aiy s cf lv p)]:=by
 obtain⟨h1,h3⟩:=M4 hp
 have hA:=Bhb s p hs h1 (by omega)
 have m1:=Sn (p:=p) hc
 have hE:=Alr ((Hb cf p).getD Ar) ((Hb lv p).getD Ar) (by omega)
 have f0: ∀n:Nat,decide ((n:Int)=0)=decide (n=0):=λn=>decide_eq_decide.2 (by omega)
 have hk:IV.agg ((atV s p).getD Bg).E2 =((atV s p).getD Bg).enc :=(Sch.Eo _).symm
 rw[gF]at hk
 unfold Bf9 at hA
 rw[gF]at hA
 simp only[List.cons_append,bG]at hA
 rw[A30]
 unfold Aiy emS
 simp only[A7q cf p hc hp h2,A7q lv p hl hp h2,Ix,I8,dN,aA,aS,dB,eT,hE,bM,Aw,Am,Apl p hp h2,fD,hA,A9b,bL,G5,f0,hk,Ac9]
 generalize decide ((Hb cf p).getD Ar=(Hb lv p).getD Ar)=E
 generalize decide (((Hb cf p).getD Ar).k =5)=A
 generalize decide (((Hb cf p).getD Ar).f.length =0)=B
 generalize decide (((Hb cf p).getD Ar).k =4)=C
 generalize decide (((Hb cf p).getD Ar).l.length =0)=D
 generalize E9 ((atV s p).getD Bg)=K
 cases(Hb lv p).isSome<;>cases E<;>cases A<;>cases B<;>cases C<;>cases D<;>simp
open Classical in
theorem Be4 (s:Sch)(cf lv:Val)(p:List Stp)(hs:s.Ap<=1048576)(hc:cf.Ap<=1048576)(hl:lv.Ap<=1048576)(hp:Cy p=true):
  W F221 0 [s.enc,cf.enc,lv.enc,.str (Cn p)]=some [.bool (Aiy s cf lv p)]:=by
 obtain⟨h1,h3⟩:=M4 hp
 have hA:=Bc6 s p hs h1 (by omega)
 have m1:=Sn (p:=p) hc
 have m2:=Sn (p:=p) hl
 have hE:=Af3 ((Hb cf p).getD Ar) ((Hb lv p).getD Ar) (by omega) (by omega)
 rw[A0z]
 unfold Aiy
 simp only[Bcu cf p hc hp,Bcu lv p hl hp,fD,dN,aA,aS,hE,bM,Aw,Am,Vg p hp,hA,A4c]
 generalize decide ((Hb cf p).getD Ar=(Hb lv p).getD Ar)=E
 cases(Hb lv p).isSome<;>cases E<;>simp
end Go.CT.Sch
namespace Go.CT.Sch
open Go.Proofs
def Nz (s:Sch)(l:List Val)(k:ByteArray):Option Val:=l.find? λx=>decide (Dr x s.key=k)
def E7:Val:=⟨5,0,An,[],[]⟩
def mg:Nat->Sch->Val->Option Val->Val
 | 0,_,c,_=>c
 | n+1,s,c,o=>
  if(emS s c&&o.isSome)=true then o.getD c
  else if c.k=5 then c.f.foldl (λout p=>Ez out p.1 (mg n ((D5 s p.1).getD Bg) p.2 (o.bind λv=>v.get p.1))) (o.getD E7)
  else if(E9 s&&o.isSome)=true then⟨4,0,An,((o.getD E7).l.map λx=>((Nz s c.l (Dr x s.key)).map λe=>mg n (s.it.headD Bg) e (some x)).getD x)++c.l.filter (λe=>(Nz s (o.getD E7).l (Dr e s.key)).isNone),[]⟩
  else c
inductive S3:Val->Prop
 | mk (v:Val):Cw v.f->(∀x∈v.l,S3 x)->(∀p∈v.f,S3 p.2)->S3 v
theorem S3.strict {v:Val}(h:S3 v):Cw v.f:=by cases h;assumption
theorem S3.Lh {v:Val}(h:S3 v): ∀x∈v.l,S3 x:=by cases h;assumption
theorem S3.J9 {v:Val}(h:S3 v): ∀p∈v.f,S3 p.2:=by cases h;assumption
theorem S3.get {v x:Val}{nm:ByteArray}(h:S3 v)(a:v.get nm=some x):S3 x:=h.J9 _ (Ea a).1
theorem Mb: ∀ (n:Nat) (v:Val),v.size<=n->v.valid=true->S3 v
 | 0,v,h,_=>by have:=v.size_pos;omega
 | n+1,v,h,a=> .mk v (H6 a) (λx b=>Mb n x (by have:=gO b;omega) (Gx a b)) λp hp=>Mb n p.2 (by have:=gN hp;omega) (Gj a hp).1
theorem Atk {u x:Val}(nm:ByteArray)(h:u.k=5)(a:S3 u)(b:S3 x):S3 (Ez u nm x):=
 .mk _ (Jf _ _ _) (by simp[Ez]) λp hp=>by
  rcases(Rh h a.strict p).1 hp with⟨_,h⟩ | rfl
  ·exact a.J9 p h
  ·exact b
theorem Ai1: ∀ (n:Nat) (o:Option Sch) (v:Val) (p:List Stp) (ch:ByteArray->Bool),v.valid=true->S3 (pt n o v p ch).1
 | 0,_,v,_,_,h=>Mb _ v (aR _) h
 | n+1,o,v,p,ch,c=>by
  have e:=(Ys (n+1) o v p ch c).2
  rw[Ra]at e ⊢
  by_cases a:kids o v= []
  ·rw[if_pos a];exact Mb _ v (aR _) c
  ·rw[if_neg a]at e ⊢
   obtain⟨s,rfl,A,r⟩:=Ma a
   rcases r with⟨j,b⟩ | ⟨B,m,g,b⟩
   ·have i:=(e j).strict (H6 c)
    simp only[j,Zt]at i ⊢
    rw[b]at i ⊢
    refine .mk _ i (by simp) λq t=>?_
    obtain⟨y,d,_,rfl⟩:=O7 t
    exact Ai1 n _ y.2 _ ch (Gj c d).1
   ·have u: ¬ v.k=5:=by omega
    simp only[u,Zf]
    rw[b]
    refine .mk _ bQ (λx w=>?_) (by simp)
    obtain⟨y,d,_,rfl⟩:=X6 w
    obtain⟨z,_,_⟩:=Md (Gx c d) (Dk g y d)
    exact Atk _ ((Bfm _ _ _ _ _).trans z) (Ai1 n _ y _ ch (Gx c d)) (.mk _ bQ (by simp[Qe]) (by simp[Qe]))
theorem Aby {s:Sch}{v:Val}(set:List ByteArray)(is:Bool)(a:v.valid=true):S3 (Mh s v set is):=by
 unfold Mh
 split
 ·split
  ·exact Ai1 _ _ _ _ _ a
  ·split
   ·exact .mk _ bQ (by simp) (by simp)
   ·exact .mk _ bQ (by simp[Ar]) (by simp[Ar])
 ·exact Mb _ v (aR _) a
theorem Aow {u:Val}{nm key:ByteArray}(a:u.k=5)(b:Cw u.f)(c:nm≠key)(x:Val):(Ez u key x).get nm=u.get nm:=by
 apply Option.ext
 intro w
 rw[Ajb rfl (Jf u key x),Ajb a b,Rh a b]
 constructor
 ·rintro (⟨_,h⟩ | h)
  ·exact h
  ·exact absurd (congrArg Prod.fst h) c
 ·exact λh=> .inl ⟨c,h⟩
theorem Bde (o:Option Val)(nm:ByteArray):(o.getD E7).get nm=o.bind λv=>v.get nm:=by
 cases o<;>rfl
theorem Aqz {u:Val}{nm:ByteArray}{x:Val}{m:Nat}(d:u.k=5)(a:x.Ap<=m+((u.get nm).map gP).getD 0):(Ez u nm x).Ap <=u.Ap+(1+nm.size+m):=by
 have e:Ci (Ez u nm x).f <=Ci (D4 u nm)+(1+nm.size+x.Ap):=by
  have h:Ci (Ez u nm x).f <=Ci (D4 u nm++ [(nm,x)]):=Q0 _
  rw[Ij,B7,Ch]at h
  exact h
 have o:=u.Bv
 have b:=(Ez u nm x).Bv
 have g:(Ez u nm x).s =An:=rfl
 have i:(Ez u nm x).l = []:=rfl
 have j:D4 u nm=u.f.filter λp=> !decide (p.1=nm):=by unfold D4;rw[if_pos d]
 rw[g,i,Ed,show An.size=0 from rfl]at b
 rw[j]at e
 cases c:u.get nm with
 | none=>
  rw[c]at a
  have:=J1 (λp=> !decide (p.1=nm)) u.f
  simp only[cV,cZ]at a
  omega
 | some y=>
  rw[c]at a
  have:=Ki (Ea c).1
  simp only[aJ,aL]at a
  omega
theorem Ag7 (g:ByteArray × Val->Val): ∀ (l:List (ByteArray × Val)) (out:Val),Cw l->out.k=5->Cw out.f->(∀p∈l,(g p).Ap <=p.2.Ap+((out.get p.1).map gP).getD 0)->
  (l.foldl (λo p=>Ez o p.1 (g p)) out).Ap <=out.Ap+Ci l
 | [],out,_,_,_,_=>aR _
 | p::l,out,i,c,j,d=>by
  obtain⟨a,b⟩:=bN.1 i
  have m:=Aqz (x:=g p) c (d p (by simp))
  have r:=Ag7 g l (Ez out p.1 (g p)) b rfl (Jf _ _ _) λq h=>by
   rw[Aow c j (λe=>Kz (a q h) e.symm)]
   exact d q (by simp[h])
  rw[fH,B7]
  omega
def Asv (s:Sch)(C:List Val):List Val->Nat
 | []=>0
 | x::L=>((Nz s C (Dr x s.key)).map gP).getD 0+Asv s C L
theorem Wf (s:Sch)(e:Val)(C:List Val)(k:ByteArray):Nz s (e::C) k=if Dr e s.key=k then some e else Nz s C k:=by
 unfold Nz
 rw[bW]
 by_cases c:Dr e s.key=k<;>simp[c]
theorem Aoc (s:Sch): ∀L:List Val,Asv s [] L=0
 | []=>rfl
 | x::L=>by rw[Asv,Aoc s L];rfl
theorem Agd (s:Sch)(e:Val)(C:List Val): ∀ (L:List Val) (acc:List ByteArray),Em s.key acc L=true->(Dr e s.key∈acc->Asv s (e::C) L<=Asv s C L)/\Asv s (e::C) L<=Asv s C L+(if(Nz s L (Dr e s.key)).isSome then e.Ap else 0)
 | [],acc,_=>⟨λ_=>aR _,eB _ _⟩
 | x::L,acc,h=>by
  have b:=K0 h x (by simp)
  have h':=h
  simp only[Em,aE]at h'
  obtain⟨i1,i2⟩:=Agd s e C L (acc++ [Dr x s.key]) h'.2
  rw[Asv,Asv,Wf,Wf]
  by_cases c:Dr e s.key=Dr x s.key
  ·have d:=i1 (by rw[c];simp)
   have c':Dr x s.key=Dr e s.key:=c.symm
   rw[if_pos c,if_pos c']
   refine⟨λa=>absurd (c ▸ a) b,?_⟩
   simp only[aJ,aL,aZ,Zt]
   omega
  ·have c': ¬ Dr x s.key=Dr e s.key:=λe=>c e.symm
   rw[if_neg c,if_neg c']
   refine⟨λa=>?_,by omega⟩
   have:=i1 (dK _ a)
   omega
theorem Ax0 (s:Sch)(L:List Val)(acc:List ByteArray)(h:Em s.key acc L=true): ∀C:List Val,Asv s C L+Dp (C.filter λe=>(Nz s L (Dr e s.key)).isNone)<=Dp C
 | []=>by rw[Aoc];exact aR _
 | e::C=>by
  have c:=Ax0 s L acc h C
  have a:=(Agd s e C L acc h).2
  rw[aW,Ej]
  cases b:Nz s L (Dr e s.key) with
  | none=>
   rw[b]at a
   simp only[cD,aB,Zf,Option.isNone_none,Zt]at a ⊢
   rw[Ej];omega
  | some y=>
   rw[b]at a
   simp only[aZ,Zt,Option.isNone_some,aB,Zf]at a ⊢
   omega
theorem Akv: ∀ (n:Nat) (s:Sch) (c:Val) (o:Option Val),SB s->c.valid=true->Fit s c->(∀v,o=some v->S3 v/\Fit s v)->(mg n s c o).Ap <=c.Ap+(o.map gP).getD 0
 | 0,s,c,o,_,_,_,_=>eB _ _
 | n+1,s,c,o,g,u,a,q=>by
  have S:=c.Bv
  rw[mg]
  split
  ·cases o with
   | none=>exact eB _ _
   | some v=>exact gJ _ _
  ·split
   ·rename_i F
    have G:(o.getD E7).k =5/\Cw (o.getD E7).f /\(o.getD E7).Ap <=6+(o.map gP).getD 0:=by
     cases o with
     | none=>exact⟨rfl,bQ,by show E7.Ap<=6+0;rw[fT];exact aR _⟩
     | some v=>exact⟨by rw[aL,(q v rfl).2.kind,<-a.kind,F],(q v rfl).1.strict,gJ _ _⟩
    have z:(o.getD E7).Ap +Ci c.f<=c.Ap+(o.map gP).getD 0:=by omega
    refine cL (Ag7 (λp=>mg n ((D5 s p.1).getD Bg) p.2 (o.bind λv=>v.get p.1)) c.f _ (H6 u) G.1 G.2.1 λp hp=>?_) z
    obtain⟨t,d⟩:=bV.1 (a.known p hp)
    show(mg n ((D5 s p.1).getD Bg) p.2 (o.bind λv=>v.get p.1)).Ap <=_
    rw[Bde,d,aL]
    refine Akv n t p.2 _ (g.sub d) (Gj u hp).1 (a.fld p hp t d) λv H=>?_
    obtain⟨w,rfl,I⟩:=cP.1 H
    obtain⟨A,r⟩:=q w rfl
    exact⟨A.get I,r.fld _ (Ea I).1 t d⟩
   ·split
    ·rename_i F b
     rw[aE]at b
     obtain⟨v,rfl⟩:=bV.1 b.2
     obtain⟨A,r⟩:=q v rfl
     have B:=r.keyed b.1
     have H:=v.Bv
     have T:=Ax0 s v.l [] B c.l
     have M: ∀L:List Val,(∀x∈L,x∈v.l)->Dp (L.map λx=>((Nz s c.l (Dr x s.key)).map λe=>mg n (s.it.headD Bg) e (some x)).getD x)<=Dp L+Asv s c.l L:=by
      intro L
      induction L with
      | nil=>intro _;exact aR _
      | cons x L N=>
       intro J
       have i:=N λy C=>J y (by simp[C])
       have j:=J x (by simp)
       rw[aK,Ej,Ej,Asv]
       cases Q:Nz s c.l (Dr x s.key) with
       | none=>simp only[cV,cZ];omega
       | some e=>
        have K:e∈c.l:=bU Q
        simp only[aJ,aL]
        obtain⟨t,m⟩:=bA.1 (g.list (Cs.1 b.1).1)
        have d:t∈s.it:=by rw[m];simp
        have:=Akv n t e (some x) (g.Iu d) (Gx u K) (a.el e K t d) λy C=>by cases C;exact⟨A.Lh x j,r.el x j t d⟩
        have e1:s.it.headD Bg=t:=by rw[m];rfl
        simp only[aJ,aL]at this
        rw[<-e1]at this
        omega
     have R:=M v.l λ_ h=>h
     simp only[aL,aJ]
     rw[fT]
     simp only[fE,dG,dH,Ch,Ri,show An.size=0 from rfl]
     omega
    ·exact eB _ _
end Go.CT.Sch
namespace Go.CT.Sch
open Go.Proofs
theorem Abm (u:Val)(nm:ByteArray)(x:Val):(Ez u nm x).f.length <=u.f.length+1:=by
 have a:=Ao9 (D4 u nm++ [(nm,x)])
 have b:=Wp u nm
 rw[aM,bD]at a
 show(Zi (D4 u nm++ [(nm,x)])).length <=_
 omega
theorem Abv {K:Nat}{u x:Val}(nm:ByteArray)(a:Gs K u)(b:Gs K x)(c:u.f.length+1<=K):Gs K (Ez u nm x):=by
 obtain⟨m,rfl⟩: ∃m,K=m+1:=⟨K - 1,by omega⟩
 exact Aav nm a b (by omega)
theorem Ag0 {K:Nat}(g:ByteArray × Val->Val): ∀ (l:List (ByteArray × Val)) (out:Val),out.f.length+l.length<=K->Gs K out->(∀p∈l,Gs K (g p))->Gs K (l.foldl (λo p=>Ez o p.1 (g p)) out)
 | [],_,_,h,_=>h
 | p::l,out,b,h,a=>by
  simp only[bX]at b
  have d:=Abm out p.1 (g p)
  rw[fH]
  exact Ag0 g l _ (by omega) (Abv _ h (a p (by simp)) (by omega)) λq c=>a q (by simp[c])
theorem Ax9 {N:Nat}{v x:Val}{nm:ByteArray}(h:Gs N v)(a:v.get nm=some x):Gs N x:=h.J9 (Ea a).1
theorem Ajm {N M:Nat} : ∀ (n:Nat) (s:Sch) (c:Val) (o:Option Val),Gs N c->(∀v,o=some v->Gs M v)->Gs (M+N) (mg n s c o)
 | 0,_,c,_,h,_=>h.mono (by omega)
 | n+1,s,c,o,a,b=>by
  rw[mg]
  split
  ·cases o with
   | none=>exact a.mono (by omega)
   | some v=>exact(b v rfl).mono (by omega)
  ·split
   ·have m:Gs (M+N) (o.getD E7)/\(o.getD E7).f.length <=M:=by
     cases o with
     | none=>exact⟨by constructor<;>simp[E7],dC _⟩
     | some v=>exact⟨(b v rfl).mono (by omega),(b v rfl).Om⟩
    have B:=a.Om
    refine Ag0 (λp=>mg n ((D5 s p.1).getD Bg) p.2 (o.bind λv=>v.get p.1)) c.f _ (by omega) m.1 λp hp=>?_
    refine Ajm n _ p.2 _ (a.J9 hp) λv d=>?_
    obtain⟨w,rfl,q⟩:=cP.1 d
    exact Ax9 (b w rfl) q
   ·split
    ·rename_i C g
     rw[aE]at g
     obtain⟨v,rfl⟩:=bV.1 g.2
     have d:=b v rfl
     refine .mk _ ?_ (dC _) ?_ (by simp)
     ·have F:=d.U4
      have G:=a.U4
      have H:=cH (λe=>(Nz s v.l (Dr e s.key)).isNone) c.l
      simp only[dG,aM,aH,aL]
      omega
     ·intro x i
      rcases bY.1 i with i | i
      ·obtain⟨y,r,rfl⟩:=bB.1 i
       have j:y∈v.l:=r
       cases t:Nz s c.l (Dr y s.key) with
       | none=>exact(d.Lh j).mono (by omega)
       | some e=>
        have u:e∈c.l:=bU t
        exact Ajm n _ e (some y) (a.Lh u) λz A=>by cases A;exact d.Lh j
      ·exact(a.Lh (cG.1 i).1).mono (by omega)
    ·exact a.mono (by omega)
theorem Adg (v:Val)(b:Gs 1073741824 v):W F200 0 [v.enc]=some [v.enc]:=by
 have h:=Mg [v] (by simp) (λx a=>by simp at a;subst a;exact b)
 simp only[aK,aN]at h
 rw[dD]at h
 rw[A1r]
 simp only[dP,aA,h,fP,dG,aK,aN]
 rfl
theorem Afc (s:Sch)(l:List Val)(k:ByteArray)(e: ∀x∈l,x.Ap<=1048576/\isKey x s.key=true)(j:l.length<=1048576)(a b c:IV)(g:(IV.agg [.int 0,.int 0,.str ⟨#[]⟩,.list [],.list []])=Ar.enc): ∀ (n i:Nat),i+n=l.length->
  W F202 1 [.str k,.list (l.map bI),.int l.length,.int i,s.enc,a,b,c]=some [((Nz s (l.drop i) k).getD Ar).enc,.bool (Nz s (l.drop i) k).isSome]
 | 0,i,h=>by
  have:i=l.length:=by omega
  subst this
  rw[Am3,aO]
  simp only[ltn,aA,aS,aB,Zf,dB,g]
  rfl
 | n+1,i,h=>by
  have d:i<l.length:=by omega
  obtain⟨m,o⟩:=e _ (aF d)
  have q:=Afc s l k e j a b c g n (i+1) (by omega)
  rw[Am3,aC d,Wf]
  simp only[lti d,aA,aS,Zt,Kg bI d,Ap7 s l[i] m,o,fD,gH,nxt (show i<4611686018427387904 by omega),q]
  by_cases c:Dr l[i] s.key=k<;>simp[c]
theorem At3 (s:Sch)(l:List Val)(k:ByteArray)(a: ∀x∈l,x.Ap<=1048576/\isKey x s.key=true)(b:l.length<=1048576):W F202 0 [s.enc,.list (l.map bI),.str k]=some [((Nz s l k).getD Ar).enc,.bool (Nz s l k).isSome]:=by
 have:=Afc s l k a b (.int 0) (.int 0) (.str ⟨#[]⟩) rfl l.length 0 (by omega)
 simp only[aD,aG]at this
 rw[A2e,G5]
 exact this
def Old (s:Sch)(o:Option Val):Prop:= ∀v,o=some v->v.Ap<=1048576/\S3 v/\Fit s v
def MgP (n:Nat):Prop:= ∀ (s:Sch) (c:Val) (o:Option Val),c.size<=n->SB s->s.Ap<=1048576->c.Ap<=1048576->c.valid=true->Fit s c->Old s o->
 W Bf3 0 [s.enc,c.enc,(o.getD Ar).enc,.bool o.isSome]=some [(mg n s c o).enc]
theorem zget (o:Option Val)(nm:ByteArray):(o.getD Ar).get nm=o.bind λv=>v.get nm:=by cases o<;>rfl
theorem Old.get {s t:Sch}{o:Option Val}(h:Old s o){nm:ByteArray}(b:D5 s nm=some t):Old t (o.bind λv=>v.get nm):=by
 intro v c
 obtain⟨w,rfl,a⟩:=cP.1 c
 obtain⟨g,d,e⟩:=h w rfl
 have:nm.size+v.Ap<w.Ap:=fS (Ea a).1
 exact⟨by omega,d.get a,e.fld _ (Ea a).1 t b⟩
theorem Aop {s:Sch}{o:Option Val}(h:Old s o):(o.getD Ar).Ap <=1048576:=by
 cases o with
 | none=>decide+kernel
 | some v=>exact(h v rfl).1
theorem Aon {n:Nat}{s:Sch}{c:Val}{o:Option Val}(d:c.Ap<=1048576)(a:Old s o): ∀ (t:Sch),Gs 2097152 (mg n t c o):=λt=>
 Ajm (N:=1048576) (M:=1048576) n t c o (C6 c (by omega)) λv b=>C6 v (by have:=(a v b).1;omega)
theorem A7m (n:Nat)(y:MgP n)(s:Sch)(c:Val)(o:Option Val)(H:c.size<=n+1)(d:SB s)(z:s.Ap<=1048576)(I:c.Ap<=1048576)(A:c.valid=true)(m:Fit s c)(q:Old s o)(r a2 a3:IV)(b0:Val)(B:Gs 2097152 b0)(C:b0.f.length<=1048576):
  W Bf3 2 [.list (c.f.map aY),.int c.f.length,.int (0:Nat),s.enc,(o.getD Ar).enc,r,a2,a3,b0.enc]=some [(c.f.foldl (λout p=>Ez out p.1 (mg n ((D5 s p.1).getD Bg) p.2 (o.bind λv=>v.get p.1))) b0).enc]:=by
 have hlen:=c.Bc
 refine Ag8 c.f (λi (b:Val)=>Gs 2097152 b/\b.f.length<=1048576+i) (λi b=>W Bf3 2 [.list (c.f.map aY),.int c.f.length,.int i,s.enc,(o.getD Ar).enc,r,a2,a3,b.enc]) (λout p=>Ez out p.1 (mg n ((D5 s p.1).getD Bg) p.2 (o.bind λv=>v.get p.1))) (λb=>some [b.enc]) b0 ?_ ?_ ⟨B,by omega⟩
 ·intro i j b u
  have e:=aF j
  have J:=fS e
  have K:=gN e
  obtain⟨t,a⟩:=bV.1 (m.known _ e)
  have F:=Alb a
  have g:=q.get a
  have w:=Aon (n:=n) (c:=c.f[i].2) (by omega) g t
  have G:=y t c.f[i].2 (o.bind λv=>v.get c.f[i].1) (by omega) (d.sub a) (by omega) (by omega) (Gj A e).1 (m.fld _ e t a) g
  have x:=Z8 (o.getD Ar) c.f[i].1 (by have:=Aop q;omega)
  have h:=Aig b c.f[i].1 (mg n t c.f[i].2 (o.bind λv=>v.get c.f[i].1)) (u.1.mono (by omega)) (w.mono (by omega))
  rw[dD]at h
  rw[zget]at x
  refine⟨?_,?_⟩
  ·rw[Aoi]
   simp only[lti j,aA,aS,Zt,Kg aY j,gE,Apz s _ z d,a,oE,aL,aZ,fD,x,Ix,I8,fU,dB,eT,G,bM,h,fP,nxt (show i<4611686018427387904 by omega)]
  ·simp only[a,aL]
   have:=Abm b c.f[i].1 (mg n t c.f[i].2 (o.bind λv=>v.get c.f[i].1))
   exact⟨Abv _ u.1 w (by omega),by omega⟩
 ·intro b _
  rw[Aoi]
  simp only[ltn,aA,aS,aB,Zf]
def mgE (n:Nat)(s t:Sch)(c:Val)(x:Val):Val:=((Nz s c.l (Dr x s.key)).map λe=>mg n t e (some x)).getD x
theorem Vu (s:Sch)(c lv:Val)(r:c.Ap<=1048576)(b:lv.Ap<=1048576)(t: ∀x∈c.l,isKey x s.key=true)(a: ∀x∈lv.l,isKey x s.key=true)(o a2 a3:IV): ∀ (m i:Nat) (acc:List Val),i+m=c.l.length->acc.length<=1048576+i->(∀x∈acc,Gs 1073741824 x)->
  W Bfx 3 [.list (c.l.map bI),.int c.l.length,.int i,s.enc,lv.enc,o,a2,a3,.list (acc.map bI)]=some (gV ⟨4,0,An,acc++(c.l.drop i).filter (λe=>(Nz s lv.l (Dr e s.key)).isNone),[]⟩)
 | 0,i,acc,h,w,d=>by
  have:i=c.l.length:=by omega
  subst this
  have y:=c.B5
  have u:=Mg acc (by omega) d
  rw[dD]at u
  rw[Aob,aO,cE,aQ,dD]
  simp only[ltn,aA,aS,aB,Zf,u,fP]
 | m+1,i,acc,h,w,d=>by
  have g:i<c.l.length:=by omega
  have y:=c.B5
  have z:=lv.B5
  have A:=aF g
  have B:=eG A
  have i1:=Vu s c lv r b t a o a2 a3 m (i+1) acc (by omega) (by omega) d
  have i2:=Vu s c lv r b t a o a2 a3 m (i+1) (acc++ [c.l[i]]) (by omega) (by simp;omega) (λx j=>by
   rcases bY.1 j with h | h
   ·exact d x h
   ·rw[bT]at h;subst h;exact C6 _ (by omega))
  have q:=At3 s lv.l (Dr c.l[i] s.key) (λx j=>⟨by have:=eG j;omega,a x j⟩) (by omega)
  rw[Aob,aC g,aW]
  simp only[lti g,aA,aS,Zt,Kg bI g,Ap7 s c.l[i] (by omega),fD,cN,q,dN,dP,apm bI (n:=80) acc c.l[i] (by omega)]
  rw[Ao4,Ao4]
  simp only[nxt (show i<4611686018427387904 by omega),aA,i1,i2]
  cases Nz s lv.l (Dr c.l[i] s.key)<;>simp
theorem Aqd (n:Nat)(L:MgP n)(s t:Sch)(c lv:Val)(S:c.size<=n+1)(d:SB s)(T:s.Ap<=1048576)(M:c.Ap<=1048576)(N:c.valid=true)(b:s.it= [t])(Q:Fit s c)(g:lv.Ap<=1048576)(j:S3 lv)(o:Fit s lv)(A: ∀x∈c.l,isKey x s.key=true)(q: ∀x∈lv.l,isKey x s.key=true)(r a2 a3:IV): ∀ (m i:Nat) (acc:List Val),i+m=lv.l.length->acc.length<=i->(∀x∈acc,Gs 1073741824 x)->
  W Bfx 1 [.list (lv.l.map bI),.int lv.l.length,.int i,s.enc,c.enc,lv.enc,r,a2,a3,.list (acc.map bI)]=some (gV ⟨4,0,An,(acc++(lv.l.drop i).map (mgE n s t c))++c.l.filter (λe=>(Nz s lv.l (Dr e s.key)).isNone),[]⟩)
 | 0,i,acc,h,U,B=>by
  have:i=lv.l.length:=by omega
  subst this
  have X:=c.B5
  have C:=lv.B5
  have F:=Vu s c lv M g A q r a2 a3 c.l.length 0 acc (by omega) (by omega) B
  rw[aG]at F
  simp only[aD]at F
  rw[Adm,aO,aN,aQ]
  simp only[ltn,aA,aS,aB,Zf,cN,G5]
  exact F
 | m+1,i,acc,h,U,B=>by
  have u:i<lv.l.length:=by omega
  have X:=c.B5
  have C:=lv.B5
  have G:=aF u
  have h1:=eG G
  have a:t∈s.it:=by rw[b];simp
  have Y:=fB a
  have step: ∀x:Val,Gs 1073741824 x->W Bfx 2 [.list (lv.l.map bI),.int lv.l.length,.int i,s.enc,c.enc,lv.enc,r,a2,a3,.list (acc.map bI),x.enc]=some (gV ⟨4,0,An,(acc++x::(lv.l.drop (i+1)).map (mgE n s t c))++c.l.filter (λe=>(Nz s lv.l (Dr e s.key)).isNone),[]⟩):=by
   intro x w
   have i2:=Aqd n L s t c lv S d T M N b Q g j o A q r a2 a3 m (i+1) (acc++ [x]) (by omega) (by simp;omega) (λy H=>by
    rcases bY.1 H with h | h
    ·exact B y h
    ·rw[bT]at h;subst h;exact w)
   rw[A06]
   simp only[dP,aA,apm bI (n:=80) acc x (by omega),nxt (show i<4611686018427387904 by omega),i2,bH,bC]
  have I:=At3 s c.l (Dr lv.l[i] s.key) (λx w=>⟨by have:=eG w;omega,A x w⟩) (by omega)
  rw[Adm,aC u,aK]
  simp only[lti u,aA,aS,Zt,Kg bI u,Ap7 s lv.l[i] (by omega),fD,cN,I]
  unfold mgE at step ⊢
  cases J:Nz s c.l (Dr lv.l[i] s.key) with
  | none=>
   have:=step lv.l[i] (C6 _ (by omega))
   simp only[cD,aB,Zf,cV,cZ]
   exact this
  | some e=>
   have z:e∈c.l:=bU J
   have Z:=eG z
   have aa:=gO z
   have hold:Old t (some lv.l[i]):=λy H=>by cases H;exact⟨by omega,j.Lh _ G,o.el _ G t a⟩
   have R:=L t e (some lv.l[i]) (by omega) (d.Iu a) (by omega) (by omega) (Gx N z) (Q.el e z t a) hold
   have K:=Aon (n:=n) (c:=e) (by omega) hold t
   have:=step (mg n t e (some lv.l[i])) (K.mono (by omega))
   have ix:gM (.list (s.it.map cR)) (.int 0)=some t.enc:=by rw[b];rfl
   simp only[aL,aZ]at R
   simp only[aZ,Zt,dU,aA,ix,aL,R,bM,aJ]
   exact this
theorem Bb8 (n:Nat)(j:MgP n)(s t:Sch)(c lv:Val)(m:c.size<=n+1)(a:SB s)(o:s.Ap<=1048576)(q:c.Ap<=1048576)(r:c.valid=true)(b:s.it= [t])(u:Fit s c)(d:lv.Ap<=1048576)(g:S3 lv)(h:Fit s lv)(w: ∀x∈c.l,isKey x s.key=true)(i: ∀x∈lv.l,isKey x s.key=true):
  W Bfx 0 [s.enc,c.enc,lv.enc]=some (gV ⟨4,0,An,lv.l.map (mgE n s t c)++c.l.filter (λe=>(Nz s lv.l (Dr e s.key)).isNone),[]⟩):=by
 have:=Aqd n j s t c lv m a o q r b u d g h w i (.int 0) (.int 0) (.str ⟨#[]⟩) lv.l.length 0 [] (by omega) (aR _) (by simp)
 simp only[aD,aG,bG,aN]at this
 rw[Amm]
 simp only[cN,aA,G5]
 exact this
theorem Baq {c:Val}(h:c.valid=true)(a:c.k=5):c=⟨5,0,An,[],c.f⟩:=by
 obtain⟨b,d,e⟩:=(D.Ow h).map a
 conv=>lhs;rw[Val.eta c,b,d,e,a]
theorem A2t {c:Val}(h:c.valid=true)(a:c.k=4):c=⟨4,0,An,c.l,[]⟩:=by
 obtain⟨b,d,e⟩:=(D.Ow h).list a
 conv=>lhs;rw[Val.eta c,b,d,e,a]
end Go.CT.Sch
namespace Go.CT.Sch
open Go.Proofs
theorem Kp {α:Type}{p q:α->Bool} : ∀ {l:List α},(∀x∈l,p x=q x)->l.find? p=l.find? q
 | [],_=>rfl
 | x::l,h=>by rw[bW,bW,h x (by simp),Kp λy a=>h y (by simp[a])]
theorem Ama (g:ByteArray × Val->Val)(nm:ByteArray): ∀ (l:List (ByteArray × Val)) (out:Val),Cw l->out.k=5->Cw out.f->
  (l.foldl (λo p=>Ez o p.1 (g p)) out).get nm=((l.find? λp=>decide (p.1=nm)).map g).or (out.get nm)
 | [],out,_,_,_=>by simp
 | p::l,out,j,h,i=>by
  obtain⟨a,b⟩:=bN.1 j
  rw[fH,Ama g nm l _ b rfl (Jf _ _ _),bW]
  by_cases c:p.1=nm
  ·have d:(l.find? λq=>decide (q.1=nm))=none:=by
    rw[dW]
    intro q m
    have:=Kz (a q m)
    simp only[decide_eq_true_eq]
    intro e
    exact this (by rw[c,e])
   rw[d,<-c,Un out h i]
   simp
  ·have c': ¬ nm=p.1:=λe=>c e.symm
   rw[Aow h i c']
   simp[c]
theorem A0r {s:Sch}{c:Val}(b:Fit s c)(h:kids (some s) c= []):(c.k=5->c.f= [])/\(E9 s=true->c.l= []):=by
 have e:=b.kind
 rw[kids,if_pos e.symm]at h
 refine⟨λg=>?_,λd=>?_⟩
 ·rw[if_pos g]at h;exact fQ.1 h
 ·obtain⟨i,a⟩:=Cs.1 d
  rw[if_neg (by omega),if_pos ⟨by omega,a,b.keyed d⟩]at h
  exact fQ.1 h
theorem Ade {s:Sch}{c:Val} :emS s c=true↔(c.k=5/\c.f= [])\/(c.k=4/\c.l= []/\E9 s=true):=by
 simp[emS,and_assoc,cC]
theorem Awg {n:Nat}{s:Sch}{c:Val}{o:Option Val}(b:Fit s c)(h:kids (some s) c= [])(d:emS s c=false):mg n s c o=c:=by
 obtain⟨g,i⟩:=A0r b h
 have a: ¬ emS s c=true:=by simp[d]
 rw[Ade]at a
 cases n with
 | zero=>rfl
 | succ n=>
  rw[mg,d,if_neg (by simp),if_neg (λe=>a (.inl ⟨e,g e⟩)),if_neg]
  intro e
  rw[aE]at e
  have j:=b.kind
  exact a (.inr ⟨by have:=(Cs.1 e.1).1;omega,i e.1,e.1⟩)
def Was (s:Sch)(o:Option Val):Prop:= ∀v,o=some v->S3 v/\Fit s v
theorem Was.get {s t:Sch}{o:Option Val}(h:Was s o){nm:ByteArray}(b:D5 s nm=some t):Was t (o.bind λv=>v.get nm):=by
 intro v c
 obtain⟨w,rfl,a⟩:=cP.1 c
 obtain⟨d,e⟩:=h w rfl
 exact⟨d.get a,e.fld _ (Ea a).1 t b⟩
theorem A36 {s:Sch}{o:Option Val}(h:Was s o)(a:s.k=5):(o.getD E7).k =5/\Cw (o.getD E7).f :=by
 cases o with
 | none=>exact⟨rfl,bQ⟩
 | some v=>exact⟨(h v rfl).2.kind.trans a,(h v rfl).1.strict⟩
theorem A2b {c:Val}(a:c.k=5)(nm:ByteArray):c.get nm=(c.f.find? λp=>decide (p.1=nm)).map (·.2):=by
 unfold gS;rw[if_pos a]
theorem Awc {n:Nat}{s:Sch}{c:Val}{o:Option Val}(d:c.valid=true)(g:Fit s c)(b:c.k=5)(a:c.f≠ [])(i:Was s o)(nm:ByteArray):
  (mg (n+1) s c o).get nm=((c.get nm).map λe=>mg n ((D5 s nm).getD Bg) e (o.bind λv=>v.get nm)).or (o.bind λv=>v.get nm):=by
 have r:=g.kind
 obtain⟨b1,b2⟩:=A36 i (by omega)
 have j:emS s c=false:=by
  rw[<-dA,Ade]
  rintro (⟨_,h⟩ | ⟨h,_⟩)
  ·exact a h
  ·omega
 rw[mg,j,if_neg (by simp),if_pos b,Ama _ nm _ _ (H6 d) b1 b2,Bde,A2b b,Option.map_map]
 congr 1
 cases m:c.f.find? λp=>decide (p.1=nm) with
 | none=>rfl
 | some q=>
  have:q.1=nm:=by simpa using eI m
  simp only[aJ,Function.comp,this]
theorem Bd5 {n:Nat}{u:Sch}(a:u.k=3)(b:ByteArray)(o:Option Val):mg n u (Qe b) o=Qe b:=by
 refine Awg (Amy a b) ?_ ?_
 ·rw[kids]
  split
  ·rw[if_neg (show ¬ (Qe b).k =5 from show ¬ (3:Int)=5 by decide),if_neg (λh=>absurd (show(3:Int)=4 from h.1) (by decide))]
  ·rfl
 ·rw[<-dA,Ade]
  rintro (⟨h,_⟩ | ⟨h,_⟩)<;>exact absurd h (by simp[Qe])
theorem Bfj {n:Nat}{t u:Sch}{e x:Val}{key:ByteArray}(c:e.valid=true)(a:Fit t e)(g:S3 x)(b:Fit t x)(h:D5 t key=some u)(i:u.k=3)(ke:isKey e key=true)(d:Dr e key=Dr x key):
  isKey (mg n t e (some x)) key=true/\Dr (mg n t e (some x)) key=Dr x key:=by
 obtain⟨e5,em,eg⟩:=Md c ke
 cases n with
 | zero=>exact⟨ke,d⟩
 | succ n=>
  have:=Awc (n:=n) (o:=some x) c a e5 (eN em) (λv j=>by cases j;exact⟨g,b⟩) key
  rw[eg,h,aJ,aL,Bd5 i,fM]at this
  unfold isKey Dr
  rw[this,d]
  exact⟨by simp[Qe],rfl⟩
structure KL (s t:Sch)(c v:Val):Prop where
 ks:E9 s=true
 it:s.it= [t]
 u: ∃u,D5 t s.key=some u/\u.k=3
 vs:s.valid=true
 vc:c.valid=true
 fc:Fit s c
 nv:S3 v
 fv:Fit s v
theorem KL.mem {s t:Sch}{c v:Val}(h:KL s t c v):t∈s.it:=by rw[h.it];simp
theorem KL.kc {s t:Sch}{c v:Val}(h:KL s t c v): ∀e∈c.l,isKey e s.key=true:=Dk (h.fc.keyed h.ks)
theorem KL.kv {s t:Sch}{c v:Val}(h:KL s t c v): ∀e∈v.l,isKey e s.key=true:=Dk (h.fv.keyed h.ks)
theorem Bgu {s:Sch}{c v:Val}(a:s.valid=true)(b:E9 s=true)(e:c.valid=true)(g:Fit s c)(h:S3 v)(i:Fit s v): ∃t,KL s t c v:=by
 obtain⟨t,d⟩:=bA.1 ((eA a).list (Cs.1 b).1)
 exact⟨t,b,d,(Qk a b (by rw[d];simp)).2,a,e,g,h,i⟩
theorem Aic {s:Sch}{l:List Val}{k:ByteArray}{x:Val}(h:Nz s l k=some x):x∈l/\Dr x s.key=k:=
 ⟨bU h,by simpa using eI h⟩
theorem Awo {n:Nat}{s t:Sch}{c v:Val}(h:KL s t c v): ∀x∈v.l,isKey (mgE n s t c x) s.key=true/\Dr (mgE n s t c x) s.key=Dr x s.key:=by
 intro x a
 unfold mgE
 cases d:Nz s c.l (Dr x s.key) with
 | none=>exact⟨h.kv x a,rfl⟩
 | some e=>
  obtain⟨b,g⟩:=Aic d
  obtain⟨u,i,j⟩:=h.u
  exact Bfj (Gx h.vc b) (h.fc.el e b t h.mem) (h.nv.Lh x a) (h.fv.el x a t h.mem) i j (h.kc e b) g
theorem Agc {s:Sch}{c:Val}(a:E9 s=true)(b:Fit s c){y:Val}(d:y∈c.l):Nz s c.l (Dr y s.key)=some y:=by
 have h:=b.keyed a
 rw[<-Ack h y d]
 exact Kp λx e=>(Ac7 (Dk h x e) _).symm
def mgL (n:Nat)(s t:Sch)(c v:Val):List Val:=v.l.map (mgE n s t c)++c.l.filter λe=>(Nz s v.l (Dr e s.key)).isNone
theorem Bcb {n:Nat}{s t:Sch}{c v:Val}(h:KL s t c v): ∀x∈mgL n s t c v,isKey x s.key=true:=by
 intro x a
 rcases bY.1 a with a | a
 ·obtain⟨y,b,rfl⟩:=bB.1 a
  exact(Awo h y b).1
 ·exact h.kc x (cG.1 a).1
theorem A1a {n:Nat}{s t:Sch}{c v:Val}(h:KL s t c v)(k:ByteArray):Nz s (mgL n s t c v) k=((Nz s v.l k).map (mgE n s t c)).or (Nz s c.l k):=by
 unfold mgL
 rw[Nz,fZ,List.find?_map]
 have a:v.l.find? ((λx=>decide (Dr x s.key=k)) ∘ mgE n s t c)=Nz s v.l k:=Kp λx b=>by
  show decide (Dr (mgE n s t c x) s.key=k)=_
  rw[(Awo h x b).2]
 rw[a]
 cases d:Nz s v.l k with
 | some x=>rfl
 | none=>
  rw[cV,fN,fN,List.find?_filter]
  refine Kp λe _=>?_
  by_cases c:Dr e s.key=k
  ·rw[c,d];simp
  ·simp[c]
theorem A1n {n:Nat}{s t:Sch}{c v:Val}(h:KL s t c v)(k:ByteArray):(mgL n s t c v).find? (hasB s.key k)=((Nz s v.l k).map (mgE n s t c)).or (Nz s c.l k):=by
 rw[<-A1a h k]
 exact Kp λx a=>Ac7 (Bcb h x a) k
theorem mg4 {n:Nat}{s t:Sch}{c v:Val}(h:KL s t c v)(a:c.l≠ []):mg (n+1) s c (some v)=⟨4,0,An,mgL n s t c v,[]⟩:=by
 have d:=h.fc.kind
 have e:=(Cs.1 h.ks).1
 have b:emS s c=false:=by
  rw[<-dA,Ade]
  rintro (⟨h,_⟩ | ⟨_,h,_⟩)
  ·omega
  ·exact a h
 rw[mg,b,if_neg (by simp),if_neg (by omega),h.ks,if_pos (by simp)]
 unfold mgL mgE
 rw[h.it]
 rfl
end Go.CT.Sch
namespace Go.CT.Sch
open Go.Proofs
theorem Asf {v:Val}(a:v.valid=true){x:ByteArray × Val}(b:x∈v.f):Dl (Cv x.1)=true:=by
 have:=(Gj a b).2
 unfold Dl Cv
 simp[this]
theorem Ar7 {x:Val}(a:x.valid=true){key:ByteArray}(d:isKey x key=true):Dl (Al2 key x)=true:=by
 obtain⟨h,c,i⟩:=Md a d
 have e:=(Gj a c).2
 have g:=Ah6 (Gj a c).1 rfl
 have b:Jj (Dr x key)=true:=g
 unfold Dl Al2
 simp[e,b]
end Go.CT.Sch
namespace Go.CT.Sch
open Go.Proofs
theorem Aed {v y:Val}{nm:ByteArray}{q:List Stp}(h:v.get nm=some y):Hb v (Cv nm::q)=Hb y q:=by
 simp only[Hb,Qu,Cv,Zt,h,aA]
theorem Aea {v y x:Val}{key:ByteArray}{q:List Stp}(a:v.k=4)(h:v.l.find? (hasB key (Dr x key))=some y):Hb v (Al2 key x::q)=Hb y q:=by
 have b: ¬ (3:Int)=1:=by decide
 have c: ¬ (3:Int)=2:=by decide
 simp only[Hb,Qu,Al2,b,c,Zf,a,Zt,h,aA]
theorem Ban {s t:Sch}{nm:ByteArray}{q:List Stp}(a:s.k=5)(h:D5 s nm=some t):atS s (Cv nm::q)=atS t q:=by
 simp only[atS,Sb,Cv,Zt,a,h,aA]
theorem A9t {s t:Sch}{x:Val}{q:List Stp}(b:E9 s=true)(h:s.it= [t]):atS s (Al2 s.key x::q)=atS t q:=by
 obtain⟨c,a⟩:=Cs.1 b
 have d: ¬ (3:Int)=1:=by decide
 have e: ¬ (3:Int)=2:=by decide
 simp[atS,Sb,Al2,c,a,h]
theorem Avt: ∀ (N:Nat) (s:Sch) (c:Val) (p:List Stp) (t:ByteArray),c.size<=N->s.valid=true->c.valid=true->Fit s c->t∈lv N (some s) c p->
  ∃q w u,t=Cn (p++q)/\Hb c q=some w/\(∀x∈q,Dl x=true/\x.k≠2)/\atS s q=some u/\ ∀ (m:Nat) (o:Option Val),Was s o-> ∃w',Hb (mg m s c o) q=some w'/\(w=w'\/emS u w=true)
 | 0,s,c,p,t,h,_,_,_,_=>by have:=c.size_pos;omega
 | N+1,s,c,p,t,h,Q,F,B,C=>by
  rw[lv]at C
  by_cases j:kids (some s) c= []
  ·rw[if_pos j,bT]at C
   refine⟨[],c,s,by simpa using C,rfl,by simp,rfl,λm o _=>⟨_,rfl,?_⟩⟩
   cases he:emS s c with
   | true=>exact .inr rfl
   | false=>exact .inl (Awg B j he).symm
  ·rw[if_neg j]at C
   obtain⟨x,I,C⟩:=cK.1 C
   obtain⟨J,_⟩:=Sr I
   obtain⟨s',e,h1,h2⟩:=Ma j
   cases e
   rcases h2 with⟨k5,T⟩ | ⟨k4,K,L,T⟩
   ·rw[T]at I
    obtain⟨y,a,rfl⟩:=bB.1 I
    obtain⟨u',b⟩:=bV.1 (B.known y a)
    have d:t∈lv N (D5 s y.1) y.2 (p++ [Cv y.1]):=C
    rw[b]at d
    have U:y.2.size<c.size:=J
    obtain⟨q,w,u,e1,M,X,Y,e5⟩:=Avt N u' y.2 _ t (by omega) (Sch.Xa Q b) (Gj F a).1 (B.fld y a u' b) d
    rw[bH,bC]at e1
    have G:c.get y.1=some y.2:=get_of_mem F a
    refine⟨Cv y.1::q,w,u,e1,by rw[Aed G];exact M,?_,by rw[Ban (by omega) b];exact Y,λm o R=>?_⟩
    ·intro z r
     rcases bK.1 r with rfl | r
     ·exact⟨Asf F a,show(1:Int)≠2 by decide⟩
     ·exact X z r
    ·cases m with
     | zero=>exact⟨w,by rw[mg,Aed G];exact M,.inl rfl⟩
     | succ m=>
      have:=Awc (n:=m) F B k5 (eN a) R y.1
      rw[G,aJ,fM,b,aL]at this
      rw[Aed this]
      exact e5 m _ (R.get b)
   ·have g:E9 s=true:=Cs.2 ⟨by omega,K⟩
    rw[T]at I
    obtain⟨y,a,rfl⟩:=bB.1 I
    obtain⟨S,A⟩:=bA.1 ((eA Q).list (Cs.1 g).1)
    have H:S∈s.it:=by rw[A];simp
    have d:t∈lv N s.it.head? y (p++ [Al2 s.key y]):=C
    rw[A,dR]at d
    have U:y.size<c.size:=J
    obtain⟨q,w,u,e1,M,X,Y,e5⟩:=Avt N S y _ t (by omega) (Sch.Vj Q H) (Gx F a) (B.el y a S H) d
    rw[bH,bC]at e1
    have Z:=Ack L y a
    have G:Hb c (Al2 s.key y::q)=some w:=by rw[Aea k4 Z];exact M
    refine⟨Al2 s.key y::q,w,u,e1,G,?_,by rw[A9t g A];exact Y,λm o R=>?_⟩
    ·intro z r
     rcases bK.1 r with rfl | r
     ·exact⟨Ar7 (Gx F a) (Dk L y a),show(3:Int)≠2 by decide⟩
     ·exact X z r
    ·cases m with
     | zero=>exact⟨w,G,.inl rfl⟩
     | succ m=>
      cases o with
      | none=>
       refine⟨w,?_,.inl rfl⟩
       have:mg (m+1) s c none=c:=by
        rw[mg]
        simp only[cD,dL,aB,Zf]
        rw[if_neg (by omega)]
       rw[this];exact G
      | some v=>
       obtain⟨o1,o2⟩:=R v rfl
       obtain⟨t'',hK⟩:=Bgu Q g F B o1 o2
       have:t''=S:=by have:=hK.it;rw[A]at this;simpa using this.symm
       subst this
       have i:=A1n (n:=m) hK (Dr y s.key)
       rw[Agc g B a]at i
       rw[mg4 hK (eN a)]
       cases hv:Nz s v.l (Dr y s.key) with
       | none=>
        rw[hv,cV,fN]at i
        exact⟨w,by rw[Aea rfl i];exact M,.inl rfl⟩
       | some x=>
        obtain⟨x1,x2⟩:=Aic hv
        rw[hv,aJ,fM]at i
        rw[Aea rfl i]
        unfold mgE
        rw[x2,Agc g B a,aJ,aL]
        exact e5 m (some x) λz r=>by cases r;exact⟨o1.Lh x x1,o2.el x x1 _ H⟩
end Go.CT.Sch
namespace Go.CT.Sch
open Go.Proofs
end Go.CT.Sch
namespace Go.CT.Sch
open Go.Proofs
theorem Vk: ∀n,MgP n
 | 0=>λs c o h=>by have:=c.size_pos;omega
 | n+1=>λs c o J d K I q z g=>by
  have R:=Aop g
  have A:=z.kind
  have L: ∀v,o=some v->v.k=c.k:=λv q=>by rw[(g v q).2.2.kind,A]
  have r:=Adg c (C6 c (by omega))
  have i:=Adg (o.getD Ar) (C6 _ (by omega))
  have S: ∀m:Nat,gX (.int (m:Int)) (.int 0)=some (.bool (!decide (m=0))):=λm=>by
   rw[gC];congr 2
   by_cases c:m=0
   ·subst c;rfl
   ·simp only[c,Ze,bE];exact decide_eq_true (by omega)
  rw[Az4,mg]
  simp only[cX,cN,cT,aA,bL,aS,G5,S,Ac9,bM,Aw,Am]
  unfold emS
  by_cases B:c.k=5
  ·have X: ¬ c.k=4:=by omega
   have nk:E9 s=false:=by
    rw[<-dA]
    intro h
    have:=(Cs.1 h).1
    omega
   by_cases u:c.f.length=0
   ·simp only[B,u,nk,Zd,aP,aB,Zf,Zt,cM,gW,bO]
    cases o with
    | none=>
     have j:=cC.1 u
     have Q:=Baq q B
     rw[j]at Q
     simp only[cD,aB,Zf,r,bM,j,List.foldl_nil,cZ]
     rw[Q];rfl
    | some v=>simp only[aZ,Zt,i,bM];rfl
   ·have w:=Acg [] (by constructor<;>simp)
    rw[dD]at w
    have hlen:=c.Bc
    simp only[B,u,nk,Zd,Ze,bE,Zt,aB,Zf,dL,fR,cO,show ¬ (5:Int)=4 by omega]
    simp only[aN]at w
    simp only[w,fP]
    cases o with
    | none=>
     have:=A7m n (Vk n) s c none J d K I q z g (.int 0) (.int 0) (.str ⟨#[]⟩) E7 (by constructor<;>simp[E7]) (dC _)
     simp only[aD]at this
     simp only[cD,aB,Zf,dB,aA,An1,cT,G5,eT]
     exact this
    | some v=>
     have M:v.k=5:=by rw[L v rfl,B]
     have:=A7m n (Vk n) s c (some v) J d K I q z g (.int 0) (.int 0) (.str ⟨#[]⟩) v (C6 v (by have:=(g v rfl).1;omega)) (by have:=(g v rfl).1;have:=v.Bc;omega)
     simp only[aD]at this
     simp only[aL]at i this
     simp only[aZ,Zt,aL,M,Zd,i,bM,aA,An1,cT,G5]
     exact this
  ·by_cases a:E9 s=true
   ·have N:c.k=4:=by rw[A];exact(Cs.1 a).1
    obtain⟨t,C⟩:=bA.1 (d.list (Cs.1 a).1)
    have b:=Dk (z.keyed a)
    by_cases F:c.l.length=0
    ·simp only[N,a,F,Zd,Ze,show ¬ (4:Int)=5 by omega,aP,aB,Zf,Zt,cM,cO,fR,bO,bL]
     cases o with
     | none=>simp only[cD,aB,Zf,r,bM]
     | some v=>simp only[aZ,Zt,i,bM];rfl
    ·have x:=Bb8 n (Vk n) s t c (o.getD Ar) J d K I q C z R (by
      cases o with
      | none=>exact .mk _ bQ (by simp[Ar]) (by simp[Ar])
      | some v=>exact(g v rfl).2.1)
     simp only[N,a,F,Zd,Ze,show ¬ (4:Int)=5 by omega,bE,aB,Zf,Zt,dL,cO,fR,bO,bL]
     cases o with
     | none=>
      have y:=Vu s c Ar I (by decide+kernel) b (by simp[Ar]) (.int 0) (.int 0) (.str ⟨#[]⟩) c.l.length 0 [] (by omega) (dC _) (by simp)
      have G:c.l.filter (λe=>(Nz s Ar.l (Dr e s.key)).isNone)=c.l:=dQ.2 λ_ _=>rfl
      rw[aG,bG,G,<-A2t q N]at y
      simp only[aD,aN,dD]at y
      have z3:fW 3 Ar.enc=some (.list []):=rfl
      have T:O.len (.list [])=some (.int 0):=rfl
      have U:O.lt (.int 0) (.int 0)=some (.bool false):=rfl
      simp only[cD,aB,Zf,cZ]
      rw[Amm,z3]
      simp only[aA,T]
      rw[Adm]
      simp only[U,aA,aS,aB,Zf,cN,G5,y,fP,dB,eT]
     | some v=>
      have y:=x ((g v rfl).2.2) b (Dk ((g v rfl).2.2.keyed a))
      rw[dD]at y
      simp only[aL]at y
      simp only[aZ,Zt,aL,y,fP,dB,aA,eT,C,eJ]
      rfl
   ·have H:E9 s=false:=by simpa using a
    simp only[B,H,Ze,aB,Zf,dL,cO,Bool.or_self,ite_self,r,bM]
end Go.CT.Sch
namespace Go.CT.Sch
open Go.Proofs
end Go.CT.Sch
namespace Go.CT.Sch
open Go.Proofs
def Ae5 (x:Mgr):List Mgr->List Mgr
 | []=> [x]
 | y::r=>if blt y.name x.name then y::Ae5 x r else x::y::r
def Nk (l:List Mgr):Prop:=l.Pairwise λa b=>blt a.name b.name=true
theorem Mw (nm:ByteArray)(a:List ByteArray): ∀l:List Mgr,Zq nm a true l=I9 (l.filter λm=> !decide (m.name=nm))
 | []=>rfl
 | m::l=>by
  rw[Zq,aW,gW,Mw nm a l]
  unfold I9
  by_cases c:m.name=nm
  ·simp[c]
  ·by_cases b:0<m.paths.length
   ·simp[c,b]
   ·simp[c,b]
theorem A59 (x:Mgr): ∀l:List Mgr,(∀m∈l,blt m.name x.name=false)->Ae5 x l=x::l
 | [],_=>rfl
 | y::l,h=>by rw[Ae5,h y (by simp)];rfl
theorem Gl (m:Mgr)(l:List Mgr):I9 (m::l)=if decide (0<m.paths.length)=true then m::I9 l else I9 l:=aW
theorem Aa9 (x:Mgr)(a:x.paths.length=0): ∀l:List Mgr,I9 (Ae5 x l)=I9 l
 | []=>by rw[Ae5,Gl,a];rfl
 | y::l=>by
  rw[Ae5]
  split
  ·rw[Gl,Gl,Aa9 x a l]
  ·rw[Gl,a];rfl
theorem Aus (nm:ByteArray)(b:List ByteArray): ∀l:List Mgr,Nk l->I9 (Ae5 ⟨nm,b⟩ (l.filter λm=> !decide (m.name=nm)))=Zq nm b (decide (b.length=0)) l:=by
 by_cases d:b.length=0
 ·intro l _
  rw[Aa9 _ d,d,decide_eq_true rfl,Mw]
 ·have hd:decide (0<b.length)=true:=decide_eq_true (by omega)
  rw[decide_eq_false d]
  intro l
  induction l with
  | nil=>intro _;rw[cE,Ae5,Gl];simp only[hd,Zt];rfl
  | cons m l h=>
   intro i
   obtain⟨j,o⟩:=bN.1 i
   have ge:blt m.name nm=false-> ∀y∈l.filter (λm=> !decide (m.name=nm)),blt y.name nm=false:=by
    intro g y q
    have:=j y (cG.1 q).1
    cases a:blt y.name nm with
    | false=>rfl
    | true=>rw[Hm this a]at g;cases g
   rw[Zq,aW]
   cases a:blt m.name nm with
   | true=>
    have e: ¬ m.name=nm:=Kz a
    simp only[e,Ze,bE,Zt,aP,dL,aB,Zf,bG,Bool.or_false,bO]
    rw[Ae5]
    simp only[a,Zt]
    rw[Gl,h o]
    split<;>simp
   | false=>
    simp only[bE,cM,Zt,Bool.or_true]
    rw[Mw]
    by_cases c:m.name=nm
    ·simp only[c,Zd,aP,aB,Zf,cO,aQ]
     rw[A59 _ _ (ge a),Gl]
     simp only[hd,Zt,bC]
    ·simp only[c,Ze,bE,Zt,bO]
     rw[Ae5]
     simp only[a,aB,Zf]
     rw[Gl,Gl]
     simp only[hd,Zt]
     split<;>simp
theorem Xm (x:Mgr): ∀l:List Mgr,At7 (x.name,x.enc) (l.map λm=>(m.name,m.enc))=(Ae5 x l).map λm=>(m.name,m.enc)
 | []=>rfl
 | y::l=>by
  rw[aK,At7,Ae5]
  unfold blt
  split
  ·rw[Xm x l];rfl
  ·rfl
theorem Uf: ∀l:List Mgr,Nk l->Ho (l.map λm=>(m.name,m.enc))=l.map λm=>(m.name,m.enc)
 | [],_=>rfl
 | x::l,h=>by
  obtain⟨a,b⟩:=bN.1 h
  rw[aK,Ho,Uf l b,Xm,A59 x l λm c=>Of (a m c)];rfl
theorem Agu: ∀l:List Mgr,Ajd (l.map Mgr.enc)=some (l.map Mgr.name)
 | []=>rfl
 | x::l=>by rw[aK,Ajd,Agu l];rfl
theorem Art (x:Mgr)(l:List Mgr)(d:Nk l)(g: ∀m∈l,¬ m.name=x.name)(o:l.length<=1048576):O.Y0 [.list ((x::l).map Mgr.enc)]=some [.list ((Ae5 x l).map Mgr.enc)]:=by
 have i:((x::l).map Mgr.name).zip ((x::l).map Mgr.enc)=(x::l).map λm=>(m.name,m.enc):=by
  rw[List.zip_map']
 have c:((x::l).map Mgr.name).Nodup :=by
  rw[aK,gK]
  refine⟨λh=>?_,?_⟩
  ·obtain⟨m,j,e⟩:=bB.1 h
   exact g m j e
  ·exact iF _ (λa b h=>Kz h) d
 rw[O.Y0,Agu,aA,if_pos ⟨c,by simp;omega⟩,i,aK,Ho,Uf l d,Xm,List.map_map]
 rfl
end Go.CT.Sch
namespace Go.CT.Sch
open Go.Proofs
theorem Z9: ∀l:List ByteArray,Hs l=true->l.Pairwise λa b=>blt a b=true
 | [],_=>bQ
 | [_],_=>eW _ _
 | a::b::l,h=>by
  simp only[Hs,aE]at h
  have d:=Z9 (b::l) h.2
  refine bN.2 ⟨λx c=>?_,d⟩
  rcases bK.1 c with rfl | c
  ·exact h.1
  ·exact Hm h.1 ((bN.1 d).1 x c)
theorem Aw8 {l:List Mgr}(h:Adx l=true):Nk l/\(∀m∈l,m.paths≠ [])/\l.length<=16:=by
 unfold Adx at h
 simp only[aE,bP,decide_eq_true_eq]at h
 refine⟨gB.1 (Z9 _ h.2.2),λm a e=>?_,h.2.1⟩
 have:=h.1 m a
 unfold okM at this
 simp only[aE,dY,decide_eq_false_iff_not]at this
 exact this.1.2 (by rw[e];rfl)
def Asg (cs:List Cf)(l:List Mgr):List Mgr:=l.map λm=>⟨m.name,Hg m.paths (Tf cs m.name)⟩
theorem Aqj (cs:List Cf)(nm:ByteArray): ∀l:List Mgr,Avp cs nm l=(Asg cs l).filter λm=> !decide (m.name=nm)
 | []=>rfl
 | m::l=>by
  have a:=Aqj cs nm l
  unfold Avp Asg at a ⊢
  rw[aK,aW,aW,<-a]
  split<;>rfl
theorem Abn {g:Mgr->List ByteArray}{l:List Mgr}(h:Nk l):Nk (l.map λm=>⟨m.name,g m⟩):=gB.2 h
theorem Qx: ∀ {l:List Mgr} {m:Mgr},m∈l->m.paths.length<=Ad3 l
 | x::l,m,h=>by
  rw[Ad3]
  rcases bK.1 h with rfl | h
  ·omega
  ·have:=Qx h;omega
theorem Ag6 (nm:ByteArray)(a:List ByteArray)(l:List Mgr)(j:Nk l)(B:l.length<=1000000)(hp:a.length<=1048576)(d: ∀m∈l,m.paths.length<=1048576):
  (calls (W F205 0 [.list (((⟨nm,a⟩:Mgr)::l.filter λm=> !decide (m.name=nm)).map Mgr.enc)]) 1 λq=>calls (W Bg2 0 [q]) 1 λt=>some [t])=some [.list ((Zq nm a (decide (a.length=0)) l).map Mgr.enc)]:=by
 have u:=cH (λm:Mgr=> !decide (m.name=nm)) l
 have e:=Art ⟨nm,a⟩ (l.filter λm=> !decide (m.name=nm)) (eE _ j) (λm g=>by simpa using(cG.1 g).2) (by omega)
 have c: ∀ (x:Mgr) (r:List Mgr),(Ae5 x r).length =r.length+1/\ ∀y∈Ae5 x r,y=x\/y∈r:=by
  intro x r
  induction r with
  | nil=>exact⟨rfl,λy b=>by simpa [Ae5]using b⟩
  | cons z r o=>
   rw[Ae5]
   split
   ·refine⟨by rw[bX,o.1];rfl,λy b=>?_⟩
    rcases bK.1 b with rfl | b
    ·exact .inr cJ
    ·rcases o.2 y b with h | h
     ·exact .inl h
     ·exact .inr (cF _ h)
   ·exact⟨rfl,λy b=>bK.1 b⟩
 obtain⟨w,A⟩:=c ⟨nm,a⟩ (l.filter λm=> !decide (m.name=nm))
 have i:=Bbg (Ae5 ⟨nm,a⟩ (l.filter λm=> !decide (m.name=nm))) (by rw[w];omega) (λm g=>by
  rcases A m g with rfl | h
  ·exact hp
  ·exact d m (cG.1 h).1)
 simp only[Bdp,e,bM,i,Aus nm a l j]
theorem Bcx (cs:List Cf)(nm:ByteArray)(a:List ByteArray)(l:List Mgr)(d:Nk l)(j:l.length<=1000000)(hp:a.length<=1048576)(b: ∀m∈l,m.paths.length<=1048576)(g:cs.length<=1048576):
  W Bfn 0 [.list (l.map Mgr.enc),.str nm,SL a,.list (cs.map Cf.enc)]=some [.list ((Zq nm a (decide (a.length=0)) (Asg cs l)).map Mgr.enc)]:=by
 have c:=Aeh l cs nm (by omega) b g l.length 0 [(⟨nm,a⟩:Mgr)] (by omega) (aR _)
 have e:IV.agg [.str nm,SL a]=Mgr.enc ⟨nm,a⟩:=rfl
 simp only[aD,aG,aK,aN]at c
 rw[A4x]
 simp only[dB,dP,aA,G5,e,c]
 rw[Al9]
 simp only[ltn,aA,aS,aB,Zf]
 rw[Aqj,bC]
 exact Ag6 nm a (Asg cs l) (Abn d) (by unfold Asg;rw[aH];omega) hp (λm h=>by
  obtain⟨x,i,rfl⟩:=bB.1 h
  exact cL (Lw _ _) (b x i))
end Go.CT.Sch
namespace Go.CT.Sch
open Go.Proofs
def Nw (t:ByteArray):Prop:= ∃p,Cn p=t/\Cy p=true/\ ∀x∈p,x.k≠2
theorem O0 {s:Sch}{v:Val}{t:ByteArray}(a:v.valid=true)(b:t∈Az s v):Nw t:=by
 obtain⟨q,w,e1,c,d,_⟩:=Arv a b
 exact⟨q,e1.symm,c,d⟩
open Classical in
noncomputable def Ach (s:Sch) (cf lv:Val) (t:ByteArray):Bool:=if h:Nw t then Aiy s cf lv h.choose else false
theorem Bg5 (s:Sch)(cf lv:Val)(t:ByteArray)(b:s.Ap<=1048576)(c:cf.Ap<=1048576)(d:lv.Ap<=1048576)(h:Nw t):W F155 0 [s.enc,cf.enc,lv.enc,.str t]=some [.bool (Ach s cf lv t)]:=by
 obtain⟨g,i,j⟩:=h.choose_spec
 have e:Ach s cf lv t=Aiy s cf lv h.choose:=by unfold Ach;rw[dif_pos h]
 have a:=Bdu s cf lv h.choose b c d i j
 rw[g]at a
 rw[e]
 exact a
theorem Bhh (s:Sch)(cf lv:Val)(t:ByteArray)(b:s.Ap<=1048576)(c:cf.Ap<=1048576)(d:lv.Ap<=1048576)(h:Nw t):W F221 0 [s.enc,cf.enc,lv.enc,.str t]=some [.bool (Ach s cf lv t)]:=by
 obtain⟨g,i,j⟩:=h.choose_spec
 have e:Ach s cf lv t=Aiy s cf lv h.choose:=by unfold Ach;rw[dif_pos h]
 have a:=Be4 s cf lv h.choose b c d i
 rw[g]at a
 rw[e]
 exact a
def Sc (l:List Mgr)(nm leaf:ByteArray):List Cf:=(l.filter λm=> !decide (m.name=nm)&&inB m.paths leaf).map λm=>⟨leaf,m.name⟩
def Rl (sat:ByteArray->Bool)(l:List Mgr)(nm:ByteArray)(set:List ByteArray):List Cf:=set.flatMap λleaf=>if sat leaf then[]else Sc l nm leaf
theorem Aik: ∀ (a b:List ByteArray),a.Nodup->(∀x∈a,x∈b)->a.length<=b.length
 | [],b,_,_=>dC _
 | x::a,b,d,h=>by
  obtain⟨g,i⟩:=gK.1 d
  have j:=h x (by simp)
  have m:=Aik a (b.filter λy=> !decide (y=x)) i λy c=>cG.2 ⟨h y (by simp[c]),by
   have:y≠x:=λe=>g (by rw[<-e];exact c)
   simpa using this⟩
  have:=List.length_filter_lt_length_iff_exists (p:=λy=> !decide (y=x)).2 ⟨x,j,by simp⟩
  rw[bX];omega
theorem Apa (nm:ByteArray)(m:Mgr)(l:List Mgr): ∀set:List ByteArray,(set.flatMap (Sc (m::l) nm)).length =(set.filter λx=> !decide (m.name=nm)&&inB m.paths x).length +(set.flatMap (Sc l nm)).length
 | []=>rfl
 | x::set=>by
  have a:=Apa nm m l set
  have e:(Sc (m::l) nm x).length =(if(!decide (m.name=nm)&&inB m.paths x)=true then 1 else 0)+(Sc l nm x).length :=by
   unfold Sc
   rw[aW]
   split<;>simp<;>omega
  rw[aV,aV,aM,aM,a,e,aW]
  split<;>simp<;>omega
theorem Anm (nm:ByteArray)(set:List ByteArray)(a:set.Nodup): ∀l:List Mgr,(set.flatMap (Sc l nm)).length <=Ad3 l
 | []=>by
  have: ∀set:List ByteArray,set.flatMap (Sc [] nm)= []:=λset=>by
   induction set with
   | nil=>rfl
   | cons x set b=>rw[aV,b];rfl
  rw[this];exact aR _
 | m::l=>by
  have b:=Anm nm set a l
  have d:=Aik (set.filter λx=> !decide (m.name=nm)&&inB m.paths x) m.paths (List.Nodup.sublist List.filter_sublist a) λx c=>by
   have:=(cG.1 c).2
   rw[aE]at this
   exact Ii.1 this.2
  rw[Apa,Ad3];omega
theorem Amu (sat:ByteArray->Bool)(l:List Mgr)(nm:ByteArray)(set:List ByteArray)(a:set.Nodup):(Rl sat l nm set).length <=Ad3 l:=by
 refine cL ?_ (Anm nm set a l)
 unfold Rl
 clear a
 induction set with
 | nil=>exact aR _
 | cons x set b=>
  rw[aV,aV,aM,aM]
  split
  ·simp only[bJ];omega
  ·omega
theorem Afb (sat:ByteArray->Bool)(l:List Mgr)(nm:ByteArray){set:List ByteArray}{i:Nat}(a:i<set.length):Rl sat l nm (set.drop i)=(if sat set[i]then[]else Sc l nm set[i])++Rl sat l nm (set.drop (i+1)):=by
 rw[aC a];rfl
theorem Wq (s:Sch)(v:Val):(Az s v).Nodup :=iG (λh=>Kz h) (eE _ (Abu s v))
theorem Lp (s:Sch)(v:Val):(Az s v).length <=v.Ap:=by
 have a:=cH (λx=> !decide (x=An)) (Jt s v)
 have b:=Wb s v
 have c:=v.G7
 unfold Az;omega
theorem Ajh (l:List Mgr)(nm leaf:ByteArray)(u:l.length<=1048576)(hp: ∀m∈l,m.paths.length<=1048576)(i o q r a b c d e g:IV): ∀ (n j:Nat) (cs:List Cf),j+n=l.length->cs.length+n<=4194304->
  W F51 3 [.list (l.map Mgr.enc),.str nm,i,.str leaf,o,q,.list (l.map Mgr.enc),.int l.length,.int j,r,a,b,c,d,e,g,.list (cs.map Cf.enc)]=
   W F51 2 [.list (l.map Mgr.enc),.str nm,i,o,q,r,a,b,c,d,e,g,.list ((cs++Sc (l.drop j) nm leaf).map Cf.enc)]
 | 0,j,cs,h,w=>by
  have:j=l.length:=by omega
  subst this
  rw[Aw5,aO]
  simp only[ltn,aA,aS,aB,Zf,Sc,cE,aN,aQ]
 | n+1,j,cs,h,w=>by
  have t:j<l.length:=by omega
  have x:=aF t
  have i1:=Ajh l nm leaf u hp i o q r a b c d e g n (j+1) cs (by omega) (by omega)
  have i2:=Ajh l nm leaf u hp i o q r a b c d e g n (j+1) (cs++ [(⟨leaf,l[j].name⟩:Cf)]) (by omega) (by simp;omega)
  have ap:eD 32 (.list (cs.map Cf.enc)) (.list [.agg [.str leaf,.str l[j].name]])=some (.list ((cs++ [(⟨leaf,l[j].name⟩:Cf)]).map Cf.enc)):=apm Cf.enc (n:=32) cs (⟨leaf,l[j].name⟩:Cf) (by omega)
  have y:=hp _ x
  unfold Sc at i1 i2 ⊢
  rw[Aw5,aC t,aW]
  simp only[lti t,aA,aS,Zt,Kg Mgr.enc t,Aqv,Arr,gD,Mx _ leaf (show l[j].paths.length <=1099511627776 by omega),Bgb,bM,dB,dP,ap,Aw,Am]
  rw[Ay6,Ay6]
  simp only[nxt (show j<4611686018427387904 by omega),aA,i1,i2]
  cases decide (l[j].name =nm)<;>cases inB l[j].paths leaf<;>simp
theorem Ajt (l:List Mgr)(nm:ByteArray)(w:l.length<=1048576)(e:Ad3 l<=1048576)(s:Sch)(cf lv:Val)(x:s.Ap<=1048576)(y:cf.Ap<=1048576)(j:lv.Ap<=1048576)(set:List ByteArray)(o:set.length<=1048576)(d: ∀t∈set,Nw t)(q a b c:IV): ∀ (n i:Nat) (cs:List Cf),i+n=set.length->cs.length+(Rl (Ach s cf lv) l nm (set.drop i)).length <=2097152->
  W F51 1 [.list (l.map Mgr.enc),.str nm,q,.int set.length,.int i,s.enc,lv.enc,cf.enc,a,b,c,SL set,.list (cs.map Cf.enc)]=
   W F51 1 [.list (l.map Mgr.enc),.str nm,q,.int set.length,.int set.length,s.enc,lv.enc,cf.enc,a,b,c,SL set,.list ((cs++Rl (Ach s cf lv) l nm (set.drop i)).map Cf.enc)]
 | 0,i,cs,h,g=>by
  have:i=set.length:=by omega
  subst this
  rw[aO]
  simp only[Rl,cI,aQ]
 | n+1,i,cs,h,g=>by
  have r:i<set.length:=by omega
  have A:=gL IV.str (aI r)
  have u:=(Bg5 s cf lv set[i] x y j (d _ (aF r)))
  rw[Afb _ _ _ r,aM]at g
  have i1:=Ajt l nm w e s cf lv x y j set o d q a b c n (i+1) cs (by omega) (by omega)
  rw[Afb _ _ _ r,A6k]
  simp only[lti r,aA,aS,Zt,A,u,bM,G5]
  cases B:Ach s cf lv set[i]with
  | true=>
   rw[Ax7]
   simp only[Zt,nxt (show i<4611686018427387904 by omega),aA,i1,bG]
  | false=>
   rw[B]at g
   simp only[aB,Zf]at g
   have z:=Ajh l nm set[i] w (λm C=>cL (Qx C) e) q (.int set.length) (.int i) s.enc lv.enc cf.enc a b c (SL set) l.length 0 cs (by omega) (by omega)
   have i2:=Ajt l nm w e s cf lv x y j set o d q a b c n (i+1) (cs++Sc l nm set[i]) (by omega) (by rw[aM];omega)
   simp only[aD,aG]at z
   simp only[aB,Zf,z]
   rw[Ax7]
   simp only[nxt (show i<4611686018427387904 by omega),aA,i2,bH]
end Go.CT.Sch
namespace Go.CT.Sch.D
open Go.Proofs
theorem Agp (s:Sch)(nm:ByteArray)(m:s.Ap<=1099511627776)(b d e g:IV): ∀ (n i:Nat),i+n=s.f.length->
  W F220 1 [.str nm,.int i,s.enc,b,d,e,g]=some (U7 (((s.f.drop i).find? λp=>decide (p.nm=nm)).map (·.s)))
 | 0,i,h=>by
  rw[Aoe]
  have j: ¬ i<s.f.length:=by omega
  simp[j,bF (cY j),U7,Mu]
 | n+1,i,h=>by
  have a:i<s.f.length:=by omega
  have q:=s.Bc
  have o:=Bf (i:=i) (by omega)
  have:=Agp s nm m b d e g n (i+1) (by omega)
  rw[Aoe,aC a]
  simp only[eY,eS,aH,dF,Al,a,Zd,aA,aS,Zt,eV,aU,aT,aX,aI a,aJ,gU,eO,gH,eF,o,this,bW]
  by_cases c:s.f[i].nm =nm
  ·simp[c,U7]
  ·have c':decide (s.f[i].nm =nm)=false:=by simpa using c
   simp only[c,c',Ze,aB,Zf]
theorem Bba (s:Sch)(nm:ByteArray)(a:s.Ap<=1099511627776):W F220 0 [s.enc,.str nm]=some (U7 ((s.fld nm).map (·.s))):=by
 rw[A4g]
 have:=Agp s nm a (.int 0) (.int 0) (.int 0) (.str ⟨#[]⟩) s.f.length 0 (by omega)
 simp only[aG,aD]at this
 exact this
theorem Bas (s:Sch):W F219 0 [s.enc]=some [.bool (decide (0<s.it.length))]:=by
 rw[A42];simp
theorem W6 (sc:Sch)(v:Val)(b:SOk sc)(j:sc.Ap<=1099511627776)(A:v.Ap<=4294967000)(m o r:IV)(u: ∀p∈v.f,∀t,D5 sc p.1=some t->W Bck 0 [t.enc,p.2.enc]=some [(Br p.2 t).enc]):
  ∀ (n i:Nat) (acc:List (ByteArray × Val)),i+n=v.f.length->acc.length<=i->
  W Bck 2 [.int i,sc.enc,v.enc,m,o,r,.list (acc.map aY)]=some [(Val.mk 5 0 An [] (acc++(v.f.drop i).flatMap (D7 sc))).enc]
 | 0,i,acc,h,B=>by
  rw[Aoo]
  have w: ¬ i<v.f.length:=by omega
  simp only[cT,eS,aH,dF,Al,w,Ze,aA,aS,aB,Zf,dB,bF (cY w),cI,aQ]
  rw[<-gY];rfl
 | n+1,i,acc,h,B=>by
  have d:i<v.f.length:=by omega
  have hlen:=v.Bc
  have C:=Bf (i:=i) (by omega)
  have F:=J3 sc v.f[i]
  have next:=W6 sc v b j A m o r u n (i+1) (acc++D7 sc v.f[i]) (by omega) (by rw[aM];omega)
  have c:(acc.length+1) * 96<=Bb:=Sm (by omega) (by omega)
  rw[bH]at next
  rw[Aoo,aC d,aV,<-next]
  simp only[cT,eS,aH,dF,Al,d,Zd,aA,aS,Zt,eV,aU,aT,aX,aI d,aJ,gE,Fld.C7,fU,bL,Bas,bM,Bba sc _ j,A4h,A0s,eF,C]
  have a:=u _ (aF d)
  unfold D7
  by_cases x:v.f[i].2.k =0
  ·simp only[x,Zd,Zt,aQ]
  ·simp only[x,Ze,aB,Zf]
   have y:=b.one
   unfold D5 at a ⊢
   by_cases hd:sc.it.length=1
   ·obtain⟨t,z⟩:=bA.1 hd
    simp only[z,bD,Zt,cB]at a
    have e:=a t rfl
    simp only[z,bD,Nat.lt_one_iff,Zd,Zt,dU,aA,aK,aN,eV,eC,dJ,cB,e,bM,cX,eZ,fA,cN,cT,dB,gR,dP,O.Bs,aH,bD,c,cU]
   ·have g: ¬ 0<sc.it.length:=by omega
    simp only[hd,Zf]at a
    simp only[hd,g,Ze,aB,Zf]
    cases G:sc.fld v.f[i].1 with
    | none=>simp only[U7,cV,cD,fD,aS,aB,Zf,aQ]
    | some q=>
     have e:=a q.s (by rw[G];rfl)
     simp only[U7,aJ,aZ,fD,aS,Zt,aL,e,bM,cX,eZ,fA,cN,cT,aA,dB,gR,dP,O.Bs,aH,bD,c,cU,aK,aN]
theorem Wo (sc t:Sch)(v:Val)(q:v.Ap<=4294967000)(d e g:IV)(j:sc.it= [t])(m: ∀x∈v.l,W Bck 0 [t.enc,x.enc]=some [(Br x t).enc]):
  ∀ (n i:Nat) (acc:List Val),i+n=v.l.length->acc.length<=i->
  W Bck 1 [.int i,sc.enc,v.enc,d,e,g,.list (acc.map bI)]=some [(Val.mk 4 0 An (acc++(v.l.drop i).map λx=>Br x t) []).enc]
 | 0,i,acc,h,r=>by
  rw[Ape]
  have o: ¬ i<v.l.length:=by omega
  simp only[cN,eS,aH,dF,Al,o,Ze,aA,aS,aB,Zf,dB,bF (cY o),aN,aQ]
  rw[<-gY];rfl
 | n+1,i,acc,h,r=>by
  have b:i<v.l.length:=by omega
  have hlen:=v.B5
  have u:=Bf (i:=i) (by omega)
  have next:=Wo sc t v q d e g j m n (i+1) (acc++ [Br v.l[i] t]) (by omega) (by rw[aM];simp;omega)
  have c:(acc.length+1) * 80<=Bb:=Sm (by omega) (by omega)
  have a:=m _ (aF b)
  rw[bH,bC]at next
  rw[Ape,aC b,aK,<-next]
  simp only[cN,eS,aH,dF,Al,b,Zd,aA,aS,Zt,eV,aU,aT,aX,aI b,aJ,dU,j,aK,aN,eC,dJ,cB,a,bM,dP,O.Bs,aH,bD,c,cU,eF,u]
theorem Aud: ∀v:Val,v.Ap<=4294967000-> ∀sc:Sch,SOk sc->sc.Ap<=1099511627776->W Bck 0 [sc.enc,v.enc]=some [(Br v sc).enc]:=by
 refine eP λv d e i sc c g=>?_
 rw[A3g,Hn]
 simp only[cX,eH,aA,eL,bL,aS]
 by_cases j:v.k=sc.k
 ·simp only[j,Zd,aP,aB,Zf,Zt]
  by_cases m:sc.k=5
  ·have o:=W6 sc v c g i (.int 0) (.int 0) (.str ⟨#[]⟩) (λp hp t a=>e p hp (by have:=fS hp;omega) t (c.sub a) (by have:=Jk a;omega)) v.f.length 0 [] (by omega) (by simp)
   simp only[aG,aD,aN,bG]at o
   simp[m,o]
  ·by_cases h:sc.k=4
   ·obtain⟨t,a⟩:=bA.1 (c.list h)
    have b:t∈sc.it:=by rw[a];simp
    have q:=Wo sc t v i (.int 0) (.int 0) (.str ⟨#[]⟩) a (λx r=>d x r (by have:=eG r;omega) t (c.Iu b) (by have:=fB b;omega)) v.l.length 0 [] (by omega) (by simp)
    simp only[aG,aD,aN,bG]at q
    simp[h,a,q]
   ·simp[h,m]
 ·simp[j]
end Go.CT.Sch.D
namespace Go.CT.Sch
open Go.Proofs
def Ai7 (s:Sch)(lv:Val)(gone:List ByteArray):Val:=Mh s lv gone false
def W5 (m:List Mgr)(nm:ByteArray)(set:List ByteArray):List ByteArray:=Hg (Hg (Hq m nm) set) (Aza nm m [])
def okB (s:Sch)(a b:Val)(m:List Mgr)(nm:ByteArray):Bool:=Np s a&&Np s b&&Adx m&&N8 nm
structure A56 where
 v:Val
 l:List Mgr
 c:List Cf
 e:Int
def A56.enc (r:A56):List IV:= [r.v.enc,.list (r.l.map Mgr.enc),.list (r.c.map Cf.enc),.int r.e]
noncomputable def Ahc (s:Sch) (lv cf:Val) (m:List Mgr) (nm:ByteArray):List Cf:=Rl (Ach s cf lv) m nm (Az s cf)
def Au1 (s:Sch)(lv cf:Val)(m:List Mgr)(nm:ByteArray):Val:=mg cf.size s cf (some (Ai7 s lv (W5 m nm (Az s cf))))
noncomputable def Aun (s:Sch) (lv cf:Val) (m:List Mgr) (nm:ByteArray):List Mgr:=Zq nm (Az s cf) (decide ((Az s cf).length =0)) (Asg (Ahc s lv cf m nm) m)
noncomputable def Ai0 (s:Sch) (lv cf:Val) (m:List Mgr) (nm:ByteArray) (force:Bool):A56:=
 if(decide (0<(Ahc s lv cf m nm).length)&& !force)=true then⟨Ar,[],Ahc s lv cf m nm,9⟩
 else if 16<(Aun s lv cf m nm).length then⟨Ar,[],[],15⟩
 else if(Au1 s lv cf m nm).valid =true then⟨Au1 s lv cf m nm,Aun s lv cf m nm,[],0⟩else⟨Ar,[],[],4⟩
noncomputable def Abh (s:Sch) (live:Val) (m:List Mgr) (nm:ByteArray) (config:Val) (force:Bool):A56:=
 if okB s live config m nm=true then Ai0 s (D.Br live s) (D.Br config s) m nm force else⟨Ar,[],[],1⟩
theorem Vo {s:Sch}{v:Val}(h:Np s v=true):s.valid=true/\v.valid=true/\v.k=5/\(Ji v s []).all Zm=true/\kyB v.size s v=true:=by
 unfold Np at h
 simp only[aE,decide_eq_true_eq]at h
 exact⟨h.1,h.2.1,h.2.2.1,h.2.2.2.1,h.2.2.2.2⟩
structure PV (s:Sch)(v:Val):Prop where
 sv:s.valid=true
 vv:v.valid=true
 k5:v.k=5
 fit:Fit s v
theorem Ot {s:Sch}{v:Val}(h:Np s v=true):PV s (D.Br v s):=by
 obtain⟨a,b,c,d,e⟩:=Vo h
 exact⟨a,D.Ai2 s b,(D.Bat v s).trans c,Ay4 v s [] v.size a b (aR _) d e⟩
theorem Rj {s:Sch}{v:Val}(h:Np s v=true)(d:s.Ap<=1048576)(e:v.Ap<=1048576):W Ben 0 [s.enc,v.enc]=some [(D.Br v s).enc]/\W Bck 0 [s.enc,v.enc]=some [(D.Br v s).enc]:=by
 obtain⟨b,c,_⟩:=Vo h
 have a:=D.Tw 12 s b
 exact⟨D.Aqu v (D.Ow c) (by omega) s a (by omega),D.Aud v (by omega) s a (by omega)⟩
theorem A5v (s:Sch)(a b:Val)(m:List Mgr)(nm:ByteArray):(((((((!s.valid)|| !a.valid)|| !b.valid)|| !Adx m)|| !N8 nm)|| !Np s a)|| !Np s b)= !okB s a b m nm:=by
 unfold okB
 cases c:Np s a with
 | false=>simp
 | true=>
  cases d:Np s b with
  | false=>simp
  | true=>
   obtain⟨e,a2,_⟩:=Vo c
   obtain⟨_,b2,_⟩:=Vo d
   rw[e,a2,b2]
   cases Adx m<;>cases N8 nm<;>rfl
theorem zv:IV.agg [.int 0,.int 0,.str ⟨#[]⟩,.list [],.list []]=Ar.enc:=rfl
theorem gt0 (n:Nat):gX (.int (n:Int)) (.int 0)=some (.bool (decide (0<n))):=by rw[gC];congr 2;exact decide_eq_decide.2 (by omega)
theorem gt16 (n:Nat):gX (.int (n:Int)) (.int 16)=some (.bool (decide (16<n))):=by rw[gC];congr 2;exact decide_eq_decide.2 (by omega)
theorem Wd (m:List Mgr)(nm:ByteArray):(Hq m nm).length <=Ad3 m:=by
 unfold Hq
 cases h:m.find? λm=>decide (m.name=nm) with
 | none=>exact dC _
 | some x=>exact Qx (bU h)
theorem Ai9 (nm:ByteArray): ∀ (m:List Mgr) (a:List ByteArray),(Aza nm m a).length <=a.length+Ad3 m
 | [],a=>aR _
 | x::m,a=>by
  rw[Aza,Ad3]
  split
  ·have:=Ai9 nm m a;omega
  ·have:=Ai9 nm m (Zw (a++x.paths))
   have h:=Nf (a++x.paths)
   rw[aM]at h
   omega
structure Sz (s:Sch)(a b:Val)(m:List Mgr):Prop where
 hs:s.Ap<=1048576
 hab:a.Ap+b.Ap+Ad3 m<=1048576
 hm:m.length<=1000000
theorem Sz.hp {s:Sch}{a b:Val}{m:List Mgr}(h:Sz s a b m):Ad3 m<=1048576:=by have:=h.hab;omega
theorem I2 (v:Val)(s:Sch):(D.Br v s).Ap <=v.Ap:=D.Qg v s
theorem Ap4 {s:Sch}{lv:Val}(gone:List ByteArray)(h:PV s lv)(a:lv.Ap<=1048576):Old s (some (Ai7 s lv gone)):=λv b=>by
 cases b
 exact⟨cL (V5 s lv gone false) a,Aby gone false h.vv,(Af4 gone false h.sv h.vv h.fit h.k5).1⟩
theorem Ah9 {s:Sch}{lv cf:Val}{m:List Mgr}{nm:ByteArray}(b:PV s lv)(a:PV s cf)(e:lv.Ap+cf.Ap<=1048576):(Au1 s lv cf m nm).Ap <=1048576:=by
 have c:=Ap4 (W5 m nm (Az s cf)) b (by omega)
 have:=Akv cf.size s cf (some (Ai7 s lv (W5 m nm (Az s cf)))) (eA a.sv) a.vv a.fit λv d=>(c v d).2
 have g:=V5 s lv (W5 m nm (Az s cf)) false
 unfold Au1
 simp only[aJ,aL]at this
 unfold Ai7 at this ⊢
 omega
theorem A39 (m:List Mgr)(nm:ByteArray)(set:List ByteArray)(hp:Ad3 m<=1048576):(W5 m nm set).length <=1048576:=by
 have a:=Lw (Hg (Hq m nm) set) (Aza nm m [])
 have b:=Lw (Hq m nm) set
 have c:=Wd m nm
 unfold W5;omega
theorem Pm (s:Sch)(live:Val)(m:List Mgr)(nm:ByteArray)(config:Val)(force:Bool)(u:Sz s live config m):
  W F51 0 [s.enc,live.enc,.list (m.map Mgr.enc),.str nm,config.enc,.bool force]=some (Abh s live m nm config force).enc :=by
 have Q:=u.hab
 have e:=u.hs
 have R:=u.hm
 have w:=u.hp
 have j: ∀x∈m,x.paths.length<=1048576:=λx y=>by have:=Qx y;omega
 rw[Ba7]
 simp only[Pb s e,It live (by omega),It config (by omega),A6j m (by omega) (λx y=>by have:=j x y;omega),Awq,A27 s live e (by omega),A27 s config e (by omega),bM,dN,aA,aS,Aw,Am]
 have z: ∀a b:Bool,(if a=true then true else b)=(a||b):=by decide
 simp only[z,A5v]
 unfold Abh
 cases A:okB s live config m nm with
 | false=>simp only[bE,Zt,aB,Zf,dB,zv];rfl
 | true=>
  have c:=A
  unfold okB at c
  simp only[aE]at c
  obtain⟨⟨⟨K,L⟩,S⟩,f4⟩:=c
  have B:=Ot K
  have i:=Ot L
  have T:=I2 live s
  have U:=I2 config s
  obtain⟨C,F,hlen⟩:=Aw8 S
  simp only[aP,aB,Zf,Zt,(Rj K e (by omega)).1,(Rj L e (by omega)).1,bM]
  generalize D.Br live s=lv at B T ⊢
  generalize D.Br config s=cf at i U ⊢
  have M:=Lp s cf
  have g: ∀t∈Az s cf,Nw t:=λt X=>O0 i.vv X
  have Y:=Amu (Ach s cf lv) m nm (Az s cf) (Wq s cf)
  have d:=Ajt m nm (by omega) (by omega) s cf lv e (by omega) (by omega) (Az s cf) (by omega) g (.bool force) (.int 0) (.int 0) (.str ⟨#[]⟩) (Az s cf).length 0 [] (by omega) (by rw[aG];simp;omega)
  simp only[aD,aN,aG,bG]at d
  simp only[R6 s cf e (by omega),bM,fY,aA,d]
  have N:(Ahc s lv cf m nm).length <=1048576:=by unfold Ahc;omega
  have hold:=Ap4 (W5 m nm (Az s cf)) B (by omega)
  have h:=Vk cf.size s cf (some (Ai7 s lv (W5 m nm (Az s cf)))) (aR _) (eA i.sv) e (by omega) i.vv i.fit hold
  have Z:=Ah9 (m:=m) (nm:=nm) B i (by omega)
  have hdr:=A4k s lv (W5 m nm (Az s cf)) false e (by omega) (A39 m nm _ w)
  have o:=Bcx (Ahc s lv cf m nm) nm (Az s cf) m C R (by omega) j (by omega)
  have aa:=Wd m nm
  have G:=Ai9 nm m []
  have ab:=Lw (Hq m nm) (Az s cf)
  have H:=It (Au1 s lv cf m nm) (by omega)
  have I:=Adg (Au1 s lv cf m nm) (C6 _ (by omega))
  have J:=Agm (Hq m nm) (Az s cf) (by omega) (by omega)
  have q:=Agm (Hg (Hq m nm) (Az s cf)) (Aza nm m []) (by omega) (by simp only[bJ]at G;omega)
  change W Bgx 0 _=some [(Ai7 s lv (W5 m nm (Az s cf))).enc]at hdr
  change W Bf3 0 _=some [(Au1 s lv cf m nm).enc]at h
  change W Bfn 0 _=some [.list ((Aun s lv cf m nm).map Mgr.enc)]at o
  change W F150 0 _=some [SL (W5 m nm (Az s cf))]at q
  simp only[aL,aZ]at h
  rw[show Rl (Ach s cf lv) m nm (Az s cf)=Ahc s lv cf m nm from rfl,A6k]
  simp only[ltn,aA,aS,aB,Zf,G5,gt0,dN,Aw,Am,A67 m nm (by omega) F,J,bM,Bbr m nm (by omega) (by omega),q,Az9,hdr,h,o,gt16,H,I,dB,zv]
  unfold Ai0
  have hand: ∀a b:Bool,(if a=true then b else false)=(a&&b):=by decide
  simp only[hand]
  split
  ·rfl
  ·by_cases r:16<(Aun s lv cf m nm).length
   ·simp only[r,Zd,Zt];rfl
   ·simp only[r,Ze,aB,Zf]
    cases(Au1 s lv cf m nm).valid<;>rfl
end Go.CT.Sch
namespace Go.CT.Sch
open Go.Proofs
end Go.CT.Sch
namespace Go.CT.Sch
open Go.Proofs
open Classical in
noncomputable def atB (v:Val) (t:ByteArray):Val:=if h:Nw t then(Hb v h.choose).getD Ar else Ar
open Classical in
noncomputable def A9v (s:Sch) (b a:Val) (t:ByteArray):Bool:= !inB (Az s b) t|| !decide (atB b t=atB a t)
noncomputable def Asu (s:Sch) (b a:Val):List ByteArray:=(Az s a).filter (A9v s b a)
def Th (all new:List ByteArray)(l:List Mgr):List Mgr:=l.map λm=>⟨m.name,Hg (Oy m.paths all) new⟩
theorem Bfa (v:Val)(t:ByteArray)(c:v.Ap<=1048576)(h:Nw t): ∃b:Bool,W F156 0 [v.enc,.str t]=some [.int (atB v t).k,.int (atB v t).n,.str (atB v t).s,.list ((atB v t).l.map bI),.list ((atB v t).f.map aY),.bool b]:=by
 obtain⟨d,g,i⟩:=h.choose_spec
 have a:=A7q v h.choose c g i
 rw[d]at a
 have e:atB v t=(Hb v h.choose).getD Ar:=by unfold atB;rw[dif_pos h]
 rw[e]
 exact⟨_,a⟩
theorem Aou {v:Val}(t:ByteArray)(a:v.Ap<=1048576):(atB v t).Ap <=1048576:=by
 unfold atB
 split
 ·exact Sn a
 ·decide+kernel
theorem Acd (s:Sch)(b a:Val)(e:b.Ap<=1048576)(g:a.Ap<=1048576)(d:a.valid=true): ∀ (n i:Nat) (acc:List ByteArray),i+n=(Az s a).length ->acc.length<=i->
  W F208 1 [.int (Az s a).length,.int i,b.enc,a.enc,SL (Az s b),SL acc,SL (Az s a)]=some [SL (acc++((Az s a).drop i).filter (A9v s b a))]
 | 0,i,acc,h,o=>by
  have:i=(Az s a).length :=by omega
  subst this
  rw[Aqf,aO,cE,aQ]
  simp only[ltn,aA,aS,aB,Zf]
 | n+1,i,acc,h,o=>by
  have j:i<(Az s a).length :=by omega
  have x:=Lp s a
  have q:=Lp s b
  have r:=aF j
  have t:=gL IV.str (aI j)
  have hp:=O0 d r
  obtain⟨b1,w1⟩:=Bfa b _ e hp
  obtain⟨b2,u⟩:=Bfa a _ g hp
  have m1:=Aou (v:=b) (Az s a)[i] e
  have m2:=Aou (v:=a) (Az s a)[i] g
  have w:=Alr (atB b (Az s a)[i]) (atB a (Az s a)[i]) (by omega)
  have i1:=Acd s b a e g d n (i+1) acc (by omega) (by omega)
  have i2:=Acd s b a e g d n (i+1) (acc++ [(Az s a)[i]]) (by omega) (by simp;omega)
  have ap:eD 16 (SL acc) (.list [.str (Az s a)[i]])=some (SL (acc++ [(Az s a)[i]])):=apm IV.str acc (Az s a)[i] (by omega)
  have m:W F106 0 [SL (Az s b),.str (Az s a)[i]]=some [.bool (inB (Az s b) (Az s a)[i])]:=by
   have:=Mx (Az s b) (Az s a)[i] (by omega)
   rw[Bgb]at this
   exact this
  rw[Aqf,aC j,aW]
  unfold A9v at i1 i2 ⊢
  simp only[lti j,aA,aS,Zt,t,w1,u,I8,m,bM,dN,dB,eT,w,Aw,Am,dP,ap]
  rw[Am8,Am8]
  simp only[nxt (show i<4611686018427387904 by omega),aA,i1,i2]
  cases inB (Az s b) (Az s a)[i]with
  | false=>simp
  | true=>
   by_cases c:atB b (Az s a)[i]=atB a (Az s a)[i]<;>simp[c]
theorem Bdz (s:Sch)(b a:Val)(d:s.Ap<=1048576)(e:b.Ap<=1048576)(g:a.Ap<=1048576)(c:a.valid=true):W F208 0 [s.enc,b.enc,a.enc]=some [SL (Asu s b a)]:=by
 have:=Acd s b a e g c (Az s a).length 0 [] (by omega) (aR _)
 simp only[aD,aG,bG]at this
 rw[A3j]
 simp only[R6 s b d e,R6 s a d g,bM,fY,aA]
 exact this
theorem V3 (a b:List ByteArray):(Oy a b).length <=a.length:=cL (cH _ _) (Nf a)
theorem Asl (l:List Mgr)(all new:List ByteArray)(nm:ByteArray)(B:l.length<=1048576)(hp: ∀m∈l,m.paths.length<=1048576)(w:all.length<=1048576)(z:new.length<=1048576): ∀ (n i:Nat) (a:List Mgr),i+n=l.length->a.length<=i+1->
   W Bfo 1 [.str nm,SL all,SL new,.list (l.map Mgr.enc),.int l.length,.int i,.list (a.map Mgr.enc)]=W Bfo 1 [.str nm,SL all,SL new,.list (l.map Mgr.enc),.int l.length,.int l.length,.list ((a++(Th all new (l.drop i)).filter λm=> !decide (m.name=nm)).map Mgr.enc)]
 :=by
  intro n
  induction n with
  | zero=>
   intro i a h e
   have:i=l.length:=by omega
   subst this
   rw[aO]
   simp only[Th,cE,aN,aQ]
  | succ n q=>
   intro i a h e
   have d:i<l.length:=by omega
   obtain⟨x,r⟩: ∃x,l[i]=x:=⟨_,rfl⟩
   have b:=Kg Mgr.enc d
   have hdr:=aC d
   have g:=hp _ (aF d)
   rw[r]at b hdr g
   have j:=nxt (show i<4611686018427387904 by omega)
   have o:=lti d
   clear r
   have e1:=A6o x.paths all g w
   have t:=Agm (Oy x.paths all) new (cL (V3 x.paths all) g) z
   generalize u:Hg (Oy x.paths all) new=y at t
   have A:Th all new (l.drop i)=⟨x.name,y⟩::Th all new (l.drop (i+1)):=by
    rw[hdr,<-u];rfl
   clear u
   have i1:=q (i+1) a (by omega) (by omega)
   have i2:=q (i+1) (a++ [(⟨x.name,y⟩:Mgr)]) (by omega) (by simp;omega)
   have ap:eD 40 (.list (a.map Mgr.enc)) (.list [.agg [.str x.name,SL y]])=some (.list ((a++ [(⟨x.name,y⟩:Mgr)]).map Mgr.enc)):=apm Mgr.enc (n:=40) a (⟨x.name,y⟩:Mgr) (by omega)
   rw[Apo,A,aW]
   simp only[o,aA,aS,Zt,b,Aqv,gD,A44,Bag,e1,t,bM,dB,dP,ap]
   rw[Ao8,Ao8]
   simp only[j,aA,i1,i2]
   by_cases c:x.name=nm<;>simp[c]
theorem Aox (l:List Mgr)(all new:List ByteArray)(nm:ByteArray)(a:List ByteArray)(d:Nk l)(o:l.length<=1000000)(hp:a.length<=1048576)(b: ∀m∈l,m.paths.length<=1048576)(g:all.length<=1048576)(h:new.length<=1048576):
  W Bfo 0 [.list (l.map Mgr.enc),.str nm,SL a,SL all,SL new]=some [.list ((Zq nm a (decide (a.length=0)) (Th all new l)).map Mgr.enc)]:=by
 have c:=Asl l all new nm (by omega) b g h l.length 0 [(⟨nm,a⟩:Mgr)] (by omega) (aR _)
 have e:IV.agg [.str nm,SL a]=Mgr.enc ⟨nm,a⟩:=rfl
 simp only[aD,aG,aK,aN]at c
 rw[A4u]
 simp only[dB,dP,aA,G5,e,c]
 rw[Apo]
 simp only[ltn,aA,aS,aB,Zf]
 rw[bC]
 exact Ag6 nm a (Th all new l) (Abn d) (by unfold Th;rw[aH];omega) hp (λm i=>by
  obtain⟨x,j,rfl⟩:=bB.1 i
  exact cL (Lw _ _) (cL (V3 _ _) (b x j)))
end Go.CT.Sch
namespace Go.CT.Sch
open Go.Proofs
def Bd7 (m:List Mgr)(nm:ByteArray)(all new:List ByteArray):List Mgr:=
 if(decide ((Hq m nm).length =0)&&decide (16<=(Zq nm [] true (Th all new m)).length))=true then Zq nm [] true (Th all new m)
 else Zq nm (Zw (Oy (Hq m nm) all++new)) (decide ((Zw (Oy (Hq m nm) all++new)).length =0)) (Th all new m)
noncomputable def Bg6 (s:Sch) (b a:Val) (m:List Mgr) (nm:ByteArray):List Mgr:=Bd7 m nm (Az s a) (Asu s b a)
noncomputable def Bf5 (s:Sch) (b a:Val) (m:List Mgr) (nm:ByteArray):List Mgr:=if okB s b a m nm=true then Bg6 s (D.Br b s) (D.Br a s) m nm else m
theorem Avr (l:List Mgr)(c:l.length<=1048576)(hp: ∀m∈l,m.paths.length<=1048576): ∀ (n i:Nat) (a:List Mgr),i+n=l.length->a.length<=i->
  W F207 1 [.list (l.map Mgr.enc),.int l.length,.int i,.list (a.map Mgr.enc)]=some [.list ((a++l.drop i).map Mgr.enc)]
 | 0,i,a,h,d=>by
  have:i=l.length:=by omega
  subst this
  rw[A5y,aO,aQ]
  simp only[ltn,aA,aS,aB,Zf]
 | n+1,i,a,h,d=>by
  have b:i<l.length:=by omega
  have e:=hp _ (aF b)
  have i2:=Avr l c hp n (i+1) (a++ [l[i]]) (by omega) (by simp;omega)
  have ap:eD 40 (.list (a.map Mgr.enc)) (.list [.agg [.str l[i].name,.list (l[i].paths.map .str)]])=some (.list ((a++ [l[i]]).map Mgr.enc)):=apm Mgr.enc a l[i] (by omega)
  have cl:O.Ig [.list (l[i].paths.map IV.str)]=some [.list (l[i].paths.map .str)]:=Ds (by rw[aH];omega)
  rw[A5y,aC b]
  simp only[lti b,aA,aS,Zt,Kg Mgr.enc b,Aqv,Arr,As9,cl,bM,dB,dP,ap,nxt (show i<4611686018427387904 by omega),i2,bH,bC]
theorem A7x (s:Sch)(b a:Val):(Asu s b a).length <=a.Ap:=cL (cH _ _) (Lp s a)
theorem ge16 (n:Nat):O.ge (.int (n:Int)) (.int 16)=some (.bool (decide (16<=n))):=by rw[O.Gt];congr 2;exact decide_eq_decide.2 (by omega)
theorem own0 {m:List Mgr}{nm:ByteArray}(a: ∀x∈m,x.paths≠ [])(h:(Hq m nm).length =0)(all new:List ByteArray):Zq nm [] true (Th all new m)=I9 (Th all new m):=by
 rw[Mw]
 congr 1
 refine dQ.2 λx c=>?_
 obtain⟨y,d,rfl⟩:=bB.1 c
 show(!decide (y.name=nm))=true
 rw[dY,decide_eq_false_iff_not]
 intro e
 unfold Hq at h
 cases b:m.find? λm=>decide (m.name=nm) with
 | none=>exact absurd (dW.1 b y d) (by simp[e])
 | some z=>
  rw[b]at h
  exact a z (bU b) (cC.1 h)
theorem Aua (s:Sch)(b a:Val)(m:List Mgr)(nm:ByteArray)(j:Sz s b a m):
  W F207 0 [s.enc,b.enc,a.enc,.list (m.map Mgr.enc),.str nm]=some [.list ((Bf5 s b a m nm).map Mgr.enc)]:=by
 have F:=j.hab
 have h:=j.hs
 have y:=j.hm
 have G:=j.hp
 have e: ∀x∈m,x.paths.length<=1048576:=λx o=>by have:=Qx o;omega
 rw[A2p]
 simp only[Pb s h,It b (by omega),It a (by omega),A6j m (by omega) (λx o=>by have:=e x o;omega),Awq,A27 s b h (by omega),A27 s a h (by omega),bM,dN,aA,aS,Aw,Am]
 have q: ∀a b:Bool,(if a=true then true else b)=(a||b):=by decide
 simp only[q,A5v]
 unfold Bf5
 cases r:okB s b a m nm with
 | false=>
  have:=Avr m (by omega) e m.length 0 [] (by omega) (aR _)
  simp only[aD,aN,aG,bG]at this
  simp only[bE,Zt,aB,Zf,G5,aA]
  exact this
 | true=>
  have d:=r
  unfold okB at d
  simp only[aE]at d
  obtain⟨⟨⟨z,A⟩,H⟩,f4⟩:=d
  have I:=Ot z
  have B:=Ot A
  have J:=I2 b s
  have K:=I2 a s
  obtain⟨i,t,hlen⟩:=Aw8 H
  simp only[aP,aB,Zf,Zt,(Rj z h (by omega)).1,(Rj A h (by omega)).1,bM]
  generalize D.Br b s=g at I J ⊢
  generalize D.Br a s=c at B K ⊢
  have C:=Lp s c
  have L:=A7x s g c
  have M:=Wd m nm
  have N:=V3 (Hq m nm) (Az s c)
  have u:=Nf (Oy (Hq m nm) (Az s c)++Asu s g c)
  rw[aM]at u
  have Q:=Aox m (Az s c) (Asu s g c) nm [] i y (dC _) e (by omega) (by omega)
  have R:=Aox m (Az s c) (Asu s g c) nm (Zw (Oy (Hq m nm) (Az s c)++Asu s g c)) i y (by omega) e (by omega) (by omega)
  have w:W Bfo 0 [.list (m.map Mgr.enc),.str nm,.list [],SL (Az s c),SL (Asu s g c)]=some [.list ((Zq nm [] true (Th (Az s c) (Asu s g c) m)).map Mgr.enc)]:=Q
  simp only[R6 s c h (by omega),Bdz s g c h (by omega) (by omega) B.vv,bM,A67 m nm (by omega) t,A6o (Hq m nm) (Az s c) (by omega) (by omega),A55 (Oy (Hq m nm) (Az s c)) (Asu s g c) (by omega) (by omega),fY,aA,eq0,aS,w,G5,ge16,R,Aw,Am]
  unfold Bg6 Bd7
  have hand: ∀a b:Bool,(if a=true then b else false)=(a&&b):=by decide
  simp only[hand]
  split<;>rfl
end Go.CT.Sch
namespace Go.CT.Sch.D
open Go.Proofs
theorem A6f (s:Sch)(y:s.Ap<=1099511627776)(w: ∀p∈s.f,∀m:Int,0<=m->m<=300-> ∃r:Int,W F2 0 [p.s.enc,.int m]=some [.int r]/\1<=r/\r<=max 1 m): ∀ (n i:Nat) (m c:Int),i+n=s.f.length->1<=c->c<=max 1 m->0<=m->m<=300->
  ∃r:Int,W F2 2 [.int m,.int c,.int i,s.enc]=some [.int r]/\1<=r/\r<=max 1 m
 | 0,i,m,c,h,o,a,x,b=>by
  have z: ¬ i<s.f.length:=by omega
  refine⟨c,?_,o,a⟩
  rw[A7k]
  simp[z]
 | n+1,i,m,c,h,o,a,x,b=>by
  have j:i<s.f.length:=by omega
  have H:=s.Bc
  have A:=Bf (i:=i) (by omega)
  rw[A7k]
  by_cases d:c<m
  ·have q:IntKind.i64.wrap (m - c)=m - c:=wrap64 (by omega) (by omega)
   obtain⟨r,B,C,F⟩:=w _ (aF j) (m - c) (by omega) (by omega)
   have t:IntKind.i64.wrap (c+r)=c+r:=wrap64 (by omega) (by omega)
   obtain⟨G,u,e,g⟩:=A6f s y w n (i+1) m (c+r) (by omega) (by omega) (by omega) x b
   refine⟨G,?_,e,g⟩
   simp only[eY,aA,eS,aH,dF,Al,j,Zd,aS,Zt,d,eV,aU,aT,aX,aI j,aJ,eO,O.Co,q,B,bM,eF,t,A,u]
  ·refine⟨c,?_,o,a⟩
   simp[j,d]
theorem A63 (s:Sch)(z:s.Ap<=1099511627776)(w: ∀x∈s.it,∀m:Int,0<=m->m<=300-> ∃r:Int,W F2 0 [x.enc,.int m]=some [.int r]/\1<=r/\r<=max 1 m): ∀ (n i:Nat) (m c:Int),i+n=s.it.length->1<=c->c<=max 1 m->0<=m->m<=300->
  ∃r:Int,W F2 1 [.int m,.int c,.int i,s.enc]=W F2 2 [.int m,.int r,.int 0,s.enc]/\1<=r/\r<=max 1 m
 | 0,i,m,c,h,o,a,y,b=>by
  have A: ¬ i<s.it.length:=by omega
  refine⟨c,?_,o,a⟩
  rw[A6q]
  simp[A]
 | n+1,i,m,c,h,o,a,y,b=>by
  have j:i<s.it.length:=by omega
  have I:=s.Q1
  have B:=Bf (i:=i) (by omega)
  rw[A6q]
  by_cases d:c<m
  ·have q:IntKind.i64.wrap (m - c)=m - c:=wrap64 (by omega) (by omega)
   obtain⟨r,C,F,G⟩:=w _ (aF j) (m - c) (by omega) (by omega)
   have t:IntKind.i64.wrap (c+r)=c+r:=wrap64 (by omega) (by omega)
   obtain⟨H,u,e,g⟩:=A63 s z w n (i+1) m (c+r) (by omega) (by omega) (by omega) y b
   refine⟨H,?_,e,g⟩
   simp only[dU,aA,eS,aH,dF,Al,j,Zd,aS,Zt,d,eV,aU,aT,aX,aI j,aJ,O.Co,q,C,bM,eF,t,B,u]
  ·refine⟨c,?_,o,a⟩
   simp[j,d]
theorem A9w: ∀s:Sch,s.Ap<=1099511627776-> ∀m:Int,0<=m->m<=300-> ∃r:Int,W F2 0 [s.enc,.int m]=some [.int r]/\1<=r/\r<=max 1 m:=by
 refine Sch.ind λs b d e m g a=>?_
 obtain⟨c,i,j,o⟩:=A63 s e (λx h=>b x h (by have:=fB h;omega)) s.it.length 0 m 1 (by omega) (by omega) (by omega) g a
 obtain⟨r,q,t,u⟩:=A6f s e (λp hp=>d p hp (by have:=gT hp;omega)) s.f.length 0 m c (by omega) j o g a
 refine⟨r,?_,t,u⟩
 rw[Bfi]
 exact i.trans q
end Go.CT.Sch.D
namespace Go.CT.Sch
open Go.Proofs
theorem Auq (l:List Mgr)(i:Nat)(a:i<l.length)(c:l.length<=1048576)(hp:l[i].paths.length <=1048576): ∀ (n j:Nat),j+n=l[i].paths.length ->
  W Bdm 2 [.list (l.map Mgr.enc),.list (l.map Mgr.enc),.int i,.int j]=W Bdm 1 [.list (l.map Mgr.enc),.list (l.map Mgr.enc),.int (i+1:Nat)]
 | 0,j,h=>by
  have:j=l[i].paths.length :=by omega
  subst this
  rw[Ap6]
  simp only[Kg Mgr.enc a,Arr,G5,aA,ltn,aS,aB,Zf,nxt (show i<4611686018427387904 by omega)]
 | n+1,j,h=>by
  have b:j<l[i].paths.length :=by omega
  have d:=Auq l i a c hp n (j+1) (by omega)
  rw[Ap6]
  simp only[Kg Mgr.enc a,Arr,G5,aA,lti b,aS,Zt,Kg IV.str b,gD,Zd,aP,aB,Zf,nxt (show j<4611686018427387904 by omega),d]
theorem Axd (l:List Mgr)(b:l.length<=1048576)(hp: ∀m∈l,m.paths.length<=1048576): ∀ (n i:Nat),i+n=l.length->W Bdm 1 [.list (l.map Mgr.enc),.list (l.map Mgr.enc),.int i]=some [.bool true]
 | 0,i,h=>by
  have:i=l.length:=by omega
  subst this
  rw[Anb]
  simp only[G5,aA,ltn,aS,aB,Zf]
 | n+1,i,h=>by
  have a:i<l.length:=by omega
  have d:=Axd l b hp n (i+1) (by omega)
  have c:=Auq l i a b (hp _ (aF a)) l[i].paths.length 0 (by omega)
  simp only[aD]at c
  rw[Anb]
  simp only[G5,aA,lti a,aS,Zt,Kg Mgr.enc a,Aqv,Arr,gD,Zd,aP,aB,Zf,eL,c,d]
theorem Bgr (l:List Mgr)(a:l.length<=1048576)(hp: ∀m∈l,m.paths.length<=1048576):W Bdm 0 [.list (l.map Mgr.enc),.list (l.map Mgr.enc)]=some [.bool true]:=by
 have:=Axd l a hp l.length 0 (by omega)
 simp only[aD]at this
 rw[A2w]
 simp only[G5,aA,eL,Zd,aP,aS,aB,Zf,this]
theorem A82 (m:List Mgr)(z:m.length<=1048576)(hp: ∀x∈m,x.paths.length<=1048576)(s:Sch)(a b:Val)(A:s.Ap<=1048576)(B:a.Ap<=1048576)(C:b.Ap<=1048576): ∀ (n i c:Nat),i+n=m.length->c<=1048576+i * 1048576->
  ∃r,W F1 1 [.list (m.map Mgr.enc),.int c,.int i,s.enc,a.enc,b.enc]=some [.bool r]:=by
 obtain⟨sz,d,_⟩:=D.A9w s (by omega) 300 (by omega) (by omega)
 obtain⟨b1,e⟩:=Aif a (by omega) 200 (by omega) (by omega)
 obtain⟨b2,g⟩:=Aif b (by omega) 200 (by omega) (by omega)
 intro n
 induction n with
 | zero=>
  intro i c h t
  have:i=m.length:=by omega
  subst this
  have j:O.lt (.int (c:Int)) (.int 400)=some (.bool (decide ((c:Int)<400))):=dF
  have o:O.lt (.int sz) (.int 300)=some (.bool (decide (sz<300))):=dF
  rw[A68]
  simp only[G5,aA,ltn,aS,aB,Zf,j,o,d,e,g,bM,Aw,Am]
  exact⟨_,rfl⟩
 | succ n u=>
  intro i c h t
  have q:i<m.length:=by omega
  have F:=hp _ (aF q)
  have w:IntKind.i64.wrap ((c:Int)+(m[i].paths.length :Int))=((c+m[i].paths.length :Nat):Int):=by
   have:i * 1048576<=1048576 * 1048576:=fK (by omega) (aR _)
   rw[wrap64 (by omega) (by omega)];omega
  obtain⟨r,y⟩:=u (i+1) (c+m[i].paths.length) (by omega) (by rw[Nat.add_mul];omega)
  have j:O.lt (.int (c:Int)) (.int 400)=some (.bool (decide ((c:Int)<400))):=dF
  have o:O.lt (.int sz) (.int 300)=some (.bool (decide (sz<300))):=dF
  rw[A68]
  simp only[G5,aA,lti q,aS,Zt,j,o,Kg Mgr.enc q,Arr,eF,w,nxt (show i<4611686018427387904 by omega),y,d,e,g,bM,Aw,Am]
  split
  ·exact⟨r,rfl⟩
  ·exact⟨_,rfl⟩
theorem Bd9 (m:List Mgr)(c:m.length<=1048576)(hp: ∀x∈m,x.paths.length<=1048576)(s:Sch)(a b:Val)(d:s.Ap<=1048576)(e:a.Ap<=1048576)(g:b.Ap<=1048576): ∃r,W F1 0 [s.enc,a.enc,b.enc,.list (m.map Mgr.enc)]=some [.bool r]:=by
 obtain⟨r,h⟩:=A82 m c hp s a b d e g m.length 0 m.length (by omega) (by omega)
 refine⟨r,?_⟩
 rw[Bd6]
 simp only[G5,aA]
 exact h
end Go.CT.Sch
namespace Go.CT.Sch
open Go.Proofs
theorem Aw2: ∀ {p q:List Stp},p.map bZ=q.map bZ->p=q
 | [],[],_=>rfl
 | [],_::_,h=>by cases h
 | _::_,[],h=>by cases h
 | a::p,b::q,h=>by
  simp only[aK,dS]at h
  obtain⟨c,d⟩:=h
  obtain⟨e,a2,a3,a4⟩:=a
  obtain⟨b1,b2,b3,b4⟩:=b
  simp only[bZ,IV.agg.injEq,dS,IV.int.injEq,IV.str.injEq,and_true]at c
  obtain⟨rfl,rfl,rfl,rfl⟩:=c
  rw[Aw2 d]
theorem Ahn {p q:List Stp}(hp:Cy p=true)(c:Cy q=true)(h:Cn p=Cn q):p=q:=by
 have a:=Vg p hp
 have b:=Vg q c
 rw[h,b]at a
 simp only[Option.some.injEq,dS,IV.list.injEq,and_true]at a
 exact(Aw2 a).symm
theorem Av2 (s:Sch)(cf lv:Val){p:List Stp}(hp:Cy p=true)(a: ∀x∈p,x.k≠2):Ach s cf lv (Cn p)=Aiy s cf lv p:=by
 have h:Nw (Cn p):=⟨p,rfl,hp,a⟩
 unfold Ach
 rw[dif_pos h,Ahn h.choose_spec.2.1 hp h.choose_spec.1]
theorem A7g (v:Val){p:List Stp}(hp:Cy p=true)(a: ∀x∈p,x.k≠2):atB v (Cn p)=(Hb v p).getD Ar:=by
 have h:Nw (Cn p):=⟨p,rfl,hp,a⟩
 unfold atB
 rw[dif_pos h,Ahn h.choose_spec.2.1 hp h.choose_spec.1]
theorem Af8 {s:Sch}{cf lv:Val}{p:List Stp}(h:Hb cf p=Hb lv p)(a:(Hb lv p).isSome =true):Aiy s cf lv p=true:=by
 unfold Aiy
 rw[h,a];simp
theorem Aul {s:Sch}{cf lv:Val}{p:List Stp}(a:Hb lv p=none):Aiy s cf lv p=false:=by
 unfold Aiy
 rw[a];rfl
theorem Axc {s:Sch}{cf lv a b:Val}{p:List Stp}(c:Hb cf p=some a)(d:Hb lv p=some b)(g:a.n≠b.n)(h:emS ((atV s p).getD Bg) a=false):Aiy s cf lv p=false:=by
 have: ¬ a=b:=λe=>g (by rw[e])
 unfold Aiy
 rw[c,d]
 simp[this,h]
def Bf4:Sch:=⟨2,0,9,[],An,[],[]⟩
def exS:Sch:=⟨5,0,0,[],An,[],[⟨⟨#[97]⟩,false,false,[],Bf4⟩,⟨⟨#[98]⟩,false,false,[],Bf4⟩,⟨⟨#[99]⟩,false,false,[],Bf4⟩]⟩
def vm (l:List (UInt8 × Int)):Val:=⟨5,0,An,[],l.map λp=>(⟨#[p.1]⟩,⟨2,p.2,An,[],[]⟩)⟩
def exM:List Mgr:= [⟨⟨#[109]⟩,[⟨#[97]⟩,⟨#[98]⟩]⟩]
def stF (c:UInt8):List Stp:= [Cv ⟨#[c]⟩]
theorem Avb (c:UInt8): ∀x∈stF c,x.k≠2:=by
 intro x a
 rw[bT.1 a]
 show(1:Int)≠2
 decide
theorem Amz (cf lv:Val)(c:UInt8)(a:Cy (stF c)=true)(b:Bool)(h:Aiy exS cf lv (stF c)=b):Ach exS cf lv (Cn (stF c))=b:=by
 rw[Av2 exS cf lv a (Avb c),h]
theorem ex_1:Abh exS (vm [(97,1),(98,2)]) exM ⟨#[110]⟩ (vm [(97,1),(99,3)]) false=⟨vm [(97,1),(98,2),(99,3)],[⟨⟨#[109]⟩,[⟨#[97]⟩,⟨#[98]⟩]⟩,⟨⟨#[110]⟩,[⟨#[97]⟩,⟨#[99]⟩]⟩],[],0⟩:=by
 have ok:okB exS (vm [(97,1),(98,2)]) (vm [(97,1),(99,3)]) exM ⟨#[110]⟩=true:=by kernel_rfl
 have e1:D.Br (vm [(97,1),(98,2)]) exS=vm [(97,1),(98,2)]:=by kernel_rfl
 have a:D.Br (vm [(97,1),(99,3)]) exS=vm [(97,1),(99,3)]:=by kernel_rfl
 have el:Az exS (vm [(97,1),(99,3)])= [Cn (stF 97),Cn (stF 99)]:=by kernel_rfl
 have b:=Amz (vm [(97,1),(99,3)]) (vm [(97,1),(98,2)]) 97 (by kernel_rfl) true (Af8 (by kernel_rfl) (by kernel_rfl))
 have c:=Amz (vm [(97,1),(99,3)]) (vm [(97,1),(98,2)]) 99 (by kernel_rfl) false (Aul (by kernel_rfl))
 have ec:Ahc exS (vm [(97,1),(98,2)]) (vm [(97,1),(99,3)]) exM ⟨#[110]⟩= []:=by
  unfold Ahc Rl
  rw[el,aV,aV,b,c]
  show _=_
  kernel_rfl
 unfold Abh Ai0 Aun
 rw[if_pos ok,e1,a,ec]
 show _=_
 kernel_rfl
theorem Bgg:Ahc exS (vm [(97,1),(98,2)]) (vm [(97,5)]) exM ⟨#[110]⟩= [⟨⟨#[97]⟩,⟨#[109]⟩⟩]:=by
 have el:Az exS (vm [(97,5)])= [Cn (stF 97)]:=by kernel_rfl
 have c:=Amz (vm [(97,5)]) (vm [(97,1),(98,2)]) 97 (by kernel_rfl) false (Axc (a:=⟨2,5,An,[],[]⟩) (b:=⟨2,1,An,[],[]⟩) (by kernel_rfl) (by kernel_rfl) (by decide) (by kernel_rfl))
 unfold Ahc Rl
 rw[el,aV,c]
 show _=_
 kernel_rfl
theorem ex_2 (force:Bool):Abh exS (vm [(97,1),(98,2)]) exM ⟨#[110]⟩ (vm [(97,5)]) force=if force then⟨vm [(97,5),(98,2)],[⟨⟨#[109]⟩,[⟨#[98]⟩]⟩,⟨⟨#[110]⟩,[⟨#[97]⟩]⟩],[],0⟩else⟨Ar,[],[⟨⟨#[97]⟩,⟨#[109]⟩⟩],9⟩:=by
 have ok:okB exS (vm [(97,1),(98,2)]) (vm [(97,5)]) exM ⟨#[110]⟩=true:=by kernel_rfl
 have e1:D.Br (vm [(97,1),(98,2)]) exS=vm [(97,1),(98,2)]:=by kernel_rfl
 have a:D.Br (vm [(97,5)]) exS=vm [(97,5)]:=by kernel_rfl
 unfold Abh Ai0 Aun
 rw[if_pos ok,e1,a,Bgg]
 cases force
 ·show _=_
  kernel_rfl
 ·show _=_
  kernel_rfl
theorem ex_3:Abh exS (vm [(97,1),(98,2)]) exM ⟨#[109]⟩ (vm [(97,1)]) false=⟨vm [(97,1)],[⟨⟨#[109]⟩,[⟨#[97]⟩]⟩],[],0⟩:=by
 have ok:okB exS (vm [(97,1),(98,2)]) (vm [(97,1)]) exM ⟨#[109]⟩=true:=by kernel_rfl
 have e1:D.Br (vm [(97,1),(98,2)]) exS=vm [(97,1),(98,2)]:=by kernel_rfl
 have a:D.Br (vm [(97,1)]) exS=vm [(97,1)]:=by kernel_rfl
 have el:Az exS (vm [(97,1)])= [Cn (stF 97)]:=by kernel_rfl
 have b:=Amz (vm [(97,1)]) (vm [(97,1),(98,2)]) 97 (by kernel_rfl) true (Af8 (by kernel_rfl) (by kernel_rfl))
 have ec:Ahc exS (vm [(97,1),(98,2)]) (vm [(97,1)]) exM ⟨#[109]⟩= []:=by
  unfold Ahc Rl
  rw[el,aV,b]
  show _=_
  kernel_rfl
 unfold Abh Ai0 Aun
 rw[if_pos ok,e1,a,ec]
 show _=_
 kernel_rfl
theorem ex_4:Bf5 exS (vm [(97,1),(98,2)]) (vm [(97,1),(98,4)]) exM ⟨#[110]⟩= [⟨⟨#[109]⟩,[⟨#[97]⟩]⟩,⟨⟨#[110]⟩,[⟨#[98]⟩]⟩]:=by
 have ok:okB exS (vm [(97,1),(98,2)]) (vm [(97,1),(98,4)]) exM ⟨#[110]⟩=true:=by kernel_rfl
 have e1:D.Br (vm [(97,1),(98,2)]) exS=vm [(97,1),(98,2)]:=by kernel_rfl
 have d:D.Br (vm [(97,1),(98,4)]) exS=vm [(97,1),(98,4)]:=by kernel_rfl
 have el:Az exS (vm [(97,1),(98,4)])= [Cn (stF 97),Cn (stF 98)]:=by kernel_rfl
 have el2:Az exS (vm [(97,1),(98,2)])= [Cn (stF 97),Cn (stF 98)]:=by kernel_rfl
 have g:=fun(v:Val)=>A7g v (p:=stF 97) (by kernel_rfl) (Avb 97)
 have c:=fun(v:Val)=>A7g v (p:=stF 98) (by kernel_rfl) (Avb 98)
 have h:A9v exS (vm [(97,1),(98,2)]) (vm [(97,1),(98,4)]) (Cn (stF 97))=false:=by
  have a:(Hb (vm [(97,1),(98,2)]) (stF 97)).getD Ar=(Hb (vm [(97,1),(98,4)]) (stF 97)).getD Ar:=by kernel_rfl
  have b:inB [Cn (stF 97),Cn (stF 98)] (Cn (stF 97))=true:=by kernel_rfl
  unfold A9v
  rw[el2,g,g,a,b];simp
 have i:A9v exS (vm [(97,1),(98,2)]) (vm [(97,1),(98,4)]) (Cn (stF 98))=true:=by
  have a:((Hb (vm [(97,1),(98,2)]) (stF 98)).getD Ar).n =2:=by kernel_rfl
  have b:((Hb (vm [(97,1),(98,4)]) (stF 98)).getD Ar).n =4:=by kernel_rfl
  have j: ¬ (Hb (vm [(97,1),(98,2)]) (stF 98)).getD Ar=(Hb (vm [(97,1),(98,4)]) (stF 98)).getD Ar:=λe=>by
   rw[e,b]at a
   exact absurd a (by decide)
  unfold A9v
  rw[c,c]
  simp[j]
 have ec:Asu exS (vm [(97,1),(98,2)]) (vm [(97,1),(98,4)])= [Cn (stF 98)]:=by
  unfold Asu
  rw[el,aW,aW,h,i]
  rfl
 unfold Bf5 Bg6
 rw[if_pos ok,e1,d,ec]
 show _=_
 kernel_rfl
end Go.CT.Sch
