import Derived.Test.YtfealnpkfnjbkaaGreatDoorUpdatesPrA
import Derived.Test.YtfealnpkfnjbkaaGreatDoorCtC
import Derived.Test.YtfealnpkfnjbkaaGreatDoorLib
set_option linter.unusedVariables false
set_option linter.unusedSimpArgs false
open Bool renaming false_eq_true->aB,not_true->aH,and_eq_true->aK,not_false->aX,true_and->bM,not_eq_true'->cV,false_and->dG,and_self->eC,and_false->fF
open ByteArray renaming toList_data_append->bY,size_append->dR
open Go.CT.Fld renaming enc->bC,I5->eF,Bj->eU
open Go.CT.IV renaming bulk->dI,Cs->fD
open Go.CT.O renaming Aa->aO,Ae->bD,eq_int->bJ,append->cA,Ay->cL,Ap->cO,A9->cT,index->cX,proj->dA,Ah->dD,Bx->dE,gt->dS,Al->dZ,lt->eA,An->eB,len->eD,Ak->eK,Ci->eR,Bt->eW,Cw->eY,Dz->fG,add->fS,Bl->fT,E3->fU
open Go.CT.Prim renaming ev->fH
open Go.CT.SFld renaming enc->cN,Tb->eL,Bj->fB
open Go.CT.Sch renaming Hy->cZ,Bj->dN,H6->dO,Cb->dV,enc->dX,Gu->eE
open Go.CT.Sch.Sch renaming Tx->fN
open Go.CT.Sch.Stp renaming enc->bL
open Go.CT.Srt renaming len->cY,idx->fJ
open Go.CT.Val renaming enc->bI,B5->bZ,Cb->cK,Bj->cR,E5->dK,Avh->dP,ind->dQ,Avx->dY,C7->eP,Ee->eQ,Ck->eV,Dq->fC,fold->fE,E6->fI,size_eq->fL,A8x->fO,Acd->fP,Acp->fQ
open Int renaming cast_ofNat_Int->aD,toNat_natCast->aT,natCast_nonneg->aW,toNat_zero->cU,le_refl->dH
open List renaming drop_eq_getElem_cons->aC,getElem_mem->aE,drop_zero->aF,length_map->aG,getElem?_eq_getElem->aI,drop_length->aJ,map_nil->aL,map_cons->aM,append_nil->aN,length_append->aP,drop_of_length_le->aR,flatMap_cons->aS,nil_append->aU,append_assoc->aY,getElem?_map->aZ,length_nil->bA,length_singleton->bB,mem_cons->bE,singleton_append->bF,filter_cons->bH,length_eq_one_iff->bK,all_eq_true->bN,mem_map->bO,find?_cons->bP,getElem?_cons_zero->bQ,flatMap_nil->bR,filter_nil->bS,length_cons->bT,pairwise_cons->bV,mem_singleton->bW,length_eq_zero_iff->bX,length_filter_le->cB,mem_of_find?_eq_some->cC,all_cons->cF,all_nil->cH,map_append->cI,mem_append->cJ,length->cM,mem_flatMap->cQ,drop_eq_nil_of_le->cW,mem_filter->dB,length_pos_iff->dC,pairwise_singleton->dM,set_getElem_self->dT,mem_of_getElem?->dW,mem_cons_self->eG,pairwise_map->eN,length_drop->eO,length_take->eS,getElem_map->eT,head?_cons->eZ,map_map->fK
open List.Pairwise renaming nil->cD,filter->fM,map->fR
open List.cons renaming injEq->cS
open Nat renaming le_refl->aV,le_trans->cE,le_of_not_lt->cG,zero_add->cP,mul_le_mul->dF,zero_le->dJ,add_sub_cancel->eI,add_zero->eJ
open Option renaming bind_some->aA,map_some->aQ,getD_some->bG,isSome_some->bU,isSome_iff_exists->dL,isSome_none->eH,isSome_map->eM,map_none->fA
open UInt8 renaming lt_iff_toNat_lt->dU,toNat_inj->eX
namespace Go.CT.Sch
open Go.Proofs
theorem sxb {s:ByteArray}{i:Nat}{c:UInt8}{r:List UInt8}(h:s.data.toList.drop i=c::r): ∃a:i<s.size,s[i]=c/\s.data.toList.drop (i+1)=r:=by
 obtain⟨_,a,d⟩:=sx h
 have b:=Gy a
 rw[h]at b
 exact⟨a,(List.cons.inj b).1.symm,d⟩
theorem pn_1 (s:ByteArray): ∀ (a:List UInt8) (i:Nat) (r:List UInt8),s.data.toList.drop i=a++r->i<=s.size->(∀c∈a,Bq c=true)->Xe r->
  W A2e 1 [.str s,.str s,.int i]=some [.int ((i+a.length:Nat):Int)]
 | [],i,r,h,g,_,j=>by
  rw[Alw]
  cases r with
  | nil=>
   have b: ¬ i<s.size:=by
    have:=congrArg cM h
    rw[eO,Co]at this
    simp at this;omega
   have e:i=s.size:=by omega
   simp only[O.Rf b,O.R9 b,O.M9 b,aA,aO,aB,Zf,fT,bA,eJ]
   rw[e]
  | cons c t=>
   obtain⟨b,m,_⟩:=sxb (show s.data.toList.drop i=c::t from h)
   have o:=j c t rfl
   rw[<-m]at o
   have y:nmR (Utf8.decode s i).1 =false:=by
    by_cases q:s[i].toNat <128
    ·rw[Nt b q,<-o,<-To]
    ·exact Aa4 (by have:=decode_high b (by omega);omega)
   simp only[O.P5 b,O.Qh b,O.Lp b,aA,aO,Zt,O.Ql,Aic,y,bD,cO,aX,bA,eJ]
 | c::a,i,r,h,g,u,j=>by
  obtain⟨b,m,z⟩:=sxb (show s.data.toList.drop i=c::(a++r) from h)
  have d:=u c (by simp)
  rw[<-m]at d
  have q:s[i].toNat <128:=by
   apply Classical.byContradiction
   intro o
   rw[Ae9 (by omega)]at d;cases d
  have w:=pn_1 s a (i+1) r z (by omega) (λx A=>u x (by simp[A])) j
  have e:i+1+a.length=i+(c::a).length :=by simp;omega
  rw[e]at w
  rw[Alw]
  simp only[O.P5 b,O.Qh b,O.Lp b,Nt b q,aA,aO,Zt,O.Ql,Aic,To,d,bD,cO,aH,aB,Zf,w]
theorem A24 (s:ByteArray)(a r:List UInt8)(h:s.data.toList=a++r)(b: ∀c∈a,Bq c=true)(d:Xe r):W A2e 0 [.str s]=some [.int (a.length:Nat)]:=by
 have:=pn_1 s a 0 r (by rw[aF];exact h) (by omega) b d
 rw[cP]at this
 rw[Aw8]
 exact this
theorem slo {s:ByteArray}{i:Nat}{r:List UInt8}(h:s.data.toList.drop i=r)(a:i<=s.size):O.E7 (.str s) (.int i)=some (.str (bsL r)):=by
 rw[O.Afd,if_pos ⟨by omega,by omega⟩]
 congr 2
 apply Ek
 rw[ByteArray.data_extract,Array.toList_extract]
 simp only[aT,List.extract_eq_take_drop,bsL,h]
 refine List.take_of_length_le ?_
 have:=congrArg cM h
 rw[eO,Co]at this
 omega
theorem Bdx (s:ByteArray)(I:s.size<=100000): ∀ (v:List UInt8) (i:Nat) (r:List UInt8) (o:ByteArray),s.data.toList.drop i=v.flatMap H8++34::r->(∀c∈v,Hm c=true)->o.size+v.length<=1000->
  W Anr 1 [.str s,.int i,.list (B6 o)]=some [.str (o++bsL v),.str (bsL r),.bool true]
 | [],i,r,o,h,_,_=>by
  obtain⟨j,m,q⟩:=sx (show s.data.toList.drop i=34::r from h)
  have t:=A8 (i:=i) (by omega)
  have e:o++bsL []=o:=by apply Ek;rw[bY];simp[bsL]
  have A:((34:UInt8).toNat :Int)=34:=rfl
  rw[Abc]
  simp only[fT,aA,dD,Aj,m,Zd,aO,Zt,j,bJ,A,A8q,O.Lm,bD,dZ,t,slo q (by omega),e]
 | c::v,i,r,o,h,J,K=>by
  have L:=J c (by simp)
  have u: ∀x∈v,Hm x=true:=λx M=>J x (by simp[M])
  simp only[bT]at K
  have hrange:=Sh L
  simp only[aS,aY]at h
  have two: ∀d:UInt8,H8 c= [92,d]->(d.toNat=34\/d.toNat=92\/d.toNat=110)->(d.toNat=110↔c.toNat=10)->(d.toNat≠110->d=c)->
    W Anr 1 [.str s,.int i,.list (B6 o)]=some [.str (o++bsL (c::v)),.str (bsL r),.bool true]:=by
   intro d B hd N C
   rw[B]at h
   obtain⟨j,m,q⟩:=sx (show s.data.toList.drop i=92::(d::(v.flatMap H8++34::r)) from h)
   obtain⟨Q,R,S⟩:=sx q
   have t:=A8 (i:=i) (by omega)
   have E:=A8 (i:=i+1) (by omega)
   have F:((92:UInt8).toNat :Int)=92:=rfl
   have G:=Bdx s I v (i+1+1) r (o++bsL [c]) S u (by rw[dR,Bz,bB];omega)
   have nx:W Anr 2 [.str s,.int ((i+1:Nat):Int),.list (B6 (o++bsL [c]))]=some [.str (o++bsL (c::v)),.str (bsL r),.bool true]:=by
    rw[Ajg]
    simp only[dZ,E,aA,G,Tm]
   rw[Abc]
   simp only[fT,aA,dD,Aj,m,Zd,aO,Zt,j,bJ,F,show ¬ (92:Int)=34 by omega,Ze,aB,Zf,show ¬ (92:Int)<32 by omega,eW,show ¬ (126:Int)<92 by omega,dE,aH,dZ,t,R,Q]
   by_cases cn:d.toNat=110
   ·have g: ¬ (d.toNat:Int)=34:=by omega
    have w: ¬ (d.toNat:Int)=92:=by omega
    have H:(d.toNat:Int)=110:=by omega
    have y:c=10:=eX.1 (N.1 cn)
    have a:=Lo o 10 (by omega)
    rw[show((10:UInt8).toNat :Int)=10 from rfl]at a
    rw[<-y]at a
    simp only[H,show ¬ (110:Int)=34 by omega,show ¬ (110:Int)=92 by omega,Zd,Ze,aB,Zf,Zt,aA,aO,a,bD,nx]
   ·have z:=C cn
    have a:=Lo o d (by omega)
    rw[z]at a
    subst z
    rcases hd with hd | hd | hd
    ·have g:(d.toNat:Int)=34:=by omega
     rw[g]at a
     simp only[g,Zd,Zt,aA,aO,a,bD,nx]
    ·have g: ¬ (d.toNat:Int)=34:=by omega
     have w:(d.toNat:Int)=92:=by omega
     rw[w]at a
     simp only[w,show ¬ (92:Int)=34 by omega,Zd,Ze,aB,Zf,Zt,aA,aO,a,bD,nx]
    ·exact absurd hd cn
  by_cases b:c.toNat=10
  ·exact two 110 (by unfold H8;rw[if_pos b]) (.inr (.inr rfl)) ⟨λ_=>b,λ_=>rfl⟩ (λh=>(h rfl).elim)
  ·by_cases cq:c.toNat=34\/c.toNat=92
   ·exact two c (by unfold H8;rw[if_neg b,if_pos cq]) (by omega) (by omega) (λ_=>rfl)
   ·have B:H8 c= [c]:=by unfold H8;rw[if_neg b,if_neg cq]
    rw[B]at h
    obtain⟨j,m,q⟩:=sx (show s.data.toList.drop i=c::(v.flatMap H8++34::r) from h)
    have t:=A8 (i:=i) (by omega)
    have G:=Bdx s I v (i+1) r (o++bsL [c]) q u (by rw[dR,Bz,bB];omega)
    have a:=Lo o c (by omega)
    have g: ¬ (c.toNat:Int)=34:=by omega
    have w: ¬ (c.toNat:Int)<32:=by omega
    have H: ¬ (126:Int)<c.toNat:=by omega
    have T: ¬ (c.toNat:Int)=92:=by omega
    rw[Abc]
    simp only[fT,aA,dD,Aj,m,Zd,aO,Zt,j,bJ,g,Ze,aB,Zf,w,eW,H,dE,T,aX,a,bD]
    rw[Ajg]
    simp only[dZ,t,aA,G,Tm]
theorem A3a (c:UInt8)(l:List UInt8):decide (bsL (c::l)=(⟨#[]⟩:ByteArray))=false:=decide_eq_false λe=>by
 have h:=congrArg ByteArray.size e
 rw[Bz,show(⟨#[]⟩:ByteArray).size =0 from rfl]at h
 cases h
theorem Azy (v:ByteArray)(a:Iz v=true)(r:List UInt8)(j:r.length<=20000):W Anr 0 [.str (bsL (34::(v.data.toList.flatMap H8++34::r)))]=some [.str v,.str (bsL r),.bool true]:=by
 have d:=Nr a
 unfold Iz at a
 simp only[aK,bN]at a
 have e:=Ah5 v.data.toList
 rw[Co]at e
 obtain⟨c,m,g⟩:=sx (s:=bsL (34::(v.data.toList.flatMap H8++34::r))) (i:=0) (show _=34::(v.data.toList.flatMap H8++34::r) from rfl)
 have h:(bsL (34::(v.data.toList.flatMap H8++34::r))).size <=100000:=by
  rw[Bz]
  simp only[bT,aP];omega
 have:=Bdx _ h v.data.toList 1 r Ar g a.1 (by rw[Co];show 0+_<=_;omega)
 rw[Gl,Nx]at this
 have b:((34:UInt8).toNat :Int)=34:=rfl
 simp only[aD]at c
 rw[Awp]
 simp only[eY,A3a,aA,aO,aB,Zf,c,dE,b,Zd,aH]
 exact this
theorem Baf (r:List UInt8):Xe (61::r):=Ny (by decide)
theorem Ba9 (s nm vl:ByteArray)(m:Cn nm=true)(t:Iz vl=true)(r:List UInt8)(y:r.length<=10000)(h:s.data.toList=91::(nm.data.toList++61::(34::(vl.data.toList.flatMap H8++34::(93::r))))):
  W Bd1 0 [.str s]=some [bL ⟨3,nm,0,vl⟩,.str (bsL r),.bool true]:=by
 obtain⟨d,a⟩:=Gb m
 have o:0<nm.data.toList.length:=dC.2 a
 have e:s.data.toList.drop 1=nm.data.toList++61::(34::(vl.data.toList.flatMap H8++34::(93::r))):=by rw[h];rfl
 have b:=congrArg cM h
 rw[Co]at b
 simp only[bT,aP]at b
 have q:=slo e (by omega)
 simp only[aD]at q
 have a2:=A24 (bsL (nm.data.toList++61::(34::(vl.data.toList.flatMap H8++34::(93::r))))) nm.data.toList _ rfl d (Baf _)
 have u:IntKind.i64.wrap (1+((nm.data.toList.length:Nat):Int))=((1+nm.data.toList.length:Nat):Int):=by
  have:nm.data.toList.length<=40:=by rw[Co];exact Pm m
  rw[wrap64 (by omega) (by omega)];omega
 have a3:=ssl e a
 simp only[aD]at a3
 rw[Nx]at a3
 have w:s.data.toList.drop (1+nm.data.toList.length)=61::(34::(vl.data.toList.flatMap H8++34::(93::r))):=Tu e
 have a4:=slo w (by omega)
 have x: ¬ ((nm.data.toList.length:Nat):Int)=0:=by omega
 have b1:=fun(c:UInt8) (l:List UInt8)=>(sx (s:=bsL (c::l)) (i:=0) (show _=c::l from rfl)).1
 simp only[aD]at b1
 have b2:=fun(c:UInt8) (l:List UInt8)=>slo (s:=bsL (c::l)) (i:=1) (show _=l from rfl) (by rw[Bz];simp)
 simp only[aD]at b2
 have g:((61:UInt8).toNat :Int)=61:=rfl
 have j:((93:UInt8).toNat :Int)=93:=rfl
 rw[Ayc]
 simp only[q,aA,a2,bD,dZ,u,a3,a4,bJ,x,Ze,aO,aB,Zf,eY,A3a,b1,g,j,show ¬ (61:Int)=93 by omega,dE,Zd,aH,b2,Azy vl t (93::r) (by simp;omega),O.Kh,cO,cT]
 rfl
theorem Bdo {s:ByteArray}(h:s.data.toList= []):s=⟨#[]⟩:=Ek h
theorem pq_3 (s:ByteArray)(nm:ByteArray)(g:Cn nm=true)(r:List UInt8)(h:s.data.toList=nm.data.toList++r)(i:Xe r)(done:List Stp)(hd:done.length<=100):
  W Agr 3 [.str s,.list (done.map bL)]=W Agr 1 [.str (bsL r),.list ((done++ [(⟨1,nm,0,Ar⟩:Stp)]).map bL)]:=by
 obtain⟨b,a⟩:=Gb g
 have d:0<nm.data.toList.length:=dC.2 a
 have j:=A24 s nm.data.toList r h b i
 have m: ¬ ((nm.data.toList.length:Nat):Int)=0:=by omega
 have o:s.data.toList.drop 0=nm.data.toList++r:=h
 have a2:=ssl o a
 simp only[aD,cP]at a2
 rw[Nx]at a2
 have c:=congrArg cM h
 rw[Co,aP]at c
 have q:s.data.toList.drop nm.data.toList.length=r:=by rw[h,List.drop_left]
 have a3:=slo q (by omega)
 have e:IV.agg [.int 1,.str nm,.int 0,.str ⟨#[]⟩]=bL ⟨1,nm,0,Ar⟩:=rfl
 rw[Awe]
 simp only[j,bD,bJ,m,Ze,aA,aO,aB,Zf,a2,cT,e,cL,apm bL (n:=48) done ⟨1,nm,0,Ar⟩ (by omega),a3]
 rw[Aiq]
theorem pq_1 (full:List Stp)(b:Dj full=true)(J: ∀x∈full,x.k≠2): ∀ (p done:List Stp) (s:ByteArray),done++p=full->s.data.toList=(Dw (decide (done.length=0)) p).data.toList ->
  W Agr 1 [.str s,.list (done.map bL)]=some [.list (full.map bL),.int 0]
 | [],done,s,hd,h=>by
  rw[aN]at hd
  subst hd
  have M:s=⟨#[]⟩:=Bdo (by rw[h];rfl)
  subst M
  have g:=b
  unfold Dj at g
  simp only[aK,bN,decide_eq_true_eq]at g
  have w:=Tw done (λx d=>by
   have:=Df (g.1 x d)
   exact⟨by omega,by omega⟩) (by omega)
  rw[Ai2]
  simp only[fG,Zd,aH,aA,aO,aB,Zf,w,bD,b,cO]
 | x::p,done,s,hd,h=>by
  have g:=b
  unfold Dj at g
  simp only[aK,bN,decide_eq_true_eq]at g
  have d:Dr x=true:=g.1 x (by rw[<-hd];simp)
  have j:=J x (by rw[<-hd];simp)
  have hp: ∀y∈p,Dr y=true:=λy N=>g.1 y (by rw[<-hd];simp[N])
  have hlen:done.length+p.length+1=full.length:=by rw[<-hd];simp;omega
  have X:=R5 p hp false
  have Q:500 * p.length<=500 * 16:=dF (aV _) (by omega)
  simp only[Dw,bY]at h
  have m:=Vm p hp
  have z:=(Sa (decide (done.length=0)) x d).1
  have A:=pq_1 full b J p (done++ [x]) (bsL (Dw false p).data.toList) (by rw[<-hd];simp) (by
   have:decide ((done++ [x]).length =0)=false:=decide_eq_false (by simp)
   rw[this];rfl)
  have o:decide (s=(⟨#[]⟩:ByteArray))=false:=decide_eq_false λe=>by
   subst e
   have h':([]:List UInt8)=(G6 (decide (done.length=0)) x).data.toList ++(Dw false p).data.toList :=h
   exact z (List.append_eq_nil_iff.1 h'.symm).1
  obtain⟨R,S,T,U,K⟩:=Df d
  obtain⟨xk,xn,xi,xv⟩:=x
  simp only at R S T U K j
  unfold Dr at d
  unfold G6 at h
  simp only at d h
  rw[Ai2]
  simp only[fG,o,aX,aA,aO,Zt]
  rcases K with rfl | rfl | rfl
  ·simp only[Zt,aK,decide_eq_true_eq]at d
   obtain⟨⟨q,rfl⟩,rfl⟩:=d
   simp only[show ¬ (1:Int)=2 by omega,show ¬ (1:Int)=3 by omega,Zf]at h
   obtain⟨B,C⟩:=Gb q
   by_cases E:done.length=0
   ·simp only[E,Zd,Zt]at h
    obtain⟨c,a,r⟩:=List.exists_cons_of_ne_nil C
    have h':s.data.toList.drop 0=c::(a++(Dw false p).data.toList):=by rw[aF,h,r];rfl
    obtain⟨i,L,F⟩:=sx h'
    simp only[aD]at i
    have G:=B c (by rw[r];simp)
    have t: ¬ (c.toNat:Int)=91:=by
     intro e
     have:c.toNat=91:=by omega
     unfold Bq at G
     rw[this]at G
     simp at G
    have H:dS (.int (done.length:Nat)) (.int 0)=some (.bool false):=by rw[eW,E];rfl
    simp only[i,aA,bJ,t,Ze,aO,aB,Zf,Gg,H]
    rw[pq_3 s xn q _ h m done (by omega),A]
   ·simp only[E,Ze,aB,Zf]at h
    have h':s.data.toList.drop 0=46::(xn.data.toList++(Dw false p).data.toList):=by rw[aF,h];simp[bY,bsL]
    obtain⟨i,L,F⟩:=sx h'
    simp only[aD]at i
    have H:dS (.int (done.length:Nat)) (.int 0)=some (.bool true):=by rw[eW];congr 2;exact decide_eq_true (by omega)
    have u:=slo F (by omega)
    simp only[cP,aD]at u
    simp only[i,aA,bJ,show((46:UInt8).toNat :Int)=46 from rfl,show ¬ (46:Int)=91 by omega,Ze,aO,aB,Zf,Gg,H,Zt,dE,Zd,aH,u]
    rw[pq_3 (bsL (xn.data.toList++(Dw false p).data.toList)) xn q _ rfl m done (by omega),A]
  ·exact absurd rfl j
  ·simp only[show ¬ (3:Int)=1 by omega,show ¬ (3:Int)=2 by omega,Zf,Zt,aK,decide_eq_true_eq]at d
   obtain⟨⟨q,w⟩,rfl⟩:=d
   simp only[show ¬ (3:Int)=2 by omega,Zf,Zt]at h
   have h':s.data.toList=91::(xn.data.toList++61::(34::(xv.data.toList.flatMap H8++34::(93::(Dw false p).data.toList)))):=by
    rw[h];simp[bY,bsL,K5]
   have I:=Ba9 s xn xv q w _ (by rw[Co];omega) h'
   obtain⟨i,L,F⟩:=sx (show s.data.toList.drop 0=91::_ from h')
   simp only[aD]at i
   simp only[i,aA,bJ,show((91:UInt8).toNat :Int)=91 from rfl,Zd,aO,Zt,I,O.Kh,cO,aH,aB,Zf,cL,apm bL (n:=48) done ⟨3,xn,0,xv⟩ (by omega)]
   rw[Aiq,A]
theorem A0d (p:List Stp)(hp:Dj p=true)(c: ∀x∈p,x.k≠2):W Agr 0 [.str (C9 p)]=some [.list (p.map bL),.int 0]:=by
 have a:=hp
 unfold Dj at a
 simp only[aK,bN,decide_eq_true_eq]at a
 have d:=R5 p a.1 true
 have g:500 * p.length<=500 * 16:=dF (aV _) a.2
 have e:C9 p=Dw true p:=by unfold C9;rw[if_pos hp];rfl
 have b: ¬ (20000:Int)<((Dw true p).size :Int):=by omega
 have:=pq_1 p hp c p [] (Dw true p) rfl rfl
 simp only[aL]at this
 rw[Awb,e]
 simp only[fT,aA,eW,b,Ze,aO,aB,Zf,this]
end Go.CT.Sch
namespace Go.CT.Sch
open Go.Proofs
theorem Bcq (ks:List ByteArray)(s:ByteArray):O.Anx (.bool false) (.list (Sx ks)) (.str s)=some (.bool (inB ks s)):=by
 unfold O.Anx
 simp only[fH,Wq,aQ]
 cases inB ks s<;>simp
theorem Bcx (ks:List ByteArray)(s:ByteArray): ∃b,O.Air (.list (Sx ks)) (.str s)=some (.bool b):=by
 unfold O.Air
 simp only[fH,Wq,aQ]
 exact⟨_,rfl⟩
theorem Bdl (ks:List ByteArray)(s:ByteArray):O.Anu (.list (Sx ks)) (.str s) (.bool true)=some (.list (Sx (if inB ks s then ks else ks++ [s]))):=by
 unfold O.Anu
 simp only[fH,Asi,aQ]
def Ju (s:Sch)(x:Val):Kid:=(Avq s.key x,x,s.it.head?)
theorem Qc (s t:Sch)(v:Val)(e:s.it= [t])(o:v.Aw<=1048576): ∀ (n i:Nat) (b:List Kid) (acc:List ByteArray),i+n=v.l.length->b.length=i->
  W A65 1 [.list (v.l.map bI),.int v.l.length,.int i,s.enc,.list (b.map H4),.list (Sx acc)]=some [.list ((if Gn s.key acc (v.l.drop i) then b++(v.l.drop i).map (Ju s) else[]).map H4)]
 | 0,i,b,acc,h,m=>by
  have:i=v.l.length:=by omega
  subst this
  rw[Alp,aJ,Gn]
  simp only[ltn,aA,aO,aB,Zf,Zt,aL,aN]
 | n+1,i,b,acc,h,m=>by
  have d:i<v.l.length:=by omega
  have z:=v.B8
  have A:=dK (aE d)
  have q:=Aeq v.l[i] s.key (by omega)
  obtain⟨bb,r⟩:=Bcx acc (Ir v.l[i] s.key)
  have g:O.Air (.list (Sx acc)) (.str ((v.l[i].get s.key).getD Bc).s)=some (.bool bb):=r
  have a:=Bdl acc (Ir v.l[i] s.key)
  have c:=Bcq acc (Ir v.l[i] s.key)
  unfold Ir at a c
  rw[Alp,aC d,Gn]
  simp only[lti d,aA,aO,Zt,Jt bI d,dV,q,Iv,I8,cO,dE,Az,Am,c,g]
  unfold isKey Ir
  cases B:(v.l[i].get s.key).isSome with
  | false=>simp
  | true=>
   by_cases j:((v.l[i].get s.key).getD Bc).k =3
   ·cases u:inB acc ((v.l[i].get s.key).getD Bc).s with
    | true=>simp[j]
    | false=>
     have w:=Qc s t v e o n (i+1) (b++ [Ju s v.l[i]]) (acc++ [Ir v.l[i] s.key]) (by omega) (by simp[m])
     have x:=apm H4 (n:=248) b (Ju s v.l[i]) (by omega)
     have y:(IV.agg [.int 3,.str s.key,.int 0,.str ((v.l[i].get s.key).getD Bc).s,.int v.l[i].k,.int v.l[i].n,.str v.l[i].s,.list (v.l[i].l.map bI),.list (v.l[i].f.map bC),
      .int t.k,.int t.mn,.int t.mx,.list (t.en.map .str),.str t.key,.list (t.it.map dX),.list (t.f.map cN),.bool true])=H4 (Ju s v.l[i]):=by
      unfold Ju H4;rw[e];rfl
     simp only[j,Zd,aH,aB,Zf,a,u,aA,cZ,e,aM,aL,eK,dH,Zt,cU,bQ,dN,Sch.C7,Sch.Ee,Sch.B5,dV,dO,
      cR,eP,eQ,bZ,cK,cT,cL,nxt (show i<4611686018427387904 by omega),aX,bM,Bool.and_true]
     rw[y,x]
     simp only[aA]
     refine w.trans ?_
     unfold Ir
     simp only[aY,bF]
   ·simp[j]
theorem Ahn (s t:Sch)(v:Val)(a:s.it= [t])(b:v.Aw<=1048576):W A65 0 [s.enc,v.enc]=some [.list ((if Gn s.key [] v.l then v.l.map (Ju s) else[]).map H4)]:=by
 have:=Qc s t v a b v.l.length 0 [] [] (by omega) rfl
 rw[aF]at this
 rw[Ayy]
 simp only[bZ,aA,Gg]
 exact this
theorem Af5 (x:Kid)(a: ∀s,x.2.2=some s->SB s/\s.Aw<=1048576)(g:x.2.1.Aw<=1048576):W Bd0 0 [H4 x]=some [.list ((kids x.2.2 x.2.1).map H4)]:=by
 obtain⟨st,v,o⟩:=x
 rw[A0a]
 simp only[Bcv,kid9,kid4,Bco,A6y,A5q,aA,cO,dE,aO,Az,Am]
 cases o with
 | none=>simp[kids]
 | some s=>
  obtain⟨a,q⟩:=a s rfl
  simp only[bU,aH,aB,Zf,bG]
  rw[kids]
  by_cases h:s.k=v.k
  ·simp only[h,Zd,aH,aB,Zf,Zt,bJ,aA]
   by_cases i:v.k=5
   ·simp only[i,Zd,Zt,Aog s v (by omega) g,bD];rfl
   ·simp only[i,Ze,aB,Zf,aO,Az,fG,aA,Am]
    by_cases c:v.k=4
    ·have j:=a.list (by omega)
     obtain⟨t,m⟩: ∃t,s.it= [t]:=bK.1 j
     by_cases b:s.key=Ar
     ·have:s.key=(⟨#[]⟩:ByteArray):=b
      have e:decide (Ar=(⟨#[]⟩:ByteArray))=true:=rfl
      simp only[c,Zd,Zt,e,aH,aB,Zf,b,ne_eq,not_true_eq_false,false_and,and_false,aL]
     ·have d: ¬ s.key=(⟨#[]⟩:ByteArray):=b
      simp only[c,Zd,Zt,d,Ze,aX,Ahn s t v m g,bD,true_and,b,ne_eq,not_false_eq_true]
      rfl
    ·simp[c]
  ·simp[h]
theorem A0j (p:List Stp)(s:Stp)(b:p.length<=1073741824):W Bcj 0 [.list (p.map bL),s.enc]=some [.list ((p++ [s]).map bL)]:=by
 have a:O.Io [.list (p.map bL)]=some [.list (p.map bL)]:=Ez (by rw[aG];omega)
 rw[Ayt]
 simp only[A9l,a,bD,cL,aA,apm bL (n:=48) p s (by omega)]
def OSB (o:Option Sch):Prop:= ∀s,o=some s->SB s/\s.Aw<=1048576
theorem Aq3 {o:Option Sch}{v:Val}(h:OSB o){x:Kid}(a:x∈kids o v):OSB x.2.2:=by
 cases o with
 | none=>simp[kids]at a
 | some s=>
  obtain⟨c,e⟩:=h s rfl
  rw[kids]at a
  split at a
  ·split at a
   ·obtain⟨p,hp,rfl⟩:=bO.1 a
    intro t b
    have:=Jg b
    exact⟨c.sub b,by omega⟩
   ·split at a
    ·obtain⟨p,hp,rfl⟩:=bO.1 a
     intro t b
     have d:=List.mem_of_head? b
     have:=eE d
     exact⟨c.Jz d,by omega⟩
    ·simp at a
  ·simp at a
theorem Ad1 {o:Option Sch}{v:Val}(h:OSB o)(b:v.Aw<=1048576){x:Kid}(a:x∈kids o v):x.1.fits:=by
 cases o with
 | none=>simp[kids]at a
 | some s=>
  obtain⟨c,d⟩:=h s rfl
  rw[kids]at a
  split at a
  ·split at a
   ·obtain⟨p,hp,rfl⟩:=bO.1 a
    have:=fC hp
    exact H3 _ (by omega)
   ·split at a
    ·obtain⟨p,hp,rfl⟩:=bO.1 a
     have:=dK hp
     have e:=Amg p s.key
     have:=s.Aat
     exact⟨by show s.key.size<=_;omega,by show(Ir p s.key).size <=_;unfold Ir;omega⟩
    ·simp at a
  ·simp at a
end Go.CT.Sch
namespace Go.CT.Sch
open Go.Proofs
theorem Ajv (o:Option Sch)(v:Val)(g:Kid->List ByteArray)(b: ∀x∈kids o v,(g x).length <=x.2.1.size):((kids o v).flatMap g).length <v.size:=by
 have i: ∀ (l:List (ByteArray × Val)) (s:Sch),(∀x∈l.map (H2 s),(g x).length <=x.2.1.size)->((l.map (H2 s)).flatMap g).length <=Br l:=by
  intro l s
  induction l with
  | nil=>simp
  | cons a l c=>
   intro h
   have j:=h (H2 s a) (by simp)
   have m:=c λx d=>h x (by simp only[aM,bE];exact .inr d)
   have q:(H2 s a).2.1.size =a.2.size:=rfl
   have r:Br (a::l)=a.2.size+Br l:=rfl
   simp only[aM,aS,aP];omega
 have t: ∀ (l:List Val) (s:Sch),(∀x∈l.map (Ju s),(g x).length <=x.2.1.size)->((l.map (Ju s)).flatMap g).length <=Cd l:=by
  intro l s
  induction l with
  | nil=>simp
  | cons a l c=>
   intro h
   have j:=h (Ju s a) (by simp)
   have m:=c λx d=>h x (by simp only[aM,bE];exact .inr d)
   have q:(Ju s a).2.1.size =a.size:=rfl
   have r:Cd (a::l)=a.size+Cd l:=rfl
   simp only[aM,aS,aP];omega
 have y:=v.size_eq
 cases o with
 | none=>simp only[kids,bR,bA];omega
 | some s=>
  revert b
  rw[kids]
  intro b
  split
  ·rename_i u;rw[if_pos u]at b
   split
   ·rename_i e;rw[if_pos e]at b
    have:((v.f.map (H2 s)).flatMap g).length <=Br v.f:=i v.f s b
    show((v.f.map (H2 s)).flatMap g).length <_
    omega
   ·rename_i e;rw[if_neg e]at b
    split
    ·rename_i w;rw[if_pos w]at b
     have:((v.l.map (Ju s)).flatMap g).length <=Cd v.l:=t v.l s b
     show((v.l.map (Ju s)).flatMap g).length <_
     omega
    ·simp only[bR,bA];omega
  ·simp only[bR,bA];omega
theorem Aee: ∀ (n:Nat) (o:Option Sch) (v:Val) (p:List Stp),(lv n o v p).length <=v.size
 | 0,_,_,_=>by simp[lv]
 | n+1,o,v,p=>by
  have:=v.size_pos
  rw[lv]
  split
  ·simp;omega
  ·exact Nat.le_of_lt (Ajv o v _ λx _=>Aee n _ _ _)
theorem Asy: ∀ (n:Nat) (x:Kid) (p:List Stp) (out:List ByteArray),x.2.1.size<=n->OSB x.2.2->x.2.1.Aw<=1048576->(∀s∈p,s.fits)->p.length+n<=1073741824->out.length+(lv n x.2.2 x.2.1 p).length <=1073741824->
  W Apg 0 [H4 x,.list (p.map bL),SL out]=some [SL (out++lv n x.2.2 x.2.1 p)]
 | 0,x,p,out,h,_,_,_,_,_=>by have:=x.2.1.size_pos;omega
 | n+1,x,p,out,h,d,r,hp,B,g=>by
  rw[lv]at g ⊢
  have loop: ∀ (m i:Nat) (out:List ByteArray),i+m=(kids x.2.2 x.2.1).length ->out.length+(((kids x.2.2 x.2.1).drop i).flatMap λy=>lv n y.2.2 y.2.1 (p++ [y.1])).length <=1073741824->
    W Apg 2 [.list (p.map bL),.int (kids x.2.2 x.2.1).length,.int i,.list ((kids x.2.2 x.2.1).map H4),SL out]=some [SL (out++((kids x.2.2 x.2.1).drop i).flatMap λy=>lv n y.2.2 y.2.1 (p++ [y.1]))]:=by
   intro m
   induction m with
   | zero=>
    intro i out t g
    have:i=(kids x.2.2 x.2.1).length :=by omega
    subst this
    rw[Ajm,aJ]
    simp only[ltn,aA,aO,aB,Zf,bR,aN]
   | succ m j=>
    intro i out t g
    have b:i<(kids x.2.2 x.2.1).length :=by omega
    have o:=aE b
    obtain⟨u,w⟩:=Vk o
    rw[aC b,aS,aP]at g
    have hlen:(kids x.2.2 x.2.1).length <4611686018427387904:=by
     have:=Ajv x.2.2 x.2.1 (λ_=> [Ar]) (λy C=>by have:=y.2.1.size_pos;simp;omega)
     have E:((kids x.2.2 x.2.1).flatMap λ_=> [Ar]).length =(kids x.2.2 x.2.1).length :=by
      generalize kids x.2.2 x.2.1=l
      induction l with
      | nil=>rfl
      | cons a l j=>simp[aS,j]
     have:=x.2.1.Ej
     omega
    have z:=Asy n (kids x.2.2 x.2.1)[i] (p++ [(kids x.2.2 x.2.1)[i].1]) out (by omega) (Aq3 d o) (by omega) (Hw hp (Ad1 d r o)) (by simp;omega) (by omega)
    rw[Ajm]
    simp only[lti b,aA,aO,Zt,Jt H4 b,Awr,A0j p _ (show p.length<=1073741824 by omega),bD,z,nxt (show i<4611686018427387904 by omega)]
    rw[j (i+1) _ (by omega) (by simp only[aP];omega),aC b,aS,aY]
  rw[Av2]
  simp only[Af5 x d r,bD,Gg,aA,bJ,aO]
  by_cases c:kids x.2.2 x.2.1= []
  ·simp only[c,Zt,bA,aD,Zd,Al3 p hp (by omega),eR,Ax7,cL,aA]
   rw[if_pos c,bB]at g
   have A:=apm IV.str (n:=16) out (C9 p) (by omega)
   have q:cA 16 (SL out) (.list [.str (C9 p)])=some (SL (out++ [C9 p])):=A
   simp only[q,aA,bD]
   have:=loop 0 0 (out++ [C9 p]) (by rw[c];rfl) (by rw[c];simp;omega)
   rw[c]at this
   simp only[bA,aD,List.drop_nil,bR,aN]at this
   rw[Aka]
   simp only[Gg,bA,aD,aA]
   exact this
  ·have c': ¬ ((kids x.2.2 x.2.1).length :Int)=0:=by
    have:(kids x.2.2 x.2.1).length ≠0:=λe=>c (bX.1 e)
    omega
   rw[if_neg c]at g ⊢
   simp only[c',Ze,aB,Zf]
   rw[Aka]
   simp only[Gg,aA]
   have:=loop (kids x.2.2 x.2.1).length 0 out (by omega) (by rw[aF];exact g)
   rw[aF]at this
   exact this
theorem Azx (s:Sch)(v:Val)(a:s.Aw<=1048576)(b:v.Aw<=1048576):W F99 0 [s.enc,v.enc]=some [.bool (s.valid&&v.valid)]:=by
 rw[A55]
 simp only[Q7 s a,Hn v (by omega),bD,aO,Az,Am,aA]
 cases s.valid<;>cases v.valid<;>rfl
def G9 (s:Sch)(v:Val):List ByteArray:=if s.valid&&v.valid then Wh (lv v.size (some s) v []) else[]
theorem Apz (s:Sch)(v:Val)(d:s.Aw<=1048576)(e:v.Aw<=1048576):W F98 0 [s.enc,v.enc]=some [SL (G9 s v)]:=by
 rw[A5t]
 simp only[Azx s v d e,bD,cO,aA,aO]
 unfold G9
 cases c:s.valid&&v.valid with
 | false=>simp only[aX,Zt,aB,Zf];rfl
 | true=>
  have h:s.valid=true/\v.valid=true:=by simpa using c
  have a:=fN h.1
  have i:=v.Ej
  have o:=Aee v.size (some s) v []
  have j:IV.agg [.int 0,.str ⟨#[]⟩,.int 0,.str ⟨#[]⟩,.int v.k,.int v.n,.str v.s,.list (v.l.map bI),.list (v.f.map bC),.int s.k,.int s.mn,.int s.mx,.list (s.en.map .str),.str s.key,.list (s.it.map dX),.list (s.f.map cN),.bool true]=H4 (⟨0,Ar,0,Ar⟩,v,some s):=rfl
  have g:=Asy v.size (⟨0,Ar,0,Ar⟩,v,some s) [] [] (aV _) (λt m=>by cases m;exact⟨a,d⟩) e (by simp) (by simp;omega) (by simp only[bA];omega)
  simp only[aU]at g
  simp only[aH,aB,Zf,Zt,cR,eP,eQ,bZ,cK,dN,Sch.C7,Sch.Ee,Sch.B5,dV,cZ,dO,aA,cT,j]
  have b:W Apg 0 [H4 (⟨0,Ar,0,Ar⟩,v,some s),.list [],.list []]=some [SL (lv v.size (some s) v [])]:=g
  rw[b]
  simp only[bD,Bc7 (l:=lv v.size (some s) v []) (by omega)]
end Go.CT.Sch
namespace Go.CT.Sch
open Go.Proofs
theorem Ang {s:Sch}{v:Val}{i:Nat}(a:Ep v s.key=true):Gt s.key v i=Avq s.key v:=by
 unfold Gt Avq;rw[if_pos a]
theorem Jv {key:ByteArray} : ∀ {l:List Val} {acc:List ByteArray},Gn key acc l=true-> ∀x∈l,isKey x key=true
 | [],_,_=>by simp
 | y::l,acc,h=>by
  simp only[Gn,aK]at h
  intro x a
  rcases bE.1 a with rfl | a
  ·exact h.1.1
  ·exact Jv h.2 x a
theorem Za (s:Sch)(v:Val)(e:v.Aw<=1048576)(i:Nat)(g:i<v.l.length)(a:ByteArray): ∀ (n k:Nat),k+n=i->
  W Api 2 [.int i,.str a,.int k,s.enc,v.enc]=if inB (((v.l.take i).drop k).map λx=>Ir x s.key) a then some [.bool false]else W Api 1 [.int (i+1:Nat),s.enc,v.enc]
 | 0,k,h=>by
  have:k=i:=by omega
  subst this
  have j:=v.B8
  rw[Akw,aR (by rw[eS];omega)]
  simp only[ltn,aA,aO,aB,Zf,nxt (show k<4611686018427387904 by omega),aL,inB,List.any_nil]
 | n+1,k,h=>by
  have m:k<i:=by omega
  have b:k<v.l.length:=by omega
  have j:=v.B8
  have q:=dK (aE b)
  have d:k<(v.l.take i).length :=by rw[eS];omega
  have o:=Za s v e i g a n (k+1) (by omega)
  rw[Akw,aC d,aM,Ns]
  simp only[lti m,aA,aO,Zt,bZ,Jt bI b,dV,Kl v.l[k] s.key (by omega),eR,eY,nxt (show k<4611686018427387904 by omega),o,List.getElem_take]
  by_cases c:a=Ir v.l[k] s.key
  ·simp[c]
  ·simp[c]
theorem X4 (s:Sch)(v:Val)(d:v.Aw<=1048576)(b:s.key≠Ar): ∀ (n i:Nat),i+n=v.l.length->
  W Api 1 [.int i,s.enc,v.enc]=some [.bool (Gn s.key ((v.l.take i).map λx=>Ir x s.key) (v.l.drop i))]
 | 0,i,h=>by
  have:i=v.l.length:=by omega
  subst this
  rw[Ak8,aJ,Gn]
  simp only[bZ,Gg,ltn,aA,aO,aB,Zf]
 | n+1,i,h=>by
  have a:i<v.l.length:=by omega
  have m:=dK (aE a)
  have e:=X4 s v d b n (i+1) (by omega)
  have c:=Za s v d i a (Ir v.l[i] s.key) i 0 (by omega)
  rw[aF]at c
  have g:Ep v.l[i] s.key=isKey v.l[i] s.key:=by unfold Ep;simp[b]
  have j:v.l.take (i+1)=v.l.take i++ [v.l[i]]:=(Abr v.l a).symm
  rw[j,cI]at e
  rw[Ak8,aC a,Gn]
  simp only[bZ,Gg,lti a,aA,aO,Zt,Jt bI a,dV,Kl v.l[i] s.key (by omega),eR,cO,g]
  simp only[aD]at c
  cases o:isKey v.l[i] s.key with
  | false=>simp
  | true=>
   simp only[aH,aB,Zf,c,e,aM,aL,bM]
   cases inB ((v.l.take i).map λx=>Ir x s.key) (Ir v.l[i] s.key)<;>simp
theorem Av9 (s:Sch)(v:Val)(h:v.Aw<=1048576):W Api 0 [s.enc,v.enc]=some [.bool (decide (s.k=4/\v.k=4/\s.key≠Ar/\v.l≠ [])&&Gn s.key [] v.l)]:=by
 rw[A1n]
 simp only[dN,aA,dE,aO,dV,eY,cR,bZ,Gg,bJ,Az,Am]
 by_cases a:s.k=4
 ·by_cases b:s.key=Ar
  ·have e:decide (Ar=(⟨#[]⟩:ByteArray))=true:=rfl
   simp[a,b,e]
  ·have e:decide (s.key=(⟨#[]⟩:ByteArray))=false:=decide_eq_false b
   by_cases g:v.k=4
   ·by_cases c:v.l= []
    ·simp[a,c]
    ·have d: ¬ (v.l.length:Int)=0:=by
      have:v.l.length≠0:=λe=>c (bX.1 e)
      omega
     have:=X4 s v h b v.l.length 0 (by omega)
     simp only[List.take_zero,aL,aF,aD]at this
     simp only[a,e,g,d,Zd,Ze,aH,aB,Zf,this,b,c,ne_eq,not_false_eq_true,and_self,bM]
   ·simp[a,g]
 ·simp[a]
def oE (o:Option Sch):IV:=(o.getD Bw).enc
theorem Afj (o:Option Sch)(v:Val)(h:v.Aw<=1048576):W Bcz 0 [oE o,.bool o.isSome,v.enc]=some [.bool !(kids o v).isEmpty]:=by
 rw[A0c]
 cases o with
 | none=>simp[kids]
 | some s=>
  simp only[oE,bU,aO,Zt,bG,Av9 s v h,bD,aA,dN,bJ,cR,cK,Gg,eW,Az,Am]
  congr 3
  rw[kids]
  by_cases d:s.k=v.k
  ·rw[if_pos d,d]
   by_cases b:v.k=5
   ·rw[if_pos b,List.isEmpty_map]
    cases v.f<;>simp[b]
   ·rw[if_neg b]
    by_cases c:v.k=4
    ·by_cases g:s.key=Ar
     ·simp[g,c]
     ·cases i:v.l with
      | nil=>simp[c]
      | cons a l=>
       cases j:Gn s.key [] (a::l)<;>simp[c,g]
    ·simp[c,b]
  ·rw[if_neg d]
   by_cases b:s.k=5
   ·have: ¬ v.k=5:=λe=>d (b.trans e.symm)
    simp[b,this]
   ·by_cases c:s.k=4
    ·have: ¬ v.k=4:=λe=>d (c.trans e.symm)
     simp[c,this]
    ·simp[b,c]
theorem Yj (s:Sch)(nm:ByteArray)(j:s.Aw<=1048576)(b d e g:IV): ∀ (n i:Nat),i+n=s.f.length->
  W A8a 1 [.str nm,.int i,s.enc,b,d,e,g]=some [oE (((s.f.drop i).find? λp=>decide (p.nm=nm)).map (·.s)),.bool ((s.f.drop i).find? λp=>decide (p.nm=nm)).isSome]
 | 0,i,h=>by
  have:i=s.f.length:=by omega
  subst this
  rw[Akz,aJ]
  simp only[dO,Gg,ltn,aA,aO,aB,Zf,cT];rfl
 | n+1,i,h=>by
  have a:i<s.f.length:=by omega
  have o:=s.A7
  have m:=Yj s nm j b d e g n (i+1) (by omega)
  rw[Akz,aC a,bP]
  simp only[dO,Gg,lti a,aA,aO,Zt,Jt cN a,fB,eY,eL,nxt (show i<4611686018427387904 by omega),m]
  by_cases c:s.f[i].nm =nm
  ·simp[c,oE]
  ·have c':decide (s.f[i].nm =nm)=false:=by simpa using c
   simp only[c',aB,Zf]
theorem Axm (s:Sch)(nm:ByteArray)(d:s.Aw<=1048576)(a:SB s):W A8a 0 [s.enc,.str nm]=some [oE (Gh s nm),.bool (Gh s nm).isSome]:=by
 have b:=a.one
 have:=Yj s nm d (.int 0) (.int 0) (.int 0) (.str ⟨#[]⟩) s.f.length 0 (by omega)
 rw[aF]at this
 rw[Azz]
 simp only[cZ,aA,Gg,bJ,aO]
 unfold Gh
 cases c:s.it with
 | nil=>
  have e:decide (((([]:List Sch).length :Nat):Int)=1)=false:=by decide
  simp only[e,aB,Zf,eM]
  exact this
 | cons t ts=>
  have g:ts= []:=by rw[c]at b;simp at b;exact b
  subst g
  simp[oE]
end Go.CT.Sch
namespace Go.CT.Sch
open Go.Proofs
theorem apS (l m:List ByteArray)(h:l.length+m.length<=137438953471):cA 16 (SL l) (SL m)=some (SL (l++m)):=by
 unfold SL Srt.LE
 rw[O.Bf,if_pos]
 ·simp
 ·have:(l.length+m.length) * 16<=137438953472 * 1024:=dF (by omega) (by decide)
  simp only[aG]
  unfold A4;omega
theorem Ac7: ∀ (n:Nat) (o:Option Sch) (v:Val) (p:List Stp),v.size<=n->OSB o->v.Aw<=1048576->v.valid=true->(∀s∈p,s.fits)->p.length+n<=1073741824->
  W Aa7 0 [oE o,.bool o.isSome,v.enc,.list (p.map bL)]=some [SL (lv n o v p)]
 | 0,o,v,p,h,_,_,_,_,_=>by have:=v.size_pos;omega
 | n+1,o,v,p,h,y,N,q,hp,X=>by
  have u:=Aee (n+1) o v p
  have Q:=v.Ej
  have recu: ∀x∈kids o v,x.2.1.valid=true->W Aa7 0 [oE x.2.2,.bool x.2.2.isSome,x.2.1.enc,.list ((p++ [x.1]).map bL)]=some [SL (lv n x.2.2 x.2.1 (p++ [x.1]))]:=by
   intro x z H
   obtain⟨Y,Z⟩:=Vk z
   exact Ac7 n x.2.2 x.2.1 (p++ [x.1]) (by omega) (Aq3 y z) (by omega) H (Hw hp (Ad1 y N z)) (by simp;omega)
  rw[lv]at u ⊢
  rw[Azl]
  simp only[Afj o v N,bD,cO,Bool.not_not,aA,aO]
  by_cases c:kids o v= []
  ·simp only[c,List.isEmpty_nil,Zt,Adq p hp (by omega),eR,cL,aA];rfl
  ·have c':(kids o v).isEmpty =false:=by simpa using c
   rw[if_neg c]at u
   simp only[c',aB,Zf,c]
   cases o with
   | none=>simp[kids]at c
   | some s=>
    obtain⟨w,R⟩:=y s rfl
    have loop2:v.k=5->kids (some s) v=v.f.map (H2 s)-> ∀ (m i:Nat) (out:List ByteArray),i+m=v.f.length->out.length+(((kids (some s) v).drop i).flatMap λx=>lv n x.2.2 x.2.1 (p++ [x.1])).length <=1048576->
      W Aa7 2 [.list (p.map bL),.int i,s.enc,v.enc,SL out]=some [SL (out++((kids (some s) v).drop i).flatMap λx=>lv n x.2.2 x.2.1 (p++ [x.1]))]:=by
     intro S a m
     induction m with
     | zero=>
      intro i out I _
      have:i=v.f.length:=by omega
      subst this
      have hd:(kids (some s) v).drop v.f.length= []:=aR (by rw[a,aG];exact aV _)
      rw[Aad,hd]
      simp only[cK,Gg,ltn,aA,aO,aB,Zf,bR,aN]
     | succ m J=>
      intro i out I A
      have b:i<v.f.length:=by omega
      have d:i<(kids (some s) v).length :=by rw[a,aG];exact b
      have hlen:=v.A7
      have e:(kids (some s) v)[i]=H2 s v.f[i]:=by simp only[a,eT]
      have B:=recu _ (aE d) (by rw[e];exact(Mt q (aE b)).1)
      rw[aC d,aS,aP]at A
      rw[e]at B A
      have r:W Aa7 0 [oE (Gh s v.f[i].1),.bool (Gh s v.f[i].1).isSome,v.f[i].2.enc,.list ((p++ [C3 v.f[i].1]).map bL)]=some [SL (lv n (H2 s v.f[i]).2.2 (H2 s v.f[i]).2.1 (p++ [(H2 s v.f[i]).1]))]:=B
      have T:IV.agg [.int 1,.str v.f[i].1,.int 0,.str ⟨#[]⟩]=(C3 v.f[i].1).enc :=rfl
      rw[Aad]
      simp only[cK,Gg,lti b,aA,aO,Zt,Jt bC b,eU,Axm s v.f[i].1 R w,eR,eF,cT,T,Ra p (C3 v.f[i].1) (show p.length<=1099511627776 by omega),bD,r]
      rw[apS _ _ (by omega)]
      simp only[aA,nxt (show i<4611686018427387904 by omega)]
      rw[J (i+1) _ (by omega) (by simp only[aP];omega),aC d,aS,aY,e]
    have loop1: ∀t,s.it= [t]->kids (some s) v=v.l.map (Ju s)->v.f= []->(∀x∈v.l,Ep x s.key=true)-> ∀ (m i:Nat) (out:List ByteArray),i+m=v.l.length->out.length+(((kids (some s) v).drop i).flatMap λx=>lv n x.2.2 x.2.1 (p++ [x.1])).length <=1048576->
      W Aa7 1 [.list (p.map bL),.int i,s.enc,v.enc,SL out]=some [SL (out++((kids (some s) v).drop i).flatMap λx=>lv n x.2.2 x.2.1 (p++ [x.1]))]:=by
     intro t E a U j m
     induction m with
     | zero=>
      intro i out I _
      have:i=v.l.length:=by omega
      subst this
      have hd:(kids (some s) v).drop v.l.length= []:=aR (by rw[a,aG];exact aV _)
      have K:eA (.int 0) (.int 0)=some (.bool false):=rfl
      rw[Abm,hd]
      simp only[bZ,Gg,ltn,aA,aO,aB,Zf,bR,aN]
      rw[Aad]
      simp only[cK,U,aL,eB,bA,aD,K,aA,aO,aB,Zf]
     | succ m J=>
      intro i out I A
      have b:i<v.l.length:=by omega
      have d:i<(kids (some s) v).length :=by rw[a,aG];exact b
      have hlen:=v.B8
      have hm:=dK (aE b)
      have e:(kids (some s) v)[i]=Ju s v.l[i]:=by simp only[a,eT]
      have B:=recu _ (aE d) (by rw[e];exact Z8 q (aE b))
      rw[aC d,aS,aP]at A
      rw[e]at B A
      have L:=Ang (i:=i) (j _ (aE b))
      have r:W Aa7 0 [oE s.it.head?,.bool s.it.head?.isSome,v.l[i].enc,.list ((p++ [Avq s.key v.l[i]]).map bL)]=some [SL (lv n (Ju s v.l[i]).2.2 (Ju s v.l[i]).2.1 (p++ [(Ju s v.l[i]).1]))]:=B
      rw[E]at r
      have hr'':W Aa7 0 [t.enc,.bool true,v.l[i].enc,.list ((p++ [Avq s.key v.l[i]]).map bL)]=some [SL (lv n (Ju s v.l[i]).2.2 (Ju s v.l[i]).2.1 (p++ [(Ju s v.l[i]).1]))]:=r
      rw[Abm]
      simp only[bZ,Gg,lti b,aA,aO,Zt,cZ,E,aM,aL,eK,dH,cU,bQ,aW,aT,aZ,aI b,aQ,
       T1 s v.l i b (by omega),bD,L,Ra p (Avq s.key v.l[i]) (show p.length<=1099511627776 by omega),hr'']
      rw[apS _ _ (by omega)]
      simp only[aA,nxt (show i<4611686018427387904 by omega)]
      rw[J (i+1) _ (by omega) (by simp only[aP];omega),aC d,aS,aY,e]
    show W Aa7 1 [.list (p.map bL),.int 0,s.enc,v.enc,SL []]=_
    have g:=c
    rw[kids]at g
    by_cases F:s.k=v.k
    ·rw[if_pos F]at g
     by_cases C:v.k=5
     ·have a:kids (some s) v=v.f.map (H2 s):=by rw[kids,if_pos F,if_pos C];rfl
      have M:=Uq q (by omega)
      have K:eA (.int 0) (.int 0)=some (.bool false):=rfl
      have:=loop2 C a v.f.length 0 [] (by omega) (by rw[aF];simp only[bA];omega)
      rw[aF,aU]at this
      rw[Abm]
      simp only[bZ,M,aL,eB,bA,aD,K,aA,aO,aB,Zf]
      exact this
     ·rw[if_neg C]at g
      by_cases G:v.k=4/\s.key≠Ar/\Gn s.key [] v.l=true
      ·have a:kids (some s) v=v.l.map (Ju s):=by rw[kids,if_pos F,if_neg C,if_pos G];rfl
       obtain⟨t,E⟩: ∃t,s.it= [t]:=bK.1 (w.list (by omega))
       have j: ∀x∈v.l,Ep x s.key=true:=λx z=>by
        have:=Jv G.2.2 x z
        unfold Ep;simp[this,G.2.1]
       have:=loop1 t E a (Qe q C) j v.l.length 0 [] (by omega) (by rw[aF];simp only[bA];omega)
       rw[aF,aU]at this
       exact this
      ·rw[if_neg G]at g;exact absurd rfl g
    ·rw[if_neg F]at g;exact absurd rfl g
theorem A40 (s:Sch)(v:Val)(a:s.Aw<=1048576)(b:v.Aw<=1048576):W Bdf 0 [s.enc,v.enc]=some [.bool (s.valid&&v.valid)]:=by
 rw[Axd]
 simp only[R7 s a,Qj v (by omega),bD,aO,Az,Am,aA]
 cases s.valid<;>cases v.valid<;>rfl
theorem Aut (s:Sch)(v:Val)(d:s.Aw<=1048576)(e:v.Aw<=1048576):W Bcf 0 [s.enc,v.enc]=some [SL (G9 s v)]:=by
 rw[Awg]
 simp only[A40 s v d e,bD,cO,aA,aO]
 unfold G9
 cases c:s.valid&&v.valid with
 | false=>simp only[aX,Zt,aB,Zf];rfl
 | true=>
  have g:s.valid=true/\v.valid=true:=by simpa using c
  have h:=v.Ej
  have o:=Aee v.size (some s) v []
  have i:=Ac7 v.size (some s) v [] (aV _) (λt j=>by cases j;exact⟨fN g.1,d⟩) e g.2 (by simp) (by simp;omega)
  have b:W Aa7 0 [s.enc,.bool true,v.enc,.list []]=some [SL (lv v.size (some s) v [])]:=i
  have m:=A3u (lv v.size (some s) v []) [] (by simp only[bA];omega)
  have a:W Aom 0 [SL (lv v.size (some s) v []),.list []]=some [SL (Wh (lv v.size (some s) v []++ []))]:=m
  rw[aN]at a
  simp only[aH,aB,Zf,Zt,b,bD,a]
end Go.CT.Sch
namespace Go.CT.Sch
open Go.Proofs
theorem Anf {y:Val}(h:y.valid=true)(a:y.k=3):y=A5v y.s:=by
 have b:=Uq h (by omega)
 have c:=Qe h (by omega)
 have d:y.n=0:=by
  rw[Hv]at h
  have:=((Dn 11 y).1 h.1).1
  unfold Gk at this
  rw[if_neg (by omega),if_neg (by omega),if_pos a]at this
  simp only[aK]at this
  simpa using this.1
 obtain⟨k,n,s,l,f⟩:=y
 simp only[Val.Bc5,dP,dY,Val.n_mk,fO]at a b c d ⊢
 subst a b c d;rfl
theorem A8r {x:Val}{key:ByteArray}(c:x.valid=true)(a:isKey x key=true):(x.get key).getD Bc=A5v (Ir x key):=by
 unfold isKey at a
 simp only[aK,decide_eq_true_eq]at a
 obtain⟨y,b⟩:=dL.1 a.1
 unfold Ir
 rw[b]at a ⊢
 exact Anf (As4 c b) a.2
theorem Aor {o:Option Sch}{v:Val}(h:v.valid=true){x:Kid}(a:x∈kids o v):x.2.1.valid=true:=by
 cases o with
 | none=>simp[kids]at a
 | some s=>
  rw[kids]at a
  split at a
  ·split at a
   ·obtain⟨p,hp,rfl⟩:=bO.1 a;exact(Mt h hp).1
   ·split at a
    ·obtain⟨p,hp,rfl⟩:=bO.1 a;exact Z8 h hp
    ·simp at a
  ·simp at a
theorem Aow {o:Option Sch}{v:Val}(h:kids o v≠ []): ∃s,o=some s/\s.k=v.k/\
  ((v.k=5/\kids o v=v.f.map (H2 s))\/(v.k=4/\s.key≠Ar/\Gn s.key [] v.l=true/\kids o v=v.l.map (Ju s))):=by
 cases o with
 | none=>simp[kids]at h
 | some s=>
  refine⟨s,rfl,?_⟩
  rw[kids]at h ⊢
  by_cases b:s.k=v.k
  ·rw[if_pos b]at h ⊢
   by_cases c:v.k=5
   ·exact⟨b,.inl ⟨c,by rw[if_pos c];rfl⟩⟩
   ·rw[if_neg c]at h ⊢
    by_cases a:v.k=4/\s.key≠Ar/\Gn s.key [] v.l=true
    ·exact⟨b,.inr ⟨a.1,a.2.1,a.2.2,by rw[if_pos a];rfl⟩⟩
    ·rw[if_neg a]at h;exact absurd rfl h
  ·rw[if_neg b]at h;exact absurd rfl h
theorem Asa {x:Val}{key:ByteArray}(d:x.valid=true)(h:isKey x key=true):x.k=5/\(key,A5v (Ir x key))∈x.f/\x.get key=some (A5v (Ir x key)):=by
 have c:=A8r d h
 unfold isKey at h
 simp only[aK]at h
 obtain⟨y,a⟩:=dL.1 h.1
 rw[a]at c
 have b:y=A5v (Ir x key):=c
 rw[b]at a
 exact⟨(Kz a).2,(Kz a).1,a⟩
theorem Sr {key:ByteArray} : ∀ {l:List Val} {acc:List ByteArray},Gn key acc l=true-> ∀x∈l,Ir x key∉acc
 | [],_,_=>by simp
 | y::l,acc,h=>by
  simp only[Gn,aK,cV]at h
  intro x a
  rcases bE.1 a with rfl | a
  ·intro b;have:=Aap.2 b;rw[this]at h;exact absurd h.1.2 (by simp)
  ·exact λb=>Sr h.2 x a (List.mem_append_left _ b)
theorem Af6 {key:ByteArray}{y:Val}{l:List Val}{acc:List ByteArray}(h:Gn key acc (y::l)=true):Gn key (acc++ [Ir y key]) l=true/\ ∀x∈l,Ir x key≠Ir y key:=by
 have h':=h
 simp only[Gn,aK]at h'
 exact⟨h'.2,λx a e=>Sr h'.2 x a (by rw[e];simp)⟩
theorem Az7 {x:Val}{key:ByteArray}(h:isKey x key=true)(k:ByteArray):hasB key k x=decide (Ir x key=k):=by
 unfold isKey at h
 simp only[aK,decide_eq_true_eq]at h
 unfold hasB Ir
 rw[h.2];simp
theorem As0 {key:ByteArray} : ∀ {l:List Val} {acc:List ByteArray},Gn key acc l=true-> ∀x∈l,l.find? (hasB key (Ir x key))=some x
 | [],_,_=>by simp
 | y::l,acc,h=>by
  intro x a
  have b:=Jv h
  obtain⟨d,e⟩:=Af6 h
  rw[bP,Az7 (b y eG)]
  by_cases c:Ir y key=Ir x key
  ·rcases bE.1 a with rfl | a
   ·simp
   ·exact absurd c.symm (e x a)
  ·rcases bE.1 a with rfl | a
   ·exact absurd rfl c
   ·simp only[c,Ze]
    exact As0 d x a
theorem Vs {q:List Stp}(h:Dj q=true):(∀x∈q,x.fits)/\q.length<=16:=by
 unfold Dj at h
 simp only[aK,bN,decide_eq_true_eq]at h
 refine⟨λx a=>?_,h.2⟩
 obtain⟨b,c,_⟩:=Df (h.1 x a)
 exact⟨by omega,by omega⟩
end Go.CT.Sch
namespace Go.CT.Sch
open Go.Proofs
theorem Sn (v:Val)(j:Kf 1073741824 v)(c d e m o q g:IV)(r: ∀p∈v.f,W Afy 0 [p.2.enc]=some p.2.Hi): ∀ (n i:Nat),i+n=v.f.length->
  W Afy 2 [.int v.f.length,.int i,c,d,e,m,o,q,g,.list (v.f.map bC)]=some [c,d,e,g,.list (v.f.map bC)]
 | 0,i,h=>by
  have:i=v.f.length:=by omega
  subst this
  rw[Ai3]
  simp only[ltn,aA,aO,aB,Zf]
 | n+1,i,h=>by
  have b:i<v.f.length:=by omega
  have w:=j.Uz
  have:=Sn v j c d e m o q g r n (i+1) (by omega)
  have a:O.setAt 1 5 true false (.list (v.f.map bC)) (.int i) v.f[i].2.enc =some (.list (v.f.map bC)):=by
   have t:(v.f.map bC)[i]?=some (bC v.f[i]):=by rw[aZ,aI b];rfl
   have x:(v.f.map bC).set i (bC v.f[i])=v.f.map bC:=by
    rw[<-List.map_set,dT]
   unfold O.setAt
   simp only[fH,aW,Zt,aT,t,aB,Zf]
   rw[v.f[i].2.En]
   simp only[bC]
   have u:v.f[i].2.Hi.length =5:=rfl
   simp only[u,Zt]
   congr 2
  rw[Ai3]
  simp only[lti b,aA,aO,Zt,Jt bC b,eF,r _ (aE b),eV,fU,cT,fI,a,nxt (show i<4611686018427387904 by omega),this]
theorem Sl (v:Val)(o:Kf 1073741824 v)(c d e g j m:IV)(q: ∀x∈v.l,W Afy 0 [x.enc]=some x.Hi): ∀ (n i:Nat),i+n=v.l.length->
  W Afy 1 [.int v.l.length,.int i,c,d,e,g,j,m,.list (v.l.map bI),.list (v.f.map bC)]=W Afy 2 [.int v.f.length,.int (0:Nat),c,d,e,g,j,m,.list (v.l.map bI),.list (v.f.map bC)]
 | 0,i,h=>by
  have:i=v.l.length:=by omega
  subst this
  rw[Ams]
  simp only[ltn,aA,aO,aB,Zf,Gg]
  rfl
 | n+1,i,h=>by
  have b:i<v.l.length:=by omega
  have r:=o.Zn
  have:=Sl v o c d e g j m q n (i+1) (by omega)
  have a:O.setAt 0 5 true true (.list (v.l.map bI)) (.int i) v.l[i].enc =some (.list (v.l.map bI)):=by
   rw[show(IV.list (v.l.map bI))=Srt.LE bI v.l from rfl,Srt.Atu bI b,dT]
  rw[Ams]
  simp only[lti b,aA,aO,Zt,Jt bI b,q _ (aE b),eV,fU,cT,fI,a,nxt (show i<4611686018427387904 by omega),this]
theorem Aoy: ∀v:Val,Kf 1073741824 v->W Afy 0 [v.enc]=some v.Hi:=by
 refine dQ λv b c a=>?_
 have d:=Sl v a (.int v.k) (.int v.n) (.str v.s) (.int 0) (.int 0) (.str ⟨#[]⟩) (λx e=>b x e (a.W5 e)) v.l.length 0 (by omega)
 have g:=Sn v a (.int v.k) (.int v.n) (.str v.s) (.int 0) (.int 0) (.str ⟨#[]⟩) (.list (v.l.map bI)) (λp hp=>c p hp (a.Oh hp)) v.f.length 0 (by omega)
 rw[g]at d
 rw[Azw]
 have i:=a.Zn
 have j:=a.Uz
 have h:(v.l.map bI).length <=1073741824:=by rw[aG];omega
 have hd:(v.f.map bC).length <=1073741824:=by rw[aG];omega
 simp only[cR,eP,eQ,bZ,cK,aA,Bab,A4r,Ez h,Ez hd,bD,Gg]
 rw[eV]
 exact d
theorem A3q (v:Val)(x:Stp)(b:v.Aw<=1048576): ∀ (n i:Nat),i+n=v.f.length->
  ∃r:Int,W A8z 1 [.list (v.f.map bC),x.enc,.int v.f.length,.int i]=some [.int r]/\
   ((((v.f.drop i).find? λp=>decide (p.1=x.nm))=none/\r<0)\/ ∃ (j:Nat) (u:Val),r=j/\v.f[j]?=some (x.nm,u)/\((v.f.drop i).find? λp=>decide (p.1=x.nm))=some (x.nm,u))
 | 0,i,h=>by
  have d:i=v.f.length:=by omega
  subst d
  rw[Alj]
  exact⟨-1,by simp only[ltn,aA,aO,aB,Zf],.inl ⟨by rw[aJ];rfl,by omega⟩⟩
 | n+1,i,h=>by
  have a:i<v.f.length:=by omega
  have m:=v.A7
  obtain⟨r,e,g⟩:=A3q v x b n (i+1) (by omega)
  rw[Alj,aC a,bP]
  simp only[lti a,aA,aO,Zt,Jt bC a,A1s,eU,Stp.C7,eY,bD,nxt (show i<4611686018427387904 by omega),e]
  by_cases c:v.f[i].1 =x.nm
  ·exact⟨i,by simp[c],.inr ⟨i,v.f[i].2,rfl,by simp[a,<-c],by simp[<-c]⟩⟩
  ·have c':decide (v.f[i].1 =x.nm)=false:=by simpa using c
   simp only[c',aB,Zf]
   exact⟨r,rfl,g⟩
theorem Ban (u:Val)(x:Stp)(a:u.Aw<=1048576):W Bdy 0 [u.enc,x.enc]=some [.bool (hasB x.nm x.vl u)]:=by
 rw[Aym]
 unfold hasB
 simp only[Stp.C7,Stp.B5,aA,Aeq u x.nm (by omega),Iv,I8,aO,bJ,eY,Az,Am]
 cases b:u.get x.nm with
 | none=>simp[Bc]
 | some y=>by_cases c:y.k=3<;>simp[c]
theorem A9q (v:Val)(x:Stp)(b:v.Aw<=1048576): ∀ (n i:Nat),i+n=v.l.length->
  ∃r:Int,W A89 1 [.list (v.l.map bI),x.enc,.int v.l.length,.int i]=some [.int r]/\
   ((((v.l.drop i).find? (hasB x.nm x.vl))=none/\r<0)\/ ∃ (j:Nat) (u:Val),r=j/\v.l[j]?=some u/\((v.l.drop i).find? (hasB x.nm x.vl))=some u)
 | 0,i,h=>by
  have d:i=v.l.length:=by omega
  subst d
  rw[Aip]
  exact⟨-1,by simp only[ltn,aA,aO,aB,Zf],.inl ⟨by rw[aJ];rfl,by omega⟩⟩
 | n+1,i,h=>by
  have a:i<v.l.length:=by omega
  have m:=v.B8
  have o:=dK (aE a)
  obtain⟨r,e,g⟩:=A9q v x b n (i+1) (by omega)
  rw[Aip,aC a,bP]
  simp only[lti a,aA,aO,Zt,Jt bI a,Ax5,Ban v.l[i] x (by omega),bD,nxt (show i<4611686018427387904 by omega),e]
  cases c:hasB x.nm x.vl v.l[i]with
  | true=>exact⟨i,by simp,.inr ⟨i,v.l[i],rfl,by simp[a],rfl⟩⟩
  | false=>exact⟨r,by simp,g⟩
theorem A1i (v:Val)(x:Stp)(o:v.Aw<=1048576)(q:Dr x=true): ∃r:Int,W Bdq 0 [v.enc,x.enc]=some [.int r]/\
  ((Rr v x=none/\r<0)\/ ∃ (j:Nat) (u:Val),r=j/\Rr v x=some u/\(x.k=1->v.f[j]?=some (x.nm,u))/\(x.k≠1->v.l[j]?=some u)):=by
 obtain⟨z,A,t,B,C⟩:=Df q
 rw[Ax6]
 unfold Rr
 simp only[Stp.Bj,aA,bJ,aO,cR,Az,Am]
 by_cases k1:x.k=1
 ·unfold Val.get
  by_cases i:v.k=5
  ·obtain⟨r,b,a⟩:=A3q v x o v.f.length 0 (by omega)
   simp only[aF,aD]at b a
   simp only[k1,i,Zd,Zt,cK,aA,A07,Gg,b,bD]
   refine⟨r,rfl,?_⟩
   rcases a with⟨d,e⟩ | ⟨j,u,d,e,m⟩
   ·exact .inl ⟨by rw[d];rfl,e⟩
   ·exact .inr ⟨j,u,d,by rw[m];rfl,λ_=>e,λh=>(h rfl).elim⟩
  ·refine⟨-1,?_,.inl ⟨by rw[if_pos k1,if_neg i],by omega⟩⟩
   simp[k1,i]
 ·rw[if_neg k1]
  by_cases g:v.k=4
  ·rw[if_pos g]
   by_cases k2:x.k=2
   ·obtain⟨j,w⟩:=Int.eq_ofNat_of_zero_le (t k2).1
    rw[if_pos k2]
    simp only[k1,k2,g,Zd,Ze,aB,Zf,Zt,Stp.Ee,bZ,Gg,aA,dD,w,Int.ofNat_eq_natCast,aT,Aj,show ¬ (2:Int)=1 by omega,show ¬ (2:Int)=3 by omega]
    by_cases c:j<v.l.length
    ·exact⟨j,by simp[c],.inr ⟨j,v.l[j],rfl,by simp[c],λh=>by simp at h,λ_=>by simp[c]⟩⟩
    ·exact⟨-1,by simp[c],.inl ⟨by simpa using c,by omega⟩⟩
   ·have y:x.k=3:=by omega
    obtain⟨r,b,a⟩:=A9q v x o v.l.length 0 (by omega)
    simp only[aF,aD]at b a
    rw[if_neg k2]
    simp only[y,g,Zd,Ze,aB,Zf,Zt,bZ,aA,A0r,Gg,b,bD,show ¬ (3:Int)=1 by omega,show ¬ (3:Int)=2 by omega]
    refine⟨r,rfl,?_⟩
    rcases a with a | ⟨j,u,d,e,m⟩
    ·exact .inl a
    ·exact .inr ⟨j,u,d,m,λh=>by simp at h,λ_=>e⟩
  ·rw[if_neg g]
   refine⟨-1,?_,.inl ⟨rfl,by omega⟩⟩
   simp[k1,g]
theorem Am8 (p:List Stp)(t:p.length<=1099511627776)(hp: ∀x∈p,Dr x=true)(c d e:IV): ∀ (n i:Nat) (v:Val),i+n=p.length->v.Aw<=1048576->
  W Aqo 1 [.list (p.map bL),.int p.length,.int i,v.enc,c,d,e]=some (Iv (Mi v (p.drop i)))
 | 0,i,v,h,m=>by
  have w:i=p.length:=by omega
  subst w
  have o:=Aoy v (Hl v (by omega))
  rw[eV]at o
  rw[Aiw,aJ]
  simp only[ltn,aA,aO,aB,Zf,o,fU,Mi,Iv,bG,bU]
 | n+1,i,v,h,m=>by
  have a:i<p.length:=by omega
  have y:=hp _ (aE a)
  obtain⟨r,z,A⟩:=A1i v p[i] m y
  rw[Aiw,aC a]
  simp only[lti a,aA,aO,Zt,Jt bL a,z,bD,Stp.Bj,bJ,dD,bZ,cK,Mi]
  rcases A with⟨b,g⟩ | ⟨j,u,rfl,b,g,B⟩
  ·simp only[g,Zd,Zt,b];rfl
  ·have C: ¬ (j:Int)<0:=by omega
   have F:=Se b
   have E:=Am8 p t hp c d e n (i+1) u (by omega) (by omega)
   have q:W Aqo 2 [.list (p.map bL),.int p.length,.int i,u.enc,c,d,e]=some (Iv (Mi u (p.drop (i+1)))):=by
    rw[Az3]
    simp only[nxt (show i<4611686018427387904 by omega),aA,E]
   simp only[C,Ze,aB,Zf,b,aA,eK,aW,Zt,aT,aZ]
   by_cases k1:p[i].k =1
   ·simp only[k1,Zd,Zt,g k1,aQ,aA,eF,q]
   ·simp only[k1,Ze,aB,Zf,B k1,aQ,aA,q]
theorem A9z (v:Val)(p:List Stp)(b:v.Aw<=1048576)(hp:Dj p=true):W Aqo 0 [v.enc,.list (p.map bL)]=some (Iv (Mi v p)):=by
 obtain⟨c,d⟩:=Vs hp
 have a:=hp
 unfold Dj at a
 simp only[aK,bN]at a
 have:=Am8 p (by omega) a.1 (.int 0) (.int 0) (.str ⟨#[]⟩) p.length 0 v (by omega) b
 simp only[aD,aF]at this
 rw[Axv]
 simp only[Tw p c (by omega),hp,bD,cO,aA,aO,aH,aB,Zf,Gg,this]
end Go.CT.Sch
namespace Go.CT.Sch
open Go.Proofs
theorem T3 {x:IV}(h:WT Tryz.prog 3 x): ∃n,x= .int n:=by
 obtain⟨n,rfl,_⟩:=h.G4 (k:= .i64) (by kernel_rfl)
 exact⟨n,rfl⟩
theorem Qv {x:IV}(h:WT Tryz.prog 9 x): ∃s,x= .str s:=by
 obtain⟨s,rfl,_⟩:=h.Hj (by kernel_rfl)
 exact⟨s,rfl⟩
theorem Arh {x:IV}(h:WT Tryz.prog 4 x): ∃b,x= .bool b:=h.Md (by kernel_rfl)
theorem Au0 {x:IV}(h:WT Tryz.prog 22 x): ∃l:List ByteArray,x= .list (l.map .str):=by
 obtain⟨xs,rfl,_,h⟩:=h.Cl (e:=9) (by kernel_rfl)
 obtain⟨es,rfl,_⟩:=Jj (enc:=IV.str) (ok:=λ_=>True) (xs:=xs) λx a=>by
  obtain⟨s,e⟩:=Qv (h x a)
  exact⟨s,e,trivial⟩
 exact⟨es,rfl⟩
theorem At3 {x:IV}(b:WT Tryz.prog 27 x)(h: ∀y,y.bulk<x.bulk->WT Tryz.prog 30 y-> ∃v:Val,y=v.enc): ∃l:List Val,x= .list (l.map bI):=by
 obtain⟨xs,rfl,_,c⟩:=b.Cl (e:=30) (by kernel_rfl)
 obtain⟨es,rfl,_⟩:=Jj (enc:=bI) (ok:=λ_=>True) (xs:=xs) λy a=>by
  have d:y.bulk<(IV.list xs).bulk :=by have:=Et a;simp only[dI];omega
  obtain⟨s,e⟩:=h y d (c y a)
  exact⟨s,e,trivial⟩
 exact⟨es,rfl⟩
theorem Asg {x:IV}(b:WT Tryz.prog 28 x)(h: ∀y,y.bulk<x.bulk->WT Tryz.prog 84 y-> ∃p,y=bC p): ∃l:List (ByteArray × Val),x= .list (l.map bC):=by
 obtain⟨xs,rfl,_,c⟩:=b.Cl (e:=84) (by kernel_rfl)
 obtain⟨es,rfl,_⟩:=Jj (enc:=bC) (ok:=λ_=>True) (xs:=xs) λy a=>by
  have d:y.bulk<(IV.list xs).bulk :=by have:=Et a;simp only[dI];omega
  obtain⟨s,e⟩:=h y d (c y a)
  exact⟨s,e,trivial⟩
 exact⟨es,rfl⟩
theorem Af8: ∀ (n:Nat) (x:IV),x.bulk<=n->(WT Tryz.prog 30 x-> ∃v:Val,x=v.enc)/\(WT Tryz.prog 84 x-> ∃p,x=bC p)
 | 0,x,g=>by have:=Aa1 x;omega
 | n+1,x,g=>by
  have u: ∀y:IV,y.bulk<=n->WT Tryz.prog 27 y-> ∃l:List Val,y= .list (l.map bI):=λy A h=>At3 h λz i j=>(Af8 n z (by omega)).1 j
  have w: ∀y:IV,y.bulk<=n->WT Tryz.prog 28 y-> ∃l:List (ByteArray × Val),y= .list (l.map bC):=λy A h=>Asg h λz i j=>(Af8 n z (by omega)).2 j
  constructor
  ·intro h
   obtain⟨xs,rfl,o⟩:=h.It (ts:= [3,3,9,27,28]) (by kernel_rfl) (by kernel_rfl)
   obtain⟨a,xs,rfl,q,h⟩:=o.cons_inv
   obtain⟨b,xs,rfl,g,h⟩:=h.cons_inv
   obtain⟨c,xs,rfl,r,h⟩:=h.cons_inv
   obtain⟨d,xs,rfl,hd,h⟩:=h.cons_inv
   obtain⟨e,xs,rfl,t,h⟩:=h.cons_inv
   obtain rfl:=h.Uf
   simp only[dI,fD]at g
   obtain⟨k,rfl⟩:=T3 q
   obtain⟨m,rfl⟩:=T3 ‹WT Tryz.prog 3 b›
   obtain⟨s,rfl⟩:=Qv r
   obtain⟨l,rfl⟩:=u d (by omega) hd
   obtain⟨f,rfl⟩:=w e (by omega) t
   exact⟨⟨k,m,s,l,f⟩,fE _ _ _ _ _⟩
  ·intro h
   obtain⟨xs,rfl,o⟩:=h.It (ts:= [9,3,3,9,27,28]) (by kernel_rfl) (by kernel_rfl)
   obtain⟨z,xs,rfl,i,h⟩:=o.cons_inv
   obtain⟨a,xs,rfl,q,h⟩:=h.cons_inv
   obtain⟨b,xs,rfl,g,h⟩:=h.cons_inv
   obtain⟨c,xs,rfl,r,h⟩:=h.cons_inv
   obtain⟨d,xs,rfl,hd,h⟩:=h.cons_inv
   obtain⟨e,xs,rfl,t,h⟩:=h.cons_inv
   obtain rfl:=h.Uf
   simp only[dI,fD]at g
   obtain⟨nm,rfl⟩:=Qv i
   obtain⟨k,rfl⟩:=T3 q
   obtain⟨m,rfl⟩:=T3 ‹WT Tryz.prog 3 b›
   obtain⟨s,rfl⟩:=Qv r
   obtain⟨l,rfl⟩:=u d (by omega) hd
   obtain⟨f,rfl⟩:=w e (by omega) t
   exact⟨(nm,⟨k,m,s,l,f⟩),Fld.fold _ _ _ _ _ _⟩
theorem Apt {x:IV}(h:WT Tryz.prog 30 x): ∃v:Val,x=v.enc:=(Af8 _ x (aV _)).1 h
theorem Ane {x:IV}(h:WT Tryz.prog 27 x): ∃l:List Val,x= .list (l.map bI):=At3 h λ_ _ a=>Apt a
theorem A7v {x:IV}(b:WT Tryz.prog 23 x)(h: ∀y,y.bulk<x.bulk->WT Tryz.prog 26 y-> ∃v:Sch,y=v.enc): ∃l:List Sch,x= .list (l.map dX):=by
 obtain⟨xs,rfl,_,c⟩:=b.Cl (e:=26) (by kernel_rfl)
 obtain⟨es,rfl,_⟩:=Jj (enc:=dX) (ok:=λ_=>True) (xs:=xs) λy a=>by
  have d:y.bulk<(IV.list xs).bulk :=by have:=Et a;simp only[dI];omega
  obtain⟨s,e⟩:=h y d (c y a)
  exact⟨s,e,trivial⟩
 exact⟨es,rfl⟩
theorem Aon {x:IV}(b:WT Tryz.prog 24 x)(h: ∀y,y.bulk<x.bulk->WT Tryz.prog 94 y-> ∃p:SFld,y=p.enc): ∃l:List SFld,x= .list (l.map cN):=by
 obtain⟨xs,rfl,_,c⟩:=b.Cl (e:=94) (by kernel_rfl)
 obtain⟨es,rfl,_⟩:=Jj (enc:=cN) (ok:=λ_=>True) (xs:=xs) λy a=>by
  have d:y.bulk<(IV.list xs).bulk :=by have:=Et a;simp only[dI];omega
  obtain⟨s,e⟩:=h y d (c y a)
  exact⟨s,e,trivial⟩
 exact⟨es,rfl⟩
theorem Ah7: ∀ (n:Nat) (x:IV),x.bulk<=n->(WT Tryz.prog 26 x-> ∃v:Sch,x=v.enc)/\(WT Tryz.prog 94 x-> ∃p:SFld,x=p.enc)
 | 0,x,A=>by have:=Aa1 x;omega
 | n+1,x,q=>by
  have C: ∀y:IV,y.bulk<=n->WT Tryz.prog 23 y-> ∃l:List Sch,y= .list (l.map dX):=λy E h=>A7v h λz F r=>(Ah7 n z (by omega)).1 r
  have G: ∀y:IV,y.bulk<=n->WT Tryz.prog 24 y-> ∃l:List SFld,y= .list (l.map cN):=λy E h=>Aon h λz F r=>(Ah7 n z (by omega)).2 r
  have B: ∀xs,WTs Tryz.prog [3,3,3,22,9,23,24] xs->fD xs<=n-> ∃s:Sch,xs=s.Hi:=by
   intro xs h A
   obtain⟨a,xs,rfl,t,h⟩:=h.cons_inv
   obtain⟨b,xs,rfl,j,h⟩:=h.cons_inv
   obtain⟨c,xs,rfl,u,h⟩:=h.cons_inv
   obtain⟨d,xs,rfl,hd,h⟩:=h.cons_inv
   obtain⟨e,xs,rfl,H,h⟩:=h.cons_inv
   obtain⟨g,xs,rfl,I,h⟩:=h.cons_inv
   obtain⟨i,xs,rfl,J,h⟩:=h.cons_inv
   obtain rfl:=h.Uf
   simp only[fD]at A
   obtain⟨k,rfl⟩:=T3 t
   obtain⟨m,rfl⟩:=T3 j
   obtain⟨o,rfl⟩:=T3 u
   obtain⟨en,rfl⟩:=Au0 hd
   obtain⟨key,rfl⟩:=Qv H
   obtain⟨it,rfl⟩:=C g (by omega) I
   obtain⟨f,rfl⟩:=G i (by omega) J
   exact⟨⟨k,m,o,en,key,it,f⟩,by rw[Sch.Ck];rfl⟩
  constructor
  ·intro h
   obtain⟨xs,rfl,w⟩:=h.It (ts:= [3,3,3,22,9,23,24]) (by kernel_rfl) (by kernel_rfl)
   simp only[dI]at q
   obtain⟨s,rfl⟩:=B xs w (by omega)
   exact⟨s,s.En.symm⟩
  ·intro h
   obtain⟨xs,rfl,w⟩:=h.It (ts:= [9,4,4,27,3,3,3,22,9,23,24]) (by kernel_rfl) (by kernel_rfl)
   obtain⟨a,xs,rfl,t,h⟩:=w.cons_inv
   obtain⟨b,xs,rfl,j,h⟩:=h.cons_inv
   obtain⟨c,xs,rfl,u,h⟩:=h.cons_inv
   obtain⟨d,xs,rfl,hd,h⟩:=h.cons_inv
   simp only[dI,fD]at q
   obtain⟨s,rfl⟩:=B xs h (by omega)
   obtain⟨nm,rfl⟩:=Qv t
   obtain⟨rq,rfl⟩:=Arh j
   obtain⟨im,rfl⟩:=Arh u
   obtain⟨df,rfl⟩:=Ane hd
   exact⟨⟨nm,rq,im,df,s⟩,rfl⟩
theorem A99 {x:IV}(h:WT Tryz.prog 26 x): ∃s:Sch,x=s.enc:=(Ah7 _ x (aV _)).1 h
structure Mgr where
 name:ByteArray
 paths:List ByteArray
def Mgr.enc (m:Mgr):IV:= .agg [.str m.name,.list (m.paths.map .str)]
theorem A98 {x:IV}(h:WT Tryz.prog 52 x): ∃m:Mgr,x=m.enc:=by
 obtain⟨xs,rfl,c⟩:=h.It (ts:= [9,22]) (by kernel_rfl) (by kernel_rfl)
 obtain⟨a,xs,rfl,d,h⟩:=c.cons_inv
 obtain⟨b,xs,rfl,e,h⟩:=h.cons_inv
 obtain rfl:=h.Uf
 obtain⟨nm,rfl⟩:=Qv d
 obtain⟨l,rfl⟩:=Au0 e
 exact⟨⟨nm,l⟩,rfl⟩
theorem A5p {x:IV}(a:WT Tryz.prog 31 x): ∃l:List Mgr,x= .list (l.map Mgr.enc):=by
 obtain⟨xs,rfl,_,b⟩:=a.Cl (e:=52) (by kernel_rfl)
 obtain⟨es,rfl,_⟩:=Jj (enc:=Mgr.enc) (ok:=λ_=>True) (xs:=xs) λy c=>by
  obtain⟨s,e⟩:=A98 (b y c)
  exact⟨s,e,trivial⟩
 exact⟨es,rfl⟩
end Go.CT.Sch
namespace Go.CT.Sch
open Go.Proofs
def Aru (x:IV):Prop:= ∃t c,x= .agg [.str t,.int c]
theorem Aw9 (p:List Stp)(c:Int):Aru (H7 p c):=⟨_,_,rfl⟩
theorem Au3: ∀ (v:Val) (s:Sch) (p:List Stp),∀x∈Iw v s p,Aru x:=by
 refine dQ λv e g s p=>?_
 have sing: ∀ (q:List Stp) (c:Int),∀x∈ [H7 q c],Aru x:=λq c x b=>by simp at b;subst b;exact Aw9 q c
 have nil: ∀x∈([]:List IV),Aru x:=λx b=>by simp at b
 have i: ∀n,∀x∈W4 p s n,Aru x:=λn=>by
  unfold W4;split
  ·exact sing _ _
  ·exact nil
 have j: ∀ (l:List Val),(∀x∈l,∀s p,∀y∈Iw x s p,Aru y)-> ∀key t prev,∀y∈Km l key t p prev,Aru y:=by
  intro l
  induction l with
  | nil=>intro _ key t prev y a;rw[Kv]at a;simp at a
  | cons x l m=>
   intro h key t prev y a
   rw[Ia,cJ,cJ]at a
   rcases a with (a | a) | a
   ·exact h x (by simp) _ _ y a
   ·unfold Atg at a
    split at a
    ·exact sing _ _ y a
    ·simp at a
   ·exact m (λz o=>h z (by simp[o])) key t _ y a
 have r: ∀y∈J7 v.f s p,Aru y:=by
  intro y a
  rw[Xk,cQ]at a
  obtain⟨x,b,a⟩:=a
  unfold Afw at a
  split at a
  ·exact sing _ _ y a
  ·split at a
   ·simp at a
   ·exact g x b _ _ y a
 have u: ∀y∈s.f.flatMap (I9 v p),Aru y:=by
  intro y a
  rw[cQ]at a
  obtain⟨d,_,a⟩:=a
  unfold I9 at a
  split at a
  ·exact sing _ _ y a
  ·simp at a
 rw[Kc]
 split
 ·split
  ·exact i _
  ·split
   ·split
    ·exact sing _ _
    ·split
     ·exact sing _ _
     ·exact nil
   ·split
    ·intro x b
     rcases cJ.1 b with b | b
     ·exact i _ x b
     ·exact j v.l e _ _ _ x b
    ·split
     ·intro x b
      rcases cJ.1 b with b | b
      ·exact r x b
      ·exact u x b
     ·exact nil
 ·exact sing _ _
def chk (s:Sch)(v:Val):List IV:=if s.valid&&v.valid then Iw v s []else[.agg [.str Ar,.int 1]]
theorem Ayi (s:Sch)(v:Val)(b:s.Aw<=1048576)(c:v.Aw<=1048576):W F87 0 [s.enc,v.enc]=some [.list (chk s v)]:=by
 rw[A6z]
 unfold chk
 simp only[Q7 s b,Hn v (by omega),bD,cO,aA,aO,Az,Am,cT,cL]
 cases a:s.valid with
 | false=>rfl
 | true=>
  cases v.valid with
  | false=>rfl
  | true=>simp[Aey v c s (fN a) b]
theorem Ath (s:Sch)(v:Val)(b:s.Aw<=1048576)(c:v.Aw<=1048576):W Bdt 0 [s.enc,v.enc]=some [.list (chk s v)]:=by
 rw[A0f]
 unfold chk
 simp only[R7 s b,Qj v (by omega),bD,cO,aA,aO,Az,Am,cT,cL]
 cases a:s.valid with
 | false=>rfl
 | true=>
  cases v.valid with
  | false=>rfl
  | true=>
   have:=Akh v c s (fN a) b [] (by simp) (by simp;omega)
   simp only[aL]at this
   simp[this]
end Go.CT.Sch
namespace Go.CT.Sch
open Go.Proofs
theorem cmp0: ∀ (a b:List UInt8),Lib.compareBytes a b=0↔a=b
 | [],[]=>by simp[Lib.compareBytes]
 | [],_::_=>by simp[Lib.compareBytes]
 | _::_,[]=>by simp[Lib.compareBytes]
 | a::x,b::y=>by
  simp only[Lib.compareBytes]
  by_cases c:a<b
  ·have: ¬ a=b:=λe=>by subst e;exact absurd c (UInt8.lt_irrefl _)
   simp[c,this]
  ·by_cases d:b<a
   ·have: ¬ a=b:=λe=>by subst e;exact c d
    simp[c,d,this]
   ·have:a=b:=by
     have g: ¬ a.toNat<b.toNat:=λh=>c (dU.2 h)
     have i: ¬ b.toNat<a.toNat:=λh=>d (dU.2 h)
     exact eX.1 (by omega)
    subst this
    simp[c,cmp0 x y]
theorem At7 (a b:ByteArray): ∃c:Int,W F42 0 [.str a,.str b]=some [.int c]/\(c=0↔a=b):=by
 refine⟨Lib.compareBytes a.data.toList b.data.toList,?_,?_⟩
 ·simp[Aq2,Aqe,A91,O.Nw]
 ·rw[cmp0];exact⟨Ek,λh=>by rw[h]⟩
theorem Aqt (a b:Int): ∃c:Int,W Bb5 0 [.int a,.int b]=some [.int c]/\(c=0↔a=b):=by
 refine⟨if decide (a<b)=true then -1 else if decide (b<a)=true then 1 else 0,?_,Ag4 a b⟩
 rw[Az8]
 simp only[Azr,dE,Zd,aH,aA,bD,aO,aB,Zf,dD,eW]
 split
 ·rfl
 ·split<;>rfl
theorem Arl (cs:List Int)(d:cs.length<=100): ∀ (n i:Nat),i+n=cs.length-> ∃r:Int,W A2r 1 [.int 0,.list (cs.map .int),.int cs.length,.int i]=some [.int r]/\(r=0↔ ∀c∈cs.drop i,c=0)
 | 0,i,h=>by
  have e: ¬ i<cs.length:=by omega
  rw[Ajp,aR (by omega)]
  exact⟨0,by simp[e],by simp⟩
 | n+1,i,h=>by
  have b:i<cs.length:=by omega
  have g:=A8 (i:=i) (by omega)
  obtain⟨r,j,m⟩:=Arl cs d n (i+1) (by omega)
  rw[Ajp,aC b]
  simp only[dD,Aj,b,Zd,aA,aO,Zt,eK,aW,aT,aZ,aI b,aQ,dE,dZ,g,j]
  by_cases a:cs[i]=0
  ·exact⟨r,by simp[a],by simp only[bE,forall_eq_or_imp,a,true_and];exact m⟩
  ·exact⟨cs[i],by simp[a],by simp only[bE,forall_eq_or_imp,a,false_and]⟩
theorem Bbe (cs:List Int)(a:cs.length<=100): ∃r:Int,W A2r 0 [.list (cs.map .int)]=some [.int r]/\(r=0↔ ∀c∈cs,c=0):=by
 obtain⟨r,b,d⟩:=Arl cs a cs.length 0 (by omega)
 refine⟨r,?_,by simpa using d⟩
 rw[A09]
 simp only[eB,aG,aA]
 exact b
theorem Asd (a b:List Val)(u:a.length<=1099511627776)(o: ∀x∈a,∀y∈b,∃c:Int,W A81 0 [x.enc,y.enc]=some [.int c]/\(c=0↔x=y)): ∀ (n i:Nat),i+n=a.length->i<=b.length->
  ∃c:Int,W A9b 1 [.list (a.map bI),.list (b.map bI),.list (a.map bI),.int a.length,.int i]=some [.int c]/\(c=0↔a.drop i=b.drop i)
 | 0,i,h,w=>by
  have q: ¬ i<a.length:=by omega
  have e1:a.drop i= []:=aR (by omega)
  rw[Ame,e1]
  by_cases g:a.length<b.length
  ·have z:(a.length:Int)<b.length:=by omega
   have: ¬ []=b.drop i:=λe=>by
    have:=congrArg cM e
    simp at this;omega
   exact⟨-1,by simp[q,g],by simp[this]⟩
  ·have z: ¬ (a.length:Int)<b.length:=by omega
   have:b.drop i= []:=aR (by omega)
   exact⟨0,by simp[q,g],by simp[this]⟩
 | n+1,i,h,w=>by
  have d:i<a.length:=by omega
  have A:=A8 (i:=i) (by omega)
  rw[Ame]
  by_cases m:i<b.length
  ·obtain⟨c,B,t⟩:=o _ (aE d) _ (aE m)
   obtain⟨r,r1,r2⟩:=Asd a b u o n (i+1) (by omega) (by omega)
   have g: ¬ (b.length:Int)<=i:=by omega
   have hd:(a.drop i=b.drop i)↔(a[i]=b[i]/\a.drop (i+1)=b.drop (i+1)):=by
    rw[aC d,aC m]
    simp only[cS]
   simp only[dD,Aj,d,Zd,aA,aO,Zt,eK,aW,aT,aZ,aI d,aI m,aQ,eB,aG,O.Gf,g,Ze,aB,Zf,B,bD,dE,dZ,A,r1,hd]
   by_cases j:c=0
   ·exact⟨r,by simp[j],by rw[r2];simp[t.1 j]⟩
   ·exact⟨c,by simp[j],by simp[j];exact λe=>absurd (t.2 e) j⟩
  ·have g:(b.length:Int)<=i:=by omega
   have: ¬ a.drop i=b.drop i:=λe=>by
    have:=congrArg cM e
    simp at this;omega
   exact⟨1,by simp[d,g],by simp[this]⟩
theorem Ap1 (a b:List (ByteArray × Val))(u:a.length<=1099511627776)(o: ∀x∈a,∀y∈b,∃c:Int,W Bb1 0 [bC x,bC y]=some [.int c]/\(c=0↔x=y)): ∀ (n i:Nat),i+n=a.length->i<=b.length->
  ∃c:Int,W A9a 1 [.list (a.map bC),.list (b.map bC),.list (a.map bC),.int a.length,.int i]=some [.int c]/\(c=0↔a.drop i=b.drop i)
 | 0,i,h,w=>by
  have q: ¬ i<a.length:=by omega
  have e1:a.drop i= []:=aR (by omega)
  rw[Am4,e1]
  by_cases g:a.length<b.length
  ·have z:(a.length:Int)<b.length:=by omega
   have: ¬ []=b.drop i:=λe=>by
    have:=congrArg cM e
    simp at this;omega
   exact⟨-1,by simp[q,g],by simp[this]⟩
  ·have z: ¬ (a.length:Int)<b.length:=by omega
   have:b.drop i= []:=aR (by omega)
   exact⟨0,by simp[q,g],by simp[this]⟩
 | n+1,i,h,w=>by
  have d:i<a.length:=by omega
  have A:=A8 (i:=i) (by omega)
  rw[Am4]
  by_cases m:i<b.length
  ·obtain⟨c,B,t⟩:=o _ (aE d) _ (aE m)
   obtain⟨r,r1,r2⟩:=Ap1 a b u o n (i+1) (by omega) (by omega)
   have g: ¬ (b.length:Int)<=i:=by omega
   have hd:(a.drop i=b.drop i)↔(a[i]=b[i]/\a.drop (i+1)=b.drop (i+1)):=by
    rw[aC d,aC m]
    simp only[cS]
   simp only[dD,Aj,d,Zd,aA,aO,Zt,eK,aW,aT,aZ,aI d,aI m,aQ,eB,aG,O.Gf,g,Ze,aB,Zf,B,bD,dE,dZ,A,r1,hd]
   by_cases j:c=0
   ·exact⟨r,by simp[j],by rw[r2];simp[t.1 j]⟩
   ·exact⟨c,by simp[j],by simp[j];exact λe=>absurd (t.2 e) j⟩
  ·have g:(b.length:Int)<=i:=by omega
   have: ¬ a.drop i=b.drop i:=λe=>by
    have:=congrArg cM e
    simp at this;omega
   exact⟨1,by simp[d,g],by simp[this]⟩
theorem Baz: ∀a:Val,a.Aw<=1099511627776-> ∀b:Val,∃c:Int,W A81 0 [a.enc,b.enc]=some [.int c]/\(c=0↔a=b):=by
 refine dQ λa g h K b=>?_
 have m1:=a.B8
 have m2:=a.A7
 obtain⟨t,u,r1⟩:=Aqt a.k b.k
 obtain⟨w,z,r2⟩:=Aqt a.n b.n
 obtain⟨A,B,C⟩:=At7 a.s b.s
 obtain⟨E,j,m⟩:=Asd a.l b.l (by omega) (λx d y _=>g x d (by have:=dK d;omega) y) a.l.length 0 (by omega) (dJ _)
 have F: ∀x∈a.f,∀y∈b.f,∃c:Int,W Bb1 0 [bC x,bC y]=some [.int c]/\(c=0↔x=y):=by
  intro x d y _
  obtain⟨d1,G,H⟩:=At7 x.1 y.1
  obtain⟨d2,I,v2⟩:=h x d (by have:=fC d;omega) y.2
  obtain⟨r,e,i⟩:=Bbe [d1,d2] (by simp)
  refine⟨r,?_,?_⟩
  ·rw[Aze]
   simp only[aM,aL]at e
   simp only[eU,eF,aA,G,I,bD,cL,e]
  ·rw[i];simp[H,v2,Prod.ext_iff]
 obtain⟨J,o,q⟩:=Ap1 a.f b.f (by omega) F a.f.length 0 (by omega) (dJ _)
 obtain⟨r,e,i⟩:=Bbe [t,w,A,E,J] (by simp)
 simp only[aF,aD]at j m o q
 simp only[aM,aL]at e
 refine⟨r,?_,?_⟩
 ·rw[Av7]
  simp only[cR,eP,eQ,bZ,cK,aA,u,z,B,bD,A0g,A0l,eB,aG,j,o,cL,e]
 ·rw[i]
  simp only[bE,List.not_mem_nil,or_false,forall_eq_or_imp,forall_eq,r1,r2,C,m,q]
  cases a;cases b;simp
open Classical in
theorem Axb (a b:Val)(ha:a.Aw<=1099511627776):W Bcr 0 [a.enc,b.enc]=some [.bool (decide (a=b))]:=by
 obtain⟨c,h1,h2⟩:=Baz a ha b
 rw[A1m]
 simp only[h1,bD,bJ,aA]
 congr 3
 simp only[h2]
end Go.CT.Sch
namespace Go.CT.Sch.D
open Go.Proofs
inductive VOk:Val->Prop
 | mk (v:Val):Hg v.f->((v.k=5->v.n=0/\v.s=Ar/\v.l= [])/\(v.k=4->v.n=0/\v.s=Ar)/\(v.k≠5->v.f= []))->(∀x∈v.l,VOk x)->(∀p∈v.f,VOk p.2)->VOk v
def Gh (s:Sch)(nm:ByteArray):Option Sch:=if s.it.length=1 then s.it[0]? else(s.fld nm).map (·.s)
inductive Acr:Sch->Val->Prop
 | leaf (s:Sch) (v:Val):v.k=s.k->v.k≠4->v.k≠5->Acr s v
 | list (s:Sch) (v:Val) (t:Sch):v.k=s.k->v.k=4->s.it= [t]->(∀x∈v.l,Acr t x)->Acr s v
 | map (s:Sch) (v:Val):v.k=s.k->v.k=5->(∀p∈v.f,(Gh s p.1).isSome =true)->(∀p∈v.f,p.2.k≠0-> ∀t,Gh s p.1=some t->Acr t p.2)->Acr s v
inductive SOk:Sch->Prop
 | mk (s:Sch):s.it.length<=1->(s.it≠ []->s.f= [])->(s.k=4->s.it.length=1)->s.f.Pairwise (λa b=>blt a.nm b.nm=true)->
  (∀x∈s.it,SOk x)->(∀p∈s.f,SOk p.s)->(∀p∈s.f,p.df.length<=1)->(∀p∈s.f,∀d∈p.df,VOk d/\d.k≠0/\Acr p.s d)->SOk s
theorem VOk.strict {v:Val}(h:VOk v):Hg v.f:=by cases h;assumption
theorem VOk.map {v:Val}(h:VOk v)(a:v.k=5):v.n=0/\v.s=Ar/\v.l= []:=by cases h with | mk _ c b d e=>exact b.1 a
theorem VOk.list {v:Val}(h:VOk v)(b:v.k=4):v.n=0/\v.s=Ar/\v.f= []:=by cases h with | mk _ c a d e=>exact⟨(a.2.1 b).1,(a.2.1 b).2,a.2.2 (by omega)⟩
theorem VOk.nof {v:Val}(h:VOk v)(a:v.k≠5):v.f= []:=by cases h with | mk _ c b d e=>exact b.2.2 a
theorem VOk.W5 {v:Val}(h:VOk v){x:Val}(a:x∈v.l):VOk x:=by cases h with | mk _ c d b e=>exact b x a
theorem VOk.Oh {v:Val}(h:VOk v){p:ByteArray × Val}(hp:p∈v.f):VOk p.2:=by cases h with | mk _ b c d a=>exact a p hp
theorem SOk.one {s:Sch}(h:SOk s):s.it.length<=1:=by cases h;assumption
theorem SOk.nof {s:Sch}(h:SOk s)(a:s.it≠ []):s.f= []:=by cases h with | mk _ c b d e g i j m=>exact b a
theorem SOk.list {s:Sch}(h:SOk s)(a:s.k=4):s.it.length=1:=by cases h with | mk _ c d b e g i j m=>exact b a
theorem SOk.Jz {s x:Sch}(h:SOk s)(a:x∈s.it):SOk x:=by cases h with | mk _ c d e g b i j m=>exact b x a
theorem SOk.Oh {s:Sch}{p:SFld}(h:SOk s)(a:p∈s.f):SOk p.s:=by cases h with | mk _ c d e g i b j m=>exact b p a
theorem Oa {s t:Sch}{nm:ByteArray}(h:Gh s nm=some t):t∈s.it\/ ∃p∈s.f,p.nm=nm/\p.s=t:=by
 unfold Gh at h
 split at h
 ·exact .inl (dW h)
 ·right
  rw[Option.map_eq_some_iff]at h
  obtain⟨p,hp,rfl⟩:=h
  exact⟨p,cC hp,by simpa using List.find?_some hp,rfl⟩
theorem SOk.sub {s t:Sch}{nm:ByteArray}(a:SOk s)(h:Gh s nm=some t):SOk t:=by
 rcases Oa h with h | ⟨p,hp,_,rfl⟩
 ·exact a.Jz h
 ·exact a.Oh hp
theorem Jg {s t:Sch}{nm:ByteArray}(h:Gh s nm=some t):t.Aw<s.Aw:=by
 rcases Oa h with h | ⟨p,hp,_,rfl⟩
 ·exact eE h
 ·have:=Sch.Dq hp;omega
theorem Ajk: ∀ (d:Nat) (v:Val),Bu d v=true->VOk v
 | 0,v,h=>by simp[Bu]at h
 | d+1,v,h=>by
  simp only[Bu,aK,bN,decide_eq_true_eq]at h
  obtain⟨⟨⟨⟨a,b⟩,c⟩,e⟩,g⟩:=h
  unfold Gk at a
  refine .mk v (Lv _ g) ⟨λi=>?_,λi=>?_,b.2.2.2⟩ (λx j=>Ajk d x (c x j)) (λp hp=>Ajk d p.2 (e p hp).2)
  ·rw[if_neg (by omega),if_neg (by omega),if_neg (by omega)]at a
   simp only[decide_eq_true_eq]at a
   exact⟨a.2.1,a.2.2,b.2.2.1 (by omega)⟩
  ·rw[if_neg (by omega),if_neg (by omega),if_neg (by omega)]at a
   simp only[decide_eq_true_eq]at a
   exact⟨a.2.1,a.2.2⟩
theorem Ac1 {v:Val}(h:v.valid=true):VOk v:=by
 unfold Val.valid at h
 simp only[aK]at h
 exact Ajk _ _ h.1
def Bw:Sch:=⟨0,0,0,[],Ar,[],[]⟩
def Td (o:Option Sch):List IV:= [(o.getD Bw).enc,.bool o.isSome]
theorem Pw:IV.agg [.int 0,.int 0,.int 0,.list [],.str ⟨#[]⟩,.list [],.list []]=Bw.enc:=rfl
theorem Xi (s:Sch)(nm:ByteArray)(m:s.Aw<=1099511627776)(b d e g:IV): ∀ (n i:Nat),i+n=s.f.length->
  W F96 1 [.str nm,.list (s.f.map cN),.int s.f.length,.int i,b,d,e,g]=some (Td (((s.f.drop i).find? λp=>decide (p.nm=nm)).map (·.s)))
 | 0,i,h=>by
  rw[Ar1]
  have j: ¬ i<s.f.length:=by omega
  simp[j,aR (cG j),Td,Pw]
 | n+1,i,h=>by
  have a:i<s.f.length:=by omega
  have q:=s.A7
  have o:=A8 (i:=i) (by omega)
  have:=Xi s nm m b d e g n (i+1) (by omega)
  rw[Ar1,aC a]
  simp only[dD,Aj,a,Zd,aA,aO,Zt,eK,aW,aT,aZ,aI a,aQ,fB,eL,eY,dZ,o,this,bP]
  by_cases c:s.f[i].nm =nm
  ·simp[c,Td]
  ·have c':decide (s.f[i].nm =nm)=false:=by simpa using c
   simp only[c,c',Ze,aB,Zf]
theorem A1p (s:Sch)(nm:ByteArray)(a:s.Aw<=1099511627776):W F96 0 [s.enc,.str nm]=some (Td (Gh s nm)):=by
 rw[A7m]
 unfold Gh
 have:=Xi s nm a (.int 0) (.int 0) (.int 0) (.str ⟨#[]⟩) s.f.length 0 (by omega)
 simp only[aF,aD]at this
 simp only[cZ,dO,aA,bJ,aO,eB,aG,this]
 by_cases c:s.it.length=1
 ·have c':(s.it.length:Int)=1:=by omega
  obtain⟨t,b⟩:=bK.1 c
  simp[c,b,Td]
 ·have c': ¬ (s.it.length:Int)=1:=by omega
  simp only[c,c',Ze,aB,Zf]
  rfl
mutual
def B7:Val->Sch->Val
 | ⟨k,n,s,l,f⟩,sc=>
  if k=sc.k then
   if k=4 then(if sc.it.length=1 then⟨4,0,Ar,Z6 l (sc.it.headD Bw),[]⟩else⟨k,n,s,l,f⟩)
   else if k=5 then⟨5,0,Ar,[],Aax f sc⟩
   else⟨k,n,s,l,f⟩
  else⟨k,n,s,l,f⟩
def Z6:List Val->Sch->List Val
 | [],_=> []
 | v::vs,t=>B7 v t::Z6 vs t
def Aax:List (ByteArray × Val)->Sch->List (ByteArray × Val)
 | [],_=> []
 | (nm,v)::fs,sc=>(if v.k=0 then[]else match Gh sc nm with | some t=> [(nm,B7 v t)] | none=> [])++Aax fs sc
end
theorem Agg (l:List Val)(t:Sch):Z6 l t=l.map λv=>B7 v t:=by
 induction l with
 | nil=>rfl
 | cons v l a=>simp[Z6,a]
def Eo (sc:Sch)(p:ByteArray × Val):List (ByteArray × Val):=if p.2.k=0 then[]else match Gh sc p.1 with | some t=> [(p.1,B7 p.2 t)] | none=> []
theorem Ah3 (l:List (ByteArray × Val))(sc:Sch):Aax l sc=l.flatMap (Eo sc):=by
 induction l with
 | nil=>rfl
 | cons p l a=>obtain⟨nm,v⟩:=p;simp only[Aax,a,aS];rfl
theorem Ov {sc:Sch}{p q:ByteArray × Val}(h:q∈Eo sc p):q.1=p.1:=by
 unfold Eo at h
 split at h
 ·simp at h
 ·split at h<;>simp at h
  subst h;rfl
theorem My (v:Val)(sc:Sch):B7 v sc=
  if v.k=sc.k then
   if v.k=4 then(if sc.it.length=1 then⟨4,0,Ar,v.l.map λx=>B7 x (sc.it.headD Bw),[]⟩else v)
   else if v.k=5 then⟨5,0,Ar,[],v.f.flatMap (Eo sc)⟩
   else v
  else v:=by
 cases v with
 | mk k n s l f=>rw[<-Agg,<-Ah3];simp only[B7,Val.Bc5,dP,dY];rfl
theorem Ps (g:ByteArray × Val->List (ByteArray × Val))(c: ∀p q,q∈g p->q.1=p.1)(e: ∀p,(g p).length <=1): ∀l:List (ByteArray × Val),Hg l->Hg (l.flatMap g)
 | [],_=>cD
 | p::l,h=>by
  have i:=bV.1 h
  rw[aS]
  refine List.pairwise_append.2 ⟨?_,Ps g c e l i.2,?_⟩
  ·have:=e p
   match o:g p,this with
   | [],_=>exact cD
   | [a],_=>exact dM _ _
   | _::_::_,h=>simp at h
  ·intro a j b d
   obtain⟨q,m,d⟩:=cQ.1 d
   rw[c _ _ j,c _ _ d]
   exact i.1 q m
theorem K3 (sc:Sch)(p:ByteArray × Val):(Eo sc p).length <=1:=by
 unfold Eo
 split
 ·simp
 ·split<;>simp
theorem Pf: ∀ (v:Val) (sc:Sch),(B7 v sc).Aw <=v.Aw:=by
 refine dQ λv a b sc=>?_
 have e: ∀ (t:Sch) (l:List Val),(∀x∈l,∀sc,(B7 x sc).Aw <=x.Aw)->Eg (l.map λx=>B7 x t)<=Eg l:=by
  intro t l
  induction l with
  | nil=>intro _;simp[Hh]
  | cons x l c=>
   intro h
   have g:=h x (by simp) t
   have i:=c λy d=>h y (by simp[d])
   rw[aM,Jq,Jq];omega
 have j: ∀ (l:List (ByteArray × Val)),(∀p∈l,∀sc,(B7 p.2 sc).Aw <=p.2.Aw)->Dl (l.flatMap (Eo sc))<=Dl l:=by
  intro l
  induction l with
  | nil=>intro _;simp[C5]
  | cons p l c=>
   intro h
   have i:=c λy d=>h y (by simp[d])
   rw[aS,Ld,C6]
   have:Dl (Eo sc p)<=1+p.1.size+p.2.Aw:=by
    unfold Eo
    split
    ·rw[C5];omega
    ·split
     ·next t _=>have g:=h p (by simp) t;rw[C6,C5];simp only;omega
     ·rw[C5];omega
   omega
 rw[My]
 split
 ·split
  ·split
   ·have:=e (sc.it.headD Bw) v.l a
    rw[Val.Cf,v.Cf]
    simp only[fO,dP,dY,C5,show Ar.size=0 from rfl];omega
   ·exact aV _
  ·split
   ·have:=j v.f b
    rw[Val.Cf,v.Cf]
    simp only[fO,dP,dY,Hh,show Ar.size=0 from rfl];omega
   ·exact aV _
 ·exact aV _
theorem Ah4 (v:Val)(a:Kf 1073741824 v):W F93 0 [v.enc]=some [v.enc]:=by
 rw[A6d]
 have h:=V7 [v] (by simp) (by simpa using a)
 simp only[aM,aL]at h
 simp only[cL,aA,h,eV,fU,dP,aM,aL]
 rfl
theorem Amv (l:List Val)(b:Eg l<=4294967200):W F94 0 [.list (l.map bI)]=some (Val.Hi ⟨4,0,Ar,l,[]⟩):=
 V7 l (by have:=Li l;omega) λx a=>Hl x (by
  have:x.Aw<=Eg l:=Et (List.mem_map_of_mem a)
  omega)
theorem An4 (v:Val)(a:v.Aw<=4294967100):W F93 0 [v.enc]=some [v.enc]:=Ah4 v (Hl v (by omega))
end Go.CT.Sch.D
namespace Go.CT.Sch.D
open Go.Proofs
theorem Ags (sc:Sch)(p:ByteArray × Val):Dl (Eo sc p)<=1+p.1.size+p.2.Aw:=by
 unfold Eo
 split
 ·rw[C5];omega
 ·split
  ·next t _=>have a:=Pf p.2 t;rw[C6,C5];simp only;omega
  ·rw[C5];omega
theorem Ahd {l:List (ByteArray × Val)}{i:Nat}(h:i<l.length):Dl (l.drop i)=(1+l[i].1.size +l[i].2.Aw)+Dl (l.drop (i+1)):=by
 rw[aC h,C6]
theorem Ahb {l:List Val}{i:Nat}(h:i<l.length):Eg (l.drop i)=l[i].Aw +Eg (l.drop (i+1)):=by
 rw[aC h,Jq]
theorem S3 (sc:Sch)(v:Val)(g:sc.Aw<=1099511627776)(x:v.Aw<=4294967000)(j m o:IV)(q: ∀p∈v.f,∀t,Gh sc p.1=some t->W F92 0 [t.enc,p.2.enc]=some [(B7 p.2 t).enc]):
  ∀ (n i:Nat) (acc:List (ByteArray × Val)),i+n=v.f.length->acc.length<=i->Dl acc+Dl (v.f.drop i)<=4294967000->
  W F92 1 [.list (v.f.map bC),.int v.f.length,.int i,sc.enc,j,m,o,.list (acc.map bC)]=some [(Azh (acc++(v.f.drop i).flatMap (Eo sc))).enc]
 | 0,i,acc,h,y,r=>by
  rw[Asq]
  have u: ¬ i<v.f.length:=by omega
  have b:=Atd acc (by omega)
  simp only[dD,Aj,u,Ze,aA,aO,aB,Zf,b,eV,fU,cT,fI,aR (cG u),bR,aN]
 | n+1,i,acc,h,y,r=>by
  have c:i<v.f.length:=by omega
  have hlen:=v.A7
  have z:=A8 (i:=i) (by omega)
  have hp:=Ags sc v.f[i]
  have A:=K3 sc v.f[i]
  rw[Ahd c]at r
  have next:=S3 sc v g x j m o q n (i+1) (acc++Eo sc v.f[i]) (by omega) (by rw[aP];omega) (by rw[Ld];omega)
  have e:(acc.length+1) * 96<=A4:=Si (by omega) (by omega)
  rw[aY]at next
  rw[Asq,aC c,aS,<-next]
  simp only[dD,Aj,c,Zd,aA,aO,Zt,eK,aW,aT,aZ,aI c,aQ,eU,Fld.C7,eF,A1p sc _ g,Td,eR,dE,A62,dZ,z]
  unfold Eo
  cases d:Gh sc v.f[i].1 with
  | none=>simp only[eH,aO,aB,Zf,aA,ite_self,aN]
  | some t=>
   have a:=q _ (aE c) t d
   by_cases w:v.f[i].2.k =0
   ·simp only[bU,aO,Zt,aA,w,Zd,aH,aB,Zf,aN]
   ·simp only[bU,aO,Zt,aA,w,Ze,aX,Zf,bG,a,bD,cR,eP,eQ,bZ,cK,cT,Fld.E6,cL,O.Bf,aG,bB,e,cI,aM,aL]
theorem Sq (sc t:Sch)(v:Val)(u:v.Aw<=4294967000)(e g j:IV)(m:sc.it= [t])(o: ∀x∈v.l,W F92 0 [t.enc,x.enc]=some [(B7 x t).enc]):
  ∀ (n i:Nat) (acc:List Val),i+n=v.l.length->acc.length<=i->Eg acc+Eg (v.l.drop i)<=4294967000->
  W F95 1 [.list (v.l.map bI),.int v.l.length,.int i,sc.enc,e,g,j,.list (acc.map bI)]=some [(Val.mk 4 0 Ar (acc++(v.l.drop i).map λx=>B7 x t) []).enc]
 | 0,i,acc,h,w,q=>by
  rw[Aqi]
  have r: ¬ i<v.l.length:=by omega
  have b:=Amv acc (by omega)
  simp only[dD,Aj,r,Ze,aA,aO,aB,Zf,b,eV,fU,cT,fI,aR (cG r),aL,aN]
 | n+1,i,acc,h,w,q=>by
  have c:i<v.l.length:=by omega
  have hlen:=v.B8
  have y:=A8 (i:=i) (by omega)
  have hp:=Pf v.l[i] t
  rw[Ahb c]at q
  have next:=Sq sc t v u e g j m o n (i+1) (acc++ [B7 v.l[i] t]) (by omega) (by rw[aP];simp;omega) (by rw[Aak,Jq,Hh];omega)
  have d:(acc.length+1) * 80<=A4:=Si (by omega) (by omega)
  have a:=o _ (aE c)
  rw[aY,bF]at next
  rw[Aqi,aC c,aM,<-next]
  simp only[dD,Aj,c,Zd,aA,aO,Zt,eK,aW,aT,aZ,aI c,aQ,cZ,m,aM,aL,dH,cU,bQ,a,bD,cL,O.Bf,aG,bB,d,cI,dZ,y]
theorem A4m (sc:Sch)(l:List (ByteArray × Val))(h:Hg l):Xh (l.flatMap (Eo sc))=l.flatMap (Eo sc):=
 Asx (Ps _ (λ_ _ h=>Ov h) (K3 sc) l h)
theorem Ao0: ∀v:Val,VOk v->v.Aw<=4294967000-> ∀sc:Sch,SOk sc->sc.Aw<=1099511627776->W F92 0 [sc.enc,v.enc]=some [(B7 v sc).enc]:=by
 refine dQ λv d e g o sc h i=>?_
 have b:=An4 v (by omega)
 rw[A74,My]
 simp only[cR,dN,aA,dE,bJ,aO]
 by_cases q:v.k=sc.k
 ·simp only[q,Zd,aH,aB,Zf,aA,Zt]
  by_cases r:sc.k=5
  ·have y:v.k=5:=by omega
   have u:=S3 sc v i o (.int 0) (.int 0) (.str ⟨#[]⟩) (λp hp t a=>e p hp (g.Oh hp) (by have:=fC hp;omega) t (h.sub a) (by have:=Jg a;omega)) v.f.length 0 [] (by omega) (by simp) (by rw[C5,aF];have:=v.Cf;omega)
   simp only[aF,aD,aL,aU]at u
   simp[r,u,Azh,A4m sc _ g.strict]
  ·by_cases j:sc.k=4
   ·have z:v.k=4:=by omega
    obtain⟨t,a⟩:=bK.1 (h.list j)
    have c:t∈sc.it:=by rw[a];simp
    have w:=Sq sc t v o (.int 0) (.int 0) (.str ⟨#[]⟩) a (λx m=>d x m (g.W5 m) (by have:=dK m;omega) t (h.Jz c) (by have:=eE c;omega)) v.l.length 0 [] (by omega) (by simp) (by rw[Hh,aF];have:=v.Cf;omega)
    simp only[aF,aD,aL,aU]at w
    have A:W F95 0 [sc.enc,v.enc]=some [(Val.mk 4 0 Ar (v.l.map λx=>B7 x t) []).enc]:=by
     rw[A7x]
     simp[a,w]
    simp[j,A,a]
   ·simp[j,r,b]
 ·simp[q,b]
end Go.CT.Sch.D
namespace Go.CT.Sch.D
open Go.Proofs
theorem At5 {s:Sch}(h:SB s)(nm:ByteArray):Gh s nm=Sch.Gh s nm:=by
 unfold Gh Sch.Gh
 have a:=h.one
 match b:s.it,a with
 | [],_=>simp
 | [t],_=>simp
theorem Azu: ∀ (v:Val) (s:Sch),SB s->Iw v s []= []->Acr s v:=by
 refine dQ λv c d s b h=>?_
 have e:=W1 h
 by_cases g:v.k=4
 ·obtain⟨t,a⟩:=bK.1 (b.list (by omega))
  have m:=(Aqz h g).2
  rw[a,List.headD_cons]at m
  exact .list s v t e g a λx o=>c x o t (b.Jz (by rw[a];simp)) (Ae7 m x o)
 ·by_cases i:v.k=5
  ·have q:=(Axk h i).1
   refine .map s v e i (λp hp=>?_) (λp hp j t a=>?_)
   ·obtain⟨t,a⟩:=Aob (q p hp [])
    rw[At5 b,a];rfl
   ·rw[At5 b]at a
    exact d p hp t (b.sub a) (R3 (Awn (q p hp []) j a) [])
  ·exact .leaf s v e g i
theorem Akx {g:Sch->Bool} : ∀ (l:List SFld) (o:Option ByteArray),fOk g o l=true->l.Pairwise (λa b=>blt a.nm b.nm=true)/\ ∀q,o=some q-> ∀p∈l,blt q p.nm=true
 | [],o,_=>⟨cD,λq _ p hp=>by simp at hp⟩
 | x::l,o,h=>by
  simp only[fOk,aK]at h
  obtain⟨e,i⟩:=Akx l (some x.nm) h.2
  have d:=i x.nm rfl
  refine⟨bV.2 ⟨d,e⟩,λq j p hp=>?_⟩
  have c:=h.1.1.1.1.2
  subst j
  simp only[Ih]at c
  rcases bE.1 hp with rfl | hp
  ·exact c
  ·exact Gc c (d p hp)
theorem Rh: ∀ (d:Nat) (s:Sch),B9 d s=true->SOk s
 | 0,s,h=>by simp[B9]at h
 | d+1,s,h=>by
  have c:=Gd (d+1) s h
  have e: ∀p∈s.f,SOk p.s/\p.df.length<=1/\ ∀x∈p.df,VOk x/\x.k≠0/\Acr p.s x:=by
   intro p hp
   obtain⟨_,_,j,o,g⟩:=Abe h hp
   refine⟨Rh d p.s j,o,λx q=>?_⟩
   unfold A8w at g
   simp only[bN,aK,cV,decide_eq_false_iff_not,decide_eq_true_eq]at g
   obtain⟨⟨r,u⟩,w⟩:=g x q
   exact⟨Ac1 u,r,Azu x p.s (Gd d p.s j) (bX.1 w)⟩
  have i:s.f.Pairwise (λa b=>blt a.nm b.nm=true):=by
   by_cases m:s.f= []
   ·rw[m];exact cD
   ·obtain⟨p,hp⟩:=List.exists_mem_of_ne_nil _ m
    have y:=(Abe h hp).1
    rw[B9,if_neg (by omega),if_neg (by omega),if_neg (by omega),if_neg (by omega),if_pos y]at h
    simp only[aK]at h
    exact(Akx s.f none h.2).1
  exact .mk s c.one c.nof c.list i (λt z=>Rh d t (Aum h z)) (λp hp=>(e p hp).1) (λp hp=>(e p hp).2.1) (λp hp=>(e p hp).2.2)
theorem Q6: ∀l:List (ByteArray × Val),Hg l->rising l=true
 | [],_=>rfl
 | [_],_=>rfl
 | p::q::r,h=>by
  have a:=bV.1 h
  simp only[rising,aK]
  exact⟨a.1 q (by simp),Q6 (q::r) a.2⟩
theorem Ai9 (g:ByteArray × Val->List (ByteArray × Val))(a: ∀p,(g p).length <=1): ∀l:List (ByteArray × Val),(l.flatMap g).length <=l.length
 | []=>by simp
 | p::l=>by
  have:=a p
  have:=Ai9 g a l
  simp only[aS,aP,bT];omega
theorem Mv: ∀ (d:Nat) (v:Val) (s:Sch),Bu d v=true->Bu d (B7 v s)=true
 | 0,v,s,h=>by simp[Bu]at h
 | d+1,v,s,h=>by
  have h':=(Dn d v).1 h
  have e:=Ajk _ _ h
  rw[My]
  split
  ·split
   ·split
    ·rename_i m _
     rw[Dn]
     refine⟨rfl,⟨by show(v.l.map _).length <=64;rw[aG];exact h'.2.1.1,by show(0:Nat)<=64;omega,λc=>absurd rfl c,λ_=>rfl⟩,λx b=>?_,λp hp=>by simp at hp,rfl⟩
     simp only[dP,bO]at b
     obtain⟨y,g,rfl⟩:=b
     exact Mv d y _ (h'.2.2.1 y g)
    ·exact h
   ·split
    ·rw[Dn]
     refine⟨rfl,⟨by show(0:Nat)<=64;omega,?_,λ_=>rfl,λc=>absurd rfl c⟩,λx b=>by simp at b,λp hp=>?_,?_⟩
     ·have:=Ai9 (Eo s) (K3 s) v.f
      show(v.f.flatMap (Eo s)).length <=64
      have:=h'.2.1.2.1
      omega
     ·simp only[dY,cQ]at hp
      obtain⟨q,i,hp⟩:=hp
      have j:=Ov hp
      have a:=h'.2.2.2.1 q i
      rw[j]
      refine⟨a.1,?_⟩
      unfold Eo at hp
      split at hp
      ·simp at hp
      ·split at hp
       ·simp only[bW]at hp
        subst hp
        exact Mv d q.2 _ a.2
       ·simp at hp
     ·exact Q6 _ (Ps (Eo s) (λp q h=>Ov h) (K3 s) v.f e.strict)
    ·exact h
  ·exact h
theorem Aop: ∀ (v:Val) (s:Sch),(B7 v s).size <=v.size:=by
 refine dQ λv a b s=>?_
 have e: ∀ (t:Sch) (l:List Val),(∀x∈l,∀s,(B7 x s).size <=x.size)->Cd (l.map λx=>B7 x t)<=Cd l:=by
  intro t l
  induction l with
  | nil=>intro _;simp[Cd]
  | cons x l c=>
   intro h
   have g:=h x (by simp) t
   have i:=c λy d=>h y (by simp[d])
   simp only[aM,Cd];omega
 have j: ∀ (l:List (ByteArray × Val)),(∀p∈l,∀s,(B7 p.2 s).size <=p.2.size)->Br (l.flatMap (Eo s))<=Br l:=by
  intro l
  induction l with
  | nil=>intro _;simp[Br]
  | cons p l c=>
   intro h
   have i:=c λy d=>h y (by simp[d])
   have m:Br (Eo s p)<=p.2.size:=by
    unfold Eo
    split
    ·simp[Br]
    ·split
     ·next t _=>have g:=h p (by simp) t;simp only[Br];omega
     ·simp[Br]
   rw[aS,Le]
   simp only[Br];omega
 rw[My]
 split
 ·split
  ·split
   ·have:=e (s.it.headD Bw) v.l a
    rw[fL,v.size_eq]
    simp only[dP,dY,Br];omega
   ·exact aV _
  ·split
   ·have:=j v.f b
    rw[fL,v.size_eq]
    simp only[dP,dY,Cd];omega
   ·exact aV _
 ·exact aV _
theorem Aht {v:Val}(s:Sch)(h:v.valid=true):(B7 v s).valid =true:=by
 rw[Hv]at h ⊢
 have:=Aop v s
 exact⟨Mv 12 v s h.1,by omega⟩
end Go.CT.Sch.D
namespace Go.CT.Sch
open Go.Proofs
def Gw:List ByteArray->Bool
 | []=>true
 | [_]=>true
 | a::b::l=>blt a b&&Gw (b::l)
theorem prv {i:Nat}(h:i<4611686018427387904):O.sub .i64 (.int ((i+1:Nat):Int)) (.int 1)=some (.int (i:Nat)):=by
 rw[O.Ch,wrap64 (by omega) (by omega)]
 congr 2
 omega
theorem All (l:List ByteArray)(d:l.length<=1099511627776): ∀ (n i:Nat),i+1+n=l.length->W F85 1 [.list (l.map .str),.int ((i+1:Nat):Int)]=some [.bool (Gw (l.drop i))]
 | 0,i,h=>by
  have a:i<l.length:=by omega
  have hd:l.drop i= [l[i]]:=by
   rw[aC a,cW (by omega)]
  have e:i+1=l.length:=by omega
  rw[Ahq,Gg,hd]
  simp only[aA,e,ltn,aO,aB,Zf]
  rfl
 | n+1,i,h=>by
  have a:i<l.length:=by omega
  have b:i+1<l.length:=by omega
  have hd:l.drop i=l[i]::l[i+1]::l.drop (i+1+1):=by
   rw[aC a,aC b]
  have c:=All l d n (i+1) (by omega)
  rw[aC b]at c
  rw[Ahq,Gg,hd]
  simp only[aA,lti b,aO,Zt,prv (i:=i) (by omega),Jt _ a,Jt _ b,Py,nxt (i:=i+1) (by omega),c,Gw]
  cases blt l[i] l[i+1]<;>simp
theorem A2k (l:List ByteArray)(b:l.length<=1099511627776):W F85 0 [.list (l.map .str)]=some [.bool (Gw l)]:=by
 rw[A60]
 match l,b with
 | [],_=>rw[Ahq];rfl
 | a::l,b=>
  have:=All (a::l) b l.length 0 (by simp[Nat.add_comm])
  simp only[cP,aF]at this
  exact this
def Jw (s:ByteArray):Bool:=decide (1<=s.size)&&decide (s.size<=40)
theorem Ap0 (s:ByteArray):W F84 0 [.str s]=some [.bool (Jw s)]:=by
 rw[A34]
 have a:O.ge (.int (s.size:Int)) (.int 1)=some (.bool (decide (1<=s.size))):=by rw[O.Gf];congr 2;exact decide_eq_decide.2 (by omega)
 have b:O.le (.int (s.size:Int)) (.int 40)=some (.bool (decide (s.size<=40))):=by rw[O.Ed];congr 2;exact decide_eq_decide.2 (by omega)
 simp only[fT,aA,a,aO,b,Jw]
 cases decide (1<=s.size)<;>simp
theorem A3l (s:ByteArray):W Bbx 0 [.str s]=some [.bool (Jw s)]:=by
 rw[A1q]
 have a:O.ge (.int (s.size:Int)) (.int 1)=some (.bool (decide (1<=s.size))):=by rw[O.Gf];congr 2;exact decide_eq_decide.2 (by omega)
 have b:O.le (.int (s.size:Int)) (.int 40)=some (.bool (decide (s.size<=40))):=by rw[O.Ed];congr 2;exact decide_eq_decide.2 (by omega)
 simp only[fT,aA,a,aO,b,Jw]
 cases decide (1<=s.size)<;>simp
end Go.CT.Sch
namespace Go.CT.Sch
open Go.Proofs
def okM (m:Mgr):Bool:=Jw m.name&& !decide (m.paths.length=0)&&Gw m.paths
def Ui (l:List Mgr):Bool:=l.all okM&&(decide (l.length<=16)&&Gw (l.map Mgr.name))
theorem Ajh (m:Mgr):dA 0 m.enc=some (.str m.name):=rfl
theorem Aky (m:Mgr):dA 1 m.enc=some (.list (m.paths.map .str)):=rfl
theorem eq0 (n:Nat):O.eq (.int (n:Int)) (.int 0)=some (.bool (decide (n=0))):=by rw[bJ];congr 2;exact decide_eq_decide.2 (by omega)
theorem Ajz (l:List Mgr)(d:l.length<=1048576)(hp: ∀m∈l,m.paths.length<=1099511627776): ∀ (n i:Nat) (acc:List ByteArray),i+n=l.length->acc.length=i->
  W F83 1 [.list (l.map Mgr.enc),.list (l.map Mgr.enc),.int (l.length:Nat),.int (i:Nat),.list (acc.map .str)]=some [.bool ((l.drop i).all okM&&(decide (l.length<=16)&&Gw (acc++(l.drop i).map Mgr.name)))]
 | 0,i,acc,h,c=>by
  have a:i=l.length:=by omega
  subst a
  have e:O.le (.int (l.length:Int)) (.int 16)=some (.bool (decide (l.length<=16))):=by rw[O.Ed];congr 2;exact decide_eq_decide.2 (by omega)
  rw[Apu]
  simp only[ltn,aA,aO,aB,Zf,Gg,e,A2k acc (by omega),bD,aJ,cH,bM,aL,aN]
  cases decide (l.length<=16)<;>simp
 | n+1,i,acc,h,c=>by
  have a:i<l.length:=by omega
  have g:=Ajz l d hp n (i+1) (acc++ [l[i].name]) (by omega) (by simp[c])
  have ap:=apm IV.str (n:=16) acc l[i].name (by omega)
  have b:=hp _ (aE a)
  rw[Apu,aC a]
  simp only[lti a,aA,aO,Zt,Jt _ a,Ajh,Aky,Ap0,bD,cO,Gg,eq0,A2k _ b,cL,ap,nxt (i:=i) (by omega),g,cF,okM,aM,aY,bF]
  cases Jw l[i].name<;>cases decide (l[i].paths.length =0)<;>cases Gw l[i].paths<;>simp
theorem A3f (l:List Mgr)(a:l.length<=1048576)(hp: ∀m∈l,m.paths.length<=1099511627776):W F83 0 [.list (l.map Mgr.enc)]=some [.bool (Ui l)]:=by
 have:=Ajz l a hp l.length 0 [] (by omega) rfl
 simp only[aD,aF,aU,aL]at this
 rw[A8e,Gg]
 exact this
theorem A23 (l:List Mgr)(i:Nat)(c:i<l.length)(g:l.length<=1048576)(hp:l[i].paths.length <=1099511627776): ∀ (n j:Nat),j+1+n=l[i].paths.length ->
  W Ans 2 [.list (l.map Mgr.enc),.int (i:Nat),.int ((j+1:Nat):Int)]=if Gw (l[i].paths.drop j) then W Ans 1 [.list (l.map Mgr.enc),.int ((i+1:Nat):Int)]else some [.bool false]
 | 0,j,h=>by
  have a:j<l[i].paths.length :=by omega
  have hd:l[i].paths.drop j= [l[i].paths[j]]:=by
   rw[aC a,cW (by omega)]
  have m:j+1=l[i].paths.length :=by omega
  rw[Aiy,hd]
  simp only[Jt _ c,aA,Aky,Gg,m,ltn,aO,aB,Zf,nxt (i:=i) (by omega),Gw,Zt]
 | n+1,j,h=>by
  have a:j<l[i].paths.length :=by omega
  have b:j+1<l[i].paths.length :=by omega
  have hd:l[i].paths.drop j=l[i].paths[j]::l[i].paths[j+1]::l[i].paths.drop (j+1+1):=by
   rw[aC a,aC b]
  have d:=A23 l i c g hp n (j+1) (by omega)
  rw[aC b]at d
  rw[Aiy,hd]
  simp only[Jt _ c,aA,Aky,Gg,lti b,aO,Zt,prv (i:=j) (by omega),Jt _ a,Jt _ b,Py,nxt (i:=j+1) (by omega),d,Gw]
  by_cases e:blt l[i].paths[j] l[i].paths[j+1]=true
  ·simp[e,Gw]
  ·simp[e]
theorem A3g (l:List Mgr)(j:l.length<=1048576)(hp: ∀m∈l,m.paths.length<=1099511627776): ∀ (n i:Nat),i+n=l.length->
  W Ans 1 [.list (l.map Mgr.enc),.int (i:Nat)]=some [.bool ((l.drop i).all okM&&Gw ((l.drop (i - 1)).map Mgr.name))]
 | 0,i,h=>by
  have b:i=l.length:=by omega
  subst b
  have q:Gw ((l.drop (l.length - 1)).map Mgr.name)=true:=by
   by_cases a:l.length=0
   ·rw[bX.1 a];rfl
   ·rw[aC (by omega),cW (by omega)];rfl
  rw[Akv]
  simp only[Gg,ltn,aA,aO,aB,Zf,q,aJ,cH,bM]
 | n+1,i,h=>by
  have b:i<l.length:=by omega
  have r:=A3g l j hp n (i+1) (by omega)
  have c:=hp _ (aE b)
  have d:l[i].paths.length ≠0->W Ans 2 [.list (l.map Mgr.enc),.int (i:Nat),.int 1]=if Gw l[i].paths then some [.bool ((l.drop (i+1)).all okM&&Gw ((l.drop i).map Mgr.name))]else some [.bool false]:=by
   intro a
   have:=A23 l i b j c (l[i].paths.length - 1) 0 (by omega)
   rw[r]at this
   simpa only[cP,eI,aF,aD]using this
  rw[Akv,aC b]
  simp only[Gg,lti b,aA,aO,Zt,Jt _ b,Ajh,Aky,A3l,bD,cO,eq0,cF,okM]
  cases i with
  | zero=>
   have g:dS (.int ((0:Nat):Int)) (.int 0)=some (.bool false):=rfl
   simp only[g,aA,aO,aB,Zf]
   rw[show l.drop (0 - 1)=l.drop 0 from rfl]
   cases Jw l[0].name
   ·simp
   ·by_cases a:l[0].paths.length =0
    ·simp[a]
    ·simp only[a,Ze,d a]
     cases Gw l[0].paths<;>simp
  | succ k=>
   have o:k<l.length:=by omega
   have g:dS (.int ((k+1:Nat):Int)) (.int 0)=some (.bool true):=by rw[eW];congr 2;exact decide_eq_true (by omega)
   have hd:(l.drop (k+1 - 1)).map Mgr.name=l[k].name ::(l.drop (k+1)).map Mgr.name:=by
    rw[eI,aC o,aM]
   have e:(l.drop (k+1)).map Mgr.name=l[k+1].name ::(l.drop (k+1+1)).map Mgr.name:=by
    rw[aC b,aM]
   simp only[g,aA,aO,Zt,prv (i:=k) (by omega),Jt _ o,Ajh,Py,hd]
   rw[e]at d ⊢
   simp only[Gw]
   cases Jw l[k+1].name
   ·simp
   ·cases blt l[k].name l[k+1].name
    ·simp
    ·by_cases a:l[k+1].paths.length =0
     ·simp[a]
     ·simp only[a,Ze,d a]
      cases Gw l[k+1].paths<;>simp
theorem Bcu (l:List Mgr)(a:l.length<=1048576)(hp: ∀m∈l,m.paths.length<=1099511627776):W Ans 0 [.list (l.map Mgr.enc)]=some [.bool (Ui l)]:=by
 have:=A3g l a hp l.length 0 (by omega)
 simp only[aD,aF,Nat.zero_sub]at this
 have g:dS (.int (l.length:Int)) (.int 16)=some (.bool (!decide (l.length<=16))):=by
  rw[eW];congr 2
  by_cases h:l.length<=16
  ·simp only[h,Zd,aH];exact decide_eq_false (by omega)
  ·simp only[h,Ze,aX];exact decide_eq_true (by omega)
 rw[Ayf,Gg]
 simp only[aA,g,aO,this,Ui]
 cases decide (l.length<=16)<;>simp
end Go.CT.Sch
namespace Go.CT.Sch
open Go.Proofs
theorem A9f (s:Sch)(v:Val)(a:v.Aw<=1048576):W F89 0 [s.enc,v.enc]=some [.str (Ir v s.key),.bool (isKey v s.key)]:=by
 rw[A4l]
 unfold Ir isKey
 simp only[dV,Aeq v s.key (by omega),Iv,I8,aO,bJ,aA,Az,Am]
 cases(v.get s.key).isSome<;>simp
def Yn (s:Sch):Bool:=decide (s.k=4)&& !decide (s.key=Ar)
theorem Ayj (s:Sch):W F90 0 [s.enc]=some [.bool (Yn s)]:=by
 rw[A4b]
 simp only[dN,dV,aA,bJ,fG,aO,Az,Am,Yn]
 by_cases h:s.k=4<;>simp[h,Ar]
 all_goals rfl
theorem Yi (s:Sch)(nm:ByteArray)(g:s.Aw<=1048576)(a b c d:IV): ∀ (n i:Nat),i+n=s.f.length->
  W F91 1 [.str nm,.list (s.f.map cN),.int (s.f.length:Nat),.int (i:Nat),a,b,c,d]=some [oE (((s.f.drop i).find? λp=>decide (p.nm=nm)).map (·.s)),.bool ((s.f.drop i).find? λp=>decide (p.nm=nm)).isSome]
 | 0,i,h=>by
  have e:i=s.f.length:=by omega
  subst e
  rw[Auv,aJ]
  simp only[ltn,aA,aO,aB,Zf]
  rfl
 | n+1,i,h=>by
  have e:i<s.f.length:=by omega
  have m:s.f.length<=1048576:=by have:=s.A7;omega
  have j:=Yi s nm g a b c d n (i+1) (by omega)
  rw[Auv,aC e,bP]
  simp only[lti e,aA,aO,Zt,Jt cN e,fB,eY,eL,nxt (show i<4611686018427387904 by omega),j]
  by_cases c:s.f[i].nm =nm
  ·simp[c,oE]
  ·have c':decide (s.f[i].nm =nm)=false:=by simpa using c
   simp only[c',aB,Zf]
theorem Ay4 (s:Sch)(nm:ByteArray)(d:s.Aw<=1048576)(a:SB s):W F91 0 [s.enc,.str nm]=some [oE (Gh s nm),.bool (Gh s nm).isSome]:=by
 have b:=a.one
 have:=Yi s nm d (.int 0) (.int 0) (.int 0) (.str ⟨#[]⟩) s.f.length 0 (by omega)
 simp only[aF,aD]at this
 rw[A54]
 simp only[cZ,dO,aA,Gg,bJ,aO]
 unfold Gh
 cases c:s.it with
 | nil=>
  have e:decide (((([]:List Sch).length :Nat):Int)=1)=false:=by decide
  simp only[e,aB,Zf,eM]
  exact this
 | cons t ts=>
  have g:ts= []:=by rw[c]at b;simp at b;exact b
  subst g
  simp[oE]
end Go.CT.Sch
namespace Go.CT.Sch
open Go.Proofs
theorem As1 {s t:Sch}{nm:ByteArray}(h:Gh s nm=some t):t.Aw<s.Aw:=by
 rcases Oa h with h | ⟨p,hp,_,rfl⟩
 ·exact eE h
 ·have:=Sch.Dq hp;omega
def Arm (s:Sch)(x:Val):Bool:= !Yn s||isKey x s.key
def kyB:Nat->Sch->Val->Bool
 | 0,_,_=>true
 | d+1,s,v=>if s.k=v.k then(v.l.all λx=>Arm s x&&((s.it.head?).map λt=>kyB d t x).getD true)&&(v.f.all λp=>((Gh s p.1).map λt=>kyB d t p.2).getD true) else true
def KyP (d:Nat):Prop:= ∀ (v:Val) (s:Sch),v.size<=d->v.Aw<=1048576->s.Aw<=1048576->SB s->W F88 0 [s.enc,v.enc]=some [.bool (kyB d s v)]
theorem Auz (d:Nat)(e:KyP d)(v:Val)(s:Sch)(hd:v.size<=d+1)(m:v.Aw<=1048576)(g:s.Aw<=1048576)(c:SB s): ∀ (n i:Nat),i+n=v.f.length->
  W F88 2 [.list (v.f.map bC),.int (v.f.length:Nat),.int (i:Nat),s.enc]=some [.bool ((v.f.drop i).all λp=>((Gh s p.1).map λt=>kyB d t p.2).getD true)]
 | 0,i,h=>by
  have:i=v.f.length:=by omega
  subst this
  rw[Arf,aJ]
  simp only[ltn,aA,aO,aB,Zf,cH]
 | n+1,i,h=>by
  have b:i<v.f.length:=by omega
  have o:=v.A7
  have j:=aE b
  have u:=fC j
  have w:=fP j
  have r:=Auz d e v s hd m g c n (i+1) (by omega)
  rw[Arf,aC b,cF]
  simp only[lti b,aA,aO,Zt,Jt bC b,eU,Ay4 s _ g c,eR,eF,nxt (show i<4611686018427387904 by omega),r]
  cases a:Gh s v.f[i].1 with
  | none=>simp
  | some t=>
   have:=As1 a
   have q:=e v.f[i].2 t (by omega) (by omega) (by omega) (c.sub a)
   simp only[bU,Zt,oE,bG,q,bD,cO,aA,aQ,aO]
   cases kyB d t v.f[i].2<;>simp
theorem Ar2 (d:Nat)(e:KyP d)(v:Val)(s:Sch)(hd:v.size<=d+1)(g:v.Aw<=1048576)(j:s.Aw<=1048576)(b:SB s): ∀ (n i:Nat),i+n=v.l.length->
  W F88 1 [.list (v.l.map bI),.int (v.l.length:Nat),.int (i:Nat),s.enc,v.enc]=some [.bool (((v.l.drop i).all λx=>Arm s x&&((s.it.head?).map λt=>kyB d t x).getD true)&&(v.f.all λp=>((Gh s p.1).map λt=>kyB d t p.2).getD true))]
 | 0,i,h=>by
  have:i=v.l.length:=by omega
  subst this
  have q:=Auz d e v s hd g j b v.f.length 0 (by omega)
  simp only[aD,aF]at q
  rw[Asn,aJ]
  simp only[ltn,aA,aO,aB,Zf,cH,cK,Gg,q,bM]
 | n+1,i,h=>by
  have c:i<v.l.length:=by omega
  have y:=v.B8
  have m:=aE c
  have z:=dK m
  have A:=fQ m
  have r:=Ar2 d e v s hd g j b n (i+1) (by omega)
  have one:=b.one
  rw[Asn,aC c,cF]
  simp only[lti c,aA,aO,Zt,Jt bI c,A9f s _ (show v.l[i].Aw <=1048576 by omega),eR,Ayj,bD,cO,cZ,Gg,bJ,nxt (show i<4611686018427387904 by omega),r,Arm]
  cases a:s.it with
  | nil=>
   cases Yn s<;>cases isKey v.l[i] s.key<;>simp
  | cons t ts=>
   have u:ts= []:=by rw[a]at one;simp at one;exact one
   subst u
   have o:t∈s.it:=by rw[a];exact bW.2 rfl
   have:=eE o
   have q:=e v.l[i] t (by omega) (by omega) (by omega) (b.Jz o)
   have ix:cX (.list ([t].map dX)) (.int 0)=some t.enc:=rfl
   have w:decide ((([t].length :Nat):Int)=1)=true:=rfl
   simp only[w,Zt,ix,aA,q,bD,cO,eZ,aQ,bG]
   cases Yn s<;>cases isKey v.l[i] s.key<;>cases kyB d t v.l[i]<;>simp
theorem Bau: ∀d,KyP d
 | 0=>λv _ h=>by have:=v.size_pos;omega
 | d+1=>λv s hd a b c=>by
  have q:=Ar2 d (Bau d) v s hd a b c v.l.length 0 (by omega)
  simp only[aD,aF]at q
  rw[A73]
  simp only[dN,cR,aA,dE,aO,bZ,Gg,q,kyB]
  by_cases h:s.k=v.k<;>simp[h]
end Go.CT.Sch
namespace Go.CT.Sch
open Go.Proofs
inductive VT:Val->Prop
 | mk (v:Val):(v.k≠4->v.l= [])->(v.k≠5->v.f= [])->(∀x∈v.l,VT x)->(∀p∈v.f,VT p.2)->VT v
theorem VT.nol {v:Val}(h:VT v):v.k≠4->v.l= []:=by cases h;assumption
theorem VT.nof {v:Val}(h:VT v):v.k≠5->v.f= []:=by cases h;assumption
theorem VT.W5 {v x:Val}(h:VT v)(a:x∈v.l):VT x:=by cases h with | mk _ c d b e=>exact b x a
theorem VT.Oh {v:Val}{p:ByteArray × Val}(h:VT v)(a:p∈v.f):VT p.2:=by cases h with | mk _ c d e b=>exact b p a
theorem Zc (s:Sch)(nm:ByteArray)(a b c d:IV): ∀ (n i:Nat),i+n=s.f.length->s.Aw<=1048576->
  W A4n 1 [.str nm,.int (i:Nat),s.enc,a,b,c,d]=some [oE (((s.f.drop i).find? λp=>decide (p.nm=nm)).map (·.s))]
 | 0,i,h,g=>by
  have e:i=s.f.length:=by omega
  subst e
  rw[Ak7,aJ]
  simp only[dO,Gg,ltn,aA,aO,aB,Zf]
  rfl
 | n+1,i,h,g=>by
  have e:i<s.f.length:=by omega
  have m:=s.A7
  have j:=Zc s nm a b c d n (i+1) (by omega) g
  rw[Ak7,aC e,bP]
  simp only[dO,Gg,lti e,aA,aO,Zt,Jt cN e,fB,eY,eL,nxt (show i<4611686018427387904 by omega),j]
  by_cases c:s.f[i].nm =nm
  ·simp[c,oE]
  ·have c':decide (s.f[i].nm =nm)=false:=by simpa using c
   simp only[c',aB,Zf]
theorem Ays (s:Sch)(nm:ByteArray)(b:s.Aw<=1048576):W A4n 0 [s.enc,.str nm]=some [oE (Gh s nm)]:=by
 have:=Zc s nm (.int 0) (.int 0) (.int 0) (.str ⟨#[]⟩) s.f.length 0 (by omega) b
 simp only[aF,aD]at this
 rw[A0x]
 simp only[cZ,aA,Gg,eW,aO]
 unfold Gh
 cases c:s.it with
 | nil=>
  have a:decide ((0:Int)<((([]:List Sch).length :Nat):Int))=false:=by decide
  simp only[a,aB,Zf]
  exact this
 | cons t ts=>
  have a:decide ((0:Int)<((((t::ts):List Sch).length :Nat):Int))=true:=decide_eq_true (by simp only[bT];omega)
  simp only[a,Zt]
  rfl
def KyR (d:Nat):Prop:= ∀ (v:Val) (s:Sch),v.size<=d->v.Aw<=1048576->s.Aw<=1048576->SB s->VT v->W Ah6 0 [s.enc,v.enc]=some [.bool (kyB d s v)]
theorem An6 (v:Val)(a:VT v):W Ah6 0 [Bw.enc,v.enc]=some [.bool true]:=by
 rw[Ajn]
 simp only[dN,cR,aA,dE,aO]
 by_cases h:Bw.k=v.k
 ·have d:v.k=0:=h.symm
  have b:=a.nol (by omega)
  have c:=a.nof (by omega)
  simp only[h,Zd,aH,aB,Zf]
  rw[Zz]
  simp only[bZ,b,aA]
  rw[Abh]
  simp only[cK,c]
  rfl
 ·simp[h]
theorem Avg (d:Nat)(e:KyR d)(v:Val)(s:Sch)(hd:v.size<=d+1)(u:v.Aw<=1048576)(g:s.Aw<=1048576)(j:SB s)(m:VT v): ∀ (n i:Nat),i+n=v.f.length->
  W Ah6 2 [.int (i:Nat),s.enc,v.enc]=some [.bool ((v.f.drop i).all λp=>((Gh s p.1).map λt=>kyB d t p.2).getD true)]
 | 0,i,h=>by
  have:i=v.f.length:=by omega
  subst this
  rw[Abh,aJ]
  simp only[cK,Gg,ltn,aA,aO,aB,Zf,cH]
 | n+1,i,h=>by
  have b:i<v.f.length:=by omega
  have w:=v.A7
  have c:=aE b
  have x:=fC c
  have y:=fP c
  have o:=m.Oh c
  have r:=Avg d e v s hd u g j m n (i+1) (by omega)
  rw[Abh,aC b,cF]
  simp only[cK,Gg,lti b,aA,aO,Zt,Jt bC b,eU,Ays s _ g,bD,eF,nxt (show i<4611686018427387904 by omega),r]
  cases a:Gh s v.f[i].1 with
  | none=>
   simp only[oE,Option.getD_none,An6 _ o,bD,cO,aA,aO,fA]
   simp
  | some t=>
   have:=As1 a
   have q:=e v.f[i].2 t (by omega) (by omega) (by omega) (j.sub a) o
   simp only[oE,bG,q,bD,cO,aA,aQ,aO]
   cases kyB d t v.f[i].2<;>simp
theorem Ava (d:Nat)(o:KyR d)(v:Val)(s:Sch)(hd:v.size<=d+1)(w:v.Aw<=1048576)(y:s.Aw<=1048576)(j:SB s)(m:VT v)(z:s.k=v.k): ∀ (n i:Nat),i+n=v.l.length->
  W Ah6 1 [.int (i:Nat),s.enc,v.enc]=some [.bool (((v.l.drop i).all λx=>Arm s x&&((s.it.head?).map λt=>kyB d t x).getD true)&&(v.f.all λp=>((Gh s p.1).map λt=>kyB d t p.2).getD true))]
 | 0,i,h=>by
  have:i=v.l.length:=by omega
  subst this
  have q:=Avg d o v s hd w y j m v.f.length 0 (by omega)
  simp only[aD,aF]at q
  rw[Zz,aJ]
  simp only[bZ,Gg,ltn,aA,aO,aB,Zf,cH,q,bM]
 | n+1,i,h=>by
  have b:i<v.l.length:=by omega
  have E:=v.B8
  have u:=aE b
  have F:=dK u
  have G:=fQ u
  have B:=m.W5 u
  have r:=Ava d o v s hd w y j m z n (i+1) (by omega)
  have A:s.k=4:=by
   rw[z]
   by_cases c:v.k=4
   ·exact c
   ·rw[m.nol c]at b;simp at b
  have one:=j.list A
  obtain⟨t,e⟩: ∃t,s.it= [t]:=bK.1 one
  have g:t∈s.it:=by rw[e];exact bW.2 rfl
  have:=eE g
  have q:=o v.l[i] t (by omega) (by omega) (by omega) (j.Jz g) B
  have ix:cX (.list ([t].map dX)) (.int 0)=some t.enc:=rfl
  rw[Zz,aC b,cF]
  simp only[bZ,Gg,lti b,aA,aO,Zt,Jt bI b,dV,Kl _ _ (show v.l[i].Aw <=1048576 by omega),eR,fG,bD,cO,cZ,e,ix,q,nxt (show i<4611686018427387904 by omega),r,Arm,Yn,A,Ep,Zd,bM,eZ,aQ,bG]
  by_cases a:s.key=Ar
  ·have:s.key=(⟨#[]⟩:ByteArray):=a
   simp only[a,this,Zd]
   have C:Ar=(⟨#[]⟩:ByteArray):=rfl
   cases isKey v.l[i] Ar<;>cases kyB d t v.l[i]<;>simp[C]
  ·have: ¬ s.key=(⟨#[]⟩:ByteArray):=a
   simp only[a,this,Ze]
   cases isKey v.l[i] s.key<;>cases kyB d t v.l[i]<;>simp
theorem Bbd: ∀d,KyR d
 | 0=>λv _ h=>by have:=v.size_pos;omega
 | d+1=>λv s hd a b c e=>by
  rw[Ajn]
  simp only[dN,cR,aA,dE,aO,kyB]
  by_cases h:s.k=v.k
  ·have q:=Ava d (Bbd d) v s hd a b c e h v.l.length 0 (by omega)
   simp only[aD,aF]at q
   simp only[q,h,Zd,aH,aB,Zf,Zt]
  ·simp[h]
theorem Aaq: ∀ (n:Nat) (v:Val),v.size<=n->v.valid=true->VT v
 | 0,v,h,_=>by have:=v.size_pos;omega
 | n+1,v,h,a=>by
  refine .mk v (λb=>Uq a b) (λb=>Qe a b) (λx c=>?_) λp hp=>?_
  ·have:=fQ c
   exact Aaq n x (by omega) (Z8 a c)
  ·have:=fP hp
   exact Aaq n p.2 (by omega) (Mt a hp).1
end Go.CT.Sch
namespace Go.CT.Sch
open Go.Proofs
def Ag3:IV->Bool
 | .agg [_,.int c]=>decide (c=7)
 | _=>false
def Ko (s:Sch)(v:Val):Bool:=s.valid&&(v.valid&&(decide (v.k=5)&&((Iw v s []).all Ag3&&kyB v.size s v)))
theorem idxr {e:List IV}{i:Nat}(h:i<e.length):cX (.list e) (.int i)=some e[i]:=by
 have:=Jt (λx:IV=>x) h
 simpa only[List.map_id']using this
theorem At9 (s:Sch)(v:Val)(e:List IV)(m:e.length<=2199025352704)(d: ∀x∈e,Aru x)(r:Bool)(g:W F88 0 [s.enc,v.enc]=some [.bool r]): ∀ (n i:Nat),i+n=e.length->
  W F86 1 [.int (e.length:Nat),.int (i:Nat),s.enc,v.enc,.list e]=some [.bool ((e.drop i).all Ag3&&(decide (v.k=5)&&r))]
 | 0,i,h=>by
  have:i=e.length:=by omega
  subst this
  rw[Aan,aJ]
  simp only[ltn,aA,aO,aB,Zf,cR,bJ,g,bD,cH,bM]
  cases decide (v.k=5)<;>simp
 | n+1,i,h=>by
  have c:i<e.length:=by omega
  have o:=At9 s v e m d r g n (i+1) (by omega)
  obtain⟨a,b,j⟩:=d _ (aE c)
  have q:dA 1 e[i]=some (.int b):=by rw[j];rfl
  have t:Ag3 e[i]=decide (b=7):=by rw[j];rfl
  rw[Aan,aC c,cF,t]
  simp only[lti c,aA,aO,Zt,idxr c,q,dE,nxt (show i<4611686018427387904 by omega),o]
  cases decide (b=7)<;>simp
theorem Ax2 (s:Sch)(v:Val)(b:s.Aw<=1048576)(c:v.Aw<=1048576):W F86 0 [s.enc,v.enc]=some [.bool (Ko s v)]:=by
 rw[A53,Ayi s v b c]
 simp only[bD,eB,aA]
 unfold chk Ko
 by_cases a:s.valid=true
 ·by_cases d:v.valid=true
  ·have e:SB s:=Gd _ s a
   have g:=Bau v.size v s (aV _) c b e
   have:=At9 s v (Iw v s []) (Acl e b c) (Au3 v s []) _ g (Iw v s []).length 0 (by omega)
   simp only[aD,aF]at this
   simp only[a,d,eC,Zt,this,bM]
   cases decide (v.k=5)<;>cases(Iw v s []).all Ag3<;>simp
  ·simp only[a,d,fF,aB,Zf,dG]
   rw[Aan];rfl
 ·simp only[a,dG,aB,Zf]
  rw[Aan];rfl
theorem Atz (s:Sch)(v:Val)(e:List IV)(m:e.length<=2199025352704)(d: ∀x∈e,Aru x)(r:Bool)(g:W Ah6 0 [s.enc,v.enc]=some [.bool r]): ∀ (n i:Nat),i+n=e.length->
  W A3w 1 [.int (i:Nat),s.enc,v.enc,.list e]=some [.bool ((e.drop i).all Ag3&&r)]
 | 0,i,h=>by
  have:i=e.length:=by omega
  subst this
  rw[Aiv,aJ]
  simp only[eB,ltn,aA,aO,aB,Zf,g,bD,cH,bM]
 | n+1,i,h=>by
  have c:i<e.length:=by omega
  have o:=Atz s v e m d r g n (i+1) (by omega)
  obtain⟨a,b,j⟩:=d _ (aE c)
  have q:dA 1 e[i]=some (.int b):=by rw[j];rfl
  have t:Ag3 e[i]=decide (b=7):=by rw[j];rfl
  rw[Aiv,aC c,cF,t]
  simp only[eB,lti c,aA,aO,Zt,idxr c,q,dE,nxt (show i<4611686018427387904 by omega),o]
  cases decide (b=7)<;>simp
theorem Bbj (s:Sch)(v:Val)(a:s.Aw<=1048576)(c:v.Aw<=1048576):W A3w 0 [s.enc,v.enc]=some [.bool (Ko s v)]:=by
 rw[Ayv]
 simp only[cR,dE,aA,aO,R7 s a,Qj v (by omega),Ath s v a c,bD,cO,Az,Am]
 unfold chk Ko
 by_cases b:s.valid=true
 ·by_cases d:v.valid=true
  ·have g:SB s:=Gd _ s b
   have h:=Bbd v.size v s (aV _) c a g (Aaq _ v (aV _) d)
   have:=Atz s v (Iw v s []) (Acl g a c) (Au3 v s []) _ h (Iw v s []).length 0 (by omega)
   simp only[aD,aF]at this
   simp only[b,d,eC,Zt,this,bM]
   cases decide (v.k=5)<;>simp
  ·by_cases e:v.k=5<;>simp[b,d,e]
 ·by_cases e:v.k=5<;>simp[b,e]
end Go.CT.Sch
namespace Go.CT.Sch
open Go.Proofs
def Er (l:List Mgr)(nm:ByteArray):List ByteArray:=((l.find? λm=>decide (m.name=nm)).map Mgr.paths).getD []
theorem A8c (m:Mgr):dA 1 m.enc=some (SL m.paths):=rfl
theorem Alx (l:List Mgr)(nm:ByteArray)(d:l.length<=1048576)(hp: ∀m∈l,m.paths≠ []): ∀ (n i:Nat),i+n=l.length->
  W Atv 1 [.str nm,.list (l.map Mgr.enc),.int (l.length:Nat),.int (i:Nat)]=some [SL (Er (l.drop i) nm)]
 | 0,i,h=>by
  have:i=l.length:=by omega
  subst this
  rw[Akn,aJ]
  simp only[ltn,aA,aO,aB,Zf]
  rfl
 | n+1,i,h=>by
  have a:i<l.length:=by omega
  have b:=Alx l nm d hp n (i+1) (by omega)
  have e:0<l[i].paths.length :=dC.2 (hp _ (aE a))
  have ix:=Jt IV.str e
  simp only[aD]at ix
  unfold Er at b ⊢
  rw[Akn,aC a,bP]
  simp only[lti a,aA,aO,Zt,Jt Mgr.enc a,Ajh,Aky,eY,ix,nxt (show i<4611686018427387904 by omega),b]
  by_cases c:l[i].name =nm
  ·simp only[c,Zd,Zt,aQ,bG];rfl
  ·have c':decide (l[i].name =nm)=false:=by simpa using c
   simp only[c',aB,Zf]
theorem Bas (l:List Mgr)(nm:ByteArray)(a:l.length<=1048576)(hp: ∀m∈l,m.paths≠ []):W Atv 0 [.list (l.map Mgr.enc),.str nm]=some [SL (Er l nm)]:=by
 have:=Alx l nm a hp l.length 0 (by omega)
 simp only[aD,aF]at this
 rw[A1c,Gg]
 exact this
theorem Ake (l:List Mgr)(nm:ByteArray)(d:l.length<=1048576): ∀ (n i:Nat),i+n=l.length->
  W A2t 1 [.list (l.map Mgr.enc),.str nm,.int (i:Nat)]=some [SL (Er (l.drop i) nm)]
 | 0,i,h=>by
  have:i=l.length:=by omega
  subst this
  rw[Alb,aJ]
  simp only[Gg,ltn,aA,aO,aB,Zf]
  rfl
 | n+1,i,h=>by
  have a:i<l.length:=by omega
  have b:=Ake l nm d n (i+1) (by omega)
  unfold Er at b ⊢
  rw[Alb,aC a,bP]
  simp only[Gg,lti a,aA,aO,Zt,Jt Mgr.enc a,Ajh,Aky,eY,nxt (show i<4611686018427387904 by omega),b]
  by_cases c:l[i].name =nm
  ·simp only[c,Zd,Zt,aQ,bG];rfl
  ·have c':decide (l[i].name =nm)=false:=by simpa using c
   simp only[c',aB,Zf]
theorem A9d (l:List Mgr)(nm:ByteArray)(a:l.length<=1048576):W A2t 0 [.list (l.map Mgr.enc),.str nm]=some [SL (Er l nm)]:=by
 have:=Ake l nm a l.length 0 (by omega)
 simp only[aD,aF]at this
 rw[A1h]
 exact this
def Avz:List Mgr->Nat
 | []=>0
 | m::l=>m.paths.length+Avz l
end Go.CT.Sch
namespace Go.CT.Sch
open Go.Proofs
theorem Ael (v:Val)(a:v.Aw<=1099511627776)(n:Int)(c:0<=n)(d:n<=1000): ∃b,W F3 0 [v.enc,.int n]=some [.bool b]:=by
 obtain⟨r,h,_⟩:=At8 v a n n (by omega) (by omega) (by omega)
 exact⟨decide (0<=r),by rw[Baa];simp[h]⟩
theorem Pg (s:Sch)(v:Val):(G9 s v).length <=v.size:=by
 unfold G9
 split
 ·exact cE (N9 _) (Aee _ _ _ _)
 ·simp
end Go.CT.Sch
namespace Go.CT.Sch
open Go.Proofs
def Au (s:Sch)(v:Val):List ByteArray:=(G9 s v).filter λx=> !decide (x=Ar)
theorem Anb (s:Sch)(v:Val):SS (G9 s v):=by
 unfold G9
 split
 ·exact Vx _
 ·exact cD
theorem Apw {l:List ByteArray}(h:SS l):Wh l=l:=SS.ext (Vx l) h λ_=>P8
theorem Abn (s:Sch)(v:Val):Om (G9 s v) [Ar]=Au s v:=by
 unfold Om Au
 rw[Apw (Anb s v)]
 congr 1
 funext x
 simp[inB]
theorem P3 (s:Sch)(v:Val)(a:s.Aw<=1048576)(b:v.Aw<=1048576):W F97 0 [s.enc,v.enc]=some [SL (Au s v)]:=by
 have c:=Pg s v
 have d:=v.Ej
 have e:(IV.list [.str ⟨#[]⟩])=SL [Ar]:=rfl
 rw[A7f,Apz s v a b]
 simp only[bD,cL,aA,e,A2f (G9 s v) [Ar] (by omega) (by decide),Abn]
theorem P0 (l:List ByteArray)(d:l.length<=1048576): ∀ (n i:Nat) (a:List ByteArray),i+n=l.length->a.length<=i->
  W Auu 1 [.int (i:Nat),SL l,SL a]=some [SL (a++(l.drop i).filter λx=> !decide (x=Ar))]
 | 0,i,a,h,e=>by
  have:i=l.length:=by omega
  subst this
  rw[Am3,cY,aJ]
  simp only[ltn,aA,aO,aB,Zf,bS,aN]
 | n+1,i,a,h,e=>by
  have b:i<l.length:=by omega
  have i1:=P0 l d n (i+1) a (by omega) (by omega)
  have i2:=P0 l d n (i+1) (a++ [l[i]]) (by omega) (by simp;omega)
  have g:=fJ IV.str (aI b)
  have ap:cA 16 (SL a) (.list [.str l[i]])=some (SL (a++ [l[i]])):=apm IV.str a l[i] (by omega)
  have j:Ar=(⟨#[]⟩:ByteArray):=rfl
  rw[Am3,cY,aC b,bH]
  simp only[lti b,aA,aO,Zt,g,fG,cL,ap]
  rw[Al8,Al8]
  simp only[nxt (show i<4611686018427387904 by omega),aA,i1,i2,j]
  by_cases c:l[i]=(⟨#[]⟩:ByteArray)<;>simp[c]
theorem Ado (s:Sch)(v:Val)(a:s.Aw<=1048576)(b:v.Aw<=1048576):W Auu 0 [s.enc,v.enc]=some [SL (Au s v)]:=by
 have c:=Pg s v
 have d:=v.Ej
 have:=P0 (G9 s v) (by omega) (G9 s v).length 0 [] (by omega) (by simp)
 simp only[aD,aF,aU]at this
 rw[Ax9,Aut s v a b]
 simp only[bD]
 exact this
end Go.CT.Sch
namespace Go.CT.Sch
open Go.Proofs
theorem A3s: ∀ (n:Nat) (o:Option Sch) (v:Val) (p:List Stp) (t:ByteArray),v.size<=n->v.valid=true->t∈lv n o v p-> ∃q w,t=C9 (p++q)/\Mi v q=some w/\ ∀x∈q,Dr x=true/\x.k≠2
 | 0,o,v,p,t,h,_,_=>by have:=v.size_pos;omega
 | n+1,o,v,p,t,h,m,a=>by
  rw[lv]at a
  by_cases c:kids o v= []
  ·rw[if_pos c,bW]at a
   subst a
   exact⟨[],v,by simp,rfl,by simp⟩
  ·rw[if_neg c]at a
   obtain⟨x,g,a⟩:=cQ.1 a
   obtain⟨F,_⟩:=Vk g
   obtain⟨q,w,e1,A,B⟩:=A3s n x.2.2 x.2.1 (p++ [x.1]) t (by omega) (Aor m g) a
   rw[aY,bF]at e1
   obtain⟨s,rfl,K,G⟩:=Aow c
   rcases G with⟨L,r⟩ | ⟨H,C,j,r⟩
   ·rw[r]at g
    obtain⟨y,i,rfl⟩:=bO.1 g
    have I:v.get y.1=some y.2:=get_of_mem m i
    have u:=(Mt m i).2
    refine⟨C3 y.1::q,w,e1,?_,?_⟩
    ·simp only[Mi,Rr,C3,Zt,I,aA];exact A
    ·intro z b
     rcases bE.1 b with rfl | b
     ·exact⟨by unfold Dr C3;simp[u],show(1:Int)≠2 by decide⟩
     ·exact B z b
   ·rw[r]at g
    obtain⟨y,i,rfl⟩:=bO.1 g
    have d:=Z8 m i
    obtain⟨M,ym,yg⟩:=Asa d (Jv j y i)
    have u:=(Mt d ym).2
    have e:Iz (A5v (Ir y s.key)).s =true:=Apm (Mt d ym).1 rfl
    have e:Iz (Ir y s.key)=true:=e
    have J: ¬ (3:Int)=1:=by decide
    have E: ¬ (3:Int)=2:=by decide
    refine⟨Avq s.key y::q,w,e1,?_,?_⟩
    ·simp only[Mi,Rr,Avq,J,E,Zf,H,Zt,As0 j y i,aA];exact A
    ·intro z b
     rcases bE.1 b with rfl | b
     ·exact⟨by unfold Dr Avq;simp[u,e],E⟩
     ·exact B z b
theorem Aix: ∀ (q:List Stp) (d:Nat) (v w:Val),Bu d v=true->Mi v q=some w->q.length<d
 | [],0,v,w,h,_=>by simp[Bu]at h
 | [],d+1,_,_,_,_=>by simp
 | x::q,0,v,w,h,_=>by simp[Bu]at h
 | x::q,d+1,v,w,h,b=>by
  simp only[Mi,Option.bind_eq_some_iff]at b
  obtain⟨u,a,c⟩:=b
  have h':=(Dn d v).1 h
  have e:Bu d u=true:=by
   unfold Rr at a
   split at a
   ·exact(h'.2.2.2.1 _ (Kz a).1).2
   ·split at a
    ·split at a
     ·exact h'.2.2.1 _ (dW a)
     ·exact h'.2.2.1 _ (cC a)
    ·cases a
  have:=Aix q d u w e c
  simp;omega
theorem Anc {s:Sch}{v:Val}{t:ByteArray}(c:v.valid=true)(a:t∈Au s v): ∃q w,t=C9 q/\Dj q=true/\(∀x∈q,x.k≠2)/\Mi v q=some w:=by
 have a:=(dB.1 a).1
 unfold G9 at a
 split at a
 ·rw[P8]at a
  obtain⟨q,w,e1,d,e⟩:=A3s v.size (some s) v [] t (aV _) c a
  rw[aU]at e1
  have hd:=Aix q 12 v w ((Hv v).1 c).1 d
  refine⟨q,w,e1,?_,λx b=>(e x b).2,d⟩
  unfold Dj
  simp only[aK,bN,decide_eq_true_eq]
  exact⟨λx b=>(e x b).1,by omega⟩
 ·simp at a
end Go.CT.Sch
namespace Go.CT.Sch
open Go.Proofs
theorem Bci (v:Val)(p:List Stp)(a:v.Aw<=1048576)(hp:Dj p=true)(b: ∀x∈p,x.k≠2):W Bbk 0 [v.enc,.str (C9 p)]=some (Iv (Mi v p)):=by
 rw[A00]
 simp only[A0d p hp b,eR,A9z v p a hp,Iv,I8]
theorem Bde (v:Val)(p:List Stp)(c:v.Aw<=1048576)(hp:Dj p=true)(a: ∀x∈p,x.k≠2):W A90 0 [v.enc,.str (C9 p)]=some [((Mi v p).getD Bc).enc,.bool (Mi v p).isSome]:=by
 obtain⟨d,e⟩:=Vs hp
 have b:=Bat v p c d (by omega)
 unfold Bb6 at b
 rw[if_pos hp]at b
 rw[Ayu]
 simp only[Aa6 p hp a,eR,dE,Zd,aH,aA,aO,aB,Zf,b]
theorem Au6 {v:Val}{p:List Stp}(a:v.Aw<=1048576):((Mi v p).getD Bc).Aw <=1048576:=by
 cases h:Mi v p with
 | none=>decide+kernel
 | some w=>have:=Afe p v w h;rw[bG];omega
def Ac0 (t:ByteArray):Prop:= ∃p,C9 p=t/\Dj p=true/\ ∀x∈p,x.k≠2
theorem S0 {s:Sch}{v:Val}{t:ByteArray}(a:v.valid=true)(b:t∈Au s v):Ac0 t:=by
 obtain⟨q,w,e1,c,d,_⟩:=Anc a b
 exact⟨q,e1.symm,c,d⟩
theorem Jl (s:Sch)(v:Val):(Au s v).length <=v.Aw:=by
 have a:=cB (λx=> !decide (x=Ar)) (G9 s v)
 have b:=Pg s v
 have c:=v.Ej
 unfold Au;omega
end Go.CT.Sch
namespace Go.CT.Sch
open Go.Proofs
def Is (p:ByteArray)(l:List Mgr):List ByteArray:=(l.filter λm=>inB m.paths p).map Mgr.name
theorem anyB (l:List ByteArray)(x:ByteArray):(l.any λe=>decide (e=x))=inB l x:=by
 unfold inB
 congr 1
 funext e
 exact decide_eq_decide.2 eq_comm
theorem Vv (l:List Mgr)(p:ByteArray)(c:l.length<=1048576)(hp: ∀m∈l,m.paths.length<=1048576): ∀ (n i:Nat) (a:List ByteArray),i+n=l.length->a.length<=i->
  W Apk 1 [.str p,.list (l.map Mgr.enc),.int (l.length:Nat),.int (i:Nat),SL a]=some [SL (a++Is p (l.drop i))]
 | 0,i,a,h,d=>by
  have:i=l.length:=by omega
  subst this
  rw[Akc,aJ]
  simp only[ltn,aA,aO,aB,Zf,Is,bS,aL,aN]
 | n+1,i,a,h,d=>by
  have b:i<l.length:=by omega
  have e:=hp _ (aE b)
  have i1:=Vv l p c hp n (i+1) a (by omega) (by omega)
  have i2:=Vv l p c hp n (i+1) (a++ [l[i].name]) (by omega) (by simp;omega)
  have ap:cA 16 (SL a) (.list [.str l[i].name])=some (SL (a++ [l[i].name])):=apm IV.str a l[i].name (by omega)
  unfold Is at i1 i2 ⊢
  rw[Akc,aC b,bH]
  simp only[lti b,aA,aO,Zt,Jt Mgr.enc b,Ajh,Aky,Pp _ p (show l[i].paths.length <=1099511627776 by omega),anyB,bD,cL,ap]
  rw[Amp,Amp]
  simp only[nxt (show i<4611686018427387904 by omega),aA,i1,i2]
  cases inB l[i].paths p<;>simp
theorem Auw (l:List Mgr)(p:ByteArray)(a:l.length<=1048576)(hp: ∀m∈l,m.paths.length<=1048576):W Apk 0 [.list (l.map Mgr.enc),.str p]=some [SL (Is p l)]:=by
 have:=Vv l p a hp l.length 0 [] (by omega) (by simp)
 simp only[aD,aF,aU]at this
 rw[Awq,Gg]
 exact this
theorem Wo (l:List Mgr)(p:ByteArray)(c:l.length<=1048576)(hp: ∀m∈l,m.paths.length<=1048576): ∀ (n i:Nat) (a:List ByteArray),i+n=l.length->a.length<=i->
  W Avn 1 [.list (l.map Mgr.enc),.str p,.int (i:Nat),SL a]=some [SL (a++Is p (l.drop i))]
 | 0,i,a,h,d=>by
  have:i=l.length:=by omega
  subst this
  rw[Amj,aJ]
  simp only[Gg,ltn,aA,aO,aB,Zf,Is,bS,aL,aN]
 | n+1,i,a,h,d=>by
  have b:i<l.length:=by omega
  have e:=hp _ (aE b)
  have i1:=Wo l p c hp n (i+1) a (by omega) (by omega)
  have i2:=Wo l p c hp n (i+1) (a++ [l[i].name]) (by omega) (by simp;omega)
  have ap:cA 16 (SL a) (.list [.str l[i].name])=some (SL (a++ [l[i].name])):=apm IV.str a l[i].name (by omega)
  unfold Is at i1 i2 ⊢
  rw[Amj,aC b,bH]
  simp only[Gg,lti b,aA,aO,Zt,Jt Mgr.enc b,Ajh,A8c,A82 _ p e,bD,cL,ap]
  rw[Amm,Amm]
  simp only[nxt (show i<4611686018427387904 by omega),aA,i1,i2]
  cases inB l[i].paths p<;>simp
theorem A4z (l:List Mgr)(p:ByteArray)(a:l.length<=1048576)(hp: ∀m∈l,m.paths.length<=1048576):W Avn 0 [.list (l.map Mgr.enc),.str p]=some [SL (Is p l)]:=by
 have:=Wo l p a hp l.length 0 [] (by omega) (by simp)
 simp only[aD,aF,aU]at this
 rw[Axp]
 exact this
end Go.CT.Sch
namespace Go.CT.Sch
open Go.Proofs
def G8 (l:List Mgr):List Mgr:=l.filter λm=>decide (0<m.paths.length)
theorem Vf (l:List Mgr)(c:l.length<=1048576)(hp: ∀m∈l,m.paths.length<=1048576): ∀ (n i:Nat) (a:List Mgr),i+n=l.length->a.length<=i->
  W Atr 1 [.list (l.map Mgr.enc),.int (l.length:Nat),.int (i:Nat),.list (a.map Mgr.enc)]=some [.list ((a++G8 (l.drop i)).map Mgr.enc)]
 | 0,i,a,h,d=>by
  have:i=l.length:=by omega
  subst this
  rw[Al9,aJ]
  simp only[ltn,aA,aO,aB,Zf,G8,bS,aN]
 | n+1,i,a,h,d=>by
  have b:i<l.length:=by omega
  have e:=hp _ (aE b)
  have i1:=Vf l c hp n (i+1) a (by omega) (by omega)
  have i2:=Vf l c hp n (i+1) (a++ [l[i]]) (by omega) (by simp;omega)
  have ap:cA 40 (.list (a.map Mgr.enc)) (.list [.agg [.str l[i].name,.list (l[i].paths.map .str)]])=some (.list ((a++ [l[i]]).map Mgr.enc)):=apm Mgr.enc a l[i] (by omega)
  have g:dS (.int (l[i].paths.length :Int)) (.int 0)=some (.bool (decide (0<l[i].paths.length))):=by rw[eW];congr 2;exact decide_eq_decide.2 (by omega)
  have cl:O.Io [.list (l[i].paths.map IV.str)]=some [.list (l[i].paths.map .str)]:=Ez (by rw[aG];omega)
  unfold G8 at i1 i2 ⊢
  rw[Al9,aC b,bH]
  simp only[lti b,aA,aO,Zt,Jt Mgr.enc b,Ajh,Aky,Gg,g,A3b,cl,bD,cT,cL,ap]
  rw[Akf,Akf]
  simp only[nxt (show i<4611686018427387904 by omega),aA,i1,i2]
  cases decide (0<l[i].paths.length)<;>simp
theorem A7s (l:List Mgr)(a:l.length<=1048576)(hp: ∀m∈l,m.paths.length<=1048576):W Atr 0 [.list (l.map Mgr.enc)]=some [.list ((G8 l).map Mgr.enc)]:=by
 have:=Vf l a hp l.length 0 [] (by omega) (by simp)
 simp only[aD,aF,aU,aL]at this
 rw[A02,Gg]
 exact this
end Go.CT.Sch
namespace Go.CT.Sch
open Go.Proofs
def S8 (nm:ByteArray)(a:List ByteArray):Bool->List Mgr->List Mgr
 | d,[]=>if d then[]else[⟨nm,a⟩]
 | d,m::l=>((if !d && !blt m.name nm then[⟨nm,a⟩]else[])++(if !decide (m.name=nm)&&decide (0<m.paths.length) then[m]else[]))++S8 nm a (d|| !blt m.name nm) l
theorem A17 (l:List Mgr)(nm:ByteArray)(b:List ByteArray)(e:l.length<=1048576)(i:Nat)(c:i<l.length)(d:Bool)(a:List Mgr)(h:a.length<=4194304):
  W Ab6 2 [.list (l.map Mgr.enc),.str nm,.list (b.map .str),.bool d,.int (i:Nat),.list (a.map Mgr.enc)]=
   W Ab6 1 [.list (l.map Mgr.enc),.str nm,.list (b.map .str),.bool d,.int ((i+1:Nat):Int),.list ((a++(if !decide (l[i].name =nm)&&decide (0<l[i].paths.length) then[l[i]]else[])).map Mgr.enc)]:=by
 have ap:cA 40 (.list (a.map Mgr.enc)) (.list [l[i].enc])=some (.list ((a++ [l[i]]).map Mgr.enc)):=apm Mgr.enc a l[i] (by omega)
 have g:dS (.int (l[i].paths.length :Int)) (.int 0)=some (.bool (decide (0<l[i].paths.length))):=by rw[eW];congr 2;exact decide_eq_decide.2 (by omega)
 rw[Az0]
 simp only[Jt Mgr.enc c,aA,Ajh,Aky,fG,Gg,g,aO,cL,ap]
 rw[Al6,Al6]
 simp only[nxt (show i<4611686018427387904 by omega),aA]
 cases decide (l[i].name =nm)<;>cases decide (0<l[i].paths.length)<;>simp
theorem Agw (l:List Mgr)(nm:ByteArray)(c:List ByteArray)(j:l.length<=1048576): ∀ (n i:Nat) (d:Bool) (a:List Mgr),i+n=l.length->a.length<=2 * i->
  W Ab6 1 [.list (l.map Mgr.enc),.str nm,.list (c.map .str),.bool d,.int (i:Nat),.list (a.map Mgr.enc)]=some [.list ((a++S8 nm c d (l.drop i)).map Mgr.enc)]
 | 0,i,d,a,h,o=>by
  have:i=l.length:=by omega
  subst this
  have ap:cA 40 (.list (a.map Mgr.enc)) (.list [.agg [.str nm,.list (c.map .str)]])=some (.list ((a++ [(⟨nm,c⟩:Mgr)]).map Mgr.enc)):=apm Mgr.enc (n:=40) a (⟨nm,c⟩:Mgr) (by omega)
  rw[Ajj,aJ]
  simp only[Gg,ltn,aA,aO,aB,Zf,cO,cT,cL,ap,S8]
  cases d<;>simp
 | n+1,i,d,a,h,o=>by
  have g:i<l.length:=by omega
  have ap:cA 40 (.list (a.map Mgr.enc)) (.list [.agg [.str nm,.list (c.map .str)]])=some (.list ((a++ [(⟨nm,c⟩:Mgr)]).map Mgr.enc)):=apm Mgr.enc (n:=40) a (⟨nm,c⟩:Mgr) (by omega)
  have m: ∀b:List Mgr,(b++(if !decide (l[i].name =nm)&&decide (0<l[i].paths.length) then[l[i]]else[])).length <=b.length+1:=λb=>by
   rw[aP];split<;>simp
  have i1:=λe=>Agw l nm c j n (i+1) e _ (by omega) (cE (m a) (by omega))
  have i2:=λe=>Agw l nm c j n (i+1) e _ (by omega) (cE (m (a++ [⟨nm,c⟩])) (by simp;omega))
  have r1:=λe=>A17 l nm c j i g e a (by omega)
  have r2:=λe=>A17 l nm c j i g e (a++ [⟨nm,c⟩]) (by simp;omega)
  rw[Ajj,aC g,S8]
  simp only[Gg,lti g,aA,aO,Zt,cO,Jt Mgr.enc g,Ajh,Py,cT,cL,ap,r1,r2,i1,i2]
  cases d<;>cases blt l[i].name nm<;>simp[aY]
theorem Bbf (l:List Mgr)(nm:ByteArray)(a:List ByteArray)(b:l.length<=1048576):W Ab6 0 [.list (l.map Mgr.enc),.str nm,.list (a.map .str)]=some [.list ((S8 nm a (decide (a.length=0)) l).map Mgr.enc)]:=by
 have:=Agw l nm a b l.length 0 (decide (a.length=0)) [] (by omega) (by simp)
 simp only[aD,aF,aU,aL]at this
 rw[Azs,Gg]
 simp only[aA,eq0]
 exact this
end Go.CT.Sch
namespace Go.CT.Sch
open Go.Proofs
def Ab4 (x:Mgr):List Mgr->List Mgr
 | []=> [x]
 | y::r=>if blt y.name x.name then y::Ab4 x r else x::y::r
def Nj (l:List Mgr):Prop:=l.Pairwise λa b=>blt a.name b.name=true
theorem Lq (nm:ByteArray)(a:List ByteArray): ∀l:List Mgr,S8 nm a true l=G8 (l.filter λm=> !decide (m.name=nm))
 | []=>rfl
 | m::l=>by
  rw[S8,bH,Bool.true_or,Lq nm a l]
  unfold G8
  by_cases c:m.name=nm
  ·simp[c]
  ·by_cases b:0<m.paths.length
   ·simp[c,b]
   ·simp[c,b]
theorem A3d (x:Mgr): ∀l:List Mgr,(∀m∈l,blt m.name x.name=false)->Ab4 x l=x::l
 | [],_=>rfl
 | y::l,h=>by rw[Ab4,h y (by simp)];rfl
theorem Ec (m:Mgr)(l:List Mgr):G8 (m::l)=if decide (0<m.paths.length)=true then m::G8 l else G8 l:=bH
theorem Xq (x:Mgr)(a:x.paths.length=0): ∀l:List Mgr,G8 (Ab4 x l)=G8 l
 | []=>by rw[Ab4,Ec,a];rfl
 | y::l=>by
  rw[Ab4]
  split
  ·rw[Ec,Ec,Xq x a l]
  ·rw[Ec,a];rfl
theorem Asu (nm:ByteArray)(b:List ByteArray): ∀l:List Mgr,Nj l->G8 (Ab4 ⟨nm,b⟩ (l.filter λm=> !decide (m.name=nm)))=S8 nm b (decide (b.length=0)) l:=by
 by_cases d:b.length=0
 ·intro l _
  rw[Xq _ d,d,decide_eq_true rfl,Lq]
 ·have hd:decide (0<b.length)=true:=decide_eq_true (by omega)
  rw[decide_eq_false d]
  intro l
  induction l with
  | nil=>intro _;rw[bS,Ab4,Ec];simp only[hd,Zt];rfl
  | cons m l h=>
   intro i
   obtain⟨j,o⟩:=bV.1 i
   have ge:blt m.name nm=false-> ∀y∈l.filter (λm=> !decide (m.name=nm)),blt y.name nm=false:=by
    intro g y q
    have:=j y (dB.1 q).1
    cases a:blt y.name nm with
    | false=>rfl
    | true=>rw[Gc this a]at g;cases g
   rw[S8,bH]
   cases a:blt m.name nm with
   | true=>
    have e: ¬ m.name=nm:=Oo a
    simp only[e,Ze,aX,Zt,aH,fF,aB,Zf,aU,Bool.or_false,bM]
    rw[Ab4]
    simp only[a,Zt]
    rw[Ec,h o]
    split<;>simp
   | false=>
    simp only[aX,eC,Zt,Bool.or_true]
    rw[Lq]
    by_cases c:m.name=nm
    ·simp only[c,Zd,aH,aB,Zf,dG,aN]
     rw[A3d _ _ (ge a),Ec]
     simp only[hd,Zt,bF]
    ·simp only[c,Ze,aX,Zt,bM]
     rw[Ab4]
     simp only[a,aB,Zf]
     rw[Ec,Ec]
     simp only[hd,Zt]
     split<;>simp
theorem Ux (x:Mgr): ∀l:List Mgr,Asv (x.name,x.enc) (l.map λm=>(m.name,m.enc))=(Ab4 x l).map λm=>(m.name,m.enc)
 | []=>rfl
 | y::l=>by
  rw[aM,Asv,Ab4]
  unfold blt
  split
  ·rw[Ux x l];rfl
  ·rfl
theorem Su: ∀l:List Mgr,Nj l->Gv (l.map λm=>(m.name,m.enc))=l.map λm=>(m.name,m.enc)
 | [],_=>rfl
 | x::l,h=>by
  obtain⟨a,b⟩:=bV.1 h
  rw[aM,Gv,Su l b,Ux,A3d x l λm c=>Nd (a m c)];rfl
theorem Ae5: ∀l:List Mgr,Af7 (l.map Mgr.enc)=some (l.map Mgr.name)
 | []=>rfl
 | x::l=>by rw[aM,Af7,Ae5 l];rfl
theorem Aoq (x:Mgr)(l:List Mgr)(d:Nj l)(g: ∀m∈l,¬ m.name=x.name)(o:l.length<=1048576):O.Ub [.list ((x::l).map Mgr.enc)]=some [.list ((Ab4 x l).map Mgr.enc)]:=by
 have i:((x::l).map Mgr.name).zip ((x::l).map Mgr.enc)=(x::l).map λm=>(m.name,m.enc):=by
  rw[List.zip_map']
 have c:((x::l).map Mgr.name).Nodup :=by
  rw[aM,List.nodup_cons]
  refine⟨λh=>?_,?_⟩
  ·obtain⟨m,j,e⟩:=bO.1 h
   exact g m j e
  ·exact fR _ (λa b h=>Oo h) d
 rw[O.Ub,Ae5,aA,if_pos ⟨c,by simp;omega⟩,i,aM,Gv,Su l d,Ux,fK]
 rfl
end Go.CT.Sch
namespace Go.CT.Sch.D
open Go.Proofs
theorem Afa (s:Sch)(nm:ByteArray)(m:s.Aw<=1099511627776)(b d e g:IV): ∀ (n i:Nat),i+n=s.f.length->
  W A4t 1 [.str nm,.int i,s.enc,b,d,e,g]=some (Td (((s.f.drop i).find? λp=>decide (p.nm=nm)).map (·.s)))
 | 0,i,h=>by
  rw[Ajt]
  have j: ¬ i<s.f.length:=by omega
  simp[j,aR (cG j),Td,Pw]
 | n+1,i,h=>by
  have a:i<s.f.length:=by omega
  have q:=s.A7
  have o:=A8 (i:=i) (by omega)
  have:=Afa s nm m b d e g n (i+1) (by omega)
  rw[Ajt,aC a]
  simp only[dO,eB,aG,dD,Aj,a,Zd,aA,aO,Zt,eK,aW,aT,aZ,aI a,aQ,fB,eL,eY,dZ,o,this,bP]
  by_cases c:s.f[i].nm =nm
  ·simp[c,Td]
  ·have c':decide (s.f[i].nm =nm)=false:=by simpa using c
   simp only[c,c',Ze,aB,Zf]
theorem A7b (s:Sch)(nm:ByteArray)(a:s.Aw<=1099511627776):W A4t 0 [s.enc,.str nm]=some (Td ((s.fld nm).map (·.s))):=by
 rw[Az2]
 have:=Afa s nm a (.int 0) (.int 0) (.int 0) (.str ⟨#[]⟩) s.f.length 0 (by omega)
 simp only[aF,aD]at this
 exact this
theorem A36 (s:Sch):W Bcl 0 [s.enc]=some [.bool (decide (0<s.it.length))]:=by
 rw[Az5];simp
theorem Ud (sc:Sch)(v:Val)(b:SOk sc)(j:sc.Aw<=1099511627776)(A:v.Aw<=4294967000)(m o r:IV)(u: ∀p∈v.f,∀t,Gh sc p.1=some t->W Tf 0 [t.enc,p.2.enc]=some [(B7 p.2 t).enc]):
  ∀ (n i:Nat) (acc:List (ByteArray × Val)),i+n=v.f.length->acc.length<=i->
  W Tf 2 [.int i,sc.enc,v.enc,m,o,r,.list (acc.map bC)]=some [(Val.mk 5 0 Ar [] (acc++(v.f.drop i).flatMap (Eo sc))).enc]
 | 0,i,acc,h,B=>by
  rw[Amo]
  have w: ¬ i<v.f.length:=by omega
  simp only[cK,eB,aG,dD,Aj,w,Ze,aA,aO,aB,Zf,cT,aR (cG w),bR,aN]
  rw[<-fE];rfl
 | n+1,i,acc,h,B=>by
  have d:i<v.f.length:=by omega
  have hlen:=v.A7
  have C:=A8 (i:=i) (by omega)
  have E:=K3 sc v.f[i]
  have next:=Ud sc v b j A m o r u n (i+1) (acc++Eo sc v.f[i]) (by omega) (by rw[aP];omega)
  have c:(acc.length+1) * 96<=A4:=Si (by omega) (by omega)
  rw[aY]at next
  rw[Amo,aC d,aS,<-next]
  simp only[cK,eB,aG,dD,Aj,d,Zd,aA,aO,Zt,eK,aW,aT,aZ,aI d,aQ,eU,Fld.C7,eF,bJ,A36,bD,A7b sc _ j,Ay9,Axg,dZ,C]
  have a:=u _ (aE d)
  unfold Eo
  by_cases x:v.f[i].2.k =0
  ·simp only[x,Zd,Zt,aN]
  ·simp only[x,Ze,aB,Zf]
   have y:=b.one
   unfold Gh at a ⊢
   by_cases hd:sc.it.length=1
   ·obtain⟨t,z⟩:=bK.1 hd
    simp only[z,bB,Zt,bQ]at a
    have e:=a t rfl
    simp only[z,bB,Nat.lt_one_iff,Zd,Zt,cZ,aA,aM,aL,eK,dH,cU,bQ,e,bD,cR,eP,eQ,bZ,cK,cT,Fld.E6,cL,O.Bf,aG,bB,c,cI]
   ·have g: ¬ 0<sc.it.length:=by omega
    simp only[hd,Zf]at a
    simp only[hd,g,Ze,aB,Zf]
    cases F:sc.fld v.f[i].1 with
    | none=>simp only[Td,fA,eH,eR,aO,aB,Zf,aN]
    | some q=>
     have e:=a q.s (by rw[F];rfl)
     simp only[Td,aQ,bU,eR,aO,Zt,bG,e,bD,cR,eP,eQ,bZ,cK,aA,cT,Fld.E6,cL,O.Bf,aG,bB,c,cI,aM,aL]
theorem V8 (sc t:Sch)(v:Val)(q:v.Aw<=4294967000)(d e g:IV)(j:sc.it= [t])(m: ∀x∈v.l,W Tf 0 [t.enc,x.enc]=some [(B7 x t).enc]):
  ∀ (n i:Nat) (acc:List Val),i+n=v.l.length->acc.length<=i->
  W Tf 1 [.int i,sc.enc,v.enc,d,e,g,.list (acc.map bI)]=some [(Val.mk 4 0 Ar (acc++(v.l.drop i).map λx=>B7 x t) []).enc]
 | 0,i,acc,h,r=>by
  rw[Aj0]
  have o: ¬ i<v.l.length:=by omega
  simp only[bZ,eB,aG,dD,Aj,o,Ze,aA,aO,aB,Zf,cT,aR (cG o),aL,aN]
  rw[<-fE];rfl
 | n+1,i,acc,h,r=>by
  have b:i<v.l.length:=by omega
  have hlen:=v.B8
  have u:=A8 (i:=i) (by omega)
  have next:=V8 sc t v q d e g j m n (i+1) (acc++ [B7 v.l[i] t]) (by omega) (by rw[aP];simp;omega)
  have c:(acc.length+1) * 80<=A4:=Si (by omega) (by omega)
  have a:=m _ (aE b)
  rw[aY,bF]at next
  rw[Aj0,aC b,aM,<-next]
  simp only[bZ,eB,aG,dD,Aj,b,Zd,aA,aO,Zt,eK,aW,aT,aZ,aI b,aQ,cZ,j,aM,aL,dH,cU,bQ,a,bD,cL,O.Bf,aG,bB,c,cI,dZ,u]
theorem Arx: ∀v:Val,v.Aw<=4294967000-> ∀sc:Sch,SOk sc->sc.Aw<=1099511627776->W Tf 0 [sc.enc,v.enc]=some [(B7 v sc).enc]:=by
 refine dQ λv d e i sc c g=>?_
 rw[A0e,My]
 simp only[cR,dN,aA,dE,bJ,aO]
 by_cases j:v.k=sc.k
 ·simp only[j,Zd,aH,aB,Zf,Zt]
  by_cases m:sc.k=5
  ·have o:=Ud sc v c g i (.int 0) (.int 0) (.str ⟨#[]⟩) (λp hp t a=>e p hp (by have:=fC hp;omega) t (c.sub a) (by have:=Jg a;omega)) v.f.length 0 [] (by omega) (by simp)
   simp only[aF,aD,aL,aU]at o
   simp[m,o]
  ·by_cases h:sc.k=4
   ·obtain⟨t,a⟩:=bK.1 (c.list h)
    have b:t∈sc.it:=by rw[a];simp
    have q:=V8 sc t v i (.int 0) (.int 0) (.str ⟨#[]⟩) a (λx r=>d x r (by have:=dK r;omega) t (c.Jz b) (by have:=eE b;omega)) v.l.length 0 [] (by omega) (by simp)
    simp only[aF,aD,aL,aU]at q
    simp[h,a,q]
   ·simp[h,m]
 ·simp[j]
end Go.CT.Sch.D
namespace Go.CT.Sch
open Go.Proofs
theorem Yh: ∀l:List ByteArray,Gw l=true->l.Pairwise λa b=>blt a b=true
 | [],_=>cD
 | [_],_=>dM _ _
 | a::b::l,h=>by
  simp only[Gw,aK]at h
  have d:=Yh (b::l) h.2
  refine bV.2 ⟨λx c=>?_,d⟩
  rcases bE.1 c with rfl | c
  ·exact h.1
  ·exact Gc h.1 ((bV.1 d).1 x c)
theorem Aqk {l:List Mgr}(h:Ui l=true):Nj l/\(∀m∈l,m.paths≠ [])/\l.length<=16:=by
 unfold Ui at h
 simp only[aK,bN,decide_eq_true_eq]at h
 refine⟨eN.1 (Yh _ h.2.2),λm a e=>?_,h.2.1⟩
 have:=h.1 m a
 unfold okM at this
 simp only[aK,cV,decide_eq_false_iff_not]at this
 exact this.1.2 (by rw[e];rfl)
theorem Aoi {g:Mgr->List ByteArray}{l:List Mgr}(h:Nj l):Nj (l.map λm=>⟨m.name,g m⟩):=eN.2 h
theorem P1: ∀ {l:List Mgr} {m:Mgr},m∈l->m.paths.length<=Avz l
 | x::l,m,h=>by
  rw[Avz]
  rcases bE.1 h with rfl | h
  ·omega
  ·have:=P1 h;omega
theorem Avk (nm:ByteArray)(a:List ByteArray)(l:List Mgr)(j:Nj l)(B:l.length<=1000000)(hp:a.length<=1048576)(d: ∀m∈l,m.paths.length<=1048576):
  (calls (W Bcg 0 [.list (((⟨nm,a⟩:Mgr)::l.filter λm=> !decide (m.name=nm)).map Mgr.enc)]) 1 λq=>calls (W Atr 0 [q]) 1 λt=>some [t])=some [.list ((S8 nm a (decide (a.length=0)) l).map Mgr.enc)]:=by
 have u:=cB (λm:Mgr=> !decide (m.name=nm)) l
 have e:=Aoq ⟨nm,a⟩ (l.filter λm=> !decide (m.name=nm)) (fM _ j) (λm g=>by simpa using(dB.1 g).2) (by omega)
 have c: ∀ (x:Mgr) (r:List Mgr),(Ab4 x r).length =r.length+1/\ ∀y∈Ab4 x r,y=x\/y∈r:=by
  intro x r
  induction r with
  | nil=>exact⟨rfl,λy b=>by simpa [Ab4]using b⟩
  | cons z r o=>
   rw[Ab4]
   split
   ·refine⟨by rw[bT,o.1];rfl,λy b=>?_⟩
    rcases bE.1 b with rfl | b
    ·exact .inr eG
    ·rcases o.2 y b with h | h
     ·exact .inl h
     ·exact .inr (List.mem_cons_of_mem _ h)
   ·exact⟨rfl,λy b=>bE.1 b⟩
 obtain⟨w,A⟩:=c ⟨nm,a⟩ (l.filter λm=> !decide (m.name=nm))
 have i:=A7s (Ab4 ⟨nm,a⟩ (l.filter λm=> !decide (m.name=nm))) (by rw[w];omega) (λm g=>by
  rcases A m g with rfl | h
  ·exact hp
  ·exact d m (dB.1 h).1)
 simp only[Bar,e,bD,i,Asu nm a l j]
def okB (s:Sch)(a b:Val)(m:List Mgr)(nm:ByteArray):Bool:=Ko s a&&Ko s b&&Ui m&&Jw nm
theorem N5 {s:Sch}{v:Val}(h:Ko s v=true):s.valid=true/\v.valid=true/\v.k=5/\(Iw v s []).all Ag3=true/\kyB v.size s v=true:=by
 unfold Ko at h
 simp only[aK,decide_eq_true_eq]at h
 exact⟨h.1,h.2.1,h.2.2.1,h.2.2.2.1,h.2.2.2.2⟩
structure PV (s:Sch)(v:Val):Prop where
 vv:v.valid=true
theorem Aag {s:Sch}{v:Val}(h:Ko s v=true):PV s (D.B7 v s):=⟨D.Aht s (N5 h).2.1⟩
theorem N2 {s:Sch}{v:Val}(h:Ko s v=true)(d:s.Aw<=1048576)(e:v.Aw<=1048576):W F92 0 [s.enc,v.enc]=some [(D.B7 v s).enc]/\W Tf 0 [s.enc,v.enc]=some [(D.B7 v s).enc]:=by
 obtain⟨b,c,_⟩:=N5 h
 have a:=D.Rh 12 s b
 exact⟨D.Ao0 v (D.Ac1 c) (by omega) s a (by omega),D.Arx v (by omega) s a (by omega)⟩
theorem A95 (s:Sch)(a b:Val)(m:List Mgr)(nm:ByteArray):(((((((!s.valid)|| !a.valid)|| !b.valid)|| !Ui m)|| !Jw nm)|| !Ko s a)|| !Ko s b)= !okB s a b m nm:=by
 unfold okB
 cases c:Ko s a with
 | false=>simp
 | true=>
  cases d:Ko s b with
  | false=>simp
  | true=>
   obtain⟨e,a2,_⟩:=N5 c
   obtain⟨_,b2,_⟩:=N5 d
   rw[e,a2,b2]
   cases Ui m<;>cases Jw nm<;>rfl
theorem A39 (s:Sch)(a b:Val)(m:List Mgr)(nm:ByteArray):((((!Ui m)|| !Jw nm)|| !Ko s a)|| !Ko s b)= !okB s a b m nm:=by
 unfold okB
 cases Ko s a<;>cases Ko s b<;>cases Ui m<;>cases Jw nm<;>rfl
theorem gt0 (n:Nat):dS (.int (n:Int)) (.int 0)=some (.bool (decide (0<n))):=by rw[eW];congr 2;exact decide_eq_decide.2 (by omega)
theorem Un (m:List Mgr)(nm:ByteArray):(Er m nm).length <=Avz m:=by
 unfold Er
 cases h:m.find? λm=>decide (m.name=nm) with
 | none=>exact dJ _
 | some x=>exact P1 (cC h)
structure Sz (s:Sch)(a b:Val)(m:List Mgr):Prop where
 hs:s.Aw<=1048576
 hab:a.Aw+b.Aw+Avz m<=1048576
 hm:m.length<=1000000
theorem Sz.hp {s:Sch}{a b:Val}{m:List Mgr}(h:Sz s a b m):Avz m<=1048576:=by have:=h.hab;omega
theorem Kr (v:Val)(s:Sch):(D.B7 v s).Aw <=v.Aw:=D.Pf v s
end Go.CT.Sch
namespace Go.CT.Sch
open Go.Proofs
open Classical in
noncomputable def atB (v:Val) (t:ByteArray):Val:=if h:Ac0 t then(Mi v h.choose).getD Bc else Bc
open Classical in
noncomputable def Avp (s:Sch) (b a:Val) (t:ByteArray):Bool:= !inB (Au s b) t|| !decide (atB b t=atB a t)
noncomputable def Tj (s:Sch) (b a:Val):List ByteArray:=(Au s a).filter (Avp s b a)
def Gm (all new:List ByteArray)(l:List Mgr):List Mgr:=l.map λm=>⟨m.name,Om (Hp m.paths all) new⟩
theorem Bbq (v:Val)(t:ByteArray)(c:v.Aw<=1048576)(h:Ac0 t): ∃b:Bool,W Bbk 0 [v.enc,.str t]=some [.int (atB v t).k,.int (atB v t).n,.str (atB v t).s,.list ((atB v t).l.map bI),.list ((atB v t).f.map bC),.bool b]:=by
 obtain⟨d,g,i⟩:=h.choose_spec
 have a:=Bci v h.choose c g i
 rw[d]at a
 have e:atB v t=(Mi v h.choose).getD Bc:=by unfold atB;rw[dif_pos h]
 rw[e]
 exact⟨_,a⟩
theorem Ba0 (v:Val)(t:ByteArray)(c:v.Aw<=1048576)(h:Ac0 t): ∃b:Bool,W A90 0 [v.enc,.str t]=some [(atB v t).enc,.bool b]:=by
 obtain⟨d,g,i⟩:=h.choose_spec
 have a:=Bde v h.choose c g i
 rw[d]at a
 have e:atB v t=(Mi v h.choose).getD Bc:=by unfold atB;rw[dif_pos h]
 rw[e]
 exact⟨_,a⟩
theorem Tg {v:Val}(t:ByteArray)(a:v.Aw<=1048576):(atB v t).Aw <=1048576:=by
 unfold atB
 split
 ·exact Au6 a
 ·decide+kernel
theorem Aa5 (s:Sch)(b a:Val)(e:b.Aw<=1048576)(g:a.Aw<=1048576)(d:a.valid=true): ∀ (n i:Nat) (acc:List ByteArray),i+n=(Au s a).length ->acc.length<=i->
  W Avv 1 [.int (Au s a).length,.int i,b.enc,a.enc,SL (Au s b),SL acc,SL (Au s a)]=some [SL (acc++((Au s a).drop i).filter (Avp s b a))]
 | 0,i,acc,h,o=>by
  have:i=(Au s a).length :=by omega
  subst this
  rw[Aij,aJ,bS,aN]
  simp only[ltn,aA,aO,aB,Zf]
 | n+1,i,acc,h,o=>by
  have j:i<(Au s a).length :=by omega
  have x:=Jl s a
  have q:=Jl s b
  have r:=aE j
  have t:=fJ IV.str (aI j)
  have hp:=S0 d r
  obtain⟨b1,w1⟩:=Bbq b _ e hp
  obtain⟨b2,u⟩:=Bbq a _ g hp
  have m1:=Tg (v:=b) (Au s a)[i] e
  have m2:=Tg (v:=a) (Au s a)[i] g
  have w:=Axb (atB b (Au s a)[i]) (atB a (Au s a)[i]) (by omega)
  have i1:=Aa5 s b a e g d n (i+1) acc (by omega) (by omega)
  have i2:=Aa5 s b a e g d n (i+1) (acc++ [(Au s a)[i]]) (by omega) (by simp;omega)
  have ap:cA 16 (SL acc) (.list [.str (Au s a)[i]])=some (SL (acc++ [(Au s a)[i]])):=apm IV.str acc (Au s a)[i] (by omega)
  have m:W F70 0 [SL (Au s b),.str (Au s a)[i]]=some [.bool (inB (Au s b) (Au s a)[i])]:=by
   have:=Pp (Au s b) (Au s a)[i] (by omega)
   rw[anyB]at this
   exact this
  rw[Aij,aC j,bH]
  unfold Avp at i1 i2 ⊢
  simp only[lti j,aA,aO,Zt,t,w1,u,I8,m,bD,cO,cT,fI,w,Az,Am,cL,ap]
  rw[Ala,Ala]
  simp only[nxt (show i<4611686018427387904 by omega),aA,i1,i2]
  cases inB (Au s b) (Au s a)[i]with
  | false=>simp
  | true=>
   by_cases c:atB b (Au s a)[i]=atB a (Au s a)[i]<;>simp[c]
theorem Bbg (s:Sch)(b a:Val)(d:s.Aw<=1048576)(e:b.Aw<=1048576)(g:a.Aw<=1048576)(c:a.valid=true):W Avv 0 [s.enc,b.enc,a.enc]=some [SL (Tj s b a)]:=by
 have:=Aa5 s b a e g c (Au s a).length 0 [] (by omega) (aV _)
 simp only[aD,aF,aU]at this
 rw[Ayd]
 simp only[P3 s b d e,P3 s a d g,bD,cY,aA]
 exact this
theorem Aao (s:Sch)(b a:Val)(g:b.Aw<=1048576)(j:a.Aw<=1048576)(d:a.valid=true)(x0 x1:IV): ∀ (n i:Nat) (acc:List ByteArray),i+n=(Au s a).length ->acc.length<=i->
  W Yr 1 [x0,x1,.int i,b.enc,a.enc,SL (Au s a),SL (Au s b),SL acc]=W Yr 3 [x0,x1,.int 0,.int 0,SL (Au s a),SL (acc++((Au s a).drop i).filter (Avp s b a)),.list []]
 | 0,i,acc,h,o=>by
  have:i=(Au s a).length :=by omega
  subst this
  rw[Ail,cY,aJ,bS,aN]
  simp only[ltn,aA,aO,aB,Zf]
 | n+1,i,acc,h,o=>by
  have m:i<(Au s a).length :=by omega
  have x:=Jl s a
  have q:=Jl s b
  have r:=aE m
  have t:=fJ IV.str (aI m)
  have hp:=S0 d r
  obtain⟨b1,w1⟩:=Ba0 b _ g hp
  obtain⟨b2,u⟩:=Ba0 a _ j hp
  have m1:=Tg (v:=b) (Au s a)[i] g
  have m2:=Tg (v:=a) (Au s a)[i] j
  have w:=Aez (atB a (Au s a)[i]) (atB b (Au s a)[i]) (by omega) (by omega)
  have i1:=Aao s b a g j d x0 x1 n (i+1) acc (by omega) (by omega)
  have i2:=Aao s b a g j d x0 x1 n (i+1) (acc++ [(Au s a)[i]]) (by omega) (by simp;omega)
  have ap:cA 16 (SL acc) (.list [.str (Au s a)[i]])=some (SL (acc++ [(Au s a)[i]])):=apm IV.str acc (Au s a)[i] (by omega)
  rw[Ail,cY,aC m,bH]
  unfold Avp at i1 i2 ⊢
  simp only[lti m,aA,aO,Zt,t,w1,u,eR,A82 (Au s b) (Au s a)[i] (by omega),bD,cO,w,Az,Am,cL,ap]
  rw[Ak1,Ak1]
  simp only[nxt (show i<4611686018427387904 by omega),aA,i1,i2]
  cases inB (Au s b) (Au s a)[i]with
  | false=>simp
  | true=>
   by_cases c:atB b (Au s a)[i]=atB a (Au s a)[i]
   ·simp[c]
   ·have c': ¬ atB a (Au s a)[i]=atB b (Au s a)[i]:=λe=>c e.symm
    simp[c,c']
theorem Jk (a b:List ByteArray):(Hp a b).length <=a.length:=cE (cB _ _) (N9 a)
theorem Aol (l:List Mgr)(all new:List ByteArray)(nm:ByteArray)(B:l.length<=1048576)(hp: ∀m∈l,m.paths.length<=1048576)(w:all.length<=1048576)(z:new.length<=1048576): ∀ (n i:Nat) (a:List Mgr),i+n=l.length->a.length<=i+1->
   W Akq 1 [.str nm,SL all,SL new,.list (l.map Mgr.enc),.int l.length,.int i,.list (a.map Mgr.enc)]=W Akq 1 [.str nm,SL all,SL new,.list (l.map Mgr.enc),.int l.length,.int l.length,.list ((a++(Gm all new (l.drop i)).filter λm=> !decide (m.name=nm)).map Mgr.enc)]
 :=by
  intro n
  induction n with
  | zero=>
   intro i a h e
   have:i=l.length:=by omega
   subst this
   rw[aJ]
   simp only[Gm,bS,aL,aN]
  | succ n q=>
   intro i a h e
   have d:i<l.length:=by omega
   obtain⟨x,r⟩: ∃x,l[i]=x:=⟨_,rfl⟩
   have b:=Jt Mgr.enc d
   have hdr:=aC d
   have g:=hp _ (aE d)
   rw[r]at b hdr g
   have j:=nxt (show i<4611686018427387904 by omega)
   have o:=lti d
   clear r
   have e1:=A3n x.paths all g w
   have t:=A2f (Hp x.paths all) new (cE (Jk x.paths all) g) z
   generalize u:Om (Hp x.paths all) new=y at t
   have A:Gm all new (l.drop i)=⟨x.name,y⟩::Gm all new (l.drop (i+1)):=by
    rw[hdr,<-u];rfl
   clear u
   have i1:=q (i+1) a (by omega) (by omega)
   have i2:=q (i+1) (a++ [(⟨x.name,y⟩:Mgr)]) (by omega) (by simp;omega)
   have ap:cA 40 (.list (a.map Mgr.enc)) (.list [.agg [.str x.name,SL y]])=some (.list ((a++ [(⟨x.name,y⟩:Mgr)]).map Mgr.enc)):=apm Mgr.enc (n:=40) a (⟨x.name,y⟩:Mgr) (by omega)
   rw[Alv,A,bH]
   simp only[o,aA,aO,Zt,b,Ajh,fG,A1o,A8c,e1,t,bD,cT,cL,ap]
   rw[Alo,Alo]
   simp only[j,aA,i1,i2]
   by_cases c:x.name=nm<;>simp[c]
theorem Ajq (l:List Mgr)(all new:List ByteArray)(nm:ByteArray)(a:List ByteArray)(d:Nj l)(o:l.length<=1000000)(hp:a.length<=1048576)(b: ∀m∈l,m.paths.length<=1048576)(g:all.length<=1048576)(h:new.length<=1048576):
  W Akq 0 [.list (l.map Mgr.enc),.str nm,SL a,SL all,SL new]=some [.list ((S8 nm a (decide (a.length=0)) (Gm all new l)).map Mgr.enc)]:=by
 have c:=Aol l all new nm (by omega) b g h l.length 0 [(⟨nm,a⟩:Mgr)] (by omega) (aV _)
 have e:IV.agg [.str nm,SL a]=Mgr.enc ⟨nm,a⟩:=rfl
 simp only[aD,aF,aM,aL]at c
 rw[A0y]
 simp only[cT,cL,aA,Gg,e,c]
 rw[Alv]
 simp only[ltn,aA,aO,aB,Zf]
 rw[bF]
 exact Avk nm a (Gm all new l) (Aoi d) (by unfold Gm;rw[aG];omega) hp (λm i=>by
  obtain⟨x,j,rfl⟩:=bO.1 i
  exact cE (Acb _ _) (cE (Jk _ _) (b x j)))
end Go.CT.Sch
namespace Go.CT.Sch
open Go.Proofs
def Awo (m:List Mgr)(nm:ByteArray)(all new:List ByteArray):List Mgr:=
 if(decide ((Er m nm).length =0)&&decide (16<=(S8 nm [] true (Gm all new m)).length))=true then S8 nm [] true (Gm all new m)
 else S8 nm (Wh (Hp (Er m nm) all++new)) (decide ((Wh (Hp (Er m nm) all++new)).length =0)) (Gm all new m)
noncomputable def Bbb (s:Sch) (b a:Val) (m:List Mgr) (nm:ByteArray):List Mgr:=Awo m nm (Au s a) (Tj s b a)
noncomputable def Azt (s:Sch) (b a:Val) (m:List Mgr) (nm:ByteArray):List Mgr:=if okB s b a m nm=true then Bbb s (D.B7 b s) (D.B7 a s) m nm else m
theorem Asw (l:List Mgr)(c:l.length<=1048576)(hp: ∀m∈l,m.paths.length<=1048576): ∀ (n i:Nat) (a:List Mgr),i+n=l.length->a.length<=i->
  W A2s 1 [.list (l.map Mgr.enc),.int l.length,.int i,.list (a.map Mgr.enc)]=some [.list ((a++l.drop i).map Mgr.enc)]
 | 0,i,a,h,d=>by
  have:i=l.length:=by omega
  subst this
  rw[A27,aJ,aN]
  simp only[ltn,aA,aO,aB,Zf]
 | n+1,i,a,h,d=>by
  have b:i<l.length:=by omega
  have e:=hp _ (aE b)
  have i2:=Asw l c hp n (i+1) (a++ [l[i]]) (by omega) (by simp;omega)
  have ap:cA 40 (.list (a.map Mgr.enc)) (.list [.agg [.str l[i].name,.list (l[i].paths.map .str)]])=some (.list ((a++ [l[i]]).map Mgr.enc)):=apm Mgr.enc a l[i] (by omega)
  have cl:O.Io [.list (l[i].paths.map IV.str)]=some [.list (l[i].paths.map .str)]:=Ez (by rw[aG];omega)
  rw[A27,aC b]
  simp only[lti b,aA,aO,Zt,Jt Mgr.enc b,Ajh,Aky,A3b,cl,bD,cT,cL,ap,nxt (show i<4611686018427387904 by omega),i2,aY,bF]
def A3j (l:List Mgr):Nat:=(G8 l).length
theorem Af1 (l:List Mgr)(all new:List ByteArray)(t:l.length<=1048576)(hp: ∀m∈l,m.paths.length<=1048576)(d:all.length<=1048576)(e:new.length<=1048576)(x1:IV): ∀ (n i c:Nat) (left:List Mgr),i+n=l.length->left.length=i->c<=i->
  W Yr 3 [.list (l.map Mgr.enc),x1,.int c,.int i,SL all,SL new,.list (left.map Mgr.enc)]=
   W Yr 3 [.list (l.map Mgr.enc),x1,.int (c+A3j (Gm all new (l.drop i)):Nat),.int l.length,SL all,SL new,.list ((left++Gm all new (l.drop i)).map Mgr.enc)]
 | 0,i,c,left,h,hle,B=>by
  have:i=l.length:=by omega
  subst this
  rw[aJ]
  simp only[Gm,A3j,G8,bS,bA,eJ,aL,aN]
 | n+1,i,c,left,h,hle,B=>by
  have b:i<l.length:=by omega
  obtain⟨x,u⟩: ∃x,l[i]=x:=⟨_,rfl⟩
  have a:=Jt Mgr.enc b
  have hdr:=aC b
  have g:=hp _ (aE b)
  rw[u]at a hdr g
  have j:=nxt (show i<4611686018427387904 by omega)
  have o:=nxt (show c<4611686018427387904 by omega)
  have q:=lti b
  clear u
  have e1:=A1y x.paths all g d
  have w:=Bba (Hp x.paths all) new (cE (Jk x.paths all) g) e
  generalize z:Om (Hp x.paths all) new=y at w
  have A:Gm all new (l.drop i)=⟨x.name,y⟩::Gm all new (l.drop (i+1)):=by
   rw[hdr,<-z];rfl
  clear z
  have r:A3j (Gm all new (l.drop i))=(if decide (0<y.length)=true then 1 else 0)+A3j (Gm all new (l.drop (i+1))):=by
   rw[A]
   unfold A3j
   rw[Ec]
   split<;>simp<;>omega
  have i1:=Af1 l all new t hp d e x1 n (i+1) c (left++ [(⟨x.name,y⟩:Mgr)]) (by omega) (by simp[hle]) (by omega)
  have i2:=Af1 l all new t hp d e x1 n (i+1) (c+1) (left++ [(⟨x.name,y⟩:Mgr)]) (by omega) (by simp[hle]) (by omega)
  have ap:cA 40 (.list (left.map Mgr.enc)) (.list [.agg [.str x.name,SL y]])=some (.list ((left++ [(⟨x.name,y⟩:Mgr)]).map Mgr.enc)):=apm Mgr.enc (n:=40) left (⟨x.name,y⟩:Mgr) (by omega)
  rw[Ald,r,A]
  simp only[Gg,q,aA,aO,Zt,a,Ajh,A8c,e1,w,bD,cT,cL,ap,cY,gt0,o]
  rw[Akj,Akj]
  simp only[j,aA,i1,i2,aY,bF]
  cases decide (0<y.length) with
  | true=>
   simp only[Zt]
   rw[show c+1+A3j (Gm all new (l.drop (i+1)))=c+(1+A3j (Gm all new (l.drop (i+1)))) by omega]
  | false=>simp only[aB,Zf,cP]
theorem Ahx (s:Sch)(b a:Val):(Tj s b a).length <=a.Aw:=cE (cB _ _) (Jl s a)
theorem ge16 (n:Nat):O.ge (.int (n:Int)) (.int 16)=some (.bool (decide (16<=n))):=by rw[O.Gf];congr 2;exact decide_eq_decide.2 (by omega)
theorem Bdv {m:List Mgr}{nm:ByteArray}(a: ∀x∈m,x.paths≠ [])(h:(Er m nm).length =0)(all new:List ByteArray):S8 nm [] true (Gm all new m)=G8 (Gm all new m):=by
 rw[Lq]
 congr 1
 refine List.filter_eq_self.2 λx c=>?_
 obtain⟨y,d,rfl⟩:=bO.1 c
 show(!decide (y.name=nm))=true
 rw[cV,decide_eq_false_iff_not]
 intro e
 unfold Er at h
 cases b:m.find? λm=>decide (m.name=nm) with
 | none=>exact absurd (List.find?_eq_none.1 b y d) (by simp[e])
 | some z=>
  rw[b]at h
  exact a z (cC b) (bX.1 h)
theorem Acy (s:Sch)(b a:Val)(m:List Mgr)(nm:ByteArray)(j:Sz s b a m):
  W A2s 0 [s.enc,b.enc,a.enc,.list (m.map Mgr.enc),.str nm]=some [.list ((Azt s b a m nm).map Mgr.enc)]:=by
 have E:=j.hab
 have h:=j.hs
 have y:=j.hm
 have F:=j.hp
 have e: ∀x∈m,x.paths.length<=1048576:=λx o=>by have:=P1 o;omega
 rw[A0v]
 simp only[Q7 s h,Hn b (by omega),Hn a (by omega),A3f m (by omega) (λx o=>by have:=e x o;omega),Ap0,Ax2 s b h (by omega),Ax2 s a h (by omega),bD,cO,aA,aO,Az,Am]
 have q: ∀a b:Bool,(if a=true then true else b)=(a||b):=by decide
 simp only[q,A95]
 unfold Azt
 cases r:okB s b a m nm with
 | false=>
  have:=Asw m (by omega) e m.length 0 [] (by omega) (aV _)
  simp only[aD,aL,aF,aU]at this
  simp only[aX,Zt,aB,Zf,Gg,aA]
  exact this
 | true=>
  have d:=r
  unfold okB at d
  simp only[aK]at d
  obtain⟨⟨⟨z,A⟩,G⟩,f4⟩:=d
  have H:=Aag z
  have B:=Aag A
  have I:=Kr b s
  have J:=Kr a s
  obtain⟨i,t,hlen⟩:=Aqk G
  simp only[aH,aB,Zf,Zt,(N2 z h (by omega)).1,(N2 A h (by omega)).1,bD]
  generalize D.B7 b s=g at H I ⊢
  generalize D.B7 a s=c at B J ⊢
  have C:=Jl s c
  have K:=Ahx s g c
  have L:=Un m nm
  have M:=Jk (Er m nm) (Au s c)
  have u:=N9 (Hp (Er m nm) (Au s c)++Tj s g c)
  rw[aP]at u
  have N:=Ajq m (Au s c) (Tj s g c) nm [] i y (dJ _) e (by omega) (by omega)
  have Q:=Ajq m (Au s c) (Tj s g c) nm (Wh (Hp (Er m nm) (Au s c)++Tj s g c)) i y (by omega) e (by omega) (by omega)
  have w:W Akq 0 [.list (m.map Mgr.enc),.str nm,.list [],SL (Au s c),SL (Tj s g c)]=some [.list ((S8 nm [] true (Gm (Au s c) (Tj s g c) m)).map Mgr.enc)]:=N
  simp only[P3 s c h (by omega),Bbg s g c h (by omega) (by omega) B.vv,bD,Bas m nm (by omega) t,A3n (Er m nm) (Au s c) (by omega) (by omega),A9t (Hp (Er m nm) (Au s c)) (Tj s g c) (by omega) (by omega),cY,aA,eq0,aO,w,Gg,ge16,Q,Az,Am]
  unfold Bbb Awo
  have hand: ∀a b:Bool,(if a=true then b else false)=(a&&b):=by decide
  simp only[hand]
  split<;>rfl
theorem Aud (s:Sch)(b a:Val)(m:List Mgr)(nm:ByteArray)(i:Sz s b a m):
  W Yr 0 [s.enc,b.enc,a.enc,.list (m.map Mgr.enc),.str nm]=some [.list ((Azt s b a m nm).map Mgr.enc)]:=by
 have E:=i.hab
 have g:=i.hs
 have Q:=i.hm
 have F:=i.hp
 have h: ∀x∈m,x.paths.length<=1048576:=λx j=>by have:=P1 j;omega
 rw[A0b]
 simp only[Bcu m (by omega) (λx j=>by have:=h x j;omega),A3l,Bbj s b g (by omega),Bbj s a g (by omega),bD,cO,aA,aO,Az,Am]
 have o: ∀a b:Bool,(if a=true then true else b)=(a||b):=by decide
 simp only[o,A39]
 unfold Azt
 cases q:okB s b a m nm with
 | false=>simp only[aX,Zt,aB,Zf]
 | true=>
  have e:=q
  unfold okB at e
  simp only[aK]at e
  obtain⟨⟨⟨w,y⟩,G⟩,f4⟩:=e
  have H:=Aag w
  have z:=Aag y
  have I:=Kr b s
  have J:=Kr a s
  obtain⟨K,r,hlen⟩:=Aqk G
  simp only[aH,aB,Zf,Zt,(N2 w g (by omega)).2,(N2 y g (by omega)).2,bD]
  generalize D.B7 b s=d at H I ⊢
  generalize D.B7 a s=c at z J ⊢
  have A:=Jl s c
  have L:=Ahx s d c
  have M:=Un m nm
  have N:=Jk (Er m nm) (Au s c)
  have t:=Aao s d c (by omega) (by omega) z.vv (.list (m.map Mgr.enc)) (.str nm) (Au s c).length 0 [] (by omega) (aV _)
  have B:=Af1 m (Au s c) (Tj s d c) (by omega) h (by omega) (by omega) (.str nm) m.length 0 0 [] (by omega) rfl (aV _)
  simp only[aD,aF,aU,aL,cP]at t B
  rw[show(Au s c).filter (Avp s d c)=Tj s d c from rfl]at t
  have u:W Yr 1 [.list (m.map Mgr.enc),.str nm,.int 0,d.enc,c.enc,SL (Au s c),SL (Au s d),.list []]=_:=t
  have pu1:=Bbf (Gm (Au s c) (Tj s d c) m) nm [] (by unfold Gm;rw[aG];omega)
  have pu2:=Bbf (Gm (Au s c) (Tj s d c) m) nm (Wh (Hp (Er m nm) (Au s c)++Tj s d c)) (by unfold Gm;rw[aG];omega)
  have pu1':W Ab6 0 [.list ((Gm (Au s c) (Tj s d c) m).map Mgr.enc),.str nm,.list []]=some [.list ((S8 nm [] true (Gm (Au s c) (Tj s d c) m)).map Mgr.enc)]:=pu1
  have pu2':W Ab6 0 [.list ((Gm (Au s c) (Tj s d c) m).map Mgr.enc),.str nm,SL (Wh (Hp (Er m nm) (Au s c)++Tj s d c))]=_:=pu2
  simp only[Ado s c g (by omega),Ado s d g (by omega),bD,u,B]
  rw[Ald]
  simp only[Gg,ltn,aA,aO,aB,Zf,A9d m nm (by omega),A1y (Er m nm) (Au s c) (by omega) (by omega),A3u (Hp (Er m nm) (Au s c)) (Tj s d c) (by omega),bD,cY,eq0,ge16,Az,Am,pu1',pu2']
  unfold Bbb Awo
  have hand: ∀a b:Bool,(if a=true then b else false)=(a&&b):=by decide
  simp only[hand]
  by_cases C:(Er m nm).length =0
  ·have:=Bdv r C (Au s c) (Tj s d c)
   rw[this]
   unfold A3j
   split<;>rfl
  ·simp only[C,Ze,dG,aB,Zf]
end Go.CT.Sch
namespace Go.CT.Sch.D
open Go.Proofs
theorem A1v (s:Sch)(y:s.Aw<=1099511627776)(w: ∀p∈s.f,∀m:Int,0<=m->m<=300-> ∃r:Int,W F2 0 [p.s.enc,.int m]=some [.int r]/\1<=r/\r<=max 1 m): ∀ (n i:Nat) (m c:Int),i+n=s.f.length->1<=c->c<=max 1 m->0<=m->m<=300->
  ∃r:Int,W F2 2 [.int m,.int c,.int i,s.enc]=some [.int r]/\1<=r/\r<=max 1 m
 | 0,i,m,c,h,o,a,x,b=>by
  have z: ¬ i<s.f.length:=by omega
  refine⟨c,?_,o,a⟩
  rw[A2i]
  simp[z]
 | n+1,i,m,c,h,o,a,x,b=>by
  have j:i<s.f.length:=by omega
  have G:=s.A7
  have A:=A8 (i:=i) (by omega)
  rw[A2i]
  by_cases d:c<m
  ·have q:IntKind.i64.wrap (m - c)=m - c:=wrap64 (by omega) (by omega)
   obtain⟨r,B,C,E⟩:=w _ (aE j) (m - c) (by omega) (by omega)
   have t:IntKind.i64.wrap (c+r)=c+r:=wrap64 (by omega) (by omega)
   obtain⟨F,u,e,g⟩:=A1v s y w n (i+1) m (c+r) (by omega) (by omega) (by omega) x b
   refine⟨F,?_,e,g⟩
   simp only[dO,aA,eB,aG,dD,Aj,j,Zd,aO,Zt,d,eK,aW,aT,aZ,aI j,aQ,eL,O.Ch,q,B,bD,dZ,t,A,u]
  ·refine⟨c,?_,o,a⟩
   simp[j,d]
theorem A3c (s:Sch)(z:s.Aw<=1099511627776)(w: ∀x∈s.it,∀m:Int,0<=m->m<=300-> ∃r:Int,W F2 0 [x.enc,.int m]=some [.int r]/\1<=r/\r<=max 1 m): ∀ (n i:Nat) (m c:Int),i+n=s.it.length->1<=c->c<=max 1 m->0<=m->m<=300->
  ∃r:Int,W F2 1 [.int m,.int c,.int i,s.enc]=W F2 2 [.int m,.int r,.int 0,s.enc]/\1<=r/\r<=max 1 m
 | 0,i,m,c,h,o,a,y,b=>by
  have A: ¬ i<s.it.length:=by omega
  refine⟨c,?_,o,a⟩
  rw[A1w]
  simp[A]
 | n+1,i,m,c,h,o,a,y,b=>by
  have j:i<s.it.length:=by omega
  have H:=s.Ag7
  have B:=A8 (i:=i) (by omega)
  rw[A1w]
  by_cases d:c<m
  ·have q:IntKind.i64.wrap (m - c)=m - c:=wrap64 (by omega) (by omega)
   obtain⟨r,C,E,F⟩:=w _ (aE j) (m - c) (by omega) (by omega)
   have t:IntKind.i64.wrap (c+r)=c+r:=wrap64 (by omega) (by omega)
   obtain⟨G,u,e,g⟩:=A3c s z w n (i+1) m (c+r) (by omega) (by omega) (by omega) y b
   refine⟨G,?_,e,g⟩
   simp only[cZ,aA,eB,aG,dD,Aj,j,Zd,aO,Zt,d,eK,aW,aT,aZ,aI j,aQ,O.Ch,q,C,bD,dZ,t,B,u]
  ·refine⟨c,?_,o,a⟩
   simp[j,d]
theorem A4w: ∀s:Sch,s.Aw<=1099511627776-> ∀m:Int,0<=m->m<=300-> ∃r:Int,W F2 0 [s.enc,.int m]=some [.int r]/\1<=r/\r<=max 1 m:=by
 refine Sch.ind λs b d e m g a=>?_
 obtain⟨c,i,j,o⟩:=A3c s e (λx h=>b x h (by have:=eE h;omega)) s.it.length 0 m 1 (by omega) (by omega) (by omega) g a
 obtain⟨r,q,t,u⟩:=A1v s e (λp hp=>d p hp (by have:=Sch.Dq hp;omega)) s.f.length 0 m c (by omega) j o g a
 refine⟨r,?_,t,u⟩
 rw[A9y]
 exact i.trans q
end Go.CT.Sch.D
namespace Go.CT.Sch
open Go.Proofs
theorem Ap9 (l:List Mgr)(i:Nat)(a:i<l.length)(c:l.length<=1048576)(hp:l[i].paths.length <=1048576): ∀ (n j:Nat),j+n=l[i].paths.length ->
  W Akp 2 [.list (l.map Mgr.enc),.list (l.map Mgr.enc),.int i,.int j]=W Akp 1 [.list (l.map Mgr.enc),.list (l.map Mgr.enc),.int (i+1:Nat)]
 | 0,j,h=>by
  have:j=l[i].paths.length :=by omega
  subst this
  rw[Ajr]
  simp only[Jt Mgr.enc a,Aky,Gg,aA,ltn,aO,aB,Zf,nxt (show i<4611686018427387904 by omega)]
 | n+1,j,h=>by
  have b:j<l[i].paths.length :=by omega
  have d:=Ap9 l i a c hp n (j+1) (by omega)
  rw[Ajr]
  simp only[Jt Mgr.enc a,Aky,Gg,aA,lti b,aO,Zt,Jt IV.str b,fG,Zd,aH,aB,Zf,nxt (show j<4611686018427387904 by omega),d]
theorem As9 (l:List Mgr)(b:l.length<=1048576)(hp: ∀m∈l,m.paths.length<=1048576): ∀ (n i:Nat),i+n=l.length->W Akp 1 [.list (l.map Mgr.enc),.list (l.map Mgr.enc),.int i]=some [.bool true]
 | 0,i,h=>by
  have:i=l.length:=by omega
  subst this
  rw[Alg]
  simp only[Gg,aA,ltn,aO,aB,Zf]
 | n+1,i,h=>by
  have a:i<l.length:=by omega
  have d:=As9 l b hp n (i+1) (by omega)
  have c:=Ap9 l i a b (hp _ (aE a)) l[i].paths.length 0 (by omega)
  simp only[aD]at c
  rw[Alg]
  simp only[Gg,aA,lti a,aO,Zt,Jt Mgr.enc a,Ajh,Aky,fG,Zd,aH,aB,Zf,dE,c,d]
theorem Bbh (l:List Mgr)(a:l.length<=1048576)(hp: ∀m∈l,m.paths.length<=1048576):W Akp 0 [.list (l.map Mgr.enc),.list (l.map Mgr.enc)]=some [.bool true]:=by
 have:=As9 l a hp l.length 0 (by omega)
 simp only[aD]at this
 rw[Awc]
 simp only[Gg,aA,dE,Zd,aH,aO,aB,Zf,this]
theorem A8i (m:List Mgr)(z:m.length<=1048576)(hp: ∀x∈m,x.paths.length<=1048576)(s:Sch)(a b:Val)(A:s.Aw<=1048576)(B:a.Aw<=1048576)(C:b.Aw<=1048576): ∀ (n i c:Nat),i+n=m.length->c<=1048576+i * 1048576->
  ∃r,W F1 1 [.list (m.map Mgr.enc),.int c,.int i,s.enc,a.enc,b.enc]=some [.bool r]:=by
 obtain⟨sz,d,_⟩:=D.A4w s (by omega) 300 (by omega) (by omega)
 obtain⟨b1,e⟩:=Ael a (by omega) 200 (by omega) (by omega)
 obtain⟨b2,g⟩:=Ael b (by omega) 200 (by omega) (by omega)
 intro n
 induction n with
 | zero=>
  intro i c h t
  have:i=m.length:=by omega
  subst this
  have j:eA (.int (c:Int)) (.int 400)=some (.bool (decide ((c:Int)<400))):=dD
  have o:eA (.int sz) (.int 300)=some (.bool (decide (sz<300))):=dD
  rw[A1x]
  simp only[Gg,aA,ltn,aO,aB,Zf,j,o,d,e,g,bD,Az,Am]
  exact⟨_,rfl⟩
 | succ n u=>
  intro i c h t
  have q:i<m.length:=by omega
  have E:=hp _ (aE q)
  have w:IntKind.i64.wrap ((c:Int)+(m[i].paths.length :Int))=((c+m[i].paths.length :Nat):Int):=by
   have:i * 1048576<=1048576 * 1048576:=dF (by omega) (aV _)
   rw[wrap64 (by omega) (by omega)];omega
  obtain⟨r,y⟩:=u (i+1) (c+m[i].paths.length) (by omega) (by rw[Nat.add_mul];omega)
  have j:eA (.int (c:Int)) (.int 400)=some (.bool (decide ((c:Int)<400))):=dD
  have o:eA (.int sz) (.int 300)=some (.bool (decide (sz<300))):=dD
  rw[A1x]
  simp only[Gg,aA,lti q,aO,Zt,j,o,Jt Mgr.enc q,Aky,dZ,w,nxt (show i<4611686018427387904 by omega),y,d,e,g,bD,Az,Am]
  split
  ·exact⟨r,rfl⟩
  ·exact⟨_,rfl⟩
theorem Bay (m:List Mgr)(c:m.length<=1048576)(hp: ∀x∈m,x.paths.length<=1048576)(s:Sch)(a b:Val)(d:s.Aw<=1048576)(e:a.Aw<=1048576)(g:b.Aw<=1048576): ∃r,W F1 0 [s.enc,a.enc,b.enc,.list (m.map Mgr.enc)]=some [.bool r]:=by
 obtain⟨r,h⟩:=A8i m c hp s a b d e g m.length 0 m.length (by omega) (by omega)
 refine⟨r,?_⟩
 rw[Ba7]
 simp only[Gg,aA]
 exact h
end Go.CT.Sch
namespace Go.CT.Sch
open Go.Proofs
theorem Ap5 {β:Type}{a b c d e g h:IV}{f:IV->IV->IV->IV->IV->IV->IV->Option β} :calls (some [a,b,c,d,e,g,h]) 7 f=f a b c d e g h:=rfl
theorem Aqg: ∀ {p q:List Stp},p.map bL=q.map bL->p=q
 | [],[],_=>rfl
 | [],_::_,h=>by cases h
 | _::_,[],h=>by cases h
 | a::p,b::q,h=>by
  simp only[aM,cS]at h
  obtain⟨c,d⟩:=h
  obtain⟨e,a2,a3,a4⟩:=a
  obtain⟨b1,b2,b3,b4⟩:=b
  simp only[bL,IV.agg.injEq,cS,IV.int.injEq,IV.str.injEq,and_true]at c
  obtain⟨rfl,rfl,rfl,rfl⟩:=c
  rw[Aqg d]
theorem Ars {p q:List Stp}(hp:Dj p=true)(e:Dj q=true)(c: ∀x∈p,x.k≠2)(d: ∀x∈q,x.k≠2)(h:C9 p=C9 q):p=q:=by
 have a:=Aa6 p hp c
 have b:=Aa6 q e d
 rw[h,b]at a
 simp only[Option.some.injEq,cS,IV.list.injEq,and_true]at a
 exact(Aqg a).symm
theorem A2b (v:Val){p:List Stp}(hp:Dj p=true)(a: ∀x∈p,x.k≠2):atB v (C9 p)=(Mi v p).getD Bc:=by
 have h:Ac0 (C9 p):=⟨p,rfl,hp,a⟩
 unfold atB
 rw[dif_pos h,Ars h.choose_spec.2.1 hp h.choose_spec.2.2 a h.choose_spec.1]
def Bb4:Sch:=⟨2,0,9,[],Ar,[],[]⟩
def exS:Sch:=⟨5,0,0,[],Ar,[],[⟨⟨#[97]⟩,false,false,[],Bb4⟩,⟨⟨#[98]⟩,false,false,[],Bb4⟩,⟨⟨#[99]⟩,false,false,[],Bb4⟩]⟩
def vm (l:List (UInt8 × Int)):Val:=⟨5,0,Ar,[],l.map λp=>(⟨#[p.1]⟩,⟨2,p.2,Ar,[],[]⟩)⟩
def exM:List Mgr:= [⟨⟨#[109]⟩,[⟨#[97]⟩,⟨#[98]⟩]⟩]
def stF (c:UInt8):List Stp:= [C3 ⟨#[c]⟩]
theorem A3m (c:UInt8): ∀x∈stF c,x.k≠2:=by
 intro x a
 rw[bW.1 a]
 show(1:Int)≠2
 decide
theorem ex_4:Azt exS (vm [(97,1),(98,2)]) (vm [(97,1),(98,4)]) exM ⟨#[110]⟩= [⟨⟨#[109]⟩,[⟨#[97]⟩]⟩,⟨⟨#[110]⟩,[⟨#[98]⟩]⟩]:=by
 have ok:okB exS (vm [(97,1),(98,2)]) (vm [(97,1),(98,4)]) exM ⟨#[110]⟩=true:=by kernel_rfl
 have e1:D.B7 (vm [(97,1),(98,2)]) exS=vm [(97,1),(98,2)]:=by kernel_rfl
 have d:D.B7 (vm [(97,1),(98,4)]) exS=vm [(97,1),(98,4)]:=by kernel_rfl
 have el:Au exS (vm [(97,1),(98,4)])= [C9 (stF 97),C9 (stF 98)]:=by kernel_rfl
 have el2:Au exS (vm [(97,1),(98,2)])= [C9 (stF 97),C9 (stF 98)]:=by kernel_rfl
 have g:=fun(v:Val)=>A2b v (p:=stF 97) (by kernel_rfl) (A3m 97)
 have c:=fun(v:Val)=>A2b v (p:=stF 98) (by kernel_rfl) (A3m 98)
 have h:Avp exS (vm [(97,1),(98,2)]) (vm [(97,1),(98,4)]) (C9 (stF 97))=false:=by
  have a:(Mi (vm [(97,1),(98,2)]) (stF 97)).getD Bc=(Mi (vm [(97,1),(98,4)]) (stF 97)).getD Bc:=by kernel_rfl
  have b:inB [C9 (stF 97),C9 (stF 98)] (C9 (stF 97))=true:=by kernel_rfl
  unfold Avp
  rw[el2,g,g,a,b];simp
 have i:Avp exS (vm [(97,1),(98,2)]) (vm [(97,1),(98,4)]) (C9 (stF 98))=true:=by
  have a:((Mi (vm [(97,1),(98,2)]) (stF 98)).getD Bc).n =2:=by kernel_rfl
  have b:((Mi (vm [(97,1),(98,4)]) (stF 98)).getD Bc).n =4:=by kernel_rfl
  have j: ¬ (Mi (vm [(97,1),(98,2)]) (stF 98)).getD Bc=(Mi (vm [(97,1),(98,4)]) (stF 98)).getD Bc:=λe=>by
   rw[e,b]at a
   exact absurd a (by decide)
  unfold Avp
  rw[c,c]
  simp[j]
 have ec:Tj exS (vm [(97,1),(98,2)]) (vm [(97,1),(98,4)])= [C9 (stF 98)]:=by
  unfold Tj
  rw[el,bH,bH,h,i]
  rfl
 unfold Azt Bbb
 rw[if_pos ok,e1,d,ec]
 show _=_
 kernel_rfl
def Zy (l:List (UInt8 × Int)):List IV:= [.int 5,.int 0,.str ⟨#[]⟩,.list [],.list (l.map λp=> .agg [.str ⟨#[p.1]⟩,.int 2,.int p.2,.str ⟨#[]⟩,.list [],.list []])]
theorem abcs:W F8 0 [.int 1,.int 2,.int 0]=some (Zy [(97,1),(98,2)])/\W F8 0 [.int 1,.int 0,.int 3]=some (Zy [(97,1),(99,3)])/\W F8 0 [.int 5,.int 0,.int 0]=some (Zy [(97,5)])/\
  W F8 0 [.int 1,.int 0,.int 0]=some (Zy [(97,1)])/\W F8 0 [.int 1,.int 4,.int 0]=some (Zy [(97,1),(98,4)])/\W F8 0 [.int 1,.int 2,.int 3]=some (Zy [(97,1),(98,2),(99,3)])/\W F8 0 [.int 5,.int 2,.int 0]=some (Zy [(97,5),(98,2)]):=
 ⟨Gs 100 (by kernel_rfl),Gs 100 (by kernel_rfl),Gs 100 (by kernel_rfl),Gs 100 (by kernel_rfl),Gs 100 (by kernel_rfl),Gs 100 (by kernel_rfl),Gs 100 (by kernel_rfl)⟩
theorem A5w (l:List (UInt8 × Int)):IV.agg (Zy l)=(vm l).enc :=by
 have:=fE 5 0 Ar [] (l.map λp=>(⟨#[p.1]⟩,⟨2,p.2,Ar,[],[]⟩))
 unfold vm
 rw[<-this,fK]
 rfl
theorem Bbp:W F7 0 []=some Bb4.Hi:=by rw[A9r];rfl
theorem Bcw:W F6 0 []=some [.int 5,.int 0,.int 0,.list [],.str ⟨#[]⟩,.list [],.list (exS.f.map cN)]:=by
 rw[Bbn]
 simp only[Bbp,Sch.Hi,Ap5,cT,cL,aA]
 rfl
theorem Bct (a b:List (UInt8 × Int))(h:(vm a).Aw +(vm b).Aw <=1000):Sz exS (vm a) (vm b) exM:=by
 have c:exS.Aw<=1048576:=of_decide_eq_true (by kernel_rfl)
 have d:Avz exM=2:=rfl
 exact⟨c,by omega,by decide⟩
theorem eq_self (v:Val)(h:v.Aw<=1048576):W A29 0 [v.enc,v.enc]=some [.bool true]:=by
 rw[Aez v v (by omega) (by omega)];simp
end Go.CT.Sch
namespace Go.CT.Sch
open Go.Proofs
abbrev Ae0:Val:=vm [(97,1),(98,2)]
theorem xS:W Bbl 0 [exS.enc,(vm [(97,1),(99,3)]).enc,Ae0.enc,.str ⟨#[97]⟩]=some [.bool true]/\W Bbl 0 [exS.enc,(vm [(97,1),(99,3)]).enc,Ae0.enc,.str ⟨#[99]⟩]=some [.bool false]/\
  W Bbl 0 [exS.enc,(vm [(97,5)]).enc,Ae0.enc,.str ⟨#[97]⟩]=some [.bool false]/\W Bbl 0 [exS.enc,(vm [(97,1)]).enc,Ae0.enc,.str ⟨#[97]⟩]=some [.bool true]:=
 ⟨Gs 100 (by kernel_rfl),Gs 100 (by kernel_rfl),Gs 100 (by kernel_rfl),Gs 100 (by kernel_rfl)⟩
theorem xD:W Bd3 0 [exS.enc,Ae0.enc,.list []]=some [Ae0.enc]/\W Bd3 0 [exS.enc,Ae0.enc,.list [.str ⟨#[98]⟩]]=some [(vm [(97,1)]).enc]:=⟨Gs 100 (by kernel_rfl),Gs 100 (by kernel_rfl)⟩
theorem xM:W Bbz 0 [exS.enc,(vm [(97,1),(99,3)]).enc,Ae0.enc,.bool true]=some [(vm [(97,1),(98,2),(99,3)]).enc]/\W Bbz 0 [exS.enc,(vm [(97,5)]).enc,Ae0.enc,.bool true]=some [(vm [(97,5),(98,2)]).enc]/\
  W Bbz 0 [exS.enc,(vm [(97,1)]).enc,(vm [(97,1)]).enc,.bool true]=some [(vm [(97,1)]).enc]/\W Bb7 0 [(vm [(97,1),(98,2),(99,3)]).enc]=some [(vm [(97,1),(98,2),(99,3)]).enc]/\W Bb7 0 [(vm [(97,5),(98,2)]).enc]=some [(vm [(97,5),(98,2)]).enc]/\W Bb7 0 [(vm [(97,1)]).enc]=some [(vm [(97,1)]).enc]:=
 ⟨Gs 100 (by kernel_rfl),Gs 100 (by kernel_rfl),Gs 100 (by kernel_rfl),Gs 100 (by kernel_rfl),Gs 100 (by kernel_rfl),Gs 100 (by kernel_rfl)⟩
theorem xG:W Bca 0 [.list [.agg [.str ⟨#[109]⟩,.list [.str ⟨#[97]⟩,.str ⟨#[98]⟩]]],.str ⟨#[110]⟩,.list [.str ⟨#[97]⟩,.str ⟨#[99]⟩],.list []]=some [.list [.agg [.str ⟨#[109]⟩,.list [.str ⟨#[97]⟩,.str ⟨#[98]⟩]],.agg [.str ⟨#[110]⟩,.list [.str ⟨#[97]⟩,.str ⟨#[99]⟩]]]]/\W Bca 0 [.list [.agg [.str ⟨#[109]⟩,.list [.str ⟨#[97]⟩,.str ⟨#[98]⟩]]],.str ⟨#[110]⟩,.list [.str ⟨#[97]⟩],.list [.agg [.str ⟨#[97]⟩,.str ⟨#[109]⟩]]]=some [.list [.agg [.str ⟨#[109]⟩,.list [.str ⟨#[98]⟩]],.agg [.str ⟨#[110]⟩,.list [.str ⟨#[97]⟩]]]]/\W Bca 0 [.list [.agg [.str ⟨#[109]⟩,.list [.str ⟨#[97]⟩,.str ⟨#[98]⟩]]],.str ⟨#[109]⟩,.list [.str ⟨#[97]⟩],.list []]=some [.list [.agg [.str ⟨#[109]⟩,.list [.str ⟨#[97]⟩]]]]:=
 ⟨Gs 100 (by kernel_rfl),Gs 100 (by kernel_rfl),Gs 100 (by kernel_rfl)⟩
theorem xO:W Atv 0 [.list [.agg [.str ⟨#[109]⟩,.list [.str ⟨#[97]⟩,.str ⟨#[98]⟩]]],.str ⟨#[110]⟩]=some [.list []]/\W Atv 0 [.list [.agg [.str ⟨#[109]⟩,.list [.str ⟨#[97]⟩,.str ⟨#[98]⟩]]],.str ⟨#[109]⟩]=some [.list [.str ⟨#[97]⟩,.str ⟨#[98]⟩]]/\W Bc0 0 [.list [.agg [.str ⟨#[109]⟩,.list [.str ⟨#[97]⟩,.str ⟨#[98]⟩]]],.str ⟨#[110]⟩]=some [.list [.str ⟨#[97]⟩,.str ⟨#[98]⟩]]/\W Bc0 0 [.list [.agg [.str ⟨#[109]⟩,.list [.str ⟨#[97]⟩,.str ⟨#[98]⟩]]],.str ⟨#[109]⟩]=some [.list []]/\W F70 0 [.list [.str ⟨#[97]⟩,.str ⟨#[98]⟩],.str ⟨#[97]⟩]=some [.bool true]/\W F70 0 [.list [.str ⟨#[97]⟩,.str ⟨#[98]⟩],.str ⟨#[99]⟩]=some [.bool false]/\
  W Aqd 0 [.list [],.list [.str ⟨#[97]⟩,.str ⟨#[99]⟩]]=some [.list []]/\W Aqd 0 [.list [],.list [.str ⟨#[97]⟩,.str ⟨#[98]⟩]]=some [.list []]/\W Aqd 0 [.list [],.list [.str ⟨#[97]⟩]]=some [.list []]/\W Aqd 0 [.list [.str ⟨#[97]⟩,.str ⟨#[98]⟩],.list [.str ⟨#[97]⟩]]=some [.list [.str ⟨#[98]⟩]]/\W Aqd 0 [.list [.str ⟨#[98]⟩],.list []]=some [.list [.str ⟨#[98]⟩]]:=
 ⟨Gs 100 (by kernel_rfl),Gs 100 (by kernel_rfl),Gs 100 (by kernel_rfl),Gs 100 (by kernel_rfl),Gs 100 (by kernel_rfl),Gs 100 (by kernel_rfl),Gs 100 (by kernel_rfl),Gs 100 (by kernel_rfl),Gs 100 (by kernel_rfl),Gs 100 (by kernel_rfl),Gs 100 (by kernel_rfl)⟩
end Go.CT.Sch
namespace Go.CT.Sch
open Go.Proofs
theorem Ax0 (live config:Val)(nm:ByteArray)(force:Bool)(set:List ByteArray)(c:Ko exS live=true)(d:Ko exS config=true)(j:Jw nm=true)(m:D.B7 live exS=live)(o:D.B7 config exS=config)(q:Au exS config=set)(g:live.Aw<=1048576)(a:config.Aw<=1048576):
  W F15 0 [exS.enc,live.enc,.list [.agg [.str ⟨#[109]⟩,.list [.str ⟨#[97]⟩,.str ⟨#[98]⟩]]],.str nm,config.enc,.bool force]=W F15 1 [.list [.agg [.str ⟨#[109]⟩,.list [.str ⟨#[97]⟩,.str ⟨#[98]⟩]]],.str nm,.bool force,.int set.length,.int 0,exS.enc,live.enc,config.enc,.int 0,.int 0,.str ⟨#[]⟩,SL set,.list []]:=by
 have b:exS.Aw<=1048576:=of_decide_eq_true (by kernel_rfl)
 have r:IV.list [.agg [.str ⟨#[109]⟩,.list [.str ⟨#[97]⟩,.str ⟨#[98]⟩]]]= .list (exM.map Mgr.enc):=rfl
 have e:Ui exM=true:=by kernel_rfl
 obtain⟨t,a2,_⟩:=N5 c
 obtain⟨_,b2,_⟩:=N5 d
 have h:=(N2 c b g).1
 have i:=(N2 d b a).1
 rw[m]at h
 rw[o]at i
 rw[A4g,r]
 simp only[Q7 exS b,Hn live (by omega),Hn config (by omega),A3f exM (by decide) (λx u=>by rw[bW.1 u];decide),Ap0,Ax2 exS live b g,Ax2 exS config b a,t,a2,b2,e,j,c,d,bD,cO,aH,aA,aO,aB,Zf,h,i,P3 exS config b a,q,cY]
theorem A2z (l:List (UInt8 × Int))(h:decide ((vm l).Aw <=1000)=true):(vm l).Aw <=1048576:=by have:=of_decide_eq_true h;omega
theorem Bdr (l:List (UInt8 × Int))(h:decide ((vm l).Aw <=1000)=true)(b:Bool)(a:(vm l).valid =b):W F21 0 [(vm l).enc]=some [.bool b]:=by
 have:=of_decide_eq_true h
 rw[Hn (vm l) (by omega),a]
theorem ap_1:W F15 0 [exS.enc,Ae0.enc,.list [.agg [.str ⟨#[109]⟩,.list [.str ⟨#[97]⟩,.str ⟨#[98]⟩]]],.str ⟨#[110]⟩,(vm [(97,1),(99,3)]).enc,.bool false]=some [(vm [(97,1),(98,2),(99,3)]).enc,.list [.agg [.str ⟨#[109]⟩,.list [.str ⟨#[97]⟩,.str ⟨#[98]⟩]],.agg [.str ⟨#[110]⟩,.list [.str ⟨#[97]⟩,.str ⟨#[99]⟩]]],.list [],.int 0]:=by
 obtain⟨m,o,L,M⟩:=xS
 obtain⟨d1,d2⟩:=xD
 obtain⟨m1,m2,m3,q,N,Q⟩:=xM
 obtain⟨r,R,S⟩:=xG
 obtain⟨t,T,u,U,X,w,x,y,Y,z,A⟩:=xO
 have B:=Bdr [(97,1),(98,2),(99,3)] (by kernel_rfl) true (by kernel_rfl)
 rw[Ax0 Ae0 (vm [(97,1),(99,3)]) ⟨#[110]⟩ false [⟨#[97]⟩,⟨#[99]⟩] (by kernel_rfl) (by kernel_rfl) (by kernel_rfl) (by kernel_rfl) (by kernel_rfl) (by kernel_rfl) (A2z _ (by kernel_rfl)) (A2z _ (by kernel_rfl))]
 have a:SL [⟨#[97]⟩,⟨#[99]⟩]= .list [.str ⟨#[97]⟩,.str ⟨#[99]⟩]:=rfl
 have b:((([⟨#[97]⟩,⟨#[99]⟩]:List ByteArray).length :Nat):Int)=2:=rfl
 rw[a,b]
 have C:eA (.int 0) (.int 2)=some (.bool true):=rfl
 have E:eA (.int 1) (.int 2)=some (.bool true):=rfl
 have F:eA (.int 2) (.int 2)=some (.bool false):=rfl
 have G:eA (.int 0) (.int 1)=some (.bool true):=rfl
 have f4:eA (.int 1) (.int 1)=some (.bool false):=rfl
 have H:cX (.list [.str ⟨#[97]⟩,.str ⟨#[99]⟩]) (.int 0)=some (.str ⟨#[97]⟩):=rfl
 have f6:cX (.list [.str ⟨#[97]⟩,.str ⟨#[99]⟩]) (.int 1)=some (.str ⟨#[99]⟩):=rfl
 have I:fS .i64 (.int 0) (.int 1)=some (.int 1):=rfl
 have J:fS .i64 (.int 1) (.int 1)=some (.int 2):=rfl
 have K:eD (.list [.agg [.str ⟨#[109]⟩,.list [.str ⟨#[97]⟩,.str ⟨#[98]⟩]]])=some (.int 1):=rfl
 have c:cX (.list [.agg [.str ⟨#[109]⟩,.list [.str ⟨#[97]⟩,.str ⟨#[98]⟩]]]) (.int 0)=some (.agg [.str ⟨#[109]⟩,.list [.str ⟨#[97]⟩,.str ⟨#[98]⟩]]):=rfl
 have d:dA 0 (.agg [.str ⟨#[109]⟩,.list [.str ⟨#[97]⟩,.str ⟨#[98]⟩]])=some (.str ⟨#[109]⟩):=rfl
 have e:dA 1 (.agg [.str ⟨#[109]⟩,.list [.str ⟨#[97]⟩,.str ⟨#[98]⟩]])=some (.list [.str ⟨#[97]⟩,.str ⟨#[98]⟩]):=rfl
 have g:O.sNe (.str ⟨#[109]⟩) (.str ⟨#[110]⟩)=some (.bool true):=by kernel_rfl
 have f14:eD (.list [])=some (.int 0):=rfl
 have f15:dS (.int 0) (.int 0)=some (.bool false):=rfl
 have h:dS (.int 1) (.int 0)=some (.bool true):=rfl
 have i:eD (.list [.agg [.str ⟨#[109]⟩,.list [.str ⟨#[97]⟩,.str ⟨#[98]⟩]],.agg [.str ⟨#[110]⟩,.list [.str ⟨#[97]⟩,.str ⟨#[99]⟩]]])=some (.int 2):=rfl
 have j:dS (.int 2) (.int 16)=some (.bool false):=rfl
 repeat ((first | rw[Ai8] | rw[Zv] | rw[Zr] | rw[Aab]);simp only[aA,aO,Zt,aB,Zf,bD,cO,aH,aX,cT,cL,m,o,t,u,w,x,y,d1,m1,r,q,B,C,E,F,G,f4,H,f6,I,J,K,c,d,e,g,f14,f15,h,i,j])
theorem ap_2:W F15 0 [exS.enc,Ae0.enc,.list [.agg [.str ⟨#[109]⟩,.list [.str ⟨#[97]⟩,.str ⟨#[98]⟩]]],.str ⟨#[110]⟩,(vm [(97,5)]).enc,.bool false]=some [Bc.enc,.list [],.list [.agg [.str ⟨#[97]⟩,.str ⟨#[109]⟩]],.int 9]:=by
 obtain⟨y,z,g,A⟩:=xS
 obtain⟨d1,d2⟩:=xD
 obtain⟨m1,m2,m3,B,C,E⟩:=xM
 obtain⟨F,G,H⟩:=xG
 obtain⟨I,J,K,L,h,M,N,Q,R,i,j⟩:=xO
 rw[Ax0 Ae0 (vm [(97,5)]) ⟨#[110]⟩ false [⟨#[97]⟩] (by kernel_rfl) (by kernel_rfl) (by kernel_rfl) (by kernel_rfl) (by kernel_rfl) (by kernel_rfl) (A2z _ (by kernel_rfl)) (A2z _ (by kernel_rfl))]
 have a:SL [⟨#[97]⟩]= .list [.str ⟨#[97]⟩]:=rfl
 have b:((([⟨#[97]⟩]:List ByteArray).length :Nat):Int)=1:=rfl
 rw[a,b]
 have m:eA (.int 0) (.int 1)=some (.bool true):=rfl
 have o:eA (.int 1) (.int 1)=some (.bool false):=rfl
 have q:cX (.list [.str ⟨#[97]⟩]) (.int 0)=some (.str ⟨#[97]⟩):=rfl
 have r:fS .i64 (.int 0) (.int 1)=some (.int 1):=rfl
 have f4:eD (.list [.agg [.str ⟨#[109]⟩,.list [.str ⟨#[97]⟩,.str ⟨#[98]⟩]]])=some (.int 1):=rfl
 have t:cX (.list [.agg [.str ⟨#[109]⟩,.list [.str ⟨#[97]⟩,.str ⟨#[98]⟩]]]) (.int 0)=some (.agg [.str ⟨#[109]⟩,.list [.str ⟨#[97]⟩,.str ⟨#[98]⟩]]):=rfl
 have f6:dA 0 (.agg [.str ⟨#[109]⟩,.list [.str ⟨#[97]⟩,.str ⟨#[98]⟩]])=some (.str ⟨#[109]⟩):=rfl
 have u:dA 1 (.agg [.str ⟨#[109]⟩,.list [.str ⟨#[97]⟩,.str ⟨#[98]⟩]])=some (.list [.str ⟨#[97]⟩,.str ⟨#[98]⟩]):=rfl
 have w:O.sNe (.str ⟨#[109]⟩) (.str ⟨#[110]⟩)=some (.bool true):=by kernel_rfl
 have x:eD (.list [.agg [.str ⟨#[97]⟩,.str ⟨#[109]⟩]])=some (.int 1):=rfl
 have c:dS (.int 0) (.int 0)=some (.bool false):=rfl
 have d:dS (.int 1) (.int 0)=some (.bool true):=rfl
 have e:cA 32 (.list []) (.list [.agg [.str ⟨#[97]⟩,.str ⟨#[109]⟩]])=some (.list [.agg [.str ⟨#[97]⟩,.str ⟨#[109]⟩]]):=rfl
 repeat ((first | rw[Ai8] | rw[Zv] | rw[Zr] | rw[Aab]);simp only[aA,aO,Zt,aB,Zf,bD,cO,aH,aX,cT,cL,g,h,m,o,q,r,f4,t,f6,u,w,x,c,d,e])
 rfl
theorem ap_3:W F15 0 [exS.enc,Ae0.enc,.list [.agg [.str ⟨#[109]⟩,.list [.str ⟨#[97]⟩,.str ⟨#[98]⟩]]],.str ⟨#[110]⟩,(vm [(97,5)]).enc,.bool true]=some [(vm [(97,5),(98,2)]).enc,.list [.agg [.str ⟨#[109]⟩,.list [.str ⟨#[98]⟩]],.agg [.str ⟨#[110]⟩,.list [.str ⟨#[97]⟩]]],.list [],.int 0]:=by
 obtain⟨H,I,h,J⟩:=xS
 obtain⟨d1,d2⟩:=xD
 obtain⟨m1,m2,m3,K,i,L⟩:=xM
 obtain⟨M,j,N⟩:=xG
 obtain⟨m,Q,o,R,q,S,T,r,t,u,w⟩:=xO
 have x:=Bdr [(97,5),(98,2)] (by kernel_rfl) true (by kernel_rfl)
 rw[Ax0 Ae0 (vm [(97,5)]) ⟨#[110]⟩ true [⟨#[97]⟩] (by kernel_rfl) (by kernel_rfl) (by kernel_rfl) (by kernel_rfl) (by kernel_rfl) (by kernel_rfl) (A2z _ (by kernel_rfl)) (A2z _ (by kernel_rfl))]
 have a:SL [⟨#[97]⟩]= .list [.str ⟨#[97]⟩]:=rfl
 have b:((([⟨#[97]⟩]:List ByteArray).length :Nat):Int)=1:=rfl
 rw[a,b]
 have y:eA (.int 0) (.int 1)=some (.bool true):=rfl
 have z:eA (.int 1) (.int 1)=some (.bool false):=rfl
 have A:cX (.list [.str ⟨#[97]⟩]) (.int 0)=some (.str ⟨#[97]⟩):=rfl
 have B:fS .i64 (.int 0) (.int 1)=some (.int 1):=rfl
 have f4:eD (.list [.agg [.str ⟨#[109]⟩,.list [.str ⟨#[97]⟩,.str ⟨#[98]⟩]]])=some (.int 1):=rfl
 have C:cX (.list [.agg [.str ⟨#[109]⟩,.list [.str ⟨#[97]⟩,.str ⟨#[98]⟩]]]) (.int 0)=some (.agg [.str ⟨#[109]⟩,.list [.str ⟨#[97]⟩,.str ⟨#[98]⟩]]):=rfl
 have f6:dA 0 (.agg [.str ⟨#[109]⟩,.list [.str ⟨#[97]⟩,.str ⟨#[98]⟩]])=some (.str ⟨#[109]⟩):=rfl
 have E:dA 1 (.agg [.str ⟨#[109]⟩,.list [.str ⟨#[97]⟩,.str ⟨#[98]⟩]])=some (.list [.str ⟨#[97]⟩,.str ⟨#[98]⟩]):=rfl
 have F:O.sNe (.str ⟨#[109]⟩) (.str ⟨#[110]⟩)=some (.bool true):=by kernel_rfl
 have G:eD (.list [.agg [.str ⟨#[97]⟩,.str ⟨#[109]⟩]])=some (.int 1):=rfl
 have c:dS (.int 0) (.int 0)=some (.bool false):=rfl
 have d:dS (.int 1) (.int 0)=some (.bool true):=rfl
 have e:cA 32 (.list []) (.list [.agg [.str ⟨#[97]⟩,.str ⟨#[109]⟩]])=some (.list [.agg [.str ⟨#[97]⟩,.str ⟨#[109]⟩]]):=rfl
 have g:eD (.list [.agg [.str ⟨#[109]⟩,.list [.str ⟨#[98]⟩]],.agg [.str ⟨#[110]⟩,.list [.str ⟨#[97]⟩]]])=some (.int 2):=rfl
 have f14:dS (.int 2) (.int 16)=some (.bool false):=rfl
 repeat ((first | rw[Ai8] | rw[Zv] | rw[Zr] | rw[Aab]);simp only[aA,aO,Zt,aB,Zf,bD,cO,aH,aX,cT,cL,h,q,m,o,t,r,d1,m2,j,i,x,y,z,A,B,f4,C,f6,E,F,G,c,d,e,g,f14])
theorem ap_4:W F15 0 [exS.enc,Ae0.enc,.list [.agg [.str ⟨#[109]⟩,.list [.str ⟨#[97]⟩,.str ⟨#[98]⟩]]],.str ⟨#[109]⟩,(vm [(97,1)]).enc,.bool false]=some [(vm [(97,1)]).enc,.list [.agg [.str ⟨#[109]⟩,.list [.str ⟨#[97]⟩]]],.list [],.int 0]:=by
 obtain⟨E,F,G,j⟩:=xS
 obtain⟨d1,d2⟩:=xD
 obtain⟨m1,m2,m3,H,I,m⟩:=xM
 obtain⟨J,K,o⟩:=xG
 obtain⟨L,q,M,r,N,Q,R,S,T,a,b⟩:=xO
 have t:=Bdr [(97,1)] (by kernel_rfl) true (by kernel_rfl)
 rw[Ax0 Ae0 (vm [(97,1)]) ⟨#[109]⟩ false [⟨#[97]⟩] (by kernel_rfl) (by kernel_rfl) (by kernel_rfl) (by kernel_rfl) (by kernel_rfl) (by kernel_rfl) (A2z _ (by kernel_rfl)) (A2z _ (by kernel_rfl))]
 have c:SL [⟨#[97]⟩]= .list [.str ⟨#[97]⟩]:=rfl
 have d:((([⟨#[97]⟩]:List ByteArray).length :Nat):Int)=1:=rfl
 rw[c,d]
 have u:eA (.int 0) (.int 1)=some (.bool true):=rfl
 have w:eA (.int 1) (.int 1)=some (.bool false):=rfl
 have x:cX (.list [.str ⟨#[97]⟩]) (.int 0)=some (.str ⟨#[97]⟩):=rfl
 have y:fS .i64 (.int 0) (.int 1)=some (.int 1):=rfl
 have f4:eD (.list [.agg [.str ⟨#[109]⟩,.list [.str ⟨#[97]⟩,.str ⟨#[98]⟩]]])=some (.int 1):=rfl
 have z:cX (.list [.agg [.str ⟨#[109]⟩,.list [.str ⟨#[97]⟩,.str ⟨#[98]⟩]]]) (.int 0)=some (.agg [.str ⟨#[109]⟩,.list [.str ⟨#[97]⟩,.str ⟨#[98]⟩]]):=rfl
 have f6:dA 0 (.agg [.str ⟨#[109]⟩,.list [.str ⟨#[97]⟩,.str ⟨#[98]⟩]])=some (.str ⟨#[109]⟩):=rfl
 have A:dA 1 (.agg [.str ⟨#[109]⟩,.list [.str ⟨#[97]⟩,.str ⟨#[98]⟩]])=some (.list [.str ⟨#[97]⟩,.str ⟨#[98]⟩]):=rfl
 have B:O.sNe (.str ⟨#[109]⟩) (.str ⟨#[109]⟩)=some (.bool false):=by kernel_rfl
 have C:eD (.list [])=some (.int 0):=rfl
 have e:dS (.int 0) (.int 0)=some (.bool false):=rfl
 have g:dS (.int 1) (.int 0)=some (.bool true):=rfl
 have h:eD (.list [.agg [.str ⟨#[109]⟩,.list [.str ⟨#[97]⟩]]])=some (.int 1):=rfl
 have i:dS (.int 1) (.int 16)=some (.bool false):=rfl
 repeat ((first | rw[Ai8] | rw[Zv] | rw[Zr] | rw[Aab]);simp only[aA,aO,Zt,aB,Zf,bD,cO,aH,aX,cT,cL,j,q,r,a,b,d2,m3,o,m,t,u,w,x,y,f4,z,f6,A,B,C,e,g,h,i])
end Go.CT.Sch
namespace Go.CT.Sch
open Go.Proofs
theorem Ate:W F5 0 []=some [.bool true]:=by
 obtain⟨c,a2,a3,a4,a5,d,e⟩:=abcs
 have e1:=ap_1
 have g:=ap_2
 have h:=ap_3
 have i:=ap_4
 have e5:=Acy exS (vm [(97,1),(98,2)]) (vm [(97,1),(98,4)]) exM ⟨#[110]⟩ (Bct _ _ (of_decide_eq_true (by kernel_rfl)))
 rw[ex_4]at e5
 have j:=eq_self (vm [(97,1),(98,2),(99,3)]) (of_decide_eq_true (by kernel_rfl))
 have m:=eq_self (vm [(97,5),(98,2)]) (of_decide_eq_true (by kernel_rfl))
 have o:=eq_self (vm [(97,1)]) (of_decide_eq_true (by kernel_rfl))
 have q:=Bbh [⟨⟨#[109]⟩,[⟨#[97]⟩]⟩,⟨⟨#[110]⟩,[⟨#[98]⟩]⟩] (by decide) (by simp)
 have r:=Auw [⟨⟨#[109]⟩,[⟨#[97]⟩,⟨#[98]⟩]⟩,⟨⟨#[110]⟩,[⟨#[97]⟩,⟨#[99]⟩]⟩] ⟨#[97]⟩ (by decide) (by simp)
 have t:IV.agg [.int 5,.int 0,.int 0,.list [],.str ⟨#[]⟩,.list [],.list (exS.f.map cN)]=exS.enc:=by rw[Sch.En,Sch.Ck];rfl
 have u:IV.list (exM.map Mgr.enc)= .list [.agg [.str ⟨#[109]⟩,.list [.str ⟨#[97]⟩,.str ⟨#[98]⟩]]]:=rfl
 have w: ∀l,IV.agg [.int 5,.int 0,.str ⟨#[]⟩,.list [],.list (l.map λp:UInt8 × Int=> .agg [.str ⟨#[p.1]⟩,.int 2,.int p.2,.str ⟨#[]⟩,.list [],.list []])]=(vm l).enc :=A5w
 rw[u]at e5
 simp only[Zy]at c a2 a3 a4 a5 d e
 rw[A9k]
 simp only[cL,cT,aA,Bcw,Ap5,c,a2,a3,a4,a5,d,e,fU,t,w,e1,g,h,i,e5,O.A78,bD]
 have a:W Apk 0 [.list [.agg [.str ⟨#[109]⟩,.list [.str ⟨#[97]⟩,.str ⟨#[98]⟩]],.agg [.str ⟨#[110]⟩,.list [.str ⟨#[97]⟩,.str ⟨#[99]⟩]]],.str ⟨#[97]⟩]=some [.list [.str ⟨#[109]⟩,.str ⟨#[110]⟩]]:=r
 have b:W Akp 0 [.list ([⟨⟨#[109]⟩,[⟨#[97]⟩]⟩,⟨⟨#[110]⟩,[⟨#[98]⟩]⟩].map Mgr.enc),.list [.agg [.str ⟨#[109]⟩,.list [.str ⟨#[97]⟩]],.agg [.str ⟨#[110]⟩,.list [.str ⟨#[98]⟩]]]]=some [.bool true]:=q
 simp only[j,m,o,b,a,bD,aA]
 show _=_
 kernel_rfl
theorem Aje (nm:ByteArray)(a:List ByteArray): ∀ (l:List Mgr) (d:Bool),∀x∈S8 nm a d l,x=⟨nm,a⟩\/x∈l
 | [],d,x,h=>by
  rw[S8]at h
  split at h
  ·simp at h
  ·exact .inl (by simpa using h)
 | m::l,d,x,h=>by
  rw[S8]at h
  rcases cJ.1 h with h | h
  ·rcases cJ.1 h with h | h
   ·split at h
    ·exact .inl (by simpa using h)
    ·simp at h
   ·split at h
    ·exact .inr (by rw[bW.1 h];simp)
    ·simp at h
  ·rcases Aje nm a l _ x h with h | h
   ·exact .inl h
   ·exact .inr (by simp[h])
theorem Amq (nm:ByteArray)(a:List ByteArray): ∀ (l:List Mgr) (d:Bool),(S8 nm a d l).length <=2 * l.length+1
 | [],d=>by rw[S8];cases d<;>simp
 | m::l,d=>by
  have c:=Amq nm a l (d|| !blt m.name nm)
  have one: ∀ (b:Bool) (x:Mgr),(if b=true then[x]else[]).length <=1:=λb x=>by cases b<;>simp
  have e:=one (!d && !blt m.name nm) ⟨nm,a⟩
  have g:=one (!decide (m.name=nm)&&decide (0<m.paths.length)) m
  rw[S8]
  simp only[aP,bT]
  omega
theorem Avd (s:Sch)(b a:Val)(m:List Mgr)(nm:ByteArray)(h:Sz s b a m)(z:m.length<=500000):(Azt s b a m nm).length <=1048576/\ ∀x∈Azt s b a m nm,x.paths.length<=1048576:=by
 have i:=h.hab
 have j:=h.hp
 unfold Azt
 split
 ·have A:=Kr a s
  have o:=Ahx s (D.B7 b s) (D.B7 a s)
  have q:=Un m nm
  have r:=Jk (Er m nm) (Au s (D.B7 a s))
  have g:=N9 (Hp (Er m nm) (Au s (D.B7 a s))++Tj s (D.B7 b s) (D.B7 a s))
  rw[aP]at g
  have t: ∀all new:List ByteArray,(Gm all new m).length =m.length/\ ∀x∈Gm all new m,x.paths.length<=1048576:=λall new=>⟨aG ..,λx c=>by
   obtain⟨y,u,rfl⟩:=bO.1 c
   have w:=Acb (Hp y.paths all) new
   have B:=Jk y.paths all
   have C:=P1 u
   show(Om _ _).length <=_;omega⟩
  have gen: ∀ (e:List ByteArray) (d:Bool) (all new:List ByteArray),e.length<=1048576->(S8 nm e d (Gm all new m)).length <=1048576/\ ∀x∈S8 nm e d (Gm all new m),x.paths.length<=1048576:=λe d all new hp=>by
   obtain⟨k1,k2⟩:=t all new
   have w:=Amq nm e (Gm all new m) d
   refine⟨by omega,λx c=>?_⟩
   rcases Aje nm e _ d x c with rfl | c
   ·exact hp
   ·exact k2 x c
  unfold Bbb Awo
  split
  ·exact gen _ _ _ _ (dJ _)
  ·exact gen _ _ _ _ (by omega)
 ·exact⟨by omega,λx c=>by have:=P1 c;omega⟩
theorem Aed (s:Sch)(b a:Val)(m:List Mgr)(nm:ByteArray)(c:Sz s b a m)(d:m.length<=500000)(l:List ByteArray)(g:l.length<=1048576): ∀ (n i:Nat),i+n=l.length->
  W F0 1 [.list (m.map Mgr.enc),.str nm,.int i,s.enc,b.enc,a.enc,SL l,SL l]=some [.bool true]
 | 0,i,h=>by
  have:i=l.length:=by omega
  subst this
  obtain⟨j,o⟩:=Avd s b a m nm c d
  rw[A3e,cY]
  simp only[aA,ltn,aO,aB,Zf,Ate,bD,Zt,Acy s b a m nm c,Aud s b a m nm c,Bbh _ j o]
 | n+1,i,h=>by
  have e:i<l.length:=by omega
  have q:=fJ IV.str (aI e)
  have r:=Aed s b a m nm c d l g n (i+1) (by omega)
  rw[A3e,cY]
  simp only[aA,lti e,aO,Zt,q,fG,Zd,aH,aB,Zf,nxt (show i<4611686018427387904 by omega),r]
theorem Aib (s:Sch)(b a:Val)(m:List Mgr)(nm p:ByteArray)(e:Sz s b a m)(h:m.length<=500000):
  W F0 0 [s.enc,b.enc,a.enc,.list (m.map Mgr.enc),.str nm,.str p]=some [.bool true]:=by
 have i:=e.hab
 have j:=e.hp
 have d: ∀x∈m,x.paths.length<=1048576:=λx o=>by have:=P1 o;omega
 obtain⟨c,q⟩:=Bay m (by omega) d s b a e.hs (by omega) (by omega)
 have hlen:(Is p m).length <=m.length:=by unfold Is;rw[aG];exact cB _ _
 have g:=Aed s b a m nm e h (Is p m) (by omega) (Is p m).length 0 (by omega)
 simp only[aD]at g
 rw[Baq]
 simp only[q,bD,cO,aA,aO,Ate,Auw m p (by omega) d,A4z m p (by omega) d,cY,dE,Zd,aH,aB,Zf,g]
 cases c<;>rfl
theorem Ac5: ∀m:List Mgr,3 * m.length+Avz m<=fD (m.map Mgr.enc)
 | []=>aV _
 | x::m=>by
  have b:=Ac5 m
  have a:=Dg (x.paths.map IV.str)
  rw[aG]at a
  simp only[aM,fD,Mgr.enc,dI,Avz,bT]
  omega
theorem Bdb {s:Sch}{a b:Val}{m:List Mgr}(h:s.Aw+a.Aw+b.Aw+fD (m.map Mgr.enc)<=1048576):Sz s a b m/\m.length<=500000:=by
 have:=Ac5 m
 exact⟨⟨by omega,by omega,by omega⟩,by omega⟩
end Go.CT.Sch
