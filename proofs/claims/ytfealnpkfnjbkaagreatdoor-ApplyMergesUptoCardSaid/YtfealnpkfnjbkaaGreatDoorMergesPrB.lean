import Derived.Test.YtfealnpkfnjbkaaGreatDoorMergesPrA
import Derived.Test.YtfealnpkfnjbkaaGreatDoorCtC
import Derived.Test.YtfealnpkfnjbkaaGreatDoorLib
set_option linter.unusedVariables false
set_option linter.unusedSimpArgs false
open Bool renaming false_eq_true->aB,and_eq_true->aJ,not_true->aO,not_false->bB,true_and->bL,false_and->cF,and_self->cI,and_false->dJ,not_eq_true'->eP,not_eq_true->eY,false_or->fO,or_false->gM,not_not->gO,true_or->gS
open ByteArray renaming toList_data_append->cO,size_append->fI
open Classical renaming byContradiction->cS
open Go.CT.Fld renaming enc->aS,Bl->eH,Iz->eQ,Ci->gQ
open Go.CT.IV renaming bulk->fD,Dh->hG
open Go.CT.O renaming Aa->aR,eq_int->bI,Ac->bO,As->cT,Au->dE,Ap->dG,append->dN,Ah->dO,proj->qAC,B6->eA,Ak->eE,Ch->eM,Cp->eT,Ai->eU,index->eZ,Ao->fA,setAt->fE,Cq->fH,Bw->fN,C9->fX,gt->gW,len->hB,Bg->hJ,lt->hK,Bm->hL
open Go.CT.Prim renaming ev->fM
open Go.CT.SFld renaming enc->bK,Qn->eN,Bl->gG
open Go.CT.Sch renaming enc->cK,Hd->cY,B5->dF,Bl->dR,Ip->dZ,Ge->fK,Be->fP,C4->gI,Ee->gJ,Bz->gK,Dn->gX
open Go.CT.Sch.Sch renaming Gp->eI
open Go.CT.Sch.Stp renaming enc->bN,Bl->gY,C4->gZ
open Go.CT.Srt renaming LE->eJ,len->gH,idx->gP,Atw->hC
open Go.CT.Val renaming enc->aZ,Bz->bW,B5->cE,Be->cJ,Bl->cN,D5->cW,Acw->dA,Z2->dB,Ci->eL,Aur->eO,C4->eR,Ee->eS,ind->fC,Dn->fQ,Bx->fR,Sx->gA,Tg->gB,Aq->gL,Ew->gR,size_eq->gU,Eg->gV,Biz->hD,get->hF
open Int renaming cast_ofNat_Int->aD,natCast_nonneg->aU,toNat_natCast->aW,toNat_zero->cV,le_refl->dS
open List renaming drop_eq_getElem_cons->aC,drop_zero->aE,getElem_mem->aF,length_map->aG,map_cons->aI,getElem?_eq_getElem->aK,map_nil->aL,drop_length->aM,length_append->aP,append_nil->aQ,length_nil->aX,drop_of_length_le->aY,getElem?_map->bA,nil_append->bC,length_eq_one_iff->bD,filter_cons->bE,flatMap_cons->bF,append_assoc->bG,singleton_append->bH,mem_map->bJ,length_singleton->bM,mem_cons->bQ,pairwise_cons->bR,all_eq_true->bT,length_cons->bU,mem_singleton->bY,find?_cons->bZ,mem_append->cA,getElem?_cons_zero->cB,length_eq_zero_iff->cC,mem_cons_of_mem->cD,filter_nil->cG,mem_cons_self->cH,mem_of_find?_eq_some->cL,flatMap_nil->cM,map_append->cP,mem_flatMap->cQ,set_getElem_self->cR,all_cons->cU,all_nil->dC,mem_filter->dD,length->dH,mem_append_left->dI,length_pos_iff->dM,headD_cons->dP,drop_eq_nil_of_le->dU,length_filter_le->qAD,getElem_map->dW,mem_of_getElem?->dY,head?_cons->eB,all_append->eC,filter_eq_self->eD,filter_append->eK,length_drop->eV,length_take->eW,pairwise_singleton->eX,take_of_length_le->fB,foldl_cons->fF,find?_eq_none->fS,map_set->fV,pairwise_map->fW,isEmpty_nil->fY,cons_append->fZ,find?_some->gD
open List.Pairwise renaming nil->bP,filter->fL,sublist->gT,map->hI
open List.cons renaming injEq->gE
open Nat renaming le_refl->aT,zero_add->cZ,zero_le->dK,le_of_not_lt->dL,le_add_right->dX,le_trans->eF,mul_le_mul->eG,add_sub_cancel->fT,le_add_left->gF,add_zero->gN
open Option renaming bind_some->aA,getD_some->aH,map_some->aN,isSome_some->aV,isSome_iff_exists->bS,getD_none->bV,isSome_none->bX,bind_eq_some_iff->cX,map_none->dQ,isSome_map->fU
open Option.some renaming inj->fG
open UInt8 renaming lt_iff_toNat_lt->fJ,toNat_inj->gC
namespace Go.CT.Sch
open Go.Proofs
theorem Ap1 {α β R:Type}(l:List α)(I:Nat->β->Prop)(F:Nat->β->R)(step:β->α->β)(fin:β->R)
  (g: ∀i (a:i<l.length) b,I i b->F i b=F (i+1) (step b l[i])/\I (i+1) (step b l[i])) (j: ∀b,I l.length b->F l.length b=fin b):
  ∀ (n i:Nat) (b:β),i+n=l.length->I i b->F i b=fin ((l.drop i).foldl step b)
 | 0,i,b,h,c=>by
  have:i=l.length:=by omega
  subst this
  rw[j b c,aM];rfl
 | n+1,i,b,h,c=>by
  have a:i<l.length:=by omega
  obtain⟨e,d⟩:=g i a b c
  rw[e,Ap1 l I F step fin g j n (i+1) _ (by omega) d,aC a];rfl
theorem Z0 {α β R:Type}(l:List α)(I:Nat->β->Prop)(F:Nat->β->R)(step:β->α->β)(fin:β->R)(b:β)
  (a: ∀i (e:i<l.length) b,I i b->F i b=F (i+1) (step b l[i])/\I (i+1) (step b l[i])) (c: ∀b,I l.length b->F l.length b=fin b) (d:I 0 b):
  F 0 b=fin (l.foldl step b):=by
 have:=Ap1 l I F step fin a c l.length 0 b (by omega) d
 rwa [aE]at this
theorem Tj {α β:Type}(g:α->β): ∀ (l:List α) (b:List β),l.foldl (λb x=>b++ [g x]) b=b++l.map g
 | [],b=>by simp
 | x::l,b=>by rw[fF,Tj g l];simp
theorem Hy {α:Type}(enc:α->IV){l:List α}{i:Nat}(h:i<l.length):eZ (.list (l.map enc)) (.int i)=some (enc l[i]):=by
 simp only[eU,aU,Zt,aW,bA,aK h,aN]
theorem Dz {α:Type}(enc:α->IV)(l:List α):hB (.list (l.map enc))=some (.int l.length):=by rw[fA,aG]
theorem apm {α:Type}(enc:α->IV){n:Nat}(l:List α)(x:α)(b:l.length<=137438953471)(a:n<=1024:=by decide):dN n (.list (l.map enc)) (.list [enc x])=some (.list ((l++ [x]).map enc)):=by
 rw[hJ,if_pos]
 ·simp
 ·have:(l.length+1) * n<=137438953472 * 1024:=eG (by omega) a
  simp only[aG,bM]
  unfold Bb;omega
theorem lti {i n:Nat}(h:i<n):hK (.int i) (.int n)=some (.bool true):=by rw[dO];simp;omega
theorem ltn (n:Nat):hK (.int n) (.int n)=some (.bool false):=by rw[dO];simp
theorem nxt {i:Nat}(h:i<4611686018427387904):O.add .i64 (.int i) (.int 1)=some (.int ((i+1:Nat):Int)):=by rw[eE,Bd (by omega)]
def Hg (x:Kid):IV:= .agg [.int x.1.k,.str x.1.nm,.int x.1.ix,.str x.1.vl,.int x.2.1.k,.int x.2.1.n,.str x.2.1.s,.list (x.2.1.l.map aZ),.list (x.2.1.f.map aS),
 .int (x.2.2.getD Bj).k,.int (x.2.2.getD Bj).mn,.int (x.2.2.getD Bj).mx,.list ((x.2.2.getD Bj).en.map .str),.str (x.2.2.getD Bj).key,.list ((x.2.2.getD Bj).it.map cK),.list ((x.2.2.getD Bj).f.map bK),.bool x.2.2.isSome]
theorem Arx (x:Kid):O.projs 0 4 (Hg x)=some x.1.enc:=rfl
theorem Av5 (x:Kid):O.projs 4 5 (Hg x)=some x.2.1.enc:=by rw[gV,cJ];rfl
theorem Be9 (x:Kid):O.projs 9 7 (Hg x)=some (x.2.2.getD Bj).enc :=by rw[Sch.Eg,fP];rfl
theorem kid0 (x:Kid):qAC 0 (Hg x)=some (.int x.1.k):=rfl
theorem kid1 (x:Kid):qAC 1 (Hg x)=some (.str x.1.nm):=rfl
theorem kid3 (x:Kid):qAC 3 (Hg x)=some (.str x.1.vl):=rfl
theorem kid4 (x:Kid):qAC 4 (Hg x)=some (.int x.2.1.k):=rfl
theorem kid9 (x:Kid):qAC 9 (Hg x)=some (.int (x.2.2.getD Bj).k):=rfl
theorem Bka (x:Kid):qAC 13 (Hg x)=some (.str (x.2.2.getD Bj).key):=rfl
theorem Bkd (x:Kid):qAC 16 (Hg x)=some (.bool x.2.2.isSome):=rfl
theorem Aos (s:Sch)(p:ByteArray × Val)(d:s.Aq<=1099511627776): ∀ (n i:Nat),i+n=s.f.length->
  ∃r:Int,W F103 1 [.list (s.f.map bK),aS p,.int s.f.length,.int i]=some [.int r]/\
   ((((s.f.drop i).find? λq=>decide (q.nm=p.1))=none/\r<0)\/(∃j:Nat,r=j/\s.f[j]?=((s.f.drop i).find? λq=>decide (q.nm=p.1))/\((s.f.drop i).find? λq=>decide (q.nm=p.1)).isSome =true))
 | 0,i,h=>by
  rw[Api]
  have b: ¬ i<s.f.length:=by omega
  refine⟨-1,by simp[b],.inl ⟨by simp[aY (dL b)],by omega⟩⟩
 | n+1,i,h=>by
  have a:i<s.f.length:=by omega
  have m:=s.Bc
  obtain⟨r,e,g⟩:=Aos s p d n (i+1) (by omega)
  rw[Api,aC a,bZ]
  simp only[lti a,aA,aR,Zt,Hy bK a,A4w,gG,eH,fH,bO,nxt (show i<4611686018427387904 by omega),e]
  by_cases c:s.f[i].nm =p.1
  ·refine⟨i,by simp[c],.inr ⟨i,rfl,by simp[c],by simp[c]⟩⟩
  ·have c':decide (s.f[i].nm =p.1)=false:=by simpa using c
   simp only[c',aB,Zf]
   exact⟨r,rfl,g⟩
def Ct (s:Sch)(x:ByteArray × Val):Kid:=(Da x.1,x.2,D7 s x.1)
theorem Asx (s:Sch)(v:Val)(z:s.Aq<=1099511627776)(H:v.Aq<=1048576):W Bii 0 [s.enc,v.enc]=some [.list ((v.f.map (Ct s)).map Hg)]:=by
 have I:=v.Bc
 rw[A5j]
 simp only[cE,aA,Dz]
 refine(Z0 v.f (λi (b:List Kid)=>b.length=i) (λi b=>W Bii 1 [.list (v.f.map aS),.int v.f.length,.int i,s.enc,.list (b.map Hg)]) (λb x=>b++ [Ct s x]) (λb=>some [.list (b.map Hg)]) [] ?_ ?_ rfl).trans ?_
 ·intro i u b w
  refine⟨?_,by simp[w]⟩
  rw[A9t]
  have g: ∀ (o:Option Sch),D7 s v.f[i].1 =o->W Bii 2 [.list (v.f.map aS),.int v.f.length,.int i,s.enc,.list (b.map Hg),.int 1,.str v.f[i].1,.int 0,.str ⟨#[]⟩,.int v.f[i].2.k,.int v.f[i].2.n,.str v.f[i].2.s,.list (v.f[i].2.l.map aZ),.list (v.f[i].2.f.map aS),
    .int (o.getD Bj).k,.int (o.getD Bj).mn,.int (o.getD Bj).mx,.list ((o.getD Bj).en.map .str),.str (o.getD Bj).key,.list ((o.getD Bj).it.map cK),.list ((o.getD Bj).f.map bK),.bool o.isSome]=
    W Bii 1 [.list (v.f.map aS),.int v.f.length,.int (i+1:Nat),s.enc,.list ((b++ [Ct s v.f[i]]).map Hg)]:=by
   rintro o rfl
   have A:=apm Hg (n:=248) b (Ct s v.f[i]) (by omega)
   rw[A4b]
   simp only[cT,dE,aA,nxt (show i<4611686018427387904 by omega)]
   have B:(IV.agg [.int 1,.str v.f[i].1,.int 0,.str ⟨#[]⟩,.int v.f[i].2.k,.int v.f[i].2.n,.str v.f[i].2.s,.list (v.f[i].2.l.map aZ),.list (v.f[i].2.f.map aS),
    .int ((D7 s v.f[i].1).getD Bj).k,.int ((D7 s v.f[i].1).getD Bj).mn,.int ((D7 s v.f[i].1).getD Bj).mx,.list (((D7 s v.f[i].1).getD Bj).en.map .str),.str ((D7 s v.f[i].1).getD Bj).key,.list (((D7 s v.f[i].1).getD Bj).it.map cK),.list (((D7 s v.f[i].1).getD Bj).f.map bK),.bool (D7 s v.f[i].1).isSome])=Hg (Ct s v.f[i]):=rfl
   rw[B,A];rfl
  simp only[lti u,aA,aR,Zt,Hy aS u,eH,eQ,cN,eR,eS,bW,cE,cY,Dz,fN]
  cases c:s.it with
  | cons t ts=>
   have a:D7 s v.f[i].1 =some t:=by unfold D7;rw[c]
   have:=g (some t) a
   simp only[aH,aV]at this
   have h:(0:Int)<((t::ts).length :Nat):=by simp
   simp only[h,Zd,Zt,aI,eU,dS,cV,cB,aA,dR,gI,gJ,gK,dF,cY,dZ]
   exact this
  | nil=>
   have a:D7 s v.f[i].1 =(s.fld v.f[i].1).map (·.s):=by unfold D7;rw[c]
   obtain⟨r,C,m⟩:=Aos s v.f[i] z s.f.length 0 (by omega)
   have q:W F103 0 [.list (s.f.map bK),aS v.f[i]]=some [.int r]:=by
    rw[A1a]
    simpa using C
   simp only[aE]at m
   have F:(s.f.find? λp=>decide (p.nm=v.f[i].1))=s.fld v.f[i].1 :=rfl
   rw[F]at m
   have h: ¬ (0:Int)<(([]:List Sch).length :Nat):=by simp
   simp only[h,Ze,aB,Zf,dZ,aA,q,bO,O.Gx,aR]
   rcases m with⟨e,y⟩ | ⟨j,rfl,e,y⟩
   ·have G: ¬ (0:Int)<=r:=by omega
    have:=g none (by rw[a,e];rfl)
    simp only[bV,bX]at this
    simp only[G,Ze,aB,Zf]
    exact this
   ·obtain⟨d,hd⟩:=bS.1 y
    rw[hd]at e
    have:=g (some d.s) (by rw[a,hd];rfl)
    simp only[aH,aV]at this
    simp only[aU,Zd,Zt,eU,aW,bA,e,aN,aA,eN,dR,gI,gJ,gK,dF,cY,dZ]
    exact this
 ·intro b w
  rw[A9t]
  simp only[ltn,aA,aR,aB,Zf]
 ·rw[Tj];rfl
end Go.CT.Sch
namespace Go.CT.Sch
open Go.Proofs
theorem sxb {s:ByteArray}{i:Nat}{c:UInt8}{r:List UInt8}(h:s.data.toList.drop i=c::r): ∃a:i<s.size,s[i]=c/\s.data.toList.drop (i+1)=r:=by
 obtain⟨_,a,d⟩:=sx h
 have b:=Hz a
 rw[h]at b
 exact⟨a,(List.cons.inj b).1.symm,d⟩
theorem pn_1 (s:ByteArray): ∀ (a:List UInt8) (i:Nat) (r:List UInt8),s.data.toList.drop i=a++r->i<=s.size->(∀c∈a,Bv c=true)->Aan r->
  W F123 1 [.str s,.str s,.int i]=some [.int ((i+a.length:Nat):Int)]
 | [],i,r,h,g,_,j=>by
  rw[Aro]
  cases r with
  | nil=>
   have b: ¬ i<s.size:=by
    have:=congrArg dH h
    rw[eV,Dc]at this
    simp at this;omega
   have e:i=s.size:=by omega
   simp only[O.Uu b,O.T1 b,O.Pm b,aA,aR,aB,Zf,hL,aX,gN]
   rw[e]
  | cons c t=>
   obtain⟨b,m,_⟩:=sxb (show s.data.toList.drop i=c::t from h)
   have o:=j c t rfl
   rw[<-m]at o
   have y:nmR (Utf8.decode s i).1 =false:=by
    by_cases q:s[i].toNat <128
    ·rw[Qg b q,<-o,<-Wh]
    ·exact Afi (by have:=decode_high b (by omega);omega)
   simp only[O.Sf b,O.Sm b,O.Mu b,aA,aR,Zt,O.R0,Alz,y,bO,dG,bB,aX,gN]
 | c::a,i,r,h,g,u,j=>by
  obtain⟨b,m,z⟩:=sxb (show s.data.toList.drop i=c::(a++r) from h)
  have d:=u c (by simp)
  rw[<-m]at d
  have q:s[i].toNat <128:=by
   apply cS
   intro o
   rw[Aht (by omega)]at d;cases d
  have w:=pn_1 s a (i+1) r z (by omega) (λx A=>u x (by simp[A])) j
  have e:i+1+a.length=i+(c::a).length :=by simp;omega
  rw[e]at w
  rw[Aro]
  simp only[O.Sf b,O.Sm b,O.Mu b,Qg b q,aA,aR,Zt,O.R0,Alz,Wh,d,bO,dG,aO,aB,Zf,w]
theorem A9e (s:ByteArray)(a r:List UInt8)(h:s.data.toList=a++r)(b: ∀c∈a,Bv c=true)(d:Aan r):W F123 0 [.str s]=some [.int (a.length:Nat)]:=by
 have:=pn_1 s a 0 r (by rw[aE];exact h) (by omega) b d
 rw[cZ]at this
 rw[A7i]
 exact this
theorem slo {s:ByteArray}{i:Nat}{r:List UInt8}(h:s.data.toList.drop i=r)(a:i<=s.size):O.Jc (.str s) (.int i)=some (.str (bsL r)):=by
 rw[O.Ain,if_pos ⟨by omega,by omega⟩]
 congr 2
 apply Gj
 rw[ByteArray.data_extract,Array.toList_extract]
 simp only[aW,List.extract_eq_take_drop,bsL,h]
 refine fB ?_
 have:=congrArg dH h
 rw[eV,Dc]at this
 omega
theorem Bi8 (s:ByteArray)(J:s.size<=100000): ∀ (v:List UInt8) (i:Nat) (r:List UInt8) (o:ByteArray),s.data.toList.drop i=v.flatMap I5++34::r->(∀c∈v,Io c=true)->o.size+v.length<=1000->
  W Bih 1 [.str s,.int i,.list (Co o)]=some [.str (o++bsL v),.str (bsL r),.bool true]
 | [],i,r,o,h,_,_=>by
  obtain⟨j,m,q⟩:=sx (show s.data.toList.drop i=34::r from h)
  have t:=Bd (i:=i) (by omega)
  have e:o++bsL []=o:=by apply Gj;rw[cO];simp[bsL]
  have A:((34:UInt8).toNat :Int)=34:=rfl
  rw[Ae6]
  simp only[hL,aA,dO,Aj,m,Zd,aR,Zt,j,bI,A,Bap,O.M7,bO,eE,t,slo q (by omega),e]
 | c::v,i,r,o,h,K,L=>by
  have M:=K c (by simp)
  have u: ∀x∈v,Io x=true:=λx N=>K x (by simp[N])
  simp only[bU]at L
  have hrange:=U5 M
  simp only[bF,bG]at h
  have two: ∀d:UInt8,I5 c= [92,d]->(d.toNat=34\/d.toNat=92\/d.toNat=110)->(d.toNat=110↔c.toNat=10)->(d.toNat≠110->d=c)->
    W Bih 1 [.str s,.int i,.list (Co o)]=some [.str (o++bsL (c::v)),.str (bsL r),.bool true]:=by
   intro d B hd Q C
   rw[B]at h
   obtain⟨j,m,q⟩:=sx (show s.data.toList.drop i=92::(d::(v.flatMap I5++34::r)) from h)
   obtain⟨R,S,T⟩:=sx q
   have t:=Bd (i:=i) (by omega)
   have F:=Bd (i:=i+1) (by omega)
   have G:((92:UInt8).toNat :Int)=92:=rfl
   have H:=Bi8 s J v (i+1+1) r (o++bsL [c]) T u (by rw[fI,Ce,bM];omega)
   have nx:W Bih 2 [.str s,.int ((i+1:Nat):Int),.list (Co (o++bsL [c]))]=some [.str (o++bsL (c::v)),.str (bsL r),.bool true]:=by
    rw[Ar1]
    simp only[eE,F,aA,H,Wl]
   rw[Ae6]
   simp only[hL,aA,dO,Aj,m,Zd,aR,Zt,j,bI,G,show ¬ (92:Int)=34 by omega,Ze,aB,Zf,show ¬ (92:Int)<32 by omega,fN,show ¬ (126:Int)<92 by omega,eM,aO,eE,t,S,R]
   by_cases cn:d.toNat=110
   ·have g: ¬ (d.toNat:Int)=34:=by omega
    have w: ¬ (d.toNat:Int)=92:=by omega
    have I:(d.toNat:Int)=110:=by omega
    have y:c=10:=gC.1 (Q.1 cn)
    have a:=Nn o 10 (by omega)
    rw[show((10:UInt8).toNat :Int)=10 from rfl]at a
    rw[<-y]at a
    simp only[I,show ¬ (110:Int)=34 by omega,show ¬ (110:Int)=92 by omega,Zd,Ze,aB,Zf,Zt,aA,aR,a,bO,nx]
   ·have z:=C cn
    have a:=Nn o d (by omega)
    rw[z]at a
    subst z
    rcases hd with hd | hd | hd
    ·have g:(d.toNat:Int)=34:=by omega
     rw[g]at a
     simp only[g,Zd,Zt,aA,aR,a,bO,nx]
    ·have g: ¬ (d.toNat:Int)=34:=by omega
     have w:(d.toNat:Int)=92:=by omega
     rw[w]at a
     simp only[w,show ¬ (92:Int)=34 by omega,Zd,Ze,aB,Zf,Zt,aA,aR,a,bO,nx]
    ·exact absurd hd cn
  by_cases b:c.toNat=10
  ·exact two 110 (by unfold I5;rw[if_pos b]) (.inr (.inr rfl)) ⟨λ_=>b,λ_=>rfl⟩ (λh=>(h rfl).elim)
  ·by_cases cq:c.toNat=34\/c.toNat=92
   ·exact two c (by unfold I5;rw[if_neg b,if_pos cq]) (by omega) (by omega) (λ_=>rfl)
   ·have B:I5 c= [c]:=by unfold I5;rw[if_neg b,if_neg cq]
    rw[B]at h
    obtain⟨j,m,q⟩:=sx (show s.data.toList.drop i=c::(v.flatMap I5++34::r) from h)
    have t:=Bd (i:=i) (by omega)
    have H:=Bi8 s J v (i+1) r (o++bsL [c]) q u (by rw[fI,Ce,bM];omega)
    have a:=Nn o c (by omega)
    have g: ¬ (c.toNat:Int)=34:=by omega
    have w: ¬ (c.toNat:Int)<32:=by omega
    have I: ¬ (126:Int)<c.toNat:=by omega
    have U: ¬ (c.toNat:Int)=92:=by omega
    rw[Ae6]
    simp only[hL,aA,dO,Aj,m,Zd,aR,Zt,j,bI,g,Ze,aB,Zf,w,fN,I,eM,U,bB,a,bO]
    rw[Ar1]
    simp only[eE,t,aA,H,Wl]
theorem A83 (c:UInt8)(l:List UInt8):decide (bsL (c::l)=(⟨#[]⟩:ByteArray))=false:=decide_eq_false λe=>by
 have h:=congrArg ByteArray.size e
 rw[Ce,show(⟨#[]⟩:ByteArray).size =0 from rfl]at h
 cases h
theorem A2x (v:ByteArray)(a:Jq v=true)(r:List UInt8)(j:r.length<=20000):W Bih 0 [.str (bsL (34::(v.data.toList.flatMap I5++34::r)))]=some [.str v,.str (bsL r),.bool true]:=by
 have d:=Qa a
 unfold Jq at a
 simp only[aJ,bT]at a
 have e:=Al7 v.data.toList
 rw[Dc]at e
 obtain⟨c,m,g⟩:=sx (s:=bsL (34::(v.data.toList.flatMap I5++34::r))) (i:=0) (show _=34::(v.data.toList.flatMap I5++34::r) from rfl)
 have h:(bsL (34::(v.data.toList.flatMap I5++34::r))).size <=100000:=by
  rw[Ce]
  simp only[bU,aP];omega
 have:=Bi8 _ h v.data.toList 1 r Am g a.1 (by rw[Dc];show 0+_<=_;omega)
 rw[Hl,Pw]at this
 have b:((34:UInt8).toNat :Int)=34:=rfl
 simp only[aD]at c
 rw[A8a]
 simp only[fH,A83,aA,aR,aB,Zf,c,eM,b,Zd,aO]
 exact this
theorem Bgs (r:List UInt8):Aan (61::r):=Mt (by decide)
theorem Bhb (s nm vl:ByteArray)(m:C8 nm=true)(t:Jq vl=true)(r:List UInt8)(y:r.length<=10000)(h:s.data.toList=91::(nm.data.toList++61::(34::(vl.data.toList.flatMap I5++34::(93::r))))):
  W F122 0 [.str s]=some [bN ⟨3,nm,0,vl⟩,.str (bsL r),.bool true]:=by
 obtain⟨d,a⟩:=Hc m
 have o:0<nm.data.toList.length:=dM.2 a
 have e:s.data.toList.drop 1=nm.data.toList++61::(34::(vl.data.toList.flatMap I5++34::(93::r))):=by rw[h];rfl
 have b:=congrArg dH h
 rw[Dc]at b
 simp only[bU,aP]at b
 have q:=slo e (by omega)
 simp only[aD]at q
 have a2:=A9e (bsL (nm.data.toList++61::(34::(vl.data.toList.flatMap I5++34::(93::r))))) nm.data.toList _ rfl d (Bgs _)
 have u:IntKind.i64.wrap (1+((nm.data.toList.length:Nat):Int))=((1+nm.data.toList.length:Nat):Int):=by
  have:nm.data.toList.length<=40:=by rw[Dc];exact Rh m
  rw[wrap64 (by omega) (by omega)];omega
 have a3:=ssl e a
 simp only[aD]at a3
 rw[Pw]at a3
 have w:s.data.toList.drop (1+nm.data.toList.length)=61::(34::(vl.data.toList.flatMap I5++34::(93::r))):=S4 e
 have a4:=slo w (by omega)
 have x: ¬ ((nm.data.toList.length:Nat):Int)=0:=by omega
 have b1:=fun(c:UInt8) (l:List UInt8)=>(sx (s:=bsL (c::l)) (i:=0) (show _=c::l from rfl)).1
 simp only[aD]at b1
 have b2:=fun(c:UInt8) (l:List UInt8)=>slo (s:=bsL (c::l)) (i:=1) (show _=l from rfl) (by rw[Ce];simp)
 simp only[aD]at b2
 have g:((61:UInt8).toNat :Int)=61:=rfl
 have j:((93:UInt8).toNat :Int)=93:=rfl
 rw[A3c]
 simp only[q,aA,a2,bO,eE,u,a3,a4,bI,x,Ze,aR,aB,Zf,fH,A83,b1,g,j,show ¬ (61:Int)=93 by omega,eM,Zd,aO,b2,A2x vl t (93::r) (by simp;omega),O.Kd,dG,cT]
 rfl
theorem Bju {s:ByteArray}(h:s.data.toList= []):s=⟨#[]⟩:=Gj h
theorem pq_3 (s:ByteArray)(nm:ByteArray)(g:C8 nm=true)(r:List UInt8)(h:s.data.toList=nm.data.toList++r)(i:Aan r)(done:List Stp)(hd:done.length<=100):
  W Bi1 3 [.str s,.list (done.map bN)]=W Bi1 1 [.str (bsL r),.list ((done++ [(⟨1,nm,0,Am⟩:Stp)]).map bN)]:=by
 obtain⟨b,a⟩:=Hc g
 have d:0<nm.data.toList.length:=dM.2 a
 have j:=A9e s nm.data.toList r h b i
 have m: ¬ ((nm.data.toList.length:Nat):Int)=0:=by omega
 have o:s.data.toList.drop 0=nm.data.toList++r:=h
 have a2:=ssl o a
 simp only[aD,cZ]at a2
 rw[Pw]at a2
 have c:=congrArg dH h
 rw[Dc,aP]at c
 have q:s.data.toList.drop nm.data.toList.length=r:=by rw[h,List.drop_left]
 have a3:=slo q (by omega)
 have e:IV.agg [.int 1,.str nm,.int 0,.str ⟨#[]⟩]=bN ⟨1,nm,0,Am⟩:=rfl
 rw[A3y]
 simp only[j,bO,bI,m,Ze,aA,aR,aB,Zf,a2,cT,e,dE,apm bN (n:=48) done ⟨1,nm,0,Am⟩ (by omega),a3]
 rw[Am4]
theorem pq_1 (full:List Stp)(b:Db full=true)(K: ∀x∈full,x.k≠2): ∀ (p done:List Stp) (s:ByteArray),done++p=full->s.data.toList=(Es (decide (done.length=0)) p).data.toList ->
  W Bi1 1 [.str s,.list (done.map bN)]=some [.list (full.map bN),.int 0]
 | [],done,s,hd,h=>by
  rw[aQ]at hd
  subst hd
  have N:s=⟨#[]⟩:=Bju (by rw[h];rfl)
  subst N
  have g:=b
  unfold Db at g
  simp only[aJ,bT,decide_eq_true_eq]at g
  have w:=S3 done (λx d=>by
   have:=D3 (g.1 x d)
   exact⟨by omega,by omega⟩) (by omega)
  rw[Ao2]
  simp only[fX,Zd,aO,aA,aR,aB,Zf,w,bO,b,dG]
 | x::p,done,s,hd,h=>by
  have g:=b
  unfold Db at g
  simp only[aJ,bT,decide_eq_true_eq]at g
  have d:Ei x=true:=g.1 x (by rw[<-hd];simp)
  have j:=K x (by rw[<-hd];simp)
  have hp: ∀y∈p,Ei y=true:=λy Q=>g.1 y (by rw[<-hd];simp[Q])
  have hlen:done.length+p.length+1=full.length:=by rw[<-hd];simp;omega
  have Y:=Ug p hp false
  have R:500 * p.length<=500 * 16:=eG (aT _) (by omega)
  simp only[Es,cO]at h
  have m:=X8 p hp
  have z:=(Uh (decide (done.length=0)) x d).1
  have A:=pq_1 full b K p (done++ [x]) (bsL (Es false p).data.toList) (by rw[<-hd];simp) (by
   have:decide ((done++ [x]).length =0)=false:=decide_eq_false (by simp)
   rw[this];rfl)
  have o:decide (s=(⟨#[]⟩:ByteArray))=false:=decide_eq_false λe=>by
   subst e
   have h':([]:List UInt8)=(H7 (decide (done.length=0)) x).data.toList ++(Es false p).data.toList :=h
   exact z (List.append_eq_nil_iff.1 h'.symm).1
  obtain⟨S,T,U,X,L⟩:=D3 d
  obtain⟨xk,xn,xi,xv⟩:=x
  simp only at S T U X L j
  unfold Ei at d
  unfold H7 at h
  simp only at d h
  rw[Ao2]
  simp only[fX,o,bB,aA,aR,Zt]
  rcases L with rfl | rfl | rfl
  ·simp only[Zt,aJ,decide_eq_true_eq]at d
   obtain⟨⟨q,rfl⟩,rfl⟩:=d
   simp only[show ¬ (1:Int)=2 by omega,show ¬ (1:Int)=3 by omega,Zf]at h
   obtain⟨B,C⟩:=Hc q
   by_cases F:done.length=0
   ·simp only[F,Zd,Zt]at h
    obtain⟨c,a,r⟩:=List.exists_cons_of_ne_nil C
    have h':s.data.toList.drop 0=c::(a++(Es false p).data.toList):=by rw[aE,h,r];rfl
    obtain⟨i,M,G⟩:=sx h'
    simp only[aD]at i
    have H:=B c (by rw[r];simp)
    have t: ¬ (c.toNat:Int)=91:=by
     intro e
     have:c.toNat=91:=by omega
     unfold Bv at H
     rw[this]at H
     simp at H
    have I:gW (.int (done.length:Nat)) (.int 0)=some (.bool false):=by rw[fN,F];rfl
    simp only[i,aA,bI,t,Ze,aR,aB,Zf,Dz,I]
    rw[pq_3 s xn q _ h m done (by omega),A]
   ·simp only[F,Ze,aB,Zf]at h
    have h':s.data.toList.drop 0=46::(xn.data.toList++(Es false p).data.toList):=by rw[aE,h];simp[cO,bsL]
    obtain⟨i,M,G⟩:=sx h'
    simp only[aD]at i
    have I:gW (.int (done.length:Nat)) (.int 0)=some (.bool true):=by rw[fN];congr 2;exact decide_eq_true (by omega)
    have u:=slo G (by omega)
    simp only[cZ,aD]at u
    simp only[i,aA,bI,show((46:UInt8).toNat :Int)=46 from rfl,show ¬ (46:Int)=91 by omega,Ze,aR,aB,Zf,Dz,I,Zt,eM,Zd,aO,u]
    rw[pq_3 (bsL (xn.data.toList++(Es false p).data.toList)) xn q _ rfl m done (by omega),A]
  ·exact absurd rfl j
  ·simp only[show ¬ (3:Int)=1 by omega,show ¬ (3:Int)=2 by omega,Zf,Zt,aJ,decide_eq_true_eq]at d
   obtain⟨⟨q,w⟩,rfl⟩:=d
   simp only[show ¬ (3:Int)=2 by omega,Zf,Zt]at h
   have h':s.data.toList=91::(xn.data.toList++61::(34::(xv.data.toList.flatMap I5++34::(93::(Es false p).data.toList)))):=by
    rw[h];simp[cO,bsL,Lq]
   have J:=Bhb s xn xv q w _ (by rw[Dc];omega) h'
   obtain⟨i,M,G⟩:=sx (show s.data.toList.drop 0=91::_ from h')
   simp only[aD]at i
   simp only[i,aA,bI,show((91:UInt8).toNat :Int)=91 from rfl,Zd,aR,Zt,J,O.Kd,dG,aO,aB,Zf,dE,apm bN (n:=48) done ⟨3,xn,0,xv⟩ (by omega)]
   rw[Am4,A]
theorem Am9 (p:List Stp)(hp:Db p=true)(c: ∀x∈p,x.k≠2):W Bi1 0 [.str (Cs p)]=some [.list (p.map bN),.int 0]:=by
 have a:=hp
 unfold Db at a
 simp only[aJ,bT,decide_eq_true_eq]at a
 have d:=Ug p a.1 true
 have g:500 * p.length<=500 * 16:=eG (aT _) a.2
 have e:Cs p=Es true p:=by unfold Cs;rw[if_pos hp];rfl
 have b: ¬ (20000:Int)<((Es true p).size :Int):=by omega
 have:=pq_1 p hp c p [] (Es true p) rfl rfl
 simp only[aL]at this
 rw[A7h,e]
 simp only[hL,aA,fN,b,Ze,aR,aB,Zf,this]
end Go.CT.Sch
namespace Go.CT.Sch
open Go.Proofs
theorem Bho (ks:List ByteArray)(s:ByteArray):O.Aqv (.bool false) (.list (Pb ks)) (.str s)=some (.bool (inB ks s)):=by
 unfold O.Aqv
 simp only[fM,Xy,aN]
 cases inB ks s<;>simp
theorem Bgx (ks:List ByteArray)(s:ByteArray): ∃b,O.Ak3 (.list (Pb ks)) (.str s)=some (.bool b):=by
 unfold O.Ak3
 simp only[fM,Xy,aN]
 exact⟨_,rfl⟩
theorem Bhx (ks:List ByteArray)(s:ByteArray):O.Apo (.list (Pb ks)) (.str s) (.bool true)=some (.list (Pb (if inB ks s then ks else ks++ [s]))):=by
 unfold O.Apo
 simp only[fM,Azd,aN]
def Cc (s:Sch)(x:Val):Kid:=(At0 s.key x,x,s.it.head?)
theorem Sp (s t:Sch)(v:Val)(e:s.it= [t])(o:v.Aq<=1048576): ∀ (n i:Nat) (b:List Kid) (acc:List ByteArray),i+n=v.l.length->b.length=i->
  W F105 1 [.list (v.l.map aZ),.int v.l.length,.int i,s.enc,.list (b.map Hg),.list (Pb acc)]=some [.list ((if Du s.key acc (v.l.drop i) then b++(v.l.drop i).map (Cc s) else[]).map Hg)]
 | 0,i,b,acc,h,m=>by
  have:i=v.l.length:=by omega
  subst this
  rw[Ao1,aM,Du]
  simp only[ltn,aA,aR,aB,Zf,Zt,aL,aQ]
 | n+1,i,b,acc,h,m=>by
  have d:i<v.l.length:=by omega
  have z:=v.Bn
  have A:=cW (aF d)
  have q:=Acn v.l[i] s.key (by omega)
  obtain⟨bb,r⟩:=Bgx acc (Dv v.l[i] s.key)
  have g:O.Ak3 (.list (Pb acc)) (.str ((v.l[i].get s.key).getD Aw).s)=some (.bool bb):=r
  have a:=Bhx acc (Dv v.l[i] s.key)
  have c:=Bho acc (Dv v.l[i] s.key)
  unfold Dv at a c
  rw[Ao1,aC d,Du]
  simp only[lti d,aA,aR,Zt,Hy aZ d,dF,q,Ij,Hq,dG,eM,Ax,Al,c,g]
  unfold isKey Dv
  cases B:(v.l[i].get s.key).isSome with
  | false=>simp
  | true=>
   by_cases j:((v.l[i].get s.key).getD Aw).k =3
   ·cases u:inB acc ((v.l[i].get s.key).getD Aw).s with
    | true=>simp[j]
    | false=>
     have w:=Sp s t v e o n (i+1) (b++ [Cc s v.l[i]]) (acc++ [Dv v.l[i] s.key]) (by omega) (by simp[m])
     have x:=apm Hg (n:=248) b (Cc s v.l[i]) (by omega)
     have y:(IV.agg [.int 3,.str s.key,.int 0,.str ((v.l[i].get s.key).getD Aw).s,.int v.l[i].k,.int v.l[i].n,.str v.l[i].s,.list (v.l[i].l.map aZ),.list (v.l[i].f.map aS),
      .int t.k,.int t.mn,.int t.mx,.list (t.en.map .str),.str t.key,.list (t.it.map cK),.list (t.f.map bK),.bool true])=Hg (Cc s v.l[i]):=by
      unfold Cc Hg;rw[e];rfl
     simp only[j,Zd,aO,aB,Zf,a,u,aA,cY,e,aI,aL,eU,dS,Zt,cV,cB,dR,gI,gJ,gK,dF,dZ,
      cN,eR,eS,bW,cE,cT,dE,nxt (show i<4611686018427387904 by omega),bB,bL,Bool.and_true]
     rw[y,x]
     simp only[aA]
     refine w.trans ?_
     unfold Dv
     simp only[bG,bH]
   ·simp[j]
theorem Alf (s t:Sch)(v:Val)(a:s.it= [t])(b:v.Aq<=1048576):W F105 0 [s.enc,v.enc]=some [.list ((if Du s.key [] v.l then v.l.map (Cc s) else[]).map Hg)]:=by
 have:=Sp s t v a b v.l.length 0 [] [] (by omega) rfl
 rw[aE]at this
 rw[A5u]
 simp only[bW,aA,Dz]
 exact this
theorem Zs (x:Kid)(a: ∀s,x.2.2=some s->SB s/\s.Aq<=1048576)(g:x.2.1.Aq<=1048576):W F101 0 [Hg x]=some [.list ((kids x.2.2 x.2.1).map Hg)]:=by
 obtain⟨st,v,o⟩:=x
 rw[A3j]
 simp only[Bkd,kid9,kid4,Bka,Be9,Av5,aA,dG,eM,aR,Ax,Al]
 cases o with
 | none=>simp[kids]
 | some s=>
  obtain⟨a,q⟩:=a s rfl
  simp only[aV,aO,aB,Zf,aH]
  rw[kids]
  by_cases h:s.k=v.k
  ·simp only[h,Zd,aO,aB,Zf,Zt,bI,aA]
   by_cases i:v.k=5
   ·simp only[i,Zd,Zt,Asx s v (by omega) g,bO];rfl
   ·simp only[i,Ze,aB,Zf,aR,Ax,fX,aA,Al]
    by_cases c:v.k=4
    ·have j:=a.list (by omega)
     obtain⟨t,m⟩: ∃t,s.it= [t]:=bD.1 j
     by_cases b:s.key=Am
     ·have:s.key=(⟨#[]⟩:ByteArray):=b
      have e:decide (Am=(⟨#[]⟩:ByteArray))=true:=rfl
      simp only[c,Zd,Zt,e,aO,aB,Zf,b,ne_eq,not_true_eq_false,false_and,and_false,aL]
     ·have d: ¬ s.key=(⟨#[]⟩:ByteArray):=b
      simp only[c,Zd,Zt,d,Ze,bB,Alf s t v m g,bO,true_and,b,ne_eq,not_false_eq_true]
      rfl
    ·simp[c]
  ·simp[h]
theorem Amh (p:List Stp)(s:Stp)(b:p.length<=1073741824):W F107 0 [.list (p.map bN),s.enc]=some [.list ((p++ [s]).map bN)]:=by
 have a:O.Il [.list (p.map bN)]=some [.list (p.map bN)]:=Dw (by rw[aG];omega)
 rw[A8c]
 simp only[Bgg,a,bO,dE,aA,apm bN (n:=48) p s (by omega)]
def OSB (o:Option Sch):Prop:= ∀s,o=some s->SB s/\s.Aq<=1048576
theorem Aez {o:Option Sch}{v:Val}(h:OSB o){x:Kid}(a:x∈kids o v):OSB x.2.2:=by
 cases o with
 | none=>simp[kids]at a
 | some s=>
  obtain⟨c,e⟩:=h s rfl
  rw[kids]at a
  split at a
  ·split at a
   ·obtain⟨p,hp,rfl⟩:=bJ.1 a
    intro t b
    have:=Jj b
    exact⟨c.sub b,by omega⟩
   ·split at a
    ·obtain⟨p,hp,rfl⟩:=bJ.1 a
     intro t b
     have d:=List.mem_of_head? b
     have:=fK d
     exact⟨c.Ie d,by omega⟩
    ·simp at a
  ·simp at a
theorem Te {o:Option Sch}{v:Val}(h:OSB o)(b:v.Aq<=1048576){x:Kid}(a:x∈kids o v):x.1.fits:=by
 cases o with
 | none=>simp[kids]at a
 | some s=>
  obtain⟨c,d⟩:=h s rfl
  rw[kids]at a
  split at a
  ·split at a
   ·obtain⟨p,hp,rfl⟩:=bJ.1 a
    have:=fQ hp
    exact I3 _ (by omega)
   ·split at a
    ·obtain⟨p,hp,rfl⟩:=bJ.1 a
     have:=cW hp
     have e:=Asj p s.key
     have:=s.Ad8
     exact⟨by show s.key.size<=_;omega,by show(Dv p s.key).size <=_;unfold Dv;omega⟩
    ·simp at a
  ·simp at a
end Go.CT.Sch
namespace Go.CT.Sch
open Go.Proofs
theorem An2 (o:Option Sch)(v:Val)(g:Kid->List ByteArray)(b: ∀x∈kids o v,(g x).length <=x.2.1.size):((kids o v).flatMap g).length <v.size:=by
 have i: ∀ (l:List (ByteArray × Val)) (s:Sch),(∀x∈l.map (Ct s),(g x).length <=x.2.1.size)->((l.map (Ct s)).flatMap g).length <=B9 l:=by
  intro l s
  induction l with
  | nil=>simp
  | cons a l c=>
   intro h
   have j:=h (Ct s a) (by simp)
   have m:=c λx d=>h x (by simp only[aI,bQ];exact .inr d)
   have q:(Ct s a).2.1.size =a.2.size:=rfl
   have r:B9 (a::l)=a.2.size+B9 l:=rfl
   simp only[aI,bF,aP];omega
 have t: ∀ (l:List Val) (s:Sch),(∀x∈l.map (Cc s),(g x).length <=x.2.1.size)->((l.map (Cc s)).flatMap g).length <=Cz l:=by
  intro l s
  induction l with
  | nil=>simp
  | cons a l c=>
   intro h
   have j:=h (Cc s a) (by simp)
   have m:=c λx d=>h x (by simp only[aI,bQ];exact .inr d)
   have q:(Cc s a).2.1.size =a.size:=rfl
   have r:Cz (a::l)=a.size+Cz l:=rfl
   simp only[aI,bF,aP];omega
 have y:=v.size_eq
 cases o with
 | none=>simp only[kids,cM,aX];omega
 | some s=>
  revert b
  rw[kids]
  intro b
  split
  ·rename_i u;rw[if_pos u]at b
   split
   ·rename_i e;rw[if_pos e]at b
    have:((v.f.map (Ct s)).flatMap g).length <=B9 v.f:=i v.f s b
    show((v.f.map (Ct s)).flatMap g).length <_
    omega
   ·rename_i e;rw[if_neg e]at b
    split
    ·rename_i w;rw[if_pos w]at b
     have:((v.l.map (Cc s)).flatMap g).length <=Cz v.l:=t v.l s b
     show((v.l.map (Cc s)).flatMap g).length <_
     omega
    ·simp only[cM,aX];omega
  ·simp only[cM,aX];omega
theorem Ajf: ∀ (n:Nat) (o:Option Sch) (v:Val) (p:List Stp),(lv n o v p).length <=v.size
 | 0,_,_,_=>by simp[lv]
 | n+1,o,v,p=>by
  have:=v.size_pos
  rw[lv]
  split
  ·simp;omega
  ·exact Nat.le_of_lt (An2 o v _ λx _=>Ajf n _ _ _)
theorem Ay9: ∀ (n:Nat) (x:Kid) (p:List Stp) (out:List ByteArray),x.2.1.size<=n->OSB x.2.2->x.2.1.Aq<=1048576->(∀s∈p,s.fits)->p.length+n<=1073741824->out.length+(lv n x.2.2 x.2.1 p).length <=1073741824->
  W Bjx 0 [Hg x,.list (p.map bN),SL out]=some [SL (out++lv n x.2.2 x.2.1 p)]
 | 0,x,p,out,h,_,_,_,_,_=>by have:=x.2.1.size_pos;omega
 | n+1,x,p,out,h,d,r,hp,B,g=>by
  rw[lv]at g ⊢
  have loop: ∀ (m i:Nat) (out:List ByteArray),i+m=(kids x.2.2 x.2.1).length ->out.length+(((kids x.2.2 x.2.1).drop i).flatMap λy=>lv n y.2.2 y.2.1 (p++ [y.1])).length <=1073741824->
    W Bjx 2 [.list (p.map bN),.int (kids x.2.2 x.2.1).length,.int i,.list ((kids x.2.2 x.2.1).map Hg),SL out]=some [SL (out++((kids x.2.2 x.2.1).drop i).flatMap λy=>lv n y.2.2 y.2.1 (p++ [y.1]))]:=by
   intro m
   induction m with
   | zero=>
    intro i out t g
    have:i=(kids x.2.2 x.2.1).length :=by omega
    subst this
    rw[Aq6,aM]
    simp only[ltn,aA,aR,aB,Zf,cM,aQ]
   | succ m j=>
    intro i out t g
    have b:i<(kids x.2.2 x.2.1).length :=by omega
    have o:=aF b
    obtain⟨u,w⟩:=Oo o
    rw[aC b,bF,aP]at g
    have hlen:(kids x.2.2 x.2.1).length <4611686018427387904:=by
     have:=An2 x.2.2 x.2.1 (λ_=> [Am]) (λy C=>by have:=y.2.1.size_pos;simp;omega)
     have F:((kids x.2.2 x.2.1).flatMap λ_=> [Am]).length =(kids x.2.2 x.2.1).length :=by
      generalize kids x.2.2 x.2.1=l
      induction l with
      | nil=>rfl
      | cons a l j=>simp[bF,j]
     have:=x.2.1.Eu
     omega
    have z:=Ay9 n (kids x.2.2 x.2.1)[i] (p++ [(kids x.2.2 x.2.1)[i].1]) out (by omega) (Aez d o) (by omega) (Hi hp (Te d r o)) (by simp;omega) (by omega)
    rw[Aq6]
    simp only[lti b,aA,aR,Zt,Hy Hg b,Arx,Amh p _ (show p.length<=1073741824 by omega),bO,z,nxt (show i<4611686018427387904 by omega)]
    rw[j (i+1) _ (by omega) (by simp only[aP];omega),aC b,bF,bG]
  rw[A8g]
  simp only[Zs x d r,bO,Dz,aA,bI,aR]
  by_cases c:kids x.2.2 x.2.1= []
  ·simp only[c,Zt,aX,aD,Zd,Aea p hp (by omega),eA,A74,dE,aA]
   rw[if_pos c,bM]at g
   have A:=apm IV.str (n:=16) out (Cs p) (by omega)
   have q:dN 16 (SL out) (.list [.str (Cs p)])=some (SL (out++ [Cs p])):=A
   simp only[q,aA,bO]
   have:=loop 0 0 (out++ [Cs p]) (by rw[c];rfl) (by rw[c];simp;omega)
   rw[c]at this
   simp only[aX,aD,List.drop_nil,cM,aQ]at this
   rw[Aor]
   simp only[Dz,aX,aD,aA]
   exact this
  ·have c': ¬ ((kids x.2.2 x.2.1).length :Int)=0:=by
    have:(kids x.2.2 x.2.1).length ≠0:=λe=>c (cC.1 e)
    omega
   rw[if_neg c]at g ⊢
   simp only[c',Ze,aB,Zf]
   rw[Aor]
   simp only[Dz,aA]
   have:=loop (kids x.2.2 x.2.1).length 0 out (by omega) (by rw[aE];exact g)
   rw[aE]at this
   exact this
theorem Ape (s:Sch)(v:Val)(a:s.Aq<=1048576)(b:v.Aq<=1048576):W F99 0 [s.enc,v.enc]=some [.bool (s.valid&&v.valid)]:=by
 rw[Bet]
 simp only[Oe s a,Iq v (by omega),bO,aR,Ax,Al,aA]
 cases s.valid<;>cases v.valid<;>rfl
def H6 (s:Sch)(v:Val):List ByteArray:=if s.valid&&v.valid then Vu (lv v.size (some s) v []) else[]
theorem Ax5 (s:Sch)(v:Val)(d:s.Aq<=1048576)(e:v.Aq<=1048576):W F98 0 [s.enc,v.enc]=some [SL (H6 s v)]:=by
 rw[Bdw]
 simp only[Ape s v d e,bO,dG,aA,aR]
 unfold H6
 cases c:s.valid&&v.valid with
 | false=>simp only[bB,Zt,aB,Zf];rfl
 | true=>
  have h:s.valid=true/\v.valid=true:=by simpa using c
  have a:=eI h.1
  have i:=v.Eu
  have o:=Ajf v.size (some s) v []
  have j:IV.agg [.int 0,.str ⟨#[]⟩,.int 0,.str ⟨#[]⟩,.int v.k,.int v.n,.str v.s,.list (v.l.map aZ),.list (v.f.map aS),.int s.k,.int s.mn,.int s.mx,.list (s.en.map .str),.str s.key,.list (s.it.map cK),.list (s.f.map bK),.bool true]=Hg (⟨0,Am,0,Am⟩,v,some s):=rfl
  have g:=Ay9 v.size (⟨0,Am,0,Am⟩,v,some s) [] [] (aT _) (λt m=>by cases m;exact⟨a,d⟩) e (by simp) (by simp;omega) (by simp only[aX];omega)
  simp only[bC]at g
  simp only[aO,aB,Zf,Zt,cN,eR,eS,bW,cE,dR,gI,gJ,gK,dF,cY,dZ,aA,cT,j]
  have b:W Bjx 0 [Hg (⟨0,Am,0,Am⟩,v,some s),.list [],.list []]=some [SL (lv v.size (some s) v [])]:=g
  rw[b]
  simp only[bO,Bj6 (l:=lv v.size (some s) v []) (by omega)]
end Go.CT.Sch
namespace Go.CT.Sch
open Go.Proofs
theorem Aa0 {s:Sch}{v:Val}{i:Nat}(a:Ex v s.key=true):Hs s.key v i=At0 s.key v:=by
 unfold Hs At0;rw[if_pos a]
theorem Ej {key:ByteArray} : ∀ {l:List Val} {acc:List ByteArray},Du key acc l=true-> ∀x∈l,isKey x key=true
 | [],_,_=>by simp
 | y::l,acc,h=>by
  simp only[Du,aJ]at h
  intro x a
  rcases bQ.1 a with rfl | a
  ·exact h.1.1
  ·exact Ej h.2 x a
theorem Acv (s:Sch)(v:Val)(e:v.Aq<=1048576)(i:Nat)(g:i<v.l.length)(a:ByteArray): ∀ (n k:Nat),k+n=i->
  W Bij 2 [.int i,.str a,.int k,s.enc,v.enc]=if inB (((v.l.take i).drop k).map λx=>Dv x s.key) a then some [.bool false]else W Bij 1 [.int (i+1:Nat),s.enc,v.enc]
 | 0,k,h=>by
  have:k=i:=by omega
  subst this
  have j:=v.Bn
  rw[Ara,aY (by rw[eW];omega)]
  simp only[ltn,aA,aR,aB,Zf,nxt (show k<4611686018427387904 by omega),aL,inB,List.any_nil]
 | n+1,k,h=>by
  have m:k<i:=by omega
  have b:k<v.l.length:=by omega
  have j:=v.Bn
  have q:=cW (aF b)
  have d:k<(v.l.take i).length :=by rw[eW];omega
  have o:=Acv s v e i g a n (k+1) (by omega)
  rw[Ara,aC d,aI,P4]
  simp only[lti m,aA,aR,Zt,bW,Hy aZ b,dF,Md v.l[k] s.key (by omega),eA,fH,nxt (show k<4611686018427387904 by omega),o,List.getElem_take]
  by_cases c:a=Dv v.l[k] s.key
  ·simp[c]
  ·simp[c]
theorem Ab7 (s:Sch)(v:Val)(d:v.Aq<=1048576)(b:s.key≠Am): ∀ (n i:Nat),i+n=v.l.length->
  W Bij 1 [.int i,s.enc,v.enc]=some [.bool (Du s.key ((v.l.take i).map λx=>Dv x s.key) (v.l.drop i))]
 | 0,i,h=>by
  have:i=v.l.length:=by omega
  subst this
  rw[Aqu,aM,Du]
  simp only[bW,Dz,ltn,aA,aR,aB,Zf]
 | n+1,i,h=>by
  have a:i<v.l.length:=by omega
  have m:=cW (aF a)
  have e:=Ab7 s v d b n (i+1) (by omega)
  have c:=Acv s v d i a (Dv v.l[i] s.key) i 0 (by omega)
  rw[aE]at c
  have g:Ex v.l[i] s.key=isKey v.l[i] s.key:=by unfold Ex;simp[b]
  have j:v.l.take (i+1)=v.l.take i++ [v.l[i]]:=(Wk v.l a).symm
  rw[j,cP]at e
  rw[Aqu,aC a,Du]
  simp only[bW,Dz,lti a,aA,aR,Zt,Hy aZ a,dF,Md v.l[i] s.key (by omega),eA,dG,g]
  simp only[aD]at c
  cases o:isKey v.l[i] s.key with
  | false=>simp
  | true=>
   simp only[aO,aB,Zf,c,e,aI,aL,bL]
   cases inB ((v.l.take i).map λx=>Dv x s.key) (Dv v.l[i] s.key)<;>simp
theorem A4r (s:Sch)(v:Val)(h:v.Aq<=1048576):W Bij 0 [s.enc,v.enc]=some [.bool (decide (s.k=4/\v.k=4/\s.key≠Am/\v.l≠ [])&&Du s.key [] v.l)]:=by
 rw[A2w]
 simp only[dR,aA,eM,aR,dF,fH,cN,bW,Dz,bI,Ax,Al]
 by_cases a:s.k=4
 ·by_cases b:s.key=Am
  ·have e:decide (Am=(⟨#[]⟩:ByteArray))=true:=rfl
   simp[a,b,e]
  ·have e:decide (s.key=(⟨#[]⟩:ByteArray))=false:=decide_eq_false b
   by_cases g:v.k=4
   ·by_cases c:v.l= []
    ·simp[a,c]
    ·have d: ¬ (v.l.length:Int)=0:=by
      have:v.l.length≠0:=λe=>c (cC.1 e)
      omega
     have:=Ab7 s v h b v.l.length 0 (by omega)
     simp only[List.take_zero,aL,aE,aD]at this
     simp only[a,e,g,d,Zd,Ze,aO,aB,Zf,this,b,c,ne_eq,not_false_eq_true,and_self,bL]
   ·simp[a,g]
 ·simp[a]
def oE (o:Option Sch):IV:=(o.getD Bj).enc
theorem Ve (o:Option Sch)(v:Val)(h:v.Aq<=1048576):W F226 0 [oE o,.bool o.isSome,v.enc]=some [.bool !(kids o v).isEmpty]:=by
 rw[A4m]
 cases o with
 | none=>simp[kids]
 | some s=>
  simp only[oE,aV,aR,Zt,aH,A4r s v h,bO,aA,dR,bI,cN,cE,Dz,fN,Ax,Al]
  congr 3
  rw[kids]
  by_cases d:s.k=v.k
  ·rw[if_pos d,d]
   by_cases b:v.k=5
   ·rw[if_pos b,List.isEmpty_map]
    cases v.f<;>simp[b]
   ·rw[if_neg b]
    by_cases c:v.k=4
    ·by_cases g:s.key=Am
     ·simp[g,c]
     ·cases i:v.l with
      | nil=>simp[c]
      | cons a l=>
       cases j:Du s.key [] (a::l)<;>simp[c,g]
    ·simp[c,b]
  ·rw[if_neg d]
   by_cases b:s.k=5
   ·have: ¬ v.k=5:=λe=>d (b.trans e.symm)
    simp[b,this]
   ·by_cases c:s.k=4
    ·have: ¬ v.k=4:=λe=>d (c.trans e.symm)
     simp[c,this]
    ·simp[b,c]
theorem Acs (s:Sch)(nm:ByteArray)(j:s.Aq<=1048576)(b d e g:IV): ∀ (n i:Nat),i+n=s.f.length->
  W F228 1 [.str nm,.int i,s.enc,b,d,e,g]=some [oE (((s.f.drop i).find? λp=>decide (p.nm=nm)).map (·.s)),.bool ((s.f.drop i).find? λp=>decide (p.nm=nm)).isSome]
 | 0,i,h=>by
  have:i=s.f.length:=by omega
  subst this
  rw[Ams,aM]
  simp only[dZ,Dz,ltn,aA,aR,aB,Zf,cT];rfl
 | n+1,i,h=>by
  have a:i<s.f.length:=by omega
  have o:=s.Bc
  have m:=Acs s nm j b d e g n (i+1) (by omega)
  rw[Ams,aC a,bZ]
  simp only[dZ,Dz,lti a,aA,aR,Zt,Hy bK a,gG,fH,eN,nxt (show i<4611686018427387904 by omega),m]
  by_cases c:s.f[i].nm =nm
  ·simp[c,oE]
  ·have c':decide (s.f[i].nm =nm)=false:=by simpa using c
   simp only[c',aB,Zf]
theorem Apt (s:Sch)(nm:ByteArray)(d:s.Aq<=1048576)(a:SB s):W F228 0 [s.enc,.str nm]=some [oE (D7 s nm),.bool (D7 s nm).isSome]:=by
 have b:=a.one
 have:=Acs s nm d (.int 0) (.int 0) (.int 0) (.str ⟨#[]⟩) s.f.length 0 (by omega)
 rw[aE]at this
 rw[A4f]
 simp only[cY,aA,Dz,bI,aR]
 unfold D7
 cases c:s.it with
 | nil=>
  have e:decide (((([]:List Sch).length :Nat):Int)=1)=false:=by decide
  simp only[e,aB,Zf,fU]
  exact this
 | cons t ts=>
  have g:ts= []:=by rw[c]at b;simp at b;exact b
  subst g
  simp[oE]
end Go.CT.Sch
namespace Go.CT.Sch
open Go.Proofs
theorem apS (l m:List ByteArray)(h:l.length+m.length<=137438953471):dN 16 (SL l) (SL m)=some (SL (l++m)):=by
 unfold SL eJ
 rw[hJ,if_pos]
 ·simp
 ·have:(l.length+m.length) * 16<=137438953472 * 1024:=eG (by omega) (by decide)
  simp only[aG]
  unfold Bb;omega
theorem Ahi: ∀ (n:Nat) (o:Option Sch) (v:Val) (p:List Stp),v.size<=n->OSB o->v.Aq<=1048576->v.valid=true->(∀s∈p,s.fits)->p.length+n<=1073741824->
  W A5p 0 [oE o,.bool o.isSome,v.enc,.list (p.map bN)]=some [SL (lv n o v p)]
 | 0,o,v,p,h,_,_,_,_,_=>by have:=v.size_pos;omega
 | n+1,o,v,p,h,y,Q,q,hp,Y=>by
  have u:=Ajf (n+1) o v p
  have R:=v.Eu
  have recu: ∀x∈kids o v,x.2.1.valid=true->W A5p 0 [oE x.2.2,.bool x.2.2.isSome,x.2.1.enc,.list ((p++ [x.1]).map bN)]=some [SL (lv n x.2.2 x.2.1 (p++ [x.1]))]:=by
   intro x z I
   obtain⟨Z,h2⟩:=Oo z
   exact Ahi n x.2.2 x.2.1 (p++ [x.1]) (by omega) (Aez y z) (by omega) I (Hi hp (Te y Q z)) (by simp;omega)
  rw[lv]at u ⊢
  rw[A3i]
  simp only[Ve o v Q,bO,dG,gO,aA,aR]
  by_cases c:kids o v= []
  ·simp only[c,fY,Zt,Xn p hp (by omega),eA,dE,aA];rfl
  ·have c':(kids o v).isEmpty =false:=by simpa using c
   rw[if_neg c]at u
   simp only[c',aB,Zf,c]
   cases o with
   | none=>simp[kids]at c
   | some s=>
    obtain⟨w,S⟩:=y s rfl
    have loop2:v.k=5->kids (some s) v=v.f.map (Ct s)-> ∀ (m i:Nat) (out:List ByteArray),i+m=v.f.length->out.length+(((kids (some s) v).drop i).flatMap λx=>lv n x.2.2 x.2.1 (p++ [x.1])).length <=1048576->
      W A5p 2 [.list (p.map bN),.int i,s.enc,v.enc,SL out]=some [SL (out++((kids (some s) v).drop i).flatMap λx=>lv n x.2.2 x.2.1 (p++ [x.1]))]:=by
     intro T a m
     induction m with
     | zero=>
      intro i out J _
      have:i=v.f.length:=by omega
      subst this
      have hd:(kids (some s) v).drop v.f.length= []:=aY (by rw[a,aG];exact aT _)
      rw[Afs,hd]
      simp only[cE,Dz,ltn,aA,aR,aB,Zf,cM,aQ]
     | succ m K=>
      intro i out J A
      have b:i<v.f.length:=by omega
      have d:i<(kids (some s) v).length :=by rw[a,aG];exact b
      have hlen:=v.Bc
      have e:(kids (some s) v)[i]=Ct s v.f[i]:=by simp only[a,dW]
      have B:=recu _ (aF d) (by rw[e];exact(G5 q (aF b)).1)
      rw[aC d,bF,aP]at A
      rw[e]at B A
      have r:W A5p 0 [oE (D7 s v.f[i].1),.bool (D7 s v.f[i].1).isSome,v.f[i].2.enc,.list ((p++ [Da v.f[i].1]).map bN)]=some [SL (lv n (Ct s v.f[i]).2.2 (Ct s v.f[i]).2.1 (p++ [(Ct s v.f[i]).1]))]:=B
      have U:IV.agg [.int 1,.str v.f[i].1,.int 0,.str ⟨#[]⟩]=(Da v.f[i].1).enc :=rfl
      rw[Afs]
      simp only[cE,Dz,lti b,aA,aR,Zt,Hy aS b,eH,Apt s v.f[i].1 S w,eA,eQ,cT,U,Ni p (Da v.f[i].1) (show p.length<=1099511627776 by omega),bO,r]
      rw[apS _ _ (by omega)]
      simp only[aA,nxt (show i<4611686018427387904 by omega)]
      rw[K (i+1) _ (by omega) (by simp only[aP];omega),aC d,bF,bG,e]
    have loop1: ∀t,s.it= [t]->kids (some s) v=v.l.map (Cc s)->v.f= []->(∀x∈v.l,Ex x s.key=true)-> ∀ (m i:Nat) (out:List ByteArray),i+m=v.l.length->out.length+(((kids (some s) v).drop i).flatMap λx=>lv n x.2.2 x.2.1 (p++ [x.1])).length <=1048576->
      W A5p 1 [.list (p.map bN),.int i,s.enc,v.enc,SL out]=some [SL (out++((kids (some s) v).drop i).flatMap λx=>lv n x.2.2 x.2.1 (p++ [x.1]))]:=by
     intro t F a X j m
     induction m with
     | zero=>
      intro i out J _
      have:i=v.l.length:=by omega
      subst this
      have hd:(kids (some s) v).drop v.l.length= []:=aY (by rw[a,aG];exact aT _)
      have L:hK (.int 0) (.int 0)=some (.bool false):=rfl
      rw[Acz,hd]
      simp only[bW,Dz,ltn,aA,aR,aB,Zf,cM,aQ]
      rw[Afs]
      simp only[cE,X,aL,fA,aX,aD,L,aA,aR,aB,Zf]
     | succ m K=>
      intro i out J A
      have b:i<v.l.length:=by omega
      have d:i<(kids (some s) v).length :=by rw[a,aG];exact b
      have hlen:=v.Bn
      have hm:=cW (aF b)
      have e:(kids (some s) v)[i]=Cc s v.l[i]:=by simp only[a,dW]
      have B:=recu _ (aF d) (by rw[e];exact G6 q (aF b))
      rw[aC d,bF,aP]at A
      rw[e]at B A
      have M:=Aa0 (i:=i) (j _ (aF b))
      have r:W A5p 0 [oE s.it.head?,.bool s.it.head?.isSome,v.l[i].enc,.list ((p++ [At0 s.key v.l[i]]).map bN)]=some [SL (lv n (Cc s v.l[i]).2.2 (Cc s v.l[i]).2.1 (p++ [(Cc s v.l[i]).1]))]:=B
      rw[F]at r
      have hr'':W A5p 0 [t.enc,.bool true,v.l[i].enc,.list ((p++ [At0 s.key v.l[i]]).map bN)]=some [SL (lv n (Cc s v.l[i]).2.2 (Cc s v.l[i]).2.1 (p++ [(Cc s v.l[i]).1]))]:=r
      rw[Acz]
      simp only[bW,Dz,lti b,aA,aR,Zt,cY,F,aI,aL,eU,dS,cV,cB,aU,aW,bA,aK b,aN,
       Rv s v.l i b (by omega),bO,M,Ni p (At0 s.key v.l[i]) (show p.length<=1099511627776 by omega),hr'']
      rw[apS _ _ (by omega)]
      simp only[aA,nxt (show i<4611686018427387904 by omega)]
      rw[K (i+1) _ (by omega) (by simp only[aP];omega),aC d,bF,bG,e]
    show W A5p 1 [.list (p.map bN),.int 0,s.enc,v.enc,SL []]=_
    have g:=c
    rw[kids]at g
    by_cases G:s.k=v.k
    ·rw[if_pos G]at g
     by_cases C:v.k=5
     ·have a:kids (some s) v=v.f.map (Ct s):=by rw[kids,if_pos G,if_pos C];rfl
      have N:=Og q (by omega)
      have L:hK (.int 0) (.int 0)=some (.bool false):=rfl
      have:=loop2 C a v.f.length 0 [] (by omega) (by rw[aE];simp only[aX];omega)
      rw[aE,bC]at this
      rw[Acz]
      simp only[bW,N,aL,fA,aX,aD,L,aA,aR,aB,Zf]
      exact this
     ·rw[if_neg C]at g
      by_cases H:v.k=4/\s.key≠Am/\Du s.key [] v.l=true
      ·have a:kids (some s) v=v.l.map (Cc s):=by rw[kids,if_pos G,if_neg C,if_pos H];rfl
       obtain⟨t,F⟩: ∃t,s.it= [t]:=bD.1 (w.list (by omega))
       have j: ∀x∈v.l,Ex x s.key=true:=λx z=>by
        have:=Ej H.2.2 x z
        unfold Ex;simp[this,H.2.1]
       have:=loop1 t F a (Lr q C) j v.l.length 0 [] (by omega) (by rw[aE];simp only[aX];omega)
       rw[aE,bC]at this
       exact this
      ·rw[if_neg H]at g;exact absurd rfl g
    ·rw[if_neg G]at g;exact absurd rfl g
theorem Axn (s:Sch)(v:Val)(a:s.Aq<=1048576)(b:v.Aq<=1048576):W F224 0 [s.enc,v.enc]=some [.bool (s.valid&&v.valid)]:=by
 rw[A45]
 simp only[Pz s a,Pc v (by omega),bO,aR,Ax,Al,aA]
 cases s.valid<;>cases v.valid<;>rfl
theorem Aw9 (s:Sch)(v:Val)(d:s.Aq<=1048576)(e:v.Aq<=1048576):W F223 0 [s.enc,v.enc]=some [SL (H6 s v)]:=by
 rw[A65]
 simp only[Axn s v d e,bO,dG,aA,aR]
 unfold H6
 cases c:s.valid&&v.valid with
 | false=>simp only[bB,Zt,aB,Zf];rfl
 | true=>
  have g:s.valid=true/\v.valid=true:=by simpa using c
  have h:=v.Eu
  have o:=Ajf v.size (some s) v []
  have i:=Ahi v.size (some s) v [] (aT _) (λt j=>by cases j;exact⟨eI g.1,d⟩) e g.2 (by simp) (by simp;omega)
  have b:W A5p 0 [s.enc,.bool true,v.enc,.list []]=some [SL (lv v.size (some s) v [])]:=i
  have m:=A85 (lv v.size (some s) v []) [] (by simp only[aX];omega)
  have a:W Bif 0 [SL (lv v.size (some s) v []),.list []]=some [SL (Vu (lv v.size (some s) v []++ []))]:=m
  rw[aQ]at a
  simp only[aO,aB,Zf,Zt,b,bO,a]
end Go.CT.Sch
namespace Go.CT.Sch
open Go.Proofs
theorem Ahq (v:Val)(a:v.Aq<=1099511627776)(n:Int)(c:0<=n)(d:n<=1000): ∃b,W F3 0 [v.enc,.int n]=some [.bool b]:=by
 obtain⟨r,h,_⟩:=Axa v a n n (by omega) (by omega) (by omega)
 exact⟨decide (0<=r),by rw[Bhq];simp[h]⟩
theorem Rc (s:Sch)(v:Val):(H6 s v).length <=v.size:=by
 unfold H6
 split
 ·exact eF (K3 _) (Ajf _ _ _ _)
 ·simp
end Go.CT.Sch
namespace Go.CT.Sch
open Go.Proofs
theorem Ku (p:ByteArray × Val)(nm:ByteArray):W F161 0 [aS p,.str nm]=some [.bool (decide (p.1=nm))]:=by
 rw[A3e];simp
theorem Ajn (l:List (ByteArray × Val))(nm:ByteArray)(d:l.length<=1099511627776): ∀ (n i:Nat),i+n=l.length->(∀p∈l.take i,¬ p.1=nm)->
  (W F160 1 [.list (l.map aS),.str nm,.int l.length,.int i]=some [.int (-1)]/\ ∀p∈l,¬ p.1=nm)\/
  ∃j,∃h:j<l.length,W F160 1 [.list (l.map aS),.str nm,.int l.length,.int i]=some [.int (j:Nat)]/\l[j].1 =nm/\ ∀p∈l.take j,¬ p.1=nm
 | 0,i,h,hp=>by
  left
  rw[Apg]
  have e: ¬ i<l.length:=by omega
  rw[fB (by omega)]at hp
  refine⟨?_,hp⟩
  simp only[dO,Aj,e,Ze,aA,aR,aB,Zf]
 | n+1,i,h,hp=>by
  have a:i<l.length:=by omega
  have g:=Bd (i:=i) (by omega)
  rw[Apg]
  by_cases c:l[i].1 =nm
  ·right
   refine⟨i,a,?_,c,hp⟩
   simp only[dO,Aj,a,Zd,aA,aR,Zt,eU,aU,aW,bA,aK a,aN,Ku,bO,c]
  ·have:=Ajn l nm d n (i+1) (by omega) (by
    intro p b
    rw[<-Wk l a]at b
    rcases cA.1 b with h | h
    ·exact hp p h
    ·simp at h;subst h;exact c)
   simp only[dO,Aj,a,Zd,aA,aR,Zt,eU,aU,aW,bA,aK a,aN,Ku,bO,c,Ze,aB,Zf,eE,g]
   exact this
theorem O7 (nm:ByteArray): ∀ (rest kept junk:List (ByteArray × Val)),junk≠ []->kept.length+junk.length+rest.length<=1099511627776->
  W F159 1 [.str nm,.int kept.length,.int (kept.length+junk.length:Nat),eJ aS (kept++(junk++rest))]=some [eJ aS (kept++rest.filter (Im nm))]
 | [],kept,junk,d,e=>by
  have r:=dM.2 d
  rw[Aoz,gH]
  have b: ¬ ((kept.length+junk.length:Nat):Int)<(kept++(junk++ [])).length :=by simp
  have o: ∀z:IV,O.clear z (eJ aS (kept++(junk++ []))) (.int kept.length) (.int (kept++(junk++ [])).length)=some (.list (kept.map aS++List.replicate junk.length z)):=by
   intro z
   unfold O.clear eJ
   simp only[fM,aQ,aG,aP,aU,true_and,aW,aT,and_true]
   rw[if_pos (by omega)]
   simp
  have t: ∀ys:List IV,O.slice (.list (kept.map aS++ys)) (.int 0) (.int kept.length)=some (eJ aS kept):=by
   intro ys
   rw[O.Pv,if_pos (by simp only[aP,aG];omega)]
   simp[eJ]
  have a: ∃y,O.slice (eJ aS (kept++(junk++ []))) (.int kept.length) (.int (kept++(junk++ [])).length)=some y:=by
   unfold eJ
   rw[O.Pv,if_pos (by simp only[aP,aG];omega)]
   exact⟨_,rfl⟩
  obtain⟨y,a⟩:=a
  simp only[aQ]at b o a
  simp only[aQ,aA,dO,b,Ze,aR,aB,Zf,a,o,t,cG,aQ]
 | v::rest,kept,[],d,e=>absurd rfl d
 | v::rest,kept,y::js,d,e=>by
  simp only[bU]at e
  rw[Aoz,gH]
  have b:((kept.length+(y::js).length :Nat):Int)<(kept++(y::js++v::rest)).length :=by simp;omega
  have q:IntKind.i64.wrap (((kept.length+(y::js).length :Nat):Int)+1)=((kept.length+(y::js).length +1:Nat):Int):=by simp only[bU];rw[wrap64 (by omega) (by omega)];omega
  have g:IntKind.i64.wrap ((kept.length:Int)+1)=((kept.length+1:Nat):Int):=Bd (by omega)
  have gv:=gP aS (Srt.Dd (l:=kept++(y::js++v::rest)) (A:=kept++y::js) (x:=v) (B:=rest) (by simp) (i:=kept.length+(y::js).length) (by simp))
  have gi:=gP aS (Srt.Dd (l:=kept++(y::js++v::rest)) (A:=kept) (x:=y) (B:=js++v::rest) (by simp) (i:=kept.length) rfl)
  have st:=Srt.Jd (l:=kept++(y::js++v::rest)) (A:=kept) (x:=y) (y:=v) (B:=js++v::rest) (by simp) (i:=kept.length) rfl
  have h:kept.length<(kept++(y::js++v::rest)).length :=by simp
  rw[bE]
  by_cases c:v.1=nm
  ·have j:=O7 nm rest kept (y::js++ [v]) (by simp) (by simp;omega)
   have m:Im nm v=false:=by simp[Im,c]
   simp only[aA,dO,b,Zd,aR,Zt,gv,Ku,bO,c,dG,aO,aB,Zf,Ann,eE,q,m]
   rw[show kept.length+(y::js).length +1=kept.length+(y::js++ [v]).length by simp;omega]
   rw[<-j];simp
  ·have j:=O7 nm rest (kept++ [v]) (js++ [v]) (by simp) (by simp;omega)
   have m:Im nm v=true:=by simp[Im,c]
   simp only[aA,dO,b,Zd,aR,Zt,gv,Ku,bO,c,Ze,dG,bB,gi,hC aS h,st,eE,g,Ann,q,m]
   rw[show kept.length+(y::js).length +1=(kept++ [v]).length +(js++ [v]).length by simp;omega,show kept.length+1=(kept++ [v]).length by simp]
   rw[show kept++v::(js++v::rest)=kept++ [v]++(js++ [v]++rest) by simp,j]
   simp
theorem Atd (l:List (ByteArray × Val))(nm:ByteArray)(h:l.length<=1099511627776):
  W F159 0 [.list (l.map aS),.str nm]=some [.list ((l.filter (Im nm)).map aS)]:=by
 rw[A3q,A6j]
 have key:=Ajn l nm h l.length 0 (by omega) (by simp)
 simp only[aD]at key
 rcases key with⟨a,b⟩ | ⟨j,i,a,b,m⟩
 ·simp only[fA,aG,aA,a,bO,bI,Zd,aR,Zt]
  congr 3
  rw[eD.2 (λp hp=>by simp[Im,b p hp])]
 ·have c: ¬ (j:Int)= -1:=by omega
  have d:IntKind.i64.wrap ((j:Int)+1)=((j+1:Nat):Int):=Bd (by omega)
  simp only[fA,aG,aA,a,bO,bI,c,Ze,aR,aB,Zf,eE,d]
  have g:l=l.take j++([l[j]]++l.drop (j+1)):=by
   rw[bH,<-aC i,List.take_append_drop]
  have e:(l.take j).length =j:=by rw[eW];omega
  have o:(l.drop (j+1)).length =l.length - (j+1):=by rw[eV]
  have hd:=O7 nm (l.drop (j+1)) (l.take j) [l[j]] (by simp) (by simp only[bM];omega)
  rw[e,bM,<-g]at hd
  rw[show IV.list (l.map aS)=eJ aS l from rfl,hd]
  have q:l.filter (Im nm)=l.take j++(l.drop (j+1)).filter (Im nm):=by
   conv=>lhs;rw[g]
   rw[eK,eK,eD.2 (λp hp=>by simp[Im,m p hp])]
   congr 1
   simp[Im,b]
  rw[q];rfl
theorem Aj0 (v:Val)(nm:ByteArray)(a:Gl 1073741824 v):W F158 0 [v.enc,.str nm]=some [.list ((Dq v nm).map aS)]:=by
 rw[A4t]
 unfold Dq
 have d:=a.N7
 have b:(v.f.map aS).length <=1073741824:=by rw[aG];omega
 have hd:=Atd v.f nm (by omega)
 by_cases c:v.k=5
 ·simp only[cN,cE,aA,eM,c,Zd,aO,aR,aB,Zf,A5k,Dw b,bO,hd,Zt]
  rfl
 ·simp[c]
theorem Ah5 (v:Val)(nm:ByteArray)(x:Val)(b:Gl 1073741823 v)(e:Gl 1073741823 x):W F157 0 [v.enc,.str nm,x.enc]=some (Ed v nm x).Ew :=by
 have c:=Ra b nm
 have g:=c.1
 have d:=Adv (Dq v nm++ [(nm,x)]) ⟨by simp;omega,λp hp=>by
  rcases cA.1 hp with h | h
  ·exact(c.2 p h).mono (by omega)
  ·simp at h;subst h;exact e.mono (by omega)⟩
 have a:((Dq v nm).length +1) * 96<=Bb:=Kv (by omega) (by omega)
 simp only[cP,aI,aL]at d
 rw[A4a]
 simp only[Aj0 v nm (b.mono (by omega)),bO,cN,eR,eS,bW,cE,aA,cT,gQ,dE,hJ,aG,bM,a,Zt,d,cJ,eT]
 rfl
end Go.CT.Sch
namespace Go.CT.Sch
open Go.Proofs
theorem Me (r:Kid->Val × Bool)(x:Kid)(l:List Kid):Gh r (x::l)=if(r x).2 then(x.1,(r x).1)::Gh r l else Gh r l:=by
 unfold Gh
 rw[List.filterMap_cons]
 cases(r x).2<;>simp
theorem Ahv (r:Kid->Val × Bool)(l:List Kid):(Gh r l).length <=l.length:=List.length_filterMap_le _ _
theorem Ta {r:Kid->Val × Bool}{l:List Kid}{y:Stp × Val}(h:y∈Gh r l): ∃x∈l,(r x).2 =true/\y=(x.1,(r x).1):=by
 unfold Gh at h
 obtain⟨x,a,e⟩:=List.mem_filterMap.1 h
 split at e
 ·rename_i c;cases e;exact⟨x,a,c,rfl⟩
 ·cases e
theorem Awo {o:Option Sch}{v:Val}{x:Kid}(h:x∈kids o v):(v.k=5/\x.1.k=1)\/(v.k=4/\x.1.k=3):=by
 cases o with
 | none=>simp[kids]at h
 | some s=>
  rw[kids]at h
  split at h
  ·split at h
   ·obtain⟨p,hp,rfl⟩:=bJ.1 h
    exact .inl ⟨by assumption,rfl⟩
   ·split at h
    ·obtain⟨p,hp,rfl⟩:=bJ.1 h
     exact .inr ⟨by rename_i c;exact c.1,rfl⟩
    ·simp at h
  ·simp at h
theorem Vz (o:Option Sch)(v:Val):(kids o v).length <=if v.k=5 then v.f.length else v.l.length:=by
 cases o with
 | none=>simp[kids]
 | some s=>
  rw[kids]
  split
  ·split
   ·simp
   ·split
    ·simp
    ·simp
  ·simp
theorem Pj (d:Nat)(o:Option Sch)(v:Val)(p:List Stp)(ch:ByteArray->Bool):pt (d+1) o v p ch=if kids o v= []then(v,ch (Cs p)) else
 (⟨
   v.k,0,Am,if v.k=5 then[]else He (Gh (λx=>pt d x.2.2 x.2.1 (p++ [x.1]) ch) (kids o v)),
   if v.k=5 then fieldsOf (Gh (λx=>pt d x.2.2 x.2.1 (p++ [x.1]) ch) (kids o v)) else[]⟩,
  !(Gh (λx=>pt d x.2.2 x.2.1 (p++ [x.1]) ch) (kids o v)).isEmpty):=by rw[pt]
theorem A2c: ∀ (n:Nat) (o:Option Sch) (v:Val) (p:List Stp) (ch:ByteArray->Bool),(pt n o v p ch).1.f.length <=v.f.length
 | 0,_,_,_,_=>aT _
 | n+1,o,v,p,ch=>by
  rw[Pj]
  split
  ·exact aT _
  ·simp only[dA]
   split
   ·rename_i c
    have b:=Ahv (λx=>pt n x.2.2 x.2.1 (p++ [x.1]) ch) (kids o v)
    have a:=Vz o v
    rw[if_pos c]at a
    simp only[fieldsOf,aG];omega
   ·simp
theorem X6 (s:ByteArray)(N:Nat):Gl N (Rz s):=by
 constructor<;>simp[Rz]
theorem Xg (v:Val)(nm:ByteArray):(Dq v nm).length <=v.f.length:=by
 unfold Dq;split
 ·exact qAD _ _
 ·simp
theorem Abx {N:Nat}{v x:Val}(nm:ByteArray)(h:Gl (N+1) v)(b:Gl (N+1) x)(d:v.f.length<=N):Gl (N+1) (Ed v nm x):=by
 have c:=Ra h nm
 have e:=Xg v nm
 have a:=Ahz (N:=N+1) (l:=Dq v nm++ [(nm,x)]) ⟨by simp;omega,λp hp=>by
  rcases cA.1 hp with h | h
  ·exact c.2 p h
  ·simp at h;subst h;exact b⟩
 constructor
 ·simp[Ed]
 ·exact a.1
 ·simp[Ed]
 ·exact a.2
theorem Agz {N:Nat}{o:Option Sch}{v:Val}(h:Gl N v){x:Kid}(a:x∈kids o v):Gl N x.2.1:=by
 cases o with
 | none=>simp[kids]at a
 | some s=>
  rw[kids]at a
  split at a
  ·split at a
   ·obtain⟨p,hp,rfl⟩:=bJ.1 a;exact h.J8 hp
   ·split at a
    ·obtain⟨p,hp,rfl⟩:=bJ.1 a;exact h.Ll hp
    ·simp at a
  ·simp at a
theorem T7 {N:Nat} : ∀ (n:Nat) (o:Option Sch) (v:Val) (p:List Stp) (ch:ByteArray->Bool),Gl N v->Gl (N+1) (pt n o v p ch).1
 | 0,_,v,_,_,h=>h.mono (by omega)
 | n+1,o,v,p,ch,h=>by
  rw[Pj]
  split
  ·exact h.mono (by omega)
  ·have i:=Ahv (λx=>pt n x.2.2 x.2.1 (p++ [x.1]) ch) (kids o v)
   have e:=Vz o v
   have j:=h.Vr
   have m:=h.N7
   constructor
   ·simp only[dB]
    split
    ·simp
    ·rename_i c;rw[if_neg c]at e;simp only[He,aG];omega
   ·simp only[dA]
    split
    ·rename_i c;rw[if_pos c]at e;simp only[fieldsOf,aG];omega
    ·simp
   ·simp only[dB]
    split
    ·simp
    ·intro x a
     obtain⟨y,b,rfl⟩:=bJ.1 a
     obtain⟨z,d,_,rfl⟩:=Ta b
     have:=A2c n z.2.2 z.2.1 (p++ [z.1]) ch
     have g:=Agz h d
     have:=g.N7
     exact Abx _ (T7 n _ _ _ _ g) (X6 _ _) (by show(pt n z.2.2 z.2.1 (p++ [z.1]) ch).1.f.length <=N;omega)
   ·simp only[dA]
    split
    ·intro x a
     obtain⟨y,b,rfl⟩:=bJ.1 a
     obtain⟨z,d,_,rfl⟩:=Ta b
     exact T7 n _ _ _ _ (Agz h d)
    ·simp
def chB (ks:List ByteArray)(is:Bool):ByteArray->Bool:=λt=>inB ks t == is
theorem Au7 (t:ByteArray)(ks:List ByteArray)(is:Bool):W F156 0 [.str t,.list (Pb ks),.bool is]=some [.bool (chB ks is t),.list (Pb ks),.bool is]:=by
 obtain⟨b,a⟩:=Bgx ks t
 rw[A6i]
 simp only[Bho,a,aA,O.An8];rfl
theorem Azo: ∀ (n:Nat) (x:Kid) (p:List Stp) (ks:List ByteArray) (is:Bool),x.2.1.size<=n->OSB x.2.2->x.2.1.Aq<=1048576->(∀s∈p,s.fits)->p.length+n<=1073741824->
  W Bj7 0 [Hg x,.list (p.map bN),.list (Pb ks),.bool is]=some [(pt n x.2.2 x.2.1 p (chB ks is)).1.enc,.bool (pt n x.2.2 x.2.1 p (chB ks is)).2,.list (Pb ks),.bool is]
 | 0,x,p,ks,is,h,_,_,_,_=>by have:=x.2.1.size_pos;omega
 | n+1,x,p,ks,is,h,b,r,hp,Y=>by
  obtain⟨st,v,o⟩:=x
  simp only at h b r ⊢
  have t:=Vz o v
  have A:=v.Bc
  have B:=v.Bn
  have C:(kids o v).length <=1048576:=by split at t<;>omega
  have loop: ∀ (m i:Nat) (L:List Val) (F:List (ByteArray × Val)),i+m=(kids o v).length ->L.length+F.length<=i->
    W Bj7 1 [.list (p.map bN),.int (kids o v).length,.int i,.bool is,.int 0,.int 0,.str ⟨#[]⟩,.int v.k,.int 0,.str ⟨#[]⟩,.list ((kids o v).map Hg),.list (Pb ks),.list (L.map aZ),.list (F.map aS)]=
    some [(Val.mk v.k 0 Am (L++(if v.k=5 then[]else He (Gh (λx=>pt n x.2.2 x.2.1 (p++ [x.1]) (chB ks is)) ((kids o v).drop i)))) (F++(if v.k=5 then fieldsOf (Gh (λx=>pt n x.2.2 x.2.1 (p++ [x.1]) (chB ks is)) ((kids o v).drop i)) else[]))).enc,
     .bool (decide (0<L.length+F.length+(Gh (λx=>pt n x.2.2 x.2.1 (p++ [x.1]) (chB ks is)) ((kids o v).drop i)).length)),.list (Pb ks),.bool is]:=by
   intro m
   induction m with
   | zero=>
    intro i L F G H
    have:i=(kids o v).length :=by omega
    subst this
    have I:IntKind.i64.wrap ((F.length:Int)+(L.length:Int))=(F.length:Int)+(L.length:Int):=wrap64 (by omega) (by omega)
    rw[Amw,aM]
    simp only[ltn,aA,aR,aB,Zf,Dz,eE,I,fN,cT]
    have e1:Gh (λx=>pt n x.2.2 x.2.1 (p++ [x.1]) (chB ks is)) []= []:=rfl
    have J:(if v.k=5 then([]:List Val) else He [])= []:=by split<;>rfl
    have K:(if v.k=5 then fieldsOf []else([]:List (ByteArray × Val)))= []:=by split<;>rfl
    rw[e1,J,K,aQ,aQ,gV,cJ]
    have M:decide ((0:Int)<(F.length:Int)+(L.length:Int))=decide (0<L.length+F.length+([]:List (Stp × Val)).length):=by
     rw[decide_eq_decide];simp only[aX];omega
    rw[M];rfl
   | succ m u=>
    intro i L F G H
    have g:i<(kids o v).length :=by omega
    have q:=aF g
    obtain⟨Q,R⟩:=Oo q
    have S:=Azo n (kids o v)[i] (p++ [(kids o v)[i].1]) ks is (by omega) (Aez b q) (by omega) (Hi hp (Te b r q)) (by simp;omega)
    have T:=Awo q
    have j: ∀d,Gh (λx=>pt n x.2.2 x.2.1 (p++ [x.1]) (chB ks is)) ((kids o v)[i]::d)=if(pt n (kids o v)[i].2.2 (kids o v)[i].2.1 (p++ [(kids o v)[i].1]) (chB ks is)).2 then((kids o v)[i].1,(pt n (kids o v)[i].2.2 (kids o v)[i].2.1 (p++ [(kids o v)[i].1]) (chB ks is)).1)::Gh (λx=>pt n x.2.2 x.2.1 (p++ [x.1]) (chB ks is)) d else Gh (λx=>pt n x.2.2 x.2.1 (p++ [x.1]) (chB ks is)) d:=λd=>Me _ _ _
    rw[Amw,aC g,j]
    simp only[lti g,aA,aR,Zt,Hy Hg g,Arx,Amh p _ (show p.length<=1073741824 by omega),bO,S,O.Ad1,dG]
    cases c:(pt n (kids o v)[i].2.2 (kids o v)[i].2.1 (p++ [(kids o v)[i].1]) (chB ks is)).2 with
    | false=>
     simp only[bB,Zt,Afn,nxt (show i<4611686018427387904 by omega),aA,aB,Zf]
     exact u (i+1) L F (by omega) (by omega)
    | true=>
     simp only[aO,aB,Zf,kid0,aA,bI,aR,Zt]
     rcases T with⟨U,k1⟩ | ⟨Z,k3⟩
     ·have w:=apm aS (n:=96) F ((kids o v)[i].1.nm,(pt n (kids o v)[i].2.2 (kids o v)[i].2.1 (p++ [(kids o v)[i].1]) (chB ks is)).1) (by omega)
      have ih':=u (i+1) L (F++ [((kids o v)[i].1.nm,(pt n (kids o v)[i].2.2 (kids o v)[i].2.1 (p++ [(kids o v)[i].1]) (chB ks is)).1)]) (by omega) (by simp;omega)
      simp only[k1,Zd,Zt,kid1,cN,eR,eS,bW,cE,aA,cT,gQ,dE,w,Afn,nxt (show i<4611686018427387904 by omega),ih']
      simp only[U,Zt,fieldsOf,aI,bG,bH,aP,bU,aX]
      congr 3
      rw[IV.bool.injEq,decide_eq_decide];omega
     ·have X: ¬ v.k=5:=by omega
      have y:=T7 (N:=1048576) n (kids o v)[i].2.2 (kids o v)[i].2.1 (p++ [(kids o v)[i].1]) (chB ks is) (Cn _ (by omega))
      have a:=Ah5 (pt n (kids o v)[i].2.2 (kids o v)[i].2.1 (p++ [(kids o v)[i].1]) (chB ks is)).1 (kids o v)[i].1.nm (Rz (kids o v)[i].1.vl) (y.mono (by omega)) (X6 _ _)
      have w:=apm aZ (n:=80) L (Ed (pt n (kids o v)[i].2.2 (kids o v)[i].2.1 (p++ [(kids o v)[i].1]) (chB ks is)).1 (kids o v)[i].1.nm (Rz (kids o v)[i].1.vl)) (by omega)
      have ih':=u (i+1) (L++ [Ed (pt n (kids o v)[i].2.2 (kids o v)[i].2.1 (p++ [(kids o v)[i].1]) (chB ks is)).1 (kids o v)[i].1.nm (Rz (kids o v)[i].1.vl)]) F (by omega) (by simp;omega)
      have z:W F20 0 [.str (kids o v)[i].1.vl]=some (Rz (kids o v)[i].1.vl).Ew :=by rw[Akb];rfl
      have k1:decide ((kids o v)[i].1.k =1)=false:=by simp;omega
      rw[cJ]at z a
      simp only[k1,aB,Zf,kid1,kid3,aA,z,eT,cT,eL,a,dE,w,Afn,nxt (show i<4611686018427387904 by omega),ih']
      simp only[X,Zf,He,aI,bG,bH,aP,bU,aX]
      congr 3
      rw[IV.bool.injEq,decide_eq_decide];omega
  rw[A35,Pj]
  simp only[Zs (st,v,o) b r,bO,Dz,aA,bI,aR]
  by_cases c:kids o v= []
  ·simp only[c,Zt,aX,aD,Zd,Aea p hp (by omega),eA,Av5,aA,Au7,O.Kd]
  ·have c': ¬ ((kids o v).length :Int)=0:=by
    have:(kids o v).length ≠0:=λe=>c (cC.1 e)
    omega
   have:=loop (kids o v).length 0 [] [] (by omega) (by simp)
   rw[aE]at this
   simp only[c',Ze,aB,Zf,kid4,aA,c]
   refine this.trans ?_
   simp only[bC,aX,cZ]
   congr 3
   rw[IV.bool.injEq]
   cases Gh (λx=>pt n x.2.2 x.2.1 (p++ [x.1]) (chB ks is)) (kids o v)<;>simp
end Go.CT.Sch
namespace Go.CT.Sch
open Go.Proofs
theorem Na (v:Val)(nm:ByteArray)(b:Gl 1099511627776 v): ∀ (n i:Nat) (out:List (ByteArray × Val)),i+n=v.f.length->out.length<=i->
  W F14 1 [.str nm,.int i,v.enc,.list (out.map aS)]=some [.list ((out++(if v.k=5 then(v.f.drop i).filter (λp=> !decide (p.1=nm)) else[])).map aS)]
 | 0,i,out,h,o=>by
  rw[A0u]
  have j: ¬ i<v.f.length:=by omega
  simp only[cE,aA,fA,aG,dO,Aj,j,Ze,aR,aB,Zf,aY (dL j),cG,ite_self,aQ]
 | n+1,i,out,h,o=>by
  have d:i<v.f.length:=by omega
  have q:=b.N7
  have m:=Bd (i:=i) (by omega)
  rw[A0u,aC d]
  have e:(out.length+1) * 96<=Bb:=Kv (by omega) (by omega)
  simp only[cE,aA,fA,aG,dO,Aj,d,Zd,aR,Zt,cN,bI,eU,aU,aW,bA,aK d,aN,eH,fX,bE]
  by_cases c:v.k=5
  ·by_cases a:v.f[i].1 =nm
   ·have:=Na v nm b n (i+1) out (by omega) (by omega)
    simp only[c,Zt]at this
    have g:decide (v.f[i].1 =nm)=true:=by simpa using a
    simp only[c,a,g,Zd,Zt,aO,aB,Zf,Axx,eE,m,aA,this]
   ·have:=Na v nm b n (i+1) (out++ [v.f[i]]) (by omega) (by simp;omega)
    simp only[c,Zt,cP,aI,aL,bG,fZ,bC]at this
    have g:decide (v.f[i].1 =nm)=false:=by simpa using a
    simp only[c,a,g,Zd,Ze,Zt,bB,dE,aA,hJ,aG,bM,e,Axx,eE,m,this,cP,aI]
  ·simp[c]
theorem Ak9 (v:Val)(nm:ByteArray)(a:Gl 1099511627776 v):W F14 0 [v.enc,.str nm]=some [.list ((Dq v nm).map aS)]:=by
 rw[Bda]
 have:=Na v nm a v.f.length 0 [] (by omega) (by simp)
 simp only[aE,aD,aL,bC]at this
 exact this
theorem Aii (v:Val)(nm:ByteArray)(x:Val)(c:Gl 274877906943 v)(e:Gl 274877906943 x):W F13 0 [v.enc,.str nm,x.enc]=some (Ed v nm x).Ew :=by
 have a:=Ra c nm
 have hlen:=a.1
 have b:((Dq v nm).length +1) * 96<=Bb:=Kv (by omega) (by omega)
 have d:=A6n (Dq v nm++ [(nm,x)]) ⟨by simp;omega,λp hp=>by
  rcases cA.1 hp with h | h
  ·exact(a.2 p h).mono (by omega)
  ·simp at h;subst h;exact e.mono (by omega)⟩
 simp only[cP,aI,aL]at d
 rw[Bc4]
 simp only[Ak9 v nm (c.mono (by omega)),bO,cN,eR,eS,bW,cE,aA,cT,gQ,dE,hJ,aG,bM,b,Zt,d,eT,cJ,Ed,hD,Val.Bku,eO,dB,dA,aL]
theorem Asr {y:Val}(h:y.valid=true)(a:y.k=3):y=Rz y.s:=by
 have b:=Og h (by omega)
 have c:=Lr h (by omega)
 have d:y.n=0:=by
  rw[Is]at h
  have:=((Eb 11 y).1 h.1).1
  unfold Hm at this
  rw[if_neg (by omega),if_neg (by omega),if_pos a]at this
  simp only[aJ]at this
  simpa using this.1
 obtain⟨k,n,s,l,f⟩:=y
 simp only[hD,dB,dA,Val.Bku,eO]at a b c d ⊢
 subst a b c d;rfl
theorem Avk {x:Val}{key:ByteArray}(c:x.valid=true)(a:isKey x key=true):(x.get key).getD Aw=Rz (Dv x key):=by
 unfold isKey at a
 simp only[aJ,decide_eq_true_eq]at a
 obtain⟨y,b⟩:=bS.1 a.1
 unfold Dv
 rw[b]at a ⊢
 exact Asr (A0l c b) a.2
theorem Awe: ∀ (n:Nat) (o:Option Sch) (v:Val) (p:List Stp) (set:List ByteArray) (is:Bool),v.size<=n->OSB o->v.Aq<=1048576->v.valid=true->(∀s∈p,s.fits)->p.length+n<=1073741824->set.length<=1048576->
  W A61 0 [oE o,.bool o.isSome,v.enc,.list (p.map bN),SL set,.bool is]=some [(pt n o v p (chB set is)).1.enc,.bool (pt n o v p (chB set is)).2]
 | 0,o,v,p,set,is,h,_,_,_,_,_,_=>by have:=v.size_pos;omega
 | n+1,o,v,p,set,is,h,B,hv,g,hp,hl,z=>by
  have S:=Vz o v
  have ag:=v.Bc
  have ah:=v.Bn
  have ai:(kids o v).length <=1048576:=by split at S<;>omega
  have recu: ∀x∈kids o v,x.2.1.valid=true->W A61 0 [oE x.2.2,.bool x.2.2.isSome,x.2.1.enc,.list ((p++ [x.1]).map bN),SL set,.bool is]=some [(pt n x.2.2 x.2.1 (p++ [x.1]) (chB set is)).1.enc,.bool (pt n x.2.2 x.2.1 (p++ [x.1]) (chB set is)).2]:=by
   intro x G T
   obtain⟨h1,h2⟩:=Oo G
   exact Awe n x.2.2 x.2.1 (p++ [x.1]) set is (by omega) (Aez B G) (by omega) T (Hi hp (Te B hv G)) (by simp;omega) z
  rw[Pj,A3w]
  simp only[Ve o v hv,bO,dG,gO,aA,aR]
  by_cases c:kids o v= []
  ·simp only[c,fY,Zt,Xn p hp (by omega),eA,Bim set (Cs p) z,bO,O.An8,aA];rfl
  ·have c':(kids o v).isEmpty =false:=by simpa using c
   simp only[c',aB,Zf,c,cN,aA]
   cases o with
   | none=>simp[kids]at c
   | some s=>
    obtain⟨A,hs⟩:=B s rfl
    have j: ∀x d,Gh (λx=>pt n x.2.2 x.2.1 (p++ [x.1]) (chB set is)) (x::d)=if(pt n x.2.2 x.2.1 (p++ [x.1]) (chB set is)).2 then(x.1,(pt n x.2.2 x.2.1 (p++ [x.1]) (chB set is)).1)::Gh (λx=>pt n x.2.2 x.2.1 (p++ [x.1]) (chB set is)) d else Gh (λx=>pt n x.2.2 x.2.1 (p++ [x.1]) (chB set is)) d:=λx d=>Me _ _ _
    have loop2:v.k=5->kids (some s) v=v.f.map (Ct s)-> ∀ (m i:Nat) (F:List (ByteArray × Val)),i+m=v.f.length->F.length<=i->
      W A61 3 [.list (p.map bN),SL set,.bool is,.int i,s.enc,v.enc,.int 0,.int 0,.str ⟨#[]⟩,.int v.k,.int 0,.str ⟨#[]⟩,.list [],.list (F.map aS)]=
       some [(Val.mk v.k 0 Am [] (F++fieldsOf (Gh (λx=>pt n x.2.2 x.2.1 (p++ [x.1]) (chB set is)) ((kids (some s) v).drop i)))).enc,.bool (decide (0<F.length+(Gh (λx=>pt n x.2.2 x.2.1 (p++ [x.1]) (chB set is)) ((kids (some s) v).drop i)).length))]:=by
     intro aj a m
     induction m with
     | zero=>
      intro i F U X
      have:i=v.f.length:=by omega
      subst this
      have hd:(kids (some s) v).drop v.f.length= []:=aY (by rw[a,aG];exact aT _)
      have Y:IntKind.i64.wrap ((0:Int)+(F.length:Int))=(F.length:Int):=by rw[wrap64 (by omega) (by omega)];omega
      have e1:Gh (λx=>pt n x.2.2 x.2.1 (p++ [x.1]) (chB set is)) []= []:=rfl
      have q:hB (.list [])=some (.int 0):=rfl
      have Z:decide ((0:Int)<(F.length:Int))=decide (0<F.length+([]:List (Stp × Val)).length):=by
       rw[decide_eq_decide];simp only[aX];omega
      rw[Ae3,hd,e1]
      simp only[cE,Dz,ltn,aA,aR,aB,Zf,q,eE,Y,fN,Z,cT,fieldsOf,aL,aQ]
      rw[gV,cJ];rfl
     | succ m H=>
      intro i F U X
      have b:i<v.f.length:=by omega
      have r:i<(kids (some s) v).length :=by rw[a,aG];exact b
      have u:(kids (some s) v)[i]=Ct s v.f[i]:=by simp only[a,dW]
      have I:=recu _ (aF r) (by rw[u];exact(G5 g (aF b)).1)
      rw[aC r,j]
      rw[u]at I ⊢
      have y:W A61 0 [oE (D7 s v.f[i].1),.bool (D7 s v.f[i].1).isSome,v.f[i].2.enc,.list ((p++ [Da v.f[i].1]).map bN),SL set,.bool is]=some [(pt n (Ct s v.f[i]).2.2 (Ct s v.f[i]).2.1 (p++ [(Ct s v.f[i]).1]) (chB set is)).1.enc,.bool (pt n (Ct s v.f[i]).2.2 (Ct s v.f[i]).2.1 (p++ [(Ct s v.f[i]).1]) (chB set is)).2]:=I
      have he:IV.agg [.int 1,.str v.f[i].1,.int 0,.str ⟨#[]⟩]=(Da v.f[i].1).enc :=rfl
      rw[Ae3]
      simp only[cE,Dz,lti b,aA,aR,Zt,Hy aS b,eH,Apt s v.f[i].1 hs A,eA,eQ,cT,he,Ni p (Da v.f[i].1) (show p.length<=1099511627776 by omega),bO,y]
      cases cc:(pt n (Ct s v.f[i]).2.2 (Ct s v.f[i]).2.1 (p++ [(Ct s v.f[i]).1]) (chB set is)).2 with
      | false=>
       simp only[aB,Zf,Aqx,nxt (show i<4611686018427387904 by omega),aA]
       exact H (i+1) F (by omega) (by omega)
      | true=>
       have ha:=apm aS (n:=96) F (v.f[i].1,(pt n (Ct s v.f[i]).2.2 (Ct s v.f[i]).2.1 (p++ [(Ct s v.f[i]).1]) (chB set is)).1) (by omega)
       have ih':=H (i+1) (F++ [(v.f[i].1,(pt n (Ct s v.f[i]).2.2 (Ct s v.f[i]).2.1 (p++ [(Ct s v.f[i]).1]) (chB set is)).1)]) (by omega) (by simp;omega)
       simp only[Zt,cN,eR,eS,bW,cE,aA,cT,gQ,dE,ha,Aqx,nxt (show i<4611686018427387904 by omega),ih']
       simp only[fieldsOf,aI,bG,bH,aP,bU,aX]
       congr 3
       rw[IV.bool.injEq,decide_eq_decide];omega
    have loop1: ∀t,s.it= [t]->v.k=4->kids (some s) v=v.l.map (Cc s)->v.f= []->s.key≠Am->(∀x∈v.l,isKey x s.key=true)-> ∀ (m i:Nat) (L:List Val),i+m=v.l.length->L.length<=i->
      W A61 1 [.list (p.map bN),SL set,.bool is,.int i,s.enc,v.enc,.int 0,.int 0,.str ⟨#[]⟩,.int v.k,.int 0,.str ⟨#[]⟩,.list (L.map aZ)]=
       some [(Val.mk v.k 0 Am (L++He (Gh (λx=>pt n x.2.2 x.2.1 (p++ [x.1]) (chB set is)) ((kids (some s) v).drop i))) []).enc,.bool (decide (0<L.length+(Gh (λx=>pt n x.2.2 x.2.1 (p++ [x.1]) (chB set is)) ((kids (some s) v).drop i)).length))]:=by
     intro t Q ak a hf aa J m
     induction m with
     | zero=>
      intro i L U X
      have:i=v.l.length:=by omega
      subst this
      have hd:(kids (some s) v).drop v.l.length= []:=aY (by rw[a,aG];exact aT _)
      have Y:IntKind.i64.wrap ((L.length:Int)+(0:Int))=(L.length:Int):=by rw[wrap64 (by omega) (by omega)];omega
      have e1:Gh (λx=>pt n x.2.2 x.2.1 (p++ [x.1]) (chB set is)) []= []:=rfl
      have q:hB (.list [])=some (.int 0):=rfl
      have ab:hK (.int 0) (.int 0)=some (.bool false):=rfl
      have Z:decide ((0:Int)<(L.length:Int))=decide (0<L.length+([]:List (Stp × Val)).length):=by
       rw[decide_eq_decide];simp only[aX];omega
      rw[Adr,hd,e1]
      simp only[bW,Dz,ltn,aA,aR,aB,Zf]
      rw[Ae3]
      simp only[cE,hf,aL,q,ab,aA,aR,aB,Zf,Dz,eE,Y,fN,Z,cT,He,aQ]
      rw[gV,cJ];rfl
     | succ m H=>
      intro i L U X
      have b:i<v.l.length:=by omega
      have r:i<(kids (some s) v).length :=by rw[a,aG];exact b
      have hm:=cW (aF b)
      have u:(kids (some s) v)[i]=Cc s v.l[i]:=by simp only[a,dW]
      have I:=recu _ (aF r) (by rw[u];exact G6 g (aF b))
      rw[aC r,j]
      rw[u]at I ⊢
      have K:=J _ (aF b)
      have ac:=Aa0 (s:=s) (i:=i) (v:=v.l[i]) (by unfold Ex;simp[K,aa])
      have y:W A61 0 [oE s.it.head?,.bool s.it.head?.isSome,v.l[i].enc,.list ((p++ [At0 s.key v.l[i]]).map bN),SL set,.bool is]=some [(pt n (Cc s v.l[i]).2.2 (Cc s v.l[i]).2.1 (p++ [(Cc s v.l[i]).1]) (chB set is)).1.enc,.bool (pt n (Cc s v.l[i]).2.2 (Cc s v.l[i]).2.1 (p++ [(Cc s v.l[i]).1]) (chB set is)).2]:=I
      rw[Q]at y
      have hr'':W A61 0 [t.enc,.bool true,v.l[i].enc,.list ((p++ [At0 s.key v.l[i]]).map bN),SL set,.bool is]=some [(pt n (Cc s v.l[i]).2.2 (Cc s v.l[i]).2.1 (p++ [(Cc s v.l[i]).1]) (chB set is)).1.enc,.bool (pt n (Cc s v.l[i]).2.2 (Cc s v.l[i]).2.1 (p++ [(Cc s v.l[i]).1]) (chB set is)).2]:=y
      have ad:=Avk (G6 g (aF b)) K
      have hg:=Adb v.l[i] s.key (by omega)
      unfold Ij at hg
      rw[ad]at hg
      have ae:=T7 (N:=1048576) n (Cc s v.l[i]).2.2 (Cc s v.l[i]).2.1 (p++ [(Cc s v.l[i]).1]) (chB set is) (Cn _ (by show v.l[i].Aq <=_;omega))
      have w:=Aii (pt n (Cc s v.l[i]).2.2 (Cc s v.l[i]).2.1 (p++ [(Cc s v.l[i]).1]) (chB set is)).1 s.key (Rz (Dv v.l[i] s.key)) (ae.mono (by omega)) (X6 _ _)
      rw[cJ]at w
      rw[Adr]
      simp only[bW,Dz,lti b,aA,aR,Zt,cY,Q,aI,aL,eU,dS,cV,cB,aU,aW,bA,aK b,aN,
       Rv s v.l i b (by omega),bO,ac,Ni p (At0 s.key v.l[i]) (show p.length<=1099511627776 by omega),hr'',eA]
      cases cc:(pt n (Cc s v.l[i]).2.2 (Cc s v.l[i]).2.1 (p++ [(Cc s v.l[i]).1]) (chB set is)).2 with
      | false=>
       simp only[aB,Zf,Asl,nxt (show i<4611686018427387904 by omega),aA]
       exact H (i+1) L (by omega) (by omega)
      | true=>
       have ha:=apm aZ (n:=80) L (Ed (pt n (Cc s v.l[i]).2.2 (Cc s v.l[i]).2.1 (p++ [(Cc s v.l[i]).1]) (chB set is)).1 s.key (Rz (Dv v.l[i] s.key))) (by omega)
       have ih':=H (i+1) (L++ [Ed (pt n (Cc s v.l[i]).2.2 (Cc s v.l[i]).2.1 (p++ [(Cc s v.l[i]).1]) (chB set is)).1 s.key (Rz (Dv v.l[i] s.key))]) (by omega) (by simp;omega)
       simp only[Zt,dF,aA,hg,Hq,cT,eL,w,eT,dE,ha,Asl,nxt (show i<4611686018427387904 by omega),ih']
       simp only[He,aI,bG,bH,aP,bU,aX]
       congr 3
       rw[IV.bool.injEq,decide_eq_decide];omega
    show W A61 1 [.list (p.map bN),SL set,.bool is,.int 0,s.enc,v.enc,.int 0,.int 0,.str ⟨#[]⟩,.int v.k,.int 0,.str ⟨#[]⟩,.list []]=_
    have e:=c
    rw[kids]at e
    by_cases R:s.k=v.k
    ·rw[if_pos R]at e
     by_cases C:v.k=5
     ·have a:kids (some s) v=v.f.map (Ct s):=by rw[kids,if_pos R,if_pos C];rfl
      have af:=Og g (by omega)
      have q:hB (.list [])=some (.int 0):=rfl
      have h0:hK (.int 0) (.int 0)=some (.bool false):=rfl
      have:=loop2 C a v.f.length 0 [] (by omega) (by simp)
      rw[aE]at this
      rw[Adr]
      simp only[bW,af,aL,q,h0,aA,aR,aB,Zf]
      refine Eq.trans this ?_
      simp only[C,Zt,bC,aX,cZ]
      congr 3
      rw[IV.bool.injEq]
      cases Gh (λx=>pt n x.2.2 x.2.1 (p++ [x.1]) (chB set is)) (kids (some s) v)<;>simp
     ·rw[if_neg C]at e
      by_cases M:v.k=4/\s.key≠Am/\Du s.key [] v.l=true
      ·have a:kids (some s) v=v.l.map (Cc s):=by rw[kids,if_pos R,if_neg C,if_pos M];rfl
       obtain⟨t,Q⟩: ∃t,s.it= [t]:=bD.1 (A.list (by omega))
       have:=loop1 t Q M.1 a (Lr g C) M.2.1 (λx G=>Ej M.2.2 x G) v.l.length 0 [] (by omega) (by simp)
       rw[aE]at this
       refine Eq.trans this ?_
       simp only[C,Zf,bC,aX,cZ]
       congr 3
       rw[IV.bool.injEq]
       cases Gh (λx=>pt n x.2.2 x.2.1 (p++ [x.1]) (chB set is)) (kids (some s) v)<;>simp
      ·rw[if_neg M]at e;exact absurd rfl e
    ·rw[if_neg R]at e;exact absurd rfl e
end Go.CT.Sch
namespace Go.CT.Sch
open Go.Proofs
def Jm (s:Sch)(v:Val)(set:List ByteArray)(is:Bool):Val:=
 if s.valid&&v.valid then(if(pt v.size (some s) v [] (chB set is)).2 then(pt v.size (some s) v [] (chB set is)).1 else if v.k=5\/v.k=4 then⟨v.k,0,Am,[],[]⟩else Aw) else v
theorem Ank (w:Val)(d:Gl 1048577 w):(O.N2 [w.enc]).bind (λe=>calls (W F94 0 [e]) 5 λ_ _ _ a _=>(eZ a (.int 0)).bind λb=>some [b])=some [w.enc]:=by
 have h:=Lv [w] (by simp) (λx c=>by simp at c;subst c;exact d.mono (by omega))
 simp only[aI,aL]at h
 rw[cJ]at h
 simp only[dE,aA,h,eT,dB,aI,aL]
 rfl
theorem A6a (set:List ByteArray)(is:Bool):chB (Od [] set) is=chB set is:=by
 funext t
 have:inB (Od [] set) t=inB set t:=by
  rw[Bool.eq_iff_iff,Nh,Nh,Yr];simp
 unfold chB;rw[this]
theorem Aay (s:Sch)(v:Val)(set:List ByteArray)(is:Bool)(m:s.Aq<=1048576)(o:v.Aq<=1048576)(c:set.length<=1048576)(b:s.valid=true)(d:v.valid=true): ∀ (n i:Nat) (acc:List ByteArray),i+n=set.length->Od acc (set.drop i)=Od [] set->
  W Bjk 1 [SL set,.int set.length,.int i,s.enc,v.enc,.bool is,.int 0,.int 0,.str ⟨#[]⟩,.list (Pb acc)]=some [(Jm s v set is).enc]
 | 0,i,acc,h,e=>by
  have:i=set.length:=by omega
  subst this
  rw[aM,Od]at e
  subst e
  have u:IV.agg [.int 0,.str ⟨#[]⟩,.int 0,.str ⟨#[]⟩,.int v.k,.int v.n,.str v.s,.list (v.l.map aZ),.list (v.f.map aS),.int s.k,.int s.mn,.int s.mx,.list (s.en.map .str),.str s.key,.list (s.it.map cK),.list (s.f.map bK),.bool true]=Hg (⟨0,Am,0,Am⟩,v,some s):=rfl
  have hp:=Azo v.size (⟨0,Am,0,Am⟩,v,some s) [] (Od [] set) is (aT _) (λt w=>by cases w;exact⟨eI b,m⟩) o (by simp) (by have:=v.Eu;simp;omega)
  have g:W Bj7 0 [Hg (⟨0,Am,0,Am⟩,v,some s),.list [],.list (Pb (Od [] set)),.bool is]=some [(pt v.size (some s) v [] (chB set is)).1.enc,.bool (pt v.size (some s) v [] (chB set is)).2,.list (Pb (Od [] set)),.bool is]:=by rw[<-A6a];exact hp
  have x:=Ank (pt v.size (some s) v [] (chB set is)).1 (T7 _ _ _ _ _ (Cn _ (by omega)))
  have a:W F162 0 []=some Aw.Ew:=by rw[A69];rfl
  rw[cJ]at a
  rw[Baa]
  simp only[ltn,aA,aR,aB,Zf,cN,eR,eS,bW,cE,dR,gI,gJ,gK,dF,cY,dZ,cT,u,g,O.Ad1,x,bI,Ax,Al,a,eT]
  unfold Jm
  simp only[b,d,cI,Zt]
  cases(pt v.size (some s) v [] (chB set is)).2 with
  | true=>rfl
  | false=>
   by_cases q:v.k=5
   ·simp only[q,Zd,Zt,true_or,aB,Zf];rfl
   ·by_cases r:v.k=4
    ·simp only[r];rfl
    ·simp only[r,q,Ze,aB,Zf,or_self,Ax];rfl
 | n+1,i,acc,h,e=>by
  have j:i<set.length:=by omega
  have y:=gP IV.str (aK j)
  have z:=Aay s v set is m o c b d n (i+1) (if inB acc set[i]then acc else acc++ [set[i]]) (by omega) (by rw[<-e,aC j,Od])
  rw[Baa]
  simp only[lti j,aA,aR,Zt,y,Bhx,nxt (show i<4611686018427387904 by omega),z]
theorem A7c (s:Sch)(v:Val)(set:List ByteArray)(is:Bool)(b:s.Aq<=1048576)(d:v.Aq<=1048576)(a:set.length<=1048576):W Bjk 0 [s.enc,v.enc,SL set,.bool is]=some [(Jm s v set is).enc]:=by
 rw[A67]
 simp only[Ape s v b d,bO,dG,aA,aR]
 cases c:s.valid&&v.valid with
 | false=>
  have g:Jm s v set is=v:=by unfold Jm;rw[c];rfl
  simp only[bB,Zt,Ank v ((Cn (N:=1048576) v (by omega)).mono (by omega)),g]
 | true=>
  have e:s.valid=true/\v.valid=true:=by simpa using c
  have:=Aay s v set is b d a e.1 e.2 set.length 0 [] (by omega) (by rw[aE])
  simp only[aO,aB,Zf,gH,aA]
  exact this
theorem A8d (s:Sch)(v:Val)(set:List ByteArray)(is:Bool)(e:s.Aq<=1048576)(g:v.Aq<=1048576)(a:set.length<=1048576):W F251 0 [s.enc,v.enc,SL set,.bool is]=some (Jm s v set is).Ew :=by
 rw[A5m]
 have b:=R9 v (Cn v (by omega))
 rw[cJ]at b
 simp only[Axn s v e g,bO,dG,aA,aR]
 cases c:s.valid&&v.valid with
 | false=>
  have o:Jm s v set is=v:=by unfold Jm;rw[c];rfl
  rw[o,cJ]
  simp only[bB,Zt,b,eT]
 | true=>
  have h:s.valid=true/\v.valid=true:=by simpa using c
  have hp:=Awe v.size (some s) v [] set is (aT _) (λt q=>by cases q;exact⟨eI h.1,e⟩) g h.2 (by simp) (by have:=v.Eu;simp;omega) a
  have d:W A61 0 [s.enc,.bool true,v.enc,.list [],SL set,.bool is]=some [(pt v.size (some s) v [] (chB set is)).1.enc,.bool (pt v.size (some s) v [] (chB set is)).2]:=hp
  have i:=R9 (pt v.size (some s) v [] (chB set is)).1 ((T7 (N:=1048576) _ _ _ _ _ (Cn _ (by omega))).mono (by omega))
  rw[cJ]at i
  simp only[aO,aB,Zf,d,eA,aR,i,eT,cN,aA,bI,Ax,Al]
  unfold Jm
  rw[if_pos c,cJ]
  cases(pt v.size (some s) v [] (chB set is)).2 with
  | true=>rfl
  | false=>
   by_cases j:v.k=5
   ·simp only[j,Zd,Zt,true_or,aB,Zf];rfl
   ·by_cases m:v.k=4
    ·simp only[m];rfl
    ·simp only[m,j,Ze,aB,Zf,or_self];rfl
end Go.CT.Sch
namespace Go.CT.Sch
open Go.Proofs
inductive Zj:List (ByteArray × Val)->List (ByteArray × Val)->Prop where
 | nil:Zj [] []
 | skip {a b q} :Zj a b->Zj a (q::b)
 | keep {a b} {p q:ByteArray × Val} :p.1=q.1->p.2.Aq<=q.2.Aq->Zj a b->Zj (p::a) (q::b)
theorem Zj.refl: ∀l,Zj l l
 | []=> .nil
 | _::l=> .keep rfl (aT _) (Zj.refl l)
theorem Zj.Bh0 {a b:List (ByteArray × Val)}(h:Zj a b):Cl a<=Cl b:=by
 induction h with
 | nil=>exact aT _
 | skip _ c=>rw[Ca];omega
 | keep d e _ c=>rw[Ca,Ca,d];omega
theorem Zj.names {a b:List (ByteArray × Val)}(h:Zj a b): ∀p∈a,∃q∈b,q.1=p.1:=by
 induction h with
 | nil=>simp
 | skip _ c=>intro p hp;obtain⟨q,d,e⟩:=c p hp;exact⟨q,cD _ d,e⟩
 | keep d _ _ c=>
  intro p hp
  rcases bQ.1 hp with rfl | hp
  ·exact⟨_,cH,d.symm⟩
  ·obtain⟨q,g,i⟩:=c p hp;exact⟨q,cD _ g,i⟩
theorem Zj.strict {a b:List (ByteArray × Val)}(h:Zj a b):C3 b->C3 a:=by
 induction h with
 | nil=>exact id
 | skip _ d=>intro g;exact d (bR.1 g).2
 | keep m _ c d=>
  intro g
  obtain⟨i,j⟩:=bR.1 g
  refine bR.2 ⟨λy o=>?_,d j⟩
  obtain⟨z,q,e⟩:=c.names y o
  rw[m,<-e];exact i z q
theorem Zj.filter {a b:List (ByteArray × Val)}(nm:ByteArray)(h:Zj a b):Zj (a.filter λp=> !decide (p.1=nm)) (b.filter λp=> !decide (p.1=nm)):=by
 induction h with
 | nil=>exact .nil
 | @skip a b q _ c=>
  rw[bE]
  split
  ·exact .skip c
  ·exact c
 | @keep a b p q d e _ c=>
  rw[bE,bE,d]
  split
  ·exact .keep d e c
  ·exact c
theorem J9 {key:ByteArray}{w:Val} : ∀ {l:List (ByteArray × Val)},(key,w)∈l->Cl (l.filter λp=> !decide (p.1=key))+(1+key.size+w.Aq)<=Cl l
 | [],h=>by simp at h
 | q::l,h=>by
  rw[bE,Ca]
  rcases bQ.1 h with rfl | h
  ·have:=J0 (λp=> !decide (p.1=key)) l
   simp only[Zd,aO,aB,Zf];omega
  ·have a:=J9 h
   split
   ·rw[Ca];omega
   ·omega
theorem Axu {u x:Val}{key:ByteArray}{sv:Val}(a:u.k=5)(i:x.k=5)(b:Zj u.f x.f)(c:(key,sv)∈x.f):(Ed u key sv).Aq <=x.Aq:=by
 have j:Cl (Ed u key sv).f <=Cl (Dq u key)+(1+key.size+sv.Aq):=by
  have h:Cl (Ed u key sv).f <=Cl (Dq u key++ [(key,sv)]):=Q7 _
  rw[Iw,Ca,Ck]at h
  exact h
 have m:Cl (Dq u key)<=Cl (x.f.filter λp=> !decide (p.1=key)):=by
  unfold Dq;rw[if_pos a];exact(b.filter key).Bh0
 have o:=J9 c
 have q:=x.Bx
 have d:=(Ed u key sv).Bx
 have e:(Ed u key sv).s =Am:=rfl
 have g:(Ed u key sv).l = []:=rfl
 rw[e,g,En,show Am.size=0 from rfl]at d
 omega
theorem Az0 (nm:ByteArray)(l:List (ByteArray × Val))(p:ByteArray × Val):look nm (l++ [p])=if p.1=nm then some p else look nm l:=by
 unfold look
 rw[eK]
 by_cases c:p.1=nm
 ·simp[isName,c]
 ·simp[isName,c]
theorem R5 {u:Val}{key:ByteArray}{sv:Val}(g:u.k=5)(j:C3 u.f)(p:ByteArray × Val):p∈(Ed u key sv).f ↔(p.1≠key/\p∈u.f)\/p=(key,sv):=by
 have a:C3 (Ed u key sv).f :=Kb _
 have b:C3 (Dq u key):=by unfold Dq;rw[if_pos g];exact fL _ j
 rw[Ly a]
 have e:look p.1 (Ed u key sv).f =if key=p.1 then some (key,sv) else look p.1 (Dq u key):=by
  show look p.1 (Wb (Dq u key++ [(key,sv)]))=_
  rw[Ss,Az0]
 rw[e]
 by_cases c:key=p.1
 ·rw[if_pos c]
  constructor
  ·intro h;exact .inr (fG h).symm
  ·rintro (⟨h,_⟩ | h)
   ·exact absurd c.symm h
   ·rw[h]
 ·rw[if_neg c,<-Ly b]
  unfold Dq
  rw[if_pos g,dD]
  constructor
  ·rintro⟨d,i⟩;exact .inl ⟨λe=>c e.symm,d⟩
  ·rintro (⟨d,i⟩ | h)
   ·exact⟨i,by simp[d]⟩
   ·rw[h]at c;exact absurd rfl c
theorem Al3 {v w:Val}{nm:ByteArray}(a:v.k=5)(b:C3 v.f):v.get nm=some w↔(nm,w)∈v.f:=by
 constructor
 ·exact λh=>(E2 h).1
 ·intro h
  have:=Yx b h
  unfold hF
  rw[if_pos a,this];rfl
theorem Jk (u:Val)(key:ByteArray)(sv:Val):C3 (Ed u key sv).f :=Kb _
theorem Agc (u:Val){key:ByteArray}{sv:Val}(a:u.k=5)(b:C3 u.f):(Ed u key sv).get key=some sv:=
 (Al3 rfl (Jk u key sv)).2 ((R5 a b _).2 (.inr rfl))
end Go.CT.Sch
namespace Go.CT.Sch
open Go.Proofs
theorem Atx {o:Option Sch}{v:Val}(h:v.valid=true){x:Kid}(a:x∈kids o v):x.2.1.valid=true:=by
 cases o with
 | none=>simp[kids]at a
 | some s=>
  rw[kids]at a
  split at a
  ·split at a
   ·obtain⟨p,hp,rfl⟩:=bJ.1 a;exact(G5 h hp).1
   ·split at a
    ·obtain⟨p,hp,rfl⟩:=bJ.1 a;exact G6 h hp
    ·simp at a
  ·simp at a
theorem Qf {o:Option Sch}{v:Val}(h:kids o v≠ []): ∃s,o=some s/\s.k=v.k/\
  ((v.k=5/\kids o v=v.f.map (Ct s))\/(v.k=4/\s.key≠Am/\Du s.key [] v.l=true/\kids o v=v.l.map (Cc s))):=by
 cases o with
 | none=>simp[kids]at h
 | some s=>
  refine⟨s,rfl,?_⟩
  rw[kids]at h ⊢
  by_cases b:s.k=v.k
  ·rw[if_pos b]at h ⊢
   by_cases c:v.k=5
   ·exact⟨b,.inl ⟨c,by rw[if_pos c];rfl⟩⟩
   ·rw[if_neg c]at h ⊢
    by_cases a:v.k=4/\s.key≠Am/\Du s.key [] v.l=true
    ·exact⟨b,.inr ⟨a.1,a.2.1,a.2.2,by rw[if_pos a];rfl⟩⟩
    ·rw[if_neg a]at h;exact absurd rfl h
  ·rw[if_neg b]at h;exact absurd rfl h
theorem Ti {x:Val}{key:ByteArray}(d:x.valid=true)(h:isKey x key=true):x.k=5/\(key,Rz (Dv x key))∈x.f/\x.get key=some (Rz (Dv x key)):=by
 have c:=Avk d h
 unfold isKey at h
 simp only[aJ]at h
 obtain⟨y,a⟩:=bS.1 h.1
 rw[a]at c
 have b:y=Rz (Dv x key):=c
 rw[b]at a
 exact⟨(E2 a).2,(E2 a).1,a⟩
theorem Biw: ∀ (n:Nat) (o:Option Sch) (v:Val) (p:List Stp) (ch:ByteArray->Bool),(pt n o v p ch).1.k =v.k
 | 0,_,_,_,_=>rfl
 | n+1,o,v,p,ch=>by rw[Pj];split<;>rfl
theorem Aih (s:Sch)(r:Kid->Val × Bool): ∀l:List (ByteArray × Val),(∀x∈l,(r (Ct s x)).1.Aq <=x.2.Aq)->Zj (fieldsOf (Gh r (l.map (Ct s)))) l
 | [],_=> .nil
 | x::l,h=>by
  have a:=Aih s r l λy b=>h y (cD _ b)
  rw[aI,Me]
  cases(r (Ct s x)).2 with
  | false=>exact .skip a
  | true=>exact .keep rfl (h x cH) a
theorem Agh (s:Sch)(r:Kid->Val × Bool): ∀l:List Val,(∀x∈l,(Ed (r (Cc s x)).1 s.key (Rz (Dv x s.key))).Aq <=x.Aq)->Ds (He (Gh r (l.map (Cc s))))<=Ds l
 | [],_=>aT _
 | x::l,h=>by
  have b:=Agh s r l λy a=>h y (cD _ a)
  have c:=h x cH
  rw[aI,Me,Et]
  cases(r (Cc s x)).2 with
  | false=>simp only[aB,Zf];omega
  | true=>
   have e:Ds (He (((Cc s x).1,(r (Cc s x)).1)::Gh r (l.map (Cc s))))=(Ed (r (Cc s x)).1 s.key (Rz (Dv x s.key))).Aq +Ds (He (Gh r (l.map (Cc s)))):=Et _ _
   simp only[Zt]
   rw[e];omega
theorem Zh: ∀ (n:Nat) (o:Option Sch) (v:Val) (p:List Stp) (ch:ByteArray->Bool),v.valid=true->(pt n o v p ch).1.Aq <=v.Aq/\(v.k=5->Zj (pt n o v p ch).1.f v.f)
 | 0,_,v,_,_,_=>⟨aT _,λ_=>Zj.refl _⟩
 | n+1,o,v,p,ch,b=>by
  rw[Pj]
  split
  ·exact⟨aT _,λ_=>Zj.refl _⟩
  ·rename_i c
   obtain⟨s,rfl,y,t⟩:=Qf c
   rcases t with⟨u,d⟩ | ⟨z,q,g,d⟩
   ·have i:Zj (fieldsOf (Gh (λx=>pt n x.2.2 x.2.1 (p++ [x.1]) ch) (kids (some s) v))) v.f:=by
     rw[d]
     exact Aih s _ v.f λx a=>(Zh n (Ct s x).2.2 (Ct s x).2.1 (p++ [(Ct s x).1]) ch (G5 b a).1).1
    simp only[u,Zt]
    refine⟨?_,λ_=>i⟩
    have:=i.Bh0
    have e:=v.Bx
    rw[fR]
    simp only[eO,dB,dA,En,show Am.size=0 from rfl];omega
   ·have r: ¬ v.k=5:=by omega
    have i:Ds (He (Gh (λx=>pt n x.2.2 x.2.1 (p++ [x.1]) ch) (kids (some s) v)))<=Ds v.l:=by
     rw[d]
     refine Agh s _ v.l λx a=>?_
     obtain⟨j,xm,_⟩:=Ti (G6 b a) (Ej g x a)
     have w:=Zh n (Cc s x).2.2 (Cc s x).2.1 (p++ [(Cc s x).1]) ch (G6 b a)
     have m:=Biw n (Cc s x).2.2 (Cc s x).2.1 (p++ [(Cc s x).1]) ch
     exact Axu (m.trans j) j (w.2 j) xm
    simp only[r,Zf]
    refine⟨?_,λh=>absurd h (by first | exact r | exact not_false)⟩
    have e:=v.Bx
    rw[fR]
    simp only[eO,dB,dA,Ck,show Am.size=0 from rfl];omega
theorem Awd {n:Nat}{o:Option Sch}{v:Val}{p:List Stp}{ch:ByteArray->Bool}(a:v.valid=true)(b:v.k=5):C3 (pt n o v p ch).1.f :=
 ((Zh n o v p ch a).2 b).strict (Ic a)
theorem Kt {key:ByteArray} : ∀ {l:List Val} {acc:List ByteArray},Du key acc l=true-> ∀x∈l,Dv x key∉acc
 | [],_,_=>by simp
 | y::l,acc,h=>by
  simp only[Du,aJ,eP]at h
  intro x a
  rcases bQ.1 a with rfl | a
  ·intro b;have:=Nh.2 b;rw[this]at h;exact absurd h.1.2 (by simp)
  ·exact λb=>Kt h.2 x a (dI _ b)
theorem W9 {key:ByteArray}{y:Val}{l:List Val}{acc:List ByteArray}(h:Du key acc (y::l)=true):Du key (acc++ [Dv y key]) l=true/\ ∀x∈l,Dv x key≠Dv y key:=by
 have h':=h
 simp only[Du,aJ]at h'
 exact⟨h'.2,λx a e=>Kt h'.2 x a (by rw[e];simp)⟩
theorem A1b {x:Val}{key:ByteArray}(h:isKey x key=true)(k:ByteArray):hasB key k x=decide (Dv x key=k):=by
 unfold isKey at h
 simp only[aJ,decide_eq_true_eq]at h
 unfold hasB Dv
 rw[h.2];simp
theorem Av6 {key:ByteArray} : ∀ {l:List Val} {acc:List ByteArray},Du key acc l=true-> ∀x∈l,l.find? (hasB key (Dv x key))=some x
 | [],_,_=>by simp
 | y::l,acc,h=>by
  intro x a
  have b:=Ej h
  obtain⟨d,e⟩:=W9 h
  rw[bZ,A1b (b y cH)]
  by_cases c:Dv y key=Dv x key
  ·rcases bQ.1 a with rfl | a
   ·simp
   ·exact absurd c.symm (e x a)
  ·rcases bQ.1 a with rfl | a
   ·exact absurd rfl c
   ·simp only[c,Ze]
    exact Av6 d x a
end Go.CT.Sch
namespace Go.CT.Sch.D
open Go.Proofs
inductive VOk:Val->Prop
 | mk (v:Val):C3 v.f->((v.k=5->v.n=0/\v.s=Am/\v.l= [])/\(v.k=4->v.n=0/\v.s=Am)/\(v.k≠5->v.f= []))->(∀x∈v.l,VOk x)->(∀p∈v.f,VOk p.2)->VOk v
def D7 (s:Sch)(nm:ByteArray):Option Sch:=if s.it.length=1 then s.it[0]? else(s.fld nm).map (·.s)
inductive Agp:Sch->Val->Prop
 | leaf (s:Sch) (v:Val):v.k=s.k->v.k≠4->v.k≠5->Agp s v
 | list (s:Sch) (v:Val) (t:Sch):v.k=s.k->v.k=4->s.it= [t]->(∀x∈v.l,Agp t x)->Agp s v
 | map (s:Sch) (v:Val):v.k=s.k->v.k=5->(∀p∈v.f,(D7 s p.1).isSome =true)->(∀p∈v.f,p.2.k≠0-> ∀t,D7 s p.1=some t->Agp t p.2)->Agp s v
inductive SOk:Sch->Prop
 | mk (s:Sch):s.it.length<=1->(s.it≠ []->s.f= [])->(s.k=4->s.it.length=1)->s.f.Pairwise (λa b=>blt a.nm b.nm=true)->
  (∀x∈s.it,SOk x)->(∀p∈s.f,SOk p.s)->(∀p∈s.f,p.df.length<=1)->(∀p∈s.f,∀d∈p.df,VOk d/\d.k≠0/\Agp p.s d)->SOk s
theorem VOk.strict {v:Val}(h:VOk v):C3 v.f:=by cases h;assumption
theorem VOk.map {v:Val}(h:VOk v)(a:v.k=5):v.n=0/\v.s=Am/\v.l= []:=by cases h with | mk _ c b d e=>exact b.1 a
theorem VOk.list {v:Val}(h:VOk v)(b:v.k=4):v.n=0/\v.s=Am/\v.f= []:=by cases h with | mk _ c a d e=>exact⟨(a.2.1 b).1,(a.2.1 b).2,a.2.2 (by omega)⟩
theorem VOk.nof {v:Val}(h:VOk v)(a:v.k≠5):v.f= []:=by cases h with | mk _ c b d e=>exact b.2.2 a
theorem VOk.Ll {v:Val}(h:VOk v){x:Val}(a:x∈v.l):VOk x:=by cases h with | mk _ c d b e=>exact b x a
theorem VOk.J8 {v:Val}(h:VOk v){p:ByteArray × Val}(hp:p∈v.f):VOk p.2:=by cases h with | mk _ b c d a=>exact a p hp
theorem SOk.one {s:Sch}(h:SOk s):s.it.length<=1:=by cases h;assumption
theorem SOk.nof {s:Sch}(h:SOk s)(a:s.it≠ []):s.f= []:=by cases h with | mk _ c b d e g i j m=>exact b a
theorem SOk.list {s:Sch}(h:SOk s)(a:s.k=4):s.it.length=1:=by cases h with | mk _ c d b e g i j m=>exact b a
theorem SOk.names {s:Sch}(h:SOk s):s.f.Pairwise (λa b=>blt a.nm b.nm=true):=by cases h;assumption
theorem SOk.Ie {s x:Sch}(h:SOk s)(a:x∈s.it):SOk x:=by cases h with | mk _ c d e g b i j m=>exact b x a
theorem SOk.J8 {s:Sch}{p:SFld}(h:SOk s)(a:p∈s.f):SOk p.s:=by cases h with | mk _ c d e g i b j m=>exact b p a
theorem Nj {s t:Sch}{nm:ByteArray}(h:D7 s nm=some t):t∈s.it\/ ∃p∈s.f,p.nm=nm/\p.s=t:=by
 unfold D7 at h
 split at h
 ·exact .inl (dY h)
 ·right
  rw[Option.map_eq_some_iff]at h
  obtain⟨p,hp,rfl⟩:=h
  exact⟨p,cL hp,by simpa using gD hp,rfl⟩
theorem SOk.sub {s t:Sch}{nm:ByteArray}(a:SOk s)(h:D7 s nm=some t):SOk t:=by
 rcases Nj h with h | ⟨p,hp,_,rfl⟩
 ·exact a.Ie h
 ·exact a.J8 hp
theorem Jj {s t:Sch}{nm:ByteArray}(h:D7 s nm=some t):t.Aq<s.Aq:=by
 rcases Nj h with h | ⟨p,hp,_,rfl⟩
 ·exact fK h
 ·have:=gX hp;omega
theorem Ar0: ∀ (d:Nat) (v:Val),Cd d v=true->VOk v
 | 0,v,h=>by simp[Cd]at h
 | d+1,v,h=>by
  simp only[Cd,aJ,bT,decide_eq_true_eq]at h
  obtain⟨⟨⟨⟨a,b⟩,c⟩,e⟩,g⟩:=h
  unfold Hm at a
  refine .mk v (Nk _ g) ⟨λi=>?_,λi=>?_,b.2.2.2⟩ (λx j=>Ar0 d x (c x j)) (λp hp=>Ar0 d p.2 (e p hp).2)
  ·rw[if_neg (by omega),if_neg (by omega),if_neg (by omega)]at a
   simp only[decide_eq_true_eq]at a
   exact⟨a.2.1,a.2.2,b.2.2.1 (by omega)⟩
  ·rw[if_neg (by omega),if_neg (by omega),if_neg (by omega)]at a
   simp only[decide_eq_true_eq]at a
   exact⟨a.2.1,a.2.2⟩
theorem O6 {v:Val}(h:v.valid=true):VOk v:=by
 unfold Val.valid at h
 simp only[aJ]at h
 exact Ar0 _ _ h.1
def Bj:Sch:=⟨0,0,0,[],Am,[],[]⟩
def Vs (o:Option Sch):List IV:= [(o.getD Bj).enc,.bool o.isSome]
theorem Mr:IV.agg [.int 0,.int 0,.int 0,.list [],.str ⟨#[]⟩,.list [],.list []]=Bj.enc:=rfl
theorem Abh (s:Sch)(nm:ByteArray)(m:s.Aq<=1099511627776)(b d e g:IV): ∀ (n i:Nat),i+n=s.f.length->
  W F96 1 [.str nm,.list (s.f.map bK),.int s.f.length,.int i,b,d,e,g]=some (Vs (((s.f.drop i).find? λp=>decide (p.nm=nm)).map (·.s)))
 | 0,i,h=>by
  rw[Awg]
  have j: ¬ i<s.f.length:=by omega
  simp[j,aY (dL j),Vs,Mr]
 | n+1,i,h=>by
  have a:i<s.f.length:=by omega
  have q:=s.Bc
  have o:=Bd (i:=i) (by omega)
  have:=Abh s nm m b d e g n (i+1) (by omega)
  rw[Awg,aC a]
  simp only[dO,Aj,a,Zd,aA,aR,Zt,eU,aU,aW,bA,aK a,aN,gG,eN,fH,eE,o,this,bZ]
  by_cases c:s.f[i].nm =nm
  ·simp[c,Vs]
  ·have c':decide (s.f[i].nm =nm)=false:=by simpa using c
   simp only[c,c',Ze,aB,Zf]
theorem A55 (s:Sch)(nm:ByteArray)(a:s.Aq<=1099511627776):W F96 0 [s.enc,.str nm]=some (Vs (D7 s nm)):=by
 rw[Bd4]
 unfold D7
 have:=Abh s nm a (.int 0) (.int 0) (.int 0) (.str ⟨#[]⟩) s.f.length 0 (by omega)
 simp only[aE,aD]at this
 simp only[cY,dZ,aA,bI,aR,fA,aG,this]
 by_cases c:s.it.length=1
 ·have c':(s.it.length:Int)=1:=by omega
  obtain⟨t,b⟩:=bD.1 c
  simp[c,b,Vs]
 ·have c': ¬ (s.it.length:Int)=1:=by omega
  simp only[c,c',Ze,aB,Zf]
  rfl
mutual
def Bt:Val->Sch->Val
 | ⟨k,n,s,l,f⟩,sc=>
  if k=sc.k then
   if k=4 then(if sc.it.length=1 then⟨4,0,Am,Ae9 l (sc.it.headD Bj),[]⟩else⟨k,n,s,l,f⟩)
   else if k=5 then⟨5,0,Am,[],Aeo f sc⟩
   else⟨k,n,s,l,f⟩
  else⟨k,n,s,l,f⟩
def Ae9:List Val->Sch->List Val
 | [],_=> []
 | v::vs,t=>Bt v t::Ae9 vs t
def Aeo:List (ByteArray × Val)->Sch->List (ByteArray × Val)
 | [],_=> []
 | (nm,v)::fs,sc=>(if v.k=0 then[]else match D7 sc nm with | some t=> [(nm,Bt v t)] | none=> [])++Aeo fs sc
end
theorem Akk (l:List Val)(t:Sch):Ae9 l t=l.map λv=>Bt v t:=by
 induction l with
 | nil=>rfl
 | cons v l a=>simp[Ae9,a]
def Ef (sc:Sch)(p:ByteArray × Val):List (ByteArray × Val):=if p.2.k=0 then[]else match D7 sc p.1 with | some t=> [(p.1,Bt p.2 t)] | none=> []
theorem Aku (l:List (ByteArray × Val))(sc:Sch):Aeo l sc=l.flatMap (Ef sc):=by
 induction l with
 | nil=>rfl
 | cons p l a=>obtain⟨nm,v⟩:=p;simp only[Aeo,a,bF];rfl
theorem M5 {sc:Sch}{p q:ByteArray × Val}(h:q∈Ef sc p):q.1=p.1:=by
 unfold Ef at h
 split at h
 ·simp at h
 ·split at h<;>simp at h
  subst h;rfl
theorem Ht (v:Val)(sc:Sch):Bt v sc=
  if v.k=sc.k then
   if v.k=4 then(if sc.it.length=1 then⟨4,0,Am,v.l.map λx=>Bt x (sc.it.headD Bj),[]⟩else v)
   else if v.k=5 then⟨5,0,Am,[],v.f.flatMap (Ef sc)⟩
   else v
  else v:=by
 cases v with
 | mk k n s l f=>rw[<-Akk,<-Aku];simp only[Bt,hD,dB,dA];rfl
theorem Q0 (g:ByteArray × Val->List (ByteArray × Val))(c: ∀p q,q∈g p->q.1=p.1)(e: ∀p,(g p).length <=1): ∀l:List (ByteArray × Val),C3 l->C3 (l.flatMap g)
 | [],_=>bP
 | p::l,h=>by
  have i:=bR.1 h
  rw[bF]
  refine List.pairwise_append.2 ⟨?_,Q0 g c e l i.2,?_⟩
  ·have:=e p
   match o:g p,this with
   | [],_=>exact bP
   | [a],_=>exact eX _ _
   | _::_::_,h=>simp at h
  ·intro a j b d
   obtain⟨q,m,d⟩:=cQ.1 d
   rw[c _ _ j,c _ _ d]
   exact i.1 q m
theorem J2 (sc:Sch)(p:ByteArray × Val):(Ef sc p).length <=1:=by
 unfold Ef
 split
 ·simp
 ·split<;>simp
theorem Rj: ∀ (v:Val) (sc:Sch),(Bt v sc).Aq <=v.Aq:=by
 refine fC λv a b sc=>?_
 have e: ∀ (t:Sch) (l:List Val),(∀x∈l,∀sc,(Bt x sc).Aq <=x.Aq)->Ds (l.map λx=>Bt x t)<=Ds l:=by
  intro t l
  induction l with
  | nil=>intro _;simp[En]
  | cons x l c=>
   intro h
   have g:=h x (by simp) t
   have i:=c λy d=>h y (by simp[d])
   rw[aI,Et,Et];omega
 have j: ∀ (l:List (ByteArray × Val)),(∀p∈l,∀sc,(Bt p.2 sc).Aq <=p.2.Aq)->Cl (l.flatMap (Ef sc))<=Cl l:=by
  intro l
  induction l with
  | nil=>intro _;simp[Ck]
  | cons p l c=>
   intro h
   have i:=c λy d=>h y (by simp[d])
   rw[bF,Iw,Ca]
   have:Cl (Ef sc p)<=1+p.1.size+p.2.Aq:=by
    unfold Ef
    split
    ·rw[Ck];omega
    ·split
     ·next t _=>have g:=h p (by simp) t;rw[Ca,Ck];simp only;omega
     ·rw[Ck];omega
   omega
 rw[Ht]
 split
 ·split
  ·split
   ·have:=e (sc.it.headD Bj) v.l a
    rw[fR,v.Bx]
    simp only[eO,dB,dA,Ck,show Am.size=0 from rfl];omega
   ·exact aT _
  ·split
   ·have:=j v.f b
    rw[fR,v.Bx]
    simp only[eO,dB,dA,En,show Am.size=0 from rfl];omega
   ·exact aT _
 ·exact aT _
theorem Ale (v:Val)(a:Gl 1073741824 v):W F93 0 [v.enc]=some [v.enc]:=by
 rw[Bd7]
 have h:=Lv [v] (by simp) (by simpa using a)
 simp only[aI,aL]at h
 simp only[dE,aA,h,cJ,eT,dB,aI,aL]
 rfl
theorem Ac6 (l:List Val)(b:Ds l<=4294967200):W F94 0 [.list (l.map aZ)]=some (gR ⟨4,0,Am,l,[]⟩):=
 Lv l (by have:=Mx l;omega) λx a=>Cn x (by
  have:x.Aq<=Ds l:=Gs (List.mem_map_of_mem a)
  omega)
theorem As6 (v:Val)(a:v.Aq<=4294967100):W F93 0 [v.enc]=some [v.enc]:=Ale v (Cn v (by omega))
end Go.CT.Sch.D
namespace Go.CT.Sch.D
open Go.Proofs
theorem Ak6 (sc:Sch)(p:ByteArray × Val):Cl (Ef sc p)<=1+p.1.size+p.2.Aq:=by
 unfold Ef
 split
 ·rw[Ck];omega
 ·split
  ·next t _=>have a:=Rj p.2 t;rw[Ca,Ck];simp only;omega
  ·rw[Ck];omega
theorem Aj5 {l:List (ByteArray × Val)}{i:Nat}(h:i<l.length):Cl (l.drop i)=(1+l[i].1.size +l[i].2.Aq)+Cl (l.drop (i+1)):=by
 rw[aC h,Ca]
theorem Akh {l:List Val}{i:Nat}(h:i<l.length):Ds (l.drop i)=l[i].Aq +Ds (l.drop (i+1)):=by
 rw[aC h,Et]
theorem Vj (sc:Sch)(v:Val)(g:sc.Aq<=1099511627776)(x:v.Aq<=4294967000)(j m o:IV)(q: ∀p∈v.f,∀t,D7 sc p.1=some t->W F92 0 [t.enc,p.2.enc]=some [(Bt p.2 t).enc]):
  ∀ (n i:Nat) (acc:List (ByteArray × Val)),i+n=v.f.length->acc.length<=i->Cl acc+Cl (v.f.drop i)<=4294967000->
  W F92 1 [.list (v.f.map aS),.int v.f.length,.int i,sc.enc,j,m,o,.list (acc.map aS)]=some [(A4o (acc++(v.f.drop i).flatMap (Ef sc))).enc]
 | 0,i,acc,h,y,r=>by
  rw[Avy]
  have u: ¬ i<v.f.length:=by omega
  have b:=Avw acc (by omega)
  simp only[dO,Aj,u,Ze,aA,aR,aB,Zf,b,cJ,eT,cT,eL,aY (dL u),cM,aQ]
 | n+1,i,acc,h,y,r=>by
  have c:i<v.f.length:=by omega
  have hlen:=v.Bc
  have z:=Bd (i:=i) (by omega)
  have hp:=Ak6 sc v.f[i]
  have A:=J2 sc v.f[i]
  rw[Aj5 c]at r
  have next:=Vj sc v g x j m o q n (i+1) (acc++Ef sc v.f[i]) (by omega) (by rw[aP];omega) (by rw[Iw];omega)
  have e:(acc.length+1) * 96<=Bb:=Kv (by omega) (by omega)
  rw[bG]at next
  rw[Avy,aC c,bF,<-next]
  simp only[dO,Aj,c,Zd,aA,aR,Zt,eU,aU,aW,bA,aK c,aN,eH,Fld.C4,eQ,A55 sc _ g,Vs,eA,eM,Bad,eE,z]
  unfold Ef
  cases d:D7 sc v.f[i].1 with
  | none=>simp only[bX,aR,aB,Zf,aA,ite_self,aQ]
  | some t=>
   have a:=q _ (aF c) t d
   by_cases w:v.f[i].2.k =0
   ·simp only[aV,aR,Zt,aA,w,Zd,aO,aB,Zf,aQ]
   ·simp only[aV,aR,Zt,aA,w,Ze,bB,Zf,aH,a,bO,cN,eR,eS,bW,cE,cT,gQ,dE,hJ,aG,bM,e,cP,aI,aL]
theorem U3 (sc t:Sch)(v:Val)(u:v.Aq<=4294967000)(e g j:IV)(m:sc.it= [t])(o: ∀x∈v.l,W F92 0 [t.enc,x.enc]=some [(Bt x t).enc]):
  ∀ (n i:Nat) (acc:List Val),i+n=v.l.length->acc.length<=i->Ds acc+Ds (v.l.drop i)<=4294967000->
  W F95 1 [.list (v.l.map aZ),.int v.l.length,.int i,sc.enc,e,g,j,.list (acc.map aZ)]=some [(Val.mk 4 0 Am (acc++(v.l.drop i).map λx=>Bt x t) []).enc]
 | 0,i,acc,h,w,q=>by
  rw[Aux]
  have r: ¬ i<v.l.length:=by omega
  have b:=Ac6 acc (by omega)
  simp only[dO,Aj,r,Ze,aA,aR,aB,Zf,b,cJ,eT,cT,eL,aY (dL r),aL,aQ]
 | n+1,i,acc,h,w,q=>by
  have c:i<v.l.length:=by omega
  have hlen:=v.Bn
  have y:=Bd (i:=i) (by omega)
  have hp:=Rj v.l[i] t
  rw[Akh c]at q
  have next:=U3 sc t v u e g j m o n (i+1) (acc++ [Bt v.l[i] t]) (by omega) (by rw[aP];simp;omega) (by rw[Sc,Et,En];omega)
  have d:(acc.length+1) * 80<=Bb:=Kv (by omega) (by omega)
  have a:=o _ (aF c)
  rw[bG,bH]at next
  rw[Aux,aC c,aI,<-next]
  simp only[dO,Aj,c,Zd,aA,aR,Zt,eU,aU,aW,bA,aK c,aN,cY,m,aI,aL,dS,cV,cB,a,bO,dE,hJ,aG,bM,d,cP,eE,y]
theorem Bc5 (sc:Sch)(l:List (ByteArray × Val))(h:C3 l):Wb (l.flatMap (Ef sc))=l.flatMap (Ef sc):=
 Awx (Q0 _ (λ_ _ h=>M5 h) (J2 sc) l h)
theorem Atv: ∀v:Val,VOk v->v.Aq<=4294967000-> ∀sc:Sch,SOk sc->sc.Aq<=1099511627776->W F92 0 [sc.enc,v.enc]=some [(Bt v sc).enc]:=by
 refine fC λv d e g o sc h i=>?_
 have b:=As6 v (by omega)
 rw[Bbg,Ht]
 simp only[cN,dR,aA,eM,bI,aR]
 by_cases q:v.k=sc.k
 ·simp only[q,Zd,aO,aB,Zf,aA,Zt]
  by_cases r:sc.k=5
  ·have y:v.k=5:=by omega
   have u:=Vj sc v i o (.int 0) (.int 0) (.str ⟨#[]⟩) (λp hp t a=>e p hp (g.J8 hp) (by have:=fQ hp;omega) t (h.sub a) (by have:=Jj a;omega)) v.f.length 0 [] (by omega) (by simp) (by rw[Ck,aE];have:=v.Bx;omega)
   simp only[aE,aD,aL,bC]at u
   simp[r,u,A4o,Bc5 sc _ g.strict]
  ·by_cases j:sc.k=4
   ·have z:v.k=4:=by omega
    obtain⟨t,a⟩:=bD.1 (h.list j)
    have c:t∈sc.it:=by rw[a];simp
    have w:=U3 sc t v o (.int 0) (.int 0) (.str ⟨#[]⟩) a (λx m=>d x m (g.Ll m) (by have:=cW m;omega) t (h.Ie c) (by have:=fK c;omega)) v.l.length 0 [] (by omega) (by simp) (by rw[En,aE];have:=v.Bx;omega)
    simp only[aE,aD,aL,bC]at w
    have A:W F95 0 [sc.enc,v.enc]=some [(Val.mk 4 0 Am (v.l.map λx=>Bt x t) []).enc]:=by
     rw[Bav]
     simp[a,w]
    simp[j,A,a]
   ·simp[j,r,b]
 ·simp[q,b]
end Go.CT.Sch.D
namespace Go.CT.Sch
open Go.Proofs
theorem Z3 {x:IV}(h:WT Tryz.prog 3 x): ∃n,x= .int n:=by
 obtain⟨n,rfl,_⟩:=h.H4 (k:= .i64) (by kernel_rfl)
 exact⟨n,rfl⟩
theorem Vf {x:IV}(h:WT Tryz.prog 9 x): ∃s,x= .str s:=by
 obtain⟨s,rfl,_⟩:=h.Iu (by kernel_rfl)
 exact⟨s,rfl⟩
theorem Alb {x:IV}(h:WT Tryz.prog 4 x): ∃b,x= .bool b:=h.Mw (by kernel_rfl)
theorem Axz {x:IV}(h:WT Tryz.prog 22 x): ∃l:List ByteArray,x= .list (l.map .str):=by
 obtain⟨xs,rfl,_,h⟩:=h.C6 (e:=9) (by kernel_rfl)
 obtain⟨es,rfl,_⟩:=Ke (enc:=IV.str) (ok:=λ_=>True) (xs:=xs) λx a=>by
  obtain⟨s,e⟩:=Vf (h x a)
  exact⟨s,e,trivial⟩
 exact⟨es,rfl⟩
theorem Ay8 {x:IV}(b:WT Tryz.prog 27 x)(h: ∀y,y.bulk<x.bulk->WT Tryz.prog 30 y-> ∃v:Val,y=v.enc): ∃l:List Val,x= .list (l.map aZ):=by
 obtain⟨xs,rfl,_,c⟩:=b.C6 (e:=30) (by kernel_rfl)
 obtain⟨es,rfl,_⟩:=Ke (enc:=aZ) (ok:=λ_=>True) (xs:=xs) λy a=>by
  have d:y.bulk<(IV.list xs).bulk :=by have:=Gs a;simp only[fD];omega
  obtain⟨s,e⟩:=h y d (c y a)
  exact⟨s,e,trivial⟩
 exact⟨es,rfl⟩
theorem Azh {x:IV}(b:WT Tryz.prog 28 x)(h: ∀y,y.bulk<x.bulk->WT Tryz.prog 84 y-> ∃p,y=aS p): ∃l:List (ByteArray × Val),x= .list (l.map aS):=by
 obtain⟨xs,rfl,_,c⟩:=b.C6 (e:=84) (by kernel_rfl)
 obtain⟨es,rfl,_⟩:=Ke (enc:=aS) (ok:=λ_=>True) (xs:=xs) λy a=>by
  have d:y.bulk<(IV.list xs).bulk :=by have:=Gs a;simp only[fD];omega
  obtain⟨s,e⟩:=h y d (c y a)
  exact⟨s,e,trivial⟩
 exact⟨es,rfl⟩
theorem All: ∀ (n:Nat) (x:IV),x.bulk<=n->(WT Tryz.prog 30 x-> ∃v:Val,x=v.enc)/\(WT Tryz.prog 84 x-> ∃p,x=aS p)
 | 0,x,g=>by have:=Aex x;omega
 | n+1,x,g=>by
  have u: ∀y:IV,y.bulk<=n->WT Tryz.prog 27 y-> ∃l:List Val,y= .list (l.map aZ):=λy A h=>Ay8 h λz i j=>(All n z (by omega)).1 j
  have w: ∀y:IV,y.bulk<=n->WT Tryz.prog 28 y-> ∃l:List (ByteArray × Val),y= .list (l.map aS):=λy A h=>Azh h λz i j=>(All n z (by omega)).2 j
  constructor
  ·intro h
   obtain⟨xs,rfl,o⟩:=h.Jy (ts:= [3,3,9,27,28]) (by kernel_rfl) (by kernel_rfl)
   obtain⟨a,xs,rfl,q,h⟩:=o.cons_inv
   obtain⟨b,xs,rfl,g,h⟩:=h.cons_inv
   obtain⟨c,xs,rfl,r,h⟩:=h.cons_inv
   obtain⟨d,xs,rfl,hd,h⟩:=h.cons_inv
   obtain⟨e,xs,rfl,t,h⟩:=h.cons_inv
   obtain rfl:=h.X7
   simp only[fD,hG]at g
   obtain⟨k,rfl⟩:=Z3 q
   obtain⟨m,rfl⟩:=Z3 ‹WT Tryz.prog 3 b›
   obtain⟨s,rfl⟩:=Vf r
   obtain⟨l,rfl⟩:=u d (by omega) hd
   obtain⟨f,rfl⟩:=w e (by omega) t
   exact⟨⟨k,m,s,l,f⟩,Val.fold _ _ _ _ _⟩
  ·intro h
   obtain⟨xs,rfl,o⟩:=h.Jy (ts:= [9,3,3,9,27,28]) (by kernel_rfl) (by kernel_rfl)
   obtain⟨z,xs,rfl,i,h⟩:=o.cons_inv
   obtain⟨a,xs,rfl,q,h⟩:=h.cons_inv
   obtain⟨b,xs,rfl,g,h⟩:=h.cons_inv
   obtain⟨c,xs,rfl,r,h⟩:=h.cons_inv
   obtain⟨d,xs,rfl,hd,h⟩:=h.cons_inv
   obtain⟨e,xs,rfl,t,h⟩:=h.cons_inv
   obtain rfl:=h.X7
   simp only[fD,hG]at g
   obtain⟨nm,rfl⟩:=Vf i
   obtain⟨k,rfl⟩:=Z3 q
   obtain⟨m,rfl⟩:=Z3 ‹WT Tryz.prog 3 b›
   obtain⟨s,rfl⟩:=Vf r
   obtain⟨l,rfl⟩:=u d (by omega) hd
   obtain⟨f,rfl⟩:=w e (by omega) t
   exact⟨(nm,⟨k,m,s,l,f⟩),Fld.fold _ _ _ _ _ _⟩
theorem Awt {x:IV}(h:WT Tryz.prog 30 x): ∃v:Val,x=v.enc:=(All _ x (aT _)).1 h
theorem Aso {x:IV}(h:WT Tryz.prog 27 x): ∃l:List Val,x= .list (l.map aZ):=Ay8 h λ_ _ a=>Awt a
theorem Bd0 {x:IV}(b:WT Tryz.prog 23 x)(h: ∀y,y.bulk<x.bulk->WT Tryz.prog 26 y-> ∃v:Sch,y=v.enc): ∃l:List Sch,x= .list (l.map cK):=by
 obtain⟨xs,rfl,_,c⟩:=b.C6 (e:=26) (by kernel_rfl)
 obtain⟨es,rfl,_⟩:=Ke (enc:=cK) (ok:=λ_=>True) (xs:=xs) λy a=>by
  have d:y.bulk<(IV.list xs).bulk :=by have:=Gs a;simp only[fD];omega
  obtain⟨s,e⟩:=h y d (c y a)
  exact⟨s,e,trivial⟩
 exact⟨es,rfl⟩
theorem Ast {x:IV}(b:WT Tryz.prog 24 x)(h: ∀y,y.bulk<x.bulk->WT Tryz.prog 94 y-> ∃p:SFld,y=p.enc): ∃l:List SFld,x= .list (l.map bK):=by
 obtain⟨xs,rfl,_,c⟩:=b.C6 (e:=94) (by kernel_rfl)
 obtain⟨es,rfl,_⟩:=Ke (enc:=bK) (ok:=λ_=>True) (xs:=xs) λy a=>by
  have d:y.bulk<(IV.list xs).bulk :=by have:=Gs a;simp only[fD];omega
  obtain⟨s,e⟩:=h y d (c y a)
  exact⟨s,e,trivial⟩
 exact⟨es,rfl⟩
theorem Al0: ∀ (n:Nat) (x:IV),x.bulk<=n->(WT Tryz.prog 26 x-> ∃v:Sch,x=v.enc)/\(WT Tryz.prog 94 x-> ∃p:SFld,x=p.enc)
 | 0,x,A=>by have:=Aex x;omega
 | n+1,x,q=>by
  have C: ∀y:IV,y.bulk<=n->WT Tryz.prog 23 y-> ∃l:List Sch,y= .list (l.map cK):=λy F h=>Bd0 h λz G r=>(Al0 n z (by omega)).1 r
  have H: ∀y:IV,y.bulk<=n->WT Tryz.prog 24 y-> ∃l:List SFld,y= .list (l.map bK):=λy F h=>Ast h λz G r=>(Al0 n z (by omega)).2 r
  have B: ∀xs,WTs Tryz.prog [3,3,3,22,9,23,24] xs->hG xs<=n-> ∃s:Sch,xs=s.Ew:=by
   intro xs h A
   obtain⟨a,xs,rfl,t,h⟩:=h.cons_inv
   obtain⟨b,xs,rfl,j,h⟩:=h.cons_inv
   obtain⟨c,xs,rfl,u,h⟩:=h.cons_inv
   obtain⟨d,xs,rfl,hd,h⟩:=h.cons_inv
   obtain⟨e,xs,rfl,I,h⟩:=h.cons_inv
   obtain⟨g,xs,rfl,J,h⟩:=h.cons_inv
   obtain⟨i,xs,rfl,K,h⟩:=h.cons_inv
   obtain rfl:=h.X7
   simp only[hG]at A
   obtain⟨k,rfl⟩:=Z3 t
   obtain⟨m,rfl⟩:=Z3 j
   obtain⟨o,rfl⟩:=Z3 u
   obtain⟨en,rfl⟩:=Axz hd
   obtain⟨key,rfl⟩:=Vf I
   obtain⟨it,rfl⟩:=C g (by omega) J
   obtain⟨f,rfl⟩:=H i (by omega) K
   exact⟨⟨k,m,o,en,key,it,f⟩,by rw[fP];rfl⟩
  constructor
  ·intro h
   obtain⟨xs,rfl,w⟩:=h.Jy (ts:= [3,3,3,22,9,23,24]) (by kernel_rfl) (by kernel_rfl)
   simp only[fD]at q
   obtain⟨s,rfl⟩:=B xs w (by omega)
   exact⟨s,s.Eg.symm⟩
  ·intro h
   obtain⟨xs,rfl,w⟩:=h.Jy (ts:= [9,4,4,27,3,3,3,22,9,23,24]) (by kernel_rfl) (by kernel_rfl)
   obtain⟨a,xs,rfl,t,h⟩:=w.cons_inv
   obtain⟨b,xs,rfl,j,h⟩:=h.cons_inv
   obtain⟨c,xs,rfl,u,h⟩:=h.cons_inv
   obtain⟨d,xs,rfl,hd,h⟩:=h.cons_inv
   simp only[fD,hG]at q
   obtain⟨s,rfl⟩:=B xs h (by omega)
   obtain⟨nm,rfl⟩:=Vf t
   obtain⟨rq,rfl⟩:=Alb j
   obtain⟨im,rfl⟩:=Alb u
   obtain⟨df,rfl⟩:=Aso hd
   exact⟨⟨nm,rq,im,df,s⟩,rfl⟩
theorem Bf5 {x:IV}(h:WT Tryz.prog 26 x): ∃s:Sch,x=s.enc:=(Al0 _ x (aT _)).1 h
structure Mgr where
 name:ByteArray
 paths:List ByteArray
def Mgr.enc (m:Mgr):IV:= .agg [.str m.name,.list (m.paths.map .str)]
theorem Bfu {x:IV}(h:WT Tryz.prog 52 x): ∃m:Mgr,x=m.enc:=by
 obtain⟨xs,rfl,c⟩:=h.Jy (ts:= [9,22]) (by kernel_rfl) (by kernel_rfl)
 obtain⟨a,xs,rfl,d,h⟩:=c.cons_inv
 obtain⟨b,xs,rfl,e,h⟩:=h.cons_inv
 obtain rfl:=h.X7
 obtain⟨nm,rfl⟩:=Vf d
 obtain⟨l,rfl⟩:=Axz e
 exact⟨⟨nm,l⟩,rfl⟩
theorem Bey {x:IV}(a:WT Tryz.prog 31 x): ∃l:List Mgr,x= .list (l.map Mgr.enc):=by
 obtain⟨xs,rfl,_,b⟩:=a.C6 (e:=52) (by kernel_rfl)
 obtain⟨es,rfl,_⟩:=Ke (enc:=Mgr.enc) (ok:=λ_=>True) (xs:=xs) λy c=>by
  obtain⟨s,e⟩:=Bfu (b y c)
  exact⟨s,e,trivial⟩
 exact⟨es,rfl⟩
end Go.CT.Sch
namespace Go.CT.Sch.D
open Go.Proofs
theorem Adg {s:Sch}(h:SB s)(nm:ByteArray):D7 s nm=Sch.D7 s nm:=by
 unfold D7 Sch.D7
 have a:=h.one
 match b:s.it,a with
 | [],_=>simp
 | [t],_=>simp
theorem A7q: ∀ (v:Val) (s:Sch),SB s->Jh v s []= []->Agp s v:=by
 refine fC λv c d s b h=>?_
 have e:=Xh h
 by_cases g:v.k=4
 ·obtain⟨t,a⟩:=bD.1 (b.list (by omega))
  have m:=(A0e h g).2
  rw[a,dP]at m
  exact .list s v t e g a λx o=>c x o t (b.Ie (by rw[a];simp)) (Aio m x o)
 ·by_cases i:v.k=5
  ·have q:=(A73 h i).1
   refine .map s v e i (λp hp=>?_) (λp hp j t a=>?_)
   ·obtain⟨t,a⟩:=At3 (q p hp [])
    rw[Adg b,a];rfl
   ·rw[Adg b]at a
    exact d p hp t (b.sub a) (T4 (A6o (q p hp []) j a) [])
  ·exact .leaf s v e g i
theorem Apk {g:Sch->Bool} : ∀ (l:List SFld) (o:Option ByteArray),fOk g o l=true->l.Pairwise (λa b=>blt a.nm b.nm=true)/\ ∀q,o=some q-> ∀p∈l,blt q p.nm=true
 | [],o,_=>⟨bP,λq _ p hp=>by simp at hp⟩
 | x::l,o,h=>by
  simp only[fOk,aJ]at h
  obtain⟨e,i⟩:=Apk l (some x.nm) h.2
  have d:=i x.nm rfl
  refine⟨bR.2 ⟨d,e⟩,λq j p hp=>?_⟩
  have c:=h.1.1.1.1.2
  subst j
  simp only[Jf]at c
  rcases bQ.1 hp with rfl | hp
  ·exact c
  ·exact Hh c (d p hp)
theorem Tx: ∀ (d:Nat) (s:Sch),Cj d s=true->SOk s
 | 0,s,h=>by simp[Cj]at h
 | d+1,s,h=>by
  have c:=Hf (d+1) s h
  have e: ∀p∈s.f,SOk p.s/\p.df.length<=1/\ ∀x∈p.df,VOk x/\x.k≠0/\Agp p.s x:=by
   intro p hp
   obtain⟨_,_,j,o,g⟩:=Wf h hp
   refine⟨Tx d p.s j,o,λx q=>?_⟩
   unfold Bfi at g
   simp only[bT,aJ,eP,decide_eq_false_iff_not,decide_eq_true_eq]at g
   obtain⟨⟨r,u⟩,w⟩:=g x q
   exact⟨O6 u,r,A7q x p.s (Hf d p.s j) (cC.1 w)⟩
  have i:s.f.Pairwise (λa b=>blt a.nm b.nm=true):=by
   by_cases m:s.f= []
   ·rw[m];exact bP
   ·obtain⟨p,hp⟩:=List.exists_mem_of_ne_nil _ m
    have y:=(Wf h hp).1
    rw[Cj,if_neg (by omega),if_neg (by omega),if_neg (by omega),if_neg (by omega),if_pos y]at h
    simp only[aJ]at h
    exact(Apk s.f none h.2).1
  exact .mk s c.one c.nof c.list i (λt z=>Tx d t (Xj h z)) (λp hp=>(e p hp).1) (λp hp=>(e p hp).2.1) (λp hp=>(e p hp).2.2)
theorem Bdt (v:Val)(s:Sch):(Bt v s).k =v.k:=by
 rw[Ht]
 split
 ·split
  ·split
   ·show(4:Int)=_;omega
   ·rfl
  ·split
   ·show(5:Int)=_;omega
   ·rfl
 ·rfl
theorem Abk {v:Val}(s:Sch)(a:v.k≠4)(b:v.k≠5):Bt v s=v:=by
 rw[Ht]
 split
 ·rfl
 ·rfl
theorem Ah4 (g:ByteArray × Val->List (ByteArray × Val))(o: ∀p q,q∈g p->q.1=p.1)(r: ∀p,(g p).length <=1)(nm:ByteArray): ∀l:List (ByteArray × Val),C3 l->
  (l.flatMap g).find? (λp=>decide (p.1=nm))=(l.find? λp=>decide (p.1=nm)).bind λp=>(g p).head?
 | [],_=>rfl
 | p::l,h=>by
  have t:=bR.1 h
  rw[bF,List.find?_append,bZ,Ah4 g o r nm l t.2]
  have d:=o p
  have i:=r p
  by_cases c:p.1=nm
  ·have j:(l.find? λq=>decide (q.1=nm))=none:=by
    rw[fS]
    intro q m
    have:=Kx (t.1 q m)
    simp only[decide_eq_true_eq]
    intro e
    exact this (by rw[c,e])
   rw[j]
   have c':decide (p.1=nm)=true:=by simpa using c
   rw[c']
   match b:g p,i with
   | [],_=>simp[b]
   | [a],_=>
    have:=d a (by rw[b];simp)
    simp[b,this,c]
  ·have c':decide (p.1=nm)=false:=by simpa using c
   rw[c']
   have:(g p).find? (λq=>decide (q.1=nm))=none:=by
    rw[fS]
    intro q m
    rw[d q m,c'];simp
   rw[this];rfl
theorem Ay4 {v:Val}{s:Sch}(b:VOk v)(c:v.k=s.k)(a:v.k=5)(nm:ByteArray):(Bt v s).get nm=(v.get nm).bind λx=>if x.k=0 then none else(D7 s nm).map (Bt x):=by
 rw[Ht,if_pos c,if_neg (by omega),if_pos a]
 unfold hF
 rw[if_pos (show(Val.mk 5 0 Am [] (v.f.flatMap (Ef s))).k =5 from rfl),if_pos a]
 show((v.f.flatMap (Ef s)).find? λp=>decide (p.1=nm)).map (·.2)=_
 rw[Ah4 (Ef s) (λp q h=>M5 h) (J2 s) nm v.f b.strict]
 cases d:v.f.find? (λp=>decide (p.1=nm)) with
 | none=>rfl
 | some p=>
  have hp:p.1=nm:=by simpa using gD d
  simp only[aA,aN]
  unfold Ef
  split
  ·rfl
  ·rw[hp]
   cases D7 s nm<;>rfl
theorem Sr: ∀l:List (ByteArray × Val),C3 l->rising l=true
 | [],_=>rfl
 | [_],_=>rfl
 | p::q::r,h=>by
  have a:=bR.1 h
  simp only[rising,aJ]
  exact⟨a.1 q (by simp),Sr (q::r) a.2⟩
theorem Aot (g:ByteArray × Val->List (ByteArray × Val))(a: ∀p,(g p).length <=1): ∀l:List (ByteArray × Val),(l.flatMap g).length <=l.length
 | []=>by simp
 | p::l=>by
  have:=a p
  have:=Aot g a l
  simp only[bF,aP,bU];omega
theorem Oj: ∀ (d:Nat) (v:Val) (s:Sch),Cd d v=true->Cd d (Bt v s)=true
 | 0,v,s,h=>by simp[Cd]at h
 | d+1,v,s,h=>by
  have h':=(Eb d v).1 h
  have e:=Ar0 _ _ h
  rw[Ht]
  split
  ·split
   ·split
    ·rename_i m _
     rw[Eb]
     refine⟨rfl,⟨by show(v.l.map _).length <=64;rw[aG];exact h'.2.1.1,by show(0:Nat)<=64;omega,λc=>absurd rfl c,λ_=>rfl⟩,λx b=>?_,λp hp=>by simp at hp,rfl⟩
     simp only[dB,bJ]at b
     obtain⟨y,g,rfl⟩:=b
     exact Oj d y _ (h'.2.2.1 y g)
    ·exact h
   ·split
    ·rw[Eb]
     refine⟨rfl,⟨by show(0:Nat)<=64;omega,?_,λ_=>rfl,λc=>absurd rfl c⟩,λx b=>by simp at b,λp hp=>?_,?_⟩
     ·have:=Aot (Ef s) (J2 s) v.f
      show(v.f.flatMap (Ef s)).length <=64
      have:=h'.2.1.2.1
      omega
     ·simp only[dA,cQ]at hp
      obtain⟨q,i,hp⟩:=hp
      have j:=M5 hp
      have a:=h'.2.2.2.1 q i
      rw[j]
      refine⟨a.1,?_⟩
      unfold Ef at hp
      split at hp
      ·simp at hp
      ·split at hp
       ·simp only[bY]at hp
        subst hp
        exact Oj d q.2 _ a.2
       ·simp at hp
     ·exact Sr _ (Q0 (Ef s) (λp q h=>M5 h) (J2 s) v.f e.strict)
    ·exact h
  ·exact h
theorem Aud: ∀ (v:Val) (s:Sch),(Bt v s).size <=v.size:=by
 refine fC λv a b s=>?_
 have e: ∀ (t:Sch) (l:List Val),(∀x∈l,∀s,(Bt x s).size <=x.size)->Cz (l.map λx=>Bt x t)<=Cz l:=by
  intro t l
  induction l with
  | nil=>intro _;simp[Cz]
  | cons x l c=>
   intro h
   have g:=h x (by simp) t
   have i:=c λy d=>h y (by simp[d])
   simp only[aI,Cz];omega
 have j: ∀ (l:List (ByteArray × Val)),(∀p∈l,∀s,(Bt p.2 s).size <=p.2.size)->B9 (l.flatMap (Ef s))<=B9 l:=by
  intro l
  induction l with
  | nil=>intro _;simp[B9]
  | cons p l c=>
   intro h
   have i:=c λy d=>h y (by simp[d])
   have m:B9 (Ef s p)<=p.2.size:=by
    unfold Ef
    split
    ·simp[B9]
    ·split
     ·next t _=>have g:=h p (by simp) t;simp only[B9];omega
     ·simp[B9]
   rw[bF,Nd]
   simp only[B9];omega
 rw[Ht]
 split
 ·split
  ·split
   ·have:=e (s.it.headD Bj) v.l a
    rw[gU,v.size_eq]
    simp only[dB,dA,B9];omega
   ·exact aT _
  ·split
   ·have:=j v.f b
    rw[gU,v.size_eq]
    simp only[dB,dA,Cz];omega
   ·exact aT _
 ·exact aT _
theorem Alr {v:Val}(s:Sch)(h:v.valid=true):(Bt v s).valid =true:=by
 rw[Is]at h ⊢
 have:=Aud v s
 exact⟨Oj 12 v s h.1,by omega⟩
end Go.CT.Sch.D
namespace Go.CT.Sch
open Go.Proofs
def Ayt (x:IV):Prop:= ∃t c,x= .agg [.str t,.int c]
theorem A4u (p:List Stp)(c:Int):Ayt (I7 p c):=⟨_,_,rfl⟩
theorem Av8: ∀ (v:Val) (s:Sch) (p:List Stp),∀x∈Jh v s p,Ayt x:=by
 refine fC λv e g s p=>?_
 have sing: ∀ (q:List Stp) (c:Int),∀x∈ [I7 q c],Ayt x:=λq c x b=>by simp at b;subst b;exact A4u q c
 have nil: ∀x∈([]:List IV),Ayt x:=λx b=>by simp at b
 have i: ∀n,∀x∈Aaa p s n,Ayt x:=λn=>by
  unfold Aaa;split
  ·exact sing _ _
  ·exact nil
 have j: ∀ (l:List Val),(∀x∈l,∀s p,∀y∈Jh x s p,Ayt y)-> ∀key t prev,∀y∈K6 l key t p prev,Ayt y:=by
  intro l
  induction l with
  | nil=>intro _ key t prev y a;rw[Lu]at a;simp at a
  | cons x l m=>
   intro h key t prev y a
   rw[H9,cA,cA]at a
   rcases a with (a | a) | a
   ·exact h x (by simp) _ _ y a
   ·unfold Aus at a
    split at a
    ·exact sing _ _ y a
    ·simp at a
   ·exact m (λz o=>h z (by simp[o])) key t _ y a
 have r: ∀y∈K9 v.f s p,Ayt y:=by
  intro y a
  rw[To,cQ]at a
  obtain⟨x,b,a⟩:=a
  unfold Agl at a
  split at a
  ·exact sing _ _ y a
  ·split at a
   ·simp at a
   ·exact g x b _ _ y a
 have u: ∀y∈s.f.flatMap (J7 v p),Ayt y:=by
  intro y a
  rw[cQ]at a
  obtain⟨d,_,a⟩:=a
  unfold J7 at a
  split at a
  ·exact sing _ _ y a
  ·simp at a
 rw[Ju]
 split
 ·split
  ·exact i _
  ·split
   ·split
    ·exact sing _ _
    ·split
     ·exact sing _ _
     ·exact nil
   ·split
    ·intro x b
     rcases cA.1 b with b | b
     ·exact i _ x b
     ·exact j v.l e _ _ _ x b
    ·split
     ·intro x b
      rcases cA.1 b with b | b
      ·exact r x b
      ·exact u x b
     ·exact nil
 ·exact sing _ _
def chk (s:Sch)(v:Val):List IV:=if s.valid&&v.valid then Jh v s []else[.agg [.str Am,.int 1]]
theorem A5r (s:Sch)(v:Val)(b:s.Aq<=1048576)(c:v.Aq<=1048576):W F87 0 [s.enc,v.enc]=some [.list (chk s v)]:=by
 rw[Bbi]
 unfold chk
 simp only[Oe s b,Iq v (by omega),bO,dG,aA,aR,Ax,Al,cT,dE]
 cases a:s.valid with
 | false=>rfl
 | true=>
  cases v.valid with
  | false=>rfl
  | true=>simp[Agn v c s (eI a) b]
theorem Auy (s:Sch)(v:Val)(b:s.Aq<=1048576)(c:v.Aq<=1048576):W F215 0 [s.enc,v.enc]=some [.list (chk s v)]:=by
 rw[A4n]
 unfold chk
 simp only[Pz s b,Pc v (by omega),bO,dG,aA,aR,Ax,Al,cT,dE]
 cases a:s.valid with
 | false=>rfl
 | true=>
  cases v.valid with
  | false=>rfl
  | true=>
   have:=Ari v c s (eI a) b [] (by simp) (by simp;omega)
   simp only[aL]at this
   simp[this]
end Go.CT.Sch
namespace Go.CT.Sch
open Go.Proofs
theorem Bas (l:List SFld)(i:Nat)(a:i<l.length):fE 4 7 true false (.list (l.map bK)) (.int i) l[i].s.enc =some (.list (l.map bK)):=by
 have b:(l.map bK)[i]?=some (bK l[i]):=by rw[bA,aK a];rfl
 have d:(l.map bK).set i (bK l[i])=l.map bK:=by
  rw[<-fV,cR]
 unfold fE
 simp only[fM,aU,Zt,aW,b,aB,Zf]
 rw[l[i].s.Eg]
 simp only[bK]
 have c:l[i].s.Ew.length =7:=rfl
 simp only[c,Zt]
 congr 2
theorem Bh3 (l:List SFld)(i:Nat)(a:i<l.length):fE 3 1 false false (.list (l.map bK)) (.int i) (.list (l[i].df.map aZ))=some (.list (l.map bK)):=by
 have b:(l.map bK)[i]?=some (bK l[i]):=by rw[bA,aK a];rfl
 have c:(l.map bK).set i (bK l[i])=l.map bK:=by
  rw[<-fV,cR]
 unfold fE
 simp only[fM,aU,Zt,aW,b,aB,Zf]
 simp only[bK]
 congr 2
theorem Sch.Ci (s:Sch):IV.agg [.int s.k,.int s.mn,.int s.mx,.list (s.en.map .str),.str s.key,.list (s.it.map cK),.list (s.f.map bK)]=s.enc:=by
 rw[s.Eg,s.Be]
theorem Ai4:IV.agg [.int 0,.int 0,.int 0,.list [],.str Am,.list [],.list []]=Bj.enc:=rfl
theorem Zv {β:Type}{a b c d e g h:IV}{f:IV->IV->IV->IV->IV->IV->IV->Option β} :calls (some [a,b,c,d,e,g,h]) 7 f=f a b c d e g h:=rfl
theorem Ba2 {β:Type}{a b c d e g h i:IV}{f:IV->IV->IV->IV->IV->IV->IV->IV->Option β} :calls (some [a,b,c,d,e,g,h,i]) 8 f=f a b c d e g h i:=rfl
theorem Aat (s:Sch)(u:s.Aq<=1048576)(d e g j m o q r a b:IV)(t: ∀p∈s.f,W Bfe 0 [p.s.enc]=some p.s.Ew): ∀ (n i:Nat),i+n=s.f.length->
  W Bfe 2 [.int s.f.length,.int i,d,e,g,j,m,o,q,r,.list (s.f.map bK),a,b]=some [d,e,g,a,j,b,.list (s.f.map bK)]
 | 0,i,h=>by
  rw[Anl]
  have w: ¬ i<s.f.length:=by omega
  simp only[dO,Aj,w,Ze,aA,aR,aB,Zf]
 | n+1,i,h=>by
  have c:i<s.f.length:=by omega
  have z:=s.Bc
  have x:=Bd (i:=i) (by omega)
  have y:=gX (aF c)
  have:=Aat s u d e g j m o q r a b t n (i+1) (by omega)
  have hd:=Ac6 s.f[i].df (by omega)
  rw[cJ]at hd
  rw[Anl]
  simp only[dO,Aj,c,Zd,aA,aR,Zt,eU,aU,aW,bA,aK c,aN,eN,t _ (aF c),fP,Zv,cT,Sch.Ci,Bas s.f i c,SFld.Bz,hd,eT,dB,Bh3 s.f i c,eE,x,this]
theorem Ack (s:Sch)(u:s.Aq<=1048576)(e g j m o q r a b:IV)(t: ∀x∈s.it,W Bfe 0 [x.enc]=some x.Ew): ∀ (n i:Nat),i+n=s.it.length->
  W Bfe 1 [.int s.it.length,.int i,e,g,j,m,.list (s.f.map bK),o,q,r,a,.list (s.it.map cK),b]=W Bfe 2 [.int s.f.length,.int (0:Nat),e,g,j,m,o,q,r,a,.list (s.f.map bK),b,.list (s.it.map cK)]
 | 0,i,h=>by
  rw[Amz]
  have w: ¬ i<s.it.length:=by omega
  have A:=s.Bc
  have y:(s.f.map bK).length <=1073741824:=by rw[aG];omega
  simp only[dO,Aj,w,Ze,aA,aR,aB,Zf,Bh5,Dw y,bO,fA,aG]
  rfl
 | n+1,i,h=>by
  have d:i<s.it.length:=by omega
  have B:=s.Q2
  have z:=Bd (i:=i) (by omega)
  have:=Ack s u e g j m o q r a b t n (i+1) (by omega)
  have c:fE 0 7 true true (.list (s.it.map cK)) (.int i) s.it[i].enc =some (.list (s.it.map cK)):=by
   rw[show(IV.list (s.it.map cK))=eJ cK s.it from rfl,hC cK d,cR]
  rw[Amz]
  simp only[dO,Aj,d,Zd,aA,aR,Zt,eU,aU,aW,bA,aK d,aN,t _ (aF d),fP,Zv,cT,Sch.Ci,c,eE,z,this]
theorem A42: ∀s:Sch,s.Aq<=1048576->W Bfe 0 [s.enc]=some s.Ew:=by
 refine Sch.ind λs a b d=>?_
 have e:=Ack s d (.int s.k) (.int s.mn) (.int s.mx) (.str s.key) (.int 0) (.int 0) (.int 0) (.str ⟨#[]⟩) (.list (s.en.map .str)) (λx g=>a x g (by have:=fK g;omega)) s.it.length 0 (by omega)
 have h:=Aat s d (.int s.k) (.int s.mn) (.int s.mx) (.str s.key) (.int 0) (.int 0) (.int 0) (.str ⟨#[]⟩) (.list (s.en.map .str)) (.list (s.it.map cK)) (λp hp=>b p hp (by have:=gX hp;omega)) s.f.length 0 (by omega)
 rw[h]at e
 rw[A2n]
 have j:=s.Q2
 have m:=s.Kc
 have i:(s.it.map cK).length <=1073741824:=by rw[aG];omega
 have c:(s.en.map IV.str).length <=1073741824:=by rw[aG];omega
 simp only[dR,gI,gJ,gK,dF,cY,dZ,aA,Aw0,Bh1,Dw i,Dw c,bO,fA,aG]
 rw[fP]
 exact e
theorem Bbc (s:Sch)(x:Stp)(w:s.Aq<=1048576)(i:SB s):W F143 0 [s.enc,x.enc]=some [((Vq s x).getD Bj).enc,.bool (Vq s x).isSome]:=by
 have a:=Ad4 s x.nm (by omega)
 have j:=Akm s
 rw[A6g]
 simp only[gY,gZ,aA,bI,aR,j,bO,Ax,Al,cY,dF,dR,cT]
 unfold Vq
 by_cases k1:x.k=1
 ·simp only[k1,Zd,Zt]
  by_cases c:s.k=5
  ·simp only[c,Zd,bL,Zt]
   cases b:s.it with
   | nil=>
    rw[b]at a
    simp only[c,aX,and_self,Zd,bL,Zt]at a
    simp only[aX,Nat.lt_irrefl,Ze,aB,Zf,a,eA,eN,aA]
    unfold D7
    rw[b]
    cases s.fld x.nm with
    | none=>rfl
    | some d=>rfl
   | cons t r=>
    simp[D7,b]
  ·have q: ¬ (s.k=5/\s.it.length=0):=λh=>c h.1
   simp only[q,Ze,Zf,cF]at a
   simp only[c,Ze,cF,aB,Zf,a,eA,eN,aA]
   rfl
 ·simp only[k1,Ze,aB,Zf]
  by_cases m:s.k=4
  ·obtain⟨t,u⟩:=bD.1 (i.list m)
   simp only[m,Zd,Zt,fX,fH,aA,aR,Ax,Al,u,aI,aL,eU,dS,cV,cB,eB,Dk]
   by_cases k2:x.k=2
   ·simp[k2]
   ·by_cases e:x.k=3
    ·by_cases g:s.key=Am
     ·simp[e,g];rfl
     ·by_cases o:s.key=x.nm
      ·simp[e,o]
       rw[o]at g
       simp[g]
      ·simp[e,g,o];rfl
    ·simp[k2,e];rfl
  ·simp only[m,Ze,aB,Zf]
   rfl
theorem Aql {s t:Sch}{x:Stp}(h:SB s)(a:Vq s x=some t):SB t:=by
 unfold Vq at a
 split at a
 ·split at a
  ·exact h.sub a
  ·cases a
 ·split at a
  ·split at a
   ·exact h.Ie (List.mem_of_mem_head? a)
   ·cases a
  ·cases a
def Bi2 (o:Option Sch):List IV:=(o.getD Bj).Ew ++ [.bool o.isSome]
theorem Av2 (p:List Stp)(o:p.length<=1099511627776)(e g j m:IV): ∀ (n i:Nat) (s:Sch),i+n=p.length->s.Aq<=1048576->SB s->
  W F142 1 [.list (p.map bN),.int p.length,.int i,s.enc,e,g,j,m]=some (Bi2 (atS s (p.drop i)))
 | 0,i,s,h,c,a=>by
  have q: ¬ i<p.length:=by omega
  rw[Arh,aY (by omega)]
  simp only[dO,Aj,q,Ze,aA,aR,aB,Zf,A42 s c,fP,Zv,atS,Bi2,aH,aV]
  rfl
 | n+1,i,s,h,c,a=>by
  have d:i<p.length:=by omega
  have r:=Bd (i:=i) (by omega)
  rw[Arh,aC d]
  simp only[dO,Aj,d,Zd,aA,aR,Zt,eU,aU,aW,bA,aK d,aN,Bbc s p[i] c a,eA,dG,atS,eE,r]
  cases b:Vq s p[i]with
  | none=>rfl
  | some t=>
   have:=Av2 p o e g j m n (i+1) t (by omega) (by have:=Abs b;omega) (Aql a b)
   simp only[aV,aO,aB,Zf,aH,this,aA]
def atV (s:Sch)(p:List Stp):Option Sch:=if s.valid&&Db p then atS s p else none
theorem Bjw (s:Sch)(p:List Stp)(b:s.Aq<=1048576)(hp: ∀x∈p,x.fits)(c:p.length<=1099511627776):W F142 0 [s.enc,.list (p.map bN)]=some (Bi2 (atV s p)):=by
 rw[A3f]
 unfold atV
 simp only[Oe s b,S3 p hp c,bO,dG,aA,aR,Ax,Al,fA,aG]
 cases a:s.valid with
 | false=>rfl
 | true=>
  cases Db p with
  | false=>rfl
  | true=>
   have:=Av2 p c (.int 0) (.int 0) (.int 0) (.str ⟨#[]⟩) p.length 0 s (by omega) b (eI a)
   simp only[aD,aE]at this
   simp only[aO,aB,Zf,this,cI,Zt]
theorem Arz (p:List Stp)(H:p.length<=1099511627776)(u w x y:IV): ∀ (n i:Nat) (s:Sch),i+n=p.length->s.Aq<=1048576->SB s->
  W Bi6 1 [.list (p.map bN),.int i,s.enc,u,w,x,y]=some [((atS s (p.drop i)).getD Bj).enc,.bool (atS s (p.drop i)).isSome]
 | 0,i,s,h,I,b=>by
  have J: ¬ i<p.length:=by omega
  rw[Aqk,aY (by omega)]
  simp only[fA,aG,dO,Aj,J,Ze,aA,aR,aB,Zf,atS,aH,aV]
 | n+1,i,s,h,I,b=>by
  have q:i<p.length:=by omega
  have K:=Bd (i:=i) (by omega)
  have z:=W6 s p[i].nm (by omega)
  have next: ∀t,Vq s p[i]=some t->W Bi6 2 [.list (p.map bN),.int i,t.enc,u,w,x,y]=some [((atS s (p.drop i)).getD Bj).enc,.bool (atS s (p.drop i)).isSome]:=by
   intro t a
   rw[A5o]
   simp only[eE,K,aA]
   rw[Arz p H u w x y n (i+1) t (by omega) (by have:=Abs a;omega) (Aql b a),aC q]
   simp only[atS,a,aA]
  have stop:Vq s p[i]=none->some [Bj.enc,IV.bool false]=some [((atS s (p.drop i)).getD Bj).enc,.bool (atS s (p.drop i)).isSome]:=by
   intro a
   rw[aC q]
   simp only[atS,a]
   rfl
  rw[Aqk]
  simp only[fA,aG,dO,Aj,q,Zd,aA,aR,Zt,eU,aU,aW,bA,aK q,aN,gY,gZ,z,eA,bI,dR,dF,cY,Ax,Al,O.Ox,eN,fX,fH,cT,Ai4,Dk]
  unfold Vq at next stop
  by_cases k1:p[i].k =1
  ·simp only[k1,Zt]at next stop
   by_cases c:s.k=5
   ·simp only[c,Zt]at next stop
    cases e:s.it with
    | nil=>
     unfold D7 at next stop
     rw[e]at next stop
     cases F:s.fld p[i].nm with
     | none=>
      rw[F]at stop
      have:=stop rfl
      simp[k1,c]
      simpa using this
     | some d=>
      rw[F]at next
      have:=next d.s rfl
      simp[k1,c]
      exact this
    | cons t r=>
     have L:r= []:=by have:=b.one;rw[e]at this;simpa using this
     subst L
     unfold D7 at next
     rw[e]at next
     have:=next t rfl
     simp[k1,c]
     exact this
   ·simp only[c,Zf]at stop
    have:=stop trivial
    simp[k1,c]
    simpa using this
  ·simp only[k1,Zf]at next stop
   by_cases j:s.k=4
   ·obtain⟨t,G⟩:=bD.1 (b.list j)
    simp only[j,Zt,G,eB]at next stop
    have c: ¬ (4:Int)=5:=by omega
    simp only[k1,j,c,Ze,aB,Zf,Zd,Zt,G,aI,aL,dS,cV,cB,aA]
    by_cases m:p[i].k =2\/(p[i].k =3/\s.key≠Am/\s.key=p[i].nm)
    ·have:=next t (by rw[if_pos m])
     rcases m with k2 | ⟨g,o,A⟩
     ·simp only[k2,Zd,Zt];exact this
     ·have k2: ¬ p[i].k =2:=by omega
      have B:decide (s.key=Am)=false:=by simpa using o
      have C:decide (s.key=p[i].nm)=true:=by simpa using A
      simp only[g,B,C,Zd,bB,Zt,ite_self];exact this
    ·have:=stop (by rw[if_neg m])
     have k2: ¬ p[i].k =2:=λh=>m (.inl h)
     simp only[k2,Ze,aB,Zf]
     by_cases g:p[i].k =3
     ·by_cases o:s.key=Am
      ·simp only[g,o,Zd,aO,aB,Zf,Zt];exact this
      ·have A: ¬ s.key=p[i].nm :=λh=>m (.inr ⟨g,o,h⟩)
       simp only[g,o,A,Ze,Zd,bB,aB,Zf,Zt];exact this
     ·simp only[g,Ze,aB,Zf];exact this
   ·simp only[j,Zf]at stop
    have:=stop trivial
    simp only[k1,j,Ze,aB,Zf,ite_self]
    exact this
theorem Bgj (s:Sch)(p:List Stp)(b:s.Aq<=1048576)(hp: ∀x∈p,x.fits)(c:p.length<=1099511627776):W Bi6 0 [s.enc,.list (p.map bN)]=some [((atV s p).getD Bj).enc,.bool (atV s p).isSome]:=by
 rw[A7d]
 unfold atV
 simp only[Pz s b,Lm p hp c,bO,dG,aA,aR,Ax,Al,cT,Mr]
 cases a:s.valid with
 | false=>rfl
 | true=>
  cases Db p with
  | false=>rfl
  | true=>
   have:=Arz p c (.int 0) (.int 0) (.int 0) (.str ⟨#[]⟩) p.length 0 s (by omega) b (eI a)
   simp only[aD,aE]at this
   simp only[aO,aB,Zf,this,cI,Zt]
end Go.CT.Sch
namespace Go.CT.Sch
open Go.Proofs
def Hu:List ByteArray->Bool
 | []=>true
 | [_]=>true
 | a::b::l=>blt a b&&Hu (b::l)
theorem prv {i:Nat}(h:i<4611686018427387904):O.sub .i64 (.int ((i+1:Nat):Int)) (.int 1)=some (.int (i:Nat)):=by
 rw[O.Cv,wrap64 (by omega) (by omega)]
 congr 2
 omega
theorem Arf (l:List ByteArray)(d:l.length<=1099511627776): ∀ (n i:Nat),i+1+n=l.length->W F85 1 [.list (l.map .str),.int ((i+1:Nat):Int)]=some [.bool (Hu (l.drop i))]
 | 0,i,h=>by
  have a:i<l.length:=by omega
  have hd:l.drop i= [l[i]]:=by
   rw[aC a,dU (by omega)]
  have e:i+1=l.length:=by omega
  rw[Ajs,Dz,hd]
  simp only[aA,e,ltn,aR,aB,Zf]
  rfl
 | n+1,i,h=>by
  have a:i<l.length:=by omega
  have b:i+1<l.length:=by omega
  have hd:l.drop i=l[i]::l[i+1]::l.drop (i+1+1):=by
   rw[aC a,aC b]
  have c:=Arf l d n (i+1) (by omega)
  rw[aC b]at c
  rw[Ajs,Dz,hd]
  simp only[aA,lti b,aR,Zt,prv (i:=i) (by omega),Hy _ a,Hy _ b,Rt,nxt (i:=i+1) (by omega),c,Hu]
  cases blt l[i] l[i+1]<;>simp
theorem A94 (l:List ByteArray)(b:l.length<=1099511627776):W F85 0 [.list (l.map .str)]=some [.bool (Hu l)]:=by
 rw[Bae]
 match l,b with
 | [],_=>rw[Ajs];rfl
 | a::l,b=>
  have:=Arf (a::l) b l.length 0 (by simp[Nat.add_comm])
  simp only[cZ,aE]at this
  exact this
def Lo (s:ByteArray):Bool:=decide (1<=s.size)&&decide (s.size<=40)
theorem Axk (s:ByteArray):W F84 0 [.str s]=some [.bool (Lo s)]:=by
 rw[Beg]
 have a:O.ge (.int (s.size:Int)) (.int 1)=some (.bool (decide (1<=s.size))):=by rw[O.Gx];congr 2;exact decide_eq_decide.2 (by omega)
 have b:O.le (.int (s.size:Int)) (.int 40)=some (.bool (decide (s.size<=40))):=by rw[O.Gb];congr 2;exact decide_eq_decide.2 (by omega)
 simp only[hL,aA,a,aR,b,Lo]
 cases decide (1<=s.size)<;>simp
theorem A96 (s:ByteArray):W F183 0 [.str s]=some [.bool (Lo s)]:=by
 rw[A2p]
 have a:O.ge (.int (s.size:Int)) (.int 1)=some (.bool (decide (1<=s.size))):=by rw[O.Gx];congr 2;exact decide_eq_decide.2 (by omega)
 have b:O.le (.int (s.size:Int)) (.int 40)=some (.bool (decide (s.size<=40))):=by rw[O.Gb];congr 2;exact decide_eq_decide.2 (by omega)
 simp only[hL,aA,a,aR,b,Lo]
 cases decide (1<=s.size)<;>simp
end Go.CT.Sch
namespace Go.CT.Sch
open Go.Proofs
def okM (m:Mgr):Bool:=Lo m.name&& !decide (m.paths.length=0)&&Hu m.paths
def Aad (l:List Mgr):Bool:=l.all okM&&(decide (l.length<=16)&&Hu (l.map Mgr.name))
theorem Acm (m:Mgr):qAC 0 m.enc=some (.str m.name):=rfl
theorem Aly (m:Mgr):qAC 1 m.enc=some (.list (m.paths.map .str)):=rfl
theorem eq0 (n:Nat):O.eq (.int (n:Int)) (.int 0)=some (.bool (decide (n=0))):=by rw[bI];congr 2;exact decide_eq_decide.2 (by omega)
theorem Anw (l:List Mgr)(d:l.length<=1048576)(hp: ∀m∈l,m.paths.length<=1099511627776): ∀ (n i:Nat) (acc:List ByteArray),i+n=l.length->acc.length=i->
  W F83 1 [.list (l.map Mgr.enc),.list (l.map Mgr.enc),.int (l.length:Nat),.int (i:Nat),.list (acc.map .str)]=some [.bool ((l.drop i).all okM&&(decide (l.length<=16)&&Hu (acc++(l.drop i).map Mgr.name)))]
 | 0,i,acc,h,c=>by
  have a:i=l.length:=by omega
  subst a
  have e:O.le (.int (l.length:Int)) (.int 16)=some (.bool (decide (l.length<=16))):=by rw[O.Gb];congr 2;exact decide_eq_decide.2 (by omega)
  rw[Azy]
  simp only[ltn,aA,aR,aB,Zf,Dz,e,A94 acc (by omega),bO,aM,dC,bL,aL,aQ]
  cases decide (l.length<=16)<;>simp
 | n+1,i,acc,h,c=>by
  have a:i<l.length:=by omega
  have g:=Anw l d hp n (i+1) (acc++ [l[i].name]) (by omega) (by simp[c])
  have ap:=apm IV.str (n:=16) acc l[i].name (by omega)
  have b:=hp _ (aF a)
  rw[Azy,aC a]
  simp only[lti a,aA,aR,Zt,Hy _ a,Acm,Aly,Axk,bO,dG,Dz,eq0,A94 _ b,dE,ap,nxt (i:=i) (by omega),g,cU,okM,aI,bG,bH]
  cases Lo l[i].name<;>cases decide (l[i].paths.length =0)<;>cases Hu l[i].paths<;>simp
theorem A9b (l:List Mgr)(a:l.length<=1048576)(hp: ∀m∈l,m.paths.length<=1099511627776):W F83 0 [.list (l.map Mgr.enc)]=some [.bool (Aad l)]:=by
 have:=Anw l a hp l.length 0 [] (by omega) rfl
 simp only[aD,aE,bC,aL]at this
 rw[Bdj,Dz]
 exact this
theorem A9p (l:List Mgr)(i:Nat)(c:i<l.length)(g:l.length<=1048576)(hp:l[i].paths.length <=1099511627776): ∀ (n j:Nat),j+1+n=l[i].paths.length ->
  W Bf2 2 [.list (l.map Mgr.enc),.int (i:Nat),.int ((j+1:Nat):Int)]=if Hu (l[i].paths.drop j) then W Bf2 1 [.list (l.map Mgr.enc),.int ((i+1:Nat):Int)]else some [.bool false]
 | 0,j,h=>by
  have a:j<l[i].paths.length :=by omega
  have hd:l[i].paths.drop j= [l[i].paths[j]]:=by
   rw[aC a,dU (by omega)]
  have m:j+1=l[i].paths.length :=by omega
  rw[Asi,hd]
  simp only[Hy _ c,aA,Aly,Dz,m,ltn,aR,aB,Zf,nxt (i:=i) (by omega),Hu,Zt]
 | n+1,j,h=>by
  have a:j<l[i].paths.length :=by omega
  have b:j+1<l[i].paths.length :=by omega
  have hd:l[i].paths.drop j=l[i].paths[j]::l[i].paths[j+1]::l[i].paths.drop (j+1+1):=by
   rw[aC a,aC b]
  have d:=A9p l i c g hp n (j+1) (by omega)
  rw[aC b]at d
  rw[Asi,hd]
  simp only[Hy _ c,aA,Aly,Dz,lti b,aR,Zt,prv (i:=j) (by omega),Hy _ a,Hy _ b,Rt,nxt (i:=j+1) (by omega),d,Hu]
  by_cases e:blt l[i].paths[j] l[i].paths[j+1]=true
  ·simp[e,Hu]
  ·simp[e]
theorem A8p (l:List Mgr)(j:l.length<=1048576)(hp: ∀m∈l,m.paths.length<=1099511627776): ∀ (n i:Nat),i+n=l.length->
  W Bf2 1 [.list (l.map Mgr.enc),.int (i:Nat)]=some [.bool ((l.drop i).all okM&&Hu ((l.drop (i - 1)).map Mgr.name))]
 | 0,i,h=>by
  have b:i=l.length:=by omega
  subst b
  have q:Hu ((l.drop (l.length - 1)).map Mgr.name)=true:=by
   by_cases a:l.length=0
   ·rw[cC.1 a];rfl
   ·rw[aC (by omega),dU (by omega)];rfl
  rw[Ars]
  simp only[Dz,ltn,aA,aR,aB,Zf,q,aM,dC,bL]
 | n+1,i,h=>by
  have b:i<l.length:=by omega
  have r:=A8p l j hp n (i+1) (by omega)
  have c:=hp _ (aF b)
  have d:l[i].paths.length ≠0->W Bf2 2 [.list (l.map Mgr.enc),.int (i:Nat),.int 1]=if Hu l[i].paths then some [.bool ((l.drop (i+1)).all okM&&Hu ((l.drop i).map Mgr.name))]else some [.bool false]:=by
   intro a
   have:=A9p l i b j c (l[i].paths.length - 1) 0 (by omega)
   rw[r]at this
   simpa only[cZ,fT,aE,aD]using this
  rw[Ars,aC b]
  simp only[Dz,lti b,aA,aR,Zt,Hy _ b,Acm,Aly,A96,bO,dG,eq0,cU,okM]
  cases i with
  | zero=>
   have g:gW (.int ((0:Nat):Int)) (.int 0)=some (.bool false):=rfl
   simp only[g,aA,aR,aB,Zf]
   rw[show l.drop (0 - 1)=l.drop 0 from rfl]
   cases Lo l[0].name
   ·simp
   ·by_cases a:l[0].paths.length =0
    ·simp[a]
    ·simp only[a,Ze,d a]
     cases Hu l[0].paths<;>simp
  | succ k=>
   have o:k<l.length:=by omega
   have g:gW (.int ((k+1:Nat):Int)) (.int 0)=some (.bool true):=by rw[fN];congr 2;exact decide_eq_true (by omega)
   have hd:(l.drop (k+1 - 1)).map Mgr.name=l[k].name ::(l.drop (k+1)).map Mgr.name:=by
    rw[fT,aC o,aI]
   have e:(l.drop (k+1)).map Mgr.name=l[k+1].name ::(l.drop (k+1+1)).map Mgr.name:=by
    rw[aC b,aI]
   simp only[g,aA,aR,Zt,prv (i:=k) (by omega),Hy _ o,Acm,Rt,hd]
   rw[e]at d ⊢
   simp only[Hu]
   cases Lo l[k+1].name
   ·simp
   ·cases blt l[k].name l[k+1].name
    ·simp
    ·by_cases a:l[k+1].paths.length =0
     ·simp[a]
     ·simp only[a,Ze,d a]
      cases Hu l[k+1].paths<;>simp
theorem Bkc (l:List Mgr)(a:l.length<=1048576)(hp: ∀m∈l,m.paths.length<=1099511627776):W Bf2 0 [.list (l.map Mgr.enc)]=some [.bool (Aad l)]:=by
 have:=A8p l a hp l.length 0 (by omega)
 simp only[aD,aE,Nat.zero_sub]at this
 have g:gW (.int (l.length:Int)) (.int 16)=some (.bool (!decide (l.length<=16))):=by
  rw[fN];congr 2
  by_cases h:l.length<=16
  ·simp only[h,Zd,aO];exact decide_eq_false (by omega)
  ·simp only[h,Ze,bB];exact decide_eq_true (by omega)
 rw[A1u,Dz]
 simp only[aA,g,aR,this,Aad]
 cases decide (l.length<=16)<;>simp
end Go.CT.Sch
namespace Go.CT.Sch
open Go.Proofs
theorem Amk (s:Sch)(v:Val)(a:v.Aq<=1048576):W F89 0 [s.enc,v.enc]=some [.str (Dv v s.key),.bool (isKey v s.key)]:=by
 rw[Bek]
 unfold Dv isKey
 simp only[dF,Acn v s.key (by omega),Ij,Hq,aR,bI,aA,Ax,Al]
 cases(v.get s.key).isSome<;>simp
def Ho (s:Sch):Bool:=decide (s.k=4)&& !decide (s.key=Am)
theorem Ado (s:Sch):W F90 0 [s.enc]=some [.bool (Ho s)]:=by
 rw[Bew]
 simp only[dR,dF,aA,bI,fX,aR,Ax,Al,Ho]
 by_cases h:s.k=4<;>simp[h,Am]
 all_goals rfl
theorem Avx (s:Sch)(v:Val)(a:v.Aq<=1048576):W F254 0 [s.enc,v.enc]=some [.str (Dv v s.key)]:=by
 rw[A7y]
 simp only[dF,Adb v s.key (by omega),Ij,Hq,aA,Dv]
theorem Abv (s:Sch)(nm:ByteArray)(g:s.Aq<=1048576)(a b c d:IV): ∀ (n i:Nat),i+n=s.f.length->
  W F91 1 [.str nm,.list (s.f.map bK),.int (s.f.length:Nat),.int (i:Nat),a,b,c,d]=some [oE (((s.f.drop i).find? λp=>decide (p.nm=nm)).map (·.s)),.bool ((s.f.drop i).find? λp=>decide (p.nm=nm)).isSome]
 | 0,i,h=>by
  have e:i=s.f.length:=by omega
  subst e
  rw[Avz,aM]
  simp only[ltn,aA,aR,aB,Zf]
  rfl
 | n+1,i,h=>by
  have e:i<s.f.length:=by omega
  have m:s.f.length<=1048576:=by have:=s.Bc;omega
  have j:=Abv s nm g a b c d n (i+1) (by omega)
  rw[Avz,aC e,bZ]
  simp only[lti e,aA,aR,Zt,Hy bK e,gG,fH,eN,nxt (show i<4611686018427387904 by omega),j]
  by_cases c:s.f[i].nm =nm
  ·simp[c,oE]
  ·have c':decide (s.f[i].nm =nm)=false:=by simpa using c
   simp only[c',aB,Zf]
theorem Amj (s:Sch)(nm:ByteArray)(d:s.Aq<=1048576)(a:SB s):W F91 0 [s.enc,.str nm]=some [oE (D7 s nm),.bool (D7 s nm).isSome]:=by
 have b:=a.one
 have:=Abv s nm d (.int 0) (.int 0) (.int 0) (.str ⟨#[]⟩) s.f.length 0 (by omega)
 simp only[aE,aD]at this
 rw[Baq]
 simp only[cY,dZ,aA,Dz,bI,aR]
 unfold D7
 cases c:s.it with
 | nil=>
  have e:decide (((([]:List Sch).length :Nat):Int)=1)=false:=by decide
  simp only[e,aB,Zf,fU]
  exact this
 | cons t ts=>
  have g:ts= []:=by rw[c]at b;simp at b;exact b
  subst g
  simp[oE]
end Go.CT.Sch
namespace Go.CT.Sch
open Go.Proofs
theorem Aes {s t:Sch}{nm:ByteArray}(h:D7 s nm=some t):t.Aq<s.Aq:=by
 rcases Nj h with h | ⟨p,hp,_,rfl⟩
 ·exact fK h
 ·have:=gX hp;omega
def Akq (s:Sch)(x:Val):Bool:= !Ho s||isKey x s.key
def kyB:Nat->Sch->Val->Bool
 | 0,_,_=>true
 | d+1,s,v=>if s.k=v.k then(v.l.all λx=>Akq s x&&((s.it.head?).map λt=>kyB d t x).getD true)&&(v.f.all λp=>((D7 s p.1).map λt=>kyB d t p.2).getD true) else true
def KyP (d:Nat):Prop:= ∀ (v:Val) (s:Sch),v.size<=d->v.Aq<=1048576->s.Aq<=1048576->SB s->W F88 0 [s.enc,v.enc]=some [.bool (kyB d s v)]
theorem Avl (d:Nat)(e:KyP d)(v:Val)(s:Sch)(hd:v.size<=d+1)(m:v.Aq<=1048576)(g:s.Aq<=1048576)(c:SB s): ∀ (n i:Nat),i+n=v.f.length->
  W F88 2 [.list (v.f.map aS),.int (v.f.length:Nat),.int (i:Nat),s.enc]=some [.bool ((v.f.drop i).all λp=>((D7 s p.1).map λt=>kyB d t p.2).getD true)]
 | 0,i,h=>by
  have:i=v.f.length:=by omega
  subst this
  rw[Ax7,aM]
  simp only[ltn,aA,aR,aB,Zf,dC]
 | n+1,i,h=>by
  have b:i<v.f.length:=by omega
  have o:=v.Bc
  have j:=aF b
  have u:=fQ j
  have w:=gA j
  have r:=Avl d e v s hd m g c n (i+1) (by omega)
  rw[Ax7,aC b,cU]
  simp only[lti b,aA,aR,Zt,Hy aS b,eH,Amj s _ g c,eA,eQ,nxt (show i<4611686018427387904 by omega),r]
  cases a:D7 s v.f[i].1 with
  | none=>simp
  | some t=>
   have:=Aes a
   have q:=e v.f[i].2 t (by omega) (by omega) (by omega) (c.sub a)
   simp only[aV,Zt,oE,aH,q,bO,dG,aA,aN,aR]
   cases kyB d t v.f[i].2<;>simp
theorem Av3 (d:Nat)(e:KyP d)(v:Val)(s:Sch)(hd:v.size<=d+1)(g:v.Aq<=1048576)(j:s.Aq<=1048576)(b:SB s): ∀ (n i:Nat),i+n=v.l.length->
  W F88 1 [.list (v.l.map aZ),.int (v.l.length:Nat),.int (i:Nat),s.enc,v.enc]=some [.bool (((v.l.drop i).all λx=>Akq s x&&((s.it.head?).map λt=>kyB d t x).getD true)&&(v.f.all λp=>((D7 s p.1).map λt=>kyB d t p.2).getD true))]
 | 0,i,h=>by
  have:i=v.l.length:=by omega
  subst this
  have q:=Avl d e v s hd g j b v.f.length 0 (by omega)
  simp only[aD,aE]at q
  rw[Az3,aM]
  simp only[ltn,aA,aR,aB,Zf,dC,cE,Dz,q,bL]
 | n+1,i,h=>by
  have c:i<v.l.length:=by omega
  have y:=v.Bn
  have m:=aF c
  have z:=cW m
  have A:=gB m
  have r:=Av3 d e v s hd g j b n (i+1) (by omega)
  have one:=b.one
  rw[Az3,aC c,cU]
  simp only[lti c,aA,aR,Zt,Hy aZ c,Amk s _ (show v.l[i].Aq <=1048576 by omega),eA,Ado,bO,dG,cY,Dz,bI,nxt (show i<4611686018427387904 by omega),r,Akq]
  cases a:s.it with
  | nil=>
   cases Ho s<;>cases isKey v.l[i] s.key<;>simp
  | cons t ts=>
   have u:ts= []:=by rw[a]at one;simp at one;exact one
   subst u
   have o:t∈s.it:=by rw[a];exact bY.2 rfl
   have:=fK o
   have q:=e v.l[i] t (by omega) (by omega) (by omega) (b.Ie o)
   have ix:eZ (.list ([t].map cK)) (.int 0)=some t.enc:=rfl
   have w:decide ((([t].length :Nat):Int)=1)=true:=rfl
   simp only[w,Zt,ix,aA,q,bO,dG,eB,aN,aH]
   cases Ho s<;>cases isKey v.l[i] s.key<;>cases kyB d t v.l[i]<;>simp
theorem Bhz: ∀d,KyP d
 | 0=>λv _ h=>by have:=v.size_pos;omega
 | d+1=>λv s hd a b c=>by
  have q:=Av3 d (Bhz d) v s hd a b c v.l.length 0 (by omega)
  simp only[aD,aE]at q
  rw[Bcp]
  simp only[dR,cN,aA,eM,aR,bW,Dz,q,kyB]
  by_cases h:s.k=v.k<;>simp[h]
end Go.CT.Sch
namespace Go.CT.Sch
open Go.Proofs
inductive VT:Val->Prop
 | mk (v:Val):(v.k≠4->v.l= [])->(v.k≠5->v.f= [])->(∀x∈v.l,VT x)->(∀p∈v.f,VT p.2)->VT v
theorem VT.nol {v:Val}(h:VT v):v.k≠4->v.l= []:=by cases h;assumption
theorem VT.nof {v:Val}(h:VT v):v.k≠5->v.f= []:=by cases h;assumption
theorem VT.Ll {v x:Val}(h:VT v)(a:x∈v.l):VT x:=by cases h with | mk _ c d b e=>exact b x a
theorem VT.J8 {v:Val}{p:ByteArray × Val}(h:VT v)(a:p∈v.f):VT p.2:=by cases h with | mk _ c d e b=>exact b p a
theorem Aau (s:Sch)(nm:ByteArray)(a b c d:IV): ∀ (n i:Nat),i+n=s.f.length->s.Aq<=1048576->
  W F217 1 [.str nm,.int (i:Nat),s.enc,a,b,c,d]=some [oE (((s.f.drop i).find? λp=>decide (p.nm=nm)).map (·.s))]
 | 0,i,h,g=>by
  have e:i=s.f.length:=by omega
  subst e
  rw[Amg,aM]
  simp only[dZ,Dz,ltn,aA,aR,aB,Zf]
  rfl
 | n+1,i,h,g=>by
  have e:i<s.f.length:=by omega
  have m:=s.Bc
  have j:=Aau s nm a b c d n (i+1) (by omega) g
  rw[Amg,aC e,bZ]
  simp only[dZ,Dz,lti e,aA,aR,Zt,Hy bK e,gG,fH,eN,nxt (show i<4611686018427387904 by omega),j]
  by_cases c:s.f[i].nm =nm
  ·simp[c,oE]
  ·have c':decide (s.f[i].nm =nm)=false:=by simpa using c
   simp only[c',aB,Zf]
theorem Ani (s:Sch)(nm:ByteArray)(b:s.Aq<=1048576):W F217 0 [s.enc,.str nm]=some [oE (D7 s nm)]:=by
 have:=Aau s nm (.int 0) (.int 0) (.int 0) (.str ⟨#[]⟩) s.f.length 0 (by omega) b
 simp only[aE,aD]at this
 rw[A63]
 simp only[cY,aA,Dz,fN,aR]
 unfold D7
 cases c:s.it with
 | nil=>
  have a:decide ((0:Int)<((([]:List Sch).length :Nat):Int))=false:=by decide
  simp only[a,aB,Zf]
  exact this
 | cons t ts=>
  have a:decide ((0:Int)<((((t::ts):List Sch).length :Nat):Int))=true:=decide_eq_true (by simp only[bU];omega)
  simp only[a,Zt]
  rfl
def KyR (d:Nat):Prop:= ∀ (v:Val) (s:Sch),v.size<=d->v.Aq<=1048576->s.Aq<=1048576->SB s->VT v->W Bht 0 [s.enc,v.enc]=some [.bool (kyB d s v)]
theorem At5 (v:Val)(a:VT v):W Bht 0 [Bj.enc,v.enc]=some [.bool true]:=by
 rw[An7]
 simp only[dR,cN,aA,eM,aR]
 by_cases h:Bj.k=v.k
 ·have d:v.k=0:=h.symm
  have b:=a.nol (by omega)
  have c:=a.nof (by omega)
  simp only[h,Zd,aO,aB,Zf]
  rw[Ae5]
  simp only[bW,b,aA]
  rw[Ae1]
  simp only[cE,c]
  rfl
 ·simp[h]
theorem Auz (d:Nat)(e:KyR d)(v:Val)(s:Sch)(hd:v.size<=d+1)(u:v.Aq<=1048576)(g:s.Aq<=1048576)(j:SB s)(m:VT v): ∀ (n i:Nat),i+n=v.f.length->
  W Bht 2 [.int (i:Nat),s.enc,v.enc]=some [.bool ((v.f.drop i).all λp=>((D7 s p.1).map λt=>kyB d t p.2).getD true)]
 | 0,i,h=>by
  have:i=v.f.length:=by omega
  subst this
  rw[Ae1,aM]
  simp only[cE,Dz,ltn,aA,aR,aB,Zf,dC]
 | n+1,i,h=>by
  have b:i<v.f.length:=by omega
  have w:=v.Bc
  have c:=aF b
  have x:=fQ c
  have y:=gA c
  have o:=m.J8 c
  have r:=Auz d e v s hd u g j m n (i+1) (by omega)
  rw[Ae1,aC b,cU]
  simp only[cE,Dz,lti b,aA,aR,Zt,Hy aS b,eH,Ani s _ g,bO,eQ,nxt (show i<4611686018427387904 by omega),r]
  cases a:D7 s v.f[i].1 with
  | none=>
   simp only[oE,bV,At5 _ o,bO,dG,aA,aR,dQ]
   simp
  | some t=>
   have:=Aes a
   have q:=e v.f[i].2 t (by omega) (by omega) (by omega) (j.sub a) o
   simp only[oE,aH,q,bO,dG,aA,aN,aR]
   cases kyB d t v.f[i].2<;>simp
theorem Ayk (d:Nat)(o:KyR d)(v:Val)(s:Sch)(hd:v.size<=d+1)(w:v.Aq<=1048576)(y:s.Aq<=1048576)(j:SB s)(m:VT v)(z:s.k=v.k): ∀ (n i:Nat),i+n=v.l.length->
  W Bht 1 [.int (i:Nat),s.enc,v.enc]=some [.bool (((v.l.drop i).all λx=>Akq s x&&((s.it.head?).map λt=>kyB d t x).getD true)&&(v.f.all λp=>((D7 s p.1).map λt=>kyB d t p.2).getD true))]
 | 0,i,h=>by
  have:i=v.l.length:=by omega
  subst this
  have q:=Auz d o v s hd w y j m v.f.length 0 (by omega)
  simp only[aD,aE]at q
  rw[Ae5,aM]
  simp only[bW,Dz,ltn,aA,aR,aB,Zf,dC,q,bL]
 | n+1,i,h=>by
  have b:i<v.l.length:=by omega
  have F:=v.Bn
  have u:=aF b
  have G:=cW u
  have H:=gB u
  have B:=m.Ll u
  have r:=Ayk d o v s hd w y j m z n (i+1) (by omega)
  have A:s.k=4:=by
   rw[z]
   by_cases c:v.k=4
   ·exact c
   ·rw[m.nol c]at b;simp at b
  have one:=j.list A
  obtain⟨t,e⟩: ∃t,s.it= [t]:=bD.1 one
  have g:t∈s.it:=by rw[e];exact bY.2 rfl
  have:=fK g
  have q:=o v.l[i] t (by omega) (by omega) (by omega) (j.Ie g) B
  have ix:eZ (.list ([t].map cK)) (.int 0)=some t.enc:=rfl
  rw[Ae5,aC b,cU]
  simp only[bW,Dz,lti b,aA,aR,Zt,Hy aZ b,dF,Md _ _ (show v.l[i].Aq <=1048576 by omega),eA,fX,bO,dG,cY,e,ix,q,nxt (show i<4611686018427387904 by omega),r,Akq,Ho,A,Ex,Zd,bL,eB,aN,aH]
  by_cases a:s.key=Am
  ·have:s.key=(⟨#[]⟩:ByteArray):=a
   simp only[a,this,Zd]
   have C:Am=(⟨#[]⟩:ByteArray):=rfl
   cases isKey v.l[i] Am<;>cases kyB d t v.l[i]<;>simp[C]
  ·have: ¬ s.key=(⟨#[]⟩:ByteArray):=a
   simp only[a,this,Ze]
   cases isKey v.l[i] s.key<;>cases kyB d t v.l[i]<;>simp
theorem Bgh: ∀d,KyR d
 | 0=>λv _ h=>by have:=v.size_pos;omega
 | d+1=>λv s hd a b c e=>by
  rw[An7]
  simp only[dR,cN,aA,eM,aR,kyB]
  by_cases h:s.k=v.k
  ·have q:=Ayk d (Bgh d) v s hd a b c e h v.l.length 0 (by omega)
   simp only[aD,aE]at q
   simp only[q,h,Zd,aO,aB,Zf,Zt]
  ·simp[h]
theorem Ac8: ∀ (n:Nat) (v:Val),v.size<=n->v.valid=true->VT v
 | 0,v,h,_=>by have:=v.size_pos;omega
 | n+1,v,h,a=>by
  refine .mk v (λb=>Og a b) (λb=>Lr a b) (λx c=>?_) λp hp=>?_
  ·have:=gB c
   exact Ac8 n x (by omega) (G6 a c)
  ·have:=gA hp
   exact Ac8 n p.2 (by omega) (G5 a hp).1
end Go.CT.Sch
namespace Go.CT.Sch
open Go.Proofs
def Aag:IV->Bool
 | .agg [_,.int c]=>decide (c=7)
 | _=>false
def N5 (s:Sch)(v:Val):Bool:=s.valid&&(v.valid&&(decide (v.k=5)&&((Jh v s []).all Aag&&kyB v.size s v)))
theorem idxr {e:List IV}{i:Nat}(h:i<e.length):eZ (.list e) (.int i)=some e[i]:=by
 have:=Hy (λx:IV=>x) h
 simpa only[List.map_id']using this
theorem A0i (s:Sch)(v:Val)(e:List IV)(m:e.length<=2199025352704)(d: ∀x∈e,Ayt x)(r:Bool)(g:W F88 0 [s.enc,v.enc]=some [.bool r]): ∀ (n i:Nat),i+n=e.length->
  W F86 1 [.int (e.length:Nat),.int (i:Nat),s.enc,v.enc,.list e]=some [.bool ((e.drop i).all Aag&&(decide (v.k=5)&&r))]
 | 0,i,h=>by
  have:i=e.length:=by omega
  subst this
  rw[Aec,aM]
  simp only[ltn,aA,aR,aB,Zf,cN,bI,g,bO,dC,bL]
  cases decide (v.k=5)<;>simp
 | n+1,i,h=>by
  have c:i<e.length:=by omega
  have o:=A0i s v e m d r g n (i+1) (by omega)
  obtain⟨a,b,j⟩:=d _ (aF c)
  have q:qAC 1 e[i]=some (.int b):=by rw[j];rfl
  have t:Aag e[i]=decide (b=7):=by rw[j];rfl
  rw[Aec,aC c,cU,t]
  simp only[lti c,aA,aR,Zt,idxr c,q,eM,nxt (show i<4611686018427387904 by omega),o]
  cases decide (b=7)<;>simp
theorem A38 (s:Sch)(v:Val)(b:s.Aq<=1048576)(c:v.Aq<=1048576):W F86 0 [s.enc,v.enc]=some [.bool (N5 s v)]:=by
 rw[Bax,A5r s v b c]
 simp only[bO,fA,aA]
 unfold chk N5
 by_cases a:s.valid=true
 ·by_cases d:v.valid=true
  ·have e:SB s:=Hf _ s a
   have g:=Bhz v.size v s (aT _) c b e
   have:=A0i s v (Jh v s []) (Ai7 e b c) (Av8 v s []) _ g (Jh v s []).length 0 (by omega)
   simp only[aD,aE]at this
   simp only[a,d,cI,Zt,this,bL]
   cases decide (v.k=5)<;>cases(Jh v s []).all Aag<;>simp
  ·simp only[a,d,dJ,aB,Zf,cF]
   rw[Aec];rfl
 ·simp only[a,cF,aB,Zf]
  rw[Aec];rfl
theorem Avt (s:Sch)(v:Val)(e:List IV)(m:e.length<=2199025352704)(d: ∀x∈e,Ayt x)(r:Bool)(g:W Bht 0 [s.enc,v.enc]=some [.bool r]): ∀ (n i:Nat),i+n=e.length->
  W F184 1 [.int (i:Nat),s.enc,v.enc,.list e]=some [.bool ((e.drop i).all Aag&&r)]
 | 0,i,h=>by
  have:i=e.length:=by omega
  subst this
  rw[Aqa,aM]
  simp only[fA,ltn,aA,aR,aB,Zf,g,bO,dC,bL]
 | n+1,i,h=>by
  have c:i<e.length:=by omega
  have o:=Avt s v e m d r g n (i+1) (by omega)
  obtain⟨a,b,j⟩:=d _ (aF c)
  have q:qAC 1 e[i]=some (.int b):=by rw[j];rfl
  have t:Aag e[i]=decide (b=7):=by rw[j];rfl
  rw[Aqa,aC c,cU,t]
  simp only[fA,lti c,aA,aR,Zt,idxr c,q,eM,nxt (show i<4611686018427387904 by omega),o]
  cases decide (b=7)<;>simp
theorem Bic (s:Sch)(v:Val)(a:s.Aq<=1048576)(c:v.Aq<=1048576):W F184 0 [s.enc,v.enc]=some [.bool (N5 s v)]:=by
 rw[A1g]
 simp only[cN,eM,aA,aR,Pz s a,Pc v (by omega),Auy s v a c,bO,dG,Ax,Al]
 unfold chk N5
 by_cases b:s.valid=true
 ·by_cases d:v.valid=true
  ·have g:SB s:=Hf _ s b
   have h:=Bgh v.size v s (aT _) c a g (Ac8 _ v (aT _) d)
   have:=Avt s v (Jh v s []) (Ai7 g a c) (Av8 v s []) _ h (Jh v s []).length 0 (by omega)
   simp only[aD,aE]at this
   simp only[b,d,cI,Zt,this,bL]
   cases decide (v.k=5)<;>simp
  ·by_cases e:v.k=5<;>simp[b,d,e]
 ·by_cases e:v.k=5<;>simp[b,e]
end Go.CT.Sch
namespace Go.CT.Sch
open Go.Proofs
def Gi (l:List Mgr)(nm:ByteArray):List ByteArray:=((l.find? λm=>decide (m.name=nm)).map Mgr.paths).getD []
theorem At8 (m:Mgr):qAC 1 m.enc=some (SL m.paths):=rfl
theorem Ao0 (l:List Mgr)(nm:ByteArray)(d:l.length<=1048576)(hp: ∀m∈l,m.paths≠ []): ∀ (n i:Nat),i+n=l.length->
  W F148 1 [.str nm,.list (l.map Mgr.enc),.int (l.length:Nat),.int (i:Nat)]=some [SL (Gi (l.drop i) nm)]
 | 0,i,h=>by
  have:i=l.length:=by omega
  subst this
  rw[Aq0,aM]
  simp only[ltn,aA,aR,aB,Zf]
  rfl
 | n+1,i,h=>by
  have a:i<l.length:=by omega
  have b:=Ao0 l nm d hp n (i+1) (by omega)
  have e:0<l[i].paths.length :=dM.2 (hp _ (aF a))
  have ix:=Hy IV.str e
  simp only[aD]at ix
  unfold Gi at b ⊢
  rw[Aq0,aC a,bZ]
  simp only[lti a,aA,aR,Zt,Hy Mgr.enc a,Acm,Aly,fH,ix,nxt (show i<4611686018427387904 by omega),b]
  by_cases c:l[i].name =nm
  ·simp only[c,Zd,Zt,aN,aH];rfl
  ·have c':decide (l[i].name =nm)=false:=by simpa using c
   simp only[c',aB,Zf]
theorem A9l (l:List Mgr)(nm:ByteArray)(a:l.length<=1048576)(hp: ∀m∈l,m.paths≠ []):W F148 0 [.list (l.map Mgr.enc),.str nm]=some [SL (Gi l nm)]:=by
 have:=Ao0 l nm a hp l.length 0 (by omega)
 simp only[aD,aE]at this
 rw[A3l,Dz]
 exact this
theorem Apc (l:List Mgr)(nm:ByteArray)(d:l.length<=1048576): ∀ (n i:Nat),i+n=l.length->
  W F247 1 [.list (l.map Mgr.enc),.str nm,.int (i:Nat)]=some [SL (Gi (l.drop i) nm)]
 | 0,i,h=>by
  have:i=l.length:=by omega
  subst this
  rw[Aol,aM]
  simp only[Dz,ltn,aA,aR,aB,Zf]
  rfl
 | n+1,i,h=>by
  have a:i<l.length:=by omega
  have b:=Apc l nm d n (i+1) (by omega)
  unfold Gi at b ⊢
  rw[Aol,aC a,bZ]
  simp only[Dz,lti a,aA,aR,Zt,Hy Mgr.enc a,Acm,Aly,fH,nxt (show i<4611686018427387904 by omega),b]
  by_cases c:l[i].name =nm
  ·simp only[c,Zd,Zt,aN,aH];rfl
  ·have c':decide (l[i].name =nm)=false:=by simpa using c
   simp only[c',aB,Zf]
theorem Bgt (l:List Mgr)(nm:ByteArray)(a:l.length<=1048576):W F247 0 [.list (l.map Mgr.enc),.str nm]=some [SL (Gi l nm)]:=by
 have:=Apc l nm a l.length 0 (by omega)
 simp only[aD,aE]at this
 rw[A7j]
 exact this
def Ali (nm:ByteArray):List Mgr->List ByteArray->List ByteArray
 | [],a=>a
 | m::l,a=>Ali nm l (if m.name=nm then a else Vu (a++m.paths))
def Yy:List Mgr->Nat
 | []=>0
 | m::l=>m.paths.length+Yy l
theorem Y5 (l:List Mgr)(nm:ByteArray)(d:l.length<=1048576): ∀ (n i:Nat) (a:List ByteArray),i+n=l.length->a.length+Yy (l.drop i)<=1048576->
  W F149 1 [.str nm,.list (l.map Mgr.enc),.int (l.length:Nat),.int (i:Nat),SL a]=some [SL (Ali nm (l.drop i) a)]
 | 0,i,a,h,e=>by
  have:i=l.length:=by omega
  subst this
  rw[Aop,aM]
  simp only[ltn,aA,aR,aB,Zf,Ali]
 | n+1,i,a,h,e=>by
  have b:i<l.length:=by omega
  rw[aC b,Yy]at e
  have g:=K3 (a++l[i].paths)
  rw[aP]at g
  have i1:=Y5 l nm d n (i+1) a (by omega) (by omega)
  have i2:=Y5 l nm d n (i+1) (Vu (a++l[i].paths)) (by omega) (by omega)
  rw[Aop,aC b,Ali]
  simp only[lti b,aA,aR,Zt,Hy Mgr.enc b,Acm,At8,fX,A8o a _ (by omega) (show l[i].paths.length <=1048576 by omega),bO]
  rw[Amo,Amo]
  simp only[nxt (show i<4611686018427387904 by omega),aA,i1,i2]
  by_cases c:l[i].name =nm<;>simp[c]
theorem Bb8 (l:List Mgr)(nm:ByteArray)(a:l.length<=1048576)(b:Yy l<=1048576):W F149 0 [.list (l.map Mgr.enc),.str nm]=some [SL (Ali nm l [])]:=by
 have:=Y5 l nm a l.length 0 [] (by omega) (by simpa using b)
 simp only[aD,aE]at this
 rw[A4i,Dz]
 exact this
theorem Yb (l:List Mgr)(nm:ByteArray)(d:l.length<=1048576): ∀ (n i:Nat) (a:List ByteArray),i+n=l.length->a.length+Yy (l.drop i)<=1048576->
  W F249 1 [.list (l.map Mgr.enc),.str nm,.int (i:Nat),SL a]=some [SL (Ali nm (l.drop i) a)]
 | 0,i,a,h,e=>by
  have:i=l.length:=by omega
  subst this
  rw[Apz,aM]
  simp only[Dz,ltn,aA,aR,aB,Zf,Ali]
 | n+1,i,a,h,e=>by
  have b:i<l.length:=by omega
  rw[aC b,Yy]at e
  have g:=K3 (a++l[i].paths)
  rw[aP]at g
  have i1:=Yb l nm d n (i+1) a (by omega) (by omega)
  have i2:=Yb l nm d n (i+1) (Vu (a++l[i].paths)) (by omega) (by omega)
  rw[Apz,aC b,Ali]
  simp only[Dz,lti b,aA,aR,Zt,Hy Mgr.enc b,Acm,At8,fX,A85 a _ (show a.length+l[i].paths.length <=1048576 by omega),bO]
  rw[Ao6,Ao6]
  simp only[nxt (show i<4611686018427387904 by omega),aA,i1,i2]
  by_cases c:l[i].name =nm<;>simp[c]
theorem Baz (l:List Mgr)(nm:ByteArray)(a:l.length<=1048576)(b:Yy l<=1048576):W F249 0 [.list (l.map Mgr.enc),.str nm]=some [SL (Ali nm l [])]:=by
 have:=Yb l nm a l.length 0 [] (by omega) (by simpa using b)
 simp only[aD,aE]at this
 rw[A60]
 exact this
end Go.CT.Sch
namespace Go.CT.Sch
open Go.Proofs
def Ay (s:Sch)(v:Val):List ByteArray:=(H6 s v).filter λx=> !decide (x=Am)
theorem Abr (s:Sch)(v:Val):SS (H6 s v):=by
 unfold H6
 split
 ·exact Aek _
 ·exact bP
theorem A01 {l:List ByteArray}(h:SS l):Vu l=l:=SS.ext (Aek l) h λ_=>Wd
theorem Afp (s:Sch)(v:Val):Gf (H6 s v) [Am]=Ay s v:=by
 unfold Gf Ay
 rw[A01 (Abr s v)]
 congr 1
 funext x
 simp[inB]
theorem Sk (s:Sch)(v:Val)(a:s.Aq<=1048576)(b:v.Aq<=1048576):W F97 0 [s.enc,v.enc]=some [SL (Ay s v)]:=by
 have c:=Rc s v
 have d:=v.Eu
 have e:(IV.list [.str ⟨#[]⟩])=SL [Am]:=rfl
 rw[Bbw,Ax5 s v a b]
 simp only[bO,dE,aA,e,Ajl (H6 s v) [Am] (by omega) (by decide),Afp]
theorem Re (l:List ByteArray)(d:l.length<=1048576): ∀ (n i:Nat) (a:List ByteArray),i+n=l.length->a.length<=i->
  W F222 1 [.int (i:Nat),SL l,SL a]=some [SL (a++(l.drop i).filter λx=> !decide (x=Am))]
 | 0,i,a,h,e=>by
  have:i=l.length:=by omega
  subst this
  rw[Ao8,gH,aM]
  simp only[ltn,aA,aR,aB,Zf,cG,aQ]
 | n+1,i,a,h,e=>by
  have b:i<l.length:=by omega
  have i1:=Re l d n (i+1) a (by omega) (by omega)
  have i2:=Re l d n (i+1) (a++ [l[i]]) (by omega) (by simp;omega)
  have g:=gP IV.str (aK b)
  have ap:dN 16 (SL a) (.list [.str l[i]])=some (SL (a++ [l[i]])):=apm IV.str a l[i] (by omega)
  have j:Am=(⟨#[]⟩:ByteArray):=rfl
  rw[Ao8,gH,aC b,bE]
  simp only[lti b,aA,aR,Zt,g,fX,dE,ap]
  rw[Asd,Asd]
  simp only[nxt (show i<4611686018427387904 by omega),aA,i1,i2,j]
  by_cases c:l[i]=(⟨#[]⟩:ByteArray)<;>simp[c]
theorem Awz (s:Sch)(v:Val)(a:s.Aq<=1048576)(b:v.Aq<=1048576):W F222 0 [s.enc,v.enc]=some [SL (Ay s v)]:=by
 have c:=Rc s v
 have d:=v.Eu
 have:=Re (H6 s v) (by omega) (H6 s v).length 0 [] (by omega) (by simp)
 simp only[aD,aE,bC]at this
 rw[A5i,Aw9 s v a b]
 simp only[bO]
 exact this
end Go.CT.Sch
namespace Go.CT.Sch
open Go.Proofs
def Aef (p:ByteArray)(l:List Mgr):List ByteArray:=(l.filter λm=>inB m.paths p).map Mgr.name
theorem Bjq (l:List ByteArray)(x:ByteArray):(l.any λe=>decide (e=x))=inB l x:=by
 unfold inB
 congr 1
 funext e
 exact decide_eq_decide.2 eq_comm
theorem Z8 (l:List Mgr)(p:ByteArray)(c:l.length<=1048576)(hp: ∀m∈l,m.paths.length<=1048576): ∀ (n i:Nat) (a:List ByteArray),i+n=l.length->a.length<=i->
  W Bj2 1 [.str p,.list (l.map Mgr.enc),.int (l.length:Nat),.int (i:Nat),SL a]=some [SL (a++Aef p (l.drop i))]
 | 0,i,a,h,d=>by
  have:i=l.length:=by omega
  subst this
  rw[Ar2,aM]
  simp only[ltn,aA,aR,aB,Zf,Aef,cG,aL,aQ]
 | n+1,i,a,h,d=>by
  have b:i<l.length:=by omega
  have e:=hp _ (aF b)
  have i1:=Z8 l p c hp n (i+1) a (by omega) (by omega)
  have i2:=Z8 l p c hp n (i+1) (a++ [l[i].name]) (by omega) (by simp;omega)
  have ap:dN 16 (SL a) (.list [.str l[i].name])=some (SL (a++ [l[i].name])):=apm IV.str a l[i].name (by omega)
  unfold Aef at i1 i2 ⊢
  rw[Ar2,aC b,bE]
  simp only[lti b,aA,aR,Zt,Hy Mgr.enc b,Acm,Aly,Mo _ p (show l[i].paths.length <=1099511627776 by omega),Bjq,bO,dE,ap]
  rw[Anx,Anx]
  simp only[nxt (show i<4611686018427387904 by omega),aA,i1,i2]
  cases inB l[i].paths p<;>simp
theorem Bdk (l:List Mgr)(p:ByteArray)(a:l.length<=1048576)(hp: ∀m∈l,m.paths.length<=1048576):W Bj2 0 [.list (l.map Mgr.enc),.str p]=some [SL (Aef p l)]:=by
 have:=Z8 l p a hp l.length 0 [] (by omega) (by simp)
 simp only[aD,aE,bC]at this
 rw[A6c,Dz]
 exact this
end Go.CT.Sch
namespace Go.CT.Sch
open Go.Proofs
def I6 (l:List Mgr):List Mgr:=l.filter λm=>decide (0<m.paths.length)
theorem Wz (l:List Mgr)(c:l.length<=1048576)(hp: ∀m∈l,m.paths.length<=1048576): ∀ (n i:Nat) (a:List Mgr),i+n=l.length->a.length<=i->
  W Bjd 1 [.list (l.map Mgr.enc),.int (l.length:Nat),.int (i:Nat),.list (a.map Mgr.enc)]=some [.list ((a++I6 (l.drop i)).map Mgr.enc)]
 | 0,i,a,h,d=>by
  have:i=l.length:=by omega
  subst this
  rw[Ap8,aM]
  simp only[ltn,aA,aR,aB,Zf,I6,cG,aQ]
 | n+1,i,a,h,d=>by
  have b:i<l.length:=by omega
  have e:=hp _ (aF b)
  have i1:=Wz l c hp n (i+1) a (by omega) (by omega)
  have i2:=Wz l c hp n (i+1) (a++ [l[i]]) (by omega) (by simp;omega)
  have ap:dN 40 (.list (a.map Mgr.enc)) (.list [.agg [.str l[i].name,.list (l[i].paths.map .str)]])=some (.list ((a++ [l[i]]).map Mgr.enc)):=apm Mgr.enc a l[i] (by omega)
  have g:gW (.int (l[i].paths.length :Int)) (.int 0)=some (.bool (decide (0<l[i].paths.length))):=by rw[fN];congr 2;exact decide_eq_decide.2 (by omega)
  have cl:O.Il [.list (l[i].paths.map IV.str)]=some [.list (l[i].paths.map .str)]:=Dw (by rw[aG];omega)
  unfold I6 at i1 i2 ⊢
  rw[Ap8,aC b,bE]
  simp only[lti b,aA,aR,Zt,Hy Mgr.enc b,Acm,Aly,Dz,g,Aw0,cl,bO,cT,dE,ap]
  rw[Arl,Arl]
  simp only[nxt (show i<4611686018427387904 by omega),aA,i1,i2]
  cases decide (0<l[i].paths.length)<;>simp
theorem Bcc (l:List Mgr)(a:l.length<=1048576)(hp: ∀m∈l,m.paths.length<=1048576):W Bjd 0 [.list (l.map Mgr.enc)]=some [.list ((I6 l).map Mgr.enc)]:=by
 have:=Wz l a hp l.length 0 [] (by omega) (by simp)
 simp only[aD,aE,bC,aL]at this
 rw[A1y,Dz]
 exact this
end Go.CT.Sch
namespace Go.CT.Sch
open Go.Proofs
structure Cf where
 path:ByteArray
 mgr:ByteArray
def Cf.enc (c:Cf):IV:= .agg [.str c.path,.str c.mgr]
theorem cf0 (c:Cf):qAC 0 c.enc=some (.str c.path):=rfl
theorem cf1 (c:Cf):qAC 1 c.enc=some (.str c.mgr):=rfl
def Ri (cs:List Cf)(nm:ByteArray):List ByteArray:=(cs.filter λc=>decide (c.mgr=nm)).map Cf.path
theorem Aw1 (cs:List Cf)(m:Mgr)(d:cs.length<=1048576)(hp:m.paths.length<=1048576): ∀ (n i:Nat) (a:List ByteArray),i+n=cs.length->a.length<=i->
  W F168 1 [.list (cs.map Cf.enc),.int (cs.length:Nat),.int (i:Nat),m.enc,SL a]=some [SL (Gf m.paths (a++Ri (cs.drop i) m.name))]
 | 0,i,a,h,e=>by
  have:i=cs.length:=by omega
  subst this
  rw[Asa,aM]
  simp only[ltn,aA,aR,aB,Zf,Ri,cG,aL,aQ,At8,Ajl m.paths a hp (by omega),bO]
 | n+1,i,a,h,e=>by
  have b:i<cs.length:=by omega
  have i1:=Aw1 cs m d hp n (i+1) a (by omega) (by omega)
  have i2:=Aw1 cs m d hp n (i+1) (a++ [cs[i].path]) (by omega) (by simp;omega)
  have ap:dN 16 (SL a) (.list [.str cs[i].path])=some (SL (a++ [cs[i].path])):=apm IV.str a cs[i].path (by omega)
  unfold Ri at i1 i2 ⊢
  rw[Asa,aC b,bE]
  simp only[lti b,aA,aR,Zt,Hy Cf.enc b,cf0,cf1,Acm,fH,dE,ap]
  rw[Ans,Ans]
  simp only[nxt (show i<4611686018427387904 by omega),aA,i1,i2]
  by_cases c:cs[i].mgr =m.name<;>simp[c]
theorem pclo (cs:List Cf)(m:Mgr)(a:cs.length<=1048576)(hp:m.paths.length<=1048576):W F168 0 [m.enc,.list (cs.map Cf.enc)]=some [SL (Gf m.paths (Ri cs m.name))]:=by
 have:=Aw1 cs m a hp cs.length 0 [] (by omega) (by simp)
 simp only[aD,aE,bC]at this
 rw[A2m,Dz]
 exact this
end Go.CT.Sch
namespace Go.CT.Sch
open Go.Proofs
def Aak (nm:ByteArray)(a:List ByteArray):Bool->List Mgr->List Mgr
 | d,[]=>if d then[]else[⟨nm,a⟩]
 | d,m::l=>((if !d && !blt m.name nm then[⟨nm,a⟩]else[])++(if !decide (m.name=nm)&&decide (0<m.paths.length) then[m]else[]))++Aak nm a (d|| !blt m.name nm) l
theorem A98 (l:List Mgr)(nm:ByteArray)(b:List ByteArray)(e:l.length<=1048576)(i:Nat)(c:i<l.length)(d:Bool)(a:List Mgr)(h:a.length<=4194304):
  W Bff 2 [.list (l.map Mgr.enc),.str nm,.list (b.map .str),.bool d,.int (i:Nat),.list (a.map Mgr.enc)]=
   W Bff 1 [.list (l.map Mgr.enc),.str nm,.list (b.map .str),.bool d,.int ((i+1:Nat):Int),.list ((a++(if !decide (l[i].name =nm)&&decide (0<l[i].paths.length) then[l[i]]else[])).map Mgr.enc)]:=by
 have ap:dN 40 (.list (a.map Mgr.enc)) (.list [l[i].enc])=some (.list ((a++ [l[i]]).map Mgr.enc)):=apm Mgr.enc a l[i] (by omega)
 have g:gW (.int (l[i].paths.length :Int)) (.int 0)=some (.bool (decide (0<l[i].paths.length))):=by rw[fN];congr 2;exact decide_eq_decide.2 (by omega)
 rw[A37]
 simp only[Hy Mgr.enc c,aA,Acm,Aly,fX,Dz,g,aR,dE,ap]
 rw[Aqw,Aqw]
 simp only[nxt (show i<4611686018427387904 by omega),aA]
 cases decide (l[i].name =nm)<;>cases decide (0<l[i].paths.length)<;>simp
theorem Al6 (l:List Mgr)(nm:ByteArray)(c:List ByteArray)(j:l.length<=1048576): ∀ (n i:Nat) (d:Bool) (a:List Mgr),i+n=l.length->a.length<=2 * i->
  W Bff 1 [.list (l.map Mgr.enc),.str nm,.list (c.map .str),.bool d,.int (i:Nat),.list (a.map Mgr.enc)]=some [.list ((a++Aak nm c d (l.drop i)).map Mgr.enc)]
 | 0,i,d,a,h,o=>by
  have:i=l.length:=by omega
  subst this
  have ap:dN 40 (.list (a.map Mgr.enc)) (.list [.agg [.str nm,.list (c.map .str)]])=some (.list ((a++ [(⟨nm,c⟩:Mgr)]).map Mgr.enc)):=apm Mgr.enc (n:=40) a (⟨nm,c⟩:Mgr) (by omega)
  rw[Amr,aM]
  simp only[Dz,ltn,aA,aR,aB,Zf,dG,cT,dE,ap,Aak]
  cases d<;>simp
 | n+1,i,d,a,h,o=>by
  have g:i<l.length:=by omega
  have ap:dN 40 (.list (a.map Mgr.enc)) (.list [.agg [.str nm,.list (c.map .str)]])=some (.list ((a++ [(⟨nm,c⟩:Mgr)]).map Mgr.enc)):=apm Mgr.enc (n:=40) a (⟨nm,c⟩:Mgr) (by omega)
  have m: ∀b:List Mgr,(b++(if !decide (l[i].name =nm)&&decide (0<l[i].paths.length) then[l[i]]else[])).length <=b.length+1:=λb=>by
   rw[aP];split<;>simp
  have i1:=λe=>Al6 l nm c j n (i+1) e _ (by omega) (eF (m a) (by omega))
  have i2:=λe=>Al6 l nm c j n (i+1) e _ (by omega) (eF (m (a++ [⟨nm,c⟩])) (by simp;omega))
  have r1:=λe=>A98 l nm c j i g e a (by omega)
  have r2:=λe=>A98 l nm c j i g e (a++ [⟨nm,c⟩]) (by simp;omega)
  rw[Amr,aC g,Aak]
  simp only[Dz,lti g,aA,aR,Zt,dG,Hy Mgr.enc g,Acm,Rt,cT,dE,ap,r1,r2,i1,i2]
  cases d<;>cases blt l[i].name nm<;>simp[bG]
theorem Bjs (l:List Mgr)(nm:ByteArray)(a:List ByteArray)(b:l.length<=1048576):W Bff 0 [.list (l.map Mgr.enc),.str nm,.list (a.map .str)]=some [.list ((Aak nm a (decide (a.length=0)) l).map Mgr.enc)]:=by
 have:=Al6 l nm a b l.length 0 (decide (a.length=0)) [] (by omega) (by simp)
 simp only[aD,aE,bC,aL]at this
 rw[A2h,Dz]
 simp only[aA,eq0]
 exact this
end Go.CT.Sch
namespace Go.CT.Sch
open Go.Proofs
def Aws (cs:List Cf)(nm:ByteArray)(l:List Mgr):List Mgr:=(l.filter λm=> !decide (m.name=nm)).map λm=>⟨m.name,Gf m.paths (Ri cs m.name)⟩
theorem Acx (l:List Mgr)(cs:List Cf)(nm:ByteArray)(e:l.length<=1048576)(hp: ∀m∈l,m.paths.length<=1048576)(d:cs.length<=1048576): ∀ (n i:Nat) (a:List Mgr),i+n=l.length->a.length<=i+1->
  W Bik 1 [.str nm,.list (cs.map Cf.enc),.list (l.map Mgr.enc),.int (l.length:Nat),.int (i:Nat),.list (a.map Mgr.enc)]=W Bik 1 [.str nm,.list (cs.map Cf.enc),.list (l.map Mgr.enc),.int (l.length:Nat),.int (l.length:Nat),.list ((a++Aws cs nm (l.drop i)).map Mgr.enc)]
 | 0,i,a,h,g=>by
  have:i=l.length:=by omega
  subst this
  rw[aM]
  simp only[Aws,cG,aL,aQ]
 | n+1,i,a,h,g=>by
  have b:i<l.length:=by omega
  have j:=hp _ (aF b)
  have i1:=Acx l cs nm e hp d n (i+1) a (by omega) (by omega)
  have i2:=Acx l cs nm e hp d n (i+1) (a++ [(⟨l[i].name,Gf l[i].paths (Ri cs l[i].name)⟩:Mgr)]) (by omega) (by simp;omega)
  have ap:dN 40 (.list (a.map Mgr.enc)) (.list [.agg [.str l[i].name,SL (Gf l[i].paths (Ri cs l[i].name))]])=some (.list ((a++ [(⟨l[i].name,Gf l[i].paths (Ri cs l[i].name)⟩:Mgr)]).map Mgr.enc)):=apm Mgr.enc (n:=40) a (⟨l[i].name,Gf l[i].paths (Ri cs l[i].name)⟩:Mgr) (by omega)
  unfold Aws at i1 i2 ⊢
  rw[Aqj,aC b,bE]
  simp only[lti b,aA,aR,Zt,Hy Mgr.enc b,Acm,fX,pclo cs l[i] d j,bO,cT,dE,ap]
  rw[Aq1,Aq1]
  simp only[nxt (show i<4611686018427387904 by omega),aA,i1,i2]
  by_cases c:l[i].name =nm<;>simp[c]
end Go.CT.Sch
namespace Go.CT.Sch
open Go.Proofs
inductive Fit:Sch->Val->Prop
 | mk (s:Sch) (v:Val):v.k=s.k->(∀p∈v.f,(D7 s p.1).isSome =true)->(∀p∈v.f,∀t,D7 s p.1=some t->Fit t p.2)->(∀x∈v.l,∀t∈s.it,Fit t x)->(Ho s=true->Du s.key [] v.l=true)->Fit s v
theorem Fit.kind {s:Sch}{v:Val}(h:Fit s v):v.k=s.k:=by cases h;assumption
theorem Fit.known {s:Sch}{v:Val}(h:Fit s v): ∀p∈v.f,(D7 s p.1).isSome =true:=by cases h;assumption
theorem Fit.fld {s:Sch}{v:Val}(h:Fit s v): ∀p∈v.f,∀t,D7 s p.1=some t->Fit t p.2:=by cases h;assumption
theorem Fit.el {s:Sch}{v:Val}(h:Fit s v): ∀x∈v.l,∀t∈s.it,Fit t x:=by cases h;assumption
theorem Fit.keyed {s:Sch}{v:Val}(h:Fit s v):Ho s=true->Du s.key [] v.l=true:=by cases h;assumption
theorem Dx {s:Sch} :Ho s=true↔s.k=4/\s.key≠Am:=by simp[Ho]
theorem Ail (key:ByteArray)(t:Sch)(p:List Stp): ∀ (l prev:List Val),(K6 l key t p prev).all Aag=true->
  (∀x∈l,∃q,(Jh x t q).all Aag=true)/\(key≠Am->(∀x∈prev++l,isKey x key=true)->Du key (prev.map λx=>Dv x key) l=true)
 | [],_,_=>⟨by simp,λ_ _=>rfl⟩
 | x::l,prev,h=>by
  rw[H9,eC,eC,aJ,aJ]at h
  obtain⟨i1,i2⟩:=Ail key t p l (prev++ [x]) h.2
  refine⟨λy b=>?_,λg c=>?_⟩
  ·rcases bQ.1 b with rfl | b
   ·exact⟨_,h.1.1⟩
   ·exact i1 y b
  ·have i:=c x (by simp)
   have d:=i2 g (by simpa using c)
   rw[cP]at d
   simp only[aI,aL]at d
   rw[Du,i,d]
   have hd:=h.1.2
   have m:inB (prev.map λx=>Dv x key) (Dv x key)=false:=by
    rw[<-eY,Nh]
    intro o
    obtain⟨u,j,e⟩:=bJ.1 o
    have ku:=c u (by simp[j])
    have a:decide (key=Am)=false:=by simpa using g
    have:(Ex x key&&prev.any (sameKey key (Dv x key)))=true:=by
     rw[aJ,List.any_eq_true]
     refine⟨by unfold Ex;rw[i,a];rfl,u,j,?_⟩
     unfold sameKey Ex
     rw[ku,a]
     simpa using e
    unfold Aus at hd
    rw[if_pos this]at hd
    exact absurd hd (show ¬ ((decide ((8:Int)=7)&&true)=true) by decide)
   rw[m];rfl
theorem Yq {s t:Sch}(h:s.valid=true)(g:Ho s=true)(c:t∈s.it):t.k=5/\ ∃u,D7 t s.key=some u/\u.k=3:=by
 obtain⟨i,a⟩:=Dx.1 g
 obtain⟨r,e,j,p,hp,_,m,_⟩:=Aae h i a
 rw[e,bY]at c
 subst c
 have b:=(eI h).Ie (show t∈s.it by rw[e];simp)
 have o:t.it= []:=by
  apply cS
  intro q
  have:=b.nof q
  have d:=(Aev hp).1
  rw[this]at d;simp at d
 refine⟨j,p.s,?_,m⟩
 unfold D7
 rw[o]
 show(t.fld s.key).map (·.s)=_
 rw[hp];rfl
theorem Alx {s t:Sch}{x:Val}(h:s.valid=true)(i:Ho s=true)(e:t∈s.it)(j:D.VOk x)(b:x.k=t.k)(a:isKey x s.key=true):isKey (D.Bt x t) s.key=true/\Dv (D.Bt x t) s.key=Dv x s.key:=by
 obtain⟨o,u,m,q⟩:=Yq h i e
 have c:=(eI h).Ie e
 have g:=D.Ay4 j b (by omega) s.key
 unfold isKey at a
 simp only[aJ,decide_eq_true_eq]at a
 obtain⟨y,d⟩:=bS.1 a.1
 rw[d,aH]at a
 rw[d,aA,if_neg (by omega),D.Adg c,m,aN,D.Abk u (by omega) (by omega)]at g
 unfold isKey Dv
 rw[g,d]
 simp[a.2]
theorem Awl: ∀ (v:Val) (s:Sch) (p:List Stp) (n:Nat),s.valid=true->v.valid=true->v.size<=n->(Jh v s p).all Aag=true->kyB n s v=true->Fit s (D.Bt v s):=by
 refine fC λv J K s p n G z Y d m=>?_
 have L:=D.O6 z
 have A:=eI G
 cases n with
 | zero=>have:=v.size_pos;omega
 | succ n=>
 rw[Ju]at d
 by_cases r:v.k=s.k
 ·rw[if_pos r]at d
  rw[kyB,if_pos r.symm,aJ,bT,bT]at m
  by_cases w:v.k=4
  ·rw[if_neg (by omega),if_neg (by omega),if_pos w,eC,aJ]at d
   obtain⟨t,c⟩:=bD.1 (A.list (by omega))
   have B:t∈s.it:=by rw[c];simp
   rw[c,dP]at d
   obtain⟨e1,R⟩:=Ail s.key t p v.l [] d.2
   have g: ∀x∈v.l,Akq s x=true/\kyB n t x=true:=λx a=>by
    have:=m.1 x a
    rw[c]at this
    simpa using this
   have M: ∀x∈v.l,x.k=t.k:=λx a=>by
    obtain⟨q,b⟩:=e1 x a
    apply cS
    intro N
    rw[Ju,if_neg N]at b
    exact absurd b (show ¬ ((decide ((6:Int)=7)&&true)=true) by decide)
   rw[D.Ht,if_pos r,if_pos w,if_pos (by rw[c];rfl),c,dP]
   refine .mk _ _ (show(4:Int)=s.k by omega) (by simp) (by simp) ?_ ?_
   ·intro x a u C
    rw[c,bY]at C
    subst C
    obtain⟨y,e,rfl⟩:=bJ.1 a
    obtain⟨q,b⟩:=e1 y e
    have:=gB e
    exact J y e u q n (Sch.Acy G B) (G6 z e) (by omega) b (g y e).2
   ·intro o
    have i: ∀x∈v.l,isKey x s.key=true:=λx a=>by
     have:=(g x a).1
     unfold Akq at this
     rw[o]at this
     simpa using this
    have S:=R (Dx.1 o).2 i
    have T: ∀ (l:List Val) (acc:List ByteArray),(∀x∈l,isKey (D.Bt x t) s.key=true/\Dv (D.Bt x t) s.key=Dv x s.key)->Du s.key acc l=true->Du s.key acc (l.map λx=>D.Bt x t)=true:=by
     intro l
     induction l with
     | nil=>intro _ _ _;rfl
     | cons x l U=>
      intro acc a h
      obtain⟨X,a2⟩:=a x (by simp)
      rw[Du,aJ,aJ]at h
      rw[aI,Du,X,a2,h.1.2,U _ (λy e=>a y (by simp[e])) h.2];rfl
    exact T v.l [] (λx a=>Alx G o B (L.Ll a) (M x a) (i x a)) S
  ·by_cases H:v.k=5
   ·rw[if_neg (by omega),if_neg (by omega),if_neg w,if_pos H,eC,aJ,To,bT]at d
    have F: ∀q∈v.f.flatMap (D.Ef s),∃x∈v.f,∃t,x.2.k≠0/\D7 s x.1=some t/\q=(x.1,D.Bt x.2 t):=by
     intro q b
     obtain⟨x,a,b⟩:=cQ.1 b
     unfold D.Ef at b
     split at b
     ·simp at b
     ·rename_i I
      split at b
      ·rename_i t c
       simp only[bY]at b
       rw[D.Adg A]at c
       exact⟨x,a,t,I,c,b⟩
      ·simp at b
    rw[D.Ht,if_pos r,if_neg w,if_pos H]
    refine .mk _ _ (show(5:Int)=s.k by omega) ?_ ?_ (by simp) (λh=>by have:=(Dx.1 h).1;omega)
    ·intro q b
     obtain⟨x,a,t,I,c,rfl⟩:=F q b
     show(D7 s x.1).isSome =true
     rw[c];rfl
    ·intro q b u C
     obtain⟨x,a,t,I,c,rfl⟩:=F q b
     rw[show D7 s (x.1,D.Bt x.2 t).1 =D7 s x.1 from rfl,c]at C
     have eu:=fG C
     subst eu
     have j:=m.2 x a
     rw[c]at j
     have:=gA a
     refine K x a t (p++ [Da x.1]) n (Sch.Aib G c) (G5 z a).1 (by omega) ?_ j
     rw[bT]
     intro y e
     refine d.1 y (cQ.2 ⟨x,a,?_⟩)
     unfold Agl
     rw[c]
     simp only[I,Zf]
     exact e
   ·have Q:=Og z w
    have F:=Lr z H
    rw[D.Abk s w H]
    exact .mk _ _ r (by rw[F];simp) (by rw[F];simp) (by rw[Q];simp) (by rw[Q];intro _;rfl)
 ·rw[if_neg r]at d
  exact absurd d (show ¬ ((decide ((6:Int)=7)&&true)=true) by decide)
end Go.CT.Sch
namespace Go.CT.Sch
open Go.Proofs
theorem A1e (u:Val)(key kv:ByteArray)(a:u.k=5)(b:C3 u.f):isKey (Ed u key (Rz kv)) key=true/\Dv (Ed u key (Rz kv)) key=kv:=by
 unfold isKey Dv
 rw[Agc u a b]
 exact⟨rfl,rfl⟩
theorem Uo {s:Sch}{r:Kid->Val × Bool} : ∀ {l:List Val} {acc acc':List ByteArray},Du s.key acc l=true->(∀k∈acc',k∈acc)->(∀y∈l,(r (Cc s y)).1.k =5/\C3 (r (Cc s y)).1.f)->
  Du s.key acc' (He (Gh r (l.map (Cc s))))=true
 | [],_,_,_,_,_=>rfl
 | y::l,acc,acc',h,a,b=>by
  have i:=b y cH
  have m:=Kt h y cH
  obtain⟨j,_⟩:=W9 h
  have e: ∀z t,He (((Cc s y).1,z)::t)=Ed z s.key (Rz (Dv y s.key))::He t:=λ_ _=>rfl
  rw[aI,Me]
  cases(r (Cc s y)).2 with
  | false=>exact Uo j (λk c=>dI _ (a k c)) λz d=>b z (cD _ d)
  | true=>
   simp only[Zt]
   obtain⟨w1,o⟩:=A1e (r (Cc s y)).1 s.key (Dv y s.key) i.1 i.2
   rw[e,Du,w1,o]
   have g:inB acc' (Dv y s.key)=false:=by
    rw[<-eY,Nh];exact λq=>m (a _ q)
   rw[g]
   simp only[bB,cI,bL]
   refine Uo j (λk c=>?_) λz d=>b z (cD _ d)
   rcases cA.1 c with h | h
   ·exact dI _ (a k h)
   ·exact List.mem_append_right _ h
theorem Ov {s:Sch}{r:Kid->Val × Bool}{l:List (ByteArray × Val)}{p:ByteArray × Val}(h:p∈fieldsOf (Gh r (l.map (Ct s)))): ∃y∈l,(r (Ct s y)).2 =true/\p=(y.1,(r (Ct s y)).1):=by
 obtain⟨z,a,rfl⟩:=bJ.1 h
 obtain⟨x,b,c,rfl⟩:=Ta a
 obtain⟨y,d,rfl⟩:=bJ.1 b
 exact⟨y,d,c,rfl⟩
theorem Z7 {s:Sch}{r:Kid->Val × Bool}{l:List Val}{u:Val}(h:u∈He (Gh r (l.map (Cc s)))): ∃y∈l,(r (Cc s y)).2 =true/\u=Ed (r (Cc s y)).1 s.key (Rz (Dv y s.key)):=by
 obtain⟨z,a,rfl⟩:=bJ.1 h
 obtain⟨x,b,c,rfl⟩:=Ta a
 obtain⟨y,d,rfl⟩:=bJ.1 b
 exact⟨y,d,c,rfl⟩
theorem Yz (s:Sch)(v:Val)(set:List ByteArray)(is:Bool):(Jm s v set is).Aq <=v.Aq:=by
 unfold Jm
 split
 ·rename_i a
  have b:v.valid=true:=by simp only[aJ]at a;exact a.2
  split
  ·exact(Zh _ _ _ _ _ b).1
  ·have c:=v.Bx
   split
   ·rw[fR (Val.mk _ _ _ _ _)]
    simp only[eO,dB,dA,Ck,En,show Am.size=0 from rfl];omega
   ·rw[fR Aw]
    simp only[Aw,eO,dB,dA,Ck,En,show Am.size=0 from rfl];omega
 ·exact aT _
theorem Mq {q:List Stp}(h:Db q=true):(∀x∈q,x.fits)/\q.length<=16:=by
 unfold Db at h
 simp only[aJ,bT,decide_eq_true_eq]at h
 refine⟨λx a=>?_,h.2⟩
 obtain⟨b,c,_⟩:=D3 (h.1 x a)
 exact⟨by omega,by omega⟩
theorem A44 {u:Sch}(h:u.k=3)(b:ByteArray):Fit u (Rz b):=
 .mk _ _ h.symm (by simp[Rz]) (by simp[Rz]) (by simp[Rz]) (λa=>by have:=(Dx.1 a).1;omega)
theorem A3d {t u:Sch}{w:Val}{key:ByteArray}{b:ByteArray}(c:Fit t w)(e:w.k=5)(a:C3 w.f)(g:D7 t key=some u)(j:u.k=3):Fit t (Ed w key (Rz b)):=by
 have i:=c.kind
 refine .mk _ _ (show(5:Int)=t.k by omega) ?_ ?_ (by simp[Ed]) (λi=>by have:=(Dx.1 i).1;omega)
 ·intro p hp
  rcases(R5 e a p).1 hp with⟨_,h⟩ | rfl
  ·exact c.known p h
  ·rw[g];rfl
 ·intro p hp x d
  rcases(R5 e a p).1 hp with⟨_,h⟩ | rfl
  ·exact c.fld p h x d
  ·rw[show D7 t (key,Rz b).1 =D7 t key from rfl,g]at d
   cases d
   exact A44 j b
theorem Axy: ∀ (n:Nat) (s:Sch) (v:Val) (p:List Stp) (ch:ByteArray->Bool),s.valid=true->v.valid=true->Fit s v->Fit s (pt n (some s) v p ch).1
 | 0,_,_,_,_,_,_,h=>h
 | n+1,s,v,p,ch,m,o,h=>by
  have r:=h.kind
  rw[Pj]
  split
  ·exact h
  ·rename_i z
   obtain⟨s',e,R,H⟩:=Qf z
   cases e
   rcases H with⟨I,b⟩ | ⟨S,g,i,b⟩
   ·simp only[I,Zt]
    rw[b]
    refine .mk _ _ (show(5:Int)=s.k by omega) ?_ ?_ (by simp) (λr=>by have:=(Dx.1 r).1;omega)
    ·intro q A
     obtain⟨y,a,_,rfl⟩:=Ov A
     exact h.known y a
    ·intro q A t j
     obtain⟨y,a,_,rfl⟩:=Ov A
     have c:D7 s y.1=some t:=j
     show Fit t (pt n (D7 s y.1) y.2 (p++ [(Ct s y).1]) ch).1
     rw[c]
     exact Axy n t y.2 _ ch (Sch.Aib m c) (G5 o a).1 (h.fld y a t c)
   ·have J: ¬ v.k=5:=by omega
    simp only[J,Zf]
    rw[b]
    have B:Ho s=true:=Dx.2 ⟨by omega,g⟩
    obtain⟨t,j⟩:=bD.1 ((eI m).list (by omega))
    have d:t∈s.it:=by rw[j];simp
    have K:s.it.head?=some t:=by rw[j];rfl
    have C: ∀y∈v.l,Fit t (pt n (Cc s y).2.2 (Cc s y).2.1 (p++ [(Cc s y).1]) ch).1 /\(pt n (Cc s y).2.2 (Cc s y).2.1 (p++ [(Cc s y).1]) ch).1.k =5/\C3 (pt n (Cc s y).2.2 (Cc s y).2.1 (p++ [(Cc s y).1]) ch).1.f :=by
     intro y a
     obtain⟨F,_,_⟩:=Ti (G6 o a) (Ej i y a)
     refine⟨?_,(Biw _ _ _ _ _).trans F,Awd (G6 o a) F⟩
     show Fit t (pt n s.it.head? y (p++ [(Cc s y).1]) ch).1
     rw[K]
     exact Axy n t y _ ch (Sch.Acy m d) (G6 o a) (h.el y a t d)
    refine .mk _ _ r (by simp) (by simp) ?_ ?_
    ·intro x L u G
     rw[j,bY]at G
     subst G
     obtain⟨y,a,_,rfl⟩:=Z7 L
     obtain⟨T,w,M,N⟩:=Yq m B d
     obtain⟨r1,r2,Q⟩:=C y a
     exact A3d r1 r2 Q M N
    ·intro _
     exact Uo i (by simp) λy a=>⟨(C y a).2.1,(C y a).2.2⟩
theorem Aw4 {s:Sch}{v:Val}(set:List ByteArray)(is:Bool)(b:s.valid=true)(c:v.valid=true)(h:Fit s v)(a:v.k=5):Fit s (Jm s v set is)/\(Jm s v set is).k =5:=by
 unfold Jm
 rw[b,c]
 simp only[cI,Zt]
 split
 ·exact⟨Axy _ _ _ _ _ b c h,(Biw _ _ _ _ _).trans a⟩
 ·rw[if_pos (.inl a)]
  exact⟨.mk _ _ h.kind (by simp) (by simp) (by simp) (λ_=>rfl),a⟩
theorem A8m: ∀ (n:Nat) (o:Option Sch) (v:Val) (p:List Stp) (t:ByteArray),v.size<=n->v.valid=true->t∈lv n o v p-> ∃q w,t=Cs (p++q)/\Ik v q=some w/\ ∀x∈q,Ei x=true/\x.k≠2
 | 0,o,v,p,t,h,_,_=>by have:=v.size_pos;omega
 | n+1,o,v,p,t,h,m,a=>by
  rw[lv]at a
  by_cases c:kids o v= []
  ·rw[if_pos c,bY]at a
   subst a
   exact⟨[],v,by simp,rfl,by simp⟩
  ·rw[if_neg c]at a
   obtain⟨x,g,a⟩:=cQ.1 a
   obtain⟨G,_⟩:=Oo g
   obtain⟨q,w,e1,A,B⟩:=A8m n x.2.2 x.2.1 (p++ [x.1]) t (by omega) (Atx m g) a
   rw[bG,bH]at e1
   obtain⟨s,rfl,L,H⟩:=Qf c
   rcases H with⟨M,r⟩ | ⟨I,C,j,r⟩
   ·rw[r]at g
    obtain⟨y,i,rfl⟩:=bJ.1 g
    have J:v.get y.1=some y.2:=get_of_mem m i
    have u:=(G5 m i).2
    refine⟨Da y.1::q,w,e1,?_,?_⟩
    ·simp only[Ik,Ul,Da,Zt,J,aA];exact A
    ·intro z b
     rcases bQ.1 b with rfl | b
     ·exact⟨by unfold Ei Da;simp[u],show(1:Int)≠2 by decide⟩
     ·exact B z b
   ·rw[r]at g
    obtain⟨y,i,rfl⟩:=bJ.1 g
    have d:=G6 m i
    obtain⟨N,ym,yg⟩:=Ti d (Ej j y i)
    have u:=(G5 d ym).2
    have e:Jq (Rz (Dv y s.key)).s =true:=Ayf (G5 d ym).1 rfl
    have e:Jq (Dv y s.key)=true:=e
    have K: ¬ (3:Int)=1:=by decide
    have F: ¬ (3:Int)=2:=by decide
    refine⟨At0 s.key y::q,w,e1,?_,?_⟩
    ·simp only[Ik,Ul,At0,K,F,Zf,I,Zt,Av6 j y i,aA];exact A
    ·intro z b
     rcases bQ.1 b with rfl | b
     ·exact⟨by unfold Ei At0;simp[u,e],F⟩
     ·exact B z b
theorem Ao4: ∀ (q:List Stp) (d:Nat) (v w:Val),Cd d v=true->Ik v q=some w->q.length<d
 | [],0,v,w,h,_=>by simp[Cd]at h
 | [],d+1,_,_,_,_=>by simp
 | x::q,0,v,w,h,_=>by simp[Cd]at h
 | x::q,d+1,v,w,h,b=>by
  simp only[Ik,cX]at b
  obtain⟨u,a,c⟩:=b
  have h':=(Eb d v).1 h
  have e:Cd d u=true:=by
   unfold Ul at a
   split at a
   ·exact(h'.2.2.2.1 _ (E2 a).1).2
   ·split at a
    ·split at a
     ·exact h'.2.2.1 _ (dY a)
     ·exact h'.2.2.1 _ (cL a)
    ·cases a
  have:=Ao4 q d u w e c
  simp;omega
theorem Aua {s:Sch}{v:Val}{t:ByteArray}(c:v.valid=true)(a:t∈Ay s v): ∃q w,t=Cs q/\Db q=true/\(∀x∈q,x.k≠2)/\Ik v q=some w:=by
 have a:=(dD.1 a).1
 unfold H6 at a
 split at a
 ·rw[Wd]at a
  obtain⟨q,w,e1,d,e⟩:=A8m v.size (some s) v [] t (aT _) c a
  rw[bC]at e1
  have hd:=Ao4 q 12 v w ((Is v).1 c).1 d
  refine⟨q,w,e1,?_,λx b=>(e x b).2,d⟩
  unfold Db
  simp only[aJ,bT,decide_eq_true_eq]
  exact⟨λx b=>(e x b).1,by omega⟩
 ·simp at a
end Go.CT.Sch
namespace Go.CT.Sch
open Go.Proofs
theorem U8 (v:Val)(j:Gl 1073741824 v)(c d e m o q g:IV)(r: ∀p∈v.f,W Bfd 0 [p.2.enc]=some p.2.Ew): ∀ (n i:Nat),i+n=v.f.length->
  W Bfd 2 [.int v.f.length,.int i,c,d,e,m,o,q,g,.list (v.f.map aS)]=some [c,d,e,g,.list (v.f.map aS)]
 | 0,i,h=>by
  have:i=v.f.length:=by omega
  subst this
  rw[Aqs]
  simp only[ltn,aA,aR,aB,Zf]
 | n+1,i,h=>by
  have b:i<v.f.length:=by omega
  have w:=j.N7
  have:=U8 v j c d e m o q g r n (i+1) (by omega)
  have a:fE 1 5 true false (.list (v.f.map aS)) (.int i) v.f[i].2.enc =some (.list (v.f.map aS)):=by
   have t:(v.f.map aS)[i]?=some (aS v.f[i]):=by rw[bA,aK b];rfl
   have x:(v.f.map aS).set i (aS v.f[i])=v.f.map aS:=by
    rw[<-fV,cR]
   unfold fE
   simp only[fM,aU,Zt,aW,t,aB,Zf]
   rw[v.f[i].2.Eg]
   simp only[aS]
   have u:v.f[i].2.Ew.length =5:=rfl
   simp only[u,Zt]
   congr 2
  rw[Aqs]
  simp only[lti b,aA,aR,Zt,Hy aS b,eQ,r _ (aF b),cJ,eT,cT,eL,a,nxt (show i<4611686018427387904 by omega),this]
theorem U0 (v:Val)(o:Gl 1073741824 v)(c d e g j m:IV)(q: ∀x∈v.l,W Bfd 0 [x.enc]=some x.Ew): ∀ (n i:Nat),i+n=v.l.length->
  W Bfd 1 [.int v.l.length,.int i,c,d,e,g,j,m,.list (v.l.map aZ),.list (v.f.map aS)]=W Bfd 2 [.int v.f.length,.int (0:Nat),c,d,e,g,j,m,.list (v.l.map aZ),.list (v.f.map aS)]
 | 0,i,h=>by
  have:i=v.l.length:=by omega
  subst this
  rw[Ash]
  simp only[ltn,aA,aR,aB,Zf,Dz]
  rfl
 | n+1,i,h=>by
  have b:i<v.l.length:=by omega
  have r:=o.Vr
  have:=U0 v o c d e g j m q n (i+1) (by omega)
  have a:fE 0 5 true true (.list (v.l.map aZ)) (.int i) v.l[i].enc =some (.list (v.l.map aZ)):=by
   rw[show(IV.list (v.l.map aZ))=eJ aZ v.l from rfl,hC aZ b,cR]
  rw[Ash]
  simp only[lti b,aA,aR,Zt,Hy aZ b,q _ (aF b),cJ,eT,cT,eL,a,nxt (show i<4611686018427387904 by omega),this]
theorem Att: ∀v:Val,Gl 1073741824 v->W Bfd 0 [v.enc]=some v.Ew:=by
 refine fC λv b c a=>?_
 have d:=U0 v a (.int v.k) (.int v.n) (.str v.s) (.int 0) (.int 0) (.str ⟨#[]⟩) (λx e=>b x e (a.Ll e)) v.l.length 0 (by omega)
 have g:=U8 v a (.int v.k) (.int v.n) (.str v.s) (.int 0) (.int 0) (.str ⟨#[]⟩) (.list (v.l.map aZ)) (λp hp=>c p hp (a.J8 hp)) v.f.length 0 (by omega)
 rw[g]at d
 rw[A7r]
 have i:=a.Vr
 have j:=a.N7
 have h:(v.l.map aZ).length <=1073741824:=by rw[aG];omega
 have hd:(v.f.map aS).length <=1073741824:=by rw[aG];omega
 simp only[cN,eR,eS,bW,cE,aA,Bfs,A5k,Dw h,Dw hd,bO,Dz]
 rw[cJ]
 exact d
theorem A9k (v:Val)(x:Stp)(b:v.Aq<=1048576): ∀ (n i:Nat),i+n=v.f.length->
  ∃r:Int,W F128 1 [.list (v.f.map aS),x.enc,.int v.f.length,.int i]=some [.int r]/\
   ((((v.f.drop i).find? λp=>decide (p.1=x.nm))=none/\r<0)\/ ∃ (j:Nat) (u:Val),r=j/\v.f[j]?=some (x.nm,u)/\((v.f.drop i).find? λp=>decide (p.1=x.nm))=some (x.nm,u))
 | 0,i,h=>by
  have d:i=v.f.length:=by omega
  subst d
  rw[An9]
  exact⟨-1,by simp only[ltn,aA,aR,aB,Zf],.inl ⟨by rw[aM];rfl,by omega⟩⟩
 | n+1,i,h=>by
  have a:i<v.f.length:=by omega
  have m:=v.Bc
  obtain⟨r,e,g⟩:=A9k v x b n (i+1) (by omega)
  rw[An9,aC a,bZ]
  simp only[lti a,aA,aR,Zt,Hy aS a,A2b,eH,gZ,fH,bO,nxt (show i<4611686018427387904 by omega),e]
  by_cases c:v.f[i].1 =x.nm
  ·exact⟨i,by simp[c],.inr ⟨i,v.f[i].2,rfl,by simp[a,<-c],by simp[<-c]⟩⟩
  ·have c':decide (v.f[i].1 =x.nm)=false:=by simpa using c
   simp only[c',aB,Zf]
   exact⟨r,rfl,g⟩
theorem Bh6 (u:Val)(x:Stp)(a:u.Aq<=1048576):W F132 0 [u.enc,x.enc]=some [.bool (hasB x.nm x.vl u)]:=by
 rw[A53]
 unfold hasB
 simp only[gZ,Stp.Bz,aA,Acn u x.nm (by omega),Ij,Hq,aR,bI,fH,Ax,Al]
 cases b:u.get x.nm with
 | none=>simp[Aw]
 | some y=>by_cases c:y.k=3<;>simp[c]
theorem Bfx (v:Val)(x:Stp)(b:v.Aq<=1048576): ∀ (n i:Nat),i+n=v.l.length->
  ∃r:Int,W F130 1 [.list (v.l.map aZ),x.enc,.int v.l.length,.int i]=some [.int r]/\
   ((((v.l.drop i).find? (hasB x.nm x.vl))=none/\r<0)\/ ∃ (j:Nat) (u:Val),r=j/\v.l[j]?=some u/\((v.l.drop i).find? (hasB x.nm x.vl))=some u)
 | 0,i,h=>by
  have d:i=v.l.length:=by omega
  subst d
  rw[Aqi]
  exact⟨-1,by simp only[ltn,aA,aR,aB,Zf],.inl ⟨by rw[aM];rfl,by omega⟩⟩
 | n+1,i,h=>by
  have a:i<v.l.length:=by omega
  have m:=v.Bn
  have o:=cW (aF a)
  obtain⟨r,e,g⟩:=Bfx v x b n (i+1) (by omega)
  rw[Aqi,aC a,bZ]
  simp only[lti a,aA,aR,Zt,Hy aZ a,A2u,Bh6 v.l[i] x (by omega),bO,nxt (show i<4611686018427387904 by omega),e]
  cases c:hasB x.nm x.vl v.l[i]with
  | true=>exact⟨i,by simp,.inr ⟨i,v.l[i],rfl,by simp[a],rfl⟩⟩
  | false=>exact⟨r,by simp,g⟩
theorem A5n (v:Val)(x:Stp)(o:v.Aq<=1048576)(q:Ei x=true): ∃r:Int,W F127 0 [v.enc,x.enc]=some [.int r]/\
  ((Ul v x=none/\r<0)\/ ∃ (j:Nat) (u:Val),r=j/\Ul v x=some u/\(x.k=1->v.f[j]?=some (x.nm,u))/\(x.k≠1->v.l[j]?=some u)):=by
 obtain⟨z,A,t,B,C⟩:=D3 q
 rw[A6p]
 unfold Ul
 simp only[gY,aA,bI,aR,cN,Ax,Al]
 by_cases k1:x.k=1
 ·unfold hF
  by_cases i:v.k=5
  ·obtain⟨r,b,a⟩:=A9k v x o v.f.length 0 (by omega)
   simp only[aE,aD]at b a
   simp only[k1,i,Zd,Zt,cE,aA,A56,Dz,b,bO]
   refine⟨r,rfl,?_⟩
   rcases a with⟨d,e⟩ | ⟨j,u,d,e,m⟩
   ·exact .inl ⟨by rw[d];rfl,e⟩
   ·exact .inr ⟨j,u,d,by rw[m];rfl,λ_=>e,λh=>(h rfl).elim⟩
  ·refine⟨-1,?_,.inl ⟨by rw[if_pos k1,if_neg i],by omega⟩⟩
   simp[k1,i]
 ·rw[if_neg k1]
  by_cases g:v.k=4
  ·rw[if_pos g]
   by_cases k2:x.k=2
   ·obtain⟨j,w⟩:=Int.eq_ofNat_of_zero_le (t k2).1
    rw[if_pos k2]
    simp only[k1,k2,g,Zd,Ze,aB,Zf,Zt,Stp.Ee,bW,Dz,aA,dO,w,Int.ofNat_eq_natCast,aW,Aj,show ¬ (2:Int)=1 by omega,show ¬ (2:Int)=3 by omega]
    by_cases c:j<v.l.length
    ·exact⟨j,by simp[c],.inr ⟨j,v.l[j],rfl,by simp[c],λh=>by simp at h,λ_=>by simp[c]⟩⟩
    ·exact⟨-1,by simp[c],.inl ⟨by simpa using c,by omega⟩⟩
   ·have y:x.k=3:=by omega
    obtain⟨r,b,a⟩:=Bfx v x o v.l.length 0 (by omega)
    simp only[aE,aD]at b a
    rw[if_neg k2]
    simp only[y,g,Zd,Ze,aB,Zf,Zt,bW,aA,A4s,Dz,b,bO,show ¬ (3:Int)=1 by omega,show ¬ (3:Int)=2 by omega]
    refine⟨r,rfl,?_⟩
    rcases a with a | ⟨j,u,d,e,m⟩
    ·exact .inl a
    ·exact .inr ⟨j,u,d,m,λh=>by simp at h,λ_=>e⟩
  ·rw[if_neg g]
   refine⟨-1,?_,.inl ⟨rfl,by omega⟩⟩
   simp[k1,g]
theorem Aow (p:List Stp)(t:p.length<=1099511627776)(hp: ∀x∈p,Ei x=true)(c d e:IV): ∀ (n i:Nat) (v:Val),i+n=p.length->v.Aq<=1048576->
  W Bjo 1 [.list (p.map bN),.int p.length,.int i,v.enc,c,d,e]=some (Ij (Ik v (p.drop i)))
 | 0,i,v,h,m=>by
  have w:i=p.length:=by omega
  subst w
  have o:=Att v (Cn v (by omega))
  rw[cJ]at o
  rw[Aoj,aM]
  simp only[ltn,aA,aR,aB,Zf,o,eT,Ik,Ij,aH,aV]
 | n+1,i,v,h,m=>by
  have a:i<p.length:=by omega
  have y:=hp _ (aF a)
  obtain⟨r,z,A⟩:=A5n v p[i] m y
  rw[Aoj,aC a]
  simp only[lti a,aA,aR,Zt,Hy bN a,z,bO,gY,bI,dO,bW,cE,Ik]
  rcases A with⟨b,g⟩ | ⟨j,u,rfl,b,g,B⟩
  ·simp only[g,Zd,Zt,b];rfl
  ·have C: ¬ (j:Int)<0:=by omega
   have G:=Ui b
   have F:=Aow p t hp c d e n (i+1) u (by omega) (by omega)
   have q:W Bjo 2 [.list (p.map bN),.int p.length,.int i,u.enc,c,d,e]=some (Ij (Ik u (p.drop (i+1)))):=by
    rw[A3k]
    simp only[nxt (show i<4611686018427387904 by omega),aA,F]
   simp only[C,Ze,aB,Zf,b,aA,eU,aU,Zt,aW,bA]
   by_cases k1:p[i].k =1
   ·simp only[k1,Zd,Zt,g k1,aN,aA,eQ,q]
   ·simp only[k1,Ze,aB,Zf,B k1,aN,aA,q]
theorem Bgb (v:Val)(p:List Stp)(b:v.Aq<=1048576)(hp:Db p=true):W Bjo 0 [v.enc,.list (p.map bN)]=some (Ij (Ik v p)):=by
 obtain⟨c,d⟩:=Mq hp
 have a:=hp
 unfold Db at a
 simp only[aJ,bT]at a
 have:=Aow p (by omega) a.1 (.int 0) (.int 0) (.str ⟨#[]⟩) p.length 0 v (by omega) b
 simp only[aD,aE]at this
 rw[A4x]
 simp only[S3 p c (by omega),hp,bO,dG,aA,aR,aO,aB,Zf,Dz,this]
end Go.CT.Sch
namespace Go.CT.Sch
open Go.Proofs
theorem cmp0: ∀ (a b:List UInt8),Lib.compareBytes a b=0↔a=b
 | [],[]=>by simp[Lib.compareBytes]
 | [],_::_=>by simp[Lib.compareBytes]
 | _::_,[]=>by simp[Lib.compareBytes]
 | a::x,b::y=>by
  simp only[Lib.compareBytes]
  by_cases c:a<b
  ·have: ¬ a=b:=λe=>by subst e;exact absurd c (UInt8.lt_irrefl _)
   simp[c,this]
  ·by_cases d:b<a
   ·have: ¬ a=b:=λe=>by subst e;exact c d
    simp[c,d,this]
   ·have:a=b:=by
     have g: ¬ a.toNat<b.toNat:=λh=>c (fJ.2 h)
     have i: ¬ b.toNat<a.toNat:=λh=>d (fJ.2 h)
     exact gC.1 (by omega)
    subst this
    simp[c,cmp0 x y]
theorem Axe (a b:ByteArray): ∃c:Int,W F42 0 [.str a,.str b]=some [.int c]/\(c=0↔a=b):=by
 refine⟨Lib.compareBytes a.data.toList b.data.toList,?_,?_⟩
 ·simp[Ay0,Az7,Bgp,O.Qe]
 ·rw[cmp0];exact⟨Gj,λh=>by rw[h]⟩
theorem A0p (a b:Int): ∃c:Int,W F136 0 [.int a,.int b]=some [.int c]/\(c=0↔a=b):=by
 refine⟨if decide (a<b)=true then -1 else if decide (b<a)=true then 1 else 0,?_,Aj4 a b⟩
 rw[A32]
 simp only[A5d,eM,Zd,aO,aA,bO,aR,aB,Zf,dO,fN]
 split
 ·rfl
 ·split<;>rfl
theorem A0x (cs:List Int)(d:cs.length<=100): ∀ (n i:Nat),i+n=cs.length-> ∃r:Int,W F141 1 [.int 0,.list (cs.map .int),.int cs.length,.int i]=some [.int r]/\(r=0↔ ∀c∈cs.drop i,c=0)
 | 0,i,h=>by
  have e: ¬ i<cs.length:=by omega
  rw[Amm,aY (by omega)]
  exact⟨0,by simp[e],by simp⟩
 | n+1,i,h=>by
  have b:i<cs.length:=by omega
  have g:=Bd (i:=i) (by omega)
  obtain⟨r,j,m⟩:=A0x cs d n (i+1) (by omega)
  rw[Amm,aC b]
  simp only[dO,Aj,b,Zd,aA,aR,Zt,eU,aU,aW,bA,aK b,aN,eM,eE,g,j]
  by_cases a:cs[i]=0
  ·exact⟨r,by simp[a],by simp only[bQ,forall_eq_or_imp,a,true_and];exact m⟩
  ·exact⟨cs[i],by simp[a],by simp only[bQ,forall_eq_or_imp,a,false_and]⟩
theorem Bhd (cs:List Int)(a:cs.length<=100): ∃r:Int,W F141 0 [.list (cs.map .int)]=some [.int r]/\(r=0↔ ∀c∈cs,c=0):=by
 obtain⟨r,b,d⟩:=A0x cs a cs.length 0 (by omega)
 refine⟨r,?_,by simpa using d⟩
 rw[A78]
 simp only[fA,aG,aA]
 exact b
theorem Ay6 (a b:List Val)(u:a.length<=1099511627776)(o: ∀x∈a,∀y∈b,∃c:Int,W F135 0 [x.enc,y.enc]=some [.int c]/\(c=0↔x=y)): ∀ (n i:Nat),i+n=a.length->i<=b.length->
  ∃c:Int,W F138 1 [.list (a.map aZ),.list (b.map aZ),.list (a.map aZ),.int a.length,.int i]=some [.int c]/\(c=0↔a.drop i=b.drop i)
 | 0,i,h,w=>by
  have q: ¬ i<a.length:=by omega
  have e1:a.drop i= []:=aY (by omega)
  rw[Ap4,e1]
  by_cases g:a.length<b.length
  ·have z:(a.length:Int)<b.length:=by omega
   have: ¬ []=b.drop i:=λe=>by
    have:=congrArg dH e
    simp at this;omega
   exact⟨-1,by simp[q,g],by simp[this]⟩
  ·have z: ¬ (a.length:Int)<b.length:=by omega
   have:b.drop i= []:=aY (by omega)
   exact⟨0,by simp[q,g],by simp[this]⟩
 | n+1,i,h,w=>by
  have d:i<a.length:=by omega
  have A:=Bd (i:=i) (by omega)
  rw[Ap4]
  by_cases m:i<b.length
  ·obtain⟨c,B,t⟩:=o _ (aF d) _ (aF m)
   obtain⟨r,r1,r2⟩:=Ay6 a b u o n (i+1) (by omega) (by omega)
   have g: ¬ (b.length:Int)<=i:=by omega
   have hd:(a.drop i=b.drop i)↔(a[i]=b[i]/\a.drop (i+1)=b.drop (i+1)):=by
    rw[aC d,aC m]
    simp only[gE]
   simp only[dO,Aj,d,Zd,aA,aR,Zt,eU,aU,aW,bA,aK d,aK m,aN,fA,aG,O.Gx,g,Ze,aB,Zf,B,bO,eM,eE,A,r1,hd]
   by_cases j:c=0
   ·exact⟨r,by simp[j],by rw[r2];simp[t.1 j]⟩
   ·exact⟨c,by simp[j],by simp[j];exact λe=>absurd (t.2 e) j⟩
  ·have g:(b.length:Int)<=i:=by omega
   have: ¬ a.drop i=b.drop i:=λe=>by
    have:=congrArg dH e
    simp at this;omega
   exact⟨1,by simp[d,g],by simp[this]⟩
theorem Ayq (a b:List (ByteArray × Val))(u:a.length<=1099511627776)(o: ∀x∈a,∀y∈b,∃c:Int,W F140 0 [aS x,aS y]=some [.int c]/\(c=0↔x=y)): ∀ (n i:Nat),i+n=a.length->i<=b.length->
  ∃c:Int,W F139 1 [.list (a.map aS),.list (b.map aS),.list (a.map aS),.int a.length,.int i]=some [.int c]/\(c=0↔a.drop i=b.drop i)
 | 0,i,h,w=>by
  have q: ¬ i<a.length:=by omega
  have e1:a.drop i= []:=aY (by omega)
  rw[Aok,e1]
  by_cases g:a.length<b.length
  ·have z:(a.length:Int)<b.length:=by omega
   have: ¬ []=b.drop i:=λe=>by
    have:=congrArg dH e
    simp at this;omega
   exact⟨-1,by simp[q,g],by simp[this]⟩
  ·have z: ¬ (a.length:Int)<b.length:=by omega
   have:b.drop i= []:=aY (by omega)
   exact⟨0,by simp[q,g],by simp[this]⟩
 | n+1,i,h,w=>by
  have d:i<a.length:=by omega
  have A:=Bd (i:=i) (by omega)
  rw[Aok]
  by_cases m:i<b.length
  ·obtain⟨c,B,t⟩:=o _ (aF d) _ (aF m)
   obtain⟨r,r1,r2⟩:=Ayq a b u o n (i+1) (by omega) (by omega)
   have g: ¬ (b.length:Int)<=i:=by omega
   have hd:(a.drop i=b.drop i)↔(a[i]=b[i]/\a.drop (i+1)=b.drop (i+1)):=by
    rw[aC d,aC m]
    simp only[gE]
   simp only[dO,Aj,d,Zd,aA,aR,Zt,eU,aU,aW,bA,aK d,aK m,aN,fA,aG,O.Gx,g,Ze,aB,Zf,B,bO,eM,eE,A,r1,hd]
   by_cases j:c=0
   ·exact⟨r,by simp[j],by rw[r2];simp[t.1 j]⟩
   ·exact⟨c,by simp[j],by simp[j];exact λe=>absurd (t.2 e) j⟩
  ·have g:(b.length:Int)<=i:=by omega
   have: ¬ a.drop i=b.drop i:=λe=>by
    have:=congrArg dH e
    simp at this;omega
   exact⟨1,by simp[d,g],by simp[this]⟩
theorem Bgw: ∀a:Val,a.Aq<=1099511627776-> ∀b:Val,∃c:Int,W F135 0 [a.enc,b.enc]=some [.int c]/\(c=0↔a=b):=by
 refine fC λa g h L b=>?_
 have m1:=a.Bn
 have m2:=a.Bc
 obtain⟨t,u,r1⟩:=A0p a.k b.k
 obtain⟨w,z,r2⟩:=A0p a.n b.n
 obtain⟨A,B,C⟩:=Axe a.s b.s
 obtain⟨F,j,m⟩:=Ay6 a.l b.l (by omega) (λx d y _=>g x d (by have:=cW d;omega) y) a.l.length 0 (by omega) (dK _)
 have G: ∀x∈a.f,∀y∈b.f,∃c:Int,W F140 0 [aS x,aS y]=some [.int c]/\(c=0↔x=y):=by
  intro x d y _
  obtain⟨d1,H,I⟩:=Axe x.1 y.1
  obtain⟨d2,J,v2⟩:=h x d (by have:=fQ d;omega) y.2
  obtain⟨r,e,i⟩:=Bhd [d1,d2] (by simp)
  refine⟨r,?_,?_⟩
  ·rw[A5w]
   simp only[aI,aL]at e
   simp only[eH,eQ,aA,H,J,bO,dE,e]
  ·rw[i];simp[I,v2,Prod.ext_iff]
 obtain⟨K,o,q⟩:=Ayq a.f b.f (by omega) G a.f.length 0 (by omega) (dK _)
 obtain⟨r,e,i⟩:=Bhd [t,w,A,F,K] (by simp)
 simp only[aE,aD]at j m o q
 simp only[aI,aL]at e
 refine⟨r,?_,?_⟩
 ·rw[A2j]
  simp only[cN,eR,eS,bW,cE,aA,u,z,B,bO,A5f,A33,fA,aG,j,o,dE,e]
 ·rw[i]
  simp only[bQ,List.not_mem_nil,or_false,forall_eq_or_imp,forall_eq,r1,r2,C,m,q]
  cases a;cases b;simp
open Classical in
theorem Apr (a b:Val)(ha:a.Aq<=1099511627776):W F134 0 [a.enc,b.enc]=some [.bool (decide (a=b))]:=by
 obtain⟨c,h1,h2⟩:=Bgw a ha b
 rw[A66]
 simp only[h1,bO,bI,aA]
 congr 3
 simp only[h2]
end Go.CT.Sch
namespace Go.CT.Sch
open Go.Proofs
def emS (s:Sch)(c:Val):Bool:=(decide (c.k=5)&&decide (c.f.length=0))||(decide (c.k=4)&&decide (c.l.length=0)&&Ho s)
open Classical in
noncomputable def Am5 (s:Sch) (cf lv:Val) (p:List Stp):Bool:=(Ik lv p).isSome &&(decide ((Ik cf p).getD Aw=(Ik lv p).getD Aw)||emS ((atV s p).getD Bj) ((Ik cf p).getD Aw))
theorem Bdp (v:Val)(p:List Stp)(a:v.Aq<=1048576)(hp:Db p=true)(b: ∀x∈p,x.k≠2):W F120 0 [v.enc,.str (Cs p)]=some (Ij (Ik v p)):=by
 rw[A36]
 simp only[Am9 p hp b,eA,Bgb v p a hp,Ij,Hq]
theorem Bhy (v:Val)(p:List Stp)(b:v.Aq<=1048576)(hp:Db p=true):W F232 0 [v.enc,.str (Cs p)]=some [((Ik v p).getD Aw).enc,.bool (Ik v p).isSome]:=by
 obtain⟨c,d⟩:=Mq hp
 have a:=Bge v p b c (by omega)
 unfold Biv at a
 rw[if_pos hp]at a
 rw[A5s]
 simp only[V0 p hp,eA,eM,Zd,aO,aA,aR,aB,Zf,a]
theorem Sg {v:Val}{p:List Stp}(a:v.Aq<=1048576):((Ik v p).getD Aw).Aq <=1048576:=by
 cases h:Ik v p with
 | none=>decide+kernel
 | some w=>have:=Ahg p v w h;rw[aH];omega
theorem Ap7 (s:Sch)(c:Val):W F245 0 [s.enc,c.enc]=some [.bool (emS s c)]:=by
 have a: ∀b:ByteArray,decide (b=(⟨#[]⟩:ByteArray))=decide (b=Am):=λ_=>rfl
 rw[A1f]
 simp only[cN,bW,cE,dR,dF,Dz,bI,aA,aR,Ax,Al,fX,a,emS,Ho]
 have d: ∀n:Nat,decide ((n:Int)=0)=decide (n=0):=λn=>decide_eq_decide.2 (by omega)
 simp only[d]
 cases decide (c.k=5)<;>cases decide (c.f.length=0)<;>cases decide (c.k=4)<;>cases decide (c.l.length=0)<;>cases decide (s.k=4)<;>simp
open Classical in
theorem Bfw (s:Sch)(cf lv:Val)(p:List Stp)(hs:s.Aq<=1048576)(hc:cf.Aq<=1048576)(hl:lv.Aq<=1048576)(hp:Db p=true)(h2: ∀x∈p,x.k≠2):
  W F119 0 [s.enc,cf.enc,lv.enc,.str (Cs p)]=some [.bool (Am5 s cf lv p)]:=by
 obtain⟨h1,h3⟩:=Mq hp
 have hA:=Bjw s p hs h1 (by omega)
 have m1:=Sg (p:=p) hc
 have hE:=Apr ((Ik cf p).getD Aw) ((Ik lv p).getD Aw) (by omega)
 have f0: ∀n:Nat,decide ((n:Int)=0)=decide (n=0):=λn=>decide_eq_decide.2 (by omega)
 have hk:IV.agg ((atV s p).getD Bj).Ew =((atV s p).getD Bj).enc :=(Sch.Eg _).symm
 rw[fP]at hk
 unfold Bi2 at hA
 rw[fP]at hA
 simp only[fZ,bC]at hA
 rw[A7f]
 unfold Am5 emS
 simp only[Bdp cf p hc hp h2,Bdp lv p hl hp h2,Ij,Hq,dG,aA,aR,cT,eL,hE,bO,Ax,Al,Am9 p hp h2,eA,hA,Ba2,bI,Dz,f0,hk,Ado]
 generalize decide ((Ik cf p).getD Aw=(Ik lv p).getD Aw)=E
 generalize decide (((Ik cf p).getD Aw).k =5)=A
 generalize decide (((Ik cf p).getD Aw).f.length =0)=B
 generalize decide (((Ik cf p).getD Aw).k =4)=C
 generalize decide (((Ik cf p).getD Aw).l.length =0)=D
 generalize Ho ((atV s p).getD Bj)=K
 cases(Ik lv p).isSome<;>cases E<;>cases A<;>cases B<;>cases C<;>cases D<;>simp
open Classical in
theorem Bib (s:Sch)(cf lv:Val)(p:List Stp)(hs:s.Aq<=1048576)(hc:cf.Aq<=1048576)(hl:lv.Aq<=1048576)(hp:Db p=true):
  W F231 0 [s.enc,cf.enc,lv.enc,.str (Cs p)]=some [.bool (Am5 s cf lv p)]:=by
 obtain⟨h1,h3⟩:=Mq hp
 have hA:=Bgj s p hs h1 (by omega)
 have m1:=Sg (p:=p) hc
 have m2:=Sg (p:=p) hl
 have hE:=Agb ((Ik cf p).getD Aw) ((Ik lv p).getD Aw) (by omega) (by omega)
 rw[A71]
 unfold Am5
 simp only[Bhy cf p hc hp,Bhy lv p hl hp,eA,dG,aA,aR,hE,bO,Ax,Al,V0 p hp,hA,Ap7]
 generalize decide ((Ik cf p).getD Aw=(Ik lv p).getD Aw)=E
 cases(Ik lv p).isSome<;>cases E<;>simp
end Go.CT.Sch
namespace Go.CT.Sch
open Go.Proofs
def Qu (s:Sch)(l:List Val)(k:ByteArray):Option Val:=l.find? λx=>decide (Dv x s.key=k)
def Dl:Val:=⟨5,0,Am,[],[]⟩
def mg:Nat->Sch->Val->Option Val->Val
 | 0,_,c,_=>c
 | n+1,s,c,o=>
  if(emS s c&&o.isSome)=true then o.getD c
  else if c.k=5 then c.f.foldl (λout p=>Ed out p.1 (mg n ((D7 s p.1).getD Bj) p.2 (o.bind λv=>v.get p.1))) (o.getD Dl)
  else if(Ho s&&o.isSome)=true then⟨4,0,Am,((o.getD Dl).l.map λx=>((Qu s c.l (Dv x s.key)).map λe=>mg n (s.it.headD Bj) e (some x)).getD x)++c.l.filter (λe=>(Qu s (o.getD Dl).l (Dv e s.key)).isNone),[]⟩
  else c
inductive Vn:Val->Prop
 | mk (v:Val):C3 v.f->(∀x∈v.l,Vn x)->(∀p∈v.f,Vn p.2)->Vn v
theorem Vn.strict {v:Val}(h:Vn v):C3 v.f:=by cases h;assumption
theorem Vn.Ll {v:Val}(h:Vn v): ∀x∈v.l,Vn x:=by cases h;assumption
theorem Vn.J8 {v:Val}(h:Vn v): ∀p∈v.f,Vn p.2:=by cases h;assumption
theorem Vn.get {v x:Val}{nm:ByteArray}(h:Vn v)(a:v.get nm=some x):Vn x:=h.J8 _ (E2 a).1
theorem Mb: ∀ (n:Nat) (v:Val),v.size<=n->v.valid=true->Vn v
 | 0,v,h,_=>by have:=v.size_pos;omega
 | n+1,v,h,a=> .mk v (Ic a) (λx b=>Mb n x (by have:=gB b;omega) (G6 a b)) λp hp=>Mb n p.2 (by have:=gA hp;omega) (G5 a hp).1
theorem Axc {u x:Val}(nm:ByteArray)(h:u.k=5)(a:Vn u)(b:Vn x):Vn (Ed u nm x):=
 .mk _ (Jk _ _ _) (by simp[Ed]) λp hp=>by
  rcases(R5 h a.strict p).1 hp with⟨_,h⟩ | rfl
  ·exact a.J8 p h
  ·exact b
theorem Aj7: ∀ (n:Nat) (o:Option Sch) (v:Val) (p:List Stp) (ch:ByteArray->Bool),v.valid=true->Vn (pt n o v p ch).1
 | 0,_,v,_,_,h=>Mb _ v (aT _) h
 | n+1,o,v,p,ch,c=>by
  have e:=(Zh (n+1) o v p ch c).2
  rw[Pj]at e ⊢
  by_cases a:kids o v= []
  ·rw[if_pos a];exact Mb _ v (aT _) c
  ·rw[if_neg a]at e ⊢
   obtain⟨s,rfl,A,r⟩:=Qf a
   rcases r with⟨j,b⟩ | ⟨B,m,g,b⟩
   ·have i:=(e j).strict (Ic c)
    simp only[j,Zt]at i ⊢
    rw[b]at i ⊢
    refine .mk _ i (by simp) λq t=>?_
    obtain⟨y,d,_,rfl⟩:=Ov t
    exact Aj7 n _ y.2 _ ch (G5 c d).1
   ·have u: ¬ v.k=5:=by omega
    simp only[u,Zf]
    rw[b]
    refine .mk _ bP (λx w=>?_) (by simp)
    obtain⟨y,d,_,rfl⟩:=Z7 w
    obtain⟨z,_,_⟩:=Ti (G6 c d) (Ej g y d)
    exact Axc _ ((Biw _ _ _ _ _).trans z) (Aj7 n _ y _ ch (G6 c d)) (.mk _ bP (by simp[Rz]) (by simp[Rz]))
theorem Atl {s:Sch}{v:Val}(set:List ByteArray)(is:Bool)(a:v.valid=true):Vn (Jm s v set is):=by
 unfold Jm
 split
 ·split
  ·exact Aj7 _ _ _ _ _ a
  ·split
   ·exact .mk _ bP (by simp) (by simp)
   ·exact .mk _ bP (by simp[Aw]) (by simp[Aw])
 ·exact Mb _ v (aT _) a
theorem Aox {u:Val}{nm key:ByteArray}(a:u.k=5)(b:C3 u.f)(c:nm≠key)(x:Val):(Ed u key x).get nm=u.get nm:=by
 apply Option.ext
 intro w
 rw[Al3 rfl (Jk u key x),Al3 a b,R5 a b]
 constructor
 ·rintro (⟨_,h⟩ | h)
  ·exact h
  ·exact absurd (congrArg Prod.fst h) c
 ·exact λh=> .inl ⟨c,h⟩
theorem Bhg (o:Option Val)(nm:ByteArray):(o.getD Dl).get nm=o.bind λv=>v.get nm:=by
 cases o<;>rfl
theorem Atp {u:Val}{nm:ByteArray}{x:Val}{m:Nat}(d:u.k=5)(a:x.Aq<=m+((u.get nm).map gL).getD 0):(Ed u nm x).Aq <=u.Aq+(1+nm.size+m):=by
 have e:Cl (Ed u nm x).f <=Cl (Dq u nm)+(1+nm.size+x.Aq):=by
  have h:Cl (Ed u nm x).f <=Cl (Dq u nm++ [(nm,x)]):=Q7 _
  rw[Iw,Ca,Ck]at h
  exact h
 have o:=u.Bx
 have b:=(Ed u nm x).Bx
 have g:(Ed u nm x).s =Am:=rfl
 have i:(Ed u nm x).l = []:=rfl
 have j:Dq u nm=u.f.filter λp=> !decide (p.1=nm):=by unfold Dq;rw[if_pos d]
 rw[g,i,En,show Am.size=0 from rfl]at b
 rw[j]at e
 cases c:u.get nm with
 | none=>
  rw[c]at a
  have:=J0 (λp=> !decide (p.1=nm)) u.f
  simp only[dQ,bV]at a
  omega
 | some y=>
  rw[c]at a
  have:=J9 (E2 c).1
  simp only[aN,aH]at a
  omega
theorem Ag3 (g:ByteArray × Val->Val): ∀ (l:List (ByteArray × Val)) (out:Val),C3 l->out.k=5->C3 out.f->(∀p∈l,(g p).Aq <=p.2.Aq+((out.get p.1).map gL).getD 0)->
  (l.foldl (λo p=>Ed o p.1 (g p)) out).Aq <=out.Aq+Cl l
 | [],out,_,_,_,_=>aT _
 | p::l,out,i,c,j,d=>by
  obtain⟨a,b⟩:=bR.1 i
  have m:=Atp (x:=g p) c (d p (by simp))
  have r:=Ag3 g l (Ed out p.1 (g p)) b rfl (Jk _ _ _) λq h=>by
   rw[Aox c j (λe=>Kx (a q h) e.symm)]
   exact d q (by simp[h])
  rw[fF,Ca]
  omega
def Aum (s:Sch)(C:List Val):List Val->Nat
 | []=>0
 | x::L=>((Qu s C (Dv x s.key)).map gL).getD 0+Aum s C L
theorem Su (s:Sch)(e:Val)(C:List Val)(k:ByteArray):Qu s (e::C) k=if Dv e s.key=k then some e else Qu s C k:=by
 unfold Qu
 rw[bZ]
 by_cases c:Dv e s.key=k<;>simp[c]
theorem Anu (s:Sch): ∀L:List Val,Aum s [] L=0
 | []=>rfl
 | x::L=>by rw[Aum,Anu s L];rfl
theorem Aix (s:Sch)(e:Val)(C:List Val): ∀ (L:List Val) (acc:List ByteArray),Du s.key acc L=true->(Dv e s.key∈acc->Aum s (e::C) L<=Aum s C L)/\Aum s (e::C) L<=Aum s C L+(if(Qu s L (Dv e s.key)).isSome then e.Aq else 0)
 | [],acc,_=>⟨λ_=>aT _,dX _ _⟩
 | x::L,acc,h=>by
  have b:=Kt h x (by simp)
  have h':=h
  simp only[Du,aJ]at h'
  obtain⟨i1,i2⟩:=Aix s e C L (acc++ [Dv x s.key]) h'.2
  rw[Aum,Aum,Su,Su]
  by_cases c:Dv e s.key=Dv x s.key
  ·have d:=i1 (by rw[c];simp)
   have c':Dv x s.key=Dv e s.key:=c.symm
   rw[if_pos c,if_pos c']
   refine⟨λa=>absurd (c ▸ a) b,?_⟩
   simp only[aN,aH,aV,Zt]
   omega
  ·have c': ¬ Dv x s.key=Dv e s.key:=λe=>c e.symm
   rw[if_neg c,if_neg c']
   refine⟨λa=>?_,by omega⟩
   have:=i1 (dI _ a)
   omega
theorem Ax4 (s:Sch)(L:List Val)(acc:List ByteArray)(h:Du s.key acc L=true): ∀C:List Val,Aum s C L+Ds (C.filter λe=>(Qu s L (Dv e s.key)).isNone)<=Ds C
 | []=>by rw[Anu];exact aT _
 | e::C=>by
  have c:=Ax4 s L acc h C
  have a:=(Aix s e C L acc h).2
  rw[bE,Et]
  cases b:Qu s L (Dv e s.key) with
  | none=>
   rw[b]at a
   simp only[bX,aB,Zf,Option.isNone_none,Zt]at a ⊢
   rw[Et];omega
  | some y=>
   rw[b]at a
   simp only[aV,Zt,Option.isNone_some,aB,Zf]at a ⊢
   omega
theorem Alq: ∀ (n:Nat) (s:Sch) (c:Val) (o:Option Val),SB s->c.valid=true->Fit s c->(∀v,o=some v->Vn v/\Fit s v)->(mg n s c o).Aq <=c.Aq+(o.map gL).getD 0
 | 0,s,c,o,_,_,_,_=>dX _ _
 | n+1,s,c,o,g,u,a,q=>by
  have S:=c.Bx
  rw[mg]
  split
  ·cases o with
   | none=>exact dX _ _
   | some v=>exact gF _ _
  ·split
   ·rename_i F
    have G:(o.getD Dl).k =5/\C3 (o.getD Dl).f /\(o.getD Dl).Aq <=6+(o.map gL).getD 0:=by
     cases o with
     | none=>exact⟨rfl,bP,by show Dl.Aq<=6+0;rw[fR];exact aT _⟩
     | some v=>exact⟨by rw[aH,(q v rfl).2.kind,<-a.kind,F],(q v rfl).1.strict,gF _ _⟩
    have z:(o.getD Dl).Aq +Cl c.f<=c.Aq+(o.map gL).getD 0:=by omega
    refine eF (Ag3 (λp=>mg n ((D7 s p.1).getD Bj) p.2 (o.bind λv=>v.get p.1)) c.f _ (Ic u) G.1 G.2.1 λp hp=>?_) z
    obtain⟨t,d⟩:=bS.1 (a.known p hp)
    show(mg n ((D7 s p.1).getD Bj) p.2 (o.bind λv=>v.get p.1)).Aq <=_
    rw[Bhg,d,aH]
    refine Alq n t p.2 _ (g.sub d) (G5 u hp).1 (a.fld p hp t d) λv H=>?_
    obtain⟨w,rfl,I⟩:=cX.1 H
    obtain⟨A,r⟩:=q w rfl
    exact⟨A.get I,r.fld _ (E2 I).1 t d⟩
   ·split
    ·rename_i F b
     rw[aJ]at b
     obtain⟨v,rfl⟩:=bS.1 b.2
     obtain⟨A,r⟩:=q v rfl
     have B:=r.keyed b.1
     have H:=v.Bx
     have T:=Ax4 s v.l [] B c.l
     have M: ∀L:List Val,(∀x∈L,x∈v.l)->Ds (L.map λx=>((Qu s c.l (Dv x s.key)).map λe=>mg n (s.it.headD Bj) e (some x)).getD x)<=Ds L+Aum s c.l L:=by
      intro L
      induction L with
      | nil=>intro _;exact aT _
      | cons x L N=>
       intro J
       have i:=N λy C=>J y (by simp[C])
       have j:=J x (by simp)
       rw[aI,Et,Et,Aum]
       cases Q:Qu s c.l (Dv x s.key) with
       | none=>simp only[dQ,bV];omega
       | some e=>
        have K:e∈c.l:=cL Q
        simp only[aN,aH]
        obtain⟨t,m⟩:=bD.1 (g.list (Dx.1 b.1).1)
        have d:t∈s.it:=by rw[m];simp
        have:=Alq n t e (some x) (g.Ie d) (G6 u K) (a.el e K t d) λy C=>by cases C;exact⟨A.Ll x j,r.el x j t d⟩
        have e1:s.it.headD Bj=t:=by rw[m];rfl
        simp only[aN,aH]at this
        rw[<-e1]at this
        omega
     have R:=M v.l λ_ h=>h
     simp only[aH,aN]
     rw[fR]
     simp only[eO,dB,dA,Ck,Sc,show Am.size=0 from rfl]
     omega
    ·exact dX _ _
end Go.CT.Sch
namespace Go.CT.Sch
open Go.Proofs
theorem Tq (u:Val)(nm:ByteArray)(x:Val):(Ed u nm x).f.length <=u.f.length+1:=by
 have a:=Aq2 (Dq u nm++ [(nm,x)])
 have b:=Xg u nm
 rw[aP,bM]at a
 show(Wb (Dq u nm++ [(nm,x)])).length <=_
 omega
theorem Uc {K:Nat}{u x:Val}(nm:ByteArray)(a:Gl K u)(b:Gl K x)(c:u.f.length+1<=K):Gl K (Ed u nm x):=by
 obtain⟨m,rfl⟩: ∃m,K=m+1:=⟨K - 1,by omega⟩
 exact Abx nm a b (by omega)
theorem Agt {K:Nat}(g:ByteArray × Val->Val): ∀ (l:List (ByteArray × Val)) (out:Val),out.f.length+l.length<=K->Gl K out->(∀p∈l,Gl K (g p))->Gl K (l.foldl (λo p=>Ed o p.1 (g p)) out)
 | [],_,_,h,_=>h
 | p::l,out,b,h,a=>by
  simp only[bU]at b
  have d:=Tq out p.1 (g p)
  rw[fF]
  exact Agt g l _ (by omega) (Uc _ h (a p (by simp)) (by omega)) λq c=>a q (by simp[c])
theorem Ay7 {N:Nat}{v x:Val}{nm:ByteArray}(h:Gl N v)(a:v.get nm=some x):Gl N x:=h.J8 (E2 a).1
theorem Akg {N M:Nat} : ∀ (n:Nat) (s:Sch) (c:Val) (o:Option Val),Gl N c->(∀v,o=some v->Gl M v)->Gl (M+N) (mg n s c o)
 | 0,_,c,_,h,_=>h.mono (by omega)
 | n+1,s,c,o,a,b=>by
  rw[mg]
  split
  ·cases o with
   | none=>exact a.mono (by omega)
   | some v=>exact(b v rfl).mono (by omega)
  ·split
   ·have m:Gl (M+N) (o.getD Dl)/\(o.getD Dl).f.length <=M:=by
     cases o with
     | none=>exact⟨by constructor<;>simp[Dl],dK _⟩
     | some v=>exact⟨(b v rfl).mono (by omega),(b v rfl).N7⟩
    have B:=a.N7
    refine Agt (λp=>mg n ((D7 s p.1).getD Bj) p.2 (o.bind λv=>v.get p.1)) c.f _ (by omega) m.1 λp hp=>?_
    refine Akg n _ p.2 _ (a.J8 hp) λv d=>?_
    obtain⟨w,rfl,q⟩:=cX.1 d
    exact Ay7 (b w rfl) q
   ·split
    ·rename_i C g
     rw[aJ]at g
     obtain⟨v,rfl⟩:=bS.1 g.2
     have d:=b v rfl
     refine .mk _ ?_ (dK _) ?_ (by simp)
     ·have F:=d.Vr
      have G:=a.Vr
      have H:=qAD (λe=>(Qu s v.l (Dv e s.key)).isNone) c.l
      simp only[dB,aP,aG,aH]
      omega
     ·intro x i
      rcases cA.1 i with i | i
      ·obtain⟨y,r,rfl⟩:=bJ.1 i
       have j:y∈v.l:=r
       cases t:Qu s c.l (Dv y s.key) with
       | none=>exact(d.Ll j).mono (by omega)
       | some e=>
        have u:e∈c.l:=cL t
        exact Akg n _ e (some y) (a.Ll u) λz A=>by cases A;exact d.Ll j
      ·exact(a.Ll (dD.1 i).1).mono (by omega)
    ·exact a.mono (by omega)
theorem Aeu (v:Val)(b:Gl 1073741824 v):W F164 0 [v.enc]=some [v.enc]:=by
 have h:=Lv [v] (by simp) (λx a=>by simp at a;subst a;exact b)
 simp only[aI,aL]at h
 rw[cJ]at h
 rw[A1m]
 simp only[dE,aA,h,eT,dB,aI,aL]
 rfl
theorem Ajd (s:Sch)(l:List Val)(k:ByteArray)(e: ∀x∈l,x.Aq<=1048576/\isKey x s.key=true)(j:l.length<=1048576)(a b c:IV)(g:(IV.agg [.int 0,.int 0,.str ⟨#[]⟩,.list [],.list []])=Aw.enc): ∀ (n i:Nat),i+n=l.length->
  W F166 1 [.str k,.list (l.map aZ),.int l.length,.int i,s.enc,a,b,c]=some [((Qu s (l.drop i) k).getD Aw).enc,.bool (Qu s (l.drop i) k).isSome]
 | 0,i,h=>by
  have:i=l.length:=by omega
  subst this
  rw[Aov,aM]
  simp only[ltn,aA,aR,aB,Zf,cT,g]
  rfl
 | n+1,i,h=>by
  have d:i<l.length:=by omega
  obtain⟨m,o⟩:=e _ (aF d)
  have q:=Ajd s l k e j a b c g n (i+1) (by omega)
  rw[Aov,aC d,Su]
  simp only[lti d,aA,aR,Zt,Hy aZ d,Amk s l[i] m,o,eA,fH,nxt (show i<4611686018427387904 by omega),q]
  by_cases c:Dv l[i] s.key=k<;>simp[c]
theorem A0z (s:Sch)(l:List Val)(k:ByteArray)(a: ∀x∈l,x.Aq<=1048576/\isKey x s.key=true)(b:l.length<=1048576):W F166 0 [s.enc,.list (l.map aZ),.str k]=some [((Qu s l k).getD Aw).enc,.bool (Qu s l k).isSome]:=by
 have:=Ajd s l k a b (.int 0) (.int 0) (.str ⟨#[]⟩) rfl l.length 0 (by omega)
 simp only[aD,aE]at this
 rw[A2f,Dz]
 exact this
def Old (s:Sch)(o:Option Val):Prop:= ∀v,o=some v->v.Aq<=1048576/\Vn v/\Fit s v
def MgP (n:Nat):Prop:= ∀ (s:Sch) (c:Val) (o:Option Val),c.size<=n->SB s->s.Aq<=1048576->c.Aq<=1048576->c.valid=true->Fit s c->Old s o->
 W Bi0 0 [s.enc,c.enc,(o.getD Aw).enc,.bool o.isSome]=some [(mg n s c o).enc]
theorem zget (o:Option Val)(nm:ByteArray):(o.getD Aw).get nm=o.bind λv=>v.get nm:=by cases o<;>rfl
theorem Old.get {s t:Sch}{o:Option Val}(h:Old s o){nm:ByteArray}(b:D7 s nm=some t):Old t (o.bind λv=>v.get nm):=by
 intro v c
 obtain⟨w,rfl,a⟩:=cX.1 c
 obtain⟨g,d,e⟩:=h w rfl
 have:nm.size+v.Aq<w.Aq:=fQ (E2 a).1
 exact⟨by omega,d.get a,e.fld _ (E2 a).1 t b⟩
theorem Ac9 {s:Sch}{o:Option Val}(h:Old s o):(o.getD Aw).Aq <=1048576:=by
 cases o with
 | none=>decide+kernel
 | some v=>exact(h v rfl).1
theorem Ae2 {n:Nat}{s:Sch}{c:Val}{o:Option Val}(d:c.Aq<=1048576)(a:Old s o): ∀ (t:Sch),Gl 2097152 (mg n t c o):=λt=>
 Akg (N:=1048576) (M:=1048576) n t c o (Cn c (by omega)) λv b=>Cn v (by have:=(a v b).1;omega)
theorem A92 (n:Nat)(y:MgP n)(s:Sch)(c:Val)(o:Option Val)(H:c.size<=n+1)(d:SB s)(z:s.Aq<=1048576)(I:c.Aq<=1048576)(A:c.valid=true)(m:Fit s c)(q:Old s o)(r a2 a3:IV)(b0:Val)(B:Gl 2097152 b0)(C:b0.f.length<=1048576):
  W Bi0 2 [.list (c.f.map aS),.int c.f.length,.int (0:Nat),s.enc,(o.getD Aw).enc,r,a2,a3,b0.enc]=some [(c.f.foldl (λout p=>Ed out p.1 (mg n ((D7 s p.1).getD Bj) p.2 (o.bind λv=>v.get p.1))) b0).enc]:=by
 have hlen:=c.Bc
 refine Z0 c.f (λi (b:Val)=>Gl 2097152 b/\b.f.length<=1048576+i) (λi b=>W Bi0 2 [.list (c.f.map aS),.int c.f.length,.int i,s.enc,(o.getD Aw).enc,r,a2,a3,b.enc]) (λout p=>Ed out p.1 (mg n ((D7 s p.1).getD Bj) p.2 (o.bind λv=>v.get p.1))) (λb=>some [b.enc]) b0 ?_ ?_ ⟨B,by omega⟩
 ·intro i j b u
  have e:=aF j
  have J:=fQ e
  have K:=gA e
  obtain⟨t,a⟩:=bS.1 (m.known _ e)
  have F:=Aes a
  have g:=q.get a
  have w:=Ae2 (n:=n) (c:=c.f[i].2) (by omega) g t
  have G:=y t c.f[i].2 (o.bind λv=>v.get c.f[i].1) (by omega) (d.sub a) (by omega) (by omega) (G5 A e).1 (m.fld _ e t a) g
  have x:=Acn (o.getD Aw) c.f[i].1 (by have:=Ac9 q;omega)
  have h:=Ah5 b c.f[i].1 (mg n t c.f[i].2 (o.bind λv=>v.get c.f[i].1)) (u.1.mono (by omega)) (w.mono (by omega))
  rw[cJ]at h
  rw[zget]at x
  refine⟨?_,?_⟩
  ·rw[Anp]
   simp only[lti j,aA,aR,Zt,Hy aS j,eH,Amj s _ z d,a,oE,aH,aV,eA,x,Ij,Hq,eQ,cT,eL,G,bO,h,eT,nxt (show i<4611686018427387904 by omega)]
  ·simp only[a,aH]
   have:=Tq b c.f[i].1 (mg n t c.f[i].2 (o.bind λv=>v.get c.f[i].1))
   exact⟨Uc _ u.1 w (by omega),by omega⟩
 ·intro b _
  rw[Anp]
  simp only[ltn,aA,aR,aB,Zf]
def mgE (n:Nat)(s t:Sch)(c:Val)(x:Val):Val:=((Qu s c.l (Dv x s.key)).map λe=>mg n t e (some x)).getD x
theorem V4 (s:Sch)(c lv:Val)(r:c.Aq<=1048576)(b:lv.Aq<=1048576)(t: ∀x∈c.l,isKey x s.key=true)(a: ∀x∈lv.l,isKey x s.key=true)(o a2 a3:IV): ∀ (m i:Nat) (acc:List Val),i+m=c.l.length->acc.length<=1048576+i->(∀x∈acc,Gl 1073741824 x)->
  W Bin 3 [.list (c.l.map aZ),.int c.l.length,.int i,s.enc,lv.enc,o,a2,a3,.list (acc.map aZ)]=some (gR ⟨4,0,Am,acc++(c.l.drop i).filter (λe=>(Qu s lv.l (Dv e s.key)).isNone),[]⟩)
 | 0,i,acc,h,w,d=>by
  have:i=c.l.length:=by omega
  subst this
  have y:=c.Bn
  have u:=Lv acc (by omega) d
  rw[cJ]at u
  rw[Amq,aM,cG,aQ,cJ]
  simp only[ltn,aA,aR,aB,Zf,u,eT]
 | m+1,i,acc,h,w,d=>by
  have g:i<c.l.length:=by omega
  have y:=c.Bn
  have z:=lv.Bn
  have A:=aF g
  have B:=cW A
  have i1:=V4 s c lv r b t a o a2 a3 m (i+1) acc (by omega) (by omega) d
  have i2:=V4 s c lv r b t a o a2 a3 m (i+1) (acc++ [c.l[i]]) (by omega) (by simp;omega) (λx j=>by
   rcases cA.1 j with h | h
   ·exact d x h
   ·rw[bY]at h;subst h;exact Cn _ (by omega))
  have q:=A0z s lv.l (Dv c.l[i] s.key) (λx j=>⟨by have:=cW j;omega,a x j⟩) (by omega)
  rw[Amq,aC g,bE]
  simp only[lti g,aA,aR,Zt,Hy aZ g,Amk s c.l[i] (by omega),eA,bW,q,dG,dE,apm aZ (n:=80) acc c.l[i] (by omega)]
  rw[An5,An5]
  simp only[nxt (show i<4611686018427387904 by omega),aA,i1,i2]
  cases Qu s lv.l (Dv c.l[i] s.key)<;>simp
theorem Aq3 (n:Nat)(L:MgP n)(s t:Sch)(c lv:Val)(S:c.size<=n+1)(d:SB s)(T:s.Aq<=1048576)(M:c.Aq<=1048576)(N:c.valid=true)(b:s.it= [t])(Q:Fit s c)(g:lv.Aq<=1048576)(j:Vn lv)(o:Fit s lv)(A: ∀x∈c.l,isKey x s.key=true)(q: ∀x∈lv.l,isKey x s.key=true)(r a2 a3:IV): ∀ (m i:Nat) (acc:List Val),i+m=lv.l.length->acc.length<=i->(∀x∈acc,Gl 1073741824 x)->
  W Bin 1 [.list (lv.l.map aZ),.int lv.l.length,.int i,s.enc,c.enc,lv.enc,r,a2,a3,.list (acc.map aZ)]=some (gR ⟨4,0,Am,(acc++(lv.l.drop i).map (mgE n s t c))++c.l.filter (λe=>(Qu s lv.l (Dv e s.key)).isNone),[]⟩)
 | 0,i,acc,h,U,B=>by
  have:i=lv.l.length:=by omega
  subst this
  have X:=c.Bn
  have C:=lv.Bn
  have F:=V4 s c lv M g A q r a2 a3 c.l.length 0 acc (by omega) (by omega) B
  rw[aE]at F
  simp only[aD]at F
  rw[Aen,aM,aL,aQ]
  simp only[ltn,aA,aR,aB,Zf,bW,Dz]
  exact F
 | m+1,i,acc,h,U,B=>by
  have u:i<lv.l.length:=by omega
  have X:=c.Bn
  have C:=lv.Bn
  have G:=aF u
  have h1:=cW G
  have a:t∈s.it:=by rw[b];simp
  have Y:=fK a
  have step: ∀x:Val,Gl 1073741824 x->W Bin 2 [.list (lv.l.map aZ),.int lv.l.length,.int i,s.enc,c.enc,lv.enc,r,a2,a3,.list (acc.map aZ),x.enc]=some (gR ⟨4,0,Am,(acc++x::(lv.l.drop (i+1)).map (mgE n s t c))++c.l.filter (λe=>(Qu s lv.l (Dv e s.key)).isNone),[]⟩):=by
   intro x w
   have i2:=Aq3 n L s t c lv S d T M N b Q g j o A q r a2 a3 m (i+1) (acc++ [x]) (by omega) (by simp;omega) (λy H=>by
    rcases cA.1 H with h | h
    ·exact B y h
    ·rw[bY]at h;subst h;exact w)
   rw[A1l]
   simp only[dE,aA,apm aZ (n:=80) acc x (by omega),nxt (show i<4611686018427387904 by omega),i2,bG,bH]
  have I:=A0z s c.l (Dv lv.l[i] s.key) (λx w=>⟨by have:=cW w;omega,A x w⟩) (by omega)
  rw[Aen,aC u,aI]
  simp only[lti u,aA,aR,Zt,Hy aZ u,Amk s lv.l[i] (by omega),eA,bW,I]
  unfold mgE at step ⊢
  cases J:Qu s c.l (Dv lv.l[i] s.key) with
  | none=>
   have:=step lv.l[i] (Cn _ (by omega))
   simp only[bX,aB,Zf,dQ,bV]
   exact this
  | some e=>
   have z:e∈c.l:=cL J
   have Z:=cW z
   have aa:=gB z
   have hold:Old t (some lv.l[i]):=λy H=>by cases H;exact⟨by omega,j.Ll _ G,o.el _ G t a⟩
   have R:=L t e (some lv.l[i]) (by omega) (d.Ie a) (by omega) (by omega) (G6 N z) (Q.el e z t a) hold
   have K:=Ae2 (n:=n) (c:=e) (by omega) hold t
   have:=step (mg n t e (some lv.l[i])) (K.mono (by omega))
   have ix:eZ (.list (s.it.map cK)) (.int 0)=some t.enc:=by rw[b];rfl
   simp only[aH,aV]at R
   simp only[aV,Zt,cY,aA,ix,aH,R,bO,aN]
   exact this
theorem Bcs (n:Nat)(j:MgP n)(s t:Sch)(c lv:Val)(m:c.size<=n+1)(a:SB s)(o:s.Aq<=1048576)(q:c.Aq<=1048576)(r:c.valid=true)(b:s.it= [t])(u:Fit s c)(d:lv.Aq<=1048576)(g:Vn lv)(h:Fit s lv)(w: ∀x∈c.l,isKey x s.key=true)(i: ∀x∈lv.l,isKey x s.key=true):
  W Bin 0 [s.enc,c.enc,lv.enc]=some (gR ⟨4,0,Am,lv.l.map (mgE n s t c)++c.l.filter (λe=>(Qu s lv.l (Dv e s.key)).isNone),[]⟩):=by
 have:=Aq3 n j s t c lv m a o q r b u d g h w i (.int 0) (.int 0) (.str ⟨#[]⟩) lv.l.length 0 [] (by omega) (aT _) (by simp)
 simp only[aD,aE,bC,aL]at this
 rw[Asb]
 simp only[bW,aA,Dz]
 exact this
theorem Bct {c:Val}(h:c.valid=true)(a:c.k=5):c=⟨5,0,Am,[],c.f⟩:=by
 obtain⟨b,d,e⟩:=(D.O6 h).map a
 conv=>lhs;rw[Val.eta c,b,d,e,a]
theorem A3b {c:Val}(h:c.valid=true)(a:c.k=4):c=⟨4,0,Am,c.l,[]⟩:=by
 obtain⟨b,d,e⟩:=(D.O6 h).list a
 conv=>lhs;rw[Val.eta c,b,d,e,a]
end Go.CT.Sch
namespace Go.CT.Sch
open Go.Proofs
theorem V5: ∀n,MgP n
 | 0=>λs c o h=>by have:=c.size_pos;omega
 | n+1=>λs c o J d K I q z g=>by
  have R:=Ac9 g
  have A:=z.kind
  have L: ∀v,o=some v->v.k=c.k:=λv q=>by rw[(g v q).2.2.kind,A]
  have r:=Aeu c (Cn c (by omega))
  have i:=Aeu (o.getD Aw) (Cn _ (by omega))
  have S: ∀m:Nat,gW (.int (m:Int)) (.int 0)=some (.bool (!decide (m=0))):=λm=>by
   rw[fN];congr 2
   by_cases c:m=0
   ·subst c;rfl
   ·simp only[c,Ze,bB];exact decide_eq_true (by omega)
  rw[A6u,mg]
  simp only[cN,bW,cE,aA,bI,aR,Dz,S,Ado,bO,Ax,Al]
  unfold emS
  by_cases B:c.k=5
  ·have X: ¬ c.k=4:=by omega
   have nk:Ho s=false:=by
    rw[<-eY]
    intro h
    have:=(Dx.1 h).1
    omega
   by_cases u:c.f.length=0
   ·simp only[B,u,nk,Zd,aO,aB,Zf,Zt,cI,gS,bL]
    cases o with
    | none=>
     have j:=cC.1 u
     have Q:=Bct q B
     rw[j]at Q
     simp only[bX,aB,Zf,r,bO,j,List.foldl_nil,bV]
     rw[Q];rfl
    | some v=>simp only[aV,Zt,i,bO];rfl
   ·have w:=Adv [] (by constructor<;>simp)
    rw[cJ]at w
    have hlen:=c.Bc
    simp only[B,u,nk,Zd,Ze,bB,Zt,aB,Zf,dJ,fO,cF,show ¬ (5:Int)=4 by omega]
    simp only[aL]at w
    simp only[w,eT]
    cases o with
    | none=>
     have:=A92 n (V5 n) s c none J d K I q z g (.int 0) (.int 0) (.str ⟨#[]⟩) Dl (by constructor<;>simp[Dl]) (dK _)
     simp only[aD]at this
     simp only[bX,aB,Zf,cT,aA,Am7,cE,Dz,eL]
     exact this
    | some v=>
     have M:v.k=5:=by rw[L v rfl,B]
     have:=A92 n (V5 n) s c (some v) J d K I q z g (.int 0) (.int 0) (.str ⟨#[]⟩) v (Cn v (by have:=(g v rfl).1;omega)) (by have:=(g v rfl).1;have:=v.Bc;omega)
     simp only[aD]at this
     simp only[aH]at i this
     simp only[aV,Zt,aH,M,Zd,i,bO,aA,Am7,cE,Dz]
     exact this
  ·by_cases a:Ho s=true
   ·have N:c.k=4:=by rw[A];exact(Dx.1 a).1
    obtain⟨t,C⟩:=bD.1 (d.list (Dx.1 a).1)
    have b:=Ej (z.keyed a)
    by_cases F:c.l.length=0
    ·simp only[N,a,F,Zd,Ze,show ¬ (4:Int)=5 by omega,aO,aB,Zf,Zt,cI,cF,fO,bL,bI]
     cases o with
     | none=>simp only[bX,aB,Zf,r,bO]
     | some v=>simp only[aV,Zt,i,bO];rfl
    ·have x:=Bcs n (V5 n) s t c (o.getD Aw) J d K I q C z R (by
      cases o with
      | none=>exact .mk _ bP (by simp[Aw]) (by simp[Aw])
      | some v=>exact(g v rfl).2.1)
     simp only[N,a,F,Zd,Ze,show ¬ (4:Int)=5 by omega,bB,aB,Zf,Zt,dJ,cF,fO,bL,bI]
     cases o with
     | none=>
      have y:=V4 s c Aw I (by decide+kernel) b (by simp[Aw]) (.int 0) (.int 0) (.str ⟨#[]⟩) c.l.length 0 [] (by omega) (dK _) (by simp)
      have G:c.l.filter (λe=>(Qu s Aw.l (Dv e s.key)).isNone)=c.l:=eD.2 λ_ _=>rfl
      rw[aE,bC,G,<-A3b q N]at y
      simp only[aD,aL,cJ]at y
      have z3:qAC 3 Aw.enc=some (.list []):=rfl
      have T:hB (.list [])=some (.int 0):=rfl
      have U:hK (.int 0) (.int 0)=some (.bool false):=rfl
      simp only[bX,aB,Zf,bV]
      rw[Asb,z3]
      simp only[aA,T]
      rw[Aen]
      simp only[U,aA,aR,aB,Zf,bW,Dz,y,eT,cT,eL]
     | some v=>
      have y:=x ((g v rfl).2.2) b (Ej ((g v rfl).2.2.keyed a))
      rw[cJ]at y
      simp only[aH]at y
      simp only[aV,Zt,aH,y,eT,cT,aA,eL,C,dP]
      rfl
   ·have H:Ho s=false:=by simpa using a
    simp only[B,H,Ze,aB,Zf,dJ,cF,Bool.or_self,ite_self,r,bO]
end Go.CT.Sch
namespace Go.CT.Sch
open Go.Proofs
theorem Uy (s:Sch)(l:List Val)(k:ByteArray)(b: ∀x∈l,x.Aq<=1048576)(d:l.length<=1048576): ∀ (n i:Nat),i+n=l.length->
  ∃r:Int,W F255 1 [.list (l.map aZ),.str k,.int i,s.enc]=some [.int r]/\((Qu s (l.drop i) k=none/\r<0)\/ ∃ (j:Nat) (u:Val),r=j/\j<l.length/\l[j]?=some u/\Qu s (l.drop i) k=some u)
 | 0,i,h=>by
  have:i=l.length:=by omega
  subst this
  rw[Arb,aM]
  exact⟨-1,by simp only[Dz,ltn,aA,aR,aB,Zf],.inl ⟨rfl,by omega⟩⟩
 | n+1,i,h=>by
  have a:i<l.length:=by omega
  have e:=b _ (aF a)
  obtain⟨r,g,m⟩:=Uy s l k b d n (i+1) (by omega)
  rw[Arb,aC a,Su]
  simp only[Dz,lti a,aA,aR,Zt,Hy aZ a,Avx s l[i] e,bO,fH,nxt (show i<4611686018427387904 by omega),g]
  by_cases c:Dv l[i] s.key=k
  ·exact⟨i,by simp[c],.inr ⟨i,l[i],rfl,a,by simp[a],by simp[c]⟩⟩
  ·have c':decide (Dv l[i] s.key=k)=false:=by simpa using c
   simp only[c',aB,Zf,if_neg c]
   exact⟨r,rfl,m⟩
theorem Acb (s:Sch)(l:List Val)(k:ByteArray)(a: ∀x∈l,x.Aq<=1048576)(b:l.length<=1048576):
  ∃r:Int,W F255 0 [s.enc,.list (l.map aZ),.str k]=some [.int r]/\((Qu s l k=none/\r<0)\/ ∃ (j:Nat) (u:Val),r=j/\j<l.length/\l[j]?=some u/\Qu s l k=some u):=by
 obtain⟨r,c,h⟩:=Uy s l k a b l.length 0 (by omega)
 rw[aE]at h
 exact⟨r,by rw[A4d];exact c,h⟩
def MgR (n:Nat):Prop:= ∀ (s:Sch) (c:Val) (o:Option Val),c.size<=n->SB s->s.Aq<=1048576->c.Aq<=1048576->c.valid=true->Fit s c->Old s o->
 W Bb6 0 [s.enc,(o.getD Aw).enc,.bool o.isSome,c.enc]=some [(mg n s c o).enc]
theorem Ax6 (n:Nat)(H:MgR n)(s:Sch)(c:Val)(o:Option Val)(R:c.size<=n+1)(r:SB s)(I:s.Aq<=1048576)(S:c.Aq<=1048576)(z:c.valid=true)(A:Fit s c)(J:Old s o)(B a2 a3:IV)(K:(o.getD Dl).k =5)(u:C3 (o.getD Dl).f)(L:Gl 2097152 (o.getD Dl))(M:(o.getD Dl).f.length <=1048576):
  W Bb6 3 [.int (0:Nat),s.enc,c.enc,B,a2,a3,(o.getD Dl).enc]=some [(c.f.foldl (λout p=>Ed out p.1 (mg n ((D7 s p.1).getD Bj) p.2 (o.bind λv=>v.get p.1))) (o.getD Dl)).enc]:=by
 have hlen:=c.Bc
 have w:=Ic z
 refine Z0 c.f (λi (b:Val)=>(Gl 2097152 b/\b.f.length<=1048576+i)/\(b.k=5/\C3 b.f)/\ ∀p∈c.f.drop i,b.get p.1=o.bind λv=>v.get p.1) (λi b=>W Bb6 3 [.int i,s.enc,c.enc,B,a2,a3,b.enc]) (λout p=>Ed out p.1 (mg n ((D7 s p.1).getD Bj) p.2 (o.bind λv=>v.get p.1))) (λb=>some [b.enc]) (o.getD Dl) ?_ ?_ ⟨⟨L,by omega⟩,⟨K,u⟩,λp _=>Bhg o p.1⟩
 ·rintro i q b ⟨x,C,F⟩
  have d:=aF q
  have T:=fQ d
  have U:=gA d
  obtain⟨t,a⟩:=bS.1 (A.known _ d)
  have N:=Aes a
  have g:=J.get a
  have G:=Ae2 (n:=n) (c:=c.f[i].2) (by omega) g t
  have Q:=H t c.f[i].2 (o.bind λv=>v.get c.f[i].1) (by omega) (r.sub a) (by omega) (by omega) (G5 z d).1 (A.fld _ d t a) g
  have hdr:=aC q
  have h:=Aoq b c.f[i].1 (x.1.mono (by omega))
  rw[F c.f[i] (by rw[hdr];exact cH)]at h
  have j:=Aii b c.f[i].1 (mg n t c.f[i].2 (o.bind λv=>v.get c.f[i].1)) (x.1.mono (by omega)) (G.mono (by omega))
  rw[cJ]at j
  refine⟨?_,?_⟩
  ·rw[Ar3]
   simp only[cE,Dz,lti q,aA,aR,Zt,Hy aS q,eH,h,Ij,Hq,Ani s _ I,a,oE,aH,bO,eQ,cT,eL,Q,j,eT,nxt (show i<4611686018427387904 by omega)]
  ·simp only[a,aH]
   have:=Tq b c.f[i].1 (mg n t c.f[i].2 (o.bind λv=>v.get c.f[i].1))
   refine⟨⟨Uc _ x.1 G (by omega),by omega⟩,⟨rfl,Jk _ _ _⟩,λp hp=>?_⟩
   have m:C3 (c.f.drop i):=gT (List.drop_sublist i c.f) w
   rw[hdr]at m
   have y:=(bR.1 m).1 p hp
   rw[Aox C.1 C.2 (λe=>Kx y e.symm)]
   exact F p (by rw[hdr];exact cD _ hp)
 ·intro b _
  rw[Ar3]
  simp only[cE,Dz,ltn,aA,aR,aB,Zf]
theorem Ac4 (s:Sch)(c lv:Val)(o:c.Aq<=1048576)(a:lv.Aq<=1048576)(d a2 a3:IV): ∀ (m i:Nat) (acc:List Val),i+m=c.l.length->acc.length<=1048576+i->
  W Bb6 5 [.int i,s.enc,lv.enc,c.enc,d,a2,a3,.list (acc.map aZ)]=some [(Val.mk 4 0 Am (acc++(c.l.drop i).filter (λe=>(Qu s lv.l (Dv e s.key)).isNone)) []).enc]
 | 0,i,acc,h,q=>by
  have:i=c.l.length:=by omega
  subst this
  have e:=Val.fold 4 0 Am acc []
  simp only[aL]at e
  rw[Apq,aM,cG,aQ]
  simp only[bW,Dz,ltn,aA,aR,aB,Zf,cT]
  rw[<-e];rfl
 | m+1,i,acc,h,q=>by
  have b:i<c.l.length:=by omega
  have C:=c.Bn
  have t:=lv.Bn
  have w:=aF b
  have F:=cW w
  have i1:=Ac4 s c lv o a d a2 a3 m (i+1) acc (by omega) (by omega)
  have i2:=Ac4 s c lv o a d a2 a3 m (i+1) (acc++ [c.l[i]]) (by omega) (by simp;omega)
  obtain⟨r,y,z⟩:=Acb s lv.l (Dv c.l[i] s.key) (λx A=>by have:=cW A;omega) (by omega)
  rw[Apq,aC b,bE]
  simp only[bW,Dz,lti b,aA,aR,Zt,Hy aZ b,Avx s c.l[i] (by omega),bO,y,dO,dE,apm aZ (n:=80) acc c.l[i] (by omega)]
  rw[Arw,Arw]
  simp only[nxt (show i<4611686018427387904 by omega),aA,i1,i2]
  rcases z with⟨g,B⟩ | ⟨j,u,rfl,_,_,g⟩
  ·simp[g,B]
  ·have: ¬ (j:Int)<0:=by omega
   simp[g,this]
theorem Aqh (n:Nat)(H:MgR n)(s t:Sch)(c lv:Val)(M:c.size<=n+1)(o:SB s)(N:s.Aq<=1048576)(I:c.Aq<=1048576)(J:c.valid=true)(b:s.it= [t])(K:Fit s c)(q:lv.Aq<=1048576)(u:Vn lv)(w:Fit s lv)(z a2 a3:IV): ∀ (m i:Nat) (acc:List Val),i+m=lv.l.length->acc.length<=i->
  W Bb6 2 [.int i,s.enc,lv.enc,c.enc,z,a2,a3,.list (acc.map aZ)]=some [(Val.mk 4 0 Am ((acc++(lv.l.drop i).map (mgE n s t c))++c.l.filter (λe=>(Qu s lv.l (Dv e s.key)).isNone)) []).enc]
 | 0,i,acc,h,Q=>by
  have:i=lv.l.length:=by omega
  subst this
  have F:=lv.Bn
  have d:=Ac4 s c lv I q z a2 a3 c.l.length 0 acc (by omega) (by omega)
  rw[aE]at d
  simp only[aD]at d
  rw[Ard,aM,aL,aQ]
  simp only[bW,Dz,ltn,aA,aR,aB,Zf]
  exact d
 | m+1,i,acc,h,Q=>by
  have A:i<lv.l.length:=by omega
  have hl:=c.Bn
  have F:=lv.Bn
  have G:=aF A
  have h1:=cW G
  have a:t∈s.it:=by rw[b];simp
  have R:=fK a
  have step: ∀x:Val,W Bb6 4 [.int i,s.enc,lv.enc,c.enc,z,a2,a3,.list (acc.map aZ),x.enc]=some [(Val.mk 4 0 Am ((acc++x::(lv.l.drop (i+1)).map (mgE n s t c))++c.l.filter (λe=>(Qu s lv.l (Dv e s.key)).isNone)) []).enc]:=by
   intro x
   have i2:=Aqh n H s t c lv M o N I J b K q u w z a2 a3 m (i+1) (acc++ [x]) (by omega) (by simp;omega)
   rw[A4l]
   simp only[dE,aA,apm aZ (n:=80) acc x (by omega),nxt (show i<4611686018427387904 by omega),i2,bG,bH]
  obtain⟨r,B,S⟩:=Acb s c.l (Dv lv.l[i] s.key) (λx T=>by have:=cW T;omega) (by omega)
  rw[Ard,aC A,aI]
  simp only[bW,Dz,lti A,aA,aR,Zt,Hy aZ A,Avx s lv.l[i] (by omega),bO,B,O.Gx]
  unfold mgE at step ⊢
  rcases S with⟨d,h4⟩ | ⟨j,e,rfl,L,g,d⟩
  ·have U:decide ((0:Int)<=r)=false:=decide_eq_false (by omega)
   have:=step lv.l[i]
   rw[d]
   simp only[U,aB,Zf,dQ,bV]
   exact this
  ·have C:e∈c.l:=dY g
   have X:=cW C
   have Y:=gB C
   have hold:Old t (some lv.l[i]):=λy Z=>by cases Z;exact⟨by omega,u.Ll _ G,w.el _ G t a⟩
   have B:=H t e (some lv.l[i]) (by omega) (o.Ie a) (by omega) (by omega) (G6 J C) (K.el e C t a) hold
   have:=step (mg n t e (some lv.l[i]))
   have ix:eZ (.list (s.it.map cK)) (.int 0)=some t.enc:=by rw[b];rfl
   have ij:eZ (.list (c.l.map aZ)) (.int (j:Int))=some e.enc:=by
    rw[Hy aZ L]
    rw[aK L]at g
    rw[fG g]
   simp only[aH,aV]at B
   rw[d]
   simp only[aU,Zd,Zt,cY,aA,ix,ij,B,bO,aN,aH]
   exact this
theorem Sq: ∀n,MgR n
 | 0=>λs c o h=>by have:=c.size_pos;omega
 | n+1=>λs c o y e z A j m g=>by
  have K:=Ac9 g
  have q:=m.kind
  have C: ∀v,o=some v->v.k=c.k:=λv j=>by rw[(g v j).2.2.kind,q]
  have H: ∀b:ByteArray,decide (b=(⟨#[]⟩:ByteArray))=decide (b=Am):=λ_=>rfl
  rw[A57,mg]
  simp only[Ap7,bO,cN,aA,bI,eM,aR,O.Ox,dF,fH,dG,H,Ax,Al]
  by_cases a:emS s c=true
  ·cases o with
   | none=>
    simp only[a,bX,Zt,dJ,aB,Zf,bB]
    by_cases i:c.k=5
    ·have I:c.f= []:=by
      unfold emS at a
      have J: ¬ (5:Int)=4:=by omega
      simp only[i,J,Zd,Ze,bL,cF,gM,decide_eq_true_eq]at a
      exact cC.1 a
     have:=Ax6 n (Sq n) s c none y e z A j m g (.int 0) (.int 0) (.str ⟨#[]⟩) rfl bP (by constructor<;>simp[Dl]) (dK _)
     simp only[aD,bV]at this
     simp only[i,Zd,Zt,cT,aA,Adt,bV]
     exact this
    ·simp[i]
   | some v=>simp[a]
  ·have r:emS s c=false:=by simpa using a
   simp only[r,cF,aB,Zf]
   by_cases i:c.k=5
   ·simp only[i,Zd,Zt]
    cases o with
    | none=>
     have:=Ax6 n (Sq n) s c none y e z A j m g (.int 0) (.int 0) (.str ⟨#[]⟩) rfl bP (by constructor<;>simp[Dl]) (dK _)
     simp only[aD,bV]at this
     simp only[bX,aB,Zf,cT,aA,Adt,bV]
     exact this
    | some v=>
     have F:v.k=5:=by rw[C v rfl,i]
     have:=Ax6 n (Sq n) s c (some v) y e z A j m g (.int 0) (.int 0) (.str ⟨#[]⟩) F (g v rfl).2.1.strict (Cn v (by have:=(g v rfl).1;omega)) (by have:=(g v rfl).1;have:=v.Bc;rw[aH];omega)
     simp only[aD,aH]at this
     simp only[aV,Zt,Adt,aH]
     exact this
   ·simp only[i,Ze,aB,Zf]
    by_cases d:Ho s=true
    ·have B:c.k=4:=by rw[q];exact(Dx.1 d).1
     have u: ¬ s.key=Am:=(Dx.1 d).2
     obtain⟨t,w⟩:=bD.1 (e.list (Dx.1 d).1)
     cases o with
     | none=>simp[B,u]
     | some v=>
      have:=Aqh n (Sq n) s t c v y e z A j w m (g v rfl).1 (g v rfl).2.1 (g v rfl).2.2 (.int 0) (.int 0) (.str ⟨#[]⟩) v.l.length 0 [] (by omega) (aT _)
      simp only[aD,aE,bC,aL]at this
      simp only[B,u,d,Zd,Ze,aO,aB,Zf,aV,cI,Zt,aH,w,dP]
      exact this
    ·have x:Ho s=false:=by simpa using d
     have G:c.k≠4\/s.key=Am:=by
      by_cases B:c.k=4
      ·right
       apply cS
       intro h
       exact d (Dx.2 ⟨by omega,h⟩)
      ·exact .inl B
     rcases G with h | h<;>simp[h,x]
end Go.CT.Sch
namespace Go.CT.Sch
open Go.Proofs
def Afu (x:Mgr):List Mgr->List Mgr
 | []=> [x]
 | y::r=>if blt y.name x.name then y::Afu x r else x::y::r
def Mm (l:List Mgr):Prop:=l.Pairwise λa b=>blt a.name b.name=true
theorem Mn (nm:ByteArray)(a:List ByteArray): ∀l:List Mgr,Aak nm a true l=I6 (l.filter λm=> !decide (m.name=nm))
 | []=>rfl
 | m::l=>by
  rw[Aak,bE,gS,Mn nm a l]
  unfold I6
  by_cases c:m.name=nm
  ·simp[c]
  ·by_cases b:0<m.paths.length
   ·simp[c,b]
   ·simp[c,b]
theorem Bab (x:Mgr): ∀l:List Mgr,(∀m∈l,blt m.name x.name=false)->Afu x l=x::l
 | [],_=>rfl
 | y::l,h=>by rw[Afu,h y (by simp)];rfl
theorem Gn (m:Mgr)(l:List Mgr):I6 (m::l)=if decide (0<m.paths.length)=true then m::I6 l else I6 l:=bE
theorem Abz (x:Mgr)(a:x.paths.length=0): ∀l:List Mgr,I6 (Afu x l)=I6 l
 | []=>by rw[Afu,Gn,a];rfl
 | y::l=>by
  rw[Afu]
  split
  ·rw[Gn,Gn,Abz x a l]
  ·rw[Gn,a];rfl
theorem Azl (nm:ByteArray)(b:List ByteArray): ∀l:List Mgr,Mm l->I6 (Afu ⟨nm,b⟩ (l.filter λm=> !decide (m.name=nm)))=Aak nm b (decide (b.length=0)) l:=by
 by_cases d:b.length=0
 ·intro l _
  rw[Abz _ d,d,decide_eq_true rfl,Mn]
 ·have hd:decide (0<b.length)=true:=decide_eq_true (by omega)
  rw[decide_eq_false d]
  intro l
  induction l with
  | nil=>intro _;rw[cG,Afu,Gn];simp only[hd,Zt];rfl
  | cons m l h=>
   intro i
   obtain⟨j,o⟩:=bR.1 i
   have ge:blt m.name nm=false-> ∀y∈l.filter (λm=> !decide (m.name=nm)),blt y.name nm=false:=by
    intro g y q
    have:=j y (dD.1 q).1
    cases a:blt y.name nm with
    | false=>rfl
    | true=>rw[Hh this a]at g;cases g
   rw[Aak,bE]
   cases a:blt m.name nm with
   | true=>
    have e: ¬ m.name=nm:=Kx a
    simp only[e,Ze,bB,Zt,aO,dJ,aB,Zf,bC,gM,bL]
    rw[Afu]
    simp only[a,Zt]
    rw[Gn,h o]
    split<;>simp
   | false=>
    simp only[bB,cI,Zt,Bool.or_true]
    rw[Mn]
    by_cases c:m.name=nm
    ·simp only[c,Zd,aO,aB,Zf,cF,aQ]
     rw[Bab _ _ (ge a),Gn]
     simp only[hd,Zt,bH]
    ·simp only[c,Ze,bB,Zt,bL]
     rw[Afu]
     simp only[a,aB,Zf]
     rw[Gn,Gn]
     simp only[hd,Zt]
     split<;>simp
theorem Zb (x:Mgr): ∀l:List Mgr,Ax2 (x.name,x.enc) (l.map λm=>(m.name,m.enc))=(Afu x l).map λm=>(m.name,m.enc)
 | []=>rfl
 | y::l=>by
  rw[aI,Ax2,Afu]
  unfold blt
  split
  ·rw[Zb x l];rfl
  ·rfl
theorem Va: ∀l:List Mgr,Mm l->Hw (l.map λm=>(m.name,m.enc))=l.map λm=>(m.name,m.enc)
 | [],_=>rfl
 | x::l,h=>by
  obtain⟨a,b⟩:=bR.1 h
  rw[aI,Hw,Va l b,Zb,Bab x l λm c=>O5 (a m c)];rfl
theorem Ag9: ∀l:List Mgr,Ald (l.map Mgr.enc)=some (l.map Mgr.name)
 | []=>rfl
 | x::l=>by rw[aI,Ald,Ag9 l];rfl
theorem Auj (x:Mgr)(l:List Mgr)(d:Mm l)(g: ∀m∈l,¬ m.name=x.name)(o:l.length<=1048576):O.Wq [.list ((x::l).map Mgr.enc)]=some [.list ((Afu x l).map Mgr.enc)]:=by
 have i:((x::l).map Mgr.name).zip ((x::l).map Mgr.enc)=(x::l).map λm=>(m.name,m.enc):=by
  rw[List.zip_map']
 have c:((x::l).map Mgr.name).Nodup :=by
  rw[aI,List.nodup_cons]
  refine⟨λh=>?_,?_⟩
  ·obtain⟨m,j,e⟩:=bJ.1 h
   exact g m j e
  ·exact hI _ (λa b h=>Kx h) d
 rw[O.Wq,Ag9,aA,if_pos ⟨c,by simp;omega⟩,i,aI,Hw,Va l d,Zb,List.map_map]
 rfl
end Go.CT.Sch
namespace Go.CT.Sch
open Go.Proofs
theorem Aci: ∀l:List ByteArray,Hu l=true->l.Pairwise λa b=>blt a b=true
 | [],_=>bP
 | [_],_=>eX _ _
 | a::b::l,h=>by
  simp only[Hu,aJ]at h
  have d:=Aci (b::l) h.2
  refine bR.2 ⟨λx c=>?_,d⟩
  rcases bQ.1 c with rfl | c
  ·exact h.1
  ·exact Hh h.1 ((bR.1 d).1 x c)
theorem Al1 {l:List Mgr}(h:Aad l=true):Mm l/\(∀m∈l,m.paths≠ [])/\l.length<=16:=by
 unfold Aad at h
 simp only[aJ,bT,decide_eq_true_eq]at h
 refine⟨fW.1 (Aci _ h.2.2),λm a e=>?_,h.2.1⟩
 have:=h.1 m a
 unfold okM at this
 simp only[aJ,eP,decide_eq_false_iff_not]at this
 exact this.1.2 (by rw[e];rfl)
def Vo (cs:List Cf)(l:List Mgr):List Mgr:=l.map λm=>⟨m.name,Gf m.paths (Ri cs m.name)⟩
theorem Amt (cs:List Cf)(nm:ByteArray): ∀l:List Mgr,Aws cs nm l=(Vo cs l).filter λm=> !decide (m.name=nm)
 | []=>rfl
 | m::l=>by
  have a:=Amt cs nm l
  unfold Aws Vo at a ⊢
  rw[aI,bE,bE,<-a]
  split<;>rfl
theorem Abe {g:Mgr->List ByteArray}{l:List Mgr}(h:Mm l):Mm (l.map λm=>⟨m.name,g m⟩):=fW.2 h
theorem M0: ∀ {l:List Mgr} {m:Mgr},m∈l->m.paths.length<=Yy l
 | x::l,m,h=>by
  rw[Yy]
  rcases bQ.1 h with rfl | h
  ·omega
  ·have:=M0 h;omega
theorem Agx (nm:ByteArray)(a:List ByteArray)(l:List Mgr)(j:Mm l)(B:l.length<=1000000)(hp:a.length<=1048576)(d: ∀m∈l,m.paths.length<=1048576):
  (calls (W F169 0 [.list (((⟨nm,a⟩:Mgr)::l.filter λm=> !decide (m.name=nm)).map Mgr.enc)]) 1 λq=>calls (W Bjd 0 [q]) 1 λt=>some [t])=some [.list ((Aak nm a (decide (a.length=0)) l).map Mgr.enc)]:=by
 have u:=qAD (λm:Mgr=> !decide (m.name=nm)) l
 have e:=Auj ⟨nm,a⟩ (l.filter λm=> !decide (m.name=nm)) (fL _ j) (λm g=>by simpa using(dD.1 g).2) (by omega)
 have c: ∀ (x:Mgr) (r:List Mgr),(Afu x r).length =r.length+1/\ ∀y∈Afu x r,y=x\/y∈r:=by
  intro x r
  induction r with
  | nil=>exact⟨rfl,λy b=>by simpa [Afu]using b⟩
  | cons z r o=>
   rw[Afu]
   split
   ·refine⟨by rw[bU,o.1];rfl,λy b=>?_⟩
    rcases bQ.1 b with rfl | b
    ·exact .inr cH
    ·rcases o.2 y b with h | h
     ·exact .inl h
     ·exact .inr (cD _ h)
   ·exact⟨rfl,λy b=>bQ.1 b⟩
 obtain⟨w,A⟩:=c ⟨nm,a⟩ (l.filter λm=> !decide (m.name=nm))
 have i:=Bcc (Afu ⟨nm,a⟩ (l.filter λm=> !decide (m.name=nm))) (by rw[w];omega) (λm g=>by
  rcases A m g with rfl | h
  ·exact hp
  ·exact d m (dD.1 h).1)
 simp only[Bgo,e,bO,i,Azl nm a l j]
theorem Bgu (cs:List Cf)(nm:ByteArray)(a:List ByteArray)(l:List Mgr)(d:Mm l)(j:l.length<=1000000)(hp:a.length<=1048576)(b: ∀m∈l,m.paths.length<=1048576)(g:cs.length<=1048576):
  W Bik 0 [.list (l.map Mgr.enc),.str nm,SL a,.list (cs.map Cf.enc)]=some [.list ((Aak nm a (decide (a.length=0)) (Vo cs l)).map Mgr.enc)]:=by
 have c:=Acx l cs nm (by omega) b g l.length 0 [(⟨nm,a⟩:Mgr)] (by omega) (aT _)
 have e:IV.agg [.str nm,SL a]=Mgr.enc ⟨nm,a⟩:=rfl
 simp only[aD,aE,aI,aL]at c
 rw[A08]
 simp only[cT,dE,aA,Dz,e,c]
 rw[Aqj]
 simp only[ltn,aA,aR,aB,Zf]
 rw[Amt,bH]
 exact Agx nm a (Vo cs l) (Abe d) (by unfold Vo;rw[aG];omega) hp (λm h=>by
  obtain⟨x,i,rfl⟩:=bJ.1 h
  exact eF (Kg _ _) (b x i))
end Go.CT.Sch
