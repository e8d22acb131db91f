import Derived.Test.YtfealnpkfnjbkaaGreatDoorOwnersPrA
import Derived.Test.YtfealnpkfnjbkaaGreatDoorCtC
import Derived.Test.YtfealnpkfnjbkaaGreatDoorLib
set_option linter.unusedVariables false
set_option linter.unusedSimpArgs false
open Bool renaming false_eq_true->aB,and_eq_true->aJ,not_true->bB,true_and->bK,not_false->bP,false_and->cO,not_eq_true->cQ,and_self->cX,and_false->dI,not_eq_true'->dU,false_or->fS,true_or->hZ
open Classical renaming byContradiction->dK
open Go.CT.Fld renaming enc->aZ,J8->fI,Bn->fU,C9->gY
open Go.CT.IV renaming bulk->fB,Dm->iK
open Go.CT.O renaming Aa->aU,Ae->bT,eq_int->bU,Az->dB,Bb->dO,Aq->dP,append->dR,Ah->dZ,Cc->eL,As->eU,Aj->eY,setAt->fD,Ci->fG,An->fJ,proj->fX,D1->gC,C4->gH,Eh->gW,B8->gX,index->hJ,Bw->iN,gt->iO
open Go.CT.Prim renaming ev->fM
open Go.CT.SFld renaming enc->bQ,Q5->eR,Bn->gO
open Go.CT.Sch renaming enc->cV,H3->dN,Bn->dQ,Cm->eA,Js->eT,Gy->fH,Bm->gJ,Dg->iD,Eu->iE,Cj->iF,D0->iG
open Go.CT.Sch.Sch renaming Ex->dS,Ia->gK,H2->gT
open Go.CT.Sch.Stp renaming enc->cG,Bn->iH,Dg->iI
open Go.CT.Srt renaming LE->eM,len->fN,idx->gB,Aqi->iJ
open Go.CT.Val renaming enc->bJ,Cj->cH,Cm->cN,Aay->cR,Bn->cT,Wf->cW,Bm->dC,Ga->dM,Aor->eC,ind->eS,C9->eV,Dg->eZ,Eu->fA,D0->fT,Bv->fW,A4c->gP,get->gQ,Rg->gR,Rh->gS,Ap->gU,A5p->gZ,Gg->hQ,fold->iB,size_eq->iC
open Int renaming cast_ofNat_Int->aD,natCast_nonneg->aT,toNat_natCast->aW,toNat_zero->dH,le_refl->eD
open List renaming drop_eq_getElem_cons->aC,getElem_mem->aE,drop_zero->aF,length_map->aI,map_cons->aK,getElem?_eq_getElem->aL,drop_length->aM,map_nil->aN,length_append->aO,append_nil->aP,mem_map->aS,flatMap_cons->aV,length_eq_one_iff->aX,drop_of_length_le->aY,filter_cons->bA,singleton_append->bC,mem_cons->bD,nil_append->bE,getElem?_map->bG,length_nil->bH,append_assoc->bI,length_singleton->bL,find?_cons->bN,pairwise_cons->bO,mem_singleton->bR,mem_cons_of_mem->bV,mem_append->bW,mem_filter->bX,getElem?_cons_zero->bY,mem_cons_self->cB,filter_nil->cC,flatMap_nil->cD,mem_flatMap->cE,mem_of_find?_eq_some->cF,length_eq_zero_iff->cJ,length_cons->cK,all_eq_true->cL,map_append->cM,set_getElem_self->cS,all_cons->cY,all_nil->dD,foldl_cons->dF,length_filter_le->dG,map_congr_left->dL,drop_eq_nil_of_le->dW,map_map->dY,mem_append_left->eF,find?_some->eG,headD_cons->eH,head?_cons->eI,all_append->eJ,filter_eq_self->eK,filter_append->eN,find?_eq_none->eO,ne_nil_of_mem->eP,length_take->eW,pairwise_singleton->eX,filter_eq_nil_iff->fE,length->fK,map_id->fL,length_pos_iff->fO,mem_map_of_mem->fP,map_eq_nil_iff->fQ,filter_sublist->fR,find?_append->gE,map_set->gF,pairwise_map->gG,getElem_map->gI,nodup_cons->gN,foldl_nil->gV
open List.Nodup renaming sublist->fZ
open List.Pairwise renaming nil->bM,filter->eE,map->iL,imp->iM
open List.Sublist renaming map->iP
open List.cons renaming injEq->gL
open Nat renaming le_refl->aQ,le_trans->cP,le_of_not_lt->cZ,zero_le->dJ,le_add_right->eB,add_sub_cancel->fY,zero_add->gD,le_add_left->gM
open Option renaming bind_some->aA,getD_some->aG,map_some->aH,isSome_iff_exists->aR,isSome_some->bF,bind_eq_some_iff->bZ,isSome_none->cI,map_none->cU,getD_none->dA,some_or->dX,none_or->eQ,isSome_map->gA
open Option.some renaming inj->dE
open UInt8 renaming lt_iff_toNat_lt->fF
namespace Go.CT.Sch
open Go.Proofs
theorem A6f (ks:List ByteArray)(s:ByteArray):O.Aoh (.bool false) (.list (O6 ks)) (.str s)=some (.bool (inB ks s)):=by
 unfold O.Aoh
 simp only[fM,Aai,aH]
 cases inB ks s<;>simp
theorem A5o (ks:List ByteArray)(s:ByteArray): ∃b,O.Aku (.list (O6 ks)) (.str s)=some (.bool b):=by
 unfold O.Aku
 simp only[fM,Aai,aH]
 exact⟨_,rfl⟩
theorem A5i (ks:List ByteArray)(s:ByteArray):O.Ap5 (.list (O6 ks)) (.str s) (.bool true)=some (.list (O6 (if inB ks s then ks else ks++ [s]))):=by
 unfold O.Ap5
 simp only[fM,Av3,aH]
def Cp (s:Sch)(x:Val):Kid:=(Uc s.key x,x,s.it.head?)
theorem Sn (s t:Sch)(v:Val)(e:s.it= [t])(o:v.Ap<=1048576): ∀ (n i:Nat) (b:List Kid) (acc:List ByteArray),i+n=v.l.length->b.length=i->
  W 141 1 [.list (v.l.map bJ),.int v.l.length,.int i,s.enc,.list (b.map Hm),.list (O6 acc)]=some [.list ((if Dh s.key acc (v.l.drop i) then b++(v.l.drop i).map (Cp s) else[]).map Hm)]
 | 0,i,b,acc,h,m=>by
  have:i=v.l.length:=by omega
  subst this
  rw[A14.i,aM,Dh]
  simp only[ltn,aA,aU,aB,Zf,Zt,aN,aP]
 | n+1,i,b,acc,h,m=>by
  have d:i<v.l.length:=by omega
  have z:=v.Bu
  have A:=dM (aE d)
  have q:=Abk v.l[i] s.key (by omega)
  obtain⟨bb,r⟩:=A5o acc (Cw v.l[i] s.key)
  have g:O.Aku (.list (O6 acc)) (.str ((v.l[i].get s.key).getD Au).s)=some (.bool bb):=r
  have a:=A5i acc (Cw v.l[i] s.key)
  have c:=A6f acc (Cw v.l[i] s.key)
  unfold Cw at a c
  rw[A14.i,aC d,Dh]
  simp only[lti d,aA,aU,Zt,I9 bJ d,eA,q,Ja,Jl,dP,fG,Aw,Al,c,g]
  unfold isKey Cw
  cases B:(v.l[i].get s.key).isSome with
  | false=>simp
  | true=>
   by_cases j:((v.l[i].get s.key).getD Au).k =3
   ·cases u:inB acc ((v.l[i].get s.key).getD Au).s with
    | true=>simp[j]
    | false=>
     have w:=Sn s t v e o n (i+1) (b++ [Cp s v.l[i]]) (acc++ [Cw v.l[i] s.key]) (by omega) (by simp[m])
     have x:=apm Hm (n:=248) b (Cp s v.l[i]) (by omega)
     have y:(IV.agg [.int 3,.str s.key,.int 0,.str ((v.l[i].get s.key).getD Au).s,.int v.l[i].k,.int v.l[i].n,.str v.l[i].s,.list (v.l[i].l.map bJ),.list (v.l[i].f.map aZ),
      .int t.k,.int t.mn,.int t.mx,.list (t.en.map .str),.str t.key,.list (t.it.map cV),.list (t.f.map bQ),.bool true])=Hm (Cp s v.l[i]):=by
      unfold Cp Hm;rw[e];rfl
     simp only[j,Zd,bB,aB,Zf,a,u,aA,dN,e,aK,aN,eY,eD,Zt,dH,bY,dQ,iD,iE,iF,eA,eT,
      cT,eZ,fA,cH,cN,dB,dO,nxt (show i<4611686018427387904 by omega),bP,bK,Bool.and_true]
     rw[y,x]
     simp only[aA]
     refine w.trans ?_
     unfold Cw
     simp only[bI,bC]
   ·simp[j]
theorem Akn (s t:Sch)(v:Val)(a:s.it= [t])(b:v.Ap<=1048576):W 141 0 [s.enc,v.enc]=some [.list ((if Dh s.key [] v.l then v.l.map (Cp s) else[]).map Hm)]:=by
 have:=Sn s t v a b v.l.length 0 [] [] (by omega) rfl
 rw[aF]at this
 rw[A14.h]
 simp only[cH,aA,Gi]
 exact this
theorem Aan (x:Kid)(a: ∀s,x.2.2=some s->SB s/\s.Ap<=1048576)(g:x.2.1.Ap<=1048576):W 137 0 [Hm x]=some [.list ((kids x.2.2 x.2.1).map Hm)]:=by
 obtain⟨st,v,o⟩:=x
 rw[A14.a]
 simp only[A8d,kid9,kid4,A8i,A1f,Awf,aA,dP,fG,aU,Aw,Al]
 cases o with
 | none=>simp[kids]
 | some s=>
  obtain⟨a,q⟩:=a s rfl
  simp only[bF,bB,aB,Zf,aG]
  rw[kids]
  by_cases h:s.k=v.k
  ·simp only[h,Zd,bB,aB,Zf,Zt,bU,aA]
   by_cases i:v.k=5
   ·simp only[i,Zd,Zt,Aqq s v (by omega) g,bT];rfl
   ·simp only[i,Ze,aB,Zf,aU,Aw,gW,aA,Al]
    by_cases c:v.k=4
    ·have j:=a.list (by omega)
     obtain⟨t,m⟩: ∃t,s.it= [t]:=aX.1 j
     by_cases b:s.key=Am
     ·have:s.key=(⟨#[]⟩:ByteArray):=b
      have e:decide (Am=(⟨#[]⟩:ByteArray))=true:=rfl
      simp only[c,Zd,Zt,e,bB,aB,Zf,b,ne_eq,not_true_eq_false,false_and,and_false,aN]
     ·have d: ¬ s.key=(⟨#[]⟩:ByteArray):=b
      simp only[c,Zd,Zt,d,Ze,bP,Akn s t v m g,bT,true_and,b,ne_eq,not_false_eq_true]
      rfl
    ·simp[c]
  ·simp[h]
theorem Aph (p:List Stp)(s:Stp)(b:p.length<=1073741824):W 143 0 [.list (p.map cG),s.enc]=some [.list ((p++ [s]).map cG)]:=by
 have a:O.Ir [.list (p.map cG)]=some [.list (p.map cG)]:=D2 (by rw[aI];omega)
 rw[A14.k]
 simp only[A6s,a,bT,dO,aA,apm cG (n:=48) p s (by omega)]
def OSB (o:Option Sch):Prop:= ∀s,o=some s->SB s/\s.Ap<=1048576
theorem Ak4 {o:Option Sch}{v:Val}(h:OSB o){x:Kid}(a:x∈kids o v):OSB x.2.2:=by
 cases o with
 | none=>simp[kids]at a
 | some s=>
  obtain⟨c,e⟩:=h s rfl
  rw[kids]at a
  split at a
  ·split at a
   ·obtain⟨p,hp,rfl⟩:=aS.1 a
    intro t b
    have:=J0 b
    exact⟨c.sub b,by omega⟩
   ·split at a
    ·obtain⟨p,hp,rfl⟩:=aS.1 a
     intro t b
     have d:=List.mem_of_head? b
     have:=fH d
     exact⟨c.I4 d,by omega⟩
    ·simp at a
  ·simp at a
theorem Aar {o:Option Sch}{v:Val}(h:OSB o)(b:v.Ap<=1048576){x:Kid}(a:x∈kids o v):x.1.fits:=by
 cases o with
 | none=>simp[kids]at a
 | some s=>
  obtain⟨c,d⟩:=h s rfl
  rw[kids]at a
  split at a
  ·split at a
   ·obtain⟨p,hp,rfl⟩:=aS.1 a
    have:=fT hp
    exact Jj _ (by omega)
   ·split at a
    ·obtain⟨p,hp,rfl⟩:=aS.1 a
     have:=dM hp
     have e:=Apo p s.key
     have:=s.Ad7
     exact⟨by show s.key.size<=_;omega,by show(Cw p s.key).size <=_;unfold Cw;omega⟩
    ·simp at a
  ·simp at a
end Go.CT.Sch
namespace Go.CT.Sch
open Go.Proofs
theorem Apw (o:Option Sch)(v:Val)(g:Kid->List ByteArray)(b: ∀x∈kids o v,(g x).length <=x.2.1.size):((kids o v).flatMap g).length <v.size:=by
 have i: ∀ (l:List (ByteArray × Val)) (s:Sch),(∀x∈l.map (Dq s),(g x).length <=x.2.1.size)->((l.map (Dq s)).flatMap g).length <=B4 l:=by
  intro l s
  induction l with
  | nil=>simp
  | cons a l c=>
   intro h
   have j:=h (Dq s a) (by simp)
   have m:=c λx d=>h x (by simp only[aK,bD];exact .inr d)
   have q:(Dq s a).2.1.size =a.2.size:=rfl
   have r:B4 (a::l)=a.2.size+B4 l:=rfl
   simp only[aK,aV,aO];omega
 have t: ∀ (l:List Val) (s:Sch),(∀x∈l.map (Cp s),(g x).length <=x.2.1.size)->((l.map (Cp s)).flatMap g).length <=Cv l:=by
  intro l s
  induction l with
  | nil=>simp
  | cons a l c=>
   intro h
   have j:=h (Cp s a) (by simp)
   have m:=c λx d=>h x (by simp only[aK,bD];exact .inr d)
   have q:(Cp s a).2.1.size =a.size:=rfl
   have r:Cv (a::l)=a.size+Cv l:=rfl
   simp only[aK,aV,aO];omega
 have y:=v.size_eq
 cases o with
 | none=>simp only[kids,cD,bH];omega
 | some s=>
  revert b
  rw[kids]
  intro b
  split
  ·rename_i u;rw[if_pos u]at b
   split
   ·rename_i e;rw[if_pos e]at b
    have:((v.f.map (Dq s)).flatMap g).length <=B4 v.f:=i v.f s b
    show((v.f.map (Dq s)).flatMap g).length <_
    omega
   ·rename_i e;rw[if_neg e]at b
    split
    ·rename_i w;rw[if_pos w]at b
     have:((v.l.map (Cp s)).flatMap g).length <=Cv v.l:=t v.l s b
     show((v.l.map (Cp s)).flatMap g).length <_
     omega
    ·simp only[cD,bH];omega
  ·simp only[cD,bH];omega
theorem Ag1: ∀ (n:Nat) (o:Option Sch) (v:Val) (p:List Stp),(lv n o v p).length <=v.size
 | 0,_,_,_=>by simp[lv]
 | n+1,o,v,p=>by
  have:=v.size_pos
  rw[lv]
  split
  ·simp;omega
  ·exact Nat.le_of_lt (Apw o v _ λx _=>Ag1 n _ _ _)
theorem Ath: ∀ (n:Nat) (x:Kid) (p:List Stp) (out:List ByteArray),x.2.1.size<=n->OSB x.2.2->x.2.1.Ap<=1048576->(∀s∈p,s.fits)->p.length+n<=1073741824->out.length+(lv n x.2.2 x.2.1 p).length <=1073741824->
  W 136 0 [Hm x,.list (p.map cG),SL out]=some [SL (out++lv n x.2.2 x.2.1 p)]
 | 0,x,p,out,h,_,_,_,_,_=>by have:=x.2.1.size_pos;omega
 | n+1,x,p,out,h,d,r,hp,B,g=>by
  rw[lv]at g ⊢
  have loop: ∀ (m i:Nat) (out:List ByteArray),i+m=(kids x.2.2 x.2.1).length ->out.length+(((kids x.2.2 x.2.1).drop i).flatMap λy=>lv n y.2.2 y.2.1 (p++ [y.1])).length <=1073741824->
    W 136 2 [.list (p.map cG),.int (kids x.2.2 x.2.1).length,.int i,.list ((kids x.2.2 x.2.1).map Hm),SL out]=some [SL (out++((kids x.2.2 x.2.1).drop i).flatMap λy=>lv n y.2.2 y.2.1 (p++ [y.1]))]:=by
   intro m
   induction m with
   | zero=>
    intro i out t g
    have:i=(kids x.2.2 x.2.1).length :=by omega
    subst this
    rw[A13.p,aM]
    simp only[ltn,aA,aU,aB,Zf,cD,aP]
   | succ m j=>
    intro i out t g
    have b:i<(kids x.2.2 x.2.1).length :=by omega
    have o:=aE b
    obtain⟨u,w⟩:=J3 o
    rw[aC b,aV,aO]at g
    have hlen:(kids x.2.2 x.2.1).length <4611686018427387904:=by
     have:=Apw x.2.2 x.2.1 (λ_=> [Am]) (λy C=>by have:=y.2.1.size_pos;simp;omega)
     have F:((kids x.2.2 x.2.1).flatMap λ_=> [Am]).length =(kids x.2.2 x.2.1).length :=by
      generalize kids x.2.2 x.2.1=l
      induction l with
      | nil=>rfl
      | cons a l j=>simp[aV,j]
     have:=x.2.1.Gb
     omega
    have z:=Ath n (kids x.2.2 x.2.1)[i] (p++ [(kids x.2.2 x.2.1)[i].1]) out (by omega) (Ak4 d o) (by omega) (H4 hp (Aar d r o)) (by simp;omega) (by omega)
    rw[A13.p]
    simp only[lti b,aA,aU,Zt,I9 Hm b,Anh,Aph p _ (show p.length<=1073741824 by omega),bT,z,nxt (show i<4611686018427387904 by omega)]
    rw[j (i+1) _ (by omega) (by simp only[aO];omega),aC b,aV,bI]
  rw[A13.n]
  simp only[Aan x d r,bT,Gi,aA,bU,aU]
  by_cases c:kids x.2.2 x.2.1= []
  ·simp only[c,Zt,bH,aD,Zd,Afk p hp (by omega),eL,A14.j,dO,aA]
   rw[if_pos c,bL]at g
   have A:=apm IV.str (n:=16) out (Ck p) (by omega)
   have q:dR 16 (SL out) (.list [.str (Ck p)])=some (SL (out++ [Ck p])):=A
   simp only[q,aA,bT]
   have:=loop 0 0 (out++ [Ck p]) (by rw[c];rfl) (by rw[c];simp;omega)
   rw[c]at this
   simp only[bH,aD,List.drop_nil,cD,aP]at this
   rw[A13.o]
   simp only[Gi,bH,aD,aA]
   exact this
  ·have c': ¬ ((kids x.2.2 x.2.1).length :Int)=0:=by
    have:(kids x.2.2 x.2.1).length ≠0:=λe=>c (cJ.1 e)
    omega
   rw[if_neg c]at g ⊢
   simp only[c',Ze,aB,Zf]
   rw[A13.o]
   simp only[Gi,aA]
   have:=loop (kids x.2.2 x.2.1).length 0 out (by omega) (by rw[aF];exact g)
   rw[aF]at this
   exact this
theorem Aoi (s:Sch)(v:Val)(a:s.Ap<=1048576)(b:v.Ap<=1048576):W 135 0 [s.enc,v.enc]=some [.bool (s.valid&&v.valid)]:=by
 rw[A13.m]
 simp only[Qe s a,I3 v (by omega),bT,aU,Aw,Al,aA]
 cases s.valid<;>cases v.valid<;>rfl
def Hk (s:Sch)(v:Val):List ByteArray:=if s.valid&&v.valid then W2 (lv v.size (some s) v []) else[]
theorem Aui (s:Sch)(v:Val)(d:s.Ap<=1048576)(e:v.Ap<=1048576):W 134 0 [s.enc,v.enc]=some [SL (Hk s v)]:=by
 rw[A13.l]
 simp only[Aoi s v d e,bT,dP,aA,aU]
 unfold Hk
 cases c:s.valid&&v.valid with
 | false=>simp only[bP,Zt,aB,Zf];rfl
 | true=>
  have h:s.valid=true/\v.valid=true:=by simpa using c
  have a:=dS h.1
  have i:=v.Gb
  have o:=Ag1 v.size (some s) v []
  have j:IV.agg [.int 0,.str ⟨#[]⟩,.int 0,.str ⟨#[]⟩,.int v.k,.int v.n,.str v.s,.list (v.l.map bJ),.list (v.f.map aZ),.int s.k,.int s.mn,.int s.mx,.list (s.en.map .str),.str s.key,.list (s.it.map cV),.list (s.f.map bQ),.bool true]=Hm (⟨0,Am,0,Am⟩,v,some s):=rfl
  have g:=Ath v.size (⟨0,Am,0,Am⟩,v,some s) [] [] (aQ _) (λt m=>by cases m;exact⟨a,d⟩) e (by simp) (by simp;omega) (by simp only[bH];omega)
  simp only[bE]at g
  simp only[bB,aB,Zf,Zt,cT,eZ,fA,cH,cN,dQ,iD,iE,iF,eA,dN,eT,aA,dB,j]
  have b:W 136 0 [Hm (⟨0,Am,0,Am⟩,v,some s),.list [],.list []]=some [SL (lv v.size (some s) v [])]:=g
  rw[b]
  simp only[bT,A8c (l:=lv v.size (some s) v []) (by omega)]
end Go.CT.Sch
namespace Go.CT.Sch
open Go.Proofs
theorem Aq0 {s:Sch}{v:Val}{i:Nat}(a:Ef v s.key=true):H0 s.key v i=Uc s.key v:=by
 unfold H0 Uc;rw[if_pos a]
theorem B9 {key:ByteArray} : ∀ {l:List Val} {acc:List ByteArray},Dh key acc l=true-> ∀x∈l,isKey x key=true
 | [],_,_=>by simp
 | y::l,acc,h=>by
  simp only[Dh,aJ]at h
  intro x a
  rcases bD.1 a with rfl | a
  ·exact h.1.1
  ·exact B9 h.2 x a
theorem Aca (s:Sch)(v:Val)(e:v.Ap<=1048576)(i:Nat)(g:i<v.l.length)(a:ByteArray): ∀ (n k:Nat),k+n=i->
  W 225 2 [.int i,.str a,.int k,s.enc,v.enc]=if inB (((v.l.take i).drop k).map λx=>Cw x s.key) a then some [.bool false]else W 225 1 [.int (i+1:Nat),s.enc,v.enc]
 | 0,k,h=>by
  have:k=i:=by omega
  subst this
  have j:=v.Bu
  rw[A23.m,aY (by rw[eW];omega)]
  simp only[ltn,aA,aU,aB,Zf,nxt (show k<4611686018427387904 by omega),aN,inB,List.any_nil]
 | n+1,k,h=>by
  have m:k<i:=by omega
  have b:k<v.l.length:=by omega
  have j:=v.Bu
  have q:=dM (aE b)
  have d:k<(v.l.take i).length :=by rw[eW];omega
  have o:=Aca s v e i g a n (k+1) (by omega)
  rw[A23.m,aC d,aK,Si]
  simp only[lti m,aA,aU,Zt,cH,I9 bJ b,eA,Mn v.l[k] s.key (by omega),eL,gH,nxt (show k<4611686018427387904 by omega),o,List.getElem_take]
  by_cases c:a=Cw v.l[k] s.key
  ·simp[c]
  ·simp[c]
theorem Acy (s:Sch)(v:Val)(d:v.Ap<=1048576)(b:s.key≠Am): ∀ (n i:Nat),i+n=v.l.length->
  W 225 1 [.int i,s.enc,v.enc]=some [.bool (Dh s.key ((v.l.take i).map λx=>Cw x s.key) (v.l.drop i))]
 | 0,i,h=>by
  have:i=v.l.length:=by omega
  subst this
  rw[A23.l,aM,Dh]
  simp only[cH,Gi,ltn,aA,aU,aB,Zf]
 | n+1,i,h=>by
  have a:i<v.l.length:=by omega
  have m:=dM (aE a)
  have e:=Acy s v d b n (i+1) (by omega)
  have c:=Aca s v d i a (Cw v.l[i] s.key) i 0 (by omega)
  rw[aF]at c
  have g:Ef v.l[i] s.key=isKey v.l[i] s.key:=by unfold Ef;simp[b]
  have j:v.l.take (i+1)=v.l.take i++ [v.l[i]]:=(Wu v.l a).symm
  rw[j,cM]at e
  rw[A23.l,aC a,Dh]
  simp only[cH,Gi,lti a,aA,aU,Zt,I9 bJ a,eA,Mn v.l[i] s.key (by omega),eL,dP,g]
  simp only[aD]at c
  cases o:isKey v.l[i] s.key with
  | false=>simp
  | true=>
   simp only[bB,aB,Zf,c,e,aK,aN,bK]
   cases inB ((v.l.take i).map λx=>Cw x s.key) (Cw v.l[i] s.key)<;>simp
theorem Ayk (s:Sch)(v:Val)(h:v.Ap<=1048576):W 225 0 [s.enc,v.enc]=some [.bool (decide (s.k=4/\v.k=4/\s.key≠Am/\v.l≠ [])&&Dh s.key [] v.l)]:=by
 rw[A23.k]
 simp only[dQ,aA,fG,aU,eA,gH,cT,cH,Gi,bU,Aw,Al]
 by_cases a:s.k=4
 ·by_cases b:s.key=Am
  ·have e:decide (Am=(⟨#[]⟩:ByteArray))=true:=rfl
   simp[a,b,e]
  ·have e:decide (s.key=(⟨#[]⟩:ByteArray))=false:=decide_eq_false b
   by_cases g:v.k=4
   ·by_cases c:v.l= []
    ·simp[a,c]
    ·have d: ¬ (v.l.length:Int)=0:=by
      have:v.l.length≠0:=λe=>c (cJ.1 e)
      omega
     have:=Acy s v h b v.l.length 0 (by omega)
     simp only[List.take_zero,aN,aF,aD]at this
     simp only[a,e,g,d,Zd,Ze,bB,aB,Zf,this,b,c,ne_eq,not_false_eq_true,and_self,bK]
   ·simp[a,g]
 ·simp[a]
def oE (o:Option Sch):IV:=(o.getD Bh).enc
theorem Aj1 (o:Option Sch)(v:Val)(h:v.Ap<=1048576):W 224 0 [oE o,.bool o.isSome,v.enc]=some [.bool !(kids o v).isEmpty]:=by
 rw[A23.j]
 cases o with
 | none=>simp[kids]
 | some s=>
  simp only[oE,bF,aU,Zt,aG,Ayk s v h,bT,aA,dQ,bU,cT,cN,Gi,gX,Aw,Al]
  congr 3
  rw[kids]
  by_cases d:s.k=v.k
  ·rw[if_pos d,d]
   by_cases b:v.k=5
   ·rw[if_pos b,List.isEmpty_map]
    cases v.f<;>simp[b]
   ·rw[if_neg b]
    by_cases c:v.k=4
    ·by_cases g:s.key=Am
     ·simp[g,c]
     ·cases i:v.l with
      | nil=>simp[c]
      | cons a l=>
       cases j:Dh s.key [] (a::l)<;>simp[c,g]
    ·simp[c,b]
  ·rw[if_neg d]
   by_cases b:s.k=5
   ·have: ¬ v.k=5:=λe=>d (b.trans e.symm)
    simp[b,this]
   ·by_cases c:s.k=4
    ·have: ¬ v.k=4:=λe=>d (c.trans e.symm)
     simp[c,this]
    ·simp[b,c]
theorem Abt (s:Sch)(nm:ByteArray)(j:s.Ap<=1048576)(b d e g:IV): ∀ (n i:Nat),i+n=s.f.length->
  W 226 1 [.str nm,.int i,s.enc,b,d,e,g]=some [oE (((s.f.drop i).find? λp=>decide (p.nm=nm)).map (·.s)),.bool ((s.f.drop i).find? λp=>decide (p.nm=nm)).isSome]
 | 0,i,h=>by
  have:i=s.f.length:=by omega
  subst this
  rw[A23.o,aM]
  simp only[eT,Gi,ltn,aA,aU,aB,Zf,dB];rfl
 | n+1,i,h=>by
  have a:i<s.f.length:=by omega
  have o:=s.Bd
  have m:=Abt s nm j b d e g n (i+1) (by omega)
  rw[A23.o,aC a,bN]
  simp only[eT,Gi,lti a,aA,aU,Zt,I9 bQ a,gO,gH,eR,nxt (show i<4611686018427387904 by omega),m]
  by_cases c:s.f[i].nm =nm
  ·simp[c,oE]
  ·have c':decide (s.f[i].nm =nm)=false:=by simpa using c
   simp only[c',aB,Zf]
theorem Ayv (s:Sch)(nm:ByteArray)(d:s.Ap<=1048576)(a:SB s):W 226 0 [s.enc,.str nm]=some [oE (Du s nm),.bool (Du s nm).isSome]:=by
 have b:=a.one
 have:=Abt s nm d (.int 0) (.int 0) (.int 0) (.str ⟨#[]⟩) s.f.length 0 (by omega)
 rw[aF]at this
 rw[A23.n]
 simp only[dN,aA,Gi,bU,aU]
 unfold Du
 cases c:s.it with
 | nil=>
  have e:decide (((([]:List Sch).length :Nat):Int)=1)=false:=by decide
  simp only[e,aB,Zf,gA]
  exact this
 | cons t ts=>
  have g:ts= []:=by rw[c]at b;simp at b;exact b
  subst g
  simp[oE]
end Go.CT.Sch
namespace Go.CT.Sch
open Go.Proofs
theorem apS (l m:List ByteArray)(h:l.length+m.length<=137438953471):dR 16 (SL l) (SL m)=some (SL (l++m)):=by
 unfold SL eM
 rw[iN,if_pos]
 ·simp
 ·have:(l.length+m.length) * 16<=137438953472 * 1024:=Nat.mul_le_mul (by omega) (by decide)
  simp only[aI]
  unfold Bc;omega
theorem Agi: ∀ (n:Nat) (o:Option Sch) (v:Val) (p:List Stp),v.size<=n->OSB o->v.Ap<=1048576->v.valid=true->(∀s∈p,s.fits)->p.length+n<=1073741824->
  W 223 0 [oE o,.bool o.isSome,v.enc,.list (p.map cG)]=some [SL (lv n o v p)]
 | 0,o,v,p,h,_,_,_,_,_=>by have:=v.size_pos;omega
 | n+1,o,v,p,h,y,Q,q,hp,Y=>by
  have u:=Ag1 (n+1) o v p
  have R:=v.Gb
  have recu: ∀x∈kids o v,x.2.1.valid=true->W 223 0 [oE x.2.2,.bool x.2.2.isSome,x.2.1.enc,.list ((p++ [x.1]).map cG)]=some [SL (lv n x.2.2 x.2.1 (p++ [x.1]))]:=by
   intro x z I
   obtain⟨Z,h2⟩:=J3 z
   exact Agi n x.2.2 x.2.1 (p++ [x.1]) (by omega) (Ak4 y z) (by omega) I (H4 hp (Aar y Q z)) (by simp;omega)
  rw[lv]at u ⊢
  rw[A23.g]
  simp only[Aj1 o v Q,bT,dP,Bool.not_not,aA,aU]
  by_cases c:kids o v= []
  ·simp only[c,List.isEmpty_nil,Zt,Ajg p hp (by omega),eL,dO,aA];rfl
  ·have c':(kids o v).isEmpty =false:=by simpa using c
   rw[if_neg c]at u
   simp only[c',aB,Zf,c]
   cases o with
   | none=>simp[kids]at c
   | some s=>
    obtain⟨w,S⟩:=y s rfl
    have loop2:v.k=5->kids (some s) v=v.f.map (Dq s)-> ∀ (m i:Nat) (out:List ByteArray),i+m=v.f.length->out.length+(((kids (some s) v).drop i).flatMap λx=>lv n x.2.2 x.2.1 (p++ [x.1])).length <=1048576->
      W 223 2 [.list (p.map cG),.int i,s.enc,v.enc,SL out]=some [SL (out++((kids (some s) v).drop i).flatMap λx=>lv n x.2.2 x.2.1 (p++ [x.1]))]:=by
     intro T a m
     induction m with
     | zero=>
      intro i out J _
      have:i=v.f.length:=by omega
      subst this
      have hd:(kids (some s) v).drop v.f.length= []:=aY (by rw[a,aI];exact aQ _)
      rw[A23.i,hd]
      simp only[cN,Gi,ltn,aA,aU,aB,Zf,cD,aP]
     | succ m K=>
      intro i out J A
      have b:i<v.f.length:=by omega
      have d:i<(kids (some s) v).length :=by rw[a,aI];exact b
      have hlen:=v.Bd
      have e:(kids (some s) v)[i]=Dq s v.f[i]:=by simp only[a,gI]
      have B:=recu _ (aE d) (by rw[e];exact(D3 q (aE b)).1)
      rw[aC d,aV,aO]at A
      rw[e]at B A
      have r:W 223 0 [oE (Du s v.f[i].1),.bool (Du s v.f[i].1).isSome,v.f[i].2.enc,.list ((p++ [Cd v.f[i].1]).map cG)]=some [SL (lv n (Dq s v.f[i]).2.2 (Dq s v.f[i]).2.1 (p++ [(Dq s v.f[i]).1]))]:=B
      have U:IV.agg [.int 1,.str v.f[i].1,.int 0,.str ⟨#[]⟩]=(Cd v.f[i].1).enc :=rfl
      rw[A23.i]
      simp only[cN,Gi,lti b,aA,aU,Zt,I9 aZ b,fU,Ayv s v.f[i].1 S w,eL,fI,dB,U,Sq p (Cd v.f[i].1) (show p.length<=1099511627776 by omega),bT,r]
      rw[apS _ _ (by omega)]
      simp only[aA,nxt (show i<4611686018427387904 by omega)]
      rw[K (i+1) _ (by omega) (by simp only[aO];omega),aC d,aV,bI,e]
    have loop1: ∀t,s.it= [t]->kids (some s) v=v.l.map (Cp s)->v.f= []->(∀x∈v.l,Ef x s.key=true)-> ∀ (m i:Nat) (out:List ByteArray),i+m=v.l.length->out.length+(((kids (some s) v).drop i).flatMap λx=>lv n x.2.2 x.2.1 (p++ [x.1])).length <=1048576->
      W 223 1 [.list (p.map cG),.int i,s.enc,v.enc,SL out]=some [SL (out++((kids (some s) v).drop i).flatMap λx=>lv n x.2.2 x.2.1 (p++ [x.1]))]:=by
     intro t F a X j m
     induction m with
     | zero=>
      intro i out J _
      have:i=v.l.length:=by omega
      subst this
      have hd:(kids (some s) v).drop v.l.length= []:=aY (by rw[a,aI];exact aQ _)
      have L:O.lt (.int 0) (.int 0)=some (.bool false):=rfl
      rw[A23.h,hd]
      simp only[cH,Gi,ltn,aA,aU,aB,Zf,cD,aP]
      rw[A23.i]
      simp only[cN,X,aN,eU,bH,aD,L,aA,aU,aB,Zf]
     | succ m K=>
      intro i out J A
      have b:i<v.l.length:=by omega
      have d:i<(kids (some s) v).length :=by rw[a,aI];exact b
      have hlen:=v.Bu
      have hm:=dM (aE b)
      have e:(kids (some s) v)[i]=Cp s v.l[i]:=by simp only[a,gI]
      have B:=recu _ (aE d) (by rw[e];exact Cy q (aE b))
      rw[aC d,aV,aO]at A
      rw[e]at B A
      have M:=Aq0 (i:=i) (j _ (aE b))
      have r:W 223 0 [oE s.it.head?,.bool s.it.head?.isSome,v.l[i].enc,.list ((p++ [Uc s.key v.l[i]]).map cG)]=some [SL (lv n (Cp s v.l[i]).2.2 (Cp s v.l[i]).2.1 (p++ [(Cp s v.l[i]).1]))]:=B
      rw[F]at r
      have hr'':W 223 0 [t.enc,.bool true,v.l[i].enc,.list ((p++ [Uc s.key v.l[i]]).map cG)]=some [SL (lv n (Cp s v.l[i]).2.2 (Cp s v.l[i]).2.1 (p++ [(Cp s v.l[i]).1]))]:=r
      rw[A23.h]
      simp only[cH,Gi,lti b,aA,aU,Zt,dN,F,aK,aN,eY,eD,dH,bY,aT,aW,bG,aL b,aH,
       Z1 s v.l i b (by omega),bT,M,Sq p (Uc s.key v.l[i]) (show p.length<=1099511627776 by omega),hr'']
      rw[apS _ _ (by omega)]
      simp only[aA,nxt (show i<4611686018427387904 by omega)]
      rw[K (i+1) _ (by omega) (by simp only[aO];omega),aC d,aV,bI,e]
    show W 223 1 [.list (p.map cG),.int 0,s.enc,v.enc,SL []]=_
    have g:=c
    rw[kids]at g
    by_cases G:s.k=v.k
    ·rw[if_pos G]at g
     by_cases C:v.k=5
     ·have a:kids (some s) v=v.f.map (Dq s):=by rw[kids,if_pos G,if_pos C];rfl
      have N:=Mv q (by omega)
      have L:O.lt (.int 0) (.int 0)=some (.bool false):=rfl
      have:=loop2 C a v.f.length 0 [] (by omega) (by rw[aF];simp only[bH];omega)
      rw[aF,bE]at this
      rw[A23.h]
      simp only[cH,N,aN,eU,bH,aD,L,aA,aU,aB,Zf]
      exact this
     ·rw[if_neg C]at g
      by_cases H:v.k=4/\s.key≠Am/\Dh s.key [] v.l=true
      ·have a:kids (some s) v=v.l.map (Cp s):=by rw[kids,if_pos G,if_neg C,if_pos H];rfl
       obtain⟨t,F⟩: ∃t,s.it= [t]:=aX.1 (w.list (by omega))
       have j: ∀x∈v.l,Ef x s.key=true:=λx z=>by
        have:=B9 H.2.2 x z
        unfold Ef;simp[this,H.2.1]
       have:=loop1 t F a (Na q C) j v.l.length 0 [] (by omega) (by rw[aF];simp only[bH];omega)
       rw[aF,bE]at this
       exact this
      ·rw[if_neg H]at g;exact absurd rfl g
    ·rw[if_neg G]at g;exact absurd rfl g
theorem A2r (s:Sch)(v:Val)(a:s.Ap<=1048576)(b:v.Ap<=1048576):W 222 0 [s.enc,v.enc]=some [.bool (s.valid&&v.valid)]:=by
 rw[A23.f]
 simp only[Qq s a,T0 v (by omega),bT,aU,Aw,Al,aA]
 cases s.valid<;>cases v.valid<;>rfl
theorem Aw0 (s:Sch)(v:Val)(d:s.Ap<=1048576)(e:v.Ap<=1048576):W 221 0 [s.enc,v.enc]=some [SL (Hk s v)]:=by
 rw[A23.e]
 simp only[A2r s v d e,bT,dP,aA,aU]
 unfold Hk
 cases c:s.valid&&v.valid with
 | false=>simp only[bP,Zt,aB,Zf];rfl
 | true=>
  have g:s.valid=true/\v.valid=true:=by simpa using c
  have h:=v.Gb
  have o:=Ag1 v.size (some s) v []
  have i:=Agi v.size (some s) v [] (aQ _) (λt j=>by cases j;exact⟨dS g.1,d⟩) e g.2 (by simp) (by simp;omega)
  have b:W 223 0 [s.enc,.bool true,v.enc,.list []]=some [SL (lv v.size (some s) v [])]:=i
  have m:=A6p (lv v.size (some s) v []) [] (by simp only[bH];omega)
  have a:W 227 0 [SL (lv v.size (some s) v []),.list []]=some [SL (W2 (lv v.size (some s) v []++ []))]:=m
  rw[aP]at a
  simp only[bB,aB,Zf,Zt,b,bT,a]
end Go.CT.Sch
namespace Go.CT.Sch
open Go.Proofs
theorem Ajn (v:Val)(a:v.Ap<=1099511627776)(n:Int)(c:0<=n)(d:n<=1000): ∃b,W 3 0 [v.enc,.int n]=some [.bool b]:=by
 obtain⟨r,h,_⟩:=Av1 v a n n (by omega) (by omega) (by omega)
 exact⟨decide (0<=r),by rw[A0.l];simp[h]⟩
theorem Rk (s:Sch)(v:Val):(Hk s v).length <=v.size:=by
 unfold Hk
 split
 ·exact cP (Od _) (Ag1 _ _ _ _)
 ·simp
end Go.CT.Sch
namespace Go.CT.Sch
open Go.Proofs
theorem Lk (p:ByteArray × Val)(nm:ByteArray):W 197 0 [aZ p,.str nm]=some [.bool (decide (p.1=nm))]:=by
 rw[A19.k];simp
theorem Ah2 (l:List (ByteArray × Val))(nm:ByteArray)(d:l.length<=1099511627776): ∀ (n i:Nat),i+n=l.length->(∀p∈l.take i,¬ p.1=nm)->
  (W 196 1 [.list (l.map aZ),.str nm,.int l.length,.int i]=some [.int (-1)]/\ ∀p∈l,¬ p.1=nm)\/
  ∃j,∃h:j<l.length,W 196 1 [.list (l.map aZ),.str nm,.int l.length,.int i]=some [.int (j:Nat)]/\l[j].1 =nm/\ ∀p∈l.take j,¬ p.1=nm
 | 0,i,h,hp=>by
  left
  rw[A19.j]
  have e: ¬ i<l.length:=by omega
  rw[List.take_of_length_le (by omega)]at hp
  refine⟨?_,hp⟩
  simp only[dZ,Ao,e,Ze,aA,aU,aB,Zf]
 | n+1,i,h,hp=>by
  have a:i<l.length:=by omega
  have g:=Be (i:=i) (by omega)
  rw[A19.j]
  by_cases c:l[i].1 =nm
  ·right
   refine⟨i,a,?_,c,hp⟩
   simp only[dZ,Ao,a,Zd,aA,aU,Zt,eY,aT,aW,bG,aL a,aH,Lk,bT,c]
  ·have:=Ah2 l nm d n (i+1) (by omega) (by
    intro p b
    rw[<-Wu l a]at b
    rcases bW.1 b with h | h
    ·exact hp p h
    ·simp at h;subst h;exact c)
   simp only[dZ,Ao,a,Zd,aA,aU,Zt,eY,aT,aW,bG,aL a,aH,Lk,bT,c,Ze,aB,Zf,fJ,g]
   exact this
theorem Qh (nm:ByteArray): ∀ (rest kept junk:List (ByteArray × Val)),junk≠ []->kept.length+junk.length+rest.length<=1099511627776->
  W 195 1 [.str nm,.int kept.length,.int (kept.length+junk.length:Nat),eM aZ (kept++(junk++rest))]=some [eM aZ (kept++rest.filter (Iy nm))]
 | [],kept,junk,d,e=>by
  have r:=fO.2 d
  rw[A19.g,fN]
  have b: ¬ ((kept.length+junk.length:Nat):Int)<(kept++(junk++ [])).length :=by simp
  have o: ∀z:IV,O.clear z (eM aZ (kept++(junk++ []))) (.int kept.length) (.int (kept++(junk++ [])).length)=some (.list (kept.map aZ++List.replicate junk.length z)):=by
   intro z
   unfold O.clear eM
   simp only[fM,aP,aI,aO,aT,true_and,aW,aQ,and_true]
   rw[if_pos (by omega)]
   simp
  have t: ∀ys:List IV,O.slice (.list (kept.map aZ++ys)) (.int 0) (.int kept.length)=some (eM aZ kept):=by
   intro ys
   rw[O.Ql,if_pos (by simp only[aO,aI];omega)]
   simp[eM]
  have a: ∃y,O.slice (eM aZ (kept++(junk++ []))) (.int kept.length) (.int (kept++(junk++ [])).length)=some y:=by
   unfold eM
   rw[O.Ql,if_pos (by simp only[aO,aI];omega)]
   exact⟨_,rfl⟩
  obtain⟨y,a⟩:=a
  simp only[aP]at b o a
  simp only[aP,aA,dZ,b,Ze,aU,aB,Zf,a,o,t,cC,aP]
 | v::rest,kept,[],d,e=>absurd rfl d
 | v::rest,kept,y::js,d,e=>by
  simp only[cK]at e
  rw[A19.g,fN]
  have b:((kept.length+(y::js).length :Nat):Int)<(kept++(y::js++v::rest)).length :=by simp;omega
  have q:IntKind.i64.wrap (((kept.length+(y::js).length :Nat):Int)+1)=((kept.length+(y::js).length +1:Nat):Int):=by simp only[cK];rw[wrap64 (by omega) (by omega)];omega
  have g:IntKind.i64.wrap ((kept.length:Int)+1)=((kept.length+1:Nat):Int):=Be (by omega)
  have gv:=gB aZ (Srt.Di (l:=kept++(y::js++v::rest)) (A:=kept++y::js) (x:=v) (B:=rest) (by simp) (i:=kept.length+(y::js).length) (by simp))
  have gi:=gB aZ (Srt.Di (l:=kept++(y::js++v::rest)) (A:=kept) (x:=y) (B:=js++v::rest) (by simp) (i:=kept.length) rfl)
  have st:=Srt.Jq (l:=kept++(y::js++v::rest)) (A:=kept) (x:=y) (y:=v) (B:=js++v::rest) (by simp) (i:=kept.length) rfl
  have h:kept.length<(kept++(y::js++v::rest)).length :=by simp
  rw[bA]
  by_cases c:v.1=nm
  ·have j:=Qh nm rest kept (y::js++ [v]) (by simp) (by simp;omega)
   have m:Iy nm v=false:=by simp[Iy,c]
   simp only[aA,dZ,b,Zd,aU,Zt,gv,Lk,bT,c,dP,bB,aB,Zf,A19.h,fJ,q,m]
   rw[show kept.length+(y::js).length +1=kept.length+(y::js++ [v]).length by simp;omega]
   rw[<-j];simp
  ·have j:=Qh nm rest (kept++ [v]) (js++ [v]) (by simp) (by simp;omega)
   have m:Iy nm v=true:=by simp[Iy,c]
   simp only[aA,dZ,b,Zd,aU,Zt,gv,Lk,bT,c,Ze,dP,bP,gi,iJ aZ h,st,fJ,g,A19.h,q,m]
   rw[show kept.length+(y::js).length +1=(kept++ [v]).length +(js++ [v]).length by simp;omega,show kept.length+1=(kept++ [v]).length by simp]
   rw[show kept++v::(js++v::rest)=kept++ [v]++(js++ [v]++rest) by simp,j]
   simp
theorem Arf (l:List (ByteArray × Val))(nm:ByteArray)(h:l.length<=1099511627776):
  W 195 0 [.list (l.map aZ),.str nm]=some [.list ((l.filter (Iy nm)).map aZ)]:=by
 rw[A19.f,A19.i]
 have key:=Ah2 l nm h l.length 0 (by omega) (by simp)
 simp only[aD]at key
 rcases key with⟨a,b⟩ | ⟨j,i,a,b,m⟩
 ·simp only[eU,aI,aA,a,bT,bU,Zd,aU,Zt]
  congr 3
  rw[eK.2 (λp hp=>by simp[Iy,b p hp])]
 ·have c: ¬ (j:Int)= -1:=by omega
  have d:IntKind.i64.wrap ((j:Int)+1)=((j+1:Nat):Int):=Be (by omega)
  simp only[eU,aI,aA,a,bT,bU,c,Ze,aU,aB,Zf,fJ,d]
  have g:l=l.take j++([l[j]]++l.drop (j+1)):=by
   rw[bC,<-aC i,List.take_append_drop]
  have e:(l.take j).length =j:=by rw[eW];omega
  have o:(l.drop (j+1)).length =l.length - (j+1):=by rw[List.length_drop]
  have hd:=Qh nm (l.drop (j+1)) (l.take j) [l[j]] (by simp) (by simp only[bL];omega)
  rw[e,bL,<-g]at hd
  rw[show IV.list (l.map aZ)=eM aZ l from rfl,hd]
  have q:l.filter (Iy nm)=l.take j++(l.drop (j+1)).filter (Iy nm):=by
   conv=>lhs;rw[g]
   rw[eN,eN,eK.2 (λp hp=>by simp[Iy,m p hp])]
   congr 1
   simp[Iy,b]
  rw[q];rfl
theorem Ale (v:Val)(nm:ByteArray)(a:Hd 1073741824 v):W 194 0 [v.enc,.str nm]=some [.list ((Ei v nm).map aZ)]:=by
 rw[A19.e]
 unfold Ei
 have d:=a.Pp
 have b:(v.f.map aZ).length <=1073741824:=by rw[aI];omega
 have hd:=Arf v.f nm (by omega)
 by_cases c:v.k=5
 ·simp only[cT,cN,aA,fG,c,Zd,bB,aU,aB,Zf,A63,D2 b,bT,hd,Zt]
  rfl
 ·simp[c]
theorem Ajo (v:Val)(nm:ByteArray)(x:Val)(b:Hd 1073741823 v)(e:Hd 1073741823 x):W 193 0 [v.enc,.str nm,x.enc]=some (Df v nm x).Gg :=by
 have c:=Yu b nm
 have g:=c.1
 have d:=Adu (Ei v nm++ [(nm,x)]) ⟨by simp;omega,λp hp=>by
  rcases bW.1 hp with h | h
  ·exact(c.2 p h).mono (by omega)
  ·simp at h;subst h;exact e.mono (by omega)⟩
 have a:((Ei v nm).length +1) * 96<=Bc:=Tt (by omega) (by omega)
 simp only[cM,aK,aN]at d
 rw[A19.d]
 simp only[Ale v nm (b.mono (by omega)),bT,cT,eZ,fA,cH,cN,aA,dB,gY,dO,iN,aI,bL,a,Zt,d,dC,gC]
 rfl
end Go.CT.Sch
namespace Go.CT.Sch
open Go.Proofs
theorem Kn (r:Kid->Val × Bool)(x:Kid)(l:List Kid):G5 r (x::l)=if(r x).2 then(x.1,(r x).1)::G5 r l else G5 r l:=by
 unfold G5
 grind
theorem Ajy (r:Kid->Val × Bool)(l:List Kid):(G5 r l).length <=l.length:=List.length_filterMap_le _ _
theorem Tb {r:Kid->Val × Bool}{l:List Kid}{y:Stp × Val}(h:y∈G5 r l): ∃x∈l,(r x).2 =true/\y=(x.1,(r x).1):=by
 unfold G5 at h
 grind
theorem Awi {o:Option Sch}{v:Val}{x:Kid}(h:x∈kids o v):(v.k=5/\x.1.k=1)\/(v.k=4/\x.1.k=3):=by
 cases o with
 | none=>simp[kids]at h
 | some s=>
  rw[kids]at h
  split at h
  ·split at h
   ·obtain⟨p,hp,rfl⟩:=aS.1 h
    exact .inl ⟨by assumption,rfl⟩
   ·split at h
    ·obtain⟨p,hp,rfl⟩:=aS.1 h
     exact .inr ⟨by omega,rfl⟩
    ·simp at h
  ·simp at h
theorem Afe (o:Option Sch)(v:Val):(kids o v).length <=if v.k=5 then v.f.length else v.l.length:=by
 cases o with
 | none=>simp[kids]
 | some s=>
  rw[kids]
  grind
theorem Jk (d:Nat)(o:Option Sch)(v:Val)(p:List Stp)(ch:ByteArray->Bool):pt (d+1) o v p ch=if kids o v= []then(v,ch (Ck p)) else
 (⟨
   v.k,0,Am,if v.k=5 then[]else Gh (G5 (λx=>pt d x.2.2 x.2.1 (p++ [x.1]) ch) (kids o v)),
   if v.k=5 then fieldsOf (G5 (λx=>pt d x.2.2 x.2.1 (p++ [x.1]) ch) (kids o v)) else[]⟩,
  !(G5 (λx=>pt d x.2.2 x.2.1 (p++ [x.1]) ch) (kids o v)).isEmpty):=by rw[pt]
theorem Ayy: ∀ (n:Nat) (o:Option Sch) (v:Val) (p:List Stp) (ch:ByteArray->Bool),(pt n o v p ch).1.f.length <=v.f.length
 | 0,_,_,_,_=>aQ _
 | n+1,o,v,p,ch=>by
  rw[Jk]
  split
  ·grind
  ·simp only[cR]
   split
   ·rename_i c
    have b:=Ajy (λx=>pt n x.2.2 x.2.1 (p++ [x.1]) ch) (kids o v)
    have a:=Afe o v
    rw[if_pos c]at a
    simp only[fieldsOf,aI];omega
   ·simp
theorem Ahn (s:ByteArray)(N:Nat):Hd N (Qg s):=by
 constructor<;>simp[Qg]
theorem Xz (v:Val)(nm:ByteArray):(Ei v nm).length <=v.f.length:=by
 unfold Ei;grind
theorem Ab6 {N:Nat}{v x:Val}(nm:ByteArray)(h:Hd (N+1) v)(c:Hd (N+1) x)(d:v.f.length<=N):Hd (N+1) (Df v nm x):=by
 have b:=Yu h nm
 have e:=Xz v nm
 have a:=Ah4 (N:=N+1) (l:=Ei v nm++ [(nm,x)]) ⟨by simp;omega,λp hp=>by
  rcases bW.1 hp with h | h
  ·exact b.2 p h
  grind⟩
 constructor
 ·simp[Df]
 ·exact a.1
 ·simp[Df]
 ·exact a.2
theorem Ahj {N:Nat}{o:Option Sch}{v:Val}(h:Hd N v){x:Kid}(a:x∈kids o v):Hd N x.2.1:=by
 cases o with
 | none=>simp[kids]at a
 | some s=>
  rw[kids]at a
  split at a
  ·split at a
   ·obtain⟨p,hp,rfl⟩:=aS.1 a;exact h.J7 hp
   ·split at a
    ·obtain⟨p,hp,rfl⟩:=aS.1 a;exact h.Kk hp
    grind
  grind
theorem Aei {N:Nat} : ∀ (n:Nat) (o:Option Sch) (v:Val) (p:List Stp) (ch:ByteArray->Bool),Hd N v->Hd (N+1) (pt n o v p ch).1
 | 0,_,v,_,_,h=>h.mono (by omega)
 | n+1,o,v,p,ch,h=>by
  rw[Jk]
  split
  ·exact h.mono (by omega)
  ·have i:=Ajy (λx=>pt n x.2.2 x.2.1 (p++ [x.1]) ch) (kids o v)
   have e:=Afe o v
   have j:=h.We
   have m:=h.Pp
   constructor
   ·simp only[cW]
    split
    ·simp
    ·rename_i c;rw[if_neg c]at e;simp only[Gh,aI];omega
   ·simp only[cR]
    split
    ·rename_i c;rw[if_pos c]at e;simp only[fieldsOf,aI];omega
    ·simp
   ·simp only[cW]
    split
    ·simp
    ·intro x a
     obtain⟨y,b,rfl⟩:=aS.1 a
     obtain⟨z,d,_,rfl⟩:=Tb b
     have:=Ayy n z.2.2 z.2.1 (p++ [z.1]) ch
     have g:=Ahj h d
     have:=g.Pp
     exact Ab6 _ (Aei n _ _ _ _ g) (Ahn _ _) (by grind)
   ·simp only[cR]
    split
    ·intro x a
     obtain⟨y,b,rfl⟩:=aS.1 a
     obtain⟨z,d,_,rfl⟩:=Tb b
     exact Aei n _ _ _ _ (Ahj h d)
    ·simp
def chB (ks:List ByteArray)(is:Bool):ByteArray->Bool:=λt=>inB ks t == is
theorem At4 (t:ByteArray)(ks:List ByteArray)(is:Bool):W 192 0 [.str t,.list (O6 ks),.bool is]=some [.bool (chB ks is t),.list (O6 ks),.bool is]:=by
 obtain⟨b,a⟩:=A5o ks t
 rw[A19.c]
 simp only[A6f,a,aA,O.Ay7];rfl
theorem Avh: ∀ (n:Nat) (x:Kid) (p:List Stp) (ks:List ByteArray) (is:Bool),x.2.1.size<=n->OSB x.2.2->x.2.1.Ap<=1048576->(∀s∈p,s.fits)->p.length+n<=1073741824->
  W 191 0 [Hm x,.list (p.map cG),.list (O6 ks),.bool is]=some [(pt n x.2.2 x.2.1 p (chB ks is)).1.enc,.bool (pt n x.2.2 x.2.1 p (chB ks is)).2,.list (O6 ks),.bool is]
 | 0,x,p,ks,is,h,_,_,_,_=>by have:=x.2.1.size_pos;omega
 | n+1,x,p,ks,is,h,b,q,hp,X=>by
  obtain⟨st,v,o⟩:=x
  simp only at h b q ⊢
  have y:=Afe o v
  have z:=v.Bd
  have A:=v.Bu
  have B:(kids o v).length <=1048576:=by grind
  have loop: ∀ (m i:Nat) (L:List Val) (F:List (ByteArray × Val)),i+m=(kids o v).length ->L.length+F.length<=i->
    W 191 1 [.list (p.map cG),.int (kids o v).length,.int i,.bool is,.int 0,.int 0,.str ⟨#[]⟩,.int v.k,.int 0,.str ⟨#[]⟩,.list ((kids o v).map Hm),.list (O6 ks),.list (L.map bJ),.list (F.map aZ)]=
    some [(Val.mk v.k 0 Am (L++(if v.k=5 then[]else Gh (G5 (λx=>pt n x.2.2 x.2.1 (p++ [x.1]) (chB ks is)) ((kids o v).drop i)))) (F++(if v.k=5 then fieldsOf (G5 (λx=>pt n x.2.2 x.2.1 (p++ [x.1]) (chB ks is)) ((kids o v).drop i)) else[]))).enc,
     .bool (decide (0<L.length+F.length+(G5 (λx=>pt n x.2.2 x.2.1 (p++ [x.1]) (chB ks is)) ((kids o v).drop i)).length)),.list (O6 ks),.bool is]:=by
   intro m
   induction m with
   | zero=>
    intro i L F C G
    have:i=(kids o v).length :=by omega
    subst this
    have H:IntKind.i64.wrap ((F.length:Int)+(L.length:Int))=(F.length:Int)+(L.length:Int):=wrap64 (by omega) (by omega)
    rw[A19.a,aM]
    simp only[ltn,aA,aU,aB,Zf,Gi,fJ,H,gX,dB]
    have e1:G5 (λx=>pt n x.2.2 x.2.1 (p++ [x.1]) (chB ks is)) []= []:=rfl
    have I:(if v.k=5 then([]:List Val) else Gh [])= []:=by split<;>rfl
    have J:(if v.k=5 then fieldsOf []else([]:List (ByteArray × Val)))= []:=by split<;>rfl
    rw[e1,I,J,aP,aP,Val.E0,dC]
    have K:decide ((0:Int)<(F.length:Int)+(L.length:Int))=decide (0<L.length+F.length+([]:List (Stp × Val)).length):=by
     grind
    rw[K];rfl
   | succ m u=>
    intro i L F C G
    have e:i<(kids o v).length :=by omega
    have j:=aE e
    obtain⟨M,Q⟩:=J3 j
    have R:=Avh n (kids o v)[i] (p++ [(kids o v)[i].1]) ks is (by omega) (Ak4 b j) (by omega) (H4 hp (Aar b q j)) (by simp;omega)
    have S:=Awi j
    have g: ∀d,G5 (λx=>pt n x.2.2 x.2.1 (p++ [x.1]) (chB ks is)) ((kids o v)[i]::d)=if(pt n (kids o v)[i].2.2 (kids o v)[i].2.1 (p++ [(kids o v)[i].1]) (chB ks is)).2 then((kids o v)[i].1,(pt n (kids o v)[i].2.2 (kids o v)[i].2.1 (p++ [(kids o v)[i].1]) (chB ks is)).1)::G5 (λx=>pt n x.2.2 x.2.1 (p++ [x.1]) (chB ks is)) d else G5 (λx=>pt n x.2.2 x.2.1 (p++ [x.1]) (chB ks is)) d:=λd=>Kn _ _ _
    rw[A19.a,aC e,g]
    simp only[lti e,aA,aU,Zt,I9 Hm e,Anh,Aph p _ (show p.length<=1073741824 by omega),bT,R,O.Um,dP]
    cases c:(pt n (kids o v)[i].2.2 (kids o v)[i].2.1 (p++ [(kids o v)[i].1]) (chB ks is)).2 with
    | false=>
     simp only[bP,Zt,A19.b,nxt (show i<4611686018427387904 by omega),aA,aB,Zf]
     grind
    | true=>
     simp only[bB,aB,Zf,kid0,aA,bU,aU,Zt]
     rcases S with⟨T,k1⟩ | ⟨Y,Z⟩
     ·have r:=apm aZ (n:=96) F ((kids o v)[i].1.nm,(pt n (kids o v)[i].2.2 (kids o v)[i].2.1 (p++ [(kids o v)[i].1]) (chB ks is)).1) (by omega)
      have ih':=u (i+1) L (F++ [((kids o v)[i].1.nm,(pt n (kids o v)[i].2.2 (kids o v)[i].2.1 (p++ [(kids o v)[i].1]) (chB ks is)).1)]) (by omega) (by simp;omega)
      simp only[k1,Zd,Zt,kid1,cT,eZ,fA,cH,cN,aA,dB,gY,dO,r,A19.b,nxt (show i<4611686018427387904 by omega),ih']
      simp only[T,Zt,fieldsOf,aK,bI,bC,aO,cK,bH]
      grind
     ·have U: ¬ v.k=5:=by omega
      have t:=Aei (N:=1048576) n (kids o v)[i].2.2 (kids o v)[i].2.1 (p++ [(kids o v)[i].1]) (chB ks is) (Dd _ (by omega))
      have a:=Ajo (pt n (kids o v)[i].2.2 (kids o v)[i].2.1 (p++ [(kids o v)[i].1]) (chB ks is)).1 (kids o v)[i].1.nm (Qg (kids o v)[i].1.vl) (t.mono (by omega)) (Ahn _ _)
      have r:=apm bJ (n:=80) L (Df (pt n (kids o v)[i].2.2 (kids o v)[i].2.1 (p++ [(kids o v)[i].1]) (chB ks is)).1 (kids o v)[i].1.nm (Qg (kids o v)[i].1.vl)) (by omega)
      have ih':=u (i+1) (L++ [Df (pt n (kids o v)[i].2.2 (kids o v)[i].2.1 (p++ [(kids o v)[i].1]) (chB ks is)).1 (kids o v)[i].1.nm (Qg (kids o v)[i].1.vl)]) F (by omega) (by simp;omega)
      have w:W 56 0 [.str (kids o v)[i].1.vl]=some (Qg (kids o v)[i].1.vl).Gg :=by rw[A6.p];rfl
      have k1:decide ((kids o v)[i].1.k =1)=false:=by simp;omega
      rw[dC]at w a
      simp only[k1,aB,Zf,kid1,kid3,aA,w,gC,dB,eV,a,dO,r,A19.b,nxt (show i<4611686018427387904 by omega),ih']
      simp only[U,Zf,Gh,aK,bI,bC,aO,cK,bH]
      grind
  rw[A18.p,Jk]
  simp only[Aan (st,v,o) b q,bT,Gi,aA,bU,aU]
  by_cases c:kids o v= []
  ·simp only[c,Zt,bH,aD,Zd,Afk p hp (by omega),eL,Awf,aA,At4,O.Ks]
  ·have c': ¬ ((kids o v).length :Int)=0:=by
    simp_all
   have:=loop (kids o v).length 0 [] [] (by omega) (by simp)
   rw[aF]at this
   simp only[c',Ze,aB,Zf,kid4,aA,c]
   refine this.trans ?_
   simp only[bE,bH,gD]
   congr 3
   rw[IV.bool.injEq]
   cases G5 (λx=>pt n x.2.2 x.2.1 (p++ [x.1]) (chB ks is)) (kids o v)<;>simp
end Go.CT.Sch
namespace Go.CT.Sch
open Go.Proofs
theorem Ar5 {y:Val}(h:y.valid=true)(a:y.k=3):y=Qg y.s:=by
 have b:=Mv h (by omega)
 have c:=Na h (by omega)
 have d:y.n=0:=by
  rw[Ew]at h
  have:=((Dc 11 y).1 h.1).1
  unfold Ge at this
  grind
 obtain⟨k,n,s,l,f⟩:=y
 simp only[gP,cW,cR,gZ,eC]at a b c d ⊢
 subst a b c d;rfl
theorem A2b {x:Val}{key:ByteArray}(c:x.valid=true)(a:isKey x key=true):(x.get key).getD Au=Qg (Cw x key):=by
 unfold isKey at a
 simp only[aJ,decide_eq_true_eq]at a
 obtain⟨y,b⟩:=aR.1 a.1
 unfold Cw
 rw[b]at a ⊢
 exact Ar5 (Aws c b) a.2
end Go.CT.Sch
namespace Go.CT.Sch
open Go.Proofs
def Ld (s:Sch)(v:Val)(set:List ByteArray)(is:Bool):Val:=
 if s.valid&&v.valid then(if(pt v.size (some s) v [] (chB set is)).2 then(pt v.size (some s) v [] (chB set is)).1 else if v.k=5\/v.k=4 then⟨v.k,0,Am,[],[]⟩else Au) else v
theorem Aow (w:Val)(d:Hd 1048577 w):(O.Ou [w.enc]).bind (λe=>calls (W 130 0 [e]) 5 λ_ _ _ a _=>(hJ a (.int 0)).bind λb=>some [b])=some [w.enc]:=by
 have h:=M8 [w] (by simp) (λx c=>by simp at c;subst c;exact d.mono (by omega))
 simp only[aK,aN]at h
 rw[dC]at h
 simp only[dO,aA,h,gC,cW,aK,aN]
 rfl
theorem Ayj (set:List ByteArray)(is:Bool):chB (O3 [] set) is=chB set is:=by
 funext t
 have:inB (O3 [] set) t=inB set t:=by
  rw[Bool.eq_iff_iff,Hg,Hg,Z6];simp
 unfold chB;rw[this]
theorem Ac7 (s:Sch)(v:Val)(set:List ByteArray)(is:Bool)(m:s.Ap<=1048576)(o:v.Ap<=1048576)(c:set.length<=1048576)(b:s.valid=true)(d:v.valid=true): ∀ (n i:Nat) (acc:List ByteArray),i+n=set.length->O3 acc (set.drop i)=O3 [] set->
  W 190 1 [SL set,.int set.length,.int i,s.enc,v.enc,.bool is,.int 0,.int 0,.str ⟨#[]⟩,.list (O6 acc)]=some [(Ld s v set is).enc]
 | 0,i,acc,h,e=>by
  have:i=set.length:=by omega
  subst this
  rw[aM,O3]at e
  subst e
  have u:IV.agg [.int 0,.str ⟨#[]⟩,.int 0,.str ⟨#[]⟩,.int v.k,.int v.n,.str v.s,.list (v.l.map bJ),.list (v.f.map aZ),.int s.k,.int s.mn,.int s.mx,.list (s.en.map .str),.str s.key,.list (s.it.map cV),.list (s.f.map bQ),.bool true]=Hm (⟨0,Am,0,Am⟩,v,some s):=rfl
  have hp:=Avh v.size (⟨0,Am,0,Am⟩,v,some s) [] (O3 [] set) is (aQ _) (λt w=>by cases w;exact⟨dS b,m⟩) o (by simp) (by have:=v.Gb;simp;omega)
  have g:W 191 0 [Hm (⟨0,Am,0,Am⟩,v,some s),.list [],.list (O6 (O3 [] set)),.bool is]=some [(pt v.size (some s) v [] (chB set is)).1.enc,.bool (pt v.size (some s) v [] (chB set is)).2,.list (O6 (O3 [] set)),.bool is]:=by rw[<-Ayj];exact hp
  have x:=Aow (pt v.size (some s) v [] (chB set is)).1 (Aei _ _ _ _ _ (Dd _ (by omega)))
  have a:W 198 0 []=some Au.Gg:=by rw[A19.l];rfl
  rw[dC]at a
  rw[A18.o]
  simp only[ltn,aA,aU,aB,Zf,cT,eZ,fA,cH,cN,dQ,iD,iE,iF,eA,dN,eT,dB,u,g,O.Um,x,bU,Aw,Al,a,gC]
  unfold Ld
  simp only[b,d,cX,Zt]
  cases(pt v.size (some s) v [] (chB set is)).2 with
  | true=>rfl
  | false=>
   by_cases q:v.k=5
   ·simp only[q,Zd,Zt,true_or,aB,Zf];rfl
   ·by_cases r:v.k=4
    ·simp only[r];rfl
    ·simp only[r,q,Ze,aB,Zf,or_self,Aw];rfl
 | n+1,i,acc,h,e=>by
  have j:i<set.length:=by omega
  have y:=gB IV.str (aL j)
  have z:=Ac7 s v set is m o c b d n (i+1) (if inB acc set[i]then acc else acc++ [set[i]]) (by omega) (by rw[<-e,aC j,O3])
  rw[A18.o]
  simp only[lti j,aA,aU,Zt,y,A5i,nxt (show i<4611686018427387904 by omega),z]
theorem Aze (s:Sch)(v:Val)(set:List ByteArray)(is:Bool)(b:s.Ap<=1048576)(d:v.Ap<=1048576)(a:set.length<=1048576):W 190 0 [s.enc,v.enc,SL set,.bool is]=some [(Ld s v set is).enc]:=by
 rw[A18.n]
 simp only[Aoi s v b d,bT,dP,aA,aU]
 cases c:s.valid&&v.valid with
 | false=>
  have g:Ld s v set is=v:=by unfold Ld;rw[c];rfl
  simp only[bP,Zt,Aow v ((Dd (N:=1048576) v (by omega)).mono (by omega)),g]
 | true=>
  have e:s.valid=true/\v.valid=true:=by simpa using c
  have:=Ac7 s v set is b d a e.1 e.2 set.length 0 [] (by omega) (by rw[aF])
  simp only[bB,aB,Zf,fN,aA]
  exact this
end Go.CT.Sch
namespace Go.CT.Sch
open Go.Proofs
inductive Yl:List (ByteArray × Val)->List (ByteArray × Val)->Prop where
 | nil:Yl [] []
 | skip {a b q} :Yl a b->Yl a (q::b)
 | keep {a b} {p q:ByteArray × Val} :p.1=q.1->p.2.Ap<=q.2.Ap->Yl a b->Yl (p::a) (q::b)
theorem Yl.refl: ∀l,Yl l l
 | []=> .nil
 | _::l=> .keep rfl (aQ _) (Yl.refl l)
theorem Yl.A5k {a b:List (ByteArray × Val)}(h:Yl a b):Cn a<=Cn b:=by
 induction h with
 | nil=>exact aQ _
 | skip _ c=>rw[B7];omega
 | keep d e _ c=>rw[B7,B7,d];omega
theorem Yl.names {a b:List (ByteArray × Val)}(h:Yl a b): ∀p∈a,∃q∈b,q.1=p.1:=by
 induction h with
 | nil=>simp
 | skip _ c=>intro p hp;obtain⟨q,d,e⟩:=c p hp;exact⟨q,bV _ d,e⟩
 | keep d _ _ c=>
  intro p hp
  rcases bD.1 hp with rfl | hp
  ·exact⟨_,cB,d.symm⟩
  ·obtain⟨q,g,i⟩:=c p hp;exact⟨q,bV _ g,i⟩
theorem Yl.strict {a b:List (ByteArray × Val)}(h:Yl a b):Ch b->Ch a:=by
 induction h with
 | nil=>exact id
 | skip _ d=>intro g;exact d (bO.1 g).2
 | keep m _ c d=>
  intro g
  obtain⟨i,j⟩:=bO.1 g
  refine bO.2 ⟨λy o=>?_,d j⟩
  obtain⟨z,q,e⟩:=c.names y o
  rw[m,<-e];exact i z q
theorem Yl.filter {a b:List (ByteArray × Val)}(nm:ByteArray)(h:Yl a b):Yl (a.filter λp=> !decide (p.1=nm)) (b.filter λp=> !decide (p.1=nm)):=by
 induction h with
 | nil=>exact .nil
 | @skip a b q _ c=>
  rw[bA]
  split
  ·exact .skip c
  ·exact c
 | @keep a b p q d e _ c=>
  rw[bA,bA,d]
  split
  ·exact .keep d e c
  ·exact c
theorem K7 {key:ByteArray}{w:Val} : ∀ {l:List (ByteArray × Val)},(key,w)∈l->Cn (l.filter λp=> !decide (p.1=key))+(1+key.size+w.Ap)<=Cn l
 | [],h=>by simp at h
 | q::l,h=>by
  rw[bA,B7]
  rcases bD.1 h with rfl | h
  ·have:=Kl (λp=> !decide (p.1=key)) l
   simp only[Zd,bB,aB,Zf];omega
  ·have a:=K7 h
   split
   ·rw[B7];omega
   ·omega
theorem Asv {u x:Val}{key:ByteArray}{sv:Val}(a:u.k=5)(i:x.k=5)(b:Yl u.f x.f)(c:(key,sv)∈x.f):(Df u key sv).Ap <=x.Ap:=by
 have j:Cn (Df u key sv).f <=Cn (Ei u key)+(1+key.size+sv.Ap):=by
  have h:Cn (Df u key sv).f <=Cn (Ei u key++ [(key,sv)]):=R1 _
  rw[It,B7,Cq]at h
  exact h
 have m:Cn (Ei u key)<=Cn (x.f.filter λp=> !decide (p.1=key)):=by
  unfold Ei;rw[if_pos a];exact(b.filter key).A5k
 have o:=K7 c
 have q:=x.Bv
 have d:=(Df u key sv).Bv
 have e:(Df u key sv).s =Am:=rfl
 have g:(Df u key sv).l = []:=rfl
 rw[e,g,Er,show Am.size=0 from rfl]at d
 omega
theorem Auz (nm:ByteArray)(l:List (ByteArray × Val))(p:ByteArray × Val):look nm (l++ [p])=if p.1=nm then some p else look nm l:=by
 unfold look
 rw[eN]
 by_cases c:p.1=nm
 ·simp[isName,c]
 ·simp[isName,c]
theorem Lj {u:Val}{key:ByteArray}{sv:Val}(g:u.k=5)(j:Ch u.f)(p:ByteArray × Val):p∈(Df u key sv).f ↔(p.1≠key/\p∈u.f)\/p=(key,sv):=by
 have a:Ch (Df u key sv).f :=Ky _
 have b:Ch (Ei u key):=by unfold Ei;rw[if_pos g];exact eE _ j
 rw[Mr a]
 have e:look p.1 (Df u key sv).f =if key=p.1 then some (key,sv) else look p.1 (Ei u key):=by
  show look p.1 (Aau (Ei u key++ [(key,sv)]))=_
  rw[Ty,Auz]
 rw[e]
 by_cases c:key=p.1
 ·rw[if_pos c]
  constructor
  ·intro h;exact .inr (dE h).symm
  ·rintro (⟨h,_⟩ | h)
   ·exact absurd c.symm h
   ·rw[h]
 ·rw[if_neg c,<-Mr b]
  unfold Ei
  rw[if_pos g,bX]
  constructor
  ·rintro⟨d,i⟩;exact .inl ⟨λe=>c e.symm,d⟩
  ·rintro (⟨d,i⟩ | h)
   ·exact⟨i,by simp[d]⟩
   ·rw[h]at c;exact absurd rfl c
theorem O4 {v w:Val}{nm:ByteArray}(a:v.k=5)(b:Ch v.f):v.get nm=some w↔(nm,w)∈v.f:=by
 constructor
 ·exact λh=>(Co h).1
 ·intro h
  have:=Nq b h
  unfold gQ
  rw[if_pos a,this];rfl
theorem E6 (u:Val)(key:ByteArray)(sv:Val):Ch (Df u key sv).f :=Ky _
theorem Lr (u:Val){key:ByteArray}{sv:Val}(a:u.k=5)(b:Ch u.f):(Df u key sv).get key=some sv:=
 (O4 rfl (E6 u key sv)).2 ((Lj a b _).2 (.inr rfl))
theorem Amt (u:Val){key nm:ByteArray}{sv w:Val}(a:u.k=5)(b:Ch u.f)(c:nm≠key)(h:u.get nm=some w):(Df u key sv).get nm=some w:=
 (O4 rfl (E6 u key sv)).2 ((Lj a b _).2 (.inl ⟨c,((O4 a b).1 h)⟩))
theorem Ahd {x:Val}{key:ByteArray}{sv:Val}(b:x.valid=true)(h:x.get key=some sv):Df x key sv=x:=by
 obtain⟨g,e⟩:=Co h
 have d:=Gs b
 have i:(Df x key sv).f =x.f:=U8 (E6 _ _ _) d λp=>by
  rw[Lj e d]
  constructor
  ·rintro (⟨_,h⟩ | rfl)
   ·exact h
   ·exact g
  ·intro hp
   by_cases c:p.1=key
   ·right
    have j:=Nq d hp
    have a:=Nq d g
    rw[c]at j
    rw[j]at a
    exact dE a
   ·exact .inl ⟨c,hp⟩
 have m:=Mv b (by omega)
 have a:x.n=0/\x.s=Am:=by
  rw[Ew]at b
  have:=((Dc 11 x).1 b.1).1
  unfold Ge at this
  rw[if_neg (by omega),if_neg (by omega),if_neg (by omega)]at this
  exact(of_decide_eq_true this).2
 obtain⟨k,n,s,l,f⟩:=x
 simp only[gP,cW,cR,gZ,eC]at e m i a
 obtain⟨rfl,rfl⟩:=a
 subst e m
 show Val.mk 5 0 Am [] (Df ⟨5,0,Am,[],f⟩ key sv).f =_
 rw[i]
end Go.CT.Sch
namespace Go.CT.Sch
open Go.Proofs
theorem Ui {o:Option Sch}{v:Val}(h:v.valid=true){x:Kid}(a:x∈kids o v):x.2.1.valid=true:=by
 cases o with
 | none=>simp[kids]at a
 | some s=>
  rw[kids]at a
  split at a
  ·split at a
   ·obtain⟨p,hp,rfl⟩:=aS.1 a;exact(D3 h hp).1
   ·split at a
    ·obtain⟨p,hp,rfl⟩:=aS.1 a;exact Cy h hp
    ·simp at a
  ·simp at a
theorem Hs {o:Option Sch}{v:Val}(h:kids o v≠ []): ∃s,o=some s/\s.k=v.k/\
  ((v.k=5/\kids o v=v.f.map (Dq s))\/(v.k=4/\s.key≠Am/\Dh s.key [] v.l=true/\kids o v=v.l.map (Cp s))):=by
 cases o with
 | none=>simp[kids]at h
 | some s=>
  refine⟨s,rfl,?_⟩
  rw[kids]at h ⊢
  by_cases b:s.k=v.k
  ·rw[if_pos b]at h ⊢
   by_cases c:v.k=5
   ·exact⟨b,.inl ⟨c,by rw[if_pos c];rfl⟩⟩
   ·rw[if_neg c]at h ⊢
    by_cases a:v.k=4/\s.key≠Am/\Dh s.key [] v.l=true
    ·exact⟨b,.inr ⟨a.1,a.2.1,a.2.2,by rw[if_pos a];rfl⟩⟩
    ·rw[if_neg a]at h;exact absurd rfl h
  ·rw[if_neg b]at h;exact absurd rfl h
theorem I2 {x:Val}{key:ByteArray}(d:x.valid=true)(h:isKey x key=true):x.k=5/\(key,Qg (Cw x key))∈x.f/\x.get key=some (Qg (Cw x key)):=by
 have c:=A2b d h
 unfold isKey at h
 simp only[aJ]at h
 obtain⟨y,a⟩:=aR.1 h.1
 rw[a]at c
 have b:y=Qg (Cw x key):=c
 rw[b]at a
 exact⟨(Co a).2,(Co a).1,a⟩
theorem A1o: ∀ (n:Nat) (o:Option Sch) (v:Val) (p:List Stp) (ch:ByteArray->Bool),(pt n o v p ch).1.k =v.k
 | 0,_,_,_,_=>rfl
 | n+1,o,v,p,ch=>by rw[Jk];split<;>rfl
theorem Agl (s:Sch)(r:Kid->Val × Bool): ∀l:List (ByteArray × Val),(∀x∈l,(r (Dq s x)).1.Ap <=x.2.Ap)->Yl (fieldsOf (G5 r (l.map (Dq s)))) l
 | [],_=> .nil
 | x::l,h=>by
  have a:=Agl s r l λy b=>h y (bV _ b)
  rw[aK,Kn]
  cases(r (Dq s x)).2 with
  | false=>exact .skip a
  | true=>exact .keep rfl (h x cB) a
theorem Aiz (s:Sch)(r:Kid->Val × Bool): ∀l:List Val,(∀x∈l,(Df (r (Cp s x)).1 s.key (Qg (Cw x s.key))).Ap <=x.Ap)->Dv (Gh (G5 r (l.map (Cp s))))<=Dv l
 | [],_=>aQ _
 | x::l,h=>by
  have b:=Aiz s r l λy a=>h y (bV _ a)
  have c:=h x cB
  rw[aK,Kn,Ej]
  cases(r (Cp s x)).2 with
  | false=>simp only[aB,Zf];omega
  | true=>
   have e:Dv (Gh (((Cp s x).1,(r (Cp s x)).1)::G5 r (l.map (Cp s))))=(Df (r (Cp s x)).1 s.key (Qg (Cw x s.key))).Ap +Dv (Gh (G5 r (l.map (Cp s)))):=Ej _ _
   simp only[Zt]
   rw[e];omega
theorem Z7: ∀ (n:Nat) (o:Option Sch) (v:Val) (p:List Stp) (ch:ByteArray->Bool),v.valid=true->(pt n o v p ch).1.Ap <=v.Ap/\(v.k=5->Yl (pt n o v p ch).1.f v.f)
 | 0,_,v,_,_,_=>⟨aQ _,λ_=>Yl.refl _⟩
 | n+1,o,v,p,ch,b=>by
  rw[Jk]
  split
  ·exact⟨aQ _,λ_=>Yl.refl _⟩
  ·rename_i c
   obtain⟨s,rfl,y,t⟩:=Hs c
   rcases t with⟨u,d⟩ | ⟨z,q,g,d⟩
   ·have i:Yl (fieldsOf (G5 (λx=>pt n x.2.2 x.2.1 (p++ [x.1]) ch) (kids (some s) v))) v.f:=by
     rw[d]
     exact Agl s _ v.f λx a=>(Z7 n (Dq s x).2.2 (Dq s x).2.1 (p++ [(Dq s x).1]) ch (D3 b a).1).1
    simp only[u,Zt]
    refine⟨?_,λ_=>i⟩
    have:=i.A5k
    have e:=v.Bv
    rw[fW]
    simp only[eC,cW,cR,Er,show Am.size=0 from rfl];omega
   ·have r: ¬ v.k=5:=by omega
    have i:Dv (Gh (G5 (λx=>pt n x.2.2 x.2.1 (p++ [x.1]) ch) (kids (some s) v)))<=Dv v.l:=by
     rw[d]
     refine Aiz s _ v.l λx a=>?_
     obtain⟨j,xm,_⟩:=I2 (Cy b a) (B9 g x a)
     have w:=Z7 n (Cp s x).2.2 (Cp s x).2.1 (p++ [(Cp s x).1]) ch (Cy b a)
     have m:=A1o n (Cp s x).2.2 (Cp s x).2.1 (p++ [(Cp s x).1]) ch
     exact Asv (m.trans j) j (w.2 j) xm
    simp only[r,Zf]
    refine⟨?_,λh=>absurd h (by first | exact r | exact not_false)⟩
    have e:=v.Bv
    rw[fW]
    simp only[eC,cW,cR,Cq,show Am.size=0 from rfl];omega
theorem Z8 {n:Nat}{o:Option Sch}{v:Val}{p:List Stp}{ch:ByteArray->Bool}(a:v.valid=true)(b:v.k=5):Ch (pt n o v p ch).1.f :=
 ((Z7 n o v p ch a).2 b).strict (Gs a)
theorem Azj {s:Sch}{r:Kid->Val × Bool}{l:List (ByteArray × Val)}{x:ByteArray × Val}(a:x∈l)(h:(r (Dq s x)).2 =true):(x.1,(r (Dq s x)).1)∈fieldsOf (G5 r (l.map (Dq s))):=by
 unfold fieldsOf G5
 refine aS.2 ⟨((Dq s x).1,(r (Dq s x)).1),List.mem_filterMap.2 ⟨Dq s x,fP a,by rw[if_pos h]⟩,rfl⟩
theorem L8 {key:ByteArray} : ∀ {l:List Val} {acc:List ByteArray},Dh key acc l=true-> ∀x∈l,Cw x key∉acc
 | [],_,_=>by simp
 | y::l,acc,h=>by
  simp only[Dh,aJ,dU]at h
  intro x a
  rcases bD.1 a with rfl | a
  ·intro b;have:=Hg.2 b;rw[this]at h;exact absurd h.1.2 (by simp)
  ·exact λb=>L8 h.2 x a (eF _ b)
theorem Sa {key:ByteArray}{y:Val}{l:List Val}{acc:List ByteArray}(h:Dh key acc (y::l)=true):Dh key (acc++ [Cw y key]) l=true/\ ∀x∈l,Cw x key≠Cw y key:=by
 have h':=h
 simp only[Dh,aJ]at h'
 exact⟨h'.2,λx a e=>L8 h'.2 x a (by rw[e];simp)⟩
theorem S2 {x:Val}{key:ByteArray}(h:isKey x key=true)(k:ByteArray):hasB key k x=decide (Cw x key=k):=by
 unfold isKey at h
 simp only[aJ,decide_eq_true_eq]at h
 unfold hasB Cw
 rw[h.2];simp
theorem Uf {key:ByteArray} : ∀ {l:List Val} {acc:List ByteArray},Dh key acc l=true-> ∀x∈l,l.find? (hasB key (Cw x key))=some x
 | [],_,_=>by simp
 | y::l,acc,h=>by
  intro x a
  have b:=B9 h
  obtain⟨d,e⟩:=Sa h
  rw[bN,S2 (b y cB)]
  by_cases c:Cw y key=Cw x key
  ·rcases bD.1 a with rfl | a
   ·simp
   ·exact absurd c.symm (e x a)
  ·rcases bD.1 a with rfl | a
   ·exact absurd rfl c
   ·simp only[c,Ze]
    exact Uf d x a
theorem Ahe (u:Val)(key kv k:ByteArray)(a:u.k=5)(b:Ch u.f):hasB key k (Df u key (Qg kv))=decide (kv=k):=by
 unfold hasB
 rw[Lr u a b]
 show(decide ((3:Int)=3)&&decide (kv=k))=decide (kv=k)
 rw[decide_eq_true (rfl:(3:Int)=3),bK]
theorem Aj6 {s:Sch}{r:Kid->Val × Bool} : ∀ {l:List Val} {acc:List ByteArray},Dh s.key acc l=true->(∀y∈l,(r (Cp s y)).1.k =5/\Ch (r (Cp s y)).1.f)-> ∀x∈l,(r (Cp s x)).2 =true->
  (Gh (G5 r (l.map (Cp s)))).find? (hasB s.key (Cw x s.key))=some (Df (r (Cp s x)).1 s.key (Qg (Cw x s.key)))
 | [],_,_,_=>by simp
 | y::l,acc,h,g=>by
  intro x a d
  obtain⟨j,m⟩:=Sa h
  have b:=g y cB
  have i:=Aj6 j λz o=>g z (bV _ o)
  rw[aK,Kn]
  have e: ∀z t,Gh (((Cp s y).1,z)::t)=Df z s.key (Qg (Cw y s.key))::Gh t:=λ_ _=>rfl
  by_cases c:Cw y s.key=Cw x s.key
  ·rcases bD.1 a with rfl | a
   ·rw[if_pos d,e,bN,Ahe _ _ _ _ b.1 b.2];simp
   ·exact absurd c.symm (m x a)
  ·rcases bD.1 a with rfl | a
   ·exact absurd rfl c
   ·cases(r (Cp s y)).2 with
    | false=>exact i x a d
    | true=>
     simp only[Zt]
     rw[e,bN,Ahe _ _ _ _ b.1 b.2]
     simp only[c,Ze]
     exact i x a d
end Go.CT.Sch
namespace Go.CT.Sch.D
open Go.Proofs
inductive VOk:Val->Prop
 | mk (v:Val):Ch v.f->((v.k=5->v.n=0/\v.s=Am/\v.l= [])/\(v.k=4->v.n=0/\v.s=Am)/\(v.k≠5->v.f= []))->(∀x∈v.l,VOk x)->(∀p∈v.f,VOk p.2)->VOk v
def Du (s:Sch)(nm:ByteArray):Option Sch:=if s.it.length=1 then s.it[0]? else(s.fld nm).map (·.s)
inductive Ah9:Sch->Val->Prop
 | leaf (s:Sch) (v:Val):v.k=s.k->v.k≠4->v.k≠5->Ah9 s v
 | list (s:Sch) (v:Val) (t:Sch):v.k=s.k->v.k=4->s.it= [t]->(∀x∈v.l,Ah9 t x)->Ah9 s v
 | map (s:Sch) (v:Val):v.k=s.k->v.k=5->(∀p∈v.f,(Du s p.1).isSome =true)->(∀p∈v.f,p.2.k≠0-> ∀t,Du s p.1=some t->Ah9 t p.2)->Ah9 s v
inductive SOk:Sch->Prop
 | mk (s:Sch):s.it.length<=1->(s.it≠ []->s.f= [])->(s.k=4->s.it.length=1)->s.f.Pairwise (λa b=>blt a.nm b.nm=true)->
  (∀x∈s.it,SOk x)->(∀p∈s.f,SOk p.s)->(∀p∈s.f,p.df.length<=1)->(∀p∈s.f,∀d∈p.df,VOk d/\d.k≠0/\Ah9 p.s d)->SOk s
theorem VOk.strict {v:Val}(h:VOk v):Ch v.f:=by cases h;assumption
theorem VOk.map {v:Val}(h:VOk v)(a:v.k=5):v.n=0/\v.s=Am/\v.l= []:=by cases h with | mk _ c b d e=>exact b.1 a
theorem VOk.list {v:Val}(h:VOk v)(b:v.k=4):v.n=0/\v.s=Am/\v.f= []:=by cases h with | mk _ c a d e=>exact⟨(a.2.1 b).1,(a.2.1 b).2,a.2.2 (by omega)⟩
theorem VOk.nof {v:Val}(h:VOk v)(a:v.k≠5):v.f= []:=by cases h with | mk _ c b d e=>exact b.2.2 a
theorem VOk.Kk {v:Val}(h:VOk v){x:Val}(a:x∈v.l):VOk x:=by cases h with | mk _ c d b e=>exact b x a
theorem VOk.J7 {v:Val}(h:VOk v){p:ByteArray × Val}(hp:p∈v.f):VOk p.2:=by cases h with | mk _ b c d a=>exact a p hp
theorem SOk.one {s:Sch}(h:SOk s):s.it.length<=1:=by cases h;assumption
theorem SOk.nof {s:Sch}(h:SOk s)(a:s.it≠ []):s.f= []:=by cases h with | mk _ c b d e g i j m=>exact b a
theorem SOk.list {s:Sch}(h:SOk s)(a:s.k=4):s.it.length=1:=by cases h with | mk _ c d b e g i j m=>exact b a
theorem SOk.names {s:Sch}(h:SOk s):s.f.Pairwise (λa b=>blt a.nm b.nm=true):=by cases h;assumption
theorem SOk.I4 {s x:Sch}(h:SOk s)(a:x∈s.it):SOk x:=by cases h with | mk _ c d e g b i j m=>exact b x a
theorem SOk.J7 {s:Sch}{p:SFld}(h:SOk s)(a:p∈s.f):SOk p.s:=by cases h with | mk _ c d e g i b j m=>exact b p a
theorem Nd {s t:Sch}{nm:ByteArray}(h:Du s nm=some t):t∈s.it\/ ∃p∈s.f,p.nm=nm/\p.s=t:=by
 unfold Du at h
 split at h
 ·exact .inl (List.mem_of_getElem? h)
 ·right
  rw[Option.map_eq_some_iff]at h
  obtain⟨p,hp,rfl⟩:=h
  exact⟨p,cF hp,by simpa using eG hp,rfl⟩
theorem SOk.sub {s t:Sch}{nm:ByteArray}(a:SOk s)(h:Du s nm=some t):SOk t:=by
 rcases Nd h with h | ⟨p,hp,_,rfl⟩
 ·exact a.I4 h
 ·exact a.J7 hp
theorem J0 {s t:Sch}{nm:ByteArray}(h:Du s nm=some t):t.Ap<s.Ap:=by
 rcases Nd h with h | ⟨p,hp,_,rfl⟩
 ·exact fH h
 ·have:=iG hp;omega
theorem Apk: ∀ (d:Nat) (v:Val),Ca d v=true->VOk v
 | 0,v,h=>by simp[Ca]at h
 | d+1,v,h=>by
  simp only[Ca,aJ,cL,decide_eq_true_eq]at h
  obtain⟨⟨⟨⟨a,b⟩,c⟩,e⟩,g⟩:=h
  unfold Ge at a
  refine .mk v (Nw _ g) ⟨λi=>?_,λi=>?_,b.2.2.2⟩ (λx j=>Apk d x (c x j)) (λp hp=>Apk d p.2 (e p hp).2)
  ·rw[if_neg (by omega),if_neg (by omega),if_neg (by omega)]at a
   simp only[decide_eq_true_eq]at a
   exact⟨a.2.1,a.2.2,b.2.2.1 (by omega)⟩
  ·rw[if_neg (by omega),if_neg (by omega),if_neg (by omega)]at a
   simp only[decide_eq_true_eq]at a
   exact⟨a.2.1,a.2.2⟩
theorem K5 {v:Val}(h:v.valid=true):VOk v:=by
 unfold Val.valid at h
 simp only[aJ]at h
 exact Apk _ _ h.1
def Bh:Sch:=⟨0,0,0,[],Am,[],[]⟩
def Wi (o:Option Sch):List IV:= [(o.getD Bh).enc,.bool o.isSome]
theorem Ns:IV.agg [.int 0,.int 0,.int 0,.list [],.str ⟨#[]⟩,.list [],.list []]=Bh.enc:=rfl
theorem Aci (s:Sch)(nm:ByteArray)(m:s.Ap<=1099511627776)(b d e g:IV): ∀ (n i:Nat),i+n=s.f.length->
  W 132 1 [.str nm,.list (s.f.map bQ),.int s.f.length,.int i,b,d,e,g]=some (Wi (((s.f.drop i).find? λp=>decide (p.nm=nm)).map (·.s)))
 | 0,i,h=>by
  rw[A13.j]
  have j: ¬ i<s.f.length:=by omega
  simp[j,aY (cZ j),Wi,Ns]
 | n+1,i,h=>by
  have a:i<s.f.length:=by omega
  have q:=s.Bd
  have o:=Be (i:=i) (by omega)
  have:=Aci s nm m b d e g n (i+1) (by omega)
  rw[A13.j,aC a]
  simp only[dZ,Ao,a,Zd,aA,aU,Zt,eY,aT,aW,bG,aL a,aH,gO,eR,gH,fJ,o,this,bN]
  by_cases c:s.f[i].nm =nm
  ·simp[c,Wi]
  ·have c':decide (s.f[i].nm =nm)=false:=by simpa using c
   simp only[c,c',Ze,aB,Zf]
theorem Ax6 (s:Sch)(nm:ByteArray)(a:s.Ap<=1099511627776):W 132 0 [s.enc,.str nm]=some (Wi (Du s nm)):=by
 rw[A13.i]
 unfold Du
 have:=Aci s nm a (.int 0) (.int 0) (.int 0) (.str ⟨#[]⟩) s.f.length 0 (by omega)
 simp only[aF,aD]at this
 simp only[dN,eT,aA,bU,aU,eU,aI,this]
 by_cases c:s.it.length=1
 ·have c':(s.it.length:Int)=1:=by omega
  obtain⟨t,b⟩:=aX.1 c
  simp[c,b,Wi]
 ·have c': ¬ (s.it.length:Int)=1:=by omega
  simp only[c,c',Ze,aB,Zf]
  rfl
mutual
def Ba:Val->Sch->Val
 | ⟨k,n,s,l,f⟩,sc=>
  if k=sc.k then
   if k=4 then(if sc.it.length=1 then⟨4,0,Am,Afb l (sc.it.headD Bh),[]⟩else⟨k,n,s,l,f⟩)
   else if k=5 then⟨5,0,Am,[],Ae1 f sc⟩
   else⟨k,n,s,l,f⟩
  else⟨k,n,s,l,f⟩
def Afb:List Val->Sch->List Val
 | [],_=> []
 | v::vs,t=>Ba v t::Afb vs t
def Ae1:List (ByteArray × Val)->Sch->List (ByteArray × Val)
 | [],_=> []
 | (nm,v)::fs,sc=>(if v.k=0 then[]else match Du sc nm with | some t=> [(nm,Ba v t)] | none=> [])++Ae1 fs sc
end
theorem Akp (l:List Val)(t:Sch):Afb l t=l.map λv=>Ba v t:=by
 induction l with
 | nil=>rfl
 | cons v l a=>simp[Afb,a]
def D4 (sc:Sch)(p:ByteArray × Val):List (ByteArray × Val):=if p.2.k=0 then[]else match Du sc p.1 with | some t=> [(p.1,Ba p.2 t)] | none=> []
theorem Akr (l:List (ByteArray × Val))(sc:Sch):Ae1 l sc=l.flatMap (D4 sc):=by
 induction l with
 | nil=>rfl
 | cons p l a=>obtain⟨nm,v⟩:=p;simp only[Ae1,a,aV];rfl
theorem Om {sc:Sch}{p q:ByteArray × Val}(h:q∈D4 sc p):q.1=p.1:=by
 unfold D4 at h
 split at h
 ·simp at h
 ·split at h<;>simp at h
  subst h;rfl
theorem Gd (v:Val)(sc:Sch):Ba v sc=
  if v.k=sc.k then
   if v.k=4 then(if sc.it.length=1 then⟨4,0,Am,v.l.map λx=>Ba x (sc.it.headD Bh),[]⟩else v)
   else if v.k=5 then⟨5,0,Am,[],v.f.flatMap (D4 sc)⟩
   else v
  else v:=by
 cases v with
 | mk k n s l f=>rw[<-Akp,<-Akr];simp only[Ba,gP,cW,cR];rfl
theorem Rt (g:ByteArray × Val->List (ByteArray × Val))(c: ∀p q,q∈g p->q.1=p.1)(e: ∀p,(g p).length <=1): ∀l:List (ByteArray × Val),Ch l->Ch (l.flatMap g)
 | [],_=>bM
 | p::l,h=>by
  have i:=bO.1 h
  rw[aV]
  refine List.pairwise_append.2 ⟨?_,Rt g c e l i.2,?_⟩
  ·have:=e p
   match o:g p,this with
   | [],_=>exact bM
   | [a],_=>exact eX _ _
   | _::_::_,h=>simp at h
  ·intro a j b d
   obtain⟨q,m,d⟩:=cE.1 d
   rw[c _ _ j,c _ _ d]
   exact i.1 q m
theorem Ko (sc:Sch)(p:ByteArray × Val):(D4 sc p).length <=1:=by
 unfold D4
 split
 ·simp
 ·split<;>simp
theorem Ri: ∀ (v:Val) (sc:Sch),(Ba v sc).Ap <=v.Ap:=by
 refine eS λv a b sc=>?_
 have e: ∀ (t:Sch) (l:List Val),(∀x∈l,∀sc,(Ba x sc).Ap <=x.Ap)->Dv (l.map λx=>Ba x t)<=Dv l:=by
  intro t l
  induction l with
  | nil=>intro _;simp[Er]
  | cons x l c=>
   intro h
   have g:=h x (by simp) t
   have i:=c λy d=>h y (by simp[d])
   rw[aK,Ej,Ej];omega
 have j: ∀ (l:List (ByteArray × Val)),(∀p∈l,∀sc,(Ba p.2 sc).Ap <=p.2.Ap)->Cn (l.flatMap (D4 sc))<=Cn l:=by
  intro l
  induction l with
  | nil=>intro _;simp[Cq]
  | cons p l c=>
   intro h
   have i:=c λy d=>h y (by simp[d])
   rw[aV,It,B7]
   have:Cn (D4 sc p)<=1+p.1.size+p.2.Ap:=by
    unfold D4
    split
    ·rw[Cq];omega
    ·split
     ·next t _=>have g:=h p (by simp) t;rw[B7,Cq];simp only;omega
     ·rw[Cq];omega
   omega
 rw[Gd]
 split
 ·split
  ·split
   ·have:=e (sc.it.headD Bh) v.l a
    rw[fW,v.Bv]
    simp only[eC,cW,cR,Cq,show Am.size=0 from rfl];omega
   ·exact aQ _
  ·split
   ·have:=j v.f b
    rw[fW,v.Bv]
    simp only[eC,cW,cR,Er,show Am.size=0 from rfl];omega
   ·exact aQ _
 ·exact aQ _
theorem Ame (v:Val)(a:Hd 1073741824 v):W 129 0 [v.enc]=some [v.enc]:=by
 rw[A13.e]
 have h:=M8 [v] (by simp) (by simpa using a)
 simp only[aK,aN]at h
 simp only[dO,aA,h,dC,gC,cW,aK,aN]
 rfl
theorem Afh (l:List Val)(b:Dv l<=4294967200):W 130 0 [.list (l.map bJ)]=some (hQ ⟨4,0,Am,l,[]⟩):=
 M8 l (by have:=Nl l;omega) λx a=>Dd x (by
  have:x.Ap<=Dv l:=Gv (fP a)
  omega)
theorem Aqz (v:Val)(a:v.Ap<=4294967100):W 129 0 [v.enc]=some [v.enc]:=Ame v (Dd v (by omega))
end Go.CT.Sch.D
namespace Go.CT.Sch.D
open Go.Proofs
theorem Al5 (sc:Sch)(p:ByteArray × Val):Cn (D4 sc p)<=1+p.1.size+p.2.Ap:=by
 unfold D4
 split
 ·rw[Cq];omega
 ·split
  ·next t _=>have a:=Ri p.2 t;rw[B7,Cq];simp only;omega
  ·rw[Cq];omega
theorem Al8 {l:List (ByteArray × Val)}{i:Nat}(h:i<l.length):Cn (l.drop i)=(1+l[i].1.size +l[i].2.Ap)+Cn (l.drop (i+1)):=by
 rw[aC h,B7]
theorem Ak0 {l:List Val}{i:Nat}(h:i<l.length):Dv (l.drop i)=l[i].Ap +Dv (l.drop (i+1)):=by
 rw[aC h,Ej]
theorem V9 (sc:Sch)(v:Val)(g:sc.Ap<=1099511627776)(x:v.Ap<=4294967000)(j m o:IV)(q: ∀p∈v.f,∀t,Du sc p.1=some t->W 128 0 [t.enc,p.2.enc]=some [(Ba p.2 t).enc]):
  ∀ (n i:Nat) (acc:List (ByteArray × Val)),i+n=v.f.length->acc.length<=i->Cn acc+Cn (v.f.drop i)<=4294967000->
  W 128 1 [.list (v.f.map aZ),.int v.f.length,.int i,sc.enc,j,m,o,.list (acc.map aZ)]=some [(Azk (acc++(v.f.drop i).flatMap (D4 sc))).enc]
 | 0,i,acc,h,y,r=>by
  rw[A13.c]
  have u: ¬ i<v.f.length:=by omega
  have b:=Atz acc (by omega)
  simp only[dZ,Ao,u,Ze,aA,aU,aB,Zf,b,dC,gC,dB,eV,aY (cZ u),cD,aP]
 | n+1,i,acc,h,y,r=>by
  have c:i<v.f.length:=by omega
  have hlen:=v.Bd
  have z:=Be (i:=i) (by omega)
  have hp:=Al5 sc v.f[i]
  have A:=Ko sc v.f[i]
  rw[Al8 c]at r
  have next:=V9 sc v g x j m o q n (i+1) (acc++D4 sc v.f[i]) (by omega) (by rw[aO];omega) (by rw[It];omega)
  have e:(acc.length+1) * 96<=Bc:=Tt (by omega) (by omega)
  rw[bI]at next
  rw[A13.c,aC c,aV,<-next]
  simp only[dZ,Ao,c,Zd,aA,aU,Zt,eY,aT,aW,bG,aL c,aH,fU,Fld.Dg,fI,Ax6 sc _ g,Wi,eL,fG,A13.d,fJ,z]
  unfold D4
  cases d:Du sc v.f[i].1 with
  | none=>simp only[cI,aU,aB,Zf,aA,ite_self,aP]
  | some t=>
   have a:=q _ (aE c) t d
   by_cases w:v.f[i].2.k =0
   ·simp only[bF,aU,Zt,aA,w,Zd,bB,aB,Zf,aP]
   ·simp only[bF,aU,Zt,aA,w,Ze,bP,Zf,aG,a,bT,cT,eZ,fA,cH,cN,dB,gY,dO,iN,aI,bL,e,cM,aK,aN]
theorem Wc (sc t:Sch)(v:Val)(u:v.Ap<=4294967000)(e g j:IV)(m:sc.it= [t])(o: ∀x∈v.l,W 128 0 [t.enc,x.enc]=some [(Ba x t).enc]):
  ∀ (n i:Nat) (acc:List Val),i+n=v.l.length->acc.length<=i->Dv acc+Dv (v.l.drop i)<=4294967000->
  W 131 1 [.list (v.l.map bJ),.int v.l.length,.int i,sc.enc,e,g,j,.list (acc.map bJ)]=some [(Val.mk 4 0 Am (acc++(v.l.drop i).map λx=>Ba x t) []).enc]
 | 0,i,acc,h,w,q=>by
  rw[A13.h]
  have r: ¬ i<v.l.length:=by omega
  have b:=Afh acc (by omega)
  simp only[dZ,Ao,r,Ze,aA,aU,aB,Zf,b,dC,gC,dB,eV,aY (cZ r),aN,aP]
 | n+1,i,acc,h,w,q=>by
  have c:i<v.l.length:=by omega
  have hlen:=v.Bu
  have y:=Be (i:=i) (by omega)
  have hp:=Ri v.l[i] t
  rw[Ak0 c]at q
  have next:=Wc sc t v u e g j m o n (i+1) (acc++ [Ba v.l[i] t]) (by omega) (by rw[aO];simp;omega) (by rw[Sj,Ej,Er];omega)
  have d:(acc.length+1) * 80<=Bc:=Tt (by omega) (by omega)
  have a:=o _ (aE c)
  rw[bI,bC]at next
  rw[A13.h,aC c,aK,<-next]
  simp only[dZ,Ao,c,Zd,aA,aU,Zt,eY,aT,aW,bG,aL c,aH,dN,m,aK,aN,eD,dH,bY,a,bT,dO,iN,aI,bL,d,cM,fJ,y]
theorem A1y (sc:Sch)(l:List (ByteArray × Val))(h:Ch l):Aau (l.flatMap (D4 sc))=l.flatMap (D4 sc):=
 Awg (Rt _ (λ_ _ h=>Om h) (Ko sc) l h)
theorem Aqh: ∀v:Val,VOk v->v.Ap<=4294967000-> ∀sc:Sch,SOk sc->sc.Ap<=1099511627776->W 128 0 [sc.enc,v.enc]=some [(Ba v sc).enc]:=by
 refine eS λv d e g o sc h i=>?_
 have b:=Aqz v (by omega)
 rw[A13.b,Gd]
 simp only[cT,dQ,aA,fG,bU,aU]
 by_cases q:v.k=sc.k
 ·simp only[q,Zd,bB,aB,Zf,aA,Zt]
  by_cases r:sc.k=5
  ·have y:v.k=5:=by omega
   have u:=V9 sc v i o (.int 0) (.int 0) (.str ⟨#[]⟩) (λp hp t a=>e p hp (g.J7 hp) (by have:=fT hp;omega) t (h.sub a) (by have:=J0 a;omega)) v.f.length 0 [] (by omega) (by simp) (by rw[Cq,aF];have:=v.Bv;omega)
   simp only[aF,aD,aN,bE]at u
   simp[r,u,Azk,A1y sc _ g.strict]
  ·by_cases j:sc.k=4
   ·have z:v.k=4:=by omega
    obtain⟨t,a⟩:=aX.1 (h.list j)
    have c:t∈sc.it:=by rw[a];simp
    have w:=Wc sc t v o (.int 0) (.int 0) (.str ⟨#[]⟩) a (λx m=>d x m (g.Kk m) (by have:=dM m;omega) t (h.I4 c) (by have:=fH c;omega)) v.l.length 0 [] (by omega) (by simp) (by rw[Er,aF];have:=v.Bv;omega)
    simp only[aF,aD,aN,bE]at w
    have A:W 131 0 [sc.enc,v.enc]=some [(Val.mk 4 0 Am (v.l.map λx=>Ba x t) []).enc]:=by
     rw[A13.g]
     simp[a,w]
    simp[j,A,a]
   ·simp[j,r,b]
 ·simp[q,b]
end Go.CT.Sch.D
namespace Go.CT.Sch
open Go.Proofs
theorem Zr {x:IV}(h:WT Tryz.prog 3 x): ∃n,x= .int n:=by
 obtain⟨n,rfl,_⟩:=h.Ih (k:= .i64) (by kernel_rfl)
 exact⟨n,rfl⟩
theorem Vu {x:IV}(h:WT Tryz.prog 9 x): ∃s,x= .str s:=by
 obtain⟨s,rfl,_⟩:=h.Is (by kernel_rfl)
 exact⟨s,rfl⟩
theorem Auw {x:IV}(h:WT Tryz.prog 4 x): ∃b,x= .bool b:=h.Nz (by kernel_rfl)
theorem Avu {x:IV}(h:WT Tryz.prog 22 x): ∃l:List ByteArray,x= .list (l.map .str):=by
 obtain⟨xs,rfl,_,h⟩:=h.Da (e:=9) (by kernel_rfl)
 obtain⟨es,rfl,_⟩:=Kx (enc:=IV.str) (ok:=λ_=>True) (xs:=xs) λx a=>by
  obtain⟨s,e⟩:=Vu (h x a)
  exact⟨s,e,trivial⟩
 exact⟨es,rfl⟩
theorem Asy {x:IV}(b:WT Tryz.prog 27 x)(h: ∀y,y.bulk<x.bulk->WT Tryz.prog 30 y-> ∃v:Val,y=v.enc): ∃l:List Val,x= .list (l.map bJ):=by
 obtain⟨xs,rfl,_,c⟩:=b.Da (e:=30) (by kernel_rfl)
 obtain⟨es,rfl,_⟩:=Kx (enc:=bJ) (ok:=λ_=>True) (xs:=xs) λy a=>by
  have d:y.bulk<(IV.list xs).bulk :=by have:=Gv a;simp only[fB];omega
  obtain⟨s,e⟩:=h y d (c y a)
  exact⟨s,e,trivial⟩
 exact⟨es,rfl⟩
theorem Avy {x:IV}(b:WT Tryz.prog 28 x)(h: ∀y,y.bulk<x.bulk->WT Tryz.prog 84 y-> ∃p,y=aZ p): ∃l:List (ByteArray × Val),x= .list (l.map aZ):=by
 obtain⟨xs,rfl,_,c⟩:=b.Da (e:=84) (by kernel_rfl)
 obtain⟨es,rfl,_⟩:=Kx (enc:=aZ) (ok:=λ_=>True) (xs:=xs) λy a=>by
  have d:y.bulk<(IV.list xs).bulk :=by have:=Gv a;simp only[fB];omega
  obtain⟨s,e⟩:=h y d (c y a)
  exact⟨s,e,trivial⟩
 exact⟨es,rfl⟩
theorem All: ∀ (n:Nat) (x:IV),x.bulk<=n->(WT Tryz.prog 30 x-> ∃v:Val,x=v.enc)/\(WT Tryz.prog 84 x-> ∃p,x=aZ p)
 | 0,x,g=>by have:=Ae9 x;omega
 | n+1,x,g=>by
  have u: ∀y:IV,y.bulk<=n->WT Tryz.prog 27 y-> ∃l:List Val,y= .list (l.map bJ):=λy A h=>Asy h λz i j=>(All n z (by omega)).1 j
  have w: ∀y:IV,y.bulk<=n->WT Tryz.prog 28 y-> ∃l:List (ByteArray × Val),y= .list (l.map aZ):=λy A h=>Avy h λz i j=>(All n z (by omega)).2 j
  constructor
  ·intro h
   obtain⟨xs,rfl,o⟩:=h.J5 (ts:= [3,3,9,27,28]) (by kernel_rfl) (by kernel_rfl)
   obtain⟨a,xs,rfl,q,h⟩:=o.cons_inv
   obtain⟨b,xs,rfl,g,h⟩:=h.cons_inv
   obtain⟨c,xs,rfl,r,h⟩:=h.cons_inv
   obtain⟨d,xs,rfl,hd,h⟩:=h.cons_inv
   obtain⟨e,xs,rfl,t,h⟩:=h.cons_inv
   obtain rfl:=h.Xe
   simp only[fB,iK]at g
   obtain⟨k,rfl⟩:=Zr q
   obtain⟨m,rfl⟩:=Zr ‹WT Tryz.prog 3 b›
   obtain⟨s,rfl⟩:=Vu r
   obtain⟨l,rfl⟩:=u d (by omega) hd
   obtain⟨f,rfl⟩:=w e (by omega) t
   exact⟨⟨k,m,s,l,f⟩,iB _ _ _ _ _⟩
  ·intro h
   obtain⟨xs,rfl,o⟩:=h.J5 (ts:= [9,3,3,9,27,28]) (by kernel_rfl) (by kernel_rfl)
   obtain⟨z,xs,rfl,i,h⟩:=o.cons_inv
   obtain⟨a,xs,rfl,q,h⟩:=h.cons_inv
   obtain⟨b,xs,rfl,g,h⟩:=h.cons_inv
   obtain⟨c,xs,rfl,r,h⟩:=h.cons_inv
   obtain⟨d,xs,rfl,hd,h⟩:=h.cons_inv
   obtain⟨e,xs,rfl,t,h⟩:=h.cons_inv
   obtain rfl:=h.Xe
   simp only[fB,iK]at g
   obtain⟨nm,rfl⟩:=Vu i
   obtain⟨k,rfl⟩:=Zr q
   obtain⟨m,rfl⟩:=Zr ‹WT Tryz.prog 3 b›
   obtain⟨s,rfl⟩:=Vu r
   obtain⟨l,rfl⟩:=u d (by omega) hd
   obtain⟨f,rfl⟩:=w e (by omega) t
   exact⟨(nm,⟨k,m,s,l,f⟩),Fld.fold _ _ _ _ _ _⟩
theorem Atk {x:IV}(h:WT Tryz.prog 30 x): ∃v:Val,x=v.enc:=(All _ x (aQ _)).1 h
theorem Ar2 {x:IV}(h:WT Tryz.prog 27 x): ∃l:List Val,x= .list (l.map bJ):=Asy h λ_ _ a=>Atk a
theorem A2m {x:IV}(b:WT Tryz.prog 23 x)(h: ∀y,y.bulk<x.bulk->WT Tryz.prog 26 y-> ∃v:Sch,y=v.enc): ∃l:List Sch,x= .list (l.map cV):=by
 obtain⟨xs,rfl,_,c⟩:=b.Da (e:=26) (by kernel_rfl)
 obtain⟨es,rfl,_⟩:=Kx (enc:=cV) (ok:=λ_=>True) (xs:=xs) λy a=>by
  have d:y.bulk<(IV.list xs).bulk :=by have:=Gv a;simp only[fB];omega
  obtain⟨s,e⟩:=h y d (c y a)
  exact⟨s,e,trivial⟩
 exact⟨es,rfl⟩
theorem Aqs {x:IV}(b:WT Tryz.prog 24 x)(h: ∀y,y.bulk<x.bulk->WT Tryz.prog 94 y-> ∃p:SFld,y=p.enc): ∃l:List SFld,x= .list (l.map bQ):=by
 obtain⟨xs,rfl,_,c⟩:=b.Da (e:=94) (by kernel_rfl)
 obtain⟨es,rfl,_⟩:=Kx (enc:=bQ) (ok:=λ_=>True) (xs:=xs) λy a=>by
  have d:y.bulk<(IV.list xs).bulk :=by have:=Gv a;simp only[fB];omega
  obtain⟨s,e⟩:=h y d (c y a)
  exact⟨s,e,trivial⟩
 exact⟨es,rfl⟩
theorem Alj: ∀ (n:Nat) (x:IV),x.bulk<=n->(WT Tryz.prog 26 x-> ∃v:Sch,x=v.enc)/\(WT Tryz.prog 94 x-> ∃p:SFld,x=p.enc)
 | 0,x,A=>by have:=Ae9 x;omega
 | n+1,x,q=>by
  have C: ∀y:IV,y.bulk<=n->WT Tryz.prog 23 y-> ∃l:List Sch,y= .list (l.map cV):=λy F h=>A2m h λz G r=>(Alj n z (by omega)).1 r
  have H: ∀y:IV,y.bulk<=n->WT Tryz.prog 24 y-> ∃l:List SFld,y= .list (l.map bQ):=λy F h=>Aqs h λz G r=>(Alj n z (by omega)).2 r
  have B: ∀xs,WTs Tryz.prog [3,3,3,22,9,23,24] xs->iK xs<=n-> ∃s:Sch,xs=s.Gg:=by
   intro xs h A
   obtain⟨a,xs,rfl,t,h⟩:=h.cons_inv
   obtain⟨b,xs,rfl,j,h⟩:=h.cons_inv
   obtain⟨c,xs,rfl,u,h⟩:=h.cons_inv
   obtain⟨d,xs,rfl,hd,h⟩:=h.cons_inv
   obtain⟨e,xs,rfl,I,h⟩:=h.cons_inv
   obtain⟨g,xs,rfl,J,h⟩:=h.cons_inv
   obtain⟨i,xs,rfl,K,h⟩:=h.cons_inv
   obtain rfl:=h.Xe
   simp only[iK]at A
   obtain⟨k,rfl⟩:=Zr t
   obtain⟨m,rfl⟩:=Zr j
   obtain⟨o,rfl⟩:=Zr u
   obtain⟨en,rfl⟩:=Avu hd
   obtain⟨key,rfl⟩:=Vu I
   obtain⟨it,rfl⟩:=C g (by omega) J
   obtain⟨f,rfl⟩:=H i (by omega) K
   exact⟨⟨k,m,o,en,key,it,f⟩,by rw[gJ];rfl⟩
  constructor
  ·intro h
   obtain⟨xs,rfl,w⟩:=h.J5 (ts:= [3,3,3,22,9,23,24]) (by kernel_rfl) (by kernel_rfl)
   simp only[fB]at q
   obtain⟨s,rfl⟩:=B xs w (by omega)
   exact⟨s,s.E0.symm⟩
  ·intro h
   obtain⟨xs,rfl,w⟩:=h.J5 (ts:= [9,4,4,27,3,3,3,22,9,23,24]) (by kernel_rfl) (by kernel_rfl)
   obtain⟨a,xs,rfl,t,h⟩:=w.cons_inv
   obtain⟨b,xs,rfl,j,h⟩:=h.cons_inv
   obtain⟨c,xs,rfl,u,h⟩:=h.cons_inv
   obtain⟨d,xs,rfl,hd,h⟩:=h.cons_inv
   simp only[fB,iK]at q
   obtain⟨s,rfl⟩:=B xs h (by omega)
   obtain⟨nm,rfl⟩:=Vu t
   obtain⟨rq,rfl⟩:=Auw j
   obtain⟨im,rfl⟩:=Auw u
   obtain⟨df,rfl⟩:=Ar2 hd
   exact⟨⟨nm,rq,im,df,s⟩,rfl⟩
theorem A5x {x:IV}(h:WT Tryz.prog 26 x): ∃s:Sch,x=s.enc:=(Alj _ x (aQ _)).1 h
structure Mgr where
 name:ByteArray
 paths:List ByteArray
def Mgr.enc (m:Mgr):IV:= .agg [.str m.name,.list (m.paths.map .str)]
theorem A4v {x:IV}(h:WT Tryz.prog 52 x): ∃m:Mgr,x=m.enc:=by
 obtain⟨xs,rfl,c⟩:=h.J5 (ts:= [9,22]) (by kernel_rfl) (by kernel_rfl)
 obtain⟨a,xs,rfl,d,h⟩:=c.cons_inv
 obtain⟨b,xs,rfl,e,h⟩:=h.cons_inv
 obtain rfl:=h.Xe
 obtain⟨nm,rfl⟩:=Vu d
 obtain⟨l,rfl⟩:=Avu e
 exact⟨⟨nm,l⟩,rfl⟩
theorem A2x {x:IV}(a:WT Tryz.prog 31 x): ∃l:List Mgr,x= .list (l.map Mgr.enc):=by
 obtain⟨xs,rfl,_,b⟩:=a.Da (e:=52) (by kernel_rfl)
 obtain⟨es,rfl,_⟩:=Kx (enc:=Mgr.enc) (ok:=λ_=>True) (xs:=xs) λy c=>by
  obtain⟨s,e⟩:=A4v (b y c)
  exact⟨s,e,trivial⟩
 exact⟨es,rfl⟩
end Go.CT.Sch
namespace Go.CT.Sch.D
open Go.Proofs
theorem Vk {s:Sch}(h:SB s)(nm:ByteArray):Du s nm=Sch.Du s nm:=by
 unfold Du Sch.Du
 have a:=h.one
 match b:s.it,a with
 | [],_=>simp
 | [t],_=>simp
theorem Aym: ∀ (v:Val) (s:Sch),SB s->Jy v s []= []->Ah9 s v:=by
 refine eS λv c d s b h=>?_
 have e:=Yf h
 by_cases g:v.k=4
 ·obtain⟨t,a⟩:=aX.1 (b.list (by omega))
  have m:=(Aw5 h g).2
  rw[a,eH]at m
  exact .list s v t e g a λx o=>c x o t (b.I4 (by rw[a];simp)) (Agq m x o)
 ·by_cases i:v.k=5
  ·have q:=(Ay0 h i).1
   refine .map s v e i (λp hp=>?_) (λp hp j t a=>?_)
   ·obtain⟨t,a⟩:=Aqo (q p hp [])
    rw[Vk b,a];rfl
   ·rw[Vk b]at a
    exact d p hp t (b.sub a) (Vo (Azd (q p hp []) j a) [])
  ·exact .leaf s v e g i
theorem Apn {g:Sch->Bool} : ∀ (l:List SFld) (o:Option ByteArray),fOk g o l=true->l.Pairwise (λa b=>blt a.nm b.nm=true)/\ ∀q,o=some q-> ∀p∈l,blt q p.nm=true
 | [],o,_=>⟨bM,λq _ p hp=>by simp at hp⟩
 | x::l,o,h=>by
  simp only[fOk,aJ]at h
  obtain⟨e,i⟩:=Apn l (some x.nm) h.2
  have d:=i x.nm rfl
  refine⟨bO.2 ⟨d,e⟩,λq j p hp=>?_⟩
  have c:=h.1.1.1.1.2
  subst j
  simp only[J1]at c
  rcases bD.1 hp with rfl | hp
  ·exact c
  ·exact G7 c (d p hp)
theorem U4: ∀ (d:Nat) (s:Sch),Cl d s=true->SOk s
 | 0,s,h=>by simp[Cl]at h
 | d+1,s,h=>by
  have c:=Hj (d+1) s h
  have e: ∀p∈s.f,SOk p.s/\p.df.length<=1/\ ∀x∈p.df,VOk x/\x.k≠0/\Ah9 p.s x:=by
   intro p hp
   obtain⟨_,_,j,o,g⟩:=Wm h hp
   refine⟨U4 d p.s j,o,λx q=>?_⟩
   unfold A4e at g
   simp only[cL,aJ,dU,decide_eq_false_iff_not,decide_eq_true_eq]at g
   obtain⟨⟨r,u⟩,w⟩:=g x q
   exact⟨K5 u,r,Aym x p.s (Hj d p.s j) (cJ.1 w)⟩
  have i:s.f.Pairwise (λa b=>blt a.nm b.nm=true):=by
   by_cases m:s.f= []
   ·rw[m];exact bM
   ·obtain⟨p,hp⟩:=List.exists_mem_of_ne_nil _ m
    have y:=(Wm h hp).1
    rw[Cl,if_neg (by omega),if_neg (by omega),if_neg (by omega),if_neg (by omega),if_pos y]at h
    simp only[aJ]at h
    exact(Apn s.f none h.2).1
  exact .mk s c.one c.nof c.list i (λt z=>U4 d t (Aak h z)) (λp hp=>(e p hp).1) (λp hp=>(e p hp).2.1) (λp hp=>(e p hp).2.2)
theorem Al1 (v:Val)(s:Sch):(Ba v s).k =v.k:=by
 rw[Gd]
 split
 ·split
  ·split
   ·show(4:Int)=_;omega
   ·rfl
  ·split
   ·show(5:Int)=_;omega
   ·rfl
 ·rfl
theorem Ms {v:Val}(s:Sch)(a:v.k≠4)(b:v.k≠5):Ba v s=v:=by
 rw[Gd]
 split
 ·rfl
 ·rfl
theorem Aiy (g:ByteArray × Val->List (ByteArray × Val))(o: ∀p q,q∈g p->q.1=p.1)(r: ∀p,(g p).length <=1)(nm:ByteArray): ∀l:List (ByteArray × Val),Ch l->
  (l.flatMap g).find? (λp=>decide (p.1=nm))=(l.find? λp=>decide (p.1=nm)).bind λp=>(g p).head?
 | [],_=>rfl
 | p::l,h=>by
  have t:=bO.1 h
  rw[aV,gE,bN,Aiy g o r nm l t.2]
  have d:=o p
  have i:=r p
  by_cases c:p.1=nm
  ·have j:(l.find? λq=>decide (q.1=nm))=none:=by
    rw[eO]
    intro q m
    have:=Ly (t.1 q m)
    simp only[decide_eq_true_eq]
    intro e
    exact this (by rw[c,e])
   rw[j]
   have c':decide (p.1=nm)=true:=by simpa using c
   rw[c']
   match b:g p,i with
   | [],_=>simp[b]
   | [a],_=>
    have:=d a (by rw[b];simp)
    simp[b,this,c]
  ·have c':decide (p.1=nm)=false:=by simpa using c
   rw[c']
   have:(g p).find? (λq=>decide (q.1=nm))=none:=by
    rw[eO]
    intro q m
    rw[d q m,c'];simp
   rw[this];rfl
theorem Ajk {v:Val}{s:Sch}(b:VOk v)(c:v.k=s.k)(a:v.k=5)(nm:ByteArray):(Ba v s).get nm=(v.get nm).bind λx=>if x.k=0 then none else(Du s nm).map (Ba x):=by
 rw[Gd,if_pos c,if_neg (by omega),if_pos a]
 unfold gQ
 rw[if_pos (show(Val.mk 5 0 Am [] (v.f.flatMap (D4 s))).k =5 from rfl),if_pos a]
 show((v.f.flatMap (D4 s)).find? λp=>decide (p.1=nm)).map (·.2)=_
 rw[Aiy (D4 s) (λp q h=>Om h) (Ko s) nm v.f b.strict]
 cases d:v.f.find? (λp=>decide (p.1=nm)) with
 | none=>rfl
 | some p=>
  have hp:p.1=nm:=by simpa using eG d
  simp only[aA,aH]
  unfold D4
  split
  ·rfl
  ·rw[hp]
   cases Du s nm<;>rfl
theorem Ajt {x:Val}{t:Sch}(j:VOk x)(key:ByteArray)(h:Ef (Ba x t) key=true):Ef x key=true/\Cw (Ba x t) key=Cw x key:=by
 by_cases c:x.k=t.k/\x.k=5
 ·have a:=Ajk j c.1 c.2 key
  unfold Ef isKey at h
  simp only[aJ,dU,decide_eq_true_eq,decide_eq_false_iff_not]at h
  obtain⟨y,d⟩:=aR.1 h.1.1
  rw[d,aG]at h
  rw[d]at a
  cases b:x.get key with
  | none=>rw[b]at a;cases a
  | some g=>
   rw[b,aA]at a
   split at a
   ·cases a
   ·cases i:Du t key with
    | none=>rw[i]at a;cases a
    | some u=>
     rw[i,aH]at a
     have e:=dE a
     have m:g.k=3:=by rw[<-Al1 g u,<-e];exact h.1.2
     have o:y=g:=by rw[e,Ms u (by omega) (by omega)]
     unfold Ef isKey Cw
     rw[b,d,o]
     have:decide (key=Am)=false:=by simpa using h.2
     simp[m,this]
 ·have e:Ba x t=x\/(Ba x t).k =4:=by
   rw[Gd]
   split
   ·split
    ·split
     ·exact .inr rfl
     ·exact .inl rfl
    ·split
     ·exact absurd ⟨by assumption,by assumption⟩ c
     ·exact .inl rfl
   ·exact .inl rfl
  rcases e with e | e
  ·rw[e]at h ⊢;exact⟨h,rfl⟩
  ·unfold Ef isKey gQ at h
   rw[if_neg (by omega)]at h
   simp at h
theorem S5: ∀l:List (ByteArray × Val),Ch l->rising l=true
 | [],_=>rfl
 | [_],_=>rfl
 | p::q::r,h=>by
  have a:=bO.1 h
  simp only[rising,aJ]
  exact⟨a.1 q (by simp),S5 (q::r) a.2⟩
theorem Ana (g:ByteArray × Val->List (ByteArray × Val))(a: ∀p,(g p).length <=1): ∀l:List (ByteArray × Val),(l.flatMap g).length <=l.length
 | []=>by simp
 | p::l=>by
  have:=a p
  have:=Ana g a l
  simp only[aV,aO,cK];omega
theorem Py: ∀ (d:Nat) (v:Val) (s:Sch),Ca d v=true->Ca d (Ba v s)=true
 | 0,v,s,h=>by simp[Ca]at h
 | d+1,v,s,h=>by
  have h':=(Dc d v).1 h
  have e:=Apk _ _ h
  rw[Gd]
  split
  ·split
   ·split
    ·rename_i m _
     rw[Dc]
     refine⟨rfl,⟨by show(v.l.map _).length <=64;rw[aI];exact h'.2.1.1,by show(0:Nat)<=64;omega,λc=>absurd rfl c,λ_=>rfl⟩,λx b=>?_,λp hp=>by simp at hp,rfl⟩
     simp only[cW,aS]at b
     obtain⟨y,g,rfl⟩:=b
     exact Py d y _ (h'.2.2.1 y g)
    ·exact h
   ·split
    ·rw[Dc]
     refine⟨rfl,⟨by show(0:Nat)<=64;omega,?_,λ_=>rfl,λc=>absurd rfl c⟩,λx b=>by simp at b,λp hp=>?_,?_⟩
     ·have:=Ana (D4 s) (Ko s) v.f
      show(v.f.flatMap (D4 s)).length <=64
      have:=h'.2.1.2.1
      omega
     ·simp only[cR,cE]at hp
      obtain⟨q,i,hp⟩:=hp
      have j:=Om hp
      have a:=h'.2.2.2.1 q i
      rw[j]
      refine⟨a.1,?_⟩
      unfold D4 at hp
      split at hp
      ·simp at hp
      ·split at hp
       ·simp only[bR]at hp
        subst hp
        exact Py d q.2 _ a.2
       ·simp at hp
     ·exact S5 _ (Rt (D4 s) (λp q h=>Om h) (Ko s) v.f e.strict)
    ·exact h
  ·exact h
theorem Aqg: ∀ (v:Val) (s:Sch),(Ba v s).size <=v.size:=by
 refine eS λv a b s=>?_
 have e: ∀ (t:Sch) (l:List Val),(∀x∈l,∀s,(Ba x s).size <=x.size)->Cv (l.map λx=>Ba x t)<=Cv l:=by
  intro t l
  induction l with
  | nil=>intro _;simp[Cv]
  | cons x l c=>
   intro h
   have g:=h x (by simp) t
   have i:=c λy d=>h y (by simp[d])
   simp only[aK,Cv];omega
 have j: ∀ (l:List (ByteArray × Val)),(∀p∈l,∀s,(Ba p.2 s).size <=p.2.size)->B4 (l.flatMap (D4 s))<=B4 l:=by
  intro l
  induction l with
  | nil=>intro _;simp[B4]
  | cons p l c=>
   intro h
   have i:=c λy d=>h y (by simp[d])
   have m:B4 (D4 s p)<=p.2.size:=by
    unfold D4
    split
    ·simp[B4]
    ·split
     ·next t _=>have g:=h p (by simp) t;simp only[B4];omega
     ·simp[B4]
   rw[aV,Og]
   simp only[B4];omega
 rw[Gd]
 split
 ·split
  ·split
   ·have:=e (s.it.headD Bh) v.l a
    rw[iC,v.size_eq]
    simp only[cW,cR,B4];omega
   ·exact aQ _
  ·split
   ·have:=j v.f b
    rw[iC,v.size_eq]
    simp only[cW,cR,Cv];omega
   ·exact aQ _
 ·exact aQ _
theorem Akg {v:Val}(s:Sch)(h:v.valid=true):(Ba v s).valid =true:=by
 rw[Ew]at h ⊢
 have:=Aqg v s
 exact⟨Py 12 v s h.1,by omega⟩
end Go.CT.Sch.D
namespace Go.CT.Sch
open Go.Proofs
def Aur (x:IV):Prop:= ∃t c,x= .agg [.str t,.int c]
theorem Ax5 (p:List Stp)(c:Int):Aur (Jc p c):=⟨_,_,rfl⟩
theorem Au7: ∀ (v:Val) (s:Sch) (p:List Stp),∀x∈Jy v s p,Aur x:=by
 refine eS λv e g s p=>?_
 have sing: ∀ (q:List Stp) (c:Int),∀x∈ [Jc q c],Aur x:=λq c x b=>by simp at b;subst b;exact Ax5 q c
 have nil: ∀x∈([]:List IV),Aur x:=λx b=>by simp at b
 have i: ∀n,∀x∈Wh p s n,Aur x:=λn=>by
  unfold Wh;split
  ·exact sing _ _
  ·exact nil
 have j: ∀ (l:List Val),(∀x∈l,∀s p,∀y∈Jy x s p,Aur y)-> ∀key t prev,∀y∈K3 l key t p prev,Aur y:=by
  intro l
  induction l with
  | nil=>intro _ key t prev y a;rw[K1]at a;simp at a
  | cons x l m=>
   intro h key t prev y a
   rw[Hc,bW,bW]at a
   rcases a with (a | a) | a
   ·exact h x (by simp) _ _ y a
   ·unfold Aop at a
    split at a
    ·exact sing _ _ y a
    ·simp at a
   ·exact m (λz o=>h z (by simp[o])) key t _ y a
 have r: ∀y∈Mk v.f s p,Aur y:=by
  intro y a
  rw[Mu,cE]at a
  obtain⟨x,b,a⟩:=a
  unfold Aew at a
  split at a
  ·exact sing _ _ y a
  ·split at a
   ·simp at a
   ·exact g x b _ _ y a
 have u: ∀y∈s.f.flatMap (Ke v p),Aur y:=by
  intro y a
  rw[cE]at a
  obtain⟨d,_,a⟩:=a
  unfold Ke at a
  split at a
  ·exact sing _ _ y a
  ·simp at a
 rw[Ji]
 split
 ·split
  ·exact i _
  ·split
   ·split
    ·exact sing _ _
    ·split
     ·exact sing _ _
     ·exact nil
   ·split
    ·intro x b
     rcases bW.1 b with b | b
     ·exact i _ x b
     ·exact j v.l e _ _ _ x b
    ·split
     ·intro x b
      rcases bW.1 b with b | b
      ·exact r x b
      ·exact u x b
     ·exact nil
 ·exact sing _ _
def chk (s:Sch)(v:Val):List IV:=if s.valid&&v.valid then Jy v s []else[.agg [.str Am,.int 1]]
theorem Aya (s:Sch)(v:Val)(b:s.Ap<=1048576)(c:v.Ap<=1048576):W 123 0 [s.enc,v.enc]=some [.list (chk s v)]:=by
 rw[A12.j]
 unfold chk
 simp only[Qe s b,I3 v (by omega),bT,dP,aA,aU,Aw,Al,dB,dO]
 cases a:s.valid with
 | false=>rfl
 | true=>
  cases v.valid with
  | false=>rfl
  | true=>simp[Ah5 v c s (dS a) b]
theorem Asw (s:Sch)(v:Val)(b:s.Ap<=1048576)(c:v.Ap<=1048576):W 37 0 [s.enc,v.enc]=some [.list (chk s v)]:=by
 rw[A4.o]
 unfold chk
 simp only[Qq s b,T0 v (by omega),bT,dP,aA,aU,Aw,Al,dB,dO]
 cases a:s.valid with
 | false=>rfl
 | true=>
  cases v.valid with
  | false=>rfl
  | true=>
   have:=Apt v c s (dS a) b [] (by simp) (by simp;omega)
   simp only[aN]at this
   simp[this]
end Go.CT.Sch
namespace Go.CT.Sch
open Go.Proofs
theorem A3r (l:List SFld)(i:Nat)(c:i<l.length):fD 4 7 true false (.list (l.map bQ)) (.int i) l[i].s.enc =some (.list (l.map bQ)):=by
 have a:(l.map bQ)[i]?=some (bQ l[i]):=by grind
 have d:(l.map bQ).set i (bQ l[i])=l.map bQ:=by
  rw[<-gF,cS]
 unfold fD
 simp only[fM,aT,Zt,aW,a,aB,Zf]
 rw[l[i].s.E0]
 simp only[bQ]
 have b:l[i].s.Gg.length =7:=rfl
 simp only[b,Zt]
 congr 2
theorem A43 (l:List SFld)(i:Nat)(b:i<l.length):fD 3 1 false false (.list (l.map bQ)) (.int i) (.list (l[i].df.map bJ))=some (.list (l.map bQ)):=by
 have a:(l.map bQ)[i]?=some (bQ l[i]):=by grind
 have c:(l.map bQ).set i (bQ l[i])=l.map bQ:=by
  rw[<-gF,cS]
 unfold fD
 simp only[fM,aT,Zt,aW,a,aB,Zf]
 simp only[bQ]
 congr 2
theorem Sch.C9 (s:Sch):IV.agg [.int s.k,.int s.mn,.int s.mx,.list (s.en.map .str),.str s.key,.list (s.it.map cV),.list (s.f.map bQ)]=s.enc:=by
 rw[s.E0,s.Bm]
theorem Ags:IV.agg [.int 0,.int 0,.int 0,.list [],.str Am,.list [],.list []]=Bh.enc:=rfl
theorem Ya {β:Type}{a b c d e g h:IV}{f:IV->IV->IV->IV->IV->IV->IV->Option β} :calls (some [a,b,c,d,e,g,h]) 7 f=f a b c d e g h:=rfl
theorem A2l {β:Type}{a b c d e g h i:IV}{f:IV->IV->IV->IV->IV->IV->IV->IV->Option β} :calls (some [a,b,c,d,e,g,h,i]) 8 f=f a b c d e g h i:=rfl
theorem Abh (s:Sch)(u:s.Ap<=1048576)(d e g j m o q r a b:IV)(t: ∀p∈s.f,W 180 0 [p.s.enc]=some p.s.Gg): ∀ (n i:Nat),i+n=s.f.length->
  W 180 2 [.int s.f.length,.int i,d,e,g,j,m,o,q,r,.list (s.f.map bQ),a,b]=some [d,e,g,a,j,b,.list (s.f.map bQ)]
 | 0,i,h=>by
  rw[A18.b]
  simp_all
 | n+1,i,h=>by
  have c:i<s.f.length:=by omega
  have y:=s.Bd
  have w:=Be (i:=i) (by omega)
  have x:=iG (aE c)
  have:=Abh s u d e g j m o q r a b t n (i+1) (by omega)
  have hd:=Afh s.f[i].df (by omega)
  rw[dC]at hd
  rw[A18.b]
  simp only[dZ,Ao,c,Zd,aA,aU,Zt,eY,aT,aW,bG,aL c,aH,eR,t _ (aE c),gJ,Ya,dB,Sch.C9,A3r s.f i c,SFld.Cj,hd,gC,cW,A43 s.f i c,fJ,w,this]
theorem Ac3 (s:Sch)(u:s.Ap<=1048576)(e g j m o q r a b:IV)(t: ∀x∈s.it,W 180 0 [x.enc]=some x.Gg): ∀ (n i:Nat),i+n=s.it.length->
  W 180 1 [.int s.it.length,.int i,e,g,j,m,.list (s.f.map bQ),o,q,r,a,.list (s.it.map cV),b]=W 180 2 [.int s.f.length,.int (0:Nat),e,g,j,m,o,q,r,a,.list (s.f.map bQ),b,.list (s.it.map cV)]
 | 0,i,h=>by
  rw[A18.a]
  have w: ¬ i<s.it.length:=by omega
  have A:=s.Bd
  have y:(s.f.map bQ).length <=1073741824:=by grind
  simp only[dZ,Ao,w,Ze,aA,aU,aB,Zf,A7e,D2 y,bT,eU,aI]
  rfl
 | n+1,i,h=>by
  have d:i<s.it.length:=by omega
  have B:=s.R2
  have z:=Be (i:=i) (by omega)
  have:=Ac3 s u e g j m o q r a b t n (i+1) (by omega)
  have c:fD 0 7 true true (.list (s.it.map cV)) (.int i) s.it[i].enc =some (.list (s.it.map cV)):=by
   rw[show(IV.list (s.it.map cV))=eM cV s.it from rfl,iJ cV d,cS]
  rw[A18.a]
  simp only[dZ,Ao,d,Zd,aA,aU,Zt,eY,aT,aW,bG,aL d,aH,t _ (aE d),gJ,Ya,dB,Sch.C9,c,fJ,z,this]
theorem Axz: ∀s:Sch,s.Ap<=1048576->W 180 0 [s.enc]=some s.Gg:=by
 refine Sch.ind λs a b d=>?_
 have e:=Ac3 s d (.int s.k) (.int s.mn) (.int s.mx) (.str s.key) (.int 0) (.int 0) (.int 0) (.str ⟨#[]⟩) (.list (s.en.map .str)) (λx g=>a x g (by have:=fH g;omega)) s.it.length 0 (by omega)
 have h:=Abh s d (.int s.k) (.int s.mn) (.int s.mx) (.str s.key) (.int 0) (.int 0) (.int 0) (.str ⟨#[]⟩) (.list (s.en.map .str)) (.list (s.it.map cV)) (λp hp=>b p hp (by have:=iG hp;omega)) s.f.length 0 (by omega)
 rw[h]at e
 rw[A17.p]
 have j:=s.R2
 have m:=s.Kt
 have i:(s.it.map cV).length <=1073741824:=by grind
 have c:(s.en.map IV.str).length <=1073741824:=by grind
 simp only[dQ,iD,iE,iF,eA,dN,eT,aA,A4a,A7g,D2 i,D2 c,bT,eU,aI]
 rw[gJ]
 exact e
theorem A3a (s:Sch)(x:Stp)(w:s.Ap<=1048576)(e:SB s):W 179 0 [s.enc,x.enc]=some [((Pt s x).getD Bh).enc,.bool (Pt s x).isSome]:=by
 have a:=Ad8 s x.nm (by omega)
 have g:=Amj s
 rw[A17.o]
 simp only[iH,iI,aA,bU,aU,g,bT,Aw,Al,dN,eA,dQ,dB]
 unfold Pt
 by_cases k1:x.k=1
 ·simp only[k1,Zd,Zt]
  by_cases c:s.k=5
  ·simp only[c,Zd,bK,Zt]
   cases b:s.it with
   | nil=>
    rw[b]at a
    simp only[c,bH,and_self,Zd,bK,Zt]at a
    simp only[bH,Nat.lt_irrefl,Ze,aB,Zf,a,eL,eR,aA]
    unfold Du
    rw[b]
    cases s.fld x.nm with
    | none=>rfl
    | some d=>rfl
   | cons t r=>
    simp[Du,b]
  ·have o: ¬ (s.k=5/\s.it.length=0):=λh=>c h.1
   simp only[o,Ze,Zf,cO]at a
   simp only[c,Ze,cO,aB,Zf,a,eL,eR,aA]
   rfl
 ·simp only[k1,Ze,aB,Zf]
  by_cases i:s.k=4
  ·obtain⟨t,q⟩:=aX.1 (e.list i)
   simp only[i,Zd,Zt,gW,gH,aA,aU,Aw,Al,q,aK,aN,eY,eD,dH,bY,eI,Ds]
   by_cases k2:x.k=2
   ·simp[k2]
   ·by_cases j:x.k=3
    ·by_cases m:s.key=Am
     ·simp[j,m];rfl
     ·by_cases u:s.key=x.nm
      ·grind
      ·simp[j,m,u];rfl
    ·simp[k2,j];rfl
  ·simp only[i,Ze,aB,Zf]
   rfl
theorem Aok {s t:Sch}{x:Stp}(h:SB s)(a:Pt s x=some t):SB t:=by
 unfold Pt at a
 split at a
 ·split at a
  ·exact h.sub a
  ·cases a
 ·split at a
  ·split at a
   ·exact h.I4 (List.mem_of_mem_head? a)
   ·cases a
  ·cases a
def A66 (o:Option Sch):List IV:=(o.getD Bh).Gg ++ [.bool o.isSome]
theorem Avd (p:List Stp)(o:p.length<=1099511627776)(e g j m:IV): ∀ (n i:Nat) (s:Sch),i+n=p.length->s.Ap<=1048576->SB s->
  W 178 1 [.list (p.map cG),.int p.length,.int i,s.enc,e,g,j,m]=some (A66 (atS s (p.drop i)))
 | 0,i,s,h,c,a=>by
  have q: ¬ i<p.length:=by omega
  rw[A17.n,aY (by omega)]
  simp only[dZ,Ao,q,Ze,aA,aU,aB,Zf,Axz s c,gJ,Ya,atS,A66,aG,bF]
  rfl
 | n+1,i,s,h,c,a=>by
  have d:i<p.length:=by omega
  have r:=Be (i:=i) (by omega)
  rw[A17.n,aC d]
  simp only[dZ,Ao,d,Zd,aA,aU,Zt,eY,aT,aW,bG,aL d,aH,A3a s p[i] c a,eL,dP,atS,fJ,r]
  cases b:Pt s p[i]with
  | none=>rfl
  | some t=>
   have:=Avd p o e g j m n (i+1) t (by omega) (by have:=Abo b;omega) (Aok a b)
   grind
def atV (s:Sch)(p:List Stp):Option Sch:=if s.valid&&C3 p then atS s p else none
theorem A77 (s:Sch)(p:List Stp)(b:s.Ap<=1048576)(hp: ∀x∈p,x.fits)(c:p.length<=1099511627776):W 178 0 [s.enc,.list (p.map cG)]=some (A66 (atV s p)):=by
 rw[A17.m]
 unfold atV
 simp only[Qe s b,To p hp c,bT,dP,aA,aU,Aw,Al,eU,aI]
 cases a:s.valid with
 | false=>rfl
 | true=>
  cases C3 p with
  | false=>rfl
  | true=>
   have:=Avd p c (.int 0) (.int 0) (.int 0) (.str ⟨#[]⟩) p.length 0 s (by omega) b (dS a)
   grind
theorem Ape (p:List Stp)(u:p.length<=1099511627776)(e g j m:IV): ∀ (n i:Nat) (s:Sch),i+n=p.length->s.Ap<=1048576->SB s->
  W 242 1 [.list (p.map cG),.int i,s.enc,e,g,j,m]=some [((atS s (p.drop i)).getD Bh).enc,.bool (atS s (p.drop i)).isSome]
 | 0,i,s,h,w,b=>by
  have x: ¬ i<p.length:=by omega
  rw[A26.a,aY (by omega)]
  simp only[eU,aI,dZ,Ao,x,Ze,aA,aU,aB,Zf,atS,aG,bF]
 | n+1,i,s,h,w,b=>by
  have c:i<p.length:=by omega
  have y:=Be (i:=i) (by omega)
  have o:=Aal s p[i].nm (by omega)
  have next: ∀t,Pt s p[i]=some t->W 242 2 [.list (p.map cG),.int i,t.enc,e,g,j,m]=some [((atS s (p.drop i)).getD Bh).enc,.bool (atS s (p.drop i)).isSome]:=by
   intro t a
   rw[A26.b]
   simp only[fJ,y,aA]
   rw[Ape p u e g j m n (i+1) t (by omega) (by have:=Abo a;omega) (Aok b a),aC c]
   simp only[atS,a,aA]
  have stop:Pt s p[i]=none->some [Bh.enc,IV.bool false]=some [((atS s (p.drop i)).getD Bh).enc,.bool (atS s (p.drop i)).isSome]:=by
   intro a
   rw[aC c]
   simp only[atS,a]
   rfl
  rw[A26.a]
  simp only[eU,aI,dZ,Ao,c,Zd,aA,aU,Zt,eY,aT,aW,bG,aL c,aH,iH,iI,o,eL,bU,dQ,eA,dN,Aw,Al,O.Aap,eR,gW,gH,dB,Ags,Ds]
  unfold Pt at next stop
  by_cases k1:p[i].k =1
  ·simp only[k1,Zt]at next stop
   by_cases z:s.k=5
   ·simp only[z,Zt]at next stop
    cases q:s.it with
    | nil=>
     unfold Du at next stop
     rw[q]at next stop
     cases C:s.fld p[i].nm with
     | none=>
      grind
     | some d=>
      grind
    | cons t r=>
     have A:r= []:=by have:=b.one;simp_all
     subst A
     unfold Du at next
     grind
   grind
  ·simp only[k1,Zf]at next stop
   by_cases B:s.k=4
   ·obtain⟨t,F⟩:=aX.1 (b.list B)
    grind
   grind
theorem A4t (s:Sch)(p:List Stp)(b:s.Ap<=1048576)(hp: ∀x∈p,x.fits)(c:p.length<=1099511627776):W 242 0 [s.enc,.list (p.map cG)]=some [((atV s p).getD Bh).enc,.bool (atV s p).isSome]:=by
 rw[A25.p]
 unfold atV
 simp only[Qq s b,Mp p hp c,bT,dP,aA,aU,Aw,Al,dB,Ns]
 cases a:s.valid with
 | false=>rfl
 | true=>
  cases C3 p with
  | false=>rfl
  | true=>
   have:=Ape p c (.int 0) (.int 0) (.int 0) (.str ⟨#[]⟩) p.length 0 s (by omega) b (dS a)
   grind
end Go.CT.Sch
namespace Go.CT.Sch
open Go.Proofs
def Ho:List ByteArray->Bool
 | []=>true
 | [_]=>true
 | a::b::l=>blt a b&&Ho (b::l)
theorem prv {i:Nat}(h:i<4611686018427387904):O.sub .i64 (.int ((i+1:Nat):Int)) (.int 1)=some (.int (i:Nat)):=by
 rw[O.C7,wrap64 (by omega) (by omega)]
 congr 2
 omega
theorem Apy (l:List ByteArray)(d:l.length<=1099511627776): ∀ (n i:Nat),i+1+n=l.length->W 121 1 [.list (l.map .str),.int ((i+1:Nat):Int)]=some [.bool (Ho (l.drop i))]
 | 0,i,h=>by
  have a:i<l.length:=by omega
  have hd:l.drop i= [l[i]]:=by
   rw[aC a,dW (by omega)]
  have e:i+1=l.length:=by omega
  rw[A12.g,Gi,hd]
  simp only[aA,e,ltn,aU,aB,Zf]
  rfl
 | n+1,i,h=>by
  have a:i<l.length:=by omega
  have b:i+1<l.length:=by omega
  have hd:l.drop i=l[i]::l[i+1]::l.drop (i+1+1):=by
   rw[aC a,aC b]
  have c:=Apy l d n (i+1) (by omega)
  rw[aC b]at c
  rw[A12.g,Gi,hd]
  simp only[aA,lti b,aU,Zt,prv (i:=i) (by omega),I9 _ a,I9 _ b,Ud,nxt (i:=i+1) (by omega),c,Ho]
  cases blt l[i] l[i+1]<;>simp
theorem A0q (l:List ByteArray)(b:l.length<=1099511627776):W 121 0 [.list (l.map .str)]=some [.bool (Ho l)]:=by
 rw[A12.f]
 match l,b with
 | [],_=>rw[A12.g];rfl
 | a::l,b=>
  have:=Apy (a::l) b l.length 0 (by simp[Nat.add_comm])
  simp only[gD,aF]at this
  exact this
def Lq (s:ByteArray):Bool:=decide (1<=s.size)&&decide (s.size<=40)
theorem Avl (s:ByteArray):W 120 0 [.str s]=some [.bool (Lq s)]:=by
 rw[A12.e]
 have a:O.ge (.int (s.size:Int)) (.int 1)=some (.bool (decide (1<=s.size))):=by rw[O.Hu];congr 2;exact decide_eq_decide.2 (by omega)
 have b:O.le (.int (s.size:Int)) (.int 40)=some (.bool (decide (s.size<=40))):=by rw[O.Gk];congr 2;exact decide_eq_decide.2 (by omega)
 simp only[O.Bq,aA,a,aU,b,Lq]
 cases decide (1<=s.size)<;>simp
theorem A6d (s:ByteArray):W 41 0 [.str s]=some [.bool (Lq s)]:=by
 rw[A5.h]
 have a:O.ge (.int (s.size:Int)) (.int 1)=some (.bool (decide (1<=s.size))):=by rw[O.Hu];congr 2;exact decide_eq_decide.2 (by omega)
 have b:O.le (.int (s.size:Int)) (.int 40)=some (.bool (decide (s.size<=40))):=by rw[O.Gk];congr 2;exact decide_eq_decide.2 (by omega)
 simp only[O.Bq,aA,a,aU,b,Lq]
 cases decide (1<=s.size)<;>simp
end Go.CT.Sch
namespace Go.CT.Sch
open Go.Proofs
def okM (m:Mgr):Bool:=Lq m.name&& !decide (m.paths.length=0)&&Ho m.paths
def Q6 (l:List Mgr):Bool:=l.all okM&&(decide (l.length<=16)&&Ho (l.map Mgr.name))
theorem Akd (m:Mgr):fX 0 m.enc=some (.str m.name):=rfl
theorem Ari (m:Mgr):fX 1 m.enc=some (.list (m.paths.map .str)):=rfl
theorem eq0 (n:Nat):O.eq (.int (n:Int)) (.int 0)=some (.bool (decide (n=0))):=by rw[bU];congr 2;exact decide_eq_decide.2 (by omega)
theorem An2 (l:List Mgr)(d:l.length<=1048576)(hp: ∀m∈l,m.paths.length<=1099511627776): ∀ (n i:Nat) (acc:List ByteArray),i+n=l.length->acc.length=i->
  W 119 1 [.list (l.map Mgr.enc),.list (l.map Mgr.enc),.int (l.length:Nat),.int (i:Nat),.list (acc.map .str)]=some [.bool ((l.drop i).all okM&&(decide (l.length<=16)&&Ho (acc++(l.drop i).map Mgr.name)))]
 | 0,i,acc,h,c=>by
  have a:i=l.length:=by omega
  subst a
  have e:O.le (.int (l.length:Int)) (.int 16)=some (.bool (decide (l.length<=16))):=by rw[O.Gk];congr 2;exact decide_eq_decide.2 (by omega)
  rw[A12.d]
  simp only[ltn,aA,aU,aB,Zf,Gi,e,A0q acc (by omega),bT,aM,dD,bK,aN,aP]
  cases decide (l.length<=16)<;>simp
 | n+1,i,acc,h,c=>by
  have a:i<l.length:=by omega
  have g:=An2 l d hp n (i+1) (acc++ [l[i].name]) (by omega) (by simp[c])
  have ap:=apm IV.str (n:=16) acc l[i].name (by omega)
  have b:=hp _ (aE a)
  rw[A12.d,aC a]
  simp only[lti a,aA,aU,Zt,I9 _ a,Akd,Ari,Avl,bT,dP,Gi,eq0,A0q _ b,dO,ap,nxt (i:=i) (by omega),g,cY,okM,aK,bI,bC]
  cases Lq l[i].name<;>cases decide (l[i].paths.length =0)<;>cases Ho l[i].paths<;>simp
theorem A0a (l:List Mgr)(a:l.length<=1048576)(hp: ∀m∈l,m.paths.length<=1099511627776):W 119 0 [.list (l.map Mgr.enc)]=some [.bool (Q6 l)]:=by
 have:=An2 l a hp l.length 0 [] (by omega) rfl
 simp only[aD,aF,bE,aN]at this
 rw[A12.c,Gi]
 exact this
theorem A0x (l:List Mgr)(i:Nat)(c:i<l.length)(g:l.length<=1048576)(hp:l[i].paths.length <=1099511627776): ∀ (n j:Nat),j+1+n=l[i].paths.length ->
  W 40 2 [.list (l.map Mgr.enc),.int (i:Nat),.int ((j+1:Nat):Int)]=if Ho (l[i].paths.drop j) then W 40 1 [.list (l.map Mgr.enc),.int ((i+1:Nat):Int)]else some [.bool false]
 | 0,j,h=>by
  have a:j<l[i].paths.length :=by omega
  have hd:l[i].paths.drop j= [l[i].paths[j]]:=by
   rw[aC a,dW (by omega)]
  have m:j+1=l[i].paths.length :=by omega
  rw[A5.g,hd]
  simp only[I9 _ c,aA,Ari,Gi,m,ltn,aU,aB,Zf,nxt (i:=i) (by omega),Ho,Zt]
 | n+1,j,h=>by
  have a:j<l[i].paths.length :=by omega
  have b:j+1<l[i].paths.length :=by omega
  have hd:l[i].paths.drop j=l[i].paths[j]::l[i].paths[j+1]::l[i].paths.drop (j+1+1):=by
   rw[aC a,aC b]
  have d:=A0x l i c g hp n (j+1) (by omega)
  rw[aC b]at d
  rw[A5.g,hd]
  simp only[I9 _ c,aA,Ari,Gi,lti b,aU,Zt,prv (i:=j) (by omega),I9 _ a,I9 _ b,Ud,nxt (i:=j+1) (by omega),d,Ho]
  by_cases e:blt l[i].paths[j] l[i].paths[j+1]=true
  ·simp[e,Ho]
  ·simp[e]
theorem A0i (l:List Mgr)(j:l.length<=1048576)(hp: ∀m∈l,m.paths.length<=1099511627776): ∀ (n i:Nat),i+n=l.length->
  W 40 1 [.list (l.map Mgr.enc),.int (i:Nat)]=some [.bool ((l.drop i).all okM&&Ho ((l.drop (i - 1)).map Mgr.name))]
 | 0,i,h=>by
  have b:i=l.length:=by omega
  subst b
  have q:Ho ((l.drop (l.length - 1)).map Mgr.name)=true:=by
   by_cases a:l.length=0
   ·rw[cJ.1 a];rfl
   ·rw[aC (by omega),dW (by omega)];rfl
  rw[A5.f]
  simp only[Gi,ltn,aA,aU,aB,Zf,q,aM,dD,bK]
 | n+1,i,h=>by
  have b:i<l.length:=by omega
  have r:=A0i l j hp n (i+1) (by omega)
  have c:=hp _ (aE b)
  have d:l[i].paths.length ≠0->W 40 2 [.list (l.map Mgr.enc),.int (i:Nat),.int 1]=if Ho l[i].paths then some [.bool ((l.drop (i+1)).all okM&&Ho ((l.drop i).map Mgr.name))]else some [.bool false]:=by
   intro a
   have:=A0x l i b j c (l[i].paths.length - 1) 0 (by omega)
   rw[r]at this
   simpa only[gD,fY,aF,aD]using this
  rw[A5.f,aC b]
  simp only[Gi,lti b,aA,aU,Zt,I9 _ b,Akd,Ari,A6d,bT,dP,eq0,cY,okM]
  cases i with
  | zero=>
   have g:iO (.int ((0:Nat):Int)) (.int 0)=some (.bool false):=rfl
   simp only[g,aA,aU,aB,Zf]
   rw[show l.drop (0 - 1)=l.drop 0 from rfl]
   cases Lq l[0].name
   ·simp
   ·by_cases a:l[0].paths.length =0
    ·simp[a]
    ·simp only[a,Ze,d a]
     cases Ho l[0].paths<;>simp
  | succ k=>
   have o:k<l.length:=by omega
   have g:iO (.int ((k+1:Nat):Int)) (.int 0)=some (.bool true):=by rw[gX];congr 2;exact decide_eq_true (by omega)
   have hd:(l.drop (k+1 - 1)).map Mgr.name=l[k].name ::(l.drop (k+1)).map Mgr.name:=by
    rw[fY,aC o,aK]
   have e:(l.drop (k+1)).map Mgr.name=l[k+1].name ::(l.drop (k+1+1)).map Mgr.name:=by
    rw[aC b,aK]
   simp only[g,aA,aU,Zt,prv (i:=k) (by omega),I9 _ o,Akd,Ud,hd]
   rw[e]at d ⊢
   simp only[Ho]
   cases Lq l[k+1].name
   ·simp
   ·cases blt l[k].name l[k+1].name
    ·simp
    ·by_cases a:l[k+1].paths.length =0
     ·simp[a]
     ·simp only[a,Ze,d a]
      cases Ho l[k+1].paths<;>simp
theorem A8g (l:List Mgr)(a:l.length<=1048576)(hp: ∀m∈l,m.paths.length<=1099511627776):W 40 0 [.list (l.map Mgr.enc)]=some [.bool (Q6 l)]:=by
 have:=A0i l a hp l.length 0 (by omega)
 simp only[aD,aF,Nat.zero_sub]at this
 have g:iO (.int (l.length:Int)) (.int 16)=some (.bool (!decide (l.length<=16))):=by
  rw[gX];congr 2
  by_cases h:l.length<=16
  ·simp only[h,Zd,bB];exact decide_eq_false (by omega)
  ·simp only[h,Ze,bP];exact decide_eq_true (by omega)
 rw[A5.e,Gi]
 simp only[aA,g,aU,this,Q6]
 cases decide (l.length<=16)<;>simp
end Go.CT.Sch
namespace Go.CT.Sch
open Go.Proofs
theorem Apv (s:Sch)(v:Val)(a:v.Ap<=1048576):W 125 0 [s.enc,v.enc]=some [.str (Cw v s.key),.bool (isKey v s.key)]:=by
 rw[A12.n]
 unfold Cw isKey
 simp only[eA,Abk v s.key (by omega),Ja,Jl,aU,bU,aA,Aw,Al]
 cases(v.get s.key).isSome<;>simp
def Dw (s:Sch):Bool:=decide (s.k=4)&& !decide (s.key=Am)
theorem Aef (s:Sch):W 126 0 [s.enc]=some [.bool (Dw s)]:=by
 rw[A12.o]
 simp only[dQ,eA,aA,bU,gW,aU,Aw,Al,Dw]
 by_cases h:s.k=4<;>simp[h,Am]
 all_goals rfl
theorem Abe (s:Sch)(nm:ByteArray)(g:s.Ap<=1048576)(a b c d:IV): ∀ (n i:Nat),i+n=s.f.length->
  W 127 1 [.str nm,.list (s.f.map bQ),.int (s.f.length:Nat),.int (i:Nat),a,b,c,d]=some [oE (((s.f.drop i).find? λp=>decide (p.nm=nm)).map (·.s)),.bool ((s.f.drop i).find? λp=>decide (p.nm=nm)).isSome]
 | 0,i,h=>by
  have e:i=s.f.length:=by omega
  subst e
  rw[A13.a,aM]
  simp only[ltn,aA,aU,aB,Zf]
  rfl
 | n+1,i,h=>by
  have e:i<s.f.length:=by omega
  have m:s.f.length<=1048576:=by have:=s.Bd;omega
  have j:=Abe s nm g a b c d n (i+1) (by omega)
  rw[A13.a,aC e,bN]
  simp only[lti e,aA,aU,Zt,I9 bQ e,gO,gH,eR,nxt (show i<4611686018427387904 by omega),j]
  by_cases c:s.f[i].nm =nm
  ·simp[c,oE]
  ·have c':decide (s.f[i].nm =nm)=false:=by simpa using c
   simp only[c',aB,Zf]
theorem Apq (s:Sch)(nm:ByteArray)(d:s.Ap<=1048576)(a:SB s):W 127 0 [s.enc,.str nm]=some [oE (Du s nm),.bool (Du s nm).isSome]:=by
 have b:=a.one
 have:=Abe s nm d (.int 0) (.int 0) (.int 0) (.str ⟨#[]⟩) s.f.length 0 (by omega)
 simp only[aF,aD]at this
 rw[A12.p]
 simp only[dN,eT,aA,Gi,bU,aU]
 unfold Du
 cases c:s.it with
 | nil=>
  have e:decide (((([]:List Sch).length :Nat):Int)=1)=false:=by decide
  simp only[e,aB,Zf,gA]
  exact this
 | cons t ts=>
  have g:ts= []:=by rw[c]at b;simp at b;exact b
  subst g
  simp[oE]
end Go.CT.Sch
namespace Go.CT.Sch
open Go.Proofs
theorem Amr {s t:Sch}{nm:ByteArray}(h:Du s nm=some t):t.Ap<s.Ap:=by
 rcases Nd h with h | ⟨p,hp,_,rfl⟩
 ·exact fH h
 ·have:=iG hp;omega
def Aiv (s:Sch)(x:Val):Bool:= !Dw s||isKey x s.key
def kyB:Nat->Sch->Val->Bool
 | 0,_,_=>true
 | d+1,s,v=>if s.k=v.k then(v.l.all λx=>Aiv s x&&((s.it.head?).map λt=>kyB d t x).getD true)&&(v.f.all λp=>((Du s p.1).map λt=>kyB d t p.2).getD true) else true
def KyP (d:Nat):Prop:= ∀ (v:Val) (s:Sch),v.size<=d->v.Ap<=1048576->s.Ap<=1048576->SB s->W 124 0 [s.enc,v.enc]=some [.bool (kyB d s v)]
theorem Asx (d:Nat)(e:KyP d)(v:Val)(s:Sch)(hd:v.size<=d+1)(m:v.Ap<=1048576)(g:s.Ap<=1048576)(c:SB s): ∀ (n i:Nat),i+n=v.f.length->
  W 124 2 [.list (v.f.map aZ),.int (v.f.length:Nat),.int (i:Nat),s.enc]=some [.bool ((v.f.drop i).all λp=>((Du s p.1).map λt=>kyB d t p.2).getD true)]
 | 0,i,h=>by
  have:i=v.f.length:=by omega
  subst this
  rw[A12.m,aM]
  simp only[ltn,aA,aU,aB,Zf,dD]
 | n+1,i,h=>by
  have b:i<v.f.length:=by omega
  have o:=v.Bd
  have j:=aE b
  have u:=fT j
  have w:=gR j
  have r:=Asx d e v s hd m g c n (i+1) (by omega)
  rw[A12.m,aC b,cY]
  simp only[lti b,aA,aU,Zt,I9 aZ b,fU,Apq s _ g c,eL,fI,nxt (show i<4611686018427387904 by omega),r]
  cases a:Du s v.f[i].1 with
  | none=>simp
  | some t=>
   have:=Amr a
   have q:=e v.f[i].2 t (by omega) (by omega) (by omega) (c.sub a)
   simp only[bF,Zt,oE,aG,q,bT,dP,aA,aH,aU]
   cases kyB d t v.f[i].2<;>simp
theorem Axb (d:Nat)(e:KyP d)(v:Val)(s:Sch)(hd:v.size<=d+1)(g:v.Ap<=1048576)(j:s.Ap<=1048576)(b:SB s): ∀ (n i:Nat),i+n=v.l.length->
  W 124 1 [.list (v.l.map bJ),.int (v.l.length:Nat),.int (i:Nat),s.enc,v.enc]=some [.bool (((v.l.drop i).all λx=>Aiv s x&&((s.it.head?).map λt=>kyB d t x).getD true)&&(v.f.all λp=>((Du s p.1).map λt=>kyB d t p.2).getD true))]
 | 0,i,h=>by
  have:i=v.l.length:=by omega
  subst this
  have q:=Asx d e v s hd g j b v.f.length 0 (by omega)
  simp only[aD,aF]at q
  rw[A12.l,aM]
  simp only[ltn,aA,aU,aB,Zf,dD,cN,Gi,q,bK]
 | n+1,i,h=>by
  have c:i<v.l.length:=by omega
  have y:=v.Bu
  have m:=aE c
  have z:=dM m
  have A:=gS m
  have r:=Axb d e v s hd g j b n (i+1) (by omega)
  have one:=b.one
  rw[A12.l,aC c,cY]
  simp only[lti c,aA,aU,Zt,I9 bJ c,Apv s _ (show v.l[i].Ap <=1048576 by omega),eL,Aef,bT,dP,dN,Gi,bU,nxt (show i<4611686018427387904 by omega),r,Aiv]
  cases a:s.it with
  | nil=>
   cases Dw s<;>cases isKey v.l[i] s.key<;>simp
  | cons t ts=>
   have u:ts= []:=by rw[a]at one;simp at one;exact one
   subst u
   have o:t∈s.it:=by rw[a];exact bR.2 rfl
   have:=fH o
   have q:=e v.l[i] t (by omega) (by omega) (by omega) (b.I4 o)
   have ix:hJ (.list ([t].map cV)) (.int 0)=some t.enc:=rfl
   have w:decide ((([t].length :Nat):Int)=1)=true:=rfl
   simp only[w,Zt,ix,aA,q,bT,dP,eI,aH,aG]
   cases Dw s<;>cases isKey v.l[i] s.key<;>cases kyB d t v.l[i]<;>simp
theorem A5c: ∀d,KyP d
 | 0=>λv _ h=>by have:=v.size_pos;omega
 | d+1=>λv s hd a b c=>by
  have q:=Axb d (A5c d) v s hd a b c v.l.length 0 (by omega)
  simp only[aD,aF]at q
  rw[A12.k]
  simp only[dQ,cT,aA,fG,aU,cH,Gi,q,kyB]
  by_cases h:s.k=v.k<;>simp[h]
end Go.CT.Sch
namespace Go.CT.Sch
open Go.Proofs
inductive VT:Val->Prop
 | mk (v:Val):(v.k≠4->v.l= [])->(v.k≠5->v.f= [])->(∀x∈v.l,VT x)->(∀p∈v.f,VT p.2)->VT v
theorem VT.nol {v:Val}(h:VT v):v.k≠4->v.l= []:=by cases h;assumption
theorem VT.nof {v:Val}(h:VT v):v.k≠5->v.f= []:=by cases h;assumption
theorem VT.Kk {v x:Val}(h:VT v)(a:x∈v.l):VT x:=by cases h with | mk _ c d b e=>exact b x a
theorem VT.J7 {v:Val}{p:ByteArray × Val}(h:VT v)(a:p∈v.f):VT p.2:=by cases h with | mk _ c d e b=>exact b p a
theorem Ace (s:Sch)(nm:ByteArray)(a b c d:IV): ∀ (n i:Nat),i+n=s.f.length->s.Ap<=1048576->
  W 39 1 [.str nm,.int (i:Nat),s.enc,a,b,c,d]=some [oE (((s.f.drop i).find? λp=>decide (p.nm=nm)).map (·.s))]
 | 0,i,h,g=>by
  have e:i=s.f.length:=by omega
  subst e
  rw[A5.d,aM]
  simp only[eT,Gi,ltn,aA,aU,aB,Zf]
  rfl
 | n+1,i,h,g=>by
  have e:i<s.f.length:=by omega
  have m:=s.Bd
  have j:=Ace s nm a b c d n (i+1) (by omega) g
  rw[A5.d,aC e,bN]
  simp only[eT,Gi,lti e,aA,aU,Zt,I9 bQ e,gO,gH,eR,nxt (show i<4611686018427387904 by omega),j]
  by_cases c:s.f[i].nm =nm
  ·simp[c,oE]
  ·have c':decide (s.f[i].nm =nm)=false:=by simpa using c
   simp only[c',aB,Zf]
theorem Aye (s:Sch)(nm:ByteArray)(b:s.Ap<=1048576):W 39 0 [s.enc,.str nm]=some [oE (Du s nm)]:=by
 have:=Ace s nm (.int 0) (.int 0) (.int 0) (.str ⟨#[]⟩) s.f.length 0 (by omega) b
 simp only[aF,aD]at this
 rw[A5.c]
 simp only[dN,aA,Gi,gX,aU]
 unfold Du
 cases c:s.it with
 | nil=>
  have a:decide ((0:Int)<((([]:List Sch).length :Nat):Int))=false:=by decide
  simp only[a,aB,Zf]
  exact this
 | cons t ts=>
  have a:decide ((0:Int)<((((t::ts):List Sch).length :Nat):Int))=true:=decide_eq_true (by simp only[cK];omega)
  simp only[a,Zt]
  rfl
def KyR (d:Nat):Prop:= ∀ (v:Val) (s:Sch),v.size<=d->v.Ap<=1048576->s.Ap<=1048576->SB s->VT v->W 38 0 [s.enc,v.enc]=some [.bool (kyB d s v)]
theorem Aq5 (v:Val)(a:VT v):W 38 0 [Bh.enc,v.enc]=some [.bool true]:=by
 rw[A4.p]
 simp only[dQ,cT,aA,fG,aU]
 by_cases h:Bh.k=v.k
 ·have d:v.k=0:=h.symm
  have b:=a.nol (by omega)
  have c:=a.nof (by omega)
  simp only[h,Zd,bB,aB,Zf]
  rw[A5.a]
  simp only[cH,b,aA]
  rw[A5.b]
  simp only[cN,c]
  rfl
 ·simp[h]
theorem Awy (d:Nat)(e:KyR d)(v:Val)(s:Sch)(hd:v.size<=d+1)(u:v.Ap<=1048576)(g:s.Ap<=1048576)(j:SB s)(m:VT v): ∀ (n i:Nat),i+n=v.f.length->
  W 38 2 [.int (i:Nat),s.enc,v.enc]=some [.bool ((v.f.drop i).all λp=>((Du s p.1).map λt=>kyB d t p.2).getD true)]
 | 0,i,h=>by
  have:i=v.f.length:=by omega
  subst this
  rw[A5.b,aM]
  simp only[cN,Gi,ltn,aA,aU,aB,Zf,dD]
 | n+1,i,h=>by
  have b:i<v.f.length:=by omega
  have w:=v.Bd
  have c:=aE b
  have x:=fT c
  have y:=gR c
  have o:=m.J7 c
  have r:=Awy d e v s hd u g j m n (i+1) (by omega)
  rw[A5.b,aC b,cY]
  simp only[cN,Gi,lti b,aA,aU,Zt,I9 aZ b,fU,Aye s _ g,bT,fI,nxt (show i<4611686018427387904 by omega),r]
  cases a:Du s v.f[i].1 with
  | none=>
   simp only[oE,dA,Aq5 _ o,bT,dP,aA,aU,cU]
   simp
  | some t=>
   have:=Amr a
   have q:=e v.f[i].2 t (by omega) (by omega) (by omega) (j.sub a) o
   simp only[oE,aG,q,bT,dP,aA,aH,aU]
   cases kyB d t v.f[i].2<;>simp
theorem Au3 (d:Nat)(o:KyR d)(v:Val)(s:Sch)(hd:v.size<=d+1)(w:v.Ap<=1048576)(y:s.Ap<=1048576)(j:SB s)(m:VT v)(z:s.k=v.k): ∀ (n i:Nat),i+n=v.l.length->
  W 38 1 [.int (i:Nat),s.enc,v.enc]=some [.bool (((v.l.drop i).all λx=>Aiv s x&&((s.it.head?).map λt=>kyB d t x).getD true)&&(v.f.all λp=>((Du s p.1).map λt=>kyB d t p.2).getD true))]
 | 0,i,h=>by
  have:i=v.l.length:=by omega
  subst this
  have q:=Awy d o v s hd w y j m v.f.length 0 (by omega)
  simp only[aD,aF]at q
  rw[A5.a,aM]
  simp only[cH,Gi,ltn,aA,aU,aB,Zf,dD,q,bK]
 | n+1,i,h=>by
  have b:i<v.l.length:=by omega
  have F:=v.Bu
  have u:=aE b
  have G:=dM u
  have H:=gS u
  have B:=m.Kk u
  have r:=Au3 d o v s hd w y j m z n (i+1) (by omega)
  have A:s.k=4:=by
   rw[z]
   by_cases c:v.k=4
   ·exact c
   ·rw[m.nol c]at b;simp at b
  have one:=j.list A
  obtain⟨t,e⟩: ∃t,s.it= [t]:=aX.1 one
  have g:t∈s.it:=by rw[e];exact bR.2 rfl
  have:=fH g
  have q:=o v.l[i] t (by omega) (by omega) (by omega) (j.I4 g) B
  have ix:hJ (.list ([t].map cV)) (.int 0)=some t.enc:=rfl
  rw[A5.a,aC b,cY]
  simp only[cH,Gi,lti b,aA,aU,Zt,I9 bJ b,eA,Mn _ _ (show v.l[i].Ap <=1048576 by omega),eL,gW,bT,dP,dN,e,ix,q,nxt (show i<4611686018427387904 by omega),r,Aiv,Dw,A,Ef,Zd,bK,eI,aH,aG]
  by_cases a:s.key=Am
  ·have:s.key=(⟨#[]⟩:ByteArray):=a
   simp only[a,this,Zd]
   have C:Am=(⟨#[]⟩:ByteArray):=rfl
   cases isKey v.l[i] Am<;>cases kyB d t v.l[i]<;>simp[C]
  ·have: ¬ s.key=(⟨#[]⟩:ByteArray):=a
   simp only[a,this,Ze]
   cases isKey v.l[i] s.key<;>cases kyB d t v.l[i]<;>simp
theorem A5q: ∀d,KyR d
 | 0=>λv _ h=>by have:=v.size_pos;omega
 | d+1=>λv s hd a b c e=>by
  rw[A4.p]
  simp only[dQ,cT,aA,fG,aU,kyB]
  by_cases h:s.k=v.k
  ·have q:=Au3 d (A5q d) v s hd a b c e h v.l.length 0 (by omega)
   simp only[aD,aF]at q
   simp only[q,h,Zd,bB,aB,Zf,Zt]
  ·simp[h]
theorem Ael: ∀ (n:Nat) (v:Val),v.size<=n->v.valid=true->VT v
 | 0,v,h,_=>by have:=v.size_pos;omega
 | n+1,v,h,a=>by
  refine .mk v (λb=>Mv a b) (λb=>Na a b) (λx c=>?_) λp hp=>?_
  ·have:=gS c
   exact Ael n x (by omega) (Cy a c)
  ·have:=gR hp
   exact Ael n p.2 (by omega) (D3 a hp).1
end Go.CT.Sch
namespace Go.CT.Sch
open Go.Proofs
def Ng:IV->Bool
 | .agg [_,.int c]=>decide (c=7)
 | _=>false
def Kf (s:Sch)(v:Val):Bool:=s.valid&&(v.valid&&(decide (v.k=5)&&((Jy v s []).all Ng&&kyB v.size s v)))
theorem idxr {e:List IV}{i:Nat}(h:i<e.length):hJ (.list e) (.int i)=some e[i]:=by
 have:=I9 (λx:IV=>x) h
 simpa only[List.map_id']using this
theorem Aw9 (s:Sch)(v:Val)(e:List IV)(m:e.length<=2199025352704)(d: ∀x∈e,Aur x)(r:Bool)(g:W 124 0 [s.enc,v.enc]=some [.bool r]): ∀ (n i:Nat),i+n=e.length->
  W 122 1 [.int (e.length:Nat),.int (i:Nat),s.enc,v.enc,.list e]=some [.bool ((e.drop i).all Ng&&(decide (v.k=5)&&r))]
 | 0,i,h=>by
  have:i=e.length:=by omega
  subst this
  rw[A12.i,aM]
  simp only[ltn,aA,aU,aB,Zf,cT,bU,g,bT,dD,bK]
  cases decide (v.k=5)<;>simp
 | n+1,i,h=>by
  have c:i<e.length:=by omega
  have o:=Aw9 s v e m d r g n (i+1) (by omega)
  obtain⟨a,b,j⟩:=d _ (aE c)
  have q:fX 1 e[i]=some (.int b):=by rw[j];rfl
  have t:Ng e[i]=decide (b=7):=by rw[j];rfl
  rw[A12.i,aC c,cY,t]
  simp only[lti c,aA,aU,Zt,idxr c,q,fG,nxt (show i<4611686018427387904 by omega),o]
  cases decide (b=7)<;>simp
theorem Ayw (s:Sch)(v:Val)(b:s.Ap<=1048576)(c:v.Ap<=1048576):W 122 0 [s.enc,v.enc]=some [.bool (Kf s v)]:=by
 rw[A12.h,Aya s v b c]
 simp only[bT,eU,aA]
 unfold chk Kf
 by_cases a:s.valid=true
 ·by_cases d:v.valid=true
  ·have e:SB s:=Hj _ s a
   have g:=A5c v.size v s (aQ _) c b e
   have:=Aw9 s v (Jy v s []) (Ahh e b c) (Au7 v s []) _ g (Jy v s []).length 0 (by omega)
   simp only[aD,aF]at this
   simp only[a,d,cX,Zt,this,bK]
   cases decide (v.k=5)<;>cases(Jy v s []).all Ng<;>simp
  ·simp only[a,d,dI,aB,Zf,cO]
   rw[A12.i];rfl
 ·simp only[a,cO,aB,Zf]
  rw[A12.i];rfl
theorem Aul (s:Sch)(v:Val)(e:List IV)(m:e.length<=2199025352704)(d: ∀x∈e,Aur x)(r:Bool)(g:W 38 0 [s.enc,v.enc]=some [.bool r]): ∀ (n i:Nat),i+n=e.length->
  W 5 1 [.int (i:Nat),s.enc,v.enc,.list e]=some [.bool ((e.drop i).all Ng&&r)]
 | 0,i,h=>by
  have:i=e.length:=by omega
  subst this
  rw[A1.a,aM]
  simp only[eU,ltn,aA,aU,aB,Zf,g,bT,dD,bK]
 | n+1,i,h=>by
  have c:i<e.length:=by omega
  have o:=Aul s v e m d r g n (i+1) (by omega)
  obtain⟨a,b,j⟩:=d _ (aE c)
  have q:fX 1 e[i]=some (.int b):=by rw[j];rfl
  have t:Ng e[i]=decide (b=7):=by rw[j];rfl
  rw[A1.a,aC c,cY,t]
  simp only[eU,lti c,aA,aU,Zt,idxr c,q,fG,nxt (show i<4611686018427387904 by omega),o]
  cases decide (b=7)<;>simp
theorem A3s (s:Sch)(v:Val)(a:s.Ap<=1048576)(c:v.Ap<=1048576):W 5 0 [s.enc,v.enc]=some [.bool (Kf s v)]:=by
 rw[A0.p]
 simp only[cT,fG,aA,aU,Qq s a,T0 v (by omega),Asw s v a c,bT,dP,Aw,Al]
 unfold chk Kf
 by_cases b:s.valid=true
 ·by_cases d:v.valid=true
  ·have g:SB s:=Hj _ s b
   have h:=A5q v.size v s (aQ _) c a g (Ael _ v (aQ _) d)
   have:=Aul s v (Jy v s []) (Ahh g a c) (Au7 v s []) _ h (Jy v s []).length 0 (by omega)
   simp only[aD,aF]at this
   simp only[b,d,cX,Zt,this,bK]
   cases decide (v.k=5)<;>simp
  ·by_cases e:v.k=5<;>simp[b,d,e]
 ·by_cases e:v.k=5<;>simp[b,e]
end Go.CT.Sch
namespace Go.CT.Sch
open Go.Proofs
def Hy (l:List Mgr)(nm:ByteArray):List ByteArray:=((l.find? λm=>decide (m.name=nm)).map Mgr.paths).getD []
theorem Ard (m:Mgr):fX 1 m.enc=some (SL m.paths):=rfl
theorem Anl (l:List Mgr)(nm:ByteArray)(d:l.length<=1048576)(hp: ∀m∈l,m.paths≠ []): ∀ (n i:Nat),i+n=l.length->
  W 184 1 [.str nm,.list (l.map Mgr.enc),.int (l.length:Nat),.int (i:Nat)]=some [SL (Hy (l.drop i) nm)]
 | 0,i,h=>by
  have:i=l.length:=by omega
  subst this
  rw[A18.d,aM]
  simp only[ltn,aA,aU,aB,Zf]
  rfl
 | n+1,i,h=>by
  have a:i<l.length:=by omega
  have b:=Anl l nm d hp n (i+1) (by omega)
  have e:0<l[i].paths.length :=fO.2 (hp _ (aE a))
  have ix:=I9 IV.str e
  simp only[aD]at ix
  unfold Hy at b ⊢
  rw[A18.d,aC a,bN]
  simp only[lti a,aA,aU,Zt,I9 Mgr.enc a,Akd,Ari,gH,ix,nxt (show i<4611686018427387904 by omega),b]
  by_cases c:l[i].name =nm
  ·simp only[c,Zd,Zt,aH,aG];rfl
  ·have c':decide (l[i].name =nm)=false:=by simpa using c
   simp only[c',aB,Zf]
theorem A0v (l:List Mgr)(nm:ByteArray)(a:l.length<=1048576)(hp: ∀m∈l,m.paths≠ []):W 184 0 [.list (l.map Mgr.enc),.str nm]=some [SL (Hy l nm)]:=by
 have:=Anl l nm a hp l.length 0 (by omega)
 simp only[aD,aF]at this
 rw[A18.c,Gi]
 exact this
def Aqn (nm:ByteArray):List Mgr->List ByteArray->List ByteArray
 | [],a=>a
 | m::l,a=>Aqn nm l (if m.name=nm then a else W2 (a++m.paths))
def Pv:List Mgr->Nat
 | []=>0
 | m::l=>m.paths.length+Pv l
theorem Xr (l:List Mgr)(nm:ByteArray)(d:l.length<=1048576): ∀ (n i:Nat) (a:List ByteArray),i+n=l.length->a.length+Pv (l.drop i)<=1048576->
  W 185 1 [.str nm,.list (l.map Mgr.enc),.int (l.length:Nat),.int (i:Nat),SL a]=some [SL (Aqn nm (l.drop i) a)]
 | 0,i,a,h,e=>by
  have:i=l.length:=by omega
  subst this
  rw[A18.f,aM]
  simp only[ltn,aA,aU,aB,Zf,Aqn]
 | n+1,i,a,h,e=>by
  have b:i<l.length:=by omega
  rw[aC b,Pv]at e
  have g:=Od (a++l[i].paths)
  rw[aO]at g
  have i1:=Xr l nm d n (i+1) a (by omega) (by omega)
  have i2:=Xr l nm d n (i+1) (W2 (a++l[i].paths)) (by omega) (by omega)
  rw[A18.f,aC b,Aqn]
  simp only[lti b,aA,aU,Zt,I9 Mgr.enc b,Akd,Ard,gW,Azz a _ (by omega) (show l[i].paths.length <=1048576 by omega),bT]
  rw[A18.g,A18.g]
  simp only[nxt (show i<4611686018427387904 by omega),aA,i1,i2]
  by_cases c:l[i].name =nm<;>simp[c]
theorem A3z (l:List Mgr)(nm:ByteArray)(a:l.length<=1048576)(b:Pv l<=1048576):W 185 0 [.list (l.map Mgr.enc),.str nm]=some [SL (Aqn nm l [])]:=by
 have:=Xr l nm a l.length 0 [] (by omega) (by simpa using b)
 simp only[aD,aF]at this
 rw[A18.e,Gi]
 exact this
end Go.CT.Sch
namespace Go.CT.Sch
open Go.Proofs
def Ai (s:Sch)(v:Val):List ByteArray:=(Hk s v).filter λx=> !decide (x=Am)
theorem Vi (s:Sch)(v:Val):SS (Hk s v):=by
 unfold Hk
 split
 ·exact Alh _
 ·exact bM
theorem Aht {l:List ByteArray}(h:SS l):W2 l=l:=SS.ext (Alh l) h λ_=>Nk
theorem Aen (s:Sch)(v:Val):G6 (Hk s v) [Am]=Ai s v:=by
 unfold G6 Ai
 rw[Aht (Vi s v)]
 congr 1
 funext x
 simp[inB]
theorem Tc (s:Sch)(v:Val)(a:s.Ap<=1048576)(b:v.Ap<=1048576):W 133 0 [s.enc,v.enc]=some [SL (Ai s v)]:=by
 have c:=Rk s v
 have d:=v.Gb
 have e:(IV.list [.str ⟨#[]⟩])=SL [Am]:=rfl
 rw[A13.k,Aui s v a b]
 simp only[bT,dO,aA,e,Ahq (Hk s v) [Am] (by omega) (by decide),Aen]
theorem Rj (l:List ByteArray)(d:l.length<=1048576): ∀ (n i:Nat) (a:List ByteArray),i+n=l.length->a.length<=i->
  W 220 1 [.int (i:Nat),SL l,SL a]=some [SL (a++(l.drop i).filter λx=> !decide (x=Am))]
 | 0,i,a,h,e=>by
  have:i=l.length:=by omega
  subst this
  rw[A23.c,fN,aM]
  simp only[ltn,aA,aU,aB,Zf,cC,aP]
 | n+1,i,a,h,e=>by
  have b:i<l.length:=by omega
  have i1:=Rj l d n (i+1) a (by omega) (by omega)
  have i2:=Rj l d n (i+1) (a++ [l[i]]) (by omega) (by simp;omega)
  have g:=gB IV.str (aL b)
  have ap:dR 16 (SL a) (.list [.str l[i]])=some (SL (a++ [l[i]])):=apm IV.str a l[i] (by omega)
  have j:Am=(⟨#[]⟩:ByteArray):=rfl
  rw[A23.c,fN,aC b,bA]
  simp only[lti b,aA,aU,Zt,g,gW,dO,ap]
  rw[A23.d,A23.d]
  simp only[nxt (show i<4611686018427387904 by omega),aA,i1,i2,j]
  by_cases c:l[i]=(⟨#[]⟩:ByteArray)<;>simp[c]
theorem Agp (s:Sch)(v:Val)(a:s.Ap<=1048576)(b:v.Ap<=1048576):W 220 0 [s.enc,v.enc]=some [SL (Ai s v)]:=by
 have c:=Rk s v
 have d:=v.Gb
 have:=Rj (Hk s v) (by omega) (Hk s v).length 0 [] (by omega) (by simp)
 simp only[aD,aF,bE]at this
 rw[A23.b,Aw0 s v a b]
 simp only[bT]
 exact this
end Go.CT.Sch
namespace Go.CT.Sch
open Go.Proofs
def Ig (p:ByteArray)(l:List Mgr):List ByteArray:=(l.filter λm=>inB m.paths p).map Mgr.name
theorem A67 (l:List ByteArray)(x:ByteArray):(l.any λe=>decide (e=x))=inB l x:=by
 unfold inB
 congr 1
 funext e
 exact decide_eq_decide.2 eq_comm
theorem Yv (l:List Mgr)(p:ByteArray)(c:l.length<=1048576)(hp: ∀m∈l,m.paths.length<=1048576): ∀ (n i:Nat) (a:List ByteArray),i+n=l.length->a.length<=i->
  W 212 1 [.str p,.list (l.map Mgr.enc),.int (l.length:Nat),.int (i:Nat),SL a]=some [SL (a++Ig p (l.drop i))]
 | 0,i,a,h,d=>by
  have:i=l.length:=by omega
  subst this
  rw[A21.l,aM]
  simp only[ltn,aA,aU,aB,Zf,Ig,cC,aN,aP]
 | n+1,i,a,h,d=>by
  have b:i<l.length:=by omega
  have e:=hp _ (aE b)
  have i1:=Yv l p c hp n (i+1) a (by omega) (by omega)
  have i2:=Yv l p c hp n (i+1) (a++ [l[i].name]) (by omega) (by simp;omega)
  have ap:dR 16 (SL a) (.list [.str l[i].name])=some (SL (a++ [l[i].name])):=apm IV.str a l[i].name (by omega)
  unfold Ig at i1 i2 ⊢
  rw[A21.l,aC b,bA]
  simp only[lti b,aA,aU,Zt,I9 Mgr.enc b,Akd,Ari,Nv _ p (show l[i].paths.length <=1099511627776 by omega),A67,bT,dO,ap]
  rw[A21.m,A21.m]
  simp only[nxt (show i<4611686018427387904 by omega),aA,i1,i2]
  cases inB l[i].paths p<;>simp
theorem Amv (l:List Mgr)(p:ByteArray)(a:l.length<=1048576)(hp: ∀m∈l,m.paths.length<=1048576):W 212 0 [.list (l.map Mgr.enc),.str p]=some [SL (Ig p l)]:=by
 have:=Yv l p a hp l.length 0 [] (by omega) (by simp)
 simp only[aD,aF,bE]at this
 rw[A21.k,Gi]
 exact this
end Go.CT.Sch
namespace Go.CT.Sch
open Go.Proofs
def I5 (l:List Mgr):List Mgr:=l.filter λm=>decide (0<m.paths.length)
theorem Yx (l:List Mgr)(c:l.length<=1048576)(hp: ∀m∈l,m.paths.length<=1048576): ∀ (n i:Nat) (a:List Mgr),i+n=l.length->a.length<=i->
  W 206 1 [.list (l.map Mgr.enc),.int (l.length:Nat),.int (i:Nat),.list (a.map Mgr.enc)]=some [.list ((a++I5 (l.drop i)).map Mgr.enc)]
 | 0,i,a,h,d=>by
  have:i=l.length:=by omega
  subst this
  rw[A20.o,aM]
  simp only[ltn,aA,aU,aB,Zf,I5,cC,aP]
 | n+1,i,a,h,d=>by
  have b:i<l.length:=by omega
  have e:=hp _ (aE b)
  have i1:=Yx l c hp n (i+1) a (by omega) (by omega)
  have i2:=Yx l c hp n (i+1) (a++ [l[i]]) (by omega) (by simp;omega)
  have ap:dR 40 (.list (a.map Mgr.enc)) (.list [.agg [.str l[i].name,.list (l[i].paths.map .str)]])=some (.list ((a++ [l[i]]).map Mgr.enc)):=apm Mgr.enc a l[i] (by omega)
  have g:iO (.int (l[i].paths.length :Int)) (.int 0)=some (.bool (decide (0<l[i].paths.length))):=by rw[gX];congr 2;exact decide_eq_decide.2 (by omega)
  have cl:O.Ir [.list (l[i].paths.map IV.str)]=some [.list (l[i].paths.map .str)]:=D2 (by rw[aI];omega)
  unfold I5 at i1 i2 ⊢
  rw[A20.o,aC b,bA]
  simp only[lti b,aA,aU,Zt,I9 Mgr.enc b,Akd,Ari,Gi,g,A4a,cl,bT,dB,dO,ap]
  rw[A20.p,A20.p]
  simp only[nxt (show i<4611686018427387904 by omega),aA,i1,i2]
  cases decide (0<l[i].paths.length)<;>simp
theorem A3u (l:List Mgr)(a:l.length<=1048576)(hp: ∀m∈l,m.paths.length<=1048576):W 206 0 [.list (l.map Mgr.enc)]=some [.list ((I5 l).map Mgr.enc)]:=by
 have:=Yx l a hp l.length 0 [] (by omega) (by simp)
 simp only[aD,aF,bE,aN]at this
 rw[A20.n,Gi]
 exact this
end Go.CT.Sch
namespace Go.CT.Sch
open Go.Proofs
structure Cf where
 path:ByteArray
 mgr:ByteArray
def Cf.enc (c:Cf):IV:= .agg [.str c.path,.str c.mgr]
theorem cf0 (c:Cf):fX 0 c.enc=some (.str c.path):=rfl
theorem cf1 (c:Cf):fX 1 c.enc=some (.str c.mgr):=rfl
def Uk (cs:List Cf)(nm:ByteArray):List ByteArray:=(cs.filter λc=>decide (c.mgr=nm)).map Cf.path
theorem Ast (cs:List Cf)(m:Mgr)(d:cs.length<=1048576)(hp:m.paths.length<=1048576): ∀ (n i:Nat) (a:List ByteArray),i+n=cs.length->a.length<=i->
  W 204 1 [.list (cs.map Cf.enc),.int (cs.length:Nat),.int (i:Nat),m.enc,SL a]=some [SL (G6 m.paths (a++Uk (cs.drop i) m.name))]
 | 0,i,a,h,e=>by
  have:i=cs.length:=by omega
  subst this
  rw[A20.l,aM]
  simp only[ltn,aA,aU,aB,Zf,Uk,cC,aN,aP,Ard,Ahq m.paths a hp (by omega),bT]
 | n+1,i,a,h,e=>by
  have b:i<cs.length:=by omega
  have i1:=Ast cs m d hp n (i+1) a (by omega) (by omega)
  have i2:=Ast cs m d hp n (i+1) (a++ [cs[i].path]) (by omega) (by simp;omega)
  have ap:dR 16 (SL a) (.list [.str cs[i].path])=some (SL (a++ [cs[i].path])):=apm IV.str a cs[i].path (by omega)
  unfold Uk at i1 i2 ⊢
  rw[A20.l,aC b,bA]
  simp only[lti b,aA,aU,Zt,I9 Cf.enc b,cf0,cf1,Akd,gH,dO,ap]
  rw[A20.m,A20.m]
  simp only[nxt (show i<4611686018427387904 by omega),aA,i1,i2]
  by_cases c:cs[i].mgr =m.name<;>simp[c]
theorem pclo (cs:List Cf)(m:Mgr)(a:cs.length<=1048576)(hp:m.paths.length<=1048576):W 204 0 [m.enc,.list (cs.map Cf.enc)]=some [SL (G6 m.paths (Uk cs m.name))]:=by
 have:=Ast cs m a hp cs.length 0 [] (by omega) (by simp)
 simp only[aD,aF,bE]at this
 rw[A20.k,Gi]
 exact this
end Go.CT.Sch
namespace Go.CT.Sch
open Go.Proofs
def I6 (nm:ByteArray)(a:List ByteArray):Bool->List Mgr->List Mgr
 | d,[]=>if d then[]else[⟨nm,a⟩]
 | d,m::l=>((if !d && !blt m.name nm then[⟨nm,a⟩]else[])++(if !decide (m.name=nm)&&decide (0<m.paths.length) then[m]else[]))++I6 nm a (d|| !blt m.name nm) l
end Go.CT.Sch
namespace Go.CT.Sch
open Go.Proofs
def Aut (cs:List Cf)(nm:ByteArray)(l:List Mgr):List Mgr:=(l.filter λm=> !decide (m.name=nm)).map λm=>⟨m.name,G6 m.paths (Uk cs m.name)⟩
theorem Afj (l:List Mgr)(cs:List Cf)(nm:ByteArray)(e:l.length<=1048576)(hp: ∀m∈l,m.paths.length<=1048576)(d:cs.length<=1048576): ∀ (n i:Nat) (a:List Mgr),i+n=l.length->a.length<=i+1->
  W 203 1 [.str nm,.list (cs.map Cf.enc),.list (l.map Mgr.enc),.int (l.length:Nat),.int (i:Nat),.list (a.map Mgr.enc)]=W 203 1 [.str nm,.list (cs.map Cf.enc),.list (l.map Mgr.enc),.int (l.length:Nat),.int (l.length:Nat),.list ((a++Aut cs nm (l.drop i)).map Mgr.enc)]
 | 0,i,a,h,g=>by
  have:i=l.length:=by omega
  subst this
  rw[aM]
  simp only[Aut,cC,aN,aP]
 | n+1,i,a,h,g=>by
  have b:i<l.length:=by omega
  have j:=hp _ (aE b)
  have i1:=Afj l cs nm e hp d n (i+1) a (by omega) (by omega)
  have i2:=Afj l cs nm e hp d n (i+1) (a++ [(⟨l[i].name,G6 l[i].paths (Uk cs l[i].name)⟩:Mgr)]) (by omega) (by simp;omega)
  have ap:dR 40 (.list (a.map Mgr.enc)) (.list [.agg [.str l[i].name,SL (G6 l[i].paths (Uk cs l[i].name))]])=some (.list ((a++ [(⟨l[i].name,G6 l[i].paths (Uk cs l[i].name)⟩:Mgr)]).map Mgr.enc)):=apm Mgr.enc (n:=40) a (⟨l[i].name,G6 l[i].paths (Uk cs l[i].name)⟩:Mgr) (by omega)
  unfold Aut at i1 i2 ⊢
  rw[A20.i,aC b,bA]
  simp only[lti b,aA,aU,Zt,I9 Mgr.enc b,Akd,gW,pclo cs l[i] d j,bT,dB,dO,ap]
  rw[A20.j,A20.j]
  simp only[nxt (show i<4611686018427387904 by omega),aA,i1,i2]
  by_cases c:l[i].name =nm<;>simp[c]
end Go.CT.Sch
namespace Go.CT.Sch
open Go.Proofs
inductive Fit:Sch->Val->Prop
 | mk (s:Sch) (v:Val):v.k=s.k->(∀p∈v.f,(Du s p.1).isSome =true)->(∀p∈v.f,∀t,Du s p.1=some t->Fit t p.2)->(∀x∈v.l,∀t∈s.it,Fit t x)->(Dw s=true->Dh s.key [] v.l=true)->Fit s v
theorem Fit.kind {s:Sch}{v:Val}(h:Fit s v):v.k=s.k:=by cases h;assumption
theorem Fit.known {s:Sch}{v:Val}(h:Fit s v): ∀p∈v.f,(Du s p.1).isSome =true:=by cases h;assumption
theorem Fit.fld {s:Sch}{v:Val}(h:Fit s v): ∀p∈v.f,∀t,Du s p.1=some t->Fit t p.2:=by cases h;assumption
theorem Fit.el {s:Sch}{v:Val}(h:Fit s v): ∀x∈v.l,∀t∈s.it,Fit t x:=by cases h;assumption
theorem Fit.keyed {s:Sch}{v:Val}(h:Fit s v):Dw s=true->Dh s.key [] v.l=true:=by cases h;assumption
theorem Br {s:Sch} :Dw s=true↔s.k=4/\s.key≠Am:=by simp[Dw]
theorem Ai3 (key:ByteArray)(t:Sch)(p:List Stp): ∀ (l prev:List Val),(K3 l key t p prev).all Ng=true->
  (∀x∈l,∃q,(Jy x t q).all Ng=true)/\(key≠Am->(∀x∈prev++l,isKey x key=true)->Dh key (prev.map λx=>Cw x key) l=true)
 | [],_,_=>⟨by simp,λ_ _=>rfl⟩
 | x::l,prev,h=>by
  rw[Hc,eJ,eJ,aJ,aJ]at h
  obtain⟨i1,i2⟩:=Ai3 key t p l (prev++ [x]) h.2
  refine⟨λy b=>?_,λg c=>?_⟩
  ·rcases bD.1 b with rfl | b
   ·exact⟨_,h.1.1⟩
   ·exact i1 y b
  ·have i:=c x (by simp)
   have d:=i2 g (by simpa using c)
   rw[cM]at d
   simp only[aK,aN]at d
   rw[Dh,i,d]
   have hd:=h.1.2
   have m:inB (prev.map λx=>Cw x key) (Cw x key)=false:=by
    rw[<-cQ,Hg]
    intro o
    obtain⟨u,j,e⟩:=aS.1 o
    have ku:=c u (by simp[j])
    have a:decide (key=Am)=false:=by simpa using g
    have:(Ef x key&&prev.any (sameKey key (Cw x key)))=true:=by
     rw[aJ,List.any_eq_true]
     refine⟨by unfold Ef;rw[i,a];rfl,u,j,?_⟩
     unfold sameKey Ef
     rw[ku,a]
     simpa using e
    unfold Aop at hd
    rw[if_pos this]at hd
    exact absurd hd (show ¬ ((decide ((8:Int)=7)&&true)=true) by decide)
   rw[m];rfl
theorem Ro {s t:Sch}(h:s.valid=true)(g:Dw s=true)(c:t∈s.it):t.k=5/\ ∃u,Du t s.key=some u/\u.k=3:=by
 obtain⟨i,a⟩:=Br.1 g
 obtain⟨r,e,j,p,hp,_,m,_⟩:=Aa7 h i a
 rw[e,bR]at c
 subst c
 have b:=(dS h).I4 (show t∈s.it by rw[e];simp)
 have o:t.it= []:=by
  apply dK
  intro q
  have:=b.nof q
  have d:=(Adj hp).1
  rw[this]at d;simp at d
 refine⟨j,p.s,?_,m⟩
 unfold Du
 rw[o]
 show(t.fld s.key).map (·.s)=_
 rw[hp];rfl
theorem Ama {s t:Sch}{x:Val}(h:s.valid=true)(i:Dw s=true)(e:t∈s.it)(j:D.VOk x)(b:x.k=t.k)(a:isKey x s.key=true):isKey (D.Ba x t) s.key=true/\Cw (D.Ba x t) s.key=Cw x s.key:=by
 obtain⟨o,u,m,q⟩:=Ro h i e
 have c:=(dS h).I4 e
 have g:=D.Ajk j b (by omega) s.key
 unfold isKey at a
 simp only[aJ,decide_eq_true_eq]at a
 obtain⟨y,d⟩:=aR.1 a.1
 rw[d,aG]at a
 rw[d,aA,if_neg (by omega),D.Vk c,m,aH,D.Ms u (by omega) (by omega)]at g
 unfold isKey Cw
 rw[g,d]
 simp[a.2]
theorem Axj: ∀ (v:Val) (s:Sch) (p:List Stp) (n:Nat),s.valid=true->v.valid=true->v.size<=n->(Jy v s p).all Ng=true->kyB n s v=true->Fit s (D.Ba v s):=by
 refine eS λv J K s p n G z Y d m=>?_
 have L:=D.K5 z
 have A:=dS G
 cases n with
 | zero=>have:=v.size_pos;omega
 | succ n=>
 rw[Ji]at d
 by_cases r:v.k=s.k
 ·rw[if_pos r]at d
  rw[kyB,if_pos r.symm,aJ,cL,cL]at m
  by_cases w:v.k=4
  ·rw[if_neg (by omega),if_neg (by omega),if_pos w,eJ,aJ]at d
   obtain⟨t,c⟩:=aX.1 (A.list (by omega))
   have B:t∈s.it:=by rw[c];simp
   rw[c,eH]at d
   obtain⟨e1,R⟩:=Ai3 s.key t p v.l [] d.2
   have g: ∀x∈v.l,Aiv s x=true/\kyB n t x=true:=λx a=>by
    have:=m.1 x a
    rw[c]at this
    simpa using this
   have M: ∀x∈v.l,x.k=t.k:=λx a=>by
    obtain⟨q,b⟩:=e1 x a
    apply dK
    intro N
    rw[Ji,if_neg N]at b
    exact absurd b (show ¬ ((decide ((6:Int)=7)&&true)=true) by decide)
   rw[D.Gd,if_pos r,if_pos w,if_pos (by rw[c];rfl),c,eH]
   refine .mk _ _ (show(4:Int)=s.k by omega) (by simp) (by simp) ?_ ?_
   ·intro x a u C
    rw[c,bR]at C
    subst C
    obtain⟨y,e,rfl⟩:=aS.1 a
    obtain⟨q,b⟩:=e1 y e
    have:=gS e
    exact J y e u q n (gK G B) (Cy z e) (by omega) b (g y e).2
   ·intro o
    have i: ∀x∈v.l,isKey x s.key=true:=λx a=>by
     have:=(g x a).1
     unfold Aiv at this
     rw[o]at this
     simpa using this
    have S:=R (Br.1 o).2 i
    have T: ∀ (l:List Val) (acc:List ByteArray),(∀x∈l,isKey (D.Ba x t) s.key=true/\Cw (D.Ba x t) s.key=Cw x s.key)->Dh s.key acc l=true->Dh s.key acc (l.map λx=>D.Ba x t)=true:=by
     intro l
     induction l with
     | nil=>intro _ _ _;rfl
     | cons x l U=>
      intro acc a h
      obtain⟨X,a2⟩:=a x (by simp)
      rw[Dh,aJ,aJ]at h
      rw[aK,Dh,X,a2,h.1.2,U _ (λy e=>a y (by simp[e])) h.2];rfl
    exact T v.l [] (λx a=>Ama G o B (L.Kk a) (M x a) (i x a)) S
  ·by_cases H:v.k=5
   ·rw[if_neg (by omega),if_neg (by omega),if_neg w,if_pos H,eJ,aJ,Mu,cL]at d
    have F: ∀q∈v.f.flatMap (D.D4 s),∃x∈v.f,∃t,x.2.k≠0/\Du s x.1=some t/\q=(x.1,D.Ba x.2 t):=by
     intro q b
     obtain⟨x,a,b⟩:=cE.1 b
     unfold D.D4 at b
     split at b
     ·simp at b
     ·rename_i I
      split at b
      ·rename_i t c
       simp only[bR]at b
       rw[D.Vk A]at c
       exact⟨x,a,t,I,c,b⟩
      ·simp at b
    rw[D.Gd,if_pos r,if_neg w,if_pos H]
    refine .mk _ _ (show(5:Int)=s.k by omega) ?_ ?_ (by simp) (λh=>by have:=(Br.1 h).1;omega)
    ·intro q b
     obtain⟨x,a,t,I,c,rfl⟩:=F q b
     show(Du s x.1).isSome =true
     rw[c];rfl
    ·intro q b u C
     obtain⟨x,a,t,I,c,rfl⟩:=F q b
     rw[show Du s (x.1,D.Ba x.2 t).1 =Du s x.1 from rfl,c]at C
     have eu:=dE C
     subst eu
     have j:=m.2 x a
     rw[c]at j
     have:=gR a
     refine K x a t (p++ [Cd x.1]) n (gT G c) (D3 z a).1 (by omega) ?_ j
     rw[cL]
     intro y e
     refine d.1 y (cE.2 ⟨x,a,?_⟩)
     unfold Aew
     rw[c]
     simp only[I,Zf]
     exact e
   ·have Q:=Mv z w
    have F:=Na z H
    rw[D.Ms s w H]
    exact .mk _ _ r (by rw[F];simp) (by rw[F];simp) (by rw[Q];simp) (by rw[Q];intro _;rfl)
 ·rw[if_neg r]at d
  exact absurd d (show ¬ ((decide ((6:Int)=7)&&true)=true) by decide)
end Go.CT.Sch
namespace Go.CT.Sch
open Go.Proofs
theorem Ayq (u:Val)(key kv:ByteArray)(a:u.k=5)(b:Ch u.f):isKey (Df u key (Qg kv)) key=true/\Cw (Df u key (Qg kv)) key=kv:=by
 unfold isKey Cw
 rw[Lr u a b]
 exact⟨rfl,rfl⟩
theorem Ut {s:Sch}{r:Kid->Val × Bool} : ∀ {l:List Val} {acc acc':List ByteArray},Dh s.key acc l=true->(∀k∈acc',k∈acc)->(∀y∈l,(r (Cp s y)).1.k =5/\Ch (r (Cp s y)).1.f)->
  Dh s.key acc' (Gh (G5 r (l.map (Cp s))))=true
 | [],_,_,_,_,_=>rfl
 | y::l,acc,acc',h,j,a=>by
  have d:=a y cB
  have o:=L8 h y cB
  obtain⟨g,_⟩:=Sa h
  have e: ∀z t,Gh (((Cp s y).1,z)::t)=Df z s.key (Qg (Cw y s.key))::Gh t:=λ_ _=>rfl
  rw[aK,Kn]
  cases(r (Cp s y)).2 with
  | false=>exact Ut g (λk i=>eF _ (j k i)) λz b=>a z (bV _ b)
  | true=>
   simp only[Zt]
   obtain⟨w1,m⟩:=Ayq (r (Cp s y)).1 s.key (Cw y s.key) d.1 d.2
   rw[e,Dh,w1,m]
   have c:inB acc' (Cw y s.key)=false:=by
    rw[<-cQ,Hg];grind
   rw[c]
   simp only[bP,cX,bK]
   refine Ut g (λk i=>?_) λz b=>a z (bV _ b)
   grind
theorem Qb {s:Sch}{r:Kid->Val × Bool}{l:List (ByteArray × Val)}{p:ByteArray × Val}(h:p∈fieldsOf (G5 r (l.map (Dq s)))): ∃y∈l,(r (Dq s y)).2 =true/\p=(y.1,(r (Dq s y)).1):=by
 obtain⟨z,a,rfl⟩:=aS.1 h
 obtain⟨x,b,c,rfl⟩:=Tb a
 obtain⟨y,d,rfl⟩:=aS.1 b
 exact⟨y,d,c,rfl⟩
theorem Zj {s:Sch}{r:Kid->Val × Bool}{l:List Val}{u:Val}(h:u∈Gh (G5 r (l.map (Cp s)))): ∃y∈l,(r (Cp s y)).2 =true/\u=Df (r (Cp s y)).1 s.key (Qg (Cw y s.key)):=by
 obtain⟨z,a,rfl⟩:=aS.1 h
 obtain⟨x,b,c,rfl⟩:=Tb a
 obtain⟨y,d,rfl⟩:=aS.1 b
 exact⟨y,d,c,rfl⟩
theorem Xh (s:Sch)(v:Val)(set:List ByteArray)(is:Bool):(Ld s v set is).Ap <=v.Ap:=by
 unfold Ld
 split
 ·rename_i b
  have a:v.valid=true:=by grind
  split
  ·exact(Z7 _ _ _ _ _ a).1
  ·have c:=v.Bv
   split
   ·rw[fW (Val.mk _ _ _ _ _)]
    simp only[eC,cW,cR,Cq,Er,show Am.size=0 from rfl];omega
   ·rw[fW Au]
    simp only[Au,eC,cW,cR,Cq,Er,show Am.size=0 from rfl];omega
 omega
theorem N0 {q:List Stp}(h:C3 q=true):(∀x∈q,x.fits)/\q.length<=16:=by
 unfold C3 at h
 simp only[aJ,cL,decide_eq_true_eq]at h
 refine⟨λx a=>?_,h.2⟩
 obtain⟨b,c,_⟩:=D7 (h.1 x a)
 exact⟨by omega,by omega⟩
theorem Anr {u:Sch}(h:u.k=3)(b:ByteArray):Fit u (Qg b):=
 .mk _ _ h.symm (by simp[Qg]) (by simp[Qg]) (by simp[Qg]) (λa=>by have:=(Br.1 a).1;omega)
theorem Ay1 {t u:Sch}{w:Val}{key:ByteArray}{b:ByteArray}(c:Fit t w)(e:w.k=5)(a:Ch w.f)(i:Du t key=some u)(j:u.k=3):Fit t (Df w key (Qg b)):=by
 have g:=c.kind
 refine .mk _ _ (show(5:Int)=t.k by omega) ?_ ?_ (by simp[Df]) (λg=>by have:=(Br.1 g).1;omega)
 ·intro p hp
  rcases(Lj e a p).1 hp with⟨_,h⟩ | rfl
  ·exact c.known p h
  grind
 ·intro p hp x d
  rcases(Lj e a p).1 hp with⟨_,h⟩ | rfl
  ·exact c.fld p h x d
  ·rw[show Du t (key,Qg b).1 =Du t key from rfl,i]at d
   cases d
   exact Anr j b
theorem Awa: ∀ (n:Nat) (s:Sch) (v:Val) (p:List Stp) (ch:ByteArray->Bool),s.valid=true->v.valid=true->Fit s v->Fit s (pt n (some s) v p ch).1
 | 0,_,_,_,_,_,_,h=>h
 | n+1,s,v,p,ch,j,m,h=>by
  have r:=h.kind
  rw[Jk]
  split
  ·exact h
  ·rename_i z
   obtain⟨s',e,R,H⟩:=Hs z
   cases e
   rcases H with⟨I,b⟩ | ⟨S,g,i,b⟩
   ·simp only[I,Zt]
    rw[b]
    refine .mk _ _ (show(5:Int)=s.k by omega) ?_ ?_ (by simp) (λr=>by have:=(Br.1 r).1;omega)
    ·intro q A
     obtain⟨y,a,_,rfl⟩:=Qb A
     exact h.known y a
    ·intro q A t o
     obtain⟨y,a,_,rfl⟩:=Qb A
     have c:Du s y.1=some t:=o
     show Fit t (pt n (Du s y.1) y.2 (p++ [(Dq s y).1]) ch).1
     rw[c]
     exact Awa n t y.2 _ ch (gT j c) (D3 m a).1 (h.fld y a t c)
   ·have J: ¬ v.k=5:=by omega
    simp only[J,Zf]
    rw[b]
    have B:Dw s=true:=Br.2 ⟨by omega,g⟩
    obtain⟨t,o⟩:=aX.1 ((dS j).list (by omega))
    have d:t∈s.it:=by grind
    have K:s.it.head?=some t:=by rw[o];rfl
    have C: ∀y∈v.l,Fit t (pt n (Cp s y).2.2 (Cp s y).2.1 (p++ [(Cp s y).1]) ch).1 /\(pt n (Cp s y).2.2 (Cp s y).2.1 (p++ [(Cp s y).1]) ch).1.k =5/\Ch (pt n (Cp s y).2.2 (Cp s y).2.1 (p++ [(Cp s y).1]) ch).1.f :=by
     intro y a
     obtain⟨F,_,_⟩:=I2 (Cy m a) (B9 i y a)
     refine⟨?_,(A1o _ _ _ _ _).trans F,Z8 (Cy m a) F⟩
     show Fit t (pt n s.it.head? y (p++ [(Cp s y).1]) ch).1
     rw[K]
     exact Awa n t y _ ch (gK j d) (Cy m a) (h.el y a t d)
    refine .mk _ _ r (by simp) (by simp) ?_ ?_
    ·intro x L u G
     rw[o,bR]at G
     subst G
     obtain⟨y,a,_,rfl⟩:=Zj L
     obtain⟨T,w,M,N⟩:=Ro j B d
     obtain⟨r1,r2,Q⟩:=C y a
     exact Ay1 r1 r2 Q M N
    ·intro _
     exact Ut i (by simp) λy a=>⟨(C y a).2.1,(C y a).2.2⟩
theorem Ag7 {s:Sch}{v:Val}(set:List ByteArray)(is:Bool)(b:s.valid=true)(c:v.valid=true)(h:Fit s v)(a:v.k=5):Fit s (Ld s v set is)/\(Ld s v set is).k =5:=by
 unfold Ld
 rw[b,c]
 simp only[cX,Zt]
 split
 ·exact⟨Awa _ _ _ _ _ b c h,(A1o _ _ _ _ _).trans a⟩
 ·rw[if_pos (.inl a)]
  exact⟨.mk _ _ h.kind (by simp) (by simp) (by simp) (λ_=>rfl),a⟩
theorem Az3: ∀ (n:Nat) (o:Option Sch) (v:Val) (p:List Stp) (t:ByteArray),v.size<=n->v.valid=true->t∈lv n o v p-> ∃q w,t=Ck (p++q)/\Gf v q=some w/\ ∀x∈q,C6 x=true/\x.k≠2
 | 0,o,v,p,t,h,_,_=>by have:=v.size_pos;omega
 | n+1,o,v,p,t,h,m,a=>by
  rw[lv]at a
  by_cases c:kids o v= []
  ·rw[if_pos c,bR]at a
   subst a
   exact⟨[],v,by simp,rfl,by simp⟩
  ·rw[if_neg c]at a
   obtain⟨x,d,a⟩:=cE.1 a
   obtain⟨F,_⟩:=J3 d
   obtain⟨q,w,e1,u,K⟩:=Az3 n x.2.2 x.2.1 (p++ [x.1]) t (by omega) (Ui m d) a
   rw[bI,bC]at e1
   obtain⟨s,rfl,L,G⟩:=Hs c
   rcases G with⟨M,r⟩ | ⟨H,A,g,r⟩
   ·rw[r]at d
    obtain⟨y,e,rfl⟩:=aS.1 d
    have I:v.get y.1=some y.2:=get_of_mem m e
    have B:=(D3 m e).2
    refine⟨Cd y.1::q,w,e1,?_,?_⟩
    ·simp only[Gf,Kj,Cd,Zt,I,aA];exact u
    ·intro z i
     rcases bD.1 i with rfl | i
     ·exact⟨by unfold C6 Cd;simp[B],show(1:Int)≠2 by decide⟩
     grind
   ·rw[r]at d
    obtain⟨y,e,rfl⟩:=aS.1 d
    have b:=Cy m e
    obtain⟨N,ym,yg⟩:=I2 b (B9 g y e)
    have B:=(D3 b ym).2
    have j:J9 (Qg (Cw y s.key)).s =true:=Ajd (D3 b ym).1 rfl
    have j:J9 (Cw y s.key)=true:=j
    have J: ¬ (3:Int)=1:=by decide
    have C: ¬ (3:Int)=2:=by decide
    refine⟨Uc s.key y::q,w,e1,?_,?_⟩
    ·simp only[Gf,Kj,Uc,J,C,Zf,H,Zt,Uf g y e,aA];exact u
    ·intro z i
     rcases bD.1 i with rfl | i
     ·exact⟨by unfold C6 Uc;grind,C⟩
     grind
theorem Wp: ∀ (q:List Stp) (d:Nat) (v w:Val),Ca d v=true->Gf v q=some w->q.length<d
 | [],0,v,w,h,_=>by simp[Ca]at h
 | [],d+1,_,_,_,_=>by simp
 | x::q,0,v,w,h,_=>by simp[Ca]at h
 | x::q,d+1,v,w,h,b=>by
  simp only[Gf,bZ]at b
  obtain⟨u,a,c⟩:=b
  have h':=(Dc d v).1 h
  have e:Ca d u=true:=by
   unfold Kj at a
   split at a
   ·exact(h'.2.2.2.1 _ (Co a).1).2
   grind
  have:=Wp q d u w e c
  simp;omega
theorem Arm {s:Sch}{v:Val}{t:ByteArray}(b:v.valid=true)(a:t∈Ai s v): ∃q w,t=Ck q/\C3 q=true/\(∀x∈q,x.k≠2)/\Gf v q=some w:=by
 have a:=(bX.1 a).1
 unfold Hk at a
 split at a
 ·rw[Nk]at a
  obtain⟨q,w,e1,c,d⟩:=Az3 v.size (some s) v [] t (aQ _) b a
  rw[bE]at e1
  have hd:=Wp q 12 v w ((Ew v).1 b).1 c
  refine⟨q,w,e1,?_,λx e=>(d x e).2,c⟩
  unfold C3
  grind
 grind
end Go.CT.Sch
namespace Go.CT.Sch
open Go.Proofs
theorem Vz (v:Val)(j:Hd 1073741824 v)(c d e m o q g:IV)(r: ∀p∈v.f,W 169 0 [p.2.enc]=some p.2.Gg): ∀ (n i:Nat),i+n=v.f.length->
  W 169 2 [.int v.f.length,.int i,c,d,e,m,o,q,g,.list (v.f.map aZ)]=some [c,d,e,g,.list (v.f.map aZ)]
 | 0,i,h=>by
  have:i=v.f.length:=by omega
  subst this
  rw[A17.a]
  simp only[ltn,aA,aU,aB,Zf]
 | n+1,i,h=>by
  have b:i<v.f.length:=by omega
  have w:=j.Pp
  have:=Vz v j c d e m o q g r n (i+1) (by omega)
  have a:fD 1 5 true false (.list (v.f.map aZ)) (.int i) v.f[i].2.enc =some (.list (v.f.map aZ)):=by
   have t:(v.f.map aZ)[i]?=some (aZ v.f[i]):=by rw[bG,aL b];rfl
   have x:(v.f.map aZ).set i (aZ v.f[i])=v.f.map aZ:=by
    rw[<-gF,cS]
   unfold fD
   simp only[fM,aT,Zt,aW,t,aB,Zf]
   rw[v.f[i].2.E0]
   simp only[aZ]
   have u:v.f[i].2.Gg.length =5:=rfl
   simp only[u,Zt]
   congr 2
  rw[A17.a]
  simp only[lti b,aA,aU,Zt,I9 aZ b,fI,r _ (aE b),dC,gC,dB,eV,a,nxt (show i<4611686018427387904 by omega),this]
theorem V5 (v:Val)(o:Hd 1073741824 v)(c d e g j m:IV)(q: ∀x∈v.l,W 169 0 [x.enc]=some x.Gg): ∀ (n i:Nat),i+n=v.l.length->
  W 169 1 [.int v.l.length,.int i,c,d,e,g,j,m,.list (v.l.map bJ),.list (v.f.map aZ)]=W 169 2 [.int v.f.length,.int (0:Nat),c,d,e,g,j,m,.list (v.l.map bJ),.list (v.f.map aZ)]
 | 0,i,h=>by
  have:i=v.l.length:=by omega
  subst this
  rw[A16.p]
  simp only[ltn,aA,aU,aB,Zf,Gi]
  rfl
 | n+1,i,h=>by
  have b:i<v.l.length:=by omega
  have r:=o.We
  have:=V5 v o c d e g j m q n (i+1) (by omega)
  have a:fD 0 5 true true (.list (v.l.map bJ)) (.int i) v.l[i].enc =some (.list (v.l.map bJ)):=by
   rw[show(IV.list (v.l.map bJ))=eM bJ v.l from rfl,iJ bJ b,cS]
  rw[A16.p]
  simp only[lti b,aA,aU,Zt,I9 bJ b,q _ (aE b),dC,gC,dB,eV,a,nxt (show i<4611686018427387904 by omega),this]
theorem Arn: ∀v:Val,Hd 1073741824 v->W 169 0 [v.enc]=some v.Gg:=by
 refine eS λv b c a=>?_
 have d:=V5 v a (.int v.k) (.int v.n) (.str v.s) (.int 0) (.int 0) (.str ⟨#[]⟩) (λx e=>b x e (a.Kk e)) v.l.length 0 (by omega)
 have g:=Vz v a (.int v.k) (.int v.n) (.str v.s) (.int 0) (.int 0) (.str ⟨#[]⟩) (.list (v.l.map bJ)) (λp hp=>c p hp (a.J7 hp)) v.f.length 0 (by omega)
 rw[g]at d
 rw[A16.o]
 have i:=a.We
 have j:=a.Pp
 have h:(v.l.map bJ).length <=1073741824:=by rw[aI];omega
 have hd:(v.f.map aZ).length <=1073741824:=by rw[aI];omega
 simp only[cT,eZ,fA,cH,cN,aA,e_85,A63,D2 h,D2 hd,bT,Gi]
 rw[dC]
 exact d
theorem Azy (v:Val)(x:Stp)(b:v.Ap<=1048576): ∀ (n i:Nat),i+n=v.f.length->
  ∃r:Int,W 164 1 [.list (v.f.map aZ),x.enc,.int v.f.length,.int i]=some [.int r]/\
   ((((v.f.drop i).find? λp=>decide (p.1=x.nm))=none/\r<0)\/ ∃ (j:Nat) (u:Val),r=j/\v.f[j]?=some (x.nm,u)/\((v.f.drop i).find? λp=>decide (p.1=x.nm))=some (x.nm,u))
 | 0,i,h=>by
  have d:i=v.f.length:=by omega
  subst d
  rw[A16.i]
  exact⟨-1,by simp only[ltn,aA,aU,aB,Zf],.inl ⟨by rw[aM];rfl,by omega⟩⟩
 | n+1,i,h=>by
  have a:i<v.f.length:=by omega
  have m:=v.Bd
  obtain⟨r,e,g⟩:=Azy v x b n (i+1) (by omega)
  rw[A16.i,aC a,bN]
  simp only[lti a,aA,aU,Zt,I9 aZ a,A16.j,fU,iI,gH,bT,nxt (show i<4611686018427387904 by omega),e]
  by_cases c:v.f[i].1 =x.nm
  ·exact⟨i,by simp[c],.inr ⟨i,v.f[i].2,rfl,by simp[a,<-c],by simp[<-c]⟩⟩
  ·have c':decide (v.f[i].1 =x.nm)=false:=by simpa using c
   simp only[c',aB,Zf]
   exact⟨r,rfl,g⟩
theorem A5t (u:Val)(x:Stp)(a:u.Ap<=1048576):W 168 0 [u.enc,x.enc]=some [.bool (hasB x.nm x.vl u)]:=by
 rw[A16.n]
 unfold hasB
 simp only[iI,Stp.Cj,aA,Abk u x.nm (by omega),Ja,Jl,aU,bU,gH,Aw,Al]
 cases b:u.get x.nm with
 | none=>simp[Au]
 | some y=>by_cases c:y.k=3<;>simp[c]
theorem A45 (v:Val)(x:Stp)(b:v.Ap<=1048576): ∀ (n i:Nat),i+n=v.l.length->
  ∃r:Int,W 166 1 [.list (v.l.map bJ),x.enc,.int v.l.length,.int i]=some [.int r]/\
   ((((v.l.drop i).find? (hasB x.nm x.vl))=none/\r<0)\/ ∃ (j:Nat) (u:Val),r=j/\v.l[j]?=some u/\((v.l.drop i).find? (hasB x.nm x.vl))=some u)
 | 0,i,h=>by
  have d:i=v.l.length:=by omega
  subst d
  rw[A16.l]
  exact⟨-1,by simp only[ltn,aA,aU,aB,Zf],.inl ⟨by rw[aM];rfl,by omega⟩⟩
 | n+1,i,h=>by
  have a:i<v.l.length:=by omega
  have m:=v.Bu
  have o:=dM (aE a)
  obtain⟨r,e,g⟩:=A45 v x b n (i+1) (by omega)
  rw[A16.l,aC a,bN]
  simp only[lti a,aA,aU,Zt,I9 bJ a,A16.m,A5t v.l[i] x (by omega),bT,nxt (show i<4611686018427387904 by omega),e]
  cases c:hasB x.nm x.vl v.l[i]with
  | true=>exact⟨i,by simp,.inr ⟨i,v.l[i],rfl,by simp[a],rfl⟩⟩
  | false=>exact⟨r,by simp,g⟩
theorem Ayi (v:Val)(x:Stp)(o:v.Ap<=1048576)(q:C6 x=true): ∃r:Int,W 163 0 [v.enc,x.enc]=some [.int r]/\
  ((Kj v x=none/\r<0)\/ ∃ (j:Nat) (u:Val),r=j/\Kj v x=some u/\(x.k=1->v.f[j]?=some (x.nm,u))/\(x.k≠1->v.l[j]?=some u)):=by
 obtain⟨z,A,t,B,C⟩:=D7 q
 rw[A16.g]
 unfold Kj
 simp only[iH,aA,bU,aU,cT,Aw,Al]
 by_cases k1:x.k=1
 ·unfold gQ
  by_cases i:v.k=5
  ·obtain⟨r,b,a⟩:=Azy v x o v.f.length 0 (by omega)
   simp only[aF,aD]at b a
   simp only[k1,i,Zd,Zt,cN,aA,A16.h,Gi,b,bT]
   refine⟨r,rfl,?_⟩
   rcases a with⟨d,e⟩ | ⟨j,u,d,e,m⟩
   ·exact .inl ⟨by rw[d];rfl,e⟩
   ·exact .inr ⟨j,u,d,by rw[m];rfl,λ_=>e,λh=>(h rfl).elim⟩
  ·refine⟨-1,?_,.inl ⟨by rw[if_pos k1,if_neg i],by omega⟩⟩
   simp[k1,i]
 ·rw[if_neg k1]
  by_cases g:v.k=4
  ·rw[if_pos g]
   by_cases k2:x.k=2
   ·obtain⟨j,w⟩:=Int.eq_ofNat_of_zero_le (t k2).1
    rw[if_pos k2]
    simp only[k1,k2,g,Zd,Ze,aB,Zf,Zt,Stp.Eu,cH,Gi,aA,dZ,w,Int.ofNat_eq_natCast,aW,Ao,show ¬ (2:Int)=1 by omega,show ¬ (2:Int)=3 by omega]
    by_cases c:j<v.l.length
    ·exact⟨j,by simp[c],.inr ⟨j,v.l[j],rfl,by simp[c],λh=>by simp at h,λ_=>by simp[c]⟩⟩
    ·exact⟨-1,by simp[c],.inl ⟨by simpa using c,by omega⟩⟩
   ·have y:x.k=3:=by omega
    obtain⟨r,b,a⟩:=A45 v x o v.l.length 0 (by omega)
    simp only[aF,aD]at b a
    rw[if_neg k2]
    simp only[y,g,Zd,Ze,aB,Zf,Zt,cH,aA,A16.k,Gi,b,bT,show ¬ (3:Int)=1 by omega,show ¬ (3:Int)=2 by omega]
    refine⟨r,rfl,?_⟩
    rcases a with a | ⟨j,u,d,e,m⟩
    ·exact .inl a
    ·exact .inr ⟨j,u,d,m,λh=>by simp at h,λ_=>e⟩
  ·rw[if_neg g]
   refine⟨-1,?_,.inl ⟨rfl,by omega⟩⟩
   simp[k1,g]
theorem Ap1 (p:List Stp)(t:p.length<=1099511627776)(hp: ∀x∈p,C6 x=true)(c d e:IV): ∀ (n i:Nat) (v:Val),i+n=p.length->v.Ap<=1048576->
  W 162 1 [.list (p.map cG),.int p.length,.int i,v.enc,c,d,e]=some (Ja (Gf v (p.drop i)))
 | 0,i,v,h,m=>by
  have w:i=p.length:=by omega
  subst w
  have o:=Arn v (Dd v (by omega))
  rw[dC]at o
  rw[A16.e,aM]
  simp only[ltn,aA,aU,aB,Zf,o,gC,Gf,Ja,aG,bF]
 | n+1,i,v,h,m=>by
  have a:i<p.length:=by omega
  have y:=hp _ (aE a)
  obtain⟨r,z,A⟩:=Ayi v p[i] m y
  rw[A16.e,aC a]
  simp only[lti a,aA,aU,Zt,I9 cG a,z,bT,iH,bU,dZ,cH,cN,Gf]
  rcases A with⟨b,g⟩ | ⟨j,u,rfl,b,g,B⟩
  ·simp only[g,Zd,Zt,b];rfl
  ·have C: ¬ (j:Int)<0:=by omega
   have G:=Ua b
   have F:=Ap1 p t hp c d e n (i+1) u (by omega) (by omega)
   have q:W 162 2 [.list (p.map cG),.int p.length,.int i,u.enc,c,d,e]=some (Ja (Gf u (p.drop (i+1)))):=by
    rw[A16.f]
    simp only[nxt (show i<4611686018427387904 by omega),aA,F]
   simp only[C,Ze,aB,Zf,b,aA,eY,aT,Zt,aW,bG]
   by_cases k1:p[i].k =1
   ·simp only[k1,Zd,Zt,g k1,aH,aA,fI,q]
   ·simp only[k1,Ze,aB,Zf,B k1,aH,aA,q]
theorem A46 (v:Val)(p:List Stp)(b:v.Ap<=1048576)(hp:C3 p=true):W 162 0 [v.enc,.list (p.map cG)]=some (Ja (Gf v p)):=by
 obtain⟨c,d⟩:=N0 hp
 have a:=hp
 unfold C3 at a
 simp only[aJ,cL]at a
 have:=Ap1 p (by omega) a.1 (.int 0) (.int 0) (.str ⟨#[]⟩) p.length 0 v (by omega) b
 simp only[aD,aF]at this
 rw[A16.d]
 simp only[To p c (by omega),hp,bT,dP,aA,aU,bB,aB,Zf,Gi,this]
end Go.CT.Sch
namespace Go.CT.Sch
open Go.Proofs
theorem cmp0: ∀ (a b:List UInt8),Lib.compareBytes a b=0↔a=b
 | [],[]=>by simp[Lib.compareBytes]
 | [],_::_=>by simp[Lib.compareBytes]
 | _::_,[]=>by simp[Lib.compareBytes]
 | a::x,b::y=>by
  simp only[Lib.compareBytes]
  by_cases c:a<b
  ·have: ¬ a=b:=λe=>by subst e;exact absurd c (UInt8.lt_irrefl _)
   simp[c,this]
  ·by_cases d:b<a
   ·have: ¬ a=b:=λe=>by subst e;exact c d
    simp[c,d,this]
   ·have:a=b:=by
     have g: ¬ a.toNat<b.toNat:=λh=>c (fF.2 h)
     have i: ¬ b.toNat<a.toNat:=λh=>d (fF.2 h)
     exact UInt8.toNat_inj.1 (by omega)
    subst this
    simp[c,cmp0 x y]
theorem Awb (a b:ByteArray): ∃c:Int,W 78 0 [.str a,.str b]=some [.int c]/\(c=0↔a=b):=by
 refine⟨Lib.compareBytes a.data.toList b.data.toList,?_,?_⟩
 ·simp[A8.o,A8.p,e_80,O.Qy]
 ·rw[cmp0];exact⟨Gq,λh=>by rw[h]⟩
theorem Asr (a b:Int): ∃c:Int,W 172 0 [.int a,.int b]=some [.int c]/\(c=0↔a=b):=by
 refine⟨if decide (a<b)=true then -1 else if decide (b<a)=true then 1 else 0,?_,Aln a b⟩
 rw[A17.d]
 simp only[A17.e,fG,Zd,bB,aA,bT,aU,aB,Zf,dZ,gX]
 split
 ·rfl
 ·split<;>rfl
theorem Auj (cs:List Int)(d:cs.length<=100): ∀ (n i:Nat),i+n=cs.length-> ∃r:Int,W 177 1 [.int 0,.list (cs.map .int),.int cs.length,.int i]=some [.int r]/\(r=0↔ ∀c∈cs.drop i,c=0)
 | 0,i,h=>by
  have e: ¬ i<cs.length:=by omega
  rw[A17.l,aY (by omega)]
  exact⟨0,by simp[e],by simp⟩
 | n+1,i,h=>by
  have b:i<cs.length:=by omega
  have g:=Be (i:=i) (by omega)
  obtain⟨r,j,m⟩:=Auj cs d n (i+1) (by omega)
  rw[A17.l,aC b]
  simp only[dZ,Ao,b,Zd,aA,aU,Zt,eY,aT,aW,bG,aL b,aH,fG,fJ,g,j]
  by_cases a:cs[i]=0
  ·exact⟨r,by simp[a],by simp only[bD,forall_eq_or_imp,a,true_and];exact m⟩
  ·exact⟨cs[i],by simp[a],by simp only[bD,forall_eq_or_imp,a,false_and]⟩
theorem A42 (cs:List Int)(a:cs.length<=100): ∃r:Int,W 177 0 [.list (cs.map .int)]=some [.int r]/\(r=0↔ ∀c∈cs,c=0):=by
 obtain⟨r,b,d⟩:=Auj cs a cs.length 0 (by omega)
 refine⟨r,?_,by simpa using d⟩
 rw[A17.k]
 simp only[eU,aI,aA]
 exact b
theorem As9 (a b:List Val)(u:a.length<=1099511627776)(o: ∀x∈a,∀y∈b,∃c:Int,W 171 0 [x.enc,y.enc]=some [.int c]/\(c=0↔x=y)): ∀ (n i:Nat),i+n=a.length->i<=b.length->
  ∃c:Int,W 174 1 [.list (a.map bJ),.list (b.map bJ),.list (a.map bJ),.int a.length,.int i]=some [.int c]/\(c=0↔a.drop i=b.drop i)
 | 0,i,h,w=>by
  have q: ¬ i<a.length:=by omega
  have e1:a.drop i= []:=aY (by omega)
  rw[A17.g,e1]
  by_cases g:a.length<b.length
  ·have z:(a.length:Int)<b.length:=by omega
   have: ¬ []=b.drop i:=λe=>by
    have:=congrArg fK e
    simp at this;omega
   exact⟨-1,by simp[q,g],by simp[this]⟩
  ·have z: ¬ (a.length:Int)<b.length:=by omega
   have:b.drop i= []:=aY (by omega)
   exact⟨0,by simp[q,g],by simp[this]⟩
 | n+1,i,h,w=>by
  have d:i<a.length:=by omega
  have A:=Be (i:=i) (by omega)
  rw[A17.g]
  by_cases m:i<b.length
  ·obtain⟨c,B,t⟩:=o _ (aE d) _ (aE m)
   obtain⟨r,r1,r2⟩:=As9 a b u o n (i+1) (by omega) (by omega)
   have g: ¬ (b.length:Int)<=i:=by omega
   have hd:(a.drop i=b.drop i)↔(a[i]=b[i]/\a.drop (i+1)=b.drop (i+1)):=by
    rw[aC d,aC m]
    simp only[gL]
   simp only[dZ,Ao,d,Zd,aA,aU,Zt,eY,aT,aW,bG,aL d,aL m,aH,eU,aI,O.Hu,g,Ze,aB,Zf,B,bT,fG,fJ,A,r1,hd]
   by_cases j:c=0
   ·exact⟨r,by simp[j],by rw[r2];simp[t.1 j]⟩
   ·exact⟨c,by simp[j],by simp[j];exact λe=>absurd (t.2 e) j⟩
  ·have g:(b.length:Int)<=i:=by omega
   have: ¬ a.drop i=b.drop i:=λe=>by
    have:=congrArg fK e
    simp at this;omega
   exact⟨1,by simp[d,g],by simp[this]⟩
theorem Axe (a b:List (ByteArray × Val))(u:a.length<=1099511627776)(o: ∀x∈a,∀y∈b,∃c:Int,W 176 0 [aZ x,aZ y]=some [.int c]/\(c=0↔x=y)): ∀ (n i:Nat),i+n=a.length->i<=b.length->
  ∃c:Int,W 175 1 [.list (a.map aZ),.list (b.map aZ),.list (a.map aZ),.int a.length,.int i]=some [.int c]/\(c=0↔a.drop i=b.drop i)
 | 0,i,h,w=>by
  have q: ¬ i<a.length:=by omega
  have e1:a.drop i= []:=aY (by omega)
  rw[A17.i,e1]
  by_cases g:a.length<b.length
  ·have z:(a.length:Int)<b.length:=by omega
   have: ¬ []=b.drop i:=λe=>by
    have:=congrArg fK e
    simp at this;omega
   exact⟨-1,by simp[q,g],by simp[this]⟩
  ·have z: ¬ (a.length:Int)<b.length:=by omega
   have:b.drop i= []:=aY (by omega)
   exact⟨0,by simp[q,g],by simp[this]⟩
 | n+1,i,h,w=>by
  have d:i<a.length:=by omega
  have A:=Be (i:=i) (by omega)
  rw[A17.i]
  by_cases m:i<b.length
  ·obtain⟨c,B,t⟩:=o _ (aE d) _ (aE m)
   obtain⟨r,r1,r2⟩:=Axe a b u o n (i+1) (by omega) (by omega)
   have g: ¬ (b.length:Int)<=i:=by omega
   have hd:(a.drop i=b.drop i)↔(a[i]=b[i]/\a.drop (i+1)=b.drop (i+1)):=by
    rw[aC d,aC m]
    simp only[gL]
   simp only[dZ,Ao,d,Zd,aA,aU,Zt,eY,aT,aW,bG,aL d,aL m,aH,eU,aI,O.Hu,g,Ze,aB,Zf,B,bT,fG,fJ,A,r1,hd]
   by_cases j:c=0
   ·exact⟨r,by simp[j],by rw[r2];simp[t.1 j]⟩
   ·exact⟨c,by simp[j],by simp[j];exact λe=>absurd (t.2 e) j⟩
  ·have g:(b.length:Int)<=i:=by omega
   have: ¬ a.drop i=b.drop i:=λe=>by
    have:=congrArg fK e
    simp at this;omega
   exact⟨1,by simp[d,g],by simp[this]⟩
theorem A40: ∀a:Val,a.Ap<=1099511627776-> ∀b:Val,∃c:Int,W 171 0 [a.enc,b.enc]=some [.int c]/\(c=0↔a=b):=by
 refine eS λa g h L b=>?_
 have m1:=a.Bu
 have m2:=a.Bd
 obtain⟨t,u,r1⟩:=Asr a.k b.k
 obtain⟨w,z,r2⟩:=Asr a.n b.n
 obtain⟨A,B,C⟩:=Awb a.s b.s
 obtain⟨F,j,m⟩:=As9 a.l b.l (by omega) (λx d y _=>g x d (by have:=dM d;omega) y) a.l.length 0 (by omega) (dJ _)
 have G: ∀x∈a.f,∀y∈b.f,∃c:Int,W 176 0 [aZ x,aZ y]=some [.int c]/\(c=0↔x=y):=by
  intro x d y _
  obtain⟨d1,H,I⟩:=Awb x.1 y.1
  obtain⟨d2,J,v2⟩:=h x d (by have:=fT d;omega) y.2
  obtain⟨r,e,i⟩:=A42 [d1,d2] (by simp)
  refine⟨r,?_,?_⟩
  ·rw[A17.j]
   simp only[aK,aN]at e
   simp only[fU,fI,aA,H,J,bT,dO,e]
  ·rw[i];simp[I,v2,Prod.ext_iff]
 obtain⟨K,o,q⟩:=Axe a.f b.f (by omega) G a.f.length 0 (by omega) (dJ _)
 obtain⟨r,e,i⟩:=A42 [t,w,A,F,K] (by simp)
 simp only[aF,aD]at j m o q
 simp only[aK,aN]at e
 refine⟨r,?_,?_⟩
 ·rw[A17.c]
  simp only[cT,eZ,fA,cH,cN,aA,u,z,B,bT,A17.f,A17.h,eU,aI,j,o,dO,e]
 ·rw[i]
  simp only[bD,List.not_mem_nil,or_false,forall_eq_or_imp,forall_eq,r1,r2,C,m,q]
  cases a;cases b;simp
open Classical in
theorem Am3 (a b:Val)(ha:a.Ap<=1099511627776):W 170 0 [a.enc,b.enc]=some [.bool (decide (a=b))]:=by
 obtain⟨c,h1,h2⟩:=A40 a ha b
 rw[A17.b]
 simp only[h1,bT,bU,aA]
 congr 3
 simp only[h2]
end Go.CT.Sch
namespace Go.CT.Sch
open Go.Proofs
def emS (s:Sch)(c:Val):Bool:=(decide (c.k=5)&&decide (c.f.length=0))||(decide (c.k=4)&&decide (c.l.length=0)&&Dw s)
open Classical in
noncomputable def Afy (s:Sch) (cf lv:Val) (p:List Stp):Bool:=(Gf lv p).isSome &&(decide ((Gf cf p).getD Au=(Gf lv p).getD Au)||emS ((atV s p).getD Bh) ((Gf cf p).getD Au))
theorem A09 (v:Val)(p:List Stp)(a:v.Ap<=1048576)(hp:C3 p=true)(b: ∀x∈p,x.k≠2):W 156 0 [v.enc,.str (Ck p)]=some (Ja (Gf v p)):=by
 rw[A15.i]
 simp only[Apj p hp b,eL,A46 v p a hp,Ja,Jl]
theorem A4m (v:Val)(p:List Stp)(b:v.Ap<=1048576)(hp:C3 p=true):W 230 0 [v.enc,.str (Ck p)]=some [((Gf v p).getD Au).enc,.bool (Gf v p).isSome]:=by
 obtain⟨c,d⟩:=N0 hp
 have a:=A5r v p b c (by omega)
 unfold A6x at a
 rw[if_pos hp]at a
 rw[A24.h]
 simp only[Wq p hp,eL,fG,Zd,bB,aA,aU,aB,Zf,a]
theorem Tu {v:Val}{p:List Stp}(a:v.Ap<=1048576):((Gf v p).getD Au).Ap <=1048576:=by
 cases h:Gf v p with
 | none=>decide+kernel
 | some w=>have:=Ajz p v w h;rw[aG];omega
theorem Azb (s:Sch)(c:Val):W 243 0 [s.enc,c.enc]=some [.bool (emS s c)]:=by
 have a: ∀b:ByteArray,decide (b=(⟨#[]⟩:ByteArray))=decide (b=Am):=λ_=>rfl
 rw[A26.c]
 simp only[cT,cH,cN,dQ,eA,Gi,bU,aA,aU,Aw,Al,gW,a,emS,Dw]
 have d: ∀n:Nat,decide ((n:Int)=0)=decide (n=0):=λn=>decide_eq_decide.2 (by omega)
 simp only[d]
 cases decide (c.k=5)<;>cases decide (c.f.length=0)<;>cases decide (c.k=4)<;>cases decide (c.l.length=0)<;>cases decide (s.k=4)<;>simp
open Classical in
theorem A5b (s:Sch)(cf lv:Val)(p:List Stp)(hs:s.Ap<=1048576)(hc:cf.Ap<=1048576)(hl:lv.Ap<=1048576)(hp:C3 p=true)(h2: ∀x∈p,x.k≠2):
  W 155 0 [s.enc,cf.enc,lv.enc,.str (Ck p)]=some [.bool (Afy s cf lv p)]:=by
 obtain⟨h1,h3⟩:=N0 hp
 have hA:=A77 s p hs h1 (by omega)
 have m1:=Tu (p:=p) hc
 have hE:=Am3 ((Gf cf p).getD Au) ((Gf lv p).getD Au) (by omega)
 have f0: ∀n:Nat,decide ((n:Int)=0)=decide (n=0):=λn=>decide_eq_decide.2 (by omega)
 have hk:IV.agg ((atV s p).getD Bh).Gg =((atV s p).getD Bh).enc :=(Sch.E0 _).symm
 rw[gJ]at hk
 unfold A66 at hA
 rw[gJ]at hA
 simp only[List.cons_append,bE]at hA
 rw[A15.h]
 unfold Afy emS
 simp only[A09 cf p hc hp h2,A09 lv p hl hp h2,Ja,Jl,dP,aA,aU,dB,eV,hE,bT,Aw,Al,Apj p hp h2,eL,hA,A2l,bU,Gi,f0,hk,Aef]
 generalize decide ((Gf cf p).getD Au=(Gf lv p).getD Au)=E
 generalize decide (((Gf cf p).getD Au).k =5)=A
 generalize decide (((Gf cf p).getD Au).f.length =0)=B
 generalize decide (((Gf cf p).getD Au).k =4)=C
 generalize decide (((Gf cf p).getD Au).l.length =0)=D
 generalize Dw ((atV s p).getD Bh)=K
 cases(Gf lv p).isSome<;>cases E<;>cases A<;>cases B<;>cases C<;>cases D<;>simp
open Classical in
theorem A6g (s:Sch)(cf lv:Val)(p:List Stp)(hs:s.Ap<=1048576)(hc:cf.Ap<=1048576)(hl:lv.Ap<=1048576)(hp:C3 p=true):
  W 229 0 [s.enc,cf.enc,lv.enc,.str (Ck p)]=some [.bool (Afy s cf lv p)]:=by
 obtain⟨h1,h3⟩:=N0 hp
 have hA:=A4t s p hs h1 (by omega)
 have m1:=Tu (p:=p) hc
 have m2:=Tu (p:=p) hl
 have hE:=Ag6 ((Gf cf p).getD Au) ((Gf lv p).getD Au) (by omega) (by omega)
 rw[A24.g]
 unfold Afy
 simp only[A4m cf p hc hp,A4m lv p hl hp,eL,dP,aA,aU,hE,bT,Aw,Al,Wq p hp,hA,Azb]
 generalize decide ((Gf cf p).getD Au=(Gf lv p).getD Au)=E
 cases(Gf lv p).isSome<;>cases E<;>simp
end Go.CT.Sch
namespace Go.CT.Sch
open Go.Proofs
def Lw (s:Sch)(l:List Val)(k:ByteArray):Option Val:=l.find? λx=>decide (Cw x s.key=k)
def Dz:Val:=⟨5,0,Am,[],[]⟩
def mg:Nat->Sch->Val->Option Val->Val
 | 0,_,c,_=>c
 | n+1,s,c,o=>
  if(emS s c&&o.isSome)=true then o.getD c
  else if c.k=5 then c.f.foldl (λout p=>Df out p.1 (mg n ((Du s p.1).getD Bh) p.2 (o.bind λv=>v.get p.1))) (o.getD Dz)
  else if(Dw s&&o.isSome)=true then⟨4,0,Am,((o.getD Dz).l.map λx=>((Lw s c.l (Cw x s.key)).map λe=>mg n (s.it.headD Bh) e (some x)).getD x)++c.l.filter (λe=>(Lw s (o.getD Dz).l (Cw e s.key)).isNone),[]⟩
  else c
inductive Q4:Val->Prop
 | mk (v:Val):Ch v.f->(∀x∈v.l,Q4 x)->(∀p∈v.f,Q4 p.2)->Q4 v
theorem Q4.strict {v:Val}(h:Q4 v):Ch v.f:=by cases h;assumption
theorem Q4.Kk {v:Val}(h:Q4 v): ∀x∈v.l,Q4 x:=by cases h;assumption
theorem Q4.J7 {v:Val}(h:Q4 v): ∀p∈v.f,Q4 p.2:=by cases h;assumption
theorem Q4.get {v x:Val}{nm:ByteArray}(h:Q4 v)(a:v.get nm=some x):Q4 x:=h.J7 _ (Co a).1
theorem Ht: ∀ (n:Nat) (v:Val),v.size<=n->v.valid=true->Q4 v
 | 0,v,h,_=>by have:=v.size_pos;omega
 | n+1,v,h,a=> .mk v (Gs a) (λx b=>Ht n x (by have:=gS b;omega) (Cy a b)) λp hp=>Ht n p.2 (by have:=gR hp;omega) (D3 a hp).1
theorem As4 {u x:Val}(nm:ByteArray)(h:u.k=5)(a:Q4 u)(b:Q4 x):Q4 (Df u nm x):=
 .mk _ (E6 _ _ _) (by simp[Df]) λp hp=>by
  rcases(Lj h a.strict p).1 hp with⟨_,h⟩ | rfl
  ·exact a.J7 p h
  ·exact b
theorem Akf: ∀ (n:Nat) (o:Option Sch) (v:Val) (p:List Stp) (ch:ByteArray->Bool),v.valid=true->Q4 (pt n o v p ch).1
 | 0,_,v,_,_,h=>Ht _ v (aQ _) h
 | n+1,o,v,p,ch,c=>by
  have e:=(Z7 (n+1) o v p ch c).2
  rw[Jk]at e ⊢
  by_cases a:kids o v= []
  ·rw[if_pos a];exact Ht _ v (aQ _) c
  ·rw[if_neg a]at e ⊢
   obtain⟨s,rfl,A,r⟩:=Hs a
   rcases r with⟨j,b⟩ | ⟨B,m,g,b⟩
   ·have i:=(e j).strict (Gs c)
    simp only[j,Zt]at i ⊢
    rw[b]at i ⊢
    refine .mk _ i (by simp) λq t=>?_
    obtain⟨y,d,_,rfl⟩:=Qb t
    exact Akf n _ y.2 _ ch (D3 c d).1
   ·have u: ¬ v.k=5:=by omega
    simp only[u,Zf]
    rw[b]
    refine .mk _ bM (λx w=>?_) (by simp)
    obtain⟨y,d,_,rfl⟩:=Zj w
    obtain⟨z,_,_⟩:=I2 (Cy c d) (B9 g y d)
    exact As4 _ ((A1o _ _ _ _ _).trans z) (Akf n _ y _ ch (Cy c d)) (.mk _ bM (by simp[Qg]) (by simp[Qg]))
theorem Adb {s:Sch}{v:Val}(set:List ByteArray)(is:Bool)(a:v.valid=true):Q4 (Ld s v set is):=by
 unfold Ld
 split
 ·split
  ·exact Akf _ _ _ _ _ a
  ·split
   ·exact .mk _ bM (by simp) (by simp)
   ·exact .mk _ bM (by simp[Au]) (by simp[Au])
 ·exact Ht _ v (aQ _) a
theorem Ao1 {u:Val}{nm key:ByteArray}(a:u.k=5)(b:Ch u.f)(c:nm≠key)(x:Val):(Df u key x).get nm=u.get nm:=by
 apply Option.ext
 intro w
 rw[O4 rfl (E6 u key x),O4 a b,Lj a b]
 constructor
 ·rintro (⟨_,h⟩ | h)
  ·exact h
  ·exact absurd (congrArg Prod.fst h) c
 ·exact λh=> .inl ⟨c,h⟩
theorem A4y (o:Option Val)(nm:ByteArray):(o.getD Dz).get nm=o.bind λv=>v.get nm:=by
 cases o<;>rfl
theorem Aqk {u:Val}{nm:ByteArray}{x:Val}{m:Nat}(d:u.k=5)(a:x.Ap<=m+((u.get nm).map gU).getD 0):(Df u nm x).Ap <=u.Ap+(1+nm.size+m):=by
 have e:Cn (Df u nm x).f <=Cn (Ei u nm)+(1+nm.size+x.Ap):=by
  have h:Cn (Df u nm x).f <=Cn (Ei u nm++ [(nm,x)]):=R1 _
  rw[It,B7,Cq]at h
  exact h
 have o:=u.Bv
 have b:=(Df u nm x).Bv
 have g:(Df u nm x).s =Am:=rfl
 have i:(Df u nm x).l = []:=rfl
 have j:Ei u nm=u.f.filter λp=> !decide (p.1=nm):=by unfold Ei;rw[if_pos d]
 rw[g,i,Er,show Am.size=0 from rfl]at b
 rw[j]at e
 cases c:u.get nm with
 | none=>
  rw[c]at a
  have:=Kl (λp=> !decide (p.1=nm)) u.f
  simp only[cU,dA]at a
  omega
 | some y=>
  rw[c]at a
  have:=K7 (Co c).1
  simp only[aH,aG]at a
  omega
theorem Aic (g:ByteArray × Val->Val): ∀ (l:List (ByteArray × Val)) (out:Val),Ch l->out.k=5->Ch out.f->(∀p∈l,(g p).Ap <=p.2.Ap+((out.get p.1).map gU).getD 0)->
  (l.foldl (λo p=>Df o p.1 (g p)) out).Ap <=out.Ap+Cn l
 | [],out,_,_,_,_=>aQ _
 | p::l,out,i,c,j,d=>by
  obtain⟨a,b⟩:=bO.1 i
  have m:=Aqk (x:=g p) c (d p (by simp))
  have r:=Aic g l (Df out p.1 (g p)) b rfl (E6 _ _ _) λq h=>by
   rw[Ao1 c j (λe=>Ly (a q h) e.symm)]
   exact d q (by simp[h])
  rw[dF,B7]
  omega
def Asj (s:Sch)(C:List Val):List Val->Nat
 | []=>0
 | x::L=>((Lw s C (Cw x s.key)).map gU).getD 0+Asj s C L
theorem Xp (s:Sch)(e:Val)(C:List Val)(k:ByteArray):Lw s (e::C) k=if Cw e s.key=k then some e else Lw s C k:=by
 unfold Lw
 rw[bN]
 by_cases c:Cw e s.key=k<;>simp[c]
theorem Aon (s:Sch): ∀L:List Val,Asj s [] L=0
 | []=>rfl
 | x::L=>by rw[Asj,Aon s L];rfl
theorem Ahi (s:Sch)(e:Val)(C:List Val): ∀ (L:List Val) (acc:List ByteArray),Dh s.key acc L=true->(Cw e s.key∈acc->Asj s (e::C) L<=Asj s C L)/\Asj s (e::C) L<=Asj s C L+(if(Lw s L (Cw e s.key)).isSome then e.Ap else 0)
 | [],acc,_=>⟨λ_=>aQ _,eB _ _⟩
 | x::L,acc,h=>by
  have b:=L8 h x (by simp)
  have h':=h
  simp only[Dh,aJ]at h'
  obtain⟨i1,i2⟩:=Ahi s e C L (acc++ [Cw x s.key]) h'.2
  rw[Asj,Asj,Xp,Xp]
  by_cases c:Cw e s.key=Cw x s.key
  ·have d:=i1 (by rw[c];simp)
   have c':Cw x s.key=Cw e s.key:=c.symm
   rw[if_pos c,if_pos c']
   refine⟨λa=>absurd (c ▸ a) b,?_⟩
   simp only[aH,aG,bF,Zt]
   omega
  ·have c': ¬ Cw x s.key=Cw e s.key:=λe=>c e.symm
   rw[if_neg c,if_neg c']
   refine⟨λa=>?_,by omega⟩
   have:=i1 (eF _ a)
   omega
theorem Awk (s:Sch)(L:List Val)(acc:List ByteArray)(h:Dh s.key acc L=true): ∀C:List Val,Asj s C L+Dv (C.filter λe=>(Lw s L (Cw e s.key)).isNone)<=Dv C
 | []=>by rw[Aon];exact aQ _
 | e::C=>by
  have c:=Awk s L acc h C
  have a:=(Ahi s e C L acc h).2
  rw[bA,Ej]
  cases b:Lw s L (Cw e s.key) with
  | none=>
   rw[b]at a
   simp only[cI,aB,Zf,Option.isNone_none,Zt]at a ⊢
   rw[Ej];omega
  | some y=>
   rw[b]at a
   simp only[bF,Zt,Option.isNone_some,aB,Zf]at a ⊢
   omega
theorem Amb: ∀ (n:Nat) (s:Sch) (c:Val) (o:Option Val),SB s->c.valid=true->Fit s c->(∀v,o=some v->Q4 v/\Fit s v)->(mg n s c o).Ap <=c.Ap+(o.map gU).getD 0
 | 0,s,c,o,_,_,_,_=>eB _ _
 | n+1,s,c,o,g,u,a,q=>by
  have S:=c.Bv
  rw[mg]
  split
  ·cases o with
   | none=>exact eB _ _
   | some v=>exact gM _ _
  ·split
   ·rename_i F
    have G:(o.getD Dz).k =5/\Ch (o.getD Dz).f /\(o.getD Dz).Ap <=6+(o.map gU).getD 0:=by
     cases o with
     | none=>exact⟨rfl,bM,by show Dz.Ap<=6+0;rw[fW];exact aQ _⟩
     | some v=>exact⟨by rw[aG,(q v rfl).2.kind,<-a.kind,F],(q v rfl).1.strict,gM _ _⟩
    have z:(o.getD Dz).Ap +Cn c.f<=c.Ap+(o.map gU).getD 0:=by omega
    refine cP (Aic (λp=>mg n ((Du s p.1).getD Bh) p.2 (o.bind λv=>v.get p.1)) c.f _ (Gs u) G.1 G.2.1 λp hp=>?_) z
    obtain⟨t,d⟩:=aR.1 (a.known p hp)
    show(mg n ((Du s p.1).getD Bh) p.2 (o.bind λv=>v.get p.1)).Ap <=_
    rw[A4y,d,aG]
    refine Amb n t p.2 _ (g.sub d) (D3 u hp).1 (a.fld p hp t d) λv H=>?_
    obtain⟨w,rfl,I⟩:=bZ.1 H
    obtain⟨A,r⟩:=q w rfl
    exact⟨A.get I,r.fld _ (Co I).1 t d⟩
   ·split
    ·rename_i F b
     rw[aJ]at b
     obtain⟨v,rfl⟩:=aR.1 b.2
     obtain⟨A,r⟩:=q v rfl
     have B:=r.keyed b.1
     have H:=v.Bv
     have T:=Awk s v.l [] B c.l
     have M: ∀L:List Val,(∀x∈L,x∈v.l)->Dv (L.map λx=>((Lw s c.l (Cw x s.key)).map λe=>mg n (s.it.headD Bh) e (some x)).getD x)<=Dv L+Asj s c.l L:=by
      intro L
      induction L with
      | nil=>intro _;exact aQ _
      | cons x L N=>
       intro J
       have i:=N λy C=>J y (by simp[C])
       have j:=J x (by simp)
       rw[aK,Ej,Ej,Asj]
       cases Q:Lw s c.l (Cw x s.key) with
       | none=>simp only[cU,dA];omega
       | some e=>
        have K:e∈c.l:=cF Q
        simp only[aH,aG]
        obtain⟨t,m⟩:=aX.1 (g.list (Br.1 b.1).1)
        have d:t∈s.it:=by rw[m];simp
        have:=Amb n t e (some x) (g.I4 d) (Cy u K) (a.el e K t d) λy C=>by cases C;exact⟨A.Kk x j,r.el x j t d⟩
        have e1:s.it.headD Bh=t:=by rw[m];rfl
        simp only[aH,aG]at this
        rw[<-e1]at this
        omega
     have R:=M v.l λ_ h=>h
     simp only[aG,aH]
     rw[fW]
     simp only[eC,cW,cR,Cq,Sj,show Am.size=0 from rfl]
     omega
    ·exact eB _ _
end Go.CT.Sch
namespace Go.CT.Sch
open Go.Proofs
theorem Acz (u:Val)(nm:ByteArray)(x:Val):(Df u nm x).f.length <=u.f.length+1:=by
 have a:=Apb (Ei u nm++ [(nm,x)])
 have b:=Xz u nm
 rw[aO,bL]at a
 show(Aau (Ei u nm++ [(nm,x)])).length <=_
 omega
theorem Ac8 {K:Nat}{u x:Val}(nm:ByteArray)(a:Hd K u)(b:Hd K x)(c:u.f.length+1<=K):Hd K (Df u nm x):=by
 obtain⟨m,rfl⟩: ∃m,K=m+1:=⟨K - 1,by omega⟩
 exact Ab6 nm a b (by omega)
theorem Ah7 {K:Nat}(g:ByteArray × Val->Val): ∀ (l:List (ByteArray × Val)) (out:Val),out.f.length+l.length<=K->Hd K out->(∀p∈l,Hd K (g p))->Hd K (l.foldl (λo p=>Df o p.1 (g p)) out)
 | [],_,_,h,_=>h
 | p::l,out,b,h,a=>by
  simp only[cK]at b
  have d:=Acz out p.1 (g p)
  rw[dF]
  exact Ah7 g l _ (by omega) (Ac8 _ h (a p (by simp)) (by omega)) λq c=>a q (by simp[c])
theorem Awq {N:Nat}{v x:Val}{nm:ByteArray}(h:Hd N v)(a:v.get nm=some x):Hd N x:=h.J7 (Co a).1
theorem Aky {N M:Nat} : ∀ (n:Nat) (s:Sch) (c:Val) (o:Option Val),Hd N c->(∀v,o=some v->Hd M v)->Hd (M+N) (mg n s c o)
 | 0,_,c,_,h,_=>h.mono (by omega)
 | n+1,s,c,o,a,b=>by
  rw[mg]
  split
  ·cases o with
   | none=>grind
   | some v=>exact(b v rfl).mono (by omega)
  ·split
   ·have m:Hd (M+N) (o.getD Dz)/\(o.getD Dz).f.length <=M:=by
     cases o with
     | none=>exact⟨by constructor<;>simp[Dz],dJ _⟩
     | some v=>exact⟨(b v rfl).mono (by omega),(b v rfl).Pp⟩
    have B:=a.Pp
    refine Ah7 (λp=>mg n ((Du s p.1).getD Bh) p.2 (o.bind λv=>v.get p.1)) c.f _ (by omega) m.1 λp hp=>?_
    refine Aky n _ p.2 _ (a.J7 hp) λv d=>?_
    obtain⟨w,rfl,q⟩:=bZ.1 d
    exact Awq (b w rfl) q
   ·split
    ·rename_i C g
     rw[aJ]at g
     obtain⟨v,rfl⟩:=aR.1 g.2
     have d:=b v rfl
     refine .mk _ ?_ (dJ _) ?_ (by simp)
     ·have F:=d.We
      have G:=a.We
      have H:=dG (λe=>(Lw s v.l (Cw e s.key)).isNone) c.l
      simp only[cW,aO,aI,aG]
      omega
     ·intro x i
      rcases bW.1 i with i | i
      ·obtain⟨y,r,rfl⟩:=aS.1 i
       have j:y∈v.l:=r
       cases t:Lw s c.l (Cw y s.key) with
       | none=>exact(d.Kk j).mono (by omega)
       | some e=>
        have u:e∈c.l:=cF t
        exact Aky n _ e (some y) (a.Kk u) λz A=>by cases A;exact d.Kk j
      ·exact(a.Kk (bX.1 i).1).mono (by omega)
    ·exact a.mono (by omega)
theorem Aek (v:Val)(a:Hd 1073741824 v):W 200 0 [v.enc]=some [v.enc]:=by
 have h:=M8 [v] (by simp) (λx b=>by grind)
 simp only[aK,aN]at h
 rw[dC]at h
 rw[A19.p]
 simp_all
theorem Aga (s:Sch)(l:List Val)(k:ByteArray)(e: ∀x∈l,x.Ap<=1048576/\isKey x s.key=true)(j:l.length<=1048576)(a b c:IV)(g:(IV.agg [.int 0,.int 0,.str ⟨#[]⟩,.list [],.list []])=Au.enc): ∀ (n i:Nat),i+n=l.length->
  W 202 1 [.str k,.list (l.map bJ),.int l.length,.int i,s.enc,a,b,c]=some [((Lw s (l.drop i) k).getD Au).enc,.bool (Lw s (l.drop i) k).isSome]
 | 0,i,h=>by
  have:i=l.length:=by omega
  subst this
  rw[A20.g,aM]
  simp only[ltn,aA,aU,aB,Zf,dB,g]
  rfl
 | n+1,i,h=>by
  have d:i<l.length:=by omega
  obtain⟨m,o⟩:=e _ (aE d)
  have q:=Aga s l k e j a b c g n (i+1) (by omega)
  rw[A20.g,aC d,Xp]
  simp only[lti d,aA,aU,Zt,I9 bJ d,Apv s l[i] m,o,eL,gH,nxt (show i<4611686018427387904 by omega),q]
  grind
theorem Ati (s:Sch)(l:List Val)(k:ByteArray)(a: ∀x∈l,x.Ap<=1048576/\isKey x s.key=true)(b:l.length<=1048576):W 202 0 [s.enc,.list (l.map bJ),.str k]=some [((Lw s l k).getD Au).enc,.bool (Lw s l k).isSome]:=by
 have:=Aga s l k a b (.int 0) (.int 0) (.str ⟨#[]⟩) rfl l.length 0 (by omega)
 simp only[aD,aF]at this
 rw[A20.f,Gi]
 exact this
def Old (s:Sch)(o:Option Val):Prop:= ∀v,o=some v->v.Ap<=1048576/\Q4 v/\Fit s v
def MgP (n:Nat):Prop:= ∀ (s:Sch) (c:Val) (o:Option Val),c.size<=n->SB s->s.Ap<=1048576->c.Ap<=1048576->c.valid=true->Fit s c->Old s o->
 W 199 0 [s.enc,c.enc,(o.getD Au).enc,.bool o.isSome]=some [(mg n s c o).enc]
theorem zget (o:Option Val)(nm:ByteArray):(o.getD Au).get nm=o.bind λv=>v.get nm:=by cases o<;>rfl
theorem Old.get {s t:Sch}{o:Option Val}(h:Old s o){nm:ByteArray}(b:Du s nm=some t):Old t (o.bind λv=>v.get nm):=by
 intro v c
 obtain⟨w,rfl,a⟩:=bZ.1 c
 obtain⟨g,d,e⟩:=h w rfl
 have:nm.size+v.Ap<w.Ap:=fT (Co a).1
 exact⟨by omega,d.get a,e.fld _ (Co a).1 t b⟩
theorem Aou {s:Sch}{o:Option Val}(h:Old s o):(o.getD Au).Ap <=1048576:=by
 cases o with
 | none=>decide+kernel
 | some v=>exact(h v rfl).1
theorem Aot {n:Nat}{s:Sch}{c:Val}{o:Option Val}(d:c.Ap<=1048576)(a:Old s o): ∀ (t:Sch),Hd 2097152 (mg n t c o):=λt=>
 Aky (N:=1048576) (M:=1048576) n t c o (Dd c (by omega)) λv b=>Dd v (by have:=(a v b).1;omega)
theorem A05 (n:Nat)(y:MgP n)(s:Sch)(c:Val)(o:Option Val)(H:c.size<=n+1)(d:SB s)(z:s.Ap<=1048576)(I:c.Ap<=1048576)(A:c.valid=true)(m:Fit s c)(q:Old s o)(r a2 a3:IV)(b0:Val)(B:Hd 2097152 b0)(C:b0.f.length<=1048576):
  W 199 2 [.list (c.f.map aZ),.int c.f.length,.int (0:Nat),s.enc,(o.getD Au).enc,r,a2,a3,b0.enc]=some [(c.f.foldl (λout p=>Df out p.1 (mg n ((Du s p.1).getD Bh) p.2 (o.bind λv=>v.get p.1))) b0).enc]:=by
 have hlen:=c.Bd
 refine Aid c.f (λi (b:Val)=>Hd 2097152 b/\b.f.length<=1048576+i) (λi b=>W 199 2 [.list (c.f.map aZ),.int c.f.length,.int i,s.enc,(o.getD Au).enc,r,a2,a3,b.enc]) (λout p=>Df out p.1 (mg n ((Du s p.1).getD Bh) p.2 (o.bind λv=>v.get p.1))) (λb=>some [b.enc]) b0 ?_ ?_ ⟨B,by omega⟩
 ·intro i j b u
  have e:=aE j
  have J:=fT e
  have K:=gR e
  obtain⟨t,a⟩:=aR.1 (m.known _ e)
  have F:=Amr a
  have g:=q.get a
  have w:=Aot (n:=n) (c:=c.f[i].2) (by omega) g t
  have G:=y t c.f[i].2 (o.bind λv=>v.get c.f[i].1) (by omega) (d.sub a) (by omega) (by omega) (D3 A e).1 (m.fld _ e t a) g
  have x:=Abk (o.getD Au) c.f[i].1 (by have:=Aou q;omega)
  have h:=Ajo b c.f[i].1 (mg n t c.f[i].2 (o.bind λv=>v.get c.f[i].1)) (u.1.mono (by omega)) (w.mono (by omega))
  rw[dC]at h
  rw[zget]at x
  refine⟨?_,?_⟩
  ·rw[A19.o]
   simp only[lti j,aA,aU,Zt,I9 aZ j,fU,Apq s _ z d,a,oE,aG,bF,eL,x,Ja,Jl,fI,dB,eV,G,bT,h,gC,nxt (show i<4611686018427387904 by omega)]
  ·simp only[a,aG]
   have:=Acz b c.f[i].1 (mg n t c.f[i].2 (o.bind λv=>v.get c.f[i].1))
   exact⟨Ac8 _ u.1 w (by omega),by omega⟩
 ·intro b _
  rw[A19.o]
  simp_all
def mgE (n:Nat)(s t:Sch)(c:Val)(x:Val):Val:=((Lw s c.l (Cw x s.key)).map λe=>mg n t e (some x)).getD x
theorem W8 (s:Sch)(c lv:Val)(r:c.Ap<=1048576)(b:lv.Ap<=1048576)(t: ∀x∈c.l,isKey x s.key=true)(a: ∀x∈lv.l,isKey x s.key=true)(o a2 a3:IV): ∀ (m i:Nat) (acc:List Val),i+m=c.l.length->acc.length<=1048576+i->(∀x∈acc,Hd 1073741824 x)->
  W 201 3 [.list (c.l.map bJ),.int c.l.length,.int i,s.enc,lv.enc,o,a2,a3,.list (acc.map bJ)]=some (hQ ⟨4,0,Am,acc++(c.l.drop i).filter (λe=>(Lw s lv.l (Cw e s.key)).isNone),[]⟩)
 | 0,i,acc,h,u,d=>by
  have:i=c.l.length:=by omega
  subst this
  have w:=c.Bu
  have y:=M8 acc (by omega) d
  rw[dC]at y
  rw[A20.d,aM,cC,aP,dC]
  simp_all
 | m+1,i,acc,h,u,d=>by
  have g:i<c.l.length:=by omega
  have w:=c.Bu
  have z:=lv.Bu
  have A:=aE g
  have B:=dM A
  have i1:=W8 s c lv r b t a o a2 a3 m (i+1) acc (by omega) (by omega) d
  have i2:=W8 s c lv r b t a o a2 a3 m (i+1) (acc++ [c.l[i]]) (by omega) (by simp;omega) (λx j=>by
   rcases bW.1 j with h | h
   ·exact d x h
   ·rw[bR]at h;subst h;exact Dd _ (by omega))
  have q:=Ati s lv.l (Cw c.l[i] s.key) (λx j=>⟨by have:=dM j;omega,a x j⟩) (by omega)
  rw[A20.d,aC g,bA]
  simp only[lti g,aA,aU,Zt,I9 bJ g,Apv s c.l[i] (by omega),eL,cH,q,dP,dO,apm bJ (n:=80) acc c.l[i] (by omega)]
  rw[A20.e,A20.e]
  simp only[nxt (show i<4611686018427387904 by omega),aA,i1,i2]
  grind
theorem Apz (n:Nat)(I:MgP n)(s t:Sch)(c lv:Val)(R:c.size<=n+1)(b:SB s)(S:s.Ap<=1048576)(J:c.Ap<=1048576)(K:c.valid=true)(w:s.it= [t])(L:Fit s c)(d:lv.Ap<=1048576)(g:Q4 lv)(j:Fit s lv)(z: ∀x∈c.l,isKey x s.key=true)(o: ∀x∈lv.l,isKey x s.key=true)(q a2 a3:IV): ∀ (m i:Nat) (acc:List Val),i+m=lv.l.length->acc.length<=i->(∀x∈acc,Hd 1073741824 x)->
  W 201 1 [.list (lv.l.map bJ),.int lv.l.length,.int i,s.enc,c.enc,lv.enc,q,a2,a3,.list (acc.map bJ)]=some (hQ ⟨4,0,Am,(acc++(lv.l.drop i).map (mgE n s t c))++c.l.filter (λe=>(Lw s lv.l (Cw e s.key)).isNone),[]⟩)
 | 0,i,acc,h,T,M=>by
  have:i=lv.l.length:=by omega
  subst this
  have U:=c.Bu
  have A:=lv.Bu
  have N:=W8 s c lv J d z o q a2 a3 c.l.length 0 acc (by omega) (by omega) M
  rw[aF]at N
  simp only[aD]at N
  rw[A20.b,aM,aN,aP]
  simp_all
 | m+1,i,acc,h,T,M=>by
  have r:i<lv.l.length:=by omega
  have U:=c.Bu
  have A:=lv.Bu
  have B:=aE r
  have h1:=dM B
  have a:t∈s.it:=by grind
  have X:=fH a
  have step: ∀x:Val,Hd 1073741824 x->W 201 2 [.list (lv.l.map bJ),.int lv.l.length,.int i,s.enc,c.enc,lv.enc,q,a2,a3,.list (acc.map bJ),x.enc]=some (hQ ⟨4,0,Am,(acc++x::(lv.l.drop (i+1)).map (mgE n s t c))++c.l.filter (λe=>(Lw s lv.l (Cw e s.key)).isNone),[]⟩):=by
   intro x C
   have i2:=Apz n I s t c lv R b S J K w L d g j z o q a2 a3 m (i+1) (acc++ [x]) (by omega) (by simp;omega) (λy Q=>by
    grind)
   rw[A20.c]
   simp only[dO,aA,apm bJ (n:=80) acc x (by omega),nxt (show i<4611686018427387904 by omega),i2,bI,bC]
  have F:=Ati s c.l (Cw lv.l[i] s.key) (λx C=>⟨by have:=dM C;omega,z x C⟩) (by omega)
  rw[A20.b,aC r,aK]
  simp only[lti r,aA,aU,Zt,I9 bJ r,Apv s lv.l[i] (by omega),eL,cH,F]
  unfold mgE at step ⊢
  cases G:Lw s c.l (Cw lv.l[i] s.key) with
  | none=>
   have:=step lv.l[i] (Dd _ (by omega))
   grind
  | some e=>
   have u:e∈c.l:=cF G
   have Y:=dM u
   have Z:=gS u
   have hold:Old t (some lv.l[i]):=λy Q=>by cases Q;exact⟨by omega,g.Kk _ B,j.el _ B t a⟩
   have hr:=I t e (some lv.l[i]) (by omega) (b.I4 a) (by omega) (by omega) (Cy K u) (L.el e u t a) hold
   have H:=Aot (n:=n) (c:=e) (by omega) hold t
   have:=step (mg n t e (some lv.l[i])) (H.mono (by omega))
   simp_all
theorem A38 (n:Nat)(j:MgP n)(s t:Sch)(c lv:Val)(m:c.size<=n+1)(a:SB s)(o:s.Ap<=1048576)(q:c.Ap<=1048576)(r:c.valid=true)(b:s.it= [t])(u:Fit s c)(d:lv.Ap<=1048576)(g:Q4 lv)(h:Fit s lv)(w: ∀x∈c.l,isKey x s.key=true)(i: ∀x∈lv.l,isKey x s.key=true):
  W 201 0 [s.enc,c.enc,lv.enc]=some (hQ ⟨4,0,Am,lv.l.map (mgE n s t c)++c.l.filter (λe=>(Lw s lv.l (Cw e s.key)).isNone),[]⟩):=by
 have:=Apz n j s t c lv m a o q r b u d g h w i (.int 0) (.int 0) (.str ⟨#[]⟩) lv.l.length 0 [] (by omega) (aQ _) (by simp)
 simp only[aD,aF,bE,aN]at this
 rw[A20.a]
 simp_all
theorem Alz {c:Val}(h:c.valid=true)(a:c.k=5):c=⟨5,0,Am,[],c.f⟩:=by
 obtain⟨b,d,e⟩:=(D.K5 h).map a
 conv=>lhs;rw[Val.eta c,b,d,e,a]
theorem Aey {c:Val}(h:c.valid=true)(a:c.k=4):c=⟨4,0,Am,c.l,[]⟩:=by
 obtain⟨b,d,e⟩:=(D.K5 h).list a
 conv=>lhs;rw[Val.eta c,b,d,e,a]
end Go.CT.Sch
namespace Go.CT.Sch
open Go.Proofs
theorem Jn {α:Type}{p q:α->Bool} : ∀ {l:List α},(∀x∈l,p x=q x)->l.find? p=l.find? q
 | [],_=>rfl
 | x::l,h=>by rw[bN,bN,h x (by simp),Jn λy a=>h y (by simp[a])]
theorem Anb (g:ByteArray × Val->Val)(nm:ByteArray): ∀ (l:List (ByteArray × Val)) (out:Val),Ch l->out.k=5->Ch out.f->
  (l.foldl (λo p=>Df o p.1 (g p)) out).get nm=((l.find? λp=>decide (p.1=nm)).map g).or (out.get nm)
 | [],out,_,_,_=>by simp
 | p::l,out,j,h,i=>by
  obtain⟨a,b⟩:=bO.1 j
  rw[dF,Anb g nm l _ b rfl (E6 _ _ _),bN]
  by_cases c:p.1=nm
  ·have d:(l.find? λq=>decide (q.1=nm))=none:=by
    rw[eO]
    intro q m
    have:=Ly (a q m)
    simp only[decide_eq_true_eq]
    intro e
    exact this (by rw[c,e])
   rw[d,<-c,Lr out h i]
   simp
  ·have c': ¬ nm=p.1:=λe=>c e.symm
   rw[Ao1 h i c']
   simp[c]
theorem Aos (g:ByteArray × Val->Val): ∀ (l:List (ByteArray × Val)) (out:Val),out.k=5->Ch out.f->(l.foldl (λo p=>Df o p.1 (g p)) out).k =5/\Ch (l.foldl (λo p=>Df o p.1 (g p)) out).f
 | [],_,h,a=>⟨h,a⟩
 | p::l,out,_,_=>by rw[dF];exact Aos g l _ rfl (E6 _ _ _)
theorem Ano {s:Sch}{c:Val}(b:Fit s c)(h:kids (some s) c= []):(c.k=5->c.f= [])/\(Dw s=true->c.l= []):=by
 have e:=b.kind
 rw[kids,if_pos e.symm]at h
 refine⟨λg=>?_,λd=>?_⟩
 ·rw[if_pos g]at h;exact fQ.1 h
 ·obtain⟨i,a⟩:=Br.1 d
  rw[if_neg (by omega),if_pos ⟨by omega,a,b.keyed d⟩]at h
  exact fQ.1 h
theorem Kv {s:Sch}{c:Val} :emS s c=true↔(c.k=5/\c.f= [])\/(c.k=4/\c.l= []/\Dw s=true):=by
 simp[emS,and_assoc,cJ]
theorem Alk {n:Nat}{s:Sch}{c:Val}{o:Option Val}(b:Fit s c)(h:kids (some s) c= [])(d:emS s c=false):mg n s c o=c:=by
 obtain⟨g,i⟩:=Ano b h
 have a: ¬ emS s c=true:=by simp[d]
 rw[Kv]at a
 cases n with
 | zero=>rfl
 | succ n=>
  rw[mg,d,if_neg (by simp),if_neg (λe=>a (.inl ⟨e,g e⟩)),if_neg]
  intro e
  rw[aJ]at e
  have j:=b.kind
  exact a (.inr ⟨by have:=(Br.1 e.1).1;omega,i e.1,e.1⟩)
def Was (s:Sch)(o:Option Val):Prop:= ∀v,o=some v->Q4 v/\Fit s v
theorem Was.get {s t:Sch}{o:Option Val}(h:Was s o){nm:ByteArray}(b:Du s nm=some t):Was t (o.bind λv=>v.get nm):=by
 intro v c
 obtain⟨w,rfl,a⟩:=bZ.1 c
 obtain⟨d,e⟩:=h w rfl
 exact⟨d.get a,e.fld _ (Co a).1 t b⟩
theorem W1 {s:Sch}{o:Option Val}(h:Was s o)(a:s.k=5):(o.getD Dz).k =5/\Ch (o.getD Dz).f :=by
 cases o with
 | none=>exact⟨rfl,bM⟩
 | some v=>exact⟨(h v rfl).2.kind.trans a,(h v rfl).1.strict⟩
theorem Ayo {c:Val}(a:c.k=5)(nm:ByteArray):c.get nm=(c.f.find? λp=>decide (p.1=nm)).map (·.2):=by
 unfold gQ;rw[if_pos a]
theorem Y5 {n:Nat}{s:Sch}{c:Val}{o:Option Val}(d:c.valid=true)(g:Fit s c)(b:c.k=5)(a:c.f≠ [])(i:Was s o)(nm:ByteArray):
  (mg (n+1) s c o).get nm=((c.get nm).map λe=>mg n ((Du s nm).getD Bh) e (o.bind λv=>v.get nm)).or (o.bind λv=>v.get nm):=by
 have r:=g.kind
 obtain⟨b1,b2⟩:=W1 i (by omega)
 have j:emS s c=false:=by
  rw[<-cQ,Kv]
  rintro (⟨_,h⟩ | ⟨h,_⟩)
  ·exact a h
  ·omega
 rw[mg,j,if_neg (by simp),if_pos b,Anb _ nm _ _ (Gs d) b1 b2,A4y,Ayo b,Option.map_map]
 congr 1
 cases m:c.f.find? λp=>decide (p.1=nm) with
 | none=>rfl
 | some q=>
  have:q.1=nm:=by simpa using eG m
  simp only[aH,Function.comp,this]
theorem A7f {n:Nat}{s:Sch}{c:Val}{o:Option Val}(d:Fit s c)(e:c.k=5)(b:Was s o):(mg (n+1) s c o).k =5:=by
 have g:=d.kind
 obtain⟨b1,b2⟩:=W1 b (by omega)
 cases a:emS s c&&o.isSome with
 | false=>
  rw[mg,a,if_neg (by simp),if_pos e]
  exact(Aos (λp=>mg n ((Du s p.1).getD Bh) p.2 (o.bind λv=>v.get p.1)) c.f _ b1 b2).1
 | true=>
  rw[mg,a,if_pos rfl]
  rw[aJ]at a
  obtain⟨v,rfl⟩:=aR.1 a.2
  exact(b v rfl).2.kind.trans (by omega)
theorem A5l {n:Nat}{u:Sch}(a:u.k=3)(b:ByteArray)(o:Option Val):mg n u (Qg b) o=Qg b:=by
 refine Alk (Anr a b) ?_ ?_
 ·rw[kids]
  split
  ·rw[if_neg (show ¬ (Qg b).k =5 from show ¬ (3:Int)=5 by decide),if_neg (λh=>absurd (show(3:Int)=4 from h.1) (by decide))]
  ·rfl
 ·rw[<-cQ,Kv]
  rintro (⟨h,_⟩ | ⟨h,_⟩)<;>exact absurd h (by simp[Qg])
theorem A6t {n:Nat}{t u:Sch}{e x:Val}{key:ByteArray}(c:e.valid=true)(a:Fit t e)(g:Q4 x)(b:Fit t x)(h:Du t key=some u)(i:u.k=3)(ke:isKey e key=true)(d:Cw e key=Cw x key):
  isKey (mg n t e (some x)) key=true/\Cw (mg n t e (some x)) key=Cw x key:=by
 obtain⟨e5,em,eg⟩:=I2 c ke
 cases n with
 | zero=>exact⟨ke,d⟩
 | succ n=>
  have:=Y5 (n:=n) (o:=some x) c a e5 (eP em) (λv j=>by cases j;exact⟨g,b⟩) key
  rw[eg,h,aH,aG,A5l i,dX]at this
  unfold isKey Cw
  rw[this,d]
  exact⟨by simp[Qg],rfl⟩
structure KL (s t:Sch)(c v:Val):Prop where
 ks:Dw s=true
 it:s.it= [t]
 u: ∃u,Du t s.key=some u/\u.k=3
 vs:s.valid=true
 vc:c.valid=true
 fc:Fit s c
 nv:Q4 v
 fv:Fit s v
theorem KL.mem {s t:Sch}{c v:Val}(h:KL s t c v):t∈s.it:=by rw[h.it];simp
theorem KL.kc {s t:Sch}{c v:Val}(h:KL s t c v): ∀e∈c.l,isKey e s.key=true:=B9 (h.fc.keyed h.ks)
theorem KL.kv {s t:Sch}{c v:Val}(h:KL s t c v): ∀e∈v.l,isKey e s.key=true:=B9 (h.fv.keyed h.ks)
theorem Aqy {s:Sch}{c v:Val}(a:s.valid=true)(b:Dw s=true)(e:c.valid=true)(g:Fit s c)(h:Q4 v)(i:Fit s v): ∃t,KL s t c v:=by
 obtain⟨t,d⟩:=aX.1 ((dS a).list (Br.1 b).1)
 exact⟨t,b,d,(Ro a b (by rw[d];simp)).2,a,e,g,h,i⟩
theorem P8 {s:Sch}{l:List Val}{k:ByteArray}{x:Val}(h:Lw s l k=some x):x∈l/\Cw x s.key=k:=
 ⟨cF h,by simpa using eG h⟩
theorem Aez {n:Nat}{s t:Sch}{c v:Val}(h:KL s t c v): ∀x∈v.l,isKey (mgE n s t c x) s.key=true/\Cw (mgE n s t c x) s.key=Cw x s.key:=by
 intro x a
 unfold mgE
 cases d:Lw s c.l (Cw x s.key) with
 | none=>exact⟨h.kv x a,rfl⟩
 | some e=>
  obtain⟨b,g⟩:=P8 d
  obtain⟨u,i,j⟩:=h.u
  exact A6t (Cy h.vc b) (h.fc.el e b t h.mem) (h.nv.Kk x a) (h.fv.el x a t h.mem) i j (h.kc e b) g
theorem Jw {s:Sch}{c:Val}(a:Dw s=true)(b:Fit s c){y:Val}(d:y∈c.l):Lw s c.l (Cw y s.key)=some y:=by
 have h:=b.keyed a
 rw[<-Uf h y d]
 exact Jn λx e=>(S2 (B9 h x e) _).symm
def mgL (n:Nat)(s t:Sch)(c v:Val):List Val:=v.l.map (mgE n s t c)++c.l.filter λe=>(Lw s v.l (Cw e s.key)).isNone
theorem Aw4 {n:Nat}{s t:Sch}{c v:Val}(h:KL s t c v): ∀x∈mgL n s t c v,isKey x s.key=true:=by
 intro x a
 rcases bW.1 a with a | a
 ·obtain⟨y,b,rfl⟩:=aS.1 a
  exact(Aez h y b).1
 ·exact h.kc x (bX.1 a).1
theorem Anw {n:Nat}{s t:Sch}{c v:Val}(h:KL s t c v)(k:ByteArray):Lw s (mgL n s t c v) k=((Lw s v.l k).map (mgE n s t c)).or (Lw s c.l k):=by
 unfold mgL
 rw[Lw,gE,List.find?_map]
 have a:v.l.find? ((λx=>decide (Cw x s.key=k)) ∘ mgE n s t c)=Lw s v.l k:=Jn λx b=>by
  show decide (Cw (mgE n s t c x) s.key=k)=_
  rw[(Aez h x b).2]
 rw[a]
 cases d:Lw s v.l k with
 | some x=>rfl
 | none=>
  rw[cU,eQ,eQ,List.find?_filter]
  refine Jn λe _=>?_
  by_cases c:Cw e s.key=k
  ·rw[c,d];simp
  ·simp[c]
theorem An4 {n:Nat}{s t:Sch}{c v:Val}(h:KL s t c v)(k:ByteArray):(mgL n s t c v).find? (hasB s.key k)=((Lw s v.l k).map (mgE n s t c)).or (Lw s c.l k):=by
 rw[<-Anw h k]
 exact Jn λx a=>S2 (Aw4 h x a) k
theorem mg4 {n:Nat}{s t:Sch}{c v:Val}(h:KL s t c v)(a:c.l≠ []):mg (n+1) s c (some v)=⟨4,0,Am,mgL n s t c v,[]⟩:=by
 have d:=h.fc.kind
 have e:=(Br.1 h.ks).1
 have b:emS s c=false:=by
  rw[<-cQ,Kv]
  rintro (⟨h,_⟩ | ⟨_,h,_⟩)
  ·omega
  ·exact a h
 rw[mg,b,if_neg (by simp),if_neg (by omega),h.ks,if_pos (by simp)]
 unfold mgL mgE
 rw[h.it]
 rfl
end Go.CT.Sch
namespace Go.CT.Sch
open Go.Proofs
theorem Auq {u x w:Val}{key:ByteArray}{sv:Val}{q:List Stp}(d:u.k=5)(e:Ch u.f)(A:x.k=5)(i:x.get key=some sv)(g:Gf x q=some w)(h:Gf u q=some w)(j:q≠ []):Gf (Df u key sv) q=some w:=by
 cases q with
 | nil=>exact absurd rfl j
 | cons a q=>
  simp only[Gf,bZ]at g h ⊢
  obtain⟨y,e1,m⟩:=g
  obtain⟨z,b,o⟩:=h
  have r:a.k=1:=by
   apply dK
   intro t
   unfold Kj at e1
   rw[if_neg t,if_neg (by omega)]at e1;cases e1
  unfold Kj at e1 b ⊢
  rw[if_pos r]at e1 b ⊢
  by_cases c:a.nm=key
  ·rw[c,Lr u d e]
   rw[c,i]at e1
   cases e1
   exact⟨_,rfl,m⟩
  ·exact⟨z,Amt u d e c b,o⟩
theorem Vl {v:Val}(a:v.valid=true){x:ByteArray × Val}(b:x∈v.f):C6 (Cd x.1)=true:=by
 have:=(D3 a b).2
 unfold C6 Cd
 simp[this]
theorem Vh {x:Val}(a:x.valid=true){key:ByteArray}(d:isKey x key=true):C6 (Uc key x)=true:=by
 obtain⟨h,c,i⟩:=I2 a d
 have e:=(D3 a c).2
 have g:=Ajd (D3 a c).1 rfl
 have b:J9 (Cw x key)=true:=g
 unfold C6 Uc
 simp[e,b]
theorem Ajp: ∀ (n:Nat) (o:Option Sch) (v:Val) (p:List Stp) (t:ByteArray),v.size<=n->v.valid=true->t∈lv n o v p->
  ∃q w,t=Ck (p++q)/\Gf v q=some w/\(∀x∈q,C6 x=true)/\(kids o v≠ []->q≠ [])/\ ∀ch,ch t=true->(pt n o v p ch).2 =true/\Gf (pt n o v p ch).1 q=some w
 | 0,o,v,p,t,h,_,_=>by have:=v.size_pos;omega
 | n+1,o,v,p,t,h,e,g=>by
  rw[lv]at g
  by_cases c:kids o v= []
  ·rw[if_pos c,bR]at g
   subst g
   refine⟨[],v,by simp,rfl,by simp,λh=>absurd c h,λch B=>?_⟩
   rw[Jk,if_pos c]
   exact⟨B,rfl⟩
  ·rw[if_neg c]at g
   obtain⟨x,A,g⟩:=cE.1 g
   obtain⟨ab,_⟩:=J3 A
   obtain⟨q,w,e1,I,Y,e4,e5⟩:=Ajp n x.2.2 x.2.1 (p++ [x.1]) t (by omega) (Ui e A) g
   rw[bI,bC]at e1
   obtain⟨s,rfl,h1,C⟩:=Hs c
   rcases C with⟨K,i⟩ | ⟨Z,aa,d,i⟩
   ·rw[i]at A
    obtain⟨y,b,rfl⟩:=aS.1 A
    have hg:v.get y.1=some y.2:=get_of_mem e b
    refine⟨Cd y.1::q,w,e1,?_,?_,λ_=>by simp,λch B=>?_⟩
    ·simp only[Gf,Kj,Cd,Zt,hg,aA];exact I
    ·intro z a
     rcases bD.1 a with rfl | a
     ·exact Vl e b
     ·exact Y z a
    ·obtain⟨L,J⟩:=e5 ch B
     have M:=Azj (r:=λx=>pt n x.2.2 x.2.1 (p++ [x.1]) ch) b L
     have N:Ch (pt (n+1) (some s) v p ch).1.f :=Z8 e K
     have j:=A1o (n+1) (some s) v p ch
     have hf:(pt (n+1) (some s) v p ch).1.f =fieldsOf (G5 (λx=>pt n x.2.2 x.2.1 (p++ [x.1]) ch) (v.f.map (Dq s))):=by
      rw[Jk,if_neg c,i];simp only[K,Zt,cR]
     have C:(pt (n+1) (some s) v p ch).2 =true:=by
      rw[Jk,if_neg c,i]
      cases F:G5 (λx=>pt n x.2.2 x.2.1 (p++ [x.1]) ch) (v.f.map (Dq s)) with
      | nil=>rw[F]at M;simp[fieldsOf]at M
      | cons=>rfl
     have G:=(O4 (j.trans K) N).2 (by rw[hf];exact M)
     refine⟨C,?_⟩
     simp only[Gf,Kj,Cd,Zt,G,aA]
     exact J
   ·rw[i]at A
    obtain⟨y,b,rfl⟩:=aS.1 A
    have H:=B9 d y b
    have m:=Cy e b
    obtain⟨y5,ym,yg⟩:=I2 m H
    have Q:=Uf d y b
    refine⟨Uc s.key y::q,w,e1,?_,?_,λ_=>by simp,λch B=>?_⟩
    ·have R: ¬ (3:Int)=1:=by decide
     have S: ¬ (3:Int)=2:=by decide
     simp only[Gf,Kj,Uc,R,S,Zf,Z,Zt,Q,aA];exact I
    ·intro z a
     rcases bD.1 a with rfl | a
     ·exact Vh m H
     ·exact Y z a
    ·obtain⟨L,J⟩:=e5 ch B
     have T: ∀z∈v.l,(pt n (Cp s z).2.2 (Cp s z).2.1 (p++ [(Cp s z).1]) ch).1.k =5/\Ch (pt n (Cp s z).2.2 (Cp s z).2.1 (p++ [(Cp s z).1]) ch).1.f :=λz a=>by
      obtain⟨z5,_,_⟩:=I2 (Cy e a) (B9 d z a)
      exact⟨(A1o _ _ _ _ _).trans z5,Z8 (Cy e a) z5⟩
     have u:=Aj6 (r:=λx=>pt n x.2.2 x.2.1 (p++ [x.1]) ch) d T y b L
     have n5: ¬ v.k=5:=by omega
     have F:(pt (n+1) (some s) v p ch).1.l =Gh (G5 (λx=>pt n x.2.2 x.2.1 (p++ [x.1]) ch) (v.l.map (Cp s))):=by
      rw[Jk,if_neg c,i];simp only[n5,Zf,cW]
     have C:(pt (n+1) (some s) v p ch).2 =true:=by
      rw[Jk,if_neg c,i]
      cases F:G5 (λx=>pt n x.2.2 x.2.1 (p++ [x.1]) ch) (v.l.map (Cp s)) with
      | nil=>rw[F]at u;simp[Gh]at u
      | cons=>rfl
     have j:=A1o (n+1) (some s) v p ch
     refine⟨C,?_⟩
     have R: ¬ (3:Int)=1:=by decide
     have S: ¬ (3:Int)=2:=by decide
     simp only[Gf,Kj,Uc,R,S,Zf,j,Z,Zt,F,u,aA]
     by_cases cq:q= []
     ·subst cq
      have U:y=w:=dE I
      have X:(pt n (Cp s y).2.2 (Cp s y).2.1 (p++ [(Cp s y).1]) ch).1 =w:=dE J
      rw[X,<-U,Ahd m yg];rfl
     ·exact Auq (T y b).1 (T y b).2 y5 yg I J cq
theorem A0m: ∀ (n:Nat) (o:Option Sch) (v:Val) (p:List Stp) (ch:ByteArray->Bool),v.size<=n->v.valid=true->(∀t∈lv n o v p,ch t=true)->pt n o v p ch=(v,true)
 | 0,o,v,p,ch,h,_,_=>by have:=v.size_pos;omega
 | n+1,o,v,p,ch,h,i,j=>by
  rw[lv]at j
  rw[Jk]
  by_cases c:kids o v= []
  ·rw[if_pos c]at j ⊢
   rw[j _ (by simp)]
  ·rw[if_neg c]at j ⊢
   have G: ∀x∈kids o v,pt n x.2.2 x.2.1 (p++ [x.1]) ch=(x.2.1,true):=λx d=>by
    obtain⟨H,_⟩:=J3 d
    exact A0m n _ _ _ _ (by omega) (Ui i d) λt I=>j t (cE.2 ⟨x,d,I⟩)
   have e: ∀l:List Kid,(∀x∈l,pt n x.2.2 x.2.1 (p++ [x.1]) ch=(x.2.1,true))->G5 (λx=>pt n x.2.2 x.2.1 (p++ [x.1]) ch) l=l.map λx=>(x.1,x.2.1):=by
    intro l
    induction l with
    | nil=>intro _;rfl
    | cons a l w=>
     intro h
     rw[Kn,h a cB,w λx d=>h x (bV _ d)]
     simp
   rw[e _ G]
   have y:((kids o v).map λx=>(x.1,x.2.1)).isEmpty =false:=by
    cases g:kids o v with
    | nil=>exact absurd g c
    | cons=>rfl
   rw[y]
   obtain⟨s,rfl,K,B⟩:=Hs c
   have b:v.n=0/\v.s=Am:=by
    have m:=i
    rw[Ew]at m
    have:=((Dc 11 v).1 m.1).1
    unfold Ge at this
    have g:v.k=4\/v.k=5:=by rcases B with⟨h,_⟩ | ⟨h,_⟩<;>omega
    rw[if_neg (by omega),if_neg (by omega),if_neg (by omega)]at this
    exact(of_decide_eq_true this).2
   rcases B with⟨z,g⟩ | ⟨C,F,A,g⟩
   ·have r:=Mv i (by omega)
    have u:fieldsOf ((kids (some s) v).map λx=>(x.1,x.2.1))=v.f:=by
     rw[g]
     unfold fieldsOf
     rw[dY,dY]
     conv=>rhs;rw[<-fL v.f]
     rfl
    simp only[z,Zt,u]
    obtain⟨k,nn,ss,l,f⟩:=v
    simp only[gP,cW,cR,gZ,eC]at z r b ⊢
    obtain⟨rfl,rfl⟩:=b
    subst z r;rfl
   ·have u:=Na i (by omega)
    have r:Gh ((kids (some s) v).map λx=>(x.1,x.2.1))=v.l:=by
     rw[g]
     unfold Gh
     rw[dY,dY]
     conv=>rhs;rw[<-fL v.l]
     refine dL λx d=>?_
     have q:=Cy i d
     obtain⟨_,_,xg⟩:=I2 q (B9 A x d)
     exact Ahd q xg
    have J: ¬ v.k=5:=by omega
    simp only[J,Zf,r]
    obtain⟨k,nn,ss,l,f⟩:=v
    simp only[gP,cW,cR,gZ,eC]at C u b ⊢
    obtain⟨rfl,rfl⟩:=b
    subst C u;rfl
end Go.CT.Sch
namespace Go.CT.Sch
open Go.Proofs
theorem Oc {v y:Val}{nm:ByteArray}{q:List Stp}(h:v.get nm=some y):Gf v (Cd nm::q)=Gf y q:=by
 simp only[Gf,Kj,Cd,Zt,h,aA]
theorem Qx {v y x:Val}{key:ByteArray}{q:List Stp}(a:v.k=4)(h:v.l.find? (hasB key (Cw x key))=some y):Gf v (Uc key x::q)=Gf y q:=by
 have b: ¬ (3:Int)=1:=by decide
 have c: ¬ (3:Int)=2:=by decide
 simp only[Gf,Kj,Uc,b,c,Zf,a,Zt,h,aA]
theorem Avt {s t:Sch}{nm:ByteArray}{q:List Stp}(a:s.k=5)(h:Du s nm=some t):atS s (Cd nm::q)=atS t q:=by
 simp only[atS,Pt,Cd,Zt,a,h,aA]
theorem Auo {s t:Sch}{x:Val}{q:List Stp}(b:Dw s=true)(h:s.it= [t]):atS s (Uc s.key x::q)=atS t q:=by
 obtain⟨c,a⟩:=Br.1 b
 have d: ¬ (3:Int)=1:=by decide
 have e: ¬ (3:Int)=2:=by decide
 simp[atS,Pt,Uc,c,a,h]
theorem Auv: ∀ (N:Nat) (s:Sch) (c:Val) (p:List Stp) (t:ByteArray),c.size<=N->s.valid=true->c.valid=true->Fit s c->t∈lv N (some s) c p->
  ∃q w u,t=Ck (p++q)/\Gf c q=some w/\(∀x∈q,C6 x=true/\x.k≠2)/\atS s q=some u/\ ∀ (m:Nat) (o:Option Val),Was s o-> ∃w',Gf (mg m s c o) q=some w'/\(w=w'\/emS u w=true)
 | 0,s,c,p,t,h,_,_,_,_=>by have:=c.size_pos;omega
 | N+1,s,c,p,t,h,Q,A,r,B=>by
  rw[lv]at B
  by_cases j:kids (some s) c= []
  ·rw[if_pos j,bR]at B
   refine⟨[],c,s,by grind,rfl,by simp,rfl,λm o _=>⟨_,rfl,?_⟩⟩
   cases he:emS s c with
   | true=>grind
   | false=>exact .inl (Alk r j he).symm
  ·rw[if_neg j]at B
   obtain⟨x,H,B⟩:=cE.1 B
   obtain⟨I,_⟩:=J3 H
   obtain⟨s',e,h1,h2⟩:=Hs j
   cases e
   rcases h2 with⟨k5,T⟩ | ⟨k4,J,K,T⟩
   ·rw[T]at H
    obtain⟨y,a,rfl⟩:=aS.1 H
    obtain⟨u',b⟩:=aR.1 (r.known y a)
    have d:t∈lv N (Du s y.1) y.2 (p++ [Cd y.1]):=B
    rw[b]at d
    have U:y.2.size<c.size:=I
    obtain⟨q,w,u,e1,L,e3,X,e5⟩:=Auv N u' y.2 _ t (by omega) (gT Q b) (D3 A a).1 (r.fld y a u' b) d
    rw[bI,bC]at e1
    have G:c.get y.1=some y.2:=get_of_mem A a
    refine⟨Cd y.1::q,w,u,e1,by rw[Oc G];exact L,?_,by rw[Avt (by omega) b];exact X,λm o R=>?_⟩
    ·intro z C
     rcases bD.1 C with rfl | C
     ·exact⟨Vl A a,show(1:Int)≠2 by decide⟩
     grind
    ·cases m with
     | zero=>exact⟨w,by rw[mg,Oc G];exact L,.inl rfl⟩
     | succ m=>
      have:=Y5 (n:=m) A r k5 (eP a) R y.1
      rw[G,aH,dX,b,aG]at this
      rw[Oc this]
      exact e5 m _ (R.get b)
   ·have g:Dw s=true:=Br.2 ⟨by omega,J⟩
    rw[T]at H
    obtain⟨y,a,rfl⟩:=aS.1 H
    obtain⟨S,M⟩:=aX.1 ((dS Q).list (Br.1 g).1)
    have F:S∈s.it:=by grind
    have d:t∈lv N s.it.head? y (p++ [Uc s.key y]):=B
    rw[M,eI]at d
    have U:y.size<c.size:=I
    obtain⟨q,w,u,e1,L,e3,X,e5⟩:=Auv N S y _ t (by omega) (gK Q F) (Cy A a) (r.el y a S F) d
    rw[bI,bC]at e1
    have Y:=Uf K y a
    have G:Gf c (Uc s.key y::q)=some w:=by rw[Qx k4 Y];exact L
    refine⟨Uc s.key y::q,w,u,e1,G,?_,by rw[Auo g M];exact X,λm o R=>?_⟩
    ·intro z C
     rcases bD.1 C with rfl | C
     ·exact⟨Vh (Cy A a) (B9 K y a),show(3:Int)≠2 by decide⟩
     grind
    ·cases m with
     | zero=>exact⟨w,G,.inl rfl⟩
     | succ m=>
      cases o with
      | none=>
       refine⟨w,?_,.inl rfl⟩
       have:mg (m+1) s c none=c:=by
        rw[mg]
        grind
       grind
      | some v=>
       obtain⟨o1,o2⟩:=R v rfl
       obtain⟨t'',Z⟩:=Aqy Q g A r o1 o2
       have:t''=S:=by have:=Z.it;grind
       subst this
       have i:=An4 (n:=m) Z (Cw y s.key)
       rw[Jw g r a]at i
       rw[mg4 Z (eP a)]
       cases hv:Lw s v.l (Cw y s.key) with
       | none=>
        rw[hv,cU,eQ]at i
        exact⟨w,by rw[Qx rfl i];exact L,.inl rfl⟩
       | some x=>
        obtain⟨x1,x2⟩:=P8 hv
        rw[hv,aH,dX]at i
        rw[Qx rfl i]
        unfold mgE
        rw[x2,Jw g r a,aH,aG]
        exact e5 m (some x) λz C=>by cases C;exact⟨o1.Kk x x1,o2.el x x1 _ F⟩
end Go.CT.Sch
namespace Go.CT.Sch
open Go.Proofs
def Shp (u:Val):Prop:=u=⟨5,0,Am,[],u.f⟩
theorem Aox (u:Val)(nm:ByteArray)(x:Val):Shp (Df u nm x):=rfl
theorem Adx (g:ByteArray × Val->Val): ∀ (l:List (ByteArray × Val)) (out:Val),(Shp out\/l≠ [])->Shp (l.foldl (λo p=>Df o p.1 (g p)) out)
 | [],out,h=>h.elim id λh=>absurd rfl h
 | p::l,out,_=>by rw[dF];exact Adx g l _ (.inl (Aox _ _ _))
theorem Aq4 {u x:Val}{nm:ByteArray}(h:Shp u)(a:Ch u.f)(d:u.get nm=some x):Df u nm x=u:=by
 have b:u.k=5:=congrArg Val.k h
 have g:(Df u nm x).f =u.f:=U8 (E6 _ _ _) a λp=>by
  rw[Lj b a]
  constructor
  ·rintro (⟨_,h⟩ | rfl)
   ·exact h
   ·exact(Co d).1
  ·intro hp
   by_cases c:p.1=nm
   ·have:=(O4 b a).2 (show(nm,p.2)∈u.f by grind)
    grind
   grind
 have e:Df u nm x=⟨5,0,Am,[],(Df u nm x).f⟩:=Aox _ _ _
 rw[e,g]
 exact h.symm
theorem Uq (g:ByteArray × Val->Val){u:Val}(h:Shp u)(a:Ch u.f): ∀l:List (ByteArray × Val),(∀p∈l,u.get p.1=some (g p))->l.foldl (λo p=>Df o p.1 (g p)) u=u
 | [],_=>rfl
 | p::l,b=>by
  rw[dF,Aq4 h a (b p (by simp))]
  exact Uq g h a l λq c=>b q (by simp[c])
theorem mg5 {n:Nat}{s:Sch}{c:Val}{o:Option Val}(a:emS s c=false)(b:c.k=5):mg (n+1) s c o=c.f.foldl (λout p=>Df out p.1 (mg n ((Du s p.1).getD Bh) p.2 (o.bind λv=>v.get p.1))) (o.getD Dz):=by
 rw[mg,a,if_neg (by simp),if_pos b]
theorem mg0 {n:Nat}{s:Sch}{c:Val}{o:Option Val}(a:emS s c=false)(b: ¬ c.k=5)(d: ¬ (Dw s&&o.isSome)=true):mg (n+1) s c o=c:=by
 rw[mg,a,if_neg (by simp),if_neg b,if_neg d]
theorem A8b {s:Sch}{c:Val}(a:emS s c=false)(b:c.k=5):c.f≠ []:=λe=>by
 rw[Kv.2 (.inl ⟨b,e⟩)]at a;cases a
theorem A27 {s:Sch}{c:Val}(a:emS s c=false)(d:Fit s c)(b:Dw s=true):c.l≠ []:=λe=>by
 rw[Kv.2 (.inr ⟨d.kind.trans (Br.1 b).1,e,b⟩)]at a;cases a
theorem Qr {key:ByteArray} : ∀ {l:List Val} {acc:List ByteArray},Dh key acc l=true↔(∀x∈l,isKey x key=true)/\(l.map λx=>Cw x key).Nodup /\ ∀x∈l,Cw x key∉acc
 | [],acc=>by simp[Dh]
 | x::l,acc=>by
  have a:(!inB acc (Cw x key))=true↔Cw x key∉acc:=by rw[<-Hg];simp
  rw[Dh,aJ,aJ,a,Qr (l:=l)]
  grind
theorem Au8 {n:Nat}{s t:Sch}{c v:Val}(h:KL s t c v):Dh s.key [] (mgL n s t c v)=true:=by
 obtain⟨_,g,_⟩:=Qr.1 (h.fv.keyed h.ks)
 obtain⟨_,i,_⟩:=Qr.1 (h.fc.keyed h.ks)
 refine Qr.2 ⟨Aw4 h,?_,by simp⟩
 unfold mgL
 rw[cM,dY]
 have e:v.l.map ((λx=>Cw x s.key) ∘ mgE n s t c)=v.l.map λx=>Cw x s.key:=dL λx d=>(Aez h x d).2
 rw[e,List.nodup_append]
 refine⟨g,fZ (iP _ fR) i,?_⟩
 intro a j b m e
 obtain⟨x,d,rfl⟩:=aS.1 j
 obtain⟨y,o,rfl⟩:=aS.1 m
 have:=(bX.1 o).2
 rw[<-e,Jw h.ks h.fv d]at this
 cases this
theorem Aoe: ∀ (n:Nat) (s:Sch) (c:Val) (o:Option Val),s.valid=true->c.valid=true->Fit s c->Was s o->Q4 (mg n s c o)/\Fit s (mg n s c o)
 | 0,s,c,o,_,j,b,_=>⟨Ht _ c (aQ _) j,b⟩
 | n+1,s,c,o,K,j,b,m=>by
  have Z:=b.kind
  cases C:emS s c&&o.isSome with
  | true=>
   rw[mg,C,if_pos rfl]
   rw[aJ]at C
   obtain⟨v,rfl⟩:=aR.1 C.2
   exact m v rfl
  | false=>
   by_cases q:c.k=5
   ·by_cases h:c.f= []
    ·have e1:emS s c=true:=Kv.2 (.inl ⟨q,h⟩)
     rw[e1,bK]at C
     have:o=none:=by simp_all
     subst this
     rw[mg,e1]
     simp only[cI,dI,aB,Zf,q,Zt,h,gV,dA]
     exact⟨.mk _ bM (by simp[Dz]) (by simp[Dz]),.mk _ _ (show(5:Int)=s.k by omega) (by simp[Dz]) (by simp[Dz]) (by simp[Dz]) λa=>by have:=(Br.1 a).1;omega⟩
    ·have L:=A7f (n:=n) b q m
     have i:emS s c=false:=by
      rw[<-cQ,Kv]
      grind
     have S:=W1 m (show s.k=5 by omega)
     have F:Shp (mg (n+1) s c o):=by rw[mg5 i q];exact Adx _ _ _ (.inr h)
     have G:Ch (mg (n+1) s c o).f :=by rw[mg5 i q];exact(Aos _ _ _ S.1 S.2).2
     have hl:(mg (n+1) s c o).l = []:=congrArg Val.l F
     have M: ∀p∈(mg (n+1) s c o).f,∃t,Du s p.1=some t/\Q4 p.2/\Fit t p.2:=by
      intro p hp
      have I:=(O4 L G).2 (show(p.1,p.2)∈_ from hp)
      rw[Y5 j b q h m]at I
      cases r:c.get p.1 with
      | some e=>
       have u:=(Co r).1
       obtain⟨t,g⟩:=aR.1 (b.known _ u)
       have g:Du s p.1=some t:=g
       rw[r,aH,dX,g,aG]at I
       have:=Aoe n t e (o.bind λv=>v.get p.1) (gT K g) (D3 j u).1 (b.fld _ u t g) (m.get g)
       grind
      | none=>
       rw[r,cU,eQ]at I
       obtain⟨w,rfl,Y⟩:=bZ.1 I
       obtain⟨J,H⟩:=m w rfl
       have A:=(Co Y).1
       obtain⟨t,g⟩:=aR.1 (H.known _ A)
       exact⟨t,g,J.J7 _ A,H.fld _ A t g⟩
     refine⟨.mk _ G (by grind) λp hp=>(M p hp).choose_spec.2.1,.mk _ _ (by omega) (λp hp=>?_) (λp hp t g=>?_) (by grind) λa=>by have:=(Br.1 a).1;omega⟩
     ·grind
     grind
   ·by_cases a:(Dw s&&o.isSome)=true
    ·have T:=a
     rw[aJ]at a
     obtain⟨v,rfl⟩:=aR.1 a.2
     have i:emS s c=false:=by grind
     obtain⟨J,H⟩:=m v rfl
     obtain⟨t,B⟩:=Aqy K a.1 j b J H
     rw[mg4 B (A27 i b a.1)]
     have M: ∀x∈mgL n s t c v,Q4 x/\Fit t x:=by
      intro x d
      rcases bW.1 d with d | d
      ·obtain⟨y,U,rfl⟩:=aS.1 d
       have N:Q4 y/\Fit t y:=⟨J.Kk y U,H.el y U t B.mem⟩
       unfold mgE
       cases Q:Lw s c.l (Cw y s.key) with
       | none=>exact N
       | some e=>
        obtain⟨X,c2⟩:=P8 Q
        exact Aoe n t e (some y) (gK K B.mem) (Cy j X) (b.el e X t B.mem) λz hz=>by grind
      ·have d:=(bX.1 d).1
       exact⟨Ht _ x (aQ _) (Cy j d),b.el x d t B.mem⟩
     refine⟨.mk _ bM (λx d=>(M x d).1) (by simp),.mk _ _ (show(4:Int)=s.k from(Br.1 a.1).1.symm) (by simp) (by simp) (λx d t' R=>?_) λ_=>Au8 B⟩
     rw[B.it,bR]at R
     simp_all
    ·have:mg (n+1) s c o=c:=by rw[mg,C,if_neg (by simp),if_neg q,if_neg a]
     rw[this]
     exact⟨Ht _ c (aQ _) j,b⟩
theorem Ae2: ∀ (n:Nat) (s:Sch) (c:Val),s.valid=true->c.valid=true->Fit s c->mg n s c (some c)=c
 | 0,_,_,_,_,_=>rfl
 | n+1,s,c,i,b,a=>by
  cases h:emS s c with
  | true=>rw[mg,h];rfl
  | false=>
   by_cases j:c.k=5
   ·rw[mg5 h j,aG]
    refine Uq _ (Alz b j) (Gs b) c.f λp hp=>?_
    have q:c.get p.1=some p.2:=get_of_mem b hp
    obtain⟨t,m⟩:=aR.1 (a.known p hp)
    show c.get p.1=some (mg n ((Du s p.1).getD Bh) p.2 ((some c).bind λv=>v.get p.1))
    rw[aA,q,m,aG,Ae2 n t p.2 (gT i m) (D3 b hp).1 (a.fld p hp t m)]
   ·by_cases d:Dw s=true
    ·have r:=Ht _ c (aQ _) b
     obtain⟨t,o⟩:=Aqy i d b a r a
     rw[mg4 o (A27 h a d)]
     have e1:c.l.map (mgE n s t c)=c.l:=by
      refine(dL λx g=>?_).trans (fL _)
      unfold mgE
      rw[Jw d a g,aH,aG,Ae2 n t x (gK i o.mem) (Cy b g) (a.el x g t o.mem)]
      rfl
     have u:c.l.filter (λe=>(Lw s c.l (Cw e s.key)).isNone)= []:=by
      rw[fE]
      intro x g
      rw[Jw d a g];simp
     unfold mgL
     rw[e1,u,aP]
     exact(Aey b (a.kind.trans (Br.1 d).1)).symm
    ·exact mg0 h j (by simp[d])
theorem Aff: ∀ (n:Nat) (s:Sch) (c:Val) (o:Option Val),s.valid=true->c.valid=true->Fit s c->Was s o->mg n s c (some (mg n s c o))=mg n s c o
 | 0,_,_,_,_,_,_,_=>rfl
 | n+1,s,c,o,m,h,b,u=>by
  cases j:emS s c with
  | true=>rw[mg,j];rfl
  | false=>
   by_cases q:c.k=5
   ·have d:=A8b j q
    have K:=W1 u (show s.k=5 by have:=b.kind;omega)
    have w:Shp (mg (n+1) s c o):=by rw[mg5 j q];exact Adx _ _ _ (.inr d)
    have C:Ch (mg (n+1) s c o).f :=by rw[mg5 j q];exact(Aos _ _ _ K.1 K.2).2
    rw[mg5 (o:=some _) j q,aG]
    refine Uq _ w C c.f λp hp=>?_
    have S:c.get p.1=some p.2:=get_of_mem h hp
    obtain⟨t,A⟩:=aR.1 (b.known p hp)
    have L:=Y5 (n:=n) h b q d u p.1
    rw[S,aH,dX,A,aG]at L
    show(mg (n+1) s c o).get p.1=some (mg n ((Du s p.1).getD Bh) p.2 ((some (mg (n+1) s c o)).bind λv=>v.get p.1))
    rw[aA,L,A,aG,Aff n t p.2 _ (gT m A) (D3 h hp).1 (b.fld p hp t A) (u.get A)]
   ·by_cases r:Dw s=true
    ·cases o with
     | none=>
      have:mg (n+1) s c none=c:=mg0 j q (by simp)
      rw[this]
      exact Ae2 (n+1) s c m h b
     | some v=>
      obtain⟨M,N⟩:=u v rfl
      obtain⟨t,i⟩:=Aqy m r h b M N
      have d:=A27 j b r
      have F:=Aoe (n+1) s c (some v) m h b u
      have G:=mg4 (n:=n) i d
      rw[G]at F ⊢
      obtain⟨a,B⟩:=Aqy m r h b F.1 F.2
      have:a=t:=by have:=B.it;rw[i.it]at this;grind
      subst this
      rw[mg4 B d]
      have e1:(mgL n s a c v).map (mgE n s a c)=mgL n s a c v:=by
       refine(dL λx g=>?_).trans (fL _)
       show mgE n s a c x=x
       rcases bW.1 g with g | g
       ·obtain⟨y,H,rfl⟩:=aS.1 g
        have I:=(Aez (n:=n) i y H).2
        rw[mgE,I]
        unfold mgE
        cases J:Lw s c.l (Cw y s.key) with
        | none=>rfl
        | some e=>
         obtain⟨Q,U⟩:=P8 J
         simp only[aH,aG]
         exact Aff n a e (some y) (gK m i.mem) (Cy h Q) (b.el e Q a i.mem) λz T=>by cases T;exact⟨M.Kk y H,N.el y H a i.mem⟩
       ·have g:=(bX.1 g).1
        unfold mgE
        rw[Jw r b g,aH,aG,Ae2 n a x (gK m i.mem) (Cy h g) (b.el x g a i.mem)]
      have X:c.l.filter (λe=>(Lw s (mgL n s a c v) (Cw e s.key)).isNone)= []:=by
       rw[fE]
       intro x g
       rw[Anw i,Jw r b g]
       grind
      show Val.mk 4 0 Am ((mgL n s a c v).map (mgE n s a c)++c.l.filter (λe=>(Lw s (mgL n s a c v) (Cw e s.key)).isNone)) []=_
      grind
    ·have R: ∀o,mg (n+1) s c o=c:=λo=>mg0 j q (by simp[r])
     rw[R,R]
end Go.CT.Sch
namespace Go.CT.Sch
open Go.Proofs
theorem Wv: ∀n,MgP n
 | 0=>λs c o h=>by have:=c.size_pos;omega
 | n+1=>λs c o J d K I q z g=>by
  have R:=Aou g
  have A:=z.kind
  have L: ∀v,o=some v->v.k=c.k:=λv q=>by rw[(g v q).2.2.kind,A]
  have r:=Aek c (Dd c (by omega))
  have i:=Aek (o.getD Au) (Dd _ (by omega))
  have S: ∀m:Nat,iO (.int (m:Int)) (.int 0)=some (.bool (!decide (m=0))):=λm=>by
   rw[gX];congr 2
   by_cases c:m=0
   ·subst c;rfl
   ·simp only[c,Ze,bP];exact decide_eq_true (by omega)
  rw[A19.m,mg]
  simp only[cT,cH,cN,aA,bU,aU,Gi,S,Aef,bT,Aw,Al]
  unfold emS
  by_cases B:c.k=5
  ·have X: ¬ c.k=4:=by omega
   have nk:Dw s=false:=by
    rw[<-cQ]
    intro h
    have:=(Br.1 h).1
    omega
   by_cases u:c.f.length=0
   ·simp only[B,u,nk,Zd,bB,aB,Zf,Zt,cX,hZ,bK]
    cases o with
    | none=>
     have j:=cJ.1 u
     have Q:=Alz q B
     rw[j]at Q
     simp only[cI,aB,Zf,r,bT,j,gV,dA]
     rw[Q];rfl
    | some v=>simp only[bF,Zt,i,bT];rfl
   ·have w:=Adu [] (by constructor<;>simp)
    rw[dC]at w
    have hlen:=c.Bd
    simp only[B,u,nk,Zd,Ze,bP,Zt,aB,Zf,dI,fS,cO,show ¬ (5:Int)=4 by omega]
    simp only[aN]at w
    simp only[w,gC]
    cases o with
    | none=>
     have:=A05 n (Wv n) s c none J d K I q z g (.int 0) (.int 0) (.str ⟨#[]⟩) Dz (by constructor<;>simp[Dz]) (dJ _)
     simp only[aD]at this
     simp only[cI,aB,Zf,dB,aA,A19.n,cN,Gi,eV]
     exact this
    | some v=>
     have M:v.k=5:=by rw[L v rfl,B]
     have:=A05 n (Wv n) s c (some v) J d K I q z g (.int 0) (.int 0) (.str ⟨#[]⟩) v (Dd v (by have:=(g v rfl).1;omega)) (by have:=(g v rfl).1;have:=v.Bd;omega)
     simp only[aD]at this
     simp only[aG]at i this
     simp only[bF,Zt,aG,M,Zd,i,bT,aA,A19.n,cN,Gi]
     exact this
  ·by_cases a:Dw s=true
   ·have N:c.k=4:=by rw[A];exact(Br.1 a).1
    obtain⟨t,C⟩:=aX.1 (d.list (Br.1 a).1)
    have b:=B9 (z.keyed a)
    by_cases F:c.l.length=0
    ·simp only[N,a,F,Zd,Ze,show ¬ (4:Int)=5 by omega,bB,aB,Zf,Zt,cX,cO,fS,bK,bU]
     cases o with
     | none=>simp only[cI,aB,Zf,r,bT]
     | some v=>simp only[bF,Zt,i,bT];rfl
    ·have x:=A38 n (Wv n) s t c (o.getD Au) J d K I q C z R (by
      cases o with
      | none=>exact .mk _ bM (by simp[Au]) (by simp[Au])
      | some v=>exact(g v rfl).2.1)
     simp only[N,a,F,Zd,Ze,show ¬ (4:Int)=5 by omega,bP,aB,Zf,Zt,dI,cO,fS,bK,bU]
     cases o with
     | none=>
      have y:=W8 s c Au I (by decide+kernel) b (by simp[Au]) (.int 0) (.int 0) (.str ⟨#[]⟩) c.l.length 0 [] (by omega) (dJ _) (by simp)
      have G:c.l.filter (λe=>(Lw s Au.l (Cw e s.key)).isNone)=c.l:=eK.2 λ_ _=>rfl
      rw[aF,bE,G,<-Aey q N]at y
      simp only[aD,aN,dC]at y
      have z3:fX 3 Au.enc=some (.list []):=rfl
      have T:O.len (.list [])=some (.int 0):=rfl
      have U:O.lt (.int 0) (.int 0)=some (.bool false):=rfl
      simp only[cI,aB,Zf,dA]
      rw[A20.a,z3]
      simp only[aA,T]
      rw[A20.b]
      simp only[U,aA,aU,aB,Zf,cH,Gi,y,gC,dB,eV]
     | some v=>
      have y:=x ((g v rfl).2.2) b (B9 ((g v rfl).2.2.keyed a))
      rw[dC]at y
      simp only[aG]at y
      simp only[bF,Zt,aG,y,gC,dB,aA,eV,C,eH]
      rfl
   ·have H:Dw s=false:=by simpa using a
    simp only[B,H,Ze,aB,Zf,dI,cO,Bool.or_self,ite_self,r,bT]
end Go.CT.Sch
namespace Go.CT.Sch
open Go.Proofs
end Go.CT.Sch
namespace Go.CT.Sch
open Go.Proofs
def Af3 (x:Mgr):List Mgr->List Mgr
 | []=> [x]
 | y::r=>if blt y.name x.name then y::Af3 x r else x::y::r
def Kd (l:List Mgr):Prop:=l.Pairwise λa b=>blt a.name b.name=true
theorem Ib (nm:ByteArray)(a:List ByteArray): ∀l:List Mgr,I6 nm a true l=I5 (l.filter λm=> !decide (m.name=nm))
 | []=>rfl
 | m::l=>by
  rw[I6,bA,hZ,Ib nm a l]
  unfold I5
  by_cases c:m.name=nm
  ·simp[c]
  ·by_cases b:0<m.paths.length
   ·simp[c,b]
   ·simp[c,b]
theorem Az1 (x:Mgr): ∀l:List Mgr,(∀m∈l,blt m.name x.name=false)->Af3 x l=x::l
 | [],_=>rfl
 | y::l,h=>by rw[Af3,h y (by simp)];rfl
theorem Gz (m:Mgr)(l:List Mgr):I5 (m::l)=if decide (0<m.paths.length)=true then m::I5 l else I5 l:=bA
theorem Acl (x:Mgr)(a:x.paths.length=0): ∀l:List Mgr,I5 (Af3 x l)=I5 l
 | []=>by rw[Af3,Gz,a];rfl
 | y::l=>by
  rw[Af3]
  split
  ·rw[Gz,Gz,Acl x a l]
  ·rw[Gz,a];rfl
theorem At3 (nm:ByteArray)(b:List ByteArray): ∀l:List Mgr,Kd l->I5 (Af3 ⟨nm,b⟩ (l.filter λm=> !decide (m.name=nm)))=I6 nm b (decide (b.length=0)) l:=by
 by_cases d:b.length=0
 ·intro l _
  rw[Acl _ d,d,decide_eq_true rfl,Ib]
 ·have hd:decide (0<b.length)=true:=decide_eq_true (by omega)
  rw[decide_eq_false d]
  intro l
  induction l with
  | nil=>intro _;rw[cC,Af3,Gz];simp only[hd,Zt];rfl
  | cons m l h=>
   intro i
   obtain⟨j,o⟩:=bO.1 i
   have ge:blt m.name nm=false-> ∀y∈l.filter (λm=> !decide (m.name=nm)),blt y.name nm=false:=by
    intro g y q
    have:=j y (bX.1 q).1
    cases a:blt y.name nm with
    | false=>rfl
    | true=>rw[G7 this a]at g;cases g
   rw[I6,bA]
   cases a:blt m.name nm with
   | true=>
    have e: ¬ m.name=nm:=Ly a
    simp only[e,Ze,bP,Zt,bB,dI,aB,Zf,bE,Bool.or_false,bK]
    rw[Af3]
    simp only[a,Zt]
    rw[Gz,h o]
    split<;>simp
   | false=>
    simp only[bP,cX,Zt,Bool.or_true]
    rw[Ib]
    by_cases c:m.name=nm
    ·simp only[c,Zd,bB,aB,Zf,cO,aP]
     rw[Az1 _ _ (ge a),Gz]
     simp only[hd,Zt,bC]
    ·simp only[c,Ze,bP,Zt,bK]
     rw[Af3]
     simp only[a,aB,Zf]
     rw[Gz,Gz]
     simp only[hd,Zt]
     split<;>simp
theorem Yw (x:Mgr): ∀l:List Mgr,Atn (x.name,x.enc) (l.map λm=>(m.name,m.enc))=(Af3 x l).map λm=>(m.name,m.enc)
 | []=>rfl
 | y::l=>by
  rw[aK,Atn,Af3]
  unfold blt
  split
  ·rw[Yw x l];rfl
  ·rfl
theorem Vt: ∀l:List Mgr,Kd l->H5 (l.map λm=>(m.name,m.enc))=l.map λm=>(m.name,m.enc)
 | [],_=>rfl
 | x::l,h=>by
  obtain⟨a,b⟩:=bO.1 h
  rw[aK,H5,Vt l b,Yw,Az1 x l λm c=>Pj (a m c)];rfl
theorem Ah1: ∀l:List Mgr,Ako (l.map Mgr.enc)=some (l.map Mgr.name)
 | []=>rfl
 | x::l=>by rw[aK,Ako,Ah1 l];rfl
theorem Ark (x:Mgr)(l:List Mgr)(d:Kd l)(g: ∀m∈l,¬ m.name=x.name)(o:l.length<=1048576):O.Aag [.list ((x::l).map Mgr.enc)]=some [.list ((Af3 x l).map Mgr.enc)]:=by
 have i:((x::l).map Mgr.name).zip ((x::l).map Mgr.enc)=(x::l).map λm=>(m.name,m.enc):=by
  rw[List.zip_map']
 have c:((x::l).map Mgr.name).Nodup :=by
  rw[aK,gN]
  refine⟨λh=>?_,?_⟩
  ·obtain⟨m,j,e⟩:=aS.1 h
   exact g m j e
  ·exact iL _ (λa b h=>Ly h) d
 rw[O.Aag,Ah1,aA,if_pos ⟨c,by simp;omega⟩,i,aK,H5,Vt l d,Yw,dY]
 rfl
end Go.CT.Sch
namespace Go.CT.Sch
open Go.Proofs
theorem Ue: ∀l:List ByteArray,Ho l=true->l.Pairwise λa b=>blt a b=true
 | [],_=>bM
 | [_],_=>eX _ _
 | a::b::l,h=>by
  simp only[Ho,aJ]at h
  have d:=Ue (b::l) h.2
  refine bO.2 ⟨λx c=>?_,d⟩
  rcases bD.1 c with rfl | c
  ·exact h.1
  ·exact G7 h.1 ((bO.1 d).1 x c)
theorem Alx {l:List Mgr}(h:Q6 l=true):Kd l/\(∀m∈l,m.paths≠ [])/\l.length<=16:=by
 unfold Q6 at h
 simp only[aJ,cL,decide_eq_true_eq]at h
 refine⟨gG.1 (Ue _ h.2.2),λm a e=>?_,h.2.1⟩
 have:=h.1 m a
 unfold okM at this
 simp only[aJ,dU,decide_eq_false_iff_not]at this
 exact this.1.2 (by rw[e];rfl)
def Ajv (cs:List Cf)(l:List Mgr):List Mgr:=l.map λm=>⟨m.name,G6 m.paths (Uk cs m.name)⟩
theorem Ap6 (cs:List Cf)(nm:ByteArray): ∀l:List Mgr,Aut cs nm l=(Ajv cs l).filter λm=> !decide (m.name=nm)
 | []=>rfl
 | m::l=>by
  have a:=Ap6 cs nm l
  unfold Aut Ajv at a ⊢
  rw[aK,bA,bA,<-a]
  split<;>rfl
theorem Ac0 {g:Mgr->List ByteArray}{l:List Mgr}(h:Kd l):Kd (l.map λm=>⟨m.name,g m⟩):=gG.2 h
theorem Px: ∀ {l:List Mgr} {m:Mgr},m∈l->m.paths.length<=Pv l
 | x::l,m,h=>by
  rw[Pv]
  rcases bD.1 h with rfl | h
  ·omega
  ·have:=Px h;omega
theorem Aib (nm:ByteArray)(a:List ByteArray)(l:List Mgr)(j:Kd l)(B:l.length<=1000000)(hp:a.length<=1048576)(d: ∀m∈l,m.paths.length<=1048576):
  (calls (W 205 0 [.list (((⟨nm,a⟩:Mgr)::l.filter λm=> !decide (m.name=nm)).map Mgr.enc)]) 1 λq=>calls (W 206 0 [q]) 1 λt=>some [t])=some [.list ((I6 nm a (decide (a.length=0)) l).map Mgr.enc)]:=by
 have u:=dG (λm:Mgr=> !decide (m.name=nm)) l
 have e:=Ark ⟨nm,a⟩ (l.filter λm=> !decide (m.name=nm)) (eE _ j) (λm g=>by simpa using(bX.1 g).2) (by omega)
 have c: ∀ (x:Mgr) (r:List Mgr),(Af3 x r).length =r.length+1/\ ∀y∈Af3 x r,y=x\/y∈r:=by
  intro x r
  induction r with
  | nil=>exact⟨rfl,λy b=>by simpa [Af3]using b⟩
  | cons z r o=>
   rw[Af3]
   split
   ·refine⟨by rw[cK,o.1];rfl,λy b=>?_⟩
    rcases bD.1 b with rfl | b
    ·exact .inr cB
    ·rcases o.2 y b with h | h
     ·exact .inl h
     ·exact .inr (bV _ h)
   ·exact⟨rfl,λy b=>bD.1 b⟩
 obtain⟨w,A⟩:=c ⟨nm,a⟩ (l.filter λm=> !decide (m.name=nm))
 have i:=A3u (Af3 ⟨nm,a⟩ (l.filter λm=> !decide (m.name=nm))) (by rw[w];omega) (λm g=>by
  rcases A m g with rfl | h
  ·exact hp
  ·exact d m (bX.1 h).1)
 simp only[A7z,e,bT,i,At3 nm a l j]
theorem A4o (cs:List Cf)(nm:ByteArray)(a:List ByteArray)(l:List Mgr)(d:Kd l)(j:l.length<=1000000)(hp:a.length<=1048576)(b: ∀m∈l,m.paths.length<=1048576)(g:cs.length<=1048576):
  W 203 0 [.list (l.map Mgr.enc),.str nm,SL a,.list (cs.map Cf.enc)]=some [.list ((I6 nm a (decide (a.length=0)) (Ajv cs l)).map Mgr.enc)]:=by
 have c:=Afj l cs nm (by omega) b g l.length 0 [(⟨nm,a⟩:Mgr)] (by omega) (aQ _)
 have e:IV.agg [.str nm,SL a]=Mgr.enc ⟨nm,a⟩:=rfl
 simp only[aD,aF,aK,aN]at c
 rw[A20.h]
 simp only[dB,dO,aA,Gi,e,c]
 rw[A20.i]
 simp only[ltn,aA,aU,aB,Zf]
 rw[Ap6,bC]
 exact Aib nm a (Ajv cs l) (Ac0 d) (by unfold Ajv;rw[aI];omega) hp (λm h=>by
  obtain⟨x,i,rfl⟩:=aS.1 h
  exact cP (My _ _) (b x i))
end Go.CT.Sch
namespace Go.CT.Sch
open Go.Proofs
def Pf (t:ByteArray):Prop:= ∃p,Ck p=t/\C3 p=true/\ ∀x∈p,x.k≠2
theorem Lx {s:Sch}{v:Val}{t:ByteArray}(a:v.valid=true)(b:t∈Ai s v):Pf t:=by
 obtain⟨q,w,e1,c,d,_⟩:=Arm a b
 exact⟨q,e1.symm,c,d⟩
open Classical in
noncomputable def Aaw (s:Sch) (cf lv:Val) (t:ByteArray):Bool:=if h:Pf t then Afy s cf lv h.choose else false
theorem A71 (s:Sch)(cf lv:Val)(t:ByteArray)(b:s.Ap<=1048576)(c:cf.Ap<=1048576)(d:lv.Ap<=1048576)(h:Pf t):W 155 0 [s.enc,cf.enc,lv.enc,.str t]=some [.bool (Aaw s cf lv t)]:=by
 obtain⟨g,i,j⟩:=h.choose_spec
 have e:Aaw s cf lv t=Afy s cf lv h.choose:=by unfold Aaw;rw[dif_pos h]
 have a:=A5b s cf lv h.choose b c d i j
 rw[g]at a
 rw[e]
 exact a
theorem A5z (s:Sch)(cf lv:Val)(t:ByteArray)(b:s.Ap<=1048576)(c:cf.Ap<=1048576)(d:lv.Ap<=1048576)(h:Pf t):W 229 0 [s.enc,cf.enc,lv.enc,.str t]=some [.bool (Aaw s cf lv t)]:=by
 obtain⟨g,i,j⟩:=h.choose_spec
 have e:Aaw s cf lv t=Afy s cf lv h.choose:=by unfold Aaw;rw[dif_pos h]
 have a:=A6g s cf lv h.choose b c d i
 rw[g]at a
 rw[e]
 exact a
def Th (l:List Mgr)(nm leaf:ByteArray):List Cf:=(l.filter λm=> !decide (m.name=nm)&&inB m.paths leaf).map λm=>⟨leaf,m.name⟩
def Sl (sat:ByteArray->Bool)(l:List Mgr)(nm:ByteArray)(set:List ByteArray):List Cf:=set.flatMap λleaf=>if sat leaf then[]else Th l nm leaf
theorem Ajw: ∀ (a b:List ByteArray),a.Nodup->(∀x∈a,x∈b)->a.length<=b.length
 | [],b,_,_=>dJ _
 | x::a,b,d,h=>by
  obtain⟨g,i⟩:=gN.1 d
  have j:=h x (by simp)
  have m:=Ajw a (b.filter λy=> !decide (y=x)) i λy c=>bX.2 ⟨h y (by simp[c]),by
   have:y≠x:=λe=>g (by rw[<-e];exact c)
   simpa using this⟩
  have:=List.length_filter_lt_length_iff_exists (p:=λy=> !decide (y=x)).2 ⟨x,j,by simp⟩
  rw[cK];omega
theorem Apc (nm:ByteArray)(m:Mgr)(l:List Mgr): ∀set:List ByteArray,(set.flatMap (Th (m::l) nm)).length =(set.filter λx=> !decide (m.name=nm)&&inB m.paths x).length +(set.flatMap (Th l nm)).length
 | []=>rfl
 | x::set=>by
  have a:=Apc nm m l set
  have e:(Th (m::l) nm x).length =(if(!decide (m.name=nm)&&inB m.paths x)=true then 1 else 0)+(Th l nm x).length :=by
   unfold Th
   rw[bA]
   split<;>simp<;>omega
  rw[aV,aV,aO,aO,a,e,bA]
  split<;>simp<;>omega
theorem An6 (nm:ByteArray)(set:List ByteArray)(a:set.Nodup): ∀l:List Mgr,(set.flatMap (Th l nm)).length <=Pv l
 | []=>by
  have: ∀set:List ByteArray,set.flatMap (Th [] nm)= []:=λset=>by
   induction set with
   | nil=>rfl
   | cons x set b=>rw[aV,b];rfl
  rw[this];exact aQ _
 | m::l=>by
  have b:=An6 nm set a l
  have d:=Ajw (set.filter λx=> !decide (m.name=nm)&&inB m.paths x) m.paths (fZ fR a) λx c=>by
   have:=(bX.1 c).2
   rw[aJ]at this
   exact Hg.1 this.2
  rw[Apc,Pv];omega
theorem Ann (sat:ByteArray->Bool)(l:List Mgr)(nm:ByteArray)(set:List ByteArray)(a:set.Nodup):(Sl sat l nm set).length <=Pv l:=by
 refine cP ?_ (An6 nm set a l)
 unfold Sl
 clear a
 induction set with
 | nil=>exact aQ _
 | cons x set b=>
  rw[aV,aV,aO,aO]
  split
  ·simp only[bH];omega
  ·omega
theorem Af9 (sat:ByteArray->Bool)(l:List Mgr)(nm:ByteArray){set:List ByteArray}{i:Nat}(a:i<set.length):Sl sat l nm (set.drop i)=(if sat set[i]then[]else Th l nm set[i])++Sl sat l nm (set.drop (i+1)):=by
 rw[aC a];rfl
theorem X3 (s:Sch)(v:Val):(Ai s v).Nodup :=iM (λh=>Ly h) (eE _ (Vi s v))
theorem Iv (s:Sch)(v:Val):(Ai s v).length <=v.Ap:=by
 have a:=dG (λx=> !decide (x=Am)) (Hk s v)
 have b:=Rk s v
 have c:=v.Gb
 unfold Ai;omega
theorem Aks (l:List Mgr)(nm leaf:ByteArray)(u:l.length<=1048576)(hp: ∀m∈l,m.paths.length<=1048576)(i o q r a b c d e g:IV): ∀ (n j:Nat) (cs:List Cf),j+n=l.length->cs.length+n<=4194304->
  W 51 3 [.list (l.map Mgr.enc),.str nm,i,.str leaf,o,q,.list (l.map Mgr.enc),.int l.length,.int j,r,a,b,c,d,e,g,.list (cs.map Cf.enc)]=
   W 51 2 [.list (l.map Mgr.enc),.str nm,i,o,q,r,a,b,c,d,e,g,.list ((cs++Th (l.drop j) nm leaf).map Cf.enc)]
 | 0,j,cs,h,w=>by
  have:j=l.length:=by omega
  subst this
  rw[A6.i,aM]
  simp only[ltn,aA,aU,aB,Zf,Th,cC,aN,aP]
 | n+1,j,cs,h,w=>by
  have t:j<l.length:=by omega
  have x:=aE t
  have i1:=Aks l nm leaf u hp i o q r a b c d e g n (j+1) cs (by omega) (by omega)
  have i2:=Aks l nm leaf u hp i o q r a b c d e g n (j+1) (cs++ [(⟨leaf,l[j].name⟩:Cf)]) (by omega) (by simp;omega)
  have ap:dR 32 (.list (cs.map Cf.enc)) (.list [.agg [.str leaf,.str l[j].name]])=some (.list ((cs++ [(⟨leaf,l[j].name⟩:Cf)]).map Cf.enc)):=apm Cf.enc (n:=32) cs (⟨leaf,l[j].name⟩:Cf) (by omega)
  have y:=hp _ x
  unfold Th at i1 i2 ⊢
  rw[A6.i,aC t,bA]
  simp only[lti t,aA,aU,Zt,I9 Mgr.enc t,Akd,Ari,gW,Nv _ leaf (show l[j].paths.length <=1099511627776 by omega),A67,bT,dB,dO,ap,Aw,Al]
  rw[A6.j,A6.j]
  simp only[nxt (show j<4611686018427387904 by omega),aA,i1,i2]
  cases decide (l[j].name =nm)<;>cases inB l[j].paths leaf<;>simp
theorem Ak5 (l:List Mgr)(nm:ByteArray)(w:l.length<=1048576)(e:Pv l<=1048576)(s:Sch)(cf lv:Val)(x:s.Ap<=1048576)(y:cf.Ap<=1048576)(j:lv.Ap<=1048576)(set:List ByteArray)(o:set.length<=1048576)(d: ∀t∈set,Pf t)(q a b c:IV): ∀ (n i:Nat) (cs:List Cf),i+n=set.length->cs.length+(Sl (Aaw s cf lv) l nm (set.drop i)).length <=2097152->
  W 51 1 [.list (l.map Mgr.enc),.str nm,q,.int set.length,.int i,s.enc,lv.enc,cf.enc,a,b,c,SL set,.list (cs.map Cf.enc)]=
   W 51 1 [.list (l.map Mgr.enc),.str nm,q,.int set.length,.int set.length,s.enc,lv.enc,cf.enc,a,b,c,SL set,.list ((cs++Sl (Aaw s cf lv) l nm (set.drop i)).map Cf.enc)]
 | 0,i,cs,h,g=>by
  have:i=set.length:=by omega
  subst this
  rw[aM]
  simp only[Sl,cD,aP]
 | n+1,i,cs,h,g=>by
  have r:i<set.length:=by omega
  have A:=gB IV.str (aL r)
  have u:=(A71 s cf lv set[i] x y j (d _ (aE r)))
  rw[Af9 _ _ _ r,aO]at g
  have i1:=Ak5 l nm w e s cf lv x y j set o d q a b c n (i+1) cs (by omega) (by omega)
  rw[Af9 _ _ _ r,A6.g]
  simp only[lti r,aA,aU,Zt,A,u,bT,Gi]
  cases B:Aaw s cf lv set[i]with
  | true=>
   rw[A6.h]
   simp only[Zt,nxt (show i<4611686018427387904 by omega),aA,i1,bE]
  | false=>
   rw[B]at g
   simp only[aB,Zf]at g
   have z:=Aks l nm set[i] w (λm C=>cP (Px C) e) q (.int set.length) (.int i) s.enc lv.enc cf.enc a b c (SL set) l.length 0 cs (by omega) (by omega)
   have i2:=Ak5 l nm w e s cf lv x y j set o d q a b c n (i+1) (cs++Th l nm set[i]) (by omega) (by rw[aO];omega)
   simp only[aD,aF]at z
   simp only[aB,Zf,z]
   rw[A6.h]
   simp only[nxt (show i<4611686018427387904 by omega),aA,i2,bI]
end Go.CT.Sch
namespace Go.CT.Sch.D
open Go.Proofs
theorem Ahv (s:Sch)(nm:ByteArray)(m:s.Ap<=1099511627776)(b d e g:IV): ∀ (n i:Nat),i+n=s.f.length->
  W 219 1 [.str nm,.int i,s.enc,b,d,e,g]=some (Wi (((s.f.drop i).find? λp=>decide (p.nm=nm)).map (·.s)))
 | 0,i,h=>by
  rw[A23.a]
  have j: ¬ i<s.f.length:=by omega
  simp[j,aY (cZ j),Wi,Ns]
 | n+1,i,h=>by
  have a:i<s.f.length:=by omega
  have q:=s.Bd
  have o:=Be (i:=i) (by omega)
  have:=Ahv s nm m b d e g n (i+1) (by omega)
  rw[A23.a,aC a]
  simp only[eT,eU,aI,dZ,Ao,a,Zd,aA,aU,Zt,eY,aT,aW,bG,aL a,aH,gO,eR,gH,fJ,o,this,bN]
  by_cases c:s.f[i].nm =nm
  ·simp[c,Wi]
  ·have c':decide (s.f[i].nm =nm)=false:=by simpa using c
   simp only[c,c',Ze,aB,Zf]
theorem A3p (s:Sch)(nm:ByteArray)(a:s.Ap<=1099511627776):W 219 0 [s.enc,.str nm]=some (Wi ((s.fld nm).map (·.s))):=by
 rw[A22.p]
 have:=Ahv s nm a (.int 0) (.int 0) (.int 0) (.str ⟨#[]⟩) s.f.length 0 (by omega)
 simp only[aF,aD]at this
 exact this
theorem A3j (s:Sch):W 218 0 [s.enc]=some [.bool (decide (0<s.it.length))]:=by
 rw[A22.o];simp
theorem Yg (sc:Sch)(v:Val)(b:SOk sc)(j:sc.Ap<=1099511627776)(A:v.Ap<=4294967000)(m o r:IV)(u: ∀p∈v.f,∀t,Du sc p.1=some t->W 217 0 [t.enc,p.2.enc]=some [(Ba p.2 t).enc]):
  ∀ (n i:Nat) (acc:List (ByteArray × Val)),i+n=v.f.length->acc.length<=i->
  W 217 2 [.int i,sc.enc,v.enc,m,o,r,.list (acc.map aZ)]=some [(Val.mk 5 0 Am [] (acc++(v.f.drop i).flatMap (D4 sc))).enc]
 | 0,i,acc,h,B=>by
  rw[A22.l]
  have w: ¬ i<v.f.length:=by omega
  simp only[cN,eU,aI,dZ,Ao,w,Ze,aA,aU,aB,Zf,dB,aY (cZ w),cD,aP]
  rw[<-iB];rfl
 | n+1,i,acc,h,B=>by
  have d:i<v.f.length:=by omega
  have hlen:=v.Bd
  have C:=Be (i:=i) (by omega)
  have F:=Ko sc v.f[i]
  have next:=Yg sc v b j A m o r u n (i+1) (acc++D4 sc v.f[i]) (by omega) (by rw[aO];omega)
  have c:(acc.length+1) * 96<=Bc:=Tt (by omega) (by omega)
  rw[bI]at next
  rw[A22.l,aC d,aV,<-next]
  simp only[cN,eU,aI,dZ,Ao,d,Zd,aA,aU,Zt,eY,aT,aW,bG,aL d,aH,fU,Fld.Dg,fI,bU,A3j,bT,A3p sc _ j,A22.m,A22.n,fJ,C]
  have a:=u _ (aE d)
  unfold D4
  by_cases x:v.f[i].2.k =0
  ·simp only[x,Zd,Zt,aP]
  ·simp only[x,Ze,aB,Zf]
   have y:=b.one
   unfold Du at a ⊢
   by_cases hd:sc.it.length=1
   ·obtain⟨t,z⟩:=aX.1 hd
    simp only[z,bL,Zt,bY]at a
    have e:=a t rfl
    simp only[z,bL,Nat.lt_one_iff,Zd,Zt,dN,aA,aK,aN,eY,eD,dH,bY,e,bT,cT,eZ,fA,cH,cN,dB,gY,dO,iN,aI,bL,c,cM]
   ·have g: ¬ 0<sc.it.length:=by omega
    simp only[hd,Zf]at a
    simp only[hd,g,Ze,aB,Zf]
    cases G:sc.fld v.f[i].1 with
    | none=>simp only[Wi,cU,cI,eL,aU,aB,Zf,aP]
    | some q=>
     have e:=a q.s (by rw[G];rfl)
     simp only[Wi,aH,bF,eL,aU,Zt,aG,e,bT,cT,eZ,fA,cH,cN,aA,dB,gY,dO,iN,aI,bL,c,cM,aK,aN]
theorem Xy (sc t:Sch)(v:Val)(q:v.Ap<=4294967000)(d e g:IV)(j:sc.it= [t])(m: ∀x∈v.l,W 217 0 [t.enc,x.enc]=some [(Ba x t).enc]):
  ∀ (n i:Nat) (acc:List Val),i+n=v.l.length->acc.length<=i->
  W 217 1 [.int i,sc.enc,v.enc,d,e,g,.list (acc.map bJ)]=some [(Val.mk 4 0 Am (acc++(v.l.drop i).map λx=>Ba x t) []).enc]
 | 0,i,acc,h,r=>by
  rw[A22.k]
  have o: ¬ i<v.l.length:=by omega
  simp only[cH,eU,aI,dZ,Ao,o,Ze,aA,aU,aB,Zf,dB,aY (cZ o),aN,aP]
  rw[<-iB];rfl
 | n+1,i,acc,h,r=>by
  have b:i<v.l.length:=by omega
  have hlen:=v.Bu
  have u:=Be (i:=i) (by omega)
  have next:=Xy sc t v q d e g j m n (i+1) (acc++ [Ba v.l[i] t]) (by omega) (by rw[aO];simp;omega)
  have c:(acc.length+1) * 80<=Bc:=Tt (by omega) (by omega)
  have a:=m _ (aE b)
  rw[bI,bC]at next
  rw[A22.k,aC b,aK,<-next]
  simp only[cH,eU,aI,dZ,Ao,b,Zd,aA,aU,Zt,eY,aT,aW,bG,aL b,aH,dN,j,aK,aN,eD,dH,bY,a,bT,dO,iN,aI,bL,c,cM,fJ,u]
theorem Att: ∀v:Val,v.Ap<=4294967000-> ∀sc:Sch,SOk sc->sc.Ap<=1099511627776->W 217 0 [sc.enc,v.enc]=some [(Ba v sc).enc]:=by
 refine eS λv d e i sc c g=>?_
 rw[A22.j,Gd]
 simp only[cT,dQ,aA,fG,bU,aU]
 by_cases j:v.k=sc.k
 ·simp only[j,Zd,bB,aB,Zf,Zt]
  by_cases m:sc.k=5
  ·have o:=Yg sc v c g i (.int 0) (.int 0) (.str ⟨#[]⟩) (λp hp t a=>e p hp (by have:=fT hp;omega) t (c.sub a) (by have:=J0 a;omega)) v.f.length 0 [] (by omega) (by simp)
   simp only[aF,aD,aN,bE]at o
   simp[m,o]
  ·by_cases h:sc.k=4
   ·obtain⟨t,a⟩:=aX.1 (c.list h)
    have b:t∈sc.it:=by rw[a];simp
    have q:=Xy sc t v i (.int 0) (.int 0) (.str ⟨#[]⟩) a (λx r=>d x r (by have:=dM r;omega) t (c.I4 b) (by have:=fH b;omega)) v.l.length 0 [] (by omega) (by simp)
    simp only[aF,aD,aN,bE]at q
    simp[h,a,q]
   ·simp[h,m]
 ·simp[j]
end Go.CT.Sch.D
namespace Go.CT.Sch
open Go.Proofs
def Ub (s:Sch)(lv:Val)(gone:List ByteArray):Val:=Ld s lv gone false
def Oy (m:List Mgr)(nm:ByteArray)(set:List ByteArray):List ByteArray:=G6 (G6 (Hy m nm) set) (Aqn nm m [])
def okB (s:Sch)(a b:Val)(m:List Mgr)(nm:ByteArray):Bool:=Kf s a&&Kf s b&&Q6 m&&Lq nm
structure Am9 where
 v:Val
 l:List Mgr
 c:List Cf
 e:Int
def Am9.enc (r:Am9):List IV:= [r.v.enc,.list (r.l.map Mgr.enc),.list (r.c.map Cf.enc),.int r.e]
noncomputable def Aax (s:Sch) (lv cf:Val) (m:List Mgr) (nm:ByteArray):List Cf:=Sl (Aaw s cf lv) m nm (Ai s cf)
def Aua (s:Sch)(lv cf:Val)(m:List Mgr)(nm:ByteArray):Val:=mg cf.size s cf (some (Ub s lv (Oy m nm (Ai s cf))))
noncomputable def Aqm (s:Sch) (lv cf:Val) (m:List Mgr) (nm:ByteArray):List Mgr:=I6 nm (Ai s cf) (decide ((Ai s cf).length =0)) (Ajv (Aax s lv cf m nm) m)
noncomputable def A0c (s:Sch) (lv cf:Val) (m:List Mgr) (nm:ByteArray) (force:Bool):Am9:=
 if(decide (0<(Aax s lv cf m nm).length)&& !force)=true then⟨Au,[],Aax s lv cf m nm,9⟩
 else if 16<(Aqm s lv cf m nm).length then⟨Au,[],[],15⟩
 else if(Aua s lv cf m nm).valid =true then⟨Aua s lv cf m nm,Aqm s lv cf m nm,[],0⟩else⟨Au,[],[],4⟩
noncomputable def Aa6 (s:Sch) (live:Val) (m:List Mgr) (nm:ByteArray) (config:Val) (force:Bool):Am9:=
 if okB s live config m nm=true then A0c s (D.Ba live s) (D.Ba config s) m nm force else⟨Au,[],[],1⟩
theorem Tj {s:Sch}{v:Val}(h:Kf s v=true):s.valid=true/\v.valid=true/\v.k=5/\(Jy v s []).all Ng=true/\kyB v.size s v=true:=by
 unfold Kf at h
 simp only[aJ,decide_eq_true_eq]at h
 exact⟨h.1,h.2.1,h.2.2.1,h.2.2.2.1,h.2.2.2.2⟩
structure PV (s:Sch)(v:Val):Prop where
 sv:s.valid=true
 vv:v.valid=true
 k5:v.k=5
 fit:Fit s v
theorem N6 {s:Sch}{v:Val}(h:Kf s v=true):PV s (D.Ba v s):=by
 obtain⟨a,b,c,d,e⟩:=Tj h
 exact⟨a,D.Akg s b,(D.Al1 v s).trans c,Axj v s [] v.size a b (aQ _) d e⟩
theorem Qi {s:Sch}{v:Val}(h:Kf s v=true)(d:s.Ap<=1048576)(e:v.Ap<=1048576):W 128 0 [s.enc,v.enc]=some [(D.Ba v s).enc]/\W 217 0 [s.enc,v.enc]=some [(D.Ba v s).enc]:=by
 obtain⟨b,c,_⟩:=Tj h
 have a:=D.U4 12 s b
 exact⟨D.Aqh v (D.K5 c) (by omega) s a (by omega),D.Att v (by omega) s a (by omega)⟩
theorem Azt (s:Sch)(a b:Val)(m:List Mgr)(nm:ByteArray):(((((((!s.valid)|| !a.valid)|| !b.valid)|| !Q6 m)|| !Lq nm)|| !Kf s a)|| !Kf s b)= !okB s a b m nm:=by
 unfold okB
 cases c:Kf s a with
 | false=>simp
 | true=>
  cases d:Kf s b with
  | false=>simp
  | true=>
   obtain⟨e,a2,_⟩:=Tj c
   obtain⟨_,b2,_⟩:=Tj d
   rw[e,a2,b2]
   cases Q6 m<;>cases Lq nm<;>rfl
theorem zv:IV.agg [.int 0,.int 0,.str ⟨#[]⟩,.list [],.list []]=Au.enc:=rfl
theorem gt0 (n:Nat):iO (.int (n:Int)) (.int 0)=some (.bool (decide (0<n))):=by rw[gX];congr 2;exact decide_eq_decide.2 (by omega)
theorem gt16 (n:Nat):iO (.int (n:Int)) (.int 16)=some (.bool (decide (16<n))):=by rw[gX];congr 2;exact decide_eq_decide.2 (by omega)
theorem Xn (m:List Mgr)(nm:ByteArray):(Hy m nm).length <=Pv m:=by
 unfold Hy
 cases h:m.find? λm=>decide (m.name=nm) with
 | none=>exact dJ _
 | some x=>exact Px (cF h)
theorem Akl (nm:ByteArray): ∀ (m:List Mgr) (a:List ByteArray),(Aqn nm m a).length <=a.length+Pv m
 | [],a=>aQ _
 | x::m,a=>by
  rw[Aqn,Pv]
  split
  ·have:=Akl nm m a;omega
  ·have:=Akl nm m (W2 (a++x.paths))
   have h:=Od (a++x.paths)
   rw[aO]at h
   omega
structure Sz (s:Sch)(a b:Val)(m:List Mgr):Prop where
 hs:s.Ap<=1048576
 hab:a.Ap+b.Ap+Pv m<=1048576
 hm:m.length<=1000000
theorem Sz.hp {s:Sch}{a b:Val}{m:List Mgr}(h:Sz s a b m):Pv m<=1048576:=by have:=h.hab;omega
structure Sz2 (s:Sch)(a b:Val)(m:List Mgr):Prop where
 hs:s.Ap<=1048576
 hab:a.Ap+b.Ap<=1048576
 hp:Pv m<=1048576
 hm:m.length<=1000000
theorem Sz.two {s:Sch}{a b:Val}{m:List Mgr}(h:Sz s a b m):Sz2 s a b m:=⟨h.hs,by have:=h.hab;omega,h.hp,h.hm⟩
theorem Hq (v:Val)(s:Sch):(D.Ba v s).Ap <=v.Ap:=D.Ri v s
theorem Apu {s:Sch}{lv:Val}(gone:List ByteArray)(h:PV s lv)(a:lv.Ap<=1048576):Old s (some (Ub s lv gone)):=λv b=>by
 cases b
 exact⟨cP (Xh s lv gone false) a,Adb gone false h.vv,(Ag7 gone false h.sv h.vv h.fit h.k5).1⟩
theorem Ajh {s:Sch}{lv cf:Val}{m:List Mgr}{nm:ByteArray}(b:PV s lv)(a:PV s cf)(e:lv.Ap+cf.Ap<=1048576):(Aua s lv cf m nm).Ap <=1048576:=by
 have c:=Apu (Oy m nm (Ai s cf)) b (by omega)
 have:=Amb cf.size s cf (some (Ub s lv (Oy m nm (Ai s cf)))) (dS a.sv) a.vv a.fit λv d=>(c v d).2
 have g:=Xh s lv (Oy m nm (Ai s cf)) false
 unfold Aua
 simp only[aH,aG]at this
 unfold Ub at this ⊢
 omega
theorem Aza (m:List Mgr)(nm:ByteArray)(set:List ByteArray)(hp:Pv m<=1048576):(Oy m nm set).length <=1048576:=by
 have a:=My (G6 (Hy m nm) set) (Aqn nm m [])
 have b:=My (Hy m nm) set
 have c:=Xn m nm
 unfold Oy;omega
theorem Ajq (s:Sch)(live:Val)(m:List Mgr)(nm:ByteArray)(config:Val)(force:Bool)(u:Sz2 s live config m):
  W 51 0 [s.enc,live.enc,.list (m.map Mgr.enc),.str nm,config.enc,.bool force]=some (Aa6 s live m nm config force).enc :=by
 have Q:=u.hab
 have e:=u.hs
 have R:=u.hm
 have w:=u.hp
 have j: ∀x∈m,x.paths.length<=1048576:=λx y=>by have:=Px y;omega
 rw[A6.f]
 simp only[Qe s e,I3 live (by omega),I3 config (by omega),A0a m (by omega) (λx y=>by have:=j x y;omega),Avl,Ayw s live e (by omega),Ayw s config e (by omega),bT,dP,aA,aU,Aw,Al]
 have z: ∀a b:Bool,(if a=true then true else b)=(a||b):=by decide
 simp only[z,Azt]
 unfold Aa6
 cases A:okB s live config m nm with
 | false=>simp only[bP,Zt,aB,Zf,dB,zv];rfl
 | true=>
  have c:=A
  unfold okB at c
  simp only[aJ]at c
  obtain⟨⟨⟨K,L⟩,S⟩,f4⟩:=c
  have B:=N6 K
  have i:=N6 L
  have T:=Hq live s
  have U:=Hq config s
  obtain⟨C,F,hlen⟩:=Alx S
  simp only[bB,aB,Zf,Zt,(Qi K e (by omega)).1,(Qi L e (by omega)).1,bT]
  generalize D.Ba live s=lv at B T ⊢
  generalize D.Ba config s=cf at i U ⊢
  have M:=Iv s cf
  have g: ∀t∈Ai s cf,Pf t:=λt X=>Lx i.vv X
  have Y:=Ann (Aaw s cf lv) m nm (Ai s cf) (X3 s cf)
  have d:=Ak5 m nm (by omega) (by omega) s cf lv e (by omega) (by omega) (Ai s cf) (by omega) g (.bool force) (.int 0) (.int 0) (.str ⟨#[]⟩) (Ai s cf).length 0 [] (by omega) (by rw[aF];simp;omega)
  simp only[aD,aN,aF,bE]at d
  simp only[Tc s cf e (by omega),bT,fN,aA,d]
  have N:(Aax s lv cf m nm).length <=1048576:=by unfold Aax;omega
  have hold:=Apu (Oy m nm (Ai s cf)) B (by omega)
  have h:=Wv cf.size s cf (some (Ub s lv (Oy m nm (Ai s cf)))) (aQ _) (dS i.sv) e (by omega) i.vv i.fit hold
  have Z:=Ajh (m:=m) (nm:=nm) B i (by omega)
  have hdr:=Aze s lv (Oy m nm (Ai s cf)) false e (by omega) (Aza m nm _ w)
  have o:=A4o (Aax s lv cf m nm) nm (Ai s cf) m C R (by omega) j (by omega)
  have aa:=Xn m nm
  have G:=Akl nm m []
  have ab:=My (Hy m nm) (Ai s cf)
  have H:=I3 (Aua s lv cf m nm) (by omega)
  have I:=Aek (Aua s lv cf m nm) (Dd _ (by omega))
  have J:=Ahq (Hy m nm) (Ai s cf) (by omega) (by omega)
  have q:=Ahq (G6 (Hy m nm) (Ai s cf)) (Aqn nm m []) (by omega) (by simp only[bH]at G;omega)
  change W 190 0 _=some [(Ub s lv (Oy m nm (Ai s cf))).enc]at hdr
  change W 199 0 _=some [(Aua s lv cf m nm).enc]at h
  change W 203 0 _=some [.list ((Aqm s lv cf m nm).map Mgr.enc)]at o
  change W 150 0 _=some [SL (Oy m nm (Ai s cf))]at q
  simp only[aG,bF]at h
  rw[show Sl (Aaw s cf lv) m nm (Ai s cf)=Aax s lv cf m nm from rfl,A6.g]
  simp only[ltn,aA,aU,aB,Zf,Gi,gt0,dP,Aw,Al,A0v m nm (by omega) F,J,bT,A3z m nm (by omega) (by omega),q,A18.m,hdr,h,o,gt16,H,I,dB,zv]
  unfold A0c
  have hand: ∀a b:Bool,(if a=true then b else false)=(a&&b):=by decide
  simp only[hand]
  split
  ·rfl
  ·by_cases r:16<(Aqm s lv cf m nm).length
   ·simp only[r,Zd,Zt];rfl
   ·simp only[r,Ze,aB,Zf]
    cases(Aua s lv cf m nm).valid<;>rfl
theorem Sy (s:Sch)(live:Val)(m:List Mgr)(nm:ByteArray)(config:Val)(force:Bool)(a:Sz s live config m):
 W 51 0 [s.enc,live.enc,.list (m.map Mgr.enc),.str nm,config.enc,.bool force]=some (Aa6 s live m nm config force).enc :=Ajq s live m nm config force a.two
end Go.CT.Sch
namespace Go.CT.Sch
open Go.Proofs
end Go.CT.Sch
namespace Go.CT.Sch
open Go.Proofs
open Classical in
noncomputable def atB (v:Val) (t:ByteArray):Val:=if h:Pf t then(Gf v h.choose).getD Au else Au
open Classical in
noncomputable def A2u (s:Sch) (b a:Val) (t:ByteArray):Bool:= !inB (Ai s b) t|| !decide (atB b t=atB a t)
noncomputable def Asi (s:Sch) (b a:Val):List ByteArray:=(Ai s a).filter (A2u s b a)
def Un (all new:List ByteArray)(l:List Mgr):List Mgr:=l.map λm=>⟨m.name,G6 (Pz m.paths all) new⟩
theorem A6l (v:Val)(t:ByteArray)(c:v.Ap<=1048576)(h:Pf t): ∃b:Bool,W 156 0 [v.enc,.str t]=some [.int (atB v t).k,.int (atB v t).n,.str (atB v t).s,.list ((atB v t).l.map bJ),.list ((atB v t).f.map aZ),.bool b]:=by
 obtain⟨d,g,i⟩:=h.choose_spec
 have a:=A09 v h.choose c g i
 rw[d]at a
 have e:atB v t=(Gf v h.choose).getD Au:=by unfold atB;rw[dif_pos h]
 rw[e]
 exact⟨_,a⟩
theorem Ao0 {v:Val}(t:ByteArray)(a:v.Ap<=1048576):(atB v t).Ap <=1048576:=by
 unfold atB
 split
 ·exact Tu a
 ·decide+kernel
theorem Adq (s:Sch)(b a:Val)(e:b.Ap<=1048576)(g:a.Ap<=1048576)(d:a.valid=true): ∀ (n i:Nat) (acc:List ByteArray),i+n=(Ai s a).length ->acc.length<=i->
  W 208 1 [.int (Ai s a).length,.int i,b.enc,a.enc,SL (Ai s b),SL acc,SL (Ai s a)]=some [SL (acc++((Ai s a).drop i).filter (A2u s b a))]
 | 0,i,acc,h,o=>by
  have:i=(Ai s a).length :=by omega
  subst this
  rw[A21.d,aM,cC,aP]
  simp only[ltn,aA,aU,aB,Zf]
 | n+1,i,acc,h,o=>by
  have j:i<(Ai s a).length :=by omega
  have x:=Iv s a
  have q:=Iv s b
  have r:=aE j
  have t:=gB IV.str (aL j)
  have hp:=Lx d r
  obtain⟨b1,w1⟩:=A6l b _ e hp
  obtain⟨b2,u⟩:=A6l a _ g hp
  have m1:=Ao0 (v:=b) (Ai s a)[i] e
  have m2:=Ao0 (v:=a) (Ai s a)[i] g
  have w:=Am3 (atB b (Ai s a)[i]) (atB a (Ai s a)[i]) (by omega)
  have i1:=Adq s b a e g d n (i+1) acc (by omega) (by omega)
  have i2:=Adq s b a e g d n (i+1) (acc++ [(Ai s a)[i]]) (by omega) (by simp;omega)
  have ap:dR 16 (SL acc) (.list [.str (Ai s a)[i]])=some (SL (acc++ [(Ai s a)[i]])):=apm IV.str acc (Ai s a)[i] (by omega)
  have m:W 106 0 [SL (Ai s b),.str (Ai s a)[i]]=some [.bool (inB (Ai s b) (Ai s a)[i])]:=by
   have:=Nv (Ai s b) (Ai s a)[i] (by omega)
   rw[A67]at this
   exact this
  rw[A21.d,aC j,bA]
  unfold A2u at i1 i2 ⊢
  simp only[lti j,aA,aU,Zt,t,w1,u,Jl,m,bT,dP,dB,eV,w,Aw,Al,dO,ap]
  rw[A21.e,A21.e]
  simp only[nxt (show i<4611686018427387904 by omega),aA,i1,i2]
  cases inB (Ai s b) (Ai s a)[i]with
  | false=>simp
  | true=>
   by_cases c:atB b (Ai s a)[i]=atB a (Ai s a)[i]<;>simp[c]
theorem A5f (s:Sch)(b a:Val)(d:s.Ap<=1048576)(e:b.Ap<=1048576)(g:a.Ap<=1048576)(c:a.valid=true):W 208 0 [s.enc,b.enc,a.enc]=some [SL (Asi s b a)]:=by
 have:=Adq s b a e g c (Ai s a).length 0 [] (by omega) (aQ _)
 simp only[aD,aF,bE]at this
 rw[A21.c]
 simp only[Tc s b d e,Tc s a d g,bT,fN,aA]
 exact this
theorem Xf (a b:List ByteArray):(Pz a b).length <=a.length:=cP (dG _ _) (Od a)
theorem Ar9 (l:List Mgr)(all new:List ByteArray)(nm:ByteArray)(B:l.length<=1048576)(hp: ∀m∈l,m.paths.length<=1048576)(w:all.length<=1048576)(z:new.length<=1048576): ∀ (n i:Nat) (a:List Mgr),i+n=l.length->a.length<=i+1->
   W 210 1 [.str nm,SL all,SL new,.list (l.map Mgr.enc),.int l.length,.int i,.list (a.map Mgr.enc)]=W 210 1 [.str nm,SL all,SL new,.list (l.map Mgr.enc),.int l.length,.int l.length,.list ((a++(Un all new (l.drop i)).filter λm=> !decide (m.name=nm)).map Mgr.enc)]
 :=by
  intro n
  induction n with
  | zero=>
   intro i a h e
   have:i=l.length:=by omega
   subst this
   rw[aM]
   simp only[Un,cC,aN,aP]
  | succ n q=>
   intro i a h e
   have d:i<l.length:=by omega
   obtain⟨x,r⟩: ∃x,l[i]=x:=⟨_,rfl⟩
   have b:=I9 Mgr.enc d
   have hdr:=aC d
   have g:=hp _ (aE d)
   rw[r]at b hdr g
   have j:=nxt (show i<4611686018427387904 by omega)
   have o:=lti d
   clear r
   have e1:=A0e x.paths all g w
   have t:=Ahq (Pz x.paths all) new (cP (Xf x.paths all) g) z
   generalize u:G6 (Pz x.paths all) new=y at t
   have A:Un all new (l.drop i)=⟨x.name,y⟩::Un all new (l.drop (i+1)):=by
    rw[hdr,<-u];rfl
   clear u
   have i1:=q (i+1) a (by omega) (by omega)
   have i2:=q (i+1) (a++ [(⟨x.name,y⟩:Mgr)]) (by omega) (by simp;omega)
   have ap:dR 40 (.list (a.map Mgr.enc)) (.list [.agg [.str x.name,SL y]])=some (.list ((a++ [(⟨x.name,y⟩:Mgr)]).map Mgr.enc)):=apm Mgr.enc (n:=40) a (⟨x.name,y⟩:Mgr) (by omega)
   rw[A21.h,A,bA]
   simp only[o,aA,aU,Zt,b,Akd,gW,A21.j,Ard,e1,t,bT,dB,dO,ap]
   rw[A21.i,A21.i]
   simp only[j,aA,i1,i2]
   by_cases c:x.name=nm<;>simp[c]
theorem Ao2 (l:List Mgr)(all new:List ByteArray)(nm:ByteArray)(a:List ByteArray)(d:Kd l)(o:l.length<=1000000)(hp:a.length<=1048576)(b: ∀m∈l,m.paths.length<=1048576)(g:all.length<=1048576)(h:new.length<=1048576):
  W 210 0 [.list (l.map Mgr.enc),.str nm,SL a,SL all,SL new]=some [.list ((I6 nm a (decide (a.length=0)) (Un all new l)).map Mgr.enc)]:=by
 have c:=Ar9 l all new nm (by omega) b g h l.length 0 [(⟨nm,a⟩:Mgr)] (by omega) (aQ _)
 have e:IV.agg [.str nm,SL a]=Mgr.enc ⟨nm,a⟩:=rfl
 simp only[aD,aF,aK,aN]at c
 rw[A21.g]
 simp only[dB,dO,aA,Gi,e,c]
 rw[A21.h]
 simp only[ltn,aA,aU,aB,Zf]
 rw[bC]
 exact Aib nm a (Un all new l) (Ac0 d) (by unfold Un;rw[aI];omega) hp (λm i=>by
  obtain⟨x,j,rfl⟩:=aS.1 i
  exact cP (My _ _) (cP (Xf _ _) (b x j)))
end Go.CT.Sch
