import Derived.Test.YtfealnpkfnjbkaaGreatDoorMergesPrB
set_option linter.unusedVariables false
set_option linter.unusedSimpArgs false
open Bool renaming false_eq_true->aB,not_true->aZ,and_eq_true->bA,not_false->bW
open Go.CT.O renaming Aa->aX,Ac->bH,append->bO,As->bV,Au->cB,Ah->cF,eq_int->cJ,Ap->cN,Ao->cQ
open Go.CT.Sch.Cf renaming enc->aR
open Go.CT.Sch.D renaming Bt->bL
open Go.CT.Sch.Mgr renaming enc->aC
open Go.CT.Sch.Stp renaming enc->cP
open Go.CT.Srt renaming len->cD,idx->cG
open Go.CT.Val renaming fold->cI,B5->cL,Bz->cM
open Int renaming cast_ofNat_Int->aE,natCast_nonneg->bB,toNat_natCast->bD,toNat_zero->cE,le_refl->cK
open List renaming drop_eq_getElem_cons->aD,getElem?_eq_getElem->aF,getElem_mem->aG,length_append->aH,length_map->aI,append_nil->aJ,drop_zero->aK,flatMap_cons->aL,map_nil->aM,filter_cons->aN,drop_length->aO,nil_append->aP,length_singleton->aU,append_assoc->aW,map_cons->aY,singleton_append->bC,getElem?_map->bE,filter_nil->bF,getElem?_cons_zero->bG,drop_of_length_le->bI,length_filter_le->bJ,mem_of_find?_eq_some->bN,flatMap_nil->bP,length_eq_one_iff->bR,length_nil->bS,map_append->bT,mem_singleton->bX,mem_map->bY,length_cons->bZ,mem_filter->cA,mem_append->cC
open List.Pairwise renaming filter->cH,imp->cO
open List.cons renaming injEq->bU
open Nat renaming le_refl->aQ,le_trans->aS,zero_le->aT,le_of_not_lt->bQ
open Option renaming bind_some->aA,map_some->aV,getD_some->bK,isSome_some->bM
namespace Go.CT.Sch
open Go.Proofs
def Oq (t:ByteArray):Prop:= ∃p,Cs p=t/\Db p=true/\ ∀x∈p,x.k≠2
theorem O8 {s:Sch}{v:Val}{t:ByteArray}(a:v.valid=true)(b:t∈Ay s v):Oq t:=by
 obtain⟨q,w,e1,c,d,_⟩:=Aua a b
 exact⟨q,e1.symm,c,d⟩
open Classical in
noncomputable def Adu (s:Sch) (cf lv:Val) (t:ByteArray):Bool:=if h:Oq t then Am5 s cf lv h.choose else false
theorem Bgd (s:Sch)(cf lv:Val)(t:ByteArray)(c:s.Aq<=1048576)(d:cf.Aq<=1048576)(g:lv.Aq<=1048576)(h:Oq t):
  W F119 0 [s.enc,cf.enc,lv.enc,.str t]=some [.bool (Adu s cf lv t)]/\W F231 0 [s.enc,cf.enc,lv.enc,.str t]=some [.bool (Adu s cf lv t)]:=by
 obtain⟨j,i,m⟩:=h.choose_spec
 have e:Adu s cf lv t=Am5 s cf lv h.choose:=by unfold Adu;rw[dif_pos h]
 have a:=Bfw s cf lv h.choose c d g i m
 have b:=Bib s cf lv h.choose c d g i
 rw[j]at a b
 rw[e]
 exact⟨a,b⟩
def O9 (l:List Mgr)(nm leaf:ByteArray):List Cf:=(l.filter λm=> !decide (m.name=nm)&&inB m.paths leaf).map λm=>⟨leaf,m.name⟩
def Qj (sat:ByteArray->Bool)(l:List Mgr)(nm:ByteArray)(set:List ByteArray):List Cf:=set.flatMap λleaf=>if sat leaf then[]else O9 l nm leaf
theorem Ai9: ∀ (a b:List ByteArray),a.Nodup->(∀x∈a,x∈b)->a.length<=b.length
 | [],b,_,_=>aT _
 | x::a,b,d,h=>by
  obtain⟨g,i⟩:=List.nodup_cons.1 d
  have j:=h x (by simp)
  have m:=Ai9 a (b.filter λy=> !decide (y=x)) i λy c=>cA.2 ⟨h y (by simp[c]),by
   have:y≠x:=λe=>g (by rw[<-e];exact c)
   simpa using this⟩
  have:=List.length_filter_lt_length_iff_exists (p:=λy=> !decide (y=x)).2 ⟨x,j,by simp⟩
  rw[bZ];omega
theorem An0 (nm:ByteArray)(m:Mgr)(l:List Mgr): ∀set:List ByteArray,(set.flatMap (O9 (m::l) nm)).length =(set.filter λx=> !decide (m.name=nm)&&inB m.paths x).length +(set.flatMap (O9 l nm)).length
 | []=>rfl
 | x::set=>by
  have a:=An0 nm m l set
  have e:(O9 (m::l) nm x).length =(if(!decide (m.name=nm)&&inB m.paths x)=true then 1 else 0)+(O9 l nm x).length :=by
   unfold O9
   rw[aN]
   split<;>simp<;>omega
  rw[aL,aL,aH,aH,a,e,aN]
  split<;>simp<;>omega
theorem Arr (nm:ByteArray)(set:List ByteArray)(a:set.Nodup): ∀l:List Mgr,(set.flatMap (O9 l nm)).length <=Yy l
 | []=>by
  have: ∀set:List ByteArray,set.flatMap (O9 [] nm)= []:=λset=>by
   induction set with
   | nil=>rfl
   | cons x set b=>rw[aL,b];rfl
  rw[this];exact aQ _
 | m::l=>by
  have b:=Arr nm set a l
  have d:=Ai9 (set.filter λx=> !decide (m.name=nm)&&inB m.paths x) m.paths (List.Nodup.sublist List.filter_sublist a) λx c=>by
   have:=(cA.1 c).2
   rw[bA]at this
   exact Nh.1 this.2
  rw[An0,Yy];omega
theorem Aeq (sat:ByteArray->Bool)(l:List Mgr)(nm:ByteArray)(set:List ByteArray)(a:set.Nodup):(Qj sat l nm set).length <=Yy l:=by
 refine aS ?_ (Arr nm set a l)
 unfold Qj
 clear a
 induction set with
 | nil=>exact aQ _
 | cons x set b=>
  rw[aL,aL,aH,aH]
  split
  ·simp only[bS];omega
  ·omega
theorem Sd (sat:ByteArray->Bool)(l:List Mgr)(nm:ByteArray){set:List ByteArray}{i:Nat}(a:i<set.length):Qj sat l nm (set.drop i)=(if sat set[i]then[]else O9 l nm set[i])++Qj sat l nm (set.drop (i+1)):=by
 rw[aD a];rfl
theorem Rw (s:Sch)(v:Val):(Ay s v).Nodup :=cO (λh=>Kx h) (cH _ (Abr s v))
theorem J6 (s:Sch)(v:Val):(Ay s v).length <=v.Aq:=by
 have a:=bJ (λx=> !decide (x=Am)) (H6 s v)
 have b:=Rc s v
 have c:=v.Eu
 unfold Ay;omega
theorem Ak7 (l:List Mgr)(nm leaf:ByteArray)(u:l.length<=1048576)(hp: ∀m∈l,m.paths.length<=1048576)(i o q r a b c d e g:IV): ∀ (n j:Nat) (cs:List Cf),j+n=l.length->cs.length+n<=4194304->
  W F15 3 [.list (l.map aC),.str nm,i,.str leaf,o,q,.list (l.map aC),.int l.length,.int j,r,a,b,c,d,e,g,.list (cs.map aR)]=
   W F15 2 [.list (l.map aC),.str nm,i,o,q,r,a,b,c,d,e,g,.list ((cs++O9 (l.drop j) nm leaf).map aR)]
 | 0,j,cs,h,w=>by
  have:j=l.length:=by omega
  subst this
  rw[Az4,aO]
  simp only[ltn,aA,aX,aB,Zf,O9,bF,aM,aJ]
 | n+1,j,cs,h,w=>by
  have t:j<l.length:=by omega
  have x:=aG t
  have i1:=Ak7 l nm leaf u hp i o q r a b c d e g n (j+1) cs (by omega) (by omega)
  have i2:=Ak7 l nm leaf u hp i o q r a b c d e g n (j+1) (cs++ [(⟨leaf,l[j].name⟩:Cf)]) (by omega) (by simp;omega)
  have ap:bO 32 (.list (cs.map aR)) (.list [.agg [.str leaf,.str l[j].name]])=some (.list ((cs++ [(⟨leaf,l[j].name⟩:Cf)]).map aR)):=apm aR (n:=32) cs (⟨leaf,l[j].name⟩:Cf) (by omega)
  have y:=hp _ x
  unfold O9 at i1 i2 ⊢
  rw[Az4,aD t,aN]
  simp only[lti t,aA,aX,Zt,Hy aC t,Acm,Aly,O.C9,Mo _ leaf (show l[j].paths.length <=1099511627776 by omega),Bjq,bH,bV,cB,ap,Ax,Al]
  rw[Ava,Ava]
  simp only[nxt (show j<4611686018427387904 by omega),aA,i1,i2]
  cases decide (l[j].name =nm)<;>cases inB l[j].paths leaf<;>simp
theorem Alj (l:List Mgr)(nm:ByteArray)(w:l.length<=1048576)(e:Yy l<=1048576)(s:Sch)(cf lv:Val)(x:s.Aq<=1048576)(y:cf.Aq<=1048576)(j:lv.Aq<=1048576)(set:List ByteArray)(o:set.length<=1048576)(d: ∀t∈set,Oq t)(q a b c:IV): ∀ (n i:Nat) (cs:List Cf),i+n=set.length->cs.length+(Qj (Adu s cf lv) l nm (set.drop i)).length <=2097152->
  W F15 1 [.list (l.map aC),.str nm,q,.int set.length,.int i,s.enc,lv.enc,cf.enc,a,b,c,SL set,.list (cs.map aR)]=
   W F15 1 [.list (l.map aC),.str nm,q,.int set.length,.int set.length,s.enc,lv.enc,cf.enc,a,b,c,SL set,.list ((cs++Qj (Adu s cf lv) l nm (set.drop i)).map aR)]
 | 0,i,cs,h,g=>by
  have:i=set.length:=by omega
  subst this
  rw[aO]
  simp only[Qj,bP,aJ]
 | n+1,i,cs,h,g=>by
  have r:i<set.length:=by omega
  have A:=cG IV.str (aF r)
  have u:=(Bgd s cf lv set[i] x y j (d _ (aG r))).1
  rw[Sd _ _ _ r,aH]at g
  have i1:=Alj l nm w e s cf lv x y j set o d q a b c n (i+1) cs (by omega) (by omega)
  rw[Sd _ _ _ r,A89]
  simp only[lti r,aA,aX,Zt,A,u,bH,Dz]
  cases B:Adu s cf lv set[i]with
  | true=>
   rw[Avg]
   simp only[Zt,nxt (show i<4611686018427387904 by omega),aA,i1,aP]
  | false=>
   rw[B]at g
   simp only[aB,Zf]at g
   have z:=Ak7 l nm set[i] w (λm C=>aS (M0 C) e) q (.int set.length) (.int i) s.enc lv.enc cf.enc a b c (SL set) l.length 0 cs (by omega) (by omega)
   have i2:=Alj l nm w e s cf lv x y j set o d q a b c n (i+1) (cs++O9 l nm set[i]) (by omega) (by rw[aH];omega)
   simp only[aE,aK]at z
   simp only[aB,Zf,z]
   rw[Avg]
   simp only[nxt (show i<4611686018427387904 by omega),aA,i2,aW]
theorem Amb (l:List Mgr)(nm:ByteArray)(set:List ByteArray)(i:Nat)(e:i<set.length)(o:l.length<=1048576)(hp: ∀m∈l,m.paths.length<=1048576)(a b c:IV): ∀ (n j:Nat) (cs:List Cf),j+n=l.length->cs.length+n<=4194304->
  W Bkq 3 [.list (l.map aC),.str nm,.int i,.int j,a,b,c,SL set,.list (cs.map aR)]=
   W Bkq 2 [.list (l.map aC),.str nm,.int i,a,b,c,SL set,.list ((cs++O9 (l.drop j) nm set[i]).map aR)]
 | 0,j,cs,h,q=>by
  have:j=l.length:=by omega
  subst this
  rw[An4,aO]
  simp only[Dz,ltn,aA,aX,aB,Zf,O9,bF,aM,aJ]
 | n+1,j,cs,h,q=>by
  have d:j<l.length:=by omega
  have r:=aG d
  have t:=cG IV.str (aF e)
  have i1:=Amb l nm set i e o hp a b c n (j+1) cs (by omega) (by omega)
  have i2:=Amb l nm set i e o hp a b c n (j+1) (cs++ [(⟨set[i],l[j].name⟩:Cf)]) (by omega) (by simp;omega)
  have ap:bO 32 (.list (cs.map aR)) (.list [.agg [.str set[i],.str l[j].name]])=some (.list ((cs++ [(⟨set[i],l[j].name⟩:Cf)]).map aR)):=apm aR (n:=32) cs (⟨set[i],l[j].name⟩:Cf) (by omega)
  have g:=hp _ r
  unfold O9 at i1 i2 ⊢
  rw[An4,aD d,aN]
  simp only[Dz,lti d,aA,aX,Zt,Hy aC d,Acm,At8,O.C9,t,Bim _ set[i] g,bH,bV,cB,ap,Ax,Al]
  rw[Apy,Apy]
  simp only[nxt (show j<4611686018427387904 by omega),aA,i1,i2]
  cases decide (l[j].name =nm)<;>cases inB l[j].paths set[i]<;>simp
theorem Yw (l:List Mgr)(nm:ByteArray)(o:l.length<=1048576)(b:Yy l<=1048576)(s:Sch)(cf lv:Val)(q:s.Aq<=1048576)(r:cf.Aq<=1048576)(d:lv.Aq<=1048576)(set:List ByteArray)(g:set.length<=1048576)(a: ∀t∈set,Oq t): ∀ (n i:Nat) (cs:List Cf),i+n=set.length->cs.length+(Qj (Adu s cf lv) l nm (set.drop i)).length <=2097152->
  W Bkq 1 [.list (l.map aC),.str nm,.int i,s.enc,lv.enc,cf.enc,SL set,.list (cs.map aR)]=some [.list ((cs++Qj (Adu s cf lv) l nm (set.drop i)).map aR)]
 | 0,i,cs,h,c=>by
  have:i=set.length:=by omega
  subst this
  rw[Apd,cD,aO]
  simp only[ltn,aA,aX,aB,Zf,Qj,bP,aJ]
 | n+1,i,cs,h,c=>by
  have e:i<set.length:=by omega
  have w:=cG IV.str (aF e)
  have j:=(Bgd s cf lv set[i] q r d (a _ (aG e))).2
  rw[Sd _ _ _ e,aH]at c
  have i1:=Yw l nm o b s cf lv q r d set g a n (i+1) cs (by omega) (by omega)
  rw[Sd _ _ _ e,Apd,cD]
  simp only[lti e,aA,aX,Zt,w,j,bH]
  cases x:Adu s cf lv set[i]with
  | true=>
   rw[Anz]
   simp only[Zt,nxt (show i<4611686018427387904 by omega),aA,i1,aP]
  | false=>
   rw[x]at c
   simp only[aB,Zf]at c
   have u:=Amb l nm set i e o (λm y=>aS (M0 y) b) s.enc lv.enc cf.enc l.length 0 cs (by omega) (by omega)
   have i2:=Yw l nm o b s cf lv q r d set g a n (i+1) (cs++O9 l nm set[i]) (by omega) (by rw[aH];omega)
   simp only[aE,aK]at u
   simp only[aB,Zf,u]
   rw[Anz]
   simp only[nxt (show i<4611686018427387904 by omega),aA,i2,aW]
end Go.CT.Sch
namespace Go.CT.Sch.D
open Go.Proofs
theorem Ahw (s:Sch)(nm:ByteArray)(m:s.Aq<=1099511627776)(b d e g:IV): ∀ (n i:Nat),i+n=s.f.length->
  W F220 1 [.str nm,.int i,s.enc,b,d,e,g]=some (Vs (((s.f.drop i).find? λp=>decide (p.nm=nm)).map (·.s)))
 | 0,i,h=>by
  rw[Arp]
  have j: ¬ i<s.f.length:=by omega
  simp[j,bI (bQ j),Vs,Mr]
 | n+1,i,h=>by
  have a:i<s.f.length:=by omega
  have q:=s.Bc
  have o:=Bd (i:=i) (by omega)
  have:=Ahw s nm m b d e g n (i+1) (by omega)
  rw[Arp,aD a]
  simp only[Sch.Ip,cQ,aI,cF,Aj,a,Zd,aA,aX,Zt,O.Ai,bB,bD,bE,aF a,aV,SFld.Bl,SFld.Qn,O.Cq,O.Ak,o,this,List.find?_cons]
  by_cases c:s.f[i].nm =nm
  ·simp[c,Vs]
  ·have c':decide (s.f[i].nm =nm)=false:=by simpa using c
   simp only[c,c',Ze,aB,Zf]
theorem Bcb (s:Sch)(nm:ByteArray)(a:s.Aq<=1099511627776):W F220 0 [s.enc,.str nm]=some (Vs ((s.fld nm).map (·.s))):=by
 rw[A62]
 have:=Ahw s nm a (.int 0) (.int 0) (.int 0) (.str ⟨#[]⟩) s.f.length 0 (by omega)
 simp only[aK,aE]at this
 exact this
theorem Bce (s:Sch):W F219 0 [s.enc]=some [.bool (decide (0<s.it.length))]:=by
 rw[A5q];simp
theorem Xv (sc:Sch)(v:Val)(b:SOk sc)(j:sc.Aq<=1099511627776)(A:v.Aq<=4294967000)(m o r:IV)(u: ∀p∈v.f,∀t,D7 sc p.1=some t->W Bfj 0 [t.enc,p.2.enc]=some [(Bt p.2 t).enc]):
  ∀ (n i:Nat) (acc:List (ByteArray × Val)),i+n=v.f.length->acc.length<=i->
  W Bfj 2 [.int i,sc.enc,v.enc,m,o,r,.list (acc.map Fld.enc)]=some [(Val.mk 5 0 Am [] (acc++(v.f.drop i).flatMap (Ef sc))).enc]
 | 0,i,acc,h,B=>by
  rw[Amu]
  have w: ¬ i<v.f.length:=by omega
  simp only[cL,cQ,aI,cF,Aj,w,Ze,aA,aX,aB,Zf,bV,bI (bQ w),bP,aJ]
  rw[<-cI];rfl
 | n+1,i,acc,h,B=>by
  have d:i<v.f.length:=by omega
  have hlen:=v.Bc
  have C:=Bd (i:=i) (by omega)
  have F:=J2 sc v.f[i]
  have next:=Xv sc v b j A m o r u n (i+1) (acc++Ef sc v.f[i]) (by omega) (by rw[aH];omega)
  have c:(acc.length+1) * 96<=Bb:=Kv (by omega) (by omega)
  rw[aW]at next
  rw[Amu,aD d,aL,<-next]
  simp only[cL,cQ,aI,cF,Aj,d,Zd,aA,aX,Zt,O.Ai,bB,bD,bE,aF d,aV,Fld.Bl,Fld.C4,Fld.Iz,cJ,Bce,bH,Bcb sc _ j,A3v,A3t,O.Ak,C]
  have a:=u _ (aG d)
  unfold Ef
  by_cases x:v.f[i].2.k =0
  ·simp only[x,Zd,Zt,aJ]
  ·simp only[x,Ze,aB,Zf]
   have y:=b.one
   unfold D7 at a ⊢
   by_cases hd:sc.it.length=1
   ·obtain⟨t,z⟩:=bR.1 hd
    simp only[z,aU,Zt,bG]at a
    have e:=a t rfl
    simp only[z,aU,Nat.lt_one_iff,Zd,Zt,Sch.Hd,aA,aY,aM,O.Ai,cK,cE,bG,e,bH,Val.Bl,Val.C4,Val.Ee,cM,cL,bV,Fld.Ci,cB,O.Bg,aI,aU,c,bT]
   ·have g: ¬ 0<sc.it.length:=by omega
    simp only[hd,Zf]at a
    simp only[hd,g,Ze,aB,Zf]
    cases G:sc.fld v.f[i].1 with
    | none=>simp only[Vs,Option.map_none,Option.isSome_none,O.B6,aX,aB,Zf,aJ]
    | some q=>
     have e:=a q.s (by rw[G];rfl)
     simp only[Vs,aV,bM,O.B6,aX,Zt,bK,e,bH,Val.Bl,Val.C4,Val.Ee,cM,cL,aA,bV,Fld.Ci,cB,O.Bg,aI,aU,c,bT,aY,aM]
theorem Xd (sc t:Sch)(v:Val)(q:v.Aq<=4294967000)(d e g:IV)(j:sc.it= [t])(m: ∀x∈v.l,W Bfj 0 [t.enc,x.enc]=some [(Bt x t).enc]):
  ∀ (n i:Nat) (acc:List Val),i+n=v.l.length->acc.length<=i->
  W Bfj 1 [.int i,sc.enc,v.enc,d,e,g,.list (acc.map Val.enc)]=some [(Val.mk 4 0 Am (acc++(v.l.drop i).map λx=>Bt x t) []).enc]
 | 0,i,acc,h,r=>by
  rw[Apf]
  have o: ¬ i<v.l.length:=by omega
  simp only[cM,cQ,aI,cF,Aj,o,Ze,aA,aX,aB,Zf,bV,bI (bQ o),aM,aJ]
  rw[<-cI];rfl
 | n+1,i,acc,h,r=>by
  have b:i<v.l.length:=by omega
  have hlen:=v.Bn
  have u:=Bd (i:=i) (by omega)
  have next:=Xd sc t v q d e g j m n (i+1) (acc++ [Bt v.l[i] t]) (by omega) (by rw[aH];simp;omega)
  have c:(acc.length+1) * 80<=Bb:=Kv (by omega) (by omega)
  have a:=m _ (aG b)
  rw[aW,bC]at next
  rw[Apf,aD b,aY,<-next]
  simp only[cM,cQ,aI,cF,Aj,b,Zd,aA,aX,Zt,O.Ai,bB,bD,bE,aF b,aV,Sch.Hd,j,aY,aM,cK,cE,bG,a,bH,cB,O.Bg,aI,aU,c,bT,O.Ak,u]
theorem Awa: ∀v:Val,v.Aq<=4294967000-> ∀sc:Sch,SOk sc->sc.Aq<=1099511627776->W Bfj 0 [sc.enc,v.enc]=some [(Bt v sc).enc]:=by
 refine Val.ind λv d e i sc c g=>?_
 rw[A7v,Ht]
 simp only[Val.Bl,Sch.Bl,aA,O.Ch,cJ,aX]
 by_cases j:v.k=sc.k
 ·simp only[j,Zd,aZ,aB,Zf,Zt]
  by_cases m:sc.k=5
  ·have o:=Xv sc v c g i (.int 0) (.int 0) (.str ⟨#[]⟩) (λp hp t a=>e p hp (by have:=Val.Dn hp;omega) t (c.sub a) (by have:=Jj a;omega)) v.f.length 0 [] (by omega) (by simp)
   simp only[aK,aE,aM,aP]at o
   simp[m,o]
  ·by_cases h:sc.k=4
   ·obtain⟨t,a⟩:=bR.1 (c.list h)
    have b:t∈sc.it:=by rw[a];simp
    have q:=Xd sc t v i (.int 0) (.int 0) (.str ⟨#[]⟩) a (λx r=>d x r (by have:=Val.D5 r;omega) t (c.Ie b) (by have:=Sch.Ge b;omega)) v.l.length 0 [] (by omega) (by simp)
    simp only[aK,aE,aM,aP]at q
    simp[h,a,q]
   ·simp[h,m]
 ·simp[j]
end Go.CT.Sch.D
namespace Go.CT.Sch
open Go.Proofs
def Ais (s:Sch)(lv:Val)(gone:List ByteArray):Val:=Jm s lv gone false
def Qi (m:List Mgr)(nm:ByteArray)(set:List ByteArray):List ByteArray:=Gf (Gf (Gi m nm) set) (Ali nm m [])
def okB (s:Sch)(a b:Val)(m:List Mgr)(nm:ByteArray):Bool:=N5 s a&&N5 s b&&Aad m&&Lo nm
structure Bb0 where
 v:Val
 l:List Mgr
 c:List Cf
 e:Int
def Bb0.enc (r:Bb0):List IV:= [r.v.enc,.list (r.l.map aC),.list (r.c.map aR),.int r.e]
noncomputable def Aao (s:Sch) (lv cf:Val) (m:List Mgr) (nm:ByteArray):List Cf:=Qj (Adu s cf lv) m nm (Ay s cf)
def Auq (s:Sch)(lv cf:Val)(m:List Mgr)(nm:ByteArray):Val:=mg cf.size s cf (some (Ais s lv (Qi m nm (Ay s cf))))
noncomputable def Axq (s:Sch) (lv cf:Val) (m:List Mgr) (nm:ByteArray):List Mgr:=Aak nm (Ay s cf) (decide ((Ay s cf).length =0)) (Vo (Aao s lv cf m nm) m)
noncomputable def Bcl (s:Sch) (lv cf:Val) (m:List Mgr) (nm:ByteArray) (force:Bool):Bb0:=
 if(decide (0<(Aao s lv cf m nm).length)&& !force)=true then⟨Aw,[],Aao s lv cf m nm,9⟩
 else if 16<(Axq s lv cf m nm).length then⟨Aw,[],[],15⟩
 else if(Auq s lv cf m nm).valid =true then⟨Auq s lv cf m nm,Axq s lv cf m nm,[],0⟩else⟨Aw,[],[],4⟩
noncomputable def As1 (s:Sch) (live:Val) (m:List Mgr) (nm:ByteArray) (config:Val) (force:Bool):Bb0:=
 if okB s live config m nm=true then Bcl s (bL live s) (bL config s) m nm force else⟨Aw,[],[],1⟩
theorem Vx {s:Sch}{v:Val}(h:N5 s v=true):s.valid=true/\v.valid=true/\v.k=5/\(Jh v s []).all Aag=true/\kyB v.size s v=true:=by
 unfold N5 at h
 simp only[bA,decide_eq_true_eq]at h
 exact⟨h.1,h.2.1,h.2.2.1,h.2.2.2.1,h.2.2.2.2⟩
structure PV (s:Sch)(v:Val):Prop where
 sv:s.valid=true
 vv:v.valid=true
 k5:v.k=5
 fit:Fit s v
theorem Pn {s:Sch}{v:Val}(h:N5 s v=true):PV s (bL v s):=by
 obtain⟨a,b,c,d,e⟩:=Vx h
 exact⟨a,D.Alr s b,(D.Bdt v s).trans c,Awl v s [] v.size a b (aQ _) d e⟩
theorem P0 {s:Sch}{v:Val}(h:N5 s v=true)(d:s.Aq<=1048576)(e:v.Aq<=1048576):W F92 0 [s.enc,v.enc]=some [(bL v s).enc]/\W Bfj 0 [s.enc,v.enc]=some [(bL v s).enc]:=by
 obtain⟨b,c,_⟩:=Vx h
 have a:=D.Tx 12 s b
 exact⟨D.Atv v (D.O6 c) (by omega) s a (by omega),D.Awa v (by omega) s a (by omega)⟩
theorem A9s (s:Sch)(a b:Val)(m:List Mgr)(nm:ByteArray):(((((((!s.valid)|| !a.valid)|| !b.valid)|| !Aad m)|| !Lo nm)|| !N5 s a)|| !N5 s b)= !okB s a b m nm:=by
 unfold okB
 cases c:N5 s a with
 | false=>simp
 | true=>
  cases d:N5 s b with
  | false=>simp
  | true=>
   obtain⟨e,a2,_⟩:=Vx c
   obtain⟨_,b2,_⟩:=Vx d
   rw[e,a2,b2]
   cases Aad m<;>cases Lo nm<;>rfl
theorem Baf (s:Sch)(a b:Val)(m:List Mgr)(nm:ByteArray):((((!Aad m)|| !Lo nm)|| !N5 s a)|| !N5 s b)= !okB s a b m nm:=by
 unfold okB
 cases N5 s a<;>cases N5 s b<;>cases Aad m<;>cases Lo nm<;>rfl
theorem zv:IV.agg [.int 0,.int 0,.str ⟨#[]⟩,.list [],.list []]=Aw.enc:=rfl
theorem gt0 (n:Nat):O.gt (.int (n:Int)) (.int 0)=some (.bool (decide (0<n))):=by rw[O.Bw];congr 2;exact decide_eq_decide.2 (by omega)
theorem gt16 (n:Nat):O.gt (.int (n:Int)) (.int 16)=some (.bool (decide (16<n))):=by rw[O.Bw];congr 2;exact decide_eq_decide.2 (by omega)
theorem S6 (m:List Mgr)(nm:ByteArray):(Gi m nm).length <=Yy m:=by
 unfold Gi
 cases h:m.find? λm=>decide (m.name=nm) with
 | none=>exact aT _
 | some x=>exact M0 (bN h)
theorem Afj (nm:ByteArray): ∀ (m:List Mgr) (a:List ByteArray),(Ali nm m a).length <=a.length+Yy m
 | [],a=>aQ _
 | x::m,a=>by
  rw[Ali,Yy]
  split
  ·have:=Afj nm m a;omega
  ·have:=Afj nm m (Vu (a++x.paths))
   have h:=K3 (a++x.paths)
   rw[aH]at h
   omega
structure Sz (s:Sch)(a b:Val)(m:List Mgr):Prop where
 hs:s.Aq<=1048576
 hab:a.Aq+b.Aq+Yy m<=1048576
 hm:m.length<=1000000
theorem Sz.hp {s:Sch}{a b:Val}{m:List Mgr}(h:Sz s a b m):Yy m<=1048576:=by have:=h.hab;omega
theorem Ia (v:Val)(s:Sch):(bL v s).Aq <=v.Aq:=D.Rj v s
theorem Aep {s:Sch}{lv:Val}(gone:List ByteArray)(h:PV s lv)(a:lv.Aq<=1048576):Old s (some (Ais s lv gone)):=λv b=>by
 cases b
 exact⟨aS (Yz s lv gone false) a,Atl gone false h.vv,(Aw4 gone false h.sv h.vv h.fit h.k5).1⟩
theorem Zr {s:Sch}{lv cf:Val}{m:List Mgr}{nm:ByteArray}(b:PV s lv)(a:PV s cf)(e:lv.Aq+cf.Aq<=1048576):(Auq s lv cf m nm).Aq <=1048576:=by
 have c:=Aep (Qi m nm (Ay s cf)) b (by omega)
 have:=Alq cf.size s cf (some (Ais s lv (Qi m nm (Ay s cf)))) (Sch.Gp a.sv) a.vv a.fit λv d=>(c v d).2
 have g:=Yz s lv (Qi m nm (Ay s cf)) false
 unfold Auq
 simp only[aV,bK]at this
 unfold Ais at this ⊢
 omega
theorem Aog (m:List Mgr)(nm:ByteArray)(set:List ByteArray)(hp:Yy m<=1048576):(Qi m nm set).length <=1048576:=by
 have a:=Kg (Gf (Gi m nm) set) (Ali nm m [])
 have b:=Kg (Gi m nm) set
 have c:=S6 m nm
 unfold Qi;omega
theorem Se (s:Sch)(live:Val)(m:List Mgr)(nm:ByteArray)(config:Val)(force:Bool)(u:Sz s live config m):
  W F15 0 [s.enc,live.enc,.list (m.map aC),.str nm,config.enc,.bool force]=some (As1 s live m nm config force).enc :=by
 have Q:=u.hab
 have e:=u.hs
 have R:=u.hm
 have w:=u.hp
 have j: ∀x∈m,x.paths.length<=1048576:=λx y=>by have:=M0 y;omega
 rw[Bes]
 simp only[Oe s e,Iq live (by omega),Iq config (by omega),A9b m (by omega) (λx y=>by have:=j x y;omega),Axk,A38 s live e (by omega),A38 s config e (by omega),bH,cN,aA,aX,Ax,Al]
 have z: ∀a b:Bool,(if a=true then true else b)=(a||b):=by decide
 simp only[z,A9s]
 unfold As1
 cases A:okB s live config m nm with
 | false=>simp only[bW,Zt,aB,Zf,bV,zv];rfl
 | true=>
  have c:=A
  unfold okB at c
  simp only[bA]at c
  obtain⟨⟨⟨K,L⟩,S⟩,f4⟩:=c
  have B:=Pn K
  have i:=Pn L
  have T:=Ia live s
  have U:=Ia config s
  obtain⟨C,F,hlen⟩:=Al1 S
  simp only[aZ,aB,Zf,Zt,(P0 K e (by omega)).1,(P0 L e (by omega)).1,bH]
  generalize bL live s=lv at B T ⊢
  generalize bL config s=cf at i U ⊢
  have M:=J6 s cf
  have g: ∀t∈Ay s cf,Oq t:=λt X=>O8 i.vv X
  have Y:=Aeq (Adu s cf lv) m nm (Ay s cf) (Rw s cf)
  have d:=Alj m nm (by omega) (by omega) s cf lv e (by omega) (by omega) (Ay s cf) (by omega) g (.bool force) (.int 0) (.int 0) (.str ⟨#[]⟩) (Ay s cf).length 0 [] (by omega) (by rw[aK];simp;omega)
  simp only[aE,aM,aK,aP]at d
  simp only[Sk s cf e (by omega),bH,cD,aA,d]
  have N:(Aao s lv cf m nm).length <=1048576:=by unfold Aao;omega
  have hold:=Aep (Qi m nm (Ay s cf)) B (by omega)
  have h:=V5 cf.size s cf (some (Ais s lv (Qi m nm (Ay s cf)))) (aQ _) (Sch.Gp i.sv) e (by omega) i.vv i.fit hold
  have Z:=Zr (m:=m) (nm:=nm) B i (by omega)
  have hdr:=A7c s lv (Qi m nm (Ay s cf)) false e (by omega) (Aog m nm _ w)
  have o:=Bgu (Aao s lv cf m nm) nm (Ay s cf) m C R (by omega) j (by omega)
  have aa:=S6 m nm
  have G:=Afj nm m []
  have ab:=Kg (Gi m nm) (Ay s cf)
  have H:=Iq (Auq s lv cf m nm) (by omega)
  have I:=Aeu (Auq s lv cf m nm) (Cn _ (by omega))
  have J:=Ajl (Gi m nm) (Ay s cf) (by omega) (by omega)
  have q:=Ajl (Gf (Gi m nm) (Ay s cf)) (Ali nm m []) (by omega) (by simp only[bS]at G;omega)
  change W Bjk 0 _=some [(Ais s lv (Qi m nm (Ay s cf))).enc]at hdr
  change W Bi0 0 _=some [(Auq s lv cf m nm).enc]at h
  change W Bik 0 _=some [.list ((Axq s lv cf m nm).map aC)]at o
  change W F114 0 _=some [SL (Qi m nm (Ay s cf))]at q
  simp only[bK,bM]at h
  rw[show Qj (Adu s cf lv) m nm (Ay s cf)=Aao s lv cf m nm from rfl,A89]
  simp only[ltn,aA,aX,aB,Zf,Dz,gt0,cN,Ax,Al,A9l m nm (by omega) F,J,bH,Bb8 m nm (by omega) (by omega),q,A4k,hdr,h,o,gt16,H,I,bV,zv]
  unfold Bcl
  have hand: ∀a b:Bool,(if a=true then b else false)=(a&&b):=by decide
  simp only[hand]
  split
  ·rfl
  ·by_cases r:16<(Axq s lv cf m nm).length
   ·simp only[r,Zd,Zt];rfl
   ·simp only[r,Ze,aB,Zf]
    cases(Auq s lv cf m nm).valid<;>rfl
end Go.CT.Sch
namespace Go.CT.Sch
open Go.Proofs
theorem Ala (l:List Mgr)(cs:List Cf)(i:Nat)(e:i<l.length)(q:l.length<=1048576)(hp:l[i].paths.length <=1048576)(r:cs.length<=1048576)(x1 a b c g m:IV)(left:List Mgr)(d:left.length<=1048576): ∀ (n j:Nat) (acc:List ByteArray),j+n=cs.length->acc.length<=j->
  W Bfg 2 [.list (l.map aC),x1,.int i,.int j,a,b,c,.list (cs.map aR),g,m,.list (left.map aC),SL acc]=
   W Bfg 1 [.list (l.map aC),x1,.int (i+1:Nat),a,b,c,.list (cs.map aR),g,m,.list ((left++ [(⟨l[i].name,Gf l[i].paths (acc++Ri (cs.drop j) l[i].name)⟩:Mgr)]).map aC)]
 | 0,j,acc,h,t=>by
  have:j=cs.length:=by omega
  subst this
  have ap:bO 40 (.list (left.map aC)) (.list [.agg [.str l[i].name,SL (Gf l[i].paths acc)]])=some (.list ((left++ [(⟨l[i].name,Gf l[i].paths acc⟩:Mgr)]).map aC)):=apm aC (n:=40) left (⟨l[i].name,Gf l[i].paths acc⟩:Mgr) (by omega)
  rw[Ami,aO]
  simp only[Dz,ltn,aA,aX,aB,Zf,Hy aC e,Acm,At8,Awf l[i].paths acc hp (by omega),bH,bV,cB,ap,nxt (show i<4611686018427387904 by omega),Ri,bF,aM,aJ]
 | n+1,j,acc,h,t=>by
  have o:j<cs.length:=by omega
  have i1:=Ala l cs i e q hp r x1 a b c g m left d n (j+1) acc (by omega) (by omega)
  have i2:=Ala l cs i e q hp r x1 a b c g m left d n (j+1) (acc++ [cs[j].path]) (by omega) (by simp;omega)
  have ap:bO 16 (SL acc) (.list [.str cs[j].path])=some (SL (acc++ [cs[j].path])):=apm IV.str acc cs[j].path (by omega)
  unfold Ri at i1 i2 ⊢
  rw[Ami,aD o,aN]
  simp only[Dz,lti o,aA,aX,Zt,Hy aR o,cf0,cf1,Hy aC e,Acm,O.Cq,cB,ap]
  rw[Arn,Arn]
  simp only[nxt (show j<4611686018427387904 by omega),aA,i1,i2]
  by_cases c:cs[j].mgr =l[i].name<;>simp[c]
theorem A0m (l:List Mgr)(cs:List Cf)(o:l.length<=1048576)(hp: ∀m∈l,m.paths.length<=1048576)(q:cs.length<=1048576)(x1 a b c d e:IV): ∀ (n i:Nat) (left:List Mgr),i+n=l.length->left.length=i->
  W Bfg 1 [.list (l.map aC),x1,.int i,a,b,c,.list (cs.map aR),d,e,.list (left.map aC)]=
   W Bfg 1 [.list (l.map aC),x1,.int l.length,a,b,c,.list (cs.map aR),d,e,.list ((left++Vo cs (l.drop i)).map aC)]
 | 0,i,left,h,r=>by
  have:i=l.length:=by omega
  subst this
  rw[aO]
  simp only[Vo,aM,aJ]
 | n+1,i,left,h,r=>by
  have j:i<l.length:=by omega
  have t:=Ala l cs i j o (hp _ (aG j)) q x1 a b c d e left (by omega) cs.length 0 [] (by omega) (aQ _)
  have i1:=A0m l cs o hp q x1 a b c d e n (i+1) (left++ [(⟨l[i].name,Gf l[i].paths (Ri cs l[i].name)⟩:Mgr)]) (by omega) (by simp[r])
  have g:W Bfg 2 [.list (l.map aC),x1,.int i,.int 0,a,b,c,.list (cs.map aR),d,e,.list (left.map aC),.list []]=_:=t
  rw[aK,aP]at g
  rw[Aqn]
  simp only[Dz,lti j,aA,aX,Zt,g,i1]
  unfold Vo
  rw[aD j,aY,aW,bC]
theorem A7n (s:Sch)(live:Val)(m:List Mgr)(nm:ByteArray)(config:Val)(force:Bool)(y:Sz s live config m):
  W Bfg 0 [s.enc,live.enc,.list (m.map aC),.str nm,config.enc,.bool force]=some (As1 s live m nm config force).enc :=by
 have N:=y.hab
 have e:=y.hs
 have hm:=y.hm
 have z:=y.hp
 have q: ∀x∈m,x.paths.length<=1048576:=λx A=>by have:=M0 A;omega
 rw[A4e]
 simp only[Bkc m (by omega) (λx A=>by have:=q x A;omega),A96,Bic s live e (by omega),Bic s config e (by omega),bH,cN,aA,aX,Ax,Al]
 have B: ∀a b:Bool,(if a=true then true else b)=(a||b):=by decide
 simp only[B,Baf]
 unfold As1
 cases C:okB s live config m nm with
 | false=>simp only[bW,Zt,aB,Zf,bV,zv];rfl
 | true=>
  have d:=C
  unfold okB at d
  simp only[bA]at d
  obtain⟨⟨⟨J,K⟩,Q⟩,f4⟩:=d
  have F:=Pn J
  have o:=Pn K
  have R:=Ia live s
  have S:=Ia config s
  obtain⟨T,U,hlen⟩:=Al1 Q
  simp only[aZ,aB,Zf,Zt,(P0 J e (by omega)).2,(P0 K e (by omega)).2,bH]
  generalize bL live s=lv at F R ⊢
  generalize bL config s=cf at o S ⊢
  have L:=J6 s cf
  have h: ∀t∈Ay s cf,Oq t:=λt X=>O8 o.vv X
  have Y:=Aeq (Adu s cf lv) m nm (Ay s cf) (Rw s cf)
  have c:=Yw m nm (by omega) (by omega) s cf lv e (by omega) (by omega) (Ay s cf) (by omega) h (Ay s cf).length 0 [] (by omega) (by rw[aK];simp;omega)
  have M:(Aao s lv cf m nm).length <=1048576:=by unfold Aao;omega
  have hold:=Aep (Qi m nm (Ay s cf)) F (by omega)
  have i:=Sq cf.size s cf (some (Ais s lv (Qi m nm (Ay s cf)))) (aQ _) (Sch.Gp o.sv) e (by omega) o.vv o.fit hold
  have Z:=Zr (m:=m) (nm:=nm) F o (by omega)
  have hdr:=A8d s lv (Qi m nm (Ay s cf)) false e (by omega) (Aog m nm _ z)
  have r:=A0m m (Aao s lv cf m nm) (by omega) q (by omega) (.str nm) (.int 0) (.int 0) (.str ⟨#[]⟩) (SL (Ay s cf)) (Auq s lv cf m nm).enc m.length 0 [] (by omega) rfl
  have g:=Bjs (Vo (Aao s lv cf m nm) m) nm (Ay s cf) (by unfold Vo;rw[aI];omega)
  have aa:=S6 m nm
  have G:=Afj nm m []
  have ab:=Kg (Gi m nm) (Ay s cf)
  have H:=Pc (Auq s lv cf m nm) (by omega)
  have I:=Awf (Gi m nm) (Ay s cf) (by omega) (by omega)
  have u:=Awf (Gf (Gi m nm) (Ay s cf)) (Ali nm m []) (by omega) (by simp only[bS]at G;omega)
  change W F251 0 _=some (Ais s lv (Qi m nm (Ay s cf))).Ew at hdr
  change W Bb6 0 _=some [(Auq s lv cf m nm).enc]at i
  change W Bff 0 _=some [.list ((Axq s lv cf m nm).map aC)]at g
  change W Bi5 0 _=some [SL (Qi m nm (Ay s cf))]at u
  rw[Val.Be]at hdr
  simp only[bK,bM]at i
  simp only[aE,aM,aK,aP]at c r
  rw[show Qj (Adu s cf lv) m nm (Ay s cf)=Aao s lv cf m nm from rfl]at c
  simp only[A58,Awz s cf e (by omega),bH,c,Dz,gt0,aA,aX,cN,Ax,Al,Bgt m nm (by omega),I,Baz m nm (by omega) (by omega),u,A3r,hdr,O.Cp,bV,Val.Ci,i,r,zv]
  rw[Aqn]
  have j:W Bff 0 [.list ((Vo (Aao s lv cf m nm) m).map aC),.str nm,SL (Ay s cf)]=some [.list ((Axq s lv cf m nm).map aC)]:=g
  simp only[Dz,ltn,aA,aX,aB,Zf,j,bH,gt16,H,cN,bV,zv]
  unfold Bcl
  have hand: ∀a b:Bool,(if a=true then b else false)=(a&&b):=by decide
  simp only[hand]
  split
  ·rfl
  ·by_cases w:16<(Axq s lv cf m nm).length
   ·simp only[w,Zd,Zt];rfl
   ·simp only[w,Ze,aB,Zf]
    cases(Auq s lv cf m nm).valid<;>rfl
end Go.CT.Sch
namespace Go.CT.Sch
open Go.Proofs
open Classical in
noncomputable def atB (v:Val) (t:ByteArray):Val:=if h:Oq t then(Ik v h.choose).getD Aw else Aw
open Classical in
noncomputable def Bbp (s:Sch) (b a:Val) (t:ByteArray):Bool:= !inB (Ay s b) t|| !decide (atB b t=atB a t)
noncomputable def Auv (s:Sch) (b a:Val):List ByteArray:=(Ay s a).filter (Bbp s b a)
def Tu (all new:List ByteArray)(l:List Mgr):List Mgr:=l.map λm=>⟨m.name,Gf (N8 m.paths all) new⟩
theorem Bhu (v:Val)(t:ByteArray)(c:v.Aq<=1048576)(h:Oq t): ∃b:Bool,W F120 0 [v.enc,.str t]=some [.int (atB v t).k,.int (atB v t).n,.str (atB v t).s,.list ((atB v t).l.map Val.enc),.list ((atB v t).f.map Fld.enc),.bool b]:=by
 obtain⟨d,g,i⟩:=h.choose_spec
 have a:=Bdp v h.choose c g i
 rw[d]at a
 have e:atB v t=(Ik v h.choose).getD Aw:=by unfold atB;rw[dif_pos h]
 rw[e]
 exact⟨_,a⟩
theorem Am3 {v:Val}(t:ByteArray)(a:v.Aq<=1048576):(atB v t).Aq <=1048576:=by
 unfold atB
 split
 ·exact Sg a
 ·decide+kernel
theorem Ae8 (s:Sch)(b a:Val)(e:b.Aq<=1048576)(g:a.Aq<=1048576)(d:a.valid=true): ∀ (n i:Nat) (acc:List ByteArray),i+n=(Ay s a).length ->acc.length<=i->
  W F172 1 [.int (Ay s a).length,.int i,b.enc,a.enc,SL (Ay s b),SL acc,SL (Ay s a)]=some [SL (acc++((Ay s a).drop i).filter (Bbp s b a))]
 | 0,i,acc,h,o=>by
  have:i=(Ay s a).length :=by omega
  subst this
  rw[Anb,aO,bF,aJ]
  simp only[ltn,aA,aX,aB,Zf]
 | n+1,i,acc,h,o=>by
  have j:i<(Ay s a).length :=by omega
  have x:=J6 s a
  have q:=J6 s b
  have r:=aG j
  have t:=cG IV.str (aF j)
  have hp:=O8 d r
  obtain⟨b1,w1⟩:=Bhu b _ e hp
  obtain⟨b2,u⟩:=Bhu a _ g hp
  have m1:=Am3 (v:=b) (Ay s a)[i] e
  have m2:=Am3 (v:=a) (Ay s a)[i] g
  have w:=Apr (atB b (Ay s a)[i]) (atB a (Ay s a)[i]) (by omega)
  have i1:=Ae8 s b a e g d n (i+1) acc (by omega) (by omega)
  have i2:=Ae8 s b a e g d n (i+1) (acc++ [(Ay s a)[i]]) (by omega) (by simp;omega)
  have ap:bO 16 (SL acc) (.list [.str (Ay s a)[i]])=some (SL (acc++ [(Ay s a)[i]])):=apm IV.str acc (Ay s a)[i] (by omega)
  have m:W F70 0 [SL (Ay s b),.str (Ay s a)[i]]=some [.bool (inB (Ay s b) (Ay s a)[i])]:=by
   have:=Mo (Ay s b) (Ay s a)[i] (by omega)
   rw[Bjq]at this
   exact this
  rw[Anb,aD j,aN]
  unfold Bbp at i1 i2 ⊢
  simp only[lti j,aA,aX,Zt,t,w1,u,Hq,m,bH,cN,bV,Val.Ci,w,Ax,Al,cB,ap]
  rw[Ap9,Ap9]
  simp only[nxt (show i<4611686018427387904 by omega),aA,i1,i2]
  cases inB (Ay s b) (Ay s a)[i]with
  | false=>simp
  | true=>
   by_cases c:atB b (Ay s a)[i]=atB a (Ay s a)[i]<;>simp[c]
theorem Bhn (s:Sch)(b a:Val)(d:s.Aq<=1048576)(e:b.Aq<=1048576)(g:a.Aq<=1048576)(c:a.valid=true):W F172 0 [s.enc,b.enc,a.enc]=some [SL (Auv s b a)]:=by
 have:=Ae8 s b a e g c (Ay s a).length 0 [] (by omega) (aQ _)
 simp only[aE,aK,aP]at this
 rw[A1c]
 simp only[Sk s b d e,Sk s a d g,bH,cD,aA]
 exact this
theorem Xk (a b:List ByteArray):(N8 a b).length <=a.length:=aS (bJ _ _) (K3 a)
theorem Atc (l:List Mgr)(all new:List ByteArray)(nm:ByteArray)(B:l.length<=1048576)(hp: ∀m∈l,m.paths.length<=1048576)(w:all.length<=1048576)(z:new.length<=1048576): ∀ (n i:Nat) (a:List Mgr),i+n=l.length->a.length<=i+1->
   W Bit 1 [.str nm,SL all,SL new,.list (l.map aC),.int l.length,.int i,.list (a.map aC)]=W Bit 1 [.str nm,SL all,SL new,.list (l.map aC),.int l.length,.int l.length,.list ((a++(Tu all new (l.drop i)).filter λm=> !decide (m.name=nm)).map aC)]
 :=by
  intro n
  induction n with
  | zero=>
   intro i a h e
   have:i=l.length:=by omega
   subst this
   rw[aO]
   simp only[Tu,bF,aM,aJ]
  | succ n q=>
   intro i a h e
   have d:i<l.length:=by omega
   obtain⟨x,r⟩: ∃x,l[i]=x:=⟨_,rfl⟩
   have b:=Hy aC d
   have hdr:=aD d
   have g:=hp _ (aG d)
   rw[r]at b hdr g
   have j:=nxt (show i<4611686018427387904 by omega)
   have o:=lti d
   clear r
   have e1:=A93 x.paths all g w
   have t:=Ajl (N8 x.paths all) new (aS (Xk x.paths all) g) z
   generalize u:Gf (N8 x.paths all) new=y at t
   have A:Tu all new (l.drop i)=⟨x.name,y⟩::Tu all new (l.drop (i+1)):=by
    rw[hdr,<-u];rfl
   clear u
   have i1:=q (i+1) a (by omega) (by omega)
   have i2:=q (i+1) (a++ [(⟨x.name,y⟩:Mgr)]) (by omega) (by simp;omega)
   have ap:bO 40 (.list (a.map aC)) (.list [.agg [.str x.name,SL y]])=some (.list ((a++ [(⟨x.name,y⟩:Mgr)]).map aC)):=apm aC (n:=40) a (⟨x.name,y⟩:Mgr) (by omega)
   rw[Ar4,A,aN]
   simp only[o,aA,aX,Zt,b,Acm,O.C9,A1h,At8,e1,t,bH,bV,cB,ap]
   rw[Arj,Arj]
   simp only[j,aA,i1,i2]
   by_cases c:x.name=nm<;>simp[c]
theorem Aqo (l:List Mgr)(all new:List ByteArray)(nm:ByteArray)(a:List ByteArray)(d:Mm l)(o:l.length<=1000000)(hp:a.length<=1048576)(b: ∀m∈l,m.paths.length<=1048576)(g:all.length<=1048576)(h:new.length<=1048576):
  W Bit 0 [.list (l.map aC),.str nm,SL a,SL all,SL new]=some [.list ((Aak nm a (decide (a.length=0)) (Tu all new l)).map aC)]:=by
 have c:=Atc l all new nm (by omega) b g h l.length 0 [(⟨nm,a⟩:Mgr)] (by omega) (aQ _)
 have e:IV.agg [.str nm,SL a]=aC ⟨nm,a⟩:=rfl
 simp only[aE,aK,aY,aM]at c
 rw[A59]
 simp only[bV,cB,aA,Dz,e,c]
 rw[Ar4]
 simp only[ltn,aA,aX,aB,Zf]
 rw[bC]
 exact Agx nm a (Tu all new l) (Abe d) (by unfold Tu;rw[aI];omega) hp (λm i=>by
  obtain⟨x,j,rfl⟩:=bY.1 i
  exact aS (Kg _ _) (aS (Xk _ _) (b x j)))
end Go.CT.Sch
namespace Go.CT.Sch
open Go.Proofs
def Bg6 (m:List Mgr)(nm:ByteArray)(all new:List ByteArray):List Mgr:=
 if(decide ((Gi m nm).length =0)&&decide (16<=(Aak nm [] true (Tu all new m)).length))=true then Aak nm [] true (Tu all new m)
 else Aak nm (Vu (N8 (Gi m nm) all++new)) (decide ((Vu (N8 (Gi m nm) all++new)).length =0)) (Tu all new m)
noncomputable def Bkj (s:Sch) (b a:Val) (m:List Mgr) (nm:ByteArray):List Mgr:=Bg6 m nm (Ay s a) (Auv s b a)
noncomputable def Bis (s:Sch) (b a:Val) (m:List Mgr) (nm:ByteArray):List Mgr:=if okB s b a m nm=true then Bkj s (bL b s) (bL a s) m nm else m
theorem Axh (l:List Mgr)(c:l.length<=1048576)(hp: ∀m∈l,m.paths.length<=1048576): ∀ (n i:Nat) (a:List Mgr),i+n=l.length->a.length<=i->
  W F171 1 [.list (l.map aC),.int l.length,.int i,.list (a.map aC)]=some [.list ((a++l.drop i).map aC)]
 | 0,i,a,h,d=>by
  have:i=l.length:=by omega
  subst this
  rw[A99,aO,aJ]
  simp only[ltn,aA,aX,aB,Zf]
 | n+1,i,a,h,d=>by
  have b:i<l.length:=by omega
  have e:=hp _ (aG b)
  have i2:=Axh l c hp n (i+1) (a++ [l[i]]) (by omega) (by simp;omega)
  have ap:bO 40 (.list (a.map aC)) (.list [.agg [.str l[i].name,.list (l[i].paths.map .str)]])=some (.list ((a++ [l[i]]).map aC)):=apm aC a l[i] (by omega)
  have cl:O.Il [.list (l[i].paths.map IV.str)]=some [.list (l[i].paths.map .str)]:=Dw (by rw[aI];omega)
  rw[A99,aD b]
  simp only[lti b,aA,aX,Zt,Hy aC b,Acm,Aly,Aw0,cl,bH,bV,cB,ap,nxt (show i<4611686018427387904 by omega),i2,aW,bC]
theorem Bak (s:Sch)(b a:Val):(Auv s b a).length <=a.Aq:=aS (bJ _ _) (J6 s a)
theorem ge16 (n:Nat):O.ge (.int (n:Int)) (.int 16)=some (.bool (decide (16<=n))):=by rw[O.Gx];congr 2;exact decide_eq_decide.2 (by omega)
theorem own0 {m:List Mgr}{nm:ByteArray}(a: ∀x∈m,x.paths≠ [])(h:(Gi m nm).length =0)(all new:List ByteArray):Aak nm [] true (Tu all new m)=I6 (Tu all new m):=by
 rw[Mn]
 congr 1
 refine List.filter_eq_self.2 λx c=>?_
 obtain⟨y,d,rfl⟩:=bY.1 c
 show(!decide (y.name=nm))=true
 rw[Bool.not_eq_true',decide_eq_false_iff_not]
 intro e
 unfold Gi at h
 cases b:m.find? λm=>decide (m.name=nm) with
 | none=>exact absurd (List.find?_eq_none.1 b y d) (by simp[e])
 | some z=>
  rw[b]at h
  exact a z (bN b) (List.length_eq_zero_iff.1 h)
theorem Az6 (s:Sch)(b a:Val)(m:List Mgr)(nm:ByteArray)(j:Sz s b a m):
  W F171 0 [s.enc,b.enc,a.enc,.list (m.map aC),.str nm]=some [.list ((Bis s b a m nm).map aC)]:=by
 have F:=j.hab
 have h:=j.hs
 have y:=j.hm
 have G:=j.hp
 have e: ∀x∈m,x.paths.length<=1048576:=λx o=>by have:=M0 o;omega
 rw[A54]
 simp only[Oe s h,Iq b (by omega),Iq a (by omega),A9b m (by omega) (λx o=>by have:=e x o;omega),Axk,A38 s b h (by omega),A38 s a h (by omega),bH,cN,aA,aX,Ax,Al]
 have q: ∀a b:Bool,(if a=true then true else b)=(a||b):=by decide
 simp only[q,A9s]
 unfold Bis
 cases r:okB s b a m nm with
 | false=>
  have:=Axh m (by omega) e m.length 0 [] (by omega) (aQ _)
  simp only[aE,aM,aK,aP]at this
  simp only[bW,Zt,aB,Zf,Dz,aA]
  exact this
 | true=>
  have d:=r
  unfold okB at d
  simp only[bA]at d
  obtain⟨⟨⟨z,A⟩,H⟩,f4⟩:=d
  have I:=Pn z
  have B:=Pn A
  have J:=Ia b s
  have K:=Ia a s
  obtain⟨i,t,hlen⟩:=Al1 H
  simp only[aZ,aB,Zf,Zt,(P0 z h (by omega)).1,(P0 A h (by omega)).1,bH]
  generalize bL b s=g at I J ⊢
  generalize bL a s=c at B K ⊢
  have C:=J6 s c
  have L:=Bak s g c
  have M:=S6 m nm
  have N:=Xk (Gi m nm) (Ay s c)
  have u:=K3 (N8 (Gi m nm) (Ay s c)++Auv s g c)
  rw[aH]at u
  have Q:=Aqo m (Ay s c) (Auv s g c) nm [] i y (aT _) e (by omega) (by omega)
  have R:=Aqo m (Ay s c) (Auv s g c) nm (Vu (N8 (Gi m nm) (Ay s c)++Auv s g c)) i y (by omega) e (by omega) (by omega)
  have w:W Bit 0 [.list (m.map aC),.str nm,.list [],SL (Ay s c),SL (Auv s g c)]=some [.list ((Aak nm [] true (Tu (Ay s c) (Auv s g c) m)).map aC)]:=Q
  simp only[Sk s c h (by omega),Bhn s g c h (by omega) (by omega) B.vv,bH,A9l m nm (by omega) t,A93 (Gi m nm) (Ay s c) (by omega) (by omega),A8o (N8 (Gi m nm) (Ay s c)) (Auv s g c) (by omega) (by omega),cD,aA,eq0,aX,w,Dz,ge16,R,Ax,Al]
  unfold Bkj Bg6
  have hand: ∀a b:Bool,(if a=true then b else false)=(a&&b):=by decide
  simp only[hand]
  split<;>rfl
end Go.CT.Sch
namespace Go.CT.Sch.D
open Go.Proofs
theorem A80 (s:Sch)(y:s.Aq<=1099511627776)(w: ∀p∈s.f,∀m:Int,0<=m->m<=300-> ∃r:Int,W F2 0 [p.s.enc,.int m]=some [.int r]/\1<=r/\r<=max 1 m): ∀ (n i:Nat) (m c:Int),i+n=s.f.length->1<=c->c<=max 1 m->0<=m->m<=300->
  ∃r:Int,W F2 2 [.int m,.int c,.int i,s.enc]=some [.int r]/\1<=r/\r<=max 1 m
 | 0,i,m,c,h,o,a,x,b=>by
  have z: ¬ i<s.f.length:=by omega
  refine⟨c,?_,o,a⟩
  rw[A9g]
  simp[z]
 | n+1,i,m,c,h,o,a,x,b=>by
  have j:i<s.f.length:=by omega
  have H:=s.Bc
  have A:=Bd (i:=i) (by omega)
  rw[A9g]
  by_cases d:c<m
  ·have q:IntKind.i64.wrap (m - c)=m - c:=wrap64 (by omega) (by omega)
   obtain⟨r,B,C,F⟩:=w _ (aG j) (m - c) (by omega) (by omega)
   have t:IntKind.i64.wrap (c+r)=c+r:=wrap64 (by omega) (by omega)
   obtain⟨G,u,e,g⟩:=A80 s y w n (i+1) m (c+r) (by omega) (by omega) (by omega) x b
   refine⟨G,?_,e,g⟩
   simp only[Sch.Ip,aA,cQ,aI,cF,Aj,j,Zd,aX,Zt,d,O.Ai,bB,bD,bE,aF j,aV,SFld.Qn,O.Cv,q,B,bH,O.Ak,t,A,u]
  ·refine⟨c,?_,o,a⟩
   simp[j,d]
theorem A9f (s:Sch)(z:s.Aq<=1099511627776)(w: ∀x∈s.it,∀m:Int,0<=m->m<=300-> ∃r:Int,W F2 0 [x.enc,.int m]=some [.int r]/\1<=r/\r<=max 1 m): ∀ (n i:Nat) (m c:Int),i+n=s.it.length->1<=c->c<=max 1 m->0<=m->m<=300->
  ∃r:Int,W F2 1 [.int m,.int c,.int i,s.enc]=W F2 2 [.int m,.int r,.int 0,s.enc]/\1<=r/\r<=max 1 m
 | 0,i,m,c,h,o,a,y,b=>by
  have A: ¬ i<s.it.length:=by omega
  refine⟨c,?_,o,a⟩
  rw[A9d]
  simp[A]
 | n+1,i,m,c,h,o,a,y,b=>by
  have j:i<s.it.length:=by omega
  have I:=s.Q2
  have B:=Bd (i:=i) (by omega)
  rw[A9d]
  by_cases d:c<m
  ·have q:IntKind.i64.wrap (m - c)=m - c:=wrap64 (by omega) (by omega)
   obtain⟨r,C,F,G⟩:=w _ (aG j) (m - c) (by omega) (by omega)
   have t:IntKind.i64.wrap (c+r)=c+r:=wrap64 (by omega) (by omega)
   obtain⟨H,u,e,g⟩:=A9f s z w n (i+1) m (c+r) (by omega) (by omega) (by omega) y b
   refine⟨H,?_,e,g⟩
   simp only[Sch.Hd,aA,cQ,aI,cF,Aj,j,Zd,aX,Zt,d,O.Ai,bB,bD,bE,aF j,aV,O.Cv,q,C,bH,O.Ak,t,B,u]
  ·refine⟨c,?_,o,a⟩
   simp[j,d]
theorem Bev: ∀s:Sch,s.Aq<=1099511627776-> ∀m:Int,0<=m->m<=300-> ∃r:Int,W F2 0 [s.enc,.int m]=some [.int r]/\1<=r/\r<=max 1 m:=by
 refine Sch.ind λs b d e m g a=>?_
 obtain⟨c,i,j,o⟩:=A9f s e (λx h=>b x h (by have:=Sch.Ge h;omega)) s.it.length 0 m 1 (by omega) (by omega) (by omega) g a
 obtain⟨r,q,t,u⟩:=A80 s e (λp hp=>d p hp (by have:=Sch.Dn hp;omega)) s.f.length 0 m c (by omega) j o g a
 refine⟨r,?_,t,u⟩
 rw[Bgk]
 exact i.trans q
end Go.CT.Sch.D
namespace Go.CT.Sch
open Go.Proofs
theorem Aze (l:List Mgr)(i:Nat)(a:i<l.length)(c:l.length<=1048576)(hp:l[i].paths.length <=1048576): ∀ (n j:Nat),j+n=l[i].paths.length ->
  W Bf1 2 [.list (l.map aC),.list (l.map aC),.int i,.int j]=W Bf1 1 [.list (l.map aC),.list (l.map aC),.int (i+1:Nat)]
 | 0,j,h=>by
  have:j=l[i].paths.length :=by omega
  subst this
  rw[Amf]
  simp only[Hy aC a,Aly,Dz,aA,ltn,aX,aB,Zf,nxt (show i<4611686018427387904 by omega)]
 | n+1,j,h=>by
  have b:j<l[i].paths.length :=by omega
  have d:=Aze l i a c hp n (j+1) (by omega)
  rw[Amf]
  simp only[Hy aC a,Aly,Dz,aA,lti b,aX,Zt,Hy IV.str b,O.C9,Zd,aZ,aB,Zf,nxt (show j<4611686018427387904 by omega),d]
theorem Azc (l:List Mgr)(b:l.length<=1048576)(hp: ∀m∈l,m.paths.length<=1048576): ∀ (n i:Nat),i+n=l.length->W Bf1 1 [.list (l.map aC),.list (l.map aC),.int i]=some [.bool true]
 | 0,i,h=>by
  have:i=l.length:=by omega
  subst this
  rw[Arc]
  simp only[Dz,aA,ltn,aX,aB,Zf]
 | n+1,i,h=>by
  have a:i<l.length:=by omega
  have d:=Azc l b hp n (i+1) (by omega)
  have c:=Aze l i a b (hp _ (aG a)) l[i].paths.length 0 (by omega)
  simp only[aE]at c
  rw[Arc]
  simp only[Dz,aA,lti a,aX,Zt,Hy aC a,Acm,Aly,O.C9,Zd,aZ,aB,Zf,O.Ch,c,d]
theorem Bfq (l:List Mgr)(a:l.length<=1048576)(hp: ∀m∈l,m.paths.length<=1048576):W Bf1 0 [.list (l.map aC),.list (l.map aC)]=some [.bool true]:=by
 have:=Azc l a hp l.length 0 (by omega)
 simp only[aE]at this
 rw[A6d]
 simp only[Dz,aA,O.Ch,Zd,aZ,aX,aB,Zf,this]
theorem Ayw (l:List Cf)(b:l.length<=1048576): ∀ (n i:Nat),i+n=l.length->W F257 1 [.list (l.map aR),.list (l.map aR),.int i]=some [.bool true]
 | 0,i,h=>by
  have:i=l.length:=by omega
  subst this
  rw[Ase]
  simp only[Dz,aA,ltn,aX,aB,Zf]
 | n+1,i,h=>by
  have a:i<l.length:=by omega
  have c:=Ayw l b n (i+1) (by omega)
  have d:O.aNe l[i].enc l[i].enc =some (.bool false):=by
   unfold O.aNe
   simp[aR,Prim.ev,IV.Nt,IV.Ow]
  rw[Ase]
  simp only[Dz,aA,lti a,aX,Zt,Hy aR a,d,aB,Zf,nxt (show i<4611686018427387904 by omega),c]
theorem Bke (l:List Cf)(a:l.length<=1048576):W F257 0 [.list (l.map aR),.list (l.map aR)]=some [.bool true]:=by
 have:=Ayw l a l.length 0 (by omega)
 simp only[aE]at this
 rw[A09]
 simp only[Dz,aA,O.Ch,Zd,aZ,aX,aB,Zf,this]
theorem Bai (m:List Mgr)(z:m.length<=1048576)(hp: ∀x∈m,x.paths.length<=1048576)(s:Sch)(a b:Val)(A:s.Aq<=1048576)(B:a.Aq<=1048576)(C:b.Aq<=1048576): ∀ (n i c:Nat),i+n=m.length->c<=1048576+i * 1048576->
  ∃r,W F1 1 [.list (m.map aC),.int c,.int i,s.enc,a.enc,b.enc]=some [.bool r]:=by
 obtain⟨sz,d,_⟩:=D.Bev s (by omega) 300 (by omega) (by omega)
 obtain⟨b1,e⟩:=Ahq a (by omega) 200 (by omega) (by omega)
 obtain⟨b2,g⟩:=Ahq b (by omega) 200 (by omega) (by omega)
 intro n
 induction n with
 | zero=>
  intro i c h t
  have:i=m.length:=by omega
  subst this
  have j:O.lt (.int (c:Int)) (.int 400)=some (.bool (decide ((c:Int)<400))):=cF
  have o:O.lt (.int sz) (.int 300)=some (.bool (decide (sz<300))):=cF
  rw[A9q]
  simp only[Dz,aA,ltn,aX,aB,Zf,j,o,d,e,g,bH,Ax,Al]
  exact⟨_,rfl⟩
 | succ n u=>
  intro i c h t
  have q:i<m.length:=by omega
  have F:=hp _ (aG q)
  have w:IntKind.i64.wrap ((c:Int)+(m[i].paths.length :Int))=((c+m[i].paths.length :Nat):Int):=by
   have:i * 1048576<=1048576 * 1048576:=Nat.mul_le_mul (by omega) (aQ _)
   rw[wrap64 (by omega) (by omega)];omega
  obtain⟨r,y⟩:=u (i+1) (c+m[i].paths.length) (by omega) (by rw[Nat.add_mul];omega)
  have j:O.lt (.int (c:Int)) (.int 400)=some (.bool (decide ((c:Int)<400))):=cF
  have o:O.lt (.int sz) (.int 300)=some (.bool (decide (sz<300))):=cF
  rw[A9q]
  simp only[Dz,aA,lti q,aX,Zt,j,o,Hy aC q,Aly,O.Ak,w,nxt (show i<4611686018427387904 by omega),y,d,e,g,bH,Ax,Al]
  split
  ·exact⟨r,rfl⟩
  ·exact⟨_,rfl⟩
theorem Bg3 (m:List Mgr)(c:m.length<=1048576)(hp: ∀x∈m,x.paths.length<=1048576)(s:Sch)(a b:Val)(d:s.Aq<=1048576)(e:a.Aq<=1048576)(g:b.Aq<=1048576): ∃r,W F1 0 [s.enc,a.enc,b.enc,.list (m.map aC)]=some [.bool r]:=by
 obtain⟨r,h⟩:=Bai m c hp s a b d e g m.length 0 m.length (by omega) (by omega)
 refine⟨r,?_⟩
 rw[Bid]
 simp only[Dz,aA]
 exact h
end Go.CT.Sch
namespace Go.CT.Sch
open Go.Proofs
theorem Azq: ∀ {p q:List Stp},p.map cP=q.map cP->p=q
 | [],[],_=>rfl
 | [],_::_,h=>by cases h
 | _::_,[],h=>by cases h
 | a::p,b::q,h=>by
  simp only[aY,bU]at h
  obtain⟨c,d⟩:=h
  obtain⟨e,a2,a3,a4⟩:=a
  obtain⟨b1,b2,b3,b4⟩:=b
  simp only[cP,IV.agg.injEq,bU,IV.int.injEq,IV.str.injEq,and_true]at c
  obtain⟨rfl,rfl,rfl,rfl⟩:=c
  rw[Azq d]
theorem Ai5 {p q:List Stp}(hp:Db p=true)(c:Db q=true)(h:Cs p=Cs q):p=q:=by
 have a:=V0 p hp
 have b:=V0 q c
 rw[h,b]at a
 simp only[Option.some.injEq,bU,IV.list.injEq,and_true]at a
 exact(Azq a).symm
theorem Ba5 (s:Sch)(cf lv:Val){p:List Stp}(hp:Db p=true)(a: ∀x∈p,x.k≠2):Adu s cf lv (Cs p)=Am5 s cf lv p:=by
 have h:Oq (Cs p):=⟨p,rfl,hp,a⟩
 unfold Adu
 rw[dif_pos h,Ai5 h.choose_spec.2.1 hp h.choose_spec.1]
theorem A9h (v:Val){p:List Stp}(hp:Db p=true)(a: ∀x∈p,x.k≠2):atB v (Cs p)=(Ik v p).getD Aw:=by
 have h:Oq (Cs p):=⟨p,rfl,hp,a⟩
 unfold atB
 rw[dif_pos h,Ai5 h.choose_spec.2.1 hp h.choose_spec.1]
theorem Ah0 {s:Sch}{cf lv:Val}{p:List Stp}(h:Ik cf p=Ik lv p)(a:(Ik lv p).isSome =true):Am5 s cf lv p=true:=by
 unfold Am5
 rw[h,a];simp
theorem A0n {s:Sch}{cf lv:Val}{p:List Stp}(a:Ik lv p=none):Am5 s cf lv p=false:=by
 unfold Am5
 rw[a];rfl
theorem A0y {s:Sch}{cf lv a b:Val}{p:List Stp}(c:Ik cf p=some a)(d:Ik lv p=some b)(g:a.n≠b.n)(h:emS ((atV s p).getD Bj) a=false):Am5 s cf lv p=false:=by
 have: ¬ a=b:=λe=>g (by rw[e])
 unfold Am5
 rw[c,d]
 simp[this,h]
def Bi3:Sch:=⟨2,0,9,[],Am,[],[]⟩
def exS:Sch:=⟨5,0,0,[],Am,[],[⟨⟨#[97]⟩,false,false,[],Bi3⟩,⟨⟨#[98]⟩,false,false,[],Bi3⟩,⟨⟨#[99]⟩,false,false,[],Bi3⟩]⟩
def vm (l:List (UInt8 × Int)):Val:=⟨5,0,Am,[],l.map λp=>(⟨#[p.1]⟩,⟨2,p.2,Am,[],[]⟩)⟩
def exM:List Mgr:= [⟨⟨#[109]⟩,[⟨#[97]⟩,⟨#[98]⟩]⟩]
def stF (c:UInt8):List Stp:= [Da ⟨#[c]⟩]
theorem Awc (c:UInt8): ∀x∈stF c,x.k≠2:=by
 intro x a
 rw[bX.1 a]
 show(1:Int)≠2
 decide
theorem Aof (cf lv:Val)(c:UInt8)(a:Db (stF c)=true)(b:Bool)(h:Am5 exS cf lv (stF c)=b):Adu exS cf lv (Cs (stF c))=b:=by
 rw[Ba5 exS cf lv a (Awc c),h]
theorem ex_1:As1 exS (vm [(97,1),(98,2)]) exM ⟨#[110]⟩ (vm [(97,1),(99,3)]) false=⟨vm [(97,1),(98,2),(99,3)],[⟨⟨#[109]⟩,[⟨#[97]⟩,⟨#[98]⟩]⟩,⟨⟨#[110]⟩,[⟨#[97]⟩,⟨#[99]⟩]⟩],[],0⟩:=by
 have ok:okB exS (vm [(97,1),(98,2)]) (vm [(97,1),(99,3)]) exM ⟨#[110]⟩=true:=by kernel_rfl
 have e1:bL (vm [(97,1),(98,2)]) exS=vm [(97,1),(98,2)]:=by kernel_rfl
 have a:bL (vm [(97,1),(99,3)]) exS=vm [(97,1),(99,3)]:=by kernel_rfl
 have el:Ay exS (vm [(97,1),(99,3)])= [Cs (stF 97),Cs (stF 99)]:=by kernel_rfl
 have b:=Aof (vm [(97,1),(99,3)]) (vm [(97,1),(98,2)]) 97 (by kernel_rfl) true (Ah0 (by kernel_rfl) (by kernel_rfl))
 have c:=Aof (vm [(97,1),(99,3)]) (vm [(97,1),(98,2)]) 99 (by kernel_rfl) false (A0n (by kernel_rfl))
 have ec:Aao exS (vm [(97,1),(98,2)]) (vm [(97,1),(99,3)]) exM ⟨#[110]⟩= []:=by
  unfold Aao Qj
  rw[el,aL,aL,b,c]
  show _=_
  kernel_rfl
 unfold As1 Bcl Axq
 rw[if_pos ok,e1,a,ec]
 show _=_
 kernel_rfl
theorem Bkp:Aao exS (vm [(97,1),(98,2)]) (vm [(97,5)]) exM ⟨#[110]⟩= [⟨⟨#[97]⟩,⟨#[109]⟩⟩]:=by
 have el:Ay exS (vm [(97,5)])= [Cs (stF 97)]:=by kernel_rfl
 have c:=Aof (vm [(97,5)]) (vm [(97,1),(98,2)]) 97 (by kernel_rfl) false (A0y (a:=⟨2,5,Am,[],[]⟩) (b:=⟨2,1,Am,[],[]⟩) (by kernel_rfl) (by kernel_rfl) (by decide) (by kernel_rfl))
 unfold Aao Qj
 rw[el,aL,c]
 show _=_
 kernel_rfl
theorem ex_2 (force:Bool):As1 exS (vm [(97,1),(98,2)]) exM ⟨#[110]⟩ (vm [(97,5)]) force=if force then⟨vm [(97,5),(98,2)],[⟨⟨#[109]⟩,[⟨#[98]⟩]⟩,⟨⟨#[110]⟩,[⟨#[97]⟩]⟩],[],0⟩else⟨Aw,[],[⟨⟨#[97]⟩,⟨#[109]⟩⟩],9⟩:=by
 have ok:okB exS (vm [(97,1),(98,2)]) (vm [(97,5)]) exM ⟨#[110]⟩=true:=by kernel_rfl
 have e1:bL (vm [(97,1),(98,2)]) exS=vm [(97,1),(98,2)]:=by kernel_rfl
 have a:bL (vm [(97,5)]) exS=vm [(97,5)]:=by kernel_rfl
 unfold As1 Bcl Axq
 rw[if_pos ok,e1,a,Bkp]
 cases force
 ·show _=_
  kernel_rfl
 ·show _=_
  kernel_rfl
theorem ex_3:As1 exS (vm [(97,1),(98,2)]) exM ⟨#[109]⟩ (vm [(97,1)]) false=⟨vm [(97,1)],[⟨⟨#[109]⟩,[⟨#[97]⟩]⟩],[],0⟩:=by
 have ok:okB exS (vm [(97,1),(98,2)]) (vm [(97,1)]) exM ⟨#[109]⟩=true:=by kernel_rfl
 have e1:bL (vm [(97,1),(98,2)]) exS=vm [(97,1),(98,2)]:=by kernel_rfl
 have a:bL (vm [(97,1)]) exS=vm [(97,1)]:=by kernel_rfl
 have el:Ay exS (vm [(97,1)])= [Cs (stF 97)]:=by kernel_rfl
 have b:=Aof (vm [(97,1)]) (vm [(97,1),(98,2)]) 97 (by kernel_rfl) true (Ah0 (by kernel_rfl) (by kernel_rfl))
 have ec:Aao exS (vm [(97,1),(98,2)]) (vm [(97,1)]) exM ⟨#[109]⟩= []:=by
  unfold Aao Qj
  rw[el,aL,b]
  show _=_
  kernel_rfl
 unfold As1 Bcl Axq
 rw[if_pos ok,e1,a,ec]
 show _=_
 kernel_rfl
theorem ex_4:Bis exS (vm [(97,1),(98,2)]) (vm [(97,1),(98,4)]) exM ⟨#[110]⟩= [⟨⟨#[109]⟩,[⟨#[97]⟩]⟩,⟨⟨#[110]⟩,[⟨#[98]⟩]⟩]:=by
 have ok:okB exS (vm [(97,1),(98,2)]) (vm [(97,1),(98,4)]) exM ⟨#[110]⟩=true:=by kernel_rfl
 have e1:bL (vm [(97,1),(98,2)]) exS=vm [(97,1),(98,2)]:=by kernel_rfl
 have d:bL (vm [(97,1),(98,4)]) exS=vm [(97,1),(98,4)]:=by kernel_rfl
 have el:Ay exS (vm [(97,1),(98,4)])= [Cs (stF 97),Cs (stF 98)]:=by kernel_rfl
 have el2:Ay exS (vm [(97,1),(98,2)])= [Cs (stF 97),Cs (stF 98)]:=by kernel_rfl
 have g:=fun(v:Val)=>A9h v (p:=stF 97) (by kernel_rfl) (Awc 97)
 have c:=fun(v:Val)=>A9h v (p:=stF 98) (by kernel_rfl) (Awc 98)
 have h:Bbp exS (vm [(97,1),(98,2)]) (vm [(97,1),(98,4)]) (Cs (stF 97))=false:=by
  have a:(Ik (vm [(97,1),(98,2)]) (stF 97)).getD Aw=(Ik (vm [(97,1),(98,4)]) (stF 97)).getD Aw:=by kernel_rfl
  have b:inB [Cs (stF 97),Cs (stF 98)] (Cs (stF 97))=true:=by kernel_rfl
  unfold Bbp
  rw[el2,g,g,a,b];simp
 have i:Bbp exS (vm [(97,1),(98,2)]) (vm [(97,1),(98,4)]) (Cs (stF 98))=true:=by
  have a:((Ik (vm [(97,1),(98,2)]) (stF 98)).getD Aw).n =2:=by kernel_rfl
  have b:((Ik (vm [(97,1),(98,4)]) (stF 98)).getD Aw).n =4:=by kernel_rfl
  have j: ¬ (Ik (vm [(97,1),(98,2)]) (stF 98)).getD Aw=(Ik (vm [(97,1),(98,4)]) (stF 98)).getD Aw:=λe=>by
   rw[e,b]at a
   exact absurd a (by decide)
  unfold Bbp
  rw[c,c]
  simp[j]
 have ec:Auv exS (vm [(97,1),(98,2)]) (vm [(97,1),(98,4)])= [Cs (stF 98)]:=by
  unfold Auv
  rw[el,aN,aN,h,i]
  rfl
 unfold Bis Bkj
 rw[if_pos ok,e1,d,ec]
 show _=_
 kernel_rfl
end Go.CT.Sch
namespace Go.CT.Sch
open Go.Proofs
def Adf (l:List (UInt8 × Int)):List IV:= [.int 5,.int 0,.str ⟨#[]⟩,.list [],.list (l.map λp=> .agg [.str ⟨#[p.1]⟩,.int 2,.int p.2,.str ⟨#[]⟩,.list [],.list []])]
theorem abcs:W F8 0 [.int 1,.int 2,.int 0]=some (Adf [(97,1),(98,2)])/\W F8 0 [.int 1,.int 0,.int 3]=some (Adf [(97,1),(99,3)])/\W F8 0 [.int 5,.int 0,.int 0]=some (Adf [(97,5)])/\
  W F8 0 [.int 1,.int 0,.int 0]=some (Adf [(97,1)])/\W F8 0 [.int 1,.int 4,.int 0]=some (Adf [(97,1),(98,4)])/\W F8 0 [.int 1,.int 2,.int 3]=some (Adf [(97,1),(98,2),(99,3)])/\W F8 0 [.int 5,.int 2,.int 0]=some (Adf [(97,5),(98,2)]):=
 ⟨Aj2 100 (by kernel_rfl),Aj2 100 (by kernel_rfl),Aj2 100 (by kernel_rfl),Aj2 100 (by kernel_rfl),Aj2 100 (by kernel_rfl),Aj2 100 (by kernel_rfl),Aj2 100 (by kernel_rfl)⟩
theorem Baj (l:List (UInt8 × Int)):IV.agg (Adf l)=(vm l).enc :=by
 have:=cI 5 0 Am [] (l.map λp=>(⟨#[p.1]⟩,⟨2,p.2,Am,[],[]⟩))
 unfold vm
 rw[<-this,List.map_map]
 rfl
theorem Bia:W F7 0 []=some Bi3.Ew:=by rw[Bft];rfl
theorem Bj5:W F6 0 []=some [.int 5,.int 0,.int 0,.list [],.str ⟨#[]⟩,.list [],.list (exS.f.map SFld.enc)]:=by
 rw[Bhl]
 simp only[Bia,Sch.Ew,Zv,bV,cB,aA]
 rfl
theorem Aw3 (a b:List (UInt8 × Int))(h:(vm a).Aq +(vm b).Aq <=1000):Sz exS (vm a) (vm b) exM:=by
 have c:exS.Aq<=1048576:=of_decide_eq_true (by kernel_rfl)
 have d:Yy exM=2:=rfl
 exact⟨c,by omega,by decide⟩
theorem eq_self (v:Val)(h:v.Aq<=1048576):W Bje 0 [v.enc,v.enc]=some [.bool true]:=by
 rw[Agb v v (by omega) (by omega)];simp
theorem Bb4:W F5 0 []=some [.bool true]:=by
 obtain⟨g,a2,a3,a4,a5,h,i⟩:=abcs
 have e1:=Se exS (vm [(97,1),(98,2)]) exM ⟨#[110]⟩ (vm [(97,1),(99,3)]) false (Aw3 _ _ (of_decide_eq_true (by kernel_rfl)))
 have a:=Se exS (vm [(97,1),(98,2)]) exM ⟨#[110]⟩ (vm [(97,5)]) false (Aw3 _ _ (of_decide_eq_true (by kernel_rfl)))
 have b:=Se exS (vm [(97,1),(98,2)]) exM ⟨#[110]⟩ (vm [(97,5)]) true (Aw3 _ _ (of_decide_eq_true (by kernel_rfl)))
 have c:=Se exS (vm [(97,1),(98,2)]) exM ⟨#[109]⟩ (vm [(97,1)]) false (Aw3 _ _ (of_decide_eq_true (by kernel_rfl)))
 have e5:=Az6 exS (vm [(97,1),(98,2)]) (vm [(97,1),(98,4)]) exM ⟨#[110]⟩ (Aw3 _ _ (of_decide_eq_true (by kernel_rfl)))
 rw[ex_1]at e1
 rw[ex_2]at a b
 rw[ex_3]at c
 rw[ex_4]at e5
 have j:=eq_self (vm [(97,1),(98,2),(99,3)]) (of_decide_eq_true (by kernel_rfl))
 have m:=eq_self (vm [(97,5),(98,2)]) (of_decide_eq_true (by kernel_rfl))
 have o:=eq_self (vm [(97,1)]) (of_decide_eq_true (by kernel_rfl))
 have q:=Bfq [⟨⟨#[109]⟩,[⟨#[97]⟩]⟩,⟨⟨#[110]⟩,[⟨#[98]⟩]⟩] (by decide) (by simp)
 have r:=Bdk [⟨⟨#[109]⟩,[⟨#[97]⟩,⟨#[98]⟩]⟩,⟨⟨#[110]⟩,[⟨#[97]⟩,⟨#[99]⟩]⟩] ⟨#[97]⟩ (by decide) (by simp)
 have t:IV.agg [.int 5,.int 0,.int 0,.list [],.str ⟨#[]⟩,.list [],.list (exS.f.map SFld.enc)]=exS.enc:=by rw[Sch.Eg,Sch.Be];rfl
 have u:IV.list [.agg [.str ⟨#[109]⟩,.list [.str ⟨#[97]⟩,.str ⟨#[98]⟩]]]= .list (exM.map aC):=rfl
 have w: ∀l,IV.agg [.int 5,.int 0,.str ⟨#[]⟩,.list [],.list (l.map λp:UInt8 × Int=> .agg [.str ⟨#[p.1]⟩,.int 2,.int p.2,.str ⟨#[]⟩,.list [],.list []])]=(vm l).enc :=Baj
 simp only[Adf]at g a2 a3 a4 a5 h i
 simp only[Bb0.enc,Zt,aB,Zf]at e1 a b c
 rw[Bhs]
 simp only[cB,bV,aA,u,Bj5,Zv,g,a2,a3,a4,a5,h,i,O.Cp,t,w,e1,a,b,c,e5,O.Ad1,bH]
 have d:W Bj2 0 [.list ([⟨⟨#[109]⟩,[⟨#[97]⟩,⟨#[98]⟩]⟩,⟨⟨#[110]⟩,[⟨#[97]⟩,⟨#[99]⟩]⟩].map aC),.str ⟨#[97]⟩]=some [.list [.str ⟨#[109]⟩,.str ⟨#[110]⟩]]:=r
 have e:W Bf1 0 [.list ([⟨⟨#[109]⟩,[⟨#[97]⟩]⟩,⟨⟨#[110]⟩,[⟨#[98]⟩]⟩].map aC),.list [.agg [.str ⟨#[109]⟩,.list [.str ⟨#[97]⟩]],.agg [.str ⟨#[110]⟩,.list [.str ⟨#[98]⟩]]]]=some [.bool true]:=q
 simp only[j,m,o,e,d,bH,aA]
 show _=_
 kernel_rfl
end Go.CT.Sch
namespace Go.CT.Sch
open Go.Proofs
theorem Aru (nm:ByteArray)(a:List ByteArray): ∀ (l:List Mgr) (d:Bool),∀x∈Aak nm a d l,x=⟨nm,a⟩\/x∈l
 | [],d,x,h=>by
  rw[Aak]at h
  split at h
  ·simp at h
  ·exact .inl (by simpa using h)
 | m::l,d,x,h=>by
  rw[Aak]at h
  rcases cC.1 h with h | h
  ·rcases cC.1 h with h | h
   ·split at h
    ·exact .inl (by simpa using h)
    ·simp at h
   ·split at h
    ·exact .inr (by rw[bX.1 h];simp)
    ·simp at h
  ·rcases Aru nm a l _ x h with h | h
   ·exact .inl h
   ·exact .inr (by simp[h])
structure Bhe (r:Bb0):Prop where
 v:r.v.Aq<=1048576
 l:r.l.length<=1048576/\ ∀m∈r.l,m.paths.length<=1048576
 c:r.c.length<=1048576
theorem Axm (s:Sch)(live:Val)(m:List Mgr)(nm:ByteArray)(config:Val)(force:Bool)(c:Sz s live config m):Bhe (As1 s live m nm config force):=by
 have j:=c.hab
 have z:=c.hm
 have d:=c.hp
 have a:Aw.Aq<=1048576:=by decide+kernel
 unfold As1
 split
 ·rename_i b
  unfold okB at b
  simp only[bA]at b
  obtain⟨⟨⟨o,q⟩,A⟩,f4⟩:=b
  have r:=Pn o
  have t:=Pn q
  have B:=Ia live s
  have C:=Ia config s
  have e:=Zr (m:=m) (nm:=nm) r t (by omega)
  have i:=J6 s (bL config s)
  have g:=Aeq (Adu s (bL config s) (bL live s)) m nm (Ay s (bL config s)) (Rw s _)
  unfold Bcl
  split
  ·exact⟨a,⟨aT _,by simp⟩,by unfold Aao;exact aS g d⟩
  ·split
   ·exact⟨a,⟨aT _,by simp⟩,aT _⟩
   ·rename_i u
    split
    ·refine⟨e,⟨by show(Axq _ _ _ _ _).length <=_;omega,λx h=>?_⟩,aT _⟩
     rcases Aru _ _ _ _ x h with rfl | h
     ·show(Ay _ _).length <=_;omega
     ·obtain⟨y,w,rfl⟩:=bY.1 h
      have F:=Kg y.paths (Ri (Aao s (bL live s) (bL config s) m nm) y.name)
      have G:=M0 w
      show(Gf _ _).length <=_;omega
    ·exact⟨a,⟨aT _,by simp⟩,aT _⟩
 ·exact⟨a,⟨aT _,by simp⟩,aT _⟩
theorem Asu (s:Sch)(live:Val)(m:List Mgr)(nm:ByteArray)(config:Val)(force:Bool)(a:Sz s live config m):
  W F0 0 [s.enc,live.enc,.list (m.map aC),.str nm,config.enc,.bool force]=some [.bool true]:=by
 have i:=a.hab
 have t:=a.hm
 have j:=a.hp
 obtain⟨b,o⟩:=Bg3 m (by omega) (λx q=>by have:=M0 q;omega) s live config a.hs (by omega) (by omega)
 obtain⟨g,d,h⟩:=Axm s live m nm config force a
 have e1:=Se s live m nm config force a
 have e:=A7n s live m nm config force a
 generalize As1 s live m nm config force=r at g d h e1 e
 rw[Bf3]
 simp only[Bb0.enc]at e1 e
 simp only[o,bH,cN,aA,aX,Bb4,e1,e,O.Ad1,Zt,eq_self r.v g,Bfq r.l d.1 d.2,Bke r.c h,cJ,Zd,aB]
 cases b<;>rfl
end Go.CT.Sch
namespace Go.CT.Sch
open Go.Proofs
theorem Af8: ∀m:List Mgr,3 * m.length+Yy m<=IV.Dh (m.map aC)
 | []=>aQ _
 | x::m=>by
  have b:=Af8 m
  have a:=D4 (x.paths.map IV.str)
  rw[aI]at a
  simp only[aY,IV.Dh,aC,IV.bulk,Yy,bZ]
  omega
theorem Bkm {s:Sch}{a b:Val}{m:List Mgr}(h:s.Aq+a.Aq+b.Aq+IV.Dh (m.map aC)<=1048576):Sz s a b m/\m.length<=500000:=by
 have:=Af8 m
 exact⟨⟨by omega,by omega,by omega⟩,by omega⟩
end Go.CT.Sch
