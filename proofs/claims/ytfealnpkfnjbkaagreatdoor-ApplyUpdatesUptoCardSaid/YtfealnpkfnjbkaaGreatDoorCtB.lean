import Derived.Test.YtfealnpkfnjbkaaGreatDoorCtA
import Derived.MapKept
import Derived.Lib.AppendStr
set_option linter.unusedVariables false
set_option linter.unusedSimpArgs false
open Array renaming length_toList->aN,getElem?_eq_getElem->aO,toArray_toList->aP,getElem?_eq_some_iff->bI,toList_inj->dJ,replicate->dP
open Bool renaming and_eq_true->aA,false_eq_true->aL,or_eq_true->aZ,or_eq_false_iff->cY,not_eq_true'->dG,false_or->dV
open Go.CT.Arg renaming evs->bP,ev->dQ,Lh->eA
open Go.CT.EM renaming guard->aY
open Go.CT.Gq renaming Kq->eB
open Go.CT.Kj renaming refl->cZ
open Go.CT.LH renaming Bv->cA
open Go.CT.Ob renaming Ea->dM
open Go.CT.PS renaming Dy->bT,safe->dA
open Go.CT.Ph renaming out->cT,refl->dW
open Go.CT.Prim renaming ev->bV
open Go.CT.RM renaming run->dS
open Go.CT.RS renaming flat->eC
open Go.CT.St renaming after->dZ
open Go.RowKit.Below renaming heap_alloc->dR
open Int renaming natCast_nonneg->bJ,toNat_natCast->cE
open List renaming mem_append_right->aB,flatMap_cons->aC,mem_append_left->aD,mem_cons_of_mem->aF,mem_append->aG,mem_cons_self->aH,replicate->aI,getElem?_eq_some_iff->aM,nodup_append->aR,mem_of_getElem?->aT,length_append->aV,all_cons->aX,getElem?_append_left->bA,mem_iff_getElem?->bB,getElem?_map->bE,mem_cons->bH,length_take->bL,length_drop->bM,getElem?_take->bN,mem_singleton->bO,append_nil->bS,getElem?_append_right->bU,mem_flatMap->bW,getElem?_eq_getElem->bY,length_eq_zero_iff->cC,take_of_length_le->cD,singleton_append->cG,eq_nil_iff_forall_not_mem->cH,all_eq_true->cI,flatMap_append->cJ,getElem?_drop->cL,getD_eq_getElem?_getD->cM,getElem?_cons_zero->cN,isEmpty_iff->cP,cons_append->cQ,drop_of_length_le->cS,nodup_cons->cV,length_replicate->cW,getElem?_toArray->cX,toList_toArray->dB,map_cons->dC,mem_replicate->dD,take_add_one->dH,flatMap_nil->dK,nil_append->dN,length_map->dO,mem_map->dX
open Nat renaming le_refl->aK,le_trans->aS,mul_le_mul_right->aW,lt_succ_self->bC,add_assoc->bD,zero_add->bF,lt_of_lt_of_le->bQ,add_right_comm->bR,add_mul->bZ,zero_le->cB,le_of_succ_le->cF,add_zero->cK,le_mul_of_pos_right->cO,add_comm->cU,eq_zero_or_pos->dE,zero_mul->dF,le_succ->dL,testBit_or->dT,lt_irrefl->dU,lt_or_ge->dY
open Option renaming map_some->aJ,map_eq_some_iff->aQ,ite_none_right_eq_some->aU,isSome_iff_exists->bK,isNone_iff_eq_none->bX,bind_some->cR,getD_none->dI
open Option.some renaming injEq->aE
open Prod.mk renaming injEq->bG
namespace Go.CT
open EM
section
variable {P:Program}{N:Nat}{X:Nat->Prop}{R:Job->List IV->Option (List IV)}{ρ:List IV}{K:Nat->Prop}{S:View}{μ:Nat->Value}{a:Act}{w:World}{es es':ES}{ls:List PLt}{sx:SX}
theorem Xg (z:Value)(sz n:Nat)(a:z.cells.size=sz)(b:0<sz):(Builtin.zeroCells z.cells n).toList =Ba (aI n z):=by
 have c:Builtin.zeroCells z.cells n=madeCells z.cells (n * sz):=by simp[Builtin.zeroCells,madeCells,a]
 have d:=Ad2 z.cells sz n n a b (aK _)
 have e:(madeCells z.cells (n * sz)).toList.take (n * sz)=(madeCells z.cells (n * sz)).toList :=by
  rw[cD]
  rw[aN,size_madeCells];exact aK _
 rw[c,<-e,d]
 simp only[Ba,List.flatMap_replicate]
 rfl
theorem Jn {sz:Nat} : ∀ {us:List Value},(∀u∈us,u.cells.size=sz)-> ∀l,Ba (us.take l)=(Ba us).take (l * sz)/\Ba (us.drop l)=(Ba us).drop (l * sz)
 | [],_,l=>by simp[Ba]
 | u::us,h,0=>by simp[Ba]
 | u::us,h,l+1=>by
  have a:=Jn (us:=us) (λv d=>h v (aF _ d)) l
  have b:u.cells.toList.length=sz:=by rw[aN];exact h u aH
  have c: ∀vs:List Value,Ba (u::vs)=u.cells.toList++Ba vs:=λvs=>by simp[Ba]
  have e1:(l+1) * sz=sz+l * sz:=by rw[bZ,Nat.one_mul];omega
  rw[List.take_succ_cons,List.drop_succ_cons,c,c,a.1,a.2,e1]
  constructor
  ·rw[List.take_append,b,cD (l:=u.cells.toList) (by omega)]
   congr 2;omega
  ·rw[List.drop_append,b,cS (l:=u.cells.toList) (by omega),dN]
   congr 1;omega
theorem Gq.cut {O:Nat->Prop}{e:TypeId}{xs:List IV}{us:List Value}(h:Gq P w O e xs us)(l:Nat):Gq P w O e (xs.take l) (us.take l)/\Gq P w O e (xs.drop l) (us.drop l):=by
 have hlen:=h.len
 refine⟨eB (by rw[bL,bL,hlen]) λj x v c b=>?_,eB (by rw[bM,bM,hlen]) λj x v c b=>?_⟩
 ·rw[bN]at c b
  split at c
  ·rename_i g
   rw[if_pos g]at b
   obtain⟨u,a,d⟩:=h.get j x c
   rw[b]at a;injection a with a;subst a
   exact⟨d,(h.size v (aT b)).1⟩
  ·cases c
 ·rw[cL]at c b
  obtain⟨u,a,d⟩:=h.get _ x c
  rw[b]at a;injection a with a;subst a
  exact⟨d,(h.size v (aT b)).1⟩
theorem Gq.app {O:Nat->Prop}{e:TypeId}{xs ys:List IV}{us vs:List Value}(h:Gq P w O e xs us)(k:Gq P w O e ys vs):Gq P w O e (xs++ys) (us++vs):=by
 have g:=h.len
 have i:=k.len
 refine eB (by rw[aV,aV,g,i]) λj x v c b=>?_
 by_cases m:j<us.length
 ·rw[bA (by omega)]at c
  rw[bA m]at b
  obtain⟨u,a,d⟩:=h.get j x c
  rw[b]at a;injection a with a;subst a
  exact⟨d,(h.size v (aT b)).1⟩
 ·rw[bU (by omega)]at c b
  rw[g]at c
  obtain⟨u,a,d⟩:=k.get _ x c
  rw[b]at a;injection a with a;subst a
  exact⟨d,(k.size v (aT b)).1⟩
theorem Avi {t rt:TypeId}{x:Operand}(G:Good P N X ρ K S.tm (cur S es.obs) μ a w)(h:Ev S (Apo P t x) es sx es' ls)(hl:LH R ρ ls)(hg:holds ρ es.gs=some true):
  ∃v w' μ',(Builtin.clear_ #[t] rt #[a.eval x]).run P w= .ok v w'/\Out P N X ρ K S μ a w es es' sx μ' w' v:=by
 unfold Apo at h
 rw[Ab]at h
 obtain⟨_,_,_,_,d,h,rfl⟩:=h
 rw[Dh]at d
 obtain⟨_,rfl,rfl⟩:=d
 rw[Ab]at h
 obtain⟨e,_,_,_,d,h,rfl⟩:=h
 rw[Ao]at d
 obtain⟨he,rfl,rfl⟩:=d
 rw[Ab]at h
 obtain⟨_,_,_,_,d,h,rfl⟩:=h
 rw[Af]at d
 obtain⟨g1,rfl,rfl⟩:=d
 simp only[aA,decide_eq_true_eq]at g1
 obtain⟨g1,g3⟩:=g1
 rw[Ab]at h
 obtain⟨zi,_,_,_,d,h,rfl⟩:=h
 rw[Ao]at d
 obtain⟨hz,rfl,rfl⟩:=d
 rw[Ab]at h
 obtain⟨xv,e1,l1,_,h1,h,rfl⟩:=h
 obtain⟨rfl,rfl,p1,p2⟩:=E1 G h1 hg
 split at h
 rotate_left
 ·simp[Ac]at h
 rename_i k lo hi t'
 rw[Ab]at h
 obtain⟨o,_,_,l2,d,h,rfl⟩:=h
 rw[Bp]at d
 obtain⟨ho,rfl,rfl⟩:=d
 cases o with
 | box=>simp[Ac]at h
 | frz=>simp[Ac]at h
 | iter=>simp[Ac]at h
 | mp=>simp[Ac]at h
 | arr e' tt c=>
  simp only[Ab,Af,Bi,Bd,Ad]at h
  obtain⟨_,_,_,_,⟨g4,rfl,rfl⟩,⟨_,_,_,_,⟨rfl,rfl,rfl⟩,⟨_,_,_,_,⟨rfl,rfl⟩,⟨rfl,rfl,rfl⟩,rfl⟩,rfl⟩,rfl⟩:=h
  simp only[aA,beq_iff_eq]at g4
  obtain⟨rfl,g4⟩:=g4
  obtain⟨ivs,cs,q1,q2,q3,q4,q5,q6⟩:=G.obj k _ ho
  have q1:c.ev ρ=some (.list ivs):=q1
  have ad:=hl.right.right.right.right.right.right.right
  obtain⟨ak,r,r1,r2,r3⟩:=cA (by simpa using ad) hg
  obtain⟨a1,a2,a3,s1,s2,s3,rfl⟩:=A6q r1
  obtain⟨A,n,cap,l,h,e0,m0,m1,m2,m3,m4,m5,q⟩:=p1
  have m2:lo.ev ρ=some (.int (l:Nat)):=m2
  have m3:hi.ev ρ=some (.int (h:Nat)):=m3
  have m1:μ k= .slice A n cap:=m1
  have m0:P.underlying t'=some (.slice e0):=m0
  rw[Be g4]at m0;injection m0 with m0;injection m0 with m0;subst m0
  rw[q1]at s1;injection s1 with s1;subst s1
  rw[m2]at s2;injection s2 with s2;subst s2
  rw[m3]at s3;injection s3 with s3;subst s3
  simp only[bV]at r2
  rw[aU]at r2
  obtain⟨⟨ai,_,_,hle⟩,r2⟩:=r2
  injection r2 with r2
  subst r2
  have hle:h<=ivs.length:=by omega
  simp only[cE]at r3
  obtain⟨w1,q4⟩:=q4
  rcases q4 with⟨_,q4⟩ | ⟨g,cap',cu,f1,f2,Q,f4,f5,f6,f7⟩
  ·omega
  have T:μ k= .slice (some ⟨g,0,none⟩) ivs.length cap':=f1
  rw[m1]at T;injection T with i1 i2 i3
  subst i1;subst i2;subst i3
  have Q:w.heap[g]?=some (.cells cu e (0,0)):=Q
  have w1:cs.length=ivs.length * Ag P e:=w1
  have q5:Ja P w (Bh P X ρ (cur S es.obs) μ w).O e ivs cs:=q5
  obtain⟨us,hE,rfl⟩:=q5.Apa w1
  have f6:cu.size=cap * Ag P e:=f6
  have f7:cu.toList.take (ivs.length * Ag P e)=Ba us:=f7
  have aj:ivs.length * Ag P e<=cu.size:=by rw[f6];exact aW _ f4
  obtain⟨i,z,z1,z2,z3,z4,z5⟩:=Mz g3
  obtain⟨i',z',y,B,U⟩:=R1 (w:=w) (O:=(Bh P X ρ (cur S es.obs) μ w).O) hz
  rw[z1]at y;injection y with y;subst y
  rw[z2]at B;injection B with B;subst B
  have E:Gq P w (Bh P X ρ (cur S es.obs) μ w).O e (aI (h - l) zi) (aI (h - l) z):=
   eB (by simp) λj x v hx q=>by
    simp[List.getElem?_replicate]at hx q
    obtain⟨_,rfl⟩:=hx
    obtain⟨_,rfl⟩:=q
    exact⟨U,z3⟩
  have t2:Gq P w (Bh P X ρ (cur S es.obs) μ w).O e (ivs.take l++aI (h - l) zi++ivs.drop h) (us.take l++aI (h - l) z++us.drop h):=
   ((hE.cut l).1.app E).app (hE.cut h).2
  have H:=λa b=>(hE.size a b).1
  have ae:us.length=ivs.length:=hE.len.symm
  have al:(Ba us).length =ivs.length * Ag P e:=by rw[Dc H,ae]
  have af:(Builtin.zeroCells z.cells (h - l)).toList =Ba (aI (h - l) z):=Xg z (Ag P e) (h - l) z3 g1
  have C:(Ba (aI (h - l) z)).length =(h - l) * Ag P e:=by
   rw[Dc (sz:=Ag P e) (λv q=>by rw[(dD.1 q).2];exact z3),cW]
  have e3:l * Ag P e+(h - l) * Ag P e=h * Ag P e:=by rw[<-bZ];congr 1;omega
  have hh:h * Ag P e<=ivs.length * Ag P e:=aW _ hle
  have I:Ba (us.take l++aI (h - l) z++us.drop h)=(Ba us).take (l * Ag P e)++Ba (aI (h - l) z)++(Ba us).drop (l * Ag P e+(Ba (aI (h - l) z)).length):=by
   rw[D7,D7,(Jn H l).1,(Jn H h).2,C,e3]
  have Z:(ivs.take l++aI (h - l) zi++ivs.drop h).length =ivs.length:=by
   simp only[aV,bL,cW,bM];omega
  -- what is laid
  have aa:(Builtin.clear_ #[t] rt #[a.eval x]).run P w= .ok (.tuple #[]) (w.setRow g (cu.toList.take (l * Ag P e)++Ba (aI (h - l) z)++cu.toList.drop (l * Ag P e+(Ba (aI (h - l) z)).length)).toArray):=by
   have F:(underlying t).run P w= .ok (.slice e) w:=by simp[underlying,Be he]
   have ag:a.eval x= .slice (if cap=l then some (⟨g,0,none⟩:Addr) else(some (⟨g,0,none⟩:Addr)).map (·.add (l * Ag P e))) (h - l) (cap - l):=q
   rw[ag]
   by_cases ab:h - l=0
   ·have J:(cu.toList.take (l * Ag P e)++Ba (aI (h - l) z)++cu.toList.drop (l * Ag P e+(Ba (aI (h - l) z)).length)).toArray =cu:=by
     rw[ab];simp[Ba]
    rw[J,setRow_self w g cu e (0,0) Q,ab]
    generalize (if cap=l then some (⟨g,0,none⟩:Addr) else(some (⟨g,0,none⟩:Addr)).map (·.add (l * Ag P e)))=Y
    unfold Builtin.clear_
    simp only[cX,cN,Sem.run_bind,F,Result.andThen_ok]
    cases Y<;>simp
   ·have ah: ¬ cap=l:=by omega
    obtain⟨nn,M⟩: ∃nn,h - l=nn+1:=⟨h - l - 1,by omega⟩
    have ac:=run_storeCells_at (P:=P) g (l * Ag P e) e (Ba (aI (h - l) z)) 0 cu w Q (by rw[C];omega) (λv q=>by
     exact Ei (λu hu=>by rw[(dD.1 hu).2];exact(E.size z (by rw[M];simp)).2) v q)
    simp only[cK]at ac
    rw[if_neg ah]
    simp only[aJ,Lw]
    unfold Builtin.clear_
    simp only[cX,cN,Sem.run_bind,F,Result.andThen_ok]
    rw[M]
    simp only[Sem.run_bind,zeroValue,typeInfo]
    rw[<-M]
    simp[z1,z2,af,ac]
  refine⟨_,_,Db μ k (μ k),aa,Qd (e1:=es) (.refl G) ho rfl (by rw[m1];rfl) (λk' hk=>by cases hk) (λL=>?_)⟩
  refine⟨_,Ba (us.take l++aI (h - l) z++us.drop h),r3,q2,q3,⟨?_,.inr ⟨g,cap,_,?_,cB _,setRow_heap w g cu _ e (0,0) Q,by omega,f5,?_,?_⟩⟩,(Gq.later L t2).elems,Ei λv q=>(t2.size v q).2⟩
  ·rw[Dc λv q=>(t2.size v q).1,<-t2.len];rfl
  ·show Db μ k (μ k) k=_
   rw[Bb,m1,Z]
  ·have:=I7 (cs:=cu.toList) (new:=Ba (aI (h - l) z)) (off:=l * Ag P e) (by rw[C,aN];omega)
   rw[aN]at this
   exact this.trans f6
  ·rw[dB,Z]
   have:=Pn (cs:=cu.toList) (new:=Ba (aI (h - l) z)) (p:=l * Ag P e) (m:=ivs.length * Ag P e) (by rw[C];omega) (by rw[aN];omega)
   rw[I,<-f7];exact this
end
end Go.CT
namespace Go.CT
open EM
def J8 (w:World)(r:Nat)(o:Obj):World:= {w with heap:=w.heap.setIfInBounds r o}
theorem Xj {w:World}{r:Nat}{o o':Obj}(h:w.heap[r]?=some o'):(J8 w r o).heap[r]?=some o:=by
 have a:r<w.heap.size:=(bI.1 h).1
 simp[J8,a]
theorem S2 (w:World)(r:Nat)(o:Obj):Gr (· =r) w (J8 w r o):=
 ⟨rfl,rfl,rfl,by simp[J8],λb _ h=>by
  have h: ¬ b=r:=h
  simp[J8,Ne.symm h]⟩
section
variable {P:Program}{N:Nat}{X:Nat->Prop}{R:Job->List IV->Option (List IV)}{ρ:List IV}{K:Nat->Prop}{S:View}{μ:Nat->Value}{a:Act}{w w':World}{es es':ES}{ls:List PLt}{sx:SX}
theorem Up {k b:Nat}{o o':Ob}{e1:ES}{nn:Nat}{val:Value}(p:Ph P N X ρ K S μ a w es e1)(u:cur S e1.obs k=some o)(g:o.Ea=true)(z:blk (μ k)=some b)(q: ∀i∈E4 o',K i)
  (c:Gr (· =b) w w')
  (C:Dp K (Bh P X ρ (cur S e1.obs) μ w) (Bh P X ρ (Bo (cur S e1.obs) k (some o')) (Db μ k (μ k)) w')->Ae3 (Bh P X ρ (Bo (cur S e1.obs) k (some o')) (Db μ k (μ k)) w') k o')
  (I:Agd (Bh P X ρ (Bo (cur S e1.obs) k (some o')) (Db μ k (μ k)) w') sx val) (J: ∀k∈Ca sx,K k):
  Out P N X ρ K S μ a w es {e1 with n:=nn,obs:=(k,some o')::e1.obs} sx (Db μ k (μ k)) w' val:=by
 have E:=(p.Cj.ko k o u).1
 have t:Gr (Wr (cur S e1.obs) μ) w w':=⟨c.os,c.tape,c.output,c.size,λj d L=>c.stays j d λe=>L (by have e:j=b:=e;subst e;exact⟨k,o,u,g,z⟩)⟩
 have A:Put P X ρ K (cur S e1.obs) (Bo (cur S e1.obs) k (some o')) μ w w' k o' (μ k):=
  {
   other:=λi x h r=>by simpa [Bo,h]using r
   here:=by simp[Bo]
   same:=λi _=>by unfold Db;split<;>simp_all
   step:=t
   rest:=λi x j h r B d=>by
    have y:cur S e1.obs i=some x:=by simpa [Bo,h]using r
    have F:=p.Cj.Mg y B d
    refine c.stays j F λe=>?_
    have e:j=b:=e
    subst e
    exact h (p.Cj.sep i k x o j y u B g d z)
   new:=λj d=> .inl ⟨⟨k,o,u,g,d⟩,λi x h r B G=>h (p.Cj.sep i k x o j (by simpa [Bo,h]using r) u B g G d)⟩
   keys:=λk2 r=> .inl (q k2 r)}
 have M: ∀i,K i\/i=k->As K es.m e1.m i:=by
  rintro i (h | rfl)
  ·exact .inl h
  ·exact .inl E
 refine⟨?_,?_,λk h=> .inl (J k h),?_,?_,A.same⟩
 ·show Good P N X ρ (As K es.m e1.m) S.tm (cur S ((k,some o')::e1.obs)) _ a _
  rw[Bm]
  exact A.Cj p.Cj (C A.later) M
 ·show Agd (Bh P X ρ (cur S ((k,some o')::e1.obs)) _ _) _ _
  rw[Bm];exact I
 ·exact⟨t.os,t.tape,t.output,t.size,λb z H=>t.stays b z λh=>H (p.Dv.wr h)⟩
 ·intro j d
  have d:Wr (cur S ((k,some o')::e1.obs)) _ j:=d
  rw[Bm]at d
  exact(A.own p.Cj j d).imp p.Dv.wr id
theorem Px.text {c:Cx}{x:Arg}{t:TypeId}{v:Value}(h:Px c x t v)(a:c.P.underlying t=some .string): ∃s,x.ev c.ρ=some (.str s)/\v= .string s:=by
 obtain⟨iv,b,d,_⟩:=h
 obtain⟨s,rfl,rfl⟩:=d.Hj a
 exact⟨s,b,rfl⟩
theorem Aug {t:TypeId}{x:Operand}(G:Good P N X ρ K S.tm (cur S es.obs) μ a w)(h:Ev S (Arq P t x) es sx es' ls)(c:LH R ρ ls)(g:holds ρ es.gs=some true)(hfresh: ∀k,es.m<=k->k<es'.m-> ¬ K k):
  ∃v w' μ',(Instr.range t (a.eval x)).run P w= .ok v w'/\Out P N X ρ K S μ a w es es' sx μ' w' v:=by
 unfold Arq at h
 rw[Ab]at h
 obtain⟨_,_,_,_,b,h,rfl⟩:=h
 rw[Dh]at b
 obtain⟨_,rfl,rfl⟩:=b
 rw[Ab]at h
 obtain⟨_,_,_,_,b,h,rfl⟩:=h
 rw[Af]at b
 obtain⟨i,rfl,rfl⟩:=b
 have e:=D4 i
 rw[Ab]at h
 obtain⟨y,e1,u,_,j,h,rfl⟩:=h
 have c:=c.right.right
 obtain⟨p,q⟩:=E9 G j c.left g
 obtain⟨s,o,r⟩:=q.text e
 simp only[Ab,Cc,Bd,Ad]at h
 obtain⟨_,_,_,_,⟨rfl,rfl,rfl⟩,⟨_,_,_,_,⟨rfl,rfl⟩,⟨rfl,rfl,rfl⟩,rfl⟩,rfl⟩:=h
 rw[r]
 refine⟨.pointer (some ⟨w.heap.size,0,none⟩),w.alloc (.stringIter s 0),_,?_,Aav (nn:=e1.n) (hdr:= .pointer (some ⟨w.heap.size,0,none⟩)) p hfresh rfl (λk d=>by cases d) (λL=>?_) ?_ (λk d=>?_)⟩
 ·simp[Instr.range,underlying,e]
 ·refine⟨w.heap.size,0,s,Bb,?_,o,rfl⟩
  exact heap_alloc_new w _
 ·exact⟨w.heap.size,Bb,by rw[A6]⟩
 ·simpa [Ca,Ax,A5,Di,one]using d
theorem A04 {it:Operand}{isS:Bool}{ty:TypeId}(G:Good P N X ρ K S.tm (cur S es.obs) μ a w)(h:Ev S (A42 P it isS) es sx es' ls)(g:LH R ρ ls)(F:holds ρ es.gs=some true):
  ∃v w' μ',(Instr.next (a.eval it) isS ty).run P w= .ok v w'/\Out P N X ρ K S μ a w es es' sx μ' w' v:=by
 unfold A42 at h
 rw[Ab]at h
 obtain⟨_,_,_,_,e,h,rfl⟩:=h
 rw[Dh]at e
 obtain⟨_,rfl,rfl⟩:=e
 rw[Ab]at h
 obtain⟨_,_,_,_,e,h,rfl⟩:=h
 rw[Af]at e
 obtain⟨H,rfl,rfl⟩:=e
 subst H
 rw[Ab]at h
 obtain⟨vv,e1,Y,_,I,h,rfl⟩:=h
 rw[Ab]at h
 obtain⟨p,Z,l2,_,J,h,rfl⟩:=h
 obtain⟨rfl,rfl,rfl,hp,M⟩:=Qk G I J F
 have g:LH R ρ _:=g.right.right.right.right
 unfold Ato at h
 split at h
 ·rename_i k
  rw[Ab]at h
  obtain⟨o,_,_,l3,e,h,rfl⟩:=h
  rw[Bp]at e
  obtain⟨E,rfl,rfl⟩:=e
  have g:=g.right
  split at h
  ·rename_i s q
   simp only[Ab,Bi,Bd,Ad]at h
   obtain⟨_,_,_,_,⟨rfl,rfl,rfl⟩,⟨_,_,_,_,⟨rfl,rfl,rfl⟩,⟨_,_,_,_,⟨rfl,rfl,rfl⟩,⟨_,_,_,_,⟨rfl,rfl⟩,⟨rfl,rfl,rfl⟩,rfl⟩,rfl⟩,rfl⟩,rfl⟩:=h
   obtain⟨b,n,bs,i,r,t,x⟩:=G.obj k _ E
   have i:μ k= .pointer (some ⟨b,0,none⟩):=i
   have r:w.heap[b]?=some (.stringIter bs n):=r
   have t:s.ev ρ=some (.str bs):=t
   have x:q.ev ρ=some (.int n):=x
   have two: ∀ {pr:Prim} {m:Nat},LH R ρ [⟨m,⟨es.gs,.Bv pr [s,q]⟩⟩]-> ∃y,pr.ev [.str bs,.int n]=some y/\dQ ρ (.v m)=some y:=by
    intro pr m Q
    obtain⟨vs,y,r1,r2,z⟩:=cA Q F
    obtain⟨u,v,A,B,rfl⟩:=Ab8 r1
    rw[t]at A;rw[x]at B
    injection A with A;injection B with B;subst A;subst B
    exact⟨y,r2,z⟩
   obtain⟨y1,r1,C⟩:=two g.left
   obtain⟨y2,r2,t2⟩:=two g.right.left
   obtain⟨y3,z,t3⟩:=two g.right.right.left
   simp only[bV,bJ,Zt,cE,aE]at r1 r2 z
   subst r1;subst r2;subst z
   have T:a.eval it= .pointer (some ⟨b,0,none⟩):=by
    obtain⟨U,r1,r2⟩:=hp
    have c:μ k= .pointer (some ⟨U,0,none⟩):=r1
    rw[i]at c;injection c with c;injection c with c;injection c with c
    subst c
    rw[r2,A6]
   rw[T]
   by_cases d:n<bs.size
   ·simp only[d,Zt,Zd]at C t2 t3
    refine⟨.tuple #[.bool true,.int .i64 n,.int .i32 (Utf8.decode bs n).1],J8 w b (.stringIter bs (n+(Utf8.decode bs n).2)),Db μ k (μ k),?_,Up (e1:=es) (.refl G) E rfl (by rw[i];rfl) (λk j=>by cases j) (S2 w b _) (λL=>?_) ?_ (λk j=>by cases j)⟩
    ·simp[Instr.next,getObj,setObj,Sem.run,r,d,J8,Result.andThen,goInt]
    ·refine⟨b,n+(Utf8.decode bs n).2,bs,Bb.trans i,Xj r,t,?_⟩
     show dQ ρ _=_
     rw[t3];simp
    ·exact⟨true,n,(Utf8.decode bs n).1,C,x,t2,rfl⟩
   ·simp only[d,Zf,Ze]at C t2 t3
    refine⟨.tuple #[.bool false],w,Db μ k (μ k),?_,Up (e1:=es) (.refl G) E rfl (by rw[i];rfl) (λk j=>by cases j) (.refl _ _) (λL=>?_) ?_ (λk j=>by cases j)⟩
    ·simp[Instr.next,getObj,Sem.run,r,d,Result.andThen]
    ·refine⟨b,n,bs,Bb.trans i,r,t,?_⟩
     show dQ ρ _=_
     rw[t3]
    ·exact⟨false,n,0,C,x,t2,rfl⟩
  ·simp[Ac]at h
 ·simp[Ac]at h
theorem Afr {x:Operand}{i:Nat}{rt:TypeId}(G:Good P N X ρ K S.tm (cur S es.obs) μ a w)(h:Ev S (do
   match <-rd P x 0 with
   | .tup vs=>do pure (.one (<-ofOption vs[i]?))
   | .nx ok p r=>xNx P ok p r i rt
   | _=>fail:EM SX) es sx es' ls) (d:LH R ρ ls) (e:holds ρ es.gs=some true):
  ∃v,(Instr.extract (a.eval x) i).run P w= .ok v w/\Out P N X ρ K S μ a w es es' sx μ w v:=by
 rw[Ab]at h
 obtain⟨s,e1,L,_,E,h,rfl⟩:=h
 obtain⟨rfl,rfl,A,F⟩:=Awf G E e
 split at h
 ·rename_i vs
  simp only[Ab,Ao,Ad]at h
  obtain⟨vv,_,_,_,⟨c,rfl,rfl⟩,⟨rfl,rfl,rfl⟩,rfl⟩:=h
  obtain⟨us,g,H⟩:=A
  obtain⟨u,I,J⟩:=H.get i vv c
  refine⟨u,?_,cT (.refl G) J (λk B=>F k ?_)⟩
  ·rw[g]
   have:us[i]?=some u:=by simpa using I
   simp[Instr.extract,this]
  ·simp only[Ca,bW]at B ⊢
   exact⟨vv,aT c,B⟩
 ·rename_i ok p r
  obtain⟨b,n,m,d1,d2,d3,g⟩:=A
  have d1:ok.ev ρ=some (.bool b):=d1
  have d2:p.ev ρ=some (.int n):=d2
  have d3:r.ev ρ=some (.int m):=d3
  have d:=d.right
  have Afz: ∀ {es j:ES} {o:List PLt} {z:Arg},Ev S (Bv .Afz [ok]) es z j o->LH R ρ o->holds ρ es.gs=some true->b=true/\j= {es with n:=es.n+1} :=by
   intro es j o z C d e
   rw[Bi]at C
   obtain⟨rfl,rfl,rfl⟩:=C
   obtain⟨vs,y,r1,r2,M⟩:=cA d e
   obtain⟨u,q,rfl⟩:=Apf r1
   rw[d1]at q;injection q with q;subst q
   simp only[bV]at r2
   split at r2
   ·exact⟨by assumption,rfl⟩
   ·cases r2
  unfold xNx at h
  split at h
  ·simp only[Ab,Af,Ad]at h
   obtain⟨_,_,_,_,⟨c,rfl,rfl⟩,⟨rfl,rfl,rfl⟩,rfl⟩:=h
   refine⟨.bool b,?_,cT (.refl G) ⟨.bool b,d1,.bool (Ce c)⟩ (Mb _ _)⟩
   rw[g];cases b<;>simp[Instr.extract]
  ·simp only[Ab,Af,Ad]at h
   obtain⟨_,_,_,_,⟨c,rfl,rfl⟩,⟨z,j,o,_,t,⟨rfl,rfl,rfl⟩,rfl⟩,rfl⟩:=h
   obtain⟨rfl,rfl⟩:=Afz t d.right.left e
   have c:Kp P rt=some .i64 :=by simpa using c
   refine⟨.int .i64 n,?_,cT (.same G rfl rfl rfl) ⟨.int n,d2,.int (Cp c)⟩ (Mb _ _)⟩
   rw[g];simp[Instr.extract]
  ·simp only[Ab,Af,Ad]at h
   obtain⟨_,_,_,_,⟨c,rfl,rfl⟩,⟨z,j,o,_,t,⟨rfl,rfl,rfl⟩,rfl⟩,rfl⟩:=h
   obtain⟨rfl,rfl⟩:=Afz t d.right.left e
   have c:Kp P rt=some .i32 :=by simpa using c
   refine⟨.int .i32 m,?_,cT (.same G rfl rfl rfl) ⟨.int m,d3,.int (Cp c)⟩ (Mb _ _)⟩
   rw[g];simp[Instr.extract]
  ·simp[Ac]at h
 ·simp[Ac]at h
end
end Go.CT
namespace Go.CT
open EM
section
variable {P:Program}{w:World}{O O':Nat->Prop}{kt vt:TypeId}
theorem Lh (c:Aua P kt=true){a b:IV}{u v:Value}(i:Rel P w O kt a u)(j:Rel P w O' kt b v):
  ∃d r,P.underlying kt=some d/\MapKept.IsKey d u/\a.Oq b=some r/\Instr.sameNow d u v=some r/\(r=true->v=u):=by
 unfold Aua at c
 rw[aZ]at c
 rcases c with c | c
 ·obtain⟨k,c⟩:=bK.1 c
  have g:=Cp c
  obtain⟨n,rfl,rfl⟩:=i.G4 g
  obtain⟨m,rfl,rfl⟩:=j.G4 g
  refine⟨_,n == m,g,rfl,rfl,by simp[Instr.sameNow],λh=>?_⟩
  rw[beq_iff_eq]at h;rw[h]
 ·have g:=D4 c
  obtain⟨n,rfl,rfl⟩:=i.Hj g
  obtain⟨m,rfl,rfl⟩:=j.Hj g
  have e:(n.toList == m.toList)=(n == m):=by
   rw[Bool.eq_iff_iff,beq_iff_eq,MapKept.bytes_beq,ByteArray.toList_eq,ByteArray.toList_eq]
   constructor
   ·intro h;cases n;cases m;simpa using h
   ·rintro rfl;rfl
  refine⟨_,n == m,g,trivial,by simp only[IV.Oq,e],by simp[Instr.sameNow],λh=>?_⟩
  rw[MapKept.bytes_beq]at h;rw[h]
theorem Aae {d:TypeDesc}{key:IV}{kv:Value}(z:Aua P kt=true)(hd:P.underlying kt=some d)(A:Rel P w O' kt key kv)(g:Rel P w O kt key kv): ∀ (xs:List IV) (es:List MapEntry) (i:Nat),Jf P w O kt vt xs es->
  (Ta key xs=some none/\Instr.findNow d kv es i=some none/\ ∀val,Aup key val xs=some (xs++ [.agg [key,val]]))\/
  (∃j e b,Ta key xs=some (some b)/\Instr.findNow d kv es i=some (some (i+j,e.val))/\es[j]?=some e/\e.key=kv/\Rel P w O vt b e.val/\
   ∀val valv,Rel P w O vt val valv-> ∃ys,Aup key val xs=some ys/\Jf P w O kt vt ys (es.modify j λe=> {e with key:=kv,val:=valv}))
 | [],[],i,_=> .inl ⟨rfl,rfl,λ_=>rfl⟩
 | x::xs,e::es,i,h=>by
  obtain⟨⟨a,b,rfl,B,C⟩,E⟩:=h
  obtain⟨L,r,m,M,c,o,F⟩:=Lh z A B
  rw[hd]at m;injection m with m;subst m
  cases r with
  | true=>
   refine .inr ⟨0,e,b,by simp[Ta,c],by simp[Instr.findNow,o],rfl,F rfl,C,λval valv q=>⟨.agg [key,val]::xs,by simp[Aup,c],?_⟩⟩
   exact⟨⟨key,val,rfl,g,q⟩,E⟩
  | false=>
   rcases Aae z hd A g xs es (i+1) E with⟨t,u,y⟩ | ⟨j,G,H,t,u,y,I,J,K⟩
   ·exact .inl ⟨by simp[Ta,c,t],by simp[Instr.findNow,o,u],λval=>by simp[Aup,c,y]⟩
   ·refine .inr ⟨j+1,G,H,by simp[Ta,c,t],by simp[Instr.findNow,o,u];omega,by simpa using y,I,J,λval valv q=>?_⟩
    obtain⟨ys,r1,r2⟩:=K val valv q
    exact⟨.agg [a,b]::ys,by simp[Aup,c,r1],⟨a,b,rfl,B,C⟩,r2⟩
 | [],_::_,_,h=>h.elim
 | _::_,[],_,h=>h.elim
theorem Jf.app {x:IV}{e:MapEntry}(c: ∃a b,x= .agg [a,b]/\Rel P w O kt a e.key/\Rel P w O vt b e.val): ∀ {xs:List IV} {es:List MapEntry},Jf P w O kt vt xs es->Jf P w O kt vt (xs++ [x]) (es++ [e])
 | [],[],_=>⟨c,trivial⟩
 | _::_,_::_,h=>⟨h.1,h.2.app c⟩
 | [],_::_,h=>h.elim
 | _::_,[],h=>h.elim
theorem Rel.key (b:Aua P kt=true){a:IV}{u:Value}(h:Rel P w O kt a u):Rel P w O' kt a u:=by
 unfold Aua at b
 rw[aZ]at b
 rcases b with b | b
 ·obtain⟨k,b⟩:=bK.1 b
  obtain⟨n,rfl,rfl⟩:=h.G4 (Cp b)
  exact .int (Cp b)
 ·obtain⟨n,rfl,rfl⟩:=h.Hj (D4 b)
  exact .str (D4 b)
end
theorem O2 {P:Program}{t:TypeId}{kv:TypeId × TypeId}(h:Aqn P t=some kv):P.underlying t=some (.map kv.1 kv.2):=by
 unfold Aqn at h
 split at h
 ·rename_i k v a;injection h with h;subst h;exact a
 ·cases h
section
variable {P:Program}{N:Nat}{X:Nat->Prop}{R:Job->List IV->Option (List IV)}{ρ:List IV}{K:Nat->Prop}{S:View}{μ:Nat->Value}{a:Act}{w w':World}{es es':ES}{ls:List PLt}{sx:SX}
theorem Agb {t:TypeId}{r:Option Operand}(G:Good P N X ρ K S.tm (cur S es.obs) μ a w)(h:Ev S (Aby P t r) es sx es' ls)(hfresh: ∀k,es.m<=k->k<es'.m-> ¬ K k):
  r=none/\ ∃v w' μ',(Instr.makeMap t none).run P w= .ok v w'/\Out P N X ρ K S μ a w es es' sx μ' w' v:=by
 unfold Aby at h
 simp only[Ab,Dh,Af,Ao,Cc,Bd,Ad]at h
 obtain⟨_,_,_,_,⟨_,rfl,rfl⟩,⟨_,_,_,_,⟨c,rfl,rfl⟩,⟨kv,_,_,_,⟨d,rfl,rfl⟩,⟨_,_,_,_,⟨e,rfl,rfl⟩,⟨_,_,_,_,⟨rfl,rfl,rfl⟩,⟨_,_,_,_,⟨rfl,rfl⟩,⟨rfl,rfl,rfl⟩,rfl⟩,rfl⟩,rfl⟩,rfl⟩,rfl⟩,rfl⟩:=h
 refine⟨by simpa using c,.map (some w.heap.size),w.alloc (.map #[] 0),_,?_,Aav (nn:=es.n) (hdr:= .map (some w.heap.size)) (.refl G) hfresh rfl (λk b=>by cases b) (λL=>?_) ?_ (λk b=>?_)⟩
 ·simp[Instr.makeMap]
 ·exact⟨w.heap.size,0, #[],[],Bb,heap_alloc_new w _,O2 d,e,rfl,trivial⟩
 ·exact⟨Bb.symm,w.heap.size,rfl⟩
 ·simpa [Ca,Ax,A5,one]using b
theorem Aii {t:TypeId}{x:Operand}{es2:ES}{vv:VV}{k:Nat}{c d:List PLt}(G:Good P N X ρ K S.tm (cur S es.obs) μ a w)(e:Ev S (rd1 P x t) es vv es2 c)(b:Ev S (Awu vv) es2 k es' d)(g:holds ρ es.gs=some true):
  es=es2/\es=es'/\c= []/\d= []/\a.eval x=μ k/\K k:=by
 obtain⟨rfl,rfl,h,i⟩:=E1 G e g
 unfold Awu at b
 split at b
 ·rename_i j m
  rw[Ad]at b
  obtain⟨rfl,rfl,rfl⟩:=b
  exact⟨rfl,rfl,rfl,rfl,h.1,i k (by simp[Ax,A5])⟩
 ·simp[Ac]at b
theorem Px.key {c:Cx}{x:Arg}{t:TypeId}{v:Value}(h:Px c x t v)(a:Aua c.P t=true)(O:Nat->Prop): ∃iv,x.ev c.ρ=some iv/\Rel c.P c.w O t iv v:=by
 obtain⟨iv,b,d,_⟩:=h
 exact⟨iv,b,d.key a⟩
theorem Ao5 {t:TypeId}{x i:Operand}{ok:Bool}(G:Good P N X ρ K S.tm (cur S es.obs) μ a w)(h:Ev S (Ah8 P t x i ok) es sx es' ls)(A:LH R ρ ls)(T:holds ρ es.gs=some true):
  ∃v,(Instr.lookup t (a.eval x) (a.eval i) ok).run P w= .ok v w/\Out P N X ρ K S μ a w es es' sx μ w v:=by
 unfold Ah8 at h
 rw[Ab]at h
 obtain⟨kv,_,_,_,d,h,rfl⟩:=h
 rw[Ao]at d
 obtain⟨g0,rfl,rfl⟩:=d
 rw[Ab]at h
 obtain⟨_,_,_,_,d,h,rfl⟩:=h
 rw[Af]at d
 obtain⟨F,rfl,rfl⟩:=d
 rw[Ab]at h
 obtain⟨z,_,_,_,d,h,rfl⟩:=h
 rw[Ao]at d
 obtain⟨g2,rfl,rfl⟩:=d
 rw[Ab]at h
 obtain⟨vv,e1,l1,_,h1,h,rfl⟩:=h
 rw[Ab]at h
 obtain⟨k,e2,l2,_,h2,h,rfl⟩:=h
 obtain⟨rfl,rfl,rfl,rfl,hv,hK⟩:=Aii G h1 h2 T
 rw[Ab]at h
 obtain⟨iv,g,l3,_,h3,h,rfl⟩:=h
 have A:=A.right.right.right.right.right
 obtain⟨p,q⟩:=E9 G h3 A.left T
 simp only[aA]at F
 obtain⟨key,U,H⟩:=q.key F.1 (Bh P X ρ (cur S g.obs) μ w).O
 rw[Ab]at h
 obtain⟨o,_,_,l4,d,h,rfl⟩:=h
 rw[Bp]at d
 obtain⟨ho,rfl,rfl⟩:=d
 have A:=A.right.right
 split at h
 ·rename_i t' kt vt c
  rw[Ab]at h
  obtain⟨_,_,_,_,d,h,rfl⟩:=h
  rw[Af]at d
  obtain⟨I,rfl,rfl⟩:=d
  simp only[aA,beq_iff_eq]at I
  obtain⟨⟨e1,e2⟩,I⟩:=I
  subst e1;subst e2
  have A:=A.right
  rw[Ab]at h
  obtain⟨y,_,_,_,d,h,rfl⟩:=h
  rw[Bi]at d
  obtain⟨rfl,rfl,rfl⟩:=d
  rw[Ab]at h
  obtain⟨y,_,_,_,d,h,rfl⟩:=h
  rw[Bi]at d
  obtain⟨rfl,rfl,rfl⟩:=d
  obtain⟨r,cl,ents,ivs,J,L,o3,o4,Y,o6⟩:=p.Cj.obj k _ ho
  have J:μ k= .map (some r):=J
  have L:w.heap[r]?=some (.map ents cl):=L
  have Y:c.ev ρ=some (.list ivs):=Y
  have U:iv.ev ρ=some key:=U
  have Z:holds ρ g.gs=some true:=by rw[p.gs];exact T
  have two: ∀ {pr:Prim} {m:Nat},LH R ρ [⟨m,⟨g.gs,.Bv pr [c,iv]⟩⟩]-> ∃y,pr.ev [.list ivs,key]=some y/\dQ ρ (.v m)=some y:=by
   intro pr m hh
   obtain⟨vs,y,r1,r2,r3⟩:=cA hh Z
   obtain⟨u,v,M,Q,rfl⟩:=Ab8 r1
   rw[Y]at M;rw[U]at Q
   injection M with M;injection Q with Q;subst M;subst Q
   exact⟨y,r2,r3⟩
  obtain⟨y1,r1,t1⟩:=two A.left
  obtain⟨y2,r2,t2⟩:=two A.right.left
  simp only[bV]at r1 r2
  obtain⟨zi,zv,z1,z2,z3⟩:=R1 (w:=w) (O:=(Bh P X ρ (cur S g.obs) μ w).O) g2
  obtain⟨dd,_,hd,B,_⟩:=Lh F.1 H H
  have hd:P.underlying kv.1=some dd:=hd
  have fin: ∀ {v0:Value} {okb:Bool},(Instr.lookup t (a.eval x) (a.eval i) ok).run P w= .ok (if ok then .tuple #[v0,.bool okb]else v0) w->Rel P w (Bh P X ρ (cur S g.obs) μ w).O kv.2 y1 v0->y2= .bool okb->
    ∃v,(Instr.lookup t (a.eval x) (a.eval i) ok).run P w= .ok v w/\Out P N X ρ K S μ a w es es' sx μ w v:=by
   intro v0 okb E hr hy
   subst hy
   refine⟨_,E,?_⟩
   rw[Hr]at h
   rcases h with⟨C,h⟩ | ⟨C,h⟩
   ·rw[Ad]at h
    obtain⟨rfl,rfl,rfl⟩:=h
    rw[if_pos C]
    refine cT (es':= {g with n:=g.n+1+1}) ⟨p.Cj,p.Dv,p.m,p.gs⟩ ⟨_,rfl,⟨y1,t1,hr⟩,⟨.bool okb,t2,.bool (Ce I)⟩,trivial⟩ (λk hk=>by simp[Ca,Ax,A5]at hk)
   ·rw[Ad]at h
    obtain⟨rfl,rfl,rfl⟩:=h
    rw[if_neg C]
    exact cT (es':= {g with n:=g.n+1+1}) ⟨p.Cj,p.Dv,p.m,p.gs⟩ ⟨y1,t1,hr⟩ (Mb _ _)
  rcases Aae (O:=(Bh P X ρ (cur S g.obs) μ w).O) F.1 hd H H ivs ents.toList 0 o6 with⟨m1,m2,m3⟩ | ⟨j,e,b,m1,m2,m3,m4,m5,m6⟩
  ·rw[m1]at r1 r2
   simp only[aJ,aE,dI,Option.isSome_none]at r1 r2
   subst r1;subst r2
   refine fin (v0:=zv) (okb:=false) ?_ z3 rfl
   rw[hv,J]
   simp[Instr.lookup,MapKept.run_getObj_map L,underlying,O2 g0,MapKept.run_checkKey hd B,MapKept.run_findKey hd m2,Result.andThen,zeroValue,typeInfo,z1,z2]
  ·rw[m1]at r1 r2
   simp only[aJ,aE,Option.getD_some,Option.isSome_some]at r1 r2
   subst r1;subst r2
   refine fin (v0:=e.val) (okb:=true) ?_ m5 rfl
   rw[hv,J]
   simp[Instr.lookup,MapKept.run_getObj_map L,underlying,O2 g0,MapKept.run_checkKey hd B,MapKept.run_findKey hd m2,Result.andThen]
 ·simp[Ac]at h
theorem Aau {t:TypeId}{m i x:Operand}(G:Good P N X ρ K S.tm (cur S es.obs) μ a w)(h:Ev S (Rn P t m i x) es sx es' ls)(g:LH R ρ ls)(U:holds ρ es.gs=some true):
  ∃w' μ',(Instr.mapUpdate t (a.eval m) (a.eval i) (a.eval x)).run P w= .ok () w'/\Out P N X ρ K S μ a w es es' sx μ' w' undef:=by
 unfold Rn at h
 rw[Ab]at h
 obtain⟨_,_,_,_,A,h,rfl⟩:=h
 rw[Dh]at A
 obtain⟨_,rfl,rfl⟩:=A
 rw[Ab]at h
 obtain⟨kv,_,_,_,A,h,rfl⟩:=h
 rw[Ao]at A
 obtain⟨g0,rfl,rfl⟩:=A
 rw[Ab]at h
 obtain⟨_,_,_,_,A,h,rfl⟩:=h
 rw[Af]at A
 obtain⟨I,rfl,rfl⟩:=A
 rw[Ab]at h
 obtain⟨vv,e1,l1,_,h1,h,rfl⟩:=h
 rw[Ab]at h
 obtain⟨k,e2,l2,_,h2,h,rfl⟩:=h
 obtain⟨rfl,rfl,rfl,rfl,hv,hK⟩:=Aii G h1 h2 U
 rw[Ab]at h
 obtain⟨iv,e3,l3,_,h3,h,rfl⟩:=h
 have g:=g.right.right.right.right.right
 obtain⟨p,q⟩:=E9 G h3 g.left U
 obtain⟨key,Y,J⟩:=q.key I (λ_=>False)
 have Y:iv.ev ρ=some key:=Y
 have g:=g.right
 have C:holds ρ e3.gs=some true:=by rw[p.gs];exact U
 rw[Ab]at h
 obtain⟨xv,e4,l4,_,h4,h,rfl⟩:=h
 obtain⟨rfl,rfl,h5,h6⟩:=E1 p.Cj h4 C
 have g:=g.right
 rw[Ab]at h
 obtain⟨y,e5,l5,_,h7,h,rfl⟩:=h
 obtain⟨p2,_,d⟩:=D6 p.Cj h7 g.left C h6 h5
 obtain⟨vx,d1,d2⟩:=d rfl
 have d1:y.ev ρ=some vx:=d1
 have g:=g.right
 have pp:=p.trans p2
 have hg'':holds ρ e5.gs=some true:=by rw[p2.gs];exact C
 rw[Ab]at h
 obtain⟨o,_,_,l6,A,h,rfl⟩:=h
 rw[Bp]at A
 obtain⟨ho,rfl,rfl⟩:=A
 split at h
 ·rename_i t' kt vt c
  simp only[Ab,Af,Bi,Bd,Ad]at h
  obtain⟨_,_,_,_,⟨g3,rfl,rfl⟩,⟨_,_,_,_,⟨rfl,rfl,rfl⟩,⟨_,_,_,_,⟨rfl,rfl⟩,⟨rfl,rfl,rfl⟩,rfl⟩,rfl⟩,rfl⟩:=h
  simp only[aA,beq_iff_eq]at g3
  obtain⟨e1,e2⟩:=g3
  subst e1;subst e2
  obtain⟨r,cl,ents,ivs,F,E,o3,o4,Z,o6⟩:=pp.Cj.obj k _ ho
  have F:μ k= .map (some r):=F
  have E:w.heap[r]?=some (.map ents cl):=E
  have Z:c.ev ρ=some (.list ivs):=Z
  obtain⟨vs,z,r1,r2,r3⟩:=cA g.right.right.left hg''
  obtain⟨u,v,s,M,Q,T,rfl⟩:=A6q r1
  rw[Z]at M;rw[Y]at Q;rw[d1]at T
  injection M with M;injection Q with Q;injection T with T;subst M;subst Q;subst T
  simp only[bV]at r2
  obtain⟨dd,_,hd,B,_⟩:=Lh I J J
  have hd:P.underlying kv.1=some dd:=hd
  have q3:=J.key (O':=(Bh P X ρ (cur S e5.obs) μ w).O) I
  have fin: ∀ {ys:List IV} {es2:Array MapEntry} {cl2:Nat},(Instr.mapUpdate t (a.eval m) (a.eval i) (a.eval x)).run P w= .ok () (J8 w r (.map es2 cl2))->Jf P w (Bh P X ρ (cur S e5.obs) μ w).O kv.1 kv.2 ys es2.toList->z= .list ys->
    ∃w' μ',(Instr.mapUpdate t (a.eval m) (a.eval i) (a.eval x)).run P w= .ok () w'/\Out P N X ρ K S μ a w es {e5 with n:=e5.n+1,obs:=(k,some (.mp t' kv.1 kv.2 (.v e5.n)))::e5.obs} (one (.leaf .junk)) μ' w' undef:=by
   intro ys es2 cl2 H hM hz
   subst hz
   refine⟨_,_,H,Up (e1:=e5) pp ho rfl (by rw[F];rfl) (λk hk=>by cases hk) (S2 w r _) (λL=>?_) trivial (λk hk=>by simp[Ca,Ax,A5,one]at hk)⟩
   exact⟨r,cl2,es2,ys,Bb.trans F,Xj E,o3,o4,r3,hM.imp λ_ _ _ h'=>L.rel h'⟩
  rcases Aae (O:=(Bh P X ρ (cur S e5.obs) μ w).O) (kt:=kv.1) I hd J q3 ivs ents.toList 0 o6 with⟨m1,m2,m3⟩ | ⟨j,e,b,m1,m2,m3,m4,m5,m6⟩
  ·rw[m3]at r2
   simp only[aJ,aE]at r2
   refine fin (es2:=ents.push {key:=a.eval i,val:=a.eval x,born:=cl}) (cl2:=cl+1) ?_ ?_ r2.symm
   ·rw[hv,F]
    simp[Instr.mapUpdate,MapKept.run_getObj_map E,underlying,O2 g0,MapKept.run_checkKey hd B,MapKept.run_findKey hd m2,Result.andThen,MapKept.run_setObj_map _ E,J8]
   ·rw[Array.toList_push]
    exact Jf.app ⟨key,vx,rfl,q3,d2⟩ o6
  ·obtain⟨ys,y1,y2⟩:=m6 vx (a.eval x) d2
   rw[y1]at r2
   simp only[aJ,aE]at r2
   refine fin (es2:=ents.modify j λe=> {e with key:=a.eval i,val:=a.eval x}) (cl2:=cl) ?_ ?_ r2.symm
   ·have hj:ents[j]?=some e:=by simpa using m3
    rw[hv,F]
    simp[Instr.mapUpdate,MapKept.run_getObj_map E,underlying,O2 g0,MapKept.run_checkKey hd B,MapKept.run_findKey hd m2,Result.andThen,MapKept.run_setObj_map _ E,J8,hj,m4,MapKept.run_keyThatStays B]
   ·rw[Array.toList_modify];exact y2
 ·simp[Ac]at h
theorem Aos {t st:TypeId}(G:Good P N X ρ K S.tm (cur S es.obs) μ a w)(h:Ev S (Ahc P t st) es sx es' ls)(hfresh: ∀k,es.m<=k->k<es'.m-> ¬ K k):
  ∃v w' μ',(Instr.alloc t true (.tuple #[])).run P w= .ok v w'/\Out P N X ρ K S μ a w es es' sx μ' w' v:=by
 unfold Ahc at h
 simp only[Ab,Dh,Af,Cc,Bd,Ad]at h
 obtain⟨_,_,_,_,⟨_,rfl,rfl⟩,⟨_,_,_,_,⟨b,rfl,rfl⟩,⟨_,_,_,_,⟨rfl,rfl,rfl⟩,⟨_,_,_,_,⟨rfl,rfl⟩,⟨rfl,rfl,rfl⟩,rfl⟩,rfl⟩,rfl⟩,rfl⟩:=h
 simp only[aA,beq_iff_eq]at b
 obtain⟨⟨b,o⟩,q⟩:=b
 have d: ∃i,P.info? t=some i/\i.zero=some (.agg #[.pointer none,.slice none 0 0]):=by
  unfold Aub at b
  split at b
  ·rename_i i e
   split at b
   ·rename_i cs g
    split at b
    ·rename_i r
     refine⟨i,e,?_⟩
     rw[g]
     have:cs= #[.pointer none,.slice none 0 0]:=by
      apply dJ.1;rw[r]
     rw[this]
    ·cases b
   ·cases b
  ·cases b
 obtain⟨i,e,d⟩:=d
 refine⟨.pointer (some ⟨w.heap.size,0,none⟩),w.alloc (.cells #[.pointer none,.slice none 0 0] t),_,?_,Aav (nn:=es.n) (hdr:= .pointer (some ⟨w.heap.size,0,none⟩)) (.refl G) hfresh rfl (λk c=>?_) (λL=>?_) ?_ (λk c=>?_)⟩
 ·simp[Instr.alloc,zeroValue,typeInfo,e,d,newVar,newRow,Value.cells]
 ·simp only[E4,Ax,aC,A5,dK,bS,bO]at c
  exact .inr c
 ·refine⟨w.heap.size,.agg #[.pointer none,.slice none 0 0],Bb,heap_alloc_new w _,?_,?_,?_,?_⟩
  ·show 2=Ag P t
   exact q.symm
  ·show if Ai P t=true then _ else _
   rw[if_pos o];exact⟨_,rfl⟩
  ·intro u j
   simp[Value.cells]at j
   rcases j with rfl | rfl<;>rfl
  ·exact⟨_,rfl,⟨rfl,.inl rfl⟩,⟨rfl,rfl⟩,trivial⟩
 ·exact⟨w.heap.size,Bb,by rw[A6]⟩
 ·simpa [Ca,Ax,A5,Di,one]using c
end
end Go.CT
namespace Go.CT
open EM
section
variable {P:Program}{N:Nat}{X:Nat->Prop}{R:Job->List IV->Option (List IV)}{ρ:List IV}{K:Nat->Prop}{S:View}{μ:Nat->Value}{a:Act}{w:World}{es es':ES}{ls:List PLt}{sx:SX}
theorem Ah9 (s:ByteArray):(B6 s).length =s.size:=by simp[B6]
theorem Asm {O:Nat->Prop}{e:TypeId}(g:P.underlying e=some (.int .u8))(h:Ag P e=1)(s:ByteArray):Gq P w O e (B6 s) (Lib.strCells s):=by
 unfold B6 Lib.strCells
 refine eB (by simp) λj x v c d=>?_
 rw[bE,aQ]at c d
 obtain⟨b,i,rfl⟩:=c
 obtain⟨m,a,rfl⟩:=d
 rw[i]at a;injection a with a;subst a
 exact⟨.int g,by rw[h];rfl⟩
theorem Zx (s:ByteArray):Ba (Lib.strCells s)=Lib.strCells s:=by
 unfold Lib.strCells Ba
 induction s.data.toList with
 | nil=>rfl
 | cons b l a=>simp only[dC,aC,a];rfl
theorem Agy (t u ty e:TypeId)(i:TypeInfo)(F:P.underlying t=some (.slice e))(G:P.underlying u=some .string)(H:P.info? e=some i)(J:i.zero=some (.int .u8 0))(a:i.size=1)(m:i.bytes=1)
  (v:Value) (n:Nat) (xs:List Value) (x:w.ownsRow 0 e 1 v n xs) (s:ByteArray) (o:n+s.size<=140737488355328):
  ∃h w',(Builtin.append_ #[t,u] ty #[v,.string s]).run P w= .ok h w'/\w'.ownsRow 0 e 1 h (n+s.size) (xs++Lib.strCells s)/\w.grownBy w' v.ownBlock/\(h.ownBlock=v.ownBlock\/ ∀b,h.ownBlock=some b->w.heap.size<=b):=by
 have M:n+s.size<=maxLen:=by
  have:maxLen=9223372036854775807:=by decide
  omega
 obtain⟨I,q⟩:=x
 rcases q with⟨rfl,N⟩ | ⟨g,cap,cur,rfl,y,K,z,A,B,c⟩
 ·obtain⟨h,w',C,E,L,Q⟩:=Lib.run_append_own_string (P:=P) w w.heap.size t u ty e i F G H J a m _ n xs ⟨I,.inl ⟨rfl,N⟩⟩ s M o (aK _)
  refine⟨h,w',C,⟨E.1,E.2.imp id fun⟨g,cap,cur,R,a2,a3⟩=>⟨g,cap,cur,R,cB _,a3⟩⟩,L,.inr λb o=>?_⟩
  rcases E.2 with⟨rfl,_⟩ | ⟨g,cap,cur,rfl,a2,_⟩
  ·cases o
  ·simp only[Value.ownBlock,aE]at o
   omega
 ·obtain⟨h,w',C,E,L,Q⟩:=Lib.run_append_own_string (P:=P) w 0 t u ty e i F G H J a m _ n xs ⟨I,.inr ⟨g,cap,cur,rfl,y,K,z,A,B,c⟩⟩ s M o (cB _)
  refine⟨h,w',C,E,L,?_⟩
  by_cases r:n+s.size<=cap
  ·have d:=Lib.run_append_room_string (P:=P) w t u ty e i F G H a g n cap cur K s r (by omega)
   rw[C]at d
   injection d with d
   rw[d];exact .inl rfl
  ·have holds: ∀j u,xs[j]?=some u->w.cell? ((⟨g,0,none⟩:Addr).add j)=some u:=World.ownsRow.cells (w:=w) (base:=0) (e:=e) (size:=1) (n:=n) (v:= .slice (some ⟨g,0,none⟩) n cap) ⟨I,.inr ⟨g,cap,cur,rfl,y,K,z,A,B,c⟩⟩ (g:=g) rfl
   have S:maxLen=9223372036854775807:=by decide
   have d:=Lib.run_append_grow_string (P:=P) w t u ty e i (.int .u8 0) F G H J ⟨g,0,none⟩ n cap xs (by rw[a];exact I) holds s (by omega) (by omega) (by rw[m];exact growslice_fits (by omega) (by omega))
   rw[C]at d
   injection d with d
   rw[d]
   right
   intro b o
   simp only[Value.ownBlock,aE]at o
   omega
theorem Age {st xt rt:TypeId}{s x:Operand}(G:Good P N X ρ K S.tm (cur S es.obs) μ a w)(h:Ev S (Z1 P st xt s x rt) es sx es' ls)(Z:LH R ρ ls)(hg:holds ρ es.gs=some true)(hfresh: ∀k,es.m<=k->k<es'.m-> ¬ K k):
  ∃v w' μ',(Builtin.append_ #[st,xt] rt #[a.eval s,a.eval x]).run P w= .ok v w'/\Out P N X ρ K S μ a w es es' sx μ' w' v:=by
 unfold Z1 at h
 rw[Ab]at h
 obtain⟨_,_,_,_,I,h,rfl⟩:=h
 rw[Dh]at I
 obtain⟨_,rfl,rfl⟩:=I
 rw[Ab]at h
 obtain⟨e,_,_,_,I,h,rfl⟩:=h
 rw[Ao]at I
 obtain⟨he,rfl,rfl⟩:=I
 rw[Ab]at h
 obtain⟨_,_,_,_,I,h,rfl⟩:=h
 rw[Af]at I
 obtain⟨g0,rfl,rfl⟩:=I
 simp only[aA,beq_iff_eq]at g0
 obtain⟨⟨⟨⟨gx,gk⟩,gs1⟩,gb1⟩,gz,gy⟩:=g0
 have g1:0<Ag P e:=by omega
 rw[Ab]at h
 obtain⟨sv,e1,l1,_,J,h,rfl⟩:=h
 obtain⟨rfl,rfl,sv3,sv4⟩:=E1 G J hg
 have Z:=Z.right.right.right.right
 rw[Ab]at h
 obtain⟨y,q,l2,_,H,h,rfl⟩:=h
 obtain⟨p,hB⟩:=E9 G H Z.left hg
 have aa:holds ρ q.gs=some true:=by rw[p.gs];exact hg
 rw[Ab]at h
 obtain⟨⟨old,c⟩,e3,l3,_,L,h,rfl⟩:=h
 obtain⟨⟨U,rfl⟩,ivs,cs,q1,q2,q3,q4,q5⟩:=Pt p.Cj L Z.right.left aa (p.later.Apb sv4 sv3) g1
 simp only[Ab,Bi,Cc,Bd,Ad]at h
 obtain⟨_,_,_,_,⟨rfl,rfl,rfl⟩,⟨_,d,l4,_,F,⟨_,_,_,_,⟨rfl,rfl,rfl⟩,⟨_,_,_,_,⟨rfl,rfl⟩,⟨rfl,rfl,rfl⟩,rfl⟩,rfl⟩,rfl⟩,rfl⟩:=h
 obtain⟨vs,iv,r1,r2,r3⟩:=cA Z.right.right.left aa
 obtain⟨u,v,s1,s2,rfl⟩:=Ab8 r1
 rw[q1]at s1;injection s1 with s1;subst s1
 have ht:=Be he
 have ag:=Cp gk
 obtain⟨str,b1,hx⟩:=hB.text (D4 gx)
 have ah:y.ev ρ=some (.str str):=b1
 rw[ah]at s2;injection s2 with s2;subst s2
 simp only[bV]at r2
 split at r2
 ·rename_i hbytes
  injection r2 with r2;subst r2
  have aq:A4=140737488355328:=rfl
  obtain⟨i,z,z1,z2,z3,z4,z5⟩:=Mz gz
  have ai:z= .int .u8 0:=by
   unfold zeroByte at gy
   rw[z1]at gy
   simp only[z2]at gy
   split at gy
   ·rename_i h';injection h' with h'
   ·cases gy
  generalize ab:B6 str=ys at *
  generalize M:Lib.strCells str=us at *
  have ac:Gq P w (Bh P X ρ (cur S q.obs) μ w).O e ys us:=by rw[<-ab,<-M];exact Asm ag gs1 str
  have aj:Ba us=us:=by rw[<-M];exact Zx str
  have ar:=ac.len
  have ak:ys.length=str.size:=by rw[<-ab];exact Ah9 str
  have run: ∃B w',(Builtin.append_ #[st,xt] rt #[a.eval s,a.eval x]).run P w= .ok B w'/\w'.ownsRow 0 e (Ag P e) B (ivs.length+ys.length) (cs++Ba us)/\w.grownBy w' (a.eval s).ownBlock /\
    (B.ownBlock=(a.eval s).ownBlock \/ ∀b,B.ownBlock=some b->w.heap.size<=b):=by
   rw[hx,aj,<-M,ak,gs1]
   have al:w.ownsRow 0 e 1 (a.eval s) ivs.length cs:=by rw[<-gs1];exact q2
   exact Agy st xt rt e i ht (D4 gx) z1 (by rw[z2,ai]) (by omega) (by omega) _ _ _ al str (by omega)
  obtain⟨B,w',t1,t2,t3,t4⟩:=run
  -- what has become of the state
  obtain⟨A',n',cap',ad⟩: ∃A n c,B= .slice A n c:=by
   rcases t2.2 with⟨h,_⟩ | ⟨g,cap,cu,h,_⟩
   ·exact⟨_,_,_,h⟩
   ·exact⟨_,_,_,h⟩
  have Q:blk B=B.ownBlock:=by rw[ad,Qg]
  -- the old row's block is ours
  have hold: ∀b,(a.eval s).ownBlock =some b-> ∃k t Y,old=some k/\cur S q.obs k=some (.arr e t Y)/\blk (μ k)=some b:=by
   intro b j
   cases old with
   | none=>rw[q4 rfl]at j;simp[Value.ownBlock]at j
   | some k=>
    obtain⟨⟨t,Y,J⟩,H⟩:=q5 k rfl
    exact⟨k,t,Y,rfl,J,by rw[<-H];exact j⟩
  obtain⟨ae,af,ap⟩:cur S d.obs=(match old with | some k=>Bo (cur S q.obs) k none | none=>cur S q.obs)/\d.m=q.m/\d.gs=q.gs:=by
   unfold Pq at F
   cases old with
   | none=>rw[Ad]at F;obtain⟨_,rfl,_⟩:=F;exact⟨rfl,rfl,rfl⟩
   | some k=>
    rw[Bd]at F
    obtain⟨rfl,_⟩:=F
    exact⟨by rw[show({n:=q.n,m:=q.m,gs:=q.gs,obs:=(k,none)::q.obs} :ES).obs =(k,none)::q.obs from rfl]<;>exact Bm ..,rfl,rfl⟩
  have hm: ¬ K d.m:=hfresh d.m (by rw[af,p.m];exact aK _) (bC _)
  have E: ∀k o,cur S d.obs k=some o->cur S q.obs k=some o/\old≠some k:=by
   intro k o C
   rw[ae]at C
   cases old with
   | none=>exact⟨C,by simp⟩
   | some k0=>
    simp only[Bo]at C
    split at C
    ·cases C
    ·rename_i T
     exact⟨C,by simpa using λh=>T h.symm⟩
  have hP:Put P X ρ K (cur S q.obs) (Bo (cur S d.obs) d.m (some (.arr e st (.v U)))) μ w w' d.m (.arr e st (.v U)) B:=
   {
    other:=λr o' h C=>(E r o' (by simpa [Bo,h]using C)).1
    here:=by simp[Bo]
    same:=λr h=>Cy (λe=>hm (e ▸ h))
    step:=⟨t3.os,t3.tape,t3.output,t3.size,λb j hW=>t3.block b j (λh=>by
     obtain⟨k,t,Y,_,H,L⟩:=hold b h.symm
     exact hW ⟨k,_,H,rfl,L⟩)⟩
    rest:=λr o' b h C hi j=>by
     obtain⟨J,H⟩:=E r o' (by simpa [Bo,h]using C)
     refine t3.block b (p.Cj.Mg J hi j) (λam=>?_)
     obtain⟨k,t,Y,L,F,h5⟩:=hold b am.symm
     have:=p.Cj.sep r k _ _ b J F hi rfl j h5
     subst this
     exact H L
    new:=λb j=>by
     rw[Q]at j
     rcases t4 with h | h
     ·rw[h]at j
      obtain⟨k,t,Y,L,F,h5⟩:=hold b j
      refine .inl ⟨⟨k,_,F,rfl,h5⟩,λr o' T C hi an=>?_⟩
      obtain⟨J,H⟩:=E r o' (by simpa [Bo,T]using C)
      have:=p.Cj.sep r k _ _ b J F hi rfl an h5
      subst this
      exact H L
     ·exact .inr (h b j)
    keys:=λr h=>by simp[E4]at h}
  obtain⟨vs0,w1,w2⟩:=q3.Apa (by
   have:=q2.1
   omega)
  have hE:Gq P w (Bh P X ρ (cur S q.obs) μ w).O e (ivs++ys) (vs0++us):=w1.append ac
  have ao:Ae3 (Bh P X ρ (Bo (cur S d.obs) d.m (some (.arr e st (.v U)))) (Db μ d.m B) w') d.m (.arr e st (.v U)):=by
   refine⟨ivs++ys,cs++Ba us,r3,ht,g1,?_,hP.later.elems ?_,?_⟩
   ·show World.ownsRow _ 0 e (Ag P e) (Db μ d.m B d.m) _ _
    rw[Bb,aV]
    exact t2
   ·rw[w2,<-D7]
    exact hE.elems
   ·rw[w2,<-D7]
    exact Ei λv hv=>(hE.size v hv).2
  have hK: ∀r,K r\/r=d.m->As K es.m (d.m+1) r:=by
   rintro r (h | rfl)
   ·exact .inl h
   ·exact .inr ⟨by rw[af,p.m];exact aK _,bC _⟩
  refine⟨B,w',Db μ d.m B,t1,?_,?_,?_,?_,?_,hP.same⟩
  ·show Good P N X ρ (As K es.m (d.m+1)) S.tm (cur S ((d.m,some (.arr e st (.v U)))::d.obs)) _ a _
   rw[Bm]
   exact hP.Cj p.Cj ao hK
  ·exact⟨Bb.symm,_,_,_,ad⟩
  ·intro k h
   simp[Ca,Ax,A5,one]at h
   subst h
   exact hK _ (.inr rfl)
  ·have:=hP.step
   exact⟨this.os,this.tape,this.output,this.size,λb j hW=>this.stays b j λh=>hW (p.Dv.wr h)⟩
  ·intro b j
   have j:Wr (cur S ((d.m,some (.arr e st (.v U)))::d.obs)) _ b:=j
   rw[Bm]at j
   exact(hP.own p.Cj b j).imp p.Dv.wr id
 ·cases r2
end
end Go.CT
namespace Go.CT
open EM
section
variable {P:Program}{N:Nat}{X:Nat->Prop}{R:Job->List IV->Option (List IV)}{ρ:List IV}{K:Nat->Prop}{S:View}{μ:Nat->Value}{a:Act}{w:World}{es es':ES}{ls:List PLt}{sx:SX}
theorem Afm {b:Nat}{c d:Arg}{xs ys:List IV}{vs:List IV}{y:IV}(h:c.ev ρ=some (.list xs))(hd:d.ev ρ=some (.list ys))(i:bP ρ [c,d]=some vs)(a:bV (.append b) vs=some y):y= .list (xs++ys):=by
 obtain⟨u,v,e,g,rfl⟩:=Ab8 i
 rw[h]at e;rw[hd]at g
 injection e with e;injection g with g
 subst e;subst g
 simp only[bV]at a
 split at a
 ·injection a with a;exact a.symm
 ·cases a
theorem A3t {c:Arg}{xs:List IV}{vs:List IV}{y:IV}(d:c.ev ρ=some (.list xs))(e:bP ρ [c]=some vs)(b:bV .len vs=some y):y= .int xs.length:=by
 obtain⟨u,a,rfl⟩:=Apf e
 rw[d]at a
 injection a with a
 subst a
 simp only[bV,aE]at b
 exact b.symm
set_option maxHeartbeats 4000000 in
theorem Xa {st xt rt:TypeId}{s x:Operand}{k:Nat}{hi lo E:Arg}{t1 t2:TypeId}(G:Good P N X ρ K S.tm (cur S es.obs) μ a w)(h:Ev S (O9 P st xt k hi t1 lo E t2 rt) es sx es' ls)(hl:LH R ρ ls)(C:holds ρ es.gs=some true)
  (hs:K0 (Bh P X ρ (cur S es.obs) μ w) (.leaf (.sub k (.k (.int 0)) hi t1)) (a.eval s)) (hx:K0 (Bh P X ρ (cur S es.obs) μ w) (.leaf (.sub k lo E t2)) (a.eval x)):
  ∃v w' μ',(Builtin.append_ #[st,xt] rt #[a.eval s,a.eval x]).run P w= .ok v w'/\Out P N X ρ K S μ a w es es' sx μ' w' v:=by
 unfold O9 at h
 rw[Ab]at h
 obtain⟨_,_,_,_,q,h,rfl⟩:=h
 rw[Dh]at q
 obtain⟨_,rfl,rfl⟩:=q
 rw[Ab]at h
 obtain⟨e,_,_,_,q,h,rfl⟩:=h
 rw[Ao]at q
 obtain⟨he,rfl,rfl⟩:=q
 rw[Ab]at h
 obtain⟨_,_,_,_,q,h,rfl⟩:=h
 rw[Af]at q
 obtain⟨g1,rfl,rfl⟩:=q
 simp only[aA,decide_eq_true_eq,beq_iff_eq]at g1
 obtain⟨⟨⟨⟨⟨⟨g1,g2⟩,rfl⟩,g4⟩,gt1⟩,gt2⟩,gt3⟩:=g1
 rw[Ab]at h
 obtain⟨o,_,_,l2,q,h,rfl⟩:=h
 rw[Bp]at q
 obtain⟨ho,rfl,rfl⟩:=q
 cases o with
 | box=>simp[Ac]at h
 | frz=>simp[Ac]at h
 | iter=>simp[Ac]at h
 | mp=>simp[Ac]at h
 | arr e' tt c=>
  simp only[Ab,Af,Bi,Bd,Ad]at h
  obtain⟨_,_,_,_,⟨g5,rfl,rfl⟩,⟨_,_,_,_,⟨rfl,rfl,rfl⟩,⟨_,_,_,_,⟨rfl,rfl,rfl⟩,⟨_,_,_,_,⟨rfl,rfl,rfl⟩,⟨_,_,_,_,⟨rfl,rfl,rfl⟩,⟨_,_,_,_,⟨rfl,rfl,rfl⟩,⟨_,_,_,_,⟨rfl,rfl,rfl⟩,⟨_,_,_,_,⟨rfl,rfl,rfl⟩,⟨_,_,_,_,⟨rfl,rfl,rfl⟩,
   ⟨_,_,_,_,⟨rfl,rfl⟩,⟨rfl,rfl,rfl⟩,rfl⟩,rfl⟩,rfl⟩,rfl⟩,rfl⟩,rfl⟩,rfl⟩,rfl⟩,rfl⟩,rfl⟩:=h
  have:e=e':=by simpa using g5
  subst this
  obtain⟨ivs,cs,F,q2,q3,q4,q5,q6⟩:=G.obj k _ ho
  have F:c.ev ρ=some (.list ivs):=F
  have L0:=hl.right.right.right.right.right
  have L1:=L0.right
  have L2:=L1.right
  have L3:=L2.right
  have L4:=L3.right
  have L5:=L4.right
  have L6:=L5.right
  have L7:=L6.right
  -- the parts
  obtain⟨A,n,cap,l0,r,e0,m0,m1,m2,m3,m4,m5,t⟩:=hs
  have m1:μ k= .slice A n cap:=m1
  have m2:(Arg.k (.int 0)).ev ρ=some (.int (l0:Nat)):=m2
  simp only[dQ,aE,IV.int.injEq]at m2
  have aj:l0=0:=by omega
  subst aj
  have m3:hi.ev ρ=some (.int (r:Nat)):=m3
  obtain⟨A',n',cap',l,h,e1,b0,b1,b2,b3,b4,b5,T⟩:=hx
  have b1:μ k= .slice A' n' cap':=b1
  rw[m1]at b1;injection b1 with i1 i2 i3
  subst i1;subst i2;subst i3
  have b2:lo.ev ρ=some (.int (l:Nat)):=b2
  have b3:E.ev ρ=some (.int (h:Nat)):=b3
  have m0:P.underlying t1=some (.slice e0):=m0
  rw[Be gt1]at m0;injection m0 with m0;injection m0 with m0;subst m0
  have b0:P.underlying t2=some (.slice e1):=b0
  rw[Be gt2]at b0;injection b0 with b0;injection b0 with b0;subst b0
  -- the lets
  obtain⟨vs0,y0,ak,al,_⟩:=cA L0.left C
  obtain⟨s1,s2⟩:=N0 (j:=0) F rfl ak al
  have bl:=toNat_lt s1 s2
  obtain⟨vs1,y1,am,an,_⟩:=cA L1.left C
  obtain⟨_,c1,c2,c3⟩:=Ip F m3 b2 am an
  obtain⟨vs2,y2,ao,ap,U⟩:=cA L2.left C
  obtain⟨rfl,_,c4,c5⟩:=Ip (l:=0) F rfl m3 ao ap
  obtain⟨vs3,y3,aq,ar,Y⟩:=cA L3.left C
  obtain⟨rfl,_,c6,c7⟩:=Ip F b2 b3 aq ar
  simp only[cE,Int.toNat_zero,List.drop_zero]at U Y
  obtain⟨vs4,y4,au,av,Z⟩:=cA L4.left C
  obtain rfl:=Afm U Y au av
  obtain⟨vs5,y5,aw,ax,H⟩:=cA L5.left C
  obtain rfl:=A3t Z aw ax
  obtain⟨vs6,y6,ay,az,ba⟩:=cA L6.left C
  obtain⟨rfl,_,c8⟩:=Zb F H ay az
  obtain⟨vs7,y7,bb,bc,I⟩:=cA L7.left C
  obtain rfl:=Afm Z ba bb bc
  have bn:r<=ivs.length:=by omega
  have bo:l<=ivs.length:=by omega
  have bd:h<=ivs.length:=by omega
  have bp:r<=l:=by omega
  have hlen:(ivs.take r++(ivs.take h).drop l).length =r+(h - l):=by
   rw[aV,bL,bM,bL];omega
  rw[hlen]at H I
  simp only[cE,List.take_length]at I
  obtain⟨w1,q4⟩:=q4
  rcases q4 with⟨_,q4⟩ | ⟨g,cap',cu,f1,f2,f3,f4,f5,f6,f7⟩
  ·omega
  have aa:μ k= .slice (some ⟨g,0,none⟩) ivs.length cap':=f1
  rw[m1]at aa;injection aa with i1 i2 i3
  subst i1;subst i2;subst i3
  have f3:w.heap[g]?=some (.cells cu e (0,0)):=f3
  have w1:cs.length=ivs.length * Ag P e:=w1
  have q5:Ja P w (Bh P X ρ (cur S es.obs) μ w).O e ivs cs:=q5
  obtain⟨us,hE,rfl⟩:=q5.Apa w1
  have f6:cu.size=cap * Ag P e:=f6
  have f7:cu.toList.take (ivs.length * Ag P e)=Ba us:=f7
  have bm:ivs.length * Ag P e<=cu.size:=by rw[f6];exact aW _ f4
  obtain⟨i,z,z1,z2,z3,z4,z5⟩:=Mz g4
  have y:=λa b=>(hE.size a b).1
  have be:us.length=ivs.length:=hE.len.symm
  have hy:Gq P w (Bh P X ρ (cur S es.obs) μ w).O e ((ivs.take h).drop l) ((us.take h).drop l):=((hE.cut h).1.cut l).2
  have bf:((us.take h).drop l).length =h - l:=by rw[bM,bL];omega
  have ab: ∀v∈(us.take h).drop l,v.cells.size=Ag P e:=λv t=>(hy.size v t).1
  have d:(Ba ((us.take h).drop l)).length =(h - l) * Ag P e:=by rw[Dc ab,bf]
  have bg:Ba ((us.take h).drop l)=((Ba us).take (h * Ag P e)).drop (l * Ag P e):=by
   rw[(Jn (us:=us.take h) (λv t=>y v (List.mem_of_mem_take t)) l).2,(Jn y h).1]
  have t2:Gq P w (Bh P X ρ (cur S es.obs) μ w).O e (ivs.take r++(ivs.take h).drop l++ivs.drop (r+(h - l))) (us.take r++(us.take h).drop l++us.drop (r+(h - l))):=
   ((hE.cut r).1.app hy).app (hE.cut _).2
  have bq:(Ba us).length =ivs.length * Ag P e:=by rw[Dc y,be]
  have e3:r * Ag P e+(h - l) * Ag P e=(r+(h - l)) * Ag P e:=by rw[bZ]
  have hh:(r+(h - l)) * Ag P e<=ivs.length * Ag P e:=aW _ (by omega)
  have J:Ba (us.take r++(us.take h).drop l++us.drop (r+(h - l)))=(Ba us).take (r * Ag P e)++Ba ((us.take h).drop l)++(Ba us).drop (r * Ag P e+(Ba ((us.take h).drop l)).length):=by
   rw[D7,D7,(Jn y r).1,(Jn y _).2,d,e3]
  have ac:(ivs.take r++(ivs.take h).drop l++ivs.drop (r+(h - l))).length =ivs.length:=by
   rw[aV,hlen,bM];omega
  have ae: ∀v∈Ba ((us.take h).drop l),v.oneCell'=true:=Ei λv t=>(hy.size v t).2
  have af:=run_storeCells_at (P:=P) g (r * Ag P e) e (Ba ((us.take h).drop l)) 0 cu w f3 (by rw[d];omega) ae
  simp only[cK]at af
  have B: ¬ cap=0:=by omega
  have bh:a.eval s= .slice (some ⟨g,0,none⟩) r cap:=by
   rw[t,if_neg B]
   simp[Lw]
  have ag:(Builtin.append_ #[st,st] rt #[a.eval s,a.eval x]).run P w= .ok (.slice (some ⟨g,0,none⟩) (r+(h - l)) cap) (w.setRow g (cu.toList.take (r * Ag P e)++Ba ((us.take h).drop l)++cu.toList.drop (r * Ag P e+(Ba ((us.take h).drop l)).length)).toArray):=by
   obtain⟨ad,bi,hcells⟩: ∃ad:Addr,a.eval x= .slice (some ad) (h - l) (cap - l)/\ ∀j u,(Ba ((us.take h).drop l))[j]?=some u->w.cell? (ad.add j)=some u:=by
    by_cases ah:cap=l
    ·refine⟨⟨g,0,none⟩,by rw[T,if_pos ah],λj u Q=>?_⟩
     have:h - l=0:=by omega
     rw[this,dF]at d
     have:=cC.1 d
     rw[this]at Q;simp at Q
    ·refine⟨⟨g,l * Ag P e,none⟩,by rw[T,if_neg ah];simp only[aJ,Lw];rfl,λj u Q=>?_⟩
     have bj:=(aM.1 Q).1
     rw[d]at bj
     have e4:l * Ag P e+(h - l) * Ag P e=h * Ag P e:=by rw[<-bZ];congr 1;omega
     have br:h * Ag P e<=ivs.length * Ag P e:=aW _ bd
     rw[bg,cL,bN,if_pos (by omega),<-f7,bN,if_pos (by omega),Array.getElem?_toList]at Q
     rw[Addr.add_lit]
     simp[World.cell?,f3,Q]
   have bk:=run_firstCells_some (P:=P) w (Ag P e) (h - l) ad (h - l) (cap - l) (Ba ((us.take h).drop l)) d hcells
   have M:r+(h - l)<=cap:=by omega
   have hu:(underlying st).run P w= .ok (.slice e) w:=by simp[underlying,Be he]
   rw[bh,bi]
   simp[Builtin.append_,hu,sizeOf,typeInfo,z1,z4,Builtin.lenOf,M,bk,Addr.add_lit,af]
  refine⟨_,_,Db μ k (μ k),ag,?_⟩
  have O1:=Qd (nn:=es.n+8) (val:=undef) (e1:=es) (.refl G) ho rfl (show blk (μ k)=some g by rw[m1];rfl) (o':= .arr e tt (.v (es.n+1+1+1+1+1+1+1))) (cs:=(cu.toList.take (r * Ag P e)++Ba ((us.take h).drop l)++cu.toList.drop (r * Ag P e+(Ba ((us.take h).drop l)).length)).toArray) (λk' hk=>by cases hk) (λL=>by
   refine⟨_,Ba (us.take r++(us.take h).drop l++us.drop (r+(h - l))),I,q2,q3,⟨?_,.inr ⟨g,cap,_,?_,cB _,setRow_heap w g cu _ e (0,0) f3,by omega,f5,?_,?_⟩⟩,(Gq.later L t2).elems,Ei λv t=>(t2.size v t).2⟩
   ·rw[Dc λv t=>(t2.size v t).1,<-t2.len];rfl
   ·show Db μ k (μ k) k=_
    rw[Bb,m1,ac]
   ·have:=I7 (cs:=cu.toList) (new:=Ba ((us.take h).drop l)) (off:=r * Ag P e) (by rw[d,aN];omega)
    rw[aN]at this
    exact this.trans f6
   ·rw[dB,ac]
    have:=Pn (cs:=cu.toList) (new:=Ba ((us.take h).drop l)) (p:=r * Ag P e) (m:=ivs.length * Ag P e) (by rw[d];omega) (by rw[aN];omega)
    rw[J,<-f7];exact this)
  refine⟨O1.Cj,?_,λk' ai=>?_,O1.step,O1.own,O1.keep⟩
  ·refine⟨some ⟨g,0,none⟩,ivs.length,cap,0,r+(h - l),e,Be gt3,?_,rfl,H,by omega,by omega,?_⟩
   ·show Db μ k (μ k) k=_
    rw[Bb,m1]
   ·rw[if_neg B];simp[Lw]
  ·simp[Ca,Ax,A5,one]at ai
   subst ai
   exact .inl (G.ko k' _ ho).1
end
end Go.CT
namespace Go.CT
open EM
section
variable {P:Program}{N:Nat}{X:Nat->Prop}{R:Job->List IV->Option (List IV)}{ρ:List IV}{K:Nat->Prop}{S:View}{μ:Nat->Value}{a:Act}{w:World}{es es':ES}{ls:List PLt}{sx:SX}
theorem Aoz {t e:TypeId}{A:Option Addr}{n cap l h m:Nat}{lo:Option Value}{k1 k2:IntKind}(c:P.underlying t=some (.slice e))(d:0<Ag P e)(a:Ix lo 0 l)(g:l<=h)(q:h<=m)(r:m<=cap):
  ∃v,(Instr.sliceAt t (.slice A n cap) lo (some (.int k1 h)) (some (.int k2 m))).run P w= .ok v w:=by
 obtain⟨i,b⟩:=D8 d
 unfold Instr.sliceAt Instr.slice
 simp only[underlying,Sem.run_bind,run_program,Result.andThen_ok,c,Sem.run_pure]
 have j:(Instr.sliceBounds true n cap lo (some (.int k1 h)) (some (.int k2 m))).run P w= .ok (l,h,m) w:=by
  unfold Instr.sliceBounds
  rcases a with⟨rfl,rfl⟩ | ⟨o,rfl⟩
  ·simp[run_sliceBound (P:=P) (w:=w) (k:=k2) (n:=(m:Int)) (y:=cap) (bJ _) (by omega),run_sliceBound (P:=P) (w:=w) (k:=k1) (n:=(h:Int)) (y:=m) (bJ _) (by omega)]
  ·simp[run_sliceBound (P:=P) (w:=w) (k:=k2) (n:=(m:Int)) (y:=cap) (bJ _) (by omega),run_sliceBound (P:=P) (w:=w) (k:=k1) (n:=(h:Int)) (y:=m) (bJ _) (by omega),
    run_sliceBound (P:=P) (w:=w) (k:=o) (n:=(l:Int)) (y:=h) (bJ _) (by omega)]
 rw[j]
 simp[run_sizeOf b]
theorem Anz {t:TypeId}{x:Operand}{lo H mx:Option Operand}(G:Good P N X ρ K S.tm (cur S es.obs) μ a w)(h:Ev S (Ag6 P t x lo H mx) es sx es' ls)(g:LH R ρ ls)(i:holds ρ es.gs=some true):
  ∃v,(Instr.sliceAt t (a.eval x) (lo.map a.eval) (H.map a.eval) (mx.map a.eval)).run P w= .ok v w/\Out P N X ρ K S μ a w es es' sx μ w v:=by
 unfold Ag6 at h
 rw[Ab]at h
 obtain⟨xv,e1,l1,_,Y,h,rfl⟩:=h
 obtain⟨rfl,rfl,Z,h4⟩:=E1 G Y i
 rw[Ab]at h
 obtain⟨l,I,l2,_,h2,h,rfl⟩:=h
 obtain⟨rfl,rfl,o1⟩:=Jm G h2 i
 rw[Ab]at h
 obtain⟨hh,e3,J,_,h5,h,rfl⟩:=h
 obtain⟨rfl,rfl,o2⟩:=Jm G h5 i
 rw[Ab]at h
 obtain⟨mm,e3,J,_,h6,h,rfl⟩:=h
 obtain⟨rfl,rfl,o3⟩:=Jm G h6 i
 have g:=g.right.right.right.right
 obtain⟨ln,r,blo⟩:=A6x o1
 cases u:P.underlying t with
 | none=>simp[u,Ac]at h
 | some d=>
 simp only[u]at h
 cases d with
 | slice e=>
  rw[Ab]at h
  obtain⟨_,_,_,_,L,h,rfl⟩:=h
  rw[Af]at L
  obtain⟨M,rfl,rfl⟩:=L
  simp only[decide_eq_true_eq]at M
  have g:=g.right
  split at h
  ·rename_i k0 t0 hA mA
   rcases o2 with⟨_,b⟩ | ⟨hx,hy,z,hk,rfl,b,j,B⟩
   ·cases b
   injection b with b;subst b
   rcases o3 with⟨_,b⟩ | ⟨mx',my,mn,mk,rfl,b,C,E⟩
   ·cases b
   injection b with b;subst b
   obtain⟨F,_⟩:=Z
   have F:a.eval x=μ k0:=F
   rw[Ab]at h
   obtain⟨o,_,_,J,q,h,rfl⟩:=h
   rw[Bp]at q
   obtain⟨q,rfl,rfl⟩:=q
   have g:=g.right
   cases o with
   | box=>simp[Ac]at h
   | iter=>simp[Ac]at h
   | mp=>simp[Ac]at h
   | frz=>simp[Ac]at h
   | arr e' tt c=>
    simp only[Ab,Af,Bi,Ad]at h
    obtain⟨_,_,_,_,⟨g2,rfl,rfl⟩,⟨_,_,_,_,⟨rfl,rfl,rfl⟩,⟨_,_,_,_,⟨rfl,rfl,rfl⟩,⟨rfl,rfl,rfl⟩,rfl⟩,rfl⟩,rfl⟩:=h
    have:e=e':=by simpa using g2
    subst this
    obtain⟨ivs,A,cap,Q,q2,q3,q4,q5⟩:=G.Apl q
    obtain⟨vs,y,r1,r2,_⟩:=cA g.right.left i
    obtain⟨_,p1,p2,p3⟩:=Ip Q r j r1 r2
    obtain⟨vs,y,r1,r2,_⟩:=cA g.right.right.left i
    obtain⟨_,p4,p5,p6⟩:=Ip Q j C r1 r2
    have T:=q3.1
    obtain⟨v,U⟩:=Aoz (P:=P) (w:=w) (A:=A) (n:=ivs.length) (cap:=cap) (l:=ln.toNat) (h:=z.toNat) (m:=mn.toNat) (k1:=hk) (k2:=mk) u M (blo p1) (by omega) (by omega) (by omega)
    have e1:((z.toNat:Nat):Int)=z:=by omega
    have I:((mn.toNat:Nat):Int)=mn:=by omega
    rw[e1,I]at U
    rw[F,q2,aJ,aJ,B,E]
    exact⟨v,U,cT (es':= {es with n:=es.n+1+1}) (.same G rfl rfl rfl) trivial (λk hm=>by simp[Ca,Ax,A5,one]at hm)⟩
  ·simp[Ac]at h
 | _=>simp[Ac]at h
theorem Aeb {t J:TypeId}{x:Operand}{m:Nat}{C:Arg}{lo L:Option Operand}(G:Good P N X ρ K S.tm (cur S es.obs) μ a w)(h:Ev S (T9 P t m J lo L) es sx es' ls)(b:LH R ρ ls)(E:holds ρ es.gs=some true)
  (Z:K0 (Bh P X ρ (cur S es.obs) μ w) (.leaf (.sub m (.k (.int 0)) C J)) (a.eval x)) (h4:K m):
  ∃v,(Instr.sliceAt t (a.eval x) (lo.map a.eval) (L.map a.eval) none).run P w= .ok v w/\Out P N X ρ K S μ a w es es' sx μ w v:=by
 unfold T9 at h
 rw[Ab]at h
 obtain⟨l,e2,l2,_,h2,h,rfl⟩:=h
 obtain⟨rfl,rfl,o1⟩:=Jm G h2 E
 rw[Ab]at h
 obtain⟨hh,e3,l3,_,h5,h,rfl⟩:=h
 obtain⟨rfl,rfl,o2⟩:=Jm G h5 E
 have b:=b.right.right
 obtain⟨ln,g,blo⟩:=A6x o1
 cases q:P.underlying t with
 | none=>simp[q,Ac]at h
 | some d=>
 simp only[q]at h
 cases d with
 | slice e=>
  rw[Ab]at h
  obtain⟨_,_,_,_,M,h,rfl⟩:=h
  rw[Af]at M
  obtain⟨u,rfl,rfl⟩:=M
  simp only[aA,decide_eq_true_eq,beq_iff_eq]at u
  obtain⟨u,gt⟩:=u
  have b:=b.right
  split at h
  ·rename_i hA
   rcases o2 with⟨_,i⟩ | ⟨hx,hy,z,hk,rfl,i,j,F⟩
   ·cases i
   injection i with i;subst i
   rw[Ab]at h
   obtain⟨o,_,_,l3,B,h,rfl⟩:=h
   rw[Bp]at B
   obtain⟨B,rfl,rfl⟩:=B
   have b:=b.right
   cases o with
   | box=>simp[Ac]at h
   | iter=>simp[Ac]at h
   | mp=>simp[Ac]at h
   | frz=>simp[Ac]at h
   | arr e' tt c=>
    simp only[Ab,Af,Bi,Ad]at h
    obtain⟨_,_,_,_,⟨g2,rfl,rfl⟩,⟨_,_,_,_,⟨rfl,rfl,rfl⟩,⟨rfl,rfl,rfl⟩,rfl⟩,rfl⟩:=h
    have:e=e':=by simpa using g2
    subst this
    obtain⟨ivs,A,cap,q1,Q,q3,q4,q5⟩:=G.Apl B
    obtain⟨vs,y,r1,r2,_⟩:=cA b.right.left E
    obtain⟨_,p1,p2,p3⟩:=Ip q1 g j r1 r2
    have T:=q3.1
    obtain⟨A',n',cap',U,r,e0,m0,m1,m2,m3,m4,m5,hv⟩:=Z
    have m1:μ m= .slice A' n' cap':=m1
    rw[Q]at m1;injection m1 with i1 i2 i3
    subst i1;subst i2;subst i3
    have m2:(Arg.k (.int 0)).ev ρ=some (.int (U:Nat)):=m2
    simp only[dQ,aE,IV.int.injEq]at m2
    have H:U=0:=by omega
    subst H
    have I:a.eval x= .slice A r cap:=by
     rw[hv]
     simp only[dF,Nat.sub_zero]
     split
     ·rfl
     ·congr 1
      cases A with
      | none=>rfl
      | some ad=>simp[A6]
    have hb:Ix (Option.map a.eval (some hx)) r z.toNat:= .inr ⟨hk,by rw[aJ,F];congr 2;omega⟩
    rw[I]
    refine⟨_,Hu q u (blo p1) hb (by omega) (by omega),cT (es':= {es with n:=es.n+1}) (.same G rfl rfl rfl) ?_ (λk Y=>?_)⟩
    ·refine⟨A,ivs.length,cap,ln.toNat,z.toNat,e,q,Q,?_,?_,by omega,by omega,rfl⟩
     ·rw[show((ln.toNat:Nat):Int)=ln by omega];exact g
     ·rw[show((z.toNat:Nat):Int)=z by omega];exact j
    ·simp[Ca,Ax,A5,one]at Y
     subst Y
     exact h4
  ·simp[Ac]at h
 | _=>simp[Ac]at h
theorem Ada {t:TypeId}{x:Operand}{lo d mx:Option Operand}(G:Good P N X ρ K S.tm (cur S es.obs) μ a w)(h:Ev S (Wv P t x lo d mx) es sx es' ls)(c:LH R ρ ls)(b:holds ρ es.gs=some true):
  ∃v,(Instr.sliceAt t (a.eval x) (lo.map a.eval) (d.map a.eval) (mx.map a.eval)).run P w= .ok v w/\Out P N X ρ K S μ a w es es' sx μ w v:=by
 unfold Wv at h
 split at h
 ·exact Anz G h c b
 ·rw[Ab]at h
  obtain⟨xv,e1,m,_,e,h,rfl⟩:=h
  obtain⟨rfl,rfl,g,i⟩:=E1 G e b
  split at h
  ·rename_i k j o
   exact Aeb G h c.right b g (i k (by simp[Ax,A5]))
  ·exact As7 G h c.right b
theorem An1 {ne:Bool}{t e:TypeId}{x y:Operand}{A:Option Addr}{n c:Nat}(b:P.underlying t=some (.slice e)):
  (do eqGuard (if ne then .neq else .eql) t x y (.slice A n c) (.slice none 0 0);binOp (if ne then .neq else .eql) t (.slice A n c) (.slice none 0 0):Sem Value).run P w= .ok (.bool (if ne then !A.isNone else A.isNone)) w:=by
 have key: ∀d,(Op.equalIn (d+1) t (.slice A n c) (.slice none 0 0)).run P w= .ok A.isNone w:=by
  intro d
  have g:(underlying t).run P w= .ok (.slice e) w:=by simp[underlying,b]
  unfold Op.equalIn
  rw[Sem.run_bind,g]
  cases A<;>rfl
 have e:Op.equal t (.slice A n c) (.slice none 0 0)=Op.equalIn (9999+1) t (.slice A n c) (.slice none 0 0):=rfl
 have a:(Op.equalIn 10000 t (.slice A n c) (.slice none 0 0)).run P w= .ok A.isNone w:=key 9999
 cases ne
 ·simp[eqGuard,binOp,e,a]
 ·simp[eqGuard,binOp,e,a]
theorem Atc {ne:Bool}{xt rt:TypeId}{x:Operand}(G:Good P N X ρ K S.tm (cur S es.obs) μ a w)(h:Ev S (Bcb P ne xt x rt) es sx es' ls)(I:LH R ρ ls)(r:holds ρ es.gs=some true):
  ∃v,(do eqGuard (if ne then .neq else .eql) xt x (.const (.slice none 0 0)) (a.eval x) (.slice none 0 0);binOp (if ne then .neq else .eql) xt (a.eval x) (.slice none 0 0):Sem Value).run P w= .ok v w/\Out P N X ρ K S μ a w es es' sx μ w v:=by
 unfold Bcb at h
 rw[Ab]at h
 obtain⟨xv,e1,l1,_,Q,h,rfl⟩:=h
 obtain⟨rfl,rfl,T,h4⟩:=E1 G Q r
 split at h
 ·rename_i c t
  simp only[Ab,Af,Bi,Ad]at h
  obtain⟨_,_,_,_,⟨m,rfl,rfl⟩,⟨_,_,_,_,⟨rfl,rfl,rfl⟩,⟨_,_,_,_,⟨rfl,rfl,rfl⟩,⟨rfl,rfl,rfl⟩,rfl⟩,rfl⟩,rfl⟩:=h
  simp only[aA]at m
  obtain⟨⟨m,J⟩,U⟩:=m
  obtain⟨e,Y⟩:=bK.1 m
  obtain⟨e9,y⟩:=bK.1 U
  obtain⟨⟨iv,d1,d2⟩,ys,A,cap,o,z,Z⟩:=T
  have o:c.ev ρ=some (.list ys):=o
  have d1:c.ev ρ=some iv:=d1
  rw[o]at d1;injection d1 with d1;subst d1
  obtain⟨vs1,y1,B,C,E⟩:=cA I.right.right.left r
  obtain rfl:=A3t o B C
  obtain⟨vs2,y2,F,b,g⟩:=cA I.right.right.right.left r
  obtain⟨u,v,q,s2,rfl⟩:=Ab8 F
  rw[E]at q;injection q with q;subst q
  have d:some (IV.int 0)=some v:=s2
  injection d with d;subst d
  obtain⟨aa,A',cap',e1,L,i⟩:=d2.Cl (Be Y)
  injection e1 with e1;subst e1
  rw[z]at L;injection L with i1 i2 i3
  subst i1
  have hA:A.isNone=decide ((ys.length:Int)=0):=by
   by_cases H:ys= []
   ·have:=Z H
    rw[z]at this;injection this with j1
    subst j1;subst H;rfl
   ·have j:0<ys.length:=List.length_pos_iff.2 H
    obtain⟨ad,u,k1,_⟩:=i.at_ (bY j)
    subst k1
    have: ¬ (ys.length:Int)=0:=by omega
    rw[decide_eq_false this];rfl
  have M:((ys.length:Int) == 0)=decide ((ys.length:Int)=0):=rfl
  rw[z]
  refine⟨_,An1 (Be y),?_⟩
  rw[hA]
  cases ne with
  | false=>
   simp only[bV,K4,aJ,aE,aL,Zf]at b
   subst b
   exact Dd (Ph.same (es':= {es with n:=es.n+1}) G rfl rfl rfl) g (by rw[<-M];exact .bool (Ce J))
  | true=>
   simp only[bV,K4,aJ,aE,Zt]at b
   subst b
   exact Dd (Ph.same (es':= {es with n:=es.n+1}) G rfl rfl rfl) g (by rw[<-M];exact .bool (Ce J))
 ·simp[Ac]at h
theorem Ann {op:BinOp}{xt yt rt:TypeId}{x y:Operand}(G:Good P N X ρ K S.tm (cur S es.obs) μ a w)(h:Ev S (Agj P op xt x y yt rt) es sx es' ls)(b:LH R ρ ls)(c:holds ρ es.gs=some true):
  ∃v,(do eqGuard op xt x y (a.eval x) (a.eval y);binOp op xt (a.eval x) (a.eval y):Sem Value).run P w= .ok v w/\Out P N X ρ K S μ a w es es' sx μ w v:=by
 unfold Agj at h
 split at h
 ·exact Atc (ne:=false) G h b c
 ·exact Atc (ne:=true) G h b c
 ·exact A6e G h b c
end
end Go.CT
namespace Go.CT
open EM
section
variable {P:Program}{N:Nat}{X:Nat->Prop}{R:Job->List IV->Option (List IV)}{ρ:List IV}{K:Nat->Prop}{S:View}{μ:Nat->Value}{a:Act}{w:World}{es es':ES}{ls:List PLt}{sx:SX}
theorem Rel.drew {O:Nat->Prop}{t:TypeId}{x:IV}{v:Value}(h:Rel P w O t x v):Rel P w.drew O t x v:=h.mono (λ_ _ h=>h) (λ_ _ _=>rfl)
theorem Good.drew {tm:Nat->SV}{ob:Nat->Option Ob}(G:Good P N X ρ K tm ob μ a w):Good P N X ρ K tm ob μ a w.drew:=by
 have L:Dp K (Bh P X ρ ob μ w) (Bh P X ρ ob μ w.drew):= {P:=rfl,ρ:=λ_ _ h=>h,μ:=λ_ _=>rfl,stays:=λ_ _ _=>rfl,O:=λ_ _ h=>h,W:=λ_ _ h=>h,WO:=λ_ h=> .inr h}
 exact⟨G.size,G.defers,λs=>L.Arc (G.kt s) (G.slot s),λk o b=>L.Af0 (G.ko k o b).1 (G.ko k o b).2 (λ_ _ _ _=>rfl) (G.obj k o b),G.sep,G.xsep,G.xlt,G.kt,G.ko⟩
theorem Ph.drew (p:Ph P N X ρ K S μ a w es es'):Ph P N X ρ K S μ a w.drew es es':=⟨p.Cj.drew,p.Dv,p.m,p.gs⟩
theorem Out.Bbc {μ':Nat->Value}{w':World}{v:Value}(o:Out P N X ρ K S μ a w.drew es es' sx μ' w' v):Out P N X ρ K S μ a w es es' sx μ' w' v:=
 ⟨o.Cj,o.rel,o.keys,⟨o.step.os,o.step.tape,o.step.output,o.step.size,o.step.stays⟩,o.own,o.keep⟩
theorem Ahk {st xt ct rt:TypeId}{s x:Operand}{c:Arg}(G:Good P N X ρ K S.tm (cur S es.obs) μ a w)(h:Ev S (Z2 P st xt c ct x rt) es sx es' ls)(hl:LH R ρ ls)(hg:holds ρ es.gs=some true)(hfresh: ∀k,es.m<=k->k<es'.m-> ¬ K k)
  (hs:W2 (Bh P X ρ (cur S es.obs) μ w) (.cl c ct) (a.eval s)):
  ∃v w' μ',(Builtin.append_ #[st,xt] rt #[a.eval s,a.eval x]).run P w= .ok v w'/\Out P N X ρ K S μ a w es es' sx μ' w' v:=by
 unfold Z2 at h
 rw[Ab]at h
 obtain⟨_,_,_,_,o,h,rfl⟩:=h
 rw[Dh]at o
 obtain⟨_,rfl,rfl⟩:=o
 rw[Ab]at h
 obtain⟨e,_,_,_,o,h,rfl⟩:=h
 rw[Ao]at o
 obtain⟨he,rfl,rfl⟩:=o
 rw[Ab]at h
 obtain⟨_,_,_,_,o,h,rfl⟩:=h
 rw[Af]at o
 obtain⟨g1,rfl,rfl⟩:=o
 simp only[aA,decide_eq_true_eq,beq_iff_eq]at g1
 obtain⟨⟨⟨⟨g1,g2⟩,rfl⟩,rfl⟩,g4⟩:=g1
 rw[Ab]at h
 obtain⟨xv,e1,l1,_,h1,h,rfl⟩:=h
 obtain⟨rfl,rfl,xv3,xv4⟩:=E1 G h1 hg
 have hl:=hl.right.right.right.right
 rw[Ab]at h
 obtain⟨y,L,l2,_,h2,h,rfl⟩:=h
 obtain⟨p,hB,_⟩:=D6 G h2 hl.left hg xv4 xv3
 have ae:holds ρ L.gs=some true:=by rw[p.gs];exact hg
 simp only[Ab,Bi,Cc,Bd,Ad]at h
 obtain⟨_,_,_,_,⟨rfl,rfl,rfl⟩,⟨_,_,_,_,⟨rfl,rfl,rfl⟩,⟨_,_,_,_,⟨rfl,rfl⟩,⟨rfl,rfl,rfl⟩,rfl⟩,rfl⟩,rfl⟩:=h
 obtain⟨vs,iv,r1,r2,r3⟩:=cA hl.right.left ae
 obtain⟨u,v,s1,s2,rfl⟩:=Ab8 r1
 have M:=Be he
 -- the row without room
 obtain⟨⟨civ,c1,c2⟩,A0,n0,Q⟩:=hs
 have c1:c.ev ρ=some civ:=c1
 obtain⟨xs,A,cap,rfl,T,F⟩:=(p.later.rel c2).Cl M
 rw[c1]at s1;injection s1 with s1;subst s1
 rw[Q]at T
 injection T with i1 i2 i3
 subst i1;subst i2;subst i3
 -- what comes behind
 obtain⟨yiv,b1,b2,b3⟩:=hB
 obtain⟨ys,A1,cap1,rfl,hx,U⟩:=b3 e M
 have af:y.ev ρ=some (.list ys):=b1
 rw[af]at s2;injection s2 with s2;subst s2
 simp only[bV]at r2
 split at r2
 ·rename_i hc
  obtain⟨C,hbytes⟩:=hc
  injection r2 with r2;subst r2
  obtain⟨i,z,z1,z2,z3,z4,z5⟩:=Mz g4
  have ak:A4=140737488355328:=rfl
  have aj:maxLen=9223372036854775807:=by decide
  have E:xs.length+ys.length<=maxLen:=by
   have:=cO (xs.length+ys.length) g2
   omega
  obtain⟨us0,H,hcells0⟩:=F.Ab3.Apa
  obtain⟨us,I,hcells⟩:=U.Apa
  have d:=H.len
  have q:=I.len
  obtain⟨ad,rfl,Y⟩:=hcells C
  have r:=Dc (sz:=Ag P e) (vs:=us0) (λv Z=>(H.size v Z).1)
  have B:=Dc (sz:=Ag P e) (vs:=us) (λv Z=>(I.size v Z).1)
  have hE:Gq P w (Bh P X ρ (cur S L.obs) μ w).O e (xs++ys) (us0++us):=H.append I
  have ag:=grownCap_ge w (xs.length+ys.length) xs.length e
  have J:Builtin.nextslicecap (xs.length+ys.length) xs.length * i.bytes<=281474976710656:=growslice_fits (by omega) (by rw[z5];omega)
  let cs:Array Value:=(Ba us0).toArray ++(Ba us).toArray ++Builtin.zeroCells z.cells (grownCap w (xs.length+ys.length) xs.length e - (xs.length+ys.length))
  have aa:(Builtin.append_ #[ct,ct] rt #[a.eval s,a.eval x]).run P w= .ok (.slice (some ⟨w.heap.size,0,none⟩) (xs.length+ys.length) (grownCap w (xs.length+ys.length) xs.length e)) (w.drew.alloc (.cells cs e)):=by
   rw[hx,Q]
   cases A0 with
   | some b=>
    exact run_append_grow (P:=P) w ct rt e i z M z1 z2 b xs.length xs.length (Ba us0) (by rw[r,z4,d]) (λj u hj=>by
     have o:0<xs.length:=by
      have:=(aM.1 hj).1
      rw[r,<-d]at this
      exact Nat.pos_of_mul_pos_right (by omega:0<xs.length * Ag P e) |> λh=>by
       rcases dE xs.length with h | h
       ·rw[h]at this;simp at this
       ·exact h
     obtain⟨ad',hh,ab⟩:=hcells0 o
     injection hh with hh;subst hh
     exact ab j u hj) ad ys.length cap1 (Ba us) (by rw[B,z4,q]) Y (by omega) (by omega) J
   | none=>
    have hz:xs= []:=by
     rcases dE xs.length with h | h
     ·exact cC.1 h
     ·obtain⟨_,hh,_⟩:=hcells0 h
      cases hh
    subst hz
    have ah:us0= []:=cC.1 (by rw[<-d];rfl)
    have hr:=run_append_nil (P:=P) w ct rt e i z M z1 z2 ad ys.length cap1 (Ba us) (by rw[B,z4,q]) Y C (by simp at E;omega) (by rw[z5];simp at hbytes;omega)
    simp only[List.length_nil,bF]at *
    rw[hr]
    simp[cs,ah,Ba]
  have ai:(Builtin.zeroCells z.cells (grownCap w (xs.length+ys.length) xs.length e - (xs.length+ys.length))).size =(grownCap w (xs.length+ys.length) xs.length e - (xs.length+ys.length)) * Ag P e:=by
   rw[size_zeroCells,z3]
  have ac:cs.size=grownCap w (xs.length+ys.length) xs.length e * Ag P e:=by
   simp only[cs,Array.size_append,List.size_toArray,r,B,ai,<-d,<-q]
   rw[<-bZ,<-bZ]
   congr 1;omega
  have g:cs.toList.take ((xs.length+ys.length) * Ag P e)=Ba (us0++us):=by
   simp only[cs,Array.toList_append,D7]
   rw[List.take_left' (by rw[aV,r,B,bZ,d,q])]
  have ho:=Yq (N:=N) (K:=K) (S:=S) (a:=a) (rt:=rt) (nn:=L.n+1) (w:=w.drew) (es:=es) (e1:= {L with n:=L.n+1}) (ivs:=xs++ys) (n:=xs.length+ys.length) (cap:=grownCap w (xs.length+ys.length) xs.length e) (cs:=cs) (x:= .v L.n) (t:=ct) ⟨p.Cj.drew,p.Dv,p.m,p.gs⟩ hfresh r3 M g1 (by simp) ag
   (grownCap_le_maxLen w _ _ _ E) ac (by rw[g];exact λj x hx=>let ⟨v,q1,q2⟩:=hE.elems j x hx; ⟨v,q1.drew,q2⟩) (by rw[g];exact Ei λv Z=>(hE.size v Z).2)
  exact⟨_,_,_,aa,ho.Bbc⟩
 ·cases r2
theorem Z0 {st xt rt:TypeId}{s x:Operand}(G:Good P N X ρ K S.tm (cur S es.obs) μ a w)(h:Ev S (Rs P st xt s x rt) es sx es' ls)(c:LH R ρ ls)(d:holds ρ es.gs=some true)(hfresh: ∀k,es.m<=k->k<es'.m-> ¬ K k):
  ∃v w' μ',(Builtin.append_ #[st,xt] rt #[a.eval s,a.eval x]).run P w= .ok v w'/\Out P N X ρ K S μ a w es es' sx μ' w' v:=by
 unfold Rs at h
 rw[Ab]at h
 obtain⟨sv,e1,g,_,i,h,rfl⟩:=h
 obtain⟨rfl,rfl,sv3,sv4⟩:=E1 G i d
 split at h
 ·exact Ahk G h (by simpa using c) d hfresh sv3
 ·rw[Ab]at h
  obtain⟨xv,e1,g,_,j,h,rfl⟩:=h
  obtain⟨rfl,rfl,xv3,xv4⟩:=E1 G j d
  have c:=c.right.right
  split at h
  ·rename_i k q r lo o t2 b
   unfold Amf at b
   split at b
   ·split at b
    ·rename_i e
     have e:=eq_of_beq e
     subst e
     simp only[aE,bG]at b
     obtain⟨rfl,rfl,rfl,rfl,rfl,rfl⟩:=b
     exact Xa G h c d sv3 xv3
    ·cases b
   ·cases b
  ·exact Anl G h c d hfresh
end
end Go.CT
namespace Go.CT
open EM
section
variable (P:Program)(w:World)(O Lt:Nat->Prop)
def Gp (e:TypeId)(xs:List IV)(v:Value):Prop:=
 0<Ag P e/\ ∃cs,w.ownsRow 0 e (Ag P e) v xs.length cs/\Ja P w O e xs cs/\ ∀u∈cs,u.oneCell'=true
def Afh (kt vt:TypeId)(xs:List IV)(v:Value):Prop:=
 ∃ (r cl:Nat) (es:Array MapEntry),v= .map (some r)/\w.heap[r]?=some (.map es cl)/\Aua P kt=true/\Jf P w O kt vt xs es.toList
def Ni (t:TypeId)(x:IV)(v:Value):Prop:=
 ∃ys,x= .list ys/\((∃e,P.underlying t=some (.slice e)/\Gp P w O e ys v)\/ ∃kt vt,P.underlying t=some (.map kt vt)/\Afh P w O kt vt ys v)
def Bs:List Bool->List TypeId->List IV->List Value->List Nat->Prop
 | [],[],[],[],L=>L= []
 | true::bs,t::ts,x::xs,v::vs,L=> ∃L',Ni P w O t x v/\Bs bs ts xs vs L'/\L=(blk v).toList ++L'
 | false::bs,t::ts,x::xs,v::vs,L=>Rel P w O t x v/\Bs bs ts xs vs L
 | _,_,_,_,_=>False
def Ol (t:TypeId)(bs:List Bool)(xs:List IV)(v:Value)(L:List Nat):Prop:=
 ∃ts,leaves P t=some ts/\v.cells.size=Ag P t/\(if Ai P t then ∃cs,v= .agg cs else v.oneCell'=true)/\Bs P w O bs ts xs v.cells.toList L
def Xb (t:TypeId)(bs:List Bool)(xs:List IV)(v:Value)(L:List Nat):Prop:=
 ∃b u L',v= .pointer (some ⟨b,0,none⟩)/\w.heap[b]?=some (.cells u.cells t (0,0))/\Ol P w O t bs xs u L'/\L=b::L'
def Ig:List (TypeId × List Bool)->List IV->List Value->List Nat->Prop
 | [],xs,[],L=>xs= []/\L= []
 | b::bs,xs,v::vs,L=> ∃ys zs L1 L2,xs=ys++zs/\L=L1++L2/\Xb P w O b.1 b.2 ys v L1/\Ig bs zs vs L2
 | _,_,_,_=>False
def On (t:TypeId)(x:IV)(v:Value):Prop:=
 ∃ad u,v= .pointer (some ad)/\D1 w ad u (Ag P t)/\0<Ag P t/\ ¬ Lt ad.block/\Rel P w O t x u
def Ha:List TypeId->List IV->List Value->Prop
 | [],[],[]=>True
 | t::ts,x::xs,v::vs=>On P w O Lt t x v/\Ha ts xs vs
 | _,_,_=>False
def ArgRel:PS->List IV->Value->List Nat->Prop
 | .data t,xs,v,L=> ∃x,xs= [x]/\L= []/\Rel P w O t x v
 | .arr t,xs,v,L=> ∃e ys,xs= [.list ys]/\L=(blk v).toList /\P.underlying t=some (.slice e)/\Gp P w O e ys v
 | .own t,xs,v,L=> ∃e ys,xs= [.list ys]/\L=(blk v).toList /\P.underlying t=some (.slice e)/\Gp P w O e ys v
 | .box t bs,xs,v,L=>Xb P w O t bs xs v L
 | .fnb _ _,xs,_,L=>xs= []/\L= []
 | .fn f ts,xs,v,L=> ∃vs:Array Value,v= .func (.func f) #[] vs/\L= []/\Ha P w O Lt ts xs vs.toList
 | .rd t,xs,v,L=> ∃x,xs= [x]/\L= []/\On P w O Lt t x v
 | .bld t _,xs,v,L=> ∃b a c ys st e,v= .pointer (some ⟨b,0,none⟩)/\w.heap[b]?=some (.cells #[a,c] t (0,0))/\(a= .pointer none\/a=v)/\A2y P t=some (st,e)/\xs= [.list ys]/\Gp P w O e ys c/\L=b::(blk c).toList
def D0:List PS->List IV->List Value->List Nat->Prop
 | [],xs,[],L=>xs= []/\L= []
 | p::a,xs,v::vs,L=> ∃ys zs L1 L2,xs=ys++zs/\L=L1++L2/\ArgRel P w O Lt p ys v L1/\D0 a zs vs L2
 | _,_,_,_=>False
def Wx:RS->List IV->Value->List Nat->Prop
 | .whole t,xs,v,L=> ∃x,xs= [x]/\L= []/\Rel P w O t x v
 | .cells t bs,xs,v,L=>Ol P w O t bs xs v L
 | .skip,xs,_,L=>xs= []/\L= []
 | .nbox t bs,xs,v,L=>Ig P w O [(t,bs)] xs [v] L
 | .clo f bxs,xs,v,L=> ∃caps:Array Value,v= .func (.func f) #[] caps/\Ig P w O bxs xs caps.toList L
 | .clip t,xs,v,L=> ∃x,xs= [x]/\L= []/\Rel P w O t x v/\ ∃A n,v= .slice A n n
 | .strict t,xs,v,L=> ∃x,xs= [x]/\L= []/\Rel P w O t x v/\ ∃ys A cap,x= .list ys/\v= .slice A ys.length cap/\(ys= []->v= .slice none 0 0)
def Hs:List RS->List IV->List Value->List Nat->Prop
 | [],xs,[],L=>xs= []/\L= []
 | p::a,xs,v::vs,L=> ∃ys zs L1 L2,xs=ys++zs/\L=L1++L2/\Wx P w O p ys v L1/\Hs a zs vs L2
 | _,_,_,_=>False
def PS.Cu:PS->Bool
 | .box _ _=>true
 | .arr _=>true
 | .bld _ b=>b
 | _=>false
def B4:List PS->List IV->List Value->List Nat->Prop
 | [],xs,[],L=>xs= []/\L= []
 | p::a,xs,v::vs,L=>
  if p.Cu then ∃ys zs L1 L2,xs=ys++zs/\L=L1++L2/\ArgRel P w O (λ_=>False) p ys v L1/\B4 a zs vs L2
  else B4 a xs vs L
 | _,_,_,_=>False
end
def packed:List Value->Value
 | [v]=>v
 | vs=> .tuple vs.toArray
structure Ty (P:Program)(X:Nat->Prop)(s:Spec)(args:List Value)(L:List Nat)(rs:List IV)(w:World)(v:Value)(w':World):Prop where
 step:Gr (· ∈L) w w'
 out: ∃vs xs ys L1 L2,v=packed vs/\rs=xs++ys/\(L1++L2).Nodup /\(∀b∈L1++L2,b∈L\/w.heap.size<=b)/\
  Hs P w' (λb=>X b\/b∈L1++L2) s.results xs vs L1/\B4 P w' (λb=>X b\/b∈L1++L2) s.params ys args L2
def Atk (P:Program)(f:FuncId)(args:Array Value)(w:World)(R:Value->World->Prop):Prop:=
 (∃fn,P.funcs[f]?=some fn/\(fn.name == "runtime.NumGoroutine")=false/\fn.body.isNone=false/\Calls P f args w λe w'=> ∃v,e= .returned v/\R v w')\/
 (∃v w',(callFunc f args).run P w= .ok (.value v) w'/\R v w')
theorem Atk.mono {P:Program}{f:FuncId}{args:Array Value}{w:World}{R R':Value->World->Prop}(h:Atk P f args w R)(c: ∀v w',R v w'->R' v w'):Atk P f args w R':=by
 rcases h with⟨fn,a,b,d,g⟩ | ⟨v,w',a,b⟩
 ·exact .inl ⟨fn,a,b,d,g.mono λe w' ⟨v,i,j⟩=>⟨v,i,c _ _ j⟩⟩
 ·exact .inr ⟨v,w',a,c _ _ b⟩
def Sound (P:Program)(specs:List (Nat × Spec))(R:Job->List IV->Option (List IV)):Prop:=
 ∀i s,(i,s)∈specs-> ∀ (w:World) (X:Nat->Prop) (xs:List IV) (args fargs:List Value) (L:List Nat) (rs:List IV),Iq 0 s.params args=some fargs->
  D0 P w (λb=>X b\/b∈L) (· ∈L) s.params xs fargs L->L.Nodup->(∀b∈L,¬ X b)->(∀b,X b->b<w.heap.size)->
  R ⟨i,0⟩ xs=some rs->Atk P s.fn args.toArray w (Ty P X s fargs L rs w)
section
variable {P:Program}{w:World}{O O' Lt:Nat->Prop}
theorem Ja.weaken {e:TypeId}{xs:List IV}{cs:List Value}(h:Ja P w O e xs cs)(a: ∀b,b<w.heap.size->O' b->O b):Ja P w O' e xs cs:=λj x c=>
 let ⟨v,d,g⟩:=h j x c
 ⟨v,d.weaken a,g⟩
theorem Gp.weaken {e:TypeId}{xs:List IV}{v:Value}(h:Gp P w O e xs v)(a: ∀b,b<w.heap.size->O' b->O b):Gp P w O' e xs v:=
 ⟨h.1,let ⟨cs,c,d,g⟩:=h.2; ⟨cs,c,d.weaken a,g⟩⟩
theorem Afh.weaken {kt vt:TypeId}{xs:List IV}{v:Value}(h:Afh P w O kt vt xs v)(a: ∀b,b<w.heap.size->O' b->O b):Afh P w O' kt vt xs v:=
 let ⟨r,cl,es,c,d,e,g⟩:=h; ⟨r,cl,es,c,d,e,g.imp λ_ _ _ h=>h.weaken a⟩
theorem Ni.weaken {t:TypeId}{x:IV}{v:Value}(h:Ni P w O t x v)(d: ∀b,b<w.heap.size->O' b->O b):Ni P w O' t x v:=
 let ⟨ys,g,i⟩:=h; ⟨ys,g,i.imp (fun⟨e,a,c⟩=>⟨e,a,c.weaken d⟩) fun⟨kt,vt,a,c⟩=>⟨kt,vt,a,c.weaken d⟩⟩
theorem Bs.weaken (a: ∀b,b<w.heap.size->O' b->O b): ∀ {bs:List Bool} {ts:List TypeId} {xs:List IV} {vs:List Value} {L:List Nat},Bs P w O bs ts xs vs L->Bs P w O' bs ts xs vs L
 | [],[],[],[],_,h=>h
 | true::bs,t::ts,x::xs,v::vs,L,h=>by
  obtain⟨L',c,d,e⟩:=h
  exact⟨L',c.weaken a,Bs.weaken a d,e⟩
 | false::bs,t::ts,x::xs,v::vs,L,h=>⟨h.1.weaken a,Bs.weaken a h.2⟩
 | [],[],[],_::_,_,h=>h.elim
 | [],[],_::_,_,_,h=>h.elim
 | [],_::_,_,_,_,h=>h.elim
 | _::_,[],_,_,_,h=>by simp[Bs]at h
 | _::_,_::_,[],_,_,h=>by simp[Bs]at h
 | _::_,_::_,_::_,[],_,h=>by simp[Bs]at h
theorem Ol.weaken {t:TypeId}{bs:List Bool}{xs:List IV}{v:Value}{L:List Nat}(h:Ol P w O t bs xs v L)(a: ∀b,b<w.heap.size->O' b->O b):Ol P w O' t bs xs v L:=
 let ⟨ts,c,d,e,g⟩:=h; ⟨ts,c,d,e,g.weaken a⟩
theorem Xb.weaken {t:TypeId}{bs:List Bool}{xs:List IV}{v:Value}{L:List Nat}(h:Xb P w O t bs xs v L)(a: ∀b,b<w.heap.size->O' b->O b):Xb P w O' t bs xs v L:=
 let ⟨b,u,L',c,d,e,g⟩:=h; ⟨b,u,L',c,d,e.weaken a,g⟩
theorem Ig.weaken (a: ∀b,b<w.heap.size->O' b->O b): ∀ {bs:List (TypeId × List Bool)} {xs:List IV} {vs:List Value} {L:List Nat},Ig P w O bs xs vs L->Ig P w O' bs xs vs L
 | [],_,[],_,h=>h
 | _::_,_,_::_,_,h=>by
  obtain⟨ys,zs,L1,L2,c,d,e,g⟩:=h
  exact⟨ys,zs,L1,L2,c,d,e.weaken a,g.weaken a⟩
 | [],_,_::_,_,h=>h.elim
 | _::_,_,[],_,h=>h.elim
theorem Wx.weaken {r:RS}{xs:List IV}{v:Value}{L:List Nat}(h:Wx P w O r xs v L)(e: ∀b,b<w.heap.size->O' b->O b):Wx P w O' r xs v L:=by
 cases r with
 | whole t=>obtain⟨x,a,d,g⟩:=h;exact⟨x,a,d,g.weaken e⟩
 | clip t=>obtain⟨x,a,d,g,i⟩:=h;exact⟨x,a,d,g.weaken e,i⟩
 | strict t=>obtain⟨x,a,d,g,i⟩:=h;exact⟨x,a,d,g.weaken e,i⟩
 | skip=>exact h
 | cells t bs=>exact Ol.weaken h e
 | nbox t bs=>exact Ig.weaken e h
 | clo f bxs=>obtain⟨c,a,d⟩:=h;exact⟨c,a,d.weaken e⟩
theorem On.weaken {t:TypeId}{x:IV}{v:Value}(h:On P w O Lt t x v)(a: ∀b,b<w.heap.size->O' b->O b):On P w O' Lt t x v:=
 let ⟨ad,u,c,d,e,g,i⟩:=h; ⟨ad,u,c,d,e,g,i.weaken a⟩
theorem Ha.weaken (a: ∀b,b<w.heap.size->O' b->O b): ∀ {ts:List TypeId} {xs:List IV} {vs:List Value},Ha P w O Lt ts xs vs->Ha P w O' Lt ts xs vs
 | [],[],[],_=>trivial
 | _::_,_::_,_::_,h=>⟨h.1.weaken a,Ha.weaken a h.2⟩
 | [],[],_::_,h=>h.elim
 | [],_::_,_,h=>h.elim
 | _::_,[],_,h=>h.elim
 | _::_,_::_,[],h=>h.elim
theorem ArgRel.weaken {p:PS}{xs:List IV}{v:Value}{L:List Nat}(h:ArgRel P w O Lt p xs v L)(g: ∀b,b<w.heap.size->O' b->O b):ArgRel P w O' Lt p xs v L:=by
 cases p with
 | data t=>obtain⟨x,a,c,d⟩:=h;exact⟨x,a,c,d.weaken g⟩
 | arr t=>obtain⟨e,ys,a,c,d,i⟩:=h;exact⟨e,ys,a,c,d,i.weaken g⟩
 | own t=>obtain⟨e,ys,a,c,d,i⟩:=h;exact⟨e,ys,a,c,d,i.weaken g⟩
 | box t bs=>exact Xb.weaken h g
 | fnb f n=>exact h
 | fn f ts=>obtain⟨vs,a,c,d⟩:=h;exact⟨vs,a,c,d.weaken g⟩
 | rd t=>obtain⟨x,a,c,d⟩:=h;exact⟨x,a,c,d.weaken g⟩
 | bld t bk=>obtain⟨b,j,m,ys,st,e,a,c,d,i,o,q,r⟩:=h;exact⟨b,j,m,ys,st,e,a,c,d,i,o,q.weaken g,r⟩
theorem D0.weaken (a: ∀b,b<w.heap.size->O' b->O b): ∀ {c:List PS} {xs:List IV} {vs:List Value} {L:List Nat},D0 P w O Lt c xs vs L->D0 P w O' Lt c xs vs L
 | [],_,[],_,h=>h
 | _::_,_,_::_,_,h=>by
  obtain⟨ys,zs,L1,L2,d,e,g,i⟩:=h
  exact⟨ys,zs,L1,L2,d,e,g.weaken a,i.weaken a⟩
 | [],_,_::_,_,h=>h.elim
 | _::_,_,[],_,h=>h.elim
end
section
variable {P:Program}{N:Nat}{X X':Nat->Prop}{R:Job->List IV->Option (List IV)}{ρ:List IV}{K:Nat->Prop}{S:View}{μ:Nat->Value}{a:Act}{w:World}{es es':ES}{ls:List PLt}{sx:SX}
 {tm:Nat->SV} {ob ob':Nat->Option Ob}
theorem Good.move (G:Good P N X ρ K tm ob μ a w)(h: ∀k o,ob' k=some o->ob k=some o)(m: ∀b,X' b->X b\/Wr ob μ b)(d: ∀k o b,ob' k=some o->o.Ea=true->blk (μ k)=some b-> ¬ X' b):
  Good P N X' ρ K tm ob' μ a w:=by
 have q: ∀b,Wr ob' μ b->Wr ob μ b:=λb ⟨k,o,e,g,i⟩=>⟨k,o,h k o e,g,i⟩
 have L:Dp K (Bh P X ρ ob μ w) (Bh P X' ρ ob' μ w):=
  {P:=rfl,ρ:=λ_ _ h=>h,μ:=λ_ _=>rfl,stays:=cZ _ _,O:=λb _ c=>c.elim (λc=>m b c) λc=> .inr (q b c),W:=λb _ c=>q b c,WO:=λb c=> .inr c}
 refine⟨G.size,G.defers,λs=>L.Arc (G.kt s) (G.slot s),λk o j=>L.Af0 (G.ko k o (h k o j)).1 (G.ko k o (h k o j)).2 (λ_ b _ _=>rfl) (G.obj k o (h k o j)),
  λk r o o' b e g i t u x=>G.sep k r o o' b (h k o e) (h r o' g) i t u x,d,λb c=>?_,G.kt,λk o j=>G.ko k o (h k o j)⟩
 rcases m b c with c | ⟨k,o,e,g,i⟩
 ·exact G.xlt b c
 ·exact G.Mg e g i
theorem Good.A2u (G:Good P N X ρ K tm ob μ a w)(h: ∀b,X b↔X' b):Good P N X' ρ K tm ob μ a w:=by
 have:X=X':=funext λb=>propext (h b)
 subst this;exact G
theorem Good.Ab5 (G:Good P N X ρ K tm ob μ a w){k:Nat}{o:Ob}(h:ob k=some o)(m:o.Ea=true):
  Good P N (λb=>X b\/b∈(blk (μ k)).toList) ρ K tm (Bo ob k none) μ a w:=by
 have e: ∀c o',Bo ob k none c=some o'->c≠k/\ob c=some o':=by
  intro c o' h'
  unfold Bo at h'
  split at h'
  ·cases h'
  ·rename_i g;exact⟨g,h'⟩
 refine G.move (λc o' h'=>(e c o' h').2) (λb i=>i.imp id λi=>⟨k,o,h,m,by simpa using i⟩) (λc o' b j q r d=>?_)
 rcases d with d | d
 ·exact G.xsep c o' b (e c o' j).2 q r d
 ·exact(e c o' j).1 (G.sep c k o' o b (e c o' j).2 h q m r (by simpa using d))
variable (P N X ρ K S μ a w) in
structure Nu (L:List Nat)(es es':ES):Prop where
 Cj:Good P N (λb=>X b\/b∈L) ρ K S.tm (cur S es'.obs) μ a w
 Dv:Iy (cur S es.obs) (cur S es'.obs)
 m:es'.m=es.m
 gs:es'.gs=es.gs
 own: ∀b∈L,Wr (cur S es.obs) μ b
 nodup:L.Nodup
theorem Ph.Ab5 (p:Ph P N X ρ K S μ a w es es'):Nu P N X ρ K S μ a w [] es es':=
 ⟨p.Cj.A2u λb=>by simp,p.Dv,p.m,p.gs,by simp,List.nodup_nil⟩
theorem Nu.congr {L:List Nat}(h:Nu P N X ρ K S μ a w L es es')(c: ∀b,X b↔X' b):Nu P N X' ρ K S μ a w L es es':=by
 have:X=X':=funext λb=>propext (c b)
 subst this;exact h
theorem Nu.trans {L1 L2:List Nat}{e1 g i:ES}(h:Nu P N X ρ K S μ a w L1 e1 g)(h':Nu P N (λb=>X b\/b∈L1) ρ K S μ a w L2 g i):Nu P N X ρ K S μ a w (L1++L2) e1 i:=by
 refine⟨h'.Cj.A2u λb=>by simp[or_assoc],h.Dv.trans h'.Dv,h'.m.trans h.m,h'.gs.trans h.gs,λb d=>?_,?_⟩
 ·rcases aG.1 d with d | d
  ·exact h.own b d
  ·exact h.Dv.wr (h'.own b d)
 ·rw[aR]
  refine⟨h.nodup,h'.nodup,λb j c q e=>?_⟩
  subst e
  obtain⟨k,o,r,t,u⟩:=h'.own b q
  exact h.Cj.xsep k o b r t u (.inr j)
theorem Nu.later {L:List Nat}(h:Nu P N X ρ K S μ a w L es es'):Dp K (Bh P X ρ (cur S es.obs) μ w) (Bh P (λb=>X b\/b∈L) ρ (cur S es'.obs) μ w):=
 {P:=rfl,ρ:=λ_ _ h=>h,μ:=λ_ _=>rfl,stays:=cZ _ _,O:=λb _ c=>c.elim (λc=>c.imp id (h.own b)) λc=> .inr (h.Dv.wr c),W:=λ_b _ c=>h.Dv.wr c,WO:=λ_b c=> .inr c}
theorem Nu.drop (G:Good P N X ρ K S.tm (cur S es.obs) μ a w){k:Nat}{o:Ob}{n:Nat}(h:cur S es.obs k=some o)(c:o.Ea=true):
  Nu P N X ρ K S μ a w (blk (μ k)).toList es {es with n,obs:=(k,none)::es.obs} :=by
 refine⟨?_,?_,rfl,rfl,λb d=>⟨k,o,h,c,by simpa using d⟩,by cases blk (μ k)<;>simp⟩
 ·show Good P N _ ρ K S.tm (cur S ((k,none)::es.obs)) μ a w
  rw[Bm];exact G.Ab5 h c
 ·show Iy (cur S es.obs) (cur S ((k,none)::es.obs))
  rw[Bm];exact(G.drop k).2
end
end Go.CT
namespace Go.CT
open EM
section
variable {P:Program}{N:Nat}{X:Nat->Prop}{R:Job->List IV->Option (List IV)}{ρ:List IV}{K:Nat->Prop}{S:View}{μ:Nat->Value}{a:Act}{w:World}{es es':ES}{ls:List PLt}{sx:SX}
theorem J6 {base e sz n:Nat}{v:Value}{cs:List Value}(h:w.ownsRow base e sz v n cs):v.ownBlock=blk v/\v.oneCell'=true/\ ∃A n cap,v= .slice A n cap:=by
 obtain⟨_,h⟩:=h
 rcases h with⟨rfl,_⟩ | ⟨g,cap,cu,rfl,_⟩
 ·exact⟨rfl,rfl,_,_,_,rfl⟩
 ·exact⟨rfl,rfl,_,_,_,rfl⟩
theorem N1 {e:TypeId}{l:LV}{x:Arg}{v:Value}(G:Good P N X ρ K S.tm (cur S es.obs) μ a w)(h:Ev S (Rp P e l) es x es' ls)(o:LH R ρ ls)(E:holds ρ es.gs=some true)
  (q:W2 (Bh P X ρ (cur S es.obs) μ w) l v):
  ∃ys,x.ev ρ=some (.list ys)/\Nu P N X ρ K S μ a w (blk v).toList es es'/\Gp P w (λb=>(X b\/b∈(blk v).toList)\/Wr (cur S es'.obs) μ b) e ys v:=by
 unfold Rp at h
 rw[Ab]at h
 obtain⟨_,_,_,_,y,h,rfl⟩:=h
 rw[Af]at y
 obtain⟨j,rfl,rfl⟩:=y
 simp only[decide_eq_true_eq]at j
 have o:=o.right
 rw[Ab]at h
 obtain⟨⟨old,c⟩,e1,T,_,F,h,rfl⟩:=h
 obtain⟨⟨z,rfl⟩,ivs,cs,B,m,r,H,I⟩:=Pt (sv:= .leaf l) G F o.left E q j
 have i: ∀u∈cs,u.oneCell'=true:=by
  have J:Ja P w (Bh P X ρ (cur S es.obs) μ w).O e ivs cs:=r
  obtain⟨us,r1,rfl⟩:=J.Apa m.1
  exact Ei λv q=>(r1.size v q).2
 obtain⟨b1,_,A,n,cap,rfl⟩:=J6 m
 cases old with
 | none=>
  have:=H rfl
  injection this with i1 i2 L;subst i1;subst i2;subst L
  simp only[Pq,Ab,Ad]at h
  obtain⟨_,_,_,_,⟨_,rfl,rfl⟩,⟨rfl,rfl,rfl⟩,rfl⟩:=h
  have p:Ph P N X ρ K S μ a w es {es with n:=z} := .same G rfl rfl rfl
  refine⟨ivs,B,p.Ab5,j,cs,m,r.weaken λb _ g=>?_,i⟩
  rcases g with (g | g) | g
  ·exact .inl g
  ·simp[blk]at g
  ·exact .inr g
 | some k=>
  obtain⟨⟨t,U,M⟩,C⟩:=I k rfl
  rw[b1]at C
  simp only[Pq,Ab,Bd,Ad]at h
  obtain⟨_,_,_,_,⟨rfl,rfl⟩,⟨rfl,rfl,rfl⟩,rfl⟩:=h
  have d:=Nu.drop (n:=z) G M rfl
  rw[<-C]at d
  exact⟨ivs,B,d,j,cs,m,r.weaken λb g Q=>d.later.O b g Q,i⟩
theorem Rel.as {O:Nat->Prop}{al:Bool}{t:TypeId}{x:Arg}{v:Value}{c:Cx}(a:Px c x t v)(hd:al=true->Sf c x t v)(g: ∀b,O b->al=true/\c.O b): ∃iv,x.ev c.ρ=some iv/\Rel c.P c.w O t iv v:=by
 cases al with
 | true=>
  obtain⟨iv,d,e⟩:=hd rfl
  exact⟨iv,d,e.weaken λb _ a=>(g b a).2⟩
 | false=>
  obtain⟨iv,d,e,_⟩:=a
  exact⟨iv,d,e.weaken λb _ a=>by have:=(g b a).1;simp at this⟩
theorem Ao8 {t:TypeId}{l:LV}{x:Arg}{v:Value}(G:Good P N X ρ K S.tm (cur S es.obs) μ a w)(h:Ev S (Ag9 P t l) es x es' ls)
  (j:W2 (Bh P X ρ (cur S es.obs) μ w) l v):
  ∃ys kt vt,x.ev ρ=some (.list ys)/\Nu P N X ρ K S μ a w (blk v).toList es es'/\P.underlying t=some (.map kt vt)/\Afh P w (λb=>(X b\/b∈(blk v).toList)\/Wr (cur S es'.obs) μ b) kt vt ys v:=by
 unfold Ag9 at h
 split at h
 ·rename_i k C
  rw[Ab]at h
  obtain⟨o,_,_,E,i,h,rfl⟩:=h
  rw[Bp]at i
  obtain⟨e,rfl,rfl⟩:=i
  cases o with
  | box=>simp[Ac]at h
  | frz=>simp[Ac]at h
  | iter=>simp[Ac]at h
  | arr=>simp[Ac]at h
  | mp F kt vt c=>
   simp only[Ab,Af,Bd,Ad]at h
   obtain⟨_,_,_,_,⟨g,rfl,rfl⟩,⟨_,_,_,_,⟨rfl,rfl⟩,⟨rfl,rfl,rfl⟩,rfl⟩,rfl⟩:=h
   have g:Aqn P t=some (kt,vt):=by simpa using g
   obtain⟨r,cl,ents,ivs,m,q,H,u,y,z⟩:=G.obj k _ e
   have A:v=μ k:=j.1
   subst A
   have d:=Nu.drop (n:=es.n) G e rfl
   exact⟨ivs,kt,vt,y,d,O2 g,r,cl,ents,m,q,u,z.imp λ_ _ _ h=>h.weaken λb B e=>d.later.O b B e⟩
 ·simp[Ac]at h
theorem Aok {t:TypeId}{l:LV}{x:Arg}{v:Value}(G:Good P N X ρ K S.tm (cur S es.obs) μ a w)(h:Ev S (Agk P t l) es x es' ls)(g:LH R ρ ls)(i:holds ρ es.gs=some true)
  (d:W2 (Bh P X ρ (cur S es.obs) μ w) l v):
  ∃y,x.ev ρ=some y/\Nu P N X ρ K S μ a w (blk v).toList es es'/\Ni P w (λb=>(X b\/b∈(blk v).toList)\/Wr (cur S es'.obs) μ b) t y v:=by
 unfold Agk at h
 split at h
 ·rename_i e j
  obtain⟨ys,r1,r2,c⟩:=N1 G h g i d
  exact⟨_,r1,r2,ys,rfl,.inl ⟨e,Be j,c⟩⟩
 ·obtain⟨ys,kt,vt,r1,r2,c,m⟩:=Ao8 G h d
  exact⟨_,r1,r2,ys,rfl,.inr ⟨kt,vt,c,m⟩⟩
theorem Aas {t:TypeId}{l:LV}{x:Arg}(h:Ev S (Da P false t l) es x es' ls)(a:Cr P t=none):Ev S (Da P true t l) es x es' ls:=by
 cases l with
 | ref k u=>
  exfalso
  unfold Da at h
  simp only[Ab,Bp]at h
  obtain⟨o,_,_,ls2,⟨b,rfl,rfl⟩,h,rfl⟩:=h
  cases o<;>simp[Ac,Ab,Af,a]at h
 | sub k lo c u=>
  exfalso
  unfold Da at h
  simp only[Ab,Bp]at h
  obtain⟨o,_,_,ls2,⟨b,rfl,rfl⟩,h,rfl⟩:=h
  cases o<;>simp[Ac,Ab,Af,a]at h
 | _=>exact h
theorem L8: ∀ {bs:List Bool} {ts:List TypeId} {lvs:List LV} {es es':ES} {as:List Arg} {ls:List PLt},Ev S (D9 P false bs ts lvs) es as es' ls->D5 P bs ts=true->Ev S (D9 P true bs ts lvs) es as es' ls
 | [],[],[],es,es',as,ls,h,a=>h
 | o::bs,t::ts,l::lvs,es,es',as,ls,h,a=>by
  unfold D9 at h ⊢
  rw[Ab]at h ⊢
  obtain⟨x,e1,b,q,c,d,rfl⟩:=h
  rw[Ab]at d
  obtain⟨y,e,g,i,j,m,rfl⟩:=d
  cases o with
  | true=>
   simp only[D5,aA]at a
   exact⟨x,e1,b,_,c,Ab.2 ⟨y,e,g,i,L8 j a.2,m,rfl⟩,rfl⟩
  | false=>
   simp only[D5,aA,bX]at a
   exact⟨x,e1,b,_,Aas c a.1,Ab.2 ⟨y,e,g,i,L8 j a.2,m,rfl⟩,rfl⟩
 | [],[],_::_,_,_,_,_,h,_=>by simp[D9,Ac]at h
 | [],_::_,_,_,_,_,_,h,_=>by simp[D9,Ac]at h
 | _::_,[],_,_,_,_,_,h,_=>by simp[D9,Ac]at h
 | _::_,_::_,[],_,_,_,_,h,_=>by simp[D9,Ac]at h
def Auc (al:Bool)(X:Nat->Prop)(L:List Nat)(ob:Nat->Option Ob)(μ:Nat->Value)(b:Nat):Prop:=al=true/\((X b\/b∈L)\/Wr ob μ b)
theorem Lc: ∀ {bs:List Bool} {ts:List TypeId} {lvs:List LV} {X:Nat->Prop} {es es':ES} {as:List Arg} {ls:List PLt} {vs:List Value},Good P N X ρ K S.tm (cur S es.obs) μ a w->Ev S (D9 P true bs ts lvs) es as es' ls->LH R ρ ls->holds ρ es.gs=some true->
  (∀k∈lvs.flatMap A5,K k)->Dt (Bh P X ρ (cur S es.obs) μ w) lvs vs->
  ∃xs L,bP ρ as=some xs/\Nu P N X ρ K S μ a w L es es'/\Bs P w (Auc true X L (cur S es'.obs) μ) bs ts xs vs L
 | [],[],[],X,es,es',as,ls,vs,G,h,d,e,j,c=>by
  unfold D9 at h
  rw[Ad]at h
  obtain⟨rfl,rfl,rfl⟩:=h
  cases vs with
  | cons=>exact c.elim
  | nil=>exact⟨[],[],rfl,(dW G).Ab5,rfl⟩
 | o::bs,t::ts,l::lvs,X,es,es',as,ls,vs,G,h,d,e,j,c=>by
  cases vs with
  | nil=>exact c.elim
  | cons v vs=>
   unfold D9 at h
   simp only[Ab]at h
   obtain⟨x,e1,M,_,q,⟨as,Q,T,_,B,C,rfl⟩,rfl⟩:=h
   rw[Ad]at C
   obtain⟨rfl,rfl,rfl⟩:=C
   have g: ∀k∈lvs.flatMap A5,K k:=λk E=>j k (by rw[aC];exact aB _ E)
   cases o with
   | true=>
    simp only[Ah2,Zt]at q
    obtain⟨y,r1,r2,F⟩:=Aok G q d.left e c.1.2
    obtain⟨xs,L2,u,m,z⟩:=Lc r2.Cj B d.right.left (by rw[r2.gs];exact e) g (r2.later.Acu g c.2)
    refine⟨y::xs,_,Ey r1 u,r2.trans m,L2,F.weaken λb r i=>?_,z.weaken (λb r i=>?_),rfl⟩
    ·obtain⟨_,i⟩:=i
     have:=m.later.O b r (by simpa [Bh,or_assoc]using i)
     exact this
    ·exact⟨rfl,by simpa [or_assoc]using i.2⟩
   | false=>
    simp only[Ah2,aL,Zf]at q
    obtain⟨p,U,H⟩:=G5 G q d.left e c.1.2
    obtain⟨iv,I,J⟩:=H rfl
    obtain⟨xs,L2,u,m,z⟩:=Lc p.Cj B d.right.left (by rw[p.gs];exact e) g (p.later.Acu g c.2)
    have A:=p.Ab5.trans (m.congr λb=>by simp)
    refine⟨iv::xs,L2,Ey I u,by simpa using A,J.weaken λb r i=>m.later.O b r i.2,z⟩
 | [],[],_::_,X,es,es',as,ls,vs,G,h,d,e,j,c=>by simp[D9,Ac]at h
 | [],_::_,_,X,es,es',as,ls,vs,G,h,d,e,j,c=>by simp[D9,Ac]at h
 | _::_,[],_,X,es,es',as,ls,vs,G,h,d,e,j,c=>by simp[D9,Ac]at h
 | _::_,_::_,[],X,es,es',as,ls,vs,G,h,d,e,j,c=>by simp[D9,Ac]at h
end
end Go.CT
namespace Go.CT
open EM
def As6 (P:Program)(K:Nat->Prop)(μ:Nat->Value):PS->Value->List Bk->Prop
 | .box t bs,u,l=> ∃k,l= [.box k t bs]/\K k/\μ k=u
 | .arr t,u,l=> ∃k e a,l= [.arr k e a]/\K k/\μ k=u/\P.underlying t=some (.slice e)/\P.underlying a=some (.slice e)
 | .bld t bk,u,l=> ∃k st e,A2y P t=some (st,e)/\l=(if bk then[.bld k t e st]else[])/\K k/\μ k=u
 | _,_,l=>l= []
def Ou (P:Program)(K:Nat->Prop)(μ:Nat->Value):List PS->List Value->List Bk->Prop
 | [],[],l=>l= []
 | p::c,u::us,l=> ∃a b,l=a++b/\As6 P K μ p u a/\Ou P K μ c us b
 | _,_,_=>False
section
variable {P:Program}{N:Nat}{X:Nat->Prop}{R:Job->List IV->Option (List IV)}{ρ:List IV}{K:Nat->Prop}{S:View}{μ:Nat->Value}{a:Act}{w:World}{es es':ES}{ls:List PLt}{sx:SX}
theorem Xp {al:Bool}{t:TypeId}{p:PV}{x:Arg}{v:Value}(G:Good P N X ρ K S.tm (cur S es.obs) μ a w)(h:Ev S (Zp P al t p) es x es' ls)(z:LH R ρ ls)(A:holds ρ es.gs=some true)
  (r:Ab7 (Bh P X ρ (cur S es.obs) μ w) p v):
  Ph P N X ρ K S μ a w es es'/\ ∃iv,x.ev ρ=some iv/\On P w (Auc al X [] (cur S es'.obs) μ) (λ_=>False) t iv v:=by
 unfold Zp at h
 split at h
 ·rename_i k
  rw[Ab]at h
  obtain⟨o,_,_,l2,g,h,rfl⟩:=h
  rw[Bp]at g
  obtain⟨y,rfl,rfl⟩:=g
  cases o with
  | arr=>simp[Ac]at h
  | frz=>simp[Ac]at h
  | iter=>simp[Ac]at h
  | mp=>simp[Ac]at h
  | box t0 vv=>
   rw[Ab]at h
   obtain⟨_,_,_,_,g,h,rfl⟩:=h
   rw[Af]at g
   obtain⟨e,rfl,rfl⟩:=g
   simp only[aA,beq_iff_eq,decide_eq_true_eq]at e
   obtain⟨rfl,e⟩:=e
   obtain⟨b,u,B,C,E,o4,o5,F⟩:=G.obj k _ y
   obtain⟨H,I,J⟩:=D6 G h (by simpa using z) A (G.ko k _ y).2 F
   obtain⟨iv,L,M⟩:=Rel.as (O:=Auc al X [] (cur S es'.obs) μ) I J λb j=>⟨j.1,by simpa [Bh]using j.2⟩
   refine⟨H,iv,L,⟨b,0,none⟩,u,?_,⟨E,λi c Q=>?_⟩,e,id,M⟩
   ·obtain⟨T,r1,r2⟩:=r
    have d:μ k= .pointer (some ⟨T,0,none⟩):=r1
    have m:μ k= .pointer (some ⟨b,0,none⟩):=B
    rw[m]at d;injection d with d;injection d with d;injection d with d
    subst d
    rw[r2,A6]
   ·rw[Lw]
    have q:w.heap[b]?=some (.cells u.cells t (0,0)):=C
    simp only[World.cell?,q]
    exact Q
 ·rename_i x' t0
  simp only[Ab,Af,Ad]at h
  obtain⟨_,_,_,_,⟨e,rfl,rfl⟩,⟨rfl,rfl,rfl⟩,rfl⟩:=h
  have:t=t0:=by simpa using e
  subst this
  obtain⟨ad,u,⟨iv,r1,r2⟩,U,Y,r5,Z⟩:=r
  refine⟨.refl G,iv,r1,ad,u,by rw[Z,A6],U,Y,id,r2.weaken λb _ j=>by simpa [Bh]using j.2⟩
 ·simp[Ac]at h
theorem T8 {al:Bool} : ∀ {ts:List TypeId} {d:List PV} {es es':ES} {as:List Arg} {ls:List PLt} {vs:List Value},Good P N X ρ K S.tm (cur S es.obs) μ a w->Ev S (I3 P al ts d) es as es' ls->LH R ρ ls->holds ρ es.gs=some true->
  (∀k∈d.flatMap Di,K k)->Mk (Bh P X ρ (cur S es.obs) μ w) d vs->
  Ph P N X ρ K S μ a w es es'/\ ∃xs,bP ρ as=some xs/\Ha P w (Auc al X [] (cur S es'.obs) μ) (λ_=>False) ts xs vs
 | [],[],es,es',as,ls,vs,G,h,e,g,j,c=>by
  unfold I3 at h
  rw[Ad]at h
  obtain⟨rfl,rfl,rfl⟩:=h
  cases vs with
  | cons=>exact c.elim
  | nil=>exact⟨.refl G,[],rfl,trivial⟩
 | t::ts,p::d,es,es',as,ls,vs,G,h,e,g,j,c=>by
  cases vs with
  | nil=>exact c.elim
  | cons v vs=>
   unfold I3 at h
   simp only[Ab]at h
   obtain⟨x,e1,H,_,u,⟨as,I,J,_,y,o,rfl⟩,rfl⟩:=h
   rw[Ad]at o
   obtain⟨rfl,rfl,rfl⟩:=o
   have i: ∀k∈d.flatMap Di,K k:=λk z=>j k (by rw[aC];exact aB _ z)
   obtain⟨m,iv,A,B⟩:=Xp G u e.left g c.1
   obtain⟨q,xs,C,E⟩:=T8 m.Cj y e.right.left (by rw[m.gs];exact g) i (m.later.Ad4 i c.2)
   refine⟨m.trans q,iv::xs,Ey A C,B.weaken λb F r=>⟨r.1,?_⟩,E⟩
   have:=q.later.O b F (by simpa [Bh]using r.2)
   simpa [Bh]using this
 | [],_::_,es,es',as,ls,vs,G,h,e,g,j,c=>by simp[I3,Ac]at h
 | _::_,[],es,es',as,ls,vs,G,h,e,g,j,c=>by simp[I3,Ac]at h
theorem Atb {al:Bool}{p:PS}{vv:VV}{r:List Arg × List Bk}{u:Value}(G:Good P N X ρ K S.tm (cur S es.obs) μ a w)(h:Ev S (A2g P al p vv) es r es' ls)(C:LH R ρ ls)(E:holds ρ es.gs=some true)
  (hk: ∀k∈Ax vv,K k) (F:K0 (Bh P X ρ (cur S es.obs) μ w) vv u) (i:p.Dy=true\/al=true):
  ∃xs L,bP ρ r.1=some xs/\Nu P N X ρ K S μ a w L es es'/\ArgRel P w (Auc al X L (cur S es'.obs) μ) (λ_=>False) p xs u L/\As6 P K μ p u r.2:=by
 unfold A2g at h
 cases p with
 | data t=>
  simp only[Ab,Ad]at h
  obtain⟨x,e1,l1,_,y,⟨rfl,rfl,rfl⟩,rfl⟩:=h
  obtain⟨T,U,Y⟩:=D6 G y (by simpa using C) E hk F
  obtain⟨iv,Z,A⟩:=Rel.as (O:=Auc al X [] (cur S e1.obs) μ) U Y λb q=>⟨q.1,by simpa [Bh]using q.2⟩
  exact⟨[iv],[],Ey Z rfl,T.Ab5,⟨iv,rfl,rfl,A⟩,rfl⟩
 | arr t=>
  have i:al=true:=by simpa [bT]using i
  subst i
  simp only at h
  split at h
  ·rename_i k t1
   rw[Ab]at h
   obtain⟨o,_,_,l2,B,h,rfl⟩:=h
   rw[Bp]at B
   obtain⟨j,rfl,rfl⟩:=B
   cases o with
   | box=>simp[Ac]at h
   | frz=>simp[Ac]at h
   | iter=>simp[Ac]at h
   | mp=>simp[Ac]at h
   | arr e t' c=>
    simp only[Ab,Af,Bd,Ad]at h
    obtain⟨_,_,_,_,⟨m,rfl,rfl⟩,⟨_,_,_,_,⟨rfl,rfl⟩,⟨rfl,rfl,rfl⟩,rfl⟩,rfl⟩:=h
    have m:Cr P t=some e:=by simpa using m
    obtain⟨ivs,cs,Z,A,q3,q4,q5,q6⟩:=G.obj k _ j
    have A:P.underlying t'=some (.slice e):=A
    have hu:u=μ k:=F.1
    subst hu
    have d:=Nu.drop (n:=es.n) G j rfl
    refine⟨[.list ivs],_,Ey Z rfl,d,⟨e,ivs,rfl,rfl,Be m,q3,cs,q4,?_,q6⟩,k,e,t',rfl,(G.ko k _ j).1,rfl,Be m,A⟩
    exact Ja.weaken (O:=(Bh P X ρ (cur S es.obs) μ w).O) q5 λb q j=>d.later.O b q j.2
  ·simp[Ac]at h
 | own t=>
  have i:al=true:=by simpa [bT]using i
  subst i
  simp only at h
  split at h
  ·rename_i l
   simp only[Ab,Ao,Ad]at h
   obtain⟨e,_,_,_,⟨y,rfl,rfl⟩,⟨x,e1,l1,_,h2,⟨rfl,rfl,rfl⟩,rfl⟩,rfl⟩:=h
   obtain⟨ys,r1,r2,r3⟩:=N1 G h2 (by simpa using C) E F
   exact⟨_,_,Ey r1 rfl,r2,⟨e,ys,rfl,rfl,Be y,r3.weaken λb _ q=>q.2⟩,rfl⟩
  ·simp[Ac]at h
 | box t bs=>
  have i:al=true:=by simpa [bT]using i
  subst i
  simp only at h
  split at h
  ·rename_i k
   rw[Ab]at h
   obtain⟨o,_,_,l2,B,h,rfl⟩:=h
   rw[Bp]at B
   obtain⟨j,rfl,rfl⟩:=B
   cases o with
   | arr=>simp[Ac]at h
   | frz=>simp[Ac]at h
   | iter=>simp[Ac]at h
   | mp=>simp[Ac]at h
   | box t0 v0=>
    simp only[Ab,Af,Bd,Ao,Ad]at h
    obtain⟨_,_,_,_,⟨m,rfl,rfl⟩,⟨cs,e1,l1,_,y,⟨_,_,_,_,⟨rfl,rfl⟩,⟨ts,_,_,_,⟨h2,rfl,rfl⟩,⟨as,e2,l3,_,h3,⟨rfl,rfl,rfl⟩,rfl⟩,rfl⟩,rfl⟩,rfl⟩,rfl⟩:=h
    have:t=t0:=by simpa using m
    subst this
    obtain⟨b,v,z,H,o3,o4,o5,o6⟩:=G.obj k _ j
    have z:μ k= .pointer (some ⟨b,0,none⟩):=z
    have H:w.heap[b]?=some (.cells v.cells t (0,0)):=H
    obtain⟨⟨n1,rfl⟩,Z,A⟩:=I6 y (by simpa using LH.left (by simpa using C)) E (G.ko k _ j).2 o6
    have d:=Nu.drop (n:=n1) G j rfl
    obtain⟨xs,L,s1,s2,s3⟩:=Lc d.Cj h3 (by simpa using LH.right (by simpa using C)) (by rw[d.gs];exact E) A (d.later.Acu A Z)
    have hu:u=μ k:=by
     obtain⟨b',r1,r2⟩:=F
     have I:μ k= .pointer (some ⟨b',0,none⟩):=r1
     rw[r2,A6,I]
    subst hu
    have q:(blk (μ k)).toList = [b]:=by rw[z];rfl
    refine⟨xs,_,s1,d.trans s2,⟨b,v,L,z,H,⟨ts,h2,o3,o4,s3.weaken λc hc hO=>⟨rfl,?_⟩⟩,by rw[q];rfl⟩,k,rfl,(G.ko k _ j).1,rfl⟩
    simpa [or_assoc]using hO.2
  ·simp[Ac]at h
 | fnb f n=>
  simp only[Ad]at h
  obtain⟨rfl,rfl,rfl⟩:=h
  exact⟨[],[],rfl,(dW G).Ab5,⟨rfl,rfl⟩,rfl⟩
 | fn f ts=>
  simp only at h
  split at h
  ·rename_i g caps
   simp only[Ab,Af,Ad]at h
   obtain⟨_,_,_,_,⟨m,rfl,rfl⟩,⟨as,e1,l1,_,y,⟨rfl,rfl,rfl⟩,rfl⟩,rfl⟩:=h
   have:f=g:=by simpa using m
   subst this
   obtain⟨vs,rfl,hp⟩:=F
   obtain⟨T,xs,U,Y⟩:=T8 G y (by simpa using C) E hk hp
   exact⟨xs,[],U,T.Ab5,⟨vs,rfl,rfl,Y⟩,rfl⟩
  ·simp[Ac]at h
 | rd t=>
  simp only at h
  split at h
  ·rename_i p
   simp only[Ab,Ad]at h
   obtain⟨x,e1,l1,_,y,⟨rfl,rfl,rfl⟩,rfl⟩:=h
   obtain⟨T,iv,U,Y⟩:=Xp G y (by simpa using C) E F
   exact⟨[iv],[],Ey U rfl,T.Ab5,⟨iv,rfl,rfl,Y⟩,rfl⟩
  ·simp[Ac]at h
 | bld t bk=>
  have i:al=true:=by simpa [bT]using i
  subst i
  simp only at h
  split at h
  ·rename_i k
   rw[Ab]at h
   obtain⟨o,_,_,l2,B,h,rfl⟩:=h
   rw[Bp]at B
   obtain⟨j,rfl,rfl⟩:=B
   split at h
   ·rename_i t0 t1 k1 lv
    simp only[Ab,Af,Bd,Ao,Ad]at h
    obtain⟨se,_,_,_,⟨aa,rfl,rfl⟩,⟨_,_,_,_,⟨m,rfl,rfl⟩,⟨_,_,_,_,⟨rfl,rfl⟩,⟨x,e2,l3,_,h3,⟨rfl,rfl,rfl⟩,rfl⟩,rfl⟩,rfl⟩,rfl⟩:=h
    simp only[aA,beq_iff_eq]at m
    obtain⟨e0,e1⟩:=m
    subst e0;subst e1
    obtain⟨b,v,z,H,o3,o4,o5,o6⟩:=G.obj k1 _ j
    have z:μ k1= .pointer (some ⟨b,0,none⟩):=z
    have H:w.heap[b]?=some (.cells v.cells t (0,0)):=H
    have hu:u=μ k1:=by
     obtain⟨b',r1,r2⟩:=F
     have I:μ k1= .pointer (some ⟨b',0,none⟩):=r1
     rw[r2,A6,I]
    subst hu
    obtain⟨cs,rfl,hc⟩:=o6
    obtain⟨M,Q,J⟩: ∃M Q,cs.toList= [M,Q]:=by
     match J:cs.toList,hc with
     | [M,Q],_=>exact⟨M,Q,rfl⟩
     | [],h=>exact h.elim
     | [_],h=>exact h.2.elim
     | _::_::_::_,h=>exact h.2.2.elim
    rw[J]at hc
    have ab:cs= #[M,Q]:=by rw[<-aP (xs:=cs),J]
    subst ab
    have d:=Nu.drop (n:=es.n) G j rfl
    have ac: ∀k∈A5 lv,K k:=λk' ad=>(G.ko k1 _ j).2 k' (by simp[E4,Ax,ad])
    obtain⟨ys,r1,r2,r3⟩:=N1 d.Cj h3 (by simpa using C) (by rw[d.gs];exact E) (d.later.Bdz ac hc.2.1.2)
    have q:(blk (μ k1)).toList = [b]:=by rw[z];rfl
    refine⟨[.list ys],_,Ey r1 rfl,d.trans r2,⟨b,M,Q,ys,se.1,se.2,z,H,?_,aa,rfl,r3.weaken λb' ae hO=>?_,by rw[q];rfl⟩,k1,se.1,se.2,aa,rfl,(G.ko k1 _ j).1,rfl⟩
    ·exact hc.1.2.imp id λh=>h.1
    ·simpa [or_assoc]using hO.2
   ·simp[Ac]at h
  ·simp[Ac]at h
theorem E2: ∀ {xs ys:List Arg} {us vs:List IV},bP ρ xs=some us->bP ρ ys=some vs->bP ρ (xs++ys)=some (us++vs)
 | [],ys,us,vs,a,c=>by
  simp only[bP,aE]at a
  subst a;exact c
 | x::xs,ys,us,vs,a,c=>by
  unfold bP at a
  cases b:x.ev ρ with
  | none=>simp[b]at a
  | some u=>
   cases d:bP ρ xs with
   | none=>simp[b,d]at a
   | some r=>
    simp[b,d]at a
    subst a
    exact Ey b (E2 d c)
theorem Qr {al:Bool} : ∀ {e:List PS} {vvs:List VV} {X:Nat->Prop} {es es':ES} {r:List Arg × List Bk} {ls:List PLt} {us:List Value},Good P N X ρ K S.tm (cur S es.obs) μ a w->Ev S (Pr P al e vvs) es r es' ls->LH R ρ ls->
  holds ρ es.gs=some true->(∀k∈vvs.flatMap Ax,K k)->Eh (Bh P X ρ (cur S es.obs) μ w) vvs us->(e.all bT=true\/al=true)->
  ∃xs L,bP ρ r.1=some xs/\Nu P N X ρ K S μ a w L es es'/\D0 P w (Auc al X L (cur S es'.obs) μ) (λ_=>False) e xs us L/\Ou P K μ e us r.2
 | [],[],X,es,es',r,ls,us,G,h,g,i,j,d,c=>by
  unfold Pr at h
  rw[Ad]at h
  obtain⟨rfl,rfl,rfl⟩:=h
  cases us with
  | cons=>exact d.elim
  | nil=>exact⟨[],[],rfl,(dW G).Ab5,⟨rfl,rfl⟩,rfl⟩
 | p::e,vv::vvs,X,es,es',r,ls,us,G,h,g,i,j,d,c=>by
  cases us with
  | nil=>exact d.elim
  | cons u us=>
   unfold Pr at h
   simp only[Ab]at h
   obtain⟨r1,e1,M,_,A,⟨r2,Q,T,_,B,x,rfl⟩,rfl⟩:=h
   rw[Ad]at x
   obtain⟨rfl,rfl,rfl⟩:=x
   have m: ∀k∈vvs.flatMap Ax,K k:=λk t=>j k (by rw[aC];exact aB _ t)
   simp only[aX,aA]at c
   obtain⟨xs,L1,C,q,E,F⟩:=Atb G A g.left i (λk t=>j k (by rw[aC];exact aD _ t)) d.1 (c.imp (·.1) id)
   obtain⟨ys,L2,H,y,I,J⟩:=Qr q.Cj B g.right.left (by rw[q.gs];exact i) m (q.later.Qq m d.2) (c.imp (·.2) id)
   refine⟨xs++ys,L1++L2,E2 C H,q.trans y,⟨xs,ys,L1,L2,rfl,rfl,E.weaken λb z o=>⟨o.1,?_⟩,I.weaken λb z o=>⟨o.1,by simpa [or_assoc]using o.2⟩⟩,_,_,rfl,F,J⟩
   have:=y.later.O b z (by simpa [Bh,or_assoc]using o.2)
   exact this
 | [],_::_,X,es,es',r,ls,us,G,h,g,i,j,d,c=>by simp[Pr,Ac]at h
 | _::_,[],X,es,es',r,ls,us,G,h,g,i,j,d,c=>by simp[Pr,Ac]at h
def PS.Ajw:PS->Bool
 | .data _=>true
 | _=>false
theorem Ata {p:PS}{vv:VV}{r:List Arg × List Bk}(h:Ev S (A2g P false p vv) es r es' ls)(a:p.safe P=true)(hd:p.Ajw=false):Ev S (A2g P true p vv) es r es' ls:=by
 cases p with
 | data t=>cases hd
 | arr t=>exact h
 | own t=>exact h
 | bld t b=>exact h
 | fnb f n=>exact h
 | rd t=>cases a
 | fn f ts=>
  have:ts= []:=by simpa [dA]using a
  subst this
  unfold A2g at h ⊢
  simp only at h ⊢
  split at h
  ·rename_i g caps
   have e:I3 P true [] caps=I3 P false [] caps:=by cases caps<;>rfl
   simp only[e]
   exact h
  ·simp[Ac]at h
 | box t bs=>
  unfold A2g at h ⊢
  simp only at h ⊢
  split at h
  ·rename_i k
   rw[Ab]at h ⊢
   obtain⟨o,e1,q,u,w,h,rfl⟩:=h
   refine⟨o,e1,q,u,w,?_,rfl⟩
   cases o with
   | box t0 v0=>
    simp only at h ⊢
    rw[Ab]at h ⊢
    obtain⟨x1,x,y,z,A,h,rfl⟩:=h
    refine⟨x1,x,y,z,A,?_,rfl⟩
    rw[Ab]at h ⊢
    obtain⟨B,C,E,F,G,h,rfl⟩:=h
    refine⟨B,C,E,F,G,?_,rfl⟩
    rw[Ab]at h ⊢
    obtain⟨H,I,J,K,L,h,rfl⟩:=h
    refine⟨H,I,J,K,L,?_,rfl⟩
    rw[Ab]at h ⊢
    obtain⟨ts,e5,M,c,m,h,rfl⟩:=h
    refine⟨ts,e5,M,c,m,?_,rfl⟩
    rw[Ab]at h ⊢
    obtain⟨as,N,d,i,Q,h,rfl⟩:=h
    refine⟨as,N,d,i,L8 Q ?_,h,rfl⟩
    obtain⟨j,_,_⟩:=Ao.1 m
    simpa [dA,j]using a
   | _=>simp[Ac]at h
  ·simp[Ac]at h
theorem Ana {p:PS}{a:List PS}{v:VV}{vs:List VV}(hd:p.Ajw=false):Acm (p::a) (v::vs)=Acm a vs:=by cases p<;>first | rfl | cases hd
theorem Ahr {p:PS}{a:List PS}{v:VV}{vs:List VV}(hd:p.Ajw=false):Nh (p::a) (v::vs)=Nh a vs:=by cases p<;>first | (cases v<;>rfl) | cases hd
theorem T4 {KS:List Nat} : ∀ {o:List PS} {vvs:List VV} {X:Nat->Prop} {es es':ES} {r:List Arg × List Bk} {ls:List PLt} {us:List Value},Good P N X ρ K S.tm (cur S es.obs) μ a w->Ev S (Pr P false o vvs) es r es' ls->LH R ρ ls->
  holds ρ es.gs=some true->(∀k∈vvs.flatMap Ax,K k)->Eh (Bh P X ρ (cur S es.obs) μ w) vvs us->o.all (dA P)=true->Nh o vvs=true->(∀k∈Acm o vvs,∀e t c,cur S es.obs k=some (.arr e t c)->k∈KS)->
  ∃xs L,bP ρ r.1=some xs/\Nu P N X ρ K S μ a w L es es'/\D0 P w (λb=>(X b\/b∈L)/\ ∀k∈KS,blk (μ k)≠some b) (λ_=>False) o xs us L/\Ou P K μ o us r.2
 | [],[],X,es,es',r,ls,us,G,h,q,y,i,j,A,hd,g=>by
  unfold Pr at h
  rw[Ad]at h
  obtain⟨rfl,rfl,rfl⟩:=h
  cases us with
  | cons=>exact j.elim
  | nil=>exact⟨[],[],rfl,(dW G).Ab5,⟨rfl,rfl⟩,rfl⟩
 | p::o,vv::vvs,X,es,es',r,ls,us,G,h,q,y,i,j,A,hd,g=>by
  cases us with
  | nil=>exact j.elim
  | cons u us=>
   unfold Pr at h
   simp only[Ab]at h
   obtain⟨r1,e1,l1,_,B,⟨r2,e2,l2,_,Y,Z,rfl⟩,rfl⟩:=h
   rw[Ad]at Z
   obtain⟨rfl,rfl,rfl⟩:=Z
   have C: ∀k∈Ax vv,K k:=λk H=>i k (by rw[aC];exact aD _ H)
   have m: ∀k∈vvs.flatMap Ax,K k:=λk H=>i k (by rw[aC];exact aB _ H)
   simp only[aX,aA]at A
   cases hp:p.Ajw with
   | false=>
    rw[Ahr hp]at hd
    rw[Ana hp]at g
    obtain⟨xs,L1,z,E,p3,p4⟩:=Atb G (Ata B A.1 hp) q.left y C j.1 (.inr rfl)
    obtain⟨ys,L2,I,F,J,M⟩:=T4 E.Cj Y q.right.left (by rw[E.gs];exact y) m (E.later.Qq m j.2) A.2 hd (λk i e t c d=>g k i e t c (E.Dv k _ d rfl))
    refine⟨xs++ys,L1++L2,E2 z I,E.trans F,⟨xs,ys,L1,L2,rfl,rfl,p3.weaken λb hb d=>⟨rfl,?_⟩,J.weaken λb hb d=>?_⟩,_,_,rfl,p4,M⟩
    ·rcases d.1 with d | d
     ·exact .inl (.inl d)
     ·rcases aG.1 d with d | d
      ·exact .inl (.inr d)
      ·exact .inr (F.own b d)
    ·exact⟨by simpa [or_assoc]using d.1,d.2⟩
   | true=>
    cases p with
    | data t=>
     unfold A2g at B
     simp only[Ab,Ad]at B
     obtain⟨x,aa,ab,_,B,⟨rfl,rfl,rfl⟩,rfl⟩:=B
     obtain⟨z,E,p3⟩:=D6 G B (by simpa using q.left) y C j.1
     have Q:(∃l,vv= .leaf l)\/Ax vv= []:=by
      cases vv with
      | leaf l=>exact .inl ⟨l,rfl⟩
      | agg t' cs=>right;simp only[Nh,aA,cP]at hd;exact hd.1
     have T:Nh o vvs=true:=by
      cases vv with
      | leaf l=>exact hd
      | agg t' cs=>simp only[Nh,aA]at hd;exact hd.2
     obtain⟨iv,d1,d2⟩:=Anq (KS:=KS) G B (by simpa using q.left) y C j.1 (λk i e t c d=>g k (by simp only[Acm];exact aD _ i) e t c d) Q
     obtain⟨ys,L2,I,F,J,M⟩:=T4 z.Cj Y q.right.left (by rw[z.gs];exact y) m (z.later.Qq m j.2) A.2 T (λk i e t c d=>g k (by simp only[Acm];exact aB _ i) e t c (z.Dv k _ d rfl))
     have U:=z.Ab5.trans (F.congr λb=>by simp)
     refine⟨[iv]++ys,[]++L2,E2 (Ey d1 rfl) I,U,⟨[iv],ys,[],L2,rfl,rfl,⟨iv,rfl,rfl,d2.weaken λb hb d=>⟨d.1.imp id λh=>z.Dv.wr (F.own b (by simpa using h)),d.2⟩⟩,by simpa using J⟩,_,_,rfl,rfl,M⟩
    | _=>cases hp
 | [],_::_,X,es,es',r,ls,us,G,h,q,y,i,j,A,hd,g=>by simp[Pr,Ac]at h
 | _::_,[],X,es,es',r,ls,us,G,h,q,y,i,j,A,hd,g=>by simp[Pr,Ac]at h
theorem Ry: ∀ {ks r:List Nat} {es es':ES} {ls:List PLt},Ev S (Pz ks) es r es' ls->es=es'/\ls= []/\ ∀k∈ks,∀e t c,cur S es.obs k=some (.arr e t c)->k∈r
 | [],r,es,es',ls,h=>by
  unfold Pz at h
  rw[Ad]at h
  exact⟨h.2.1,h.2.2,by simp⟩
 | k::ks,r,es,es',ls,h=>by
  unfold Pz at h
  rw[Ab]at h
  obtain⟨o,e1,C,w,x,h,rfl⟩:=h
  obtain⟨y,rfl,rfl⟩:=Bp.1 x
  have other:Ev S (Pz ks) es r es' w->(∀e t c,o≠ .arr e t c)->es=es'/\ []++w= []/\ ∀d∈k::ks,∀e t c,cur S es.obs d=some (.arr e t c)->d∈r:=by
   intro h g
   obtain⟨z,A,i⟩:=Ry h
   refine⟨z,by simp[A],λd a e t c b=>?_⟩
   rcases bH.1 a with rfl | a
   ·rw[y]at b;injection b with b;exact absurd b (g _ _ _)
   ·exact i d a e t c b
  cases o with
  | arr e t c=>
   simp only at h
   rw[Ab]at h
   obtain⟨E,F,G,H,B,j,rfl⟩:=h
   obtain⟨rfl,m,j⟩:=Ad.1 j
   obtain⟨q,u,i⟩:=Ry B
   refine⟨q.trans m,by simp[j,u],λd a e t c b=>?_⟩
   rcases bH.1 a with rfl | a
   ·exact aH
   ·exact aF _ (i d a e t c b)
  | box=>exact other h (by intros;simp)
  | frz=>exact other h (by intros;simp)
  | iter=>exact other h (by intros;simp)
  | mp=>exact other h (by intros;simp)
theorem Ml {X0:Nat->Prop}{es0:ES}{L:List Nat}(d:Nu P N X0 ρ K S μ a w L es0 es): ∀ {ks:List Nat} {es':ES} {ls:List PLt} {u:Unit},Ev S (Mx ks) es u es' ls->es=es'/\ls= []/\ ∀k∈ks,∀b,blk (μ k)=some b->b∉L
 | [],es',ls,u,h=>by
  unfold Mx at h
  rw[Ad]at h
  exact⟨h.2.1,h.2.2,by simp⟩
 | k::ks,es',ls,u,h=>by
  unfold Mx at h
  rw[Ab]at h
  obtain⟨o,e1,A,B,j,h,rfl⟩:=h
  obtain⟨m,rfl,rfl⟩:=Bp.1 j
  cases o with
  | arr e t c=>
   obtain⟨q,r,x⟩:=Ml d h
   refine⟨q,by simp[r],λy g b i=>?_⟩
   rcases bH.1 g with rfl | g
   ·exact λz=>d.Cj.xsep _ _ b m rfl i (.inr z)
   ·exact x y g b i
  | box=>simp[Ac]at h
  | frz=>simp[Ac]at h
  | iter=>simp[Ac]at h
  | mp=>simp[Ac]at h
theorem Aco {X0:Nat->Prop}{es0:ES}{L:List Nat}{p:PV}{v:Value}{u:Unit}(d:Nu P N X0 ρ K S μ a w L es0 es)(h:Ev S (Ajx p) es u es' ls)(q:Ab7 (Bh P X0 ρ (cur S es0.obs) μ w) p v):
  es=es'/\ls= []/\ ∀ad,v= .pointer (some ad)->ad.block∉L:=by
 unfold Ajx at h
 cases p with
 | p k off=>
  simp only at h
  rw[Ab]at h
  obtain⟨o,_,_,A,r,h,rfl⟩:=h
  rw[Bp]at r
  obtain⟨y,rfl,rfl⟩:=r
  cases o with
  | arr=>simp[Ac]at h
  | frz=>simp[Ac]at h
  | iter=>simp[Ac]at h
  | mp=>simp[Ac]at h
  | box t0 vv=>
   rw[Ad]at h
   obtain⟨_,rfl,rfl⟩:=h
   refine⟨rfl,rfl,λad c j=>?_⟩
   obtain⟨b,r1,r2⟩:=q
   have m:μ k= .pointer (some ⟨b,0,none⟩):=r1
   rw[c]at r2;injection r2 with r2;injection r2 with r2
   subst r2
   rw[Dm]at j
   exact d.Cj.xsep k _ b y rfl (by rw[m];rfl) (.inr j)
 | im x t off=>
  simp only at h
  rw[Ad]at h
  obtain⟨_,rfl,rfl⟩:=h
  refine⟨rfl,rfl,λad c j=>?_⟩
  obtain⟨ad',u,B,C,E,z,g⟩:=q
  rw[c]at g;injection g with g;injection g with g
  subst g
  rw[Dm]at j
  exact z (d.own _ j)
 | el k e i off=>simp[Ac]at h
theorem On.apart {O Lt:Nat->Prop}{t:TypeId}{x:IV}{v:Value}(h:On P w O (λ_=>False) t x v)(b: ∀ad,v= .pointer (some ad)-> ¬ Lt ad.block):On P w O Lt t x v:=
 let ⟨ad,u,a,c,d,_,e⟩:=h; ⟨ad,u,a,c,d,b ad a,e⟩
theorem X5 {X0:Nat->Prop}{es0:ES}{L:List Nat}{O:Nat->Prop}(d:Nu P N X0 ρ K S μ a w L es0 es): ∀ {e:List PV} {ts:List TypeId} {xs:List IV} {vs:List Value} {es':ES} {ls:List PLt} {u:Unit},Ev S (T7 e) es u es' ls->Mk (Bh P X0 ρ (cur S es0.obs) μ w) e vs->
  Ha P w O (λ_=>False) ts xs vs->es=es'/\ls= []/\Ha P w O (· ∈L) ts xs vs
 | [],ts,xs,vs,es',ls,u,h,b,c=>by
  unfold T7 at h
  rw[Ad]at h
  obtain⟨_,rfl,rfl⟩:=h
  cases vs with
  | cons=>exact b.elim
  | nil=>exact⟨rfl,rfl,by cases ts<;>cases xs<;>simp_all[Ha]⟩
 | p::e,ts,xs,vs,es',ls,u,h,b,c=>by
  cases vs with
  | nil=>exact b.elim
  | cons v vs=>
   unfold T7 at h
   rw[Ab]at h
   obtain⟨_,e1,j,m,g,i,rfl⟩:=h
   obtain⟨rfl,rfl,q⟩:=Aco d g b.1
   cases ts with
   | nil=>cases xs<;>exact c.elim
   | cons t ts=>
    cases xs with
    | nil=>exact c.elim
    | cons x xs=>
     obtain⟨rfl,rfl,r⟩:=X5 d i b.2 c.2
     exact⟨rfl,rfl,c.1.apart q,r⟩
theorem Aqj {X0:Nat->Prop}{es0:ES}{L L1:List Nat}{O:Nat->Prop}{p:PS}{vv:VV}{v:Value}{xs:List IV}{u:Unit}(d:Nu P N X0 ρ K S μ a w L es0 es)(h:Ev S (Ash p vv) es u es' ls)(j:K0 (Bh P X0 ρ (cur S es0.obs) μ w) vv v)
  (b:ArgRel P w O (λ_=>False) p xs v L1):es=es'/\ls= []/\ArgRel P w O (· ∈L) p xs v L1:=by
 unfold Ash at h
 cases p with
 | rd t=>
  simp only at h
  split at h
  ·obtain⟨rfl,rfl,q⟩:=Aco d h j
   obtain⟨x,c,e,g⟩:=b
   exact⟨rfl,rfl,x,c,e,g.apart q⟩
  ·simp[Ac]at h
 | fn f ts=>
  simp only at h
  split at h
  ·obtain⟨vs,rfl,i⟩:=j
   obtain⟨m,c,e,g⟩:=b
   injection c with i1 _ c
   injection i1 with i1
   subst c;subst i1
   obtain⟨rfl,rfl,q⟩:=X5 d h i g
   exact⟨rfl,rfl,vs,rfl,e,q⟩
  ·simp[Ac]at h
 | data t=>rw[Ad]at h;obtain⟨_,rfl,rfl⟩:=h;exact⟨rfl,rfl,b⟩
 | fnb f n=>rw[Ad]at h;obtain⟨_,rfl,rfl⟩:=h;exact⟨rfl,rfl,b⟩
 | arr t=>rw[Ad]at h;obtain⟨_,rfl,rfl⟩:=h;exact⟨rfl,rfl,b⟩
 | own t=>rw[Ad]at h;obtain⟨_,rfl,rfl⟩:=h;exact⟨rfl,rfl,b⟩
 | box t bs=>rw[Ad]at h;obtain⟨_,rfl,rfl⟩:=h;exact⟨rfl,rfl,b⟩
 | bld t bk=>rw[Ad]at h;obtain⟨_,rfl,rfl⟩:=h;exact⟨rfl,rfl,b⟩
theorem Ak0 {X0:Nat->Prop}{es0:ES}{L:List Nat}{O:Nat->Prop}(d:Nu P N X0 ρ K S μ a w L es0 es): ∀ {e:List PS} {vvs:List VV} {xs:List IV} {vs:List Value} {L1:List Nat} {es':ES} {ls:List PLt} {u:Unit},Ev S (still e vvs) es u es' ls->
  Eh (Bh P X0 ρ (cur S es0.obs) μ w) vvs vs->D0 P w O (λ_=>False) e xs vs L1->es=es'/\ls= []/\D0 P w O (· ∈L) e xs vs L1
 | [],[],xs,vs,L1,es',ls,u,h,b,c=>by
  unfold still at h
  rw[Ad]at h
  obtain⟨_,rfl,rfl⟩:=h
  cases vs with
  | cons=>exact b.elim
  | nil=>exact⟨rfl,rfl,c⟩
 | p::e,vv::vvs,xs,vs,L1,es',ls,u,h,b,c=>by
  cases vs with
  | nil=>exact b.elim
  | cons v vs=>
   unfold still at h
   rw[Ab]at h
   obtain⟨_,e1,o,t,g,i,rfl⟩:=h
   obtain⟨ys,zs,La,Lb,rfl,rfl,j,m⟩:=c
   obtain⟨rfl,rfl,q⟩:=Aqj d g b.1 j
   obtain⟨rfl,rfl,r⟩:=Ak0 d i b.2 m
   exact⟨rfl,rfl,ys,zs,La,Lb,rfl,rfl,q,r⟩
 | [],_::_,xs,vs,L1,es',ls,u,h,b,c=>by simp[still,Ac]at h
 | _::_,[],xs,vs,L1,es',ls,u,h,b,c=>by simp[still,Ac]at h
end
end Go.CT
namespace Go.CT
open EM
structure Reg (c:Cx)(K:Nat->Prop)(tm:Nat->SV)(ob:Nat->Option Ob)(a:Act)(Rm:Nat->Prop):Prop where
 wo: ∀b,c.W b->c.O b
 slot: ∀s,Ap2 c (tm s) (a.tmps.getD s undef)
 obj: ∀k o,ob k=some o->Ae3 c k o
 sep: ∀k k' o o' b,ob k=some o->ob k'=some o'->o.Ea=true->o'.Ea=true->blk (c.μ k)=some b->blk (c.μ k')=some b->k=k'
 rest: ∀k o b,ob k=some o->o.Ea=true->blk (c.μ k)=some b-> ¬ Rm b/\c.W b
 kt: ∀s k,k∈Ca (tm s).x ->K k
 ko: ∀k o,ob k=some o->K k/\ ∀k'∈E4 o,K k'
def Cx.at (c:Cx)(μ:Nat->Value):Cx:= {c with μ}
theorem Cx.later {c:Cx}{K:Nat->Prop}{μ:Nat->Value}(wo: ∀b,c.W b->c.O b)(h: ∀k,K k->μ k=c.μ k):Dp K c (c.at μ):=
 {P:=rfl,ρ:=λ_ _ h=>h,μ:=h,stays:=cZ _ _,O:=λ_ _ h=>h,W:=λ_ _ h=>h,WO:=wo}
section
variable {P:Program}{N:Nat}{X:Nat->Prop}{R:Job->List IV->Option (List IV)}{ρ:List IV}{K:Nat->Prop}{S:View}{μ:Nat->Value}{a:Act}{w:World}{es es':ES}{ls:List PLt}{sx:SX}
 {tm:Nat->SV} {ob:Nat->Option Ob} {c:Cx} {Rm:Nat->Prop}
theorem Reg.put (G:Reg c K tm ob a Rm){k:Nat}{o:Ob}{hdr:Value}{K' Rm':Nat->Prop}(I:K k->c.μ k=hdr)(w: ∀b,blk hdr=some b->Rm b/\c.W b/\ ¬ Rm' b)(B: ∀b,Rm' b->Rm b)
  (x: ∀d,K d\/d=k->K' d) (C:Ae3 (c.at (Db c.μ k hdr)) k o) (j: ∀d∈E4 o,K' d):
  Reg (c.at (Db c.μ k hdr)) K' tm (Bo ob k (some o)) a Rm':=by
 have hμ: ∀d,K d->Db c.μ k hdr d=c.μ d:=by
  intro d E
  unfold Db
  split
  ·rename_i e;subst e;exact(I E).symm
  ·rfl
 have L:Dp K c (c.at (Db c.μ k hdr)):=Cx.later G.wo hμ
 have old: ∀d o',Bo ob k (some o) d=some o'->(d=k/\o'=o)\/(d≠k/\ob d=some o'):=by
  intro d o' h
  unfold Bo at h
  split at h
  ·rename_i e;injection h with h;exact .inl ⟨e,h.symm⟩
  ·rename_i e;exact .inr ⟨e,h⟩
 have m: ∀d o' b,d≠k->ob d=some o'->o'.Ea=true->blk (Db c.μ k hdr d)=some b-> ¬ Rm b/\c.W b:=by
  intro d o' b q g i u
  rw[Cy q]at u
  exact G.rest d o' b g i u
 refine⟨G.wo,λs=>L.Arc (G.kt s) (G.slot s),λd o' h=>?_,λk1 k2 F y b q g i u r t=>?_,λd o' b q g i=>?_,λs d h=>x d (.inl (G.kt s d h)),λd o' h=>?_⟩
 ·rcases old d o' h with⟨rfl,rfl⟩ | ⟨q,g⟩
  ·exact C
  ·exact L.Af0 (G.ko d o' g).1 (G.ko d o' g).2 (λ_ _ _ _=>rfl) (G.obj d o' g)
 ·have r:blk (Db c.μ k hdr k1)=some b:=r
  have t:blk (Db c.μ k hdr k2)=some b:=t
  rcases old k1 F q with⟨rfl,rfl⟩ | ⟨z,A⟩
  ·rcases old k2 y g with⟨rfl,rfl⟩ | ⟨r1,r2⟩
   ·rfl
   ·rw[Bb]at r
    exact absurd (w b r).1 (m k2 y b r1 r2 u t).1
  ·rcases old k2 y g with⟨rfl,rfl⟩ | ⟨r1,r2⟩
   ·rw[Bb]at t
    exact absurd (w b t).1 (m k1 F b z A i r).1
   ·rw[Cy z]at r;rw[Cy r1]at t
    exact G.sep k1 k2 F y b A r2 i u r t
 ·have i:blk (Db c.μ k hdr d)=some b:=i
  rcases old d o' q with⟨rfl,rfl⟩ | ⟨z,A⟩
  ·rw[Bb]at i
   exact⟨(w b i).2.2,(w b i).2.1⟩
  ·have:=m d o' b z A g i
   exact⟨λh=>this.1 (B b h),this.2⟩
 ·rcases old d o' h with⟨rfl,rfl⟩ | ⟨q,g⟩
  ·exact⟨x _ (.inr rfl),j⟩
  ·exact⟨x _ (.inl (G.ko d o' g).1),λk2 H=>x _ (.inl ((G.ko d o' g).2 k2 H))⟩
theorem Reg.keys (G:Reg c K tm ob a Rm){K' Rm':Nat->Prop}(d: ∀k,K k->K' k)(m: ∀b,Rm' b->Rm b):Reg c K' tm ob a Rm':=
 ⟨G.wo,G.slot,G.obj,G.sep,λk o b e g i=>⟨λh=>(G.rest k o b e g i).1 (m b h),(G.rest k o b e g i).2⟩,λs k h=>d k (G.kt s k h),λk o h=>⟨d k (G.ko k o h).1,λj h'=>d j ((G.ko k o h).2 j h')⟩⟩
theorem Ik {P:Program} : ∀ {bs:List Bool} {ts:List TypeId} {n:Nat} {es es':ES} {lvs:List LV} {ls:List PLt},Ev S (Cz P bs ts n) es lvs es' ls->es.m<=es'.m
 | [],[],n,es,es',lvs,ls,h=>by
  unfold Cz at h
  rw[Ad]at h
  obtain⟨_,rfl,_⟩:=h
  exact aK _
 | o::bs,t::ts,n,es,es',lvs,ls,h=>by
  cases o with
  | false=>
   unfold Cz at h
   rw[Ab]at h
   obtain⟨r,e1,c,_,d,a,rfl⟩:=h
   rw[Ad]at a
   obtain⟨_,rfl,_⟩:=a
   exact Ik d
  | true=>
   unfold Cz at h
   split at h
   ·simp only[Ab,Ii]at h
    obtain⟨gs,_,_,_,⟨rfl,rfl,rfl⟩,h,rfl⟩:=h
    rw[Hr]at h
    rcases h with⟨_,h⟩ | ⟨_,h⟩
    ·simp only[Ab,Cc,Bd]at h
     obtain⟨_,_,_,_,⟨rfl,rfl,rfl⟩,⟨_,_,_,_,⟨rfl,rfl⟩,⟨r,e1,c,_,a,b,rfl⟩,rfl⟩,rfl⟩:=h
     rw[Ad]at b
     obtain⟨_,rfl,_⟩:=b
     have:=Ik a
     exact cF this
    ·rw[Ab]at h
     obtain⟨r,e1,c,_,d,a,rfl⟩:=h
     rw[Ad]at a
     obtain⟨_,rfl,_⟩:=a
     exact Ik d
   ·simp only[Ab,Dh,Ao,Cc,Bd]at h
    obtain⟨_,_,_,_,⟨_,rfl,rfl⟩,⟨kv,_,_,_,⟨_,rfl,rfl⟩,⟨_,_,_,_,⟨rfl,rfl,rfl⟩,⟨_,_,_,_,⟨rfl,rfl⟩,⟨r,e1,c,_,a,b,rfl⟩,rfl⟩,rfl⟩,rfl⟩,rfl⟩:=h
    rw[Ad]at b
    obtain⟨_,rfl,_⟩:=b
    have:=Ik a
    exact cF this
 | [],_::_,n,es,es',lvs,ls,h=>by simp[Cz,Ac]at h
 | _::_,[],n,es,es',lvs,ls,h=>by simp[Cz,Ac]at h
theorem R4: ∀ {bs:List Bool} {ts:List TypeId} {xs:List IV} {vs:List Value} {L:List Nat} {n:Nat} {es es':ES} {lvs:List LV} {ls:List PLt} {c:Cx} {K Rm:Nat->Prop},es.gs= []->Ev S (Cz c.P bs ts n) es lvs es' ls->
  Bs c.P c.w c.O bs ts xs vs L->(∀t∈ts,Ai c.P t=false)->L.Nodup->(∀b∈L,Rm b/\c.W b)->Reg c K S.tm (cur S es.obs) a Rm->(∀i,i<xs.length->c.ρ[n+i]?=xs[i]?)->(∀k,es.m<=k->k<es'.m-> ¬ K k)->
  ls= []/\es'.n=es.n/\es'.gs=es.gs/\es.m<=es'.m/\ ∃μ',(∀k,K k->μ' k=c.μ k)/\Reg (c.at μ') (As K es.m es'.m) S.tm (cur S es'.obs) a (λb=>Rm b/\b∉L)/\Dt (c.at μ') lvs vs/\ ∀k∈lvs.flatMap A5,As K es.m es'.m k
 | [],[],xs,vs,L,n,es,es',lvs,ls,c,K,Rm,H,h,u,N,I,B,G,hρ,j=>by
  unfold Cz at h
  rw[Ad]at h
  obtain⟨rfl,rfl,rfl⟩:=h
  cases xs with
  | cons=>cases vs<;>exact u.elim
  | nil=>
   cases vs with
   | cons=>exact u.elim
   | nil=>exact⟨rfl,rfl,rfl,aK _,c.μ,λ_ _=>rfl,G.keys (λk h=> .inl h) (λb h=>h.1),trivial,by simp⟩
 | o::bs,t::ts,xs,vs,L,n,es,es',lvs,ls,c,K,Rm,H,h,u,N,I,B,G,hρ,j=>by
  cases xs with
  | nil=>cases o<;>exact u.elim
  | cons x xs=>
  cases vs with
  | nil=>cases o<;>exact u.elim
  | cons v vs=>
  have Q: ∀t∈ts,Ai c.P t=false:=λt h=>N t (aF _ h)
  have hρ0:c.ρ[n]?=some x:=by simpa using hρ 0 (by simp)
  have hρ1: ∀i,i<xs.length->c.ρ[n+1+i]?=xs[i]?:=λi hi=>by
   have:=hρ (i+1) (by simpa using hi)
   simpa [bD,cU 1 i]using this
  cases o with
  | false=>
   obtain⟨c1,c2⟩:=u
   unfold Cz at h
   rw[Ab]at h
   obtain⟨r,e1,y,_,Y,q,rfl⟩:=h
   rw[Ad]at q
   obtain⟨rfl,rfl,rfl⟩:=q
   obtain⟨rfl,q1,q2,q3,μ',Z,q5,q6,q7⟩:=R4 H Y c2 Q I B G hρ1 j
   refine⟨rfl,q1,q2,q3,μ',Z,q5,⟨⟨(c1.one (N t aH)).1,⟨x,hρ0,c1⟩⟩,q6⟩,λk d=>?_⟩
   rw[aC]at d
   rcases aG.1 d with d | d
   ·simp[A5]at d
   ·exact q7 k d
  | true=>
   obtain⟨L',⟨ys,rfl,C⟩,c2,rfl⟩:=u
   -- what the object is, and ah it is told
   obtain⟨o,lv,e1,r,y,rfl,J,R,aa,ab,q,E⟩: ∃ (o:Ob) (lv:LV) (e1:ES) (r:List LV) (y:List PLt),ls=y/\(∀b,blk v=some b->True)/\
     (∀μ,μ es.m=v->Ae3 (c.at μ) es.m o/\E4 o= [])/\(∀c':Cx,c'.μ es.m=v->Bb0 c' lv v)/\A5 lv= [es.m]/\
     Ev S (Cz c.P bs ts (n+1)) {es with m:=es.m+1,obs:=(es.m,some o)::es.obs} r e1 y/\lvs=lv::r/\e1=es':=by
    unfold Cz at h
    rcases C with⟨e,M,⟨hs,cs,z,ac,T⟩⟩ | ⟨kt,vt,M,rr,cl,ents,rfl,m2,m3,m4⟩
    ·have he:Cr c.P t=some e:=by simp[Cr,M]
     simp only[he,Ab,Ii]at h
     obtain⟨gs,_,_,_,⟨rfl,rfl,rfl⟩,h,rfl⟩:=h
     rw[H]at h
     simp only[List.isEmpty_nil,Zt,Ab,Cc,Bd]at h
     obtain⟨_,_,_,_,⟨rfl,rfl,rfl⟩,⟨_,_,_,_,⟨rfl,rfl⟩,⟨r,e1,y,_,q,E,rfl⟩,rfl⟩,rfl⟩:=h
     rw[Ad]at E
     obtain⟨rfl,rfl,rfl⟩:=E
     obtain⟨_,_,A,nn,cap,rfl⟩:=J6 z
     refine⟨.arr e t (.v n),.ref es.m t,e1,r,y,by simp,λ_ _=>trivial,λμ hμ=>⟨⟨ys,cs,hρ0,M,hs,?_,ac,T⟩,rfl⟩,λc' F=>⟨rfl,F.symm,A,nn,cap,rfl⟩,rfl,q,rfl,rfl⟩
     show c.w.ownsRow 0 e (Ag c.P e) (μ es.m) ys.length cs
     rw[hμ];exact z
    ·have he:Cr c.P t=none:=by simp[Cr,M]
     simp only[he,Ab,Dh,Ao,Cc,Bd]at h
     obtain⟨_,_,_,_,⟨_,rfl,rfl⟩,⟨kv,_,_,_,⟨ad,rfl,rfl⟩,⟨_,_,_,_,⟨rfl,rfl,rfl⟩,⟨_,_,_,_,⟨rfl,rfl⟩,⟨r,e1,y,_,q,E,rfl⟩,rfl⟩,rfl⟩,rfl⟩,rfl⟩:=h
     rw[Ad]at E
     obtain⟨rfl,rfl,rfl⟩:=E
     have g:=O2 ad
     rw[M]at g;injection g with g;injection g with i1 i2
     subst i1;subst i2
     exact⟨.mp t kv.1 kv.2 (.v n),.mref es.m t,e1,r,y,by simp,λ_ _=>trivial,λμ hμ=>⟨⟨rr,cl,ents,ys,hμ,m2,M,m3,hρ0,m4⟩,rfl⟩,λc' F=>⟨rfl,F.symm,rr,rfl⟩,rfl,q,rfl,rfl⟩
   obtain⟨rfl,rfl⟩:=E
   have ae:es.m+1<=e1.m:=Ik q
   have U: ¬ K es.m:=j es.m (aK _) (by omega)
   rw[aR]at I
   obtain⟨ai,af,ag⟩:=I
   have G1:Reg (c.at (Db c.μ es.m v)) (As K es.m (es.m+1)) S.tm (cur S ((es.m,some o)::es.obs)) a (λb=>Rm b/\b∉(blk v).toList):=by
    rw[Bm]
    refine G.put (λh=>absurd h U) (λb J=>?_) (λb h=>h.1) (λk' h=>h.elim .inl λh=> .inr (by omega)) (R _ Bb).1 (λk' h=>by rw[(R (Db c.μ es.m v) Bb).2]at h;cases h)
    have X:b∈(blk v).toList :=by simp[J]
    have:=B b (aD _ X)
    exact⟨this.1,this.2,λh=>h.2 X⟩
   obtain⟨rfl,q1,q2,q3,μ',Z,q5,q6,q7⟩:=R4 (c:=c.at (Db c.μ es.m v)) (es:= {es with m:=es.m+1,obs:=(es.m,some o)::es.obs}) H q c2 Q af
    (λb J=>⟨⟨(B b (aB _ J)).1,λh=>ag b h b J rfl⟩,(B b (aB _ J)).2⟩) G1 hρ1 (λk Y q d=>by
     have Y:es.m+1<=k:=Y
     rcases d with d | d
     ·exact j k (by omega) q d
     ·omega)
   have hμk:μ' es.m=v:=by
    have:=Z es.m (.inr ⟨aK _,bC _⟩)
    rw[this];show Db c.μ es.m _ es.m=_;rw[Bb]
   have hw: ∀k,As (As K es.m (es.m+1)) (es.m+1) e1.m k->As K es.m e1.m k:=by
    rintro k ((h | h) | h)
    ·exact .inl h
    ·exact .inr (by omega)
    ·exact .inr (by omega)
   refine⟨rfl,q1,q2,cF ae,μ',λk d=>?_,q5.keys hw (λb h=>⟨⟨h.1,λh'=>h.2 (aD _ h')⟩,λh'=>h.2 (aB _ h')⟩),⟨aa (c.at μ') hμk,q6⟩,λk d=>?_⟩
   ·have:=Z k (.inl d)
    rw[this]
    show Db c.μ es.m _ k=_
    exact Cy λe=>U (e ▸ d)
   ·rw[aC]at d
    rcases aG.1 d with d | d
    ·rw[ab,bO]at d
     subst d;exact .inr ⟨aK _,by omega⟩
    ·exact hw k (q7 k d)
 | [],_::_,xs,vs,L,n,es,es',lvs,ls,c,K,Rm,H,h,u,N,I,B,G,hρ,j=>by simp[Cz,Ac]at h
 | _::_,[],xs,vs,L,n,es,es',lvs,ls,c,K,Rm,H,h,u,N,I,B,G,hρ,j=>by simp[Cz,Ac]at h
end
end Go.CT
namespace Go.CT
open EM
section
variable {P:Program}{N:Nat}{X:Nat->Prop}{R:Job->List IV->Option (List IV)}{ρ:List IV}{K:Nat->Prop}{S:View}{μ:Nat->Value}{a:Act}{w:World}{es es':ES}{ls:List PLt}{sx:SX}
 {tm:Nat->SV} {ob:Nat->Option Ob} {c:Cx} {Rm:Nat->Prop}
theorem Ar7 {t:TypeId}{lvs:List LV}{vv:VV}{v:Value}(h:Ev S (Avw c.P t lvs) es vv es' ls)(a:if Ai c.P t then ∃cs,v= .agg cs else v.oneCell'=true)(b:Dt c lvs v.cells.toList):
  es=es'/\ls= []/\K0 c vv v/\(∀k∈Ax vv,k∈lvs.flatMap A5):=by
 unfold Avw at h
 by_cases g:Ai c.P t=true
 ·simp only[g,Zt,Ad]at h a
  obtain⟨rfl,rfl,rfl⟩:=h
  obtain⟨cs,rfl⟩:=a
  exact⟨rfl,rfl,⟨cs,rfl,b⟩,λk d=>d⟩
 ·have e:Ai c.P t=false:=by simpa using g
  simp only[e,aL,Zf]at h a
  rw[Gx a]at b
  split at h
  ·rw[Ad]at h
   obtain⟨rfl,rfl,rfl⟩:=h
   exact⟨rfl,rfl,b.1.2,λk d=>by simpa [Ax]using d⟩
  ·simp[Ac]at h
theorem Bs.len {O:Nat->Prop} : ∀ {bs:List Bool} {ts:List TypeId} {xs:List IV} {vs:List Value} {L:List Nat},Bs P w O bs ts xs vs L->xs.length=bs.length
 | [],[],[],[],_,_=>rfl
 | true::bs,t::ts,x::xs,v::vs,L,h=>by
  obtain⟨_,_,h,_⟩:=h
  simp[Bs.len h]
 | false::bs,t::ts,x::xs,v::vs,L,h=>by simp[Bs.len h.2]
 | [],[],[],_::_,_,h=>h.elim
 | [],[],_::_,_,_,h=>h.elim
 | [],_::_,_,_,_,h=>h.elim
 | _::_,[],_,_,_,h=>by simp[Bs]at h
 | _::_,_::_,[],_,_,h=>by simp[Bs]at h
 | _::_,_::_,_::_,[],_,h=>by simp[Bs]at h
theorem Bs.one {O:Nat->Prop} : ∀ {bs:List Bool} {ts:List TypeId} {xs:List IV} {vs:List Value} {L:List Nat},Bs P w O bs ts xs vs L->(∀t∈ts,Ai P t=false)-> ∀v∈vs,v.oneCell'=true
 | [],[],[],[],_,_,_=>by simp
 | true::bs,t::ts,x::xs,v::vs,L,h,c=>by
  obtain⟨L',⟨ys,i,a⟩,d,j⟩:=h
  intro u b
  rcases bH.1 b with rfl | b
  ·rcases a with⟨e,m,_,cs,g,_⟩ | ⟨kt,vt,_,r,cl,ents,rfl,_⟩
   ·exact(J6 g).2.1
   ·rfl
  ·exact Bs.one d (λt h=>c t (aF _ h)) u b
 | false::bs,t::ts,x::xs,v::vs,L,h,c=>by
  intro u b
  rcases bH.1 b with rfl | b
  ·exact(h.1.one (c t aH)).1
  ·exact Bs.one h.2 (λt h=>c t (aF _ h)) u b
 | [],[],[],_::_,_,h,_=>h.elim
 | [],[],_::_,_,_,h,_=>h.elim
 | [],_::_,_,_,_,h,_=>h.elim
 | _::_,[],_,_,_,h,_=>by simp[Bs]at h
 | _::_,_::_,[],_,_,h,_=>by simp[Bs]at h
 | _::_,_::_,_::_,[],_,h,_=>by simp[Bs]at h
theorem As6.mono {K K':Nat->Prop}{μ μ':Nat->Value}(d: ∀k,K k->K' k)(hμ: ∀k,K k->μ' k=μ k){p:PS}{u:Value}{l:List Bk}(h:As6 P K μ p u l):As6 P K' μ' p u l:=by
 cases p with
 | box t bs=>obtain⟨k,c,a,b⟩:=h;exact⟨k,c,d k a,(hμ k a).trans b⟩
 | arr t=>obtain⟨k,e,i,c,a,b,g⟩:=h;exact⟨k,e,i,c,d k a,(hμ k a).trans b,g⟩
 | data t=>exact h
 | own t=>exact h
 | fn f ts=>exact h
 | fnb f n=>exact h
 | rd t=>exact h
 | bld t bk=>obtain⟨k,st,e,c,a,b,g⟩:=h;exact⟨k,st,e,c,a,d k b,(hμ k b).trans g⟩
theorem Ou.mono {K K':Nat->Prop}{μ μ':Nat->Value} : ∀ {a:List PS} {us:List Value} {l:List Bk},Ou P K μ a us l->(∀k,K k->K' k)->(∀k,K k->μ' k=μ k)->Ou P K' μ' a us l
 | [],[],_,h,_,_=>h
 | _::_,_::_,_,h,b,hμ=>by
  obtain⟨c,d,e,g,i⟩:=h
  exact⟨c,d,e,g.mono b hμ,i.mono b hμ⟩
 | [],_::_,_,h,_,_=>h.elim
 | _::_,[],_,h,_,_=>h.elim
def Ba3 (c:Cx)(K:Nat->Prop)(S:View)(a:Act)(Rm:Nat->Prop)(L:List Nat)(es es':ES)(ls:List PLt)(Good':(Nat->Value)->Prop):Prop:=
 ls= []/\es'.n=es.n/\es'.gs=es.gs/\es.m<=es'.m/\ ∃μ',(∀k,K k->μ' k=c.μ k)/\Reg (c.at μ') (As K es.m es'.m) S.tm (cur S es'.obs) a (λb=>Rm b/\b∉L)/\Good' μ'
theorem Ct {K:Nat->Prop}{m1 m2 m3:Nat}(a:m1<=m2)(b:m2<=m3): ∀k,As (As K m1 m2) m2 m3 k->As K m1 m3 k:=by
 rintro k ((h | h) | h)
 ·exact .inl h
 ·exact .inr (by omega)
 ·exact .inr (by omega)
theorem Of {xs ys:List IV}{n:Nat}(h: ∀i,i<(xs++ys).length ->ρ[n+i]?=(xs++ys)[i]?):(∀i,i<xs.length->ρ[n+i]?=xs[i]?)/\(∀i,i<ys.length->ρ[n+xs.length+i]?=ys[i]?):=by
 refine⟨λi a=>?_,λi a=>?_⟩
 ·have:=h i (by simp;omega)
  rwa [bA a]at this
 ·have:=h (xs.length+i) (by simp;omega)
  rw[bU (by omega),Nat.add_sub_cancel_left]at this
  rwa [bD]
theorem Ol.take {t:TypeId}{bs:List Bool}{xs:List IV}{v:Value}{L:List Nat}{n:Nat}{ts:List TypeId}{lvs:List LV}{vv:VV}{e1:ES}{g j:List PLt}(o:es.gs= [])(d:leaves c.P t=some ts)(q:Ev S (Cz c.P bs ts n) es lvs e1 g)(r:Ev S (Avw c.P t lvs) e1 vv es' j)
  (x:Ol c.P c.w c.O t bs xs v L) (y:L.Nodup) (z: ∀b∈L,Rm b/\c.W b) (G:Reg c K S.tm (cur S es.obs) a Rm) (hρ: ∀i,i<xs.length->c.ρ[n+i]?=xs[i]?) (e: ∀k,es.m<=k->k<e1.m-> ¬ K k):
  e1=es'/\j= []/\Ba3 c K S a Rm L es es' g λμ'=>K0 (c.at μ') vv v/\ ∀k∈Ax vv,As K es.m es'.m k:=by
 obtain⟨A,b1,b2,b3,b4⟩:=x
 rw[d]at b1;injection b1 with b1;subst b1
 obtain⟨rfl,B,C,E,μ',F,H,I,J⟩:=R4 o q b4 (λu M=>by
  obtain⟨i,N⟩:=bB.1 M
  exact Eb d i u N) y z G hρ e
 obtain⟨rfl,rfl,r1,r2⟩:=Ar7 (c:=c.at μ') r b3 I
 exact⟨rfl,rfl,rfl,B,C,E,μ',F,H,r1,λk Q=>J k (r2 k Q)⟩
theorem Vy {t:TypeId}{lvs:List LV}{vv:VV}(h:Ev S (Avw P t lvs) es vv es' ls):es=es':=by
 unfold Avw at h
 rw[Hr]at h
 rcases h with⟨_,h⟩ | ⟨_,h⟩
 ·rw[Ad]at h;exact h.2.1
 ·split at h
  ·rw[Ad]at h;exact h.2.1
  ·simp[Ac]at h
theorem Qo: ∀ {bs:List (TypeId × List Bool)} {n:Nat} {es es':ES} {r:List PV × Nat} {ls:List PLt},Ev S (Lk P bs n) es r es' ls->es.m<=es'.m
 | [],n,es,es',r,ls,h=>by
  unfold Lk at h
  rw[Ad]at h
  obtain⟨_,rfl,_⟩:=h
  exact aK _
 | b::bs,n,es,es',r,ls,h=>by
  unfold Lk at h
  simp only[Ab,Ao,Cc,Bd]at h
  obtain⟨ts,_,_,_,⟨i,rfl,rfl⟩,⟨lvs,e1,j,_,c,⟨vv,o,t,_,d,⟨_,_,_,_,⟨rfl,rfl,rfl⟩,⟨_,_,_,_,⟨rfl,rfl⟩,⟨q,u,w,_,e,a,rfl⟩,rfl⟩,rfl⟩,rfl⟩,rfl⟩,rfl⟩:=h
  rw[Ad]at a
  obtain⟨_,rfl,_⟩:=a
  have g:=Ik c
  have a2:=Vy d
  subst a2
  have a3:=Qo e
  exact aS g (cF a3)
theorem J9: ∀ {rs:List RS} {n:Nat} {es es':ES} {r:List VV × Nat} {ls:List PLt},Ev S (Ge P rs n) es r es' ls->es.m<=es'.m
 | [],n,es,es',r,ls,h=>by
  unfold Ge at h
  rw[Ad]at h
  obtain⟨_,rfl,_⟩:=h
  exact aK _
 | .whole t::rs,n,es,es',r,ls,h=>by
  unfold Ge at h
  rw[Ab]at h
  obtain⟨r,e1,e,_,d,a,rfl⟩:=h
  rw[Ad]at a
  obtain⟨_,rfl,_⟩:=a
  exact J9 d
 | .clip t::rs,n,es,es',r,ls,h=>by
  unfold Ge at h
  rw[Ab]at h
  obtain⟨r,e1,e,_,d,a,rfl⟩:=h
  rw[Ad]at a
  obtain⟨_,rfl,_⟩:=a
  exact J9 d
 | .strict t::rs,n,es,es',r,ls,h=>by
  unfold Ge at h
  rw[Ab]at h
  obtain⟨r,e1,e,_,d,a,rfl⟩:=h
  rw[Ad]at a
  obtain⟨_,rfl,_⟩:=a
  exact J9 d
 | .skip ::rs,n,es,es',r,ls,h=>by
  unfold Ge at h
  rw[Ab]at h
  obtain⟨r,e1,e,_,d,a,rfl⟩:=h
  rw[Ad]at a
  obtain⟨_,rfl,_⟩:=a
  exact J9 d
 | .nbox t bs::rs,n,es,es',r,ls,h=>by
  unfold Ge at h
  simp only[Ab,Dh]at h
  obtain⟨_,_,_,_,⟨_,rfl,rfl⟩,⟨b,e1,e,_,d,⟨q,g,i,_,a,c,rfl⟩,rfl⟩,rfl⟩:=h
  rw[Ad]at c
  obtain⟨_,rfl,_⟩:=c
  exact aS (Qo d) (J9 a)
 | .clo f bs::rs,n,es,es',r,ls,h=>by
  unfold Ge at h
  simp only[Ab,Dh]at h
  obtain⟨_,_,_,_,⟨_,rfl,rfl⟩,⟨b,e1,e,_,d,⟨q,g,i,_,a,c,rfl⟩,rfl⟩,rfl⟩:=h
  rw[Ad]at c
  obtain⟨_,rfl,_⟩:=c
  exact aS (Qo d) (J9 a)
 | .cells t bs::rs,n,es,es',r,ls,h=>by
  unfold Ge at h
  simp only[Ab,Ao]at h
  obtain⟨ts,_,_,_,⟨d,rfl,rfl⟩,⟨lvs,e1,e,_,a,⟨vv,g,i,_,c,⟨q,u,w,_,o,j,rfl⟩,rfl⟩,rfl⟩,rfl⟩:=h
  rw[Ad]at j
  obtain⟨_,rfl,_⟩:=j
  have x:=Ik a
  have a2:=J9 o
  have a3:e1.m=g.m:=by
   unfold Avw at c
   rw[Hr]at c
   rcases c with⟨_,c⟩ | ⟨_,c⟩
   ·rw[Ad]at c;obtain⟨_,rfl,_⟩:=c;rfl
   ·split at c
    ·rw[Ad]at c;obtain⟨_,rfl,_⟩:=c;rfl
    ·simp[Ac]at c
  omega
theorem Eh.append {c:Cx} : ∀ {xs ys:List VV} {us vs:List Value},Eh c xs us->Eh c ys vs->Eh c (xs++ys) (us++vs)
 | [],_,[],_,_,h=>h
 | _::_,_,_::_,_,h,h'=>⟨h.1,Eh.append h.2 h'⟩
 | [],_,_::_,_,h,_=>h.elim
 | _::_,_,[],_,h,_=>h.elim
theorem Mk.Qq {c:Cx} : ∀ {a:List PV} {vs:List Value},Mk c a vs->Eh c (a.map An8) vs
 | [],[],_=>trivial
 | _::_,_::_,h=>⟨h.1,Mk.Qq h.2⟩
 | [],_::_,h=>h.elim
 | _::_,[],h=>h.elim
theorem Qz (a:List PV):(a.map An8).flatMap Ax=a.flatMap Di:=by
 induction a with
 | nil=>rfl
 | cons p a b=>simp[An8,Ax,A5]at b ⊢;exact b
theorem Ol.ones {O:Nat->Prop}{t:TypeId}{bs:List Bool}{xs:List IV}{v:Value}{L:List Nat}(h:Ol P w O t bs xs v L): ∀u∈v.cells,u.oneCell'=true:=by
 obtain⟨a,b,j,m,c⟩:=h
 have:=c.one (λu d=>by
  obtain⟨i,e⟩:=bB.1 d
  exact Eb b i u e)
 exact λz g=>this z (by simpa using g)
theorem R2: ∀ {bs:List (TypeId × List Bool)} {xs:List IV} {vs:List Value} {L:List Nat} {n:Nat} {es es':ES} {r:List PV × Nat} {ls:List PLt} {c:Cx} {K Rm:Nat->Prop},es.gs= []->Ev S (Lk c.P bs n) es r es' ls->
  Ig c.P c.w c.O bs xs vs L->L.Nodup->(∀b∈L,Rm b/\c.W b)->Reg c K S.tm (cur S es.obs) a Rm->(∀i,i<xs.length->c.ρ[n+i]?=xs[i]?)->(∀k,es.m<=k->k<es'.m-> ¬ K k)->
  Ba3 c K S a Rm L es es' ls λμ'=>Mk (c.at μ') r.1 vs/\(∀k∈r.1.flatMap Di,As K es.m es'.m k)/\r.2=n+xs.length
 | [],xs,vs,L,n,es,es',r,ls,c,K,Rm,F,h,y,H,z,G,hρ,o=>by
  unfold Lk at h
  rw[Ad]at h
  obtain⟨rfl,rfl,rfl⟩:=h
  cases vs with
  | cons=>exact y.elim
  | nil=>
   obtain⟨rfl,rfl⟩:=y
   exact⟨rfl,rfl,rfl,aK _,c.μ,λ_ _=>rfl,G.keys (λk h=> .inl h) (λb h=>h.1),trivial,by simp,rfl⟩
 | tb::bs,xs,vs,L,n,es,es',r,ls,c,K,Rm,F,h,y,H,z,G,hρ,o=>by
  cases vs with
  | nil=>exact y.elim
  | cons v vs=>
   obtain⟨ys,zs,L1,L2,rfl,rfl,⟨b,uv,L',rfl,r1,r2,rfl⟩,r6⟩:=y
   unfold Lk at h
   simp only[Ab,Ao,Cc,Bd]at h
   obtain⟨ts,_,_,_,⟨h1,rfl,rfl⟩,⟨lvs,e1,l1,_,x,⟨vv,e2,l2,_,R,⟨_,_,_,_,⟨rfl,rfl,rfl⟩,⟨_,_,_,_,⟨rfl,rfl⟩,⟨q,I,l4,_,T,U,rfl⟩,rfl⟩,rfl⟩,rfl⟩,rfl⟩,rfl⟩:=h
   rw[Ad]at U
   obtain⟨rfl,rfl,rfl⟩:=U
   obtain⟨p1,p2⟩:=Of hρ
   rw[aR]at H
   obtain⟨u,J,A⟩:=H
   rw[cV]at u
   have M:e2.m+1<=I.m:=Qo T
   have N:=Vy R
   subst N
   obtain⟨_,rfl,rfl,a1,a2,a3,μ1,a4,a5,a6,X⟩:=r2.take F h1 x R u.2 (λg t=>z g (by simp[t])) G p1 (λj k1 k2=>o j k1 (by omega))
   have hlen:ys.length=tb.2.length:=by
    obtain⟨_,_,_,_,Q⟩:=r2
    exact Q.len
   have B:=r2.ones
   have C: ¬ As K es.m e1.m e1.m:=λh=>h.elim (o e1.m a3 (by omega)) λh=>by omega
   have hμ: ∀k,As K es.m e1.m k->Db μ1 e1.m (.pointer (some ⟨b,0,none⟩)) k=μ1 k:=λk d=>Cy λe=>C (e ▸ d)
   have E: ∀j,As K es.m e1.m j\/j=e1.m->As K es.m (e1.m+1) j:=by
    rintro j ((h | h) | rfl)
    ·exact .inl h
    ·exact .inr (by omega)
    ·exact .inr (by omega)
   have G1:Reg ((c.at μ1).at (Db μ1 e1.m (.pointer (some ⟨b,0,none⟩)))) (As K es.m (e1.m+1)) S.tm (cur S ((e1.m,some (.box tb.1 vv))::e1.obs)) a (λg=>(Rm g/\g∉L')/\g≠b):=by
    rw[Bm]
    refine a5.put (λh=>absurd h C) (λg t=>?_) (λg h=>h.1) E ?_ (λj h=> .inl (X j h) |> E j)
    ·simp[blk]at t
     subst t
     have:=z b (by simp)
     exact⟨⟨this.1,u.1⟩,this.2,λh=>h.2 rfl⟩
    ·obtain⟨aa,c1,c2,c3,c4⟩:=r2
     have Lt2:=Cx.later (c:=c.at μ1) (μ:=Db μ1 e1.m (.pointer (some ⟨b,0,none⟩))) a5.wo hμ
     exact⟨b,uv,Bb,r1,c2,c3,B,Lt2.Apb X a6⟩
   obtain⟨rfl,q1,q2,q3,μ',Y,q5,q6,q7,q8⟩:=R2 (c:=(c.at μ1).at (Db μ1 e1.m (.pointer (some ⟨b,0,none⟩)))) (es:= {e1 with m:=e1.m+1,obs:=(e1.m,some (.box tb.1 vv))::e1.obs}) (a2.trans F) T r6 J
    (λg t=>⟨⟨⟨(z g (aB _ t)).1,λh=>A g (aF _ h) g t rfl⟩,λh=>A b (aH) g t h.symm⟩,(z g (aB _ t)).2⟩) G1 (by rw[<-hlen];exact p2) (λj k1 k2 d=>by
     have k1:e1.m+1<=j:=k1
     rcases d with d | d
     ·exact o j (by omega) k2 d
     ·omega)
   have Z: ∀k,As (As K es.m (e1.m+1)) (e1.m+1) I.m k->As K es.m I.m k:=Ct (Nat.le_succ_of_le a3) M
   have hμk:μ' e1.m= .pointer (some ⟨b,0,none⟩):=(Y e1.m (.inr ⟨a3,bC _⟩)).trans Bb
   refine⟨rfl,q1.trans a1,q2.trans a2,by omega,μ',λk d=>?_,q5.keys Z (λg h=>?_),⟨⟨b,hμk,by rw[A6]⟩,q6⟩,λk d=>?_,by rw[q8,<-hlen];simp;omega⟩
   ·exact(Y k (.inl d)).trans ((hμ k (.inl d)).trans (a4 k d))
   ·have x:=h.2
    simp only[cQ,bH,aG,not_or]at x
    exact⟨⟨⟨h.1,x.2.1⟩,x.1⟩,x.2.2⟩
   ·rw[aC]at d
    rcases aG.1 d with d | d
    ·simp only[Di,bO]at d
     subst d
     exact .inr ⟨a3,by omega⟩
    ·exact Z k (q7 k d)
theorem J4: ∀ {rs:List RS} {xs:List IV} {vs:List Value} {L:List Nat} {n:Nat} {es es':ES} {r:List VV × Nat} {ls:List PLt} {c:Cx} {K Rm:Nat->Prop},es.gs= []->Ev S (Ge c.P rs n) es r es' ls->
  Hs c.P c.w c.O rs xs vs L->L.Nodup->(∀b∈L,Rm b/\c.W b)->Reg c K S.tm (cur S es.obs) a Rm->(∀i,i<xs.length->c.ρ[n+i]?=xs[i]?)->(∀k,es.m<=k->k<es'.m-> ¬ K k)->
  Ba3 c K S a Rm L es es' ls λμ'=>Eh (c.at μ') r.1 vs/\(∀k∈r.1.flatMap Ax,As K es.m es'.m k)/\r.2=n+xs.length
 | [],xs,vs,L,n,es,es',r,ls,c,K,Rm,u,h,g,y,o,G,hρ,e=>by
  unfold Ge at h
  rw[Ad]at h
  obtain⟨rfl,rfl,rfl⟩:=h
  cases vs with
  | cons=>exact g.elim
  | nil=>
   obtain⟨rfl,rfl⟩:=g
   exact⟨rfl,rfl,rfl,aK _,c.μ,λ_ _=>rfl,G.keys (λk h=> .inl h) (λb h=>h.1),trivial,by simp,rfl⟩
 | .whole t::rs,xs,vs,L,n,es,es',r,ls,c,K,Rm,u,h,g,y,o,G,hρ,e=>by
  cases vs with
  | nil=>exact g.elim
  | cons v vs=>
   obtain⟨ys,zs,L1,L2,rfl,rfl,⟨x,rfl,rfl,r1⟩,r2⟩:=g
   unfold Ge at h
   rw[Ab]at h
   obtain⟨q,e1,l1,_,C,j,rfl⟩:=h
   rw[Ad]at j
   obtain⟨rfl,rfl,rfl⟩:=j
   obtain⟨N,Q⟩:=Of hρ
   obtain⟨rfl,E,F,A,μ',B,H,I,J,M⟩:=J4 u C r2 y o G (by simpa using Q) e
   have hx:c.ρ[n]?=some x:=by simpa using N 0 (by simp)
   refine⟨rfl,E,F,A,μ',B,H,⟨⟨x,hx,r1⟩,I⟩,λk d=>?_,by rw[M];simp;omega⟩
   rw[aC]at d
   rcases aG.1 d with d | d
   ·simp[Ax,A5]at d
   ·exact J k d
 | .clip t::rs,xs,vs,L,n,es,es',r,ls,c,K,Rm,u,h,g,y,o,G,hρ,e=>by
  cases vs with
  | nil=>exact g.elim
  | cons v vs=>
   obtain⟨ys,zs,L1,L2,rfl,rfl,⟨x,rfl,rfl,r1,r3⟩,r2⟩:=g
   unfold Ge at h
   rw[Ab]at h
   obtain⟨q,e1,l1,_,C,j,rfl⟩:=h
   rw[Ad]at j
   obtain⟨rfl,rfl,rfl⟩:=j
   obtain⟨N,Q⟩:=Of hρ
   obtain⟨rfl,E,F,A,μ',B,H,I,J,M⟩:=J4 u C r2 y o G (by simpa using Q) e
   have hx:c.ρ[n]?=some x:=by simpa using N 0 (by simp)
   refine⟨rfl,E,F,A,μ',B,H,⟨⟨⟨x,hx,r1⟩,r3⟩,I⟩,λk d=>?_,by rw[M];simp;omega⟩
   rw[aC]at d
   rcases aG.1 d with d | d
   ·simp[Ax,A5]at d
   ·exact J k d
 | .strict t::rs,xs,vs,L,n,es,es',r,ls,c,K,Rm,u,h,g,y,o,G,hρ,e=>by
  cases vs with
  | nil=>exact g.elim
  | cons v vs=>
   obtain⟨ys,zs,L1,L2,rfl,rfl,⟨x,rfl,rfl,r1,ys3,A3,cap3,rfl,r3⟩,r2⟩:=g
   unfold Ge at h
   rw[Ab]at h
   obtain⟨q,e1,l1,_,C,j,rfl⟩:=h
   rw[Ad]at j
   obtain⟨rfl,rfl,rfl⟩:=j
   obtain⟨N,Q⟩:=Of hρ
   obtain⟨rfl,E,F,A,μ',B,H,I,J,M⟩:=J4 u C r2 y o G (by simpa using Q) e
   have hx:c.ρ[n]?=some (.list ys3):=by simpa using N 0 (by simp)
   refine⟨rfl,E,F,A,μ',B,H,⟨⟨⟨_,hx,r1⟩,ys3,A3,cap3,hx,r3⟩,I⟩,λk d=>?_,by rw[M];simp;omega⟩
   rw[aC]at d
   rcases aG.1 d with d | d
   ·simp[Ax,A5]at d
   ·exact J k d
 | .skip ::rs,xs,vs,L,n,es,es',r,ls,c,K,Rm,u,h,g,y,o,G,hρ,e=>by
  cases vs with
  | nil=>exact g.elim
  | cons v vs=>
   obtain⟨ys,zs,L1,L2,rfl,rfl,⟨rfl,rfl⟩,r2⟩:=g
   unfold Ge at h
   rw[Ab]at h
   obtain⟨q,e1,l1,_,C,j,rfl⟩:=h
   rw[Ad]at j
   obtain⟨rfl,rfl,rfl⟩:=j
   obtain⟨rfl,E,F,A,μ',B,H,I,J,M⟩:=J4 u C r2 y o G (by simpa using hρ) e
   refine⟨rfl,E,F,A,μ',B,H,⟨trivial,I⟩,λk d=>?_,by rw[M];simp⟩
   rw[aC]at d
   rcases aG.1 d with d | d
   ·simp[Ax,A5]at d
   ·exact J k d
 | .nbox t bs::rs,xs,vs,L,n,es,es',r,ls,c,K,Rm,u,h,g,y,o,G,hρ,e=>by
  cases vs with
  | nil=>exact g.elim
  | cons v vs=>
   obtain⟨ys,zs,L1,L2,rfl,rfl,r1,r2⟩:=g
   unfold Ge at h
   simp only[Ab,Dh]at h
   obtain⟨_,_,_,_,⟨_,rfl,rfl⟩,⟨b,e1,l1,_,C,⟨q,e2,l2,_,j,Y,rfl⟩,rfl⟩,rfl⟩:=h
   rw[Ad]at Y
   obtain⟨rfl,rfl,rfl⟩:=Y
   obtain⟨N,Q⟩:=Of hρ
   rw[aR]at y
   obtain⟨R,T,U⟩:=y
   have hm:=J9 j
   obtain⟨rfl,a1,a2,a3,μ1,a4,a5,a6,Z,a8⟩:=R2 u C r1 R (λb z=>o b (aD _ z)) G N (λk k1 k2=>e k k1 (by omega))
   rw[a8]at j
   obtain⟨rfl,E,F,A,μ',B,H,I,J,M⟩:=J4 (c:=c.at μ1) (a2.trans u) j r2 T (λb z=>⟨⟨(o b (aB _ z)).1,λh=>U b h b z rfl⟩,(o b (aB _ z)).2⟩) a5
    Q (λk k1 k2 d=>by
     rcases d with d | d
     ·exact e k (by omega) k2 d
     ·omega)
   have X:=Ct (K:=K) a3 A
   have Lt:=Cx.later (c:=c.at μ1) (μ:=μ') a5.wo B
   refine⟨rfl,E.trans a1,F.trans a2,aS a3 A,μ',λk d=>(B k (.inl d)).trans (a4 k d),H.keys X (λb h=>⟨⟨h.1,λh'=>h.2 (aD _ h')⟩,λh'=>h.2 (aB _ h')⟩),Eh.append (us:= [v]) (Lt.Ad4 Z a6).Qq I,λk d=>?_,by rw[M];simp;omega⟩
   rw[cJ]at d
   rcases aG.1 d with d | d
   ·exact X k (.inl (Z k (by rw[<-Qz];exact d)))
   ·exact X k (J k d)
 | .clo f bs::rs,xs,vs,L,n,es,es',r,ls,c,K,Rm,u,h,g,y,o,G,hρ,e=>by
  cases vs with
  | nil=>exact g.elim
  | cons v vs=>
   obtain⟨ys,zs,L1,L2,rfl,rfl,⟨caps,rfl,r1⟩,r2⟩:=g
   unfold Ge at h
   simp only[Ab,Dh]at h
   obtain⟨_,_,_,_,⟨_,rfl,rfl⟩,⟨b,e1,l1,_,C,⟨q,e2,l2,_,j,Y,rfl⟩,rfl⟩,rfl⟩:=h
   rw[Ad]at Y
   obtain⟨rfl,rfl,rfl⟩:=Y
   obtain⟨N,Q⟩:=Of hρ
   rw[aR]at y
   obtain⟨R,T,U⟩:=y
   have hm:=J9 j
   obtain⟨rfl,a1,a2,a3,μ1,a4,a5,a6,Z,a8⟩:=R2 u C r1 R (λb z=>o b (aD _ z)) G N (λk k1 k2=>e k k1 (by omega))
   rw[a8]at j
   obtain⟨rfl,E,F,A,μ',B,H,I,J,M⟩:=J4 (c:=c.at μ1) (a2.trans u) j r2 T (λb z=>⟨⟨(o b (aB _ z)).1,λh=>U b h b z rfl⟩,(o b (aB _ z)).2⟩) a5
    Q (λk k1 k2 d=>by
     rcases d with d | d
     ·exact e k (by omega) k2 d
     ·omega)
   have X:=Ct (K:=K) a3 A
   have Lt:=Cx.later (c:=c.at μ1) (μ:=μ') a5.wo B
   refine⟨rfl,E.trans a1,F.trans a2,aS a3 A,μ',λk d=>(B k (.inl d)).trans (a4 k d),H.keys X (λb h=>⟨⟨h.1,λh'=>h.2 (aD _ h')⟩,λh'=>h.2 (aB _ h')⟩),⟨⟨caps,rfl,Lt.Ad4 Z a6⟩,I⟩,λk d=>?_,by rw[M];simp;omega⟩
   rw[aC]at d
   rcases aG.1 d with d | d
   ·exact X k (.inl (Z k d))
   ·exact X k (J k d)
 | .cells t bs::rs,xs,vs,L,n,es,es',r,ls,c,K,Rm,u,h,g,y,o,G,hρ,e=>by
  cases vs with
  | nil=>exact g.elim
  | cons v vs=>
   obtain⟨ys,zs,L1,L2,rfl,rfl,r1,r2⟩:=g
   unfold Ge at h
   simp only[Ab,Ao]at h
   obtain⟨ts,_,_,_,⟨C,rfl,rfl⟩,⟨lvs,e1,l1,_,j,⟨vv,e2,l2,_,Y,⟨q,e3,l3,_,h4,h5,rfl⟩,rfl⟩,rfl⟩,rfl⟩:=h
   rw[Ad]at h5
   obtain⟨rfl,rfl,rfl⟩:=h5
   obtain⟨N,Q⟩:=Of hρ
   rw[aR]at y
   obtain⟨R,T,U⟩:=y
   have hm:e1.m<=e3.m:=by
    have aa:=Vy Y
    rw[aa];exact J9 h4
   obtain⟨rfl,rfl,rfl,a1,a2,a3,μ1,a4,a5,a6,Z⟩:=r1.take u C j Y R (λb z=>o b (aD _ z)) G N (λk k1 k2=>e k k1 (by omega))
   have hlen:ys.length=bs.length:=by
    obtain⟨_,_,_,_,ab⟩:=r1
    exact ab.len
   obtain⟨rfl,E,F,A,μ',B,H,I,J,M⟩:=J4 (c:=c.at μ1) (a2.trans u) h4 r2 T (λb z=>⟨⟨(o b (aB _ z)).1,λh=>U b h b z rfl⟩,(o b (aB _ z)).2⟩) a5
    (by rw[<-hlen];exact Q) (λk k1 k2 d=>by
     rcases d with d | d
     ·exact e k (by omega) k2 d
     ·omega)
   have X:=Ct (K:=K) a3 A
   have Lt:=Cx.later (c:=c.at μ1) (μ:=μ') a5.wo B
   refine⟨rfl,E.trans a1,F.trans a2,aS a3 A,μ',λk d=>(B k (.inl d)).trans (a4 k d),H.keys X (λb h=>⟨⟨h.1,λh'=>h.2 (aD _ h')⟩,λh'=>h.2 (aB _ h')⟩),⟨Lt.Apb Z a6,I⟩,λk d=>?_,by rw[M,<-hlen];simp;omega⟩
   rw[aC]at d
   rcases aG.1 d with d | d
   ·exact X k (.inl (Z k d))
   ·exact X k (J k d)
theorem Z9 {t st e:TypeId}(h:A2y P t=some (st,e)):Kp P e=some .u8 /\P.underlying st=some (.slice e)/\Ai P t=true/\Ag P t=2/\Ag P e=1:=by
 unfold A2y at h
 split at h
 ·rename_i pt st' c
  split at h
  ·rename_i d g i b
   rw[aU]at h
   obtain⟨a,h⟩:=h
   injection h with h;injection h with i1 i2;subst i1;subst i2
   simp only[aA,beq_iff_eq]at a
   exact⟨a.1.1.1.2,Be b,a.1.2,a.2,a.1.1.2⟩
  ·cases h
 ·cases h
theorem Ib: ∀ {bks:List Bk} {n:Nat} {es es':ES} {u:Unit} {ls:List PLt},Ev S (Dx P bks n) es u es' ls->es.m<=es'.m
 | [],n,es,es',u,ls,h=>by
  unfold Dx at h
  rw[Ad]at h
  obtain⟨_,rfl,_⟩:=h
  exact aK _
 | .box k t bs::bks,n,es,es',u,ls,h=>by
  unfold Dx at h
  simp only[Ab,Ao,Bd]at h
  obtain⟨ts,_,_,_,⟨g,rfl,rfl⟩,⟨lvs,e1,i,_,a,⟨vv,j,o,_,b,⟨_,q,r,_,⟨rfl,rfl⟩,c,rfl⟩,rfl⟩,rfl⟩,rfl⟩:=h
  have d:=Ik a
  have a2:=Ib c
  have a3:=Vy b
  subst a3
  exact aS d a2
 | .arr k e t::bks,n,es,es',u,ls,h=>by
  unfold Dx at h
  simp only[Ab,Bd]at h
  obtain⟨_,_,_,_,⟨rfl,rfl⟩,a,rfl⟩:=h
  have a2:=Ib a
  exact a2
 | .bld k t e st::bks,n,es,es',u,ls,h=>by
  unfold Dx at h
  simp only[Ab,Bd,Cc]at h
  obtain⟨_,_,_,_,⟨rfl,rfl,rfl⟩,⟨_,_,_,_,⟨rfl,rfl⟩,⟨_,_,_,_,⟨rfl,rfl⟩,a,rfl⟩,rfl⟩,rfl⟩:=h
  have a2:=Ib a
  exact aS (dL _) a2
theorem Ij: ∀ {ps:List PS} {bks:List Bk} {xs:List IV} {vs:List Value} {L:List Nat} {n:Nat} {es es':ES} {u:Unit} {ls:List PLt} {c:Cx} {K Rm:Nat->Prop},es.gs= []->Ev S (Dx c.P bks n) es u es' ls->
  B4 c.P c.w c.O ps xs vs L->Ou c.P K c.μ ps vs bks->L.Nodup->(∀b∈L,Rm b/\c.W b)->Reg c K S.tm (cur S es.obs) a Rm->(∀i,i<xs.length->c.ρ[n+i]?=xs[i]?)->(∀k,es.m<=k->k<es'.m-> ¬ K k)->
  Ba3 c K S a Rm L es es' ls λ_=>True
 | [],bks,xs,vs,L,n,es,es',u,ls,c,K,Rm,U,h,B,q,Q,C,G,hρ,r=>by
  cases vs with
  | cons=>exact B.elim
  | nil=>
   obtain⟨rfl,rfl⟩:=B
   have q:bks= []:=q
   subst q
   unfold Dx at h
   rw[Ad]at h
   obtain⟨rfl,rfl,rfl⟩:=h
   exact⟨rfl,rfl,rfl,aK _,c.μ,λ_ _=>rfl,G.keys (λk h=> .inl h) (λb h=>h.1),trivial⟩
 | p::ps,bks,xs,vs,L,n,es,es',u,ls,c,K,Rm,U,h,B,q,Q,C,G,hρ,r=>by
  cases vs with
  | nil=>exact B.elim
  | cons v vs=>
   obtain⟨k1,k2,rfl,j,I⟩:=q
   unfold B4 at B
   have skip:p.Cu=false->k1= []->Ba3 c K S a Rm L es es' ls λ_=>True:=by
    intro hp R
    subst R
    simp only[hp,aL,Zf]at B
    exact Ij U h B I Q C G hρ r
   cases p with
   | data t=>exact skip rfl j
   | own t=>exact skip rfl j
   | fn f ts=>exact skip rfl j
   | fnb f n=>exact skip rfl j
   | rd t=>exact skip rfl j
   | bld t bk=>
    cases bk with
    | false=>
     obtain⟨_,_,_,_,R,_⟩:=j
     exact skip rfl R
    | true=>
    simp only[PS.Cu,Zt]at B
    obtain⟨ys,zs,L1,L2,rfl,rfl,⟨b,c0,c1,x,st,e,rfl,r1,r2,r3,rfl,⟨r4,cs,r5,Z,r7⟩,rfl⟩,r8⟩:=B
    obtain⟨k,st',X,J,j,b1,b2⟩:=j
    rw[r3]at J;injection J with J;injection J with i1 i2;subst i1;subst i2
    simp only[Zt]at j
    subst j
    simp only[cG]at h
    unfold Dx at h
    simp only[Ab,Bd,Cc]at h
    obtain⟨_,_,_,_,⟨rfl,rfl,rfl⟩,⟨_,_,_,_,⟨rfl,rfl⟩,⟨_,_,_,_,⟨rfl,rfl⟩,E,rfl⟩,rfl⟩,rfl⟩:=h
    have hm:=Ib E
    have hm:es.m+1<=es'.m:=hm
    obtain⟨p1,p2⟩:=Of hρ
    rw[aR]at Q
    obtain⟨y,F,z⟩:=Q
    rw[cV]at y
    have hx:c.ρ[n]?=some (.list x):=by simpa using p1 0 (by simp)
    obtain⟨f1,f2,f3,f4,f5⟩:=Z9 r3
    have aa: ¬ K es.m:=r es.m (aK _) (by omega)
    obtain⟨_,ag,A,nn,cap,rfl⟩:=J6 r5
    -- the row
    have G1:Reg (c.at (Db c.μ es.m (.slice A nn cap))) (As K es.m (es.m+1)) S.tm (cur S ((es.m,some (.arr e st (.v n)))::es.obs)) a (λd=>Rm d/\d∉(blk (.slice A nn cap)).toList):=by
     rw[Bm]
     refine G.put (λh=>absurd h aa) (λd o=>?_) (λb h=>h.1) (λg h=>h.elim .inl λh=> .inr (by omega)) ?_ (λg h=>by simp[E4]at h)
     ·have H:d∈(blk (.slice A nn cap)).toList :=by simp[o]
      have:=C d (aD _ (aF _ H))
      exact⟨this.1,this.2,λh=>h.2 H⟩
     ·refine⟨x,cs,hx,f2,r4,?_,Z,r7⟩
      show c.w.ownsRow 0 e (Ag c.P e) (Db c.μ es.m (.slice A nn cap) es.m) x.length cs
      rw[Bb];exact r5
    -- the variable
    generalize hμ1:Db c.μ es.m (.slice A nn cap)=μ1 at G1
    have T: ∀g,K g->g≠es.m:=λg h e=>aa (by rw[<-e];exact h)
    have ac:k≠es.m:=T k b1
    have hμk:μ1 k= .pointer (some ⟨b,0,none⟩):=by rw[<-hμ1,Cy ac];exact b2
    have hμm:μ1 es.m= .slice A nn cap:=by rw[<-hμ1,Bb]
    have hμ2:Db μ1 k (.pointer (some ⟨b,0,none⟩))=μ1:=by funext g;unfold Db;split<;>simp_all
    have G2:Reg ((c.at μ1).at (Db μ1 k (.pointer (some ⟨b,0,none⟩)))) (As K es.m (es.m+1)) S.tm (cur S ((k,some (.box t (.agg t [.hid k,.ref es.m st])))::(es.m,some (.arr e st (.v n)))::es.obs)) a (λd=>(Rm d/\d∉(blk (.slice A nn cap)).toList)/\d≠b):=by
     rw[Bm]
     refine G1.put (λ_=>hμk) (λd o=>?_) (λb h=>h.1) (λg h=>h.elim id λh=> .inl (h ▸ b1)) ?_ (λg h=>?_)
     ·simp[blk]at o
      subst o
      have:=C b (by simp)
      exact⟨⟨this.1,y.1⟩,this.2,λh=>h.2 rfl⟩
     ·refine⟨b,.agg #[c0,.slice A nn cap],by show Db _ _ _ k=_;rw[Bb],r1,f4.symm,?_,?_,?_⟩
      ·show if Ai c.P t=true then _ else _
       rw[if_pos f3];exact⟨_,rfl⟩
      ·intro u Y
       simp[Value.cells]at Y
       rcases Y with rfl | rfl
       ·rcases r2 with h | h<;>rw[h]<;>rfl
       ·rfl
      ·show K0 ((c.at μ1).at (Db μ1 k _)) _ _
       rw[hμ2]
       refine⟨_,rfl,⟨?_,r2.imp id λh=>⟨h.trans hμk.symm,_,h⟩⟩,⟨rfl,hμm.symm,_,_,_,rfl⟩,trivial⟩
       rcases r2 with h | h<;>rw[h]<;>rfl
     ·simp only[E4,Ax,aC,A5,dK,bS,aG,bO]at h
      rcases h with rfl | rfl
      ·exact .inl b1
      ·exact .inr ⟨aK _,bC _⟩
    rw[hμ2]at G2
    obtain⟨rfl,q1,q2,M,μ',q4,q5,_⟩:=Ij (c:=c.at μ1) (es:= {es with m:=es.m+1,obs:=(k,some (.box t (.agg t [.hid k,.ref es.m st])))::(es.m,some (.arr e st (.v n)))::es.obs}) U E r8
     (I.mono (λ_ h=> .inl h) (λg N=>by show μ1 g=_;rw[<-hμ1,Cy (T g N)])) F
     (λd o=>⟨⟨⟨(C d (aB _ o)).1,λh=>z d (aF _ h) d o rfl⟩,λh=>z b (aH) d o h.symm⟩,(C d (aB _ o)).2⟩) G2
     (show ∀i,i<zs.length->c.ρ[n+1+i]?=zs[i]? by simpa using p2) (λg k1 k2 q=>by
      have k1:es.m+1<=g:=k1
      rcases q with q | q
      ·exact r g (by omega) k2 q
      ·omega)
    have hw:=Ct (K:=K) (dL es.m) M
    refine⟨rfl,q1,q2,aS (dL _) M,μ',λg N=>(q4 g (.inl N)).trans (by show μ1 g=_;rw[<-hμ1,Cy (T g N)]),q5.keys hw (λd h=>⟨⟨⟨h.1,λh'=>h.2 (aD _ (aF _ h'))⟩,λh'=>h.2 (aD _ (h' ▸ aH))⟩,λh'=>h.2 (aB _ h')⟩),trivial⟩
   | arr t=>
    simp only[PS.Cu,Zt]at B
    obtain⟨ys,zs,L1,L2,rfl,rfl,⟨e,x,rfl,rfl,r1,r2,cs,r3,r4,r5⟩,Z⟩:=B
    obtain⟨k,X,t',rfl,b1,b2,b3,b4⟩:=j
    have:X=e:=by rw[r1]at b3;injection b3 with b3;injection b3 with b3;exact b3.symm
    subst this
    simp only[cG]at h
    unfold Dx at h
    simp only[Ab,Bd]at h
    obtain⟨_,_,_,_,⟨rfl,rfl⟩,E,rfl⟩:=h
    obtain⟨p1,p2⟩:=Of hρ
    rw[aR]at Q
    obtain⟨y,F,z⟩:=Q
    have hx:c.ρ[n]?=some (.list x):=by simpa using p1 0 (by simp)
    have G1:Reg (c.at (Db c.μ k v)) K S.tm (cur S ((k,some (.arr X t' (.v n)))::es.obs)) a (λb=>Rm b/\b∉(blk v).toList):=by
     rw[Bm]
     refine G.put (λ_=>b2) (λb o=>?_) (λb h=>h.1) (λg h=>h.elim id λh=>h ▸ b1) ⟨x,cs,hx,b4,r2,?_,r4,r5⟩ (λg h=>by simp[E4]at h)
     ·have H:b∈(blk v).toList :=by simp[o]
      have:=C b (aD _ H)
      exact⟨this.1,this.2,λh=>h.2 H⟩
     ·show c.w.ownsRow 0 X (Ag c.P X) (Db c.μ k v k) x.length cs
      rw[Bb];exact r3
    have hμ:Db c.μ k v=c.μ:=by funext g;unfold Db;split<;>simp_all
    rw[hμ]at G1
    obtain⟨rfl,q1,q2,M,μ',q4,q5,_⟩:=Ij (c:=c.at c.μ) (es:= {es with obs:=(k,some (.arr X t' (.v n)))::es.obs}) U E Z I F
     (λb o=>⟨⟨(C b (aB _ o)).1,λh=>z b h b o rfl⟩,(C b (aB _ o)).2⟩) G1 (show ∀i,i<zs.length->c.ρ[n+1+i]?=zs[i]? by simpa using p2) r
    exact⟨rfl,q1,q2,M,μ',q4,q5.keys (λ_ h=>h) (λb h=>⟨⟨h.1,λh'=>h.2 (aD _ h')⟩,λh'=>h.2 (aB _ h')⟩),trivial⟩
   | box t bs=>
    simp only[PS.Cu,Zt]at B
    obtain⟨ys,zs,L1,L2,rfl,rfl,⟨b,uv,L',rfl,r1,r2,rfl⟩,Z⟩:=B
    obtain⟨k,rfl,b1,b2⟩:=j
    simp only[cG]at h
    unfold Dx at h
    simp only[Ab,Ao,Bd]at h
    obtain⟨ts,_,_,_,⟨h1,rfl,rfl⟩,⟨lvs,e1,l1,_,E,⟨vv,e2,l2,_,h3,⟨_,e3,l3,_,⟨rfl,rfl⟩,h4,rfl⟩,rfl⟩,rfl⟩,rfl⟩:=h
    obtain⟨p1,p2⟩:=Of hρ
    rw[aR]at Q
    obtain⟨y,F,z⟩:=Q
    rw[cV]at y
    have hm:e1.m<=es'.m:=by
     have ad:=Vy h3
     rw[ad];exact Ib (es:= {e2 with obs:=(k,some (.box t vv))::e2.obs}) h4
    obtain⟨rfl,rfl,rfl,a1,a2,a3,μ1,a4,a5,a6,a7⟩:=r2.take U h1 E h3 y.2 (λd o=>C d (by simp[o])) G p1 (λg k1 k2=>r g k1 (by omega))
    have hlen:ys.length=bs.length:=by
     obtain⟨_,_,_,_,ae⟩:=r2
     exact ae.len
    have hμk:μ1 k= .pointer (some ⟨b,0,none⟩):=(a4 k b1).trans b2
    have hμ:Db μ1 k (.pointer (some ⟨b,0,none⟩))=μ1:=by funext g;unfold Db;split<;>simp_all
    have ab: ∀u∈uv.cells,u.oneCell'=true:=by
     obtain⟨af,c1,c2,c3,c4⟩:=r2
     have:=c4.one (λu Y=>by
      obtain⟨i,hi⟩:=bB.1 Y
      exact Eb c1 i u hi)
     exact λu Y=>this u (by simpa using Y)
    have G1:Reg ((c.at μ1).at (Db μ1 k (.pointer (some ⟨b,0,none⟩)))) (As K es.m e1.m) S.tm (cur S ((k,some (.box t vv))::e1.obs)) a (λd=>(Rm d/\d∉L')/\d≠b):=by
     rw[Bm]
     refine a5.put (λ_=>hμk) (λd o=>?_) (λb h=>h.1) (λg h=>h.elim id λh=> .inl (h ▸ b1)) ?_ (λg h=>a7 g h)
     ·simp[blk]at o
      subst o
      have:=C b (by simp)
      exact⟨⟨this.1,y.1⟩,this.2,λh=>h.2 rfl⟩
     ·obtain⟨af,c1,c2,c3,c4⟩:=r2
      refine⟨b,uv,by show Db _ _ _ k=_;rw[Bb],r1,c2,c3,ab,?_⟩
      show K0 ((c.at μ1).at (Db μ1 k _)) vv uv
      rw[hμ];exact a6
    rw[hμ]at G1
    obtain⟨rfl,q1,q2,M,μ',q4,q5,_⟩:=Ij (c:=c.at μ1) (es:= {e1 with obs:=(k,some (.box t vv))::e1.obs}) (a2.trans U) h4 Z
     (I.mono (λ_ h=> .inl h) a4) F
     (λd o=>⟨⟨⟨(C d (aB _ o)).1,λh=>z d (aF _ h) d o rfl⟩,λh=>z b (aH) d o h.symm⟩,(C d (aB _ o)).2⟩) G1 (by rw[<-hlen];exact p2) (λg k1 k2 q=>by
      have k1:e1.m<=g:=k1
      rcases q with q | q
      ·exact r g (by omega) k2 q
      ·omega)
    have M:e1.m<=es'.m:=M
    refine⟨rfl,q1.trans a1,q2.trans a2,aS a3 M,μ',λk q=>(q4 k (.inl q)).trans (a4 k q),q5.keys (Ct (K:=K) a3 M) (λd h=>?_),trivial⟩
    have E:=h.2
    simp only[cQ,bH,aG,not_or]at E
    exact⟨⟨⟨h.1,E.2.1⟩,E.1⟩,E.2.2⟩
end
end Go.CT
namespace Go.CT
open EM
section
variable {P:Program}{N:Nat}{X:Nat->Prop}{R:Job->List IV->Option (List IV)}{ρ:List IV}{K:Nat->Prop}{S:View}{μ:Nat->Value}{a:Act}{w w':World}{es es' e1:ES}{ls:List PLt}{sx:SX}
 {tm:Nat->SV} {ob:Nat->Option Ob} {c:Cx} {Rm:Nat->Prop}
def cxW (P:Program)(X:Nat->Prop)(ρ:List IV)(WA:Nat->Prop)(μ:Nat->Value)(w:World):Cx:= {P,ρ,μ,w,O:=λb=>X b\/WA b,W:=WA}
theorem Ais {L Ln:List Nat}(G:Good P N X ρ K S.tm (cur S es.obs) μ a w)(d:Nu P N X ρ K S μ a w L es e1)(A:Gr (· ∈L) w w')(r: ∀b∈Ln,b∈L\/w.heap.size<=b):
  Reg (cxW P X ρ (λb=>Wr (cur S e1.obs) μ b\/b∈Ln) μ w') K S.tm (cur S e1.obs) a (· ∈Ln):=by
 have y: ∀b,b<w.heap.size->(Wr (cur S e1.obs) μ b\/b∈Ln)->Wr (cur S es.obs) μ b:=by
  intro b c h
  rcases h with h | h
  ·exact d.Dv.wr h
  ·rcases r b h with h | h
   ·exact d.own b h
   ·omega
 have Lat:Dp K (Bh P X ρ (cur S es.obs) μ w) (cxW P X ρ (λb=>Wr (cur S e1.obs) μ b\/b∈Ln) μ w'):=
  {
   P:=rfl,ρ:=λ_ _ h=>h,μ:=λ_ _=>rfl,stays:=λb c z=>A.stays b c λh=>z (d.own b h),
   O:=λb c g=>g.imp id (y b c),W:=y,WO:=λb c=> .inr c}
 have i: ∀k o b,cur S e1.obs k=some o->o.Ea=true->blk (μ k)=some b->b<w.heap.size/\b∉L/\ ¬ X b:=by
  intro k o b j m q
  have:=d.Cj.xsep k o b j m q
  exact⟨d.Cj.Mg j m q,λh=>this (.inr h),λh=>this (.inl h)⟩
 refine⟨λb c=> .inr c,λs=>Lat.Arc (G.kt s) (G.slot s),λk o g=>?_,λk B o o' b j m q C E F=>d.Cj.sep k B o o' b j m q C E F,
  λk o b j m q=>⟨λh=>?_,.inl ⟨k,o,j,m,q⟩⟩,G.kt,d.Cj.ko⟩
 ·cases u:o.Ea with
  | true=>
   have h:=d.Dv k o g u
   exact Lat.Af0 (G.ko k o h).1 (G.ko k o h).2 (λ_ b c _=>A.stays b (i k o b g u c).1 (i k o b g u c).2.1) (G.obj k o h)
  | false=>
   cases o with
   | box=>simp[dM]at u
   | iter=>simp[dM]at u
   | mp=>simp[dM]at u
   | arr=>simp[dM]at u
   | frz e t x=>
    obtain⟨j,iv,m,q⟩:=d.Cj.obj k _ g
    refine⟨j,iv,m,?_⟩
    refine Rel.mono q (λb c g=>?_) (λb c g=>A.stays b c λh=>g (.inl (.inr h)))
    rcases g with g | g | g
    ·exact .inl (.inl g)
    ·exact .inr g
    ·rcases r b g with h | h
     ·exact .inl (.inr h)
     ·have c:b<w.heap.size:=c
      omega
 ·obtain⟨I,H,J⟩:=i k o b j m q
  rcases r b h with h | h
  ·exact H h
  ·omega
theorem At0 {L Ln:List Nat}{μ':Nat->Value}{v:Value}(G:Good P N X ρ K S.tm (cur S es.obs) μ a w)(d:Nu P N X ρ K S μ a w L es e1)(A:Gr (· ∈L) w w')(q: ∀b∈Ln,b∈L\/w.heap.size<=b)
  (r:Reg ((cxW P X ρ (λb=>Wr (cur S e1.obs) μ b\/b∈Ln) μ w').at μ') (As K es.m es'.m) S.tm (cur S es'.obs) a Rm)
  (z:Agd ((cxW P X ρ (λb=>Wr (cur S e1.obs) μ b\/b∈Ln) μ w').at μ') sx v) (y: ∀k∈Ca sx,As K es.m es'.m k) (j: ∀k,K k->μ' k=μ k):Out P N X ρ K S μ a w es es' sx μ' w' v:=by
 have Lat:Dp (As K es.m es'.m) ((cxW P X ρ (λb=>Wr (cur S e1.obs) μ b\/b∈Ln) μ w').at μ') (Bh P X ρ (cur S es'.obs) μ' w'):=
  {
   P:=rfl,ρ:=λ_ _ h=>h,μ:=λ_ _=>rfl,stays:=cZ _ _,
   O:=λb _ t=>t.imp id fun⟨k,o,c,e,g⟩=>(r.rest k o b c e g).2,W:=λb _ ⟨k,o,c,e,g⟩=>(r.rest k o b c e g).2,WO:=λb i=> .inr i}
 have u: ∀b,(Wr (cur S e1.obs) μ b\/b∈Ln)-> ¬ X b:=by
  intro b i x
  rcases i with⟨k,o,c,e,g⟩ | i
  ·exact d.Cj.xsep k o b c e g (.inl x)
  ·rcases q b i with h | h
   ·obtain⟨k,o,c,e,g⟩:=d.own b h
    exact G.xsep k o b c e g x
   ·have:=G.xlt b x
    omega
 refine⟨⟨G.size,G.defers,λs=>Lat.Arc (r.kt s) (r.slot s),λk o t=>Lat.Af0 (r.ko k o t).1 (r.ko k o t).2 (λ_ b _ _=>rfl) (r.obj k o t),r.sep,λk o b c e g=>u b (r.rest k o b c e g).2,
  λb i=>bQ (G.xlt b i) A.size,r.kt,r.ko⟩,Lat.xrel y z,y,⟨A.os,A.tape,A.output,A.size,λb i B=>A.stays b i λh=>B (d.own b h)⟩,λb ⟨k,o,c,e,g⟩=>?_,j⟩
 rcases(r.rest k o b c e g).2 with h | h
 ·exact .inl (d.Dv.wr h)
 ·exact(q b h).imp (d.own b) id
theorem Gp.rel {O O':Nat->Prop}{t e:TypeId}{xs:List IV}{v:Value}(h:Gp P w O e xs v)(z:P.underlying t=some (.slice e))(A: ∀b,b<w.heap.size->O' b->O b)(q: ∀b,blk v=some b-> ¬ O' b):Rel P w O' t (.list xs) v:=by
 obtain⟨E,cs,⟨F,G⟩,H,T⟩:=h
 rcases G with⟨rfl,I⟩ | ⟨g,cap,cu,rfl,U,J,B,e5,X,K⟩
 ·have:xs= []:=by cases xs with | nil=>rfl | cons=>simp at I
  subst this
  exact(Row.nilB e none 0:Ag2 P w O e [] none 0).row (λb _ q=>A b ‹_› q) (λad L=>by cases L) |>.rel z
 ·have M:Ja P w O e xs cs:=H
  obtain⟨us,r1,rfl⟩:=M.Apa F
  refine .list (λj=>(us[j]?).getD undef) z B (aS B e5) (λY=>⟨E,_,rfl,q g rfl,λj C=>?_⟩) (λj x N=>?_)
  ·have c:j<us.length:=by rw[<-r1.len];exact C
   have d:us[j]?=some us[j]:=bY c
   rw[d]
   have m:=r1.size us[j] (List.getElem_mem c)
   refine⟨m.1,λi u o=>?_⟩
   rw[Ds,Lw]
   simp only[World.cell?,J]
   have r:=Qb (λv Q=>(r1.size v Q).1) j us[j] d
   have R:i<Ag P e:=by rw[<-m.1];exact(bI.1 o).1
   have a:us[j].cells.toList[i]?=some u:=by simpa using o
   rw[<-r,bN,if_pos R,cL,<-K,bN]at a
   have y:j * Ag P e+i<xs.length * Ag P e:=by
    have:j * Ag P e+Ag P e<=xs.length * Ag P e:=by rw[<-Nat.succ_mul];exact aW _ C
    omega
   rw[if_pos y]at a
   simpa using a
  ·obtain⟨u,o,S⟩:=r1.get j x N
   rw[o]
   exact S.weaken A
theorem O0: ∀ {bs:List Bool} {ts:List TypeId} {xs:List IV} {vs:List Value} {L:List Nat} {n:Nat} {es es':ES} {lvs:List LV} {ls:List PLt} {c:Cx} {O:Nat->Prop},es.gs.isEmpty=false->Ev S (Cz c.P bs ts n) es lvs es' ls->
  Bs c.P c.w O bs ts xs vs L->(∀t∈ts,Ai c.P t=false)->(∀b,b<c.w.heap.size->c.O b->O b)->(∀b∈L,¬ c.O b)->(∀i,i<xs.length->c.ρ[n+i]?=xs[i]?)->
  es=es'/\ls= []/\Dt c lvs vs/\lvs.flatMap A5= []
 | [],[],xs,vs,L,n,es,es',lvs,ls,c,O,g,h,d,q,j,u,hρ=>by
  unfold Cz at h
  rw[Ad]at h
  obtain⟨rfl,rfl,rfl⟩:=h
  cases xs with
  | cons=>cases vs<;>exact d.elim
  | nil=>
   cases vs with
   | cons=>exact d.elim
   | nil=>exact⟨rfl,rfl,trivial,rfl⟩
 | o::bs,t::ts,xs,vs,L,n,es,es',lvs,ls,c,O,g,h,d,q,j,u,hρ=>by
  cases xs with
  | nil=>cases o<;>exact d.elim
  | cons x xs=>
  cases vs with
  | nil=>cases o<;>exact d.elim
  | cons v vs=>
  have y: ∀t∈ts,Ai c.P t=false:=λt h=>q t (aF _ h)
  have hρ0:c.ρ[n]?=some x:=by simpa using hρ 0 (by simp)
  have hρ1: ∀i,i<xs.length->c.ρ[n+1+i]?=xs[i]?:=λi M=>by
   have:=hρ (i+1) (by simpa using M)
   simpa [bD,cU 1 i]using this
  cases o with
  | false=>
   obtain⟨J,B⟩:=d
   unfold Cz at h
   rw[Ab]at h
   obtain⟨r,e1,N,_,C,z,rfl⟩:=h
   rw[Ad]at z
   obtain⟨rfl,rfl,rfl⟩:=z
   obtain⟨rfl,rfl,E,F⟩:=O0 g C B y j u hρ1
   exact⟨rfl,rfl,⟨⟨(J.one (q t aH)).1,⟨x,hρ0,J.weaken j⟩⟩,E⟩,by rw[aC,F];rfl⟩
  | true=>
   obtain⟨L',⟨ys,rfl,m⟩,B,rfl⟩:=d
   unfold Cz at h
   cases G:Cr c.P t with
   | none=>
    simp only[G,Ab,Dh]at h
    obtain⟨_,_,_,_,⟨Q,_,_⟩,_⟩:=h
    rw[Q]at g;cases g
   | some e=>
   have H:=Be G
   have A:Gp c.P c.w O e ys v:=by
    rcases m with⟨R,a,h⟩ | ⟨kt,vt,a,_⟩
    ·rw[H]at a;injection a with a;injection a with a;rw[a];exact h
    ·rw[H]at a;cases a
   simp only[G,Ab,Ii]at h
   obtain⟨gs,_,_,_,⟨rfl,rfl,rfl⟩,h,rfl⟩:=h
   simp only[g,aL,Zf]at h
   rw[Ab]at h
   obtain⟨r,e1,N,_,C,z,rfl⟩:=h
   rw[Ad]at z
   obtain⟨rfl,rfl,rfl⟩:=z
   obtain⟨rfl,rfl,E,F⟩:=O0 g C B y j (λb I=>u b (aB _ I)) hρ1
   have K:=A.rel H j λb I=>u b (aD _ (by simp[I]))
   exact⟨rfl,rfl,⟨⟨(K.one (q t aH)).1,⟨_,hρ0,K⟩⟩,E⟩,by rw[aC,F];rfl⟩
 | [],_::_,xs,vs,L,n,es,es',lvs,ls,c,O,g,h,d,q,j,u,hρ=>by simp[Cz,Ac]at h
 | _::_,[],xs,vs,L,n,es,es',lvs,ls,c,O,g,h,d,q,j,u,hρ=>by simp[Cz,Ac]at h
theorem Ku: ∀ {rs:List RS} {xs:List IV} {vs:List Value} {L:List Nat} {n:Nat} {es es':ES} {r:List VV × Nat} {ls:List PLt} {c:Cx} {O:Nat->Prop},es.gs.isEmpty=false->Ev S (Ge c.P rs n) es r es' ls->
  Hs c.P c.w O rs xs vs L->(∀b,b<c.w.heap.size->c.O b->O b)->(∀b∈L,¬ c.O b)->(∀i,i<xs.length->c.ρ[n+i]?=xs[i]?)->
  es=es'/\ls= []/\Eh c r.1 vs/\r.1.flatMap Ax= []
 | [],xs,vs,L,n,es,es',r,ls,c,O,d,h,a,e,g,hρ=>by
  unfold Ge at h
  rw[Ad]at h
  obtain⟨rfl,rfl,rfl⟩:=h
  cases vs with
  | cons=>exact a.elim
  | nil=>exact⟨rfl,rfl,trivial,rfl⟩
 | .whole t::rs,xs,vs,L,n,es,es',r,ls,c,O,d,h,a,e,g,hρ=>by
  cases vs with
  | nil=>exact a.elim
  | cons v vs=>
   obtain⟨ys,zs,L1,L2,rfl,rfl,⟨x,rfl,rfl,r1⟩,r2⟩:=a
   unfold Ge at h
   rw[Ab]at h
   obtain⟨q,e1,C,_,m,j,rfl⟩:=h
   rw[Ad]at j
   obtain⟨rfl,rfl,rfl⟩:=j
   obtain⟨z,A⟩:=Of hρ
   obtain⟨rfl,rfl,o,y⟩:=Ku d m r2 e g (by simpa using A)
   have B:c.ρ[n]?=some x:=by simpa using z 0 (by simp)
   exact⟨rfl,rfl,⟨⟨x,B,r1.weaken e⟩,o⟩,by rw[aC,y];rfl⟩
 | .clip t::rs,xs,vs,L,n,es,es',r,ls,c,O,d,h,a,e,g,hρ=>by
  cases vs with
  | nil=>exact a.elim
  | cons v vs=>
   obtain⟨ys,zs,L1,L2,rfl,rfl,⟨x,rfl,rfl,r1,E⟩,r2⟩:=a
   unfold Ge at h
   rw[Ab]at h
   obtain⟨q,e1,C,_,m,j,rfl⟩:=h
   rw[Ad]at j
   obtain⟨rfl,rfl,rfl⟩:=j
   obtain⟨z,A⟩:=Of hρ
   obtain⟨rfl,rfl,o,y⟩:=Ku d m r2 e g (by simpa using A)
   have B:c.ρ[n]?=some x:=by simpa using z 0 (by simp)
   exact⟨rfl,rfl,⟨⟨⟨x,B,r1.weaken e⟩,E⟩,o⟩,by rw[aC,y];rfl⟩
 | .strict t::rs,xs,vs,L,n,es,es',r,ls,c,O,d,h,a,e,g,hρ=>by
  cases vs with
  | nil=>exact a.elim
  | cons v vs=>
   obtain⟨ys,zs,L1,L2,rfl,rfl,⟨x,rfl,rfl,r1,ys3,A3,cap3,rfl,E⟩,r2⟩:=a
   unfold Ge at h
   rw[Ab]at h
   obtain⟨q,e1,C,_,m,j,rfl⟩:=h
   rw[Ad]at j
   obtain⟨rfl,rfl,rfl⟩:=j
   obtain⟨z,A⟩:=Of hρ
   obtain⟨rfl,rfl,o,y⟩:=Ku d m r2 e g (by simpa using A)
   have B:c.ρ[n]?=some (.list ys3):=by simpa using z 0 (by simp)
   exact⟨rfl,rfl,⟨⟨⟨_,B,r1.weaken e⟩,ys3,A3,cap3,B,E⟩,o⟩,by rw[aC,y];rfl⟩
 | .skip ::rs,xs,vs,L,n,es,es',r,ls,c,O,d,h,a,e,g,hρ=>by
  cases vs with
  | nil=>exact a.elim
  | cons v vs=>
   obtain⟨ys,zs,L1,L2,rfl,rfl,⟨rfl,rfl⟩,r2⟩:=a
   unfold Ge at h
   rw[Ab]at h
   obtain⟨q,e1,C,_,m,j,rfl⟩:=h
   rw[Ad]at j
   obtain⟨rfl,rfl,rfl⟩:=j
   obtain⟨rfl,rfl,o,y⟩:=Ku d m r2 e g (by simpa using hρ)
   exact⟨rfl,rfl,⟨trivial,o⟩,by rw[aC,y];rfl⟩
 | .nbox t bs::rs,xs,vs,L,n,es,es',r,ls,c,O,d,h,a,e,g,hρ=>by
  unfold Ge at h
  simp only[Ab,Dh]at h
  obtain⟨_,_,_,_,⟨F,_,_⟩,_⟩:=h
  rw[F]at d;cases d
 | .clo f bs::rs,xs,vs,L,n,es,es',r,ls,c,O,d,h,a,e,g,hρ=>by
  unfold Ge at h
  simp only[Ab,Dh]at h
  obtain⟨_,_,_,_,⟨F,_,_⟩,_⟩:=h
  rw[F]at d;cases d
 | .cells t bs::rs,xs,vs,L,n,es,es',r,ls,c,O,d,h,a,e,g,hρ=>by
  cases vs with
  | nil=>exact a.elim
  | cons v vs=>
   obtain⟨ys,zs,L1,L2,rfl,rfl,⟨I,b1,b2,b3,b4⟩,r2⟩:=a
   unfold Ge at h
   simp only[Ab,Ao]at h
   obtain⟨ts,_,_,_,⟨m,rfl,rfl⟩,⟨lvs,e1,C,_,j,⟨vv,X,Y,_,J,⟨q,Z,l3,_,K,H,rfl⟩,rfl⟩,rfl⟩,rfl⟩:=h
   rw[Ad]at H
   obtain⟨rfl,rfl,rfl⟩:=H
   rw[m]at b1;injection b1 with b1;subst b1
   obtain⟨z,A⟩:=Of hρ
   obtain⟨rfl,rfl,M,a2⟩:=O0 d j b4 (λu N=>by
    obtain⟨i,Q⟩:=bB.1 N
    exact Eb m i u Q) e (λb G=>g b (aD _ G)) z
   obtain⟨rfl,rfl,R,T⟩:=Ar7 J b3 M
   obtain⟨rfl,rfl,o,y⟩:=Ku d K r2 e (λb G=>g b (aB _ G)) (by rw[<-b4.len];exact A)
   refine⟨rfl,rfl,⟨R,o⟩,?_⟩
   rw[aC,y,bS,cH]
   intro k U
   have:=T k U
   rw[a2]at this
   cases this
end
end Go.CT
namespace Go.CT
open EM
section
variable {P:Program}{N:Nat}{X:Nat->Prop}{R:Job->List IV->Option (List IV)}{ρ:List IV}{K:Nat->Prop}{S:View}{μ:Nat->Value}{a:Act}{w w':World}{es es' e1:ES}{ls:List PLt}{sx:SX}
 {O O':Nat->Prop}
theorem Pj {u:TypeId}{x:IV}{v:Value}(h:Rel P w O u x v)(a:Ai P u=false)(b:Cr P u=none):Rel P w O' u x v:=by
 cases h with
 | int h=>exact .int h
 | bool h=>exact .bool h
 | str h=>exact .str h
 | agg h=>rw[a]at h;cases h
 | list _ h=>simp[Cr,h]at b
theorem Agx {t:TypeId}{ts:List TypeId}(h:leaves P t=some ts)(c:Ai P t=false):ts= [t]:=by
 have b: ∀ (d:Nat),Hb P (d+1) t=some ts->ts= [t]:=by
  intro d hd
  unfold Hb at hd
  cases a:P.underlying t with
  | none=>simp[a]at hd
  | some de=>cases de<;>simp_all[Ai]
 exact b 11 h
theorem Rel.flat {t:TypeId}{x:IV}{v:Value}(h:Rel P w O t x v)(b:Pb P t=true):Rel P w O' t x v:=by
 unfold Pb at b
 cases a:leaves P t with
 | none=>simp[a]at b
 | some ts=>
  simp only[a,cI,bX]at b
  by_cases g:Ai P t=true
  ·obtain⟨o,xs,cs,e,rfl,rfl,j⟩:=h.Abb g
   rw[a]at e;injection e with e;subst e
   refine Ho.agg (Ho.Kq j.len.1 j.len.2 λi u x c m q r=>?_) g a
   exact Pj (j.get i u x c m q r) (Eb a i u m) (b u (aT m))
  ·have d:Ai P t=false:=by simpa using g
   have:=Agx a d
   subst this
   exact Pj h d (b t (by simp))
theorem Gp.flat {e:TypeId}{xs:List IV}{v:Value}(h:Gp P w O e xs v)(a:Pb P e=true):Gp P w O' e xs v:=
 ⟨h.1,let ⟨cs,b,c,d⟩:=h.2; ⟨cs,b,λj x g=>let ⟨v,i,m⟩:=c j x g; ⟨v,i.flat a,m⟩,d⟩⟩
theorem Ni.flat {t:TypeId}{x:IV}{v:Value}(h:Ni P w O t x v)(c:(match Cr P t with | some e=>Pb P e | none=>match Aqn P t with | some kv=>Pb P kv.1&&Pb P kv.2 | none=>false)=true):Ni P w O' t x v:=by
 obtain⟨ys,i,⟨e,d,g⟩ | ⟨kt,vt,d,r,cl,es,g,j,m,o⟩⟩:=h
 ·simp only[Cr,d]at c
  exact⟨ys,i,.inl ⟨e,d,g.flat c⟩⟩
 ·simp only[Cr,Aqn,d,aA]at c
  refine⟨ys,i,.inr ⟨kt,vt,d,r,cl,es,g,j,m,?_⟩⟩
  have: ∀ {xs:List IV} {es:List MapEntry},Jf P w O kt vt xs es->Jf P w O' kt vt xs es:=by
   intro xs
   induction xs with
   | nil=>intro es h;cases es<;>exact h
   | cons x xs q=>
    intro es h
    cases es with
    | nil=>exact h
    | cons e es=>
     obtain⟨⟨a,b,e1,u,y⟩,h⟩:=h
     exact⟨⟨a,b,e1,u.flat c.1,y.flat c.2⟩,q h⟩
  exact this o
theorem Bs.flat: ∀ {bs:List Bool} {ts:List TypeId} {xs:List IV} {vs:List Value} {L:List Nat},Bs P w O bs ts xs vs L->D5 P bs ts=true->(∀t∈ts,Ai P t=false)->Bs P w O' bs ts xs vs L
 | [],[],[],[],_,h,_,_=>h
 | true::bs,t::ts,x::xs,v::vs,L,h,a,b=>by
  obtain⟨L',c,d,e⟩:=h
  simp only[D5,aA]at a
  exact⟨L',c.flat a.1,d.flat a.2 (λt h=>b t (aF _ h)),e⟩
 | false::bs,t::ts,x::xs,v::vs,L,h,a,b=>by
  simp only[D5,aA,bX]at a
  exact⟨Pj h.1 (b t aH) a.1,h.2.flat a.2 (λt h=>b t (aF _ h))⟩
 | [],[],[],_::_,_,h,_,_=>h.elim
 | [],[],_::_,_,_,h,_,_=>h.elim
 | [],_::_,_,_,_,h,_,_=>h.elim
 | _::_,[],_,_,_,h,_,_=>by simp[Bs]at h
 | _::_,_::_,[],_,_,h,_,_=>by simp[Bs]at h
 | _::_,_::_,_::_,[],_,h,_,_=>by simp[Bs]at h
theorem Xb.flat {t:TypeId}{bs:List Bool}{xs:List IV}{v:Value}{L:List Nat}(h:Xb P w O t bs xs v L)(c:(match leaves P t with | some ts=>D5 P bs ts | none=>false)=true):Xb P w O' t bs xs v L:=by
 obtain⟨b,u,L',d,e,⟨ts,a,g,j,m⟩,o⟩:=h
 simp only[a]at c
 exact⟨b,u,L',d,e,⟨ts,a,g,j,m.flat c λu q=>by
  obtain⟨i,r⟩:=bB.1 q
  exact Eb a i u r⟩,o⟩
theorem Ig.flat: ∀ {bs:List (TypeId × List Bool)} {xs:List IV} {vs:List Value} {L:List Nat},Ig P w O bs xs vs L->bs.all (λb=>match leaves P b.1 with | some ts=>D5 P b.2 ts | none=>false)=true->Ig P w O' bs xs vs L
 | [],_,[],_,h,_=>h
 | b::bs,_,_::_,_,h,a=>by
  obtain⟨ys,zs,L1,L2,c,d,e,g⟩:=h
  simp only[aX,aA]at a
  exact⟨ys,zs,L1,L2,c,d,e.flat a.1,g.flat a.2⟩
 | [],_,_::_,_,h,_=>h.elim
 | _::_,_,[],_,h,_=>h.elim
theorem Hs.flat: ∀ {rs:List RS} {xs:List IV} {vs:List Value} {L:List Nat},Hs P w O rs xs vs L->rs.all (eC P)=true->Hs P w O' rs xs vs L
 | [],_,[],_,h,_=>h
 | r::rs,_,v::vs,_,h,d=>by
  obtain⟨ys,zs,L1,L2,o,q,e,y⟩:=h
  simp only[aX,aA]at d
  refine⟨ys,zs,L1,L2,o,q,?_,y.flat d.2⟩
  cases r with
  | whole t=>obtain⟨x,a,b,g⟩:=e;exact⟨x,a,b,g.flat d.1⟩
  | clip t=>obtain⟨x,a,b,g,j⟩:=e;exact⟨x,a,b,g.flat d.1,j⟩
  | strict t=>obtain⟨x,a,b,g,j⟩:=e;exact⟨x,a,b,g.flat d.1,j⟩
  | skip=>exact e
  | nbox t bs=>exact Ig.flat e (by simp only[aX,List.all_nil,Bool.and_true];exact d.1)
  | clo f bs=>obtain⟨c,a,b⟩:=e;exact⟨c,a,b.flat d.1⟩
  | cells t bs=>
   obtain⟨ts,a,b,g,j⟩:=e
   have m:=d.1
   simp only[eC,a]at m
   exact⟨ts,a,b,g,j.flat m λu z=>by
    obtain⟨i,A⟩:=bB.1 z
    exact Eb a i u A⟩
 | [],_,_::_,_,h,_=>h.elim
 | _::_,_,[],_,h,_=>h.elim
theorem Hs.weaken (a: ∀b,b<w.heap.size->O' b->O b): ∀ {rs:List RS} {xs:List IV} {vs:List Value} {L:List Nat},Hs P w O rs xs vs L->Hs P w O' rs xs vs L
 | [],_,[],_,h=>h
 | r::rs,_,v::vs,_,h=>by
  obtain⟨ys,zs,L1,L2,c,d,e,g⟩:=h
  exact⟨ys,zs,L1,L2,c,d,Wx.weaken e a,g.weaken a⟩
 | [],_,_::_,_,h=>h.elim
 | _::_,_,[],_,h=>h.elim
theorem B4.weaken (a: ∀b,b<w.heap.size->O' b->O b): ∀ {rs:List PS} {xs:List IV} {vs:List Value} {L:List Nat},B4 P w O rs xs vs L->B4 P w O' rs xs vs L
 | [],_,[],_,h=>h
 | r::rs,xs,v::vs,L,h=>by
  unfold B4 at h ⊢
  by_cases c:r.Cu=true
  ·simp only[c,Zt]at h ⊢
   obtain⟨ys,zs,L1,L2,d,e,g,i⟩:=h
   exact⟨ys,zs,L1,L2,d,e,g.weaken a,i.weaken a⟩
  ·simp only[c]at h ⊢
   exact B4.weaken a h
 | [],_,_::_,_,h=>h.elim
 | _::_,_,[],_,h=>h.elim
theorem D0.pure {Lt:Nat->Prop} : ∀ {b:List PS} {xs:List IV} {vs:List Value} {L:List Nat},D0 P w O Lt b xs vs L->b.all bT=true->L= []
 | [],_,[],_,h,_=>h.2
 | p::b,_,v::vs,_,h,hp=>by
  obtain⟨ys,zs,L1,L2,d,rfl,a,c⟩:=h
  simp only[aX,aA]at hp
  rw[c.pure hp.2,bS]
  cases p with
  | data t=>obtain⟨x,_,q,_⟩:=a;exact q
  | fn f ts=>obtain⟨x,_,q,_⟩:=a;exact q
  | fnb f n=>exact a.2
  | rd t=>obtain⟨x,_,q,_⟩:=a;exact q
  | arr t=>simp[bT]at hp
  | own t=>simp[bT]at hp
  | box t bs=>simp[bT]at hp
  | bld t bk=>simp[bT]at hp
 | [],_,_::_,_,h,_=>h.elim
 | _::_,_,[],_,h,_=>h.elim
theorem Ou.pure: ∀ {b:List PS} {us:List Value} {l:List Bk},Ou P K μ b us l->b.all bT=true->l= []
 | [],[],_,h,_=>h
 | p::b,_::_,_,h,hp=>by
  obtain⟨d,e,rfl,a,c⟩:=h
  simp only[aX,aA]at hp
  rw[c.pure hp.2,bS]
  cases p with
  | data t=>exact a
  | fn f ts=>exact a
  | fnb f n=>exact a
  | rd t=>exact a
  | arr t=>simp[bT]at hp
  | own t=>simp[bT]at hp
  | box t bs=>simp[bT]at hp
  | bld t bk=>simp[bT]at hp
 | [],_::_,_,h,_=>h.elim
 | _::_,[],_,h,_=>h.elim
theorem B4.pure: ∀ {a:List PS} {xs:List IV} {us:List Value} {L:List Nat},B4 P w O a xs us L->a.all bT=true->xs= []/\L= []
 | [],_,[],_,h,_=>h
 | p::a,xs,v::us,L,h,hp=>by
  simp only[aX,aA]at hp
  have:p.Cu=false:=by cases p<;>simp_all[bT,PS.Cu]
  simp only[B4,this,aL,Zf]at h
  exact h.pure hp.2
 | [],_,_::_,_,h,_=>h.elim
 | _::_,_,[],_,h,_=>h.elim
theorem B4.free: ∀ {a:List PS} {xs:List IV} {us:List Value} {L:List Nat},B4 P w O a xs us L->a.all bT=true->B4 P w O' a xs us L
 | [],_,[],_,h,_=>h
 | p::a,xs,v::us,L,h,hp=>by
  simp only[aX,aA]at hp
  have:p.Cu=false:=by cases p<;>simp_all[bT,PS.Cu]
  simp only[B4,this,aL,Zf]at h ⊢
  exact h.free hp.2
 | [],_,_::_,_,h,_=>h.elim
 | _::_,_,[],_,h,_=>h.elim
theorem Aqh {e:TypeId}{k:IntKind}(h:Kp P e=some k):Pb P e=true:=by
 have a:=Cp h
 have b:leaves P e=some [e]:=by unfold leaves Hb;simp[a]
 simp[Pb,b,Cr,a]
theorem ArgRel.flat {Lt:Nat->Prop}{p:PS}{xs:List IV}{v:Value}{L:List Nat}(h:ArgRel P w O Lt p xs v L)(j:p.Cu=true)(d:p.safe P=true):ArgRel P w O' Lt p xs v L:=by
 cases p with
 | arr t=>
  obtain⟨e,ys,g,i,a,c⟩:=h
  simp only[dA,Cr,a]at d
  exact⟨e,ys,g,i,a,c.flat d⟩
 | box t bs=>exact Xb.flat h d
 | bld t bk=>
  obtain⟨b,m,o,ys,st,e,g,i,a,c,q,r,u⟩:=h
  exact⟨b,m,o,ys,st,e,g,i,a,c,q,r.flat (Aqh (Z9 c).1),u⟩
 | _=>cases j
theorem B4.flat: ∀ {a:List PS} {xs:List IV} {us:List Value} {L:List Nat},B4 P w O a xs us L->a.all (dA P)=true->B4 P w O' a xs us L
 | [],_,[],_,h,_=>h
 | p::a,xs,v::us,L,h,hp=>by
  simp only[aX,aA]at hp
  unfold B4 at h ⊢
  by_cases b:p.Cu=true
  ·simp only[b,Zt]at h ⊢
   obtain⟨ys,zs,L1,L2,c,d,e,g⟩:=h
   exact⟨ys,zs,L1,L2,c,d,e.flat b hp.1,g.flat hp.2⟩
  ·simp only[b]at h ⊢
   exact B4.flat h hp.2
 | [],_,_::_,_,h,_=>h.elim
 | _::_,_,[],_,h,_=>h.elim
theorem Xs {c:Cx}{vvs:List VV}{vs:List Value}(h:Eh c vvs vs):Agd c (Aar vvs) (packed vs):=by
 cases vvs with
 | nil=>cases vs with
  | nil=>exact⟨#[],rfl,trivial⟩
  | cons=>exact h.elim
 | cons v vvs=>
  cases vs with
  | nil=>exact h.elim
  | cons u us=>
   cases vvs with
   | nil=>cases us with
    | nil=>exact h.1
    | cons=>exact h.2.elim
   | cons v2 vvs=>
    cases us with
    | nil=>exact h.2.elim
    | cons a us=>exact⟨_,rfl,by simpa using h⟩
theorem Ss (vvs:List VV): ∀k∈Ca (Aar vvs),k∈vvs.flatMap Ax:=by
 intro k a
 unfold Aar at a
 split at a
 ·simpa [Ca]using a
 ·simpa [Ca]using a
theorem LH.call {n i m:Nat}{gs:List (Arg × Bool)}{as:List Arg}(h:LH R ρ [⟨n,⟨gs,.call i as m⟩⟩])(d:holds ρ gs=some true):
  ∃xs rs,bP ρ as=some xs/\R ⟨i,0⟩ xs=some rs/\rs.length=m/\ ∀j,j<rs.length->ρ[n+j]?=rs[j]?:=by
 obtain⟨xs,a,e⟩:=h _ (bO.2 rfl)
 simp only[K1.ev,d,cR,Zt,Mj.ev]at a
 cases c:bP ρ as with
 | none=>simp[c]at a
 | some vs=>
  simp only[c,cR]at a
  cases b:R ⟨i,0⟩ vs with
  | none=>simp[b]at a
  | some y=>
   simp only[b,cR]at a
   split at a
   ·rename_i hlen
    injection a with a
    subst a
    exact⟨vs,y,rfl,b,hlen,λj g=>e j (by simpa [Mj.arity,<-hlen]using g)⟩
   ·cases a
theorem Aep {specs:List (Nat × Spec)}{i:Nat}{s:Spec}{vvs:List VV}{args0 args:List Value}(aj:Iq 0 s.params args0=some args)(hS:Sound P specs R)(Z:(i,s)∈specs)(G:Good P N X ρ K S.tm (cur S es.obs) μ a w)(h:Ev S (U4 P i s vvs) es sx es' ls)(x:LH R ρ ls)
  (hg:holds ρ es.gs=some true) (g: ∀k∈vvs.flatMap Ax,K k) (hv:Eh (Bh P X ρ (cur S es.obs) μ w) vvs args) (aa: ∀k,es.m<=k->k<es'.m-> ¬ K k):
  Atk P s.fn args0.toArray w λv w'=> ∃μ',Out P N X ρ K S μ a w es es' sx μ' w' v:=by
 unfold U4 at h
 rw[Ab]at h
 obtain⟨_,_,_,_,t,h,rfl⟩:=h
 rw[Af]at t
 obtain⟨g0,rfl,rfl⟩:=t
 rw[Ab]at h
 obtain⟨_,e0,_,_,t,h,rfl⟩:=h
 have j:es=e0/\(s.params.all bT=true\/es.gs= []):=by
  unfold Aqf at t
  rw[Hr]at t
  rcases t with⟨hp,t⟩ | ⟨_,t⟩
  ·rw[Ad]at t;exact⟨t.2.1,.inl hp⟩
  ·rw[Dh]at t;exact⟨t.2.1,.inr t.1⟩
 obtain⟨rfl,j⟩:=j
 simp only[Ab,Ahf,Ad]at h
 obtain⟨ks,_,_,_,ac,⟨ab,e1,l1,_,T,⟨_,ax,ay,_,ad,⟨_,e2,l2,_,h2,⟨n,_,_,_,⟨rfl,rfl,rfl⟩,⟨rm,e3,l3,_,h3,⟨_,e4,l4,_,E,⟨rfl,rfl,rfl⟩,rfl⟩,rfl⟩,rfl⟩,rfl⟩,rfl⟩,rfl⟩,rfl⟩:=h
 obtain⟨rfl,rfl,F⟩:=Ry ac
 have x:=x.right.right.right
 obtain⟨al,xs,L,p1,d,U,H,ae⟩: ∃ (al:Bool) (xs:List IV) (L:List Nat),bP ρ ab.1=some xs/\Nu P N X ρ K S μ a w L es e1/\Ou P K μ s.params args ab.2/\
   D0 P w (λb=>(al=true/\(X b\/Wr (cur S e1.obs) μ b))\/b∈L) (λ_=>False) s.params xs args L/\
   (al=false->s.results.all (eC P)=true/\(s.params.all bT=true\/s.params.all (dA P)=true)):=by
  generalize y:(!s.alias_ && !s.params.all bT&&s.params.all (dA P)&&Nh s.params vvs)=Ab3 at ac F T
  cases Ab3 with
  | true=>
   simp only[aA,dG]at y
   obtain⟨⟨⟨a1,a2⟩,a3⟩,a4⟩:=y
   simp only[Bool.not_true,Bool.false_and]at T
   simp only[Zt]at F
   obtain⟨xs,L,p1,d,H,U⟩:=T4 (KS:=ks) G T x.left hg g hv a3 a4 F
   obtain⟨_,_,af⟩:=Ml d ad
   refine⟨false,xs,L,p1,d,U,H.weaken λb e u=>?_,λ_=>⟨by simpa [a1]using g0,.inr a3⟩⟩
   have u:b∈L:=u.resolve_left (by simp)
   exact⟨.inr u,λk g e=>af k g b e u⟩
  | false=>
   simp only[Bool.not_false,Bool.true_and]at T
   generalize z:(s.alias_|| !s.params.all bT)=al at T
   have B:s.params.all bT=true\/al=true:=by
    by_cases hp:s.params.all bT=true
    ·exact .inl hp
    ·right;rw[<-z];simp[hp]
   obtain⟨xs,L,p1,d,H,U⟩:=Qr G T x.left hg g hv B
   refine⟨al,xs,L,p1,d,U,H.weaken λb e u=>?_,λY=>?_⟩
   ·rcases u with⟨Y,u⟩ | u
    ·exact⟨Y,u.imp .inl id⟩
    ·refine⟨?_,.inl (.inr u)⟩
     rcases B with hp | hp
     ·rw[H.pure hp]at u;cases u
     ·exact hp
   ·subst Y
    simp only[cY,Bool.not_eq_false']at z
    exact⟨by simpa [z.1]using g0,.inl z.2⟩
 have x:=x.right
 obtain⟨rfl,rfl,_⟩:=Ml d ad
 have x:=x.right
 obtain⟨rfl,rfl,ak⟩:=Ak0 d h2 hv H
 have x:=x.right
 obtain⟨az,rs,q1,q2,q3,q4⟩:=LH.call x.left (by rw[d.gs];exact hg)
 rw[p1]at q1;injection q1 with q1;subst q1
 -- what the callee must not touch
 have I:D0 P w (λb=>(al=true/\(X b\/Wr (cur S e1.obs) μ b))\/b∈L) (· ∈L) s.params xs args L:=ak
 have am:=hS i s Z w (λb=>al=true/\(X b\/Wr (cur S e1.obs) μ b)) xs args0 args L rs aj I d.nodup
  (λb e J=>by
   rcases J.2 with J | ⟨k,o,r1,r2,r3⟩
   ·obtain⟨k,o,r1,r2,r3⟩:=d.own b e
    exact G.xsep k o b r1 r2 r3 J
   ·exact d.Cj.xsep k o b r1 r2 r3 (.inr e))
  (λb J=>by
   rcases J.2 with J | ⟨k,o,r1,r2,r3⟩
   ·exact G.xlt b J
   ·exact d.Cj.Mg r1 r2 r3) q2
 refine am.mono λv w' A=>?_
 obtain⟨vs,ivs,bvs,L1,L2,rfl,rfl,ag,M,C,q⟩:=A.out
 have ah: ∀ (WA:Nat->Prop),(∀b,WA b->Wr (cur S e1.obs) μ b\/b∈L1++L2)-> ∃O:Nat->Prop,Hs P w' O s.results ivs vs L1/\B4 P w' O s.params bvs args L2/\ ∀b,(X b\/WA b)->O b:=by
  intro WA an
  cases Y:al with
  | true=>
   refine⟨_,C,q,λb e=>?_⟩
   subst Y
   rcases e with e | e
   ·exact .inl ⟨rfl,.inl e⟩
   ·exact(an b e).imp (λh=>⟨rfl,.inr h⟩) id
  | false=>
   obtain⟨Q,ao⟩:=ae Y
   exact⟨λ_=>True,C.flat Q,ao.elim (λhp=>q.free hp) (λhp=>q.flat hp),λ_ _=>trivial⟩
 obtain⟨t1,t2⟩:=Of q4
 by_cases ai:es.gs= []
 ·obtain⟨O,o1,o2,o3⟩:=ah (λb=>Wr (cur S e1.obs) μ b\/b∈L1++L2) λ_ h=>h
  have r0:=Ais G d A.step M
  have r:e1.gs= []:=d.gs.trans ai
  rw[aR]at ag
  obtain⟨ap,aq,ar⟩:=ag
  have aw:e3.m<=e4.m:=Ib E
  obtain⟨rfl,u1,u2,u3,μ1,u4,u5,u6,u7,u8⟩:=J4 (c:=cxW P X ρ (λb=>Wr (cur S e1.obs) μ b\/b∈L1++L2) μ w') (es:= {e1 with n:=e1.n+(Mj.call i ab.1 s.arity).arity}) r h3
   (o1.weaken λb _ e=>o3 b e) ap (λb e=>⟨aD _ e,.inr (aD _ e)⟩) r0 t1 (λk k1 k2=>aa k (by have:=d.m;have k1:e1.m<=k:=k1;omega) (by omega))
  have u3:e1.m<=e3.m:=u3
  have au:=d.m
  rw[u8]at E
  obtain⟨rfl,v1,v2,v3,μ',v4,v5,_⟩:=Ij (c:=(cxW P X ρ (λb=>Wr (cur S e1.obs) μ b\/b∈L1++L2) μ w').at μ1) (u2.trans r) E
   (o2.weaken λb _ e=>o3 b e) (U.mono (λ_ h=> .inl h) u4) aq (λb e=>⟨⟨aB _ e,λh=>ar b h b e rfl⟩,.inr (aB _ e)⟩) u5 t2 (λk k1 k2 g=>by
    rcases g with g | g
    ·exact aa k (by omega) k2 g
    ·have ba:k<e3.m:=g.2
     omega)
  have hw: ∀k,As (As K e1.m e3.m) e3.m e4.m k->As K es.m e4.m k:=by
   intro k g
   have:=Ct u3 v3 k g
   rwa [au]at this
  have Lt:=Cx.later (c:=(cxW P X ρ (λb=>Wr (cur S e1.obs) μ b\/b∈L1++L2) μ w').at μ1) (μ:=μ') u5.wo v4
  refine⟨μ',At0 G d A.step M (v5.keys hw λb h=>h) (Xs (Lt.Qq u7 u6)) (λk g=>hw k (.inl (u7 k (Ss _ k g)))) λk g=>(v4 k (.inl g)).trans (u4 k g)⟩
 ·have hp:s.params.all bT=true:=j.resolve_right ai
  have hL:=H.pure hp
  subst hL
  have r:e1.gs.isEmpty=false:=by rw[d.gs];cases hh:es.gs<;>simp_all
  obtain⟨O,o1,o2,o3⟩:=ah (λb=>Wr (cur S e1.obs) μ b\/b∈([]:List Nat)) λb h=>h.imp id λh=>by cases h
  have r0:=Ais (Ln:= []) G d A.step (by simp)
  obtain⟨rfl,rfl,u1,u2⟩:=Ku (c:=cxW P X ρ (λb=>Wr (cur S e1.obs) μ b\/b∈([]:List Nat)) μ w') (es:= {e1 with n:=e1.n+(Mj.call i ab.1 s.arity).arity}) r h3 o1 (λb _ e=>o3 b e)
   (λb e hO=>by
    have hf:w.heap.size<=b:=(M b (aD _ e)).resolve_left (by simp)
    rcases hO with hO | ⟨k,o,y1,y2,y3⟩ | hO
    ·have:=G.xlt b hO;omega
    ·have:=d.Cj.Mg y1 y2 y3;omega
    ·cases hO) t1
  have av:=U.pure hp
  rw[av]at E
  unfold Dx at E
  rw[Ad]at E
  obtain⟨_,rfl,rfl⟩:=E
  refine⟨μ,At0 (Ln:= []) G d A.step (by simp) (r0.keys (λ_ h=> .inl h) λb h=>h) (Xs u1) (λk g=>?_) λ_ _=>rfl⟩
  have:=Ss _ k g
  rw[u2]at this
  cases this
end
end Go.CT
namespace Go.CT
open EM
section
variable {P:Program}{N:Nat}{X:Nat->Prop}{R:Job->List IV->Option (List IV)}{ρ:List IV}{K:Nat->Prop}{S:View}{μ:Nat->Value}{a:Act}{w w':World}{es es':ES}{ls:List PLt}{sx:SX}
 {tm:Nat->SV} {ob:Nat->Option Ob}
theorem Ox (obj:Obj):Dp K (Bh P X ρ ob μ w) (Bh P X ρ ob μ (w.alloc obj)):=
 {P:=rfl,ρ:=λ_ _ h=>h,μ:=λ_ _=>rfl,stays:=(Es _ w obj).stays,O:=λ_ _ h=>h,W:=λ_ _ h=>h,WO:=λ_ h=> .inr h}
theorem Good.alloc (G:Good P N X ρ K tm ob μ a w)(obj:Obj):Good P N X ρ K tm ob μ a (w.alloc obj):=
 ⟨G.size,G.defers,λs=>(Ox obj).Arc (G.kt s) (G.slot s),λk o c=>(Ox obj).Af0 (G.ko k o c).1 (G.ko k o c).2 (λ_ b _ d=>dR _ _ _ d) (G.obj k o c),G.sep,G.xsep,
  λb e=>bQ (G.xlt b e) (Es (λ_=>False) w obj).size,G.kt,G.ko⟩
theorem Wp {t:TypeId}{len:Nat}{parts:Array (Nat × Operand)}(G:Good P N X ρ K S.tm (cur S es.obs) μ a w)(h:Ev S (Ng P t len parts) es sx es' ls)(H:LH R ρ ls)(U:holds ρ es.gs=some true):
  ∃v w' μ',(Instr.buildSlice t len (parts.map fun(i,x)=>(i,a.eval x))).run P w= .ok v w'/\Out P N X ρ K S μ a w es es' sx μ' w' v:=by
 unfold Ng at h
 rw[Ab]at h
 obtain⟨e,_,_,_,q,h,rfl⟩:=h
 rw[Ao]at q
 obtain⟨he,rfl,rfl⟩:=q
 rw[Ab]at h
 obtain⟨_,_,_,_,q,h,rfl⟩:=h
 rw[Af]at q
 obtain⟨J,rfl,rfl⟩:=q
 simp only[aA,decide_eq_true_eq,beq_iff_eq]at J
 obtain⟨⟨⟨⟨J,Y⟩,Z⟩,g4⟩,g5⟩:=J
 rw[Ab]at h
 obtain⟨as,e1,l1,_,h1,h,rfl⟩:=h
 have H:=H.right.right
 obtain⟨p,xs,q1,m,q3⟩:=Ms g5 G h1 H.left U
 simp only[Ab,Bi,Ad]at h
 obtain⟨_,_,_,_,⟨rfl,rfl,rfl⟩,⟨rfl,rfl,rfl⟩,rfl⟩:=h
 obtain⟨vs,iv,r1,r2,r3⟩:=cA H.right.left (by rw[p.gs];exact U)
 rw[q1]at r1;injection r1 with r1;subst r1
 simp only[bV,aE]at r2;subst r2
 obtain⟨i,z,M,z2,z3,z4,z5⟩:=Mz g4
 have Q:=Be he
 have hlen:(parts.toList.map λp=>a.eval p.2).length =len:=by simp[Z]
 have r:=m.len
 rw[hlen]at r
 let vs0:=parts.toList.map λp=>a.eval p.2
 let cells0:Array Value:=(Array.range (len * Ag P e)).map ((if len * Ag P e=0 then(#[]:Array Value) else z.cells)[· % (if len * Ag P e=0 then(#[]:Array Value) else z.cells).size]!)
 have y:cells0.size=len * Ag P e:=by simp[cells0]
 obtain⟨cells',f1,f2⟩:=Wt (sz:=Ag P e) vs0 0 cells0 (λv g=>(m.size v g).1) (by rw[y,bF];exact aW _ (by simp[vs0,Z]))
 have j:vs0.length=len:=hlen
 have A:cells'.toList=Ba vs0:=by
  rw[f2,dF,List.take_zero,dN,bF,j,cS (by rw[aN,y];exact aK _),bS]
 have B:cells'.size=len * Ag P e:=by
  rw[<-aN,A,Dc (sz:=Ag P e) (λv g=>(m.size v g).1),j]
 have L:Dp K (Bh P X ρ (cur S e1.obs) μ w) (Bh P X ρ (cur S e1.obs) μ (w.alloc (.cells cells' e))):=Ox _
 refine⟨.slice (some ⟨w.heap.size,0,none⟩) len len,w.alloc (.cells cells' e),μ,?_,?_⟩
 ·have hparts:(parts.map fun(x:Nat × Operand)=>match x with | (i,x)=>(i,a.eval x)).toList =Ahu 0 vs0:=by
   rw[Array.toList_map]
   have:(fun(x:Nat × Operand)=>match x with | (i,x)=>(i,a.eval x))=λp=>(p.1,a.eval p.2):=by funext ⟨i,x⟩;rfl
   rw[this];exact q3
  unfold Instr.buildSlice
  have hn: ¬ (len * Ag P e > 2 ^ 24):=by omega
  by_cases d:len * Ag P e=0
  ·simp only[underlying,Sem.run_bind,run_program,Result.andThen_ok,Q,Sem.run_pure,run_sizeOf M,if_neg hn,if_pos d,hparts]
   have c:=f1
   simp only[cells0,if_pos d]at c
   rw[c]
   simp[newRow]
  ·simp only[underlying,Sem.run_bind,run_program,Result.andThen_ok,Q,Sem.run_pure,run_sizeOf M,if_neg hn,if_neg d,hparts,zeroValue,typeInfo,M,z2]
   have c:=f1
   simp only[cells0,if_neg d]at c
   rw[c]
   simp[newRow]
 ·have C: ∀u∈Ba vs0,u.oneCell'=true:=λu hu=>Ei (λv g=>(m.size v g).2) u hu
  have E:Gp P (w.alloc (.cells cells' e)) (Bh P X ρ (cur S e1.obs) μ w).O e xs (.slice (some ⟨w.heap.size,0,none⟩) len len):=by
   refine⟨Y,Ba vs0,?_,L.elems m.elems,C⟩
   rw[r]
   refine⟨by rw[Dc (sz:=Ag P e) (λv g=>(m.size v g).1),j],.inr ⟨w.heap.size,len,cells',rfl,cB _,heap_alloc_new w _,aK _,?_,B,?_⟩⟩
   ·have:maxLen=9223372036854775807:=by decide
    have:=cO len Y
    omega
   ·rw[cD (by rw[aN,B];exact aK _),A]
  have F:=E.rel (O':=(Bh P X ρ (cur S e1.obs) μ w).O) Q (λ_ _ h=>h) (λb I T=>by
   simp[blk]at I
   subst I
   rcases T with T | ⟨k,o,k1,k2,k3⟩
   ·exact dU _ (G.xlt _ T)
   ·exact dU _ (p.Cj.Mg k1 k2 k3))
  refine⟨(p.Cj.alloc _).M5 λ_ h=> .inl h,⟨.list xs,r3,F⟩,Mb _ _,?_,λb I=> .inl (p.Dv.wr I),λ_ _=>rfl⟩
  exact Es _ _ _
end
end Go.CT
namespace Go.CT
open EM
section
variable {P:Program}{N:Nat}{X:Nat->Prop}{R:Job->List IV->Option (List IV)}{ρ:List IV}{K:Nat->Prop}{S:View}{μ:Nat->Value}{a:Act}{w w':World}{es es' e1:ES}{ls:List PLt}{sx:SX}
theorem Arz {p:PS}{v:VV}{b:Bool}(h:Ev S (Apx p v) es b es' ls):es=es'/\ls= []:=by
 unfold Apx at h
 split at h<;>first
  | (rw[Ad]at h;exact⟨h.2.1,h.2.2⟩)
  | (
   rw[Ab]at h
   obtain⟨o,_,_,c,a,h,rfl⟩:=h
   rw[Bp]at a
   obtain⟨d,rfl,rfl⟩:=a
   split at h<;> (rw[Ad]at h;exact⟨h.2.1,by simpa using h.2.2⟩))
theorem Zi: ∀ {d:List PS} {vs:List VV} {b:Bool} {es es':ES} {ls:List PLt},Ev S (O5 d vs) es b es' ls->es=es'/\ls= []
 | [],[],b,es,es',ls,h=>by
  unfold O5 at h
  rw[Ad]at h;exact⟨h.2.1,h.2.2⟩
 | p::d,v::vs,b,es,es',ls,h=>by
  unfold O5 at h
  rw[Ab]at h
  obtain⟨c,e1,g,i,e,a,rfl⟩:=h
  obtain⟨rfl,rfl⟩:=Arz e
  rw[Hr]at a
  rcases a with⟨_,a⟩ | ⟨_,a⟩
  ·obtain⟨rfl,rfl⟩:=Zi a
   exact⟨rfl,rfl⟩
  ·rw[Ad]at a;exact⟨a.2.1,by simpa using a.2.2⟩
 | [],_::_,b,es,es',ls,h=>by unfold O5 at h;rw[Ad]at h;exact⟨h.2.1,h.2.2⟩
 | _::_,[],b,es,es',ls,h=>by unfold O5 at h;rw[Ad]at h;exact⟨h.2.1,h.2.2⟩
theorem Lx {f:FuncId}{vs:List VV} : ∀ {ss:List (Nat × Spec)} {q:Nat × Spec} {es es':ES} {ls:List PLt},Ev S (K6 f vs ss) es q es' ls->es=es'/\ls= []/\q∈ss/\q.2.fn=f
 | [],q,es,es',ls,h=>by simp[K6,Ac]at h
 | (i,s)::ss,q,es,es',ls,h=>by
  unfold K6 at h
  rw[Hr]at h
  rcases h with⟨e,h⟩ | ⟨_,h⟩
  ·split at h
   ·rw[Ab]at h
    obtain⟨c,e1,j,m,g,a,rfl⟩:=h
    obtain⟨rfl,rfl⟩:=Zi g
    rw[Hr]at a
    rcases a with⟨_,a⟩ | ⟨_,a⟩
    ·rw[Ad]at a
     obtain⟨rfl,rfl,rfl⟩:=a
     exact⟨rfl,rfl,aH,by simpa using e⟩
    ·obtain⟨rfl,rfl,b,d⟩:=Lx a
     exact⟨rfl,rfl,aF _ b,d⟩
   ·obtain⟨rfl,rfl,b,d⟩:=Lx h
    exact⟨rfl,rfl,aF _ b,d⟩
  ·obtain⟨rfl,rfl,b,d⟩:=Lx h
   exact⟨rfl,rfl,aF _ b,d⟩
theorem Ai5: ∀ {xs:List Operand} {ts:List TypeId} {es es':ES} {vs:List VV} {ls:List PLt},Good P N X ρ K S.tm (cur S es.obs) μ a w->Ev S (Ant P xs ts) es vs es' ls->holds ρ es.gs=some true->
  es=es'/\ls= []/\Eh (Bh P X ρ (cur S es.obs) μ w) vs (xs.map a.eval)/\ ∀k∈vs.flatMap Ax,K k
 | [],ts,es,es',vs,ls,G,h,c=>by
  unfold Ant at h
  rw[Ad]at h
  obtain⟨rfl,rfl,rfl⟩:=h
  exact⟨rfl,rfl,trivial,by simp⟩
 | x::xs,t::ts,es,es',vs,ls,G,h,c=>by
  unfold Ant at h
  simp only[Ab,Ad]at h
  obtain⟨v,e1,o,_,d,⟨vs,q,r,_,e,⟨rfl,rfl,rfl⟩,rfl⟩,rfl⟩:=h
  obtain⟨rfl,rfl,g,i⟩:=E1 G d c
  obtain⟨rfl,rfl,j,m⟩:=Ai5 G e c
  refine⟨rfl,rfl,⟨g,j⟩,λk b=>?_⟩
  rw[aC]at b
  rcases aG.1 b with b | b
  ·exact i k b
  ·exact m k b
 | _::_,[],es,es',vs,ls,G,h,c=>by simp[Ant,Ac]at h
theorem Mk.len {c:Cx} : ∀ {a:List PV} {vs:List Value},Mk c a vs->a.length=vs.length
 | [],[],_=>rfl
 | _::_,_::_,h=>by simp[Mk.len h.2]
 | [],_::_,h=>h.elim
 | _::_,[],h=>h.elim
theorem Zu {c:Cx} : ∀ {k:Nat} {d:List PS} {vvs fl:List VV} {vs:List Value},J3 k d vvs=some fl->Eh c vvs vs-> ∃fs,Iq k d vs=some fs/\Eh c fl fs/\ ∀q∈fl.flatMap Ax,q∈vvs.flatMap Ax
 | k+1,_::d,vvs,fl,vs,h,a=>by
  unfold J3 at h
  unfold Iq
  exact Zu h a
 | k+1,[],vvs,fl,vs,h,a=>by simp[J3]at h
 | 0,[],[],fl,vs,h,a=>by
  cases vs with
  | cons=>exact a.elim
  | nil=>
   simp only[J3,aE]at h
   subst h
   exact⟨[],rfl,trivial,by simp⟩
 | 0,[],_::_,fl,vs,h,a=>by simp[J3]at h
 | 0,p::d,[],fl,vs,h,a=>by simp[J3]at h
 | 0,p::d,x::vvs,fl,vs,h,a=>by
  cases vs with
  | nil=>exact a.elim
  | cons v vs=>
   unfold J3 at h
   unfold Iq
   cases hp:Ae8 p with
   | none=>
    simp only[hp]at h ⊢
    cases e:J3 0 d vvs with
    | none=>simp[e]at h
    | some r=>
     simp only[e,aJ,aE]at h
     subst h
     obtain⟨fs,m,o,t⟩:=Zu e a.2
     refine⟨v::fs,by simp[m],⟨a.1,o⟩,λq b=>?_⟩
     rw[aC]at b ⊢
     exact(aG.1 b).elim (λh=>aD _ h) λh=>aB _ (t q h)
   | some fn=>
    simp only[hp]at h ⊢
    cases i:Ag0 x with
    | none=>simp[i]at h
    | some gc=>
     simp only[i]at h
     split at h
     ·rename_i u
      simp only[aA,beq_iff_eq]at u
      obtain⟨g,caps,rfl⟩: ∃g caps,x= .leaf (.fn g caps):=by
       unfold Ag0 at i
       split at i
       ·exact⟨_,_,rfl⟩
       ·cases i
      simp only[Ag0,aE]at i
      subst i
      cases e:J3 fn.2 d vvs with
      | none=>simp[e]at h
      | some r=>
       simp only[e,aJ,aE]at h
       subst h
       obtain⟨cs,rfl,j⟩:=a.1
       obtain⟨fs,m,o,t⟩:=Zu e a.2
       refine⟨.func (.func g) #[] cs::(cs.toList++fs),?_,⟨trivial,j.Qq.append o⟩,λq b=>?_⟩
       ·have w:=j.len
        simp only[Bb9,Array.isEmpty_empty,Zt,m,aJ]
        rw[if_pos]
        simp only[aA,beq_iff_eq]
        exact⟨u.1,w ▸ u.2⟩
       ·rw[aC,cJ,Qz]at b
        rw[aC]
        rcases aG.1 b with b | b
        ·simp[Ax,A5]at b
        ·exact(aG.1 b).elim (λh=>aD _ h) λh=>aB _ (t q h)
     ·cases h
theorem Aoh {o:Oper}{f:FuncId}{args:Array Value}{R:Value->World->Prop}{next:Act->World->Prop}{Q:Exit->Act->World->Prop}(h:Atk P f args w R)(j:(execOp a.eval o).run P w=(callFunc f args).run P w)
  (i: ∀v w',R v w'->next (a.put o.dst v) w'):o.wp P a w next Q:=by
 unfold Oper.wp
 rw[j]
 rcases h with⟨fn,b,c,m,q⟩ | ⟨v,w',b,c⟩
 ·have:(callFunc f args).run P w= .ok (.enter f args) w:=by
   have d: ¬ fn.name= "runtime.NumGoroutine" :=by simpa using c
   have g: ¬ fn.body=none:=λe=>by simp[e]at m
   simp[callFunc,b,d,g]
  rw[this,Oper.upon_enter]
  refine q.mono λe w' ⟨v,r,t⟩=>?_
  subst r
  exact i v w' t
 ·rw[b];exact i v w' c
theorem A9g {specs:List (Nat × Spec)}{o:Oper}{next:Act->World->Prop}{Q:Exit->Act->World->Prop}(hS:Sound P specs R)(G:Good P N X ρ K S.tm (cur S es.obs) μ a w)(h:Ev S (xOp P specs o) es sx es' ls)(z:LH R ρ ls)
  (g:holds ρ es.gs=some true) (B: ∀k,es.m<=k->k<es'.m-> ¬ K k) (C: ∀v w' μ',Out P N X ρ K S μ a w es es' sx μ' w' v->next (a.put o.dst v) w'):o.wp P a w next Q:=by
 have val: ∀ {s:Sem Value},(execOp a.eval o=do pure (.value (<-s)))->(∃v w' μ',s.run P w= .ok v w'/\Out P N X ρ K S μ a w es es' sx μ' w' v)->o.wp P a w next Q:=by
  intro s Y ⟨v,w',μ',j,A⟩
  refine Cv (w':=w') (v:=v) ?_ (C v w' μ' A)
  rw[Y,Sem.run_bind,j];rfl
 have val0: ∀ {s:Sem Value},(execOp a.eval o=do pure (.value (<-s)))->(∃v,s.run P w= .ok v w/\Out P N X ρ K S μ a w es es' sx μ w v)->o.wp P a w next Q:=by
  intro s Y ⟨v,j,A⟩
  exact val Y ⟨v,w,μ,j,A⟩
 unfold xOp at h
 split at h
 ·rename_i x d
  obtain⟨rfl,rfl,M,T⟩:=Awf G h g
  exact Cv (w':=w) (v:=a.eval x) (by simp[execOp,d]) (C _ _ μ (cT (.refl G) M T))
 ·rename_i x d
  obtain⟨rfl,rfl,M,T⟩:=Awf G h g
  exact Cv (w':=w) (v:=a.eval x) (by simp[execOp,d]) (C _ _ μ (cT (.refl G) M T))
 ·rename_i c x y d
  obtain⟨v,j,A⟩:=Ay1 G h z g
  refine Cv (w':=w) (v:=v) ?_ (C _ _ μ A)
  simp only[execOp,d]
  simp only[Sem.run_bind,Sem.run_pure]at j ⊢
  cases hc:(asBool (a.eval c)).run P w with
  | halt=>simp[hc]at j
  | ok b w2=>simp[hc]at j ⊢;exact j
 ·rename_i t x d
  exact val (by simp[execOp,d]) (A7y G h g B)
 ·rename_i t d
  split at h
  ·exact val (by simp[execOp,d]) (Aos G h B)
  ·exact val (by simp[execOp,d]) (Asj G h B)
 ·rename_i t x d
  exact val0 (by simp[execOp,d]) (Axw G h z g)
 ·rename_i t x y d
  rw[Ab]at h
  obtain⟨vv,e1,l1,_,j,h,rfl⟩:=h
  rw[Ab]at h
  obtain⟨p,F,l2,_,A,h,rfl⟩:=h
  obtain⟨rfl,rfl,rfl,hp,Z⟩:=Qk G j A g
  rw[Ab]at h
  obtain⟨v,e3,l3,_,h3,h,rfl⟩:=h
  obtain⟨rfl,rfl,hv,aa⟩:=E1 G h3 g
  rw[Ab]at h
  obtain⟨_,e4,l4,_,h4,h,rfl⟩:=h
  rw[Ad]at h
  obtain⟨rfl,rfl,rfl⟩:=h
  obtain⟨w',μ',r1,r2⟩:=Arw G h4 (by simpa using z) g hp Z hv aa
  unfold Oper.wp
  have:(execOp a.eval o).run P w= .ok .skip w':=by simp[execOp,d,r1]
  rw[this,Oper.upon_skip]
  exact C undef w' μ' r2
 ·rename_i s x f d
  exact val0 (by simp[execOp,d]) (Abu G h g)
 ·rename_i s x f d
  exact val0 (by simp[execOp,d]) (Arj G h z g)
 ·rename_i t x i d
  exact val0 (by simp[execOp,d]) (Aaw G h z g)
 ·rename_i t x i d
  exact val0 (by simp[execOp,d]) (Aod G h z g)
 ·rename_i t x lo hi mx d
  exact val0 (by simp[execOp,d]) (Ada G h z g)
 ·rename_i op xt x y yt d
  exact val0 (by simp[execOp,d]) (Ann G h z g)
 ·rename_i op xt x d
  exact val0 (by simp[execOp,d]) (Bap G h z g)
 ·rename_i src dst x d
  exact val0 (by simp[execOp,d]) (Az4 G h z g)
 ·rename_i x d
  obtain⟨v,j,A⟩:=Ade d G h g
  exact Cv j (C _ _ μ A)
 ·rename_i x i d
  exact val0 (by simp[execOp,d]) (Afr G h z g)
 ·rename_i t x d
  exact val (by simp[execOp,d]) (Aug G h z g B)
 ·rename_i it isS d
  exact val (by simp[execOp,d]) (A04 (ty:=o.type) G h z g)
 ·rename_i t r d
  obtain⟨rfl,j⟩:=Agb G h B
  exact val (by simp[execOp,d]) j
 ·rename_i t x i ok d
  exact val0 (by simp[execOp,d]) (Ao5 G h z g)
 ·rename_i t m i x d
  obtain⟨w',μ',r1,r2⟩:=Aau G h z g
  unfold Oper.wp
  have:(execOp a.eval o).run P w= .ok .skip w':=by simp[execOp,d,r1]
  rw[this,Oper.upon_skip]
  exact C undef w' μ' r2
 ·rename_i t parts d
  exact val0 (by simp[execOp,d]) (Ati G h z g)
 ·rename_i t len parts d
  simp only[Ab,Ii]at h
  obtain⟨gs,_,_,_,⟨rfl,rfl,rfl⟩,h,rfl⟩:=h
  rw[Hr]at h
  rcases h with⟨_,h⟩ | ⟨_,h⟩
  ·exact val (by simp[execOp,d]) (W9 G h (by simpa using z) g B)
  ·exact val (by simp[execOp,d]) (Wp G h (by simpa using z) g)
 ·rename_i t x y d
  exact val (by simp[execOp,d]) (Aa2 G h z g B)
 ·rename_i f first caps d
  exact val0 (by simp[execOp,d]) (Adv G h g)
 ·rename_i c d
  unfold A9v at h
  split at h
  ·rename_i b H
   split at h
   ·rename_i x t E L
    have e1:c.args= #[x]:=by rw[<-aP (xs:=c.args),E]
    have F:c.argTypes= #[t]:=by rw[<-aP (xs:=c.argTypes),L]
    obtain⟨v,j,A⟩:=A6i F G h z g
    refine Cv (w':=w) (v:=v) ?_ (C _ _ μ A)
    simp[execOp,d,resolve,H,e1,invoke,builtin,j]
   ·rename_i s x st xt E L
    have e1:c.args= #[s,x]:=by rw[<-aP (xs:=c.args),E]
    have F:c.argTypes= #[st,xt]:=by rw[<-aP (xs:=c.argTypes),L]
    rw[Hr]at h
    rcases h with⟨_,h⟩ | ⟨_,h⟩
    ·obtain⟨v,w',μ',j,A⟩:=Age G h z g B
     refine Cv (w':=w') (v:=v) ?_ (C _ _ μ' A)
     simp[execOp,d,resolve,H,e1,F,invoke,builtin,j]
    ·obtain⟨v,w',μ',j,A⟩:=Z0 G h z g B
     refine Cv (w':=w') (v:=v) ?_ (C _ _ μ' A)
     simp[execOp,d,resolve,H,e1,F,invoke,builtin,j]
   ·rename_i x t E L
    have e1:c.args= #[x]:=by rw[<-aP (xs:=c.args),E]
    have F:c.argTypes= #[t]:=by rw[<-aP (xs:=c.argTypes),L]
    obtain⟨v,w',μ',j,A⟩:=Avi (rt:=o.type) G h z g
    refine Cv (w':=w') (v:=v) ?_ (C _ _ μ' A)
    simp[execOp,d,resolve,H,e1,F,invoke,builtin,j]
   ·rename_i x y t u E L
    have e1:c.args= #[x,y]:=by rw[<-aP (xs:=c.args),E]
    rw[Ab]at h
    obtain⟨_,_,_,_,I,h,rfl⟩:=h
    rw[Af]at I
    obtain⟨g0,rfl,rfl⟩:=I
    obtain⟨v,j,A⟩:=Yv (ats:=c.argTypes) G h (by simpa using z) g
    refine Cv (w':=w) (v:=v) ?_ (C _ _ μ A)
    simp only[Zt]at j
    simp[execOp,d,resolve,H,e1,invoke,builtin,j]
   ·rename_i x y t u E L
    have e1:c.args= #[x,y]:=by rw[<-aP (xs:=c.args),E]
    rw[Ab]at h
    obtain⟨_,_,_,_,I,h,rfl⟩:=h
    rw[Af]at I
    obtain⟨g0,rfl,rfl⟩:=I
    obtain⟨v,j,A⟩:=Yv (ats:=c.argTypes) G h (by simpa using z) g
    refine Cv (w':=w) (v:=v) ?_ (C _ _ μ A)
    simp only[aL,Zf]at j
    simp[execOp,d,resolve,H,e1,invoke,builtin,j]
   ·simp[Ac]at h
  ·rename_i fo H
   rw[Ab]at h
   obtain⟨fv,e1,l1,_,j,h,rfl⟩:=h
   obtain⟨rfl,rfl,p1,p2⟩:=E1 G j g
   split at h
   ·rename_i f caps
    obtain⟨vs,p1,p3⟩:=p1
    rw[Ab]at h
    obtain⟨vvs,F,l2,_,A,h,rfl⟩:=h
    obtain⟨rfl,rfl,M,T⟩:=Ai5 G A g
    simp only[Ab]at h
    obtain⟨q,e3,l3,_,h3,⟨fl,_,_,_,I,h,rfl⟩,rfl⟩:=h
    obtain⟨rfl,rfl,r1,r2⟩:=Lx h3
    rw[Ao]at I
    obtain⟨ab,rfl,rfl⟩:=I
    obtain⟨fs,f1,f2,f3⟩:=Zu ab (M.append p3.Qq)
    have U:=Aep f1 hS r1 G h (by simpa using z) g (λk J=>by
     have J:=f3 k J
     rw[cJ,Qz]at J
     rcases aG.1 J with J | J
     ·exact T k J
     ·exact p2 k J) f2 B
    rw[r2]at U
    refine Aoh U ?_ λv w' ⟨μ',hO⟩=>C v w' μ' hO
    have e:(c.args.toList.map a.eval++vs.toList).toArray =c.args.map a.eval++vs:=by
     apply dJ.1;simp
    rw[e]
    simp[execOp,d,resolve,H,p1,Deferred.ofValue,invoke]
   ·simp[Ac]at h
  ·simp[Ac]at h
 ·simp[Ac]at h
end
end Go.CT
namespace Go.CT
open EM
theorem RM.P4 {α:Type}{S S':View} : ∀ {f:RM α} {x:α} {ls:List PLt} {sl ks:List Nat},f.run S=some (x,ls,sl,ks)->(∀t∈sl,S'.tm t=S.tm t)->(∀k∈ks,S'.ob k=S.ob k)->f.run S'=some (x,ls,sl,ks)
 | .pure a,x,ls,sl,ks,h,_,_=>h
 | .tm s k,x,ls,sl,ks,h,b,c=>by
  simp only[dS,aQ,Prod.exists]at h
  obtain⟨a,e,l,r,h,h'⟩:=h
  simp only[bG]at h'
  obtain⟨rfl,rfl,rfl,rfl⟩:=h'
  have:=RM.P4 h (λt d=>b t (aF _ d)) c
  simp only[dS,b s aH,this,aJ]
 | .ob s k,x,ls,sl,ks,h,b,c=>by
  simp only[dS,aQ,Prod.exists]at h
  obtain⟨a,e,l,r,h,h'⟩:=h
  simp only[bG]at h'
  obtain⟨rfl,rfl,rfl,rfl⟩:=h'
  have:=RM.P4 h b (λt d=>c t (aF _ d))
  simp only[dS,c s aH,this,aJ]
 | .emit l k,x,ls,sl,ks,h,b,c=>by
  simp only[dS,aQ,Prod.exists]at h
  obtain⟨a,e,l,r,h,h'⟩:=h
  simp only[bG]at h'
  obtain⟨rfl,rfl,rfl,rfl⟩:=h'
  have:=RM.P4 h b c
  simp only[dS,this,aJ]
section
variable {P:Program}{N:Nat}{X:Nat->Prop}{R:Job->List IV->Option (List IV)}{ρ:List IV}{K:Nat->Prop}{S:View}{μ:Nat->Value}{a:Act}{w w':World}{es es' e1:ES}{ls:List PLt}{sx:SX}
 {tm:Nat->SV} {ob:Nat->Option Ob} {specs:List (Nat × Spec)} {ops:Array Oper}
structure FS (P:Program)(N:Nat)(X:Nat->Prop)(ρ:List IV)(K:Nat->Prop)(tm:Nat->SV)(ob:Nat->Option Ob)(μ:Nat->Value)(a:Act)(w:World)(W0:Nat->Prop)(w0:World)(H:Nat->Prop)(hd:Nat->Value):Prop where
 Cj:Good P N X ρ K tm ob μ a w
 step:Gr W0 w0 w
 own: ∀b,Wr ob μ b->W0 b\/w0.heap.size<=b
 hdr: ∀k,H k->K k/\μ k=hd k
theorem FS.out {W0:Nat->Prop}{w0:World}{H:Nat->Prop}{hd:Nat->Value}{μ':Nat->Value}{v:Value}(F:FS P N X ρ K S.tm (cur S es.obs) μ a w W0 w0 H hd)(o:Out P N X ρ K S μ a w es es' sx μ' w' v):
  Gr W0 w0 w'/\ ∀b,Wr (cur S es'.obs) μ' b->W0 b\/w0.heap.size<=b:=by
 refine⟨⟨o.step.os.trans F.step.os,o.step.tape.trans F.step.tape,o.step.output.trans F.step.output,aS F.step.size o.step.size,λb c d=>?_⟩,λb c=>?_⟩
 ·rw[o.step.stays b (bQ c F.step.size) λh=>?_,F.step.stays b c d]
  rcases F.own b h with h | h
  ·exact d h
  ·omega
 ·rcases o.own b c with h | h
  ·exact F.own b h
  ·exact .inr (aS F.step.size h)
theorem Good.Aqv (G:Good P N X ρ K tm ob μ a w){d:Option Nat}{sv:SV}{v:Value}(hd: ∀t,d=some t->t<N)(g:Ap2 (Bh P X ρ ob μ w) sv v)(h: ∀k∈Ca sv.x,K k):
  Good P N X ρ K (λt=>if d=some t then sv else tm t) ob μ (a.put d v) w:=by
 cases d with
 | none=>simpa [Act.put]using G
 | some t=>
  have i:=hd t rfl
  refine⟨by simpa [Act.put]using G.size,G.defers,λs=>?_,G.obj,G.sep,G.xsep,G.xlt,λs k b=>?_,G.ko⟩
  ·by_cases c:t=s
   ·subst c
    have:(a.put (some t) v).tmps.getD t undef=v:=by
     have e:t<a.tmps.size:=by rw[G.size];exact i
     simp[Act.put,e]
    rw[this];simpa using g
   ·have:(a.put (some t) v).tmps.getD s undef=a.tmps.getD s undef:=by
     simp[Act.put,Array.getElem?_setIfInBounds_ne c]
    rw[this];simpa [c]using G.slot s
  ·by_cases c:t=s
   ·subst c;simp at b;exact h k b
   ·simp[c]at b;exact G.kt s k b
theorem S5: ∀ {gs a:List (Arg × Bool)},holds ρ (gs++a)=match holds ρ gs with | some true=>holds ρ a | r=>r
 | [],a=>rfl
 | (x,want)::gs,a=>by
  simp only[cQ,holds]
  cases d:x.ev ρ with
  | none=>rfl
  | some y=>
   cases y<;>try rfl
   rename_i b
   by_cases c:b=want
   ·simp only[c,Zt];exact S5
   ·simp[c]
theorem An7 {o:Oper}{gs:List (Arg × Bool)}{gk:List Nat}(h:Abq P S ops o=some (gs,gk))(F: ∀t∈gk,tm t=S.tm t)(G:Good P N X ρ K tm ob μ a w):
  holds ρ gs=some (Region.wanted o (yielded ops a.tmps)):=by
 unfold Abq at h
 cases m:o.guard with
 | none=>
  simp only[m,aE,bG]at h
  obtain⟨rfl,rfl⟩:=h
  simp[holds,Region.wanted,m]
 | some jw=>
  obtain⟨j,want⟩:=jw
  simp only[m]at h
  cases hd:(ops[j]?).bind (·.dst) with
  | none=>simp[hd]at h
  | some d=>
   simp only[hd]at h
   split at h
   ·rename_i x t H
    split at h
    ·rename_i I
     simp only[aE,bG]at h
     obtain⟨rfl,rfl⟩:=h
     have u:=F d (by simp)
     obtain⟨b,q,C,y⟩:=G.slot d
     rw[u]at q C
     have q:holds ρ (S.tm d).gs =some b:=q
     rw[S5,q]
     have J:Region.wanted o (yielded ops a.tmps)=(yielded ops a.tmps j == some want):=by simp[Region.wanted,m]
     rw[J]
     have E:yielded ops a.tmps j=match a.tmps[d]? with | some (.bool b)=>some b | _=>none:=by
      unfold yielded;rw[hd];rfl
     cases b with
     | true=>
      have g:=C rfl
      rw[H]at g
      obtain⟨iv,A,L⟩:=g
      obtain⟨c,rfl,M⟩:=L.Md (Ce I)
      have A:x.ev ρ=some (.bool c):=A
      have:a.tmps[d]?=some (.bool c):=by
       have e:(a.tmps[d]?).getD undef= .bool c:=by simpa using M
       cases r:a.tmps[d]? with
       | none=>rw[r]at e;simp[undef]at e
       | some z=>rw[r]at e;simp at e;rw[e]
      rw[E,this]
      simp only[holds,A]
      by_cases i:c=want
      ·simp[i]
      ·simp only[i,Zf];cases c<;>cases want<;>simp_all
     | false=>
      have y:=y rfl
      have B:yielded ops a.tmps j=none:=by
       rw[E]
       have e:(a.tmps[d]?).getD undef=undef:=by simpa using y
       cases r:a.tmps[d]? with
       | none=>rfl
       | some z=>rw[r]at e;simp at e;rw[e];rfl
      rw[B];rfl
    ·cases h
   ·cases h
theorem M7 {m0:Nat}{x:SX}(h:Q3 m0 x=true): ∀k∈Ca x,k<m0:=by
 have hp: ∀p:PV,Lr m0 p=true-> ∀k∈Di p,k<m0:=by
  intro p h k a
  cases p<;>simp_all[Lr,Di]
 have d: ∀l:LV,Mc m0 l=true-> ∀k∈A5 l,k<m0:=by
  intro l h k a
  cases l<;>simp_all[Mc,A5]
  ·exact hp _ h k a
  ·obtain⟨p,b,c⟩:=a
   exact hp p (h p b) k c
 have e: ∀v:VV,Jr m0 v=true-> ∀k∈Ax v,k<m0:=by
  intro v h k a
  cases v with
  | leaf l=>exact d l h k a
  | agg t ls=>
   simp only[Jr,cI]at h
   simp only[Ax,bW]at a
   obtain⟨l,b,c⟩:=a
   exact d l (h l b) k c
 intro k a
 cases x with
 | one v=>exact e v h k a
 | nx=>cases a
 | tup vs=>
  simp only[Q3,cI]at h
  simp only[Ca,bW]at a
  obtain⟨v,b,c⟩:=a
  exact e v (h v b) k c
theorem Q1: ∀ {obs:List (Nat × Option Ob)} {S':View},Cg S obs=true->(∀k∈obs.map (·.1),S'.ob k=S.ob k)->Good P N X ρ K tm S'.ob μ a w->Good P N X ρ K tm (cur S' obs) μ a w/\Iy S'.ob (cur S' obs)
 | [],S',_,_,G=>⟨by rw[Ma];exact G,by rw[Ma];exact Iy.refl _⟩
 | (k,none)::r,S',h,_,_=>by simp[Cg]at h
 | (k,some (.box _ _))::r,S',h,_,_=>by simp[Cg]at h
 | (k,some (.arr _ _ _))::r,S',h,_,_=>by simp[Cg]at h
 | (k,some (.iter _ _))::r,S',h,_,_=>by simp[Cg]at h
 | (k,some (.mp _ _ _ _))::r,S',h,_,_=>by simp[Cg]at h
 | (k,some (.frz e t c))::r,S',h,B,G=>by
  simp only[Cg,aA]at h
  obtain⟨g,Q⟩:=h
  obtain⟨G1,F1⟩:=Q1 Q (λk C=>B k (by simp at C ⊢;exact .inr C)) G
  rw[Bm]
  have L:=B k (by simp)
  -- in the older obs k is frozen already, or still as it was
  have E: ∃c',(cur S' r k=some (.arr e t c')\/cur S' r k=some (.frz e t c'))/\c.ev ρ=c'.ev ρ:=by
   have u: ∃c',(S.ob k=some (.arr e t c')\/S.ob k=some (.frz e t c'))/\c.ev ρ=c'.ev ρ:=by
    split at g
    ·rename_i Y Z c' x
     simp only[aA,beq_iff_eq]at g
     obtain⟨⟨rfl,rfl⟩,g⟩:=g
     exact⟨c',.inl x,eA g⟩
    ·rename_i Y Z c' x
     simp only[aA,beq_iff_eq]at g
     obtain⟨⟨rfl,rfl⟩,g⟩:=g
     exact⟨c',.inr x,eA g⟩
    ·cases g
   obtain⟨c',H,j⟩:=u
   unfold cur
   cases M:Hc k r with
   | none=>simp only;rw[L];exact⟨c',H,j⟩
   | some o=>
    simp only
    -- what stands in r for k is frozen too, of the same row
    have: ∀ {r:List (Nat × Option Ob)} {o:Option Ob},Cg S r=true->Hc k r=some o-> ∃z,o=some (.frz e t z)/\c.ev ρ=z.ev ρ:=by
     intro r o d A
     induction r with
     | nil=>simp[Hc]at A
     | cons q r ih=>
      obtain⟨k2,R⟩:=q
      unfold Hc at A
      by_cases y:k2=k
      ·simp only[y,beq_self_eq_true,Zt,aE]at A
       subst A
       cases R with
       | none=>simp[Cg]at d
       | some ob2=>
        cases ob2 with
        | box=>simp[Cg]at d
        | arr=>simp[Cg]at d
        | iter=>simp[Cg]at d
        | mp=>simp[Cg]at d
        | frz e2 t2 z=>
         simp only[Cg,aA,y]at d
         obtain⟨d,_⟩:=d
         rcases H with H | H<;>simp only[H,aA,beq_iff_eq]at d<;>obtain⟨⟨rfl,rfl⟩,d⟩:=d<;>exact⟨z,rfl,j.trans (eA d).symm⟩
      ·have:(k2 == k)=false:=by simpa using y
       simp only[this,aL,Zf]at A
       refine ih ?_ A
       cases R with
       | none=>simp[Cg]at d
       | some ob2=>cases ob2<;>simp[Cg]at d ⊢<;>exact d.2
    obtain⟨z,rfl,I⟩:=this Q M
    exact⟨z,.inr rfl,I⟩
  obtain⟨c',J,j⟩:=E
  have swap: ∀ {ob:Nat->Option Ob},Good P N X ρ K tm ob μ a w->ob k=some (.frz e t c')->Good P N X ρ K tm (Bo ob k (some (.frz e t c))) μ a w/\Iy ob (Bo ob k (some (.frz e t c))):=by
   intro ob G T
   have F:Iy ob (Bo ob k (some (.frz e t c))):=by
    intro i o b U
    unfold Bo at b
    split at b
    ·injection b with b;subst b;simp[dM]at U
    ·exact b
   refine⟨G.Dv F (λi o b U=>?_),F⟩
   by_cases B:i=k
   ·subst B
    simp only[Bo,Zt,aE]at b
    subst b
    have hL:=F.later (K:=K) (P:=P) (X:=X) (ρ:=ρ) (μ:=μ) (w:=w)
    obtain⟨q1,iv,q2,q3⟩:=G.obj i _ T
    refine⟨⟨q1,iv,j.trans q2,hL.rel q3⟩,(G.ko i _ T).1,λ_ h=>by simp[E4]at h⟩
   ·have m:ob i=some o:=by simpa [Bo,B]using b
    exact⟨F.later.Af0 (K:=K) (G.ko i o m).1 (G.ko i o m).2 (λ_ _ _ _=>rfl) (G.obj i o m),G.ko i o m⟩
  rcases J with J | J
  ·obtain⟨G2,F2⟩:=G1.freeze J
   have:Bo (Bo (cur S' r) k (some (.frz e t c'))) k (some (.frz e t c))=Bo (cur S' r) k (some (.frz e t c)):=by
    funext i;unfold Bo;split<;>rfl
   obtain⟨G3,F3⟩:=swap G2 (by simp[Bo])
   rw[this]at G3 F3
   exact⟨G3,F1.trans (F2.trans F3)⟩
  ·obtain⟨G3,F3⟩:=swap G1 J
   exact⟨G3,F1.trans F3⟩
end
end Go.CT
namespace Go.CT
open EM
def E8.slot (d:E8)(tm:Nat->SV)(t:Nat):SV:=if d.dst=some t then d.v else tm t
section
variable {P:Program}{N:Nat}{X:Nat->Prop}{R:Job->List IV->Option (List IV)}{ρ:List IV}{K:Nat->Prop}{S:View}{μ:Nat->Value}{a:Act}{w w':World}{es es' e1:ES}{ls:List PLt}{sx:SX}
 {tm:Nat->SV} {ob:Nat->Option Ob} {specs:List (Nat × Spec)} {ops:Array Oper} {Q:Exit->Act->World->Prop}
theorem A7o {S':View}{n m m0 i:Nat}{o:Oper}{d:E8}{W0:Nat->Prop}{w0:World}{H:Nat->Prop}{hd:Nat->Value}{next:Act->World->Prop}(hS:Sound P specs R)(c:A2x P specs N ops m0 S n m o=some d)(F:FS P N X ρ K S'.tm S'.ob μ a w W0 w0 H hd)
  (u: ∀t∈d.slots,S'.tm t=S.tm t) (B: ∀k∈d.keys,S'.ob k=S.ob k) (C: ∀k∈d.obs.map (·.1),S'.ob k=S.ob k) (E: ∀k,m<=k->k<d.m-> ¬ K k) (G: ∀k,k<m0->K k) (hl:LH R ρ d.lets)
  (hi:ops[i]?=some o) (Y: ∀Z w' μ',FS P N X ρ (As K m d.m) (d.slot S'.tm) (cur S' d.obs) μ' Z w' W0 w0 H hd->next Z w'):wpOp P ops Q i next a w:=by
 unfold A2x at c
 cases I:Abq P S ops o with
 | none=>simp[I]at c
 | some gg=>
  obtain⟨gs,gk⟩:=gg
  simp only[I]at c
  cases J:(xOp P specs o {n,m,gs,obs:= []}).run S with
  | none=>simp[J]at c
  | some q=>
   obtain⟨⟨x,es⟩,lets,slots,keys⟩:=q
   simp only[J]at c
   ·rw[aU]at c
    obtain⟨hc,c⟩:=c
    injection c with c
    subst c
    rw[aA,aA,aZ,aA]at hc
    obtain⟨⟨e,y⟩,aa⟩:=hc
    have g: ∀t,o.dst=some t->t<N:=by
     intro t z;rw[z]at y;simpa using y
    have r:=An7 I (λt z=>u t (aD _ z)) F.Cj
    have L:=RM.P4 J (λt z=>u t (aB _ z)) B
    have M:Ev S' (xOp P specs o) {n,m,gs,obs:= []} x es lets:=⟨slots,keys,L⟩
    have G0:Good P N X ρ K S'.tm (cur S' ([]:List (Nat × Option Ob))) μ a w:=by rw[Ma];exact F.Cj
    unfold wpOp
    rw[hi]
    simp only
    by_cases A:Region.wanted o (yielded ops a.tmps)=true
    ·rw[if_pos A]
     rw[A]at r
     refine .inl (A9g hS G0 M hl r E λv w' μ' O=>?_)
     have F0:FS P N X ρ K S'.tm (cur S' ({n,m,gs,obs:= []} :ES).obs) μ a w W0 w0 H hd:=by
      show FS P N X ρ K S'.tm (cur S' []) μ a w W0 w0 H hd
      rw[Ma];exact F
     obtain⟨f1,f2⟩:=F0.out O
     exact Y _ _ μ' ⟨O.Cj.Aqv g ⟨true,r,λ_=>O.rel,λh=>by cases h⟩ O.keys,f1,f2,λk j=>⟨.inl (F.hdr k j).1,(O.keep k (F.hdr k j).1).trans (F.hdr k j).2⟩⟩
    ·rw[if_neg A]
     have T:Region.wanted o (yielded ops a.tmps)=false:=by simpa using A
     rw[T]at r
     have U:gs.isEmpty=false:=by
      cases gs with
      | nil=>simp[holds]at r
      | cons=>rfl
     rw[U]at e
     have e:=e.resolve_left (by simp)
     obtain⟨G1,F1⟩:=Q1 e.1 C F.Cj
     refine Y _ _ μ ⟨(G1.Aqv (sv:=⟨gs,x⟩) g ⟨false,r,(λh=>by cases h),λ_=>rfl⟩ λk j=>G k (M7 e.2 k j)).M5 λ_ h=> .inl h,F.step,λb hb=>F.own b (F1.wr hb),λk j=>⟨.inl (F.hdr k j).1,(F.hdr k j).2⟩⟩
theorem Ba8 {n m m0:Nat}{o:Oper}{d:E8}(hd:A2x P specs N ops m0 S n m o=some d):m<=d.m:=by
 unfold A2x at hd
 split at hd
 ·cases hd
 ·split at hd
  ·cases hd
  ·rw[aU]at hd
   obtain⟨a,hd⟩:=hd
   injection hd with hd
   subst hd
   rw[aA]at a
   simpa using a.2
end
section
variable {β:Type}
def over (D:Nat->Bool):List (Nat->Option β)->Nat->(Nat->β)->Nat->β
 | [],_,f=>f
 | g::gs,j,f=>over D gs (j+1) (if D j then λt=>(g t).getD (f t) else f)
theorem H5 {D D':Nat->Bool}{t:Nat} : ∀ {gs:List (Nat->Option β)} {j:Nat} {f c:Nat->β},(∀i g,gs[i]?=some g->(g t).isSome ->D (j+i)=D' (j+i))->f t=c t->over D gs j f t=over D' gs j c t
 | [],_,_,_,_,h=>h
 | g::gs,j,f,c,h,d=>by
  unfold over
  refine H5 (λi e a m=>?_) ?_
  ·have:=h (i+1) e (by simpa using a) m
   rwa [<-bD,bR]at this
  ·have b:=h 0 g (by simp)
   rw[cK]at b
   cases a:g t with
   | none=>cases D j<;>cases D' j<;>simp[a,d]
   | some y=>
    have b:=b (by simp[a])
    rw[b]
    cases D' j<;>simp[a,d]
theorem Uh {D:Nat->Bool}{t:Nat} : ∀ {gs:List (Nat->Option β)} {j:Nat} {f:Nat->β},(∀i g,gs[i]?=some g->D (j+i)=true->g t=none)->over D gs j f t=f t
 | [],_,_,_=>rfl
 | g::gs,j,f,h=>by
  unfold over
  rw[Uh λi a b d=>h (i+1) a (by simpa using b) (by rwa [<-bD,bR])]
  cases c:D j with
  | false=>rfl
  | true=>
   have:=h 0 g (by simp) (by simpa using c)
   simp[this]
theorem Aa9 {D:Nat->Bool}{t:Nat} : ∀ {gs:List (Nat->Option β)} {i j:Nat} {f:Nat->β} {g:Nat->Option β},gs[i]?=some g->D (j+i)=false->(∀a b,i<a->gs[a]?=some b->D (j+a)=true->(g t).isSome ->b t=none)->
  over (λn=>n == j+i||D n) gs j f t=(g t).getD (over D gs j f t)
 | [],i,_,_,_,h,_,_=>by simp at h
 | d::gs,0,j,f,g,h,e,m=>by
  simp at h;subst h
  unfold over
  simp only[cK,beq_self_eq_true,Bool.true_or,Zt]at e ⊢
  rw[e]
  simp only[aL,Zf]
  have e1:over (λn=>n == j||D n) gs (j+1) (λt=>(d t).getD (f t)) t=over D gs (j+1) (λt=>(d t).getD (f t)) t:=
   H5 (λa b c r=>by
    have:(j+1+a == j)=false:=by simp;omega
    simp[this]) rfl
  rw[e1]
  cases c:d t with
  | none=>
   simp only[dI]
   exact H5 (λ_ _ _ _=>rfl) (by simp[c])
  | some y=>
   rw[Uh λa b o q=>m (a+1) b (by omega) (by simpa using o) (by rwa [<-bD,bR]) (by simp[c])]
   simp[c]
 | d::gs,i+1,j,f,g,h,e,m=>by
  unfold over
  have w:(j == j+(i+1))=false:=by simp
  simp only[w,dV]
  have u:=Aa9 (D:=D) (t:=t) (gs:=gs) (i:=i) (j:=j+1) (f:=if D j then λt=>(d t).getD (f t) else f) (by simpa using h) (by rwa [bR,bD])
   (λa b x c q r=>m (a+1) b (by omega) (by simpa using c) (by rwa [<-bD,bR]) r)
  rw[show j+1+i=j+(i+1) by omega]at u
  exact u
end
end Go.CT
namespace Go.CT
open EM
theorem Aei (t a:Nat)(v:SV)(l:List (Nat × SV)):Hz t (Ats a v l)=if a=t then v else Hz t l:=by
 induction l with
 | nil=>simp[Ats,Hz]
 | cons p l c=>
  obtain⟨t2,v2⟩:=p
  unfold Ats
  by_cases h:t2=a
  ·subst h
   simp only[beq_self_eq_true,Zt,Hz]
   by_cases b:t2=t<;>simp[b]
  ·have:(t2 == a)=false:=by simpa using h
   simp only[this,aL,Zf,Hz,c]
   by_cases b:t2=t
   ·subst b
    have d: ¬ a=t2:=λe=>h e.symm
    simp[d]
   ·simp[b]
theorem Vh (k a:Nat)(l:List (Nat × Ob)):Oi k (Ag8 a l)=if a=k then none else Oi k l:=by
 induction l with
 | nil=>simp[Ag8,Oi]
 | cons p l c=>
  obtain⟨k2,v2⟩:=p
  unfold Ag8
  by_cases h:k2=a
  ·subst h
   simp only[beq_self_eq_true,Zt,c,Oi]
   by_cases b:k2=k<;>simp[b]
  ·have:(k2 == a)=false:=by simpa using h
   simp only[this,aL,Zf,Oi,c]
   by_cases b:k2=k
   ·subst b
    have d: ¬ a=k2:=λe=>h e.symm
    simp[d]
   ·simp[b]
theorem Ahz (k a:Nat)(o:Option Ob)(l:List (Nat × Ob)):Oi k (A0k a o l)=if a=k then o else Oi k l:=by
 cases o with
 | none=>simp[A0k,Vh]
 | some o=>
  simp only[A0k,Oi,Vh]
  by_cases h:a=k<;>simp[h]
theorem Mm (k:Nat): ∀ (r:List (Nat × Option Ob)) (l:List (Nat × Ob)),Oi k (We r l)=(Hc k r).getD (Oi k l)
 | [],l=>rfl
 | (a,o)::r,l=>by
  simp only[We,Ahz,Hc,Mm k r l]
  by_cases h:a=k<;>simp[h]
def E8.Aam (d:E8)(t:Nat):Option SV:=if d.dst=some t then some d.v else none
def E8.Adj (d:E8)(k:Nat):Option (Option Ob):=Hc k d.obs
theorem A0w (s:St)(d:E8)(t:Nat):(s.after d).view.tm t=(d.Aam t).getD (s.view.tm t):=by
 simp only[St.view,dZ,E8.Aam]
 cases h:d.dst with
 | none=>simp
 | some a=>
  simp only[Aei,aE]
  by_cases h:a=t<;>simp[h]
theorem A1f (s:St)(d:E8)(k:Nat):(s.after d).view.ob k=(d.Adj k).getD (s.view.ob k):=by
 simp only[St.view,dZ,E8.Adj,Mm]
def Re (s:St)(ds:List E8)(i:Nat):St:=(ds.take i).foldl dZ s
theorem Qm {s:St}{ds:List E8}{i:Nat}{d:E8}(h:ds[i]?=some d):Re s ds (i+1)=(Re s ds i).after d:=by
 unfold Re
 rw[dH,h]
 simp[List.foldl_append]
section
variable {P:Program}{N m0:Nat}{specs:List (Nat × Spec)}{ops:Array Oper}
theorem Ac4: ∀ {os:List Oper} {s s':St} {ds:List E8},Aeg P specs N ops m0 os s=some (ds,s')->
  ds.length=os.length/\s'=Re s ds os.length/\ ∀ (i:Nat) (o:Oper),os[i]?=some o-> ∃d,ds[i]?=some d/\A2x P specs N ops m0 (Re s ds i).view (Re s ds i).n (Re s ds i).m o=some d
 | [],s,s',ds,h=>by
  simp only[Aeg,aE,bG]at h
  obtain⟨rfl,rfl⟩:=h
  exact⟨rfl,rfl,by simp⟩
 | o::os,s,s',ds,h=>by
  unfold Aeg at h
  cases hd:A2x P specs N ops m0 s.view s.n s.m o with
  | none=>simp[hd]at h
  | some d=>
   simp only[hd]at h
   cases a:Aeg P specs N ops m0 os (s.after d) with
   | none=>simp[a]at h
   | some q=>
    obtain⟨ds2,j⟩:=q
    simp only[a,aE,bG]at h
    obtain⟨rfl,rfl⟩:=h
    obtain⟨c,e,g⟩:=Ac4 a
    refine⟨by simp[c],?_,λi o' b=>?_⟩
    ·rw[e];rfl
    ·cases i with
     | zero=>simp at b;subst b;exact⟨d,rfl,hd⟩
     | succ i=>exact g i o' (by simpa using b)
theorem Abw {β:Type}(pr:St->Nat->β)(wr:E8->Nat->Option β)(hp: ∀s d t,pr (s.after d) t=(wr d t).getD (pr s t))(t:Nat): ∀ (ds:List E8) (i j:Nat) (s:St) (f:Nat->β),(f t=pr s t)->
  over (λn=>decide (n<j+i)) (ds.map wr) j f t=pr (Re s ds i) t
 | [],i,j,s,f,h=>by simp[over,Re,h]
 | d::ds,0,j,s,f,h=>by
  have a:over (λn=>decide (n<j+0)) ((d::ds).map wr) j f t=f t:=Uh λi g c b=>by
   have:=of_decide_eq_true b
   omega
  rw[a,h];rfl
 | d::ds,i+1,j,s,f,h=>by
  simp only[dC,over]
  have e:decide (j<j+(i+1))=true:=by simp
  rw[e]
  have:=Abw pr wr hp t ds i (j+1) (s.after d) (λt=>(wr d t).getD (f t)) (by rw[hp];simp[h])
  rw[show j+1+i=j+(i+1) by omega]at this
  simpa [Re]using this
theorem A3p (s:St)(ds:List E8)(i t:Nat):over (λn=>decide (n<i)) (ds.map E8.Aam) 0 s.view.tm t=(Re s ds i).view.tm t:=by
 have:=Abw (λs t=>s.view.tm t) E8.Aam A0w t ds i 0 s s.view.tm rfl
 simpa using this
theorem A3y (s:St)(ds:List E8)(i k:Nat):over (λn=>decide (n<i)) (ds.map E8.Adj) 0 s.view.ob k=(Re s ds i).view.ob k:=by
 have:=Abw (λs t=>s.view.ob t) E8.Adj A1f k ds i 0 s s.view.ob rfl
 simpa using this
end
section
variable {P:Program}{N:Nat}{X:Nat->Prop}{R:Job->List IV->Option (List IV)}{ρ:List IV}{K:Nat->Prop}{S:View}{μ:Nat->Value}{a:Act}{w w':World}
 {specs:List (Nat × Spec)} {ops:Array Oper} {Q:Exit->Act->World->Prop} {W0:Nat->Prop} {w0:World} {H:Nat->Prop} {hd:Nat->Value}
def KD (s:St)(ds:List E8)(D:Nat->Bool)(k:Nat):Prop:=k<s.m\/ ∃i d,D i=true/\ds[i]?=some d/\(Re s ds i).m <=k/\k<d.m
def FSD (P:Program)(N:Nat)(X:Nat->Prop)(ρ:List IV)(s:St)(ds:List E8)(D:Nat->Bool)(μ:Nat->Value)(a:Act)(w:World)(W0:Nat->Prop)(w0:World)(H:Nat->Prop)(hd:Nat->Value):Prop:=
 FS P N X ρ (KD s ds D) (over D (ds.map E8.Aam) 0 s.view.tm) (over D (ds.map E8.Adj) 0 s.view.ob) μ a w W0 w0 H hd
structure S9 (P:Program)(specs:List (Nat × Spec))(N:Nat)(ops:Array Oper)(s s':St)(ds:List E8):Prop where
 len:ds.length=ops.size
 last:s'=Re s ds ops.size
 get: ∀ (i:Nat) (o:Oper),ops[i]?=some o-> ∃d,ds[i]?=some d/\A2x P specs N ops s.m (Re s ds i).view (Re s ds i).n (Re s ds i).m o=some d
theorem S9.of {s s':St}{ds:List E8}(h:Aeg P specs N ops s.m ops.toList s=some (ds,s')):S9 P specs N ops s s' ds:=by
 obtain⟨a,b,c⟩:=Ac4 h
 exact⟨by simpa using a,by simpa using b,λi o d=>c i o (by simpa using d)⟩
theorem S9.mono {s s':St}{ds:List E8}(p:S9 P specs N ops s s' ds): ∀ {i j:Nat},i<=j->(Re s ds i).m <=(Re s ds j).m :=by
 intro i j a
 induction a with
 | refl=>exact aK _
 | step a e=>
  rename_i j
  refine aS e ?_
  cases hd:ds[j]? with
  | none=>
   have:Re s ds (j+1)=Re s ds j:=by
    unfold Re;rw[dH,hd];simp
   rw[this];exact aK _
  | some d=>
   rw[Qm hd]
   have b:=(aM.1 hd).1
   rw[p.len]at b
   obtain⟨h,c,g⟩:=p.get j ops[j] (aO b)
   rw[hd]at c;injection c with c;subst c
   exact Ba8 g
theorem Atx {x y:E8}{t:Nat}(b:(y.Aam t).isSome =true)(a:t∈x.slots\/x.dst=some t):x.Ajb y=true:=by
 unfold E8.Aam at b
 split at b
 ·rename_i h
  simp only[E8.Ajb,h,aZ]
  left
  rcases a with a | a
  ·left;simpa using a
  ·right;simpa using a
 ·cases b
theorem Ru {k:Nat} : ∀ {r:List (Nat × Option Ob)},(Hc k r).isSome =true↔k∈r.map (·.1)
 | []=>by simp[Hc]
 | (a,o)::r=>by
  unfold Hc
  by_cases h:a=k
  ·subst h;simp
  ·have:(a == k)=false:=by simpa using h
   simp only[this,aL,Zf,dC,bH]
   rw[Ru]
   constructor
   ·exact .inr
   ·rintro (h' | h')
    ·exact absurd h'.symm h
    ·exact h'
theorem Au7 {x y:E8}{k:Nat}(b:(y.Adj k).isSome =true)(a:k∈x.keys\/k∈x.obs.map (·.1)):x.Ajb y=true:=by
 unfold E8.Adj at b
 rw[Ru,dX]at b
 obtain⟨p,hp,rfl⟩:=b
 simp only[E8.Ajb,aZ,List.any_eq_true]
 right
 refine⟨p,hp,?_⟩
 rcases a with a | a
 ·left;simpa using a
 ·right
  rw[dX]at a
  obtain⟨q,d,c⟩:=a
  exact⟨q,d,beq_iff_eq.2 c⟩
theorem Aja {s s':St}{ds:List E8}{D:Nat->Bool}{i:Nat}{o:Oper}{d:E8}{next:Act->World->Prop}(hS:Sound P specs R)(p:S9 P specs N ops s s' ds)(F:FSD P N X ρ s ds D μ a w W0 w0 H hd)(U:ops[i]?=some o)(h:ds[i]?=some d)
  (r:D i=false) (hA: ∀j e,ds[j]?=some e->j≠i->d.Ajb e=true->D j=decide (j<i)) (hl:LH R ρ d.lets)
  (hn: ∀I w' μ',FSD P N X ρ s ds (λn=>n == i||D n) μ' I w' W0 w0 H hd->next I w'):wpOp P ops Q i next a w:=by
 obtain⟨d',J,h2⟩:=p.get i o U
 rw[h]at J;injection J with J;subst J
 have b: ∀j e,ds[j]?=some e->d.Ajb e=true->D j=decide (j<i):=by
  intro j e hj hh
  by_cases x:j=i
  ·subst x;simp[r]
  ·exact hA j e hj x hh
 have B: ∀k,(k∈d.keys\/k∈d.obs.map (·.1))->over D (ds.map E8.Adj) 0 s.view.ob k=(Re s ds i).view.ob k:=by
  intro k c
  rw[<-A3y s ds i k]
  refine H5 (λj g q u=>?_) rfl
  rw[bE,aQ]at q
  obtain⟨e,z,rfl⟩:=q
  simp only[bF]
  exact b j e z (Au7 u c)
 refine A7o (S':=⟨over D (ds.map E8.Aam) 0 s.view.tm,over D (ds.map E8.Adj) 0 s.view.ob⟩) hS h2 F (λt ht=>?_) (λk c=>B k (.inl c)) (λk c=>B k (.inr c)) (λk aa ab Y=>?_) (λk c=> .inl c) hl U (λI w' μ' F'=>hn I w' μ' ?_)
 ·show over D (ds.map E8.Aam) 0 s.view.tm t=_
  rw[<-A3p s ds i t]
  refine H5 (λj g q u=>?_) rfl
  rw[bE,aQ]at q
  obtain⟨e,z,rfl⟩:=q
  simp only[bF]
  exact b j e z (Atx u (.inl ht))
 ·rcases Y with Y | ⟨j,e,K,L,Z,q4⟩
  ·have:s.m<=(Re s ds i).m :=p.mono (i:=0) (cB i)
   omega
  ·have x:j≠i:=λe=>by rw[e,r]at K;cases K
   rcases dY j i with A | ac
   ·have C:=p.mono (i:=j+1) (j:=i) A
    rw[Qm L]at C
    have:e.m<=(Re s ds i).m :=C
    omega
   ·have C:=p.mono (i:=i+1) (j:=j) (by omega)
    rw[Qm h]at C
    have:d.m<=(Re s ds j).m :=C
    omega
 ·have e1:d.slot (over D (ds.map E8.Aam) 0 s.view.tm)=over (λn=>n == i||D n) (ds.map E8.Aam) 0 s.view.tm:=by
   funext t
   have:=Aa9 (D:=D) (t:=t) (gs:=ds.map E8.Aam) (i:=i) (j:=0) (f:=s.view.tm) (g:=d.Aam) (by rw[bE,h];rfl) (by simpa using r) (λM g' A q E u=>by
    rw[bE,aQ]at q
    obtain⟨e,z,rfl⟩:=q
    rw[bF]at E
    cases S:e.Aam t with
    | none=>rfl
    | some y=>
     have T:d.dst=some t:=by
      unfold E8.Aam at u;split at u
      ·assumption
      ·cases u
     have:=b M e z (Atx (t:=t) (by simp[S]) (.inr T))
     rw[E]at this
     simp at this;omega)
   simp only[bF]at this
   rw[this]
   unfold E8.slot E8.Aam
   split<;>rfl
  have e2:cur ⟨over D (ds.map E8.Aam) 0 s.view.tm,over D (ds.map E8.Adj) 0 s.view.ob⟩ d.obs=over (λn=>n == i||D n) (ds.map E8.Adj) 0 s.view.ob:=by
   funext k
   have:=Aa9 (D:=D) (t:=k) (gs:=ds.map E8.Adj) (i:=i) (j:=0) (f:=s.view.ob) (g:=d.Adj) (by rw[bE,h];rfl) (by simpa using r) (λM g' A q E u=>by
    rw[bE,aQ]at q
    obtain⟨e,z,rfl⟩:=q
    rw[bF]at E
    cases S:e.Adj k with
    | none=>rfl
    | some y=>
     have:=b M e z (Au7 (k:=k) (by simp[S]) (.inr (Ru.1 u)))
     rw[E]at this
     simp at this;omega)
   simp only[bF]at this
   rw[this]
   unfold cur E8.Adj
   cases Hc k d.obs<;>rfl
  rw[e2]at F'
  simp only[]at F'
  rw[e1]at F'
  have G: ∀k,As (KD s ds D) (Re s ds i).m d.m k->KD s ds (λn=>n == i||D n) k:=?_
  ·exact⟨F'.Cj.M5 G,F'.step,F'.own,λk c=>⟨G k (F'.hdr k c).1,(F'.hdr k c).2⟩⟩
  intro k c
  rcases c with (c | ⟨j,e,K,L,Z⟩) | c
  ·exact .inl c
  ·exact .inr ⟨j,e,by simp[K],L,Z⟩
  ·exact .inr ⟨i,d,by simp,h,c⟩
end
end Go.CT
namespace Go.CT
open EM
def Aks (ops:Array Oper)(D:Nat->Bool):Prop:= ∀ (i:Nat) (o:Oper),ops[i]?=some o->D i=true-> ∀e∈o.after,Region.binds .any e=true->D e.on=true
theorem Aj6 {acc:List Nat}{D:Nat->Bool}(a: ∀ (i m:Nat),acc[i]?=some m->D i=true-> ∀j,m.testBit j=true->D j=true): ∀ {es:List Edge},(∀e∈es,Region.binds .any e=true->D e.on=true)-> ∀j,(At1 acc es).testBit j=true->D j=true
 | [],_,j,h=>by simp[At1]at h
 | e::es,g,j,h=>by
  unfold At1 at h
  rw[dT,aZ]at h
  rcases h with h | h
  ·by_cases c:Region.binds .any e=true
   ·rw[if_pos c,dT,aZ]at h
    have b:=g e aH c
    rcases h with h | h
    ·rw[Nat.one_shiftLeft,Nat.testBit_two_pow]at h
     have:e.on=j:=by simpa using h
     rw[<-this];exact b
    ·cases d:acc[e.on]? with
     | none=>rw[cM,d]at h;simp at h
     | some m=>
      rw[cM,d]at h
      exact a e.on m d b j h
   ·rw[if_neg c]at h;simp at h
  ·exact Aj6 a (λo h'=>g o (aF _ h')) j h
theorem Atw {ops:Array Oper} : ∀ {os:List Oper} {acc:List Nat},(∀i o,os[i]?=some o->ops[acc.length+i]?=some o)->
  (∀D,Aks ops D-> ∀ (i m:Nat),acc[i]?=some m-> ∀o,ops[i]?=some o->(∀e∈o.after,Region.binds .any e=true->D e.on=true)-> ∀j,m.testBit j=true->D j=true)->acc.length+os.length=ops.size->
  (A3o os acc).length =ops.size/\ ∀D,Aks ops D-> ∀ (i m:Nat),(A3o os acc)[i]?=some m-> ∀o,ops[i]?=some o->(∀e∈o.after,Region.binds .any e=true->D e.on=true)-> ∀j,m.testBit j=true->D j=true
 | [],acc,_,h,q=>by
  unfold A3o
  exact⟨by simpa using q,h⟩
 | o::os,acc,d,h,q=>by
  unfold A3o
  refine Atw (λi o' a=>?_) (λD u i m b o' a r j t=>?_) (by simp at q ⊢;omega)
  ·have:=d (i+1) o' (by simpa using a)
   rw[aV,List.length_singleton,bD,cU 1 i]
   exact this
  ·by_cases z:i<acc.length
   ·rw[bA z]at b
    exact h D u i m b o' a r j t
   ·rw[bU (by omega)]at b
    have w:i=acc.length:=by
     have:=(aM.1 b).1
     simp at this;omega
    subst w
    simp at b
    subst b
    have:o'=o:=by
     have:=d 0 o rfl
     rw[cK,a]at this
     injection this
    subst this
    refine Aj6 (D:=D) (λi m b x j t=>?_) (λe g y=>r e (by simpa using g) y) j t
    have A:=(aM.1 b).1
    have c:i<ops.size:=by simp at q;omega
    exact h D u i m b ops[i] (aO c) (λe r y=>u i ops[i] (aO c) x e r y) j t
theorem Wg {anc:Nat}{x:E8} : ∀ {ys:List E8} {j:Nat},Tn anc x ys j=true-> ∀i y,ys[i]?=some y->anc.testBit (j+i)=true\/(x.Ajb y=false/\y.Ajb x=false)
 | [],_,_,i,y,h=>by simp at h
 | y::ys,j,h,i,b,a=>by
  unfold Tn at h
  rw[aA]at h
  cases i with
  | zero=>
   simp at a;subst a
   have:=h.1
   simp only[aZ,dG,cY]at this
   exact this
  | succ i=>
   have:=Wg h.2 i b (by simpa using a)
   rwa [bD,cU 1 i]at this
theorem V6: ∀ {as:List Nat} {ds before:List E8},Nv before as ds=true-> ∀i d a,ds[i]?=some d->as[i]?=some a-> ∀j y,(before++ds)[j]?=some y->j<before.length+i->a.testBit j=true\/(d.Ajb y=false/\y.Ajb d=false)
 | a::as,d::ds,before,h,i,e,g,hd,b,j,y,c,m=>by
  unfold Nv at h
  rw[aA]at h
  cases i with
  | zero=>
   simp at hd b;subst hd;subst b
   rw[bA (by omega)]at c
   have:=Wg h.1 j y c
   rwa [bF]at this
  | succ i=>
   refine V6 h.2 i e g (by simpa using hd) (by simpa using b) j y (by simpa using c) (by simp;omega)
 | [],[],_,_,i,d,a,hd,_,_,_,_,_=>by simp at hd
 | [],_::_,_,h,_,_,_,_,_,_,_,_,_=>by simp[Nv]at h
 | _::_,[],_,h,_,_,_,_,_,_,_,_,_=>by simp[Nv]at h
theorem Ae2: ∀ {os:List Oper} {i:Nat},Akl os i=true-> ∀j o,os[j]?=some o-> ∀e∈o.after,Region.binds .any e=true->e.on<i+j
 | o::os,i,h,j,o',a,e,b,c=>by
  unfold Akl at h
  rw[aA]at h
  cases j with
  | zero=>
   simp at a;subst a
   have:=h.1
   rw[cI]at this
   have:=this e (by simpa using b)
   simpa [c]using this
  | succ j=>
   have:=Ae2 h.2 j o' (by simpa using a) e b c
   omega
 | [],_,_,j,o,a,_,_,_=>by simp at a
section
variable {P:Program}{N:Nat}{X:Nat->Prop}{R:Job->List IV->Option (List IV)}{ρ:List IV}{K:Nat->Prop}{S:View}{μ:Nat->Value}{a:Act}{w w':World}
 {specs:List (Nat × Spec)} {ops:Array Oper} {Q:Exit->Act->World->Prop} {W0:Nat->Prop} {w0:World} {H:Nat->Prop} {hd:Nat->Value} {s s':St} {ds:List E8}
theorem Arn (p:S9 P specs N ops s s' ds){D:Nat->Bool}{k:Nat}(h:KD s ds D k):k<s'.m:=by
 rw[p.last]
 rcases h with h | ⟨i,d,_,a,_,c⟩
 ·exact bQ h (p.mono (i:=0) (cB _))
 ·have b:=(aM.1 a).1
  rw[p.len]at b
  have:=p.mono (i:=i+1) (j:=ops.size) b
  rw[Qm a]at this
  exact bQ c this
theorem FSD.last (p:S9 P specs N ops s s' ds){D:Nat->Bool}(e: ∀i,i<ops.size->D i=true)(F:FSD P N X ρ s ds D μ a w W0 w0 H hd):FS P N X ρ (· <s'.m) s'.view.tm s'.view.ob μ a w W0 w0 H hd:=by
 have e1:over D (ds.map E8.Aam) 0 s.view.tm=s'.view.tm:=by
  funext t
  rw[p.last,<-A3p s ds ops.size t]
  refine H5 (λj g d h=>?_) rfl
  have b:=(aM.1 d).1
  rw[dO,p.len]at b
  simp[e j b,b]
 have o:over D (ds.map E8.Adj) 0 s.view.ob=s'.view.ob:=by
  funext t
  rw[p.last,<-A3y s ds ops.size t]
  refine H5 (λj g d h=>?_) rfl
  have b:=(aM.1 d).1
  rw[dO,p.len]at b
  simp[e j b,b]
 unfold FSD at F
 rw[e1,o]at F
 exact⟨F.Cj.M5 λk c=>Arn p c,F.step,F.own,λk c=>⟨Arn p (F.hdr k c).1,(F.hdr k c).2⟩⟩
theorem FSD.first (F:FS P N X ρ (· <s.m) s.view.tm s.view.ob μ a w W0 w0 H hd){D:Nat->Bool}(c: ∀i,D i=false):FSD P N X ρ s ds D μ a w W0 w0 H hd:=by
 have e1:over D (ds.map E8.Aam) 0 s.view.tm=s.view.tm:=by
  funext t;exact Uh λi g _ h=>by rw[c]at h;cases h
 have d:over D (ds.map E8.Adj) 0 s.view.ob=s.view.ob:=by
  funext t;exact Uh λi g _ h=>by rw[c]at h;cases h
 unfold FSD
 rw[e1,d]
 exact⟨F.Cj.M5 λk b=> .inl b,F.step,F.own,λk b=>⟨.inl (F.hdr k b).1,(F.hdr k b).2⟩⟩
theorem S9.done (p:S9 P specs N ops s s' ds){i:Nat}{o:Oper}(a:ops[i]?=some o): ∃d,ds[i]?=some d:=by
 obtain⟨d,h,_⟩:=p.get i o a
 exact⟨d,h⟩
theorem A2c (o:Sound P specs R)(p:S9 P specs N ops s s' ds)(q:LH R ρ (ds.flatMap (·.lets)))(r: ∀c w' μ',FS P N X ρ (· <s'.m) s'.view.tm s'.view.ob μ' c w' W0 w0 H hd->Q .normal c w'):
  ∀ (k i:Nat) (a:Act) (w:World) (μ:Nat->Value),i+k=ops.size->FSD P N X ρ s ds (λn=>decide (n<i)) μ a w W0 w0 H hd->wpOps P ops Q (List.range' i k) a w
 | 0,i,a,w,μ,x,F=>by
  simp only[List.range'_zero,wpOps]
  exact r a w μ (F.last p λj z=>by simp;omega)
 | k+1,i,a,w,μ,x,F=>by
  rw[List.range'_succ,wpOps_cons]
  have y:i<ops.size:=by omega
  have t:=aO y
  obtain⟨d,b⟩:=p.done t
  refine Aja o p F t b (by simp) (λj e _ _ _=>rfl) (λl g=>q l (bW.2 ⟨d,aT b,g⟩)) λc w' μ' F'=>?_
  refine A2c o p q r k (i+1) c w' μ' (by omega) ?_
  have:(λn=>decide (n<i+1))=λn=>n == i||decide (n<i):=by
   funext n
   by_cases h:n=i
   ·subst h;simp
   ·by_cases u:n<i
    ·simp[u];omega
    ·have:(n == i)=false:=by simpa using h
     simp[this,u];omega
  rw[this];exact F'
def un (listed:Array Bool):Nat:=listed.toList.countP (λb=> !b)
theorem Baj (hS:Sound P specs R)(p:S9 P specs N ops s s' ds)(K:Ali ops.toList ds=true)(hl:LH R ρ (ds.flatMap (·.lets)))(hn: ∀a' w' μ',FS P N X ρ (· <s'.m) s'.view.tm s'.view.ob μ' a' w' W0 w0 H hd->Q .normal a' w'):
  ∀ (fuel:Nat) (listed:Array Bool) (a:Act) (w:World) (μ:Nat->Value),listed.size=ops.size->un listed=fuel->Aks ops (λn=>listed.getD n false)->FSD P N X ρ s ds (λn=>listed.getD n false) μ a w W0 w0 H hd->wpAny P .any ops Q fuel listed a w:=by
 simp only[Ali,aA]at K
 obtain⟨hb,hg⟩:=K
 have G: ∀ (i:Nat) (o:Oper),ops[i]?=some o-> ∀e∈o.after,Region.binds .any e=true->e.on<i:=by
  intro i o x e r g
  have:=Ae2 hb i o (by simpa using x) e r g
  omega
 obtain⟨L,aa⟩:=Atw (ops:=ops) (os:=ops.toList) (acc:= []) (λi o h=>by simpa using h) (λD M i m hm=>by simp at hm) (by simp)
 -- a touch tells the order
 have pair: ∀ (i j:Nat) (d e:E8),ds[i]?=some d->ds[j]?=some e->j<i->(d.Ajb e=true\/e.Ajb d=true)-> ∀D,Aks ops D->(∀o,ops[i]?=some o-> ∀e∈o.after,Region.binds .any e=true->D e.on=true)->D j=true:=by
  intro i j d e hd r S T D M t
  have y:=(aM.1 hd).1
  rw[p.len]at y
  have hm:(A3o ops.toList [])[i]?=some (A3o ops.toList [])[i]:=bY (by rw[L];exact y)
  have:=V6 hg i d _ hd hm j e (by simpa using r) (by simpa using S)
  rcases this with h | h
  ·exact aa D M i _ hm ops[i] (aO y) (t _ (aO y)) j h
  ·rw[h.1,h.2]at T;simp at T
 have U: ∀ (listed:Array Bool),Region.ready .any ops listed= []->listed.size=ops.size-> ∀i,i<ops.size->listed.getD i false=true:=by
  intro listed hr z i
  induction i using Nat.strongRecOn with
  | _ i ih=>
   intro t
   cases hv:listed.getD i false with
   | true=>rfl
   | false=>
    have:i∈Region.ready .any ops listed:=by
     rw[mem_ready]
     refine⟨?_,ops[i],aO t,λe r g=>?_⟩
     ·have c:i<listed.size:=by omega
      simp[c]at hv ⊢;exact hv
     ·have:=G i ops[i] (aO t) e r g
      exact ih e.on this (by omega)
    rw[hr]at this;cases this
 intro fuel
 induction fuel with
 | zero=>
  intro listed a w μ z q u F
  have M: ∀i,i<ops.size->listed.getD i false=true:=by
   intro i t
   unfold un at q
   rw[List.countP_eq_zero]at q
   have c:i<listed.size:=by omega
   have:=q listed[i] (by simp)
   simp[c];simpa using this
  refine⟨?_,hn a w μ (F.last p M)⟩
  rw[cH]
  intro i t
  rw[mem_ready]at t
  obtain⟨Y,o,x,_⟩:=t
  have Z:=(bI.1 x).1
  have:=M i Z
  have c:i<listed.size:=by omega
  simp[c]at Y this
  rw[Y]at this;cases this
 | succ fuel ih=>
  intro listed a w μ z q u F
  refine⟨λhr=>hn a w μ (F.last p (U listed hr z)),λi t=>?_⟩
  rw[mem_ready]at t
  obtain⟨Y,o,x,h2⟩:=t
  have Z:=(bI.1 x).1
  have c:i<listed.size:=by omega
  have A:listed.getD i false=false:=by simp[c]at Y ⊢;exact Y
  obtain⟨d,B⟩:=p.done x
  have C:(λn=>(listed.setIfInBounds i true).getD n false)=λn=>n == i||listed.getD n false:=by
   funext n
   by_cases I:i=n
   ·subst I;simp[c]
   ·have:(n == i)=false:=by simp;exact λe=>I e.symm
    rw[getD_set_ne false I,this,dV]
  refine Aja hS p F x B A (λj e J S T=>?_) (λl ab=>hl l (bW.2 ⟨d,aT B,ab⟩)) λa' w' μ' F'=>?_
  ·rcases dY j i with E | ae
   ·have:=pair i j d e B J E (.inl T) _ u (λo' b e r g=>by rw[x]at b;injection b with b;subst b;exact h2 e r g)
    simp[E]at this ⊢;exact this
   ·have ac:i<j:=by omega
    have ad:listed.getD j false=false:=by
     cases hv:listed.getD j false with
     | false=>rfl
     | true=>
      have:=pair j i e d J B ac (.inr T) _ u (λo' b e r g=>u j o' b hv e r g)
      simp only[A]at this
      cases this
    rw[ad];simp;omega
  ·refine ih (listed.setIfInBounds i true) a' w' μ' (by simpa using z) ?_ ?_ (by rw[C];exact F')
   ·unfold un at q ⊢
    rw[Array.toList_setIfInBounds,List.countP_set (by simpa using c),q]
    have:listed.toList[i]'(by simpa using c)=false:=by simp[c]at A;simpa using A
    simp[this]
   ·rw[C]
    intro j o' b J e r g
    simp only[aZ,beq_iff_eq]at J ⊢
    right
    rcases J with rfl | J
    ·rw[x]at b;injection b with b;subst b
     exact h2 e r g
    ·exact u j o' b J e r g
theorem Good.drawn {tm:Nat->SV}{ob:Nat->Option Ob}(G:Good P N X ρ K tm ob μ a w)(c:w'.heap=w.heap):Good P N X ρ K tm ob μ a w':=by
 have L:Dp K (Bh P X ρ ob μ w) (Bh P X ρ ob μ w'):=
  {P:=rfl,ρ:=λ_ _ h=>h,μ:=λ_ _=>rfl,stays:=λb _ _=>by show w'.heap[b]?=w.heap[b]?;rw[c],O:=λ_ _ h=>h,W:=λ_ _ h=>h,WO:=λb d=> .inr d}
 exact⟨G.size,G.defers,λs=>L.Arc (G.kt s) (G.slot s),λk o e=>L.Af0 (G.ko k o e).1 (G.ko k o e).2 (λ_ b _ _=>by show w'.heap[b]?=w.heap[b]?;rw[c]) (G.obj k o e),G.sep,G.xsep,λb d=>by rw[c];exact G.xlt b d,G.kt,G.ko⟩
theorem Aqp {draw:Bool}{ls:List PLt}{id:Nat}(u:P.follows .mixedOrders =true)(g:Sound P specs R)(b:Ts P specs N ops draw s=some (ls,s'))(j:LH R ρ ls)(F:FS P N X ρ (· <s.m) s.view.tm s.view.ob μ a w W0 w0 H hd)
  (r: ∀t w' μ',FS P N X ρ (· <s'.m) s'.view.tm s'.view.ob μ' t w' W0 w0 H hd->Q .normal t w'):(Code.region id ops draw).wp P Q a w:=by
 unfold Ts at b
 cases d:Aeg P specs N ops s.m ops.toList s with
 | none=>simp[d]at b
 | some q=>
  obtain⟨ds,y⟩:=q
  simp only[d]at b
  rw[aU]at b
  obtain⟨x,b⟩:=b
  injection b with b
  simp only[bG]at b
  obtain⟨rfl,rfl⟩:=b
  have p:=S9.of d
  cases draw with
  | false=>
   refine wp_region ?_
   rw[List.range_eq_range']
   exact A2c g p j r ops.size 0 a w μ (by omega) (FSD.first F λi=>by simp)
  | true=>
   have e:Ali ops.toList ds=true:=by simpa using x
   refine wp_region_any u ?_
   have c: ∀i,(dP ops.size false).getD i false=false:=λi=>by
    by_cases h:i<ops.size
    ·simp[h]
    ·simp[h]
   have F1:FS P N X ρ (· <s.m) s.view.tm s.view.ob μ a {w with drawn:=w.drawn+1} W0 w0 H hd:=⟨F.Cj.drawn rfl,⟨F.step.os,F.step.tape,F.step.output,F.step.size,F.step.stays⟩,F.own,F.hdr⟩
   exact Baj g p e j r ops.size _ a _ μ (by simp) (by unfold un;rw[Array.toList_replicate,List.countP_replicate];simp) (λi o _ h=>by have h:(dP ops.size false).getD i false=true:=h;rw[c]at h;cases h) (FSD.first F1 c)
end
end Go.CT
namespace Go.CT
open EM
structure Bind where
 args:List (Nat × Arg)
 keys:List (Nat × Nat) -- the block's key, ours
def findKey (a:Nat):List (Nat × Nat)->Option Nat
 | []=>none
 | (j,k)::r=>if j == a then some k else findKey a r
def G7 (i:Nat):List (Nat × Arg)->Option Arg
 | []=>none
 | (j,y)::r=>if j == i then some y else G7 i r
def Ex (b:Bind)(x y:Arg):EM Bind:=
 match x with
 | .v i=>do
  aY (G7 i b.args).isNone
  pure {b with args:=(i,y)::b.args}
 | .k c=>do
  aY ((Arg.k c).same y)
  pure b
def Ki (b:Bind)(a k:Nat):EM Bind:=
 match findKey a b.keys with
 | some c=>do
  aY (c == k)
  pure b
 | none=>do
  aY (b.keys.all λp=>p.2 !=k)
  pure {b with keys:=(a,k)::b.keys}
def uPV (b:Bind)(c p:PV):EM Bind:=
 match c with
 | .p a o'=>
  match p with
  | .p k o=>do
   aY (o' == o)
   Ki b a k
  | _=>fail
 | .el a d g o'=>
  match p with
  | .el k e i o=>do
   aY (o' == o&&d == e)
   let b1 <-Ki b a k
   Ex b1 g i
  | _=>fail
 | .im h j o'=>
  match p with
  | .im x t o=>do
   aY (o' == o&&j == t)
   Ex b h x
  | _=>fail
def A5l (b:Bind):List PV->List PV->EM Bind
 | [],[]=>pure b
 | a::ps',p::c=>do
  let b1 <-uPV b a p
  A5l b1 ps' c
 | _,_=>fail
section
variable (P:Program)
def A08 (t:TypeId)(l:LV):EM Nat:=do
 let e <-ofOption (Cr P t)
 let c <-Rp P e l
 let k <-Ga
 Em k (some (.arr e t c))
 pure k
def uLV (b:Bind)(g l:LV):EM Bind:=
 match g with
 | .junk =>pure b
 | .at d a=>do
  let y <-Da P true a l
  Ex b d y
 | .nil _=>
  match l with
  | .nil _=>pure b
  | _=>fail
 | .ref c a=>
  match l with
  | .ref k _=>Ki b c k
  | .at .. =>fail
  | l=>do
   let k <-A08 P a l
   Ki b c k
 | .sub c lo' e a=>
  match l with
  | .sub k lo h t=>do
   aY (t == a)
   let b1 <-Ki b c k
   let b2 <-Ex b1 lo' lo
   Ex b2 e h
  | _=>fail
 | .ptr i=>
  match l with
  | .ptr p=>uPV b i p
  | _=>fail
 | .fn j ps'=>
  match l with
  | .fn f m=>do
   aY (j == f)
   A5l b ps' m
  | _=>fail
 | .mref c _=>
  match l with
  | .mref k _=>Ki b c k
  | _=>fail
 | .st d a=>
  match l with
  | .st x t=>do
   aY (t == a)
   Ex b d x
  | _=>fail
 | .cl d a=>
  match l with
  | .cl x t=>do
   aY (t == a)
   Ex b d x
  | _=>fail
 | .hid c=>
  match l with
  | .hid k=>Ki b c k
  | _=>fail
def A7u (b:Bind):List LV->List LV->EM Bind
 | [],[]=>pure b
 | a::ls',l::ls=>do
  let b1 <-uLV P b a l
  A7u b1 ls' ls
 | _,_=>fail
def Avl (a:TypeId):VV->Bool
 | .agg t _=>t == a
 | .leaf (.at _ t)=>t == a
 | _=>false
def uVV (b:Bind)(e v:VV):EM Bind:=
 match e with
 | .agg a c=>do
  aY (Ai P a&&Avl a v)
  let cs <-Mu P v
  A7u P b c cs
 | .leaf d=>
  match d with
  | .junk =>pure b
  | .at g a=>do
   let y <-Im P true a v
   Ex b g y
  | d=>
   match v with
   | .leaf l=>uLV P b d l
   | _=>fail
def A8k (b:Bind):List VV->List VV->EM Bind
 | [],[]=>pure b
 | a::ls',l::ls=>do
  let b1 <-uVV P b a l
  A8k b1 ls' ls
 | _,_=>fail
def A11:SX->Bool
 | .one (.leaf .junk)=>true
 | _=>false
def uSX (b:Bind)(c x:SX):EM Bind:=
 match c with
 | .one d=>
  match x with
  | .one v=>uVV P b d v
  | _=>fail
 | .tup a=>
  match x with
  | .tup vs=>A8k P b a vs
  | _=>fail
 | .nx ok' e g=>
  match x with
  | .nx ok p r=>do
   let b1 <-Ex b ok' ok
   let b2 <-Ex b1 e p
   Ex b2 g r
  | _=>fail
def uSV (b:Bind)(s':SV)(t:Nat):EM Bind:=
 if s'.gs.isEmpty&&A11 s'.x then pure b
 else do
  let s <-Ac8 t
  aY (s.gs.isEmpty&&s'.gs.isEmpty)
  uSX P b s'.x s.x
def Acj (b:Bind):List (Nat × SV)->EM Bind
 | []=>pure b
 | (t,a)::r=>do
  let b1 <-uSV P b a t
  Acj b1 r
def Z4 (b:Bind)(o':Ob)(k:Nat):EM Bind:=
 match o' with
 | .box a c=>do
  match <-Gj k with
  | .box t v=>do
   aY (a == t)
   uVV P b c v
  | _=>fail
 | .frz d a c'=>do
  aY (Cr P a == some d)
  let y <-Da P true a (.ref k a)
  Ex b c' y
 | .arr .. =>pure b
 | .iter .. =>pure b
 | .mp .. =>pure b
def Uc (b:Bind):List (Nat × Ob)->EM Bind
 | []=>pure b
 | (a,o')::r=>do
  let k <-ofOption (findKey a b.keys)
  let b1 <-Z4 P b o' k
  Uc b1 r
def Abz (b:Bind)(o':Ob)(k:Nat):EM Bind:=
 match o' with
 | .box _ _=>do
  match <-Gj k with
  | .box .. =>pure b
  | _=>fail
 | .arr d a c'=>do
  match <-Gj k with
  | .arr e _ c=>do
   aY (d == e&&Cr P a == some e)
   Ex b c' c
  | _=>fail
 | .frz .. =>pure b
 | .iter s' g=>do
  match <-Gj k with
  | .iter s p=>do
   let b1 <-Ex b s' s
   Ex b1 g p
  | _=>fail
 | .mp a kt' vt' c'=>do
  match <-Gj k with
  | .mp t kt vt c=>do
   aY (a == t&&kt' == kt&&vt' == vt)
   Ex b c' c
  | _=>fail
def Vp (b:Bind):List (Nat × Ob)->EM Bind
 | []=>pure b
 | (a,o')::r=>do
  let k <-ofOption (findKey a b.keys)
  let b1 <-Abz P b o' k
  Vp b1 r
def A7q (m:Nat):Ob->Bool
 | .box _ v=>Jr m v
 | _=>true
def stOk (t:St):Bool:=
 (t.tm.all λp=>Q3 t.m p.2.x&&p.2.gs.isEmpty)&&(t.ob.all λp=>decide (p.1<t.m)&&A7q t.m p.2)
def Y4 (b:Bind):Nat->Option (List Arg)
 | 0=>some []
 | n+1=>
  match Y4 b n with
  | none=>none
  | some as=>
   match G7 n b.args with
   | none=>none
   | some y=>some (as++ [y])
def uSt (backs:List Nat)(t:St):EM (List Arg):=do
 aY (stOk t)
 let b1 <-Acj P ⟨[],[]⟩ t.tm
 let b2 <-Uc P b1 t.ob
 let b3 <-Vp P b2 t.ob
 aY (b3.args.all λp=>decide (p.1<t.n))
 aY (backs.all λk=>findKey k b3.keys == some k&&decide (k<t.m))
 ofOption (Y4 b3 t.n)
end
end Go.CT
namespace Go.CT
open EM
structure Compat (B:Bind)(c cb:Cx):Prop where
 P:cb.P=c.P
 w:cb.w=c.w
 args: ∀ (i:Nat) (y:Arg) (iv:IV),G7 i B.args=some y->y.ev c.ρ=some iv->cb.ρ[i]?=some iv
 keys: ∀k' k,findKey k' B.keys=some k->cb.μ k'=c.μ k
 O: ∀b,b<c.w.heap.size->cb.O b->c.O b
 W: ∀b,b<c.w.heap.size->cb.W b->c.W b
structure BOk (B:Bind)(K:Nat->Prop):Prop where
 keys: ∀k' k,findKey k' B.keys=some k->K k
 inj: ∀k1 k2 k,findKey k1 B.keys=some k->findKey k2 B.keys=some k->k1=k2
structure Ext (B B':Bind):Prop where
 args: ∀i y,G7 i B.args=some y->G7 i B'.args=some y
 keys: ∀k' k,findKey k' B.keys=some k->findKey k' B'.keys=some k
theorem Ext.refl (B:Bind):Ext B B:=⟨λ_ _ h=>h,λ_ _ h=>h⟩
theorem Ext.trans {A B C:Bind}(h:Ext A B)(h':Ext B C):Ext A C:=⟨λi y q=>h'.args i y (h.args i y q),λi y q=>h'.keys i y (h.keys i y q)⟩
theorem BOk.mono {B:Bind}{K K':Nat->Prop}(h:BOk B K)(a: ∀k,K k->K' k):BOk B K':=⟨λb k q=>a k (h.keys b k q),h.inj⟩
theorem Compat.prev {B B':Bind}{K:Nat->Prop}{c c' cb:Cx}(h:Compat B' c' cb)(e:Ext B B')(L:Dp K c c')(g:c'.w=c.w)(o:BOk B K):Compat B c cb:=
 ⟨h.P.trans L.P,h.w.trans g,λi y iv d q=>h.args i y iv (e.args i y d) (Arg.Ef L.ρ q),λj k d=>(h.keys j k (e.keys j k d)).trans (L.μ k (o.keys j k d)),
  λb a m=>L.O b a (h.O b (by rw[g];exact a) m),λb a m=>L.W b a (h.W b (by rw[g];exact a) m)⟩
section
variable {P:Program}{N:Nat}{X:Nat->Prop}{R:Job->List IV->Option (List IV)}{ρ:List IV}{K:Nat->Prop}{S:View}{μ:Nat->Value}{a:Act}{w w':World}{es es' e1:ES}{ls:List PLt}{sx:SX}
 {B B':Bind} {c cb:Cx}
theorem Dk {x y:Arg}(h:Ev S (Ex B x y) es B' es' ls):es=es'/\ls= []/\Ext B B'/\B'.keys=B.keys/\ ∀ {c cb:Cx} {iv:IV},Compat B' c cb->y.ev c.ρ=some iv->x.ev cb.ρ=some iv:=by
 unfold Ex at h
 cases x with
 | v i=>
  simp only[Ab,Af,Ad]at h
  obtain⟨_,_,_,_,⟨a,rfl,rfl⟩,⟨rfl,rfl,rfl⟩,rfl⟩:=h
  have a:G7 i B.args=none:=by simpa using a
  refine⟨rfl,rfl,⟨λj z e=>?_,λ_ _ h=>h⟩,rfl,λg d=>g.args i y _ (by simp[G7]) d⟩
  simp only[G7]
  by_cases b:i=j
  ·subst b;rw[a]at e;cases e
  ·have:(i == j)=false:=by simpa using b
   simp[this,e]
 | k q=>
  simp only[Ab,Af,Ad]at h
  obtain⟨_,_,_,_,⟨a,rfl,rfl⟩,⟨rfl,rfl,rfl⟩,rfl⟩:=h
  refine⟨rfl,rfl,.refl _,rfl,fun {c cb iv} g d=>?_⟩
  have:=eA (ρ:=c.ρ) a
  rw[<-this]at d
  exact d
theorem Ic {b k:Nat}(h:Ev S (Ki B b k) es B' es' ls):es=es'/\ls= []/\Ext B B'/\findKey b B'.keys=some k/\ ∀ {K:Nat->Prop},BOk B K->K k->BOk B' K:=by
 unfold Ki at h
 split at h
 ·rename_i C i
  simp only[Ab,Af,Ad]at h
  obtain⟨_,_,_,_,⟨w,rfl,rfl⟩,⟨rfl,rfl,rfl⟩,rfl⟩:=h
  have:C=k:=by simpa using w
  subst this
  exact⟨rfl,rfl,.refl _,i,λh _=>h⟩
 ·rename_i i
  simp only[Ab,Af,Ad]at h
  obtain⟨_,_,_,_,⟨w,rfl,rfl⟩,⟨rfl,rfl,rfl⟩,rfl⟩:=h
  have g: ∀j,findKey j B.keys≠some k:=by
   intro j m
   have: ∀ {l:List (Nat × Nat)},(l.all λp=>p.2 !=k)=true->findKey j l≠some k:=by
    intro l x
    induction l with
    | nil=>simp[findKey]
    | cons p l E=>
     obtain⟨q,r⟩:=p
     simp only[aX,aA]at x
     unfold findKey
     split
     ·intro e;injection e with e;subst e;simp at x
     ·exact E x.2
   exact this w m
  have y: ∀j,findKey j ((b,k)::B.keys)=if b=j then some k else findKey j B.keys:=by
   intro j;simp[findKey]
  refine⟨rfl,rfl,⟨λ_ _ h=>h,λj q c=>?_⟩,by simp[findKey],fun {K} A F=>⟨λj q c=>?_,λz u q o t=>?_⟩⟩
  ·rw[y]
   by_cases m:b=j
   ·subst m;rw[i]at c;cases c
   ·simp[m,c]
  ·simp only[y]at c
   by_cases m:b=j
   ·simp[m]at c;subst c;exact F
   ·simp[m]at c;exact A.keys j q c
  ·simp only[y]at o t
   by_cases d:b=z
   ·by_cases a:b=u
    ·exact d.symm.trans a
    ·simp[d]at o;simp[a]at t
     subst o;exact absurd t (g u)
   ·by_cases a:b=u
    ·simp[d]at o;simp[a]at t
     subst t;exact absurd o (g z)
    ·simp[d]at o;simp[a]at t
     exact A.inj z u q o t
theorem Compat.rel (h:Compat B c cb){t:TypeId}{x:IV}{v:Value}(a:Rel c.P c.w c.O t x v):Rel cb.P cb.w cb.O t x v:=by
 rw[h.P,h.w]
 exact a.weaken h.O
theorem A21 {C p:PV}{v:Value}(h:Ev S (uPV B C p) es B' es' ls)(y:BOk B K)(Q: ∀k∈Di p,K k)(E:Ab7 c p v):es=es'/\ls= []/\Ext B B'/\BOk B' K/\ ∀cb,Compat B' c cb->Ab7 cb C v:=by
 unfold uPV at h
 cases C with
 | p F o'=>
  cases p with
  | p k o=>
   simp only[Ab,Af]at h
   obtain⟨_,_,_,_,⟨d,rfl,rfl⟩,h,rfl⟩:=h
   have:o'=o:=by simpa using d
   subst this
   obtain⟨rfl,rfl,G,H,I⟩:=Ic h
   obtain⟨b,r1,r2⟩:=E
   exact⟨rfl,rfl,G,I y (Q k (by simp[Di])),λcb a=>⟨b,(a.keys F k H).trans r1,r2⟩⟩
  | el=>simp[Ac]at h
  | im=>simp[Ac]at h
 | el F X Y o'=>
  cases p with
  | p=>simp[Ac]at h
  | im=>simp[Ac]at h
  | el k e i o=>
   simp only[Ab,Af]at h
   obtain⟨_,_,_,_,⟨d,rfl,rfl⟩,⟨B1,e1,Z,l2,m,q,rfl⟩,rfl⟩:=h
   simp only[aA,beq_iff_eq]at d
   obtain⟨rfl,rfl⟩:=d
   obtain⟨rfl,rfl,G,H,I⟩:=Ic m
   obtain⟨rfl,rfl,r1,r2,J⟩:=Dk q
   have r:=I y (Q k (by simp[Di]))
   obtain⟨g,n,cap,j,L,M,z,A⟩:=E
   refine⟨rfl,rfl,G.trans r1,⟨λk1 k2 h=>r.keys k1 k2 (by rw[<-r2];exact h),λk1 k2 k m q=>r.inj k1 k2 k (by rw[<-r2];exact m) (by rw[<-r2];exact q)⟩,
    λcb a=>⟨g,n,cap,j,(a.keys F k (by rw[r2];exact H)).trans L,J a M,z,by rw[a.P];exact A⟩⟩
 | im x' t' o'=>
  cases p with
  | p=>simp[Ac]at h
  | el=>simp[Ac]at h
  | im x t o=>
   simp only[Ab,Af]at h
   obtain⟨_,_,_,_,⟨d,rfl,rfl⟩,h,rfl⟩:=h
   simp only[aA,beq_iff_eq]at d
   obtain⟨rfl,rfl⟩:=d
   obtain⟨rfl,rfl,r1,r2,J⟩:=Dk h
   obtain⟨ad,u,⟨iv,L,M⟩,z,A,R,T⟩:=E
   have N:=z.lt A
   exact⟨rfl,rfl,r1,⟨λk1 k2 h=>y.keys k1 k2 (by rw[<-r2];exact h),λk1 k2 k m q=>y.inj k1 k2 k (by rw[<-r2];exact m) (by rw[<-r2];exact q)⟩,
    λcb a=>⟨ad,u,⟨iv,J a L,a.rel M⟩,by rw[a.P,a.w];exact z,by rw[a.P];exact A,λU=>R (a.W _ N U),T⟩⟩
theorem Compat.ext (h:Compat B' c cb)(e:Ext B B'):Compat B c cb:=
 ⟨h.P,h.w,λi y iv a d=>h.args i y iv (e.args i y a) d,λb k a=>h.keys b k (e.keys b k a),h.O,h.W⟩
theorem Ary: ∀ {ps' e:List PV} {vs:List Value} {B B':Bind} {es es':ES} {ls:List PLt},Ev S (A5l B ps' e) es B' es' ls->BOk B K->(∀k∈e.flatMap Di,K k)->Mk c e vs->es=es'/\ls= []/\Ext B B'/\BOk B' K/\ ∀cb,Compat B' c cb->Mk cb ps' vs
 | [],[],vs,B,B',es,es',ls,h,b,d,a=>by
  unfold A5l at h
  rw[Ad]at h
  obtain⟨rfl,rfl,rfl⟩:=h
  exact⟨rfl,rfl,.refl _,b,λcb g=>by cases vs with | nil=>trivial | cons=>exact a.elim⟩
 | u::ps',p::e,vs,B,B',es,es',ls,h,b,d,a=>by
  cases vs with
  | nil=>exact a.elim
  | cons v vs=>
   unfold A5l at h
   rw[Ab]at h
   obtain⟨B1,e1,w,x,j,m,rfl⟩:=h
   obtain⟨rfl,rfl,o,q,r⟩:=A21 j b (λk i=>d k (by rw[aC];exact aD _ i)) a.1
   obtain⟨rfl,rfl,r1,r2,t⟩:=Ary m q (λk i=>d k (by rw[aC];exact aB _ i)) a.2
   exact⟨rfl,rfl,o.trans r1,r2,λcb g=>⟨r cb (g.ext r1),t cb g⟩⟩
 | [],_::_,vs,B,B',es,es',ls,h,b,d,a=>by simp[A5l,Ac]at h
 | _::_,[],vs,B,B',es,es',ls,h,b,d,a=>by simp[A5l,Ac]at h
structure Jp (P:Program)(N:Nat)(X:Nat->Prop)(ρ:List IV)(K:Nat->Prop)(S:View)(μ:Nat->Value)(a:Act)(w:World)(es es':ES)(μ':Nat->Value):Prop where
 Cj:Good P N X ρ (As K es.m es'.m) S.tm (cur S es'.obs) μ' a w
 keep: ∀k,K k->μ' k=μ k
 wr: ∀b,Wr (cur S es'.obs) μ' b->Wr (cur S es.obs) μ b
 m:es.m<=es'.m
 gs:es'.gs=es.gs
theorem Jp.later {μ':Nat->Value}(j:Jp P N X ρ K S μ a w es es' μ'):Dp K (Bh P X ρ (cur S es.obs) μ w) (Bh P X ρ (cur S es'.obs) μ' w):=
 {P:=rfl,ρ:=λ_ _ h=>h,μ:=j.keep,stays:=cZ _ _,O:=λb _ c=>c.imp id (j.wr b),W:=λb _ c=>j.wr b c,WO:=λ_b c=> .inr c}
theorem Ph.jp (p:Ph P N X ρ K S μ a w es es'):Jp P N X ρ K S μ a w es es' μ:=
 ⟨p.Cj.M5 λ_ h=> .inl h,λ_ _=>rfl,λ_ b=>p.Dv.wr b,by rw[p.m];exact aK _,p.gs⟩
theorem Jp.trans {μ1 μ2:Nat->Value}(j:Jp P N X ρ K S μ a w es e1 μ1)(c:Jp P N X ρ (As K es.m e1.m) S μ1 a w e1 es' μ2):Jp P N X ρ K S μ a w es es' μ2:=
 ⟨c.Cj.M5 (Ct j.m c.m),λk d=>(c.keep k (.inl d)).trans (j.keep k d),λb e=>j.wr b (c.wr b e),aS j.m c.m,c.gs.trans j.gs⟩
theorem Ay8 {t:TypeId}{l:LV}{k:Nat}{v:Value}(G:Good P N X ρ K S.tm (cur S es.obs) μ a w)(h:Ev S (A08 P t l) es k es' ls)(hl:LH R ρ ls)(hg:holds ρ es.gs=some true)
  (hv:W2 (Bh P X ρ (cur S es.obs) μ w) l v) (F: ∀k,es.m<=k->k<es'.m-> ¬ K k):
  ∃μ',Jp P N X ρ K S μ a w es es' μ'/\μ' k=v/\As K es.m es'.m k/\ ∃A n cap,v= .slice A n cap:=by
 unfold A08 at h
 simp only[Ab,Ao,Cc,Bd,Ad]at h
 obtain⟨e,_,_,_,⟨q,rfl,rfl⟩,⟨x,e1,l1,_,o,⟨_,_,_,_,⟨rfl,rfl,rfl⟩,⟨_,_,_,_,⟨rfl,rfl⟩,⟨rfl,rfl,rfl⟩,rfl⟩,rfl⟩,rfl⟩,rfl⟩:=h
 obtain⟨ys,q1,d,q2,cs,U,q4,q5⟩:=N1 G o (by simpa using hl) hg hv
 have aa:es.m=e1.m:=d.m.symm
 have hK: ¬ K e1.m:=F e1.m (by omega) (bC _)
 obtain⟨_,_,A,n,cap,H⟩:=J6 U
 have hμ: ∀c,K c->Db μ e1.m v c=μ c:=λc I=>Cy λe=>hK (e ▸ I)
 have old: ∀c o',Bo (cur S e1.obs) e1.m (some (.arr e t x)) c=some o'->(c=e1.m/\o'= .arr e t x)\/(c≠e1.m/\cur S e1.obs c=some o'):=by
  intro c o' h
  unfold Bo at h
  split at h
  ·rename_i e;injection h with h;exact .inl ⟨e,h.symm⟩
  ·rename_i e;exact .inr ⟨e,h⟩
 -- the new object's block is the one that was Ab3
 have j: ∀b,Wr (Bo (cur S e1.obs) e1.m (some (.arr e t x))) (Db μ e1.m v) b->Wr (cur S e1.obs) μ b\/b∈(blk v).toList :=by
  rintro b ⟨c,o',q,o,i⟩
  rcases old c o' q with⟨rfl,rfl⟩ | ⟨r1,r2⟩
  ·rw[Bb]at i;exact .inr (by simp[i])
  ·rw[Cy r1]at i;exact .inl ⟨c,o',r2,o,i⟩
 have L:Dp K (Bh P (λb=>X b\/b∈(blk v).toList) ρ (cur S e1.obs) μ w) {Bh P X ρ (Bo (cur S e1.obs) e1.m (some (.arr e t x))) (Db μ e1.m v) w with W:=Wr (cur S e1.obs) μ} :=
  {P:=rfl,ρ:=λ_ _ h=>h,μ:=hμ,stays:=cZ _ _,O:=λb _ g=>g.elim (λh=> .inl (.inl h)) λh=>(j b h).elim .inr λh=> .inl (.inr h),W:=λb _ g=>g,WO:=λb g=> .inr g}
 have L0:Dp K (Bh P X ρ (cur S es.obs) μ w) (Bh P X ρ (Bo (cur S e1.obs) e1.m (some (.arr e t x))) (Db μ e1.m v) w):=
  {
   P:=rfl,ρ:=λ_ _ h=>h,μ:=hμ,stays:=cZ _ _,
   O:=λb _ g=>g.imp id λh=>(j b h).elim d.Dv.wr (d.own b),W:=λb _ g=>(j b g).elim d.Dv.wr (d.own b),WO:=λb g=> .inr g}
 have B:Ae3 (Bh P X ρ (Bo (cur S e1.obs) e1.m (some (.arr e t x))) (Db μ e1.m v) w) e1.m (.arr e t x):=by
  refine⟨ys,cs,q1,Be q,q2,?_,q4.weaken λb g C=>?_,q5⟩
  ·show w.ownsRow 0 e (Ag P e) (Db μ e1.m v e1.m) ys.length cs
   rw[Bb];exact U
  ·rcases C with C | C
   ·exact .inl (.inl C)
   ·exact(j b C).elim .inr λh=> .inl (.inr h)
 refine⟨Db μ e1.m v,⟨?_,hμ,λb g=>?_,?_,?_⟩,Bb,.inr ⟨by omega,bC _⟩,A,n,cap,H⟩
 ·show Good P N X ρ _ S.tm (cur S ((e1.m,some (.arr e t x))::e1.obs)) _ a w
  rw[Bm]
  refine⟨G.size,G.defers,λs=>L0.Arc (G.kt s) (G.slot s),λc o' h=>?_,λk1 k2 J u b q o i Y y z=>?_,λc o' b q o i=>?_,G.xlt,λs c h=> .inl (G.kt s c h),λc o' h=>?_⟩
  ·rcases old c o' h with⟨rfl,rfl⟩ | ⟨r1,r2⟩
   ·exact B
   ·cases E:o'.Ea with
    | true=>
     have M:=d.Dv c o' r2 E
     exact L0.Af0 (G.ko c o' M).1 (G.ko c o' M).2 (λ_ _ _ _=>rfl) (G.obj c o' M)
    | false=>
     cases o' with
     | box=>simp[dM]at E
     | arr=>simp[dM]at E
     | iter=>simp[dM]at E
     | mp=>simp[dM]at E
     | frz e' t' x'=>exact L.Af0 (d.Cj.ko c _ r2).1 (d.Cj.ko c _ r2).2 (λ_ _ _ _=>rfl) (d.Cj.obj c _ r2)
  ·rcases old k1 J q with⟨rfl,rfl⟩ | ⟨r1,r2⟩
   ·rcases old k2 u o with⟨rfl,rfl⟩ | ⟨Q,T⟩
    ·rfl
    ·rw[Bb]at y;rw[Cy Q]at z
     exact absurd (.inr (by simp[y])) (d.Cj.xsep k2 u b T Y z)
   ·rcases old k2 u o with⟨rfl,rfl⟩ | ⟨Q,T⟩
    ·rw[Bb]at z;rw[Cy r1]at y
     exact absurd (.inr (by simp[z])) (d.Cj.xsep k1 J b r2 i y)
    ·rw[Cy r1]at y;rw[Cy Q]at z
     exact d.Cj.sep k1 k2 J u b r2 T i Y y z
  ·intro Z
   rcases old c o' q with⟨rfl,rfl⟩ | ⟨r1,r2⟩
   ·rw[Bb]at i
    obtain⟨k2,u,z1,z2,z3⟩:=d.own b (by simp[i])
    exact G.xsep k2 u b z1 z2 z3 Z
   ·rw[Cy r1]at i
    exact d.Cj.xsep c o' b r2 o i (.inl Z)
  ·rcases old c o' h with⟨rfl,rfl⟩ | ⟨r1,r2⟩
   ·exact⟨.inr ⟨by omega,bC _⟩,λk2 r=>by simp[E4]at r⟩
   ·exact⟨.inl (d.Cj.ko c o' r2).1,λk2 r=> .inl ((d.Cj.ko c o' r2).2 k2 r)⟩
 ·have g:Wr (cur S ((e1.m,some (.arr e t x))::e1.obs)) (Db μ e1.m v) b:=g
  rw[Bm]at g
  exact(j b g).elim d.Dv.wr (d.own b)
 ·show es.m<=e1.m+1
  omega
 ·exact d.gs
end
end Go.CT
namespace Go.CT
open EM
section
variable {P:Program}{N:Nat}{X:Nat->Prop}{R:Job->List IV->Option (List IV)}{ρ:List IV}{K:Nat->Prop}{S:View}{μ:Nat->Value}{a:Act}{w w':World}{es es' e1:ES}{ls:List PLt}{sx:SX}
 {B B' B1:Bind} {c cb:Cx}
def UOk (P:Program)(N:Nat)(X:Nat->Prop)(ρ:List IV)(K:Nat->Prop)(S:View)(μ:Nat->Value)(a:Act)(w:World)(es es':ES)(B B':Bind)(claim:Cx->Prop):Prop:=
 ∃μ',Jp P N X ρ K S μ a w es es' μ'/\Ext B B'/\BOk B' (As K es.m es'.m)/\ ∀cb,Compat B' (Bh P X ρ (cur S es'.obs) μ' w) cb->claim cb
theorem UOk.mono {f g:Cx->Prop}(h:UOk P N X ρ K S μ a w es es' B B' f)(b: ∀cb,f cb->g cb):UOk P N X ρ K S μ a w es es' B B' g:=
 let ⟨μ',c,d,e,i⟩:=h; ⟨μ',c,d,e,λcb j=>b cb (i cb j)⟩
theorem Ie {m a:Nat}(h: ∀k,m<=k-> ¬ K k)(b:m<=a): ∀k,a<=k-> ¬ As K m a k:=by
 rintro k c (h' | h')
 ·exact h k (by omega) h'
 ·omega
theorem UOk.then {f g:Cx->Prop}(h:UOk P N X ρ K S μ a w es e1 B B1 f)
  (h': ∀μ1,Jp P N X ρ K S μ a w es e1 μ1->BOk B1 (As K es.m e1.m)->UOk P N X ρ (As K es.m e1.m) S μ1 a w e1 es' B1 B' g):UOk P N X ρ K S μ a w es es' B B' λcb=>f cb/\g cb:=by
 obtain⟨μ1,b,x1,b1,i⟩:=h
 obtain⟨μ2,c,d,b2,j⟩:=h' μ1 b b1
 exact⟨μ2,b.trans c,x1.trans d,b2.mono (Ct b.m c.m),λcb e=>⟨i cb (e.prev d c.later rfl b1),j cb e⟩⟩
theorem UOk.Rt {f:Cx->Prop}(p:Ph P N X ρ K S μ a w es es')(x:Ext B B')(b:BOk B' K)(c: ∀cb,Compat B' (Bh P X ρ (cur S es'.obs) μ w) cb->f cb):UOk P N X ρ K S μ a w es es' B B' f:=
 ⟨μ,p.jp,x,b.mono λ_ h=> .inl h,c⟩
theorem BOk.Qp {B B':Bind}(h:BOk B K)(e:B'.keys=B.keys):BOk B' K:=
 ⟨λk1 k2 q=>h.keys k1 k2 (by rw[<-e];exact q),λk1 k2 k a b=>h.inj k1 k2 k (by rw[<-e];exact a) (by rw[<-e];exact b)⟩
theorem Pc {b y:Arg}{t:TypeId}{v:Value}{d:List PLt}(p:Ph P N X ρ K S μ a w es e1)(e:Sf (Bh P X ρ (cur S e1.obs) μ w) y t v)(h:Ev S (Ex B b y) e1 B' es' d)(g:BOk B K):
  UOk P N X ρ K S μ a w es es' B B' λcb=>Sf cb b t v:=by
 obtain⟨rfl,rfl,r1,r2,i⟩:=Dk h
 obtain⟨iv,j,m⟩:=e
 exact .Rt p r1 (g.Qp r2) λcb c=>⟨iv,i c j,c.rel m⟩
theorem A3k {J l:LV}{v:Value}(G:Good P N X ρ K S.tm (cur S es.obs) μ a w)(h:Ev S (uLV P B J l) es B' es' ls)(Q:LH R ρ ls)(T:holds ρ es.gs=some true)(d:BOk B K)(L: ∀k,es.m<=k-> ¬ K k)
  (I: ∀k∈A5 l,K k) (b:W2 (Bh P X ρ (cur S es.obs) μ w) l v):UOk P N X ρ K S μ a w es es' B B' λcb=>W2 cb J v:=by
 unfold uLV at h
 cases J with
 | junk=>
  simp only[Ad]at h
  obtain⟨rfl,rfl,rfl⟩:=h
  exact .Rt (.refl G) (.refl _) d λcb _=>trivial
 | «at» U i=>
  simp only[Ab]at h
  obtain⟨y,e1,Y,Z,C,E,rfl⟩:=h
  obtain⟨p,_,q⟩:=G5 G C Q.left T b
  exact Pc p (q rfl) E d
 | nil i=>
  cases l with
  | nil t=>
   simp only[Ad]at h
   obtain⟨rfl,rfl,rfl⟩:=h
   exact .Rt (.refl G) (.refl _) d λcb _=>b
  | _=>simp[Ac]at h
 | ref o i=>
  have byown: ∀ {l:LV},Ev S (do
    let k <-A08 P i l
    Ki B o k) es B' es' ls->W2 (Bh P X ρ (cur S es.obs) μ w) l v->UOk P N X ρ K S μ a w es es' B B' λcb=>W2 cb (.ref o i) v:=by
   intro l h b
   rw[Ab]at h
   obtain⟨k,e1,Y,Z,C,E,rfl⟩:=h
   obtain⟨μ',j,u,z,F⟩:=Ay8 G C Q.left T b λk C _=>L k C
   obtain⟨rfl,rfl,r1,r2,g⟩:=Ic E
   exact⟨μ',j,r1,g (d.mono λ_ h=> .inl h) z,λcb c=>⟨((c.keys o k r2).trans u).symm,F⟩⟩
  cases l with
  | ref k t=>
   obtain⟨rfl,rfl,r1,r2,g⟩:=Ic h
   exact .Rt (.refl G) r1 (g d (I k (by simp[A5]))) λcb c=>⟨b.1.trans (c.keys o k r2).symm,b.2⟩
  | «at» =>simp[Ac]at h
  | nil t=>exact byown h b
  | sub k lo hi t=>exact byown h b
  | ptr p=>exact byown h b
  | fn f ps=>exact byown h b
  | mref k t=>exact byown h b
  | hid k=>exact byown h b
  | cl x t=>exact byown h b
  | st x t=>exact byown h b
  | junk=>exact byown h b
 | sub o lo' aa i=>
  cases l with
  | sub k lo hi t=>
   simp only[Ab,Af]at h
   obtain⟨_,_,_,_,⟨H,rfl,rfl⟩,⟨B1,e1,Y,_,C,⟨B2,e2,Z,_,E,M,rfl⟩,rfl⟩,rfl⟩:=h
   have:t=i:=by simpa using H
   subst this
   obtain⟨rfl,rfl,u,z,F⟩:=Ic C
   obtain⟨rfl,rfl,r1,r2,g⟩:=Dk E
   obtain⟨rfl,rfl,s1,s2,s3⟩:=Dk M
   obtain⟨A,n,cap,lo0,r,e,p0,p1,p2,p3,p4,p5,p6⟩:=b
   refine .Rt (.refl G) (u.trans (r1.trans s1)) (((F d (I k (by simp[A5]))).Qp r2).Qp s2) λcb c=>?_
   exact⟨A,n,cap,lo0,r,e,by rw[c.P];exact p0,(c.keys o k (by rw[s2,r2];exact z)).trans p1,g (c.ext s1) p2,s3 c p3,p4,p5,by rw[c.P];exact p6⟩
  | _=>simp[Ac]at h
 | ptr p'=>
  cases l with
  | ptr p=>
   obtain⟨rfl,rfl,u,z,F⟩:=A21 h d I b
   exact .Rt (.refl G) u z F
  | _=>simp[Ac]at h
 | fn f' ps'=>
  cases l with
  | fn f ps=>
   simp only[Ab,Af]at h
   obtain⟨_,_,_,_,⟨H,rfl,rfl⟩,h,rfl⟩:=h
   have:f'=f:=by simpa using H
   subst this
   obtain⟨vs,rfl,hp⟩:=b
   obtain⟨rfl,rfl,u,z,F⟩:=Ary h d I hp
   exact .Rt (.refl G) u z λcb c=>⟨vs,rfl,F cb c⟩
  | _=>simp[Ac]at h
 | mref o i=>
  cases l with
  | mref k t=>
   obtain⟨rfl,rfl,r1,r2,g⟩:=Ic h
   exact .Rt (.refl G) r1 (g d (I k (by simp[A5]))) λcb c=>⟨b.1.trans (c.keys o k r2).symm,b.2⟩
  | _=>simp[Ac]at h
 | st U i=>
  cases l with
  | st x t=>
   simp only[Ab,Af]at h
   obtain⟨_,_,_,_,⟨H,rfl,rfl⟩,h,rfl⟩:=h
   have:t=i:=by simpa using H
   subst this
   obtain⟨rfl,rfl,r1,r2,g⟩:=Dk h
   obtain⟨⟨iv,u,z⟩,ys,A,cap,E,M,h4⟩:=b
   exact .Rt (.refl G) r1 (d.Qp r2) λcb c=>⟨⟨iv,g c u,c.rel z⟩,ys,A,cap,g c E,M,h4⟩
  | _=>simp[Ac]at h
 | cl U i=>
  cases l with
  | cl x t=>
   simp only[Ab,Af]at h
   obtain⟨_,_,_,_,⟨H,rfl,rfl⟩,h,rfl⟩:=h
   have:t=i:=by simpa using H
   subst this
   exact(Pc (.refl G) b.1 h d).mono λcb c=>⟨c,b.2⟩
  | _=>simp[Ac]at h
 | hid o=>
  cases l with
  | hid k=>
   obtain⟨rfl,rfl,r1,r2,g⟩:=Ic h
   exact .Rt (.refl G) r1 (g d (I k (by simp[A5]))) λcb c=>b.imp id λb=>⟨b.1.trans (c.keys o k r2).symm,b.2⟩
  | _=>simp[Ac]at h
theorem UOk.nil {f:Cx->Prop}(G:Good P N X ρ K S.tm (cur S es.obs) μ a w)(b:BOk B K)(c: ∀cb,f cb):UOk P N X ρ K S μ a w es es B B f:= .Rt (.refl G) (.refl _) b λcb _=>c cb
theorem Aqm: ∀ {ls' lvs:List LV} {vs:List Value} {B B':Bind} {es es':ES} {ls:List PLt} {K:Nat->Prop} {μ:Nat->Value},Good P N X ρ K S.tm (cur S es.obs) μ a w->Ev S (A7u P B ls' lvs) es B' es' ls->LH R ρ ls->holds ρ es.gs=some true->BOk B K->(∀k,es.m<=k-> ¬ K k)->
  (∀k∈lvs.flatMap A5,K k)->Dt (Bh P X ρ (cur S es.obs) μ w) lvs vs->UOk P N X ρ K S μ a w es es' B B' λcb=>Dt cb ls' vs
 | [],[],vs,B,B',es,es',ls,K,μ,G,h,d,e,g,b,i,c=>by
  unfold A7u at h
  rw[Ad]at h
  obtain⟨rfl,rfl,rfl⟩:=h
  cases vs with
  | nil=>exact .nil G g λ_=>trivial
  | cons=>exact c.elim
 | x::ls',l::lvs,vs,B,B',es,es',ls,K,μ,G,h,d,e,g,b,i,c=>by
  cases vs with
  | nil=>exact c.elim
  | cons v vs=>
   unfold A7u at h
   rw[Ab]at h
   obtain⟨B1,e1,y,z,t,u,rfl⟩:=h
   have o: ∀k∈lvs.flatMap A5,K k:=λk q=>i k (by rw[aC];exact aB _ q)
   refine((A3k G t d.left e g b (λk q=>i k (by rw[aC];exact aD _ q)) c.1.2).then λμ1 j b1=>Aqm j.Cj u d.right (by rw[j.gs];exact e) b1 (Ie b j.m) (λk q=> .inl (o k q)) (j.later.Acu o c.2)).mono λcb r=>⟨⟨c.1.1,r.1⟩,r.2⟩
 | [],_::_,vs,B,B',es,es',ls,K,μ,G,h,d,e,g,b,i,c=>by simp[A7u,Ac]at h
 | _::_,[],vs,B,B',es,es',ls,K,μ,G,h,d,e,g,b,i,c=>by simp[A7u,Ac]at h
theorem UOk.after {f:Cx->Prop}(p:Ph P N X ρ K S μ a w es e1)(h:UOk P N X ρ K S μ a w e1 es' B B' f):UOk P N X ρ K S μ a w es es' B B' f:=by
 obtain⟨μ',j,x,b,c⟩:=h
 rw[p.m]at b
 refine⟨μ',⟨?_,j.keep,λb d=>p.Dv.wr (j.wr b d),by have:=j.m;rw[p.m]at this;exact this,j.gs.trans p.gs⟩,x,b,c⟩
 have:=j.Cj
 rwa [p.m]at this
theorem Atm {o vv:VV}{v:Value}(G:Good P N X ρ K S.tm (cur S es.obs) μ a w)(h:Ev S (uVV P B o vv) es B' es' ls)(b:LH R ρ ls)(g:holds ρ es.gs=some true)(i:BOk B K)(c: ∀k,es.m<=k-> ¬ K k)
  (r: ∀k∈Ax vv,K k) (d:K0 (Bh P X ρ (cur S es.obs) μ w) vv v):UOk P N X ρ K S μ a w es es' B B' λcb=>K0 cb o v:=by
 unfold uVV at h
 cases o with
 | agg C E=>
  simp only[Ab,Af]at h
  obtain⟨_,_,_,_,⟨j,rfl,rfl⟩,⟨cs,e1,F,_,u,z,rfl⟩,rfl⟩:=h
  simp only[aA]at j
  have b:=b.right
  obtain⟨⟨A,rfl⟩,H,I⟩:=I6 u b.left g r d
  have e: ∃us:Array Value,v= .agg us:=by
   cases vv with
   | agg t ls=>obtain⟨us,rfl,_⟩:=d;exact⟨us,rfl⟩
   | leaf l=>
    cases l with
    | «at» x t=>
     have:t=C:=by simpa [Avl]using j.2
     subst this
     obtain⟨iv,_,J⟩:=d
     obtain⟨_,_,us,_,_,h,_⟩:=J.Abb j.1
     exact⟨us,h⟩
    | _=>simp[Avl]at j
  obtain⟨us,rfl⟩:=e
  exact(UOk.after (e1:= {es with n:=A}) (.same G rfl rfl rfl) (Aqm (es:= {es with n:=A}) G z b.right g i c I H)).mono λcb L=>⟨us,rfl,L⟩
 | leaf M=>
  simp only at h
  split at h
  ·rw[Ad]at h
   obtain⟨rfl,rfl,rfl⟩:=h
   exact .nil G i λ_=>trivial
  ·simp only[Ab]at h
   obtain⟨y,e1,F,Q,u,z,rfl⟩:=h
   obtain⟨p,_,q⟩:=D6 G u b.left g r d
   exact Pc p (q rfl) z i
  ·split at h
   ·exact A3k G h b g i c r d
   ·simp[Ac]at h
theorem Avj: ∀ {ls' lvs:List VV} {vs:List Value} {B B':Bind} {es es':ES} {ls:List PLt} {K:Nat->Prop} {μ:Nat->Value},Good P N X ρ K S.tm (cur S es.obs) μ a w->Ev S (A8k P B ls' lvs) es B' es' ls->LH R ρ ls->holds ρ es.gs=some true->BOk B K->(∀k,es.m<=k-> ¬ K k)->
  (∀k∈lvs.flatMap Ax,K k)->Eh (Bh P X ρ (cur S es.obs) μ w) lvs vs->UOk P N X ρ K S μ a w es es' B B' λcb=>Eh cb ls' vs
 | [],[],vs,B,B',es,es',ls,K,μ,G,h,d,e,g,b,i,c=>by
  unfold A8k at h
  rw[Ad]at h
  obtain⟨rfl,rfl,rfl⟩:=h
  cases vs with
  | nil=>exact .nil G g λ_=>trivial
  | cons=>exact c.elim
 | u::ls',l::lvs,vs,B,B',es,es',ls,K,μ,G,h,d,e,g,b,i,c=>by
  cases vs with
  | nil=>exact c.elim
  | cons v vs=>
   unfold A8k at h
   rw[Ab]at h
   obtain⟨B1,e1,x,y,r,t,rfl⟩:=h
   have o: ∀k∈lvs.flatMap Ax,K k:=λk q=>i k (by rw[aC];exact aB _ q)
   exact(Atm G r d.left e g b (λk q=>i k (by rw[aC];exact aD _ q)) c.1).then λμ1 j b1=>Avj j.Cj t d.right (by rw[j.gs];exact e) b1 (Ie b j.m) (λk q=> .inl (o k q)) (j.later.Qq o c.2)
 | [],_::_,vs,B,B',es,es',ls,K,μ,G,h,d,e,g,b,i,c=>by simp[A8k,Ac]at h
 | _::_,[],vs,B,B',es,es',ls,K,μ,G,h,d,e,g,b,i,c=>by simp[A8k,Ac]at h
theorem A9e {g x:SX}{v:Value}(G:Good P N X ρ K S.tm (cur S es.obs) μ a w)(h:Ev S (uSX P B g x) es B' es' ls)(o:LH R ρ ls)(q:holds ρ es.gs=some true)(i:BOk B K)(c: ∀k,es.m<=k-> ¬ K k)
  (t: ∀k∈Ca x,K k) (d:Agd (Bh P X ρ (cur S es.obs) μ w) x v):UOk P N X ρ K S μ a w es es' B B' λcb=>Agd cb g v:=by
 unfold uSX at h
 cases g with
 | one L=>
  cases x with
  | one vv=>exact Atm G h o q i c t d
  | tup=>simp[Ac]at h
  | nx=>simp[Ac]at h
 | nx ok' M Q=>
  cases x with
  | one=>simp[Ac]at h
  | tup=>simp[Ac]at h
  | nx ok p r=>
   simp only[Ab]at h
   obtain⟨B1,e1,T,_,u,⟨B2,U,Y,_,y,z,rfl⟩,rfl⟩:=h
   obtain⟨rfl,rfl,A,C,E⟩:=Dk u
   obtain⟨rfl,rfl,r1,r2,F⟩:=Dk y
   obtain⟨rfl,rfl,j,H,I⟩:=Dk z
   obtain⟨b,n,m,d1,d2,d3,d4⟩:=d
   refine .Rt (.refl G) (A.trans (r1.trans j)) (((i.Qp C).Qp r2).Qp H) λcb e=>?_
   exact⟨b,n,m,E (e.ext (r1.trans j)) d1,F (e.ext j) d2,I e d3,d4⟩
 | tup J=>
  cases x with
  | nx=>simp[Ac]at h
  | one=>simp[Ac]at h
  | tup vs=>
   obtain⟨us,rfl,d⟩:=d
   exact(Avj G h o q i c t d).mono λcb e=>⟨us,rfl,e⟩
theorem A96 {s':SV}{t:Nat}(G:Good P N X ρ K S.tm (cur S es.obs) μ a w)(h:Ev S (uSV P B s' t) es B' es' ls)(j:LH R ρ ls)(o:holds ρ es.gs=some true)(i:BOk B K)(b: ∀k,es.m<=k-> ¬ K k):
  UOk P N X ρ K S μ a w es es' B B' λcb=>Ap2 cb s' (a.tmps.getD t undef):=by
 unfold uSV at h
 rw[Hr]at h
 rcases h with⟨c,h⟩ | ⟨_,h⟩
 ·rw[Ad]at h
  obtain⟨rfl,rfl,rfl⟩:=h
  simp only[aA,cP]at c
  refine .nil G i λcb=>⟨true,by rw[c.1];rfl,λ_=>?_,λh=>by cases h⟩
  have d:=c.2
  unfold A11 at d
  split at d
  ·rename_i e;rw[e];trivial
  ·cases d
 ·simp only[Ab,K8,Af]at h
  obtain⟨s,_,_,_,⟨rfl,rfl,rfl⟩,⟨_,_,_,_,⟨g,rfl,rfl⟩,h,rfl⟩,rfl⟩:=h
  simp only[aA,cP]at g
  have q:=(G.slot t).use (by rw[g.1];rfl)
  exact(A9e G h (by simpa using j) o i b (G.kt t) q).mono λcb r=>⟨true,by rw[g.2];rfl,λ_=>r,λh=>by cases h⟩
theorem Aej: ∀ {tm:List (Nat × SV)} {B B':Bind} {es es':ES} {ls:List PLt} {K:Nat->Prop} {μ:Nat->Value},Good P N X ρ K S.tm (cur S es.obs) μ a w->Ev S (Acj P B tm) es B' es' ls->LH R ρ ls->holds ρ es.gs=some true->BOk B K->(∀k,es.m<=k-> ¬ K k)->
  UOk P N X ρ K S μ a w es es' B B' λcb=> ∀p∈tm,Ap2 cb p.2 (a.tmps.getD p.1 undef)
 | [],B,B',es,es',ls,K,μ,G,h,c,d,e,b=>by
  unfold Acj at h
  rw[Ad]at h
  obtain⟨rfl,rfl,rfl⟩:=h
  exact .nil G e λcb p hp=>by cases hp
 | (t,q)::r,B,B',es,es',ls,K,μ,G,h,c,d,e,b=>by
  unfold Acj at h
  rw[Ab]at h
  obtain⟨B1,e1,u,x,i,o,rfl⟩:=h
  refine((A96 G i c.left d e b).then λμ1 j b1=>Aej j.Cj o c.right (by rw[j.gs];exact d) b1 (Ie b j.m)).mono λcb g p hp=>?_
  rcases bH.1 hp with rfl | hp
  ·exact g.1
  ·exact g.2 p hp
end
end Go.CT
