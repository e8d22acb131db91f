import Derived.Test.YtfealnpkfnjbkaaGreatDoorCtA
import Derived.MapKept
import Derived.Lib.AppendStr
set_option linter.unusedVariables false
set_option linter.unusedSimpArgs false
open Array renaming getElem?_eq_getElem->aM,length_toList->aY,getElem?_eq_some_iff->bZ
open Bool renaming and_eq_true->aA,false_eq_true->aG,or_eq_true->aX
open Go.CT.Arg renaming evs->aW,ev->cX,N8->dH
open Go.CT.EM renaming guard->aR
open Go.CT.LH renaming Cb->bT
open Go.CT.Mb renaming refl->cL
open Go.CT.Ob renaming Gl->cS
open Go.CT.PS renaming Ez->bH,safe->cM
open Go.CT.Ph renaming out->cJ,refl->dC
open Go.CT.Prim renaming ev->bP
open Go.CT.RM renaming run->cZ
open Go.CT.RS renaming flat->dI
open Go.CT.St renaming after->dG
open Go.RowKit.Below renaming heap_alloc->cY
open Int renaming natCast_nonneg->bA,toNat_natCast->cB
open List renaming mem_append_right->aB,flatMap_cons->aD,mem_append_left->aE,mem_cons_of_mem->aF,mem_append->aI,mem_cons_self->aJ,getElem?_eq_some_iff->aK,nodup_append->aO,all_cons->aP,mem_iff_getElem?->aS,getElem?_map->aV,mem_singleton->bD,append_nil->bG,mem_of_getElem?->bI,mem_flatMap->bK,all_eq_true->bL,getElem?_eq_getElem->bN,length_append->bQ,length_eq_zero_iff->bR,singleton_append->bU,eq_nil_iff_forall_not_mem->bV,mem_cons->bW,flatMap_append->bY,length_take->cE,length_drop->cF,isEmpty_iff->cH,nodup_cons->cK,map_cons->cN,getElem?_take->cO,take_add_one->cT,flatMap_nil->cV,length_map->cW,mem_map->dD
open Nat renaming le_refl->aL,le_trans->aQ,lt_succ_self->aT,zero_add->bB,lt_of_lt_of_le->bE,add_right_comm->bF,mul_le_mul_right->bJ,add_assoc->bO,zero_le->bX,add_mul->cC,le_of_succ_le->cD,le_mul_of_pos_right->cG,eq_zero_or_pos->cP,add_zero->cQ,zero_mul->cR,testBit_or->dA,lt_irrefl->dB,lt_or_ge->dE,le_succ->dF
open Option renaming map_some->aH,map_eq_some_iff->aN,ite_none_right_eq_some->aU,isSome_iff_exists->bC,isNone_iff_eq_none->bM,bind_some->cI,getD_none->cU
open Option.some renaming injEq->aC
open Prod.mk renaming injEq->aZ
namespace Go.CT
open EM
def Mg (w:World)(r:Nat)(o:Obj):World:= {w with heap:=w.heap.setIfInBounds r o}
theorem Adg {w:World}{r:Nat}{o o':Obj}(h:w.heap[r]?=some o'):(Mg w r o).heap[r]?=some o:=by
 have a:r<w.heap.size:=(bZ.1 h).1
 simp[Mg,a]
theorem Wb (w:World)(r:Nat)(o:Obj):Hz (· =r) w (Mg w r o):=
 ⟨rfl,rfl,rfl,by simp[Mg],λb _ h=>by
  have h: ¬ b=r:=h
  simp[Mg,Ne.symm h]⟩
section
variable {P:Program}{N:Nat}{X:Nat->Prop}{R:Job->List IV->Option (List IV)}{ρ:List IV}{K:Nat->Prop}{S:View}{μ:Nat->Value}{a:Act}{w w':World}{es es':ES}{ls:List PLt}{sx:SX}
theorem Xx {k b:Nat}{o o':Ob}{e1:ES}{nn:Nat}{val:Value}(p:Ph P N X ρ K S μ a w es e1)(u:cur S e1.obs k=some o)(g:o.Gl=true)(z:blk (μ k)=some b)(q: ∀i∈He o',K i)
  (c:Hz (· =b) w w')
  (C:Ek K (Bs P X ρ (cur S e1.obs) μ w) (Bs P X ρ (B5 (cur S e1.obs) k (some o')) (D6 μ k (μ k)) w')->Agb (Bs P X ρ (B5 (cur S e1.obs) k (some o')) (D6 μ k (μ k)) w') k o')
  (J:Alq (Bs P X ρ (B5 (cur S e1.obs) k (some o')) (D6 μ k (μ k)) w') sx val) (L: ∀k∈Ct sx,K k):
  Out P N X ρ K S μ a w es {e1 with n:=nn,obs:=(k,some o')::e1.obs} sx (D6 μ k (μ k)) w' val:=by
 have F:=(p.C8.ko k o u).1
 have t:Hz (Wr (cur S e1.obs) μ) w w':=⟨c.os,c.tape,c.output,c.size,λj d M=>c.stays j d λe=>M (by have e:j=b:=e;subst e;exact⟨k,o,u,g,z⟩)⟩
 have A:Put P X ρ K (cur S e1.obs) (B5 (cur S e1.obs) k (some o')) μ w w' k o' (μ k):=
  {
   other:=λi x h r=>by simpa [B5,h]using r
   here:=by simp[B5]
   same:=λi _=>by unfold D6;split<;>simp_all
   step:=t
   rest:=λi x j h r B d=>by
    have y:cur S e1.obs i=some x:=by simpa [B5,h]using r
    have G:=p.C8.On y B d
    refine c.stays j G λe=>?_
    have e:j=b:=e
    subst e
    exact h (p.C8.sep i k x o j y u B g d z)
   new:=λj d=> .inl ⟨⟨k,o,u,g,d⟩,λi x h r B H=>h (p.C8.sep i k x o j (by simpa [B5,h]using r) u B g H d)⟩
   keys:=λk2 r=> .inl (q k2 r)}
 have Q: ∀i,K i\/i=k->Ax K es.m e1.m i:=by
  rintro i (h | rfl)
  ·exact .inl h
  ·exact .inl F
 refine⟨?_,?_,λk h=> .inl (L k h),?_,?_,A.same⟩
 ·show Good P N X ρ (Ax K es.m e1.m) S.tm (cur S ((k,some o')::e1.obs)) _ a _
  rw[Bz]
  exact A.C8 p.C8 (C A.later) Q
 ·show Alq (Bs P X ρ (cur S ((k,some o')::e1.obs)) _ _) _ _
  rw[Bz];exact J
 ·exact⟨t.os,t.tape,t.output,t.size,λb z I=>t.stays b z λh=>I (p.Es.wr h)⟩
 ·intro j d
  have d:Wr (cur S ((k,some o')::e1.obs)) _ j:=d
  rw[Bz]at d
  exact(A.own p.C8 j d).imp p.Es.wr id
theorem R0.text {c:Cx}{x:Arg}{t:TypeId}{v:Value}(h:R0 c x t v)(a:c.P.underlying t=some .string): ∃s,x.ev c.ρ=some (.str s)/\v= .string s:=by
 obtain⟨iv,b,d,_⟩:=h
 obtain⟨s,rfl,rfl⟩:=d.Is a
 exact⟨s,b,rfl⟩
theorem Av5 {t:TypeId}{x:Operand}(G:Good P N X ρ K S.tm (cur S es.obs) μ a w)(h:Ev S (Atv P t x) es sx es' ls)(c:LH R ρ ls)(g:holds ρ es.gs=some true)(hfresh: ∀k,es.m<=k->k<es'.m-> ¬ K k):
  ∃v w' μ',(Instr.range t (a.eval x)).run P w= .ok v w'/\Out P N X ρ K S μ a w es es' sx μ' w' v:=by
 unfold Atv at h
 rw[Ab]at h
 obtain⟨_,_,_,_,b,h,rfl⟩:=h
 rw[Ea]at b
 obtain⟨_,rfl,rfl⟩:=b
 rw[Ab]at h
 obtain⟨_,_,_,_,b,h,rfl⟩:=h
 rw[Af]at b
 obtain⟨i,rfl,rfl⟩:=b
 have e:=E4 i
 rw[Ab]at h
 obtain⟨y,e1,u,_,j,h,rfl⟩:=h
 have c:=c.right.right
 obtain⟨p,q⟩:=Hh G j c.left g
 obtain⟨s,o,r⟩:=q.text e
 simp only[Ab,C0,Bp,Ad]at h
 obtain⟨_,_,_,_,⟨rfl,rfl,rfl⟩,⟨_,_,_,_,⟨rfl,rfl⟩,⟨rfl,rfl,rfl⟩,rfl⟩,rfl⟩:=h
 rw[r]
 refine⟨.pointer (some ⟨w.heap.size,0,none⟩),w.alloc (.stringIter s 0),_,?_,Aex (nn:=e1.n) (hdr:= .pointer (some ⟨w.heap.size,0,none⟩)) p hfresh rfl (λk d=>by cases d) (λL=>?_) ?_ (λk d=>?_)⟩
 ·simp[Instr.range,underlying,e]
 ·refine⟨w.heap.size,0,s,Bl,?_,o,rfl⟩
  exact heap_alloc_new w _
 ·exact⟨w.heap.size,Bl,by rw[Bg]⟩
 ·simpa [Ct,Ay,Bf,Eg,one]using d
theorem Ay2 {it:Operand}{isS:Bool}{ty:TypeId}(G:Good P N X ρ K S.tm (cur S es.obs) μ a w)(h:Ev S (A34 P it isS) es sx es' ls)(g:LH R ρ ls)(H:holds ρ es.gs=some true):
  ∃v w' μ',(Instr.next (a.eval it) isS ty).run P w= .ok v w'/\Out P N X ρ K S μ a w es es' sx μ' w' v:=by
 unfold A34 at h
 rw[Ab]at h
 obtain⟨_,_,_,_,e,h,rfl⟩:=h
 rw[Ea]at e
 obtain⟨_,rfl,rfl⟩:=e
 rw[Ab]at h
 obtain⟨_,_,_,_,e,h,rfl⟩:=h
 rw[Af]at e
 obtain⟨I,rfl,rfl⟩:=e
 subst I
 rw[Ab]at h
 obtain⟨vv,e1,Z,_,J,h,rfl⟩:=h
 rw[Ab]at h
 obtain⟨p,e2,l2,_,M,h,rfl⟩:=h
 obtain⟨rfl,rfl,rfl,hp,Q⟩:=S4 G J M H
 have g:LH R ρ _:=g.right.right.right.right
 unfold Atb at h
 split at h
 ·rename_i k
  rw[Ab]at h
  obtain⟨o,_,_,l3,e,h,rfl⟩:=h
  rw[B6]at e
  obtain⟨F,rfl,rfl⟩:=e
  have g:=g.right
  split at h
  ·rename_i s q
   simp only[Ab,Bt,Bp,Ad]at h
   obtain⟨_,_,_,_,⟨rfl,rfl,rfl⟩,⟨_,_,_,_,⟨rfl,rfl,rfl⟩,⟨_,_,_,_,⟨rfl,rfl,rfl⟩,⟨_,_,_,_,⟨rfl,rfl⟩,⟨rfl,rfl,rfl⟩,rfl⟩,rfl⟩,rfl⟩,rfl⟩:=h
   obtain⟨b,n,bs,i,r,t,x⟩:=G.obj k _ F
   have i:μ k= .pointer (some ⟨b,0,none⟩):=i
   have r:w.heap[b]?=some (.stringIter bs n):=r
   have t:s.ev ρ=some (.str bs):=t
   have x:q.ev ρ=some (.int n):=x
   have two: ∀ {pr:Prim} {m:Nat},LH R ρ [⟨m,⟨es.gs,.Cb pr [s,q]⟩⟩]-> ∃y,pr.ev [.str bs,.int n]=some y/\cX ρ (.v m)=some y:=by
    intro pr m T
    obtain⟨vs,y,r1,r2,z⟩:=bT T H
    obtain⟨u,v,A,B,rfl⟩:=Afz r1
    rw[t]at A;rw[x]at B
    injection A with A;injection B with B;subst A;subst B
    exact⟨y,r2,z⟩
   obtain⟨y1,r1,C⟩:=two g.left
   obtain⟨y2,r2,t2⟩:=two g.right.left
   obtain⟨y3,z,t3⟩:=two g.right.right.left
   simp only[bP,bA,Zt,cB,aC]at r1 r2 z
   subst r1;subst r2;subst z
   have U:a.eval it= .pointer (some ⟨b,0,none⟩):=by
    obtain⟨Y,r1,r2⟩:=hp
    have c:μ k= .pointer (some ⟨Y,0,none⟩):=r1
    rw[i]at c;injection c with c;injection c with c;injection c with c
    subst c
    rw[r2,Bg]
   rw[U]
   by_cases d:n<bs.size
   ·simp only[d,Zt,Zd]at C t2 t3
    refine⟨.tuple #[.bool true,.int .i64 n,.int .i32 (Utf8.decode bs n).1],Mg w b (.stringIter bs (n+(Utf8.decode bs n).2)),D6 μ k (μ k),?_,Xx (e1:=es) (.refl G) F rfl (by rw[i];rfl) (λk j=>by cases j) (Wb w b _) (λL=>?_) ?_ (λk j=>by cases j)⟩
    ·simp[Instr.next,getObj,setObj,Sem.run,r,d,Mg,Result.andThen,goInt]
    ·refine⟨b,n+(Utf8.decode bs n).2,bs,Bl.trans i,Adg r,t,?_⟩
     show cX ρ _=_
     rw[t3];simp
    ·exact⟨true,n,(Utf8.decode bs n).1,C,x,t2,rfl⟩
   ·simp only[d,Zf,Ze]at C t2 t3
    refine⟨.tuple #[.bool false],w,D6 μ k (μ k),?_,Xx (e1:=es) (.refl G) F rfl (by rw[i];rfl) (λk j=>by cases j) (.refl _ _) (λL=>?_) ?_ (λk j=>by cases j)⟩
    ·simp[Instr.next,getObj,Sem.run,r,d,Result.andThen]
    ·refine⟨b,n,bs,Bl.trans i,r,t,?_⟩
     show cX ρ _=_
     rw[t3]
    ·exact⟨false,n,0,C,x,t2,rfl⟩
  ·simp[Ac]at h
 ·simp[Ac]at h
theorem Ajx {x:Operand}{i:Nat}{rt:TypeId}(G:Good P N X ρ K S.tm (cur S es.obs) μ a w)(h:Ev S (do
   match <-rd P x 0 with
   | .tup vs=>do pure (.one (<-ofOption vs[i]?))
   | .nx ok p r=>xNx P ok p r i rt
   | _=>fail:EM SX) es sx es' ls) (d:LH R ρ ls) (e:holds ρ es.gs=some true):
  ∃v,(Instr.extract (a.eval x) i).run P w= .ok v w/\Out P N X ρ K S μ a w es es' sx μ w v:=by
 rw[Ab]at h
 obtain⟨s,e1,M,_,F,h,rfl⟩:=h
 obtain⟨rfl,rfl,A,H⟩:=Axx G F e
 split at h
 ·rename_i vs
  simp only[Ab,Ar,Ad]at h
  obtain⟨vv,_,_,_,⟨c,rfl,rfl⟩,⟨rfl,rfl,rfl⟩,rfl⟩:=h
  obtain⟨us,g,I⟩:=A
  obtain⟨u,J,L⟩:=I.get i vv c
  refine⟨u,?_,cJ (.refl G) L (λk B=>H k ?_)⟩
  ·rw[g]
   have:us[i]?=some u:=by simpa using J
   simp[Instr.extract,this]
  ·simp only[Ct,bK]at B ⊢
   exact⟨vv,bI c,B⟩
 ·rename_i ok p r
  obtain⟨b,n,m,d1,d2,d3,g⟩:=A
  have d1:ok.ev ρ=some (.bool b):=d1
  have d2:p.ev ρ=some (.int n):=d2
  have d3:r.ev ρ=some (.int m):=d3
  have d:=d.right
  have Ak7: ∀ {es j:ES} {o:List PLt} {z:Arg},Ev S (Cb .Ak7 [ok]) es z j o->LH R ρ o->holds ρ es.gs=some true->b=true/\j= {es with n:=es.n+1} :=by
   intro es j o z C d e
   rw[Bt]at C
   obtain⟨rfl,rfl,rfl⟩:=C
   obtain⟨vs,y,r1,r2,Q⟩:=bT d e
   obtain⟨u,q,rfl⟩:=Asf r1
   rw[d1]at q;injection q with q;subst q
   simp only[bP]at r2
   split at r2
   ·exact⟨by assumption,rfl⟩
   ·cases r2
  unfold xNx at h
  split at h
  ·simp only[Ab,Af,Ad]at h
   obtain⟨_,_,_,_,⟨c,rfl,rfl⟩,⟨rfl,rfl,rfl⟩,rfl⟩:=h
   refine⟨.bool b,?_,cJ (.refl G) ⟨.bool b,d1,.bool (Cz c)⟩ (Np _ _)⟩
   rw[g];cases b<;>simp[Instr.extract]
  ·simp only[Ab,Af,Ad]at h
   obtain⟨_,_,_,_,⟨c,rfl,rfl⟩,⟨z,j,o,_,t,⟨rfl,rfl,rfl⟩,rfl⟩,rfl⟩:=h
   obtain⟨rfl,rfl⟩:=Ak7 t d.right.left e
   have c:Mt P rt=some .i64 :=by simpa using c
   refine⟨.int .i64 n,?_,cJ (.same G rfl rfl rfl) ⟨.int n,d2,.int (Dk c)⟩ (Np _ _)⟩
   rw[g];simp[Instr.extract]
  ·simp only[Ab,Af,Ad]at h
   obtain⟨_,_,_,_,⟨c,rfl,rfl⟩,⟨z,j,o,_,t,⟨rfl,rfl,rfl⟩,rfl⟩,rfl⟩:=h
   obtain⟨rfl,rfl⟩:=Ak7 t d.right.left e
   have c:Mt P rt=some .i32 :=by simpa using c
   refine⟨.int .i32 m,?_,cJ (.same G rfl rfl rfl) ⟨.int m,d3,.int (Dk c)⟩ (Np _ _)⟩
   rw[g];simp[Instr.extract]
  ·simp[Ac]at h
 ·simp[Ac]at h
end
end Go.CT
namespace Go.CT
open EM
section
variable {P:Program}{w:World}{O O':Nat->Prop}{kt vt:TypeId}
theorem N8 (c:Avj P kt=true){a b:IV}{u v:Value}(i:Rel P w O kt a u)(j:Rel P w O' kt b v):
  ∃d r,P.underlying kt=some d/\MapKept.IsKey d u/\a.Re b=some r/\Instr.sameNow d u v=some r/\(r=true->v=u):=by
 unfold Avj at c
 rw[aX]at c
 rcases c with c | c
 ·obtain⟨k,c⟩:=bC.1 c
  have g:=Dk c
  obtain⟨n,rfl,rfl⟩:=i.Ih g
  obtain⟨m,rfl,rfl⟩:=j.Ih g
  refine⟨_,n == m,g,rfl,rfl,by simp[Instr.sameNow],λh=>?_⟩
  grind
 ·have g:=E4 c
  obtain⟨n,rfl,rfl⟩:=i.Is g
  obtain⟨m,rfl,rfl⟩:=j.Is g
  have e:(n.toList == m.toList)=(n == m):=by
   rw[Bool.eq_iff_iff,beq_iff_eq,MapKept.bytes_beq,ByteArray.toList_eq,ByteArray.toList_eq]
   constructor
   ·intro h;cases n;simp_all
   grind
  refine⟨_,n == m,g,trivial,by simp only[IV.Re,e],by simp[Instr.sameNow],λh=>?_⟩
  rw[MapKept.bytes_beq]at h;rw[h]
theorem Ae4 {d:TypeDesc}{key:IV}{kv:Value}(y:Avj P kt=true)(hd:P.underlying kt=some d)(z:Rel P w O' kt key kv)(g:Rel P w O kt key kv): ∀ (xs:List IV) (es:List MapEntry) (i:Nat),Kq P w O kt vt xs es->
  (Wj key xs=some none/\Instr.findNow d kv es i=some none/\ ∀val,Avg key val xs=some (xs++ [.agg [key,val]]))\/
  (∃j e b,Wj key xs=some (some b)/\Instr.findNow d kv es i=some (some (i+j,e.val))/\es[j]?=some e/\e.key=kv/\Rel P w O vt b e.val/\
   ∀val valv,Rel P w O vt val valv-> ∃ys,Avg key val xs=some ys/\Kq P w O kt vt ys (es.modify j λe=> {e with key:=kv,val:=valv}))
 | [],[],i,_=> .inl ⟨rfl,rfl,λ_=>rfl⟩
 | x::xs,e::es,i,h=>by
  obtain⟨⟨a,b,rfl,A,B⟩,C⟩:=h
  obtain⟨M,r,m,N,c,o,G⟩:=N8 y z A
  rw[hd]at m;injection m with m;subst m
  cases r with
  | true=>
   refine .inr ⟨0,e,b,by simp[Wj,c],by simp[Instr.findNow,o],rfl,G rfl,B,λval valv q=>⟨.agg [key,val]::xs,by simp[Avg,c],?_⟩⟩
   exact⟨⟨key,val,rfl,g,q⟩,C⟩
  | false=>
   rcases Ae4 y hd z g xs es (i+1) C with⟨t,u,F⟩ | ⟨j,H,I,t,u,F,J,K,L⟩
   ·exact .inl ⟨by simp[Wj,c,t],by simp[Instr.findNow,o,u],λval=>by simp[Avg,c,F]⟩
   ·refine .inr ⟨j+1,H,I,by simp[Wj,c,t],by simp[Instr.findNow,o,u];omega,by grind,J,K,λval valv q=>?_⟩
    obtain⟨ys,r1,r2⟩:=L val valv q
    exact⟨.agg [a,b]::ys,by simp[Avg,c,r1],⟨a,b,rfl,A,B⟩,r2⟩
 | [],_::_,_,h=>h.elim
 | _::_,[],_,h=>h.elim
theorem Kq.app {x:IV}{e:MapEntry}(c: ∃a b,x= .agg [a,b]/\Rel P w O kt a e.key/\Rel P w O vt b e.val): ∀ {xs:List IV} {es:List MapEntry},Kq P w O kt vt xs es->Kq P w O kt vt (xs++ [x]) (es++ [e])
 | [],[],_=>⟨c,trivial⟩
 | _::_,_::_,h=>⟨h.1,h.2.app c⟩
 | [],_::_,h=>h.elim
 | _::_,[],h=>h.elim
theorem Rel.key (b:Avj P kt=true){a:IV}{u:Value}(h:Rel P w O kt a u):Rel P w O' kt a u:=by
 unfold Avj at b
 rw[aX]at b
 rcases b with b | b
 ·obtain⟨k,b⟩:=bC.1 b
  obtain⟨n,rfl,rfl⟩:=h.Ih (Dk b)
  exact .int (Dk b)
 ·obtain⟨n,rfl,rfl⟩:=h.Is (E4 b)
  exact .str (E4 b)
end
theorem R8 {P:Program}{t:TypeId}{kv:TypeId × TypeId}(h:At8 P t=some kv):P.underlying t=some (.map kv.1 kv.2):=by
 unfold At8 at h
 grind
section
variable {P:Program}{N:Nat}{X:Nat->Prop}{R:Job->List IV->Option (List IV)}{ρ:List IV}{K:Nat->Prop}{S:View}{μ:Nat->Value}{a:Act}{w w':World}{es es':ES}{ls:List PLt}{sx:SX}
theorem Amf {t:TypeId}{r:Option Operand}(G:Good P N X ρ K S.tm (cur S es.obs) μ a w)(h:Ev S (Afr P t r) es sx es' ls)(hfresh: ∀k,es.m<=k->k<es'.m-> ¬ K k):
  r=none/\ ∃v w' μ',(Instr.makeMap t none).run P w= .ok v w'/\Out P N X ρ K S μ a w es es' sx μ' w' v:=by
 unfold Afr at h
 simp only[Ab,Ea,Af,Ar,C0,Bp,Ad]at h
 obtain⟨_,_,_,_,⟨_,rfl,rfl⟩,⟨_,_,_,_,⟨c,rfl,rfl⟩,⟨kv,_,_,_,⟨d,rfl,rfl⟩,⟨_,_,_,_,⟨e,rfl,rfl⟩,⟨_,_,_,_,⟨rfl,rfl,rfl⟩,⟨_,_,_,_,⟨rfl,rfl⟩,⟨rfl,rfl,rfl⟩,rfl⟩,rfl⟩,rfl⟩,rfl⟩,rfl⟩,rfl⟩:=h
 refine⟨by simpa using c,.map (some w.heap.size),w.alloc (.map #[] 0),_,?_,Aex (nn:=es.n) (hdr:= .map (some w.heap.size)) (.refl G) hfresh rfl (λk b=>by cases b) (λL=>?_) ?_ (λk b=>?_)⟩
 ·simp[Instr.makeMap]
 ·exact⟨w.heap.size,0, #[],[],Bl,heap_alloc_new w _,R8 d,e,rfl,trivial⟩
 ·exact⟨Bl.symm,w.heap.size,rfl⟩
 ·simpa [Ct,Ay,Bf,one]using b
theorem Aom {t:TypeId}{x:Operand}{es2:ES}{vv:VV}{k:Nat}{c d:List PLt}(G:Good P N X ρ K S.tm (cur S es.obs) μ a w)(e:Ev S (rd1 P x t) es vv es2 c)(b:Ev S (Ayh vv) es2 k es' d)(g:holds ρ es.gs=some true):
  es=es2/\es=es'/\c= []/\d= []/\a.eval x=μ k/\K k:=by
 obtain⟨rfl,rfl,h,i⟩:=G9 G e g
 unfold Ayh at b
 split at b
 ·rename_i j m
  rw[Ad]at b
  obtain⟨rfl,rfl,rfl⟩:=b
  exact⟨rfl,rfl,rfl,rfl,h.1,i k (by simp[Ay,Bf])⟩
 ·simp[Ac]at b
theorem R0.key {c:Cx}{x:Arg}{t:TypeId}{v:Value}(h:R0 c x t v)(a:Avj c.P t=true)(O:Nat->Prop): ∃iv,x.ev c.ρ=some iv/\Rel c.P c.w O t iv v:=by
 obtain⟨iv,b,d,_⟩:=h
 exact⟨iv,b,d.key a⟩
theorem Aq9 {t:TypeId}{x i:Operand}{ok:Bool}(G:Good P N X ρ K S.tm (cur S es.obs) μ a w)(h:Ev S (Ak3 P t x i ok) es sx es' ls)(A:LH R ρ ls)(Q:holds ρ es.gs=some true):
  ∃v,(Instr.lookup t (a.eval x) (a.eval i) ok).run P w= .ok v w/\Out P N X ρ K S μ a w es es' sx μ w v:=by
 unfold Ak3 at h
 rw[Ab]at h
 obtain⟨kv,_,_,_,d,h,rfl⟩:=h
 rw[Ar]at d
 obtain⟨Y,rfl,rfl⟩:=d
 rw[Ab]at h
 obtain⟨_,_,_,_,d,h,rfl⟩:=h
 rw[Af]at d
 obtain⟨H,rfl,rfl⟩:=d
 rw[Ab]at h
 obtain⟨z,_,_,_,d,h,rfl⟩:=h
 rw[Ar]at d
 obtain⟨g2,rfl,rfl⟩:=d
 rw[Ab]at h
 obtain⟨vv,e1,l1,_,h1,h,rfl⟩:=h
 rw[Ab]at h
 obtain⟨k,Z,l2,_,h2,h,rfl⟩:=h
 obtain⟨rfl,rfl,rfl,rfl,hv,hK⟩:=Aom G h1 h2 Q
 rw[Ab]at h
 obtain⟨iv,g,l3,_,h3,h,rfl⟩:=h
 have A:=A.right.right.right.right.right
 obtain⟨p,q⟩:=Hh G h3 A.left Q
 simp only[aA]at H
 obtain⟨key,q1,I⟩:=q.key H.1 (Bs P X ρ (cur S g.obs) μ w).O
 rw[Ab]at h
 obtain⟨o,_,_,l4,d,h,rfl⟩:=h
 rw[B6]at d
 obtain⟨ho,rfl,rfl⟩:=d
 have A:=A.right.right
 split at h
 ·rename_i t' kt vt c
  rw[Ab]at h
  obtain⟨_,_,_,_,d,h,rfl⟩:=h
  rw[Af]at d
  obtain⟨J,rfl,rfl⟩:=d
  simp only[aA,beq_iff_eq]at J
  obtain⟨⟨e1,Z⟩,J⟩:=J
  subst e1;subst Z
  have A:=A.right
  rw[Ab]at h
  obtain⟨y,_,_,_,d,h,rfl⟩:=h
  rw[Bt]at d
  obtain⟨rfl,rfl,rfl⟩:=d
  rw[Ab]at h
  obtain⟨y,_,_,_,d,h,rfl⟩:=h
  rw[Bt]at d
  obtain⟨rfl,rfl,rfl⟩:=d
  obtain⟨r,cl,ents,ivs,L,M,o3,o4,o5,o6⟩:=p.C8.obj k _ ho
  have L:μ k= .map (some r):=L
  have M:w.heap[r]?=some (.map ents cl):=M
  have o5:c.ev ρ=some (.list ivs):=o5
  have q1:iv.ev ρ=some key:=q1
  have T:holds ρ g.gs=some true:=by rw[p.gs];exact Q
  have two: ∀ {pr:Prim} {m:Nat},LH R ρ [⟨m,⟨g.gs,.Cb pr [c,iv]⟩⟩]-> ∃y,pr.ev [.list ivs,key]=some y/\cX ρ (.v m)=some y:=by
   intro pr m hh
   obtain⟨vs,y,r1,r2,r3⟩:=bT hh T
   obtain⟨u,v,s1,s2,rfl⟩:=Afz r1
   grind
  obtain⟨U,r1,t1⟩:=two A.left
  obtain⟨y2,r2,t2⟩:=two A.right.left
  simp only[bP]at r1 r2
  obtain⟨zi,zv,z1,z2,z3⟩:=Ug (w:=w) (O:=(Bs P X ρ (cur S g.obs) μ w).O) g2
  obtain⟨dd,_,hd,B,_⟩:=N8 H.1 I I
  have hd:P.underlying kv.1=some dd:=hd
  have fin: ∀ {v0:Value} {okb:Bool},(Instr.lookup t (a.eval x) (a.eval i) ok).run P w= .ok (if ok then .tuple #[v0,.bool okb]else v0) w->Rel P w (Bs P X ρ (cur S g.obs) μ w).O kv.2 U v0->y2= .bool okb->
    ∃v,(Instr.lookup t (a.eval x) (a.eval i) ok).run P w= .ok v w/\Out P N X ρ K S μ a w es es' sx μ w v:=by
   intro v0 okb F hr hy
   subst hy
   refine⟨_,F,?_⟩
   rw[Iz]at h
   rcases h with⟨C,h⟩ | ⟨C,h⟩
   ·rw[Ad]at h
    obtain⟨rfl,rfl,rfl⟩:=h
    rw[if_pos C]
    refine cJ (es':= {g with n:=g.n+1+1}) ⟨p.C8,p.Es,p.m,p.gs⟩ ⟨_,rfl,⟨U,t1,hr⟩,⟨.bool okb,t2,.bool (Cz J)⟩,trivial⟩ (λk hk=>by simp[Ct,Ay,Bf]at hk)
   ·rw[Ad]at h
    obtain⟨rfl,rfl,rfl⟩:=h
    rw[if_neg C]
    exact cJ (es':= {g with n:=g.n+1+1}) ⟨p.C8,p.Es,p.m,p.gs⟩ ⟨U,t1,hr⟩ (Np _ _)
  rcases Ae4 (O:=(Bs P X ρ (cur S g.obs) μ w).O) H.1 hd I I ivs ents.toList 0 o6 with⟨m1,m2,m3⟩ | ⟨j,e,b,m1,m2,m3,m4,m5,m6⟩
  ·rw[m1]at r1 r2
   simp only[aH,aC,cU,Option.isSome_none]at r1 r2
   subst r1;subst r2
   refine fin (v0:=zv) (okb:=false) ?_ z3 rfl
   rw[hv,L]
   simp[Instr.lookup,MapKept.run_getObj_map M,underlying,R8 Y,MapKept.run_checkKey hd B,MapKept.run_findKey hd m2,Result.andThen,zeroValue,typeInfo,z1,z2]
  ·rw[m1]at r1 r2
   simp only[aH,aC,Option.getD_some,Option.isSome_some]at r1 r2
   subst r1;subst r2
   refine fin (v0:=e.val) (okb:=true) ?_ m5 rfl
   rw[hv,L]
   simp[Instr.lookup,MapKept.run_getObj_map M,underlying,R8 Y,MapKept.run_checkKey hd B,MapKept.run_findKey hd m2,Result.andThen]
 ·simp[Ac]at h
theorem Aea {t:TypeId}{m i x:Operand}(G:Good P N X ρ K S.tm (cur S es.obs) μ a w)(h:Ev S (U7 P t m i x) es sx es' ls)(g:LH R ρ ls)(Y:holds ρ es.gs=some true):
  ∃w' μ',(Instr.mapUpdate t (a.eval m) (a.eval i) (a.eval x)).run P w= .ok () w'/\Out P N X ρ K S μ a w es es' sx μ' w' undef:=by
 unfold U7 at h
 rw[Ab]at h
 obtain⟨_,_,_,_,A,h,rfl⟩:=h
 rw[Ea]at A
 obtain⟨_,rfl,rfl⟩:=A
 rw[Ab]at h
 obtain⟨kv,_,_,_,A,h,rfl⟩:=h
 rw[Ar]at A
 obtain⟨g0,rfl,rfl⟩:=A
 rw[Ab]at h
 obtain⟨_,_,_,_,A,h,rfl⟩:=h
 rw[Af]at A
 obtain⟨J,rfl,rfl⟩:=A
 rw[Ab]at h
 obtain⟨vv,e1,l1,_,h1,h,rfl⟩:=h
 rw[Ab]at h
 obtain⟨k,e2,l2,_,h2,h,rfl⟩:=h
 obtain⟨rfl,rfl,rfl,rfl,hv,hK⟩:=Aom G h1 h2 Y
 rw[Ab]at h
 obtain⟨iv,e3,l3,_,h3,h,rfl⟩:=h
 have g:=g.right.right.right.right.right
 obtain⟨p,q⟩:=Hh G h3 g.left Y
 obtain⟨key,Z,M⟩:=q.key J (λ_=>False)
 have Z:iv.ev ρ=some key:=Z
 have g:=g.right
 have C:holds ρ e3.gs=some true:=by rw[p.gs];exact Y
 rw[Ab]at h
 obtain⟨xv,e4,l4,_,h4,h,rfl⟩:=h
 obtain⟨rfl,rfl,h5,h6⟩:=G9 p.C8 h4 C
 have g:=g.right
 rw[Ab]at h
 obtain⟨y,e5,l5,_,h7,h,rfl⟩:=h
 obtain⟨p2,_,d⟩:=E3 p.C8 h7 g.left C h6 h5
 obtain⟨vx,d1,d2⟩:=d rfl
 have d1:y.ev ρ=some vx:=d1
 have g:=g.right
 have pp:=p.trans p2
 have hg'':holds ρ e5.gs=some true:=by rw[p2.gs];exact C
 rw[Ab]at h
 obtain⟨o,_,_,l6,A,h,rfl⟩:=h
 rw[B6]at A
 obtain⟨ho,rfl,rfl⟩:=A
 split at h
 ·rename_i t' kt vt c
  simp only[Ab,Af,Bt,Bp,Ad]at h
  obtain⟨_,_,_,_,⟨g3,rfl,rfl⟩,⟨_,_,_,_,⟨rfl,rfl,rfl⟩,⟨_,_,_,_,⟨rfl,rfl⟩,⟨rfl,rfl,rfl⟩,rfl⟩,rfl⟩,rfl⟩:=h
  simp only[aA,beq_iff_eq]at g3
  obtain⟨e1,e2⟩:=g3
  subst e1;subst e2
  obtain⟨r,cl,ents,ivs,H,F,o3,o4,o5,o6⟩:=pp.C8.obj k _ ho
  have H:μ k= .map (some r):=H
  have F:w.heap[r]?=some (.map ents cl):=F
  have o5:c.ev ρ=some (.list ivs):=o5
  obtain⟨vs,z,r1,r2,r3⟩:=bT g.right.right.left hg''
  obtain⟨u,v,s,Q,T,U,rfl⟩:=A1r r1
  rw[o5]at Q;rw[Z]at T;rw[d1]at U
  injection Q with Q;injection T with T;injection U with U;subst Q;subst T;subst U
  simp only[bP]at r2
  obtain⟨dd,_,hd,B,_⟩:=N8 J M M
  have hd:P.underlying kv.1=some dd:=hd
  have q3:=M.key (O':=(Bs P X ρ (cur S e5.obs) μ w).O) J
  have fin: ∀ {ys:List IV} {es2:Array MapEntry} {cl2:Nat},(Instr.mapUpdate t (a.eval m) (a.eval i) (a.eval x)).run P w= .ok () (Mg w r (.map es2 cl2))->Kq P w (Bs P X ρ (cur S e5.obs) μ w).O kv.1 kv.2 ys es2.toList->z= .list ys->
    ∃w' μ',(Instr.mapUpdate t (a.eval m) (a.eval i) (a.eval x)).run P w= .ok () w'/\Out P N X ρ K S μ a w es {e5 with n:=e5.n+1,obs:=(k,some (.mp t' kv.1 kv.2 (.v e5.n)))::e5.obs} (one (.leaf .junk)) μ' w' undef:=by
   intro ys es2 cl2 I hM hz
   subst hz
   refine⟨_,_,I,Xx (e1:=e5) pp ho rfl (by rw[H];rfl) (λk hk=>by cases hk) (Wb w r _) (λL=>?_) trivial (λk hk=>by simp[Ct,Ay,Bf,one]at hk)⟩
   exact⟨r,cl2,es2,ys,Bl.trans H,Adg F,o3,o4,r3,hM.imp λ_ _ _ h'=>L.rel h'⟩
  rcases Ae4 (O:=(Bs P X ρ (cur S e5.obs) μ w).O) (kt:=kv.1) J hd M q3 ivs ents.toList 0 o6 with⟨m1,m2,m3⟩ | ⟨j,e,b,m1,m2,m3,m4,m5,m6⟩
  ·rw[m3]at r2
   simp only[aH,aC]at r2
   refine fin (es2:=ents.push {key:=a.eval i,val:=a.eval x,born:=cl}) (cl2:=cl+1) ?_ ?_ r2.symm
   ·rw[hv,H]
    simp[Instr.mapUpdate,MapKept.run_getObj_map F,underlying,R8 g0,MapKept.run_checkKey hd B,MapKept.run_findKey hd m2,Result.andThen,MapKept.run_setObj_map _ F,Mg]
   ·rw[Array.toList_push]
    exact Kq.app ⟨key,vx,rfl,q3,d2⟩ o6
  ·obtain⟨ys,y1,y2⟩:=m6 vx (a.eval x) d2
   rw[y1]at r2
   simp only[aH,aC]at r2
   refine fin (es2:=ents.modify j λe=> {e with key:=a.eval i,val:=a.eval x}) (cl2:=cl) ?_ ?_ r2.symm
   ·have hj:ents[j]?=some e:=by grind
    rw[hv,H]
    simp[Instr.mapUpdate,MapKept.run_getObj_map F,underlying,R8 g0,MapKept.run_checkKey hd B,MapKept.run_findKey hd m2,Result.andThen,MapKept.run_setObj_map _ F,Mg,hj,m4,MapKept.run_keyThatStays B]
   ·rw[Array.toList_modify];exact y2
 ·simp[Ac]at h
theorem Ara {t st:TypeId}(G:Good P N X ρ K S.tm (cur S es.obs) μ a w)(h:Ev S (Aly P t st) es sx es' ls)(hfresh: ∀k,es.m<=k->k<es'.m-> ¬ K k):
  ∃v w' μ',(Instr.alloc t true (.tuple #[])).run P w= .ok v w'/\Out P N X ρ K S μ a w es es' sx μ' w' v:=by
 unfold Aly at h
 simp only[Ab,Ea,Af,C0,Bp,Ad]at h
 obtain⟨_,_,_,_,⟨_,rfl,rfl⟩,⟨_,_,_,_,⟨b,rfl,rfl⟩,⟨_,_,_,_,⟨rfl,rfl,rfl⟩,⟨_,_,_,_,⟨rfl,rfl⟩,⟨rfl,rfl,rfl⟩,rfl⟩,rfl⟩,rfl⟩,rfl⟩:=h
 simp only[aA,beq_iff_eq]at b
 obtain⟨⟨b,o⟩,q⟩:=b
 have c: ∃i,P.info? t=some i/\i.zero=some (.agg #[.pointer none,.slice none 0 0]):=by
  unfold Atu at b
  split at b
  ·rename_i i d
   split at b
   ·rename_i cs e
    split at b
    ·rename_i r
     refine⟨i,d,?_⟩
     rw[e]
     have:cs= #[.pointer none,.slice none 0 0]:=by
      grind
     rw[this]
    ·cases b
   ·cases b
  ·cases b
 obtain⟨i,d,c⟩:=c
 refine⟨.pointer (some ⟨w.heap.size,0,none⟩),w.alloc (.cells #[.pointer none,.slice none 0 0] t),_,?_,Aex (nn:=es.n) (hdr:= .pointer (some ⟨w.heap.size,0,none⟩)) (.refl G) hfresh rfl (λk g=>?_) (λL=>?_) ?_ (λk g=>?_)⟩
 ·simp[Instr.alloc,zeroValue,typeInfo,d,c,newVar,newRow,Value.cells]
 ·simp only[He,Ay,aD,Bf,cV,bG,bD]at g
  omega
 ·refine⟨w.heap.size,.agg #[.pointer none,.slice none 0 0],Bl,heap_alloc_new w _,?_,?_,?_,?_⟩
  ·show 2=Ag P t
   omega
  ·show if Ak P t=true then _ else _
   grind
  ·intro u j
   simp[Value.cells]at j
   rcases j with rfl | rfl<;>rfl
  ·exact⟨_,rfl,⟨rfl,.inl rfl⟩,⟨rfl,rfl⟩,trivial⟩
 ·exact⟨w.heap.size,Bl,by rw[Bg]⟩
 ·simpa [Ct,Ay,Bf,Eg,one]using g
end
end Go.CT
namespace Go.CT
open EM
section
variable {P:Program}{N:Nat}{X:Nat->Prop}{R:Job->List IV->Option (List IV)}{ρ:List IV}{K:Nat->Prop}{S:View}{μ:Nat->Value}{a:Act}{w:World}{es es':ES}{ls:List PLt}{sx:SX}
theorem Akv (s:ByteArray):(Cs s).length =s.size:=by simp[Cs]
theorem Awn {O:Nat->Prop}{e:TypeId}(g:P.underlying e=some (.int .u8))(h:Ag P e=1)(s:ByteArray):Hv P w O e (Cs s) (Lib.strCells s):=by
 unfold Cs Lib.strCells
 refine Hv.M9 (by simp) λj x v c d=>?_
 rw[aV,aN]at c d
 obtain⟨b,i,rfl⟩:=c
 obtain⟨m,a,rfl⟩:=d
 rw[i]at a;injection a with a;subst a
 exact⟨.int g,by rw[h];rfl⟩
theorem Ady (s:ByteArray):Bj (Lib.strCells s)=Lib.strCells s:=by
 unfold Lib.strCells Bj
 induction s.data.toList with
 | nil=>rfl
 | cons b l a=>simp only[cN,aD,a];rfl
theorem Ak1 (t u ty e:TypeId)(i:TypeInfo)(G:P.underlying t=some (.slice e))(H:P.underlying u=some .string)(I:P.info? e=some i)(K:i.zero=some (.int .u8 0))(a:i.size=1)(m:i.bytes=1)
  (v:Value) (n:Nat) (xs:List Value) (x:w.ownsRow 0 e 1 v n xs) (s:ByteArray) (o:n+s.size<=140737488355328):
  ∃h w',(Builtin.append_ #[t,u] ty #[v,.string s]).run P w= .ok h w'/\w'.ownsRow 0 e 1 h (n+s.size) (xs++Lib.strCells s)/\w.grownBy w' v.ownBlock/\(h.ownBlock=v.ownBlock\/ ∀b,h.ownBlock=some b->w.heap.size<=b):=by
 have N:n+s.size<=maxLen:=by
  have:maxLen=9223372036854775807:=by decide
  omega
 obtain⟨J,q⟩:=x
 rcases q with⟨rfl,Q⟩ | ⟨g,cap,cur,rfl,y,L,z,A,B,c⟩
 ·obtain⟨h,w',C,F,M,R⟩:=Lib.run_append_own_string (P:=P) w w.heap.size t u ty e i G H I K a m _ n xs ⟨J,.inl ⟨rfl,Q⟩⟩ s N o (aL _)
  refine⟨h,w',C,⟨F.1,F.2.imp id fun⟨g,cap,cur,S,a2,a3⟩=>⟨g,cap,cur,S,bX _,a3⟩⟩,M,.inr λb o=>?_⟩
  rcases F.2 with⟨rfl,_⟩ | ⟨g,cap,cur,rfl,a2,_⟩
  ·cases o
  ·simp only[Value.ownBlock,aC]at o
   omega
 ·obtain⟨h,w',C,F,M,R⟩:=Lib.run_append_own_string (P:=P) w 0 t u ty e i G H I K a m _ n xs ⟨J,.inr ⟨g,cap,cur,rfl,y,L,z,A,B,c⟩⟩ s N o (bX _)
  refine⟨h,w',C,F,M,?_⟩
  by_cases r:n+s.size<=cap
  ·have d:=Lib.run_append_room_string (P:=P) w t u ty e i G H I a g n cap cur L s r (by omega)
   rw[C]at d
   injection d with d
   rw[d];exact .inl rfl
  ·have holds: ∀j u,xs[j]?=some u->w.cell? ((⟨g,0,none⟩:Addr).add j)=some u:=World.ownsRow.cells (w:=w) (base:=0) (e:=e) (size:=1) (n:=n) (v:= .slice (some ⟨g,0,none⟩) n cap) ⟨J,.inr ⟨g,cap,cur,rfl,y,L,z,A,B,c⟩⟩ (g:=g) rfl
   have T:maxLen=9223372036854775807:=by decide
   have d:=Lib.run_append_grow_string (P:=P) w t u ty e i (.int .u8 0) G H I K ⟨g,0,none⟩ n cap xs (by rw[a];exact J) holds s (by omega) (by omega) (by rw[m];exact growslice_fits (by omega) (by omega))
   rw[C]at d
   injection d with d
   rw[d]
   right
   intro b o
   simp only[Value.ownBlock,aC]at o
   omega
theorem Amu {st xt rt:TypeId}{s x:Operand}(G:Good P N X ρ K S.tm (cur S es.obs) μ a w)(h:Ev S (Ae5 P st xt s x rt) es sx es' ls)(hl:LH R ρ ls)(hg:holds ρ es.gs=some true)(hfresh: ∀k,es.m<=k->k<es'.m-> ¬ K k):
  ∃v w' μ',(Builtin.append_ #[st,xt] rt #[a.eval s,a.eval x]).run P w= .ok v w'/\Out P N X ρ K S μ a w es es' sx μ' w' v:=by
 unfold Ae5 at h
 rw[Ab]at h
 obtain⟨_,_,_,_,J,h,rfl⟩:=h
 rw[Ea]at J
 obtain⟨_,rfl,rfl⟩:=J
 rw[Ab]at h
 obtain⟨e,_,_,_,J,h,rfl⟩:=h
 rw[Ar]at J
 obtain⟨he,rfl,rfl⟩:=J
 rw[Ab]at h
 obtain⟨_,_,_,_,J,h,rfl⟩:=h
 rw[Af]at J
 obtain⟨g0,rfl,rfl⟩:=J
 simp only[aA,beq_iff_eq]at g0
 obtain⟨⟨⟨⟨gx,gk⟩,gs1⟩,gb1⟩,gz,gy⟩:=g0
 have g1:0<Ag P e:=by omega
 rw[Ab]at h
 obtain⟨sv,e1,l1,_,L,h,rfl⟩:=h
 obtain⟨rfl,rfl,sv3,sv4⟩:=G9 G L hg
 have hl:=hl.right.right.right.right
 rw[Ab]at h
 obtain⟨y,q,l2,_,I,h,rfl⟩:=h
 obtain⟨p,hB⟩:=Hh G I hl.left hg
 have aa:holds ρ q.gs=some true:=by rw[p.gs];exact hg
 rw[Ab]at h
 obtain⟨⟨old,c⟩,e3,l3,_,M,h,rfl⟩:=h
 obtain⟨⟨Y,rfl⟩,ivs,cs,q1,q2,q3,q4,q5⟩:=Rl p.C8 M hl.right.left aa (p.later.Ash sv4 sv3) g1
 simp only[Ab,Bt,C0,Bp,Ad]at h
 obtain⟨_,_,_,_,⟨rfl,rfl,rfl⟩,⟨_,d,l4,_,H,⟨_,_,_,_,⟨rfl,rfl,rfl⟩,⟨_,_,_,_,⟨rfl,rfl⟩,⟨rfl,rfl,rfl⟩,rfl⟩,rfl⟩,rfl⟩,rfl⟩:=h
 obtain⟨vs,iv,r1,r2,r3⟩:=bT hl.right.right.left aa
 obtain⟨u,v,s1,s2,rfl⟩:=Afz r1
 rw[q1]at s1;injection s1 with s1;subst s1
 have ht:=Bo he
 have ag:=Dk gk
 obtain⟨str,b1,hx⟩:=hB.text (E4 gx)
 have ah:y.ev ρ=some (.str str):=b1
 rw[ah]at s2;injection s2 with s2;subst s2
 simp only[bP]at r2
 split at r2
 ·rename_i hbytes
  injection r2 with r2;subst r2
  have aq:Bc=140737488355328:=rfl
  obtain⟨i,z,z1,z2,z3,z4,z5⟩:=Pk gz
  have ai:z= .int .u8 0:=by
   unfold zeroByte at gy
   rw[z1]at gy
   simp only[z2]at gy
   split at gy
   ·rename_i h';injection h' with h'
   ·cases gy
  generalize ab:Cs str=ys at *
  generalize Q:Lib.strCells str=us at *
  have ac:Hv P w (Bs P X ρ (cur S q.obs) μ w).O e ys us:=by rw[<-ab,<-Q];exact Awn ag gs1 str
  have aj:Bj us=us:=by rw[<-Q];exact Ady str
  have ar:=ac.len
  have ak:ys.length=str.size:=by rw[<-ab];exact Akv str
  have run: ∃B w',(Builtin.append_ #[st,xt] rt #[a.eval s,a.eval x]).run P w= .ok B w'/\w'.ownsRow 0 e (Ag P e) B (ivs.length+ys.length) (cs++Bj us)/\w.grownBy w' (a.eval s).ownBlock /\
    (B.ownBlock=(a.eval s).ownBlock \/ ∀b,B.ownBlock=some b->w.heap.size<=b):=by
   rw[hx,aj,<-Q,ak,gs1]
   have al:w.ownsRow 0 e 1 (a.eval s) ivs.length cs:=by rw[<-gs1];exact q2
   exact Ak1 st xt rt e i ht (E4 gx) z1 (by rw[z2,ai]) (by omega) (by omega) _ _ _ al str (by omega)
  obtain⟨B,w',t1,t2,t3,t4⟩:=run
  -- what has become of the state
  obtain⟨A',n',cap',ad⟩: ∃A n c,B= .slice A n c:=by
   rcases t2.2 with⟨h,_⟩ | ⟨g,cap,cu,h,_⟩
   ·exact⟨_,_,_,h⟩
   ·exact⟨_,_,_,h⟩
  have T:blk B=B.ownBlock:=by rw[ad,S9]
  -- the old row's block is ours
  have hold: ∀b,(a.eval s).ownBlock =some b-> ∃k t Z,old=some k/\cur S q.obs k=some (.arr e t Z)/\blk (μ k)=some b:=by
   intro b j
   cases old with
   | none=>rw[q4 rfl]at j;simp[Value.ownBlock]at j
   | some k=>
    obtain⟨⟨t,Z,L⟩,I⟩:=q5 k rfl
    exact⟨k,t,Z,rfl,L,by rw[<-I];exact j⟩
  obtain⟨ae,af,ap⟩:cur S d.obs=(match old with | some k=>B5 (cur S q.obs) k none | none=>cur S q.obs)/\d.m=q.m/\d.gs=q.gs:=by
   unfold Ry at H
   cases old with
   | none=>rw[Ad]at H;obtain⟨_,rfl,_⟩:=H;exact⟨rfl,rfl,rfl⟩
   | some k=>
    rw[Bp]at H
    obtain⟨rfl,_⟩:=H
    exact⟨by rw[show({n:=q.n,m:=q.m,gs:=q.gs,obs:=(k,none)::q.obs} :ES).obs =(k,none)::q.obs from rfl]<;>exact Bz ..,rfl,rfl⟩
  have hm: ¬ K d.m:=hfresh d.m (by rw[af,p.m];exact aL _) (aT _)
  have F: ∀k o,cur S d.obs k=some o->cur S q.obs k=some o/\old≠some k:=by
   intro k o C
   rw[ae]at C
   cases old with
   | none=>exact⟨C,by simp⟩
   | some k0=>
    simp only[B5]at C
    split at C
    ·cases C
    ·rename_i U
     exact⟨C,by simpa using λh=>U h.symm⟩
  have hP:Put P X ρ K (cur S q.obs) (B5 (cur S d.obs) d.m (some (.arr e st (.v Y)))) μ w w' d.m (.arr e st (.v Y)) B:=
   {
    other:=λr o' h C=>(F r o' (by simpa [B5,h]using C)).1
    here:=by simp[B5]
    same:=λr h=>Dx (λe=>hm (e ▸ h))
    step:=⟨t3.os,t3.tape,t3.output,t3.size,λb j hW=>t3.block b j (λh=>by
     obtain⟨k,t,Z,_,I,M⟩:=hold b h.symm
     exact hW ⟨k,_,I,rfl,M⟩)⟩
    rest:=λr o' b h C hi j=>by
     obtain⟨L,I⟩:=F r o' (by simpa [B5,h]using C)
     refine t3.block b (p.C8.On L hi j) (λam=>?_)
     obtain⟨k,t,Z,M,H,h5⟩:=hold b am.symm
     have:=p.C8.sep r k _ _ b L H hi rfl j h5
     subst this
     exact I M
    new:=λb j=>by
     rw[T]at j
     rcases t4 with h | h
     ·rw[h]at j
      obtain⟨k,t,Z,M,H,h5⟩:=hold b j
      refine .inl ⟨⟨k,_,H,rfl,h5⟩,λr o' U C hi an=>?_⟩
      obtain⟨L,I⟩:=F r o' (by simpa [B5,U]using C)
      have:=p.C8.sep r k _ _ b L H hi rfl an h5
      subst this
      exact I M
     ·exact .inr (h b j)
    keys:=λr h=>by simp[He]at h}
  obtain⟨vs0,w1,w2⟩:=q3.Asc (by
   have:=q2.1
   omega)
  have hE:Hv P w (Bs P X ρ (cur S q.obs) μ w).O e (ivs++ys) (vs0++us):=w1.append ac
  have ao:Agb (Bs P X ρ (B5 (cur S d.obs) d.m (some (.arr e st (.v Y)))) (D6 μ d.m B) w') d.m (.arr e st (.v Y)):=by
   refine⟨ivs++ys,cs++Bj us,r3,ht,g1,?_,hP.later.elems ?_,?_⟩
   ·show World.ownsRow _ 0 e (Ag P e) (D6 μ d.m B d.m) _ _
    rw[Bl,bQ]
    exact t2
   ·rw[w2,<-Gc]
    exact hE.elems
   ·rw[w2,<-Gc]
    exact Gp λv hv=>(hE.size v hv).2
  have hK: ∀r,K r\/r=d.m->Ax K es.m (d.m+1) r:=by
   rintro r (h | rfl)
   ·exact .inl h
   ·exact .inr ⟨by rw[af,p.m];exact aL _,aT _⟩
  refine⟨B,w',D6 μ d.m B,t1,?_,?_,?_,?_,?_,hP.same⟩
  ·show Good P N X ρ (Ax K es.m (d.m+1)) S.tm (cur S ((d.m,some (.arr e st (.v Y)))::d.obs)) _ a _
   rw[Bz]
   exact hP.C8 p.C8 ao hK
  ·exact⟨Bl.symm,_,_,_,ad⟩
  ·intro k h
   simp[Ct,Ay,Bf,one]at h
   subst h
   exact hK _ (.inr rfl)
  ·have:=hP.step
   exact⟨this.os,this.tape,this.output,this.size,λb j hW=>this.stays b j λh=>hW (p.Es.wr h)⟩
  ·intro b j
   have j:Wr (cur S ((d.m,some (.arr e st (.v Y)))::d.obs)) _ b:=j
   rw[Bz]at j
   exact(hP.own p.C8 b j).imp p.Es.wr id
 ·cases r2
end
end Go.CT
namespace Go.CT
open EM
section
variable {P:Program}{N:Nat}{X:Nat->Prop}{R:Job->List IV->Option (List IV)}{ρ:List IV}{K:Nat->Prop}{S:View}{μ:Nat->Value}{a:Act}{w:World}{es es':ES}{ls:List PLt}{sx:SX}
theorem Aka {b:Nat}{c d:Arg}{xs ys:List IV}{vs:List IV}{y:IV}(h:c.ev ρ=some (.list xs))(hd:d.ev ρ=some (.list ys))(i:aW ρ [c,d]=some vs)(a:bP (.append b) vs=some y):y= .list (xs++ys):=by
 obtain⟨u,v,e,g,rfl⟩:=Afz i
 rw[h]at e;rw[hd]at g
 injection e with e;injection g with g
 subst e;subst g
 simp only[bP]at a
 split at a
 ·injection a with a;exact a.symm
 ·cases a
theorem A0d {c:Arg}{xs:List IV}{vs:List IV}{y:IV}(d:c.ev ρ=some (.list xs))(e:aW ρ [c]=some vs)(b:bP .len vs=some y):y= .int xs.length:=by
 obtain⟨u,a,rfl⟩:=Asf e
 rw[d]at a
 injection a with a
 subst a
 simp only[bP,aC]at b
 exact b.symm
set_option maxHeartbeats 4000000 in
theorem Aa3 {st xt rt:TypeId}{s x:Operand}{k:Nat}{hi lo F:Arg}{t1 t2:TypeId}(G:Good P N X ρ K S.tm (cur S es.obs) μ a w)(h:Ev S (Rw P st xt k hi t1 lo F t2 rt) es sx es' ls)(hl:LH R ρ ls)(C:holds ρ es.gs=some true)
  (hs:Mq (Bs P X ρ (cur S es.obs) μ w) (.leaf (.sub k (.k (.int 0)) hi t1)) (a.eval s)) (hx:Mq (Bs P X ρ (cur S es.obs) μ w) (.leaf (.sub k lo F t2)) (a.eval x)):
  ∃v w' μ',(Builtin.append_ #[st,xt] rt #[a.eval s,a.eval x]).run P w= .ok v w'/\Out P N X ρ K S μ a w es es' sx μ' w' v:=by
 unfold Rw at h
 rw[Ab]at h
 obtain⟨_,_,_,_,q,h,rfl⟩:=h
 rw[Ea]at q
 obtain⟨_,rfl,rfl⟩:=q
 rw[Ab]at h
 obtain⟨e,_,_,_,q,h,rfl⟩:=h
 rw[Ar]at q
 obtain⟨he,rfl,rfl⟩:=q
 rw[Ab]at h
 obtain⟨_,_,_,_,q,h,rfl⟩:=h
 rw[Af]at q
 obtain⟨g1,rfl,rfl⟩:=q
 simp only[aA,decide_eq_true_eq,beq_iff_eq]at g1
 obtain⟨⟨⟨⟨⟨⟨g1,g2⟩,rfl⟩,g4⟩,gt1⟩,gt2⟩,gt3⟩:=g1
 rw[Ab]at h
 obtain⟨o,_,_,l2,q,h,rfl⟩:=h
 rw[B6]at q
 obtain⟨ho,rfl,rfl⟩:=q
 cases o with
 | box=>simp[Ac]at h
 | frz=>simp[Ac]at h
 | iter=>simp[Ac]at h
 | mp=>simp[Ac]at h
 | arr e' tt c=>
  simp only[Ab,Af,Bt,Bp,Ad]at h
  obtain⟨_,_,_,_,⟨g5,rfl,rfl⟩,⟨_,_,_,_,⟨rfl,rfl,rfl⟩,⟨_,_,_,_,⟨rfl,rfl,rfl⟩,⟨_,_,_,_,⟨rfl,rfl,rfl⟩,⟨_,_,_,_,⟨rfl,rfl,rfl⟩,⟨_,_,_,_,⟨rfl,rfl,rfl⟩,⟨_,_,_,_,⟨rfl,rfl,rfl⟩,⟨_,_,_,_,⟨rfl,rfl,rfl⟩,⟨_,_,_,_,⟨rfl,rfl,rfl⟩,
   ⟨_,_,_,_,⟨rfl,rfl⟩,⟨rfl,rfl,rfl⟩,rfl⟩,rfl⟩,rfl⟩,rfl⟩,rfl⟩,rfl⟩,rfl⟩,rfl⟩,rfl⟩,rfl⟩:=h
  have:e=e':=by simpa using g5
  subst this
  obtain⟨ivs,cs,H,q2,q3,q4,q5,q6⟩:=G.obj k _ ho
  have H:c.ev ρ=some (.list ivs):=H
  have L0:=hl.right.right.right.right.right
  have L1:=L0.right
  have L2:=L1.right
  have L3:=L2.right
  have L4:=L3.right
  have L5:=L4.right
  have L6:=L5.right
  have L7:=L6.right
  -- the parts
  obtain⟨A,n,cap,l0,r,e0,m0,m1,m2,m3,m4,m5,t⟩:=hs
  have m1:μ k= .slice A n cap:=m1
  have m2:(Arg.k (.int 0)).ev ρ=some (.int (l0:Nat)):=m2
  simp only[cX,aC,IV.int.injEq]at m2
  have ak:l0=0:=by omega
  subst ak
  have m3:hi.ev ρ=some (.int (r:Nat)):=m3
  obtain⟨A',n',cap',l,h,e1,b0,b1,b2,b3,b4,b5,U⟩:=hx
  have b1:μ k= .slice A' n' cap':=b1
  rw[m1]at b1;injection b1 with i1 i2 i3
  subst i1;subst i2;subst i3
  have b2:lo.ev ρ=some (.int (l:Nat)):=b2
  have b3:F.ev ρ=some (.int (h:Nat)):=b3
  have m0:P.underlying t1=some (.slice e0):=m0
  rw[Bo gt1]at m0;injection m0 with m0;injection m0 with m0;subst m0
  have b0:P.underlying t2=some (.slice e1):=b0
  rw[Bo gt2]at b0;injection b0 with b0;injection b0 with b0;subst b0
  -- the lets
  obtain⟨vs0,y0,al,am,_⟩:=bT L0.left C
  obtain⟨s1,s2⟩:=Qs (j:=0) H rfl al am
  have bm:=toNat_lt s1 s2
  obtain⟨vs1,y1,an,ao,_⟩:=bT L1.left C
  obtain⟨_,c1,c2,c3⟩:=J2 H m3 b2 an ao
  obtain⟨vs2,y2,ap,aq,Y⟩:=bT L2.left C
  obtain⟨rfl,_,c4,c5⟩:=J2 (l:=0) H rfl m3 ap aq
  obtain⟨vs3,y3,ar,au,Z⟩:=bT L3.left C
  obtain⟨rfl,_,c6,c7⟩:=J2 H b2 b3 ar au
  simp only[cB,Int.toNat_zero,List.drop_zero]at Y Z
  obtain⟨vs4,y4,av,aw,aa⟩:=bT L4.left C
  obtain rfl:=Aka Y Z av aw
  obtain⟨vs5,y5,ax,ay,I⟩:=bT L5.left C
  obtain rfl:=A0d aa ax ay
  obtain⟨vs6,y6,az,ba,bb⟩:=bT L6.left C
  obtain⟨rfl,_,c8⟩:=Acu H I az ba
  obtain⟨vs7,y7,bc,bd,J⟩:=bT L7.left C
  obtain rfl:=Aka aa bb bc bd
  have bo:r<=ivs.length:=by omega
  have bp:l<=ivs.length:=by omega
  have be:h<=ivs.length:=by omega
  have bq:r<=l:=by omega
  have hlen:(ivs.take r++(ivs.take h).drop l).length =r+(h - l):=by
   rw[bQ,cE,cF,cE];omega
  rw[hlen]at I J
  simp only[cB,List.take_length]at J
  obtain⟨w1,q4⟩:=q4
  rcases q4 with⟨_,q4⟩ | ⟨g,cap',cu,f1,f2,f3,f4,f5,f6,f7⟩
  ·omega
  have ab:μ k= .slice (some ⟨g,0,none⟩) ivs.length cap':=f1
  rw[m1]at ab;injection ab with i1 i2 i3
  subst i1;subst i2;subst i3
  have f3:w.heap[g]?=some (.cells cu e (0,0)):=f3
  have w1:cs.length=ivs.length * Ag P e:=w1
  have q5:Kr P w (Bs P X ρ (cur S es.obs) μ w).O e ivs cs:=q5
  obtain⟨us,hE,rfl⟩:=q5.Asc w1
  have f6:cu.size=cap * Ag P e:=f6
  have f7:cu.toList.take (ivs.length * Ag P e)=Bj us:=f7
  have bn:ivs.length * Ag P e<=cu.size:=by rw[f6];exact bJ _ f4
  obtain⟨i,z,z1,z2,z3,z4,z5⟩:=Pk g4
  have y:=λa b=>(hE.size a b).1
  have bf:us.length=ivs.length:=hE.len.symm
  have hy:Hv P w (Bs P X ρ (cur S es.obs) μ w).O e ((ivs.take h).drop l) ((us.take h).drop l):=((hE.cut h).1.cut l).2
  have bg:((us.take h).drop l).length =h - l:=by rw[cF,cE];omega
  have ac: ∀v∈(us.take h).drop l,v.cells.size=Ag P e:=λv t=>(hy.size v t).1
  have d:(Bj ((us.take h).drop l)).length =(h - l) * Ag P e:=by rw[Eb ac,bg]
  have bh:Bj ((us.take h).drop l)=((Bj us).take (h * Ag P e)).drop (l * Ag P e):=by
   rw[(Lh (us:=us.take h) (λv t=>y v (List.mem_of_mem_take t)) l).2,(Lh y h).1]
  have t2:Hv P w (Bs P X ρ (cur S es.obs) μ w).O e (ivs.take r++(ivs.take h).drop l++ivs.drop (r+(h - l))) (us.take r++(us.take h).drop l++us.drop (r+(h - l))):=
   ((hE.cut r).1.app hy).app (hE.cut _).2
  have br:(Bj us).length =ivs.length * Ag P e:=by rw[Eb y,bf]
  have e3:r * Ag P e+(h - l) * Ag P e=(r+(h - l)) * Ag P e:=by rw[cC]
  have hh:(r+(h - l)) * Ag P e<=ivs.length * Ag P e:=bJ _ (by omega)
  have M:Bj (us.take r++(us.take h).drop l++us.drop (r+(h - l)))=(Bj us).take (r * Ag P e)++Bj ((us.take h).drop l)++(Bj us).drop (r * Ag P e+(Bj ((us.take h).drop l)).length):=by
   rw[Gc,Gc,(Lh y r).1,(Lh y _).2,d,e3]
  have ae:(ivs.take r++(ivs.take h).drop l++ivs.drop (r+(h - l))).length =ivs.length:=by
   rw[bQ,hlen,cF];omega
  have af: ∀v∈Bj ((us.take h).drop l),v.oneCell'=true:=Gp λv t=>(hy.size v t).2
  have ag:=run_storeCells_at (P:=P) g (r * Ag P e) e (Bj ((us.take h).drop l)) 0 cu w f3 (by rw[d];omega) af
  simp only[cQ]at ag
  have B: ¬ cap=0:=by omega
  have bi:a.eval s= .slice (some ⟨g,0,none⟩) r cap:=by
   rw[t,if_neg B]
   simp[N1]
  have ah:(Builtin.append_ #[st,st] rt #[a.eval s,a.eval x]).run P w= .ok (.slice (some ⟨g,0,none⟩) (r+(h - l)) cap) (w.setRow g (cu.toList.take (r * Ag P e)++Bj ((us.take h).drop l)++cu.toList.drop (r * Ag P e+(Bj ((us.take h).drop l)).length)).toArray):=by
   obtain⟨ad,bj,hcells⟩: ∃ad:Addr,a.eval x= .slice (some ad) (h - l) (cap - l)/\ ∀j u,(Bj ((us.take h).drop l))[j]?=some u->w.cell? (ad.add j)=some u:=by
    by_cases ai:cap=l
    ·refine⟨⟨g,0,none⟩,by rw[U,if_pos ai],λj u T=>?_⟩
     have:h - l=0:=by omega
     rw[this,cR]at d
     have:=bR.1 d
     rw[this]at T;simp at T
    ·refine⟨⟨g,l * Ag P e,none⟩,by rw[U,if_neg ai];simp only[aH,N1];rfl,λj u T=>?_⟩
     have bk:=(aK.1 T).1
     rw[d]at bk
     have e4:l * Ag P e+(h - l) * Ag P e=h * Ag P e:=by rw[<-cC];congr 1;omega
     have bt:h * Ag P e<=ivs.length * Ag P e:=bJ _ be
     rw[bh,List.getElem?_drop,cO,if_pos (by omega),<-f7,cO,if_pos (by omega),Array.getElem?_toList]at T
     rw[Addr.add_lit]
     simp[World.cell?,f3,T]
   have bl:=run_firstCells_some (P:=P) w (Ag P e) (h - l) ad (h - l) (cap - l) (Bj ((us.take h).drop l)) d hcells
   have Q:r+(h - l)<=cap:=by omega
   have hu:(underlying st).run P w= .ok (.slice e) w:=by simp[underlying,Bo he]
   rw[bi,bj]
   simp[Builtin.append_,hu,sizeOf,typeInfo,z1,z4,Builtin.lenOf,Q,bl,Addr.add_lit,ag]
  refine⟨_,_,D6 μ k (μ k),ah,?_⟩
  have O1:=T3 (nn:=es.n+8) (val:=undef) (e1:=es) (.refl G) ho rfl (show blk (μ k)=some g by rw[m1];rfl) (o':= .arr e tt (.v (es.n+1+1+1+1+1+1+1))) (cs:=(cu.toList.take (r * Ag P e)++Bj ((us.take h).drop l)++cu.toList.drop (r * Ag P e+(Bj ((us.take h).drop l)).length)).toArray) (λk' hk=>by cases hk) (λL=>by
   refine⟨_,Bj (us.take r++(us.take h).drop l++us.drop (r+(h - l))),J,q2,q3,⟨?_,.inr ⟨g,cap,_,?_,bX _,setRow_heap w g cu _ e (0,0) f3,by omega,f5,?_,?_⟩⟩,(Hv.later L t2).elems,Gp λv t=>(t2.size v t).2⟩
   ·rw[Eb λv t=>(t2.size v t).1,<-t2.len];rfl
   ·show D6 μ k (μ k) k=_
    rw[Bl,m1,ae]
   ·have:=Qj (cs:=cu.toList) (new:=Bj ((us.take h).drop l)) (off:=r * Ag P e) (by rw[d,aY];omega)
    rw[aY]at this
    exact this.trans f6
   ·rw[List.toList_toArray,ae]
    have:=Rx (cs:=cu.toList) (new:=Bj ((us.take h).drop l)) (p:=r * Ag P e) (m:=ivs.length * Ag P e) (by rw[d];omega) (by rw[aY];omega)
    rw[M,<-f7];exact this)
  refine⟨O1.C8,?_,λk' aj=>?_,O1.step,O1.own,O1.keep⟩
  ·refine⟨some ⟨g,0,none⟩,ivs.length,cap,0,r+(h - l),e,Bo gt3,?_,rfl,I,by omega,by omega,?_⟩
   ·show D6 μ k (μ k) k=_
    rw[Bl,m1]
   ·rw[if_neg B];simp[N1]
  ·simp[Ct,Ay,Bf,one]at aj
   subst aj
   exact .inl (G.ko k' _ ho).1
end
end Go.CT
namespace Go.CT
open EM
section
variable {P:Program}{N:Nat}{X:Nat->Prop}{R:Job->List IV->Option (List IV)}{ρ:List IV}{K:Nat->Prop}{S:View}{μ:Nat->Value}{a:Act}{w:World}{es es':ES}{ls:List PLt}{sx:SX}
theorem Aqt {t e:TypeId}{A:Option Addr}{n cap l h m:Nat}{lo:Option Value}{k1 k2:IntKind}(c:P.underlying t=some (.slice e))(d:0<Ag P e)(a:J6 lo 0 l)(g:l<=h)(q:h<=m)(r:m<=cap):
  ∃v,(Instr.sliceAt t (.slice A n cap) lo (some (.int k1 h)) (some (.int k2 m))).run P w= .ok v w:=by
 obtain⟨i,b⟩:=E7 d
 unfold Instr.sliceAt Instr.slice
 simp only[underlying,Sem.run_bind,run_program,Result.andThen_ok,c,Sem.run_pure]
 have j:(Instr.sliceBounds true n cap lo (some (.int k1 h)) (some (.int k2 m))).run P w= .ok (l,h,m) w:=by
  unfold Instr.sliceBounds
  rcases a with⟨rfl,rfl⟩ | ⟨o,rfl⟩
  ·simp[run_sliceBound (P:=P) (w:=w) (k:=k2) (n:=(m:Int)) (y:=cap) (bA _) (by omega),run_sliceBound (P:=P) (w:=w) (k:=k1) (n:=(h:Int)) (y:=m) (bA _) (by omega)]
  ·simp[run_sliceBound (P:=P) (w:=w) (k:=k2) (n:=(m:Int)) (y:=cap) (bA _) (by omega),run_sliceBound (P:=P) (w:=w) (k:=k1) (n:=(h:Int)) (y:=m) (bA _) (by omega),
    run_sliceBound (P:=P) (w:=w) (k:=o) (n:=(l:Int)) (y:=h) (bA _) (by omega)]
 rw[j]
 simp[run_sizeOf b]
theorem Aq2 {t:TypeId}{x:Operand}{lo I mx:Option Operand}(G:Good P N X ρ K S.tm (cur S es.obs) μ a w)(h:Ev S (Alb P t x lo I mx) es sx es' ls)(g:LH R ρ ls)(i:holds ρ es.gs=some true):
  ∃v,(Instr.sliceAt t (a.eval x) (lo.map a.eval) (I.map a.eval) (mx.map a.eval)).run P w= .ok v w/\Out P N X ρ K S μ a w es es' sx μ w v:=by
 unfold Alb at h
 rw[Ab]at h
 obtain⟨xv,e1,l1,_,Z,h,rfl⟩:=h
 obtain⟨rfl,rfl,h3,h4⟩:=G9 G Z i
 rw[Ab]at h
 obtain⟨l,J,l2,_,h2,h,rfl⟩:=h
 obtain⟨rfl,rfl,o1⟩:=Lg G h2 i
 rw[Ab]at h
 obtain⟨hh,e3,L,_,h5,h,rfl⟩:=h
 obtain⟨rfl,rfl,o2⟩:=Lg G h5 i
 rw[Ab]at h
 obtain⟨mm,e3,L,_,h6,h,rfl⟩:=h
 obtain⟨rfl,rfl,o3⟩:=Lg G h6 i
 have g:=g.right.right.right.right
 obtain⟨ln,r,blo⟩:=A2w o1
 cases u:P.underlying t with
 | none=>simp[u,Ac]at h
 | some d=>
 simp only[u]at h
 cases d with
 | slice e=>
  rw[Ab]at h
  obtain⟨_,_,_,_,M,h,rfl⟩:=h
  rw[Af]at M
  obtain⟨Q,rfl,rfl⟩:=M
  simp only[decide_eq_true_eq]at Q
  have g:=g.right
  split at h
  ·rename_i k0 t0 hA mA
   rcases o2 with⟨_,b⟩ | ⟨hx,hy,z,hk,rfl,b,j,B⟩
   ·cases b
   injection b with b;subst b
   rcases o3 with⟨_,b⟩ | ⟨mx',my,mn,mk,rfl,b,C,F⟩
   ·cases b
   injection b with b;subst b
   obtain⟨H,_⟩:=h3
   have H:a.eval x=μ k0:=H
   rw[Ab]at h
   obtain⟨o,_,_,L,q,h,rfl⟩:=h
   rw[B6]at q
   obtain⟨q,rfl,rfl⟩:=q
   have g:=g.right
   cases o with
   | box=>simp[Ac]at h
   | iter=>simp[Ac]at h
   | mp=>simp[Ac]at h
   | frz=>simp[Ac]at h
   | arr e' tt c=>
    simp only[Ab,Af,Bt,Ad]at h
    obtain⟨_,_,_,_,⟨g2,rfl,rfl⟩,⟨_,_,_,_,⟨rfl,rfl,rfl⟩,⟨_,_,_,_,⟨rfl,rfl,rfl⟩,⟨rfl,rfl,rfl⟩,rfl⟩,rfl⟩,rfl⟩:=h
    have:e=e':=by simpa using g2
    subst this
    obtain⟨ivs,A,cap,T,q2,q3,q4,q5⟩:=G.Asb q
    obtain⟨vs,y,r1,r2,_⟩:=bT g.right.left i
    obtain⟨_,p1,p2,p3⟩:=J2 T r j r1 r2
    obtain⟨vs,y,r1,r2,_⟩:=bT g.right.right.left i
    obtain⟨_,p4,p5,p6⟩:=J2 T j C r1 r2
    have U:=q3.1
    obtain⟨v,Y⟩:=Aqt (P:=P) (w:=w) (A:=A) (n:=ivs.length) (cap:=cap) (l:=ln.toNat) (h:=z.toNat) (m:=mn.toNat) (k1:=hk) (k2:=mk) u Q (blo p1) (by omega) (by omega) (by omega)
    have e1:((z.toNat:Nat):Int)=z:=by omega
    have J:((mn.toNat:Nat):Int)=mn:=by omega
    rw[e1,J]at Y
    rw[H,q2,aH,aH,B,F]
    exact⟨v,Y,cJ (es':= {es with n:=es.n+1+1}) (.same G rfl rfl rfl) trivial (λk hm=>by simp[Ct,Ay,Bf,one]at hm)⟩
  ·simp[Ac]at h
 | _=>simp[Ac]at h
theorem Ajb {t L:TypeId}{x:Operand}{m:Nat}{C:Arg}{lo M:Option Operand}(G:Good P N X ρ K S.tm (cur S es.obs) μ a w)(h:Ev S (Zc P t m L lo M) es sx es' ls)(b:LH R ρ ls)(F:holds ρ es.gs=some true)
  (h3:Mq (Bs P X ρ (cur S es.obs) μ w) (.leaf (.sub m (.k (.int 0)) C L)) (a.eval x)) (h4:K m):
  ∃v,(Instr.sliceAt t (a.eval x) (lo.map a.eval) (M.map a.eval) none).run P w= .ok v w/\Out P N X ρ K S μ a w es es' sx μ w v:=by
 unfold Zc at h
 rw[Ab]at h
 obtain⟨l,e2,l2,_,h2,h,rfl⟩:=h
 obtain⟨rfl,rfl,o1⟩:=Lg G h2 F
 rw[Ab]at h
 obtain⟨hh,e3,l3,_,h5,h,rfl⟩:=h
 obtain⟨rfl,rfl,o2⟩:=Lg G h5 F
 have b:=b.right.right
 obtain⟨ln,g,blo⟩:=A2w o1
 cases q:P.underlying t with
 | none=>simp[q,Ac]at h
 | some d=>
 simp only[q]at h
 cases d with
 | slice e=>
  rw[Ab]at h
  obtain⟨_,_,_,_,Q,h,rfl⟩:=h
  rw[Af]at Q
  obtain⟨u,rfl,rfl⟩:=Q
  simp only[aA,decide_eq_true_eq,beq_iff_eq]at u
  obtain⟨u,gt⟩:=u
  have b:=b.right
  split at h
  ·rename_i hA
   rcases o2 with⟨_,i⟩ | ⟨hx,hy,z,hk,rfl,i,j,H⟩
   ·cases i
   injection i with i;subst i
   rw[Ab]at h
   obtain⟨o,_,_,l3,B,h,rfl⟩:=h
   rw[B6]at B
   obtain⟨B,rfl,rfl⟩:=B
   have b:=b.right
   cases o with
   | box=>simp[Ac]at h
   | iter=>simp[Ac]at h
   | mp=>simp[Ac]at h
   | frz=>simp[Ac]at h
   | arr e' tt c=>
    simp only[Ab,Af,Bt,Ad]at h
    obtain⟨_,_,_,_,⟨g2,rfl,rfl⟩,⟨_,_,_,_,⟨rfl,rfl,rfl⟩,⟨rfl,rfl,rfl⟩,rfl⟩,rfl⟩:=h
    have:e=e':=by simpa using g2
    subst this
    obtain⟨ivs,A,cap,q1,T,q3,q4,q5⟩:=G.Asb B
    obtain⟨vs,y,r1,r2,_⟩:=bT b.right.left F
    obtain⟨_,p1,p2,p3⟩:=J2 q1 g j r1 r2
    have U:=q3.1
    obtain⟨A',n',cap',Y,r,e0,m0,m1,m2,m3,m4,m5,hv⟩:=h3
    have m1:μ m= .slice A' n' cap':=m1
    rw[T]at m1;injection m1 with i1 i2 i3
    subst i1;subst i2;subst i3
    have m2:(Arg.k (.int 0)).ev ρ=some (.int (Y:Nat)):=m2
    simp only[cX,aC,IV.int.injEq]at m2
    have I:Y=0:=by omega
    subst I
    have J:a.eval x= .slice A r cap:=by
     rw[hv]
     simp only[cR,Nat.sub_zero]
     split
     ·rfl
     ·congr 1
      cases A with
      | none=>rfl
      | some ad=>simp[Bg]
    have hb:J6 (Option.map a.eval (some hx)) r z.toNat:= .inr ⟨hk,by rw[aH,H];congr 2;omega⟩
    rw[J]
    refine⟨_,Iu q u (blo p1) hb (by omega) (by omega),cJ (es':= {es with n:=es.n+1}) (.same G rfl rfl rfl) ?_ (λk Z=>?_)⟩
    ·refine⟨A,ivs.length,cap,ln.toNat,z.toNat,e,q,T,?_,?_,by omega,by omega,rfl⟩
     ·rw[show((ln.toNat:Nat):Int)=ln by omega];exact g
     ·rw[show((z.toNat:Nat):Int)=z by omega];exact j
    ·simp[Ct,Ay,Bf,one]at Z
     subst Z
     exact h4
  ·simp[Ac]at h
 | _=>simp[Ac]at h
theorem Aju {t:TypeId}{x:Operand}{lo d mx:Option Operand}(G:Good P N X ρ K S.tm (cur S es.obs) μ a w)(h:Ev S (Xl P t x lo d mx) es sx es' ls)(c:LH R ρ ls)(b:holds ρ es.gs=some true):
  ∃v,(Instr.sliceAt t (a.eval x) (lo.map a.eval) (d.map a.eval) (mx.map a.eval)).run P w= .ok v w/\Out P N X ρ K S μ a w es es' sx μ w v:=by
 unfold Xl at h
 split at h
 ·exact Aq2 G h c b
 ·rw[Ab]at h
  obtain⟨xv,e1,m,_,e,h,rfl⟩:=h
  obtain⟨rfl,rfl,g,i⟩:=G9 G e b
  split at h
  ·rename_i k j o
   exact Ajb G h c.right b g (i k (by simp[Ay,Bf]))
  ·exact Awo G h c.right b
theorem Aqf {ne:Bool}{t e:TypeId}{x y:Operand}{A:Option Addr}{n c:Nat}(b:P.underlying t=some (.slice e)):
  (do eqGuard (if ne then .neq else .eql) t x y (.slice A n c) (.slice none 0 0);binOp (if ne then .neq else .eql) t (.slice A n c) (.slice none 0 0):Sem Value).run P w= .ok (.bool (if ne then !A.isNone else A.isNone)) w:=by
 have key: ∀d,(Op.equalIn (d+1) t (.slice A n c) (.slice none 0 0)).run P w= .ok A.isNone w:=by
  intro d
  have g:(underlying t).run P w= .ok (.slice e) w:=by simp[underlying,b]
  unfold Op.equalIn
  rw[Sem.run_bind,g]
  cases A<;>rfl
 have e:Op.equal t (.slice A n c) (.slice none 0 0)=Op.equalIn (9999+1) t (.slice A n c) (.slice none 0 0):=rfl
 have a:(Op.equalIn 10000 t (.slice A n c) (.slice none 0 0)).run P w= .ok A.isNone w:=key 9999
 cases ne
 ·simp[eqGuard,binOp,e,a]
 ·simp[eqGuard,binOp,e,a]
theorem Awl {ne:Bool}{xt rt:TypeId}{x:Operand}(G:Good P N X ρ K S.tm (cur S es.obs) μ a w)(h:Ev S (A62 P ne xt x rt) es sx es' ls)(J:LH R ρ ls)(r:holds ρ es.gs=some true):
  ∃v,(do eqGuard (if ne then .neq else .eql) xt x (.const (.slice none 0 0)) (a.eval x) (.slice none 0 0);binOp (if ne then .neq else .eql) xt (a.eval x) (.slice none 0 0):Sem Value).run P w= .ok v w/\Out P N X ρ K S μ a w es es' sx μ w v:=by
 unfold A62 at h
 rw[Ab]at h
 obtain⟨xv,e1,l1,_,T,h,rfl⟩:=h
 obtain⟨rfl,rfl,U,h4⟩:=G9 G T r
 split at h
 ·rename_i c t
  simp only[Ab,Af,Bt,Ad]at h
  obtain⟨_,_,_,_,⟨m,rfl,rfl⟩,⟨_,_,_,_,⟨rfl,rfl,rfl⟩,⟨_,_,_,_,⟨rfl,rfl,rfl⟩,⟨rfl,rfl,rfl⟩,rfl⟩,rfl⟩,rfl⟩:=h
  simp only[aA]at m
  obtain⟨⟨m,L⟩,Y⟩:=m
  obtain⟨e,Z⟩:=bC.1 m
  obtain⟨e9,y⟩:=bC.1 Y
  obtain⟨⟨iv,d1,d2⟩,ys,A,cap,o,z,q3⟩:=U
  have o:c.ev ρ=some (.list ys):=o
  have d1:c.ev ρ=some iv:=d1
  rw[o]at d1;injection d1 with d1;subst d1
  obtain⟨vs1,y1,B,C,F⟩:=bT J.right.right.left r
  obtain rfl:=A0d o B C
  obtain⟨vs2,y2,H,b,g⟩:=bT J.right.right.right.left r
  obtain⟨u,v,q,s2,rfl⟩:=Afz H
  rw[F]at q;injection q with q;subst q
  have d:some (IV.int 0)=some v:=s2
  injection d with d;subst d
  obtain⟨aa,A',cap',e1,M,i⟩:=d2.Da (Bo Z)
  injection e1 with e1;subst e1
  rw[z]at M;injection M with i1 i2 i3
  subst i1
  have hA:A.isNone=decide ((ys.length:Int)=0):=by
   by_cases I:ys= []
   ·have:=q3 I
    rw[z]at this;injection this with j1
    subst j1;subst I;rfl
   ·have j:0<ys.length:=List.length_pos_iff.2 I
    obtain⟨ad,u,k1,_⟩:=i.at_ (bN j)
    subst k1
    have: ¬ (ys.length:Int)=0:=by omega
    rw[decide_eq_false this];rfl
  have Q:((ys.length:Int) == 0)=decide ((ys.length:Int)=0):=rfl
  rw[z]
  refine⟨_,Aqf (Bo y),?_⟩
  rw[hA]
  cases ne with
  | false=>
   simp only[bP,Nb,aH,aC,aG,Zf]at b
   subst b
   exact D8 (Ph.same (es':= {es with n:=es.n+1}) G rfl rfl rfl) g (by rw[<-Q];exact .bool (Cz L))
  | true=>
   simp only[bP,Nb,aH,aC,Zt]at b
   subst b
   exact D8 (Ph.same (es':= {es with n:=es.n+1}) G rfl rfl rfl) g (by rw[<-Q];exact .bool (Cz L))
 ·simp[Ac]at h
theorem Ar4 {op:BinOp}{xt yt rt:TypeId}{x y:Operand}(G:Good P N X ρ K S.tm (cur S es.obs) μ a w)(h:Ev S (Ak2 P op xt x y yt rt) es sx es' ls)(b:LH R ρ ls)(c:holds ρ es.gs=some true):
  ∃v,(do eqGuard op xt x y (a.eval x) (a.eval y);binOp op xt (a.eval x) (a.eval y):Sem Value).run P w= .ok v w/\Out P N X ρ K S μ a w es es' sx μ w v:=by
 unfold Ak2 at h
 split at h
 ·exact Awl (ne:=false) G h b c
 ·exact Awl (ne:=true) G h b c
 ·exact A2g G h b c
end
end Go.CT
namespace Go.CT
open EM
section
variable {P:Program}{N:Nat}{X:Nat->Prop}{R:Job->List IV->Option (List IV)}{ρ:List IV}{K:Nat->Prop}{S:View}{μ:Nat->Value}{a:Act}{w:World}{es es':ES}{ls:List PLt}{sx:SX}
theorem Rel.drew {O:Nat->Prop}{t:TypeId}{x:IV}{v:Value}(h:Rel P w O t x v):Rel P w.drew O t x v:=h.mono (λ_ _ h=>h) (λ_ _ _=>rfl)
theorem Good.drew {tm:Nat->SV}{ob:Nat->Option Ob}(G:Good P N X ρ K tm ob μ a w):Good P N X ρ K tm ob μ a w.drew:=by
 have L:Ek K (Bs P X ρ ob μ w) (Bs P X ρ ob μ w.drew):= {P:=rfl,ρ:=λ_ _ h=>h,μ:=λ_ _=>rfl,stays:=λ_ _ _=>rfl,O:=λ_ _ h=>h,W:=λ_ _ h=>h,WO:=λ_ h=> .inr h}
 exact⟨G.size,G.defers,λs=>L.Awj (G.kt s) (G.slot s),λk o b=>L.Akc (G.ko k o b).1 (G.ko k o b).2 (λ_ _ _ _=>rfl) (G.obj k o b),G.sep,G.xsep,G.xlt,G.kt,G.ko⟩
theorem Ph.drew (p:Ph P N X ρ K S μ a w es es'):Ph P N X ρ K S μ a w.drew es es':=⟨p.C8.drew,p.Es,p.m,p.gs⟩
theorem Out.A6o {μ':Nat->Value}{w':World}{v:Value}(o:Out P N X ρ K S μ a w.drew es es' sx μ' w' v):Out P N X ρ K S μ a w es es' sx μ' w' v:=
 ⟨o.C8,o.rel,o.keys,⟨o.step.os,o.step.tape,o.step.output,o.step.size,o.step.stays⟩,o.own,o.keep⟩
theorem Ala {st xt ct rt:TypeId}{s x:Operand}{c:Arg}(G:Good P N X ρ K S.tm (cur S es.obs) μ a w)(h:Ev S (Afx P st xt c ct x rt) es sx es' ls)(hl:LH R ρ ls)(hg:holds ρ es.gs=some true)(hfresh: ∀k,es.m<=k->k<es'.m-> ¬ K k)
  (hs:Aav (Bs P X ρ (cur S es.obs) μ w) (.cl c ct) (a.eval s)):
  ∃v w' μ',(Builtin.append_ #[st,xt] rt #[a.eval s,a.eval x]).run P w= .ok v w'/\Out P N X ρ K S μ a w es es' sx μ' w' v:=by
 unfold Afx at h
 rw[Ab]at h
 obtain⟨_,_,_,_,o,h,rfl⟩:=h
 rw[Ea]at o
 obtain⟨_,rfl,rfl⟩:=o
 rw[Ab]at h
 obtain⟨e,_,_,_,o,h,rfl⟩:=h
 rw[Ar]at o
 obtain⟨he,rfl,rfl⟩:=o
 rw[Ab]at h
 obtain⟨_,_,_,_,o,h,rfl⟩:=h
 rw[Af]at o
 obtain⟨g1,rfl,rfl⟩:=o
 simp only[aA,decide_eq_true_eq,beq_iff_eq]at g1
 obtain⟨⟨⟨⟨g1,g2⟩,rfl⟩,rfl⟩,g4⟩:=g1
 rw[Ab]at h
 obtain⟨xv,e1,l1,_,h1,h,rfl⟩:=h
 obtain⟨rfl,rfl,xv3,xv4⟩:=G9 G h1 hg
 have hl:=hl.right.right.right.right
 rw[Ab]at h
 obtain⟨y,M,l2,_,h2,h,rfl⟩:=h
 obtain⟨p,hB,_⟩:=E3 G h2 hl.left hg xv4 xv3
 have ae:holds ρ M.gs=some true:=by rw[p.gs];exact hg
 simp only[Ab,Bt,C0,Bp,Ad]at h
 obtain⟨_,_,_,_,⟨rfl,rfl,rfl⟩,⟨_,_,_,_,⟨rfl,rfl,rfl⟩,⟨_,_,_,_,⟨rfl,rfl⟩,⟨rfl,rfl,rfl⟩,rfl⟩,rfl⟩,rfl⟩:=h
 obtain⟨vs,iv,r1,r2,r3⟩:=bT hl.right.left ae
 obtain⟨u,v,s1,s2,rfl⟩:=Afz r1
 have Q:=Bo he
 -- the row without room
 obtain⟨⟨civ,c1,c2⟩,A0,n0,T⟩:=hs
 have c1:c.ev ρ=some civ:=c1
 obtain⟨xs,A,cap,rfl,U,H⟩:=(p.later.rel c2).Da Q
 rw[c1]at s1;injection s1 with s1;subst s1
 rw[T]at U
 injection U with i1 i2 i3
 subst i1;subst i2;subst i3
 -- what comes behind
 obtain⟨yiv,b1,b2,b3⟩:=hB
 obtain⟨ys,A1,cap1,rfl,hx,Y⟩:=b3 e Q
 have af:y.ev ρ=some (.list ys):=b1
 rw[af]at s2;injection s2 with s2;subst s2
 simp only[bP]at r2
 split at r2
 ·rename_i hc
  obtain⟨C,hbytes⟩:=hc
  injection r2 with r2;subst r2
  obtain⟨i,z,z1,z2,z3,z4,z5⟩:=Pk g4
  have ak:Bc=140737488355328:=rfl
  have aj:maxLen=9223372036854775807:=by decide
  have F:xs.length+ys.length<=maxLen:=by
   have:=cG (xs.length+ys.length) g2
   omega
  obtain⟨us0,I,hcells0⟩:=H.Af1.Asc
  obtain⟨us,J,hcells⟩:=Y.Asc
  have d:=I.len
  have q:=J.len
  obtain⟨ad,rfl,Z⟩:=hcells C
  have r:=Eb (sz:=Ag P e) (vs:=us0) (λv hv=>(I.size v hv).1)
  have B:=Eb (sz:=Ag P e) (vs:=us) (λv hv=>(J.size v hv).1)
  have hE:Hv P w (Bs P X ρ (cur S M.obs) μ w).O e (xs++ys) (us0++us):=I.append J
  have ag:=grownCap_ge w (xs.length+ys.length) xs.length e
  have L:Builtin.nextslicecap (xs.length+ys.length) xs.length * i.bytes<=281474976710656:=growslice_fits (by omega) (by rw[z5];omega)
  let cs:Array Value:=(Bj us0).toArray ++(Bj us).toArray ++Builtin.zeroCells z.cells (grownCap w (xs.length+ys.length) xs.length e - (xs.length+ys.length))
  have aa:(Builtin.append_ #[ct,ct] rt #[a.eval s,a.eval x]).run P w= .ok (.slice (some ⟨w.heap.size,0,none⟩) (xs.length+ys.length) (grownCap w (xs.length+ys.length) xs.length e)) (w.drew.alloc (.cells cs e)):=by
   rw[hx,T]
   cases A0 with
   | some b=>
    exact run_append_grow (P:=P) w ct rt e i z Q z1 z2 b xs.length xs.length (Bj us0) (by rw[r,z4,d]) (λj u hj=>by
     have o:0<xs.length:=by
      have:=(aK.1 hj).1
      rw[r,<-d]at this
      exact Nat.pos_of_mul_pos_right (by omega:0<xs.length * Ag P e) |> λh=>by
       rcases cP xs.length with h | h
       ·rw[h]at this;simp at this
       ·exact h
     obtain⟨ad',hh,ab⟩:=hcells0 o
     injection hh with hh;subst hh
     exact ab j u hj) ad ys.length cap1 (Bj us) (by rw[B,z4,q]) Z (by omega) (by omega) L
   | none=>
    have hz:xs= []:=by
     rcases cP xs.length with h | h
     ·exact bR.1 h
     ·obtain⟨_,hh,_⟩:=hcells0 h
      cases hh
    subst hz
    have ah:us0= []:=bR.1 (by rw[<-d];rfl)
    have hr:=run_append_nil (P:=P) w ct rt e i z Q z1 z2 ad ys.length cap1 (Bj us) (by rw[B,z4,q]) Z C (by simp at F;omega) (by rw[z5];simp at hbytes;omega)
    simp only[List.length_nil,bB]at *
    rw[hr]
    simp[cs,ah,Bj]
  have ai:(Builtin.zeroCells z.cells (grownCap w (xs.length+ys.length) xs.length e - (xs.length+ys.length))).size =(grownCap w (xs.length+ys.length) xs.length e - (xs.length+ys.length)) * Ag P e:=by
   rw[size_zeroCells,z3]
  have ac:cs.size=grownCap w (xs.length+ys.length) xs.length e * Ag P e:=by
   simp only[cs,Array.size_append,List.size_toArray,r,B,ai,<-d,<-q]
   rw[<-cC,<-cC]
   congr 1;omega
  have g:cs.toList.take ((xs.length+ys.length) * Ag P e)=Bj (us0++us):=by
   simp only[cs,Array.toList_append,Gc]
   rw[List.take_left' (by rw[bQ,r,B,cC,d,q])]
  have ho:=Abj (N:=N) (K:=K) (S:=S) (a:=a) (rt:=rt) (nn:=M.n+1) (w:=w.drew) (es:=es) (e1:= {M with n:=M.n+1}) (ivs:=xs++ys) (n:=xs.length+ys.length) (cap:=grownCap w (xs.length+ys.length) xs.length e) (cs:=cs) (x:= .v M.n) (t:=ct) ⟨p.C8.drew,p.Es,p.m,p.gs⟩ hfresh r3 Q g1 (by simp) ag
   (grownCap_le_maxLen w _ _ _ F) ac (by rw[g];exact λj x hx=>let ⟨v,q1,q2⟩:=hE.elems j x hx; ⟨v,q1.drew,q2⟩) (by rw[g];exact Gp λv hv=>(hE.size v hv).2)
  exact⟨_,_,_,aa,ho.A6o⟩
 ·cases r2
theorem Ae0 {st xt rt:TypeId}{s x:Operand}(G:Good P N X ρ K S.tm (cur S es.obs) μ a w)(h:Ev S (T8 P st xt s x rt) es sx es' ls)(c:LH R ρ ls)(d:holds ρ es.gs=some true)(hfresh: ∀k,es.m<=k->k<es'.m-> ¬ K k):
  ∃v w' μ',(Builtin.append_ #[st,xt] rt #[a.eval s,a.eval x]).run P w= .ok v w'/\Out P N X ρ K S μ a w es es' sx μ' w' v:=by
 unfold T8 at h
 rw[Ab]at h
 obtain⟨sv,e1,g,_,i,h,rfl⟩:=h
 obtain⟨rfl,rfl,sv3,sv4⟩:=G9 G i d
 split at h
 ·exact Ala G h (by simpa using c) d hfresh sv3
 ·rw[Ab]at h
  obtain⟨xv,e1,g,_,j,h,rfl⟩:=h
  obtain⟨rfl,rfl,xv3,xv4⟩:=G9 G j d
  have c:=c.right.right
  split at h
  ·rename_i k q r lo o t2 b
   unfold Anx at b
   split at b
   ·split at b
    ·rename_i e
     have e:=eq_of_beq e
     subst e
     simp only[aC,aZ]at b
     obtain⟨rfl,rfl,rfl,rfl,rfl,rfl⟩:=b
     exact Aa3 G h c d sv3 xv3
    ·cases b
   ·cases b
  ·exact Aqx G h c d hfresh
end
end Go.CT
namespace Go.CT
open EM
section
variable (P:Program)(w:World)(O Lt:Nat->Prop)
def Hw (e:TypeId)(xs:List IV)(v:Value):Prop:=
 0<Ag P e/\ ∃cs,w.ownsRow 0 e (Ag P e) v xs.length cs/\Kr P w O e xs cs/\ ∀u∈cs,u.oneCell'=true
def Aie (kt vt:TypeId)(xs:List IV)(v:Value):Prop:=
 ∃ (r cl:Nat) (es:Array MapEntry),v= .map (some r)/\w.heap[r]?=some (.map es cl)/\Avj P kt=true/\Kq P w O kt vt xs es.toList
def O2 (t:TypeId)(x:IV)(v:Value):Prop:=
 ∃ys,x= .list ys/\((∃e,P.underlying t=some (.slice e)/\Hw P w O e ys v)\/ ∃kt vt,P.underlying t=some (.map kt vt)/\Aie P w O kt vt ys v)
def Cg:List Bool->List TypeId->List IV->List Value->List Nat->Prop
 | [],[],[],[],L=>L= []
 | true::bs,t::ts,x::xs,v::vs,L=> ∃L',O2 P w O t x v/\Cg bs ts xs vs L'/\L=(blk v).toList ++L'
 | false::bs,t::ts,x::xs,v::vs,L=>Rel P w O t x v/\Cg bs ts xs vs L
 | _,_,_,_,_=>False
def Rf (t:TypeId)(bs:List Bool)(xs:List IV)(v:Value)(L:List Nat):Prop:=
 ∃ts,leaves P t=some ts/\v.cells.size=Ag P t/\(if Ak P t then ∃cs,v= .agg cs else v.oneCell'=true)/\Cg P w O bs ts xs v.cells.toList L
def Aba (t:TypeId)(bs:List Bool)(xs:List IV)(v:Value)(L:List Nat):Prop:=
 ∃b u L',v= .pointer (some ⟨b,0,none⟩)/\w.heap[b]?=some (.cells u.cells t (0,0))/\Rf P w O t bs xs u L'/\L=b::L'
def Jb:List (TypeId × List Bool)->List IV->List Value->List Nat->Prop
 | [],xs,[],L=>xs= []/\L= []
 | b::bs,xs,v::vs,L=> ∃ys zs L1 L2,xs=ys++zs/\L=L1++L2/\Aba P w O b.1 b.2 ys v L1/\Jb bs zs vs L2
 | _,_,_,_=>False
def Rc (t:TypeId)(x:IV)(v:Value):Prop:=
 ∃ad u,v= .pointer (some ad)/\E2 w ad u (Ag P t)/\0<Ag P t/\ ¬ Lt ad.block/\Rel P w O t x u
def Ie:List TypeId->List IV->List Value->Prop
 | [],[],[]=>True
 | t::ts,x::xs,v::vs=>Rc P w O Lt t x v/\Ie ts xs vs
 | _,_,_=>False
def ArgRel:PS->List IV->Value->List Nat->Prop
 | .data t,xs,v,L=> ∃x,xs= [x]/\L= []/\Rel P w O t x v
 | .arr t,xs,v,L=> ∃e ys,xs= [.list ys]/\L=(blk v).toList /\P.underlying t=some (.slice e)/\Hw P w O e ys v
 | .own t,xs,v,L=> ∃e ys,xs= [.list ys]/\L=(blk v).toList /\P.underlying t=some (.slice e)/\Hw P w O e ys v
 | .box t bs,xs,v,L=>Aba P w O t bs xs v L
 | .fnb _ _,xs,_,L=>xs= []/\L= []
 | .fn f ts,xs,v,L=> ∃vs:Array Value,v= .func (.func f) #[] vs/\L= []/\Ie P w O Lt ts xs vs.toList
 | .rd t,xs,v,L=> ∃x,xs= [x]/\L= []/\Rc P w O Lt t x v
 | .bld t _,xs,v,L=> ∃b a c ys st e,v= .pointer (some ⟨b,0,none⟩)/\w.heap[b]?=some (.cells #[a,c] t (0,0))/\(a= .pointer none\/a=v)/\A0y P t=some (st,e)/\xs= [.list ys]/\Hw P w O e ys c/\L=b::(blk c).toList
def E1:List PS->List IV->List Value->List Nat->Prop
 | [],xs,[],L=>xs= []/\L= []
 | p::a,xs,v::vs,L=> ∃ys zs L1 L2,xs=ys++zs/\L=L1++L2/\ArgRel P w O Lt p ys v L1/\E1 a zs vs L2
 | _,_,_,_=>False
def Aaq:RS->List IV->Value->List Nat->Prop
 | .whole t,xs,v,L=> ∃x,xs= [x]/\L= []/\Rel P w O t x v
 | .cells t bs,xs,v,L=>Rf P w O t bs xs v L
 | .skip,xs,_,L=>xs= []/\L= []
 | .nbox t bs,xs,v,L=>Jb P w O [(t,bs)] xs [v] L
 | .clo f bxs,xs,v,L=> ∃caps:Array Value,v= .func (.func f) #[] caps/\Jb P w O bxs xs caps.toList L
 | .clip t,xs,v,L=> ∃x,xs= [x]/\L= []/\Rel P w O t x v/\ ∃A n,v= .slice A n n
 | .strict t,xs,v,L=> ∃x,xs= [x]/\L= []/\Rel P w O t x v/\ ∃ys A cap,x= .list ys/\v= .slice A ys.length cap/\(ys= []->v= .slice none 0 0)
def I1:List RS->List IV->List Value->List Nat->Prop
 | [],xs,[],L=>xs= []/\L= []
 | p::a,xs,v::vs,L=> ∃ys zs L1 L2,xs=ys++zs/\L=L1++L2/\Aaq P w O p ys v L1/\I1 a zs vs L2
 | _,_,_,_=>False
def PS.Dp:PS->Bool
 | .box _ _=>true
 | .arr _=>true
 | .bld _ b=>b
 | _=>false
def Cr:List PS->List IV->List Value->List Nat->Prop
 | [],xs,[],L=>xs= []/\L= []
 | p::a,xs,v::vs,L=>
  if p.Dp then ∃ys zs L1 L2,xs=ys++zs/\L=L1++L2/\ArgRel P w O (λ_=>False) p ys v L1/\Cr a zs vs L2
  else Cr a xs vs L
 | _,_,_,_=>False
end
def packed:List Value->Value
 | [v]=>v
 | vs=> .tuple vs.toArray
structure Z3 (P:Program)(X:Nat->Prop)(s:Spec)(args:List Value)(L:List Nat)(rs:List IV)(w:World)(v:Value)(w':World):Prop where
 step:Hz (· ∈L) w w'
 out: ∃vs xs ys L1 L2,v=packed vs/\rs=xs++ys/\(L1++L2).Nodup /\(∀b∈L1++L2,b∈L\/w.heap.size<=b)/\
  I1 P w' (λb=>X b\/b∈L1++L2) s.results xs vs L1/\Cr P w' (λb=>X b\/b∈L1++L2) s.params ys args L2
def Awt (P:Program)(f:FuncId)(args:Array Value)(w:World)(R:Value->World->Prop):Prop:=
 (∃fn,P.funcs[f]?=some fn/\(fn.name == "runtime.NumGoroutine")=false/\fn.body.isNone=false/\Calls P f args w λe w'=> ∃v,e= .returned v/\R v w')\/
 (∃v w',(callFunc f args).run P w= .ok (.value v) w'/\R v w')
theorem Awt.mono {P:Program}{f:FuncId}{args:Array Value}{w:World}{R R':Value->World->Prop}(h:Awt P f args w R)(c: ∀v w',R v w'->R' v w'):Awt P f args w R':=by
 rcases h with⟨fn,a,b,d,g⟩ | ⟨v,w',a,b⟩
 ·exact .inl ⟨fn,a,b,d,g.mono λe w' ⟨v,i,j⟩=>⟨v,i,c _ _ j⟩⟩
 ·exact .inr ⟨v,w',a,c _ _ b⟩
def Sound (P:Program)(specs:List (Nat × Spec))(R:Job->List IV->Option (List IV)):Prop:=
 ∀i s,(i,s)∈specs-> ∀ (w:World) (X:Nat->Prop) (xs:List IV) (args fargs:List Value) (L:List Nat) (rs:List IV),Kb 0 s.params args=some fargs->
  E1 P w (λb=>X b\/b∈L) (· ∈L) s.params xs fargs L->L.Nodup->(∀b∈L,¬ X b)->(∀b,X b->b<w.heap.size)->
  R ⟨i,0⟩ xs=some rs->Awt P s.fn args.toArray w (Z3 P X s fargs L rs w)
section
variable {P:Program}{w:World}{O O' Lt:Nat->Prop}
theorem Kr.weaken {e:TypeId}{xs:List IV}{cs:List Value}(h:Kr P w O e xs cs)(a: ∀b,b<w.heap.size->O' b->O b):Kr P w O' e xs cs:=λj x c=>
 let ⟨v,d,g⟩:=h j x c
 ⟨v,d.weaken a,g⟩
theorem Hw.weaken {e:TypeId}{xs:List IV}{v:Value}(h:Hw P w O e xs v)(a: ∀b,b<w.heap.size->O' b->O b):Hw P w O' e xs v:=
 ⟨h.1,let ⟨cs,c,d,g⟩:=h.2; ⟨cs,c,d.weaken a,g⟩⟩
theorem Aie.weaken {kt vt:TypeId}{xs:List IV}{v:Value}(h:Aie P w O kt vt xs v)(a: ∀b,b<w.heap.size->O' b->O b):Aie P w O' kt vt xs v:=
 let ⟨r,cl,es,c,d,e,g⟩:=h; ⟨r,cl,es,c,d,e,g.imp λ_ _ _ h=>h.weaken a⟩
theorem O2.weaken {t:TypeId}{x:IV}{v:Value}(h:O2 P w O t x v)(d: ∀b,b<w.heap.size->O' b->O b):O2 P w O' t x v:=
 let ⟨ys,g,i⟩:=h; ⟨ys,g,i.imp (fun⟨e,a,c⟩=>⟨e,a,c.weaken d⟩) fun⟨kt,vt,a,c⟩=>⟨kt,vt,a,c.weaken d⟩⟩
theorem Cg.weaken (a: ∀b,b<w.heap.size->O' b->O b): ∀ {bs:List Bool} {ts:List TypeId} {xs:List IV} {vs:List Value} {L:List Nat},Cg P w O bs ts xs vs L->Cg P w O' bs ts xs vs L
 | [],[],[],[],_,h=>h
 | true::bs,t::ts,x::xs,v::vs,L,h=>by
  obtain⟨L',c,d,e⟩:=h
  exact⟨L',c.weaken a,Cg.weaken a d,e⟩
 | false::bs,t::ts,x::xs,v::vs,L,h=>⟨h.1.weaken a,Cg.weaken a h.2⟩
 | [],[],[],_::_,_,h=>h.elim
 | [],[],_::_,_,_,h=>h.elim
 | [],_::_,_,_,_,h=>h.elim
 | _::_,[],_,_,_,h=>by simp[Cg]at h
 | _::_,_::_,[],_,_,h=>by simp[Cg]at h
 | _::_,_::_,_::_,[],_,h=>by simp[Cg]at h
theorem Rf.weaken {t:TypeId}{bs:List Bool}{xs:List IV}{v:Value}{L:List Nat}(h:Rf P w O t bs xs v L)(a: ∀b,b<w.heap.size->O' b->O b):Rf P w O' t bs xs v L:=
 let ⟨ts,c,d,e,g⟩:=h; ⟨ts,c,d,e,g.weaken a⟩
theorem Aba.weaken {t:TypeId}{bs:List Bool}{xs:List IV}{v:Value}{L:List Nat}(h:Aba P w O t bs xs v L)(a: ∀b,b<w.heap.size->O' b->O b):Aba P w O' t bs xs v L:=
 let ⟨b,u,L',c,d,e,g⟩:=h; ⟨b,u,L',c,d,e.weaken a,g⟩
theorem Jb.weaken (a: ∀b,b<w.heap.size->O' b->O b): ∀ {bs:List (TypeId × List Bool)} {xs:List IV} {vs:List Value} {L:List Nat},Jb P w O bs xs vs L->Jb P w O' bs xs vs L
 | [],_,[],_,h=>h
 | _::_,_,_::_,_,h=>by
  obtain⟨ys,zs,L1,L2,c,d,e,g⟩:=h
  exact⟨ys,zs,L1,L2,c,d,e.weaken a,g.weaken a⟩
 | [],_,_::_,_,h=>h.elim
 | _::_,_,[],_,h=>h.elim
theorem Aaq.weaken {r:RS}{xs:List IV}{v:Value}{L:List Nat}(h:Aaq P w O r xs v L)(e: ∀b,b<w.heap.size->O' b->O b):Aaq P w O' r xs v L:=by
 cases r with
 | whole t=>obtain⟨x,a,d,g⟩:=h;exact⟨x,a,d,g.weaken e⟩
 | clip t=>obtain⟨x,a,d,g,i⟩:=h;exact⟨x,a,d,g.weaken e,i⟩
 | strict t=>obtain⟨x,a,d,g,i⟩:=h;exact⟨x,a,d,g.weaken e,i⟩
 | skip=>exact h
 | cells t bs=>exact Rf.weaken h e
 | nbox t bs=>exact Jb.weaken e h
 | clo f bxs=>obtain⟨c,a,d⟩:=h;exact⟨c,a,d.weaken e⟩
theorem Rc.weaken {t:TypeId}{x:IV}{v:Value}(h:Rc P w O Lt t x v)(a: ∀b,b<w.heap.size->O' b->O b):Rc P w O' Lt t x v:=
 let ⟨ad,u,c,d,e,g,i⟩:=h; ⟨ad,u,c,d,e,g,i.weaken a⟩
theorem Ie.weaken (a: ∀b,b<w.heap.size->O' b->O b): ∀ {ts:List TypeId} {xs:List IV} {vs:List Value},Ie P w O Lt ts xs vs->Ie P w O' Lt ts xs vs
 | [],[],[],_=>trivial
 | _::_,_::_,_::_,h=>⟨h.1.weaken a,Ie.weaken a h.2⟩
 | [],[],_::_,h=>h.elim
 | [],_::_,_,h=>h.elim
 | _::_,[],_,h=>h.elim
 | _::_,_::_,[],h=>h.elim
theorem ArgRel.weaken {p:PS}{xs:List IV}{v:Value}{L:List Nat}(h:ArgRel P w O Lt p xs v L)(g: ∀b,b<w.heap.size->O' b->O b):ArgRel P w O' Lt p xs v L:=by
 cases p with
 | data t=>obtain⟨x,a,c,d⟩:=h;exact⟨x,a,c,d.weaken g⟩
 | arr t=>obtain⟨e,ys,a,c,d,i⟩:=h;exact⟨e,ys,a,c,d,i.weaken g⟩
 | own t=>obtain⟨e,ys,a,c,d,i⟩:=h;exact⟨e,ys,a,c,d,i.weaken g⟩
 | box t bs=>exact Aba.weaken h g
 | fnb f n=>exact h
 | fn f ts=>obtain⟨vs,a,c,d⟩:=h;exact⟨vs,a,c,d.weaken g⟩
 | rd t=>obtain⟨x,a,c,d⟩:=h;exact⟨x,a,c,d.weaken g⟩
 | bld t bk=>obtain⟨b,j,m,ys,st,e,a,c,d,i,o,q,r⟩:=h;exact⟨b,j,m,ys,st,e,a,c,d,i,o,q.weaken g,r⟩
theorem E1.weaken (a: ∀b,b<w.heap.size->O' b->O b): ∀ {c:List PS} {xs:List IV} {vs:List Value} {L:List Nat},E1 P w O Lt c xs vs L->E1 P w O' Lt c xs vs L
 | [],_,[],_,h=>h
 | _::_,_,_::_,_,h=>by
  obtain⟨ys,zs,L1,L2,d,e,g,i⟩:=h
  exact⟨ys,zs,L1,L2,d,e,g.weaken a,i.weaken a⟩
 | [],_,_::_,_,h=>h.elim
 | _::_,_,[],_,h=>h.elim
end
section
variable {P:Program}{N:Nat}{X X':Nat->Prop}{R:Job->List IV->Option (List IV)}{ρ:List IV}{K:Nat->Prop}{S:View}{μ:Nat->Value}{a:Act}{w:World}{es es':ES}{ls:List PLt}{sx:SX}
 {tm:Nat->SV} {ob ob':Nat->Option Ob}
theorem Good.move (G:Good P N X ρ K tm ob μ a w)(h: ∀k o,ob' k=some o->ob k=some o)(m: ∀b,X' b->X b\/Wr ob μ b)(d: ∀k o b,ob' k=some o->o.Gl=true->blk (μ k)=some b-> ¬ X' b):
  Good P N X' ρ K tm ob' μ a w:=by
 have q: ∀b,Wr ob' μ b->Wr ob μ b:=λb ⟨k,o,e,g,i⟩=>⟨k,o,h k o e,g,i⟩
 have L:Ek K (Bs P X ρ ob μ w) (Bs P X' ρ ob' μ w):=
  {P:=rfl,ρ:=λ_ _ h=>h,μ:=λ_ _=>rfl,stays:=cL _ _,O:=λb _ c=>c.elim (λc=>m b c) λc=> .inr (q b c),W:=λb _ c=>q b c,WO:=λb c=> .inr c}
 refine⟨G.size,G.defers,λs=>L.Awj (G.kt s) (G.slot s),λk o j=>L.Akc (G.ko k o (h k o j)).1 (G.ko k o (h k o j)).2 (λ_ b _ _=>rfl) (G.obj k o (h k o j)),
  λk r o o' b e g i t u x=>G.sep k r o o' b (h k o e) (h r o' g) i t u x,d,λb c=>?_,G.kt,λk o j=>G.ko k o (h k o j)⟩
 rcases m b c with c | ⟨k,o,e,g,i⟩
 ·exact G.xlt b c
 ·exact G.On e g i
theorem Good.A0j (G:Good P N X ρ K tm ob μ a w)(h: ∀b,X b↔X' b):Good P N X' ρ K tm ob μ a w:=by
 have:X=X':=funext λb=>propext (h b)
 grind
theorem Good.Af2 (G:Good P N X ρ K tm ob μ a w){k:Nat}{o:Ob}(h:ob k=some o)(i:o.Gl=true):
  Good P N (λb=>X b\/b∈(blk (μ k)).toList) ρ K tm (B5 ob k none) μ a w:=by
 have d: ∀c o',B5 ob k none c=some o'->c≠k/\ob c=some o':=by
  intro c o' h'
  unfold B5 at h'
  grind
 refine G.move (λc o' h'=>(d c o' h').2) (λb j=>j.imp id λj=>⟨k,o,h,i,by grind⟩) (λc o' b g m q e=>?_)
 rcases e with e | e
 ·exact G.xsep c o' b (d c o' g).2 m q e
 ·exact(d c o' g).1 (G.sep c k o' o b (d c o' g).2 h m i q (by grind))
variable (P N X ρ K S μ a w) in
structure Qw (L:List Nat)(es es':ES):Prop where
 C8:Good P N (λb=>X b\/b∈L) ρ K S.tm (cur S es'.obs) μ a w
 Es:Kc (cur S es.obs) (cur S es'.obs)
 m:es'.m=es.m
 gs:es'.gs=es.gs
 own: ∀b∈L,Wr (cur S es.obs) μ b
 nodup:L.Nodup
theorem Ph.Af2 (p:Ph P N X ρ K S μ a w es es'):Qw P N X ρ K S μ a w [] es es':=
 ⟨p.C8.A0j λb=>by simp,p.Es,p.m,p.gs,by simp,List.nodup_nil⟩
theorem Qw.congr {L:List Nat}(h:Qw P N X ρ K S μ a w L es es')(c: ∀b,X b↔X' b):Qw P N X' ρ K S μ a w L es es':=by
 have:X=X':=funext λb=>propext (c b)
 grind
theorem Qw.trans {L1 L2:List Nat}{e1 g i:ES}(h:Qw P N X ρ K S μ a w L1 e1 g)(h':Qw P N (λb=>X b\/b∈L1) ρ K S μ a w L2 g i):Qw P N X ρ K S μ a w (L1++L2) e1 i:=by
 refine⟨h'.C8.A0j λb=>by grind,h.Es.trans h'.Es,h'.m.trans h.m,h'.gs.trans h.gs,λb d=>?_,?_⟩
 ·rcases aI.1 d with d | d
  ·exact h.own b d
  ·exact h.Es.wr (h'.own b d)
 ·rw[aO]
  refine⟨h.nodup,h'.nodup,λb j c q e=>?_⟩
  subst e
  obtain⟨k,o,r,t,u⟩:=h'.own b q
  exact h.C8.xsep k o b r t u (.inr j)
theorem Qw.later {L:List Nat}(h:Qw P N X ρ K S μ a w L es es'):Ek K (Bs P X ρ (cur S es.obs) μ w) (Bs P (λb=>X b\/b∈L) ρ (cur S es'.obs) μ w):=
 {P:=rfl,ρ:=λ_ _ h=>h,μ:=λ_ _=>rfl,stays:=cL _ _,O:=λb _ c=>c.elim (λc=>c.imp id (h.own b)) λc=> .inr (h.Es.wr c),W:=λ_b _ c=>h.Es.wr c,WO:=λ_b c=> .inr c}
theorem Qw.drop (G:Good P N X ρ K S.tm (cur S es.obs) μ a w){k:Nat}{o:Ob}{n:Nat}(h:cur S es.obs k=some o)(c:o.Gl=true):
  Qw P N X ρ K S μ a w (blk (μ k)).toList es {es with n,obs:=(k,none)::es.obs} :=by
 refine⟨?_,?_,rfl,rfl,λb d=>⟨k,o,h,c,by grind⟩,by grind⟩
 ·show Good P N _ ρ K S.tm (cur S ((k,none)::es.obs)) μ a w
  rw[Bz];exact G.Af2 h c
 ·show Kc (cur S es.obs) (cur S ((k,none)::es.obs))
  rw[Bz];exact(G.drop k).2
end
end Go.CT
namespace Go.CT
open EM
section
variable {P:Program}{N:Nat}{X:Nat->Prop}{R:Job->List IV->Option (List IV)}{ρ:List IV}{K:Nat->Prop}{S:View}{μ:Nat->Value}{a:Act}{w:World}{es es':ES}{ls:List PLt}{sx:SX}
theorem Me {base e sz n:Nat}{v:Value}{cs:List Value}(h:w.ownsRow base e sz v n cs):v.ownBlock=blk v/\v.oneCell'=true/\ ∃A n cap,v= .slice A n cap:=by
 obtain⟨_,h⟩:=h
 rcases h with⟨rfl,_⟩ | ⟨g,cap,cu,rfl,_⟩
 ·exact⟨rfl,rfl,_,_,_,rfl⟩
 ·exact⟨rfl,rfl,_,_,_,rfl⟩
theorem Qn {e:TypeId}{l:LV}{x:Arg}{v:Value}(G:Good P N X ρ K S.tm (cur S es.obs) μ a w)(h:Ev S (Up P e l) es x es' ls)(o:LH R ρ ls)(F:holds ρ es.gs=some true)
  (q:Aav (Bs P X ρ (cur S es.obs) μ w) l v):
  ∃ys,x.ev ρ=some (.list ys)/\Qw P N X ρ K S μ a w (blk v).toList es es'/\Hw P w (λb=>(X b\/b∈(blk v).toList)\/Wr (cur S es'.obs) μ b) e ys v:=by
 unfold Up at h
 rw[Ab]at h
 obtain⟨_,_,_,_,y,h,rfl⟩:=h
 rw[Af]at y
 obtain⟨j,rfl,rfl⟩:=y
 simp only[decide_eq_true_eq]at j
 have o:=o.right
 rw[Ab]at h
 obtain⟨⟨old,c⟩,e1,U,_,H,h,rfl⟩:=h
 obtain⟨⟨z,rfl⟩,ivs,cs,B,m,r,I,J⟩:=Rl (sv:= .leaf l) G H o.left F q j
 have i: ∀u∈cs,u.oneCell'=true:=by
  have L:Kr P w (Bs P X ρ (cur S es.obs) μ w).O e ivs cs:=r
  obtain⟨us,r1,rfl⟩:=L.Asc m.1
  exact Gp λv q=>(r1.size v q).2
 obtain⟨b1,_,A,n,cap,rfl⟩:=Me m
 cases old with
 | none=>
  have:=I rfl
  injection this with i1 i2 M;subst i1;subst i2;subst M
  simp only[Ry,Ab,Ad]at h
  obtain⟨_,_,_,_,⟨_,rfl,rfl⟩,⟨rfl,rfl,rfl⟩,rfl⟩:=h
  have p:Ph P N X ρ K S μ a w es {es with n:=z} := .same G rfl rfl rfl
  refine⟨ivs,B,p.Af2,j,cs,m,r.weaken λb _ g=>?_,i⟩
  rcases g with (g | g) | g
  ·exact .inl g
  ·simp[blk]at g
  ·exact .inr g
 | some k=>
  obtain⟨⟨t,Y,Q⟩,C⟩:=J k rfl
  rw[b1]at C
  simp only[Ry,Ab,Bp,Ad]at h
  obtain⟨_,_,_,_,⟨rfl,rfl⟩,⟨rfl,rfl,rfl⟩,rfl⟩:=h
  have d:=Qw.drop (n:=z) G Q rfl
  rw[<-C]at d
  exact⟨ivs,B,d,j,cs,m,r.weaken λb g T=>d.later.O b g T,i⟩
theorem Rel.as {O:Nat->Prop}{al:Bool}{t:TypeId}{x:Arg}{v:Value}{c:Cx}(a:R0 c x t v)(hd:al=true->Vr c x t v)(g: ∀b,O b->al=true/\c.O b): ∃iv,x.ev c.ρ=some iv/\Rel c.P c.w O t iv v:=by
 cases al with
 | true=>
  obtain⟨iv,d,e⟩:=hd rfl
  exact⟨iv,d,e.weaken λb _ a=>(g b a).2⟩
 | false=>
  obtain⟨iv,d,e,_⟩:=a
  exact⟨iv,d,e.weaken λb _ a=>by have:=(g b a).1;simp at this⟩
theorem Aql {t:TypeId}{l:LV}{x:Arg}{v:Value}(G:Good P N X ρ K S.tm (cur S es.obs) μ a w)(h:Ev S (Ak8 P t l) es x es' ls)
  (j:Aav (Bs P X ρ (cur S es.obs) μ w) l v):
  ∃ys kt vt,x.ev ρ=some (.list ys)/\Qw P N X ρ K S μ a w (blk v).toList es es'/\P.underlying t=some (.map kt vt)/\Aie P w (λb=>(X b\/b∈(blk v).toList)\/Wr (cur S es'.obs) μ b) kt vt ys v:=by
 unfold Ak8 at h
 split at h
 ·rename_i k C
  rw[Ab]at h
  obtain⟨o,_,_,F,i,h,rfl⟩:=h
  rw[B6]at i
  obtain⟨e,rfl,rfl⟩:=i
  cases o with
  | box=>simp[Ac]at h
  | frz=>simp[Ac]at h
  | iter=>simp[Ac]at h
  | arr=>simp[Ac]at h
  | mp H kt vt c=>
   simp only[Ab,Af,Bp,Ad]at h
   obtain⟨_,_,_,_,⟨g,rfl,rfl⟩,⟨_,_,_,_,⟨rfl,rfl⟩,⟨rfl,rfl,rfl⟩,rfl⟩,rfl⟩:=h
   have g:At8 P t=some (kt,vt):=by simpa using g
   obtain⟨r,cl,ents,ivs,m,q,I,u,y,z⟩:=G.obj k _ e
   have A:v=μ k:=j.1
   subst A
   have d:=Qw.drop (n:=es.n) G e rfl
   exact⟨ivs,kt,vt,y,d,R8 g,r,cl,ents,m,q,u,z.imp λ_ _ _ h=>h.weaken λb B e=>d.later.O b B e⟩
 ·simp[Ac]at h
theorem Arq {t:TypeId}{l:LV}{x:Arg}{v:Value}(G:Good P N X ρ K S.tm (cur S es.obs) μ a w)(h:Ev S (Alo P t l) es x es' ls)(g:LH R ρ ls)(i:holds ρ es.gs=some true)
  (d:Aav (Bs P X ρ (cur S es.obs) μ w) l v):
  ∃y,x.ev ρ=some y/\Qw P N X ρ K S μ a w (blk v).toList es es'/\O2 P w (λb=>(X b\/b∈(blk v).toList)\/Wr (cur S es'.obs) μ b) t y v:=by
 unfold Alo at h
 split at h
 ·rename_i e j
  obtain⟨ys,r1,r2,c⟩:=Qn G h g i d
  exact⟨_,r1,r2,ys,rfl,.inl ⟨e,Bo j,c⟩⟩
 ·obtain⟨ys,kt,vt,r1,r2,c,m⟩:=Aql G h d
  exact⟨_,r1,r2,ys,rfl,.inr ⟨kt,vt,c,m⟩⟩
theorem Ad4 {t:TypeId}{l:LV}{x:Arg}(h:Ev S (D5 P false t l) es x es' ls)(a:Dl P t=none):Ev S (D5 P true t l) es x es' ls:=by
 cases l with
 | ref k u=>
  exfalso
  unfold D5 at h
  simp only[Ab,B6]at h
  obtain⟨o,_,_,ls2,⟨b,rfl,rfl⟩,h,rfl⟩:=h
  cases o<;>simp[Ac,Ab,Af,a]at h
 | sub k lo c u=>
  exfalso
  unfold D5 at h
  simp only[Ab,B6]at h
  obtain⟨o,_,_,ls2,⟨b,rfl,rfl⟩,h,rfl⟩:=h
  cases o<;>simp[Ac,Ab,Af,a]at h
 | _=>exact h
theorem Oi: ∀ {bs:List Bool} {ts:List TypeId} {lvs:List LV} {es es':ES} {as:List Arg} {ls:List PLt},Ev S (E9 P false bs ts lvs) es as es' ls->E8 P bs ts=true->Ev S (E9 P true bs ts lvs) es as es' ls
 | [],[],[],es,es',as,ls,h,a=>h
 | o::bs,t::ts,l::lvs,es,es',as,ls,h,a=>by
  unfold E9 at h ⊢
  rw[Ab]at h ⊢
  obtain⟨x,e1,b,q,c,d,rfl⟩:=h
  rw[Ab]at d
  obtain⟨y,e,g,i,j,m,rfl⟩:=d
  cases o with
  | true=>
   simp only[E8,aA]at a
   exact⟨x,e1,b,_,c,Ab.2 ⟨y,e,g,i,Oi j a.2,m,rfl⟩,rfl⟩
  | false=>
   simp only[E8,aA,bM]at a
   exact⟨x,e1,b,_,Ad4 c a.1,Ab.2 ⟨y,e,g,i,Oi j a.2,m,rfl⟩,rfl⟩
 | [],[],_::_,_,_,_,_,h,_=>by simp[E9,Ac]at h
 | [],_::_,_,_,_,_,_,h,_=>by simp[E9,Ac]at h
 | _::_,[],_,_,_,_,_,h,_=>by simp[E9,Ac]at h
 | _::_,_::_,[],_,_,_,_,h,_=>by simp[E9,Ac]at h
def Auk (al:Bool)(X:Nat->Prop)(L:List Nat)(ob:Nat->Option Ob)(μ:Nat->Value)(b:Nat):Prop:=al=true/\((X b\/b∈L)\/Wr ob μ b)
theorem Ny: ∀ {bs:List Bool} {ts:List TypeId} {lvs:List LV} {X:Nat->Prop} {es es':ES} {as:List Arg} {ls:List PLt} {vs:List Value},Good P N X ρ K S.tm (cur S es.obs) μ a w->Ev S (E9 P true bs ts lvs) es as es' ls->LH R ρ ls->holds ρ es.gs=some true->
  (∀k∈lvs.flatMap Bf,K k)->Eo (Bs P X ρ (cur S es.obs) μ w) lvs vs->
  ∃xs L,aW ρ as=some xs/\Qw P N X ρ K S μ a w L es es'/\Cg P w (Auk true X L (cur S es'.obs) μ) bs ts xs vs L
 | [],[],[],X,es,es',as,ls,vs,G,h,d,e,j,c=>by
  unfold E9 at h
  rw[Ad]at h
  obtain⟨rfl,rfl,rfl⟩:=h
  cases vs with
  | cons=>exact c.elim
  | nil=>exact⟨[],[],rfl,(dC G).Af2,rfl⟩
 | o::bs,t::ts,l::lvs,X,es,es',as,ls,vs,G,h,d,e,j,c=>by
  cases vs with
  | nil=>exact c.elim
  | cons v vs=>
   unfold E9 at h
   simp only[Ab]at h
   obtain⟨x,e1,Q,_,q,⟨as,T,U,_,B,C,rfl⟩,rfl⟩:=h
   rw[Ad]at C
   obtain⟨rfl,rfl,rfl⟩:=C
   have g: ∀k∈lvs.flatMap Bf,K k:=λk F=>j k (by rw[aD];exact aB _ F)
   cases o with
   | true=>
    simp only[Amc,Zt]at q
    obtain⟨y,r1,r2,H⟩:=Arq G q d.left e c.1.2
    obtain⟨xs,L2,u,m,z⟩:=Ny r2.C8 B d.right.left (by rw[r2.gs];exact e) g (r2.later.Agt g c.2)
    refine⟨y::xs,_,Gx r1 u,r2.trans m,L2,H.weaken λb r i=>?_,z.weaken (λb r i=>?_),rfl⟩
    ·obtain⟨_,i⟩:=i
     have:=m.later.O b r (by simpa [Bs,or_assoc]using i)
     exact this
    ·exact⟨rfl,by simpa [or_assoc]using i.2⟩
   | false=>
    simp only[Amc,aG,Zf]at q
    obtain⟨p,Y,I⟩:=Ii G q d.left e c.1.2
    obtain⟨iv,J,M⟩:=I rfl
    obtain⟨xs,L2,u,m,z⟩:=Ny p.C8 B d.right.left (by rw[p.gs];exact e) g (p.later.Agt g c.2)
    have A:=p.Af2.trans (m.congr λb=>by simp)
    refine⟨iv::xs,L2,Gx J u,by simpa using A,M.weaken λb r i=>m.later.O b r i.2,z⟩
 | [],[],_::_,X,es,es',as,ls,vs,G,h,d,e,j,c=>by simp[E9,Ac]at h
 | [],_::_,_,X,es,es',as,ls,vs,G,h,d,e,j,c=>by simp[E9,Ac]at h
 | _::_,[],_,X,es,es',as,ls,vs,G,h,d,e,j,c=>by simp[E9,Ac]at h
 | _::_,_::_,[],X,es,es',as,ls,vs,G,h,d,e,j,c=>by simp[E9,Ac]at h
end
end Go.CT
namespace Go.CT
open EM
def Atr (P:Program)(K:Nat->Prop)(μ:Nat->Value):PS->Value->List Bk->Prop
 | .box t bs,u,l=> ∃k,l= [.box k t bs]/\K k/\μ k=u
 | .arr t,u,l=> ∃k e a,l= [.arr k e a]/\K k/\μ k=u/\P.underlying t=some (.slice e)/\P.underlying a=some (.slice e)
 | .bld t bk,u,l=> ∃k st e,A0y P t=some (st,e)/\l=(if bk then[.bld k t e st]else[])/\K k/\μ k=u
 | _,_,l=>l= []
def Rb (P:Program)(K:Nat->Prop)(μ:Nat->Value):List PS->List Value->List Bk->Prop
 | [],[],l=>l= []
 | p::c,u::us,l=> ∃a b,l=a++b/\Atr P K μ p u a/\Rb P K μ c us b
 | _,_,_=>False
section
variable {P:Program}{N:Nat}{X:Nat->Prop}{R:Job->List IV->Option (List IV)}{ρ:List IV}{K:Nat->Prop}{S:View}{μ:Nat->Value}{a:Act}{w:World}{es es':ES}{ls:List PLt}{sx:SX}
theorem Abv {al:Bool}{t:TypeId}{p:PV}{x:Arg}{v:Value}(G:Good P N X ρ K S.tm (cur S es.obs) μ a w)(h:Ev S (Aep P al t p) es x es' ls)(z:LH R ρ ls)(A:holds ρ es.gs=some true)
  (r:Af0 (Bs P X ρ (cur S es.obs) μ w) p v):
  Ph P N X ρ K S μ a w es es'/\ ∃iv,x.ev ρ=some iv/\Rc P w (Auk al X [] (cur S es'.obs) μ) (λ_=>False) t iv v:=by
 unfold Aep at h
 split at h
 ·rename_i k
  rw[Ab]at h
  obtain⟨o,_,_,l2,e,h,rfl⟩:=h
  rw[B6]at e
  obtain⟨y,rfl,rfl⟩:=e
  cases o with
  | arr=>simp[Ac]at h
  | frz=>simp[Ac]at h
  | iter=>simp[Ac]at h
  | mp=>simp[Ac]at h
  | box t0 vv=>
   rw[Ab]at h
   obtain⟨_,_,_,_,e,h,rfl⟩:=h
   rw[Af]at e
   obtain⟨g,rfl,rfl⟩:=e
   simp only[aA,beq_iff_eq,decide_eq_true_eq]at g
   obtain⟨rfl,g⟩:=g
   obtain⟨b,u,B,C,F,o4,o5,H⟩:=G.obj k _ y
   obtain⟨I,J,L⟩:=E3 G h (by simpa using z) A (G.ko k _ y).2 H
   obtain⟨iv,M,Q⟩:=Rel.as (O:=Auk al X [] (cur S es'.obs) μ) J L λb j=>⟨j.1,by simpa [Bs]using j.2⟩
   refine⟨I,iv,M,⟨b,0,none⟩,u,?_,⟨F,λi c T=>?_⟩,g,id,Q⟩
   ·obtain⟨U,r1,r2⟩:=r
    have d:μ k= .pointer (some ⟨U,0,none⟩):=r1
    have m:μ k= .pointer (some ⟨b,0,none⟩):=B
    rw[m]at d;injection d with d;injection d with d;injection d with d
    subst d
    rw[r2,Bg]
   ·rw[N1]
    have q:w.heap[b]?=some (.cells u.cells t (0,0)):=C
    simp only[World.cell?,q]
    exact T
 ·rename_i x' t0
  simp only[Ab,Af,Ad]at h
  obtain⟨_,_,_,_,⟨g,rfl,rfl⟩,⟨rfl,rfl,rfl⟩,rfl⟩:=h
  have:t=t0:=by grind
  subst this
  obtain⟨ad,u,⟨iv,r1,r2⟩,Y,Z,r5,r6⟩:=r
  refine⟨.refl G,iv,r1,ad,u,by rw[r6,Bg],Y,Z,id,r2.weaken λb _ j=>by simpa [Bs]using j.2⟩
 ·simp[Ac]at h
theorem Zh {al:Bool} : ∀ {ts:List TypeId} {d:List PV} {es es':ES} {as:List Arg} {ls:List PLt} {vs:List Value},Good P N X ρ K S.tm (cur S es.obs) μ a w->Ev S (Ki P al ts d) es as es' ls->LH R ρ ls->holds ρ es.gs=some true->
  (∀k∈d.flatMap Eg,K k)->Oz (Bs P X ρ (cur S es.obs) μ w) d vs->
  Ph P N X ρ K S μ a w es es'/\ ∃xs,aW ρ as=some xs/\Ie P w (Auk al X [] (cur S es'.obs) μ) (λ_=>False) ts xs vs
 | [],[],es,es',as,ls,vs,G,h,e,g,j,c=>by
  unfold Ki at h
  rw[Ad]at h
  obtain⟨rfl,rfl,rfl⟩:=h
  cases vs with
  | cons=>exact c.elim
  | nil=>exact⟨.refl G,[],rfl,trivial⟩
 | t::ts,p::d,es,es',as,ls,vs,G,h,e,g,j,c=>by
  cases vs with
  | nil=>exact c.elim
  | cons v vs=>
   unfold Ki at h
   simp only[Ab]at h
   obtain⟨x,e1,H,_,u,⟨as,I,J,_,y,o,rfl⟩,rfl⟩:=h
   rw[Ad]at o
   obtain⟨rfl,rfl,rfl⟩:=o
   have i: ∀k∈d.flatMap Eg,K k:=λk L=>j k (by grind)
   obtain⟨m,iv,z,A⟩:=Abv G u e.left g c.1
   obtain⟨q,xs,B,C⟩:=Zh m.C8 y e.right.left (by rw[m.gs];exact g) i (m.later.Af7 i c.2)
   refine⟨m.trans q,iv::xs,Gx z B,A.weaken λb F r=>⟨r.1,?_⟩,C⟩
   have:=q.later.O b F (by simpa [Bs]using r.2)
   simpa [Bs]using this
 | [],_::_,es,es',as,ls,vs,G,h,e,g,j,c=>by simp[Ki,Ac]at h
 | _::_,[],es,es',as,ls,vs,G,h,e,g,j,c=>by simp[Ki,Ac]at h
theorem Ats {al:Bool}{p:PS}{vv:VV}{r:List Arg × List Bk}{u:Value}(G:Good P N X ρ K S.tm (cur S es.obs) μ a w)(h:Ev S (A07 P al p vv) es r es' ls)(C:LH R ρ ls)(J:holds ρ es.gs=some true)
  (hk: ∀k∈Ay vv,K k) (F:Mq (Bs P X ρ (cur S es.obs) μ w) vv u) (i:p.Ez=true\/al=true):
  ∃xs L,aW ρ r.1=some xs/\Qw P N X ρ K S μ a w L es es'/\ArgRel P w (Auk al X L (cur S es'.obs) μ) (λ_=>False) p xs u L/\Atr P K μ p u r.2:=by
 unfold A07 at h
 cases p with
 | data t=>
  simp only[Ab,Ad]at h
  obtain⟨x,e1,l1,_,q,⟨rfl,rfl,rfl⟩,rfl⟩:=h
  obtain⟨M,Q,T⟩:=E3 G q (by simpa using C) J hk F
  obtain⟨iv,U,z⟩:=Rel.as (O:=Auk al X [] (cur S e1.obs) μ) Q T λb m=>⟨m.1,by simpa [Bs]using m.2⟩
  exact⟨[iv],[],Gx U rfl,M.Af2,⟨iv,rfl,rfl,z⟩,rfl⟩
 | arr t=>
  have i:al=true:=by simpa [bH]using i
  subst i
  simp only at h
  split at h
  ·rename_i k t1
   rw[Ab]at h
   obtain⟨o,_,_,l2,A,h,rfl⟩:=h
   rw[B6]at A
   obtain⟨j,rfl,rfl⟩:=A
   cases o with
   | box=>simp[Ac]at h
   | frz=>simp[Ac]at h
   | iter=>simp[Ac]at h
   | mp=>simp[Ac]at h
   | arr e t' c=>
    simp only[Ab,Af,Bp,Ad]at h
    obtain⟨_,_,_,_,⟨B,rfl,rfl⟩,⟨_,_,_,_,⟨rfl,rfl⟩,⟨rfl,rfl,rfl⟩,rfl⟩,rfl⟩:=h
    have B:Dl P t=some e:=by grind
    obtain⟨ivs,cs,U,z,q3,q4,q5,q6⟩:=G.obj k _ j
    have z:P.underlying t'=some (.slice e):=z
    have Y:u=μ k:=F.1
    subst Y
    have d:=Qw.drop (n:=es.n) G j rfl
    refine⟨[.list ivs],_,Gx U rfl,d,⟨e,ivs,rfl,rfl,Bo B,q3,cs,q4,?_,q6⟩,k,e,t',rfl,(G.ko k _ j).1,rfl,Bo B,z⟩
    exact Kr.weaken (O:=(Bs P X ρ (cur S es.obs) μ w).O) q5 λb m j=>d.later.O b m j.2
  ·simp[Ac]at h
 | own t=>
  have i:al=true:=by simpa [bH]using i
  subst i
  simp only at h
  split at h
  ·rename_i l
   simp only[Ab,Ar,Ad]at h
   obtain⟨e,_,_,_,⟨q,rfl,rfl⟩,⟨x,e1,l1,_,h2,⟨rfl,rfl,rfl⟩,rfl⟩,rfl⟩:=h
   obtain⟨ys,r1,r2,r3⟩:=Qn G h2 (by simpa using C) J F
   exact⟨_,_,Gx r1 rfl,r2,⟨e,ys,rfl,rfl,Bo q,r3.weaken λb _ m=>m.2⟩,rfl⟩
  ·simp[Ac]at h
 | box t bs=>
  have i:al=true:=by simpa [bH]using i
  subst i
  simp only at h
  split at h
  ·rename_i k
   rw[Ab]at h
   obtain⟨o,_,_,l2,A,h,rfl⟩:=h
   rw[B6]at A
   obtain⟨j,rfl,rfl⟩:=A
   cases o with
   | arr=>simp[Ac]at h
   | frz=>simp[Ac]at h
   | iter=>simp[Ac]at h
   | mp=>simp[Ac]at h
   | box t0 v0=>
    simp only[Ab,Af,Bp,Ar,Ad]at h
    obtain⟨_,_,_,_,⟨B,rfl,rfl⟩,⟨cs,e1,l1,_,q,⟨_,_,_,_,⟨rfl,rfl⟩,⟨ts,_,_,_,⟨h2,rfl,rfl⟩,⟨as,e2,l3,_,h3,⟨rfl,rfl,rfl⟩,rfl⟩,rfl⟩,rfl⟩,rfl⟩,rfl⟩:=h
    have:t=t0:=by grind
    subst this
    obtain⟨b,v,y,H,o3,o4,o5,o6⟩:=G.obj k _ j
    have y:μ k= .pointer (some ⟨b,0,none⟩):=y
    have H:w.heap[b]?=some (.cells v.cells t (0,0)):=H
    obtain⟨⟨n1,rfl⟩,U,z⟩:=Km q (by simpa using LH.left (by simpa using C)) J (G.ko k _ j).2 o6
    have d:=Qw.drop (n:=n1) G j rfl
    obtain⟨xs,L,s1,s2,s3⟩:=Ny d.C8 h3 (by simpa using LH.right (by simpa using C)) (by omega) z (d.later.Agt z U)
    have Y:u=μ k:=by
     obtain⟨b',r1,r2⟩:=F
     have I:μ k= .pointer (some ⟨b',0,none⟩):=r1
     rw[r2,Bg,I]
    subst Y
    have m:(blk (μ k)).toList = [b]:=by rw[y];rfl
    refine⟨xs,_,s1,d.trans s2,⟨b,v,L,y,H,⟨ts,h2,o3,o4,s3.weaken λc Z hO=>⟨rfl,?_⟩⟩,by rw[m];rfl⟩,k,rfl,(G.ko k _ j).1,rfl⟩
    simpa [or_assoc]using hO.2
  ·simp[Ac]at h
 | fnb f n=>
  simp only[Ad]at h
  obtain⟨rfl,rfl,rfl⟩:=h
  exact⟨[],[],rfl,(dC G).Af2,⟨rfl,rfl⟩,rfl⟩
 | fn f ts=>
  simp only at h
  split at h
  ·rename_i g caps
   simp only[Ab,Af,Ad]at h
   obtain⟨_,_,_,_,⟨B,rfl,rfl⟩,⟨as,e1,l1,_,q,⟨rfl,rfl,rfl⟩,rfl⟩,rfl⟩:=h
   have:f=g:=by grind
   subst this
   obtain⟨vs,rfl,hp⟩:=F
   obtain⟨M,xs,Q,T⟩:=Zh G q (by simpa using C) J hk hp
   exact⟨xs,[],Q,M.Af2,⟨vs,rfl,rfl,T⟩,rfl⟩
  ·simp[Ac]at h
 | rd t=>
  simp only at h
  split at h
  ·rename_i p
   simp only[Ab,Ad]at h
   obtain⟨x,e1,l1,_,q,⟨rfl,rfl,rfl⟩,rfl⟩:=h
   obtain⟨M,iv,Q,T⟩:=Abv G q (by simpa using C) J F
   exact⟨[iv],[],Gx Q rfl,M.Af2,⟨iv,rfl,rfl,T⟩,rfl⟩
  ·simp[Ac]at h
 | bld t bk=>
  have i:al=true:=by simpa [bH]using i
  subst i
  simp only at h
  split at h
  ·rename_i k
   rw[Ab]at h
   obtain⟨o,_,_,l2,A,h,rfl⟩:=h
   rw[B6]at A
   obtain⟨j,rfl,rfl⟩:=A
   split at h
   ·rename_i t0 t1 k1 lv
    simp only[Ab,Af,Bp,Ar,Ad]at h
    obtain⟨se,_,_,_,⟨aa,rfl,rfl⟩,⟨_,_,_,_,⟨B,rfl,rfl⟩,⟨_,_,_,_,⟨rfl,rfl⟩,⟨x,e2,l3,_,h3,⟨rfl,rfl,rfl⟩,rfl⟩,rfl⟩,rfl⟩,rfl⟩:=h
    simp only[aA,beq_iff_eq]at B
    obtain⟨e0,e1⟩:=B
    subst e0;subst e1
    obtain⟨b,v,y,H,o3,o4,o5,o6⟩:=G.obj k1 _ j
    have y:μ k1= .pointer (some ⟨b,0,none⟩):=y
    have H:w.heap[b]?=some (.cells v.cells t (0,0)):=H
    have Y:u=μ k1:=by
     obtain⟨b',r1,r2⟩:=F
     have I:μ k1= .pointer (some ⟨b',0,none⟩):=r1
     rw[r2,Bg,I]
    subst Y
    obtain⟨cs,rfl,Z⟩:=o6
    obtain⟨c0,c1,ab⟩: ∃c0 c1,cs.toList= [c0,c1]:=by
     match ab:cs.toList,Z with
     | [c0,c1],_=>grind
     | [],h=>exact h.elim
     | [_],h=>exact h.2.elim
     | _::_::_::_,h=>exact h.2.2.elim
    rw[ab]at Z
    have ac:cs= #[c0,c1]:=by grind
    subst ac
    have d:=Qw.drop (n:=es.n) G j rfl
    have ad: ∀k∈Bf lv,K k:=λk' ae=>(G.ko k1 _ j).2 k' (by simp[He,Ay,ae])
    obtain⟨ys,r1,r2,r3⟩:=Qn d.C8 h3 (by simpa using C) (by omega) (d.later.A8e ad Z.2.1.2)
    have m:(blk (μ k1)).toList = [b]:=by rw[y];rfl
    refine⟨[.list ys],_,Gx r1 rfl,d.trans r2,⟨b,c0,c1,ys,se.1,se.2,y,H,?_,aa,rfl,r3.weaken λb' af hO=>?_,by rw[m];rfl⟩,k1,se.1,se.2,aa,rfl,(G.ko k1 _ j).1,rfl⟩
    ·exact Z.1.2.imp id λh=>h.1
    ·simpa [or_assoc]using hO.2
   ·simp[Ac]at h
  ·simp[Ac]at h
theorem Hb: ∀ {xs ys:List Arg} {us vs:List IV},aW ρ xs=some us->aW ρ ys=some vs->aW ρ (xs++ys)=some (us++vs)
 | [],ys,us,vs,a,b=>by
  simp only[aW,aC]at a
  grind
 | x::xs,ys,us,vs,a,b=>by
  unfold aW at a
  cases c:x.ev ρ with
  | none=>grind
  | some u=>
   cases d:aW ρ xs with
   | none=>grind
   | some r=>
    simp[c,d]at a
    subst a
    exact Gx c (Hb d b)
theorem Tl {al:Bool} : ∀ {e:List PS} {vvs:List VV} {X:Nat->Prop} {es es':ES} {r:List Arg × List Bk} {ls:List PLt} {us:List Value},Good P N X ρ K S.tm (cur S es.obs) μ a w->Ev S (R6 P al e vvs) es r es' ls->LH R ρ ls->
  holds ρ es.gs=some true->(∀k∈vvs.flatMap Ay,K k)->Gn (Bs P X ρ (cur S es.obs) μ w) vvs us->(e.all bH=true\/al=true)->
  ∃xs L,aW ρ r.1=some xs/\Qw P N X ρ K S μ a w L es es'/\E1 P w (Auk al X L (cur S es'.obs) μ) (λ_=>False) e xs us L/\Rb P K μ e us r.2
 | [],[],X,es,es',r,ls,us,G,h,g,i,j,d,c=>by
  unfold R6 at h
  rw[Ad]at h
  obtain⟨rfl,rfl,rfl⟩:=h
  cases us with
  | cons=>exact d.elim
  | nil=>exact⟨[],[],rfl,(dC G).Af2,⟨rfl,rfl⟩,rfl⟩
 | p::e,vv::vvs,X,es,es',r,ls,us,G,h,g,i,j,d,c=>by
  cases us with
  | nil=>exact d.elim
  | cons u us=>
   unfold R6 at h
   simp only[Ab]at h
   obtain⟨r1,e1,Q,_,z,⟨r2,T,U,_,A,t,rfl⟩,rfl⟩:=h
   rw[Ad]at t
   obtain⟨rfl,rfl,rfl⟩:=t
   have m: ∀k∈vvs.flatMap Ay,K k:=λk B=>j k (by grind)
   simp only[aP,aA]at c
   obtain⟨xs,L1,C,q,F,H⟩:=Ats G z g.left i (λk B=>j k (by grind)) d.1 (c.imp (·.1) id)
   obtain⟨ys,L2,I,x,J,M⟩:=Tl q.C8 A g.right.left (by rw[q.gs];exact i) m (q.later.Tp m d.2) (c.imp (·.2) id)
   refine⟨xs++ys,L1++L2,Hb C I,q.trans x,⟨xs,ys,L1,L2,rfl,rfl,F.weaken λb y o=>⟨o.1,?_⟩,J.weaken λb y o=>⟨o.1,by simpa [or_assoc]using o.2⟩⟩,_,_,rfl,H,M⟩
   have:=x.later.O b y (by simpa [Bs,or_assoc]using o.2)
   exact this
 | [],_::_,X,es,es',r,ls,us,G,h,g,i,j,d,c=>by simp[R6,Ac]at h
 | _::_,[],X,es,es',r,ls,us,G,h,g,i,j,d,c=>by simp[R6,Ac]at h
def PS.Apr:PS->Bool
 | .data _=>true
 | _=>false
theorem Aw7 {p:PS}{vv:VV}{r:List Arg × List Bk}(h:Ev S (A07 P false p vv) es r es' ls)(a:p.safe P=true)(hd:p.Apr=false):Ev S (A07 P true p vv) es r es' ls:=by
 cases p with
 | data t=>cases hd
 | arr t=>exact h
 | own t=>exact h
 | bld t b=>exact h
 | fnb f n=>exact h
 | rd t=>cases a
 | fn f ts=>
  have:ts= []:=by simpa [cM]using a
  subst this
  unfold A07 at h ⊢
  simp only at h ⊢
  split at h
  ·rename_i g caps
   have e:Ki P true [] caps=Ki P false [] caps:=by cases caps<;>rfl
   grind
  omega
 | box t bs=>
  unfold A07 at h ⊢
  simp only at h ⊢
  split at h
  ·rename_i k
   rw[Ab]at h ⊢
   obtain⟨o,e1,q,u,w,h,rfl⟩:=h
   refine⟨o,e1,q,u,w,?_,rfl⟩
   cases o with
   | box t0 v0=>
    simp only at h ⊢
    rw[Ab]at h ⊢
    obtain⟨x1,x,y,z,A,h,rfl⟩:=h
    refine⟨x1,x,y,z,A,?_,rfl⟩
    rw[Ab]at h ⊢
    obtain⟨B,C,F,G,H,h,rfl⟩:=h
    refine⟨B,C,F,G,H,?_,rfl⟩
    rw[Ab]at h ⊢
    obtain⟨I,J,K,L,M,h,rfl⟩:=h
    refine⟨I,J,K,L,M,?_,rfl⟩
    rw[Ab]at h ⊢
    obtain⟨ts,e5,N,c,m,h,rfl⟩:=h
    refine⟨ts,e5,N,c,m,?_,rfl⟩
    rw[Ab]at h ⊢
    obtain⟨as,Q,d,i,R,h,rfl⟩:=h
    refine⟨as,Q,d,i,Oi R ?_,h,rfl⟩
    obtain⟨j,_,_⟩:=Ar.1 m
    simpa [cM,j]using a
   | _=>omega
  omega
theorem Aqa {p:PS}{a:List PS}{v:VV}{vs:List VV}(hd:p.Apr=false):Af8 (p::a) (v::vs)=Af8 a vs:=by cases p<;>first | rfl | cases hd
theorem Akz {p:PS}{a:List PS}{v:VV}{vs:List VV}(hd:p.Apr=false):O8 (p::a) (v::vs)=O8 a vs:=by cases p<;>first | (cases v<;>rfl) | cases hd
theorem Xb {KS:List Nat} : ∀ {o:List PS} {vvs:List VV} {X:Nat->Prop} {es es':ES} {r:List Arg × List Bk} {ls:List PLt} {us:List Value},Good P N X ρ K S.tm (cur S es.obs) μ a w->Ev S (R6 P false o vvs) es r es' ls->LH R ρ ls->
  holds ρ es.gs=some true->(∀k∈vvs.flatMap Ay,K k)->Gn (Bs P X ρ (cur S es.obs) μ w) vvs us->o.all (cM P)=true->O8 o vvs=true->(∀k∈Af8 o vvs,∀e t c,cur S es.obs k=some (.arr e t c)->k∈KS)->
  ∃xs L,aW ρ r.1=some xs/\Qw P N X ρ K S μ a w L es es'/\E1 P w (λb=>(X b\/b∈L)/\ ∀k∈KS,blk (μ k)≠some b) (λ_=>False) o xs us L/\Rb P K μ o us r.2
 | [],[],X,es,es',r,ls,us,G,h,q,y,j,i,A,hd,g=>by
  unfold R6 at h
  rw[Ad]at h
  obtain⟨rfl,rfl,rfl⟩:=h
  cases us with
  | cons=>exact i.elim
  | nil=>exact⟨[],[],rfl,(dC G).Af2,⟨rfl,rfl⟩,rfl⟩
 | p::o,vv::vvs,X,es,es',r,ls,us,G,h,q,y,j,i,A,hd,g=>by
  cases us with
  | nil=>exact i.elim
  | cons u us=>
   unfold R6 at h
   simp only[Ab]at h
   obtain⟨r1,e1,l1,_,B,⟨r2,e2,l2,_,U,Y,rfl⟩,rfl⟩:=h
   rw[Ad]at Y
   obtain⟨rfl,rfl,rfl⟩:=Y
   have C: ∀k∈Ay vv,K k:=λk hm=>j k (by grind)
   have m: ∀k∈vvs.flatMap Ay,K k:=λk hm=>j k (by grind)
   simp only[aP,aA]at A
   cases hp:p.Apr with
   | false=>
    rw[Akz hp]at hd
    rw[Aqa hp]at g
    obtain⟨xs,L1,z,F,Z,p4⟩:=Ats G (Aw7 B A.1 hp) q.left y C i.1 (.inr rfl)
    obtain⟨ys,L2,I,H,q3,J⟩:=Xb F.C8 U q.right.left (by rw[F.gs];exact y) m (F.later.Tp m i.2) A.2 hd (λk j e t c d=>g k j e t c (F.Es k _ d rfl))
    refine⟨xs++ys,L1++L2,Hb z I,F.trans H,⟨xs,ys,L1,L2,rfl,rfl,Z.weaken λb hb d=>⟨rfl,?_⟩,q3.weaken λb hb d=>?_⟩,_,_,rfl,p4,J⟩
    ·rcases d.1 with d | d
     ·grind
     ·rcases aI.1 d with d | d
      ·grind
      ·exact .inr (H.own b d)
    grind
   | true=>
    cases p with
    | data t=>
     unfold A07 at B
     simp only[Ab,Ad]at B
     obtain⟨x,aa,ab,_,B,⟨rfl,rfl,rfl⟩,rfl⟩:=B
     obtain⟨z,F,Z⟩:=E3 G B (by simpa using q.left) y C i.1
     have M:(∃l,vv= .leaf l)\/Ay vv= []:=by
      cases vv with
      | leaf l=>grind
      | agg t' cs=>right;simp only[O8,aA,cH]at hd;exact hd.1
     have Q:O8 o vvs=true:=by
      cases vv with
      | leaf l=>exact hd
      | agg t' cs=>simp only[O8,aA]at hd;exact hd.2
     obtain⟨iv,d1,d2⟩:=Arw (KS:=KS) G B (by simpa using q.left) y C i.1 (λk j e t c d=>g k (by simp only[Af8];grind) e t c d) M
     obtain⟨ys,L2,I,H,q3,J⟩:=Xb z.C8 U q.right.left (by rw[z.gs];exact y) m (z.later.Tp m i.2) A.2 Q (λk j e t c d=>g k (by simp only[Af8];grind) e t c (z.Es k _ d rfl))
     have T:=z.Af2.trans (H.congr λb=>by simp)
     refine⟨[iv]++ys,[]++L2,Hb (Gx d1 rfl) I,T,⟨[iv],ys,[],L2,rfl,rfl,⟨iv,rfl,rfl,d2.weaken λb hb d=>⟨d.1.imp id λh=>z.Es.wr (H.own b (by grind)),d.2⟩⟩,by grind⟩,_,_,rfl,rfl,J⟩
    | _=>cases hp
 | [],_::_,X,es,es',r,ls,us,G,h,q,y,j,i,A,hd,g=>by simp[R6,Ac]at h
 | _::_,[],X,es,es',r,ls,us,G,h,q,y,j,i,A,hd,g=>by simp[R6,Ac]at h
theorem Vb: ∀ {ks r:List Nat} {es es':ES} {ls:List PLt},Ev S (Ru ks) es r es' ls->es=es'/\ls= []/\ ∀k∈ks,∀e t c,cur S es.obs k=some (.arr e t c)->k∈r
 | [],r,es,es',ls,h=>by
  unfold Ru at h
  rw[Ad]at h
  grind
 | k::ks,r,es,es',ls,h=>by
  unfold Ru at h
  rw[Ab]at h
  obtain⟨o,e1,x,a,g,h,rfl⟩:=h
  obtain⟨y,rfl,rfl⟩:=B6.1 g
  have other:Ev S (Ru ks) es r es' a->(∀e t c,o≠ .arr e t c)->es=es'/\ []++a= []/\ ∀b∈k::ks,∀e t c,cur S es.obs b=some (.arr e t c)->b∈r:=by
   intro h i
   obtain⟨z,A,j⟩:=Vb h
   grind
  cases o with
  | arr e t c=>
   simp only at h
   rw[Ab]at h
   obtain⟨B,C,F,G,m,d,rfl⟩:=h
   obtain⟨rfl,q,d⟩:=Ad.1 d
   obtain⟨u,w,j⟩:=Vb m
   grind
  | box=>grind
  | frz=>grind
  | iter=>grind
  | mp=>grind
theorem Pn {X0:Nat->Prop}{es0:ES}{L:List Nat}(d:Qw P N X0 ρ K S μ a w L es0 es): ∀ {ks:List Nat} {es':ES} {ls:List PLt} {u:Unit},Ev S (P4 ks) es u es' ls->es=es'/\ls= []/\ ∀k∈ks,∀b,blk (μ k)=some b->b∉L
 | [],es',ls,u,h=>by
  unfold P4 at h
  rw[Ad]at h
  grind
 | k::ks,es',ls,u,h=>by
  unfold P4 at h
  rw[Ab]at h
  obtain⟨o,e1,y,z,i,h,rfl⟩:=h
  obtain⟨j,rfl,rfl⟩:=B6.1 i
  cases o with
  | arr e t c=>
   obtain⟨m,q,A⟩:=Pn d h
   refine⟨m,by simp[q],λB g b r=>?_⟩
   rcases bW.1 g with rfl | g
   ·exact λx=>d.C8.xsep _ _ b j rfl r (.inr x)
   grind
  | box=>simp[Ac]at h
  | frz=>simp[Ac]at h
  | iter=>simp[Ac]at h
  | mp=>simp[Ac]at h
theorem Af4 {X0:Nat->Prop}{es0:ES}{L:List Nat}{p:PV}{v:Value}{u:Unit}(d:Qw P N X0 ρ K S μ a w L es0 es)(h:Ev S (Am7 p) es u es' ls)(q:Af0 (Bs P X0 ρ (cur S es0.obs) μ w) p v):
  es=es'/\ls= []/\ ∀ad,v= .pointer (some ad)->ad.block∉L:=by
 unfold Am7 at h
 cases p with
 | p k off=>
  simp only at h
  rw[Ab]at h
  obtain⟨o,_,_,A,r,h,rfl⟩:=h
  rw[B6]at r
  obtain⟨y,rfl,rfl⟩:=r
  cases o with
  | arr=>simp[Ac]at h
  | frz=>simp[Ac]at h
  | iter=>simp[Ac]at h
  | mp=>simp[Ac]at h
  | box t0 vv=>
   rw[Ad]at h
   obtain⟨_,rfl,rfl⟩:=h
   refine⟨rfl,rfl,λad c j=>?_⟩
   obtain⟨b,r1,r2⟩:=q
   have m:μ k= .pointer (some ⟨b,0,none⟩):=r1
   rw[c]at r2;injection r2 with r2;injection r2 with r2
   subst r2
   rw[Ec]at j
   exact d.C8.xsep k _ b y rfl (by rw[m];rfl) (.inr j)
 | im x t off=>
  simp only at h
  rw[Ad]at h
  obtain⟨_,rfl,rfl⟩:=h
  refine⟨rfl,rfl,λad c j=>?_⟩
  obtain⟨ad',u,B,C,F,z,g⟩:=q
  rw[c]at g;injection g with g;injection g with g
  subst g
  rw[Ec]at j
  exact z (d.own _ j)
 | el k e i off=>simp[Ac]at h
theorem Rc.apart {O Lt:Nat->Prop}{t:TypeId}{x:IV}{v:Value}(h:Rc P w O (λ_=>False) t x v)(b: ∀ad,v= .pointer (some ad)-> ¬ Lt ad.block):Rc P w O Lt t x v:=
 let ⟨ad,u,a,c,d,_,e⟩:=h; ⟨ad,u,a,c,d,b ad a,e⟩
theorem Ab3 {X0:Nat->Prop}{es0:ES}{L:List Nat}{O:Nat->Prop}(d:Qw P N X0 ρ K S μ a w L es0 es): ∀ {e:List PV} {ts:List TypeId} {xs:List IV} {vs:List Value} {es':ES} {ls:List PLt} {u:Unit},Ev S (Z5 e) es u es' ls->Oz (Bs P X0 ρ (cur S es0.obs) μ w) e vs->
  Ie P w O (λ_=>False) ts xs vs->es=es'/\ls= []/\Ie P w O (· ∈L) ts xs vs
 | [],ts,xs,vs,es',ls,u,h,b,c=>by
  unfold Z5 at h
  rw[Ad]at h
  obtain⟨_,rfl,rfl⟩:=h
  cases vs with
  | cons=>exact b.elim
  | nil=>exact⟨rfl,rfl,by cases ts<;>cases xs<;>simp_all[Ie]⟩
 | p::e,ts,xs,vs,es',ls,u,h,b,c=>by
  cases vs with
  | nil=>exact b.elim
  | cons v vs=>
   unfold Z5 at h
   rw[Ab]at h
   obtain⟨_,e1,j,m,g,i,rfl⟩:=h
   obtain⟨rfl,rfl,q⟩:=Af4 d g b.1
   cases ts with
   | nil=>cases xs<;>exact c.elim
   | cons t ts=>
    cases xs with
    | nil=>exact c.elim
    | cons x xs=>
     obtain⟨rfl,rfl,r⟩:=Ab3 d i b.2 c.2
     exact⟨rfl,rfl,c.1.apart q,r⟩
theorem At7 {X0:Nat->Prop}{es0:ES}{L L1:List Nat}{O:Nat->Prop}{p:PS}{vv:VV}{v:Value}{xs:List IV}{u:Unit}(d:Qw P N X0 ρ K S μ a w L es0 es)(h:Ev S (Au5 p vv) es u es' ls)(j:Mq (Bs P X0 ρ (cur S es0.obs) μ w) vv v)
  (b:ArgRel P w O (λ_=>False) p xs v L1):es=es'/\ls= []/\ArgRel P w O (· ∈L) p xs v L1:=by
 unfold Au5 at h
 cases p with
 | rd t=>
  simp only at h
  split at h
  ·obtain⟨rfl,rfl,q⟩:=Af4 d h j
   obtain⟨x,c,e,g⟩:=b
   exact⟨rfl,rfl,x,c,e,g.apart q⟩
  ·simp[Ac]at h
 | fn f ts=>
  simp only at h
  split at h
  ·obtain⟨vs,rfl,i⟩:=j
   obtain⟨m,c,e,g⟩:=b
   injection c with i1 _ c
   injection i1 with i1
   subst c;subst i1
   obtain⟨rfl,rfl,q⟩:=Ab3 d h i g
   exact⟨rfl,rfl,vs,rfl,e,q⟩
  ·simp[Ac]at h
 | data t=>rw[Ad]at h;obtain⟨_,rfl,rfl⟩:=h;exact⟨rfl,rfl,b⟩
 | fnb f n=>rw[Ad]at h;obtain⟨_,rfl,rfl⟩:=h;exact⟨rfl,rfl,b⟩
 | arr t=>rw[Ad]at h;obtain⟨_,rfl,rfl⟩:=h;exact⟨rfl,rfl,b⟩
 | own t=>rw[Ad]at h;obtain⟨_,rfl,rfl⟩:=h;exact⟨rfl,rfl,b⟩
 | box t bs=>rw[Ad]at h;obtain⟨_,rfl,rfl⟩:=h;exact⟨rfl,rfl,b⟩
 | bld t bk=>rw[Ad]at h;obtain⟨_,rfl,rfl⟩:=h;exact⟨rfl,rfl,b⟩
theorem Ap4 {X0:Nat->Prop}{es0:ES}{L:List Nat}{O:Nat->Prop}(d:Qw P N X0 ρ K S μ a w L es0 es): ∀ {e:List PS} {vvs:List VV} {xs:List IV} {vs:List Value} {L1:List Nat} {es':ES} {ls:List PLt} {u:Unit},Ev S (still e vvs) es u es' ls->
  Gn (Bs P X0 ρ (cur S es0.obs) μ w) vvs vs->E1 P w O (λ_=>False) e xs vs L1->es=es'/\ls= []/\E1 P w O (· ∈L) e xs vs L1
 | [],[],xs,vs,L1,es',ls,u,h,b,c=>by
  unfold still at h
  rw[Ad]at h
  obtain⟨_,rfl,rfl⟩:=h
  cases vs with
  | cons=>exact b.elim
  | nil=>exact⟨rfl,rfl,c⟩
 | p::e,vv::vvs,xs,vs,L1,es',ls,u,h,b,c=>by
  cases vs with
  | nil=>exact b.elim
  | cons v vs=>
   unfold still at h
   rw[Ab]at h
   obtain⟨_,e1,o,t,g,i,rfl⟩:=h
   obtain⟨ys,zs,La,Lb,rfl,rfl,j,m⟩:=c
   obtain⟨rfl,rfl,q⟩:=At7 d g b.1 j
   obtain⟨rfl,rfl,r⟩:=Ap4 d i b.2 m
   exact⟨rfl,rfl,ys,zs,La,Lb,rfl,rfl,q,r⟩
 | [],_::_,xs,vs,L1,es',ls,u,h,b,c=>by simp[still,Ac]at h
 | _::_,[],xs,vs,L1,es',ls,u,h,b,c=>by simp[still,Ac]at h
end
end Go.CT
namespace Go.CT
open EM
structure Reg (c:Cx)(K:Nat->Prop)(tm:Nat->SV)(ob:Nat->Option Ob)(a:Act)(Rm:Nat->Prop):Prop where
 wo: ∀b,c.W b->c.O b
 slot: ∀s,Awr c (tm s) (a.tmps.getD s undef)
 obj: ∀k o,ob k=some o->Agb c k o
 sep: ∀k k' o o' b,ob k=some o->ob k'=some o'->o.Gl=true->o'.Gl=true->blk (c.μ k)=some b->blk (c.μ k')=some b->k=k'
 rest: ∀k o b,ob k=some o->o.Gl=true->blk (c.μ k)=some b-> ¬ Rm b/\c.W b
 kt: ∀s k,k∈Ct (tm s).x ->K k
 ko: ∀k o,ob k=some o->K k/\ ∀k'∈He o,K k'
def Cx.at (c:Cx)(μ:Nat->Value):Cx:= {c with μ}
theorem Cx.later {c:Cx}{K:Nat->Prop}{μ:Nat->Value}(wo: ∀b,c.W b->c.O b)(h: ∀k,K k->μ k=c.μ k):Ek K c (c.at μ):=
 {P:=rfl,ρ:=λ_ _ h=>h,μ:=h,stays:=cL _ _,O:=λ_ _ h=>h,W:=λ_ _ h=>h,WO:=wo}
section
variable {P:Program}{N:Nat}{X:Nat->Prop}{R:Job->List IV->Option (List IV)}{ρ:List IV}{K:Nat->Prop}{S:View}{μ:Nat->Value}{a:Act}{w:World}{es es':ES}{ls:List PLt}{sx:SX}
 {tm:Nat->SV} {ob:Nat->Option Ob} {c:Cx} {Rm:Nat->Prop}
theorem Reg.put (G:Reg c K tm ob a Rm){k:Nat}{o:Ob}{hdr:Value}{K' Rm':Nat->Prop}(J:K k->c.μ k=hdr)(w: ∀b,blk hdr=some b->Rm b/\c.W b/\ ¬ Rm' b)(B: ∀b,Rm' b->Rm b)
  (x: ∀d,K d\/d=k->K' d) (C:Agb (c.at (D6 c.μ k hdr)) k o) (j: ∀d∈He o,K' d):
  Reg (c.at (D6 c.μ k hdr)) K' tm (B5 ob k (some o)) a Rm':=by
 have hμ: ∀d,K d->D6 c.μ k hdr d=c.μ d:=by
  intro d F
  unfold D6
  split
  ·rename_i e;subst e;exact(J F).symm
  ·rfl
 have L:Ek K c (c.at (D6 c.μ k hdr)):=Cx.later G.wo hμ
 have old: ∀d o',B5 ob k (some o) d=some o'->(d=k/\o'=o)\/(d≠k/\ob d=some o'):=by
  intro d o' h
  unfold B5 at h
  split at h
  ·rename_i e;injection h with h;exact .inl ⟨e,h.symm⟩
  ·rename_i e;exact .inr ⟨e,h⟩
 have m: ∀d o' b,d≠k->ob d=some o'->o'.Gl=true->blk (D6 c.μ k hdr d)=some b-> ¬ Rm b/\c.W b:=by
  intro d o' b q g i u
  rw[Dx q]at u
  exact G.rest d o' b g i u
 refine⟨G.wo,λs=>L.Awj (G.kt s) (G.slot s),λd o' h=>?_,λk1 k2 H y b q g i u r t=>?_,λd o' b q g i=>?_,λs d h=>x d (.inl (G.kt s d h)),λd o' h=>?_⟩
 ·rcases old d o' h with⟨rfl,rfl⟩ | ⟨q,g⟩
  ·exact C
  ·exact L.Akc (G.ko d o' g).1 (G.ko d o' g).2 (λ_ _ _ _=>rfl) (G.obj d o' g)
 ·have r:blk (D6 c.μ k hdr k1)=some b:=r
  have t:blk (D6 c.μ k hdr k2)=some b:=t
  rcases old k1 H q with⟨rfl,rfl⟩ | ⟨z,A⟩
  ·rcases old k2 y g with⟨rfl,rfl⟩ | ⟨r1,r2⟩
   ·rfl
   ·rw[Bl]at r
    exact absurd (w b r).1 (m k2 y b r1 r2 u t).1
  ·rcases old k2 y g with⟨rfl,rfl⟩ | ⟨r1,r2⟩
   ·rw[Bl]at t
    exact absurd (w b t).1 (m k1 H b z A i r).1
   ·rw[Dx z]at r;rw[Dx r1]at t
    exact G.sep k1 k2 H y b A r2 i u r t
 ·have i:blk (D6 c.μ k hdr d)=some b:=i
  rcases old d o' q with⟨rfl,rfl⟩ | ⟨z,A⟩
  ·rw[Bl]at i
   exact⟨(w b i).2.2,(w b i).2.1⟩
  ·have:=m d o' b z A g i
   exact⟨λh=>this.1 (B b h),this.2⟩
 ·rcases old d o' h with⟨rfl,rfl⟩ | ⟨q,g⟩
  ·exact⟨x _ (.inr rfl),j⟩
  ·exact⟨x _ (.inl (G.ko d o' g).1),λk2 I=>x _ (.inl ((G.ko d o' g).2 k2 I))⟩
theorem Reg.keys (G:Reg c K tm ob a Rm){K' Rm':Nat->Prop}(d: ∀k,K k->K' k)(m: ∀b,Rm' b->Rm b):Reg c K' tm ob a Rm':=
 ⟨G.wo,G.slot,G.obj,G.sep,λk o b e g i=>⟨λh=>(G.rest k o b e g i).1 (m b h),(G.rest k o b e g i).2⟩,λs k h=>d k (G.kt s k h),λk o h=>⟨d k (G.ko k o h).1,λj h'=>d j ((G.ko k o h).2 j h')⟩⟩
theorem Ju {P:Program} : ∀ {bs:List Bool} {ts:List TypeId} {n:Nat} {es es':ES} {lvs:List LV} {ls:List PLt},Ev S (Dy P bs ts n) es lvs es' ls->es.m<=es'.m
 | [],[],n,es,es',lvs,ls,h=>by
  unfold Dy at h
  rw[Ad]at h
  obtain⟨_,rfl,_⟩:=h
  exact aL _
 | o::bs,t::ts,n,es,es',lvs,ls,h=>by
  cases o with
  | false=>
   unfold Dy at h
   rw[Ab]at h
   obtain⟨r,e1,c,_,d,a,rfl⟩:=h
   rw[Ad]at a
   obtain⟨_,rfl,_⟩:=a
   exact Ju d
  | true=>
   unfold Dy at h
   split at h
   ·simp only[Ab,Jr]at h
    obtain⟨gs,_,_,_,⟨rfl,rfl,rfl⟩,h,rfl⟩:=h
    rw[Iz]at h
    rcases h with⟨_,h⟩ | ⟨_,h⟩
    ·simp only[Ab,C0,Bp]at h
     obtain⟨_,_,_,_,⟨rfl,rfl,rfl⟩,⟨_,_,_,_,⟨rfl,rfl⟩,⟨r,e1,c,_,a,b,rfl⟩,rfl⟩,rfl⟩:=h
     rw[Ad]at b
     obtain⟨_,rfl,_⟩:=b
     have:=Ju a
     exact cD this
    ·rw[Ab]at h
     obtain⟨r,e1,c,_,d,a,rfl⟩:=h
     rw[Ad]at a
     obtain⟨_,rfl,_⟩:=a
     exact Ju d
   ·simp only[Ab,Ea,Ar,C0,Bp]at h
    obtain⟨_,_,_,_,⟨_,rfl,rfl⟩,⟨kv,_,_,_,⟨_,rfl,rfl⟩,⟨_,_,_,_,⟨rfl,rfl,rfl⟩,⟨_,_,_,_,⟨rfl,rfl⟩,⟨r,e1,c,_,a,b,rfl⟩,rfl⟩,rfl⟩,rfl⟩,rfl⟩:=h
    rw[Ad]at b
    obtain⟨_,rfl,_⟩:=b
    have:=Ju a
    exact cD this
 | [],_::_,n,es,es',lvs,ls,h=>by simp[Dy,Ac]at h
 | _::_,[],n,es,es',lvs,ls,h=>by simp[Dy,Ac]at h
theorem Uu: ∀ {bs:List Bool} {ts:List TypeId} {xs:List IV} {vs:List Value} {L:List Nat} {n:Nat} {es es':ES} {lvs:List LV} {ls:List PLt} {c:Cx} {K Rm:Nat->Prop},es.gs= []->Ev S (Dy c.P bs ts n) es lvs es' ls->
  Cg c.P c.w c.O bs ts xs vs L->(∀t∈ts,Ak c.P t=false)->L.Nodup->(∀b∈L,Rm b/\c.W b)->Reg c K S.tm (cur S es.obs) a Rm->(∀i,i<xs.length->c.ρ[n+i]?=xs[i]?)->(∀k,es.m<=k->k<es'.m-> ¬ K k)->
  ls= []/\es'.n=es.n/\es'.gs=es.gs/\es.m<=es'.m/\ ∃μ',(∀k,K k->μ' k=c.μ k)/\Reg (c.at μ') (Ax K es.m es'.m) S.tm (cur S es'.obs) a (λb=>Rm b/\b∉L)/\Eo (c.at μ') lvs vs/\ ∀k∈lvs.flatMap Bf,Ax K es.m es'.m k
 | [],[],xs,vs,L,n,es,es',lvs,ls,c,K,Rm,I,h,u,Q,J,B,G,hρ,j=>by
  unfold Dy at h
  rw[Ad]at h
  obtain⟨rfl,rfl,rfl⟩:=h
  cases xs with
  | cons=>cases vs<;>exact u.elim
  | nil=>
   cases vs with
   | cons=>exact u.elim
   | nil=>exact⟨rfl,rfl,rfl,aL _,c.μ,λ_ _=>rfl,G.keys (λk h=> .inl h) (λb h=>h.1),trivial,by simp⟩
 | o::bs,t::ts,xs,vs,L,n,es,es',lvs,ls,c,K,Rm,I,h,u,Q,J,B,G,hρ,j=>by
  cases xs with
  | nil=>cases o<;>exact u.elim
  | cons x xs=>
  cases vs with
  | nil=>cases o<;>exact u.elim
  | cons v vs=>
  have R: ∀t∈ts,Ak c.P t=false:=λt h=>Q t (aF _ h)
  have hρ0:c.ρ[n]?=some x:=by simpa using hρ 0 (by simp)
  have hρ1: ∀i,i<xs.length->c.ρ[n+1+i]?=xs[i]?:=λi hi=>by
   have:=hρ (i+1) (by simpa using hi)
   simpa [bO,Nat.add_comm 1 i]using this
  cases o with
  | false=>
   obtain⟨c1,c2⟩:=u
   unfold Dy at h
   rw[Ab]at h
   obtain⟨r,e1,y,_,Z,q,rfl⟩:=h
   rw[Ad]at q
   obtain⟨rfl,rfl,rfl⟩:=q
   obtain⟨rfl,q1,q2,q3,μ',q4,q5,q6,q7⟩:=Uu I Z c2 R J B G hρ1 j
   refine⟨rfl,q1,q2,q3,μ',q4,q5,⟨⟨(c1.one (Q t aJ)).1,⟨x,hρ0,c1⟩⟩,q6⟩,λk d=>?_⟩
   rw[aD]at d
   rcases aI.1 d with d | d
   ·simp[Bf]at d
   ·exact q7 k d
  | true=>
   obtain⟨L',⟨ys,rfl,C⟩,c2,rfl⟩:=u
   -- what the object is, and ah it is told
   obtain⟨o,lv,e1,r,y,rfl,M,T,aa,ab,q,F⟩: ∃ (o:Ob) (lv:LV) (e1:ES) (r:List LV) (y:List PLt),ls=y/\(∀b,blk v=some b->True)/\
     (∀μ,μ es.m=v->Agb (c.at μ) es.m o/\He o= [])/\(∀c':Cx,c'.μ es.m=v->A60 c' lv v)/\Bf lv= [es.m]/\
     Ev S (Dy c.P bs ts (n+1)) {es with m:=es.m+1,obs:=(es.m,some o)::es.obs} r e1 y/\lvs=lv::r/\e1=es':=by
    unfold Dy at h
    rcases C with⟨e,N,⟨hs,cs,z,ac,U⟩⟩ | ⟨kt,vt,N,rr,cl,ents,rfl,m2,m3,m4⟩
    ·have he:Dl c.P t=some e:=by simp[Dl,N]
     simp only[he,Ab,Jr]at h
     obtain⟨gs,_,_,_,⟨rfl,rfl,rfl⟩,h,rfl⟩:=h
     rw[I]at h
     simp only[List.isEmpty_nil,Zt,Ab,C0,Bp]at h
     obtain⟨_,_,_,_,⟨rfl,rfl,rfl⟩,⟨_,_,_,_,⟨rfl,rfl⟩,⟨r,e1,y,_,q,F,rfl⟩,rfl⟩,rfl⟩:=h
     rw[Ad]at F
     obtain⟨rfl,rfl,rfl⟩:=F
     obtain⟨_,_,A,nn,cap,rfl⟩:=Me z
     refine⟨.arr e t (.v n),.ref es.m t,e1,r,y,by simp,λ_ _=>trivial,λμ hμ=>⟨⟨ys,cs,hρ0,N,hs,?_,ac,U⟩,rfl⟩,λc' H=>⟨rfl,H.symm,A,nn,cap,rfl⟩,rfl,q,rfl,rfl⟩
     show c.w.ownsRow 0 e (Ag c.P e) (μ es.m) ys.length cs
     rw[hμ];exact z
    ·have he:Dl c.P t=none:=by simp[Dl,N]
     simp only[he,Ab,Ea,Ar,C0,Bp]at h
     obtain⟨_,_,_,_,⟨_,rfl,rfl⟩,⟨kv,_,_,_,⟨ad,rfl,rfl⟩,⟨_,_,_,_,⟨rfl,rfl,rfl⟩,⟨_,_,_,_,⟨rfl,rfl⟩,⟨r,e1,y,_,q,F,rfl⟩,rfl⟩,rfl⟩,rfl⟩,rfl⟩:=h
     rw[Ad]at F
     obtain⟨rfl,rfl,rfl⟩:=F
     have g:=R8 ad
     rw[N]at g;injection g with g;injection g with i1 i2
     subst i1;subst i2
     exact⟨.mp t kv.1 kv.2 (.v n),.mref es.m t,e1,r,y,by simp,λ_ _=>trivial,λμ hμ=>⟨⟨rr,cl,ents,ys,hμ,m2,N,m3,hρ0,m4⟩,rfl⟩,λc' H=>⟨rfl,H.symm,rr,rfl⟩,rfl,q,rfl,rfl⟩
   obtain⟨rfl,rfl⟩:=F
   have ae:es.m+1<=e1.m:=Ju q
   have X: ¬ K es.m:=j es.m (aL _) (by omega)
   rw[aO]at J
   obtain⟨ai,af,ag⟩:=J
   have G1:Reg (c.at (D6 c.μ es.m v)) (Ax K es.m (es.m+1)) S.tm (cur S ((es.m,some o)::es.obs)) a (λb=>Rm b/\b∉(blk v).toList):=by
    rw[Bz]
    refine G.put (λh=>absurd h X) (λb M=>?_) (λb h=>h.1) (λk' h=>h.elim .inl λh=> .inr (by omega)) (T _ Bl).1 (λk' h=>by rw[(T (D6 c.μ es.m v) Bl).2]at h;cases h)
    have Y:b∈(blk v).toList :=by simp[M]
    have:=B b (aE _ Y)
    exact⟨this.1,this.2,λh=>h.2 Y⟩
   obtain⟨rfl,q1,q2,q3,μ',q4,q5,q6,q7⟩:=Uu (c:=c.at (D6 c.μ es.m v)) (es:= {es with m:=es.m+1,obs:=(es.m,some o)::es.obs}) I q c2 R af
    (λb M=>⟨⟨(B b (aB _ M)).1,λh=>ag b h b M rfl⟩,(B b (aB _ M)).2⟩) G1 hρ1 (λk Z q d=>by
     have Z:es.m+1<=k:=Z
     rcases d with d | d
     ·exact j k (by omega) q d
     ·omega)
   have hμk:μ' es.m=v:=by
    have:=q4 es.m (.inr ⟨aL _,aT _⟩)
    rw[this];show D6 c.μ es.m _ es.m=_;rw[Bl]
   have hw: ∀k,Ax (Ax K es.m (es.m+1)) (es.m+1) e1.m k->Ax K es.m e1.m k:=by
    rintro k ((h | h) | h)
    ·exact .inl h
    ·exact .inr (by omega)
    ·exact .inr (by omega)
   refine⟨rfl,q1,q2,cD ae,μ',λk d=>?_,q5.keys hw (λb h=>⟨⟨h.1,λh'=>h.2 (aE _ h')⟩,λh'=>h.2 (aB _ h')⟩),⟨aa (c.at μ') hμk,q6⟩,λk d=>?_⟩
   ·have:=q4 k (.inl d)
    rw[this]
    show D6 c.μ es.m _ k=_
    exact Dx λe=>X (e ▸ d)
   ·rw[aD]at d
    rcases aI.1 d with d | d
    ·rw[ab,bD]at d
     subst d;exact .inr ⟨aL _,by omega⟩
    ·exact hw k (q7 k d)
 | [],_::_,xs,vs,L,n,es,es',lvs,ls,c,K,Rm,I,h,u,Q,J,B,G,hρ,j=>by simp[Dy,Ac]at h
 | _::_,[],xs,vs,L,n,es,es',lvs,ls,c,K,Rm,I,h,u,Q,J,B,G,hρ,j=>by simp[Dy,Ac]at h
end
end Go.CT
namespace Go.CT
open EM
section
variable {P:Program}{N:Nat}{X:Nat->Prop}{R:Job->List IV->Option (List IV)}{ρ:List IV}{K:Nat->Prop}{S:View}{μ:Nat->Value}{a:Act}{w:World}{es es':ES}{ls:List PLt}{sx:SX}
 {tm:Nat->SV} {ob:Nat->Option Ob} {c:Cx} {Rm:Nat->Prop}
theorem Av7 {t:TypeId}{lvs:List LV}{vv:VV}{v:Value}(h:Ev S (Axn c.P t lvs) es vv es' ls)(a:if Ak c.P t then ∃cs,v= .agg cs else v.oneCell'=true)(b:Eo c lvs v.cells.toList):
  es=es'/\ls= []/\Mq c vv v/\(∀k∈Ay vv,k∈lvs.flatMap Bf):=by
 unfold Axn at h
 by_cases g:Ak c.P t=true
 ·simp only[g,Zt,Ad]at h a
  obtain⟨rfl,rfl,rfl⟩:=h
  obtain⟨cs,rfl⟩:=a
  exact⟨rfl,rfl,⟨cs,rfl,b⟩,λk d=>d⟩
 ·have e:Ak c.P t=false:=by grind
  simp only[e,aG,Zf]at h a
  rw[H6 a]at b
  split at h
  ·rw[Ad]at h
   obtain⟨rfl,rfl,rfl⟩:=h
   exact⟨rfl,rfl,b.1.2,λk d=>by simpa [Ay]using d⟩
  ·simp[Ac]at h
theorem Cg.len {O:Nat->Prop} : ∀ {bs:List Bool} {ts:List TypeId} {xs:List IV} {vs:List Value} {L:List Nat},Cg P w O bs ts xs vs L->xs.length=bs.length
 | [],[],[],[],_,_=>rfl
 | true::bs,t::ts,x::xs,v::vs,L,h=>by
  obtain⟨_,_,h,_⟩:=h
  simp[Cg.len h]
 | false::bs,t::ts,x::xs,v::vs,L,h=>by simp[Cg.len h.2]
 | [],[],[],_::_,_,h=>h.elim
 | [],[],_::_,_,_,h=>h.elim
 | [],_::_,_,_,_,h=>h.elim
 | _::_,[],_,_,_,h=>by simp[Cg]at h
 | _::_,_::_,[],_,_,h=>by simp[Cg]at h
 | _::_,_::_,_::_,[],_,h=>by simp[Cg]at h
theorem Cg.one {O:Nat->Prop} : ∀ {bs:List Bool} {ts:List TypeId} {xs:List IV} {vs:List Value} {L:List Nat},Cg P w O bs ts xs vs L->(∀t∈ts,Ak P t=false)-> ∀v∈vs,v.oneCell'=true
 | [],[],[],[],_,_,_=>by simp
 | true::bs,t::ts,x::xs,v::vs,L,h,c=>by
  obtain⟨L',⟨ys,i,a⟩,d,j⟩:=h
  intro u b
  rcases bW.1 b with rfl | b
  ·rcases a with⟨e,m,_,cs,g,_⟩ | ⟨kt,vt,_,r,cl,ents,rfl,_⟩
   ·exact(Me g).2.1
   ·rfl
  ·exact Cg.one d (λt h=>c t (aF _ h)) u b
 | false::bs,t::ts,x::xs,v::vs,L,h,c=>by
  intro u b
  rcases bW.1 b with rfl | b
  ·exact(h.1.one (c t aJ)).1
  ·exact Cg.one h.2 (λt h=>c t (aF _ h)) u b
 | [],[],[],_::_,_,h,_=>h.elim
 | [],[],_::_,_,_,h,_=>h.elim
 | [],_::_,_,_,_,h,_=>h.elim
 | _::_,[],_,_,_,h,_=>by simp[Cg]at h
 | _::_,_::_,[],_,_,h,_=>by simp[Cg]at h
 | _::_,_::_,_::_,[],_,h,_=>by grind
theorem Atr.mono {K K':Nat->Prop}{μ μ':Nat->Value}(d: ∀k,K k->K' k)(hμ: ∀k,K k->μ' k=μ k){p:PS}{u:Value}{l:List Bk}(h:Atr P K μ p u l):Atr P K' μ' p u l:=by
 cases p with
 | box t bs=>obtain⟨k,c,a,b⟩:=h;exact⟨k,c,d k a,(hμ k a).trans b⟩
 | arr t=>obtain⟨k,e,i,c,a,b,g⟩:=h;exact⟨k,e,i,c,d k a,(hμ k a).trans b,g⟩
 | data t=>exact h
 | own t=>exact h
 | fn f ts=>exact h
 | fnb f n=>exact h
 | rd t=>exact h
 | bld t bk=>obtain⟨k,st,e,c,a,b,g⟩:=h;exact⟨k,st,e,c,a,d k b,(hμ k b).trans g⟩
theorem Rb.mono {K K':Nat->Prop}{μ μ':Nat->Value} : ∀ {a:List PS} {us:List Value} {l:List Bk},Rb P K μ a us l->(∀k,K k->K' k)->(∀k,K k->μ' k=μ k)->Rb P K' μ' a us l
 | [],[],_,h,_,_=>h
 | _::_,_::_,_,h,b,hμ=>by
  obtain⟨c,d,e,g,i⟩:=h
  exact⟨c,d,e,g.mono b hμ,i.mono b hμ⟩
 | [],_::_,_,h,_,_=>h.elim
 | _::_,[],_,h,_,_=>h.elim
def A4r (c:Cx)(K:Nat->Prop)(S:View)(a:Act)(Rm:Nat->Prop)(L:List Nat)(es es':ES)(ls:List PLt)(Good':(Nat->Value)->Prop):Prop:=
 ls= []/\es'.n=es.n/\es'.gs=es.gs/\es.m<=es'.m/\ ∃μ',(∀k,K k->μ' k=c.μ k)/\Reg (c.at μ') (Ax K es.m es'.m) S.tm (cur S es'.obs) a (λb=>Rm b/\b∉L)/\Good' μ'
theorem Dn {K:Nat->Prop}{m1 m2 m3:Nat}(a:m1<=m2)(b:m2<=m3): ∀k,Ax (Ax K m1 m2) m2 m3 k->Ax K m1 m3 k:=by
 rintro k ((h | h) | h)
 ·exact .inl h
 ·exact .inr (by omega)
 ·exact .inr (by omega)
theorem Q9 {xs ys:List IV}{n:Nat}(h: ∀i,i<(xs++ys).length ->ρ[n+i]?=(xs++ys)[i]?):(∀i,i<xs.length->ρ[n+i]?=xs[i]?)/\(∀i,i<ys.length->ρ[n+xs.length+i]?=ys[i]?):=by
 refine⟨λi a=>?_,λi a=>?_⟩
 ·grind
 ·have:=h (xs.length+i) (by simp;omega)
  grind
theorem Rf.take {t:TypeId}{bs:List Bool}{xs:List IV}{v:Value}{L:List Nat}{n:Nat}{ts:List TypeId}{lvs:List LV}{vv:VV}{e1:ES}{g j:List PLt}(o:es.gs= [])(d:leaves c.P t=some ts)(q:Ev S (Dy c.P bs ts n) es lvs e1 g)(r:Ev S (Axn c.P t lvs) e1 vv es' j)
  (x:Rf c.P c.w c.O t bs xs v L) (y:L.Nodup) (z: ∀b∈L,Rm b/\c.W b) (G:Reg c K S.tm (cur S es.obs) a Rm) (hρ: ∀i,i<xs.length->c.ρ[n+i]?=xs[i]?) (e: ∀k,es.m<=k->k<e1.m-> ¬ K k):
  e1=es'/\j= []/\A4r c K S a Rm L es es' g λμ'=>Mq (c.at μ') vv v/\ ∀k∈Ay vv,Ax K es.m es'.m k:=by
 obtain⟨A,b1,b2,b3,b4⟩:=x
 rw[d]at b1;injection b1 with b1;subst b1
 obtain⟨rfl,B,C,F,μ',H,I,J,M⟩:=Uu o q b4 (λu N=>by
  obtain⟨i,Q⟩:=aS.1 N
  exact Gj d i u Q) y z G hρ e
 obtain⟨rfl,rfl,r1,r2⟩:=Av7 (c:=c.at μ') r b3 J
 exact⟨rfl,rfl,rfl,B,C,F,μ',H,I,r1,λk R=>M k (r2 k R)⟩
theorem Yr {t:TypeId}{lvs:List LV}{vv:VV}(h:Ev S (Axn P t lvs) es vv es' ls):es=es':=by
 unfold Axn at h
 rw[Iz]at h
 rcases h with⟨_,h⟩ | ⟨_,h⟩
 ·rw[Ad]at h;exact h.2.1
 ·split at h
  ·rw[Ad]at h;exact h.2.1
  ·simp[Ac]at h
theorem Tz: ∀ {bs:List (TypeId × List Bool)} {n:Nat} {es es':ES} {r:List PV × Nat} {ls:List PLt},Ev S (Nh P bs n) es r es' ls->es.m<=es'.m
 | [],n,es,es',r,ls,h=>by
  unfold Nh at h
  rw[Ad]at h
  grind
 | b::bs,n,es,es',r,ls,h=>by
  unfold Nh at h
  simp only[Ab,Ar,C0,Bp]at h
  obtain⟨ts,_,_,_,⟨g,rfl,rfl⟩,⟨lvs,e1,i,_,c,⟨vv,j,o,_,d,⟨_,_,_,_,⟨rfl,rfl,rfl⟩,⟨_,_,_,_,⟨rfl,rfl⟩,⟨q,t,u,_,e,a,rfl⟩,rfl⟩,rfl⟩,rfl⟩,rfl⟩,rfl⟩:=h
  rw[Ad]at a
  obtain⟨_,rfl,_⟩:=a
  have w:=Ju c
  have a2:=Yr d
  subst a2
  have a3:=Tz e
  grind
theorem Mh: ∀ {rs:List RS} {n:Nat} {es es':ES} {r:List VV × Nat} {ls:List PLt},Ev S (Hi P rs n) es r es' ls->es.m<=es'.m
 | [],n,es,es',r,ls,h=>by
  unfold Hi at h
  rw[Ad]at h
  grind
 | .whole t::rs,n,es,es',r,ls,h=>by
  unfold Hi at h
  rw[Ab]at h
  obtain⟨r,e1,e,_,d,a,rfl⟩:=h
  rw[Ad]at a
  obtain⟨_,rfl,_⟩:=a
  exact Mh d
 | .clip t::rs,n,es,es',r,ls,h=>by
  unfold Hi at h
  rw[Ab]at h
  obtain⟨r,e1,e,_,d,a,rfl⟩:=h
  rw[Ad]at a
  obtain⟨_,rfl,_⟩:=a
  exact Mh d
 | .strict t::rs,n,es,es',r,ls,h=>by
  unfold Hi at h
  rw[Ab]at h
  obtain⟨r,e1,e,_,d,a,rfl⟩:=h
  rw[Ad]at a
  obtain⟨_,rfl,_⟩:=a
  exact Mh d
 | .skip ::rs,n,es,es',r,ls,h=>by
  unfold Hi at h
  rw[Ab]at h
  obtain⟨r,e1,e,_,d,a,rfl⟩:=h
  rw[Ad]at a
  obtain⟨_,rfl,_⟩:=a
  exact Mh d
 | .nbox t bs::rs,n,es,es',r,ls,h=>by
  unfold Hi at h
  simp only[Ab,Ea]at h
  obtain⟨_,_,_,_,⟨_,rfl,rfl⟩,⟨b,e1,e,_,d,⟨q,g,i,_,a,c,rfl⟩,rfl⟩,rfl⟩:=h
  rw[Ad]at c
  obtain⟨_,rfl,_⟩:=c
  exact aQ (Tz d) (Mh a)
 | .clo f bs::rs,n,es,es',r,ls,h=>by
  unfold Hi at h
  simp only[Ab,Ea]at h
  obtain⟨_,_,_,_,⟨_,rfl,rfl⟩,⟨b,e1,e,_,d,⟨q,g,i,_,a,c,rfl⟩,rfl⟩,rfl⟩:=h
  rw[Ad]at c
  obtain⟨_,rfl,_⟩:=c
  exact aQ (Tz d) (Mh a)
 | .cells t bs::rs,n,es,es',r,ls,h=>by
  unfold Hi at h
  simp only[Ab,Ar]at h
  obtain⟨ts,_,_,_,⟨d,rfl,rfl⟩,⟨lvs,e1,e,_,a,⟨vv,g,i,_,c,⟨q,u,w,_,o,j,rfl⟩,rfl⟩,rfl⟩,rfl⟩:=h
  rw[Ad]at j
  obtain⟨_,rfl,_⟩:=j
  have x:=Ju a
  have a2:=Mh o
  have a3:e1.m=g.m:=by
   unfold Axn at c
   rw[Iz]at c
   rcases c with⟨_,c⟩ | ⟨_,c⟩
   ·rw[Ad]at c;grind
   ·split at c
    ·rw[Ad]at c;grind
    ·simp[Ac]at c
  omega
theorem Gn.append {c:Cx} : ∀ {xs ys:List VV} {us vs:List Value},Gn c xs us->Gn c ys vs->Gn c (xs++ys) (us++vs)
 | [],_,[],_,_,h=>h
 | _::_,_,_::_,_,h,h'=>⟨h.1,Gn.append h.2 h'⟩
 | [],_,_::_,_,h,_=>h.elim
 | _::_,_,[],_,h,_=>h.elim
theorem Oz.Tp {c:Cx} : ∀ {a:List PV} {vs:List Value},Oz c a vs->Gn c (a.map Ap7) vs
 | [],[],_=>trivial
 | _::_,_::_,h=>⟨h.1,Oz.Tp h.2⟩
 | [],_::_,h=>h.elim
 | _::_,[],h=>h.elim
theorem Sm (a:List PV):(a.map Ap7).flatMap Ay=a.flatMap Eg:=by
 induction a with
 | nil=>rfl
 | cons p a b=>simp[Ap7,Ay,Bf]at b ⊢;exact b
theorem Rf.ones {O:Nat->Prop}{t:TypeId}{bs:List Bool}{xs:List IV}{v:Value}{L:List Nat}(h:Rf P w O t bs xs v L): ∀u∈v.cells,u.oneCell'=true:=by
 obtain⟨a,b,g,j,c⟩:=h
 have:=c.one (λu d=>by
  obtain⟨i,e⟩:=aS.1 d
  exact Gj b i u e)
 grind
theorem T7: ∀ {bs:List (TypeId × List Bool)} {xs:List IV} {vs:List Value} {L:List Nat} {n:Nat} {es es':ES} {r:List PV × Nat} {ls:List PLt} {c:Cx} {K Rm:Nat->Prop},es.gs= []->Ev S (Nh c.P bs n) es r es' ls->
  Jb c.P c.w c.O bs xs vs L->L.Nodup->(∀b∈L,Rm b/\c.W b)->Reg c K S.tm (cur S es.obs) a Rm->(∀i,i<xs.length->c.ρ[n+i]?=xs[i]?)->(∀k,es.m<=k->k<es'.m-> ¬ K k)->
  A4r c K S a Rm L es es' ls λμ'=>Oz (c.at μ') r.1 vs/\(∀k∈r.1.flatMap Eg,Ax K es.m es'.m k)/\r.2=n+xs.length
 | [],xs,vs,L,n,es,es',r,ls,c,K,Rm,F,h,x,H,y,G,hρ,t=>by
  unfold Nh at h
  rw[Ad]at h
  obtain⟨rfl,rfl,rfl⟩:=h
  cases vs with
  | cons=>exact x.elim
  | nil=>
   obtain⟨rfl,rfl⟩:=x
   exact⟨rfl,rfl,rfl,aL _,c.μ,λ_ _=>rfl,G.keys (λk h=> .inl h) (λb h=>h.1),trivial,by simp,rfl⟩
 | tb::bs,xs,vs,L,n,es,es',r,ls,c,K,Rm,F,h,x,H,y,G,hρ,t=>by
  cases vs with
  | nil=>exact x.elim
  | cons v vs=>
   obtain⟨ys,zs,L1,L2,rfl,rfl,⟨b,uv,L',rfl,r1,r2,rfl⟩,Z⟩:=x
   unfold Nh at h
   simp only[Ab,Ar,C0,Bp]at h
   obtain⟨ts,_,_,_,⟨h1,rfl,rfl⟩,⟨lvs,e1,l1,_,h2,⟨vv,e2,l2,_,R,⟨_,_,_,_,⟨rfl,rfl,rfl⟩,⟨_,_,_,_,⟨rfl,rfl⟩,⟨q,I,l4,_,T,U,rfl⟩,rfl⟩,rfl⟩,rfl⟩,rfl⟩,rfl⟩:=h
   rw[Ad]at U
   obtain⟨rfl,rfl,rfl⟩:=U
   obtain⟨p1,p2⟩:=Q9 hρ
   rw[aO]at H
   obtain⟨u,J,z⟩:=H
   rw[cK]at u
   have M:e2.m+1<=I.m:=Tz T
   have N:=Yr R
   subst N
   obtain⟨_,rfl,rfl,a1,a2,a3,μ1,a4,a5,a6,X⟩:=r2.take F h1 h2 R u.2 (λg o=>y g (by simp[o])) G p1 (λj k1 k2=>t j k1 (by omega))
   have hlen:ys.length=tb.2.length:=by
    obtain⟨_,_,_,_,Q⟩:=r2
    exact Q.len
   have A:=r2.ones
   have B: ¬ Ax K es.m e1.m e1.m:=λh=>h.elim (t e1.m a3 (by omega)) λh=>by omega
   have hμ: ∀k,Ax K es.m e1.m k->D6 μ1 e1.m (.pointer (some ⟨b,0,none⟩)) k=μ1 k:=λk d=>Dx λe=>B (e ▸ d)
   have C: ∀j,Ax K es.m e1.m j\/j=e1.m->Ax K es.m (e1.m+1) j:=by
    rintro j ((h | h) | rfl)
    ·exact .inl h
    ·exact .inr (by omega)
    ·exact .inr (by omega)
   have G1:Reg ((c.at μ1).at (D6 μ1 e1.m (.pointer (some ⟨b,0,none⟩)))) (Ax K es.m (e1.m+1)) S.tm (cur S ((e1.m,some (.box tb.1 vv))::e1.obs)) a (λg=>(Rm g/\g∉L')/\g≠b):=by
    rw[Bz]
    refine a5.put (λh=>absurd h B) (λg o=>?_) (λg h=>h.1) C ?_ (λj h=> .inl (X j h) |> C j)
    ·simp[blk]at o
     subst o
     have:=y b (by simp)
     exact⟨⟨this.1,u.1⟩,this.2,λh=>h.2 rfl⟩
    ·obtain⟨aa,c1,c2,c3,c4⟩:=r2
     have Lt2:=Cx.later (c:=c.at μ1) (μ:=D6 μ1 e1.m (.pointer (some ⟨b,0,none⟩))) a5.wo hμ
     exact⟨b,uv,Bl,r1,c2,c3,A,Lt2.Ash X a6⟩
   obtain⟨rfl,q1,q2,q3,μ',Y,q5,q6,q7,q8⟩:=T7 (c:=(c.at μ1).at (D6 μ1 e1.m (.pointer (some ⟨b,0,none⟩)))) (es:= {e1 with m:=e1.m+1,obs:=(e1.m,some (.box tb.1 vv))::e1.obs}) (a2.trans F) T Z J
    (λg o=>⟨⟨⟨(y g (aB _ o)).1,λh=>z g (aF _ h) g o rfl⟩,λh=>z b (aJ) g o h.symm⟩,(y g (aB _ o)).2⟩) G1 (by rw[<-hlen];exact p2) (λj k1 k2 d=>by
     have k1:e1.m+1<=j:=k1
     rcases d with d | d
     ·grind
     ·omega)
   have hw: ∀k,Ax (Ax K es.m (e1.m+1)) (e1.m+1) I.m k->Ax K es.m I.m k:=Dn (Nat.le_succ_of_le a3) M
   have hμk:μ' e1.m= .pointer (some ⟨b,0,none⟩):=(Y e1.m (.inr ⟨a3,aT _⟩)).trans Bl
   refine⟨rfl,q1.trans a1,q2.trans a2,by omega,μ',λk d=>?_,q5.keys hw (λg h=>?_),⟨⟨b,hμk,by rw[Bg]⟩,q6⟩,λk d=>?_,by grind⟩
   ·exact(Y k (.inl d)).trans ((hμ k (.inl d)).trans (a4 k d))
   ·grind
   ·rw[aD]at d
    rcases aI.1 d with d | d
    ·simp only[Eg,bD]at d
     subst d
     exact .inr ⟨a3,by omega⟩
    grind
theorem Ll: ∀ {rs:List RS} {xs:List IV} {vs:List Value} {L:List Nat} {n:Nat} {es es':ES} {r:List VV × Nat} {ls:List PLt} {c:Cx} {K Rm:Nat->Prop},es.gs= []->Ev S (Hi c.P rs n) es r es' ls->
  I1 c.P c.w c.O rs xs vs L->L.Nodup->(∀b∈L,Rm b/\c.W b)->Reg c K S.tm (cur S es.obs) a Rm->(∀i,i<xs.length->c.ρ[n+i]?=xs[i]?)->(∀k,es.m<=k->k<es'.m-> ¬ K k)->
  A4r c K S a Rm L es es' ls λμ'=>Gn (c.at μ') r.1 vs/\(∀k∈r.1.flatMap Ay,Ax K es.m es'.m k)/\r.2=n+xs.length
 | [],xs,vs,L,n,es,es',r,ls,c,K,Rm,u,h,g,y,o,G,hρ,e=>by
  unfold Hi at h
  rw[Ad]at h
  obtain⟨rfl,rfl,rfl⟩:=h
  cases vs with
  | cons=>exact g.elim
  | nil=>
   obtain⟨rfl,rfl⟩:=g
   exact⟨rfl,rfl,rfl,aL _,c.μ,λ_ _=>rfl,G.keys (λk h=> .inl h) (λb h=>h.1),trivial,by simp,rfl⟩
 | .whole t::rs,xs,vs,L,n,es,es',r,ls,c,K,Rm,u,h,g,y,o,G,hρ,e=>by
  cases vs with
  | nil=>exact g.elim
  | cons v vs=>
   obtain⟨ys,zs,L1,L2,rfl,rfl,⟨x,rfl,rfl,r1⟩,r2⟩:=g
   unfold Hi at h
   rw[Ab]at h
   obtain⟨q,e1,Z,_,C,j,rfl⟩:=h
   rw[Ad]at j
   obtain⟨rfl,rfl,rfl⟩:=j
   obtain⟨R,T⟩:=Q9 hρ
   obtain⟨rfl,F,H,A,μ',B,I,J,q7,q8⟩:=Ll u C r2 y o G (by omega) e
   have hx:c.ρ[n]?=some x:=by simp_all
   refine⟨rfl,F,H,A,μ',B,I,⟨⟨x,hx,r1⟩,J⟩,λk d=>?_,by grind⟩
   rw[aD]at d
   rcases aI.1 d with d | d
   ·simp[Ay,Bf]at d
   grind
 | .clip t::rs,xs,vs,L,n,es,es',r,ls,c,K,Rm,u,h,g,y,o,G,hρ,e=>by
  cases vs with
  | nil=>exact g.elim
  | cons v vs=>
   obtain⟨ys,zs,L1,L2,rfl,rfl,⟨x,rfl,rfl,r1,r3⟩,r2⟩:=g
   unfold Hi at h
   rw[Ab]at h
   obtain⟨q,e1,Z,_,C,j,rfl⟩:=h
   rw[Ad]at j
   obtain⟨rfl,rfl,rfl⟩:=j
   obtain⟨R,T⟩:=Q9 hρ
   obtain⟨rfl,F,H,A,μ',B,I,J,q7,q8⟩:=Ll u C r2 y o G (by omega) e
   have hx:c.ρ[n]?=some x:=by simp_all
   refine⟨rfl,F,H,A,μ',B,I,⟨⟨⟨x,hx,r1⟩,r3⟩,J⟩,λk d=>?_,by grind⟩
   rw[aD]at d
   rcases aI.1 d with d | d
   ·simp[Ay,Bf]at d
   grind
 | .strict t::rs,xs,vs,L,n,es,es',r,ls,c,K,Rm,u,h,g,y,o,G,hρ,e=>by
  cases vs with
  | nil=>exact g.elim
  | cons v vs=>
   obtain⟨ys,zs,L1,L2,rfl,rfl,⟨x,rfl,rfl,r1,ys3,A3,cap3,rfl,r3⟩,r2⟩:=g
   unfold Hi at h
   rw[Ab]at h
   obtain⟨q,e1,Z,_,C,j,rfl⟩:=h
   rw[Ad]at j
   obtain⟨rfl,rfl,rfl⟩:=j
   obtain⟨R,T⟩:=Q9 hρ
   obtain⟨rfl,F,H,A,μ',B,I,J,q7,q8⟩:=Ll u C r2 y o G (by omega) e
   have hx:c.ρ[n]?=some (.list ys3):=by simp_all
   refine⟨rfl,F,H,A,μ',B,I,⟨⟨⟨_,hx,r1⟩,ys3,A3,cap3,hx,r3⟩,J⟩,λk d=>?_,by grind⟩
   rw[aD]at d
   rcases aI.1 d with d | d
   ·simp[Ay,Bf]at d
   grind
 | .skip ::rs,xs,vs,L,n,es,es',r,ls,c,K,Rm,u,h,g,y,o,G,hρ,e=>by
  cases vs with
  | nil=>exact g.elim
  | cons v vs=>
   obtain⟨ys,zs,L1,L2,rfl,rfl,⟨rfl,rfl⟩,r2⟩:=g
   unfold Hi at h
   rw[Ab]at h
   obtain⟨q,e1,Z,_,C,j,rfl⟩:=h
   rw[Ad]at j
   obtain⟨rfl,rfl,rfl⟩:=j
   obtain⟨rfl,F,H,A,μ',B,I,J,q7,q8⟩:=Ll u C r2 y o G (by grind) e
   refine⟨rfl,F,H,A,μ',B,I,⟨trivial,J⟩,λk d=>?_,by grind⟩
   rw[aD]at d
   rcases aI.1 d with d | d
   ·simp[Ay,Bf]at d
   grind
 | .nbox t bs::rs,xs,vs,L,n,es,es',r,ls,c,K,Rm,u,h,g,y,o,G,hρ,e=>by
  cases vs with
  | nil=>exact g.elim
  | cons v vs=>
   obtain⟨ys,zs,L1,L2,rfl,rfl,r1,r2⟩:=g
   unfold Hi at h
   simp only[Ab,Ea]at h
   obtain⟨_,_,_,_,⟨_,rfl,rfl⟩,⟨b,e1,Z,_,C,⟨q,e2,l2,_,j,U,rfl⟩,rfl⟩,rfl⟩:=h
   rw[Ad]at U
   obtain⟨rfl,rfl,rfl⟩:=U
   obtain⟨R,T⟩:=Q9 hρ
   rw[aO]at y
   obtain⟨M,N,Q⟩:=y
   have hm:=Mh j
   obtain⟨rfl,a1,a2,a3,μ1,a4,a5,a6,X,a8⟩:=T7 u C r1 M (λb z=>o b (aE _ z)) G R (λk k1 k2=>e k k1 (by omega))
   rw[a8]at j
   obtain⟨rfl,F,H,A,μ',B,I,J,q7,q8⟩:=Ll (c:=c.at μ1) (a2.trans u) j r2 N (λb z=>⟨⟨(o b (aB _ z)).1,λh=>Q b h b z rfl⟩,(o b (aB _ z)).2⟩) a5
    T (λk k1 k2 d=>by
     rcases d with d | d
     ·grind
     ·omega)
   have Y:=Dn (K:=K) a3 A
   have Lt:=Cx.later (c:=c.at μ1) (μ:=μ') a5.wo B
   refine⟨rfl,F.trans a1,H.trans a2,aQ a3 A,μ',λk d=>(B k (.inl d)).trans (a4 k d),I.keys Y (λb h=>⟨⟨h.1,λh'=>h.2 (aE _ h')⟩,λh'=>h.2 (aB _ h')⟩),Gn.append (us:= [v]) (Lt.Af7 X a6).Tp J,λk d=>?_,by grind⟩
   rw[bY]at d
   rcases aI.1 d with d | d
   ·exact Y k (.inl (X k (by rw[<-Sm];exact d)))
   grind
 | .clo f bs::rs,xs,vs,L,n,es,es',r,ls,c,K,Rm,u,h,g,y,o,G,hρ,e=>by
  cases vs with
  | nil=>exact g.elim
  | cons v vs=>
   obtain⟨ys,zs,L1,L2,rfl,rfl,⟨caps,rfl,r1⟩,r2⟩:=g
   unfold Hi at h
   simp only[Ab,Ea]at h
   obtain⟨_,_,_,_,⟨_,rfl,rfl⟩,⟨b,e1,Z,_,C,⟨q,e2,l2,_,j,U,rfl⟩,rfl⟩,rfl⟩:=h
   rw[Ad]at U
   obtain⟨rfl,rfl,rfl⟩:=U
   obtain⟨R,T⟩:=Q9 hρ
   rw[aO]at y
   obtain⟨M,N,Q⟩:=y
   have hm:=Mh j
   obtain⟨rfl,a1,a2,a3,μ1,a4,a5,a6,X,a8⟩:=T7 u C r1 M (λb z=>o b (aE _ z)) G R (λk k1 k2=>e k k1 (by omega))
   rw[a8]at j
   obtain⟨rfl,F,H,A,μ',B,I,J,q7,q8⟩:=Ll (c:=c.at μ1) (a2.trans u) j r2 N (λb z=>⟨⟨(o b (aB _ z)).1,λh=>Q b h b z rfl⟩,(o b (aB _ z)).2⟩) a5
    T (λk k1 k2 d=>by
     rcases d with d | d
     ·grind
     ·omega)
   have Y:=Dn (K:=K) a3 A
   have Lt:=Cx.later (c:=c.at μ1) (μ:=μ') a5.wo B
   refine⟨rfl,F.trans a1,H.trans a2,aQ a3 A,μ',λk d=>(B k (.inl d)).trans (a4 k d),I.keys Y (λb h=>⟨⟨h.1,λh'=>h.2 (aE _ h')⟩,λh'=>h.2 (aB _ h')⟩),⟨⟨caps,rfl,Lt.Af7 X a6⟩,J⟩,λk d=>?_,by grind⟩
   rw[aD]at d
   rcases aI.1 d with d | d
   ·exact Y k (.inl (X k d))
   grind
 | .cells t bs::rs,xs,vs,L,n,es,es',r,ls,c,K,Rm,u,h,g,y,o,G,hρ,e=>by
  cases vs with
  | nil=>exact g.elim
  | cons v vs=>
   obtain⟨ys,zs,L1,L2,rfl,rfl,r1,r2⟩:=g
   unfold Hi at h
   simp only[Ab,Ar]at h
   obtain⟨ts,_,_,_,⟨C,rfl,rfl⟩,⟨lvs,e1,Z,_,j,⟨vv,e2,l2,_,U,⟨q,e3,l3,_,h4,h5,rfl⟩,rfl⟩,rfl⟩,rfl⟩:=h
   rw[Ad]at h5
   obtain⟨rfl,rfl,rfl⟩:=h5
   obtain⟨R,T⟩:=Q9 hρ
   rw[aO]at y
   obtain⟨M,N,Q⟩:=y
   have hm:e1.m<=e3.m:=by
    have aa:=Yr U
    rw[aa];exact Mh h4
   obtain⟨rfl,rfl,rfl,a1,a2,a3,μ1,a4,a5,a6,X⟩:=r1.take u C j U M (λb z=>o b (aE _ z)) G R (λk k1 k2=>e k k1 (by omega))
   have hlen:ys.length=bs.length:=by
    obtain⟨_,_,_,_,ab⟩:=r1
    exact ab.len
   obtain⟨rfl,F,H,A,μ',B,I,J,q7,q8⟩:=Ll (c:=c.at μ1) (a2.trans u) h4 r2 N (λb z=>⟨⟨(o b (aB _ z)).1,λh=>Q b h b z rfl⟩,(o b (aB _ z)).2⟩) a5
    (by rw[<-hlen];exact T) (λk k1 k2 d=>by
     rcases d with d | d
     ·grind
     ·omega)
   have Y:=Dn (K:=K) a3 A
   have Lt:=Cx.later (c:=c.at μ1) (μ:=μ') a5.wo B
   refine⟨rfl,F.trans a1,H.trans a2,aQ a3 A,μ',λk d=>(B k (.inl d)).trans (a4 k d),I.keys Y (λb h=>⟨⟨h.1,λh'=>h.2 (aE _ h')⟩,λh'=>h.2 (aB _ h')⟩),⟨Lt.Ash X a6,J⟩,λk d=>?_,by grind⟩
   rw[aD]at d
   rcases aI.1 d with d | d
   ·exact Y k (.inl (X k d))
   grind
theorem Adt {t st e:TypeId}(h:A0y P t=some (st,e)):Mt P e=some .u8 /\P.underlying st=some (.slice e)/\Ak P t=true/\Ag P t=2/\Ag P e=1:=by
 unfold A0y at h
 split at h
 ·rename_i pt st' c
  split at h
  ·rename_i d g i b
   rw[aU]at h
   obtain⟨a,h⟩:=h
   injection h with h;injection h with i1 i2;subst i1;subst i2
   simp only[aA,beq_iff_eq]at a
   exact⟨a.1.1.1.2,Bo b,a.1.2,a.2,a.1.1.2⟩
  ·cases h
 ·cases h
theorem Jd: ∀ {bks:List Bk} {n:Nat} {es es':ES} {u:Unit} {ls:List PLt},Ev S (Et P bks n) es u es' ls->es.m<=es'.m
 | [],n,es,es',u,ls,h=>by
  unfold Et at h
  rw[Ad]at h
  grind
 | .box k t bs::bks,n,es,es',u,ls,h=>by
  unfold Et at h
  simp only[Ab,Ar,Bp]at h
  obtain⟨ts,_,_,_,⟨d,rfl,rfl⟩,⟨lvs,e1,g,_,a,⟨vv,i,j,_,b,⟨_,o,q,_,⟨rfl,rfl⟩,c,rfl⟩,rfl⟩,rfl⟩,rfl⟩:=h
  have r:=Ju a
  have a2:=Jd c
  have a3:=Yr b
  grind
 | .arr k e t::bks,n,es,es',u,ls,h=>by
  unfold Et at h
  simp only[Ab,Bp]at h
  obtain⟨_,_,_,_,⟨rfl,rfl⟩,a,rfl⟩:=h
  have a2:=Jd a
  exact a2
 | .bld k t e st::bks,n,es,es',u,ls,h=>by
  unfold Et at h
  simp only[Ab,Bp,C0]at h
  obtain⟨_,_,_,_,⟨rfl,rfl,rfl⟩,⟨_,_,_,_,⟨rfl,rfl⟩,⟨_,_,_,_,⟨rfl,rfl⟩,a,rfl⟩,rfl⟩,rfl⟩:=h
  have a2:=Jd a
  grind
theorem Jv: ∀ {ps:List PS} {bks:List Bk} {xs:List IV} {vs:List Value} {L:List Nat} {n:Nat} {es es':ES} {u:Unit} {ls:List PLt} {c:Cx} {K Rm:Nat->Prop},es.gs= []->Ev S (Et c.P bks n) es u es' ls->
  Cr c.P c.w c.O ps xs vs L->Rb c.P K c.μ ps vs bks->L.Nodup->(∀b∈L,Rm b/\c.W b)->Reg c K S.tm (cur S es.obs) a Rm->(∀i,i<xs.length->c.ρ[n+i]?=xs[i]?)->(∀k,es.m<=k->k<es'.m-> ¬ K k)->
  A4r c K S a Rm L es es' ls λ_=>True
 | [],bks,xs,vs,L,n,es,es',u,ls,c,K,Rm,T,h,z,q,N,B,G,hρ,C=>by
  cases vs with
  | cons=>exact z.elim
  | nil=>
   obtain⟨rfl,rfl⟩:=z
   have q:bks= []:=q
   subst q
   unfold Et at h
   rw[Ad]at h
   obtain⟨rfl,rfl,rfl⟩:=h
   exact⟨rfl,rfl,rfl,aL _,c.μ,λ_ _=>rfl,G.keys (λk h=> .inl h) (λb h=>h.1),trivial⟩
 | p::ps,bks,xs,vs,L,n,es,es',u,ls,c,K,Rm,T,h,z,q,N,B,G,hρ,C=>by
  cases vs with
  | nil=>exact z.elim
  | cons v vs=>
   obtain⟨k1,k2,rfl,j,H⟩:=q
   unfold Cr at z
   have skip:p.Dp=false->k1= []->A4r c K S a Rm L es es' ls λ_=>True:=by
    intro hp Q
    subst Q
    simp only[hp,aG,Zf]at z
    exact Jv T h z H N B G hρ C
   cases p with
   | data t=>exact skip rfl j
   | own t=>exact skip rfl j
   | fn f ts=>exact skip rfl j
   | fnb f n=>exact skip rfl j
   | rd t=>exact skip rfl j
   | bld t bk=>
    cases bk with
    | false=>
     obtain⟨_,_,_,_,Q,_⟩:=j
     exact skip rfl Q
    | true=>
    simp only[PS.Dp,Zt]at z
    obtain⟨ys,zs,L1,L2,rfl,rfl,⟨b,c0,c1,r,st,e,rfl,r1,r2,r3,rfl,⟨r4,cs,r5,Y,r7⟩,rfl⟩,r8⟩:=z
    obtain⟨k,st',U,I,j,b1,b2⟩:=j
    rw[r3]at I;injection I with I;injection I with i1 i2;subst i1;subst i2
    simp only[Zt]at j
    subst j
    simp only[bU]at h
    unfold Et at h
    simp only[Ab,Bp,C0]at h
    obtain⟨_,_,_,_,⟨rfl,rfl,rfl⟩,⟨_,_,_,_,⟨rfl,rfl⟩,⟨_,_,_,_,⟨rfl,rfl⟩,X,rfl⟩,rfl⟩,rfl⟩:=h
    have hm:=Jd X
    have hm:es.m+1<=es'.m:=hm
    obtain⟨p1,p2⟩:=Q9 hρ
    rw[aO]at N
    obtain⟨x,F,y⟩:=N
    rw[cK]at x
    have hx:c.ρ[n]?=some (.list r):=by simp_all
    obtain⟨f1,f2,f3,f4,f5⟩:=Adt r3
    have Z: ¬ K es.m:=C es.m (aL _) (by omega)
    obtain⟨_,af,A,nn,cap,rfl⟩:=Me r5
    -- the row
    have G1:Reg (c.at (D6 c.μ es.m (.slice A nn cap))) (Ax K es.m (es.m+1)) S.tm (cur S ((es.m,some (.arr e st (.v n)))::es.obs)) a (λd=>Rm d/\d∉(blk (.slice A nn cap)).toList):=by
     rw[Bz]
     refine G.put (λh=>absurd h Z) (λd o=>?_) (λb h=>h.1) (λg h=>h.elim .inl λh=> .inr (by omega)) ?_ (λg h=>by simp[He]at h)
     ·grind
     ·refine⟨r,cs,hx,f2,r4,?_,Y,r7⟩
      show c.w.ownsRow 0 e (Ag c.P e) (D6 c.μ es.m (.slice A nn cap) es.m) r.length cs
      rw[Bl];exact r5
    -- the variable
    generalize hμ1:D6 c.μ es.m (.slice A nn cap)=μ1 at G1
    have R: ∀g,K g->g≠es.m:=λg h e=>Z (by grind)
    have ab:k≠es.m:=R k b1
    have hμk:μ1 k= .pointer (some ⟨b,0,none⟩):=by rw[<-hμ1,Dx ab];exact b2
    have hμm:μ1 es.m= .slice A nn cap:=by rw[<-hμ1,Bl]
    have hμ2:D6 μ1 k (.pointer (some ⟨b,0,none⟩))=μ1:=by funext g;unfold D6;grind
    have G2:Reg ((c.at μ1).at (D6 μ1 k (.pointer (some ⟨b,0,none⟩)))) (Ax K es.m (es.m+1)) S.tm (cur S ((k,some (.box t (.agg t [.hid k,.ref es.m st])))::(es.m,some (.arr e st (.v n)))::es.obs)) a (λd=>(Rm d/\d∉(blk (.slice A nn cap)).toList)/\d≠b):=by
     rw[Bz]
     refine G1.put (λ_=>hμk) (λd o=>?_) (λb h=>h.1) (λg h=>h.elim id λh=> .inl (h ▸ b1)) ?_ (λg h=>?_)
     ·simp[blk]at o
      subst o
      have:=B b (by simp)
      exact⟨⟨this.1,x.1⟩,this.2,λh=>h.2 rfl⟩
     ·refine⟨b,.agg #[c0,.slice A nn cap],by show D6 _ _ _ k=_;rw[Bl],r1,f4.symm,?_,?_,?_⟩
      ·show if Ak c.P t=true then _ else _
       grind
      ·intro u hu
       simp[Value.cells]at hu
       rcases hu with rfl | rfl
       ·rcases r2 with h | h<;>rw[h]<;>rfl
       ·rfl
      ·show Mq ((c.at μ1).at (D6 μ1 k _)) _ _
       rw[hμ2]
       refine⟨_,rfl,⟨?_,r2.imp id λh=>⟨h.trans hμk.symm,_,h⟩⟩,⟨rfl,hμm.symm,_,_,_,rfl⟩,trivial⟩
       rcases r2 with h | h<;>rw[h]<;>rfl
     ·simp only[He,Ay,aD,Bf,cV,bG,aI,bD]at h
      rcases h with rfl | rfl
      ·exact .inl b1
      ·exact .inr ⟨aL _,aT _⟩
    rw[hμ2]at G2
    obtain⟨rfl,q1,q2,J,μ',q4,q5,_⟩:=Jv (c:=c.at μ1) (es:= {es with m:=es.m+1,obs:=(k,some (.box t (.agg t [.hid k,.ref es.m st])))::(es.m,some (.arr e st (.v n)))::es.obs}) T X r8
     (H.mono (λ_ h=> .inl h) (λg M=>by show μ1 g=_;rw[<-hμ1,Dx (R g M)])) F
     (λd o=>⟨⟨⟨(B d (aB _ o)).1,λh=>y d (aF _ h) d o rfl⟩,λh=>y b (aJ) d o h.symm⟩,(B d (aB _ o)).2⟩) G2
     (show ∀i,i<zs.length->c.ρ[n+1+i]?=zs[i]? by omega) (λg k1 k2 q=>by
      have k1:es.m+1<=g:=k1
      rcases q with q | q
      ·grind
      ·omega)
    have hw:=Dn (K:=K) (dF es.m) J
    refine⟨rfl,q1,q2,aQ (dF _) J,μ',λg M=>(q4 g (.inl M)).trans (by show μ1 g=_;rw[<-hμ1,Dx (R g M)]),q5.keys hw (λd h=>⟨⟨⟨h.1,λh'=>h.2 (aE _ (aF _ h'))⟩,λh'=>h.2 (aE _ (h' ▸ aJ))⟩,λh'=>h.2 (aB _ h')⟩),trivial⟩
   | arr t=>
    simp only[PS.Dp,Zt]at z
    obtain⟨ys,zs,L1,L2,rfl,rfl,⟨e,r,rfl,rfl,r1,r2,cs,r3,r4,r5⟩,Y⟩:=z
    obtain⟨k,U,t',rfl,b1,b2,b3,b4⟩:=j
    have:U=e:=by grind
    subst this
    simp only[bU]at h
    unfold Et at h
    simp only[Ab,Bp]at h
    obtain⟨_,_,_,_,⟨rfl,rfl⟩,X,rfl⟩:=h
    obtain⟨p1,p2⟩:=Q9 hρ
    rw[aO]at N
    obtain⟨x,F,y⟩:=N
    have hx:c.ρ[n]?=some (.list r):=by simp_all
    have G1:Reg (c.at (D6 c.μ k v)) K S.tm (cur S ((k,some (.arr U t' (.v n)))::es.obs)) a (λb=>Rm b/\b∉(blk v).toList):=by
     rw[Bz]
     refine G.put (λ_=>b2) (λb o=>?_) (λb h=>h.1) (λg h=>h.elim id λh=>h ▸ b1) ⟨r,cs,hx,b4,r2,?_,r4,r5⟩ (λg h=>by simp[He]at h)
     ·grind
     ·show c.w.ownsRow 0 U (Ag c.P U) (D6 c.μ k v k) r.length cs
      rw[Bl];exact r3
    have hμ:D6 c.μ k v=c.μ:=by funext g;unfold D6;grind
    rw[hμ]at G1
    obtain⟨rfl,q1,q2,J,μ',q4,q5,_⟩:=Jv (c:=c.at c.μ) (es:= {es with obs:=(k,some (.arr U t' (.v n)))::es.obs}) T X Y H F
     (λb o=>⟨⟨(B b (aB _ o)).1,λh=>y b h b o rfl⟩,(B b (aB _ o)).2⟩) G1 (show ∀i,i<zs.length->c.ρ[n+1+i]?=zs[i]? by omega) C
    exact⟨rfl,q1,q2,J,μ',q4,q5.keys (λ_ h=>h) (λb h=>⟨⟨h.1,λh'=>h.2 (aE _ h')⟩,λh'=>h.2 (aB _ h')⟩),trivial⟩
   | box t bs=>
    simp only[PS.Dp,Zt]at z
    obtain⟨ys,zs,L1,L2,rfl,rfl,⟨b,uv,L',rfl,r1,r2,rfl⟩,Y⟩:=z
    obtain⟨k,rfl,b1,b2⟩:=j
    simp only[bU]at h
    unfold Et at h
    simp only[Ab,Ar,Bp]at h
    obtain⟨ts,_,_,_,⟨h1,rfl,rfl⟩,⟨lvs,e1,l1,_,X,⟨vv,e2,l2,_,h3,⟨_,e3,l3,_,⟨rfl,rfl⟩,h4,rfl⟩,rfl⟩,rfl⟩,rfl⟩:=h
    obtain⟨p1,p2⟩:=Q9 hρ
    rw[aO]at N
    obtain⟨x,F,y⟩:=N
    rw[cK]at x
    have hm:e1.m<=es'.m:=by
     have ac:=Yr h3
     rw[ac];exact Jd (es:= {e2 with obs:=(k,some (.box t vv))::e2.obs}) h4
    obtain⟨rfl,rfl,rfl,a1,a2,a3,μ1,a4,a5,a6,a7⟩:=r2.take T h1 X h3 x.2 (λd o=>B d (by simp[o])) G p1 (λg k1 k2=>C g k1 (by omega))
    have hlen:ys.length=bs.length:=by
     obtain⟨_,_,_,_,ad⟩:=r2
     exact ad.len
    have hμk:μ1 k= .pointer (some ⟨b,0,none⟩):=(a4 k b1).trans b2
    have hμ:D6 μ1 k (.pointer (some ⟨b,0,none⟩))=μ1:=by funext g;unfold D6;grind
    have aa: ∀u∈uv.cells,u.oneCell'=true:=by
     obtain⟨ae,c1,c2,c3,c4⟩:=r2
     have:=c4.one (λu hu=>by
      obtain⟨i,hi⟩:=aS.1 hu
      exact Gj c1 i u hi)
     grind
    have G1:Reg ((c.at μ1).at (D6 μ1 k (.pointer (some ⟨b,0,none⟩)))) (Ax K es.m e1.m) S.tm (cur S ((k,some (.box t vv))::e1.obs)) a (λd=>(Rm d/\d∉L')/\d≠b):=by
     rw[Bz]
     refine a5.put (λ_=>hμk) (λd o=>?_) (λb h=>h.1) (λg h=>h.elim id λh=> .inl (h ▸ b1)) ?_ (λg h=>a7 g h)
     ·simp[blk]at o
      subst o
      have:=B b (by simp)
      exact⟨⟨this.1,x.1⟩,this.2,λh=>h.2 rfl⟩
     ·obtain⟨ae,c1,c2,c3,c4⟩:=r2
      refine⟨b,uv,by show D6 _ _ _ k=_;rw[Bl],r1,c2,c3,aa,?_⟩
      show Mq ((c.at μ1).at (D6 μ1 k _)) vv uv
      rw[hμ];exact a6
    rw[hμ]at G1
    obtain⟨rfl,q1,q2,J,μ',q4,q5,_⟩:=Jv (c:=c.at μ1) (es:= {e1 with obs:=(k,some (.box t vv))::e1.obs}) (a2.trans T) h4 Y
     (H.mono (λ_ h=> .inl h) a4) F
     (λd o=>⟨⟨⟨(B d (aB _ o)).1,λh=>y d (aF _ h) d o rfl⟩,λh=>y b (aJ) d o h.symm⟩,(B d (aB _ o)).2⟩) G1 (by rw[<-hlen];exact p2) (λg k1 k2 q=>by
      have k1:e1.m<=g:=k1
      rcases q with q | q
      ·grind
      ·omega)
    have J:e1.m<=es'.m:=J
    refine⟨rfl,q1.trans a1,q2.trans a2,aQ a3 J,μ',λk q=>(q4 k (.inl q)).trans (a4 k q),q5.keys (Dn (K:=K) a3 J) (λd h=>?_),trivial⟩
    grind
end
end Go.CT
namespace Go.CT
open EM
section
variable {P:Program}{N:Nat}{X:Nat->Prop}{R:Job->List IV->Option (List IV)}{ρ:List IV}{K:Nat->Prop}{S:View}{μ:Nat->Value}{a:Act}{w w':World}{es es' e1:ES}{ls:List PLt}{sx:SX}
 {tm:Nat->SV} {ob:Nat->Option Ob} {c:Cx} {Rm:Nat->Prop}
def cxW (P:Program)(X:Nat->Prop)(ρ:List IV)(WA:Nat->Prop)(μ:Nat->Value)(w:World):Cx:= {P,ρ,μ,w,O:=λb=>X b\/WA b,W:=WA}
theorem Apl {L Ln:List Nat}(G:Good P N X ρ K S.tm (cur S es.obs) μ a w)(d:Qw P N X ρ K S μ a w L es e1)(A:Hz (· ∈L) w w')(u: ∀b∈Ln,b∈L\/w.heap.size<=b):
  Reg (cxW P X ρ (λb=>Wr (cur S e1.obs) μ b\/b∈Ln) μ w') K S.tm (cur S e1.obs) a (· ∈Ln):=by
 have y: ∀b,b<w.heap.size->(Wr (cur S e1.obs) μ b\/b∈Ln)->Wr (cur S es.obs) μ b:=by
  intro b c h
  rcases h with h | h
  ·exact d.Es.wr h
  ·rcases u b h with h | h
   ·exact d.own b h
   ·omega
 have Lat:Ek K (Bs P X ρ (cur S es.obs) μ w) (cxW P X ρ (λb=>Wr (cur S e1.obs) μ b\/b∈Ln) μ w'):=
  {
   P:=rfl,ρ:=λ_ _ h=>h,μ:=λ_ _=>rfl,stays:=λb c z=>A.stays b c λh=>z (d.own b h),
   O:=λb c g=>g.imp id (y b c),W:=y,WO:=λb c=> .inr c}
 have i: ∀k o b,cur S e1.obs k=some o->o.Gl=true->blk (μ k)=some b->b<w.heap.size/\b∉L/\ ¬ X b:=by
  intro k o b j m q
  have:=d.C8.xsep k o b j m q
  exact⟨d.C8.On j m q,λh=>this (.inr h),λh=>this (.inl h)⟩
 refine⟨λb c=> .inr c,λs=>Lat.Awj (G.kt s) (G.slot s),λk o g=>?_,λk B o o' b j m q C F H=>d.C8.sep k B o o' b j m q C F H,
  λk o b j m q=>⟨λh=>?_,.inl ⟨k,o,j,m,q⟩⟩,G.kt,d.C8.ko⟩
 ·cases r:o.Gl with
  | true=>
   have h:=d.Es k o g r
   exact Lat.Akc (G.ko k o h).1 (G.ko k o h).2 (λ_ b c _=>A.stays b (i k o b g r c).1 (i k o b g r c).2.1) (G.obj k o h)
  | false=>
   cases o with
   | box=>simp[cS]at r
   | iter=>simp[cS]at r
   | mp=>simp[cS]at r
   | arr=>simp[cS]at r
   | frz e t x=>
    obtain⟨j,iv,m,q⟩:=d.C8.obj k _ g
    refine⟨j,iv,m,?_⟩
    refine Rel.mono q (λb c g=>?_) (λb c g=>A.stays b c λh=>g (.inl (.inr h)))
    rcases g with g | g | g
    ·exact .inl (.inl g)
    ·exact .inr g
    ·rcases u b g with h | h
     ·exact .inl (.inr h)
     ·have c:b<w.heap.size:=c
      omega
 ·obtain⟨I,J,M⟩:=i k o b j m q
  grind
theorem Ave {L Ln:List Nat}{μ':Nat->Value}{v:Value}(G:Good P N X ρ K S.tm (cur S es.obs) μ a w)(d:Qw P N X ρ K S μ a w L es e1)(A:Hz (· ∈L) w w')(q: ∀b∈Ln,b∈L\/w.heap.size<=b)
  (r:Reg ((cxW P X ρ (λb=>Wr (cur S e1.obs) μ b\/b∈Ln) μ w').at μ') (Ax K es.m es'.m) S.tm (cur S es'.obs) a Rm)
  (z:Alq ((cxW P X ρ (λb=>Wr (cur S e1.obs) μ b\/b∈Ln) μ w').at μ') sx v) (y: ∀k∈Ct sx,Ax K es.m es'.m k) (j: ∀k,K k->μ' k=μ k):Out P N X ρ K S μ a w es es' sx μ' w' v:=by
 have Lat:Ek (Ax K es.m es'.m) ((cxW P X ρ (λb=>Wr (cur S e1.obs) μ b\/b∈Ln) μ w').at μ') (Bs P X ρ (cur S es'.obs) μ' w'):=
  {
   P:=rfl,ρ:=λ_ _ h=>h,μ:=λ_ _=>rfl,stays:=cL _ _,
   O:=λb _ t=>t.imp id fun⟨k,o,c,e,g⟩=>(r.rest k o b c e g).2,W:=λb _ ⟨k,o,c,e,g⟩=>(r.rest k o b c e g).2,WO:=λb i=> .inr i}
 have u: ∀b,(Wr (cur S e1.obs) μ b\/b∈Ln)-> ¬ X b:=by
  intro b i x
  rcases i with⟨k,o,c,e,g⟩ | i
  ·exact d.C8.xsep k o b c e g (.inl x)
  ·rcases q b i with h | h
   ·obtain⟨k,o,c,e,g⟩:=d.own b h
    exact G.xsep k o b c e g x
   ·have:=G.xlt b x
    omega
 refine⟨⟨G.size,G.defers,λs=>Lat.Awj (r.kt s) (r.slot s),λk o t=>Lat.Akc (r.ko k o t).1 (r.ko k o t).2 (λ_ b _ _=>rfl) (r.obj k o t),r.sep,λk o b c e g=>u b (r.rest k o b c e g).2,
  λb i=>bE (G.xlt b i) A.size,r.kt,r.ko⟩,Lat.xrel y z,y,⟨A.os,A.tape,A.output,A.size,λb i B=>A.stays b i λh=>B (d.own b h)⟩,λb ⟨k,o,c,e,g⟩=>?_,j⟩
 rcases(r.rest k o b c e g).2 with h | h
 ·exact .inl (d.Es.wr h)
 ·exact(q b h).imp (d.own b) id
theorem Hw.rel {O O':Nat->Prop}{t e:TypeId}{xs:List IV}{v:Value}(h:Hw P w O e xs v)(o:P.underlying t=some (.slice e))(q: ∀b,b<w.heap.size->O' b->O b)(d: ∀b,blk v=some b-> ¬ O' b):Rel P w O' t (.list xs) v:=by
 obtain⟨z,cs,⟨A,B⟩,C,Q⟩:=h
 rcases B with⟨rfl,R⟩ | ⟨g,cap,cu,rfl,S,F,r,e5,T,U⟩
 ·have:xs= []:=by grind
  subst this
  exact(Row.nilB e none 0:Amx P w O e [] none 0).row (λb _ d=>q b ‹_› d) (λad G=>by cases G) |>.rel o
 ·have H:Kr P w O e xs cs:=C
  obtain⟨us,r1,rfl⟩:=H.Asc A
  refine .list (λj=>(us[j]?).getD undef) o r (aQ r e5) (λX=>⟨z,_,rfl,d g rfl,λj I=>?_⟩) (λj x J=>?_)
  ·have a:j<us.length:=by rw[<-r1.len];exact I
   have c:us[j]?=some us[j]:=bN a
   rw[c]
   have m:=r1.size us[j] (List.getElem_mem a)
   refine⟨m.1,λi u y=>?_⟩
   rw[Em,N1]
   simp only[World.cell?,F]
   have K:=Tx (λv L=>(r1.size v L).1) j us[j] c
   have Y:i<Ag P e:=by grind
   have M:us[j].cells.toList[i]?=some u:=by grind
   grind
  ·obtain⟨u,y,N⟩:=r1.get j x J
   rw[y]
   exact N.weaken q
theorem Rz: ∀ {bs:List Bool} {ts:List TypeId} {xs:List IV} {vs:List Value} {L:List Nat} {n:Nat} {es es':ES} {lvs:List LV} {ls:List PLt} {c:Cx} {O:Nat->Prop},es.gs.isEmpty=false->Ev S (Dy c.P bs ts n) es lvs es' ls->
  Cg c.P c.w O bs ts xs vs L->(∀t∈ts,Ak c.P t=false)->(∀b,b<c.w.heap.size->c.O b->O b)->(∀b∈L,¬ c.O b)->(∀i,i<xs.length->c.ρ[n+i]?=xs[i]?)->
  es=es'/\ls= []/\Eo c lvs vs/\lvs.flatMap Bf= []
 | [],[],xs,vs,L,n,es,es',lvs,ls,c,O,g,h,a,j,d,m,hρ=>by
  unfold Dy at h
  rw[Ad]at h
  obtain⟨rfl,rfl,rfl⟩:=h
  cases xs with
  | cons=>cases vs<;>exact a.elim
  | nil=>
   cases vs with
   | cons=>exact a.elim
   | nil=>exact⟨rfl,rfl,trivial,rfl⟩
 | o::bs,t::ts,xs,vs,L,n,es,es',lvs,ls,c,O,g,h,a,j,d,m,hρ=>by
  cases xs with
  | nil=>cases o<;>exact a.elim
  | cons x xs=>
  cases vs with
  | nil=>cases o<;>exact a.elim
  | cons v vs=>
  have q: ∀t∈ts,Ak c.P t=false:=λt h=>j t (aF _ h)
  have hρ0:c.ρ[n]?=some x:=by simpa using hρ 0 (by simp)
  have hρ1: ∀i,i<xs.length->c.ρ[n+1+i]?=xs[i]?:=λi N=>by
   have:=hρ (i+1) (by grind)
   grind
  cases o with
  | false=>
   obtain⟨I,z⟩:=a
   unfold Dy at h
   rw[Ab]at h
   obtain⟨r,e1,K,_,A,u,rfl⟩:=h
   rw[Ad]at u
   obtain⟨rfl,rfl,rfl⟩:=u
   obtain⟨rfl,rfl,B,C⟩:=Rz g A z q d m hρ1
   exact⟨rfl,rfl,⟨⟨(I.one (j t aJ)).1,⟨x,hρ0,I.weaken d⟩⟩,B⟩,by rw[aD,C];rfl⟩
  | true=>
   obtain⟨L',⟨ys,rfl,F⟩,z,rfl⟩:=a
   unfold Dy at h
   cases G:Dl c.P t with
   | none=>
    simp only[G,Ab,Ea]at h
    grind
   | some e=>
   have M:=Bo G
   have y:Hw c.P c.w O e ys v:=by
    grind
   simp only[G,Ab,Jr]at h
   obtain⟨gs,_,_,_,⟨rfl,rfl,rfl⟩,h,rfl⟩:=h
   simp only[g,aG,Zf]at h
   rw[Ab]at h
   obtain⟨r,e1,K,_,A,u,rfl⟩:=h
   rw[Ad]at u
   obtain⟨rfl,rfl,rfl⟩:=u
   obtain⟨rfl,rfl,B,C⟩:=Rz g A z q d (λb H=>m b (aB _ H)) hρ1
   have J:=y.rel M d λb H=>m b (aE _ (by simp[H]))
   exact⟨rfl,rfl,⟨⟨(J.one (j t aJ)).1,⟨_,hρ0,J⟩⟩,B⟩,by rw[aD,C];rfl⟩
 | [],_::_,xs,vs,L,n,es,es',lvs,ls,c,O,g,h,a,j,d,m,hρ=>by simp[Dy,Ac]at h
 | _::_,[],xs,vs,L,n,es,es',lvs,ls,c,O,g,h,a,j,d,m,hρ=>by simp[Dy,Ac]at h
theorem Mx: ∀ {rs:List RS} {xs:List IV} {vs:List Value} {L:List Nat} {n:Nat} {es es':ES} {r:List VV × Nat} {ls:List PLt} {c:Cx} {O:Nat->Prop},es.gs.isEmpty=false->Ev S (Hi c.P rs n) es r es' ls->
  I1 c.P c.w O rs xs vs L->(∀b,b<c.w.heap.size->c.O b->O b)->(∀b∈L,¬ c.O b)->(∀i,i<xs.length->c.ρ[n+i]?=xs[i]?)->
  es=es'/\ls= []/\Gn c r.1 vs/\r.1.flatMap Ay= []
 | [],xs,vs,L,n,es,es',r,ls,c,O,e,h,a,d,g,hρ=>by
  unfold Hi at h
  rw[Ad]at h
  obtain⟨rfl,rfl,rfl⟩:=h
  cases vs with
  | cons=>exact a.elim
  | nil=>exact⟨rfl,rfl,trivial,rfl⟩
 | .whole t::rs,xs,vs,L,n,es,es',r,ls,c,O,e,h,a,d,g,hρ=>by
  cases vs with
  | nil=>exact a.elim
  | cons v vs=>
   obtain⟨ys,zs,L1,L2,rfl,rfl,⟨x,rfl,rfl,r1⟩,r2⟩:=a
   unfold Hi at h
   rw[Ab]at h
   obtain⟨q,e1,A,_,m,j,rfl⟩:=h
   rw[Ad]at j
   obtain⟨rfl,rfl,rfl⟩:=j
   obtain⟨B,C⟩:=Q9 hρ
   obtain⟨rfl,rfl,o,y⟩:=Mx e m r2 d g (by omega)
   have z:c.ρ[n]?=some x:=by simp_all
   exact⟨rfl,rfl,⟨⟨x,z,r1.weaken d⟩,o⟩,by rw[aD,y];rfl⟩
 | .clip t::rs,xs,vs,L,n,es,es',r,ls,c,O,e,h,a,d,g,hρ=>by
  cases vs with
  | nil=>exact a.elim
  | cons v vs=>
   obtain⟨ys,zs,L1,L2,rfl,rfl,⟨x,rfl,rfl,r1,F⟩,r2⟩:=a
   unfold Hi at h
   rw[Ab]at h
   obtain⟨q,e1,A,_,m,j,rfl⟩:=h
   rw[Ad]at j
   obtain⟨rfl,rfl,rfl⟩:=j
   obtain⟨B,C⟩:=Q9 hρ
   obtain⟨rfl,rfl,o,y⟩:=Mx e m r2 d g (by omega)
   have z:c.ρ[n]?=some x:=by simp_all
   exact⟨rfl,rfl,⟨⟨⟨x,z,r1.weaken d⟩,F⟩,o⟩,by rw[aD,y];rfl⟩
 | .strict t::rs,xs,vs,L,n,es,es',r,ls,c,O,e,h,a,d,g,hρ=>by
  cases vs with
  | nil=>exact a.elim
  | cons v vs=>
   obtain⟨ys,zs,L1,L2,rfl,rfl,⟨x,rfl,rfl,r1,ys3,A3,cap3,rfl,F⟩,r2⟩:=a
   unfold Hi at h
   rw[Ab]at h
   obtain⟨q,e1,A,_,m,j,rfl⟩:=h
   rw[Ad]at j
   obtain⟨rfl,rfl,rfl⟩:=j
   obtain⟨B,C⟩:=Q9 hρ
   obtain⟨rfl,rfl,o,y⟩:=Mx e m r2 d g (by omega)
   have z:c.ρ[n]?=some (.list ys3):=by simp_all
   exact⟨rfl,rfl,⟨⟨⟨_,z,r1.weaken d⟩,ys3,A3,cap3,z,F⟩,o⟩,by rw[aD,y];rfl⟩
 | .skip ::rs,xs,vs,L,n,es,es',r,ls,c,O,e,h,a,d,g,hρ=>by
  cases vs with
  | nil=>exact a.elim
  | cons v vs=>
   obtain⟨ys,zs,L1,L2,rfl,rfl,⟨rfl,rfl⟩,r2⟩:=a
   unfold Hi at h
   rw[Ab]at h
   obtain⟨q,e1,A,_,m,j,rfl⟩:=h
   rw[Ad]at j
   obtain⟨rfl,rfl,rfl⟩:=j
   obtain⟨rfl,rfl,o,y⟩:=Mx e m r2 d g (by grind)
   exact⟨rfl,rfl,⟨trivial,o⟩,by rw[aD,y];rfl⟩
 | .nbox t bs::rs,xs,vs,L,n,es,es',r,ls,c,O,e,h,a,d,g,hρ=>by
  unfold Hi at h
  simp only[Ab,Ea]at h
  grind
 | .clo f bs::rs,xs,vs,L,n,es,es',r,ls,c,O,e,h,a,d,g,hρ=>by
  unfold Hi at h
  simp only[Ab,Ea]at h
  grind
 | .cells t bs::rs,xs,vs,L,n,es,es',r,ls,c,O,e,h,a,d,g,hρ=>by
  cases vs with
  | nil=>exact a.elim
  | cons v vs=>
   obtain⟨ys,zs,L1,L2,rfl,rfl,⟨I,b1,b2,b3,b4⟩,r2⟩:=a
   unfold Hi at h
   simp only[Ab,Ar]at h
   obtain⟨ts,_,_,_,⟨m,rfl,rfl⟩,⟨lvs,e1,A,_,j,⟨vv,T,U,_,J,⟨q,X,Y,_,K,H,rfl⟩,rfl⟩,rfl⟩,rfl⟩:=h
   rw[Ad]at H
   obtain⟨rfl,rfl,rfl⟩:=H
   rw[m]at b1;injection b1 with b1;subst b1
   obtain⟨B,C⟩:=Q9 hρ
   obtain⟨rfl,rfl,M,a2⟩:=Rz e j b4 (λu N=>by
    obtain⟨i,Q⟩:=aS.1 N
    exact Gj m i u Q) d (λb G=>g b (aE _ G)) B
   obtain⟨rfl,rfl,R,Z⟩:=Av7 J b3 M
   obtain⟨rfl,rfl,o,y⟩:=Mx e K r2 d (λb G=>g b (aB _ G)) (by rw[<-b4.len];exact C)
   refine⟨rfl,rfl,⟨R,o⟩,?_⟩
   rw[aD,y,bG,bV]
   grind
end
end Go.CT
namespace Go.CT
open EM
section
variable {P:Program}{N:Nat}{X:Nat->Prop}{R:Job->List IV->Option (List IV)}{ρ:List IV}{K:Nat->Prop}{S:View}{μ:Nat->Value}{a:Act}{w w':World}{es es' e1:ES}{ls:List PLt}{sx:SX}
 {O O':Nat->Prop}
theorem Sb {u:TypeId}{x:IV}{v:Value}(h:Rel P w O u x v)(a:Ak P u=false)(b:Dl P u=none):Rel P w O' u x v:=by
 cases h with
 | int h=>exact .int h
 | bool h=>exact .bool h
 | str h=>exact .str h
 | agg h=>rw[a]at h;cases h
 | list _ h=>simp[Dl,h]at b
theorem Akw {t:TypeId}{ts:List TypeId}(h:leaves P t=some ts)(c:Ak P t=false):ts= [t]:=by
 have b: ∀ (d:Nat),Ij P (d+1) t=some ts->ts= [t]:=by
  intro d hd
  unfold Ij at hd
  cases a:P.underlying t with
  | none=>simp[a]at hd
  | some de=>cases de<;>simp_all[Ak]
 exact b 11 h
theorem Rel.flat {t:TypeId}{x:IV}{v:Value}(h:Rel P w O t x v)(b:R9 P t=true):Rel P w O' t x v:=by
 unfold R9 at b
 cases a:leaves P t with
 | none=>simp[a]at b
 | some ts=>
  simp only[a,bL,bM]at b
  by_cases g:Ak P t=true
  ·obtain⟨o,xs,cs,e,rfl,rfl,j⟩:=h.Afw g
   rw[a]at e;injection e with e;subst e
   refine Ix.agg (Ix.M9 j.len.1 j.len.2 λi u x c m q r=>?_) g a
   exact Sb (j.get i u x c m q r) (Gj a i u m) (b u (bI m))
  ·have d:Ak P t=false:=by simpa using g
   have:=Akw a d
   subst this
   exact Sb h d (b t (by simp))
theorem Hw.flat {e:TypeId}{xs:List IV}{v:Value}(h:Hw P w O e xs v)(a:R9 P e=true):Hw P w O' e xs v:=
 ⟨h.1,let ⟨cs,b,c,d⟩:=h.2; ⟨cs,b,λj x g=>let ⟨v,i,m⟩:=c j x g; ⟨v,i.flat a,m⟩,d⟩⟩
theorem O2.flat {t:TypeId}{x:IV}{v:Value}(h:O2 P w O t x v)(c:(match Dl P t with | some e=>R9 P e | none=>match At8 P t with | some kv=>R9 P kv.1&&R9 P kv.2 | none=>false)=true):O2 P w O' t x v:=by
 obtain⟨ys,i,⟨e,d,g⟩ | ⟨kt,vt,d,r,cl,es,g,j,m,o⟩⟩:=h
 ·simp only[Dl,d]at c
  exact⟨ys,i,.inl ⟨e,d,g.flat c⟩⟩
 ·simp only[Dl,At8,d,aA]at c
  refine⟨ys,i,.inr ⟨kt,vt,d,r,cl,es,g,j,m,?_⟩⟩
  have: ∀ {xs:List IV} {es:List MapEntry},Kq P w O kt vt xs es->Kq P w O' kt vt xs es:=by
   intro xs
   induction xs with
   | nil=>intro es h;cases es<;>exact h
   | cons x xs q=>
    intro es h
    cases es with
    | nil=>exact h
    | cons e es=>
     obtain⟨⟨a,b,e1,u,y⟩,h⟩:=h
     exact⟨⟨a,b,e1,u.flat c.1,y.flat c.2⟩,q h⟩
  exact this o
theorem Cg.flat: ∀ {bs:List Bool} {ts:List TypeId} {xs:List IV} {vs:List Value} {L:List Nat},Cg P w O bs ts xs vs L->E8 P bs ts=true->(∀t∈ts,Ak P t=false)->Cg P w O' bs ts xs vs L
 | [],[],[],[],_,h,_,_=>h
 | true::bs,t::ts,x::xs,v::vs,L,h,a,b=>by
  obtain⟨L',c,d,e⟩:=h
  simp only[E8,aA]at a
  exact⟨L',c.flat a.1,d.flat a.2 (λt h=>b t (aF _ h)),e⟩
 | false::bs,t::ts,x::xs,v::vs,L,h,a,b=>by
  simp only[E8,aA,bM]at a
  exact⟨Sb h.1 (b t aJ) a.1,h.2.flat a.2 (λt h=>b t (aF _ h))⟩
 | [],[],[],_::_,_,h,_,_=>h.elim
 | [],[],_::_,_,_,h,_,_=>h.elim
 | [],_::_,_,_,_,h,_,_=>h.elim
 | _::_,[],_,_,_,h,_,_=>by simp[Cg]at h
 | _::_,_::_,[],_,_,h,_,_=>by simp[Cg]at h
 | _::_,_::_,_::_,[],_,h,_,_=>by simp[Cg]at h
theorem Aba.flat {t:TypeId}{bs:List Bool}{xs:List IV}{v:Value}{L:List Nat}(h:Aba P w O t bs xs v L)(c:(match leaves P t with | some ts=>E8 P bs ts | none=>false)=true):Aba P w O' t bs xs v L:=by
 obtain⟨b,u,L',d,e,⟨ts,a,g,j,m⟩,o⟩:=h
 simp only[a]at c
 exact⟨b,u,L',d,e,⟨ts,a,g,j,m.flat c λu q=>by
  obtain⟨i,r⟩:=aS.1 q
  exact Gj a i u r⟩,o⟩
theorem Jb.flat: ∀ {bs:List (TypeId × List Bool)} {xs:List IV} {vs:List Value} {L:List Nat},Jb P w O bs xs vs L->bs.all (λb=>match leaves P b.1 with | some ts=>E8 P b.2 ts | none=>false)=true->Jb P w O' bs xs vs L
 | [],_,[],_,h,_=>h
 | b::bs,_,_::_,_,h,a=>by
  obtain⟨ys,zs,L1,L2,c,d,e,g⟩:=h
  simp only[aP,aA]at a
  exact⟨ys,zs,L1,L2,c,d,e.flat a.1,g.flat a.2⟩
 | [],_,_::_,_,h,_=>h.elim
 | _::_,_,[],_,h,_=>h.elim
theorem I1.flat: ∀ {rs:List RS} {xs:List IV} {vs:List Value} {L:List Nat},I1 P w O rs xs vs L->rs.all (dI P)=true->I1 P w O' rs xs vs L
 | [],_,[],_,h,_=>h
 | r::rs,_,v::vs,_,h,d=>by
  obtain⟨ys,zs,L1,L2,o,q,e,y⟩:=h
  simp only[aP,aA]at d
  refine⟨ys,zs,L1,L2,o,q,?_,y.flat d.2⟩
  cases r with
  | whole t=>obtain⟨x,a,b,g⟩:=e;exact⟨x,a,b,g.flat d.1⟩
  | clip t=>obtain⟨x,a,b,g,j⟩:=e;exact⟨x,a,b,g.flat d.1,j⟩
  | strict t=>obtain⟨x,a,b,g,j⟩:=e;exact⟨x,a,b,g.flat d.1,j⟩
  | skip=>exact e
  | nbox t bs=>exact Jb.flat e (by simp only[aP,List.all_nil,Bool.and_true];exact d.1)
  | clo f bs=>obtain⟨c,a,b⟩:=e;exact⟨c,a,b.flat d.1⟩
  | cells t bs=>
   obtain⟨ts,a,b,g,j⟩:=e
   have m:=d.1
   simp only[dI,a]at m
   exact⟨ts,a,b,g,j.flat m λu z=>by
    obtain⟨i,A⟩:=aS.1 z
    exact Gj a i u A⟩
 | [],_,_::_,_,h,_=>h.elim
 | _::_,_,[],_,h,_=>h.elim
theorem I1.weaken (a: ∀b,b<w.heap.size->O' b->O b): ∀ {rs:List RS} {xs:List IV} {vs:List Value} {L:List Nat},I1 P w O rs xs vs L->I1 P w O' rs xs vs L
 | [],_,[],_,h=>h
 | r::rs,_,v::vs,_,h=>by
  obtain⟨ys,zs,L1,L2,c,d,e,g⟩:=h
  exact⟨ys,zs,L1,L2,c,d,Aaq.weaken e a,g.weaken a⟩
 | [],_,_::_,_,h=>h.elim
 | _::_,_,[],_,h=>h.elim
theorem Cr.weaken (a: ∀b,b<w.heap.size->O' b->O b): ∀ {rs:List PS} {xs:List IV} {vs:List Value} {L:List Nat},Cr P w O rs xs vs L->Cr P w O' rs xs vs L
 | [],_,[],_,h=>h
 | r::rs,xs,v::vs,L,h=>by
  unfold Cr at h ⊢
  by_cases c:r.Dp=true
  ·simp only[c,Zt]at h ⊢
   obtain⟨ys,zs,L1,L2,d,e,g,i⟩:=h
   exact⟨ys,zs,L1,L2,d,e,g.weaken a,i.weaken a⟩
  ·simp only[c]at h ⊢
   exact Cr.weaken a h
 | [],_,_::_,_,h=>h.elim
 | _::_,_,[],_,h=>h.elim
theorem E1.pure {Lt:Nat->Prop} : ∀ {b:List PS} {xs:List IV} {vs:List Value} {L:List Nat},E1 P w O Lt b xs vs L->b.all bH=true->L= []
 | [],_,[],_,h,_=>h.2
 | p::b,_,v::vs,_,h,hp=>by
  obtain⟨ys,zs,L1,L2,d,rfl,a,c⟩:=h
  simp only[aP,aA]at hp
  rw[c.pure hp.2,bG]
  cases p with
  | data t=>obtain⟨x,_,q,_⟩:=a;exact q
  | fn f ts=>obtain⟨x,_,q,_⟩:=a;exact q
  | fnb f n=>exact a.2
  | rd t=>obtain⟨x,_,q,_⟩:=a;exact q
  | arr t=>simp[bH]at hp
  | own t=>simp[bH]at hp
  | box t bs=>simp[bH]at hp
  | bld t bk=>simp[bH]at hp
 | [],_,_::_,_,h,_=>h.elim
 | _::_,_,[],_,h,_=>h.elim
theorem Rb.pure: ∀ {b:List PS} {us:List Value} {l:List Bk},Rb P K μ b us l->b.all bH=true->l= []
 | [],[],_,h,_=>h
 | p::b,_::_,_,h,hp=>by
  obtain⟨d,e,rfl,a,c⟩:=h
  simp only[aP,aA]at hp
  rw[c.pure hp.2,bG]
  cases p with
  | data t=>exact a
  | fn f ts=>exact a
  | fnb f n=>exact a
  | rd t=>exact a
  | arr t=>simp[bH]at hp
  | own t=>simp[bH]at hp
  | box t bs=>simp[bH]at hp
  | bld t bk=>simp[bH]at hp
 | [],_::_,_,h,_=>h.elim
 | _::_,[],_,h,_=>h.elim
theorem Cr.pure: ∀ {a:List PS} {xs:List IV} {us:List Value} {L:List Nat},Cr P w O a xs us L->a.all bH=true->xs= []/\L= []
 | [],_,[],_,h,_=>h
 | p::a,xs,v::us,L,h,hp=>by
  simp only[aP,aA]at hp
  have:p.Dp=false:=by cases p<;>simp_all[bH,PS.Dp]
  simp only[Cr,this,aG,Zf]at h
  exact h.pure hp.2
 | [],_,_::_,_,h,_=>h.elim
 | _::_,_,[],_,h,_=>h.elim
theorem Cr.free: ∀ {a:List PS} {xs:List IV} {us:List Value} {L:List Nat},Cr P w O a xs us L->a.all bH=true->Cr P w O' a xs us L
 | [],_,[],_,h,_=>h
 | p::a,xs,v::us,L,h,hp=>by
  simp only[aP,aA]at hp
  have:p.Dp=false:=by cases p<;>simp_all[bH,PS.Dp]
  simp only[Cr,this,aG,Zf]at h ⊢
  exact h.free hp.2
 | [],_,_::_,_,h,_=>h.elim
 | _::_,_,[],_,h,_=>h.elim
theorem Avn {e:TypeId}{k:IntKind}(h:Mt P e=some k):R9 P e=true:=by
 have a:=Dk h
 have b:leaves P e=some [e]:=by unfold leaves Ij;simp[a]
 simp[R9,b,Dl,a]
theorem ArgRel.flat {Lt:Nat->Prop}{p:PS}{xs:List IV}{v:Value}{L:List Nat}(h:ArgRel P w O Lt p xs v L)(j:p.Dp=true)(d:p.safe P=true):ArgRel P w O' Lt p xs v L:=by
 cases p with
 | arr t=>
  obtain⟨e,ys,g,i,a,c⟩:=h
  simp only[cM,Dl,a]at d
  exact⟨e,ys,g,i,a,c.flat d⟩
 | box t bs=>exact Aba.flat h d
 | bld t bk=>
  obtain⟨b,m,o,ys,st,e,g,i,a,c,q,r,u⟩:=h
  exact⟨b,m,o,ys,st,e,g,i,a,c,q,r.flat (Avn (Adt c).1),u⟩
 | _=>cases j
theorem Cr.flat: ∀ {a:List PS} {xs:List IV} {us:List Value} {L:List Nat},Cr P w O a xs us L->a.all (cM P)=true->Cr P w O' a xs us L
 | [],_,[],_,h,_=>h
 | p::a,xs,v::us,L,h,hp=>by
  simp only[aP,aA]at hp
  unfold Cr at h ⊢
  by_cases b:p.Dp=true
  ·simp only[b,Zt]at h ⊢
   obtain⟨ys,zs,L1,L2,c,d,e,g⟩:=h
   exact⟨ys,zs,L1,L2,c,d,e.flat b hp.1,g.flat hp.2⟩
  ·simp only[b]at h ⊢
   exact Cr.flat h hp.2
 | [],_,_::_,_,h,_=>h.elim
 | _::_,_,[],_,h,_=>h.elim
theorem Ac9 {c:Cx}{vvs:List VV}{vs:List Value}(h:Gn c vvs vs):Alq c (Adv vvs) (packed vs):=by
 cases vvs with
 | nil=>cases vs with
  | nil=>exact⟨#[],rfl,trivial⟩
  | cons=>exact h.elim
 | cons v vvs=>
  cases vs with
  | nil=>exact h.elim
  | cons u us=>
   cases vvs with
   | nil=>cases us with
    | nil=>exact h.1
    | cons=>exact h.2.elim
   | cons v2 vvs=>
    cases us with
    | nil=>exact h.2.elim
    | cons a us=>exact⟨_,rfl,by simpa using h⟩
theorem Wd (vvs:List VV): ∀k∈Ct (Adv vvs),k∈vvs.flatMap Ay:=by
 intro k a
 unfold Adv at a
 split at a
 ·simpa [Ct]using a
 ·simpa [Ct]using a
theorem LH.call {n i m:Nat}{gs:List (Arg × Bool)}{as:List Arg}(h:LH R ρ [⟨n,⟨gs,.call i as m⟩⟩])(d:holds ρ gs=some true):
  ∃xs rs,aW ρ as=some xs/\R ⟨i,0⟩ xs=some rs/\rs.length=m/\ ∀j,j<rs.length->ρ[n+j]?=rs[j]?:=by
 obtain⟨xs,a,e⟩:=h _ (bD.2 rfl)
 simp only[Mm.ev,d,cI,Zt,O0.ev]at a
 cases c:aW ρ as with
 | none=>simp[c]at a
 | some vs=>
  simp only[c,cI]at a
  cases b:R ⟨i,0⟩ vs with
  | none=>simp[b]at a
  | some y=>
   simp only[b,cI]at a
   split at a
   ·rename_i hlen
    injection a with a
    subst a
    exact⟨vs,y,rfl,b,hlen,λj g=>e j (by simpa [O0.arity,<-hlen]using g)⟩
   ·cases a
theorem Ajl {specs:List (Nat × Spec)}{i:Nat}{s:Spec}{vvs:List VV}{args0 args:List Value}(ak:Kb 0 s.params args0=some args)(hS:Sound P specs R)(aa:(i,s)∈specs)(G:Good P N X ρ K S.tm (cur S es.obs) μ a w)(h:Ev S (Aaf P i s vvs) es sx es' ls)(x:LH R ρ ls)
  (hg:holds ρ es.gs=some true) (g: ∀k∈vvs.flatMap Ay,K k) (hv:Gn (Bs P X ρ (cur S es.obs) μ w) vvs args) (ac: ∀k,es.m<=k->k<es'.m-> ¬ K k):
  Awt P s.fn args0.toArray w λv w'=> ∃μ',Out P N X ρ K S μ a w es es' sx μ' w' v:=by
 unfold Aaf at h
 rw[Ab]at h
 obtain⟨_,_,_,_,t,h,rfl⟩:=h
 rw[Af]at t
 obtain⟨g0,rfl,rfl⟩:=t
 rw[Ab]at h
 obtain⟨_,e0,_,_,t,h,rfl⟩:=h
 have j:es=e0/\(s.params.all bH=true\/es.gs= []):=by
  unfold Av6 at t
  rw[Iz]at t
  rcases t with⟨hp,t⟩ | ⟨_,t⟩
  ·rw[Ad]at t;exact⟨t.2.1,.inl hp⟩
  ·rw[Ea]at t;exact⟨t.2.1,.inr t.1⟩
 obtain⟨rfl,j⟩:=j
 simp only[Ab,Alw,Ad]at h
 obtain⟨ks,_,_,_,ad,⟨ab,e1,l1,_,U,⟨_,ay,az,_,ae,⟨_,e2,l2,_,h2,⟨n,_,_,_,⟨rfl,rfl,rfl⟩,⟨rm,e3,l3,_,h3,⟨_,e4,l4,_,F,⟨rfl,rfl,rfl⟩,rfl⟩,rfl⟩,rfl⟩,rfl⟩,rfl⟩,rfl⟩,rfl⟩:=h
 obtain⟨rfl,rfl,H⟩:=Vb ad
 have x:=x.right.right.right
 obtain⟨al,xs,L,p1,d,Y,I,af⟩: ∃ (al:Bool) (xs:List IV) (L:List Nat),aW ρ ab.1=some xs/\Qw P N X ρ K S μ a w L es e1/\Rb P K μ s.params args ab.2/\
   E1 P w (λb=>(al=true/\(X b\/Wr (cur S e1.obs) μ b))\/b∈L) (λ_=>False) s.params xs args L/\
   (al=false->s.results.all (dI P)=true/\(s.params.all bH=true\/s.params.all (cM P)=true)):=by
  generalize y:(!s.alias_ && !s.params.all bH&&s.params.all (cM P)&&O8 s.params vvs)=Af1 at ad H U
  cases Af1 with
  | true=>
   simp only[aA,Bool.not_eq_true']at y
   obtain⟨⟨⟨a1,a2⟩,a3⟩,a4⟩:=y
   simp only[Bool.not_true,Bool.false_and]at U
   simp only[Zt]at H
   obtain⟨xs,L,p1,d,I,Y⟩:=Xb (KS:=ks) G U x.left hg g hv a3 a4 H
   obtain⟨_,_,ag⟩:=Pn d ae
   refine⟨false,xs,L,p1,d,Y,I.weaken λb e u=>?_,λ_=>⟨by simpa [a1]using g0,.inr a3⟩⟩
   have u:b∈L:=u.resolve_left (by simp)
   exact⟨.inr u,λk g e=>ag k g b e u⟩
  | false=>
   simp only[Bool.not_false,Bool.true_and]at U
   generalize z:(s.alias_|| !s.params.all bH)=al at U
   have B:s.params.all bH=true\/al=true:=by
    by_cases hp:s.params.all bH=true
    ·exact .inl hp
    ·right;rw[<-z];simp[hp]
   obtain⟨xs,L,p1,d,I,Y⟩:=Tl G U x.left hg g hv B
   refine⟨al,xs,L,p1,d,Y,I.weaken λb e u=>?_,λZ=>?_⟩
   ·rcases u with⟨Z,u⟩ | u
    ·exact⟨Z,u.imp .inl id⟩
    ·refine⟨?_,.inl (.inr u)⟩
     rcases B with hp | hp
     ·rw[I.pure hp]at u;cases u
     ·exact hp
   ·subst Z
    simp only[Bool.or_eq_false_iff,Bool.not_eq_false']at z
    exact⟨by simpa [z.1]using g0,.inl z.2⟩
 have x:=x.right
 obtain⟨rfl,rfl,_⟩:=Pn d ae
 have x:=x.right
 obtain⟨rfl,rfl,am⟩:=Ap4 d h2 hv I
 have x:=x.right
 obtain⟨ba,rs,q1,q2,q3,q4⟩:=LH.call x.left (by rw[d.gs];exact hg)
 rw[p1]at q1;injection q1 with q1;subst q1
 -- what the callee must not touch
 have J:E1 P w (λb=>(al=true/\(X b\/Wr (cur S e1.obs) μ b))\/b∈L) (· ∈L) s.params xs args L:=am
 have an:=hS i s aa w (λb=>al=true/\(X b\/Wr (cur S e1.obs) μ b)) xs args0 args L rs ak J d.nodup
  (λb e M=>by
   rcases M.2 with M | ⟨k,o,r1,r2,r3⟩
   ·obtain⟨k,o,r1,r2,r3⟩:=d.own b e
    exact G.xsep k o b r1 r2 r3 M
   ·exact d.C8.xsep k o b r1 r2 r3 (.inr e))
  (λb M=>by
   rcases M.2 with M | ⟨k,o,r1,r2,r3⟩
   ·exact G.xlt b M
   ·exact d.C8.On r1 r2 r3) q2
 refine an.mono λv w' A=>?_
 obtain⟨vs,ivs,bvs,L1,L2,rfl,rfl,ah,Q,C,q⟩:=A.out
 have ai: ∀ (WA:Nat->Prop),(∀b,WA b->Wr (cur S e1.obs) μ b\/b∈L1++L2)-> ∃O:Nat->Prop,I1 P w' O s.results ivs vs L1/\Cr P w' O s.params bvs args L2/\ ∀b,(X b\/WA b)->O b:=by
  intro WA ao
  cases Z:al with
  | true=>
   refine⟨_,C,q,λb e=>?_⟩
   subst Z
   rcases e with e | e
   ·exact .inl ⟨rfl,.inl e⟩
   ·exact(ao b e).imp (λh=>⟨rfl,.inr h⟩) id
  | false=>
   obtain⟨T,ap⟩:=af Z
   exact⟨λ_=>True,C.flat T,ap.elim (λhp=>q.free hp) (λhp=>q.flat hp),λ_ _=>trivial⟩
 obtain⟨t1,t2⟩:=Q9 q4
 by_cases aj:es.gs= []
 ·obtain⟨O,o1,o2,o3⟩:=ai (λb=>Wr (cur S e1.obs) μ b\/b∈L1++L2) λ_ h=>h
  have r0:=Apl G d A.step Q
  have r:e1.gs= []:=d.gs.trans aj
  rw[aO]at ah
  obtain⟨aq,ar,au⟩:=ah
  have ax:e3.m<=e4.m:=Jd F
  obtain⟨rfl,u1,u2,u3,μ1,u4,u5,u6,u7,u8⟩:=Ll (c:=cxW P X ρ (λb=>Wr (cur S e1.obs) μ b\/b∈L1++L2) μ w') (es:= {e1 with n:=e1.n+(O0.call i ab.1 s.arity).arity}) r h3
   (o1.weaken λb _ e=>o3 b e) aq (λb e=>⟨aE _ e,.inr (aE _ e)⟩) r0 t1 (λk k1 k2=>ac k (by have:=d.m;have k1:e1.m<=k:=k1;omega) (by omega))
  have u3:e1.m<=e3.m:=u3
  have av:=d.m
  rw[u8]at F
  obtain⟨rfl,v1,v2,v3,μ',v4,v5,_⟩:=Jv (c:=(cxW P X ρ (λb=>Wr (cur S e1.obs) μ b\/b∈L1++L2) μ w').at μ1) (u2.trans r) F
   (o2.weaken λb _ e=>o3 b e) (Y.mono (λ_ h=> .inl h) u4) ar (λb e=>⟨⟨aB _ e,λh=>au b h b e rfl⟩,.inr (aB _ e)⟩) u5 t2 (λk k1 k2 g=>by
    rcases g with g | g
    ·exact ac k (by omega) k2 g
    ·have bb:k<e3.m:=g.2
     omega)
  have hw: ∀k,Ax (Ax K e1.m e3.m) e3.m e4.m k->Ax K es.m e4.m k:=by
   intro k g
   have:=Dn u3 v3 k g
   rwa [av]at this
  have Lt:=Cx.later (c:=(cxW P X ρ (λb=>Wr (cur S e1.obs) μ b\/b∈L1++L2) μ w').at μ1) (μ:=μ') u5.wo v4
  refine⟨μ',Ave G d A.step Q (v5.keys hw λb h=>h) (Ac9 (Lt.Tp u7 u6)) (λk g=>hw k (.inl (u7 k (Wd _ k g)))) λk g=>(v4 k (.inl g)).trans (u4 k g)⟩
 ·have hp:s.params.all bH=true:=j.resolve_right aj
  have hL:=I.pure hp
  subst hL
  have r:e1.gs.isEmpty=false:=by rw[d.gs];cases hh:es.gs<;>simp_all
  obtain⟨O,o1,o2,o3⟩:=ai (λb=>Wr (cur S e1.obs) μ b\/b∈([]:List Nat)) λb h=>h.imp id λh=>by cases h
  have r0:=Apl (Ln:= []) G d A.step (by simp)
  obtain⟨rfl,rfl,u1,u2⟩:=Mx (c:=cxW P X ρ (λb=>Wr (cur S e1.obs) μ b\/b∈([]:List Nat)) μ w') (es:= {e1 with n:=e1.n+(O0.call i ab.1 s.arity).arity}) r h3 o1 (λb _ e=>o3 b e)
   (λb e hO=>by
    have hf:w.heap.size<=b:=(Q b (aE _ e)).resolve_left (by simp)
    rcases hO with hO | ⟨k,o,y1,y2,y3⟩ | hO
    ·have:=G.xlt b hO;omega
    ·have:=d.C8.On y1 y2 y3;omega
    ·cases hO) t1
  have aw:=Y.pure hp
  rw[aw]at F
  unfold Et at F
  rw[Ad]at F
  obtain⟨_,rfl,rfl⟩:=F
  refine⟨μ,Ave (Ln:= []) G d A.step (by simp) (r0.keys (λ_ h=> .inl h) λb h=>h) (Ac9 u1) (λk g=>?_) λ_ _=>rfl⟩
  have:=Wd _ k g
  rw[u2]at this
  cases this
end
end Go.CT
namespace Go.CT
open EM
section
variable {P:Program}{N:Nat}{X:Nat->Prop}{R:Job->List IV->Option (List IV)}{ρ:List IV}{K:Nat->Prop}{S:View}{μ:Nat->Value}{a:Act}{w w':World}{es es':ES}{ls:List PLt}{sx:SX}
 {tm:Nat->SV} {ob:Nat->Option Ob}
theorem R3 (obj:Obj):Ek K (Bs P X ρ ob μ w) (Bs P X ρ ob μ (w.alloc obj)):=
 {P:=rfl,ρ:=λ_ _ h=>h,μ:=λ_ _=>rfl,stays:=(Gu _ w obj).stays,O:=λ_ _ h=>h,W:=λ_ _ h=>h,WO:=λ_ h=> .inr h}
theorem Good.alloc (G:Good P N X ρ K tm ob μ a w)(obj:Obj):Good P N X ρ K tm ob μ a (w.alloc obj):=
 ⟨G.size,G.defers,λs=>(R3 obj).Awj (G.kt s) (G.slot s),λk o c=>(R3 obj).Akc (G.ko k o c).1 (G.ko k o c).2 (λ_ b _ d=>cY _ _ _ d) (G.obj k o c),G.sep,G.xsep,
  λb e=>bE (G.xlt b e) (Gu (λ_=>False) w obj).size,G.kt,G.ko⟩
theorem Ye {t:TypeId}{len:Nat}{parts:Array (Nat × Operand)}(G:Good P N X ρ K S.tm (cur S es.obs) μ a w)(h:Ev S (P6 P t len parts) es sx es' ls)(I:LH R ρ ls)(Y:holds ρ es.gs=some true):
  ∃v w' μ',(Instr.buildSlice t len (parts.map fun(i,x)=>(i,a.eval x))).run P w= .ok v w'/\Out P N X ρ K S μ a w es es' sx μ' w' v:=by
 unfold P6 at h
 rw[Ab]at h
 obtain⟨e,_,_,_,q,h,rfl⟩:=h
 rw[Ar]at q
 obtain⟨he,rfl,rfl⟩:=q
 rw[Ab]at h
 obtain⟨_,_,_,_,q,h,rfl⟩:=h
 rw[Af]at q
 obtain⟨M,rfl,rfl⟩:=q
 simp only[aA,decide_eq_true_eq,beq_iff_eq]at M
 obtain⟨⟨⟨⟨M,Z⟩,g3⟩,g4⟩,g5⟩:=M
 rw[Ab]at h
 obtain⟨as,e1,l1,_,h1,h,rfl⟩:=h
 have I:=I.right.right
 obtain⟨p,xs,q1,m,q3⟩:=P7 g5 G h1 I.left Y
 simp only[Ab,Bt,Ad]at h
 obtain⟨_,_,_,_,⟨rfl,rfl,rfl⟩,⟨rfl,rfl,rfl⟩,rfl⟩:=h
 obtain⟨vs,iv,r1,r2,r3⟩:=bT I.right.left (by rw[p.gs];exact Y)
 rw[q1]at r1;injection r1 with r1;subst r1
 simp only[bP,aC]at r2;subst r2
 obtain⟨i,z,Q,z2,z3,z4,z5⟩:=Pk g4
 have T:=Bo he
 have hlen:(parts.toList.map λp=>a.eval p.2).length =len:=by simp[g3]
 have r:=m.len
 rw[hlen]at r
 let vs0:=parts.toList.map λp=>a.eval p.2
 let cells0:Array Value:=(Array.range (len * Ag P e)).map ((if len * Ag P e=0 then(#[]:Array Value) else z.cells)[· % (if len * Ag P e=0 then(#[]:Array Value) else z.cells).size]!)
 have y:cells0.size=len * Ag P e:=by simp[cells0]
 obtain⟨cells',f1,f2⟩:=X6 (sz:=Ag P e) vs0 0 cells0 (λv g=>(m.size v g).1) (by rw[y,bB];exact bJ _ (by simp[vs0,g3]))
 have j:vs0.length=len:=hlen
 have A:cells'.toList=Bj vs0:=by
  rw[f2,cR,List.take_zero,List.nil_append,bB,j,List.drop_of_length_le (by rw[aY,y];exact aL _),bG]
 have B:cells'.size=len * Ag P e:=by
  rw[<-aY,A,Eb (sz:=Ag P e) (λv g=>(m.size v g).1),j]
 have L:Ek K (Bs P X ρ (cur S e1.obs) μ w) (Bs P X ρ (cur S e1.obs) μ (w.alloc (.cells cells' e))):=R3 _
 refine⟨.slice (some ⟨w.heap.size,0,none⟩) len len,w.alloc (.cells cells' e),μ,?_,?_⟩
 ·have hparts:(parts.map fun(x:Nat × Operand)=>match x with | (i,x)=>(i,a.eval x)).toList =Amo 0 vs0:=by
   rw[Array.toList_map]
   have:(fun(x:Nat × Operand)=>match x with | (i,x)=>(i,a.eval x))=λp=>(p.1,a.eval p.2):=by funext ⟨i,x⟩;rfl
   rw[this];exact q3
  unfold Instr.buildSlice
  have hn: ¬ (len * Ag P e > 2 ^ 24):=by omega
  by_cases d:len * Ag P e=0
  ·simp only[underlying,Sem.run_bind,run_program,Result.andThen_ok,T,Sem.run_pure,run_sizeOf Q,if_neg hn,if_pos d,hparts]
   have c:=f1
   simp only[cells0,if_pos d]at c
   rw[c]
   simp[newRow]
  ·simp only[underlying,Sem.run_bind,run_program,Result.andThen_ok,T,Sem.run_pure,run_sizeOf Q,if_neg hn,if_neg d,hparts,zeroValue,typeInfo,Q,z2]
   have c:=f1
   simp only[cells0,if_neg d]at c
   rw[c]
   simp[newRow]
 ·have C: ∀u∈Bj vs0,u.oneCell'=true:=λu hu=>Gp (λv g=>(m.size v g).2) u hu
  have F:Hw P (w.alloc (.cells cells' e)) (Bs P X ρ (cur S e1.obs) μ w).O e xs (.slice (some ⟨w.heap.size,0,none⟩) len len):=by
   refine⟨Z,Bj vs0,?_,L.elems m.elems,C⟩
   rw[r]
   refine⟨by rw[Eb (sz:=Ag P e) (λv g=>(m.size v g).1),j],.inr ⟨w.heap.size,len,cells',rfl,bX _,heap_alloc_new w _,aL _,?_,B,?_⟩⟩
   ·have:maxLen=9223372036854775807:=by decide
    have:=cG len Z
    omega
   ·rw[List.take_of_length_le (by rw[aY,B];exact aL _),A]
  have H:=F.rel (O':=(Bs P X ρ (cur S e1.obs) μ w).O) T (λ_ _ h=>h) (λb J U=>by
   simp[blk]at J
   subst J
   rcases U with U | ⟨k,o,k1,k2,k3⟩
   ·exact dB _ (G.xlt _ U)
   ·exact dB _ (p.C8.On k1 k2 k3))
  refine⟨(p.C8.alloc _).Pl λ_ h=> .inl h,⟨.list xs,r3,H⟩,Np _ _,?_,λb J=> .inl (p.Es.wr J),λ_ _=>rfl⟩
  exact Gu _ _ _
end
end Go.CT
namespace Go.CT
open EM
section
variable {P:Program}{N:Nat}{X:Nat->Prop}{R:Job->List IV->Option (List IV)}{ρ:List IV}{K:Nat->Prop}{S:View}{μ:Nat->Value}{a:Act}{w w':World}{es es' e1:ES}{ls:List PLt}{sx:SX}
theorem At2 {p:PS}{v:VV}{b:Bool}(h:Ev S (As1 p v) es b es' ls):es=es'/\ls= []:=by
 unfold As1 at h
 split at h<;>first
  | (rw[Ad]at h;grind)
  | (
   rw[Ab]at h
   obtain⟨o,_,_,c,a,h,rfl⟩:=h
   rw[B6]at a
   obtain⟨d,rfl,rfl⟩:=a
   split at h<;> (rw[Ad]at h;grind))
theorem Abx: ∀ {d:List PS} {vs:List VV} {b:Bool} {es es':ES} {ls:List PLt},Ev S (Se d vs) es b es' ls->es=es'/\ls= []
 | [],[],b,es,es',ls,h=>by
  unfold Se at h
  rw[Ad]at h;grind
 | p::d,v::vs,b,es,es',ls,h=>by
  unfold Se at h
  rw[Ab]at h
  obtain⟨c,e1,g,i,e,a,rfl⟩:=h
  obtain⟨rfl,rfl⟩:=At2 e
  rw[Iz]at a
  rcases a with⟨_,a⟩ | ⟨_,a⟩
  ·obtain⟨rfl,rfl⟩:=Abx a
   grind
  ·rw[Ad]at a;grind
 | [],_::_,b,es,es',ls,h=>by unfold Se at h;rw[Ad]at h;grind
 | _::_,[],b,es,es',ls,h=>by unfold Se at h;rw[Ad]at h;grind
theorem Nf {f:FuncId}{vs:List VV} : ∀ {ss:List (Nat × Spec)} {q:Nat × Spec} {es es':ES} {ls:List PLt},Ev S (Nx f vs ss) es q es' ls->es=es'/\ls= []/\q∈ss/\q.2.fn=f
 | [],q,es,es',ls,h=>by simp[Nx,Ac]at h
 | (i,s)::ss,q,es,es',ls,h=>by
  unfold Nx at h
  rw[Iz]at h
  rcases h with⟨g,h⟩ | ⟨_,h⟩
  ·split at h
   ·rw[Ab]at h
    obtain⟨c,e1,j,m,e,a,rfl⟩:=h
    obtain⟨rfl,rfl⟩:=Abx e
    rw[Iz]at a
    rcases a with⟨_,a⟩ | ⟨_,a⟩
    ·rw[Ad]at a
     grind
    ·obtain⟨rfl,rfl,b,d⟩:=Nf a
     grind
   ·obtain⟨rfl,rfl,b,d⟩:=Nf h
    grind
  ·obtain⟨rfl,rfl,b,d⟩:=Nf h
   grind
theorem Apd: ∀ {xs:List Operand} {ts:List TypeId} {es es':ES} {vs:List VV} {ls:List PLt},Good P N X ρ K S.tm (cur S es.obs) μ a w->Ev S (Ar6 P xs ts) es vs es' ls->holds ρ es.gs=some true->
  es=es'/\ls= []/\Gn (Bs P X ρ (cur S es.obs) μ w) vs (xs.map a.eval)/\ ∀k∈vs.flatMap Ay,K k
 | [],ts,es,es',vs,ls,G,h,b=>by
  unfold Ar6 at h
  rw[Ad]at h
  obtain⟨rfl,rfl,rfl⟩:=h
  exact⟨rfl,rfl,trivial,by simp⟩
 | x::xs,t::ts,es,es',vs,ls,G,h,b=>by
  unfold Ar6 at h
  simp only[Ab,Ad]at h
  obtain⟨v,e1,i,_,c,⟨vs,j,m,_,d,⟨rfl,rfl,rfl⟩,rfl⟩,rfl⟩:=h
  obtain⟨rfl,rfl,e,o⟩:=G9 G c b
  obtain⟨rfl,rfl,g,q⟩:=Apd G d b
  refine⟨rfl,rfl,⟨e,g⟩,λk r=>?_⟩
  grind
 | _::_,[],es,es',vs,ls,G,h,b=>by simp[Ar6,Ac]at h
theorem Oz.len {c:Cx} : ∀ {a:List PV} {vs:List Value},Oz c a vs->a.length=vs.length
 | [],[],_=>rfl
 | _::_,_::_,h=>by simp[Oz.len h.2]
 | [],_::_,h=>h.elim
 | _::_,[],h=>h.elim
theorem Ad2 {c:Cx} : ∀ {k:Nat} {b:List PS} {vvs fl:List VV} {vs:List Value},Lu k b vvs=some fl->Gn c vvs vs-> ∃fs,Kb k b vs=some fs/\Gn c fl fs/\ ∀q∈fl.flatMap Ay,q∈vvs.flatMap Ay
 | k+1,_::b,vvs,fl,vs,h,a=>by
  unfold Lu at h
  unfold Kb
  exact Ad2 h a
 | k+1,[],vvs,fl,vs,h,a=>by simp[Lu]at h
 | 0,[],[],fl,vs,h,a=>by
  cases vs with
  | cons=>exact a.elim
  | nil=>
   simp only[Lu,aC]at h
   subst h
   exact⟨[],rfl,trivial,by simp⟩
 | 0,[],_::_,fl,vs,h,a=>by simp[Lu]at h
 | 0,p::b,[],fl,vs,h,a=>by simp[Lu]at h
 | 0,p::b,x::vvs,fl,vs,h,a=>by
  cases vs with
  | nil=>exact a.elim
  | cons v vs=>
   unfold Lu at h
   unfold Kb
   cases hp:Aej p with
   | none=>
    simp only[hp]at h ⊢
    cases e:Lu 0 b vvs with
    | none=>grind
    | some r=>
     simp only[e,aH,aC]at h
     subst h
     obtain⟨fs,m,o,t⟩:=Ad2 e a.2
     refine⟨v::fs,by simp[m],⟨a.1,o⟩,λq d=>?_⟩
     grind
   | some fn=>
    simp only[hp]at h ⊢
    cases j:Ald x with
    | none=>grind
    | some gc=>
     simp only[j]at h
     split at h
     ·rename_i u
      simp only[aA,beq_iff_eq]at u
      obtain⟨g,caps,rfl⟩: ∃g caps,x= .leaf (.fn g caps):=by
       unfold Ald at j
       grind
      simp only[Ald,aC]at j
      subst j
      cases e:Lu fn.2 b vvs with
      | none=>grind
      | some r=>
       simp only[e,aH,aC]at h
       subst h
       obtain⟨cs,rfl,i⟩:=a.1
       obtain⟨fs,m,o,t⟩:=Ad2 e a.2
       refine⟨.func (.func g) #[] cs::(cs.toList++fs),?_,⟨trivial,i.Tp.append o⟩,λq d=>?_⟩
       ·have w:=i.len
        simp only[A6w,Array.isEmpty_empty,Zt,m,aH]
        grind
       ·rw[aD,bY,Sm]at d
        rw[aD]
        rcases aI.1 d with d | d
        ·simp[Ay,Bf]at d
        ·exact(aI.1 d).elim (λh=>aE _ h) λh=>aB _ (t q h)
     ·cases h
theorem Aqp {o:Oper}{f:FuncId}{args:Array Value}{R:Value->World->Prop}{next:Act->World->Prop}{Q:Exit->Act->World->Prop}(h:Awt P f args w R)(i:(execOp a.eval o).run P w=(callFunc f args).run P w)
  (j: ∀v w',R v w'->next (a.put o.dst v) w'):o.wp P a w next Q:=by
 unfold Oper.wp
 rw[i]
 rcases h with⟨fn,b,g,q,m⟩ | ⟨v,w',b,g⟩
 ·have:(callFunc f args).run P w= .ok (.enter f args) w:=by
   have c: ¬ fn.name= "runtime.NumGoroutine" :=by grind
   have d: ¬ fn.body=none:=λe=>by grind
   simp[callFunc,b,c,d]
  rw[this,Oper.upon_enter]
  refine m.mono λe w' ⟨v,r,t⟩=>?_
  grind
 ·rw[b];exact j v w' g
theorem A6k {specs:List (Nat × Spec)}{o:Oper}{next:Act->World->Prop}{Q:Exit->Act->World->Prop}(hS:Sound P specs R)(G:Good P N X ρ K S.tm (cur S es.obs) μ a w)(h:Ev S (xOp P specs o) es sx es' ls)(z:LH R ρ ls)
  (g:holds ρ es.gs=some true) (A: ∀k,es.m<=k->k<es'.m-> ¬ K k) (C: ∀v w' μ',Out P N X ρ K S μ a w es es' sx μ' w' v->next (a.put o.dst v) w'):o.wp P a w next Q:=by
 have val: ∀ {s:Sem Value},(execOp a.eval o=do pure (.value (<-s)))->(∃v w' μ',s.run P w= .ok v w'/\Out P N X ρ K S μ a w es es' sx μ' w' v)->o.wp P a w next Q:=by
  intro s he ⟨v,w',μ',j,B⟩
  refine Dr (w':=w') (v:=v) ?_ (C v w' μ' B)
  simp_all
 have val0: ∀ {s:Sem Value},(execOp a.eval o=do pure (.value (<-s)))->(∃v,s.run P w= .ok v w/\Out P N X ρ K S μ a w es es' sx μ w v)->o.wp P a w next Q:=by
  grind
 unfold xOp at h
 split at h
 ·rename_i x d
  obtain⟨rfl,rfl,L,T⟩:=Axx G h g
  exact Dr (w':=w) (v:=a.eval x) (by simp[execOp,d]) (C _ _ μ (cJ (.refl G) L T))
 ·rename_i x d
  obtain⟨rfl,rfl,L,T⟩:=Axx G h g
  exact Dr (w':=w) (v:=a.eval x) (by simp[execOp,d]) (C _ _ μ (cJ (.refl G) L T))
 ·rename_i c x y d
  obtain⟨v,j,B⟩:=Azn G h z g
  refine Dr (w':=w) (v:=v) ?_ (C _ _ μ B)
  simp only[execOp,d]
  simp only[Sem.run_bind,Sem.run_pure]at j ⊢
  cases hc:(asBool (a.eval c)).run P w with
  | halt=>simp[hc]at j
  | ok b w2=>simp_all
 ·rename_i t x d
  exact val (by simp[execOp,d]) (A2y G h g A)
 ·rename_i t d
  split at h
  ·exact val (by simp[execOp,d]) (Ara G h A)
  ·exact val (by simp[execOp,d]) (Au9 G h A)
 ·rename_i t x d
  exact val0 (by simp[execOp,d]) (Axu G h z g)
 ·rename_i t x y d
  rw[Ab]at h
  obtain⟨vv,e1,l1,_,j,h,rfl⟩:=h
  rw[Ab]at h
  obtain⟨p,F,l2,_,B,h,rfl⟩:=h
  obtain⟨rfl,rfl,rfl,hp,Z⟩:=S4 G j B g
  rw[Ab]at h
  obtain⟨v,e3,l3,_,h3,h,rfl⟩:=h
  obtain⟨rfl,rfl,hv,aa⟩:=G9 G h3 g
  rw[Ab]at h
  obtain⟨_,e4,l4,_,h4,h,rfl⟩:=h
  rw[Ad]at h
  obtain⟨rfl,rfl,rfl⟩:=h
  obtain⟨w',μ',r1,r2⟩:=Aub G h4 (by simpa using z) g hp Z hv aa
  unfold Oper.wp
  have:(execOp a.eval o).run P w= .ok .skip w':=by simp[execOp,d,r1]
  rw[this,Oper.upon_skip]
  grind
 ·rename_i s x f d
  exact val0 (by simp[execOp,d]) (Ad0 G h g)
 ·rename_i s x f d
  exact val0 (by simp[execOp,d]) (At9 G h z g)
 ·rename_i t x i d
  exact val0 (by simp[execOp,d]) (Aes G h z g)
 ·rename_i t x i d
  exact val0 (by simp[execOp,d]) (Arv G h z g)
 ·rename_i t x lo hi mx d
  exact val0 (by simp[execOp,d]) (Aju G h z g)
 ·rename_i op xt x y yt d
  exact val0 (by simp[execOp,d]) (Ar4 G h z g)
 ·rename_i op xt x d
  exact val0 (by simp[execOp,d]) (A5v G h z g)
 ·rename_i src dst x d
  exact val0 (by simp[execOp,d]) (Ax8 G h z g)
 ·rename_i x d
  obtain⟨v,j,B⟩:=Ajr d G h g
  exact Dr j (C _ _ μ B)
 ·rename_i x i d
  exact val0 (by simp[execOp,d]) (Ajx G h z g)
 ·rename_i t x d
  exact val (by simp[execOp,d]) (Av5 G h z g A)
 ·rename_i it isS d
  exact val (by simp[execOp,d]) (Ay2 (ty:=o.type) G h z g)
 ·rename_i t r d
  obtain⟨rfl,j⟩:=Amf G h A
  exact val (by simp[execOp,d]) j
 ·rename_i t x i ok d
  exact val0 (by simp[execOp,d]) (Aq9 G h z g)
 ·rename_i t m i x d
  obtain⟨w',μ',r1,r2⟩:=Aea G h z g
  unfold Oper.wp
  have:(execOp a.eval o).run P w= .ok .skip w':=by simp[execOp,d,r1]
  rw[this,Oper.upon_skip]
  grind
 ·rename_i t parts d
  exact val0 (by simp[execOp,d]) (Ate G h z g)
 ·rename_i t len parts d
  simp only[Ab,Jr]at h
  obtain⟨gs,_,_,_,⟨rfl,rfl,rfl⟩,h,rfl⟩:=h
  rw[Iz]at h
  rcases h with⟨_,h⟩ | ⟨_,h⟩
  ·exact val (by simp[execOp,d]) (Aa4 G h (by omega) g A)
  ·exact val (by simp[execOp,d]) (Ye G h (by omega) g)
 ·rename_i t x y d
  exact val (by simp[execOp,d]) (Adm G h z g A)
 ·rename_i f first caps d
  exact val0 (by simp[execOp,d]) (Agf G h g)
 ·rename_i c d
  unfold A6m at h
  split at h
  ·rename_i b H
   split at h
   ·rename_i x t U Y
    have e1:c.args= #[x]:=by grind
    have F:c.argTypes= #[t]:=by grind
    obtain⟨v,j,B⟩:=A3q F G h z g
    refine Dr (w':=w) (v:=v) ?_ (C _ _ μ B)
    simp[execOp,d,resolve,H,e1,invoke,builtin,j]
   ·rename_i s x st xt U Y
    have e1:c.args= #[s,x]:=by grind
    have F:c.argTypes= #[st,xt]:=by grind
    rw[Iz]at h
    rcases h with⟨_,h⟩ | ⟨_,h⟩
    ·obtain⟨v,w',μ',j,B⟩:=Amu G h z g A
     refine Dr (w':=w') (v:=v) ?_ (C _ _ μ' B)
     simp[execOp,d,resolve,H,e1,F,invoke,builtin,j]
    ·obtain⟨v,w',μ',j,B⟩:=Ae0 G h z g A
     refine Dr (w':=w') (v:=v) ?_ (C _ _ μ' B)
     simp[execOp,d,resolve,H,e1,F,invoke,builtin,j]
   ·rename_i x t U Y
    have e1:c.args= #[x]:=by grind
    have F:c.argTypes= #[t]:=by grind
    obtain⟨v,w',μ',j,B⟩:=Ava (rt:=o.type) G h z g
    refine Dr (w':=w') (v:=v) ?_ (C _ _ μ' B)
    simp[execOp,d,resolve,H,e1,F,invoke,builtin,j]
   ·rename_i x y t u U Y
    have e1:c.args= #[x,y]:=by grind
    rw[Ab]at h
    obtain⟨_,_,_,_,I,h,rfl⟩:=h
    rw[Af]at I
    obtain⟨g0,rfl,rfl⟩:=I
    obtain⟨v,j,B⟩:=Abb (ats:=c.argTypes) G h (by simpa using z) g
    refine Dr (w':=w) (v:=v) ?_ (C _ _ μ B)
    simp only[Zt]at j
    simp[execOp,d,resolve,H,e1,invoke,builtin,j]
   ·rename_i x y t u U Y
    have e1:c.args= #[x,y]:=by grind
    rw[Ab]at h
    obtain⟨_,_,_,_,I,h,rfl⟩:=h
    rw[Af]at I
    obtain⟨g0,rfl,rfl⟩:=I
    obtain⟨v,j,B⟩:=Abb (ats:=c.argTypes) G h (by simpa using z) g
    refine Dr (w':=w) (v:=v) ?_ (C _ _ μ B)
    simp only[aG,Zf]at j
    simp[execOp,d,resolve,H,e1,invoke,builtin,j]
   ·simp[Ac]at h
  ·rename_i fo H
   rw[Ab]at h
   obtain⟨fv,e1,l1,_,j,h,rfl⟩:=h
   obtain⟨rfl,rfl,p1,p2⟩:=G9 G j g
   split at h
   ·rename_i f caps
    obtain⟨vs,p1,p3⟩:=p1
    rw[Ab]at h
    obtain⟨vvs,F,l2,_,B,h,rfl⟩:=h
    obtain⟨rfl,rfl,L,T⟩:=Apd G B g
    simp only[Ab]at h
    obtain⟨q,e3,l3,_,h3,⟨fl,_,_,_,I,h,rfl⟩,rfl⟩:=h
    obtain⟨rfl,rfl,r1,r2⟩:=Nf h3
    rw[Ar]at I
    obtain⟨ab,rfl,rfl⟩:=I
    obtain⟨fs,f1,f2,f3⟩:=Ad2 ab (L.append p3.Tp)
    have M:=Ajl f1 hS r1 G h (by grind) g (λk J=>by
     have J:=f3 k J
     rw[bY,Sm]at J
     rcases aI.1 J with J | J
     ·grind
     ·exact p2 k J) f2 A
    rw[r2]at M
    refine Aqp M ?_ λv w' ⟨μ',hO⟩=>C v w' μ' hO
    have e:(c.args.toList.map a.eval++vs.toList).toArray =c.args.map a.eval++vs:=by
     grind
    rw[e]
    simp[execOp,d,resolve,H,p1,Deferred.ofValue,invoke]
   ·simp[Ac]at h
  ·simp[Ac]at h
 ·simp[Ac]at h
end
end Go.CT
namespace Go.CT
open EM
theorem RM.Tf {α:Type}{S S':View} : ∀ {f:RM α} {x:α} {ls:List PLt} {sl ks:List Nat},f.run S=some (x,ls,sl,ks)->(∀t∈sl,S'.tm t=S.tm t)->(∀k∈ks,S'.ob k=S.ob k)->f.run S'=some (x,ls,sl,ks)
 | .pure a,x,ls,sl,ks,h,_,_=>h
 | .tm s k,x,ls,sl,ks,h,b,c=>by
  simp only[cZ,aN,Prod.exists]at h
  obtain⟨a,e,l,r,h,h'⟩:=h
  simp only[aZ]at h'
  obtain⟨rfl,rfl,rfl,rfl⟩:=h'
  have:=RM.Tf h (λt d=>b t (aF _ d)) c
  simp only[cZ,b s aJ,this,aH]
 | .ob s k,x,ls,sl,ks,h,b,c=>by
  simp only[cZ,aN,Prod.exists]at h
  obtain⟨a,e,l,r,h,h'⟩:=h
  simp only[aZ]at h'
  obtain⟨rfl,rfl,rfl,rfl⟩:=h'
  have:=RM.Tf h b (λt d=>c t (aF _ d))
  simp only[cZ,c s aJ,this,aH]
 | .emit l k,x,ls,sl,ks,h,b,c=>by
  simp only[cZ,aN,Prod.exists]at h
  obtain⟨a,e,l,r,h,h'⟩:=h
  simp only[aZ]at h'
  obtain⟨rfl,rfl,rfl,rfl⟩:=h'
  have:=RM.Tf h b c
  simp only[cZ,this,aH]
section
variable {P:Program}{N:Nat}{X:Nat->Prop}{R:Job->List IV->Option (List IV)}{ρ:List IV}{K:Nat->Prop}{S:View}{μ:Nat->Value}{a:Act}{w w':World}{es es' e1:ES}{ls:List PLt}{sx:SX}
 {tm:Nat->SV} {ob:Nat->Option Ob} {specs:List (Nat × Spec)} {ops:Array Oper}
structure FS (P:Program)(N:Nat)(X:Nat->Prop)(ρ:List IV)(K:Nat->Prop)(tm:Nat->SV)(ob:Nat->Option Ob)(μ:Nat->Value)(a:Act)(w:World)(W0:Nat->Prop)(w0:World)(H:Nat->Prop)(hd:Nat->Value):Prop where
 C8:Good P N X ρ K tm ob μ a w
 step:Hz W0 w0 w
 own: ∀b,Wr ob μ b->W0 b\/w0.heap.size<=b
 hdr: ∀k,H k->K k/\μ k=hd k
theorem FS.out {W0:Nat->Prop}{w0:World}{H:Nat->Prop}{hd:Nat->Value}{μ':Nat->Value}{v:Value}(F:FS P N X ρ K S.tm (cur S es.obs) μ a w W0 w0 H hd)(o:Out P N X ρ K S μ a w es es' sx μ' w' v):
  Hz W0 w0 w'/\ ∀b,Wr (cur S es'.obs) μ' b->W0 b\/w0.heap.size<=b:=by
 refine⟨⟨o.step.os.trans F.step.os,o.step.tape.trans F.step.tape,o.step.output.trans F.step.output,aQ F.step.size o.step.size,λb c d=>?_⟩,λb c=>?_⟩
 ·rw[o.step.stays b (bE c F.step.size) λh=>?_,F.step.stays b c d]
  rcases F.own b h with h | h
  ·exact d h
  ·omega
 ·rcases o.own b c with h | h
  ·exact F.own b h
  ·exact .inr (aQ F.step.size h)
theorem Good.Awc (G:Good P N X ρ K tm ob μ a w){d:Option Nat}{sv:SV}{v:Value}(hd: ∀t,d=some t->t<N)(g:Awr (Bs P X ρ ob μ w) sv v)(h: ∀k∈Ct sv.x,K k):
  Good P N X ρ K (λt=>if d=some t then sv else tm t) ob μ (a.put d v) w:=by
 cases d with
 | none=>simpa [Act.put]using G
 | some t=>
  have i:=hd t rfl
  refine⟨by simpa [Act.put]using G.size,G.defers,λs=>?_,G.obj,G.sep,G.xsep,G.xlt,λs k b=>?_,G.ko⟩
  ·by_cases c:t=s
   ·subst c
    have:(a.put (some t) v).tmps.getD t undef=v:=by
     have e:t<a.tmps.size:=by rw[G.size];exact i
     simp[Act.put,e]
    rw[this];simpa using g
   ·have:(a.put (some t) v).tmps.getD s undef=a.tmps.getD s undef:=by
     simp[Act.put,Array.getElem?_setIfInBounds_ne c]
    rw[this];simpa [c]using G.slot s
  ·by_cases c:t=s
   ·subst c;simp at b;exact h k b
   ·simp[c]at b;exact G.kt s k b
theorem Wa: ∀ {gs a:List (Arg × Bool)},holds ρ (gs++a)=match holds ρ gs with | some true=>holds ρ a | r=>r
 | [],a=>rfl
 | (x,want)::gs,a=>by
  simp only[List.cons_append,holds]
  cases d:x.ev ρ with
  | none=>rfl
  | some y=>
   cases y<;>try rfl
   rename_i b
   by_cases c:b=want
   ·simp only[c,Zt];exact Wa
   ·simp[c]
theorem Ar0 {o:Oper}{gs:List (Arg × Bool)}{gk:List Nat}(h:Adk P S ops o=some (gs,gk))(H: ∀t∈gk,tm t=S.tm t)(G:Good P N X ρ K tm ob μ a w):
  holds ρ gs=some (Region.wanted o (yielded ops a.tmps)):=by
 unfold Adk at h
 cases m:o.guard with
 | none=>
  simp only[m,aC,aZ]at h
  obtain⟨rfl,rfl⟩:=h
  simp[holds,Region.wanted,m]
 | some jw=>
  obtain⟨j,want⟩:=jw
  simp only[m]at h
  cases hd:(ops[j]?).bind (·.dst) with
  | none=>simp[hd]at h
  | some d=>
   simp only[hd]at h
   split at h
   ·rename_i x t I
    split at h
    ·rename_i J
     simp only[aC,aZ]at h
     obtain⟨rfl,rfl⟩:=h
     have u:=H d (by simp)
     obtain⟨b,q,C,y⟩:=G.slot d
     rw[u]at q C
     have q:holds ρ (S.tm d).gs =some b:=q
     rw[Wa,q]
     have L:Region.wanted o (yielded ops a.tmps)=(yielded ops a.tmps j == some want):=by simp[Region.wanted,m]
     rw[L]
     have F:yielded ops a.tmps j=match a.tmps[d]? with | some (.bool b)=>some b | _=>none:=by
      unfold yielded;rw[hd];rfl
     cases b with
     | true=>
      have g:=C rfl
      rw[I]at g
      obtain⟨iv,A,M⟩:=g
      obtain⟨c,rfl,Q⟩:=M.Nz (Cz J)
      have A:x.ev ρ=some (.bool c):=A
      have:a.tmps[d]?=some (.bool c):=by
       have e:(a.tmps[d]?).getD undef= .bool c:=by simpa using Q
       cases r:a.tmps[d]? with
       | none=>rw[r]at e;simp[undef]at e
       | some z=>rw[r]at e;simp at e;rw[e]
      rw[F,this]
      simp only[holds,A]
      by_cases i:c=want
      ·simp[i]
      ·simp only[i,Zf];cases c<;>cases want<;>simp_all
     | false=>
      have y:=y rfl
      have B:yielded ops a.tmps j=none:=by
       rw[F]
       have e:(a.tmps[d]?).getD undef=undef:=by simpa using y
       cases r:a.tmps[d]? with
       | none=>rfl
       | some z=>rw[r]at e;simp at e;rw[e];rfl
      rw[B];rfl
    ·cases h
   ·cases h
theorem P5 {m0:Nat}{x:SX}(h:Tv m0 x=true): ∀k∈Ct x,k<m0:=by
 have hp: ∀p:PV,Oe m0 p=true-> ∀k∈Eg p,k<m0:=by
  intro p h k a
  cases p<;>simp_all[Oe,Eg]
 have d: ∀l:LV,Nr m0 l=true-> ∀k∈Bf l,k<m0:=by
  intro l h k a
  cases l<;>simp_all[Nr,Bf]
  ·exact hp _ h k a
  ·obtain⟨p,b,c⟩:=a
   exact hp p (h p b) k c
 have e: ∀v:VV,Le m0 v=true-> ∀k∈Ay v,k<m0:=by
  intro v h k a
  cases v with
  | leaf l=>exact d l h k a
  | agg t ls=>
   simp only[Le,bL]at h
   simp only[Ay,bK]at a
   obtain⟨l,b,c⟩:=a
   exact d l (h l b) k c
 intro k a
 cases x with
 | one v=>exact e v h k a
 | nx=>cases a
 | tup vs=>
  simp only[Tv,bL]at h
  simp only[Ct,bK]at a
  obtain⟨v,b,c⟩:=a
  exact e v (h v b) k c
theorem Sv: ∀ {obs:List (Nat × Option Ob)} {S':View},C5 S obs=true->(∀k∈obs.map (·.1),S'.ob k=S.ob k)->Good P N X ρ K tm S'.ob μ a w->Good P N X ρ K tm (cur S' obs) μ a w/\Kc S'.ob (cur S' obs)
 | [],S',_,_,G=>⟨by rw[Nn];exact G,by rw[Nn];exact Kc.refl _⟩
 | (k,none)::r,S',h,_,_=>by simp[C5]at h
 | (k,some (.box _ _))::r,S',h,_,_=>by simp[C5]at h
 | (k,some (.arr _ _ _))::r,S',h,_,_=>by simp[C5]at h
 | (k,some (.iter _ _))::r,S',h,_,_=>by simp[C5]at h
 | (k,some (.mp _ _ _ _))::r,S',h,_,_=>by simp[C5]at h
 | (k,some (.frz e t c))::r,S',h,B,G=>by
  simp only[C5,aA]at h
  obtain⟨g,R⟩:=h
  obtain⟨G1,F1⟩:=Sv R (λk C=>B k (by simp at C ⊢;exact .inr C)) G
  rw[Bz]
  have M:=B k (by simp)
  -- in the older obs k is frozen already, or still as it was
  have H: ∃c',(cur S' r k=some (.arr e t c')\/cur S' r k=some (.frz e t c'))/\c.ev ρ=c'.ev ρ:=by
   have u: ∃c',(S.ob k=some (.arr e t c')\/S.ob k=some (.frz e t c'))/\c.ev ρ=c'.ev ρ:=by
    split at g
    ·rename_i Z t' c' x
     simp only[aA,beq_iff_eq]at g
     obtain⟨⟨rfl,rfl⟩,g⟩:=g
     exact⟨c',.inl x,dH g⟩
    ·rename_i Z t' c' x
     simp only[aA,beq_iff_eq]at g
     obtain⟨⟨rfl,rfl⟩,g⟩:=g
     exact⟨c',.inr x,dH g⟩
    ·cases g
   obtain⟨c',I,j⟩:=u
   unfold cur
   cases Q:Io k r with
   | none=>simp only;rw[M];exact⟨c',I,j⟩
   | some o=>
    simp only
    -- what stands in r for k is frozen too, of the same row
    have: ∀ {r:List (Nat × Option Ob)} {o:Option Ob},C5 S r=true->Io k r=some o-> ∃z,o=some (.frz e t z)/\c.ev ρ=z.ev ρ:=by
     intro r o d A
     induction r with
     | nil=>simp[Io]at A
     | cons q r ih=>
      obtain⟨k2,T⟩:=q
      unfold Io at A
      by_cases y:k2=k
      ·simp only[y,beq_self_eq_true,Zt,aC]at A
       subst A
       cases T with
       | none=>simp[C5]at d
       | some ob2=>
        cases ob2 with
        | box=>simp[C5]at d
        | arr=>simp[C5]at d
        | iter=>simp[C5]at d
        | mp=>simp[C5]at d
        | frz e2 t2 z=>
         simp only[C5,aA,y]at d
         obtain⟨d,_⟩:=d
         rcases I with I | I<;>simp only[I,aA,beq_iff_eq]at d<;>obtain⟨⟨rfl,rfl⟩,d⟩:=d<;>exact⟨z,rfl,j.trans (dH d).symm⟩
      ·have:(k2 == k)=false:=by simpa using y
       simp only[this,aG,Zf]at A
       refine ih ?_ A
       cases T with
       | none=>simp[C5]at d
       | some ob2=>cases ob2<;>simp[C5]at d ⊢<;>exact d.2
    obtain⟨z,rfl,J⟩:=this R Q
    exact⟨z,.inr rfl,J⟩
  obtain⟨c',L,j⟩:=H
  have swap: ∀ {ob:Nat->Option Ob},Good P N X ρ K tm ob μ a w->ob k=some (.frz e t c')->Good P N X ρ K tm (B5 ob k (some (.frz e t c))) μ a w/\Kc ob (B5 ob k (some (.frz e t c))):=by
   intro ob G U
   have F:Kc ob (B5 ob k (some (.frz e t c))):=by
    intro i o b Y
    unfold B5 at b
    split at b
    ·injection b with b;subst b;simp[cS]at Y
    ·exact b
   refine⟨G.Es F (λi o b Y=>?_),F⟩
   by_cases B:i=k
   ·subst B
    simp only[B5,Zt,aC]at b
    subst b
    have hL:=F.later (K:=K) (P:=P) (X:=X) (ρ:=ρ) (μ:=μ) (w:=w)
    obtain⟨q1,iv,q2,q3⟩:=G.obj i _ U
    refine⟨⟨q1,iv,j.trans q2,hL.rel q3⟩,(G.ko i _ U).1,λ_ h=>by simp[He]at h⟩
   ·have m:ob i=some o:=by simpa [B5,B]using b
    exact⟨F.later.Akc (K:=K) (G.ko i o m).1 (G.ko i o m).2 (λ_ _ _ _=>rfl) (G.obj i o m),G.ko i o m⟩
  rcases L with L | L
  ·obtain⟨G2,F2⟩:=G1.freeze L
   have:B5 (B5 (cur S' r) k (some (.frz e t c'))) k (some (.frz e t c))=B5 (cur S' r) k (some (.frz e t c)):=by
    funext i;unfold B5;split<;>rfl
   obtain⟨G3,F3⟩:=swap G2 (by simp[B5])
   rw[this]at G3 F3
   exact⟨G3,F1.trans (F2.trans F3)⟩
  ·obtain⟨G3,F3⟩:=swap G1 L
   exact⟨G3,F1.trans F3⟩
end
end Go.CT
namespace Go.CT
open EM
def Hf.slot (d:Hf)(tm:Nat->SV)(t:Nat):SV:=if d.dst=some t then d.v else tm t
section
variable {P:Program}{N:Nat}{X:Nat->Prop}{R:Job->List IV->Option (List IV)}{ρ:List IV}{K:Nat->Prop}{S:View}{μ:Nat->Value}{a:Act}{w w':World}{es es' e1:ES}{ls:List PLt}{sx:SX}
 {tm:Nat->SV} {ob:Nat->Option Ob} {specs:List (Nat × Spec)} {ops:Array Oper} {Q:Exit->Act->World->Prop}
theorem A1k {S':View}{n m m0 i:Nat}{o:Oper}{d:Hf}{W0:Nat->Prop}{w0:World}{H:Nat->Prop}{hd:Nat->Value}{next:Act->World->Prop}(hS:Sound P specs R)(c:A0f P specs N ops m0 S n m o=some d)(F:FS P N X ρ K S'.tm S'.ob μ a w W0 w0 H hd)
  (u: ∀t∈d.slots,S'.tm t=S.tm t) (B: ∀k∈d.keys,S'.ob k=S.ob k) (C: ∀k∈d.obs.map (·.1),S'.ob k=S.ob k) (G: ∀k,m<=k->k<d.m-> ¬ K k) (I: ∀k,k<m0->K k) (hl:LH R ρ d.lets)
  (hi:ops[i]?=some o) (Z: ∀a' w' μ',FS P N X ρ (Ax K m d.m) (d.slot S'.tm) (cur S' d.obs) μ' a' w' W0 w0 H hd->next a' w'):wpOp P ops Q i next a w:=by
 unfold A0f at c
 cases J:Adk P S ops o with
 | none=>simp[J]at c
 | some gg=>
  obtain⟨gs,gk⟩:=gg
  simp only[J]at c
  cases L:(xOp P specs o {n,m,gs,obs:= []}).run S with
  | none=>simp[L]at c
  | some q=>
   obtain⟨⟨x,es⟩,lets,slots,keys⟩:=q
   simp only[L]at c
   ·rw[aU]at c
    obtain⟨hc,c⟩:=c
    injection c with c
    subst c
    rw[aA,aA,aX,aA]at hc
    obtain⟨⟨e,y⟩,aa⟩:=hc
    have g: ∀t,o.dst=some t->t<N:=by
     intro t z;rw[z]at y;simpa using y
    have r:=Ar0 J (λt z=>u t (aE _ z)) F.C8
    have M:=RM.Tf L (λt z=>u t (aB _ z)) B
    have T:Ev S' (xOp P specs o) {n,m,gs,obs:= []} x es lets:=⟨slots,keys,M⟩
    have G0:Good P N X ρ K S'.tm (cur S' ([]:List (Nat × Option Ob))) μ a w:=by rw[Nn];exact F.C8
    unfold wpOp
    rw[hi]
    simp only
    by_cases A:Region.wanted o (yielded ops a.tmps)=true
    ·rw[if_pos A]
     rw[A]at r
     refine .inl (A6k hS G0 T hl r G λv w' μ' O=>?_)
     have F0:FS P N X ρ K S'.tm (cur S' ({n,m,gs,obs:= []} :ES).obs) μ a w W0 w0 H hd:=by
      show FS P N X ρ K S'.tm (cur S' []) μ a w W0 w0 H hd
      rw[Nn];exact F
     obtain⟨f1,f2⟩:=F0.out O
     exact Z _ _ μ' ⟨O.C8.Awc g ⟨true,r,λ_=>O.rel,λh=>by cases h⟩ O.keys,f1,f2,λk j=>⟨.inl (F.hdr k j).1,(O.keep k (F.hdr k j).1).trans (F.hdr k j).2⟩⟩
    ·rw[if_neg A]
     have U:Region.wanted o (yielded ops a.tmps)=false:=by simpa using A
     rw[U]at r
     have Y:gs.isEmpty=false:=by
      cases gs with
      | nil=>simp[holds]at r
      | cons=>rfl
     rw[Y]at e
     have e:=e.resolve_left (by simp)
     obtain⟨G1,F1⟩:=Sv e.1 C F.C8
     refine Z _ _ μ ⟨(G1.Awc (sv:=⟨gs,x⟩) g ⟨false,r,(λh=>by cases h),λ_=>rfl⟩ λk j=>I k (P5 e.2 k j)).Pl λ_ h=> .inl h,F.step,λb hb=>F.own b (F1.wr hb),λk j=>⟨.inl (F.hdr k j).1,(F.hdr k j).2⟩⟩
theorem A4q {n m m0:Nat}{o:Oper}{d:Hf}(hd:A0f P specs N ops m0 S n m o=some d):m<=d.m:=by
 unfold A0f at hd
 split at hd
 ·cases hd
 ·split at hd
  ·cases hd
  ·rw[aU]at hd
   obtain⟨a,hd⟩:=hd
   injection hd with hd
   subst hd
   rw[aA]at a
   simpa using a.2
end
section
variable {β:Type}
def over (D:Nat->Bool):List (Nat->Option β)->Nat->(Nat->β)->Nat->β
 | [],_,f=>f
 | g::gs,j,f=>over D gs (j+1) (if D j then λt=>(g t).getD (f t) else f)
theorem Jf {D D':Nat->Bool}{t:Nat} : ∀ {gs:List (Nat->Option β)} {j:Nat} {f c:Nat->β},(∀i g,gs[i]?=some g->(g t).isSome ->D (j+i)=D' (j+i))->f t=c t->over D gs j f t=over D' gs j c t
 | [],_,_,_,_,h=>h
 | g::gs,j,f,c,h,d=>by
  unfold over
  refine Jf (λi e a m=>?_) ?_
  ·have:=h (i+1) e (by simpa using a) m
   rwa [<-bO,bF]at this
  ·have b:=h 0 g (by simp)
   rw[cQ]at b
   cases a:g t with
   | none=>cases D j<;>cases D' j<;>simp[a,d]
   | some y=>
    have b:=b (by simp[a])
    rw[b]
    cases D' j<;>simp[a,d]
theorem Xs {D:Nat->Bool}{t:Nat} : ∀ {gs:List (Nat->Option β)} {j:Nat} {f:Nat->β},(∀i g,gs[i]?=some g->D (j+i)=true->g t=none)->over D gs j f t=f t
 | [],_,_,_=>rfl
 | g::gs,j,f,h=>by
  unfold over
  rw[Xs λi a b d=>h (i+1) a (by simpa using b) (by rwa [<-bO,bF])]
  cases c:D j with
  | false=>rfl
  | true=>
   have:=h 0 g (by simp) (by simpa using c)
   simp[this]
theorem Afd {D:Nat->Bool}{t:Nat} : ∀ {gs:List (Nat->Option β)} {i j:Nat} {f:Nat->β} {g:Nat->Option β},gs[i]?=some g->D (j+i)=false->(∀a b,i<a->gs[a]?=some b->D (j+a)=true->(g t).isSome ->b t=none)->
  over (λn=>n == j+i||D n) gs j f t=(g t).getD (over D gs j f t)
 | [],i,_,_,_,h,_,_=>by simp at h
 | d::gs,0,j,f,g,h,e,m=>by
  simp at h;subst h
  unfold over
  simp only[cQ,beq_self_eq_true,Bool.true_or,Zt]at e ⊢
  rw[e]
  simp only[aG,Zf]
  have e1:over (λn=>n == j||D n) gs (j+1) (λt=>(d t).getD (f t)) t=over D gs (j+1) (λt=>(d t).getD (f t)) t:=
   Jf (λa b c r=>by
    have:(j+1+a == j)=false:=by simp;omega
    simp[this]) rfl
  rw[e1]
  cases c:d t with
  | none=>
   simp only[cU]
   exact Jf (λ_ _ _ _=>rfl) (by simp[c])
  | some y=>
   rw[Xs λa b o q=>m (a+1) b (by omega) (by simpa using o) (by rwa [<-bO,bF]) (by simp[c])]
   simp[c]
 | d::gs,i+1,j,f,g,h,e,m=>by
  unfold over
  have w:(j == j+(i+1))=false:=by simp
  simp only[w,Bool.false_or]
  have u:=Afd (D:=D) (t:=t) (gs:=gs) (i:=i) (j:=j+1) (f:=if D j then λt=>(d t).getD (f t) else f) (by simpa using h) (by rwa [bF,bO])
   (λa b x c q r=>m (a+1) b (by omega) (by simpa using c) (by rwa [<-bO,bF]) r)
  rw[show j+1+i=j+(i+1) by omega]at u
  exact u
end
end Go.CT
namespace Go.CT
open EM
theorem Ait (t a:Nat)(v:SV)(l:List (Nat × SV)):I8 t (Aso a v l)=if a=t then v else I8 t l:=by
 induction l with
 | nil=>simp[Aso,I8]
 | cons p l c=>
  obtain⟨t2,v2⟩:=p
  unfold Aso
  by_cases h:t2=a
  ·subst h
   simp only[beq_self_eq_true,Zt,I8]
   by_cases b:t2=t<;>simp[b]
  ·have:(t2 == a)=false:=by simpa using h
   simp only[this,aG,Zf,I8,c]
   by_cases b:t2=t
   ·subst b
    have d: ¬ a=t2:=λe=>h e.symm
    simp[d]
   ·simp[b]
theorem Yp (k a:Nat)(l:List (Nat × Ob)):Q7 k (Alf a l)=if a=k then none else Q7 k l:=by
 induction l with
 | nil=>simp[Alf,Q7]
 | cons p l c=>
  obtain⟨k2,v2⟩:=p
  unfold Alf
  by_cases h:k2=a
  ·subst h
   simp only[beq_self_eq_true,Zt,c,Q7]
   by_cases b:k2=k<;>simp[b]
  ·have:(k2 == a)=false:=by simpa using h
   simp only[this,aG,Zf,Q7,c]
   by_cases b:k2=k
   ·subst b
    have d: ¬ a=k2:=λe=>h e.symm
    simp[d]
   ·simp[b]
theorem Aki (k a:Nat)(o:Option Ob)(l:List (Nat × Ob)):Q7 k (Ayl a o l)=if a=k then o else Q7 k l:=by
 cases o with
 | none=>simp[Ayl,Yp]
 | some o=>
  simp only[Ayl,Q7,Yp]
  by_cases h:a=k<;>simp[h]
theorem Pq (k:Nat): ∀ (r:List (Nat × Option Ob)) (l:List (Nat × Ob)),Q7 k (X9 r l)=(Io k r).getD (Q7 k l)
 | [],l=>rfl
 | (a,o)::r,l=>by
  simp only[X9,Aki,Io,Pq k r l]
  by_cases h:a=k<;>simp[h]
def Hf.Afi (d:Hf)(t:Nat):Option SV:=if d.dst=some t then some d.v else none
def Hf.Ah0 (d:Hf)(k:Nat):Option (Option Ob):=Io k d.obs
theorem Ayc (s:St)(d:Hf)(t:Nat):(s.after d).view.tm t=(d.Afi t).getD (s.view.tm t):=by
 simp only[St.view,dG,Hf.Afi]
 cases h:d.dst with
 | none=>simp
 | some a=>
  simp only[Ait,aC]
  by_cases h:a=t<;>simp[h]
theorem Ayx (s:St)(d:Hf)(k:Nat):(s.after d).view.ob k=(d.Ah0 k).getD (s.view.ob k):=by
 simp only[St.view,dG,Hf.Ah0,Pq]
def Ux (s:St)(ds:List Hf)(i:Nat):St:=(ds.take i).foldl dG s
theorem Su {s:St}{ds:List Hf}{i:Nat}{d:Hf}(h:ds[i]?=some d):Ux s ds (i+1)=(Ux s ds i).after d:=by
 unfold Ux
 rw[cT,h]
 simp[List.foldl_append]
section
variable {P:Program}{N m0:Nat}{specs:List (Nat × Spec)}{ops:Array Oper}
theorem Aj2: ∀ {os:List Oper} {s s':St} {ds:List Hf},Ai5 P specs N ops m0 os s=some (ds,s')->
  ds.length=os.length/\s'=Ux s ds os.length/\ ∀ (i:Nat) (o:Oper),os[i]?=some o-> ∃d,ds[i]?=some d/\A0f P specs N ops m0 (Ux s ds i).view (Ux s ds i).n (Ux s ds i).m o=some d
 | [],s,s',ds,h=>by
  simp only[Ai5,aC,aZ]at h
  obtain⟨rfl,rfl⟩:=h
  exact⟨rfl,rfl,by simp⟩
 | o::os,s,s',ds,h=>by
  unfold Ai5 at h
  cases hd:A0f P specs N ops m0 s.view s.n s.m o with
  | none=>simp[hd]at h
  | some d=>
   simp only[hd]at h
   cases a:Ai5 P specs N ops m0 os (s.after d) with
   | none=>simp[a]at h
   | some q=>
    obtain⟨ds2,j⟩:=q
    simp only[a,aC,aZ]at h
    obtain⟨rfl,rfl⟩:=h
    obtain⟨c,e,g⟩:=Aj2 a
    refine⟨by simp[c],?_,λi o' b=>?_⟩
    ·rw[e];rfl
    ·cases i with
     | zero=>simp at b;subst b;exact⟨d,rfl,hd⟩
     | succ i=>exact g i o' (by simpa using b)
theorem Aeb {β:Type}(pr:St->Nat->β)(wr:Hf->Nat->Option β)(hp: ∀s d t,pr (s.after d) t=(wr d t).getD (pr s t))(t:Nat): ∀ (ds:List Hf) (i j:Nat) (s:St) (f:Nat->β),(f t=pr s t)->
  over (λn=>decide (n<j+i)) (ds.map wr) j f t=pr (Ux s ds i) t
 | [],i,j,s,f,h=>by simp[over,Ux,h]
 | d::ds,0,j,s,f,h=>by
  have a:over (λn=>decide (n<j+0)) ((d::ds).map wr) j f t=f t:=Xs λi g c b=>by
   have:=of_decide_eq_true b
   omega
  rw[a,h];rfl
 | d::ds,i+1,j,s,f,h=>by
  simp only[cN,over]
  have e:decide (j<j+(i+1))=true:=by simp
  rw[e]
  have:=Aeb pr wr hp t ds i (j+1) (s.after d) (λt=>(wr d t).getD (f t)) (by rw[hp];simp[h])
  rw[show j+1+i=j+(i+1) by omega]at this
  simpa [Ux]using this
theorem A08 (s:St)(ds:List Hf)(i t:Nat):over (λn=>decide (n<i)) (ds.map Hf.Afi) 0 s.view.tm t=(Ux s ds i).view.tm t:=by
 have:=Aeb (λs t=>s.view.tm t) Hf.Afi Ayc t ds i 0 s s.view.tm rfl
 simpa using this
theorem Azv (s:St)(ds:List Hf)(i k:Nat):over (λn=>decide (n<i)) (ds.map Hf.Ah0) 0 s.view.ob k=(Ux s ds i).view.ob k:=by
 have:=Aeb (λs t=>s.view.ob t) Hf.Ah0 Ayx k ds i 0 s s.view.ob rfl
 simpa using this
end
section
variable {P:Program}{N:Nat}{X:Nat->Prop}{R:Job->List IV->Option (List IV)}{ρ:List IV}{K:Nat->Prop}{S:View}{μ:Nat->Value}{a:Act}{w w':World}
 {specs:List (Nat × Spec)} {ops:Array Oper} {Q:Exit->Act->World->Prop} {W0:Nat->Prop} {w0:World} {H:Nat->Prop} {hd:Nat->Value}
def KD (s:St)(ds:List Hf)(D:Nat->Bool)(k:Nat):Prop:=k<s.m\/ ∃i d,D i=true/\ds[i]?=some d/\(Ux s ds i).m <=k/\k<d.m
def FSD (P:Program)(N:Nat)(X:Nat->Prop)(ρ:List IV)(s:St)(ds:List Hf)(D:Nat->Bool)(μ:Nat->Value)(a:Act)(w:World)(W0:Nat->Prop)(w0:World)(H:Nat->Prop)(hd:Nat->Value):Prop:=
 FS P N X ρ (KD s ds D) (over D (ds.map Hf.Afi) 0 s.view.tm) (over D (ds.map Hf.Ah0) 0 s.view.ob) μ a w W0 w0 H hd
structure Wg (P:Program)(specs:List (Nat × Spec))(N:Nat)(ops:Array Oper)(s s':St)(ds:List Hf):Prop where
 len:ds.length=ops.size
 last:s'=Ux s ds ops.size
 get: ∀ (i:Nat) (o:Oper),ops[i]?=some o-> ∃d,ds[i]?=some d/\A0f P specs N ops s.m (Ux s ds i).view (Ux s ds i).n (Ux s ds i).m o=some d
theorem Wg.of {s s':St}{ds:List Hf}(h:Ai5 P specs N ops s.m ops.toList s=some (ds,s')):Wg P specs N ops s s' ds:=by
 obtain⟨a,b,c⟩:=Aj2 h
 exact⟨by simpa using a,by simpa using b,λi o d=>c i o (by simpa using d)⟩
theorem Wg.mono {s s':St}{ds:List Hf}(p:Wg P specs N ops s s' ds): ∀ {i j:Nat},i<=j->(Ux s ds i).m <=(Ux s ds j).m :=by
 intro i j a
 induction a with
 | refl=>exact aL _
 | step a e=>
  rename_i j
  refine aQ e ?_
  cases hd:ds[j]? with
  | none=>
   have:Ux s ds (j+1)=Ux s ds j:=by
    unfold Ux;rw[cT,hd];simp
   rw[this];exact aL _
  | some d=>
   rw[Su hd]
   have b:=(aK.1 hd).1
   rw[p.len]at b
   obtain⟨h,c,g⟩:=p.get j ops[j] (aM b)
   rw[hd]at c;injection c with c;subst c
   exact A4q g
theorem Awm {x y:Hf}{t:Nat}(b:(y.Afi t).isSome =true)(a:t∈x.slots\/x.dst=some t):x.Ane y=true:=by
 unfold Hf.Afi at b
 split at b
 ·rename_i h
  simp only[Hf.Ane,h,aX]
  left
  rcases a with a | a
  ·left;simpa using a
  ·right;simpa using a
 ·cases b
theorem Ur {k:Nat} : ∀ {r:List (Nat × Option Ob)},(Io k r).isSome =true↔k∈r.map (·.1)
 | []=>by simp[Io]
 | (a,o)::r=>by
  unfold Io
  by_cases h:a=k
  ·subst h;simp
  ·have:(a == k)=false:=by simpa using h
   simp only[this,aG,Zf,cN,bW]
   rw[Ur]
   constructor
   ·exact .inr
   ·rintro (h' | h')
    ·exact absurd h'.symm h
    ·exact h'
theorem At0 {x y:Hf}{k:Nat}(b:(y.Ah0 k).isSome =true)(a:k∈x.keys\/k∈x.obs.map (·.1)):x.Ane y=true:=by
 unfold Hf.Ah0 at b
 rw[Ur,dD]at b
 obtain⟨p,hp,rfl⟩:=b
 simp only[Hf.Ane,aX,List.any_eq_true]
 right
 refine⟨p,hp,?_⟩
 rcases a with a | a
 ·left;simpa using a
 ·right
  rw[dD]at a
  obtain⟨q,d,c⟩:=a
  exact⟨q,d,beq_iff_eq.2 c⟩
theorem Ao5 {s s':St}{ds:List Hf}{D:Nat->Bool}{i:Nat}{o:Oper}{d:Hf}{next:Act->World->Prop}(hS:Sound P specs R)(p:Wg P specs N ops s s' ds)(F:FSD P N X ρ s ds D μ a w W0 w0 H hd)(Y:ops[i]?=some o)(h:ds[i]?=some d)
  (r:D i=false) (hA: ∀j e,ds[j]?=some e->j≠i->d.Ane e=true->D j=decide (j<i)) (hl:LH R ρ d.lets)
  (hn: ∀J w' μ',FSD P N X ρ s ds (λn=>n == i||D n) μ' J w' W0 w0 H hd->next J w'):wpOp P ops Q i next a w:=by
 obtain⟨d',K,h2⟩:=p.get i o Y
 rw[h]at K;injection K with K;subst K
 have b: ∀j e,ds[j]?=some e->d.Ane e=true->D j=decide (j<i):=by
  intro j e hj hh
  by_cases x:j=i
  ·subst x;simp[r]
  ·exact hA j e hj x hh
 have B: ∀k,(k∈d.keys\/k∈d.obs.map (·.1))->over D (ds.map Hf.Ah0) 0 s.view.ob k=(Ux s ds i).view.ob k:=by
  intro k c
  rw[<-Azv s ds i k]
  refine Jf (λj g q u=>?_) rfl
  rw[aV,aN]at q
  obtain⟨e,z,rfl⟩:=q
  simp only[bB]
  exact b j e z (At0 u c)
 refine A1k (S':=⟨over D (ds.map Hf.Afi) 0 s.view.tm,over D (ds.map Hf.Ah0) 0 s.view.ob⟩) hS h2 F (λt ht=>?_) (λk c=>B k (.inl c)) (λk c=>B k (.inr c)) (λk aa ab Z=>?_) (λk c=> .inl c) hl Y (λJ w' μ' F'=>hn J w' μ' ?_)
 ·show over D (ds.map Hf.Afi) 0 s.view.tm t=_
  rw[<-A08 s ds i t]
  refine Jf (λj g q u=>?_) rfl
  rw[aV,aN]at q
  obtain⟨e,z,rfl⟩:=q
  simp only[bB]
  exact b j e z (Awm u (.inl ht))
 ·rcases Z with Z | ⟨j,e,L,M,q3,q4⟩
  ·have:s.m<=(Ux s ds i).m :=p.mono (i:=0) (bX i)
   omega
  ·have x:j≠i:=λe=>by rw[e,r]at L;cases L
   rcases dE j i with A | ac
   ·have C:=p.mono (i:=j+1) (j:=i) A
    rw[Su M]at C
    have:e.m<=(Ux s ds i).m :=C
    omega
   ·have C:=p.mono (i:=i+1) (j:=j) (by omega)
    rw[Su h]at C
    have:d.m<=(Ux s ds j).m :=C
    omega
 ·have e1:d.slot (over D (ds.map Hf.Afi) 0 s.view.tm)=over (λn=>n == i||D n) (ds.map Hf.Afi) 0 s.view.tm:=by
   funext t
   have:=Afd (D:=D) (t:=t) (gs:=ds.map Hf.Afi) (i:=i) (j:=0) (f:=s.view.tm) (g:=d.Afi) (by rw[aV,h];rfl) (by simpa using r) (λS g' A q G u=>by
    rw[aV,aN]at q
    obtain⟨e,z,rfl⟩:=q
    rw[bB]at G
    cases T:e.Afi t with
    | none=>rfl
    | some y=>
     have U:d.dst=some t:=by
      unfold Hf.Afi at u;split at u
      ·assumption
      ·cases u
     have:=b S e z (Awm (t:=t) (by simp[T]) (.inr U))
     rw[G]at this
     simp at this;omega)
   simp only[bB]at this
   rw[this]
   unfold Hf.slot Hf.Afi
   split<;>rfl
  have e2:cur ⟨over D (ds.map Hf.Afi) 0 s.view.tm,over D (ds.map Hf.Ah0) 0 s.view.ob⟩ d.obs=over (λn=>n == i||D n) (ds.map Hf.Ah0) 0 s.view.ob:=by
   funext k
   have:=Afd (D:=D) (t:=k) (gs:=ds.map Hf.Ah0) (i:=i) (j:=0) (f:=s.view.ob) (g:=d.Ah0) (by rw[aV,h];rfl) (by simpa using r) (λS g' A q G u=>by
    rw[aV,aN]at q
    obtain⟨e,z,rfl⟩:=q
    rw[bB]at G
    cases T:e.Ah0 k with
    | none=>rfl
    | some y=>
     have:=b S e z (At0 (k:=k) (by simp[T]) (.inr (Ur.1 u)))
     rw[G]at this
     simp at this;omega)
   simp only[bB]at this
   rw[this]
   unfold cur Hf.Ah0
   cases Io k d.obs<;>rfl
  rw[e2]at F'
  simp only[]at F'
  rw[e1]at F'
  have I: ∀k,Ax (KD s ds D) (Ux s ds i).m d.m k->KD s ds (λn=>n == i||D n) k:=?_
  ·exact⟨F'.C8.Pl I,F'.step,F'.own,λk c=>⟨I k (F'.hdr k c).1,(F'.hdr k c).2⟩⟩
  intro k c
  rcases c with (c | ⟨j,e,L,M,q3⟩) | c
  ·exact .inl c
  ·exact .inr ⟨j,e,by simp[L],M,q3⟩
  ·exact .inr ⟨i,d,by simp,h,c⟩
end
end Go.CT
namespace Go.CT
open EM
def Apx (ops:Array Oper)(D:Nat->Bool):Prop:= ∀ (i:Nat) (o:Oper),ops[i]?=some o->D i=true-> ∀e∈o.after,Region.binds .any e=true->D e.on=true
theorem Ao8 {acc:List Nat}{D:Nat->Bool}(a: ∀ (i m:Nat),acc[i]?=some m->D i=true-> ∀j,m.testBit j=true->D j=true): ∀ {es:List Edge},(∀e∈es,Region.binds .any e=true->D e.on=true)-> ∀j,(Av9 acc es).testBit j=true->D j=true
 | [],_,j,h=>by simp[Av9]at h
 | e::es,b,j,h=>by
  unfold Av9 at h
  rw[dA,aX]at h
  rcases h with h | h
  ·by_cases c:Region.binds .any e=true
   ·rw[if_pos c,dA,aX]at h
    have d:=b e aJ c
    rcases h with h | h
    ·rw[Nat.one_shiftLeft,Nat.testBit_two_pow]at h
     grind
    grind
   grind
  ·exact Ao8 a (λg h'=>b g (aF _ h')) j h
theorem Auf {ops:Array Oper} : ∀ {os:List Oper} {acc:List Nat},(∀i o,os[i]?=some o->ops[acc.length+i]?=some o)->
  (∀D,Apx ops D-> ∀ (i m:Nat),acc[i]?=some m-> ∀o,ops[i]?=some o->(∀e∈o.after,Region.binds .any e=true->D e.on=true)-> ∀j,m.testBit j=true->D j=true)->acc.length+os.length=ops.size->
  (Az9 os acc).length =ops.size/\ ∀D,Apx ops D-> ∀ (i m:Nat),(Az9 os acc)[i]?=some m-> ∀o,ops[i]?=some o->(∀e∈o.after,Region.binds .any e=true->D e.on=true)-> ∀j,m.testBit j=true->D j=true
 | [],acc,_,h,y=>by
  unfold Az9
  grind
 | o::os,acc,c,h,y=>by
  unfold Az9
  refine Auf (λi o' d=>?_) (λD w i m b o' d g j q=>?_) (by grind)
  ·have:=c (i+1) o' (by grind)
   grind
  ·by_cases A:i<acc.length
   ·grind
   ·rw[List.getElem?_append_right (by omega)]at b
    have r:i=acc.length:=by
     grind
    subst r
    simp at b
    subst b
    have:o'=o:=by
     have:=c 0 o rfl
     grind
    subst this
    refine Ao8 (D:=D) (λi m b t j q=>?_) (λe x u=>g e (by grind) u) j q
    have z:=(aK.1 b).1
    have a:i<ops.size:=by omega
    exact h D w i m b ops[i] (aM a) (λe g u=>w i ops[i] (aM a) t e g u) j q
theorem Zb {anc:Nat}{x:Hf} : ∀ {ys:List Hf} {j:Nat},W5 anc x ys j=true-> ∀i y,ys[i]?=some y->anc.testBit (j+i)=true\/(x.Ane y=false/\y.Ane x=false)
 | [],_,_,i,y,h=>by simp at h
 | y::ys,j,h,i,a,b=>by
  unfold W5 at h
  rw[aA]at h
  cases i with
  | zero=>
   grind
  | succ i=>
   have:=Zb h.2 i a (by grind)
   grind
theorem Xq: ∀ {as:List Nat} {ds before:List Hf},Wy before as ds=true-> ∀i d a,ds[i]?=some d->as[i]?=some a-> ∀j y,(before++ds)[j]?=some y->j<before.length+i->a.testBit j=true\/(d.Ane y=false/\y.Ane d=false)
 | a::as,d::ds,before,h,i,e,g,hd,b,j,y,c,m=>by
  unfold Wy at h
  rw[aA]at h
  cases i with
  | zero=>
   simp at hd b;subst hd;subst b
   rw[List.getElem?_append_left (by omega)]at c
   have:=Zb h.1 j y c
   grind
  | succ i=>
   refine Xq h.2 i e g (by grind) (by grind) j y (by grind) (by simp;omega)
 | [],[],_,_,i,d,a,hd,_,_,_,_,_=>by simp at hd
 | [],_::_,_,h,_,_,_,_,_,_,_,_,_=>by grind
 | _::_,[],_,h,_,_,_,_,_,_,_,_,_=>by grind
theorem Aha: ∀ {os:List Oper} {i:Nat},Api os i=true-> ∀j o,os[j]?=some o-> ∀e∈o.after,Region.binds .any e=true->e.on<i+j
 | o::os,i,h,j,o',a,e,b,c=>by
  unfold Api at h
  rw[aA]at h
  cases j with
  | zero=>
   grind
  | succ j=>
   have:=Aha h.2 j o' (by grind) e b c
   omega
 | [],_,_,j,o,a,_,_,_=>by simp at a
section
variable {P:Program}{N:Nat}{X:Nat->Prop}{R:Job->List IV->Option (List IV)}{ρ:List IV}{K:Nat->Prop}{S:View}{μ:Nat->Value}{a:Act}{w w':World}
 {specs:List (Nat × Spec)} {ops:Array Oper} {Q:Exit->Act->World->Prop} {W0:Nat->Prop} {w0:World} {H:Nat->Prop} {hd:Nat->Value} {s s':St} {ds:List Hf}
theorem Asn (p:Wg P specs N ops s s' ds){D:Nat->Bool}{k:Nat}(h:KD s ds D k):k<s'.m:=by
 rw[p.last]
 rcases h with h | ⟨i,d,_,a,_,c⟩
 ·exact bE h (p.mono (i:=0) (bX _))
 ·have b:=(aK.1 a).1
  rw[p.len]at b
  have:=p.mono (i:=i+1) (j:=ops.size) b
  rw[Su a]at this
  exact bE c this
theorem FSD.last (p:Wg P specs N ops s s' ds){D:Nat->Bool}(o: ∀i,i<ops.size->D i=true)(F:FSD P N X ρ s ds D μ a w W0 w0 H hd):FS P N X ρ (· <s'.m) s'.view.tm s'.view.ob μ a w W0 w0 H hd:=by
 have e1:over D (ds.map Hf.Afi) 0 s.view.tm=s'.view.tm:=by
  funext t
  rw[p.last,<-A08 s ds ops.size t]
  refine Jf (λj g c e=>?_) rfl
  have d:=(aK.1 c).1
  rw[cW,p.len]at d
  grind
 have h:over D (ds.map Hf.Ah0) 0 s.view.ob=s'.view.ob:=by
  funext t
  rw[p.last,<-Azv s ds ops.size t]
  refine Jf (λj g c e=>?_) rfl
  have d:=(aK.1 c).1
  rw[cW,p.len]at d
  grind
 unfold FSD at F
 rw[e1,h]at F
 exact⟨F.C8.Pl λk b=>Asn p b,F.step,F.own,λk b=>⟨Asn p (F.hdr k b).1,(F.hdr k b).2⟩⟩
theorem FSD.first (F:FS P N X ρ (· <s.m) s.view.tm s.view.ob μ a w W0 w0 H hd){D:Nat->Bool}(d: ∀i,D i=false):FSD P N X ρ s ds D μ a w W0 w0 H hd:=by
 have e1:over D (ds.map Hf.Afi) 0 s.view.tm=s.view.tm:=by
  funext t;exact Xs λi g _ h=>by grind
 have c:over D (ds.map Hf.Ah0) 0 s.view.ob=s.view.ob:=by
  funext t;exact Xs λi g _ h=>by grind
 unfold FSD
 rw[e1,c]
 exact⟨F.C8.Pl λk b=> .inl b,F.step,F.own,λk b=>⟨.inl (F.hdr k b).1,(F.hdr k b).2⟩⟩
theorem Wg.done (p:Wg P specs N ops s s' ds){i:Nat}{o:Oper}(a:ops[i]?=some o): ∃d,ds[i]?=some d:=by
 obtain⟨d,h,_⟩:=p.get i o a
 grind
theorem A0g (h:Sound P specs R)(p:Wg P specs N ops s s' ds)(o:LH R ρ (ds.flatMap (·.lets)))(q: ∀c w' μ',FS P N X ρ (· <s'.m) s'.view.tm s'.view.ob μ' c w' W0 w0 H hd->Q .normal c w'):
  ∀ (k i:Nat) (a:Act) (w:World) (μ:Nat->Value),i+k=ops.size->FSD P N X ρ s ds (λn=>decide (n<i)) μ a w W0 w0 H hd->wpOps P ops Q (List.range' i k) a w
 | 0,i,a,w,μ,t,F=>by
  simp only[List.range'_zero,wpOps]
  exact q a w μ (F.last p λj x=>by simp;omega)
 | k+1,i,a,w,μ,t,F=>by
  rw[List.range'_succ,wpOps_cons]
  have u:i<ops.size:=by omega
  have r:=aM u
  obtain⟨d,b⟩:=p.done r
  refine Ao5 h p F r b (by simp) (λj e _ _ _=>rfl) (λl g=>o l (bK.2 ⟨d,bI b,g⟩)) λc w' μ' F'=>?_
  refine A0g h p o q k (i+1) c w' μ' (by omega) ?_
  grind
def un (listed:Array Bool):Nat:=listed.toList.countP (λb=> !b)
theorem A6r (hS:Sound P specs R)(p:Wg P specs N ops s s' ds)(A:Am8 ops.toList ds=true)(hl:LH R ρ (ds.flatMap (·.lets)))(hn: ∀G w' μ',FS P N X ρ (· <s'.m) s'.view.tm s'.view.ob μ' G w' W0 w0 H hd->Q .normal G w'):
  ∀ (fuel:Nat) (listed:Array Bool) (a:Act) (w:World) (μ:Nat->Value),listed.size=ops.size->un listed=fuel->Apx ops (λn=>listed.getD n false)->FSD P N X ρ s ds (λn=>listed.getD n false) μ a w W0 w0 H hd->wpAny P .any ops Q fuel listed a w:=by
 simp only[Am8,aA]at A
 obtain⟨hb,hg⟩:=A
 have L: ∀ (i:Nat) (o:Oper),ops[i]?=some o-> ∀e∈o.after,Region.binds .any e=true->e.on<i:=by
  intro i o I e r b
  have:=Aha hb i o (by grind) e r b
  omega
 obtain⟨aa,M⟩:=Auf (ops:=ops) (os:=ops.toList) (acc:= []) (λi o h=>by grind) (λD J i m K=>by simp at K) (by simp)
 -- a touch tells the order
 have pair: ∀ (i j:Nat) (d e:Hf),ds[i]?=some d->ds[j]?=some e->j<i->(d.Ane e=true\/e.Ane d=true)-> ∀D,Apx ops D->(∀o,ops[i]?=some o-> ∀e∈o.after,Region.binds .any e=true->D e.on=true)->D j=true:=by
  intro i j d e hd r S hh D J g
  have t:=(aK.1 hd).1
  rw[p.len]at t
  have K:(Az9 ops.toList [])[i]?=some (Az9 ops.toList [])[i]:=bN (by omega)
  have:=Xq hg i d _ hd K j e (by grind) (by omega)
  rcases this with h | h
  ·exact M D J i _ K ops[i] (aM t) (g _ (aM t)) j h
  grind
 have B: ∀ (listed:Array Bool),Region.ready .any ops listed= []->listed.size=ops.size-> ∀i,i<ops.size->listed.getD i false=true:=by
  intro listed hr u i
  induction i using Nat.strongRecOn with
  | _ i ih=>
   intro g
   cases hv:listed.getD i false with
   | true=>rfl
   | false=>
    have:i∈Region.ready .any ops listed:=by
     rw[mem_ready]
     refine⟨?_,ops[i],aM g,λe r b=>?_⟩
     ·grind
     grind
    grind
 intro fuel
 induction fuel with
 | zero=>
  intro listed a w μ u c q F
  have J: ∀i,i<ops.size->listed.getD i false=true:=by
   intro i g
   unfold un at c
   rw[List.countP_eq_zero]at c
   have T:i<listed.size:=by omega
   have:=c listed[i] (by simp)
   simp_all
  refine⟨?_,hn a w μ (F.last p J)⟩
  rw[bV]
  intro i g
  rw[mem_ready]at g
  grind
 | succ fuel ih=>
  intro listed a w μ u c q F
  refine⟨λhr=>hn a w μ (F.last p (B listed hr u)),λi g=>?_⟩
  rw[mem_ready]at g
  obtain⟨h1,o,I,h2⟩:=g
  have ac:=(bZ.1 I).1
  have T:i<listed.size:=by omega
  have U:listed.getD i false=false:=by grind
  obtain⟨d,x⟩:=p.done I
  have C:(λn=>(listed.setIfInBounds i true).getD n false)=λn=>n == i||listed.getD n false:=by
   funext n
   by_cases ad:i=n
   ·simp_all
   ·have:(n == i)=false:=by grind
    simp_all
  refine Ao5 hS p F I x U (λj e z S hh=>?_) (λl Y=>hl l (bK.2 ⟨d,bI x,Y⟩)) λG w' μ' F'=>?_
  ·rcases dE j i with ab | ae
   ·grind
   ·have Z:i<j:=by omega
    have af:listed.getD j false=false:=by
     cases hv:listed.getD j false with
     | false=>rfl
     | true=>
      have:=pair j i e d z x Z (.inr hh) _ q (λo' y e r b=>q j o' y hv e r b)
      grind
    grind
  ·refine ih (listed.setIfInBounds i true) G w' μ' (by grind) ?_ ?_ (by grind)
   ·unfold un at c ⊢
    rw[Array.toList_setIfInBounds,List.countP_set (by omega),c]
    simp_all
   ·rw[C]
    intro j o' y z e r b
    simp only[aX,beq_iff_eq]at z ⊢
    right
    rcases z with rfl | z
    ·grind
    ·exact q j o' y z e r b
theorem Good.drawn {tm:Nat->SV}{ob:Nat->Option Ob}(G:Good P N X ρ K tm ob μ a w)(c:w'.heap=w.heap):Good P N X ρ K tm ob μ a w':=by
 have L:Ek K (Bs P X ρ ob μ w) (Bs P X ρ ob μ w'):=
  {P:=rfl,ρ:=λ_ _ h=>h,μ:=λ_ _=>rfl,stays:=λb _ _=>by show w'.heap[b]?=w.heap[b]?;rw[c],O:=λ_ _ h=>h,W:=λ_ _ h=>h,WO:=λb d=> .inr d}
 exact⟨G.size,G.defers,λs=>L.Awj (G.kt s) (G.slot s),λk o e=>L.Akc (G.ko k o e).1 (G.ko k o e).2 (λ_ b _ _=>by show w'.heap[b]?=w.heap[b]?;rw[c]) (G.obj k o e),G.sep,G.xsep,λb d=>by rw[c];exact G.xlt b d,G.kt,G.ko⟩
theorem Axk {draw:Bool}{ls:List PLt}{id:Nat}(u:P.follows .mixedOrders =true)(e:Sound P specs R)(b:Ww P specs N ops draw s=some (ls,s'))(g:LH R ρ ls)(F:FS P N X ρ (· <s.m) s.view.tm s.view.ob μ a w W0 w0 H hd)
  (j: ∀r w' μ',FS P N X ρ (· <s'.m) s'.view.tm s'.view.ob μ' r w' W0 w0 H hd->Q .normal r w'):(Code.region id ops draw).wp P Q a w:=by
 unfold Ww at b
 cases t:Ai5 P specs N ops s.m ops.toList s with
 | none=>grind
 | some q=>
  obtain⟨ds,x⟩:=q
  simp only[t]at b
  rw[aU]at b
  obtain⟨y,b⟩:=b
  injection b with b
  simp only[aZ]at b
  obtain⟨rfl,rfl⟩:=b
  have p:=Wg.of t
  cases draw with
  | false=>
   refine wp_region ?_
   rw[List.range_eq_range']
   exact A0g e p g j ops.size 0 a w μ (by omega) (FSD.first F λi=>by simp)
  | true=>
   have d:Am8 ops.toList ds=true:=by grind
   refine wp_region_any u ?_
   have c: ∀i,(Array.replicate ops.size false).getD i false=false:=λi=>by
    by_cases h:i<ops.size
    ·simp[h]
    ·simp[h]
   have F1:FS P N X ρ (· <s.m) s.view.tm s.view.ob μ a {w with drawn:=w.drawn+1} W0 w0 H hd:=⟨F.C8.drawn rfl,⟨F.step.os,F.step.tape,F.step.output,F.step.size,F.step.stays⟩,F.own,F.hdr⟩
   exact A6r e p d g j ops.size _ a _ μ (by simp) (by unfold un;rw[Array.toList_replicate,List.countP_replicate];simp) (λi o _ h=>by grind) (FSD.first F1 c)
end
end Go.CT
namespace Go.CT
open EM
structure Bind where
 args:List (Nat × Arg)
 keys:List (Nat × Nat) -- the block's key, ours
def findKey (a:Nat):List (Nat × Nat)->Option Nat
 | []=>none
 | (j,k)::r=>if j == a then some k else findKey a r
def Ic (i:Nat):List (Nat × Arg)->Option Arg
 | []=>none
 | (j,y)::r=>if j == i then some y else Ic i r
def Gt (b:Bind)(x y:Arg):EM Bind:=
 match x with
 | .v i=>do
  aR (Ic i b.args).isNone
  pure {b with args:=(i,y)::b.args}
 | .k c=>do
  aR ((Arg.k c).same y)
  pure b
def Ml (b:Bind)(a k:Nat):EM Bind:=
 match findKey a b.keys with
 | some c=>do
  aR (c == k)
  pure b
 | none=>do
  aR (b.keys.all λp=>p.2 !=k)
  pure {b with keys:=(a,k)::b.keys}
def uPV (b:Bind)(c p:PV):EM Bind:=
 match c with
 | .p a o'=>
  match p with
  | .p k o=>do
   aR (o' == o)
   Ml b a k
  | _=>fail
 | .el a d g o'=>
  match p with
  | .el k e i o=>do
   aR (o' == o&&d == e)
   let b1 <-Ml b a k
   Gt b1 g i
  | _=>fail
 | .im h j o'=>
  match p with
  | .im x t o=>do
   aR (o' == o&&j == t)
   Gt b h x
  | _=>fail
def A2q (b:Bind):List PV->List PV->EM Bind
 | [],[]=>pure b
 | a::ps',p::c=>do
  let b1 <-uPV b a p
  A2q b1 ps' c
 | _,_=>fail
section
variable (P:Program)
def Ay9 (t:TypeId)(l:LV):EM Nat:=do
 let e <-ofOption (Dl P t)
 let c <-Up P e l
 let k <-Hn
 Gr k (some (.arr e t c))
 pure k
def uLV (b:Bind)(g l:LV):EM Bind:=
 match g with
 | .junk =>pure b
 | .at d a=>do
  let y <-D5 P true a l
  Gt b d y
 | .nil _=>
  match l with
  | .nil _=>pure b
  | _=>fail
 | .ref c a=>
  match l with
  | .ref k _=>Ml b c k
  | .at .. =>fail
  | l=>do
   let k <-Ay9 P a l
   Ml b c k
 | .sub c lo' e a=>
  match l with
  | .sub k lo h t=>do
   aR (t == a)
   let b1 <-Ml b c k
   let b2 <-Gt b1 lo' lo
   Gt b2 e h
  | _=>fail
 | .ptr i=>
  match l with
  | .ptr p=>uPV b i p
  | _=>fail
 | .fn j ps'=>
  match l with
  | .fn f m=>do
   aR (j == f)
   A2q b ps' m
  | _=>fail
 | .mref c _=>
  match l with
  | .mref k _=>Ml b c k
  | _=>fail
 | .st d a=>
  match l with
  | .st x t=>do
   aR (t == a)
   Gt b d x
  | _=>fail
 | .cl d a=>
  match l with
  | .cl x t=>do
   aR (t == a)
   Gt b d x
  | _=>fail
 | .hid c=>
  match l with
  | .hid k=>Ml b c k
  | _=>fail
def A2s (b:Bind):List LV->List LV->EM Bind
 | [],[]=>pure b
 | a::ls',l::ls=>do
  let b1 <-uLV P b a l
  A2s b1 ls' ls
 | _,_=>fail
def Aug (a:TypeId):VV->Bool
 | .agg t _=>t == a
 | .leaf (.at _ t)=>t == a
 | _=>false
def uVV (b:Bind)(e v:VV):EM Bind:=
 match e with
 | .agg a c=>do
  aR (Ak P a&&Aug a v)
  let cs <-Pg P v
  A2s P b c cs
 | .leaf d=>
  match d with
  | .junk =>pure b
  | .at g a=>do
   let y <-J4 P true a v
   Gt b g y
  | d=>
   match v with
   | .leaf l=>uLV P b d l
   | _=>fail
def A1d (b:Bind):List VV->List VV->EM Bind
 | [],[]=>pure b
 | a::ls',l::ls=>do
  let b1 <-uVV P b a l
  A1d b1 ls' ls
 | _,_=>fail
def Az4:SX->Bool
 | .one (.leaf .junk)=>true
 | _=>false
def uSX (b:Bind)(c x:SX):EM Bind:=
 match c with
 | .one d=>
  match x with
  | .one v=>uVV P b d v
  | _=>fail
 | .tup a=>
  match x with
  | .tup vs=>A1d P b a vs
  | _=>fail
 | .nx ok' e g=>
  match x with
  | .nx ok p r=>do
   let b1 <-Gt b ok' ok
   let b2 <-Gt b1 e p
   Gt b2 g r
  | _=>fail
def uSV (b:Bind)(s':SV)(t:Nat):EM Bind:=
 if s'.gs.isEmpty&&Az4 s'.x then pure b
 else do
  let s <-Aja t
  aR (s.gs.isEmpty&&s'.gs.isEmpty)
  uSX P b s'.x s.x
def Aig (b:Bind):List (Nat × SV)->EM Bind
 | []=>pure b
 | (t,a)::r=>do
  let b1 <-uSV P b a t
  Aig b1 r
def Aeh (b:Bind)(o':Ob)(k:Nat):EM Bind:=
 match o' with
 | .box a c=>do
  match <-Hr k with
  | .box t v=>do
   aR (a == t)
   uVV P b c v
  | _=>fail
 | .frz d a c'=>do
  aR (Dl P a == some d)
  let y <-D5 P true a (.ref k a)
  Gt b c' y
 | .arr .. =>pure b
 | .iter .. =>pure b
 | .mp .. =>pure b
def Yy (b:Bind):List (Nat × Ob)->EM Bind
 | []=>pure b
 | (a,o')::r=>do
  let k <-ofOption (findKey a b.keys)
  let b1 <-Aeh P b o' k
  Yy b1 r
def Afg (b:Bind)(o':Ob)(k:Nat):EM Bind:=
 match o' with
 | .box _ _=>do
  match <-Hr k with
  | .box .. =>pure b
  | _=>fail
 | .arr d a c'=>do
  match <-Hr k with
  | .arr e _ c=>do
   aR (d == e&&Dl P a == some e)
   Gt b c' c
  | _=>fail
 | .frz .. =>pure b
 | .iter s' g=>do
  match <-Hr k with
  | .iter s p=>do
   let b1 <-Gt b s' s
   Gt b1 g p
  | _=>fail
 | .mp a kt' vt' c'=>do
  match <-Hr k with
  | .mp t kt vt c=>do
   aR (a == t&&kt' == kt&&vt' == vt)
   Gt b c' c
  | _=>fail
def Xt (b:Bind):List (Nat × Ob)->EM Bind
 | []=>pure b
 | (a,o')::r=>do
  let k <-ofOption (findKey a b.keys)
  let b1 <-Afg P b o' k
  Xt b1 r
def A3n (m:Nat):Ob->Bool
 | .box _ v=>Le m v
 | _=>true
def stOk (t:St):Bool:=
 (t.tm.all λp=>Tv t.m p.2.x&&p.2.gs.isEmpty)&&(t.ob.all λp=>decide (p.1<t.m)&&A3n t.m p.2)
def Acp (b:Bind):Nat->Option (List Arg)
 | 0=>some []
 | n+1=>
  match Acp b n with
  | none=>none
  | some as=>
   match Ic n b.args with
   | none=>none
   | some y=>some (as++ [y])
def uSt (backs:List Nat)(t:St):EM (List Arg):=do
 aR (stOk t)
 let b1 <-Aig P ⟨[],[]⟩ t.tm
 let b2 <-Yy P b1 t.ob
 let b3 <-Xt P b2 t.ob
 aR (b3.args.all λp=>decide (p.1<t.n))
 aR (backs.all λk=>findKey k b3.keys == some k&&decide (k<t.m))
 ofOption (Acp b3 t.n)
end
end Go.CT
namespace Go.CT
open EM
structure Compat (B:Bind)(c cb:Cx):Prop where
 P:cb.P=c.P
 w:cb.w=c.w
 args: ∀ (i:Nat) (y:Arg) (iv:IV),Ic i B.args=some y->y.ev c.ρ=some iv->cb.ρ[i]?=some iv
 keys: ∀k' k,findKey k' B.keys=some k->cb.μ k'=c.μ k
 O: ∀b,b<c.w.heap.size->cb.O b->c.O b
 W: ∀b,b<c.w.heap.size->cb.W b->c.W b
structure BOk (B:Bind)(K:Nat->Prop):Prop where
 keys: ∀k' k,findKey k' B.keys=some k->K k
 inj: ∀k1 k2 k,findKey k1 B.keys=some k->findKey k2 B.keys=some k->k1=k2
structure Ext (B B':Bind):Prop where
 args: ∀i y,Ic i B.args=some y->Ic i B'.args=some y
 keys: ∀k' k,findKey k' B.keys=some k->findKey k' B'.keys=some k
theorem Ext.refl (B:Bind):Ext B B:=⟨λ_ _ h=>h,λ_ _ h=>h⟩
theorem Ext.trans {A B C:Bind}(h:Ext A B)(h':Ext B C):Ext A C:=⟨λi y q=>h'.args i y (h.args i y q),λi y q=>h'.keys i y (h.keys i y q)⟩
theorem BOk.mono {B:Bind}{K K':Nat->Prop}(h:BOk B K)(a: ∀k,K k->K' k):BOk B K':=⟨λb k q=>a k (h.keys b k q),h.inj⟩
theorem Compat.prev {B B':Bind}{K:Nat->Prop}{c c' cb:Cx}(h:Compat B' c' cb)(e:Ext B B')(L:Ek K c c')(m:c'.w=c.w)(o:BOk B K):Compat B c cb:=
 ⟨h.P.trans L.P,h.w.trans m,λi y iv a q=>h.args i y iv (e.args i y a) (Arg.Gm L.ρ q),λd k a=>(h.keys d k (e.keys d k a)).trans (L.μ k (o.keys d k a)),
  λb g j=>L.O b g (h.O b (by grind) j),λb g j=>L.W b g (h.W b (by grind) j)⟩
section
variable {P:Program}{N:Nat}{X:Nat->Prop}{R:Job->List IV->Option (List IV)}{ρ:List IV}{K:Nat->Prop}{S:View}{μ:Nat->Value}{a:Act}{w w':World}{es es' e1:ES}{ls:List PLt}{sx:SX}
 {B B':Bind} {c cb:Cx}
theorem Ee {x y:Arg}(h:Ev S (Gt B x y) es B' es' ls):es=es'/\ls= []/\Ext B B'/\B'.keys=B.keys/\ ∀ {c cb:Cx} {iv:IV},Compat B' c cb->y.ev c.ρ=some iv->x.ev cb.ρ=some iv:=by
 unfold Gt at h
 cases x with
 | v i=>
  simp only[Ab,Af,Ad]at h
  obtain⟨_,_,_,_,⟨a,rfl,rfl⟩,⟨rfl,rfl,rfl⟩,rfl⟩:=h
  have a:Ic i B.args=none:=by simpa using a
  refine⟨rfl,rfl,⟨λj z e=>?_,λ_ _ h=>h⟩,rfl,λd b=>d.args i y _ (by simp[Ic]) b⟩
  simp only[Ic]
  grind
 | k q=>
  simp only[Ab,Af,Ad]at h
  obtain⟨_,_,_,_,⟨a,rfl,rfl⟩,⟨rfl,rfl,rfl⟩,rfl⟩:=h
  refine⟨rfl,rfl,.refl _,rfl,fun {c cb iv} d b=>?_⟩
  have:=dH (ρ:=c.ρ) a
  rw[<-this]at b
  exact b
theorem Jh {a k:Nat}(h:Ev S (Ml B a k) es B' es' ls):es=es'/\ls= []/\Ext B B'/\findKey a B'.keys=some k/\ ∀ {K:Nat->Prop},BOk B K->K k->BOk B' K:=by
 unfold Ml at h
 split at h
 ·rename_i y b
  simp only[Ab,Af,Ad]at h
  obtain⟨_,_,_,_,⟨z,rfl,rfl⟩,⟨rfl,rfl,rfl⟩,rfl⟩:=h
  have:y=k:=by grind
  subst this
  exact⟨rfl,rfl,.refl _,b,λh _=>h⟩
 ·rename_i b
  simp only[Ab,Af,Ad]at h
  obtain⟨_,_,_,_,⟨z,rfl,rfl⟩,⟨rfl,rfl,rfl⟩,rfl⟩:=h
  have m: ∀j,findKey j B.keys≠some k:=by
   intro j o
   have: ∀ {l:List (Nat × Nat)},(l.all λp=>p.2 !=k)=true->findKey j l≠some k:=by
    intro l A
    induction l with
    | nil=>simp[findKey]
    | cons p l C=>
     obtain⟨q,r⟩:=p
     simp only[aP,aA]at A
     unfold findKey
     grind
   grind
  have t: ∀j,findKey j ((a,k)::B.keys)=if a=j then some k else findKey j B.keys:=by
   intro j;simp[findKey]
  refine⟨rfl,rfl,⟨λ_ _ h=>h,λj q c=>?_⟩,by grind,fun {K} u F=>⟨λj q c=>?_,λw x q d e=>?_⟩⟩
  ·grind
  ·simp only[t]at c
   by_cases o:a=j
   ·grind
   ·simp[o]at c;exact u.keys j q c
  ·simp only[t]at d e
   by_cases g:a=w
   ·grind
   ·by_cases i:a=x
    ·grind
    ·simp[g]at d;simp[i]at e
     exact u.inj w x q d e
theorem Compat.rel (h:Compat B c cb){t:TypeId}{x:IV}{v:Value}(a:Rel c.P c.w c.O t x v):Rel cb.P cb.w cb.O t x v:=by
 rw[h.P,h.w]
 exact a.weaken h.O
theorem A0o {z p:PV}{v:Value}(h:Ev S (uPV B z p) es B' es' ls)(q:BOk B K)(Q: ∀k∈Eg p,K k)(A:Af0 c p v):es=es'/\ls= []/\Ext B B'/\BOk B' K/\ ∀cb,Compat B' c cb->Af0 cb z v:=by
 unfold uPV at h
 cases z with
 | p C o'=>
  cases p with
  | p k o=>
   simp only[Ab,Af]at h
   obtain⟨_,_,_,_,⟨d,rfl,rfl⟩,h,rfl⟩:=h
   have:o'=o:=by grind
   subst this
   obtain⟨rfl,rfl,F,R,G⟩:=Jh h
   obtain⟨b,r1,r2⟩:=A
   exact⟨rfl,rfl,F,G q (Q k (by simp[Eg])),λcb a=>⟨b,(a.keys C k R).trans r1,r2⟩⟩
  | el=>simp[Ac]at h
  | im=>simp[Ac]at h
 | el C Y Z o'=>
  cases p with
  | p=>simp[Ac]at h
  | im=>simp[Ac]at h
  | el k e i o=>
   simp only[Ab,Af]at h
   obtain⟨_,_,_,_,⟨d,rfl,rfl⟩,⟨B1,e1,l1,l2,H,I,rfl⟩,rfl⟩:=h
   simp only[aA,beq_iff_eq]at d
   obtain⟨rfl,rfl⟩:=d
   obtain⟨rfl,rfl,F,R,G⟩:=Jh H
   obtain⟨rfl,rfl,r1,r2,J⟩:=Ee I
   have m:=G q (Q k (by simp[Eg]))
   obtain⟨g,n,cap,j,L,M,r,y⟩:=A
   refine⟨rfl,rfl,F.trans r1,⟨λk1 k2 h=>m.keys k1 k2 (by grind),λk1 k2 k H I=>m.inj k1 k2 k (by grind) (by grind)⟩,
    λcb a=>⟨g,n,cap,j,(a.keys C k (by grind)).trans L,J a M,r,by rw[a.P];exact y⟩⟩
 | im x' t' o'=>
  cases p with
  | p=>simp[Ac]at h
  | el=>simp[Ac]at h
  | im x t o=>
   simp only[Ab,Af]at h
   obtain⟨_,_,_,_,⟨d,rfl,rfl⟩,h,rfl⟩:=h
   simp only[aA,beq_iff_eq]at d
   obtain⟨rfl,rfl⟩:=d
   obtain⟨rfl,rfl,r1,r2,J⟩:=Ee h
   obtain⟨ad,u,⟨iv,L,M⟩,r,y,T,U⟩:=A
   have N:=r.lt y
   exact⟨rfl,rfl,r1,⟨λk1 k2 h=>q.keys k1 k2 (by grind),λk1 k2 k H I=>q.inj k1 k2 k (by grind) (by grind)⟩,
    λcb a=>⟨ad,u,⟨iv,J a L,a.rel M⟩,by rw[a.P,a.w];exact r,by rw[a.P];exact y,λX=>T (a.W _ N X),U⟩⟩
theorem Compat.ext (h:Compat B' c cb)(e:Ext B B'):Compat B c cb:=
 ⟨h.P,h.w,λi y iv a d=>h.args i y iv (e.args i y a) d,λb k a=>h.keys b k (e.keys b k a),h.O,h.W⟩
theorem Aw6: ∀ {ps' e:List PV} {vs:List Value} {B B':Bind} {es es':ES} {ls:List PLt},Ev S (A2q B ps' e) es B' es' ls->BOk B K->(∀k∈e.flatMap Eg,K k)->Oz c e vs->es=es'/\ls= []/\Ext B B'/\BOk B' K/\ ∀cb,Compat B' c cb->Oz cb ps' vs
 | [],[],vs,B,B',es,es',ls,h,b,d,a=>by
  unfold A2q at h
  rw[Ad]at h
  obtain⟨rfl,rfl,rfl⟩:=h
  exact⟨rfl,rfl,.refl _,b,λcb g=>by cases vs with | nil=>trivial | cons=>exact a.elim⟩
 | u::ps',p::e,vs,B,B',es,es',ls,h,b,d,a=>by
  cases vs with
  | nil=>exact a.elim
  | cons v vs=>
   unfold A2q at h
   rw[Ab]at h
   obtain⟨B1,e1,w,x,i,j,rfl⟩:=h
   obtain⟨rfl,rfl,m,o,q⟩:=A0o i b (λk r=>d k (by grind)) a.1
   obtain⟨rfl,rfl,r1,r2,t⟩:=Aw6 j o (λk r=>d k (by grind)) a.2
   exact⟨rfl,rfl,m.trans r1,r2,λcb g=>⟨q cb (g.ext r1),t cb g⟩⟩
 | [],_::_,vs,B,B',es,es',ls,h,b,d,a=>by simp[A2q,Ac]at h
 | _::_,[],vs,B,B',es,es',ls,h,b,d,a=>by simp[A2q,Ac]at h
structure Jp (P:Program)(N:Nat)(X:Nat->Prop)(ρ:List IV)(K:Nat->Prop)(S:View)(μ:Nat->Value)(a:Act)(w:World)(es es':ES)(μ':Nat->Value):Prop where
 C8:Good P N X ρ (Ax K es.m es'.m) S.tm (cur S es'.obs) μ' a w
 keep: ∀k,K k->μ' k=μ k
 wr: ∀b,Wr (cur S es'.obs) μ' b->Wr (cur S es.obs) μ b
 m:es.m<=es'.m
 gs:es'.gs=es.gs
theorem Jp.later {μ':Nat->Value}(j:Jp P N X ρ K S μ a w es es' μ'):Ek K (Bs P X ρ (cur S es.obs) μ w) (Bs P X ρ (cur S es'.obs) μ' w):=
 {P:=rfl,ρ:=λ_ _ h=>h,μ:=j.keep,stays:=cL _ _,O:=λb _ c=>c.imp id (j.wr b),W:=λb _ c=>j.wr b c,WO:=λ_b c=> .inr c}
theorem Ph.jp (p:Ph P N X ρ K S μ a w es es'):Jp P N X ρ K S μ a w es es' μ:=
 ⟨p.C8.Pl λ_ h=> .inl h,λ_ _=>rfl,λ_ b=>p.Es.wr b,by rw[p.m];omega,p.gs⟩
theorem Jp.trans {μ1 μ2:Nat->Value}(j:Jp P N X ρ K S μ a w es e1 μ1)(c:Jp P N X ρ (Ax K es.m e1.m) S μ1 a w e1 es' μ2):Jp P N X ρ K S μ a w es es' μ2:=
 ⟨c.C8.Pl (Dn j.m c.m),λk d=>(c.keep k (.inl d)).trans (j.keep k d),λb e=>j.wr b (c.wr b e),aQ j.m c.m,c.gs.trans j.gs⟩
theorem Axp {t:TypeId}{l:LV}{k:Nat}{v:Value}(G:Good P N X ρ K S.tm (cur S es.obs) μ a w)(h:Ev S (Ay9 P t l) es k es' ls)(hl:LH R ρ ls)(hg:holds ρ es.gs=some true)
  (hv:Aav (Bs P X ρ (cur S es.obs) μ w) l v) (F: ∀k,es.m<=k->k<es'.m-> ¬ K k):
  ∃μ',Jp P N X ρ K S μ a w es es' μ'/\μ' k=v/\Ax K es.m es'.m k/\ ∃A n cap,v= .slice A n cap:=by
 unfold Ay9 at h
 simp only[Ab,Ar,C0,Bp,Ad]at h
 obtain⟨e,_,_,_,⟨q,rfl,rfl⟩,⟨x,e1,l1,_,o,⟨_,_,_,_,⟨rfl,rfl,rfl⟩,⟨_,_,_,_,⟨rfl,rfl⟩,⟨rfl,rfl,rfl⟩,rfl⟩,rfl⟩,rfl⟩,rfl⟩:=h
 obtain⟨ys,q1,d,q2,cs,Y,q4,q5⟩:=Qn G o (by simpa using hl) hg hv
 have aa:es.m=e1.m:=d.m.symm
 have hK: ¬ K e1.m:=F e1.m (by omega) (aT _)
 obtain⟨_,_,A,n,cap,H⟩:=Me Y
 have hμ: ∀c,K c->D6 μ e1.m v c=μ c:=λc I=>Dx λe=>hK (e ▸ I)
 have old: ∀c o',B5 (cur S e1.obs) e1.m (some (.arr e t x)) c=some o'->(c=e1.m/\o'= .arr e t x)\/(c≠e1.m/\cur S e1.obs c=some o'):=by
  intro c o' h
  unfold B5 at h
  grind
 -- the new object's block is the one that was Af1
 have j: ∀b,Wr (B5 (cur S e1.obs) e1.m (some (.arr e t x))) (D6 μ e1.m v) b->Wr (cur S e1.obs) μ b\/b∈(blk v).toList :=by
  rintro b ⟨c,o',q,o,i⟩
  rcases old c o' q with⟨rfl,rfl⟩ | ⟨r1,r2⟩
  ·rw[Bl]at i;grind
  ·rw[Dx r1]at i;exact .inl ⟨c,o',r2,o,i⟩
 have L:Ek K (Bs P (λb=>X b\/b∈(blk v).toList) ρ (cur S e1.obs) μ w) {Bs P X ρ (B5 (cur S e1.obs) e1.m (some (.arr e t x))) (D6 μ e1.m v) w with W:=Wr (cur S e1.obs) μ} :=
  {P:=rfl,ρ:=λ_ _ h=>h,μ:=hμ,stays:=cL _ _,O:=λb _ g=>g.elim (λh=> .inl (.inl h)) λh=>(j b h).elim .inr λh=> .inl (.inr h),W:=λb _ g=>g,WO:=λb g=> .inr g}
 have L0:Ek K (Bs P X ρ (cur S es.obs) μ w) (Bs P X ρ (B5 (cur S e1.obs) e1.m (some (.arr e t x))) (D6 μ e1.m v) w):=
  {
   P:=rfl,ρ:=λ_ _ h=>h,μ:=hμ,stays:=cL _ _,
   O:=λb _ g=>g.imp id λh=>(j b h).elim d.Es.wr (d.own b),W:=λb _ g=>(j b g).elim d.Es.wr (d.own b),WO:=λb g=> .inr g}
 have B:Agb (Bs P X ρ (B5 (cur S e1.obs) e1.m (some (.arr e t x))) (D6 μ e1.m v) w) e1.m (.arr e t x):=by
  refine⟨ys,cs,q1,Bo q,q2,?_,q4.weaken λb g J=>?_,q5⟩
  ·show w.ownsRow 0 e (Ag P e) (D6 μ e1.m v e1.m) ys.length cs
   rw[Bl];exact Y
  ·rcases J with J | J
   ·grind
   grind
 refine⟨D6 μ e1.m v,⟨?_,hμ,λb g=>?_,?_,?_⟩,Bl,.inr ⟨by omega,aT _⟩,A,n,cap,H⟩
 ·show Good P N X ρ _ S.tm (cur S ((e1.m,some (.arr e t x))::e1.obs)) _ a w
  rw[Bz]
  refine⟨G.size,G.defers,λs=>L0.Awj (G.kt s) (G.slot s),λc o' h=>?_,λk1 k2 M u b q o i Z y z=>?_,λc o' b q o i=>?_,G.xlt,λs c h=> .inl (G.kt s c h),λc o' h=>?_⟩
  ·rcases old c o' h with⟨rfl,rfl⟩ | ⟨r1,r2⟩
   ·exact B
   ·cases C:o'.Gl with
    | true=>
     have Q:=d.Es c o' r2 C
     exact L0.Akc (G.ko c o' Q).1 (G.ko c o' Q).2 (λ_ _ _ _=>rfl) (G.obj c o' Q)
    | false=>
     cases o' with
     | box=>simp[cS]at C
     | arr=>simp[cS]at C
     | iter=>simp[cS]at C
     | mp=>simp[cS]at C
     | frz e' t' x'=>exact L.Akc (d.C8.ko c _ r2).1 (d.C8.ko c _ r2).2 (λ_ _ _ _=>rfl) (d.C8.obj c _ r2)
  ·rcases old k1 M q with⟨rfl,rfl⟩ | ⟨r1,r2⟩
   ·rcases old k2 u o with⟨rfl,rfl⟩ | ⟨T,U⟩
    ·rfl
    ·rw[Bl]at y;rw[Dx T]at z
     exact absurd (.inr (by simp[y])) (d.C8.xsep k2 u b U Z z)
   ·rcases old k2 u o with⟨rfl,rfl⟩ | ⟨T,U⟩
    ·rw[Bl]at z;rw[Dx r1]at y
     exact absurd (.inr (by simp[z])) (d.C8.xsep k1 M b r2 i y)
    ·rw[Dx r1]at y;rw[Dx T]at z
     exact d.C8.sep k1 k2 M u b r2 U i Z y z
  ·intro hX
   rcases old c o' q with⟨rfl,rfl⟩ | ⟨r1,r2⟩
   ·rw[Bl]at i
    obtain⟨k2,u,z1,z2,z3⟩:=d.own b (by simp[i])
    exact G.xsep k2 u b z1 z2 z3 hX
   ·rw[Dx r1]at i
    exact d.C8.xsep c o' b r2 o i (.inl hX)
  ·rcases old c o' h with⟨rfl,rfl⟩ | ⟨r1,r2⟩
   ·exact⟨.inr ⟨by omega,aT _⟩,λk2 r=>by simp[He]at r⟩
   ·exact⟨.inl (d.C8.ko c o' r2).1,λk2 r=> .inl ((d.C8.ko c o' r2).2 k2 r)⟩
 ·have g:Wr (cur S ((e1.m,some (.arr e t x))::e1.obs)) (D6 μ e1.m v) b:=g
  rw[Bz]at g
  exact(j b g).elim d.Es.wr (d.own b)
 ·grind
 ·exact d.gs
end
end Go.CT
namespace Go.CT
open EM
section
variable {P:Program}{N:Nat}{X:Nat->Prop}{R:Job->List IV->Option (List IV)}{ρ:List IV}{K:Nat->Prop}{S:View}{μ:Nat->Value}{a:Act}{w w':World}{es es' e1:ES}{ls:List PLt}{sx:SX}
 {B B' B1:Bind} {c cb:Cx}
def UOk (P:Program)(N:Nat)(X:Nat->Prop)(ρ:List IV)(K:Nat->Prop)(S:View)(μ:Nat->Value)(a:Act)(w:World)(es es':ES)(B B':Bind)(claim:Cx->Prop):Prop:=
 ∃μ',Jp P N X ρ K S μ a w es es' μ'/\Ext B B'/\BOk B' (Ax K es.m es'.m)/\ ∀cb,Compat B' (Bs P X ρ (cur S es'.obs) μ' w) cb->claim cb
theorem UOk.mono {f g:Cx->Prop}(h:UOk P N X ρ K S μ a w es es' B B' f)(b: ∀cb,f cb->g cb):UOk P N X ρ K S μ a w es es' B B' g:=
 let ⟨μ',c,d,e,i⟩:=h; ⟨μ',c,d,e,λcb j=>b cb (i cb j)⟩
theorem Jg {m a:Nat}(h: ∀k,m<=k-> ¬ K k)(b:m<=a): ∀k,a<=k-> ¬ Ax K m a k:=by
 rintro k c (h' | h')
 ·grind
 ·omega
theorem UOk.then {f g:Cx->Prop}(h:UOk P N X ρ K S μ a w es e1 B B1 f)
  (h': ∀μ1,Jp P N X ρ K S μ a w es e1 μ1->BOk B1 (Ax K es.m e1.m)->UOk P N X ρ (Ax K es.m e1.m) S μ1 a w e1 es' B1 B' g):UOk P N X ρ K S μ a w es es' B B' λcb=>f cb/\g cb:=by
 obtain⟨μ1,b,x1,b1,i⟩:=h
 obtain⟨μ2,c,d,b2,j⟩:=h' μ1 b b1
 exact⟨μ2,b.trans c,x1.trans d,b2.mono (Dn b.m c.m),λcb e=>⟨i cb (e.prev d c.later rfl b1),j cb e⟩⟩
theorem UOk.Uh {f:Cx->Prop}(p:Ph P N X ρ K S μ a w es es')(x:Ext B B')(b:BOk B' K)(c: ∀cb,Compat B' (Bs P X ρ (cur S es'.obs) μ w) cb->f cb):UOk P N X ρ K S μ a w es es' B B' f:=
 ⟨μ,p.jp,x,b.mono λ_ h=> .inl h,c⟩
theorem BOk.Sh {B B':Bind}(h:BOk B K)(e:B'.keys=B.keys):BOk B' K:=
 ⟨λk1 k2 q=>h.keys k1 k2 (by grind),λk1 k2 k a b=>h.inj k1 k2 k (by grind) (by grind)⟩
theorem Sd {b y:Arg}{t:TypeId}{v:Value}{d:List PLt}(p:Ph P N X ρ K S μ a w es e1)(e:Vr (Bs P X ρ (cur S e1.obs) μ w) y t v)(h:Ev S (Gt B b y) e1 B' es' d)(g:BOk B K):
  UOk P N X ρ K S μ a w es es' B B' λcb=>Vr cb b t v:=by
 obtain⟨rfl,rfl,r1,r2,i⟩:=Ee h
 obtain⟨iv,j,m⟩:=e
 exact .Uh p r1 (g.Sh r2) λcb c=>⟨iv,i c j,c.rel m⟩
theorem A0t {J l:LV}{v:Value}(G:Good P N X ρ K S.tm (cur S es.obs) μ a w)(h:Ev S (uLV P B J l) es B' es' ls)(T:LH R ρ ls)(U:holds ρ es.gs=some true)(d:BOk B K)(L: ∀k,es.m<=k-> ¬ K k)
  (I: ∀k∈Bf l,K k) (c:Aav (Bs P X ρ (cur S es.obs) μ w) l v):UOk P N X ρ K S μ a w es es' B B' λcb=>Aav cb J v:=by
 unfold uLV at h
 cases J with
 | junk=>
  simp only[Ad]at h
  obtain⟨rfl,rfl,rfl⟩:=h
  exact .Uh (.refl G) (.refl _) d λcb _=>trivial
 | «at» Y i=>
  simp only[Ab]at h
  obtain⟨y,e1,Z,l2,C,F,rfl⟩:=h
  obtain⟨p,_,q⟩:=Ii G C T.left U c
  exact Sd p (q rfl) F d
 | nil i=>
  cases l with
  | nil t=>
   simp only[Ad]at h
   obtain⟨rfl,rfl,rfl⟩:=h
   exact .Uh (.refl G) (.refl _) d λcb _=>c
  | _=>simp[Ac]at h
 | ref o i=>
  have byown: ∀ {l:LV},Ev S (do
    let k <-Ay9 P i l
    Ml B o k) es B' es' ls->Aav (Bs P X ρ (cur S es.obs) μ w) l v->UOk P N X ρ K S μ a w es es' B B' λcb=>Aav cb (.ref o i) v:=by
   intro l h c
   rw[Ab]at h
   obtain⟨k,e1,Z,l2,C,F,rfl⟩:=h
   obtain⟨μ',j,u,z,H⟩:=Axp G C T.left U c λk C _=>L k C
   obtain⟨rfl,rfl,r1,r2,g⟩:=Jh F
   exact⟨μ',j,r1,g (d.mono λ_ h=> .inl h) z,λcb b=>⟨((b.keys o k r2).trans u).symm,H⟩⟩
  cases l with
  | ref k t=>
   obtain⟨rfl,rfl,r1,r2,g⟩:=Jh h
   exact .Uh (.refl G) r1 (g d (I k (by simp[Bf]))) λcb b=>⟨c.1.trans (b.keys o k r2).symm,c.2⟩
  | «at» =>simp[Ac]at h
  | nil t=>grind
  | sub k lo hi t=>grind
  | ptr p=>grind
  | fn f ps=>grind
  | mref k t=>grind
  | hid k=>grind
  | cl x t=>grind
  | st x t=>grind
  | junk=>grind
 | sub o lo' aa i=>
  cases l with
  | sub k lo hi t=>
   simp only[Ab,Af]at h
   obtain⟨_,_,_,_,⟨M,rfl,rfl⟩,⟨B1,e1,Z,_,C,⟨B2,e2,l2,_,F,Q,rfl⟩,rfl⟩,rfl⟩:=h
   have:t=i:=by grind
   subst this
   obtain⟨rfl,rfl,u,z,H⟩:=Jh C
   obtain⟨rfl,rfl,r1,r2,g⟩:=Ee F
   obtain⟨rfl,rfl,s1,s2,s3⟩:=Ee Q
   obtain⟨A,n,cap,lo0,r,e,p0,p1,p2,p3,p4,p5,p6⟩:=c
   refine .Uh (.refl G) (u.trans (r1.trans s1)) (((H d (I k (by simp[Bf]))).Sh r2).Sh s2) λcb b=>?_
   exact⟨A,n,cap,lo0,r,e,by rw[b.P];exact p0,(b.keys o k (by grind)).trans p1,g (b.ext s1) p2,s3 b p3,p4,p5,by rw[b.P];exact p6⟩
  | _=>simp[Ac]at h
 | ptr p'=>
  cases l with
  | ptr p=>
   obtain⟨rfl,rfl,u,z,H⟩:=A0o h d I c
   exact .Uh (.refl G) u z H
  | _=>simp[Ac]at h
 | fn f' ps'=>
  cases l with
  | fn f ps=>
   simp only[Ab,Af]at h
   obtain⟨_,_,_,_,⟨M,rfl,rfl⟩,h,rfl⟩:=h
   have:f'=f:=by grind
   subst this
   obtain⟨vs,rfl,hp⟩:=c
   obtain⟨rfl,rfl,u,z,H⟩:=Aw6 h d I hp
   exact .Uh (.refl G) u z λcb b=>⟨vs,rfl,H cb b⟩
  | _=>simp[Ac]at h
 | mref o i=>
  cases l with
  | mref k t=>
   obtain⟨rfl,rfl,r1,r2,g⟩:=Jh h
   exact .Uh (.refl G) r1 (g d (I k (by simp[Bf]))) λcb b=>⟨c.1.trans (b.keys o k r2).symm,c.2⟩
  | _=>simp[Ac]at h
 | st Y i=>
  cases l with
  | st x t=>
   simp only[Ab,Af]at h
   obtain⟨_,_,_,_,⟨M,rfl,rfl⟩,h,rfl⟩:=h
   have:t=i:=by grind
   subst this
   obtain⟨rfl,rfl,r1,r2,g⟩:=Ee h
   obtain⟨⟨iv,u,z⟩,ys,A,cap,F,Q,h4⟩:=c
   exact .Uh (.refl G) r1 (d.Sh r2) λcb b=>⟨⟨iv,g b u,b.rel z⟩,ys,A,cap,g b F,Q,h4⟩
  | _=>simp[Ac]at h
 | cl Y i=>
  cases l with
  | cl x t=>
   simp only[Ab,Af]at h
   obtain⟨_,_,_,_,⟨M,rfl,rfl⟩,h,rfl⟩:=h
   have:t=i:=by grind
   subst this
   exact(Sd (.refl G) c.1 h d).mono λcb b=>⟨b,c.2⟩
  | _=>simp[Ac]at h
 | hid o=>
  cases l with
  | hid k=>
   obtain⟨rfl,rfl,r1,r2,g⟩:=Jh h
   exact .Uh (.refl G) r1 (g d (I k (by simp[Bf]))) λcb b=>c.imp id λc=>⟨c.1.trans (b.keys o k r2).symm,c.2⟩
  | _=>simp[Ac]at h
theorem UOk.nil {f:Cx->Prop}(G:Good P N X ρ K S.tm (cur S es.obs) μ a w)(b:BOk B K)(c: ∀cb,f cb):UOk P N X ρ K S μ a w es es B B f:= .Uh (.refl G) (.refl _) b λcb _=>c cb
theorem Awd: ∀ {ls' lvs:List LV} {vs:List Value} {B B':Bind} {es es':ES} {ls:List PLt} {K:Nat->Prop} {μ:Nat->Value},Good P N X ρ K S.tm (cur S es.obs) μ a w->Ev S (A2s P B ls' lvs) es B' es' ls->LH R ρ ls->holds ρ es.gs=some true->BOk B K->(∀k,es.m<=k-> ¬ K k)->
  (∀k∈lvs.flatMap Bf,K k)->Eo (Bs P X ρ (cur S es.obs) μ w) lvs vs->UOk P N X ρ K S μ a w es es' B B' λcb=>Eo cb ls' vs
 | [],[],vs,B,B',es,es',ls,K,μ,G,h,d,e,g,b,i,c=>by
  unfold A2s at h
  rw[Ad]at h
  obtain⟨rfl,rfl,rfl⟩:=h
  cases vs with
  | nil=>exact .nil G g λ_=>trivial
  | cons=>exact c.elim
 | x::ls',l::lvs,vs,B,B',es,es',ls,K,μ,G,h,d,e,g,b,i,c=>by
  cases vs with
  | nil=>exact c.elim
  | cons v vs=>
   unfold A2s at h
   rw[Ab]at h
   obtain⟨B1,e1,y,z,t,u,rfl⟩:=h
   have o: ∀k∈lvs.flatMap Bf,K k:=λk q=>i k (by grind)
   refine((A0t G t d.left e g b (λk q=>i k (by grind)) c.1.2).then λμ1 j b1=>Awd j.C8 u d.right (by rw[j.gs];exact e) b1 (Jg b j.m) (λk q=> .inl (o k q)) (j.later.Agt o c.2)).mono λcb r=>⟨⟨c.1.1,r.1⟩,r.2⟩
 | [],_::_,vs,B,B',es,es',ls,K,μ,G,h,d,e,g,b,i,c=>by simp[A2s,Ac]at h
 | _::_,[],vs,B,B',es,es',ls,K,μ,G,h,d,e,g,b,i,c=>by simp[A2s,Ac]at h
theorem UOk.after {f:Cx->Prop}(p:Ph P N X ρ K S μ a w es e1)(h:UOk P N X ρ K S μ a w e1 es' B B' f):UOk P N X ρ K S μ a w es es' B B' f:=by
 obtain⟨μ',j,x,b,c⟩:=h
 rw[p.m]at b
 refine⟨μ',⟨?_,j.keep,λb d=>p.Es.wr (j.wr b d),by have:=j.m;rw[p.m]at this;exact this,j.gs.trans p.gs⟩,x,b,c⟩
 have:=j.C8
 rwa [p.m]at this
theorem Avo {o vv:VV}{v:Value}(G:Good P N X ρ K S.tm (cur S es.obs) μ a w)(h:Ev S (uVV P B o vv) es B' es' ls)(b:LH R ρ ls)(g:holds ρ es.gs=some true)(i:BOk B K)(c: ∀k,es.m<=k-> ¬ K k)
  (r: ∀k∈Ay vv,K k) (d:Mq (Bs P X ρ (cur S es.obs) μ w) vv v):UOk P N X ρ K S μ a w es es' B B' λcb=>Mq cb o v:=by
 unfold uVV at h
 cases o with
 | agg C F=>
  simp only[Ab,Af]at h
  obtain⟨_,_,_,_,⟨j,rfl,rfl⟩,⟨cs,e1,H,_,u,z,rfl⟩,rfl⟩:=h
  simp only[aA]at j
  have b:=b.right
  obtain⟨⟨A,rfl⟩,I,J⟩:=Km u b.left g r d
  have e: ∃us:Array Value,v= .agg us:=by
   cases vv with
   | agg t ls=>obtain⟨us,rfl,_⟩:=d;grind
   | leaf l=>
    cases l with
    | «at» x t=>
     have:t=C:=by simpa [Aug]using j.2
     subst this
     obtain⟨iv,_,L⟩:=d
     obtain⟨_,_,us,_,_,h,_⟩:=L.Afw j.1
     grind
    | _=>simp[Aug]at j
  obtain⟨us,rfl⟩:=e
  exact(UOk.after (e1:= {es with n:=A}) (.same G rfl rfl rfl) (Awd (es:= {es with n:=A}) G z b.right g i c J I)).mono λcb M=>⟨us,rfl,M⟩
 | leaf Q=>
  simp only at h
  split at h
  ·rw[Ad]at h
   obtain⟨rfl,rfl,rfl⟩:=h
   exact .nil G i λ_=>trivial
  ·simp only[Ab]at h
   obtain⟨y,e1,H,T,u,z,rfl⟩:=h
   obtain⟨p,_,q⟩:=E3 G u b.left g r d
   exact Sd p (q rfl) z i
  ·split at h
   ·exact A0t G h b g i c r d
   ·simp[Ac]at h
theorem Aum: ∀ {ls' lvs:List VV} {vs:List Value} {B B':Bind} {es es':ES} {ls:List PLt} {K:Nat->Prop} {μ:Nat->Value},Good P N X ρ K S.tm (cur S es.obs) μ a w->Ev S (A1d P B ls' lvs) es B' es' ls->LH R ρ ls->holds ρ es.gs=some true->BOk B K->(∀k,es.m<=k-> ¬ K k)->
  (∀k∈lvs.flatMap Ay,K k)->Gn (Bs P X ρ (cur S es.obs) μ w) lvs vs->UOk P N X ρ K S μ a w es es' B B' λcb=>Gn cb ls' vs
 | [],[],vs,B,B',es,es',ls,K,μ,G,h,d,e,g,b,i,c=>by
  unfold A1d at h
  rw[Ad]at h
  obtain⟨rfl,rfl,rfl⟩:=h
  cases vs with
  | nil=>exact .nil G g λ_=>trivial
  | cons=>exact c.elim
 | u::ls',l::lvs,vs,B,B',es,es',ls,K,μ,G,h,d,e,g,b,i,c=>by
  cases vs with
  | nil=>exact c.elim
  | cons v vs=>
   unfold A1d at h
   rw[Ab]at h
   obtain⟨B1,e1,x,y,r,t,rfl⟩:=h
   have o: ∀k∈lvs.flatMap Ay,K k:=λk q=>i k (by grind)
   exact(Avo G r d.left e g b (λk q=>i k (by grind)) c.1).then λμ1 j b1=>Aum j.C8 t d.right (by rw[j.gs];exact e) b1 (Jg b j.m) (λk q=> .inl (o k q)) (j.later.Tp o c.2)
 | [],_::_,vs,B,B',es,es',ls,K,μ,G,h,d,e,g,b,i,c=>by simp[A1d,Ac]at h
 | _::_,[],vs,B,B',es,es',ls,K,μ,G,h,d,e,g,b,i,c=>by simp[A1d,Ac]at h
theorem A6h {g x:SX}{v:Value}(G:Good P N X ρ K S.tm (cur S es.obs) μ a w)(h:Ev S (uSX P B g x) es B' es' ls)(o:LH R ρ ls)(q:holds ρ es.gs=some true)(i:BOk B K)(c: ∀k,es.m<=k-> ¬ K k)
  (t: ∀k∈Ct x,K k) (d:Alq (Bs P X ρ (cur S es.obs) μ w) x v):UOk P N X ρ K S μ a w es es' B B' λcb=>Alq cb g v:=by
 unfold uSX at h
 cases g with
 | one M=>
  cases x with
  | one vv=>exact Avo G h o q i c t d
  | tup=>simp[Ac]at h
  | nx=>simp[Ac]at h
 | nx ok' Q T=>
  cases x with
  | one=>simp[Ac]at h
  | tup=>simp[Ac]at h
  | nx ok p r=>
   simp only[Ab]at h
   obtain⟨B1,e1,U,_,u,⟨B2,Y,Z,_,y,z,rfl⟩,rfl⟩:=h
   obtain⟨rfl,rfl,A,C,F⟩:=Ee u
   obtain⟨rfl,rfl,r1,r2,H⟩:=Ee y
   obtain⟨rfl,rfl,j,I,J⟩:=Ee z
   obtain⟨b,n,m,d1,d2,d3,d4⟩:=d
   refine .Uh (.refl G) (A.trans (r1.trans j)) (((i.Sh C).Sh r2).Sh I) λcb e=>?_
   exact⟨b,n,m,F (e.ext (r1.trans j)) d1,H (e.ext j) d2,J e d3,d4⟩
 | tup L=>
  cases x with
  | nx=>simp[Ac]at h
  | one=>simp[Ac]at h
  | tup vs=>
   obtain⟨us,rfl,d⟩:=d
   exact(Aum G h o q i c t d).mono λcb e=>⟨us,rfl,e⟩
theorem A5s {s':SV}{t:Nat}(G:Good P N X ρ K S.tm (cur S es.obs) μ a w)(h:Ev S (uSV P B s' t) es B' es' ls)(r:LH R ρ ls)(j:holds ρ es.gs=some true)(i:BOk B K)(b: ∀k,es.m<=k-> ¬ K k):
  UOk P N X ρ K S μ a w es es' B B' λcb=>Awr cb s' (a.tmps.getD t undef):=by
 unfold uSV at h
 rw[Iz]at h
 rcases h with⟨c,h⟩ | ⟨_,h⟩
 ·rw[Ad]at h
  obtain⟨rfl,rfl,rfl⟩:=h
  simp only[aA,cH]at c
  refine .nil G i λcb=>⟨true,by rw[c.1];rfl,λ_=>?_,λh=>by cases h⟩
  have d:=c.2
  unfold Az4 at d
  split at d
  ·rename_i e;rw[e];trivial
  ·cases d
 ·simp only[Ab,Oh,Af]at h
  obtain⟨s,_,_,_,⟨rfl,rfl,rfl⟩,⟨_,_,_,_,⟨g,rfl,rfl⟩,h,rfl⟩,rfl⟩:=h
  simp only[aA,cH]at g
  have o:=(G.slot t).use (by rw[g.1];rfl)
  exact(A6h G h (by omega) j i b (G.kt t) o).mono λcb q=>⟨true,by rw[g.2];rfl,λ_=>q,λh=>by cases h⟩
theorem Ag2: ∀ {tm:List (Nat × SV)} {B B':Bind} {es es':ES} {ls:List PLt} {K:Nat->Prop} {μ:Nat->Value},Good P N X ρ K S.tm (cur S es.obs) μ a w->Ev S (Aig P B tm) es B' es' ls->LH R ρ ls->holds ρ es.gs=some true->BOk B K->(∀k,es.m<=k-> ¬ K k)->
  UOk P N X ρ K S μ a w es es' B B' λcb=> ∀p∈tm,Awr cb p.2 (a.tmps.getD p.1 undef)
 | [],B,B',es,es',ls,K,μ,G,h,c,d,e,b=>by
  unfold Aig at h
  rw[Ad]at h
  obtain⟨rfl,rfl,rfl⟩:=h
  exact .nil G e λcb p hp=>by cases hp
 | (t,o)::r,B,B',es,es',ls,K,μ,G,h,c,d,e,b=>by
  unfold Aig at h
  rw[Ab]at h
  obtain⟨B1,e1,q,u,g,i,rfl⟩:=h
  refine((A5s G g c.left d e b).then λμ1 j b1=>Ag2 j.C8 i c.right (by rw[j.gs];exact d) b1 (Jg b j.m)).mono λcb x p hp=>?_
  grind
end
end Go.CT
namespace Go.CT
open EM
section
variable {P:Program}{N:Nat}{X:Nat->Prop}{R:Job->List IV->Option (List IV)}{ρ:List IV}{K:Nat->Prop}{S:View}{μ:Nat->Value}{a:Act}{w w':World}{es es' e1:ES}{ls:List PLt}{sx:SX}
 {B B' B1:Bind} {c cb:Cx}
def BoxC (cb:Cx)(w:World)(c:Nat):Ob->Prop
 | .box t vv=> ∃b v,cb.μ c= .pointer (some ⟨b,0,none⟩)/\w.heap[b]?=some (.cells v.cells t (0,0))/\v.cells.size=Ag cb.P t/\
  (if Ak cb.P t then ∃cs,v= .agg cs else v.oneCell'=true)/\(∀u∈v.cells,u.oneCell'=true)/\Mq cb vv v
 | .arr _ _ _=>True
 | .frz e t a=>cb.P.underlying t=some (.slice e)/\Vr cb a t (cb.μ c)
 | .iter .. =>True
 | .mp .. =>True
theorem Als {o':Ob}{i k:Nat}(G:Good P N X ρ K S.tm (cur S es.obs) μ a w)(h:Ev S (Aeh P B o' k) es B' es' ls)(H:LH R ρ ls)(U:holds ρ es.gs=some true)(z:BOk B K)(L: ∀k,es.m<=k-> ¬ K k)
  (C:findKey i B.keys=some k):UOk P N X ρ K S μ a w es es' B B' λcb=>BoxC cb w i o':=by
 unfold Aeh at h
 cases o' with
 | arr e t x=>
  simp only[Ad]at h
  obtain⟨rfl,rfl,rfl⟩:=h
  exact .nil G z λ_=>trivial
 | iter s p=>
  simp only[Ad]at h
  obtain⟨rfl,rfl,rfl⟩:=h
  exact .nil G z λ_=>trivial
 | mp t kt vt c=>
  simp only[Ad]at h
  obtain⟨rfl,rfl,rfl⟩:=h
  exact .nil G z λ_=>trivial
 | box I v'=>
  simp only at h
  rw[Ab]at h
  obtain⟨o,_,_,l2,F,h,rfl⟩:=h
  rw[B6]at F
  obtain⟨r,rfl,rfl⟩:=F
  cases o with
  | arr=>simp[Ac]at h
  | frz=>simp[Ac]at h
  | iter=>simp[Ac]at h
  | mp=>simp[Ac]at h
  | box t vv=>
   simp only[Ab,Af]at h
   obtain⟨_,_,_,_,⟨M,rfl,rfl⟩,h,rfl⟩:=h
   have:I=t:=by grind
   subst this
   obtain⟨b,v,o1,o2,o3,o4,o5,o6⟩:=G.obj k _ r
   obtain⟨μ',j,x,b',u⟩:=Avo G h (by simpa using H) U z L (G.ko k _ r).2 o6
   refine⟨μ',j,x,b',λcb d=>?_⟩
   have J:cb.P=P:=d.P
   refine⟨b,v,?_,o2,by rw[J];exact o3,by rw[J];exact o4,o5,u cb d⟩
   have:=d.keys i k (x.keys i k C)
   rw[this]
   exact(j.keep k (G.ko k _ r).1).trans o1
 | frz e' I c'=>
  simp only[Ab,Af]at h
  obtain⟨_,_,_,_,⟨M,rfl,rfl⟩,⟨y,e1,l1,l2,Y,h2,rfl⟩,rfl⟩:=h
  have M:Dl P I=some e':=by grind
  have H:=H.right
  have Q:Aav (Bs P X ρ (cur S es.obs) μ w) (.ref k I) (μ k):=by
   refine⟨rfl,?_⟩
   have g:=Y
   unfold D5 at g
   rw[Ab]at g
   obtain⟨o,_,_,_,F,g,_⟩:=g
   rw[B6]at F
   obtain⟨r,rfl,rfl⟩:=F
   cases o with
   | box=>simp[Ac]at g
   | iter=>simp[Ac]at g
   | mp=>simp[Ac]at g
   | arr e t x=>
    obtain⟨ivs,A,cap,_,hμ,_⟩:=G.Asb r
    grind
   | frz e t x=>
    obtain⟨T,iv,Z,q3⟩:=G.obj k _ r
    obtain⟨xs,A,cap,rfl,hμ,_⟩:=q3.Da T
    exact⟨A,_,cap,hμ⟩
  obtain⟨p,_,q⟩:=Ii G Y H.left U Q
  obtain⟨iv,T,Z⟩:=q rfl
  obtain⟨rfl,rfl,r1,r2,r3⟩:=Ee h2
  refine .Uh p r1 (z.Sh r2) λcb u=>⟨by
     have J:cb.P=P:=u.P
     rw[J];exact Bo M,iv,r3 u T,?_⟩
  have:=u.keys i k (r1.keys i k C)
  rw[this]
  exact u.rel Z
theorem Abz: ∀ {obl:List (Nat × Ob)} {B B':Bind} {es es':ES} {ls:List PLt} {K:Nat->Prop} {μ:Nat->Value},Good P N X ρ K S.tm (cur S es.obs) μ a w->Ev S (Yy P B obl) es B' es' ls->LH R ρ ls->holds ρ es.gs=some true->BOk B K->(∀k,es.m<=k-> ¬ K k)->
  UOk P N X ρ K S μ a w es es' B B' λcb=> ∀p∈obl,BoxC cb w p.1 p.2
 | [],B,B',es,es',ls,K,μ,G,h,c,d,e,b=>by
  unfold Yy at h
  rw[Ad]at h
  obtain⟨rfl,rfl,rfl⟩:=h
  exact .nil G e λcb p hp=>by cases hp
 | (q,o')::r,B,B',es,es',ls,K,μ,G,h,c,d,e,b=>by
  unfold Yy at h
  simp only[Ab,Ar]at h
  obtain⟨k,_,_,_,⟨g,rfl,rfl⟩,⟨B1,e1,t,u,i,o,rfl⟩,rfl⟩:=h
  have c:=c.right
  refine((Als G i c.left d e b g).then λμ1 j b1=>Abz j.C8 o c.right (by rw[j.gs];exact d) b1 (Jg b j.m)).mono λcb x p hp=>?_
  grind
def A49 (cb:Cx)(G:Nat->Option Ob)(B:Bind)(a:Nat)(o':Ob):Prop:=
 o'.Gl=true-> ∃k o,findKey a B.keys=some k/\G k=some o/\o.Gl=true/\((∀t v,o'≠ .box t v)->Agb cb a o')
theorem Amk {o':Ob}{i k:Nat}(G:Good P N X ρ K S.tm (cur S es.obs) μ a w)(h:Ev S (Afg P B o' k) es B' es' ls)(g:findKey i B.keys=some k):
  es=es'/\ls= []/\Ext B B'/\B'.keys=B.keys/\ ∀cb,Compat B' (Bs P X ρ (cur S es.obs) μ w) cb->A49 cb (cur S es.obs) B' i o':=by
 unfold Afg at h
 cases o' with
 | box t v=>
  simp only at h
  rw[Ab]at h
  obtain⟨o,_,_,J,j,h,rfl⟩:=h
  rw[B6]at j
  obtain⟨m,rfl,rfl⟩:=j
  cases o with
  | arr=>simp[Ac]at h
  | frz=>simp[Ac]at h
  | iter=>simp[Ac]at h
  | mp=>simp[Ac]at h
  | box t2 v2=>
   rw[Ad]at h
   obtain⟨rfl,rfl,rfl⟩:=h
   exact⟨rfl,rfl,.refl _,rfl,λcb d _=>⟨k,_,g,m,rfl,λh=>absurd rfl (h _ _)⟩⟩
 | frz e t x=>
  simp only[Ad]at h
  obtain⟨rfl,rfl,rfl⟩:=h
  exact⟨rfl,rfl,.refl _,rfl,λcb d h=>by simp[cS]at h⟩
 | arr e' Q c'=>
  simp only at h
  rw[Ab]at h
  obtain⟨o,_,_,J,j,h,rfl⟩:=h
  rw[B6]at j
  obtain⟨m,rfl,rfl⟩:=j
  cases o with
  | box=>simp[Ac]at h
  | frz=>simp[Ac]at h
  | iter=>simp[Ac]at h
  | mp=>simp[Ac]at h
  | arr e t x=>
   simp only[Ab,Af]at h
   obtain⟨_,_,_,_,⟨y,rfl,rfl⟩,h,rfl⟩:=h
   simp only[aA,beq_iff_eq]at y
   obtain⟨rfl,R⟩:=y
   obtain⟨rfl,rfl,r1,r2,z⟩:=Ee h
   refine⟨rfl,rfl,r1,r2,λcb d _=>⟨k,_,r1.keys i k g,m,rfl,λ_=>?_⟩⟩
   obtain⟨ivs,cs,A,H,C,F,L,M⟩:=G.obj k _ m
   have q:cb.P=P:=d.P
   have u:cb.w=w:=d.w
   refine⟨ivs,cs,z d A,by rw[q];exact Bo R,by rw[q];exact C,?_,?_,M⟩
   ·rw[q,u,d.keys i k (r1.keys i k g)];exact F
   ·rw[q,u]
    exact Kr.weaken (O:=(Bs P X ρ (cur S es.obs) μ w).O) L d.O
 | iter s' p'=>
  simp only at h
  rw[Ab]at h
  obtain⟨o,_,_,J,j,h,rfl⟩:=h
  rw[B6]at j
  obtain⟨m,rfl,rfl⟩:=j
  cases o with
  | iter s p=>
   simp only[Ab]at h
   obtain⟨B1,e1,l1,_,T,U,rfl⟩:=h
   obtain⟨rfl,rfl,r1,r2,z⟩:=Ee T
   obtain⟨rfl,rfl,I,Y,Z⟩:=Ee U
   refine⟨rfl,rfl,r1.trans I,Y.trans r2,λcb d _=>⟨k,_,(r1.trans I).keys i k g,m,rfl,λ_=>?_⟩⟩
   obtain⟨b,n,bs,A,H,C,F⟩:=G.obj k _ m
   have u:cb.w=w:=d.w
   refine⟨b,n,bs,?_,by rw[u];exact H,z (d.ext I) C,Z d F⟩
   rw[d.keys i k ((r1.trans I).keys i k g)];exact A
  | _=>simp[Ac]at h
 | mp Q kt' vt' c'=>
  simp only at h
  rw[Ab]at h
  obtain⟨o,_,_,J,j,h,rfl⟩:=h
  rw[B6]at j
  obtain⟨m,rfl,rfl⟩:=j
  cases o with
  | mp t kt vt c=>
   simp only[Ab,Af]at h
   obtain⟨_,_,_,_,⟨y,rfl,rfl⟩,h,rfl⟩:=h
   simp only[aA,beq_iff_eq]at y
   obtain⟨⟨rfl,rfl⟩,rfl⟩:=y
   obtain⟨rfl,rfl,r1,r2,z⟩:=Ee h
   refine⟨rfl,rfl,r1,r2,λcb d _=>⟨k,_,r1.keys i k g,m,rfl,λ_=>?_⟩⟩
   obtain⟨r,cl,ents,ivs,A,H,C,F,L,M⟩:=G.obj k _ m
   have q:cb.P=P:=d.P
   have u:cb.w=w:=d.w
   refine⟨r,cl,ents,ivs,?_,by rw[u];exact H,by rw[q];exact C,by rw[q];exact F,z d L,M.imp λ_ _ _ h'=>?_⟩
   ·rw[d.keys i k (r1.keys i k g)];exact A
   ·have h':=d.rel h'
    exact h'
  | _=>simp[Ac]at h
theorem A49.ext {o':Ob}{a:Nat}{ob:Nat->Option Ob}(h:A49 cb ob B a o')(x:Ext B B'):A49 cb ob B' a o':=λb=>
 let ⟨k,o,c,d,e,g⟩:=h b; ⟨k,o,x.keys a k c,d,e,g⟩
theorem Ab0 (G:Good P N X ρ K S.tm (cur S es.obs) μ a w): ∀ {obl:List (Nat × Ob)} {B B':Bind} {es':ES} {ls:List PLt},Ev S (Xt P B obl) es B' es' ls->
  es=es'/\ls= []/\Ext B B'/\B'.keys=B.keys/\ ∀cb,Compat B' (Bs P X ρ (cur S es.obs) μ w) cb-> ∀p∈obl,A49 cb (cur S es.obs) B' p.1 p.2
 | [],B,B',es',ls,h=>by
  unfold Xt at h
  rw[Ad]at h
  obtain⟨rfl,rfl,rfl⟩:=h
  exact⟨rfl,rfl,.refl _,rfl,λcb _ p hp=>by cases hp⟩
 | (o,o')::r,B,B',es',ls,h=>by
  unfold Xt at h
  simp only[Ab,Ar]at h
  obtain⟨k,_,_,_,⟨c,rfl,rfl⟩,⟨B1,e1,q,t,d,e,rfl⟩,rfl⟩:=h
  obtain⟨rfl,rfl,x1,g,i⟩:=Amk G d c
  obtain⟨rfl,rfl,b,j,u⟩:=Ab0 G e
  refine⟨rfl,rfl,x1.trans b,j.trans g,λcb m p hp=>?_⟩
  rcases bW.1 hp with rfl | hp
  ·exact(i cb (m.ext b)).ext b
  grind
theorem Yq {b:Bind} : ∀ {n:Nat} {as:List Arg},Acp b n=some as->as.length=n/\ ∀i y,i<n->Ic i b.args=some y->as[i]?=some y
 | 0,as,h=>by
  simp only[Acp,aC]at h
  grind
 | n+1,as,h=>by
  unfold Acp at h
  cases a:Acp b n with
  | none=>grind
  | some as1=>
   cases c:Ic n b.args with
   | none=>grind
   | some d=>
    simp only[a,c,aC]at h
    subst h
    obtain⟨e,g⟩:=Yq a
    grind
theorem Akx: ∀ {as:List Arg} {vs:List IV},aW ρ as=some vs->vs.length=as.length/\ ∀ (i:Nat) (y:Arg),as[i]?=some y-> ∃v,vs[i]?=some v/\y.ev ρ=some v
 | [],vs,h=>by
  simp only[aW,aC]at h
  grind
 | a::as,vs,h=>by
  unfold aW at h
  cases c:a.ev ρ with
  | none=>grind
  | some v=>
   cases b:aW ρ as with
   | none=>grind
   | some r=>
    simp[c,b]at h
    subst h
    obtain⟨d,e⟩:=Akx b
    grind
theorem Uz {t:Nat} : ∀ {l:List (Nat × SV)},(I8 t l=nothing/\ ∀p∈l,p.1≠t)\/(t,I8 t l)∈l
 | []=> .inl ⟨rfl,by simp⟩
 | (a,v)::r=>by
  unfold I8
  by_cases h:a=t
  ·grind
  ·have:(a == t)=false:=by grind
   simp only[this,aG,Zf]
   rcases Uz (t:=t) (l:=r) with⟨b,c⟩ | b
   ·grind
   grind
theorem S7 {k:Nat}{o:Ob} : ∀ {l:List (Nat × Ob)},Q7 k l=some o->(k,o)∈l
 | [],h=>by simp[Q7]at h
 | (a,o')::r,h=>by
  unfold Q7 at h
  by_cases b:a=k
  ·grind
  ·have:(a == k)=false:=by grind
   simp only[this,aG,Zf]at h
   exact aF _ (S7 h)
theorem A50 {t:St}{as:List Arg}{vs:List IV}(G:Good P N X ρ K S.tm (cur S es.obs) μ a w){backs:List Nat}(h:Ev S (uSt P backs t) es as es' ls)(T:LH R ρ ls)(hg:holds ρ es.gs=some true)(U: ∀k,es.m<=k-> ¬ K k)(Z:aW ρ as=some vs):
  ∃μ',Good P N X vs (· <t.m) t.view.tm t.view.ob μ' a w/\(∀b,Wr t.view.ob μ' b->Wr (cur S es.obs) μ b)/\ ∀k∈backs,k<t.m/\(K k->μ' k=μ k):=by
 unfold uSt at h
 simp only[Ab,Af,Ar]at h
 obtain⟨_,_,_,_,⟨g0,rfl,rfl⟩,⟨B1,e1,l1,_,g,⟨B2,H,l2,_,z,⟨B3,e3,l3,_,B,⟨_,_,_,_,⟨g1,rfl,rfl⟩,⟨_,_,_,_,⟨g2,rfl,rfl⟩,⟨h4,rfl,rfl⟩,rfl⟩,rfl⟩,rfl⟩,rfl⟩,rfl⟩,rfl⟩:=h
 have T:=T.right
 have hU:=(Ag2 G g T.left hg ⟨λd k h=>by simp[findKey]at h,λk1 k2 k h=>by simp[findKey]at h⟩ U).then λμ1 j b1=>Abz j.C8 z T.right.left (by rw[j.gs];exact hg) b1 (Jg U j.m)
 obtain⟨μ2,j,x,b2,hc⟩:=hU
 obtain⟨rfl,rfl,x3,y3,c3⟩:=Ab0 j.C8 B
 have b3:BOk B3 (Ax K es.m H.m):=b2.Sh y3
 obtain⟨z1,z2⟩:=Yq h4
 obtain⟨z3,z4⟩:=Akx Z
 -- the block's keys
 let μb:Nat->Value:=λd=>match findKey d B3.keys with | some k=>μ2 k | none=>undef
 have hμb: ∀d k,findKey d B3.keys=some k->μb d=μ2 k:=λd k h=>by grind
 refine⟨μb,?_⟩
 have I: ∀ (i:Nat) (y:Arg) (iv:IV),Ic i B3.args=some y->y.ev ρ=some iv->vs[i]?=some iv:=by
  intro i y iv hf hy
  have hi:i<t.n:=by
   have: ∀ {l:List (Nat × Arg)},(l.all λp=>decide (p.1<t.n))=true->Ic i l=some y->i<t.n:=by
    intro l T
    induction l with
    | nil=>simp[Ic]
    | cons p l ih=>
     obtain⟨q,r⟩:=p
     simp only[aP,aA,decide_eq_true_eq]at T
     unfold Ic
     grind
   grind
  grind
 have comp: ∀ (O W:Nat->Prop),(∀b,O b->X b\/Wr (cur S H.obs) μ2 b)->(∀b,W b->Wr (cur S H.obs) μ2 b)->Compat B3 (Bs P X ρ (cur S H.obs) μ2 w) {P,ρ:=vs,μ:=μb,w,O,W} :=λO W hO hW=>
  ⟨rfl,rfl,I,hμb,λb _ h=>hO b h,λb _ h=>hW b h⟩
 have own0:=c3 _ (comp (λ_=>False) (λ_=>False) (λ_ h=>h.elim) (λ_ h=>h.elim))
 have u: ∀d o',t.view.ob d=some o'->o'.Gl=true-> ∃k o,findKey d B3.keys=some k/\cur S H.obs k=some o/\o.Gl=true:=by
  intro d o' g z
  obtain⟨k,o,F,J,Y,_⟩:=own0 (d,o') (S7 g) z
  grind
 have L: ∀b,Wr t.view.ob μb b->Wr (cur S H.obs) μ2 b:=by
  rintro b ⟨d,o',g,z,B⟩
  obtain⟨k,o,F,J,Y⟩:=u d o' g z
  rw[hμb d k F]at B
  exact⟨k,o,J,Y,B⟩
 have C:Compat B3 (Bs P X ρ (cur S H.obs) μ2 w) (Bs P X vs t.view.ob μb w):=comp _ _ (λb h=>h.imp id (L b)) L
 obtain⟨s1,s2⟩:=hc _ (C.ext x3)
 have own1:=c3 _ C
 simp only[stOk,aA,bL]at g0
 obtain⟨gt,go⟩:=g0
 refine⟨⟨G.size,G.defers,λs=>?_,λd o' h=>?_,λk1 k2 o1 o2 b g z B h4 h5 h6=>?_,λd o' b g z B=>?_,G.xlt,λs k M=>?_,λd o' h=>?_⟩,λb hb=>j.wr b (L b hb),λk M=>?_⟩
 ·rcases Uz (t:=s) (l:=t.tm) with⟨g,_⟩ | g
  ·show Awr _ (I8 s t.tm) _
   rw[g]
   exact⟨true,rfl,λ_=>trivial,λh=>by cases h⟩
  ·exact s1 _ g
 ·have Q:=S7 h
  cases o' with
  | box ty vv=>exact s2 _ Q
  | frz e ty x=>exact s2 _ Q
  | arr e ty x=>
   obtain⟨k,o,_,_,_,q⟩:=own1 _ Q rfl
   grind
  | iter s p=>
   obtain⟨k,o,_,_,_,q⟩:=own1 _ Q rfl
   grind
  | mp t kt vt c=>
   obtain⟨k,o,_,_,_,q⟩:=own1 _ Q rfl
   grind
 ·obtain⟨F,p1,r1,r2,r3⟩:=u k1 o1 g B
  obtain⟨J,p2,t1,t2,t3⟩:=u k2 o2 z h4
  rw[hμb k1 F r1]at h5
  rw[hμb k2 J t1]at h6
  have:=j.C8.sep F J p1 p2 b r2 t2 r3 t3 h5 h6
  subst this
  exact b3.inj k1 k2 F r1 t1
 ·obtain⟨k,o,F,J,Y⟩:=u d o' g z
  rw[hμb d k F]at B
  exact j.C8.xsep k o b J Y B
 ·rcases Uz (t:=s) (l:=t.tm) with⟨g,_⟩ | g
  ·have M:k∈Ct (I8 s t.tm).x :=M
   rw[g]at M;simp[nothing,Ct,Ay,Bf]at M
  ·exact P5 (gt _ g).1 k M
 ·have Q:=S7 h
  have:=go _ Q
  simp only[decide_eq_true_eq]at this
  refine⟨this.1,λk2 A=>?_⟩
  cases o' with
  | box ty vv=>
   have z:=this.2
   exact P5 (x:= .one vv) z k2 A
  | arr=>cases A
  | iter=>cases A
  | mp=>cases A
  | frz=>cases A
 ·rw[bL]at g2
  have:=g2 k M
  simp only[aA,beq_iff_eq,decide_eq_true_eq]at this
  exact⟨this.2,λhK=>(hμb k k this.1).trans (j.keep k hK)⟩
end
end Go.CT
