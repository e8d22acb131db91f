import Derived.Test.YtfealnpkfnjbkaaGreatDoorCtB
import Derived.Scope
import Derived.Lib.Bytealg
import Derived.Lib.Walk
import Derived.Carry
import Derived.JoinedCond
import Derived.RowKit
import Derived.ChangeSame
import Derived.IntWalk
import Derived.OpenShut
set_option linter.unusedVariables false
set_option linter.unusedSimpArgs false
open Array renaming replicate->bR,getElem?_toList->cB,ext'->dX
open Bool renaming and_eq_true->aD,false_eq_true->aG,not_eq_true'->bY,eq_iff_iff->cK,or_eq_true->dO,not_false->dR
open Classical renaming choose_spec->cW
open Go.CT renaming holds->cM
open Go.CT.Arg renaming evs->aQ,ev->dC
open Go.CT.EM renaming guard->cR
open Go.CT.Mm renaming ev->dB
open Go.CT.O0 renaming arity->cN,ev->dK
open Go.CT.PS renaming Dp->dF
open Go.CT.PT renaming den->cJ
open Go.CT.Ph renaming refl->dY
open Go.CT.Prim renaming ev->aE
open Int renaming lt_irrefl->dE
open List renaming append_assoc->aF,mem_cons->aI,append_nil->aK,length_append->aL,length_pos_iff->aO,length_cons->aP,mem_append->aR,length_eq_zero_iff->aS,take_append_drop->aU,mem_cons_of_mem->aV,getElem?_append_right->aW,getElem?_eq_getElem->aX,all_eq_true->aY,mem_map_of_mem->bA,getElem?_append_left->bB,pairwise_append->bC,nil_append->bD,replicate->bF,pairwise_cons->bG,mem_append_right->bH,getElem?_eq_some_iff->bI,length_nil->bJ,map_cons->bK,length_take->bL,mem_singleton->bM,flatMap_cons->bN,mem_of_getElem?->bO,length_map->bT,filter_append->bU,getElem?_cons_succ->bW,getElem?_cons_zero->bX,getElem?_toArray->bZ,length_singleton->cC,cons_append->cE,getD->cF,length_drop->cG,mem_append_left->cI,mem_cons_self->cL,all_cons->cQ,filter_cons_of_pos->cS,filter_eq_nil_iff->cT,length_eq_one_iff->cU,length_replicate->cX,contains_iff_mem->cZ,mapM_cons->dD,isEmpty_iff->dH,mem_flatMap->dI,nodup_cons->dM,map_append->dP,mem_filter->dQ,mapM_nil->dS
open List.Pairwise renaming nil->eA
open List.cons renaming injEq->cV
open Nat renaming le_refl->aJ,lt_succ_self->cD,le_succ->cH,le_succ_of_le->cP,le_of_ble_eq_true->cY,zero_add->dG,le_max_right->dJ,zero_le->dL,le_max_left->dN,sub_zero->dU,beq->dW,blt->dZ
open Option renaming bind_some->aA,bind_eq_some_iff->aC,map_eq_some_iff->aH,ite_none_right_eq_some->aM,bind_assoc->aT,bind_eq_bind->aZ,pure_def->bE,isSome_iff_exists->bP,map_some->bQ,join_eq_some_iff->bV,isNone_iff_eq_none->cO
open Option.some renaming injEq->aB
open Prod.mk renaming injEq->aN
open UInt8 renaming lt_iff_toNat_lt->dA
namespace Go.CT
open EM
section
variable (P:Program)
def Aww (v:ResultVar):EM VV:=do
 match v with
 | .tmp t=>do
  let s <-Aja t
  cR s.gs.isEmpty
  match s.x with
  | .one v=>pure v
  | _=>fail
 | .cell a t=>do
  let s <-Aja a
  cR s.gs.isEmpty
  match s.x with
  | .one (.leaf (.ptr p))=>Avk P p t
  | _=>fail
def Aaa:List ResultVar->EM (List VV)
 | []=>pure []
 | v::vs=>do
  let x <-Aww P v
  let xs <-Aaa vs
  pure (x::xs)
def Av4 (r:RS)(v:VV):EM (List Arg):=
 match r with
 | .whole t=>do
  let x <-J4 P true t v
  pure [x]
 | .cells t own=>do
  cR (Ma P t v)
  let ts <-ofOption (leaves P t)
  let cs <-Pg P v
  E9 P true own ts cs
 | .skip =>pure []
 | .clip _=>fail
 | .strict t=>
  match v with
  | .leaf (.nil _)=>do
   cR (Dl P t).isSome
   pure [.k (.list [])]
  | v=>do
   cR (Dl P t).isSome
   let x <-J4 P true t v
   let _ <-Cb .index [x,.k (.int 0)]
   pure [x]
 | .nbox t own=>do
  let r <-R6 P true [.box t own] [v]
  pure r.1
 | .clo f bxs=>
  match Ald v with
  | some gc=>do
   cR (f == gc.1)
   let r <-R6 P true (bxs.map λb=> .box b.1 b.2) (gc.2.map Ap7)
   pure r.1
  | none=>fail
def Aam:List RS->List VV->EM (List Arg)
 | [],[]=>pure []
 | r::rs,v::vs=>do
  let a <-Av4 P r v
  let as <-Aam rs vs
  pure (a++as)
 | _,_=>fail
structure FnC where
 rs:List RS
 vars:List ResultVar
 bps:List PS
 bks:List Nat
def A0k (p:PS)(k:Nat):VV:=
 match p with
 | .arr t=> .leaf (.ref k t)
 | _=> .leaf (.ptr (.p k 0))
def Rq:List PS->List Nat->List VV
 | p::a,k::ks=>A0k p k::Rq a ks
 | _,_=> []
def A6v (F:FnC):EM (List Arg):=do
 bare
 let vs <-Aaa P F.vars
 let a <-Aam P F.rs vs
 let b <-R6 P true F.bps (Rq F.bps F.bks)
 pure (a++b.1)
end
section
variable {P:Program}{N:Nat}{X:Nat->Prop}{R:Job->List IV->Option (List IV)}{ρ:List IV}{K:Nat->Prop}{S:View}{μ:Nat->Value}{a:Act}{w w':World}{es es' e1:ES}{ls:List PLt}{sx:SX}
def Qd (tmps:Array Value):ResultVar->Sem Value
 | .tmp t=>pure (tmps.getD t undef)
 | .cell a t=>do loadVar t (<-asAddr (tmps.getD a undef))
theorem As3 {v:ResultVar}{vv:VV}(G:Good P N X ρ K S.tm (cur S es.obs) μ a w)(h:Ev S (Aww P v) es vv es' ls)(B:LH R ρ ls)(q:holds ρ es.gs=some true):
  ∃u,(Qd a.tmps v).run P w= .ok u w/\(∃n,es'= {es with n})/\Mq (Bs P X ρ (cur S es.obs) μ w) vv u/\ ∀k∈Ay vv,K k:=by
 unfold Aww at h
 cases v with
 | tmp t=>
  simp only[Ab,Oh,Af]at h
  obtain⟨s,_,_,_,⟨rfl,rfl,rfl⟩,⟨_,_,_,_,⟨g,rfl,rfl⟩,h,rfl⟩,rfl⟩:=h
  have d:=(G.slot t).use (by rw[dH.1 g];rfl)
  have m:=G.kt t
  split at h
  ·rename_i v j
   rw[Ad]at h
   obtain⟨rfl,rfl,rfl⟩:=h
   rw[j]at d m
   exact⟨_,rfl,⟨es.n,rfl⟩,d,m⟩
  ·simp[Ac]at h
 | cell b t=>
  simp only[Ab,Oh,Af]at h
  obtain⟨s,_,_,_,⟨rfl,rfl,rfl⟩,⟨_,_,_,_,⟨g,rfl,rfl⟩,h,rfl⟩,rfl⟩:=h
  have d:=(G.slot b).use (by rw[dH.1 g];rfl)
  split at h
  ·rename_i p j
   rw[j]at d
   have d:Af0 (Bs P X ρ (cur S es.obs) μ w) p (a.tmps.getD b undef):=d
   obtain⟨u,o,y,z,A⟩:=Aof G h (by omega) q d
   refine⟨u,?_,y,z,A⟩
   have c: ∃ad,a.tmps.getD b undef= .pointer (some ad):=by
    cases p with
    | p k off=>obtain⟨b,_,r⟩:=d;grind
    | el k e i off=>obtain⟨_,_,_,_,_,_,_,r⟩:=d;grind
    | im x t off=>obtain⟨_,_,_,_,_,_,r⟩:=d;grind
   obtain⟨ad,c⟩:=c
   rw[c]at o
   simp only[Qd,c]
   simpa [Instr.loadAt,Instr.sureAddr,asAddr]using o
  ·simp[Ac]at h
theorem Acx: ∀ {vars:List ResultVar} {vvs:List VV} {es es':ES} {ls:List PLt},Good P N X ρ K S.tm (cur S es.obs) μ a w->Ev S (Aaa P vars) es vvs es' ls->LH R ρ ls->holds ρ es.gs=some true->
  ∃us,(vars.mapM (Qd a.tmps)).run P w= .ok us w/\(∃n,es'= {es with n})/\Gn (Bs P X ρ (cur S es.obs) μ w) vvs us/\ ∀k∈vvs.flatMap Ay,K k
 | [],vvs,es,es',ls,G,h,b,c=>by
  unfold Aaa at h
  rw[Ad]at h
  obtain⟨rfl,rfl,rfl⟩:=h
  exact⟨[],by simp,⟨es.n,rfl⟩,trivial,by simp⟩
 | v::vars,vvs,es,es',ls,G,h,b,c=>by
  unfold Aaa at h
  simp only[Ab]at h
  obtain⟨x,e1,q,_,e,⟨xs,r,t,_,g,d,rfl⟩,rfl⟩:=h
  rw[Ad]at d
  obtain⟨rfl,rfl,rfl⟩:=d
  obtain⟨u,y,⟨i,rfl⟩,j,z⟩:=As3 G e b.left c
  obtain⟨us,r1,⟨m,rfl⟩,o,A⟩:=Acx (es:= {es with n:=i}) G g b.right.left c
  refine⟨u::us,?_,⟨m,rfl⟩,⟨j,o⟩,λk B=>?_⟩
  ·simp_all
  grind
theorem Vm {O Lt:Nat->Prop} : ∀ {bs:List (TypeId × List Bool)} {xs:List IV} {vs:List Value} {L:List Nat},E1 P w O Lt (bs.map λb=> .box b.1 b.2) xs vs L->Jb P w O bs xs vs L
 | [],_,[],_,h=>h
 | b::bs,_,_::_,_,h=>by
  obtain⟨ys,zs,L1,L2,a,c,d,e⟩:=h
  exact⟨ys,zs,L1,L2,a,c,d,Vm e⟩
 | [],_,_::_,_,h=>h.elim
 | _::_,_,[],_,h=>h.elim
theorem Au1 {r:RS}{vv:VV}{v:Value}{as:List Arg}(G:Good P N X ρ K S.tm (cur S es.obs) μ a w)(h:Ev S (Av4 P r vv) es as es' ls)(d:LH R ρ ls)(y:holds ρ es.gs=some true)
  (C: ∀k∈Ay vv,K k) (z:Mq (Bs P X ρ (cur S es.obs) μ w) vv v):
  ∃xs L,aQ ρ as=some xs/\Qw P N X ρ K S μ a w L es es'/\Aaq P w (Auk true X L (cur S es'.obs) μ) r xs v L:=by
 unfold Av4 at h
 cases r with
 | whole t=>
  simp only[Ab,Ad]at h
  obtain⟨x,e1,F,_,q,⟨rfl,rfl,rfl⟩,rfl⟩:=h
  obtain⟨B,p2,H⟩:=E3 G q (by simpa using d) y C z
  obtain⟨iv,i,o⟩:=H rfl
  exact⟨[iv],[],Gx i rfl,B.Af2,iv,rfl,rfl,o.weaken λb _ I=>by simpa [Bs]using I.2⟩
 | clip t=>simp[Ac]at h
 | strict t=>
  simp only at h
  split at h
  ·simp only[Ab,Af,Ad]at h
   obtain⟨_,_,_,_,⟨u,rfl,rfl⟩,⟨rfl,rfl,rfl⟩,rfl⟩:=h
   obtain⟨e,J⟩:=bP.1 u
   have M:v= .slice none 0 0:=z
   subst M
   exact⟨[.list []],[],rfl,(dY G).Af2,_,rfl,rfl,(Row.nil e none 0).rel (Bo J),[],none,0,rfl,rfl,λ_=>rfl⟩
  ·simp only[Ab,Af,Bt,Ad]at h
   obtain⟨_,_,_,_,⟨u,rfl,rfl⟩,⟨x,e1,F,_,q,⟨_,_,_,_,⟨rfl,rfl,rfl⟩,⟨rfl,rfl,rfl⟩,rfl⟩,rfl⟩,rfl⟩:=h
   obtain⟨e,J⟩:=bP.1 u
   have d:=d.right
   obtain⟨B,p2,H⟩:=E3 G q d.left y C z
   obtain⟨iv,i,o⟩:=H rfl
   have ad:x.ev ρ=some iv:=i
   obtain⟨ys,A,cap,rfl,rfl,ab⟩:=o.Da (Bo J)
   have Q:holds ρ e1.gs=some true:=by rw[B.gs];exact y
   obtain⟨vs0,y0,T,U,_⟩:=LH.Cb d.right.left Q
   obtain⟨Y,Z⟩:=Qs (j:=0) i rfl T U
   have ac:=toNat_lt Y Z
   refine⟨[.list ys],[],Gx i rfl,?_,_,rfl,rfl,o.weaken λb _ I=>by simpa [Bs]using I.2,ys,A,cap,rfl,rfl,λh=>?_⟩
   ·exact(Ph.mk (es':= {e1 with n:=e1.n+1}) B.C8 B.Es B.m B.gs).Af2
   grind
 | nbox t bs=>
  simp only[Ab,Ad]at h
  obtain⟨r,e1,F,_,q,⟨rfl,rfl,rfl⟩,rfl⟩:=h
  obtain⟨xs,L,i,o,q3,_⟩:=Tl (us:= [v]) G q d.left y (by grind) ⟨z,trivial⟩ (.inr rfl)
  exact⟨xs,L,i,o,Vm (bs:= [(t,bs)]) q3⟩
 | clo f bs=>
  simp only at h
  split at h
  ·rename_i gc hx
   obtain⟨g,caps,rfl⟩: ∃g caps,vv= .leaf (.fn g caps):=by
    unfold Ald at hx
    grind
   simp only[Ald,aB]at hx
   subst hx
   simp only[Ab,Af,Ad]at h
   obtain⟨_,_,_,_,⟨u,rfl,rfl⟩,⟨r,e1,F,_,q,⟨rfl,rfl,rfl⟩,rfl⟩,rfl⟩:=h
   have u:f=g:=by grind
   subst u
   obtain⟨cs,rfl,aa⟩:=z
   obtain⟨xs,L,i,o,q3,_⟩:=Tl G q d.right.left y (by rw[Sm];exact C) aa.Tp (.inr rfl)
   exact⟨xs,L,i,o,cs,rfl,Vm q3⟩
  ·simp[Ac]at h
 | skip=>
  simp only[Ad]at h
  obtain⟨rfl,rfl,rfl⟩:=h
  exact⟨[],[],rfl,(dY G).Af2,rfl,rfl⟩
 | cells t bs=>
  simp only[Ab,Af,Ar]at h
  obtain⟨_,_,_,_,⟨u,rfl,rfl⟩,⟨ts,_,_,_,⟨h2,rfl,rfl⟩,⟨cs,e1,F,_,q,h3,rfl⟩,rfl⟩,rfl⟩:=h
  have d:=d.right.right
  obtain⟨f1,f2,f3⟩:=Afs (c:=Bs P X ρ (cur S es.obs) μ w) u z
  obtain⟨⟨n1,rfl⟩,i,o⟩:=Km q d.left y C z
  have p:Ph P N X ρ K S μ a w es {es with n:=n1} := .same G rfl rfl rfl
  obtain⟨xs,L,Y,Z,s3⟩:=Ny (es:= {es with n:=n1}) G h3 d.right y o i
  have:=p.Af2.trans (Z.congr λb=>by simp)
  exact⟨xs,L,Y,by grind,ts,h2,f1,f2,s3⟩
theorem Ahf: ∀ {rs:List RS} {vvs:List VV} {X:Nat->Prop} {es es':ES} {as:List Arg} {ls:List PLt} {us:List Value},Good P N X ρ K S.tm (cur S es.obs) μ a w->Ev S (Aam P rs vvs) es as es' ls->LH R ρ ls->
  holds ρ es.gs=some true->(∀k∈vvs.flatMap Ay,K k)->Gn (Bs P X ρ (cur S es.obs) μ w) vvs us->
  ∃xs L,aQ ρ as=some xs/\Qw P N X ρ K S μ a w L es es'/\I1 P w (Auk true X L (cur S es'.obs) μ) rs xs us L
 | [],[],X,es,es',as,ls,us,G,h,d,e,g,c=>by
  unfold Aam at h
  rw[Ad]at h
  obtain⟨rfl,rfl,rfl⟩:=h
  cases us with
  | cons=>exact c.elim
  | nil=>exact⟨[],[],rfl,(dY G).Af2,rfl,rfl⟩
 | r::rs,vv::vvs,X,es,es',as,ls,us,G,h,d,e,g,c=>by
  cases us with
  | nil=>exact c.elim
  | cons u us=>
   unfold Aam at h
   simp only[Ab]at h
   obtain⟨r1,e1,J,_,x,⟨r2,y,M,_,z,o,rfl⟩,rfl⟩:=h
   rw[Ad]at o
   obtain⟨rfl,rfl,rfl⟩:=o
   have i: ∀k∈vvs.flatMap Ay,K k:=λk A=>g k (by grind)
   obtain⟨xs,L1,B,m,C⟩:=Au1 G x d.left e (λk A=>g k (by grind)) c.1
   obtain⟨ys,L2,F,q,H⟩:=Ahf m.C8 z d.right.left (by rw[m.gs];exact e) i (m.later.Tp i c.2)
   refine⟨xs++ys,L1++L2,Hb B F,m.trans q,xs,ys,L1,L2,rfl,rfl,?_,H.weaken λb t j=>⟨j.1,by simpa [or_assoc]using j.2⟩⟩
   have I: ∀b,b<w.heap.size->Auk true X (L1++L2) (cur S y.obs) μ b->Auk true X L1 (cur S e1.obs) μ b:=λb t j=>⟨j.1,q.later.O b t (by simpa [Bs,or_assoc]using j.2)⟩
   exact Aaq.weaken C I
 | [],_::_,X,es,es',as,ls,us,G,h,d,e,g,c=>by simp[Aam,Ac]at h
 | _::_,[],X,es,es',as,ls,us,G,h,d,e,g,c=>by simp[Aam,Ac]at h
def Mz (p:PS)(v:Value):Prop:=
 match p with
 | .arr _=> ∃A n cap,v= .slice A n cap
 | _=> ∃b,v= .pointer (some ⟨b,0,none⟩)
structure Aq7 (F:FnC)(ps:List PS)(args bvs:List Value)(μ:Nat->Value):Prop where
 bps:F.bps=ps.filter dF
 sel: ∀ {P:Program} {w:World} {O:Nat->Prop} {xs:List IV} {L:List Nat},E1 P w O (λ_=>False) F.bps xs bvs L->Cr P w O ps xs args L
 len:F.bks.length=bvs.length/\F.bps.length=bvs.length
 hdr: ∀ (i k:Nat) (v:Value),F.bks[i]?=some k->bvs[i]?=some v->μ k=v
 shape: ∀ (i:Nat) (p:PS) (v:Value),F.bps[i]?=some p->bvs[i]?=some v->Mz p v
theorem Xk {c:Cx} : ∀ {e:List PS} {ks:List Nat} {vs:List Value},ks.length=vs.length->e.length=vs.length->(∀ (i k:Nat) (v:Value),ks[i]?=some k->vs[i]?=some v->c.μ k=v)->
  (∀ (i:Nat) (p:PS) (v:Value),e[i]?=some p->vs[i]?=some v->Mz p v)->Gn c (Rq e ks) vs
 | [],[],[],_,_,_,_=>trivial
 | p::e,k::ks,v::vs,m,o,g,j=>by
  refine⟨?_,Xk (by grind) (by grind) (λi k v a b=>g (i+1) k v (by grind) (by grind)) (λi k v a b=>j (i+1) k v (by grind) (by grind))⟩
  have e1:=g 0 k v rfl rfl
  have d:=j 0 p v rfl rfl
  cases p with
  | arr t=>exact⟨e1.symm,d⟩
  | data t=>obtain⟨b,rfl⟩:=d;exact⟨b,e1,by rw[Bg]⟩
  | own t=>obtain⟨b,rfl⟩:=d;exact⟨b,e1,by rw[Bg]⟩
  | box t bs=>obtain⟨b,rfl⟩:=d;exact⟨b,e1,by rw[Bg]⟩
  | fn f ts=>obtain⟨b,rfl⟩:=d;exact⟨b,e1,by rw[Bg]⟩
  | fnb f n=>obtain⟨b,rfl⟩:=d;exact⟨b,e1,by rw[Bg]⟩
  | rd t=>obtain⟨b,rfl⟩:=d;exact⟨b,e1,by rw[Bg]⟩
  | bld t bk=>obtain⟨b,rfl⟩:=d;exact⟨b,e1,by rw[Bg]⟩
 | [],_::_,[],h,_,_,_=>by simp at h
 | [],_,_::_,_,h,_,_=>by simp at h
 | _::_,[],_::_,h,_,_,_=>by simp at h
 | _::_,_,[],_,h,_,_=>by simp at h
theorem V7: ∀ {b:List PS} {ks:List Nat},(∀k∈ks,K k)-> ∀k∈(Rq b ks).flatMap Ay,K k
 | [],_,_,k,a=>by simp[Rq]at a
 | _::_,[],_,k,a=>by simp[Rq]at a
 | p::b,q::ks,h,k,a=>by
  simp only[Rq,bN,aR]at a
  rcases a with a | a
  ·have:k=q:=by cases p<;>simpa [A0k,Ay,Bf,Eg]using a
   grind
  ·exact V7 (λk h'=>h k (aV _ h')) k a
theorem A1w {F:FnC}{s:Spec}{args bvs:List Value}{as:List Arg}{rs:List IV}{L0:List Nat}{w0:World}{H:Nat->Prop}{hd:Nat->Value}(x:F.rs=s.results)(i:Aq7 F s.params args bvs μ)(y: ∀k∈F.bks,K k)(FS0:FS P N X ρ K S.tm (cur S es.obs) μ a w (· ∈L0) w0 H hd)
  (h:Ev S (A6v P F) es as es' ls) (j:LH R ρ ls) (e:aQ ρ as=some rs):
  ∃v,(F.vars.mapM (Qd a.tmps)).run P w= .ok v w/\Z3 P X s args L0 rs w0 (packed v) w:=by
 unfold A6v at h
 rw[Ab]at h
 obtain⟨_,_,_,_,r,h,rfl⟩:=h
 rw[Ea]at r
 obtain⟨z,rfl,rfl⟩:=r
 have m:holds ρ es.gs=some true:=by rw[z];rfl
 simp only[Ab]at h
 obtain⟨vvs,e1,Z,_,A,⟨a1,B,l2,_,C,⟨b1,e3,l3,_,I,t,rfl⟩,rfl⟩,rfl⟩:=h
 rw[Ad]at t
 obtain⟨rfl,rfl,rfl⟩:=t
 have j:=j.right
 have G:=FS0.C8
 obtain⟨us,J,⟨L,rfl⟩,M,Q⟩:=Acx G A j.left m
 obtain⟨xs,L1,r1,r2,T⟩:=Ahf (es:= {es with n:=L}) G C j.right.left m Q M
 have o:=Xk (c:=Bs P (λb=>X b\/b∈L1) ρ (cur S B.obs) μ w) i.len.1 i.len.2 i.hdr i.shape
 obtain⟨ys,L2,U,u,Y,_⟩:=Tl r2.C8 I j.right.right.left (by rw[r2.gs];exact m) (V7 y) o (.inr rfl)
 rw[Hb r1 U]at e
 injection e with e
 subst e
 have d:=r2.trans u
 refine⟨us,J,FS0.step,us,xs,ys,L1,L2,rfl,rfl,d.nodup,λb q=>FS0.own b (d.own b q),?_,i.sel ?_⟩
 ·rw[<-x]
  refine T.weaken λb q g=>⟨rfl,?_⟩
  rcases g with g | g
  ·grind
  ·rcases aR.1 g with g | g
   ·grind
   ·exact .inr (u.own b g)
 ·refine Y.weaken λb q g=>⟨rfl,?_⟩
  grind
end
end Go.CT
namespace Go.CT
open EM
def child (b:Bool):Code->Option Code
 | .seq x y=>some (if b then y else x)
 | .cond _ x y=>some (if b then y else x)
 | .block _ c=>some c
 | .loop c=>some c
 | .scope c=>some c
 | _=>none
def Oo (root:Code):List Bool->Option Code
 | []=>some root
 | b::p=>(Oo root p).bind (child b)
inductive PI where
 | code (p:List Bool) (c:Code)
 | inBlock (id:Nat)
 | inLoop (p:List Bool) (body:Code)
 | inScope (p:List Bool) (body:Code)
 deriving Inhabited
def PI.item:PI->Item
 | .code _ c=> .code c
 | .inBlock id=> .inBlock id
 | .inLoop _ c=> .inLoop c
 | .inScope _ c=> .inScope c
abbrev Key:=Nat × Nat × List Bool
def PI.key:PI->Key
 | .code p _=>(0,0,p)
 | .inBlock id=>(1,id,[])
 | .inLoop p _=>(2,0,p)
 | .inScope p _=>(3,0,p)
def PI.ok (root:Code):PI->Prop
 | .code p c=>Oo root p=some c
 | .inBlock _=>True
 | .inLoop p c=>Oo root p=some c
 | .inScope p c=>Oo root p=some c
def Aun (root:Code):Key->Option PI
 | (0,_,p)=>(Oo root p).map (.code p)
 | (1,id,_)=>some (.inBlock id)
 | (2,_,p)=>(Oo root p).map (.inLoop p)
 | (3,_,p)=>(Oo root p).map (.inScope p)
 | _=>none
def Ta (root:Code):List Key->Option (List PI)
 | []=>some []
 | k::ks=>
  match Aun root k with
  | none=>none
  | some i=>
   match Ta root ks with
   | none=>none
   | some is=>some (i::is)
def V4 (id:Nat):List PI->Option (List PI)
 | .inBlock id'::k=>if id' == id then some k else V4 id k
 | _::k=>V4 id k
 | []=>none
structure Blk where
 key:List Key
 st:St
 deriving Inhabited
def Ul (key:List Key):List Blk->Nat->Option (Nat × Blk)
 | [],_=>none
 | b::bs,i=>if key == b.key then some (i,b) else Ul key bs (i+1)
def Ab9:List PLt->PT->PT
 | [],p=>p
 | l::ls,p=> .lets l.l (Ab9 ls p)
def chain:Nat->List PLt->Option Nat
 | n,[]=>some n
 | n,l::ls=>if l.n == n then chain (n+l.l.l.arity) ls else none
def Ahr {α:Type}(st:St)(m:EM α):Option (α × List PLt):=
 match (m {n:=st.n,m:=st.m,gs:= [],obs:= []}).run st.view with
 | some ((x,_),lets,_,_)=>if(chain st.n lets).isSome then some (x,lets) else none
 | none=>none
section
variable (P:Program)(specs:List (Nat × Spec))(N:Nat)(F:FnC)(bs:List Blk)
def Ao3 (c:Operand):EM Arg:=do
 match <-rd1 P c (Azl P) with
 | .leaf (.at x t)=>do
  cR (isBool P t)
  pure x
 | _=>fail
def Aev (st:St):Option PT:=
 match Ahr st (A6v P F) with
 | some (as,ls)=>some (Ab9 ls (.ret as))
 | none=>none
def A1j (o:Oper):Bool:=match o.op with | .panic _=>true | _=>false
def stuck:PT:= .lets ⟨[],.Cb .Ak7 [.k (.bool false)]⟩ (.ret [])
theorem As5 {R:Job->List IV->Option (List IV)}{i:Nat}{ρ:List IV} :stuck.den R i ρ=none:=by
 simp[stuck,cJ,dB,holds,dK,aQ,dC,aE]
def comp:Nat->Bool->List PI->St->Option PT
 | 0,_,_,_=>none
 | k+1,first,todo,st=>
  match (if first then none else Ul (todo.map PI.key) bs 1) with
  | some (i,b)=>
   match Ahr st (uSt P F.bks b.st) with
   | some (as,ls)=>some (Ab9 ls (.jump i as))
   | none=>none
  | none=>
   match todo with
   | []=>Aev P F st
   | .inBlock _::r=>comp k false r st
   | .inScope _ _::r=>comp k false r st
   | .inLoop p c::r=>comp k false (.code p c:: .inLoop p c::r) st
   | .code p c::r=>
    match c with
    | .ret =>Aev P F st
    | .skip =>comp k false r st
    | .label _=>comp k false r st
    | .seq a b=>comp k false (.code (false::p) a:: .code (true::p) b::r) st
    | .cond c a b=>
     match Ahr st (Ao3 P c) with
     | some (x,ls)=>
      match comp k false (.code (false::p) a::r) st with
      | none=>none
      | some pa=>
       match comp k false (.code (true::p) b::r) st with
       | none=>none
       | some pb=>if ls.isEmpty then some (.ite x pa pb) else none
     | none=>none
    | .block id c=>comp k false (.code (false::p) c:: .inBlock id::r) st
    | .loop c=>comp k false (.code (false::p) c:: .inLoop (false::p) c::r) st
    | .scope c=>comp k false (.code (false::p) c:: .inScope (false::p) c::r) st
    | .exit id=>
     match V4 id r with
     | some d=>comp k false d st
     | none=>none
    | .region _ ops draw=>
     match Ww P specs N ops draw st with
     | none=>if ops.any A1j then some stuck else none
     | some (ls,st')=>
      if chain st.n ls == some st'.n then
       match comp k false r st' with
       | some q=>some (Ab9 ls q)
       | none=>none
      else none
    | _=>none
end
theorem Abs {root:Code} : ∀ {xs ys:List PI},(∀x∈xs,x.ok root)->(∀y∈ys,y.ok root)->xs.map PI.key=ys.map PI.key->xs.map PI.item=ys.map PI.item
 | [],[],_,_,_=>rfl
 | [],_::_,_,_,h=>by simp at h
 | _::_,[],_,_,h=>by simp at h
 | x::xs,y::ys,b,c,h=>by
  simp only[bK,cV]at h ⊢
  refine⟨?_,Abs (λz a=>b z (aV _ a)) (λz a=>c z (aV _ a)) h.2⟩
  have d:=b x cL
  have e:=c y cL
  have g:=h.1
  cases x<;>cases y<;>simp_all[PI.key,PI.ok,PI.item]
theorem Aj5 {root:Code} : ∀ {ks:List Key} {todo:List PI},Ta root ks=some todo->(∀x∈todo,x.ok root)/\todo.map PI.key=ks.map λk=>if k.1=1 then(1,k.2.1,[]) else(k.1,0,k.2.2)
 | [],todo,h=>by simp[Ta]at h;subst h;simp
 | k::ks,todo,h=>by
  unfold Ta at h
  cases a:Aun root k with
  | none=>simp[a]at h
  | some i=>
   cases d:Ta root ks with
   | none=>simp[a,d]at h
   | some is=>
    simp only[a,d,aB]at h
    subst h
    obtain⟨g,j⟩:=Aj5 d
    have:i.ok root/\i.key=if k.1=1 then(1,k.2.1,[]) else(k.1,0,k.2.2):=by
     obtain⟨kind,id,p⟩:=k
     unfold Aun at a
     split at a<;>simp_all
     ·rename_i heq
      obtain⟨c,b,rfl⟩:=a
      obtain⟨rfl,rfl,rfl⟩:=heq
      exact⟨b,rfl⟩
     ·rename_i heq
      obtain⟨rfl,rfl,rfl⟩:=heq
      subst a
      exact⟨trivial,rfl⟩
     ·rename_i heq
      obtain⟨c,b,rfl⟩:=a
      obtain⟨rfl,rfl,rfl⟩:=heq
      exact⟨b,rfl⟩
     ·rename_i heq
      obtain⟨c,b,rfl⟩:=a
      obtain⟨rfl,rfl,rfl⟩:=heq
      exact⟨b,rfl⟩
    refine⟨λx e=>?_,by simp only[bK,j,this.2]⟩
    rcases aI.1 e with rfl | e
    ·exact this.1
    ·exact g x e
theorem Abw {key:List Key} : ∀ {bs:List Blk} {j i:Nat} {b:Blk},Ul key bs j=some (i,b)-> ∃n,i=j+n/\bs[n]?=some b/\key=b.key
 | [],_,_,_,h=>by simp[Ul]at h
 | b0::bs,j,i,b,h=>by
  unfold Ul at h
  split at h
  ·rename_i a
   simp only[aB,aN]at h
   obtain⟨rfl,rfl⟩:=h
   exact⟨0,rfl,rfl,by simpa using a⟩
  ·obtain⟨n,e,c,d⟩:=Abw h
   exact⟨n+1,by omega,by simpa using c,d⟩
section
variable {R:Job->List IV->Option (List IV)}{ρ:List IV}
def A4d (ρ ρ':List IV):Prop:= ∀ (n:Nat) (y:IV),ρ[n]?=some y->ρ'[n]?=some y
theorem Aad {ρ ρ':List IV}(h:A4d ρ ρ'): ∀ {as:List Arg} {vs:List IV},aQ ρ as=some vs->aQ ρ' as=some vs
 | [],vs,a=>a
 | x::as,vs,a=>by
  unfold aQ at a
  cases b:x.ev ρ with
  | none=>simp[b]at a
  | some v=>
   cases c:aQ ρ as with
   | none=>simp[b,c]at a
   | some r=>
    simp[b,c]at a
    subst a
    exact Gx (Arg.Gm h b) (Aad h c)
theorem Aqu {ρ ρ':List IV}(h:A4d ρ ρ'){g:Mm}{xs:List IV}(a:g.ev R ρ=some xs):g.ev R ρ'=some xs:=by
 unfold dB at a ⊢
 cases d:holds ρ g.gs with
 | none=>simp[d]at a
 | some b=>
  rw[Rp h d]
  simp only[d,aA]at a ⊢
  cases b with
  | false=>simpa using a
  | true=>
   simp only[Zt]at a ⊢
   unfold dK at a ⊢
   cases e:g.l with
   | Cb p as=>
    simp only[e]at a ⊢
    cases c:aQ ρ as with
    | none=>simp[c]at a
    | some vs=>rw[Aad h c];simpa [c]using a
   | call s as n=>
    simp only[e]at a ⊢
    cases c:aQ ρ as with
    | none=>simp[c]at a
    | some vs=>rw[Aad h c];simpa [c]using a
theorem Azo {g:Mm}{xs:List IV}(a:g.ev R ρ=some xs):xs.length=g.l.arity:=by
 unfold dB at a
 cases d:holds ρ g.gs with
 | none=>simp[d]at a
 | some b=>
  simp only[d,aA]at a
  cases b with
  | false=>simp at a;subst a;simp
  | true=>
   simp only[Zt]at a
   unfold dK at a
   cases e:g.l with
   | Cb p as=>
    simp only[e]at a
    rw[aH]at a
    obtain⟨y,_,rfl⟩:=a
    rfl
   | call s as n=>
    simp only[e]at a
    rw[aC]at a
    obtain⟨rs,_,c⟩:=a
    split at c
    ·rename_i hlen;injection c with c;subst c;exact hlen
    ·cases c
theorem Wx {s:Nat}{p:PT}{r:List IV} : ∀ {ls:List PLt} {ρ:List IV} {n:Nat},(Ab9 ls p).den R s ρ=some r->chain ρ.length ls=some n-> ∃ρ',p.den R s ρ'=some r/\A4d ρ ρ'/\LH R ρ' ls/\ρ'.length=n
 | [],ρ,n,h,a=>by
  simp only[chain,aB]at a
  exact⟨ρ,h,λ_ _ h=>h,(λl o=>by cases o),a⟩
 | l::ls,ρ,n,h,a=>by
  unfold Ab9 at h
  unfold cJ at h
  rw[aC]at h
  obtain⟨xs,g,q⟩:=h
  have hlen:=Azo g
  unfold chain at a
  rw[aM]at a
  obtain⟨e,a⟩:=a
  have e:l.n=ρ.length:=by simpa using e
  obtain⟨ρ',t,j,u,w⟩:=Wx (ρ:=ρ++xs) q (by rw[aL,hlen];exact a)
  have x:A4d ρ (ρ++xs):=λi y c=>by rw[bB (bI.1 c).1];exact c
  have e1:A4d ρ ρ':=λi y c=>j i y (x i y c)
  refine⟨ρ',t,e1,λm b=>?_,w⟩
  rcases aI.1 b with rfl | b
  ·refine⟨xs,Aqu e1 g,λi c=>?_⟩
   have d:i<xs.length:=by rw[hlen];exact c
   have:(ρ++xs)[m.n+i]?=some xs[i]:=by
    rw[e,aW (by omega),Nat.add_sub_cancel_left]
    exact aX d
   rw[j _ _ this,aX d]
  ·exact u m b
end
end Go.CT
namespace Go.CT
open EM
section
variable {P:Program}{N:Nat}{X:Nat->Prop}{R:Job->List IV->Option (List IV)}{ρ:List IV}{μ:Nat->Value}{a:Act}{w:World}{specs:List (Nat × Spec)}{F:FnC}{bs:List Blk}{root:Code}{sidx:Nat}{s:Spec}
 {args bvs:List Value} {L0:List Nat} {w0:World} {hdv:Nat->Value}
theorem Ad9 {α:Type}{st:St}{m:EM α}{x:α}{ls:List PLt}(h:Ahr st m=some (x,ls)):(∃es',Ev st.view m {n:=st.n,m:=st.m,gs:= [],obs:= []} x es' ls)/\ ∃n,chain st.n ls=some n:=by
 unfold Ahr at h
 cases a:(m {n:=st.n,m:=st.m,gs:= [],obs:= []}).run st.view with
 | none=>grind
 | some q=>
  obtain⟨⟨y,es⟩,lets,sl,ks⟩:=q
  simp only[a]at h
  rw[aM]at h
  obtain⟨b,h⟩:=h
  injection h with h
  simp only[aN]at h
  obtain⟨rfl,rfl⟩:=h
  exact⟨⟨es,sl,ks,a⟩,bP.1 b⟩
theorem Rel.Aup {O:Nat->Prop}{t:TypeId}{b:Bool}{v:Value}(h:Rel P w O t (.bool b) v):v= .bool b:=by
 cases h;rfl
theorem Aw1 {K:Nat->Prop}{S:View}{es es':ES}{c:Operand}{x:Arg}{ls:List PLt}(G:Good P N X ρ K S.tm (cur S es.obs) μ a w)(h:Ev S (Ao3 P c) es x es' ls)(b:holds ρ es.gs=some true):
  ∃t iv,x.ev ρ=some iv/\Rel P w (Bs P X ρ (cur S es.obs) μ w).O t iv (a.eval c):=by
 unfold Ao3 at h
 rw[Ab]at h
 obtain⟨vv,e1,g,_,d,h,rfl⟩:=h
 obtain⟨rfl,rfl,e,i⟩:=G9 G d b
 split at h
 ·simp only[Ab,Af,Ad]at h
  obtain⟨_,_,_,_,⟨j,rfl,rfl⟩,⟨rfl,rfl,rfl⟩,rfl⟩:=h
  obtain⟨iv,r1,r2⟩:=e
  exact⟨_,iv,r1,r2⟩
 ·simp[Ac]at h
def Ends (P:Program)(F:FnC)(X:Nat->Prop)(s:Spec)(args:List Value)(L0:List Nat)(w0:World)(todo:List PI)(a:Act)(w:World)(rs:List IV):Prop:=
 ∀ (b:Frame) (cs:List Frame),∃c w' todo' v,Steps P (lone (b.at a (todo.map PI.item)) cs w) (lone {b.at c todo' with mode:= .returning} cs w')/\c.defers= []/\
  (F.vars.mapM (Qd c.tmps)).run P w'= .ok v w'/\Z3 P X s args L0 rs w0 (packed v) w'
theorem Ends.step {todo todo':List PI}{rs:List IV}(h: ∀ (b:Frame) (cs:List Frame),step P (lone (b.at a (todo.map PI.item)) cs w)= .next (lone (b.at a (todo'.map PI.item)) cs w))(c:Ends P F X s args L0 w0 todo' a w rs):Ends P F X s args L0 w0 todo a w rs:=by
 intro b cs
 obtain⟨d,w',e,v,g,i⟩:=c b cs
 exact⟨d,w',e,v,.head (h b cs) g,i⟩
abbrev CS (P:Program)(N:Nat)(X:Nat->Prop)(ρ:List IV)(F:FnC)(L0:List Nat)(w0:World)(hdv:Nat->Value)(st:St)(μ:Nat->Value)(a:Act)(w:World):Prop:=
 FS P N X ρ (· <st.m) st.view.tm st.view.ob μ a w (· ∈L0) w0 (· ∈F.bks) hdv
theorem FS.later {K:Nat->Prop}{tm:Nat->SV}{ob:Nat->Option Ob}{W0 H:Nat->Prop}{hd:Nat->Value}{ρ':List IV}(h:FS P N X ρ K tm ob μ a w W0 w0 H hd)(e:A4d ρ ρ'):FS P N X ρ' K tm ob μ a w W0 w0 H hd:=by
 have L:Ek K (Bs P X ρ ob μ w) (Bs P X ρ' ob μ w):=
  {P:=rfl,ρ:=e,μ:=λ_ _=>rfl,stays:=Mb.refl _ _,O:=λ_ _ h=>h,W:=λ_ _ h=>h,WO:=λb d=> .inr d}
 have G:=h.C8
 exact⟨⟨G.size,G.defers,λs=>L.Awj (G.kt s) (G.slot s),λk o c=>L.Akc (G.ko k o c).1 (G.ko k o c).2 (λ_ _ _ _=>rfl) (G.obj k o c),G.sep,G.xsep,G.xlt,G.kt,G.ko⟩,h.step,h.own,h.hdr⟩
theorem Aat {id:Nat} : ∀ {r a:List PI},V4 id r=some a->exitTo id (r.map PI.item)=some (a.map PI.item)/\ ∀x∈a,x∈r
 | [],a,h=>by simp[V4]at h
 | x::k,a,h=>by
  have skip:V4 id k=some a->(∀id',x≠ .inBlock id')->exitTo id ((x::k).map PI.item)=some (a.map PI.item)/\ ∀y∈a,y∈x::k:=by
   intro h i
   obtain⟨e,g⟩:=Aat h
   refine⟨?_,λy b=>aV _ (g y b)⟩
   cases x with
   | inBlock id'=>grind
   | _=>simpa [PI.item,exitTo]using e
  cases x with
  | inBlock id'=>
   unfold V4 at h
   by_cases d:(id' == id)=true
   ·rw[if_pos d]at h
    injection h with h;subst h
    exact⟨by simp only[bK,PI.item,exitTo,d,Zt],λy b=>aV _ b⟩
   ·rw[if_neg d]at h
    obtain⟨e,g⟩:=Aat h
    exact⟨by simp only[bK,PI.item,exitTo,d];exact e,λy b=>aV _ (g y b)⟩
  | code p c=>exact skip h (λ_ h=>by cases h)
  | inLoop p c=>exact skip h (λ_ h=>by cases h)
  | inScope p c=>exact skip h (λ_ h=>by cases h)
def A0b (P:Program)(N:Nat)(X:Nat->Prop)(R:Job->List IV->Option (List IV))(F:FnC)(bs:List Blk)(root:Code)(sidx:Nat)(s:Spec)(args:List Value)(L0:List Nat)(w0:World)(hdv:Nat->Value):Prop:=
 ∀ (i:Nat) (blk:Blk),bs[i]?=some blk-> ∀ (todo:List PI),(∀x∈todo,x.ok root)->todo.map PI.key=blk.key-> ∀ (vs rs:List IV) (a:Act) (w:World) (μ:Nat->Value),R ⟨sidx,i+1⟩ vs=some rs->vs.length=blk.st.n->
  CS P N X vs F L0 w0 hdv blk.st μ a w->Ends P F X s args L0 w0 todo a w rs
theorem Acw {st:St}{pt:PT}{rs:List IV}{todo:List PI}(o:F.rs=s.results)(c:Aq7 F s.params args bvs hdv)(h:Aev P F st=some pt)(hρ:ρ.length=st.n)(C:CS P N X ρ F L0 w0 hdv st μ a w)(hd:pt.den R sidx ρ=some rs)
  (d: ∀ (b:Frame) (cs:List Frame),step P (lone (b.at a (todo.map PI.item)) cs w)= .next (lone {b.at a (todo.map PI.item) with mode:= .returning} cs w)):Ends P F X s args L0 w0 todo a w rs:=by
 unfold Aev at h
 cases g:Ahr st (A6v P F) with
 | none=>grind
 | some q=>
  obtain⟨as,ls⟩:=q
  simp only[g,aB]at h
  subst h
  obtain⟨⟨es',r⟩,n,t⟩:=Ad9 g
  obtain⟨ρ',u,x,y,B⟩:=Wx hd (by rw[hρ];exact t)
  have C':=C.later x
  have e:Aq7 F s.params args bvs μ:=⟨c.bps,c.sel,c.len,λi k v j z=>(C'.hdr k (bO j)).2.trans (c.hdr i k v j z),c.shape⟩
  obtain⟨v,r1,r2⟩:=A1w (S:=st.view) (es:= {n:=st.n,m:=st.m,gs:= [],obs:= []}) o e (λk A=>(C'.hdr k A).1) (by show FS P N X ρ' _ st.view.tm (cur st.view []) μ a w _ w0 _ _;rw[Nn];exact C') r y u
  intro b cs
  exact⟨a,w,_,v,.one (d b cs),C.C8.defers,r1,r2⟩
theorem Alu (hm:P.follows .mixedOrders =true)(hS:Sound P specs R)(hF:F.rs=s.results)(hB:Aq7 F s.params args bvs hdv)(hblk:A0b P N X R F bs root sidx s args L0 w0 hdv):
  ∀ (k:Nat) (first:Bool) (todo:List PI) (st:St) (pt:PT) (ρ:List IV) (rs:List IV) (a:Act) (w:World) (μ:Nat->Value),comp P specs N F bs k first todo st=some pt->(∀x∈todo,x.ok root)->ρ.length=st.n->CS P N X ρ F L0 w0 hdv st μ a w->pt.den R sidx ρ=some rs->
   Ends P F X s args L0 w0 todo a w rs:=by
 intro k
 induction k with
 | zero=>intro first todo st pt ρ rs a w μ h;simp[comp]at h
 | succ k g=>
  intro first todo st pt ρ rs a w μ h T hρ C hd
  unfold comp at h
  split at h
  ·-- a jump
   rename_i i b G
   have G:Ul (todo.map PI.key) bs 1=some (i,b):=by
    grind
   obtain⟨n,rfl,u,H⟩:=Abw G
   cases o:Ahr st (uSt P F.bks b.st) with
   | none=>grind
   | some q=>
    obtain⟨as,ls⟩:=q
    simp only[o,aB]at h
    subst h
    obtain⟨⟨es',A⟩,n',I⟩:=Ad9 o
    obtain⟨ρ',J,U,Y,q4⟩:=Wx hd (by rw[hρ];exact I)
    have C':=C.later U
    unfold cJ at J
    rw[aC]at J
    obtain⟨vs,q5,q6⟩:=J
    obtain⟨μ',r1,r2,r3⟩:=A50 (S:=st.view) (es:= {n:=st.n,m:=st.m,gs:= [],obs:= []}) (by show Good P N X ρ' _ st.view.tm (cur st.view []) μ a w;rw[Nn];exact C'.C8) A Y rfl (λk B Z=>Nat.not_lt.2 B Z) q5
    have hlen:vs.length=b.st.n:=by
     have:=(Akx q5).1
     rw[this]
     unfold uSt at A
     simp only[Ab,Af,Ar]at A
     obtain⟨_,_,_,_,_,⟨_,_,_,_,_,⟨_,_,_,_,_,⟨_,_,_,_,_,⟨_,_,_,_,_,⟨_,_,_,_,_,⟨h4,_⟩,_⟩,_⟩,_⟩,_⟩,_⟩,_⟩:=A
     exact(Yq h4).1
    refine hblk n b u todo T H vs rs a w μ' (by grind) hlen ⟨r1,C'.step,λb u=>C'.own b (by have:=r2 b u;rwa [show cur st.view ([]:List (Nat × Option Ob))=st.view.ob from Nn _]at this),λk B=>⟨(r3 k B).1,((r3 k B).2 (C'.hdr k B).1).trans (C'.hdr k B).2⟩⟩
  ·-- a step
   have o: ∀ {x:PI} {r:List PI},todo=x::r->x.ok root/\ ∀y∈r,y.ok root:=λe=>by grind
   have cons: ∀ {x:PI} {r:List PI},x.ok root->(∀y∈r,y.ok root)-> ∀y∈x::r,y.ok root:=λK o y hy=>by
    grind
   split at h
   ·exact Acw hF hB h hρ C hd λb cs=>step_end
   ·rename_i id r
    exact .step (λb cs=>step_inBlock) (g _ _ _ _ _ _ _ _ _ h (o rfl).2 hρ C hd)
   ·rename_i p c r
    exact .step (λb cs=>step_inScope) (g _ _ _ _ _ _ _ _ _ h (o rfl).2 hρ C hd)
   ·rename_i p c r
    exact .step (λb cs=>step_inLoop) (g _ _ _ _ _ _ _ _ _ h (cons (o rfl).1 (cons (o rfl).1 (o rfl).2)) hρ C hd)
   ·rename_i p c r _
    obtain⟨I,d⟩:=o rfl
    have I:Oo root p=some c:=I
    have ch: ∀ (b:Bool) (c':Code),child b c=some c'->Oo root (b::p)=some c':=λb c' h=>by simp[Oo,I,h]
    split at h
    ·exact Acw hF hB h hρ C hd λb cs=>step_ret
    ·exact .step (λb cs=>step_skip) (g _ _ _ _ _ _ _ _ _ h d hρ C hd)
    ·exact .step (λb cs=>step_label) (g _ _ _ _ _ _ _ _ _ h d hρ C hd)
    ·exact .step (λb cs=>step_seq) (g _ _ _ _ _ _ _ _ _ h (cons (ch _ _ rfl) (cons (ch _ _ rfl) d)) hρ C hd)
    ·rename_i c0 x y _ _
     cases j:Ahr st (Ao3 P c0) with
     | none=>grind
     | some q=>
      obtain⟨z,ls⟩:=q
      simp only[j]at h
      cases ha:comp P specs N F bs k false (.code (false::p) x::r) st with
      | none=>grind
      | some pa=>
       cases u:comp P specs N F bs k false (.code (true::p) y::r) st with
       | none=>grind
       | some pb=>
        simp only[ha,u]at h
        rw[aM]at h
        obtain⟨hle,h⟩:=h
        injection h with h
        subst h
        have hle:ls= []:=by grind
        subst hle
        obtain⟨⟨es',A⟩,_⟩:=Ad9 j
        obtain⟨t0,iv,z1,z2⟩:=Aw1 (S:=st.view) (es:= {n:=st.n,m:=st.m,gs:= [],obs:= []}) (by show Good P N X ρ _ st.view.tm (cur st.view []) μ a w;rw[Nn];exact C.C8) A rfl
        unfold cJ at hd
        rw[z1]at hd
        split at hd
        ·rename_i heq
         injection heq with heq;subst heq
         have hv:a.eval c0= .bool true:=z2.Aup
         exact .step (λb cs=>step_cond (t:=true) hv) (g _ _ _ _ _ _ _ _ _ ha (cons (ch _ _ rfl) d) hρ C hd)
        ·rename_i heq
         injection heq with heq;subst heq
         have hv:a.eval c0= .bool false:=z2.Aup
         exact .step (λb cs=>step_cond (t:=false) hv) (g _ _ _ _ _ _ _ _ _ u (cons (ch _ _ rfl) d) hρ C hd)
        ·cases hd
    ·exact .step (λb cs=>step_block) (g _ _ _ _ _ _ _ _ _ h (cons (ch _ _ rfl) (cons (x:= .inBlock _) trivial d)) hρ C hd)
    ·exact .step (λb cs=>step_loop) (g _ _ _ _ _ _ _ _ _ h (cons (ch _ _ rfl) (cons (x:= .inLoop _ _) (ch _ _ rfl) d)) hρ C hd)
    ·exact .step (λb cs=>step_scope) (g _ _ _ _ _ _ _ _ _ h (cons (ch _ _ rfl) (cons (x:= .inScope _ _) (ch _ _ rfl) d)) hρ C hd)
    ·rename_i id _ _
     cases K:V4 id r with
     | none=>grind
     | some r'=>
      simp only[K]at h
      obtain⟨e1,e2⟩:=Aat K
      exact .step (λb cs=>step_exit e1) (g _ _ _ _ _ _ _ _ _ h (λx K=>d x (e2 x K)) hρ C hd)
    ·rename_i id ops draw _ _
     cases j:Ww P specs N ops draw st with
     | none=>
      simp only[j]at h
      split at h
      ·injection h with h
       subst h
       rw[As5]at hd
       cases hd
      ·cases h
     | some q=>
      obtain⟨ls,st'⟩:=q
      simp only[j]at h
      rw[aM]at h
      obtain⟨aa,h⟩:=h
      cases hq:comp P specs N F bs k false r st' with
      | none=>grind
      | some pt'=>
       simp only[hq,aB]at h
       subst h
       obtain⟨ρ',J,U,Y,q4⟩:=Wx hd (by rw[hρ];exact eq_of_beq aa)
       have C':=C.later U
       have L:=Axk (id:=id) (Q:=λe a' w'=>e= .normal /\ ∃μ',CS P N X ρ' F L0 w0 hdv st' μ' a' w') hm hS j Y C' λa' w' μ' F'=>⟨rfl,μ',F'⟩
       intro b cs
       obtain⟨e,a',w',⟨he,μ',F'⟩,M⟩:=L b (r.map PI.item) cs
       subst he
       obtain⟨a2,w2,t2,v,s1,s2⟩:=g _ _ _ _ _ _ _ _ _ hq d q4 F' J b cs
       exact⟨a2,w2,t2,v,Steps.trans M s1,s2⟩
    ·cases h
end
end Go.CT
namespace Go.CT
open EM
def Ac1:Nat->List TypeId->List PV
 | _,[]=> []
 | n,t::ts=> .im (.v n) t 0::Ac1 (n+1) ts
def PS.arity:PS->Nat
 | .data _=>1
 | .arr _=>1
 | .own _=>1
 | .box _ o=>o.length
 | .fn _ ts=>ts.length
 | .rd _=>1
 | .bld _ _=>1
 | .fnb _ _=>0
section
variable (P:Program)
def Wz (t:TypeId)(n:Nat):EM Nat:=do
 let e <-ofOption (Dl P t)
 let k <-Hn
 Gr k (some (.arr e t (.v n)))
 pure k
def Ad5 (p:PS)(n:Nat):EM (VV × List Nat):=
 match p with
 | .data t=>pure (.leaf (.at (.v n) t),[])
 | .arr t=>do
  let k <-Wz P t n
  pure (.leaf (.ref k t),[k])
 | .own t=>do
  let k <-Wz P t n
  pure (.leaf (.ref k t),[])
 | .box t bs=>do
  let ts <-ofOption (leaves P t)
  let cs <-Dy P bs ts n
  let v <-Axn P t cs
  let k <-Hn
  Gr k (some (.box t v))
  pure (.leaf (.ptr (.p k 0)),[k])
 | .fn f ts=>pure (.leaf (.fn f (Ac1 n ts)),[])
 | .rd t=>pure (.leaf (.ptr (.im (.v n) t 0)),[])
 | .fnb _ _=>pure (.leaf .junk,[])
 | .bld t back=>do
  let se <-ofOption (A0y P t)
  let a <-Hn
  Gr a (some (.arr se.2 se.1 (.v n)))
  let k <-Hn
  Gr k (some (.box t (.agg t [.hid k,.ref a se.1])))
  pure (.leaf (.ptr (.p k 0)),if back then[k]else[])
def Lc:List PS->Nat->EM (List VV × List Nat)
 | [],_=>pure ([],[])
 | p::b,n=>do
  let a <-Ad5 P p n
  let r <-Lc b (n+p.arity)
  pure (a.1::r.1,a.2++r.2)
def slotsOf:List VV->Nat->List (Nat × SV)
 | [],_=> []
 | v::vs,i=>(i,⟨[],.one v⟩)::slotsOf vs (i+1)
def Jt:View:=⟨λ_=>nothing,λ_=>none⟩
def A3y:VV->Option PV
 | .leaf (.ptr p)=>some p
 | _=>none
def Yz:List VV->Option (List PV)
 | []=>some []
 | v::vs=>
  match A3y v with
  | some p=>(Yz vs).map (p:: ·)
  | none=>none
def K4:Nat->List PS->List VV->Option (List VV)
 | n+1,_::a,_::vs=>K4 n a vs
 | _+1,[],_=>none
 | _+1,_::_,[]=>none
 | 0,[],[]=>some []
 | 0,[],_::_=>none
 | 0,_::_,[]=>none
 | 0,p::a,v::vs=>
  match Aej p with
  | none=>(K4 0 a vs).map (v:: ·)
  | some fn=>
   match Yz (vs.take fn.2) with
   | some caps=>(K4 fn.2 a vs).map (.leaf (.fn fn.1 caps):: ·)
   | none=>none
def Yh (a:List PS):Option (St × List Nat):=
 match (Lc P a 0 {n:=Axo (a.map PS.arity),m:=0,gs:= [],obs:= []}).run Jt with
 | some ((r,es),_,_,_)=>
  match K4 0 a r.1 with
  | some vvs=>some ({n:=Axo (a.map PS.arity),m:=es.m,tm:=slotsOf vvs 0,ob:=X9 es.obs []},r.2)
  | none=>none
 | none=>none
end
section
variable {P:Program}{w:World}{a:Act}{S:View}{es es':ES}{ls:List PLt}{c:Cx}{K Rm:Nat->Prop}
theorem Ie.Af7 {Lt:Nat->Prop}(a: ∀b,c.W b->Lt b): ∀ {ts:List TypeId} {xs:List IV} {vs:List Value} {n:Nat},Ie c.P c.w c.O Lt ts xs vs->(∀i,i<xs.length->c.ρ[n+i]?=xs[i]?)->Oz c (Ac1 n ts) vs/\xs.length=ts.length
 | [],[],[],n,_,_=>⟨trivial,rfl⟩
 | t::ts,x::xs,v::vs,n,h,hρ=>by
  obtain⟨⟨ad,u,rfl,d,e,g,j⟩,m⟩:=h
  have o:c.ρ[n]?=some x:=by simpa using hρ 0 (by simp)
  obtain⟨q,r⟩:=Ie.Af7 a (n:=n+1) m (λi z=>by
   have:=hρ (i+1) (by grind)
   grind)
  exact⟨⟨⟨ad,u,⟨x,o,j⟩,d,e,λy=>g (a _ y),by rw[Bg]⟩,q⟩,by simp[r]⟩
 | [],[],_::_,_,h,_=>h.elim
 | [],_::_,_,_,h,_=>h.elim
 | _::_,[],_,_,h,_=>h.elim
 | _::_,_::_,[],_,h,_=>h.elim
theorem Xu: ∀ (ts:List TypeId) (n:Nat),(Ac1 n ts).flatMap Eg= []
 | [],_=>rfl
 | _::ts,n=>by simp[Ac1,Eg,Xu ts (n+1)]
def Ent (c:Cx)(K:Nat->Prop)(S:View)(a:Act)(Rm:Nat->Prop)(L:List Nat)(es es':ES)(f:(Nat->Value)->Prop):Prop:=
 es'.gs=es.gs/\es.m<=es'.m/\ ∃μ',(∀k,K k->μ' k=c.μ k)/\Reg (c.at μ') (Ax K es.m es'.m) S.tm (cur S es'.obs) a (λb=>Rm b/\b∉L)/\f μ'
theorem Z0 {e t:TypeId}{ys:List IV}{v:Value}{n k:Nat}(h:Ev S (Wz c.P t n) es k es' ls)(o:c.P.underlying t=some (.slice e))(q:Hw c.P c.w c.O e ys v)(F: ∀b∈(blk v).toList,Rm b/\c.W b)(G:Reg c K S.tm (cur S es.obs) a Rm)
  (r:c.ρ[n]?=some (.list ys)) (g: ∀k,es.m<=k-> ¬ K k):Ent c K S a Rm (blk v).toList es es' λμ'=>μ' k=v/\Ax K es.m es'.m k/\ ∃A n cap,v= .slice A n cap:=by
 simp only[Wz,Ab,Ar,C0,Bp,Ad]at h
 obtain⟨d,_,_,_,⟨u,rfl,rfl⟩,⟨_,_,_,_,⟨rfl,rfl,rfl⟩,⟨_,_,_,_,⟨rfl,rfl⟩,⟨rfl,rfl,rfl⟩,rfl⟩,rfl⟩,rfl⟩:=h
 have:d=e:=by
  have:=Bo u
  grind
 subst this
 obtain⟨x,cs,i,y,z⟩:=q
 have j: ¬ K es.m:=g es.m (aJ _)
 refine⟨rfl,cH _,D6 c.μ es.m v,λk B=>Dx λe=>j (e ▸ B),?_,Bl,.inr ⟨aJ _,cD _⟩,(Me i).2.2⟩
 show Reg _ _ S.tm (cur S ((es.m,some (.arr d t (.v n)))::es.obs)) a _
 rw[Bz]
 refine G.put (λh=>absurd h j) (λb H=>?_) (λb h=>h.1) (λC h=>h.elim .inl λh=> .inr (by grind)) ⟨ys,cs,r,o,x,?_,y,z⟩ (λC h=>by simp[He]at h)
 ·grind
 ·show c.w.ownsRow 0 d (Ag c.P d) (D6 c.μ es.m v es.m) ys.length cs
  rw[Bl];exact i
theorem Ak6 {Lt:Nat->Prop}(hW: ∀b,c.W b->Lt b){p:PS}{n:Nat}{r:VV × List Nat}{xs:List IV}{v:Value}{L:List Nat}(hg:es.gs= [])(h:Ev S (Ad5 c.P p n) es r es' ls)(J:ArgRel c.P c.w c.O Lt p xs v L)(Q:L.Nodup)(R: ∀b∈L,Rm b/\c.W b)
  (G:Reg c K S.tm (cur S es.obs) a Rm) (hρ: ∀i,i<xs.length->c.ρ[n+i]?=xs[i]?) (j: ∀k,es.m<=k-> ¬ K k):
  xs.length=p.arity/\Ent c K S a Rm L es es' λμ'=>Mq (c.at μ') r.1 v/\(∀k∈Ay r.1,Ax K es.m es'.m k)/\(p.Dp=false->r.2= [])/\(p.Dp=true-> ∃k,r.2= [k]/\μ' k=v/\Ax K es.m es'.m k/\Mz p v):=by
 have same: ∀ {vv:VV},es'=es->L= []->Mq c vv v->Ay vv= []->(p.Dp=false)->r=(vv,[])->Ent c K S a Rm L es es' λμ'=>Mq (c.at μ') r.1 v/\(∀k∈Ay r.1,Ax K es.m es'.m k)/\(p.Dp=false->r.2= [])/\(p.Dp=true-> ∃k,r.2= [k]/\μ' k=v/\Ax K es.m es'.m k/\Mz p v):=by
  rintro vv rfl rfl T H h3 rfl
  exact⟨rfl,aJ _,c.μ,λ_ _=>rfl,G.keys (λk h=> .inl h) (λb h=>h.1),T,(λk y=>by grind),λ_=>rfl,λh=>by grind⟩
 unfold Ad5 at h
 cases p with
 | data t=>
  obtain⟨x,rfl,rfl,hx⟩:=J
  rw[Ad]at h
  obtain⟨rfl,rfl,rfl⟩:=h
  have g:c.ρ[n]?=some x:=by simp_all
  exact⟨rfl,same (vv:= .leaf (.at (.v n) t)) rfl rfl ⟨x,g,hx⟩ rfl rfl rfl⟩
 | fnb f m=>
  obtain⟨rfl,rfl⟩:=J
  rw[Ad]at h
  obtain⟨rfl,rfl,rfl⟩:=h
  exact⟨rfl,same (vv:= .leaf .junk) rfl rfl trivial rfl rfl rfl⟩
 | fn f ts=>
  obtain⟨vs,rfl,rfl,hc⟩:=J
  rw[Ad]at h
  obtain⟨rfl,rfl,rfl⟩:=h
  obtain⟨U,X⟩:=Ie.Af7 hW hc hρ
  exact⟨X,same (vv:= .leaf (.fn f (Ac1 n ts))) rfl rfl ⟨vs,rfl,U⟩ (Xu ts n) rfl rfl⟩
 | rd t=>
  obtain⟨x,rfl,rfl,ad,u,rfl,H,h3,h4,h5⟩:=J
  rw[Ad]at h
  obtain⟨rfl,rfl,rfl⟩:=h
  have g:c.ρ[n]?=some x:=by simp_all
  exact⟨rfl,same (vv:= .leaf (.ptr (.im (.v n) t 0))) rfl rfl ⟨ad,u,⟨x,g,h5⟩,H,h3,λhw=>h4 (hW _ hw),by rw[Bg]⟩ rfl rfl rfl⟩
 | bld t bk=>
  obtain⟨b,c0,c1,N,st,e,rfl,r1,r2,r3,rfl,⟨r4,cs,r5,r6,r7⟩,rfl⟩:=J
  simp only[Ab,Ar,C0,Bp,Ad]at h
  obtain⟨se,_,_,_,⟨I,rfl,rfl⟩,⟨_,_,_,_,⟨rfl,rfl,rfl⟩,⟨_,_,_,_,⟨rfl,rfl⟩,⟨_,_,_,_,⟨rfl,rfl,rfl⟩,⟨_,_,_,_,⟨rfl,rfl⟩,⟨rfl,rfl,rfl⟩,rfl⟩,rfl⟩,rfl⟩,rfl⟩,rfl⟩:=h
  rw[r3]at I;injection I with I;subst I
  rw[dM]at Q
  have hx:c.ρ[n]?=some (.list N):=by simp_all
  obtain⟨f1,f2,f3,f4,f5⟩:=Adt r3
  have Y: ¬ K es.m:=j es.m (aJ _)
  have Z: ¬ K (es.m+1):=j (es.m+1) (cH _)
  have af: ∀d,K d->d≠es.m:=λd h e=>Y (by grind)
  have aa: ∀d,K d->d≠es.m+1:=λd h e=>Z (by grind)
  obtain⟨_,ai,A,nn,cap,rfl⟩:=Me r5
  have G1:Reg (c.at (D6 c.μ es.m (.slice A nn cap))) (Ax K es.m (es.m+1)) S.tm (cur S ((es.m,some (.arr e st (.v n)))::es.obs)) a (λo=>Rm o/\o∉(blk (.slice A nn cap)).toList):=by
   rw[Bz]
   refine G.put (λh=>absurd h Y) (λo M=>?_) (λb h=>h.1) (λd h=>h.elim .inl λh=> .inr (by omega)) ?_ (λd h=>by simp[He]at h)
   ·grind
   ·refine⟨N,cs,hx,f2,r4,?_,r6,r7⟩
    show c.w.ownsRow 0 e (Ag c.P e) (D6 c.μ es.m (.slice A nn cap) es.m) N.length cs
    rw[Bl];exact r5
  generalize hμ1:D6 c.μ es.m (.slice A nn cap)=μ1 at G1
  have hμm:μ1 es.m= .slice A nn cap:=by rw[<-hμ1,Bl]
  have ag:es.m≠es.m+1:=by omega
  have G2:Reg ((c.at μ1).at (D6 μ1 (es.m+1) (.pointer (some ⟨b,0,none⟩)))) (Ax K es.m (es.m+1+1)) S.tm (cur S ((es.m+1,some (.box t (.agg t [.hid (es.m+1),.ref es.m st])))::(es.m,some (.arr e st (.v n)))::es.obs)) a (λo=>(Rm o/\o∉(blk (.slice A nn cap)).toList)/\o≠b):=by
   rw[Bz]
   refine G1.put (λh=>absurd h λh=>h.elim Z λh=>by omega) (λo M=>?_) (λb h=>h.1) (λd h=>?_) ?_ (λd h=>?_)
   ·simp[blk]at M
    subst M
    have:=R b (by simp)
    exact⟨⟨this.1,Q.1⟩,this.2,λh=>h.2 rfl⟩
   ·rcases h with (h | h) | rfl
    ·exact .inl h
    ·exact .inr (by omega)
    ·exact .inr (by omega)
   ·refine⟨b,.agg #[c0,.slice A nn cap],by show D6 _ _ _ _=_;rw[Bl],r1,f4.symm,?_,?_,?_⟩
    ·show if Ak c.P t=true then _ else _
     grind
    ·intro u hu
     simp[Value.cells]at hu
     rcases hu with rfl | rfl
     ·rcases r2 with h | h<;>rw[h]<;>rfl
     ·rfl
    ·refine⟨_,rfl,⟨?_,r2.imp id λh=>⟨?_,_,h⟩⟩,⟨rfl,?_,_,_,_,rfl⟩,trivial⟩
     ·rcases r2 with h | h<;>rw[h]<;>rfl
     ·show c0=D6 μ1 (es.m+1) _ (es.m+1)
      rw[Bl];exact h
     ·show _=D6 μ1 (es.m+1) _ es.m
      rw[Dx ag];grind
   ·simp only[He,Ay,bN,Bf,List.flatMap_nil,aK,aR,bM]at h
    rcases h with rfl | rfl
    ·exact .inr (by omega)
    ·exact .inr (by omega)
  refine⟨rfl,rfl,cP (cH _),D6 μ1 (es.m+1) (.pointer (some ⟨b,0,none⟩)),λk y=>?_,G2.keys (λ_ h=>h) (λo h=>⟨⟨h.1,λh'=>h.2 (aV _ h')⟩,λh'=>h.2 (h' ▸ cL)⟩),⟨b,Bl,by rw[Bg]⟩,λk y=>?_,λh=>?_,λh=>⟨es.m+1,?_,Bl,.inr ⟨cH _,cD _⟩,b,rfl⟩⟩
  ·rw[Dx (aa k y),<-hμ1,Dx (af k y)]
  ·simp only[Ay,Bf,Eg,bM]at y
   subst y
   exact .inr ⟨cH _,cD _⟩
  ·have h:bk=false:=h
   subst h;rfl
  ·have h:bk=true:=h
   subst h;rfl
 | arr t=>
  obtain⟨e,ys,rfl,rfl,ht,B⟩:=J
  simp only[Ab]at h
  obtain⟨k,e1,l1,l2,T,H,rfl⟩:=h
  rw[Ad]at H
  obtain⟨rfl,rfl,rfl⟩:=H
  have g:c.ρ[n]?=some (.list ys):=by simp_all
  obtain⟨U,X,μ',q3,q4,q5,q6,q7⟩:=Z0 T ht B R G g j
  refine⟨rfl,U,X,μ',q3,q4,⟨q5.symm,q7⟩,λd C=>?_,(λh=>by cases h),λ_=>⟨k,rfl,q5,q6,q7⟩⟩
  simp only[Ay,Bf,bM]at C
  grind
 | own t=>
  obtain⟨e,ys,rfl,rfl,ht,B⟩:=J
  simp only[Ab]at h
  obtain⟨k,e1,l1,l2,T,H,rfl⟩:=h
  rw[Ad]at H
  obtain⟨rfl,rfl,rfl⟩:=H
  have g:c.ρ[n]?=some (.list ys):=by simp_all
  obtain⟨U,X,μ',q3,q4,q5,q6,q7⟩:=Z0 T ht B R G g j
  refine⟨rfl,U,X,μ',q3,q4,⟨q5.symm,q7⟩,λd C=>?_,(λ_=>rfl),λh=>by cases h⟩
  simp only[Ay,Bf,bM]at C
  grind
 | box t bs=>
  obtain⟨b,u,L',rfl,H,F,rfl⟩:=J
  simp only[Ab,Ar,C0,Bp,Ad]at h
  obtain⟨ts,_,_,_,⟨h3,rfl,rfl⟩,⟨cs,q,_,_,h4,⟨vv,e4,_,_,h5,⟨_,_,_,_,⟨rfl,rfl,rfl⟩,⟨_,_,_,_,⟨rfl,rfl⟩,⟨rfl,rfl,rfl⟩,rfl⟩,rfl⟩,rfl⟩,rfl⟩,rfl⟩:=h
  rw[dM]at Q
  obtain⟨rfl,rfl,rfl,a1,a2,a3,μ1,a4,a5,a6,a7⟩:=F.take hg h3 h4 h5 Q.2 (λo M=>R o (by simp[M])) G hρ (λd k1 _=>j d k1)
  have hlen:xs.length=bs.length:=by
   obtain⟨_,_,_,_,ah⟩:=F
   exact ah.len
  obtain⟨aj,c1,c2,c3,c4⟩:=F
  have ab: ∀z∈u.cells,z.oneCell'=true:=by
   have:=c4.one (λu hu=>by
    obtain⟨i,hi⟩:=List.mem_iff_getElem?.1 hu
    exact Gj c1 i u hi)
   grind
  have ac: ¬ Ax K es.m q.m q.m:=Jg j a3 q.m (aJ _)
  have hμ: ∀k,Ax K es.m q.m k->D6 μ1 q.m (.pointer (some ⟨b,0,none⟩)) k=μ1 k:=λk y=>Dx λe=>ac (e ▸ y)
  have ae: ∀d,Ax K es.m q.m d\/d=q.m->Ax K es.m (q.m+1) d:=by
   rintro d ((h | h) | rfl)
   ·exact .inl h
   ·exact .inr (by omega)
   ·exact .inr (by omega)
  refine⟨hlen,a2,cP a3,D6 μ1 q.m (.pointer (some ⟨b,0,none⟩)),λk y=>(hμ k (.inl y)).trans (a4 k y),?_,⟨b,Bl,by rw[Bg]⟩,λd C=>?_,(λh=>by cases h),λ_=>⟨q.m,rfl,Bl,.inr ⟨a3,cD _⟩,b,rfl⟩⟩
  ·show Reg ((c.at μ1).at _) _ S.tm (cur S ((q.m,some (.box t vv))::q.obs)) a _
   rw[Bz]
   refine a5.put (λh=>absurd h ac) (λo M=>?_) (λo h=>?_) ae ?_ (λd h=> .inl (a7 d h) |> ae d)
   ·simp[blk]at M
    subst M
    have:=R b (by simp)
    exact⟨⟨this.1,Q.1⟩,this.2,λh=>h.2 (by simp)⟩
   ·grind
   ·have Lt2:=Cx.later (c:=c.at μ1) (μ:=D6 μ1 q.m (.pointer (some ⟨b,0,none⟩))) a5.wo hμ
    exact⟨b,u,Bl,H,c2,c3,ab,Lt2.Ash a7 a6⟩
  ·simp only[Ay,Bf,Eg,bM]at C
   grind
end
end Go.CT
namespace Go.CT
open EM
def L9:List PS->List Value->List Value
 | p::a,v::vs=>if p.Dp then v::L9 a vs else L9 a vs
 | _,_=> []
def BkI (μ:Nat->Value)(K:Nat->Prop):List PS->List Nat->List Value->Prop
 | [],[],[]=>True
 | p::a,k::ks,v::vs=>(μ k=v/\K k/\Mz p v)/\BkI μ K a ks vs
 | _,_,_=>False
theorem BkI.mono {μ μ':Nat->Value}{K K':Nat->Prop} : ∀ {b:List PS} {ks:List Nat} {vs:List Value},BkI μ K b ks vs->(∀k,K k->K' k/\μ' k=μ k)->BkI μ' K' b ks vs
 | [],[],[],_,_=>trivial
 | _::_,_::_,_::_,h,a=>⟨⟨(a _ h.1.2.1).2.trans h.1.1,(a _ h.1.2.1).1,h.1.2.2⟩,h.2.mono a⟩
 | [],[],_::_,h,_=>h.elim
 | [],_::_,_,h,_=>h.elim
 | _::_,[],_,h,_=>h.elim
 | _::_,_::_,[],h,_=>h.elim
theorem BkI.facts {μ:Nat->Value}{K:Nat->Prop} : ∀ {m:List PS} {ks:List Nat} {vs:List Value},BkI μ K m ks vs->(ks.length=vs.length/\m.length=vs.length)/\(∀k∈ks,K k)/\
  (∀ (i k:Nat) (v:Value),ks[i]?=some k->vs[i]?=some v->μ k=v)/\(∀ (i:Nat) (p:PS) (v:Value),m[i]?=some p->vs[i]?=some v->Mz p v)
 | [],[],[],_=>⟨⟨rfl,rfl⟩,by simp,by simp,by simp⟩
 | p::m,k::ks,v::vs,h=>by
  obtain⟨⟨a,b⟩,c,d,e⟩:=h.2.facts
  refine⟨⟨by simp[a],by simp[b]⟩,λq o=>?_,λi q r g j=>?_,λi t r g j=>?_⟩
  ·rcases aI.1 o with rfl | o
   ·exact h.1.2.1
   grind
  ·cases i with
   | zero=>simp at g j;subst g;subst j;exact h.1.1
   | succ i=>grind
  ·cases i with
   | zero=>simp at g j;subst g;subst j;exact h.1.2.2
   | succ i=>grind
 | [],[],_::_,h=>h.elim
 | [],_::_,_,h=>h.elim
 | _::_,[],_,h=>h.elim
 | _::_,_::_,[],h=>h.elim
theorem Afq {P:Program}{w:World}{O:Nat->Prop} : ∀ {a:List PS} {args:List Value} {xs:List IV} {L:List Nat},a.length=args.length->E1 P w O (λ_=>False) (a.filter dF) xs (L9 a args) L->Cr P w O a xs args L
 | [],[],xs,L,_,h=>h
 | p::a,v::args,xs,L,b,h=>by
  unfold Cr
  unfold L9 at h
  by_cases c:p.Dp=true
  ·rw[if_pos c]at h ⊢
   rw[cS c]at h
   obtain⟨ys,zs,L1,L2,d,e,g,i⟩:=h
   exact⟨ys,zs,L1,L2,d,e,g,Afq (by grind) i⟩
  ·rw[if_neg c]at h ⊢
   rw[List.filter_cons_of_neg c]at h
   exact Afq (by grind) h
 | [],_::_,_,_,b,_=>by simp at b
 | _::_,[],_,_,b,_=>by simp at b
section
variable {P:Program}{w:World}{a:Act}{S:View}{es es':ES}{ls:List PLt}{c:Cx}{K Rm:Nat->Prop}
theorem Vs {Lt:Nat->Prop} : ∀ {g:List PS} {n:Nat} {r:List VV × List Nat} {xs:List IV} {vs:List Value} {L:List Nat} {es es':ES} {ls:List PLt} {c:Cx} {K Rm:Nat->Prop},(∀b,c.W b->Lt b)->es.gs= []->Ev S (Lc c.P g n) es r es' ls->E1 c.P c.w c.O Lt g xs vs L->L.Nodup->
  (∀b∈L,Rm b/\c.W b)->Reg c K S.tm (cur S es.obs) a Rm->(∀i,i<xs.length->c.ρ[n+i]?=xs[i]?)->(∀k,es.m<=k-> ¬ K k)->
  (xs.length=Axo (g.map PS.arity)/\g.length=vs.length)/\Ent c K S a Rm L es es' λμ'=>Gn (c.at μ') r.1 vs/\(∀k∈r.1.flatMap Ay,Ax K es.m es'.m k)/\BkI μ' (Ax K es.m es'.m) (g.filter dF) r.2 (L9 g vs)
 | [],n,r,xs,vs,L,es,es',ls,c,K,Rm,x,y,h,o,z,t,G,hρ,j=>by
  unfold Lc at h
  rw[Ad]at h
  obtain⟨rfl,rfl,rfl⟩:=h
  cases vs with
  | cons=>exact o.elim
  | nil=>
   obtain⟨rfl,rfl⟩:=o
   exact⟨⟨rfl,rfl⟩,rfl,aJ _,c.μ,λ_ _=>rfl,G.keys (λk h=> .inl h) (λb h=>h.1),trivial,by simp,trivial⟩
 | p::g,n,r,xs,vs,L,es,es',ls,c,K,Rm,x,y,h,o,z,t,G,hρ,j=>by
  cases vs with
  | nil=>exact o.elim
  | cons v vs=>
   obtain⟨ys,zs,L1,L2,rfl,rfl,r1,r2⟩:=o
   unfold Lc at h
   simp only[Ab]at h
   obtain⟨a1,e1,l1,_,M,⟨q,N,l2,_,Q,H,rfl⟩,rfl⟩:=h
   rw[Ad]at H
   obtain⟨rfl,rfl,rfl⟩:=H
   obtain⟨R,T⟩:=Q9 hρ
   rw[List.nodup_append]at z
   obtain⟨A,B,C⟩:=z
   obtain⟨len1,b1,b2,μ1,b3,b4,U,I,X,Y⟩:=Ak6 x y M r1 A (λb d=>t b (cI _ d)) G R j
   obtain⟨⟨len2,len3⟩,d1,d2,μ',d3,d4,d5,d6,d7⟩:=Vs (c:=c.at μ1) x (b1.trans y) Q r2 B (λb d=>⟨⟨(t b (bH _ d)).1,λh=>C b h b d rfl⟩,(t b (bH _ d)).2⟩) b4
    (by rw[<-len1];exact T) (Jg j b2)
   have u:=Dn (K:=K) b2 d2
   have Lt2:=Cx.later (c:=c.at μ1) (μ:=μ') b4.wo d3
   refine⟨⟨by simp[len1,len2,Axo],by simp[len3]⟩,d1.trans b1,Nat.le_trans b2 d2,μ',λk e=>(d3 k (.inl e)).trans (b3 k e),d4.keys u (λb h=>⟨⟨h.1,λh'=>h.2 (cI _ h')⟩,λh'=>h.2 (bH _ h')⟩),
    ⟨Lt2.Ash I U,d5⟩,λk e=>?_,?_⟩
   ·rw[bN]at e
    rcases aR.1 e with e | e
    ·exact u k (.inl (I k e))
    grind
   ·have F:=d7.mono (K':=Ax K es.m N.m) (μ':=μ') λk e=>⟨u k e,rfl⟩
    cases d:p.Dp with
    | true=>
     obtain⟨k,k1,k2,J,Z⟩:=Y d
     simp only[L9,d,Zt,cS,k1,List.singleton_append]
     exact⟨⟨(d3 k J).trans k2,u k (.inl J),Z⟩,F⟩
    | false=>
     have k1:=X d
     simp only[L9,d,aG,Zf,k1,bD]
     grind
theorem O9 {t:Nat} : ∀ {vs:List VV} {i:Nat},I8 t (slotsOf vs i)=if i<=t then(match vs[t - i]? with | some v=>⟨[],.one v⟩ | none=>nothing) else nothing
 | [],i=>by simp[slotsOf,I8]
 | v::vs,i=>by
  unfold slotsOf I8
  by_cases h:i=t
  ·grind
  ·have:(i == t)=false:=by grind
   simp only[this,aG,Zf]
   rw[O9]
   grind
theorem Ai0: ∀ {vs:List VV} {i:Nat},(slotsOf vs i).length =vs.length
 | [],_=>rfl
 | _::vs,i=>by simp[slotsOf,Ai0 (vs:=vs)]
theorem Gn.get2 {c:Cx} : ∀ {vvs:List VV} {vs:List Value},Gn c vvs vs->vvs.length=vs.length/\ ∀ (i:Nat) (x:VV),vvs[i]?=some x-> ∃v,vs[i]?=some v/\Mq c x v
 | [],[],_=>⟨rfl,by simp⟩
 | x::vvs,v::vs,h=>by
  obtain⟨b,d⟩:=Gn.get2 h.2
  refine⟨by simp[b],λi y a=>?_⟩
  cases i with
  | zero=>simp at a;subst a;exact⟨v,rfl,h.1⟩
  | succ i=>grind
 | [],_::_,h=>h.elim
 | _::_,[],h=>h.elim
theorem Gn.cut {c:Cx} : ∀ {vvs:List VV} {xs ys:List Value},Gn c vvs (xs++ys)->Gn c (vvs.take xs.length) xs
 | vvs,[],ys,_=>by simp;trivial
 | [],_::_,_,h=>h.elim
 | _::_,_::_,_,h=>⟨h.1,Gn.cut h.2⟩
theorem Ah3 {c:Cx} : ∀ {vvs:List VV} {a:List PV} {vs:List Value},Yz vvs=some a->Gn c vvs vs->Oz c a vs/\ ∀k∈a.flatMap Eg,k∈vvs.flatMap Ay
 | [],a,vs,h,b=>by
  simp only[Yz,aB]at h
  subst h
  cases vs with
  | nil=>exact⟨trivial,by simp⟩
  | cons=>exact b.elim
 | x::vvs,a,vs,h,b=>by
  cases vs with
  | nil=>exact b.elim
  | cons v vs=>
   unfold Yz at h
   cases d:A3y x with
   | none=>grind
   | some p=>
    obtain rfl:x= .leaf (.ptr p):=by
     unfold A3y at d
     grind
    cases e:Yz vvs with
    | none=>grind
    | some r=>
     simp only[d,e,bQ,aB]at h
     subst h
     obtain⟨i,j⟩:=Ah3 e b.2
     refine⟨⟨b.1,i⟩,λk g=>?_⟩
     rw[bN]at g ⊢
     exact(aR.1 g).elim (λh=>cI _ h) λh=>bH _ (j k h)
theorem Tk {c:Cx} : ∀ {k:Nat} {d:List PS} {vvs out:List VV} {pend fr vs:List Value},K4 k d vvs=some out->Kb k d vs=some fr->pend.length=k->Gn c vvs (pend++fr)->
  Gn c out vs/\ ∀q∈out.flatMap Ay,q∈vvs.flatMap Ay
 | k+1,[],vvs,out,pend,fr,vs,h,a,hp,b=>by simp[K4]at h
 | k+1,_::_,[],out,pend,fr,vs,h,a,hp,b=>by simp[K4]at h
 | k+1,p::d,x::vvs,out,pend,fr,vs,h,a,hp,b=>by
  unfold K4 at h
  unfold Kb at a
  cases pend with
  | nil=>cases hp
  | cons q pend=>
   obtain⟨u,y⟩:=Tk h a (by grind) b.2
   grind
 | 0,[],[],out,pend,fr,vs,h,a,hp,b=>by
  simp only[K4,aB]at h
  subst h
  cases vs with
  | nil=>exact⟨trivial,by simp⟩
  | cons=>simp[Kb]at a
 | 0,[],_::_,out,pend,fr,vs,h,a,hp,b=>by simp[K4]at h
 | 0,_::_,[],out,pend,fr,vs,h,a,hp,b=>by simp[K4]at h
 | 0,p::d,x::vvs,out,pend,fr,vs,h,a,hp,b=>by
  have:pend= []:=aS.1 hp
  subst this
  cases vs with
  | nil=>simp[Kb]at a
  | cons v vs=>
   unfold K4 at h
   unfold Kb at a
   cases z:Aej p with
   | none=>
    simp only[z]at h a
    cases i:K4 0 d vvs with
    | none=>grind
    | some r=>
     cases j:Kb 0 d vs with
     | none=>grind
     | some s=>
      simp only[i,j,bQ,aB]at h a
      subst h;subst a
      obtain⟨u,y⟩:=Tk (pend:= []) i j rfl b.2
      refine⟨⟨b.1,u⟩,λk g=>?_⟩
      grind
   | some fn=>
    simp only[z]at h a
    cases m:A6w v with
    | none=>grind
    | some gc=>
     simp only[m]at a
     split at a
     ·rename_i w
      simp only[aD,beq_iff_eq]at w
      cases j:Kb fn.2 d vs with
      | none=>grind
      | some s=>
       cases o:Yz (vvs.take fn.2) with
       | none=>grind
       | some caps=>
        cases i:K4 fn.2 d vvs with
        | none=>grind
        | some r=>
         simp only[o,i,j,bQ,aB]at h a
         subst h;subst a
         obtain⟨cs,rfl,A⟩: ∃cs:Array Value,v= .func (.func gc.1) #[] cs/\cs.toList=gc.2:=by
          unfold A6w at m
          grind
         have t:Gn c vvs (gc.2++s):=b.2
         have e:=t.cut
         rw[w.2]at e
         obtain⟨u,y⟩:=Tk i j w.2 t
         obtain⟨r1,r2⟩:=Ah3 o e
         refine⟨⟨⟨cs,by rw[w.1],by grind⟩,u⟩,λk g=>?_⟩
         rw[bN]at g ⊢
         refine bH _ ?_
         rcases aR.1 g with g | g
         ·have:=r2 k g
          grind
         grind
     ·cases a
theorem Am1 {N:Nat}{X:Nat->Prop}{F:FnC}{s:Spec}{st:St}{bks:List Nat}{xs:List IV}{args fargs:List Value}{L:List Nat}(M:Kb 0 s.params args=some fargs)(J:Yh P s.params=some (st,bks))(Y:F.bps=s.params.filter dF)(Z:F.bks=bks)
  (hr:E1 P w (λb=>X b\/b∈L) (· ∈L) s.params xs fargs L) (hn:L.Nodup) (hX: ∀b∈L,¬ X b) (Q: ∀b,X b->b<w.heap.size) (ha:a.tmps=args.toArray++bR (N - args.length) undef) (T:st.tm.length<=N) (hd:a.defers= []):
  ∃μ bvs,xs.length=st.n/\Aq7 F s.params fargs bvs μ/\CS P N X xs F L w μ st μ a w:=by
 unfold Yh at J
 cases A:(Lc P s.params 0 {n:=Axo (s.params.map PS.arity),m:=0,gs:= [],obs:= []}).run Jt with
 | none=>grind
 | some q=>
  obtain⟨⟨r,es⟩,lets,sl,ks⟩:=q
  simp only[A]at J
  cases I:K4 0 s.params r.1 with
  | none=>grind
  | some vvs=>
  simp only[I,aB,aN]at J
  obtain⟨rfl,rfl⟩:=J
  let c:Cx:= {P,ρ:=xs,μ:=λ_=>undef,w,O:=λb=>X b\/b∈L,W:=(· ∈L)}
  have G0:Reg c (λ_=>False) Jt.tm (cur Jt ([]:List (Nat × Option Ob))) a (· ∈L):=by
   rw[Nn]
   exact⟨λb u=> .inr u,(λs=>⟨true,rfl,(λ_=>trivial),(λh=>by cases h)⟩),(λk o h=>by cases h),(λk G o o' b h=>by cases h),(λk o b h=>by cases h),(λs k h=>by simp[Jt,nothing,Ct,Ay,Bf]at h),(λk o h=>by cases h)⟩
  have hE:Ev Jt (Lc c.P s.params 0) {n:=Axo (s.params.map PS.arity),m:=0,gs:= [],obs:= []} r es lets:=⟨sl,ks,A⟩
  obtain⟨⟨len1,len2⟩,q1,q2,μ',q3,y,R,K,q7⟩:=Vs (Lt:=(· ∈L)) (λb h=>h) rfl hE hr hn (λb u=>⟨u,u⟩) G0 (λi hi=>by simp[c]) (λk _ h=>h)
  have B: ∀k,Ax (λ_=>False) 0 es.m k->k<es.m:=λk h=>h.elim (λh=>h.elim) λh=>h.2
  obtain⟨R,S⟩:=Tk (pend:= []) I M rfl R
  have K: ∀k∈vvs.flatMap Ay,Ax (λ_=>False) 0 es.m k:=λk d=>K k (S k d)
  have e:(({n:=Axo (s.params.map PS.arity),m:=es.m,tm:=slotsOf vvs 0,ob:=X9 es.obs []} :St).view.ob)=cur Jt es.obs:=by
   funext k
   show Q7 k (X9 es.obs [])=_
   rw[Pq]
   unfold cur
   cases Io k es.obs<;>rfl
  obtain⟨⟨f1,f2⟩,f3,f4,f5⟩:=q7.facts
  have Lat:Ek (· <es.m) (c.at μ') (Bs P X xs (cur Jt es.obs) μ' w):=
   {P:=rfl,ρ:=λ_ _ h=>h,μ:=λ_ _=>rfl,stays:=Mb.refl _ _,O:=λb _ u=>u.imp id fun⟨k,o,g,j,z⟩=>(y.rest k o b g j z).2,W:=λb _ ⟨k,o,g,j,z⟩=>(y.rest k o b g j z).2,WO:=λb u=> .inr u}
  obtain⟨g1,g2⟩:=R.get2
  have T:args.length<=N:=by
   rw[<-g1,<-Ai0 (vs:=vvs) (i:=0)];exact T
  refine⟨μ',L9 s.params fargs,len1,⟨Y,λh=>Afq len2 (by grind),by grind,by grind,by grind⟩,?_⟩
  refine⟨⟨?_,hd,λt=>?_,λk o h=>?_,λk1 k2 o1 o2 b g j z h4 h5 h6=>?_,λk o b g j z=>?_,Q,λt k d=>?_,λk o h=>?_⟩,.refl _ _,λb u=>?_,λk d=>⟨B k (f3 k (by grind)),rfl⟩⟩
  ·grind
  ·rw[e]
   show Awr _ (I8 t (slotsOf vvs 0)) _
   rw[O9]
   simp only[dL,Zt,dU]
   cases H:vvs[t]? with
   | none=>exact⟨true,rfl,λ_=>trivial,λh=>by cases h⟩
   | some x=>
    obtain⟨v,g,j⟩:=g2 t x H
    have U:=(bI.1 g).1
    have:a.tmps.getD t undef=v:=by
     rw[ha]
     have:(args.toArray++bR (N - args.length) undef)[t]?=some v:=by
      grind
     simp[this]
    rw[this]
    exact⟨true,rfl,λ_=>Lat.Ash (λk d=>B k (K k (dI.2 ⟨x,bO H,d⟩))) j,λh=>by cases h⟩
  ·rw[e]at h ⊢
   exact Lat.Akc (B k (y.ko k o h).1) (λG C=>B G ((y.ko k o h).2 G C)) (λ_ _ _ _=>rfl) (y.obj k o h)
  ·rw[e]at g j
   exact y.sep k1 k2 o1 o2 b g j z h4 h5 h6
  ·rw[e]at g
   exact hX b (y.rest k o b g j z).2
  ·have d:k∈Ct (I8 t (slotsOf vvs 0)).x :=d
   rw[O9]at d
   simp only[dL,Zt,dU]at d
   cases H:vvs[t]? with
   | none=>rw[H]at d;simp[nothing,Ct,Ay,Bf]at d
   | some x=>
    rw[H]at d
    exact B k (K k (dI.2 ⟨x,bO H,d⟩))
  ·rw[e]at h
   exact⟨B k (y.ko k o h).1,λG C=>B G ((y.ko k o h).2 G C)⟩
  ·rw[e]at u
   obtain⟨k,o,g,j,z⟩:=u
   exact .inl (y.rest k o b g j z).2
end
end Go.CT
namespace Go.CT
open EM
def run (T:Job->Option PT)(pr:Nat->Option (List IV->Option (List IV))):Nat->Job->List IV->Option (List IV)
 | 0,_,_=>none
 | k+1,j,vs=>
  match pr j.spec with
  | some f=>f vs
  | none=>
   match T j with
   | some pt=>pt.den (run T pr k) j.spec vs
   | none=>none
def Im (P:Program)(f:List IV->Option (List IV))(s:Spec):Prop:=
 ∀ (w:World) (X:Nat->Prop) (xs:List IV) (args:List Value) (L:List Nat) (rs:List IV),
  E1 P w (λb=>X b\/b∈L) (· ∈L) s.params xs args L->L.Nodup->(∀b∈L,¬ X b)->(∀b,X b->b<w.heap.size)->
  f xs=some rs->Awt P s.fn args.toArray w (Z3 P X s args L rs w)
def Abp (P:Program)(f:List IV->Option (List IV))(s:Spec):Prop:=
 ∀ (w:World) (X:Nat->Prop) (xs:List IV) (args fargs:List Value) (L:List Nat) (rs:List IV),Kb 0 s.params args=some fargs->
  E1 P w (λb=>X b\/b∈L) (· ∈L) s.params xs fargs L->L.Nodup->(∀b∈L,¬ X b)->(∀b,X b->b<w.heap.size)->
  f xs=some rs->Awt P s.fn args.toArray w (Z3 P X s fargs L rs w)
theorem Aah: ∀ {a:List PS} {vs fs:List Value},a.all (λp=>(Aej p).isNone)=true->Kb 0 a vs=some fs->fs=vs
 | [],[],fs,_,h=>by simp only[Kb,aB]at h;exact h.symm
 | [],_::_,fs,_,h=>by simp[Kb]at h
 | _::_,[],fs,_,h=>by simp[Kb]at h
 | p::a,v::vs,fs,hp,h=>by
  simp only[cQ,aD,cO]at hp
  unfold Kb at h
  simp only[hp.1]at h
  cases b:Kb 0 a vs with
  | none=>simp[b]at h
  | some r=>
   simp only[b,bQ,aB]at h
   subst h
   rw[Aah hp.2 b]
theorem Im.flat {P:Program}{f:List IV->Option (List IV)}{s:Spec}(h:Im P f s)(hp:s.params.all (λp=>(Aej p).isNone)=true):Abp P f s:=by
 intro w X xs args fargs L rs a
 rw[Aah hp a]
 exact h w X xs args L rs
structure A7p (P:Program)(specs:List (Nat × Spec))(T:Job->Option PT)(i:Nat)(s:Spec)(fn:Func)(root:Code)(F:FnC)(bs:List Blk)(st:St)(fuel:Nat):Prop where
 hf:P.funcs[s.fn]?=some fn
 hname:(fn.name == "runtime.NumGoroutine")=false
 hbody:fn.body=some root
 hvars:F.vars=fn.results.toList
 hrs:F.rs=s.results
 hbps:F.bps=s.params.filter dF
 hlen:st.tm.length<=fn.ntmps
 hst:Yh P s.params=some (st,F.bks)
 entry:T ⟨i,0⟩=comp P specs fn.ntmps F bs fuel true [.code [] root] st
 S1: ∀ (n:Nat) (b:Blk),bs[n]?=some b->T ⟨i,n+1⟩=(Ta root b.key).bind λtodo=>comp P specs fn.ntmps F bs fuel true todo b.st
section
variable {P:Program}{specs:List (Nat × Spec)}{T:Job->Option PT}{pr:Nat->Option (List IV->Option (List IV))}
theorem Axy (x:PI):(if x.key.1=1 then(1,x.key.2.1,[]) else(x.key.1,0,x.key.2.2))=x.key:=by
 cases x<;>rfl
theorem Asq (t:P.follows .mixedOrders =true){i:Nat}{s:Spec}{fn:Func}{root:Code}{F:FnC}{bs:List Blk}{st:St}{fuel:Nat}(h:A7p P specs T i s fn root F bs st fuel)(hp:pr i=none){X:Nat->Prop}{args bvs:List Value}{L0:List Nat}{w0:World}{hdv:Nat->Value}
  (u:Aq7 F s.params args bvs hdv): ∀k,(∀j,j<=k->Sound P specs (run T pr j))->A0b P fn.ntmps X (run T pr k) F bs root i s args L0 w0 hdv
 | 0,_=>λn b _ todo _ _ vs rs a w μ e=>by simp[run]at e
 | k+1,y=>λn b A todo r g vs rs a w μ e hlen C=>by
  have o:=h.S1 n b A
  have c:=e
  simp only[run,hp]at c
  obtain⟨todo0,pt,q,m,B⟩: ∃todo pt,Ta root b.key=some todo/\comp P specs fn.ntmps F bs fuel true todo b.st=some pt/\T ⟨i,n+1⟩=some pt:=by
   cases q:Ta root b.key with
   | none=>rw[o,q]at c;simp at c
   | some todo0=>
    rw[q]at o
    cases m:comp P specs fn.ntmps F bs fuel true todo0 b.st with
    | none=>simp only[o,aA,m]at c;cases c
    | some pt=>exact⟨todo0,pt,rfl,m,by rw[o];exact m⟩
  obtain⟨z,G⟩:=Aj5 q
  have d:todo0.map PI.key=todo.map PI.key:=by
   rw[G,<-g,List.map_map]
   apply List.map_congr_left
   intro x _
   exact Axy x
  have hitems:=Abs z r d
  have hd:pt.den (run T pr k) i vs=some rs:=by
   simp only[run,hp,B]at e;exact e
  have:=Alu t (y k (cH k)) h.hrs u (Asq t h hp u k λj H=>y j (cP H)) fuel true todo0 b.st pt vs rs a w μ m z hlen C hd
  intro fb cs
  obtain⟨I,w',J,v,r1,r2⟩:=this fb cs
  rw[hitems]at r1
  exact⟨I,w',J,v,r1,r2⟩
theorem Anc {w:World}{O Lt:Nat->Prop} : ∀ {a:List PS} {xs:List IV} {vs:List Value} {L:List Nat},E1 P w O Lt a xs vs L->a.length=vs.length
 | [],_,[],_,_=>rfl
 | _::_,_,_::_,_,h=>by
  obtain⟨_,_,_,_,_,_,_,h⟩:=h
  simp[Anc h]
 | [],_,_::_,_,h=>h.elim
 | _::_,_,[],_,h=>h.elim
theorem Rv {fn:Func}{tmps:Array Value}{w:World}{v:List Value}(h:(fn.results.toList.mapM (Qd tmps)).run P w= .ok v w):(results fn tmps).run P w= .ok (packed v) w:=by
 have a:results fn tmps=(do let vs <-fn.results.mapM (Qd tmps);pure (if h:vs.size=1 then vs[0]else .tuple vs)):=by
  unfold results
  congr 2
 have b:fn.results.mapM (Qd tmps)=List.toArray<$> fn.results.toList.mapM (Qd tmps):=by
  rw[<-List.mapM_toArray]
 rw[a,Sem.run_bind,b,Sem.run_map,h]
 simp only[Result.andThen_ok,Sem.run_pure]
 congr 1
 unfold packed
 cases v with
 | nil=>simp
 | cons x v=>
  cases v with
  | nil=>simp
  | cons y v=>simp
theorem A7x (m:P.follows .mixedOrders =true){i:Nat}{s:Spec}{fn:Func}{root:Code}{F:FnC}{bs:List Blk}{st:St}{fuel k:Nat}(h:A7p P specs T i s fn root F bs st fuel)(hp:pr i=none)(o: ∀j,j<=k->Sound P specs (run T pr j)):
  Abp P (run T pr (k+1) ⟨i,0⟩) s:=by
 intro w X xs args fargs L rs e u x y g d
 have c:=d
 simp only[run,hp]at c
 obtain⟨pt,e1,z⟩: ∃pt,comp P specs fn.ntmps F bs fuel true [.code [] root] st=some pt/\T ⟨i,0⟩=some pt:=by
  cases q:comp P specs fn.ntmps F bs fuel true [.code [] root] st with
  | none=>rw[h.entry,q]at c;cases c
  | some pt=>exact⟨pt,rfl,by rw[h.entry,q]⟩
 obtain⟨μ,bvs,A,r,B⟩:=Am1 (N:=fn.ntmps) (a:= {tmps:=args.toArray++bR (fn.ntmps - args.length) undef,defers:= []}) e h.hst h.hbps rfl u x y g rfl h.hlen rfl
 have hd:pt.den (run T pr k) i xs=some rs:=by
  simp only[run,hp,z]at d;exact d
 have C:=Alu m (o k (aJ k)) h.hrs r (Asq m h hp r k o) fuel true [.code [] root] st pt xs rs _ w μ e1 (by simp[PI.ok,Oo]) A B hd
 refine .inl ⟨fn,h.hf,h.hname,by rw[h.hbody];rfl,λcs=>?_⟩
 let b:Frame:= {(default:Frame) with fn:=s.fn,kind:= .normal}
 obtain⟨G,w',H,v,r1,r2,t,I⟩:=C b cs
 have henter:Frame.enter P s.fn args.toArray .normal =b.at {tmps:=args.toArray++bR (fn.ntmps - args.length) undef,defers:= []} [.code root]:=by
  simp[Frame.enter,Frame.at,h.hf,h.hbody,b]
 rw[h.hvars]at t
 refine⟨.returned (packed v),w',{b.at G H with mode:= .returning},⟨packed v,rfl,I⟩,?_,rfl,rfl,r2,rfl,fn,h.hf,Rv t⟩
 rw[henter]
 exact r1
theorem sound (u:P.follows .mixedOrders =true)(h: ∀i s,(i,s)∈specs->(∃f,pr i=some f/\Abp P f s)\/(pr i=none/\((∀b,T ⟨i,b⟩=none)\/ ∃fn root F bs st fuel,A7p P specs T i s fn root F bs st fuel))): ∀k,Sound P specs (run T pr k):=by
 intro k
 induction k using Nat.strongRecOn with
 | _ k x=>
  intro i s d w X xs args fargs L rs e q r t g a
  cases k with
  | zero=>simp[run]at a
  | succ k=>
   rcases h i s d with⟨f,y,c⟩ | ⟨hp,m | ⟨fn,root,F,bs,st,fuel,o⟩⟩
   ·exact c w X xs args fargs L rs e q r t g (by simpa only[run,y]using a)
   ·simp only[run,hp,m]at a
    cases a
   ·exact A7x u o hp (λj z=>x j (by omega)) w X xs args fargs L rs e q r t g a
end
end Go.CT
namespace Go.CT
section
variable {R R':Job->List IV->Option (List IV)}
theorem O0.Ae8 (h: ∀j xs rs,R j xs=some rs->R' j xs=some rs)(ρ:List IV): ∀ (l:O0) (rs:List IV),l.ev R ρ=some rs->l.ev R' ρ=some rs
 | .Cb _ _,_,e=>e
 | .call s as n,rs,e=>by
  simp only[dK,aC]at e ⊢
  obtain⟨ys,⟨xs,a,b⟩,c⟩:=e
  exact⟨ys,⟨xs,a,h _ _ _ b⟩,c⟩
theorem Mm.Ae8 (h: ∀j xs rs,R j xs=some rs->R' j xs=some rs)(ρ:List IV)(g:Mm)(rs:List IV)(e:g.ev R ρ=some rs):g.ev R' ρ=some rs:=by
 simp only[dB,aC]at e ⊢
 obtain⟨b,c,a⟩:=e
 refine⟨b,c,?_⟩
 cases b with
 | false=>exact a
 | true=>exact O0.Ae8 h ρ _ _ a
theorem PT.Q1 (h: ∀j xs rs,R j xs=some rs->R' j xs=some rs)(s:Nat): ∀ (pt:PT) (ρ rs:List IV),pt.den R s ρ=some rs->pt.den R' s ρ=some rs
 | .lets l k,ρ,rs,e=>by
  simp only[cJ,aC]at e ⊢
  obtain⟨xs,a,d⟩:=e
  exact⟨xs,Mm.Ae8 h ρ l xs a,Q1 h s k _ _ d⟩
 | .ite c p q,ρ,rs,e=>by
  simp only[cJ]at e ⊢
  split
  ·rename_i g;rw[g]at e;exact Q1 h s p _ _ e
  ·rename_i g;rw[g]at e;exact Q1 h s q _ _ e
  ·rename_i a d
   split at e
   ·exact absurd ‹_› a
   ·exact absurd ‹_› d
   ·exact e
 | .jump b as,ρ,rs,e=>by
  simp only[cJ,aC]at e ⊢
  obtain⟨xs,a,d⟩:=e
  exact⟨xs,a,h _ _ _ d⟩
 | .ret as,ρ,rs,e=>e
end
section
variable (T:Job->Option PT)(pr:Nat->Option (List IV->Option (List IV)))
theorem Apg: ∀ (k:Nat) (j:Job) (xs rs:List IV),run T pr k j xs=some rs->run T pr (k+1) j xs=some rs
 | 0,_,_,_,e=>by simp[run]at e
 | k+1,j,xs,rs,e=>by
  rw[run]at e ⊢
  cases hp:pr j.spec with
  | some f=>rw[hp]at e;exact e
  | none=>
   rw[hp]at e
   cases a:T j with
   | none=>rw[a]at e;exact e
   | some pt=>rw[a]at e;exact PT.Q1 (Apg k) _ pt _ _ e
theorem Aoz {k a:Nat}(b:k<=a)(j:Job)(xs rs:List IV)(e:run T pr k j xs=some rs):run T pr a j xs=some rs:=by
 induction b with
 | refl=>exact e
 | step _ c=>exact Apg T pr _ j xs rs c
open Classical in
noncomputable def V (j:Job) (xs:List IV):Option (List IV):=
 if h: ∃rs,∃k,run T pr k j xs=some rs then some (Classical.choose h) else none
theorem Ab5 {j:Job}{xs rs:List IV} :V T pr j xs=some rs↔ ∃k,run T pr k j xs=some rs:=by
 unfold V
 constructor
 ·intro h
  split at h
  ·rename_i a
   have:=cW a
   injection h with h
   rw[h]at this
   exact this
  ·cases h
 ·rintro⟨k,c⟩
  have a: ∃rs,∃k,run T pr k j xs=some rs:=⟨rs,k,c⟩
  rw[dif_pos a]
  obtain⟨d,b⟩:=cW a
  have g:=Aoz T pr (dN k d) j xs _ c
  have e:=Aoz T pr (dJ k d) j xs _ b
  rw[g]at e
  exact e.symm
theorem An7 (k:Nat)(j:Job)(xs rs:List IV)(h:run T pr k j xs=some rs):V T pr j xs=some rs:=(Ab5 T pr).2 ⟨k,h⟩
theorem O0.Amg (ρ:List IV): ∀ (l:O0) (rs:List IV),l.ev (V T pr) ρ=some rs-> ∃k,l.ev (run T pr k) ρ=some rs
 | .Cb _ _,_,e=>⟨0,e⟩
 | .call s as n,rs,e=>by
  simp only[dK,aC]at e ⊢
  obtain⟨ys,⟨xs,a,b⟩,c⟩:=e
  obtain⟨k,d⟩:=(Ab5 T pr).1 b
  exact⟨k,ys,⟨xs,a,d⟩,c⟩
theorem Mm.Amg (ρ:List IV)(g:Mm)(rs:List IV)(e:g.ev (V T pr) ρ=some rs): ∃k,g.ev (run T pr k) ρ=some rs:=by
 simp only[dB,aC]at e ⊢
 obtain⟨b,a,c⟩:=e
 cases b with
 | false=>exact⟨0,false,a,c⟩
 | true=>
  obtain⟨k,d⟩:=O0.Amg T pr ρ _ _ c
  exact⟨k,true,a,d⟩
theorem PT.W6 (s:Nat): ∀ (pt:PT) (ρ rs:List IV),pt.den (V T pr) s ρ=some rs-> ∃k,pt.den (run T pr k) s ρ=some rs
 | .lets l k,ρ,rs,e=>by
  simp only[cJ,aC]at e ⊢
  obtain⟨xs,d,g⟩:=e
  obtain⟨a,h⟩:=Mm.Amg T pr ρ l xs d
  obtain⟨b,i⟩:=W6 s k _ _ g
  exact⟨max a b,xs,Mm.Ae8 (λj xs rs=>Aoz T pr (dN a b) j xs rs) ρ l xs h,PT.Q1 (λj xs rs=>Aoz T pr (dJ a b) j xs rs) s k _ _ i⟩
 | .ite c p q,ρ,rs,e=>by
  simp only[cJ]at e ⊢
  split at e
  ·exact W6 s p _ _ e
  ·exact W6 s q _ _ e
  ·cases e
 | .jump b as,ρ,rs,e=>by
  simp only[cJ,aC]at e ⊢
  obtain⟨xs,d,g⟩:=e
  obtain⟨k,m⟩:=(Ab5 T pr).1 g
  exact⟨k,xs,d,m⟩
 | .ret as,ρ,rs,e=>⟨0,e⟩
theorem Agw (j:Job)(xs:List IV):V T pr j xs=match pr j.spec with | some f=>f xs | none=>match T j with | some pt=>pt.den (V T pr) j.spec xs | none=>none:=by
 have key: ∀rs,V T pr j xs=some rs↔(match pr j.spec with | some f=>f xs | none=>match T j with | some pt=>pt.den (V T pr) j.spec xs | none=>none)=some rs:=by
  intro rs
  constructor
  ·intro h
   obtain⟨k,a⟩:=(Ab5 T pr).1 h
   cases k with
   | zero=>simp[run]at a
   | succ k=>
    rw[run]at a
    cases hp:pr j.spec with
    | some f=>simp only[hp]at a ⊢;exact a
    | none=>
     simp only[hp]at a ⊢
     cases b:T j with
     | none=>rw[b]at a;exact a
     | some pt=>simp only[b]at a ⊢;exact PT.Q1 (λj xs rs h=>An7 T pr k j xs rs h) _ pt _ _ a
  ·intro h
   refine(Ab5 T pr).2 ?_
   cases hp:pr j.spec with
   | some f=>
    simp only[hp]at h
    exact⟨1,by rw[run,hp];exact h⟩
   | none=>
    simp only[hp]at h
    cases b:T j with
    | none=>simp only[b]at h;cases h
    | some pt=>
     simp only[b]at h
     obtain⟨k,a⟩:=PT.W6 T pr _ pt _ _ h
     exact⟨k+1,by rw[run,hp];simp only[b];exact a⟩
 generalize d:(match pr j.spec with | some f=>f xs | none=>match T j with | some pt=>pt.den (V T pr) j.spec xs | none=>none)=o at key
 cases o with
 | some rs=>exact(key rs).2 rfl
 | none=>
  cases c:V T pr j xs with
  | none=>rfl
  | some rs=>exact absurd ((key rs).1 c) (by simp)
end
end Go.CT
namespace Go.CT
inductive SB where
 | done
 | Cb (p:Prim) (args:List Arg) (k:SB)
 | call (s:Nat) (args:List Arg) (n:Nat) (k:SB)
 | sel (c:Arg) (w:Bool) (B:SB) (y x:Arg) (k:SB)
 deriving Inhabited
inductive ST where
 | ite (b:SB) (c:Arg) (p q:ST)
 | jump (b:SB) (j:Nat) (args:List Arg)
 | ret (b:SB) (args:List Arg)
 deriving Inhabited
def cnd {α:Type}(c:IV)(p q:Option α):Option α:=
 match c with
 | .bool b=>if b=true then p else q
 | _=>none
def Cur (β:Type):Nat->Type
 | 0=>β
 | n+1=>IV->Cur β n
def curry {β:Type} :(n:Nat)->(List IV->β)->Cur β n
 | 0,f=>f []
 | n+1,f=>λx=>curry n λxs=>f (x::xs)
def uncurry {β:Type} :(n:Nat)->Cur (Option β) n->List IV->Option β
 | 0=>λf xs=>match xs with | []=>f | _::_=>none
 | n+1=>λf xs=>match xs with | []=>none | x::xs=>uncurry n (f x) xs
theorem uncurry_curry {β:Type} : ∀ (n:Nat) (f:List IV->Option β) (xs:List IV),uncurry n (curry n f) xs=if xs.length=n then f xs else none
 | 0,f,[]=>rfl
 | 0,f,_::_=>by simp[uncurry]
 | n+1,f,[]=>by simp[uncurry]
 | n+1,f,x::xs=>by
  simp only[aP,Nat.add_right_cancel_iff]
  exact uncurry_curry n (λxs=>f (x::xs)) xs
def calls {β:Type}(o:Option (List IV))(n:Nat)(f:Cur (Option β) n):Option β:=o.bind (uncurry n f)
def SB.runK (R:Job->List IV->Option (List IV)):SB-> {α:Type} ->List IV->(List IV->Option α)->Option α
 | .done,_,σ,K=>K σ
 | .Cb p as k,_,σ,K=>((aQ σ as).bind p.ev).bind λx=>k.runK R (σ++ [x]) K
 | .call s as n k,_,σ,K=>calls ((aQ σ as).bind (R ⟨s,0⟩)) n (curry n λys=>k.runK R (σ++ys) K)
 | .sel c true B y x k,_,σ,K=>((c.ev σ).bind λc=>cnd c (B.runK R σ λτ=>y.ev τ) (x.ev σ)).bind λv=>k.runK R (σ++ [v]) K
 | .sel c false B y x k,_,σ,K=>((c.ev σ).bind λc=>cnd c (x.ev σ) (B.runK R σ λτ=>y.ev τ)).bind λv=>k.runK R (σ++ [v]) K
def ST.den (R:Job->List IV->Option (List IV))(s:Nat):ST->List IV->Option (List IV)
 | .ite b c p q,σ=>b.runK R σ λτ=>(c.ev τ).bind λc=>cnd c (p.den R s τ) (q.den R s τ)
 | .jump b j as,σ=>b.runK R σ λτ=>(aQ τ as).bind (R ⟨s,j⟩)
 | .ret b as,σ=>b.runK R σ λτ=>aQ τ as
def mapArg (m:List (Option Arg)):Arg->Option Arg
 | .v i=>(m[i]?).join
 | .k c=>some (.k c)
def mapArgs (m:List (Option Arg)):List Arg->Option (List Arg)
 | []=>some []
 | a::as=>do
  let x <-mapArg m a
  let xs <-mapArgs m as
  pure (x::xs)
def Prim.same:Prim->Prim->Bool
 | .proj a b c,.proj d e c'=>a == d&&b == e&&c == c'
 | .index,.index | .len,.len | .Ato,.Ato | .M3,.M3 | .Sg,.Sg =>true
 | _,_=>false
def Arg.Aqd:List Arg->List Arg->Bool
 | [],[]=>true
 | a::as,b::bs=>a.same b&&Arg.Aqd as bs
 | _,_=>false
structure Av where
 p:Prim
 as:List Arg
 a:Arg
def Ahw (p:Prim)(as:List Arg):List Av->Option Arg
 | []=>none
 | e::r=>if e.p.same p&&Arg.Aqd e.as as then some e.a else Ahw p as r
def Agj (x:Arg)(i:Nat):List Av->Option Arg
 | []=>none
 | e::r=>if Prim.Sg.same e.p&&e.a.same x then e.as[i]? else Agj x i r
def look (p:Prim)(as:List Arg)(av:List Av):Option Arg:=
 match Ahw p as av with
 | some a=>some a
 | none=>
  match p,as with
  | .proj i 1 false,[x]=>Agj x i av
  | _,_=>none
def N5 (c:Arg)(w:Bool):List Mm->List Mm × List Mm
 | []=>([],[])
 | ⟨[],l⟩::ls=>([],⟨[],l⟩::ls)
 | ⟨(c',w')::gs,l⟩::ls=>
  if c.same c'&&w == w' then
   let r:=N5 c w ls
   (⟨gs,l⟩::r.1,r.2)
  else([],⟨(c',w')::gs,l⟩::ls)
def arities:List Mm->Nat
 | []=>0
 | g::ls=>g.l.arity+arities ls
def newArgs (n:Nat):Nat->List (Option Arg)
 | 0=> []
 | k+1=>some (.v n)::newArgs (n+1) k
structure TS where
 m:List (Option Arg)
 av:List Av
 n:Nat
def trL:Nat->List Mm->TS->Option (SB × TS)
 | 0,_,_=>none
 | _+1,[],s=>some (.done,s)
 | f+1,⟨[],.Cb p as⟩::ls,s=>
  match mapArgs s.m as with
  | none=>none
  | some as'=>
   match look p as' s.av with
   | some a=>trL f ls {s with m:=s.m++ [some a]}
   | none=>(trL f ls ⟨s.m++ [some (.v s.n)],⟨p,as',.v s.n⟩::s.av,s.n+1⟩).map λr=>(.Cb p as' r.1,r.2)
 | f+1,⟨[],.call t as k⟩::ls,s=>
  match mapArgs s.m as with
  | none=>none
  | some as'=>(trL f ls ⟨s.m++newArgs s.n k,s.av,s.n+k⟩).map λr=>(.call t as' k r.1,r.2)
 | f+1,⟨(c,w)::gs,l⟩::ls,s=>
  match (N5 c w (⟨(c,w)::gs,l⟩::ls)).2 with
  | ⟨[],.Cb .pick [c',x,y]⟩::rest=>
   if c.same c' then
    match mapArg s.m c,trL f (N5 c w (⟨(c,w)::gs,l⟩::ls)).1 s,mapArg s.m (if w then y else x) with
    | some b,some (B,sB),some xv=>
     match mapArg sB.m (if w then x else y) with
     | some yv=>(trL f rest ⟨s.m++bF (arities (N5 c w (⟨(c,w)::gs,l⟩::ls)).1) none++ [some (.v s.n)],s.av,s.n+1⟩).map λr=>(.sel b w B yv xv r.1,r.2)
     | none=>none
    | _,_,_=>none
   else none
  | _=>none
def trT (f:Nat):PT->List Mm->TS->Option ST
 | .lets l k,acc,s=>trT f k (acc++ [l]) s
 | .ite c p q,acc,s=>
  match trL f acc s with
  | none=>none
  | some (B,s')=>
   match mapArg s'.m c,trT f p [] s',trT f q [] s' with
   | some c',some a,some b=>some (.ite B c' a b)
   | _,_,_=>none
 | .jump j as,acc,s=>
  match trL f acc s with
  | none=>none
  | some (B,s')=>(mapArgs s'.m as).map (.jump B j)
 | .ret as,acc,s=>
  match trL f acc s with
  | none=>none
  | some (B,s')=>(mapArgs s'.m as).map (.ret B)
def tr (n:Nat)(pt:PT):Option ST:=trT 5000 pt [] ⟨newArgs 0 n,[],n⟩
def Dj (R:Job->List IV->Option (List IV)):List Mm->List IV->Option (List IV)
 | [],ρ=>some ρ
 | g::ls,ρ=>(g.ev R ρ).bind λxs=>Dj R ls (ρ++xs)
theorem Ra (R:Job->List IV->Option (List IV)): ∀ (as bs:List Mm) (ρ:List IV),Dj R (as++bs) ρ=(Dj R as ρ).bind (Dj R bs)
 | [],bs,ρ=>rfl
 | a::as,bs,ρ=>by
  simp only[cE,Dj,aT]
  congr 1
  funext xs
  exact Ra R as bs (ρ++xs)
theorem Arg.Iq {a:Arg}{σ:List IV}{v:IV}(h:a.ev σ=some v)(ys:List IV):a.ev (σ++ys)=some v:=by
 cases a with
 | k c=>exact h
 | v i=>
  simp only[dC]at h ⊢
  rw[bB (bI.1 h).1]
  exact h
theorem Arg.Hb: ∀ {as:List Arg} {σ:List IV} {vs:List IV},aQ σ as=some vs-> ∀ (ys:List IV),aQ (σ++ys) as=some vs
 | [],σ,vs,h,ys=>h
 | a::as,σ,vs,h,ys=>by
  simp only[aQ,aZ,aC,bE,aB]at h ⊢
  obtain⟨x,b,xs,c,d⟩:=h
  exact⟨x,Arg.Iq b ys,xs,Arg.Hb c ys,d⟩
structure Aa9 (m:List (Option Arg))(ρ σ:List IV):Prop where
 len:m.length=ρ.length
 val: ∀ (i:Nat) (a:Arg),m[i]?=some (some a)-> ∃v,ρ[i]?=some v/\a.ev σ=some v
def A2f (av:List Av)(σ:List IV):Prop:= ∀e∈av,∃v,(aQ σ e.as).bind e.p.ev=some v/\e.a.ev σ=some v
structure A4h (s:TS)(ρ σ:List IV):Prop where
 mp:Aa9 s.m ρ σ
 av:A2f s.av σ
 n:σ.length=s.n
theorem Aa9.arg {m:List (Option Arg)}{ρ σ:List IV}(h:Aa9 m ρ σ){a b:Arg}(e:mapArg m a=some b):b.ev σ=a.ev ρ:=by
 cases a with
 | k c=>simp[mapArg]at e;subst e;rfl
 | v i=>
  simp only[mapArg,bV]at e
  obtain⟨v,d,g⟩:=h.val i b e
  rw[g];exact d.symm
theorem Aa9.args {m:List (Option Arg)}{ρ σ:List IV}(h:Aa9 m ρ σ): ∀ {as as':List Arg},mapArgs m as=some as'->aQ σ as'=aQ ρ as
 | [],as',e=>by simp[mapArgs]at e;subst e;rfl
 | a::as,as',e=>by
  simp only[mapArgs,aZ,aC,bE,aB]at e
  obtain⟨x,b,xs,c,rfl⟩:=e
  simp only[aQ]
  rw[h.arg b,h.args c]
theorem Aa9.ext {m:List (Option Arg)}{ρ σ:List IV}(h:Aa9 m ρ σ)(ms:List (Option Arg))(xs ys:List IV)(g:ms.length=xs.length)(j: ∀ (i:Nat) (a:Arg),ms[i]?=some (some a)-> ∃v,xs[i]?=some v/\a.ev (σ++ys)=some v):Aa9 (m++ms) (ρ++xs) (σ++ys):=by
 refine⟨by simp[h.len,g],λi a e=>?_⟩
 by_cases d:i<m.length
 ·rw[bB d]at e
  obtain⟨v,b,c⟩:=h.val i a e
  exact⟨v,by rw[bB (by rw[<-h.len];exact d)];exact b,Arg.Iq c ys⟩
 ·rw[aW (by omega)]at e
  obtain⟨v,b,c⟩:=j _ _ e
  refine⟨v,?_,c⟩
  rw[aW (by rw[<-h.len];omega),<-h.len];exact b
theorem A2f.ext {av:List Av}{σ:List IV}(h:A2f av σ)(ys:List IV):A2f av (σ++ys):=λe b=>by
 obtain⟨v,a,c⟩:=h e b
 refine⟨v,?_,Arg.Iq c ys⟩
 rw[aC]at a ⊢
 obtain⟨xs,d,g⟩:=a
 exact⟨xs,Arg.Hb d ys,g⟩
theorem Rn: ∀ (k n i:Nat),(newArgs n k)[i]?=if i<k then some (some (.v (n+i))) else none
 | 0,n,i=>by simp[newArgs]
 | k+1,n,0=>by simp[newArgs]
 | k+1,n,i+1=>by
  simp only[newArgs,bW]
  rw[Rn k (n+1) i]
  simp only[Nat.add_lt_add_iff_right,Nat.add_assoc,Nat.add_comm 1 i]
theorem Nt: ∀ (k n:Nat),(newArgs n k).length =k
 | 0,_=>rfl
 | k+1,n=>by simp[newArgs,Nt k]
theorem A4h.grow {s:TS}{ρ σ:List IV}(h:A4h s ρ σ)(xs:List IV):A4h ⟨s.m++newArgs s.n xs.length,s.av,s.n+xs.length⟩ (ρ++xs) (σ++xs):=by
 refine⟨h.mp.ext _ _ _ (by simp[Nt]) (λi a e=>?_),h.av.ext _,by simp[h.n]⟩
 rw[Rn]at e
 split at e
 ·rename_i b
  simp only[aB]at e
  subst e
  refine⟨xs[i],by simp[b],?_⟩
  simp only[dC]
  rw[aW (by rw[h.n];omega),h.n]
  simp[b]
 ·cases e
theorem Arg.Rr {a b:Arg}(h:a.same b=true):a=b:=by
 unfold Arg.same at h
 split at h<;>simp_all
theorem Arg.Aoq: ∀ {as bs:List Arg},Arg.Aqd as bs=true->as=bs
 | [],[],_=>rfl
 | a::as,b::bs,h=>by
  simp only[Arg.Aqd,aD]at h
  rw[Arg.Rr h.1,Arg.Aoq h.2]
 | [],_::_,h=>by simp[Arg.Aqd]at h
 | _::_,[],h=>by simp[Arg.Aqd]at h
theorem Prim.Rr {p q:Prim}(h:p.same q=true):p=q:=by
 unfold Prim.same at h
 split at h<;>simp_all
theorem A0h: ∀ {as:List Arg} {σ:List IV} {xs:List IV},aQ σ as=some xs-> ∀ (i:Nat) (a:Arg),as[i]?=some a-> ∃v,xs[i]?=some v/\a.ev σ=some v
 | [],σ,xs,h,i,a,e=>by simp at e
 | b::as,σ,xs,h,i,a,e=>by
  simp only[aQ,aZ,aC,bE,aB]at h
  obtain⟨x,c,ys,d,rfl⟩:=h
  cases i with
  | zero=>simp at e;subst e;exact⟨x,by simp,c⟩
  | succ i=>
   simp only[bW]at e ⊢
   exact A0h d i a e
theorem Ai7 {p:Prim}{as:List Arg}{a:Arg}{σ:List IV} : ∀ {av:List Av},A2f av σ->Ahw p as av=some a-> ∃v,(aQ σ as).bind p.ev=some v/\a.ev σ=some v
 | [],_,h=>by simp[Ahw]at h
 | e::r,b,h=>by
  simp only[Ahw]at h
  split at h
  ·rename_i c
   rw[aD]at c
   injection h with h
   subst h
   rw[<-Prim.Rr c.1,<-Arg.Aoq c.2]
   exact b e (by simp)
  ·exact Ai7 (λe d=>b e (by simp[d])) h
theorem Aj4 {x:Arg}{i:Nat}{a:Arg}{σ:List IV} : ∀ {av:List Av},A2f av σ->Agj x i av=some a-> ∃v,(aQ σ [x]).bind (Prim.proj i 1 false).ev =some v/\a.ev σ=some v
 | [],_,h=>by simp[Agj]at h
 | e::r,b,h=>by
  simp only[Agj]at h
  split at h
  ·rename_i c
   rw[aD]at c
   obtain⟨v,d,j⟩:=b e (by simp)
   rw[<-Prim.Rr c.1,aC]at d
   obtain⟨xs,m,g⟩:=d
   simp only[aE,aB]at g
   obtain⟨u,o,q⟩:=A0h m i a h
   refine⟨u,?_,q⟩
   rw[<-Arg.Rr c.2]
   simp[aQ,j,<-g,aE,o]
  ·exact Aj4 (λe t=>b e (by simp[t])) h
theorem look_ok {p:Prim}{as:List Arg}{a:Arg}{σ:List IV}{av:List Av}(b:A2f av σ)(h:look p as av=some a): ∃v,(aQ σ as).bind p.ev=some v/\a.ev σ=some v:=by
 unfold look at h
 split at h
 ·rename_i c
  injection h with h
  subst h
  exact Ai7 b c
 ·split at h
  ·exact Aj4 b h
  ·cases h
theorem Ad1 (R:Job->List IV->Option (List IV))(c:Arg)(w:Bool): ∀ (ls:List Mm) (ρ:List IV),(∀b,c.ev ρ=some (.bool b)->
  Dj R ls ρ=(Dj R (if b=w then(N5 c w ls).1 else[]) ρ).bind λρ'=>Dj R (N5 c w ls).2 (if b=w then ρ' else ρ++bF (arities (N5 c w ls).1) .junk))
 | [],ρ,b,e=>by
  by_cases a:b=w<;>simp[N5,Dj,arities,a]
 | ⟨[],l⟩::ls,ρ,b,e=>by
  by_cases a:b=w<;>simp[N5,Dj,arities,a]
 | ⟨(c',w')::gs,l⟩::ls,ρ,b,e=>by
  by_cases i:(c.same c'&&w == w')=true
  ·have d:=i
   rw[aD,beq_iff_eq]at d
   have e1:=Arg.Rr d.1
   obtain⟨_,j⟩:=d
   subst e1 j
   simp only[N5,i,Zt]
   by_cases a:b=w
   ·have h:=λxs=>Ad1 R c w ls (ρ++xs) b (Arg.Iq e xs)
    simp only[a,Zt]at h ⊢
    simp only[Dj,dB,cM,e,a,Zt,aT]
    congr 1
    funext g
    congr 1
    funext xs
    exact h xs
   ·have h:=Ad1 R c w ls (ρ++bF l.arity .junk) b (Arg.Iq e _)
    simp only[a,Zf,Dj,aA]at h ⊢
    simp only[dB,cM,e,a,Zf,aA,aG,arities]
    rw[h,aF,List.replicate_append_replicate]
  ·simp only[N5,i,Zf,aG]
   by_cases a:b=w<;>simp[arities,Dj,a]
theorem Ars (R:Job->List IV->Option (List IV)){c:Arg}{w:Bool}{gs:List (Arg × Bool)}{l:O0}{ls:List Mm}{ρ:List IV}(a: ∀b,c.ev ρ≠some (.bool b)):Dj R (⟨(c,w)::gs,l⟩::ls) ρ=none:=by
 have:cM ρ ((c,w)::gs)=none:=by
  simp only[cM]
 simp[Dj,dB,this]
theorem Adr {α:Type}(R:Job->List IV->Option (List IV)){c:Arg}{w:Bool}{B k:SB}{y x:Arg}{σ:List IV}{K:List IV->Option α}(a: ∀b,c.ev σ≠some (.bool b)):(SB.sel c w B y x k).runK R σ K=none:=by
 have: ∀ (p q:Option IV),((c.ev σ).bind λc=>cnd c p q)=none:=by
  intro p q
  cases h:c.ev σ with
  | none=>rfl
  | some v=>
   cases v with
   | bool b=>exact absurd h (a b)
   | _=>rfl
 cases w<;>simp only[SB.runK,this,Option.bind_none]
theorem SB.Ayb {α:Type}(R:Job->List IV->Option (List IV)){c:Arg}{w b:Bool}{B k:SB}{y x:Arg}{σ:List IV}{K:List IV->Option α}(a:c.ev σ=some (.bool b)):
  (SB.sel c w B y x k).runK R σ K=(if b=w then B.runK R σ λτ=>y.ev τ else x.ev σ).bind λv=>k.runK R (σ++ [v]) K:=by
 cases w<;>cases b<;>simp[SB.runK,a,cnd]
theorem SB.Ps (R:Job->List IV->Option (List IV)): ∀ (B:SB) {α β:Type} (σ:List IV) (K:List IV->Option α) (f:α->Option β),(B.runK R σ K).bind f=B.runK R σ λτ=>(K τ).bind f
 | .done,_,_,σ,K,f=>rfl
 | .Cb p as k,_,_,σ,K,f=>by
  simp only[SB.runK,aT]
  congr 1;funext v;congr 1;funext x
  exact Ps R k _ K f
 | .call s as n k,_,_,σ,K,f=>by
  simp only[SB.runK,calls,aT]
  congr 1;funext v;congr 1;funext xs
  rw[uncurry_curry,uncurry_curry]
  split
  ·exact Ps R k _ K f
  ·rfl
 | .sel c true B y x k,_,_,σ,K,f=>by
  simp only[SB.runK,aT]
  congr 1;funext v;congr 1;funext u
  exact Ps R k _ K f
 | .sel c false B y x k,_,_,σ,K,f=>by
  simp only[SB.runK,aT]
  congr 1;funext v;congr 1;funext u
  exact Ps R k _ K f
theorem Aa9.Aec {m:List (Option Arg)}{ρ σ:List IV}(h:Aa9 m ρ σ){a b:Arg}(e:mapArg m a=some b): ∃v,a.ev ρ=some v/\b.ev σ=some v:=by
 cases a with
 | k c=>simp[mapArg]at e;subst e;exact⟨c,rfl,rfl⟩
 | v i=>
  simp only[mapArg,bV]at e
  exact h.val i b e
theorem Afm (c:Arg)(w:Bool): ∀ (ls:List Mm),arities ls=arities (N5 c w ls).1 +arities (N5 c w ls).2
 | []=>rfl
 | ⟨[],l⟩::ls=>by simp[N5,arities]
 | ⟨(c',w')::gs,l⟩::ls=>by
  simp only[N5]
  split
  ·simp only[arities]
   rw[Afm c w ls]
   omega
  ·simp[arities]
theorem Xw: ∀ (f:Nat) (ls:List Mm) (s:TS) (B:SB) (s':TS),trL f ls s=some (B,s')->s'.m.length=s.m.length+arities ls
 | 0,_,_,_,_,e=>by simp[trL]at e
 | f+1,[],s,B,s',e=>by
  simp only[trL,aB,aN]at e
  rw[<-e.2];rfl
 | f+1,⟨[],.Cb p as⟩::ls,s,B,s',e=>by
  simp only[trL]at e
  split at e
  ·cases e
  split at e
  ·have:=Xw f _ _ _ _ e
   simp[arities,cN]at this ⊢;omega
  ·simp only[aH]at e
   obtain⟨⟨B1,d⟩,e1,a⟩:=e
   simp only[aN]at a
   obtain⟨rfl,rfl⟩:=a
   have:=Xw f _ _ _ _ e1
   simp[arities,cN]at this ⊢;omega
 | f+1,⟨[],.call t as k⟩::ls,s,B,s',e=>by
  simp only[trL]at e
  split at e
  ·cases e
  simp only[aH]at e
  obtain⟨⟨B1,d⟩,e1,a⟩:=e
  simp only[aN]at a
  obtain⟨rfl,rfl⟩:=a
  have:=Xw f _ _ _ _ e1
  simp[arities,cN,Nt]at this ⊢;omega
 | f+1,⟨(c,w)::gs,l⟩::ls,s,B,s',e=>by
  simp only[trL]at e
  split at e
  rotate_left
  ·cases e
  rename_i c' x y rest b
  split at e
  rotate_left
  ·cases e
  split at e
  rotate_left
  ·cases e
  split at e
  rotate_left
  ·cases e
  simp only[aH]at e
  obtain⟨⟨B2,g⟩,e1,a⟩:=e
  simp only[aN]at a
  obtain⟨rfl,rfl⟩:=a
  have:=Xw f _ _ _ _ e1
  rw[Afm c w,b]
  simp[arities,cN]at this ⊢;omega
theorem V6 (R:Job->List IV->Option (List IV)): ∀ (f:Nat) (ls:List Mm) (s:TS) (B:SB) (s':TS),trL f ls s=some (B,s')-> ∀ (ρ σ:List IV),A4h s ρ σ->
  ∀ {α:Type} (K K':List IV->Option α),(∀xs ys,xs.length=arities ls->A4h s' (ρ++xs) (σ++ys)->K (ρ++xs)=K' (σ++ys))->(Dj R ls ρ).bind K=B.runK R σ K'
 | 0,_,_,_,_,e,_,_,_,_,_,_,_=>by simp[trL]at e
 | f+1,[],s,B,s',e,ρ,σ,h,α,K,K',A=>by
  simp only[trL,aB,aN]at e
  obtain⟨rfl,rfl⟩:=e
  have:=A [] [] rfl (by simpa using h)
  simpa [Dj,SB.runK]using this
 | f+1,⟨[],.Cb p as⟩::ls,s,B,s',e,ρ,σ,h,α,K,K',A=>by
  simp only[trL]at e
  split at e
  ·cases e
  rename_i as' has
  have G:=h.mp.args has
  have J:Dj R (⟨[],.Cb p as⟩::ls) ρ=((aQ σ as').bind p.ev).bind λx=>Dj R ls (ρ++ [x]):=by
   simp only[Dj,dB,cM,aA,Zt,dK,G]
   cases(aQ ρ as).bind p.ev<;>rfl
  rw[J,aT]
  split at e
  ·rename_i a ha
   obtain⟨v,h1,N⟩:=look_ok h.av ha
   rw[h1,aA]
   refine V6 R f ls _ B s' e (ρ++ [v]) σ ⟨?_,h.av,h.n⟩ K K' (λxs ys g o=>?_)
   ·have:=h.mp.ext [some a] [v] [] rfl (λi a' d=>by
     cases i with
     | zero=>simp at d;subst d;exact⟨v,by simp,by simpa using N⟩
     | succ i=>simp at d)
    simpa using this
   ·have:=A ([v]++xs) ys (by simp[arities,cN,g];omega) (by rw[<-aF];exact o)
    rwa [<-aF]at this
  ·simp only[aH]at e
   obtain⟨⟨B1,Q⟩,e1,C⟩:=e
   simp only[aN]at C
   obtain⟨rfl,rfl⟩:=C
   simp only[SB.runK]
   cases hv:(aQ σ as').bind p.ev with
   | none=>rfl
   | some v=>
    simp only[aA]
    refine V6 R f ls _ B1 Q e1 (ρ++ [v]) (σ++ [v]) ⟨(h.grow [v]).mp,?_,(h.grow [v]).n⟩ K K' (λxs ys g o=>?_)
    ·intro e S
     rcases aI.1 S with rfl | S
     ·refine⟨v,?_,by simp[dC,<-h.n]⟩
      rw[aC]at hv ⊢
      obtain⟨xs,r,T⟩:=hv
      exact⟨xs,Arg.Hb r _,T⟩
     ·exact h.av.ext [v] e S
    ·have:=A ([v]++xs) ([v]++ys) (by simp[arities,cN,g];omega) (by rw[<-aF,<-aF];exact o)
     rwa [<-aF,<-aF]at this
 | f+1,⟨[],.call t as k⟩::ls,s,B,s',e,ρ,σ,h,α,K,K',A=>by
  simp only[trL]at e
  split at e
  ·cases e
  rename_i as' has
  have G:=h.mp.args has
  simp only[aH]at e
  obtain⟨⟨B1,Q⟩,e1,C⟩:=e
  simp only[aN]at C
  obtain⟨rfl,rfl⟩:=C
  simp only[SB.runK,calls,Dj,dB,cM,aA,Zt,dK,G,aT]
  congr 1;funext vs;congr 1;funext ys
  rw[uncurry_curry]
  by_cases g:ys.length=k
  ·subst g
   simp only[Zt,aA]
   refine V6 R f ls _ B1 Q e1 (ρ++ys) (σ++ys) (h.grow ys) K K' (λxs zs g o=>?_)
   have:=A (ys++xs) (ys++zs) (by simp[arities,cN,g]) (by rw[<-aF,<-aF];exact o)
   rwa [<-aF,<-aF]at this
  ·simp[g]
 | f+1,⟨(c,w)::gs,l⟩::ls,s,B,s',e,ρ,σ,h,α,K,K',A=>by
  simp only[trL]at e
  split at e
  rotate_left
  ·cases e
  rename_i c' x y rest j
  split at e
  rotate_left
  ·cases e
  rename_i H
  have H:=Arg.Rr H
  subst H
  split at e
  rotate_left
  ·cases e
  rename_i c1 B1 sB xv U hB I
  split at e
  rotate_left
  ·cases e
  rename_i yv z
  simp only[aH]at e
  obtain⟨⟨B2,s2⟩,e1,C⟩:=e
  simp only[aN]at C
  obtain⟨rfl,rfl⟩:=C
  have L:=h.mp.arg U
  have aa:=h.mp.arg I
  by_cases F: ∃b,c.ev ρ=some (.bool b)
  rotate_left
  ·rw[Ars R (λb M=>F ⟨b,M⟩),Adr R (λb M=>F ⟨b,by rw[<-L];exact M⟩)]
   rfl
  obtain⟨b,F⟩:=F
  rw[Ad1 R c w _ ρ b F,SB.Ayb R (L.trans F),j]
  -- what follows the choice
  have next: ∀ (js:List IV) (v:IV),js.length=arities (N5 c w (⟨(c,w)::gs,l⟩::ls)).1 ->(Dj R rest (ρ++js++ [v])).bind K=B2.runK R (σ++ [v]) K':=by
   intro js v m
   refine V6 R f rest _ B2 s2 e1 (ρ++js++ [v]) (σ++ [v]) ⟨?_,h.av.ext _,by simp[h.n]⟩ K K' (λxs ys g o=>?_)
   ·have:=h.mp.ext (bF (arities (N5 c w (⟨(c,w)::gs,l⟩::ls)).1) none++ [some (.v s.n)]) (js++ [v]) [v] (by simp[m]) (λi a d=>by
     by_cases X:i<js.length
     ·rw[bB (by simp[<-m,X]),List.getElem?_replicate]at d
      split at d<;>simp at d
     ·rw[aW (by simp[<-m];omega)]at d
      simp only[cX,<-m]at d
      cases Y:i - js.length with
      | zero=>
       rw[Y]at d
       simp at d
       subst d
       refine⟨v,?_,by simp[dC,<-h.n]⟩
       rw[aW (by omega),Y];rfl
      | succ q=>rw[Y]at d;simp at d)
    rw[aF,aF];exact this
   ·have:=A (js++ [v]++xs) ([v]++ys) (by rw[Afm c w,j];simp[arities,cN,g,m];omega) (by simpa using o)
    simpa using this
  have pickE: ∀ (ρ':List IV),c.ev ρ'=some (.bool b)-> ∀K2:List IV->Option α,(Dj R (⟨[],.Cb .pick [c,x,y]⟩::rest) ρ').bind K2=((x.ev ρ').bind λxv=>(y.ev ρ').bind λyv=>some (if b then xv else yv)).bind λv=>(Dj R rest (ρ'++ [v])).bind K2:=by
   intro ρ' M K2
   simp only[Dj,dB,cM,aA,Zt,dK,aQ,M,aZ,bE]
   cases x.ev ρ' with
   | none=>rfl
   | some xv=>
    cases y.ev ρ' with
    | none=>rfl
    | some yv=>rfl
  by_cases Z:b=w
  ·subst Z
   simp only[Zt]
   rw[aT,SB.Ps]
   refine V6 R f _ s B1 sB hB ρ σ h _ _ (λxs ys g o=>?_)
   obtain⟨v,h1,N⟩:=o.mp.Aec z
   obtain⟨u,r,_⟩:=h.mp.Aec I
   have r:=Arg.Iq r xs
   rw[pickE _ (Arg.Iq F xs),N,aA,<-next xs v g]
   cases b<;>simp_all
  ·simp only[Z,Zf]
   rw[Dj,aA]
   rw[pickE _ (Arg.Iq F _)]
   obtain⟨u,r,T⟩:=h.mp.Aec I
   have r:=Arg.Iq r (bF (arities (N5 c w (⟨(c,w)::gs,l⟩::ls)).1) IV.junk)
   have hlen:=Xw f _ _ _ _ hB
   have: ∃v,(if w then x else y).ev (ρ++bF (arities (N5 c w (⟨(c,w)::gs,l⟩::ls)).1) IV.junk)=some v:=by
    generalize (if w then x else y)=a at z
    cases a with
    | k c=>exact⟨c,rfl⟩
    | v i=>
     simp only[mapArg,bV]at z
     have:=(bI.1 z).1
     simp only[dC]
     rw[hlen,h.mp.len]at this
     exact⟨_,aX (by simpa using this)⟩
   obtain⟨v,h5⟩:=this
   rw[T,aA,<-next (bF _ IV.junk) u cX]
   cases b<;>cases w<;>first
    | exact absurd rfl Z
    | (simp only[Zt,Zf,aG]at r h5 ⊢;simp only[r,h5,aA])
theorem Am0 (R:Job->List IV->Option (List IV))(s:Nat)(f:Nat): ∀ (pt:PT) (acc:List Mm) (t:TS) (st:ST),trT f pt acc t=some st-> ∀ (ρ σ:List IV),A4h t ρ σ->
  ((Dj R acc ρ).bind λρ'=>pt.den R s ρ')=st.den R s σ
 | .lets l k,acc,t,st,e,ρ,σ,h=>by
  have i:=Am0 R s f k (acc++ [l]) t st e ρ σ h
  rw[<-i,Ra,aT]
  congr 1;funext ρ'
  simp only[cJ,Dj,aT]
  rfl
 | .ite c p q,acc,t,st,e,ρ,σ,h=>by
  simp only[trT]at e
  split at e
  ·cases e
  rename_i B s' d
  split at e
  rotate_left
  ·cases e
  rename_i c' m o r hp u
  injection e with e
  subst e
  simp only[ST.den]
  refine V6 R f acc t B s' d ρ σ h _ _ (λxs ys _ a=>?_)
  have ihp:=Am0 R s f p [] s' m hp _ _ a
  have ihq:=Am0 R s f q [] s' o u _ _ a
  simp only[Dj,aA]at ihp ihq
  rw[<-ihp,<-ihq,a.mp.arg r]
  simp only[cJ]
  cases w:c.ev (ρ++xs) with
  | none=>rfl
  | some v=>
   cases v with
   | bool b=>cases b<;>rfl
   | _=>rfl
 | .jump j as,acc,t,st,e,ρ,σ,h=>by
  simp only[trT]at e
  split at e
  ·cases e
  rename_i B s' d
  simp only[aH]at e
  obtain⟨as',g,rfl⟩:=e
  simp only[ST.den]
  refine V6 R f acc t B s' d ρ σ h _ _ (λxs ys _ a=>?_)
  rw[a.mp.args g];rfl
 | .ret as,acc,t,st,e,ρ,σ,h=>by
  simp only[trT]at e
  split at e
  ·cases e
  rename_i B s' d
  simp only[aH]at e
  obtain⟨as',g,rfl⟩:=e
  simp only[ST.den]
  refine V6 R f acc t B s' d ρ σ h _ _ (λxs ys _ a=>?_)
  rw[a.mp.args g];rfl
theorem A7l {R:Job->List IV->Option (List IV)}{s:Nat}{pt:PT}{st:ST}{xs:List IV}(h:tr xs.length pt=some st):pt.den R s xs=st.den R s xs:=by
 have:=Am0 R s 5000 pt [] _ st h xs xs ⟨⟨by simp[Nt],λi a e=>by
  rw[Rn]at e
  split at e
  ·simp only[aB]at e
   subst e
   rename_i b
   exact⟨xs[i],by simp[b],by simp[dC,b]⟩
  ·cases e⟩,λe c=>by simp at c,rfl⟩
 simpa [Dj]using this
end Go.CT
namespace Go.CT
def Afc (i:Nat):List (Nat × Spec)->Option Spec
 | []=>none
 | (k,s)::r=>if k == i then some s else Afc i r
section
variable (P:Program)
structure EntD where
 fn:Func
 root:Code
 st:St
 bks:List Nat
def A1m (s:Spec):Option EntD:=
 match P.funcs[s.fn]? with
 | none=>none
 | some fn=>
  match fn.body with
  | none=>none
  | some root=>
   match Yh P s.params with
   | some r=>if r.1.tm.length<=fn.ntmps then some ⟨fn,root,r.1,r.2⟩else none
   | none=>none
def tab (specs:List (Nat × Spec))(S1:Nat->List Blk)(fuel:Nat)(j:Job):Option PT:=
 match Afc j.spec specs with
 | none=>none
 | some s=>
  match A1m P s with
  | none=>none
  | some e=>
   match j.blk with
   | 0=>comp P specs e.fn.ntmps ⟨s.results,e.fn.results.toList,s.params.filter dF,e.bks⟩ (S1 j.spec) fuel true [.code [] e.root] e.st
   | n+1=>
    match (S1 j.spec)[n]? with
    | none=>none
    | some b=>(Ta e.root b.key).bind λtodo=>comp P specs e.fn.ntmps ⟨s.results,e.fn.results.toList,s.params.filter dF,e.bks⟩ (S1 j.spec) fuel true todo b.st
def Pb:List (Nat × Spec)->Bool
 | []=>true
 | (k,_)::r=>r.all (λq=>q.1 !=k)&&Pb r
def A3w (specs:List (Nat × Spec)):Bool:=specs.all λq=>match P.funcs[q.2.fn]? with | some fn=> !(fn.name == "runtime.NumGoroutine") | none=>true
end
theorem Xv {i:Nat}{s:Spec} : ∀ {specs:List (Nat × Spec)},Pb specs=true->(i,s)∈specs->Afc i specs=some s
 | [],_,h=>by cases h
 | (k,s')::r,a,h=>by
  simp only[Pb,aD,aY,bne_iff_ne]at a
  simp only[Afc]
  rcases aI.1 h with e | h
  ·injection e with e1 b
   subst e1 b
   simp
  ·have: ¬ k=i:=λe=>a.1 _ h e.symm
   simp[this,Xv a.2 h]
theorem Vy {i:Nat}{s:Spec} : ∀ {specs:List (Nat × Spec)},Afc i specs=some s->(i,s)∈specs
 | [],h=>by cases h
 | (k,s')::r,h=>by
  simp only[Afc]at h
  split at h
  ·rename_i e
   simp only[beq_iff_eq]at e
   injection h with h
   subst e h
   simp
  ·exact aV _ (Vy h)
theorem As7 {P:Program}{specs:List (Nat × Spec)}{S1:Nat->List Blk}{fuel:Nat}{pr:Nat->Option (List IV->Option (List IV))}(q:P.follows .mixedOrders =true)(t:Pb specs=true)(j:A3w P specs=true)
  (m: ∀i s f,(i,s)∈specs->pr i=some f->Abp P f s): ∀k,Sound P specs (run (tab P specs S1 fuel) pr k):=by
 refine sound q λi s c=>?_
 cases hp:pr i with
 | some f=>exact .inl ⟨f,rfl,m i s f c hp⟩
 | none=>
  refine .inr ⟨rfl,?_⟩
  have o:=Xv t c
  cases a:A1m P s with
  | none=>exact .inl λb=>by simp only[tab,o,a]
  | some e=>
   have g:=a
   unfold A1m at a
   split at a
   ·cases a
   rename_i fn h
   split at a
   ·cases a
   rename_i root d
   split at a
   rotate_left
   ·cases a
   rename_i r u
   split at a
   rotate_left
   ·cases a
   rename_i hlen
   injection a with a
   subst a
   refine .inr ⟨fn,root,⟨s.results,fn.results.toList,s.params.filter dF,r.2⟩,S1 i,r.1,fuel,⟨h,?_,d,rfl,rfl,rfl,hlen,u,?_,?_⟩⟩
   ·have:=aY.1 j _ c
    simp only[h]at this
    simpa using this
   ·simp only[tab,o,g]
   ·intro n b w
    simp only[tab,o,g,w]
theorem Vg {P:Program}{specs:List (Nat × Spec)}{S1:Nat->List Blk}{fuel:Nat}{pr:Nat->Option (List IV->Option (List IV))}{i b:Nat}{xs:List IV}{e:Option (List IV)}(hp:pr i=none)
  (h:((tab P specs S1 fuel ⟨i,b⟩).bind (tr xs.length)).map (λst=>st.den (V (tab P specs S1 fuel) pr) i xs)=some e):V (tab P specs S1 fuel) pr ⟨i,b⟩ xs=e:=by
 rw[Agw]
 simp only[hp]
 cases a:tab P specs S1 fuel ⟨i,b⟩with
 | none=>rw[a]at h;simp at h
 | some pt=>
  rw[a]at h
  simp only[aA,aH]at h
  obtain⟨st,c,d⟩:=h
  simp only
  rw[A7l c,d]
end Go.CT
namespace Go.CT.O
def proj (i:Nat)(x:IV):Option IV:=aE (.proj i 1 false) [x]
def projs (i n:Nat)(x:IV):Option IV:=aE (.proj i n true) [x]
def add (k:IntKind)(x y:IV):Option IV:=aE (.arith .add k) [x,y]
def sub (k:IntKind)(x y:IV):Option IV:=aE (.arith .sub k) [x,y]
def mul (k:IntKind)(x y:IV):Option IV:=aE (.arith .mul k) [x,y]
def quo (k:IntKind)(x y:IV):Option IV:=aE (.quo k) [x,y]
def rem (k:IntKind)(x y:IV):Option IV:=aE (.rem k) [x,y]
def eq (x y:IV):Option IV:=aE (.cmp .eql) [x,y]
def ne (x y:IV):Option IV:=aE (.cmp .neq) [x,y]
def lt (x y:IV):Option IV:=aE (.cmp .lss) [x,y]
def le (x y:IV):Option IV:=aE (.cmp .leq) [x,y]
def gt (x y:IV):Option IV:=aE (.cmp .gtr) [x,y]
def ge (x y:IV):Option IV:=aE (.cmp .geq) [x,y]
def sEq (x y:IV):Option IV:=aE (.cmpS .eql) [x,y]
def sNe (x y:IV):Option IV:=aE (.cmpS .neq) [x,y]
def sLt (x y:IV):Option IV:=aE (.cmpS .lss) [x,y]
def sLe (x y:IV):Option IV:=aE (.cmpS .leq) [x,y]
def sGt (x y:IV):Option IV:=aE (.cmpS .gtr) [x,y]
def sGe (x y:IV):Option IV:=aE (.cmpS .geq) [x,y]
def cat (x y:IV):Option IV:=aE .cat [x,y]
def bEq (x y:IV):Option IV:=aE (.eqB false) [x,y]
def bNe (x y:IV):Option IV:=aE (.eqB true) [x,y]
def aEq (x y:IV):Option IV:=aE (.eqA false) [x,y]
def aNe (x y:IV):Option IV:=aE (.eqA true) [x,y]
def not (x:IV):Option IV:=aE .not [x]
def neg (k:IntKind)(x:IV):Option IV:=aE (.neg k) [x]
def conv (k:IntKind)(x:IV):Option IV:=aE (.conv k) [x]
def len (x:IV):Option IV:=aE .len [x]
def Ato (x:IV):Option IV:=aE .Ato [x]
def index (x i:IV):Option IV:=aE .index [x,i]
def M3 (x i:IV):Option IV:=aE .M3 [x,i]
def slice (x l h:IV):Option IV:=aE .slice [x,l,h]
def Nj (x l:IV):Option IV:=aE .Nj [x,l]
def Ov (x l h:IV):Option IV:=aE .Ov [x,l,h]
def Jo (x l:IV):Option IV:=aE .Jo [x,l]
def append (n:Nat)(x y:IV):Option IV:=aE (.append n) [x,y]
def Mc (x y:IV):Option IV:=aE .Mc [x,y]
def Sg (xs:List IV):Option IV:=some (.agg xs)
def Ou (xs:List IV):Option IV:=some (.list xs)
def setAt (o n:Nat)(a w:Bool)(x i y:IV):Option IV:=aE (.setAt o n a w) [x,i,y]
def max (x y:IV):Option IV:=aE .max [x,y]
def min (x y:IV):Option IV:=aE .min [x,y]
def pick (c x y:IV):Option IV:=aE .pick [c,x,y]
def Akk (n:Nat)(z l c:IV):Option IV:=aE (.Akk n z) [l,c]
def bytesOf (x:IV):Option IV:=aE .bytesOf [x]
def strOf (x:IV):Option IV:=aE .strOf [x]
def clear (z x l h:IV):Option IV:=aE (.clear z) [x,l,h]
def copy (x l y:IV):Option IV:=aE .copy [x,l,y]
def Of (n:Nat)(x y:IV):Option IV:=aE (.Of n) [x,y]
def Ak7 (x:IV):Option IV:=aE .Ak7 [x]
def Oq (x y:IV):Option IV:=aE .Oq [x,y]
def Ow (x y:IV):Option IV:=aE .Ow [x,y]
def H8 (x y:IV):Option IV:=aE .H8 [x,y]
def Aoh (z x y:IV):Option IV:=aE (.Aoh z) [x,y]
def Aku (x y:IV):Option IV:=aE .Aku [x,y]
def Ap5 (x y z:IV):Option IV:=aE .Ap5 [x,y,z]
def Mw:List IV->Option (List IV)
 | [.list xs]=>some [.list xs]
 | _=>none
def U6:List IV->Option (List IV)
 | [.list xs]=>(xs.mapM Lo).map λl=> [.str ⟨l.toArray⟩]
 | _=>none
def Azg:List IV->Option (List IV):=λ_=>none
def M7 (n:Nat):ByteArray:=if n<10 then⟨#[(48+n).toUInt8]⟩else⟨#[(48+n / 10).toUInt8,(48+n % 10).toUInt8]⟩
def Asa:List IV->Option (List IV)
 | [.int n]=>if 0<=n/\n<100 then some [.str (M7 n.toNat)]else none
 | _=>none
def Awx:List IV->Option (List IV)
 | [.list xs]=>some [.list xs]
 | _=>none
def Ir:List IV->Option (List IV)
 | [.list xs]=>if xs.length<=1048576 * 1024 then some [.list xs]else none
 | _=>none
section
variable {k:IntKind}{a b c i l h:Int}{p q:Bool}{s t:ByteArray}{xs ys:List IV}{n o:Nat}{x y:IV}
@[simp] theorem A6y:proj n (.agg xs)=xs[n]?:=rfl
@[simp] theorem A4k:projs o n (.agg xs)=some (.agg ((xs.drop o).take n)):=rfl
@[simp] theorem An:add k (.int a) (.int b)=some (.int (k.wrap (a+b))):=rfl
@[simp] theorem C7:sub k (.int a) (.int b)=some (.int (k.wrap (a - b))):=rfl
@[simp] theorem Uy:mul k (.int a) (.int b)=some (.int (k.wrap (a * b))):=rfl
@[simp] theorem A2j:quo k (.int a) (.int b)=if b=0 then none else some (.int (k.wrap (a.tdiv b))):=rfl
@[simp] theorem A1l:rem k (.int a) (.int b)=if b=0 then none else some (.int (a.tmod b)):=rfl
@[simp] theorem eq_int:eq (.int a) (.int b)=some (.bool (decide (a=b))):=by simp[eq,aE,Nb];rfl
@[simp] theorem Ci:ne (.int a) (.int b)=some (.bool (!decide (a=b))):=by simp[ne,aE,Nb];rfl
@[simp] theorem Ah:lt (.int a) (.int b)=some (.bool (decide (a<b))):=rfl
@[simp] theorem Gk:le (.int a) (.int b)=some (.bool (decide (a<=b))):=rfl
@[simp] theorem B8:gt (.int a) (.int b)=some (.bool (decide (b<a))):=rfl
@[simp] theorem Hu:ge (.int a) (.int b)=some (.bool (decide (b<=a))):=rfl
theorem Uv:s.toList=t.toList↔s=t:=by
 constructor
 ·intro h
  rw[ByteArray.toList_eq,ByteArray.toList_eq]at h
  cases s;cases t
  simpa using h
 ·rintro rfl;rfl
@[simp] theorem C4:sEq (.str s) (.str t)=some (.bool (decide (s=t))):=by
 have:(s.toList == t.toList)=decide (s=t):=by
  rw[cK,beq_iff_eq,decide_eq_true_iff];exact Uv
 simp[sEq,aE,Mo,this]
@[simp] theorem Eh:sNe (.str s) (.str t)=some (.bool (!decide (s=t))):=by
 have:(s.toList == t.toList)=decide (s=t):=by
  rw[cK,beq_iff_eq,decide_eq_true_iff];exact Uv
 simp only[sNe,aE,Mo,this];rfl
def A06 (s t:ByteArray):Bool:=Op.bytesLess s.toList t.toList
@[simp] theorem A3d:sLt (.str s) (.str t)=some (.bool (A06 s t)):=rfl
@[simp] theorem A2p:sGe (.str s) (.str t)=some (.bool (!A06 s t)):=rfl
@[simp] theorem Ake:sLe (.str s) (.str t)=some (.bool (A06 s t||decide (s=t))):=by
 have:(s.toList == t.toList)=decide (s=t):=by
  rw[cK,beq_iff_eq,decide_eq_true_iff];exact Uv
 simp only[sLe,aE,Mo,this];rfl
@[simp] theorem A30:sGt (.str s) (.str t)=some (.bool (!(A06 s t||decide (s=t)))):=by
 have:(s.toList == t.toList)=decide (s=t):=by
  rw[cK,beq_iff_eq,decide_eq_true_iff];exact Uv
 simp only[sGt,aE,Mo,this];rfl
@[simp] theorem A2a:cat (.str s) (.str t)=if s.size+t.size<=Bc then some (.str (s++t)) else none:=rfl
@[simp] theorem Ay7:bEq (.bool p) (.bool q)=some (.bool (p == q)):=rfl
@[simp] theorem Axr:bNe (.bool p) (.bool q)=some (.bool (p !=q)):=rfl
@[simp] theorem A78:aEq (.agg xs) (.agg ys)=(IV.Qv xs ys).map .bool :=rfl
@[simp] theorem A7i:aNe (.agg xs) (.agg ys)=(IV.Qv xs ys).map λr=> .bool (!r):=rfl
@[simp] theorem Aq:not (.bool p)=some (.bool !p):=rfl
@[simp] theorem A7d:neg k (.int a)=some (.int (k.wrap (0 - a))):=rfl
@[simp] theorem Tw:conv k (.int a)=some (.int (k.wrap a)):=rfl
@[simp] theorem As:len (.list xs)=some (.int xs.length):=rfl
@[simp] theorem Bq:Ato (.str s)=some (.int s.size):=rfl
@[simp] theorem Aj:index (.list xs) (.int i)=if 0<=i then xs[i.toNat]? else none:=rfl
@[simp] theorem Ik:M3 (.str s) (.int i)=if 0<=i then(s[i.toNat]?).map λb=> .int b.toNat else none:=rfl
@[simp] theorem Ql:slice (.list xs) (.int l) (.int h)=if 0<=l/\l<=h/\h<=xs.length then some (.list ((xs.take h.toNat).drop l.toNat)) else none:=rfl
@[simp] theorem A04:Nj (.list xs) (.int l)=if 0<=l/\l<=xs.length then some (.list (xs.drop l.toNat)) else none:=rfl
@[simp] theorem Uj:Ov (.str s) (.int l) (.int h)=if 0<=l/\l<=h/\h<=s.size then some (.str (s.extract l.toNat h.toNat)) else none:=rfl
@[simp] theorem Ai8:Jo (.str s) (.int l)=if 0<=l/\l<=s.size then some (.str (s.extract l.toNat s.size)) else none:=rfl
@[simp] theorem Bw:append n (.list xs) (.list ys)=if(xs.length+ys.length) * n<=Bc then some (.list (xs++ys)) else none:=rfl
@[simp] theorem A0u:Mc (.list xs) (.str s)=if xs.length+s.size<=Bc then some (.list (xs++Cs s)) else none:=rfl
@[simp] theorem Az:Sg xs=some (.agg xs):=rfl
@[simp] theorem Bb:Ou xs=some (.list xs):=rfl
@[simp] theorem A75:max (.int a) (.int b)=some (.int (if a<b then b else a)):=rfl
@[simp] theorem A8k:min (.int a) (.int b)=some (.int (if b<a then b else a)):=rfl
@[simp] theorem Aap:pick (.bool p) x y=some (if p then x else y):=rfl
@[simp] theorem A2t:setAt o n p true (.list xs) (.int i) x=if 0<=i then(match xs[i.toNat]? with | none=>none | some _=>some (.list (xs.set i.toNat x))) else none:=rfl
@[simp] theorem A6i:Akk n x (.int l) (.int c)=if 0<=l/\l<=c/\c * n<=Bc then some (.list (bF l.toNat x)) else none:=rfl
@[simp] theorem A1t:bytesOf (.str s)=some (.list (Cs s)):=rfl
@[simp] theorem A4j:strOf (.list xs)=(xs.mapM Lo).map λl=> .str ⟨l.toArray⟩:=rfl
@[simp] theorem Aa {α:Type}{u v:Option α} :cnd (.bool p) u v=if p=true then u else v:=rfl
end
section
variable {β:Type}{f:Cur (Option β) 1}{x y z u v:IV}
@[simp] theorem Ae {f:IV->Option β} :calls (some [x]) 1 f=f x:=rfl
@[simp] theorem Cc {f:IV->IV->Option β} :calls (some [x,y]) 2 f=f x y:=rfl
@[simp] theorem Ks {f:IV->IV->IV->Option β} :calls (some [x,y,z]) 3 f=f x y z:=rfl
@[simp] theorem Um {f:IV->IV->IV->IV->Option β} :calls (some [x,y,z,u]) 4 f=f x y z u:=rfl
@[simp] theorem D1 {f:IV->IV->IV->IV->IV->Option β} :calls (some [x,y,z,u,v]) 5 f=f x y z u v:=rfl
@[simp] theorem A4f {n:Nat}{f:Cur (Option β) n} :calls none n f=none:=rfl
end
end Go.CT.O
namespace Go.CT
open EM
def A41:Operand->Bool
 | .const (.slice none 0 0)=>true
 | _=>false
def Amp (root:Code):Option (TypeId × Code):=
 match root with
 | .seq (.region _ a false) (.seq (.seq (.region _ a2 false) (.cond (.tmp 4) (.seq (.region _ a4 false) .ret) .skip)) rest)=>
  match a.toList,a2.toList,a4.toList with
  | [⟨some 2,.assign b,_,_,_,none⟩],[⟨some 3,.move (.tmp 0),_,_,_,none⟩,⟨some 4,.binOp .eql xt (.tmp 3) c _,_,_,_,none⟩],[⟨some 2,.assign d,_,_,_,none⟩]=>
   if A41 b&&A41 c&&A41 d then some (xt,rest) else none
  | _,_,_=>none
 | _=>none
theorem Alr {x:Operand}(h:A41 x=true):x= .const (.slice none 0 0):=by
 unfold A41 at h
 split at h
 ·rfl
 ·cases h
theorem Ar7 {P:Program}{w:World}{t e:TypeId}{x y:Operand}{A:Option Addr}{n c:Nat}(a:P.underlying t=some (.slice e)):
  (do eqGuard .eql t x y (.slice A n c) (.slice none 0 0);binOp .eql t (.slice A n c) (.slice none 0 0):Sem Value).run P w= .ok (.bool A.isNone) w:=by
 have key: ∀d,(Op.equalIn (d+1) t (.slice A n c) (.slice none 0 0)).run P w= .ok A.isNone w:=by
  intro d
  have b:(underlying t).run P w= .ok (.slice e) w:=by simp[underlying,a]
  unfold Op.equalIn
  rw[Sem.run_bind,b]
  cases A<;>rfl
 have e:Op.equal t (.slice A n c) (.slice none 0 0)=Op.equalIn (9999+1) t (.slice A n c) (.slice none 0 0):=rfl
 have g:(Op.equalIn 10000 t (.slice A n c) (.slice none 0 0)).run P w= .ok A.isNone w:=key 9999
 simp only[eqGuard,binOp,e,Sem.run_bind]
 simp[g]
theorem wp_assign {P:Program}{id:Nat}{ops:Array Oper}{d:Nat}{x:Operand}{ty:TypeId}{b:String}{es:Array Edge}{a:Act}{w:World}{Q:Exit->Act->World->Prop}(h:ops.toList= [⟨some d,.assign x,ty,b,es,none⟩])(c:Q .normal (a.put (some d) (a.eval x)) w):
  (Code.region id ops false).wp P Q a w:=by
 refine wp_region ?_
 have e:ops= #[⟨some d,.assign x,ty,b,es,none⟩]:=by apply dX;simpa using h
 subst e
 show wpOps P _ Q [0] a w
 rw[wpOps_cons]
 unfold wpOp
 simp only[bZ,bX,Region.wanted,Zt]
 exact .inl (Dr (v:=a.eval x) rfl c)
theorem Av2 {P:Program}{id:Nat}{ops:Array Oper}{t e:TypeId}{y:Operand}{ty1 ty2 yt:TypeId}{b d:String}{e1 g:Array Edge}{a:Act}{w:World}{A:Option Addr}{n c:Nat}{Q:Exit->Act->World->Prop}(i:P.underlying t=some (.slice e))
  (h:ops.toList= [⟨some 3,.move (.tmp 0),ty1,b,e1,none⟩,⟨some 4,.binOp .eql t (.tmp 3) y yt,ty2,d,g,none⟩]) (j:y= .const (.slice none 0 0)) (m:a.tmps.getD 0 undef= .slice A n c) (o:4<a.tmps.size)
  (q:Q .normal ((a.put (some 3) (.slice A n c)).put (some 4) (.bool A.isNone)) w):(Code.region id ops false).wp P Q a w:=by
 refine wp_region ?_
 have u:ops= #[⟨some 3,.move (.tmp 0),ty1,b,e1,none⟩,⟨some 4,.binOp .eql t (.tmp 3) y yt,ty2,d,g,none⟩]:=by apply dX;simpa using h
 subst u
 show wpOps P _ Q [0,1] a w
 rw[wpOps_cons]
 unfold wpOp
 simp only[bZ,bX,Region.wanted,Zt]
 refine .inl (Dr (v:= .slice A n c) (by rw[<-m];rfl) ?_)
 rw[wpOps_cons]
 unfold wpOp
 simp only[bZ,bX,bW,Region.wanted,Zt]
 refine .inl (Dr (v:= .bool A.isNone) ?_ q)
 have z:(a.put (some 3) (.slice A n c)).eval (.tmp 3)= .slice A n c:=by
  simp only[Act.eval,Act.put]
  rw[Array.getD_eq_getD_getElem?,Array.getElem?_setIfInBounds_self_of_lt (by omega)]
  rfl
 subst j
 have B:=Ar7 (P:=P) (w:=w) (x:= .tmp 3) (y:= .const (.slice none 0 0)) (A:=A) (n:=n) (c:=c) i
 show(do let r <- (do eqGuard .eql t (.tmp 3) (.const (.slice none 0 0)) ((a.put (some 3) (.slice A n c)).eval (.tmp 3)) (.slice none 0 0);binOp .eql t ((a.put (some 3) (.slice A n c)).eval (.tmp 3)) (.slice none 0 0):Sem Value);pure (Next.value r):Sem Next).run P w=_
 rw[z,Sem.run_bind,B]
 rfl
theorem Al4 {P:Program}{w:World}{tm:Array Value}{v:Value}(h:tm.getD 2 undef=v):(([.tmp 2]:List ResultVar).mapM (Qd tm)).run P w= .ok [v] w:=by
 simp only[dD,dS,Qd,h]
 simp
def Ado (B:Nat):PT:= .lets ⟨[],.Cb .Ou []⟩ (.lets ⟨[],.Cb (.append B) [.v 1,.v 0]⟩ (.ret [.v 2]))
theorem Ams {B:Nat}(a:B<=131072){xs:List IV}(h:xs.length<=1048576 * 1024):(Ado B).den (λ_ _=>none) 0 [.list xs]=some [.list xs]:=by
 have:xs.length * B<=1048576 * 1024 * 131072:=Nat.mul_le_mul h a
 have b:xs.length * B<=Bc:=by unfold Bc;omega
 simp[Ado,cJ,dB,cM,dK,aQ,dC,aE,b]
structure A1s (P:Program)(f:FuncId)(t e:TypeId)(fn:Func)(root rest:Code):Prop where
 hfn:P.funcs[f]?=some fn
 hname:(fn.name == "runtime.NumGoroutine")=false
 hbody:fn.body=some root
 htext:Amp root=some (t,rest)
 ht:P.underlying t=some (.slice e)
 he:0<Ag P e
 hres:fn.results.toList= [.tmp 2]
 hn:fn.ntmps=8
 hl:leaves P t=some [t]
 hs:Ag P t=1
 hrest: ∃B,comp P [] 8 ⟨[.cells t [true]],[.tmp 2],[],[]⟩ [] 50 true [.code [] rest] ⟨1,0,[(0,⟨[],.one (.leaf (.at (.v 0) t))⟩)],[]⟩=some (Ado B)/\B<=131072
theorem Q2 {P:Program}(hm:P.follows .mixedOrders =true){f:FuncId}{t e:TypeId}{fn:Func}{root rest:Code}(h:A1s P f t e fn root rest){al:Bool} :Im P O.Ir ⟨f,[.data t],[.cells t [true]],al⟩:=by
 intro w X xs args L rs hr hn hX ac M
 have ae:=hr
 obtain⟨H,S,q,d,ht,he,I,af,hl,ag,B,ah,hB⟩:=h
 match args,hr with
 | [v],hr=>
 obtain⟨ys,zs,L1,L2,e1,e2,⟨x,e3,e4,hx⟩,⟨e5,e6⟩⟩:=hr
 subst e3 e4 e5 e6 e1 e2
 obtain⟨us,A,c,rfl,rfl,Z⟩:=hx.Da ht
 simp only[aK,O.Ir]at M
 rw[aM]at M
 obtain⟨hle,M⟩:=M
 injection M with M
 subst M
 -- the text
 unfold Amp at d
 split at d
 rotate_left
 ·cases d
 rename_i _ i1 a1 i2 a2 i4 a4 rest'
 split at d
 rotate_left
 ·cases d
 rename_i c1 ty1 ps1 es1 ty3 ps3 es3 xt c3 yt ty4 ps4 es4 c4 ty5 ps5 es5 ai aj ak
 rw[aM]at d
 obtain⟨J,d⟩:=d
 simp only[aD]at J
 obtain⟨⟨T,U⟩,Y⟩:=J
 have T:=Alr T
 have U:=Alr U
 have Y:=Alr Y
 simp only[aB,aN]at d
 obtain⟨rfl,rfl⟩:=d
 refine .inl ⟨fn,H,S,by rw[q];rfl,λcs=>?_⟩
 let a0:Act:= {tmps:= #[Value.slice A us.length c]++bR 7 undef,defers:= []}
 let b:Frame:= {(default:Frame) with fn:=f,kind:= .normal}
 have K:Frame.enter P f #[.slice A us.length c] .normal =b.at a0 [.code (.seq (.region i1 a1 false) (.seq (.seq (.region i2 a2 false) (.cond (.tmp 4) (.seq (.region i4 a4 false) .ret) .skip)) rest'))]:=by
  simp[Frame.enter,Frame.at,H,q,b,a0,af]
 have am:Yh P [.data xt]=some (⟨1,0,[(0,⟨[],.one (.leaf (.at (.v 0) xt))⟩)],[]⟩,[]):=rfl
 obtain⟨μ,bvs,q1,q2,q3⟩:=Am1 (N:=8) (F:=⟨[.cells xt [true]],[.tmp 2],[],[]⟩) (s:=⟨f,[.data xt],[.cells xt [true]],al⟩) (a:=a0) rfl am rfl rfl ae hn hX ac rfl (by show 1<=8;decide) rfl
 let o:Act:=a0.put (some 2) (.slice none 0 0)
 let g:Act:=(o.put (some 3) (.slice A us.length c)).put (some 4) (.bool A.isNone)
 -- up to the question
 have aa:Steps P (lone (b.at a0 [.code (.seq (.region i1 a1 false) (.seq (.seq (.region i2 a2 false) (.cond (.tmp 4) (.seq (.region i4 a4 false) .ret) .skip)) rest'))]) cs w)
   (lone (b.at g [.code (.cond (.tmp 4) (.seq (.region i4 a4 false) .ret) .skip),.code rest']) cs w):=by
  refine .head step_seq ?_
  obtain⟨e,G,w',⟨r,y,z⟩,m⟩:=wp_assign (P:=P) (id:=i1) (a:=a0) (w:=w) (Q:=λe G w'=>e= .normal /\G=o/\w'=w) ai ⟨rfl,by rw[T];rfl,rfl⟩ b _ cs
  subst r
  rw[y,z]at m
  refine Steps.trans m ?_
  refine .head step_seq (.head step_seq ?_)
  obtain⟨e,G,w',⟨r,y,z⟩,m⟩:=Av2 (P:=P) (id:=i2) (a:=o) (w:=w) (Q:=λe G w'=>e= .normal /\G=g/\w'=w) ht aj U (by simp[o,a0,Act.put]) (by simp[o,a0,Act.put]) ⟨rfl,rfl,rfl⟩ b _ cs
  subst r
  rw[y,z]at m
  exact m
 have h4:g.eval (.tmp 4)= .bool A.isNone:=by simp[g,o,a0,Act.eval,Act.put]
 cases A with
 | none=>
  have hz:us= []:=by
   obtain⟨_,_,vs,hh,_⟩:=Z
   cases us with
   | nil=>rfl
   | cons u us=>
    obtain⟨_,ad,h,_⟩:=hh (by simp)
    cases h
  subst hz
  obtain⟨e',G,w',⟨r,y,z⟩,m⟩:=wp_assign (P:=P) (id:=i4) (a:=g) (w:=w) (Q:=λe G w'=>e= .normal /\G=g.put (some 2) (.slice none 0 0)/\w'=w) ak ⟨rfl,by rw[Y];rfl,rfl⟩ b [.code .ret,.code rest'] cs
  subst r
  rw[y,z]at m
  refine⟨.returned (packed [.slice none 0 0]),w,{b.at (g.put (some 2) (.slice none 0 0)) [.code .ret,.code rest']with mode:= .returning},⟨packed [.slice none 0 0],rfl,?_⟩,?_,rfl,rfl,rfl,rfl,fn,H,?_⟩
  ·refine⟨Hz.refl _ _,[.slice none 0 0],[.list []],[],[],[],rfl,rfl,by simp,by simp,?_,?_⟩
   ·refine⟨[.list []],[],[],[],rfl,rfl,?_,⟨rfl,rfl⟩⟩
    refine⟨[xt],hl,by simp[Value.cells,ag],?_,?_⟩
    ·have:Ak P xt=false:=by simp[Ak,ht]
     simp[this,Value.oneCell']
    ·refine⟨[],⟨[],rfl,.inl ⟨e,ht,⟨he,[],⟨by simp,.inl ⟨rfl,rfl⟩⟩,λj x hx=>by simp at hx,by simp⟩⟩⟩,rfl,rfl⟩
   ·simp[Cr,dF]
  ·rw[K]
   refine Steps.trans aa (.head (step_cond (t:=true) h4) (.head step_seq ?_))
   exact Steps.trans m (.one step_ret)
  ·refine Rv ?_
   rw[I]
   have e2:(b.at (g.put (some 2) (.slice none 0 0)) [.code .ret,.code rest']).tmps.getD 2 undef= .slice none 0 0:=by
    show(g.put (some 2) (.slice none 0 0)).tmps.getD 2 undef=_
    simp[g,o,a0,Act.put]
   exact Al4 e2
 | some ad=>
  have C:CS P 8 X [.list us] ⟨[.cells xt [true]],[.tmp 2],[],[]⟩ [] w μ ⟨1,0,[(0,⟨[],.one (.leaf (.at (.v 0) xt))⟩)],[]⟩ μ g w:=by
   refine⟨{q3.C8 with size:=by simp[g,o,a0,Act.put],defers:=rfl,slot:=λs=>?_},q3.step,q3.own,q3.hdr⟩
   by_cases an:s=0
   ·subst an
    have:=q3.C8.slot 0
    have e1:g.tmps.getD 0 undef=a0.tmps.getD 0 undef:=by simp[g,o,a0,Act.put]
    rw[e1];exact this
   ·have:(St.view ⟨1,0,[(0,⟨[],.one (.leaf (.at (.v 0) xt))⟩)],[]⟩).tm s=nothing:=by
     simp[St.view,I8];omega
    rw[this]
    exact⟨true,rfl,λ_=>trivial,λh=>by cases h⟩
  have hE:=Alu (R:=λ_ _=>none) (specs:= []) (root:=rest') (sidx:=0) (bs:= []) hm (λi s ab=>by cases ab) rfl q2 (λi blk hb=>by simp at hb) 50 true [.code [] rest'] _ (Ado B) [.list us] [.list us] g w μ ah (by simp[PI.ok,Oo]) rfl C (Ams hB hle)
  obtain⟨G,w',t',v,r1,r2,r3,r4⟩:=hE b cs
  refine⟨.returned (packed v),w',{b.at G t' with mode:= .returning},⟨packed v,rfl,r4⟩,?_,rfl,rfl,r2,rfl,fn,H,Rv (by rw[I];exact r3)⟩
  rw[K]
  exact Steps.trans aa (.head (step_cond (t:=false) h4) (.head step_skip r1))
def Ayd (P:Program)(f:FuncId):Func:=(P.funcs[f]?).getD default
def Zp (P:Program)(f:FuncId):Code:=(Ayd P f).body.getD .skip
def Ab2 (P:Program)(f:FuncId):Code:=((Amp (Zp P f)).map (·.2)).getD .skip
end Go.CT
namespace Go.CT
def O.Qy:List IV->Option (List IV)
 | [.str a,.str b]=>some [.int (Lib.compareBytes a.data.toList b.data.toList)]
 | _=>none
theorem Arz {P:Program}{f:FuncId}{fn:Func}{ts ti:TypeId}{al:Bool}(d:P.funcs[f]?=some fn)(t:(fn.name == "runtime.NumGoroutine")=false)(z:fn.body.isNone=true)(e:Extern.findNext fn=none)
  (A:Extern.find fn=some Extern.BytealgCompare.compare) (q:P.underlying ts=some .string) (B:P.underlying ti=some (.int .i64)):Im P O.Qy ⟨f,[.data ts,.data ts],[.whole ti],al⟩:=by
 intro w X xs args L rs c C M F r
 match args,c with
 | [u,v],c=>
  obtain⟨ys,zs,L1,L2,e1,G,⟨x,H,I,g⟩,c⟩:=c
  obtain⟨J,zs',L1',L2',h,i,⟨y,j,m,o⟩,⟨e5,K⟩⟩:=c
  subst H I j m e5 K h i e1 G
  obtain⟨a,rfl,rfl⟩:=g.Is q
  obtain⟨b,rfl,rfl⟩:=o.Is q
  simp only[cE,bD,O.Qy,aB]at r
  subst r
  refine .inr ⟨.int .i64 (Lib.compareBytes a.data.toList b.data.toList),w,?_,?_⟩
  ·rw[run_callFunc_extern d t z e A,Lib.run_compareString]
   rfl
  ·refine⟨Hz.refl _ _,[.int .i64 (Lib.compareBytes a.data.toList b.data.toList)],[.int (Lib.compareBytes a.data.toList b.data.toList)],[],[],[],rfl,rfl,by simp,by simp,?_,by simp[Cr,dF]⟩
   exact⟨[_],[],[],[],rfl,rfl,⟨_,rfl,rfl,.int B⟩,rfl,rfl⟩
end Go.CT
namespace Go.CT
section
variable (pa:Nat->Nat)(np:Nat)(nk:Nat)
def Az8 (d s:Nat):Arg × Nat:=
 match dZ (s % (d+nk)) d with
 | true=>(.v (s % (d+nk)),s / (d+nk))
 | false=>(.k (.int (.ofNat (s % (d+nk) - d))),s / (d+nk))
def Aqw (d:Nat):Nat->Nat->List Arg × Nat
 | 0,s=>([],s)
 | k+1,s=>
  match Az8 nk d s with
  | (a,s)=>match Aqw d k s with
   | (as,s)=>(a::as,s)
def dSB:Nat->Nat->Nat->SB × Nat × Nat
 | 0,d,s=>(.done,d,s)
 | f+1,d,s=>
  match s % (np+4),s / (np+4) with
  | 0,s=>(.done,d,s)
  | 1,s=>
   match Aqw nk d (s / 512 % 64) (s / 524288) with
   | (as,s')=>match dSB f (d+s / 32768 % 16) s' with
    | (k,e,s')=>(.call (s % 512) as (s / 32768 % 16) k,e,s')
  | 2,s=>
   match Az8 nk d s with
   | (c,s)=>match dSB f d s with
    | (B,e,s)=>match Az8 nk e s with
     | (y,s)=>match Az8 nk d s with
      | (x,s)=>match dSB f (d+1) s with
       | (k,e,s)=>(.sel c true B y x k,e,s)
  | 3,s=>
   match Az8 nk d s with
   | (c,s)=>match dSB f d s with
    | (B,e,s)=>match Az8 nk e s with
     | (y,s)=>match Az8 nk d s with
      | (x,s)=>match dSB f (d+1) s with
       | (k,e,s)=>(.sel c false B y x k,e,s)
  | p+4,s=>
   match pa p with
   | 9=>match Aqw nk d (s % 64) (s / 64) with
    | (as,s)=>match dSB f (d+1) s with
     | (k,e,s)=>(.Cb (.proj p 0 false) as k,e,s)
   | m=>match Aqw nk d m s with
    | (as,s)=>match dSB f (d+1) s with
     | (k,e,s)=>(.Cb (.proj p 0 false) as k,e,s)
def dST:Nat->Nat->Nat->ST × Nat
 | 0,_,s=>(.ret .done [],s)
 | f+1,d,s=>
  match s % 3,dSB pa np nk 500 d (s / 3) with
  | 0,(b,d,t)=>match Az8 nk d t with
   | (c,t)=>match dST f d t with
    | (p,t)=>match dST f d t with
     | (q,t)=>(.ite b c p q,t)
  | 1,(b,d,t)=>match Aqw nk d (t / 64 % 64) (t / 4096) with
   | (as,s)=>(.jump b (t % 64) as,s)
  | _+2,(b,d,t)=>match Aqw nk d (t % 64) (t / 64) with
   | (as,s)=>(.ret b as,s)
inductive Tr where
 | l (i b n:Nat) (t:ST)
 | n (x y:Tr)
def dTr:Nat->Nat->Tr × Nat
 | 0,s=>(.l 0 0 0 (.ret .done []),s)
 | f+1,s=>
  match s % 2 with
  | 0=>match dST pa np nk 500 (s / 65536 % 64) (s / 4194304) with
   | (t,s')=>(.l (s / 2 % 512) (s / 1024 % 64) (s / 65536 % 64) t,s')
  | _+1=>match dTr f (s / 2) with
   | (x,s)=>match dTr f s with
    | (y,s)=>(.n x y,s)
end
def lk:Nat->List IV->IV
 | _,[]=> .junk
 | 0,x::_=>x
 | n+1,_::r=>lk n r
section
variable (Q:IV->IV)
def sa (d:Nat)(r:List IV):Arg->IV
 | .v i=>lk (d - 1 - i) r
 | .k c=>Q c
def sas (d:Nat)(r:List IV):List Arg->List IV
 | []=> []
 | a::as=>sa Q d r a::sas d r as
def kA:Arg->Arg
 | .v i=> .v i
 | .k c=> .k (Q c)
variable (U:Prim->Prim)
def kB:SB->SB
 | .done => .done
 | .Cb p as k=> .Cb (U p) (as.map (kA Q)) (kB k)
 | .call s as n k=> .call s (as.map (kA Q)) n (kB k)
 | .sel c w B y x k=> .sel (kA Q c) w (kB B) (kA Q y) (kA Q x) (kB k)
def kT:ST->ST
 | .ite b c p q=> .ite (kB Q U b) (kA Q c) (kT p) (kT q)
 | .jump b j as=> .jump (kB Q U b) j (as.map (kA Q))
 | .ret b as=> .ret (kB Q U b) (as.map (kA Q))
end
def opn:Prim->List IV->Option IV
 | .proj o 1 false,[x]=>O.proj o x
 | .proj o n true,[x]=>O.projs o n x
 | .arith .add k,[x,y]=>O.add k x y
 | .arith .sub k,[x,y]=>O.sub k x y
 | .arith .mul k,[x,y]=>O.mul k x y
 | .quo k,[x,y]=>O.quo k x y
 | .rem k,[x,y]=>O.rem k x y
 | .cmp .eql,[x,y]=>O.eq x y
 | .cmp .neq,[x,y]=>O.ne x y
 | .cmp .lss,[x,y]=>O.lt x y
 | .cmp .leq,[x,y]=>O.le x y
 | .cmp .gtr,[x,y]=>O.gt x y
 | .cmp .geq,[x,y]=>O.ge x y
 | .cmpS .eql,[x,y]=>O.sEq x y
 | .cmpS .neq,[x,y]=>O.sNe x y
 | .cmpS .lss,[x,y]=>O.sLt x y
 | .cmpS .leq,[x,y]=>O.sLe x y
 | .cmpS .gtr,[x,y]=>O.sGt x y
 | .cmpS .geq,[x,y]=>O.sGe x y
 | .cat,[x,y]=>O.cat x y
 | .eqB false,[x,y]=>O.bEq x y
 | .eqB true,[x,y]=>O.bNe x y
 | .eqA false,[x,y]=>O.aEq x y
 | .eqA true,[x,y]=>O.aNe x y
 | .not,[x]=>O.not x
 | .neg k,[x]=>O.neg k x
 | .conv k,[x]=>O.conv k x
 | .len,[x]=>O.len x
 | .Ato,[x]=>O.Ato x
 | .index,[x,y]=>O.index x y
 | .M3,[x,y]=>O.M3 x y
 | .slice,[x,y,z]=>O.slice x y z
 | .Nj,[x,y]=>O.Nj x y
 | .Ov,[x,y,z]=>O.Ov x y z
 | .Jo,[x,y]=>O.Jo x y
 | .append n,[x,y]=>O.append n x y
 | .Of n,[x,y]=>O.Of n x y
 | .Mc,[x,y]=>O.Mc x y
 | .Sg,xs=>O.Sg xs
 | .Ou,xs=>O.Ou xs
 | .setAt o n a w,[x,i,y]=>O.setAt o n a w x i y
 | .max,[x,y]=>O.max x y
 | .min,[x,y]=>O.min x y
 | .pick,[c,x,y]=>O.pick c x y
 | .Akk n z,[l,c]=>O.Akk n z l c
 | .bytesOf,[x]=>O.bytesOf x
 | .strOf,[x]=>O.strOf x
 | .clear z,[x,l,h]=>O.clear z x l h
 | .copy,[x,l,y]=>O.copy x l y
 | .Ak7,[x]=>O.Ak7 x
 | .Oq,[x,y]=>O.Oq x y
 | .Ow,[x,y]=>O.Ow x y
 | .H8,[x,y]=>O.H8 x y
 | .Aoh z,[x,y]=>O.Aoh z x y
 | .Aku,[x,y]=>O.Aku x y
 | .Ap5,[x,y,z]=>O.Ap5 x y z
 | p,xs=>p.ev xs
theorem A4u (p:Prim)(xs:List IV):opn p xs=p.ev xs:=by
 unfold opn
 split<;>rfl
section
variable (W:Nat->Nat->List IV->Option (List IV))(Q:IV->IV)(U:Prim->Prim)
def shC {α:Type} :Nat->Option (List IV)->Nat->List IV->(Nat->List IV->Option α)->Option α
 | 0,o,d,r,f=>calls o 0 (f d r)
 | 1,o,d,r,f=>calls o 1 λa=>f (d+1) (a::r)
 | 2,o,d,r,f=>calls o 2 λa b=>f (d+2) (b::a::r)
 | 3,o,d,r,f=>calls o 3 λa b c=>f (d+3) (c::b::a::r)
 | 4,o,d,r,f=>calls o 4 λa b c e=>f (d+4) (e::c::b::a::r)
 | 5,o,d,r,f=>calls o 5 λa b c e g=>f (d+5) (g::e::c::b::a::r)
 | 6,o,d,r,f=>calls o 6 λa b c e g h=>f (d+6) (h::g::e::c::b::a::r)
 | 7,o,d,r,f=>calls o 7 λa b c e g h i=>f (d+7) (i::h::g::e::c::b::a::r)
 | 8,o,d,r,f=>calls o 8 λa b c e g h i j=>f (d+8) (j::i::h::g::e::c::b::a::r)
 | _,_,_,_,_=>none
def shB:SB-> {α:Type} ->Nat->List IV->(Nat->List IV->Option α)->Option α
 | .done,_,d,r,K=>K d r
 | .Cb p as k,_,d,r,K=>(opn (U p) (sas Q d r as)).bind λx=>shB k (d+1) (x::r) K
 | .call s as n k,_,d,r,K=>shC n (W s 0 (sas Q d r as)) d r λd r=>shB k d r K
 | .sel c true B y x k,_,d,r,K=>(cnd (sa Q d r c) (shB B d r λd r=>some (sa Q d r y)) (some (sa Q d r x))).bind λv=>shB k (d+1) (v::r) K
 | .sel c false B y x k,_,d,r,K=>(cnd (sa Q d r c) (some (sa Q d r x)) (shB B d r λd r=>some (sa Q d r y))).bind λv=>shB k (d+1) (v::r) K
def shT (i:Nat):ST->Nat->List IV->Option (List IV)
 | .ite b c p q,d,r=>shB W Q U b d r λd r=>cnd (sa Q d r c) (shT i p d r) (shT i q d r)
 | .jump b j as,d,r=>shB W Q U b d r λd r=>W i j (sas Q d r as)
 | .ret b as,d,r=>shB W Q U b d r λd r=>some (sas Q d r as)
end
def scA (d:Nat):Arg->Bool
 | .v i=>dZ i d
 | .k _=>true
def scB:SB->Nat->(Nat->Bool)->Bool
 | .done,d,K=>K d
 | .Cb _ as k,d,K=>as.all (scA d)&&scB k (d+1) K
 | .call _ as n k,d,K=>as.all (scA d)&&dZ n 9&&scB k (d+n) K
 | .sel c _ B y x k,d,K=>scA d c&&scA d x&&scB B d (λd=>scA d y)&&scB k (d+1) K
def scT:ST->Nat->Bool
 | .ite b c p q,d=>scB b d λd=>scA d c&&scT p d&&scT q d
 | .jump b _ as,d=>scB b d λd=>as.all (scA d)
 | .ret b as,d=>scB b d λd=>as.all (scA d)
theorem A4p: ∀ (n:Nat) (r:List IV),lk n r=r[n]?.getD .junk
 | _,[]=>by simp[lk]
 | 0,x::r=>by simp[lk]
 | n+1,x::r=>by simp[lk,A4p n r]
section
variable {Q:IV->IV}{U:Prim->Prim}
theorem Avm {a:Arg}{σ:List IV}(h:scA σ.length a=true):(kA Q a).ev σ=some (sa Q σ.length σ.reverse a):=by
 cases a with
 | k c=>rfl
 | v i=>
  have h:i<σ.length:=cY h
  simp only[kA,dC,sa,A4p]
  rw[List.getElem?_reverse (by omega),show σ.length - 1 - (σ.length - 1 - i)=i by omega,aX h]
  rfl
theorem Ag9 {σ:List IV} : ∀ {as:List Arg},as.all (scA σ.length)=true->aQ σ (as.map (kA Q))=some (sas Q σ.length σ.reverse as)
 | [],_=>rfl
 | a::as,h=>by
  simp only[cQ,aD]at h
  simp only[bK,aQ,sas,Avm h.1,Ag9 h.2]
  rfl
theorem Y7 {R:Job->List IV->Option (List IV)} : ∀ (b:SB) {α:Type} (σ:List IV) (K:List IV->Option α) (C:Nat->Bool) (K':Nat->List IV->Option α),scB b σ.length C=true->
  (∀τ:List IV,C τ.length=true->K τ=K' τ.length τ.reverse)->(kB Q U b).runK R σ K=shB (λf j=>R ⟨f,j⟩) Q U b σ.length σ.reverse K'
 | .done,_,σ,K,C,K',h,m=>m σ h
 | .Cb p as k,_,σ,K,C,K',h,m=>by
  simp only[scB,aD]at h
  simp only[kB,SB.runK,shB,Ag9 h.1,aA,A4u]
  congr 1
  funext x
  have:=Y7 (R:=R) k (σ++ [x]) K C K' (by simpa using h.2) m
  simpa using this
 | .call s as n k,_,σ,K,C,K',h,m=>by
  simp only[scB,aD]at h
  simp only[kB,SB.runK,shB,Ag9 h.1.1,aA]
  have o:=λys:List IV=>Y7 (R:=R) k (σ++ys) K C K'
  have t:n<9:=cY h.1.2
  have q:=h.2
  match n,t with
  | 0,_=>exact congrArg _ (by simpa [curry,Cur]using o [] (by simpa using q) m)
  | 1,_=>exact congrArg _ (by funext a;simpa [curry,Cur]using o [a] (by simpa using q) m)
  | 2,_=>exact congrArg _ (by funext a b;simpa [curry,Cur]using o [a,b] (by simpa using q) m)
  | 3,_=>exact congrArg _ (by funext a b c;simpa [curry,Cur]using o [a,b,c] (by simpa using q) m)
  | 4,_=>exact congrArg _ (by funext a b c d;simpa [curry,Cur]using o [a,b,c,d] (by simpa using q) m)
  | 5,_=>exact congrArg _ (by funext a b c d e;simpa [curry,Cur]using o [a,b,c,d,e] (by simpa using q) m)
  | 6,_=>exact congrArg _ (by funext a b c d e g;simpa [curry,Cur]using o [a,b,c,d,e,g] (by simpa using q) m)
  | 7,_=>exact congrArg _ (by funext a b c d e g i;simpa [curry,Cur]using o [a,b,c,d,e,g,i] (by simpa using q) m)
  | 8,_=>exact congrArg _ (by funext a b c d e g i j;simpa [curry,Cur]using o [a,b,c,d,e,g,i,j] (by simpa using q) m)
  | n+9,t=>omega
 | .sel c w B y x k,_,σ,K,C,K',h,m=>by
  simp only[scB,aD]at h
  have u:=Y7 (R:=R) B σ (λτ=>(kA Q y).ev τ) (λd=>scA d y) (λd r=>some (sa Q d r y)) h.1.2 (λτ h=>Avm h)
  have z:=λv=>Y7 (R:=R) k (σ++ [v]) K C K' (by simpa using h.2) m
  cases w<;>
  ·simp only[kB,SB.runK,shB,Avm h.1.1.1,Avm h.1.1.2,aA,u]
   congr 1
   funext v
   simpa using z v
theorem Avv {R:Job->List IV->Option (List IV)}(i:Nat): ∀ (t:ST) (σ:List IV),scT t σ.length=true->(kT Q U t).den R i σ=shT (λf j=>R ⟨f,j⟩) Q U i t σ.length σ.reverse
 | .ite b c p q,σ,h=>by
  simp only[kT,ST.den,shT]
  refine Y7 b σ _ _ _ h λτ h=>?_
  simp only[aD]at h
  simp only[Avm h.1.1,aA,Avv i p τ h.1.2,Avv i q τ h.2]
 | .jump b j as,σ,h=>by
  simp only[kT,ST.den,shT]
  refine Y7 b σ _ _ _ h λτ h=>?_
  simp only[Ag9 h,aA]
 | .ret b as,σ,h=>by
  simp only[kT,ST.den,shT]
  exact Y7 b σ _ _ _ h λτ h=>Ag9 h
end
def Cu:Nat->List IV->(List IV->Prop)->Prop
 | 0,r,p=>p r
 | n+1,r,p=> ∀x,Cu n (x::r) p
def rv:List IV->List IV->List IV
 | [],a=>a
 | x::r,a=>rv r (x::a)
theorem A1g: ∀ (r a:List IV),rv r a=r.reverse++a
 | [],a=>by simp[rv]
 | x::r,a=>by simp[rv,A1g r]
theorem A48 {p:List IV->Prop} : ∀ (n:Nat) (r:List IV),(∀a,a.length=n+r.length->p a)->Cu n r p
 | 0,r,h=>h r (by simp)
 | n+1,r,h=>λx=>A48 n (x::r) λa h'=>h a (by rw[h',aP];omega)
section
variable (P:Program)(specs:List (Nat × Spec))(S1:Nat->List Blk)(fuel:Nat)(pr:Nat->Option (List IV->Option (List IV)))(Q:IV->IV)(U:Prim->Prim)
def trP (W:Nat->Nat->List IV->Option (List IV)):Tr->Prop
 | .l i b n t=>Cu n [] λr=>W i b (rv r [])=shT W Q U i t n r
 | .n x y=>trP W x/\trP W y
def trX:Tr->List (Bool × Option ST × Bool)
 | .l i b n t=> [((pr i).isNone,(tab P specs S1 fuel ⟨i,b⟩).bind (tr n),scT t n)]
 | .n x y=>trX x++trX y
def trY:Tr->List (Bool × Option ST × Bool)
 | .l _ _ _ t=> [(true,some (kT Q U t),true)]
 | .n x y=>trY x++trY y
variable {P specs S1 fuel pr Q U}
theorem U0: ∀x:Tr,(trX P specs S1 fuel pr x).length =(trY Q U x).length
 | .l .. =>rfl
 | .n x y=>by simp[trX,trY,U0 x,U0 y]
theorem A3k: ∀ (x:Tr),trX P specs S1 fuel pr x=trY Q U x->trP Q U (λf j=>V (tab P specs S1 fuel) pr ⟨f,j⟩) x
 | .n x y,h=>by
  simp only[trX,trY]at h
  have h:=List.append_inj h (U0 x)
  exact⟨A3k x h.1,A3k y h.2⟩
 | .l i b n t,h=>by
  simp only[trX,trY,cV,aN,and_true,cO]at h
  obtain⟨hp,h,d⟩:=h
  refine A48 n [] λr a=>?_
  have a:r.length=n:=by simpa using a
  have c:(rv r []).length =n:=by rw[A1g];simpa using a
  have:=Vg (P:=P) (specs:=specs) (S1:=S1) (fuel:=fuel) (pr:=pr) (i:=i) (b:=b) (xs:=rv r []) hp (by rw[c,h];rfl)
  refine this.trans ?_
  show(kT Q U t).den _ i (rv r [])=_
  rw[Avv i t (rv r []) (by rw[c];exact d),c]
  rw[A1g]
  simp
end
section
variable (W:Nat->Nat->List IV->Option (List IV))(Q:IV->IV)(U:Prim->Prim)
theorem shE {α:Type} :(∀d r (K:Nat->List IV->Option α),shB W Q U .done d r K=K d r)
  /\(∀p xs k d r (K:Nat->List IV->Option α),shB W Q U (.Cb p xs k) d r K=(opn (U p) (sas Q d r xs)).bind λx=>shB W Q U k (d+1) (x::r) K)
  /\(∀s xs n k d r (K:Nat->List IV->Option α),shB W Q U (.call s xs n k) d r K=shC n (W s 0 (sas Q d r xs)) d r λd r=>shB W Q U k d r K)
  /\(∀c B y x k d r (K:Nat->List IV->Option α),shB W Q U (.sel c true B y x k) d r K=(cnd (sa Q d r c) (shB W Q U B d r λd r=>some (sa Q d r y)) (some (sa Q d r x))).bind λv=>shB W Q U k (d+1) (v::r) K)
  /\(∀c B y x k d r (K:Nat->List IV->Option α),shB W Q U (.sel c false B y x k) d r K=(cnd (sa Q d r c) (some (sa Q d r x)) (shB W Q U B d r λd r=>some (sa Q d r y))).bind λv=>shB W Q U k (d+1) (v::r) K):=
 ⟨λ_ _ _=>rfl,λ_ _ _ _ _ _=>rfl,λ_ _ _ _ _ _ _=>rfl,λ_ _ _ _ _ _ _ _=>rfl,λ_ _ _ _ _ _ _ _=>rfl⟩
theorem shG:(∀i b n t,trP Q U W (.l i b n t)=Cu n [] λr=>W i b (rv r [])=shT W Q U i t n r)/\(∀x y,trP Q U W (.n x y)=(trP Q U W x/\trP Q U W y))
  /\(∀i b c p q d r,shT W Q U i (.ite b c p q) d r=shB W Q U b d r λd r=>cnd (sa Q d r c) (shT W Q U i p d r) (shT W Q U i q d r))
  /\(∀i b j xs d r,shT W Q U i (.jump b j xs) d r=shB W Q U b d r λd r=>W i j (sas Q d r xs))
  /\(∀i b xs d r,shT W Q U i (.ret b xs) d r=shB W Q U b d r λd r=>some (sas Q d r xs)):=
 ⟨λ_ _ _ _=>rfl,λ_ _=>rfl,λ_ _ _ _ _ _ _=>rfl,λ_ _ _ _ _ _=>rfl,λ_ _ _ _ _=>rfl⟩
theorem shF:(∀d r,sas Q d r []= [])/\(∀d r a xs,sas Q d r (a::xs)=sa Q d r a::sas Q d r xs)/\(∀d r i,sa Q d r (.v i)=lk (d - 1 - i) r)/\(∀d r c,sa Q d r (.k c)=Q c):=
 ⟨λ_ _=>rfl,λ_ _ _ _=>rfl,λ_ _ _=>rfl,λ_ _ _=>rfl⟩
end
theorem T6 {α:Type} :(∀o d r (f:Nat->List IV->Option α),shC 0 o d r f=calls o 0 (f d r))
  /\(∀o d r (f:Nat->List IV->Option α),shC 1 o d r f=calls o 1 λa=>f (d+1) (a::r))
  /\(∀o d r (f:Nat->List IV->Option α),shC 2 o d r f=calls o 2 λa b=>f (d+2) (b::a::r))
  /\(∀o d r (f:Nat->List IV->Option α),shC 3 o d r f=calls o 3 λa b c=>f (d+3) (c::b::a::r))
  /\(∀o d r (f:Nat->List IV->Option α),shC 4 o d r f=calls o 4 λa b c e=>f (d+4) (e::c::b::a::r))
  /\(∀o d r (f:Nat->List IV->Option α),shC 5 o d r f=calls o 5 λa b c e g=>f (d+5) (g::e::c::b::a::r))
  /\(∀o d r (f:Nat->List IV->Option α),shC 6 o d r f=calls o 6 λa b c e g h=>f (d+6) (h::g::e::c::b::a::r))
  /\(∀o d r (f:Nat->List IV->Option α),shC 7 o d r f=calls o 7 λa b c e g h i=>f (d+7) (i::h::g::e::c::b::a::r))/\
  (∀o d r (f:Nat->List IV->Option α),shC 8 o d r f=calls o 8 λa b c e g h i j=>f (d+8) (j::i::h::g::e::c::b::a::r)):=
 ⟨λ_ _ _ _=>rfl,λ_ _ _ _=>rfl,λ_ _ _ _=>rfl,λ_ _ _ _=>rfl,λ_ _ _ _=>rfl,λ_ _ _ _=>rfl,λ_ _ _ _=>rfl,λ_ _ _ _=>rfl,λ_ _ _ _=>rfl⟩
theorem shH:(∀n x r,lk (n+1) (x::r)=lk n r)/\(∀x r,lk 0 (x::r)=x)/\(∀n r p,Cu (n+1) r p= ∀x,Cu n (x::r) p)/\(∀r p,Cu 0 r p=p r)/\(∀x r a,rv (x::r) a=rv r (x::a))/\(∀a,rv [] a=a):=
 ⟨λ_ _ _=>rfl,λ_ _=>rfl,λ_ _ _=>rfl,λ_ _=>rfl,λ_ _ _=>rfl,λ_=>rfl⟩
abbrev P1 (U:Prim->Prim)(n:Nat)(f:IV->Option IV):Prop:= ∀x,opn (U (.proj n 0 false)) [x]=f x
abbrev P2 (U:Prim->Prim)(n:Nat)(f:IV->IV->Option IV):Prop:= ∀x y,opn (U (.proj n 0 false)) [x,y]=f x y
abbrev P3 (U:Prim->Prim)(n:Nat)(f:IV->IV->IV->Option IV):Prop:= ∀x y z,opn (U (.proj n 0 false)) [x,y,z]=f x y z
abbrev P9 (U:Prim->Prim)(n:Nat)(f:List IV->Option IV):Prop:= ∀x,opn (U (.proj n 0 false)) x=f x
structure Sx (x0 x1 x2 x3 x4 x5 x6 x7 x8 x9 x10 x11 x12 x13 x14 x15:Prop):Prop where
 a:x0
 b:x1
 c:x2
 d:x3
 e:x4
 f:x5
 g:x6
 h:x7
 i:x8
 j:x9
 k:x10
 l:x11
 m:x12
 n:x13
 o:x14
 p:x15
theorem Je {x0 x1 i j m o q r t u a b c d e g:Prop}(h:((((x0/\x1)/\(i/\j))/\((m/\o)/\(q/\r)))/\(((t/\u)/\(a/\b))/\((c/\d)/\(e/\g))))):Sx x0 x1 i j m o q r t u a b c d e g:=
 ⟨h.1.1.1.1,h.1.1.1.2,h.1.1.2.1,h.1.1.2.2,h.1.2.1.1,h.1.2.1.2,h.1.2.2.1,h.1.2.2.2,h.2.1.1.1,h.2.1.1.2,h.2.1.2.1,h.2.1.2.2,h.2.2.1.1,h.2.2.1.2,h.2.2.2.1,h.2.2.2.2⟩
abbrev KE (Q:IV->IV)(n:Nat)(c:IV):Prop:=Q (.int (.ofNat n))=c
theorem pq {P:Program}{specs:List (Nat × Spec)}{i:Nat}{s s':Spec}{f a:List IV->Option (List IV)}(c:Afc i specs=some s)(hp:some f=some a)(b:Afc i specs=some s')(h:Im P f s')(d:s'.params.all (λp=>(Aej p).isNone)=true):Abp P a s:=by
 cases hp
 rw[c]at b
 cases b
 exact h.flat d
end Go.CT
namespace Go.CT
def frc {α:Type}(n:Nat)(f:Nat->α):α:=
 match n with
 | 0=>f 0
 | k+1=>f (k+1)
abbrev Dec (α:Type):=Nat->α × Nat
def dn (r:Nat):Dec Nat:=λs=>(s % r,s / r)
def Li {α:Type}(a:α):Dec α:=λs=>(a,s)
def En {α β:Type}(x:Dec α)(f:α->Dec β):Dec β:=λs=>
 match x s with
 | (a,s)=>frc s λs=>f a s
def Ax3 {α:Type}(x:Dec α):Nat->Dec (List α)
 | 0=>Li []
 | n+1=>En x λa=>En (Ax3 x n) λl=>Li (a::l)
def zB:Nat->Nat->List Bool
 | 0,_=> []
 | n+1,k=>dW (k % 2) 1::zB n (k / 2)
def As0:Dec (List Bool):=En (dn 64) λn=>En (dn (2 ^ n)) λk=>Li (zB n k)
def dKey:Dec Key:=En (dn 4) λa=>En (dn 32) λb=>En As0 λl=>Li (a,b,l)
def dT:Dec Nat:=dn 512
section
variable (N:Nat)
def dV:Dec Arg:=En (dn N) λn=>Li (.v n)
def dPV:Dec PV:=En (dn 2) fun
 | 0=>En (dn 64) λk=>En (dn 64) λo=>Li (.p k o)
 | _+1=>En (dV N) λx=>En dT λt=>En (dn 64) λo=>Li (.im x t o)
def dLV:Dec LV:=En (dn 8) fun
 | 0=>En (dV N) λx=>En dT λt=>Li (.at x t)
 | 1=>En dT λt=>Li (.nil t)
 | 2=>En (dn 64) λk=>En dT λt=>Li (.ref k t)
 | 3=>En (dn 64) λk=>En (dn 8) λo=>Li (.ptr (.p k o))
 | 4=>En (dn 4096) λf=>En (dn 16) λn=>En (Ax3 (dPV N) n) λl=>Li (.fn f l)
 | 5=>En (dn 64) λk=>En dT λt=>Li (.mref k t)
 | 6=>En (dn 64) λk=>Li (.hid k)
 | _+7=>En (dV N) λx=>En dT λt=>Li (.st x t)
def dVV:Dec VV:=En (dn 2) fun
 | 0=>En (dLV N) λl=>Li (.leaf l)
 | _+1=>En dT λt=>En (dn 32) λn=>En (Ax3 (dLV N) n) λl=>Li (.agg t l)
def dOb:Dec Ob:=En (dn 5) fun
 | 0=>En dT λt=>En (dVV N) λv=>Li (.box t v)
 | 1=>En dT λe=>En dT λt=>En (dV N) λx=>Li (.arr e t x)
 | 2=>En dT λt=>En (dV N) λx=>Li (.box t (.leaf (.at x t)))
 | 3=>En dT λt=>En dT λa=>En dT λb=>En (dV N) λx=>Li (.mp t a b x)
 | _+4=>En (dV N) λx=>En (dV N) λy=>Li (.iter x y)
def dUp {α:Type}(x:Dec α):Nat->Nat->Dec (List (Nat × α))
 | _,0=>Li []
 | b,n+1=>En (En (dn 32) λd=>match dW d 31 with | true=>dn 512 | false=>Li d) λd=>En x λa=>En (dUp x (b+d+1) n) λl=>Li ((b+d,a)::l)
end
def dSt:Dec St:=En (dn 64) λn=>En (dn 64) λm=>En (dn 64) λa=>En (dUp (En (dVV n) λv=>Li ⟨[],.one v⟩) 0 a) λtm=>En (dn 32) λb=>En (dUp (dOb n) 0 b) λob=>Li ⟨n,m,tm,ob⟩
def dBlk:Dec Blk:=En (dn 32) λn=>En (Ax3 dKey n) λk=>En dSt λst=>Li ⟨k,st⟩
def Bi (s:Nat):List Blk:=(En (dn 64) (Ax3 dBlk) s).1
def dPS:Dec PS:=En (dn 8) fun
 | 0=>En dT λt=>Li (.data t)
 | 1=>En dT λt=>Li (.arr t)
 | 2=>En dT λt=>Li (.own t)
 | 3=>En dT λt=>En As0 λl=>Li (.box t l)
 | 4=>En (dn 4096) λf=>En (dn 16) λn=>En (Ax3 dT n) λl=>Li (.fn f l)
 | 5=>En dT λt=>Li (.rd t)
 | 6=>En dT λt=>En (dn 2) λb=>Li (.bld t (dW b 1))
 | _+7=>En (dn 4096) λf=>En (dn 16) λn=>Li (.fnb f n)
def dRS:Dec RS:=En (dn 8) fun
 | 0=>En dT λt=>Li (.whole t)
 | 1=>En dT λt=>En As0 λl=>Li (.cells t l)
 | 2=>Li .skip
 | 3=>En dT λt=>Li (.clip t)
 | 4=>En dT λt=>Li (.strict t)
 | 5=>En dT λt=>En As0 λl=>Li (.nbox t l)
 | _+6=>En (dn 4096) λf=>En (dn 16) λn=>En (Ax3 (En dT λt=>En As0 λl=>Li (t,l)) n) λl=>Li (.clo f l)
def A8h:Dec Spec:=En (dn 4096) λf=>En (dn 32) λn=>En (Ax3 dPS n) λp=>En (dn 16) λm=>En (Ax3 dRS m) λr=>En (dn 2) λb=>Li ⟨f,p,r,dW b 1⟩
def A5e (n s:Nat):List (Nat × Spec):=(dUp A8h 0 n s).1
end Go.CT
namespace Go.CT
open Go.RowKit Go.ChangeShapes
mutual
def IV.bulk:IV->Nat
 | .str s=>s.size+1
 | .agg xs=>IV.Dm xs+1
 | .list xs=>IV.Dm xs+1
 | _=>1
def IV.Dm:List IV->Nat
 | []=>0
 | x::xs=>x.bulk+IV.Dm xs
end
inductive WT (P:Program):TypeId->IV->Prop
 | int {t:TypeId} {k:IntKind} {n:Int} :P.underlying t=some (.int k)->k.min<=n->n<=k.max->WT P t (.int n)
 | bool {t:TypeId} {b:Bool} :P.underlying t=some .bool ->WT P t (.bool b)
 | str {t:TypeId} {s:ByteArray} :P.underlying t=some .string ->s.size<=maxLen->WT P t (.str s)
 | agg {t:TypeId} {ts:List TypeId} {xs:List IV} :Ak P t=true->leaves P t=some ts->xs.length=ts.length->
  (∀ (i:Nat) (u:TypeId) (x:IV),ts[i]?=some u->xs[i]?=some x->WT P u x)->WT P t (.agg xs)
 | list {t e:TypeId} {xs:List IV} :P.underlying t=some (.slice e)->xs.length<=maxLen->(∀x∈xs,WT P e x)->WT P t (.list xs)
def WTs (P:Program):List TypeId->List IV->Prop
 | [],[]=>True
 | t::ts,x::xs=>WT P t x/\WTs P ts xs
 | _,_=>False
def Agz (P:Program):List Field->Nat->Option Nat
 | [],n=>some n
 | f::fs,n=>if f.offset == n then Agz P fs (n+P.cellsOf f.type) else none
def K0 (P:Program):List Field->Option (List TypeId)
 | []=>some []
 | f::fs=>do
  let a <-leaves P f.type
  let b <-K0 P fs
  pure (a++b)
def U5 (P:Program)(TS:List TypeId)(t:TypeId):Bool:=
 (
  match leaves P t with
  | some ts=>ts.length == P.cellsOf t&&ts.all (λu=> !Ak P u)
  | none=>false)&&decide (t<P.types.size)&&P.readableRec t&&
 match P.underlying t with
 | some (.int _) | some .bool | some .string =>P.cellsOf t == 1&&leaves P t == some [t]
 | some (.slice e)=>TS.contains e&&decide (0<P.cellsOf e)&&P.cellsOf t == 1&&leaves P t == some [t]
 | some (.struct fs)=>fs.toList.all (λf=>TS.contains f.type)&&Agz P fs.toList 0 == some (P.cellsOf t)&&K0 P fs.toList == leaves P t
 | _=>false
def Anp (P:Program)(TS:List TypeId):Bool:=TS.all (U5 P TS)
def Asd (P:Program)(t:TypeId)(xs:List IV):IV:=if Ak P t then .agg xs else xs.headD .junk
def mkV (P:Program)(t:TypeId)(cs:List Value):Value:=if Ak P t then .agg cs.toArray else cs.headD undef
section
variable {H:Type}{enc:TypeId × Value->H}{P:Program}{w:World}{TS:List TypeId}{bk:DataW H->Nat}{bks:List (DataW H)->Nat}
structure Aro (bk:DataW H->Nat)(bks:List (DataW H)->Nat):Prop where
 nil:bks []=0
 cons: ∀d r,bks (d::r)=bk d+bks r
 one: ∀d,1<=bk d
 str: ∀s,bk (.lit (.string s))=s.length+1
 slice: ∀es sp,bks es+1<=bk (.slice es sp)
 agg: ∀ps,bk (.agg ps)=bks ps+1
structure Cells (P:Program)(w:World)(t:TypeId)(cs:List Value)(b:Nat)(xs:List IV):Prop where
 ex: ∃ts,leaves P t=some ts/\xs.length=ts.length/\cs.length=ts.length/\
  (∀ (i:Nat) (u:TypeId) (x:IV) (c:Value),ts[i]?=some u->xs[i]?=some x->cs[i]?=some c->Rel P w (λ_=>False) u x c/\WT P u x)
 bulk:IV.Dm xs<=b
theorem Lv: ∀ (xs ys:List IV),IV.Dm (xs++ys)=IV.Dm xs+IV.Dm ys
 | [],ys=>by simp[IV.Dm]
 | x::xs,ys=>by simp[IV.Dm,Lv xs ys];omega
theorem Cells.mk_val {t:TypeId}{cs:List Value}{b:Nat}{xs:List IV}(h:Cells P w t cs b xs)(q:U5 P TS t=true):
  Rel P w (λ_=>False) t (Asd P t xs) (mkV P t cs)/\WT P t (Asd P t xs)/\(Asd P t xs).bulk <=b+1/\(Ak P t=false->(Asd P t xs).bulk <=b)/\(mkV P t cs).cells.toList =cs:=by
 obtain⟨⟨ts,e,r,B,g⟩,o⟩:=h
 unfold U5 at q
 simp only[aD]at q
 obtain⟨⟨⟨y,_⟩,_⟩,C⟩:=q
 rw[e]at y
 simp only[aD,beq_iff_eq,aY,bY]at y
 unfold Asd mkV
 by_cases z:Ak P t=true
 ·simp only[z,Zt]
  refine⟨.agg z e r (by omega) (λi u A=>y.2 u (bO A)) (λi u x c a b d=>(g i u x c a b (by grind)).1),.agg z e r (λi u x a b=>?_),by simp[IV.bulk];omega,by simp,by simp[Value.cells]⟩
  have A:i<cs.length:=by grind
  exact(g i u x cs[i] a b (aX A)).2
 ·have j:Ak P t=false:=by grind
  have m:leaves P t=some [t]:=by
   revert C
   cases F:P.underlying t with
   | none=>simp
   | some d=>
    cases d<;>simp_all[Ak]
  rw[m]at e
  injection e with e
  subst e
  match xs,cs,r,B,g,o with
  | [x],[c],_,_,g,o=>
   have:=g 0 t x c rfl rfl rfl
   simp only[j,aG,Zf,List.headD_cons]
   refine⟨this.1,this.2,?_,λ_=>?_,?_⟩
   ·simp[IV.Dm]at o;omega
   ·simpa [IV.Dm]using o
   ·rw[(this.1.one j).2]
theorem Age (F:Aro bk bks){fuel:Nat}{spare:Nat->Bool}{cs:List Value}
  (G: ∀ (t:TypeId) (cs:List Value) (d:DataW H) (I:List MemPlace),t∈TS->DataW.trod enc P w 0 spare true fuel t cs=some (d,I)-> ∃xs,Cells P w t cs (bk d) xs) (j: ∀t∈TS,∀ts,leaves P t=some ts->ts.length=P.cellsOf t):
  ∀ (fs:List Field) (n total:Nat) (ts:List TypeId) (xs:List (DataW H × List MemPlace)),Agz P fs n=some total->K0 P fs=some ts->(∀f∈fs,f.type∈TS)->total<=cs.length->
   (fs.mapM λf=>DataW.trod enc P w 0 spare true fuel f.type ((cs.drop f.offset).take (P.cellsOf f.type)))=some xs->
   n+ts.length=total/\ ∃ys:List IV,ys.length=ts.length/\IV.Dm ys<=bks (xs.map (·.1))/\
    ∀ (i:Nat) (u:TypeId) (x:IV) (c:Value),ts[i]?=some u->ys[i]?=some x->cs[n+i]?=some c->Rel P w (λ_=>False) u x c/\WT P u x
 | [],n,total,ts,xs,e,m,_,_,g=>by
  simp only[Agz,aB]at e
  simp only[K0,aB]at m
  subst e m
  simp only[dS,bE,aB]at g
  subst g
  exact⟨rfl,[],rfl,by simp[IV.Dm],λi u x c h=>by simp at h⟩
 | f::fs,n,total,ts,xs,e,m,A,o,g=>by
  simp only[Agz]at e
  split at e
  rotate_left
  ·cases e
  rename_i q
  simp only[beq_iff_eq]at q
  simp only[K0,aZ,aC,bE,aB]at m
  obtain⟨a,r,b,B,rfl⟩:=m
  rw[dD]at g
  simp only[aZ,aC,bE,aB]at g
  obtain⟨x0,C,xs0,y,rfl⟩:=g
  obtain⟨M,ys,N,Q,R⟩:=Age F G j fs _ total b xs0 e B (λf J=>A f (by simp[J])) o y
  obtain⟨zs,⟨⟨K,z,z2,z3,z4⟩,z5⟩⟩:=G f.type _ x0.1 x0.2 (A f (by simp)) C
  rw[r]at z
  injection z with z
  subst z
  have L:=j f.type (A f (by simp)) a r
  refine⟨by grind,zs++ys,by grind,?_,λi u x c S T U=>?_⟩
  ·simp only[bK,F.cons,Lv];omega
  grind
theorem mapM_at {α β:Type}{f:α->Option β} : ∀ {l:List α} {r:List β},l.mapM f=some r->r.length=l.length/\ ∀ (i:Nat) (a:α),l[i]?=some a-> ∃b,r[i]?=some b/\f a=some b
 | [],r,h=>by grind
 | a::l,r,h=>by
  rw[dD]at h
  simp only[aZ,aC,bE,aB]at h
  obtain⟨b,d,bs,c,rfl⟩:=h
  obtain⟨e,g⟩:=mapM_at c
  grind
theorem Apa (a:Aro bk bks){Q:Nat->IV->Prop} : ∀ (ds:List (DataW H)) (n:Nat),(∀j (d:DataW H),ds[j]?=some d-> ∃x:IV,Q (n+j) x/\x.bulk<=bk d)->
  ∃xs:List IV,xs.length=ds.length/\IV.Dm xs<=bks ds/\ ∀j (x:IV),xs[j]?=some x->Q (n+j) x
 | [],n,_=>⟨[],rfl,by simp[IV.Dm],λj x h=>by simp at h⟩
 | d::ds,n,h=>by
  obtain⟨x,e,g⟩:=h 0 d rfl
  obtain⟨xs,b,i,m⟩:=Apa a (Q:=Q) ds (n+1) (λj c hd=>by
   have:=h (j+1) c (by grind)
   grind)
  refine⟨x::xs,by simp[b],by simp only[IV.Dm,a.cons];omega,λj y o=>?_⟩
  grind
theorem Alg (q:Aro bk bks)(o:Anp P TS=true){spare:Nat->Bool} : ∀ (fuel:Nat) (t:TypeId) (cs:List Value) (d:DataW H) (T:List MemPlace),t∈TS->
  DataW.trod enc P w 0 spare true fuel t cs=some (d,T)-> ∃xs,Cells P w t cs (bk d) xs/\(Ak P t=true->IV.Dm xs+1<=bk d)
 | 0,_,_,_,_,_,h=>by simp[DataW.trod]at h
 | fuel+1,t,cs,d,T,U,h=>by
  have hd:U5 P TS t=true:=aY.1 o t U
  have af:=hd
  unfold U5 at hd
  simp only[aD]at hd
  obtain⟨⟨⟨hl,_⟩,_⟩,m⟩:=hd
  have leaf: ∀ (x:IV) (c:Value),leaves P t=some [t]->Rel P w (λ_=>False) t x c->WT P t x->x.bulk<=bk d->Ak P t=false-> ∃xs,Cells P w t [c] (bk d) xs/\(Ak P t=true->IV.Dm xs+1<=bk d):=by
   intro x c e1 e2 e3 e4 e5
   refine⟨[x],⟨⟨[t],e1,rfl,rfl,λi u y c' g hy hc=>?_⟩,by simpa [IV.Dm]using e4⟩,λh=>by grind⟩
   grind
  rw[DataW.trod_step]at h
  unfold DataW.trodStep at h
  split at h
  ·-- bool
   rename_i b g
   simp only[aB,aN]at h
   rw[g]at m
   simp only[aD,beq_iff_eq]at m
   exact leaf (.bool b) _ m.2 (.bool g) (.bool g) (by simp only[IV.bulk];exact q.one _) (by grind)
  ·rename_i k k' n g
   split at h
   rotate_left
   ·cases h
   rename_i F
   obtain⟨rfl,F⟩:=F
   rw[g]at m
   simp only[aD,beq_iff_eq]at m
   simp only[Lit.wf,aD,decide_eq_true_eq]at F
   exact leaf (.int n) _ m.2 (.int g) (.int g F.1 F.2) (by simp only[IV.bulk];exact q.one _) (by grind)
  ·grind
  ·rename_i s g
   split at h
   rotate_left
   ·cases h
   rename_i hs
   simp only[aB,aN]at h
   rw[g]at m
   simp only[aD,beq_iff_eq]at m
   refine leaf (.str s) _ m.2 (.str g) (.str g hs) ?_ (by grind)
   rw[<-h.1,q.str]
   simp only[IV.bulk,Array.length_toList]
   simp_all
  ·grind
  ·grind
  ·rename_i e g
   rw[g]at m
   simp only[aD,beq_iff_eq]at m
   refine leaf (.list []) _ m.2 ?_ (.list g (by simp) (by simp)) (by simp only[IV.bulk,IV.Dm];exact q.one _) (by grind)
   exact .list (λ_=> .tuple #[]) g (by simp) (by simp) (by simp) (by simp)
  ·rename_i e a len cap g
   rw[g]at m
   simp only[aD,beq_iff_eq,decide_eq_true_eq,cZ]at m
   obtain⟨⟨⟨G,ag⟩,I⟩,z⟩:=m
   simp only[aM,aC,aH]at h
   obtain⟨⟨_,ah,ai⟩,elems,X,rest,_,h⟩:=h
   simp only[aN]at h
   obtain⟨aj,Y⟩:=mapM_at X
   have Z:U5 P TS e=true:=aY.1 o e G
   have J:Ag P e=P.cellsOf e:=by
    unfold Ag Program.cellsOf
    grind
   have key:=Apa (H:=H) q (Q:=λj x=> ∃v,E2 w (a.add (j * Ag P e)) v (Ag P e)/\Rel P w (λ_=>False) e x v/\WT P e x) (elems.map (·.1)) 0 (λj d' K=>by
    rw[dG]
    rw[List.getElem?_map,aH]at K
    obtain⟨⟨d1,p1⟩,L,rfl⟩:=K
    have aa:j<len:=by
     grind
    obtain⟨x1,r,M⟩:=Y j j (by simp[aa])
    rw[L]at r
    injection r with r
    subst r
    simp only[aC]at M
    obtain⟨cj,B,ab⟩:=M
    obtain⟨ys,ac,ad⟩:=Alg q o fuel e cj d1 p1 G ab
    obtain⟨r1,r2,r3,r4,r5⟩:=ac.mk_val Z
    unfold World.cells? at B
    rw[if_pos (dL _)]at B
    obtain⟨n1,n2⟩:=mapM_at B
    rw[List.length_range]at n1
    refine⟨Asd P e ys,⟨mkV P e cj,⟨?_,λi u g=>?_⟩,r1,r2⟩,?_⟩
    ·grind
    ·rw[<-cB,r5]at g
     have hi:i<P.cellsOf e:=by grind
     obtain⟨b,ak,al⟩:=n2 i i (by simp[hi])
     grind
    ·by_cases ha:Ak P e=true
     ·have:=ad ha
      have e1:(Asd P e ys).bulk =IV.Dm ys+1:=by simp[Asd,ha,IV.bulk]
      grind
     grind)
   obtain⟨xs,k1,k2,k3⟩:=key
   have am:xs.length=len:=by grind
   have ae: ∀j,∃v,∀x,xs[j]?=some x->E2 w (a.add (j * Ag P e)) v (Ag P e)/\Rel P w (λ_=>False) e x v/\WT P e x:=by
    intro j
    by_cases L:j<xs.length
    ·simp_all
    simp_all
   obtain⟨vs,N⟩:=Classical.axiomOfChoice ae
   refine leaf (.list xs) _ z ?_ (.list g (by omega) (λx C=>?_)) ?_ (by grind)
   ·have:=Rel.list (P:=P) (w:=w) (O:=λ_=>False) (t:=t) (e:=e) (xs:=xs) (A:=some a) (c:=cap) vs g (by omega) (by omega)
     (λ_=>⟨by omega,a,rfl,not_false,λj L=>(N j _ (aX L)).1⟩) (λj x C=>(N j x C).2.1)
    grind
   ·obtain⟨j,L⟩:=List.getElem?_of_mem C
    grind
   ·rw[<-h.1]
    have:=q.slice (elems.map (·.1)) (rest.map (·.1))
    simp only[IV.bulk]
    omega
  ·rename_i fs g
   rw[g]at m
   simp only[aD,beq_iff_eq,aY,cZ]at m
   obtain⟨⟨I,z⟩,R⟩:=m
   split at h
   rotate_left
   ·cases h
   rename_i hlen
   simp only[aH]at h
   obtain⟨xs,hm,C⟩:=h
   simp only[aN]at C
   cases S:leaves P t with
   | none=>grind
   | some ts=>
    rw[S]at hl R
    simp only[aD,beq_iff_eq]at hl
    have J: ∀t∈TS,∀ts,leaves P t=some ts->ts.length=P.cellsOf t:=by
     intro u g us an
     have hd:U5 P TS u=true:=aY.1 o u g
     unfold U5 at hd
     grind
    obtain⟨q1,ys,q2,q3,q4⟩:=Age (TS:=TS) q (fuel:=fuel) (spare:=spare) (λt cs d T U h=>by
     obtain⟨xs,h1,_⟩:=Alg q o fuel t cs d T U h
     grind) J fs.toList 0 (P.cellsOf t) ts xs z R (λf hf=>I f hf) (by omega) hm
    have hb:IV.Dm ys+1<=bk d:=by rw[<-C.1,q.agg];omega
    refine⟨ys,⟨⟨ts,S,q2,by omega,λi u x c a b e=>q4 i u x c a b (by grind)⟩,by omega⟩,λ_=>hb⟩
  all_goals grind
end
end Go.CT
namespace Go.CT
section
variable {P:Program}{t e:TypeId}{x:IV}
theorem WT.Ih {k:IntKind}(c:P.underlying t=some (.int k))(h:WT P t x): ∃n,x= .int n/\k.min<=n/\n<=k.max:=by
 cases h with
 | int h a b=>rw[c]at h;injection h with h;injection h with h;subst h;exact⟨_,rfl,a,b⟩
 | bool h=>rw[c]at h;cases h
 | str h=>rw[c]at h;cases h
 | agg h=>simp[Ak,c]at h
 | list h=>rw[c]at h;cases h
theorem WT.Nz (a:P.underlying t=some .bool)(h:WT P t x): ∃b,x= .bool b:=by
 cases h with
 | int h=>rw[a]at h;cases h
 | bool h=>exact⟨_,rfl⟩
 | str h=>rw[a]at h;cases h
 | agg h=>simp[Ak,a]at h
 | list h=>rw[a]at h;cases h
theorem WT.Is (b:P.underlying t=some .string)(h:WT P t x): ∃s,x= .str s/\s.size<=maxLen:=by
 cases h with
 | int h=>rw[b]at h;cases h
 | bool h=>rw[b]at h;cases h
 | str h a=>exact⟨_,rfl,a⟩
 | agg h=>simp[Ak,b]at h
 | list h=>rw[b]at h;cases h
theorem WT.Da (c:P.underlying t=some (.slice e))(h:WT P t x): ∃xs,x= .list xs/\xs.length<=maxLen/\ ∀y∈xs,WT P e y:=by
 cases h with
 | int h=>rw[c]at h;cases h
 | bool h=>rw[c]at h;cases h
 | str h=>rw[c]at h;cases h
 | agg h=>simp[Ak,c]at h
 | list h a b=>rw[c]at h;injection h with h;injection h with h;subst h;exact⟨_,rfl,a,b⟩
theorem A0n: ∀ {ts:List TypeId} {xs:List IV},xs.length=ts.length->(∀ (i:Nat) (u:TypeId) (x:IV),ts[i]?=some u->xs[i]?=some x->WT P u x)->WTs P ts xs
 | [],[],_,_=>trivial
 | t::ts,x::xs,h,c=>⟨c 0 t x rfl rfl,A0n (by simpa using h) λi u y a b=>c (i+1) u y (by simpa using a) (by simpa using b)⟩
 | [],_::_,h,_=>by simp at h
 | _::_,[],h,_=>by simp at h
theorem WT.J5 {ts:List TypeId}(a:Ak P t=true)(c:leaves P t=some ts)(h:WT P t x): ∃xs,x= .agg xs/\WTs P ts xs:=by
 cases h with
 | int h=>simp[Ak,h]at a
 | bool h=>simp[Ak,h]at a
 | str h=>simp[Ak,h]at a
 | agg g b d e=>rw[c]at b;injection b with b;subst b;exact⟨_,rfl,A0n d e⟩
 | list h=>simp[Ak,h]at a
theorem WTs.cons_inv {ts:List TypeId}{xs:List IV}(h:WTs P (t::ts) xs): ∃y ys,xs=y::ys/\WT P t y/\WTs P ts ys:=by
 cases xs with
 | nil=>cases h
 | cons y ys=>exact⟨y,ys,rfl,h.1,h.2⟩
theorem WTs.Xe {xs:List IV}(h:WTs P [] xs):xs= []:=by
 cases xs with
 | nil=>rfl
 | cons y ys=>cases h
end
theorem Kx {α:Type}{enc:α->IV}{ok:α->Prop} : ∀ {xs:List IV},(∀x∈xs,∃a,x=enc a/\ok a)-> ∃as:List α,xs=as.map enc/\ ∀a∈as,ok a
 | [],_=>⟨[],rfl,by simp⟩
 | x::xs,h=>by
  obtain⟨a,rfl,b⟩:=h x (by simp)
  obtain⟨as,rfl,has⟩:=Kx (enc:=enc) (ok:=ok) (xs:=xs) λy c=>h y (by simp[c])
  exact⟨a::as,rfl,by simpa using⟨b,has⟩⟩
theorem Ae9 (x:IV):1<=x.bulk:=by
 cases x<;>simp[IV.bulk]
theorem D9: ∀xs:List IV,xs.length<=IV.Dm xs
 | []=>by simp[IV.Dm]
 | x::xs=>by have:=Ae9 x;have:=D9 xs;simp only[IV.Dm,aP];omega
theorem Gv {x:IV} : ∀ {xs:List IV},x∈xs->x.bulk<=IV.Dm xs
 | y::xs,h=>by
  simp only[IV.Dm]
  rcases aI.1 h with rfl | h
  ·omega
  ·have:=Gv h;omega
theorem wrap64 {n:Int}(a: -9223372036854775808<=n)(b:n<=9223372036854775807):IntKind.i64.wrap n=n:=IntWalk.i64_in n ⟨a,b⟩
theorem Amq {P:Program}{specs:List (Nat × Spec)}{S1:Nat->List Blk}{fuel:Nat}{pr:Nat->Option (List IV->Option (List IV))}{i b:Nat}{xs rs:List IV}(k:Nat)(h:run (tab P specs S1 fuel) pr k ⟨i,b⟩ xs=some rs):V (tab P specs S1 fuel) pr ⟨i,b⟩ xs=some rs:=An7 _ _ k _ _ _ h
@[simp] theorem Aw {α:Type}{c:Prop}[Decidable c](x y:α):(if c then some x else some y)=some (if c then x else y):=by split<;>rfl
@[simp] theorem Al {c:Prop}[Decidable c](a b:Bool):(if c then IV.bool a else IV.bool b)=IV.bool (if c then a else b):=by split<;>rfl
@[simp] theorem A4z {c:Prop}[Decidable c](a b:Int):(if c then IV.int a else IV.int b)=IV.int (if c then a else b):=by split<;>rfl
end Go.CT
namespace Go.CT
inductive Val where
 | mk (k n:Int) (s:ByteArray) (l:List Val) (f:List (ByteArray × Val))
namespace Val
def k:Val->Int | ⟨a,_,_,_,_⟩=>a
def n:Val->Int | ⟨_,a,_,_,_⟩=>a
def s:Val->ByteArray | ⟨_,_,a,_,_⟩=>a
def l:Val->List Val | ⟨_,_,_,a,_⟩=>a
def f:Val->List (ByteArray × Val) | ⟨_,_,_,_,a⟩=>a
@[simp] theorem A4c {a b c d e} :k ⟨a,b,c,d,e⟩=a:=rfl
@[simp] theorem A5p {a b c d e} :n ⟨a,b,c,d,e⟩=b:=rfl
@[simp] theorem Aor {a b c d e} :s ⟨a,b,c,d,e⟩=c:=rfl
@[simp] theorem Wf {a b c d e} :l ⟨a,b,c,d,e⟩=d:=rfl
@[simp] theorem Aay {a b c d e} :f ⟨a,b,c,d,e⟩=e:=rfl
theorem eta (v:Val):v=⟨v.k,v.n,v.s,v.l,v.f⟩:=by cases v;rfl
end Val
mutual
def Val.enc:Val->IV
 | ⟨k,n,s,l,f⟩=> .agg [.int k,.int n,.str s,.list (Aia l),.list (Ag0 f)]
def Aia:List Val->List IV
 | []=> []
 | v::vs=>v.enc::Aia vs
def Ag0:List (ByteArray × Val)->List IV
 | []=> []
 | (nm,⟨k,n,s,l,f⟩)::fs=> .agg [.str nm,.int k,.int n,.str s,.list (Aia l),.list (Ag0 f)]::Ag0 fs
end
def Val.Gg (v:Val):List IV:= [.int v.k,.int v.n,.str v.s,.list (Aia v.l),.list (Ag0 v.f)]
def Fld.enc (p:ByteArray × Val):IV:= .agg (.str p.1::p.2.Gg)
theorem Val.E0 (v:Val):v.enc= .agg v.Gg:=by cases v;rfl
theorem Qf (l:List Val):Aia l=l.map Val.enc:=by
 induction l with
 | nil=>rfl
 | cons v l a=>simp[Aia,a]
theorem Pc (l:List (ByteArray × Val)):Ag0 l=l.map Fld.enc:=by
 induction l with
 | nil=>rfl
 | cons p l a=>
  obtain⟨nm,v⟩:=p
  cases v
  simp[Ag0,a,Fld.enc,Val.Gg]
theorem Val.ind {P:Val->Prop}(h: ∀v,(∀x∈v.l,P x)->(∀p∈v.f,P p.2)->P v): ∀v,P v:=by
 intro v
 refine Val.rec (motive_1:=P) (motive_2:=λl=> ∀x∈l,P x) (motive_3:=λf=> ∀p∈f,P p.2) (motive_4:=λp=>P p.2) ?_ ?_ ?_ ?_ ?_ ?_ v
 ·intro k n s l f d e;exact h ⟨k,n,s,l,f⟩ d e
 ·simp
 ·intro v l g i x c
  rcases aI.1 c with rfl | c
  ·exact g
  ·exact i x c
 ·simp
 ·intro v l g i x c
  rcases aI.1 c with rfl | c
  ·exact g
  ·exact i x c
 ·intro a b h;exact h
@[simp] theorem Val.Bn (v:Val):O.proj 0 v.enc=some (.int v.k):=by rw[v.E0];rfl
@[simp] theorem Val.Dg (v:Val):O.proj 1 v.enc=some (.int v.n):=by rw[v.E0];rfl
@[simp] theorem Val.Eu (v:Val):O.proj 2 v.enc=some (.str v.s):=by rw[v.E0];rfl
@[simp] theorem Val.Cj (v:Val):O.proj 3 v.enc=some (.list (v.l.map Val.enc)):=by rw[v.E0,<-Qf];rfl
@[simp] theorem Val.Cm (v:Val):O.proj 4 v.enc=some (.list (v.f.map Fld.enc)):=by rw[v.E0,<-Pc];rfl
@[simp] theorem Fld.Bn (p:ByteArray × Val):O.proj 0 (Fld.enc p)=some (.str p.1):=rfl
@[simp] theorem Fld.J8 (p:ByteArray × Val):O.projs 1 5 (Fld.enc p)=some p.2.enc:=by rw[p.2.E0];rfl
@[simp] theorem Fld.Dg (p:ByteArray × Val):O.proj 1 (Fld.enc p)=some (.int p.2.k):=rfl
@[simp] theorem Fld.Eu (p:ByteArray × Val):O.proj 2 (Fld.enc p)=some (.int p.2.n):=rfl
@[simp] theorem Fld.Cj (p:ByteArray × Val):O.proj 3 (Fld.enc p)=some (.str p.2.s):=rfl
@[simp] theorem Fld.Cm (p:ByteArray × Val):O.proj 4 (Fld.enc p)=some (.list (p.2.l.map Val.enc)):=by rw[<-Qf];rfl
@[simp] theorem Fld.H3 (p:ByteArray × Val):O.proj 5 (Fld.enc p)=some (.list (p.2.f.map Fld.enc)):=by rw[<-Pc];rfl
theorem Val.Bm (v:Val):v.Gg= [.int v.k,.int v.n,.str v.s,.list (v.l.map Val.enc),.list (v.f.map Fld.enc)]:=by rw[<-Qf,<-Pc];rfl
theorem Val.fold (k n:Int)(s:ByteArray)(l:List Val)(f:List (ByteArray × Val)):IV.agg [.int k,.int n,.str s,.list (l.map Val.enc),.list (f.map Fld.enc)]=Val.enc ⟨k,n,s,l,f⟩:=by rw[<-Qf,<-Pc];rfl
theorem Val.C9 (v:Val):IV.agg [.int v.k,.int v.n,.str v.s,.list (v.l.map Val.enc),.list (v.f.map Fld.enc)]=v.enc:=by rw[Val.fold,<-Val.eta]
theorem Fld.fold (nm:ByteArray)(k n:Int)(s:ByteArray)(l:List Val)(f:List (ByteArray × Val)):IV.agg [.str nm,.int k,.int n,.str s,.list (l.map Val.enc),.list (f.map Fld.enc)]=Fld.enc (nm,⟨k,n,s,l,f⟩):=by rw[<-Qf,<-Pc];rfl
theorem Fld.C9 (nm:ByteArray)(v:Val):IV.agg [.str nm,.int v.k,.int v.n,.str v.s,.list (v.l.map Val.enc),.list (v.f.map Fld.enc)]=Fld.enc (nm,v):=by rw[Fld.fold,<-Val.eta]
theorem Be {i:Nat}(h:i<=4611686018427387904):IntKind.i64.wrap ((i:Int)+1)=((i+1:Nat):Int):=by rw[wrap64 (by omega) (by omega)];rfl
theorem Ao {i n:Nat} :decide ((i:Int)<(n:Int))=decide (i<n):=by simp
theorem A02 {s:ByteArray}{i:Nat}(h:i<s.size):s[i]?=some s[i]:=getElem?_pos s i h
theorem Azq {s t:ByteArray} :O.A06 s t=Op.bytesLess s.data.toList t.data.toList:=by unfold O.A06;rw[ByteArray.toList_eq,ByteArray.toList_eq]
theorem Ox: ∀l:List UInt8,Op.bytesLess l l=false
 | []=>rfl
 | a::l=>by simp[Op.bytesLess,Ox l]
end Go.CT
namespace Go.CT
def blt (s t:ByteArray):Bool:=Op.bytesLess s.data.toList t.data.toList
theorem blt_eq (s t:ByteArray):O.A06 s t=blt s t:=Azq
theorem Adz: ∀ {a b c:List UInt8},Op.bytesLess a b=true->Op.bytesLess b c=true->Op.bytesLess a c=true
 | _,_,[],_,h=>by simp[Op.bytesLess]at h
 | [],_,_::_,_,_=>by simp[Op.bytesLess]
 | _::_,[],_::_,h,_=>by simp[Op.bytesLess]at h
 | a::x,b::y,c::z,e,d=>by
  simp only[Op.bytesLess,dO,decide_eq_true_eq,aD,beq_iff_eq]at e d ⊢
  rcases e with e | ⟨rfl,e⟩
  ·rcases d with d | ⟨rfl,_⟩
   ·exact .inl (UInt8.lt_trans e d)
   ·exact .inl e
  ·rcases d with d | ⟨rfl,d⟩
   ·exact .inl d
   ·exact .inr ⟨rfl,Adz e d⟩
theorem Wt: ∀ (a b:List UInt8),Op.bytesLess a b=true\/a=b\/Op.bytesLess b a=true
 | [],[]=> .inr (.inl rfl)
 | [],_::_=> .inl (by simp[Op.bytesLess])
 | _::_,[]=> .inr (.inr (by simp[Op.bytesLess]))
 | a::x,b::y=>by
  simp only[Op.bytesLess,dO,decide_eq_true_eq,aD,beq_iff_eq]
  rcases Nat.lt_trichotomy a.toNat b.toNat with h | h | h
  ·exact .inl (.inl (dA.2 h))
  ·obtain rfl:=UInt8.toNat_inj.1 h
   rcases Wt x y with h | rfl | h
   ·exact .inl (.inr ⟨rfl,h⟩)
   ·exact .inr (.inl rfl)
   ·exact .inr (.inr (.inr ⟨rfl,h⟩))
  ·exact .inr (.inr (.inl (dA.2 h)))
theorem Ed (s:ByteArray):blt s s=false:=Ox _
theorem G7 {s t u:ByteArray}(a:blt s t=true)(b:blt t u=true):blt s u=true:=Adz a b
theorem Gq {s t:ByteArray}(h:s.data.toList=t.data.toList):s=t:=by
 cases s;cases t;simpa using h
theorem Ku (s t:ByteArray):blt s t=true\/s=t\/blt t s=true:=by
 rcases Wt s.data.toList t.data.toList with h | h | h
 ·exact .inl h
 ·exact .inr (.inl (Gq h))
 ·exact .inr (.inr h)
theorem Ly {s t:ByteArray}(h:blt s t=true):s≠t:=λe=>by rw[e,Ed]at h;cases h
theorem Pj {s t:ByteArray}(h:blt s t=true):blt t s=false:=by
 cases a:blt t s with
 | false=>rfl
 | true=>have:=G7 h a;rw[Ed]at this;cases this
mutual
def Val.size:Val->Nat
 | ⟨_,_,_,l,f⟩=>1+Cv l+B4 f
def Cv:List Val->Nat
 | []=>0
 | v::vs=>v.size+Cv vs
def B4:List (ByteArray × Val)->Nat
 | []=>0
 | (_,v)::fs=>v.size+B4 fs
end
theorem Val.size_eq (v:Val):v.size=1+Cv v.l+B4 v.f:=by cases v;rfl
theorem Val.size_pos (v:Val):1<=v.size:=by rw[v.size_eq];omega
theorem Adc: ∀l:List Val,l.length<=Cv l
 | []=>by simp[Cv]
 | v::l=>by have:=v.size_pos;have:=Adc l;simp only[Cv,aP];omega
theorem Abu: ∀l:List (ByteArray × Val),l.length<=B4 l
 | []=>by simp[B4]
 | (_,v)::l=>by have:=v.size_pos;have:=Abu l;simp only[B4,aP];omega
theorem Abc {v:Val} : ∀ {l:List Val},v∈l->v.size<=Cv l
 | x::l,h=>by
  simp only[Cv]
  rcases aI.1 h with rfl | h
  ·omega
  ·have:=Abc h;omega
theorem Uw {p:ByteArray × Val} : ∀ {l:List (ByteArray × Val)},p∈l->p.2.size<=B4 l
 | (a,x)::l,h=>by
  simp only[B4]
  rcases aI.1 h with rfl | h
  ·simp only;omega
  ·have:=Uw h;omega
theorem Og: ∀ (a b:List (ByteArray × Val)),B4 (a++b)=B4 a+B4 b
 | [],b=>by simp[B4]
 | (_,v)::a,b=>by simp only[cE,B4,Og a b];omega
theorem Val.Rh {v x:Val}(h:x∈v.l):x.size<v.size:=by have:=Abc h;rw[v.size_eq];omega
theorem Val.Rg {v:Val}{p:ByteArray × Val}(h:p∈v.f):p.2.size<v.size:=by have:=Uw h;rw[v.size_eq];omega
theorem Val.We (v:Val):v.l.length<v.size:=by have:=Adc v.l;rw[v.size_eq];omega
theorem Val.Pp (v:Val):v.f.length<v.size:=by have:=Abu v.f;rw[v.size_eq];omega
theorem Val.Avq (v:Val):v.size<=v.enc.bulk:=by
 have h:(∀l:List Val,(∀x∈l,x.size<=x.enc.bulk)->Cv l<=IV.Dm (Aia l))/\(∀f:List (ByteArray × Val),(∀p∈f,p.2.size<=p.2.enc.bulk)->B4 f<=IV.Dm (Ag0 f)):=by
  constructor
  ·intro l
   induction l with
   | nil=>intro _;simp[Cv]
   | cons v l b=>
    intro h
    have a:=h v (by simp)
    have c:=b λx d=>h x (by simp[d])
    simp only[Cv,Aia,IV.Dm];omega
  ·intro f
   induction f with
   | nil=>intro _;simp[B4]
   | cons p f b=>
    intro h
    obtain⟨nm,v⟩:=p
    have a:=h (nm,v) (by simp)
    have c:=b λx d=>h x (by simp[d])
    cases v
    simp only[B4,Ag0,IV.Dm,IV.bulk,Val.enc]at a ⊢
    omega
 refine Val.ind (P:=λv=>v.size<=v.enc.bulk) (λv a c=>?_) v
 have e:=h.1 v.l a
 have a2:=h.2 v.f c
 rw[v.size_eq,v.E0]
 simp only[Val.Gg,IV.bulk,IV.Dm]
 omega
def I0 (c:UInt8):Bool:=c.toNat == 10||(decide (32<=c.toNat)&&decide (c.toNat<=126))
def J9 (s:ByteArray):Bool:=s.data.toList.all I0&&decide (s.size<=200)
def Bx (c:UInt8):Bool:=decide (97<=c.toNat/\c.toNat<=122)||decide (65<=c.toNat/\c.toNat<=90)||decide (48<=c.toNat/\c.toNat<=57)||c.toNat == 45||c.toNat == 95||c.toNat == 47
def De (s:ByteArray):Bool:=s.data.toList.all Bx&&decide (1<=s.size/\s.size<=40)
def Am:ByteArray:=⟨#[]⟩
def Ge (v:Val):Bool:=
 if v.k=1 then decide ((v.n=0\/v.n=1)/\v.s=Am)
 else if v.k=2 then decide (-1000000000000000<=v.n/\v.n<=1000000000000000/\v.s=Am)
 else if v.k=3 then decide (v.n=0)&&J9 v.s
 else decide ((v.k=0\/v.k=4\/v.k=5)/\v.n=0/\v.s=Am)
def rising:List (ByteArray × Val)->Bool
 | []=>true
 | [_]=>true
 | p::q::r=>blt p.1 q.1&&rising (q::r)
def Ca:Nat->Val->Bool
 | 0,_=>false
 | d+1,v=>Ge v&&decide (v.l.length<=64/\v.f.length<=64/\(v.k≠4->v.l= [])/\(v.k≠5->v.f= []))&&v.l.all (Ca d)&&v.f.all (λp=>De p.1&&Ca d p.2)&&rising v.f
def Val.valid (v:Val):Bool:=Ca 12 v&&decide (v.size<=600)
def Val.get (v:Val)(nm:ByteArray):Option Val:=if v.k=5 then(v.f.find? λp=>decide (p.1=nm)).map (·.2) else none
theorem Asu (s t:ByteArray):O.sLt (.str s) (.str t)=some (.bool (blt s t)):=by rw[O.A3d,blt_eq]
theorem Ud (s t:ByteArray):O.sGe (.str s) (.str t)=some (.bool (!blt s t)):=by rw[O.A2p,blt_eq]
theorem Avc (s t:ByteArray):(O.A06 s t||decide (s=t))= !blt t s:=by
 rw[blt_eq]
 rcases Ku s t with h | rfl | h
 ·rw[h,Pj h];rfl
 ·rw[Ed];simp
 ·have a:=Ly h
  rw[h,Pj h];simp
  exact λe=>a e.symm
theorem Aeg (s t:ByteArray):O.sLe (.str s) (.str t)=some (.bool (!blt t s)):=by rw[O.Ake,Avc]
theorem Atc (s t:ByteArray):O.sGt (.str s) (.str t)=some (.bool (blt t s)):=by rw[O.A30,Avc,Bool.not_not]
def Val.Ap (v:Val):Nat:=v.enc.bulk
def Dv (l:List Val):Nat:=IV.Dm (l.map Val.enc)
def Cn (l:List (ByteArray × Val)):Nat:=IV.Dm (l.map Fld.enc)
theorem Val.Bv (v:Val):v.Ap=6+v.s.size+Dv v.l+Cn v.f:=by
 unfold Val.Ap Dv Cn
 rw[v.E0,v.Bm]
 simp only[IV.bulk,IV.Dm];omega
theorem Fld.Bv (p:ByteArray × Val):(Fld.enc p).bulk =1+p.1.size+p.2.Ap:=by
 unfold Val.Ap Fld.enc
 rw[p.2.E0]
 simp only[IV.bulk,IV.Dm];omega
theorem Ej (v:Val)(l:List Val):Dv (v::l)=v.Ap+Dv l:=rfl
theorem B7 (p:ByteArray × Val)(l:List (ByteArray × Val)):Cn (p::l)=(1+p.1.size+p.2.Ap)+Cn l:=by
 rw[<-Fld.Bv];rfl
theorem Er:Dv []=0:=rfl
theorem Cq:Cn []=0:=rfl
theorem Sj (a b:List Val):Dv (a++b)=Dv a+Dv b:=by unfold Dv;rw[dP,Lv]
theorem It (a b:List (ByteArray × Val)):Cn (a++b)=Cn a+Cn b:=by unfold Cn;rw[dP,Lv]
theorem Val.Ga {v x:Val}(h:x∈v.l):x.Ap<v.Ap:=by
 have:x.Ap<=Dv v.l:=Gv (bA h)
 rw[v.Bv];omega
theorem Val.D0 {v:Val}{p:ByteArray × Val}(h:p∈v.f):p.1.size+p.2.Ap<v.Ap:=by
 have:(Fld.enc p).bulk <=Cn v.f:=Gv (bA h)
 rw[Fld.Bv]at this
 rw[v.Bv];omega
theorem Val.Bu (v:Val):v.l.length<v.Ap:=by
 have:=D9 (v.l.map Val.enc)
 rw[bT]at this
 rw[v.Bv];unfold Dv;omega
theorem Val.Bd (v:Val):v.f.length<v.Ap:=by
 have:=D9 (v.f.map Fld.enc)
 rw[bT]at this
 rw[v.Bv];unfold Cn;omega
theorem Val.Au4 (v:Val):v.s.size<v.Ap:=by rw[v.Bv];omega
theorem Val.Gb (v:Val):v.size<=v.Ap:=v.Avq
def As2 (d:Nat):Option ByteArray->List (ByteArray × Val)->Bool
 | _,[]=>true
 | o,p::r=>De p.1&&(match o with | none=>true | some q=>blt q p.1)&&Ca d p.2&&As2 d (some p.1) r
theorem Ajm (d:Nat): ∀ (r:List (ByteArray × Val)) (q:ByteArray × Val),As2 d (some q.1) r=(r.all (λp=>De p.1&&Ca d p.2)&&rising (q::r))
 | [],q=>rfl
 | p::r,q=>by
  simp only[As2,cQ,rising,Ajm d r p]
  cases De p.1<;>cases Ca d p.2<;>cases blt q.1 p.1<;>simp
theorem Ahk (d:Nat)(l:List (ByteArray × Val)):As2 d none l=(l.all (λp=>De p.1&&Ca d p.2)&&rising l):=by
 cases l with
 | nil=>rfl
 | cons p r=>
  simp only[As2,cQ,Ajm d r p]
  cases De p.1<;>cases Ca d p.2<;>simp
def H9 (l:List (ByteArray × Val)):Nat->Option ByteArray
 | 0=>none
 | i+1=>(l[i]?).map (·.1)
inductive Hd (N:Nat):Val->Prop
 | mk (v:Val):v.l.length<=N->v.f.length<=N->(∀x∈v.l,Hd N x)->(∀p∈v.f,Hd N p.2)->Hd N v
theorem Hd.We {N:Nat}{v:Val}(h:Hd N v):v.l.length<=N:=by cases h;assumption
theorem Hd.Pp {N:Nat}{v:Val}(h:Hd N v):v.f.length<=N:=by cases h;assumption
theorem Hd.Kk {N:Nat}{v x:Val}(h:Hd N v)(a:x∈v.l):Hd N x:=by cases h with | mk _ c d b e=>exact b x a
theorem Hd.J7 {N:Nat}{v:Val}{p:ByteArray × Val}(h:Hd N v)(hp:p∈v.f):Hd N p.2:=by cases h with | mk _ b c d a=>exact a p hp
theorem Hd.mono {N M:Nat}(d:N<=M): ∀v:Val,Hd N v->Hd M v:=
 Val.ind λv a b h=> .mk v (by have:=h.We;omega) (by have:=h.Pp;omega) (λx c=>a x c (h.Kk c)) (λp hp=>b p hp (h.J7 hp))
theorem Nl: ∀l:List Val,6 * l.length<=Dv l
 | []=>by simp
 | v::l=>by have:=Nl l;have:=v.Bv;rw[Ej,aP];omega
theorem R5: ∀l:List (ByteArray × Val),6 * l.length<=Cn l
 | []=>by simp
 | p::l=>by have:=R5 l;have:=p.2.Bv;rw[B7,aP];omega
theorem A57 (v:Val):6 * v.l.length<=v.Ap:=by have:=Nl v.l;have:=v.Bv;omega
theorem A6j (v:Val):6 * v.f.length<=v.Ap:=by have:=R5 v.f;have:=v.Bv;omega
theorem Dd {N:Nat} : ∀v:Val,v.Ap<=6 * N->Hd N v:=
 Val.ind λv a b h=> .mk v (by have:=A57 v;omega) (by have:=A6j v;omega) (λx c=>a x c (by have:=Val.Ga c;omega)) (λp hp=>b p hp (by have:=Val.D0 hp;omega))
def Aqv (N:Nat)(l:List (ByteArray × Val)):Prop:=l.length<=N/\ ∀p∈l,Hd N p.2
theorem Ary {N:Nat}{l:List (ByteArray × Val)}(h:Cn l<=6 * N):Aqv N l:=
 ⟨by have:=R5 l;omega,λp hp=>Dd p.2 (by
  have:(Fld.enc p).bulk <=Cn l:=Gv (bA hp)
  rw[Fld.Bv]at this;omega)⟩
end Go.CT
namespace Go.CT
mutual
inductive Sch where
 | mk (k mn mx:Int) (en:List ByteArray) (key:ByteArray) (it:List Sch) (f:List SFld)
inductive SFld where
 | mk (nm:ByteArray) (rq im:Bool) (df:List Val) (s:Sch)
end
namespace Sch
def k:Sch->Int | ⟨a,_,_,_,_,_,_⟩=>a
def mn:Sch->Int | ⟨_,a,_,_,_,_,_⟩=>a
def mx:Sch->Int | ⟨_,_,a,_,_,_,_⟩=>a
def en:Sch->List ByteArray | ⟨_,_,_,a,_,_,_⟩=>a
def key:Sch->ByteArray | ⟨_,_,_,_,a,_,_⟩=>a
def it:Sch->List Sch | ⟨_,_,_,_,_,a,_⟩=>a
def f:Sch->List SFld | ⟨_,_,_,_,_,_,a⟩=>a
end Sch
namespace SFld
def nm:SFld->ByteArray | ⟨a,_,_,_,_⟩=>a
def rq:SFld->Bool | ⟨_,a,_,_,_⟩=>a
def im:SFld->Bool | ⟨_,_,a,_,_⟩=>a
def df:SFld->List Val | ⟨_,_,_,a,_⟩=>a
def s:SFld->Sch | ⟨_,_,_,_,a⟩=>a
end SFld
mutual
def Sch.enc:Sch->IV
 | ⟨k,mn,mx,en,key,it,f⟩=> .agg [.int k,.int mn,.int mx,.list (en.map .str),.str key,.list (Aqr it),.list (Ab8 f)]
def Aqr:List Sch->List IV
 | []=> []
 | s::ss=>s.enc::Aqr ss
def Ab8:List SFld->List IV
 | []=> []
 | ⟨nm,rq,im,df,⟨k,mn,mx,en,key,it,f⟩⟩::fs=> .agg [.str nm,.bool rq,.bool im,.list (df.map Val.enc),.int k,.int mn,.int mx,.list (en.map .str),.str key,.list (Aqr it),.list (Ab8 f)]::Ab8 fs
end
def Sch.Gg (s:Sch):List IV:= [.int s.k,.int s.mn,.int s.mx,.list (s.en.map .str),.str s.key,.list (Aqr s.it),.list (Ab8 s.f)]
def SFld.enc (p:SFld):IV:= .agg (.str p.nm:: .bool p.rq:: .bool p.im:: .list (p.df.map Val.enc)::p.s.Gg)
theorem Sch.E0 (s:Sch):s.enc= .agg s.Gg:=by cases s;rfl
theorem Z4 (l:List Sch):Aqr l=l.map Sch.enc:=by
 induction l with
 | nil=>rfl
 | cons v l a=>simp[Aqr,a]
theorem Vp (l:List SFld):Ab8 l=l.map SFld.enc:=by
 induction l with
 | nil=>rfl
 | cons p l a=>
  obtain⟨nm,rq,im,df,s⟩:=p
  cases s
  simp only[Ab8,a,SFld.enc,Sch.Gg,bK]
  rfl
theorem Sch.ind {P:Sch->Prop}(h: ∀s,(∀x∈s.it,P x)->(∀p∈s.f,P p.s)->P s): ∀s,P s:=by
 intro s
 refine Sch.rec (motive_1:=P) (motive_2:=λp=>P p.s) (motive_3:=λl=> ∀x∈l,P x) (motive_4:=λf=> ∀p∈f,P p.s) ?_ ?_ ?_ ?_ ?_ ?_ s
 ·intro k mn mx en key it f b c;exact h ⟨k,mn,mx,en,key,it,f⟩ b c
 ·intro nm rq im df s h;exact h
 ·simp
 ·intro v l d e x a
  rcases aI.1 a with rfl | a
  ·exact d
  ·exact e x a
 ·simp
 ·intro v l d e x a
  rcases aI.1 a with rfl | a
  ·exact d
  ·exact e x a
theorem Sch.Bm (s:Sch):s.Gg= [.int s.k,.int s.mn,.int s.mx,.list (s.en.map .str),.str s.key,.list (s.it.map Sch.enc),.list (s.f.map SFld.enc)]:=by rw[<-Z4,<-Vp];rfl
@[simp] theorem Sch.Bn (s:Sch):O.proj 0 s.enc=some (.int s.k):=by rw[s.E0];rfl
@[simp] theorem Sch.Dg (s:Sch):O.proj 1 s.enc=some (.int s.mn):=by rw[s.E0];rfl
@[simp] theorem Sch.Eu (s:Sch):O.proj 2 s.enc=some (.int s.mx):=by rw[s.E0];rfl
@[simp] theorem Sch.Cj (s:Sch):O.proj 3 s.enc=some (.list (s.en.map .str)):=by rw[s.E0];rfl
@[simp] theorem Sch.Cm (s:Sch):O.proj 4 s.enc=some (.str s.key):=by rw[s.E0];rfl
@[simp] theorem Sch.H3 (s:Sch):O.proj 5 s.enc=some (.list (s.it.map Sch.enc)):=by rw[s.E0,<-Z4];rfl
@[simp] theorem Sch.Js (s:Sch):O.proj 6 s.enc=some (.list (s.f.map SFld.enc)):=by rw[s.E0,<-Vp];rfl
@[simp] theorem SFld.Bn (p:SFld):O.proj 0 p.enc=some (.str p.nm):=rfl
@[simp] theorem SFld.Dg (p:SFld):O.proj 1 p.enc=some (.bool p.rq):=rfl
@[simp] theorem SFld.Eu (p:SFld):O.proj 2 p.enc=some (.bool p.im):=rfl
@[simp] theorem SFld.Cj (p:SFld):O.proj 3 p.enc=some (.list (p.df.map Val.enc)):=rfl
@[simp] theorem SFld.Q5 (p:SFld):O.projs 4 7 p.enc=some p.s.enc:=by rw[p.s.E0];rfl
@[simp] theorem SFld.Cm (p:SFld):O.proj 4 p.enc=some (.int p.s.k):=rfl
@[simp] theorem SFld.H3 (p:SFld):O.proj 5 p.enc=some (.int p.s.mn):=rfl
@[simp] theorem SFld.Js (p:SFld):O.proj 6 p.enc=some (.int p.s.mx):=rfl
@[simp] theorem SFld.proj7 (p:SFld):O.proj 7 p.enc=some (.list (p.s.en.map .str)):=rfl
@[simp] theorem SFld.proj8 (p:SFld):O.proj 8 p.enc=some (.str p.s.key):=rfl
@[simp] theorem SFld.proj9 (p:SFld):O.proj 9 p.enc=some (.list (p.s.it.map Sch.enc)):=by rw[<-Z4];rfl
@[simp] theorem SFld.proj10 (p:SFld):O.proj 10 p.enc=some (.list (p.s.f.map SFld.enc)):=by rw[<-Vp];rfl
def Sch.Ap (s:Sch):Nat:=s.enc.bulk
def Aoa (l:List Sch):Nat:=IV.Dm (l.map Sch.enc)
def Aem (l:List SFld):Nat:=IV.Dm (l.map SFld.enc)
def Ani (l:List ByteArray):Nat:=IV.Dm (l.map .str)
theorem Sch.Bv (s:Sch):s.Ap=8+Ani s.en+s.key.size+Aoa s.it+Aem s.f:=by
 unfold Sch.Ap Aoa Aem Ani
 rw[s.E0,s.Bm]
 simp only[IV.bulk,IV.Dm];omega
theorem SFld.Bv (p:SFld):p.enc.bulk=4+p.nm.size+Dv p.df+p.s.Ap:=by
 unfold Sch.Ap SFld.enc Dv
 rw[p.s.E0]
 simp only[IV.bulk,IV.Dm];omega
theorem Sch.Gy {s x:Sch}(h:x∈s.it):x.Ap<s.Ap:=by
 have:x.Ap<=Aoa s.it:=Gv (bA h)
 rw[s.Bv];omega
theorem Sch.D0 {s:Sch}{p:SFld}(h:p∈s.f):p.nm.size+Dv p.df+p.s.Ap<s.Ap:=by
 have:p.enc.bulk<=Aem s.f:=Gv (bA h)
 rw[SFld.Bv]at this
 rw[s.Bv];omega
theorem Sch.Az2 {s:Sch}{p:SFld}{d:Val}(h:p∈s.f)(hd:d∈p.df):d.Ap+p.s.Ap<s.Ap:=by
 have:=Sch.D0 h
 have:d.Ap<=Dv p.df:=Gv (bA hd)
 omega
theorem Sch.R2 (s:Sch):s.it.length<s.Ap:=by
 have:=D9 (s.it.map Sch.enc)
 rw[bT]at this
 rw[s.Bv];unfold Aoa;omega
theorem Sch.Bd (s:Sch):s.f.length<s.Ap:=by
 have:=D9 (s.f.map SFld.enc)
 rw[bT]at this
 rw[s.Bv];unfold Aem;omega
theorem Sch.Kt (s:Sch):s.en.length<s.Ap:=by
 have:=D9 (s.en.map .str)
 rw[bT]at this
 rw[s.Bv];unfold Ani;omega
theorem Sch.Ad7 (s:Sch):s.key.size<s.Ap:=by rw[s.Bv];omega
theorem Sch.Atg {s:Sch}{e:ByteArray}(h:e∈s.en):e.size<s.Ap:=by
 have:(IV.str e).bulk <=Ani s.en:=Gv (bA h)
 simp only[IV.bulk]at this
 rw[s.Bv];omega
def Sch.fld (s:Sch)(nm:ByteArray):Option SFld:=s.f.find? λp=>decide (p.nm=nm)
end Go.CT
namespace Go.CT.Srt
variable {β:Type}
structure Ord (lt:β->β->Bool):Prop where
 irr: ∀x,lt x x=false
 tr: ∀x y z,lt x y=true->lt y z=true->lt x z=true
 neg: ∀x y z,lt x z=true->lt x y=true\/lt y z=true
def Db (lt:β->β->Bool)(l:List β):Prop:=l.Pairwise λx y=>lt y x=false
def eqv (lt:β->β->Bool)(k y:β):Bool:= !lt k y&& !lt y k
def Lp (lt:β->β->Bool)(l a:List β):Prop:=l.length=a.length/\ ∀k,l.filter (eqv lt k)=a.filter (eqv lt k)
section
variable {lt:β->β->Bool}
theorem Lp.refl (l:List β):Lp lt l l:=⟨rfl,λ_=>rfl⟩
theorem Lp.symm {l a:List β}(h:Lp lt l a):Lp lt a l:=⟨h.1.symm,λk=>(h.2 k).symm⟩
theorem Lp.trans {l a l'':List β}(h:Lp lt l a)(k:Lp lt a l''):Lp lt l l'':=⟨h.1.trans k.1,λx=>(h.2 x).trans (k.2 x)⟩
theorem Lp.append {a c b d:List β}(h:Lp lt a c)(k:Lp lt b d):Lp lt (a++b) (c++d):=
 ⟨by simp[h.1,k.1],λx=>by rw[bU,bU,h.2,k.2]⟩
theorem Ord.asymm (o:Ord lt){x y:β}(h:lt x y=true):lt y x=false:=by
 cases a:lt y x with
 | false=>rfl
 | true=>have:=o.tr _ _ _ h a;rw[o.irr]at this;cases this
theorem Ord.le_trans (o:Ord lt){x y z:β}(a:lt y x=false)(b:lt z y=false):lt z x=false:=by
 cases h:lt z x with
 | false=>rfl
 | true=>rcases o.neg z y x h with h | h<;>simp_all
theorem A55 (o:Ord lt){k x y:β}(a:eqv lt k x=true)(b:eqv lt k y=true):lt x y=false:=by
 simp only[eqv,aD,bY]at a b
 exact o.le_trans b.1 a.2
theorem Lp.swap (o:Ord lt){u v:List β}(h: ∀x∈u,∀y∈v,lt y x=true):Lp lt (u++v) (v++u):=by
 refine⟨by simp;omega,λk=>?_⟩
 rw[bU,bU]
 by_cases d: ∃x∈u,eqv lt k x=true
 ·obtain⟨x,a,b⟩:=d
  have:v.filter (eqv lt k)= []:=by
   rw[cT]
   intro y e c
   have:=A55 o c b
   rw[h x a y e]at this;cases this
  rw[this];simp
 ·have:u.filter (eqv lt k)= []:=by
   rw[cT]
   intro x a b
   exact d ⟨x,a,b⟩
  rw[this];simp
theorem Lp.mem (o:Ord lt){l a:List β}(h:Lp lt l a){x:β}(b:x∈l):x∈a:=by
 have:x∈l.filter (eqv lt x):=by rw[dQ];exact⟨b,by simp[eqv,o.irr]⟩
 rw[h.2]at this
 exact(dQ.1 this).1
theorem Db.append {a b:List β}(c:Db lt a)(d:Db lt b)(h: ∀x∈a,∀y∈b,lt y x=false):Db lt (a++b):=bC.2 ⟨c,d,h⟩
theorem Db.left {a b:List β}(h:Db lt (a++b)):Db lt a:=(bC.1 h).1
theorem Db.right {a b:List β}(h:Db lt (a++b)):Db lt b:=(bC.1 h).2.1
theorem Db.Aii {a b:List β}(h:Db lt (a++b)): ∀x∈a,∀y∈b,lt y x=false:=(bC.1 h).2.2
end
theorem A35 (A:List β)(x:β)(B:List β):(A++x::B)[A.length]?=some x:=by simp
theorem A1a (A:List β)(x y:β)(B:List β):(A++x::B).set A.length y=A++y::B:=by simp
theorem Di {l A B:List β}{x:β}{i:Nat}(h:l=A++x::B)(a:i=A.length):l[i]?=some x:=by subst h a;exact A35 A x B
theorem Jq {l A B:List β}{x y:β}{i:Nat}(h:l=A++x::B)(a:i=A.length):l.set i y=A++y::B:=by subst h a;exact A1a A x y B
section
variable (enc:β->IV)
def LE (l:List β):IV:= .list (l.map enc)
theorem idx {l:List β}{i:Nat}{x:β}(h:l[i]?=some x):O.index (LE enc l) (.int (i:Nat))=some (enc x):=by
 simp[LE,h]
theorem len (l:List β):O.len (LE enc l)=some (.int l.length):=by simp[LE]
theorem Aqi {l:List β}{i n:Nat}{p:Bool}{x:β}(h:i<l.length):O.setAt 0 n p true (LE enc l) (.int (i:Nat)) (enc x)=some (LE enc (l.set i x)):=by
 simp[LE,h,List.map_set]
end
structure Eqs (enc:β->IV)(lt:β->β->Bool)(sz:Nat)(p:Bool) where
 S:Nat->List IV->Option (List IV)
 B:Nat->List IV->Option (List IV)
 I:Nat->List IV->Option (List IV)
 M:Nat->List IV->Option (List IV)
 R:Nat->List IV->Option (List IV)
 X:Nat->List IV->Option (List IV)
 C:List IV->Option (List IV)
 cmp: ∀x y,∃c:Int,C [enc x,enc y]=some [.int c]/\(decide (c<0)=lt x y)
 s0: ∀x0:IV,S 0 [x0]=(O.len x0).bind λx1=>calls (B 0 [x0,x1]) 1 λx2=>some [x2]
 b0: ∀x0 x1:IV,B 0 [x0,x1]=B 1 [x1,(.int 20),(.int 0),(.int 20),x0]
 b1: ∀x0 x1 x2 x3 x4:IV,B 1 [x0,x1,x2,x3,x4]=
  (O.le x3 x0).bind λx5=>
  cnd x5 (calls (I 0 [x4,x2,x3]) 1 λx6=>(O.add .i64 x3 x1).bind λx7=>B 1 [x0,x1,x3,x7,x6])
   (calls (I 0 [x4,x2,x0]) 1 λx6=>B 2 [x0,x1,x6])
 b2: ∀x0 x1 x2:IV,B 2 [x0,x1,x2]=(O.lt x1 x0).bind λx3=>cnd x3 ((O.mul .i64 (.int 2) x1).bind λx4=>B 3 [x0,x1,(.int 0),x4,x2]) (some [x2])
 b3: ∀x0 x1 x2 x3 x4:IV,B 3 [x0,x1,x2,x3,x4]=
  (O.le x3 x0).bind λx5=>
  cnd x5 (
   (O.add .i64 x2 x1).bind λx6=>
   calls (M 0 [x4,x2,x6,x3]) 1 λx7=>
   (O.mul .i64 (.int 2) x1).bind λx8=>
   (O.add .i64 x3 x8).bind λx9=>
   B 3 [x0,x1,x3,x9,x7]) (
   (O.add .i64 x2 x1).bind λx6=>
   (O.lt x6 x0).bind λx7=>
   cnd x7 (calls (M 0 [x4,x2,x6,x0]) 1 λx8=>B 4 [x0,x1,x8]) (B 4 [x0,x1,x4]))
 b4: ∀x0 x1 x2:IV,B 4 [x0,x1,x2]=(O.mul .i64 x1 (.int 2)).bind λx3=>B 2 [x0,x3,x2]
 i0: ∀x0 x1 x2:IV,I 0 [x0,x1,x2]=(O.add .i64 x1 (.int 1)).bind λx3=>I 1 [x1,x2,x3,x0]
 i1: ∀x0 x1 x2 x3:IV,I 1 [x0,x1,x2,x3]=(O.lt x2 x1).bind λx4=>cnd x4 (I 2 [x0,x1,x2,x2,x3]) (some [x3])
 i2: ∀x0 x1 x2 x3 x4:IV,I 2 [x0,x1,x2,x3,x4]=
  (O.gt x3 x0).bind λx5=>
  (cnd x5 (
    (O.index x4 x3).bind λx6=>
    (O.sub .i64 x3 (.int 1)).bind λx7=>
    (O.index x4 x7).bind λx8=>
    calls (C [x6,x8]) 1 λx9=>
    (O.lt x9 (.int 0)).bind λx10=>
    some x10) (some (.bool false))).bind λx6=>
  cnd x6 (
   (O.sub .i64 x3 (.int 1)).bind λx7=>
   (O.sub .i64 x3 (.int 1)).bind λx8=>
   (O.index x4 x8).bind λx9=>
   (O.index x4 x3).bind λx10=>
   (O.setAt 0 sz p true x4 x3 x9).bind λx11=>
   (O.index x11 x7).bind λ_=>
   (O.setAt 0 sz p true x11 x7 x10).bind λx13=>
   (O.sub .i64 x3 (.int 1)).bind λx14=>
   I 2 [x0,x1,x2,x14,x13]) (
   (O.add .i64 x2 (.int 1)).bind λx7=>
   I 1 [x0,x1,x7,x4])
 x0: ∀x0 x1 x2 x3:IV,X 0 [x0,x1,x2,x3]=X 1 [x1,x2,x3,(.int 0),x0]
 x1: ∀x0 x1 x2 x3 x4:IV,X 1 [x0,x1,x2,x3,x4]=
  (O.lt x3 x2).bind λx5=>
  cnd x5 (
   (O.add .i64 x0 x3).bind λx6=>
   (O.add .i64 x1 x3).bind λx7=>
   (O.add .i64 x1 x3).bind λx8=>
   (O.index x4 x8).bind λx9=>
   (O.add .i64 x0 x3).bind λx10=>
   (O.index x4 x10).bind λx11=>
   (O.index x4 x6).bind λ_=>
   (O.setAt 0 sz p true x4 x6 x9).bind λx13=>
   (O.index x13 x7).bind λ_=>
   (O.setAt 0 sz p true x13 x7 x11).bind λx15=>
   (O.add .i64 x3 (.int 1)).bind λx16=>
   X 1 [x0,x1,x2,x16,x15]) (
   some [x4])
 r0: ∀x0 x1 x2 x3:IV,R 0 [x0,x1,x2,x3]=(O.sub .i64 x2 x1).bind λx4=>(O.sub .i64 x3 x2).bind λx5=>R 1 [x2,x4,x5,x0]
 r1: ∀x0 x1 x2 x3:IV,R 1 [x0,x1,x2,x3]=
  (O.ne x1 x2).bind λx4=>
  cnd x4 (
   (O.gt x1 x2).bind λx5=>
   cnd x5 (
    (O.sub .i64 x0 x1).bind λx6=>
    calls (X 0 [x3,x6,x0,x2]) 1 λx7=>
    (O.sub .i64 x1 x2).bind λx8=>
    R 2 [x0,x8,x2,x7]) (
    (O.sub .i64 x0 x1).bind λx6=>
    (O.add .i64 x0 x2).bind λx7=>
    (O.sub .i64 x7 x1).bind λx8=>
    calls (X 0 [x3,x6,x8,x1]) 1 λx9=>
    (O.sub .i64 x2 x1).bind λx10=>
    R 2 [x0,x1,x10,x9])) (
   (O.sub .i64 x0 x1).bind λx5=>
   calls (X 0 [x3,x5,x0,x1]) 1 λx6=>
   some [x6])
 r2: ∀x0 x1 x2 x3:IV,R 2 [x0,x1,x2,x3]=R 1 [x0,x1,x2,x3]
 m0: ∀x0 x1 x2 x3:IV,M 0 [x0,x1,x2,x3]=
  (O.sub .i64 x2 x1).bind λx4=>
  (O.eq x4 (.int 1)).bind λx5=>
  cnd x5 (M 1 [x1,x2,x3,x0]) (
   (O.sub .i64 x3 x2).bind λx6=>
   (O.eq x6 (.int 1)).bind λx7=>
   cnd x7 (M 2 [x2,x1,x2,x0]) (
    (O.add .i64 x1 x3).bind λx8=>
    (O.conv .u64 x8).bind λx9=>
    (aE (.shift .shr .u64) [x9,(.int 1)]).bind λx10=>
    (O.conv .i64 x10).bind λx11=>
    (O.add .i64 x11 x2).bind λx12=>
    (O.gt x2 x11).bind λx13=>
    cnd x13 ((O.sub .i64 x12 x3).bind λx14=>M 3 [x1,x2,x3,x11,x12,x14,x11,x0]) (M 3 [x1,x2,x3,x11,x12,x1,x2,x0])))
 m1: ∀x0 x1 x2 x3:IV,M 1 [x0,x1,x2,x3]=
  (O.lt x1 x2).bind λx4=>
  cnd x4 (
   (O.add .i64 x1 x2).bind λx5=>
   (O.conv .u64 x5).bind λx6=>
   (aE (.shift .shr .u64) [x6,(.int 1)]).bind λx7=>
   (O.conv .i64 x7).bind λx8=>
   (O.index x3 x8).bind λx9=>
   (O.index x3 x0).bind λx10=>
   calls (C [x9,x10]) 1 λx11=>
   (O.lt x11 (.int 0)).bind λx12=>
   cnd x12 ((O.add .i64 x8 (.int 1)).bind λx13=>M 4 [x0,x13,x2,x3]) (M 4 [x0,x1,x8,x3])) (
   M 5 [x1,x0,x3])
 m2: ∀x0 x1 x2 x3:IV,M 2 [x0,x1,x2,x3]=
  (O.lt x1 x2).bind λx4=>
  cnd x4 (
   (O.add .i64 x1 x2).bind λx5=>
   (O.conv .u64 x5).bind λx6=>
   (aE (.shift .shr .u64) [x6,(.int 1)]).bind λx7=>
   (O.conv .i64 x7).bind λx8=>
   (O.index x3 x0).bind λx9=>
   (O.index x3 x8).bind λx10=>
   calls (C [x9,x10]) 1 λx11=>
   (O.lt x11 (.int 0)).bind λx12=>
   (O.not x12).bind λx13=>
   cnd x13 ((O.add .i64 x8 (.int 1)).bind λx14=>M 6 [x0,x14,x2,x3]) (M 6 [x0,x1,x8,x3])) (
   M 7 [x1,x0,x3])
 m3: ∀x0 x1 x2 x3 x4 x5 x6 x7:IV,M 3 [x0,x1,x2,x3,x4,x5,x6,x7]=(O.sub .i64 x4 (.int 1)).bind λx8=>M 8 [x0,x1,x2,x3,x4,x5,x6,x8,x7]
 m4: ∀x0 x1 x2 x3:IV,M 4 [x0,x1,x2,x3]=M 1 [x0,x1,x2,x3]
 m5: ∀x0 x1 x2:IV,M 5 [x0,x1,x2]=
  (O.sub .i64 x0 (.int 1)).bind λx3=>
  (O.lt x1 x3).bind λx4=>
  cnd x4 (
   (O.add .i64 x1 (.int 1)).bind λx5=>
   (O.add .i64 x1 (.int 1)).bind λx6=>
   (O.index x2 x6).bind λx7=>
   (O.index x2 x1).bind λx8=>
   (O.setAt 0 sz p true x2 x1 x7).bind λx9=>
   (O.index x9 x5).bind λ_=>
   (O.setAt 0 sz p true x9 x5 x8).bind λx11=>
   (O.add .i64 x1 (.int 1)).bind λx12=>
   M 5 [x0,x12,x11]) (
   some [x2])
 m6: ∀x0 x1 x2 x3:IV,M 6 [x0,x1,x2,x3]=M 2 [x0,x1,x2,x3]
 m7: ∀x0 x1 x2:IV,M 7 [x0,x1,x2]=
  (O.gt x1 x0).bind λx3=>
  cnd x3 (
   (O.sub .i64 x1 (.int 1)).bind λx4=>
   (O.sub .i64 x1 (.int 1)).bind λx5=>
   (O.index x2 x5).bind λx6=>
   (O.index x2 x1).bind λx7=>
   (O.setAt 0 sz p true x2 x1 x6).bind λx8=>
   (O.index x8 x4).bind λ_=>
   (O.setAt 0 sz p true x8 x4 x7).bind λx10=>
   (O.sub .i64 x1 (.int 1)).bind λx11=>
   M 7 [x0,x11,x10]) (
   some [x2])
 m8: ∀x0 x1 x2 x3 x4 x5 x6 x7 x8:IV,M 8 [x0,x1,x2,x3,x4,x5,x6,x7,x8]=
  (O.lt x5 x6).bind λx9=>
  cnd x9 (
   (O.add .i64 x5 x6).bind λx10=>
   (O.conv .u64 x10).bind λx11=>
   (aE (.shift .shr .u64) [x11,(.int 1)]).bind λx12=>
   (O.conv .i64 x12).bind λx13=>
   (O.sub .i64 x7 x13).bind λx14=>
   (O.index x8 x14).bind λx15=>
   (O.index x8 x13).bind λx16=>
   calls (C [x15,x16]) 1 λx17=>
   (O.lt x17 (.int 0)).bind λx18=>
   (O.not x18).bind λx19=>
   cnd x19 ((O.add .i64 x13 (.int 1)).bind λx20=>M 9 [x0,x1,x2,x3,x4,x20,x6,x7,x8]) (M 9 [x0,x1,x2,x3,x4,x5,x13,x7,x8])) (
   (O.sub .i64 x4 x5).bind λx10=>
   (O.lt x5 x1).bind λx11=>
   (cnd x11 ((O.lt x1 x10).bind λx12=>some x12) (some (.bool false))).bind λx12=>
   cnd x12 (calls (R 0 [x8,x5,x1,x10]) 1 λx13=>M 10 [x0,x2,x3,x5,x10,x13]) (M 10 [x0,x2,x3,x5,x10,x8]))
 m9: ∀x0 x1 x2 x3 x4 x5 x6 x7 x8:IV,M 9 [x0,x1,x2,x3,x4,x5,x6,x7,x8]=M 8 [x0,x1,x2,x3,x4,x5,x6,x7,x8]
 m10: ∀x0 x1 x2 x3 x4 x5:IV,M 10 [x0,x1,x2,x3,x4,x5]=
  (O.lt x0 x3).bind λx6=>
  (cnd x6 ((O.lt x3 x2).bind λx7=>some x7) (some (.bool false))).bind λx7=>
  cnd x7 (calls (M 0 [x5,x0,x3,x2]) 1 λx8=>M 11 [x1,x2,x4,x8]) (M 11 [x1,x2,x4,x5])
 m11: ∀x0 x1 x2 x3:IV,M 11 [x0,x1,x2,x3]=
  (O.lt x1 x2).bind λx4=>
  (cnd x4 ((O.lt x2 x0).bind λx5=>some x5) (some (.bool false))).bind λx5=>
  cnd x5 (calls (M 0 [x3,x1,x2,x0]) 1 λx6=>some [x6]) (some [x3])
end Go.CT.Srt
namespace Go.CT.Srt
variable {β:Type}{enc:β->IV}{lt:β->β->Bool}{sz:Nat}{p:Bool}
theorem w1 {a:Int}(h:0<=a)(b:a<=4611686018427387904):IntKind.i64.wrap a=a:=wrap64 (by omega) (by omega)
theorem K9 {β:Type}{o:Option (List IV)}{x:IV}{f:IV->Option β}(h:o=some [x]):calls o 1 f=f x:=by rw[h];rfl
theorem Hp (l:List β):l= []\/ ∃a x,l=a++ [x]:=by
 rcases List.eq_nil_or_concat l with h | ⟨a,x,h⟩
 ·exact .inl h
 grind
theorem ins2 (E:Eqs enc lt sz p)(pre:List β)(x:β)(b i:Nat)(rest:List β)(hlen:i<=1099511627776): ∀ (n:Nat) (d a:List β),d.length=n->pre.length+n<=1099511627776->
  ∃h t2,d=h++t2/\(∀y∈t2,lt x y=true)/\(∀t0 y,h=t0++ [y]->lt x y=false)/\
   E.I 2 [.int pre.length,.int b,.int i,.int ((pre.length+d.length:Nat):Int),LE enc (pre++(d++x::(a++rest)))]=E.I 1 [.int pre.length,.int b,.int ((i+1:Nat):Int),LE enc (pre++(h++x::(t2++(a++rest))))]
 | 0,d,a,o,hp=>by
  have:d= []:=aS.1 o
  subst this
  refine⟨[],[],rfl,by simp,by simp,?_⟩
  have q:IntKind.i64.wrap ((i:Int)+1)=((i+1:Nat):Int):=by rw[w1 (by omega) (by omega)];rfl
  rw[E.i2]
  simp[q]
 | n+1,d,a,o,hp=>by
  have r:d≠ []:=λe=>by grind
  obtain⟨s0,y,rfl⟩:=(Hp d).resolve_left r
  simp only[aL,cC]at o
  have q:IntKind.i64.wrap ((i:Int)+1)=((i+1:Nat):Int):=by rw[w1 (by omega) (by omega)];rfl
  have j:IntKind.i64.wrap (((pre.length+(s0++ [y]).length :Nat):Int) - 1)=((pre.length+s0.length:Nat):Int):=by
   rw[aL,cC,w1 (by omega) (by omega)];omega
  have m:((pre.length:Nat):Int)<((pre.length+(s0++ [y]).length :Nat):Int):=by simp;omega
  obtain⟨c,w,A⟩:=E.cmp x y
  -- where they lie
  have B:pre++(s0++ [y]++x::(a++rest))=(pre++s0)++y::(x::(a++rest)):=by simp
  have d1:pre++(s0++ [y]++x::(a++rest))=(pre++s0++ [y])++x::(a++rest):=by simp
  have gx:=idx enc (Di d1 (i:=pre.length+(s0++ [y]).length) (by simp))
  have gy:=idx enc (Di B (i:=pre.length+s0.length) (by simp))
  have st1:=Jq (y:=y) d1 (i:=pre.length+(s0++ [y]).length) (by simp)
  have d2:(pre++s0++ [y])++y::(a++rest)=(pre++s0)++y::(y::(a++rest)):=by simp
  have st2:=Jq (y:=x) d2 (i:=pre.length+s0.length) (by simp)
  have gy2:=idx enc (Di d2 (i:=pre.length+s0.length) (by simp))
  rw[E.i2]
  cases G:lt x y with
  | false=>
   refine⟨s0++ [y],[],by simp,by simp,λt0 z C=>by
    simp_all,?_⟩
   have g: ¬ c<0:=by grind
   simp only[O.B8,m,Zd,aA,O.Aa,Zt,gx,O.C7,j,gy,K9 w,O.Ah,g,Ze,aG,Zf,O.An,q,bD]
  | true=>
   obtain⟨h,t2,H,J,F,K⟩:=ins2 E pre x b i rest hlen n s0 (y::a) (by omega) (by omega)
   refine⟨h,t2++ [y],by grind,λz C=>by
    grind,F,?_⟩
   have g:c<0:=by grind
   have t:pre.length+(s0++ [y]).length <(pre++(s0++ [y]++x::(a++rest))).length :=by simp
   have u:pre.length+s0.length<((pre++s0++ [y])++y::(a++rest)).length :=by simp
   simp only[O.B8,m,Zd,aA,O.Aa,Zt,gx,O.C7,j,gy,K9 w,O.Ah,g,Aqi enc t,st1,gy2,Aqi enc u,st2]
   grind
theorem ins1 (o:Ord lt)(E:Eqs enc lt sz p)(pre:List β): ∀ (n:Nat) (s rest:List β),n<=rest.length->Db lt s->s≠ []->pre.length+s.length+rest.length<=1099511627776->
  ∃s',Db lt s'/\Lp lt (s++rest.take n) s'/\E.I 1 [.int pre.length,.int ((pre.length+s.length+n:Nat):Int),.int ((pre.length+s.length:Nat):Int),LE enc (pre++(s++rest))]=some [LE enc (pre++(s'++rest.drop n))]
 | 0,s,rest,_,d,g,q=>by
  refine⟨s,d,by rw[List.take_zero,aK];exact .refl _,?_⟩
  rw[E.i1]
  simp
 | n+1,s,[],h,_,_,_=>by simp at h
 | n+1,s,x::rest,h,d,g,q=>by
  simp only[aP]at h q
  obtain⟨a,t2,r,t,w,A⟩:=ins2 E pre x (pre.length+s.length+(n+1)) (pre.length+s.length) rest (by omega) s.length s [] rfl (by omega)
  rw[bD]at A
  have i:Lp lt (a++t2++ [x]) (a++x::t2):=by
   rw[aF]
   exact(Lp.refl a).append (by
    have:=Lp.swap (lt:=lt) o (u:=t2) (v:= [x]) (λz b y e=>by grind)
    grind)
  have j:Db lt (a++x::t2):=by
   subst r
   refine d.left.append ?_ ?_
   ·refine bG.2 ⟨λy e=>o.asymm (t y e),d.right⟩
   ·have hle: ∀z∈a,lt x z=false:=by
     rcases Hp a with rfl | ⟨t0,z0,rfl⟩
     ·simp
     ·have B:=w t0 z0 rfl
      intro z b
      rcases aR.1 b with b | b
      ·have:=(d.left).Aii z b z0 (by simp)
       exact o.le_trans this B
      grind
    intro z b y e
    rcases aI.1 e with rfl | e
    ·grind
    ·exact d.Aii z b y e
  have c:pre.length+(a++x::t2).length +rest.length<=1099511627776:=by
   grind
  obtain⟨s',r1,r2,C⟩:=ins1 o E pre n (a++x::t2) rest (by omega) j (by simp) c
  refine⟨s',r1,?_,?_⟩
  ·refine Lp.trans ?_ r2
   rw[List.take_succ_cons]
   have:s++x::rest.take n=(a++t2++ [x])++rest.take n:=by grind
   rw[this]
   exact i.append (.refl _)
  ·have hlen:(a++x::t2).length =s.length+1:=by grind
   rw[E.i1]
   have m:((pre.length+s.length:Nat):Int)<((pre.length+s.length+(n+1):Nat):Int):=by omega
   simp only[O.Ah,m,Zd,aA,O.Aa,Zt]
   grind
theorem ins (o:Ord lt)(E:Eqs enc lt sz p)(pre s post:List β)(b:pre.length+s.length+post.length<=1099511627776):
  ∃s',Db lt s'/\Lp lt s s'/\E.I 0 [LE enc (pre++(s++post)),.int pre.length,.int ((pre.length+s.length:Nat):Int)]=some [LE enc (pre++(s'++post))]:=by
 have a:IntKind.i64.wrap ((pre.length:Int)+1)=((pre.length+1:Nat):Int):=by rw[w1 (by omega) (by omega)];rfl
 cases s with
 | nil=>
  refine⟨[],eA,.refl _,?_⟩
  rw[E.i0]
  simp only[O.An,a,aA,bJ,Nat.add_zero,E.i1,O.Ah]
  have: ¬ ((pre.length+1:Nat):Int)<pre.length:=by omega
  simp[this]
  omega
 | cons x s=>
  simp only[aP]at b
  obtain⟨s',r1,r2,c⟩:=ins1 o E pre s.length [x] (s++post) (by simp) (List.pairwise_singleton _ _) (by simp) (by simp;omega)
  rw[List.take_append_of_le_length (aJ _),List.take_length]at r2
  rw[List.drop_append_of_le_length (aJ _),List.drop_length,bD]at c
  refine⟨s',r1,r2,?_⟩
  rw[E.i0]
  simp only[O.An,a,aA]
  grind
theorem swp1 (E:Eqs enc lt sz p)(P M Q:List β): ∀ (k:Nat) (X1 X2 Y1 Y2:List β),X1.length=Y1.length->X2.length=k->Y2.length=k->P.length+X1.length+X2.length+M.length+Y1.length+Y2.length+Q.length<=1099511627776->
  E.X 1 [.int P.length,.int ((P.length+X1.length+X2.length+M.length:Nat):Int),.int ((X1.length+X2.length:Nat):Int),.int X1.length,LE enc (P++(Y1++(X2++(M++(X1++(Y2++Q))))))]=some [LE enc (P++(Y1++(Y2++(M++(X1++(X2++Q))))))]
 | 0,X1,X2,Y1,Y2,a,b,c,d=>by
  have e1:X2= []:=aS.1 b
  have q:Y2= []:=aS.1 c
  subst e1 q
  rw[E.x1]
  simp
 | k+1,X1,[],Y1,Y2,a,b,c,d=>by simp at b
 | k+1,X1,_::_,Y1,[],a,b,c,d=>by simp at c
 | k+1,X1,x::X2,Y1,y::Y2,a,b,c,d=>by
  simp only[aP]at b c d
  have r:=swp1 E P M Q k (X1++ [x]) X2 (Y1++ [y]) Y2 (by simp[a]) (by omega) (by omega) (by simp;omega)
  have e:(X1.length:Int)<((X1.length+(x::X2).length :Nat):Int):=by simp;omega
  have g:IntKind.i64.wrap ((P.length:Int)+X1.length)=((P.length+X1.length:Nat):Int):=by rw[w1 (by omega) (by omega)];rfl
  have h:IntKind.i64.wrap (((P.length+X1.length+(x::X2).length +M.length:Nat):Int)+X1.length)=((P.length+X1.length+(x::X2).length +M.length+X1.length:Nat):Int):=by
   rw[w1 (by omega) (by grind)];rfl
  have j:IntKind.i64.wrap ((X1.length:Int)+1)=(((X1++ [x]).length :Nat):Int):=by rw[w1 (by omega) (by omega)];simp
  have d1:P++(Y1++(x::X2++(M++(X1++(y::Y2++Q)))))=(P++Y1)++x::(X2++(M++(X1++(y::Y2++Q)))):=by simp
  have d2:P++(Y1++(x::X2++(M++(X1++(y::Y2++Q)))))=(P++Y1++x::X2++M++X1)++y::(Y2++Q):=by simp
  have gx:=idx enc (Di d1 (i:=P.length+X1.length) (by simp[a]))
  have gy:=idx enc (Di d2 (i:=P.length+X1.length+(x::X2).length +M.length+X1.length) (by grind))
  have st1:=Jq (y:=y) d1 (i:=P.length+X1.length) (by simp[a])
  have d3:(P++Y1)++y::(X2++(M++(X1++(y::Y2++Q))))=(P++Y1++y::X2++M++X1)++y::(Y2++Q):=by simp
  have gy3:=idx enc (Di d3 (i:=P.length+X1.length+(x::X2).length +M.length+X1.length) (by grind))
  have st2:=Jq (y:=x) d3 (i:=P.length+X1.length+(x::X2).length +M.length+X1.length) (by grind)
  have m:P.length+X1.length<(P++(Y1++(x::X2++(M++(X1++(y::Y2++Q)))))).length :=by simp;omega
  have o:P.length+X1.length+(x::X2).length +M.length+X1.length<((P++Y1)++y::(X2++(M++(X1++(y::Y2++Q))))).length :=by simp;omega
  rw[E.x1]
  simp only[O.Ah,e,Zd,aA,O.Aa,Zt,O.An,g,h,j,gx,gy,Aqi enc m,st1,gy3,Aqi enc o,st2]
  grind
theorem swp (E:Eqs enc lt sz p)(P X M Y Q:List β)(h:X.length=Y.length)(a:P.length+X.length+M.length+Y.length+Q.length<=1099511627776):
  E.X 0 [LE enc (P++(X++(M++(Y++Q)))),.int P.length,.int ((P.length+X.length+M.length:Nat):Int),.int X.length]=some [LE enc (P++(Y++(M++(X++Q))))]:=by
 rw[E.x0]
 have:=swp1 E P M Q X.length [] X [] Y rfl rfl h.symm (by simp;omega)
 grind
theorem A79 (E:Eqs enc lt sz p): ∀ (n:Nat) (P U V Q:List β),U.length+V.length<=n->U≠ []->V≠ []->P.length+U.length+V.length+Q.length<=1099511627776->
  E.R 1 [.int ((P.length+U.length:Nat):Int),.int U.length,.int V.length,LE enc (P++(U++(V++Q)))]=some [LE enc (P++(V++(U++Q)))]
 | 0,P,U,V,Q,h,o,_,_=>by
  simp_all
 | n+1,P,U,V,Q,h,o,q,y=>by
  have r:=aO.2 o
  have t:=aO.2 q
  have d:IntKind.i64.wrap (((P.length+U.length:Nat):Int) - U.length)=P.length:=by rw[w1 (by omega) (by omega)];omega
  rw[E.r1]
  by_cases u:U.length=V.length
  ·have:=swp E P U [] V Q u (by simp;omega)
   simp_all
  ·have e: ¬ (U.length:Int)=V.length:=by omega
   by_cases z:V.length<U.length
   ·have a:(V.length:Int)<U.length:=by omega
    have A:U=U.take V.length++U.drop V.length:=(aU _ _).symm
    have g:(U.take V.length).length =V.length:=by grind
    have i:(U.drop V.length).length =U.length - V.length:=by grind
    generalize U.take V.length=U1 at *
    generalize U.drop V.length=U2 at *
    have w:=swp E P U1 U2 V Q g (by omega)
    have b:IntKind.i64.wrap ((U.length:Int) - V.length)=U2.length:=by rw[w1 (by omega) (by omega)];omega
    have B:P++(U++(V++Q))=P++(U1++(U2++(V++Q))):=by grind
    have e1:P.length+U.length=P.length+U1.length+U2.length:=by omega
    have x:=A79 E n (P++V) U2 U1 Q (by omega) (by grind) (by grind) (by simp;omega)
    have c:E.X 0 [LE enc (P++(U++(V++Q))),.int P.length,.int ((P.length+U.length:Nat):Int),.int V.length]=some [LE enc (P++(V++(U2++(U1++Q))))]:=by
     grind
    simp only[O.Ci,e,Ze,dR,aA,O.Aa,Zt,O.B8,a,Zd,O.C7,d,K9 c,b,E.r2]
    grind
   ·have a: ¬ (V.length:Int)<U.length:=by omega
    have C:V=V.take (V.length - U.length)++V.drop (V.length - U.length):=(aU _ _).symm
    have g:(V.take (V.length - U.length)).length =V.length - U.length:=by grind
    have i:(V.drop (V.length - U.length)).length =U.length:=by grind
    generalize V.take (V.length - U.length)=V1 at *
    generalize V.drop (V.length - U.length)=V2 at *
    have w:=swp E P U V1 V2 Q i.symm (by omega)
    have b:IntKind.i64.wrap (((P.length+U.length:Nat):Int)+V.length)=((P.length+U.length+V.length:Nat):Int):=by rw[w1 (by omega) (by omega)];rfl
    have j:IntKind.i64.wrap (((P.length+U.length+V.length:Nat):Int) - U.length)=((P.length+U.length+V1.length:Nat):Int):=by rw[w1 (by omega) (by omega)];omega
    have m:IntKind.i64.wrap ((V.length:Int) - U.length)=V1.length:=by rw[w1 (by omega) (by omega)];omega
    have x:=A79 E n P V2 V1 (U++Q) (by omega) (by grind) (by grind) (by simp;omega)
    have c:E.X 0 [LE enc (P++(U++(V++Q))),.int P.length,.int ((P.length+U.length+V1.length:Nat):Int),.int U.length]=some [LE enc (P++(V2++(V1++(U++Q))))]:=by
     grind
    simp only[O.Ci,e,Ze,dR,aA,O.Aa,Zt,O.B8,a,aG,Zf,O.C7,d,O.An,b,j,K9 c,m,E.r2]
    grind
theorem rot (E:Eqs enc lt sz p)(P U V Q:List β)(c:U≠ [])(d:V≠ [])(e:P.length+U.length+V.length+Q.length<=1099511627776):
  E.R 0 [LE enc (P++(U++(V++Q))),.int P.length,.int ((P.length+U.length:Nat):Int),.int ((P.length+U.length+V.length:Nat):Int)]=some [LE enc (P++(V++(U++Q)))]:=by
 have a:IntKind.i64.wrap (((P.length+U.length:Nat):Int) - P.length)=U.length:=by rw[w1 (by omega) (by omega)];omega
 have b:IntKind.i64.wrap (((P.length+U.length+V.length:Nat):Int) - ((P.length+U.length:Nat):Int))=V.length:=by rw[w1 (by omega) (by omega)];omega
 rw[E.r0]
 simp only[O.C7,a,b,aA]
 exact A79 E _ P U V Q (aJ _) c d e
end Go.CT.Srt
namespace Go.CT.Srt
variable {β:Type}{enc:β->IV}{lt:β->β->Bool}{sz:Nat}{p:Bool}
theorem mid {α:Type}(x y:Nat)(i:x+y<=4398046511104)(f:IV->Option α):
  ((O.add .i64 (.int x) (.int y)).bind λa=>(O.conv .u64 a).bind λb=>(aE (.shift .shr .u64) [b,(.int 1)]).bind λc=>(O.conv .i64 c).bind f)=f (.int (((x+y) / 2:Nat):Int)):=by
 have d:IntKind.i64.wrap ((x:Int)+y)=((x+y:Nat):Int):=by rw[w1 (by omega) (by omega)];rfl
 have e:IntKind.u64.wrap ((x+y:Nat):Int)=((x+y:Nat):Int):=by
  have:(((x+y:Nat):Int)) % 18446744073709551616=((x+y:Nat):Int):=Int.emod_eq_of_lt (by omega) (by omega)
  exact this
 have g:aE (.shift .shr .u64) [.int ((x+y:Nat):Int),(.int 1)]=some (.int (((x+y) / 2:Nat):Int)):=by
  have:(((x+y:Nat):Int)).fdiv 2=(((x+y) / 2:Nat):Int):=by
   rw[Int.fdiv_eq_ediv_of_nonneg _ (by omega)];omega
  show some (IV.int ((((x+y:Nat):Int)).fdiv 2))=_
  rw[this]
 have h:IntKind.i64.wrap (((x+y) / 2:Nat):Int)=(((x+y) / 2:Nat):Int):=w1 (by omega) (by omega)
 simp only[O.An,d,aA,O.Tw,e,g,h]
theorem bs {α:Type}(F:Nat->Nat->α)(Q:Nat->Bool)(lo a:Nat)(m: ∀i j,lo<=i->i<j->j<=a->F i j=if Q ((i+j) / 2)=true then F ((i+j) / 2+1) j else F i ((i+j) / 2)):
  ∀ (n i j:Nat),j - i<=n->lo<=i->i<=j->j<=a->(i=lo\/Q (i - 1)=true)->(j=a\/Q j=false)-> ∃k,lo<=k/\k<=a/\F i j=F k k/\(k=lo\/Q (k - 1)=true)/\(k=a\/Q k=false)
 | 0,i,j,o,b,q,c,d,g=>by
  have:i=j:=by omega
  subst this
  exact⟨i,b,c,rfl,d,g⟩
 | n+1,i,j,o,b,q,c,d,g=>by
  by_cases e:i=j
  ·subst e;exact⟨i,b,c,rfl,d,g⟩
  rw[m i j b (by omega) c]
  by_cases h:Q ((i+j) / 2)=true
  ·rw[if_pos h]
   exact bs F Q lo a m n _ _ (by omega) (by omega) (by omega) c (.inr (by rw[Nat.add_sub_cancel];exact h)) g
  ·rw[if_neg h]
   exact bs F Q lo a m n _ _ (by omega) b (by omega) (by omega) d (.inr (by simpa using h))
theorem A61 {l:List β}{i:Nat}(d:β)(h:i<l.length):l[i]?=some (l.getD i d):=by
 simp[cF,h]
theorem sh5 (E:Eqs enc lt sz p)(x:β)(R:List β)(i:Nat): ∀ (B1 pre:List β),i=pre.length+1+B1.length->i<=1099511627776->
  E.M 5 [.int i,.int pre.length,LE enc (pre++(x::(B1++R)))]=some [LE enc (pre++(B1++(x::R)))]
 | [],pre,a,h=>by
  rw[E.m5]
  have b:IntKind.i64.wrap ((i:Int) - 1)=((pre.length:Nat):Int):=by rw[w1 (by omega) (by omega)];simp at a;omega
  simp[b]
 | y::B1,pre,a,h=>by
  simp only[aP]at a
  have b:IntKind.i64.wrap ((i:Int) - 1)=((i - 1:Nat):Int):=by rw[w1 (by omega) (by omega)];omega
  have c:((pre.length:Nat):Int)<((i - 1:Nat):Int):=by omega
  have d:IntKind.i64.wrap ((pre.length:Int)+1)=((pre.length+1:Nat):Int):=by rw[w1 (by omega) (by omega)];rfl
  have d1:pre++(x::(y::B1++R))=(pre++ [x])++y::(B1++R):=by simp
  have gx:=idx enc (Di (l:=pre++(x::(y::B1++R))) rfl (i:=pre.length) rfl)
  have gy:=idx enc (Di d1 (i:=pre.length+1) (by simp))
  have st1:=Jq (l:=pre++(x::(y::B1++R))) (y:=y) rfl (i:=pre.length) rfl
  have d2:pre++(y::(y::B1++R))=(pre++ [y])++y::(B1++R):=by simp
  have gy2:=idx enc (Di d2 (i:=pre.length+1) (by simp))
  have st2:=Jq (y:=x) d2 (i:=pre.length+1) (by simp)
  have e:pre.length<(pre++(x::(y::B1++R))).length :=by simp
  have g:pre.length+1<(pre++(y::(y::B1++R))).length :=by simp
  have j:=sh5 E x R i B1 (pre++ [y]) (by simp;omega) h
  rw[E.m5]
  simp only[O.C7,b,aA,O.Ah,c,Zd,O.Aa,Zt,O.An,d,gx,gy,Aqi enc e,st1,gy2,Aqi enc g,st2]
  rw[show(((pre.length+1:Nat)):Int)=((pre++ [y]).length :Nat) by simp,show pre++ [y]++x::(B1++R)=(pre++ [y])++(x::(B1++R)) from rfl,j]
  simp
theorem sh7 (E:Eqs enc lt sz p)(pre:List β)(x:β): ∀ (n:Nat) (A2 R:List β),A2.length=n->pre.length+n+1<=1099511627776->
  E.M 7 [.int pre.length,.int ((pre.length+A2.length:Nat):Int),LE enc (pre++(A2++(x::R)))]=some [LE enc (pre++(x::(A2++R)))]
 | 0,A2,R,h,d=>by
  have:A2= []:=aS.1 h
  subst this
  rw[E.m7]
  simp
 | n+1,A2,R,h,d=>by
  rcases Hp A2 with rfl | ⟨A0,y,rfl⟩
  ·simp at h
  have e:A0.length=n:=by simpa using h
  have a:((pre.length:Nat):Int)<((pre.length+(A0++ [y]).length :Nat):Int):=by simp;omega
  have g:IntKind.i64.wrap (((pre.length+(A0++ [y]).length :Nat):Int) - 1)=((pre.length+A0.length:Nat):Int):=by
   rw[aL,cC,w1 (by omega) (by omega)];omega
  have j:pre++(A0++ [y]++(x::R))=(pre++A0)++y::(x::R):=by simp
  have d1:pre++(A0++ [y]++(x::R))=(pre++A0++ [y])++x::R:=by simp
  have gx:=idx enc (Di d1 (i:=pre.length+(A0++ [y]).length) (by simp))
  have gy:=idx enc (Di j (i:=pre.length+A0.length) (by simp))
  have st1:=Jq (y:=y) d1 (i:=pre.length+(A0++ [y]).length) (by simp)
  have d2:(pre++A0++ [y])++y::R=(pre++A0)++y::(y::R):=by simp
  have gy2:=idx enc (Di d2 (i:=pre.length+A0.length) (by simp))
  have st2:=Jq (y:=x) d2 (i:=pre.length+A0.length) (by simp)
  have b:pre.length+(A0++ [y]).length <(pre++(A0++ [y]++(x::R))).length :=by simp
  have c:pre.length+A0.length<((pre++A0++ [y])++y::R).length :=by simp
  have m:=sh7 E pre x n A0 (y::R) e (by omega)
  rw[E.m7]
  simp only[O.B8,a,Zd,aA,O.Aa,Zt,O.C7,g,gx,gy,Aqi enc b,st1,gy2,Aqi enc c,st2]
  rw[show pre++A0++x::y::R=pre++(A0++(x::y::R)) by simp,m]
  simp
theorem cut {q:β->Bool}{B:List β}(c:B.Pairwise λy z=>q z=true->q y=true)(d:β){k:Nat}(u:k<=B.length)(o:k=0\/q (B.getD (k - 1) d)=true)(r:k=B.length\/q (B.getD k d)=false):
  (∀y∈B.take k,q y=true)/\(∀y∈B.drop k,q y=false):=by
 have t:=(aU k B).symm
 have a:(B.take k).length =k:=by rw[bL];omega
 have g:(B.drop k).length =B.length - k:=by rw[cG]
 generalize B.take k=B1 at *
 generalize B.drop k=B2 at *
 subst t
 rw[bC]at c
 constructor
 ·rcases Hp B1 with rfl | ⟨B0,z,rfl⟩
  ·simp
  ·have e:(B0++ [z]++B2).getD (k - 1) d=z:=by
    have:=Di (l:=B0++ [z]++B2) (A:=B0) (x:=z) (B:=B2) (by simp) (i:=k - 1) (by simp at a;omega)
    rw[cF,this];rfl
   rw[e]at o
   have b:q z=true:=by
    rcases o with h | h
    ·simp at a;omega
    ·exact h
   intro y j
   rcases aR.1 j with h | h
   ·exact(bC.1 c.1).2.2 y h z (by simp) b
   ·simp at h;subst h;exact b
 ·cases B2 with
  | nil=>simp
  | cons z B3=>
   have e:(B1++z::B3).getD k d=z:=by
    have:=Di (l:=B1++z::B3) rfl (i:=k) (by omega)
    rw[cF,this];rfl
   rw[e]at r
   have b:q z=false:=by
    rcases r with h | h
    ·simp at h a g;omega
    ·exact h
   intro y j
   cases m:q y with
   | false=>rfl
   | true=>
    rcases aI.1 j with rfl | h
    ·rw[b]at m;exact m.symm
    ·have:=(bG.1 c.2.1).1 y h m
     rw[b]at this;exact this.symm
theorem Anz (pre B post:List β)(d:β){i:Nat}(h:i<B.length):(pre++(B++post)).getD (pre.length+i) d=B.getD i d:=by
 have: ¬ pre.length+i<pre.length:=by omega
 simp[cF,List.getElem?_append,h,this]
theorem A7u (o:Ord lt){B:List β}(h:Db lt B)(x:β):B.Pairwise λy z=>lt z x=true->lt y x=true:=
 h.imp fun {y z} a b=>by
  rcases o.neg z y x b with h | h
  ·rw[a]at h;cases h
  ·exact h
theorem A7s (o:Ord lt){B:List β}(h:Db lt B)(x:β):B.Pairwise λy z=>(!lt x z)=true->(!lt x y)=true:=
 h.imp fun {y z} a b=>by
  simp only[bY]at b ⊢
  exact o.le_trans a b
theorem mrg1 (o:Ord lt)(E:Eqs enc lt sz p)(pre:List β)(x:β)(B post:List β)(g:Db lt B)(N:pre.length+1+B.length+post.length<=1099511627776):
  ∃C,Db lt C/\Lp lt (x::B) C/\E.M 1 [.int pre.length,.int ((pre.length+1:Nat):Int),.int ((pre.length+1+B.length:Nat):Int),LE enc (pre++(x::(B++post)))]=some [LE enc (pre++(C++post))]:=by
 have A:=idx enc (Di (l:=pre++(x::(B++post))) rfl (i:=pre.length) rfl)
 have b:pre++(x::(B++post))=(pre++ [x])++(B++post):=by simp
 obtain⟨k,k1,k2,G,H,I⟩:=bs (F:=λi j=>E.M 1 [.int pre.length,.int i,.int j,LE enc (pre++(x::(B++post)))]) (Q:=λc=>lt ((pre++(x::(B++post))).getD c x) x) (pre.length+1) (pre.length+1+B.length) (by
  intro i j R S T
  obtain⟨c,J,m⟩:=E.cmp ((pre++(x::(B++post))).getD ((i+j) / 2) x) x
  have gi:=idx enc (A61 (l:=pre++(x::(B++post))) x (i:=(i+j) / 2) (by simp;omega))
  have q:(i:Int)<j:=by omega
  have K:IntKind.i64.wrap ((((i+j) / 2:Nat):Int)+1)=(((i+j) / 2+1:Nat):Int):=by rw[w1 (by omega) (by omega)];rfl
  rw[E.m1 (.int pre.length) (.int i) (.int j)]
  simp only[O.Ah,q,Zd,aA,O.Aa,Zt]
  rw[mid i j (by omega)]
  simp only[gi,A,aA,K9 J,O.Ah,O.Aa,m,O.An,K,E.m4]) B.length _ _ (by omega) (aJ _) (by omega) (aJ _) (.inl rfl) (.inl rfl)
 rw[G,E.m1]
 simp only[O.Ah,dE,Ze,aA,O.Aa,aG,Zf]
 have key:=cut (A7u o g x) x (k:=k - (pre.length+1)) (by omega) (by
  rcases H with h | h
  ·left;omega
  ·by_cases e:k=pre.length+1
   ·left;omega
   right
   rw[<-Anz (pre++ [x]) B post x (i:=k - (pre.length+1) - 1) (by omega),<-b,show(pre++ [x]).length +(k - (pre.length+1) - 1)=k - 1 by simp;omega]
   exact h) (by
  rcases I with h | h
  ·left;omega
  ·by_cases e:k=pre.length+1+B.length
   ·left;omega
   right
   rw[<-Anz (pre++ [x]) B post x (i:=k - (pre.length+1)) (by omega),<-b,show(pre++ [x]).length +(k - (pre.length+1))=k by simp;omega]
   exact h)
 have r:=(aU (k - (pre.length+1)) B).symm
 have L:(B.take (k - (pre.length+1))).length =k - (pre.length+1):=by rw[bL];omega
 generalize B.take (k - (pre.length+1))=B1 at *
 generalize B.drop (k - (pre.length+1))=B2 at *
 subst r
 refine⟨B1++x::B2,?_,?_,?_⟩
 ·refine g.left.append (bG.2 ⟨λy d=>key.2 y d,g.right⟩) ?_
  intro y d z t
  rcases aI.1 t with rfl | t
  ·exact o.asymm (key.1 y d)
  ·exact g.Aii y d z t
 ·have:=(Lp.swap o (u:= [x]) (v:=B1) (λa w y d=>by simp at w;subst w;exact key.1 y d)).append (Lp.refl (lt:=lt) B2)
  simpa using this
 ·have:=sh5 E x (B2++post) k B1 pre (by omega) (by omega)
  simpa using this
theorem mrg2 (o:Ord lt)(E:Eqs enc lt sz p)(pre:List β)(x:β)(A post:List β)(d:Db lt A)(S:pre.length+A.length+1+post.length<=1099511627776):
  ∃C,Db lt C/\Lp lt (A++ [x]) C/\E.M 2 [.int ((pre.length+A.length:Nat):Int),.int pre.length,.int ((pre.length+A.length:Nat):Int),LE enc (pre++(A++(x::post)))]=some [LE enc (pre++(C++post))]:=by
 have t:=idx enc (Di (l:=pre++(A++(x::post))) (A:=pre++A) (x:=x) (B:=post) (by simp) (i:=pre.length+A.length) (by simp))
 obtain⟨k,k1,k2,w,G,H⟩:=bs (F:=λi j=>E.M 2 [.int ((pre.length+A.length:Nat):Int),.int i,.int j,LE enc (pre++(A++(x::post)))]) (Q:=λc=> !lt x ((pre++(A++(x::post))).getD c x)) pre.length (pre.length+A.length) (by
  intro i j T U X
  obtain⟨c,I,g⟩:=E.cmp x ((pre++(A++(x::post))).getD ((i+j) / 2) x)
  have gi:=idx enc (A61 (l:=pre++(A++(x::post))) x (i:=(i+j) / 2) (by simp;omega))
  have m:(i:Int)<j:=by omega
  have J:IntKind.i64.wrap ((((i+j) / 2:Nat):Int)+1)=(((i+j) / 2+1:Nat):Int):=by rw[w1 (by omega) (by omega)];rfl
  rw[E.m2 (.int ((pre.length+A.length:Nat):Int)) (.int i) (.int j)]
  simp only[O.Ah,m,Zd,aA,O.Aa,Zt]
  rw[mid i j (by omega)]
  simp only[gi,t,aA,K9 I,O.Ah,O.Aa,g,O.Aq,O.An,J,E.m6]) A.length _ _ (by omega) (aJ _) (by omega) (aJ _) (.inl rfl) (.inl rfl)
 rw[w,E.m2]
 simp only[O.Ah,dE,Ze,aA,O.Aa,aG,Zf]
 have key:=cut (A7s o d x) x (k:=k - pre.length) (by omega) (by
  rcases G with h | h
  ·left;omega
  ·by_cases e:k=pre.length
   ·left;omega
   right
   rw[<-Anz pre A (x::post) x (i:=k - pre.length - 1) (by omega),show pre.length+(k - pre.length - 1)=k - 1 by omega]
   exact h) (by
  rcases H with h | h
  ·left;omega
  ·by_cases e:k=pre.length+A.length
   ·left;omega
   right
   rw[<-Anz pre A (x::post) x (i:=k - pre.length) (by omega),show pre.length+(k - pre.length)=k by omega]
   exact h)
 have q:=(aU (k - pre.length) A).symm
 have K:(A.take (k - pre.length)).length =k - pre.length:=by rw[bL];omega
 have L:(A.drop (k - pre.length)).length =A.length - (k - pre.length):=by rw[cG]
 generalize A.take (k - pre.length)=A1 at *
 generalize A.drop (k - pre.length)=A2 at *
 subst q
 simp only[bY,Bool.not_eq_false']at key
 refine⟨A1++x::A2,?_,?_,?_⟩
 ·refine d.left.append (bG.2 ⟨λy b=>o.asymm (key.2 y b),d.right⟩) ?_
  intro y b z r
  rcases aI.1 r with rfl | r
  ·exact key.1 y b
  ·exact d.Aii y b z r
 ·have:=(Lp.refl (lt:=lt) A1).append (Lp.swap o (u:=A2) (v:= [x]) (λa N y b=>by simp at b;subst b;exact key.2 a N))
  simpa using this
 ·have:=sh7 E (pre++A1) x A2.length A2 post rfl (by simp;omega)
  have e1:((pre++A1).length +A2.length)=pre.length+(A1++A2).length :=by simp;omega
  have R:(pre++A1).length =k:=by simp;omega
  rw[e1,R]at this
  simpa using this
end Go.CT.Srt
namespace Go.CT.Srt
variable {β:Type}{enc:β->IV}{lt:β->β->Bool}{sz:Nat}{p:Bool}
theorem mrg3 (E:Eqs enc lt sz p)(pre A B post:List β)(T:A≠ [])(Z:B≠ [])(hb:pre.length+A.length+B.length+post.length<=1099511627776)
  (b m n s0 r0:Nat) (em:m=pre.length+A.length) (eb:b=m+B.length) (en:n=(pre.length+b) / 2+m)
  (aa:(m > (pre.length+b) / 2/\s0=n - b/\r0=(pre.length+b) / 2)\/(¬ m > (pre.length+b) / 2/\s0=pre.length/\r0=m)):
  ∃A1 A2 B1 B2,A=A1++A2/\B=B1++B2/\A1.length+B1.length+pre.length=(pre.length+b) / 2/\
   (A1= []\/B2= []\/ ∃A0 z w B0,A1=A0++ [z]/\B2=w::B0/\lt w z=false)/\
   (A2= []\/B1= []\/ ∃A0 z w B0,A2=z::A0/\B1=B0++ [w]/\lt w z=true)/\
   E.M 8 [.int pre.length,.int m,.int b,.int ((pre.length+b) / 2:Nat),.int n,.int s0,.int r0,.int (n - 1:Nat),LE enc (pre++(A++(B++post)))]=
    E.M 10 [.int pre.length,.int b,.int ((pre.length+b) / 2:Nat),.int (pre.length+A1.length:Nat),.int ((pre.length+b) / 2+A2.length:Nat),LE enc (pre++(A1++(B1++(A2++(B2++post)))))]:=by
 have ab:=aO.2 T
 have ac:=aO.2 Z
 obtain⟨d, -⟩:=List.exists_mem_of_ne_nil A T
 have ad:pre.length<=s0:=by omega
 have ae:r0<=m:=by omega
 have o:s0<=r0:=by omega
 have y: ∀c,s0<=c->c<r0->m<=n - 1 - c/\n - 1 - c<b/\c+1<=n:=by intro c U X;omega
 have C: ∀k,s0<=k->k<=r0->m<=n - k/\n - k<=b/\k<=n:=by intro k U X;omega
 have af:s0=pre.length\/n - s0=b:=by omega
 have ag:r0=m\/n - r0=m:=by omega
 obtain⟨k,k1,k2,k3,k4,k5⟩:=bs (F:=λi j=>E.M 8 [.int pre.length,.int m,.int b,.int ((pre.length+b) / 2:Nat),.int n,.int i,.int j,.int (n - 1:Nat),LE enc (pre++(A++(B++post)))])
  (Q:=λc=> !lt ((pre++(A++(B++post))).getD (n - 1 - c) d) ((pre++(A++(B++post))).getD c d)) s0 r0 (by
  intro i j U X h3
  have ah:=y ((i+j) / 2) (by omega) (by omega)
  obtain⟨c,hc,G⟩:=E.cmp ((pre++(A++(B++post))).getD (n - 1 - (i+j) / 2) d) ((pre++(A++(B++post))).getD ((i+j) / 2) d)
  have gi:=idx enc (A61 (l:=pre++(A++(B++post))) d (i:=(i+j) / 2) (by simp;omega))
  have gp:=idx enc (A61 (l:=pre++(A++(B++post))) d (i:=n - 1 - (i+j) / 2) (by simp;omega))
  have H:(i:Int)<j:=by omega
  have I:IntKind.i64.wrap ((((i+j) / 2:Nat):Int)+1)=(((i+j) / 2+1:Nat):Int):=by rw[w1 (by omega) (by omega)];rfl
  have J:IntKind.i64.wrap (((n - 1:Nat):Int) - (((i+j) / 2:Nat):Int))=((n - 1 - (i+j) / 2:Nat):Int):=by rw[w1 (by omega) (by omega)];omega
  rw[E.m8 (.int pre.length) (.int m) (.int b) (.int ((pre.length+b) / 2:Nat)) (.int n) (.int i) (.int j)]
  simp only[O.Ah,H,Zd,aA,O.Aa,Zt]
  rw[mid i j (by omega)]
  simp only[O.C7,J,gi,gp,aA,K9 hc,O.Ah,O.Aa,G,O.Aq,O.An,I,E.m9]) (r0 - s0) s0 r0 (aJ _) (aJ _) o (aJ _) (.inl rfl) (.inl rfl)
 have hk:=C k k1 k2
 have q:=(aU (k - pre.length) A).symm
 have K:(A.take (k - pre.length)).length =k - pre.length:=by rw[bL];omega
 have r:(A.drop (k - pre.length)).length =m - k:=by rw[cG];omega
 have t:=(aU (n - k - m) B).symm
 have u:(B.take (n - k - m)).length =n - k - m:=by rw[bL];omega
 have L:(B.drop (n - k - m)).length =b - (n - k):=by rw[cG];omega
 refine⟨A.take (k - pre.length),A.drop (k - pre.length),B.take (n - k - m),B.drop (n - k - m),q,t,by omega,?_⟩
 generalize A.take (k - pre.length)=A1 at *
 generalize A.drop (k - pre.length)=A2 at *
 generalize B.take (n - k - m)=B1 at *
 generalize B.drop (n - k - m)=B2 at *
 subst q t
 refine⟨?_,?_,?_⟩
 ·rcases Hp A1 with rfl | ⟨A0,z,rfl⟩
  ·exact .inl rfl
  cases B2 with
  | nil=>exact .inr (.inl rfl)
  | cons w B0=>
   refine .inr (.inr ⟨A0,z,w,B0,rfl,rfl,?_⟩)
   simp only[aL,aP,bJ]at K L
   rcases k4 with h | h
   ·omega
   ·have e1:=Di (l:=pre++(A0++ [z]++A2++(B1++w::B0++post))) (A:=pre++A0) (x:=z) (B:=A2++(B1++w::B0++post)) (by simp) (i:=k - 1) (by simp;omega)
    have N:=Di (l:=pre++(A0++ [z]++A2++(B1++w::B0++post))) (A:=pre++(A0++ [z]++A2++B1)) (x:=w) (B:=B0++post) (by simp) (i:=n - 1 - (k - 1)) (by simp;omega)
    rw[cF,cF,e1,N]at h
    simpa using h
 ·cases A2 with
  | nil=>exact .inl rfl
  | cons z A0=>
   rcases Hp B1 with rfl | ⟨B0,w,rfl⟩
   ·exact .inr (.inl rfl)
   refine .inr (.inr ⟨A0,z,w,B0,rfl,rfl,?_⟩)
   simp only[aL,aP,bJ]at r u
   rcases k5 with h | h
   ·omega
   ·have e1:=Di (l:=pre++(A1++z::A0++(B0++ [w]++B2++post))) (A:=pre++A1) (x:=z) (B:=A0++(B0++ [w]++B2++post)) (by simp) (i:=k) (by simp;omega)
    have N:=Di (l:=pre++(A1++z::A0++(B0++ [w]++B2++post))) (A:=pre++(A1++z::A0++B0)) (x:=w) (B:=B2++post) (by simp) (i:=n - 1 - k) (by simp;omega)
    rw[cF,cF,e1,N]at h
    simpa using h
 ·rw[k3,E.m8]
  have I:IntKind.i64.wrap ((n:Int) - k)=((n - k:Nat):Int):=by rw[w1 (by omega) (by omega)];omega
  simp only[O.Ah,dE,Ze,aA,O.Aa,aG,Zf,O.C7,I]
  have e3:pre.length+A1.length=k:=by omega
  have e4:(pre.length+b) / 2+A2.length=n - k:=by omega
  rw[e3,e4]
  simp only[aL]at em eb hb
  by_cases c1:k<m
  ·by_cases c2:m<n - k
   ·have a:(k:Int)<m:=by omega
    have g:(m:Int)<(n - k:Nat):=by omega
    have Y:=rot E (pre++A1) A2 B1 (B2++post) (by intro e;subst e;simp at r;omega) (by intro e;subst e;simp at u;omega) (by simp;omega)
    have e5:(pre++A1).length =k:=by simp;omega
    have e6:k+A2.length=m:=by omega
    have e7:m+B1.length=n - k:=by omega
    rw[e5,e6,e7]at Y
    have e8:pre++(A1++A2++(B1++B2++post))=pre++A1++(A2++(B1++(B2++post))):=by simp
    rw[e8]
    simp only[a,g,Zd,Zt,aA,O.Aa,K9 Y]
    simp
   ·have R:B1= []:=aS.1 (by omega)
    subst R
    have a:(k:Int)<m:=by omega
    have g: ¬ (m:Int)<(n - k:Nat):=by omega
    simp only[a,g,Zd,Ze,Zt,aG,Zf,aA,O.Aa]
    simp
  ·have S:A2= []:=aS.1 (by omega)
   subst S
   have a: ¬ (k:Int)<m:=by omega
   simp only[a,Ze,aG,Zf,aA,O.Aa]
   simp
theorem A5j (o:Ord lt){A1 B2:List β}(c:Db lt A1)(d:Db lt B2)(h:A1= []\/B2= []\/ ∃A0 z w B0,A1=A0++ [z]/\B2=w::B0/\lt w z=false): ∀x∈A1,∀y∈B2,lt y x=false:=by
 rcases h with rfl | rfl | ⟨A0,z,w,B0,rfl,rfl,h⟩
 ·simp
 ·simp
 ·intro x a y b
  have e:lt z x=false:=by
   rcases aR.1 a with a | a
   ·exact c.Aii x a z (by simp)
   ·simp at a;subst a;exact o.irr x
  have g:lt y w=false:=by
   rcases aI.1 b with rfl | b
   ·exact o.irr y
   ·exact(bG.1 d).1 y b
  exact o.le_trans (o.le_trans e h) g
theorem A51 (o:Ord lt){A2 B1:List β}(c:Db lt A2)(d:Db lt B1)(h:A2= []\/B1= []\/ ∃A0 z w B0,A2=z::A0/\B1=B0++ [w]/\lt w z=true): ∀x∈A2,∀y∈B1,lt y x=true:=by
 rcases h with rfl | rfl | ⟨A0,z,w,B0,rfl,rfl,h⟩
 ·simp
 ·simp
 ·intro x b y a
  have e:lt x z=false:=by
   rcases aI.1 b with rfl | b
   ·exact o.irr x
   ·exact(bG.1 c).1 x b
  have g:lt w y=false:=by
   rcases aR.1 a with a | a
   ·exact d.Aii y a w (by simp)
   ·simp at a;subst a;exact o.irr y
  cases i:lt y x with
  | true=>rfl
  | false=>
   have:=o.le_trans (o.le_trans e i) g
   rw[h]at this;cases this
theorem mrg (o:Ord lt)(E:Eqs enc lt sz p): ∀ (N:Nat) (pre A B post:List β),A.length+B.length<=N->A≠ []->B≠ []->Db lt A->Db lt B->pre.length+A.length+B.length+post.length<=1099511627776->
  ∃C,Db lt C/\Lp lt (A++B) C/\E.M 0 [LE enc (pre++(A++(B++post))),.int pre.length,.int ((pre.length+A.length:Nat):Int),.int ((pre.length+A.length+B.length:Nat):Int)]=some [LE enc (pre++(C++post))]
 | 0,pre,A,B,post,hN,F,S,_,_,_=>by
  have:=aO.2 F
  omega
 | N+1,pre,A,B,post,hN,F,S,sA,sB,hb=>by
  have ad:=aO.2 F
  have ae:=aO.2 S
  have G:IntKind.i64.wrap (((pre.length+A.length:Nat):Int) - pre.length)=A.length:=by rw[w1 (by omega) (by omega)];omega
  have H:IntKind.i64.wrap (((pre.length+A.length+B.length:Nat):Int) - ((pre.length+A.length:Nat):Int))=B.length:=by rw[w1 (by omega) (by omega)];omega
  rw[E.m0]
  simp only[O.C7,G,H,aA,O.eq_int]
  by_cases c1:A.length=1
  ·obtain⟨x,rfl⟩:=cU.1 c1
   obtain⟨C,c,e,d⟩:=mrg1 o E pre x B post sB (by simpa using hb)
   refine⟨C,c,e,?_⟩
   have g:(([x]:List β).length :Int)=1:=rfl
   simp only[g,Zd,aA,O.Aa,Zt]
   exact d
  have g: ¬ (A.length:Int)=1:=by omega
  simp only[g,Ze,aA,O.Aa,aG,Zf]
  by_cases c2:B.length=1
  ·obtain⟨x,rfl⟩:=cU.1 c2
   obtain⟨C,c,e,d⟩:=mrg2 o E pre x A post sA (by simpa using hb)
   refine⟨C,c,e,?_⟩
   have h:(([x]:List β).length :Int)=1:=rfl
   simp only[h,Zd,aA,O.Aa,Zt]
   exact d
  have h: ¬ (B.length:Int)=1:=by omega
  simp only[h,Ze,aA,O.Aa,aG,Zf]
  rw[mid pre.length (pre.length+A.length+B.length) (by omega)]
  generalize em:pre.length+A.length=m at *
  generalize eb:m+B.length=b at *
  have I:IntKind.i64.wrap ((((pre.length+b) / 2:Nat):Int)+(m:Int))=(((pre.length+b) / 2+m:Nat):Int):=by rw[w1 (by omega) (by omega)];rfl
  have i:IntKind.i64.wrap ((((pre.length+b) / 2+m:Nat):Int) - 1)=(((pre.length+b) / 2+m - 1:Nat):Int):=by rw[w1 (by omega) (by omega)];omega
  have main: ∃A1 A2 B1 B2,A=A1++A2/\B=B1++B2/\A1.length+B1.length+pre.length=(pre.length+b) / 2/\
   (A1= []\/B2= []\/ ∃A0 z w B0,A1=A0++ [z]/\B2=w::B0/\lt w z=false)/\
   (A2= []\/B1= []\/ ∃A0 z w B0,A2=z::A0/\B1=B0++ [w]/\lt w z=true)/\
   ((
    O.add .i64 (.int ((pre.length+b) / 2:Nat)) (.int m)).bind λj=>
    (O.gt (.int m) (.int ((pre.length+b) / 2:Nat))).bind λT=>
    cnd T ((O.sub .i64 j (.int b)).bind λU=>E.M 3 [.int pre.length,.int m,.int b,.int ((pre.length+b) / 2:Nat),j,U,.int ((pre.length+b) / 2:Nat),LE enc (pre++(A++(B++post)))])
     (E.M 3 [.int pre.length,.int m,.int b,.int ((pre.length+b) / 2:Nat),j,.int pre.length,.int m,LE enc (pre++(A++(B++post)))]))=
    E.M 10 [.int pre.length,.int b,.int ((pre.length+b) / 2:Nat),.int (pre.length+A1.length:Nat),.int ((pre.length+b) / 2+A2.length:Nat),LE enc (pre++(A1++(B1++(A2++(B2++post)))))]:=by
   simp only[O.An,I,aA,O.B8]
   by_cases c3:m > (pre.length+b) / 2
   ·have q:(((pre.length+b) / 2:Nat):Int)<(m:Int):=by omega
    have X:IntKind.i64.wrap ((((pre.length+b) / 2+m:Nat):Int) - (b:Int))=(((pre.length+b) / 2+m - b:Nat):Int):=by rw[w1 (by omega) (by omega)];omega
    obtain⟨A1,A2,B1,B2,Y,Z,J,K,L,t⟩:=mrg3 E pre A B post F S (by omega) b m ((pre.length+b) / 2+m) ((pre.length+b) / 2+m - b) ((pre.length+b) / 2) (by omega) (by omega) rfl (.inl ⟨c3,rfl,rfl⟩)
    refine⟨A1,A2,B1,B2,Y,Z,J,K,L,?_⟩
    simp only[q,Zd,O.Aa,Zt,O.C7,X,aA,E.m3,i]
    exact t
   ·have q: ¬ (((pre.length+b) / 2:Nat):Int)<(m:Int):=by omega
    obtain⟨A1,A2,B1,B2,Y,Z,J,K,L,t⟩:=mrg3 E pre A B post F S (by omega) b m ((pre.length+b) / 2+m) pre.length m (by omega) (by omega) rfl (.inr ⟨c3,rfl,rfl⟩)
    refine⟨A1,A2,B1,B2,Y,Z,J,K,L,?_⟩
    simp only[q,Ze,aG,O.Aa,Zf,O.C7,aA,E.m3,i]
    exact t
  obtain⟨A1,A2,B1,B2,rfl,rfl,J,K,L,t⟩:=main
  rw[t,E.m10]
  clear t G H I i
  simp only[aL]at *
  have aa:=A5j o sA.left sB.right K
  have Q:=A51 o sA.right sB.left L
  have finish: ∀C1 C2,Db lt C1->Lp lt (A1++B1) C1->Db lt C2->Lp lt (A2++B2) C2->Db lt (C1++C2)/\Lp lt (A1++A2++(B1++B2)) (C1++C2):=by
   intro C1 C2 s1 R s2 t2
   refine⟨s1.append s2 ?_,?_⟩
   ·intro x r y a
    rcases aR.1 (R.symm.mem o r) with r | r
    ·rcases aR.1 (t2.symm.mem o a) with a | a
     ·exact sA.Aii x r y a
     ·exact aa x r y a
    ·rcases aR.1 (t2.symm.mem o a) with a | a
     ·exact o.asymm (Q y a x r)
     ·exact sB.Aii x r y a
   ·have c:Lp lt (A1++A2++(B1++B2)) (A1++B1++(A2++B2)):=by
     have:=(Lp.refl (lt:=lt) A1).append ((Lp.swap o (u:=A2) (v:=B1) Q).append (Lp.refl (lt:=lt) B2))
     simpa using this
    exact c.trans (R.append t2)
  generalize emid:(pre.length+b) / 2=mi at *
  -- the first half
  have first: ∃C1,Db lt C1/\Lp lt (A1++B1) C1/\
    ((
     O.lt (.int pre.length) (.int (pre.length+A1.length:Nat))).bind λx6=>
     (cnd x6 ((O.lt (.int (pre.length+A1.length:Nat)) (.int mi)).bind λx7=>some x7) (some (.bool false))).bind λx7=>
     cnd x7 (calls (E.M 0 [LE enc (pre++(A1++(B1++(A2++(B2++post))))),.int pre.length,.int (pre.length+A1.length:Nat),.int mi]) 1 λx8=>E.M 11 [.int b,.int mi,.int (mi+A2.length:Nat),x8])
      (E.M 11 [.int b,.int mi,.int (mi+A2.length:Nat),LE enc (pre++(A1++(B1++(A2++(B2++post)))))]))=
    E.M 11 [.int b,.int mi,.int (mi+A2.length:Nat),LE enc (pre++(C1++(A2++(B2++post))))]:=by
   by_cases d1:A1= []
   ·subst d1
    refine⟨B1,sB.left,.refl _,?_⟩
    simp
   by_cases d2:B1= []
   ·subst d2
    refine⟨A1,sA.left,by rw[aK];exact .refl _,?_⟩
    simp only[bJ]at J
    have d3: ¬ ((pre.length+A1.length:Nat):Int)<(mi:Int):=by omega
    simp only[O.Ah,aA,d3,Ze]
    by_cases d4:(pre.length:Int)<((pre.length+A1.length:Nat):Int)<;>simp[d4]
   ·have ab:=aO.2 d1
    have ac:=aO.2 d2
    obtain⟨C1,c,e,d⟩:=mrg o E N pre A1 B1 (A2++(B2++post)) (by omega) d1 d2 sA.left sB.left (by simp;omega)
    refine⟨C1,c,e,?_⟩
    have d3:((pre.length+A1.length:Nat):Int)<(mi:Int):=by omega
    have d4:(pre.length:Int)<((pre.length+A1.length:Nat):Int):=by omega
    rw[show pre.length+A1.length+B1.length=mi by omega]at d
    simp only[O.Ah,aA,d3,d4,Zd,O.Aa,Zt,K9 d]
  obtain⟨C1,s1,R,e1⟩:=first
  rw[e1,E.m11]
  have af:C1.length=A1.length+B1.length:=by have:=R.1;simp at this;omega
  have second: ∃C2,Db lt C2/\Lp lt (A2++B2) C2/\
    ((
     O.lt (.int mi) (.int (mi+A2.length:Nat))).bind λx4=>
     (cnd x4 ((O.lt (.int (mi+A2.length:Nat)) (.int b)).bind λx5=>some x5) (some (.bool false))).bind λx5=>
     cnd x5 (calls (E.M 0 [LE enc (pre++(C1++(A2++(B2++post)))),.int mi,.int (mi+A2.length:Nat),.int b]) 1 λx6=>some [x6]) (some [LE enc (pre++(C1++(A2++(B2++post))))]))=
    some [LE enc (pre++(C1++(C2++post)))]:=by
   by_cases d1:A2= []
   ·subst d1
    refine⟨B2,sB.right,.refl _,?_⟩
    simp
   by_cases d2:B2= []
   ·subst d2
    refine⟨A2,sA.right,by rw[aK];exact .refl _,?_⟩
    simp only[bJ]at *
    have d3: ¬ ((mi+A2.length:Nat):Int)<(b:Int):=by omega
    simp only[O.Ah,aA,d3,Ze]
    by_cases d4:(mi:Int)<((mi+A2.length:Nat):Int)<;>simp[d4]
   ·have ab:=aO.2 d1
    have ac:=aO.2 d2
    obtain⟨C2,c,e,d⟩:=mrg o E N (pre++C1) A2 B2 post (by omega) d1 d2 sA.right sB.right (by simp;omega)
    refine⟨C2,c,e,?_⟩
    have d3:((mi+A2.length:Nat):Int)<(b:Int):=by omega
    have d4:(mi:Int)<((mi+A2.length:Nat):Int):=by omega
    have f1:(pre++C1).length =mi:=by simp;omega
    rw[f1,show mi+A2.length+B2.length=b by omega,aF,aF]at d
    simp only[O.Ah,aA,d3,d4,Zd,O.Aa,Zt,K9 d]
  obtain⟨C2,s2,t2,e2⟩:=second
  have fin:=finish C1 C2 s1 R s2 t2
  refine⟨C1++C2,fin.1,fin.2,?_⟩
  rw[e2,aF]
end Go.CT.Srt
namespace Go.CT.Srt
variable {β:Type}{enc:β->IV}{lt:β->β->Bool}{sz:Nat}{p:Bool}
inductive Blk (lt:β->β->Bool)(k:Nat):List β->Prop
 | last (l:List β):l.length<=k->Db lt l->Blk lt k l
 | cons (a l:List β):a.length=k->Db lt a->Blk lt k l->Blk lt k (a++l)
theorem Blk.sorted {k:Nat}{l:List β}(h:Blk lt k l)(b:l.length<=k):Db lt l:=by
 cases h with
 | last _ _ h=>exact h
 | cons a l d c e=>
  have:l= []:=aS.1 (by simp at b;omega)
  subst this;rw[aK];exact c
theorem Blk.first {k:Nat}{l:List β}(h:Blk lt k l)(e:k<=l.length): ∃a r,l=a++r/\a.length=k/\Db lt a/\Blk lt k r:=by
 cases h with
 | last _ b h=>exact⟨l,[],by simp,by omega,h,.last _ (by simp) .nil⟩
 | cons a l b c d=>exact⟨a,l,rfl,b,c,d⟩
theorem ph1 (o:Ord lt)(E:Eqs enc lt sz p)(N:Nat): ∀ (n:Nat) (pre rest:List β),rest.length<=n->N=pre.length+rest.length->N<=549755813888->
  ∃r,Blk lt 20 r/\Lp lt rest r/\E.B 1 [.int N,.int 20,.int pre.length,.int ((pre.length+20:Nat):Int),LE enc (pre++rest)]=E.B 2 [.int N,.int 20,LE enc (pre++r)]
 | n,pre,rest,g,j,q=>by
  rw[E.b1]
  by_cases c:20<=rest.length
  ·have c':((pre.length+20:Nat):Int)<=(N:Int):=by omega
   have t:IntKind.i64.wrap (((pre.length+20:Nat):Int)+20)=((pre.length+20+20:Nat):Int):=by rw[w1 (by omega) (by omega)];rfl
   have u:=(aU 20 rest).symm
   have b:(rest.take 20).length =20:=by rw[bL];omega
   generalize rest.take 20=r1 at *
   generalize rest.drop 20=r2 at *
   subst u
   simp only[aL]at g j c
   obtain⟨a,h,d,e⟩:=ins o E pre r1 r2 (by omega)
   have i:a.length=20:=by rw[<-d.1];exact b
   match n,g with
   | 0,g=>omega
   | n+1,g=>
    obtain⟨r,w,x,m⟩:=ph1 o E N n (pre++a) r2 (by omega) (by simp;omega) q
    refine⟨a++r,.cons _ _ i h w,d.append x,?_⟩
    rw[b]at e
    simp only[O.Gk,c',Zd,aA,O.Aa,Zt,K9 e,O.An,t]
    rw[show(pre++a).length =pre.length+20 by simp;omega,aF,aF]at m
    exact m
  ·have c': ¬ ((pre.length+20:Nat):Int)<=(N:Int):=by omega
   obtain⟨a,h,d,e⟩:=ins o E pre rest [] (by simp;omega)
   refine⟨a,.last _ (by rw[<-d.1];omega) h,d,?_⟩
   rw[aK,aK,<-j]at e
   simp only[O.Gk,c',Ze,aG,aA,O.Aa,Zf,K9 e]
theorem ph3 (o:Ord lt)(E:Eqs enc lt sz p)(N k:Nat)(G:0<k)(m:k<N): ∀ (n:Nat) (pre rest:List β),rest.length<=n->N=pre.length+rest.length->N<=549755813888->Blk lt k rest->
  ∃r,Blk lt (2 * k) r/\Lp lt rest r/\E.B 3 [.int N,.int k,.int pre.length,.int ((pre.length+2 * k:Nat):Int),LE enc (pre++rest)]=E.B 4 [.int N,.int k,LE enc (pre++r)]
 | n,pre,rest,b,q,H,a=>by
  have g:IntKind.i64.wrap ((pre.length:Int)+(k:Int))=((pre.length+k:Nat):Int):=by rw[w1 (by omega) (by omega)];rfl
  have t:IntKind.i64.wrap (2 * (k:Int))=((2 * k:Nat):Int):=by rw[w1 (by omega) (by omega)];rfl
  rw[E.b3]
  by_cases c:2 * k<=rest.length
  ·have c':((pre.length+2 * k:Nat):Int)<=(N:Int):=by omega
   have u:IntKind.i64.wrap (((pre.length+2 * k:Nat):Int)+((2 * k:Nat):Int))=((pre.length+2 * k+2 * k:Nat):Int):=by rw[w1 (by omega) (by omega)];rfl
   obtain⟨w,r1,rfl,h,x,a⟩:=a.first (by omega)
   simp only[aL]at b q c
   obtain⟨a2,r2,rfl,A,I,a⟩:=a.first (by omega)
   simp only[aL]at b q c
   obtain⟨C,y,i,j⟩:=mrg o E _ pre w a2 r2 (aJ _) (by intro e;subst e;simp at h;omega) (by intro e;subst e;simp at A;omega) x I (by omega)
   have J:C.length=2 * k:=by have:=i.1;simp at this;omega
   match n,b with
   | 0,b=>omega
   | n+1,b=>
    obtain⟨r,K,L,F⟩:=ph3 o E N k G m n (pre++C) r2 (by omega) (by simp;omega) H a
    refine⟨C++r,.cons _ _ J y K,by rw[<-aF];exact i.append L,?_⟩
    rw[h,A,show pre.length+k+k=pre.length+2 * k by omega]at j
    simp only[O.Gk,c',Zd,aA,O.Aa,Zt,O.An,g,K9 j,O.Uy,t,u]
    rw[show(pre++C).length =pre.length+2 * k by simp;omega,aF,aF]at F
    exact F
  ·have c': ¬ ((pre.length+2 * k:Nat):Int)<=(N:Int):=by omega
   simp only[O.Gk,c',Ze,aG,aA,O.Aa,Zf,O.An,g,O.Ah]
   by_cases d:k<rest.length
   ·have z:((pre.length+k:Nat):Int)<(N:Int):=by omega
    obtain⟨w,r1,rfl,h,x,a⟩:=a.first (by omega)
    simp only[aL]at b q c d
    obtain⟨C,y,i,j⟩:=mrg o E _ pre w r1 [] (aJ _) (by intro e;subst e;simp at h;omega) (by intro e;subst e;simp at d;omega) x (a.sorted (by omega)) (by simp;omega)
    refine⟨C,.last _ (by have:=i.1;simp at this;omega) y,i,?_⟩
    rw[aK,aK,h,show pre.length+k+r1.length=N by omega]at j
    simp only[z,Zd,Zt,K9 j]
   ·have z: ¬ ((pre.length+k:Nat):Int)<(N:Int):=by omega
    refine⟨rest,.last _ (by omega) (a.sorted (by omega)),.refl _,?_⟩
    simp only[z,Ze,aG,Zf]
theorem ph2 (o:Ord lt)(E:Eqs enc lt sz p)(N:Nat)(e:N<=549755813888): ∀ (n k:Nat) (l:List β),N - k<=n->0<k->k<=1099511627776->l.length=N->Blk lt k l->
  ∃r,Db lt r/\Lp lt l r/\E.B 2 [.int N,.int k,LE enc l]=some [LE enc r]
 | n,k,l,a,j,m,q,g=>by
  rw[E.b2]
  by_cases c:k<N
  ·have c':(k:Int)<(N:Int):=by omega
   have b:IntKind.i64.wrap (2 * (k:Int))=((2 * k:Nat):Int):=by rw[w1 (by omega) (by omega)];rfl
   have d:IntKind.i64.wrap ((k:Int) * 2)=((2 * k:Nat):Int):=by rw[w1 (by omega) (by omega)];omega
   obtain⟨r,t,h,i⟩:=ph3 o E N k j c l.length [] l (aJ _) (by simp;omega) e g
   match n,a with
   | 0,a=>omega
   | n+1,a=>
    obtain⟨u,w,x,y⟩:=ph2 o E N e n (2 * k) r (by omega) (by omega) (by omega) (by rw[<-h.1,q]) t
    refine⟨u,w,h.trans x,?_⟩
    simp only[bJ,bD,dG,Int.ofNat_zero]at i
    simp only[O.Ah,c',Zd,aA,O.Aa,Zt,O.Uy,b]
    refine Eq.trans i ?_
    rw[E.b4]
    simp only[O.Uy,d,aA,y]
  ·have c': ¬ (k:Int)<(N:Int):=by omega
   refine⟨l,g.sorted (by omega),.refl _,?_⟩
   simp only[O.Ah,c',Ze,aG,aA,O.Aa,Zf]
theorem sort (o:Ord lt)(E:Eqs enc lt sz p)(l:List β)(a:l.length<=549755813888): ∃r,Db lt r/\Lp lt l r/\E.S 0 [LE enc l]=some [LE enc r]:=by
 obtain⟨r1,d,b,c⟩:=ph1 o E l.length l.length [] l (aJ _) (by simp) a
 obtain⟨r,e,g,h⟩:=ph2 o E l.length a _ 20 r1 (aJ _) (by omega) (by omega) b.1.symm d
 refine⟨r,e,b.trans g,?_⟩
 rw[E.s0,len]
 simp only[bJ,bD,dG]at c
 have:E.B 0 [LE enc l,.int l.length]=some [LE enc r]:=by
  rw[E.b0]
  exact c.trans h
 simp only[aA,K9 this]
end Go.CT.Srt
namespace Go.CT
open Go.RowKit Go.ChangeShapes
section
variable {H:Type}{enc:TypeId × Value->H}{P:Program}{w:World}{TS:List TypeId}{bk:DataW H->Nat}{bks:List (DataW H)->Nat}
theorem Ar1 {t:TypeId}{v:Value}{base:Nat}(c:U5 P TS t=true)(h:Value.okWide P w .any base t v):mkV P t v.cells.toList=v:=by
 unfold U5 at c
 simp only[aD]at c
 obtain⟨_,b⟩:=c
 have aux:Ak P t=false->(∀cs,v≠ .agg cs)->mkV P t v.cells.toList=v:=by
  intro g i
  unfold mkV
  rw[g]
  cases v<;>first | rfl | exact absurd rfl (i _)
 cases a:P.underlying t with
 | none=>rw[a]at b;cases b
 | some d=>
  rw[a]at b
  cases d with
  | struct fs=>
   simp only[Value.okWide,a]at h
   obtain⟨cs,rfl,_,_⟩:=h
   simp[mkV,Ak,a,Value.cells]
  | int k=>
   refine aux (by simp[Ak,a]) (λcs e=>?_)
   subst e
   simp[Value.okWide,Cell.okWide,Cell.ok,a]at h
  | bool=>
   refine aux (by simp[Ak,a]) (λcs e=>?_)
   subst e
   simp[Value.okWide,Cell.okWide,Cell.ok,a]at h
  | string=>
   refine aux (by simp[Ak,a]) (λcs e=>?_)
   subst e
   simp[Value.okWide,Cell.okWide,Cell.ok,a]at h
  | slice e=>
   refine aux (by simp[Ak,a]) (λcs e=>?_)
   subst e
   simp[Value.okWide,Cell.okWide,Cell.ok,a]at h
  | _=>simp at b
theorem Awp (i:Aro bk bks)(c:Anp P TS=true){spare:Nat->Bool}{base:Nat} : ∀ (ts:List TypeId) (vs:List Value) (ds:List (DataW H)) (m:List MemPlace),(∀t∈ts,t∈TS)->
  DataW.TrodAll enc P w 0 spare true ts vs ds m->(∀ (j:Nat) (t:TypeId) (v:Value),ts[j]?=some t->vs[j]?=some v->Value.okWide P w .any base t v)->
  ∃xs,WTs P ts xs/\IV.Dm xs<=bks ds/\E1 P w (λb=>False\/b∈ []) (· ∈ []) (ts.map PS.data) xs vs []/\ds.length=ts.length
 | [],[],[],m,_,_,_=>⟨[],trivial,by simp[IV.Dm],⟨rfl,rfl⟩,rfl⟩
 | t::ts,v::vs,d::ds,m,r,h,e=>by
  obtain⟨p,q,⟨fuel,x⟩,y,rfl⟩:=h
  obtain⟨xs,x1,I,z,A⟩:=Awp i c ts vs ds q (λt h=>r t (by simp[h])) y (λj t v a b=>e (j+1) t v (by simpa using a) (by simpa using b))
  have u:=r t (by simp)
  have hd:U5 P TS t=true:=aY.1 c t u
  obtain⟨ys,B,C⟩:=Alg i c fuel t _ d p u x
  obtain⟨r1,r2,J,F,K⟩:=B.mk_val hd
  have G:=Ar1 hd (e 0 t v rfl rfl)
  rw[G]at r1
  refine⟨Asd P t ys::xs,⟨r2,x1⟩,?_,?_,by simp[A]⟩
  ·rw[i.cons]
   simp only[IV.Dm]
   by_cases o:Ak P t=true
   ·have:=C o
    have e1:(Asd P t ys).bulk =IV.Dm ys+1:=by simp[Asd,o,IV.bulk]
    omega
   ·have:=F (by simpa using o)
    omega
  ·refine⟨[Asd P t ys],xs,[],[],rfl,rfl,⟨_,rfl,rfl,r1.weaken (λb _ g=>?_)⟩,z⟩
   rcases g with g | g
   ·exact g
   ·cases g
 | [],_::_,_,_,_,h,_=>by cases h
 | [],[],_::_,_,_,h,_=>by cases h
 | _::_,[],_,_,_,h,_=>by cases h
 | _::_,_::_,[],_,_,h,_=>by cases h
theorem Ts (g:laidOutB P=true){W W':World}{sp:Nat->Bool}(i:Below W.heap.size W W'): ∀ (ts:List TypeId) (vs:List Value) (ds:List (DataW H)) (b:List MemPlace),(∀t∈ts,P.readableRec t=true/\t<P.types.size)->
  DataW.TrodAll enc P W 0 (λ_=>true) true ts vs ds b->(∀p∈b,p.block<W.heap.size)->(∀p∈b,sp p.block=true)->DataW.TrodAll enc P W' 0 sp true ts vs ds b
 | [],[],[],_,_,h,_,_=>h
 | t::ts,v::vs,d::ds,b,j,h,c,e=>by
  obtain⟨p,q,o,r,rfl⟩:=h
  have m:=j t (by simp)
  exact⟨p,q,WideElems.Trod_stays g m.1 m.2 o (λx a=>i.same (c x (by simp[a]))) (λx a=>e x (by simp[a])),
   Ts g i ts vs ds q (λt h=>j t (by simp[h])) r (λx a=>c x (by simp[a])) (λx a=>e x (by simp[a])),rfl⟩
 | [],_::_,_,_,_,h,_,_=>by cases h
 | [],[],_::_,_,_,h,_,_=>by cases h
 | _::_,[],_,_,_,h,_,_=>by cases h
 | _::_,_::_,[],_,_,h,_,_=>by cases h
theorem Awt.calls {f:FuncId}{args:Array Value}{R:Value->World->Prop}{fn:Func}(a:P.funcs[f]?=some fn)(g:fn.body.isSome=true)(d:(fn.name == "runtime.NumGoroutine")=false)(h:Awt P f args w R):
  Calls P f args w λe w'=> ∃v,e= .returned v/\R v w':=by
 rcases h with⟨_,_,_,_,h⟩ | ⟨v,w',h,_⟩
 ·exact h
 ·have b: ¬ fn.body=none:=by cases i:fn.body<;>simp_all
  have c: ¬ fn.name= "runtime.NumGoroutine" :=by simpa using d
  simp[callFunc,a,c,b]at h
theorem Acd: ∀ {ts:List TypeId} {vs:List Value},ts.length=vs.length->Kb 0 (ts.map PS.data) vs=some vs
 | [],[],_=>rfl
 | [],_::_,h=>by simp at h
 | _::_,[],h=>by simp at h
 | t::ts,v::vs,h=>by
  simp only[bK,Kb,Aej,Acd (ts:=ts) (vs:=vs) (by simpa using h),bQ]
theorem Aml {specs:List (Nat × Spec)}{T:Job->Option PT}{pr:Nat->Option (List IV->Option (List IV))}(Y: ∀k,Sound P specs (run T pr k)){i:Nat}{f:FuncId}{tb:TypeId}{fn:Func}{al:Bool}{ts:List TypeId}
  (u:(i,(⟨f,ts.map PS.data,[.whole tb],al⟩:Spec))∈specs) (w:P.underlying tb=some .bool) (I:P.funcs[f]?=some fn) (m:fn.body.isSome=true) (o:(fn.name == "runtime.NumGoroutine")=false)
  (d:fn.params.toList=ts) (y:fn.resultTypes= #[tb]) (Z:laidOutB P=true) (z:Anp P TS=true) (A: ∀t∈ts,t∈TS) (hB:Aro bk bks) {s:ChangeSpec} (g:s.vars= [])
  (r: ∀ds:List (DataW H),ds.length=ts.length->(s.fn H ds).results = [.lit (.bool true)]/\(s.fn H ds).args =ds/\(s.fn H ds).vars = []) {n:Nat}
  (hV: ∀xs,WTs P ts xs->IV.Dm xs<=n->V T pr ⟨i,0⟩ xs=some [.bool true])
  (W:World) (base:Nat) (args:Array Value) (ds gs:List (DataW H)) (before:List MemPlace)
  (B: ∀ (j:Nat) t v,fn.params[j]?=some t->args[j]?=some v->Value.okWide P W .any base t v)
  (Q:DataW.Whole enc P fn.params.toList s.vars false W args.toList ds gs before) (J:bks (ds++gs)<=n):
  Calls P f args W λe W'=> ∃v,e= .returned v/\s.post enc P fn false true false false W args v W':=by
 have C:=Q
 obtain⟨p,q,K,hv,rfl,aa,ab⟩:=Q
 rw[g]at hv
 have L:gs= []/\q= []:=by cases gs<;>simp_all[DataW.TrodVars]
 obtain⟨rfl,rfl⟩:=L
 rw[aK]at J
 rw[d]at K
 obtain⟨xs,x1,x2,R,x4⟩:=Awp hB z (base:=base) ts args.toList ds p A K (λj t v a b=>B j t v (by rw[<-cB,d];exact a) (by rw[<-cB];exact b))
 obtain⟨k,F⟩:=(Ab5 T pr).1 (hV xs x1 (by omega))
 have hd:=Y k i _ u W (λ_=>False) xs args.toList args.toList [] [.bool true] (Acd (by have:=Anc R;simpa using this)) R (by simp) (by simp) (by simp) F
 refine(Awt.calls I m o (by simpa using hd)).mono ?_
 rintro e W' ⟨v,rfl,c⟩
 refine⟨v,rfl,?_⟩
 obtain⟨vs,ys,zs,L1,L2,e1,S,_,_,e5,e6⟩:=c.out
 have U:Below W.heap.size W W':=⟨c.step.os,c.step.tape,c.step.output,c.step.size,λk J=>c.step.stays k J (by simp)⟩
 have G: ∀x∈p,x.block<W.heap.size:=λx M=>by simpa using C.lt x (by simpa using M)
 have N:v= .bool true:=by
  cases vs with
  | nil=>simp[I1]at e5
  | cons v0 vs=>
   cases vs with
   | cons _ _=>simp[I1]at e5
   | nil=>
    obtain⟨as,bs,M1,M2,X,f2,f3,f4⟩:=e5
    obtain⟨x,g1,g2,g3⟩:=f3
    obtain⟨b,h1,h2⟩:=g3.Nz w
    obtain⟨f5,_⟩:=f4
    subst g1 h1 h2 f5
    simp only[aK]at X
    subst X
    simp only[cE,bD,cV,IV.bool.injEq]at S
    rw[e1];simp[packed,<-S.1]
 subst N
 obtain⟨s1,s2,s3⟩:=r ds x4
 have hT: ∀t∈ts,P.readableRec t=true/\t<P.types.size:=λt ht=>by
  have hd:U5 P TS t=true:=aY.1 z t (A t ht)
  unfold U5 at hd
  simp only[aD,decide_eq_true_eq]at hd
  exact⟨hd.1.2,hd.1.1.2⟩
 refine⟨ds,[],p,[],p,[],by simpa using C,?_,?_,?_,?_,λh=>by cases h⟩
 ·rw[aK,s1,y]
  exact trodAll_mk1 (shut_bool w _)
 ·rw[aK,s2,d]
  exact Ts Z U ts _ ds p hT K G (λx M=>by simpa using G x M)
 ·rw[aK,s3,g]
  rfl
 ·exact U.frame _
end
end Go.CT
