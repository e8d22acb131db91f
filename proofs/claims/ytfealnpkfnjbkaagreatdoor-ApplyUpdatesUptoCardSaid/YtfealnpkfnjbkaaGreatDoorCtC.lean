import Derived.Test.YtfealnpkfnjbkaaGreatDoorCtB
import Derived.Scope
import Derived.Lib.Bytealg
import Derived.Lib.Walk
import Derived.Carry
import Derived.JoinedCond
import Derived.RowKit
import Derived.ChangeSame
import Derived.IntWalk
import Derived.OpenShut
set_option linter.unusedVariables false
set_option linter.unusedSimpArgs false
open Array renaming replicate->bY,getElem?_toList->cF,length_toList->dC,ext'->dW
open Bool renaming and_eq_true->aD,false_eq_true->aE,not_eq_true'->cD,eq_iff_iff->cK,or_eq_true->dO,not_false->dR
open Classical renaming choose_spec->cX
open Go.CT renaming holds->cM
open Go.CT.Arg renaming evs->aR,ev->dE
open Go.CT.EM renaming guard->cR
open Go.CT.K1 renaming ev->dB
open Go.CT.Mj renaming arity->cN,ev->dJ
open Go.CT.PS renaming Cu->dF
open Go.CT.PT renaming den->cJ
open Go.CT.Ph renaming refl->dX
open Go.CT.Prim renaming ev->aF
open Int renaming lt_irrefl->dD
open List renaming append_assoc->aG,mem_cons->aI,mem_cons_of_mem->aJ,mem_append->aK,getElem?_append_right->aL,length_pos_iff->aN,append_nil->aO,length_append->aP,getElem?_append_left->aS,getElem?_eq_some_iff->aT,length_cons->aU,length_eq_zero_iff->aW,all_eq_true->aY,getElem?_eq_getElem->aZ,mem_append_right->bA,take_append_drop->bB,flatMap_cons->bC,nil_append->bD,mem_map_of_mem->bF,length_take->bG,pairwise_append->bH,length_nil->bJ,replicate->bK,pairwise_cons->bL,mem_append_left->bM,length_drop->bO,mem_cons_self->bP,mem_singleton->bQ,length_map->bR,map_cons->bS,length_singleton->bT,mem_of_getElem?->bU,cons_append->bV,filter_append->bZ,getElem?_cons_succ->cB,getElem?_cons_zero->cC,getElem?_toArray->cE,mem_flatMap->cG,getD->cH,mapM_cons->cL,length_range->cP,all_cons->cQ,filter_cons_of_pos->cS,filter_cons_of_neg->cT,filter_eq_nil_iff->cV,length_eq_one_iff->cW,length_replicate->cY,contains_iff_mem->cZ,isEmpty_iff->dH,nodup_cons->dM,map_append->dP,mem_filter->dQ,mapM_nil->dT
open List.Pairwise renaming nil->dY
open List.cons renaming injEq->dL
open Nat renaming le_refl->aM,lt_succ_self->bN,le_succ->cI,le_succ_of_le->cO,zero_add->cU,add_comm->dG,le_max_right->dI,zero_le->dK,le_max_left->dN,add_assoc->dS,sub_zero->dU,add_zero->dV
open Option renaming bind_some->aA,bind_eq_some_iff->aC,map_eq_some_iff->aH,ite_none_right_eq_some->aQ,bind_assoc->aX,bind_eq_bind->bE,pure_def->bI,isSome_iff_exists->bW,map_some->bX,join_eq_some_iff->cA
open Option.some renaming injEq->aB
open Prod.mk renaming injEq->aV
open UInt8 renaming lt_iff_toNat_lt->dA
namespace Go.CT
open EM
section
variable {P:Program}{N:Nat}{X:Nat->Prop}{R:Job->List IV->Option (List IV)}{ρ:List IV}{K:Nat->Prop}{S:View}{μ:Nat->Value}{a:Act}{w w':World}{es es' e1:ES}{ls:List PLt}{sx:SX}
 {B B' B1:Bind} {c cb:Cx}
def BoxC (cb:Cx)(w:World)(c:Nat):Ob->Prop
 | .box t vv=> ∃b v,cb.μ c= .pointer (some ⟨b,0,none⟩)/\w.heap[b]?=some (.cells v.cells t (0,0))/\v.cells.size=Ag cb.P t/\
  (if Ai cb.P t then ∃cs,v= .agg cs else v.oneCell'=true)/\(∀u∈v.cells,u.oneCell'=true)/\K0 cb vv v
 | .arr _ _ _=>True
 | .frz e t a=>cb.P.underlying t=some (.slice e)/\Sf cb a t (cb.μ c)
 | .iter .. =>True
 | .mp .. =>True
theorem Agn {o':Ob}{i k:Nat}(G:Good P N X ρ K S.tm (cur S es.obs) μ a w)(h:Ev S (Z4 P B o' k) es B' es' ls)(H:LH R ρ ls)(T:holds ρ es.gs=some true)(z:BOk B K)(L: ∀k,es.m<=k-> ¬ K k)
  (C:findKey i B.keys=some k):UOk P N X ρ K S μ a w es es' B B' λcb=>BoxC cb w i o':=by
 unfold Z4 at h
 cases o' with
 | arr e t x=>
  simp only[Ad]at h
  obtain⟨rfl,rfl,rfl⟩:=h
  exact .nil G z λ_=>trivial
 | iter s p=>
  simp only[Ad]at h
  obtain⟨rfl,rfl,rfl⟩:=h
  exact .nil G z λ_=>trivial
 | mp t kt vt c=>
  simp only[Ad]at h
  obtain⟨rfl,rfl,rfl⟩:=h
  exact .nil G z λ_=>trivial
 | box I v'=>
  simp only at h
  rw[Ab]at h
  obtain⟨o,_,_,Z,E,h,rfl⟩:=h
  rw[Bp]at E
  obtain⟨r,rfl,rfl⟩:=E
  cases o with
  | arr=>simp[Ac]at h
  | frz=>simp[Ac]at h
  | iter=>simp[Ac]at h
  | mp=>simp[Ac]at h
  | box t vv=>
   simp only[Ab,Af]at h
   obtain⟨_,_,_,_,⟨F,rfl,rfl⟩,h,rfl⟩:=h
   have:I=t:=by simpa using F
   subst this
   obtain⟨b,v,o1,o2,o3,o4,o5,o6⟩:=G.obj k _ r
   obtain⟨μ',j,x,b',u⟩:=Atm G h (by simpa using H) T z L (G.ko k _ r).2 o6
   refine⟨μ',j,x,b',λcb d=>?_⟩
   have J:cb.P=P:=d.P
   refine⟨b,v,?_,o2,by rw[J];exact o3,by rw[J];exact o4,o5,u cb d⟩
   have:=d.keys i k (x.keys i k C)
   rw[this]
   exact(j.keep k (G.ko k _ r).1).trans o1
 | frz e' I c'=>
  simp only[Ab,Af]at h
  obtain⟨_,_,_,_,⟨F,rfl,rfl⟩,⟨y,e1,l1,Z,U,h2,rfl⟩,rfl⟩:=h
  have F:Cr P I=some e':=by simpa using F
  have H:=H.right
  have M:W2 (Bh P X ρ (cur S es.obs) μ w) (.ref k I) (μ k):=by
   refine⟨rfl,?_⟩
   have g:=U
   unfold Da at g
   rw[Ab]at g
   obtain⟨o,_,_,_,E,g,_⟩:=g
   rw[Bp]at E
   obtain⟨r,rfl,rfl⟩:=E
   cases o with
   | box=>simp[Ac]at g
   | iter=>simp[Ac]at g
   | mp=>simp[Ac]at g
   | arr e t x=>
    obtain⟨ivs,A,cap,_,hμ,_⟩:=G.Apl r
    exact⟨A,_,cap,hμ⟩
   | frz e t x=>
    obtain⟨Q,iv,Y,q3⟩:=G.obj k _ r
    obtain⟨xs,A,cap,rfl,hμ,_⟩:=q3.Cl Q
    exact⟨A,_,cap,hμ⟩
  obtain⟨p,_,q⟩:=G5 G U H.left T M
  obtain⟨iv,Q,Y⟩:=q rfl
  obtain⟨rfl,rfl,r1,r2,r3⟩:=Dk h2
  refine .Rt p r1 (z.Qp r2) λcb u=>⟨by
     have J:cb.P=P:=u.P
     rw[J];exact Be F,iv,r3 u Q,?_⟩
  have:=u.keys i k (r1.keys i k C)
  rw[this]
  exact u.rel Y
theorem Yo: ∀ {obl:List (Nat × Ob)} {B B':Bind} {es es':ES} {ls:List PLt} {K:Nat->Prop} {μ:Nat->Value},Good P N X ρ K S.tm (cur S es.obs) μ a w->Ev S (Uc P B obl) es B' es' ls->LH R ρ ls->holds ρ es.gs=some true->BOk B K->(∀k,es.m<=k-> ¬ K k)->
  UOk P N X ρ K S μ a w es es' B B' λcb=> ∀p∈obl,BoxC cb w p.1 p.2
 | [],B,B',es,es',ls,K,μ,G,h,c,d,e,b=>by
  unfold Uc at h
  rw[Ad]at h
  obtain⟨rfl,rfl,rfl⟩:=h
  exact .nil G e λcb p hp=>by cases hp
 | (t,o')::r,B,B',es,es',ls,K,μ,G,h,c,d,e,b=>by
  unfold Uc at h
  simp only[Ab,Ao]at h
  obtain⟨k,_,_,_,⟨i,rfl,rfl⟩,⟨B1,e1,u,x,o,q,rfl⟩,rfl⟩:=h
  have c:=c.right
  refine((Agn G o c.left d e b i).then λμ1 j b1=>Yo j.Cj q c.right (by rw[j.gs];exact d) b1 (Ie b j.m)).mono λcb g p hp=>?_
  rcases aI.1 hp with rfl | hp
  ·exact g.1
  ·exact g.2 p hp
def Bah (cb:Cx)(G:Nat->Option Ob)(B:Bind)(a:Nat)(o':Ob):Prop:=
 o'.Ea=true-> ∃k o,findKey a B.keys=some k/\G k=some o/\o.Ea=true/\((∀t v,o'≠ .box t v)->Ae3 cb a o')
theorem Aid {o':Ob}{i k:Nat}(G:Good P N X ρ K S.tm (cur S es.obs) μ a w)(h:Ev S (Abz P B o' k) es B' es' ls)(g:findKey i B.keys=some k):
  es=es'/\ls= []/\Ext B B'/\B'.keys=B.keys/\ ∀cb,Compat B' (Bh P X ρ (cur S es.obs) μ w) cb->Bah cb (cur S es.obs) B' i o':=by
 unfold Abz at h
 cases o' with
 | box t v=>
  simp only at h
  rw[Ab]at h
  obtain⟨o,_,_,I,j,h,rfl⟩:=h
  rw[Bp]at j
  obtain⟨m,rfl,rfl⟩:=j
  cases o with
  | arr=>simp[Ac]at h
  | frz=>simp[Ac]at h
  | iter=>simp[Ac]at h
  | mp=>simp[Ac]at h
  | box t2 v2=>
   rw[Ad]at h
   obtain⟨rfl,rfl,rfl⟩:=h
   exact⟨rfl,rfl,.refl _,rfl,λcb d _=>⟨k,_,g,m,rfl,λh=>absurd rfl (h _ _)⟩⟩
 | frz e t x=>
  simp only[Ad]at h
  obtain⟨rfl,rfl,rfl⟩:=h
  exact⟨rfl,rfl,.refl _,rfl,λcb d h=>by simp[Ob.Ea]at h⟩
 | arr Z M c'=>
  simp only at h
  rw[Ab]at h
  obtain⟨o,_,_,I,j,h,rfl⟩:=h
  rw[Bp]at j
  obtain⟨m,rfl,rfl⟩:=j
  cases o with
  | box=>simp[Ac]at h
  | frz=>simp[Ac]at h
  | iter=>simp[Ac]at h
  | mp=>simp[Ac]at h
  | arr e t x=>
   simp only[Ab,Af]at h
   obtain⟨_,_,_,_,⟨y,rfl,rfl⟩,h,rfl⟩:=h
   simp only[aD,beq_iff_eq]at y
   obtain⟨rfl,Q⟩:=y
   obtain⟨rfl,rfl,r1,r2,z⟩:=Dk h
   refine⟨rfl,rfl,r1,r2,λcb d _=>⟨k,_,r1.keys i k g,m,rfl,λ_=>?_⟩⟩
   obtain⟨ivs,cs,A,F,C,E,J,L⟩:=G.obj k _ m
   have q:cb.P=P:=d.P
   have u:cb.w=w:=d.w
   refine⟨ivs,cs,z d A,by rw[q];exact Be Q,by rw[q];exact C,?_,?_,L⟩
   ·rw[q,u,d.keys i k (r1.keys i k g)];exact E
   ·rw[q,u]
    exact Ja.weaken (O:=(Bh P X ρ (cur S es.obs) μ w).O) J d.O
 | iter s' p'=>
  simp only at h
  rw[Ab]at h
  obtain⟨o,_,_,I,j,h,rfl⟩:=h
  rw[Bp]at j
  obtain⟨m,rfl,rfl⟩:=j
  cases o with
  | iter s p=>
   simp only[Ab]at h
   obtain⟨B1,e1,l1,_,R,T,rfl⟩:=h
   obtain⟨rfl,rfl,r1,r2,z⟩:=Dk R
   obtain⟨rfl,rfl,H,U,Y⟩:=Dk T
   refine⟨rfl,rfl,r1.trans H,U.trans r2,λcb d _=>⟨k,_,(r1.trans H).keys i k g,m,rfl,λ_=>?_⟩⟩
   obtain⟨b,n,bs,A,F,C,E⟩:=G.obj k _ m
   have u:cb.w=w:=d.w
   refine⟨b,n,bs,?_,by rw[u];exact F,z (d.ext H) C,Y d E⟩
   rw[d.keys i k ((r1.trans H).keys i k g)];exact A
  | _=>simp[Ac]at h
 | mp M kt' vt' c'=>
  simp only at h
  rw[Ab]at h
  obtain⟨o,_,_,I,j,h,rfl⟩:=h
  rw[Bp]at j
  obtain⟨m,rfl,rfl⟩:=j
  cases o with
  | mp t kt vt c=>
   simp only[Ab,Af]at h
   obtain⟨_,_,_,_,⟨y,rfl,rfl⟩,h,rfl⟩:=h
   simp only[aD,beq_iff_eq]at y
   obtain⟨⟨rfl,rfl⟩,rfl⟩:=y
   obtain⟨rfl,rfl,r1,r2,z⟩:=Dk h
   refine⟨rfl,rfl,r1,r2,λcb d _=>⟨k,_,r1.keys i k g,m,rfl,λ_=>?_⟩⟩
   obtain⟨r,cl,ents,ivs,A,F,C,E,J,L⟩:=G.obj k _ m
   have q:cb.P=P:=d.P
   have u:cb.w=w:=d.w
   refine⟨r,cl,ents,ivs,?_,by rw[u];exact F,by rw[q];exact C,by rw[q];exact E,z d J,L.imp λ_ _ _ h'=>?_⟩
   ·rw[d.keys i k (r1.keys i k g)];exact A
   ·have h':=d.rel h'
    exact h'
  | _=>simp[Ac]at h
theorem Bah.ext {o':Ob}{a:Nat}{ob:Nat->Option Ob}(h:Bah cb ob B a o')(x:Ext B B'):Bah cb ob B' a o':=λb=>
 let ⟨k,o,c,d,e,g⟩:=h b; ⟨k,o,x.keys a k c,d,e,g⟩
theorem Zh (G:Good P N X ρ K S.tm (cur S es.obs) μ a w): ∀ {obl:List (Nat × Ob)} {B B':Bind} {es':ES} {ls:List PLt},Ev S (Vp P B obl) es B' es' ls->
  es=es'/\ls= []/\Ext B B'/\B'.keys=B.keys/\ ∀cb,Compat B' (Bh P X ρ (cur S es.obs) μ w) cb-> ∀p∈obl,Bah cb (cur S es.obs) B' p.1 p.2
 | [],B,B',es',ls,h=>by
  unfold Vp at h
  rw[Ad]at h
  obtain⟨rfl,rfl,rfl⟩:=h
  exact⟨rfl,rfl,.refl _,rfl,λcb _ p hp=>by cases hp⟩
 | (q,o')::r,B,B',es',ls,h=>by
  unfold Vp at h
  simp only[Ab,Ao]at h
  obtain⟨k,_,_,_,⟨d,rfl,rfl⟩,⟨B1,e1,t,u,e,g,rfl⟩,rfl⟩:=h
  obtain⟨rfl,rfl,x1,i,j⟩:=Aid G e d
  obtain⟨rfl,rfl,b,m,o⟩:=Zh G g
  refine⟨rfl,rfl,x1.trans b,m.trans i,λcb c p hp=>?_⟩
  rcases aI.1 hp with rfl | hp
  ·exact(j cb (c.ext b)).ext b
  ·exact o cb c p hp
theorem Ww {b:Bind} : ∀ {n:Nat} {as:List Arg},Y4 b n=some as->as.length=n/\ ∀i y,i<n->G7 i b.args=some y->as[i]?=some y
 | 0,as,h=>by
  simp only[Y4,aB]at h
  subst h;exact⟨rfl,λi y g=>by omega⟩
 | n+1,as,h=>by
  unfold Y4 at h
  cases c:Y4 b n with
  | none=>simp[c]at h
  | some as1=>
   cases d:G7 n b.args with
   | none=>simp[c,d]at h
   | some o=>
    simp only[c,d,aB]at h
    subst h
    obtain⟨e,j⟩:=Ww c
    refine⟨by simp[e],λi y g a=>?_⟩
    by_cases m:i<n
    ·rw[aS (by omega)];exact j i y m a
    ·have:i=n:=by omega
     subst this
     rw[d]at a;injection a with a;subst a
     rw[aL (by omega),e];simp
theorem Af2: ∀ {as:List Arg} {vs:List IV},aR ρ as=some vs->vs.length=as.length/\ ∀ (i:Nat) (y:Arg),as[i]?=some y-> ∃v,vs[i]?=some v/\y.ev ρ=some v
 | [],vs,h=>by
  simp only[aR,aB]at h
  subst h;exact⟨rfl,by simp⟩
 | a::as,vs,h=>by
  unfold aR at h
  cases b:a.ev ρ with
  | none=>simp[b]at h
  | some v=>
   cases c:aR ρ as with
   | none=>simp[b,c]at h
   | some r=>
    simp[b,c]at h
    subst h
    obtain⟨e,g⟩:=Af2 c
    refine⟨by simp[e],λi y d=>?_⟩
    cases i with
    | zero=>simp at d;subst d;exact⟨v,rfl,b⟩
    | succ i=>exact g i y (by simpa using d)
theorem Sd {t:Nat} : ∀ {l:List (Nat × SV)},(Hz t l=nothing/\ ∀p∈l,p.1≠t)\/(t,Hz t l)∈l
 | []=> .inl ⟨rfl,by simp⟩
 | (b,v)::r=>by
  unfold Hz
  by_cases h:b=t
  ·subst h;right;simp
  ·have:(b == t)=false:=by simpa using h
   simp only[this,aE,Zf]
   rcases Sd (t:=t) (l:=r) with⟨a,c⟩ | a
   ·left
    refine⟨a,λp hp=>?_⟩
    rcases aI.1 hp with rfl | hp
    ·exact h
    ·exact c p hp
   ·right;exact aJ _ a
theorem Qx {k:Nat}{o:Ob} : ∀ {l:List (Nat × Ob)},Oi k l=some o->(k,o)∈l
 | [],h=>by simp[Oi]at h
 | (a,o')::r,h=>by
  unfold Oi at h
  by_cases b:a=k
  ·subst b;simp at h;subst h;simp
  ·have:(a == k)=false:=by simpa using b
   simp only[this,aE,Zf]at h
   exact aJ _ (Qx h)
theorem A9c {t:St}{as:List Arg}{vs:List IV}(G:Good P N X ρ K S.tm (cur S es.obs) μ a w){backs:List Nat}(h:Ev S (uSt P backs t) es as es' ls)(H:LH R ρ ls)(hg:holds ρ es.gs=some true)(T: ∀k,es.m<=k-> ¬ K k)(Y:aR ρ as=some vs):
  ∃μ',Good P N X vs (· <t.m) t.view.tm t.view.ob μ' a w/\(∀b,Wr t.view.ob μ' b->Wr (cur S es.obs) μ b)/\ ∀k∈backs,k<t.m/\(K k->μ' k=μ k):=by
 unfold uSt at h
 simp only[Ab,Af,Ao]at h
 obtain⟨_,_,_,_,⟨g0,rfl,rfl⟩,⟨B1,e1,l1,_,g,⟨B2,I,l2,_,A,⟨B3,e3,l3,_,F,⟨_,_,_,_,⟨g1,rfl,rfl⟩,⟨_,_,_,_,⟨g2,rfl,rfl⟩,⟨Z,rfl,rfl⟩,rfl⟩,rfl⟩,rfl⟩,rfl⟩,rfl⟩,rfl⟩:=h
 have H:=H.right
 have hU:=(Aej G g H.left hg ⟨λd k h=>by simp[findKey]at h,λk1 k2 k h=>by simp[findKey]at h⟩ T).then λμ1 j b1=>Yo j.Cj A H.right.left (by rw[j.gs];exact hg) b1 (Ie T j.m)
 obtain⟨μ2,j,x,b2,hc⟩:=hU
 obtain⟨rfl,rfl,x3,y3,c3⟩:=Zh j.Cj F
 have b3:BOk B3 (As K es.m I.m):=b2.Qp y3
 obtain⟨z1,z2⟩:=Ww Z
 obtain⟨z3,z4⟩:=Af2 Y
 -- the block's keys
 let μb:Nat->Value:=λd=>match findKey d B3.keys with | some k=>μ2 k | none=>undef
 have hμb: ∀d k,findKey d B3.keys=some k->μb d=μ2 k:=λd k h=>by simp only[μb,h]
 refine⟨μb,?_⟩
 have J: ∀ (i:Nat) (y:Arg) (iv:IV),G7 i B3.args=some y->y.ev ρ=some iv->vs[i]?=some iv:=by
  intro i y iv hf hy
  have hi:i<t.n:=by
   have: ∀ {l:List (Nat × Arg)},(l.all λp=>decide (p.1<t.n))=true->G7 i l=some y->i<t.n:=by
    intro l H
    induction l with
    | nil=>simp[G7]
    | cons p l ih=>
     obtain⟨q,r⟩:=p
     simp only[cQ,aD,decide_eq_true_eq]at H
     unfold G7
     by_cases hq:q=i
     ·intro _;rw[<-hq];exact H.1
     ·have:(q == i)=false:=by simpa using hq
      simp only[this,aE,Zf]
      exact ih H.2
   exact this g1 hf
  obtain⟨v,B,z⟩:=z4 i y (z2 i y hi hf)
  rw[hy]at z;injection z with z;subst z;exact B
 have comp: ∀ (O W:Nat->Prop),(∀b,O b->X b\/Wr (cur S I.obs) μ2 b)->(∀b,W b->Wr (cur S I.obs) μ2 b)->Compat B3 (Bh P X ρ (cur S I.obs) μ2 w) {P,ρ:=vs,μ:=μb,w,O,W} :=λO W hO hW=>
  ⟨rfl,rfl,J,hμb,λb _ h=>hO b h,λb _ h=>hW b h⟩
 have Bdv:=c3 _ (comp (λ_=>False) (λ_=>False) (λ_ h=>h.elim) (λ_ h=>h.elim))
 have u: ∀d o',t.view.ob d=some o'->o'.Ea=true-> ∃k o,findKey d B3.keys=some k/\cur S I.obs k=some o/\o.Ea=true:=by
  intro d o' g A
  obtain⟨k,o,B,z,U,_⟩:=Bdv (d,o') (Qx g) A
  exact⟨k,o,B,z,U⟩
 have L: ∀b,Wr t.view.ob μb b->Wr (cur S I.obs) μ2 b:=by
  rintro b ⟨d,o',g,A,F⟩
  obtain⟨k,o,B,z,U⟩:=u d o' g A
  rw[hμb d k B]at F
  exact⟨k,o,z,U,F⟩
 have C:Compat B3 (Bh P X ρ (cur S I.obs) μ2 w) (Bh P X vs t.view.ob μb w):=comp _ _ (λb h=>h.imp id (L b)) L
 obtain⟨s1,s2⟩:=hc _ (C.ext x3)
 have own1:=c3 _ C
 simp only[stOk,aD,aY]at g0
 obtain⟨gt,go⟩:=g0
 refine⟨⟨G.size,G.defers,λs=>?_,λd o' h=>?_,λk1 k2 o1 o2 b g A F Z h5 h6=>?_,λd o' b g A F=>?_,G.xlt,λs k M=>?_,λd o' h=>?_⟩,λb hb=>j.wr b (L b hb),λk M=>?_⟩
 ·rcases Sd (t:=s) (l:=t.tm) with⟨g,_⟩ | g
  ·show Ap2 _ (Hz s t.tm) _
   rw[g]
   exact⟨true,rfl,λ_=>trivial,λh=>by cases h⟩
  ·exact s1 _ g
 ·have Q:=Qx h
  cases o' with
  | box ty vv=>exact s2 _ Q
  | frz e ty x=>exact s2 _ Q
  | arr e ty x=>
   obtain⟨k,o,_,_,_,q⟩:=own1 _ Q rfl
   exact q (λ_ _ h=>by cases h)
  | iter s p=>
   obtain⟨k,o,_,_,_,q⟩:=own1 _ Q rfl
   exact q (λ_ _ h=>by cases h)
  | mp t kt vt c=>
   obtain⟨k,o,_,_,_,q⟩:=own1 _ Q rfl
   exact q (λ_ _ h=>by cases h)
 ·obtain⟨B,p1,r1,r2,r3⟩:=u k1 o1 g F
  obtain⟨z,p2,t1,t2,t3⟩:=u k2 o2 A Z
  rw[hμb k1 B r1]at h5
  rw[hμb k2 z t1]at h6
  have:=j.Cj.sep B z p1 p2 b r2 t2 r3 t3 h5 h6
  subst this
  exact b3.inj k1 k2 B r1 t1
 ·obtain⟨k,o,B,z,U⟩:=u d o' g A
  rw[hμb d k B]at F
  exact j.Cj.xsep k o b z U F
 ·rcases Sd (t:=s) (l:=t.tm) with⟨g,_⟩ | g
  ·have M:k∈Ca (Hz s t.tm).x :=M
   rw[g]at M;simp[nothing,Ca,Ax,A5]at M
  ·exact M7 (gt _ g).1 k M
 ·have Q:=Qx h
  have:=go _ Q
  simp only[decide_eq_true_eq]at this
  refine⟨this.1,λk2 E=>?_⟩
  cases o' with
  | box ty vv=>
   have A:=this.2
   exact M7 (x:= .one vv) A k2 E
  | arr=>cases E
  | iter=>cases E
  | mp=>cases E
  | frz=>cases E
 ·rw[aY]at g2
  have:=g2 k M
  simp only[aD,beq_iff_eq,decide_eq_true_eq]at this
  exact⟨this.2,λhK=>(hμb k k this.1).trans (j.keep k hK)⟩
end
end Go.CT
namespace Go.CT
open EM
section
variable (P:Program)
def Aq1 (v:ResultVar):EM VV:=do
 match v with
 | .tmp t=>do
  let s <-Ac8 t
  cR s.gs.isEmpty
  match s.x with
  | .one v=>pure v
  | _=>fail
 | .cell a t=>do
  let s <-Ac8 a
  cR s.gs.isEmpty
  match s.x with
  | .one (.leaf (.ptr p))=>Atj P p t
  | _=>fail
def Vb:List ResultVar->EM (List VV)
 | []=>pure []
 | v::vs=>do
  let x <-Aq1 P v
  let xs <-Vb vs
  pure (x::xs)
def Asp (r:RS)(v:VV):EM (List Arg):=
 match r with
 | .whole t=>do
  let x <-Im P true t v
  pure [x]
 | .cells t own=>do
  cR (Ke P t v)
  let ts <-ofOption (leaves P t)
  let cs <-Mu P v
  D9 P true own ts cs
 | .skip =>pure []
 | .clip _=>fail
 | .strict t=>
  match v with
  | .leaf (.nil _)=>do
   cR (Cr P t).isSome
   pure [.k (.list [])]
  | v=>do
   cR (Cr P t).isSome
   let x <-Im P true t v
   let _ <-Bv .index [x,.k (.int 0)]
   pure [x]
 | .nbox t own=>do
  let r <-Pr P true [.box t own] [v]
  pure r.1
 | .clo f bxs=>
  match Ag0 v with
  | some gc=>do
   cR (f == gc.1)
   let r <-Pr P true (bxs.map λb=> .box b.1 b.2) (gc.2.map An8)
   pure r.1
  | none=>fail
def Ws:List RS->List VV->EM (List Arg)
 | [],[]=>pure []
 | r::rs,v::vs=>do
  let a <-Asp P r v
  let as <-Ws rs vs
  pure (a++as)
 | _,_=>fail
structure FnC where
 rs:List RS
 vars:List ResultVar
 bps:List PS
 bks:List Nat
def A2n (p:PS)(k:Nat):VV:=
 match p with
 | .arr t=> .leaf (.ref k t)
 | _=> .leaf (.ptr (.p k 0))
def Oy:List PS->List Nat->List VV
 | p::a,k::ks=>A2n p k::Oy a ks
 | _,_=> []
def Bbt (F:FnC):EM (List Arg):=do
 bare
 let vs <-Vb P F.vars
 let a <-Ws P F.rs vs
 let b <-Pr P true F.bps (Oy F.bps F.bks)
 pure (a++b.1)
end
section
variable {P:Program}{N:Nat}{X:Nat->Prop}{R:Job->List IV->Option (List IV)}{ρ:List IV}{K:Nat->Prop}{S:View}{μ:Nat->Value}{a:Act}{w w':World}{es es' e1:ES}{ls:List PLt}{sx:SX}
def M8 (tmps:Array Value):ResultVar->Sem Value
 | .tmp t=>pure (tmps.getD t undef)
 | .cell a t=>do loadVar t (<-asAddr (tmps.getD a undef))
theorem At4 {v:ResultVar}{vv:VV}(G:Good P N X ρ K S.tm (cur S es.obs) μ a w)(h:Ev S (Aq1 P v) es vv es' ls)(q:LH R ρ ls)(y:holds ρ es.gs=some true):
  ∃u,(M8 a.tmps v).run P w= .ok u w/\(∃n,es'= {es with n})/\K0 (Bh P X ρ (cur S es.obs) μ w) vv u/\ ∀k∈Ax vv,K k:=by
 unfold Aq1 at h
 cases v with
 | tmp t=>
  simp only[Ab,K8,Af]at h
  obtain⟨s,_,_,_,⟨rfl,rfl,rfl⟩,⟨_,_,_,_,⟨g,rfl,rfl⟩,h,rfl⟩,rfl⟩:=h
  have d:=(G.slot t).use (by rw[dH.1 g];rfl)
  have m:=G.kt t
  split at h
  ·rename_i v j
   rw[Ad]at h
   obtain⟨rfl,rfl,rfl⟩:=h
   rw[j]at d m
   exact⟨_,rfl,⟨es.n,rfl⟩,d,m⟩
  ·simp[Ac]at h
 | cell b t=>
  simp only[Ab,K8,Af]at h
  obtain⟨s,_,_,_,⟨rfl,rfl,rfl⟩,⟨_,_,_,_,⟨g,rfl,rfl⟩,h,rfl⟩,rfl⟩:=h
  have d:=(G.slot b).use (by rw[dH.1 g];rfl)
  split at h
  ·rename_i p j
   rw[j]at d
   have d:Ab7 (Bh P X ρ (cur S es.obs) μ w) p (a.tmps.getD b undef):=d
   obtain⟨u,o,z,A,B⟩:=Ai6 G h (by simpa using q) y d
   refine⟨u,?_,z,A,B⟩
   have c: ∃ad,a.tmps.getD b undef= .pointer (some ad):=by
    cases p with
    | p k off=>obtain⟨b,_,r⟩:=d;exact⟨_,r⟩
    | el k e i off=>obtain⟨_,_,_,_,_,_,_,r⟩:=d;exact⟨_,r⟩
    | im x t off=>obtain⟨_,_,_,_,_,_,r⟩:=d;exact⟨_,r⟩
   obtain⟨ad,c⟩:=c
   rw[c]at o
   simp only[M8,c]
   simpa [Instr.loadAt,Instr.sureAddr,asAddr]using o
  ·simp[Ac]at h
theorem Yg: ∀ {vars:List ResultVar} {vvs:List VV} {es es':ES} {ls:List PLt},Good P N X ρ K S.tm (cur S es.obs) μ a w->Ev S (Vb P vars) es vvs es' ls->LH R ρ ls->holds ρ es.gs=some true->
  ∃us,(vars.mapM (M8 a.tmps)).run P w= .ok us w/\(∃n,es'= {es with n})/\Eh (Bh P X ρ (cur S es.obs) μ w) vvs us/\ ∀k∈vvs.flatMap Ax,K k
 | [],vvs,es,es',ls,G,h,c,d=>by
  unfold Vb at h
  rw[Ad]at h
  obtain⟨rfl,rfl,rfl⟩:=h
  exact⟨[],by simp,⟨es.n,rfl⟩,trivial,by simp⟩
 | v::vars,vvs,es,es',ls,G,h,c,d=>by
  unfold Vb at h
  simp only[Ab]at h
  obtain⟨x,e1,z,_,g,⟨xs,A,B,_,i,e,rfl⟩,rfl⟩:=h
  rw[Ad]at e
  obtain⟨rfl,rfl,rfl⟩:=e
  obtain⟨u,j,⟨m,rfl⟩,o,q⟩:=At4 G g c.left d
  obtain⟨us,r1,⟨r,rfl⟩,t,y⟩:=Yg (es:= {es with n:=m}) G i c.right.left d
  refine⟨u::us,?_,⟨r,rfl⟩,⟨o,t⟩,λk b=>?_⟩
  ·rw[cL,Sem.run_bind,j]
   simp only[Result.andThen_ok,Sem.run_bind,r1,Sem.run_pure]
  ·rw[bC]at b
   rcases aK.1 b with b | b
   ·exact q k b
   ·exact y k b
theorem Rx {O Lt:Nat->Prop} : ∀ {bs:List (TypeId × List Bool)} {xs:List IV} {vs:List Value} {L:List Nat},D0 P w O Lt (bs.map λb=> .box b.1 b.2) xs vs L->Ig P w O bs xs vs L
 | [],_,[],_,h=>h
 | b::bs,_,_::_,_,h=>by
  obtain⟨ys,zs,L1,L2,a,c,d,e⟩:=h
  exact⟨ys,zs,L1,L2,a,c,d,Rx e⟩
 | [],_,_::_,_,h=>h.elim
 | _::_,_,[],_,h=>h.elim
theorem Asl {r:RS}{vv:VV}{v:Value}{as:List Arg}(G:Good P N X ρ K S.tm (cur S es.obs) μ a w)(h:Ev S (Asp P r vv) es as es' ls)(d:LH R ρ ls)(y:holds ρ es.gs=some true)
  (C: ∀k∈Ax vv,K k) (z:K0 (Bh P X ρ (cur S es.obs) μ w) vv v):
  ∃xs L,aR ρ as=some xs/\Nu P N X ρ K S μ a w L es es'/\Wx P w (Auc true X L (cur S es'.obs) μ) r xs v L:=by
 unfold Asp at h
 cases r with
 | whole t=>
  simp only[Ab,Ad]at h
  obtain⟨x,e1,H,_,q,⟨rfl,rfl,rfl⟩,rfl⟩:=h
  obtain⟨B,p2,I⟩:=D6 G q (by simpa using d) y C z
  obtain⟨iv,i,o⟩:=I rfl
  exact⟨[iv],[],Ey i rfl,B.Ab5,iv,rfl,rfl,o.weaken λb _ J=>by simpa [Bh]using J.2⟩
 | clip t=>simp[Ac]at h
 | strict t=>
  simp only at h
  split at h
  ·simp only[Ab,Af,Ad]at h
   obtain⟨_,_,_,_,⟨u,rfl,rfl⟩,⟨rfl,rfl,rfl⟩,rfl⟩:=h
   obtain⟨e,M⟩:=bW.1 u
   have Q:v= .slice none 0 0:=z
   subst Q
   exact⟨[.list []],[],rfl,(dX G).Ab5,_,rfl,rfl,(Row.nil e none 0).rel (Be M),[],none,0,rfl,rfl,λ_=>rfl⟩
  ·simp only[Ab,Af,Bi,Ad]at h
   obtain⟨_,_,_,_,⟨u,rfl,rfl⟩,⟨x,e1,H,_,q,⟨_,_,_,_,⟨rfl,rfl,rfl⟩,⟨rfl,rfl,rfl⟩,rfl⟩,rfl⟩,rfl⟩:=h
   obtain⟨e,M⟩:=bW.1 u
   have d:=d.right
   obtain⟨B,p2,I⟩:=D6 G q d.left y C z
   obtain⟨iv,i,o⟩:=I rfl
   have ac:x.ev ρ=some iv:=i
   obtain⟨ys,A,cap,rfl,rfl,ab⟩:=o.Cl (Be M)
   have T:holds ρ e1.gs=some true:=by rw[B.gs];exact y
   obtain⟨vs0,y0,U,Y,_⟩:=LH.Bv d.right.left T
   obtain⟨Z,s2⟩:=N0 (j:=0) i rfl U Y
   have E:=toNat_lt Z s2
   refine⟨[.list ys],[],Ey i rfl,?_,_,rfl,rfl,o.weaken λb _ J=>by simpa [Bh]using J.2,ys,A,cap,rfl,rfl,λh=>?_⟩
   ·exact(Ph.mk (es':= {e1 with n:=e1.n+1}) B.Cj B.Dv B.m B.gs).Ab5
   ·subst h;simp at E
 | nbox t bs=>
  simp only[Ab,Ad]at h
  obtain⟨r,e1,H,_,q,⟨rfl,rfl,rfl⟩,rfl⟩:=h
  obtain⟨xs,L,i,o,q3,_⟩:=Qr (us:= [v]) G q d.left y (by simpa using C) ⟨z,trivial⟩ (.inr rfl)
  exact⟨xs,L,i,o,Rx (bs:= [(t,bs)]) q3⟩
 | clo f bs=>
  simp only at h
  split at h
  ·rename_i gc F
   obtain⟨g,caps,rfl⟩: ∃g caps,vv= .leaf (.fn g caps):=by
    unfold Ag0 at F
    split at F
    ·exact⟨_,_,rfl⟩
    ·cases F
   simp only[Ag0,aB]at F
   subst F
   simp only[Ab,Af,Ad]at h
   obtain⟨_,_,_,_,⟨u,rfl,rfl⟩,⟨r,e1,H,_,q,⟨rfl,rfl,rfl⟩,rfl⟩,rfl⟩:=h
   have u:f=g:=by simpa using u
   subst u
   obtain⟨cs,rfl,aa⟩:=z
   obtain⟨xs,L,i,o,q3,_⟩:=Qr G q d.right.left y (by rw[Qz];exact C) aa.Qq (.inr rfl)
   exact⟨xs,L,i,o,cs,rfl,Rx q3⟩
  ·simp[Ac]at h
 | skip=>
  simp only[Ad]at h
  obtain⟨rfl,rfl,rfl⟩:=h
  exact⟨[],[],rfl,(dX G).Ab5,rfl,rfl⟩
 | cells t bs=>
  simp only[Ab,Af,Ao]at h
  obtain⟨_,_,_,_,⟨u,rfl,rfl⟩,⟨ts,_,_,_,⟨h2,rfl,rfl⟩,⟨cs,e1,H,_,q,h3,rfl⟩,rfl⟩,rfl⟩:=h
  have d:=d.right.right
  obtain⟨f1,f2,f3⟩:=Abl (c:=Bh P X ρ (cur S es.obs) μ w) u z
  obtain⟨⟨n1,rfl⟩,i,o⟩:=I6 q d.left y C z
  have p:Ph P N X ρ K S μ a w es {es with n:=n1} := .same G rfl rfl rfl
  obtain⟨xs,L,Z,s2,s3⟩:=Lc (es:= {es with n:=n1}) G h3 d.right y o i
  have:=p.Ab5.trans (s2.congr λb=>by simp)
  exact⟨xs,L,Z,by simpa using this,ts,h2,f1,f2,s3⟩
theorem Afq: ∀ {rs:List RS} {vvs:List VV} {X:Nat->Prop} {es es':ES} {as:List Arg} {ls:List PLt} {us:List Value},Good P N X ρ K S.tm (cur S es.obs) μ a w->Ev S (Ws P rs vvs) es as es' ls->LH R ρ ls->
  holds ρ es.gs=some true->(∀k∈vvs.flatMap Ax,K k)->Eh (Bh P X ρ (cur S es.obs) μ w) vvs us->
  ∃xs L,aR ρ as=some xs/\Nu P N X ρ K S μ a w L es es'/\Hs P w (Auc true X L (cur S es'.obs) μ) rs xs us L
 | [],[],X,es,es',as,ls,us,G,h,d,e,g,c=>by
  unfold Ws at h
  rw[Ad]at h
  obtain⟨rfl,rfl,rfl⟩:=h
  cases us with
  | cons=>exact c.elim
  | nil=>exact⟨[],[],rfl,(dX G).Ab5,rfl,rfl⟩
 | r::rs,vv::vvs,X,es,es',as,ls,us,G,h,d,e,g,c=>by
  cases us with
  | nil=>exact c.elim
  | cons u us=>
   unfold Ws at h
   simp only[Ab]at h
   obtain⟨r1,e1,I,_,y,⟨r2,z,J,_,A,q,rfl⟩,rfl⟩:=h
   rw[Ad]at q
   obtain⟨rfl,rfl,rfl⟩:=q
   have i: ∀k∈vvs.flatMap Ax,K k:=λk o=>g k (by rw[bC];exact bA _ o)
   obtain⟨xs,L1,B,m,C⟩:=Asl G y d.left e (λk o=>g k (by rw[bC];exact bM _ o)) c.1
   obtain⟨ys,L2,E,t,F⟩:=Afq m.Cj A d.right.left (by rw[m.gs];exact e) i (m.later.Qq i c.2)
   refine⟨xs++ys,L1++L2,E2 B E,m.trans t,xs,ys,L1,L2,rfl,rfl,?_,F.weaken λb x j=>⟨j.1,by simpa [or_assoc]using j.2⟩⟩
   have H: ∀b,b<w.heap.size->Auc true X (L1++L2) (cur S z.obs) μ b->Auc true X L1 (cur S e1.obs) μ b:=λb x j=>⟨j.1,t.later.O b x (by simpa [Bh,or_assoc]using j.2)⟩
   exact Wx.weaken C H
 | [],_::_,X,es,es',as,ls,us,G,h,d,e,g,c=>by simp[Ws,Ac]at h
 | _::_,[],X,es,es',as,ls,us,G,h,d,e,g,c=>by simp[Ws,Ac]at h
def Kn (p:PS)(v:Value):Prop:=
 match p with
 | .arr _=> ∃A n cap,v= .slice A n cap
 | _=> ∃b,v= .pointer (some ⟨b,0,none⟩)
structure Aoa (F:FnC)(ps:List PS)(args bvs:List Value)(μ:Nat->Value):Prop where
 bps:F.bps=ps.filter dF
 sel: ∀ {P:Program} {w:World} {O:Nat->Prop} {xs:List IV} {L:List Nat},D0 P w O (λ_=>False) F.bps xs bvs L->B4 P w O ps xs args L
 len:F.bks.length=bvs.length/\F.bps.length=bvs.length
 hdr: ∀ (i k:Nat) (v:Value),F.bks[i]?=some k->bvs[i]?=some v->μ k=v
 shape: ∀ (i:Nat) (p:PS) (v:Value),F.bps[i]?=some p->bvs[i]?=some v->Kn p v
theorem T0 {c:Cx} : ∀ {e:List PS} {ks:List Nat} {vs:List Value},ks.length=vs.length->e.length=vs.length->(∀ (i k:Nat) (v:Value),ks[i]?=some k->vs[i]?=some v->c.μ k=v)->
  (∀ (i:Nat) (p:PS) (v:Value),e[i]?=some p->vs[i]?=some v->Kn p v)->Eh c (Oy e ks) vs
 | [],[],[],_,_,_,_=>trivial
 | p::e,k::ks,v::vs,m,o,g,j=>by
  refine⟨?_,T0 (by simpa using m) (by simpa using o) (λi k v a b=>g (i+1) k v (by simpa using a) (by simpa using b)) (λi k v a b=>j (i+1) k v (by simpa using a) (by simpa using b))⟩
  have e1:=g 0 k v rfl rfl
  have d:=j 0 p v rfl rfl
  cases p with
  | arr t=>exact⟨e1.symm,d⟩
  | data t=>obtain⟨b,rfl⟩:=d;exact⟨b,e1,by rw[A6]⟩
  | own t=>obtain⟨b,rfl⟩:=d;exact⟨b,e1,by rw[A6]⟩
  | box t bs=>obtain⟨b,rfl⟩:=d;exact⟨b,e1,by rw[A6]⟩
  | fn f ts=>obtain⟨b,rfl⟩:=d;exact⟨b,e1,by rw[A6]⟩
  | fnb f n=>obtain⟨b,rfl⟩:=d;exact⟨b,e1,by rw[A6]⟩
  | rd t=>obtain⟨b,rfl⟩:=d;exact⟨b,e1,by rw[A6]⟩
  | bld t bk=>obtain⟨b,rfl⟩:=d;exact⟨b,e1,by rw[A6]⟩
 | [],_::_,[],h,_,_,_=>by simp at h
 | [],_,_::_,_,h,_,_=>by simp at h
 | _::_,[],_::_,h,_,_,_=>by simp at h
 | _::_,_,[],_,h,_,_=>by simp at h
theorem S7: ∀ {b:List PS} {ks:List Nat},(∀k∈ks,K k)-> ∀k∈(Oy b ks).flatMap Ax,K k
 | [],_,_,k,a=>by simp[Oy]at a
 | _::_,[],_,k,a=>by simp[Oy]at a
 | p::b,q::ks,h,k,a=>by
  simp only[Oy,bC,aK]at a
  rcases a with a | a
  ·have:k=q:=by cases p<;>simpa [A2n,Ax,A5,Di]using a
   rw[this];exact h q bP
  ·exact S7 (λk h'=>h k (aJ _ h')) k a
theorem A67 {F:FnC}{s:Spec}{args bvs:List Value}{as:List Arg}{rs:List IV}{L0:List Nat}{w0:World}{H:Nat->Prop}{hd:Nat->Value}(x:F.rs=s.results)(i:Aoa F s.params args bvs μ)(y: ∀k∈F.bks,K k)(FS0:FS P N X ρ K S.tm (cur S es.obs) μ a w (· ∈L0) w0 H hd)
  (h:Ev S (Bbt P F) es as es' ls) (j:LH R ρ ls) (g:aR ρ as=some rs):
  ∃v,(F.vars.mapM (M8 a.tmps)).run P w= .ok v w/\Ty P X s args L0 rs w0 (packed v) w:=by
 unfold Bbt at h
 rw[Ab]at h
 obtain⟨_,_,_,_,r,h,rfl⟩:=h
 rw[Dh]at r
 obtain⟨z,rfl,rfl⟩:=r
 have m:holds ρ es.gs=some true:=by rw[z];rfl
 simp only[Ab]at h
 obtain⟨vvs,e1,Y,_,A,⟨Z,B,l2,_,C,⟨b1,e3,l3,_,E,t,rfl⟩,rfl⟩,rfl⟩:=h
 rw[Ad]at t
 obtain⟨rfl,rfl,rfl⟩:=t
 have j:=j.right
 have G:=FS0.Cj
 obtain⟨us,I,⟨J,rfl⟩,L,M⟩:=Yg G A j.left m
 obtain⟨xs,L1,r1,r2,Q⟩:=Afq (es:= {es with n:=J}) G C j.right.left m M L
 have o:=T0 (c:=Bh P (λb=>X b\/b∈L1) ρ (cur S B.obs) μ w) i.len.1 i.len.2 i.hdr i.shape
 obtain⟨ys,L2,T,u,U,_⟩:=Qr r2.Cj E j.right.right.left (by rw[r2.gs];exact m) (S7 y) o (.inr rfl)
 rw[E2 r1 T]at g
 injection g with g
 subst g
 have d:=r2.trans u
 refine⟨us,I,FS0.step,us,xs,ys,L1,L2,rfl,rfl,d.nodup,λb q=>FS0.own b (d.own b q),?_,i.sel ?_⟩
 ·rw[<-x]
  refine Q.weaken λb q e=>⟨rfl,?_⟩
  rcases e with e | e
  ·exact .inl (.inl e)
  ·rcases aK.1 e with e | e
   ·exact .inl (.inr e)
   ·exact .inr (u.own b e)
 ·refine U.weaken λb q e=>⟨rfl,?_⟩
  rcases e with e | e
  ·exact .inl (.inl (.inl e))
  ·rcases aK.1 e with e | e
   ·exact .inl (.inl (.inr e))
   ·exact .inl (.inr e)
end
end Go.CT
namespace Go.CT
open EM
def child (b:Bool):Code->Option Code
 | .seq x y=>some (if b then y else x)
 | .cond _ x y=>some (if b then y else x)
 | .block _ c=>some c
 | .loop c=>some c
 | .scope c=>some c
 | _=>none
def Me (root:Code):List Bool->Option Code
 | []=>some root
 | b::p=>(Me root p).bind (child b)
inductive PI where
 | code (p:List Bool) (c:Code)
 | inBlock (id:Nat)
 | inLoop (p:List Bool) (body:Code)
 | inScope (p:List Bool) (body:Code)
 deriving Inhabited
def PI.item:PI->Item
 | .code _ c=> .code c
 | .inBlock id=> .inBlock id
 | .inLoop _ c=> .inLoop c
 | .inScope _ c=> .inScope c
abbrev Key:=Nat × Nat × List Bool
def PI.key:PI->Key
 | .code p _=>(0,0,p)
 | .inBlock id=>(1,id,[])
 | .inLoop p _=>(2,0,p)
 | .inScope p _=>(3,0,p)
def PI.ok (root:Code):PI->Prop
 | .code p c=>Me root p=some c
 | .inBlock _=>True
 | .inLoop p c=>Me root p=some c
 | .inScope p c=>Me root p=some c
def Ari (root:Code):Key->Option PI
 | (0,_,p)=>(Me root p).map (.code p)
 | (1,id,_)=>some (.inBlock id)
 | (2,_,p)=>(Me root p).map (.inLoop p)
 | (3,_,p)=>(Me root p).map (.inScope p)
 | _=>none
def Qt (root:Code):List Key->Option (List PI)
 | []=>some []
 | k::ks=>
  match Ari root k with
  | none=>none
  | some i=>
   match Qt root ks with
   | none=>none
   | some is=>some (i::is)
def S6 (id:Nat):List PI->Option (List PI)
 | .inBlock id'::k=>if id' == id then some k else S6 id k
 | _::k=>S6 id k
 | []=>none
structure Blk where
 key:List Key
 st:St
 deriving Inhabited
def R0 (key:List Key):List Blk->Nat->Option (Nat × Blk)
 | [],_=>none
 | b::bs,i=>if key == b.key then some (i,b) else R0 key bs (i+1)
def X9:List PLt->PT->PT
 | [],p=>p
 | l::ls,p=> .lets l.l (X9 ls p)
def chain:Nat->List PLt->Option Nat
 | n,[]=>some n
 | n,l::ls=>if l.n == n then chain (n+l.l.l.arity) ls else none
def Ads {α:Type}(st:St)(m:EM α):Option (α × List PLt):=
 match (m {n:=st.n,m:=st.m,gs:= [],obs:= []}).run st.view with
 | some ((x,_),lets,_,_)=>if(chain st.n lets).isSome then some (x,lets) else none
 | none=>none
section
variable (P:Program)(specs:List (Nat × Spec))(N:Nat)(F:FnC)(bs:List Blk)
def Ama (c:Operand):EM Arg:=do
 match <-rd1 P c (Axf P) with
 | .leaf (.at x t)=>do
  cR (isBool P t)
  pure x
 | _=>fail
def Z5 (st:St):Option PT:=
 match Ads st (Bbt P F) with
 | some (as,ls)=>some (X9 ls (.ret as))
 | none=>none
def A6u (o:Oper):Bool:=match o.op with | .panic _=>true | _=>false
def stuck:PT:= .lets ⟨[],.Bv .Afz [.k (.bool false)]⟩ (.ret [])
theorem Au1 {R:Job->List IV->Option (List IV)}{i:Nat}{ρ:List IV} :stuck.den R i ρ=none:=by
 simp[stuck,cJ,dB,holds,dJ,aR,dE,aF]
def comp:Nat->Bool->List PI->St->Option PT
 | 0,_,_,_=>none
 | k+1,first,todo,st=>
  match (if first then none else R0 (todo.map PI.key) bs 1) with
  | some (i,b)=>
   match Ads st (uSt P F.bks b.st) with
   | some (as,ls)=>some (X9 ls (.jump i as))
   | none=>none
  | none=>
   match todo with
   | []=>Z5 P F st
   | .inBlock _::r=>comp k false r st
   | .inScope _ _::r=>comp k false r st
   | .inLoop p c::r=>comp k false (.code p c:: .inLoop p c::r) st
   | .code p c::r=>
    match c with
    | .ret =>Z5 P F st
    | .skip =>comp k false r st
    | .label _=>comp k false r st
    | .seq a b=>comp k false (.code (false::p) a:: .code (true::p) b::r) st
    | .cond c a b=>
     match Ads st (Ama P c) with
     | some (x,ls)=>
      match comp k false (.code (false::p) a::r) st with
      | none=>none
      | some pa=>
       match comp k false (.code (true::p) b::r) st with
       | none=>none
       | some pb=>if ls.isEmpty then some (.ite x pa pb) else none
     | none=>none
    | .block id c=>comp k false (.code (false::p) c:: .inBlock id::r) st
    | .loop c=>comp k false (.code (false::p) c:: .inLoop (false::p) c::r) st
    | .scope c=>comp k false (.code (false::p) c:: .inScope (false::p) c::r) st
    | .exit id=>
     match S6 id r with
     | some d=>comp k false d st
     | none=>none
    | .region _ ops draw=>
     match Ts P specs N ops draw st with
     | none=>if ops.any A6u then some stuck else none
     | some (ls,st')=>
      if chain st.n ls == some st'.n then
       match comp k false r st' with
       | some q=>some (X9 ls q)
       | none=>none
      else none
    | _=>none
end
theorem Ym {root:Code} : ∀ {xs ys:List PI},(∀x∈xs,x.ok root)->(∀y∈ys,y.ok root)->xs.map PI.key=ys.map PI.key->xs.map PI.item=ys.map PI.item
 | [],[],_,_,_=>rfl
 | [],_::_,_,_,h=>by simp at h
 | _::_,[],_,_,h=>by simp at h
 | x::xs,y::ys,b,c,h=>by
  simp only[bS,dL]at h ⊢
  refine⟨?_,Ym (λz a=>b z (aJ _ a)) (λz a=>c z (aJ _ a)) h.2⟩
  have d:=b x bP
  have e:=c y bP
  have g:=h.1
  cases x<;>cases y<;>simp_all[PI.key,PI.ok,PI.item]
theorem Afl {root:Code} : ∀ {ks:List Key} {todo:List PI},Qt root ks=some todo->(∀x∈todo,x.ok root)/\todo.map PI.key=ks.map λk=>if k.1=1 then(1,k.2.1,[]) else(k.1,0,k.2.2)
 | [],todo,h=>by simp[Qt]at h;subst h;simp
 | k::ks,todo,h=>by
  unfold Qt at h
  cases a:Ari root k with
  | none=>simp[a]at h
  | some i=>
   cases d:Qt root ks with
   | none=>simp[a,d]at h
   | some is=>
    simp only[a,d,aB]at h
    subst h
    obtain⟨g,j⟩:=Afl d
    have:i.ok root/\i.key=if k.1=1 then(1,k.2.1,[]) else(k.1,0,k.2.2):=by
     obtain⟨kind,id,p⟩:=k
     unfold Ari at a
     split at a<;>simp_all
     ·rename_i heq
      obtain⟨c,b,rfl⟩:=a
      obtain⟨rfl,rfl,rfl⟩:=heq
      exact⟨b,rfl⟩
     ·rename_i heq
      obtain⟨rfl,rfl,rfl⟩:=heq
      subst a
      exact⟨trivial,rfl⟩
     ·rename_i heq
      obtain⟨c,b,rfl⟩:=a
      obtain⟨rfl,rfl,rfl⟩:=heq
      exact⟨b,rfl⟩
     ·rename_i heq
      obtain⟨c,b,rfl⟩:=a
      obtain⟨rfl,rfl,rfl⟩:=heq
      exact⟨b,rfl⟩
    refine⟨λx e=>?_,by simp only[bS,j,this.2]⟩
    rcases aI.1 e with rfl | e
    ·exact this.1
    ·exact g x e
theorem Xm {key:List Key} : ∀ {bs:List Blk} {j i:Nat} {b:Blk},R0 key bs j=some (i,b)-> ∃n,i=j+n/\bs[n]?=some b/\key=b.key
 | [],_,_,_,h=>by simp[R0]at h
 | b0::bs,j,i,b,h=>by
  unfold R0 at h
  split at h
  ·rename_i a
   simp only[aB,aV]at h
   obtain⟨rfl,rfl⟩:=h
   exact⟨0,rfl,rfl,by simpa using a⟩
  ·obtain⟨n,e,c,d⟩:=Xm h
   exact⟨n+1,by omega,by simpa using c,d⟩
section
variable {R:Job->List IV->Option (List IV)}{ρ:List IV}
def A88 (ρ ρ':List IV):Prop:= ∀ (n:Nat) (y:IV),ρ[n]?=some y->ρ'[n]?=some y
theorem Vq {ρ ρ':List IV}(h:A88 ρ ρ'): ∀ {as:List Arg} {vs:List IV},aR ρ as=some vs->aR ρ' as=some vs
 | [],vs,a=>a
 | x::as,vs,a=>by
  unfold aR at a
  cases b:x.ev ρ with
  | none=>simp[b]at a
  | some v=>
   cases c:aR ρ as with
   | none=>simp[b,c]at a
   | some r=>
    simp[b,c]at a
    subst a
    exact Ey (Arg.Ef h b) (Vq h c)
theorem An2 {ρ ρ':List IV}(h:A88 ρ ρ'){g:K1}{xs:List IV}(a:g.ev R ρ=some xs):g.ev R ρ'=some xs:=by
 unfold dB at a ⊢
 cases d:holds ρ g.gs with
 | none=>simp[d]at a
 | some b=>
  rw[O7 h d]
  simp only[d,aA]at a ⊢
  cases b with
  | false=>simpa using a
  | true=>
   simp only[Zt]at a ⊢
   unfold dJ at a ⊢
   cases e:g.l with
   | Bv p as=>
    simp only[e]at a ⊢
    cases c:aR ρ as with
    | none=>simp[c]at a
    | some vs=>rw[Vq h c];simpa [c]using a
   | call s as n=>
    simp only[e]at a ⊢
    cases c:aR ρ as with
    | none=>simp[c]at a
    | some vs=>rw[Vq h c];simpa [c]using a
theorem Axa {g:K1}{xs:List IV}(a:g.ev R ρ=some xs):xs.length=g.l.arity:=by
 unfold dB at a
 cases d:holds ρ g.gs with
 | none=>simp[d]at a
 | some b=>
  simp only[d,aA]at a
  cases b with
  | false=>simp at a;subst a;simp
  | true=>
   simp only[Zt]at a
   unfold dJ at a
   cases e:g.l with
   | Bv p as=>
    simp only[e]at a
    rw[aH]at a
    obtain⟨y,_,rfl⟩:=a
    rfl
   | call s as n=>
    simp only[e]at a
    rw[aC]at a
    obtain⟨rs,_,c⟩:=a
    split at c
    ·rename_i hlen;injection c with c;subst c;exact hlen
    ·cases c
theorem Tt {s:Nat}{p:PT}{r:List IV} : ∀ {ls:List PLt} {ρ:List IV} {n:Nat},(X9 ls p).den R s ρ=some r->chain ρ.length ls=some n-> ∃ρ',p.den R s ρ'=some r/\A88 ρ ρ'/\LH R ρ' ls/\ρ'.length=n
 | [],ρ,n,h,a=>by
  simp only[chain,aB]at a
  exact⟨ρ,h,λ_ _ h=>h,(λl o=>by cases o),a⟩
 | l::ls,ρ,n,h,a=>by
  unfold X9 at h
  unfold cJ at h
  rw[aC]at h
  obtain⟨xs,g,q⟩:=h
  have hlen:=Axa g
  unfold chain at a
  rw[aQ]at a
  obtain⟨e,a⟩:=a
  have e:l.n=ρ.length:=by simpa using e
  obtain⟨ρ',t,j,u,w⟩:=Tt (ρ:=ρ++xs) q (by rw[aP,hlen];exact a)
  have x:A88 ρ (ρ++xs):=λi y c=>by rw[aS (aT.1 c).1];exact c
  have e1:A88 ρ ρ':=λi y c=>j i y (x i y c)
  refine⟨ρ',t,e1,λm b=>?_,w⟩
  rcases aI.1 b with rfl | b
  ·refine⟨xs,An2 e1 g,λi c=>?_⟩
   have d:i<xs.length:=by rw[hlen];exact c
   have:(ρ++xs)[m.n+i]?=some xs[i]:=by
    rw[e,aL (by omega),Nat.add_sub_cancel_left]
    exact aZ d
   rw[j _ _ this,aZ d]
  ·exact u m b
end
end Go.CT
namespace Go.CT
open EM
section
variable {P:Program}{N:Nat}{X:Nat->Prop}{R:Job->List IV->Option (List IV)}{ρ:List IV}{μ:Nat->Value}{a:Act}{w:World}{specs:List (Nat × Spec)}{F:FnC}{bs:List Blk}{root:Code}{sidx:Nat}{s:Spec}
 {args bvs:List Value} {L0:List Nat} {w0:World} {hdv:Nat->Value}
theorem Aaz {α:Type}{st:St}{m:EM α}{x:α}{ls:List PLt}(h:Ads st m=some (x,ls)):(∃es',Ev st.view m {n:=st.n,m:=st.m,gs:= [],obs:= []} x es' ls)/\ ∃n,chain st.n ls=some n:=by
 unfold Ads at h
 cases a:(m {n:=st.n,m:=st.m,gs:= [],obs:= []}).run st.view with
 | none=>simp[a]at h
 | some q=>
  obtain⟨⟨y,es⟩,lets,sl,ks⟩:=q
  simp only[a]at h
  rw[aQ]at h
  obtain⟨b,h⟩:=h
  injection h with h
  simp only[aV]at h
  obtain⟨rfl,rfl⟩:=h
  exact⟨⟨es,sl,ks,a⟩,bW.1 b⟩
theorem Rel.Aql {O:Nat->Prop}{t:TypeId}{b:Bool}{v:Value}(h:Rel P w O t (.bool b) v):v= .bool b:=by
 cases h;rfl
theorem Aqr {K:Nat->Prop}{S:View}{es es':ES}{c:Operand}{x:Arg}{ls:List PLt}(G:Good P N X ρ K S.tm (cur S es.obs) μ a w)(h:Ev S (Ama P c) es x es' ls)(b:holds ρ es.gs=some true):
  ∃t iv,x.ev ρ=some iv/\Rel P w (Bh P X ρ (cur S es.obs) μ w).O t iv (a.eval c):=by
 unfold Ama at h
 rw[Ab]at h
 obtain⟨vv,e1,g,_,d,h,rfl⟩:=h
 obtain⟨rfl,rfl,e,i⟩:=E1 G d b
 split at h
 ·simp only[Ab,Af,Ad]at h
  obtain⟨_,_,_,_,⟨j,rfl,rfl⟩,⟨rfl,rfl,rfl⟩,rfl⟩:=h
  obtain⟨iv,r1,r2⟩:=e
  exact⟨_,iv,r1,r2⟩
 ·simp[Ac]at h
def Ends (P:Program)(F:FnC)(X:Nat->Prop)(s:Spec)(args:List Value)(L0:List Nat)(w0:World)(todo:List PI)(a:Act)(w:World)(rs:List IV):Prop:=
 ∀ (b:Frame) (cs:List Frame),∃c w' todo' v,Steps P (lone (b.at a (todo.map PI.item)) cs w) (lone {b.at c todo' with mode:= .returning} cs w')/\c.defers= []/\
  (F.vars.mapM (M8 c.tmps)).run P w'= .ok v w'/\Ty P X s args L0 rs w0 (packed v) w'
theorem Ends.step {todo todo':List PI}{rs:List IV}(h: ∀ (b:Frame) (cs:List Frame),step P (lone (b.at a (todo.map PI.item)) cs w)= .next (lone (b.at a (todo'.map PI.item)) cs w))(c:Ends P F X s args L0 w0 todo' a w rs):Ends P F X s args L0 w0 todo a w rs:=by
 intro b cs
 obtain⟨d,w',e,v,g,i⟩:=c b cs
 exact⟨d,w',e,v,.head (h b cs) g,i⟩
abbrev CS (P:Program)(N:Nat)(X:Nat->Prop)(ρ:List IV)(F:FnC)(L0:List Nat)(w0:World)(hdv:Nat->Value)(st:St)(μ:Nat->Value)(a:Act)(w:World):Prop:=
 FS P N X ρ (· <st.m) st.view.tm st.view.ob μ a w (· ∈L0) w0 (· ∈F.bks) hdv
theorem FS.later {K:Nat->Prop}{tm:Nat->SV}{ob:Nat->Option Ob}{W0 H:Nat->Prop}{hd:Nat->Value}{ρ':List IV}(h:FS P N X ρ K tm ob μ a w W0 w0 H hd)(e:A88 ρ ρ'):FS P N X ρ' K tm ob μ a w W0 w0 H hd:=by
 have L:Dp K (Bh P X ρ ob μ w) (Bh P X ρ' ob μ w):=
  {P:=rfl,ρ:=e,μ:=λ_ _=>rfl,stays:=Kj.refl _ _,O:=λ_ _ h=>h,W:=λ_ _ h=>h,WO:=λb d=> .inr d}
 have G:=h.Cj
 exact⟨⟨G.size,G.defers,λs=>L.Arc (G.kt s) (G.slot s),λk o c=>L.Af0 (G.ko k o c).1 (G.ko k o c).2 (λ_ _ _ _=>rfl) (G.obj k o c),G.sep,G.xsep,G.xlt,G.kt,G.ko⟩,h.step,h.own,h.hdr⟩
theorem Vo {id:Nat} : ∀ {r a:List PI},S6 id r=some a->exitTo id (r.map PI.item)=some (a.map PI.item)/\ ∀x∈a,x∈r
 | [],a,h=>by simp[S6]at h
 | x::k,a,h=>by
  have skip:S6 id k=some a->(∀id',x≠ .inBlock id')->exitTo id ((x::k).map PI.item)=some (a.map PI.item)/\ ∀y∈a,y∈x::k:=by
   intro h i
   obtain⟨e,g⟩:=Vo h
   refine⟨?_,λy b=>aJ _ (g y b)⟩
   cases x with
   | inBlock id'=>exact absurd rfl (i id')
   | _=>simpa [PI.item,exitTo]using e
  cases x with
  | inBlock id'=>
   unfold S6 at h
   by_cases d:(id' == id)=true
   ·rw[if_pos d]at h
    injection h with h;subst h
    exact⟨by simp only[bS,PI.item,exitTo,d,Zt],λy b=>aJ _ b⟩
   ·rw[if_neg d]at h
    obtain⟨e,g⟩:=Vo h
    exact⟨by simp only[bS,PI.item,exitTo,d];exact e,λy b=>aJ _ (g y b)⟩
  | code p c=>exact skip h (λ_ h=>by cases h)
  | inLoop p c=>exact skip h (λ_ h=>by cases h)
  | inScope p c=>exact skip h (λ_ h=>by cases h)
def A1u (P:Program)(N:Nat)(X:Nat->Prop)(R:Job->List IV->Option (List IV))(F:FnC)(bs:List Blk)(root:Code)(sidx:Nat)(s:Spec)(args:List Value)(L0:List Nat)(w0:World)(hdv:Nat->Value):Prop:=
 ∀ (i:Nat) (blk:Blk),bs[i]?=some blk-> ∀ (todo:List PI),(∀x∈todo,x.ok root)->todo.map PI.key=blk.key-> ∀ (vs rs:List IV) (a:Act) (w:World) (μ:Nat->Value),R ⟨sidx,i+1⟩ vs=some rs->vs.length=blk.st.n->
  CS P N X vs F L0 w0 hdv blk.st μ a w->Ends P F X s args L0 w0 todo a w rs
theorem X3 {st:St}{pt:PT}{rs:List IV}{todo:List PI}(o:F.rs=s.results)(c:Aoa F s.params args bvs hdv)(h:Z5 P F st=some pt)(hρ:ρ.length=st.n)(C:CS P N X ρ F L0 w0 hdv st μ a w)(hd:pt.den R sidx ρ=some rs)
  (d: ∀ (b:Frame) (cs:List Frame),step P (lone (b.at a (todo.map PI.item)) cs w)= .next (lone {b.at a (todo.map PI.item) with mode:= .returning} cs w)):Ends P F X s args L0 w0 todo a w rs:=by
 unfold Z5 at h
 cases e:Ads st (Bbt P F) with
 | none=>simp[e]at h
 | some q=>
  obtain⟨as,ls⟩:=q
  simp only[e,aB]at h
  subst h
  obtain⟨⟨es',r⟩,n,t⟩:=Aaz e
  obtain⟨ρ',u,x,y,B⟩:=Tt hd (by rw[hρ];exact t)
  have C':=C.later x
  have g:Aoa F s.params args bvs μ:=⟨c.bps,c.sel,c.len,λi k v j z=>(C'.hdr k (bU j)).2.trans (c.hdr i k v j z),c.shape⟩
  obtain⟨v,r1,r2⟩:=A67 (S:=st.view) (es:= {n:=st.n,m:=st.m,gs:= [],obs:= []}) o g (λk A=>(C'.hdr k A).1) (by show FS P N X ρ' _ st.view.tm (cur st.view []) μ a w _ w0 _ _;rw[Ma];exact C') r y u
  intro b cs
  exact⟨a,w,_,v,.one (d b cs),C.Cj.defers,r1,r2⟩
theorem Ahl (hm:P.follows .mixedOrders =true)(hS:Sound P specs R)(hF:F.rs=s.results)(hB:Aoa F s.params args bvs hdv)(hblk:A1u P N X R F bs root sidx s args L0 w0 hdv):
  ∀ (k:Nat) (first:Bool) (todo:List PI) (st:St) (pt:PT) (ρ:List IV) (rs:List IV) (a:Act) (w:World) (μ:Nat->Value),comp P specs N F bs k first todo st=some pt->(∀x∈todo,x.ok root)->ρ.length=st.n->CS P N X ρ F L0 w0 hdv st μ a w->pt.den R sidx ρ=some rs->
   Ends P F X s args L0 w0 todo a w rs:=by
 intro k
 induction k with
 | zero=>intro first todo st pt ρ rs a w μ h;simp[comp]at h
 | succ k j=>
  intro first todo st pt ρ rs a w μ h A hρ C hd
  unfold comp at h
  split at h
  ·-- a jump
   rename_i i b u
   have u:R0 (todo.map PI.key) bs 1=some (i,b):=by
    by_cases hf:first=true
    ·simp[hf]at u
    ·simpa [hf]using u
   obtain⟨n,rfl,B,I⟩:=Xm u
   cases o:Ads st (uSt P F.bks b.st) with
   | none=>simp[o]at h
   | some q=>
    obtain⟨as,ls⟩:=q
    simp only[o,aB]at h
    subst h
    obtain⟨⟨es',G⟩,n',J⟩:=Aaz o
    obtain⟨ρ',K,Y,Z,q4⟩:=Tt hd (by rw[hρ];exact J)
    have C':=C.later Y
    unfold cJ at K
    rw[aC]at K
    obtain⟨vs,q5,q6⟩:=K
    obtain⟨μ',r1,r2,r3⟩:=A9c (S:=st.view) (es:= {n:=st.n,m:=st.m,gs:= [],obs:= []}) (by show Good P N X ρ' _ st.view.tm (cur st.view []) μ a w;rw[Ma];exact C'.Cj) G Z rfl (λk H aa=>Nat.not_lt.2 H aa) q5
    have hlen:vs.length=b.st.n:=by
     have:=(Af2 q5).1
     rw[this]
     unfold uSt at G
     simp only[Ab,Af,Ao]at G
     obtain⟨_,_,_,_,_,⟨_,_,_,_,_,⟨_,_,_,_,_,⟨_,_,_,_,_,⟨_,_,_,_,_,⟨_,_,_,_,_,⟨h4,_⟩,_⟩,_⟩,_⟩,_⟩,_⟩,_⟩:=G
     exact(Ww h4).1
    refine hblk n b B todo A I vs rs a w μ' (by rw[dG];exact q6) hlen ⟨r1,C'.step,λb B=>C'.own b (by have:=r2 b B;rwa [show cur st.view ([]:List (Nat × Option Ob))=st.view.ob from Ma _]at this),λk H=>⟨(r3 k H).1,((r3 k H).2 (C'.hdr k H).1).trans (C'.hdr k H).2⟩⟩
  ·-- a step
   have o: ∀ {x:PI} {r:List PI},todo=x::r->x.ok root/\ ∀y∈r,y.ok root:=λe=>by subst e;exact⟨A _ bP,λy L=>A y (aJ _ L)⟩
   have cons: ∀ {x:PI} {r:List PI},x.ok root->(∀y∈r,y.ok root)-> ∀y∈x::r,y.ok root:=λE o y L=>by
    rcases aI.1 L with rfl | L
    ·exact E
    ·exact o y L
   split at h
   ·exact X3 hF hB h hρ C hd λb cs=>step_end
   ·rename_i id r
    exact .step (λb cs=>step_inBlock) (j _ _ _ _ _ _ _ _ _ h (o rfl).2 hρ C hd)
   ·rename_i p c r
    exact .step (λb cs=>step_inScope) (j _ _ _ _ _ _ _ _ _ h (o rfl).2 hρ C hd)
   ·rename_i p c r
    exact .step (λb cs=>step_inLoop) (j _ _ _ _ _ _ _ _ _ h (cons (o rfl).1 (cons (o rfl).1 (o rfl).2)) hρ C hd)
   ·rename_i p c r _
    obtain⟨J,d⟩:=o rfl
    have J:Me root p=some c:=J
    have ch: ∀ (b:Bool) (c':Code),child b c=some c'->Me root (b::p)=some c':=λb c' h=>by simp[Me,J,h]
    split at h
    ·exact X3 hF hB h hρ C hd λb cs=>step_ret
    ·exact .step (λb cs=>step_skip) (j _ _ _ _ _ _ _ _ _ h d hρ C hd)
    ·exact .step (λb cs=>step_label) (j _ _ _ _ _ _ _ _ _ h d hρ C hd)
    ·exact .step (λb cs=>step_seq) (j _ _ _ _ _ _ _ _ _ h (cons (ch _ _ rfl) (cons (ch _ _ rfl) d)) hρ C hd)
    ·rename_i c0 x y _ _
     cases g:Ads st (Ama P c0) with
     | none=>simp[g]at h
     | some q=>
      obtain⟨z,ls⟩:=q
      simp only[g]at h
      cases U:comp P specs N F bs k false (.code (false::p) x::r) st with
      | none=>simp[U]at h
      | some pa=>
       cases B:comp P specs N F bs k false (.code (true::p) y::r) st with
       | none=>simp[U,B]at h
       | some pb=>
        simp only[U,B]at h
        rw[aQ]at h
        obtain⟨hle,h⟩:=h
        injection h with h
        subst h
        have hle:ls= []:=by simpa using hle
        subst hle
        obtain⟨⟨es',G⟩,_⟩:=Aaz g
        obtain⟨t0,iv,z1,z2⟩:=Aqr (S:=st.view) (es:= {n:=st.n,m:=st.m,gs:= [],obs:= []}) (by show Good P N X ρ _ st.view.tm (cur st.view []) μ a w;rw[Ma];exact C.Cj) G rfl
        unfold cJ at hd
        rw[z1]at hd
        split at hd
        ·rename_i heq
         injection heq with heq;subst heq
         have hv:a.eval c0= .bool true:=z2.Aql
         exact .step (λb cs=>step_cond (t:=true) hv) (j _ _ _ _ _ _ _ _ _ U (cons (ch _ _ rfl) d) hρ C hd)
        ·rename_i heq
         injection heq with heq;subst heq
         have hv:a.eval c0= .bool false:=z2.Aql
         exact .step (λb cs=>step_cond (t:=false) hv) (j _ _ _ _ _ _ _ _ _ B (cons (ch _ _ rfl) d) hρ C hd)
        ·cases hd
    ·exact .step (λb cs=>step_block) (j _ _ _ _ _ _ _ _ _ h (cons (ch _ _ rfl) (cons (x:= .inBlock _) trivial d)) hρ C hd)
    ·exact .step (λb cs=>step_loop) (j _ _ _ _ _ _ _ _ _ h (cons (ch _ _ rfl) (cons (x:= .inLoop _ _) (ch _ _ rfl) d)) hρ C hd)
    ·exact .step (λb cs=>step_scope) (j _ _ _ _ _ _ _ _ _ h (cons (ch _ _ rfl) (cons (x:= .inScope _ _) (ch _ _ rfl) d)) hρ C hd)
    ·rename_i id _ _
     cases E:S6 id r with
     | none=>simp[E]at h
     | some r'=>
      simp only[E]at h
      obtain⟨e1,e2⟩:=Vo E
      exact .step (λb cs=>step_exit e1) (j _ _ _ _ _ _ _ _ _ h (λx E=>d x (e2 x E)) hρ C hd)
    ·rename_i id ops draw _ _
     cases g:Ts P specs N ops draw st with
     | none=>
      simp only[g]at h
      split at h
      ·injection h with h
       subst h
       rw[Au1]at hd
       cases hd
      ·cases h
     | some q=>
      obtain⟨ls,st'⟩:=q
      simp only[g]at h
      rw[aQ]at h
      obtain⟨ab,h⟩:=h
      cases hq:comp P specs N F bs k false r st' with
      | none=>simp[hq]at h
      | some pt'=>
       simp only[hq,aB]at h
       subst h
       obtain⟨ρ',K,Y,Z,q4⟩:=Tt hd (by rw[hρ];exact eq_of_beq ab)
       have C':=C.later Y
       have M:=Aqp (id:=id) (Q:=λe a' w'=>e= .normal /\ ∃μ',CS P N X ρ' F L0 w0 hdv st' μ' a' w') hm hS g Z C' λa' w' μ' F'=>⟨rfl,μ',F'⟩
       intro b cs
       obtain⟨e,a',w',⟨he,μ',F'⟩,T⟩:=M b (r.map PI.item) cs
       subst he
       obtain⟨a2,w2,t2,v,s1,s2⟩:=j _ _ _ _ _ _ _ _ _ hq d q4 F' K b cs
       exact⟨a2,w2,t2,v,Steps.trans T s1,s2⟩
    ·cases h
end
end Go.CT
namespace Go.CT
open EM
def Xl:Nat->List TypeId->List PV
 | _,[]=> []
 | n,t::ts=> .im (.v n) t 0::Xl (n+1) ts
def PS.arity:PS->Nat
 | .data _=>1
 | .arr _=>1
 | .own _=>1
 | .box _ o=>o.length
 | .fn _ ts=>ts.length
 | .rd _=>1
 | .bld _ _=>1
 | .fnb _ _=>0
section
variable (P:Program)
def Tk (t:TypeId)(n:Nat):EM Nat:=do
 let e <-ofOption (Cr P t)
 let k <-Ga
 Em k (some (.arr e t (.v n)))
 pure k
def Abs (p:PS)(n:Nat):EM (VV × List Nat):=
 match p with
 | .data t=>pure (.leaf (.at (.v n) t),[])
 | .arr t=>do
  let k <-Tk P t n
  pure (.leaf (.ref k t),[k])
 | .own t=>do
  let k <-Tk P t n
  pure (.leaf (.ref k t),[])
 | .box t bs=>do
  let ts <-ofOption (leaves P t)
  let cs <-Cz P bs ts n
  let v <-Avw P t cs
  let k <-Ga
  Em k (some (.box t v))
  pure (.leaf (.ptr (.p k 0)),[k])
 | .fn f ts=>pure (.leaf (.fn f (Xl n ts)),[])
 | .rd t=>pure (.leaf (.ptr (.im (.v n) t 0)),[])
 | .fnb _ _=>pure (.leaf .junk,[])
 | .bld t back=>do
  let se <-ofOption (A2y P t)
  let a <-Ga
  Em a (some (.arr se.2 se.1 (.v n)))
  let k <-Ga
  Em k (some (.box t (.agg t [.hid k,.ref a se.1])))
  pure (.leaf (.ptr (.p k 0)),if back then[k]else[])
def Jc:List PS->Nat->EM (List VV × List Nat)
 | [],_=>pure ([],[])
 | p::b,n=>do
  let a <-Abs P p n
  let r <-Jc b (n+p.arity)
  pure (a.1::r.1,a.2++r.2)
def slotsOf:List VV->Nat->List (Nat × SV)
 | [],_=> []
 | v::vs,i=>(i,⟨[],.one v⟩)::slotsOf vs (i+1)
def Il:View:=⟨λ_=>nothing,λ_=>none⟩
def A52:VV->Option PV
 | .leaf (.ptr p)=>some p
 | _=>none
def Vd:List VV->Option (List PV)
 | []=>some []
 | v::vs=>
  match A52 v with
  | some p=>(Vd vs).map (p:: ·)
  | none=>none
def Jb:Nat->List PS->List VV->Option (List VV)
 | n+1,_::a,_::vs=>Jb n a vs
 | _+1,[],_=>none
 | _+1,_::_,[]=>none
 | 0,[],[]=>some []
 | 0,[],_::_=>none
 | 0,_::_,[]=>none
 | 0,p::a,v::vs=>
  match Ae8 p with
  | none=>(Jb 0 a vs).map (v:: ·)
  | some fn=>
   match Vd (vs.take fn.2) with
   | some caps=>(Jb fn.2 a vs).map (.leaf (.fn fn.1 caps):: ·)
   | none=>none
def T6 (a:List PS):Option (St × List Nat):=
 match (Jc P a 0 {n:=Avt (a.map PS.arity),m:=0,gs:= [],obs:= []}).run Il with
 | some ((r,es),_,_,_)=>
  match Jb 0 a r.1 with
  | some vvs=>some ({n:=Avt (a.map PS.arity),m:=es.m,tm:=slotsOf vvs 0,ob:=We es.obs []},r.2)
  | none=>none
 | none=>none
end
section
variable {P:Program}{w:World}{a:Act}{S:View}{es es':ES}{ls:List PLt}{c:Cx}{K Rm:Nat->Prop}
theorem Ha.Ad4 {Lt:Nat->Prop}(a: ∀b,c.W b->Lt b): ∀ {ts:List TypeId} {xs:List IV} {vs:List Value} {n:Nat},Ha c.P c.w c.O Lt ts xs vs->(∀i,i<xs.length->c.ρ[n+i]?=xs[i]?)->Mk c (Xl n ts) vs/\xs.length=ts.length
 | [],[],[],n,_,_=>⟨trivial,rfl⟩
 | t::ts,x::xs,v::vs,n,h,hρ=>by
  obtain⟨⟨ad,u,rfl,d,e,g,j⟩,m⟩:=h
  have o:c.ρ[n]?=some x:=by simpa using hρ 0 (by simp)
  obtain⟨q,r⟩:=Ha.Ad4 a (n:=n+1) m (λi y=>by
   have:=hρ (i+1) (by simpa using y)
   simpa [dS,dG 1 i]using this)
  exact⟨⟨⟨ad,u,⟨x,o,j⟩,d,e,λz=>g (a _ z),by rw[A6]⟩,q⟩,by simp[r]⟩
 | [],[],_::_,_,h,_=>h.elim
 | [],_::_,_,_,h,_=>h.elim
 | _::_,[],_,_,h,_=>h.elim
 | _::_,_::_,[],_,h,_=>h.elim
theorem Vn: ∀ (ts:List TypeId) (n:Nat),(Xl n ts).flatMap Di= []
 | [],_=>rfl
 | _::ts,n=>by simp[Xl,Di,Vn ts (n+1)]
def Ent (c:Cx)(K:Nat->Prop)(S:View)(a:Act)(Rm:Nat->Prop)(L:List Nat)(es es':ES)(f:(Nat->Value)->Prop):Prop:=
 es'.gs=es.gs/\es.m<=es'.m/\ ∃μ',(∀k,K k->μ' k=c.μ k)/\Reg (c.at μ') (As K es.m es'.m) S.tm (cur S es'.obs) a (λb=>Rm b/\b∉L)/\f μ'
theorem U7 {e t:TypeId}{ys:List IV}{v:Value}{n k:Nat}(h:Ev S (Tk c.P t n) es k es' ls)(j:c.P.underlying t=some (.slice e))(r:Gp c.P c.w c.O e ys v)(u: ∀b∈(blk v).toList,Rm b/\c.W b)(G:Reg c K S.tm (cur S es.obs) a Rm)
  (x:c.ρ[n]?=some (.list ys)) (i: ∀k,es.m<=k-> ¬ K k):Ent c K S a Rm (blk v).toList es es' λμ'=>μ' k=v/\As K es.m es'.m k/\ ∃A n cap,v= .slice A n cap:=by
 simp only[Tk,Ab,Ao,Cc,Bd,Ad]at h
 obtain⟨g,_,_,_,⟨y,rfl,rfl⟩,⟨_,_,_,_,⟨rfl,rfl,rfl⟩,⟨_,_,_,_,⟨rfl,rfl⟩,⟨rfl,rfl,rfl⟩,rfl⟩,rfl⟩,rfl⟩:=h
 have:g=e:=by
  have:=Be y
  rw[j]at this;injection this with this;injection this with this;exact this.symm
 subst this
 obtain⟨z,cs,o,B,C⟩:=r
 have q: ¬ K es.m:=i es.m (aM _)
 refine⟨rfl,cI _,Db c.μ es.m v,λk E=>Cy λe=>q (e ▸ E),?_,Bb,.inr ⟨aM _,bN _⟩,(J6 o).2.2⟩
 show Reg _ _ S.tm (cur S ((es.m,some (.arr g t (.v n)))::es.obs)) a _
 rw[Bm]
 refine G.put (λh=>absurd h q) (λb F=>?_) (λb h=>h.1) (λH h=>h.elim .inl λh=> .inr (by subst h;exact⟨aM _,bN _⟩)) ⟨ys,cs,x,j,z,?_,B,C⟩ (λH h=>by simp[E4]at h)
 ·have d:b∈(blk v).toList :=by simp[F]
  have:=u b d
  exact⟨this.1,this.2,λh=>h.2 d⟩
 ·show c.w.ownsRow 0 g (Ag c.P g) (Db c.μ es.m v es.m) ys.length cs
  rw[Bb];exact o
theorem Aga {Lt:Nat->Prop}(hW: ∀b,c.W b->Lt b){p:PS}{n:Nat}{r:VV × List Nat}{xs:List IV}{v:Value}{L:List Nat}(hg:es.gs= [])(h:Ev S (Abs c.P p n) es r es' ls)(J:ArgRel c.P c.w c.O Lt p xs v L)(Q:L.Nodup)(N: ∀b∈L,Rm b/\c.W b)
  (G:Reg c K S.tm (cur S es.obs) a Rm) (hρ: ∀i,i<xs.length->c.ρ[n+i]?=xs[i]?) (q: ∀k,es.m<=k-> ¬ K k):
  xs.length=p.arity/\Ent c K S a Rm L es es' λμ'=>K0 (c.at μ') r.1 v/\(∀k∈Ax r.1,As K es.m es'.m k)/\(p.Cu=false->r.2= [])/\(p.Cu=true-> ∃k,r.2= [k]/\μ' k=v/\As K es.m es'.m k/\Kn p v):=by
 have same: ∀ {vv:VV},es'=es->L= []->K0 c vv v->Ax vv= []->(p.Cu=false)->r=(vv,[])->Ent c K S a Rm L es es' λμ'=>K0 (c.at μ') r.1 v/\(∀k∈Ax r.1,As K es.m es'.m k)/\(p.Cu=false->r.2= [])/\(p.Cu=true-> ∃k,r.2= [k]/\μ' k=v/\As K es.m es'.m k/\Kn p v):=by
  rintro vv rfl rfl R C T rfl
  exact⟨rfl,aM _,c.μ,λ_ _=>rfl,G.keys (λk h=> .inl h) (λb h=>h.1),R,(λk y=>by rw[C]at y;cases y),λ_=>rfl,λh=>by rw[T]at h;cases h⟩
 unfold Abs at h
 cases p with
 | data t=>
  obtain⟨x,rfl,rfl,hx⟩:=J
  rw[Ad]at h
  obtain⟨rfl,rfl,rfl⟩:=h
  have j:c.ρ[n]?=some x:=by simpa using hρ 0 (by simp)
  exact⟨rfl,same (vv:= .leaf (.at (.v n) t)) rfl rfl ⟨x,j,hx⟩ rfl rfl rfl⟩
 | fnb f m=>
  obtain⟨rfl,rfl⟩:=J
  rw[Ad]at h
  obtain⟨rfl,rfl,rfl⟩:=h
  exact⟨rfl,same (vv:= .leaf .junk) rfl rfl trivial rfl rfl rfl⟩
 | fn f ts=>
  obtain⟨vs,rfl,rfl,hc⟩:=J
  rw[Ad]at h
  obtain⟨rfl,rfl,rfl⟩:=h
  obtain⟨U,X⟩:=Ha.Ad4 hW hc hρ
  exact⟨X,same (vv:= .leaf (.fn f (Xl n ts))) rfl rfl ⟨vs,rfl,U⟩ (Vn ts n) rfl rfl⟩
 | rd t=>
  obtain⟨x,rfl,rfl,ad,u,rfl,C,T,h4,h5⟩:=J
  rw[Ad]at h
  obtain⟨rfl,rfl,rfl⟩:=h
  have j:c.ρ[n]?=some x:=by simpa using hρ 0 (by simp)
  exact⟨rfl,same (vv:= .leaf (.ptr (.im (.v n) t 0))) rfl rfl ⟨ad,u,⟨x,j,h5⟩,C,T,λhw=>h4 (hW _ hw),by rw[A6]⟩ rfl rfl rfl⟩
 | bld t bk=>
  obtain⟨b,c0,c1,M,st,e,rfl,r1,r2,r3,rfl,⟨r4,cs,r5,r6,r7⟩,rfl⟩:=J
  simp only[Ab,Ao,Cc,Bd,Ad]at h
  obtain⟨se,_,_,_,⟨H,rfl,rfl⟩,⟨_,_,_,_,⟨rfl,rfl,rfl⟩,⟨_,_,_,_,⟨rfl,rfl⟩,⟨_,_,_,_,⟨rfl,rfl,rfl⟩,⟨_,_,_,_,⟨rfl,rfl⟩,⟨rfl,rfl,rfl⟩,rfl⟩,rfl⟩,rfl⟩,rfl⟩,rfl⟩:=h
  rw[r3]at H;injection H with H;subst H
  rw[dM]at Q
  have hx:c.ρ[n]?=some (.list M):=by simpa using hρ 0 (by simp)
  obtain⟨f1,f2,f3,f4,f5⟩:=Z9 r3
  have Y: ¬ K es.m:=q es.m (aM _)
  have Z: ¬ K (es.m+1):=q (es.m+1) (cI _)
  have ag: ∀d,K d->d≠es.m:=λd h e=>Y (by rw[<-e];exact h)
  have aa: ∀d,K d->d≠es.m+1:=λd h e=>Z (by rw[<-e];exact h)
  obtain⟨_,aj,A,nn,cap,rfl⟩:=J6 r5
  have G1:Reg (c.at (Db c.μ es.m (.slice A nn cap))) (As K es.m (es.m+1)) S.tm (cur S ((es.m,some (.arr e st (.v n)))::es.obs)) a (λo=>Rm o/\o∉(blk (.slice A nn cap)).toList):=by
   rw[Bm]
   refine G.put (λh=>absurd h Y) (λo I=>?_) (λb h=>h.1) (λd h=>h.elim .inl λh=> .inr (by omega)) ?_ (λd h=>by simp[E4]at h)
   ·have ab:o∈(blk (.slice A nn cap)).toList :=by simp[I]
    have:=N o (aJ _ ab)
    exact⟨this.1,this.2,λh=>h.2 ab⟩
   ·refine⟨M,cs,hx,f2,r4,?_,r6,r7⟩
    show c.w.ownsRow 0 e (Ag c.P e) (Db c.μ es.m (.slice A nn cap) es.m) M.length cs
    rw[Bb];exact r5
  generalize hμ1:Db c.μ es.m (.slice A nn cap)=μ1 at G1
  have hμm:μ1 es.m= .slice A nn cap:=by rw[<-hμ1,Bb]
  have ah:es.m≠es.m+1:=by omega
  have G2:Reg ((c.at μ1).at (Db μ1 (es.m+1) (.pointer (some ⟨b,0,none⟩)))) (As K es.m (es.m+1+1)) S.tm (cur S ((es.m+1,some (.box t (.agg t [.hid (es.m+1),.ref es.m st])))::(es.m,some (.arr e st (.v n)))::es.obs)) a (λo=>(Rm o/\o∉(blk (.slice A nn cap)).toList)/\o≠b):=by
   rw[Bm]
   refine G1.put (λh=>absurd h λh=>h.elim Z λh=>by omega) (λo I=>?_) (λb h=>h.1) (λd h=>?_) ?_ (λd h=>?_)
   ·simp[blk]at I
    subst I
    have:=N b (by simp)
    exact⟨⟨this.1,Q.1⟩,this.2,λh=>h.2 rfl⟩
   ·rcases h with (h | h) | rfl
    ·exact .inl h
    ·exact .inr (by omega)
    ·exact .inr (by omega)
   ·refine⟨b,.agg #[c0,.slice A nn cap],by show Db _ _ _ _=_;rw[Bb],r1,f4.symm,?_,?_,?_⟩
    ·show if Ai c.P t=true then _ else _
     rw[if_pos f3];exact⟨_,rfl⟩
    ·intro u hu
     simp[Value.cells]at hu
     rcases hu with rfl | rfl
     ·rcases r2 with h | h<;>rw[h]<;>rfl
     ·rfl
    ·refine⟨_,rfl,⟨?_,r2.imp id λh=>⟨?_,_,h⟩⟩,⟨rfl,?_,_,_,_,rfl⟩,trivial⟩
     ·rcases r2 with h | h<;>rw[h]<;>rfl
     ·show c0=Db μ1 (es.m+1) _ (es.m+1)
      rw[Bb];exact h
     ·show _=Db μ1 (es.m+1) _ es.m
      rw[Cy ah];exact hμm.symm
   ·simp only[E4,Ax,bC,A5,List.flatMap_nil,aO,aK,bQ]at h
    rcases h with rfl | rfl
    ·exact .inr (by omega)
    ·exact .inr (by omega)
  refine⟨rfl,rfl,cO (cI _),Db μ1 (es.m+1) (.pointer (some ⟨b,0,none⟩)),λk y=>?_,G2.keys (λ_ h=>h) (λo h=>⟨⟨h.1,λh'=>h.2 (aJ _ h')⟩,λh'=>h.2 (h' ▸ bP)⟩),⟨b,Bb,by rw[A6]⟩,λk y=>?_,λh=>?_,λh=>⟨es.m+1,?_,Bb,.inr ⟨cI _,bN _⟩,b,rfl⟩⟩
  ·rw[Cy (aa k y),<-hμ1,Cy (ag k y)]
  ·simp only[Ax,A5,Di,bQ]at y
   subst y
   exact .inr ⟨cI _,bN _⟩
  ·have h:bk=false:=h
   subst h;rfl
  ·have h:bk=true:=h
   subst h;rfl
 | arr t=>
  obtain⟨e,ys,rfl,rfl,ht,E⟩:=J
  simp only[Ab]at h
  obtain⟨k,e1,l1,l2,R,C,rfl⟩:=h
  rw[Ad]at C
  obtain⟨rfl,rfl,rfl⟩:=C
  have j:c.ρ[n]?=some (.list ys):=by simpa using hρ 0 (by simp)
  obtain⟨U,X,μ',q3,q4,q5,q6,q7⟩:=U7 R ht E N G j q
  refine⟨rfl,U,X,μ',q3,q4,⟨q5.symm,q7⟩,λd g=>?_,(λh=>by cases h),λ_=>⟨k,rfl,q5,q6,q7⟩⟩
  simp only[Ax,A5,bQ]at g
  subst g;exact q6
 | own t=>
  obtain⟨e,ys,rfl,rfl,ht,E⟩:=J
  simp only[Ab]at h
  obtain⟨k,e1,l1,l2,R,C,rfl⟩:=h
  rw[Ad]at C
  obtain⟨rfl,rfl,rfl⟩:=C
  have j:c.ρ[n]?=some (.list ys):=by simpa using hρ 0 (by simp)
  obtain⟨U,X,μ',q3,q4,q5,q6,q7⟩:=U7 R ht E N G j q
  refine⟨rfl,U,X,μ',q3,q4,⟨q5.symm,q7⟩,λd g=>?_,(λ_=>rfl),λh=>by cases h⟩
  simp only[Ax,A5,bQ]at g
  subst g;exact q6
 | box t bs=>
  obtain⟨b,u,L',rfl,C,F,rfl⟩:=J
  simp only[Ab,Ao,Cc,Bd,Ad]at h
  obtain⟨ts,_,_,_,⟨T,rfl,rfl⟩,⟨cs,B,_,_,h4,⟨vv,e4,_,_,h5,⟨_,_,_,_,⟨rfl,rfl,rfl⟩,⟨_,_,_,_,⟨rfl,rfl⟩,⟨rfl,rfl,rfl⟩,rfl⟩,rfl⟩,rfl⟩,rfl⟩,rfl⟩:=h
  rw[dM]at Q
  obtain⟨rfl,rfl,rfl,a1,a2,a3,μ1,a4,a5,a6,a7⟩:=F.take hg T h4 h5 Q.2 (λo I=>N o (by simp[I])) G hρ (λd k1 _=>q d k1)
  have hlen:xs.length=bs.length:=by
   obtain⟨_,_,_,_,ai⟩:=F
   exact ai.len
  obtain⟨ak,c1,c2,c3,c4⟩:=F
  have ac: ∀z∈u.cells,z.oneCell'=true:=by
   have:=c4.one (λu hu=>by
    obtain⟨i,hi⟩:=List.mem_iff_getElem?.1 hu
    exact Eb c1 i u hi)
   exact λz hz=>this z (by simpa using hz)
  have ae: ¬ As K es.m B.m B.m:=Ie q a3 B.m (aM _)
  have hμ: ∀k,As K es.m B.m k->Db μ1 B.m (.pointer (some ⟨b,0,none⟩)) k=μ1 k:=λk y=>Cy λe=>ae (e ▸ y)
  have af: ∀d,As K es.m B.m d\/d=B.m->As K es.m (B.m+1) d:=by
   rintro d ((h | h) | rfl)
   ·exact .inl h
   ·exact .inr (by omega)
   ·exact .inr (by omega)
  refine⟨hlen,a2,cO a3,Db μ1 B.m (.pointer (some ⟨b,0,none⟩)),λk y=>(hμ k (.inl y)).trans (a4 k y),?_,⟨b,Bb,by rw[A6]⟩,λd g=>?_,(λh=>by cases h),λ_=>⟨B.m,rfl,Bb,.inr ⟨a3,bN _⟩,b,rfl⟩⟩
  ·show Reg ((c.at μ1).at _) _ S.tm (cur S ((B.m,some (.box t vv))::B.obs)) a _
   rw[Bm]
   refine a5.put (λh=>absurd h ae) (λo I=>?_) (λo h=>?_) af ?_ (λd h=> .inl (a7 d h) |> af d)
   ·simp[blk]at I
    subst I
    have:=N b (by simp)
    exact⟨⟨this.1,Q.1⟩,this.2,λh=>h.2 (by simp)⟩
   ·exact⟨h.1,λh'=>h.2 (aJ _ h')⟩
   ·have Lt2:=Cx.later (c:=c.at μ1) (μ:=Db μ1 B.m (.pointer (some ⟨b,0,none⟩))) a5.wo hμ
    exact⟨b,u,Bb,C,c2,c3,ac,Lt2.Apb a7 a6⟩
  ·simp only[Ax,A5,Di,bQ]at g
   subst g;exact .inr ⟨a3,bN _⟩
end
end Go.CT
namespace Go.CT
open EM
def J1:List PS->List Value->List Value
 | p::a,v::vs=>if p.Cu then v::J1 a vs else J1 a vs
 | _,_=> []
def BkI (μ:Nat->Value)(K:Nat->Prop):List PS->List Nat->List Value->Prop
 | [],[],[]=>True
 | p::a,k::ks,v::vs=>(μ k=v/\K k/\Kn p v)/\BkI μ K a ks vs
 | _,_,_=>False
theorem BkI.mono {μ μ':Nat->Value}{K K':Nat->Prop} : ∀ {b:List PS} {ks:List Nat} {vs:List Value},BkI μ K b ks vs->(∀k,K k->K' k/\μ' k=μ k)->BkI μ' K' b ks vs
 | [],[],[],_,_=>trivial
 | _::_,_::_,_::_,h,a=>⟨⟨(a _ h.1.2.1).2.trans h.1.1,(a _ h.1.2.1).1,h.1.2.2⟩,h.2.mono a⟩
 | [],[],_::_,h,_=>h.elim
 | [],_::_,_,h,_=>h.elim
 | _::_,[],_,h,_=>h.elim
 | _::_,_::_,[],h,_=>h.elim
theorem BkI.facts {μ:Nat->Value}{K:Nat->Prop} : ∀ {m:List PS} {ks:List Nat} {vs:List Value},BkI μ K m ks vs->(ks.length=vs.length/\m.length=vs.length)/\(∀k∈ks,K k)/\
  (∀ (i k:Nat) (v:Value),ks[i]?=some k->vs[i]?=some v->μ k=v)/\(∀ (i:Nat) (p:PS) (v:Value),m[i]?=some p->vs[i]?=some v->Kn p v)
 | [],[],[],_=>⟨⟨rfl,rfl⟩,by simp,by simp,by simp⟩
 | p::m,k::ks,v::vs,h=>by
  obtain⟨⟨a,b⟩,c,d,e⟩:=h.2.facts
  refine⟨⟨by simp[a],by simp[b]⟩,λo q=>?_,λi o r g j=>?_,λi t r g j=>?_⟩
  ·rcases aI.1 q with rfl | q
   ·exact h.1.2.1
   ·exact c o q
  ·cases i with
   | zero=>simp at g j;subst g;subst j;exact h.1.1
   | succ i=>exact d i o r (by simpa using g) (by simpa using j)
  ·cases i with
   | zero=>simp at g j;subst g;subst j;exact h.1.2.2
   | succ i=>exact e i t r (by simpa using g) (by simpa using j)
 | [],[],_::_,h=>h.elim
 | [],_::_,_,h=>h.elim
 | _::_,[],_,h=>h.elim
 | _::_,_::_,[],h=>h.elim
theorem Zw {P:Program}{w:World}{O:Nat->Prop} : ∀ {b:List PS} {args:List Value} {xs:List IV} {L:List Nat},b.length=args.length->D0 P w O (λ_=>False) (b.filter dF) xs (J1 b args) L->B4 P w O b xs args L
 | [],[],xs,L,_,h=>h
 | p::b,v::args,xs,L,a,h=>by
  unfold B4
  unfold J1 at h
  by_cases c:p.Cu=true
  ·rw[if_pos c]at h ⊢
   rw[cS c]at h
   obtain⟨ys,zs,L1,L2,d,e,g,i⟩:=h
   exact⟨ys,zs,L1,L2,d,e,g,Zw (by simpa using a) i⟩
  ·rw[if_neg c]at h ⊢
   rw[cT c]at h
   exact Zw (by simpa using a) h
 | [],_::_,_,_,a,_=>by simp at a
 | _::_,[],_,_,a,_=>by simp at a
section
variable {P:Program}{w:World}{a:Act}{S:View}{es es':ES}{ls:List PLt}{c:Cx}{K Rm:Nat->Prop}
theorem Sv {Lt:Nat->Prop} : ∀ {g:List PS} {n:Nat} {r:List VV × List Nat} {xs:List IV} {vs:List Value} {L:List Nat} {es es':ES} {ls:List PLt} {c:Cx} {K Rm:Nat->Prop},(∀b,c.W b->Lt b)->es.gs= []->Ev S (Jc c.P g n) es r es' ls->D0 c.P c.w c.O Lt g xs vs L->L.Nodup->
  (∀b∈L,Rm b/\c.W b)->Reg c K S.tm (cur S es.obs) a Rm->(∀i,i<xs.length->c.ρ[n+i]?=xs[i]?)->(∀k,es.m<=k-> ¬ K k)->
  (xs.length=Avt (g.map PS.arity)/\g.length=vs.length)/\Ent c K S a Rm L es es' λμ'=>Eh (c.at μ') r.1 vs/\(∀k∈r.1.flatMap Ax,As K es.m es'.m k)/\BkI μ' (As K es.m es'.m) (g.filter dF) r.2 (J1 g vs)
 | [],n,r,xs,vs,L,es,es',ls,c,K,Rm,y,z,h,o,A,x,G,hρ,j=>by
  unfold Jc at h
  rw[Ad]at h
  obtain⟨rfl,rfl,rfl⟩:=h
  cases vs with
  | cons=>exact o.elim
  | nil=>
   obtain⟨rfl,rfl⟩:=o
   exact⟨⟨rfl,rfl⟩,rfl,aM _,c.μ,λ_ _=>rfl,G.keys (λk h=> .inl h) (λb h=>h.1),trivial,by simp,trivial⟩
 | p::g,n,r,xs,vs,L,es,es',ls,c,K,Rm,y,z,h,o,A,x,G,hρ,j=>by
  cases vs with
  | nil=>exact o.elim
  | cons v vs=>
   obtain⟨ys,zs,L1,L2,rfl,rfl,r1,r2⟩:=o
   unfold Jc at h
   simp only[Ab]at h
   obtain⟨Y,e1,Z,_,J,⟨q,M,l2,_,N,F,rfl⟩,rfl⟩:=h
   rw[Ad]at F
   obtain⟨rfl,rfl,rfl⟩:=F
   obtain⟨Q,R⟩:=Of hρ
   rw[List.nodup_append]at A
   obtain⟨B,C,E⟩:=A
   obtain⟨len1,b1,b2,μ1,b3,b4,T,H,U,b8⟩:=Aga y z J r1 B (λb d=>x b (bM _ d)) G Q j
   obtain⟨⟨len2,len3⟩,d1,d2,μ',d3,d4,d5,d6,d7⟩:=Sv (c:=c.at μ1) y (b1.trans z) N r2 C (λb d=>⟨⟨(x b (bA _ d)).1,λh=>E b h b d rfl⟩,(x b (bA _ d)).2⟩) b4
    (by rw[<-len1];exact R) (Ie j b2)
   have t:=Ct (K:=K) b2 d2
   have Lt2:=Cx.later (c:=c.at μ1) (μ:=μ') b4.wo d3
   refine⟨⟨by simp[len1,len2,Avt],by simp[len3]⟩,d1.trans b1,Nat.le_trans b2 d2,μ',λk e=>(d3 k (.inl e)).trans (b3 k e),d4.keys t (λb h=>⟨⟨h.1,λh'=>h.2 (bM _ h')⟩,λh'=>h.2 (bA _ h')⟩),
    ⟨Lt2.Apb H T,d5⟩,λk e=>?_,?_⟩
   ·rw[bC]at e
    rcases aK.1 e with e | e
    ·exact t k (.inl (H k e))
    ·exact t k (d6 k e)
   ·have u:=d7.mono (K':=As K es.m M.m) (μ':=μ') λk e=>⟨t k e,rfl⟩
    cases d:p.Cu with
    | true=>
     obtain⟨k,k1,k2,I,X⟩:=b8 d
     simp only[J1,d,Zt,cS,k1,List.singleton_append]
     exact⟨⟨(d3 k I).trans k2,t k (.inl I),X⟩,u⟩
    | false=>
     have k1:=U d
     simp only[J1,d,aE,Zf,k1,bD]
     rw[cT (by simp[d])]
     exact u
theorem Mn {t:Nat} : ∀ {vs:List VV} {i:Nat},Hz t (slotsOf vs i)=if i<=t then(match vs[t - i]? with | some v=>⟨[],.one v⟩ | none=>nothing) else nothing
 | [],i=>by simp[slotsOf,Hz]
 | v::vs,i=>by
  unfold slotsOf Hz
  by_cases h:i=t
  ·subst h;simp
  ·have:(i == t)=false:=by simpa using h
   simp only[this,aE,Zf]
   rw[Mn]
   by_cases a:i+1<=t
   ·have e:t - i=(t - (i+1))+1:=by omega
    rw[if_pos a,if_pos (by omega),e];simp
   ·rw[if_neg a,if_neg (by omega)]
theorem Ace: ∀ {vs:List VV} {i:Nat},(slotsOf vs i).length =vs.length
 | [],_=>rfl
 | _::vs,i=>by simp[slotsOf,Ace (vs:=vs)]
theorem Eh.get2 {c:Cx} : ∀ {vvs:List VV} {vs:List Value},Eh c vvs vs->vvs.length=vs.length/\ ∀ (i:Nat) (x:VV),vvs[i]?=some x-> ∃v,vs[i]?=some v/\K0 c x v
 | [],[],_=>⟨rfl,by simp⟩
 | x::vvs,v::vs,h=>by
  obtain⟨b,d⟩:=Eh.get2 h.2
  refine⟨by simp[b],λi y a=>?_⟩
  cases i with
  | zero=>simp at a;subst a;exact⟨v,rfl,h.1⟩
  | succ i=>exact d i y (by simpa using a)
 | [],_::_,h=>h.elim
 | _::_,[],h=>h.elim
theorem Eh.cut {c:Cx} : ∀ {vvs:List VV} {xs ys:List Value},Eh c vvs (xs++ys)->Eh c (vvs.take xs.length) xs
 | vvs,[],ys,_=>by simp;trivial
 | [],_::_,_,h=>h.elim
 | _::_,_::_,_,h=>⟨h.1,Eh.cut h.2⟩
theorem Adr {c:Cx} : ∀ {vvs:List VV} {b:List PV} {vs:List Value},Vd vvs=some b->Eh c vvs vs->Mk c b vs/\ ∀k∈b.flatMap Di,k∈vvs.flatMap Ax
 | [],b,vs,h,d=>by
  simp only[Vd,aB]at h
  subst h
  cases vs with
  | nil=>exact⟨trivial,by simp⟩
  | cons=>exact d.elim
 | x::vvs,b,vs,h,d=>by
  cases vs with
  | nil=>exact d.elim
  | cons v vs=>
   unfold Vd at h
   cases a:A52 x with
   | none=>simp[a]at h
   | some p=>
    obtain rfl:x= .leaf (.ptr p):=by
     unfold A52 at a
     split at a
     ·injection a with a;rw[a]
     ·cases a
    cases e:Vd vvs with
    | none=>simp[a,e]at h
    | some r=>
     simp only[a,e,bX,aB]at h
     subst h
     obtain⟨i,j⟩:=Adr e d.2
     refine⟨⟨d.1,i⟩,λk g=>?_⟩
     rw[bC]at g ⊢
     exact(aK.1 g).elim (λh=>bM _ h) λh=>bA _ (j k h)
theorem P6 {c:Cx} : ∀ {k:Nat} {i:List PS} {vvs out:List VV} {pend fr vs:List Value},Jb k i vvs=some out->Iq k i vs=some fr->pend.length=k->Eh c vvs (pend++fr)->
  Eh c out vs/\ ∀q∈out.flatMap Ax,q∈vvs.flatMap Ax
 | k+1,[],vvs,out,pend,fr,vs,h,a,hp,e=>by simp[Jb]at h
 | k+1,_::_,[],out,pend,fr,vs,h,a,hp,e=>by simp[Jb]at h
 | k+1,p::i,x::vvs,out,pend,fr,vs,h,a,hp,e=>by
  unfold Jb at h
  unfold Iq at a
  cases pend with
  | nil=>cases hp
  | cons q pend=>
   obtain⟨t,u⟩:=P6 h a (by simpa using hp) e.2
   exact⟨t,λk d=>by rw[bC];exact bA _ (u k d)⟩
 | 0,[],[],out,pend,fr,vs,h,a,hp,e=>by
  simp only[Jb,aB]at h
  subst h
  cases vs with
  | nil=>exact⟨trivial,by simp⟩
  | cons=>simp[Iq]at a
 | 0,[],_::_,out,pend,fr,vs,h,a,hp,e=>by simp[Jb]at h
 | 0,_::_,[],out,pend,fr,vs,h,a,hp,e=>by simp[Jb]at h
 | 0,p::i,x::vvs,out,pend,fr,vs,h,a,hp,e=>by
  have:pend= []:=aW.1 hp
  subst this
  cases vs with
  | nil=>simp[Iq]at a
  | cons v vs=>
   unfold Jb at h
   unfold Iq at a
   cases C:Ae8 p with
   | none=>
    simp only[C]at h a
    cases m:Jb 0 i vvs with
    | none=>simp[m]at h
    | some r=>
     cases o:Iq 0 i vs with
     | none=>simp[o]at a
     | some s=>
      simp only[m,o,bX,aB]at h a
      subst h;subst a
      obtain⟨t,u⟩:=P6 (pend:= []) m o rfl e.2
      refine⟨⟨e.1,t⟩,λk d=>?_⟩
      rw[bC]at d ⊢
      exact(aK.1 d).elim (λh=>bM _ h) λh=>bA _ (u k h)
   | some fn=>
    simp only[C]at h a
    cases b:Bb9 v with
    | none=>simp[b]at a
    | some gc=>
     simp only[b]at a
     split at a
     ·rename_i z
      simp only[aD,beq_iff_eq]at z
      cases o:Iq fn.2 i vs with
      | none=>simp[o]at a
      | some s=>
       cases g:Vd (vvs.take fn.2) with
       | none=>simp[g]at h
       | some caps=>
        cases m:Jb fn.2 i vvs with
        | none=>simp[g,m]at h
        | some r=>
         simp only[g,m,o,bX,aB]at h a
         subst h;subst a
         obtain⟨cs,rfl,A⟩: ∃cs:Array Value,v= .func (.func gc.1) #[] cs/\cs.toList=gc.2:=by
          unfold Bb9 at b
          split at b
          ·split at b
           ·rename_i E
            injection b with b
            subst b
            rw[Array.isEmpty_iff]at E
            exact⟨_,by rw[E],rfl⟩
           ·cases b
          ·cases b
         have w:Eh c vvs (gc.2++s):=e.2
         have j:=w.cut
         rw[z.2]at j
         obtain⟨t,u⟩:=P6 m o z.2 w
         obtain⟨r1,r2⟩:=Adr g j
         refine⟨⟨⟨cs,by rw[z.1],by rw[A];exact r1⟩,t⟩,λk d=>?_⟩
         rw[bC]at d ⊢
         refine bA _ ?_
         rcases aK.1 d with d | d
         ·have:=r2 k d
          obtain⟨y,F,B⟩:=cG.1 this
          exact cG.2 ⟨y,List.mem_of_mem_take F,B⟩
         ·exact u k d
     ·cases a
theorem Ajc {N:Nat}{X:Nat->Prop}{F:FnC}{s:Spec}{st:St}{bks:List Nat}{xs:List IV}{args fargs:List Value}{L:List Nat}(R:Iq 0 s.params args=some fargs)(H:T6 P s.params=some (st,bks))(M:F.bps=s.params.filter dF)(B:F.bks=bks)
  (hr:D0 P w (λb=>X b\/b∈L) (· ∈L) s.params xs fargs L) (hn:L.Nodup) (hX: ∀b∈L,¬ X b) (S: ∀b,X b->b<w.heap.size) (Y:a.tmps=args.toArray++bY (N - args.length) undef) (Z:st.tm.length<=N) (hd:a.defers= []):
  ∃μ bvs,xs.length=st.n/\Aoa F s.params fargs bvs μ/\CS P N X xs F L w μ st μ a w:=by
 unfold T6 at H
 cases u:(Jc P s.params 0 {n:=Avt (s.params.map PS.arity),m:=0,gs:= [],obs:= []}).run Il with
 | none=>simp[u]at H
 | some q=>
  obtain⟨⟨r,es⟩,lets,sl,ks⟩:=q
  simp only[u]at H
  cases C:Jb 0 s.params r.1 with
  | none=>simp[C]at H
  | some vvs=>
  simp only[C,aB,aV]at H
  obtain⟨rfl,rfl⟩:=H
  let c:Cx:= {P,ρ:=xs,μ:=λ_=>undef,w,O:=λb=>X b\/b∈L,W:=(· ∈L)}
  have G0:Reg c (λ_=>False) Il.tm (cur Il ([]:List (Nat × Option Ob))) a (· ∈L):=by
   rw[Ma]
   exact⟨λb y=> .inr y,(λs=>⟨true,rfl,(λ_=>trivial),(λh=>by cases h)⟩),(λk o h=>by cases h),(λk I o o' b h=>by cases h),(λk o b h=>by cases h),(λs k h=>by simp[Il,nothing,Ca,Ax,A5]at h),(λk o h=>by cases h)⟩
  have hE:Ev Il (Jc c.P s.params 0) {n:=Avt (s.params.map PS.arity),m:=0,gs:= [],obs:= []} r es lets:=⟨sl,ks,u⟩
  obtain⟨⟨len1,len2⟩,q1,q2,μ',q3,z,T,Q,q7⟩:=Sv (Lt:=(· ∈L)) (λb h=>h) rfl hE hr hn (λb y=>⟨y,y⟩) G0 (λi hi=>by simp[c]) (λk _ h=>h)
  have E: ∀k,As (λ_=>False) 0 es.m k->k<es.m:=λk h=>h.elim (λh=>h.elim) λh=>h.2
  obtain⟨T,U⟩:=P6 (pend:= []) C R rfl T
  have Q: ∀k∈vvs.flatMap Ax,As (λ_=>False) 0 es.m k:=λk d=>Q k (U k d)
  have g:(({n:=Avt (s.params.map PS.arity),m:=es.m,tm:=slotsOf vvs 0,ob:=We es.obs []} :St).view.ob)=cur Il es.obs:=by
   funext k
   show Oi k (We es.obs [])=_
   rw[Mm]
   unfold cur
   cases Hc k es.obs<;>rfl
  obtain⟨⟨f1,f2⟩,f3,f4,f5⟩:=q7.facts
  have Lat:Dp (· <es.m) (c.at μ') (Bh P X xs (cur Il es.obs) μ' w):=
   {P:=rfl,ρ:=λ_ _ h=>h,μ:=λ_ _=>rfl,stays:=Kj.refl _ _,O:=λb _ y=>y.imp id fun⟨k,o,e,j,A⟩=>(z.rest k o b e j A).2,W:=λb _ ⟨k,o,e,j,A⟩=>(z.rest k o b e j A).2,WO:=λb y=> .inr y}
  obtain⟨g1,g2⟩:=T.get2
  have Z:args.length<=N:=by
   rw[<-g1,<-Ace (vs:=vvs) (i:=0)];exact Z
  refine⟨μ',J1 s.params fargs,len1,⟨M,λh=>Zw len2 (by rw[<-M];exact h),by rw[B,M];exact⟨f1,f2⟩,by rw[B];exact f4,by rw[M];exact f5⟩,?_⟩
  refine⟨⟨?_,hd,λt=>?_,λk o h=>?_,λk1 k2 o1 o2 b e j A h4 h5 h6=>?_,λk o b e j A=>?_,S,λt k d=>?_,λk o h=>?_⟩,.refl _ _,λb y=>?_,λk d=>⟨E k (f3 k (by rw[<-B];exact d)),rfl⟩⟩
  ·rw[Y];simp;omega
  ·rw[g]
   show Ap2 _ (Hz t (slotsOf vvs 0)) _
   rw[Mn]
   simp only[dK,Zt,dU]
   cases J:vvs[t]? with
   | none=>exact⟨true,rfl,λ_=>trivial,λh=>by cases h⟩
   | some x=>
    obtain⟨v,e,j⟩:=g2 t x J
    have K:=(aT.1 e).1
    have:a.tmps.getD t undef=v:=by
     rw[Y]
     have:(args.toArray++bY (N - args.length) undef)[t]?=some v:=by
      rw[Array.getElem?_append_left (by simpa using K)]
      simpa using e
     simp[this]
    rw[this]
    exact⟨true,rfl,λ_=>Lat.Apb (λk d=>E k (Q k (cG.2 ⟨x,bU J,d⟩))) j,λh=>by cases h⟩
  ·rw[g]at h ⊢
   exact Lat.Af0 (E k (z.ko k o h).1) (λI G=>E I ((z.ko k o h).2 I G)) (λ_ _ _ _=>rfl) (z.obj k o h)
  ·rw[g]at e j
   exact z.sep k1 k2 o1 o2 b e j A h4 h5 h6
  ·rw[g]at e
   exact hX b (z.rest k o b e j A).2
  ·have d:k∈Ca (Hz t (slotsOf vvs 0)).x :=d
   rw[Mn]at d
   simp only[dK,Zt,dU]at d
   cases J:vvs[t]? with
   | none=>rw[J]at d;simp[nothing,Ca,Ax,A5]at d
   | some x=>
    rw[J]at d
    exact E k (Q k (cG.2 ⟨x,bU J,d⟩))
  ·rw[g]at h
   exact⟨E k (z.ko k o h).1,λI G=>E I ((z.ko k o h).2 I G)⟩
  ·rw[g]at y
   obtain⟨k,o,e,j,A⟩:=y
   exact .inl (z.rest k o b e j A).2
end
end Go.CT
namespace Go.CT
open EM
def run (T:Job->Option PT)(pr:Nat->Option (List IV->Option (List IV))):Nat->Job->List IV->Option (List IV)
 | 0,_,_=>none
 | k+1,j,vs=>
  match pr j.spec with
  | some f=>f vs
  | none=>
   match T j with
   | some pt=>pt.den (run T pr k) j.spec vs
   | none=>none
def C4 (P:Program)(f:List IV->Option (List IV))(s:Spec):Prop:=
 ∀ (w:World) (X:Nat->Prop) (xs:List IV) (args:List Value) (L:List Nat) (rs:List IV),
  D0 P w (λb=>X b\/b∈L) (· ∈L) s.params xs args L->L.Nodup->(∀b∈L,¬ X b)->(∀b,X b->b<w.heap.size)->
  f xs=some rs->Atk P s.fn args.toArray w (Ty P X s args L rs w)
def Aec (P:Program)(f:List IV->Option (List IV))(s:Spec):Prop:=
 ∀ (w:World) (X:Nat->Prop) (xs:List IV) (args fargs:List Value) (L:List Nat) (rs:List IV),Iq 0 s.params args=some fargs->
  D0 P w (λb=>X b\/b∈L) (· ∈L) s.params xs fargs L->L.Nodup->(∀b∈L,¬ X b)->(∀b,X b->b<w.heap.size)->
  f xs=some rs->Atk P s.fn args.toArray w (Ty P X s fargs L rs w)
theorem U3: ∀ {a:List PS} {vs fs:List Value},a.all (λp=>(Ae8 p).isNone)=true->Iq 0 a vs=some fs->fs=vs
 | [],[],fs,_,h=>by simp only[Iq,aB]at h;exact h.symm
 | [],_::_,fs,_,h=>by simp[Iq]at h
 | _::_,[],fs,_,h=>by simp[Iq]at h
 | p::a,v::vs,fs,hp,h=>by
  simp only[cQ,aD,Option.isNone_iff_eq_none]at hp
  unfold Iq at h
  simp only[hp.1]at h
  cases b:Iq 0 a vs with
  | none=>simp[b]at h
  | some r=>
   simp only[b,bX,aB]at h
   subst h
   rw[U3 hp.2 b]
theorem C4.flat {P:Program}{f:List IV->Option (List IV)}{s:Spec}(h:C4 P f s)(hp:s.params.all (λp=>(Ae8 p).isNone)=true):Aec P f s:=by
 intro w X xs args fargs L rs a
 rw[U3 hp a]
 exact h w X xs args L rs
structure Bdc (P:Program)(specs:List (Nat × Spec))(T:Job->Option PT)(i:Nat)(s:Spec)(fn:Func)(root:Code)(F:FnC)(bs:List Blk)(st:St)(fuel:Nat):Prop where
 hf:P.funcs[s.fn]?=some fn
 hname:(fn.name == "runtime.NumGoroutine")=false
 hbody:fn.body=some root
 hvars:F.vars=fn.results.toList
 hrs:F.rs=s.results
 hbps:F.bps=s.params.filter dF
 hlen:st.tm.length<=fn.ntmps
 hst:T6 P s.params=some (st,F.bks)
 entry:T ⟨i,0⟩=comp P specs fn.ntmps F bs fuel true [.code [] root] st
 Yy: ∀ (n:Nat) (b:Blk),bs[n]?=some b->T ⟨i,n+1⟩=(Qt root b.key).bind λtodo=>comp P specs fn.ntmps F bs fuel true todo b.st
section
variable {P:Program}{specs:List (Nat × Spec)}{T:Job->Option PT}{pr:Nat->Option (List IV->Option (List IV))}
theorem Azp (x:PI):(if x.key.1=1 then(1,x.key.2.1,[]) else(x.key.1,0,x.key.2.2))=x.key:=by
 cases x<;>rfl
theorem Ap3 (t:P.follows .mixedOrders =true){i:Nat}{s:Spec}{fn:Func}{root:Code}{F:FnC}{bs:List Blk}{st:St}{fuel:Nat}(h:Bdc P specs T i s fn root F bs st fuel)(hp:pr i=none){X:Nat->Prop}{args bvs:List Value}{L0:List Nat}{w0:World}{hdv:Nat->Value}
  (u:Aoa F s.params args bvs hdv): ∀k,(∀j,j<=k->Sound P specs (run T pr j))->A1u P fn.ntmps X (run T pr k) F bs root i s args L0 w0 hdv
 | 0,_=>λn b _ todo _ _ vs rs a w μ e=>by simp[run]at e
 | k+1,y=>λn b A todo r g vs rs a w μ e hlen C=>by
  have o:=h.Yy n b A
  have c:=e
  simp only[run,hp]at c
  obtain⟨todo0,pt,q,m,B⟩: ∃todo pt,Qt root b.key=some todo/\comp P specs fn.ntmps F bs fuel true todo b.st=some pt/\T ⟨i,n+1⟩=some pt:=by
   cases q:Qt root b.key with
   | none=>rw[o,q]at c;simp at c
   | some todo0=>
    rw[q]at o
    cases m:comp P specs fn.ntmps F bs fuel true todo0 b.st with
    | none=>simp only[o,aA,m]at c;cases c
    | some pt=>exact⟨todo0,pt,rfl,m,by rw[o];exact m⟩
  obtain⟨z,E⟩:=Afl q
  have d:todo0.map PI.key=todo.map PI.key:=by
   rw[E,<-g,List.map_map]
   apply List.map_congr_left
   intro x _
   exact Azp x
  have hitems:=Ym z r d
  have hd:pt.den (run T pr k) i vs=some rs:=by
   simp only[run,hp,B]at e;exact e
  have:=Ahl t (y k (cI k)) h.hrs u (Ap3 t h hp u k λj G=>y j (cO G)) fuel true todo0 b.st pt vs rs a w μ m z hlen C hd
  intro fb cs
  obtain⟨H,w',I,v,r1,r2⟩:=this fb cs
  rw[hitems]at r1
  exact⟨H,w',I,v,r1,r2⟩
theorem Ai7 {w:World}{O Lt:Nat->Prop} : ∀ {a:List PS} {xs:List IV} {vs:List Value} {L:List Nat},D0 P w O Lt a xs vs L->a.length=vs.length
 | [],_,[],_,_=>rfl
 | _::_,_,_::_,_,h=>by
  obtain⟨_,_,_,_,_,_,_,h⟩:=h
  simp[Ai7 h]
 | [],_,_::_,_,h=>h.elim
 | _::_,_,[],_,h=>h.elim
theorem O6 {fn:Func}{tmps:Array Value}{w:World}{v:List Value}(h:(fn.results.toList.mapM (M8 tmps)).run P w= .ok v w):(results fn tmps).run P w= .ok (packed v) w:=by
 have a:results fn tmps=(do let vs <-fn.results.mapM (M8 tmps);pure (if h:vs.size=1 then vs[0]else .tuple vs)):=by
  unfold results
  congr 2
 have b:fn.results.mapM (M8 tmps)=List.toArray<$> fn.results.toList.mapM (M8 tmps):=by
  rw[<-List.mapM_toArray]
 rw[a,Sem.run_bind,b,Sem.run_map,h]
 simp only[Result.andThen_ok,Sem.run_pure]
 congr 1
 unfold packed
 cases v with
 | nil=>simp
 | cons x v=>
  cases v with
  | nil=>simp
  | cons y v=>simp
theorem Bds (m:P.follows .mixedOrders =true){i:Nat}{s:Spec}{fn:Func}{root:Code}{F:FnC}{bs:List Blk}{st:St}{fuel k:Nat}(h:Bdc P specs T i s fn root F bs st fuel)(hp:pr i=none)(o: ∀j,j<=k->Sound P specs (run T pr j)):
  Aec P (run T pr (k+1) ⟨i,0⟩) s:=by
 intro w X xs args fargs L rs e u x y g d
 have c:=d
 simp only[run,hp]at c
 obtain⟨pt,e1,z⟩: ∃pt,comp P specs fn.ntmps F bs fuel true [.code [] root] st=some pt/\T ⟨i,0⟩=some pt:=by
  cases q:comp P specs fn.ntmps F bs fuel true [.code [] root] st with
  | none=>rw[h.entry,q]at c;cases c
  | some pt=>exact⟨pt,rfl,by rw[h.entry,q]⟩
 obtain⟨μ,bvs,A,r,B⟩:=Ajc (N:=fn.ntmps) (a:= {tmps:=args.toArray++bY (fn.ntmps - args.length) undef,defers:= []}) e h.hst h.hbps rfl u x y g rfl h.hlen rfl
 have hd:pt.den (run T pr k) i xs=some rs:=by
  simp only[run,hp,z]at d;exact d
 have C:=Ahl m (o k (aM k)) h.hrs r (Ap3 m h hp r k o) fuel true [.code [] root] st pt xs rs _ w μ e1 (by simp[PI.ok,Me]) A B hd
 refine .inl ⟨fn,h.hf,h.hname,by rw[h.hbody];rfl,λcs=>?_⟩
 let b:Frame:= {(default:Frame) with fn:=s.fn,kind:= .normal}
 obtain⟨E,w',G,v,r1,r2,t,H⟩:=C b cs
 have henter:Frame.enter P s.fn args.toArray .normal =b.at {tmps:=args.toArray++bY (fn.ntmps - args.length) undef,defers:= []} [.code root]:=by
  simp[Frame.enter,Frame.at,h.hf,h.hbody,b]
 rw[h.hvars]at t
 refine⟨.returned (packed v),w',{b.at E G with mode:= .returning},⟨packed v,rfl,H⟩,?_,rfl,rfl,r2,rfl,fn,h.hf,O6 t⟩
 rw[henter]
 exact r1
theorem sound (u:P.follows .mixedOrders =true)(h: ∀i s,(i,s)∈specs->(∃f,pr i=some f/\Aec P f s)\/(pr i=none/\((∀b,T ⟨i,b⟩=none)\/ ∃fn root F bs st fuel,Bdc P specs T i s fn root F bs st fuel))): ∀k,Sound P specs (run T pr k):=by
 intro k
 induction k using Nat.strongRecOn with
 | _ k x=>
  intro i s d w X xs args fargs L rs e q r t g a
  cases k with
  | zero=>simp[run]at a
  | succ k=>
   rcases h i s d with⟨f,y,c⟩ | ⟨hp,m | ⟨fn,root,F,bs,st,fuel,o⟩⟩
   ·exact c w X xs args fargs L rs e q r t g (by simpa only[run,y]using a)
   ·simp only[run,hp,m]at a
    cases a
   ·exact Bds u o hp (λj z=>x j (by omega)) w X xs args fargs L rs e q r t g a
end
end Go.CT
namespace Go.CT
section
variable {R R':Job->List IV->Option (List IV)}
theorem Mj.Abj (h: ∀j xs rs,R j xs=some rs->R' j xs=some rs)(ρ:List IV): ∀ (l:Mj) (rs:List IV),l.ev R ρ=some rs->l.ev R' ρ=some rs
 | .Bv _ _,_,e=>e
 | .call s as n,rs,e=>by
  simp only[dJ,aC]at e ⊢
  obtain⟨ys,⟨xs,a,b⟩,c⟩:=e
  exact⟨ys,⟨xs,a,h _ _ _ b⟩,c⟩
theorem K1.Abj (h: ∀j xs rs,R j xs=some rs->R' j xs=some rs)(ρ:List IV)(g:K1)(rs:List IV)(e:g.ev R ρ=some rs):g.ev R' ρ=some rs:=by
 simp only[dB,aC]at e ⊢
 obtain⟨b,c,a⟩:=e
 refine⟨b,c,?_⟩
 cases b with
 | false=>exact a
 | true=>exact Mj.Abj h ρ _ _ a
theorem PT.Od (h: ∀j xs rs,R j xs=some rs->R' j xs=some rs)(s:Nat): ∀ (pt:PT) (ρ rs:List IV),pt.den R s ρ=some rs->pt.den R' s ρ=some rs
 | .lets l k,ρ,rs,e=>by
  simp only[cJ,aC]at e ⊢
  obtain⟨xs,a,d⟩:=e
  exact⟨xs,K1.Abj h ρ l xs a,Od h s k _ _ d⟩
 | .ite c p q,ρ,rs,e=>by
  simp only[cJ]at e ⊢
  split
  ·rename_i g;rw[g]at e;exact Od h s p _ _ e
  ·rename_i g;rw[g]at e;exact Od h s q _ _ e
  ·rename_i a d
   split at e
   ·exact absurd ‹_› a
   ·exact absurd ‹_› d
   ·exact e
 | .jump b as,ρ,rs,e=>by
  simp only[cJ,aC]at e ⊢
  obtain⟨xs,a,d⟩:=e
  exact⟨xs,a,h _ _ _ d⟩
 | .ret as,ρ,rs,e=>e
end
section
variable (T:Job->Option PT)(pr:Nat->Option (List IV->Option (List IV)))
theorem Amu: ∀ (k:Nat) (j:Job) (xs rs:List IV),run T pr k j xs=some rs->run T pr (k+1) j xs=some rs
 | 0,_,_,_,e=>by simp[run]at e
 | k+1,j,xs,rs,e=>by
  rw[run]at e ⊢
  cases hp:pr j.spec with
  | some f=>rw[hp]at e;exact e
  | none=>
   rw[hp]at e
   cases a:T j with
   | none=>rw[a]at e;exact e
   | some pt=>rw[a]at e;exact PT.Od (Amu k) _ pt _ _ e
theorem Als {k a:Nat}(b:k<=a)(j:Job)(xs rs:List IV)(e:run T pr k j xs=some rs):run T pr a j xs=some rs:=by
 induction b with
 | refl=>exact e
 | step _ c=>exact Amu T pr _ j xs rs c
open Classical in
noncomputable def V (j:Job) (xs:List IV):Option (List IV):=
 if h: ∃rs,∃k,run T pr k j xs=some rs then some (Classical.choose h) else none
theorem X6 {j:Job}{xs rs:List IV} :V T pr j xs=some rs↔ ∃k,run T pr k j xs=some rs:=by
 unfold V
 constructor
 ·intro h
  split at h
  ·rename_i a
   have:=cX a
   injection h with h
   rw[h]at this
   exact this
  ·cases h
 ·rintro⟨k,c⟩
  have a: ∃rs,∃k,run T pr k j xs=some rs:=⟨rs,k,c⟩
  rw[dif_pos a]
  obtain⟨d,b⟩:=cX a
  have g:=Als T pr (dN k d) j xs _ c
  have e:=Als T pr (dI k d) j xs _ b
  rw[g]at e
  exact e.symm
theorem Aik (k:Nat)(j:Job)(xs rs:List IV)(h:run T pr k j xs=some rs):V T pr j xs=some rs:=(X6 T pr).2 ⟨k,h⟩
theorem Mj.Agc (ρ:List IV): ∀ (l:Mj) (rs:List IV),l.ev (V T pr) ρ=some rs-> ∃k,l.ev (run T pr k) ρ=some rs
 | .Bv _ _,_,e=>⟨0,e⟩
 | .call s as n,rs,e=>by
  simp only[dJ,aC]at e ⊢
  obtain⟨ys,⟨xs,a,b⟩,c⟩:=e
  obtain⟨k,d⟩:=(X6 T pr).1 b
  exact⟨k,ys,⟨xs,a,d⟩,c⟩
theorem K1.Agc (ρ:List IV)(g:K1)(rs:List IV)(e:g.ev (V T pr) ρ=some rs): ∃k,g.ev (run T pr k) ρ=some rs:=by
 simp only[dB,aC]at e ⊢
 obtain⟨b,a,c⟩:=e
 cases b with
 | false=>exact⟨0,false,a,c⟩
 | true=>
  obtain⟨k,d⟩:=Mj.Agc T pr ρ _ _ c
  exact⟨k,true,a,d⟩
theorem PT.Tr (s:Nat): ∀ (pt:PT) (ρ rs:List IV),pt.den (V T pr) s ρ=some rs-> ∃k,pt.den (run T pr k) s ρ=some rs
 | .lets l k,ρ,rs,e=>by
  simp only[cJ,aC]at e ⊢
  obtain⟨xs,d,g⟩:=e
  obtain⟨a,h⟩:=K1.Agc T pr ρ l xs d
  obtain⟨b,i⟩:=Tr s k _ _ g
  exact⟨max a b,xs,K1.Abj (λj xs rs=>Als T pr (dN a b) j xs rs) ρ l xs h,PT.Od (λj xs rs=>Als T pr (dI a b) j xs rs) s k _ _ i⟩
 | .ite c p q,ρ,rs,e=>by
  simp only[cJ]at e ⊢
  split at e
  ·exact Tr s p _ _ e
  ·exact Tr s q _ _ e
  ·cases e
 | .jump b as,ρ,rs,e=>by
  simp only[cJ,aC]at e ⊢
  obtain⟨xs,d,g⟩:=e
  obtain⟨k,m⟩:=(X6 T pr).1 g
  exact⟨k,xs,d,m⟩
 | .ret as,ρ,rs,e=>⟨0,e⟩
theorem Ahs (j:Job)(xs:List IV):V T pr j xs=match pr j.spec with | some f=>f xs | none=>match T j with | some pt=>pt.den (V T pr) j.spec xs | none=>none:=by
 have key: ∀rs,V T pr j xs=some rs↔(match pr j.spec with | some f=>f xs | none=>match T j with | some pt=>pt.den (V T pr) j.spec xs | none=>none)=some rs:=by
  intro rs
  constructor
  ·intro h
   obtain⟨k,a⟩:=(X6 T pr).1 h
   cases k with
   | zero=>simp[run]at a
   | succ k=>
    rw[run]at a
    cases hp:pr j.spec with
    | some f=>simp only[hp]at a ⊢;exact a
    | none=>
     simp only[hp]at a ⊢
     cases b:T j with
     | none=>rw[b]at a;exact a
     | some pt=>simp only[b]at a ⊢;exact PT.Od (λj xs rs h=>Aik T pr k j xs rs h) _ pt _ _ a
  ·intro h
   refine(X6 T pr).2 ?_
   cases hp:pr j.spec with
   | some f=>
    simp only[hp]at h
    exact⟨1,by rw[run,hp];exact h⟩
   | none=>
    simp only[hp]at h
    cases b:T j with
    | none=>simp only[b]at h;cases h
    | some pt=>
     simp only[b]at h
     obtain⟨k,a⟩:=PT.Tr T pr _ pt _ _ h
     exact⟨k+1,by rw[run,hp];simp only[b];exact a⟩
 generalize d:(match pr j.spec with | some f=>f xs | none=>match T j with | some pt=>pt.den (V T pr) j.spec xs | none=>none)=o at key
 cases o with
 | some rs=>exact(key rs).2 rfl
 | none=>
  cases c:V T pr j xs with
  | none=>rfl
  | some rs=>exact absurd ((key rs).1 c) (by simp)
end
end Go.CT
namespace Go.CT
inductive SB where
 | done
 | Bv (p:Prim) (args:List Arg) (k:SB)
 | call (s:Nat) (args:List Arg) (n:Nat) (k:SB)
 | sel (c:Arg) (w:Bool) (B:SB) (y x:Arg) (k:SB)
 deriving Inhabited
inductive ST where
 | ite (b:SB) (c:Arg) (p q:ST)
 | jump (b:SB) (j:Nat) (args:List Arg)
 | ret (b:SB) (args:List Arg)
 deriving Inhabited
def cnd {α:Type}(c:IV)(p q:Option α):Option α:=
 match c with
 | .bool b=>if b=true then p else q
 | _=>none
def Cur (β:Type):Nat->Type
 | 0=>β
 | n+1=>IV->Cur β n
def curry {β:Type} :(n:Nat)->(List IV->β)->Cur β n
 | 0,f=>f []
 | n+1,f=>λx=>curry n λxs=>f (x::xs)
def uncurry {β:Type} :(n:Nat)->Cur (Option β) n->List IV->Option β
 | 0=>λf xs=>match xs with | []=>f | _::_=>none
 | n+1=>λf xs=>match xs with | []=>none | x::xs=>uncurry n (f x) xs
theorem uncurry_curry {β:Type} : ∀ (n:Nat) (f:List IV->Option β) (xs:List IV),uncurry n (curry n f) xs=if xs.length=n then f xs else none
 | 0,f,[]=>rfl
 | 0,f,_::_=>by simp[uncurry]
 | n+1,f,[]=>by simp[uncurry]
 | n+1,f,x::xs=>by
  simp only[aU,Nat.add_right_cancel_iff]
  exact uncurry_curry n (λxs=>f (x::xs)) xs
def calls {β:Type}(o:Option (List IV))(n:Nat)(f:Cur (Option β) n):Option β:=o.bind (uncurry n f)
def SB.runK (R:Job->List IV->Option (List IV)):SB-> {α:Type} ->List IV->(List IV->Option α)->Option α
 | .done,_,σ,K=>K σ
 | .Bv p as k,_,σ,K=>((aR σ as).bind p.ev).bind λx=>k.runK R (σ++ [x]) K
 | .call s as n k,_,σ,K=>calls ((aR σ as).bind (R ⟨s,0⟩)) n (curry n λys=>k.runK R (σ++ys) K)
 | .sel c true B y x k,_,σ,K=>((c.ev σ).bind λc=>cnd c (B.runK R σ λτ=>y.ev τ) (x.ev σ)).bind λv=>k.runK R (σ++ [v]) K
 | .sel c false B y x k,_,σ,K=>((c.ev σ).bind λc=>cnd c (x.ev σ) (B.runK R σ λτ=>y.ev τ)).bind λv=>k.runK R (σ++ [v]) K
def ST.den (R:Job->List IV->Option (List IV))(s:Nat):ST->List IV->Option (List IV)
 | .ite b c p q,σ=>b.runK R σ λτ=>(c.ev τ).bind λc=>cnd c (p.den R s τ) (q.den R s τ)
 | .jump b j as,σ=>b.runK R σ λτ=>(aR τ as).bind (R ⟨s,j⟩)
 | .ret b as,σ=>b.runK R σ λτ=>aR τ as
def mapArg (m:List (Option Arg)):Arg->Option Arg
 | .v i=>(m[i]?).join
 | .k c=>some (.k c)
def mapArgs (m:List (Option Arg)):List Arg->Option (List Arg)
 | []=>some []
 | a::as=>do
  let x <-mapArg m a
  let xs <-mapArgs m as
  pure (x::xs)
def Prim.same:Prim->Prim->Bool
 | .proj a b c,.proj d e c'=>a == d&&b == e&&c == c'
 | .index,.index | .len,.len | .Mo,.Mo | .C8,.C8 | .Bg,.Bg =>true
 | _,_=>false
def Arg.Anh:List Arg->List Arg->Bool
 | [],[]=>true
 | a::as,b::bs=>a.same b&&Arg.Anh as bs
 | _,_=>false
structure Av where
 p:Prim
 as:List Arg
 a:Arg
def Acv (p:Prim)(as:List Arg):List Av->Option Arg
 | []=>none
 | e::r=>if e.p.same p&&Arg.Anh e.as as then some e.a else Acv p as r
def Aes (x:Arg)(i:Nat):List Av->Option Arg
 | []=>none
 | e::r=>if Prim.Bg.same e.p&&e.a.same x then e.as[i]? else Aes x i r
def look (p:Prim)(as:List Arg)(av:List Av):Option Arg:=
 match Acv p as av with
 | some a=>some a
 | none=>
  match p,as with
  | .proj i 1 false,[x]=>Aes x i av
  | _,_=>none
def Lu (c:Arg)(w:Bool):List K1->List K1 × List K1
 | []=>([],[])
 | ⟨[],l⟩::ls=>([],⟨[],l⟩::ls)
 | ⟨(c',w')::gs,l⟩::ls=>
  if c.same c'&&w == w' then
   let r:=Lu c w ls
   (⟨gs,l⟩::r.1,r.2)
  else([],⟨(c',w')::gs,l⟩::ls)
def arities:List K1->Nat
 | []=>0
 | g::ls=>g.l.arity+arities ls
def newArgs (n:Nat):Nat->List (Option Arg)
 | 0=> []
 | k+1=>some (.v n)::newArgs (n+1) k
structure TS where
 m:List (Option Arg)
 av:List Av
 n:Nat
def trL:Nat->List K1->TS->Option (SB × TS)
 | 0,_,_=>none
 | _+1,[],s=>some (.done,s)
 | f+1,⟨[],.Bv p as⟩::ls,s=>
  match mapArgs s.m as with
  | none=>none
  | some as'=>
   match look p as' s.av with
   | some a=>trL f ls {s with m:=s.m++ [some a]}
   | none=>(trL f ls ⟨s.m++ [some (.v s.n)],⟨p,as',.v s.n⟩::s.av,s.n+1⟩).map λr=>(.Bv p as' r.1,r.2)
 | f+1,⟨[],.call t as k⟩::ls,s=>
  match mapArgs s.m as with
  | none=>none
  | some as'=>(trL f ls ⟨s.m++newArgs s.n k,s.av,s.n+k⟩).map λr=>(.call t as' k r.1,r.2)
 | f+1,⟨(c,w)::gs,l⟩::ls,s=>
  match (Lu c w (⟨(c,w)::gs,l⟩::ls)).2 with
  | ⟨[],.Bv .pick [c',x,y]⟩::rest=>
   if c.same c' then
    match mapArg s.m c,trL f (Lu c w (⟨(c,w)::gs,l⟩::ls)).1 s,mapArg s.m (if w then y else x) with
    | some b,some (B,sB),some xv=>
     match mapArg sB.m (if w then x else y) with
     | some yv=>(trL f rest ⟨s.m++bK (arities (Lu c w (⟨(c,w)::gs,l⟩::ls)).1) none++ [some (.v s.n)],s.av,s.n+1⟩).map λr=>(.sel b w B yv xv r.1,r.2)
     | none=>none
    | _,_,_=>none
   else none
  | _=>none
def trT (f:Nat):PT->List K1->TS->Option ST
 | .lets l k,acc,s=>trT f k (acc++ [l]) s
 | .ite c p q,acc,s=>
  match trL f acc s with
  | none=>none
  | some (B,s')=>
   match mapArg s'.m c,trT f p [] s',trT f q [] s' with
   | some c',some a,some b=>some (.ite B c' a b)
   | _,_,_=>none
 | .jump j as,acc,s=>
  match trL f acc s with
  | none=>none
  | some (B,s')=>(mapArgs s'.m as).map (.jump B j)
 | .ret as,acc,s=>
  match trL f acc s with
  | none=>none
  | some (B,s')=>(mapArgs s'.m as).map (.ret B)
def tr (n:Nat)(pt:PT):Option ST:=trT 5000 pt [] ⟨newArgs 0 n,[],n⟩
def Cq (R:Job->List IV->Option (List IV)):List K1->List IV->Option (List IV)
 | [],ρ=>some ρ
 | g::ls,ρ=>(g.ev R ρ).bind λxs=>Cq R ls (ρ++xs)
theorem Ot (R:Job->List IV->Option (List IV)): ∀ (as bs:List K1) (ρ:List IV),Cq R (as++bs) ρ=(Cq R as ρ).bind (Cq R bs)
 | [],bs,ρ=>rfl
 | a::as,bs,ρ=>by
  simp only[bV,Cq,aX]
  congr 1
  funext xs
  exact Ot R as bs (ρ++xs)
theorem Arg.Hk {a:Arg}{σ:List IV}{v:IV}(h:a.ev σ=some v)(ys:List IV):a.ev (σ++ys)=some v:=by
 cases a with
 | k c=>exact h
 | v i=>
  simp only[dE]at h ⊢
  rw[aS (aT.1 h).1]
  exact h
theorem Arg.E2: ∀ {as:List Arg} {σ:List IV} {vs:List IV},aR σ as=some vs-> ∀ (ys:List IV),aR (σ++ys) as=some vs
 | [],σ,vs,h,ys=>h
 | a::as,σ,vs,h,ys=>by
  simp only[aR,bE,aC,bI,aB]at h ⊢
  obtain⟨x,b,xs,c,d⟩:=h
  exact⟨x,Arg.Hk b ys,xs,Arg.E2 c ys,d⟩
structure Xc (m:List (Option Arg))(ρ σ:List IV):Prop where
 len:m.length=ρ.length
 val: ∀ (i:Nat) (a:Arg),m[i]?=some (some a)-> ∃v,ρ[i]?=some v/\a.ev σ=some v
def A6j (av:List Av)(σ:List IV):Prop:= ∀e∈av,∃v,(aR σ e.as).bind e.p.ev=some v/\e.a.ev σ=some v
structure A83 (s:TS)(ρ σ:List IV):Prop where
 mp:Xc s.m ρ σ
 av:A6j s.av σ
 n:σ.length=s.n
theorem Xc.arg {m:List (Option Arg)}{ρ σ:List IV}(h:Xc m ρ σ){a b:Arg}(e:mapArg m a=some b):b.ev σ=a.ev ρ:=by
 cases a with
 | k c=>simp[mapArg]at e;subst e;rfl
 | v i=>
  simp only[mapArg,cA]at e
  obtain⟨v,d,g⟩:=h.val i b e
  rw[g];exact d.symm
theorem Xc.args {m:List (Option Arg)}{ρ σ:List IV}(h:Xc m ρ σ): ∀ {as as':List Arg},mapArgs m as=some as'->aR σ as'=aR ρ as
 | [],as',e=>by simp[mapArgs]at e;subst e;rfl
 | a::as,as',e=>by
  simp only[mapArgs,bE,aC,bI,aB]at e
  obtain⟨x,b,xs,c,rfl⟩:=e
  simp only[aR]
  rw[h.arg b,h.args c]
theorem Xc.ext {m:List (Option Arg)}{ρ σ:List IV}(h:Xc m ρ σ)(ms:List (Option Arg))(xs ys:List IV)(g:ms.length=xs.length)(j: ∀ (i:Nat) (a:Arg),ms[i]?=some (some a)-> ∃v,xs[i]?=some v/\a.ev (σ++ys)=some v):Xc (m++ms) (ρ++xs) (σ++ys):=by
 refine⟨by simp[h.len,g],λi a e=>?_⟩
 by_cases d:i<m.length
 ·rw[aS d]at e
  obtain⟨v,b,c⟩:=h.val i a e
  exact⟨v,by rw[aS (by rw[<-h.len];exact d)];exact b,Arg.Hk c ys⟩
 ·rw[aL (by omega)]at e
  obtain⟨v,b,c⟩:=j _ _ e
  refine⟨v,?_,c⟩
  rw[aL (by rw[<-h.len];omega),<-h.len];exact b
theorem A6j.ext {av:List Av}{σ:List IV}(h:A6j av σ)(ys:List IV):A6j av (σ++ys):=λe b=>by
 obtain⟨v,a,c⟩:=h e b
 refine⟨v,?_,Arg.Hk c ys⟩
 rw[aC]at a ⊢
 obtain⟨xs,d,g⟩:=a
 exact⟨xs,Arg.E2 d ys,g⟩
theorem Pv: ∀ (k n i:Nat),(newArgs n k)[i]?=if i<k then some (some (.v (n+i))) else none
 | 0,n,i=>by simp[newArgs]
 | k+1,n,0=>by simp[newArgs]
 | k+1,n,i+1=>by
  simp only[newArgs,cB]
  rw[Pv k (n+1) i]
  simp only[Nat.add_lt_add_iff_right,dS,dG 1 i]
theorem Lg: ∀ (k n:Nat),(newArgs n k).length =k
 | 0,_=>rfl
 | k+1,n=>by simp[newArgs,Lg k]
theorem A83.grow {s:TS}{ρ σ:List IV}(h:A83 s ρ σ)(xs:List IV):A83 ⟨s.m++newArgs s.n xs.length,s.av,s.n+xs.length⟩ (ρ++xs) (σ++xs):=by
 refine⟨h.mp.ext _ _ _ (by simp[Lg]) (λi a e=>?_),h.av.ext _,by simp[h.n]⟩
 rw[Pv]at e
 split at e
 ·rename_i b
  simp only[aB]at e
  subst e
  refine⟨xs[i],by simp[b],?_⟩
  simp only[dE]
  rw[aL (by rw[h.n];omega),h.n]
  simp[b]
 ·cases e
theorem Arg.Pl {a b:Arg}(h:a.same b=true):a=b:=by
 unfold Arg.same at h
 split at h<;>simp_all
theorem Arg.Amk: ∀ {as bs:List Arg},Arg.Anh as bs=true->as=bs
 | [],[],_=>rfl
 | a::as,b::bs,h=>by
  simp only[Arg.Anh,aD]at h
  rw[Arg.Pl h.1,Arg.Amk h.2]
 | [],_::_,h=>by simp[Arg.Anh]at h
 | _::_,[],h=>by simp[Arg.Anh]at h
theorem Prim.Pl {p q:Prim}(h:p.same q=true):p=q:=by
 unfold Prim.same at h
 split at h<;>simp_all
theorem A20: ∀ {as:List Arg} {σ:List IV} {xs:List IV},aR σ as=some xs-> ∀ (i:Nat) (a:Arg),as[i]?=some a-> ∃v,xs[i]?=some v/\a.ev σ=some v
 | [],σ,xs,h,i,a,e=>by simp at e
 | b::as,σ,xs,h,i,a,e=>by
  simp only[aR,bE,aC,bI,aB]at h
  obtain⟨x,c,ys,d,rfl⟩:=h
  cases i with
  | zero=>simp at e;subst e;exact⟨x,by simp,c⟩
  | succ i=>
   simp only[cB]at e ⊢
   exact A20 d i a e
theorem Afb {p:Prim}{as:List Arg}{a:Arg}{σ:List IV} : ∀ {av:List Av},A6j av σ->Acv p as av=some a-> ∃v,(aR σ as).bind p.ev=some v/\a.ev σ=some v
 | [],_,h=>by simp[Acv]at h
 | e::r,b,h=>by
  simp only[Acv]at h
  split at h
  ·rename_i c
   rw[aD]at c
   injection h with h
   subst h
   rw[<-Prim.Pl c.1,<-Arg.Amk c.2]
   exact b e (by simp)
  ·exact Afb (λe d=>b e (by simp[d])) h
theorem Ady {x:Arg}{i:Nat}{a:Arg}{σ:List IV} : ∀ {av:List Av},A6j av σ->Aes x i av=some a-> ∃v,(aR σ [x]).bind (Prim.proj i 1 false).ev =some v/\a.ev σ=some v
 | [],_,h=>by simp[Aes]at h
 | e::r,b,h=>by
  simp only[Aes]at h
  split at h
  ·rename_i c
   rw[aD]at c
   obtain⟨v,d,j⟩:=b e (by simp)
   rw[<-Prim.Pl c.1,aC]at d
   obtain⟨xs,m,g⟩:=d
   simp only[aF,aB]at g
   obtain⟨u,o,q⟩:=A20 m i a h
   refine⟨u,?_,q⟩
   rw[<-Arg.Pl c.2]
   simp[aR,j,<-g,aF,o]
  ·exact Ady (λe t=>b e (by simp[t])) h
theorem look_ok {p:Prim}{as:List Arg}{a:Arg}{σ:List IV}{av:List Av}(b:A6j av σ)(h:look p as av=some a): ∃v,(aR σ as).bind p.ev=some v/\a.ev σ=some v:=by
 unfold look at h
 split at h
 ·rename_i c
  injection h with h
  subst h
  exact Afb b c
 ·split at h
  ·exact Ady b h
  ·cases h
theorem Zk (R:Job->List IV->Option (List IV))(c:Arg)(w:Bool): ∀ (ls:List K1) (ρ:List IV),(∀b,c.ev ρ=some (.bool b)->
  Cq R ls ρ=(Cq R (if b=w then(Lu c w ls).1 else[]) ρ).bind λρ'=>Cq R (Lu c w ls).2 (if b=w then ρ' else ρ++bK (arities (Lu c w ls).1) .junk))
 | [],ρ,b,e=>by
  by_cases a:b=w<;>simp[Lu,Cq,arities,a]
 | ⟨[],l⟩::ls,ρ,b,e=>by
  by_cases a:b=w<;>simp[Lu,Cq,arities,a]
 | ⟨(c',w')::gs,l⟩::ls,ρ,b,e=>by
  by_cases i:(c.same c'&&w == w')=true
  ·have d:=i
   rw[aD,beq_iff_eq]at d
   have e1:=Arg.Pl d.1
   obtain⟨_,j⟩:=d
   subst e1 j
   simp only[Lu,i,Zt]
   by_cases a:b=w
   ·have h:=λxs=>Zk R c w ls (ρ++xs) b (Arg.Hk e xs)
    simp only[a,Zt]at h ⊢
    simp only[Cq,dB,cM,e,a,Zt,aX]
    congr 1
    funext g
    congr 1
    funext xs
    exact h xs
   ·have h:=Zk R c w ls (ρ++bK l.arity .junk) b (Arg.Hk e _)
    simp only[a,Zf,Cq,aA]at h ⊢
    simp only[dB,cM,e,a,Zf,aA,aE,arities]
    rw[h,aG,List.replicate_append_replicate]
  ·simp only[Lu,i,Zf,aE]
   by_cases a:b=w<;>simp[arities,Cq,a]
theorem Anp (R:Job->List IV->Option (List IV)){c:Arg}{w:Bool}{gs:List (Arg × Bool)}{l:Mj}{ls:List K1}{ρ:List IV}(a: ∀b,c.ev ρ≠some (.bool b)):Cq R (⟨(c,w)::gs,l⟩::ls) ρ=none:=by
 have:cM ρ ((c,w)::gs)=none:=by
  simp only[cM]
 simp[Cq,dB,this]
theorem Zm {α:Type}(R:Job->List IV->Option (List IV)){c:Arg}{w:Bool}{B k:SB}{y x:Arg}{σ:List IV}{K:List IV->Option α}(a: ∀b,c.ev σ≠some (.bool b)):(SB.sel c w B y x k).runK R σ K=none:=by
 have: ∀ (p q:Option IV),((c.ev σ).bind λc=>cnd c p q)=none:=by
  intro p q
  cases h:c.ev σ with
  | none=>rfl
  | some v=>
   cases v with
   | bool b=>exact absurd h (a b)
   | _=>rfl
 cases w<;>simp only[SB.runK,this,Option.bind_none]
theorem SB.Axr {α:Type}(R:Job->List IV->Option (List IV)){c:Arg}{w b:Bool}{B k:SB}{y x:Arg}{σ:List IV}{K:List IV->Option α}(a:c.ev σ=some (.bool b)):
  (SB.sel c w B y x k).runK R σ K=(if b=w then B.runK R σ λτ=>y.ev τ else x.ev σ).bind λv=>k.runK R (σ++ [v]) K:=by
 cases w<;>cases b<;>simp[SB.runK,a,cnd]
theorem SB.Nb (R:Job->List IV->Option (List IV)): ∀ (B:SB) {α β:Type} (σ:List IV) (K:List IV->Option α) (f:α->Option β),(B.runK R σ K).bind f=B.runK R σ λτ=>(K τ).bind f
 | .done,_,_,σ,K,f=>rfl
 | .Bv p as k,_,_,σ,K,f=>by
  simp only[SB.runK,aX]
  congr 1;funext v;congr 1;funext x
  exact Nb R k _ K f
 | .call s as n k,_,_,σ,K,f=>by
  simp only[SB.runK,calls,aX]
  congr 1;funext v;congr 1;funext xs
  rw[uncurry_curry,uncurry_curry]
  split
  ·exact Nb R k _ K f
  ·rfl
 | .sel c true B y x k,_,_,σ,K,f=>by
  simp only[SB.runK,aX]
  congr 1;funext v;congr 1;funext u
  exact Nb R k _ K f
 | .sel c false B y x k,_,_,σ,K,f=>by
  simp only[SB.runK,aX]
  congr 1;funext v;congr 1;funext u
  exact Nb R k _ K f
theorem Xc.Aaf {m:List (Option Arg)}{ρ σ:List IV}(h:Xc m ρ σ){a b:Arg}(e:mapArg m a=some b): ∃v,a.ev ρ=some v/\b.ev σ=some v:=by
 cases a with
 | k c=>simp[mapArg]at e;subst e;exact⟨c,rfl,rfl⟩
 | v i=>
  simp only[mapArg,cA]at e
  exact h.val i b e
theorem Aai (c:Arg)(w:Bool): ∀ (ls:List K1),arities ls=arities (Lu c w ls).1 +arities (Lu c w ls).2
 | []=>rfl
 | ⟨[],l⟩::ls=>by simp[Lu,arities]
 | ⟨(c',w')::gs,l⟩::ls=>by
  simp only[Lu]
  split
  ·simp only[arities]
   rw[Aai c w ls]
   omega
  ·simp[arities]
theorem Wy: ∀ (f:Nat) (ls:List K1) (s:TS) (B:SB) (s':TS),trL f ls s=some (B,s')->s'.m.length=s.m.length+arities ls
 | 0,_,_,_,_,e=>by simp[trL]at e
 | f+1,[],s,B,s',e=>by
  simp only[trL,aB,aV]at e
  rw[<-e.2];rfl
 | f+1,⟨[],.Bv p as⟩::ls,s,B,s',e=>by
  simp only[trL]at e
  split at e
  ·cases e
  split at e
  ·have:=Wy f _ _ _ _ e
   simp[arities,cN]at this ⊢;omega
  ·simp only[aH]at e
   obtain⟨⟨B1,d⟩,e1,a⟩:=e
   simp only[aV]at a
   obtain⟨rfl,rfl⟩:=a
   have:=Wy f _ _ _ _ e1
   simp[arities,cN]at this ⊢;omega
 | f+1,⟨[],.call t as k⟩::ls,s,B,s',e=>by
  simp only[trL]at e
  split at e
  ·cases e
  simp only[aH]at e
  obtain⟨⟨B1,d⟩,e1,a⟩:=e
  simp only[aV]at a
  obtain⟨rfl,rfl⟩:=a
  have:=Wy f _ _ _ _ e1
  simp[arities,cN,Lg]at this ⊢;omega
 | f+1,⟨(c,w)::gs,l⟩::ls,s,B,s',e=>by
  simp only[trL]at e
  split at e
  rotate_left
  ·cases e
  rename_i c' x y rest b
  split at e
  rotate_left
  ·cases e
  split at e
  rotate_left
  ·cases e
  split at e
  rotate_left
  ·cases e
  simp only[aH]at e
  obtain⟨⟨B2,g⟩,e1,a⟩:=e
  simp only[aV]at a
  obtain⟨rfl,rfl⟩:=a
  have:=Wy f _ _ _ _ e1
  rw[Aai c w,b]
  simp[arities,cN]at this ⊢;omega
theorem S1 (R:Job->List IV->Option (List IV)): ∀ (f:Nat) (ls:List K1) (s:TS) (B:SB) (s':TS),trL f ls s=some (B,s')-> ∀ (ρ σ:List IV),A83 s ρ σ->
  ∀ {α:Type} (K K':List IV->Option α),(∀xs ys,xs.length=arities ls->A83 s' (ρ++xs) (σ++ys)->K (ρ++xs)=K' (σ++ys))->(Cq R ls ρ).bind K=B.runK R σ K'
 | 0,_,_,_,_,e,_,_,_,_,_,_,_=>by simp[trL]at e
 | f+1,[],s,B,s',e,ρ,σ,h,α,K,K',A=>by
  simp only[trL,aB,aV]at e
  obtain⟨rfl,rfl⟩:=e
  have:=A [] [] rfl (by simpa using h)
  simpa [Cq,SB.runK]using this
 | f+1,⟨[],.Bv p as⟩::ls,s,B,s',e,ρ,σ,h,α,K,K',A=>by
  simp only[trL]at e
  split at e
  ·cases e
  rename_i as' has
  have F:=h.mp.args has
  have I:Cq R (⟨[],.Bv p as⟩::ls) ρ=((aR σ as').bind p.ev).bind λx=>Cq R ls (ρ++ [x]):=by
   simp only[Cq,dB,cM,aA,Zt,dJ,F]
   cases(aR ρ as).bind p.ev<;>rfl
  rw[I,aX]
  split at e
  ·rename_i a ha
   obtain⟨v,Z,M⟩:=look_ok h.av ha
   rw[Z,aA]
   refine S1 R f ls _ B s' e (ρ++ [v]) σ ⟨?_,h.av,h.n⟩ K K' (λxs ys g o=>?_)
   ·have:=h.mp.ext [some a] [v] [] rfl (λi a' d=>by
     cases i with
     | zero=>simp at d;subst d;exact⟨v,by simp,by simpa using M⟩
     | succ i=>simp at d)
    simpa using this
   ·have:=A ([v]++xs) ys (by simp[arities,cN,g];omega) (by rw[<-aG];exact o)
    rwa [<-aG]at this
  ·simp only[aH]at e
   obtain⟨⟨B1,N⟩,e1,C⟩:=e
   simp only[aV]at C
   obtain⟨rfl,rfl⟩:=C
   simp only[SB.runK]
   cases hv:(aR σ as').bind p.ev with
   | none=>rfl
   | some v=>
    simp only[aA]
    refine S1 R f ls _ B1 N e1 (ρ++ [v]) (σ++ [v]) ⟨(h.grow [v]).mp,?_,(h.grow [v]).n⟩ K K' (λxs ys g o=>?_)
    ·intro e Q
     rcases aI.1 Q with rfl | Q
     ·refine⟨v,?_,by simp[dE,<-h.n]⟩
      rw[aC]at hv ⊢
      obtain⟨xs,r,S⟩:=hv
      exact⟨xs,Arg.E2 r _,S⟩
     ·exact h.av.ext [v] e Q
    ·have:=A ([v]++xs) ([v]++ys) (by simp[arities,cN,g];omega) (by rw[<-aG,<-aG];exact o)
     rwa [<-aG,<-aG]at this
 | f+1,⟨[],.call t as k⟩::ls,s,B,s',e,ρ,σ,h,α,K,K',A=>by
  simp only[trL]at e
  split at e
  ·cases e
  rename_i as' has
  have F:=h.mp.args has
  simp only[aH]at e
  obtain⟨⟨B1,N⟩,e1,C⟩:=e
  simp only[aV]at C
  obtain⟨rfl,rfl⟩:=C
  simp only[SB.runK,calls,Cq,dB,cM,aA,Zt,dJ,F,aX]
  congr 1;funext vs;congr 1;funext ys
  rw[uncurry_curry]
  by_cases g:ys.length=k
  ·subst g
   simp only[Zt,aA]
   refine S1 R f ls _ B1 N e1 (ρ++ys) (σ++ys) (h.grow ys) K K' (λxs zs g o=>?_)
   have:=A (ys++xs) (ys++zs) (by simp[arities,cN,g]) (by rw[<-aG,<-aG];exact o)
   rwa [<-aG,<-aG]at this
  ·simp[g]
 | f+1,⟨(c,w)::gs,l⟩::ls,s,B,s',e,ρ,σ,h,α,K,K',A=>by
  simp only[trL]at e
  split at e
  rotate_left
  ·cases e
  rename_i c' x y rest j
  split at e
  rotate_left
  ·cases e
  rename_i G
  have G:=Arg.Pl G
  subst G
  split at e
  rotate_left
  ·cases e
  rename_i c1 B1 sB xv T hB H
  split at e
  rotate_left
  ·cases e
  rename_i yv z
  simp only[aH]at e
  obtain⟨⟨B2,s2⟩,e1,C⟩:=e
  simp only[aV]at C
  obtain⟨rfl,rfl⟩:=C
  have J:=h.mp.arg T
  have aa:=h.mp.arg H
  by_cases E: ∃b,c.ev ρ=some (.bool b)
  rotate_left
  ·rw[Anp R (λb L=>E ⟨b,L⟩),Zm R (λb L=>E ⟨b,by rw[<-J];exact L⟩)]
   rfl
  obtain⟨b,E⟩:=E
  rw[Zk R c w _ ρ b E,SB.Axr R (J.trans E),j]
  -- what follows the choice
  have next: ∀ (js:List IV) (v:IV),js.length=arities (Lu c w (⟨(c,w)::gs,l⟩::ls)).1 ->(Cq R rest (ρ++js++ [v])).bind K=B2.runK R (σ++ [v]) K':=by
   intro js v m
   refine S1 R f rest _ B2 s2 e1 (ρ++js++ [v]) (σ++ [v]) ⟨?_,h.av.ext _,by simp[h.n]⟩ K K' (λxs ys g o=>?_)
   ·have:=h.mp.ext (bK (arities (Lu c w (⟨(c,w)::gs,l⟩::ls)).1) none++ [some (.v s.n)]) (js++ [v]) [v] (by simp[m]) (λi a d=>by
     by_cases U:i<js.length
     ·rw[aS (by simp[<-m,U]),List.getElem?_replicate]at d
      split at d<;>simp at d
     ·rw[aL (by simp[<-m];omega)]at d
      simp only[cY,<-m]at d
      cases X:i - js.length with
      | zero=>
       rw[X]at d
       simp at d
       subst d
       refine⟨v,?_,by simp[dE,<-h.n]⟩
       rw[aL (by omega),X];rfl
      | succ q=>rw[X]at d;simp at d)
    rw[aG,aG];exact this
   ·have:=A (js++ [v]++xs) ([v]++ys) (by rw[Aai c w,j];simp[arities,cN,g,m];omega) (by simpa using o)
    simpa using this
  have pickE: ∀ (ρ':List IV),c.ev ρ'=some (.bool b)-> ∀K2:List IV->Option α,(Cq R (⟨[],.Bv .pick [c,x,y]⟩::rest) ρ').bind K2=((x.ev ρ').bind λxv=>(y.ev ρ').bind λyv=>some (if b then xv else yv)).bind λv=>(Cq R rest (ρ'++ [v])).bind K2:=by
   intro ρ' L K2
   simp only[Cq,dB,cM,aA,Zt,dJ,aR,L,bE,bI]
   cases x.ev ρ' with
   | none=>rfl
   | some xv=>
    cases y.ev ρ' with
    | none=>rfl
    | some yv=>rfl
  by_cases Y:b=w
  ·subst Y
   simp only[Zt]
   rw[aX,SB.Nb]
   refine S1 R f _ s B1 sB hB ρ σ h _ _ (λxs ys g o=>?_)
   obtain⟨v,Z,M⟩:=o.mp.Aaf z
   obtain⟨u,r,_⟩:=h.mp.Aaf H
   have r:=Arg.Hk r xs
   rw[pickE _ (Arg.Hk E xs),M,aA,<-next xs v g]
   cases b<;>simp_all
  ·simp only[Y,Zf]
   rw[Cq,aA]
   rw[pickE _ (Arg.Hk E _)]
   obtain⟨u,r,S⟩:=h.mp.Aaf H
   have r:=Arg.Hk r (bK (arities (Lu c w (⟨(c,w)::gs,l⟩::ls)).1) IV.junk)
   have hlen:=Wy f _ _ _ _ hB
   have: ∃v,(if w then x else y).ev (ρ++bK (arities (Lu c w (⟨(c,w)::gs,l⟩::ls)).1) IV.junk)=some v:=by
    generalize (if w then x else y)=a at z
    cases a with
    | k c=>exact⟨c,rfl⟩
    | v i=>
     simp only[mapArg,cA]at z
     have:=(aT.1 z).1
     simp only[dE]
     rw[hlen,h.mp.len]at this
     exact⟨_,aZ (by simpa using this)⟩
   obtain⟨v,h5⟩:=this
   rw[S,aA,<-next (bK _ IV.junk) u cY]
   cases b<;>cases w<;>first
    | exact absurd rfl Y
    | (simp only[Zt,Zf,aE]at r h5 ⊢;simp only[r,h5,aA])
theorem Alh (R:Job->List IV->Option (List IV))(s:Nat)(f:Nat): ∀ (pt:PT) (acc:List K1) (t:TS) (st:ST),trT f pt acc t=some st-> ∀ (ρ σ:List IV),A83 t ρ σ->
  ((Cq R acc ρ).bind λρ'=>pt.den R s ρ')=st.den R s σ
 | .lets l k,acc,t,st,e,ρ,σ,h=>by
  have i:=Alh R s f k (acc++ [l]) t st e ρ σ h
  rw[<-i,Ot,aX]
  congr 1;funext ρ'
  simp only[cJ,Cq,aX]
  rfl
 | .ite c p q,acc,t,st,e,ρ,σ,h=>by
  simp only[trT]at e
  split at e
  ·cases e
  rename_i B s' d
  split at e
  rotate_left
  ·cases e
  rename_i c' m o r hp u
  injection e with e
  subst e
  simp only[ST.den]
  refine S1 R f acc t B s' d ρ σ h _ _ (λxs ys _ a=>?_)
  have ihp:=Alh R s f p [] s' m hp _ _ a
  have ihq:=Alh R s f q [] s' o u _ _ a
  simp only[Cq,aA]at ihp ihq
  rw[<-ihp,<-ihq,a.mp.arg r]
  simp only[cJ]
  cases w:c.ev (ρ++xs) with
  | none=>rfl
  | some v=>
   cases v with
   | bool b=>cases b<;>rfl
   | _=>rfl
 | .jump j as,acc,t,st,e,ρ,σ,h=>by
  simp only[trT]at e
  split at e
  ·cases e
  rename_i B s' d
  simp only[aH]at e
  obtain⟨as',g,rfl⟩:=e
  simp only[ST.den]
  refine S1 R f acc t B s' d ρ σ h _ _ (λxs ys _ a=>?_)
  rw[a.mp.args g];rfl
 | .ret as,acc,t,st,e,ρ,σ,h=>by
  simp only[trT]at e
  split at e
  ·cases e
  rename_i B s' d
  simp only[aH]at e
  obtain⟨as',g,rfl⟩:=e
  simp only[ST.den]
  refine S1 R f acc t B s' d ρ σ h _ _ (λxs ys _ a=>?_)
  rw[a.mp.args g];rfl
theorem Bc6 {R:Job->List IV->Option (List IV)}{s:Nat}{pt:PT}{st:ST}{xs:List IV}(h:tr xs.length pt=some st):pt.den R s xs=st.den R s xs:=by
 have:=Alh R s 5000 pt [] _ st h xs xs ⟨⟨by simp[Lg],λi a e=>by
  rw[Pv]at e
  split at e
  ·simp only[aB]at e
   subst e
   rename_i b
   exact⟨xs[i],by simp[b],by simp[dE,b]⟩
  ·cases e⟩,λe c=>by simp at c,rfl⟩
 simpa [Cq]using this
end Go.CT
namespace Go.CT
def I0 (i:Nat):List (Nat × Spec)->Option Spec
 | []=>none
 | (k,s)::r=>if k == i then some s else I0 i r
section
variable (P:Program)
structure EntD where
 fn:Func
 root:Code
 st:St
 bks:List Nat
def A5r (s:Spec):Option EntD:=
 match P.funcs[s.fn]? with
 | none=>none
 | some fn=>
  match fn.body with
  | none=>none
  | some root=>
   match T6 P s.params with
   | some r=>if r.1.tm.length<=fn.ntmps then some ⟨fn,root,r.1,r.2⟩else none
   | none=>none
def tab (specs:List (Nat × Spec))(Yy:Nat->List Blk)(fuel:Nat)(j:Job):Option PT:=
 match I0 j.spec specs with
 | none=>none
 | some s=>
  match A5r P s with
  | none=>none
  | some e=>
   match j.blk with
   | 0=>comp P specs e.fn.ntmps ⟨s.results,e.fn.results.toList,s.params.filter dF,e.bks⟩ (Yy j.spec) fuel true [.code [] e.root] e.st
   | n+1=>
    match (Yy j.spec)[n]? with
    | none=>none
    | some b=>(Qt e.root b.key).bind λtodo=>comp P specs e.fn.ntmps ⟨s.results,e.fn.results.toList,s.params.filter dF,e.bks⟩ (Yy j.spec) fuel true todo b.st
def M3:List (Nat × Spec)->Bool
 | []=>true
 | (k,_)::r=>r.all (λq=>q.1 !=k)&&M3 r
def A37 (specs:List (Nat × Spec)):Bool:=specs.all λq=>match P.funcs[q.2.fn]? with | some fn=> !(fn.name == "runtime.NumGoroutine") | none=>true
end
theorem Wi {i:Nat}{s:Spec} : ∀ {specs:List (Nat × Spec)},M3 specs=true->(i,s)∈specs->I0 i specs=some s
 | [],_,h=>by cases h
 | (k,s')::r,a,h=>by
  simp only[M3,aD,aY,bne_iff_ne]at a
  simp only[I0]
  rcases aI.1 h with e | h
  ·injection e with e1 b
   subst e1 b
   simp
  ·have: ¬ k=i:=λe=>a.1 _ h e.symm
   simp[this,Wi a.2 h]
theorem S4 {i:Nat}{s:Spec} : ∀ {specs:List (Nat × Spec)},I0 i specs=some s->(i,s)∈specs
 | [],h=>by cases h
 | (k,s')::r,h=>by
  simp only[I0]at h
  split at h
  ·rename_i e
   simp only[beq_iff_eq]at e
   injection h with h
   subst e h
   simp
  ·exact aJ _ (S4 h)
theorem Aq4 {P:Program}{specs:List (Nat × Spec)}{Yy:Nat->List Blk}{fuel:Nat}{pr:Nat->Option (List IV->Option (List IV))}(q:P.follows .mixedOrders =true)(t:M3 specs=true)(j:A37 P specs=true)
  (m: ∀i s f,(i,s)∈specs->pr i=some f->Aec P f s): ∀k,Sound P specs (run (tab P specs Yy fuel) pr k):=by
 refine sound q λi s c=>?_
 cases hp:pr i with
 | some f=>exact .inl ⟨f,rfl,m i s f c hp⟩
 | none=>
  refine .inr ⟨rfl,?_⟩
  have o:=Wi t c
  cases a:A5r P s with
  | none=>exact .inl λb=>by simp only[tab,o,a]
  | some e=>
   have g:=a
   unfold A5r at a
   split at a
   ·cases a
   rename_i fn h
   split at a
   ·cases a
   rename_i root d
   split at a
   rotate_left
   ·cases a
   rename_i r u
   split at a
   rotate_left
   ·cases a
   rename_i hlen
   injection a with a
   subst a
   refine .inr ⟨fn,root,⟨s.results,fn.results.toList,s.params.filter dF,r.2⟩,Yy i,r.1,fuel,⟨h,?_,d,rfl,rfl,rfl,hlen,u,?_,?_⟩⟩
   ·have:=aY.1 j _ c
    simp only[h]at this
    simpa using this
   ·simp only[tab,o,g]
   ·intro n b w
    simp only[tab,o,g,w]
theorem Aq {P:Program}{specs:List (Nat × Spec)}{Yy:Nat->List Blk}{fuel:Nat}{pr:Nat->Option (List IV->Option (List IV))}{i b:Nat}{xs:List IV}{e:Option (List IV)}(hp:pr i=none)
  (h:((tab P specs Yy fuel ⟨i,b⟩).bind (tr xs.length)).map (λst=>st.den (V (tab P specs Yy fuel) pr) i xs)=some e):V (tab P specs Yy fuel) pr ⟨i,b⟩ xs=e:=by
 rw[Ahs]
 simp only[hp]
 cases a:tab P specs Yy fuel ⟨i,b⟩with
 | none=>rw[a]at h;simp at h
 | some pt=>
  rw[a]at h
  simp only[aA,aH]at h
  obtain⟨st,c,d⟩:=h
  simp only
  rw[Bc6 c,d]
end Go.CT
namespace Go.CT.O
def proj (i:Nat)(x:IV):Option IV:=aF (.proj i 1 false) [x]
def projs (i n:Nat)(x:IV):Option IV:=aF (.proj i n true) [x]
def add (k:IntKind)(x y:IV):Option IV:=aF (.arith .add k) [x,y]
def sub (k:IntKind)(x y:IV):Option IV:=aF (.arith .sub k) [x,y]
def mul (k:IntKind)(x y:IV):Option IV:=aF (.arith .mul k) [x,y]
def quo (k:IntKind)(x y:IV):Option IV:=aF (.quo k) [x,y]
def rem (k:IntKind)(x y:IV):Option IV:=aF (.rem k) [x,y]
def eq (x y:IV):Option IV:=aF (.cmp .eql) [x,y]
def ne (x y:IV):Option IV:=aF (.cmp .neq) [x,y]
def lt (x y:IV):Option IV:=aF (.cmp .lss) [x,y]
def le (x y:IV):Option IV:=aF (.cmp .leq) [x,y]
def gt (x y:IV):Option IV:=aF (.cmp .gtr) [x,y]
def ge (x y:IV):Option IV:=aF (.cmp .geq) [x,y]
def sEq (x y:IV):Option IV:=aF (.cmpS .eql) [x,y]
def sNe (x y:IV):Option IV:=aF (.cmpS .neq) [x,y]
def sLt (x y:IV):Option IV:=aF (.cmpS .lss) [x,y]
def sLe (x y:IV):Option IV:=aF (.cmpS .leq) [x,y]
def sGt (x y:IV):Option IV:=aF (.cmpS .gtr) [x,y]
def sGe (x y:IV):Option IV:=aF (.cmpS .geq) [x,y]
def cat (x y:IV):Option IV:=aF .cat [x,y]
def bEq (x y:IV):Option IV:=aF (.eqB false) [x,y]
def bNe (x y:IV):Option IV:=aF (.eqB true) [x,y]
def aEq (x y:IV):Option IV:=aF (.eqA false) [x,y]
def aNe (x y:IV):Option IV:=aF (.eqA true) [x,y]
def not (x:IV):Option IV:=aF .not [x]
def neg (k:IntKind)(x:IV):Option IV:=aF (.neg k) [x]
def conv (k:IntKind)(x:IV):Option IV:=aF (.conv k) [x]
def len (x:IV):Option IV:=aF .len [x]
def Mo (x:IV):Option IV:=aF .Mo [x]
def index (x i:IV):Option IV:=aF .index [x,i]
def C8 (x i:IV):Option IV:=aF .C8 [x,i]
def slice (x l h:IV):Option IV:=aF .slice [x,l,h]
def Pk (x l:IV):Option IV:=aF .Pk [x,l]
def Hq (x l h:IV):Option IV:=aF .Hq [x,l,h]
def E7 (x l:IV):Option IV:=aF .E7 [x,l]
def append (n:Nat)(x y:IV):Option IV:=aF (.append n) [x,y]
def Po (x y:IV):Option IV:=aF .Po [x,y]
def Bg (xs:List IV):Option IV:=some (.agg xs)
def Bn (xs:List IV):Option IV:=some (.list xs)
def setAt (o n:Nat)(a w:Bool)(x i y:IV):Option IV:=aF (.setAt o n a w) [x,i,y]
def max (x y:IV):Option IV:=aF .max [x,y]
def min (x y:IV):Option IV:=aF .min [x,y]
def pick (c x y:IV):Option IV:=aF .pick [c,x,y]
def Aus (n:Nat)(z l c:IV):Option IV:=aF (.Aus n z) [l,c]
def bytesOf (x:IV):Option IV:=aF .bytesOf [x]
def strOf (x:IV):Option IV:=aF .strOf [x]
def clear (z x l h:IV):Option IV:=aF (.clear z) [x,l,h]
def copy (x l y:IV):Option IV:=aF .copy [x,l,y]
def Ro (n:Nat)(x y:IV):Option IV:=aF (.Ro n) [x,y]
def Afz (x:IV):Option IV:=aF .Afz [x]
def M0 (x y:IV):Option IV:=aF .M0 [x,y]
def M4 (x y:IV):Option IV:=aF .M4 [x,y]
def Ht (x y:IV):Option IV:=aF .Ht [x,y]
def Anx (z x y:IV):Option IV:=aF (.Anx z) [x,y]
def Air (x y:IV):Option IV:=aF .Air [x,y]
def Anu (x y z:IV):Option IV:=aF .Anu [x,y,z]
def Kk:List IV->Option (List IV)
 | [.list xs]=>some [.list xs]
 | _=>none
def R6:List IV->Option (List IV)
 | [.list xs]=>(xs.mapM J2).map λl=> [.str ⟨l.toArray⟩]
 | _=>none
def Azo:List IV->Option (List IV):=λ_=>none
def Sb (n:Nat):ByteArray:=if n<10 then⟨#[(48+n).toUInt8]⟩else⟨#[(48+n / 10).toUInt8,(48+n % 10).toUInt8]⟩
def An5:List IV->Option (List IV)
 | [.int n]=>if 0<=n/\n<100 then some [.str (Sb n.toNat)]else none
 | _=>none
def Att:List IV->Option (List IV)
 | [.list xs]=>some [.list xs]
 | _=>none
def Io:List IV->Option (List IV)
 | [.list xs]=>if xs.length<=1048576 * 1024 then some [.list xs]else none
 | _=>none
section
variable {k:IntKind}{a b c i l h:Int}{p q:Bool}{s t:ByteArray}{xs ys:List IV}{n o:Nat}{x y:IV}
@[simp] theorem Bby:proj n (.agg xs)=xs[n]?:=rfl
@[simp] theorem Ba2:projs o n (.agg xs)=some (.agg ((xs.drop o).take n)):=rfl
@[simp] theorem Al:add k (.int a) (.int b)=some (.int (k.wrap (a+b))):=rfl
@[simp] theorem Ch:sub k (.int a) (.int b)=some (.int (k.wrap (a - b))):=rfl
@[simp] theorem Agz:mul k (.int a) (.int b)=some (.int (k.wrap (a * b))):=rfl
@[simp] theorem A3z:quo k (.int a) (.int b)=if b=0 then none else some (.int (k.wrap (a.tdiv b))):=rfl
@[simp] theorem A6b:rem k (.int a) (.int b)=if b=0 then none else some (.int (a.tmod b)):=rfl
@[simp] theorem eq_int:eq (.int a) (.int b)=some (.bool (decide (a=b))):=by simp[eq,aF,K4];rfl
@[simp] theorem Bx:ne (.int a) (.int b)=some (.bool (!decide (a=b))):=by simp[ne,aF,K4];rfl
@[simp] theorem Ah:lt (.int a) (.int b)=some (.bool (decide (a<b))):=rfl
@[simp] theorem Ed:le (.int a) (.int b)=some (.bool (decide (a<=b))):=rfl
@[simp] theorem Bt:gt (.int a) (.int b)=some (.bool (decide (b<a))):=rfl
@[simp] theorem Gf:ge (.int a) (.int b)=some (.bool (decide (b<=a))):=rfl
theorem R8:s.toList=t.toList↔s=t:=by
 constructor
 ·intro h
  rw[ByteArray.toList_eq,ByteArray.toList_eq]at h
  cases s;cases t
  simpa using h
 ·rintro rfl;rfl
@[simp] theorem Cw:sEq (.str s) (.str t)=some (.bool (decide (s=t))):=by
 have:(s.toList == t.toList)=decide (s=t):=by
  rw[cK,beq_iff_eq,decide_eq_true_iff];exact R8
 simp[sEq,aF,Kt,this]
@[simp] theorem Dz:sNe (.str s) (.str t)=some (.bool (!decide (s=t))):=by
 have:(s.toList == t.toList)=decide (s=t):=by
  rw[cK,beq_iff_eq,decide_eq_true_iff];exact R8
 simp only[sNe,aF,Kt,this];rfl
def A25 (s t:ByteArray):Bool:=Op.bytesLess s.toList t.toList
@[simp] theorem A6n:sLt (.str s) (.str t)=some (.bool (A25 s t)):=rfl
@[simp] theorem A4i:sGe (.str s) (.str t)=some (.bool (!A25 s t)):=rfl
@[simp] theorem Agi:sLe (.str s) (.str t)=some (.bool (A25 s t||decide (s=t))):=by
 have:(s.toList == t.toList)=decide (s=t):=by
  rw[cK,beq_iff_eq,decide_eq_true_iff];exact R8
 simp only[sLe,aF,Kt,this];rfl
@[simp] theorem A7t:sGt (.str s) (.str t)=some (.bool (!(A25 s t||decide (s=t)))):=by
 have:(s.toList == t.toList)=decide (s=t):=by
  rw[cK,beq_iff_eq,decide_eq_true_iff];exact R8
 simp only[sGt,aF,Kt,this];rfl
@[simp] theorem A8g:cat (.str s) (.str t)=if s.size+t.size<=A4 then some (.str (s++t)) else none:=rfl
@[simp] theorem Bbu:bEq (.bool p) (.bool q)=some (.bool (p == q)):=rfl
@[simp] theorem A0p:bNe (.bool p) (.bool q)=some (.bool (p !=q)):=rfl
@[simp] theorem Bcp:aEq (.agg xs) (.agg ys)=(IV.N6 xs ys).map .bool :=rfl
@[simp] theorem Bcn:aNe (.agg xs) (.agg ys)=(IV.N6 xs ys).map λr=> .bool (!r):=rfl
@[simp] theorem Ap:not (.bool p)=some (.bool !p):=rfl
@[simp] theorem Bc2:neg k (.int a)=some (.int (k.wrap (0 - a))):=rfl
@[simp] theorem Aln:conv k (.int a)=some (.int (k.wrap a)):=rfl
@[simp] theorem An:len (.list xs)=some (.int xs.length):=rfl
@[simp] theorem Bl:Mo (.str s)=some (.int s.size):=rfl
@[simp] theorem Ak:index (.list xs) (.int i)=if 0<=i then xs[i.toNat]? else none:=rfl
@[simp] theorem Hd:C8 (.str s) (.int i)=if 0<=i then(s[i.toNat]?).map λb=> .int b.toNat else none:=rfl
@[simp] theorem Yt:slice (.list xs) (.int l) (.int h)=if 0<=l/\l<=h/\h<=xs.length then some (.list ((xs.take h.toNat).drop l.toNat)) else none:=rfl
@[simp] theorem A14:Pk (.list xs) (.int l)=if 0<=l/\l<=xs.length then some (.list (xs.drop l.toNat)) else none:=rfl
@[simp] theorem Rl:Hq (.str s) (.int l) (.int h)=if 0<=l/\l<=h/\h<=s.size then some (.str (s.extract l.toNat h.toNat)) else none:=rfl
@[simp] theorem Afd:E7 (.str s) (.int l)=if 0<=l/\l<=s.size then some (.str (s.extract l.toNat s.size)) else none:=rfl
@[simp] theorem Bf:append n (.list xs) (.list ys)=if(xs.length+ys.length) * n<=A4 then some (.list (xs++ys)) else none:=rfl
@[simp] theorem A22:Po (.list xs) (.str s)=if xs.length+s.size<=A4 then some (.list (xs++B6 s)) else none:=rfl
@[simp] theorem A9:Bg xs=some (.agg xs):=rfl
@[simp] theorem Ay:Bn xs=some (.list xs):=rfl
@[simp] theorem Bdg:max (.int a) (.int b)=some (.int (if a<b then b else a)):=rfl
@[simp] theorem Bc8:min (.int a) (.int b)=some (.int (if b<a then b else a)):=rfl
@[simp] theorem Vz:pick (.bool p) x y=some (if p then x else y):=rfl
@[simp] theorem A33:setAt o n p true (.list xs) (.int i) x=if 0<=i then(match xs[i.toNat]? with | none=>none | some _=>some (.list (xs.set i.toNat x))) else none:=rfl
@[simp] theorem A9x:Aus n x (.int l) (.int c)=if 0<=l/\l<=c/\c * n<=A4 then some (.list (bK l.toNat x)) else none:=rfl
@[simp] theorem A6k:bytesOf (.str s)=some (.list (B6 s)):=rfl
@[simp] theorem A84:strOf (.list xs)=(xs.mapM J2).map λl=> .str ⟨l.toArray⟩:=rfl
@[simp] theorem Aa {α:Type}{u v:Option α} :cnd (.bool p) u v=if p=true then u else v:=rfl
end
section
variable {β:Type}{f:Cur (Option β) 1}{x y z u v:IV}
@[simp] theorem Ae {f:IV->Option β} :calls (some [x]) 1 f=f x:=rfl
@[simp] theorem Ci {f:IV->IV->Option β} :calls (some [x,y]) 2 f=f x y:=rfl
@[simp] theorem Kh {f:IV->IV->IV->Option β} :calls (some [x,y,z]) 3 f=f x y z:=rfl
@[simp] theorem A78 {f:IV->IV->IV->IV->Option β} :calls (some [x,y,z,u]) 4 f=f x y z u:=rfl
@[simp] theorem E3 {f:IV->IV->IV->IV->IV->Option β} :calls (some [x,y,z,u,v]) 5 f=f x y z u v:=rfl
@[simp] theorem A8y {n:Nat}{f:Cur (Option β) n} :calls none n f=none:=rfl
end
end Go.CT.O
namespace Go.CT
open EM
def A9p:Operand->Bool
 | .const (.slice none 0 0)=>true
 | _=>false
def Agm (root:Code):Option (TypeId × Code):=
 match root with
 | .seq (.region _ a false) (.seq (.seq (.region _ a2 false) (.cond (.tmp 4) (.seq (.region _ a4 false) .ret) .skip)) rest)=>
  match a.toList,a2.toList,a4.toList with
  | [⟨some 2,.assign b,_,_,_,none⟩],[⟨some 3,.move (.tmp 0),_,_,_,none⟩,⟨some 4,.binOp .eql xt (.tmp 3) c _,_,_,_,none⟩],[⟨some 2,.assign d,_,_,_,none⟩]=>
   if A9p b&&A9p c&&A9p d then some (xt,rest) else none
  | _,_,_=>none
 | _=>none
theorem Ahh {x:Operand}(h:A9p x=true):x= .const (.slice none 0 0):=by
 unfold A9p at h
 split at h
 ·rfl
 ·cases h
theorem Ao6 {P:Program}{w:World}{t e:TypeId}{x y:Operand}{A:Option Addr}{n c:Nat}(a:P.underlying t=some (.slice e)):
  (do eqGuard .eql t x y (.slice A n c) (.slice none 0 0);binOp .eql t (.slice A n c) (.slice none 0 0):Sem Value).run P w= .ok (.bool A.isNone) w:=by
 have key: ∀d,(Op.equalIn (d+1) t (.slice A n c) (.slice none 0 0)).run P w= .ok A.isNone w:=by
  intro d
  have b:(underlying t).run P w= .ok (.slice e) w:=by simp[underlying,a]
  unfold Op.equalIn
  rw[Sem.run_bind,b]
  cases A<;>rfl
 have e:Op.equal t (.slice A n c) (.slice none 0 0)=Op.equalIn (9999+1) t (.slice A n c) (.slice none 0 0):=rfl
 have g:(Op.equalIn 10000 t (.slice A n c) (.slice none 0 0)).run P w= .ok A.isNone w:=key 9999
 simp only[eqGuard,binOp,e,Sem.run_bind]
 simp[g]
theorem wp_assign {P:Program}{id:Nat}{ops:Array Oper}{d:Nat}{x:Operand}{ty:TypeId}{b:String}{es:Array Edge}{a:Act}{w:World}{Q:Exit->Act->World->Prop}(h:ops.toList= [⟨some d,.assign x,ty,b,es,none⟩])(c:Q .normal (a.put (some d) (a.eval x)) w):
  (Code.region id ops false).wp P Q a w:=by
 refine wp_region ?_
 have e:ops= #[⟨some d,.assign x,ty,b,es,none⟩]:=by apply dW;simpa using h
 subst e
 show wpOps P _ Q [0] a w
 rw[wpOps_cons]
 unfold wpOp
 simp only[cE,cC,Region.wanted,Zt]
 exact .inl (Cv (v:=a.eval x) rfl c)
theorem Ar3 {P:Program}{id:Nat}{ops:Array Oper}{t e:TypeId}{y:Operand}{ty1 ty2 yt:TypeId}{b d:String}{e1 g:Array Edge}{a:Act}{w:World}{A:Option Addr}{n c:Nat}{Q:Exit->Act->World->Prop}(i:P.underlying t=some (.slice e))
  (h:ops.toList= [⟨some 3,.move (.tmp 0),ty1,b,e1,none⟩,⟨some 4,.binOp .eql t (.tmp 3) y yt,ty2,d,g,none⟩]) (j:y= .const (.slice none 0 0)) (m:a.tmps.getD 0 undef= .slice A n c) (o:4<a.tmps.size)
  (q:Q .normal ((a.put (some 3) (.slice A n c)).put (some 4) (.bool A.isNone)) w):(Code.region id ops false).wp P Q a w:=by
 refine wp_region ?_
 have u:ops= #[⟨some 3,.move (.tmp 0),ty1,b,e1,none⟩,⟨some 4,.binOp .eql t (.tmp 3) y yt,ty2,d,g,none⟩]:=by apply dW;simpa using h
 subst u
 show wpOps P _ Q [0,1] a w
 rw[wpOps_cons]
 unfold wpOp
 simp only[cE,cC,Region.wanted,Zt]
 refine .inl (Cv (v:= .slice A n c) (by rw[<-m];rfl) ?_)
 rw[wpOps_cons]
 unfold wpOp
 simp only[cE,cC,cB,Region.wanted,Zt]
 refine .inl (Cv (v:= .bool A.isNone) ?_ q)
 have z:(a.put (some 3) (.slice A n c)).eval (.tmp 3)= .slice A n c:=by
  simp only[Act.eval,Act.put]
  rw[Array.getD_eq_getD_getElem?,Array.getElem?_setIfInBounds_self_of_lt (by omega)]
  rfl
 subst j
 have B:=Ao6 (P:=P) (w:=w) (x:= .tmp 3) (y:= .const (.slice none 0 0)) (A:=A) (n:=n) (c:=c) i
 show(do let r <- (do eqGuard .eql t (.tmp 3) (.const (.slice none 0 0)) ((a.put (some 3) (.slice A n c)).eval (.tmp 3)) (.slice none 0 0);binOp .eql t ((a.put (some 3) (.slice A n c)).eval (.tmp 3)) (.slice none 0 0):Sem Value);pure (Next.value r):Sem Next).run P w=_
 rw[z,Sem.run_bind,B]
 rfl
theorem Ah1 {P:Program}{w:World}{tm:Array Value}{v:Value}(h:tm.getD 2 undef=v):(([.tmp 2]:List ResultVar).mapM (M8 tm)).run P w= .ok [v] w:=by
 simp only[cL,dT,M8,h]
 simp
def Ab0 (B:Nat):PT:= .lets ⟨[],.Bv .Bn []⟩ (.lets ⟨[],.Bv (.append B) [.v 1,.v 0]⟩ (.ret [.v 2]))
theorem Ahw {B:Nat}(a:B<=131072){xs:List IV}(h:xs.length<=1048576 * 1024):(Ab0 B).den (λ_ _=>none) 0 [.list xs]=some [.list xs]:=by
 have:xs.length * B<=1048576 * 1024 * 131072:=Nat.mul_le_mul h a
 have b:xs.length * B<=A4:=by unfold A4;omega
 simp[Ab0,cJ,dB,cM,dJ,aR,dE,aF,b]
structure A8j (P:Program)(f:FuncId)(t e:TypeId)(fn:Func)(root rest:Code):Prop where
 hfn:P.funcs[f]?=some fn
 hname:(fn.name == "runtime.NumGoroutine")=false
 hbody:fn.body=some root
 htext:Agm root=some (t,rest)
 ht:P.underlying t=some (.slice e)
 he:0<Ag P e
 hres:fn.results.toList= [.tmp 2]
 hn:fn.ntmps=8
 hl:leaves P t=some [t]
 hs:Ag P t=1
 hrest: ∃B,comp P [] 8 ⟨[.cells t [true]],[.tmp 2],[],[]⟩ [] 50 true [.code [] rest] ⟨1,0,[(0,⟨[],.one (.leaf (.at (.v 0) t))⟩)],[]⟩=some (Ab0 B)/\B<=131072
theorem Np {P:Program}(hm:P.follows .mixedOrders =true){f:FuncId}{t e:TypeId}{fn:Func}{root rest:Code}(h:A8j P f t e fn root rest){al:Bool} :C4 P O.Io ⟨f,[.data t],[.cells t [true]],al⟩:=by
 intro w X xs args L rs hr hn hX ac K
 have ae:=hr
 obtain⟨G,M,q,d,ht,he,H,af,hl,ag,B,ah,hB⟩:=h
 match args,hr with
 | [v],hr=>
 obtain⟨ys,zs,L1,L2,e1,e2,⟨x,e3,e4,hx⟩,⟨e5,e6⟩⟩:=hr
 subst e3 e4 e5 e6 e1 e2
 obtain⟨us,A,c,rfl,rfl,Y⟩:=hx.Cl ht
 simp only[aO,O.Io]at K
 rw[aQ]at K
 obtain⟨hle,K⟩:=K
 injection K with K
 subst K
 -- the text
 unfold Agm at d
 split at d
 rotate_left
 ·cases d
 rename_i _ i1 a1 i2 a2 i4 a4 rest'
 split at d
 rotate_left
 ·cases d
 rename_i c1 ty1 ps1 es1 ty3 ps3 es3 xt c3 yt ty4 ps4 es4 c4 ty5 ps5 es5 ai aj ak
 rw[aQ]at d
 obtain⟨I,d⟩:=d
 simp only[aD]at I
 obtain⟨⟨S,T⟩,U⟩:=I
 have S:=Ahh S
 have T:=Ahh T
 have U:=Ahh U
 simp only[aB,aV]at d
 obtain⟨rfl,rfl⟩:=d
 refine .inl ⟨fn,G,M,by rw[q];rfl,λcs=>?_⟩
 let a0:Act:= {tmps:= #[Value.slice A us.length c]++bY 7 undef,defers:= []}
 let b:Frame:= {(default:Frame) with fn:=f,kind:= .normal}
 have J:Frame.enter P f #[.slice A us.length c] .normal =b.at a0 [.code (.seq (.region i1 a1 false) (.seq (.seq (.region i2 a2 false) (.cond (.tmp 4) (.seq (.region i4 a4 false) .ret) .skip)) rest'))]:=by
  simp[Frame.enter,Frame.at,G,q,b,a0,af]
 have am:T6 P [.data xt]=some (⟨1,0,[(0,⟨[],.one (.leaf (.at (.v 0) xt))⟩)],[]⟩,[]):=rfl
 obtain⟨μ,bvs,q1,q2,Z⟩:=Ajc (N:=8) (F:=⟨[.cells xt [true]],[.tmp 2],[],[]⟩) (s:=⟨f,[.data xt],[.cells xt [true]],al⟩) (a:=a0) rfl am rfl rfl ae hn hX ac rfl (by show 1<=8;decide) rfl
 let o:Act:=a0.put (some 2) (.slice none 0 0)
 let g:Act:=(o.put (some 3) (.slice A us.length c)).put (some 4) (.bool A.isNone)
 -- up to the question
 have aa:Steps P (lone (b.at a0 [.code (.seq (.region i1 a1 false) (.seq (.seq (.region i2 a2 false) (.cond (.tmp 4) (.seq (.region i4 a4 false) .ret) .skip)) rest'))]) cs w)
   (lone (b.at g [.code (.cond (.tmp 4) (.seq (.region i4 a4 false) .ret) .skip),.code rest']) cs w):=by
  refine .head step_seq ?_
  obtain⟨e,E,w',⟨r,y,z⟩,m⟩:=wp_assign (P:=P) (id:=i1) (a:=a0) (w:=w) (Q:=λe E w'=>e= .normal /\E=o/\w'=w) ai ⟨rfl,by rw[S];rfl,rfl⟩ b _ cs
  subst r
  rw[y,z]at m
  refine Steps.trans m ?_
  refine .head step_seq (.head step_seq ?_)
  obtain⟨e,E,w',⟨r,y,z⟩,m⟩:=Ar3 (P:=P) (id:=i2) (a:=o) (w:=w) (Q:=λe E w'=>e= .normal /\E=g/\w'=w) ht aj T (by simp[o,a0,Act.put]) (by simp[o,a0,Act.put]) ⟨rfl,rfl,rfl⟩ b _ cs
  subst r
  rw[y,z]at m
  exact m
 have h4:g.eval (.tmp 4)= .bool A.isNone:=by simp[g,o,a0,Act.eval,Act.put]
 cases A with
 | none=>
  have hz:us= []:=by
   obtain⟨_,_,vs,hh,_⟩:=Y
   cases us with
   | nil=>rfl
   | cons u us=>
    obtain⟨_,ad,h,_⟩:=hh (by simp)
    cases h
  subst hz
  obtain⟨e',E,w',⟨r,y,z⟩,m⟩:=wp_assign (P:=P) (id:=i4) (a:=g) (w:=w) (Q:=λe E w'=>e= .normal /\E=g.put (some 2) (.slice none 0 0)/\w'=w) ak ⟨rfl,by rw[U];rfl,rfl⟩ b [.code .ret,.code rest'] cs
  subst r
  rw[y,z]at m
  refine⟨.returned (packed [.slice none 0 0]),w,{b.at (g.put (some 2) (.slice none 0 0)) [.code .ret,.code rest']with mode:= .returning},⟨packed [.slice none 0 0],rfl,?_⟩,?_,rfl,rfl,rfl,rfl,fn,G,?_⟩
  ·refine⟨Gr.refl _ _,[.slice none 0 0],[.list []],[],[],[],rfl,rfl,by simp,by simp,?_,?_⟩
   ·refine⟨[.list []],[],[],[],rfl,rfl,?_,⟨rfl,rfl⟩⟩
    refine⟨[xt],hl,by simp[Value.cells,ag],?_,?_⟩
    ·have:Ai P xt=false:=by simp[Ai,ht]
     simp[this,Value.oneCell']
    ·refine⟨[],⟨[],rfl,.inl ⟨e,ht,⟨he,[],⟨by simp,.inl ⟨rfl,rfl⟩⟩,λj x hx=>by simp at hx,by simp⟩⟩⟩,rfl,rfl⟩
   ·simp[B4,dF]
  ·rw[J]
   refine Steps.trans aa (.head (step_cond (t:=true) h4) (.head step_seq ?_))
   exact Steps.trans m (.one step_ret)
  ·refine O6 ?_
   rw[H]
   have e2:(b.at (g.put (some 2) (.slice none 0 0)) [.code .ret,.code rest']).tmps.getD 2 undef= .slice none 0 0:=by
    show(g.put (some 2) (.slice none 0 0)).tmps.getD 2 undef=_
    simp[g,o,a0,Act.put]
   exact Ah1 e2
 | some ad=>
  have C:CS P 8 X [.list us] ⟨[.cells xt [true]],[.tmp 2],[],[]⟩ [] w μ ⟨1,0,[(0,⟨[],.one (.leaf (.at (.v 0) xt))⟩)],[]⟩ μ g w:=by
   refine⟨{Z.Cj with size:=by simp[g,o,a0,Act.put],defers:=rfl,slot:=λs=>?_},Z.step,Z.own,Z.hdr⟩
   by_cases an:s=0
   ·subst an
    have:=Z.Cj.slot 0
    have e1:g.tmps.getD 0 undef=a0.tmps.getD 0 undef:=by simp[g,o,a0,Act.put]
    rw[e1];exact this
   ·have:(St.view ⟨1,0,[(0,⟨[],.one (.leaf (.at (.v 0) xt))⟩)],[]⟩).tm s=nothing:=by
     simp[St.view,Hz];omega
    rw[this]
    exact⟨true,rfl,λ_=>trivial,λh=>by cases h⟩
  have hE:=Ahl (R:=λ_ _=>none) (specs:= []) (root:=rest') (sidx:=0) (bs:= []) hm (λi s ab=>by cases ab) rfl q2 (λi blk hb=>by simp at hb) 50 true [.code [] rest'] _ (Ab0 B) [.list us] [.list us] g w μ ah (by simp[PI.ok,Me]) rfl C (Ahw hB hle)
  obtain⟨E,w',t',v,r1,r2,r3,r4⟩:=hE b cs
  refine⟨.returned (packed v),w',{b.at E t' with mode:= .returning},⟨packed v,rfl,r4⟩,?_,rfl,rfl,r2,rfl,fn,G,O6 (by rw[H];exact r3)⟩
  rw[J]
  exact Steps.trans aa (.head (step_cond (t:=false) h4) (.head step_skip r1))
def Axq (P:Program)(f:FuncId):Func:=(P.funcs[f]?).getD default
def Wn (P:Program)(f:FuncId):Code:=(Axq P f).body.getD .skip
def X8 (P:Program)(f:FuncId):Code:=((Agm (Wn P f)).map (·.2)).getD .skip
end Go.CT
namespace Go.CT
def O.Nw:List IV->Option (List IV)
 | [.str a,.str b]=>some [.int (Lib.compareBytes a.data.toList b.data.toList)]
 | _=>none
theorem Aof {P:Program}{f:FuncId}{fn:Func}{ts ti:TypeId}{al:Bool}(d:P.funcs[f]?=some fn)(t:(fn.name == "runtime.NumGoroutine")=false)(z:fn.body.isNone=true)(e:Extern.findNext fn=none)
  (A:Extern.find fn=some Extern.BytealgCompare.compare) (q:P.underlying ts=some .string) (B:P.underlying ti=some (.int .i64)):C4 P O.Nw ⟨f,[.data ts,.data ts],[.whole ti],al⟩:=by
 intro w X xs args L rs c C K E r
 match args,c with
 | [u,v],c=>
  obtain⟨ys,zs,L1,L2,e1,F,⟨x,G,H,g⟩,c⟩:=c
  obtain⟨I,zs',L1',L2',h,i,⟨y,j,m,o⟩,⟨e5,J⟩⟩:=c
  subst G H j m e5 J h i e1 F
  obtain⟨a,rfl,rfl⟩:=g.Hj q
  obtain⟨b,rfl,rfl⟩:=o.Hj q
  simp only[bV,bD,O.Nw,aB]at r
  subst r
  refine .inr ⟨.int .i64 (Lib.compareBytes a.data.toList b.data.toList),w,?_,?_⟩
  ·rw[run_callFunc_extern d t z e A,Lib.run_compareString]
   rfl
  ·refine⟨Gr.refl _ _,[.int .i64 (Lib.compareBytes a.data.toList b.data.toList)],[.int (Lib.compareBytes a.data.toList b.data.toList)],[],[],[],rfl,rfl,by simp,by simp,?_,by simp[B4,dF]⟩
   exact⟨[_],[],[],[],rfl,rfl,⟨_,rfl,rfl,.int B⟩,rfl,rfl⟩
end Go.CT
namespace Go.CT
open Go.RowKit Go.ChangeShapes
mutual
def IV.bulk:IV->Nat
 | .str s=>s.size+1
 | .agg xs=>IV.Cs xs+1
 | .list xs=>IV.Cs xs+1
 | _=>1
def IV.Cs:List IV->Nat
 | []=>0
 | x::xs=>x.bulk+IV.Cs xs
end
inductive WT (P:Program):TypeId->IV->Prop
 | int {t:TypeId} {k:IntKind} {n:Int} :P.underlying t=some (.int k)->k.min<=n->n<=k.max->WT P t (.int n)
 | bool {t:TypeId} {b:Bool} :P.underlying t=some .bool ->WT P t (.bool b)
 | str {t:TypeId} {s:ByteArray} :P.underlying t=some .string ->s.size<=maxLen->WT P t (.str s)
 | agg {t:TypeId} {ts:List TypeId} {xs:List IV} :Ai P t=true->leaves P t=some ts->xs.length=ts.length->
  (∀ (i:Nat) (u:TypeId) (x:IV),ts[i]?=some u->xs[i]?=some x->WT P u x)->WT P t (.agg xs)
 | list {t e:TypeId} {xs:List IV} :P.underlying t=some (.slice e)->xs.length<=maxLen->(∀x∈xs,WT P e x)->WT P t (.list xs)
def WTs (P:Program):List TypeId->List IV->Prop
 | [],[]=>True
 | t::ts,x::xs=>WT P t x/\WTs P ts xs
 | _,_=>False
def Ab9 (P:Program):List Field->Nat->Option Nat
 | [],n=>some n
 | f::fs,n=>if f.offset == n then Ab9 P fs (n+P.cellsOf f.type) else none
def Ji (P:Program):List Field->Option (List TypeId)
 | []=>some []
 | f::fs=>do
  let a <-leaves P f.type
  let b <-Ji P fs
  pure (a++b)
def Sc (P:Program)(TS:List TypeId)(t:TypeId):Bool:=
 (
  match leaves P t with
  | some ts=>ts.length == P.cellsOf t&&ts.all (λu=> !Ai P u)
  | none=>false)&&decide (t<P.types.size)&&P.readableRec t&&
 match P.underlying t with
 | some (.int _) | some .bool | some .string =>P.cellsOf t == 1&&leaves P t == some [t]
 | some (.slice e)=>TS.contains e&&decide (0<P.cellsOf e)&&P.cellsOf t == 1&&leaves P t == some [t]
 | some (.struct fs)=>fs.toList.all (λf=>TS.contains f.type)&&Ab9 P fs.toList 0 == some (P.cellsOf t)&&Ji P fs.toList == leaves P t
 | _=>false
def Ak9 (P:Program)(TS:List TypeId):Bool:=TS.all (Sc P TS)
def Apc (P:Program)(t:TypeId)(xs:List IV):IV:=if Ai P t then .agg xs else xs.headD .junk
def mkV (P:Program)(t:TypeId)(cs:List Value):Value:=if Ai P t then .agg cs.toArray else cs.headD undef
section
variable {H:Type}{enc:TypeId × Value->H}{P:Program}{w:World}{TS:List TypeId}{bk:DataW H->Nat}{bks:List (DataW H)->Nat}
structure Aoj (bk:DataW H->Nat)(bks:List (DataW H)->Nat):Prop where
 nil:bks []=0
 cons: ∀d r,bks (d::r)=bk d+bks r
 one: ∀d,1<=bk d
 str: ∀s,bk (.lit (.string s))=s.length+1
 slice: ∀es sp,bks es+1<=bk (.slice es sp)
 agg: ∀ps,bk (.agg ps)=bks ps+1
structure Cells (P:Program)(w:World)(t:TypeId)(cs:List Value)(b:Nat)(xs:List IV):Prop where
 ex: ∃ts,leaves P t=some ts/\xs.length=ts.length/\cs.length=ts.length/\
  (∀ (i:Nat) (u:TypeId) (x:IV) (c:Value),ts[i]?=some u->xs[i]?=some x->cs[i]?=some c->Rel P w (λ_=>False) u x c/\WT P u x)
 bulk:IV.Cs xs<=b
theorem J0: ∀ (xs ys:List IV),IV.Cs (xs++ys)=IV.Cs xs+IV.Cs ys
 | [],ys=>by simp[IV.Cs]
 | x::xs,ys=>by simp[IV.Cs,J0 xs ys];omega
theorem Cells.mk_val {t:TypeId}{cs:List Value}{b:Nat}{xs:List IV}(h:Cells P w t cs b xs)(y:Sc P TS t=true):
  Rel P w (λ_=>False) t (Apc P t xs) (mkV P t cs)/\WT P t (Apc P t xs)/\(Apc P t xs).bulk <=b+1/\(Ai P t=false->(Apc P t xs).bulk <=b)/\(mkV P t cs).cells.toList =cs:=by
 obtain⟨⟨ts,e,o,z,g⟩,q⟩:=h
 unfold Sc at y
 simp only[aD]at y
 obtain⟨⟨⟨A,_⟩,_⟩,C⟩:=y
 rw[e]at A
 simp only[aD,beq_iff_eq,aY,cD]at A
 unfold Apc mkV
 by_cases r:Ai P t=true
 ·simp only[r,Zt]
  refine⟨.agg r e o (by simpa using z) (λi u B=>A.2 u (bU B)) (λi u x c a b d=>(g i u x c a b (by simpa using d)).1),.agg r e o (λi u x a b=>?_),by simp[IV.bulk];omega,by simp,by simp[Value.cells]⟩
  have B:i<cs.length:=by rw[z,<-o];exact(aT.1 b).1
  exact(g i u x cs[i] a b (aZ B)).2
 ·have j:Ai P t=false:=by simpa using r
  have m:leaves P t=some [t]:=by
   revert C
   cases E:P.underlying t with
   | none=>simp
   | some d=>
    cases d<;>simp_all[Ai]
  rw[m]at e
  injection e with e
  subst e
  match xs,cs,o,z,g,q with
  | [x],[c],_,_,g,q=>
   have:=g 0 t x c rfl rfl rfl
   simp only[j,aE,Zf,List.headD_cons]
   refine⟨this.1,this.2,?_,λ_=>?_,?_⟩
   ·simp[IV.Cs]at q;omega
   ·simpa [IV.Cs]using q
   ·rw[(this.1.one j).2]
theorem Ac6 (I:Aoj bk bks){fuel:Nat}{spare:Nat->Bool}{cs:List Value}
  (J: ∀ (t:TypeId) (cs:List Value) (d:DataW H) (L:List MemPlace),t∈TS->DataW.trod enc P w 0 spare true fuel t cs=some (d,L)-> ∃xs,Cells P w t cs (bk d) xs) (m: ∀t∈TS,∀ts,leaves P t=some ts->ts.length=P.cellsOf t):
  ∀ (fs:List Field) (n total:Nat) (ts:List TypeId) (xs:List (DataW H × List MemPlace)),Ab9 P fs n=some total->Ji P fs=some ts->(∀f∈fs,f.type∈TS)->total<=cs.length->
   (fs.mapM λf=>DataW.trod enc P w 0 spare true fuel f.type ((cs.drop f.offset).take (P.cellsOf f.type)))=some xs->
   n+ts.length=total/\ ∃ys:List IV,ys.length=ts.length/\IV.Cs ys<=bks (xs.map (·.1))/\
    ∀ (i:Nat) (u:TypeId) (x:IV) (c:Value),ts[i]?=some u->ys[i]?=some x->cs[n+i]?=some c->Rel P w (λ_=>False) u x c/\WT P u x
 | [],n,total,ts,xs,g,o,_,_,j=>by
  simp only[Ab9,aB]at g
  simp only[Ji,aB]at o
  subst g o
  simp only[dT,bI,aB]at j
  subst j
  exact⟨rfl,[],rfl,by simp[IV.Cs],λi u x c h=>by simp at h⟩
 | f::fs,n,total,ts,xs,g,o,C,q,j=>by
  simp only[Ab9]at g
  split at g
  rotate_left
  ·cases g
  rename_i e
  simp only[beq_iff_eq]at e
  simp only[Ji,bE,aC,bI,aB]at o
  obtain⟨a,r,b,E,rfl⟩:=o
  rw[cL]at j
  simp only[bE,aC,bI,aB]at j
  obtain⟨x0,F,xs0,y,rfl⟩:=j
  obtain⟨T,ys,M,U,N⟩:=Ac6 I J m fs _ total b xs0 g E (λf Q=>C f (by simp[Q])) q y
  obtain⟨zs,⟨⟨R,z,z2,z3,z4⟩,z5⟩⟩:=J f.type _ x0.1 x0.2 (C f (by simp)) F
  rw[r]at z
  injection z with z
  subst z
  have G:=m f.type (C f (by simp)) a r
  refine⟨by simp[G];omega,zs++ys,by simp[z2,M],?_,λi u x c A B K=>?_⟩
  ·simp only[bS,I.cons,J0];omega
  ·by_cases S:i<a.length
   ·rw[aS S]at A
    rw[aS (by omega)]at B
    refine z4 i u x c A B ?_
    rw[List.getElem?_take,if_pos (by omega),List.getElem?_drop,e];exact K
   ·rw[aL (by omega)]at A
    rw[aL (by omega)]at B
    refine N (i - a.length) u x c A (by rw[<-z2];exact B) ?_
    rw[<-K];congr 1;omega
theorem mapM_at {α β:Type}{f:α->Option β} : ∀ {l:List α} {r:List β},l.mapM f=some r->r.length=l.length/\ ∀ (i:Nat) (a:α),l[i]?=some a-> ∃b,r[i]?=some b/\f a=some b
 | [],r,h=>by simp at h;subst h;simp
 | a::l,r,h=>by
  rw[cL]at h
  simp only[bE,aC,bI,aB]at h
  obtain⟨b,e,bs,c,rfl⟩:=h
  obtain⟨g,j⟩:=mapM_at c
  refine⟨by simp[g],λi x d=>?_⟩
  cases i with
  | zero=>simp at d;subst d;exact⟨b,by simp,e⟩
  | succ i=>simpa using j i x (by simpa using d)
theorem Akd (b:Aoj bk bks){Q:Nat->IV->Prop} : ∀ (ds:List (DataW H)) (n:Nat),(∀j (d:DataW H),ds[j]?=some d-> ∃x:IV,Q (n+j) x/\x.bulk<=bk d)->
  ∃xs:List IV,xs.length=ds.length/\IV.Cs xs<=bks ds/\ ∀j (x:IV),xs[j]?=some x->Q (n+j) x
 | [],n,_=>⟨[],rfl,by simp[IV.Cs],λj x h=>by simp at h⟩
 | d::ds,n,h=>by
  obtain⟨x,c,m⟩:=h 0 d rfl
  obtain⟨xs,e,o,g⟩:=Akd b (Q:=Q) ds (n+1) (λj i hd=>by
   have:=h (j+1) i (by simpa using hd)
   rwa [show n+(j+1)=n+1+j by omega]at this)
  refine⟨x::xs,by simp[e],by simp only[IV.Cs,b.cons];omega,λj y a=>?_⟩
  cases j with
  | zero=>simp at a;subst a;exact c
  | succ j=>
   have:=g j y (by simpa using a)
   rwa [show n+1+j=n+(j+1) by omega]at this
theorem Ago (z:Aoj bk bks)(q:Ak9 P TS=true){spare:Nat->Bool} : ∀ (fuel:Nat) (t:TypeId) (cs:List Value) (d:DataW H) (X:List MemPlace),t∈TS->
  DataW.trod enc P w 0 spare true fuel t cs=some (d,X)-> ∃xs,Cells P w t cs (bk d) xs/\(Ai P t=true->IV.Cs xs+1<=bk d)
 | 0,_,_,_,_,_,h=>by simp[DataW.trod]at h
 | fuel+1,t,cs,d,X,Y,h=>by
  have hd:Sc P TS t=true:=aY.1 q t Y
  have al:=hd
  unfold Sc at hd
  simp only[aD]at hd
  obtain⟨⟨⟨F,_⟩,_⟩,m⟩:=hd
  have leaf: ∀ (x:IV) (c:Value),leaves P t=some [t]->Rel P w (λ_=>False) t x c->WT P t x->x.bulk<=bk d->Ai P t=false-> ∃xs,Cells P w t [c] (bk d) xs/\(Ai P t=true->IV.Cs xs+1<=bk d):=by
   intro x c e1 e2 e3 e4 e5
   refine⟨[x],⟨⟨[t],e1,rfl,rfl,λi u y c' g hy hc=>?_⟩,by simpa [IV.Cs]using e4⟩,λh=>by rw[e5]at h;cases h⟩
   cases i with
   | zero=>simp at g hy hc;subst g hy hc;exact⟨e2,e3⟩
   | succ i=>simp at g
  rw[DataW.trod_step]at h
  unfold DataW.trodStep at h
  split at h
  ·-- bool
   rename_i b g
   simp only[aB,aV]at h
   rw[g]at m
   simp only[aD,beq_iff_eq]at m
   exact leaf (.bool b) _ m.2 (.bool g) (.bool g) (by simp only[IV.bulk];exact z.one _) (by simp[Ai,g])
  ·rename_i k k' n g
   split at h
   rotate_left
   ·cases h
   rename_i L
   obtain⟨rfl,L⟩:=L
   rw[g]at m
   simp only[aD,beq_iff_eq]at m
   simp only[Lit.wf,aD,decide_eq_true_eq]at L
   exact leaf (.int n) _ m.2 (.int g) (.int g L.1 L.2) (by simp only[IV.bulk];exact z.one _) (by simp[Ai,g])
  ·rename_i g;rw[g]at m;simp at m
  ·rename_i s g
   split at h
   rotate_left
   ·cases h
   rename_i hs
   simp only[aB,aV]at h
   rw[g]at m
   simp only[aD,beq_iff_eq]at m
   refine leaf (.str s) _ m.2 (.str g) (.str g hs) ?_ (by simp[Ai,g])
   rw[<-h.1,z.str]
   simp only[IV.bulk,dC]
   exact aM _
  ·rename_i g;rw[g]at m;simp at m
  ·rename_i g;rw[g]at m;simp at m
  ·rename_i e g
   rw[g]at m
   simp only[aD,beq_iff_eq]at m
   refine leaf (.list []) _ m.2 ?_ (.list g (by simp) (by simp)) (by simp only[IV.bulk,IV.Cs];exact z.one _) (by simp[Ai,g])
   exact .list (λ_=> .tuple #[]) g (by simp) (by simp) (by simp) (by simp)
  ·rename_i e a len cap g
   rw[g]at m
   simp only[aD,beq_iff_eq,decide_eq_true_eq,cZ]at m
   obtain⟨⟨⟨M,Z⟩,N⟩,G⟩:=m
   simp only[aQ,aC,aH]at h
   obtain⟨⟨_,am,an⟩,elems,aa,rest,_,h⟩:=h
   simp only[aV]at h
   obtain⟨R,ab⟩:=mapM_at aa
   have ac:Sc P TS e=true:=aY.1 q e M
   have r:Ag P e=P.cellsOf e:=by
    unfold Ag Program.cellsOf
    cases P.info? e<;>rfl
   have key:=Akd (H:=H) z (Q:=λj x=> ∃v,D1 w (a.add (j * Ag P e)) v (Ag P e)/\Rel P w (λ_=>False) e x v/\WT P e x) (elems.map (·.1)) 0 (λj d' S=>by
    rw[cU]
    rw[List.getElem?_map,aH]at S
    obtain⟨⟨d1,p1⟩,B,rfl⟩:=S
    have ad:j<len:=by
     have:=(aT.1 B).1
     rw[R,cP]at this;exact this
    obtain⟨x1,C,T⟩:=ab j j (by simp[ad])
    rw[B]at C
    injection C with C
    subst C
    simp only[aC]at T
    obtain⟨cj,I,ae⟩:=T
    obtain⟨ys,af,ag⟩:=Ago z q fuel e cj d1 p1 M ae
    obtain⟨r1,r2,r3,r4,r5⟩:=af.mk_val ac
    unfold World.cells? at I
    rw[if_pos (dK _)]at I
    obtain⟨n1,n2⟩:=mapM_at I
    rw[cP]at n1
    refine⟨Apc P e ys,⟨mkV P e cj,⟨?_,λi u g=>?_⟩,r1,r2⟩,?_⟩
    ·rw[<-dC,r5,n1,r]
    ·rw[<-cF,r5]at g
     have hi:i<P.cellsOf e:=by have:=(aT.1 g).1;omega
     obtain⟨b,E,ah⟩:=n2 i i (by simp[hi])
     rw[g]at E
     injection E with E
     subst E
     rw[r];exact ah
    ·by_cases ha:Ai P e=true
     ·have:=ag ha
      have e1:(Apc P e ys).bulk =IV.Cs ys+1:=by simp[Apc,ha,IV.bulk]
      rw[e1];exact this
     ·exact r4 (by simpa using ha))
   obtain⟨xs,k1,k2,k3⟩:=key
   have ai:xs.length=len:=by rw[k1,bR,R,cP]
   have aj: ∀j,∃v,∀x,xs[j]?=some x->D1 w (a.add (j * Ag P e)) v (Ag P e)/\Rel P w (λ_=>False) e x v/\WT P e x:=by
    intro j
    by_cases B:j<xs.length
    ·obtain⟨v,hv⟩:=k3 j xs[j] (aZ B)
     rw[cU]at hv
     refine⟨v,λx o=>?_⟩
     rw[aZ B]at o
     injection o with o
     rw[<-o];exact hv
    ·exact⟨undef,λx o=>absurd (aT.1 o).1 B⟩
   obtain⟨vs,J⟩:=Classical.axiomOfChoice aj
   refine leaf (.list xs) _ G ?_ (.list g (by omega) (λx o=>?_)) ?_ (by simp[Ai,g])
   ·have:=Rel.list (P:=P) (w:=w) (O:=λ_=>False) (t:=t) (e:=e) (xs:=xs) (A:=some a) (c:=cap) vs g (by omega) (by omega)
     (λ_=>⟨by rw[r];exact Z,a,rfl,not_false,λj B=>(J j _ (aZ B)).1⟩) (λj x o=>(J j x o).2.1)
    rw[ai]at this
    exact this
   ·obtain⟨j,B⟩:=List.getElem?_of_mem o
    exact(J j x B).2.2
   ·rw[<-h.1]
    have:=z.slice (elems.map (·.1)) (rest.map (·.1))
    simp only[IV.bulk]
    omega
  ·rename_i fs g
   rw[g]at m
   simp only[aD,beq_iff_eq,aY,cZ]at m
   obtain⟨⟨N,G⟩,U⟩:=m
   split at h
   rotate_left
   ·cases h
   rename_i hlen
   simp only[aH]at h
   obtain⟨xs,hm,o⟩:=h
   simp only[aV]at o
   cases K:leaves P t with
   | none=>rw[K]at F;cases F
   | some ts=>
    rw[K]at F U
    simp only[aD,beq_iff_eq]at F
    have r: ∀t∈TS,∀ts,leaves P t=some ts->ts.length=P.cellsOf t:=by
     intro u g us ak
     have hd:Sc P TS u=true:=aY.1 q u g
     unfold Sc at hd
     simp only[aD]at hd
     obtain⟨⟨⟨F,_⟩,_⟩,_⟩:=hd
     rw[ak]at F
     simp only[aD,beq_iff_eq]at F
     exact F.1
    obtain⟨q1,ys,q2,q3,q4⟩:=Ac6 (TS:=TS) z (fuel:=fuel) (spare:=spare) (λt cs d X Y h=>by
     obtain⟨xs,h1,_⟩:=Ago z q fuel t cs d X Y h
     exact⟨xs,h1⟩) r fs.toList 0 (P.cellsOf t) ts xs G U (λf hf=>N f hf) (by omega) hm
    have hb:IV.Cs ys+1<=bk d:=by rw[<-o.1,z.agg];omega
    refine⟨ys,⟨⟨ts,K,q2,by omega,λi u x c a b e=>q4 i u x c a b (by simpa using e)⟩,by omega⟩,λ_=>hb⟩
  all_goals first
   | (cases h;done)
   | (rename_i g;rw[g]at m;simp at m;done)
   | (rename_i g _;rw[g]at m;simp at m;done)
   | (rename_i g _ _;rw[g]at m;simp at m;done)
end
end Go.CT
namespace Go.CT
section
variable {P:Program}{t e:TypeId}{x:IV}
theorem WT.G4 {k:IntKind}(c:P.underlying t=some (.int k))(h:WT P t x): ∃n,x= .int n/\k.min<=n/\n<=k.max:=by
 cases h with
 | int h a b=>rw[c]at h;injection h with h;injection h with h;subst h;exact⟨_,rfl,a,b⟩
 | bool h=>rw[c]at h;cases h
 | str h=>rw[c]at h;cases h
 | agg h=>simp[Ai,c]at h
 | list h=>rw[c]at h;cases h
theorem WT.Md (a:P.underlying t=some .bool)(h:WT P t x): ∃b,x= .bool b:=by
 cases h with
 | int h=>rw[a]at h;cases h
 | bool h=>exact⟨_,rfl⟩
 | str h=>rw[a]at h;cases h
 | agg h=>simp[Ai,a]at h
 | list h=>rw[a]at h;cases h
theorem WT.Hj (b:P.underlying t=some .string)(h:WT P t x): ∃s,x= .str s/\s.size<=maxLen:=by
 cases h with
 | int h=>rw[b]at h;cases h
 | bool h=>rw[b]at h;cases h
 | str h a=>exact⟨_,rfl,a⟩
 | agg h=>simp[Ai,b]at h
 | list h=>rw[b]at h;cases h
theorem WT.Cl (c:P.underlying t=some (.slice e))(h:WT P t x): ∃xs,x= .list xs/\xs.length<=maxLen/\ ∀y∈xs,WT P e y:=by
 cases h with
 | int h=>rw[c]at h;cases h
 | bool h=>rw[c]at h;cases h
 | str h=>rw[c]at h;cases h
 | agg h=>simp[Ai,c]at h
 | list h a b=>rw[c]at h;injection h with h;injection h with h;subst h;exact⟨_,rfl,a,b⟩
theorem A3r: ∀ {ts:List TypeId} {xs:List IV},xs.length=ts.length->(∀ (i:Nat) (u:TypeId) (x:IV),ts[i]?=some u->xs[i]?=some x->WT P u x)->WTs P ts xs
 | [],[],_,_=>trivial
 | t::ts,x::xs,h,c=>⟨c 0 t x rfl rfl,A3r (by simpa using h) λi u y a b=>c (i+1) u y (by simpa using a) (by simpa using b)⟩
 | [],_::_,h,_=>by simp at h
 | _::_,[],h,_=>by simp at h
theorem WT.It {ts:List TypeId}(a:Ai P t=true)(c:leaves P t=some ts)(h:WT P t x): ∃xs,x= .agg xs/\WTs P ts xs:=by
 cases h with
 | int h=>simp[Ai,h]at a
 | bool h=>simp[Ai,h]at a
 | str h=>simp[Ai,h]at a
 | agg g b d e=>rw[c]at b;injection b with b;subst b;exact⟨_,rfl,A3r d e⟩
 | list h=>simp[Ai,h]at a
theorem WTs.cons_inv {ts:List TypeId}{xs:List IV}(h:WTs P (t::ts) xs): ∃y ys,xs=y::ys/\WT P t y/\WTs P ts ys:=by
 cases xs with
 | nil=>cases h
 | cons y ys=>exact⟨y,ys,rfl,h.1,h.2⟩
theorem WTs.Uf {xs:List IV}(h:WTs P [] xs):xs= []:=by
 cases xs with
 | nil=>rfl
 | cons y ys=>cases h
end
theorem Jj {α:Type}{enc:α->IV}{ok:α->Prop} : ∀ {xs:List IV},(∀x∈xs,∃a,x=enc a/\ok a)-> ∃as:List α,xs=as.map enc/\ ∀a∈as,ok a
 | [],_=>⟨[],rfl,by simp⟩
 | x::xs,h=>by
  obtain⟨a,rfl,b⟩:=h x (by simp)
  obtain⟨as,rfl,has⟩:=Jj (enc:=enc) (ok:=ok) (xs:=xs) λy c=>h y (by simp[c])
  exact⟨a::as,rfl,by simpa using⟨b,has⟩⟩
theorem Aa1 (x:IV):1<=x.bulk:=by
 cases x<;>simp[IV.bulk]
theorem Dg: ∀xs:List IV,xs.length<=IV.Cs xs
 | []=>by simp[IV.Cs]
 | x::xs=>by have:=Aa1 x;have:=Dg xs;simp only[IV.Cs,aU];omega
theorem Et {x:IV} : ∀ {xs:List IV},x∈xs->x.bulk<=IV.Cs xs
 | y::xs,h=>by
  simp only[IV.Cs]
  rcases aI.1 h with rfl | h
  ·omega
  ·have:=Et h;omega
theorem wrap64 {n:Int}(a: -9223372036854775808<=n)(b:n<=9223372036854775807):IntKind.i64.wrap n=n:=IntWalk.i64_in n ⟨a,b⟩
theorem Gs {P:Program}{specs:List (Nat × Spec)}{Yy:Nat->List Blk}{fuel:Nat}{pr:Nat->Option (List IV->Option (List IV))}{i b:Nat}{xs rs:List IV}(k:Nat)(h:run (tab P specs Yy fuel) pr k ⟨i,b⟩ xs=some rs):V (tab P specs Yy fuel) pr ⟨i,b⟩ xs=some rs:=Aik _ _ k _ _ _ h
@[simp] theorem Az {α:Type}{c:Prop}[Decidable c](x y:α):(if c then some x else some y)=some (if c then x else y):=by split<;>rfl
@[simp] theorem Am {c:Prop}[Decidable c](a b:Bool):(if c then IV.bool a else IV.bool b)=IV.bool (if c then a else b):=by split<;>rfl
@[simp] theorem Bav {c:Prop}[Decidable c](a b:Int):(if c then IV.int a else IV.int b)=IV.int (if c then a else b):=by split<;>rfl
end Go.CT
namespace Go.CT
inductive Val where
 | mk (k n:Int) (s:ByteArray) (l:List Val) (f:List (ByteArray × Val))
namespace Val
def k:Val->Int | ⟨a,_,_,_,_⟩=>a
def n:Val->Int | ⟨_,a,_,_,_⟩=>a
def s:Val->ByteArray | ⟨_,_,a,_,_⟩=>a
def l:Val->List Val | ⟨_,_,_,a,_⟩=>a
def f:Val->List (ByteArray × Val) | ⟨_,_,_,_,a⟩=>a
@[simp] theorem Bc5 {a b c d e} :k ⟨a,b,c,d,e⟩=a:=rfl
@[simp] theorem n_mk {a b c d e} :n ⟨a,b,c,d,e⟩=b:=rfl
@[simp] theorem A8x {a b c d e} :s ⟨a,b,c,d,e⟩=c:=rfl
@[simp] theorem Avh {a b c d e} :l ⟨a,b,c,d,e⟩=d:=rfl
@[simp] theorem Avx {a b c d e} :f ⟨a,b,c,d,e⟩=e:=rfl
theorem eta (v:Val):v=⟨v.k,v.n,v.s,v.l,v.f⟩:=by cases v;rfl
end Val
mutual
def Val.enc:Val->IV
 | ⟨k,n,s,l,f⟩=> .agg [.int k,.int n,.str s,.list (Ad5 l),.list (Aea f)]
def Ad5:List Val->List IV
 | []=> []
 | v::vs=>v.enc::Ad5 vs
def Aea:List (ByteArray × Val)->List IV
 | []=> []
 | (nm,⟨k,n,s,l,f⟩)::fs=> .agg [.str nm,.int k,.int n,.str s,.list (Ad5 l),.list (Aea f)]::Aea fs
end
def Val.Hi (v:Val):List IV:= [.int v.k,.int v.n,.str v.s,.list (Ad5 v.l),.list (Aea v.f)]
def Fld.enc (p:ByteArray × Val):IV:= .agg (.str p.1::p.2.Hi)
theorem Val.En (v:Val):v.enc= .agg v.Hi:=by cases v;rfl
theorem Mp (l:List Val):Ad5 l=l.map Val.enc:=by
 induction l with
 | nil=>rfl
 | cons v l a=>simp[Ad5,a]
theorem Nl (l:List (ByteArray × Val)):Aea l=l.map Fld.enc:=by
 induction l with
 | nil=>rfl
 | cons p l a=>
  obtain⟨nm,v⟩:=p
  cases v
  simp[Aea,a,Fld.enc,Val.Hi]
theorem Val.ind {P:Val->Prop}(h: ∀v,(∀x∈v.l,P x)->(∀p∈v.f,P p.2)->P v): ∀v,P v:=by
 intro v
 refine Val.rec (motive_1:=P) (motive_2:=λl=> ∀x∈l,P x) (motive_3:=λf=> ∀p∈f,P p.2) (motive_4:=λp=>P p.2) ?_ ?_ ?_ ?_ ?_ ?_ v
 ·intro k n s l f d e;exact h ⟨k,n,s,l,f⟩ d e
 ·simp
 ·intro v l g i x c
  rcases aI.1 c with rfl | c
  ·exact g
  ·exact i x c
 ·simp
 ·intro v l g i x c
  rcases aI.1 c with rfl | c
  ·exact g
  ·exact i x c
 ·intro a b h;exact h
@[simp] theorem Val.Bj (v:Val):O.proj 0 v.enc=some (.int v.k):=by rw[v.En];rfl
@[simp] theorem Val.C7 (v:Val):O.proj 1 v.enc=some (.int v.n):=by rw[v.En];rfl
@[simp] theorem Val.Ee (v:Val):O.proj 2 v.enc=some (.str v.s):=by rw[v.En];rfl
@[simp] theorem Val.B5 (v:Val):O.proj 3 v.enc=some (.list (v.l.map Val.enc)):=by rw[v.En,<-Mp];rfl
@[simp] theorem Val.Cb (v:Val):O.proj 4 v.enc=some (.list (v.f.map Fld.enc)):=by rw[v.En,<-Nl];rfl
@[simp] theorem Fld.Bj (p:ByteArray × Val):O.proj 0 (Fld.enc p)=some (.str p.1):=rfl
@[simp] theorem Fld.I5 (p:ByteArray × Val):O.projs 1 5 (Fld.enc p)=some p.2.enc:=by rw[p.2.En];rfl
@[simp] theorem Fld.C7 (p:ByteArray × Val):O.proj 1 (Fld.enc p)=some (.int p.2.k):=rfl
@[simp] theorem Fld.Ee (p:ByteArray × Val):O.proj 2 (Fld.enc p)=some (.int p.2.n):=rfl
@[simp] theorem Fld.B5 (p:ByteArray × Val):O.proj 3 (Fld.enc p)=some (.str p.2.s):=rfl
@[simp] theorem Fld.Cb (p:ByteArray × Val):O.proj 4 (Fld.enc p)=some (.list (p.2.l.map Val.enc)):=by rw[<-Mp];rfl
@[simp] theorem Fld.Hy (p:ByteArray × Val):O.proj 5 (Fld.enc p)=some (.list (p.2.f.map Fld.enc)):=by rw[<-Nl];rfl
theorem Val.Ck (v:Val):v.Hi= [.int v.k,.int v.n,.str v.s,.list (v.l.map Val.enc),.list (v.f.map Fld.enc)]:=by rw[<-Mp,<-Nl];rfl
theorem Val.fold (k n:Int)(s:ByteArray)(l:List Val)(f:List (ByteArray × Val)):IV.agg [.int k,.int n,.str s,.list (l.map Val.enc),.list (f.map Fld.enc)]=Val.enc ⟨k,n,s,l,f⟩:=by rw[<-Mp,<-Nl];rfl
theorem Val.E6 (v:Val):IV.agg [.int v.k,.int v.n,.str v.s,.list (v.l.map Val.enc),.list (v.f.map Fld.enc)]=v.enc:=by rw[Val.fold,<-Val.eta]
theorem Fld.fold (nm:ByteArray)(k n:Int)(s:ByteArray)(l:List Val)(f:List (ByteArray × Val)):IV.agg [.str nm,.int k,.int n,.str s,.list (l.map Val.enc),.list (f.map Fld.enc)]=Fld.enc (nm,⟨k,n,s,l,f⟩):=by rw[<-Mp,<-Nl];rfl
theorem Fld.E6 (nm:ByteArray)(v:Val):IV.agg [.str nm,.int v.k,.int v.n,.str v.s,.list (v.l.map Val.enc),.list (v.f.map Fld.enc)]=Fld.enc (nm,v):=by rw[Fld.fold,<-Val.eta]
theorem A8 {i:Nat}(h:i<=4611686018427387904):IntKind.i64.wrap ((i:Int)+1)=((i+1:Nat):Int):=by rw[wrap64 (by omega) (by omega)];rfl
theorem Aj {i n:Nat} :decide ((i:Int)<(n:Int))=decide (i<n):=by simp
theorem A3v {s:ByteArray}{i:Nat}(h:i<s.size):s[i]?=some s[i]:=getElem?_pos s i h
theorem A0i {s t:ByteArray} :O.A25 s t=Op.bytesLess s.data.toList t.data.toList:=by unfold O.A25;rw[ByteArray.toList_eq,ByteArray.toList_eq]
theorem Mh: ∀l:List UInt8,Op.bytesLess l l=false
 | []=>rfl
 | a::l=>by simp[Op.bytesLess,Mh l]
end Go.CT
namespace Go.CT
def blt (s t:ByteArray):Bool:=Op.bytesLess s.data.toList t.data.toList
theorem blt_eq (s t:ByteArray):O.A25 s t=blt s t:=A0i
theorem Abx: ∀ {a b c:List UInt8},Op.bytesLess a b=true->Op.bytesLess b c=true->Op.bytesLess a c=true
 | _,_,[],_,h=>by simp[Op.bytesLess]at h
 | [],_,_::_,_,_=>by simp[Op.bytesLess]
 | _::_,[],_::_,h,_=>by simp[Op.bytesLess]at h
 | a::x,b::y,c::z,e,d=>by
  simp only[Op.bytesLess,dO,decide_eq_true_eq,aD,beq_iff_eq]at e d ⊢
  rcases e with e | ⟨rfl,e⟩
  ·rcases d with d | ⟨rfl,_⟩
   ·exact .inl (UInt8.lt_trans e d)
   ·exact .inl e
  ·rcases d with d | ⟨rfl,d⟩
   ·exact .inl d
   ·exact .inr ⟨rfl,Abx e d⟩
theorem Tp: ∀ (a b:List UInt8),Op.bytesLess a b=true\/a=b\/Op.bytesLess b a=true
 | [],[]=> .inr (.inl rfl)
 | [],_::_=> .inl (by simp[Op.bytesLess])
 | _::_,[]=> .inr (.inr (by simp[Op.bytesLess]))
 | a::x,b::y=>by
  simp only[Op.bytesLess,dO,decide_eq_true_eq,aD,beq_iff_eq]
  rcases Nat.lt_trichotomy a.toNat b.toNat with h | h | h
  ·exact .inl (.inl (dA.2 h))
  ·obtain rfl:=UInt8.toNat_inj.1 h
   rcases Tp x y with h | rfl | h
   ·exact .inl (.inr ⟨rfl,h⟩)
   ·exact .inr (.inl rfl)
   ·exact .inr (.inr (.inr ⟨rfl,h⟩))
  ·exact .inr (.inr (.inl (dA.2 h)))
theorem D2 (s:ByteArray):blt s s=false:=Mh _
theorem Gc {s t u:ByteArray}(a:blt s t=true)(b:blt t u=true):blt s u=true:=Abx a b
theorem Ek {s t:ByteArray}(h:s.data.toList=t.data.toList):s=t:=by
 cases s;cases t;simpa using h
theorem Je (s t:ByteArray):blt s t=true\/s=t\/blt t s=true:=by
 rcases Tp s.data.toList t.data.toList with h | h | h
 ·exact .inl h
 ·exact .inr (.inl (Ek h))
 ·exact .inr (.inr h)
theorem Oo {s t:ByteArray}(h:blt s t=true):s≠t:=λe=>by rw[e,D2]at h;cases h
theorem Nd {s t:ByteArray}(h:blt s t=true):blt t s=false:=by
 cases a:blt t s with
 | false=>rfl
 | true=>have:=Gc h a;rw[D2]at this;cases this
mutual
def Val.size:Val->Nat
 | ⟨_,_,_,l,f⟩=>1+Cd l+Br f
def Cd:List Val->Nat
 | []=>0
 | v::vs=>v.size+Cd vs
def Br:List (ByteArray × Val)->Nat
 | []=>0
 | (_,v)::fs=>v.size+Br fs
end
theorem Val.size_eq (v:Val):v.size=1+Cd v.l+Br v.f:=by cases v;rfl
theorem Val.size_pos (v:Val):1<=v.size:=by rw[v.size_eq];omega
theorem X7: ∀l:List Val,l.length<=Cd l
 | []=>by simp[Cd]
 | v::l=>by have:=v.size_pos;have:=X7 l;simp only[Cd,aU];omega
theorem Yf: ∀l:List (ByteArray × Val),l.length<=Br l
 | []=>by simp[Br]
 | (_,v)::l=>by have:=v.size_pos;have:=Yf l;simp only[Br,aU];omega
theorem Xv {v:Val} : ∀ {l:List Val},v∈l->v.size<=Cd l
 | x::l,h=>by
  simp only[Cd]
  rcases aI.1 h with rfl | h
  ·omega
  ·have:=Xv h;omega
theorem Rj {p:ByteArray × Val} : ∀ {l:List (ByteArray × Val)},p∈l->p.2.size<=Br l
 | (a,x)::l,h=>by
  simp only[Br]
  rcases aI.1 h with rfl | h
  ·simp only;omega
  ·have:=Rj h;omega
theorem Le: ∀ (a b:List (ByteArray × Val)),Br (a++b)=Br a+Br b
 | [],b=>by simp[Br]
 | (_,v)::a,b=>by simp only[bV,Br,Le a b];omega
theorem Val.Acp {v x:Val}(h:x∈v.l):x.size<v.size:=by have:=Xv h;rw[v.size_eq];omega
theorem Val.Acd {v:Val}{p:ByteArray × Val}(h:p∈v.f):p.2.size<v.size:=by have:=Rj h;rw[v.size_eq];omega
theorem Val.Zn (v:Val):v.l.length<v.size:=by have:=X7 v.l;rw[v.size_eq];omega
theorem Val.Uz (v:Val):v.f.length<v.size:=by have:=Yf v.f;rw[v.size_eq];omega
theorem Val.Auh (v:Val):v.size<=v.enc.bulk:=by
 have h:(∀l:List Val,(∀x∈l,x.size<=x.enc.bulk)->Cd l<=IV.Cs (Ad5 l))/\(∀f:List (ByteArray × Val),(∀p∈f,p.2.size<=p.2.enc.bulk)->Br f<=IV.Cs (Aea f)):=by
  constructor
  ·intro l
   induction l with
   | nil=>intro _;simp[Cd]
   | cons v l b=>
    intro h
    have a:=h v (by simp)
    have c:=b λx d=>h x (by simp[d])
    simp only[Cd,Ad5,IV.Cs];omega
  ·intro f
   induction f with
   | nil=>intro _;simp[Br]
   | cons p f b=>
    intro h
    obtain⟨nm,v⟩:=p
    have a:=h (nm,v) (by simp)
    have c:=b λx d=>h x (by simp[d])
    cases v
    simp only[Br,Aea,IV.Cs,IV.bulk,Val.enc]at a ⊢
    omega
 refine Val.ind (P:=λv=>v.size<=v.enc.bulk) (λv a c=>?_) v
 have e:=h.1 v.l a
 have a2:=h.2 v.f c
 rw[v.size_eq,v.En]
 simp only[Val.Hi,IV.bulk,IV.Cs]
 omega
def Hm (c:UInt8):Bool:=c.toNat == 10||(decide (32<=c.toNat)&&decide (c.toNat<=126))
def Iz (s:ByteArray):Bool:=s.data.toList.all Hm&&decide (s.size<=200)
def Bq (c:UInt8):Bool:=decide (97<=c.toNat/\c.toNat<=122)||decide (65<=c.toNat/\c.toNat<=90)||decide (48<=c.toNat/\c.toNat<=57)||c.toNat == 45||c.toNat == 95||c.toNat == 47
def Cn (s:ByteArray):Bool:=s.data.toList.all Bq&&decide (1<=s.size/\s.size<=40)
def Ar:ByteArray:=⟨#[]⟩
def Gk (v:Val):Bool:=
 if v.k=1 then decide ((v.n=0\/v.n=1)/\v.s=Ar)
 else if v.k=2 then decide (-1000000000000000<=v.n/\v.n<=1000000000000000/\v.s=Ar)
 else if v.k=3 then decide (v.n=0)&&Iz v.s
 else decide ((v.k=0\/v.k=4\/v.k=5)/\v.n=0/\v.s=Ar)
def rising:List (ByteArray × Val)->Bool
 | []=>true
 | [_]=>true
 | p::q::r=>blt p.1 q.1&&rising (q::r)
def Bu:Nat->Val->Bool
 | 0,_=>false
 | d+1,v=>Gk v&&decide (v.l.length<=64/\v.f.length<=64/\(v.k≠4->v.l= [])/\(v.k≠5->v.f= []))&&v.l.all (Bu d)&&v.f.all (λp=>Cn p.1&&Bu d p.2)&&rising v.f
def Val.valid (v:Val):Bool:=Bu 12 v&&decide (v.size<=600)
def Val.get (v:Val)(nm:ByteArray):Option Val:=if v.k=5 then(v.f.find? λp=>decide (p.1=nm)).map (·.2) else none
theorem Ap6 (s t:ByteArray):O.sLt (.str s) (.str t)=some (.bool (blt s t)):=by rw[O.A6n,blt_eq]
theorem Py (s t:ByteArray):O.sGe (.str s) (.str t)=some (.bool (!blt s t)):=by rw[O.A4i,blt_eq]
theorem Avf (s t:ByteArray):(O.A25 s t||decide (s=t))= !blt t s:=by
 rw[blt_eq]
 rcases Je s t with h | rfl | h
 ·rw[h,Nd h];rfl
 ·rw[D2];simp
 ·have a:=Oo h
  rw[h,Nd h];simp
  exact λe=>a e.symm
theorem Abd (s t:ByteArray):O.sLe (.str s) (.str t)=some (.bool (!blt t s)):=by rw[O.Agi,Avf]
theorem At2 (s t:ByteArray):O.sGt (.str s) (.str t)=some (.bool (blt t s)):=by rw[O.A7t,Avf,Bool.not_not]
def Val.Aw (v:Val):Nat:=v.enc.bulk
def Eg (l:List Val):Nat:=IV.Cs (l.map Val.enc)
def Dl (l:List (ByteArray × Val)):Nat:=IV.Cs (l.map Fld.enc)
theorem Val.Cf (v:Val):v.Aw=6+v.s.size+Eg v.l+Dl v.f:=by
 unfold Val.Aw Eg Dl
 rw[v.En,v.Ck]
 simp only[IV.bulk,IV.Cs];omega
theorem Fld.Cf (p:ByteArray × Val):(Fld.enc p).bulk =1+p.1.size+p.2.Aw:=by
 unfold Val.Aw Fld.enc
 rw[p.2.En]
 simp only[IV.bulk,IV.Cs];omega
theorem Jq (v:Val)(l:List Val):Eg (v::l)=v.Aw+Eg l:=rfl
theorem C6 (p:ByteArray × Val)(l:List (ByteArray × Val)):Dl (p::l)=(1+p.1.size+p.2.Aw)+Dl l:=by
 rw[<-Fld.Cf];rfl
theorem Hh:Eg []=0:=rfl
theorem C5:Dl []=0:=rfl
theorem Aak (a b:List Val):Eg (a++b)=Eg a+Eg b:=by unfold Eg;rw[dP,J0]
theorem Ld (a b:List (ByteArray × Val)):Dl (a++b)=Dl a+Dl b:=by unfold Dl;rw[dP,J0]
theorem Val.E5 {v x:Val}(h:x∈v.l):x.Aw<v.Aw:=by
 have:x.Aw<=Eg v.l:=Et (bF h)
 rw[v.Cf];omega
theorem Val.Dq {v:Val}{p:ByteArray × Val}(h:p∈v.f):p.1.size+p.2.Aw<v.Aw:=by
 have:(Fld.enc p).bulk <=Dl v.f:=Et (bF h)
 rw[Fld.Cf]at this
 rw[v.Cf];omega
theorem Val.B8 (v:Val):v.l.length<v.Aw:=by
 have:=Dg (v.l.map Val.enc)
 rw[bR]at this
 rw[v.Cf];unfold Eg;omega
theorem Val.A7 (v:Val):v.f.length<v.Aw:=by
 have:=Dg (v.f.map Fld.enc)
 rw[bR]at this
 rw[v.Cf];unfold Dl;omega
theorem Val.Art (v:Val):v.s.size<v.Aw:=by rw[v.Cf];omega
theorem Val.Ej (v:Val):v.size<=v.Aw:=v.Auh
def Aqa (d:Nat):Option ByteArray->List (ByteArray × Val)->Bool
 | _,[]=>true
 | o,p::r=>Cn p.1&&(match o with | none=>true | some q=>blt q p.1)&&Bu d p.2&&Aqa d (some p.1) r
theorem Ad0 (d:Nat): ∀ (r:List (ByteArray × Val)) (q:ByteArray × Val),Aqa d (some q.1) r=(r.all (λp=>Cn p.1&&Bu d p.2)&&rising (q::r))
 | [],q=>rfl
 | p::r,q=>by
  simp only[Aqa,cQ,rising,Ad0 d r p]
  cases Cn p.1<;>cases Bu d p.2<;>cases blt q.1 p.1<;>simp
theorem Afp (d:Nat)(l:List (ByteArray × Val)):Aqa d none l=(l.all (λp=>Cn p.1&&Bu d p.2)&&rising l):=by
 cases l with
 | nil=>rfl
 | cons p r=>
  simp only[Aqa,cQ,Ad0 d r p]
  cases Cn p.1<;>cases Bu d p.2<;>simp
def Gz (l:List (ByteArray × Val)):Nat->Option ByteArray
 | 0=>none
 | i+1=>(l[i]?).map (·.1)
inductive Kf (N:Nat):Val->Prop
 | mk (v:Val):v.l.length<=N->v.f.length<=N->(∀x∈v.l,Kf N x)->(∀p∈v.f,Kf N p.2)->Kf N v
theorem Kf.Zn {N:Nat}{v:Val}(h:Kf N v):v.l.length<=N:=by cases h;assumption
theorem Kf.Uz {N:Nat}{v:Val}(h:Kf N v):v.f.length<=N:=by cases h;assumption
theorem Kf.W5 {N:Nat}{v x:Val}(h:Kf N v)(a:x∈v.l):Kf N x:=by cases h with | mk _ c d b e=>exact b x a
theorem Kf.Oh {N:Nat}{v:Val}{p:ByteArray × Val}(h:Kf N v)(hp:p∈v.f):Kf N p.2:=by cases h with | mk _ b c d a=>exact a p hp
theorem Kf.mono {N M:Nat}(d:N<=M): ∀v:Val,Kf N v->Kf M v:=
 Val.ind λv a b h=> .mk v (by have:=h.Zn;omega) (by have:=h.Uz;omega) (λx c=>a x c (h.W5 c)) (λp hp=>b p hp (h.Oh hp))
theorem Li: ∀l:List Val,6 * l.length<=Eg l
 | []=>by simp
 | v::l=>by have:=Li l;have:=v.Cf;rw[Jq,aU];omega
theorem O8: ∀l:List (ByteArray × Val),6 * l.length<=Dl l
 | []=>by simp
 | p::l=>by have:=O8 l;have:=p.2.Cf;rw[C6,aU];omega
theorem Bae (v:Val):6 * v.l.length<=v.Aw:=by have:=Li v.l;have:=v.Cf;omega
theorem Ba5 (v:Val):6 * v.f.length<=v.Aw:=by have:=O8 v.f;have:=v.Cf;omega
theorem Hl {N:Nat} : ∀v:Val,v.Aw<=6 * N->Kf N v:=
 Val.ind λv a b h=> .mk v (by have:=Bae v;omega) (by have:=Ba5 v;omega) (λx c=>a x c (by have:=Val.E5 c;omega)) (λp hp=>b p hp (by have:=Val.Dq hp;omega))
def Au5 (N:Nat)(l:List (ByteArray × Val)):Prop:=l.length<=N/\ ∀p∈l,Kf N p.2
theorem Ao9 {N:Nat}{l:List (ByteArray × Val)}(h:Dl l<=6 * N):Au5 N l:=
 ⟨by have:=O8 l;omega,λp hp=>Hl p.2 (by
  have:(Fld.enc p).bulk <=Dl l:=Et (bF hp)
  rw[Fld.Cf]at this;omega)⟩
end Go.CT
namespace Go.CT
mutual
inductive Sch where
 | mk (k mn mx:Int) (en:List ByteArray) (key:ByteArray) (it:List Sch) (f:List SFld)
inductive SFld where
 | mk (nm:ByteArray) (rq im:Bool) (df:List Val) (s:Sch)
end
namespace Sch
def k:Sch->Int | ⟨a,_,_,_,_,_,_⟩=>a
def mn:Sch->Int | ⟨_,a,_,_,_,_,_⟩=>a
def mx:Sch->Int | ⟨_,_,a,_,_,_,_⟩=>a
def en:Sch->List ByteArray | ⟨_,_,_,a,_,_,_⟩=>a
def key:Sch->ByteArray | ⟨_,_,_,_,a,_,_⟩=>a
def it:Sch->List Sch | ⟨_,_,_,_,_,a,_⟩=>a
def f:Sch->List SFld | ⟨_,_,_,_,_,_,a⟩=>a
end Sch
namespace SFld
def nm:SFld->ByteArray | ⟨a,_,_,_,_⟩=>a
def rq:SFld->Bool | ⟨_,a,_,_,_⟩=>a
def im:SFld->Bool | ⟨_,_,a,_,_⟩=>a
def df:SFld->List Val | ⟨_,_,_,a,_⟩=>a
def s:SFld->Sch | ⟨_,_,_,_,a⟩=>a
end SFld
mutual
def Sch.enc:Sch->IV
 | ⟨k,mn,mx,en,key,it,f⟩=> .agg [.int k,.int mn,.int mx,.list (en.map .str),.str key,.list (Aov it),.list (Xz f)]
def Aov:List Sch->List IV
 | []=> []
 | s::ss=>s.enc::Aov ss
def Xz:List SFld->List IV
 | []=> []
 | ⟨nm,rq,im,df,⟨k,mn,mx,en,key,it,f⟩⟩::fs=> .agg [.str nm,.bool rq,.bool im,.list (df.map Val.enc),.int k,.int mn,.int mx,.list (en.map .str),.str key,.list (Aov it),.list (Xz f)]::Xz fs
end
def Sch.Hi (s:Sch):List IV:= [.int s.k,.int s.mn,.int s.mx,.list (s.en.map .str),.str s.key,.list (Aov s.it),.list (Xz s.f)]
def SFld.enc (p:SFld):IV:= .agg (.str p.nm:: .bool p.rq:: .bool p.im:: .list (p.df.map Val.enc)::p.s.Hi)
theorem Sch.En (s:Sch):s.enc= .agg s.Hi:=by cases s;rfl
theorem Wb (l:List Sch):Aov l=l.map Sch.enc:=by
 induction l with
 | nil=>rfl
 | cons v l a=>simp[Aov,a]
theorem Ri (l:List SFld):Xz l=l.map SFld.enc:=by
 induction l with
 | nil=>rfl
 | cons p l a=>
  obtain⟨nm,rq,im,df,s⟩:=p
  cases s
  simp only[Xz,a,SFld.enc,Sch.Hi,bS]
  rfl
theorem Sch.ind {P:Sch->Prop}(h: ∀s,(∀x∈s.it,P x)->(∀p∈s.f,P p.s)->P s): ∀s,P s:=by
 intro s
 refine Sch.rec (motive_1:=P) (motive_2:=λp=>P p.s) (motive_3:=λl=> ∀x∈l,P x) (motive_4:=λf=> ∀p∈f,P p.s) ?_ ?_ ?_ ?_ ?_ ?_ s
 ·intro k mn mx en key it f b c;exact h ⟨k,mn,mx,en,key,it,f⟩ b c
 ·intro nm rq im df s h;exact h
 ·simp
 ·intro v l d e x a
  rcases aI.1 a with rfl | a
  ·exact d
  ·exact e x a
 ·simp
 ·intro v l d e x a
  rcases aI.1 a with rfl | a
  ·exact d
  ·exact e x a
theorem Sch.Ck (s:Sch):s.Hi= [.int s.k,.int s.mn,.int s.mx,.list (s.en.map .str),.str s.key,.list (s.it.map Sch.enc),.list (s.f.map SFld.enc)]:=by rw[<-Wb,<-Ri];rfl
@[simp] theorem Sch.Bj (s:Sch):O.proj 0 s.enc=some (.int s.k):=by rw[s.En];rfl
@[simp] theorem Sch.C7 (s:Sch):O.proj 1 s.enc=some (.int s.mn):=by rw[s.En];rfl
@[simp] theorem Sch.Ee (s:Sch):O.proj 2 s.enc=some (.int s.mx):=by rw[s.En];rfl
@[simp] theorem Sch.B5 (s:Sch):O.proj 3 s.enc=some (.list (s.en.map .str)):=by rw[s.En];rfl
@[simp] theorem Sch.Cb (s:Sch):O.proj 4 s.enc=some (.str s.key):=by rw[s.En];rfl
@[simp] theorem Sch.Hy (s:Sch):O.proj 5 s.enc=some (.list (s.it.map Sch.enc)):=by rw[s.En,<-Wb];rfl
@[simp] theorem Sch.H6 (s:Sch):O.proj 6 s.enc=some (.list (s.f.map SFld.enc)):=by rw[s.En,<-Ri];rfl
@[simp] theorem SFld.Bj (p:SFld):O.proj 0 p.enc=some (.str p.nm):=rfl
@[simp] theorem SFld.C7 (p:SFld):O.proj 1 p.enc=some (.bool p.rq):=rfl
@[simp] theorem SFld.Ee (p:SFld):O.proj 2 p.enc=some (.bool p.im):=rfl
@[simp] theorem SFld.B5 (p:SFld):O.proj 3 p.enc=some (.list (p.df.map Val.enc)):=rfl
@[simp] theorem SFld.Tb (p:SFld):O.projs 4 7 p.enc=some p.s.enc:=by rw[p.s.En];rfl
@[simp] theorem SFld.Cb (p:SFld):O.proj 4 p.enc=some (.int p.s.k):=rfl
@[simp] theorem SFld.Hy (p:SFld):O.proj 5 p.enc=some (.int p.s.mn):=rfl
@[simp] theorem SFld.H6 (p:SFld):O.proj 6 p.enc=some (.int p.s.mx):=rfl
@[simp] theorem SFld.proj7 (p:SFld):O.proj 7 p.enc=some (.list (p.s.en.map .str)):=rfl
@[simp] theorem SFld.proj8 (p:SFld):O.proj 8 p.enc=some (.str p.s.key):=rfl
@[simp] theorem SFld.proj9 (p:SFld):O.proj 9 p.enc=some (.list (p.s.it.map Sch.enc)):=by rw[<-Wb];rfl
@[simp] theorem SFld.proj10 (p:SFld):O.proj 10 p.enc=some (.list (p.s.f.map SFld.enc)):=by rw[<-Ri];rfl
def Sch.Aw (s:Sch):Nat:=s.enc.bulk
def Alu (l:List Sch):Nat:=IV.Cs (l.map Sch.enc)
def Aah (l:List SFld):Nat:=IV.Cs (l.map SFld.enc)
def Ak4 (l:List ByteArray):Nat:=IV.Cs (l.map .str)
theorem Sch.Cf (s:Sch):s.Aw=8+Ak4 s.en+s.key.size+Alu s.it+Aah s.f:=by
 unfold Sch.Aw Alu Aah Ak4
 rw[s.En,s.Ck]
 simp only[IV.bulk,IV.Cs];omega
theorem SFld.Cf (p:SFld):p.enc.bulk=4+p.nm.size+Eg p.df+p.s.Aw:=by
 unfold Sch.Aw SFld.enc Eg
 rw[p.s.En]
 simp only[IV.bulk,IV.Cs];omega
theorem Sch.Gu {s x:Sch}(h:x∈s.it):x.Aw<s.Aw:=by
 have:x.Aw<=Alu s.it:=Et (bF h)
 rw[s.Cf];omega
theorem Sch.Dq {s:Sch}{p:SFld}(h:p∈s.f):p.nm.size+Eg p.df+p.s.Aw<s.Aw:=by
 have:p.enc.bulk<=Aah s.f:=Et (bF h)
 rw[SFld.Cf]at this
 rw[s.Cf];omega
theorem Sch.A2w {s:Sch}{p:SFld}{d:Val}(h:p∈s.f)(hd:d∈p.df):d.Aw+p.s.Aw<s.Aw:=by
 have:=Sch.Dq h
 have:d.Aw<=Eg p.df:=Et (bF hd)
 omega
theorem Sch.Ag7 (s:Sch):s.it.length<s.Aw:=by
 have:=Dg (s.it.map Sch.enc)
 rw[bR]at this
 rw[s.Cf];unfold Alu;omega
theorem Sch.A7 (s:Sch):s.f.length<s.Aw:=by
 have:=Dg (s.f.map SFld.enc)
 rw[bR]at this
 rw[s.Cf];unfold Aah;omega
theorem Sch.Lf (s:Sch):s.en.length<s.Aw:=by
 have:=Dg (s.en.map .str)
 rw[bR]at this
 rw[s.Cf];unfold Ak4;omega
theorem Sch.Aat (s:Sch):s.key.size<s.Aw:=by rw[s.Cf];omega
theorem Sch.Auj {s:Sch}{e:ByteArray}(h:e∈s.en):e.size<s.Aw:=by
 have:(IV.str e).bulk <=Ak4 s.en:=Et (bF h)
 simp only[IV.bulk]at this
 rw[s.Cf];omega
def Sch.fld (s:Sch)(nm:ByteArray):Option SFld:=s.f.find? λp=>decide (p.nm=nm)
end Go.CT
namespace Go.CT.Srt
variable {β:Type}
structure Ord (lt:β->β->Bool):Prop where
 irr: ∀x,lt x x=false
 tr: ∀x y z,lt x y=true->lt y z=true->lt x z=true
 neg: ∀x y z,lt x z=true->lt x y=true\/lt y z=true
def Cm (lt:β->β->Bool)(l:List β):Prop:=l.Pairwise λx y=>lt y x=false
def eqv (lt:β->β->Bool)(k y:β):Bool:= !lt k y&& !lt y k
def J5 (lt:β->β->Bool)(l a:List β):Prop:=l.length=a.length/\ ∀k,l.filter (eqv lt k)=a.filter (eqv lt k)
section
variable {lt:β->β->Bool}
theorem J5.refl (l:List β):J5 lt l l:=⟨rfl,λ_=>rfl⟩
theorem J5.symm {l a:List β}(h:J5 lt l a):J5 lt a l:=⟨h.1.symm,λk=>(h.2 k).symm⟩
theorem J5.trans {l a l'':List β}(h:J5 lt l a)(k:J5 lt a l''):J5 lt l l'':=⟨h.1.trans k.1,λx=>(h.2 x).trans (k.2 x)⟩
theorem J5.append {a c b d:List β}(h:J5 lt a c)(k:J5 lt b d):J5 lt (a++b) (c++d):=
 ⟨by simp[h.1,k.1],λx=>by rw[bZ,bZ,h.2,k.2]⟩
theorem Ord.asymm (o:Ord lt){x y:β}(h:lt x y=true):lt y x=false:=by
 cases a:lt y x with
 | false=>rfl
 | true=>have:=o.tr _ _ _ h a;rw[o.irr]at this;cases this
theorem Ord.le_trans (o:Ord lt){x y z:β}(a:lt y x=false)(b:lt z y=false):lt z x=false:=by
 cases h:lt z x with
 | false=>rfl
 | true=>rcases o.neg z y x h with h | h<;>simp_all
theorem A97 (o:Ord lt){k x y:β}(a:eqv lt k x=true)(b:eqv lt k y=true):lt x y=false:=by
 simp only[eqv,aD,cD]at a b
 exact o.le_trans b.1 a.2
theorem J5.swap (o:Ord lt){u v:List β}(h: ∀x∈u,∀y∈v,lt y x=true):J5 lt (u++v) (v++u):=by
 refine⟨by simp;omega,λk=>?_⟩
 rw[bZ,bZ]
 by_cases d: ∃x∈u,eqv lt k x=true
 ·obtain⟨x,a,b⟩:=d
  have:v.filter (eqv lt k)= []:=by
   rw[cV]
   intro y e c
   have:=A97 o c b
   rw[h x a y e]at this;cases this
  rw[this];simp
 ·have:u.filter (eqv lt k)= []:=by
   rw[cV]
   intro x a b
   exact d ⟨x,a,b⟩
  rw[this];simp
theorem J5.mem (o:Ord lt){l a:List β}(h:J5 lt l a){x:β}(b:x∈l):x∈a:=by
 have:x∈l.filter (eqv lt x):=by rw[dQ];exact⟨b,by simp[eqv,o.irr]⟩
 rw[h.2]at this
 exact(dQ.1 this).1
theorem Cm.append {a b:List β}(c:Cm lt a)(d:Cm lt b)(h: ∀x∈a,∀y∈b,lt y x=false):Cm lt (a++b):=bH.2 ⟨c,d,h⟩
theorem Cm.left {a b:List β}(h:Cm lt (a++b)):Cm lt a:=(bH.1 h).1
theorem Cm.right {a b:List β}(h:Cm lt (a++b)):Cm lt b:=(bH.1 h).2.1
theorem Cm.Aem {a b:List β}(h:Cm lt (a++b)): ∀x∈a,∀y∈b,lt y x=false:=(bH.1 h).2.2
end
theorem A6t (A:List β)(x:β)(B:List β):(A++x::B)[A.length]?=some x:=by simp
theorem A43 (A:List β)(x y:β)(B:List β):(A++x::B).set A.length y=A++y::B:=by simp
theorem C0 {l A B:List β}{x:β}{i:Nat}(h:l=A++x::B)(a:i=A.length):l[i]?=some x:=by subst h a;exact A6t A x B
theorem I4 {l A B:List β}{x y:β}{i:Nat}(h:l=A++x::B)(a:i=A.length):l.set i y=A++y::B:=by subst h a;exact A43 A x y B
section
variable (enc:β->IV)
def LE (l:List β):IV:= .list (l.map enc)
theorem idx {l:List β}{i:Nat}{x:β}(h:l[i]?=some x):O.index (LE enc l) (.int (i:Nat))=some (enc x):=by
 simp[LE,h]
theorem len (l:List β):O.len (LE enc l)=some (.int l.length):=by simp[LE]
theorem Atu {l:List β}{i n:Nat}{p:Bool}{x:β}(h:i<l.length):O.setAt 0 n p true (LE enc l) (.int (i:Nat)) (enc x)=some (LE enc (l.set i x)):=by
 simp[LE,h,List.map_set]
end
structure Eqs (enc:β->IV)(lt:β->β->Bool)(sz:Nat)(p:Bool) where
 S:Nat->List IV->Option (List IV)
 B:Nat->List IV->Option (List IV)
 I:Nat->List IV->Option (List IV)
 M:Nat->List IV->Option (List IV)
 R:Nat->List IV->Option (List IV)
 X:Nat->List IV->Option (List IV)
 C:List IV->Option (List IV)
 cmp: ∀x y,∃c:Int,C [enc x,enc y]=some [.int c]/\(decide (c<0)=lt x y)
 s0: ∀x0:IV,S 0 [x0]=(O.len x0).bind λx1=>calls (B 0 [x0,x1]) 1 λx2=>some [x2]
 b0: ∀x0 x1:IV,B 0 [x0,x1]=B 1 [x1,(.int 20),(.int 0),(.int 20),x0]
 b1: ∀x0 x1 x2 x3 x4:IV,B 1 [x0,x1,x2,x3,x4]=
  (O.le x3 x0).bind λx5=>
  cnd x5 (calls (I 0 [x4,x2,x3]) 1 λx6=>(O.add .i64 x3 x1).bind λx7=>B 1 [x0,x1,x3,x7,x6])
   (calls (I 0 [x4,x2,x0]) 1 λx6=>B 2 [x0,x1,x6])
 b2: ∀x0 x1 x2:IV,B 2 [x0,x1,x2]=(O.lt x1 x0).bind λx3=>cnd x3 ((O.mul .i64 (.int 2) x1).bind λx4=>B 3 [x0,x1,(.int 0),x4,x2]) (some [x2])
 b3: ∀x0 x1 x2 x3 x4:IV,B 3 [x0,x1,x2,x3,x4]=
  (O.le x3 x0).bind λx5=>
  cnd x5 (
   (O.add .i64 x2 x1).bind λx6=>
   calls (M 0 [x4,x2,x6,x3]) 1 λx7=>
   (O.mul .i64 (.int 2) x1).bind λx8=>
   (O.add .i64 x3 x8).bind λx9=>
   B 3 [x0,x1,x3,x9,x7]) (
   (O.add .i64 x2 x1).bind λx6=>
   (O.lt x6 x0).bind λx7=>
   cnd x7 (calls (M 0 [x4,x2,x6,x0]) 1 λx8=>B 4 [x0,x1,x8]) (B 4 [x0,x1,x4]))
 b4: ∀x0 x1 x2:IV,B 4 [x0,x1,x2]=(O.mul .i64 x1 (.int 2)).bind λx3=>B 2 [x0,x3,x2]
 i0: ∀x0 x1 x2:IV,I 0 [x0,x1,x2]=(O.add .i64 x1 (.int 1)).bind λx3=>I 1 [x1,x2,x3,x0]
 i1: ∀x0 x1 x2 x3:IV,I 1 [x0,x1,x2,x3]=(O.lt x2 x1).bind λx4=>cnd x4 (I 2 [x0,x1,x2,x2,x3]) (some [x3])
 i2: ∀x0 x1 x2 x3 x4:IV,I 2 [x0,x1,x2,x3,x4]=
  (O.gt x3 x0).bind λx5=>
  (cnd x5 (
    (O.index x4 x3).bind λx6=>
    (O.sub .i64 x3 (.int 1)).bind λx7=>
    (O.index x4 x7).bind λx8=>
    calls (C [x6,x8]) 1 λx9=>
    (O.lt x9 (.int 0)).bind λx10=>
    some x10) (some (.bool false))).bind λx6=>
  cnd x6 (
   (O.sub .i64 x3 (.int 1)).bind λx7=>
   (O.sub .i64 x3 (.int 1)).bind λx8=>
   (O.index x4 x8).bind λx9=>
   (O.index x4 x3).bind λx10=>
   (O.setAt 0 sz p true x4 x3 x9).bind λx11=>
   (O.index x11 x7).bind λ_=>
   (O.setAt 0 sz p true x11 x7 x10).bind λx13=>
   (O.sub .i64 x3 (.int 1)).bind λx14=>
   I 2 [x0,x1,x2,x14,x13]) (
   (O.add .i64 x2 (.int 1)).bind λx7=>
   I 1 [x0,x1,x7,x4])
 x0: ∀x0 x1 x2 x3:IV,X 0 [x0,x1,x2,x3]=X 1 [x1,x2,x3,(.int 0),x0]
 x1: ∀x0 x1 x2 x3 x4:IV,X 1 [x0,x1,x2,x3,x4]=
  (O.lt x3 x2).bind λx5=>
  cnd x5 (
   (O.add .i64 x0 x3).bind λx6=>
   (O.add .i64 x1 x3).bind λx7=>
   (O.add .i64 x1 x3).bind λx8=>
   (O.index x4 x8).bind λx9=>
   (O.add .i64 x0 x3).bind λx10=>
   (O.index x4 x10).bind λx11=>
   (O.index x4 x6).bind λ_=>
   (O.setAt 0 sz p true x4 x6 x9).bind λx13=>
   (O.index x13 x7).bind λ_=>
   (O.setAt 0 sz p true x13 x7 x11).bind λx15=>
   (O.add .i64 x3 (.int 1)).bind λx16=>
   X 1 [x0,x1,x2,x16,x15]) (
   some [x4])
 r0: ∀x0 x1 x2 x3:IV,R 0 [x0,x1,x2,x3]=(O.sub .i64 x2 x1).bind λx4=>(O.sub .i64 x3 x2).bind λx5=>R 1 [x2,x4,x5,x0]
 r1: ∀x0 x1 x2 x3:IV,R 1 [x0,x1,x2,x3]=
  (O.ne x1 x2).bind λx4=>
  cnd x4 (
   (O.gt x1 x2).bind λx5=>
   cnd x5 (
    (O.sub .i64 x0 x1).bind λx6=>
    calls (X 0 [x3,x6,x0,x2]) 1 λx7=>
    (O.sub .i64 x1 x2).bind λx8=>
    R 2 [x0,x8,x2,x7]) (
    (O.sub .i64 x0 x1).bind λx6=>
    (O.add .i64 x0 x2).bind λx7=>
    (O.sub .i64 x7 x1).bind λx8=>
    calls (X 0 [x3,x6,x8,x1]) 1 λx9=>
    (O.sub .i64 x2 x1).bind λx10=>
    R 2 [x0,x1,x10,x9])) (
   (O.sub .i64 x0 x1).bind λx5=>
   calls (X 0 [x3,x5,x0,x1]) 1 λx6=>
   some [x6])
 r2: ∀x0 x1 x2 x3:IV,R 2 [x0,x1,x2,x3]=R 1 [x0,x1,x2,x3]
 m0: ∀x0 x1 x2 x3:IV,M 0 [x0,x1,x2,x3]=
  (O.sub .i64 x2 x1).bind λx4=>
  (O.eq x4 (.int 1)).bind λx5=>
  cnd x5 (M 1 [x1,x2,x3,x0]) (
   (O.sub .i64 x3 x2).bind λx6=>
   (O.eq x6 (.int 1)).bind λx7=>
   cnd x7 (M 2 [x2,x1,x2,x0]) (
    (O.add .i64 x1 x3).bind λx8=>
    (O.conv .u64 x8).bind λx9=>
    (aF (.shift .shr .u64) [x9,(.int 1)]).bind λx10=>
    (O.conv .i64 x10).bind λx11=>
    (O.add .i64 x11 x2).bind λx12=>
    (O.gt x2 x11).bind λx13=>
    cnd x13 ((O.sub .i64 x12 x3).bind λx14=>M 3 [x1,x2,x3,x11,x12,x14,x11,x0]) (M 3 [x1,x2,x3,x11,x12,x1,x2,x0])))
 m1: ∀x0 x1 x2 x3:IV,M 1 [x0,x1,x2,x3]=
  (O.lt x1 x2).bind λx4=>
  cnd x4 (
   (O.add .i64 x1 x2).bind λx5=>
   (O.conv .u64 x5).bind λx6=>
   (aF (.shift .shr .u64) [x6,(.int 1)]).bind λx7=>
   (O.conv .i64 x7).bind λx8=>
   (O.index x3 x8).bind λx9=>
   (O.index x3 x0).bind λx10=>
   calls (C [x9,x10]) 1 λx11=>
   (O.lt x11 (.int 0)).bind λx12=>
   cnd x12 ((O.add .i64 x8 (.int 1)).bind λx13=>M 4 [x0,x13,x2,x3]) (M 4 [x0,x1,x8,x3])) (
   M 5 [x1,x0,x3])
 m2: ∀x0 x1 x2 x3:IV,M 2 [x0,x1,x2,x3]=
  (O.lt x1 x2).bind λx4=>
  cnd x4 (
   (O.add .i64 x1 x2).bind λx5=>
   (O.conv .u64 x5).bind λx6=>
   (aF (.shift .shr .u64) [x6,(.int 1)]).bind λx7=>
   (O.conv .i64 x7).bind λx8=>
   (O.index x3 x0).bind λx9=>
   (O.index x3 x8).bind λx10=>
   calls (C [x9,x10]) 1 λx11=>
   (O.lt x11 (.int 0)).bind λx12=>
   (O.not x12).bind λx13=>
   cnd x13 ((O.add .i64 x8 (.int 1)).bind λx14=>M 6 [x0,x14,x2,x3]) (M 6 [x0,x1,x8,x3])) (
   M 7 [x1,x0,x3])
 m3: ∀x0 x1 x2 x3 x4 x5 x6 x7:IV,M 3 [x0,x1,x2,x3,x4,x5,x6,x7]=(O.sub .i64 x4 (.int 1)).bind λx8=>M 8 [x0,x1,x2,x3,x4,x5,x6,x8,x7]
 m4: ∀x0 x1 x2 x3:IV,M 4 [x0,x1,x2,x3]=M 1 [x0,x1,x2,x3]
 m5: ∀x0 x1 x2:IV,M 5 [x0,x1,x2]=
  (O.sub .i64 x0 (.int 1)).bind λx3=>
  (O.lt x1 x3).bind λx4=>
  cnd x4 (
   (O.add .i64 x1 (.int 1)).bind λx5=>
   (O.add .i64 x1 (.int 1)).bind λx6=>
   (O.index x2 x6).bind λx7=>
   (O.index x2 x1).bind λx8=>
   (O.setAt 0 sz p true x2 x1 x7).bind λx9=>
   (O.index x9 x5).bind λ_=>
   (O.setAt 0 sz p true x9 x5 x8).bind λx11=>
   (O.add .i64 x1 (.int 1)).bind λx12=>
   M 5 [x0,x12,x11]) (
   some [x2])
 m6: ∀x0 x1 x2 x3:IV,M 6 [x0,x1,x2,x3]=M 2 [x0,x1,x2,x3]
 m7: ∀x0 x1 x2:IV,M 7 [x0,x1,x2]=
  (O.gt x1 x0).bind λx3=>
  cnd x3 (
   (O.sub .i64 x1 (.int 1)).bind λx4=>
   (O.sub .i64 x1 (.int 1)).bind λx5=>
   (O.index x2 x5).bind λx6=>
   (O.index x2 x1).bind λx7=>
   (O.setAt 0 sz p true x2 x1 x6).bind λx8=>
   (O.index x8 x4).bind λ_=>
   (O.setAt 0 sz p true x8 x4 x7).bind λx10=>
   (O.sub .i64 x1 (.int 1)).bind λx11=>
   M 7 [x0,x11,x10]) (
   some [x2])
 m8: ∀x0 x1 x2 x3 x4 x5 x6 x7 x8:IV,M 8 [x0,x1,x2,x3,x4,x5,x6,x7,x8]=
  (O.lt x5 x6).bind λx9=>
  cnd x9 (
   (O.add .i64 x5 x6).bind λx10=>
   (O.conv .u64 x10).bind λx11=>
   (aF (.shift .shr .u64) [x11,(.int 1)]).bind λx12=>
   (O.conv .i64 x12).bind λx13=>
   (O.sub .i64 x7 x13).bind λx14=>
   (O.index x8 x14).bind λx15=>
   (O.index x8 x13).bind λx16=>
   calls (C [x15,x16]) 1 λx17=>
   (O.lt x17 (.int 0)).bind λx18=>
   (O.not x18).bind λx19=>
   cnd x19 ((O.add .i64 x13 (.int 1)).bind λx20=>M 9 [x0,x1,x2,x3,x4,x20,x6,x7,x8]) (M 9 [x0,x1,x2,x3,x4,x5,x13,x7,x8])) (
   (O.sub .i64 x4 x5).bind λx10=>
   (O.lt x5 x1).bind λx11=>
   (cnd x11 ((O.lt x1 x10).bind λx12=>some x12) (some (.bool false))).bind λx12=>
   cnd x12 (calls (R 0 [x8,x5,x1,x10]) 1 λx13=>M 10 [x0,x2,x3,x5,x10,x13]) (M 10 [x0,x2,x3,x5,x10,x8]))
 m9: ∀x0 x1 x2 x3 x4 x5 x6 x7 x8:IV,M 9 [x0,x1,x2,x3,x4,x5,x6,x7,x8]=M 8 [x0,x1,x2,x3,x4,x5,x6,x7,x8]
 m10: ∀x0 x1 x2 x3 x4 x5:IV,M 10 [x0,x1,x2,x3,x4,x5]=
  (O.lt x0 x3).bind λx6=>
  (cnd x6 ((O.lt x3 x2).bind λx7=>some x7) (some (.bool false))).bind λx7=>
  cnd x7 (calls (M 0 [x5,x0,x3,x2]) 1 λx8=>M 11 [x1,x2,x4,x8]) (M 11 [x1,x2,x4,x5])
 m11: ∀x0 x1 x2 x3:IV,M 11 [x0,x1,x2,x3]=
  (O.lt x1 x2).bind λx4=>
  (cnd x4 ((O.lt x2 x0).bind λx5=>some x5) (some (.bool false))).bind λx5=>
  cnd x5 (calls (M 0 [x3,x1,x2,x0]) 1 λx6=>some [x6]) (some [x3])
end Go.CT.Srt
namespace Go.CT.Srt
variable {β:Type}{enc:β->IV}{lt:β->β->Bool}{sz:Nat}{p:Bool}
theorem w1 {a:Int}(h:0<=a)(b:a<=4611686018427387904):IntKind.i64.wrap a=a:=wrap64 (by omega) (by omega)
theorem I2 {β:Type}{o:Option (List IV)}{x:IV}{f:IV->Option β}(h:o=some [x]):calls o 1 f=f x:=by rw[h];rfl
theorem Gi (l:List β):l= []\/ ∃a x,l=a++ [x]:=by
 rcases List.eq_nil_or_concat l with h | ⟨a,x,h⟩
 ·exact .inl h
 ·exact .inr ⟨a,x,by rw[h,List.concat_eq_append]⟩
theorem ins2 (E:Eqs enc lt sz p)(pre:List β)(x:β)(b i:Nat)(rest:List β)(hlen:i<=1099511627776): ∀ (n:Nat) (d a:List β),d.length=n->pre.length+n<=1099511627776->
  ∃m t2,d=m++t2/\(∀y∈t2,lt x y=true)/\(∀t0 y,m=t0++ [y]->lt x y=false)/\
   E.I 2 [.int pre.length,.int b,.int i,.int ((pre.length+d.length:Nat):Int),LE enc (pre++(d++x::(a++rest)))]=E.I 1 [.int pre.length,.int b,.int ((i+1:Nat):Int),LE enc (pre++(m++x::(t2++(a++rest))))]
 | 0,d,a,r,hp=>by
  have:d= []:=aW.1 r
  subst this
  refine⟨[],[],rfl,by simp,by simp,?_⟩
  have u:IntKind.i64.wrap ((i:Int)+1)=((i+1:Nat):Int):=by rw[w1 (by omega) (by omega)];rfl
  rw[E.i2]
  simp[u]
 | n+1,d,a,r,hp=>by
  have w:d≠ []:=λe=>by subst e;simp at r
  obtain⟨s0,y,rfl⟩:=(Gi d).resolve_left w
  simp only[aP,bT]at r
  have u:IntKind.i64.wrap ((i:Int)+1)=((i+1:Nat):Int):=by rw[w1 (by omega) (by omega)];rfl
  have o:IntKind.i64.wrap (((pre.length+(s0++ [y]).length :Nat):Int) - 1)=((pre.length+s0.length:Nat):Int):=by
   rw[aP,bT,w1 (by omega) (by omega)];omega
  have q:((pre.length:Nat):Int)<((pre.length+(s0++ [y]).length :Nat):Int):=by simp;omega
  obtain⟨c,F,g⟩:=E.cmp x y
  -- where they lie
  have G:pre++(s0++ [y]++x::(a++rest))=(pre++s0)++y::(x::(a++rest)):=by simp
  have d1:pre++(s0++ [y]++x::(a++rest))=(pre++s0++ [y])++x::(a++rest):=by simp
  have gx:=idx enc (C0 d1 (i:=pre.length+(s0++ [y]).length) (by simp))
  have gy:=idx enc (C0 G (i:=pre.length+s0.length) (by simp))
  have st1:=I4 (y:=y) d1 (i:=pre.length+(s0++ [y]).length) (by simp)
  have d2:(pre++s0++ [y])++y::(a++rest)=(pre++s0)++y::(y::(a++rest)):=by simp
  have st2:=I4 (y:=x) d2 (i:=pre.length+s0.length) (by simp)
  have gy2:=idx enc (C0 d2 (i:=pre.length+s0.length) (by simp))
  rw[E.i2]
  cases t:lt x y with
  | false=>
   refine⟨s0++ [y],[],by simp,by simp,λt0 z A=>by
    have:=List.append_inj_right' A rfl
    simp at this;subst this;exact t,?_⟩
   have j: ¬ c<0:=by rw[t]at g;simpa using g
   simp only[O.Bt,q,Zd,aA,O.Aa,Zt,gx,O.Ch,o,gy,I2 F,O.Ah,j,Ze,aE,Zf,O.Al,u,bD]
  | true=>
   obtain⟨m,t2,H,J,K,L⟩:=ins2 E pre x b i rest hlen n s0 (y::a) (by omega) (by omega)
   refine⟨m,t2++ [y],by rw[H];simp,λz A=>by
    rcases aK.1 A with h | h
    ·exact J z h
    ·simp at h;subst h;exact t,K,?_⟩
   have j:c<0:=by rw[t]at g;simpa using g
   have B:pre.length+(s0++ [y]).length <(pre++(s0++ [y]++x::(a++rest))).length :=by simp
   have C:pre.length+s0.length<((pre++s0++ [y])++y::(a++rest)).length :=by simp
   simp only[O.Bt,q,Zd,aA,O.Aa,Zt,gx,O.Ch,o,gy,I2 F,O.Ah,j,Atu enc B,st1,gy2,Atu enc C,st2]
   have e1:pre++s0++x::y::(a++rest)=pre++(s0++x::(y::a++rest)):=by simp
   rw[e1,L]
   simp
theorem ins1 (o:Ord lt)(E:Eqs enc lt sz p)(pre:List β): ∀ (n:Nat) (s rest:List β),n<=rest.length->Cm lt s->s≠ []->pre.length+s.length+rest.length<=1099511627776->
  ∃s',Cm lt s'/\J5 lt (s++rest.take n) s'/\E.I 1 [.int pre.length,.int ((pre.length+s.length+n:Nat):Int),.int ((pre.length+s.length:Nat):Int),LE enc (pre++(s++rest))]=some [LE enc (pre++(s'++rest.drop n))]
 | 0,s,rest,_,e,i,t=>by
  refine⟨s,e,by rw[List.take_zero,aO];exact .refl _,?_⟩
  rw[E.i1]
  simp
 | n+1,s,[],h,_,_,_=>by simp at h
 | n+1,s,x::rest,h,e,i,t=>by
  simp only[aU]at h t
  obtain⟨a,t2,g,w,C,A⟩:=ins2 E pre x (pre.length+s.length+(n+1)) (pre.length+s.length) rest (by omega) s.length s [] rfl (by omega)
  rw[bD]at A
  have j:J5 lt (a++t2++ [x]) (a++x::t2):=by
   rw[aG]
   exact(J5.refl a).append (by
    have:=J5.swap (lt:=lt) o (u:=t2) (v:= [x]) (λz b y c=>by simp at c;subst c;exact w z b)
    simpa using this)
  have m:Cm lt (a++x::t2):=by
   subst g
   refine e.left.append ?_ ?_
   ·refine bL.2 ⟨λy c=>o.asymm (w y c),e.right⟩
   ·have hle: ∀z∈a,lt x z=false:=by
     rcases Gi a with rfl | ⟨t0,z0,rfl⟩
     ·simp
     ·have B:=C t0 z0 rfl
      intro z b
      rcases aK.1 b with b | b
      ·have:=(e.left).Aem z b z0 (by simp)
       exact o.le_trans this B
      ·simp at b;subst b;exact B
    intro z b y c
    rcases aI.1 c with rfl | c
    ·exact hle z b
    ·exact e.Aem z b y c
  have d:pre.length+(a++x::t2).length +rest.length<=1099511627776:=by
   have:(a++x::t2).length =s.length+1:=by rw[g];simp;omega
   omega
  obtain⟨s',r1,r2,q⟩:=ins1 o E pre n (a++x::t2) rest (by omega) m (by simp) d
  refine⟨s',r1,?_,?_⟩
  ·refine J5.trans ?_ r2
   rw[List.take_succ_cons]
   have:s++x::rest.take n=(a++t2++ [x])++rest.take n:=by rw[g];simp
   rw[this]
   exact j.append (.refl _)
  ·have hlen:(a++x::t2).length =s.length+1:=by rw[g];simp;omega
   rw[E.i1]
   have r:((pre.length+s.length:Nat):Int)<((pre.length+s.length+(n+1):Nat):Int):=by omega
   simp only[O.Ah,r,Zd,aA,O.Aa,Zt]
   rw[A]
   rw[hlen]at q
   have e1:pre++(a++x::(t2++rest))=pre++(a++x::t2++rest):=by simp
   have F:pre.length+(s.length+1)+n=pre.length+s.length+(n+1):=by omega
   have G:pre.length+(s.length+1)=pre.length+s.length+1:=by omega
   rw[F,G]at q
   rw[e1,q,List.drop_succ_cons]
theorem ins (o:Ord lt)(E:Eqs enc lt sz p)(pre s post:List β)(c:pre.length+s.length+post.length<=1099511627776):
  ∃s',Cm lt s'/\J5 lt s s'/\E.I 0 [LE enc (pre++(s++post)),.int pre.length,.int ((pre.length+s.length:Nat):Int)]=some [LE enc (pre++(s'++post))]:=by
 have b:IntKind.i64.wrap ((pre.length:Int)+1)=((pre.length+1:Nat):Int):=by rw[w1 (by omega) (by omega)];rfl
 cases s with
 | nil=>
  refine⟨[],dY,.refl _,?_⟩
  rw[E.i0]
  simp only[O.Al,b,aA,bJ,dV,E.i1,O.Ah]
  have: ¬ ((pre.length+1:Nat):Int)<pre.length:=by omega
  simp[this]
  omega
 | cons x s=>
  simp only[aU]at c
  obtain⟨s',r1,r2,a⟩:=ins1 o E pre s.length [x] (s++post) (by simp) (List.pairwise_singleton _ _) (by simp) (by simp;omega)
  rw[List.take_append_of_le_length (aM _),List.take_length]at r2
  rw[List.drop_append_of_le_length (aM _),List.drop_length,bD]at a
  refine⟨s',r1,r2,?_⟩
  rw[E.i0]
  simp only[O.Al,b,aA]
  simp only[bT,bV,bD]at a
  have e1:pre.length+(x::s).length =pre.length+1+s.length:=by simp;omega
  rw[e1]
  exact a
theorem swp1 (E:Eqs enc lt sz p)(P M Q:List β): ∀ (k:Nat) (X1 X2 Y1 Y2:List β),X1.length=Y1.length->X2.length=k->Y2.length=k->P.length+X1.length+X2.length+M.length+Y1.length+Y2.length+Q.length<=1099511627776->
  E.X 1 [.int P.length,.int ((P.length+X1.length+X2.length+M.length:Nat):Int),.int ((X1.length+X2.length:Nat):Int),.int X1.length,LE enc (P++(Y1++(X2++(M++(X1++(Y2++Q))))))]=some [LE enc (P++(Y1++(Y2++(M++(X1++(X2++Q))))))]
 | 0,X1,X2,Y1,Y2,a,b,c,d=>by
  have e1:X2= []:=aW.1 b
  have e:Y2= []:=aW.1 c
  subst e1 e
  rw[E.x1]
  simp
 | k+1,X1,[],Y1,Y2,a,b,c,d=>by simp at b
 | k+1,X1,_::_,Y1,[],a,b,c,d=>by simp at c
 | k+1,X1,x::X2,Y1,y::Y2,a,b,c,d=>by
  simp only[aU]at b c d
  have r:=swp1 E P M Q k (X1++ [x]) X2 (Y1++ [y]) Y2 (by simp[a]) (by omega) (by omega) (by simp;omega)
  have g:(X1.length:Int)<((X1.length+(x::X2).length :Nat):Int):=by simp;omega
  have h:IntKind.i64.wrap ((P.length:Int)+X1.length)=((P.length+X1.length:Nat):Int):=by rw[w1 (by omega) (by omega)];rfl
  have j:IntKind.i64.wrap (((P.length+X1.length+(x::X2).length +M.length:Nat):Int)+X1.length)=((P.length+X1.length+(x::X2).length +M.length+X1.length:Nat):Int):=by
   rw[w1 (by omega) (by simp only[aU];omega)];rfl
  have m:IntKind.i64.wrap ((X1.length:Int)+1)=(((X1++ [x]).length :Nat):Int):=by rw[w1 (by omega) (by omega)];simp
  have d1:P++(Y1++(x::X2++(M++(X1++(y::Y2++Q)))))=(P++Y1)++x::(X2++(M++(X1++(y::Y2++Q)))):=by simp
  have d2:P++(Y1++(x::X2++(M++(X1++(y::Y2++Q)))))=(P++Y1++x::X2++M++X1)++y::(Y2++Q):=by simp
  have gx:=idx enc (C0 d1 (i:=P.length+X1.length) (by simp[a]))
  have gy:=idx enc (C0 d2 (i:=P.length+X1.length+(x::X2).length +M.length+X1.length) (by simp[a];omega))
  have st1:=I4 (y:=y) d1 (i:=P.length+X1.length) (by simp[a])
  have d3:(P++Y1)++y::(X2++(M++(X1++(y::Y2++Q))))=(P++Y1++y::X2++M++X1)++y::(Y2++Q):=by simp
  have gy3:=idx enc (C0 d3 (i:=P.length+X1.length+(x::X2).length +M.length+X1.length) (by simp[a];omega))
  have st2:=I4 (y:=x) d3 (i:=P.length+X1.length+(x::X2).length +M.length+X1.length) (by simp[a];omega)
  have o:P.length+X1.length<(P++(Y1++(x::X2++(M++(X1++(y::Y2++Q)))))).length :=by simp;omega
  have q:P.length+X1.length+(x::X2).length +M.length+X1.length<((P++Y1)++y::(X2++(M++(X1++(y::Y2++Q))))).length :=by simp;omega
  rw[E.x1]
  simp only[O.Ah,g,Zd,aA,O.Aa,Zt,O.Al,h,j,m,gx,gy,Atu enc o,st1,gy3,Atu enc q,st2]
  have e1:(P++Y1++y::X2++M++X1)++x::(Y2++Q)=P++(Y1++ [y]++(X2++(M++(X1++ [x]++(Y2++Q))))):=by simp
  have e:P.length+X1.length+(x::X2).length +M.length=P.length+(X1++ [x]).length +X2.length+M.length:=by simp;omega
  have t:X1.length+(x::X2).length =(X1++ [x]).length +X2.length:=by simp;omega
  rw[e1,e,t,r]
  simp
theorem swp (E:Eqs enc lt sz p)(P X M Y Q:List β)(h:X.length=Y.length)(a:P.length+X.length+M.length+Y.length+Q.length<=1099511627776):
  E.X 0 [LE enc (P++(X++(M++(Y++Q)))),.int P.length,.int ((P.length+X.length+M.length:Nat):Int),.int X.length]=some [LE enc (P++(Y++(M++(X++Q))))]:=by
 rw[E.x0]
 have:=swp1 E P M Q X.length [] X [] Y rfl rfl h.symm (by simp;omega)
 simpa using this
theorem Bd4 (E:Eqs enc lt sz p): ∀ (n:Nat) (P U V Q:List β),U.length+V.length<=n->U≠ []->V≠ []->P.length+U.length+V.length+Q.length<=1099511627776->
  E.R 1 [.int ((P.length+U.length:Nat):Int),.int U.length,.int V.length,LE enc (P++(U++(V++Q)))]=some [LE enc (P++(V++(U++Q)))]
 | 0,P,U,V,Q,h,o,_,_=>by
  have:=aN.2 o;omega
 | n+1,P,U,V,Q,h,o,x,G=>by
  have y:=aN.2 o
  have z:=aN.2 x
  have d:IntKind.i64.wrap (((P.length+U.length:Nat):Int) - U.length)=P.length:=by rw[w1 (by omega) (by omega)];omega
  rw[E.r1]
  by_cases A:U.length=V.length
  ·have:=swp E P U [] V Q A (by simp;omega)
   simp only[bD,bJ,dV]at this
   have b:(U.length:Int)=V.length:=by omega
   simp only[O.Bx,b,Zd,Bool.not_true,aA,O.Aa,aE,Zf]
   rw[<-b]
   simp only[O.Ch,d,aA,I2 this]
  ·have b: ¬ (U.length:Int)=V.length:=by omega
   by_cases H:V.length<U.length
   ·have g:(V.length:Int)<U.length:=by omega
    have u:U=U.take V.length++U.drop V.length:=(bB _ _).symm
    have a:(U.take V.length).length =V.length:=by rw[bG];omega
    have c:(U.drop V.length).length =U.length - V.length:=by rw[bO]
    generalize U.take V.length=U1 at *
    generalize U.drop V.length=U2 at *
    have q:=swp E P U1 U2 V Q a (by omega)
    have i:IntKind.i64.wrap ((U.length:Int) - V.length)=U2.length:=by rw[w1 (by omega) (by omega)];omega
    have B:P++(U++(V++Q))=P++(U1++(U2++(V++Q))):=by rw[u];simp
    have e1:P.length+U.length=P.length+U1.length+U2.length:=by omega
    have m:=Bd4 E n (P++V) U2 U1 Q (by omega) (by intro e;subst e;simp at c;omega) (by intro e;subst e;simp at a;omega) (by simp;omega)
    have j:E.X 0 [LE enc (P++(U++(V++Q))),.int P.length,.int ((P.length+U.length:Nat):Int),.int V.length]=some [LE enc (P++(V++(U2++(U1++Q))))]:=by
     rw[B,e1,<-a];exact q
    simp only[O.Bx,b,Ze,dR,aA,O.Aa,Zt,O.Bt,g,Zd,O.Ch,d,I2 j,i,E.r2]
    have C:((P++V).length +U2.length)=P.length+U.length:=by simp;omega
    have F:(P++V)++(U2++(U1++Q))=P++(V++(U2++(U1++Q))):=by simp
    rw[C,F,a]at m
    rw[m,u];simp
   ·have g: ¬ (V.length:Int)<U.length:=by omega
    have w:V=V.take (V.length - U.length)++V.drop (V.length - U.length):=(bB _ _).symm
    have a:(V.take (V.length - U.length)).length =V.length - U.length:=by rw[bG];omega
    have c:(V.drop (V.length - U.length)).length =U.length:=by rw[bO];omega
    generalize V.take (V.length - U.length)=V1 at *
    generalize V.drop (V.length - U.length)=V2 at *
    have q:=swp E P U V1 V2 Q c.symm (by omega)
    have i:IntKind.i64.wrap (((P.length+U.length:Nat):Int)+V.length)=((P.length+U.length+V.length:Nat):Int):=by rw[w1 (by omega) (by omega)];rfl
    have r:IntKind.i64.wrap (((P.length+U.length+V.length:Nat):Int) - U.length)=((P.length+U.length+V1.length:Nat):Int):=by rw[w1 (by omega) (by omega)];omega
    have t:IntKind.i64.wrap ((V.length:Int) - U.length)=V1.length:=by rw[w1 (by omega) (by omega)];omega
    have m:=Bd4 E n P V2 V1 (U++Q) (by omega) (by intro e;subst e;simp at c;omega) (by intro e;subst e;simp at a;omega) (by simp;omega)
    have j:E.X 0 [LE enc (P++(U++(V++Q))),.int P.length,.int ((P.length+U.length+V1.length:Nat):Int),.int U.length]=some [LE enc (P++(V2++(V1++(U++Q))))]:=by
     rw[show P++(U++(V++Q))=P++(U++(V1++(V2++Q))) by rw[w];simp];exact q
    simp only[O.Bx,b,Ze,dR,aA,O.Aa,Zt,O.Bt,g,aE,Zf,O.Ch,d,O.Al,i,r,I2 j,t,E.r2]
    rw[c]at m
    rw[m,w];simp
theorem rot (E:Eqs enc lt sz p)(P U V Q:List β)(c:U≠ [])(d:V≠ [])(e:P.length+U.length+V.length+Q.length<=1099511627776):
  E.R 0 [LE enc (P++(U++(V++Q))),.int P.length,.int ((P.length+U.length:Nat):Int),.int ((P.length+U.length+V.length:Nat):Int)]=some [LE enc (P++(V++(U++Q)))]:=by
 have a:IntKind.i64.wrap (((P.length+U.length:Nat):Int) - P.length)=U.length:=by rw[w1 (by omega) (by omega)];omega
 have b:IntKind.i64.wrap (((P.length+U.length+V.length:Nat):Int) - ((P.length+U.length:Nat):Int))=V.length:=by rw[w1 (by omega) (by omega)];omega
 rw[E.r0]
 simp only[O.Ch,a,b,aA]
 exact Bd4 E _ P U V Q (aM _) c d e
end Go.CT.Srt
namespace Go.CT.Srt
variable {β:Type}{enc:β->IV}{lt:β->β->Bool}{sz:Nat}{p:Bool}
theorem mid {α:Type}(x y:Nat)(i:x+y<=4398046511104)(f:IV->Option α):
  ((O.add .i64 (.int x) (.int y)).bind λa=>(O.conv .u64 a).bind λb=>(aF (.shift .shr .u64) [b,(.int 1)]).bind λc=>(O.conv .i64 c).bind f)=f (.int (((x+y) / 2:Nat):Int)):=by
 have d:IntKind.i64.wrap ((x:Int)+y)=((x+y:Nat):Int):=by rw[w1 (by omega) (by omega)];rfl
 have e:IntKind.u64.wrap ((x+y:Nat):Int)=((x+y:Nat):Int):=by
  have:(((x+y:Nat):Int)) % 18446744073709551616=((x+y:Nat):Int):=Int.emod_eq_of_lt (by omega) (by omega)
  exact this
 have g:aF (.shift .shr .u64) [.int ((x+y:Nat):Int),(.int 1)]=some (.int (((x+y) / 2:Nat):Int)):=by
  have:(((x+y:Nat):Int)).fdiv 2=(((x+y) / 2:Nat):Int):=by
   rw[Int.fdiv_eq_ediv_of_nonneg _ (by omega)];omega
  show some (IV.int ((((x+y:Nat):Int)).fdiv 2))=_
  rw[this]
 have h:IntKind.i64.wrap (((x+y) / 2:Nat):Int)=(((x+y) / 2:Nat):Int):=w1 (by omega) (by omega)
 simp only[O.Al,d,aA,O.Aln,e,g,h]
theorem bs {α:Type}(F:Nat->Nat->α)(Q:Nat->Bool)(lo a:Nat)(m: ∀i j,lo<=i->i<j->j<=a->F i j=if Q ((i+j) / 2)=true then F ((i+j) / 2+1) j else F i ((i+j) / 2)):
  ∀ (n i j:Nat),j - i<=n->lo<=i->i<=j->j<=a->(i=lo\/Q (i - 1)=true)->(j=a\/Q j=false)-> ∃k,lo<=k/\k<=a/\F i j=F k k/\(k=lo\/Q (k - 1)=true)/\(k=a\/Q k=false)
 | 0,i,j,o,b,q,c,d,g=>by
  have:i=j:=by omega
  subst this
  exact⟨i,b,c,rfl,d,g⟩
 | n+1,i,j,o,b,q,c,d,g=>by
  by_cases e:i=j
  ·subst e;exact⟨i,b,c,rfl,d,g⟩
  rw[m i j b (by omega) c]
  by_cases h:Q ((i+j) / 2)=true
  ·rw[if_pos h]
   exact bs F Q lo a m n _ _ (by omega) (by omega) (by omega) c (.inr (by rw[Nat.add_sub_cancel];exact h)) g
  ·rw[if_neg h]
   exact bs F Q lo a m n _ _ (by omega) b (by omega) (by omega) d (.inr (by simpa using h))
theorem Bbs {l:List β}{i:Nat}(d:β)(h:i<l.length):l[i]?=some (l.getD i d):=by
 simp[cH,h]
theorem sh5 (E:Eqs enc lt sz p)(x:β)(R:List β)(i:Nat): ∀ (B1 pre:List β),i=pre.length+1+B1.length->i<=1099511627776->
  E.M 5 [.int i,.int pre.length,LE enc (pre++(x::(B1++R)))]=some [LE enc (pre++(B1++(x::R)))]
 | [],pre,a,h=>by
  rw[E.m5]
  have b:IntKind.i64.wrap ((i:Int) - 1)=((pre.length:Nat):Int):=by rw[w1 (by omega) (by omega)];simp at a;omega
  simp[b]
 | y::B1,pre,a,h=>by
  simp only[aU]at a
  have b:IntKind.i64.wrap ((i:Int) - 1)=((i - 1:Nat):Int):=by rw[w1 (by omega) (by omega)];omega
  have c:((pre.length:Nat):Int)<((i - 1:Nat):Int):=by omega
  have d:IntKind.i64.wrap ((pre.length:Int)+1)=((pre.length+1:Nat):Int):=by rw[w1 (by omega) (by omega)];rfl
  have d1:pre++(x::(y::B1++R))=(pre++ [x])++y::(B1++R):=by simp
  have gx:=idx enc (C0 (l:=pre++(x::(y::B1++R))) rfl (i:=pre.length) rfl)
  have gy:=idx enc (C0 d1 (i:=pre.length+1) (by simp))
  have st1:=I4 (l:=pre++(x::(y::B1++R))) (y:=y) rfl (i:=pre.length) rfl
  have d2:pre++(y::(y::B1++R))=(pre++ [y])++y::(B1++R):=by simp
  have gy2:=idx enc (C0 d2 (i:=pre.length+1) (by simp))
  have st2:=I4 (y:=x) d2 (i:=pre.length+1) (by simp)
  have e:pre.length<(pre++(x::(y::B1++R))).length :=by simp
  have g:pre.length+1<(pre++(y::(y::B1++R))).length :=by simp
  have j:=sh5 E x R i B1 (pre++ [y]) (by simp;omega) h
  rw[E.m5]
  simp only[O.Ch,b,aA,O.Ah,c,Zd,O.Aa,Zt,O.Al,d,gx,gy,Atu enc e,st1,gy2,Atu enc g,st2]
  rw[show(((pre.length+1:Nat)):Int)=((pre++ [y]).length :Nat) by simp,show pre++ [y]++x::(B1++R)=(pre++ [y])++(x::(B1++R)) from rfl,j]
  simp
theorem sh7 (E:Eqs enc lt sz p)(pre:List β)(x:β): ∀ (n:Nat) (A2 R:List β),A2.length=n->pre.length+n+1<=1099511627776->
  E.M 7 [.int pre.length,.int ((pre.length+A2.length:Nat):Int),LE enc (pre++(A2++(x::R)))]=some [LE enc (pre++(x::(A2++R)))]
 | 0,A2,R,h,d=>by
  have:A2= []:=aW.1 h
  subst this
  rw[E.m7]
  simp
 | n+1,A2,R,h,d=>by
  rcases Gi A2 with rfl | ⟨A0,y,rfl⟩
  ·simp at h
  have e:A0.length=n:=by simpa using h
  have a:((pre.length:Nat):Int)<((pre.length+(A0++ [y]).length :Nat):Int):=by simp;omega
  have g:IntKind.i64.wrap (((pre.length+(A0++ [y]).length :Nat):Int) - 1)=((pre.length+A0.length:Nat):Int):=by
   rw[aP,bT,w1 (by omega) (by omega)];omega
  have j:pre++(A0++ [y]++(x::R))=(pre++A0)++y::(x::R):=by simp
  have d1:pre++(A0++ [y]++(x::R))=(pre++A0++ [y])++x::R:=by simp
  have gx:=idx enc (C0 d1 (i:=pre.length+(A0++ [y]).length) (by simp))
  have gy:=idx enc (C0 j (i:=pre.length+A0.length) (by simp))
  have st1:=I4 (y:=y) d1 (i:=pre.length+(A0++ [y]).length) (by simp)
  have d2:(pre++A0++ [y])++y::R=(pre++A0)++y::(y::R):=by simp
  have gy2:=idx enc (C0 d2 (i:=pre.length+A0.length) (by simp))
  have st2:=I4 (y:=x) d2 (i:=pre.length+A0.length) (by simp)
  have b:pre.length+(A0++ [y]).length <(pre++(A0++ [y]++(x::R))).length :=by simp
  have c:pre.length+A0.length<((pre++A0++ [y])++y::R).length :=by simp
  have m:=sh7 E pre x n A0 (y::R) e (by omega)
  rw[E.m7]
  simp only[O.Bt,a,Zd,aA,O.Aa,Zt,O.Ch,g,gx,gy,Atu enc b,st1,gy2,Atu enc c,st2]
  rw[show pre++A0++x::y::R=pre++(A0++(x::y::R)) by simp,m]
  simp
theorem cut {q:β->Bool}{B:List β}(c:B.Pairwise λy z=>q z=true->q y=true)(d:β){k:Nat}(u:k<=B.length)(o:k=0\/q (B.getD (k - 1) d)=true)(r:k=B.length\/q (B.getD k d)=false):
  (∀y∈B.take k,q y=true)/\(∀y∈B.drop k,q y=false):=by
 have t:=(bB k B).symm
 have a:(B.take k).length =k:=by rw[bG];omega
 have g:(B.drop k).length =B.length - k:=by rw[bO]
 generalize B.take k=B1 at *
 generalize B.drop k=B2 at *
 subst t
 rw[bH]at c
 constructor
 ·rcases Gi B1 with rfl | ⟨B0,z,rfl⟩
  ·simp
  ·have e:(B0++ [z]++B2).getD (k - 1) d=z:=by
    have:=C0 (l:=B0++ [z]++B2) (A:=B0) (x:=z) (B:=B2) (by simp) (i:=k - 1) (by simp at a;omega)
    rw[cH,this];rfl
   rw[e]at o
   have b:q z=true:=by
    rcases o with h | h
    ·simp at a;omega
    ·exact h
   intro y j
   rcases aK.1 j with h | h
   ·exact(bH.1 c.1).2.2 y h z (by simp) b
   ·simp at h;subst h;exact b
 ·cases B2 with
  | nil=>simp
  | cons z B3=>
   have e:(B1++z::B3).getD k d=z:=by
    have:=C0 (l:=B1++z::B3) rfl (i:=k) (by omega)
    rw[cH,this];rfl
   rw[e]at r
   have b:q z=false:=by
    rcases r with h | h
    ·simp at h a g;omega
    ·exact h
   intro y j
   cases m:q y with
   | false=>rfl
   | true=>
    rcases aI.1 j with rfl | h
    ·rw[b]at m;exact m.symm
    ·have:=(bL.1 c.2.1).1 y h m
     rw[b]at this;exact this.symm
theorem Aj8 (pre B post:List β)(d:β){i:Nat}(h:i<B.length):(pre++(B++post)).getD (pre.length+i) d=B.getD i d:=by
 have: ¬ pre.length+i<pre.length:=by omega
 simp[cH,List.getElem?_append,h,this]
theorem Bdi (o:Ord lt){B:List β}(h:Cm lt B)(x:β):B.Pairwise λy z=>lt z x=true->lt y x=true:=
 h.imp fun {y z} a b=>by
  rcases o.neg z y x b with h | h
  ·rw[a]at h;cases h
  ·exact h
theorem Bc1 (o:Ord lt){B:List β}(h:Cm lt B)(x:β):B.Pairwise λy z=>(!lt x z)=true->(!lt x y)=true:=
 h.imp fun {y z} a b=>by
  simp only[cD]at b ⊢
  exact o.le_trans a b
theorem mrg1 (o:Ord lt)(E:Eqs enc lt sz p)(pre:List β)(x:β)(B post:List β)(g:Cm lt B)(N:pre.length+1+B.length+post.length<=1099511627776):
  ∃C,Cm lt C/\J5 lt (x::B) C/\E.M 1 [.int pre.length,.int ((pre.length+1:Nat):Int),.int ((pre.length+1+B.length:Nat):Int),LE enc (pre++(x::(B++post)))]=some [LE enc (pre++(C++post))]:=by
 have A:=idx enc (C0 (l:=pre++(x::(B++post))) rfl (i:=pre.length) rfl)
 have b:pre++(x::(B++post))=(pre++ [x])++(B++post):=by simp
 obtain⟨k,k1,k2,G,H,I⟩:=bs (F:=λi j=>E.M 1 [.int pre.length,.int i,.int j,LE enc (pre++(x::(B++post)))]) (Q:=λc=>lt ((pre++(x::(B++post))).getD c x) x) (pre.length+1) (pre.length+1+B.length) (by
  intro i j R S T
  obtain⟨c,J,m⟩:=E.cmp ((pre++(x::(B++post))).getD ((i+j) / 2) x) x
  have gi:=idx enc (Bbs (l:=pre++(x::(B++post))) x (i:=(i+j) / 2) (by simp;omega))
  have q:(i:Int)<j:=by omega
  have K:IntKind.i64.wrap ((((i+j) / 2:Nat):Int)+1)=(((i+j) / 2+1:Nat):Int):=by rw[w1 (by omega) (by omega)];rfl
  rw[E.m1 (.int pre.length) (.int i) (.int j)]
  simp only[O.Ah,q,Zd,aA,O.Aa,Zt]
  rw[mid i j (by omega)]
  simp only[gi,A,aA,I2 J,O.Ah,O.Aa,m,O.Al,K,E.m4]) B.length _ _ (by omega) (aM _) (by omega) (aM _) (.inl rfl) (.inl rfl)
 rw[G,E.m1]
 simp only[O.Ah,dD,Ze,aA,O.Aa,aE,Zf]
 have key:=cut (Bdi o g x) x (k:=k - (pre.length+1)) (by omega) (by
  rcases H with h | h
  ·left;omega
  ·by_cases e:k=pre.length+1
   ·left;omega
   right
   rw[<-Aj8 (pre++ [x]) B post x (i:=k - (pre.length+1) - 1) (by omega),<-b,show(pre++ [x]).length +(k - (pre.length+1) - 1)=k - 1 by simp;omega]
   exact h) (by
  rcases I with h | h
  ·left;omega
  ·by_cases e:k=pre.length+1+B.length
   ·left;omega
   right
   rw[<-Aj8 (pre++ [x]) B post x (i:=k - (pre.length+1)) (by omega),<-b,show(pre++ [x]).length +(k - (pre.length+1))=k by simp;omega]
   exact h)
 have r:=(bB (k - (pre.length+1)) B).symm
 have L:(B.take (k - (pre.length+1))).length =k - (pre.length+1):=by rw[bG];omega
 generalize B.take (k - (pre.length+1))=B1 at *
 generalize B.drop (k - (pre.length+1))=B2 at *
 subst r
 refine⟨B1++x::B2,?_,?_,?_⟩
 ·refine g.left.append (bL.2 ⟨λy d=>key.2 y d,g.right⟩) ?_
  intro y d z t
  rcases aI.1 t with rfl | t
  ·exact o.asymm (key.1 y d)
  ·exact g.Aem y d z t
 ·have:=(J5.swap o (u:= [x]) (v:=B1) (λa w y d=>by simp at w;subst w;exact key.1 y d)).append (J5.refl (lt:=lt) B2)
  simpa using this
 ·have:=sh5 E x (B2++post) k B1 pre (by omega) (by omega)
  simpa using this
theorem mrg2 (o:Ord lt)(E:Eqs enc lt sz p)(pre:List β)(x:β)(A post:List β)(d:Cm lt A)(S:pre.length+A.length+1+post.length<=1099511627776):
  ∃C,Cm lt C/\J5 lt (A++ [x]) C/\E.M 2 [.int ((pre.length+A.length:Nat):Int),.int pre.length,.int ((pre.length+A.length:Nat):Int),LE enc (pre++(A++(x::post)))]=some [LE enc (pre++(C++post))]:=by
 have t:=idx enc (C0 (l:=pre++(A++(x::post))) (A:=pre++A) (x:=x) (B:=post) (by simp) (i:=pre.length+A.length) (by simp))
 obtain⟨k,k1,k2,w,G,H⟩:=bs (F:=λi j=>E.M 2 [.int ((pre.length+A.length:Nat):Int),.int i,.int j,LE enc (pre++(A++(x::post)))]) (Q:=λc=> !lt x ((pre++(A++(x::post))).getD c x)) pre.length (pre.length+A.length) (by
  intro i j T U X
  obtain⟨c,I,g⟩:=E.cmp x ((pre++(A++(x::post))).getD ((i+j) / 2) x)
  have gi:=idx enc (Bbs (l:=pre++(A++(x::post))) x (i:=(i+j) / 2) (by simp;omega))
  have m:(i:Int)<j:=by omega
  have J:IntKind.i64.wrap ((((i+j) / 2:Nat):Int)+1)=(((i+j) / 2+1:Nat):Int):=by rw[w1 (by omega) (by omega)];rfl
  rw[E.m2 (.int ((pre.length+A.length:Nat):Int)) (.int i) (.int j)]
  simp only[O.Ah,m,Zd,aA,O.Aa,Zt]
  rw[mid i j (by omega)]
  simp only[gi,t,aA,I2 I,O.Ah,O.Aa,g,O.Ap,O.Al,J,E.m6]) A.length _ _ (by omega) (aM _) (by omega) (aM _) (.inl rfl) (.inl rfl)
 rw[w,E.m2]
 simp only[O.Ah,dD,Ze,aA,O.Aa,aE,Zf]
 have key:=cut (Bc1 o d x) x (k:=k - pre.length) (by omega) (by
  rcases G with h | h
  ·left;omega
  ·by_cases e:k=pre.length
   ·left;omega
   right
   rw[<-Aj8 pre A (x::post) x (i:=k - pre.length - 1) (by omega),show pre.length+(k - pre.length - 1)=k - 1 by omega]
   exact h) (by
  rcases H with h | h
  ·left;omega
  ·by_cases e:k=pre.length+A.length
   ·left;omega
   right
   rw[<-Aj8 pre A (x::post) x (i:=k - pre.length) (by omega),show pre.length+(k - pre.length)=k by omega]
   exact h)
 have q:=(bB (k - pre.length) A).symm
 have K:(A.take (k - pre.length)).length =k - pre.length:=by rw[bG];omega
 have L:(A.drop (k - pre.length)).length =A.length - (k - pre.length):=by rw[bO]
 generalize A.take (k - pre.length)=A1 at *
 generalize A.drop (k - pre.length)=A2 at *
 subst q
 simp only[cD,Bool.not_eq_false']at key
 refine⟨A1++x::A2,?_,?_,?_⟩
 ·refine d.left.append (bL.2 ⟨λy b=>o.asymm (key.2 y b),d.right⟩) ?_
  intro y b z r
  rcases aI.1 r with rfl | r
  ·exact key.1 y b
  ·exact d.Aem y b z r
 ·have:=(J5.refl (lt:=lt) A1).append (J5.swap o (u:=A2) (v:= [x]) (λa N y b=>by simp at b;subst b;exact key.2 a N))
  simpa using this
 ·have:=sh7 E (pre++A1) x A2.length A2 post rfl (by simp;omega)
  have e1:((pre++A1).length +A2.length)=pre.length+(A1++A2).length :=by simp;omega
  have R:(pre++A1).length =k:=by simp;omega
  rw[e1,R]at this
  simpa using this
end Go.CT.Srt
namespace Go.CT.Srt
variable {β:Type}{enc:β->IV}{lt:β->β->Bool}{sz:Nat}{p:Bool}
theorem mrg3 (E:Eqs enc lt sz p)(pre A B post:List β)(T:A≠ [])(Z:B≠ [])(hb:pre.length+A.length+B.length+post.length<=1099511627776)
  (b m n s0 r0:Nat) (em:m=pre.length+A.length) (eb:b=m+B.length) (en:n=(pre.length+b) / 2+m)
  (aa:(m > (pre.length+b) / 2/\s0=n - b/\r0=(pre.length+b) / 2)\/(¬ m > (pre.length+b) / 2/\s0=pre.length/\r0=m)):
  ∃A1 A2 B1 B2,A=A1++A2/\B=B1++B2/\A1.length+B1.length+pre.length=(pre.length+b) / 2/\
   (A1= []\/B2= []\/ ∃A0 z w B0,A1=A0++ [z]/\B2=w::B0/\lt w z=false)/\
   (A2= []\/B1= []\/ ∃A0 z w B0,A2=z::A0/\B1=B0++ [w]/\lt w z=true)/\
   E.M 8 [.int pre.length,.int m,.int b,.int ((pre.length+b) / 2:Nat),.int n,.int s0,.int r0,.int (n - 1:Nat),LE enc (pre++(A++(B++post)))]=
    E.M 10 [.int pre.length,.int b,.int ((pre.length+b) / 2:Nat),.int (pre.length+A1.length:Nat),.int ((pre.length+b) / 2+A2.length:Nat),LE enc (pre++(A1++(B1++(A2++(B2++post)))))]:=by
 have ab:=aN.2 T
 have ac:=aN.2 Z
 obtain⟨d, -⟩:=List.exists_mem_of_ne_nil A T
 have ad:pre.length<=s0:=by omega
 have ae:r0<=m:=by omega
 have o:s0<=r0:=by omega
 have y: ∀c,s0<=c->c<r0->m<=n - 1 - c/\n - 1 - c<b/\c+1<=n:=by intro c U X;omega
 have C: ∀k,s0<=k->k<=r0->m<=n - k/\n - k<=b/\k<=n:=by intro k U X;omega
 have af:s0=pre.length\/n - s0=b:=by omega
 have ag:r0=m\/n - r0=m:=by omega
 obtain⟨k,k1,k2,k3,k4,k5⟩:=bs (F:=λi j=>E.M 8 [.int pre.length,.int m,.int b,.int ((pre.length+b) / 2:Nat),.int n,.int i,.int j,.int (n - 1:Nat),LE enc (pre++(A++(B++post)))])
  (Q:=λc=> !lt ((pre++(A++(B++post))).getD (n - 1 - c) d) ((pre++(A++(B++post))).getD c d)) s0 r0 (by
  intro i j U X h3
  have ah:=y ((i+j) / 2) (by omega) (by omega)
  obtain⟨c,hc,G⟩:=E.cmp ((pre++(A++(B++post))).getD (n - 1 - (i+j) / 2) d) ((pre++(A++(B++post))).getD ((i+j) / 2) d)
  have gi:=idx enc (Bbs (l:=pre++(A++(B++post))) d (i:=(i+j) / 2) (by simp;omega))
  have gp:=idx enc (Bbs (l:=pre++(A++(B++post))) d (i:=n - 1 - (i+j) / 2) (by simp;omega))
  have H:(i:Int)<j:=by omega
  have I:IntKind.i64.wrap ((((i+j) / 2:Nat):Int)+1)=(((i+j) / 2+1:Nat):Int):=by rw[w1 (by omega) (by omega)];rfl
  have J:IntKind.i64.wrap (((n - 1:Nat):Int) - (((i+j) / 2:Nat):Int))=((n - 1 - (i+j) / 2:Nat):Int):=by rw[w1 (by omega) (by omega)];omega
  rw[E.m8 (.int pre.length) (.int m) (.int b) (.int ((pre.length+b) / 2:Nat)) (.int n) (.int i) (.int j)]
  simp only[O.Ah,H,Zd,aA,O.Aa,Zt]
  rw[mid i j (by omega)]
  simp only[O.Ch,J,gi,gp,aA,I2 hc,O.Ah,O.Aa,G,O.Ap,O.Al,I,E.m9]) (r0 - s0) s0 r0 (aM _) (aM _) o (aM _) (.inl rfl) (.inl rfl)
 have hk:=C k k1 k2
 have q:=(bB (k - pre.length) A).symm
 have K:(A.take (k - pre.length)).length =k - pre.length:=by rw[bG];omega
 have r:(A.drop (k - pre.length)).length =m - k:=by rw[bO];omega
 have t:=(bB (n - k - m) B).symm
 have u:(B.take (n - k - m)).length =n - k - m:=by rw[bG];omega
 have L:(B.drop (n - k - m)).length =b - (n - k):=by rw[bO];omega
 refine⟨A.take (k - pre.length),A.drop (k - pre.length),B.take (n - k - m),B.drop (n - k - m),q,t,by omega,?_⟩
 generalize A.take (k - pre.length)=A1 at *
 generalize A.drop (k - pre.length)=A2 at *
 generalize B.take (n - k - m)=B1 at *
 generalize B.drop (n - k - m)=B2 at *
 subst q t
 refine⟨?_,?_,?_⟩
 ·rcases Gi A1 with rfl | ⟨A0,z,rfl⟩
  ·exact .inl rfl
  cases B2 with
  | nil=>exact .inr (.inl rfl)
  | cons w B0=>
   refine .inr (.inr ⟨A0,z,w,B0,rfl,rfl,?_⟩)
   simp only[aP,aU,bJ]at K L
   rcases k4 with h | h
   ·omega
   ·have e1:=C0 (l:=pre++(A0++ [z]++A2++(B1++w::B0++post))) (A:=pre++A0) (x:=z) (B:=A2++(B1++w::B0++post)) (by simp) (i:=k - 1) (by simp;omega)
    have N:=C0 (l:=pre++(A0++ [z]++A2++(B1++w::B0++post))) (A:=pre++(A0++ [z]++A2++B1)) (x:=w) (B:=B0++post) (by simp) (i:=n - 1 - (k - 1)) (by simp;omega)
    rw[cH,cH,e1,N]at h
    simpa using h
 ·cases A2 with
  | nil=>exact .inl rfl
  | cons z A0=>
   rcases Gi B1 with rfl | ⟨B0,w,rfl⟩
   ·exact .inr (.inl rfl)
   refine .inr (.inr ⟨A0,z,w,B0,rfl,rfl,?_⟩)
   simp only[aP,aU,bJ]at r u
   rcases k5 with h | h
   ·omega
   ·have e1:=C0 (l:=pre++(A1++z::A0++(B0++ [w]++B2++post))) (A:=pre++A1) (x:=z) (B:=A0++(B0++ [w]++B2++post)) (by simp) (i:=k) (by simp;omega)
    have N:=C0 (l:=pre++(A1++z::A0++(B0++ [w]++B2++post))) (A:=pre++(A1++z::A0++B0)) (x:=w) (B:=B2++post) (by simp) (i:=n - 1 - k) (by simp;omega)
    rw[cH,cH,e1,N]at h
    simpa using h
 ·rw[k3,E.m8]
  have I:IntKind.i64.wrap ((n:Int) - k)=((n - k:Nat):Int):=by rw[w1 (by omega) (by omega)];omega
  simp only[O.Ah,dD,Ze,aA,O.Aa,aE,Zf,O.Ch,I]
  have e3:pre.length+A1.length=k:=by omega
  have e4:(pre.length+b) / 2+A2.length=n - k:=by omega
  rw[e3,e4]
  simp only[aP]at em eb hb
  by_cases c1:k<m
  ·by_cases c2:m<n - k
   ·have a:(k:Int)<m:=by omega
    have g:(m:Int)<(n - k:Nat):=by omega
    have Y:=rot E (pre++A1) A2 B1 (B2++post) (by intro e;subst e;simp at r;omega) (by intro e;subst e;simp at u;omega) (by simp;omega)
    have e5:(pre++A1).length =k:=by simp;omega
    have e6:k+A2.length=m:=by omega
    have e7:m+B1.length=n - k:=by omega
    rw[e5,e6,e7]at Y
    have e8:pre++(A1++A2++(B1++B2++post))=pre++A1++(A2++(B1++(B2++post))):=by simp
    rw[e8]
    simp only[a,g,Zd,Zt,aA,O.Aa,I2 Y]
    simp
   ·have R:B1= []:=aW.1 (by omega)
    subst R
    have a:(k:Int)<m:=by omega
    have g: ¬ (m:Int)<(n - k:Nat):=by omega
    simp only[a,g,Zd,Ze,Zt,aE,Zf,aA,O.Aa]
    simp
  ·have S:A2= []:=aW.1 (by omega)
   subst S
   have a: ¬ (k:Int)<m:=by omega
   simp only[a,Ze,aE,Zf,aA,O.Aa]
   simp
theorem Baw (o:Ord lt){A1 B2:List β}(c:Cm lt A1)(d:Cm lt B2)(h:A1= []\/B2= []\/ ∃A0 z w B0,A1=A0++ [z]/\B2=w::B0/\lt w z=false): ∀x∈A1,∀y∈B2,lt y x=false:=by
 rcases h with rfl | rfl | ⟨A0,z,w,B0,rfl,rfl,h⟩
 ·simp
 ·simp
 ·intro x a y b
  have e:lt z x=false:=by
   rcases aK.1 a with a | a
   ·exact c.Aem x a z (by simp)
   ·simp at a;subst a;exact o.irr x
  have g:lt y w=false:=by
   rcases aI.1 b with rfl | b
   ·exact o.irr y
   ·exact(bL.1 d).1 y b
  exact o.le_trans (o.le_trans e h) g
theorem Ba6 (o:Ord lt){A2 B1:List β}(c:Cm lt A2)(d:Cm lt B1)(h:A2= []\/B1= []\/ ∃A0 z w B0,A2=z::A0/\B1=B0++ [w]/\lt w z=true): ∀x∈A2,∀y∈B1,lt y x=true:=by
 rcases h with rfl | rfl | ⟨A0,z,w,B0,rfl,rfl,h⟩
 ·simp
 ·simp
 ·intro x b y a
  have e:lt x z=false:=by
   rcases aI.1 b with rfl | b
   ·exact o.irr x
   ·exact(bL.1 c).1 x b
  have g:lt w y=false:=by
   rcases aK.1 a with a | a
   ·exact d.Aem y a w (by simp)
   ·simp at a;subst a;exact o.irr y
  cases i:lt y x with
  | true=>rfl
  | false=>
   have:=o.le_trans (o.le_trans e i) g
   rw[h]at this;cases this
theorem mrg (o:Ord lt)(E:Eqs enc lt sz p): ∀ (N:Nat) (pre A B post:List β),A.length+B.length<=N->A≠ []->B≠ []->Cm lt A->Cm lt B->pre.length+A.length+B.length+post.length<=1099511627776->
  ∃C,Cm lt C/\J5 lt (A++B) C/\E.M 0 [LE enc (pre++(A++(B++post))),.int pre.length,.int ((pre.length+A.length:Nat):Int),.int ((pre.length+A.length+B.length:Nat):Int)]=some [LE enc (pre++(C++post))]
 | 0,pre,A,B,post,hN,F,S,_,_,_=>by
  have:=aN.2 F
  omega
 | N+1,pre,A,B,post,hN,F,S,sA,sB,hb=>by
  have ad:=aN.2 F
  have ae:=aN.2 S
  have G:IntKind.i64.wrap (((pre.length+A.length:Nat):Int) - pre.length)=A.length:=by rw[w1 (by omega) (by omega)];omega
  have H:IntKind.i64.wrap (((pre.length+A.length+B.length:Nat):Int) - ((pre.length+A.length:Nat):Int))=B.length:=by rw[w1 (by omega) (by omega)];omega
  rw[E.m0]
  simp only[O.Ch,G,H,aA,O.eq_int]
  by_cases c1:A.length=1
  ·obtain⟨x,rfl⟩:=cW.1 c1
   obtain⟨C,c,e,d⟩:=mrg1 o E pre x B post sB (by simpa using hb)
   refine⟨C,c,e,?_⟩
   have g:(([x]:List β).length :Int)=1:=rfl
   simp only[g,Zd,aA,O.Aa,Zt]
   exact d
  have g: ¬ (A.length:Int)=1:=by omega
  simp only[g,Ze,aA,O.Aa,aE,Zf]
  by_cases c2:B.length=1
  ·obtain⟨x,rfl⟩:=cW.1 c2
   obtain⟨C,c,e,d⟩:=mrg2 o E pre x A post sA (by simpa using hb)
   refine⟨C,c,e,?_⟩
   have h:(([x]:List β).length :Int)=1:=rfl
   simp only[h,Zd,aA,O.Aa,Zt]
   exact d
  have h: ¬ (B.length:Int)=1:=by omega
  simp only[h,Ze,aA,O.Aa,aE,Zf]
  rw[mid pre.length (pre.length+A.length+B.length) (by omega)]
  generalize em:pre.length+A.length=m at *
  generalize eb:m+B.length=b at *
  have I:IntKind.i64.wrap ((((pre.length+b) / 2:Nat):Int)+(m:Int))=(((pre.length+b) / 2+m:Nat):Int):=by rw[w1 (by omega) (by omega)];rfl
  have i:IntKind.i64.wrap ((((pre.length+b) / 2+m:Nat):Int) - 1)=(((pre.length+b) / 2+m - 1:Nat):Int):=by rw[w1 (by omega) (by omega)];omega
  have main: ∃A1 A2 B1 B2,A=A1++A2/\B=B1++B2/\A1.length+B1.length+pre.length=(pre.length+b) / 2/\
   (A1= []\/B2= []\/ ∃A0 z w B0,A1=A0++ [z]/\B2=w::B0/\lt w z=false)/\
   (A2= []\/B1= []\/ ∃A0 z w B0,A2=z::A0/\B1=B0++ [w]/\lt w z=true)/\
   ((
    O.add .i64 (.int ((pre.length+b) / 2:Nat)) (.int m)).bind λj=>
    (O.gt (.int m) (.int ((pre.length+b) / 2:Nat))).bind λT=>
    cnd T ((O.sub .i64 j (.int b)).bind λU=>E.M 3 [.int pre.length,.int m,.int b,.int ((pre.length+b) / 2:Nat),j,U,.int ((pre.length+b) / 2:Nat),LE enc (pre++(A++(B++post)))])
     (E.M 3 [.int pre.length,.int m,.int b,.int ((pre.length+b) / 2:Nat),j,.int pre.length,.int m,LE enc (pre++(A++(B++post)))]))=
    E.M 10 [.int pre.length,.int b,.int ((pre.length+b) / 2:Nat),.int (pre.length+A1.length:Nat),.int ((pre.length+b) / 2+A2.length:Nat),LE enc (pre++(A1++(B1++(A2++(B2++post)))))]:=by
   simp only[O.Al,I,aA,O.Bt]
   by_cases c3:m > (pre.length+b) / 2
   ·have q:(((pre.length+b) / 2:Nat):Int)<(m:Int):=by omega
    have X:IntKind.i64.wrap ((((pre.length+b) / 2+m:Nat):Int) - (b:Int))=(((pre.length+b) / 2+m - b:Nat):Int):=by rw[w1 (by omega) (by omega)];omega
    obtain⟨A1,A2,B1,B2,Y,Z,J,K,L,t⟩:=mrg3 E pre A B post F S (by omega) b m ((pre.length+b) / 2+m) ((pre.length+b) / 2+m - b) ((pre.length+b) / 2) (by omega) (by omega) rfl (.inl ⟨c3,rfl,rfl⟩)
    refine⟨A1,A2,B1,B2,Y,Z,J,K,L,?_⟩
    simp only[q,Zd,O.Aa,Zt,O.Ch,X,aA,E.m3,i]
    exact t
   ·have q: ¬ (((pre.length+b) / 2:Nat):Int)<(m:Int):=by omega
    obtain⟨A1,A2,B1,B2,Y,Z,J,K,L,t⟩:=mrg3 E pre A B post F S (by omega) b m ((pre.length+b) / 2+m) pre.length m (by omega) (by omega) rfl (.inr ⟨c3,rfl,rfl⟩)
    refine⟨A1,A2,B1,B2,Y,Z,J,K,L,?_⟩
    simp only[q,Ze,aE,O.Aa,Zf,O.Ch,aA,E.m3,i]
    exact t
  obtain⟨A1,A2,B1,B2,rfl,rfl,J,K,L,t⟩:=main
  rw[t,E.m10]
  clear t G H I i
  simp only[aP]at *
  have aa:=Baw o sA.left sB.right K
  have Q:=Ba6 o sA.right sB.left L
  have finish: ∀C1 C2,Cm lt C1->J5 lt (A1++B1) C1->Cm lt C2->J5 lt (A2++B2) C2->Cm lt (C1++C2)/\J5 lt (A1++A2++(B1++B2)) (C1++C2):=by
   intro C1 C2 s1 R s2 t2
   refine⟨s1.append s2 ?_,?_⟩
   ·intro x r y a
    rcases aK.1 (R.symm.mem o r) with r | r
    ·rcases aK.1 (t2.symm.mem o a) with a | a
     ·exact sA.Aem x r y a
     ·exact aa x r y a
    ·rcases aK.1 (t2.symm.mem o a) with a | a
     ·exact o.asymm (Q y a x r)
     ·exact sB.Aem x r y a
   ·have c:J5 lt (A1++A2++(B1++B2)) (A1++B1++(A2++B2)):=by
     have:=(J5.refl (lt:=lt) A1).append ((J5.swap o (u:=A2) (v:=B1) Q).append (J5.refl (lt:=lt) B2))
     simpa using this
    exact c.trans (R.append t2)
  generalize emid:(pre.length+b) / 2=mi at *
  -- the first half
  have first: ∃C1,Cm lt C1/\J5 lt (A1++B1) C1/\
    ((
     O.lt (.int pre.length) (.int (pre.length+A1.length:Nat))).bind λx6=>
     (cnd x6 ((O.lt (.int (pre.length+A1.length:Nat)) (.int mi)).bind λx7=>some x7) (some (.bool false))).bind λx7=>
     cnd x7 (calls (E.M 0 [LE enc (pre++(A1++(B1++(A2++(B2++post))))),.int pre.length,.int (pre.length+A1.length:Nat),.int mi]) 1 λx8=>E.M 11 [.int b,.int mi,.int (mi+A2.length:Nat),x8])
      (E.M 11 [.int b,.int mi,.int (mi+A2.length:Nat),LE enc (pre++(A1++(B1++(A2++(B2++post)))))]))=
    E.M 11 [.int b,.int mi,.int (mi+A2.length:Nat),LE enc (pre++(C1++(A2++(B2++post))))]:=by
   by_cases d1:A1= []
   ·subst d1
    refine⟨B1,sB.left,.refl _,?_⟩
    simp
   by_cases d2:B1= []
   ·subst d2
    refine⟨A1,sA.left,by rw[aO];exact .refl _,?_⟩
    simp only[bJ]at J
    have d3: ¬ ((pre.length+A1.length:Nat):Int)<(mi:Int):=by omega
    simp only[O.Ah,aA,d3,Ze]
    by_cases d4:(pre.length:Int)<((pre.length+A1.length:Nat):Int)<;>simp[d4]
   ·have ab:=aN.2 d1
    have ac:=aN.2 d2
    obtain⟨C1,c,e,d⟩:=mrg o E N pre A1 B1 (A2++(B2++post)) (by omega) d1 d2 sA.left sB.left (by simp;omega)
    refine⟨C1,c,e,?_⟩
    have d3:((pre.length+A1.length:Nat):Int)<(mi:Int):=by omega
    have d4:(pre.length:Int)<((pre.length+A1.length:Nat):Int):=by omega
    rw[show pre.length+A1.length+B1.length=mi by omega]at d
    simp only[O.Ah,aA,d3,d4,Zd,O.Aa,Zt,I2 d]
  obtain⟨C1,s1,R,e1⟩:=first
  rw[e1,E.m11]
  have af:C1.length=A1.length+B1.length:=by have:=R.1;simp at this;omega
  have second: ∃C2,Cm lt C2/\J5 lt (A2++B2) C2/\
    ((
     O.lt (.int mi) (.int (mi+A2.length:Nat))).bind λx4=>
     (cnd x4 ((O.lt (.int (mi+A2.length:Nat)) (.int b)).bind λx5=>some x5) (some (.bool false))).bind λx5=>
     cnd x5 (calls (E.M 0 [LE enc (pre++(C1++(A2++(B2++post)))),.int mi,.int (mi+A2.length:Nat),.int b]) 1 λx6=>some [x6]) (some [LE enc (pre++(C1++(A2++(B2++post))))]))=
    some [LE enc (pre++(C1++(C2++post)))]:=by
   by_cases d1:A2= []
   ·subst d1
    refine⟨B2,sB.right,.refl _,?_⟩
    simp
   by_cases d2:B2= []
   ·subst d2
    refine⟨A2,sA.right,by rw[aO];exact .refl _,?_⟩
    simp only[bJ]at *
    have d3: ¬ ((mi+A2.length:Nat):Int)<(b:Int):=by omega
    simp only[O.Ah,aA,d3,Ze]
    by_cases d4:(mi:Int)<((mi+A2.length:Nat):Int)<;>simp[d4]
   ·have ab:=aN.2 d1
    have ac:=aN.2 d2
    obtain⟨C2,c,e,d⟩:=mrg o E N (pre++C1) A2 B2 post (by omega) d1 d2 sA.right sB.right (by simp;omega)
    refine⟨C2,c,e,?_⟩
    have d3:((mi+A2.length:Nat):Int)<(b:Int):=by omega
    have d4:(mi:Int)<((mi+A2.length:Nat):Int):=by omega
    have f1:(pre++C1).length =mi:=by simp;omega
    rw[f1,show mi+A2.length+B2.length=b by omega,aG,aG]at d
    simp only[O.Ah,aA,d3,d4,Zd,O.Aa,Zt,I2 d]
  obtain⟨C2,s2,t2,e2⟩:=second
  have fin:=finish C1 C2 s1 R s2 t2
  refine⟨C1++C2,fin.1,fin.2,?_⟩
  rw[e2,aG]
end Go.CT.Srt
namespace Go.CT.Srt
variable {β:Type}{enc:β->IV}{lt:β->β->Bool}{sz:Nat}{p:Bool}
inductive Blk (lt:β->β->Bool)(k:Nat):List β->Prop
 | last (l:List β):l.length<=k->Cm lt l->Blk lt k l
 | cons (a l:List β):a.length=k->Cm lt a->Blk lt k l->Blk lt k (a++l)
theorem Blk.sorted {k:Nat}{l:List β}(h:Blk lt k l)(b:l.length<=k):Cm lt l:=by
 cases h with
 | last _ _ h=>exact h
 | cons a l d c e=>
  have:l= []:=aW.1 (by simp at b;omega)
  subst this;rw[aO];exact c
theorem Blk.first {k:Nat}{l:List β}(h:Blk lt k l)(e:k<=l.length): ∃a r,l=a++r/\a.length=k/\Cm lt a/\Blk lt k r:=by
 cases h with
 | last _ b h=>exact⟨l,[],by simp,by omega,h,.last _ (by simp) .nil⟩
 | cons a l b c d=>exact⟨a,l,rfl,b,c,d⟩
theorem ph1 (o:Ord lt)(E:Eqs enc lt sz p)(N:Nat): ∀ (n:Nat) (pre rest:List β),rest.length<=n->N=pre.length+rest.length->N<=549755813888->
  ∃r,Blk lt 20 r/\J5 lt rest r/\E.B 1 [.int N,.int 20,.int pre.length,.int ((pre.length+20:Nat):Int),LE enc (pre++rest)]=E.B 2 [.int N,.int 20,LE enc (pre++r)]
 | n,pre,rest,g,j,q=>by
  rw[E.b1]
  by_cases c:20<=rest.length
  ·have c':((pre.length+20:Nat):Int)<=(N:Int):=by omega
   have t:IntKind.i64.wrap (((pre.length+20:Nat):Int)+20)=((pre.length+20+20:Nat):Int):=by rw[w1 (by omega) (by omega)];rfl
   have u:=(bB 20 rest).symm
   have b:(rest.take 20).length =20:=by rw[bG];omega
   generalize rest.take 20=r1 at *
   generalize rest.drop 20=r2 at *
   subst u
   simp only[aP]at g j c
   obtain⟨a,h,d,e⟩:=ins o E pre r1 r2 (by omega)
   have i:a.length=20:=by rw[<-d.1];exact b
   match n,g with
   | 0,g=>omega
   | n+1,g=>
    obtain⟨r,w,x,m⟩:=ph1 o E N n (pre++a) r2 (by omega) (by simp;omega) q
    refine⟨a++r,.cons _ _ i h w,d.append x,?_⟩
    rw[b]at e
    simp only[O.Ed,c',Zd,aA,O.Aa,Zt,I2 e,O.Al,t]
    rw[show(pre++a).length =pre.length+20 by simp;omega,aG,aG]at m
    exact m
  ·have c': ¬ ((pre.length+20:Nat):Int)<=(N:Int):=by omega
   obtain⟨a,h,d,e⟩:=ins o E pre rest [] (by simp;omega)
   refine⟨a,.last _ (by rw[<-d.1];omega) h,d,?_⟩
   rw[aO,aO,<-j]at e
   simp only[O.Ed,c',Ze,aE,aA,O.Aa,Zf,I2 e]
theorem ph3 (o:Ord lt)(E:Eqs enc lt sz p)(N k:Nat)(G:0<k)(m:k<N): ∀ (n:Nat) (pre rest:List β),rest.length<=n->N=pre.length+rest.length->N<=549755813888->Blk lt k rest->
  ∃r,Blk lt (2 * k) r/\J5 lt rest r/\E.B 3 [.int N,.int k,.int pre.length,.int ((pre.length+2 * k:Nat):Int),LE enc (pre++rest)]=E.B 4 [.int N,.int k,LE enc (pre++r)]
 | n,pre,rest,b,q,H,a=>by
  have g:IntKind.i64.wrap ((pre.length:Int)+(k:Int))=((pre.length+k:Nat):Int):=by rw[w1 (by omega) (by omega)];rfl
  have t:IntKind.i64.wrap (2 * (k:Int))=((2 * k:Nat):Int):=by rw[w1 (by omega) (by omega)];rfl
  rw[E.b3]
  by_cases c:2 * k<=rest.length
  ·have c':((pre.length+2 * k:Nat):Int)<=(N:Int):=by omega
   have u:IntKind.i64.wrap (((pre.length+2 * k:Nat):Int)+((2 * k:Nat):Int))=((pre.length+2 * k+2 * k:Nat):Int):=by rw[w1 (by omega) (by omega)];rfl
   obtain⟨w,r1,rfl,h,x,a⟩:=a.first (by omega)
   simp only[aP]at b q c
   obtain⟨a2,r2,rfl,A,I,a⟩:=a.first (by omega)
   simp only[aP]at b q c
   obtain⟨C,y,i,j⟩:=mrg o E _ pre w a2 r2 (aM _) (by intro e;subst e;simp at h;omega) (by intro e;subst e;simp at A;omega) x I (by omega)
   have J:C.length=2 * k:=by have:=i.1;simp at this;omega
   match n,b with
   | 0,b=>omega
   | n+1,b=>
    obtain⟨r,K,L,F⟩:=ph3 o E N k G m n (pre++C) r2 (by omega) (by simp;omega) H a
    refine⟨C++r,.cons _ _ J y K,by rw[<-aG];exact i.append L,?_⟩
    rw[h,A,show pre.length+k+k=pre.length+2 * k by omega]at j
    simp only[O.Ed,c',Zd,aA,O.Aa,Zt,O.Al,g,I2 j,O.Agz,t,u]
    rw[show(pre++C).length =pre.length+2 * k by simp;omega,aG,aG]at F
    exact F
  ·have c': ¬ ((pre.length+2 * k:Nat):Int)<=(N:Int):=by omega
   simp only[O.Ed,c',Ze,aE,aA,O.Aa,Zf,O.Al,g,O.Ah]
   by_cases d:k<rest.length
   ·have z:((pre.length+k:Nat):Int)<(N:Int):=by omega
    obtain⟨w,r1,rfl,h,x,a⟩:=a.first (by omega)
    simp only[aP]at b q c d
    obtain⟨C,y,i,j⟩:=mrg o E _ pre w r1 [] (aM _) (by intro e;subst e;simp at h;omega) (by intro e;subst e;simp at d;omega) x (a.sorted (by omega)) (by simp;omega)
    refine⟨C,.last _ (by have:=i.1;simp at this;omega) y,i,?_⟩
    rw[aO,aO,h,show pre.length+k+r1.length=N by omega]at j
    simp only[z,Zd,Zt,I2 j]
   ·have z: ¬ ((pre.length+k:Nat):Int)<(N:Int):=by omega
    refine⟨rest,.last _ (by omega) (a.sorted (by omega)),.refl _,?_⟩
    simp only[z,Ze,aE,Zf]
theorem ph2 (o:Ord lt)(E:Eqs enc lt sz p)(N:Nat)(e:N<=549755813888): ∀ (n k:Nat) (l:List β),N - k<=n->0<k->k<=1099511627776->l.length=N->Blk lt k l->
  ∃r,Cm lt r/\J5 lt l r/\E.B 2 [.int N,.int k,LE enc l]=some [LE enc r]
 | n,k,l,a,j,m,q,g=>by
  rw[E.b2]
  by_cases c:k<N
  ·have c':(k:Int)<(N:Int):=by omega
   have b:IntKind.i64.wrap (2 * (k:Int))=((2 * k:Nat):Int):=by rw[w1 (by omega) (by omega)];rfl
   have d:IntKind.i64.wrap ((k:Int) * 2)=((2 * k:Nat):Int):=by rw[w1 (by omega) (by omega)];omega
   obtain⟨r,t,h,i⟩:=ph3 o E N k j c l.length [] l (aM _) (by simp;omega) e g
   match n,a with
   | 0,a=>omega
   | n+1,a=>
    obtain⟨u,w,x,y⟩:=ph2 o E N e n (2 * k) r (by omega) (by omega) (by omega) (by rw[<-h.1,q]) t
    refine⟨u,w,h.trans x,?_⟩
    simp only[bJ,bD,cU,Int.ofNat_zero]at i
    simp only[O.Ah,c',Zd,aA,O.Aa,Zt,O.Agz,b]
    refine Eq.trans i ?_
    rw[E.b4]
    simp only[O.Agz,d,aA,y]
  ·have c': ¬ (k:Int)<(N:Int):=by omega
   refine⟨l,g.sorted (by omega),.refl _,?_⟩
   simp only[O.Ah,c',Ze,aE,aA,O.Aa,Zf]
theorem sort (o:Ord lt)(E:Eqs enc lt sz p)(l:List β)(a:l.length<=549755813888): ∃r,Cm lt r/\J5 lt l r/\E.S 0 [LE enc l]=some [LE enc r]:=by
 obtain⟨r1,d,b,c⟩:=ph1 o E l.length l.length [] l (aM _) (by simp) a
 obtain⟨r,e,g,h⟩:=ph2 o E l.length a _ 20 r1 (aM _) (by omega) (by omega) b.1.symm d
 refine⟨r,e,b.trans g,?_⟩
 rw[E.s0,len]
 simp only[bJ,bD,cU]at c
 have:E.B 0 [LE enc l,.int l.length]=some [LE enc r]:=by
  rw[E.b0]
  exact c.trans h
 simp only[aA,I2 this]
end Go.CT.Srt
namespace Go.CT
open Go.RowKit Go.ChangeShapes
section
variable {H:Type}{enc:TypeId × Value->H}{P:Program}{w:World}{TS:List TypeId}{bk:DataW H->Nat}{bks:List (DataW H)->Nat}
theorem An0 {t:TypeId}{v:Value}{base:Nat}(c:Sc P TS t=true)(h:Value.okWide P w .any base t v):mkV P t v.cells.toList=v:=by
 unfold Sc at c
 simp only[aD]at c
 obtain⟨_,b⟩:=c
 have aux:Ai P t=false->(∀cs,v≠ .agg cs)->mkV P t v.cells.toList=v:=by
  intro g i
  unfold mkV
  rw[g]
  cases v<;>first | rfl | exact absurd rfl (i _)
 cases a:P.underlying t with
 | none=>rw[a]at b;cases b
 | some d=>
  rw[a]at b
  cases d with
  | struct fs=>
   simp only[Value.okWide,a]at h
   obtain⟨cs,rfl,_,_⟩:=h
   simp[mkV,Ai,a,Value.cells]
  | int k=>
   refine aux (by simp[Ai,a]) (λcs e=>?_)
   subst e
   simp[Value.okWide,Cell.okWide,Cell.ok,a]at h
  | bool=>
   refine aux (by simp[Ai,a]) (λcs e=>?_)
   subst e
   simp[Value.okWide,Cell.okWide,Cell.ok,a]at h
  | string=>
   refine aux (by simp[Ai,a]) (λcs e=>?_)
   subst e
   simp[Value.okWide,Cell.okWide,Cell.ok,a]at h
  | slice e=>
   refine aux (by simp[Ai,a]) (λcs e=>?_)
   subst e
   simp[Value.okWide,Cell.okWide,Cell.ok,a]at h
  | _=>simp at b
theorem Apy (i:Aoj bk bks)(c:Ak9 P TS=true){spare:Nat->Bool}{base:Nat} : ∀ (ts:List TypeId) (vs:List Value) (ds:List (DataW H)) (m:List MemPlace),(∀t∈ts,t∈TS)->
  DataW.TrodAll enc P w 0 spare true ts vs ds m->(∀ (j:Nat) (t:TypeId) (v:Value),ts[j]?=some t->vs[j]?=some v->Value.okWide P w .any base t v)->
  ∃xs,WTs P ts xs/\IV.Cs xs<=bks ds/\D0 P w (λb=>False\/b∈ []) (· ∈ []) (ts.map PS.data) xs vs []/\ds.length=ts.length
 | [],[],[],m,_,_,_=>⟨[],trivial,by simp[IV.Cs],⟨rfl,rfl⟩,rfl⟩
 | t::ts,v::vs,d::ds,m,r,h,e=>by
  obtain⟨p,q,⟨fuel,x⟩,y,rfl⟩:=h
  obtain⟨xs,x1,G,z,A⟩:=Apy i c ts vs ds q (λt h=>r t (by simp[h])) y (λj t v a b=>e (j+1) t v (by simpa using a) (by simpa using b))
  have u:=r t (by simp)
  have hd:Sc P TS t=true:=aY.1 c t u
  obtain⟨ys,B,C⟩:=Ago i c fuel t _ d p u x
  obtain⟨r1,r2,I,E,J⟩:=B.mk_val hd
  have F:=An0 hd (e 0 t v rfl rfl)
  rw[F]at r1
  refine⟨Apc P t ys::xs,⟨r2,x1⟩,?_,?_,by simp[A]⟩
  ·rw[i.cons]
   simp only[IV.Cs]
   by_cases o:Ai P t=true
   ·have:=C o
    have e1:(Apc P t ys).bulk =IV.Cs ys+1:=by simp[Apc,o,IV.bulk]
    omega
   ·have:=E (by simpa using o)
    omega
  ·refine⟨[Apc P t ys],xs,[],[],rfl,rfl,⟨_,rfl,rfl,r1.weaken (λb _ g=>?_)⟩,z⟩
   rcases g with g | g
   ·exact g
   ·cases g
 | [],_::_,_,_,_,h,_=>by cases h
 | [],[],_::_,_,_,h,_=>by cases h
 | _::_,[],_,_,_,h,_=>by cases h
 | _::_,_::_,[],_,_,h,_=>by cases h
theorem P9 (g:laidOutB P=true){W W':World}{sp:Nat->Bool}(i:Below W.heap.size W W'): ∀ (ts:List TypeId) (vs:List Value) (ds:List (DataW H)) (b:List MemPlace),(∀t∈ts,P.readableRec t=true/\t<P.types.size)->
  DataW.TrodAll enc P W 0 (λ_=>true) true ts vs ds b->(∀p∈b,p.block<W.heap.size)->(∀p∈b,sp p.block=true)->DataW.TrodAll enc P W' 0 sp true ts vs ds b
 | [],[],[],_,_,h,_,_=>h
 | t::ts,v::vs,d::ds,b,j,h,c,e=>by
  obtain⟨p,q,o,r,rfl⟩:=h
  have m:=j t (by simp)
  exact⟨p,q,WideElems.Trod_stays g m.1 m.2 o (λx a=>i.same (c x (by simp[a]))) (λx a=>e x (by simp[a])),
   P9 g i ts vs ds q (λt h=>j t (by simp[h])) r (λx a=>c x (by simp[a])) (λx a=>e x (by simp[a])),rfl⟩
 | [],_::_,_,_,_,h,_,_=>by cases h
 | [],[],_::_,_,_,h,_,_=>by cases h
 | _::_,[],_,_,_,h,_,_=>by cases h
 | _::_,_::_,[],_,_,h,_,_=>by cases h
theorem Atk.calls {f:FuncId}{args:Array Value}{R:Value->World->Prop}{fn:Func}(a:P.funcs[f]?=some fn)(g:fn.body.isSome=true)(d:(fn.name == "runtime.NumGoroutine")=false)(h:Atk P f args w R):
  Calls P f args w λe w'=> ∃v,e= .returned v/\R v w':=by
 rcases h with⟨_,_,_,_,h⟩ | ⟨v,w',h,_⟩
 ·exact h
 ·have b: ¬ fn.body=none:=by cases i:fn.body<;>simp_all
  have c: ¬ fn.name= "runtime.NumGoroutine" :=by simpa using d
  simp[callFunc,a,c,b]at h
theorem Yx: ∀ {ts:List TypeId} {vs:List Value},ts.length=vs.length->Iq 0 (ts.map PS.data) vs=some vs
 | [],[],_=>rfl
 | [],_::_,h=>by simp at h
 | _::_,[],h=>by simp at h
 | t::ts,v::vs,h=>by
  simp only[bS,Iq,Ae8,Yx (ts:=ts) (vs:=vs) (by simpa using h),bX]
theorem Agp {specs:List (Nat × Spec)}{T:Job->Option PT}{pr:Nat->Option (List IV->Option (List IV))}(X: ∀k,Sound P specs (run T pr k)){i:Nat}{f:FuncId}{tb:TypeId}{fn:Func}{al:Bool}{ts:List TypeId}
  (u:(i,(⟨f,ts.map PS.data,[.whole tb],al⟩:Spec))∈specs) (w:P.underlying tb=some .bool) (G:P.funcs[f]?=some fn) (m:fn.body.isSome=true) (o:(fn.name == "runtime.NumGoroutine")=false)
  (d:fn.params.toList=ts) (y:fn.resultTypes= #[tb]) (Y:laidOutB P=true) (z:Ak9 P TS=true) (A: ∀t∈ts,t∈TS) (Z:Aoj bk bks) {s:ChangeSpec} (g:s.vars= [])
  (r: ∀ds:List (DataW H),ds.length=ts.length->(s.fn H ds).results = [.lit (.bool true)]/\(s.fn H ds).args =ds/\(s.fn H ds).vars = []) {n:Nat}
  (hV: ∀xs,WTs P ts xs->IV.Cs xs<=n->V T pr ⟨i,0⟩ xs=some [.bool true])
  (W:World) (base:Nat) (args:Array Value) (ds gs:List (DataW H)) (before:List MemPlace)
  (B: ∀ (j:Nat) t v,fn.params[j]?=some t->args[j]?=some v->Value.okWide P W .any base t v)
  (N:DataW.Whole enc P fn.params.toList s.vars false W args.toList ds gs before) (I:bks (ds++gs)<=n):
  Calls P f args W λe W'=> ∃v,e= .returned v/\s.post enc P fn false true false false W args v W':=by
 have C:=N
 obtain⟨p,q,J,hv,rfl,aa,ab⟩:=N
 rw[g]at hv
 have K:gs= []/\q= []:=by cases gs<;>simp_all[DataW.TrodVars]
 obtain⟨rfl,rfl⟩:=K
 rw[aO]at I
 rw[d]at J
 obtain⟨xs,x1,x2,Q,x4⟩:=Apy Z z (base:=base) ts args.toList ds p A J (λj t v a b=>B j t v (by rw[<-cF,d];exact a) (by rw[<-cF];exact b))
 obtain⟨k,E⟩:=(X6 T pr).1 (hV xs x1 (by omega))
 have hd:=X k i _ u W (λ_=>False) xs args.toList args.toList [] [.bool true] (Yx (by have:=Ai7 Q;simpa using this)) Q (by simp) (by simp) (by simp) E
 refine(Atk.calls G m o (by simpa using hd)).mono ?_
 rintro e W' ⟨v,rfl,c⟩
 refine⟨v,rfl,?_⟩
 obtain⟨vs,ys,zs,L1,L2,e1,R,_,_,e5,e6⟩:=c.out
 have S:Below W.heap.size W W':=⟨c.step.os,c.step.tape,c.step.output,c.step.size,λk I=>c.step.stays k I (by simp)⟩
 have F: ∀x∈p,x.block<W.heap.size:=λx L=>by simpa using C.lt x (by simpa using L)
 have M:v= .bool true:=by
  cases vs with
  | nil=>simp[Hs]at e5
  | cons v0 vs=>
   cases vs with
   | cons _ _=>simp[Hs]at e5
   | nil=>
    obtain⟨as,bs,M1,M2,U,f2,f3,f4⟩:=e5
    obtain⟨x,g1,g2,g3⟩:=f3
    obtain⟨b,h1,h2⟩:=g3.Md w
    obtain⟨f5,_⟩:=f4
    subst g1 h1 h2 f5
    simp only[aO]at U
    subst U
    simp only[bV,bD,dL,IV.bool.injEq]at R
    rw[e1];simp[packed,<-R.1]
 subst M
 obtain⟨s1,s2,s3⟩:=r ds x4
 have hT: ∀t∈ts,P.readableRec t=true/\t<P.types.size:=λt ht=>by
  have hd:Sc P TS t=true:=aY.1 z t (A t ht)
  unfold Sc at hd
  simp only[aD,decide_eq_true_eq]at hd
  exact⟨hd.1.2,hd.1.1.2⟩
 refine⟨ds,[],p,[],p,[],by simpa using C,?_,?_,?_,?_,λh=>by cases h⟩
 ·rw[aO,s1,y]
  exact trodAll_mk1 (shut_bool w _)
 ·rw[aO,s2,d]
  exact P9 Y S ts _ ds p hT J F (λx L=>by simpa using F x L)
 ·rw[aO,s3,g]
  rfl
 ·exact S.frame _
end
end Go.CT
