import Derived.Test.YtfealnpkfnjbkaaGreatDoorWithdrawsPrB
set_option linter.unusedVariables false
set_option linter.unusedSimpArgs false
open Bool renaming false_eq_true->aB,not_true->aI,and_eq_true->aJ
open ByteArray renaming toList_data_append->aD
open Classical renaming byContradiction->aT
open Go.CT.O renaming Aa->aQ,eq_int->bE,Ae->bF,index->bK,len->bO,Ah->bQ
open Go.CT.Sch.D renaming Bn->aR
open Go.CT.Sch.Mgr renaming enc->aC
open Go.CT.Sch.Stp renaming enc->bN
open Int renaming natCast_nonneg->aM,cast_ofNat_Int->aN,toNat_natCast->bC
open List renaming mem_filter->aE,mem_singleton->aF,map_eq_nil_iff->aG,getElem_mem->aH,all_eq_true->aK,length_map->aL,flatMap_cons->aO,mem_flatMap->aP,drop_eq_getElem_cons->aS,getElem?_eq_getElem->aV,mem_map->aW,length_filter_le->aY,length_singleton->aZ,mem_map_of_mem->bA,mem_cons->bB,getElem?_map->bD,filter_cons->bG,length_cons->bH,drop_left->bL,map_cons->bM
open List.Pairwise renaming imp->bP
open List.Sublist renaming map->bR
open List.cons renaming injEq->aX
open Nat renaming le_refl->aU
open Option renaming bind_some->aA,getD_some->bI,map_some->bJ
namespace Go.CT.Sch.D
open Go.Proofs
theorem A7q (s:Sch)(y:s.Ap<=1099511627776)(w: ∀p∈s.f,∀m:Int,0<=m->m<=300-> ∃r:Int,W F2 0 [p.s.enc,.int m]=some [.int r]/\1<=r/\r<=max 1 m): ∀ (n i:Nat) (m c:Int),i+n=s.f.length->1<=c->c<=max 1 m->0<=m->m<=300->
  ∃r:Int,W F2 2 [.int m,.int c,.int i,s.enc]=some [.int r]/\1<=r/\r<=max 1 m
 | 0,i,m,c,h,o,a,x,b=>by
  have z: ¬ i<s.f.length:=by omega
  refine⟨c,?_,o,a⟩
  rw[A8v]
  simp[z]
 | n+1,i,m,c,h,o,a,x,b=>by
  have j:i<s.f.length:=by omega
  have H:=s.Bc
  have A:=Bd (i:=i) (by omega)
  rw[A8v]
  by_cases d:c<m
  ·have q:IntKind.i64.wrap (m - c)=m - c:=wrap64 (by omega) (by omega)
   obtain⟨r,B,C,F⟩:=w _ (aH j) (m - c) (by omega) (by omega)
   have t:IntKind.i64.wrap (c+r)=c+r:=wrap64 (by omega) (by omega)
   obtain⟨G,u,e,g⟩:=A7q s y w n (i+1) m (c+r) (by omega) (by omega) (by omega) x b
   refine⟨G,?_,e,g⟩
   simp only[Sch.Io,aA,O.Ao,aL,bQ,Aj,j,Zd,aQ,Zt,d,O.Ai,aM,bC,bD,aV j,bJ,SFld.Q3,O.Cz,q,B,bF,O.Al,t,A,u]
  ·refine⟨c,?_,o,a⟩
   simp[j,d]
theorem A8e (s:Sch)(z:s.Ap<=1099511627776)(w: ∀x∈s.it,∀m:Int,0<=m->m<=300-> ∃r:Int,W F2 0 [x.enc,.int m]=some [.int r]/\1<=r/\r<=max 1 m): ∀ (n i:Nat) (m c:Int),i+n=s.it.length->1<=c->c<=max 1 m->0<=m->m<=300->
  ∃r:Int,W F2 1 [.int m,.int c,.int i,s.enc]=W F2 2 [.int m,.int r,.int 0,s.enc]/\1<=r/\r<=max 1 m
 | 0,i,m,c,h,o,a,y,b=>by
  have A: ¬ i<s.it.length:=by omega
  refine⟨c,?_,o,a⟩
  rw[A71]
  simp[A]
 | n+1,i,m,c,h,o,a,y,b=>by
  have j:i<s.it.length:=by omega
  have I:=s.Rj
  have B:=Bd (i:=i) (by omega)
  rw[A71]
  by_cases d:c<m
  ·have q:IntKind.i64.wrap (m - c)=m - c:=wrap64 (by omega) (by omega)
   obtain⟨r,C,F,G⟩:=w _ (aH j) (m - c) (by omega) (by omega)
   have t:IntKind.i64.wrap (c+r)=c+r:=wrap64 (by omega) (by omega)
   obtain⟨H,u,e,g⟩:=A8e s z w n (i+1) m (c+r) (by omega) (by omega) (by omega) y b
   refine⟨H,?_,e,g⟩
   simp only[Sch.Hz,aA,O.Ao,aL,bQ,Aj,j,Zd,aQ,Zt,d,O.Ai,aM,bC,bD,aV j,bJ,O.Cz,q,C,bF,O.Al,t,B,u]
  ·refine⟨c,?_,o,a⟩
   simp[j,d]
theorem Ba8: ∀s:Sch,s.Ap<=1099511627776-> ∀m:Int,0<=m->m<=300-> ∃r:Int,W F2 0 [s.enc,.int m]=some [.int r]/\1<=r/\r<=max 1 m:=by
 refine Sch.ind λs b d e m g a=>?_
 obtain⟨c,i,j,o⟩:=A8e s e (λx h=>b x h (by have:=Sch.Gw h;omega)) s.it.length 0 m 1 (by omega) (by omega) (by omega) g a
 obtain⟨r,q,t,u⟩:=A7q s e (λp hp=>d p hp (by have:=Sch.Dw hp;omega)) s.f.length 0 m c (by omega) j o g a
 refine⟨r,?_,t,u⟩
 rw[Bgp]
 exact i.trans q
end Go.CT.Sch.D
namespace Go.CT.Sch
open Go.Proofs
theorem Avq (l:List Mgr)(i:Nat)(a:i<l.length)(c:l.length<=1048576)(hp:l[i].paths.length <=1048576): ∀ (n j:Nat),j+n=l[i].paths.length ->
  W Beu 2 [.list (l.map aC),.list (l.map aC),.int i,.int j]=W Beu 1 [.list (l.map aC),.list (l.map aC),.int (i+1:Nat)]
 | 0,j,h=>by
  have:j=l[i].paths.length :=by omega
  subst this
  rw[Aqx]
  simp only[Jq aC a,Ass,Gi,aA,ltn,aQ,aB,Zf,nxt (show i<4611686018427387904 by omega)]
 | n+1,j,h=>by
  have b:j<l[i].paths.length :=by omega
  have d:=Avq l i a c hp n (j+1) (by omega)
  rw[Aqx]
  simp only[Jq aC a,Ass,Gi,aA,lti b,aQ,Zt,Jq IV.str b,O.Ed,Zd,aI,aB,Zf,nxt (show j<4611686018427387904 by omega),d]
theorem Ax6 (l:List Mgr)(b:l.length<=1048576)(hp: ∀m∈l,m.paths.length<=1048576): ∀ (n i:Nat),i+n=l.length->W Beu 1 [.list (l.map aC),.list (l.map aC),.int i]=some [.bool true]
 | 0,i,h=>by
  have:i=l.length:=by omega
  subst this
  rw[An1]
  simp only[Gi,aA,ltn,aQ,aB,Zf]
 | n+1,i,h=>by
  have a:i<l.length:=by omega
  have d:=Ax6 l b hp n (i+1) (by omega)
  have c:=Avq l i a b (hp _ (aH a)) l[i].paths.length 0 (by omega)
  simp only[aN]at c
  rw[An1]
  simp only[Gi,aA,lti a,aQ,Zt,Jq aC a,Am0,Ass,O.Ed,Zd,aI,aB,Zf,O.Ci,c,d]
theorem Bhx (l:List Mgr)(a:l.length<=1048576)(hp: ∀m∈l,m.paths.length<=1048576):W Beu 0 [.list (l.map aC),.list (l.map aC)]=some [.bool true]:=by
 have:=Ax6 l a hp l.length 0 (by omega)
 simp only[aN]at this
 rw[A39]
 simp only[Gi,aA,O.Ci,Zd,aI,aQ,aB,Zf,this]
theorem Bad (m:List Mgr)(z:m.length<=1048576)(hp: ∀x∈m,x.paths.length<=1048576)(s:Sch)(a b:Val)(A:s.Ap<=1048576)(B:a.Ap<=1048576)(C:b.Ap<=1048576): ∀ (n i c:Nat),i+n=m.length->c<=1048576+i * 1048576->
  ∃r,W F1 1 [.list (m.map aC),.int c,.int i,s.enc,a.enc,b.enc]=some [.bool r]:=by
 obtain⟨sz,d,_⟩:=D.Ba8 s (by omega) 300 (by omega) (by omega)
 obtain⟨b1,e⟩:=Aiv a (by omega) 200 (by omega) (by omega)
 obtain⟨b2,g⟩:=Aiv b (by omega) 200 (by omega) (by omega)
 intro n
 induction n with
 | zero=>
  intro i c h t
  have:i=m.length:=by omega
  subst this
  have j:O.lt (.int (c:Int)) (.int 400)=some (.bool (decide ((c:Int)<400))):=bQ
  have o:O.lt (.int sz) (.int 300)=some (.bool (decide (sz<300))):=bQ
  rw[A8j]
  simp only[Gi,aA,ltn,aQ,aB,Zf,j,o,d,e,g,bF,Ax,An]
  exact⟨_,rfl⟩
 | succ n u=>
  intro i c h t
  have q:i<m.length:=by omega
  have F:=hp _ (aH q)
  have w:IntKind.i64.wrap ((c:Int)+(m[i].paths.length :Int))=((c+m[i].paths.length :Nat):Int):=by
   have:i * 1048576<=1048576 * 1048576:=Nat.mul_le_mul (by omega) (aU _)
   rw[wrap64 (by omega) (by omega)];omega
  obtain⟨r,y⟩:=u (i+1) (c+m[i].paths.length) (by omega) (by rw[Nat.add_mul];omega)
  have j:O.lt (.int (c:Int)) (.int 400)=some (.bool (decide ((c:Int)<400))):=bQ
  have o:O.lt (.int sz) (.int 300)=some (.bool (decide (sz<300))):=bQ
  rw[A8j]
  simp only[Gi,aA,lti q,aQ,Zt,j,o,Jq aC q,Ass,O.Al,w,nxt (show i<4611686018427387904 by omega),y,d,e,g,bF,Ax,An]
  split
  ·exact⟨r,rfl⟩
  ·exact⟨_,rfl⟩
theorem Bfh (m:List Mgr)(c:m.length<=1048576)(hp: ∀x∈m,x.paths.length<=1048576)(s:Sch)(a b:Val)(d:s.Ap<=1048576)(e:a.Ap<=1048576)(g:b.Ap<=1048576): ∃r,W F1 0 [s.enc,a.enc,b.enc,.list (m.map aC)]=some [.bool r]:=by
 obtain⟨r,h⟩:=Bad m c hp s a b d e g m.length 0 m.length (by omega) (by omega)
 refine⟨r,?_⟩
 rw[Bfe]
 simp only[Gi,aA]
 exact h
end Go.CT.Sch
namespace Go.CT.Sch
open Go.Proofs
theorem Axw: ∀ {p q:List Stp},p.map bN=q.map bN->p=q
 | [],[],_=>rfl
 | [],_::_,h=>by cases h
 | _::_,[],h=>by cases h
 | a::p,b::q,h=>by
  simp only[bM,aX]at h
  obtain⟨c,d⟩:=h
  obtain⟨e,a2,a3,a4⟩:=a
  obtain⟨b1,b2,b3,b4⟩:=b
  simp only[bN,IV.agg.injEq,aX,IV.int.injEq,IV.str.injEq,and_true]at c
  obtain⟨rfl,rfl,rfl,rfl⟩:=c
  rw[Axw d]
theorem Ah4 {p q:List Stp}(hp:C6 p=true)(c:C6 q=true)(h:Cj p=Cj q):p=q:=by
 have a:=Ac9 p hp
 have b:=Ac9 q c
 rw[h,b]at a
 simp only[Option.some.injEq,aX,IV.list.injEq,and_true]at a
 exact(Axw a).symm
theorem Bbf (s:Sch)(cf lv:Val){p:List Stp}(hp:C6 p=true)(a: ∀x∈p,x.k≠2):Aro s cf lv (Cj p)=Atl s cf lv p:=by
 have h:Qp (Cj p):=⟨p,rfl,hp,a⟩
 unfold Aro
 rw[dif_pos h,Ah4 h.choose_spec.2.1 hp h.choose_spec.1]
theorem A8r (v:Val){p:List Stp}(hp:C6 p=true)(a: ∀x∈p,x.k≠2):atB v (Cj p)=(Hw v p).getD Au:=by
 have h:Qp (Cj p):=⟨p,rfl,hp,a⟩
 unfold atB
 rw[dif_pos h,Ah4 h.choose_spec.2.1 hp h.choose_spec.1]
theorem Agp {s:Sch}{cf lv:Val}{p:List Stp}(h:Hw cf p=Hw lv p)(a:(Hw lv p).isSome =true):Atl s cf lv p=true:=by
 unfold Atl
 rw[h,a];simp
theorem Avm {s:Sch}{cf lv:Val}{p:List Stp}(a:Hw lv p=none):Atl s cf lv p=false:=by
 unfold Atl
 rw[a];rfl
theorem Ax5 {s:Sch}{cf lv a b:Val}{p:List Stp}(c:Hw cf p=some a)(d:Hw lv p=some b)(g:a.n≠b.n)(h:emS ((atV s p).getD Br) a=false):Atl s cf lv p=false:=by
 have: ¬ a=b:=λe=>g (by rw[e])
 unfold Atl
 rw[c,d]
 simp[this,h]
def Bhc:Sch:=⟨2,0,9,[],Am,[],[]⟩
def exS:Sch:=⟨5,0,0,[],Am,[],[⟨⟨#[97]⟩,false,false,[],Bhc⟩,⟨⟨#[98]⟩,false,false,[],Bhc⟩,⟨⟨#[99]⟩,false,false,[],Bhc⟩]⟩
def vm (l:List (UInt8 × Int)):Val:=⟨5,0,Am,[],l.map λp=>(⟨#[p.1]⟩,⟨2,p.2,Am,[],[]⟩)⟩
def exM:List Mgr:= [⟨⟨#[109]⟩,[⟨#[97]⟩,⟨#[98]⟩]⟩]
def stF (c:UInt8):List Stp:= [Ch ⟨#[c]⟩]
theorem Awb (c:UInt8): ∀x∈stF c,x.k≠2:=by
 intro x a
 rw[aF.1 a]
 show(1:Int)≠2
 decide
theorem Ank (cf lv:Val)(c:UInt8)(a:C6 (stF c)=true)(b:Bool)(h:Atl exS cf lv (stF c)=b):Aro exS cf lv (Cj (stF c))=b:=by
 rw[Bbf exS cf lv a (Awb c),h]
theorem ex_1:Az9 exS (vm [(97,1),(98,2)]) exM ⟨#[110]⟩ (vm [(97,1),(99,3)]) false=⟨vm [(97,1),(98,2),(99,3)],[⟨⟨#[109]⟩,[⟨#[97]⟩,⟨#[98]⟩]⟩,⟨⟨#[110]⟩,[⟨#[97]⟩,⟨#[99]⟩]⟩],[],0⟩:=by
 have ok:okB exS (vm [(97,1),(98,2)]) (vm [(97,1),(99,3)]) exM ⟨#[110]⟩=true:=by kernel_rfl
 have e1:aR (vm [(97,1),(98,2)]) exS=vm [(97,1),(98,2)]:=by kernel_rfl
 have a:aR (vm [(97,1),(99,3)]) exS=vm [(97,1),(99,3)]:=by kernel_rfl
 have el:As exS (vm [(97,1),(99,3)])= [Cj (stF 97),Cj (stF 99)]:=by kernel_rfl
 have b:=Ank (vm [(97,1),(99,3)]) (vm [(97,1),(98,2)]) 97 (by kernel_rfl) true (Agp (by kernel_rfl) (by kernel_rfl))
 have c:=Ank (vm [(97,1),(99,3)]) (vm [(97,1),(98,2)]) 99 (by kernel_rfl) false (Avm (by kernel_rfl))
 have ec:Ak0 exS (vm [(97,1),(98,2)]) (vm [(97,1),(99,3)]) exM ⟨#[110]⟩= []:=by
  unfold Ak0 Vo
  rw[el,aO,aO,b,c]
  show _=_
  kernel_rfl
 unfold Az9 Bdw A2e
 rw[if_pos ok,e1,a,ec]
 show _=_
 kernel_rfl
theorem Bho:Ak0 exS (vm [(97,1),(98,2)]) (vm [(97,5)]) exM ⟨#[110]⟩= [⟨⟨#[97]⟩,⟨#[109]⟩⟩]:=by
 have el:As exS (vm [(97,5)])= [Cj (stF 97)]:=by kernel_rfl
 have c:=Ank (vm [(97,5)]) (vm [(97,1),(98,2)]) 97 (by kernel_rfl) false (Ax5 (a:=⟨2,5,Am,[],[]⟩) (b:=⟨2,1,Am,[],[]⟩) (by kernel_rfl) (by kernel_rfl) (by decide) (by kernel_rfl))
 unfold Ak0 Vo
 rw[el,aO,c]
 show _=_
 kernel_rfl
theorem ex_2 (force:Bool):Az9 exS (vm [(97,1),(98,2)]) exM ⟨#[110]⟩ (vm [(97,5)]) force=if force then⟨vm [(97,5),(98,2)],[⟨⟨#[109]⟩,[⟨#[98]⟩]⟩,⟨⟨#[110]⟩,[⟨#[97]⟩]⟩],[],0⟩else⟨Au,[],[⟨⟨#[97]⟩,⟨#[109]⟩⟩],9⟩:=by
 have ok:okB exS (vm [(97,1),(98,2)]) (vm [(97,5)]) exM ⟨#[110]⟩=true:=by kernel_rfl
 have e1:aR (vm [(97,1),(98,2)]) exS=vm [(97,1),(98,2)]:=by kernel_rfl
 have a:aR (vm [(97,5)]) exS=vm [(97,5)]:=by kernel_rfl
 unfold Az9 Bdw A2e
 rw[if_pos ok,e1,a,Bho]
 cases force
 ·show _=_
  kernel_rfl
 ·show _=_
  kernel_rfl
theorem ex_3:Az9 exS (vm [(97,1),(98,2)]) exM ⟨#[109]⟩ (vm [(97,1)]) false=⟨vm [(97,1)],[⟨⟨#[109]⟩,[⟨#[97]⟩]⟩],[],0⟩:=by
 have ok:okB exS (vm [(97,1),(98,2)]) (vm [(97,1)]) exM ⟨#[109]⟩=true:=by kernel_rfl
 have e1:aR (vm [(97,1),(98,2)]) exS=vm [(97,1),(98,2)]:=by kernel_rfl
 have a:aR (vm [(97,1)]) exS=vm [(97,1)]:=by kernel_rfl
 have el:As exS (vm [(97,1)])= [Cj (stF 97)]:=by kernel_rfl
 have b:=Ank (vm [(97,1)]) (vm [(97,1),(98,2)]) 97 (by kernel_rfl) true (Agp (by kernel_rfl) (by kernel_rfl))
 have ec:Ak0 exS (vm [(97,1),(98,2)]) (vm [(97,1)]) exM ⟨#[109]⟩= []:=by
  unfold Ak0 Vo
  rw[el,aO,b]
  show _=_
  kernel_rfl
 unfold Az9 Bdw A2e
 rw[if_pos ok,e1,a,ec]
 show _=_
 kernel_rfl
theorem ex_4:Bhd exS (vm [(97,1),(98,2)]) (vm [(97,1),(98,4)]) exM ⟨#[110]⟩= [⟨⟨#[109]⟩,[⟨#[97]⟩]⟩,⟨⟨#[110]⟩,[⟨#[98]⟩]⟩]:=by
 have ok:okB exS (vm [(97,1),(98,2)]) (vm [(97,1),(98,4)]) exM ⟨#[110]⟩=true:=by kernel_rfl
 have e1:aR (vm [(97,1),(98,2)]) exS=vm [(97,1),(98,2)]:=by kernel_rfl
 have d:aR (vm [(97,1),(98,4)]) exS=vm [(97,1),(98,4)]:=by kernel_rfl
 have el:As exS (vm [(97,1),(98,4)])= [Cj (stF 97),Cj (stF 98)]:=by kernel_rfl
 have el2:As exS (vm [(97,1),(98,2)])= [Cj (stF 97),Cj (stF 98)]:=by kernel_rfl
 have g:=fun(v:Val)=>A8r v (p:=stF 97) (by kernel_rfl) (Awb 97)
 have c:=fun(v:Val)=>A8r v (p:=stF 98) (by kernel_rfl) (Awb 98)
 have h:Ba7 exS (vm [(97,1),(98,2)]) (vm [(97,1),(98,4)]) (Cj (stF 97))=false:=by
  have a:(Hw (vm [(97,1),(98,2)]) (stF 97)).getD Au=(Hw (vm [(97,1),(98,4)]) (stF 97)).getD Au:=by kernel_rfl
  have b:inB [Cj (stF 97),Cj (stF 98)] (Cj (stF 97))=true:=by kernel_rfl
  unfold Ba7
  rw[el2,g,g,a,b];simp
 have i:Ba7 exS (vm [(97,1),(98,2)]) (vm [(97,1),(98,4)]) (Cj (stF 98))=true:=by
  have a:((Hw (vm [(97,1),(98,2)]) (stF 98)).getD Au).n =2:=by kernel_rfl
  have b:((Hw (vm [(97,1),(98,4)]) (stF 98)).getD Au).n =4:=by kernel_rfl
  have j: ¬ (Hw (vm [(97,1),(98,2)]) (stF 98)).getD Au=(Hw (vm [(97,1),(98,4)]) (stF 98)).getD Au:=λe=>by
   rw[e,b]at a
   exact absurd a (by decide)
  unfold Ba7
  rw[c,c]
  simp[j]
 have ec:Atu exS (vm [(97,1),(98,2)]) (vm [(97,1),(98,4)])= [Cj (stF 98)]:=by
  unfold Atu
  rw[el,bG,bG,h,i]
  rfl
 unfold Bhd Bid
 rw[if_pos ok,e1,d,ec]
 show _=_
 kernel_rfl
end Go.CT.Sch
namespace Go.CT.Sch
open Go.Proofs
def Aee (l:List (UInt8 × Int)):List IV:= [.int 5,.int 0,.str ⟨#[]⟩,.list [],.list (l.map λp=> .agg [.str ⟨#[p.1]⟩,.int 2,.int p.2,.str ⟨#[]⟩,.list [],.list []])]
theorem abcs:W F45 0 [.int 1,.int 2,.int 0]=some (Aee [(97,1),(98,2)])/\W F45 0 [.int 1,.int 0,.int 3]=some (Aee [(97,1),(99,3)])/\W F45 0 [.int 5,.int 0,.int 0]=some (Aee [(97,5)])/\
  W F45 0 [.int 1,.int 0,.int 0]=some (Aee [(97,1)])/\W F45 0 [.int 1,.int 4,.int 0]=some (Aee [(97,1),(98,4)])/\W F45 0 [.int 1,.int 2,.int 3]=some (Aee [(97,1),(98,2),(99,3)])/\W F45 0 [.int 5,.int 2,.int 0]=some (Aee [(97,5),(98,2)]):=
 ⟨Ai1 100 (by kernel_rfl),Ai1 100 (by kernel_rfl),Ai1 100 (by kernel_rfl),Ai1 100 (by kernel_rfl),Ai1 100 (by kernel_rfl),Ai1 100 (by kernel_rfl),Ai1 100 (by kernel_rfl)⟩
theorem Bby (l:List (UInt8 × Int)):IV.agg (Aee l)=(vm l).enc :=by
 have:=Val.fold 5 0 Am [] (l.map λp=>(⟨#[p.1]⟩,⟨2,p.2,Am,[],[]⟩))
 unfold vm
 rw[<-this,List.map_map]
 rfl
theorem Bf5:W F44 0 []=some Bhc.E1:=by rw[Bde];rfl
theorem Biz:W F43 0 []=some [.int 5,.int 0,.int 0,.list [],.str ⟨#[]⟩,.list [],.list (exS.f.map SFld.enc)]:=by
 rw[Bcc]
 simp only[Bf5,Sch.E1,Xe,O.Ba,O.Az,aA]
 rfl
theorem Azw (a b:List (UInt8 × Int))(h:(vm a).Ap +(vm b).Ap <=1000):Sz exS (vm a) (vm b) exM:=by
 have c:exS.Ap<=1048576:=of_decide_eq_true (by kernel_rfl)
 have d:Aek exM=2:=rfl
 exact⟨c,by omega,by decide⟩
theorem eq_self (v:Val)(h:v.Ap<=1048576):W Bh8 0 [v.enc,v.enc]=some [.bool true]:=by
 rw[Au9 v v (by omega) (by omega)];simp
theorem Azi:W F42 0 []=some [.bool true]:=by
 obtain⟨g,a2,a3,a4,a5,h,i⟩:=abcs
 have e1:=Sf exS (vm [(97,1),(98,2)]) exM ⟨#[110]⟩ (vm [(97,1),(99,3)]) false (Azw _ _ (of_decide_eq_true (by kernel_rfl)))
 have a:=Sf exS (vm [(97,1),(98,2)]) exM ⟨#[110]⟩ (vm [(97,5)]) false (Azw _ _ (of_decide_eq_true (by kernel_rfl)))
 have b:=Sf exS (vm [(97,1),(98,2)]) exM ⟨#[110]⟩ (vm [(97,5)]) true (Azw _ _ (of_decide_eq_true (by kernel_rfl)))
 have c:=Sf exS (vm [(97,1),(98,2)]) exM ⟨#[109]⟩ (vm [(97,1)]) false (Azw _ _ (of_decide_eq_true (by kernel_rfl)))
 have e5:=Ava exS (vm [(97,1),(98,2)]) (vm [(97,1),(98,4)]) exM ⟨#[110]⟩ (Azw _ _ (of_decide_eq_true (by kernel_rfl)))
 rw[ex_1]at e1
 rw[ex_2]at a b
 rw[ex_3]at c
 rw[ex_4]at e5
 have j:=eq_self (vm [(97,1),(98,2),(99,3)]) (of_decide_eq_true (by kernel_rfl))
 have m:=eq_self (vm [(97,5),(98,2)]) (of_decide_eq_true (by kernel_rfl))
 have o:=eq_self (vm [(97,1)]) (of_decide_eq_true (by kernel_rfl))
 have q:=Bhx [⟨⟨#[109]⟩,[⟨#[97]⟩]⟩,⟨⟨#[110]⟩,[⟨#[98]⟩]⟩] (by decide) (by simp)
 have r:=Azq [⟨⟨#[109]⟩,[⟨#[97]⟩,⟨#[98]⟩]⟩,⟨⟨#[110]⟩,[⟨#[97]⟩,⟨#[99]⟩]⟩] ⟨#[97]⟩ (by decide) (by simp)
 have t:IV.agg [.int 5,.int 0,.int 0,.list [],.str ⟨#[]⟩,.list [],.list (exS.f.map SFld.enc)]=exS.enc:=by rw[Sch.Es,Sch.Bl];rfl
 have u:IV.list [.agg [.str ⟨#[109]⟩,.list [.str ⟨#[97]⟩,.str ⟨#[98]⟩]]]= .list (exM.map aC):=rfl
 have w: ∀l,IV.agg [.int 5,.int 0,.str ⟨#[]⟩,.list [],.list (l.map λp:UInt8 × Int=> .agg [.str ⟨#[p.1]⟩,.int 2,.int p.2,.str ⟨#[]⟩,.list [],.list []])]=(vm l).enc :=Bby
 simp only[Aee]at g a2 a3 a4 a5 h i
 simp only[A7f.enc,Zt,aB,Zf]at e1 a b c
 rw[A96]
 simp only[O.Az,O.Ba,aA,u,Biz,Xe,g,a2,a3,a4,a5,h,i,O.Dg,t,w,e1,a,b,c,e5,O.Ado,bF]
 have d:W Bhl 0 [.list ([⟨⟨#[109]⟩,[⟨#[97]⟩,⟨#[98]⟩]⟩,⟨⟨#[110]⟩,[⟨#[97]⟩,⟨#[99]⟩]⟩].map aC),.str ⟨#[97]⟩]=some [.list [.str ⟨#[109]⟩,.str ⟨#[110]⟩]]:=r
 have e:W Beu 0 [.list ([⟨⟨#[109]⟩,[⟨#[97]⟩]⟩,⟨⟨#[110]⟩,[⟨#[98]⟩]⟩].map aC),.list [.agg [.str ⟨#[109]⟩,.list [.str ⟨#[97]⟩]],.agg [.str ⟨#[110]⟩,.list [.str ⟨#[98]⟩]]]]=some [.bool true]:=q
 simp only[j,m,o,e,d,bF,aA]
 show _=_
 kernel_rfl
end Go.CT.Sch
namespace Go.CT.Sch
open Go.Proofs
structure Small3 (r:A7f):Prop where
 v:r.v.Ap<=1048576
 l:r.l.length<=1048576/\ ∀m∈r.l,m.paths.length<=1048576
 c:r.c.length<=1048576
end Go.CT.Sch
namespace Go.CT.Sch
open Go.Proofs
theorem Agt: ∀m:List Mgr,3 * m.length+Aek m<=IV.Dk (m.map aC)
 | []=>aU _
 | x::m=>by
  have b:=Agt m
  have a:=D3 (x.paths.map IV.str)
  rw[aL]at a
  simp only[bM,IV.Dk,aC,IV.bulk,Aek,bH]
  omega
end Go.CT.Sch
namespace Go.CT.Sch
open Go.Proofs
theorem A8c (l:List ByteArray)(x:ByteArray)(d:l.length<=1048576): ∀ (n i:Nat),i+n=l.length->W F241 1 [SL l,.str x,.int (i:Nat)]=some [.bool (inB (l.drop i) x)]
 | 0,i,h=>by
  have:i=l.length:=by omega
  subst this
  have a:bO (SL l)=some (.int l.length):=Gi IV.str l
  rw[Anr,List.drop_length,a]
  simp only[ltn,aA,aQ,aB,Zf]
  rfl
 | n+1,i,h=>by
  have b:i<l.length:=by omega
  have g:=A8c l x d n (i+1) (by omega)
  have a:bO (SL l)=some (.int l.length):=Gi IV.str l
  have j:bK (SL l) (.int (i:Nat))=some (.str l[i]):=Jq IV.str b
  rw[Anr,aS b,a]
  simp only[lti b,aA,aQ,Zt,j,O.C4,nxt (show i<4611686018427387904 by omega),g]
  unfold inB
  rw[List.any_cons]
  by_cases c:l[i]=x
  ·simp[c]
  ·have c': ¬ x=l[i]:=λe=>c e.symm
   simp[c,c']
theorem lhas (l:List ByteArray)(x:ByteArray)(a:l.length<=1048576):W F241 0 [SL l,.str x]=some [.bool (inB l x)]:=by
 rw[A2d];exact A8c l x a l.length 0 (by omega)
theorem Ad6 {s:Sch}{v:Val}{t:ByteArray}(a:t∈As s v):t∈lv v.size (some s) v []:=by
 have a:=(aE.1 a).1
 unfold Hv at a
 split at a
 ·exact Pu.1 a
 ·simp at a
theorem Arh {p x:ByteArray}{l:List Mgr} :inB (Ef p l) x=true↔ ∃m∈l,p∈m.paths/\m.name=x:=by
 unfold Ef
 rw[Hs,aW]
 constructor
 ·rintro⟨m,c,e⟩
  obtain⟨a,b⟩:=aE.1 c
  exact⟨m,a,Hs.1 b,e⟩
 ·rintro⟨m,a,b,e⟩
  exact⟨m,aE.2 ⟨a,Hs.2 b⟩,e⟩
theorem Aa2 {a b:List ByteArray}{x:ByteArray} :x∈Hy a b↔x∈a/\x∉b:=by
 unfold Hy
 rw[aE,Pu,<-Hs (l:=b)]
 simp
structure ConfOk (s:Sch)(cf:Val)(m:List Mgr)(nm:ByteArray)(r1 r2:A7f):Prop where
 e9:(decide (r1.e=9) !=decide (0<r1.c.length))=false
 c0:r2.c= []
 n9:r2.e≠9
 ok:r1.e=0->r2.e=0
 cs: ∀c∈r1.c,c.mgr≠nm/\inB (Ef c.path m) c.mgr=true/\Qp c.path/\(r2.e=0->inB (Ef c.path r2.l) c.mgr=false/\inB (Ef c.path r2.l) nm=true/\Aro s cf r2.v c.path=true)
end Go.CT.Sch
namespace Go.CT.Sch
open Go.Proofs
theorem Arv {o:Option Sch}{v:Val}(a:v.k≠5)(b:v.k≠4):kids o v= []:=by
 cases o with
 | none=>rfl
 | some s=>simp[kids,a,b]
theorem Yj {s:Sch}{v:Val}(a:s.k=v.k)(b:v.k=5):kids (some s) v=v.f.map (Cy s):=by rw[kids,if_pos a,if_pos b];rfl
theorem Ans {n:Nat}{o:Option Sch}{v:Val}{p:List Stp}(h:kids o v= []):lv (n+1) o v p= [Cj p]:=by rw[lv,if_pos h]
theorem Aev {n:Nat}{o:Option Sch}{v:Val}{p:List Stp}(h:kids o v≠ []):lv (n+1) o v p=(kids o v).flatMap λx=>lv n x.2.2 x.2.1 (p++ [x.1]):=by rw[lv,if_neg h]
def Bez (t:ByteArray):Prop:= ∃p key x,t=Cj (p++ [R5 key x,Ch key])
theorem Azf: ∀ (n:Nat) (o:Option Sch) (v:Val) (p:List Stp) (ch:ByteArray->Bool) (k:Nat),v.size<=n->OV o->v.valid=true->(pt n o v p ch).2 =true->
  (∀t∈lv k o (pt n o v p ch).1 p,ch t=true\/Bez t)/\
  (∀s key kv,o=some s->s.k=5->v.k=5->(key,K8 kv)∈v.f-> ∀t∈lv k o (De (pt n o v p ch).1 key (K8 kv)) p,(ch t=true\/Bez t)\/t=Cj (p++ [Ch key]))
 | 0,o,v,p,ch,k,h,_,_,_=>by have:=v.size_pos;omega
 | n+1,o,v,p,ch,0,h,S,F,q=>by simp[lv]
 | n+1,o,v,p,ch,k+1,h,S,F,q=>by
  have g:=Az5 (n+1) o v p ch
  by_cases c:kids o v= []
  ·have e:(pt (n+1) o v p ch).1 =v:=by rw[Ey,if_pos c]
   rw[Ey,if_pos c]at q
   rw[e]
   refine⟨λt a=>?_,λs key kv G U j T=>?_⟩
   ·rw[Ans c,aF]at a;subst a;exact .inl q
   ·subst G
    rw[Yj (U.trans j.symm) j]at c
    have:=aG.1 c
    rw[this]at T;simp at T
  ·have recu: ∀x∈kids o v,x.2.1.size<=n:=λx m=>by have:=(Ms m).1;omega
   obtain⟨s,rfl,L,h2⟩:=Jh c
   rcases h2 with⟨K,H⟩ | ⟨X,C,I,H⟩
   ·have hf:(pt (n+1) (some s) v p ch).1.f =fieldsOf (Gc (λx=>pt n x.2.2 x.2.1 (p++ [x.1]) ch) (v.f.map (Cy s))):=by
     rw[Ey,if_neg c,H];simp only[K,Zt,Val.Ym]
    have w:Ck (pt (n+1) (some s) v p ch).1.f :=K4 F K
    have sub: ∀x∈(pt (n+1) (some s) v p ch).1.f,∀t∈lv k (Eb s x.1) x.2 (p++ [Ch x.1]),ch t=true\/Bez t:=by
     intro x m t a
     rw[hf]at m
     obtain⟨y,i,Y,rfl⟩:=J2 m
     have d:Cy s y∈kids (some s) v:=by rw[H];exact bA i
     exact(Azf n (Cy s y).2.2 (Cy s y).2.1 (p++ [(Cy s y).1]) ch k (recu _ d) (Au0 S d) (Pz F d) Y).1 t a
    refine⟨λt a=>?_,λs' key kv G U j T t a=>?_⟩
    ·have b:=Yj (s:=s) (v:=(pt (n+1) (some s) v p ch).1) (L.trans g.symm) (g.trans K)
     by_cases cu:kids (some s) (pt (n+1) (some s) v p ch).1 = []
     ·exfalso
      rw[b]at cu
      have A:=aG.1 cu
      rw[Ey,if_neg c,H]at q
      rw[hf]at A
      have J:=aG.1 A
      rw[J]at q;simp at q
     ·rw[Aev cu,b]at a
      obtain⟨x,m,a⟩:=aP.1 a
      obtain⟨y,i,rfl⟩:=aW.1 m
      exact sub y i t a
    ·have b:=Yj (s:=s) (v:=De (pt (n+1) (some s) v p ch).1 key (K8 kv)) (L.trans K) rfl
     have cu:kids (some s) (De (pt (n+1) (some s) v p ch).1 key (K8 kv))≠ []:=by
      rw[b]
      intro A
      have A:=aG.1 A
      have:(key,K8 kv)∈(De (pt (n+1) (some s) v p ch).1 key (K8 kv)).f :=(Jl (g.trans K) w _).2 (.inr rfl)
      rw[A]at this;simp at this
     rw[Aev cu,b]at a
     obtain⟨x,m,B⟩:=aP.1 a
     obtain⟨y,i,rfl⟩:=aW.1 m
     rcases(Jl (g.trans K) w _).1 i with⟨_,i⟩ | rfl
     ·exact .inl (sub y i t B)
     ·have Z:kids (Eb s key) (K8 kv)= []:=Arv (by show(3:Int)≠5;decide) (by show(3:Int)≠4;decide)
      cases k with
      | zero=>simp[lv]at B
      | succ k=>
       have e1:lv (k+1) (Cy s (key,K8 kv)).2.2 (Cy s (key,K8 kv)).2.1 (p++ [(Cy s (key,K8 kv)).1])= [Cj (p++ [(Cy s (key,K8 kv)).1])]:=Ans Z
       rw[e1,aF]at B
       exact .inr B
   ·refine⟨λt a=>?_,λs' key kv G U j T=>absurd j (by omega)⟩
    have n5: ¬ v.k=5:=by omega
    have hl:(pt (n+1) (some s) v p ch).1.l =Ee (Gc (λx=>pt n x.2.2 x.2.1 (p++ [x.1]) ch) (v.l.map (Bo s))):=by
     rw[Ey,if_neg c,H];simp only[n5,Zf,Val.To]
    have hr: ∀z∈v.l,(pt n (Bo s z).2.2 (Bo s z).2.1 (p++ [(Bo s z).1]) ch).1.k =5/\Ck (pt n (Bo s z).2.2 (Bo s z).2.1 (p++ [(Bo s z).1]) ch).1.f :=λz hz=>by
     obtain⟨z5,_,_⟩:=H3 (Eu F hz) (Cp I z hz)
     exact⟨(Az5 _ _ _ _ _).trans z5,K4 (Eu F hz) z5⟩
    have M:(pt (n+1) (some s) v p ch).1.k =4:=g.trans X
    have b:kids (some s) (pt (n+1) (some s) v p ch).1 =(pt (n+1) (some s) v p ch).1.l.map (Bo s):=by
     rw[kids,if_pos (L.trans g.symm),if_neg (by omega),if_pos ⟨M,C,by rw[hl];exact P6 (r:=λx=>pt n x.2.2 x.2.1 (p++ [x.1]) ch) I (λ_ h=>h) hr⟩];rfl
    by_cases cu:kids (some s) (pt (n+1) (some s) v p ch).1 = []
    ·exfalso
     rw[b]at cu
     have A:=aG.1 cu
     rw[Ey,if_neg c,H]at q
     rw[hl]at A
     have J:=aG.1 A
     rw[J]at q;simp at q
    ·rw[Aev cu,b]at a
     obtain⟨x,m,a⟩:=aP.1 a
     obtain⟨u,hu,rfl⟩:=aW.1 m
     rw[hl]at hu
     obtain⟨y,i,Y,rfl⟩:=Nq hu
     obtain⟨y5,ym,_⟩:=H3 (Eu F i) (Cp I y i)
     have d:Bo s y∈kids (some s) v:=by rw[H];exact bA i
     have N:=S s rfl
     obtain⟨t',Q⟩:=List.length_eq_one_iff.1 ((Sch.Hp N).list (L.trans X))
     have aa:t'.k=5:=(Q2 N (E0.2 ⟨L.trans X,C⟩) (by rw[Q];simp)).1
     have ab:=(Aor (pt n (Bo s y).2.2 (Bo s y).2.1 (p++ [(Bo s y).1]) ch).1 s.key (Dq y s.key) (hr y i).1 (hr y i).2).2
     have w:R5 s.key (De (pt n (Bo s y).2.2 (Bo s y).2.1 (p++ [(Bo s y).1]) ch).1 s.key (K8 (Dq y s.key)))=R5 s.key y:=by
      unfold R5;rw[ab]
     have ih:=(Azf n (Bo s y).2.2 (Bo s y).2.1 (p++ [(Bo s y).1]) ch k (recu _ d) (Au0 S d) (Pz F d) Y).2 t' s.key (Dq y s.key) (by show s.it.head?=_;rw[Q];rfl) aa y5 ym t (by
      have R:t∈lv k s.it.head? (De (pt n (Bo s y).2.2 (Bo s y).2.1 (p++ [(Bo s y).1]) ch).1 s.key (K8 (Dq y s.key))) (p++ [R5 s.key (De (pt n (Bo s y).2.2 (Bo s y).2.1 (p++ [(Bo s y).1]) ch).1 s.key (K8 (Dq y s.key)))]):=a
      rw[w]at R;exact R)
     rcases ih with h | h
     ·exact h
     ·exact .inr ⟨p,s.key,y,by rw[h,List.append_assoc];rfl⟩
theorem Amv (t:ByteArray)(A N:List UInt8)(h:t.data.toList=A++(93::46::N))(g: ∀c∈N,c.toNat≠46)(i:t.size<=1099511627776): ∀j,j<=N.length->W F242 1 [.str t,.int ((A.length+1+j:Nat):Int)]=some [.bool true]
 | 0,_=>by
  have b:t.data.toList.drop A.length=93::46::N:=by rw[h,bL]
  obtain⟨d,a2,a3⟩:=sx b
  obtain⟨b1,b2,b3⟩:=sx a3
  rw[Apb]
  simp only[Nat.add_zero,O.Gq,aM,Zd,aA,aQ,Zt,b1,bE,show((46:UInt8).toNat :Int)=46 from rfl,gt0,show 0<A.length+1 by omega,prv (show A.length<4611686018427387904 by omega),d,show((93:UInt8).toNat :Int)=93 from rfl]
 | j+1,o=>by
  have m:=Amv t A N h g i j (by omega)
  have a:j<N.length:=by omega
  have b:t.data.toList.drop (A.length+1+(j+1))=N.drop j:=by
   rw[h,show A.length+1+(j+1)=A.length+(2+j) by omega,<-List.drop_drop,bL]
   rw[show 2+j=j+1+1 by omega];rfl
  rw[aS a]at b
  obtain⟨d,a2,a3⟩:=sx b
  have q:=g _ (aH a)
  have e: ¬ ((N[j].toNat :Int)=46):=by omega
  rw[Apb]
  simp only[O.Gq,aM,Zd,aA,aQ,Zt,d,bE,e,Ze,aB,Zf]
  rw[show A.length+1+(j+1)=(A.length+1+j)+1 by omega,prv (show A.length+1+j<4611686018427387904 by omega)]
  exact m
theorem Kc: ∀ (p q:List Stp) (b:Bool),p≠ []->Cs b (p++q)=Cs b p++Cs false q
 | [],q,b,h=>absurd rfl h
 | [x],q,b,_=>by rw[List.singleton_append,Cs,Cs,Cs,Is]
 | x::y::p,q,b,_=>by
  show G9 b x++Cs false (y::p++q)=(G9 b x++Cs false (y::p))++Cs false q
  rw[Kc (y::p) q false (by simp),ByteArray.append_assoc]
theorem Bfr {t:ByteArray}(h:Bez t)(g:t≠Am)(r:t.size<=1099511627776):W F242 0 [.str t]=some [.bool true]:=by
 obtain⟨p,key,x,e⟩:=h
 unfold Cj at e
 split at e
 rotate_left
 ·exact absurd e g
 rename_i hp
 have a:C5 key=true:=by
  unfold C6 at hp
  rw[aJ,aK]at hp
  have:=hp.1 (Ch key) (by simp)
  unfold Dr Ch at this
  simp at this
  exact this
 have u: ∀c∈key.data.toList,c.toNat≠46:=by
  intro c w i
  unfold C5 at a
  rw[aJ,aK]at a
  have:=a.1 c w
  unfold Bv at this
  rw[i]at this
  exact absurd this (by decide)
 have j: ∃B:List UInt8,(Cs (p= []) [R5 key x]).data.toList =B++ [93]:=by
  refine⟨(bsL [91]++key++bsL [61]++K1 (Dq x key)).data.toList,?_⟩
  rw[Cs,Cs,Is]
  have e1:G9 (decide (p= [])) (R5 key x)=bsL [91]++key++bsL [61]++K1 (Dq x key)++bsL [93]:=by
   unfold G9 R5
   rw[if_neg (show ¬ (3:Int)=2 by decide),if_pos rfl]
  rw[e1,aD]
  rfl
 obtain⟨B,m⟩:=j
 have hsplit: ∃A:List UInt8,t.data.toList=A++(93::46::key.data.toList):=by
  have o:(Cs false [Ch key]).data.toList =46::key.data.toList:=by
   rw[Cs,Cs,Is]
   have:G9 false (Ch key)=bsL [46]++key:=by
    unfold G9 Ch
    rw[if_neg (show ¬ (1:Int)=2 by decide),if_neg (show ¬ (1:Int)=3 by decide)]
    rfl
   rw[this,aD];rfl
  by_cases b:p= []
  ·subst b
   refine⟨B,?_⟩
   rw[e,A2u,List.nil_append,show[R5 key x,Ch key]= [R5 key x]++ [Ch key]from rfl,Kc _ _ _ (by simp),aD,o]
   have d:(Cs true [R5 key x]).data.toList =B++ [93]:=by simpa using m
   rw[d];simp
  ·refine⟨(Cs true p).data.toList ++B,?_⟩
   rw[e,A2u,Kc p _ _ b,show[R5 key x,Ch key]= [R5 key x]++ [Ch key]from rfl,Kc _ _ _ (by simp),aD,aD,o]
   have d:(Cs false [R5 key x]).data.toList =B++ [93]:=by simpa [b]using m
   rw[d];simp
 obtain⟨A,q⟩:=hsplit
 have y:t.size=A.length+1+key.data.toList.length+1:=by
  rw[<-C7,q];simp;omega
 have:=Amv t A _ q u r key.data.toList.length (aU _)
 rw[A6o,O.Bg,y]
 simp only[aA,prv (show A.length+1+key.data.toList.length<4611686018427387904 by omega)]
 exact this
end Go.CT.Sch
namespace Go.CT.Sch
open Go.Proofs
theorem Arj {s:Sch}{live:Val}(h:Mu s live=true):s.k=5/\Mu s Bt=true:=by
 obtain⟨j,r,m,g,t⟩:=S0 h
 have i:s.k=5:=by
  apply aT
  intro b
  rw[Iv,if_neg (λe=>b (by rw[<-e,m]))]at g
  exact absurd g (show ¬ ((decide ((6:Int)=7)&&true)=true) by decide)
 refine⟨i,?_⟩
 have o:Bt.valid=true:=by decide+kernel
 have q:(Jo Bt s []).all Vn=true:=by
  rw[Iv,if_pos (show Bt.k=s.k from i.symm),if_neg (by decide),if_neg (by decide),if_neg (by decide),if_pos (show Bt.k=5 from rfl),List.all_append,aJ]
  refine⟨by show(Le [] s []).all Vn=true;rw[Jy];rfl,?_⟩
  rw[aK]
  intro x a
  obtain⟨d,_,a⟩:=aP.1 a
  unfold Ke at a
  split at a
  ·rw[aF.1 a];rfl
  ·simp at a
 have c:kyB Bt.size s Bt=true:=by
  show kyB 1 s Bt=true
  rw[kyB]
  split<;>rfl
 unfold Mu
 rw[j,o,q,c]
 rfl
theorem Pb (s:Sch):As s Bt= []:=by
 rw[List.eq_nil_iff_forall_not_mem]
 intro t b
 have c:=(aE.1 b).2
 have a:=Ad6 b
 have:kids (some s) Bt= []:=by
  rw[kids]
  split<;>rfl
 have a:t∈lv (0+1) (some s) Bt []:=a
 rw[lv,if_pos this,aF]at a
 subst a
 exact absurd c (by decide+kernel)
theorem Uy (nm:ByteArray)(l:List Mgr):(∀x∈Z6 nm [] true l,x.name≠nm)/\(Z6 nm [] true l).length <=l.length:=by
 rw[Kq]
 unfold I5
 refine⟨λx a=>?_,Nat.le_trans (aY _ _) (aY _ _)⟩
 simpa using(aE.1 (aE.1 a).1).2
theorem Bf9 {s:Sch}{live:Val}{m:List Mgr}{nm:ByteArray}(a:Mu s live=true)(d:Z8 m=true)(f4:Kp nm=true):
  Az9 s live m nm Bt false=⟨Ip s (aR live s) (I6 m nm []),Z6 nm [] true (Ru [] m),[],0⟩:=by
 obtain⟨g,h⟩:=Arj a
 have b:okB s live Bt m nm=true:=by unfold okB;rw[a,h,d,f4];rfl
 have c:aR Bt s=Bt:=by
  rw[D.Hi,if_pos (show Bt.k=s.k from g.symm),if_neg (by decide),if_pos (show Bt.k=5 from rfl)];rfl
 have e:Ak0 s (aR live s) Bt m nm= []:=by unfold Ak0;rw[Pb];rfl
 have i:A2e s (aR live s) Bt m nm=Z6 nm [] true (Ru [] m):=by unfold A2e;rw[e,Pb];rfl
 have j:Az7 s (aR live s) Bt m nm=Ip s (aR live s) (I6 m nm []):=by
  unfold Az7
  rw[Pb]
  show mg (0+1) s Bt _=_
  have:emS s Bt=true:=rfl
  rw[mg,this];rfl
 have o: ¬ 16<(Z6 nm [] true (Ru [] m)).length :=by
  have:=(Uy nm (Ru [] m)).2
  have q:=(Aep d).2.2
  have:(Ru [] m).length =m.length:=aL ..
  omega
 unfold Az9
 rw[b,if_pos rfl,c]
 unfold Bdw
 rw[e,i,j,if_neg (by simp),if_neg o,if_pos (Asb _ (T9 a))]
theorem Alp (nm t:ByteArray): ∀ (l:List Mgr) (a:List ByteArray),t∈Arz nm l a↔t∈a\/ ∃x∈l,x.name≠nm/\t∈x.paths
 | [],a=>by simp[Arz]
 | x::l,a=>by
  rw[Arz]
  by_cases c:x.name=nm
  ·simp[c,Alp nm t l a]
  ·simp[c,Alp nm t l,Pu,or_assoc]
theorem Af2 {x y:Mgr} : ∀ {l:List Mgr},I4 l->x∈l->y∈l->x.name=y.name->x=y
 | [],_,b,_,_=>by simp at b
 | z::l,h,b,a,e=>by
  obtain⟨c,d⟩:=List.pairwise_cons.1 h
  rcases bB.1 b with b | b
  ·rcases bB.1 a with a | a
   ·rw[b,a]
   ·rw[b]at e;exact absurd e (I1 (c y a))
  ·rcases bB.1 a with a | a
   ·rw[a]at e;exact absurd e.symm (I1 (c x b))
   ·exact Af2 d b a e
theorem Awl {l:List Mgr}(h:I4 l){nm t:ByteArray} :t∈Hk l nm↔ ∃x∈l,x.name=nm/\t∈x.paths:=by
 unfold Hk
 cases a:l.find? λm=>decide (m.name=nm) with
 | none=>
  rw[List.find?_eq_none]at a
  constructor
  ·intro h;simp at h
  ·rintro⟨x,c,e,_⟩;exact absurd (a x c) (by simp[e])
 | some y=>
  have d:=List.mem_of_find?_eq_some a
  have g:y.name=nm:=by simpa using List.find?_some a
  constructor
  ·intro b;exact⟨y,d,g,b⟩
  ·rintro⟨x,c,e,b⟩
   rw[Af2 h c d (e.trans g.symm)]at b
   exact b
theorem Ag0 {l:List Mgr}(h:I4 l)(t:ByteArray):(Ef t l).Nodup :=by
 unfold Ef
 have:(l.map Mgr.name).Nodup :=by
  rw[List.Nodup,List.pairwise_map]
  exact bP (λh=>I1 h) h
 exact List.Nodup.sublist (bR _ List.filter_sublist) this
theorem A0p {m:List Mgr}(h:I4 m)(nm t:ByteArray):inB (I6 m nm []) t=true↔Ef t m= [nm]:=by
 unfold I6
 rw[Hs,Aa2,Aa2,Awl h,Alp]
 have q:=Ag0 h t
 have c: ∀x,x∈Ef t m↔ ∃y∈m,t∈y.paths/\y.name=x:=λx=>by rw[<-Hs];exact Arh
 constructor
 ·rintro⟨⟨⟨x,u,e,C⟩,_⟩,F⟩
  have g: ∀z∈Ef t m,z=nm:=by
   intro z G
   obtain⟨y,w,i,e⟩:=(c z).1 G
   apply aT
   intro j
   exact F (.inr ⟨y,w,by rw[e];exact j,i⟩)
  have d:nm∈Ef t m:=(c nm).2 ⟨x,u,C,e⟩
  generalize Ef t m=o at q g d
  match o,q,g,d with
  | [a],_,r,_=>rw[r a (by simp)]
  | a::b::o,hd,r,_=>
   have:=(List.nodup_cons.1 hd).1
   rw[r a (by simp),r b (by simp)]at this
   exact absurd (by simp) this
 ·intro e
  have d:nm∈Ef t m:=by rw[e];simp
  obtain⟨y,w,i,A⟩:=(c nm).1 d
  refine⟨⟨⟨y,w,A,i⟩,by simp⟩,?_⟩
  rintro (h | ⟨x,u,j,B⟩)
  ·simp at h
  ·have:x.name∈Ef t m:=(c _).2 ⟨x,u,B,rfl⟩
   rw[e,aF]at this
   exact j this
theorem Bca {s:Sch}{lv':Val}(h:PV s lv')(gone:List ByteArray){t:ByteArray}(i:t∈As s lv'):
  ∃q w,t=Cj q/\C6 q=true/\Hw lv' q=some w/\(inB gone t=false->Hw (Ip s lv' gone) q=some w)/\(inB gone t=true->inB (As s (Ip s lv' gone)) t=true->Bez t):=by
 obtain⟨q,w,e1,g,j,_,e5⟩:=Aix lv'.size (some s) lv' [] t (aU _) h.vv (Ad6 i)
 have hd:=Ac4 q 12 lv' w ((Gj lv').1 h.vv).1 g
 have hp:C6 q=true:=by
  unfold C6
  simp only[aJ,aK,decide_eq_true_eq]
  exact⟨j,by omega⟩
 refine⟨q,w,e1,hp,g,λc=>?_,λc a=>?_⟩
 ·obtain⟨m,a2⟩:=e5 (chB gone false) (by unfold chB;rw[c];rfl)
  unfold Ip J4
  rw[h.sv,h.vv,m]
  exact a2
 ·have a:=Hs.1 a
  have d:=(aE.1 a).2
  have a:=Ad6 a
  cases b:(pt lv'.size (some s) lv' [] (chB gone false)).2 with
  | true=>
   have hdv:Ip s lv' gone=(pt lv'.size (some s) lv' [] (chB gone false)).1 :=by unfold Ip J4;rw[h.sv,h.vv,b];rfl
   rw[hdv]at a
   rcases(Azf lv'.size (some s) lv' [] (chB gone false) _ (aU _) (λs' e=>by cases e;exact h.sv) h.vv b).1 t a with h | h
   ·unfold chB at h;rw[c]at h;cases h
   ·exact h
  | false=>
   have hdv:Ip s lv' gone=⟨5,0,Am,[],[]⟩:=by unfold Ip J4;rw[h.sv,h.vv,b,h.k5];rfl
   rw[hdv]at a
   have o:kids (some s) ⟨5,0,Am,[],[]⟩= []:=by rw[kids];split<;>rfl
   have a:t∈lv (0+1) (some s) ⟨5,0,Am,[],[]⟩ []:=a
   rw[lv,if_pos o,aF]at a
   subst a
   exact absurd d (by decide+kernel)
theorem Ar4 {s:Sch}{v:Val}{t:ByteArray}(c:v.valid=true)(d:t∈As s v):t.size<=1099511627776:=by
 obtain⟨q,w,e1,b,_⟩:=Abu c d
 have a:=b
 unfold C6 at a
 simp only[aJ,aK,decide_eq_true_eq]at a
 have:=Qf q a.1 true
 rw[e1,Cj,if_pos b,A2u]
 omega
theorem Apq (s:Sch)(lv':Val)(m:List Mgr)(nm:ByteArray)(h:PV s lv')(Y:s.Ap<=1048576)(B:m.length<=1048576/\ ∀x∈m,x.paths.length<=1048576)(C:lv'.Ap<=1048576)(y:I4 m): ∀ (n i:Nat),i+n=(As s lv').length ->
  W F0 2 [.list (m.map aC),.str nm,.int (i:Nat),lv'.enc,(Ip s lv' (I6 m nm [])).enc,SL (As s (Ip s lv' (I6 m nm []))),SL (As s lv')]=some [.bool true]
 | 0,i,Z=>by
  have:i=(As s lv').length :=by omega
  subst this
  have z:bO (SL (As s lv'))=some (.int (As s lv').length):=Gi IV.str _
  rw[A80,z]
  simp only[ltn,aA,aQ,aB,Zf,Azi,bF]
 | n+1,i,Z=>by
  have r:i<(As s lv').length :=by omega
  have hlen:=Kr s lv'
  have g:=aH r
  have F:=Apq s lv' m nm h Y B C y n (i+1) (by omega)
  have aa:=M5 s lv' (I6 m nm []) false
  have z:bO (SL (As s lv'))=some (.int (As s lv').length):=Gi IV.str _
  have hx:bK (SL (As s lv')) (.int (i:Nat))=some (.str (As s lv')[i]):=Jq IV.str r
  have G:=Ar4 h.vv g
  have H:(As s lv')[i]≠Am:=by simpa using(aE.1 g).2
  obtain⟨q,w,e1,S,T,e4,e5⟩:=Bca h (I6 m nm []) g
  have U:=A0p y nm (As s lv')[i]
  have X:=Bd7 lv' q C S
  have a2:=Bd7 (Ip s lv' (I6 m nm [])) q (by unfold Ip;omega) S
  rw[<-e1]at X a2
  have I:w.Ap<=1048576:=by have:=Zb (p:=q) C;rw[T]at this;exact this
  have J:=Kr s (Ip s lv' (I6 m nm []))
  have A:=lhas (As s (Ip s lv' (I6 m nm []))) (As s lv')[i] (by unfold Ip at J ⊢;omega)
  have K:=Azq m (As s lv')[i] B.1 B.2
  have L:bO (SL (Ef (As s lv')[i] m))=some (.int (Ef (As s lv')[i] m).length):=Gi IV.str _
  generalize (As s lv')[i]=t at *
  rw[A80,z]
  simp only[lti r,aA,aQ,Zt,hx,K,bF,L,X,a2,O.Cg,T,bI]
  by_cases c:Ef t m= [nm]
  ·have u:=U.2 c
   have j:bK (SL [nm]) (.int 0)=some (.str nm):=Jq IV.str (l:= [nm]) (i:=0) (by simp)
   rw[c]
   simp only[aZ,bE,show((1:Nat):Int)=1 from rfl,Zd,aA,aQ,Zt,j,O.C4,O.Ar,aI,aB,Zf,A,bF]
   cases hb:inB (As s (Ip s lv' (I6 m nm []))) t with
   | false=>simp only[aB,Zf,aA,aQ,nxt (show i<4611686018427387904 by omega),F]
   | true=>simp only[Zt,Bfr (e5 u hb) H G,bF,O.Ar,aI,aA,aQ,aB,Zf,nxt (show i<4611686018427387904 by omega),F]
  ·have u:inB (I6 m nm []) t=false:=by rw[<-Bool.not_eq_true];exact λe=>c (U.1 e)
   have M:=e4 u
   have d:((O.eq (.int ((Ef t m).length :Nat)) (.int 1)).bind λN=>cnd N ((bK (SL (Ef t m)) (.int 0)).bind λQ=>(O.sEq Q (.str nm)).bind λR=>some R) (some (.bool false)))=some (.bool false):=by
    rw[bE]
    generalize Ef t m=o at c
    match o,c with
    | [],_=>rfl
    | [a],z=>
     have j:bK (SL [a]) (.int 0)=some (.str a):=Jq IV.str (l:= [a]) (i:=0) (by simp)
     have: ¬ a=nm:=λe=>z (by rw[e])
     simp only[aZ,show((1:Nat):Int)=1 from rfl,Zd,aA,aQ,Zt,j,O.C4,this,Ze]
    | a::b::o,_=>
     have: ¬ (((a::b::o).length :Nat):Int)=1:=by simp only[bH];omega
     simp only[this,Ze,aA,aQ,aB,Zf]
   rw[bE]at d ⊢
   simp only[aA]at d ⊢
   rw[d]
   simp only[aA,O.Ar,Bool.not_false,aQ,Zt,M,Option.isSome_some,bI,aI,aB,Zf,eq_self w I,bF,nxt (show i<4611686018427387904 by omega),F]
theorem Api (s:Sch)(live v:Val)(m l:List Mgr)(nm:ByteArray)(now:List ByteArray)(e:Mu s live=true)(b:s.Ap<=1048576)(a:live.Ap<=1048576)(j:l.length<=1048576)(g: ∀x∈l,x.name≠nm)
  (H:W F0 2 [.list (m.map aC),.str nm,.int 0,(aR live s).enc,v.enc,SL now,SL (As s (aR live s))]=some [.bool true]): ∀ (n i:Nat),i+n=l.length->
  W F0 1 [.list (m.map aC),.str nm,.int (i:Nat),s.enc,live.enc,v.enc,.list (l.map aC),SL now]=some [.bool true]
 | 0,i,h=>by
  have:i=l.length:=by omega
  subst this
  have hp:=(R3 e b a).2
  have q:=Ki live s
  rw[A7y,Gi]
  simp only[ltn,aA,aQ,aB,Zf,hp,bF,Af8 s (aR live s) b (by omega),H]
 | n+1,i,h=>by
  have c:i<l.length:=by omega
  have o:=Api s live v m l nm now e b a j g H n (i+1) (by omega)
  have d:=g _ (aH c)
  rw[A7y,Gi]
  simp only[lti c,aA,aQ,Zt,Jq aC c,Am0,O.C4,d,Ze,aB,Zf,nxt (show i<4611686018427387904 by omega),o]
theorem A1a (nm:ByteArray):(decide ((nm.size:Int)<1)||decide ((40:Int)<nm.size))= !Kp nm:=by
 unfold Kp
 by_cases c:(nm.size:Int)<1
 ·have: ¬ 1<=nm.size:=by omega
  simp[c,this]
 ·have a:1<=nm.size:=by omega
  by_cases d:(40:Int)<nm.size
  ·have: ¬ nm.size<=40:=by omega
   simp[c,d,this]
  ·have b:nm.size<=40:=by omega
   simp[c,d,a,b]
theorem Adt (s:Sch)(live:Val)(m:List Mgr)(nm:ByteArray)(e:Sz s live Bt m):W F0 0 [s.enc,live.enc,.list (m.map aC),.str nm]=some [.bool true]:=by
 have z:=e.hab
 have I:=e.hm
 have g:=e.hs
 have A:=e.hp
 have c: ∀x∈m,x.paths.length<=1048576:=λx j=>by have:=Ub j;omega
 obtain⟨b,B⟩:=Bfh m (by omega) c s live live g (by omega) (by omega)
 have h:W F46 0 [.list []]=some Bt.E1:=Ai1 100 (by kernel_rfl)
 have o:IV.agg [.int 5,.int 0,.str ⟨#[]⟩,.list [],.list []]=Bt.enc:=rfl
 have d:W F46 0 [.list []]=some [.int 5,.int 0,.str ⟨#[]⟩,.list [],.list []]:=h
 rw[Bd9]
 simp only[B,bF,O.Ar,aA,aQ,Bim s live g (by omega),Bit m (by omega) (λx j=>by have:=c x j;omega),Azi,O.Bg,bQ,O.B5,d,O.Dg,O.Ba,o]
 cases b with
 | false=>rfl
 | true=>
 cases q:Mu s live with
 | false=>rfl
 | true=>
 cases y:Z8 m with
 | false=>rfl
 | true=>
 have a:=A1a nm
 cases f4:Kp nm with
 | false=>
  rw[f4]at a
  cases C:decide ((nm.size:Int)<1) with
  | true=>rfl
  | false=>
   rw[C,Bool.false_or]at a
   simp only[a];rfl
 | true=>
  rw[f4]at a
  simp only[aI,Bool.or_eq_false_iff]at a
  have r:=Sf s live m nm Bt false e
  rw[Bf9 q y f4]at r
  have F:=Ki live s
  have G:=M5 s (aR live s) (I6 m nm []) false
  have t:=Uy nm (Ru [] m)
  have H:(Ru [] m).length =m.length:=aL ..
  have u:=Af8 s (Ip s (aR live s) (I6 m nm [])) g (by unfold Ip;omega)
  have w:=Apq s (aR live s) m nm (T9 q) g ⟨by omega,c⟩ (by omega) (Aep y).1 (As s (aR live s)).length 0 (by omega)
  have i:=Api s live (Ip s (aR live s) (I6 m nm [])) m (Z6 nm [] true (Ru [] m)) nm (As s (Ip s (aR live s) (I6 m nm []))) q g (by omega) (by omega) t.1 w (Z6 nm [] true (Ru [] m)).length 0 (by omega)
  simp only[aN]at i
  simp only[A7f.enc]at r
  simp only[aI,aB,Zf,a.1,a.2,r,O.Ado,O.Ci,Zd,aA,aQ,List.map_nil,O.Ao,List.length_nil,show decide ((0:Int) > ((0:Nat):Int))=false from rfl,aN,Int.lt_irrefl,Ze,u,bF,i]
  rfl
theorem Bh2 {s:Sch}{live:Val}{m:List Mgr}(h:s.Ap+live.Ap+IV.Dk (m.map aC)<=1048576):Sz s live Bt m:=by
 have:=Agt m
 have a:Bt.Ap<=6:=by decide+kernel
 have b:6<=s.Ap:=by
  unfold Sch.Ap
  rw[Sch.Es,Sch.Bl]
  simp only[IV.bulk,IV.Dk]
  omega
 exact⟨by omega,by omega,by omega⟩
end Go.CT.Sch
