import Derived.Test.YtfealnpkfnjbkaaGreatDoorOwnersPrB
set_option linter.unusedVariables false
set_option linter.unusedSimpArgs false
open Bool renaming false_eq_true->aB,and_eq_true->aC,not_true->aH,not_false->bQ,not_eq_true'->bW,not_eq_true->cE
open Go.CT.O renaming Aa->bA,Ae->bP,len->cH
open Go.CT.Sch.Am9 renaming enc->cK
open Go.CT.Sch.D renaming Ba->aK
open Go.CT.Sch.Mgr renaming enc->aD
open Go.CT.Sch.Sch renaming H2->cM,Ia->cN
open Go.CT.Sch.Stp renaming enc->cO
open Int renaming cast_ofNat_Int->aF,natCast_nonneg->bU,toNat_natCast->bX
open List renaming singleton_append->aE,all_eq_true->aG,getElem_mem->aI,mem_flatMap->aJ,mem_filter->aM,mem_singleton->aP,length_map->aQ,all_append->aR,append_assoc->aS,flatMap_cons->aT,mem_map->aU,mem_of_find?_eq_some->aV,nil_append->aW,pairwise_cons->aY,length_eq_one_iff->aZ,mem_append->bB,map_nil->bD,drop_eq_getElem_cons->bE,getElem?_eq_getElem->bF,map_cons->bG,mem_cons->bI,append_nil->bL,length_filter_le->bN,mem_append_right->bO,mem_map_of_mem->bR,map_congr_left->bT,ne_nil_of_mem->bV,getElem?_map->bY,mem_of_head?->bZ,drop_length->cB,filter_cons->cC,any_eq_true->cD,headD_cons->cF,length_nil->cG,map_id->cL
open List.Pairwise renaming filter->aN
open List.cons renaming injEq->bM
open Nat renaming le_refl->aL,zero_le->aO,le_trans->cJ
open Option renaming bind_some->aA,map_some->aX,isSome_iff_exists->bH,getD_some->bJ,bind_eq_some_iff->bK,some_or->cI
open Option.some renaming inj->bC
namespace Go.CT.Sch
open Go.Proofs
def A5m (m:List Mgr)(nm:ByteArray)(all new:List ByteArray):List Mgr:=
 if(decide ((Hy m nm).length =0)&&decide (16<=(I6 nm [] true (Un all new m)).length))=true then I6 nm [] true (Un all new m)
 else I6 nm (W2 (Pz (Hy m nm) all++new)) (decide ((W2 (Pz (Hy m nm) all++new)).length =0)) (Un all new m)
noncomputable def A72 (s:Sch) (b a:Val) (m:List Mgr) (nm:ByteArray):List Mgr:=A5m m nm (Ai s a) (Asi s b a)
noncomputable def A65 (s:Sch) (b a:Val) (m:List Mgr) (nm:ByteArray):List Mgr:=if okB s b a m nm=true then A72 s (aK b s) (aK a s) m nm else m
theorem Auu (l:List Mgr)(c:l.length<=1048576)(hp: ∀m∈l,m.paths.length<=1048576): ∀ (n i:Nat) (a:List Mgr),i+n=l.length->a.length<=i->
  W 207 1 [.list (l.map aD),.int l.length,.int i,.list (a.map aD)]=some [.list ((a++l.drop i).map aD)]
 | 0,i,a,h,d=>by
  have:i=l.length:=by omega
  subst this
  rw[A21.b,cB,bL]
  simp only[ltn,aA,bA,aB,Zf]
 | n+1,i,a,h,d=>by
  have b:i<l.length:=by omega
  have e:=hp _ (aI b)
  have i2:=Auu l c hp n (i+1) (a++ [l[i]]) (by omega) (by simp;omega)
  have ap:O.append 40 (.list (a.map aD)) (.list [.agg [.str l[i].name,.list (l[i].paths.map .str)]])=some (.list ((a++ [l[i]]).map aD)):=apm aD a l[i] (by omega)
  have cl:O.Ir [.list (l[i].paths.map IV.str)]=some [.list (l[i].paths.map .str)]:=D2 (by rw[aQ];omega)
  rw[A21.b,bE b]
  simp only[lti b,aA,bA,Zt,I9 aD b,Akd,Ari,A4a,cl,bP,O.Az,O.Bb,ap,nxt (show i<4611686018427387904 by omega),i2,aS,aE]
theorem A1e (s:Sch)(b a:Val):(Asi s b a).length <=a.Ap:=cJ (bN _ _) (Iv s a)
theorem ge16 (n:Nat):O.ge (.int (n:Int)) (.int 16)=some (.bool (decide (16<=n))):=by rw[O.Hu];congr 2;exact decide_eq_decide.2 (by omega)
theorem own0 {m:List Mgr}{nm:ByteArray}(a: ∀x∈m,x.paths≠ [])(h:(Hy m nm).length =0)(all new:List ByteArray):I6 nm [] true (Un all new m)=I5 (Un all new m):=by
 rw[Ib]
 congr 1
 refine List.filter_eq_self.2 λx c=>?_
 obtain⟨y,d,rfl⟩:=aU.1 c
 show(!decide (y.name=nm))=true
 rw[bW,decide_eq_false_iff_not]
 intro e
 unfold Hy at h
 cases b:m.find? λm=>decide (m.name=nm) with
 | none=>exact absurd (List.find?_eq_none.1 b y d) (by simp[e])
 | some z=>
  rw[b]at h
  exact a z (aV b) (List.length_eq_zero_iff.1 h)
theorem Atq (s:Sch)(b a:Val)(m:List Mgr)(nm:ByteArray)(j:Sz s b a m):
  W 207 0 [s.enc,b.enc,a.enc,.list (m.map aD),.str nm]=some [.list ((A65 s b a m nm).map aD)]:=by
 have F:=j.hab
 have h:=j.hs
 have y:=j.hm
 have G:=j.hp
 have e: ∀x∈m,x.paths.length<=1048576:=λx o=>by have:=Px o;omega
 rw[A21.a]
 simp only[Qe s h,I3 b (by omega),I3 a (by omega),A0a m (by omega) (λx o=>by have:=e x o;omega),Avl,Ayw s b h (by omega),Ayw s a h (by omega),bP,O.Aq,aA,bA,Aw,Al]
 have q: ∀a b:Bool,(if a=true then true else b)=(a||b):=by decide
 simp only[q,Azt]
 unfold A65
 cases r:okB s b a m nm with
 | false=>
  have:=Auu m (by omega) e m.length 0 [] (by omega) (aL _)
  simp only[aF,bD,List.drop_zero,aW]at this
  simp only[bQ,Zt,aB,Zf,Gi,aA]
  exact this
 | true=>
  have d:=r
  unfold okB at d
  simp only[aC]at d
  obtain⟨⟨⟨z,A⟩,H⟩,f4⟩:=d
  have I:=N6 z
  have B:=N6 A
  have J:=Hq b s
  have K:=Hq a s
  obtain⟨i,t,hlen⟩:=Alx H
  simp only[aH,aB,Zf,Zt,(Qi z h (by omega)).1,(Qi A h (by omega)).1,bP]
  generalize aK b s=g at I J ⊢
  generalize aK a s=c at B K ⊢
  have C:=Iv s c
  have L:=A1e s g c
  have M:=Xn m nm
  have N:=Xf (Hy m nm) (Ai s c)
  have u:=Od (Pz (Hy m nm) (Ai s c)++Asi s g c)
  rw[List.length_append]at u
  have Q:=Ao2 m (Ai s c) (Asi s g c) nm [] i y (aO _) e (by omega) (by omega)
  have R:=Ao2 m (Ai s c) (Asi s g c) nm (W2 (Pz (Hy m nm) (Ai s c)++Asi s g c)) i y (by omega) e (by omega) (by omega)
  have w:W 210 0 [.list (m.map aD),.str nm,.list [],SL (Ai s c),SL (Asi s g c)]=some [.list ((I6 nm [] true (Un (Ai s c) (Asi s g c) m)).map aD)]:=Q
  simp only[Tc s c h (by omega),A5f s g c h (by omega) (by omega) B.vv,bP,A0v m nm (by omega) t,A0e (Hy m nm) (Ai s c) (by omega) (by omega),Azz (Pz (Hy m nm) (Ai s c)) (Asi s g c) (by omega) (by omega),Srt.len,aA,eq0,bA,w,Gi,ge16,R,Aw,Al]
  unfold A72 A5m
  have hand: ∀a b:Bool,(if a=true then b else false)=(a&&b):=by decide
  simp only[hand]
  split<;>rfl
end Go.CT.Sch
namespace Go.CT.Sch.D
open Go.Proofs
theorem Az6 (s:Sch)(y:s.Ap<=1099511627776)(w: ∀p∈s.f,∀m:Int,0<=m->m<=300-> ∃r:Int,W 2 0 [p.s.enc,.int m]=some [.int r]/\1<=r/\r<=max 1 m): ∀ (n i:Nat) (m c:Int),i+n=s.f.length->1<=c->c<=max 1 m->0<=m->m<=300->
  ∃r:Int,W 2 2 [.int m,.int c,.int i,s.enc]=some [.int r]/\1<=r/\r<=max 1 m
 | 0,i,m,c,h,o,a,x,b=>by
  have z: ¬ i<s.f.length:=by omega
  refine⟨c,?_,o,a⟩
  rw[A0.k]
  simp[z]
 | n+1,i,m,c,h,o,a,x,b=>by
  have j:i<s.f.length:=by omega
  have H:=s.Bd
  have A:=Be (i:=i) (by omega)
  rw[A0.k]
  by_cases d:c<m
  ·have q:IntKind.i64.wrap (m - c)=m - c:=wrap64 (by omega) (by omega)
   obtain⟨r,B,C,F⟩:=w _ (aI j) (m - c) (by omega) (by omega)
   have t:IntKind.i64.wrap (c+r)=c+r:=wrap64 (by omega) (by omega)
   obtain⟨G,u,e,g⟩:=Az6 s y w n (i+1) m (c+r) (by omega) (by omega) (by omega) x b
   refine⟨G,?_,e,g⟩
   simp only[Sch.Js,aA,O.As,aQ,O.Ah,Ao,j,Zd,bA,Zt,d,O.Aj,bU,bX,bY,bF j,aX,SFld.Q5,O.C7,q,B,bP,O.An,t,A,u]
  ·refine⟨c,?_,o,a⟩
   simp[j,d]
theorem A0r (s:Sch)(z:s.Ap<=1099511627776)(w: ∀x∈s.it,∀m:Int,0<=m->m<=300-> ∃r:Int,W 2 0 [x.enc,.int m]=some [.int r]/\1<=r/\r<=max 1 m): ∀ (n i:Nat) (m c:Int),i+n=s.it.length->1<=c->c<=max 1 m->0<=m->m<=300->
  ∃r:Int,W 2 1 [.int m,.int c,.int i,s.enc]=W 2 2 [.int m,.int r,.int 0,s.enc]/\1<=r/\r<=max 1 m
 | 0,i,m,c,h,o,a,y,b=>by
  have A: ¬ i<s.it.length:=by omega
  refine⟨c,?_,o,a⟩
  rw[A0.j]
  simp[A]
 | n+1,i,m,c,h,o,a,y,b=>by
  have j:i<s.it.length:=by omega
  have I:=s.R2
  have B:=Be (i:=i) (by omega)
  rw[A0.j]
  by_cases d:c<m
  ·have q:IntKind.i64.wrap (m - c)=m - c:=wrap64 (by omega) (by omega)
   obtain⟨r,C,F,G⟩:=w _ (aI j) (m - c) (by omega) (by omega)
   have t:IntKind.i64.wrap (c+r)=c+r:=wrap64 (by omega) (by omega)
   obtain⟨H,u,e,g⟩:=A0r s z w n (i+1) m (c+r) (by omega) (by omega) (by omega) y b
   refine⟨H,?_,e,g⟩
   simp only[Sch.H3,aA,O.As,aQ,O.Ah,Ao,j,Zd,bA,Zt,d,O.Aj,bU,bX,bY,bF j,aX,O.C7,q,C,bP,O.An,t,B,u]
  ·refine⟨c,?_,o,a⟩
   simp[j,d]
theorem A2v: ∀s:Sch,s.Ap<=1099511627776-> ∀m:Int,0<=m->m<=300-> ∃r:Int,W 2 0 [s.enc,.int m]=some [.int r]/\1<=r/\r<=max 1 m:=by
 refine Sch.ind λs b d e m g a=>?_
 obtain⟨c,i,j,o⟩:=A0r s e (λx h=>b x h (by have:=Sch.Gy h;omega)) s.it.length 0 m 1 (by omega) (by omega) (by omega) g a
 obtain⟨r,q,t,u⟩:=Az6 s e (λp hp=>d p hp (by have:=Sch.D0 hp;omega)) s.f.length 0 m c (by omega) j o g a
 refine⟨r,?_,t,u⟩
 rw[A0.i]
 exact i.trans q
end Go.CT.Sch.D
namespace Go.CT.Sch
open Go.Proofs
theorem At1 (l:List Mgr)(i:Nat)(a:i<l.length)(c:l.length<=1048576)(hp:l[i].paths.length <=1048576): ∀ (n j:Nat),j+n=l[i].paths.length ->
  W 216 2 [.list (l.map aD),.list (l.map aD),.int i,.int j]=W 216 1 [.list (l.map aD),.list (l.map aD),.int (i+1:Nat)]
 | 0,j,h=>by
  have:j=l[i].paths.length :=by omega
  subst this
  rw[A22.i]
  simp only[I9 aD a,Ari,Gi,aA,ltn,bA,aB,Zf,nxt (show i<4611686018427387904 by omega)]
 | n+1,j,h=>by
  have b:j<l[i].paths.length :=by omega
  have d:=At1 l i a c hp n (j+1) (by omega)
  rw[A22.i]
  simp only[I9 aD a,Ari,Gi,aA,lti b,bA,Zt,I9 IV.str b,O.Eh,Zd,aH,aB,Zf,nxt (show j<4611686018427387904 by omega),d]
theorem Av0 (l:List Mgr)(b:l.length<=1048576)(hp: ∀m∈l,m.paths.length<=1048576): ∀ (n i:Nat),i+n=l.length->W 216 1 [.list (l.map aD),.list (l.map aD),.int i]=some [.bool true]
 | 0,i,h=>by
  have:i=l.length:=by omega
  subst this
  rw[A22.h]
  simp only[Gi,aA,ltn,bA,aB,Zf]
 | n+1,i,h=>by
  have a:i<l.length:=by omega
  have d:=Av0 l b hp n (i+1) (by omega)
  have c:=At1 l i a b (hp _ (aI a)) l[i].paths.length 0 (by omega)
  simp only[aF]at c
  rw[A22.h]
  simp only[Gi,aA,lti a,bA,Zt,I9 aD a,Akd,Ari,O.Eh,Zd,aH,aB,Zf,O.Ci,c,d]
theorem A47 (l:List Mgr)(a:l.length<=1048576)(hp: ∀m∈l,m.paths.length<=1048576):W 216 0 [.list (l.map aD),.list (l.map aD)]=some [.bool true]:=by
 have:=Av0 l a hp l.length 0 (by omega)
 simp only[aF]at this
 rw[A22.g]
 simp only[Gi,aA,O.Ci,Zd,aH,bA,aB,Zf,this]
theorem A2e (m:List Mgr)(z:m.length<=1048576)(hp: ∀x∈m,x.paths.length<=1048576)(s:Sch)(a b:Val)(A:s.Ap<=1048576)(B:a.Ap<=1048576)(C:b.Ap<=1048576): ∀ (n i c:Nat),i+n=m.length->c<=1048576+i * 1048576->
  ∃r,W 1 1 [.list (m.map aD),.int c,.int i,s.enc,a.enc,b.enc]=some [.bool r]:=by
 obtain⟨sz,d,_⟩:=D.A2v s (by omega) 300 (by omega) (by omega)
 obtain⟨b1,e⟩:=Ajn a (by omega) 200 (by omega) (by omega)
 obtain⟨b2,g⟩:=Ajn b (by omega) 200 (by omega) (by omega)
 intro n
 induction n with
 | zero=>
  intro i c h t
  have:i=m.length:=by omega
  subst this
  have j:O.lt (.int (c:Int)) (.int 400)=some (.bool (decide ((c:Int)<400))):=O.Ah
  have o:O.lt (.int sz) (.int 300)=some (.bool (decide (sz<300))):=O.Ah
  rw[A0.h]
  simp only[Gi,aA,ltn,bA,aB,Zf,j,o,d,e,g,bP,Aw,Al]
  exact⟨_,rfl⟩
 | succ n u=>
  intro i c h t
  have q:i<m.length:=by omega
  have F:=hp _ (aI q)
  have w:IntKind.i64.wrap ((c:Int)+(m[i].paths.length :Int))=((c+m[i].paths.length :Nat):Int):=by
   have:i * 1048576<=1048576 * 1048576:=Nat.mul_le_mul (by omega) (aL _)
   rw[wrap64 (by omega) (by omega)];omega
  obtain⟨r,y⟩:=u (i+1) (c+m[i].paths.length) (by omega) (by rw[Nat.add_mul];omega)
  have j:O.lt (.int (c:Int)) (.int 400)=some (.bool (decide ((c:Int)<400))):=O.Ah
  have o:O.lt (.int sz) (.int 300)=some (.bool (decide (sz<300))):=O.Ah
  rw[A0.h]
  simp only[Gi,aA,lti q,bA,Zt,j,o,I9 aD q,Ari,O.An,w,nxt (show i<4611686018427387904 by omega),y,d,e,g,bP,Aw,Al]
  split
  ·exact⟨r,rfl⟩
  ·exact⟨_,rfl⟩
theorem A5n (m:List Mgr)(c:m.length<=1048576)(hp: ∀x∈m,x.paths.length<=1048576)(s:Sch)(a b:Val)(d:s.Ap<=1048576)(e:a.Ap<=1048576)(g:b.Ap<=1048576): ∃r,W 1 0 [s.enc,a.enc,b.enc,.list (m.map aD)]=some [.bool r]:=by
 obtain⟨r,h⟩:=A2e m c hp s a b d e g m.length 0 m.length (by omega) (by omega)
 refine⟨r,?_⟩
 rw[A0.g]
 simp only[Gi,aA]
 exact h
end Go.CT.Sch
namespace Go.CT.Sch
open Go.Proofs
theorem Avr: ∀ {p q:List Stp},p.map cO=q.map cO->p=q
 | [],[],_=>rfl
 | [],_::_,h=>by cases h
 | _::_,[],h=>by cases h
 | a::p,b::q,h=>by
  simp only[bG,bM]at h
  obtain⟨c,d⟩:=h
  obtain⟨e,a2,a3,a4⟩:=a
  obtain⟨b1,b2,b3,b4⟩:=b
  simp only[cO,IV.agg.injEq,bM,IV.int.injEq,IV.str.injEq,and_true]at c
  obtain⟨rfl,rfl,rfl,rfl⟩:=c
  rw[Avr d]
theorem Zm {p q:List Stp}(hp:C3 p=true)(c:C3 q=true)(h:Ck p=Ck q):p=q:=by
 have a:=Wq p hp
 have b:=Wq q c
 rw[h,b]at a
 simp only[Option.some.injEq,bM,IV.list.injEq,and_true]at a
 exact(Avr a).symm
theorem Aer (s:Sch)(cf lv:Val){p:List Stp}(hp:C3 p=true)(a: ∀x∈p,x.k≠2):Aaw s cf lv (Ck p)=Afy s cf lv p:=by
 have h:Pf (Ck p):=⟨p,rfl,hp,a⟩
 unfold Aaw
 rw[dif_pos h,Zm h.choose_spec.2.1 hp h.choose_spec.1]
theorem A01 (v:Val){p:List Stp}(hp:C3 p=true)(a: ∀x∈p,x.k≠2):atB v (Ck p)=(Gf v p).getD Au:=by
 have h:Pf (Ck p):=⟨p,rfl,hp,a⟩
 unfold atB
 rw[dif_pos h,Zm h.choose_spec.2.1 hp h.choose_spec.1]
theorem Ahb {s:Sch}{cf lv:Val}{p:List Stp}(h:Gf cf p=Gf lv p)(a:(Gf lv p).isSome =true):Afy s cf lv p=true:=by
 unfold Afy
 rw[h,a];simp
theorem Aty {s:Sch}{cf lv:Val}{p:List Stp}(a:Gf lv p=none):Afy s cf lv p=false:=by
 unfold Afy
 rw[a];rfl
theorem Avz {s:Sch}{cf lv a b:Val}{p:List Stp}(c:Gf cf p=some a)(d:Gf lv p=some b)(g:a.n≠b.n)(h:emS ((atV s p).getD Bh) a=false):Afy s cf lv p=false:=by
 have: ¬ a=b:=λe=>g (by rw[e])
 unfold Afy
 rw[c,d]
 simp[this,h]
def A64:Sch:=⟨2,0,9,[],Am,[],[]⟩
def exS:Sch:=⟨5,0,0,[],Am,[],[⟨⟨#[97]⟩,false,false,[],A64⟩,⟨⟨#[98]⟩,false,false,[],A64⟩,⟨⟨#[99]⟩,false,false,[],A64⟩]⟩
def vm (l:List (UInt8 × Int)):Val:=⟨5,0,Am,[],l.map λp=>(⟨#[p.1]⟩,⟨2,p.2,Am,[],[]⟩)⟩
def exM:List Mgr:= [⟨⟨#[109]⟩,[⟨#[97]⟩,⟨#[98]⟩]⟩]
def stF (c:UInt8):List Stp:= [Cd ⟨#[c]⟩]
theorem Auh (c:UInt8): ∀x∈stF c,x.k≠2:=by
 intro x a
 rw[aP.1 a]
 show(1:Int)≠2
 decide
theorem Ans (cf lv:Val)(c:UInt8)(a:C3 (stF c)=true)(b:Bool)(h:Afy exS cf lv (stF c)=b):Aaw exS cf lv (Ck (stF c))=b:=by
 rw[Aer exS cf lv a (Auh c),h]
theorem ex_1:Aa6 exS (vm [(97,1),(98,2)]) exM ⟨#[110]⟩ (vm [(97,1),(99,3)]) false=⟨vm [(97,1),(98,2),(99,3)],[⟨⟨#[109]⟩,[⟨#[97]⟩,⟨#[98]⟩]⟩,⟨⟨#[110]⟩,[⟨#[97]⟩,⟨#[99]⟩]⟩],[],0⟩:=by
 have ok:okB exS (vm [(97,1),(98,2)]) (vm [(97,1),(99,3)]) exM ⟨#[110]⟩=true:=by kernel_rfl
 have e1:aK (vm [(97,1),(98,2)]) exS=vm [(97,1),(98,2)]:=by kernel_rfl
 have a:aK (vm [(97,1),(99,3)]) exS=vm [(97,1),(99,3)]:=by kernel_rfl
 have el:Ai exS (vm [(97,1),(99,3)])= [Ck (stF 97),Ck (stF 99)]:=by kernel_rfl
 have b:=Ans (vm [(97,1),(99,3)]) (vm [(97,1),(98,2)]) 97 (by kernel_rfl) true (Ahb (by kernel_rfl) (by kernel_rfl))
 have c:=Ans (vm [(97,1),(99,3)]) (vm [(97,1),(98,2)]) 99 (by kernel_rfl) false (Aty (by kernel_rfl))
 have ec:Aax exS (vm [(97,1),(98,2)]) (vm [(97,1),(99,3)]) exM ⟨#[110]⟩= []:=by
  unfold Aax Sl
  rw[el,aT,aT,b,c]
  show _=_
  kernel_rfl
 unfold Aa6 A0c Aqm
 rw[if_pos ok,e1,a,ec]
 show _=_
 kernel_rfl
theorem A7h:Aax exS (vm [(97,1),(98,2)]) (vm [(97,5)]) exM ⟨#[110]⟩= [⟨⟨#[97]⟩,⟨#[109]⟩⟩]:=by
 have el:Ai exS (vm [(97,5)])= [Ck (stF 97)]:=by kernel_rfl
 have c:=Ans (vm [(97,5)]) (vm [(97,1),(98,2)]) 97 (by kernel_rfl) false (Avz (a:=⟨2,5,Am,[],[]⟩) (b:=⟨2,1,Am,[],[]⟩) (by kernel_rfl) (by kernel_rfl) (by decide) (by kernel_rfl))
 unfold Aax Sl
 rw[el,aT,c]
 show _=_
 kernel_rfl
theorem ex_2 (force:Bool):Aa6 exS (vm [(97,1),(98,2)]) exM ⟨#[110]⟩ (vm [(97,5)]) force=if force then⟨vm [(97,5),(98,2)],[⟨⟨#[109]⟩,[⟨#[98]⟩]⟩,⟨⟨#[110]⟩,[⟨#[97]⟩]⟩],[],0⟩else⟨Au,[],[⟨⟨#[97]⟩,⟨#[109]⟩⟩],9⟩:=by
 have ok:okB exS (vm [(97,1),(98,2)]) (vm [(97,5)]) exM ⟨#[110]⟩=true:=by kernel_rfl
 have e1:aK (vm [(97,1),(98,2)]) exS=vm [(97,1),(98,2)]:=by kernel_rfl
 have a:aK (vm [(97,5)]) exS=vm [(97,5)]:=by kernel_rfl
 unfold Aa6 A0c Aqm
 rw[if_pos ok,e1,a,A7h]
 cases force
 ·show _=_
  kernel_rfl
 ·show _=_
  kernel_rfl
theorem ex_3:Aa6 exS (vm [(97,1),(98,2)]) exM ⟨#[109]⟩ (vm [(97,1)]) false=⟨vm [(97,1)],[⟨⟨#[109]⟩,[⟨#[97]⟩]⟩],[],0⟩:=by
 have ok:okB exS (vm [(97,1),(98,2)]) (vm [(97,1)]) exM ⟨#[109]⟩=true:=by kernel_rfl
 have e1:aK (vm [(97,1),(98,2)]) exS=vm [(97,1),(98,2)]:=by kernel_rfl
 have a:aK (vm [(97,1)]) exS=vm [(97,1)]:=by kernel_rfl
 have el:Ai exS (vm [(97,1)])= [Ck (stF 97)]:=by kernel_rfl
 have b:=Ans (vm [(97,1)]) (vm [(97,1),(98,2)]) 97 (by kernel_rfl) true (Ahb (by kernel_rfl) (by kernel_rfl))
 have ec:Aax exS (vm [(97,1),(98,2)]) (vm [(97,1)]) exM ⟨#[109]⟩= []:=by
  unfold Aax Sl
  rw[el,aT,b]
  show _=_
  kernel_rfl
 unfold Aa6 A0c Aqm
 rw[if_pos ok,e1,a,ec]
 show _=_
 kernel_rfl
theorem ex_4:A65 exS (vm [(97,1),(98,2)]) (vm [(97,1),(98,4)]) exM ⟨#[110]⟩= [⟨⟨#[109]⟩,[⟨#[97]⟩]⟩,⟨⟨#[110]⟩,[⟨#[98]⟩]⟩]:=by
 have ok:okB exS (vm [(97,1),(98,2)]) (vm [(97,1),(98,4)]) exM ⟨#[110]⟩=true:=by kernel_rfl
 have e1:aK (vm [(97,1),(98,2)]) exS=vm [(97,1),(98,2)]:=by kernel_rfl
 have d:aK (vm [(97,1),(98,4)]) exS=vm [(97,1),(98,4)]:=by kernel_rfl
 have el:Ai exS (vm [(97,1),(98,4)])= [Ck (stF 97),Ck (stF 98)]:=by kernel_rfl
 have el2:Ai exS (vm [(97,1),(98,2)])= [Ck (stF 97),Ck (stF 98)]:=by kernel_rfl
 have g:=fun(v:Val)=>A01 v (p:=stF 97) (by kernel_rfl) (Auh 97)
 have c:=fun(v:Val)=>A01 v (p:=stF 98) (by kernel_rfl) (Auh 98)
 have h:A2u exS (vm [(97,1),(98,2)]) (vm [(97,1),(98,4)]) (Ck (stF 97))=false:=by
  have a:(Gf (vm [(97,1),(98,2)]) (stF 97)).getD Au=(Gf (vm [(97,1),(98,4)]) (stF 97)).getD Au:=by kernel_rfl
  have b:inB [Ck (stF 97),Ck (stF 98)] (Ck (stF 97))=true:=by kernel_rfl
  unfold A2u
  rw[el2,g,g,a,b];simp
 have i:A2u exS (vm [(97,1),(98,2)]) (vm [(97,1),(98,4)]) (Ck (stF 98))=true:=by
  have a:((Gf (vm [(97,1),(98,2)]) (stF 98)).getD Au).n =2:=by kernel_rfl
  have b:((Gf (vm [(97,1),(98,4)]) (stF 98)).getD Au).n =4:=by kernel_rfl
  have j: ¬ (Gf (vm [(97,1),(98,2)]) (stF 98)).getD Au=(Gf (vm [(97,1),(98,4)]) (stF 98)).getD Au:=λe=>by
   rw[e,b]at a
   exact absurd a (by decide)
  unfold A2u
  rw[c,c]
  simp[j]
 have ec:Asi exS (vm [(97,1),(98,2)]) (vm [(97,1),(98,4)])= [Ck (stF 98)]:=by
  unfold Asi
  rw[el,cC,cC,h,i]
  rfl
 unfold A65 A72
 rw[if_pos ok,e1,d,ec]
 show _=_
 kernel_rfl
end Go.CT.Sch
namespace Go.CT.Sch
open Go.Proofs
def Ae3 (l:List (UInt8 × Int)):List IV:= [.int 5,.int 0,.str ⟨#[]⟩,.list [],.list (l.map λp=> .agg [.str ⟨#[p.1]⟩,.int 2,.int p.2,.str ⟨#[]⟩,.list [],.list []])]
theorem abcs:W 45 0 [.int 1,.int 2,.int 0]=some (Ae3 [(97,1),(98,2)])/\W 45 0 [.int 1,.int 0,.int 3]=some (Ae3 [(97,1),(99,3)])/\W 45 0 [.int 5,.int 0,.int 0]=some (Ae3 [(97,5)])/\
  W 45 0 [.int 1,.int 0,.int 0]=some (Ae3 [(97,1)])/\W 45 0 [.int 1,.int 4,.int 0]=some (Ae3 [(97,1),(98,4)])/\W 45 0 [.int 1,.int 2,.int 3]=some (Ae3 [(97,1),(98,2),(99,3)])/\W 45 0 [.int 5,.int 2,.int 0]=some (Ae3 [(97,5),(98,2)]):=
 ⟨Amq 100 (by kernel_rfl),Amq 100 (by kernel_rfl),Amq 100 (by kernel_rfl),Amq 100 (by kernel_rfl),Amq 100 (by kernel_rfl),Amq 100 (by kernel_rfl),Amq 100 (by kernel_rfl)⟩
theorem A3i (l:List (UInt8 × Int)):IV.agg (Ae3 l)=(vm l).enc :=by
 have:=Val.fold 5 0 Am [] (l.map λp=>(⟨#[p.1]⟩,⟨2,p.2,Am,[],[]⟩))
 unfold vm
 rw[<-this,List.map_map]
 rfl
theorem A6a:W 44 0 []=some A64.Gg:=by rw[A5.k];rfl
theorem A8l:W 43 0 []=some [.int 5,.int 0,.int 0,.list [],.str ⟨#[]⟩,.list [],.list (exS.f.map SFld.enc)]:=by
 rw[A5.j]
 simp only[A6a,Sch.Gg,Ya,O.Az,O.Bb,aA]
 rfl
theorem Axf (a b:List (UInt8 × Int))(h:(vm a).Ap +(vm b).Ap <=1000):Sz exS (vm a) (vm b) exM:=by
 have c:exS.Ap<=1048576:=of_decide_eq_true (by kernel_rfl)
 have d:Pv exM=2:=rfl
 exact⟨c,by omega,by decide⟩
theorem eq_self (v:Val)(h:v.Ap<=1048576):W 213 0 [v.enc,v.enc]=some [.bool true]:=by
 rw[Ag6 v v (by omega) (by omega)];simp
theorem Aw2:W 42 0 []=some [.bool true]:=by
 obtain⟨g,a2,a3,a4,a5,h,i⟩:=abcs
 have e1:=Sy exS (vm [(97,1),(98,2)]) exM ⟨#[110]⟩ (vm [(97,1),(99,3)]) false (Axf _ _ (of_decide_eq_true (by kernel_rfl)))
 have a:=Sy exS (vm [(97,1),(98,2)]) exM ⟨#[110]⟩ (vm [(97,5)]) false (Axf _ _ (of_decide_eq_true (by kernel_rfl)))
 have b:=Sy exS (vm [(97,1),(98,2)]) exM ⟨#[110]⟩ (vm [(97,5)]) true (Axf _ _ (of_decide_eq_true (by kernel_rfl)))
 have c:=Sy exS (vm [(97,1),(98,2)]) exM ⟨#[109]⟩ (vm [(97,1)]) false (Axf _ _ (of_decide_eq_true (by kernel_rfl)))
 have e5:=Atq exS (vm [(97,1),(98,2)]) (vm [(97,1),(98,4)]) exM ⟨#[110]⟩ (Axf _ _ (of_decide_eq_true (by kernel_rfl)))
 rw[ex_1]at e1
 rw[ex_2]at a b
 rw[ex_3]at c
 rw[ex_4]at e5
 have j:=eq_self (vm [(97,1),(98,2),(99,3)]) (of_decide_eq_true (by kernel_rfl))
 have m:=eq_self (vm [(97,5),(98,2)]) (of_decide_eq_true (by kernel_rfl))
 have o:=eq_self (vm [(97,1)]) (of_decide_eq_true (by kernel_rfl))
 have q:=A47 [⟨⟨#[109]⟩,[⟨#[97]⟩]⟩,⟨⟨#[110]⟩,[⟨#[98]⟩]⟩] (by decide) (by simp)
 have r:=Amv [⟨⟨#[109]⟩,[⟨#[97]⟩,⟨#[98]⟩]⟩,⟨⟨#[110]⟩,[⟨#[97]⟩,⟨#[99]⟩]⟩] ⟨#[97]⟩ (by decide) (by simp)
 have t:IV.agg [.int 5,.int 0,.int 0,.list [],.str ⟨#[]⟩,.list [],.list (exS.f.map SFld.enc)]=exS.enc:=by rw[Sch.E0,Sch.Bm];rfl
 have u:IV.list [.agg [.str ⟨#[109]⟩,.list [.str ⟨#[97]⟩,.str ⟨#[98]⟩]]]= .list (exM.map aD):=rfl
 have w: ∀l,IV.agg [.int 5,.int 0,.str ⟨#[]⟩,.list [],.list (l.map λp:UInt8 × Int=> .agg [.str ⟨#[p.1]⟩,.int 2,.int p.2,.str ⟨#[]⟩,.list [],.list []])]=(vm l).enc :=A3i
 simp only[Ae3]at g a2 a3 a4 a5 h i
 simp only[cK,Zt,aB,Zf]at e1 a b c
 rw[A5.i]
 simp only[O.Bb,O.Az,aA,u,A8l,Ya,g,a2,a3,a4,a5,h,i,O.D1,t,w,e1,a,b,c,e5,O.Um,bP]
 have d:W 212 0 [.list ([⟨⟨#[109]⟩,[⟨#[97]⟩,⟨#[98]⟩]⟩,⟨⟨#[110]⟩,[⟨#[97]⟩,⟨#[99]⟩]⟩].map aD),.str ⟨#[97]⟩]=some [.list [.str ⟨#[109]⟩,.str ⟨#[110]⟩]]:=r
 have e:W 216 0 [.list ([⟨⟨#[109]⟩,[⟨#[97]⟩]⟩,⟨⟨#[110]⟩,[⟨#[98]⟩]⟩].map aD),.list [.agg [.str ⟨#[109]⟩,.list [.str ⟨#[97]⟩]],.agg [.str ⟨#[110]⟩,.list [.str ⟨#[98]⟩]]]]=some [.bool true]:=q
 simp only[j,m,o,e,d,bP,aA]
 show _=_
 kernel_rfl
end Go.CT.Sch
namespace Go.CT.Sch
open Go.Proofs
theorem Ap0 (nm:ByteArray)(a:List ByteArray): ∀ (l:List Mgr) (d:Bool),∀x∈I6 nm a d l,x=⟨nm,a⟩\/x∈l
 | [],d,x,h=>by
  rw[I6]at h
  split at h
  ·simp at h
  ·exact .inl (by simpa using h)
 | m::l,d,x,h=>by
  rw[I6]at h
  rcases bB.1 h with h | h
  ·rcases bB.1 h with h | h
   ·split at h
    ·exact .inl (by simpa using h)
    ·simp at h
   ·split at h
    ·exact .inr (by rw[aP.1 h];simp)
    ·simp at h
  ·rcases Ap0 nm a l _ x h with h | h
   ·exact .inl h
   ·exact .inr (by simp[h])
structure A44 (r:Am9):Prop where
 v:r.v.Ap<=1048576
 l:r.l.length<=1048576/\ ∀m∈r.l,m.paths.length<=1048576
 c:r.c.length<=1048576
theorem Avi (s:Sch)(live:Val)(m:List Mgr)(nm:ByteArray)(config:Val)(force:Bool)(c:Sz s live config m):A44 (Aa6 s live m nm config force):=by
 have j:=c.hab
 have z:=c.hm
 have d:=c.hp
 have a:Au.Ap<=1048576:=by decide+kernel
 unfold Aa6
 split
 ·rename_i b
  unfold okB at b
  simp only[aC]at b
  obtain⟨⟨⟨o,q⟩,A⟩,f4⟩:=b
  have r:=N6 o
  have t:=N6 q
  have B:=Hq live s
  have C:=Hq config s
  have e:=Ajh (m:=m) (nm:=nm) r t (by omega)
  have i:=Iv s (aK config s)
  have g:=Ann (Aaw s (aK config s) (aK live s)) m nm (Ai s (aK config s)) (X3 s _)
  unfold A0c
  split
  ·exact⟨a,⟨aO _,by simp⟩,by unfold Aax;exact cJ g d⟩
  ·split
   ·exact⟨a,⟨aO _,by simp⟩,aO _⟩
   ·rename_i u
    split
    ·refine⟨e,⟨by show(Aqm _ _ _ _ _).length <=_;omega,λx h=>?_⟩,aO _⟩
     rcases Ap0 _ _ _ _ x h with rfl | h
     ·show(Ai _ _).length <=_;omega
     ·obtain⟨y,w,rfl⟩:=aU.1 h
      have F:=My y.paths (Uk (Aax s (aK live s) (aK config s) m nm) y.name)
      have G:=Px w
      show(G6 _ _).length <=_;omega
    ·exact⟨a,⟨aO _,by simp⟩,aO _⟩
 ·exact⟨a,⟨aO _,by simp⟩,aO _⟩
end Go.CT.Sch
namespace Go.CT.Sch
open Go.Proofs
theorem Ahg: ∀m:List Mgr,3 * m.length+Pv m<=IV.Dm (m.map aD)
 | []=>aL _
 | x::m=>by
  have b:=Ahg m
  have a:=D9 (x.paths.map IV.str)
  rw[aQ]at a
  simp only[bG,IV.Dm,aD,IV.bulk,Pv,List.length_cons]
  omega
theorem A73 {s:Sch}{a b:Val}{m:List Mgr}(h:s.Ap+a.Ap+b.Ap+IV.Dm (m.map aD)<=1048576):Sz s a b m/\m.length<=500000:=by
 have:=Ahg m
 exact⟨⟨by omega,by omega,by omega⟩,by omega⟩
end Go.CT.Sch
namespace Go.CT.Sch
open Go.Proofs
theorem A0p (l:List ByteArray)(x:ByteArray)(d:l.length<=1048576): ∀ (n i:Nat),i+n=l.length->W 244 1 [SL l,.str x,.int (i:Nat)]=some [.bool (inB (l.drop i) x)]
 | 0,i,h=>by
  have:i=l.length:=by omega
  subst this
  have a:cH (SL l)=some (.int l.length):=Gi IV.str l
  rw[A26.e,cB,a]
  simp only[ltn,aA,bA,aB,Zf]
  rfl
 | n+1,i,h=>by
  have b:i<l.length:=by omega
  have g:=A0p l x d n (i+1) (by omega)
  have a:cH (SL l)=some (.int l.length):=Gi IV.str l
  have j:O.index (SL l) (.int (i:Nat))=some (.str l[i]):=I9 IV.str b
  rw[A26.e,bE b,a]
  simp only[lti b,aA,bA,Zt,j,O.C4,nxt (show i<4611686018427387904 by omega),g]
  unfold inB
  rw[List.any_cons]
  by_cases c:l[i]=x
  ·simp[c]
  ·have c': ¬ x=l[i]:=λe=>c e.symm
   simp[c,c']
theorem A68 (l:List ByteArray)(x:ByteArray)(a:l.length<=1048576):W 244 0 [SL l,.str x]=some [.bool (inB l x)]:=by
 rw[A26.d];exact A0p l x a l.length 0 (by omega)
theorem Atf {v w:Val}{q:List Stp}(a:v.valid=true)(b:Gf v q=some w)(h: ∀x∈q,C6 x=true/\x.k≠2):C3 q=true:=by
 have:=Wp q 12 v w ((Ew v).1 a).1 b
 unfold C3
 simp only[aC,aG,decide_eq_true_eq]
 exact⟨λx c=>(h x c).1,by omega⟩
theorem Aet {s:Sch}{v:Val}{t:ByteArray}(a:t∈Ai s v):t∈lv v.size (some s) v []:=by
 have a:=(aM.1 a).1
 unfold Hk at a
 split at a
 ·exact Nk.1 a
 ·simp at a
theorem A5w {s:Sch}{cf:Val}{o:Option Val}(h:PV s cf)(b:Was s o)(m:Nat){t:ByteArray}(c:t∈Ai s cf):Aaw s cf (mg m s cf o) t=true:=by
 obtain⟨q,w,u,d,a2,a3,a4,a5⟩:=Auv cf.size s cf [] t (aL _) h.sv h.vv h.fit (Aet c)
 have hp:=Atf h.vv a2 a3
 obtain⟨w',b1,b2⟩:=a5 m o b
 have a:atV s q=some u:=by unfold atV;rw[h.sv,hp];exact a4
 rw[d,aW,Aer s cf _ hp λx e=>(a3 x e).2]
 unfold Afy
 rw[b1,a2,a]
 simp only[Option.isSome_some,bJ,Bool.true_and,Bool.or_eq_true,decide_eq_true_eq]
 exact b2
theorem W4 {s:Sch}{lv:Val}(gone:List ByteArray)(h:PV s lv):Was s (some (Ub s lv gone)):=λv a=>by
 cases a
 exact⟨Adb gone false h.vv,(Ag7 gone false h.sv h.vv h.fit h.k5).1⟩
theorem An3 (nm:ByteArray)(a:List ByteArray): ∀l:List Mgr,(⟨nm,a⟩:Mgr)∈I6 nm a false l
 | []=>by simp[I6]
 | m::l=>by
  rw[I6]
  cases h:blt m.name nm with
  | false=>simp
  | true=>
   have:=An3 nm a l
   simp only[aH,Bool.and_false,Bool.or_false]
   exact bO _ this
theorem Abd {p x:ByteArray}{l:List Mgr} :inB (Ig p l) x=true↔ ∃m∈l,p∈m.paths/\m.name=x:=by
 unfold Ig
 rw[Hg,aU]
 constructor
 ·rintro⟨m,c,e⟩
  obtain⟨a,b⟩:=aM.1 c
  exact⟨m,a,Hg.1 b,e⟩
 ·rintro⟨m,a,b,e⟩
  exact⟨m,aM.2 ⟨a,Hg.2 b⟩,e⟩
theorem Uo {a b:List ByteArray}{x:ByteArray} :x∈G6 a b↔x∈a/\x∉b:=by
 unfold G6
 rw[aM,Nk,<-Hg (l:=b)]
 simp
structure ConfOk (s:Sch)(cf:Val)(m:List Mgr)(nm:ByteArray)(r1 r2:Am9):Prop where
 e9:(decide (r1.e=9) !=decide (0<r1.c.length))=false
 c0:r2.c= []
 n9:r2.e≠9
 ok:r1.e=0->r2.e=0
 cs: ∀c∈r1.c,c.mgr≠nm/\inB (Ig c.path m) c.mgr=true/\Pf c.path/\(r2.e=0->inB (Ig c.path r2.l) c.mgr=false/\inB (Ig c.path r2.l) nm=true/\Aaw s cf r2.v c.path=true)
theorem Adf (p:ByteArray)(m:List Mgr):(Ig p m).length <=m.length:=by unfold Ig;rw[aQ];exact bN _ _
end Go.CT.Sch
namespace Go.CT.Sch
open Go.Proofs
structure Lf (s:Sch)(v:Val)(q:List Stp)(w:Val)(u:Sch):Prop where
 g:Gf v q=some w
 ok: ∀x∈q,C6 x=true/\x.k≠2
 at_:atS s q=some u
 l:kids (some u) w= []
theorem A3e: ∀ (N:Nat) (s:Sch) (v:Val) (p:List Stp) (t:ByteArray),v.size<=N->s.valid=true->v.valid=true->Fit s v->t∈lv N (some s) v p-> ∃q w u,t=Ck (p++q)/\Lf s v q w u
 | 0,s,v,p,t,h,_,_,_,_=>by have:=v.size_pos;omega
 | N+1,s,v,p,t,h,I,o,J,j=>by
  rw[lv]at j
  by_cases c:kids (some s) v= []
  ·rw[if_pos c,aP]at j
   exact⟨[],v,s,by grind,rfl,by simp,rfl,c⟩
  ·rw[if_neg c]at j
   obtain⟨x,r,j⟩:=aJ.1 j
   obtain⟨A,_⟩:=J3 r
   obtain⟨s',e,S,Q⟩:=Hs c
   cases e
   rcases Q with⟨T,K⟩ | ⟨R,B,C,K⟩
   ·rw[K]at r
    obtain⟨y,a,rfl⟩:=aU.1 r
    obtain⟨u',d⟩:=bH.1 (J.known y a)
    have b:t∈lv N (Du s y.1) y.2 (p++ [Cd y.1]):=j
    rw[d]at b
    have L:y.2.size<v.size:=A
    obtain⟨q,w,u,e1,i⟩:=A3e N u' y.2 _ t (by omega) (cM I d) (D3 o a).1 (J.fld y a u' d) b
    rw[aS,aE]at e1
    refine⟨Cd y.1::q,w,u,e1,by rw[Oc (get_of_mem o a)];exact i.g,?_,by rw[Avt (by omega) d];exact i.at_,i.l⟩
    intro z m
    rcases bI.1 m with rfl | m
    ·exact⟨Vl o a,show(1:Int)≠2 by decide⟩
    ·exact i.ok z m
   ·have F:Dw s=true:=Br.2 ⟨by omega,B⟩
    rw[K]at r
    obtain⟨y,a,rfl⟩:=aU.1 r
    obtain⟨M,G⟩:=aZ.1 ((Sch.Ex I).list (Br.1 F).1)
    have H:M∈s.it:=by grind
    have b:t∈lv N s.it.head? y (p++ [Uc s.key y]):=j
    rw[G,List.head?_cons]at b
    have L:y.size<v.size:=A
    obtain⟨q,w,u,e1,i⟩:=A3e N M y _ t (by omega) (cN I H) (Cy o a) (J.el y a M H) b
    rw[aS,aE]at e1
    refine⟨Uc s.key y::q,w,u,e1,by rw[Qx R (Uf C y a)];exact i.g,?_,by rw[Auo F G];exact i.at_,i.l⟩
    intro z m
    rcases bI.1 m with rfl | m
    ·exact⟨Vh (Cy o a) (B9 C y a),show(3:Int)≠2 by decide⟩
    ·exact i.ok z m
theorem Ac4 {s t:Sch}{v y:Val}{a:Stp}(i:Fit s v)(w:C6 a=true/\a.k≠2)(d:Kj v a=some y)(b:Pt s a=some t):
  (v.k=5/\s.k=5/\a=Cd a.nm/\v.get a.nm=some y/\Du s a.nm=some t)\/(v.k=4/\Dw s=true/\a=Uc s.key y/\y∈v.l/\Lw s v.l (Cw y s.key)=some y/\s.it.head?=some t):=by
 obtain⟨c,q⟩:=w
 unfold C6 at c
 unfold Kj at d
 unfold Pt at b
 by_cases k1:a.k=1
 ·rw[if_pos k1]at c d b
  have x:=Co d
  have z:=i.kind
  rw[if_pos (by omega)]at b
  simp only[aC,decide_eq_true_eq]at c
  left
  refine⟨x.2,by omega,?_,d,b⟩
  cases a
  simp only at k1 c
  obtain⟨⟨_,e1⟩,A⟩:=c
  unfold Cd
  grind
 ·rw[if_neg k1]at c d b
  by_cases v4:v.k=4
  ·rw[if_pos v4,if_neg q]at d
   have z:=i.kind
   rw[if_pos (by omega)]at b
   split at b
   ·rename_i r
    rcases r with r | ⟨u,j,e⟩
    ·omega
    ·rw[if_neg q,if_pos u]at c
     simp only[aC,decide_eq_true_eq]at c
     have g:Dw s=true:=Br.2 ⟨by omega,j⟩
     have m:=B9 (i.keyed g)
     have h:=aV d
     have o:=List.find?_some d
     rw[<-e,S2 (m y h)]at o
     have o:Cw y s.key=a.vl:=by grind
     right
     refine⟨v4,g,?_,h,Jw g i h,b⟩
     cases a
     simp only at u c e o
     unfold Uc
     grind
   ·cases b
  grind
theorem Am4 {s:Sch}{v:Val}(d:Fit s v)(h:(v.k=5/\v.f≠ [])\/(Dw s=true/\v.l≠ [])):(v.k=5/\kids (some s) v=v.f.map (Dq s)/\kids (some s) v≠ [])\/(v.k=4/\kids (some s) v=v.l.map (Cp s)/\kids (some s) v≠ []):=by
 have g:=d.kind
 rcases h with⟨i,c⟩ | ⟨a,c⟩
 ·left
  have e:kids (some s) v=v.f.map (Dq s):=by rw[kids,if_pos g.symm,if_pos i];rfl
  simp_all
 ·right
  obtain⟨j,b⟩:=Br.1 a
  have e:kids (some s) v=v.l.map (Cp s):=by rw[kids,if_pos g.symm,if_neg (by omega),if_pos ⟨by omega,b,d.keyed a⟩];rfl
  simp_all
theorem Ao4 {s:Sch}{a:Stp}{q:List Stp}{u:Sch}(h:atS s (a::q)=some u): ∃t,Pt s a=some t/\atS t q=some u:=by
 simp only[atS,bK]at h;exact h
theorem Agr {v:Val}{a:Stp}{q:List Stp}{w:Val}(h:Gf v (a::q)=some w): ∃y,Kj v a=some y/\Gf y q=some w:=by
 simp only[Gf,bK]at h;exact h
theorem Amm: ∀ (q:List Stp) (s:Sch) (v w:Val) (u:Sch) (p:List Stp) (N:Nat),v.size<=N->Fit s v->Lf s v q w u->Ck (p++q)∈lv N (some s) v p
 | [],s,v,w,u,p,N,C,c,h=>by
  have e1:v=w:=bC h.g
  have F:s=u:=bC h.at_
  have A:=h.l
  rw[<-e1,<-F]at A
  have:=v.size_pos
  cases N with
  | zero=>omega
  | succ N=>rw[lv,if_pos A,bL];simp
 | a::q,s,v,w,u,p,N,C,c,h=>by
  obtain⟨y,G,B⟩:=Agr h.g
  obtain⟨t,H,t2⟩:=Ao4 h.at_
  have d: ∀x∈q,C6 x=true/\x.k≠2:=λx I=>h.ok x (by simp[I])
  have:=v.size_pos
  cases N with
  | zero=>omega
  | succ N=>
   rw[lv]
   rcases Ac4 c (h.ok a (by simp)) G H with⟨v5,L,J,K,m⟩ | ⟨v4,o,J,i,_,m⟩
   ·have j:=(Co K).1
    rcases Am4 c (.inl ⟨v5,bV j⟩) with⟨_,e,b⟩ | ⟨M,_⟩
    ·rw[if_neg b,e]
     refine aJ.2 ⟨Dq s (a.nm,y),bR j,?_⟩
     have r:y.size<v.size:=Val.Rg j
     have z:=Amm q t y w u (p++ [a]) N (by omega) (c.fld _ j t m) ⟨B,d,t2,h.l⟩
     rw[aS,aE]at z
     show Ck (p++a::q)∈lv N (Du s a.nm) y (p++ [Cd a.nm])
     grind
    ·omega
   ·rcases Am4 c (.inr ⟨o,bV i⟩) with⟨Q,_⟩ | ⟨_,e,b⟩
    ·omega
    ·rw[if_neg b,e]
     refine aJ.2 ⟨Cp s y,bR i,?_⟩
     have r:y.size<v.size:=Val.Rh i
     have z:=Amm q t y w u (p++ [a]) N (by omega) (c.el y i t (bZ m)) ⟨B,d,t2,h.l⟩
     rw[aS,aE]at z
     show Ck (p++a::q)∈lv N s.it.head? y (p++ [Uc s.key y])
     grind
theorem Asl: ∀ (q:List Stp) (s:Sch) (v w:Val) (u:Sch) (m:Nat) (c:Val),s.valid=true->Q4 v->Fit s v->Lf s v q w u->c.size<=m->c.valid=true->Fit s c->
   (∀a,Gf c q=some a->kids (some u) a= []->a=w\/emS u a=true)-> ∃w',Gf (mg m s c (some v)) q=some w'/\(w=w'\/emS u w=true)
 | [],s,v,w,u,m,c,T,U,A,h,hm,I,b,H=>by
  have e1:v=w:=bC h.g
  have e2:s=u:=bC h.at_
  have X:=h.l
  subst e1 e2
  refine⟨_,rfl,?_⟩
  have ad:=A.kind
  cases J:emS s v with
  | true=>grind
  | false=>
   left
   have Y: ¬ emS s v=true:=by simp[J]
   rw[Kv]at Y
   obtain⟨f5,f4⟩:=Ano A X
   have Z:=b.kind
   have kc:kids (some s) c= []:=by
    apply Classical.byContradiction
    intro aa
    obtain⟨s',e,h1,h2⟩:=Hs aa
    cases e
    rcases h2 with⟨k5,_⟩ | ⟨k4,K,_,_⟩
    ·grind
    ·have d:Dw s=true:=Br.2 ⟨by omega,K⟩
     grind
   cases L:emS s c with
   | false=>
    rw[Alk b kc L]
    rcases H c rfl kc with h | h
    ·exact h.symm
    grind
   | true=>
    have:=c.size_pos
    cases m with
    | zero=>omega
    | succ m=>rw[mg,L];rfl
 | a::q,s,v,w,u,m,c,T,U,A,h,hm,I,b,H=>by
  obtain⟨y,g1,g2⟩:=Agr h.g
  obtain⟨t,t1,t2⟩:=Ao4 h.at_
  have M: ∀x∈q,C6 x=true/\x.k≠2:=λx hx=>h.ok x (by simp[hx])
  have:=c.size_pos
  by_cases J:emS s c=true
  ·refine⟨w,?_,.inl rfl⟩
   cases m with
   | zero=>omega
   | succ m=>rw[mg,J];exact h.g
  ·have Z:=b.kind
   cases m with
   | zero=>omega
   | succ m=>
    rcases Ac4 A (h.ok a (by simp)) g1 t1 with⟨v5,s5,ha,hg,G⟩ | ⟨v4,d,ha,hy,ab,G⟩
    ·have c5:c.k=5:=by omega
     have i:c.f≠ []:=λe=>J (Kv.2 (.inl ⟨c5,e⟩))
     have N:=(Co hg).1
     have j:=Y5 (n:=m) (o:=some v) I b c5 i (λz hz=>by grind) a.nm
     rw[aA,hg,G,bJ]at j
     rw[ha]at H ⊢
     cases r:c.get a.nm with
     | none=>
      rw[r,Option.map_none,Option.none_or]at j
      exact⟨w,by rw[Oc j];exact g2,.inl rfl⟩
     | some e=>
      have B:=(Co r).1
      have ac:e.size<c.size:=Val.Rg B
      rw[r,aX,cI]at j
      rw[Oc j]
      exact Asl q t y w u m e (cM T G) (U.J7 _ N) (A.fld _ N t G) ⟨g2,M,t2,h.l⟩ (by omega) (D3 I B).1 (b.fld _ B t G) λa' C=>H a' (by rw[Oc r];exact C)
    ·have i:c.l≠ []:=λe=>J (Kv.2 (.inr ⟨by have:=(Br.1 d).1;omega,e,d⟩))
     obtain⟨t',F⟩:=Aqy T d I b U A
     have:t'=t:=by rw[F.it]at G;grind
     subst this
     have Q:=An4 (n:=m) F (Cw y s.key)
     rw[ab,aX,cI]at Q
     rw[ha]at H ⊢
     rw[mg4 F i,Qx rfl Q]
     unfold mgE
     cases R:Lw s c.l (Cw y s.key) with
     | none=>grind
     | some e=>
      obtain⟨c1,c2⟩:=P8 R
      have ac:e.size<c.size:=Val.Rh c1
      rw[aX,bJ]
      refine Asl q t' y w u m e (cN T F.mem) (U.Kk y hy) (A.el y hy t' F.mem) ⟨g2,M,t2,h.l⟩ (by omega) (Cy I c1) (b.el e c1 _ F.mem) λa' C=>H a' ?_
      have S:c.l.find? (hasB s.key (Cw y s.key))=some e:=by
       rw[<-R]
       exact Jn λx hx=>S2 (F.kc x hx) _
      rw[Qx (by have:=(Br.1 d).1;omega) S];exact C
end Go.CT.Sch
namespace Go.CT.Sch
open Go.Proofs
theorem Asp {s:Sch}(h:s.valid=true):s.k≠0:=by
 intro e
 unfold Sch.valid at h
 rw[Cl]at h
 grind
theorem Ai6 {α:Type}{g:α->List α} : ∀ {l:List α},(∀p∈l,g p= [p])->l.flatMap g=l
 | [],_=>rfl
 | p::l,h=>by rw[aT,h p (by simp),Ai6 λq a=>h q (by simp[a])];rfl
theorem Ahs: ∀ (v:Val) (s:Sch),s.valid=true->v.valid=true->Fit s v->aK v s=v:=by
 refine Val.ind λv i j s m g h=>?_
 have u:=h.kind
 have b:=Sch.Ex m
 rw[D.Gd,if_pos u]
 by_cases o:v.k=4
 ·obtain⟨t,a⟩:=aZ.1 (b.list (by omega))
  have c:t∈s.it:=by grind
  rw[if_pos o,if_pos (by rw[a];rfl),a,cF]
  have:(v.l.map λx=>aK x t)=v.l:=(bT λx q=>i x q t (cN m c) (Cy g q) (h.el x q t c)).trans (cL _)
  rw[this]
  exact(Aey g o).symm
 ·rw[if_neg o]
  by_cases r:v.k=5
  ·rw[if_pos r]
   have:v.f.flatMap (D.D4 s)=v.f:=Ai6 λp hp=>by
    obtain⟨t,a⟩:=bH.1 (h.known p hp)
    have d:=h.fld p hp t a
    have e:=cM m a
    have:=Asp e
    have w:=d.kind
    unfold D.D4
    rw[if_neg (by omega),D.Vk b,a]
    show[(p.1,aK p.2 t)]= [p]
    rw[j p hp t e (D3 g hp).1 d]
   rw[this]
   exact(Alz g r).symm
  grind
theorem S6 {p:List Stp}{c:Int}(h:c≠7):Ng (Jc p c)=false:=by
 show decide (c=7)=false
 grind
theorem rng7 {p q:List Stp}{s:Sch}{n:Int}(h:(Wh p s n).all Ng=true):(Wh q s n).all Ng=true:=by
 unfold Wh at h ⊢
 split at h
 ·simp[S6 (show(5:Int)≠7 by decide)]at h
 grind
theorem A7v (v:Val)(p:List Stp)(l:List SFld):(l.flatMap (Ke v p)).all Ng=true:=by
 rw[aG]
 intro x a
 obtain⟨d,_,a⟩:=aJ.1 a
 unfold Ke at a
 split at a
 ·rw[aP.1 a];rfl
 grind
theorem Akt: ∀ (v:Val) (s:Sch) (q p:List Stp),s.valid=true->v.valid=true->(Jy v s q).all Ng=true->(Jy (aK v s) s p).all Ng=true:=by
 refine Val.ind λv C F s q p G w h=>?_
 have i:=Sch.Ex G
 have j:=D.Al1 v s
 rw[Ji]at h ⊢
 by_cases m:v.k=s.k
 rotate_left
 ·rw[if_neg m]at h
  simp[S6 (show(6:Int)≠7 by decide)]at h
 rw[if_pos m]at h
 rw[if_pos (j.trans m),j]
 by_cases k2:v.k=2
 ·rw[if_pos k2]at h ⊢
  rw[D.Ms s (by omega) (by omega)]
  exact rng7 h
 rw[if_neg k2]at h ⊢
 by_cases L:v.k=3
 ·rw[if_pos L]at h ⊢
  rw[D.Ms s (by omega) (by omega)]
  split at h
  ·simp[S6 (show(5:Int)≠7 by decide)]at h
  ·rename_i S
   rw[if_neg S]
   split at h
   ·simp[S6 (show(1:Int)≠7 by decide)]at h
   grind
 rw[if_neg L]at h ⊢
 by_cases A:v.k=4
 ·rw[if_pos A]at h ⊢
  obtain⟨t,g⟩:=aZ.1 (i.list (by omega))
  have H:t∈s.it:=by grind
  have T:(aK v s).l =v.l.map λx=>aK x t:=by rw[D.Gd,if_pos m,if_pos A,if_pos (by rw[g];rfl),g];rfl
  rw[aR,aC]at h ⊢
  rw[T,aQ]
  refine⟨rng7 h.1,?_⟩
  rw[g,cF]at h ⊢
  have gen: ∀ (l prev:List Val),(∀x∈l,x∈v.l)->(∀x∈prev,x∈v.l)->(K3 l s.key t q prev).all Ng=true->(K3 (l.map λx=>aK x t) s.key t p (prev.map λx=>aK x t)).all Ng=true:=by
   intro l
   induction l with
   | nil=>intro _ _ _ _;rw[bD,K1];rfl
   | cons x l B=>
    intro prev M hp b
    rw[Hc,aR,aR,aC,aC]at b
    have c:=M x (by simp)
    have i2:=B (prev++ [x]) (λy a=>M y (by simp[a])) (λy a=>by
     grind) b.2
    rw[List.map_append,bG,bD]at i2
    rw[bG,Hc,aR,aR,aC,aC]
    refine⟨⟨C x c t _ _ (cN G H) (Cy w c) b.1.1,?_⟩,i2⟩
    unfold Aop
    split
    rotate_left
    ·rfl
    rename_i hd
    exfalso
    rw[aC,cD]at hd
    obtain⟨I,u,U,d⟩:=hd
    obtain⟨z,N,rfl⟩:=aU.1 U
    obtain⟨X,a2⟩:=D.Ajt (D.K5 (Cy w c)) s.key I
    unfold sameKey at d
    rw[aC,decide_eq_true_eq]at d
    obtain⟨b1,b2⟩:=D.Ajt (D.K5 (Cy w (hp z N))) s.key d.1
    have o:(Ef x s.key&&prev.any (sameKey s.key (Cw x s.key)))=true:=by
     rw[aC,cD]
     refine⟨X,z,N,?_⟩
     unfold sameKey
     grind
    have J:=b.1.2
    unfold Aop at J
    rw[if_pos o]at J
    simp[S6 (show(8:Int)≠7 by decide)]at J
  grind
 rw[if_neg A]at h ⊢
 by_cases Q:v.k=5
 rotate_left
 ·grind
 rw[if_pos Q]at h ⊢
 rw[aR,aC]at h ⊢
 refine⟨?_,A7v _ _ _⟩
 have Y:(aK v s).f =v.f.flatMap (D.D4 s):=by rw[D.Gd,if_pos m,if_neg A,if_pos Q];rfl
 have R:=h.1
 rw[Mu,aG]at R
 rw[Mu,Y,aG]
 intro e b
 obtain⟨y,a,b⟩:=aJ.1 b
 obtain⟨x,K,a⟩:=aJ.1 a
 unfold D.D4 at a
 split at a
 ·simp at a
 rename_i x0
 split at a
 rotate_left
 ·simp at a
 rename_i t g
 rw[aP]at a
 subst a
 rw[D.Vk i]at g
 have r:(Jy x.2 t (q++ [Cd x.1])).all Ng=true:=by
  rw[aG]
  intro Z aa
  refine R Z (aJ.2 ⟨x,K,?_⟩)
  unfold Aew
  grind
 have B:=F x K t _ (p++ [Cd x.1]) (cM G g) (D3 w K).1 r
 rw[aG]at B
 refine B e ?_
 unfold Aew at b
 grind
theorem Atx: ∀ (n:Nat) (s:Sch) (v:Val),Fit s v->kyB n s v=true
 | 0,_,_,_=>rfl
 | n+1,s,v,a=>by
  rw[kyB,if_pos a.kind.symm,aC,aG,aG]
  refine⟨λx b=>?_,λp hp=>?_⟩
  ·rw[aC]
   refine⟨?_,?_⟩
   ·unfold Aiv
    cases c:Dw s with
    | false=>rfl
    | true=>rw[B9 (a.keyed c) x b];rfl
   ·cases d:s.it.head? with
    | none=>rfl
    | some t=>exact Atx n t x (a.el x b t (bZ d))
  ·cases e:Du s p.1 with
   | none=>rfl
   | some t=>exact Atx n t p.2 (a.fld p hp t e)
theorem Aru {s:Sch}{v:Val}(h:Kf s v=true):Kf s (aK v s)=true:=by
 have hp:=N6 h
 obtain⟨a,b,g,c,i⟩:=Tj h
 have d:=Akt v s [] [] a b c
 have e:=Atx (aK v s).size s _ hp.fit
 unfold Kf
 rw[a,hp.vv,d,e,hp.k5]
 rfl
theorem O7 (nm:ByteArray)(a:List ByteArray): ∀ (l:List Mgr) (d:Bool),∀x∈I6 nm a d l,x=⟨nm,a⟩\/(x∈l/\x.name≠nm/\0<x.paths.length)
 | [],d,x,h=>by
  rw[I6]at h
  grind
 | m::l,d,x,h=>by
  rw[I6]at h
  rcases bB.1 h with h | h
  ·grind
  ·rcases O7 nm a l _ x h with h | h
   ·exact .inl h
   grind
theorem Agv (nm:ByteArray)(b:List ByteArray): ∀ (l:List Mgr) (d:Bool),∀x∈l,x.name≠nm->0<x.paths.length->x∈I6 nm b d l
 | m::l,d,x,a,c,e=>by
  rw[I6]
  rcases bI.1 a with rfl | a
  ·grind
  ·exact bO _ (Agv nm b l _ x a c e)
theorem Al2 (nm:ByteArray)(a:List ByteArray): ∀l:List Mgr,(∀x∈l,x.name≠nm/\0<x.paths.length)->I6 nm a true l=l
 | [],_=>rfl
 | m::l,h=>by
  obtain⟨c,d⟩:=h m (by simp)
  rw[I6,Bool.true_or,Al2 nm a l λx b=>h x (by simp[b])]
  grind
theorem Kh (nm:ByteArray)(b:List ByteArray)(l:List Mgr): ∀x∈I6 nm b true l,x.name≠nm/\0<x.paths.length:=by
 intro x a
 rw[Ib]at a
 unfold I5 at a
 grind
theorem Abi (nm:ByteArray)(a:List ByteArray): ∀l:List Mgr,I6 nm a false (I6 nm a false l)=I6 nm a false l
 | []=>by simp[I6,Ed]
 | m::l=>by
  have h:=Abi nm a l
  by_cases c:blt m.name nm=true
  ·have d:m.name≠nm:=Ly c
   have e:I6 nm a false (m::l)=(if decide (0<m.paths.length)=true then[m]else[])++I6 nm a false l:=by rw[I6,c];simp[d]
   rw[e]
   by_cases i:0<m.paths.length
   ·rw[if_pos (by grind),aE,I6,c]
    grind
   grind
  ·have c':blt m.name nm=false:=by grind
   have e:I6 nm a false (m::l)=⟨nm,a⟩::((if(!decide (m.name=nm)&&decide (0<m.paths.length))=true then[m]else[])++I6 nm a true l):=by rw[I6,c'];simp
   rw[e,I6]
   have g: ∀x∈(if(!decide (m.name=nm)&&decide (0<m.paths.length))=true then[m]else[])++I6 nm a true l,x.name≠nm/\0<x.paths.length:=by
    intro x b
    rcases bB.1 b with b | b
    ·grind
    ·exact Kh nm a l x b
   simp only[Ed,bQ,Bool.and_self,Zt,Bool.or_true,Zd,aH,Bool.false_and,aB,Zf,bL,Al2 nm a _ g,aE]
theorem Sc (nm:ByteArray)(a:List ByteArray): ∀ (l:List Mgr) (d:Bool),Kd l->Kd (I6 nm a d l)
 | [],d,_=>by
  rw[I6]
  split
  ·omega
  ·exact List.pairwise_singleton _ _
 | m::l,d,h=>by
  obtain⟨j,i⟩:=aY.1 h
  cases d with
  | true=>
   rw[Ib]
   exact aN _ (aN _ h)
  | false=>
   by_cases c:blt m.name nm=true
   ·have e:I6 nm a false (m::l)=(if(!decide (m.name=nm)&&decide (0<m.paths.length))=true then[m]else[])++I6 nm a false l:=by rw[I6,c];simp
    rw[e]
    split
    ·rw[aE]
     refine aY.2 ⟨λx b=>?_,Sc nm a l false i⟩
     rcases O7 nm a l false x b with rfl | b
     ·exact c
     grind
    ·exact Sc nm a l false i
   ·have c':blt m.name nm=false:=by grind
    have e:I6 nm a false (m::l)=⟨nm,a⟩::I6 nm a true (m::l):=by rw[I6,I6,c'];simp
    rw[e]
    refine aY.2 ⟨λx b=>?_,?_⟩
    ·obtain⟨o,_⟩:=Kh nm a _ x b
     have g:x∈m::l:=by
      rcases O7 nm a _ true x b with e | b
      ·grind
      grind
     have hle:blt x.name nm=false:=by
      rcases bI.1 g with rfl | b
      ·exact c'
      ·rw[<-cE]
       intro q
       exact c (G7 (j x b) q)
     exact Yk hle o
    ·rw[Ib]
     exact aN _ (aN _ h)
theorem Vf: ∀l:List ByteArray,(l.Pairwise λa b=>blt a b=true)->Ho l=true
 | [],_=>rfl
 | [_],_=>rfl
 | a::b::l,h=>by
  obtain⟨c,d⟩:=aY.1 h
  rw[Ho,c b (by simp),Vf (b::l) d]
  rfl
theorem Awv {m:List Mgr}(h:Q6 m=true): ∀x∈m,SS x.paths/\0<x.paths.length/\Lq x.name=true:=by
 intro x a
 unfold Q6 at h
 simp only[aC,aG]at h
 have:=h.1 x a
 unfold okM at this
 simp only[aC,bW,decide_eq_false_iff_not]at this
 exact⟨Ue _ this.2,by omega,this.1.1⟩
theorem Awe {l:List ByteArray}(h:SS l):G6 l []=l:=by
 unfold G6
 rw[Aht h]
 simp[inB]
theorem Anj {m:List Mgr}(h: ∀x∈m,SS x.paths):Ajv [] m=m:=by
 unfold Ajv
 refine(bT λx a=>?_).trans (cL _)
 show Mgr.mk x.name (G6 x.paths (Uk [] x.name))=id x
 rw[show Uk [] x.name= []from rfl,Awe (h x a)]
 rfl
theorem Ax7 (s:Sch)(v:Val):SS (Ai s v):=aN _ (Vi s v)
end Go.CT.Sch
namespace Go.CT.Sch
open Go.Proofs
theorem Ad6 (nm t:ByteArray): ∀ (l:List Mgr) (a:List ByteArray),t∈Aqn nm l a↔t∈a\/ ∃x∈l,x.name≠nm/\t∈x.paths
 | [],a=>by simp[Aqn]
 | x::l,a=>by
  rw[Aqn]
  by_cases c:x.name=nm
  ·simp[c,Ad6 nm t l a]
  ·simp[c,Ad6 nm t l,Nk,or_assoc]
theorem Atm {s:Sch}{v:Val}(b:s.valid=true)(a:v.valid=true):Ub s v []=v:=by
 unfold Ub Ld
 rw[b,a,A0m v.size (some s) v [] (chB [] false) (aL _) a λ_ _=>rfl]
 rfl
theorem Arh {v:Val}(h:Ge v=true):v.s.size<=200:=by
 have a:Am.size=0:=rfl
 unfold Ge at h
 split at h
 ·simp only[decide_eq_true_eq]at h;rw[h.2,a];omega
 ·split at h
  ·simp only[decide_eq_true_eq]at h;rw[h.2.2,a];omega
  ·split at h
   ·rw[aC]at h;exact M4 h.2
   ·simp only[decide_eq_true_eq]at h;rw[h.2.2,a];omega
theorem Qo: ∀ (d:Nat) (v:Val),Ca d v=true->v.Ap+50<=300 * v.size
 | 0,v,h=>by simp[Ca]at h
 | d+1,v,h=>by
  have h':=(Dc d v).1 h
  have o:=Arh h'.1
  have j: ∀l:List Val,(∀x∈l,Ca d x=true)->Dv l<=300 * Cv l:=by
   intro l
   induction l with
   | nil=>intro _;exact aL _
   | cons x l b=>
    intro a
    have:=Qo d x (a x (by simp))
    have:=b λy c=>a y (by simp[c])
    rw[Ej]
    simp only[Cv];omega
  have m: ∀l:List (ByteArray × Val),(∀p∈l,De p.1=true/\Ca d p.2=true)->Cn l<=300 * B4 l:=by
   intro l
   induction l with
   | nil=>intro _;exact aL _
   | cons p l b=>
    intro a
    obtain⟨g,i⟩:=a p (by simp)
    have q:=Qo d p.2 i
    have a2:=Nu g
    have a3:=b λy c=>a y (by simp[c])
    have a4:=p.2.size_pos
    have e:B4 (p::l)=p.2.size+B4 l:=rfl
    rw[B7,e]
    omega
  have g:=j v.l h'.2.2.1
  have i:=m v.f h'.2.2.2.1
  rw[v.Bv,v.size_eq]
  omega
end Go.CT.Sch
namespace Go.CT.Sch
open Go.Proofs
theorem Apf (nm:ByteArray)(c:List ByteArray): ∀ (l:List Mgr) (d:Bool),Pv (I6 nm c d l)<=Pv l+(if d=true then 0 else c.length)
 | [],d=>by
  rw[I6]
  cases d with
  | true=>grind
  | false=>show c.length+0<=0+c.length;omega
 | m::l,d=>by
  have g:=Apf nm c l (d|| !blt m.name nm)
  have ap: ∀a b:List Mgr,Pv (a++b)=Pv a+Pv b:=by
   intro a b
   induction a with
   | nil=>show Pv b=0+Pv b;omega
   | cons x a iha=>show x.paths.length+Pv (a++b)=x.paths.length+Pv a+Pv b;omega
  have one: ∀ (b:Bool) (x:Mgr),Pv (if b=true then[x]else[])=if b=true then x.paths.length else 0:=λb x=>by cases b<;>rfl
  rw[I6,ap,ap,one,one]
  have e:Pv (m::l)=m.paths.length+Pv l:=rfl
  grind
structure Ai4 (s:Sch)(lv cf:Val)(m:List Mgr)(nm:ByteArray)(r:Am9):Prop where
 p1:PV s lv
 p2:PV s cf
 nmd:Lq nm=true
 mok:Q6 m=true
 cn:Aax s lv cf m nm= []
 e:r=⟨mg cf.size s cf (some (Ub s lv (Oy m nm (Ai s cf)))),I6 nm (Ai s cf) (decide ((Ai s cf).length =0)) m,[],0⟩
 len:r.l.length<=16
 vv:r.v.valid=true
theorem A5y {s:Sch}{live config:Val}{m:List Mgr}{nm:ByteArray}(i:Kf s live=true)(j:Kf s config=true)(h:Q6 m=true)(a:(Aa6 s live m nm config false).e =0):
  Ai4 s (aK live s) (aK config s) m nm (Aa6 s live m nm config false):=by
 have o:=N6 i
 have q:=N6 j
 unfold Aa6 at a ⊢
 cases b:okB s live config m nm with
 | false=>grind
 | true=>
  rw[b]at a
  simp only[Zt]at a ⊢
  have d:Lq nm=true:=by unfold okB at b;grind
  unfold A0c at a ⊢
  have r:(decide (0<(Aax s (aK live s) (aK config s) m nm).length)&& !false)=false:=by
   grind
  have c:Aax s (aK live s) (aK config s) m nm= []:=by
   simp_all
  rw[r]at a ⊢
  simp only[aB,Zf]at a ⊢
  by_cases g:16<(Aqm s (aK live s) (aK config s) m nm).length
  ·grind
  rw[if_neg g]at a ⊢
  cases t:(Aua s (aK live s) (aK config s) m nm).valid with
  | false=>grind
  | true=>
   have u:Aqm s (aK live s) (aK config s) m nm=I6 nm (Ai s (aK config s)) (decide ((Ai s (aK config s)).length =0)) m:=by
    unfold Aqm
    rw[c,Anj λx w=>(Awv h x w).1]
   simp only[Zt]
   exact⟨o,q,d,h,c,by rw[u];rfl,by grind,t⟩
section
variable {s:Sch}{lv cf:Val}{m:List Mgr}{nm:ByteArray}{r:Am9}
theorem Am5 (h:Ai4 s lv cf m nm r){t:ByteArray}(b:t∈Ai s cf):Aaw s cf r.v t=true/\inB (Ig t r.l) nm=true:=by
 have a:decide ((Ai s cf).length =0)=false:=by
  grind
 rw[h.e,a]
 exact⟨A5w h.p2 (W4 _ h.p1) _ b,Abd.2 ⟨⟨nm,Ai s cf⟩,An3 _ _ _,b,rfl⟩⟩
theorem A0w (h:Ai4 s lv cf m nm r): ∀x∈r.l,x.name=nm->x=⟨nm,Ai s cf⟩:=by
 intro x a e
 rw[h.e]at a
 rcases O7 _ _ _ _ x a with a | a
 ·exact a
 grind
theorem Art (h:Ai4 s lv cf m nm r){x:Mgr}(B:x∈m)(i:x.name≠nm){t:ByteArray}(y:t∈x.paths):inB (Ig t r.l) x.name=true/\(t∈Ai s lv->Aaw s lv r.v t=true):=by
 constructor
 ·rw[h.e]
  exact Abd.2 ⟨x,Agv _ _ _ _ x B i (List.length_pos_of_mem y),y,rfl⟩
 ·intro C
  have hle:t≠Am:=by simpa using(aM.1 C).2
  obtain⟨q,w,u,j,a2⟩:=A3e lv.size s lv [] t (aL _) h.p1.sv h.p1.vv h.p1.fit (Aet C)
  rw[aW]at j
  have A:=Atf h.p1.vv a2.g a2.ok
  obtain⟨b,w',b1,b2,b3,_,N⟩:=Ajp lv.size (some s) lv [] t (aL _) h.p1.vv (Aet C)
  rw[aW]at b1
  have hd:=Wp b 12 lv w' ((Ew lv).1 h.p1.vv).1 b2
  have F:C3 b=true:=by
   unfold C3
   grind
  have G:b=q:=Zm F A (b1.symm.trans j)
  subst G
  have I:w'=w:=by have:=a2.g;grind
  subst I
  have Q:inB (Oy m nm (Ai s cf)) t=false:=by
   rw[<-cE,Hg]
   intro R
   exact(Uo.1 R).2 ((Ad6 nm t m []).2 (.inr ⟨x,B,i,y⟩))
  obtain⟨X,Y⟩:=N (chB (Oy m nm (Ai s cf)) false) (by unfold chB;grind)
  have J:Gf (Ub s lv (Oy m nm (Ai s cf))) b=some w':=by
   unfold Ub Ld
   grind
  obtain⟨d1,d2⟩:=W4 (Oy m nm (Ai s cf)) h.p1 _ rfl
  have S:atV s b=some u:=by unfold atV;rw[h.p1.sv,A];exact a2.at_
  have H: ∀a,Gf cf b=some a->kids (some u) a= []->a=w'\/emS u a=true:=by
   intro a T K
   have c:=Amm b s cf a u [] cf.size (aL _) h.p2.fit ⟨T,a2.ok,a2.at_,K⟩
   rw[aW,<-j]at c
   have o:t∈Ai s cf:=by
    refine aM.2 ⟨?_,by grind⟩
    unfold Hk
    rw[h.p2.sv,h.p2.vv]
    exact Nk.2 c
   have d:Aaw s cf lv t=true:=by
    cases U:Aaw s cf lv t with
    | true=>rfl
    | false=>
     exfalso
     have M:(⟨t,x.name⟩:Cf)∈Aax s lv cf m nm:=by
      unfold Aax Sl
      refine aJ.2 ⟨t,o,?_⟩
      rw[U]
      simp only[aB,Zf]
      unfold Th
      exact aU.2 ⟨x,aM.2 ⟨B,by simp[i,Hg.2 y]⟩,rfl⟩
     rw[h.cn]at M
     simp at M
   rw[j,Aer s cf lv A λz L=>(a2.ok z L).2]at d
   unfold Afy at d
   grind
  obtain⟨Z,e1,e2⟩:=Asl b s _ w' u cf.size cf h.p1.sv d1 d2 ⟨J,a2.ok,a2.at_,a2.l⟩ (aL _) h.p2.vv h.p2.fit H
  rw[h.e,j,Aer s lv _ A λz L=>(a2.ok z L).2]
  unfold Afy
  grind
theorem Azf (h:Ai4 s lv cf m nm r):Q6 r.l=true:=by
 have c:=(Alx h.mok).1
 have b: ∀x∈r.l,okM x=true:=by
  intro x a
  have g:=a
  rw[h.e]at a
  rcases O7 _ _ _ _ x a with e | a
  ·have d: ¬ (Ai s cf).length =0:=by
    intro j
    have hd:decide ((Ai s cf).length =0)=true:=by grind
    rw[hd]at a
    exact(Kh _ _ _ x a).1 (by rw[e])
   rw[e]
   unfold okM
   rw[h.nmd,Vf _ (Ax7 s cf)]
   simp[d]
  ·have:=h.mok
   unfold Q6 at this
   grind
 have o:=h.len
 have i:Kd r.l:=by rw[h.e];exact Sc _ _ _ _ c
 unfold Q6
 rw[aG.2 b,Vf _ (List.pairwise_map.2 i)]
 grind
theorem Awu (h:Ai4 s lv cf m nm r)(fv:Kf s r.v=true)(fc:Kf s cf=true):Aa6 s r.v r.l nm cf false=⟨r.v,r.l,[],0⟩:=by
 have j:=Azf h
 have b: ∀x∈r.l,SS x.paths:=λx w=>(Awv j x w).1
 have c:okB s r.v cf r.l nm=true:=by unfold okB;rw[fv,fc,j,h.nmd];rfl
 have a:Fit s r.v:=by rw[h.e];exact(Aoe cf.size s cf _ h.p1.sv h.p2.vv h.p2.fit (W4 _ h.p1)).2
 have d:=Ahs r.v s h.p1.sv h.vv a
 have g:=Ahs cf s h.p1.sv h.p2.vv h.p2.fit
 have o:Aax s r.v cf r.l nm= []:=by
  unfold Aax Sl
  rw[List.flatMap_eq_nil_iff]
  intro t i
  rw[(Am5 h i).1];rfl
 have z:Oy r.l nm (Ai s cf)= []:=by
  rw[List.eq_nil_iff_forall_not_mem]
  intro t i
  obtain⟨A,_⟩:=Uo.1 i
  obtain⟨q,F⟩:=Uo.1 A
  unfold Hy at q
  cases u:r.l.find? λm=>decide (m.name=nm) with
  | none=>grind
  | some y=>
   rw[u]at q
   have:=A0w h y (aV u) (by grind)
   grind
 have B:Aua s r.v cf r.l nm=r.v:=by
  unfold Aua
  rw[z,Atm h.p1.sv h.vv]
  have:=Aff cf.size s cf (some (Ub s lv (Oy m nm (Ai s cf)))) h.p1.sv h.p2.vv h.p2.fit (W4 _ h.p1)
  rw[h.e]
  exact this
 have C:Aqm s r.v cf r.l nm=r.l:=by
  unfold Aqm
  rw[o,Anj b,h.e]
  by_cases G:(Ai s cf).length =0
  ·have hd:decide ((Ai s cf).length =0)=true:=by grind
   simp only[hd]
   exact Al2 _ _ _ (Kh _ _ _)
  ·have hd:decide ((Ai s cf).length =0)=false:=by grind
   simp only[hd]
   exact Abi _ _ _
 have H:=h.len
 unfold Aa6
 rw[c,if_pos rfl,d,g]
 unfold A0c
 rw[o,C,B,if_neg (by simp),if_neg (by omega),if_pos h.vv]
end
end Go.CT.Sch
namespace Go.CT.Sch
open Go.Proofs
structure OS (s:Sch)(lv cf:Val)(m:List Mgr)(r:Am9):Prop where
 hs:s.Ap<=1048576
 hlv:lv.Ap<=1048576
 hcf:cf.Ap<=1048576
 hv:r.v.Ap<=1048576
 hm:m.length<=1048576/\ ∀x∈m,x.paths.length<=1048576
 hl:r.l.length<=1048576/\ ∀x∈r.l,x.paths.length<=1048576
 z2:Sz2 s r.v cf r.l
section
variable {s:Sch}{lv cf:Val}{m:List Mgr}{nm:ByteArray}{r:Am9}(h:Ai4 s lv cf m nm r)(z:OS s lv cf m r)(fc:Kf s cf=true)
include h z
include fc in
theorem Alm:W 0 3 [.list (m.map aD),.str nm,.int (m.length:Nat),s.enc,lv.enc,cf.enc,r.v.enc,.list (r.l.map aD),.list [],SL (Ai s lv)]=some [.bool true]:=by
 have b:=A3s s r.v z.hs z.hv
 rw[A0.d,Gi]
 simp only[ltn,aA,bA,aB,Zf,b,bP,O.Aq,Aw2,O.As,cG,aF,O.eq_int,Zd]
 cases fv:Kf s r.v with
 | false=>rfl
 | true=>
  have a:=Ajq s r.v r.l nm cf false z.z2
  rw[Awu h fv fc]at a
  simp only[cK,bD]at a
  simp only[aH,aB,Zf,Zt,a,O.Um,bP,aA,bA,O.eq_int,Zd,O.As,cG,aF,eq_self r.v z.hv,A47 r.l z.hl.1 z.hl.2]
theorem Aip {i:Nat}(g:i<m.length)(b:m[i].name ≠nm)(K:W 0 4 [.list (m.map aD),.str nm,.int (i:Nat),s.enc,lv.enc,cf.enc,r.v.enc,.list (r.l.map aD),.list [],SL (Ai s lv)]=some [.bool true]): ∀ (n j:Nat),j+n=m[i].paths.length ->
  W 0 5 [.list (m.map aD),.str nm,.int (i:Nat),.int (j:Nat),s.enc,lv.enc,cf.enc,r.v.enc,.list (r.l.map aD),.list [],SL (Ai s lv)]=some [.bool true]
 | 0,j,u=>by
  have:j=m[i].paths.length :=by omega
  subst this
  have o:cH (SL m[i].paths)=some (.int m[i].paths.length):=Gi IV.str _
  rw[A0.f]
  simp only[I9 aD g,aA,Ard,o,ltn,bA,aB,Zf,K]
 | n+1,j,u=>by
  have a:j<m[i].paths.length :=by omega
  have t:=Aip g b K n (j+1) (by omega)
  have c:=aI g
  have q:=aI a
  obtain⟨w,x⟩:=Art h c b q
  have y:=z.hm.2 _ c
  have o:cH (SL m[i].paths)=some (.int m[i].paths.length):=Gi IV.str _
  have A:O.index (SL m[i].paths) (.int (j:Nat))=some (.str m[i].paths[j]):=I9 IV.str a
  have ol:=Adf m[i].paths[j] r.l
  have B:=z.hl.1
  have lA:=Iv s lv
  have C:=z.hlv
  rw[A0.f]
  simp only[I9 aD g,aA,Ard,o,lti a,bA,Zt,A,Amv r.l _ z.hl.1 z.hl.2,bP,Akd,A68 _ _ (show(Ig m[i].paths[j] r.l).length <=1048576 by omega),w,O.Aq,aH,aB,Zf,A68 (Ai s lv) m[i].paths[j] (by omega)]
  cases F:inB (Ai s lv) m[i].paths[j]with
  | false=>simp only[aB,Zf,aA,bA,nxt (show j<4611686018427387904 by omega),t]
  | true=>
   have d:=Hg.1 F
   have e:=A5z s lv r.v m[i].paths[j] z.hs z.hlv z.hv (Lx h.p1.vv d)
   simp only[Zt,e,x d,bP,O.Aq,aH,aA,bA,aB,Zf,nxt (show j<4611686018427387904 by omega),t]
include fc in
theorem Ahc: ∀ (n i:Nat),i+n=m.length->W 0 3 [.list (m.map aD),.str nm,.int (i:Nat),s.enc,lv.enc,cf.enc,r.v.enc,.list (r.l.map aD),.list [],SL (Ai s lv)]=some [.bool true]
 | 0,i,b=>by
  have:i=m.length:=by omega
  subst this
  exact Alm h z fc
 | n+1,i,b=>by
  have a:i<m.length:=by omega
  have d:=Ahc n (i+1) (by omega)
  have e:=z.hm.1
  have K:W 0 4 [.list (m.map aD),.str nm,.int (i:Nat),s.enc,lv.enc,cf.enc,r.v.enc,.list (r.l.map aD),.list [],SL (Ai s lv)]=some [.bool true]:=by
   rw[A0.e,nxt (show i<4611686018427387904 by omega)]
   exact d
  rw[A0.d,Gi]
  simp only[lti a,aA,bA,Zt,I9 aD a,Akd,O.C4,K]
  by_cases c:m[i].name =nm
  ·simp[c]
  ·have:=Aip h z a c K m[i].paths.length 0 (by omega)
   simp only[aF]at this
   simp only[c,Ze,aB,Zf,this]
include fc in
theorem Aj0: ∀ (n i:Nat),i+n=r.l.length->W 0 2 [.list (m.map aD),.str nm,.int (i:Nat),s.enc,lv.enc,cf.enc,r.v.enc,.list (r.l.map aD),.list [],SL (Ai s cf)]=some [.bool true]
 | 0,i,d=>by
  have:i=r.l.length:=by omega
  subst this
  have:=Ahc h z fc m.length 0 (by omega)
  simp only[aF]at this
  rw[A0.c,Gi]
  simp only[ltn,aA,bA,aB,Zf,Agp s lv z.hs z.hlv,bP,this]
 | n+1,i,d=>by
  have a:i<r.l.length:=by omega
  have g:=Aj0 n (i+1) (by omega)
  have j:=z.hl.1
  have o:cH (SL r.l[i].paths)=some (.int r.l[i].paths.length):=Gi IV.str _
  have b:cH (SL (Ai s cf))=some (.int (Ai s cf).length):=Gi IV.str _
  rw[A0.c,Gi]
  simp only[lti a,aA,bA,Zt,I9 aD a,Akd,Ard,O.C4,o,b,O.Ci,nxt (show i<4611686018427387904 by omega),g]
  by_cases c:r.l[i].name =nm
  ·have e:=A0w h _ (aI a) c
   have el:r.l[i].paths.length =(Ai s cf).length :=by rw[e]
   simp[c,el]
  ·simp[c]
include fc in
theorem Ahx: ∀ (n i:Nat),i+n=(Ai s cf).length ->W 0 1 [.list (m.map aD),.str nm,.int (i:Nat),s.enc,lv.enc,cf.enc,r.v.enc,.list (r.l.map aD),.list [],SL (Ai s cf)]=some [.bool true]
 | 0,i,j=>by
  have:i=(Ai s cf).length :=by omega
  subst this
  have e:cH (SL (Ai s cf))=some (.int (Ai s cf).length):=Gi IV.str _
  have:=Aj0 h z fc r.l.length 0 (by omega)
  simp only[aF]at this
  rw[A0.b,e]
  simp only[ltn,aA,bA,aB,Zf,this]
 | n+1,i,j=>by
  have b:i<(Ai s cf).length :=by omega
  have o:=Ahx n (i+1) (by omega)
  have hlen:=Iv s cf
  have q:=z.hcf
  have u:=z.hl.1
  have a:=aI b
  obtain⟨w,a2⟩:=Am5 h a
  have ol:=Adf (Ai s cf)[i] r.l
  have e:cH (SL (Ai s cf))=some (.int (Ai s cf).length):=Gi IV.str _
  have x:O.index (SL (Ai s cf)) (.int (i:Nat))=some (.str (Ai s cf)[i]):=I9 IV.str b
  have c:=A5z s cf r.v (Ai s cf)[i] z.hs z.hcf z.hv (Lx h.p2.vv a)
  have g:=Amv r.l (Ai s cf)[i] z.hl.1 z.hl.2
  have d:=A68 (Ig (Ai s cf)[i] r.l) nm (by omega)
  generalize (Ai s cf)[i]=t at *
  rw[A0.b,e]
  simp only[lti b,aA,bA,Zt,x,c,w,bP,O.Aq,aH,aB,Zf,g,d,a2,nxt (show i<4611686018427387904 by omega),o]
end
theorem A6e {s:Sch}{live config:Val}{m:List Mgr}{nm:ByteArray}(a:Sz s live config m)(h:Ai4 s (aK live s) (aK config s) m nm (Aa6 s live m nm config false)):OS s (aK live s) (aK config s) m (Aa6 s live m nm config false):=by
 have g:=a.hab
 have r:=a.hm
 have i:=a.hp
 have t:=Hq live s
 have u:=Hq config s
 obtain⟨j,o,_⟩:=Avi s live m nm config false a
 have b:=(Ew _).1 h.vv
 have m1:=Qo 12 _ b.1
 have c:=(Ew _).1 h.p2.vv
 have m2:=Qo 12 _ c.1
 have d:Pv (Aa6 s live m nm config false).l <=1048576:=by
  have w:=Iv s (aK config s)
  have y:=Apf nm (Ai s (aK config s)) m (decide ((Ai s (aK config s)).length =0))
  have z:(if decide ((Ai s (aK config s)).length =0)=true then 0 else(Ai s (aK config s)).length)<=(Ai s (aK config s)).length :=by split<;>omega
  rw[h.e]
  show Pv (I6 _ _ _ _)<=_
  omega
 have hlen:=h.len
 exact⟨a.hs,by omega,by omega,j,⟨by omega,λx q=>by have:=Px q;omega⟩,o,⟨a.hs,by have:=b.2;have:=c.2;omega,d,by omega⟩⟩
theorem Aq1 (s:Sch)(live config:Val)(m:List Mgr)(nm:ByteArray)(a:Sz s live config m):W 0 0 [s.enc,live.enc,.list (m.map aD),.str nm,config.enc]=some [.bool true]:=by
 have u:=a.hab
 have F:=a.hm
 have d:=a.hs
 have w:=a.hp
 have g: ∀x∈m,x.paths.length<=1048576:=λx j=>by have:=Px j;omega
 obtain⟨b,y⟩:=A5n m (by omega) g s live config d (by omega) (by omega)
 rw[A0.a]
 simp only[y,bP,O.Aq,aA,bA,A3s s live d (by omega),A3s s config d (by omega),A8g m (by omega) (λx j=>by have:=g x j;omega),Aw2]
 cases b with
 | false=>rfl
 | true=>
 cases r:Kf s live with
 | false=>rfl
 | true=>
 cases o:Kf s config with
 | false=>rfl
 | true=>
 cases A:Q6 m with
 | false=>rfl
 | true=>
 have i:=Sy s live m nm config false a
 by_cases q:(Aa6 s live m nm config false).e =0
 ·have h:=A5y (nm:=nm) r o A q
  have z:=A6e a h
  have t:=Ahx h z (Aru o) (Ai s (aK config s)).length 0 (by omega)
  have B:(Aa6 s live m nm config false).c = []:=by rw[h.e]
  have C:=(Qi r d (by omega)).2
  have a2:=(Qi o d (by omega)).2
  have G:=Hq config s
  simp only[aF]at t
  simp only[cK,B,bD,q]at i
  simp only[aH,aB,Zf,i,O.Um,O.Ci,Zd,aA,bA,C,a2,bP,Agp s (aK config s) d (by omega),t]
 ·simp only[cK]at i
  simp only[aH,aB,Zf,i,O.Um,O.Ci,q,Ze,bQ,Zt,aA,bA]
end Go.CT.Sch
