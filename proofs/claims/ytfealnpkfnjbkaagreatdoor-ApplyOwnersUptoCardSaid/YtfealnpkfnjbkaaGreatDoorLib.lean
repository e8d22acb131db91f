import Derived.Test.YtfealnpkfnjbkaaGreatDoorCtC
import Derived.Below
import Derived.Shelf.Sort.Plain
import Derived.Shelf.Slices.In.CompactS
import Derived.Shelf.Slices.In.SortNone
import Derived.Shelf.Spec.SlicesGrow
import Derived.RangeFuncNested
import Derived.RangeFuncBound
import Derived.RangeFuncCalls
import Derived.RangeFuncLeaves
import Derived.RangeFuncBox
import Derived.Maps.AppendAt
import Derived.Shelf.Abstract
import Derived.Shelf.RegionOpen
import Derived.WalkKit
import Derived.OwnWalkIn
import Derived.TacticsInMore
import Derived.LoopNIn
import Derived.LoopIn
import Derived.Test.YtfealnpkfnjbkaaGreatDoorProg
import Derived.ProofKit
import Derived.Test.YtfealnpkfnjbkaaGreatDoorRows
import Derived.Shelf.GgSortFunc.InsertionK
import Derived.Shelf.SlSortCmp.NoneTotal
import Derived.Shelf.Strings.Builder1
import Derived.Shelf.Strconv.Itoa3
set_option linter.unusedVariables false
set_option linter.unusedSimpArgs false
open Array renaming getElem?_toList->aC,getElem?_eq_getElem->aG,getElem?_modify->aH,getElem?_eq_some_iff->aN,getElem?_append_left->aO,replicate_succ->aY,replicate_zero->aZ,getElem?_eq_none->bI,toList_append->cE
open Bool renaming and_eq_true->bA,or_eq_true->bE,not_eq_true'->bO
open Exists renaming intro->aF
open Go renaming calls_of_every_depth->bV
open Go.CT.Hz renaming refl->cK
open Go.CT.PS renaming Dp->cO
open Go.Proofs.Lays renaming n190->cX,n194->cY,n171->cZ,n169->dA
open Go.Proofs.Lays8 renaming n4->dC
open Go.Proofs.SlLaysF0 renaming n6->cU
open Int renaming eq_ofNat_of_zero_le->bU
open List renaming length_map->aB,pairwise_cons->aD,mem_cons_self->aE,getElem?_map->aI,append_nil->aJ,length_eq_zero_iff->aL,mem_cons->aM,nil_append->aP,map_map->aQ,ext_getElem?->aR,getElem?_eq_getElem->aS,cons_append->aT,getElem?_take->aU,size_toArray->aW,getElem?_eq_some_iff->bB,append_toArray->bC,push_toArray->bH,length_cons->bJ,mem_cons_of_mem->bK,length_nil->bL,map_congr_left->bM,map_cons->bR,pairwise_singleton->bT,mem_map->bX,take_of_length_le->bY,nodup_cons->cB,getElem?_eq_none->cC,pairwise_map->cI,flatMap_cons->cL,replicate->cS,perm_nil->cT,map_id->cV,range->dB
open List.Pairwise renaming nil->cH
open List.Perm renaming refl->aX,cons_inv->cF,swap->cR
open Nat renaming le_refl->aK,zero_le->bF,mul_one->bN,reduceAdd->bP,reduceSub->bQ,mul_le_mul_right->cD,lt_trichotomy->cG,zero_add->cJ,le_add_right->cM,add_mul->cW
open Option renaming ite_none_right_eq_some->aA,map_some->bD,bind_eq_some_iff->bW,map_eq_some_iff->bZ,bind_some->cN
open Option.some renaming injEq->bG
open UInt8 renaming lt_iff_toNat_lt->aV,toNat_inj->cP,lt_trans->cQ
namespace Go.CT
open Go.RowKit
def A00 (n₀:Nat)(W:World)(sv:Value)(zs:List ByteArray):Prop:=
 ∃A cap,sv= .slice A zs.length cap/\zs.length<=maxLen/\(0<zs.length-> ∃ad,A=some ad/\ad.block<n₀/\ ∀j,j<zs.length->W.cell? (ad.add j)=some (.string (zs[j]?.getD ⟨#[]⟩)))
theorem A00.below {n₀:Nat}{A B:World}(h:Below n₀ A B){sv:Value}{zs:List ByteArray} :A00 n₀ A sv zs->A00 n₀ B sv zs
 | ⟨b,cap,e,c,d⟩=>⟨b,cap,e,c,λg=>let ⟨ad,e1,a,i⟩:=d g; ⟨ad,e1,a,λj m=>(h.cell (by rw[Ec];exact a)).trans (i j m)⟩⟩
def O.Ni:List IV->Option (List IV)
 | [.list xs]=>if xs.length * 16<=Bc then some [.list xs]else none
 | _=>none
theorem A29 {P:Program}{te:TypeId}(a:P.underlying te=some .string)(b:Ag P te=1){w:World}{O:Nat->Prop}{t:TypeId}(r:P.underlying t=some (.slice te)){x:IV}{sv:Value}(h:Rel P w O t x sv): ∃zs:List ByteArray,x= .list (zs.map IV.str)/\A00 w.heap.size w sv zs:=by
 obtain⟨ys,A,c,rfl,rfl,F,u,vs,B,C⟩:=h.Da r
 have i: ∀ (j:Nat) (y:IV),ys[j]?=some y-> ∃z,y= .str z/\vs j= .string z:=λj y e=>(C j y e).Is a
 refine⟨ys.map λy=>match y with | .str z=>z | _=>⟨#[]⟩,?_,A,c,by simp,by simpa using u,λm=>?_⟩
 ·congr 1
  rw[aQ]
  apply aR
  intro j
  rw[aI]
  cases e:ys[j]? with
  | none=>rfl
  | some y=>
   obtain⟨z,rfl,_⟩:=i j y e
   rfl
 ·obtain⟨_,ad,rfl,_,o⟩:=B (by simpa using m)
  have g:ad.block<w.heap.size:=by
   have:=(o 0 (by simpa using m)).lt (by rw[b];decide)
   rwa [Ec]at this
  refine⟨ad,rfl,g,λj d=>?_⟩
  have d:j<ys.length:=by simpa using d
  obtain⟨z,e1,q⟩:=i j _ (aS d)
  have:=(o j d).2 0 (vs j) (by rw[q];rfl)
  rw[b,bN,Bg,q]at this
  rw[this,aI,aS d,e1]
  rfl
theorem Anu {P:Program}{te:TypeId}(a:P.underlying te=some .string)(b:Ag P te=1){w:World}{O:Nat->Prop}(zs:List ByteArray):Kr P w O te (zs.map IV.str) (zs.map Value.string):=by
 intro j x c
 rw[aI]at c
 cases d:zs[j]? with
 | none=>simp[d]at c
 | some z=>
  simp only[d,bD,bG]at c
  subst c
  refine⟨.string z,.str a,?_,by rw[b];rfl⟩
  rw[b,bN]
  have e:=(bB.1 d).1
  rw[List.drop_eq_getElem_cons (by simpa using e)]
  simp[(bB.1 d).2,Value.cells]
theorem Aij {P:Program}{te ts:TypeId}{fC fV:FuncId}{fn:Func}{al:Bool}(m:P.underlying te=some .string)(i:Ag P te=1)(o:P.underlying ts=some (.slice te))(U:leaves P ts=some [ts])(J:Ag P ts=1)
  (K:P.funcs[fC]?=some fn) (q:(fn.name == "runtime.NumGoroutine")=false) (r:fn.body.isNone=false)
  (a: ∀ (ad:Addr) (sv:Value) (zs:List ByteArray) (w:World),zs.length * 16<=140737488355328->ad.block<w.heap.size->w.cell? ad=some sv->A00 w.heap.size w sv zs->
   Calls P fC #[.func (.func fV) #[] #[.pointer (some ad)]] w λe w'=> ∃v,e= .returned v/\w'.ownsRow w.heap.size te 1 v zs.length (zs.map .string)/\Below w.heap.size w w'):
  Im P O.Ni ⟨fC,[.fn fV [ts]],[.cells ts [true]],al⟩:=by
 have C:Ak P ts=false:=by simp[Ak,o]
 intro w X xs args L rs j hn hX Y t
 match args,j with
 | [],j=>exact j.elim
 | _::_::_,j=>obtain⟨_,_,_,_,_,_,_,j⟩:=j;exact j.elim
 | [v],j=>
 obtain⟨ys,zs,L1,L2,rfl,rfl,⟨vs,rfl,rfl,F⟩,rfl,rfl⟩:=j
 obtain⟨x,u,rfl,M,ad,sv,rfl,H,I,h3,Z⟩: ∃x u,ys= [x]/\vs.toList= [u]/\Rc P w (λb=>X b\/b∈ []++ []) (· ∈ []++ []) ts x u:=by
  cases ys with
  | nil=>exact F.elim
  | cons x ys=>
   cases R:vs.toList with
   | nil=>rw[R]at F;exact F.elim
   | cons u us=>
    rw[R]at F
    obtain⟨H,I⟩:=F
    cases ys with
    | nil=>cases us with
     | nil=>exact⟨x,u,rfl,rfl,H⟩
     | cons=>exact I.elim
    | cons=>exact I.elim
 obtain⟨zs,rfl,S⟩:=A29 m i o Z
 simp only[aJ,O.Ni,aB]at t
 rw[aA]at t
 obtain⟨hle,t⟩:=t
 injection t with t
 subst t
 have y:w.cell? ad=some sv:=by
  have N:sv.cells= #[sv]:=by
   obtain⟨A,c,rfl,_⟩:=S
   rfl
  have:=H.2 0 sv (by rw[N];rfl)
  rwa [Bg]at this
 have Q:vs= #[.pointer (some ad)]:=by rw[<-Array.toArray_toList (xs:=vs),M]
 subst Q
 have a:=a ad sv zs w hle (H.lt I) y S
 refine .inl ⟨_,K,q,r,a.mono ?_⟩
 rintro e w' ⟨v,rfl,d,G⟩
 refine⟨v,rfl,⟨G.os,G.tape,G.output,G.size,λb B _=>G.block b B⟩,[v],[.list (zs.map IV.str)],[],(blk v).toList,[],rfl,by simp,?_,?_,?_,?_⟩
 ·cases blk v<;>simp
 ·intro b B
  right
  simp only[aJ,Option.mem_toList]at B
  rcases d.2 with⟨rfl,_⟩ | ⟨g,cap,cu,rfl,T,e3,_⟩
  ·cases B
  ·simp[blk]at B
   subst B;exact T
 ·refine⟨[.list (zs.map IV.str)],[],(blk v).toList,[],rfl,by simp,?_,rfl,rfl⟩
  have h:=(Me d).2.1
  refine⟨[ts],U,?_,?_,?_⟩
  ·rw[H6 h,J];rfl
  ·rw[C];simpa using h
  ·rw[show v.cells.toList= [v]by rw[H6 h]]
   refine⟨[],⟨_,rfl,.inl ⟨te,o,by rw[i];decide,_,?_,Anu m i zs,?_⟩⟩,rfl,by simp⟩
   ·rw[i,aB]
    refine⟨d.1,d.2.imp id fun⟨g,cap,cu,e1,T,rest⟩=>⟨g,cap,cu,e1,bF _,rest⟩⟩
   ·intro u hu
    obtain⟨z,_,rfl⟩:=bX.1 hu
    rfl
 ·simp[Cr,cO]
end Go.CT
namespace Go.CT
open Go.RowKit
def Akb:List IV->Option (List ByteArray)
 | []=>some []
 | .str z::xs=>(Akb xs).map (z:: ·)
 | _=>none
theorem Nc: ∀zs:List ByteArray,Akb (zs.map IV.str)=some zs
 | []=>rfl
 | z::zs=>by simp[Akb,Nc zs]
def ofL (l:List UInt8):ByteArray:=⟨l.toArray⟩
def Amh (zs:List ByteArray):List ByteArray:=((zs.map (·.data.toList)).mergeSort λx y=>decide (x<=y)).map ofL
def A4i (s:ByteArray):List ByteArray->List ByteArray
 | []=> [s]
 | x::r=>if Op.bytesLess x.data.toList s.data.toList then x::A4i s r else s::x::r
def Q8:List ByteArray->List ByteArray
 | []=> []
 | s::r=>A4i s (Q8 r)
def Gw (zs:List ByteArray):List ByteArray:=(Lib.compact (zs.map (·.data.toList))).map ofL
def O.Al7:List IV->Option (List IV)
 | [.list xs]=>(Akb xs).bind λzs=>if zs.length<4611686018427387904 then some [.list ((Q8 zs).map IV.str)]else none
 | _=>none
def O.N2:List IV->Option (List IV)
 | [.list xs]=>(Akb xs).bind λzs=>if zs.length<=4611686018427387904 then some [.list ((Gw zs).map IV.str)]else none
 | _=>none
def O.Akj (bytes:Nat):List IV->Option (List IV)
 | [.list xs,.int n]=>if 0<=n/\(xs.length+n.toNat) * bytes<=Bc/\xs.length+n.toNat<=4611686018427387904 then some [.list xs]else none
 | _=>none
theorem A53 (z:ByteArray):Proofs.encStr z.data.toList=Value.string z:=by simp[Proofs.encStr]
theorem S3 (l:List UInt8):(ofL l).data.toList =l:=by simp[ofL]
theorem Ae6 (z:ByteArray):ofL z.data.toList=z:=by simp[ofL]
theorem Adp (l:List (List UInt8)):(l.map ofL).map (λz=>z.data.toList)=l:=by
 rw[aQ];conv=>rhs;rw[<-cV l]
 exact bM λx _=>S3 x
theorem A52: ∀ (a b:List UInt8),Op.bytesLess a b=true↔a<b
 | [],[]=>by simp[Op.bytesLess]
 | [],_::_=>by simp[Op.bytesLess]
 | _::_,[]=>by simp[Op.bytesLess]
 | a::x,b::y=>by
  simp only[Op.bytesLess,bE,decide_eq_true_eq,bA,beq_iff_eq,List.cons_lt_cons_iff,A52 x y]
theorem Axt (a b:List UInt8):decide (a<=b)= !Op.bytesLess b a:=by
 rw[Bool.eq_iff_iff,decide_eq_true_iff,bO,<-Bool.not_eq_true,A52]
 exact Iff.rfl
theorem Au2: ∀l:List UInt8,Op.bytesLess l l=false
 | []=>rfl
 | a::l=>by simp[Op.bytesLess,Au2 l]
theorem A36: ∀ {a b c:List UInt8},Op.bytesLess a b=true->Op.bytesLess b c=true->Op.bytesLess a c=true
 | _,_,[],_,h=>by simp[Op.bytesLess]at h
 | [],_,_::_,_,_=>by simp[Op.bytesLess]
 | _::_,[],_::_,h,_=>by simp[Op.bytesLess]at h
 | a::x,b::y,c::z,e,d=>by
  simp only[Op.bytesLess,bE,decide_eq_true_eq,bA,beq_iff_eq]at e d ⊢
  rcases e with e | ⟨rfl,e⟩
  ·rcases d with d | ⟨rfl,_⟩
   ·exact .inl (cQ e d)
   ·exact .inl e
  ·rcases d with d | ⟨rfl,d⟩
   ·exact .inl d
   ·exact .inr ⟨rfl,A36 e d⟩
theorem Aob: ∀ (a b:List UInt8),Op.bytesLess a b=true\/a=b\/Op.bytesLess b a=true
 | [],[]=> .inr (.inl rfl)
 | [],_::_=> .inl (by simp[Op.bytesLess])
 | _::_,[]=> .inr (.inr (by simp[Op.bytesLess]))
 | a::x,b::y=>by
  simp only[Op.bytesLess,bE,decide_eq_true_eq,bA,beq_iff_eq]
  rcases cG a.toNat b.toNat with h | h | h
  ·exact .inl (.inl (aV.2 h))
  ·obtain rfl:=cP.1 h
   rcases Aob x y with h | rfl | h
   ·exact .inl (.inr ⟨rfl,h⟩)
   ·exact .inr (.inl rfl)
   ·exact .inr (.inr (.inr ⟨rfl,h⟩))
  ·exact .inr (.inr (.inl (aV.2 h)))
theorem Akq {a b:List UInt8}(h:Op.bytesLess a b=true):Op.bytesLess b a=false:=by
 cases c:Op.bytesLess b a with
 | false=>rfl
 | true=>have:=A36 h c;rw[Au2]at this;cases this
theorem Ai9 {a b c:List UInt8}(e:Op.bytesLess b a=false)(d:Op.bytesLess c b=false):Op.bytesLess c a=false:=by
 cases g:Op.bytesLess c a with
 | false=>rfl
 | true=>
  rcases Aob a b with h | rfl | h
  ·rw[A36 g h]at d;cases d
  ·rw[g]at d;cases d
  ·rw[h]at e;cases e
theorem Agh (l:List (List UInt8)):(l.mergeSort λx y=>decide (x<=y)).Pairwise λa b=>Op.bytesLess b a=false:=by
 have h:=List.pairwise_mergeSort (le:=λx y:List UInt8=>decide (x<=y)) (λa b c d e=>by
  rw[Axt,bO]at d e ⊢
  exact Ai9 d e) (λa b=>by
  rw[Axt,Axt]
  rcases Aob a b with h | rfl | h
  ·simp[Akq h]
  ·simp[Au2]
  ·simp[Akq h]) l
 exact h.imp λh=>by rw[Axt,bO]at h;exact h
theorem Yb (s:ByteArray): ∀l,(A4i s l).Perm (s::l)
 | []=>aX _
 | x::r=>by
  rw[A4i]
  split
  ·exact((Yb s r).cons x).trans (cR s x r)
  ·exact aX _
theorem Qp: ∀l,(Q8 l).Perm l
 | []=>aX _
 | s::r=>(Yb s _).trans ((Qp r).cons s)
def BLE (a b:ByteArray):Prop:=Op.bytesLess b.data.toList a.data.toList=false
theorem Ais (s:ByteArray): ∀l,l.Pairwise BLE->(A4i s l).Pairwise BLE
 | [],_=>bT _ _
 | x::r,h=>by
  obtain⟨c,d⟩:=aD.1 h
  rw[A4i]
  split
  ·rename_i b
   refine aD.2 ⟨λy a=>?_,Ais s r d⟩
   rcases aM.1 ((Yb s r).mem_iff.1 a) with rfl | a
   ·exact Akq b
   ·exact c y a
  ·rename_i b
   have b:BLE s x:=by simpa [BLE]using b
   refine aD.2 ⟨λy a=>?_,h⟩
   rcases aM.1 a with rfl | a
   ·exact b
   ·exact Ai9 b (c y a)
theorem Abr: ∀l,(Q8 l).Pairwise BLE
 | []=>cH
 | s::r=>Ais s _ (Abr r)
theorem Axc: ∀ {a b:List ByteArray},a.Perm b->a.Pairwise BLE->b.Pairwise BLE->a=b
 | [],b,h,_,_=>(cT.1 h.symm).symm
 | x::a,[],h,_,_=>by have:=h.length_eq;simp at this
 | x::a,y::b,h,j,m=>by
  obtain⟨o,a2⟩:=aD.1 j
  obtain⟨b1,b2⟩:=aD.1 m
  have c:x=y:=by
   rcases aM.1 (h.mem_iff.1 aE) with e | e
   ·exact e
   ·rcases aM.1 (h.symm.mem_iff.1 aE) with d | d
    ·exact d.symm
    ·have g:=b1 x e
     have i:=o y d
     unfold BLE at g i
     rcases Aob x.data.toList y.data.toList with h | h | h
     ·rw[h]at g;cases g
     ·cases x;cases y;simp at h;rw[h]
     ·rw[h]at i;cases i
  subst c
  rw[Axc (cF h) a2 b2]
theorem Wn (zs:List ByteArray):Q8 zs=Amh zs:=by
 refine Axc ((Qp zs).trans ?_) (Abr zs) ?_
 ·unfold Amh
  have a:=(List.mergeSort_perm (zs.map (·.data.toList)) λx y=>decide (x<=y)).map ofL
  refine(List.Perm.trans a ?_).symm
  rw[aQ]
  have:zs.map (ofL ∘ λz=>z.data.toList)=zs:=by
   conv=>rhs;rw[<-cV zs]
   exact bM λx _=>Ae6 x
  rw[this]
 ·unfold Amh
  rw[cI]
  exact(Agh _).imp λh=>by unfold BLE;rw[S3,S3];exact h
section
variable {P:Program}{te ts:TypeId}{w w':World}{O:Nat->Prop}
theorem Ao6 (c:P.underlying te=some .string)(d:Ag P te=1){xs:List IV}{v:Value}(h:Hw P w O te xs v): ∃zs:List ByteArray,xs=zs.map IV.str/\w.ownsRow 0 te 1 v zs.length (zs.map Value.string):=by
 obtain⟨_,cs,a,i,m⟩:=h
 rw[d]at a
 have hlen:cs.length=xs.length:=by have:=a.1;omega
 have o: ∀ (j:Nat) (y:IV),xs[j]?=some y-> ∃z,y= .str z/\cs[j]?=some (.string z):=λj y b=>by
  obtain⟨v,q,g,r⟩:=i j y b
  obtain⟨z,rfl,rfl⟩:=q.Is c
  refine⟨z,rfl,?_⟩
  rw[d,bN]at g
  have:((cs.drop j).take 1)[0]?=some (.string z):=by rw[<-g];rfl
  simpa using this
 refine⟨xs.map λy=>match y with | .str z=>z | _=>⟨#[]⟩,?_,?_⟩
 ·rw[aQ]
  apply aR
  intro j
  rw[aI]
  cases b:xs[j]? with
  | none=>rfl
  | some y=>
   obtain⟨z,rfl,_⟩:=o j y b
   rfl
 ·have e:List.map Value.string (xs.map λy=>match y with | .str z=>z | _=>⟨#[]⟩)=cs:=by
   rw[aQ]
   apply aR
   intro j
   rw[aI]
   cases b:xs[j]? with
   | none=>
    have:xs.length<=j:=List.getElem?_eq_none_iff.1 b
    rw[cC (by omega)];rfl
   | some y=>
    obtain⟨z,rfl,g⟩:=o j y b
    rw[g];rfl
  rw[e,aB]
  exact a
theorem Am6 (b:P.underlying te=some .string)(a:Ag P te=1){zs:List ByteArray}{v:Value}(h:w.ownsRow 0 te 1 v zs.length (zs.map Value.string)):Hw P w O te (zs.map IV.str) v:=by
 refine⟨by rw[a];decide,zs.map Value.string,?_,Anu b a zs,λu c=>?_⟩
 ·rw[a,aB];exact h
 ·obtain⟨z,_,rfl⟩:=bX.1 c
  rfl
theorem Afl (d:List (List UInt8))(cu:Array Value)(h:d.length<=cu.size):((Sort.putCells Proofs.encStr 0 d.toArray cu).toList).take d.length=d.map Proofs.encStr:=by
 apply aR
 intro j
 rw[aU,aI]
 by_cases a:j<d.length
 ·rw[if_pos a]
  have b:j<cu.size:=by omega
  simp[Sort.putCells,a,b]
 ·rw[if_neg a,cC (by omega)];rfl
theorem Atj {g n cap m:Nat}{cs:List Value}{q:Nat}{os:Array Obj}{d:List (List UInt8)}(c:w.ownsRow 0 te 1 (.slice (some ⟨g,0,none⟩) n cap) n cs)(hd:d.length=n)(C:m<=n)
  (r:w'=Sort.grow (Sort.putRow Proofs.encStr (Sort.ahead w q) g 0 d.toArray) os):
  w'.ownsRow 0 te 1 (.slice (some ⟨g,0,none⟩) m cap) m ((d.take m).map Proofs.encStr)/\Hz (· =g) w w':=by
 obtain⟨F,⟨h,_⟩ | ⟨G,cap',cu,x,H,t,I,y,u,J⟩⟩:=c
 ·cases h
 ·injection x with i1 i2 z
  injection i1 with i1;injection i1 with i1
  subst i1;subst z
  have i:g<w.heap.size:=(aN.1 t).1
  have a:(Sort.putRow Proofs.encStr (Sort.ahead w q) g 0 d.toArray).heap.size =w.heap.size:=by simp[Sort.putRow,Sort.mapBlock,Sort.ahead]
  have A:w'.heap[g]?=some (.cells (Sort.putCells Proofs.encStr 0 d.toArray cu) te (0,0)):=by
   rw[r]
   show((Sort.putRow Proofs.encStr (Sort.ahead w q) g 0 d.toArray).heap ++os)[g]?=_
   rw[aO (by rw[a];exact i)]
   simp only[Sort.putRow,Sort.mapBlock,Sort.ahead,aH,Zt,t,bD,Sort.onCells]
  have j:d.length<=cu.size:=by rw[u,hd];omega
  refine⟨⟨by rw[aB,List.length_take];omega,.inr ⟨g,cap,_,rfl,bF _,A,by omega,y,?_,?_⟩⟩,?_⟩
  ·rw[<-u];simp[Sort.putCells]
  ·rw[bN,List.map_take,<-Afl d cu j,List.take_take,Nat.min_eq_left (by omega)]
  ·subst r
   refine⟨rfl,rfl,rfl,?_,λb B o=>?_⟩
   ·rw[Sort.size_grow,a];exact cM _ _
   ·show((Sort.putRow Proofs.encStr (Sort.ahead w q) g 0 d.toArray).heap ++os)[b]?=_
    rw[aO (by rw[a];exact B)]
    simp only[Sort.putRow,Sort.mapBlock,Sort.ahead,aH]
    rw[if_neg (λe=>o e.symm)]
theorem Aji {g n cap:Nat}{zs:List ByteArray}(a:w.ownsRow 0 te 1 (.slice (some ⟨g,0,none⟩) n cap) n (zs.map Value.string)):Sort.Holds Proofs.encStr w g 0 (zs.map (·.data.toList)).toArray /\g<w.heap.size/\n=zs.length/\n<=cap:=by
 obtain⟨d,⟨h,_⟩ | ⟨t,cap',cu,e,u,c,i,x,y,m⟩⟩:=a
 ·cases h
 ·injection e with i1 i2 o
  injection i1 with i1;injection i1 with i1
  subst i1;subst o
  have q:n=zs.length:=by rw[aB]at d;omega
  refine⟨λj b=>?_,(aN.1 c).1,q,i⟩
  have b:j<zs.length:=by simpa using b
  have r:cu[j]?=some (.string zs[j]):=by
   have:(cu.toList.take (n * 1))[j]?=some (.string zs[j]):=by
    rw[m,aI,aS b];rfl
   rw[aU]at this
   split at this
   ·simpa using this
   ·cases this
  refine⟨?_,by simp[World.frozen?,c]⟩
  simp only[World.cell?,c,cJ]
  rw[r]
  congr 1
  rw[<-A53]
  simp[b]
end
theorem Avs {P:Program}{te ts:TypeId}{f:FuncId}{fn:Func}{al:Bool}(d:P.underlying te=some .string)(t:Ag P te=1)(u:P.underlying ts=some (.slice te))
  (F:P.funcs[f]?=some fn) (h:(fn.name == "runtime.NumGoroutine")=false) (i:fn.body.isNone=false)
  (j: ∀ (b cap:Nat) (ss:List (List UInt8)) (w:World),Sort.Holds Proofs.encStr w b 0 ss.toArray->b<w.heap.size->ss.length<4611686018427387904->Calls P f #[.slice (some ⟨b,0,none⟩) ss.length cap] w λe w'=>
   e= .returned (.tuple #[])/\ ∃n os,w'=Sort.grow (Sort.putRow Proofs.encStr (Sort.ahead w n) b 0 (ss.mergeSort λx y=>decide (x<=y)).toArray) os)
  (z: ∀ (w:World),Calls P f #[.slice none 0 0] w λe w'=>e= .returned (.tuple #[])/\w'=w):
  Im P O.Al7 ⟨f,[.arr ts],[],al⟩:=by
 intro w X xs args L rs c Y Z A o
 match args,c with
 | [],c=>exact c.elim
 | _::_::_,c=>obtain⟨_,_,_,_,_,_,_,c⟩:=c;exact c.elim
 | [v],c=>
 obtain⟨ys,zs,L1,L2,rfl,rfl,⟨e,ivs,rfl,rfl,r,B⟩,rfl,rfl⟩:=c
 rw[u]at r;injection r with r;injection r with r
 subst r
 obtain⟨zs,rfl,a⟩:=Ao6 d t B
 simp only[aJ,O.Al7,Nc,cN]at o
 rw[aA]at o
 obtain⟨hle,o⟩:=o
 injection o with o
 subst o
 have fin: ∀ (w':World),Hz (· ∈(blk v).toList ++ []) w w'->w'.ownsRow 0 te 1 v (Q8 zs).length ((Q8 zs).map Value.string)->Z3 P X ⟨f,[.arr ts],[],al⟩ [v] ((blk v).toList ++ []) [.list ((Q8 zs).map IV.str)] w (.tuple #[]) w':=by
  intro w' M N
  refine⟨M,[],[],[.list ((Q8 zs).map IV.str)],[],(blk v).toList,rfl,rfl,?_,?_,⟨rfl,rfl⟩,?_⟩
  ·cases blk v<;>simp
  ·intro b G;exact .inl (by simpa using G)
  ·simp only[Cr,cO,Zt]
   exact⟨_,[],(blk v).toList,[],rfl,by simp,⟨te,_,rfl,rfl,u,Am6 d t N⟩,rfl,rfl⟩
 have Q:(Q8 zs).length =zs.length:=(Qp zs).length_eq
 refine .inl ⟨_,F,h,i,?_⟩
 have H:=a
 rcases a.2 with⟨rfl,R⟩ | ⟨g,cap,cu,rfl,_⟩
 ·refine(z w).mono ?_
  rintro e w' ⟨rfl,rfl⟩
  have:zs= []:=aL.1 R
  subst this
  exact⟨_,rfl,fin w' (cK _ _) (by simpa [Q8]using a)⟩
 ·obtain⟨S,A,T,_⟩:=Aji a
  have J:=j g cap (zs.map (·.data.toList)) w S A (by simpa using hle)
  rw[aB]at J
  refine J.mono ?_
  rintro e w' ⟨rfl,q,os,U⟩
  obtain⟨K,C⟩:=Atj (m:=zs.length) a (by simp) (aK _) U
  refine⟨_,rfl,fin w' ⟨C.os,C.tape,C.output,C.size,λb G I=>C.stays b G λe=>I (by simp[blk,e])⟩ ?_⟩
  rw[Q]
  rw[bY (by simp)]at K
  rw[show(Q8 zs).map Value.string=((zs.map (·.data.toList)).mergeSort λx y=>decide (x<=y)).map Proofs.encStr from by rw[Wn,Amh,aQ];rfl]
  exact K
theorem Aik {P:Program}{te ts:TypeId}{f:FuncId}{fn:Func}{al:Bool}(j:P.underlying te=some .string)(z:Ag P te=1)(o:P.underlying ts=some (.slice te))(Y:leaves P ts=some [ts])(H:Ag P ts=1)
  (I:P.funcs[f]?=some fn) (r:(fn.name == "runtime.NumGoroutine")=false) (t:fn.body.isNone=false)
  (u: ∀ (b cap:Nat) (zs:List (List UInt8)) (w:World),Sort.Holds Proofs.encStr w b 0 zs.toArray->zs.length<=9223372036854775807->zs.length<=cap->Calls P f #[.slice (some ⟨b,0,none⟩) zs.length cap] w λe w'=>
   e= .returned (.slice (some ⟨b,0,none⟩) (Lib.compact zs).length cap)/\ ∃q,w'=Sort.putRow Proofs.encStr (Sort.ahead w q) b 0 (Lib.compact zs++cS (zs.length - (Lib.compact zs).length) []).toArray)
  (A: ∀ (w:World),Calls P f #[.slice none 0 0] w λe w'=>e= .returned (.slice none 0 0)/\w'=w):
  Im P O.N2 ⟨f,[.own ts],[.cells ts [true]],al⟩:=by
 intro w X xs args L rs i hn hX J x
 match args,i with
 | [],i=>exact i.elim
 | _::_::_,i=>obtain⟨_,_,_,_,_,_,_,i⟩:=i;exact i.elim
 | [v],i=>
 obtain⟨ys,zs,L1,L2,rfl,rfl,⟨e,ivs,rfl,rfl,y,B⟩,rfl,rfl⟩:=i
 rw[o]at y;injection y with y;injection y with y
 subst y
 obtain⟨zs,rfl,a⟩:=Ao6 j z B
 simp only[aJ,O.N2,Nc,cN]at x
 rw[aA]at x
 obtain⟨hle,x⟩:=x
 injection x with x
 subst x
 have C:Ak P ts=false:=by simp[Ak,o]
 have fin: ∀ (h:Value) (w':World),blk h=blk v->Hz (· ∈(blk v).toList ++ []) w w'->w'.ownsRow 0 te 1 h (Gw zs).length ((Gw zs).map Value.string)->Z3 P X ⟨f,[.own ts],[.cells ts [true]],al⟩ [v] ((blk v).toList ++ []) [.list ((Gw zs).map IV.str)] w h w':=by
  intro h w' K Z S
  have c:=(Me S).2.1
  refine⟨Z,[h],[.list ((Gw zs).map IV.str)],[],(blk h).toList,[],rfl,rfl,?_,?_,?_,by simp[Cr,cO]⟩
  ·cases blk h<;>simp
  ·intro b M;exact .inl (by simpa [K]using M)
  ·refine⟨[_],[],(blk h).toList,[],rfl,by simp,?_,rfl,rfl⟩
   refine⟨[ts],Y,?_,?_,?_⟩
   ·rw[H6 c,H];rfl
   ·rw[C];simpa using c
   ·rw[show h.cells.toList= [h]by rw[H6 c]]
    exact⟨[],⟨_,rfl,.inl ⟨te,o,Am6 j z S⟩⟩,rfl,by simp⟩
 refine .inl ⟨_,I,r,t,?_⟩
 rcases a.2 with⟨rfl,h0⟩ | ⟨g,cap,cu,rfl,_⟩
 ·refine(A w).mono ?_
  rintro e w' ⟨rfl,rfl⟩
  have:zs= []:=aL.1 h0
  subst this
  exact⟨_,rfl,fin _ w' rfl (cK _ _) (by simpa [Gw,Lib.compact,Lib.compactUpTo]using a)⟩
 ·obtain⟨hH,J,aa,F⟩:=Aji a
  have T:=u g cap (zs.map (·.data.toList)) w hH (by rw[aB];omega) (by rw[aB];exact F)
  rw[aB]at T
  refine T.mono ?_
  rintro e w' ⟨rfl,q,hw⟩
  have N:(Lib.compact (zs.map (·.data.toList))).length <=zs.length:=by
   have h1:(Lib.compact (zs.map (·.data.toList))).length <=(dB (zs.map (·.data.toList)).length).length :=by
    unfold Lib.compact Lib.compactUpTo
    rw[aB]
    exact List.length_filter_le _ _
   simpa using h1
  have Q:(Gw zs).length =(Lib.compact (zs.map (·.data.toList))).length :=by simp[Gw]
  obtain⟨U,G⟩:=Atj (m:=(Lib.compact (zs.map (·.data.toList))).length) (os:= #[]) (d:=Lib.compact (zs.map (·.data.toList))++cS (zs.length - (Lib.compact (zs.map (·.data.toList))).length) []) a (by rw[List.length_append,List.length_replicate];omega) N (by simpa using hw)
  refine⟨_,rfl,fin _ w' rfl ⟨G.os,G.tape,G.output,G.size,λb K R=>G.stays b K λe=>R (by simp[blk,e])⟩ ?_⟩
  rw[Q]
  rw[List.take_left' rfl]at U
  rw[show(Gw zs).map Value.string=(Lib.compact (zs.map (·.data.toList))).map Proofs.encStr from by rw[Gw,aQ];rfl]
  exact U
theorem Aux {P:Program}{te ts ti:TypeId}{f:FuncId}{fn:Func}{al:Bool}{i0:TypeInfo}{z:Value}(aa:P.info? te=some i0)(ab:z.cells.size=i0.size)(A:P.underlying ts=some (.slice te))(ac:P.underlying ti=some (.int .i64))(hl:leaves P ts=some [ts])(ad:Ag P ts=1)
  (ae:P.funcs[f]?=some fn) (B:(fn.name == "runtime.NumGoroutine")=false) (C:fn.body.isNone=false)
  (F: ∀ (base:Option Addr) (l c n:Nat) (w:World),l<=c->c<=9223372036854775807->n<=9223372036854775807->l+n<=c->Calls P f #[.slice base l c,.int .i64 n] w λe w'=>e= .returned (.slice base l c)/\w'=w)
  (H: ∀ (base:Option Addr) (l c n:Nat) (cs:List Value) (w:World),l<=c->c<l+n->(l+n) * i0.bytes<=140737488355328->l+n<=4611686018427387904->cs.length=c * i0.size->(base=none->c=0)->
   (∀a,base=some a-> ∀j v,cs[j]?=some v->w.cell? (a.add j)=some v)->Calls P f #[.slice base l c,.int .i64 n] w λe w'=>
   e= .returned (.slice (some ⟨w.heap.size,0,none⟩) l (grownCap w (l+n) c te))/\
   w'=w.drew.alloc (.cells (cs.toArray++Builtin.zeroCells z.cells (l+n - c)++Builtin.zeroCells z.cells (grownCap w (l+n) c te - (l+n))) te)):
  Im P (O.Akj i0.bytes) ⟨f,[.own ts,.data ti],[.cells ts [true]],al⟩:=by
 intro w X xs args L rs o hn hX ap I
 match args,o with
 | [],o=>exact o.elim
 | [_],o=>obtain⟨_,_,_,_,_,_,_,o⟩:=o;exact o.elim
 | _::_::_::_,o=>obtain⟨_,_,_,_,_,_,_,_,_,_,_,_,_,_,o⟩:=o;exact o.elim
 | [v,u],o=>
 obtain⟨ys,zs,L1,L2,rfl,rfl,⟨e,ivs,rfl,rfl,N,Q⟩,aq,zs',L1',L2',rfl,rfl,⟨x,rfl,rfl,hx⟩,rfl,rfl⟩:=o
 rw[A]at N;injection N with N;injection N with N
 subst N
 obtain⟨n,rfl,rfl⟩:=hx.Ih ac
 simp only[aJ,aT,aP,O.Akj]at I
 rw[aA]at I
 obtain⟨⟨af,ag,R⟩,I⟩:=I
 injection I with I
 subst I
 obtain⟨m,rfl⟩:=bU af
 simp only[Int.toNat_natCast]at ag R
 have t:Ag P te=i0.size:=by simp[Ag,aa]
 have S:Ak P ts=false:=by simp[Ak,A]
 have ar:Bc=140737488355328:=rfl
 have an:maxLen=9223372036854775807:=by decide
 have fin: ∀ (J:Value) (w':World) (L1:List Nat),(blk J).toList =L1->L1.Nodup->(∀b∈L1,b∈(blk v).toList ++ []\/w.heap.size<=b)->Hz (· ∈(blk v).toList ++ []) w w'->Hw P w' (λb=>X b\/b∈L1++ []) te ivs J->
   Z3 P X ⟨f,[.own ts,.data ti],[.cells ts [true]],al⟩ [v,.int .i64 (m:Nat)] ((blk v).toList ++ []) [.list ivs] w J w':=by
  intro J w' L1 r ah T hs y
  have d:=(Me (y.2.choose_spec.1)).2.1
  refine⟨hs,[J],[.list ivs],[],L1,[],rfl,rfl,by simpa using ah,λb r=>T b (by simpa using r),?_,by simp[Cr,cO]⟩
  refine⟨[_],[],L1,[],rfl,by simp,?_,rfl,rfl⟩
  refine⟨[ts],hl,?_,?_,?_⟩
  ·rw[H6 d,ad];rfl
  ·rw[S];simpa using d
  ·rw[show J.cells.toList= [J]by rw[H6 d]]
   exact⟨[],⟨_,rfl,.inl ⟨te,A,y⟩⟩,rfl,by simp[r]⟩
 obtain⟨U,cs,q,Y,d⟩:=Q
 refine .inl ⟨_,ae,B,C,?_⟩
 obtain⟨base,l,c,i,rfl,ai,K,ao,M,Z,aj,ak⟩: ∃ (base:Option Addr) (l c:Nat) (i:List Value),v= .slice base l c/\l=ivs.length/\l<=c/\c<=maxLen/\i.length=c * i0.size/\(base=none->c=0)/\
   (∀a,base=some a-> ∀j u,i[j]?=some u->w.cell? (a.add j)=some u)/\i.take (l * i0.size)=cs:=by
  rcases q.2 with⟨rfl,h0⟩ | ⟨g,cap,cu,rfl,h2,h3,h4,h5,h6,h7⟩
  ·refine⟨none,0,0,[],rfl,h0.symm,aK _,bF _,by simp,λ_=>rfl,(λa h=>by cases h),?_⟩
   have:cs.length=0:=by rw[q.1,h0,Nat.zero_mul]
   rw[aL.1 this];simp
  ·refine⟨_,_,_,cu.toList,rfl,rfl,h4,h5,by rw[Array.length_toList,h6,t],(λh=>by cases h),λa ha j u hu=>?_,by rw[<-t];exact h7⟩
   injection ha with ha
   subst ha
   rw[N1]
   simp only[World.cell?,h3]
   simpa using hu
 subst ai
 by_cases o:ivs.length+m<=c
 ·refine(F base ivs.length c m w K (by omega) (by omega) o).mono ?_
  rintro e w' ⟨rfl,rfl⟩
  refine⟨_,rfl,fin _ w' _ rfl (by cases base<;>simp[blk]) (λb r=> .inl (by simpa using r)) (cK _ _) ⟨U,cs,q,Y,d⟩⟩
 ·refine(H base ivs.length c m i w K (by omega) (by omega) R M Z aj).mono ?_
  rintro e w' ⟨rfl,rfl⟩
  have au:=grownCap_ge w (ivs.length+m) c te
  generalize hG:grownCap w (ivs.length+m) c te=G at *
  have am:G<=maxLen:=by rw[<-hG];exact grownCap_le_maxLen w _ _ _ (by omega)
  have hsteps:Hz (· ∈(blk (.slice base ivs.length c)).toList ++ []) w (w.drew.alloc (.cells (i.toArray++Builtin.zeroCells z.cells (ivs.length+m - c)++Builtin.zeroCells z.cells (G - (ivs.length+m))) te)):=
   ⟨rfl,rfl,rfl,by rw[World.size_alloc];exact Nat.le_succ _,λb r _=>heap_alloc_old w.drew _ r⟩
  refine⟨_,rfl,fin _ _ [w.heap.size] rfl (by simp) (λb r=> .inr (by simp at r;omega)) hsteps ⟨U,cs,⟨by rw[q.1],.inr ⟨w.heap.size,G,_,rfl,bF _,heap_alloc_new w.drew _,by omega,am,?_,?_⟩⟩,λj x hx=>?_,d⟩⟩
  ·simp only[Array.size_append,aW,size_zeroCells,M,t,ab]
   rw[<-cW,<-cW]
   congr 1;omega
  ·rw[cE,cE,List.append_assoc,t]
   rw[List.take_append_of_le_length (by
    show ivs.length * i0.size<=i.toArray.toList.length
    rw[show i.toArray.toList=i from rfl,M];exact cD _ K)]
   exact ak
  ·obtain⟨v0,h1,h2,h3⟩:=Y j x hx
   refine⟨v0,Rel.mono h1 (λb r y=>?_) (λb r _=>heap_alloc_old w.drew _ r),h2,h3⟩
   rcases y with y | y
   ·exact .inl y
   ·simp at y;omega
end Go.CT
namespace Go.Proofs.Coll
open Go Go.CT Go.Proofs Go.RowKit Go.Shelf
attribute [local go_sem] Oper.semAt_some
def upto (f:Nat->ByteArray)(k:Nat):List ByteArray:=(dB k).map f
theorem Au0 (f:Nat->ByteArray)(k:Nat):upto f (k+1)=upto f k++ [f k]:=by simp[upto,List.range_succ]
theorem Al3 (f:Nat->ByteArray)(k:Nat):(upto f k).length =k:=by simp[upto]
theorem Axv (zs:List ByteArray):upto (λj=>zs[j]?.getD ⟨#[]⟩) zs.length=zs:=by
 apply List.ext_getElem
 ·simp[upto]
 ·intro i b a
  simp[upto,a]
set_option maxRecDepth 100000 in
set_option maxHeartbeats 2000000 in
theorem Arx (F:Fence)(n:Nat)(h7:F.fn 232)(hro:F.round=none)(hn:1<=n)(l:Nat)(ap ad:Addr)(n₀ len cap:Nat)(zs:List ByteArray)(hlen:len<=maxLen)(hb:ad.block<n₀)(J Jx:List ByteArray->World->Prop)
  (hY: ∀pre x W,J pre W->pre.length<len->YieldAt F (n - 1) Tryz.prog l #[.string x] W λe W'=>
   (e= .returned (.bool true)/\J (pre++ [x]) W'/\Below n₀ W W')\/(e= .returned (.bool false)/\Jx (pre++ [x]) W'))
  (W:World) (hBs:W.cell? ap=some (.slice (some ad) len cap)) (hc: ∀j,j<len->W.cell? (ad.add j)=some (.string (zs[j]?.getD ⟨#[]⟩))) (h0:J [] W):
  CallsIn F n Tryz.prog 232 #[.func (.yield l) #[] #[],.pointer (some ap)] W λe W'=>(∃v,e= .returned v)/\
   ((∃ys,ys=upto (λj=>zs[j]?.getD ⟨#[]⟩) len/\J ys W')\/(∃pre:List ByteArray,True/\Jx pre W')):=by
 refine callsIn_of_wp Tryz.func232 rfl h7 ?_ hro
 simp only[Tryz.ntmps232,aW,bJ,bL,bP,bQ,aY,aZ,bH,bC,aP,aT]
 have hmax:maxLen=9223372036854775807:=by decide
 gi_wp2
 gi_loopw [7] (λi wr=> ∃k:Nat,k<=len/\i= .int .i64 k/\J (upto (λj=>zs[j]?.getD ⟨#[]⟩) k) wr/\Below n₀ W wr)
  (λi _=>len - (intOf i).toNat)
 case atStart=>exact⟨0,bF _,rfl,h0,Below.refl _ _⟩
 case round=>
  obtain⟨k,hk,rfl,hJs,hnx⟩:=hrel
  have hcx:k<len->wr.cell? (ad.add k)=some (.string (zs[k]?.getD ⟨#[]⟩)):=λh=>(hnx.cell (by rw[CT.Ec];exact hb)).trans (hc k h)
  by_cases hlt:k<len
  ·obtain⟨fn,tmps,assign,body,hy,hR⟩:=hY _ (zs[k]?.getD ⟨#[]⟩) wr hJs (by rw[Al3];exact hlt)
   have hcx':=hcx hlt
   gi_wp2
   refine hR.mono ?_
   rintro e W3 (⟨rfl,hJ3,hk3⟩ | ⟨rfl,hJx3⟩)
   ·gi_wp2
    go_roundw
    case rel=>exact⟨k+1,by omega,by simp,by rw[Au0];exact hJ3,hnx.trans hk3⟩
    case measure=>simp[intOf];omega
   ·gi_wp2
    refine bodyPost_ret (results_none rfl _ _ _) rfl ?_
    exact⟨⟨_,rfl⟩,.inr ⟨_,trivial,hJx3⟩⟩
  ·obtain rfl:k=len:=by omega
   gi_wp2
   go_end0
   exact⟨⟨_,rfl⟩,.inl ⟨_,rfl,hJs⟩⟩
set_option maxRecDepth 100000 in
set_option maxHeartbeats 1000000 in
theorem Aa2 (F:Fence)(n:Nat)(h7:F.fn 232)(hro:F.round=none)(l:Nat)(ap:Addr)(A:Option Addr)(cap:Nat)(J:List ByteArray->World->Prop)(W:World)(hBs:W.cell? ap=some (.slice A 0 cap))(h0:J [] W):
  CallsIn F n Tryz.prog 232 #[.func (.yield l) #[] #[],.pointer (some ap)] W λe W'=>(∃v,e= .returned v)/\J [] W':=by
 refine callsIn_of_wp Tryz.func232 rfl h7 ?_ hro
 simp only[Tryz.ntmps232,aW,bJ,bL,bP,bQ,aY,aZ,bH,bC,aP,aT]
 gi_wp2
 gi_loopw [7] (λi wr=>i= .int .i64 0/\J [] wr) (λ_ _=>0)
 case atStart=>exact⟨rfl,h0⟩
 case round=>
  obtain⟨rfl,hJs⟩:=hrel
  gi_wp2
  go_end0
  exact⟨⟨_,rfl⟩,hJs⟩
theorem Ahy (F:Fence)(n:Nat)(i:F.fn 232)(b:F.round=none)(o:1<=n)(ap:Addr)(n₀:Nat)(sv:Value)(zs:List ByteArray)(w:World)(h:ap.block<w.heap.size)(hn₀:n₀<=w.heap.size)
  (q:w.cell? ap=some sv) (r:A00 n₀ w sv zs):
  SeqStopsK F n Tryz.prog 232 #[.pointer (some ap)] (λx:ByteArray=> #[Value.string x]) (Below n₀) (λys=>ys=zs) (λ_=>True) zs.length w:=λl J Jx W j _ _ t m=>by
 have c:=(j.cell (p:=ap) h).trans q
 obtain⟨A,cap,rfl,u,a⟩:=r.below (j.mono hn₀)
 cases zs with
 | nil=>exact(Aa2 F n i b l ap A cap J W c m).mono λe W' ⟨g,d⟩=>⟨g,.inl ⟨_,rfl,d⟩⟩
 | cons z zs=>
  obtain⟨ad,rfl,y,a⟩:=a (by simp)
  refine(Arx F n i b o l ap ad n₀ _ cap (z::zs) u y J Jx t W c a m).mono ?_
  rintro e W' ⟨g,⟨ys,rfl,d⟩ | ⟨pre,_,d⟩⟩
  ·exact⟨g,.inl ⟨_,Axv _,d⟩⟩
  ·exact⟨g,.inr ⟨_,trivial,d⟩⟩
end Go.Proofs.Coll
namespace Go.Proofs.Coll
open Go Go.CT Go.Proofs Go.RowKit Go.Shelf
attribute [local go_sem] Oper.semAt_some
theorem A56:(Tryz.prog.info? 9).map (λi=>(i.zero,i.size,i.bytes))=some (some (.string ⟨#[]⟩),1,16):=by kernel_rfl
theorem Y6:Tryz.prog.underlying 22=some (.slice 9):=by kernel_rfl
set_option maxRecDepth 100000 in
set_option maxHeartbeats 2000000 in
theorem Ail (F:Fence)(n:Nat)(hA:F.fn 276)(hV:F.fn 232)(hro:F.round=none)(hn:3<=n)(ap:Addr)(sv:Value)(zs:List ByteArray)(w:World)(hb:zs.length * 16<=140737488355328)(hBs:ap.block<w.heap.size)
  (hc:w.cell? ap=some sv) (hI:A00 w.heap.size w sv zs):
  CallsIn F n Tryz.prog 276 #[.slice none 0 0,.func (.func 232) #[] #[.pointer (some ap)]] w λe w'=>
   ∃v,e= .returned v/\w'.ownsRow w.heap.size 9 1 v zs.length (zs.map .string)/\Below w.heap.size w w':=by
 have h1:1<=n:=by omega
 have hmax:maxLen=9223372036854775807:=by decide
 refine callsIn_of_wp_marks Tryz.func276 rfl hA ?_ hro
 simp only[Tryz.ntmps276,aW,bJ,bL,bP,bQ,aY,aZ,bH,bC,aP,aT]
 gi_wp2
 have bS:=Boxed.new w 22 (.slice none 0 0)
 have hB0:Below w.heap.size w (w.alloc (.cells #[.slice none 0 0] 22)):=(Below.refl _ w).alloc (aK _) _
 obtain⟨i0,hi,hz0,hz1,hz2⟩:=info_parts A56
 refine wpIn_rangeFunc_ownG hro h1 (gf:=232) (lb:= #[.pointer (some ap)]) rfl hV (enters_of Tryz.func232 (by kernel_rfl) rfl)
  (Ahy F (n - 1) hV hro (by omega) ap w.heap.size _ zs _ (by simp;omega) (by simp) ((hB0.cell (p:=ap) hBs).trans hc) (hI.below hB0)) belowK_t (belowK_b (by simp)) (Below.refl _ _) (λ_=>rfl)
  (λpre W=>(∃v,Boxed W w.heap.size 22 v/\W.ownsRow w.heap.size 9 1 v pre.length (pre.map Value.string)/\True)/\Below w.heap.size w W)
  (λ_ _ _=>False)
  (OwnFrom.and (Own.from (holdsRow_own w.heap.size w.heap.size 22 9 1 (λpre:List ByteArray=>pre.length) (λpre=>pre.map Value.string) (λ_ _=>True)) _) (ownFrom_below (aK _) (by simp)))
  (λ_ _ _ _ _ hs _ _=>hs)
  ⟨⟨_,bS,World.ownsRow_nil _ _ _ _,trivial⟩,hB0⟩
  (λx=> {tmps:= #[.slice none 0 0,.func (.func 232) #[] #[.pointer (some ap)],.pointer (some ⟨w.heap.size,0,none⟩),undef,.slice none 0 0,.string x,.func (.func 232) #[] #[.pointer (some ap)],.string x,undef,undef,undef,undef,undef],defers:= []}) ?assign ?body ?done ?stop
 case assign=>
  intro l x W K hK
  gi_wp2
  exact hK
 case body=>
  rintro l pre x W ⟨⟨v,hv,hrow,_⟩,hB⟩ hle
  have hvc:=hv.cell
  have hsz:=hB.size
  gi_wp2_with (first
   | (gi_at_builtin;refine wpListIn_append_own _ rfl _ _ 22 rfl w.heap.size 9 i0 _ 1 16 Y6 hi hz0 hz1 hz2 rfl (by decide) _ _ _ rfl (hrow.alloc _) ⟨W.heap.size,0,none⟩ 1 1 [.string x] rfl rfl (cell_one_new _ _ _) (by simp[Value.oneCell']) (by omega) (by omega) (by simp;omega) ?_;intro v' w1 hown' hgrow _;obtain⟨g',cap',rfl⟩:=ownsRow_succ hown';obtain⟨hv1,hv2,hr2,hk2,hb2⟩:=hv.appended (by decide) hrow hB.size (aK _) hown' hgrow;have hc1:=hv1.cell;have hf1:=hv1.frozen)
   | gi_in)
  exact⟨hk2.from _,hb2,⟨_,hv2,by simpa using hr2,trivial⟩,hB.trans hb2⟩
 case done=>
  rintro D ys W hD rfl ⟨⟨v,hv,hrow,_⟩,hB⟩ hK
  have hvc:=hv.cell
  gi_wp2
  refine⟨by simp,.inl ⟨_,_,rfl,run_takeDeferred hK,?_⟩⟩
  refine⟨_,results_tmp rfl _ _ _,_,rfl,ownsRow_putObj hrow _ hK rfl,hB.trans (belowK_b (w:=w) (aK _) W D _ _ (by simp at hD;omega) hK rfl rfl)⟩
 case stop=>
  rintro D c pre W _ _ h _
  exact h.elim
set_option maxHeartbeats 1000000 in
theorem Ap8 (F:Fence)(n:Nat)(hC:F.fn 230)(hA:F.fn 276)(hV:F.fn 232)(hro:F.round=none)(hn:4<=n)(ap:Addr)(sv:Value)(zs:List ByteArray)(w:World)(hb:zs.length * 16<=140737488355328)(hBs:ap.block<w.heap.size)
  (hc:w.cell? ap=some sv) (hI:A00 w.heap.size w sv zs):
  CallsIn F n Tryz.prog 230 #[.func (.func 232) #[] #[.pointer (some ap)]] w λe w'=>
   ∃v,e= .returned v/\w'.ownsRow w.heap.size 9 1 v zs.length (zs.map .string)/\Below w.heap.size w w':=by
 have h1:1<=n:=by omega
 refine callsIn_of_wp Tryz.func230 rfl hC ?_ hro
 simp only[Tryz.ntmps230,aW,bJ,bL,bP,bQ,aY,aZ,bH,bC,aP,aT]
 gi_wp2_with (gi_at_call 276;refine(Ail F (n - 1) hA hV hro (by omega) ap sv zs w hb hBs hc hI).mono ?_;rintro e w' ⟨v,rfl,hrow,hB⟩)
 go_ret
 exact⟨v,rfl,hrow,hB⟩
end Go.Proofs.Coll
namespace Go.Proofs.Coll
open Go Go.CT Go.Proofs Go.RowKit Go.Shelf
theorem Aqj {al:Bool} :Im Tryz.prog O.Ni ⟨230,[.fn 232 [22]],[.cells 22 [true]],al⟩:=
 Aij (te:=9) (by kernel_rfl) (by kernel_rfl) Y6 (by kernel_rfl) (by kernel_rfl) Tryz.func230 (by kernel_rfl) (by kernel_rfl)
  λad sv zs w a b c d=>callsIn_wide.1 (Ap8 Fence.wide 4 trivial trivial trivial rfl (aK _) ad sv zs w a b c d)
end Go.Proofs.Coll
namespace Go.Proofs
open Go.Shelf
def Tryz.Ali:Ren:=⟨λx=>match x with | 125=>164 | 128=>227 | 129=>228 | 190=>231 | 258=>277 | 302=>290 | 303=>291 | 304=>292 | 305=>293 | 306=>294 | 307=>295 | 308=>296 | 309=>297 | 310=>298 | 329=>272 | 330=>273 | 333=>308 | 334=>309 | 335=>310 | 336=>311 | 344=>320 | n=>n,λx=>match x with | 31=>22 | 46=>154 | 51=>204 | 53=>206 | 131=>185 | 182=>197 | 183=>198 | 218=>236 | 222=>240 | 228=>248 | 229=>249 | n=>n,λn=>n⟩
theorem Tryz.Aw3:cX Tryz.prog Tryz.Ali where
 mixed:=by kernel_rfl
 f125:=by kernel_rfl
 f128:=by kernel_rfl
 f129:=by kernel_rfl
 f190:=by kernel_rfl
 f258:=by kernel_rfl
 f302:=by kernel_rfl
 f303:=by kernel_rfl
 f304:=by kernel_rfl
 f305:=by kernel_rfl
 f306:=by kernel_rfl
 f307:=by kernel_rfl
 f308:=by kernel_rfl
 f309:=by kernel_rfl
 f310:=by kernel_rfl
 f329:=by kernel_rfl
 f330:=by kernel_rfl
 f333:=by kernel_rfl
 f334:=by kernel_rfl
 f335:=by kernel_rfl
 f336:=by kernel_rfl
 f344:=by kernel_rfl
 t0:=by kernel_rfl
 a0:=Tryz.isAgg0
 z0:=Tryz.sizeOf0
 v0:=Tryz.zeroValue0
 t3:=by kernel_rfl
 a3:=Tryz.isAgg3
 z3:=Tryz.sizeOf3
 v3:=Tryz.zeroValue3
 t4:=by kernel_rfl
 a4:=Tryz.isAgg4
 z4:=Tryz.sizeOf4
 v4:=Tryz.zeroValue4
 t5:=by kernel_rfl
 a5:=Tryz.isAgg5
 z5:=Tryz.sizeOf5
 v5:=Tryz.zeroValue5
 t9:=by kernel_rfl
 a9:=Tryz.isAgg9
 z9:=Tryz.sizeOf9
 v9:=Tryz.zeroValue9
 t31:=by kernel_rfl
 a31:=Tryz.isAgg22
 z31:=Tryz.sizeOf22
 v31:=Tryz.zeroValue22
 t46:=by kernel_rfl
 a46:=Tryz.isAgg154
 z46:=Tryz.sizeOf154
 v46:=Tryz.zeroValue154
 t51:=by kernel_rfl
 a51:=Tryz.isAgg204
 z51:=Tryz.sizeOf204
 v51:=Tryz.zeroValue204
 t53:=by kernel_rfl
 a53:=Tryz.isAgg206
 z53:=Tryz.sizeOf206
 v53:=Tryz.zeroValue206
 t131:=by kernel_rfl
 a131:=Tryz.isAgg185
 z131:=Tryz.sizeOf185
 v131:=Tryz.zeroValue185
 t182:=by kernel_rfl
 a182:=Tryz.isAgg197
 z182:=Tryz.sizeOf197
 v182:=Tryz.zeroValue197
 t183:=by kernel_rfl
 a183:=Tryz.isAgg198
 z183:=Tryz.sizeOf198
 v183:=Tryz.zeroValue198
 t218:=by kernel_rfl
 a218:=Tryz.isAgg236
 z218:=Tryz.sizeOf236
 v218:=Tryz.zeroValue236
 t222:=by kernel_rfl
 a222:=Tryz.isAgg240
 z222:=Tryz.sizeOf240
 v222:=Tryz.zeroValue240
 t228:=by kernel_rfl
 a228:=Tryz.isAgg248
 z228:=Tryz.sizeOf248
 v228:=Tryz.zeroValue248
 t229:=by kernel_rfl
 a229:=Tryz.isAgg249
 z229:=Tryz.sizeOf249
 v229:=Tryz.zeroValue249
def Tryz.Al6:Ren:=⟨λx=>match x with | 194=>168 | n=>n,λx=>match x with | 31=>22 | n=>n,λn=>n⟩
theorem Tryz.Axi:cY Tryz.prog Tryz.Al6 where
 mixed:=by kernel_rfl
 f194:=by kernel_rfl
 t0:=by kernel_rfl
 a0:=Tryz.isAgg0
 z0:=Tryz.sizeOf0
 v0:=Tryz.zeroValue0
 t3:=by kernel_rfl
 a3:=Tryz.isAgg3
 z3:=Tryz.sizeOf3
 v3:=Tryz.zeroValue3
 t4:=by kernel_rfl
 a4:=Tryz.isAgg4
 z4:=Tryz.sizeOf4
 v4:=Tryz.zeroValue4
 t9:=by kernel_rfl
 a9:=Tryz.isAgg9
 z9:=Tryz.sizeOf9
 v9:=Tryz.zeroValue9
 t31:=by kernel_rfl
 a31:=Tryz.isAgg22
 z31:=Tryz.sizeOf22
 v31:=Tryz.zeroValue22
def Tryz.Arr:Ren:=⟨λx=>match x with | 4=>171 | n=>n,λx=>match x with | 25=>9 | n=>n,λn=>n⟩
theorem Tryz.Az5:dC Tryz.prog Tryz.Arr where
 mixed:=by kernel_rfl
 f4:=aF "slices.Grow[[]string,string]" ⟨by decide,by kernel_rfl⟩
 t0:=by kernel_rfl
 a0:=Tryz.isAgg0
 z0:=Tryz.sizeOf0
 v0:=Tryz.zeroValue0
 t3:=by kernel_rfl
 a3:=Tryz.isAgg3
 z3:=Tryz.sizeOf3
 v3:=Tryz.zeroValue3
 t4:=by kernel_rfl
 a4:=Tryz.isAgg4
 z4:=Tryz.sizeOf4
 v4:=Tryz.zeroValue4
 t9:=by kernel_rfl
 a9:=Tryz.isAgg9
 z9:=Tryz.sizeOf9
 v9:=Tryz.zeroValue9
 t20:=by kernel_rfl
 a20:=Tryz.isAgg20
 z20:=Tryz.sizeOf20
 v20:=Tryz.zeroValue20
 t22:=by kernel_rfl
 a22:=Tryz.isAgg22
 z22:=Tryz.sizeOf22
 v22:=Tryz.zeroValue22
namespace Coll
open Go.CT
theorem A3h {al:Bool} :Im Tryz.prog O.Al7 ⟨231,[.arr 22],[],al⟩:=
 Avs (te:=9) (by kernel_rfl) (by kernel_rfl) Y6 Tryz.func231 (by kernel_rfl) (by kernel_rfl)
  (λb cap ss w a c d=>Any.slices_Sort_string Tryz.Aw3 b 0 cap ss w a c d) λw=>Any.slices_Sort_string_none Tryz.Aw3 none 0 w
theorem Aq6 {al:Bool} :Im Tryz.prog O.N2 ⟨168,[.own 22],[.cells 22 [true]],al⟩:=
 Aik (te:=9) (by kernel_rfl) (by kernel_rfl) Y6 (by kernel_rfl) (by kernel_rfl) Tryz.func168 (by kernel_rfl) (by kernel_rfl)
  (λb cap zs w a c d=>bV λD=>AnyS.slices_Compact_string_in Tryz.Axi D b 0 cap zs w a c d) λw=>bV λD=>AnyS.slices_Compact_string_empty_in Tryz.Axi D none 0 w
theorem A4b {al:Bool} :Im Tryz.prog (O.Akj 16) ⟨171,[.own 22,.data 3],[.cells 22 [true]],al⟩:=by
 obtain⟨i0,j,b,a,d⟩:=Go.info_parts A56
 rw[<-d]
 exact Aux j (by rw[a];rfl) Y6 (by kernel_rfl) (by kernel_rfl) (by kernel_rfl) Tryz.func171 (by kernel_rfl) (by kernel_rfl)
  (λbase l c n w e g h i=>Any8.slices_Grow_room Tryz.Az5 base l c n w e g h i)
  λbase l c n cs w e g h i m o q=>Any8.slices_Grow_grow Tryz.Az5 i0 _ j b (by rw[a];decide) base l c n cs w e g h i m o q
end Coll
end Go.Proofs
namespace Go.CT
open Go.RowKit
def nmV:Value->ByteArray
 | .string s=>s
 | _=>⟨#[]⟩
def El (k:Nat):Type:= {c:List Value // c.length=k/\(∃s r,c= .string s::r)/\ ∀u∈c,u.oneCell'=true}
def El.nm {k:Nat}(x:El k):ByteArray:=nmV (x.1.headD (.bool false))
def ltE {k:Nat}(x y:El k):Bool:=Op.bytesLess x.nm.data.toList y.nm.data.toList
def keyN:IV->Option ByteArray
 | .agg (.str s::_)=>some s
 | _=>none
def Ako:List IV->Option (List ByteArray)
 | []=>some []
 | x::xs=>(keyN x).bind λk=>(Ako xs).map (k:: ·)
section
variable {β γ:Type}
def Atn (x:ByteArray × β):List (ByteArray × β)->List (ByteArray × β)
 | []=> [x]
 | y::r=>if Op.bytesLess y.1.data.toList x.1.data.toList then y::Atn x r else x::y::r
def H5:List (ByteArray × β)->List (ByteArray × β)
 | []=> []
 | x::r=>Atn x (H5 r)
theorem Anm (f:β->γ)(x:ByteArray × β): ∀l,Atn (x.1,f x.2) (l.map λp=>(p.1,f p.2))=(Atn x l).map λp=>(p.1,f p.2)
 | []=>rfl
 | y::r=>by
  simp only[Atn,bR]
  split
  ·rw[Anm f x r];rfl
  ·rfl
theorem Ah6 (f:β->γ): ∀l:List (ByteArray × β),H5 (l.map λp=>(p.1,f p.2))=(H5 l).map λp=>(p.1,f p.2)
 | []=>rfl
 | x::r=>by rw[bR,H5,Ah6 f r,H5,Anm]
theorem Zw (x:ByteArray × β): ∀l,(Atn x l).Perm (x::l)
 | []=>aX _
 | y::r=>by
  rw[Atn]
  split
  ·exact((Zw x r).cons y).trans (cR x y r)
  ·exact aX _
theorem Ab7: ∀l:List (ByteArray × β),(H5 l).Perm l
 | []=>aX _
 | x::r=>(Zw x _).trans ((Ab7 r).cons x)
def LEB (a b:ByteArray):Prop:=Op.bytesLess b.data.toList a.data.toList=false
theorem Axq: ∀l:List UInt8,Op.bytesLess l l=false
 | []=>rfl
 | a::l=>by simp[Op.bytesLess,Axq l]
theorem Af5: ∀ {a b c:List UInt8},Op.bytesLess a b=true->Op.bytesLess b c=true->Op.bytesLess a c=true
 | _,_,[],_,h=>by simp[Op.bytesLess]at h
 | _,[],_::_,h,_=>by simp[Op.bytesLess]at h
 | [],_::_,_::_,_,_=>by simp[Op.bytesLess]
 | a::x,b::y,c::z,e,d=>by
  simp only[Op.bytesLess,bE,decide_eq_true_eq,bA,beq_iff_eq]at e d ⊢
  rcases e with e | ⟨rfl,e⟩
  ·rcases d with d | ⟨rfl,d⟩
   ·exact .inl (cQ e d)
   ·exact .inl e
  ·rcases d with d | ⟨rfl,d⟩
   ·exact .inl d
   ·exact .inr ⟨rfl,Af5 e d⟩
theorem Anf: ∀ (a b:List UInt8),Op.bytesLess a b=true\/a=b\/Op.bytesLess b a=true
 | [],[]=> .inr (.inl rfl)
 | [],_::_=> .inl (by simp[Op.bytesLess])
 | _::_,[]=> .inr (.inr (by simp[Op.bytesLess]))
 | a::x,b::y=>by
  simp only[Op.bytesLess,bE,decide_eq_true_eq,bA,beq_iff_eq,List.cons.injEq]
  rcases cG a.toNat b.toNat with h | h | h
  ·exact .inl (.inl (aV.2 h))
  ·have:a=b:=cP.1 h
   subst this
   rcases Anf x y with h | rfl | h
   ·exact .inl (.inr ⟨rfl,h⟩)
   ·exact .inr (.inl ⟨rfl,rfl⟩)
   ·exact .inr (.inr (.inr ⟨rfl,h⟩))
  ·exact .inr (.inr (.inl (aV.2 h)))
theorem LEB.trans {a b c:ByteArray}(d:LEB a b)(e:LEB b c):LEB a c:=by
 unfold LEB at *
 rcases Anf b.data.toList a.data.toList with h | h | h
 ·rw[h]at d;cases d
 ·rw[<-h];exact e
 ·rcases Anf c.data.toList b.data.toList with h' | h' | h'
  ·rw[h']at e;cases e
  ·rw[h'];exact d
  ·cases g:Op.bytesLess c.data.toList a.data.toList with
   | false=>rfl
   | true=>have:=Af5 (Af5 g h) h';rw[Axq]at this;cases this
theorem LEB.anti {a b:ByteArray}(c:LEB a b)(d:LEB b a):a=b:=by
 unfold LEB at *
 rcases Anf a.data.toList b.data.toList with h | h | h
 ·rw[h]at d;cases d
 ·cases a;cases b;simp at h;rw[h]
 ·rw[h]at c;cases c
theorem Aiu (x:ByteArray × β): ∀l,l.Pairwise (λa b=>LEB a.1 b.1)->(Atn x l).Pairwise λa b=>LEB a.1 b.1
 | [],_=>bT _ _
 | y::r,h=>by
  obtain⟨e,g⟩:=aD.1 h
  rw[Atn]
  split
  ·rename_i d
   refine aD.2 ⟨λz c=>?_,Aiu x r g⟩
   rcases aM.1 ((Zw x r).mem_iff.1 c) with rfl | c
   ·unfold LEB
    cases i:Op.bytesLess z.1.data.toList y.1.data.toList with
    | false=>rfl
    | true=>have:=Af5 d i;rw[Axq]at this;cases this
   ·exact e z c
  ·rename_i d
   have d:LEB x.1 y.1:=by simpa [LEB]using d
   refine aD.2 ⟨λz c=>?_,h⟩
   rcases aM.1 c with rfl | c
   ·exact d
   ·exact d.trans (e z c)
theorem Acg: ∀l:List (ByteArray × β),(H5 l).Pairwise λa b=>LEB a.1 b.1
 | []=>cH
 | x::r=>Aiu x _ (Acg r)
theorem Atl {α:Type}(nm:α->ByteArray): ∀ {a b:List α},a.Perm b->a.Pairwise (λx y=>LEB (nm x) (nm y))->b.Pairwise (λx y=>LEB (nm x) (nm y))->(a.map nm).Nodup ->a=b
 | [],b,h,_,_,_=>(cT.1 h.symm).symm
 | x::a,[],h,_,_,_=>by have:=h.length_eq;simp at this
 | x::a,y::b,h,i,j,d=>by
  obtain⟨m,a2⟩:=aD.1 i
  obtain⟨b1,b2⟩:=aD.1 j
  rw[bR,cB]at d
  have g:x=y:=by
   rcases aM.1 (h.mem_iff.1 aE) with e | e
   ·exact e
   ·rcases aM.1 (h.symm.mem_iff.1 aE) with c | c
    ·exact c.symm
    ·have:=(m y c).anti (b1 x e)
     exact absurd (List.mem_map_of_mem (f:=nm) c) (by rw[<-this];exact d.1)
  subst g
  rw[Atl nm (cF h) a2 b2 d.2]
end
def O.Aag:List IV->Option (List IV)
 | [.list xs]=>(Ako xs).bind λks=>if ks.Nodup/\xs.length<4611686018427387904 then some [.list ((H5 (ks.zip xs)).map (·.2))]else none
 | _=>none
theorem Auc {α:Type}{k:Nat}(f:α->List Value)(a:0<k): ∀ (l:List α),(∀x∈l,(f x).length =k)-> ∀t,(l.flatMap f)[t]?=(l[t / k]?).bind λx=>(f x)[t % k]?
 | [],_,t=>by simp
 | x::l,h,t=>by
  have c:=h x aE
  rw[cL]
  by_cases b:t<k
  ·rw[List.getElem?_append_left (by omega),Nat.div_eq_of_lt b,Nat.mod_eq_of_lt b];rfl
  ·obtain⟨u,rfl⟩: ∃u,t=u+k:=⟨t - k,by omega⟩
   rw[List.getElem?_append_right (by omega),c,Nat.add_sub_cancel,Auc f a l (λy d=>h y (bK _ d)),Nat.add_div_right _ a,Nat.add_mod_right]
   simp
theorem Arl {k:Nat}[Inhabited (El k)](c:0<k)(d:Array (El k)):(Sort.flatK (λx:El k=>x.1) k d).toList =d.toList.flatMap λx=>x.1:=by
 apply aR
 intro t
 rw[Auc _ c _ (λx _=>x.2.1)]
 by_cases e:t<d.size * k
 ·have a:t / k<d.size:=Nat.div_lt_of_lt_mul (by rw[Nat.mul_comm];exact e)
  have g:t % k<((d[t / k]'a).1).length :=by rw[(d[t / k]'a).2.1];exact Nat.mod_lt _ c
  have b:t<(Sort.flatK (λx:El k=>x.1) k d).size :=by rw[Sort.size_flatK];exact e
  rw[aC,aG b,aC,aG a]
  show _=((d[t / k]'a).1)[t % k]?
  rw[aS g]
  have:=Sort.get_flatK (λx:El k=>x.1) k d t e
  rw[getElem!_pos _ t b]at this
  rw[this]
  congr 1
  rw[getElem!_pos d (t / k) a,getElem!_pos (d[t / k]'a).1 (t % k) g]
 ·have b:(Sort.flatK (λx:El k=>x.1) k d).size <=t:=by rw[Sort.size_flatK];omega
  have a:d.size<=t / k:=(Nat.le_div_iff_mul_le c).2 (by omega)
  rw[aC,bI b,aC,bI a];rfl
section
variable {P:Program}{w w':World}{O:Nat->Prop}{te tn:TypeId}{rest:List TypeId}{k:Nat}
def A2c (P:Program)(w:World)(O:Nat->Prop)(te:TypeId)(k:Nat)(p:ByteArray × (IV × Value × El k)):Prop:=
 Rel P w O te p.2.1 p.2.2.1/\p.2.2.1.cells.size=k/\p.2.2.1.cells.toList=p.2.2.2.1/\p.2.2.2.nm=p.1
theorem Axh (d:Ak P te=true)(m:leaves P te=some (tn::rest))(e:P.underlying tn=some .string)(i:Ag P te=k): ∀ {ivs:List IV} {us:List Value} {ks:List ByteArray},Hv P w O te ivs us->Ako ivs=some ks->
  ∃T:List (ByteArray × (IV × Value × El k)),ks=T.map (·.1)/\ivs=T.map (·.2.1)/\us=T.map (·.2.2.1)/\ ∀p∈T,A2c P w O te k p
 | [],[],ks,_,o=>by
  simp only[Ako,bG]at o
  subst o
  exact⟨[],rfl,rfl,rfl,by simp⟩
 | x::xs,u::us,ks,h,o=>by
  obtain⟨⟨y,G⟩,H⟩:=h
  simp only[Ako,bW,bZ]at o
  obtain⟨s,j,ks',A,rfl⟩:=o
  obtain⟨T,rfl,rfl,rfl,I⟩:=Axh d m e i H A
  have q:=y.cells_one
  have J:=y
  obtain⟨K,L,b,e1,rfl,rfl,S,e5,U,M⟩:=y.J5 d
  rw[m]at e1;injection e1 with e1;subst e1
  unfold keyN at j
  split at j
  ·rename_i s0 r B
   injection j with j;subst j
   injection B with B;subst B
   have g:0<b.size:=by rw[e5];simp
   obtain⟨c,C⟩: ∃c,b[0]?=some c:=⟨b[0],aG g⟩
   obtain⟨z,F,N⟩:=(M 0 tn (.str s0) c rfl rfl C).Is e
   injection F with F;subst F;subst N
   obtain⟨l⟩:=b
   have Q: ∃r2,l= .string s0::r2:=by
    cases l with
    | nil=>simp at g
    | cons a r2=>simp at C;subst C;exact⟨r2,rfl⟩
   obtain⟨r2,rfl⟩:=Q
   have t:(Value.string s0::r2).length =k:=by rw[<-i];exact G
   refine⟨(s0,(.agg (.str s0::r),.agg ⟨.string s0::r2⟩,⟨.string s0::r2,t,⟨s0,r2,rfl⟩,λu R=>q u (by simpa [Value.cells]using R)⟩))::T,rfl,rfl,rfl,λp hp=>?_⟩
   rcases aM.1 hp with rfl | hp
   ·exact⟨J,G.trans i,rfl,rfl⟩
   ·exact I p hp
  ·cases j
 | [],_::_,_,h,_=>h.elim
 | _::_,[],_,h,_=>h.elim
theorem Agd (a:Ag P te=k): ∀ {T:List (ByteArray × (IV × Value × El k))},(∀p∈T,A2c P w O te k p)->Hv P w O te (T.map (·.2.1)) (T.map (·.2.2.1))
 | [],_=>trivial
 | p::T,h=>⟨⟨(h p aE).1,by rw[a];exact(h p aE).2.1⟩,Agd a λq b=>h q (bK _ b)⟩
theorem Au6 {T:List (ByteArray × (IV × Value × El k))}(h: ∀p∈T,A2c P w O te k p):Bj (T.map (·.2.2.1))=(T.map (·.2.2.2)).flatMap λx=>x.1:=by
 induction T with
 | nil=>rfl
 | cons p T a=>
  have:=(h p aE).2.2.1
  simp only[Bj,bR,cL]at a ⊢
  rw[this,a λq b=>h q (bK _ b)]
theorem As6 {O':Nat->Prop}{p:ByteArray × (IV × Value × El k)}(h:A2c P w O te k p)(a: ∀b,b<w.heap.size->O' b->O b)(c:Mb O w w'):A2c P w' O' te k p:=⟨h.1.mono a c,h.2⟩
end
theorem Aqb {P:Program}{te ts tn:TypeId}{rest:List TypeId}{f g:FuncId}{fn:Func}{al:Bool}{k:Nat}[Inhabited (El k)](hk:0<k)(U:Ak P te=true)(am:leaves P te=some (tn::rest))(Y:P.underlying tn=some .string)(F:Ag P te=k)(Z:P.underlying ts=some (.slice te))
  (an:P.funcs[f]?=some fn) (G:(fn.name == "runtime.NumGoroutine")=false) (H:fn.body.isNone=false)
  (I: ∀ (b cap:Nat) (d:Array (El k)) (w:World),Sort.HoldsK (λx:El k=>x.1) k w b 0 d->b<w.heap.size->d.size<4611686018427387904->Calls P f #[.slice (some ⟨b,0,none⟩) d.size cap,.func (.func g) #[] #[]] w λe w'=>
   e= .returned (.tuple #[])/\ ∃c n os,Sort.PermIn 0 d.size d c/\Sort.SortedIn ltE 0 d.size c/\w'=Proofs.sortWorldK (λx:El k=>x.1) k w b 0 n c os)
  (aa: ∀ (w:World),Calls P f #[.slice none 0 0,.func (.func g) #[] #[]] w λe w'=>e= .returned (.tuple #[])/\w'=w):
  Im P O.Aag ⟨f,[.arr ts,.fn g []],[],al⟩:=by
 intro w X xs args L rs m z hX bi y
 match args,m with
 | [],m=>exact m.elim
 | [_],m=>obtain⟨_,_,_,_,_,_,_,m⟩:=m;exact m.elim
 | _::_::_::_,m=>obtain⟨_,_,_,_,_,_,_,_,_,_,_,_,_,_,m⟩:=m;exact m.elim
 | [v,vf],m=>
 obtain⟨ys,zs,L1,L2,rfl,rfl,⟨e,ivs,rfl,rfl,R,ab⟩,ac,zs',L1',L2',rfl,rfl,⟨vs,rfl,rfl,J⟩,rfl,rfl⟩:=m
 rw[Z]at R;injection R with R;injection R with R
 subst R
 have ad:ac= []/\vs= #[]:=by
  obtain⟨l⟩:=vs
  cases ac<;>cases l<;>simp[Ie]at J ⊢
 obtain⟨rfl,rfl⟩:=ad
 simp only[aJ,O.Aag,bW]at y
 obtain⟨ks,ao,y⟩:=y
 rw[aA]at y
 obtain⟨⟨ap,hle⟩,y⟩:=y
 injection y with y
 subst y
 obtain⟨aq,cs,r,ar,bg⟩:=ab
 obtain⟨us,hE,rfl⟩:=ar.Asc r.1
 obtain⟨T,rfl,rfl,rfl,hT⟩:=Axh U am Y F hE ao
 have a:=Ab7 T
 have o: ∀p∈H5 T,A2c P w (λb=>X b\/b∈(blk v).toList ++ []) te k p:=λp hp=>hT p (a.mem_iff.1 hp)
 have ae:(H5 ((T.map (·.1)).zip (T.map (·.2.1)))).map (·.2)=(H5 T).map (·.2.1):=by
  have h1:(T.map (·.1)).zip (T.map (·.2.1))=T.map λp=>(p.1,p.2.1):=by rw[List.zip_map']
  have h2:=Ah6 (λq:IV × Value × El k=>q.1) T
  rw[h1]
  have h3:(T.map λp=>(p.1,p.2.1))=T.map λp=>(p.1,(λq:IV × Value × El k=>q.1) p.2):=rfl
  rw[h3,h2,aQ];rfl
 rw[ae]
 have hlen:(H5 T).length =T.length:=a.length_eq
 have fin: ∀ (w':World),Hz (· ∈(blk v).toList ++ []) w w'->w'.ownsRow 0 te (Ag P te) v ((H5 T).map (·.2.1)).length (Bj ((H5 T).map (·.2.2.1)))->
   Z3 P X ⟨f,[.arr ts,.fn g []],[],al⟩ [v,.func (.func g) #[] #[]] ((blk v).toList ++ []) [.list ((H5 T).map (·.2.1))] w (.tuple #[]) w':=by
  intro w' hs ho
  refine⟨hs,[],[],[.list ((H5 T).map (·.2.1))],[],(blk v).toList,rfl,rfl,?_,?_,⟨rfl,rfl⟩,?_⟩
  ·cases blk v<;>simp
  ·intro b S;exact .inl (by simpa using S)
  ·simp only[Cr,cO,Zt,Bool.false_eq_true,Zf]
   refine⟨_,[],(blk v).toList,[],rfl,by simp,⟨te,_,rfl,rfl,Z,aq,Bj ((H5 T).map (·.2.2.1)),ho,(Agd F λp hp=>?_).elems,Gp λu hu=>?_⟩,rfl,rfl⟩
   ·exact As6 (o p hp) (λb S h=>by simpa using h) (λb S hO=>hs.stays b S λh=>hO (.inr h))
   ·obtain⟨p,hp,rfl⟩:=bX.1 hu
    exact(o p hp).1.cells_one
 refine .inl ⟨_,an,G,H,?_⟩
 rcases r.2 with⟨rfl,h0⟩ | ⟨gb,cap,cu,rfl,f2,f3,f4,f5,f6,f7⟩
 ·refine(aa w).mono ?_
  rintro e' w' ⟨rfl,rfl⟩
  have:T= []:=aL.1 (by simpa using h0)
  subst this
  exact⟨_,rfl,fin w' (cK _ _) r⟩
 ·have A:gb<w.heap.size:=(aN.1 f3).1
  have hF: ∀ (D:List (ByteArray × (IV × Value × El k))),(∀p∈D,A2c P w (λb=>X b\/b∈(blk (.slice (some ⟨gb,0,none⟩) (T.map (·.2.1)).length cap)).toList ++ []) te k p)->
    (Sort.flatK (λx:El k=>x.1) k (D.map (·.2.2.2)).toArray).toList =Bj (D.map (·.2.2.1)):=λD hD=>by
   rw[Arl hk,Au6 hD]
  have K:(Ag P te)=k:=F
  have z:(T.map (·.2.1)).length =T.length:=aB _
  rw[K]at f6
  rw[K,z]at f7
  have hH:Sort.HoldsK (λx:El k=>x.1) k w gb 0 (T.map (·.2.2.2)).toArray :=by
   intro j B
   have au:j<T.length * k:=by simpa using B
   have C:j<(Sort.flatK (λx:El k=>x.1) k (T.map (·.2.2.2)).toArray).size :=B
   refine⟨?_,by simp[World.frozen?,f3]⟩
   have h1:(Sort.flatK (λx:El k=>x.1) k (T.map (·.2.2.2)).toArray).toList[j]?=(cu.toList.take (T.length * k))[j]?:=by rw[hF T hT,f7]
   rw[aU,if_pos au,aC,aC,aG C]at h1
   simp only[World.cell?,f3,cJ,id]
   rw[<-h1,getElem!_pos _ j C]
   simp
  have hc:=I gb cap (T.map (·.2.2.2)).toArray w hH A (by simpa using hle)
  have av:(T.map (·.2.2.2)).toArray.size =(T.map (·.2.1)).length :=by simp
  rw[av]at hc
  refine hc.mono ?_
  rintro e' w' ⟨rfl,c,q,os,aw,ax,hw⟩
  obtain⟨ay,_,af⟩:=aw
  have az:c.size=T.length:=by rw[ay];simp
  have ag:c.toList.Perm (T.map (·.2.2.2)):=by
   have e1:c.extract 0 (T.map (·.2.1)).length =c:=by rw[z,<-az];simp
   have e2:(T.map (·.2.2.2)).toArray.extract 0 (T.map (·.2.1)).length =(T.map (·.2.2.2)).toArray :=by rw[z];simp;exact bY (by simp)
   rw[e1,e2]at af
   simpa using af
  have M:(T.map (·.2.2.2)).map El.nm=T.map (·.1):=by
   rw[aQ]
   exact bM λp hp=>(hT p hp).2.2.2
  have ah:c.toList=(H5 T).map (·.2.2.2):=by
   refine Atl El.nm (ag.trans (a.symm.map _)) ?_ ?_ ?_
   ·rw[List.pairwise_iff_getElem]
    intro i j hi B ba
    have t:j<c.size:=by simpa using B
    have bb:i<c.size:=by simpa using hi
    have:=ax i j (bF _) ba (by rw[z];omega)
    rw[getElem!_pos c j t,getElem!_pos c i bb]at this
    simpa [LEB,ltE]using this
   ·rw[cI]
    refine(Acg T).imp_of_mem fun {p p'} hp bc h=>?_
    have e1:=(o p hp).2.2.2
    have e2:=(o p' bc).2.2.2
    rw[e1,e2];exact h
   ·have:=(ag.map El.nm)
    rw[M]at this
    exact this.nodup_iff.2 ap
  have bd:c=((H5 T).map (·.2.2.2)).toArray :=by
   apply Array.toList_inj.1
   rw[ah]
  subst bd
  have ai:w'=Sort.grow (Sort.putRow id (Sort.ahead w q) gb 0 (Sort.flatK (λx:El k=>x.1) k ((H5 T).map (·.2.2.2)).toArray)) os:=hw
  have N:(Sort.putRow id (Sort.ahead w q) gb 0 (Sort.flatK (λx:El k=>x.1) k ((H5 T).map (·.2.2.2)).toArray)).heap.size =w.heap.size:=by simp[Sort.putRow,Sort.mapBlock,Sort.ahead]
  have hg:w'.heap[gb]?=some (.cells (Sort.putCells id 0 (Sort.flatK (λx:El k=>x.1) k ((H5 T).map (·.2.2.2)).toArray) cu) te (0,0)):=by
   rw[ai]
   show((Sort.putRow id (Sort.ahead w q) gb 0 (Sort.flatK (λx:El k=>x.1) k ((H5 T).map (·.2.2.2)).toArray)).heap ++os)[gb]?=_
   rw[aO (by rw[N];exact A)]
   simp only[Sort.putRow,Sort.mapBlock,Sort.ahead,aH,Zt,f3,bD,Sort.onCells]
  have Q:Hz (· ∈(blk (.slice (some ⟨gb,0,none⟩) (T.map (·.2.1)).length cap)).toList ++ []) w w':=by
   subst ai
   refine⟨rfl,rfl,rfl,?_,λb S be=>?_⟩
   ·rw[Sort.size_grow,N];exact cM _ _
   ·show((Sort.putRow id (Sort.ahead w q) gb 0 (Sort.flatK (λx:El k=>x.1) k ((H5 T).map (·.2.2.2)).toArray)).heap ++os)[b]?=_
    rw[aO (by rw[N];exact S)]
    simp only[Sort.putRow,Sort.mapBlock,Sort.ahead,aH]
    rw[if_neg (λe=>be (by simp[blk,e]))]
  refine⟨_,rfl,fin w' Q ?_⟩
  have aj:((H5 T).map (·.2.1)).length =T.length:=by rw[aB,hlen]
  have bf:(Bj ((H5 T).map (·.2.2.1))).length =T.length * k:=by
   rw[Eb (sz:=k) (λu hu=>by obtain⟨p,hp,rfl⟩:=bX.1 hu;exact(o p hp).2.1),aB,hlen]
  have bh:T.length * k<=cu.size:=by rw[f6];exact cD _ (by rw[z]at f4;exact f4)
  rw[z]at f4
  rw[aj,K]
  refine⟨bf,.inr ⟨gb,cap,_,by rw[z],f2,hg,f4,f5,?_,?_⟩⟩
  ·rw[<-f6];simp[Sort.putCells]
  ·rw[<-hF (H5 T) o]
   apply aR
   intro j
   have ak:(Sort.flatK (λx:El k=>x.1) k ((H5 T).map (·.2.2.2)).toArray).size =T.length * k:=by simp[hlen]
   rw[aU]
   by_cases B:j<T.length * k
   ·rw[if_pos B,aC,aC]
    have hc:j<cu.size:=by omega
    have t:j<(Sort.flatK (λx:El k=>x.1) k ((H5 T).map (·.2.2.2)).toArray).size :=by rw[ak];exact B
    rw[aG t,<-getElem!_pos _ j t]
    simp only[Sort.putCells,Array.getElem?_mapIdx,aG hc,bD,bF,true_and,cJ,Nat.sub_zero]
    rw[if_pos t];rfl
   ·rw[if_neg B,aC,bI (by rw[ak];omega)]
end Go.CT
namespace Go.Proofs
open Go.Shelf
def Tryz.Aus:Ren:=⟨λx=>match x with | 6=>106 | 14=>163 | 15=>164 | 20=>219 | 21=>220 | 22=>221 | 23=>222 | 24=>223 | 25=>224 | 26=>225 | 27=>226 | 28=>227 | 29=>228 | 46=>271 | 47=>272 | 48=>273 | 49=>274 | 50=>275 | 57=>289 | n=>n,λx=>match x with | 22=>31 | 24=>52 | 25=>109 | 39=>154 | 45=>197 | 46=>198 | 50=>185 | 53=>204 | 55=>206 | 66=>236 | 70=>240 | 76=>248 | 77=>249 | n=>n,λn=>n⟩
set_option maxHeartbeats 4000000 in
theorem Tryz.A4w:cU Tryz.prog Tryz.Aus where
 mixed:=by kernel_rfl
 f6:=aF "slices.SortFunc[[]orchestrator/api.Manager,orchestrator/api.Manager]" ⟨by decide,by kernel_rfl⟩
 f14:=aF "slices.pdqsortCmpFunc[orchestrator/api.Manager]" ⟨by decide,by kernel_rfl⟩
 f15:=by kernel_rfl
 f20:=aF "slices.insertionSortCmpFunc[orchestrator/api.Manager]" ⟨by decide,by kernel_rfl⟩
 f21:=aF "slices.heapSortCmpFunc[orchestrator/api.Manager]" ⟨by decide,by kernel_rfl⟩
 f22:=aF "slices.breakPatternsCmpFunc[orchestrator/api.Manager]" ⟨by decide,by kernel_rfl⟩
 f23:=aF "slices.choosePivotCmpFunc[orchestrator/api.Manager]" ⟨by decide,by kernel_rfl⟩
 f24:=aF "slices.reverseRangeCmpFunc[orchestrator/api.Manager]" ⟨by decide,by kernel_rfl⟩
 f25:=aF "slices.partialInsertionSortCmpFunc[orchestrator/api.Manager]" ⟨by decide,by kernel_rfl⟩
 f26:=aF "slices.partitionEqualCmpFunc[orchestrator/api.Manager]" ⟨by decide,by kernel_rfl⟩
 f27:=aF "slices.partitionCmpFunc[orchestrator/api.Manager]" ⟨by decide,by kernel_rfl⟩
 f28:=by kernel_rfl
 f29:=by kernel_rfl
 f46:=aF "slices.siftDownCmpFunc[orchestrator/api.Manager]" ⟨by decide,by kernel_rfl⟩
 f47:=by kernel_rfl
 f48:=by kernel_rfl
 f49:=aF "slices.medianAdjacentCmpFunc[orchestrator/api.Manager]" ⟨by decide,by kernel_rfl⟩
 f50:=aF "slices.medianCmpFunc[orchestrator/api.Manager]" ⟨by decide,by kernel_rfl⟩
 f57:=aF "slices.order2CmpFunc[orchestrator/api.Manager]" ⟨by decide,by kernel_rfl⟩
 t0:=by kernel_rfl
 a0:=Tryz.isAgg0
 z0:=Tryz.sizeOf0
 v0:=Tryz.zeroValue0
 t3:=by kernel_rfl
 a3:=Tryz.isAgg3
 z3:=Tryz.sizeOf3
 v3:=Tryz.zeroValue3
 t4:=by kernel_rfl
 a4:=Tryz.isAgg4
 z4:=Tryz.sizeOf4
 v4:=Tryz.zeroValue4
 t5:=by kernel_rfl
 a5:=Tryz.isAgg5
 z5:=Tryz.sizeOf5
 v5:=Tryz.zeroValue5
 t9:=by kernel_rfl
 a9:=Tryz.isAgg9
 z9:=Tryz.sizeOf9
 v9:=Tryz.zeroValue9
 t22:=by kernel_rfl
 a22:=Tryz.isAgg31
 z22:=Tryz.sizeOf31
 v22:=Tryz.zeroValue31
 t25:=by kernel_rfl
 a25:=Tryz.isAgg109
 z25:=Tryz.sizeOf109
 v25:=Tryz.zeroValue109
 t39:=by kernel_rfl
 a39:=Tryz.isAgg154
 z39:=Tryz.sizeOf154
 v39:=Tryz.zeroValue154
 t45:=by kernel_rfl
 a45:=Tryz.isAgg197
 z45:=Tryz.sizeOf197
 v45:=Tryz.zeroValue197
 t46:=by kernel_rfl
 a46:=Tryz.isAgg198
 z46:=Tryz.sizeOf198
 v46:=Tryz.zeroValue198
 t50:=by kernel_rfl
 a50:=Tryz.isAgg185
 z50:=Tryz.sizeOf185
 v50:=Tryz.zeroValue185
 t53:=by kernel_rfl
 a53:=Tryz.isAgg204
 z53:=Tryz.sizeOf204
 v53:=Tryz.zeroValue204
 t55:=by kernel_rfl
 a55:=Tryz.isAgg206
 z55:=Tryz.sizeOf206
 v55:=Tryz.zeroValue206
 t66:=by kernel_rfl
 a66:=Tryz.isAgg236
 z66:=Tryz.sizeOf236
 v66:=Tryz.zeroValue236
 t70:=by kernel_rfl
 a70:=Tryz.isAgg240
 z70:=Tryz.sizeOf240
 v70:=Tryz.zeroValue240
 t76:=by kernel_rfl
 a76:=Tryz.isAgg248
 z76:=Tryz.sizeOf248
 v76:=Tryz.zeroValue248
 t77:=by kernel_rfl
 a77:=Tryz.isAgg249
 z77:=Tryz.sizeOf249
 v77:=Tryz.zeroValue249
namespace Coll
open Go.CT Go.Sort
theorem Arc (W:World)(a b:Obj):(W.alloc a).alloc b=grow (W.drewN 0) #[a,b]:=by rw[alloc_eq_grow,alloc_eq_grow,grow_grow];rfl
theorem A5h (s t:ByteArray)(u v:Value)(W:World):Calls Tryz.prog 107 #[.agg #[.string s,u],.agg #[.string t,v]] W λe w'=>
  e= .returned (.int .i64 (if Op.bytesLess s.data.toList t.data.toList then -1 else 1))/\ ∃q os,w'=grow (W.drewN q) os:=by
 go_enter Tryz.func107,Tryz.ntmps107
 go_wp2
 all_goals
  first
   | (exfalso;rename_i hc;rw[ByteArray.toList_eq,ByteArray.toList_eq]at hc;simp[hc]at h;done)
   | (go_ret;exact⟨rfl,_,_,Arc _ _ _⟩)
instance :Inhabited (El 2):=⟨⟨[.string ⟨#[]⟩,.bool false],rfl,⟨_,_,rfl⟩,λu a=>by simp at a;rcases a with rfl | rfl<;>rfl⟩⟩
def cfN (x y:El 2):Int:=if Op.bytesLess x.nm.data.toList y.nm.data.toList then -1 else 1
theorem Azx:ltOf cfN=ltE:=by
 funext x y
 unfold ltOf cfN ltE
 cases Op.bytesLess x.nm.data.toList y.nm.data.toList<;>rfl
theorem A3m:SWO (ltOf cfN):=by
 rw[Azx]
 refine⟨λx=>Axq _,λx y z a b=>Af5 a b,λx y z a b=>?_⟩
 have a:LEB y.nm x.nm:=a
 have b:LEB z.nm y.nm:=b
 exact b.trans a
theorem el2 (x:El 2): ∃u,x.1= [.string x.nm,u]:=by
 obtain⟨c,a,⟨s,r,rfl⟩,b⟩:=x
 match r,a with
 | [u],_=>exact⟨u,rfl⟩
theorem Ayz {al:Bool} :Im Tryz.prog O.Aag ⟨106,[.arr 31,.fn 107 []],[],al⟩:=
 Aqb (te:=52) (tn:=9) (rest:= [22]) (k:=2) (by decide) (by kernel_rfl) (by kernel_rfl) (by kernel_rfl) (by kernel_rfl) (by kernel_rfl) Tryz.func106 (by kernel_rfl) (by kernel_rfl)
  (λb cap d w a c e=>by
   have:=AnyQ.slices_SortFunc Tryz.A4w 2 Tryz.isAgg52 Tryz.sizeOf52 (λx:El 2=>x.1) (λx=>x.2.1) (λx=>x.2.2.2) cfN A3m 107 #[] b 0 cap d w (enters_of Tryz.func107 (by kernel_rfl) rfl)
    (λm os dk _ x y=>by
     obtain⟨u,g⟩:=el2 x
     obtain⟨v,h⟩:=el2 y
     have:=A5h x.nm y.nm u v (sortWorldK (λx:El 2=>x.1) 2 w b 0 m dk os)
     simp only[g,h]
     exact this) a c e
   rw[Azx]at this
   exact this)
  λw=>AnyF.slices_SortFunc_none Tryz.A4w none 0 _ w
end Coll
end Go.Proofs
namespace Go.CT
open Go.Proofs Go.Shelf Go.RowKit
section
variable {P:Program}{ρ:Ren}{al:Bool}
theorem Avx {s:Spec} :Im P O.Azg s:=by
 intro w X xs args L rs c d e a b
 simp[O.Azg]at b
theorem Ax9 (i:Nat)(h:i<100):(⟨(Lib.decDigits i).toArray⟩:ByteArray)=O.M7 i:=by
 unfold O.M7
 by_cases a:i<10
 ·rw[if_pos a,Lib.decDigits,dif_pos a]
 ·rw[if_neg a,Lib.decDigits,dif_neg a,Lib.decDigits,dif_pos (by omega)];rfl
theorem A33 (L:Lays.n171 P ρ){f ti ts:Nat}(m:f=ρ.f 171)(b:ti=ρ.t 3)(c:ts=ρ.t 9):Im P O.Asa ⟨f,[.data ti],[.whole ts],al⟩:=by
 intro w X xs args Ls rs d B C o a
 subst m b c
 match args,d with
 | [u],d=>
  obtain⟨ys,zs,L1,L2,e1,q,⟨x,r,y,g⟩,⟨e5,z⟩⟩:=d
  subst r y e5 z e1 q
  obtain⟨n,rfl,rfl⟩:=g.Ih L.t3
  simp only[aT,aP,O.Asa]at a
  rw[aA]at a
  obtain⟨⟨A,F⟩,a⟩:=a
  injection a with a;subst a
  obtain⟨i,rfl⟩:=bU A
  have j:i<100:=by omega
  refine .inl ⟨_,L.f171,by kernel_rfl,by kernel_rfl,?_⟩
  refine(Any.strconv_Itoa_small L i j w).mono λe w' h=>?_
  obtain⟨rfl,rfl⟩:=h
  refine⟨_,rfl,cK _ _,[.string ⟨(Lib.decDigits i).toArray⟩],[.str (O.M7 i)],[],[],[],rfl,rfl,by simp,by simp,?_,by simp[Cr,cO]⟩
  refine⟨[_],[],[],[],rfl,rfl,⟨_,rfl,rfl,?_⟩,rfl,rfl⟩
  rw[Ax9 i j]
  exact .str L.t9
theorem Hw.step {w w':World}{O O':Nat->Prop}{e:TypeId}{xs:List IV}{v:Value}(h:Hw P w O e xs v)(c: ∀b,b<w.heap.size->O' b->O b)(d:Mb O w w')(i: ∀b,blk v=some b->w'.heap[b]?=w.heap[b]?):Hw P w' O' e xs v:=by
 obtain⟨m,cs,⟨o,a⟩,q,r⟩:=h
 refine⟨m,cs,⟨o,?_⟩,λj x t=>?_,r⟩
 ·rcases a with a | ⟨g,cap,cur,rfl,u,y,z⟩
  ·exact .inl a
  ·exact .inr ⟨g,cap,cur,rfl,u,by rw[i g rfl];exact y,z⟩
 ·obtain⟨v,A,B⟩:=q j x t
  exact⟨v,A.mono c d,B⟩
theorem Ah8 (L:Lays.n240 P ρ)(X:Builder.X72 P ρ){f t:Nat}(G:f=ρ.f 240)(H:t=ρ.t 72):Im P O.Mw ⟨f,[.bld t true],[],al⟩:=by
 intro w X0 xs args Ls rs z r I J q
 subst G H
 match args,z with
 | [u],z=>
  obtain⟨_,_,_,_,rfl,rfl,⟨b,R,m,ys,st,e,rfl,o,K,A,rfl,a,rfl⟩,rfl,rfl⟩:=z
  simp only[aJ,O.Mw,bG]at q r I a ⊢
  subst q
  rw[cB]at r
  have fin: ∀ (w':World),Hz (· =b) w w'->w'.heap[b]?=some (.cells #[.pointer (some ⟨b,0,none⟩),m] (ρ.t 72) (0,0))->
    Z3 P X0 ⟨ρ.f 240,[.bld (ρ.t 72) true],[],al⟩ [.pointer (some ⟨b,0,none⟩)] (b::(blk m).toList) [.list ys] w (.tuple #[]) w':=by
   intro w' c d
   have B:Hz (· ∈b::(blk m).toList) w w':=⟨c.os,c.tape,c.output,c.size,λk x C=>c.stays k x λh=>C (by have h:k=b:=h;subst h;exact aE)⟩
   refine⟨B,[],[],[.list ys],[],b::(blk m).toList,rfl,rfl,by rw[aP,cB];exact r,λM d=> .inl (by simpa using d),⟨rfl,rfl⟩,?_⟩
   simp only[Cr,cO,Zt]
   refine⟨[.list ys],[],b::(blk m).toList,[],rfl,by simp,⟨b,_,m,ys,st,e,rfl,d,.inr rfl,A,rfl,?_,rfl⟩,rfl,rfl⟩
   refine a.step (λM _ h=>by simpa using h) (λk x F=>c.stays k x λh=>F (.inr (by have h:k=b:=h;subst h;exact aE))) (λg y=>?_)
   refine c.stays g ?_ λh=>?_
   ·obtain⟨_,cs,⟨_,N⟩,_⟩:=a
    rcases N with⟨rfl,_⟩ | ⟨S,cap,cur,rfl,_,Q,_⟩
    ·cases y
    ·simp[blk]at y;subst y
     exact(aN.1 Q).1
   ·have h:g=b:=h
    subst h
    exact r.1 (by simp[y])
  refine .inl ⟨_,L.f240,by kernel_rfl,by kernel_rfl,?_⟩
  rcases K with rfl | rfl
  ·refine(Any.Builder_copyCheck_fresh L X b w (by simp[World.cell?,o]) (by simp[World.shape?,o]) (by simp[World.frozen?,o])).mono λe w' i=>?_
   obtain⟨rfl,rfl⟩:=i
   refine⟨_,rfl,fin _ ⟨rfl,rfl,rfl,by rw[World.size_setCell];exact aK _,λk x j=>?_⟩ ?_⟩
   ·have j: ¬ k=b:=j
    simp[World.setCell,aH]
    intro e;exact absurd e.symm j
   ·simp[World.setCell,aH,o]
  ·refine(Any.Builder_copyCheck_used L X b w (by simp[World.cell?,o])).mono λe w' i=>?_
   obtain⟨rfl,rfl⟩:=i
   exact⟨_,rfl,fin _ (.refl _ _) o⟩
theorem Apm {w:World}{O:Nat->Prop}{e:TypeId}(m:P.underlying e=some (.int .u8))(g:Ag P e=1): ∀ (ys:List IV) (cs:List Value) (l:List UInt8),cs.length=ys.length->Kr P w O e ys cs->ys.mapM Lo=some l->cs=Lib.byteCells l/\ys.length=l.length
 | [],[],l,_,_,h=>by simp at h;subst h;exact⟨rfl,rfl⟩
 | [],_::_,_,h,_,_=>by simp at h
 | _::_,[],_,h,_,_=>by simp at h
 | y::ys,c::cs,l,h,o,b=>by
  obtain⟨v,q,d,I⟩:=o 0 y rfl
  obtain⟨n,rfl,rfl⟩:=q.Ih m
  rw[List.mapM_cons]at b
  simp only[Option.pure_def,Option.bind_eq_bind]at b
  cases a:Lo (.int n) with
  | none=>simp[a]at b
  | some u=>
   cases i:ys.mapM Lo with
   | none=>simp[a,i]at b
   | some r=>
    simp[a,i]at b;subst b
    obtain⟨t,z⟩:=Apm m g ys cs r (by simpa using h) (λj x A=>by
     obtain⟨v,B,C,F⟩:=o (j+1) x A
     refine⟨v,B,?_,F⟩
     rw[C,g]
     simp) i
    rw[g]at d
    simp at d
    have e1:(Value.int IntKind.u8 n).cells.toList = [Value.int .u8 n]:=rfl
    rw[e1]at d
    have G:c= .int .u8 n:=by simpa using d.symm
    have H:(u.toNat:Int)=n:=by
     simp only[Lo]at a
     rw[aA]at a
     obtain⟨⟨b1,b2⟩,a⟩:=a
     injection a with a
     subst a
     have:n.toNat.toUInt8.toNat=n.toNat:=by
      simp only[Nat.toUInt8,UInt8.toNat_ofNat']
      omega
     rw[this];omega
    refine⟨?_,by simp[z]⟩
    rw[G,t,<-H];rfl
set_option maxHeartbeats 2000000 in
set_option maxRecDepth 100000 in
theorem Alv (L:Lays.n169 P ρ)(X:Builder.Extra P ρ)(b g cap:Nat)(p:Value)(cur:Array Value)(l:List UInt8)(w:World)(hbk:w.heap[b]?=some (.cells #[p,.slice (some ⟨g,0,none⟩) l.length cap] (ρ.t 72) (0,0)))
  (hg:w.heap[g]?=some (.cells cur (ρ.t 5) (0,0))) (h0:l≠ []) (hnc:l.length<=cap) (hcm:cap<=maxLen) (hcs:cur.size=cap) (hcell: ∀ (j:Nat) (x:UInt8),l[j]?=some x->w.cell? ((⟨g,0,none⟩:Addr).add j)=some (.int .u8 x.toNat)):
  Calls P (ρ.f 169) #[.pointer (some ⟨b,0,none⟩)] w λe w'=>e= .returned (.string ⟨l.toArray⟩)/\w'=w.drew.freeze ⟨g,0,none⟩ l.length:=by
 have hl0:l.length≠0:=by simpa using h0
 have c1:w.drew.cell? ⟨b,1,none⟩=some (.slice (some ⟨g,0,none⟩) l.length cap):=by
  have:w.drew.heap[b]?=some (.cells #[p,.slice (some ⟨g,0,none⟩) l.length cap] (ρ.t 72) (0,0)):=hbk
  rw[Lib.cell_of_heap this];rfl
 have hSD:(Builtin.unsafeSliceData_ #[(ρ.t 37)] (ρ.t 127) #[.slice (some ⟨g,0,none⟩) l.length cap]).run P w.drew= .ok (.pointer (some ⟨g,0,none⟩)) w.drew:=
  Lib.run_unsafeSliceData_row _ _ _ _ _ _ (by omega)
 have hUS:(Builtin.unsafeString_ #[(ρ.t 127),(ρ.t 3)] (ρ.t 9) #[.pointer (some ⟨g,0,none⟩),.int .i64 l.length]).run P w.drew= .ok (.string ⟨l.toArray⟩) (w.drew.freeze ⟨g,0,none⟩ l.length):=
  Lib.run_unsafeString_row w.drew (ρ.t 127) (ρ.t 3) (ρ.t 9) (ρ.t 5) L.t127 X.cellsByte g cur.size (by have hg':w.drew.heap[g]?=some (.cells cur (ρ.t 5) (0,0)):=hg;simp[World.shape?,hg']) l h0 (by omega) (by unfold maxLen at hcm;omega) hcell
 clear hcell hcs hcm hnc
 have mixed:=L.mixed
 have t72:=L.t72;have a72:=L.a72;have z72:=L.z72;have v72:=L.v72;have u72:=run_underlying L.t72
 have t70:=L.t70;have a70:=L.a70;have z70:=L.z70;have v70:=L.v70;have u70:=run_underlying L.t70
 have t37:=L.t37;have a37:=L.a37;have z37:=L.z37;have v37:=L.v37;have u37:=run_underlying L.t37
 have t127:=L.t127;have a127:=L.a127;have z127:=L.z127;have v127:=L.v127;have u127:=run_underlying L.t127
 have t3:=L.t3;have a3:=L.a3;have z3:=L.z3;have v3:=L.v3;have u3:=run_underlying L.t3
 have t9:=L.t9;have a9:=L.a9;have z9:=L.z9;have v9:=L.v9;have u9:=run_underlying L.t9
 have t5:=X.t5;have a5:=X.a5;have z5:=X.z5;have v5:=X.v5;have u5:=run_underlying X.t5
 go_enter L.f169,Body.n169_ntmps ρ
 go_wp2
 go_region_o
 all_goals (go_wp2;go_ret;exact⟨rfl,rfl⟩)
theorem At6 (L:Lays.n169 P ρ)(X:Builder.Extra P ρ){f t ts:Nat}(hf:f=ρ.f 169)(ht:t=ρ.t 72)(H:ts=ρ.t 9)(B:A0y P (ρ.t 72)=some (ρ.t 37,ρ.t 5)):Im P O.U6 ⟨f,[.bld t false],[.whole ts],al⟩:=by
 intro w X0 xs args Ls rs I hn hX aa c
 subst hf ht H
 match args,I with
 | [u],I=>
  obtain⟨_,_,_,_,rfl,rfl,⟨b,F,J,ys,st,e,rfl,G,hc,i,rfl,o,rfl⟩,rfl,rfl⟩:=I
  rw[B]at i;injection i with i;injection i with i1 i2;subst i1;subst i2
  simp only[aJ]at c hn hX o ⊢
  simp only[O.U6]at c
  rw[bZ]at c
  obtain⟨l,hl,c⟩:=c
  subst c
  obtain⟨h1,cs,d,h3,h4⟩:=o
  obtain⟨f1,f2,f3,f4,K⟩:=Adt B
  have hlen:cs.length=ys.length:=by have:=d.1;rw[K]at this;omega
  obtain⟨rfl,M⟩:=Apm (Dk f1) K ys cs l hlen h3 hl
  rw[K,M]at d
  have fin: ∀ (w':World) (s:ByteArray),s=⟨l.toArray⟩->Hz (· ∈b::(blk J).toList) w w'->
    Z3 P X0 ⟨ρ.f 169,[.bld (ρ.t 72) false],[.whole (ρ.t 9)],al⟩ [.pointer (some ⟨b,0,none⟩)] (b::(blk J).toList) [.str ⟨l.toArray⟩] w (.string s) w':=by
   intro w' s hs r
   subst hs
   refine⟨r,[.string ⟨l.toArray⟩],[.str ⟨l.toArray⟩],[],[],[],rfl,rfl,by simp,by simp,?_,by simp[Cr,cO]⟩
   exact⟨[_],[],[],[],rfl,rfl,⟨_,rfl,rfl,.str L.t9⟩,rfl,rfl⟩
  have below: ∀ {w':World},Below w.heap.size w w'->Hz (· ∈b::(blk J).toList) w w':=λh=>⟨h.os,h.tape,h.output,h.size,λk Y _=>h.block k Y⟩
  refine .inl ⟨_,L.f169,by kernel_rfl,by kernel_rfl,?_⟩
  obtain⟨_,y⟩:=d
  rcases y with⟨rfl,N⟩ | ⟨g,cap,cur,rfl,_,Q,R,S,ab,z⟩
  ·have m:l= []:=aL.1 N
   subst m
   refine(Any.Builder_String_nil L X w.heap.size b F w G).mono λe w' a=>?_
   obtain⟨rfl,r⟩:=a
   exact⟨_,rfl,fin w' _ rfl (below r)⟩
  ·by_cases m:l= []
   ·subst m
    by_cases C:cap=0
    ·subst C
     refine(Any.Builder_String_noroom L X w.heap.size b g F cur w (aK _) G Q).mono λe w' a=>?_
     obtain⟨rfl,r⟩:=a
     exact⟨_,rfl,fin w' _ rfl (below r)⟩
    ·refine(Any.Builder_String_room L X w.heap.size b g cap F w C G).mono λe w' a=>?_
     obtain⟨rfl,r⟩:=a
     exact⟨_,rfl,fin w' _ rfl (below r)⟩
   ·have A: ∀ (j:Nat) (x:UInt8),l[j]?=some x->w.cell? ((⟨g,0,none⟩:Addr).add j)=some (.int .u8 x.toNat):=by
     intro j x Z
     rw[N1]
     simp only[World.cell?,Q]
     have hj:=(bB.1 Z).1
     have:=congrArg (λq=>q[j]?) z
     simp only[bN,aU,hj,Zt,Lib.byteCells,aI,Z,bD]at this
     simpa using this
    refine(Alv L X b g cap F cur l w G Q m R S (by omega) A).mono λe w' a=>?_
    obtain⟨rfl,rfl⟩:=a
    refine⟨_,rfl,fin _ _ rfl ?_⟩
    unfold World.freeze
    split
    ·exact⟨rfl,rfl,rfl,aK _,λ_ _ _=>rfl⟩
    ·refine⟨rfl,rfl,rfl,by show w.heap.size<=(w.drew.heap.modify _ _).size;rw[Array.size_modify];exact aK _,λk Y T=>?_⟩
     have U:k≠g:=λe=>T (by subst e;simp[blk])
     simp only[aH]
     rw[if_neg (λe=>U e.symm)]
     rfl
theorem A3x {f t e:TypeId}{fn:Func}(q:P.funcs[f]?=some fn)(H:(fn.name == "runtime.NumGoroutine")=false)(i:fn.body.isNone=false)(o:P.underlying t=some (.slice e))
  (I: ∀ (A:Option Addr) (n cap:Nat) (w:World),n<=cap->cap<=maxLen->Calls P f #[.slice A n cap] w λe w'=>e= .returned (.slice A n n)/\w'=w):Im P O.Awx ⟨f,[.own t],[.clip t],al⟩:=by
 intro w X xs args Ls rs r x G J j
 match args,r with
 | [u],r=>
  obtain⟨_,_,_,_,rfl,rfl,⟨T,ys,rfl,rfl,d,a⟩,rfl,rfl⟩:=r
  rw[o]at d;injection d with d;injection d with d;subst d
  simp only[aJ,O.Awx,bG]at j a x G ⊢
  subst j
  have y: ∀b,blk u=some b-> ¬ X b:=λb i=>G b (by simp[i])
  have m:=a.rel (O':=λb=>X b\/b∈([]++ []:List Nat)) o (λb _ h=>by
   rcases h with h | h
   ·exact .inl h
   ·cases h) (λb i h=>by
   rcases h with h | h
   ·exact y b i h
   ·cases h)
  obtain⟨K,A,cap,z,rfl,B⟩:=m.Da o
  injection z with z;subst z
  have c:ys.length<=cap/\cap<=maxLen:=by
   obtain⟨_,cs,⟨_,L⟩,_⟩:=a
   rcases L with⟨h,U⟩ | ⟨g,cap',cur,h,_,_,M,N,_⟩
   ·injection h with i1 i2 C
    subst C;exact⟨by omega,by unfold maxLen;omega⟩
   ·injection h with i1 i2 C
    subst C;exact⟨M,N⟩
  refine .inl ⟨fn,q,H,i,?_⟩
  refine(I A ys.length cap w c.1 c.2).mono λe w' F=>?_
  obtain⟨rfl,rfl⟩:=F
  refine⟨_,rfl,cK _ _,[.slice A ys.length ys.length],[.list ys],[],[],[],rfl,rfl,by simp,by simp,?_,by simp[Cr,cO]⟩
  refine⟨[.list ys],[],[],[],rfl,rfl,⟨_,rfl,rfl,?_,A,ys.length,rfl⟩,rfl,rfl⟩
  obtain⟨Y,Q,vs,R,S⟩:=B
  exact .list vs o (aK _) Q R S
end
end Go.CT
namespace Go.Proofs
open Go.Shelf
def Tryz.Amw:Ren:=⟨λx=>match x with | 129=>228 | 171=>258 | 243=>285 | 246=>301 | 283=>312 | 284=>313 | 285=>314 | 286=>315 | 317=>321 | 318=>322 | 319=>323 | 320=>324 | 337=>327 | 338=>328 | n=>n,λx=>match x with | 37=>98 | 46=>154 | 51=>204 | 53=>206 | 171=>269 | 173=>271 | 212=>281 | 213=>282 | 232=>287 | 233=>288 | n=>n,λx=>match x with | 17=>3 | 18=>4 | 19=>5 | n=>n⟩
theorem Tryz.A1b:cZ Tryz.prog Tryz.Amw where
 mixed:=by kernel_rfl
 f129:=by kernel_rfl
 f171:=by kernel_rfl
 f243:=by kernel_rfl
 f246:=by kernel_rfl
 f283:=by kernel_rfl
 f284:=by kernel_rfl
 f285:=by kernel_rfl
 f286:=by kernel_rfl
 f317:=by kernel_rfl
 f318:=by kernel_rfl
 f319:=by kernel_rfl
 f320:=by kernel_rfl
 f337:=by kernel_rfl
 f338:=by kernel_rfl
 t0:=by kernel_rfl
 a0:=Tryz.isAgg0
 z0:=Tryz.sizeOf0
 v0:=Tryz.zeroValue0
 t2:=by kernel_rfl
 a2:=Tryz.isAgg2
 z2:=Tryz.sizeOf2
 v2:=Tryz.zeroValue2
 t3:=by kernel_rfl
 a3:=Tryz.isAgg3
 z3:=Tryz.sizeOf3
 v3:=Tryz.zeroValue3
 t4:=by kernel_rfl
 a4:=Tryz.isAgg4
 z4:=Tryz.sizeOf4
 v4:=Tryz.zeroValue4
 t5:=by kernel_rfl
 a5:=Tryz.isAgg5
 z5:=Tryz.sizeOf5
 v5:=Tryz.zeroValue5
 t9:=by kernel_rfl
 a9:=Tryz.isAgg9
 z9:=Tryz.sizeOf9
 v9:=Tryz.zeroValue9
 t20:=by kernel_rfl
 a20:=Tryz.isAgg20
 z20:=Tryz.sizeOf20
 v20:=Tryz.zeroValue20
 t37:=by kernel_rfl
 a37:=Tryz.isAgg98
 z37:=Tryz.sizeOf98
 v37:=Tryz.zeroValue98
 t46:=by kernel_rfl
 a46:=Tryz.isAgg154
 z46:=Tryz.sizeOf154
 v46:=Tryz.zeroValue154
 t51:=by kernel_rfl
 a51:=Tryz.isAgg204
 z51:=Tryz.sizeOf204
 v51:=Tryz.zeroValue204
 t53:=by kernel_rfl
 a53:=Tryz.isAgg206
 z53:=Tryz.sizeOf206
 v53:=Tryz.zeroValue206
 t171:=by kernel_rfl
 a171:=Tryz.isAgg269
 z171:=Tryz.sizeOf269
 v171:=Tryz.zeroValue269
 t173:=by kernel_rfl
 a173:=Tryz.isAgg271
 z173:=Tryz.sizeOf271
 v173:=Tryz.zeroValue271
 t212:=by kernel_rfl
 a212:=Tryz.isAgg281
 z212:=Tryz.sizeOf281
 v212:=Tryz.zeroValue281
 t213:=by kernel_rfl
 a213:=Tryz.isAgg282
 z213:=Tryz.sizeOf282
 t232:=by kernel_rfl
 a232:=Tryz.isAgg287
 z232:=Tryz.sizeOf287
 v232:=Tryz.zeroValue287
 t233:=by kernel_rfl
 a233:=Tryz.isAgg288
 z233:=Tryz.sizeOf288
 v233:=Tryz.zeroValue288
 g17:=by kernel_rfl
 g18:=by kernel_rfl
 g19:=by kernel_rfl
def Tryz.Xg:Ren:=⟨λx=>match x with | 169=>260 | n=>n,λx=>match x with | 37=>98 | 70=>221 | 72=>223 | 127=>246 | n=>n,λn=>n⟩
theorem Tryz.A2h:dA Tryz.prog Tryz.Xg where
 mixed:=by kernel_rfl
 f169:=by kernel_rfl
 t0:=by kernel_rfl
 a0:=Tryz.isAgg0
 z0:=Tryz.sizeOf0
 v0:=Tryz.zeroValue0
 t3:=by kernel_rfl
 a3:=Tryz.isAgg3
 z3:=Tryz.sizeOf3
 v3:=Tryz.zeroValue3
 t9:=by kernel_rfl
 a9:=Tryz.isAgg9
 z9:=Tryz.sizeOf9
 v9:=Tryz.zeroValue9
 t37:=by kernel_rfl
 a37:=Tryz.isAgg98
 z37:=Tryz.sizeOf98
 v37:=Tryz.zeroValue98
 t70:=by kernel_rfl
 a70:=Tryz.isAgg221
 z70:=Tryz.sizeOf221
 v70:=Tryz.zeroValue221
 t72:=by kernel_rfl
 a72:=Tryz.isAgg223
 z72:=Tryz.sizeOf223
 v72:=Tryz.zeroValue223
 t127:=by kernel_rfl
 a127:=Tryz.isAgg246
 z127:=Tryz.sizeOf246
 v127:=Tryz.zeroValue246
theorem Tryz.extra:Builder.Extra Tryz.prog Tryz.Xg where
 sizeBuilder:=by kernel_rfl
 liesBuilder:=by kernel_rfl
 t5:=Tryz.underlying5
 a5:=Tryz.isAgg5
 z5:=Tryz.sizeOf5
 v5:=Tryz.zeroValue5
 infoByte:=by kernel_rfl
 cellsByte:=by kernel_rfl
 sizeByte:=by kernel_rfl
 neB5:=by decide
end Go.Proofs
namespace Go.CT.Sch
open Go.Proofs Go.Shelf
def A0z:Ren:=⟨λx=>match x with | 240=>284 | 276=>300 | n=>n,λx=>match x with | 4=>4 | 9=>9 | 20=>20 | 70=>221 | 72=>223 | 37=>98 | 164=>257 | n=>n,λn=>n⟩
theorem A3f:Lays.n240 Tryz.prog A0z where
 mixed:=by kernel_rfl
 f240:=by kernel_rfl
 f276:=by kernel_rfl
 t0:=by kernel_rfl
 a0:=Tryz.isAgg0
 z0:=Tryz.sizeOf0
 v0:=Tryz.zeroValue0
 t4:=by kernel_rfl
 a4:=Tryz.isAgg4
 z4:=Tryz.sizeOf4
 v4:=Tryz.zeroValue4
 t9:=by kernel_rfl
 a9:=Tryz.isAgg9
 z9:=Tryz.sizeOf9
 v9:=Tryz.zeroValue9
 t20:=by kernel_rfl
 a20:=Tryz.isAgg20
 z20:=Tryz.sizeOf20
 v20:=Tryz.zeroValue20
 t70:=by kernel_rfl
 a70:=Tryz.isAgg221
 z70:=Tryz.sizeOf221
 v70:=Tryz.zeroValue221
 t72:=by kernel_rfl
 a72:=Tryz.isAgg223
 z72:=Tryz.sizeOf223
 v72:=Tryz.zeroValue223
 t164:=by kernel_rfl
 a164:=Tryz.isAgg257
 z164:=Tryz.sizeOf257
 v164:=Tryz.zeroValue257
theorem Ayg:Builder.X72 Tryz.prog A0z where
 sizeBuilder:=by kernel_rfl
 liesBuilder:=by kernel_rfl
theorem Ahp (A:Option Addr)(n cap:Nat)(w:World)(h:n<=cap)(hn:cap<=maxLen):
  Calls Tryz.prog 280 #[.slice A n cap] w λe w'=>e= .returned (.slice A n n)/\w'=w:=by
 go_enter Tryz.func280,Tryz.ntmps280
 go_wp2
 go_ret
 exact⟨rfl,rfl⟩
end Go.CT.Sch
