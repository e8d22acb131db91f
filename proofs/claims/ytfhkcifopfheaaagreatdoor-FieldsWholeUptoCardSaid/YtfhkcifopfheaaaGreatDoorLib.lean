import Derived.Test.YtfhkcifopfheaaaGreatDoorCtC
import Derived.Below
import Derived.Shelf.Sort.Plain
import Derived.Shelf.Slices.In.CompactS
import Derived.Shelf.Slices.In.SortNone
import Derived.Shelf.Spec.SlicesGrow
import Derived.RangeFuncNested
import Derived.RangeFuncBound
import Derived.RangeFuncCalls
import Derived.RangeFuncLeaves
import Derived.RangeFuncBox
import Derived.Maps.AppendAt
import Derived.Shelf.Abstract
import Derived.Shelf.RegionOpen
import Derived.WalkKit
import Derived.OwnWalkIn
import Derived.TacticsInMore
import Derived.LoopNIn
import Derived.LoopIn
import Derived.Test.YtfhkcifopfheaaaGreatDoorProg
import Derived.ProofKit
import Derived.Test.YtfhkcifopfheaaaGreatDoorRows
import Derived.Shelf.Strings.Builder1
import Derived.Shelf.Strconv.Itoa3
set_option linter.unusedVariables false
set_option linter.unusedSimpArgs false
namespace Go.CT
open Go.RowKit
def Aq3 (n₀:Nat) (W:World) (sv:Value) (zs:List ByteArray):Prop:=
 ∃A cap,sv= .slice A zs.length cap∧zs.length≤maxLen∧(0<zs.length→ ∃ad,A=some ad∧ad.block<n₀∧ ∀j,j<zs.length→W.cell? (ad.add j)=some (.string (zs[j]?.getD ⟨#[]⟩)))
theorem Aq3.below {n₀:Nat} {A B:World} (h:Below n₀ A B) {sv:Value} {zs:List ByteArray} :Aq3 n₀ A sv zs→Aq3 n₀ B sv zs
 | ⟨b,cap,e,hm,hc⟩=>⟨b,cap,e,hm,fun h0=>let ⟨ad,e1,e2,e3⟩:=hc h0; ⟨ad,e1,e2,fun j hj=>(h.cell (by rw [Cw];exact e2)).trans (e3 j hj)⟩⟩
def O.Jn:List IV→Option (List IV)
 | [.list xs]=>if xs.length * 16≤Ax then some [.list xs] else none
 | _=>none
theorem Avc {P:Program} {te:TypeId} (hstr:P.underlying te=some .string) (hse:Af P te=1) {w:World} {O:Nat→Prop} {t:TypeId} (ht:P.underlying t=some (.slice te)) {x:IV} {sv:Value} (h:Rel P w O t x sv): ∃zs:List ByteArray,x= .list (zs.map IV.str)∧Aq3 w.heap.size w sv zs:=by
 obtain ⟨ys,A,c,rfl,rfl,h1,h2,vs,h3,h4⟩:=h.Ca ht
 have hz: ∀ (j:Nat) (y:IV),ys[j]?=some y→ ∃z,y= .str z∧vs j= .string z:=fun j y hy=>(h4 j y hy).Gj hstr
 refine ⟨ys.map fun y=>match y with | .str z=>z | _=>⟨#[]⟩,?_,A,c,by simp,by simpa using h2,fun h0=>?_⟩
 ·congr 1
  rw [List.map_map]
  apply List.ext_getElem?
  intro j
  rw [List.getElem?_map]
  cases hy:ys[j]? with
  | none=>rfl
  | some y=>
   obtain ⟨z,rfl,_⟩:=hz j y hy
   rfl
 ·obtain ⟨_,ad,rfl,_,hc⟩:=h3 (by simpa using h0)
  have hlt:ad.block<w.heap.size:=by
   have:=(hc 0 (by simpa using h0)).lt (by rw [hse];decide)
   rwa [Cw] at this
  refine ⟨ad,rfl,hlt,fun j hj=>?_⟩
  have hj:j<ys.length:=by simpa using hj
  obtain ⟨z,e1,e2⟩:=hz j _ (List.getElem?_eq_getElem hj)
  have:=(hc j hj).2 0 (vs j) (by rw [e2];rfl)
  rw [hse,Nat.mul_one,Au,e2] at this
  rw [this,List.getElem?_map,List.getElem?_eq_getElem hj,e1]
  rfl
theorem Afy {P:Program} {te:TypeId} (hstr:P.underlying te=some .string) (hse:Af P te=1) {w:World} {O:Nat→Prop} (zs:List ByteArray):Ik P w O te (zs.map IV.str) (zs.map Value.string):=by
 intro j x hx
 rw [List.getElem?_map] at hx
 cases hz:zs[j]? with
 | none=>simp [hz] at hx
 | some z=>
  simp only [hz,Option.map_some,Option.some.injEq] at hx
  subst hx
  refine ⟨.string z,.str hstr,?_,by rw [hse];rfl⟩
  rw [hse,Nat.mul_one]
  have hj:=(List.getElem?_eq_some_iff.1 hz).1
  rw [List.drop_eq_getElem_cons (by simpa using hj)]
  simp [(List.getElem?_eq_some_iff.1 hz).2,Value.cells]
theorem X8 {P:Program} {te ts:TypeId} {fC fV:FuncId} {fn:Func} {al:Bool} (hstr:P.underlying te=some .string) (hse:Af P te=1) (hts:P.underlying ts=some (.slice te)) (hl:leaves P ts=some [ts]) (hss:Af P ts=1)
  (hfn:P.funcs[fC]?=some fn) (hname:(fn.name == "runtime.NumGoroutine")=false) (hbody:fn.body.isNone=false)
  (hcall: ∀ (ad:Addr) (sv:Value) (zs:List ByteArray) (w:World),zs.length * 16≤140737488355328→ad.block<w.heap.size→w.cell? ad=some sv→Aq3 w.heap.size w sv zs→
   Calls P fC #[.func (.func fV) #[] #[.pointer (some ad)]] w fun e w'=> ∃v,e= .returned v∧w'.ownsRow w.heap.size te 1 v zs.length (zs.map .string)∧Below w.heap.size w w'):
  Dd P O.Jn ⟨fC,[.fn fV [ts]],[.cells ts [true]],al⟩:=by
 have hagg:Ag P ts=false:=by simp [Ag,hts]
 intro w X xs args L rs hr hn hX hlt hf
 match args,hr with
 | [],hr=>exact hr.elim
 | _::_::_,hr=>obtain ⟨_,_,_,_,_,_,_,hr⟩:=hr;exact hr.elim
 | [v],hr=>
 obtain ⟨ys,zs,L1,L2,rfl,rfl,⟨vs,rfl,rfl,hc⟩,rfl,rfl⟩:=hr
 obtain ⟨x,u,rfl,hcs,ad,sv,rfl,h1,h2,h3,h4⟩: ∃x u,ys= [x]∧vs.toList= [u]∧Md P w (fun b=>X b∨b∈ []++ []) (· ∈ []++ []) ts x u:=by
  cases ys with
  | nil=>exact hc.elim
  | cons x ys=>
   cases hv:vs.toList with
   | nil=>rw [hv] at hc;exact hc.elim
   | cons u us=>
    rw [hv] at hc
    obtain ⟨h1,h2⟩:=hc
    cases ys with
    | nil=>cases us with
     | nil=>exact ⟨x,u,rfl,rfl,h1⟩
     | cons=>exact h2.elim
    | cons=>exact h2.elim
 obtain ⟨zs,rfl,hS⟩:=Avc hstr hse hts h4
 simp only [List.append_nil,O.Jn,List.length_map] at hf
 rw [Option.ite_none_right_eq_some] at hf
 obtain ⟨hle,hf⟩:=hf
 injection hf with hf
 subst hf
 have hcell:w.cell? ad=some sv:=by
  have hsv:sv.cells= #[sv]:=by
   obtain ⟨A,c,rfl,_⟩:=hS
   rfl
  have:=h1.2 0 sv (by rw [hsv];rfl)
  rwa [Au] at this
 have hvs:vs= #[.pointer (some ad)]:=by rw [←Array.toArray_toList (xs:=vs),hcs]
 subst hvs
 have hcall:=hcall ad sv zs w hle (h1.lt h2) hcell hS
 refine .inl ⟨_,hfn,hname,hbody,hcall.mono ?_⟩
 rintro e w' ⟨v,rfl,hrow,hB⟩
 refine ⟨v,rfl,⟨hB.os,hB.tape,hB.output,hB.size,fun b hb _=>hB.block b hb⟩,[v],[.list (zs.map IV.str)],[],(blk v).toList,[],rfl,by simp,?_,?_,?_,?_⟩
 ·cases blk v<;>simp
 ·intro b hb
  right
  simp only [List.append_nil,Option.mem_toList] at hb
  rcases hrow.2 with ⟨rfl,_⟩ | ⟨g,cap,cu,rfl,e2,e3,_⟩
  ·cases hb
  ·simp [blk] at hb
   subst hb;exact e2
 ·refine ⟨[.list (zs.map IV.str)],[],(blk v).toList,[],rfl,by simp,?_,rfl,rfl⟩
  have hone:=(Iu hrow).2.1
  refine ⟨[ts],hl,?_,?_,?_⟩
  ·rw [Ew hone,hss];rfl
  ·rw [hagg];simpa using hone
  ·rw [show v.cells.toList= [v] by rw [Ew hone]]
   refine ⟨[],⟨_,rfl,.inl ⟨te,hts,by rw [hse];decide,_,?_,Afy hstr hse zs,?_⟩⟩,rfl,by simp⟩
   ·rw [hse,List.length_map]
    refine ⟨hrow.1,hrow.2.imp id fun ⟨g,cap,cu,e1,e2,rest⟩=>⟨g,cap,cu,e1,Nat.zero_le _,rest⟩⟩
   ·intro u hu
    obtain ⟨z,_,rfl⟩:=List.mem_map.1 hu
    rfl
 ·simp [Bi,PS.Ce]
end Go.CT
namespace Go.CT
open Go.RowKit
def Aaf:List IV→Option (List ByteArray)
 | []=>some []
 | .str z::xs=>(Aaf xs).map (z:: ·)
 | _=>none
theorem Je: ∀zs:List ByteArray,Aaf (zs.map IV.str)=some zs
 | []=>rfl
 | z::zs=>by simp [Aaf,Je zs]
def ofL (l:List UInt8):ByteArray:=⟨l.toArray⟩
def Af7 (zs:List ByteArray):List ByteArray:=((zs.map (·.data.toList)).mergeSort fun x y=>decide (x≤y)).map ofL
def Avo (s:ByteArray):List ByteArray→List ByteArray
 | []=> [s]
 | x::r=>if Op.bytesLess x.data.toList s.data.toList then x::Avo s r else s::x::r
def L8:List ByteArray→List ByteArray
 | []=> []
 | s::r=>Avo s (L8 r)
def Ec (zs:List ByteArray):List ByteArray:=(Lib.compact (zs.map (·.data.toList))).map ofL
def O.Acz:List IV→Option (List IV)
 | [.list xs]=>(Aaf xs).bind fun zs=>if zs.length<4611686018427387904 then some [.list ((L8 zs).map IV.str)] else none
 | _=>none
def O.Jz:List IV→Option (List IV)
 | [.list xs]=>(Aaf xs).bind fun zs=>if zs.length≤4611686018427387904 then some [.list ((Ec zs).map IV.str)] else none
 | _=>none
def O.Ao0 (bytes:Nat):List IV→Option (List IV)
 | [.list xs,.int n]=>if 0≤n∧(xs.length+n.toNat) * bytes≤Ax∧xs.length+n.toNat≤4611686018427387904 then some [.list xs] else none
 | _=>none
theorem Awz (z:ByteArray):Proofs.encStr z.data.toList=Value.string z:=by simp [Proofs.encStr]
theorem Xx (l:List UInt8):(ofL l).data.toList =l:=by simp [ofL]
theorem W4 (z:ByteArray):ofL z.data.toList=z:=by simp [ofL]
theorem Ad6 (l:List (List UInt8)):(l.map ofL).map (fun z=>z.data.toList)=l:=by
 rw [List.map_map];conv=>rhs;rw [←List.map_id l]
 exact List.map_congr_left fun x _=>Xx x
theorem Awy: ∀ (a b:List UInt8),Op.bytesLess a b=true↔a<b
 | [],[]=>by simp [Op.bytesLess]
 | [],_::_=>by simp [Op.bytesLess]
 | _::_,[]=>by simp [Op.bytesLess]
 | a::x,b::y=>by
  simp only [Op.bytesLess,Bool.or_eq_true,decide_eq_true_eq,Bool.and_eq_true,beq_iff_eq,List.cons_lt_cons_iff,Awy x y]
theorem Aol (a b:List UInt8):decide (a≤b)= !Op.bytesLess b a:=by
 rw [Bool.eq_iff_iff,decide_eq_true_iff,Bool.not_eq_true',←Bool.not_eq_true,Awy]
 exact Iff.rfl
theorem Al0: ∀l:List UInt8,Op.bytesLess l l=false
 | []=>rfl
 | a::l=>by simp [Op.bytesLess,Al0 l]
theorem Ar7: ∀ {a b c:List UInt8},Op.bytesLess a b=true→Op.bytesLess b c=true→Op.bytesLess a c=true
 | _,_,[],_,h=>by simp [Op.bytesLess] at h
 | [],_,_::_,_,_=>by simp [Op.bytesLess]
 | _::_,[],_::_,h,_=>by simp [Op.bytesLess] at h
 | a::x,b::y,c::z,h1,h2=>by
  simp only [Op.bytesLess,Bool.or_eq_true,decide_eq_true_eq,Bool.and_eq_true,beq_iff_eq] at h1 h2 ⊢
  rcases h1 with h1 | ⟨rfl,h1⟩
  ·rcases h2 with h2 | ⟨rfl,_⟩
   ·exact .inl (UInt8.lt_trans h1 h2)
   ·exact .inl h1
  ·rcases h2 with h2 | ⟨rfl,h2⟩
   ·exact .inl h2
   ·exact .inr ⟨rfl,Ar7 h1 h2⟩
theorem Ad5: ∀ (a b:List UInt8),Op.bytesLess a b=true∨a=b∨Op.bytesLess b a=true
 | [],[]=> .inr (.inl rfl)
 | [],_::_=> .inl (by simp [Op.bytesLess])
 | _::_,[]=> .inr (.inr (by simp [Op.bytesLess]))
 | a::x,b::y=>by
  simp only [Op.bytesLess,Bool.or_eq_true,decide_eq_true_eq,Bool.and_eq_true,beq_iff_eq]
  rcases Nat.lt_trichotomy a.toNat b.toNat with h | h | h
  ·exact .inl (.inl (UInt8.lt_iff_toNat_lt.2 h))
  ·obtain rfl:=UInt8.toNat_inj.1 h
   rcases Ad5 x y with h | rfl | h
   ·exact .inl (.inr ⟨rfl,h⟩)
   ·exact .inr (.inl rfl)
   ·exact .inr (.inr (.inr ⟨rfl,h⟩))
  ·exact .inr (.inr (.inl (UInt8.lt_iff_toNat_lt.2 h)))
theorem Ac1 {a b:List UInt8} (h:Op.bytesLess a b=true):Op.bytesLess b a=false:=by
 cases h2:Op.bytesLess b a with
 | false=>rfl
 | true=>have:=Ar7 h h2;rw [Al0] at this;cases this
theorem Yk {a b c:List UInt8} (h1:Op.bytesLess b a=false) (h2:Op.bytesLess c b=false):Op.bytesLess c a=false:=by
 cases h3:Op.bytesLess c a with
 | false=>rfl
 | true=>
  rcases Ad5 a b with h | rfl | h
  ·rw [Ar7 h3 h] at h2;cases h2
  ·rw [h3] at h2;cases h2
  ·rw [h] at h1;cases h1
theorem Akv (l:List (List UInt8)):(l.mergeSort fun x y=>decide (x≤y)).Pairwise fun a b=>Op.bytesLess b a=false:=by
 have h:=List.pairwise_mergeSort (le:=fun x y:List UInt8=>decide (x≤y)) (fun a b c h1 h2=>by
  rw [Aol,Bool.not_eq_true'] at h1 h2 ⊢
  exact Yk h1 h2) (fun a b=>by
  rw [Aol,Aol]
  rcases Ad5 a b with h | rfl | h
  ·simp [Ac1 h]
  ·simp [Al0]
  ·simp [Ac1 h]) l
 exact h.imp fun h=>by rw [Aol,Bool.not_eq_true'] at h;exact h
theorem Sp (s:ByteArray): ∀l,(Avo s l).Perm (s::l)
 | []=>List.Perm.refl _
 | x::r=>by
  rw [Avo]
  split
  ·exact ((Sp s r).cons x).trans (List.Perm.swap s x r)
  ·exact List.Perm.refl _
theorem L3: ∀l,(L8 l).Perm l
 | []=>List.Perm.refl _
 | s::r=>(Sp s _).trans ((L3 r).cons s)
def BLE (a b:ByteArray):Prop:=Op.bytesLess b.data.toList a.data.toList=false
theorem Yn (s:ByteArray): ∀l,l.Pairwise BLE→(Avo s l).Pairwise BLE
 | [],_=>List.pairwise_singleton _ _
 | x::r,h=>by
  obtain ⟨h1,h2⟩:=List.pairwise_cons.1 h
  rw [Avo]
  split
  ·rename_i hc
   refine List.pairwise_cons.2 ⟨fun y hy=>?_,Yn s r h2⟩
   rcases List.mem_cons.1 ((Sp s r).mem_iff.1 hy) with rfl | hy
   ·exact Ac1 hc
   ·exact h1 y hy
  ·rename_i hc
   have hc:BLE s x:=by simpa [BLE] using hc
   refine List.pairwise_cons.2 ⟨fun y hy=>?_,h⟩
   rcases List.mem_cons.1 hy with rfl | hy
   ·exact hc
   ·exact Yk hc (h1 y hy)
theorem Vq: ∀l,(L8 l).Pairwise BLE
 | []=>List.Pairwise.nil
 | s::r=>Yn s _ (Vq r)
theorem Ak7: ∀ {a b:List ByteArray},a.Perm b→a.Pairwise BLE→b.Pairwise BLE→a=b
 | [],b,h,_,_=>(List.perm_nil.1 h.symm).symm
 | x::a,[],h,_,_=>by have:=h.length_eq;simp at this
 | x::a,y::b,h,ha,hb=>by
  obtain ⟨a1,a2⟩:=List.pairwise_cons.1 ha
  obtain ⟨b1,b2⟩:=List.pairwise_cons.1 hb
  have hxy:x=y:=by
   rcases List.mem_cons.1 (h.mem_iff.1 List.mem_cons_self) with e | e
   ·exact e
   ·rcases List.mem_cons.1 (h.symm.mem_iff.1 List.mem_cons_self) with e' | e'
    ·exact e'.symm
    ·have h1:=b1 x e
     have h2:=a1 y e'
     unfold BLE at h1 h2
     rcases Ad5 x.data.toList y.data.toList with h | h | h
     ·rw [h] at h1;cases h1
     ·cases x;cases y;simp at h;rw [h]
     ·rw [h] at h2;cases h2
  subst hxy
  rw [Ak7 (List.Perm.cons_inv h) a2 b2]
theorem Xk (zs:List ByteArray):L8 zs=Af7 zs:=by
 refine Ak7 ((L3 zs).trans ?_) (Vq zs) ?_
 ·unfold Af7
  have h1:=(List.mergeSort_perm (zs.map (·.data.toList)) fun x y=>decide (x≤y)).map ofL
  refine (List.Perm.trans h1 ?_).symm
  rw [List.map_map]
  have:zs.map (ofL ∘ fun z=>z.data.toList)=zs:=by
   conv=>rhs;rw [←List.map_id zs]
   exact List.map_congr_left fun x _=>W4 x
  rw [this]
 ·unfold Af7
  rw [List.pairwise_map]
  exact (Akv _).imp fun h=>by unfold BLE;rw [Xx,Xx];exact h
section
variable {P:Program} {te ts:TypeId} {w w':World} {O:Nat→Prop}
theorem Ade (hstr:P.underlying te=some .string) (hse:Af P te=1) {xs:List IV} {v:Value} (h:Es P w O te xs v): ∃zs:List ByteArray,xs=zs.map IV.str∧w.ownsRow 0 te 1 v zs.length (zs.map Value.string):=by
 obtain ⟨_,cs,hown,hel,hone⟩:=h
 rw [hse] at hown
 have hlen:cs.length=xs.length:=by have:=hown.1;omega
 have hz: ∀ (j:Nat) (y:IV),xs[j]?=some y→ ∃z,y= .str z∧cs[j]?=some (.string z):=fun j y hy=>by
  obtain ⟨v,h1,h2,h3⟩:=hel j y hy
  obtain ⟨z,rfl,rfl⟩:=h1.Gj hstr
  refine ⟨z,rfl,?_⟩
  rw [hse,Nat.mul_one] at h2
  have:((cs.drop j).take 1)[0]?=some (.string z):=by rw [←h2];rfl
  simpa using this
 refine ⟨xs.map fun y=>match y with | .str z=>z | _=>⟨#[]⟩,?_,?_⟩
 ·rw [List.map_map]
  apply List.ext_getElem?
  intro j
  rw [List.getElem?_map]
  cases hy:xs[j]? with
  | none=>rfl
  | some y=>
   obtain ⟨z,rfl,_⟩:=hz j y hy
   rfl
 ·have e:List.map Value.string (xs.map fun y=>match y with | .str z=>z | _=>⟨#[]⟩)=cs:=by
   rw [List.map_map]
   apply List.ext_getElem?
   intro j
   rw [List.getElem?_map]
   cases hy:xs[j]? with
   | none=>
    have:xs.length≤j:=List.getElem?_eq_none_iff.1 hy
    rw [List.getElem?_eq_none (by omega)];rfl
   | some y=>
    obtain ⟨z,rfl,h2⟩:=hz j y hy
    rw [h2];rfl
  rw [e,List.length_map]
  exact hown
theorem Aef (hstr:P.underlying te=some .string) (hse:Af P te=1) {zs:List ByteArray} {v:Value} (h:w.ownsRow 0 te 1 v zs.length (zs.map Value.string)):Es P w O te (zs.map IV.str) v:=by
 refine ⟨by rw [hse];decide,zs.map Value.string,?_,Afy hstr hse zs,fun u hu=>?_⟩
 ·rw [hse,List.length_map];exact h
 ·obtain ⟨z,_,rfl⟩:=List.mem_map.1 hu
  rfl
theorem Xn (d:List (List UInt8)) (cu:Array Value) (h:d.length≤cu.size):((Sort.putCells Proofs.encStr 0 d.toArray cu).toList).take d.length=d.map Proofs.encStr:=by
 apply List.ext_getElem?
 intro j
 rw [List.getElem?_take,List.getElem?_map]
 by_cases hj:j<d.length
 ·rw [if_pos hj]
  have hc:j<cu.size:=by omega
  simp [Sort.putCells,hj,hc]
 ·rw [if_neg hj,List.getElem?_eq_none (by omega)];rfl
theorem Ajm {g n cap m:Nat} {cs:List Value} {q:Nat} {os:Array Obj} {d:List (List UInt8)} (hown:w.ownsRow 0 te 1 (.slice (some ⟨g,0,none⟩) n cap) n cs) (hd:d.length=n) (hm:m≤n)
  (hw:w'=Sort.grow (Sort.putRow Proofs.encStr (Sort.ahead w q) g 0 d.toArray) os):
  w'.ownsRow 0 te 1 (.slice (some ⟨g,0,none⟩) m cap) m ((d.take m).map Proofs.encStr)∧Gb (· =g) w w':=by
 obtain ⟨h1,⟨h,_⟩ | ⟨g',cap',cu,hv,h2,h3,h4,h5,h6,h7⟩⟩:=hown
 ·cases h
 ·injection hv with i1 i2 i3
  injection i1 with i1;injection i1 with i1
  subst i1;subst i3
  have hlt:g<w.heap.size:=(Array.getElem?_eq_some_iff.1 h3).1
  have hsz:(Sort.putRow Proofs.encStr (Sort.ahead w q) g 0 d.toArray).heap.size =w.heap.size:=by simp [Sort.putRow,Sort.mapBlock,Sort.ahead]
  have hg:w'.heap[g]?=some (.cells (Sort.putCells Proofs.encStr 0 d.toArray cu) te (0,0)):=by
   rw [hw]
   show ((Sort.putRow Proofs.encStr (Sort.ahead w q) g 0 d.toArray).heap ++os)[g]?=_
   rw [Array.getElem?_append_left (by rw [hsz];exact hlt)]
   simp only [Sort.putRow,Sort.mapBlock,Sort.ahead,Array.getElem?_modify,if_true,h3,Option.map_some,Sort.onCells]
  have hcu:d.length≤cu.size:=by rw [h6,hd];omega
  refine ⟨⟨by rw [List.length_map,List.length_take];omega,.inr ⟨g,cap,_,rfl,Nat.zero_le _,hg,by omega,h5,?_,?_⟩⟩,?_⟩
  ·rw [←h6];simp [Sort.putCells]
  ·rw [Nat.mul_one,List.map_take,←Xn d cu hcu,List.take_take,Nat.min_eq_left (by omega)]
  ·subst hw
   refine ⟨rfl,rfl,rfl,?_,fun b hb hne=>?_⟩
   ·rw [Sort.size_grow,hsz];exact Nat.le_add_right _ _
   ·show ((Sort.putRow Proofs.encStr (Sort.ahead w q) g 0 d.toArray).heap ++os)[b]?=_
    rw [Array.getElem?_append_left (by rw [hsz];exact hb)]
    simp only [Sort.putRow,Sort.mapBlock,Sort.ahead,Array.getElem?_modify]
    rw [if_neg (fun e=>hne e.symm)]
theorem Zs {g n cap:Nat} {zs:List ByteArray} (hown:w.ownsRow 0 te 1 (.slice (some ⟨g,0,none⟩) n cap) n (zs.map Value.string)):Sort.Holds Proofs.encStr w g 0 (zs.map (·.data.toList)).toArray ∧g<w.heap.size∧n=zs.length∧n≤cap:=by
 obtain ⟨h1,⟨h,_⟩ | ⟨g',cap',cu,hv,h2,h3,h4,h5,h6,h7⟩⟩:=hown
 ·cases h
 ·injection hv with i1 i2 i3
  injection i1 with i1;injection i1 with i1
  subst i1;subst i3
  have hn:n=zs.length:=by rw [List.length_map] at h1;omega
  refine ⟨fun j hj=>?_,(Array.getElem?_eq_some_iff.1 h3).1,hn,h4⟩
  have hj:j<zs.length:=by simpa using hj
  have hc:cu[j]?=some (.string zs[j]):=by
   have:(cu.toList.take (n * 1))[j]?=some (.string zs[j]):=by
    rw [h7,List.getElem?_map,List.getElem?_eq_getElem hj];rfl
   rw [List.getElem?_take] at this
   split at this
   ·simpa using this
   ·cases this
  refine ⟨?_,by simp [World.frozen?,h3]⟩
  simp only [World.cell?,h3,Nat.zero_add]
  rw [hc]
  congr 1
  rw [←Awz]
  simp [hj]
end
theorem Aiw {P:Program} {te ts:TypeId} {f:FuncId} {fn:Func} {al:Bool} (hstr:P.underlying te=some .string) (hse:Af P te=1) (hts:P.underlying ts=some (.slice te))
  (hfn:P.funcs[f]?=some fn) (hname:(fn.name == "runtime.NumGoroutine")=false) (hbody:fn.body.isNone=false)
  (hcall: ∀ (b cap:Nat) (ss:List (List UInt8)) (w:World),Sort.Holds Proofs.encStr w b 0 ss.toArray→b<w.heap.size→ss.length<4611686018427387904→Calls P f #[.slice (some ⟨b,0,none⟩) ss.length cap] w fun e w'=>
   e= .returned (.tuple #[])∧ ∃n os,w'=Sort.grow (Sort.putRow Proofs.encStr (Sort.ahead w n) b 0 (ss.mergeSort fun x y=>decide (x≤y)).toArray) os)
  (hnil: ∀ (w:World),Calls P f #[.slice none 0 0] w fun e w'=>e= .returned (.tuple #[])∧w'=w):
  Dd P O.Acz ⟨f,[.arr ts],[],al⟩:=by
 intro w X xs args L rs hr hn hX hlt hf
 match args,hr with
 | [],hr=>exact hr.elim
 | _::_::_,hr=>obtain ⟨_,_,_,_,_,_,_,hr⟩:=hr;exact hr.elim
 | [v],hr=>
 obtain ⟨ys,zs,L1,L2,rfl,rfl,⟨e,ivs,rfl,rfl,ht,hrow⟩,rfl,rfl⟩:=hr
 rw [hts] at ht;injection ht with ht;injection ht with ht
 subst ht
 obtain ⟨zs,rfl,hown⟩:=Ade hstr hse hrow
 simp only [List.append_nil,O.Acz,Je,Option.bind_some] at hf
 rw [Option.ite_none_right_eq_some] at hf
 obtain ⟨hle,hf⟩:=hf
 injection hf with hf
 subst hf
 have fin: ∀ (w':World),Gb (· ∈(blk v).toList ++ []) w w'→w'.ownsRow 0 te 1 v (L8 zs).length ((L8 zs).map Value.string)→Tw P X ⟨f,[.arr ts],[],al⟩ [v] ((blk v).toList ++ []) [.list ((L8 zs).map IV.str)] w (.tuple #[]) w':=by
  intro w' hs ho
  refine ⟨hs,[],[],[.list ((L8 zs).map IV.str)],[],(blk v).toList,rfl,rfl,?_,?_,⟨rfl,rfl⟩,?_⟩
  ·cases blk v<;>simp
  ·intro b hb;exact .inl (by simpa using hb)
  ·simp only [Bi,PS.Ce,if_true]
   exact ⟨_,[],(blk v).toList,[],rfl,by simp,⟨te,_,rfl,rfl,hts,Aef hstr hse ho⟩,rfl,rfl⟩
 have hl:(L8 zs).length =zs.length:=(L3 zs).length_eq
 refine .inl ⟨_,hfn,hname,hbody,?_⟩
 have hown':=hown
 rcases hown.2 with ⟨rfl,h0⟩ | ⟨g,cap,cu,rfl,_⟩
 ·refine (hnil w).mono ?_
  rintro e w' ⟨rfl,rfl⟩
  have:zs= []:=List.length_eq_zero_iff.1 h0
  subst this
  exact ⟨_,rfl,fin w' (Gb.refl _ _) (by simpa [L8] using hown)⟩
 ·obtain ⟨hH,hlt,hn',_⟩:=Zs hown
  have hc:=hcall g cap (zs.map (·.data.toList)) w hH hlt (by simpa using hle)
  rw [List.length_map] at hc
  refine hc.mono ?_
  rintro e w' ⟨rfl,q,os,hw⟩
  obtain ⟨o1,o2⟩:=Ajm (m:=zs.length) hown (by simp) (Nat.le_refl _) hw
  refine ⟨_,rfl,fin w' ⟨o2.os,o2.tape,o2.output,o2.size,fun b hb hne=>o2.stays b hb fun e=>hne (by simp [blk,e])⟩ ?_⟩
  rw [hl]
  rw [List.take_of_length_le (by simp)] at o1
  rw [show (L8 zs).map Value.string=((zs.map (·.data.toList)).mergeSort fun x y=>decide (x≤y)).map Proofs.encStr from by rw [Xk,Af7,List.map_map];rfl]
  exact o1
theorem Yv {P:Program} {te ts:TypeId} {f:FuncId} {fn:Func} {al:Bool} (hstr:P.underlying te=some .string) (hse:Af P te=1) (hts:P.underlying ts=some (.slice te)) (hl:leaves P ts=some [ts]) (hss:Af P ts=1)
  (hfn:P.funcs[f]?=some fn) (hname:(fn.name == "runtime.NumGoroutine")=false) (hbody:fn.body.isNone=false)
  (hcall: ∀ (b cap:Nat) (zs:List (List UInt8)) (w:World),Sort.Holds Proofs.encStr w b 0 zs.toArray→zs.length≤9223372036854775807→zs.length≤cap→Calls P f #[.slice (some ⟨b,0,none⟩) zs.length cap] w fun e w'=>
   e= .returned (.slice (some ⟨b,0,none⟩) (Lib.compact zs).length cap)∧ ∃q,w'=Sort.putRow Proofs.encStr (Sort.ahead w q) b 0 (Lib.compact zs++List.replicate (zs.length - (Lib.compact zs).length) []).toArray)
  (hnil: ∀ (w:World),Calls P f #[.slice none 0 0] w fun e w'=>e= .returned (.slice none 0 0)∧w'=w):
  Dd P O.Jz ⟨f,[.own ts],[.cells ts [true]],al⟩:=by
 intro w X xs args L rs hr hn hX hlt hf
 match args,hr with
 | [],hr=>exact hr.elim
 | _::_::_,hr=>obtain ⟨_,_,_,_,_,_,_,hr⟩:=hr;exact hr.elim
 | [v],hr=>
 obtain ⟨ys,zs,L1,L2,rfl,rfl,⟨e,ivs,rfl,rfl,ht,hrow⟩,rfl,rfl⟩:=hr
 rw [hts] at ht;injection ht with ht;injection ht with ht
 subst ht
 obtain ⟨zs,rfl,hown⟩:=Ade hstr hse hrow
 simp only [List.append_nil,O.Jz,Je,Option.bind_some] at hf
 rw [Option.ite_none_right_eq_some] at hf
 obtain ⟨hle,hf⟩:=hf
 injection hf with hf
 subst hf
 have hagg:Ag P ts=false:=by simp [Ag,hts]
 have fin: ∀ (v':Value) (w':World),blk v'=blk v→Gb (· ∈(blk v).toList ++ []) w w'→w'.ownsRow 0 te 1 v' (Ec zs).length ((Ec zs).map Value.string)→Tw P X ⟨f,[.own ts],[.cells ts [true]],al⟩ [v] ((blk v).toList ++ []) [.list ((Ec zs).map IV.str)] w v' w':=by
  intro v' w' hb hs ho
  have hone:=(Iu ho).2.1
  refine ⟨hs,[v'],[.list ((Ec zs).map IV.str)],[],(blk v').toList,[],rfl,rfl,?_,?_,?_,by simp [Bi,PS.Ce]⟩
  ·cases blk v'<;>simp
  ·intro b hb';exact .inl (by simpa [hb] using hb')
  ·refine ⟨[_],[],(blk v').toList,[],rfl,by simp,?_,rfl,rfl⟩
   refine ⟨[ts],hl,?_,?_,?_⟩
   ·rw [Ew hone,hss];rfl
   ·rw [hagg];simpa using hone
   ·rw [show v'.cells.toList= [v'] by rw [Ew hone]]
    exact ⟨[],⟨_,rfl,.inl ⟨te,hts,Aef hstr hse ho⟩⟩,rfl,by simp⟩
 refine .inl ⟨_,hfn,hname,hbody,?_⟩
 rcases hown.2 with ⟨rfl,h0⟩ | ⟨g,cap,cu,rfl,_⟩
 ·refine (hnil w).mono ?_
  rintro e w' ⟨rfl,rfl⟩
  have:zs= []:=List.length_eq_zero_iff.1 h0
  subst this
  exact ⟨_,rfl,fin _ w' rfl (Gb.refl _ _) (by simpa [Ec,Lib.compact,Lib.compactUpTo] using hown)⟩
 ·obtain ⟨hH,hlt,hn',hcap⟩:=Zs hown
  have hc:=hcall g cap (zs.map (·.data.toList)) w hH (by rw [List.length_map];omega) (by rw [List.length_map];exact hcap)
  rw [List.length_map] at hc
  refine hc.mono ?_
  rintro e w' ⟨rfl,q,hw⟩
  have hcl:(Lib.compact (zs.map (·.data.toList))).length ≤zs.length:=by
   have h1:(Lib.compact (zs.map (·.data.toList))).length ≤(List.range (zs.map (·.data.toList)).length).length :=by
    unfold Lib.compact Lib.compactUpTo
    rw [List.length_map]
    exact List.length_filter_le _ _
   simpa using h1
  have hlb:(Ec zs).length =(Lib.compact (zs.map (·.data.toList))).length :=by simp [Ec]
  obtain ⟨o1,o2⟩:=Ajm (m:=(Lib.compact (zs.map (·.data.toList))).length) (os:= #[]) (d:=Lib.compact (zs.map (·.data.toList))++List.replicate (zs.length - (Lib.compact (zs.map (·.data.toList))).length) []) hown (by rw [List.length_append,List.length_replicate];omega) hcl (by simpa using hw)
  refine ⟨_,rfl,fin _ w' rfl ⟨o2.os,o2.tape,o2.output,o2.size,fun b hb hne=>o2.stays b hb fun e=>hne (by simp [blk,e])⟩ ?_⟩
  rw [hlb]
  rw [List.take_left' rfl] at o1
  rw [show (Ec zs).map Value.string=(Lib.compact (zs.map (·.data.toList))).map Proofs.encStr from by rw [Ec,List.map_map];rfl]
  exact o1
theorem Al9 {P:Program} {te ts ti:TypeId} {f:FuncId} {fn:Func} {al:Bool} {i0:TypeInfo} {z:Value} (hi0:P.info? te=some i0) (hzs:z.cells.size=i0.size) (hts:P.underlying ts=some (.slice te)) (hti:P.underlying ti=some (.int .i64)) (hl:leaves P ts=some [ts]) (hss:Af P ts=1)
  (hfn:P.funcs[f]?=some fn) (hname:(fn.name == "runtime.NumGoroutine")=false) (hbody:fn.body.isNone=false)
  (hroom: ∀ (base:Option Addr) (l c n:Nat) (w:World),l≤c→c≤9223372036854775807→n≤9223372036854775807→l+n≤c→Calls P f #[.slice base l c,.int .i64 n] w fun e w'=>e= .returned (.slice base l c)∧w'=w)
  (hgrow: ∀ (base:Option Addr) (l c n:Nat) (cs:List Value) (w:World),l≤c→c<l+n→(l+n) * i0.bytes≤140737488355328→l+n≤4611686018427387904→cs.length=c * i0.size→(base=none→c=0)→
   (∀a,base=some a→ ∀j v,cs[j]?=some v→w.cell? (a.add j)=some v)→Calls P f #[.slice base l c,.int .i64 n] w fun e w'=>
   e= .returned (.slice (some ⟨w.heap.size,0,none⟩) l (grownCap w (l+n) c te))∧
   w'=w.drew.alloc (.cells (cs.toArray++Builtin.zeroCells z.cells (l+n - c)++Builtin.zeroCells z.cells (grownCap w (l+n) c te - (l+n))) te)):
  Dd P (O.Ao0 i0.bytes) ⟨f,[.own ts,.data ti],[.cells ts [true]],al⟩:=by
 intro w X xs args L rs hr hn hX hlt hf
 match args,hr with
 | [],hr=>exact hr.elim
 | [_],hr=>obtain ⟨_,_,_,_,_,_,_,hr⟩:=hr;exact hr.elim
 | _::_::_::_,hr=>obtain ⟨_,_,_,_,_,_,_,_,_,_,_,_,_,_,hr⟩:=hr;exact hr.elim
 | [v,u],hr=>
 obtain ⟨ys,zs,L1,L2,rfl,rfl,⟨e,ivs,rfl,rfl,ht,hrow⟩,ys',zs',L1',L2',rfl,rfl,⟨x,rfl,rfl,hx⟩,rfl,rfl⟩:=hr
 rw [hts] at ht;injection ht with ht;injection ht with ht
 subst ht
 obtain ⟨n,rfl,rfl⟩:=hx.Gp hti
 simp only [List.append_nil,List.cons_append,List.nil_append,O.Ao0] at hf
 rw [Option.ite_none_right_eq_some] at hf
 obtain ⟨⟨hn0,hb1,hb2⟩,hf⟩:=hf
 injection hf with hf
 subst hf
 obtain ⟨m,rfl⟩:=Int.eq_ofNat_of_zero_le hn0
 simp only [Int.toNat_natCast] at hb1 hb2
 have hsz:Af P te=i0.size:=by simp [Af,hi0]
 have hagg:Ag P ts=false:=by simp [Ag,hts]
 have hmb:Ax=140737488355328:=rfl
 have hmax:maxLen=9223372036854775807:=by decide
 have fin: ∀ (v':Value) (w':World) (L1:List Nat),(blk v').toList =L1→L1.Nodup→(∀b∈L1,b∈(blk v).toList ++ []∨w.heap.size≤b)→Gb (· ∈(blk v).toList ++ []) w w'→Es P w' (fun b=>X b∨b∈L1++ []) te ivs v'→
   Tw P X ⟨f,[.own ts,.data ti],[.cells ts [true]],al⟩ [v,.int .i64 (m:Nat)] ((blk v).toList ++ []) [.list ivs] w v' w':=by
  intro v' w' L1 hb hnd hnew hs ho
  have hone:=(Iu (ho.2.choose_spec.1)).2.1
  refine ⟨hs,[v'],[.list ivs],[],L1,[],rfl,rfl,by simpa using hnd,fun b hb=>hnew b (by simpa using hb),?_,by simp [Bi,PS.Ce]⟩
  refine ⟨[_],[],L1,[],rfl,by simp,?_,rfl,rfl⟩
  refine ⟨[ts],hl,?_,?_,?_⟩
  ·rw [Ew hone,hss];rfl
  ·rw [hagg];simpa using hone
  ·rw [show v'.cells.toList= [v'] by rw [Ew hone]]
   exact ⟨[],⟨_,rfl,.inl ⟨te,hts,ho⟩⟩,rfl,by simp [hb]⟩
 obtain ⟨hs0,cs,hown,hel,hone⟩:=hrow
 refine .inl ⟨_,hfn,hname,hbody,?_⟩
 obtain ⟨base,l,c,cs',rfl,hll,hlc,hc63,hcl,hnil,hcs,htk⟩: ∃ (base:Option Addr) (l c:Nat) (cs':List Value),v= .slice base l c∧l=ivs.length∧l≤c∧c≤maxLen∧cs'.length=c * i0.size∧(base=none→c=0)∧
   (∀a,base=some a→ ∀j u,cs'[j]?=some u→w.cell? (a.add j)=some u)∧cs'.take (l * i0.size)=cs:=by
  rcases hown.2 with ⟨rfl,h0⟩ | ⟨g,cap,cu,rfl,h2,h3,h4,h5,h6,h7⟩
  ·refine ⟨none,0,0,[],rfl,h0.symm,Nat.le_refl _,Nat.zero_le _,by simp,fun _=>rfl,(fun a h=>by cases h),?_⟩
   have:cs.length=0:=by rw [hown.1,h0,Nat.zero_mul]
   rw [List.length_eq_zero_iff.1 this];simp
  ·refine ⟨_,_,_,cu.toList,rfl,rfl,h4,h5,by rw [Array.length_toList,h6,hsz],(fun h=>by cases h),fun a ha j u hu=>?_,by rw [←hsz];exact h7⟩
   injection ha with ha
   subst ha
   rw [O7]
   simp only [World.cell?,h3]
   simpa using hu
 subst hll
 by_cases hr:ivs.length+m≤c
 ·refine (hroom base ivs.length c m w hlc (by omega) (by omega) hr).mono ?_
  rintro e w' ⟨rfl,rfl⟩
  refine ⟨_,rfl,fin _ w' _ rfl (by cases base<;>simp [blk]) (fun b hb=> .inl (by simpa using hb)) (Gb.refl _ _) ⟨hs0,cs,hown,hel,hone⟩⟩
 ·refine (hgrow base ivs.length c m cs' w hlc (by omega) (by omega) hb2 hcl hnil hcs).mono ?_
  rintro e w' ⟨rfl,rfl⟩
  have hge:=grownCap_ge w (ivs.length+m) c te
  generalize hG:grownCap w (ivs.length+m) c te=G at *
  have hGm:G≤maxLen:=by rw [←hG];exact grownCap_le_maxLen w _ _ _ (by omega)
  have hsteps:Gb (· ∈(blk (.slice base ivs.length c)).toList ++ []) w (w.drew.alloc (.cells (cs'.toArray++Builtin.zeroCells z.cells (ivs.length+m - c)++Builtin.zeroCells z.cells (G - (ivs.length+m))) te)):=
   ⟨rfl,rfl,rfl,by rw [World.size_alloc];exact Nat.le_succ _,fun b hb _=>heap_alloc_old w.drew _ hb⟩
  refine ⟨_,rfl,fin _ _ [w.heap.size] rfl (by simp) (fun b hb=> .inr (by simp at hb;omega)) hsteps ⟨hs0,cs,⟨by rw [hown.1],.inr ⟨w.heap.size,G,_,rfl,Nat.zero_le _,heap_alloc_new w.drew _,by omega,hGm,?_,?_⟩⟩,fun j x hx=>?_,hone⟩⟩
  ·simp only [Array.size_append,List.size_toArray,size_zeroCells,hcl,hsz,hzs]
   rw [←Nat.add_mul,←Nat.add_mul]
   congr 1;omega
  ·rw [Array.toList_append,Array.toList_append,List.append_assoc,hsz]
   rw [List.take_append_of_le_length (by
    show ivs.length * i0.size≤cs'.toArray.toList.length
    rw [show cs'.toArray.toList=cs' from rfl,hcl];exact Nat.mul_le_mul_right _ hlc)]
   exact htk
  ·obtain ⟨v0,h1,h2,h3⟩:=hel j x hx
   refine ⟨v0,Rel.mono h1 (fun b hb ho=>?_) (fun b hb _=>heap_alloc_old w.drew _ hb),h2,h3⟩
   rcases ho with ho | ho
   ·exact .inl ho
   ·simp at ho;omega
end Go.CT
namespace Go.Proofs.Coll
open Go Go.CT Go.Proofs Go.RowKit Go.Shelf
attribute [local go_sem] Oper.semAt_some
def upto (f:Nat→ByteArray) (k:Nat):List ByteArray:=(List.range k).map f
theorem Al2 (f:Nat→ByteArray) (k:Nat):upto f (k+1)=upto f k++ [f k]:=by simp [upto,List.range_succ]
theorem Ab3 (f:Nat→ByteArray) (k:Nat):(upto f k).length =k:=by simp [upto]
theorem Apq (zs:List ByteArray):upto (fun j=>zs[j]?.getD ⟨#[]⟩) zs.length=zs:=by
 apply List.ext_getElem
 ·simp [upto]
 ·intro i h1 h2
  simp [upto,h2]
set_option maxRecDepth 100000 in
set_option maxHeartbeats 2000000 in
theorem Af1 (F:Fence) (n:Nat) (h7:F.fn 214) (hro:F.round=none) (hn:1≤n) (l:Nat) (ap ad:Addr) (n₀ len cap:Nat) (zs:List ByteArray) (hlen:len≤maxLen) (hb:ad.block<n₀) (J Jx:List ByteArray→World→Prop)
  (hY: ∀pre x W,J pre W→pre.length<len→YieldAt F (n - 1) Tryz.prog l #[.string x] W fun e W'=>
   (e= .returned (.bool true)∧J (pre++ [x]) W'∧Below n₀ W W')∨(e= .returned (.bool false)∧Jx (pre++ [x]) W'))
  (W:World) (hBs:W.cell? ap=some (.slice (some ad) len cap)) (hc: ∀j,j<len→W.cell? (ad.add j)=some (.string (zs[j]?.getD ⟨#[]⟩))) (h0:J [] W):
  CallsIn F n Tryz.prog 214 #[.func (.yield l) #[] #[],.pointer (some ap)] W fun e W'=>(∃v,e= .returned v)∧
   ((∃ys,ys=upto (fun j=>zs[j]?.getD ⟨#[]⟩) len∧J ys W')∨(∃pre:List ByteArray,True∧Jx pre W')):=by
 refine callsIn_of_wp Tryz.func214 rfl h7 ?_ hro
 simp only [Tryz.ntmps214,List.size_toArray,List.length_cons,List.length_nil,Nat.reduceAdd,Nat.reduceSub,Array.replicate_succ,Array.replicate_zero,List.push_toArray,List.append_toArray,List.nil_append,List.cons_append]
 have hmax:maxLen=9223372036854775807:=by decide
 gi_wp2
 gi_loopw [7] (fun i wr=> ∃k:Nat,k≤len∧i= .int .i64 k∧J (upto (fun j=>zs[j]?.getD ⟨#[]⟩) k) wr∧Below n₀ W wr)
  (fun i _=>len - (intOf i).toNat)
 case atStart=>exact ⟨0,Nat.zero_le _,rfl,h0,Below.refl _ _⟩
 case round=>
  obtain ⟨k,hk,rfl,hJs,hnx⟩:=hrel
  have hcx:k<len→wr.cell? (ad.add k)=some (.string (zs[k]?.getD ⟨#[]⟩)):=fun h=>(hnx.cell (by rw [CT.Cw];exact hb)).trans (hc k h)
  by_cases hlt:k<len
  ·obtain ⟨fn,tmps,assign,body,hy,hR⟩:=hY _ (zs[k]?.getD ⟨#[]⟩) wr hJs (by rw [Ab3];exact hlt)
   have hcx':=hcx hlt
   gi_wp2
   refine hR.mono ?_
   rintro e W3 (⟨rfl,hJ3,hk3⟩ | ⟨rfl,hJx3⟩)
   ·gi_wp2
    go_roundw
    case rel=>exact ⟨k+1,by omega,by simp,by rw [Al2];exact hJ3,hnx.trans hk3⟩
    case measure=>simp [intOf];omega
   ·gi_wp2
    refine bodyPost_ret (results_none rfl _ _ _) rfl ?_
    exact ⟨⟨_,rfl⟩,.inr ⟨_,trivial,hJx3⟩⟩
  ·obtain rfl:k=len:=by omega
   gi_wp2
   go_end0
   exact ⟨⟨_,rfl⟩,.inl ⟨_,rfl,hJs⟩⟩
set_option maxRecDepth 100000 in
set_option maxHeartbeats 1000000 in
theorem T0 (F:Fence) (n:Nat) (h7:F.fn 214) (hro:F.round=none) (l:Nat) (ap:Addr) (A:Option Addr) (cap:Nat) (J:List ByteArray→World→Prop) (W:World) (hBs:W.cell? ap=some (.slice A 0 cap)) (h0:J [] W):
  CallsIn F n Tryz.prog 214 #[.func (.yield l) #[] #[],.pointer (some ap)] W fun e W'=>(∃v,e= .returned v)∧J [] W':=by
 refine callsIn_of_wp Tryz.func214 rfl h7 ?_ hro
 simp only [Tryz.ntmps214,List.size_toArray,List.length_cons,List.length_nil,Nat.reduceAdd,Nat.reduceSub,Array.replicate_succ,Array.replicate_zero,List.push_toArray,List.append_toArray,List.nil_append,List.cons_append]
 gi_wp2
 gi_loopw [7] (fun i wr=>i= .int .i64 0∧J [] wr) (fun _ _=>0)
 case atStart=>exact ⟨rfl,h0⟩
 case round=>
  obtain ⟨rfl,hJs⟩:=hrel
  gi_wp2
  go_end0
  exact ⟨⟨_,rfl⟩,hJs⟩
theorem Ye (F:Fence) (n:Nat) (h7:F.fn 214) (hro:F.round=none) (hn:1≤n) (ap:Addr) (n₀:Nat) (sv:Value) (zs:List ByteArray) (w:World) (hBs:ap.block<w.heap.size) (hn₀:n₀≤w.heap.size)
  (hc:w.cell? ap=some sv) (hI:Aq3 n₀ w sv zs):
  SeqStopsK F n Tryz.prog 214 #[.pointer (some ap)] (fun x:ByteArray=> #[Value.string x]) (Below n₀) (fun ys=>ys=zs) (fun _=>True) zs.length w:=fun l J Jx W hW _ _ hY h0=>by
 have hc':=(hW.cell (p:=ap) hBs).trans hc
 obtain ⟨A,cap,rfl,hm,hcs⟩:=hI.below (hW.mono hn₀)
 cases zs with
 | nil=>exact (T0 F n h7 hro l ap A cap J W hc' h0).mono fun e W' ⟨he,hj⟩=>⟨he,.inl ⟨_,rfl,hj⟩⟩
 | cons z zs=>
  obtain ⟨ad,rfl,hb,hcs⟩:=hcs (by simp)
  refine (Af1 F n h7 hro hn l ap ad n₀ _ cap (z::zs) hm hb J Jx hY W hc' hcs h0).mono ?_
  rintro e W' ⟨he,⟨ys,rfl,hj⟩ | ⟨pre,_,hj⟩⟩
  ·exact ⟨he,.inl ⟨_,Apq _,hj⟩⟩
  ·exact ⟨he,.inr ⟨_,trivial,hj⟩⟩
end Go.Proofs.Coll
namespace Go.Proofs.Coll
open Go Go.CT Go.Proofs Go.RowKit Go.Shelf
attribute [local go_sem] Oper.semAt_some
theorem Awl:(Tryz.prog.info? 9).map (fun i=>(i.zero,i.size,i.bytes))=some (some (.string ⟨#[]⟩),1,16):=by kernel_rfl
theorem S2:Tryz.prog.underlying 22=some (.slice 9):=by kernel_rfl
set_option maxRecDepth 100000 in
set_option maxHeartbeats 2000000 in
theorem Aa1 (F:Fence) (n:Nat) (hA:F.fn 236) (hV:F.fn 214) (hro:F.round=none) (hn:3≤n) (ap:Addr) (sv:Value) (zs:List ByteArray) (w:World) (hb:zs.length * 16≤140737488355328) (hBs:ap.block<w.heap.size)
  (hc:w.cell? ap=some sv) (hI:Aq3 w.heap.size w sv zs):
  CallsIn F n Tryz.prog 236 #[.slice none 0 0,.func (.func 214) #[] #[.pointer (some ap)]] w fun e w'=>
   ∃v,e= .returned v∧w'.ownsRow w.heap.size 9 1 v zs.length (zs.map .string)∧Below w.heap.size w w':=by
 have h1:1≤n:=by omega
 have hmax:maxLen=9223372036854775807:=by decide
 refine callsIn_of_wp_marks Tryz.func236 rfl hA ?_ hro
 simp only [Tryz.ntmps236,List.size_toArray,List.length_cons,List.length_nil,Nat.reduceAdd,Nat.reduceSub,Array.replicate_succ,Array.replicate_zero,List.push_toArray,List.append_toArray,List.nil_append,List.cons_append]
 gi_wp2
 have bS:=Boxed.new w 22 (.slice none 0 0)
 have hB0:Below w.heap.size w (w.alloc (.cells #[.slice none 0 0] 22)):=(Below.refl _ w).alloc (Nat.le_refl _) _
 obtain ⟨i0,hi,hz0,hz1,hz2⟩:=info_parts Awl
 refine wpIn_rangeFunc_ownG hro h1 (gf:=214) (lb:= #[.pointer (some ap)]) rfl hV (enters_of Tryz.func214 (by kernel_rfl) rfl)
  (Ye F (n - 1) hV hro (by omega) ap w.heap.size _ zs _ (by simp;omega) (by simp) ((hB0.cell (p:=ap) hBs).trans hc) (hI.below hB0)) belowK_t (belowK_b (by simp)) (Below.refl _ _) (fun _=>rfl)
  (fun pre W=>(∃v,Boxed W w.heap.size 22 v∧W.ownsRow w.heap.size 9 1 v pre.length (pre.map Value.string)∧True)∧Below w.heap.size w W)
  (fun _ _ _=>False)
  (OwnFrom.and (Own.from (holdsRow_own w.heap.size w.heap.size 22 9 1 (fun pre:List ByteArray=>pre.length) (fun pre=>pre.map Value.string) (fun _ _=>True)) _) (ownFrom_below (Nat.le_refl _) (by simp)))
  (fun _ _ _ _ _ hs _ _=>hs)
  ⟨⟨_,bS,World.ownsRow_nil _ _ _ _,trivial⟩,hB0⟩
  (fun x=> {tmps:= #[.slice none 0 0,.func (.func 214) #[] #[.pointer (some ap)],.pointer (some ⟨w.heap.size,0,none⟩),undef,.slice none 0 0,.string x,.func (.func 214) #[] #[.pointer (some ap)],.string x,undef,undef,undef,undef,undef],defers:= []}) ?assign ?body ?done ?stop
 case assign=>
  intro l x W K hK
  gi_wp2
  exact hK
 case body=>
  rintro l pre x W ⟨⟨v,hv,hrow,_⟩,hB⟩ hle
  have hvc:=hv.cell
  have hsz:=hB.size
  gi_wp2_with (first
   | (gi_at_builtin;refine wpListIn_append_own _ rfl _ _ 22 rfl w.heap.size 9 i0 _ 1 16 S2 hi hz0 hz1 hz2 rfl (by decide) _ _ _ rfl (hrow.alloc _) ⟨W.heap.size,0,none⟩ 1 1 [.string x] rfl rfl (cell_one_new _ _ _) (by simp [Value.oneCell']) (by omega) (by omega) (by simp;omega) ?_;intro v' w1 hown' hgrow _;obtain ⟨g',cap',rfl⟩:=ownsRow_succ hown';obtain ⟨hv1,hv2,hr2,hk2,hb2⟩:=hv.appended (by decide) hrow hB.size (Nat.le_refl _) hown' hgrow;have hc1:=hv1.cell;have hf1:=hv1.frozen)
   | gi_in)
  exact ⟨hk2.from _,hb2,⟨_,hv2,by simpa using hr2,trivial⟩,hB.trans hb2⟩
 case done=>
  rintro D ys W hD rfl ⟨⟨v,hv,hrow,_⟩,hB⟩ hK
  have hvc:=hv.cell
  gi_wp2
  refine ⟨by simp,.inl ⟨_,_,rfl,run_takeDeferred hK,?_⟩⟩
  refine ⟨_,results_tmp rfl _ _ _,_,rfl,ownsRow_putObj hrow _ hK rfl,hB.trans (belowK_b (w:=w) (Nat.le_refl _) W D _ _ (by simp at hD;omega) hK rfl rfl)⟩
 case stop=>
  rintro D c pre W _ _ h _
  exact h.elim
set_option maxHeartbeats 1000000 in
theorem Agl (F:Fence) (n:Nat) (hC:F.fn 212) (hA:F.fn 236) (hV:F.fn 214) (hro:F.round=none) (hn:4≤n) (ap:Addr) (sv:Value) (zs:List ByteArray) (w:World) (hb:zs.length * 16≤140737488355328) (hBs:ap.block<w.heap.size)
  (hc:w.cell? ap=some sv) (hI:Aq3 w.heap.size w sv zs):
  CallsIn F n Tryz.prog 212 #[.func (.func 214) #[] #[.pointer (some ap)]] w fun e w'=>
   ∃v,e= .returned v∧w'.ownsRow w.heap.size 9 1 v zs.length (zs.map .string)∧Below w.heap.size w w':=by
 have h1:1≤n:=by omega
 refine callsIn_of_wp Tryz.func212 rfl hC ?_ hro
 simp only [Tryz.ntmps212,List.size_toArray,List.length_cons,List.length_nil,Nat.reduceAdd,Nat.reduceSub,Array.replicate_succ,Array.replicate_zero,List.push_toArray,List.append_toArray,List.nil_append,List.cons_append]
 gi_wp2_with (gi_at_call 236;refine (Aa1 F (n - 1) hA hV hro (by omega) ap sv zs w hb hBs hc hI).mono ?_;rintro e w' ⟨v,rfl,hrow,hB⟩)
 go_ret
 exact ⟨v,rfl,hrow,hB⟩
end Go.Proofs.Coll
namespace Go.Proofs.Coll
open Go Go.CT Go.Proofs Go.RowKit Go.Shelf
theorem Agw {al:Bool} :Dd Tryz.prog O.Jn ⟨212,[.fn 214 [22]],[.cells 22 [true]],al⟩:=
 X8 (te:=9) (by kernel_rfl) (by kernel_rfl) S2 (by kernel_rfl) (by kernel_rfl) Tryz.func212 (by kernel_rfl) (by kernel_rfl)
  fun ad sv zs w h1 h2 h3 h4=>callsIn_wide.1 (Agl Fence.wide 4 trivial trivial trivial rfl (Nat.le_refl _) ad sv zs w h1 h2 h3 h4)
end Go.Proofs.Coll
namespace Go.Proofs
open Go.Shelf
def Tryz.Acg:Ren:=⟨fun x=>match x with | 125=>238 | 128=>255 | 129=>256 | 190=>213 | 258=>237 | 302=>246 | 303=>247 | 304=>248 | 305=>249 | 306=>250 | 307=>251 | 308=>252 | 309=>253 | 310=>254 | 329=>264 | 330=>265 | 333=>263 | 334=>266 | 335=>267 | 336=>268 | 344=>273 | n=>n,fun x=>match x with | 31=>22 | 46=>196 | 51=>218 | 53=>220 | 131=>215 | 182=>209 | 183=>210 | 218=>225 | 222=>229 | 228=>235 | 229=>236 | n=>n,fun n=>n⟩
theorem Tryz.Alg:Lays.n190 Tryz.prog Tryz.Acg where
 mixed:=by kernel_rfl
 f125:=by kernel_rfl
 f128:=by kernel_rfl
 f129:=by kernel_rfl
 f190:=by kernel_rfl
 f258:=by kernel_rfl
 f302:=by kernel_rfl
 f303:=by kernel_rfl
 f304:=by kernel_rfl
 f305:=by kernel_rfl
 f306:=by kernel_rfl
 f307:=by kernel_rfl
 f308:=by kernel_rfl
 f309:=by kernel_rfl
 f310:=by kernel_rfl
 f329:=by kernel_rfl
 f330:=by kernel_rfl
 f333:=by kernel_rfl
 f334:=by kernel_rfl
 f335:=by kernel_rfl
 f336:=by kernel_rfl
 f344:=by kernel_rfl
 t0:=by kernel_rfl
 a0:=Tryz.isAgg0
 z0:=Tryz.sizeOf0
 v0:=Tryz.zeroValue0
 t3:=by kernel_rfl
 a3:=Tryz.isAgg3
 z3:=Tryz.sizeOf3
 v3:=Tryz.zeroValue3
 t4:=by kernel_rfl
 a4:=Tryz.isAgg4
 z4:=Tryz.sizeOf4
 v4:=Tryz.zeroValue4
 t5:=by kernel_rfl
 a5:=Tryz.isAgg5
 z5:=Tryz.sizeOf5
 v5:=Tryz.zeroValue5
 t9:=by kernel_rfl
 a9:=Tryz.isAgg9
 z9:=Tryz.sizeOf9
 v9:=Tryz.zeroValue9
 t31:=by kernel_rfl
 a31:=Tryz.isAgg22
 z31:=Tryz.sizeOf22
 v31:=Tryz.zeroValue22
 t46:=by kernel_rfl
 a46:=Tryz.isAgg196
 z46:=Tryz.sizeOf196
 v46:=Tryz.zeroValue196
 t51:=by kernel_rfl
 a51:=Tryz.isAgg218
 z51:=Tryz.sizeOf218
 v51:=Tryz.zeroValue218
 t53:=by kernel_rfl
 a53:=Tryz.isAgg220
 z53:=Tryz.sizeOf220
 v53:=Tryz.zeroValue220
 t131:=by kernel_rfl
 a131:=Tryz.isAgg215
 z131:=Tryz.sizeOf215
 v131:=Tryz.zeroValue215
 t182:=by kernel_rfl
 a182:=Tryz.isAgg209
 z182:=Tryz.sizeOf209
 v182:=Tryz.zeroValue209
 t183:=by kernel_rfl
 a183:=Tryz.isAgg210
 z183:=Tryz.sizeOf210
 v183:=Tryz.zeroValue210
 t218:=by kernel_rfl
 a218:=Tryz.isAgg225
 z218:=Tryz.sizeOf225
 v218:=Tryz.zeroValue225
 t222:=by kernel_rfl
 a222:=Tryz.isAgg229
 z222:=Tryz.sizeOf229
 v222:=Tryz.zeroValue229
 t228:=by kernel_rfl
 a228:=Tryz.isAgg235
 z228:=Tryz.sizeOf235
 v228:=Tryz.zeroValue235
 t229:=by kernel_rfl
 a229:=Tryz.isAgg236
 z229:=Tryz.sizeOf236
 v229:=Tryz.zeroValue236
def Tryz.Abu:Ren:=⟨fun x=>match x with | 194=>162 | n=>n,fun x=>match x with | 31=>22 | n=>n,fun n=>n⟩
theorem Tryz.Aic:Lays.n194 Tryz.prog Tryz.Abu where
 mixed:=by kernel_rfl
 f194:=by kernel_rfl
 t0:=by kernel_rfl
 a0:=Tryz.isAgg0
 z0:=Tryz.sizeOf0
 v0:=Tryz.zeroValue0
 t3:=by kernel_rfl
 a3:=Tryz.isAgg3
 z3:=Tryz.sizeOf3
 v3:=Tryz.zeroValue3
 t4:=by kernel_rfl
 a4:=Tryz.isAgg4
 z4:=Tryz.sizeOf4
 v4:=Tryz.zeroValue4
 t9:=by kernel_rfl
 a9:=Tryz.isAgg9
 z9:=Tryz.sizeOf9
 v9:=Tryz.zeroValue9
 t31:=by kernel_rfl
 a31:=Tryz.isAgg22
 z31:=Tryz.sizeOf22
 v31:=Tryz.zeroValue22
def Tryz.Agq:Ren:=⟨fun x=>match x with | 4=>168 | n=>n,fun x=>match x with | 25=>9 | n=>n,fun n=>n⟩
theorem Tryz.Ap3:Lays8.n4 Tryz.prog Tryz.Agq where
 mixed:=by kernel_rfl
 f4:=Exists.intro "slices.Grow[[]string,string]" ⟨by decide,by kernel_rfl⟩
 t0:=by kernel_rfl
 a0:=Tryz.isAgg0
 z0:=Tryz.sizeOf0
 v0:=Tryz.zeroValue0
 t3:=by kernel_rfl
 a3:=Tryz.isAgg3
 z3:=Tryz.sizeOf3
 v3:=Tryz.zeroValue3
 t4:=by kernel_rfl
 a4:=Tryz.isAgg4
 z4:=Tryz.sizeOf4
 v4:=Tryz.zeroValue4
 t9:=by kernel_rfl
 a9:=Tryz.isAgg9
 z9:=Tryz.sizeOf9
 v9:=Tryz.zeroValue9
 t20:=by kernel_rfl
 a20:=Tryz.isAgg20
 z20:=Tryz.sizeOf20
 v20:=Tryz.zeroValue20
 t22:=by kernel_rfl
 a22:=Tryz.isAgg22
 z22:=Tryz.sizeOf22
 v22:=Tryz.zeroValue22
namespace Coll
open Go.CT
theorem Aum {al:Bool} :Dd Tryz.prog O.Acz ⟨213,[.arr 22],[],al⟩:=
 Aiw (te:=9) (by kernel_rfl) (by kernel_rfl) S2 Tryz.func213 (by kernel_rfl) (by kernel_rfl)
  (fun b cap ss w h1 h2 h3=>Any.slices_Sort_string Tryz.Alg b 0 cap ss w h1 h2 h3) fun w=>Any.slices_Sort_string_none Tryz.Alg none 0 w
theorem Agi {al:Bool} :Dd Tryz.prog O.Jz ⟨162,[.own 22],[.cells 22 [true]],al⟩:=
 Yv (te:=9) (by kernel_rfl) (by kernel_rfl) S2 (by kernel_rfl) (by kernel_rfl) Tryz.func162 (by kernel_rfl) (by kernel_rfl)
  (fun b cap zs w h1 h2 h3=>Go.calls_of_every_depth fun D=>AnyS.slices_Compact_string_in Tryz.Aic D b 0 cap zs w h1 h2 h3) fun w=>Go.calls_of_every_depth fun D=>AnyS.slices_Compact_string_empty_in Tryz.Aic D none 0 w
theorem Arq {al:Bool} :Dd Tryz.prog (O.Ao0 16) ⟨168,[.own 22,.data 3],[.cells 22 [true]],al⟩:=by
 obtain ⟨i0,hi,hz0,hz1,hz2⟩:=Go.info_parts Awl
 rw [←hz2]
 exact Al9 hi (by rw [hz1];rfl) S2 (by kernel_rfl) (by kernel_rfl) (by kernel_rfl) Tryz.func168 (by kernel_rfl) (by kernel_rfl)
  (fun base l c n w h1 h2 h3 h4=>Any8.slices_Grow_room Tryz.Ap3 base l c n w h1 h2 h3 h4)
  fun base l c n cs w h1 h2 h3 h4 h5 h6 h7=>Any8.slices_Grow_grow Tryz.Ap3 i0 _ hi hz0 (by rw [hz1];decide) base l c n cs w h1 h2 h3 h4 h5 h6 h7
end Coll
end Go.Proofs
namespace Go.CT
open Go.Proofs Go.Shelf Go.RowKit
section
variable {P:Program} {ρ:Ren} {al:Bool}
theorem Aup {s:Spec} :Dd P O.As2 s:=by
 intro w X xs args L rs hr hn hX hlt hf
 simp [O.As2] at hf
theorem Apb (i:Nat) (h:i<100):(⟨(Lib.decDigits i).toArray⟩:ByteArray)=O.Qk i:=by
 unfold O.Qk
 by_cases h1:i<10
 ·rw [if_pos h1,Lib.decDigits,dif_pos h1]
 ·rw [if_neg h1,Lib.decDigits,dif_neg h1,Lib.decDigits,dif_pos (by omega)];rfl
theorem Asy (L:Lays.n171 P ρ) {f ti ts:Nat} (hf:f=ρ.f 171) (hti:ti=ρ.t 3) (hts:ts=ρ.t 9):Dd P O.Ag3 ⟨f,[.data ti],[.whole ts],al⟩:=by
 intro w X xs args Ls rs hr hn hX hlt hf'
 subst hf hti hts
 match args,hr with
 | [u],hr=>
  obtain ⟨ys,zs,L1,L2,e1,e2,⟨x,e3,e4,hx1⟩,⟨e5,e6⟩⟩:=hr
  subst e3 e4 e5 e6 e1 e2
  obtain ⟨n,rfl,rfl⟩:=hx1.Gp L.t3
  simp only [List.cons_append,List.nil_append,O.Ag3] at hf'
  rw [Option.ite_none_right_eq_some] at hf'
  obtain ⟨⟨h0,h1⟩,hf'⟩:=hf'
  injection hf' with hf';subst hf'
  obtain ⟨i,rfl⟩:=Int.eq_ofNat_of_zero_le h0
  have hi:i<100:=by omega
  refine .inl ⟨_,L.f171,by kernel_rfl,by kernel_rfl,?_⟩
  refine (Any.strconv_Itoa_small L i hi w).mono fun e w' hew=>?_
  obtain ⟨rfl,rfl⟩:=hew
  refine ⟨_,rfl,Gb.refl _ _,[.string ⟨(Lib.decDigits i).toArray⟩],[.str (O.Qk i)],[],[],[],rfl,rfl,by simp,by simp,?_,by simp [Bi,PS.Ce]⟩
  refine ⟨[_],[],[],[],rfl,rfl,⟨_,rfl,rfl,?_⟩,rfl,rfl⟩
  rw [Apb i hi]
  exact .str L.t9
theorem Es.step {w w':World} {O O':Nat→Prop} {e:TypeId} {xs:List IV} {v:Value} (h:Es P w O e xs v) (hO: ∀b,b<w.heap.size→O' b→O b) (hs:I8 O w w') (hv: ∀b,blk v=some b→w'.heap[b]?=w.heap[b]?):Es P w' O' e xs v:=by
 obtain ⟨h1,cs,⟨g1,g2⟩,h3,h4⟩:=h
 refine ⟨h1,cs,⟨g1,?_⟩,fun j x hx=>?_,h4⟩
 ·rcases g2 with g2 | ⟨g,cap,cur,rfl,e2,e3,e4⟩
  ·exact .inl g2
  ·exact .inr ⟨g,cap,cur,rfl,e2,by rw [hv g rfl];exact e3,e4⟩
 ·obtain ⟨v,q1,q2⟩:=h3 j x hx
  exact ⟨v,q1.mono hO hs,q2⟩
theorem Yi (L:Lays.n240 P ρ) (X:Builder.X72 P ρ) {f t:Nat} (hf:f=ρ.f 240) (ht:t=ρ.t 72):Dd P O.Jf ⟨f,[.bld t true],[],al⟩:=by
 intro w X0 xs args Ls rs hr hn hX hlt hf'
 subst hf ht
 match args,hr with
 | [u],hr=>
  obtain ⟨_,_,_,_,rfl,rfl,⟨b,c0,c1,ys,st,e,rfl,hb,hc,hbt,rfl,hrow,rfl⟩,rfl,rfl⟩:=hr
  simp only [List.append_nil,O.Jf,Option.some.injEq] at hf' hn hX hrow ⊢
  subst hf'
  rw [List.nodup_cons] at hn
  have fin: ∀ (w':World),Gb (· =b) w w'→w'.heap[b]?=some (.cells #[.pointer (some ⟨b,0,none⟩),c1] (ρ.t 72) (0,0))→
    Tw P X0 ⟨ρ.f 240,[.bld (ρ.t 72) true],[],al⟩ [.pointer (some ⟨b,0,none⟩)] (b::(blk c1).toList) [.list ys] w (.tuple #[]) w':=by
   intro w' hs hb'
   have hs':Gb (· ∈b::(blk c1).toList) w w':=⟨hs.os,hs.tape,hs.output,hs.size,fun k hk hkn=>hs.stays k hk fun h=>hkn (by have h:k=b:=h;subst h;exact List.mem_cons_self)⟩
   refine ⟨hs',[],[],[.list ys],[],b::(blk c1).toList,rfl,rfl,by rw [List.nil_append,List.nodup_cons];exact hn,fun b' hb'=> .inl (by simpa using hb'),⟨rfl,rfl⟩,?_⟩
   simp only [Bi,PS.Ce,if_true]
   refine ⟨[.list ys],[],b::(blk c1).toList,[],rfl,by simp,⟨b,_,c1,ys,st,e,rfl,hb',.inr rfl,hbt,rfl,?_,rfl⟩,rfl,rfl⟩
   refine hrow.step (fun b' _ h=>by simpa using h) (fun k hk hko=>hs.stays k hk fun h=>hko (.inr (by have h:k=b:=h;subst h;exact List.mem_cons_self))) (fun g hg=>?_)
   refine hs.stays g ?_ fun h=>?_
   ·obtain ⟨_,cs,⟨_,g2⟩,_⟩:=hrow
    rcases g2 with ⟨rfl,_⟩ | ⟨g',cap,cur,rfl,_,e3,_⟩
    ·cases hg
    ·simp [blk] at hg;subst hg
     exact (Array.getElem?_eq_some_iff.1 e3).1
   ·have h:g=b:=h
    subst h
    exact hn.1 (by simp [hg])
  refine .inl ⟨_,L.f240,by kernel_rfl,by kernel_rfl,?_⟩
  rcases hc with rfl | rfl
  ·refine (Any.Builder_copyCheck_fresh L X b w (by simp [World.cell?,hb]) (by simp [World.shape?,hb]) (by simp [World.frozen?,hb])).mono fun e w' hew=>?_
   obtain ⟨rfl,rfl⟩:=hew
   refine ⟨_,rfl,fin _ ⟨rfl,rfl,rfl,by rw [World.size_setCell];exact Nat.le_refl _,fun k hk hkb=>?_⟩ ?_⟩
   ·have hkb: ¬ k=b:=hkb
    simp [World.setCell,Array.getElem?_modify]
    intro e;exact absurd e.symm hkb
   ·simp [World.setCell,Array.getElem?_modify,hb]
  ·refine (Any.Builder_copyCheck_used L X b w (by simp [World.cell?,hb])).mono fun e w' hew=>?_
   obtain ⟨rfl,rfl⟩:=hew
   exact ⟨_,rfl,fin _ (.refl _ _) hb⟩
theorem Aez {w:World} {O:Nat→Prop} {e:TypeId} (he:P.underlying e=some (.int .u8)) (hs:Af P e=1): ∀ (ys:List IV) (cs:List Value) (l:List UInt8),cs.length=ys.length→Ik P w O e ys cs→ys.mapM Io=some l→cs=Lib.byteCells l∧ys.length=l.length
 | [],[],l,_,_,h=>by simp at h;subst h;exact ⟨rfl,rfl⟩
 | [],_::_,_,h,_,_=>by simp at h
 | _::_,[],_,h,_,_=>by simp at h
 | y::ys,c::cs,l,h,hE,hm=>by
  obtain ⟨v,h1,h2,h3⟩:=hE 0 y rfl
  obtain ⟨n,rfl,rfl⟩:=h1.Gp he
  rw [List.mapM_cons] at hm
  simp only [Option.pure_def,Option.bind_eq_bind] at hm
  cases hb:Io (.int n) with
  | none=>simp [hb] at hm
  | some u=>
   cases hr:ys.mapM Io with
   | none=>simp [hb,hr] at hm
   | some l'=>
    simp [hb,hr] at hm;subst hm
    obtain ⟨q1,q2⟩:=Aez he hs ys cs l' (by simpa using h) (fun j x hx=>by
     obtain ⟨v,g1,g2,g3⟩:=hE (j+1) x hx
     refine ⟨v,g1,?_,g3⟩
     rw [g2,hs]
     simp) hr
    rw [hs] at h2
    simp at h2
    have e1:(Value.int IntKind.u8 n).cells.toList = [Value.int .u8 n]:=rfl
    rw [e1] at h2
    have hc:c= .int .u8 n:=by simpa using h2.symm
    have hu:(u.toNat:Int)=n:=by
     simp only [Io] at hb
     rw [Option.ite_none_right_eq_some] at hb
     obtain ⟨⟨b1,b2⟩,hb⟩:=hb
     injection hb with hb
     subst hb
     have:n.toNat.toUInt8.toNat=n.toNat:=by
      simp only [Nat.toUInt8,UInt8.toNat_ofNat']
      omega
     rw [this];omega
    refine ⟨?_,by simp [q2]⟩
    rw [hc,q1,←hu];rfl
set_option maxHeartbeats 2000000 in
set_option maxRecDepth 100000 in
theorem Aco (L:Lays.n169 P ρ) (X:Builder.Extra P ρ) (b g cap:Nat) (p:Value) (cur:Array Value) (l:List UInt8) (w:World) (hbk:w.heap[b]?=some (.cells #[p,.slice (some ⟨g,0,none⟩) l.length cap] (ρ.t 72) (0,0)))
  (hg:w.heap[g]?=some (.cells cur (ρ.t 5) (0,0))) (h0:l≠ []) (hnc:l.length≤cap) (hcm:cap≤maxLen) (hcs:cur.size=cap) (hcell: ∀ (j:Nat) (x:UInt8),l[j]?=some x→w.cell? ((⟨g,0,none⟩:Addr).add j)=some (.int .u8 x.toNat)):
  Calls P (ρ.f 169) #[.pointer (some ⟨b,0,none⟩)] w fun e w'=>e= .returned (.string ⟨l.toArray⟩)∧w'=w.drew.freeze ⟨g,0,none⟩ l.length:=by
 have hl0:l.length≠0:=by simpa using h0
 have c1:w.drew.cell? ⟨b,1,none⟩=some (.slice (some ⟨g,0,none⟩) l.length cap):=by
  have:w.drew.heap[b]?=some (.cells #[p,.slice (some ⟨g,0,none⟩) l.length cap] (ρ.t 72) (0,0)):=hbk
  rw [Lib.cell_of_heap this];rfl
 have hSD:(Builtin.unsafeSliceData_ #[(ρ.t 37)] (ρ.t 127) #[.slice (some ⟨g,0,none⟩) l.length cap]).run P w.drew= .ok (.pointer (some ⟨g,0,none⟩)) w.drew:=
  Lib.run_unsafeSliceData_row _ _ _ _ _ _ (by omega)
 have hUS:(Builtin.unsafeString_ #[(ρ.t 127),(ρ.t 3)] (ρ.t 9) #[.pointer (some ⟨g,0,none⟩),.int .i64 l.length]).run P w.drew= .ok (.string ⟨l.toArray⟩) (w.drew.freeze ⟨g,0,none⟩ l.length):=
  Lib.run_unsafeString_row w.drew (ρ.t 127) (ρ.t 3) (ρ.t 9) (ρ.t 5) L.t127 X.cellsByte g cur.size (by have hg':w.drew.heap[g]?=some (.cells cur (ρ.t 5) (0,0)):=hg;simp [World.shape?,hg']) l h0 (by omega) (by unfold maxLen at hcm;omega) hcell
 clear hcell hcs hcm hnc
 have mixed:=L.mixed
 have t72:=L.t72;have a72:=L.a72;have z72:=L.z72;have v72:=L.v72;have u72:=run_underlying L.t72
 have t70:=L.t70;have a70:=L.a70;have z70:=L.z70;have v70:=L.v70;have u70:=run_underlying L.t70
 have t37:=L.t37;have a37:=L.a37;have z37:=L.z37;have v37:=L.v37;have u37:=run_underlying L.t37
 have t127:=L.t127;have a127:=L.a127;have z127:=L.z127;have v127:=L.v127;have u127:=run_underlying L.t127
 have t3:=L.t3;have a3:=L.a3;have z3:=L.z3;have v3:=L.v3;have u3:=run_underlying L.t3
 have t9:=L.t9;have a9:=L.a9;have z9:=L.z9;have v9:=L.v9;have u9:=run_underlying L.t9
 have t5:=X.t5;have a5:=X.a5;have z5:=X.z5;have v5:=X.v5;have u5:=run_underlying X.t5
 go_enter L.f169,Body.n169_ntmps ρ
 go_wp2
 go_region_o
 all_goals (go_wp2;go_ret;exact ⟨rfl,rfl⟩)
theorem Ak5 (L:Lays.n169 P ρ) (X:Builder.Extra P ρ) {f t ts:Nat} (hf:f=ρ.f 169) (ht:t=ρ.t 72) (hts:ts=ρ.t 9) (hb0:Aq2 P (ρ.t 72)=some (ρ.t 37,ρ.t 5)):Dd P O.Py ⟨f,[.bld t false],[.whole ts],al⟩:=by
 intro w X0 xs args Ls rs hr hn hX hlt hf'
 subst hf ht hts
 match args,hr with
 | [u],hr=>
  obtain ⟨_,_,_,_,rfl,rfl,⟨b,c0,c1,ys,st,e,rfl,hb,hc,hbt,rfl,hrow,rfl⟩,rfl,rfl⟩:=hr
  rw [hb0] at hbt;injection hbt with hbt;injection hbt with i1 i2;subst i1;subst i2
  simp only [List.append_nil] at hf' hn hX hrow ⊢
  simp only [O.Py] at hf'
  rw [Option.map_eq_some_iff] at hf'
  obtain ⟨l,hl,hf'⟩:=hf'
  subst hf'
  obtain ⟨h1,cs,hown,h3,h4⟩:=hrow
  obtain ⟨f1,f2,f3,f4,f5⟩:=V6 hb0
  have hlen:cs.length=ys.length:=by have:=hown.1;rw [f5] at this;omega
  obtain ⟨rfl,hyl⟩:=Aez (Cl f1) f5 ys cs l hlen h3 hl
  rw [f5,hyl] at hown
  have fin: ∀ (w':World) (s:ByteArray),s=⟨l.toArray⟩→Gb (· ∈b::(blk c1).toList) w w'→
    Tw P X0 ⟨ρ.f 169,[.bld (ρ.t 72) false],[.whole (ρ.t 9)],al⟩ [.pointer (some ⟨b,0,none⟩)] (b::(blk c1).toList) [.str ⟨l.toArray⟩] w (.string s) w':=by
   intro w' s hs hw
   subst hs
   refine ⟨hw,[.string ⟨l.toArray⟩],[.str ⟨l.toArray⟩],[],[],[],rfl,rfl,by simp,by simp,?_,by simp [Bi,PS.Ce]⟩
   exact ⟨[_],[],[],[],rfl,rfl,⟨_,rfl,rfl,.str L.t9⟩,rfl,rfl⟩
  have below: ∀ {w':World},Below w.heap.size w w'→Gb (· ∈b::(blk c1).toList) w w':=fun h=>⟨h.os,h.tape,h.output,h.size,fun k hk _=>h.block k hk⟩
  refine .inl ⟨_,L.f169,by kernel_rfl,by kernel_rfl,?_⟩
  obtain ⟨_,hown2⟩:=hown
  rcases hown2 with ⟨rfl,hn0⟩ | ⟨g,cap,cur,rfl,_,hg,hnc,hcm,hcs,htake⟩
  ·have hl0:l= []:=List.length_eq_zero_iff.1 hn0
   subst hl0
   refine (Any.Builder_String_nil L X w.heap.size b c0 w hb).mono fun e w' hew=>?_
   obtain ⟨rfl,hw⟩:=hew
   exact ⟨_,rfl,fin w' _ rfl (below hw)⟩
  ·by_cases hl0:l= []
   ·subst hl0
    by_cases hc0:cap=0
    ·subst hc0
     refine (Any.Builder_String_noroom L X w.heap.size b g c0 cur w (Nat.le_refl _) hb hg).mono fun e w' hew=>?_
     obtain ⟨rfl,hw⟩:=hew
     exact ⟨_,rfl,fin w' _ rfl (below hw)⟩
    ·refine (Any.Builder_String_room L X w.heap.size b g cap c0 w hc0 hb).mono fun e w' hew=>?_
     obtain ⟨rfl,hw⟩:=hew
     exact ⟨_,rfl,fin w' _ rfl (below hw)⟩
   ·have hcell: ∀ (j:Nat) (x:UInt8),l[j]?=some x→w.cell? ((⟨g,0,none⟩:Addr).add j)=some (.int .u8 x.toNat):=by
     intro j x hx
     rw [O7]
     simp only [World.cell?,hg]
     have hj:=(List.getElem?_eq_some_iff.1 hx).1
     have:=congrArg (fun q=>q[j]?) htake
     simp only [Nat.mul_one,List.getElem?_take,hj,if_true,Lib.byteCells,List.getElem?_map,hx,Option.map_some] at this
     simpa using this
    refine (Aco L X b g cap c0 cur l w hb hg hl0 hnc hcm (by omega) hcell).mono fun e w' hew=>?_
    obtain ⟨rfl,rfl⟩:=hew
    refine ⟨_,rfl,fin _ _ rfl ?_⟩
    unfold World.freeze
    split
    ·exact ⟨rfl,rfl,rfl,Nat.le_refl _,fun _ _ _=>rfl⟩
    ·refine ⟨rfl,rfl,rfl,by show w.heap.size≤(w.drew.heap.modify _ _).size;rw [Array.size_modify];exact Nat.le_refl _,fun k hk hkn=>?_⟩
     have hkg:k≠g:=fun e=>hkn (by subst e;simp [blk])
     simp only [Array.getElem?_modify]
     rw [if_neg (fun e=>hkg e.symm)]
     rfl
theorem As6 {f t e:TypeId} {fn:Func} (hfn:P.funcs[f]?=some fn) (hn:(fn.name == "runtime.NumGoroutine")=false) (hb:fn.body.isNone=false) (ht:P.underlying t=some (.slice e))
  (hw: ∀ (A:Option Addr) (n cap:Nat) (w:World),n≤cap→cap≤maxLen→Calls P f #[.slice A n cap] w fun e w'=>e= .returned (.slice A n n)∧w'=w):Dd P O.Ajx ⟨f,[.own t],[.clip t],al⟩:=by
 intro w X xs args Ls rs hr hnd hX hlt hf'
 match args,hr with
 | [u],hr=>
  obtain ⟨_,_,_,_,rfl,rfl,⟨e',ys,rfl,rfl,h1,hrow⟩,rfl,rfl⟩:=hr
  rw [ht] at h1;injection h1 with h1;injection h1 with h1;subst h1
  simp only [List.append_nil,O.Ajx,Option.some.injEq] at hf' hrow hnd hX ⊢
  subst hf'
  have hX': ∀b,blk u=some b→ ¬ X b:=fun b hb=>hX b (by simp [hb])
  have hrel:=hrow.rel (O':=fun b=>X b∨b∈([]++ []:List Nat)) ht (fun b _ h=>by
   rcases h with h | h
   ·exact .inl h
   ·cases h) (fun b hb h=>by
   rcases h with h | h
   ·exact hX' b hb h
   ·cases h)
  obtain ⟨xs',A,cap,hx,rfl,hr2⟩:=hrel.Ca ht
  injection hx with hx;subst hx
  have hcap:ys.length≤cap∧cap≤maxLen:=by
   obtain ⟨_,cs,⟨_,g2⟩,_⟩:=hrow
   rcases g2 with ⟨h,h0⟩ | ⟨g,cap',cur,h,_,_,h2,h3,_⟩
   ·injection h with i1 i2 i3
    subst i3;exact ⟨by omega,by unfold maxLen;omega⟩
   ·injection h with i1 i2 i3
    subst i3;exact ⟨h2,h3⟩
  refine .inl ⟨fn,hfn,hn,hb,?_⟩
  refine (hw A ys.length cap w hcap.1 hcap.2).mono fun e w' hew=>?_
  obtain ⟨rfl,rfl⟩:=hew
  refine ⟨_,rfl,Gb.refl _ _,[.slice A ys.length ys.length],[.list ys],[],[],[],rfl,rfl,by simp,by simp,?_,by simp [Bi,PS.Ce]⟩
  refine ⟨[.list ys],[],[],[],rfl,rfl,⟨_,rfl,rfl,?_,A,ys.length,rfl⟩,rfl,rfl⟩
  obtain ⟨q1,q2,vs,q3,q4⟩:=hr2
  exact .list vs ht (Nat.le_refl _) q2 q3 q4
end
end Go.CT
namespace Go.Proofs
open Go.Shelf
def Tryz.Ac6:Ren:=⟨fun x=>match x with | 171=>209 | 243=>234 | 246=>244 | 283=>258 | 284=>259 | 285=>260 | 286=>261 | 129=>256 | 317=>269 | 318=>270 | 319=>271 | 320=>272 | 337=>274 | 338=>275 | n=>n,fun x=>match x with | 3=>3 | 9=>9 | 2=>2 | 4=>4 | 171=>221 | 0=>0 | 53=>220 | 37=>174 | 5=>5 | 173=>223 | 212=>233 | 51=>218 | 20=>20 | 213=>234 | 46=>196 | 232=>238 | 233=>239 | n=>n,fun x=>match x with | 17=>1 | 18=>2 | 19=>3 | n=>n⟩
theorem Tryz.Ate:Lays.n171 Tryz.prog Tryz.Ac6 where
 mixed:=by kernel_rfl
 f171:=by kernel_rfl
 f243:=by kernel_rfl
 f246:=by kernel_rfl
 f283:=by kernel_rfl
 f284:=by kernel_rfl
 f285:=by kernel_rfl
 f286:=by kernel_rfl
 f129:=by kernel_rfl
 f317:=by kernel_rfl
 f318:=by kernel_rfl
 f319:=by kernel_rfl
 f320:=by kernel_rfl
 f337:=by kernel_rfl
 f338:=by kernel_rfl
 t3:=by kernel_rfl
 a3:=Tryz.isAgg3
 z3:=Tryz.sizeOf3
 v3:=Tryz.zeroValue3
 t9:=by kernel_rfl
 a9:=Tryz.isAgg9
 z9:=Tryz.sizeOf9
 v9:=Tryz.zeroValue9
 t2:=by kernel_rfl
 a2:=Tryz.isAgg2
 z2:=Tryz.sizeOf2
 v2:=Tryz.zeroValue2
 t4:=by kernel_rfl
 a4:=Tryz.isAgg4
 z4:=Tryz.sizeOf4
 v4:=Tryz.zeroValue4
 t171:=by kernel_rfl
 a171:=Tryz.isAgg221
 z171:=Tryz.sizeOf221
 v171:=Tryz.zeroValue221
 t0:=by kernel_rfl
 a0:=Tryz.isAgg0
 z0:=Tryz.sizeOf0
 v0:=Tryz.zeroValue0
 t53:=by kernel_rfl
 a53:=Tryz.isAgg220
 z53:=Tryz.sizeOf220
 v53:=Tryz.zeroValue220
 t37:=by kernel_rfl
 a37:=Tryz.isAgg174
 z37:=Tryz.sizeOf174
 v37:=Tryz.zeroValue174
 t5:=by kernel_rfl
 a5:=Tryz.isAgg5
 z5:=Tryz.sizeOf5
 v5:=Tryz.zeroValue5
 t173:=by kernel_rfl
 a173:=Tryz.isAgg223
 z173:=Tryz.sizeOf223
 v173:=Tryz.zeroValue223
 t212:=by kernel_rfl
 a212:=Tryz.isAgg233
 z212:=Tryz.sizeOf233
 v212:=Tryz.zeroValue233
 t51:=by kernel_rfl
 a51:=Tryz.isAgg218
 z51:=Tryz.sizeOf218
 v51:=Tryz.zeroValue218
 t20:=by kernel_rfl
 a20:=Tryz.isAgg20
 z20:=Tryz.sizeOf20
 v20:=Tryz.zeroValue20
 t213:=by kernel_rfl
 a213:=Tryz.isAgg234
 z213:=Tryz.sizeOf234
 t46:=by kernel_rfl
 a46:=Tryz.isAgg196
 z46:=Tryz.sizeOf196
 v46:=Tryz.zeroValue196
 t232:=by kernel_rfl
 a232:=Tryz.isAgg238
 z232:=Tryz.sizeOf238
 v232:=Tryz.zeroValue238
 t233:=by kernel_rfl
 a233:=Tryz.isAgg239
 z233:=Tryz.sizeOf239
 v233:=Tryz.zeroValue239
 g17:=by kernel_rfl
 g18:=by kernel_rfl
 g19:=by kernel_rfl
def Tryz.Sl:Ren:=⟨fun x=>match x with | 169=>211 | n=>n,fun x=>match x with | 70=>173 | 9=>9 | 0=>0 | 72=>176 | 37=>174 | 127=>198 | 3=>3 | 5=>5 | n=>n,fun n=>n⟩
theorem Tryz.Aul:Lays.n169 Tryz.prog Tryz.Sl where
 mixed:=by kernel_rfl
 f169:=by kernel_rfl
 t70:=by kernel_rfl
 a70:=Tryz.isAgg173
 z70:=Tryz.sizeOf173
 v70:=Tryz.zeroValue173
 t9:=by kernel_rfl
 a9:=Tryz.isAgg9
 z9:=Tryz.sizeOf9
 v9:=Tryz.zeroValue9
 t0:=by kernel_rfl
 a0:=Tryz.isAgg0
 z0:=Tryz.sizeOf0
 v0:=Tryz.zeroValue0
 t72:=by kernel_rfl
 a72:=Tryz.isAgg176
 z72:=Tryz.sizeOf176
 v72:=Tryz.zeroValue176
 t37:=by kernel_rfl
 a37:=Tryz.isAgg174
 z37:=Tryz.sizeOf174
 v37:=Tryz.zeroValue174
 t127:=by kernel_rfl
 a127:=Tryz.isAgg198
 z127:=Tryz.sizeOf198
 v127:=Tryz.zeroValue198
 t3:=by kernel_rfl
 a3:=Tryz.isAgg3
 z3:=Tryz.sizeOf3
 v3:=Tryz.zeroValue3
theorem Tryz.extra:Builder.Extra Tryz.prog Tryz.Sl where
 sizeBuilder:=by kernel_rfl
 liesBuilder:=by kernel_rfl
 t5:=Tryz.underlying5
 a5:=Tryz.isAgg5
 z5:=Tryz.sizeOf5
 v5:=Tryz.zeroValue5
 infoByte:=by kernel_rfl
 cellsByte:=by kernel_rfl
 sizeByte:=by kernel_rfl
 neB5:=by decide
end Go.Proofs
namespace Go.CT.Sch
open Go.Proofs Go.Shelf
def Aqx:Ren:=⟨fun x=>match x with | 240=>233 | 276=>243 | n=>n,fun x=>match x with | 4=>4 | 9=>9 | 20=>20 | 70=>173 | 72=>176 | 37=>174 | 164=>204 | n=>n,fun n=>n⟩
theorem Atf:Lays.n240 Tryz.prog Aqx where
 mixed:=by kernel_rfl
 f240:=by kernel_rfl
 f276:=by kernel_rfl
 t0:=by kernel_rfl
 a0:=Tryz.isAgg0
 z0:=Tryz.sizeOf0
 v0:=Tryz.zeroValue0
 t4:=by kernel_rfl
 a4:=Tryz.isAgg4
 z4:=Tryz.sizeOf4
 v4:=Tryz.zeroValue4
 t9:=by kernel_rfl
 a9:=Tryz.isAgg9
 z9:=Tryz.sizeOf9
 v9:=Tryz.zeroValue9
 t20:=by kernel_rfl
 a20:=Tryz.isAgg20
 z20:=Tryz.sizeOf20
 v20:=Tryz.zeroValue20
 t70:=by kernel_rfl
 a70:=Tryz.isAgg173
 z70:=Tryz.sizeOf173
 v70:=Tryz.zeroValue173
 t72:=by kernel_rfl
 a72:=Tryz.isAgg176
 z72:=Tryz.sizeOf176
 v72:=Tryz.zeroValue176
 t164:=by kernel_rfl
 a164:=Tryz.isAgg204
 z164:=Tryz.sizeOf204
 v164:=Tryz.zeroValue204
theorem Anj:Builder.X72 Tryz.prog Aqx where
 sizeBuilder:=by kernel_rfl
 liesBuilder:=by kernel_rfl
theorem Aai (A:Option Addr) (n cap:Nat) (w:World) (h:n≤cap) (hn:cap≤maxLen):
  Calls Tryz.prog 194 #[.slice A n cap] w fun e w'=>e= .returned (.slice A n n)∧w'=w:=by
 go_enter Tryz.func194,Tryz.ntmps194
 go_wp2
 go_ret
 exact ⟨rfl,rfl⟩
end Go.CT.Sch
