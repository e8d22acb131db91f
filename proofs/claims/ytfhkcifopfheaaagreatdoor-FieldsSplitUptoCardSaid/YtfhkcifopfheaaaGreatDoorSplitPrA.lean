import Derived.Test.YtfhkcifopfheaaaGreatDoorCtC
import Derived.Test.YtfhkcifopfheaaaGreatDoorLib
import Derived.Test.YtfhkcifopfheaaaGreatDoorTabA
set_option linter.unusedVariables false
set_option linter.unusedSimpArgs false
namespace Go.CT
def SS (l:List ByteArray):Prop:=l.Pairwise fun a b=>blt a b=true
theorem SS.ext: ∀ {a b:List ByteArray},SS a→SS b→(∀x,x∈a↔x∈b)→a=b
 | [],[],_,_,_=>rfl
 | [],y::b,_,_,h=>by have:=(h y).2 List.mem_cons_self;cases this
 | x::a,[],_,_,h=>by have:=(h x).1 List.mem_cons_self;cases this
 | x::a,y::b,ha,hb,h=>by
  obtain ⟨a1,a2⟩:=List.pairwise_cons.1 ha
  obtain ⟨b1,b2⟩:=List.pairwise_cons.1 hb
  have hxy:x=y:=by
   rcases List.mem_cons.1 ((h x).1 List.mem_cons_self) with e | e
   ·exact e
   ·rcases List.mem_cons.1 ((h y).2 List.mem_cons_self) with e' | e'
    ·exact e'.symm
    ·have:=Im (b1 x e) (a1 y e')
     rw [Dl] at this;cases this
  subst hxy
  rw [SS.ext a2 b2 fun z=>⟨fun hz=>?_,fun hz=>?_⟩]
  ·rcases List.mem_cons.1 ((h z).1 (List.mem_cons_of_mem _ hz)) with rfl | e
   ·have:=a1 z hz;rw [Dl] at this;cases this
   ·exact e
  ·rcases List.mem_cons.1 ((h z).2 (List.mem_cons_of_mem _ hz)) with rfl | e
   ·have:=b1 z hz;rw [Dl] at this;cases this
   ·exact e
theorem S3 {l:List (List UInt8)} {x:List UInt8} :x∈Lib.compact l↔x∈l:=by
 unfold Lib.compact Lib.compactUpTo
 simp only [List.mem_map,List.mem_filter,List.mem_range]
 constructor
 ·rintro ⟨j,⟨hj,_⟩,rfl⟩
  have:l.toArray[j]! =l[j]:=by simp [hj]
  rw [this];exact List.getElem_mem hj
 ·intro hx
  obtain ⟨i,hi,rfl⟩:=List.mem_iff_getElem.1 hx
  -- the first place
  have: ∀i,∀hi:i<l.length,∃j,j<l.length∧Lib.keeps l.toArray j=true∧l.toArray[j]! =l[i]:=by
   intro i
   induction i with
   | zero=>intro hi;exact ⟨0,hi,by simp [Lib.keeps],by simp [hi]⟩
   | succ i ih=>
    intro hi
    by_cases he:l[i]=l[i+1]
    ·obtain ⟨j,h1,h2,h3⟩:=ih (by omega)
     exact ⟨j,h1,h2,h3.trans he⟩
    ·refine ⟨i+1,hi,Lib.keeps_pos ?_,by simp [hi]⟩
     have h1:i<l.length:=by omega
     simp [hi,h1]
     exact fun e=>he e.symm
  obtain ⟨j,h1,h2,h3⟩:=this i hi
  exact ⟨j,⟨h1,h2⟩,h3⟩
def Axf (l:List ByteArray):List ByteArray:=Ej (Mj l)
theorem Ao5 {l:List ByteArray} {x:ByteArray} :x∈Axf l↔x∈l:=by
 unfold Axf Ej
 rw [X8];unfold Ahg
 rw [Aew,List.mem_map]
 constructor
 ·rintro ⟨y,hy,rfl⟩
  rw [S3,List.mem_mergeSort,List.mem_map] at hy
  obtain ⟨z,hz,rfl⟩:=hy
  rw [Xn];exact hz
 ·intro hx
  refine ⟨x.data.toList,?_,Xn x⟩
  rw [S3,List.mem_mergeSort,List.mem_map]
  exact ⟨x,hx,rfl⟩
theorem Apl (l:List ByteArray):(Axf l).length ≤l.length:=by
 unfold Axf Ej
 rw [X8];unfold Ahg
 rw [Aew,List.length_map]
 have h1: ∀l:List (List UInt8),(Lib.compact l).length ≤l.length:=fun l=>by
  have h1:(Lib.compact l).length ≤(List.range l.length).length :=by
   unfold Lib.compact Lib.compactUpTo
   rw [List.length_map]
   exact List.length_filter_le _ _
  simpa using h1
 refine Nat.le_trans (h1 _) ?_
 rw [List.length_mergeSort,List.length_map];exact Nat.le_refl _
end Go.CT
namespace Go.CT.Sch
open Go.Proofs
abbrev SL (l:List ByteArray):IV:=Srt.LE IV.str l
theorem Acj {l:List ByteArray} (h:l.length≤1099511627776):O.Jy [SL l]=some [SL l]:=by
 unfold O.Jy SL Srt.LE
 simp only [List.length_map]
 rw [if_pos (by unfold Az;omega)]
theorem Ap6 {l:List ByteArray} (h:l.length≤1099511627776):O.Adh [SL l]=some [SL (Mj l)]:=by
 unfold O.Adh SL Srt.LE
 simp only [Js,Option.bind_some]
 rw [if_pos (by omega)]
theorem Acy {l:List ByteArray} (h:l.length≤1099511627776):O.Ki [SL l]=some [SL (Ej l)]:=by
 unfold O.Ki SL Srt.LE
 simp only [Js,Option.bind_some]
 rw [if_pos (by omega)]
theorem fset {l:List ByteArray} (h:l.length≤1099511627776):W F89 0 [SL l]=some [SL (Axf l)]:=by
 have hs:(Mj l).length =l.length:=(L8 l).length_eq
 rw [Av8,Ast]
 simp only [O.Ag,Awb,Az9,A0k,A0i,Acj h,Ap6 h,Acy (l:=Mj l) (by omega)]
 rfl
def inB (l:List ByteArray) (s:ByteArray):Bool:=l.any fun t=>decide (s=t)
theorem Wk {l:List ByteArray} {s:ByteArray} :inB l s=true↔s∈l:=by
 unfold inB;rw [List.any_eq_true]
 constructor
 ·rintro ⟨t,h1,h2⟩;rw [of_decide_eq_true h2];exact h1
 ·intro h;exact ⟨s,h,by simp⟩
theorem O7 (k:ByteArray) (ks:List ByteArray) (s:ByteArray):inB (k::ks) s=(decide (s=k)||inB ks s):=rfl
def Uj (ks:List ByteArray):List IV:=ks.map fun k=> .agg [.str k,.bool true]
theorem Al1 (s t:ByteArray):(IV.str s).Mp (.str t)=some (decide (s=t)):=by
 have:(s.toList == t.toList)=decide (s=t):=by
  rw [Bool.eq_iff_iff,beq_iff_eq,decide_eq_true_iff];exact O.Pm
 simp only [IV.Mp,this]
theorem Abv (s:ByteArray): ∀ks:List ByteArray,Q0 (.str s) (Uj ks)=some (if inB ks s then some (.bool true) else none)
 | []=>rfl
 | k::ks=>by
  have ih:=Abv s ks
  unfold Uj at ih ⊢
  simp only [List.map_cons,Q0,Al1]
  by_cases h:s=k
  ·subst h;simp [O7]
  ·simp only [h,decide_false,ih,O7,Bool.false_or]
theorem Ar5 (s:ByteArray): ∀ks:List ByteArray,Amc (.str s) (.bool true) (Uj ks)=some (Uj (if inB ks s then ks else ks++ [s]))
 | []=>rfl
 | k::ks=>by
  have ih:=Ar5 s ks
  unfold Uj at ih ⊢
  simp only [List.map_cons,Amc,Al1]
  by_cases h:s=k
  ·subst h;simp [O7]
  ·simp only [h,decide_false,ih,O7,Bool.false_or,Option.map_some]
   cases inB ks s<;>simp
def Pz:List ByteArray→List ByteArray→List ByteArray
 | acc,[]=>acc
 | acc,s::l=>Pz (if inB acc s then acc else acc++ [s]) l
theorem Abh: ∀ (l acc:List ByteArray) (x:ByteArray),x∈Pz acc l↔x∈acc∨x∈l
 | [],acc,x=>by simp [Pz]
 | s::l,acc,x=>by
  rw [Pz,Abh l]
  by_cases h':inB acc s=true
  ·have h:=Wk.1 h'
   simp only [h',if_true,List.mem_cons]
   constructor
   ·rintro (h1 | h1)
    ·exact .inl h1
    ·exact .inr (.inr h1)
   ·rintro (h1 | rfl | h1)
    ·exact .inl h1
    ·exact .inl h
    ·exact .inr h1
  ·simp [h',or_assoc]
end Go.CT.Sch
namespace Go.CT.Sch
open Go.Proofs
end Go.CT.Sch
namespace Go.CT.Sch
open Go.Proofs
end Go.CT.Sch
namespace Go.CT.Sch
open Go.Proofs
theorem Ass (l:List ByteArray) (s:ByteArray) (hl:l.length≤1048576): ∀ (n i:Nat),i+n=l.length→W Atl 1 [SL l,.str s,.int i]=some [.bool (inB (l.drop i) s)]
 | 0,i,h=>by
  have h1: ¬ i<l.length:=by omega
  rw [Afr,Srt.len,List.drop_of_length_le (by omega)]
  simp only [Option.bind_some,O.Ai,Al,h1,decide_false,O.Ab,Bool.false_eq_true,if_false];rfl
 | n+1,i,h=>by
  have hi:i<l.length:=by omega
  have hw:=A8 (i:=i) (by omega)
  have hx:=Srt.idx IV.str (List.getElem?_eq_getElem hi)
  have ih:=Ass l s hl n (i+1) (by omega)
  rw [Afr,Srt.len,List.drop_eq_getElem_cons hi,O7]
  by_cases he:l[i]=s
  ·simp only [Option.bind_some,O.Ai,Al,hi,decide_true,O.Ab,if_true,hx,O.E0,he,Bool.true_or]
  ·have he': ¬ s=l[i]:=fun e=>he e.symm
   simp only [Option.bind_some,O.Ai,Al,hi,decide_true,O.Ab,if_true,hx,O.E0,he,he',decide_false,Bool.false_eq_true,if_false,Bool.false_or,O.Am,hw,ih]
theorem rhas (l:List ByteArray) (s:ByteArray) (hl:l.length≤1048576):W Atl 0 [SL l,.str s]=some [.bool (inB l s)]:=by
 have:=Ass l s hl l.length 0 (by omega)
 simp only [Int.cast_ofNat_Int,List.drop_zero] at this
 rw [Aqd];exact this
end Go.CT.Sch
namespace Go.CT.Sch
open Go.Proofs
theorem Aqg (c:UInt8):(0:Int)≤c.toNat∧(c.toNat:Int)≤255:=by
 have:=c.toNat_lt;omega
theorem Gv {s:ByteArray} {i:Nat} (h:i<s.size):s.data.toList.drop i=s[i]::s.data.toList.drop (i+1):=by
 rw [List.drop_eq_getElem_cons (by simpa using h)];rfl
theorem Aba (s:ByteArray) (hs:s.size≤4611686018427387904): ∀ (n i:Nat),i+n=s.size→W Asf 1 [.str s,.int i]=some [.bool ((s.data.toList.drop i).all Hk&&decide (s.size≤200))]
 | 0,i,h=>by
  rw [Aer]
  have h1: ¬ i<s.size:=by omega
  have h2:s.data.toList.drop i= []:=List.drop_of_length_le (by simp;omega)
  have h3:decide ((s.size:Int)≤200)=decide (s.size≤200):=by simp;omega
  simp [h1,h2]
  omega
 | n+1,i,h=>by
  have hi:i<s.size:=by omega
  have ih:=Aba s hs n (i+1) (by omega)
  have hw:=A8 (i:=i) (by omega)
  rw [Aer,Gv hi]
  have hb:=Aqg s[i]
  generalize hc:s[i]=c at hb
  have e1:Hk c= !(decide (¬ (c.toNat:Int)=10∧((c.toNat:Int)<32∨(126:Int)<c.toNat))):=by
   unfold Hk
   rw [Bool.eq_iff_iff]
   simp
   omega
  simp only [O.A6,Option.bind_some,O.Ai,Al,hi,decide_true,O.Ab,if_true,O.Ge,Int.natCast_nonneg,Int.toNat_natCast,Ari hi,hc,Option.map_some,O.C8,List.all_cons,e1,O.Am,hw,ih]
  by_cases c1:(c.toNat:Int)=10
  ·simp [c1]
  ·by_cases c2:(c.toNat:Int)<32
   ·simp [c1,c2]
   ·by_cases c3:(126:Int)<c.toNat
    ·simp [c1,c2,c3]
    ·simp [c1,c2,c3]
theorem Anb (s:ByteArray) (hs:s.size≤4611686018427387904):W Asf 0 [.str s]=some [.bool (I2 s)]:=by
 rw [Apa]
 exact Aba s hs s.size 0 (by omega)
theorem U5 (s:ByteArray) (hs:s.size≤4611686018427387904): ∀ (n i:Nat),i+n=s.size→W Ar9 1 [.str s,.int i]=some [.bool ((s.data.toList.drop i).all Bg&&decide (1≤s.size∧s.size≤40))]
 | 0,i,h=>by
  rw [Aex]
  have h1: ¬ i<s.size:=by omega
  have h2:s.data.toList.drop i= []:=List.drop_of_length_le (by simp;omega)
  have h3:((s.size:Int)≤40)=(s.size≤40):=by simp;omega
  simp [h1,h2,h3]
  have:((1:Int)≤s.size)=(1≤s.size):=by simp;omega
  by_cases c:1≤s.size<;>simp [this,c]
 | n+1,i,h=>by
  have hi:i<s.size:=by omega
  have ih:=U5 s hs n (i+1) (by omega)
  have hw:=A8 (i:=i) (by omega)
  rw [Aex,Gv hi]
  generalize hc:s[i]=c
  have e1:Bg c= !(decide (¬ (((97:Int)≤c.toNat∧(c.toNat:Int)≤122)∨((65:Int)≤c.toNat∧(c.toNat:Int)≤90))∧ ¬ ((48:Int)≤c.toNat∧(c.toNat:Int)≤57)∧ ¬ (c.toNat:Int)=45∧ ¬ (c.toNat:Int)=95∧ ¬ (c.toNat:Int)=47)):=by
   unfold Bg
   rw [Bool.eq_iff_iff]
   simp
   omega
  simp only [O.A6,Option.bind_some,O.Ai,Al,hi,decide_true,O.Ab,if_true,O.Ge,Int.natCast_nonneg,Int.toNat_natCast,Ari hi,hc,Option.map_some,O.Ek,O.D1,O.C8,List.all_cons,e1,O.Am,hw,ih]
  by_cases p1:(97:Int)≤c.toNat<;>by_cases p2:(c.toNat:Int)≤122<;>by_cases p3:(65:Int)≤c.toNat<;>by_cases p4:(c.toNat:Int)≤90<;>by_cases p5:(48:Int)≤c.toNat<;>by_cases p6:(c.toNat:Int)≤57<;>simp [p1,p2,p3,p4,p5,p6]<;>
   by_cases p7:(c.toNat:Int)=45<;>by_cases p8:(c.toNat:Int)=95<;>by_cases p9:(c.toNat:Int)=47<;>simp [p7,p8,p9]
theorem Aek (s:ByteArray) (hs:s.size≤4611686018427387904):W Ar9 0 [.str s]=some [.bool (Cf s)]:=by
 rw [Aoz]
 exact U5 s hs s.size 0 (by omega)
end Go.CT.Sch
namespace Go.CT.Sch
open Go.Proofs
theorem Cs:(⟨#[]⟩:ByteArray)=Ar:=rfl
theorem Zs (d:Nat) (o:Option ByteArray) (p:ByteArray × Val) (r:List (ByteArray × Val)):Ai4 d o (p::r)=(Cf p.1&&(match o with | none=>true | some q=>blt q p.1)&&Bl d p.2&&Ai4 d (some p.1) r):=by
 cases o<;>rfl
theorem Ahb (v:Val) (hv:v.Au≤1099511627776):W Awp 0 [v.enc]=some [.bool (Eu v)]:=by
 have hs:=v.Aiy
 rw [Aqx]
 unfold Eu
 simp only [Val.Bt,Option.bind_some,O.eq_int,O.Ab]
 by_cases c1:v.k=1
 ·simp [c1,Cs]
 by_cases c2:v.k=2
 ·by_cases a1: -1000000000000000≤v.n<;>by_cases a2:v.n≤1000000000000000<;>simp [c2,a1,a2,Cs]
 by_cases c3:v.k=3
 ·simp [c3,Anb v.s (by omega)]
 by_cases c4:v.k=0
 ·by_cases a1:v.n=0<;>simp [c4,Q8,a1,Cs]
 by_cases c5:v.k=4
 ·by_cases a1:v.n=0<;>simp [c5,Q8,a1,Cs]
 by_cases c6:v.k=5
 ·by_cases a1:v.n=0<;>simp [c6,Q8,a1,Cs]
 simp [c1,c2,c3,c4,c5,c6,Q8]
theorem Rj (d:Nat) (v:Val) (hd:d≤12) (hv:v.Au≤1099511627776) (ih: ∀x∈v.l,W Abs 0 [x.enc,.int d]=some [.bool (Bl d x)]): ∀ (n i:Nat),i+n=v.l.length→
  W Abs 1 [.int ((d+1:Nat):Int),.int i,v.enc]=if (v.l.drop i).all (Bl d)=true then W Abs 2 [.int ((d+1:Nat):Int),.int 0,v.enc] else some [.bool false]
 | 0,i,h=>by
  rw [Af0]
  have h1: ¬ i<v.l.length:=by omega
  simp [h1,List.drop_of_length_le (Nat.le_of_not_lt h1)]
 | n+1,i,h=>by
  have hi:i<v.l.length:=by omega
  have hm:=v.Dm
  have hw:=A8 (i:=i) (by omega)
  have hd1:IntKind.i64.wrap (((d+1:Nat):Int) - 1)=d:=by rw [wrap64 (by omega) (by omega)];omega
  have:=Rj d v hd hv ih n (i+1) (by omega)
  rw [Af0,List.drop_eq_getElem_cons hi]
  simp only [Val.Ce,Option.bind_some,O.Ao,List.length_map,O.Ai,Al,hi,decide_true,O.Ab,if_true,O.Aj,Int.natCast_nonneg,Int.toNat_natCast,List.getElem?_map,List.getElem?_eq_getElem hi,Option.map_some,O.Bv,hd1,ih _ (List.getElem_mem hi),O.Ag,O.A3,O.Am,hw,this,List.all_cons,Bool.and_eq_true]
  by_cases c:Bl d v.l[i]=true<;>simp [c]
theorem R1 (d:Nat) (v:Val) (hd:d≤12) (hv:v.Au≤1099511627776) (ih: ∀p∈v.f,W Abs 0 [p.2.enc,.int d]=some [.bool (Bl d p.2)]): ∀ (n i:Nat),i+n=v.f.length→
  W Abs 2 [.int ((d+1:Nat):Int),.int i,v.enc]=some [.bool (Ai4 d (E4 v.f i) (v.f.drop i))]
 | 0,i,h=>by
  rw [Agl]
  have h1: ¬ i<v.f.length:=by omega
  simp [h1,List.drop_of_length_le (Nat.le_of_not_lt h1),Ai4]
 | n+1,i,h=>by
  have hi:i<v.f.length:=by omega
  have hm:=v.Ba
  have hw:=A8 (i:=i) (by omega)
  have hd1:IntKind.i64.wrap (((d+1:Nat):Int) - 1)=d:=by rw [wrap64 (by omega) (by omega)];omega
  have:=R1 d v hd hv ih n (i+1) (by omega)
  have hmem:=List.getElem_mem hi
  have hmass:=Val.Dz hmem
  have hpn:E4 v.f (i+1)=some v.f[i].1 :=by simp [E4,hi]
  rw [hpn] at this
  rw [Agl,List.drop_eq_getElem_cons hi,Zs]
  simp only [Val.C4,Option.bind_some,O.Ao,List.length_map,O.Ai,Al,hi,decide_true,O.Ab,if_true,O.Aj,Int.natCast_nonneg,Int.toNat_natCast,List.getElem?_map,List.getElem?_eq_getElem hi,Option.map_some,Fld.Bt,Fld.Mi,Aek v.f[i].1 (by omega),O.Bv,hd1,ih _ hmem,O.Ag,O.A3,O.Am,hw,this,O.Bj]
  cases i with
  | zero=>
   simp only [E4]
   cases Cf v.f[0].1<;>cases Bl d v.f[0].2<;>simp
  | succ i=>
   have hi':i<v.f.length:=by omega
   have hw2:IntKind.i64.wrap (((i+1:Nat):Int) - 1)=i:=by rw [wrap64 (by omega) (by omega)];omega
   have hp:(0:Int)<((i+1:Nat):Int):=by omega
   simp only [E4,List.getElem?_eq_getElem hi',Option.map_some,hw2,hp,decide_true,if_true,Int.natCast_nonneg,Int.toNat_natCast,Option.bind_some,Fld.Bt,Yg]
   cases Cf v.f[i+1].1<;>cases Bl d v.f[i+1].2<;>cases blt v.f[i].1 v.f[i+1].1<;>simp
theorem Ro: ∀ (d:Nat) (v:Val),d≤12→v.Au≤1099511627776→W Abs 0 [v.enc,.int d]=some [.bool (Bl d v)]
 | 0,v,_,_=>by
  rw [Af7]
  simp [Bl]
 | d+1,v,hd,hv=>by
  have h1:=Rj d v (by omega) hv (fun x hx=>Ro d x (by omega) (by have:=Val.Ir hx;omega)) v.l.length 0 (by omega)
  have h2:=R1 d v (by omega) hv (fun p hp=>Ro d p.2 (by omega) (by have:=Val.Dz hp;omega)) v.f.length 0 (by omega)
  rw [Af7]
  have hz: ¬ ((d+1:Nat):Int)=0:=by omega
  simp only [Int.cast_ofNat_Int,List.drop_zero,E4,Zq] at h1 h2
  rw [h2] at h1
  simp only [O.eq_int,hz,decide_false,Option.bind_some,O.Ab,Bool.false_eq_true,if_false,Ahb v hv,O.Ag,O.A3,Val.Ce,Val.C4,Val.Bt,O.Ao,List.length_map,O.Bj,O.C8,h1,Bl]
  have hnil:v.l= []→v.l.all (Bl d)=true:=fun e=>by rw [e];rfl
  have hnil2:v.f= []→(v.f.all fun p=>Cf p.1&&Bl d p.2)=true∧rising v.f=true:=fun e=>by rw [e];exact ⟨rfl,rfl⟩
  generalize v.l.all (Bl d)=A at *
  generalize (v.f.all fun p=>Cf p.1&&Bl d p.2)=B at *
  generalize rising v.f=C at *
  cases hs:Eu v with
  | false=>simp
  | true=>
   by_cases c1:(64:Int)<v.l.length
   ·have: ¬ v.l.length≤64:=by omega
    simp [c1,this]
   ·have d1:v.l.length≤64:=by omega
    by_cases c2:(64:Int)<v.f.length
    ·have: ¬ v.f.length≤64:=by omega
     simp [c1,c2,this]
    ·have d2:v.f.length≤64:=by omega
     by_cases c3:v.k=4
     ·have c4: ¬ v.k=5:=by omega
      by_cases c5:v.f= []
      ·simp [c3,c1,d1,c5]
       cases A<;>simp
      ·have c6:(0:Int)<v.f.length:=by have:=List.length_pos_iff.2 c5;omega
       simp [c3,c1,c2,d1,d2,c5,c6]
     ·by_cases c5:v.l= []
      ·by_cases c4:v.k=5
       ·simp [c4,c2,d2,c5]
        cases A<;>simp
       ·by_cases c7:v.f= []
        ·simp [c3,c4,c5,c7]
         cases A<;>simp
        ·have c6:(0:Int)<v.f.length:=by have:=List.length_pos_iff.2 c7;omega
         simp [c3,c4,c5,c7,c6,c2,d2]
      ·have c6:(0:Int)<v.l.length:=by have:=List.length_pos_iff.2 c5;omega
       simp [c3,c5,c6,c1,c2,d1,d2]
end Go.CT.Sch
namespace Go.CT
theorem get!_eq (s:ByteArray) (i:Nat) (h:i<s.size):s.get! (i+0)=s[i]:=by
 obtain ⟨a⟩:=s
 have h':i<a.size:=h
 show a[i+0]! =a[i]
 simp [h']
theorem Uw {s:ByteArray} {i:Nat} (h:i<s.size) (hb:s[i].toNat <128):Utf8.decode s i=(s[i].toNat,1):=by
 unfold Utf8.decode
 simp only [get!_eq s i h]
 rw [if_pos hb]
theorem decode_high {s:ByteArray} {i:Nat} (h:i<s.size) (hb:128≤s[i].toNat):128≤(Utf8.decode s i).1 :=by
 unfold Utf8.decode
 simp only [get!_eq s i h]
 rw [if_neg (by omega)]
 have e:Utf8.runeError=65533:=rfl
 split
 ·split<;>simp only [e]<;>omega
 ·split
  ·split
   ·rename_i hc
    simp only [Bool.and_eq_true,decide_eq_true_eq,ge_iff_le] at hc
    show 128≤_
    omega
   ·simp [e]
  ·split
   ·split
    ·rename_i hc
     simp only [Bool.and_eq_true,decide_eq_true_eq,ge_iff_le] at hc
     show 128≤_
     omega
    ·simp [e]
   ·simp [e]
namespace O
variable {s:ByteArray} {i:Nat} {b:Bool} {xs ys:List IV}
theorem Aal (h:i<s.size):Ms (.str s) (.int i)=some (.bool true):=by simp [Ms,Prim.ev,h]
theorem Um (h: ¬ i<s.size):Ms (.str s) (.int i)=some (.bool false):=by simp [Ms,Prim.ev,h]
theorem Aa3 (h:i<s.size):Mq (.str s) (.int i)=some (.int (Utf8.decode s i).1):=by simp [Mq,Prim.ev,h]
theorem Ve (h: ¬ i<s.size):Mq (.str s) (.int i)=some (.int 0):=by simp [Mq,Prim.ev,h]
theorem Sc (h:i<s.size):Hj (.str s) (.int i)=some (.int ((i+(Utf8.decode s i).2 :Nat):Int)):=by simp [Hj,Prim.ev,h]
theorem Qp (h: ¬ i<s.size):Hj (.str s) (.int i)=some (.int i):=by simp [Hj,Prim.ev,h]
@[simp] theorem Aaw:Ag0 (.bool true)=some (.bool true):=rfl
theorem Aac {n:Nat} (h:0<ys.length) (hb:(xs.length+ys.length) * n≤Az):Pu n (.list xs) (.list ys)=some (.list (xs++ys)):=if_pos ⟨h,hb⟩
theorem Acp (h:xs.length+s.size≤Az):Mz (.list xs) (.str s)=some (.list (xs++Bw s)):=if_pos h
@[simp] theorem Aha:Ajm [.list xs]=some [.list xs]:=rfl
@[simp] theorem Ig:Jl [.list xs]=some [.list xs]:=rfl
theorem Ti: ∀l:List UInt8,(l.map fun b:UInt8=>IV.int b.toNat).mapM Ix=some l
 | []=>rfl
 | b::l=>by
  have hb:Ix (.int b.toNat)=some b:=by
   have h:(b.toNat:Int)<256:=by have:=b.toNat_lt;omega
   simp only [Ix,Int.natCast_nonneg,h,and_self,if_true,Int.toNat_natCast]
   simp [Nat.toUInt8]
  simp [List.map_cons,List.mapM_cons,hb,Ti l]
theorem Oo (s:ByteArray):Pr [.list (Bw s)]=some [.str s]:=by
 simp only [Pr,Bw,Ti,Option.map_some]
theorem I6 (s t:ByteArray):Bw (s++t)=Bw s++Bw t:=by
 simp [Bw,ByteArray.toList_data_append]
theorem Je (s:ByteArray):(Bw s).length =s.size:=by simp [Bw]
theorem Aq5 (n:Nat) (h:n<100):Aia [.int n]=some [.str (Jt n)]:=by
 simp only [Aia,Int.natCast_nonneg,true_and,Int.toNat_natCast]
 rw [if_pos (by omega)]
end O
end Go.CT
namespace Go.CT.Sch
open Go.Proofs
structure Stp where
 k:Int
 nm:ByteArray
 ix:Int
 vl:ByteArray
def Stp.enc (s:Stp):IV:= .agg [.int s.k,.str s.nm,.int s.ix,.str s.vl]
@[simp] theorem Stp.Bt (s:Stp):O.proj 0 s.enc=some (.int s.k):=rfl
@[simp] theorem Stp.C3 (s:Stp):O.proj 1 s.enc=some (.str s.nm):=rfl
@[simp] theorem Stp.D3 (s:Stp):O.proj 2 s.enc=some (.int s.ix):=rfl
@[simp] theorem Stp.Ce (s:Stp):O.proj 3 s.enc=some (.str s.vl):=rfl
def Stp.fits (s:Stp):Prop:=s.nm.size≤1099511627000∧s.vl.size≤1099511627000
def bsL (l:List UInt8):ByteArray:=⟨l.toArray⟩
theorem Ef (a b:List UInt8):bsL (a++b)=bsL a++bsL b:=by
 apply Gx
 rw [ByteArray.toList_data_append];simp [bsL]
theorem Bq (l:List UInt8):(bsL l).size =l.length:=by simp [bsL,ByteArray.size]
theorem Wf (s:ByteArray):bsL s.data.toList=s:=rfl
theorem Gr (s:ByteArray):Ar++s=s:=by
 apply Gx
 rw [ByteArray.toList_data_append];rfl
theorem O2 (s:ByteArray):s++Ar=s:=by
 apply Gx
 rw [ByteArray.toList_data_append];simp [Ar]
theorem Aoi {s:ByteArray} {i:Nat} (h:i<s.size):s.extract i (i+1)=bsL [s[i]]:=by
 apply Gx
 rw [ByteArray.data_extract,Array.toList_extract]
 simp only [List.extract_eq_take_drop,bsL]
 have:=Gv h
 rw [show i+1 - i=1 by omega,this]
 rfl
def Kr (c:UInt8):List UInt8:=if c.toNat=10 then [92,110] else if c.toNat=34∨c.toNat=92 then [92,c] else [c]
def Kn (s:ByteArray):ByteArray:=bsL (34::s.data.toList.flatMap Kr++ [34])
theorem Aoo (c:UInt8):(Kr c).length ≤2:=by unfold Kr;split<;> (try split)<;>simp
theorem Ajv: ∀l:List UInt8,(l.flatMap Kr).length ≤2 * l.length
 | []=>by simp
 | c::l=>by
  have:=Aoo c
  have:=Ajv l
  simp only [List.flatMap_cons,List.length_append,List.length_cons];omega
theorem Mw (s:ByteArray):(Kn s).size ≤2+2 * s.size:=by
 have:=Ajv s.data.toList
 have h:s.data.toList.length=s.size:=by simp
 unfold Kn
 rw [Bq]
 simp only [List.length_cons,List.length_append,List.length_nil]
 omega
def Du (x:Stp):Bool:=
 if x.k=1 then Cf x.nm&&decide (x.ix=0)&&decide (x.vl=Ar)
 else if x.k=2 then decide (0≤x.ix)&&decide (x.ix≤64)&&decide (x.nm=Ar)&&decide (x.vl=Ar)
 else if x.k=3 then Cf x.nm&&I2 x.vl&&decide (x.ix=0)
 else false
def Ez (p:List Stp):Bool:=p.all Du&&decide (p.length≤16)
def Gt (first:Bool) (x:Stp):ByteArray:=
 if x.k=2 then bsL [91]++O.Jt x.ix.toNat++bsL [93]
 else if x.k=3 then bsL [91]++x.nm++bsL [61]++Kn x.vl++bsL [93]
 else if first then x.nm else bsL [46]++x.nm
def Gf:Bool→List Stp→ByteArray
 | _,[]=>Ar
 | b,x::r=>Gt b x++Gf false r
def Azn (p:List Stp):ByteArray:=Gf true p
def G8 (p:List Stp):ByteArray:=if Ez p then Azn p else Ar
def Agw (p:List Stp):Int:=if Ez p then 0 else 1
theorem Tc {s:ByteArray} (h:Cf s=true):s.size≤40:=by
 unfold Cf at h
 simp only [Bool.and_eq_true,decide_eq_true_eq] at h
 exact h.2.2
theorem Pp {s:ByteArray} (h:I2 s=true):s.size≤200:=by
 unfold I2 at h
 simp only [Bool.and_eq_true,decide_eq_true_eq] at h
 exact h.2
theorem Pn (n:Nat):(O.Jt n).size ≤2:=by
 unfold O.Jt
 split
 ·show 1≤2;omega
 ·show 2≤2;omega
theorem D4 {x:Stp} (h:Du x=true):x.nm.size≤40∧x.vl.size≤200∧(x.k=2→0≤x.ix∧x.ix≤64)∧(x.k=3→I2 x.vl=true)∧(x.k=1∨x.k=2∨x.k=3):=by
 have e0:Ar.size=0:=rfl
 unfold Du at h
 split at h
 ·rename_i k1
  simp only [Bool.and_eq_true,decide_eq_true_eq] at h
  exact ⟨Tc h.1.1,by rw [h.2,e0];omega,fun h=>by omega,fun h=>by omega,.inl k1⟩
 ·split at h
  ·rename_i k2
   simp only [Bool.and_eq_true,decide_eq_true_eq] at h
   exact ⟨by rw [h.1.2,e0];omega,by rw [h.2,e0];omega,fun _=>⟨h.1.1.1,h.1.1.2⟩,fun h=>by omega,.inr (.inl k2)⟩
  ·split at h
   ·rename_i k3
    simp only [Bool.and_eq_true,decide_eq_true_eq] at h
    exact ⟨Tc h.1.1,Pp h.1.2,fun h=>by omega,fun _=>h.1.2,.inr (.inr k3)⟩
   ·cases h
theorem Tk (c:UInt8):W Ay8 0 [.int c.toNat]=some [.bool (Bg c)]:=by
 rw [Apf]
 simp only [O.Ek,O.D1,O.eq_int,Option.bind_some,O.Ab,Aw,Ap]
 congr 3
 unfold Bg
 rw [Bool.eq_iff_iff]
 simp
 omega
theorem S5 (s:ByteArray) (hs:s.size≤1099511627776): ∀ (n i:Nat),i+n=s.size→W Asd 1 [.str s,.int i]=some [.bool ((s.data.toList.drop i).all Bg&&decide (1≤s.size∧s.size≤40))]
 | 0,i,h=>by
  have h1: ¬ i<s.size:=by omega
  have h2:s.data.toList.drop i= []:=List.drop_of_length_le (by simp;omega)
  rw [Ad8]
  simp only [O.A6,Option.bind_some,O.Ai,Al,h1,decide_false,O.Ab,Bool.false_eq_true,if_false,O.Bj,O.D1,Aw,Ap,h2,List.all_nil,Bool.true_and]
  congr 3
  rw [Bool.eq_iff_iff]
  simp
  omega
 | n+1,i,h=>by
  have hi:i<s.size:=by omega
  have hw:=A8 (i:=i) (by omega)
  have ih:=S5 s hs n (i+1) (by omega)
  rw [Ad8,Gv hi]
  simp only [O.A6,Option.bind_some,O.Ai,Al,hi,decide_true,O.Ab,if_true,O.Ge,Int.natCast_nonneg,Int.toNat_natCast,Ari hi,Option.map_some,Tk,O.Ag,O.A3,O.Am,hw,ih,List.all_cons]
  cases Bg s[i]<;>simp
theorem Aj4 (s:ByteArray) (hs:s.size≤1099511627776):W Asd 0 [.str s]=some [.bool (Cf s)]:=by
 rw [Ap9];exact S5 s hs s.size 0 (by omega)
theorem Vf (s:ByteArray) (hs:s.size≤1099511627776): ∀ (n i:Nat),i+n=s.size→W Auf 1 [.str s,.int i]=some [.bool ((s.data.toList.drop i).all Hk&&decide (s.size≤200))]
 | 0,i,h=>by
  have h1: ¬ i<s.size:=by omega
  have h2:s.data.toList.drop i= []:=List.drop_of_length_le (by simp;omega)
  rw [Afi]
  simp only [O.A6,Option.bind_some,O.Ai,Al,h1,decide_false,O.Ab,Bool.false_eq_true,if_false,O.D1,h2,List.all_nil,Bool.true_and]
  congr 3
  rw [Bool.eq_iff_iff]
  simp
  omega
 | n+1,i,h=>by
  have hi:i<s.size:=by omega
  have hw:=A8 (i:=i) (by omega)
  have ih:=Vf s hs n (i+1) (by omega)
  rw [Afi,Gv hi]
  have e1:Hk s[i]= !(if (!decide ((s[i].toNat :Int)=10))=true then (if decide ((s[i].toNat :Int)<32)=true then true else decide (126<(s[i].toNat :Int))) else false):=by
   unfold Hk
   rw [Bool.eq_iff_iff]
   by_cases c1:s[i].toNat =10
   ·simp [c1]
   ·have c1': ¬ (s[i].toNat :Int)=10:=by omega
    by_cases c2:s[i].toNat <32
    ·have c2':(s[i].toNat :Int)<32:=by omega
     simp [c1,c1',c2,c2'];omega
    ·have c2': ¬ (s[i].toNat :Int)<32:=by omega
     simp [c1,c1',c2,c2']
     omega
  simp only [O.A6,Option.bind_some,O.Ai,Al,hi,decide_true,O.Ab,if_true,O.Ge,Int.natCast_nonneg,Int.toNat_natCast,Ari hi,Option.map_some,O.C8,O.Bj,Aw,Ap,O.Am,hw,ih,List.all_cons,e1]
  generalize (if (!decide ((s[i].toNat :Int)=10))=true then (if decide ((s[i].toNat :Int)<32)=true then true else decide (126<(s[i].toNat :Int))) else false)=b
  cases b<;>simp
theorem Ap7 (s:ByteArray) (hs:s.size≤1099511627776):W Auf 0 [.str s]=some [.bool (I2 s)]:=by
 rw [Aq8];exact Vf s hs s.size 0 (by omega)
theorem Aml (s:Stp) (hs:s.fits):W Azg 0 [s.enc]=some [.bool (Du s)]:=by
 have h1:=Aj4 s.nm (Nat.le_trans hs.1 (by decide))
 have h2:=Ap7 s.vl (Nat.le_trans hs.2 (by decide))
 rw [Ara]
 simp only [Stp.Bt,Stp.C3,Stp.D3,Stp.Ce,Option.bind_some,O.eq_int,O.Ab,h1,h2,O.Ag,O.Ek,O.D1,O.E0,Aw,Ap,Cs]
 unfold Du
 by_cases k1:s.k=1
 ·simp only [k1,decide_true,if_true]
  cases Cf s.nm<;>simp
 ·by_cases k2:s.k=2
  ·simp only [k1,k2,decide_true,decide_false,Bool.false_eq_true,if_true,if_false]
   by_cases e1:0≤s.ix<;>by_cases e2:s.ix≤64<;>by_cases e3:s.nm=Ar<;>simp [e1,e2,e3]
  ·simp only [k1,k2,decide_false,Bool.false_eq_true,if_false]
   by_cases k3:s.k=3
   ·simp only [k3,decide_true,if_true]
    cases Cf s.nm<;>cases I2 s.vl<;>simp
   ·simp [k3]
theorem Qi (p:List Stp) (hp: ∀s∈p,s.fits) (hl:p.length≤1099511627776): ∀ (n i:Nat),i+n=p.length→W Aoy 1 [.list (p.map Stp.enc),.int i]=some [.bool ((p.drop i).all Du&&decide (p.length≤16))]
 | 0,i,h=>by
  have h1: ¬ i<p.length:=by omega
  have h2:p.drop i= []:=List.drop_of_length_le (by omega)
  rw [Afw]
  simp only [O.Ao,List.length_map,Option.bind_some,O.Ai,Al,h1,decide_false,O.Ab,Bool.false_eq_true,if_false,O.D1,h2,List.all_nil,Bool.true_and]
  congr 3
  rw [Bool.eq_iff_iff]
  simp
  omega
 | n+1,i,h=>by
  have hi:i<p.length:=by omega
  have hw:=A8 (i:=i) (by omega)
  have ih:=Qi p hp hl n (i+1) (by omega)
  rw [Afw,List.drop_eq_getElem_cons hi]
  simp only [O.Ao,List.length_map,Option.bind_some,O.Ai,Al,hi,decide_true,O.Ab,if_true,O.Aj,Int.natCast_nonneg,Int.toNat_natCast,List.getElem?_map,List.getElem?_eq_getElem hi,Option.map_some,Aml _ (hp _ (List.getElem_mem hi)),O.Ag,O.A3,O.Am,hw,ih,List.all_cons]
  cases Du p[i]<;>simp
theorem L6 (p:List Stp) (hp: ∀s∈p,s.fits) (hl:p.length≤1099511627776):W Aoy 0 [.list (p.map Stp.enc)]=some [.bool (Ez p)]:=by
 rw [Apm];exact Qi p hp hl p.length 0 (by omega)
theorem Ed {a b:ByteArray} (ha:a.size≤100000) (hb:b.size≤100000):O.cat (.str a) (.str b)=some (.str (a++b)):=by
 rw [O.At0,if_pos (by unfold Az;omega)]
theorem Auj: ∀d:Fin 10,(⟨#[48,49,50,51,52,53,54,55,56,57]⟩:ByteArray).extract d (d+1)=bsL [(48+d.val).toUInt8]:=by decide+kernel
theorem Aui (n:Int) (h0:0≤n) (h1:n≤64):W A0m 0 [.int n]=some [.str (O.Jt n.toNat)]:=by
 have sl: ∀d:Nat,d<10→O.Hs (.str ⟨#[48,49,50,51,52,53,54,55,56,57]⟩) (.int d) (.int ((d:Int)+1))=some (.str (bsL [(48+d).toUInt8])):=by
  intro d hd
  rw [O.Pb,if_pos ⟨by omega,by omega,by show (d:Int)+1≤10;omega⟩]
  have:=Auj ⟨d,hd⟩
  simp only [Int.toNat_natCast]
  rw [show ((d:Int)+1).toNat =d+1 by omega,this]
 obtain ⟨m,rfl⟩:=Int.eq_ofNat_of_zero_le h0
 rw [Apc]
 unfold O.Jt
 simp only [Int.ofNat_eq_natCast,Int.toNat_natCast]
 by_cases c:m<10
 ·have hw:IntKind.i64.wrap ((m:Int)+1)=(m:Int)+1:=wrap64 (by omega) (by omega)
  have c':(m:Int)<10:=by omega
  simp only [O.Ai,c',decide_true,Option.bind_some,O.Ab,if_true,O.Am,hw,sl m c,c]
  rfl
 ·have c': ¬ (m:Int)<10:=by omega
  have hq:(m:Int).tdiv 10=((m / 10:Nat):Int):=by rw [Int.tdiv_eq_ediv_of_nonneg (by omega)];omega
  have hr:(m:Int).tmod 10=((m % 10:Nat):Int):=by rw [Int.tmod_eq_emod_of_nonneg (by omega)];omega
  have hw1:IntKind.i64.wrap ((m / 10:Nat):Int)=((m / 10:Nat):Int):=wrap64 (by omega) (by omega)
  have hw2:IntKind.i64.wrap (((m / 10:Nat):Int)+1)=((m / 10:Nat):Int)+1:=wrap64 (by omega) (by omega)
  have hw3:IntKind.i64.wrap (((m % 10:Nat):Int)+1)=((m % 10:Nat):Int)+1:=wrap64 (by omega) (by omega)
  have hne: ¬ (10:Int)=0:=by omega
  simp only [O.Ai,c',decide_false,Option.bind_some,O.Ab,Bool.false_eq_true,if_false,O.Awj,O.Ato,hne,hq,hr,hw1,O.Am,hw2,hw3,sl (m / 10) (by omega),sl (m % 10) (by omega),c]
  rw [Ed (by rw [Bq];simp) (by rw [Bq];simp),←Ef]
  rfl
theorem Tg (s:ByteArray) (hs:s.size≤200): ∀ (n i:Nat) (o:ByteArray),i+n=s.size→o.size≤1+2 * i→W Aim 1 [.str s,.str o,.int i]=some [.str (o++bsL ((s.data.toList.drop i).flatMap Kr++ [34]))]
 | 0,i,o,h,ho=>by
  have h1: ¬ i<s.size:=by omega
  have h2:s.data.toList.drop i= []:=List.drop_of_length_le (by simp;omega)
  rw [Aga]
  simp only [O.A6,Option.bind_some,O.Ai,Al,h1,decide_false,O.Ab,Bool.false_eq_true,if_false,h2,List.flatMap_nil,List.nil_append]
  rw [show (ByteArray.mk #[34])=bsL [34] from rfl,Ed (by omega) (by rw [Bq];simp)]
  rfl
 | n+1,i,o,h,ho=>by
  have hi:i<s.size:=by omega
  have hw:=A8 (i:=i) (by omega)
  have hsl:O.Hs (.str s) (.int i) (.int ((i+1:Nat):Int))=some (.str (bsL [s[i]])):=by
   rw [O.Pb,if_pos ⟨by omega,by omega,by omega⟩]
   simp only [Int.toNat_natCast]
   rw [Aoi hi]
  have next: ∀a:List UInt8,a.length≤2→Kr s[i]=a→W Aim 2 [.str s,.str (o++bsL a),.int i]=some [.str (o++bsL ((s.data.toList.drop i).flatMap Kr++ [34]))]:=by
   intro a ha he
   rw [Aod]
   simp only [O.Am,hw,Option.bind_some]
   rw [Tg s hs n (i+1) _ (by omega) (by rw [ByteArray.size_append,Bq];omega),Gv hi,List.flatMap_cons,he,List.append_assoc,Ef a,ByteArray.append_assoc]
  rw [Aga]
  simp only [O.A6,Option.bind_some,O.Ai,Al,hi,decide_true,O.Ab,if_true,O.Ge,Int.natCast_nonneg,Int.toNat_natCast,Ari hi,Option.map_some,O.eq_int,Aw,Ap]
  rw [show (ByteArray.mk #[92,110])=bsL [92,110] from rfl,show (ByteArray.mk #[92])=bsL [92] from rfl]
  by_cases c1:s[i].toNat =10
  ·have c1':(s[i].toNat :Int)=10:=by omega
   simp only [c1',decide_true,if_true]
   rw [Ed (by omega) (by rw [Bq];simp)]
   exact next [92,110] (by simp) (by unfold Kr;rw [if_pos c1])
  ·have c1': ¬ (s[i].toNat :Int)=10:=by omega
   simp only [c1',decide_false,Bool.false_eq_true,if_false]
   by_cases c2:s[i].toNat =34∨s[i].toNat =92
   ·have c2':(if decide ((s[i].toNat :Int)=34)=true then true else decide ((s[i].toNat :Int)=92))=true:=by
     rcases c2 with h | h<;>simp [h]
    simp only [c2',if_true]
    rw [Ed (by omega) (by rw [Bq];simp)]
    simp only [Option.bind_some,O.Am,hw,hsl]
    rw [Ed (by rw [ByteArray.size_append,Bq];simp;omega) (by rw [Bq];simp),ByteArray.append_assoc,←Ef]
    exact next [92,s[i]] (by simp) (by unfold Kr;rw [if_neg c1,if_pos c2])
   ·have c2':(if decide ((s[i].toNat :Int)=34)=true then true else decide ((s[i].toNat :Int)=92))=false:=by
     have h1: ¬ (s[i].toNat :Int)=34:=by omega
     have h2: ¬ (s[i].toNat :Int)=92:=by omega
     simp [h1,h2]
    simp only [c2',Bool.false_eq_true,if_false,O.Am,hw,Option.bind_some,hsl]
    rw [Ed (by omega) (by rw [Bq];simp)]
    exact next [s[i]] (by simp) (by unfold Kr;rw [if_neg c1,if_neg c2])
theorem Ake (s:ByteArray) (hs:s.size≤200):W Aim 0 [.str s]=some [.str (Kn s)]:=by
 rw [Arc,show (ByteArray.mk #[34])=bsL [34] from rfl]
 rw [show (IV.int 0)=IV.int ((0:Nat):Int) from rfl,Tg s hs s.size 0 _ (by omega) (by rw [Bq];simp),←Ef]
 rfl
theorem P3 {b:Bool} {x:Stp} (h:Du x=true):(Gt b x).size ≤500:=by
 obtain ⟨h1,h2,_⟩:=D4 h
 have hq:=Mw x.vl
 have hi:=Pn x.ix.toNat
 have e: ∀c:UInt8,(bsL [c]).size =1:=fun c=>by rw [Bq];rfl
 unfold Gt
 split
 ·simp only [ByteArray.size_append,e];omega
 ·split
  ·simp only [ByteArray.size_append,e];omega
  ·split
   ·omega
   ·simp only [ByteArray.size_append,e];omega
theorem Rz (p:List Stp) (hp: ∀s∈p,Du s=true) (hl:p.length≤16): ∀ (n i:Nat) (o:ByteArray),i+n=p.length→o.size≤500 * i→W Aig 1 [.list (p.map Stp.enc),.str o,.int i]=some [.str (o++Gf (decide (i=0)) (p.drop i)),.int 0]
 | 0,i,o,h,ho=>by
  have h1: ¬ i<p.length:=by omega
  have h2:p.drop i= []:=List.drop_of_length_le (by omega)
  rw [Aes]
  simp only [O.Ao,List.length_map,Option.bind_some,O.Ai,Al,h1,decide_false,O.Ab,Bool.false_eq_true,if_false,h2,Gf,O2]
 | n+1,i,o,h,ho=>by
  have hi:i<p.length:=by omega
  have hw:=A8 (i:=i) (by omega)
  have hok:=hp _ (List.getElem_mem hi)
  obtain ⟨g1,g2,g3,g4,g5⟩:=D4 hok
  have e: ∀c:UInt8,(bsL [c]).size =1:=fun c=>by rw [Bq];rfl
  have next: ∀t:ByteArray,Gt (decide (i=0)) p[i]=t→W Aig 2 [.list (p.map Stp.enc),.str (o++t),.int i]=some [.str (o++Gf (decide (i=0)) (p.drop i)),.int 0]:=by
   intro t ht
   have hz:(Gt (decide (i=0)) p[i]).size ≤500:=P3 hok
   rw [Ao0]
   simp only [O.Am,hw,Option.bind_some]
   rw [Rz p hp hl n (i+1) (o++t) (by omega) (by rw [ByteArray.size_append,←ht];omega),List.drop_eq_getElem_cons hi,Gf,ht,ByteArray.append_assoc]
   rfl
  rw [Aes]
  simp only [O.Ao,List.length_map,Option.bind_some,O.Ai,Al,hi,decide_true,O.Ab,if_true,O.Aj,Int.natCast_nonneg,Int.toNat_natCast,List.getElem?_map,List.getElem?_eq_getElem hi,Option.map_some,Stp.Bt,Stp.C3,Stp.D3,Stp.Ce,O.eq_int,O.Bj]
  rw [show (ByteArray.mk #[91])=bsL [91] from rfl,show (ByteArray.mk #[93])=bsL [93] from rfl,show (ByteArray.mk #[61])=bsL [61] from rfl,show (ByteArray.mk #[46])=bsL [46] from rfl]
  by_cases k2:p[i].k =2
  ·have hd:=Aui p[i].ix (g3 k2).1 (g3 k2).2
   have hd2:=Pn p[i].ix.toNat
   simp only [k2,decide_true,if_true]
   rw [Ed (by omega) (by rw [e];omega)]
   simp only [Option.bind_some,hd,O.Ag]
   rw [Ed (by rw [ByteArray.size_append,e];omega) (by omega)]
   simp only [Option.bind_some]
   rw [Ed (by rw [ByteArray.size_append,ByteArray.size_append,e];omega) (by rw [e];omega)]
   simp only [Option.bind_some,ByteArray.append_assoc]
   exact next _ (by unfold Gt;rw [if_pos k2,ByteArray.append_assoc])
  ·simp only [k2,decide_false,Bool.false_eq_true,if_false]
   by_cases k3:p[i].k =3
   ·have hd:=Ake p[i].vl g2
    have hd2:=Mw p[i].vl
    simp only [k3,decide_true,if_true]
    rw [Ed (by omega) (by rw [e];omega)]
    simp only [Option.bind_some]
    rw [Ed (by rw [ByteArray.size_append,e];omega) (by omega)]
    simp only [Option.bind_some]
    rw [Ed (by rw [ByteArray.size_append,ByteArray.size_append,e];omega) (by rw [e];omega)]
    simp only [Option.bind_some,hd,O.Ag]
    rw [Ed (by rw [ByteArray.size_append,ByteArray.size_append,ByteArray.size_append,e,e];omega) (by omega)]
    simp only [Option.bind_some]
    rw [Ed (by rw [ByteArray.size_append,ByteArray.size_append,ByteArray.size_append,ByteArray.size_append,e,e];omega) (by rw [e];omega)]
    simp only [Option.bind_some,ByteArray.append_assoc]
    exact next _ (by unfold Gt;rw [if_neg k2,if_pos k3];simp only [ByteArray.append_assoc])
   ·simp only [k3,decide_false,Bool.false_eq_true,if_false]
    by_cases hz:i=0
    ·have hz': ¬ (0:Int)<i:=by omega
     have ho':o=Ar:=by
      apply Gx
      have:o.size=0:=by omega
      have:o.data.toList.length=0:=by simpa using this
      rw [List.length_eq_zero_iff.1 this];rfl
     simp only [hz',decide_false,Bool.false_eq_true,if_false]
     have:=next p[i].nm (by unfold Gt;rw [if_neg k2,if_neg k3,if_pos (by simpa using hz)])
     rw [ho',Gr] at this
     rw [ho']
     exact this
    ·have hz':(0:Int)<i:=by omega
     simp only [hz',decide_true,if_true]
     rw [Ed (by omega) (by rw [e];omega)]
     simp only [Option.bind_some]
     rw [Ed (by rw [ByteArray.size_append,e];omega) (by omega)]
     simp only [Option.bind_some,ByteArray.append_assoc]
     exact next _ (by unfold Gt;rw [if_neg k2,if_neg k3,if_neg (by simpa using hz)])
theorem Ak2 (p:List Stp) (hp: ∀s∈p,s.fits) (hl:p.length≤1099511627776):W Aig 0 [.list (p.map Stp.enc)]=some [.str (G8 p),.int (Agw p)]:=by
 rw [Ap2]
 unfold G8 Agw
 cases hb:Ez p with
 | false=>simp only [L6 p hp hl,hb,O.Ag,O.A3,Option.bind_some,Bool.not_false,O.Ab,if_true];rfl
 | true=>
  simp only [L6 p hp hl,hb,O.Ag,O.A3,Option.bind_some,Bool.not_true,O.Ab,Bool.false_eq_true,if_false,if_true]
  unfold Ez at hb
  simp only [Bool.and_eq_true,decide_eq_true_eq,List.all_eq_true] at hb
  have:=Rz p hb.1 hb.2 p.length 0 Ar (by omega) (Nat.le_refl _)
  rw [Gr] at this
  exact this
end Go.CT.Sch
namespace Go.CT.Sch
open Go.Proofs
theorem Yk (s:ByteArray) (hs:s.size≤1099511627776): ∀ (n i:Nat),i+n=s.size→W F22 1 [.str s,.int s.size,.int i]=some [.bool ((s.data.toList.drop i).all Hk&&decide (s.size≤200))]
 | 0,i,h=>by
  have h1: ¬ i<s.size:=by omega
  have h2:s.data.toList.drop i= []:=List.drop_of_length_le (by simp;omega)
  rw [Ai3]
  simp only [O.A6,Option.bind_some,O.Ai,Al,h1,decide_false,O.Ab,Bool.false_eq_true,if_false,O.D1,h2,List.all_nil,Bool.true_and]
  congr 3
  rw [Bool.eq_iff_iff]
  simp
  omega
 | n+1,i,h=>by
  have hi:i<s.size:=by omega
  have hw:=A8 (i:=i) (by omega)
  have ih:=Yk s hs n (i+1) (by omega)
  rw [Ai3,Gv hi]
  have e1:Hk s[i]= !(if (!decide ((s[i].toNat :Int)=10))=true then (if decide ((s[i].toNat :Int)<32)=true then true else decide (126<(s[i].toNat :Int))) else false):=by
   unfold Hk
   rw [Bool.eq_iff_iff]
   by_cases c1:s[i].toNat =10
   ·simp [c1]
   ·have c1': ¬ (s[i].toNat :Int)=10:=by omega
    by_cases c2:s[i].toNat <32
    ·have c2':(s[i].toNat :Int)<32:=by omega
     simp [c1,c1',c2,c2'];omega
    ·have c2': ¬ (s[i].toNat :Int)<32:=by omega
     simp [c1,c1',c2,c2']
     omega
  simp only [O.A6,Option.bind_some,O.Ai,Al,hi,decide_true,O.Ab,if_true,O.Ge,Int.natCast_nonneg,Int.toNat_natCast,Ari hi,Option.map_some,O.C8,O.Bj,Aw,Ap,O.Am,hw,ih,List.all_cons,e1]
  generalize (if (!decide ((s[i].toNat :Int)=10))=true then (if decide ((s[i].toNat :Int)<32)=true then true else decide (126<(s[i].toNat :Int))) else false)=b
  cases b<;>simp
theorem Av9 (s:ByteArray) (hs:s.size≤1099511627776):W F22 0 [.str s]=some [.bool (I2 s)]:=by
 rw [Avo]
 simp only [O.A6,Option.bind_some]
 exact Yk s hs s.size 0 (by omega)
theorem Yl (s:ByteArray) (hs:s.size≤1099511627776): ∀ (n i:Nat),i+n=s.size→W F23 1 [.str s,.int s.size,.int i]=some [.bool ((s.data.toList.drop i).all Bg&&decide (1≤s.size∧s.size≤40))]
 | 0,i,h=>by
  have h1: ¬ i<s.size:=by omega
  have h2:s.data.toList.drop i= []:=List.drop_of_length_le (by simp;omega)
  rw [Alp]
  simp only [O.A6,Option.bind_some,O.Ai,Al,h1,decide_false,O.Ab,Bool.false_eq_true,if_false,O.Ek,O.D1,Aw,Ap,h2,List.all_nil,Bool.true_and]
  congr 3
  rw [Bool.eq_iff_iff]
  simp
  omega
 | n+1,i,h=>by
  have hi:i<s.size:=by omega
  have hw:=A8 (i:=i) (by omega)
  have ih:=Yl s hs n (i+1) (by omega)
  rw [Alp,Gv hi]
  generalize hc:s[i]=c
  simp only [O.A6,Option.bind_some,O.Ai,Al,hi,decide_true,O.Ab,if_true,O.Ge,Int.natCast_nonneg,Int.toNat_natCast,Ari hi,hc,Option.map_some,O.Ek,O.D1,O.eq_int,Aw,Ap,O.A3,O.Am,hw,ih,List.all_cons]
  have e1:Bg c=(if (if (if (if (if (if decide ((97:Int)≤c.toNat)=true then decide ((c.toNat:Int)≤122) else false)=true then true else if decide ((65:Int)≤c.toNat)=true then decide ((c.toNat:Int)≤90) else false)=true then true else if decide ((48:Int)≤c.toNat)=true then decide ((c.toNat:Int)≤57) else false)=true then true else decide ((c.toNat:Int)=45))=true then true else decide ((c.toNat:Int)=95))=true then true else decide ((c.toNat:Int)=47)):=by
   unfold Bg
   rw [Bool.eq_iff_iff]
   simp
   omega
  rw [←e1]
  cases Bg c<;>simp
theorem Avv (s:ByteArray) (hs:s.size≤1099511627776):W F23 0 [.str s]=some [.bool (Cf s)]:=by
 rw [Awm]
 simp only [O.A6,Option.bind_some]
 exact Yl s hs s.size 0 (by omega)
theorem Ak7 (v:Val) (hv:v.Au≤1099511627776):W F21 0 [v.enc]=some [.bool (Eu v)]:=by
 have hs:=v.Aiy
 rw [As1]
 unfold Eu
 simp only [Val.Bt,Option.bind_some,O.eq_int,O.Ab]
 by_cases c1:v.k=1
 ·by_cases a1:v.s=Ar<;>by_cases a2:v.n=0<;>simp [c1,a1,a2,Cs]
 by_cases c2:v.k=2
 ·by_cases a1: -1000000000000000≤v.n<;>by_cases a2:v.n≤1000000000000000<;>by_cases a3:v.s=Ar<;>simp [c2,a1,a2,a3,Cs]
 by_cases c3:v.k=3
 ·by_cases a1:v.n=0<;>simp [c3,a1,Av9 v.s (by omega)]
 by_cases c4:v.k=0
 ·by_cases a1:v.n=0<;>simp [c4,Xm,a1,Cs]
 by_cases c5:v.k=4
 ·by_cases a1:v.n=0<;>simp [c5,Xm,a1,Cs]
 by_cases c6:v.k=5
 ·by_cases a1:v.n=0<;>simp [c6,Xm,a1,Cs]
 simp [c1,c2,c3,c4,c5,c6,Xm]
theorem V6 (d:Nat) (v:Val) (hd:d≤12) (hv:v.Au≤1099511627776) (ih: ∀p∈v.f,W F20 0 [p.2.enc,.int d]=some [.bool (Bl d p.2)]): ∀ (n i:Nat),i+n=v.f.length→
  W F20 2 [.int ((d+1:Nat):Int),.list (v.f.map Fld.enc),.int v.f.length,.int i,v.enc]=some [.bool (Ai4 d (E4 v.f i) (v.f.drop i))]
 | 0,i,h=>by
  rw [Ajl]
  have h1: ¬ i<v.f.length:=by omega
  simp [h1,List.drop_of_length_le (Nat.le_of_not_lt h1),Ai4]
 | n+1,i,h=>by
  have hi:i<v.f.length:=by omega
  have hm:=v.Ba
  have hw:=A8 (i:=i) (by omega)
  have hd1:IntKind.i64.wrap (((d+1:Nat):Int) - 1)=d:=by rw [wrap64 (by omega) (by omega)];omega
  have:=V6 d v hd hv ih n (i+1) (by omega)
  have hmem:=List.getElem_mem hi
  have hmass:=Val.Dz hmem
  have hpn:E4 v.f (i+1)=some v.f[i].1 :=by simp [E4,hi]
  rw [hpn] at this
  rw [Ajl,List.drop_eq_getElem_cons hi,Zs]
  simp only [Val.C4,Option.bind_some,O.Ai,Al,hi,decide_true,O.Ab,if_true,O.Aj,Int.natCast_nonneg,Int.toNat_natCast,List.getElem?_map,List.getElem?_eq_getElem hi,Option.map_some,Fld.Bt,Fld.Mi,Avv v.f[i].1 (by omega),O.Bv,hd1,ih _ hmem,O.Ag,O.A3,O.Bj,O.Am,hw,this]
  cases i with
  | zero=>
   simp only [E4]
   cases Cf v.f[0].1<;>cases Bl d v.f[0].2<;>simp
  | succ i=>
   have hi':i<v.f.length:=by omega
   have hw2:IntKind.i64.wrap (((i+1:Nat):Int) - 1)=i:=by rw [wrap64 (by omega) (by omega)];omega
   have hp:(0:Int)<((i+1:Nat):Int):=by omega
   simp only [E4,List.getElem?_eq_getElem hi',Option.map_some,hw2,hp,decide_true,if_true,Int.natCast_nonneg,Int.toNat_natCast,Option.bind_some,Fld.Bt,Adi]
   cases Cf v.f[i+1].1<;>cases Bl d v.f[i+1].2<;>cases blt v.f[i].1 v.f[i+1].1<;>simp
theorem Vq (d:Nat) (v:Val) (hd:d≤12) (hv:v.Au≤1099511627776) (ih: ∀x∈v.l,W F20 0 [x.enc,.int d]=some [.bool (Bl d x)]): ∀ (n i:Nat),i+n=v.l.length→
  W F20 1 [.int ((d+1:Nat):Int),.list (v.l.map Val.enc),.int v.l.length,.int i,v.enc]=if (v.l.drop i).all (Bl d)=true then W F20 2 [.int ((d+1:Nat):Int),.list (v.f.map Fld.enc),.int v.f.length,.int 0,v.enc] else some [.bool false]
 | 0,i,h=>by
  rw [Alj]
  have h1: ¬ i<v.l.length:=by omega
  simp [h1,List.drop_of_length_le (Nat.le_of_not_lt h1)]
 | n+1,i,h=>by
  have hi:i<v.l.length:=by omega
  have hm:=v.Dm
  have hw:=A8 (i:=i) (by omega)
  have hd1:IntKind.i64.wrap (((d+1:Nat):Int) - 1)=d:=by rw [wrap64 (by omega) (by omega)];omega
  have:=Vq d v hd hv ih n (i+1) (by omega)
  rw [Alj,List.drop_eq_getElem_cons hi]
  simp only [Option.bind_some,O.Ai,Al,hi,decide_true,O.Ab,if_true,O.Aj,Int.natCast_nonneg,Int.toNat_natCast,List.getElem?_map,List.getElem?_eq_getElem hi,Option.map_some,O.Bv,hd1,ih _ (List.getElem_mem hi),O.Ag,O.A3,O.Am,hw,this,List.all_cons]
  by_cases c:Bl d v.l[i]=true<;>simp [c]
theorem Xv: ∀ (d:Nat) (v:Val),d≤12→v.Au≤1099511627776→W F20 0 [v.enc,.int d]=some [.bool (Bl d v)]
 | 0,v,_,_=>by
  rw [Aji]
  simp [Bl]
 | d+1,v,hd,hv=>by
  have h1:=Vq d v (by omega) hv (fun x hx=>Xv d x (by omega) (by have:=Val.Ir hx;omega)) v.l.length 0 (by omega)
  have h2:=V6 d v (by omega) hv (fun p hp=>Xv d p.2 (by omega) (by have:=Val.Dz hp;omega)) v.f.length 0 (by omega)
  have hm1:=v.Dm
  have hm2:=v.Ba
  have hd0: ¬ ((d+1:Nat):Int)=0:=by omega
  simp only [List.drop_zero,Int.cast_ofNat_Int] at h1 h2
  have e1:decide ((0:Int)<(v.l.length:Int))= !decide (v.l= []):=by cases v.l<;>simp
  have e2:decide ((0:Int)<(v.f.length:Int))= !decide (v.f= []):=by cases v.f<;>simp
  have e3:decide ((64:Int)<(v.l.length:Int))= !decide (v.l.length≤64):=by rw [Bool.eq_iff_iff];simp;omega
  have e4:decide ((64:Int)<(v.f.length:Int))= !decide (v.f.length≤64):=by rw [Bool.eq_iff_iff];simp;omega
  rw [Aji]
  simp only [O.eq_int,hd0,decide_false,Option.bind_some,O.Ab,Bool.false_eq_true,if_false,Ak7 v hv,O.Ag,O.A3,Aw,Ap,Val.Bt,Val.Ce,Val.C4,O.C8,O.Ao,List.length_map,O.Bj,e1,e2,e3,e4,h1,h2]
  unfold Bl
  have hpn:E4 v.f 0=none:=rfl
  rw [hpn,Zq]
  generalize v.l.all (Bl d)=A at *
  generalize (v.f.all fun p=>Cf p.1&&Bl d p.2)=B at *
  generalize rising v.f=C at *
  generalize Eu v=D
  clear h1 h2
  have p4:(if (!decide (v.k=4))=true then !decide (v.l= []) else false)= !decide (v.k≠4→v.l= []):=by by_cases c:v.k=4<;>simp [c]
  have p5:(if (!decide (v.k=5))=true then !decide (v.f= []) else false)= !decide (v.k≠5→v.f= []):=by by_cases c:v.k=5<;>simp [c]
  rw [p4,p5,show decide (v.l.length≤64∧v.f.length≤64∧(v.k≠4→v.l= [])∧(v.k≠5→v.f= []))=(decide (v.l.length≤64)&&(decide (v.f.length≤64)&&(decide (v.k≠4→v.l= [])&&decide (v.k≠5→v.f= [])))) by simp only [Bool.decide_and]]
  generalize decide (v.l.length≤64)=b1
  generalize decide (v.f.length≤64)=b2
  generalize decide (v.k≠4→v.l= [])=b3
  generalize decide (v.k≠5→v.f= [])=b4
  cases D<;>cases b1<;>cases b2<;>cases b3<;>cases b4<;>cases A<;>cases B<;>cases C<;>rfl
theorem Ys (v:Val) (hv:v.Au≤1099511627776) (ih: ∀p∈v.f,W F24 0 [p.2.enc]=some [.int p.2.size]): ∀ (n i c:Nat),i+n=v.f.length→c+Bn (v.f.drop i)≤4611686018427387904→
  W F24 2 [.int c,.list (v.f.map Fld.enc),.int v.f.length,.int i]=some [.int ((c+Bn (v.f.drop i):Nat):Int)]
 | 0,i,c,h,hc=>by
  rw [Al3]
  have h1: ¬ i<v.f.length:=by omega
  simp [h1,List.drop_of_length_le (Nat.le_of_not_lt h1),Bn]
 | n+1,i,c,h,hc=>by
  have hi:i<v.f.length:=by omega
  have hm:=v.Ba
  have hw:=A8 (i:=i) (by omega)
  have hd:Bn (v.f.drop i)=v.f[i].2.size +Bn (v.f.drop (i+1)):=by rw [List.drop_eq_getElem_cons hi];rfl
  have hw2:IntKind.i64.wrap ((c:Int)+(v.f[i].2.size :Int))=((c+v.f[i].2.size :Nat):Int):=by rw [wrap64 (by omega) (by omega)];rfl
  rw [Al3]
  simp only [Option.bind_some,O.Ai,Al,hi,decide_true,O.Ab,if_true,O.Aj,Int.natCast_nonneg,Int.toNat_natCast,List.getElem?_map,List.getElem?_eq_getElem hi,Option.map_some,Fld.Mi,ih _ (List.getElem_mem hi),O.Ag,O.Am,hw,hw2]
  rw [Ys v hv ih n (i+1) _ (by omega) (by omega),hd,Nat.add_assoc]
theorem Aao (v:Val) (hv:v.Au≤1099511627776) (ih: ∀x∈v.l,W F24 0 [x.enc]=some [.int x.size]): ∀ (n i c:Nat),i+n=v.l.length→c+Cb (v.l.drop i)≤4611686018427387904→
  W F24 1 [.int c,.list (v.l.map Val.enc),.int v.l.length,.int i,v.enc]=W F24 2 [.int ((c+Cb (v.l.drop i):Nat):Int),.list (v.f.map Fld.enc),.int v.f.length,.int 0]
 | 0,i,c,h,hc=>by
  rw [Akn]
  have h1: ¬ i<v.l.length:=by omega
  simp [h1,List.drop_of_length_le (Nat.le_of_not_lt h1),Cb]
 | n+1,i,c,h,hc=>by
  have hi:i<v.l.length:=by omega
  have hm:=v.Dm
  have hw:=A8 (i:=i) (by omega)
  have hd:Cb (v.l.drop i)=v.l[i].size +Cb (v.l.drop (i+1)):=by rw [List.drop_eq_getElem_cons hi];rfl
  have hw2:IntKind.i64.wrap ((c:Int)+(v.l[i].size :Int))=((c+v.l[i].size :Nat):Int):=by rw [wrap64 (by omega) (by omega)];rfl
  rw [Akn]
  simp only [Option.bind_some,O.Ai,Al,hi,decide_true,O.Ab,if_true,O.Aj,Int.natCast_nonneg,Int.toNat_natCast,List.getElem?_map,List.getElem?_eq_getElem hi,Option.map_some,ih _ (List.getElem_mem hi),O.Ag,O.Am,hw,hw2]
  rw [Aao v hv ih n (i+1) _ (by omega) (by omega),hd,Nat.add_assoc]
theorem Aw1: ∀v:Val,v.Au≤1099511627776→W F24 0 [v.enc]=some [.int v.size]:=by
 refine Val.ind fun v ih1 ih2 hv=>?_
 have hsz:=v.Gy
 have hs:=v.size_eq
 have h1:=Aao v hv (fun x hx=>ih1 x hx (by have:=Val.Ir hx;omega)) v.l.length 0 1 (by omega) (by simp only [List.drop_zero];omega)
 have h2:=Ys v hv (fun p hp=>ih2 p hp (by have:=Val.Dz hp;omega)) v.f.length 0 (1+Cb v.l) (by omega) (by simp only [List.drop_zero];omega)
 simp only [List.drop_zero,Int.cast_ofNat_Int] at h1 h2
 rw [Atf]
 simp only [Val.Ce,Option.bind_some,O.Ao,List.length_map]
 have h1':W F24 1 [.int 1,.list (v.l.map Val.enc),.int v.l.length,.int 0,v.enc]=W F24 2 [.int ((1+Cb v.l:Nat):Int),.list (v.f.map Fld.enc),.int v.f.length,.int 0]:=h1
 rw [h1',h2,hs]
theorem Nu (v:Val) (hv:v.Au≤1099511627776):W F19 0 [v.enc]=some [.bool v.valid]:=by
 rw [Awf]
 have h1:=Xv 12 v (by omega) hv
 have h2:=Aw1 v hv
 simp only [Int.cast_ofNat_Int] at h1
 simp only [h1,h2,O.Ag,O.Ab,O.D1,Option.bind_some,Val.valid]
 have:decide ((v.size:Int)≤600)=decide (v.size≤600):=by simp;omega
 cases Bl 12 v<;>simp [this]
end Go.CT.Sch
namespace Go.CT.Sch
open Go.Proofs
def nmR (r:Int):Bool:=decide (97≤r∧r≤122)||decide (65≤r∧r≤90)||decide (48≤r∧r≤57)||decide (r=45)||decide (r=95)||decide (r=47)
theorem Aw3 (r:Int):W F58 0 [.int r]=some [.bool (nmR r)]:=by
 rw [Atz]
 simp only [O.Ek,O.D1,O.eq_int,Option.bind_some,O.Ab,Aw,Ap]
 congr 3
 unfold nmR
 rw [Bool.eq_iff_iff]
 simp
theorem Afx (c:UInt8):nmR c.toNat=Bg c:=by
 unfold nmR Bg
 rw [Bool.eq_iff_iff]
 simp
 omega
theorem Agc {r:Int} (h:128≤r):nmR r=false:=by
 unfold nmR
 simp
 omega
theorem Anc {c:UInt8} (h:128≤c.toNat):Bg c=false:=by
 rw [←Afx];exact Agc (by omega)
theorem Z8 (s:ByteArray) (hs:s.size≤1099511627776): ∀ (n i:Nat),i+n=s.size→W F57 1 [.str s,.str s,.int i]=some [.bool ((s.data.toList.drop i).all Bg&&decide (1≤s.size∧s.size≤40))]
 | 0,i,h=>by
  have h1: ¬ i<s.size:=by omega
  have h2:s.data.toList.drop i= []:=List.drop_of_length_le (by simp;omega)
  rw [Akp]
  simp only [O.Um h1,O.Ve h1,O.Qp h1,Option.bind_some,O.Ab,Bool.false_eq_true,if_false,O.Ja,O.A6,O.D1,Aw,Ap,h2,List.all_nil,Bool.true_and]
  congr 3
  have e:s=(⟨#[]⟩:ByteArray)↔s.size=0:=by
   constructor
   ·rintro rfl;rfl
   ·intro h0
    apply Gx
    have:s.data.toList.length=0:=by simpa using h0
    rw [List.length_eq_zero_iff.1 this]
  by_cases c:s.size=0
  ·simp [e,c]
  ·have c1:1≤s.size:=by omega
   rw [Bool.eq_iff_iff]
   simp [e,c,c1]
   omega
 | n+1,i,h=>by
  have hi:i<s.size:=by omega
  rw [Akp,Gv hi]
  simp only [O.Aal hi,O.Aa3 hi,O.Sc hi,Option.bind_some,O.Ab,if_true,O.Aaw,Aw3,O.Ag,O.A3,List.all_cons]
  by_cases hb:s[i].toNat <128
  ·have ih:=Z8 s hs n (i+1) (by omega)
   rw [Uw hi hb]
   simp only [Afx]
   cases Bg s[i] with
   | true=>simpa using ih
   | false=>simp
  ·have hd:=decode_high hi (by omega)
   rw [Agc (by omega),Anc (by omega)]
   simp
theorem Au3 (s:ByteArray) (hs:s.size≤1099511627776):W F57 0 [.str s]=some [.bool (Cf s)]:=by
 rw [At5];exact Z8 s hs s.size 0 (by omega)
theorem Abe (s:ByteArray):(Val.mk 3 0 s [] []).valid =I2 s:=by
 unfold Val.valid Bl
 simp [Eu,rising,Val.size,Cb,Bn]
theorem Auu (s:Stp) (hs:s.fits):W F56 0 [s.enc]=some [.bool (Du s)]:=by
 have h1:=Au3 s.nm (Nat.le_trans hs.1 (by decide))
 have h2:=Nu ⟨3,0,s.vl,[],[]⟩ (by
  have:=hs.2
  rw [Val.Bp];simp [Gg,Eg];omega)
 rw [Abe] at h2
 have e:IV.agg [.int 3,.int 0,.str s.vl,.list [],.list []]=Val.enc ⟨3,0,s.vl,[],[]⟩:=rfl
 rw [Avu]
 simp only [Stp.Bt,Stp.C3,Stp.D3,Stp.Ce,Option.bind_some,O.eq_int,O.Ab,h1,O.Ag,O.Ek,O.D1,O.E0,Aw,Ap,Cs,Adk,O.Gb,O.Br,e,h2]
 unfold Du
 by_cases k1:s.k=1
 ·simp only [k1,decide_true,if_true]
  cases Cf s.nm<;>simp
 ·by_cases k2:s.k=2
  ·simp only [k2,decide_true,decide_false,Bool.false_eq_true,if_true,if_false]
   by_cases e1:0≤s.ix<;>by_cases e2:s.ix≤64<;>by_cases e3:s.nm=Ar<;>simp [e1,e2,e3]
  ·simp only [k1,k2,decide_false,Bool.false_eq_true,if_false]
   by_cases k3:s.k=3
   ·simp only [k3,decide_true,if_true]
    cases Cf s.nm<;>cases I2 s.vl<;>simp
   ·simp [k3]
theorem Agm (p:List Stp) (hp: ∀s∈p,s.fits) (hl:p.length≤1099511627776): ∀ (n i:Nat),i+n=p.length→
  ∃r:Int,W F54 1 [.list (p.map Stp.enc),.int p.length,.int i]=some [.int r]∧decide (0≤r)= !(p.drop i).all Du
 | 0,i,h=>by
  have h1: ¬ i<p.length:=by omega
  have h2:p.drop i= []:=List.drop_of_length_le (by omega)
  rw [Ako]
  simp only [O.Ai,Al,h1,decide_false,Option.bind_some,O.Ab,Bool.false_eq_true,if_false,h2]
  exact ⟨-1,rfl,rfl⟩
 | n+1,i,h=>by
  have hi:i<p.length:=by omega
  have hw:=A8 (i:=i) (by omega)
  obtain ⟨r,hr,hr2⟩:=Agm p hp hl n (i+1) (by omega)
  rw [Ako,List.drop_eq_getElem_cons hi]
  simp only [O.Ai,Al,hi,decide_true,Option.bind_some,O.Ab,if_true,O.Aj,Int.natCast_nonneg,Int.toNat_natCast,List.getElem?_map,List.getElem?_eq_getElem hi,Option.map_some,Att,Auu _ (hp _ (List.getElem_mem hi)),O.Ag,O.A3,O.Am,hw,hr,List.all_cons]
  cases Du p[i] with
  | true=>exact ⟨r,by simp,by simpa using hr2⟩
  | false=>exact ⟨i,by simp,by simp⟩
theorem Aec (p:List Stp) (hp: ∀s∈p,s.fits) (hl:p.length≤1099511627776):W F52 0 [.list (p.map Stp.enc)]=some [.bool (Ez p)]:=by
 obtain ⟨r,hr,hr2⟩:=Agm p hp hl p.length 0 (by omega)
 have hr':W F54 0 [.list (p.map Stp.enc)]=some [.int r]:=by
  rw [Auc]
  simp only [O.Ao,List.length_map,Option.bind_some]
  exact hr
 rw [Atu]
 simp only [O.Ao,List.length_map,Option.bind_some,O.D1,O.Ab,Auk,hr',O.Ag,O.Ek,hr2,O.A3,List.drop_zero,Bool.not_not]
 unfold Ez
 have:decide ((p.length:Int)≤16)=decide (p.length≤16):=by simp;omega
 rw [this]
 by_cases c:p.length≤16<;>simp [c]
theorem Q7 (s:ByteArray) (c:UInt8) (hs:s.size≤1000000):W F59 0 [.list (Bw s),.int c.toNat]=some [.list (Bw (s++bsL [c]))]:=by
 rw [Av0]
 have h:((Bw s).length + [IV.int (c.toNat:Int)].length) * 1≤Az:=by rw [O.Je];simp;unfold Az;omega
 simp only [Awz,O.Ig,O.Ag,O.B8,Option.bind_some,O.Bm,h,if_true,O.I6]
 rfl
theorem Rv (s t:ByteArray) (hs:s.size≤1000000) (ht:t.size≤1000000): ∃n,W F62 0 [.list (Bw s),.str t]=some [n,.list (Bw (s++t))]:=by
 rw [Awo]
 have h:(Bw s).length +t.size≤Az:=by rw [O.Je];unfold Az;omega
 simp only [Awz,O.Ig,O.Ag,O.Acp h,Option.bind_some,O.A6,O.I6]
 exact ⟨_,rfl⟩
theorem Afq (s:ByteArray) (c:UInt8) (hc:c.toNat<128) (hs:s.size≤1000000): ∃n,W F65 0 [.list (Bw s),.int c.toNat]=some [n,.list (Bw (s++bsL [c]))]:=by
 rw [Atj]
 have h:((Bw s).length + [IV.int (c.toNat:Int)].length) * 1≤Az:=by rw [O.Je];simp;unfold Az;omega
 have w1:IntKind.u32.wrap (c.toNat:Int)=c.toNat:=by
  unfold IntKind.wrap
  simp [IntKind.signed,IntKind.bits]
  omega
 have w2:IntKind.u8.wrap (c.toNat:Int)=c.toNat:=by
  unfold IntKind.wrap
  simp [IntKind.signed,IntKind.bits]
  omega
 have w3:decide ((c.toNat:Int)≤127)=true:=by simp;omega
 simp only [Awz,O.Ig,O.Ag,O.Ao,Option.bind_some,Aty,O.Ow,w1,w2,O.D1,w3,O.Ab,if_true,O.B8,O.Bm,h,O.I6,O.Bv]
 exact ⟨_,rfl⟩
theorem Aie {c:UInt8} (h:Hk c=true):c.toNat<128:=by
 unfold Hk at h
 simp at h
 omega
theorem U0 (s:ByteArray) (hs:s.size≤200) (ho: ∀c∈s.data.toList,Hk c=true): ∀ (n i:Nat) (o:ByteArray),i+n=s.size→o.size≤1+2 * i→W F63 1 [.str s,.int i,.list (Bw o)]=some [.str (o++bsL ((s.data.toList.drop i).flatMap Kr++ [34]))]
 | 0,i,o,h,ho'=>by
  have h1: ¬ i<s.size:=by omega
  have h2:s.data.toList.drop i= []:=List.drop_of_length_le (by simp;omega)
  have hb:=Q7 o 34 (by omega)
  rw [Akk]
  simp only [O.Um h1,O.Ve h1,O.Qp h1,Option.bind_some,O.Ab,Bool.false_eq_true,if_false]
  rw [show (IV.int 34)=IV.int ((34:UInt8).toNat :Int) from rfl,hb]
  simp only [O.Ag,Ayb,O.Oo,h2,List.flatMap_nil,List.nil_append]
 | n+1,i,o,h,ho'=>by
  have hi:i<s.size:=by omega
  have hc:=ho s[i] (by rw [show s[i]=s.data.toList[i]'(by simpa using hi) from rfl];exact List.getElem_mem _)
  have hlow:=Aie hc
  have next: ∀a:List UInt8,a.length≤2→Kr s[i]=a→W F63 3 [.str s,.int ((i+1:Nat):Int),.list (Bw (o++bsL a))]=some [.str (o++bsL ((s.data.toList.drop i).flatMap Kr++ [34]))]:=by
   intro a ha he
   rw [Au5]
   rw [U0 s hs ho n (i+1) _ (by omega) (by rw [ByteArray.size_append,Bq];omega),Gv hi,List.flatMap_cons,he,List.append_assoc,Ef a,ByteArray.append_assoc]
  rw [Akk]
  simp only [O.Aal hi,O.Aa3 hi,O.Sc hi,Uw hi hlow,Option.bind_some,O.Ab,if_true,O.Aaw,O.eq_int]
  have two:s[i].toNat =34∨s[i].toNat =92→W F63 2 [.int s[i].toNat,.int s[i].toNat,.bool true,.str s,.int ((i+1:Nat):Int),.list (Bw o)]=some [.str (o++bsL ((s.data.toList.drop i).flatMap Kr++ [34]))]:=by
   intro h2
   rw [Alo]
   have hb:=Q7 o 92 (by omega)
   obtain ⟨m,hr⟩:=Afq (o++bsL [92]) s[i] hlow (by rw [ByteArray.size_append,Bq];simp;omega)
   simp only [O.Ab,if_true]
   rw [show (IV.int 92)=IV.int ((92:UInt8).toNat :Int) from rfl,hb]
   simp only [O.Ag,hr,O.Dc]
   rw [ByteArray.append_assoc,←Ef]
   exact next [92,s[i]] (by simp) (by unfold Kr;rw [if_neg (by omega),if_pos h2])
  by_cases c1:s[i].toNat =34
  ·have c1':decide ((s[i].toNat :Int)=34)=true:=by simp;omega
   simp only [c1',if_true]
   exact two (.inl c1)
  ·have c1':decide ((s[i].toNat :Int)=34)=false:=by simp;omega
   simp only [c1',Bool.false_eq_true,if_false]
   by_cases c2:s[i].toNat =92
   ·have c2':decide ((s[i].toNat :Int)=92)=true:=by simp;omega
    simp only [c2']
    exact two (.inr c2)
   ·have c2':decide ((s[i].toNat :Int)=92)=false:=by simp;omega
    simp only [c2']
    rw [Alo]
    simp only [O.Ab,Bool.false_eq_true,if_false,O.eq_int,Option.bind_some]
    by_cases c3:s[i].toNat =10
    ·have c3':decide ((s[i].toNat :Int)=10)=true:=by simp;omega
     simp only [c3',if_true]
     obtain ⟨m,hr⟩:=Rv o (bsL [92,110]) (by omega) (by rw [Bq];simp)
     rw [show (ByteArray.mk #[92,110])=bsL [92,110] from rfl]
     simp only [hr,O.Dc]
     exact next [92,110] (by simp) (by unfold Kr;rw [if_pos c3])
    ·have c3':decide ((s[i].toNat :Int)=10)=false:=by simp;omega
     simp only [c3',Bool.false_eq_true,if_false]
     obtain ⟨m,hr⟩:=Afq o s[i] hlow (by omega)
     simp only [hr,O.Dc]
     exact next [s[i]] (by simp) (by unfold Kr;rw [if_neg c3,if_neg (by omega)])
theorem Ap4 (s:ByteArray) (h:I2 s=true):W F63 0 [.str s]=some [.str (Kn s)]:=by
 have hs:=Pp h
 unfold I2 at h
 simp only [Bool.and_eq_true,List.all_eq_true] at h
 rw [Avj]
 have hb:=Q7 Ar 34 (by decide)
 rw [show (IV.list [])=IV.list (Bw Ar) from rfl,show (IV.int 34)=IV.int ((34:UInt8).toNat :Int) from rfl,hb]
 simp only [O.Ag,Gr]
 rw [show (IV.int 0)=IV.int ((0:Nat):Int) from rfl,U0 s hs h.1 s.size 0 _ (by omega) (by rw [Bq];simp),←Ef]
 rfl
theorem Un (p:List Stp) (hp: ∀s∈p,Du s=true) (hl:p.length≤16): ∀ (n i:Nat) (o:ByteArray),i+n=p.length→o.size≤500 * i→W F51 1 [.list (p.map Stp.enc),.int p.length,.int i,.list (Bw o)]=some [.str (o++Gf (decide (i=0)) (p.drop i)),.int 0]
 | 0,i,o,h,ho=>by
  have h1: ¬ i<p.length:=by omega
  have h2:p.drop i= []:=List.drop_of_length_le (by omega)
  rw [Ajc]
  simp only [Option.bind_some,O.Ai,Al,h1,decide_false,O.Ab,Bool.false_eq_true,if_false,h2,Gf,O2,Ayb,O.Oo,O.Ag]
 | n+1,i,o,h,ho=>by
  have hi:i<p.length:=by omega
  have hw:=A8 (i:=i) (by omega)
  have hok:=hp _ (List.getElem_mem hi)
  obtain ⟨g1,g2,g3,g4,g5⟩:=D4 hok
  have e: ∀c:UInt8,(bsL [c]).size =1:=fun c=>by rw [Bq];rfl
  have next: ∀t:ByteArray,Gt (decide (i=0)) p[i]=t→W F51 3 [.list (p.map Stp.enc),.int p.length,.int i,.list (Bw (o++t))]=some [.str (o++Gf (decide (i=0)) (p.drop i)),.int 0]:=by
   intro t ht
   have hz:(Gt (decide (i=0)) p[i]).size ≤500:=P3 hok
   rw [Avb]
   simp only [O.Am,hw,Option.bind_some]
   rw [Un p hp hl n (i+1) (o++t) (by omega) (by rw [ByteArray.size_append,←ht];omega),List.drop_eq_getElem_cons hi,Gf,ht,ByteArray.append_assoc]
   rfl
  rw [Ajc]
  simp only [Option.bind_some,O.Ai,Al,hi,decide_true,O.Ab,if_true,O.Aj,Int.natCast_nonneg,Int.toNat_natCast,List.getElem?_map,List.getElem?_eq_getElem hi,Option.map_some,Stp.Bt,Stp.C3,Stp.D3,Stp.Ce,O.eq_int,O.Bj]
  rw [show (ByteArray.mk #[91])=bsL [91] from rfl,show (ByteArray.mk #[93])=bsL [93] from rfl,show (ByteArray.mk #[61])=bsL [61] from rfl,show (IV.int 46)=IV.int ((46:UInt8).toNat :Int) from rfl]
  rcases g5 with k1 | k2 | k3
  ·simp only [k1,decide_true,if_true]
   by_cases hz:i=0
   ·have hz': ¬ (0:Int)<i:=by omega
    obtain ⟨m,hr⟩:=Rv o p[i].nm (by omega) (by omega)
    simp only [hz',decide_false,Bool.false_eq_true,if_false]
    rw [Ak4]
    simp only [Stp.C3,Option.bind_some,hr,O.Dc]
    exact next _ (by unfold Gt;rw [if_neg (by omega),if_neg (by omega),if_pos (by simpa using hz)])
   ·have hz':(0:Int)<i:=by omega
    obtain ⟨m,hr⟩:=Rv (o++bsL [46]) p[i].nm (by rw [ByteArray.size_append,e];omega) (by omega)
    simp only [hz',decide_true,if_true,Q7 o 46 (by omega),O.Ag]
    rw [Ak4]
    simp only [Stp.C3,Option.bind_some,hr,O.Dc,ByteArray.append_assoc]
    exact next _ (by unfold Gt;rw [if_neg (by omega),if_neg (by omega),if_neg (by simpa using hz)])
  ·obtain ⟨x,hx⟩:=Int.eq_ofNat_of_zero_le (g3 k2).1
   have hx2:=(g3 k2).2
   rw [hx] at hx2
   have hd:W F61 0 [.int p[i].ix]=some [.str (O.Jt p[i].ix.toNat)]:=by
    rw [Azu,hx,O.Aq5 x (by omega)];rfl
   have hd2:=Pn p[i].ix.toNat
   have k1:decide (p[i].k =1)=false:=by rw [k2];rfl
   simp only [k1,k2,decide_true,Bool.false_eq_true,if_false,if_true,hd,O.Ag]
   rw [Ed (by rw [e];omega) (by omega)]
   simp only [Option.bind_some]
   rw [Ed (by rw [ByteArray.size_append,e];omega) (by rw [e];omega)]
   obtain ⟨m,hr⟩:=Rv o (bsL [91]++O.Jt p[i].ix.toNat ++bsL [93]) (by omega) (by rw [ByteArray.size_append,ByteArray.size_append,e,e];omega)
   simp only [Option.bind_some,hr,O.Dc]
   exact next _ (by unfold Gt;rw [if_pos k2])
  ·have hd:=Ap4 p[i].vl (g4 k3)
   have hd2:=Mw p[i].vl
   have k1:decide (p[i].k =1)=false:=by rw [k3];rfl
   have k2:decide (p[i].k =2)=false:=by rw [k3];rfl
   simp only [k1,k2,k3,decide_true,Bool.false_eq_true,if_false,if_true]
   rw [Ed (by rw [e];omega) (by omega)]
   simp only [Option.bind_some]
   rw [Ed (by rw [ByteArray.size_append,e];omega) (by rw [e];omega)]
   simp only [Option.bind_some,hd,O.Ag]
   rw [Ed (by rw [ByteArray.size_append,ByteArray.size_append,e,e];omega) (by omega)]
   simp only [Option.bind_some]
   rw [Ed (by rw [ByteArray.size_append,ByteArray.size_append,ByteArray.size_append,e,e];omega) (by rw [e];omega)]
   obtain ⟨m,hr⟩:=Rv o (bsL [91]++p[i].nm ++bsL [61]++Kn p[i].vl ++bsL [93]) (by omega) (by simp only [ByteArray.size_append,e];omega)
   simp only [Option.bind_some,hr,O.Dc]
   exact next _ (by unfold Gt;rw [if_neg (by omega),if_pos k3])
theorem Yb (p:List Stp) (hp: ∀s∈p,s.fits) (hl:p.length≤1099511627776):W F51 0 [.list (p.map Stp.enc)]=some [.str (G8 p),.int (Agw p)]:=by
 rw [Avt]
 unfold G8 Agw
 cases hb:Ez p with
 | false=>simp only [Aec p hp hl,hb,O.Ag,O.A3,Option.bind_some,Bool.not_false,O.Ab,if_true];rfl
 | true=>
  simp only [Aec p hp hl,hb,O.Ag,O.A3,Option.bind_some,Bool.not_true,O.Ab,Bool.false_eq_true,if_false,if_true,O.Ao,List.length_map]
  unfold Ez at hb
  simp only [Bool.and_eq_true,decide_eq_true_eq,List.all_eq_true] at hb
  have:=Un p hb.1 hb.2 p.length 0 Ar (by omega) (Nat.le_refl _)
  rw [Gr] at this
  exact this
end Go.CT.Sch
namespace Go.CT.Sch
open Go.Proofs
def Bb:Val:=⟨0,0,Ar,[],[]⟩
def Le (o:Option Val):List IV:= [.int (o.getD Bb).k,.int (o.getD Bb).n,.str (o.getD Bb).s,.list ((o.getD Bb).l.map Val.enc),.list ((o.getD Bb).f.map Fld.enc),.bool o.isSome]
theorem Z9 {n b:Nat} (hn:n≤1099511627776) (hb:b≤127):n * b≤Az:=by
 have:n * b≤1099511627776 * 127:=Nat.mul_le_mul hn hb
 unfold Az;omega
theorem Yc {α:Type} (l:List α) {i:Nat} (h:i<l.length):l.take i++ [l[i]]=l.take (i+1):=by
 rw [List.take_add_one,List.getElem?_eq_getElem h];rfl
theorem Ta (v:Val) (hv:Ht 1099511627776 v) (y2 y3 y4 y5 y6 y7 y8:IV) (ih: ∀p∈v.f,W F9 0 [p.2.enc]=some p.2.Hz): ∀ (n i:Nat),i+n=v.f.length→
  W F9 2 [.int i,v.enc,y2,y3,y4,y5,y6,y7,y8,.list ((v.f.take i).map Fld.enc)]=some [y5,y6,y7,y8,.list (v.f.map Fld.enc)]
 | 0,i,h=>by
  rw [Ark]
  have h1: ¬ i<v.f.length:=by omega
  simp only [Val.C4,Option.bind_some,O.Ao,List.length_map,O.Ai,Al,h1,decide_false,O.Ab,Bool.false_eq_true,if_false,List.take_of_length_le (Nat.le_of_not_lt h1)]
 | n+1,i,h=>by
  have hi:i<v.f.length:=by omega
  have hm:=hv.Pk
  have hw:=A8 (i:=i) (by omega)
  have:=Ta v hv y2 y3 y4 y5 y6 y7 y8 ih n (i+1) (by omega)
  have hap:((v.f.take i).length +1) * 96≤Az:=Z9 (by rw [List.length_take];omega) (by omega)
  rw [Ark]
  simp only [Val.C4,Option.bind_some,O.Ao,List.length_map,O.Ai,Al,hi,decide_true,O.Ab,if_true,O.Aj,Int.natCast_nonneg,Int.toNat_natCast,List.getElem?_map,List.getElem?_eq_getElem hi,Option.map_some,Fld.Bt,Fld.Mi,ih _ (List.getElem_mem hi),Val.Cm,O.Gb,O.Br,Fld.H8,O.B8,O.Bm,List.length_singleton,hap,O.Am,hw]
  rw [←Yc v.f hi,List.map_append] at this
  exact this
theorem Rw (v:Val) (hv:Ht 1099511627776 v) (y2 y3 y4 y5 y6 y7:IV) (ih: ∀x∈v.l,W F9 0 [x.enc]=some x.Hz): ∀ (n i:Nat),i+n=v.l.length→
  W F9 1 [.int i,v.enc,y2,y3,y4,y5,y6,y7,.list ((v.l.take i).map Val.enc)]=W F9 2 [.int 0,v.enc,y2,y3,y4,y5,y6,y7,.list (v.l.map Val.enc),.list []]
 | 0,i,h=>by
  rw [Asn]
  have h1: ¬ i<v.l.length:=by omega
  simp only [Val.Ce,Option.bind_some,O.Ao,List.length_map,O.Ai,Al,h1,decide_false,O.Ab,Bool.false_eq_true,if_false,List.take_of_length_le (Nat.le_of_not_lt h1)]
 | n+1,i,h=>by
  have hi:i<v.l.length:=by omega
  have hm:=hv.Zj
  have hw:=A8 (i:=i) (by omega)
  have:=Rw v hv y2 y3 y4 y5 y6 y7 ih n (i+1) (by omega)
  have hap:((v.l.take i).length +1) * 80≤Az:=Z9 (by rw [List.length_take];omega) (by omega)
  rw [Asn]
  simp only [Val.Ce,Option.bind_some,O.Ao,List.length_map,O.Ai,Al,hi,decide_true,O.Ab,if_true,O.Aj,Int.natCast_nonneg,Int.toNat_natCast,List.getElem?_map,List.getElem?_eq_getElem hi,Option.map_some,ih _ (List.getElem_mem hi),Val.Cm,O.Gb,O.Br,Val.H8,O.B8,O.Bm,List.length_singleton,hap,O.Am,hw]
  rw [←Yc v.l hi,List.map_append] at this
  exact this
theorem Ak8: ∀v:Val,Ht 1099511627776 v→W F9 0 [v.enc]=some v.Hz:=by
 refine Val.ind fun v ih1 ih2 hv=>?_
 have h1:=Rw v hv (.int 0) (.int 0) (.str ⟨#[]⟩) (.int v.k) (.int v.n) (.str v.s) (fun x hx=>ih1 x hx (hv.Ahk hx)) v.l.length 0 (by omega)
 have h2:=Ta v hv (.int 0) (.int 0) (.str ⟨#[]⟩) (.int v.k) (.int v.n) (.str v.s) (.list (v.l.map Val.enc)) (fun p hp=>ih2 p hp (hv.Sz hp)) v.f.length 0 (by omega)
 simp only [List.take_zero,List.map_nil,Int.cast_ofNat_Int] at h1 h2
 rw [Ax3]
 simp only [Val.Bt,Val.C3,Val.D3,Option.bind_some]
 rw [h1,h2,Val.Cm]
theorem Vc (v:Val) (nm:ByteArray) (hv:Ht 1099511627776 v) (y3 y4 y5:IV): ∀ (n i:Nat),i+n=v.f.length→
  W Apt 1 [.str nm,.int i,v.enc,y3,y4,y5]=some (Le (((v.f.drop i).find? fun p=>decide (p.1=nm)).map (·.2)))
 | 0,i,h=>by
  rw [Afe]
  have h1: ¬ i<v.f.length:=by omega
  simp [h1,List.drop_of_length_le (Nat.le_of_not_lt h1),Le,Bb,Ar]
 | n+1,i,h=>by
  have hi:i<v.f.length:=by omega
  have hm:=hv.Pk
  have hw:=A8 (i:=i) (by omega)
  have:=Vc v nm hv y3 y4 y5 n (i+1) (by omega)
  have hmem:=List.getElem_mem hi
  rw [Afe,List.drop_eq_getElem_cons hi]
  simp only [Val.C4,Option.bind_some,O.Ao,List.length_map,O.Ai,Al,hi,decide_true,O.Ab,if_true,O.Aj,Int.natCast_nonneg,Int.toNat_natCast,List.getElem?_map,List.getElem?_eq_getElem hi,Option.map_some,Fld.Bt,Fld.Mi,O.E0,Ak8 v.f[i].2 (hv.Sz hmem),Val.Cm,O.Gb,O.Am,hw,this,List.find?_cons]
  by_cases c:v.f[i].1 =nm
  ·simp [c,Le]
  ·have c':decide (v.f[i].1 =nm)=false:=by simpa using c
   simp only [c,c',decide_false,Bool.false_eq_true,if_false]
theorem Ao6 (v:Val) (nm:ByteArray) (hv:Ht 1099511627776 v):W Apt 0 [v.enc,.str nm]=some (Le (v.get nm)):=by
 rw [Anx]
 unfold Val.get
 have:=Vc v nm hv (.int 0) (.int 0) (.str ⟨#[]⟩) v.f.length 0 (by omega)
 simp only [List.drop_zero,Int.cast_ofNat_Int] at this
 simp only [Val.Bt,Option.bind_some,O.eq_int,O.Ab,this]
 by_cases c:v.k=5<;>simp [c,Le,Bb,Ar]
def D7 (v:Val) (nm:ByteArray):List (ByteArray × Val):=if v.k=5 then v.f.filter (fun p=> !decide (p.1=nm)) else []
def O8 (p:ByteArray × Val):Bool→List (ByteArray × Val)→List (ByteArray × Val)
 | done,[]=>if done then [] else [p]
 | done,x::xs=>(if !done && !blt x.1 p.1 then [p] else [])++(if x.1=p.1 then [] else [x])++O8 p (done|| !blt x.1 p.1) xs
theorem Xy (p:ByteArray × Val): ∀ (l:List (ByteArray × Val)) (d:Bool),(O8 p d l).length ≤l.length+1
 | [],d=>by cases d<;>simp [O8]
 | x::xs,true=>by
  simp only [O8,Bool.not_true,Bool.false_and,Bool.false_eq_true,if_false,List.nil_append,Bool.true_or,List.length_append]
  have:(O8 p true xs).length ≤xs.length:=by
   have key: ∀l,(O8 p true l).length ≤l.length:=by
    intro l
    induction l with
    | nil=>simp [O8]
    | cons y ys ih=>
     simp only [O8,Bool.not_true,Bool.false_and,Bool.false_eq_true,if_false,List.nil_append,Bool.true_or,List.length_append,List.length_cons]
     split<;>simp<;>omega
   exact key xs
  split<;>simp<;>omega
 | x::xs,false=>by
  have h1:=Xy p xs true
  have h2:=Xy p xs false
  have key: ∀l,(O8 p true l).length ≤l.length:=by
   intro l
   induction l with
   | nil=>simp [O8]
   | cons y ys ih=>
    simp only [O8,Bool.not_true,Bool.false_and,Bool.false_eq_true,if_false,List.nil_append,Bool.true_or,List.length_append,List.length_cons]
    split<;>simp<;>omega
  have h3:=key xs
  simp only [O8,Bool.not_false,Bool.true_and,Bool.false_or,List.length_append,List.length_cons]
  cases blt x.1 p.1<;>simp<;>split<;>simp<;>omega
def Ub (l:List (ByteArray × Val)):List (ByteArray × Val):=l.foldl (fun acc p=>O8 p false acc) []
theorem J4 (q:ByteArray × Val→Bool): ∀l:List (ByteArray × Val),Cp (l.filter q)≤Cp l
 | []=>by simp
 | p::l=>by
  have:=J4 q l
  rw [List.filter_cons]
  split
  ·rw [B6,B6];omega
  ·rw [B6];omega
def G5 (v:Val) (nm:ByteArray) (x:Val):Val:=⟨5,0,Ar,[],Ub (D7 v nm++ [(nm,x)])⟩
theorem S9 {N:Nat} {v:Val} (h:Ht N v) (nm:ByteArray):Ah1 N (D7 v nm):=by
 unfold D7
 split
 ·exact ⟨Nat.le_trans (List.length_filter_le _ _) h.Pk,fun p hp=>h.Sz (List.mem_filter.1 hp).1⟩
 ·exact ⟨Nat.zero_le _,by simp⟩
theorem Am2 (v:Val) (nm:ByteArray) (hv:v.Au≤1099511627776):W Apt 0 [v.enc,.str nm]=some (Le (v.get nm)):=Ao6 v nm (Hp v (by omega))
end Go.CT.Sch
namespace Go.CT.Sch
open Go.Proofs
theorem Vu (v:Val) (hv:v.Au≤1099511627776) (ih: ∀p∈v.f,W Xx 0 [p.2.enc]=some [.int p.2.size]): ∀ (n i c:Nat),i+n=v.f.length→c≤1099511627776→
  W Xx 2 [.int c,.int i,v.enc]=some [.int ((c+Bn (v.f.drop i):Nat):Int)]
 | 0,i,c,h,hc=>by
  rw [Rf]
  have h1: ¬ i<v.f.length:=by omega
  simp [h1,List.drop_of_length_le (Nat.le_of_not_lt h1),Bn]
 | n+1,i,c,h,hc=>by
  have hi:i<v.f.length:=by omega
  have hm:=v.Ba
  have hw:=A8 (i:=i) (by omega)
  have hs:=Pv (List.getElem_mem hi)
  have hsz:=v.Gy
  rw [v.size_eq] at hsz
  have hd:Bn (v.f.drop i)=v.f[i].2.size +Bn (v.f.drop (i+1)):=by rw [List.drop_eq_getElem_cons hi];rfl
  have hw2:IntKind.i64.wrap ((c:Int)+(v.f[i].2.size :Nat))=((c+v.f[i].2.size :Nat):Int):=by rw [wrap64 (by omega) (by omega)];rfl
  rw [Rf]
  simp only [Val.C4,Option.bind_some,O.Ao,List.length_map,O.Ai,Al,hi,decide_true,O.Ab,if_true,O.Aj,Int.natCast_nonneg,Int.toNat_natCast,List.getElem?_map,List.getElem?_eq_getElem hi,Option.map_some,Fld.Mi,ih _ (List.getElem_mem hi),O.Ag,O.Am,hw,hw2]
  by_cases hc2:c+v.f[i].2.size ≤1099511627776
  ·rw [Vu v hv ih n (i+1) _ (by omega) hc2,hd,Nat.add_assoc]
  ·-- larger sums: only the bound differs
   have key: ∀ (n i c:Nat),i+n=v.f.length→c+Bn (v.f.drop i)≤4611686018427387904→W Xx 2 [.int c,.int i,v.enc]=some [.int ((c+Bn (v.f.drop i):Nat):Int)]:=by
    intro n
    induction n with
    | zero=>
     intro i c h _
     rw [Rf]
     have h1: ¬ i<v.f.length:=by omega
     simp [h1,List.drop_of_length_le (Nat.le_of_not_lt h1),Bn]
    | succ n ihn=>
     intro i c h hc
     have hi:i<v.f.length:=by omega
     have hw:=A8 (i:=i) (by omega)
     have hd:Bn (v.f.drop i)=v.f[i].2.size +Bn (v.f.drop (i+1)):=by rw [List.drop_eq_getElem_cons hi];rfl
     have hw2:IntKind.i64.wrap ((c:Int)+(v.f[i].2.size :Nat))=((c+v.f[i].2.size :Nat):Int):=by rw [wrap64 (by omega) (by omega)];rfl
     rw [Rf]
     simp only [Val.C4,Option.bind_some,O.Ao,List.length_map,O.Ai,Al,hi,decide_true,O.Ab,if_true,O.Aj,Int.natCast_nonneg,Int.toNat_natCast,List.getElem?_map,List.getElem?_eq_getElem hi,Option.map_some,Fld.Mi,ih _ (List.getElem_mem hi),O.Ag,O.Am,hw,hw2]
     rw [ihn (i+1) _ (by omega) (by omega),hd,Nat.add_assoc]
   have hsub:Bn (v.f.drop (i+1))≤Bn v.f:=by
    have:=List.take_append_drop (i+1) v.f
    have h2:=O4 (v.f.take (i+1)) (v.f.drop (i+1))
    rw [this] at h2;omega
   rw [key n (i+1) _ (by omega) (by omega),hd,Nat.add_assoc]
theorem U3 (v:Val) (hv:v.Au≤1099511627776) (ih: ∀x∈v.l,W Xx 0 [x.enc]=some [.int x.size]): ∀ (n i c:Nat),i+n=v.l.length→c+Cb (v.l.drop i)≤4611686018427387904→
  W Xx 1 [.int c,.int i,v.enc]=W Xx 2 [.int ((c+Cb (v.l.drop i):Nat):Int),.int 0,v.enc]
 | 0,i,c,h,hc=>by
  rw [Af2]
  have h1: ¬ i<v.l.length:=by omega
  simp [h1,List.drop_of_length_le (Nat.le_of_not_lt h1),Cb]
 | n+1,i,c,h,hc=>by
  have hi:i<v.l.length:=by omega
  have hm:=v.Dm
  have hw:=A8 (i:=i) (by omega)
  have hd:Cb (v.l.drop i)=v.l[i].size +Cb (v.l.drop (i+1)):=by rw [List.drop_eq_getElem_cons hi];rfl
  have hw2:IntKind.i64.wrap ((c:Int)+(v.l[i].size :Nat))=((c+v.l[i].size :Nat):Int):=by rw [wrap64 (by omega) (by omega)];rfl
  rw [Af2]
  simp only [Val.Ce,Option.bind_some,O.Ao,List.length_map,O.Ai,Al,hi,decide_true,O.Ab,if_true,O.Aj,Int.natCast_nonneg,Int.toNat_natCast,List.getElem?_map,List.getElem?_eq_getElem hi,Option.map_some,ih _ (List.getElem_mem hi),O.Ag,O.Am,hw,hw2]
  rw [U3 v hv ih n (i+1) _ (by omega) (by omega),hd,Nat.add_assoc]
theorem Aol: ∀v:Val,v.Au≤1099511627776→W Xx 0 [v.enc]=some [.int v.size]:=by
 refine Val.ind fun v ih1 ih2 hv=>?_
 have hsz:=v.Gy
 have hs:=v.size_eq
 have h1:=U3 v hv (fun x hx=>ih1 x hx (by have:=Val.Ir hx;omega)) v.l.length 0 1 (by omega) (by simp only [List.drop_zero];omega)
 have h2:=Vu v hv (fun p hp=>ih2 p hp (by have:=Val.Dz hp;omega)) v.f.length 0 (1+Cb v.l) (by omega) (by omega)
 simp only [List.drop_zero,Int.cast_ofNat_Int] at h1 h2
 rw [Aqf]
 have h1':W Xx 1 [.int 1,.int 0,v.enc]=W Xx 2 [.int ((1+Cb v.l:Nat):Int),.int 0,v.enc]:=h1
 rw [h1',h2,hs]
theorem Aae (v:Val) (hv:v.Au≤1099511627776):W Ay6 0 [v.enc]=some [.bool v.valid]:=by
 rw [Aqq]
 have h1:=Ro 12 v (by omega) hv
 have h2:=Aol v hv
 simp only [Int.cast_ofNat_Int] at h1
 simp only [h1,h2,O.Ag,O.Ab,O.D1,Option.bind_some,Val.valid]
 have:decide ((v.size:Int)≤600)=decide (v.size≤600):=by simp;omega
 cases Bl 12 v<;>simp [this]
theorem R0 (v:Val) (hv:v.Au≤1099511627776) (ih: ∀p∈v.f,∀c d:Int,c≤100000→ -1099511627776≤d→d≤100000→ ∃r:Int,W F4 0 [p.2.enc,.int c,.int d]=some [.int r]∧r≤100000) (d:Int) (hd: -1000000000000≤d∧d≤100000): ∀ (n i:Nat) (c:Int),i+n=v.f.length→c≤100000→
  ∃r:Int,W F4 2 [.int c,.int d,.int i,v.enc]=some [.int r]∧r≤100000
 | 0,i,c,h,hc=>by
  rw [Aso]
  have h1: ¬ i<v.f.length:=by omega
  exact ⟨c,by simp [h1],hc⟩
 | n+1,i,c,h,hc=>by
  have hi:i<v.f.length:=by omega
  have hm:=v.Ba
  have hw:=A8 (i:=i) (by omega)
  have hw2:IntKind.i64.wrap (d - 1)=d - 1:=wrap64 (by omega) (by omega)
  obtain ⟨r,hr,hr2⟩:=ih _ (List.getElem_mem hi) c (d - 1) hc (by omega) (by omega)
  obtain ⟨r',hr',hr2'⟩:=R0 v hv ih d hd n (i+1) r (by omega) hr2
  rw [Aso]
  by_cases c1:0≤c
  ·by_cases c2:(1000:Int)<v.f[i].1.size
   ·exact ⟨-1,by simp [hi,c1,c2],by omega⟩
   ·exact ⟨r',by simp only [Val.C4,Option.bind_some,O.Ao,List.length_map,O.Ai,Al,hi,decide_true,O.Ab,if_true,O.Ek,c1,O.Aj,Int.natCast_nonneg,Int.toNat_natCast,List.getElem?_map,List.getElem?_eq_getElem hi,Option.map_some,Fld.Bt,O.A6,O.Bj,c2,decide_false,Bool.false_eq_true,if_false,Fld.Mi,O.Bv,hw2,hr,O.Ag,O.Am,hw,hr'],hr2'⟩
  ·exact ⟨c,by simp [hi,c1],hc⟩
theorem R7 (v:Val) (hv:v.Au≤1099511627776) (ih: ∀x∈v.l,∀c d:Int,c≤100000→ -1099511627776≤d→d≤100000→ ∃r:Int,W F4 0 [x.enc,.int c,.int d]=some [.int r]∧r≤100000) (d:Int) (hd: -1000000000000≤d∧d≤100000): ∀ (n i:Nat) (c:Int),i+n=v.l.length→c≤100000→
  ∃r:Int,W F4 1 [.int c,.int d,.int i,v.enc]=W F4 2 [.int r,.int d,.int 0,v.enc]∧r≤100000
 | 0,i,c,h,hc=>by
  rw [Asb]
  have h1: ¬ i<v.l.length:=by omega
  exact ⟨c,by simp [h1],hc⟩
 | n+1,i,c,h,hc=>by
  have hi:i<v.l.length:=by omega
  have hm:=v.Dm
  have hw:=A8 (i:=i) (by omega)
  have hw2:IntKind.i64.wrap (d - 1)=d - 1:=wrap64 (by omega) (by omega)
  obtain ⟨r,hr,hr2⟩:=ih _ (List.getElem_mem hi) c (d - 1) hc (by omega) (by omega)
  obtain ⟨r',hr',hr2'⟩:=R7 v hv ih d hd n (i+1) r (by omega) hr2
  rw [Asb]
  by_cases c1:0≤c
  ·exact ⟨r',by simp only [Val.Ce,Option.bind_some,O.Ao,List.length_map,O.Ai,Al,hi,decide_true,O.Ab,if_true,O.Ek,c1,O.Aj,Int.natCast_nonneg,Int.toNat_natCast,List.getElem?_map,List.getElem?_eq_getElem hi,Option.map_some,O.Bv,hw2,hr,O.Ag,O.Am,hw,hr'],hr2'⟩
  ·exact ⟨c,by simp [hi,c1],hc⟩
theorem Anh: ∀v:Val,v.Au≤1099511627776→ ∀c d:Int,c≤100000→ -1099511627776≤d→d≤100000→ ∃r:Int,W F4 0 [v.enc,.int c,.int d]=some [.int r]∧r≤100000:=by
 refine Val.ind fun v ih1 ih2 hv c d hc hd hd2=>?_
 rw [Ax9]
 by_cases c1:c≤0
 ·exact ⟨-1,by simp [c1],by omega⟩
 ·by_cases c2:d≤0
  ·exact ⟨-1,by simp [c1,c2],by omega⟩
  ·by_cases c3:(1000:Int)<v.s.size
   ·exact ⟨-1,by simp [c1,c2,c3],by omega⟩
   ·have hw:IntKind.i64.wrap (c - 1)=c - 1:=wrap64 (by omega) (by omega)
    obtain ⟨r,h1,h2⟩:=R7 v hv (fun x hx=>ih1 x hx (by have:=Val.Ir hx;omega)) d (by omega) v.l.length 0 (c - 1) (by omega) (by omega)
    obtain ⟨r',h1',h2'⟩:=R0 v hv (fun p hp=>ih2 p hp (by have:=Val.Dz hp;omega)) d (by omega) v.f.length 0 r (by omega) h2
    simp only [Int.cast_ofNat_Int] at h1 h1'
    exact ⟨r',by simp [c1,c2,c3,hw,h1,h1'],h2'⟩
theorem Ip (a b:Bool):W Ar0 0 [.bool a,.bool b]=some [.int (if a then -1 else if b then 1 else 0)]:=by
 rw [Aps];cases a<;>cases b<;>rfl
theorem Aki (a b:Int):(if decide (a<b)=true then (-1:Int) else if decide (b<a)=true then 1 else 0)=0↔a=b:=by
 by_cases h1:a<b
 ·simp [h1];omega
 ·by_cases h2:b<a
  ·simp [h1,h2];omega
  ·simp [h1,h2];omega
theorem Ai9 (a b:ByteArray):(if blt a b=true then (-1:Int) else if blt b a=true then 1 else 0)=0↔a=b:=by
 rcases Jm a b with h | rfl | h
 ·simp [h];exact Qb h
 ·simp [Dl]
 ·have:=N7 h
  simp [h,this]
  exact fun e=>Qb h e.symm
theorem Awu (a b:Val) (ha:Ht 1099511627776 a) (hb:Ht 1099511627776 b) (ih: ∀p∈a.f,∀y:Val,Ht 1099511627776 y→ ∃c:Int,W Nt 0 [p.2.enc,y.enc]=some [.int c]∧(c=0↔p.2=y)): ∀ (n i:Nat) (c:Int),i+n=a.f.length→i≤b.f.length→
  ∃c':Int,W Nt 5 [.int c,.int i,a.enc,b.enc]=some [.int c']∧(c'=0↔c=0∧a.f.drop i=b.f.drop i)
 | n,i,c,h,hib=>by
  have hma:=ha.Pk
  have hmb:=hb.Pk
  rw [Aop]
  by_cases hc:c=0
  ·subst hc
   by_cases h1:i<a.f.length
   ·by_cases h2:i<b.f.length
    ·obtain ⟨m,rfl⟩: ∃m,n=m+1:=⟨n - 1,by omega⟩
     have hw:=A8 (i:=i) (by omega)
     have hmem:=List.getElem_mem h2
     obtain ⟨c1,q1,q2⟩:=ih _ (List.getElem_mem h1) b.f[i].2 (hb.Sz hmem)
     have hn:=Ai9 a.f[i].1 b.f[i].1
     have hd:(a.f.drop i=b.f.drop i)↔(a.f[i].1 =b.f[i].1 ∧a.f[i].2 =b.f[i].2 ∧a.f.drop (i+1)=b.f.drop (i+1)):=by
      rw [List.drop_eq_getElem_cons h1,List.drop_eq_getElem_cons h2]
      simp only [List.cons.injEq,Prod.ext_iff,and_assoc]
     simp only [Val.C4,Option.bind_some,O.Ao,List.length_map,O.Ai,Al,h1,h2,decide_true,O.Ab,if_true,O.eq_int,O.Aj,Int.natCast_nonneg,Int.toNat_natCast,List.getElem?_map,List.getElem?_eq_getElem h1,List.getElem?_eq_getElem h2,Option.map_some,Fld.Bt,Fld.Mi,Amw,Ajo,Ip,O.Ag,hd]
     generalize (if blt a.f[i].1 b.f[i].1 =true then (-1:Int) else if blt b.f[i].1 a.f[i].1 =true then 1 else 0)=o at hn
     by_cases ho:o=0
     ·obtain ⟨c',r1,r2⟩:=Awu a b ha hb ih m (i+1) c1 (by omega) (by omega)
      refine ⟨c',by simp only [ho,decide_true,if_true,q1,O.Ag,Ae6,O.Am,hw,Option.bind_some,r1],?_⟩
      rw [r2,q2]
      have:=hn.1 ho
      simp [this]
     ·obtain ⟨c',r1,r2⟩:=Awu a b ha hb ih m (i+1) o (by omega) (by omega)
      refine ⟨c',by simp only [ho,decide_false,Bool.false_eq_true,if_false,Ae6,O.Am,hw,Option.bind_some,r1],?_⟩
      rw [r2]
      have: ¬ a.f[i].1 =b.f[i].1 :=fun e=>ho (hn.2 e)
      simp [ho,this]
    ·have hi:i=b.f.length:=by omega
     have hne: ¬ a.f.length=b.f.length:=by omega
     refine ⟨1,?_,by
      have: ¬ a.f.drop i=b.f.drop i:=fun e=>by
       have:=congrArg List.length e
       simp at this;omega
      simp [this]⟩
     have g1: ¬ (a.f.length:Int)<b.f.length:=by omega
     have g2:(b.f.length:Int)<a.f.length:=by omega
     simp [h1,h2,g1,g2,Ip]
   ·have hi:i=a.f.length:=by omega
    refine ⟨_,by simp only [Val.C4,Option.bind_some,O.Ao,List.length_map,O.Ai,Al,h1,decide_false,O.Ab,Bool.false_eq_true,if_false,O.eq_int,decide_true,if_true,Ip,O.Ag,O.Bj];rfl,?_⟩
    have e1:a.f.drop i= []:=List.drop_of_length_le (by omega)
    rw [e1]
    by_cases g:a.f.length=b.f.length
    ·have:b.f.drop i= []:=List.drop_of_length_le (by omega)
     simp [g,this]
    ·have g2:a.f.length<b.f.length:=by omega
     have: ¬ []=b.f.drop i:=fun e=>by
      have:=congrArg List.length e
      simp at this;omega
     simp [g2,this]
  ·refine ⟨c,?_,by simp [hc]⟩
   by_cases h1:i<a.f.length<;>by_cases h2:i<b.f.length<;>simp [h1,h2,hc]
theorem Ayw (a b:Val) (ha:Ht 1099511627776 a) (hb:Ht 1099511627776 b) (ih: ∀x∈a.l,∀y:Val,Ht 1099511627776 y→ ∃c:Int,W Nt 0 [x.enc,y.enc]=some [.int c]∧(c=0↔x=y)): ∀ (n i:Nat) (c:Int),i+n=a.l.length→i≤b.l.length→
  ∃c':Int,W Nt 3 [.int c,.int i,a.enc,b.enc]=W Nt 4 [.int c',a.enc,b.enc]∧(c'=0↔c=0∧a.l.drop i=b.l.drop i)
 | n,i,c,h,hib=>by
  have hma:=ha.Zj
  have hmb:=hb.Zj
  rw [Aov]
  by_cases hc:c=0
  ·subst hc
   by_cases h1:i<a.l.length
   ·by_cases h2:i<b.l.length
    ·obtain ⟨m,rfl⟩: ∃m,n=m+1:=⟨n - 1,by omega⟩
     have hw:=A8 (i:=i) (by omega)
     obtain ⟨c1,q1,q2⟩:=ih _ (List.getElem_mem h1) b.l[i] (hb.Ahk (List.getElem_mem h2))
     have hd:(a.l.drop i=b.l.drop i)↔(a.l[i]=b.l[i]∧a.l.drop (i+1)=b.l.drop (i+1)):=by
      rw [List.drop_eq_getElem_cons h1,List.drop_eq_getElem_cons h2]
      simp only [List.cons.injEq]
     obtain ⟨c',r1,r2⟩:=Ayw a b ha hb ih m (i+1) c1 (by omega) (by omega)
     refine ⟨c',by simp only [Val.Ce,Option.bind_some,O.Ao,List.length_map,O.Ai,Al,h1,h2,decide_true,O.Ab,if_true,O.eq_int,O.Aj,Int.natCast_nonneg,Int.toNat_natCast,List.getElem?_map,List.getElem?_eq_getElem h1,List.getElem?_eq_getElem h2,Option.map_some,q1,O.Ag,O.Am,hw,r1],?_⟩
     rw [r2,q2,hd];simp
    ·refine ⟨1,?_,by
      have: ¬ a.l.drop i=b.l.drop i:=fun e=>by
       have:=congrArg List.length e
       simp at this;omega
      simp [this]⟩
     have g1: ¬ (a.l.length:Int)<b.l.length:=by omega
     have g2:(b.l.length:Int)<a.l.length:=by omega
     simp [h1,h2,g1,g2,Ip]
   ·have hi:i=a.l.length:=by omega
    refine ⟨_,by simp only [Val.Ce,Option.bind_some,O.Ao,List.length_map,O.Ai,Al,h1,decide_false,O.Ab,Bool.false_eq_true,if_false,O.eq_int,decide_true,if_true,Ip,O.Ag,O.Bj];rfl,?_⟩
    have e1:a.l.drop i= []:=List.drop_of_length_le (by omega)
    rw [e1]
    by_cases g:a.l.length=b.l.length
    ·have:b.l.drop i= []:=List.drop_of_length_le (by omega)
     simp [g,this]
    ·have g2:a.l.length<b.l.length:=by omega
     have: ¬ []=b.l.drop i:=fun e=>by
      have:=congrArg List.length e
      simp at this;omega
     simp [g2,this]
  ·refine ⟨c,?_,by simp [hc]⟩
   by_cases h1:i<a.l.length<;>by_cases h2:i<b.l.length<;>simp [h1,h2,hc]
theorem Aqa: ∀a:Val,Ht 1099511627776 a→ ∀b:Val,Ht 1099511627776 b→ ∃c:Int,W Nt 0 [a.enc,b.enc]=some [.int c]∧(c=0↔a=b):=by
 refine Val.ind fun a ih1 ih2 ha b hb=>?_
 have h3:=fun c=>Ayw a b ha hb (fun x hx=>ih1 x hx (ha.Ahk hx)) a.l.length 0 c (by omega) (Nat.zero_le _)
 have h5:=fun c=>Awu a b ha hb (fun p hp=>ih2 p hp (ha.Sz hp)) a.f.length 0 c (by omega) (Nat.zero_le _)
 simp only [List.drop_zero,Int.cast_ofNat_Int] at h3 h5
 have hab:a=b↔a.k=b.k∧a.n=b.n∧a.s=b.s∧a.l=b.l∧a.f=b.f:=by
  cases a;cases b;simp
 -- from the lists on
 have rest: ∀c:Int,∃c':Int,W Nt 2 [.int c,a.enc,b.enc]=some [.int c']∧(c'=0↔c=0∧a.l=b.l∧a.f=b.f):=by
  intro c
  obtain ⟨c1,q1,q2⟩:=h3 c
  obtain ⟨c2,r1,r2⟩:=h5 c1
  refine ⟨c2,by rw [Aq6,q1,Arb,r1],by rw [r2,q2,and_assoc]⟩
 have text: ∀c:Int,∃c':Int,W Nt 1 [.int c,a.enc,b.enc]=some [.int c']∧(c'=0↔c=0∧a.s=b.s∧a.l=b.l∧a.f=b.f):=by
  intro c
  rw [Apo]
  by_cases hc:c=0
  ·have hs:=Ai9 a.s b.s
   obtain ⟨c',q1,q2⟩:=rest (if blt a.s b.s=true then (-1:Int) else if blt b.s a.s=true then 1 else 0)
   refine ⟨c',by simp only [O.eq_int,hc,decide_true,Option.bind_some,O.Ab,if_true,Val.D3,Amw,Ajo,Ip,O.Ag,q1],?_⟩
   rw [q2,hs];simp [hc]
  ·obtain ⟨c',q1,q2⟩:=rest c
   refine ⟨c',by simp only [O.eq_int,hc,decide_false,Option.bind_some,O.Ab,Bool.false_eq_true,if_false,q1],?_⟩
   rw [q2];simp [hc]
 rw [Apv]
 have hk:=Aki a.k b.k
 have hn:=Aki a.n b.n
 simp only [Val.Bt,Val.C3,Option.bind_some,O.Ai,O.Bj,Ip,O.Ag,O.eq_int,O.Ab]
 generalize (if decide (a.k<b.k)=true then (-1:Int) else if decide (b.k<a.k)=true then 1 else 0)=o at hk
 generalize (if decide (a.n<b.n)=true then (-1:Int) else if decide (b.n<a.n)=true then 1 else 0)=o2 at hn
 by_cases ho:o=0
 ·obtain ⟨c',q1,q2⟩:=text o2
  refine ⟨c',by simp only [ho,decide_true,if_true,q1],?_⟩
  rw [q2,hn,hab]
  have:=hk.1 ho
  simp [this]
 ·obtain ⟨c',q1,q2⟩:=text o
  refine ⟨c',by simp only [ho,decide_false,Bool.false_eq_true,if_false,q1],?_⟩
  rw [q2,hab]
  have: ¬ a.k=b.k:=fun e=>ho (hk.2 e)
  simp [ho,this]
open Classical in
theorem Ag3 (a b:Val) (ha:Ht 1099511627776 a) (hb:Ht 1099511627776 b):W Ay7 0 [a.enc,b.enc]=some [.bool (decide (a=b))]:=by
 obtain ⟨c,h1,h2⟩:=Aqa a ha b hb
 rw [An2]
 simp only [h1,O.Ag,O.eq_int,Option.bind_some]
 congr 3
 simp only [h2]
open Classical in
theorem Alw (a b:Val) (ha:a.Au≤1099511627776) (hb:b.Au≤1099511627776):W Ay7 0 [a.enc,b.enc]=some [.bool (decide (a=b))]:=Ag3 a b (Hp a (by omega)) (Hp b (by omega))
end Go.CT.Sch
namespace Go.CT.Sch
open Go.Proofs
def Anr (x y:ByteArray × Val):Bool:=blt x.1 y.1
theorem cmpB: ∀ (a b:List UInt8),decide (Lib.compareBytes a b<0)=Op.bytesLess a b
 | [],[]=>rfl
 | [],_::_=>by simp [Lib.compareBytes,Op.bytesLess]
 | _::_,[]=>by simp [Lib.compareBytes,Op.bytesLess]
 | a::x,b::y=>by
  simp only [Lib.compareBytes,Op.bytesLess]
  by_cases h1:a<b
  ·simp [h1]
  ·by_cases h2:b<a
   ·have: ¬ a=b:=fun e=>by subst e;exact h1 h2
    simp [h1,h2,this]
   ·have:a=b:=by
     have h1': ¬ a.toNat<b.toNat:=fun h=>h1 (UInt8.lt_iff_toNat_lt.2 h)
     have h2': ¬ b.toNat<a.toNat:=fun h=>h2 (UInt8.lt_iff_toNat_lt.2 h)
     exact UInt8.toNat_inj.1 (by omega)
    subst this
    simp [h1,cmpB x y]
theorem fcmp (x y:ByteArray × Val): ∃c:Int,W F39 0 [Fld.enc x,Fld.enc y]=some [.int c]∧(decide (c<0)=Anr x y):=by
 refine ⟨Lib.compareBytes x.1.data.toList y.1.data.toList,?_,cmpB _ _⟩
 rw [Atw]
 simp [Atd,Auq,Azx,O.N1]
theorem ford:Srt.Ord Anr where
 irr x:=Dl _
 tr x y z h k:=Im h k
 neg x y z h:=by
  rcases Jm x.1 y.1 with h1 | h1 | h1
  ·exact .inl h1
  ·right;unfold Anr at h ⊢;rw [←h1];exact h
  ·right;exact Im h1 h
noncomputable def feqs:Srt.Eqs Fld.enc Anr 6 true where
 S b xs:=W F36 b xs
 B b xs:=W F37 b xs
 I b xs:=W F38 b xs
 M b xs:=W F43 b xs
 R b xs:=W F44 b xs
 X b xs:=W F45 b xs
 C xs:=W F39 0 xs
 cmp:=fcmp
 s0:=by intros;exact Ax rfl (by kernel_rfl)
 b0:=by intros;exact Ax rfl (by kernel_rfl)
 b1:=by intros;exact Ax rfl (by kernel_rfl)
 b2:=by intros;exact Ax rfl (by kernel_rfl)
 b3:=by intros;exact Ax rfl (by kernel_rfl)
 b4:=by intros;exact Ax rfl (by kernel_rfl)
 i0:=by intros;exact Ax rfl (by kernel_rfl)
 i1:=by intros;exact Ax rfl (by kernel_rfl)
 i2:=by intros;exact Ax rfl (by kernel_rfl)
 x0:=by intros;exact Ax rfl (by kernel_rfl)
 x1:=by intros;exact Ax rfl (by kernel_rfl)
 r0:=by intros;exact Ax rfl (by kernel_rfl)
 r1:=by intros;exact Ax rfl (by kernel_rfl)
 r2:=by intros;exact Ax rfl (by kernel_rfl)
 m0:=by intros;exact Ax rfl (by kernel_rfl)
 m1:=by intros;exact Ax rfl (by kernel_rfl)
 m2:=by intros;exact Ax rfl (by kernel_rfl)
 m3:=by intros;exact Ax rfl (by kernel_rfl)
 m4:=by intros;exact Ax rfl (by kernel_rfl)
 m5:=by intros;exact Ax rfl (by kernel_rfl)
 m6:=by intros;exact Ax rfl (by kernel_rfl)
 m7:=by intros;exact Ax rfl (by kernel_rfl)
 m8:=by intros;exact Ax rfl (by kernel_rfl)
 m9:=by intros;exact Ax rfl (by kernel_rfl)
 m10:=by intros;exact Ax rfl (by kernel_rfl)
 m11:=by intros;exact Ax rfl (by kernel_rfl)
end Go.CT.Sch
namespace Go.CT.Sch
open Go.Proofs
theorem He {l:List IV} (h:l.length≤1073741824):O.K3 [.list l]=some [.list l]:=if_pos h
theorem Qn (v:Val) (hv:Ht 1073741824 v) (y2 y3 y4 y5 y6 y7 y9:IV) (ih: ∀p∈v.f,W F46 0 [p.2.enc]=some p.2.Hz): ∀ (n i:Nat),i+n=v.f.length→
  W F46 2 [.int v.f.length,.int i,y2,y3,y4,y5,y6,y7,.list (v.f.map Fld.enc),y9]=some [y2,y3,y4,y9,.list (v.f.map Fld.enc)]
 | 0,i,h=>by
  rw [Ann]
  have h1: ¬ i<v.f.length:=by omega
  simp only [O.Ai,Al,h1,decide_false,Option.bind_some,O.Ab,Bool.false_eq_true,if_false]
 | n+1,i,h=>by
  have hi:i<v.f.length:=by omega
  have hm:=hv.Pk
  have hw:=A8 (i:=i) (by omega)
  have:=Qn v hv y2 y3 y4 y5 y6 y7 y9 ih n (i+1) (by omega)
  have hset:O.setAt 1 5 true false (.list (v.f.map Fld.enc)) (.int i) v.f[i].2.enc =some (.list (v.f.map Fld.enc)):=by
   have hg:(v.f.map Fld.enc)[i]?=some (Fld.enc v.f[i]):=by rw [List.getElem?_map,List.getElem?_eq_getElem hi];rfl
   have hs:(v.f.map Fld.enc).set i (Fld.enc v.f[i])=v.f.map Fld.enc:=by
    rw [←List.map_set,List.set_getElem_self]
   unfold O.setAt
   simp only [Prim.ev,Int.natCast_nonneg,if_true,Int.toNat_natCast,hg,Bool.false_eq_true,if_false]
   rw [v.f[i].2.Ec]
   simp only [Fld.enc]
   have hl:v.f[i].2.Hz.length =5:=rfl
   simp only [hl,if_true]
   congr 2
  rw [Ann]
  simp only [O.Ai,Al,hi,decide_true,Option.bind_some,O.Ab,if_true,O.Aj,Int.natCast_nonneg,Int.toNat_natCast,List.getElem?_map,List.getElem?_eq_getElem hi,Option.map_some,Fld.Mi,ih _ (List.getElem_mem hi),Val.Cm,O.Gb,O.Br,Val.H8,hset,O.Am,hw,this]
theorem Qt (v:Val) (hv:Ht 1073741824 v) (y2 y3 y4 y6 y7 y8:IV) (ih: ∀x∈v.l,W F46 0 [x.enc]=some x.Hz): ∀ (n i:Nat),i+n=v.l.length→
  W F46 1 [.int v.l.length,.int i,y2,y3,y4,.list (v.f.map Fld.enc),y6,y7,y8,.list (v.l.map Val.enc)]=W F46 2 [.int v.f.length,.int (0:Nat),y2,y3,y4,y6,y7,y8,.list (v.f.map Fld.enc),.list (v.l.map Val.enc)]
 | 0,i,h=>by
  rw [Aj8]
  have h1: ¬ i<v.l.length:=by omega
  have h6:=hv.Pk
  have hc:(v.f.map Fld.enc).length ≤1073741824:=by rw [List.length_map];omega
  simp only [O.Ai,Al,h1,decide_false,Option.bind_some,O.Ab,Bool.false_eq_true,if_false,Ate,He hc,O.Ag,O.Ao,List.length_map]
  rfl
 | n+1,i,h=>by
  have hi:i<v.l.length:=by omega
  have hm:=hv.Zj
  have hw:=A8 (i:=i) (by omega)
  have:=Qt v hv y2 y3 y4 y6 y7 y8 ih n (i+1) (by omega)
  have hset:O.setAt 0 5 true true (.list (v.l.map Val.enc)) (.int i) v.l[i].enc =some (.list (v.l.map Val.enc)):=by
   rw [show (IV.list (v.l.map Val.enc))=Srt.LE Val.enc v.l from rfl,Srt.Ans Val.enc hi,List.set_getElem_self]
  rw [Aj8]
  simp only [O.Ai,Al,hi,decide_true,Option.bind_some,O.Ab,if_true,O.Aj,Int.natCast_nonneg,Int.toNat_natCast,List.getElem?_map,List.getElem?_eq_getElem hi,Option.map_some,ih _ (List.getElem_mem hi),Val.Cm,O.Gb,O.Br,Val.H8,hset,O.Am,hw,this]
theorem P4: ∀v:Val,Ht 1073741824 v→W F46 0 [v.enc]=some v.Hz:=by
 refine Val.ind fun v ih1 ih2 hv=>?_
 have h1:=Qt v hv (.int v.k) (.int v.n) (.str v.s) (.int 0) (.int 0) (.str ⟨#[]⟩) (fun x hx=>ih1 x hx (hv.Ahk hx)) v.l.length 0 (by omega)
 have h2:=Qn v hv (.int v.k) (.int v.n) (.str v.s) (.int 0) (.int 0) (.str ⟨#[]⟩) (.list (v.l.map Val.enc)) (fun p hp=>ih2 p hp (hv.Sz hp)) v.f.length 0 (by omega)
 rw [h2] at h1
 rw [Aue]
 have h6:=hv.Zj
 have hc:(v.l.map Val.enc).length ≤1073741824:=by rw [List.length_map];omega
 simp only [Val.Bt,Val.C3,Val.D3,Val.Ce,Val.C4,Option.bind_some,Azq,He hc,O.Ag,O.Ao,List.length_map]
 rw [Val.Cm]
 exact h1
theorem Alv (l:List Val) (hl:l.length≤1073741824) (hl2: ∀x∈l,Ht 1073741824 x):W F98 0 [.list (l.map Val.enc)]=some (Val.Hz ⟨4,0,Ar,l,[]⟩):=by
 rw [Awt]
 have h:=P4 ⟨4,0,Ar,l,[]⟩ (.mk _ hl (Nat.zero_le _) hl2 (by simp))
 have e:IV.agg [.int 4,.int 0,.str ⟨#[]⟩,.list (l.map Val.enc),.list []]=Val.enc ⟨4,0,Ar,l,[]⟩:=by
  rw [←Val.fold];rfl
 simp only [O.Br,Option.bind_some,e,h,Val.Cm,O.Gb]
theorem Ug (v:Val) (nm:ByteArray) (hv:Ht 1073741824 v) (y4 y5 y6:IV): ∀ (n i:Nat),i+n=v.f.length→
  W F73 1 [.str nm,.list (v.f.map Fld.enc),.int v.f.length,.int i,y4,y5,y6]=some (Le (((v.f.drop i).find? fun p=>decide (p.1=nm)).map (·.2)))
 | 0,i,h=>by
  rw [Aks]
  have h1: ¬ i<v.f.length:=by omega
  simp [h1,List.drop_of_length_le (Nat.le_of_not_lt h1),Le,Bb,Ar]
 | n+1,i,h=>by
  have hi:i<v.f.length:=by omega
  have hm:=hv.Pk
  have hw:=A8 (i:=i) (by omega)
  have:=Ug v nm hv y4 y5 y6 n (i+1) (by omega)
  have hmem:=List.getElem_mem hi
  rw [Aks,List.drop_eq_getElem_cons hi]
  simp only [O.Ai,Al,hi,decide_true,Option.bind_some,O.Ab,if_true,O.Aj,Int.natCast_nonneg,Int.toNat_natCast,List.getElem?_map,List.getElem?_eq_getElem hi,Option.map_some,Fld.Bt,Fld.Mi,O.E0,P4 v.f[i].2 (hv.Sz hmem),Val.Cm,O.Gb,O.Am,hw,this,List.find?_cons]
  by_cases c:v.f[i].1 =nm
  ·simp [c,Le]
  ·have c':decide (v.f[i].1 =nm)=false:=by simpa using c
   simp only [c,c',decide_false,Bool.false_eq_true,if_false]
theorem Ap5 (v:Val) (nm:ByteArray) (hv:Ht 1073741824 v):W F73 0 [v.enc,.str nm]=some (Le (v.get nm)):=by
 rw [Aub]
 unfold Val.get
 have:=Ug v nm hv (.int 0) (.int 0) (.str ⟨#[]⟩) v.f.length 0 (by omega)
 simp only [List.drop_zero,Int.cast_ofNat_Int] at this
 simp only [Val.Bt,Val.C4,Option.bind_some,O.eq_int,O.Ab,O.Ao,List.length_map,this]
 by_cases c:v.k=5<;>simp [c,Le,Bb,Ar]
end Go.CT.Sch
namespace Go.CT.Sch
open Go.Proofs
def Gu (nm:ByteArray) (p:ByteArray × Val):Bool:= !decide (p.1=nm)
def dedup:List (ByteArray × Val)→List (ByteArray × Val)
 | []=> []
 | [p]=> [p]
 | p::q::r=>if q.1=p.1 then dedup (q::r) else p::dedup (q::r)
def Dn (l:List (ByteArray × Val)):Prop:=l.Pairwise fun a b=>blt a.1 b.1=true
def isName (nm:ByteArray) (p:ByteArray × Val):Bool:=decide (p.1=nm)
def look (nm:ByteArray) (l:List (ByteArray × Val)):Option (ByteArray × Val):=(l.filter (isName nm)).getLast?
theorem S4: ∀ (l:List (ByteArray × Val)) (p:ByteArray × Val),p∈dedup l→p∈l
 | [],p,h=>h
 | [_],p,h=>h
 | a::b::r,p,h=>by
  simp only [dedup] at h
  split at h
  ·exact List.mem_cons_of_mem _ (S4 (b::r) p h)
  ·rcases List.mem_cons.1 h with rfl | h
   ·simp
   ·exact List.mem_cons_of_mem _ (S4 (b::r) p h)
theorem Y6 {x y:ByteArray} (h:blt y x=false) (hne: ¬ y=x):blt x y=true:=by
 rcases Jm x y with h1 | h1 | h1
 ·exact h1
 ·exact absurd h1.symm hne
 ·rw [h] at h1;cases h1
theorem Z4 {x y z:ByteArray} (h:blt x y=true) (h2:blt z y=false):blt x z=true:=by
 rcases Jm y z with h1 | h1 | h1
 ·exact Im h h1
 ·rw [←h1];exact h
 ·rw [h2] at h1;cases h1
theorem Qr: ∀l:List (ByteArray × Val),Srt.B4 Anr l→Dn (dedup l)
 | [],_=>List.Pairwise.nil
 | [_],_=>List.pairwise_singleton _ _
 | a::b::r,h=>by
  have h1:=List.pairwise_cons.1 h
  have ih:=Qr (b::r) h1.2
  simp only [dedup]
  split
  ·exact ih
  ·next hne=>
   refine List.pairwise_cons.2 ⟨fun y hy=>?_,ih⟩
   have hab:blt a.1 b.1=true:=Y6 (h1.1 b (by simp)) hne
   rcases List.mem_cons.1 (S4 _ _ hy) with rfl | hy
   ·exact hab
   ·exact Z4 hab ((List.pairwise_cons.1 h1.2).1 y hy)
theorem K4 (nm:ByteArray) (p:ByteArray × Val) (l:List (ByteArray × Val)):look nm (p::l)=(look nm l).or (if p.1=nm then some p else none):=by
 unfold look
 rw [List.filter_cons]
 by_cases c:p.1=nm
 ·rw [if_pos (by simp [isName,c]),if_pos c]
  generalize l.filter (isName nm)=m
  cases m with
  | nil=>rfl
  | cons b r=>
   rw [List.getLast?_cons_cons]
   cases h:(b::r).getLast? with
   | none=>simp at h
   | some x=>rfl
 ·rw [if_neg (by simp [isName,c]),if_neg c,Option.or_none]
theorem Vp (nm:ByteArray): ∀l:List (ByteArray × Val),look nm (dedup l)=look nm l
 | []=>rfl
 | [_]=>rfl
 | a::b::r=>by
  have ih:=Vp nm (b::r)
  simp only [dedup]
  split
  ·next e=>
   rw [ih,K4 nm a (b::r),K4 nm b r]
   by_cases c:b.1=nm
   ·have c2:a.1=nm:=by rw [←e];exact c
    simp only [c,c2,if_true]
    cases look nm r<;>rfl
   ·have c2: ¬ a.1=nm:=by rw [←e];exact c
    simp only [c2,if_false,Option.or_none]
  ·rw [K4 nm a,ih,K4 nm a]
theorem Jk {l:List (ByteArray × Val)} (h:Dn l) (p:ByteArray × Val):p∈l↔look p.1 l=some p:=by
 induction l with
 | nil=>simp [look]
 | cons a l ih=>
  have h1:=List.pairwise_cons.1 h
  rw [K4,List.mem_cons,ih h1.2]
  by_cases c:a.1=p.1
  ·have hn:look p.1 l=none:=by
    unfold look
    rw [List.getLast?_eq_none_iff,List.filter_eq_nil_iff]
    intro y hy hy2
    simp only [isName,decide_eq_true_eq] at hy2
    have:=h1.1 y hy
    rw [c,hy2,Dl] at this
    cases this
   simp [hn,c,eq_comm]
  ·have: ¬ p=a:=fun e=>c (by rw [e])
   simp [c,this]
theorem Vo {a b:List (ByteArray × Val)} (ha:Dn a) (hb:Dn b) (h: ∀p,p∈a↔p∈b):a=b:=by
 induction a generalizing b with
 | nil=>
  cases b with
  | nil=>rfl
  | cons y b=>have:=(h y).2 (by simp);simp at this
 | cons x a ih=>
  cases b with
  | nil=>have:=(h x).1 (by simp);simp at this
  | cons y b=>
   have ha':=List.pairwise_cons.1 ha
   have hb':=List.pairwise_cons.1 hb
   have hxy:x=y:=by
    rcases List.mem_cons.1 ((h x).1 (by simp)) with e | hx
    ·exact e
    ·rcases List.mem_cons.1 ((h y).2 (by simp)) with e | hy
     ·exact e.symm
     ·have h1:=hb'.1 x hx
      have h2:=ha'.1 y hy
      rw [N7 h1] at h2;cases h2
   subst hxy
   rw [ih ha'.2 hb'.2]
   intro p
   have:=h p
   simp only [List.mem_cons] at this
   constructor
   ·intro hp
    rcases this.1 (.inr hp) with rfl | h
    ·have:=ha'.1 p hp;rw [Dl] at this;cases this
    ·exact h
   ·intro hp
    rcases this.2 (.inr hp) with rfl | h
    ·have:=hb'.1 p hp;rw [Dl] at this;cases this
    ·exact h
theorem K6 {a b:List (ByteArray × Val)} (ha:Dn a) (hb:Dn b) (h: ∀nm,look nm a=look nm b):a=b:=
 Vo ha hb fun p=>by rw [Jk ha,Jk hb,h]
theorem Aaf (p:ByteArray × Val): ∀l,O8 p true l=l.filter (Gu p.1)
 | []=>rfl
 | x::xs=>by
  simp only [O8,Bool.not_true,Bool.false_and,Bool.false_eq_true,if_false,List.nil_append,Bool.true_or,Aaf p xs,List.filter_cons,Gu]
  by_cases c:x.1=p.1<;>simp [c]
theorem X9 (p x:ByteArray × Val) (xs:List (ByteArray × Val)) (h:blt x.1 p.1=false):O8 p false (x::xs)=p::(x::xs).filter (Gu p.1):=by
 simp only [O8,h,Bool.not_false,Bool.and_self,if_true,Bool.or_true,Aaf,List.filter_cons,Gu]
 by_cases c:x.1=p.1<;>simp [c]
theorem Xr (p x:ByteArray × Val) (xs:List (ByteArray × Val)) (h:blt x.1 p.1=true):O8 p false (x::xs)=x::O8 p false xs:=by
 have hne: ¬ x.1=p.1:=Qb h
 simp [O8,h,hne]
theorem Ad9 (p:ByteArray × Val): ∀ (l:List (ByteArray × Val)) (y:ByteArray × Val),y∈O8 p false l→y=p∨y∈l
 | [],y,h=>by simp [O8] at h;exact .inl h
 | x::xs,y,h=>by
  cases hb:blt x.1 p.1 with
  | true=>
   rw [Xr p x xs hb] at h
   rcases List.mem_cons.1 h with rfl | h
   ·simp
   ·rcases Ad9 p xs y h with h | h
    ·exact .inl h
    ·exact .inr (List.mem_cons_of_mem _ h)
  | false=>
   rw [X9 p x xs hb] at h
   rcases List.mem_cons.1 h with rfl | h
   ·simp
   ·exact .inr (List.mem_filter.1 h).1
theorem Sn (p:ByteArray × Val): ∀l:List (ByteArray × Val),Dn l→Dn (O8 p false l)
 | [],_=>List.pairwise_singleton _ _
 | x::xs,h=>by
  have h1:=List.pairwise_cons.1 h
  cases hb:blt x.1 p.1 with
  | true=>
   rw [Xr p x xs hb]
   refine List.pairwise_cons.2 ⟨fun y hy=>?_,Sn p xs h1.2⟩
   rcases Ad9 p xs y hy with rfl | hy
   ·exact hb
   ·exact h1.1 y hy
  | false=>
   rw [X9 p x xs hb]
   refine List.pairwise_cons.2 ⟨fun y hy=>?_,h.sublist List.filter_sublist⟩
   obtain ⟨hy,hn⟩:=List.mem_filter.1 hy
   have hne: ¬ y.1=p.1:=by simpa [Gu] using hn
   refine Y6 ?_ hne
   rcases List.mem_cons.1 hy with rfl | hy
   ·exact hb
   ·cases hc:blt y.1 p.1 with
    | false=>rfl
    | true=>have:=Im (h1.1 y hy) hc;rw [hb] at this;cases this
theorem R5 (p:ByteArray × Val) (nm:ByteArray): ∀l:List (ByteArray × Val),(O8 p false l).filter (isName nm)=if p.1=nm then [p] else l.filter (isName nm)
 | []=>by by_cases c:p.1=nm<;>simp [O8,isName,c]
 | x::xs=>by
  cases hb:blt x.1 p.1 with
  | true=>
   have hne:=Qb hb
   rw [Xr p x xs hb,List.filter_cons,R5 p nm xs,List.filter_cons]
   by_cases c:p.1=nm
   ·have: ¬ x.1=nm:=by rw [←c];exact hne
    simp [c,isName,this]
   ·simp [c]
  | false=>
   rw [X9 p x xs hb,List.filter_cons,List.filter_filter]
   by_cases c:p.1=nm
   ·rw [if_pos (by simp [isName,c]),if_pos c]
    congr 1
    rw [List.filter_eq_nil_iff]
    intro y _ hy
    simp [Gu,isName,c] at hy
   ·rw [if_neg (by simp [isName,c]),if_neg c]
    refine List.filter_congr fun y _=>?_
    by_cases d:y.1=nm
    ·have: ¬ nm=p.1:=fun e=>c e.symm
     simp [Gu,isName,d,this]
    ·simp [isName,d]
theorem Rs (l:List (ByteArray × Val)) (p:ByteArray × Val):Ub (l++ [p])=O8 p false (Ub l):=by
 unfold Ub;rw [List.foldl_append];rfl
theorem Vw (l:List (ByteArray × Val)): ∀n,l.length=n→Dn (Ub l)∧ ∀nm,look nm (Ub l)=look nm l:=by
 intro n
 induction n generalizing l with
 | zero=>intro h;have:=List.length_eq_zero_iff.1 h;subst this;exact ⟨List.Pairwise.nil,fun _=>rfl⟩
 | succ n ih=>
  intro h
  rcases Srt.Ex l with rfl | ⟨l0,p,rfl⟩
  ·simp at h
  ·obtain ⟨h1,h2⟩:=ih l0 (by simpa using h)
   rw [Rs]
   refine ⟨Sn p _ h1,fun nm=>?_⟩
   unfold look
   rw [R5,List.filter_append]
   by_cases c:p.1=nm
   ·simp [c,isName]
   ·have:=h2 nm
    unfold look at this
    simp [c,isName] at this ⊢
    exact this
theorem Io (l:List (ByteArray × Val)):Dn (Ub l):=(Vw l _ rfl).1
theorem Ox (nm:ByteArray) (l:List (ByteArray × Val)):look nm (Ub l)=look nm l:=(Vw l _ rfl).2 nm
theorem Auv {l:List (ByteArray × Val)} (h:Dn l):Ub l=l:=K6 (Io l) h fun nm=>Ox nm l
theorem Aon {l:List (ByteArray × Val)} {p:ByteArray × Val} (h:p∈Ub l):p∈l:=by
 rw [Jk (Io l),Ox] at h
 unfold look at h
 exact (List.mem_filter.1 (List.mem_of_getLast? h)).1
theorem Aox (k y:ByteArray × Val):Srt.eqv Anr k y=isName k.1 y:=by
 unfold Srt.eqv isName Anr
 rcases Jm k.1 y.1 with h | h | h
 ·have:=Qb h
  rw [h]
  simp only [Bool.not_true,Bool.false_and]
  symm;simpa using fun e=>this e.symm
 ·rw [h,Dl];simp
 ·have:=Qb h
  rw [h]
  simp [this]
theorem V3 {l r:List (ByteArray × Val)} (h1:Srt.B4 Anr r) (h2:Srt.Iz Anr l r):dedup r=Ub l:=by
 refine K6 (Qr r h1) (Io l) fun nm=>?_
 rw [Vp,Ox]
 have:=h2.2 (nm,Bb)
 have e:Srt.eqv Anr (nm,Bb)=isName nm:=funext fun y=>Aox _ y
 rw [e] at this
 unfold look
 rw [this]
end Go.CT.Sch
namespace Go.CT.Sch
open Go.Proofs
theorem Sd (p:ByteArray × Val): ∀l,Cp (O8 p false l)≤Cp l+Cp [p]
 | []=>by simp [O8,Eg]
 | x::xs=>by
  cases hb:blt x.1 p.1 with
  | true=>
   have:=Sd p xs
   rw [Xr p x xs hb,B6,B6 x xs];omega
  | false=>
   have:=J4 (Gu p.1) (x::xs)
   rw [X9 p x xs hb,B6,B6 p [],Eg];omega
theorem Sm (l:List (ByteArray × Val)):Cp (Ub l)≤Cp l:=by
 have: ∀n (l:List (ByteArray × Val)),l.length=n→Cp (Ub l)≤Cp l:=by
  intro n
  induction n with
  | zero=>intro l h;have:=List.length_eq_zero_iff.1 h;subst this;exact Nat.le_refl _
  | succ n ih=>
   intro l h
   rcases Srt.Ex l with rfl | ⟨l0,p,rfl⟩
   ·simp at h
   ·have h1:=ih l0 (by simpa using h)
    have h2:=Sd p (Ub l0)
    rw [Rs,N9];omega
 exact this _ l rfl
def Auo (l:List (ByteArray × Val)):Val:=⟨5,0,Ar,[],Ub l⟩
theorem Ak3 (l:List (ByteArray × Val)):(Auo l).Au ≤6+Cp l:=by
 have:=Sm l
 rw [Val.Bp]
 simp only [Auo,Val.Aom,Val.Aid,Val.Ah7,Gg,show Ar.size=0 from rfl];omega
theorem Mb (r:List (ByteArray × Val)) (hr:r.length≤1099511627775) (y2 y3 y4:IV): ∀ (n i:Nat) (acc:List (ByteArray × Val)),i+n=r.length→acc.length≤i→Ah1 1073741824 (acc++dedup (r.drop i))→
  W F34 1 [.int r.length,.int i,y2,y3,y4,Srt.LE Fld.enc r,.int 5,.int 0,.str ⟨#[]⟩,.list (acc.map Fld.enc)]=some (Val.Hz ⟨5,0,Ar,[],acc++dedup (r.drop i)⟩)
 | 0,i,acc,h,ha,hm=>by
  rw [Ax7]
  have h1: ¬ i<r.length:=by omega
  have e0:r.drop i= []:=List.drop_of_length_le (by omega)
  rw [e0] at hm ⊢
  rw [show dedup []= [] from rfl,List.append_nil] at hm
  have hc:=P4 ⟨5,0,Ar,[],acc⟩ (.mk _ (Nat.zero_le _) hm.1 (by simp) hm.2)
  have e:IV.agg [.int 5,.int 0,.str ⟨#[]⟩,.list [],.list (acc.map Fld.enc)]=Val.enc ⟨5,0,Ar,[],acc⟩:=by
   rw [←Val.fold];rfl
  simp only [O.Ai,Al,h1,decide_false,Option.bind_some,O.Ab,Bool.false_eq_true,if_false,O.Br,e,hc,Val.Cm,O.Gb,dedup,List.append_nil]
 | n+1,i,acc,h,ha,hm=>by
  have hi:i<r.length:=by omega
  have hw:=A8 (i:=i) (by omega)
  have hap:(acc.length+1) * 96≤Az:=Z9 (by omega) (by omega)
  have gi:=Srt.idx Fld.enc (List.getElem?_eq_getElem hi)
  rw [Ax7]
  have hd:=List.drop_eq_getElem_cons hi
  by_cases c:i+1=r.length
  ·have c':((i+1:Nat):Int)=(r.length:Int):=by omega
   have e1:r.drop (i+1)= []:=List.drop_of_length_le (by omega)
   have ih:=Mb r hr y2 y3 y4 n (i+1) (acc++ [r[i]]) (by omega) (by simp;omega) (by
    rw [e1];rw [hd,e1] at hm
    simpa [dedup] using hm)
   simp only [e1,List.map_append,List.map_cons,List.map_nil] at ih
   rw [hd,e1]
   simp only [O.Ai,Al,hi,decide_true,Option.bind_some,O.Ab,if_true,gi,O.Am,hw,Srt.len,O.eq_int,c',O.B8,O.Bm,List.length_map,List.length_singleton,hap,Adm]
   rw [c'] at ih
   rw [ih]
   simp [dedup]
  ·have hi2:i+1<r.length:=by omega
   have c': ¬ ((i+1:Nat):Int)=(r.length:Int):=by omega
   have gi2:=Srt.idx Fld.enc (List.getElem?_eq_getElem hi2)
   have hd2:=List.drop_eq_getElem_cons hi2
   by_cases d:r[i+1].1 =r[i].1
   ·have ih:=Mb r hr y2 y3 y4 n (i+1) acc (by omega) (by omega) (by
     rw [hd,hd2] at hm;rw [hd2]
     simp only [dedup,d,if_true] at hm
     exact hm)
    rw [hd2] at ih
    rw [hd,hd2]
    simp only [O.Ai,Al,hi,decide_true,Option.bind_some,O.Ab,if_true,gi,O.Am,hw,Srt.len,O.eq_int,c',decide_false,Bool.false_eq_true,if_false,gi2,Fld.Bt,O.Ja,d,Bool.not_true,Adm,dedup,ih]
   ·have ih:=Mb r hr y2 y3 y4 n (i+1) (acc++ [r[i]]) (by omega) (by simp;omega) (by
     rw [hd,hd2] at hm;rw [hd2]
     simp only [dedup,d,if_false] at hm
     simpa using hm)
    rw [hd2] at ih
    simp only [List.map_append,List.map_cons,List.map_nil,List.append_assoc,List.singleton_append] at ih
    rw [hd,hd2]
    simp only [O.Ai,Al,hi,decide_true,Option.bind_some,O.Ab,if_true,gi,O.Am,hw,Srt.len,O.eq_int,c',decide_false,Bool.false_eq_true,if_false,gi2,Fld.Bt,O.Ja,d,Bool.not_false,O.B8,O.Bm,List.length_map,List.length_singleton,hap,Adm,dedup,ih]
theorem Apu (l:List (ByteArray × Val)):(Ub l).length ≤l.length:=by
 have: ∀n (l:List (ByteArray × Val)),l.length=n→(Ub l).length ≤n:=by
  intro n
  induction n with
  | zero=>intro l h;have:=List.length_eq_zero_iff.1 h;subst this;exact Nat.le_refl _
  | succ n ih=>
   intro l h
   rcases Srt.Ex l with rfl | ⟨l0,p,rfl⟩
   ·simp at h
   ·have h1:=ih l0 (by simpa using h)
    have h2:=Xy p (Ub l0) false
    rw [Rs];omega
 exact this _ l rfl
theorem Aay {N:Nat} {l:List (ByteArray × Val)} (h:Ah1 N l):Ah1 N (Ub l):=
 ⟨Nat.le_trans (Apu l) h.1,fun p hp=>h.2 p (Aon hp)⟩
theorem Ael (l:List (ByteArray × Val)) (hl:Ah1 1073741824 l):W F34 0 [.list (l.map Fld.enc)]=some (Auo l).Hz :=by
 have h6:=hl.1
 obtain ⟨r,h1,h2,h3⟩:=Srt.sort ford feqs l (by omega)
 have hc:(l.map Fld.enc).length ≤1073741824:=by rw [List.length_map];omega
 rw [At8]
 have h3':W F36 0 [.list (l.map Fld.enc)]=some [Srt.LE Fld.enc r]:=h3
 have hlen:r.length=l.length:=h2.1.symm
 have h4:=Mb r (by omega) (.int 0) (.int 0) (.str ⟨#[]⟩) r.length 0 [] (by omega) (by simp) (by
  rw [List.drop_zero,List.nil_append,V3 h1 h2];exact Aay hl)
 simp only [List.drop_zero,Int.cast_ofNat_Int,List.map_nil,List.nil_append,V3 h1 h2] at h4
 simp only [Ate,He hc,O.Ag,h3',Srt.len,Option.bind_some]
 exact h4
theorem Av4 (l:List (ByteArray × Val)) (hl:Cp l≤4294967200):W F34 0 [.list (l.map Fld.enc)]=some (Auo l).Hz :=Ael l (Ag8 (by omega))
end Go.CT.Sch
namespace Go.CT.Sch
open Go.Proofs
theorem Mx {β:Type} {a b c d e g:IV} {f:IV→IV→IV→IV→IV→IV→Option β} :calls (some [a,b,c,d,e,g]) 6 f=f a b c d e g:=rfl
def Cn:Sch:=⟨0,0,0,[],Ar,[],[]⟩
def Mk:SFld:=⟨Ar,false,false,[],Cn⟩
theorem Vk:IV.agg [.str ⟨#[]⟩,.bool false,.bool false,.list [],.int 0,.int 0,.int 0,.list [],.str ⟨#[]⟩,.list [],.list []]=Mk.enc:=rfl
inductive SB:Sch→Prop
 | mk (s:Sch):s.it.length≤1→(s.it≠ []→s.f= [])→(s.k=4→s.it.length=1)→(∀x∈s.it,SB x)→(∀p∈s.f,SB p.s)→SB s
theorem SB.one {s:Sch} (h:SB s):s.it.length≤1:=by cases h;assumption
theorem SB.nof {s:Sch} (h:SB s) (hi:s.it≠ []):s.f= []:=by cases h with | mk _ h1 h2 h3 h4 h5=>exact h2 hi
theorem SB.list {s:Sch} (h:SB s) (hi:s.k=4):s.it.length=1:=by cases h with | mk _ h1 h2 h3 h4 h5=>exact h3 hi
theorem SB.Tz {s x:Sch} (h:SB s) (hx:x∈s.it):SB x:=by cases h with | mk _ h1 h2 h3 h4 h5=>exact h4 x hx
theorem SB.Sz {s:Sch} {p:SFld} (h:SB s) (hx:p∈s.f):SB p.s:=by cases h with | mk _ h1 h2 h3 h4 h5=>exact h5 p hx
def Ns (s:Sch) (nm:ByteArray):Option Sch:=match s.it with | []=>(s.fld nm).map (·.s) | t::_=>some t
theorem Anm {s:Sch} {nm:ByteArray} {p:SFld} (h:s.fld nm=some p):p∈s.f∧p.nm=nm:=
 ⟨List.mem_of_find?_eq_some h,by simpa using List.find?_some h⟩
theorem Af6 {s t:Sch} {nm:ByteArray} (h:Ns s nm=some t):t∈s.it∨ ∃p∈s.f,p.nm=nm∧p.s=t:=by
 unfold Ns at h
 split at h
 ·right
  rw [Option.map_eq_some_iff] at h
  obtain ⟨p,hp,rfl⟩:=h
  exact ⟨p,(Anm hp).1,(Anm hp).2,rfl⟩
 ·rename_i t' r e
  cases h
  left;rw [e];simp
theorem SB.sub {s t:Sch} {nm:ByteArray} (hs:SB s) (h:Ns s nm=some t):SB t:=by
 rcases Af6 h with h | ⟨p,hp,_,rfl⟩
 ·exact hs.Tz h
 ·exact hs.Sz hp
theorem N3 {s t:Sch} {nm:ByteArray} (h:Ns s nm=some t):t.Au<s.Au:=by
 rcases Af6 h with h | ⟨p,hp,_,rfl⟩
 ·exact Sch.I3 h
 ·have:=Sch.Dz hp;omega
def H0 (p:List Stp) (c:Int):IV:= .agg [.str (G8 p),.int c]
def Cv (nm:ByteArray):Stp:=⟨1,nm,0,Ar⟩
def isKey (v:Val) (nm:ByteArray):Bool:=(v.get nm).isSome &&decide (((v.get nm).getD Bb).k =3)
def H7 (v:Val) (nm:ByteArray):ByteArray:=((v.get nm).getD Bb).s
def Gs (v:Val) (nm:ByteArray):Bool:=isKey v nm&& !decide (nm=Ar)
def Ha (key:ByteArray) (v:Val) (i:Nat):Stp:=if Gs v key then ⟨3,key,0,H7 v key⟩ else ⟨2,Ar,i,Ar⟩
def sameKey (nm:ByteArray) (k:ByteArray) (u:Val):Bool:=Gs u nm&&decide (H7 u nm=k)
def Awn (key:ByteArray) (prev:List Val) (v:Val) (q:List Stp):List IV:=if Gs v key&&prev.any (sameKey key (H7 v key)) then [H0 q 8] else []
def Km (v:Val) (nm:ByteArray):Bool:=(v.get nm).isSome && !decide (((v.get nm).getD Bb).k =0)
def Ni (v:Val) (p:List Stp) (d:SFld):List IV:=if d.rq&& !Km v d.nm then [H0 (p++ [Cv d.nm]) 7] else []
def Abt (p:List Stp) (sc:Sch) (n:Int):List IV:=if decide (n<sc.mn)||decide (sc.mx<n) then [H0 p 5] else []
mutual
def Qs:Val→Sch→List Stp→List IV
 | ⟨k,n,s,l,f⟩,sc,p=>
  if k=sc.k then
   if k=2 then Abt p sc n
   else if k=3 then (if decide ((s.size:Int)<sc.mn)||decide (sc.mx<(s.size:Int)) then [H0 p 5] else if decide (0<sc.en.length)&& !sc.en.any (fun e=>decide (e=s)) then [H0 p 1] else [])
   else if k=4 then Abt p sc l.length++Nj l sc.key (sc.it.headD Cn) p []
   else if k=5 then Lv f sc p++sc.f.flatMap (Ni ⟨k,n,s,l,f⟩ p)
   else []
  else [H0 p 6]
def Nj:List Val→ByteArray→Sch→List Stp→List Val→List IV
 | [],_,_,_,_=> []
 | v::vs,key,t,p,prev=>(Qs v t (p++ [Ha key v prev.length])++Awn key prev v (p++ [Ha key v prev.length]))++Nj vs key t p (prev++ [v])
def Lv:List (ByteArray × Val)→Sch→List Stp→List IV
 | [],_,_=> []
 | (nm,v)::fs,sc,p=>(match Ns sc nm with | none=> [H0 (p++ [Cv nm]) 1] | some t=>if v.k=0 then [] else Qs v t (p++ [Cv nm]))++Lv fs sc p
end
theorem Ado (v:Val) (sc:Sch) (p:List Stp):Qs v sc p=
  if v.k=sc.k then
   if v.k=2 then Abt p sc v.n
   else if v.k=3 then (if decide ((v.s.size:Int)<sc.mn)||decide (sc.mx<(v.s.size:Int)) then [H0 p 5] else if decide (0<sc.en.length)&& !sc.en.any (fun e=>decide (e=v.s)) then [H0 p 1] else [])
   else if v.k=4 then Abt p sc v.l.length++Nj v.l sc.key (sc.it.headD Cn) p []
   else if v.k=5 then Lv v.f sc p++sc.f.flatMap (Ni v p)
   else []
  else [H0 p 6]:=by
 cases v;rw [Qs];rfl
def Axd (sc:Sch) (p:List Stp) (x:ByteArray × Val):List IV:=match Ns sc x.1 with | none=> [H0 (p++ [Cv x.1]) 1] | some t=>if x.2.k=0 then [] else Qs x.2 t (p++ [Cv x.1])
theorem Me (x:ByteArray × Val) (fs:List (ByteArray × Val)) (sc:Sch) (p:List Stp):Lv (x::fs) sc p=Axd sc p x++Lv fs sc p:=by
 obtain ⟨nm,v⟩:=x;rw [Lv];rfl
theorem Nv (sc:Sch) (p:List Stp):Lv [] sc p= []:=by rw [Lv]
theorem Pj (v:Val) (vs:List Val) (key:ByteArray) (t:Sch) (p:List Stp) (prev:List Val):Nj (v::vs) key t p prev=(Qs v t (p++ [Ha key v prev.length])++Awn key prev v (p++ [Ha key v prev.length]))++Nj vs key t p (prev++ [v]):=by rw [Nj]
theorem Tw (key:ByteArray) (t:Sch) (p:List Stp) (prev:List Val):Nj [] key t p prev= []:=by rw [Nj]
theorem Xw (key:ByteArray) (prev:List Val) (v:Val) (q:List Stp):(Awn key prev v q).length ≤1:=by unfold Awn;split<;>simp
theorem Ait (v:Val) (p:List Stp) (d:SFld):(Ni v p d).length ≤1:=by unfold Ni;split<;>simp
theorem Ra (p:List Stp) (sc:Sch) (n:Int):(Abt p sc n).length ≤1:=by unfold Abt;split<;>simp
theorem Ad1 (v:Val) (p:List Stp): ∀l:List SFld,(l.flatMap (Ni v p)).length ≤l.length
 | []=>by simp
 | d::l=>by
  have:=Ait v p d
  have:=Ad1 v p l
  simp only [List.flatMap_cons,List.length_append,List.length_cons];omega
theorem Re: ∀ (v:Val) (sc:Sch) (p:List Stp),SB sc→(Qs v sc p).length ≤(2+sc.Au) * v.size:=by
 refine Val.ind fun v ih1 ih2 sc p hs=>?_
 have hpos:=v.size_pos
 have one:1≤(2+sc.Au) * v.size:=by
  have:1 * 1≤(2+sc.Au) * v.size:=Nat.mul_le_mul (by omega) hpos
  omega
 have hL: ∀ (t:Sch),SB t→t.Au<sc.Au→ ∀ (l:List Val),(∀x∈l,∀sc p,SB sc→(Qs x sc p).length ≤(2+sc.Au) * x.size)→ ∀ (prev:List Val) (key:ByteArray),(Nj l key t p prev).length ≤(2+sc.Au) * Cb l:=by
  intro t ht htm l
  induction l with
  | nil=>intro _ prev key;rw [Tw];simp
  | cons x l ih=>
   intro h prev key
   have h1:=h x (by simp) t (p++ [Ha key x prev.length]) ht
   have h2:=ih (fun y hy=>h y (by simp [hy])) (prev++ [x]) key
   have h3:=Xw key prev x (p++ [Ha key x prev.length])
   have h4:=x.size_pos
   have h5:(3+t.Au) * x.size≤(2+sc.Au) * x.size:=Nat.mul_le_mul (by omega) (Nat.le_refl _)
   have h6:(3+t.Au) * x.size=(2+t.Au) * x.size+x.size:=by rw [show 3+t.Au=(2+t.Au)+1 by omega,Nat.add_mul,Nat.one_mul]
   rw [Pj]
   simp only [List.length_append,Cb,Nat.mul_add]
   omega
 have hF: ∀ (l:List (ByteArray × Val)),(∀x∈l,∀sc p,SB sc→(Qs x.2 sc p).length ≤(2+sc.Au) * x.2.size)→(Lv l sc p).length ≤(2+sc.Au) * Bn l:=by
  intro l
  induction l with
  | nil=>intro _;rw [Nv];simp
  | cons x l ih=>
   intro h
   have h2:=ih (fun y hy=>h y (by simp [hy]))
   have h4:=x.2.size_pos
   have h7:(Axd sc p x).length ≤(2+sc.Au) * x.2.size:=by
    have h8:1 * 1≤(2+sc.Au) * x.2.size:=Nat.mul_le_mul (by omega) h4
    unfold Axd
    split
    ·simp only [List.length_singleton];omega
    ·rename_i t ht
     split
     ·simp
     ·have h1:=h x (by simp) t (p++ [Cv x.1]) (hs.sub ht)
      have:=N3 ht
      have h5:(2+t.Au) * x.2.size≤(2+sc.Au) * x.2.size:=Nat.mul_le_mul (by omega) (Nat.le_refl _)
      omega
   rw [Me]
   simp only [List.length_append,Bn,Nat.mul_add]
   omega
 have hsz:=v.size_eq
 rw [Ado]
 split
 ·split
  ·have:=Ra p sc v.n;omega
  ·split
   ·split
    ·simpa using one
    ·split
     ·simpa using one
     ·simp
   ·split
    ·rename_i hk hk2 hk3 hk4
     obtain ⟨t,ht⟩:=List.length_eq_one_iff.1 (hs.list (by omega))
     have h1:=hL t (hs.Tz (by rw [ht];simp)) (Sch.I3 (by rw [ht];simp)) v.l ih1 [] sc.key
     have h2:=Ra p sc v.l.length
     have h3:(2+sc.Au) * (1+Cb v.l)≤(2+sc.Au) * v.size:=Nat.mul_le_mul (Nat.le_refl _) (by omega)
     rw [Nat.mul_add] at h3
     rw [ht,List.headD_cons,List.length_append]
     omega
    ·split
     ·have h1:=hF v.f ih2
      have h2:=Ad1 v p sc.f
      have h4:=sc.Ba
      have h3:(2+sc.Au) * (1+Bn v.f)≤(2+sc.Au) * v.size:=Nat.mul_le_mul (Nat.le_refl _) (by omega)
      rw [Nat.mul_add] at h3
      rw [List.length_append]
      omega
     ·simp
 ·simpa using one
theorem Ahm {n:Nat} (h:n≤4398046511104):n * 24≤Az:=by
 have:n * 24≤4398046511104 * 24:=Nat.mul_le_mul h (Nat.le_refl _)
 unfold Az;omega
theorem Ad4 (v:Val) (nm:ByteArray):((v.get nm).getD Bb).s.size ≤v.Au:=by
 unfold Val.get
 split
 ·cases h:v.f.find? fun p=>decide (p.1=nm) with
  | none=>exact Nat.zero_le _
  | some p=>
   have h1:=Val.Dz (List.mem_of_find?_eq_some h)
   have h2:=p.2.Aiy
   simp only [Option.map_some,Option.getD_some];omega
 ·exact Nat.zero_le _
theorem Uk (key:ByteArray) (v:Val) (i:Nat) (h1:key.size≤1048576) (h2:v.Au≤1048576):(Ha key v i).fits :=by
 have:=Ad4 v key
 unfold Ha
 split
 ·exact ⟨by show key.size≤_;omega,by show (H7 v key).size ≤_;unfold H7;omega⟩
 ·exact ⟨by show (0:Nat)≤_;omega,by show (0:Nat)≤_;omega⟩
theorem Hh (nm:ByteArray) (h:nm.size≤1048576):(Cv nm).fits :=⟨by show nm.size≤_;omega,by show (0:Nat)≤_;omega⟩
theorem Gi {p:List Stp} {x:Stp} (hp: ∀s∈p,s.fits) (hx:x.fits): ∀s∈p++ [x],s.fits:=by
 intro s hs
 rcases List.mem_append.1 hs with h | h
 ·exact hp s h
 ·simp at h;subst h;exact hx
end Go.CT.Sch
namespace Go.CT.Sch
open Go.Proofs
theorem Ri (v:Val) (nm:ByteArray) (hv:v.Au≤1048576):W Axp 0 [v.enc,.str nm]=some [.str (H7 v nm),.bool (Gs v nm)]:=by
 rw [Aof]
 unfold H7 Gs isKey
 simp only [Am2 v nm (by omega),Le,Mx,O.Ab,O.Ja,O.eq_int,Option.bind_some,Aw,Ap,Ar]
 cases (v.get nm).isSome<;>by_cases h1:nm=⟨#[]⟩<;>by_cases h2:((v.get nm).getD Bb).k =3<;>simp [h1,h2]
theorem Adu (s:Sch) (l:List Val) (i:Nat) (hi:i<l.length) (hv:l[i].Au ≤1048576):W A0l 0 [s.enc,.list (l.map Val.enc),.int i]=some [(Ha s.key l[i] i).enc]:=by
 rw [An1]
 unfold Ha
 simp only [O.Aj,Int.natCast_nonneg,if_true,Int.toNat_natCast,List.getElem?_map,List.getElem?_eq_getElem hi,Option.map_some,Option.bind_some,Sch.C4,Ri l[i] s.key hv,O.Dc,O.Br,O.Ab]
 split<;>rfl
theorem W8 (p:List Stp) (s:Stp) (hl:p.length≤1099511627776):W Axr 0 [.list (p.map Stp.enc),s.enc]=some [.list ((p++ [s]).map Stp.enc)]:=by
 have h1:(0+p.length) * 48≤Az:=Z9 (by omega) (by omega)
 have h2:(p.length+1) * 48≤Az:=by
  have:(p.length+1) * 48≤1099511627777 * 48:=Nat.mul_le_mul (by omega) (Nat.le_refl _)
  unfold Az;omega
 rw [Aor]
 simp only [O.B8,Option.bind_some,O.Bm,List.length_nil,List.length_map,h1,if_true,List.nil_append,List.length_singleton,h2,List.map_append,List.map_cons,List.map_nil]
theorem Aa4 (p:List Stp) (hp: ∀s∈p,s.fits) (hl:p.length≤1099511627776) (c:Int):W Aiq 0 [.list (p.map Stp.enc),.int c]=some [.list [H0 p c]]:=by
 rw [Apj]
 simp only [Ak2 p hp hl,O.Dc,O.Br,O.B8,Option.bind_some,H0]
theorem Rr (s:Sch) (nm:ByteArray) (hs:s.Au≤1099511627776) (y3 y4 y5 y6 y7 y8 y9:IV): ∀ (n i:Nat),i+n=s.f.length→
  W Ar8 1 [.str nm,.int i,s.enc,y3,y4,y5,y6,y7,y8,y9]=some [(((s.f.drop i).find? fun p=>decide (p.nm=nm)).getD Mk).enc,.bool ((s.f.drop i).find? fun p=>decide (p.nm=nm)).isSome]
 | 0,i,h=>by
  rw [Ae8]
  have h1: ¬ i<s.f.length:=by omega
  simp [h1,List.drop_of_length_le (Nat.le_of_not_lt h1),Vk]
 | n+1,i,h=>by
  have hi:i<s.f.length:=by omega
  have hm:=s.Ba
  have hw:=A8 (i:=i) (by omega)
  have:=Rr s nm hs y3 y4 y5 y6 y7 y8 y9 n (i+1) (by omega)
  rw [Ae8,List.drop_eq_getElem_cons hi]
  simp only [Sch.Hv,O.Ao,List.length_map,O.Ai,Al,hi,decide_true,Option.bind_some,O.Ab,if_true,O.Aj,Int.natCast_nonneg,Int.toNat_natCast,List.getElem?_map,List.getElem?_eq_getElem hi,Option.map_some,SFld.Bt,O.E0,O.Am,hw,this,List.find?_cons]
  by_cases c:s.f[i].nm =nm
  ·simp [c]
  ·have c':decide (s.f[i].nm =nm)=false:=by simpa using c
   simp only [c,c',decide_false,Bool.false_eq_true,if_false]
theorem Zf (s:Sch) (nm:ByteArray) (hs:s.Au≤1099511627776):W Ar8 0 [s.enc,.str nm]=some [((s.fld nm).getD Mk).enc,.bool (s.fld nm).isSome]:=by
 rw [Aou]
 have:=Rr s nm hs (.str ⟨#[]⟩) (.bool false) (.bool false) (.int 0) (.int 0) (.int 0) (.str ⟨#[]⟩) s.f.length 0 (by omega)
 simp only [List.drop_zero,Int.cast_ofNat_Int] at this
 exact this
def Aif (v:Val) (nm:ByteArray):Val:=if Km v nm then (v.get nm).getD Bb else Bb
theorem Acr (v:Val) (nm:ByteArray) (hv:v.Au≤1048576):W A0o 0 [v.enc,.str nm]=some [.int (Aif v nm).k,.int (Aif v nm).n,.str (Aif v nm).s,.list ((Aif v nm).l.map Val.enc),.list ((Aif v nm).f.map Fld.enc),.bool (Km v nm)]:=by
 rw [Aow]
 unfold Aif Km
 simp only [Am2 v nm (by omega),Le,Mx,O.A3,O.eq_int,O.Ab,Option.bind_some]
 cases (v.get nm).isSome with
 | false=>rfl
 | true=>
  by_cases h:((v.get nm).getD Bb).k =0
  ·simp only [h,decide_true];rfl
  ·simp only [h,decide_false];rfl
theorem Tm (s:Sch) (v:Val) (p q:List Stp) (hv:v.Au≤1048576) (hq: ∀s∈q,s.fits) (hl:q.length≤1099511627776) (i:Nat) (hiv:i≤v.l.length) (key:ByteArray) (ok:Bool) (out:List IV) (ho:out.length≤4398046511103): ∀ (n j:Nat) (ag:Bool),j+n=i→
  W Uc 3 [.list (p.map Stp.enc),.int i,.str key,.bool ok,.bool ag,.int j,s.enc,v.enc,.list out,.list (q.map Stp.enc)]
   =W Uc 4 [.list (p.map Stp.enc),.int i,s.enc,v.enc,.list (out++if ag||(ok&&((v.l.take i).drop j).any (sameKey s.key key)) then [H0 q 8] else [])]
 | n,j,ag,h=>by
  have hm:=v.Dm
  have fin:(cnd (.bool ag) (
    calls (W Aiq 0 [.list (q.map Stp.enc),(.int 8)]) 1 fun x12=>
    (O.append 24 (.list out) x12).bind fun x13=>
    W Uc 4 [.list (p.map Stp.enc),.int i,s.enc,v.enc,x13]) (
    W Uc 4 [.list (p.map Stp.enc),.int i,s.enc,v.enc,.list out]))=W Uc 4 [.list (p.map Stp.enc),.int i,s.enc,v.enc,.list (out++if ag then [H0 q 8] else [])]:=by
   cases ag with
   | false=>simp
   | true=>
    have hap:(out.length+1) * 24≤Az:=Ahm (by omega)
    simp only [O.Ab,if_true,Aa4 q hq hl 8,O.Ag,O.Bm,List.length_singleton,hap,Option.bind_some]
  rw [Aq3]
  by_cases c:j<i
  ·obtain ⟨m,rfl⟩: ∃m,n=m+1:=⟨n - 1,by omega⟩
   have hj:j<v.l.length:=by omega
   have hw:=A8 (i:=j) (by omega)
   have hx:=Val.Ir (List.getElem_mem hj)
   have hc:(j:Int)<i:=by omega
   cases ok with
   | false=>
    simp only [O.Ai,hc,decide_true,Option.bind_some,O.Sa,if_true,O.Ab,Bool.false_eq_true,if_false]
    simp only [O.Ab] at fin
    rw [fin];simp
   | true=>
    have hk:=Ri v.l[j] s.key (by omega)
    have hd:(v.l.take i).drop j=v.l[j]::(v.l.take i).drop (j+1):=by
     rw [List.drop_eq_getElem_cons (by simp;omega),List.getElem_take]
    simp only [O.Ai,hc,decide_true,Option.bind_some,O.Sa,if_true,O.Ab,Val.Ce,O.Aj,Int.natCast_nonneg,Int.toNat_natCast,List.getElem?_map,List.getElem?_eq_getElem hj,Option.map_some,Sch.C4,hk,O.Dc,O.E0,Aw,Ap,O.Am,hw]
    rw [Tm s v p q hv hq hl i hiv key true out ho m (j+1) _ (by omega),hd,List.any_cons]
    congr 6
    unfold sameKey
    cases ag<;>cases Gs v.l[j] s.key<;>simp
  ·have hc: ¬ (j:Int)<i:=by omega
   simp only [O.Ai,hc,decide_false,Option.bind_some,O.Sa,Bool.false_eq_true,if_false,O.Ab]
   simp only [O.Ab] at fin
   rw [fin,List.drop_of_length_le (by simp;omega)]
   simp
def Azw (v:Val):Prop:=v.Au≤1048576→ ∀ (s:Sch),SB s→s.Au≤1048576→ ∀p:List Stp,(∀x∈p,x.fits)→p.length+v.Au≤549755813888→W Ajs 0 [s.enc,v.enc,.list (p.map Stp.enc)]=some [.list (Qs v s p)]
theorem R2 (s t:Sch) (v:Val) (p:List Stp) (hv:v.Au≤1048576) (hs:s.Au≤1048576) (ht:s.it= [t]) (hsb:SB s) (hp: ∀s∈p,s.fits) (hl:p.length+v.Au≤549755813888)
  (ih: ∀x∈v.l,Azw x): ∀ (n i:Nat) (out:List IV),i+n=v.l.length→out.length+(2+s.Au) * Cb (v.l.drop i)≤4398046511103→
  W Uc 2 [.list (p.map Stp.enc),.int i,s.enc,v.enc,.list out]=some [.list (out++Nj (v.l.drop i) s.key t p (v.l.take i))]
 | 0,i,out,h,hb=>by
  have h1: ¬ i<v.l.length:=by omega
  rw [Aff,List.drop_of_length_le (by omega),Tw]
  simp only [Val.Ce,O.Ao,List.length_map,Option.bind_some,O.Ai,Al,h1,decide_false,O.Ab,Bool.false_eq_true,if_false,List.append_nil]
 | n+1,i,out,h,hb=>by
  have hi:i<v.l.length:=by omega
  have hm:=v.Dm
  have hw:=A8 (i:=i) (by omega)
  have hx:=Val.Ir (List.getElem_mem hi)
  have htm:t∈s.it:=by rw [ht];simp
  have htmass:=Sch.I3 htm
  have hd:=List.drop_eq_getElem_cons hi
  have hkey:=s.Wb
  rw [hd] at hb ⊢
  rw [Pj]
  have hti:(v.l.take i).length =i:=by simp;omega
  have htk:v.l.take i++ [v.l[i]]=v.l.take (i+1):=by simp
  rw [hti,htk]
  have hq:=Gi hp (Uk s.key v.l[i] i (by omega) (by omega))
  have he1:=ih _ (List.getElem_mem hi) (by omega) t (hsb.Tz htm) (by omega) _ hq (by simp;omega)
  have hlen:=Re v.l[i] t (p++ [Ha s.key v.l[i] i]) (hsb.Tz htm)
  have hdl:=Xw s.key (v.l.take i) v.l[i] (p++ [Ha s.key v.l[i] i])
  simp only [Cb,Nat.mul_add] at hb
  have hsz:(2+t.Au) * v.l[i].size +1≤(2+s.Au) * v.l[i].size :=by
   have h1:=v.l[i].size_pos
   have h2:(3+t.Au) * v.l[i].size ≤(2+s.Au) * v.l[i].size :=Nat.mul_le_mul (by omega) (Nat.le_refl _)
   have h3:(3+t.Au) * v.l[i].size =(2+t.Au) * v.l[i].size +v.l[i].size :=by rw [show 3+t.Au=(2+t.Au)+1 by omega,Nat.add_mul,Nat.one_mul]
   omega
  generalize hE:Qs v.l[i] t (p++ [Ha s.key v.l[i] i])=es1 at *
  have hap:(out.length+es1.length) * 24≤Az:=Ahm (by omega)
  have h3:=Tm s v p (p++ [Ha s.key v.l[i] i]) hv hq (by simp;omega) i (by omega) (H7 v.l[i] s.key) (Gs v.l[i] s.key) (out++es1) (by rw [List.length_append];omega) i 0 false (by omega)
  simp only [Int.cast_ofNat_Int,List.drop_zero,Bool.false_or] at h3
  have hdup:(if (Gs v.l[i] s.key&&(v.l.take i).any (sameKey s.key (H7 v.l[i] s.key)))=true then [H0 (p++ [Ha s.key v.l[i] i]) 8] else [])=Awn s.key (v.l.take i) v.l[i] (p++ [Ha s.key v.l[i] i]):=rfl
  rw [hdup] at h3
  generalize hD:Awn s.key (v.l.take i) v.l[i] (p++ [Ha s.key v.l[i] i])=d at *
  have h4:=R2 s t v p hv hs ht hsb hp hl ih n (i+1) (out++es1++d) (by omega) (by simp only [List.length_append];omega)
  rw [Aff]
  simp only [Val.Ce,O.Ao,List.length_map,Option.bind_some,O.Ai,Al,hi,decide_true,O.Ab,if_true,Adu s v.l i hi (by omega),O.Ag,W8 p (Ha s.key v.l[i] i) (by omega),Sch.Jc,ht,List.map_cons,List.map_nil,O.Aj,Int.le_refl,Int.toNat_zero,List.getElem?_cons_zero,Int.natCast_nonneg,Int.toNat_natCast,List.getElem?_map,List.getElem?_eq_getElem hi,Option.map_some,he1,O.Bm,hap,Sch.C4,Ri v.l[i] s.key (by omega),O.Dc]
  rw [h3,Aqj]
  simp only [O.Am,hw,Option.bind_some]
  rw [h4]
  simp only [List.append_assoc]
theorem Sr (s:Sch) (v:Val) (p:List Stp) (hv:v.Au≤1048576) (hs:s.Au≤1048576) (hp: ∀s∈p,s.fits) (hl:p.length+v.Au≤549755813888): ∀ (n i:Nat) (out:List IV),i+n=s.f.length→out.length+n≤4398046511103→
  W Us 3 [.list (p.map Stp.enc),.int i,s.enc,v.enc,.list out]=some [.list (out++(s.f.drop i).flatMap (Ni v p))]
 | 0,i,out,h,hb=>by
  have h1: ¬ i<s.f.length:=by omega
  rw [Afh,List.drop_of_length_le (by omega)]
  simp only [Sch.Hv,O.Ao,List.length_map,Option.bind_some,O.Ai,Al,h1,decide_false,O.Ab,Bool.false_eq_true,if_false,List.flatMap_nil,List.append_nil]
 | n+1,i,out,h,hb=>by
  have hi:i<s.f.length:=by omega
  have hm:=s.Ba
  have hw:=A8 (i:=i) (by omega)
  have hsf:=Sch.Dz (List.getElem_mem hi)
  have hq:=Gi hp (Hh s.f[i].nm (by omega))
  have hap:(out.length+1) * 24≤Az:=Ahm (by omega)
  have hmk:O.Ct [(.int 1),.str s.f[i].nm,(.int 0),(.str ⟨#[]⟩)]=some (Cv s.f[i].nm).enc :=rfl
  rw [Afh,List.drop_eq_getElem_cons hi,List.flatMap_cons]
  unfold Ni
  simp only [Sch.Hv,O.Ao,List.length_map,Option.bind_some,O.Ai,Al,hi,decide_true,O.Ab,if_true,O.Aj,Int.natCast_nonneg,Int.toNat_natCast,List.getElem?_map,List.getElem?_eq_getElem hi,Option.map_some,SFld.Bt,Acr v s.f[i].nm hv,Mx,SFld.C3,O.A3,Aw,Ap,hmk,W8 p (Cv s.f[i].nm) (by omega),O.Ag,Aa4 _ hq (by simp;omega),O.Bm,List.length_singleton,hap,Aqc,O.Am,hw]
  have e:(if s.f[i].rq =true then !Km v s.f[i].nm else false)=(s.f[i].rq && !Km v s.f[i].nm):=by cases s.f[i].rq<;>simp
  rw [e]
  cases (s.f[i].rq && !Km v s.f[i].nm) with
  | true=>
   have h1:=Sr s v p hv hs hp hl n (i+1) (out++ [H0 (p++ [Cv s.f[i].nm]) 7]) (by omega) (by simp;omega)
   simp only [if_true,h1,List.append_assoc]
   rfl
  | false=>
   have h1:=Sr s v p hv hs hp hl n (i+1) out (by omega) (by omega)
   simp only [Bool.false_eq_true,if_false,h1,List.nil_append]
   rfl
theorem Y3 (s:Sch) (v:Val) (p:List Stp) (hv:v.Au≤1048576) (hs:s.Au≤1048576) (hsb:SB s) (hp: ∀s∈p,s.fits) (hl:p.length+v.Au≤549755813888)
  (ih: ∀x∈v.f,Azw x.2): ∀ (n i:Nat) (out:List IV),i+n=v.f.length→out.length+s.f.length+(2+s.Au) * Bn (v.f.drop i)≤4398046511103→
  W Us 1 [.list (p.map Stp.enc),.int i,s.enc,v.enc,.list out]=some [.list (out++Lv (v.f.drop i) s p++s.f.flatMap (Ni v p))]
 | 0,i,out,h,hb=>by
  have h1: ¬ i<v.f.length:=by omega
  have h3:=Sr s v p hv hs hp hl s.f.length 0 out (by omega) (by omega)
  simp only [Int.cast_ofNat_Int,List.drop_zero] at h3
  rw [Adx,List.drop_of_length_le (by omega),Nv]
  simp only [Val.C4,O.Ao,List.length_map,Option.bind_some,O.Ai,Al,h1,decide_false,O.Ab,Bool.false_eq_true,if_false,List.append_nil,h3]
 | n+1,i,out,h,hb=>by
  have hi:i<v.f.length:=by omega
  have hm:=v.Ba
  have hw:=A8 (i:=i) (by omega)
  have hx:=Val.Dz (List.getElem_mem hi)
  have hd:=List.drop_eq_getElem_cons hi
  rw [hd] at hb ⊢
  rw [Me]
  simp only [Bn,Nat.mul_add] at hb
  have hq:=Gi hp (Hh v.f[i].1 (by omega))
  have hmk:O.Ct [(.int 1),.str v.f[i].1,(.int 0),(.str ⟨#[]⟩)]=some (Cv v.f[i].1).enc :=rfl
  have hpos:=v.f[i].2.size_pos
  have hone:1≤(2+s.Au) * v.f[i].2.size :=by
   have:1 * 1≤(2+s.Au) * v.f[i].2.size :=Nat.mul_le_mul (by omega) hpos
   omega
  -- what this field adds
  have key: ∀es:List IV,es.length≤(2+s.Au) * v.f[i].2.size →W Us 2 [.list (p.map Stp.enc),.int i,s.enc,v.enc,.list (out++es)]=some [.list (out++(es++Lv (v.f.drop (i+1)) s p)++s.f.flatMap (Ni v p))]:=by
   intro es hes
   have h4:=Y3 s v p hv hs hsb hp hl ih n (i+1) (out++es) (by omega) (by rw [List.length_append];omega)
   rw [Apk]
   simp only [O.Am,hw,Option.bind_some,h4,List.append_assoc]
  have sub: ∀t:Sch,Ns s v.f[i].1 =some t→((∃es,Qs v.f[i].2 t (p++ [Cv v.f[i].1])=es∧W Ajs 0 [t.enc,v.f[i].2.enc,.list ((p++ [Cv v.f[i].1]).map Stp.enc)]=some [.list es]∧es.length≤(2+s.Au) * v.f[i].2.size)):=by
   intro t ht
   have htm:=N3 ht
   have h1:=ih _ (List.getElem_mem hi) (by omega) t (hsb.sub ht) (by omega) _ hq (by simp;omega)
   have h2:=Re v.f[i].2 t (p++ [Cv v.f[i].1]) (hsb.sub ht)
   have h5:(2+t.Au) * v.f[i].2.size ≤(2+s.Au) * v.f[i].2.size :=Nat.mul_le_mul (by omega) (Nat.le_refl _)
   exact ⟨_,rfl,h1,by omega⟩
  have hap: ∀es:List IV,es.length≤(2+s.Au) * v.f[i].2.size →(out.length+es.length) * 24≤Az:=fun es h=>Ahm (by omega)
  rw [Adx]
  simp only [Val.C4,O.Ao,List.length_map,Option.bind_some,O.Ai,Al,hi,decide_true,O.Ab,if_true,O.Aj,Int.natCast_nonneg,Int.toNat_natCast,List.getElem?_map,List.getElem?_eq_getElem hi,Option.map_some,Fld.Bt,hmk,W8 p _ (show p.length≤1099511627776 by omega),O.Ag,Zf s v.f[i].1 (by omega),O.Dc,Sch.Jc,O.eq_int,O.A3,Aw,Ap,Fld.C3,O.C8,Fld.Mi,SFld.Acb]
  unfold Axd
  cases hit:s.it with
  | nil=>
   have hsub:Ns s v.f[i].1 =(s.fld v.f[i].1).map (·.s):=by unfold Ns;rw [hit]
   rw [hsub] at sub ⊢
   simp only [List.length_nil,Int.cast_ofNat_Int,decide_true,if_true]
   cases hf:s.fld v.f[i].1 with
   | none=>
    have hap1:=hap [H0 (p++ [Cv v.f[i].1]) 1] (by simpa using hone)
    simp only [Option.isSome_none,Bool.not_false,if_true,Aa4 _ hq (show (p++ [Cv v.f[i].1]).length ≤1099511627776 by simp;omega),O.Ag,O.Bm,hap1,Option.bind_some,Option.map_none]
    exact key _ (by simpa using hone)
   | some d=>
    simp only [Option.isSome_some,Bool.not_true,Bool.false_eq_true,if_false,Option.map_some,Option.getD_some,show ¬ (0:Int)=1 by omega,decide_false,ite_self]
    by_cases hk:v.f[i].2.k =0
    ·simp only [hk,decide_true,Bool.not_true,Bool.false_eq_true,if_false,if_true]
     have:=key [] (by simp)
     simpa using this
    ·obtain ⟨es,he,h1,h2⟩:=sub d.s (by rw [hf];rfl)
     simp only [hk,decide_false,Bool.not_false,if_true,if_false,h1,O.Ag,O.Bm,hap es h2,Option.bind_some,he]
     exact key es h2
  | cons t r=>
   have hr:r= []:=by have:=hsb.one;rw [hit] at this;simpa using this
   subst hr
   have hsub:Ns s v.f[i].1 =some t:=by unfold Ns;rw [hit]
   rw [hsub] at sub ⊢
   simp only [List.length_cons,List.length_nil,Nat.zero_add,Int.cast_ofNat_Int,show ¬ (1:Int)=0 by omega,decide_false,Bool.false_eq_true,if_false,decide_true,List.map_cons,List.map_nil,Int.le_refl,if_true,Int.toNat_zero,List.getElem?_cons_zero,Option.bind_some]
   by_cases hk:v.f[i].2.k =0
   ·simp only [hk,decide_true,Bool.not_true,Bool.false_eq_true,if_false,if_true]
    have:=key [] (by simp)
    simpa using this
   ·obtain ⟨es,he,h1,h2⟩:=sub t rfl
    simp only [Option.map_some,Option.bind_some,hk,decide_false,Bool.not_false,if_true,if_false,h1,O.Ag,O.Bm,hap es h2,Option.bind_some,he]
    exact key es h2
theorem Aai (s:Sch) (v:Val) (p:List Stp) (hp: ∀s∈p,s.fits) (hl:p.length≤1099511627776) (hs:s.Au≤1048576): ∀ (n i:Nat),i+n=s.en.length→
  W Ajs 1 [.list (p.map Stp.enc),.int i,s.enc,v.enc]=some [.list (if decide (0<s.en.length)&& !(s.en.drop i).any (fun e=>decide (e=v.s)) then [H0 p 1] else [])]
 | 0,i,h=>by
  have h1: ¬ i<s.en.length:=by omega
  rw [Aeq,List.drop_of_length_le (by omega)]
  simp only [Sch.Ce,O.Ao,List.length_map,Option.bind_some,O.Ai,Al,h1,decide_false,O.Ab,Bool.false_eq_true,if_false,O.Bj,Aa4 p hp hl,O.Ag,List.any_nil,Bool.not_false,Bool.and_true]
  have e:decide ((0:Int)<(s.en.length:Int))=decide (0<s.en.length):=by simp
  rw [e]
  split<;>simp
 | n+1,i,h=>by
  have hi:i<s.en.length:=by omega
  have hm:=s.Kj
  have hw:=A8 (i:=i) (by omega)
  have he:=Aai s v p hp hl hs n (i+1) (by omega)
  rw [Aeq,List.drop_eq_getElem_cons hi,List.any_cons]
  simp only [Sch.Ce,O.Ao,List.length_map,Option.bind_some,O.Ai,Al,hi,decide_true,O.Ab,if_true,O.Aj,Int.natCast_nonneg,Int.toNat_natCast,List.getElem?_map,List.getElem?_eq_getElem hi,Option.map_some,Val.D3,O.E0,O.Am,hw,he]
  by_cases c:s.en[i]=v.s<;>simp [c]
theorem Aqr: ∀v:Val,Azw v:=by
 refine Val.ind fun v ih1 ih2 hv s hsb hs p hp hl=>?_
 have hat: ∀c,W Aiq 0 [.list (p.map Stp.enc),.int c]=some [.list [H0 p c]]:=Aa4 p hp (by omega)
 have hsz:=v.size_eq
 have hsm:=v.Gy
 have hlf:=s.Ba
 have hmul:(2+s.Au) * v.size≤1048578 * 1048576:=Nat.mul_le_mul (by omega) (by omega)
 rw [Apy,Ado]
 simp only [Val.Bt,Sch.Bt,Option.bind_some,O.C8,O.Ab,hat,O.Ag]
 by_cases hk:v.k=s.k
 ·simp only [hk,decide_true,Bool.not_true,Bool.false_eq_true,if_false,if_true,O.eq_int,Option.bind_some,O.Ab]
  by_cases k2:s.k=2
  ·simp only [k2,decide_true,if_true,Val.C3,Sch.C3,Sch.D3,O.Ai,O.Bj,Option.bind_some,O.Ab,Aw,Ap,Abt]
   by_cases c1:v.n<s.mn<;>by_cases c2:s.mx<v.n<;>simp [c1,c2]
  ·by_cases k3:s.k=3
   ·have h1:=Aai s v p hp (by omega) hs s.en.length 0 (by omega)
    simp only [Int.cast_ofNat_Int,List.drop_zero] at h1
    simp only [k3,show ¬ (3:Int)=2 by omega,decide_false,Bool.false_eq_true,if_false,decide_true,if_true,Val.D3,Sch.C3,Sch.D3,O.A6,O.Ai,O.Bj,Option.bind_some,O.Ab,Aw,Ap,h1]
    by_cases c1:(v.s.size:Int)<s.mn<;>by_cases c2:s.mx<(v.s.size:Int)<;>simp [c1,c2]
   ·by_cases k4:s.k=4
    ·obtain ⟨t,ht⟩:=List.length_eq_one_iff.1 (hsb.list k4)
     have hb:(2+s.Au) * Cb v.l≤(2+s.Au) * v.size:=Nat.mul_le_mul (Nat.le_refl _) (by omega)
     have hl1:=Ra p s v.l.length
     have h2:=R2 s t v p hv hs ht hsb hp hl ih1 v.l.length 0 (Abt p s v.l.length) (by omega) (by simp only [List.drop_zero];omega)
     simp only [Int.cast_ofNat_Int,List.drop_zero,List.take_zero] at h2
     have h0:W Uc 0 [s.enc,v.enc,.list (p.map Stp.enc)]=some [.list (Abt p s v.l.length++Nj v.l s.key t p [])]:=by
      rw [Ao4]
      simp only [Val.Ce,Sch.C3,Sch.D3,O.Ao,List.length_map,O.Ai,O.Bj,Option.bind_some,O.Ab,Aw,Ap,hat,O.Ag,O.Bm,List.length_nil,List.length_singleton,List.nil_append,Aq9]
      have hap:(0+1) * 24≤Az:=Ahm (by omega)
      simp only [hap,if_true,Option.bind_some]
      revert h2
      unfold Abt
      by_cases c1:(v.l.length:Int)<s.mn<;>by_cases c2:s.mx<(v.l.length:Int)<;>simp [c1,c2]
     simp only [k4,show ¬ (4:Int)=2 by omega,show ¬ (4:Int)=3 by omega,decide_false,Bool.false_eq_true,if_false,decide_true,if_true,h0,O.Ag,ht,List.headD_cons]
    ·by_cases k5:s.k=5
     ·have hb:(2+s.Au) * Bn v.f≤(2+s.Au) * v.size:=Nat.mul_le_mul (Nat.le_refl _) (by omega)
      have h2:=Y3 s v p hv hs hsb hp hl ih2 v.f.length 0 [] (by omega) (by simp only [List.drop_zero,List.length_nil];omega)
      simp only [Int.cast_ofNat_Int,List.drop_zero,List.nil_append] at h2
      have h0:W Us 0 [s.enc,v.enc,.list (p.map Stp.enc)]=some [.list (Lv v.f s p++s.f.flatMap (Ni v p))]:=by
       rw [An6,h2]
      simp only [k5,show ¬ (5:Int)=2 by omega,show ¬ (5:Int)=3 by omega,show ¬ (5:Int)=4 by omega,decide_false,Bool.false_eq_true,if_false,decide_true,if_true,h0,O.Ag]
     ·simp only [k2,k3,k4,k5,decide_false,Bool.false_eq_true,if_false]
 ·simp only [hk,decide_false,Bool.not_false,if_true,if_false]
end Go.CT.Sch
namespace Go.CT.Sch
open Go.Proofs
def Aik (m:List (ByteArray × Bool)):List IV:=m.map fun e=> .agg [.str e.1,.bool e.2]
def Qw (m:List (ByteArray × Bool)) (k:ByteArray):Option Bool:=(m.find? fun e=>decide (e.1=k)).map (·.2)
def Aag (k:ByteArray) (b:Bool):List (ByteArray × Bool)→List (ByteArray × Bool)
 | []=> [(k,b)]
 | e::r=>if e.1=k then (k,b)::r else e::Aag k b r
theorem Vz (a b:ByteArray):IV.Mp (.str a) (.str b)=some (decide (a=b)):=by
 have:(a.toList == b.toList)=decide (a=b):=by
  rw [Bool.eq_iff_iff,beq_iff_eq,decide_eq_true_iff];exact O.Pm
 simp only [IV.Mp,this]
theorem Rq (k:ByteArray): ∀m:List (ByteArray × Bool),Q0 (.str k) (Aik m)=some ((Qw m k).map .bool)
 | []=>rfl
 | e::r=>by
  have ih:=Rq k r
  simp only [Aik,List.map_cons,Q0,Vz,Qw,List.find?_cons]
  by_cases c:k=e.1
  ·simp [c]
  ·have c': ¬ e.1=k:=fun h=>c h.symm
   simp only [c,c',decide_false]
   exact ih
theorem Af9 (k:ByteArray) (b:Bool): ∀m:List (ByteArray × Bool),Amc (.str k) (.bool b) (Aik m)=some (Aik (Aag k b m))
 | []=>rfl
 | e::r=>by
  have ih:=Af9 k b r
  simp only [Aik,List.map_cons,Amc,Vz,Aag]
  by_cases c:k=e.1
  ·simp [c]
  ·have c': ¬ e.1=k:=fun h=>c h.symm
   simp only [c,c',decide_false,if_false]
   unfold Aik at ih
   rw [ih];rfl
theorem Y4 (k j:ByteArray) (b:Bool): ∀m:List (ByteArray × Bool),Qw (Aag k b m) j=if k=j then some b else Qw m j
 | []=>by simp only [Aag,Qw,List.find?_cons,List.find?_nil];by_cases c:k=j<;>simp [c]
 | e::r=>by
  have ih:=Y4 k j b r
  unfold Qw at ih ⊢
  unfold Aag
  by_cases c:e.1=k
  ·simp only [c,if_true,List.find?_cons]
   by_cases c2:k=j<;>simp [c2]
  ·simp only [c,if_false,List.find?_cons]
   by_cases c2:e.1=j
   ·have: ¬ k=j:=fun h=>c (c2.trans h.symm)
    simp [c2,this]
   ·simp only [c2,decide_false,ih]
theorem Ap8 (m:List (ByteArray × Bool)) (k:ByteArray):O.Am9 (.bool false) (.list (Aik m)) (.str k)=some (.bool ((Qw m k).getD false)):=by
 unfold O.Am9
 simp only [Prim.ev,Rq,Option.map_some]
 cases Qw m k<;>rfl
theorem Apq (m:List (ByteArray × Bool)) (k:ByteArray):O.Aio (.list (Aik m)) (.str k)=some (.bool (Qw m k).isSome):=by
 unfold O.Aio
 simp only [Prim.ev,Rq,Option.map_some,Option.isSome_map]
theorem Aez (m:List (ByteArray × Bool)) (k:ByteArray) (b:Bool):O.Ams (.list (Aik m)) (.str k) (.bool b)=some (.list (Aik (Aag k b m))):=by
 unfold O.Ams
 simp only [Prim.ev,Af9,Option.map_some]
theorem Am3 (v:Val) (nm:ByteArray) (hv:v.Au≤4294967296):W F73 0 [v.enc,.str nm]=some (Le (v.get nm)):=Ap5 v nm (Hp v (by omega))
theorem Arv (v:Val) (nm:ByteArray) (hv:v.Au≤1048576):W F72 0 [v.enc,.str nm]=some [.str (H7 v nm),.bool (isKey v nm)]:=by
 rw [Awk]
 unfold H7 isKey
 simp only [Am3 v nm (by omega),Le,Mx,O.Ab,O.eq_int,Option.bind_some,Aw,Ap]
 cases (v.get nm).isSome<;>simp
theorem Aic (s:Sch) (v:Val) (i:Int) (hv:v.Au≤1048576):W F71 0 [s.enc,.int i,v.enc]=some [.agg [.int (if Gs v s.key then 3 else 2),.str (if Gs v s.key then s.key else Ar),.int (if Gs v s.key then 0 else i),.str (if Gs v s.key then H7 v s.key else Ar)]]:=by
 rw [Auz]
 have e:(if isKey v s.key=true then !decide (s.key=(⟨#[]⟩:ByteArray)) else false)=Gs v s.key:=by unfold Gs Ar;cases isKey v s.key<;>simp
 simp only [Sch.C4,Option.bind_some,Arv v s.key hv,O.Dc,O.Ja,O.Ab,Aw,Ap,e,O.Br]
 cases Gs v s.key<;>rfl
theorem Ab8 (s:Sch) (v:Val) (i:Nat) (hv:v.Au≤1048576):W F71 0 [s.enc,.int i,v.enc]=some [(Ha s.key v i).enc]:=by
 rw [Aic s v i hv]
 unfold Ha
 cases Gs v s.key<;>rfl
theorem Tn (nm:ByteArray):W F79 0 [.str nm]=some [(Cv nm).enc]:=by
 rw [Atp];rfl
theorem W9 (p:List Stp) (s:Stp) (hl:p.length≤1073741824):W F74 0 [.list (p.map Stp.enc),s.enc]=some [.list ((p++ [s]).map Stp.enc)]:=by
 have h2:((p.map Stp.enc).length + [s.enc].length) * 48≤Az:=by
  have:(p.length+1) * 48≤1099511627777 * 48:=Nat.mul_le_mul (by omega) (Nat.le_refl _)
  simp only [List.length_map,List.length_singleton]
  unfold Az;omega
 have h1:O.K3 [.list (p.map Stp.enc)]=some [.list (p.map Stp.enc)]:=He (by rw [List.length_map];omega)
 rw [Av2]
 simp only [Ax1,h1,O.Ag,A0e,O.Aha,O.B8,Option.bind_some,O.Aac (n:=48) (by simp) h2,List.map_append,List.map_cons,List.map_nil]
theorem Afn (out:List IV) (p:List Stp) (c:Int) (hp: ∀s∈p,s.fits) (hl:p.length≤1099511627776) (ho:out.length≤4398046511103):W F50 0 [.list out,.list (p.map Stp.enc),.int c]=some [.list (out++ [H0 p c])]:=by
 have hap:(out.length+1) * 24≤Az:=Ahm (by omega)
 rw [Atm]
 simp only [Yb p hp hl,O.Dc,O.Br,O.B8,Option.bind_some,O.Bm,List.length_singleton,hap,if_true,H0]
theorem Als (s:Sch):W F77 0 [s.enc]=some [.bool (decide (s.k=5)&&decide (0<s.it.length))]:=by
 rw [Avs]
 by_cases k5:s.k=5<;>simp [k5]
theorem Aj1 (s:Sch):W F29 0 [s.enc]=some [.bool (decide (s.k=5)&&decide (s.it.length=0))]:=by
 rw [As2]
 by_cases k5:s.k=5<;>simp [k5]
theorem Agr (s:Sch) (nm:ByteArray) (hs:s.Au≤1099511627776): ∀ (n i:Nat),i+n=s.f.length→
  ∃r:Int,W F27 1 [.list (s.f.map SFld.enc),.str nm,.int s.f.length,.int i]=some [.int r]∧
   ((((s.f.drop i).find? fun p=>decide (p.nm=nm))=none∧r<0)∨(∃j:Nat,r=j∧s.f[j]?=((s.f.drop i).find? fun p=>decide (p.nm=nm))∧((s.f.drop i).find? fun p=>decide (p.nm=nm)).isSome =true))
 | 0,i,h=>by
  rw [Amz]
  have h1: ¬ i<s.f.length:=by omega
  refine ⟨-1,by simp [h1],.inl ⟨by simp [List.drop_of_length_le (Nat.le_of_not_lt h1)],by omega⟩⟩
 | n+1,i,h=>by
  have hi:i<s.f.length:=by omega
  have hm:=s.Ba
  have hw:=A8 (i:=i) (by omega)
  obtain ⟨r,hr,h2⟩:=Agr s nm hs n (i+1) (by omega)
  rw [Amz,List.drop_eq_getElem_cons hi,List.find?_cons]
  simp only [O.Ai,Al,hi,decide_true,Option.bind_some,O.Ab,if_true,O.Aj,Int.natCast_nonneg,Int.toNat_natCast,List.getElem?_map,List.getElem?_eq_getElem hi,Option.map_some,Avq,SFld.Bt,O.E0,O.Ag,O.Am,hw,hr]
  by_cases c:s.f[i].nm =nm
  ·refine ⟨i,by simp [c],.inr ⟨i,rfl,by simp [c],by simp [c]⟩⟩
  ·have c':decide (s.f[i].nm =nm)=false:=by simpa using c
   simp only [c',Bool.false_eq_true,if_false]
   exact ⟨r,rfl,h2⟩
theorem Agp (s:Sch) (nm:ByteArray) (hs:s.Au≤1099511627776):W F26 0 [s.enc,.str nm]=
  some [(if s.k=5∧s.it.length=0 then (s.fld nm).getD Mk else Mk).enc,.bool (decide (s.k=5∧s.it.length=0)&&(s.fld nm).isSome)]:=by
 obtain ⟨r,hr,h2⟩:=Agr s nm hs s.f.length 0 (by omega)
 have hr':W F27 0 [.list (s.f.map SFld.enc),.str nm]=some [.int r]:=by
  rw [At9]
  simpa using hr
 simp only [List.drop_zero] at h2
 have hf:(s.f.find? fun p=>decide (p.nm=nm))=s.fld nm:=rfl
 rw [hf] at h2
 have hst:=Aj1 s
 rw [Aw9]
 simp only [Sch.Hv,Option.bind_some,hr',O.Ag,O.Ai,O.Ab,hst,O.A3,O.Br,Aw,Ap]
 rcases h2 with ⟨h3,h4⟩ | ⟨j,rfl,h3,h4⟩
 ·rw [h3]
  simp only [h4,decide_true,if_true,Option.getD_none,ite_self,Option.isSome_none,Bool.and_false]
  rfl
 ·have hj: ¬ (j:Int)<0:=by omega
  obtain ⟨d,hd⟩:=Option.isSome_iff_exists.1 h4
  rw [hd] at h3 ⊢
  simp only [hj,decide_false,Bool.false_eq_true,if_false,O.Aj,Int.natCast_nonneg,if_true,Int.toNat_natCast,List.getElem?_map,h3,Option.map_some,Option.getD_some,Option.isSome_some,Bool.and_true,Option.bind_some]
  by_cases c1:s.k=5<;>by_cases c2:s.it.length=0<;>simp [c1,c2,Vk]
theorem Agz (v:Val) (nm:ByteArray) (hv:v.Au≤1048576): ∃w:Val,W F80 0 [v.enc,.str nm]=some [.int w.k,.int w.n,.str w.s,.list (w.l.map Val.enc),.list (w.f.map Fld.enc),.bool (Km v nm)]∧w=(v.get nm).getD Bb:=by
 rw [Avx]
 unfold Km
 refine ⟨_,?_,rfl⟩
 simp only [Am3 v nm (by omega),Le,Mx,O.C8,O.Ab,Option.bind_some,Aw,Ap]
 cases (v.get nm).isSome<;>simp
theorem Of (l:List ByteArray) (x:ByteArray) (hl:l.length≤1099511627776): ∀ (n i:Nat),i+n=l.length→
  ∃r:Int,W F69 1 [.list (l.map .str),.str x,.int l.length,.int i]=some [.int r]∧(decide (0≤r)=(l.drop i).any fun e=>decide (e=x))
 | 0,i,h=>by
  rw [Ajp]
  have h1: ¬ i<l.length:=by omega
  refine ⟨-1,by simp [h1],by simp [List.drop_of_length_le (Nat.le_of_not_lt h1)]⟩
 | n+1,i,h=>by
  have hi:i<l.length:=by omega
  have hw:=A8 (i:=i) (by omega)
  obtain ⟨r,hr,h2⟩:=Of l x hl n (i+1) (by omega)
  rw [Ajp,List.drop_eq_getElem_cons hi,List.any_cons]
  simp only [O.Ai,Al,hi,decide_true,Option.bind_some,O.Ab,if_true,O.Aj,Int.natCast_nonneg,Int.toNat_natCast,List.getElem?_map,List.getElem?_eq_getElem hi,Option.map_some,O.E0,O.Am,hw,hr]
  by_cases c:x=l[i]
  ·refine ⟨i,by simp [c],by simp [c]⟩
  ·have c': ¬ l[i]=x:=fun h=>c h.symm
   simp only [c,decide_false,Bool.false_eq_true,if_false]
   exact ⟨r,rfl,by simp [c',h2]⟩
theorem Acw (l:List ByteArray) (x:ByteArray) (hl:l.length≤1099511627776):W F68 0 [.list (l.map .str),.str x]=some [.bool (l.any fun e=>decide (e=x))]:=by
 obtain ⟨r,hr,h2⟩:=Of l x hl l.length 0 (by omega)
 have hr':W F69 0 [.list (l.map .str),.str x]=some [.int r]:=by
  rw [Awq];simpa using hr
 rw [Awc]
 simp only [hr',O.Ag,O.Ek,Option.bind_some,h2,List.drop_zero]
def PgE (v:Val):Prop:=v.Au≤1048576→ ∀ (s:Sch),SB s→s.Au≤1048576→ ∀ (p:List Stp) (out:List IV),(∀x∈p,x.fits)→p.length+v.Au≤1073741824→out.length+(2+s.Au) * v.size≤4398046511103→
 W F49 0 [.list out,s.enc,v.enc,.list (p.map Stp.enc)]=some [.list (out++Qs v s p)]
theorem Aax (s t:Sch) (v:Val) (p:List Stp) (hv:v.Au≤1048576) (hs:s.Au≤1048576) (ht:s.it= [t]) (hsb:SB s) (hp: ∀s∈p,s.fits) (hl:p.length+v.Au≤1073741824)
  (ih: ∀x∈v.l,PgE x): ∀ (n i:Nat) (out:List IV) (m:List (ByteArray × Bool)),i+n=v.l.length→out.length+(2+s.Au) * Cb (v.l.drop i)≤4398046511103→
  (∀k,(Qw m k).getD false=(v.l.take i).any (sameKey s.key k))→
  W F70 2 [.list (p.map Stp.enc),.list (v.l.map Val.enc),.int v.l.length,.int i,s.enc,.list (Aik m),.list out]=some [.list (out++Nj (v.l.drop i) s.key t p (v.l.take i))]
 | 0,i,out,m,h,hb,hM=>by
  have h1: ¬ i<v.l.length:=by omega
  rw [Ai6,List.drop_of_length_le (by omega),Tw]
  simp only [O.Ai,Al,h1,decide_false,Option.bind_some,O.Ab,Bool.false_eq_true,if_false,List.append_nil]
 | n+1,i,out,m,h,hb,hM=>by
  have hi:i<v.l.length:=by omega
  have hm:=v.Dm
  have hw:=A8 (i:=i) (by omega)
  have hx:=Val.Ir (List.getElem_mem hi)
  have htm:t∈s.it:=by rw [ht];simp
  have htmass:=Sch.I3 htm
  have hd:=List.drop_eq_getElem_cons hi
  have hkey:=s.Wb
  rw [hd] at hb ⊢
  rw [Pj]
  have hti:(v.l.take i).length =i:=by simp;omega
  have htk:v.l.take i++ [v.l[i]]=v.l.take (i+1):=by simp
  rw [hti,htk]
  have hq:=Gi hp (Uk s.key v.l[i] i (by omega) (by omega))
  have hlen:=Re v.l[i] t (p++ [Ha s.key v.l[i] i]) (hsb.Tz htm)
  have hdl:=Xw s.key (v.l.take i) v.l[i] (p++ [Ha s.key v.l[i] i])
  simp only [Cb,Nat.mul_add] at hb
  have hsz:(2+t.Au) * v.l[i].size +1≤(2+s.Au) * v.l[i].size :=by
   have h1:=v.l[i].size_pos
   have h2:(3+t.Au) * v.l[i].size ≤(2+s.Au) * v.l[i].size :=Nat.mul_le_mul (by omega) (Nat.le_refl _)
   have h3:(3+t.Au) * v.l[i].size =(2+t.Au) * v.l[i].size +v.l[i].size :=by rw [show 3+t.Au=(2+t.Au)+1 by omega,Nat.add_mul,Nat.one_mul]
   omega
  have he1:=ih _ (List.getElem_mem hi) (by omega) t (hsb.Tz htm) (by omega) (p++ [Ha s.key v.l[i] i]) out hq (by simp;omega) (by omega)
  generalize hE:Qs v.l[i] t (p++ [Ha s.key v.l[i] i])=es1 at *
  have hany: ∀k,(v.l.take (i+1)).any (sameKey s.key k)=((v.l.take i).any (sameKey s.key k)||sameKey s.key k v.l[i]):=by
   intro k;rw [←htk,List.any_append];simp
  have go: ∀ (es:List IV) (m':List (ByteArray × Bool)),es.length≤(2+s.Au) * v.l[i].size →(∀k,(Qw m' k).getD false=(v.l.take (i+1)).any (sameKey s.key k))→
    W F70 4 [.list (p.map Stp.enc),.list (v.l.map Val.enc),.int v.l.length,.int i,s.enc,.list (Aik m'),.list (out++es)]=some [.list (out++(es++Nj (v.l.drop (i+1)) s.key t p (v.l.take (i+1))))]:=by
   intro es m' hes hM'
   have h4:=Aax s t v p hv hs ht hsb hp hl ih n (i+1) (out++es) m' (by omega) (by rw [List.length_append];omega) hM'
   rw [As5]
   simp only [O.Am,hw,Option.bind_some]
   rw [h4,List.append_assoc]
  have ek:(if isKey v.l[i] s.key=true then !decide (s.key=(⟨#[]⟩:ByteArray)) else false)=Gs v.l[i] s.key:=by unfold Gs Ar;cases isKey v.l[i] s.key<;>simp
  rw [Ai6]
  simp only [O.Ai,Al,hi,decide_true,Option.bind_some,O.Ab,if_true,O.Aj,Int.natCast_nonneg,Int.toNat_natCast,List.getElem?_map,List.getElem?_eq_getElem hi,Option.map_some,Ab8 s v.l[i] i (by omega),O.Ag,W9 p (Ha s.key v.l[i] i) (by omega),Sch.Jc,ht,List.map_cons,List.map_nil,Int.le_refl,Int.toNat_zero,List.getElem?_cons_zero,he1,Sch.C4,Arv v.l[i] s.key (by omega),O.Dc,O.Ja,Aw,Ap,ek,Ap8,Apq,hM]
  unfold Awn
  cases hk:Gs v.l[i] s.key with
  | false=>
   simp only [Bool.false_eq_true,if_false,Bool.false_and,List.append_nil]
   refine go es1 m (by omega) fun k=>?_
   rw [hM,hany]
   simp [sameKey,hk]
  | true=>
   have hM': ∀k,(Qw (Aag (H7 v.l[i] s.key) true m) k).getD false=(v.l.take (i+1)).any (sameKey s.key k):=by
    intro k
    rw [Y4,hany]
    unfold sameKey at hM ⊢
    by_cases c:H7 v.l[i] s.key=k
    ·simp [c,hk]
    ·simp [c,hM]
   simp only [if_true,Bool.true_and]
   cases hdup:(v.l.take i).any (sameKey s.key (H7 v.l[i] s.key)) with
   | true=>
    simp only [if_true,Afn _ _ 8 hq (show (p++ [Ha s.key v.l[i] i]).length ≤1099511627776 by simp;omega) (show (out++es1).length ≤4398046511103 by rw [List.length_append];omega),O.Ag,Am7,Aez,Option.bind_some]
    have h5:=go (es1++ [H0 (p++ [Ha s.key v.l[i] i]) 8]) _ (by simp;omega) hM'
    simp only [←List.append_assoc] at h5 ⊢
    exact h5
   | false=>
    simp only [Bool.false_eq_true,if_false,Am7,Aez,Option.bind_some,List.append_nil]
    exact go es1 _ (by omega) hM'
theorem Wg (s:Sch) (v:Val) (p:List Stp) (hv:v.Au≤1048576) (hs:s.Au≤1048576) (hp: ∀s∈p,s.fits) (hl:p.length+v.Au≤1073741824): ∀ (n i:Nat) (out:List IV),i+n=s.f.length→out.length+n≤4398046511103→
  W F78 3 [.list (p.map Stp.enc),.list (s.f.map SFld.enc),.int s.f.length,.int i,v.enc,.list out]=some [.list (out++(s.f.drop i).flatMap (Ni v p))]
 | 0,i,out,h,hb=>by
  have h1: ¬ i<s.f.length:=by omega
  rw [Ajg,List.drop_of_length_le (by omega)]
  simp only [Option.bind_some,O.Ai,Al,h1,decide_false,O.Ab,Bool.false_eq_true,if_false,List.flatMap_nil,List.append_nil]
 | n+1,i,out,h,hb=>by
  have hi:i<s.f.length:=by omega
  have hm:=s.Ba
  have hw:=A8 (i:=i) (by omega)
  have hsf:=Sch.Dz (List.getElem_mem hi)
  have hq:=Gi hp (Hh s.f[i].nm (by omega))
  obtain ⟨w,hw1,_⟩:=Agz v s.f[i].nm hv
  rw [Ajg,List.drop_eq_getElem_cons hi,List.flatMap_cons]
  unfold Ni
  have e:(if s.f[i].rq =true then !Km v s.f[i].nm else false)=(s.f[i].rq && !Km v s.f[i].nm):=by cases s.f[i].rq<;>simp
  simp only [Option.bind_some,O.Ai,Al,hi,decide_true,O.Ab,if_true,O.Aj,Int.natCast_nonneg,Int.toNat_natCast,List.getElem?_map,List.getElem?_eq_getElem hi,Option.map_some,SFld.Bt,hw1,Mx,SFld.C3,O.A3,Aw,Ap,Tn,O.Ag,W9 p (Cv s.f[i].nm) (by omega),Afn out _ 7 hq (show (p++ [Cv s.f[i].nm]).length ≤1099511627776 by simp;omega) (by omega),Avp,O.Am,hw,e]
  cases (s.f[i].rq && !Km v s.f[i].nm) with
  | true=>
   have h1:=Wg s v p hv hs hp hl n (i+1) (out++ [H0 (p++ [Cv s.f[i].nm]) 7]) (by omega) (by simp;omega)
   simp only [if_true,h1,List.append_assoc]
   rfl
  | false=>
   have h1:=Wg s v p hv hs hp hl n (i+1) out (by omega) (by omega)
   simp only [Bool.false_eq_true,if_false,h1,List.nil_append]
   rfl
theorem Arj (s:Sch) (v:Val) (p:List Stp) (hv:v.Au≤1048576) (hs:s.Au≤1048576) (hsb:SB s) (hp: ∀s∈p,s.fits) (hl:p.length+v.Au≤1073741824) (ih: ∀x∈v.f,PgE x.2) (i:Nat) (hi:i<v.f.length) (out:List IV) (hb:out.length+(2+s.Au) * v.f[i].2.size ≤4398046511103) (t:Sch) (ht:Ns s v.f[i].1 =some t):
  W F49 0 [.list out,t.enc,v.f[i].2.enc,.list ((p++ [Cv v.f[i].1]).map Stp.enc)]=some [.list (out++Qs v.f[i].2 t (p++ [Cv v.f[i].1]))]∧(Qs v.f[i].2 t (p++ [Cv v.f[i].1])).length ≤(2+s.Au) * v.f[i].2.size :=by
 have hm:=v.Ba
 have hx:=Val.Dz (List.getElem_mem hi)
 have hq:=Gi hp (Hh v.f[i].1 (by omega))
 have htm:=N3 ht
 have h2:=Re v.f[i].2 t (p++ [Cv v.f[i].1]) (hsb.sub ht)
 have h5:(2+t.Au) * v.f[i].2.size ≤(2+s.Au) * v.f[i].2.size :=Nat.mul_le_mul (by omega) (Nat.le_refl _)
 exact ⟨ih _ (List.getElem_mem hi) (by omega) t (hsb.sub ht) (by omega) _ out hq (by simp;omega) (by omega),by omega⟩
theorem Yq (s t:Sch) (v:Val) (p:List Stp) (hv:v.Au≤1048576) (hs:s.Au≤1048576) (ht:s.it= [t]) (hsb:SB s) (hp: ∀s∈p,s.fits) (hl:p.length+v.Au≤1073741824)
  (ih: ∀x∈v.f,PgE x.2): ∀ (n i:Nat) (out:List IV),i+n=v.f.length→out.length+(2+s.Au) * Bn (v.f.drop i)≤4398046511103→
  W F49 1 [.list (p.map Stp.enc),.list (v.f.map Fld.enc),.int v.f.length,.int i,s.enc,.list out]=some [.list (out++Lv (v.f.drop i) s p)]
 | 0,i,out,h,hb=>by
  have h1: ¬ i<v.f.length:=by omega
  rw [Am8,List.drop_of_length_le (by omega),Nv]
  simp only [O.Ai,Al,h1,decide_false,Option.bind_some,O.Ab,Bool.false_eq_true,if_false,List.append_nil]
 | n+1,i,out,h,hb=>by
  have hi:i<v.f.length:=by omega
  have hm:=v.Ba
  have hw:=A8 (i:=i) (by omega)
  have hd:=List.drop_eq_getElem_cons hi
  rw [hd] at hb ⊢
  rw [Me]
  simp only [Bn,Nat.mul_add] at hb
  have hsub:Ns s v.f[i].1 =some t:=by unfold Ns;rw [ht]
  have key: ∀es:List IV,es.length≤(2+s.Au) * v.f[i].2.size →W F49 2 [.list (p.map Stp.enc),.list (v.f.map Fld.enc),.int v.f.length,.int i,s.enc,.list (out++es)]=some [.list (out++(es++Lv (v.f.drop (i+1)) s p))]:=by
   intro es hes
   have h4:=Yq s t v p hv hs ht hsb hp hl ih n (i+1) (out++es) (by omega) (by rw [List.length_append];omega)
   rw [Awe]
   simp only [O.Am,hw,Option.bind_some,h4,List.append_assoc]
  obtain ⟨h1,h2⟩:=Arj s v p hv hs hsb hp hl ih i hi out (by omega) t hsub
  rw [Am8]
  unfold Axd
  rw [hsub]
  simp only [O.Ai,Al,hi,decide_true,Option.bind_some,O.Ab,if_true,O.Aj,Int.natCast_nonneg,Int.toNat_natCast,List.getElem?_map,List.getElem?_eq_getElem hi,Option.map_some,Fld.C3,O.C8,Sch.Jc,ht,List.map_cons,List.map_nil,Int.le_refl,Int.toNat_zero,List.getElem?_cons_zero,Fld.Mi,Fld.Bt,Tn,O.Ag,W9 p (Cv v.f[i].1) (by omega),h1]
  by_cases hk:v.f[i].2.k =0
  ·simp only [hk,decide_true,Bool.not_true,Bool.false_eq_true,if_false,if_true]
   have:=key [] (by simp)
   simpa using this
  ·simp only [hk,decide_false,Bool.not_false,if_true,if_false]
   exact key _ h2
theorem Afm (s:Sch) (v:Val) (p:List Stp) (hv:v.Au≤1048576) (hs:s.Au≤1048576) (hk5:s.k=5) (hit:s.it= []) (hsb:SB s) (hp: ∀s∈p,s.fits) (hl:p.length+v.Au≤1073741824)
  (ih: ∀x∈v.f,PgE x.2): ∀ (n i:Nat) (out:List IV),i+n=v.f.length→out.length+s.f.length+(2+s.Au) * Bn (v.f.drop i)≤4398046511103→
  W F78 1 [.list (p.map Stp.enc),.list (v.f.map Fld.enc),.int v.f.length,.int i,s.enc,v.enc,.list out]=some [.list (out++Lv (v.f.drop i) s p++s.f.flatMap (Ni v p))]
 | 0,i,out,h,hb=>by
  have h1: ¬ i<v.f.length:=by omega
  have h3:=Wg s v p hv hs hp hl s.f.length 0 out (by omega) (by omega)
  simp only [Int.cast_ofNat_Int,List.drop_zero] at h3
  rw [Aju,List.drop_of_length_le (by omega),Nv]
  simp only [O.Ai,Al,h1,decide_false,Option.bind_some,O.Ab,Bool.false_eq_true,if_false,Sch.Hv,O.Ao,List.length_map,h3,List.append_nil]
 | n+1,i,out,h,hb=>by
  have hi:i<v.f.length:=by omega
  have hm:=v.Ba
  have hw:=A8 (i:=i) (by omega)
  have hx:=Val.Dz (List.getElem_mem hi)
  have hd:=List.drop_eq_getElem_cons hi
  rw [hd] at hb ⊢
  rw [Me]
  simp only [Bn,Nat.mul_add] at hb
  have hpos:=v.f[i].2.size_pos
  have hone:1≤(2+s.Au) * v.f[i].2.size :=by
   have:1 * 1≤(2+s.Au) * v.f[i].2.size :=Nat.mul_le_mul (by omega) hpos
   omega
  have hq:=Gi hp (Hh v.f[i].1 (by omega))
  have hsub:Ns s v.f[i].1 =(s.fld v.f[i].1).map (·.s):=by unfold Ns;rw [hit]
  have key: ∀es:List IV,es.length≤(2+s.Au) * v.f[i].2.size →W F78 2 [.list (p.map Stp.enc),.list (v.f.map Fld.enc),.int v.f.length,.int i,s.enc,v.enc,.list (out++es)]=some [.list (out++(es++Lv (v.f.drop (i+1)) s p)++s.f.flatMap (Ni v p))]:=by
   intro es hes
   have h4:=Afm s v p hv hs hk5 hit hsb hp hl ih n (i+1) (out++es) (by omega) (by rw [List.length_append];omega)
   rw [Auh]
   simp only [O.Am,hw,Option.bind_some,h4,List.append_assoc]
  rw [Aju]
  unfold Axd
  simp only [O.Ai,Al,hi,decide_true,Option.bind_some,O.Ab,if_true,O.Aj,Int.natCast_nonneg,Int.toNat_natCast,List.getElem?_map,List.getElem?_eq_getElem hi,Option.map_some,Fld.Bt,Tn,O.Ag,W9 p (Cv v.f[i].1) (by omega),Agp s v.f[i].1 (by omega),O.Dc,hk5,hit,List.length_nil,and_self,decide_true,Bool.true_and,O.A3,Fld.C3,O.C8,Fld.Mi,SFld.Acb]
  rw [hsub]
  cases hf:s.fld v.f[i].1 with
  | none=>
   simp only [Option.isSome_none,Bool.not_false,if_true,Afn out _ 1 hq (show (p++ [Cv v.f[i].1]).length ≤1099511627776 by simp;omega) (by omega),O.Ag,Option.map_none]
   exact key _ (by simpa using hone)
  | some d=>
   simp only [Option.isSome_some,Bool.not_true,Bool.false_eq_true,if_false,Option.map_some,Option.getD_some]
   by_cases hk:v.f[i].2.k =0
   ·simp only [hk,decide_true,Bool.not_true,Bool.false_eq_true,if_false,if_true]
    have:=key [] (by simp)
    simpa using this
   ·obtain ⟨h1,h2⟩:=Arj s v p hv hs hsb hp hl ih i hi out (by omega) d.s (by rw [hsub,hf];rfl)
    simp only [hk,decide_false,Bool.not_false,if_true,if_false,h1,O.Ag]
    exact key _ h2
theorem An5: ∀v:Val,PgE v:=by
 refine Val.ind fun v ih1 ih2 hv s hsb hs p out hp hl hb=>?_
 have hpos:=v.size_pos
 have hone:1≤(2+s.Au) * v.size:=by
  have:1 * 1≤(2+s.Au) * v.size:=Nat.mul_le_mul (by omega) hpos
  omega
 have hat: ∀c,W F50 0 [.list out,.list (p.map Stp.enc),.int c]=some [.list (out++ [H0 p c])]:=fun c=>Afn out p c hp (by omega) (by omega)
 have hsz:=v.size_eq
 have hlf:=s.Ba
 have hle:=s.Kj
 rw [Aw0,Ado]
 simp only [Val.Bt,Sch.Bt,Option.bind_some,O.C8,O.Ab,hat,O.Ag]
 by_cases hk:v.k=s.k
 ·simp only [hk,decide_true,Bool.not_true,Bool.false_eq_true,if_false,if_true,O.eq_int,Option.bind_some,O.Ab]
  by_cases k2:s.k=2
  ·simp only [k2,decide_true,if_true,Val.C3,Sch.C3,Sch.D3,O.Ai,O.Bj,Option.bind_some,O.Ab,Aw,Ap,Abt]
   by_cases c1:v.n<s.mn<;>by_cases c2:s.mx<v.n<;>simp [c1,c2]
  ·by_cases k3:s.k=3
   ·simp only [k3,show ¬ (3:Int)=2 by omega,decide_false,Bool.false_eq_true,if_false,decide_true,if_true,Val.D3,Sch.C3,Sch.D3,Sch.Ce,O.Ao,List.length_map,O.A6,O.Ai,O.Bj,Option.bind_some,O.Ab,Aw,Ap,Acw s.en v.s (by omega),O.Ag,O.A3]
    have e:decide ((0:Int)<(s.en.length:Int))=decide (0<s.en.length):=by simp
    rw [e]
    by_cases c1:(v.s.size:Int)<s.mn<;>by_cases c2:s.mx<(v.s.size:Int)<;>by_cases c3:0<s.en.length<;>cases (s.en.any fun e=>decide (e=v.s))<;>simp [c1,c2,c3]
   ·by_cases k4:s.k=4
    ·obtain ⟨t,ht⟩:=List.length_eq_one_iff.1 (hsb.list k4)
     have hb2:(2+s.Au) * (1+Cb v.l)≤(2+s.Au) * v.size:=Nat.mul_le_mul (Nat.le_refl _) (by omega)
     rw [Nat.mul_add] at hb2
     have hl1:=Ra p s v.l.length
     have h2:=Aax s t v p hv hs ht hsb hp hl ih1 v.l.length 0 (out++Abt p s v.l.length) [] (by omega) (by simp only [List.drop_zero,List.length_append];omega) (fun k=>rfl)
     simp only [Int.cast_ofNat_Int,List.drop_zero,List.take_zero] at h2
     have h0:W F70 0 [.list out,s.enc,v.enc,.list (p.map Stp.enc)]=some [.list (out++(Abt p s v.l.length++Nj v.l s.key t p []))]:=by
      have h3: ∀o:List IV,o=out++Abt p s v.l.length→W F70 1 [.list (p.map Stp.enc),s.enc,v.enc,.list o]=some [.list (out++(Abt p s v.l.length++Nj v.l s.key t p []))]:=by
       intro o ho
       rw [Atg,ho]
       simp only [Val.Ce,O.Ao,List.length_map,Option.bind_some]
       rw [←List.append_assoc]
       exact h2
      rw [As6]
      simp only [Val.Ce,Sch.C3,Sch.D3,O.Ao,List.length_map,O.Ai,O.Bj,Option.bind_some,O.Ab,Aw,Ap,hat,O.Ag]
      by_cases c1:(v.l.length:Int)<s.mn<;>by_cases c2:s.mx<(v.l.length:Int)<;>simp only [c1,c2,decide_true,decide_false,if_true,if_false,Bool.false_eq_true]<;>exact h3 _ (by simp [Abt,c1,c2])
     simp only [k4,show ¬ (4:Int)=2 by omega,show ¬ (4:Int)=3 by omega,decide_false,Bool.false_eq_true,if_false,decide_true,if_true,h0,O.Ag,ht,List.headD_cons]
    ·by_cases k5:s.k=5
     ·have hb2:(2+s.Au) * (1+Bn v.f)≤(2+s.Au) * v.size:=Nat.mul_le_mul (Nat.le_refl _) (by omega)
      rw [Nat.mul_add] at hb2
      simp only [k5,show ¬ (5:Int)=2 by omega,show ¬ (5:Int)=3 by omega,show ¬ (5:Int)=4 by omega,decide_false,Bool.false_eq_true,if_false,decide_true,if_true,Als,O.Ag,Bool.true_and,O.Ab]
      cases hit:s.it with
      | nil=>
       have h2:=Afm s v p hv hs k5 hit hsb hp hl ih2 v.f.length 0 out (by omega) (by simp only [List.drop_zero];omega)
       simp only [Int.cast_ofNat_Int,List.drop_zero] at h2
       have h0:W F78 0 [.list out,s.enc,v.enc,.list (p.map Stp.enc)]=some [.list (out++(Lv v.f s p++s.f.flatMap (Ni v p)))]:=by
        rw [Avi,←List.append_assoc]
        simp only [Val.C4,O.Ao,List.length_map,Option.bind_some]
        exact h2
       simp only [List.length_nil,Nat.lt_irrefl,decide_false,Bool.false_eq_true,if_false,h0,O.Ag]
      | cons t r=>
       have hr:r= []:=by have:=hsb.one;rw [hit] at this;simpa using this
       subst hr
       have hnf:=hsb.nof (by rw [hit];simp)
       have h2:=Yq s t v p hv hs hit hsb hp hl ih2 v.f.length 0 out (by omega) (by simp only [List.drop_zero];omega)
       simp only [Int.cast_ofNat_Int,List.drop_zero] at h2
       simp only [List.length_cons,Nat.zero_lt_succ,decide_true,if_true,Val.C4,O.Ao,List.length_map,Option.bind_some,hnf,List.flatMap_nil,List.append_nil]
       exact h2
     ·simp only [k2,k3,k4,k5,decide_false,Bool.false_eq_true,if_false,Als,O.Ag,Bool.false_and,O.Ab,List.append_nil]
 ·simp only [hk,decide_false,Bool.not_false,if_true,if_false]
theorem Ai0 (v:Val) (hv:v.Au≤1048576) (s:Sch) (hsb:SB s) (hs:s.Au≤1048576):W F48 0 [s.enc,v.enc]=some [.list (Qs v s [])]:=by
 have hsm:=v.Gy
 have hmul:(2+s.Au) * v.size≤1048578 * 1048576:=Nat.mul_le_mul (by omega) (by omega)
 have h:=An5 v hv s hsb hs [] [] (by simp) (by simp;omega) (by simp;omega)
 simp only [List.map_nil,List.nil_append] at h
 rw [Avk]
 simp only [h,O.Ag]
end Go.CT.Sch
namespace Go.CT.Sch
open Go.Proofs
def H2 (o:Option ByteArray) (x:ByteArray):Bool:=match o with | none=>true | some q=>blt q x
def Anw (mn mx:Int):Option ByteArray→List ByteArray→Bool
 | _,[]=>true
 | o,x::r=>I2 x&&decide (mn≤x.size)&&decide ((x.size:Int)≤mx)&&H2 o x&&Anw mn mx (some x) r
def Axn (x:SFld):Bool:=x.df.all fun v=> !decide (v.k=0)&&v.valid&&decide ((Qs v x.s []).length =0)
def fOk (g:Sch→Bool):Option ByteArray→List SFld→Bool
 | _,[]=>true
 | o,x::r=>Cf x.nm&&H2 o x.nm&&g x.s&&decide (x.df.length≤1)&&Axn x&&fOk g (some x.nm) r
def G7 (s:Sch):Bool:=decide (s.key=Ar)&&decide (s.it.length=0)&&decide (s.f.length=0)
def Ahf (s:Sch) (m:Int):Bool:=decide (0≤s.mn)&&decide (s.mn≤s.mx)&&decide (s.mx≤m)
def Yy (s:Sch):Bool:=decide (s.key=Ar)||(match s.it with | t::_=>decide (t.k=5)&&(t.fld s.key).isSome &&((t.fld s.key).getD Mk).rq &&decide (((t.fld s.key).getD Mk).s.k =3) | []=>false)
def B9:Nat→Sch→Bool
 | 0,_=>false
 | d+1,s=>
  if s.k=1 then G7 s&&decide (s.mn=0)&&decide (s.mx=0)&&decide (s.en.length=0)
  else if s.k=2 then G7 s&&decide (-1000000000000000≤s.mn)&&decide (s.mn≤s.mx)&&decide (s.mx≤1000000000000000)&&decide (s.en.length=0)
  else if s.k=3 then G7 s&&Ahf s 200&&Anw s.mn s.mx none s.en&&decide (s.en.length≤64)
  else if s.k=4 then Ahf s 64&&decide (s.en.length=0)&&decide (s.f.length=0)&&decide (s.it.length=1)&&Yy s&&s.it.all (B9 d)
  else if s.k=5 then decide (s.mn=0)&&decide (s.mx=0)&&decide (s.en.length=0)&&decide (s.key=Ar)&&decide (s.it.length≤1)&&(decide (s.it.length=0)||decide (s.f.length=0))&&decide (s.f.length≤64)&&s.it.all (B9 d)&&fOk (B9 d) none s.f
  else false
def valid (s:Sch):Bool:=B9 12 s
theorem Abz {g:Sch→Bool} : ∀ {l:List SFld} {o:Option ByteArray},fOk g o l=true→ ∀x∈l,Cf x.nm=true∧g x.s=true∧x.df.length≤1∧Axn x=true
 | [],_,_,x,hx=>by simp at hx
 | y::r,o,h,x,hx=>by
  simp only [fOk,Bool.and_eq_true,decide_eq_true_eq] at h
  rcases List.mem_cons.1 hx with rfl | hx
  ·exact ⟨h.1.1.1.1.1,h.1.1.1.2,h.1.1.2,h.1.2⟩
  ·exact Abz h.2 x hx
theorem Iq: ∀ (d:Nat) (s:Sch),B9 d s=true→SB s
 | 0,s,h=>by simp [B9] at h
 | d+1,s,h=>by
  have leaf:s.k≠4→G7 s=true→SB s:=fun h4 h=>by
   simp only [G7,Bool.and_eq_true,decide_eq_true_eq] at h
   have h1:s.it= []:=List.length_eq_zero_iff.1 h.1.2
   have h2:s.f= []:=List.length_eq_zero_iff.1 h.2
   exact .mk s (by omega) (fun e=>absurd h1 e) (fun e=>absurd e h4) (by simp [h1]) (by simp [h2])
  unfold B9 at h
  split at h
  ·simp only [Bool.and_eq_true] at h;exact leaf (by omega) h.1.1.1
  ·split at h
   ·simp only [Bool.and_eq_true] at h;exact leaf (by omega) h.1.1.1.1
   ·split at h
    ·simp only [Bool.and_eq_true] at h;exact leaf (by omega) h.1.1.1
    ·split at h
     ·simp only [Bool.and_eq_true,decide_eq_true_eq,List.all_eq_true] at h
      have h2:s.f= []:=List.length_eq_zero_iff.1 h.1.1.1.2
      exact .mk s (by omega) (fun _=>h2) (fun _=>h.1.1.2) (fun x hx=>Iq d x (h.2 x hx)) (by simp [h2])
     ·split at h
      ·simp only [Bool.and_eq_true,decide_eq_true_eq,List.all_eq_true,Bool.or_eq_true] at h
       refine .mk s h.1.1.1.1.2 (fun e=>?_) (fun e=>by omega) (fun x hx=>Iq d x (h.1.2 x hx)) (fun p hp=>Iq d p.s (Abz h.2 p hp).2.1)
       rcases h.1.1.1.2 with h1 | h1
       ·exact absurd (List.length_eq_zero_iff.1 h1) e
       ·exact List.length_eq_zero_iff.1 h1
      ·cases h
def Mh (l:List SFld):Nat→Option ByteArray
 | 0=>none
 | i+1=>(l[i]?).map (·.nm)
def O5 (l:List ByteArray):Nat→Option ByteArray
 | 0=>none
 | i+1=>l[i]?
theorem Zr (s:Sch):W Axt 0 [s.enc]=some [.bool (G7 s)]:=by
 rw [Ao2]
 simp only [Sch.C4,Sch.Jc,Sch.Hv,O.Ao,List.length_map,Option.bind_some,O.E0,O.eq_int,O.Ab,Aw,Ap,Cs]
 congr 3
 unfold G7
 rw [Bool.eq_iff_iff]
 simp [and_assoc]
theorem V8 (s:Sch) (hs:s.Au≤1048576): ∀ (n i:Nat),i+n=s.en.length→
  W Axg 1 [.int i,s.enc]=some [.bool (Anw s.mn s.mx (O5 s.en i) (s.en.drop i)&&(G7 s&&Ahf s 200&&decide (s.en.length≤64)))]
 | 0,i,h=>by
  have h1: ¬ i<s.en.length:=by omega
  rw [Afs,List.drop_of_length_le (by omega)]
  simp only [Sch.Ce,O.Ao,List.length_map,Option.bind_some,O.Ai,Al,h1,decide_false,O.Ab,Bool.false_eq_true,if_false,Zr,O.Ag,Sch.C3,Sch.D3,O.Ek,O.D1,Aw,Ap]
  congr 3
  unfold Ahf Anw
  rw [Bool.eq_iff_iff]
  simp [and_assoc]
  omega
 | n+1,i,h=>by
  have hi:i<s.en.length:=by omega
  have hm:=s.Kj
  have hw:=A8 (i:=i) (by omega)
  have ih:=V8 s hs n (i+1) (by omega)
  have hx:=Sch.Am6 (List.getElem_mem hi)
  have hpe:O5 s.en (i+1)=some s.en[i]:=by simp [O5,hi]
  rw [hpe] at ih
  rw [Afs,List.drop_eq_getElem_cons hi]
  simp only [Anw,Sch.Ce,O.Ao,List.length_map,Option.bind_some,O.Ai,Al,hi,decide_true,O.Ab,if_true,O.Aj,Int.natCast_nonneg,Int.toNat_natCast,List.getElem?_map,List.getElem?_eq_getElem hi,Option.map_some,O.A6,Anb s.en[i] (by omega),O.Ag,O.A3,Sch.C3,Sch.D3,O.Bj,O.Am,hw,ih]
  generalize (G7 s&&Ahf s 200&&decide (s.en.length≤64))=R
  cases i with
  | zero=>
   simp only [O5,H2]
   by_cases c1:s.mn≤(s.en[0].size :Int)<;>by_cases c2:(s.en[0].size :Int)≤s.mx<;>cases I2 s.en[0]<;>simp [c1,c2,Int.not_lt.2,Int.not_le.1]
  | succ i=>
   have hi':i<s.en.length:=by omega
   have hw2:IntKind.i64.wrap (((i+1:Nat):Int) - 1)=i:=by rw [wrap64 (by omega) (by omega)];omega
   have hp:(0:Int)<((i+1:Nat):Int):=by omega
   simp only [O5,List.getElem?_eq_getElem hi',H2,O.Bv,hw2,hp,decide_true,if_true,Int.natCast_nonneg,Int.toNat_natCast,Option.map_some,Option.bind_some,Yg]
   by_cases c1:s.mn≤(s.en[i+1].size :Int)<;>by_cases c2:(s.en[i+1].size :Int)≤s.mx<;>cases I2 s.en[i+1]<;>cases hb:blt s.en[i] s.en[i+1]<;>simp [c1,c2,Int.not_lt.2,Int.not_le.1,List.getElem?_eq_getElem hi',Yg,hb, -O.Akz]
theorem Qv (d:Nat) (s:Sch) (hd:d≤12) (hs:s.Au≤1048576) (ih: ∀p∈s.f,W Ano 0 [p.s.enc,.int d]=some [.bool (B9 d p.s)]): ∀ (n i:Nat),i+n=s.f.length→
  W Asx 1 [.int ((d+1:Nat):Int),.int i,s.enc]=some [.bool (fOk (B9 d) (Mh s.f i) (s.f.drop i))]
 | 0,i,h=>by
  have h1: ¬ i<s.f.length:=by omega
  rw [Af3,List.drop_of_length_le (by omega)]
  simp only [Sch.Hv,O.Ao,List.length_map,Option.bind_some,O.Ai,Al,h1,decide_false,O.Ab,Bool.false_eq_true,if_false,fOk]
 | n+1,i,h=>by
  have hi:i<s.f.length:=by omega
  have hm:=s.Ba
  have hw:=A8 (i:=i) (by omega)
  have hwd:IntKind.i64.wrap (((d+1:Nat):Int) - 1)=(d:Int):=by rw [wrap64 (by omega) (by omega)];omega
  have hx:=Sch.Dz (List.getElem_mem hi)
  have hrec:=Qv d s hd hs ih n (i+1) (by omega)
  have hpe:Mh s.f (i+1)=some s.f[i].nm :=by simp [Mh,hi]
  rw [hpe] at hrec
  have hv:=ih _ (List.getElem_mem hi)
  -- the order
  have hord: ∀ (K:IV→Option IV),((O.gt (.int i) (.int 0)).bind fun x10=>
    (cnd x10 (
      (O.sub .i64 (.int i) (.int 1)).bind fun x11=>
      (O.index (.list (s.f.map SFld.enc)) x11).bind fun x12=>
      (O.proj 0 x12).bind fun x13=>
      (O.sLe (.str s.f[i].nm) x13).bind fun x14=>
      some x14) (some (.bool false))).bind K)=K (.bool (!H2 (Mh s.f i) s.f[i].nm)):=by
   intro K
   cases i with
   | zero=>simp [Mh,H2]
   | succ j=>
    have hj:j<s.f.length:=by omega
    have hw2:IntKind.i64.wrap (((j+1:Nat):Int) - 1)=j:=by rw [wrap64 (by omega) (by omega)];omega
    have hp:(0:Int)<((j+1:Nat):Int):=by omega
    simp only [Mh,List.getElem?_eq_getElem hj,Option.map_some,H2,O.Bj,hp,decide_true,Option.bind_some,O.Ab,if_true,O.Bv,hw2,O.Aj,Int.natCast_nonneg,Int.toNat_natCast,List.getElem?_map,SFld.Bt,Yg]
  have hix:O.index (.list (s.f.map SFld.enc)) (.int i)=some s.f[i].enc :=by
   simp only [O.Aj,Int.natCast_nonneg,if_true,Int.toNat_natCast,List.getElem?_map,List.getElem?_eq_getElem hi,Option.map_some]
  rw [Af3,List.drop_eq_getElem_cons hi]
  simp only [Sch.Hv,O.Ao,List.length_map,Option.bind_some,O.Ai,Al,hi,decide_true,O.Ab,if_true,hix,SFld.Bt,fOk,Aek s.f[i].nm (by omega),O.Ag,O.A3]
  simp only [hord]
  simp only [SFld.Bt,SFld.Ce,SFld.Acb,O.Ag,O.A3,O.Ab,O.Bv,hwd,hv,O.Am,hw,hrec,O.Ao,List.length_map,O.Bj,O.eq_int,Option.bind_some]
  cases Cf s.f[i].nm with
  | false=>simp
  | true=>
   cases H2 (Mh s.f i) s.f[i].nm with
   | false=>simp
   | true=>
    cases hsv:B9 d s.f[i].s with
    | false=>simp
    | true=>
     by_cases hlen:s.f[i].df.length ≤1
     ·have hlen': ¬ (1:Int)<s.f[i].df.length :=by omega
      have hsb:=Iq d _ hsv
      unfold Axn
      by_cases h1:s.f[i].df.length =1
      ·obtain ⟨v,hv1⟩:=List.length_eq_one_iff.1 h1
       have hvm:=Sch.Ak9 (List.getElem_mem hi) (show v∈s.f[i].df by rw [hv1];simp)
       have he:=Aqr v (by omega) s.f[i].s hsb (by omega) [] (by simp) (by simp;omega)
       simp only [List.map_nil] at he
       have hV:=Aae v (by omega)
       rw [hv1]
       by_cases k0:v.k=0
       ·simp [k0]
       ·cases hval:v.valid with
        | false=>simp [k0,hV,hval]
        | true=>
         by_cases hz:(Qs v s.f[i].s []).length =0
         ·simp [k0,hV,hval,he,List.length_eq_zero_iff.1 hz]
         ·have hz':0<(Qs v s.f[i].s []).length :=Nat.pos_of_ne_zero hz
          have hz2: ¬ Qs v s.f[i].s []= []:=fun h=>hz (by rw [h];rfl)
          simp [k0,hV,hval,he,hz',hz2]
      ·have h0:s.f[i].df = []:=List.length_eq_zero_iff.1 (by omega)
       simp [h0]
     ·have hlen':(1:Int)<s.f[i].df.length :=by omega
      simp [hlen',hlen]
theorem egL (mn mx:Int) (a b c:Nat):(if (if (if (if (if decide (mn<0)=true then true else decide (mx<mn))=true then true else decide ((64:Int)<mx))=true then true else decide ((0:Int)<(a:Int)))=true then true else decide ((0:Int)<(b:Int)))=true then true else !decide ((c:Int)=1))= !(decide (0≤mn)&&decide (mn≤mx)&&decide (mx≤64)&&decide (a=0)&&decide (b=0)&&decide (c=1)):=by
 rw [Bool.eq_iff_iff];simp;omega
theorem egS (mn mx:Int) (a b c:Nat) (k:Bool):(if (if (if (if (if (if (!decide (mn=0))=true then true else !decide (mx=0))=true then true else decide ((0:Int)<(a:Int)))=true then true else !k)=true then true else decide ((1:Int)<(b:Int)))=true then true else if decide ((b:Int)=1)=true then decide ((0:Int)<(c:Int)) else false)=true then true else decide ((64:Int)<(c:Int)))
  = !(decide (mn=0)&&decide (mx=0)&&decide (a=0)&&k&&decide (b≤1)&&(decide (b=0)||decide (c=0))&&decide (c≤64)):=by
 cases k
 ·simp
 ·rw [Bool.eq_iff_iff];simp;omega
theorem P5: ∀ (d:Nat) (s:Sch),d≤12→s.Au≤1048576→W Ano 0 [s.enc,.int d]=some [.bool (B9 d s)]
 | 0,s,hd,hs=>by rw [Adz];simp [B9]
 | d+1,s,hd,hs=>by
  have hd0: ¬ ((d+1:Nat):Int)=0:=by omega
  have hwd:IntKind.i64.wrap (((d+1:Nat):Int) - 1)=(d:Int):=by rw [wrap64 (by omega) (by omega)];omega
  have hit: ∀t∈s.it,W Ano 0 [t.enc,.int d]=some [.bool (B9 d t)]:=fun t ht=>P5 d t (by omega) (by have:=Sch.I3 ht;omega)
  have hif: ∀p∈s.f,W Ano 0 [p.s.enc,.int d]=some [.bool (B9 d p.s)]:=fun p hp=>P5 d p.s (by omega) (by have:=Sch.Dz hp;omega)
  rw [Adz]
  unfold B9
  simp only [O.eq_int,hd0,decide_false,Option.bind_some,O.Ab,Bool.false_eq_true,if_false,Sch.Bt,Sch.C3,Sch.D3,Sch.Ce,Zr,O.Ag,O.D1,O.Ao,List.length_map]
  by_cases k1:s.k=1
  ·simp only [k1,decide_true,if_true,Option.bind_some,O.Ab,Aw,Ap]
   congr 3
   rw [Bool.eq_iff_iff];simp [and_assoc]
  ·by_cases k2:s.k=2
   ·simp only [k2,show ¬ (2:Int)=1 by omega,decide_true,decide_false,Bool.false_eq_true,if_false,if_true,Option.bind_some,O.Ab,Aw,Ap]
    congr 3
    rw [Bool.eq_iff_iff];simp [and_assoc]
   ·by_cases k3:s.k=3
    ·have ht:=V8 s hs s.en.length 0 (by omega)
     simp only [Int.cast_ofNat_Int,List.drop_zero,O5] at ht
     simp only [k3,show ¬ (3:Int)=1 by omega,show ¬ (3:Int)=2 by omega,decide_true,decide_false,Bool.false_eq_true,if_false,if_true,Ao7,ht,O.Ag]
     congr 3
     generalize Anw s.mn s.mx none s.en=a
     cases a<;>cases G7 s<;>cases Ahf s 200<;>simp
    ·by_cases k4:s.k=4
     ·have hl:W Aw7 0 [s.enc,.int ((d+1:Nat):Int)]=some [.bool (Ahf s 64&&decide (s.en.length=0)&&decide (s.f.length=0)&&decide (s.it.length=1)&&Yy s&&s.it.all (B9 d))]:=by
       rw [Aqz]
       simp only [Sch.C3,Sch.D3,Sch.Ce,Sch.Jc,Sch.Hv,O.Ao,List.length_map,Option.bind_some,O.Ai,O.Bj,O.C8,O.Ab,Aw,Ap]
       have eg:(if (if (if (if (if decide (s.mn<0)=true then true else decide (s.mx<s.mn))=true then true else decide ((64:Int)<s.mx))=true then true else decide ((0:Int)<(s.en.length:Int)))=true then true else decide ((0:Int)<(s.f.length:Int)))=true then true else !decide ((s.it.length:Int)=1))= !(Ahf s 64&&decide (s.en.length=0)&&decide (s.f.length=0)&&decide (s.it.length=1)):=by
        exact egL s.mn s.mx s.en.length s.f.length s.it.length
       rw [eg]
       cases hg:(Ahf s 64&&decide (s.en.length=0)&&decide (s.f.length=0)&&decide (s.it.length=1)) with
       | false=>simp
       | true=>
        simp only [Bool.and_eq_true,decide_eq_true_eq] at hg
        obtain ⟨t,ht⟩:=List.length_eq_one_iff.1 hg.2
        have htm:t∈s.it:=by rw [ht];simp
        have hmt:=Sch.I3 htm
        have hl1:W Aw7 1 [.int ((d+1:Nat):Int),s.enc]=some [.bool (B9 d t)]:=by
         rw [Aqi]
         simp only [Sch.Jc,ht,List.map_cons,List.map_nil,Option.bind_some,O.Aj,Int.le_refl,if_true,Int.toNat_zero,List.getElem?_cons_zero,O.Bv,hwd,hit t htm,O.Ag]
        have hfd:=Zf t s.key (by omega)
        simp only [Bool.not_true,Bool.false_eq_true,if_false,Sch.C4,Option.bind_some,O.Ja,O.Ab,hl1,ht,List.map_cons,List.map_nil,O.Aj,Int.le_refl,if_true,Int.toNat_zero,List.getElem?_cons_zero,hfd,O.Dc,Sch.Bt,SFld.C3,SFld.C4,O.C8,O.A3,Aw,Ap,List.all_cons,List.all_nil,Bool.and_true,Bool.true_and,Yy,Cs]
        by_cases c:s.key=Ar
        ·simp [c]
        ·by_cases c2:t.k=5<;>by_cases c3:((t.fld s.key).getD Mk).s.k =3<;>cases (t.fld s.key).isSome<;>cases ((t.fld s.key).getD Mk).rq<;>simp [c,c2,c3]
      simp only [k4,show ¬ (4:Int)=1 by omega,show ¬ (4:Int)=2 by omega,show ¬ (4:Int)=3 by omega,decide_true,decide_false,Bool.false_eq_true,if_false,if_true,hl,O.Ag]
     ·by_cases k5:s.k=5
      ·have hst:=Qv d s (by omega) hs hif s.f.length 0 (by omega)
       simp only [Int.cast_ofNat_Int,List.drop_zero,Mh] at hst
       have hl:W Asx 0 [s.enc,.int ((d+1:Nat):Int)]=some [.bool (decide (s.mn=0)&&decide (s.mx=0)&&decide (s.en.length=0)&&decide (s.key=Ar)&&decide (s.it.length≤1)&&(decide (s.it.length=0)||decide (s.f.length=0))&&decide (s.f.length≤64)&&s.it.all (B9 d)&&fOk (B9 d) none s.f)]:=by
        rw [Aqp]
        simp only [Sch.C3,Sch.D3,Sch.Ce,Sch.C4,Sch.Jc,Sch.Hv,O.Ao,List.length_map,Option.bind_some,O.Ja,O.Bj,O.eq_int,O.C8,O.Ab,Aw,Ap,Cs]
        have eg:(if (if (if (if (if (if (!decide (s.mn=0))=true then true else !decide (s.mx=0))=true then true else decide ((0:Int)<(s.en.length:Int)))=true then true else !decide (s.key=Ar))=true then true else decide ((1:Int)<(s.it.length:Int)))=true then true else if decide ((s.it.length:Int)=1)=true then decide ((0:Int)<(s.f.length:Int)) else false)=true then true else decide ((64:Int)<(s.f.length:Int)))
          = !(decide (s.mn=0)&&decide (s.mx=0)&&decide (s.en.length=0)&&decide (s.key=Ar)&&decide (s.it.length≤1)&&(decide (s.it.length=0)||decide (s.f.length=0))&&decide (s.f.length≤64)):=by
         exact egS s.mn s.mx s.en.length s.it.length s.f.length _
        rw [eg]
        cases hg:(decide (s.mn=0)&&decide (s.mx=0)&&decide (s.en.length=0)&&decide (s.key=Ar)&&decide (s.it.length≤1)&&(decide (s.it.length=0)||decide (s.f.length=0))&&decide (s.f.length≤64)) with
        | false=>simp
        | true=>
         simp only [Bool.and_eq_true,Bool.or_eq_true,decide_eq_true_eq] at hg
         by_cases h1:s.it.length=1
         ·obtain ⟨t,ht⟩:=List.length_eq_one_iff.1 h1
          have hf:s.f= []:=by
           rcases hg.1.2 with h | h
           ·omega
           ·exact List.length_eq_zero_iff.1 h
          have hh:=hit t (by rw [ht];simp)
          have hwd2:IntKind.i64.wrap (d:Int)=(d:Int):=wrap64 (by omega) (by omega)
          simp [ht,hf,hwd2,hh,fOk]
         ·have h0:s.it= []:=List.length_eq_zero_iff.1 (by omega)
          push_cast at hst
          simp [h0,hst]
       simp only [k5,show ¬ (5:Int)=1 by omega,show ¬ (5:Int)=2 by omega,show ¬ (5:Int)=3 by omega,show ¬ (5:Int)=4 by omega,decide_true,decide_false,Bool.false_eq_true,if_false,if_true,hl,O.Ag]
      ·simp only [k1,k2,k3,k4,k5,decide_false,Bool.false_eq_true,if_false]
theorem Ah3 (s:Sch) (hs:s.Au≤1048576):W A0a 0 [s.enc]=some [.bool s.valid]:=by
 rw [Aqn]
 have:W Ano 0 [s.enc,.int 12]=some [.bool s.valid]:=P5 12 s (by omega) hs
 simp only [this,O.Ag]
end Go.CT.Sch
namespace Go.CT.Sch
open Go.Proofs
theorem Aco (nm:ByteArray):(Auo [(nm,Bb)]).valid =Cf nm:=by
 have h1:Ub [(nm,Bb)]= [(nm,Bb)]:=Auv (List.pairwise_singleton _ _)
 unfold Auo
 rw [h1]
 unfold Val.valid
 have h2:Bl 11 Bb=true:=by decide
 simp only [Bl,Val.Azi,Val.Az2,Val.Aom,Val.Aid,Val.Ah7,Eu,List.all_cons,List.all_nil,h2,rising,Val.size,Cb,Bn,Bb]
 simp
theorem Aqy (nm:ByteArray) (hn:nm.size≤1048576) (K:IV→Option (List IV)):(O.Ct [.str nm,(.int 0),(.int 0),(.str ⟨#[]⟩),(.list []),(.list [])]).bind (fun x8=>
  (O.Dq [x8]).bind fun x9=>
  calls (W F34 0 [x9]) 5 fun x10 x11 x12 x13 x14=>
  (O.Ct [x10,x11,x12,x13,x14]).bind fun x15=>
  calls (W F19 0 [x15]) 1 K)=K (.bool (Cf nm)):=by
 have e:IV.agg [.str nm,(.int 0),(.int 0),(.str ⟨#[]⟩),(.list []),(.list [])]=Fld.enc (nm,Bb):=rfl
 have hmass:Cp [(nm,Bb)]≤4294967200:=by
  rw [B6,Eg,Val.Bp]
  simp only [Bb,Val.Aom,Val.Aid,Val.Ah7,Gg,Eg,show Ar.size=0 from rfl];omega
 have h1:=Av4 [(nm,Bb)] hmass
 have h2:(Auo [(nm,Bb)]).Au ≤1099511627776:=by have:=Ak3 [(nm,Bb)];omega
 have h3:=Nu _ h2
 rw [Aco] at h3
 rw [Val.Cm] at h1
 simp only [List.map_cons,List.map_nil] at h1
 simp only [O.Br,O.B8,Option.bind_some,e,h1,O.Gb,Val.H8,h3,O.Ag]
theorem Ahx (s:Sch) (m:Int):W F16 0 [s.enc,.int m]=some [.bool (Ahf s m)]:=by
 rw [Aua]
 simp only [Sch.C3,Sch.D3,O.D1,Option.bind_some,O.Ab,Aw,Ap]
 congr 3
 unfold Ahf
 rw [Bool.eq_iff_iff];simp [and_assoc]
theorem Zy (s:Sch) (hs:s.Au≤1048576): ∀ (n i:Nat),i+n=s.en.length→
  W F17 1 [.list (s.en.map .str),.int s.en.length,.int i,s.enc]=some [.bool (Anw s.mn s.mx (O5 s.en i) (s.en.drop i)&&decide (s.en.length≤64))]
 | 0,i,h=>by
  have h1: ¬ i<s.en.length:=by omega
  rw [Ajk,List.drop_of_length_le (by omega)]
  simp only [Sch.Ce,O.Ao,List.length_map,Option.bind_some,O.Ai,Al,h1,decide_false,O.Ab,Bool.false_eq_true,if_false,O.D1,Anw,Bool.true_and]
  congr 3
  rw [Bool.eq_iff_iff];simp;omega
 | n+1,i,h=>by
  have hi:i<s.en.length:=by omega
  have hm:=s.Kj
  have hw:=A8 (i:=i) (by omega)
  have ih:=Zy s hs n (i+1) (by omega)
  have hx:=Sch.Am6 (List.getElem_mem hi)
  have hpe:O5 s.en (i+1)=some s.en[i]:=by simp [O5,hi]
  rw [hpe] at ih
  have e:IV.agg [.int 3,.int 0,.str s.en[i],.list [],.list []]=Val.enc ⟨3,0,s.en[i],[],[]⟩:=rfl
  have hv:=Nu ⟨3,0,s.en[i],[],[]⟩ (by rw [Val.Bp];simp [Gg,Eg];omega)
  rw [Abe] at hv
  have hix:O.index (.list (s.en.map .str)) (.int i)=some (.str s.en[i]):=by
   simp only [O.Aj,Int.natCast_nonneg,if_true,Int.toNat_natCast,List.getElem?_map,List.getElem?_eq_getElem hi,Option.map_some]
  have hord: ∀ (K:IV→Option IV),((O.gt (.int i) (.int 0)).bind fun x10=>
    (cnd x10 (
      (O.proj 3 s.enc).bind fun x11=>
      (O.sub .i64 (.int i) (.int 1)).bind fun x12=>
      (O.index x11 x12).bind fun x13=>
      (O.sGe x13 (.str s.en[i])).bind fun x14=>
      some x14) (some (.bool false))).bind K)=K (.bool (!H2 (O5 s.en i) s.en[i])):=by
   intro K
   cases i with
   | zero=>simp [O5,H2]
   | succ j=>
    have hj:j<s.en.length:=by omega
    have hw2:IntKind.i64.wrap (((j+1:Nat):Int) - 1)=j:=by rw [wrap64 (by omega) (by omega)];omega
    have hp:(0:Int)<((j+1:Nat):Int):=by omega
    simp only [Sch.Ce,O5,List.getElem?_eq_getElem hj,Option.map_some,H2,O.Bj,hp,decide_true,Option.bind_some,O.Ab,if_true,O.Bv,hw2,O.Aj,Int.natCast_nonneg,Int.toNat_natCast,List.getElem?_map,Adi]
  rw [Ajk,List.drop_eq_getElem_cons hi]
  simp only [Anw,Option.bind_some,O.Ai,Al,hi,decide_true,O.Ab,if_true,hix]
  simp only [hord]
  simp only [O.A6,Sch.C3,Sch.D3,Option.bind_some,O.Ai,O.Bj,O.Ab,Adk,O.Gb,O.Br,e,hv,O.Ag,O.A3,O.Am,hw,ih]
  by_cases c1:s.mn≤(s.en[i].size :Int)<;>by_cases c2:(s.en[i].size :Int)≤s.mx<;>cases I2 s.en[i]<;>cases H2 (O5 s.en i) s.en[i]<;>simp [c1,c2,Int.not_lt.2,Int.not_le.1]
theorem Aus (s:Sch) (hs:s.Au≤1048576):W F17 0 [s.enc]=some [.bool (Anw s.mn s.mx none s.en&&decide (s.en.length≤64))]:=by
 have h:=Zy s hs s.en.length 0 (by omega)
 simp only [Int.cast_ofNat_Int,List.drop_zero,O5] at h
 rw [Atx]
 simp only [Sch.Ce,O.Ao,List.length_map,Option.bind_some]
 exact h
theorem Aq0 (s t:Sch) (hs:s.Au≤1048576) (ht:s.it= [t]) (hsb:SB t):W F25 0 [s.enc]=some [.bool (Yy s)]:=by
 have hmt:=Sch.I3 (show t∈s.it by rw [ht];simp)
 have hfd:=Agp t s.key (by omega)
 rw [Aul]
 unfold Yy
 simp only [Sch.Jc,ht,List.map_cons,List.map_nil,O.Aj,Int.le_refl,if_true,Int.toNat_zero,List.getElem?_cons_zero,Option.bind_some,Sch.C4,hfd,O.Dc,O.E0,O.Ab,SFld.C3,SFld.C4,O.eq_int,Aw,Ap,Cs]
 congr 3
 by_cases c:s.key=Ar
 ·simp [c]
 ·by_cases c2:t.k=5
  ·by_cases c3:t.it.length=0
   ·cases (t.fld s.key).isSome<;>cases hrq:((t.fld s.key).getD Mk).rq<;>simp [c,c2,c3,hrq]
   ·have hnf:t.f= []:=hsb.nof fun e=>c3 (by rw [e];rfl)
    have hfl:t.fld s.key=none:=by unfold Sch.fld;rw [hnf];rfl
    simp [c,c2,c3,hfl]
  ·simp [c,c2]
theorem S1 (d:Nat) (s:Sch) (hd:d≤12) (hs:s.Au≤1048576) (i:Nat) (hi:i<s.f.length) (hsb:SB s.f[i].s): ∀ (n j:Nat),j+n=s.f[i].df.length →
  W F33 2 [.int d,.list (s.f.map SFld.enc),.int s.f.length,.int i,.list (s.f[i].df.map Val.enc),.int s.f[i].df.length,.int j,s.enc,s.f[i].enc]
   =if ((s.f[i].df.drop j).all fun v=> !decide (v.k=0)&&v.valid&&decide ((Qs v s.f[i].s []).length =0))=true then W F33 1 [.int d,.list (s.f.map SFld.enc),.int s.f.length,.int ((i+1:Nat):Int),s.enc] else some [.bool false]
 | 0,j,h=>by
  have h1: ¬ j<s.f[i].df.length :=by omega
  have hm:=s.Ba
  have hw:=A8 (i:=i) (by omega)
  rw [Ajx,List.drop_of_length_le (by omega)]
  simp only [O.Ai,Al,h1,decide_false,Option.bind_some,O.Ab,Bool.false_eq_true,if_false,O.Am,hw,List.all_nil,if_true]
 | n+1,j,h=>by
  have hj:j<s.f[i].df.length :=by omega
  have hm:=Sch.Dz (List.getElem_mem hi)
  have hl:=Es (List.mem_map_of_mem (f:=Val.enc) (List.getElem_mem hj))
  have hvm:=Sch.Ak9 (List.getElem_mem hi) (List.getElem_mem hj)
  have hlen:s.f[i].df.length ≤Gm s.f[i].df :=by have:=Cr (s.f[i].df.map Val.enc);rw [List.length_map] at this;exact this
  have hw:=A8 (i:=j) (by omega)
  have ih:=S1 d s hd hs i hi hsb n (j+1) (by omega)
  have hV:=Nu s.f[i].df[j] (by omega)
  have he:=Ai0 s.f[i].df[j] (by omega) s.f[i].s hsb (by omega)
  rw [Ajx,List.drop_eq_getElem_cons hj,List.all_cons]
  simp only [O.Ai,Al,hj,decide_true,Option.bind_some,O.Ab,if_true,O.Aj,Int.natCast_nonneg,Int.toNat_natCast,List.getElem?_map,List.getElem?_eq_getElem hj,Option.map_some,Val.Bt,O.eq_int,hV,O.Ag,O.A3,SFld.Acb,he,O.Ao,O.Bj,O.Am,hw,ih]
  by_cases k0:s.f[i].df[j].k =0
  ·simp [k0]
  ·cases hval:s.f[i].df[j].valid with
   | false=>simp [k0]
   | true=>
    by_cases hz:(Qs s.f[i].df[j] s.f[i].s []).length =0
    ·simp [k0,List.length_eq_zero_iff.1 hz]
    ·have hz':0<(Qs s.f[i].df[j] s.f[i].s []).length :=Nat.pos_of_ne_zero hz
     have hz2: ¬ Qs s.f[i].df[j] s.f[i].s []= []:=fun h=>hz (by rw [h];rfl)
     simp [k0,hz',hz2]
theorem Sl (d:Nat) (s:Sch) (hd:d≤12) (hs:s.Au≤1048576) (ih: ∀p∈s.f,W F15 0 [p.s.enc,.int d]=some [.bool (B9 d p.s)]): ∀ (n i:Nat),i+n=s.f.length→
  W F33 1 [.int d,.list (s.f.map SFld.enc),.int s.f.length,.int i,s.enc]=some [.bool (fOk (B9 d) (Mh s.f i) (s.f.drop i))]
 | 0,i,h=>by
  have h1: ¬ i<s.f.length:=by omega
  rw [Al0,List.drop_of_length_le (by omega)]
  simp only [O.Ai,Al,h1,decide_false,Option.bind_some,O.Ab,Bool.false_eq_true,if_false,fOk]
 | n+1,i,h=>by
  have hi:i<s.f.length:=by omega
  have hm:=s.Ba
  have hx:=Sch.Dz (List.getElem_mem hi)
  have hrec:=Sl d s hd hs ih n (i+1) (by omega)
  have hpe:Mh s.f (i+1)=some s.f[i].nm :=by simp [Mh,hi]
  rw [hpe] at hrec
  have hv:=ih _ (List.getElem_mem hi)
  have hix:O.index (.list (s.f.map SFld.enc)) (.int i)=some s.f[i].enc :=by
   simp only [O.Aj,Int.natCast_nonneg,if_true,Int.toNat_natCast,List.getElem?_map,List.getElem?_eq_getElem hi,Option.map_some]
  have hord: ∀ (K:IV→Option IV),((O.gt (.int i) (.int 0)).bind fun x18=>
    (cnd x18 (
      (O.proj 6 s.enc).bind fun x19=>
      (O.sub .i64 (.int i) (.int 1)).bind fun x20=>
      (O.index x19 x20).bind fun x21=>
      (O.proj 0 x21).bind fun x22=>
      (O.sGe x22 (.str s.f[i].nm)).bind fun x23=>
      some x23) (some (.bool false))).bind K)=K (.bool (!H2 (Mh s.f i) s.f[i].nm)):=by
   intro K
   cases i with
   | zero=>simp [Mh,H2]
   | succ j=>
    have hj:j<s.f.length:=by omega
    have hw2:IntKind.i64.wrap (((j+1:Nat):Int) - 1)=j:=by rw [wrap64 (by omega) (by omega)];omega
    have hp:(0:Int)<((j+1:Nat):Int):=by omega
    simp only [Sch.Hv,Mh,List.getElem?_eq_getElem hj,Option.map_some,H2,O.Bj,hp,decide_true,Option.bind_some,O.Ab,if_true,O.Bv,hw2,O.Aj,Int.natCast_nonneg,Int.toNat_natCast,List.getElem?_map,SFld.Bt,Adi]
  rw [Al0,List.drop_eq_getElem_cons hi]
  simp only [O.Ai,Al,hi,decide_true,Option.bind_some,O.Ab,if_true,hix,SFld.Bt,fOk]
  rw [Aqy s.f[i].nm (by omega)]
  simp only [O.A3,Option.bind_some]
  simp only [hord]
  simp only [SFld.Ce,SFld.Acb,O.Ag,O.A3,O.Ab,hv,O.Ao,List.length_map,O.Bj,Option.bind_some]
  cases Cf s.f[i].nm with
  | false=>simp
  | true=>
   cases H2 (Mh s.f i) s.f[i].nm with
   | false=>simp
   | true=>
    cases hsv:B9 d s.f[i].s with
    | false=>simp
    | true=>
     by_cases hlen:s.f[i].df.length ≤1
     ·have hlen': ¬ (1:Int)<s.f[i].df.length :=by omega
      have h2:=S1 d s hd hs i hi (Iq d _ hsv) s.f[i].df.length 0 (by omega)
      simp only [Int.cast_ofNat_Int,List.drop_zero,hrec] at h2
      simp only [Bool.not_true,Bool.false_eq_true,if_false,hlen',decide_false,Option.bind_some,O.Ab,h2,Axn,hlen,decide_true,Bool.true_and]
      cases (s.f[i].df.all fun v=> !decide (v.k=0)&&v.valid&&decide ((Qs v s.f[i].s []).length =0))<;>simp
     ·have hlen':(1:Int)<s.f[i].df.length :=by omega
      simp [hlen',hlen]
theorem Aqe (d:Nat) (s:Sch) (hd:d≤12) (hs:s.Au≤1048576) (hl:s.it.length≤1) (ih: ∀t∈s.it,W F15 0 [t.enc,.int d]=some [.bool (B9 d t)]):
  W F30 0 [.list (s.it.map Sch.enc),.int ((d+1:Nat):Int)]=some [.bool (!s.it.all (B9 d))]:=by
 have hwd:IntKind.i64.wrap (((d+1:Nat):Int) - 1)=(d:Int):=by rw [wrap64 (by omega) (by omega)];omega
 rw [Avn,Asy]
 cases hit:s.it with
 | nil=>
  simp only [List.map_nil,O.Ao,List.length_nil,Option.bind_some,Int.cast_ofNat_Int]
  rw [Ab6]
  simp
 | cons t r=>
  have hr:r= []:=by rw [hit] at hl;simpa using hl
  subst hr
  have h1:=ih t (by rw [hit];simp)
  have h2:W F32 0 [t.enc,.int ((d+1:Nat):Int)]=some [.bool (!B9 d t)]:=by
   rw [Avr]
   simp only [O.Bv,hwd,Option.bind_some,h1,O.Ag,O.A3]
  have h3:IntKind.i64.wrap (0+1)=1:=by decide
  simp only [List.map_cons,List.map_nil,O.Ao,List.length_cons,List.length_nil,Nat.zero_add,Int.cast_ofNat_Int,Option.bind_some]
  rw [Ab6]
  simp only [O.Ai,show (0:Int)<1 by omega,decide_true,Option.bind_some,O.Ab,if_true,O.Aj,Int.le_refl,Int.toNat_zero,List.getElem?_cons_zero,h2,O.Ag,O.Am,h3]
  cases hsv:B9 d t with
  | true=>
   simp only [Bool.not_true,Bool.false_eq_true,if_false]
   rw [Ab6]
   simp [hsv]
  | false=>simp [hsv]
theorem egP (k:Int) (a b c:Nat) (e:Bool):(if (if (if (if (!decide (k=3))=true then decide ((0:Int)<(a:Int)) else false)=true then true else if (!decide (k=4))=true then !e else false)=true then true else if (!decide (k=5))=true then decide ((0:Int)<(b:Int)) else false)=true then true else if (if (!decide (k=5))=true then !decide (k=4) else false)=true then decide ((0:Int)<(c:Int)) else false)
  = !(decide (k=3∨a=0)&&(decide (k=4)||e)&&decide (k=5∨b=0)&&decide (k=5∨k=4∨c=0)):=by
 cases e
 ·by_cases k4:k=4
  ·rw [Bool.eq_iff_iff];simp [k4];omega
  ·simp [k4]
 ·rw [Bool.eq_iff_iff];simp;omega
theorem egM (mn mx:Int) (b c:Nat):(if (if (if (if (!decide (mn=0))=true then true else !decide (mx=0))=true then true else decide ((1:Int)<(b:Int)))=true then true else if decide ((b:Int)=1)=true then decide ((0:Int)<(c:Int)) else false)=true then true else decide ((64:Int)<(c:Int)))
  = !(decide (mn=0)&&decide (mx=0)&&decide (b≤1)&&(decide (b=0)||decide (c=0))&&decide (c≤64)):=by
 rw [Bool.eq_iff_iff];simp;omega
theorem Ss: ∀ (d:Nat) (s:Sch),d≤12→s.Au≤1048576→W F15 0 [s.enc,.int d]=some [.bool (B9 d s)]
 | 0,s,hd,hs=>by rw [Ajz];simp [B9]
 | d+1,s,hd,hs=>by
  have hd0: ¬ ((d+1:Nat):Int)=0:=by omega
  have hwd:IntKind.i64.wrap (((d+1:Nat):Int) - 1)=(d:Int):=by rw [wrap64 (by omega) (by omega)];omega
  have hit: ∀t∈s.it,W F15 0 [t.enc,.int d]=some [.bool (B9 d t)]:=fun t ht=>Ss d t (by omega) (by have:=Sch.I3 ht;omega)
  have hif: ∀p∈s.f,W F15 0 [p.s.enc,.int d]=some [.bool (B9 d p.s)]:=fun p hp=>Ss d p.s (by omega) (by have:=Sch.Dz hp;omega)
  have hfs:=Sl d s (by omega) hs hif s.f.length 0 (by omega)
  simp only [Int.cast_ofNat_Int,List.drop_zero,Mh] at hfs
  have hfs':W F33 0 [s.enc,.int d]=some [.bool (fOk (B9 d) none s.f)]:=by
   rw [As3]
   simp only [Sch.Hv,O.Ao,List.length_map,Option.bind_some]
   exact hfs
  rw [Ajz]
  unfold B9
  simp only [O.eq_int,O.C8,hd0,decide_false,Option.bind_some,O.Ab,Bool.false_eq_true,if_false,Sch.Bt,Sch.Ce,Sch.C4,Sch.Jc,Sch.Hv,O.Ao,List.length_map,O.Bj,O.Ja,Aw,Ap,Cs,egP]
  cases hg:(decide (s.k=3∨s.en.length=0)&&(decide (s.k=4)||decide (s.key=Ar))&&decide (s.k=5∨s.f.length=0)&&decide (s.k=5∨s.k=4∨s.it.length=0)) with
  | false=>
   simp only [Bool.not_false,if_true]
   by_cases k1:s.k=1
   ·simp only [k1,if_true,G7]
    simp [k1] at hg
    congr 3
    rw [eq_comm,Bool.eq_false_iff]
    intro h
    simp at h
    simp [h] at hg
   ·by_cases k2:s.k=2
    ·simp only [k2,show ¬ (2:Int)=1 by omega,if_false,if_true,G7]
     simp [k2] at hg
     congr 3
     rw [eq_comm,Bool.eq_false_iff]
     intro h
     simp at h
     simp [h] at hg
    ·by_cases k3:s.k=3
     ·simp only [k3,show ¬ (3:Int)=1 by omega,show ¬ (3:Int)=2 by omega,if_false,if_true,G7]
      simp [k3] at hg
      congr 3
      rw [eq_comm,Bool.eq_false_iff]
      intro h
      simp at h
      simp [h] at hg
     ·by_cases k4:s.k=4
      ·simp only [k4,show ¬ (4:Int)=1 by omega,show ¬ (4:Int)=2 by omega,show ¬ (4:Int)=3 by omega,if_false,if_true]
       simp [k4] at hg
       congr 3
       rw [eq_comm,Bool.eq_false_iff]
       intro h
       simp at h
       simp [h] at hg
      ·by_cases k5:s.k=5
       ·simp only [k5,show ¬ (5:Int)=1 by omega,show ¬ (5:Int)=2 by omega,show ¬ (5:Int)=3 by omega,show ¬ (5:Int)=4 by omega,if_false,if_true]
        simp [k5] at hg
        congr 3
        rw [eq_comm,Bool.eq_false_iff]
        intro h
        simp at h
        simp [h] at hg
       ·simp [k1,k2,k3,k4,k5]
  | true=>
   simp only [Bool.and_eq_true,Bool.or_eq_true,decide_eq_true_eq] at hg
   obtain ⟨⟨⟨g1,g2⟩,g3⟩,g4⟩:=hg
   simp only [Bool.not_true,Bool.false_eq_true,if_false,Sch.C3,Sch.D3,Option.bind_some,O.eq_int,O.D1,O.C8,O.Ab,Ahx,Aus s hs,O.Ag,Aw,Ap]
   by_cases k1:s.k=1
   ·simp only [k1,decide_true,if_true,G7]
    rcases g1 with g1 | g1
    ·omega
    ·rcases g2 with g2 | g2
     ·omega
     ·rcases g3 with g3 | g3
      ·omega
      ·rcases g4 with g4 | g4 | g4
       ·omega
       ·omega
       ·simp only [g1,g2,g3,g4,decide_true,Bool.true_and,Bool.and_true]
        congr 3
        rw [Bool.eq_iff_iff];simp
   ·by_cases k2:s.k=2
    ·simp only [k2,show ¬ (2:Int)=1 by omega,decide_false,Bool.false_eq_true,if_false,decide_true,if_true,G7]
     rcases g1 with g1 | g1
     ·omega
     ·rcases g2 with g2 | g2
      ·omega
      ·rcases g3 with g3 | g3
       ·omega
       ·rcases g4 with g4 | g4 | g4
        ·omega
        ·omega
        ·simp only [g1,g2,g3,g4,decide_true,Bool.true_and,Bool.and_true]
         congr 3
         rw [Bool.eq_iff_iff];simp [and_assoc]
    ·by_cases k3:s.k=3
     ·simp only [k3,show ¬ (3:Int)=1 by omega,show ¬ (3:Int)=2 by omega,decide_false,Bool.false_eq_true,if_false,decide_true,if_true,G7]
      rcases g2 with g2 | g2
      ·omega
      ·rcases g3 with g3 | g3
       ·omega
       ·rcases g4 with g4 | g4 | g4
        ·omega
        ·omega
        ·simp only [g2,g3,g4,decide_true,Bool.true_and,Bool.and_true]
         cases Ahf s 200<;>simp
     ·by_cases k4:s.k=4
      ·have g1':s.en.length=0:=by rcases g1 with h | h;exact absurd h k3;exact h
       have g3':s.f.length=0:=by rcases g3 with h | h;exact absurd h (by omega);exact h
       simp only [k4,show ¬ (4:Int)=1 by omega,show ¬ (4:Int)=2 by omega,show ¬ (4:Int)=3 by omega,decide_false,Bool.false_eq_true,if_false,decide_true,if_true,g1',g3',Bool.and_true]
       cases Ahf s 64 with
       | false=>simp
       | true=>
        by_cases h1:s.it.length=1
        ·obtain ⟨t,ht⟩:=List.length_eq_one_iff.1 h1
         have h2:=hit t (by rw [ht];simp)
         have h1':(s.it.length:Int)=1:=by omega
         simp only [if_true,h1',decide_true,ht,List.map_cons,List.map_nil,O.Aj,Int.le_refl,Int.toNat_zero,List.getElem?_cons_zero,Option.bind_some,O.Bv,hwd,h2,O.Ag,O.Ab,List.all_cons,List.all_nil,Bool.and_true,Bool.true_and,List.length_cons,List.length_nil]
         cases hsv:B9 d t with
         | false=>simp
         | true=>
          have hk:=Aq0 s t hs ht (Iq d t hsv)
          simp [hk]
        ·have h1': ¬ (s.it.length:Int)=1:=by omega
         simp [h1,h1']
      ·by_cases k5:s.k=5
       ·have g1':s.en.length=0:=by rcases g1 with h | h;exact absurd h k3;exact h
        have g2':s.key=Ar:=by rcases g2 with h | h;exact absurd h k4;exact h
        simp only [k5,show ¬ (5:Int)=1 by omega,show ¬ (5:Int)=2 by omega,show ¬ (5:Int)=3 by omega,show ¬ (5:Int)=4 by omega,decide_false,Bool.false_eq_true,if_false,decide_true,if_true,g1',g2',Bool.and_true]
        have eg:=egM s.mn s.mx s.it.length s.f.length
        rw [eg]
        cases hg5:(decide (s.mn=0)&&decide (s.mx=0)&&decide (s.it.length≤1)&&(decide (s.it.length=0)||decide (s.f.length=0))&&decide (s.f.length≤64)) with
        | false=>simp
        | true=>
         simp only [Bool.and_eq_true,Bool.or_eq_true,decide_eq_true_eq] at hg5
         have h2:=Aqe d s (by omega) hs hg5.1.1.2 hit
         simp only [Bool.not_true,Bool.false_eq_true,if_false,h2,O.Ag,O.A3,Bool.not_not,Option.bind_some,O.Ab,O.Bv,hwd,hfs',Aw,Ap,Bool.true_and]
         cases s.it.all (B9 d)<;>simp
       ·simp only [k1,k2,k3,k4,k5,decide_false,Bool.false_eq_true,if_false]
theorem Amu (s:Sch) (hs:s.Au≤1048576):W F14 0 [s.enc]=some [.bool s.valid]:=by
 rw [At4]
 have:W F15 0 [s.enc,.int 12]=some [.bool s.valid]:=Ss 12 s (by omega) hs
 simp only [this,O.Ag]
end Go.CT.Sch
namespace Go.CT.Sch
open Go.Proofs
theorem Dv (d:Nat) (v:Val):Bl (d+1) v=true↔Eu v=true∧(v.l.length≤64∧v.f.length≤64∧(v.k≠4→v.l= [])∧(v.k≠5→v.f= []))∧(∀x∈v.l,Bl d x=true)∧(∀p∈v.f,Cf p.1=true∧Bl d p.2=true)∧rising v.f=true:=by
 rw [Bl]
 simp only [Bool.and_eq_true,List.all_eq_true,decide_eq_true_eq]
 constructor
 ·rintro ⟨⟨⟨⟨a,b⟩,c⟩,d⟩,e⟩;exact ⟨a,b,c,d,e⟩
 ·rintro ⟨a,b,c,d,e⟩;exact ⟨⟨⟨⟨a,b⟩,c⟩,d⟩,e⟩
theorem J8: ∀ (d:Nat) (v:Val),Bl d v=true→Bl (d+1) v=true
 | 0,v,h=>by simp [Bl] at h
 | d+1,v,h=>by
  rw [Dv] at h ⊢
  exact ⟨h.1,h.2.1,fun x hx=>J8 d x (h.2.2.1 x hx),fun p hp=>⟨(h.2.2.2.1 p hp).1,J8 d p.2 (h.2.2.2.1 p hp).2⟩,h.2.2.2.2⟩
theorem Gw (v:Val):v.valid=true↔Bl 12 v=true∧v.size≤600:=by
 unfold Val.valid;simp only [Bool.and_eq_true,decide_eq_true_eq]
theorem Pq {v x:Val} (h:v.valid=true) (hx:x∈v.l):x.valid=true:=by
 rw [Gw] at h ⊢
 have h1:=(Dv 11 v).1 h.1
 have:=Val.Asp hx
 exact ⟨J8 11 x (h1.2.2.1 x hx),by omega⟩
theorem M0 {v:Val} {p:ByteArray × Val} (h:v.valid=true) (hp:p∈v.f):p.2.valid=true∧Cf p.1=true:=by
 rw [Gw] at h ⊢
 have h1:=(Dv 11 v).1 h.1
 have:=Val.Ar2 hp
 exact ⟨⟨J8 11 p.2 (h1.2.2.2.1 p hp).2,by omega⟩,(h1.2.2.2.1 p hp).1⟩
theorem Nz: ∀l:List (ByteArray × Val),rising l=true→Dn l
 | [],_=>List.Pairwise.nil
 | [_],_=>List.pairwise_singleton _ _
 | p::q::r,h=>by
  simp only [rising,Bool.and_eq_true] at h
  have ih:=Nz (q::r) h.2
  refine List.pairwise_cons.2 ⟨fun y hy=>?_,ih⟩
  rcases List.mem_cons.1 hy with rfl | hy
  ·exact h.1
  ·exact Im h.1 ((List.pairwise_cons.1 ih).1 y hy)
theorem K1 {v:Val} (h:v.valid=true):Dn v.f:=by
 rw [Gw] at h
 exact Nz _ ((Dv 11 v).1 h.1).2.2.2.2
theorem Aa5 {v:Val} (h:v.valid=true) (hk:v.k≠5):v.f= []:=by
 rw [Gw] at h
 exact ((Dv 11 v).1 h.1).2.1.2.2.2 hk
theorem Aau {v:Val} (h:v.valid=true) (hk:v.k≠4):v.l= []:=by
 rw [Gw] at h
 exact ((Dv 11 v).1 h.1).2.1.2.2.1 hk
theorem Ak5 {v:Val} (h:v.valid=true) (hk:v.k=3):I2 v.s=true:=by
 rw [Gw] at h
 have:=((Dv 11 v).1 h.1).1
 unfold Eu at this
 rw [if_neg (by omega),if_neg (by omega),if_pos hk] at this
 simp only [Bool.and_eq_true] at this
 exact this.2
theorem Jw {l:List (ByteArray × Val)} (h:Dn l) {p:ByteArray × Val} (hp:p∈l):l.find? (fun q=>decide (q.1=p.1))=some p:=by
 induction l with
 | nil=>simp at hp
 | cons a l ih=>
  have h1:=List.pairwise_cons.1 h
  rw [List.find?_cons]
  rcases List.mem_cons.1 hp with rfl | hp
  ·simp
  ·have: ¬ a.1=p.1:=Qb (h1.1 p hp)
   simp only [this,decide_false]
   exact ih h1.2 hp
theorem get_of_mem {v:Val} (h:v.valid=true) {p:ByteArray × Val} (hp:p∈v.f):v.get p.1=some p.2:=by
 have hk:v.k=5:=by
  rcases Decidable.em (v.k=5) with h5 | h5
  ·exact h5
  ·rw [Aa5 h h5] at hp;simp at hp
 unfold Val.get
 rw [if_pos hk,Jw (K1 h) hp];rfl
theorem Hc {v x:Val} {nm:ByteArray} (h:v.get nm=some x):(nm,x)∈v.f∧v.k=5:=by
 unfold Val.get at h
 split at h
 ·rename_i hk
  rw [Option.map_eq_some_iff] at h
  obtain ⟨p,hp,rfl⟩:=h
  have h1:=List.mem_of_find?_eq_some hp
  have h2:p.1=nm:=by simpa using List.find?_some hp
  subst h2;exact ⟨h1,hk⟩
 ·cases h
theorem Al9 {v x:Val} {nm:ByteArray} (h:v.valid=true) (hx:v.get nm=some x):x.valid=true:=(M0 h (Hc hx).1).1
theorem Aei {g g':Sch→Bool} : ∀ {l:List SFld} {o:Option ByteArray},(∀x∈l,g x.s=true→g' x.s=true)→fOk g o l=true→fOk g' o l=true
 | [],_,_,_=>rfl
 | y::r,o,hg,h=>by
  simp only [fOk,Bool.and_eq_true] at h ⊢
  exact ⟨⟨⟨⟨h.1.1.1.1,hg y (by simp) h.1.1.1.2⟩,h.1.1.2⟩,h.1.2⟩,Aei (fun x hx=>hg x (by simp [hx])) h.2⟩
theorem J3: ∀ (d:Nat) (s:Sch),B9 d s=true→B9 (d+1) s=true
 | 0,s,h=>by simp [B9] at h
 | d+1,s,h=>by
  rw [B9] at h ⊢
  split
  ·rename_i k1;rw [if_pos k1] at h;exact h
  ·rename_i k1;rw [if_neg k1] at h
   split
   ·rename_i k2;rw [if_pos k2] at h;exact h
   ·rename_i k2;rw [if_neg k2] at h
    split
    ·rename_i k3;rw [if_pos k3] at h;exact h
    ·rename_i k3;rw [if_neg k3] at h
     split
     ·rename_i k4;rw [if_pos k4] at h
      simp only [Bool.and_eq_true,List.all_eq_true] at h ⊢
      exact ⟨h.1,fun x hx=>J3 d x (h.2 x hx)⟩
     ·rename_i k4;rw [if_neg k4] at h
      split
      ·rename_i k5;rw [if_pos k5] at h
       simp only [Bool.and_eq_true,List.all_eq_true] at h ⊢
       exact ⟨⟨h.1.1,fun x hx=>J3 d x (h.1.2 x hx)⟩,Aei (fun x _ hx=>J3 d x.s hx) h.2⟩
      ·rename_i k5;rw [if_neg k5] at h;cases h
theorem Apn {d:Nat} {s:Sch} {p:SFld} (h:B9 (d+1) s=true) (hp:p∈s.f):s.k=5∧Cf p.nm=true∧B9 d p.s=true∧p.df.length≤1∧Axn p=true:=by
 have nof:s.f.length=0→False:=fun h0=>by
  rw [List.length_eq_zero_iff.1 h0] at hp;simp at hp
 have nop:G7 s=true→False:=fun h0=>by
  simp only [G7,Bool.and_eq_true,decide_eq_true_eq] at h0
  exact nof h0.2
 rw [B9] at h
 split at h
 ·simp only [Bool.and_eq_true] at h;exact (nop h.1.1.1).elim
 ·split at h
  ·simp only [Bool.and_eq_true] at h;exact (nop h.1.1.1.1).elim
  ·split at h
   ·simp only [Bool.and_eq_true] at h;exact (nop h.1.1.1).elim
   ·split at h
    ·simp only [Bool.and_eq_true,decide_eq_true_eq] at h;exact (nof h.1.1.1.2).elim
    ·split at h
     ·rename_i k5
      simp only [Bool.and_eq_true] at h
      exact ⟨k5,Abz h.2 p hp⟩
     ·cases h
theorem Sch.M0 {s:Sch} {p:SFld} (h:s.valid=true) (hp:p∈s.f):p.s.valid=true:=J3 11 p.s (Apn h hp).2.2.1
theorem Sch.Agg {s:Sch} (h:s.valid=true):SB s:=Iq 12 s h
end Go.CT.Sch
namespace Go.CT.Sch
open Go.Proofs
def hasB (nm vl:ByteArray) (u:Val):Bool:=decide (((u.get nm).getD Bb).k =3)&&decide (((u.get nm).getD Bb).s =vl)
def N0 (v:Val) (x:Stp):Option Val:=
 if x.k=1 then v.get x.nm
 else if v.k=4 then (if x.k=2 then v.l[x.ix.toNat]? else v.l.find? (hasB x.nm x.vl)) else none
def Qo:Val→List Stp→Option Val
 | v,[]=>some v
 | v,x::r=>(N0 v x).bind fun u=>Qo u r
theorem Uu {v u:Val} {x:Stp} (hu:N0 v x=some u):u.Au<v.Au:=by
 unfold N0 at hu
 split at hu
 ·have:=Val.Dz (Hc hu).1;simp only at this;omega
 ·split at hu
  ·split at hu
   ·exact Val.Ir (List.mem_of_getElem? hu)
   ·exact Val.Ir (List.mem_of_find?_eq_some hu)
  ·cases hu
theorem Zw: ∀ (q:List Stp) (v w:Val),Qo v q=some w→w.Au≤v.Au
 | [],v,w,hw=>by simp only [Qo,Option.some.injEq] at hw;subst hw;omega
 | y::r,v,w,hw=>by
  simp only [Qo] at hw
  cases hu:N0 v y with
  | none=>rw [hu] at hw;cases hw
  | some u=>rw [hu] at hw;have:=Uu hu;have:=Zw r u w hw;omega
end Go.CT.Sch
namespace Go.CT.Sch
open Go.Proofs
abbrev Kid:=Stp × Val × Option Sch
def At7 (key:ByteArray) (x:Val):Stp:=⟨3,key,0,H7 x key⟩
def Ho (key:ByteArray):List ByteArray→List Val→Bool
 | _,[]=>true
 | met,x::l=>isKey x key&& !inB met (H7 x key)&&Ho key (met++ [H7 x key]) l
def kids:Option Sch→Val→List Kid
 | none,_=> []
 | some s,v=>if s.k=v.k then (if v.k=5 then v.f.map fun x=>(Cv x.1,x.2,Ns s x.1) else if v.k=4∧s.key≠Ar∧Ho s.key [] v.l=true then v.l.map fun x=>(At7 s.key x,x,s.it.head?) else []) else []
def Yp (s:ByteArray):Val:=⟨3,0,s,[],[]⟩
def lv:Nat→Option Sch→Val→List Stp→List ByteArray
 | 0,_,_,_=> []
 | d+1,o,v,p=>if kids o v= [] then [G8 p] else (kids o v).flatMap fun x=>lv d x.2.2 x.2.1 (p++ [x.1])
def Et (r:Kid→Val × Bool) (l:List Kid):List (Stp × Val):=l.filterMap fun x=>if (r x).2 then some (x.1,(r x).1) else none
def fieldsOf (l:List (Stp × Val)):List (ByteArray × Val):=l.map fun x=>(x.1.nm,x.2)
def Ga (l:List (Stp × Val)):List Val:=l.map fun x=>G5 x.2 x.1.nm (Yp x.1.vl)
def pt:Nat→Option Sch→Val→List Stp→(ByteArray→Bool)→Val × Bool
  | 0,_,v,_,_=>(v,false)
  | d+1,o,v,p,ch=>if kids o v= [] then (v,ch (G8 p)) else
    (⟨v.k,0,Ar,if v.k=5 then [] else Ga (Et (fun x=>pt d x.2.2 x.2.1 (p++ [x.1]) ch) (kids o v)),
      if v.k=5 then fieldsOf (Et (fun x=>pt d x.2.2 x.2.1 (p++ [x.1]) ch) (kids o v)) else []⟩,
     !(Et (fun x=>pt d x.2.2 x.2.1 (p++ [x.1]) ch) (kids o v)).isEmpty)
theorem Tp {o:Option Sch} {v:Val} {x:Kid} (h:x∈kids o v):x.2.1.size<v.size∧x.2.1.Au<v.Au:=by
 cases o with
 | none=>simp [kids] at h
 | some s=>
  rw [kids] at h
  split at h
  ·split at h
   ·obtain ⟨p,hp,rfl⟩:=List.mem_map.1 h
    have:=Val.Dz hp
    exact ⟨Val.Ar2 hp,by show p.2.Au<v.Au;omega⟩
   ·split at h
    ·obtain ⟨p,hp,rfl⟩:=List.mem_map.1 h
     exact ⟨Val.Asp hp,Val.Ir hp⟩
    ·simp at h
  ·simp at h
end Go.CT.Sch
namespace Go.CT.Sch
open Go.Proofs
theorem Af8 {α β R:Type} (l:List α) (I:Nat→β→Prop) (F:Nat→β→R) (step:β→α→β) (fin:β→R)
  (h1: ∀i (hi:i<l.length) b,I i b→F i b=F (i+1) (step b l[i])∧I (i+1) (step b l[i])) (h0: ∀b,I l.length b→F l.length b=fin b):
  ∀ (n i:Nat) (b:β),i+n=l.length→I i b→F i b=fin ((l.drop i).foldl step b)
 | 0,i,b,h,hI=>by
  have:i=l.length:=by omega
  subst this
  rw [h0 b hI,List.drop_length];rfl
 | n+1,i,b,h,hI=>by
  have hi:i<l.length:=by omega
  obtain ⟨e,hI'⟩:=h1 i hi b hI
  rw [e,Af8 l I F step fin h1 h0 n (i+1) _ (by omega) hI',List.drop_eq_getElem_cons hi];rfl
theorem Ald {α β R:Type} (l:List α) (I:Nat→β→Prop) (F:Nat→β→R) (step:β→α→β) (fin:β→R) (b:β)
  (h1: ∀i (hi:i<l.length) b,I i b→F i b=F (i+1) (step b l[i])∧I (i+1) (step b l[i])) (h0: ∀b,I l.length b→F l.length b=fin b) (hI:I 0 b):
  F 0 b=fin (l.foldl step b):=by
 have:=Af8 l I F step fin h1 h0 l.length 0 b (by omega) hI
 rwa [List.drop_zero] at this
theorem Oh {α β:Type} (g:α→β): ∀ (l:List α) (b:List β),l.foldl (fun b x=>b++ [g x]) b=b++l.map g
 | [],b=>by simp
 | x::l,b=>by rw [List.foldl_cons,Oh g l];simp
theorem Aqb {α:Type} (enc:α→IV) {l:List α} {i:Nat} (h:i<l.length):O.index (.list (l.map enc)) (.int i)=some (enc l[i]):=by
 simp only [O.Aj,Int.natCast_nonneg,if_true,Int.toNat_natCast,List.getElem?_map,List.getElem?_eq_getElem h,Option.map_some]
theorem Abf {α:Type} (enc:α→IV) (l:List α):O.len (.list (l.map enc))=some (.int l.length):=by rw [O.Ao,List.length_map]
theorem apm {α:Type} (enc:α→IV) {n:Nat} (l:List α) (x:α) (hl:l.length≤137438953471) (hn:n≤1024:=by decide):O.append n (.list (l.map enc)) (.list [enc x])=some (.list ((l++ [x]).map enc)):=by
 rw [O.Bm,if_pos]
 ·simp
 ·have:(l.length+1) * n≤137438953472 * 1024:=Nat.mul_le_mul (by omega) hn
  simp only [List.length_map,List.length_singleton]
  unfold Az;omega
theorem lti {i n:Nat} (h:i<n):O.lt (.int i) (.int n)=some (.bool true):=by rw [O.Ai];simp;omega
theorem ltn (n:Nat):O.lt (.int n) (.int n)=some (.bool false):=by rw [O.Ai];simp
theorem nxt {i:Nat} (h:i<4611686018427387904):O.add .i64 (.int i) (.int 1)=some (.int ((i+1:Nat):Int)):=by rw [O.Am,A8 (by omega)]
def Eo (x:Kid):IV:= .agg [.int x.1.k,.str x.1.nm,.int x.1.ix,.str x.1.vl,.int x.2.1.k,.int x.2.1.n,.str x.2.1.s,.list (x.2.1.l.map Val.enc),.list (x.2.1.f.map Fld.enc),
 .int (x.2.2.getD Cn).k,.int (x.2.2.getD Cn).mn,.int (x.2.2.getD Cn).mx,.list ((x.2.2.getD Cn).en.map .str),.str (x.2.2.getD Cn).key,.list ((x.2.2.getD Cn).it.map Sch.enc),.list ((x.2.2.getD Cn).f.map SFld.enc),.bool x.2.2.isSome]
theorem Afk (x:Kid):O.projs 0 4 (Eo x)=some x.1.enc:=rfl
theorem Amg (x:Kid):O.projs 4 5 (Eo x)=some x.2.1.enc:=by rw [Val.Ec,Val.Cm];rfl
theorem Aun (x:Kid):O.projs 9 7 (Eo x)=some (x.2.2.getD Cn).enc :=by rw [Sch.Ec,Sch.Cm];rfl
theorem kid0 (x:Kid):O.proj 0 (Eo x)=some (.int x.1.k):=rfl
theorem kid1 (x:Kid):O.proj 1 (Eo x)=some (.str x.1.nm):=rfl
theorem kid3 (x:Kid):O.proj 3 (Eo x)=some (.str x.1.vl):=rfl
theorem kid4 (x:Kid):O.proj 4 (Eo x)=some (.int x.2.1.k):=rfl
theorem kid9 (x:Kid):O.proj 9 (Eo x)=some (.int (x.2.2.getD Cn).k):=rfl
theorem A0j (x:Kid):O.proj 13 (Eo x)=some (.str (x.2.2.getD Cn).key):=rfl
theorem A0h (x:Kid):O.proj 16 (Eo x)=some (.bool x.2.2.isSome):=rfl
theorem Af4 (s:Sch) (p:ByteArray × Val) (hs:s.Au≤1099511627776): ∀ (n i:Nat),i+n=s.f.length→
  ∃r:Int,W F84 1 [.list (s.f.map SFld.enc),Fld.enc p,.int s.f.length,.int i]=some [.int r]∧
   ((((s.f.drop i).find? fun q=>decide (q.nm=p.1))=none∧r<0)∨(∃j:Nat,r=j∧s.f[j]?=((s.f.drop i).find? fun q=>decide (q.nm=p.1))∧((s.f.drop i).find? fun q=>decide (q.nm=p.1)).isSome =true))
 | 0,i,h=>by
  rw [Alx]
  have h1: ¬ i<s.f.length:=by omega
  refine ⟨-1,by simp [h1],.inl ⟨by simp [List.drop_of_length_le (Nat.le_of_not_lt h1)],by omega⟩⟩
 | n+1,i,h=>by
  have hi:i<s.f.length:=by omega
  have hm:=s.Ba
  obtain ⟨r,hr,h2⟩:=Af4 s p hs n (i+1) (by omega)
  rw [Alx,List.drop_eq_getElem_cons hi,List.find?_cons]
  simp only [lti hi,Option.bind_some,O.Ab,if_true,Aqb SFld.enc hi,Asu,SFld.Bt,Fld.Bt,O.E0,O.Ag,nxt (show i<4611686018427387904 by omega),hr]
  by_cases c:s.f[i].nm =p.1
  ·refine ⟨i,by simp [c],.inr ⟨i,rfl,by simp [c],by simp [c]⟩⟩
  ·have c':decide (s.f[i].nm =p.1)=false:=by simpa using c
   simp only [c',Bool.false_eq_true,if_false]
   exact ⟨r,rfl,h2⟩
def D5 (s:Sch) (x:ByteArray × Val):Kid:=(Cv x.1,x.2,Ns s x.1)
theorem Ahz (s:Sch) (v:Val) (hs:s.Au≤1099511627776) (hv:v.Au≤1048576):W F83 0 [s.enc,v.enc]=some [.list ((v.f.map (D5 s)).map Eo)]:=by
 have hl:=v.Ba
 rw [Av5]
 simp only [Val.C4,Option.bind_some,Abf]
 refine (Ald v.f (fun i (b:List Kid)=>b.length=i) (fun i b=>W F83 1 [.list (v.f.map Fld.enc),.int v.f.length,.int i,s.enc,.list (b.map Eo)]) (fun b x=>b++ [D5 s x]) (fun b=>some [.list (b.map Eo)]) [] ?_ ?_ rfl).trans ?_
 ·intro i hi b hb
  refine ⟨?_,by simp [hb]⟩
  rw [Ayl]
  have e2: ∀ (o:Option Sch),Ns s v.f[i].1 =o→W F83 2 [.list (v.f.map Fld.enc),.int v.f.length,.int i,s.enc,.list (b.map Eo),.int 1,.str v.f[i].1,.int 0,.str ⟨#[]⟩,.int v.f[i].2.k,.int v.f[i].2.n,.str v.f[i].2.s,.list (v.f[i].2.l.map Val.enc),.list (v.f[i].2.f.map Fld.enc),
    .int (o.getD Cn).k,.int (o.getD Cn).mn,.int (o.getD Cn).mx,.list ((o.getD Cn).en.map .str),.str (o.getD Cn).key,.list ((o.getD Cn).it.map Sch.enc),.list ((o.getD Cn).f.map SFld.enc),.bool o.isSome]=
    W F83 1 [.list (v.f.map Fld.enc),.int v.f.length,.int (i+1:Nat),s.enc,.list ((b++ [D5 s v.f[i]]).map Eo)]:=by
   rintro o rfl
   have ha:=apm Eo (n:=248) b (D5 s v.f[i]) (by omega)
   rw [Asv]
   simp only [O.Br,O.B8,Option.bind_some,nxt (show i<4611686018427387904 by omega)]
   have he:(IV.agg [.int 1,.str v.f[i].1,.int 0,.str ⟨#[]⟩,.int v.f[i].2.k,.int v.f[i].2.n,.str v.f[i].2.s,.list (v.f[i].2.l.map Val.enc),.list (v.f[i].2.f.map Fld.enc),
    .int ((Ns s v.f[i].1).getD Cn).k,.int ((Ns s v.f[i].1).getD Cn).mn,.int ((Ns s v.f[i].1).getD Cn).mx,.list (((Ns s v.f[i].1).getD Cn).en.map .str),.str ((Ns s v.f[i].1).getD Cn).key,.list (((Ns s v.f[i].1).getD Cn).it.map Sch.enc),.list (((Ns s v.f[i].1).getD Cn).f.map SFld.enc),.bool (Ns s v.f[i].1).isSome])=Eo (D5 s v.f[i]):=rfl
   rw [he,ha];rfl
  simp only [lti hi,Option.bind_some,O.Ab,if_true,Aqb Fld.enc hi,Fld.Bt,Fld.Mi,Val.Bt,Val.C3,Val.D3,Val.Ce,Val.C4,Sch.Jc,Abf,O.Bj]
  cases hit:s.it with
  | cons t ts=>
   have hsub:Ns s v.f[i].1 =some t:=by unfold Ns;rw [hit]
   have:=e2 (some t) hsub
   simp only [Option.getD_some,Option.isSome_some] at this
   have h0:(0:Int)<((t::ts).length :Nat):=by simp
   simp only [h0,decide_true,if_true,List.map_cons,O.Aj,Int.le_refl,Int.toNat_zero,List.getElem?_cons_zero,Option.bind_some,Sch.Bt,Sch.C3,Sch.D3,Sch.Ce,Sch.C4,Sch.Jc,Sch.Hv]
   exact this
  | nil=>
   have hsub:Ns s v.f[i].1 =(s.fld v.f[i].1).map (·.s):=by unfold Ns;rw [hit]
   obtain ⟨r,hr,h2⟩:=Af4 s v.f[i] hs s.f.length 0 (by omega)
   have hr':W F84 0 [.list (s.f.map SFld.enc),Fld.enc v.f[i]]=some [.int r]:=by
    rw [As8]
    simpa using hr
   simp only [List.drop_zero] at h2
   have hf:(s.f.find? fun p=>decide (p.nm=v.f[i].1))=s.fld v.f[i].1 :=rfl
   rw [hf] at h2
   have h0: ¬ (0:Int)<(([]:List Sch).length :Nat):=by simp
   simp only [h0,decide_false,Bool.false_eq_true,if_false,Sch.Hv,Option.bind_some,hr',O.Ag,O.Ek,O.Ab]
   rcases h2 with ⟨h3,h4⟩ | ⟨j,rfl,h3,h4⟩
   ·have hn: ¬ (0:Int)≤r:=by omega
    have:=e2 none (by rw [hsub,h3];rfl)
    simp only [Option.getD_none,Option.isSome_none] at this
    simp only [hn,decide_false,Bool.false_eq_true,if_false]
    exact this
   ·obtain ⟨d,hd⟩:=Option.isSome_iff_exists.1 h4
    rw [hd] at h3
    have:=e2 (some d.s) (by rw [hsub,hd];rfl)
    simp only [Option.getD_some,Option.isSome_some] at this
    simp only [Int.natCast_nonneg,decide_true,if_true,O.Aj,Int.toNat_natCast,List.getElem?_map,h3,Option.map_some,Option.bind_some,SFld.Acb,Sch.Bt,Sch.C3,Sch.D3,Sch.Ce,Sch.C4,Sch.Jc,Sch.Hv]
    exact this
 ·intro b hb
  rw [Ayl]
  simp only [ltn,Option.bind_some,O.Ab,Bool.false_eq_true,if_false]
 ·rw [Oh];rfl
end Go.CT.Sch
namespace Go.CT.Sch
open Go.Proofs
theorem Ayk (ks:List ByteArray) (s:ByteArray):O.Am9 (.bool false) (.list (Uj ks)) (.str s)=some (.bool (inB ks s)):=by
 unfold O.Am9
 simp only [Prim.ev,Abv,Option.map_some]
 cases inB ks s<;>simp
theorem Axu (ks:List ByteArray) (s:ByteArray): ∃b,O.Aio (.list (Uj ks)) (.str s)=some (.bool b):=by
 unfold O.Aio
 simp only [Prim.ev,Abv,Option.map_some]
 exact ⟨_,rfl⟩
theorem Ayg (ks:List ByteArray) (s:ByteArray):O.Ams (.list (Uj ks)) (.str s) (.bool true)=some (.list (Uj (if inB ks s then ks else ks++ [s]))):=by
 unfold O.Ams
 simp only [Prim.ev,Ar5,Option.map_some]
def Dk (s:Sch) (x:Val):Kid:=(At7 s.key x,x,s.it.head?)
theorem Ot (s t:Sch) (v:Val) (ht:s.it= [t]) (hv:v.Au≤1048576): ∀ (n i:Nat) (b:List Kid) (acc:List ByteArray),i+n=v.l.length→b.length=i→
  W F86 1 [.list (v.l.map Val.enc),.int v.l.length,.int i,s.enc,.list (b.map Eo),.list (Uj acc)]=some [.list ((if Ho s.key acc (v.l.drop i) then b++(v.l.drop i).map (Dk s) else []).map Eo)]
 | 0,i,b,acc,h,hb=>by
  have:i=v.l.length:=by omega
  subst this
  rw [Ajy,List.drop_length,Ho]
  simp only [ltn,Option.bind_some,O.Ab,Bool.false_eq_true,if_false,if_true,List.map_nil,List.append_nil]
 | n+1,i,b,acc,h,hb=>by
  have hi:i<v.l.length:=by omega
  have hl:=v.Dm
  have hm:=Val.Ir (List.getElem_mem hi)
  have hg:=Am3 v.l[i] s.key (by omega)
  obtain ⟨bb,hh⟩:=Axu acc (H7 v.l[i] s.key)
  have hh':O.Aio (.list (Uj acc)) (.str ((v.l[i].get s.key).getD Bb).s)=some (.bool bb):=hh
  have hms:=Ayg acc (H7 v.l[i] s.key)
  have hmg:=Ayk acc (H7 v.l[i] s.key)
  unfold H7 at hms hmg
  rw [Ajy,List.drop_eq_getElem_cons hi,Ho]
  simp only [lti hi,Option.bind_some,O.Ab,if_true,Aqb Val.enc hi,Sch.C4,hg,Le,Mx,O.A3,O.C8,Aw,Ap,hmg,hh']
  unfold isKey H7
  cases c1:(v.l[i].get s.key).isSome with
  | false=>simp
  | true=>
   by_cases c2:((v.l[i].get s.key).getD Bb).k =3
   ·cases c3:inB acc ((v.l[i].get s.key).getD Bb).s with
    | true=>simp [c2]
    | false=>
     have ih:=Ot s t v ht hv n (i+1) (b++ [Dk s v.l[i]]) (acc++ [H7 v.l[i] s.key]) (by omega) (by simp [hb])
     have ha:=apm Eo (n:=248) b (Dk s v.l[i]) (by omega)
     have he:(IV.agg [.int 3,.str s.key,.int 0,.str ((v.l[i].get s.key).getD Bb).s,.int v.l[i].k,.int v.l[i].n,.str v.l[i].s,.list (v.l[i].l.map Val.enc),.list (v.l[i].f.map Fld.enc),
      .int t.k,.int t.mn,.int t.mx,.list (t.en.map .str),.str t.key,.list (t.it.map Sch.enc),.list (t.f.map SFld.enc),.bool true])=Eo (Dk s v.l[i]):=by
      unfold Dk Eo;rw [ht];rfl
     simp only [c2,decide_true,Bool.not_true,Bool.false_eq_true,if_false,hms,c3,Option.bind_some,Sch.Jc,ht,List.map_cons,List.map_nil,O.Aj,Int.le_refl,if_true,Int.toNat_zero,List.getElem?_cons_zero,Sch.Bt,Sch.C3,Sch.D3,Sch.Ce,Sch.C4,Sch.Hv,
      Val.Bt,Val.C3,Val.D3,Val.Ce,Val.C4,O.Br,O.B8,nxt (show i<4611686018427387904 by omega),Bool.not_false,Bool.true_and,Bool.and_true]
     rw [he,ha]
     simp only [Option.bind_some]
     refine ih.trans ?_
     unfold H7
     simp only [List.append_assoc,List.singleton_append]
   ·simp [c2]
theorem Adq (s t:Sch) (v:Val) (ht:s.it= [t]) (hv:v.Au≤1048576):W F86 0 [s.enc,v.enc]=some [.list ((if Ho s.key [] v.l then v.l.map (Dk s) else []).map Eo)]:=by
 have:=Ot s t v ht hv v.l.length 0 [] [] (by omega) rfl
 rw [List.drop_zero] at this
 rw [Atb]
 simp only [Val.Ce,Option.bind_some,Abf]
 exact this
theorem Sp (x:Kid) (hsb: ∀s,x.2.2=some s→SB s∧s.Au≤1048576) (hv:x.2.1.Au≤1048576):W F82 0 [Eo x]=some [.list ((kids x.2.2 x.2.1).map Eo)]:=by
 obtain ⟨st,v,o⟩:=x
 rw [Avw]
 simp only [A0h,kid9,kid4,A0j,Aun,Amg,Option.bind_some,O.A3,O.C8,O.Ab,Aw,Ap]
 cases o with
 | none=>simp [kids]
 | some s=>
  obtain ⟨hsb,hs⟩:=hsb s rfl
  simp only [Option.isSome_some,Bool.not_true,Bool.false_eq_true,if_false,Option.getD_some]
  rw [kids]
  by_cases c1:s.k=v.k
  ·simp only [c1,decide_true,Bool.not_true,Bool.false_eq_true,if_false,if_true,O.eq_int,Option.bind_some]
   by_cases c2:v.k=5
   ·simp only [c2,decide_true,if_true,Ahz s v (by omega) hv,O.Ag];rfl
   ·simp only [c2,decide_false,Bool.false_eq_true,if_false,O.Ab,Aw,O.Ja,Option.bind_some,Ap]
    by_cases c3:v.k=4
    ·have hl:=hsb.list (by omega)
     obtain ⟨t,ht⟩: ∃t,s.it= [t]:=List.length_eq_one_iff.1 hl
     by_cases c4:s.key=Ar
     ·have:s.key=(⟨#[]⟩:ByteArray):=c4
      have e:decide (Ar=(⟨#[]⟩:ByteArray))=true:=rfl
      simp only [c3,decide_true,if_true,e,Bool.not_true,Bool.false_eq_true,if_false,c4,ne_eq,not_true_eq_false,false_and,and_false,List.map_nil]
     ·have c4': ¬ s.key=(⟨#[]⟩:ByteArray):=c4
      simp only [c3,decide_true,if_true,c4',decide_false,Bool.not_false,Adq s t v ht hv,O.Ag,true_and,c4,ne_eq,not_false_eq_true]
      rfl
    ·simp [c3]
  ·simp [c1]
theorem Ad6 (p:List Stp) (s:Stp) (hl:p.length≤1073741824):W F88 0 [.list (p.map Stp.enc),s.enc]=some [.list ((p++ [s]).map Stp.enc)]:=by
 have h1:O.K3 [.list (p.map Stp.enc)]=some [.list (p.map Stp.enc)]:=He (by rw [List.length_map];omega)
 rw [Au0]
 simp only [Ax1,h1,O.Ag,O.B8,Option.bind_some,apm Stp.enc (n:=48) p s (by omega)]
def OSB (o:Option Sch):Prop:= ∀s,o=some s→SB s∧s.Au≤1048576
theorem Ai5 {o:Option Sch} {v:Val} (h:OSB o) {x:Kid} (hx:x∈kids o v):OSB x.2.2:=by
 cases o with
 | none=>simp [kids] at hx
 | some s=>
  obtain ⟨h1,h2⟩:=h s rfl
  rw [kids] at hx
  split at hx
  ·split at hx
   ·obtain ⟨p,hp,rfl⟩:=List.mem_map.1 hx
    intro t ht
    have:=N3 ht
    exact ⟨h1.sub ht,by omega⟩
   ·split at hx
    ·obtain ⟨p,hp,rfl⟩:=List.mem_map.1 hx
     intro t ht
     have hm:=List.mem_of_head? ht
     have:=Sch.I3 hm
     exact ⟨h1.Tz hm,by omega⟩
    ·simp at hx
  ·simp at hx
theorem Zg {o:Option Sch} {v:Val} (h:OSB o) (hv:v.Au≤1048576) {x:Kid} (hx:x∈kids o v):x.1.fits:=by
 cases o with
 | none=>simp [kids] at hx
 | some s=>
  obtain ⟨h1,h2⟩:=h s rfl
  rw [kids] at hx
  split at hx
  ·split at hx
   ·obtain ⟨p,hp,rfl⟩:=List.mem_map.1 hx
    have:=Val.Dz hp
    exact Hh _ (by omega)
   ·split at hx
    ·obtain ⟨p,hp,rfl⟩:=List.mem_map.1 hx
     have:=Val.Ir hp
     have h3:=Ad4 p s.key
     have:=s.Wb
     exact ⟨by show s.key.size≤_;omega,by show (H7 p s.key).size ≤_;unfold H7;omega⟩
    ·simp at hx
  ·simp at hx
end Go.CT.Sch
namespace Go.CT.Sch
open Go.Proofs
theorem Ae3 (o:Option Sch) (v:Val) (g:Kid→List ByteArray) (hg: ∀x∈kids o v,(g x).length ≤x.2.1.size):((kids o v).flatMap g).length <v.size:=by
 have hF: ∀ (l:List (ByteArray × Val)) (s:Sch),(∀x∈l.map (D5 s),(g x).length ≤x.2.1.size)→((l.map (D5 s)).flatMap g).length ≤Bn l:=by
  intro l s
  induction l with
  | nil=>simp
  | cons a l ih=>
   intro h
   have h1:=h (D5 s a) (by simp)
   have h2:=ih fun x hx=>h x (by simp only [List.map_cons,List.mem_cons];exact .inr hx)
   have h3:(D5 s a).2.1.size =a.2.size:=rfl
   have h4:Bn (a::l)=a.2.size+Bn l:=rfl
   simp only [List.map_cons,List.flatMap_cons,List.length_append];omega
 have hV: ∀ (l:List Val) (s:Sch),(∀x∈l.map (Dk s),(g x).length ≤x.2.1.size)→((l.map (Dk s)).flatMap g).length ≤Cb l:=by
  intro l s
  induction l with
  | nil=>simp
  | cons a l ih=>
   intro h
   have h1:=h (Dk s a) (by simp)
   have h2:=ih fun x hx=>h x (by simp only [List.map_cons,List.mem_cons];exact .inr hx)
   have h3:(Dk s a).2.1.size =a.size:=rfl
   have h4:Cb (a::l)=a.size+Cb l:=rfl
   simp only [List.map_cons,List.flatMap_cons,List.length_append];omega
 have hs:=v.size_eq
 cases o with
 | none=>simp only [kids,List.flatMap_nil,List.length_nil];omega
 | some s=>
  revert hg
  rw [kids]
  intro hg
  split
  ·rename_i c1;rw [if_pos c1] at hg
   split
   ·rename_i c2;rw [if_pos c2] at hg
    have:((v.f.map (D5 s)).flatMap g).length ≤Bn v.f:=hF v.f s hg
    show ((v.f.map (D5 s)).flatMap g).length <_
    omega
   ·rename_i c2;rw [if_neg c2] at hg
    split
    ·rename_i c3;rw [if_pos c3] at hg
     have:((v.l.map (Dk s)).flatMap g).length ≤Cb v.l:=hV v.l s hg
     show ((v.l.map (Dk s)).flatMap g).length <_
     omega
    ·simp only [List.flatMap_nil,List.length_nil];omega
  ·simp only [List.flatMap_nil,List.length_nil];omega
theorem Ais: ∀ (n:Nat) (o:Option Sch) (v:Val) (p:List Stp),(lv n o v p).length ≤v.size
 | 0,_,_,_=>by simp [lv]
 | n+1,o,v,p=>by
  have:=v.size_pos
  rw [lv]
  split
  ·simp;omega
  ·exact Nat.le_of_lt (Ae3 o v _ fun x _=>Ais n _ _ _)
theorem Al4: ∀ (n:Nat) (x:Kid) (p:List Stp) (out:List ByteArray),x.2.1.size≤n→OSB x.2.2→x.2.1.Au≤1048576→(∀s∈p,s.fits)→p.length+n≤1073741824→out.length+(lv n x.2.2 x.2.1 p).length ≤1073741824→
  W F81 0 [Eo x,.list (p.map Stp.enc),SL out]=some [SL (out++lv n x.2.2 x.2.1 p)]
 | 0,x,p,out,h,_,_,_,_,_=>by have:=x.2.1.size_pos;omega
 | n+1,x,p,out,h,hsb,hv,hp,hl,ho=>by
  rw [lv] at ho ⊢
  have loop: ∀ (m i:Nat) (out:List ByteArray),i+m=(kids x.2.2 x.2.1).length →out.length+(((kids x.2.2 x.2.1).drop i).flatMap fun y=>lv n y.2.2 y.2.1 (p++ [y.1])).length ≤1073741824→
    W F81 2 [.list (p.map Stp.enc),.int (kids x.2.2 x.2.1).length,.int i,.list ((kids x.2.2 x.2.1).map Eo),SL out]=some [SL (out++((kids x.2.2 x.2.1).drop i).flatMap fun y=>lv n y.2.2 y.2.1 (p++ [y.1]))]:=by
   intro m
   induction m with
   | zero=>
    intro i out hi ho
    have:i=(kids x.2.2 x.2.1).length :=by omega
    subst this
    rw [Ajt,List.drop_length]
    simp only [ltn,Option.bind_some,O.Ab,Bool.false_eq_true,if_false,List.flatMap_nil,List.append_nil]
   | succ m ih=>
    intro i out hi ho
    have hi':i<(kids x.2.2 x.2.1).length :=by omega
    have hx:=List.getElem_mem hi'
    obtain ⟨hs1,hs2⟩:=Tp hx
    rw [List.drop_eq_getElem_cons hi',List.flatMap_cons,List.length_append] at ho
    have hlen:(kids x.2.2 x.2.1).length <4611686018427387904:=by
     have:=Ae3 x.2.2 x.2.1 (fun _=> [Ar]) (fun y hy=>by have:=y.2.1.size_pos;simp;omega)
     have h2:((kids x.2.2 x.2.1).flatMap fun _=> [Ar]).length =(kids x.2.2 x.2.1).length :=by
      generalize kids x.2.2 x.2.1=l
      induction l with
      | nil=>rfl
      | cons a l ih=>simp [List.flatMap_cons,ih]
     have:=x.2.1.Gy
     omega
    have hw:=Al4 n (kids x.2.2 x.2.1)[i] (p++ [(kids x.2.2 x.2.1)[i].1]) out (by omega) (Ai5 hsb hx) (by omega) (Gi hp (Zg hsb hv hx)) (by simp;omega) (by omega)
    rw [Ajt]
    simp only [lti hi',Option.bind_some,O.Ab,if_true,Aqb Eo hi',Afk,Ad6 p _ (show p.length≤1073741824 by omega),O.Ag,hw,nxt (show i<4611686018427387904 by omega)]
    rw [ih (i+1) _ (by omega) (by simp only [List.length_append];omega),List.drop_eq_getElem_cons hi',List.flatMap_cons,List.append_assoc]
  rw [Ats]
  simp only [Sp x hsb hv,O.Ag,Abf,Option.bind_some,O.eq_int,O.Ab]
  by_cases c:kids x.2.2 x.2.1= []
  ·simp only [c,if_true,List.length_nil,Int.cast_ofNat_Int,decide_true,Yb p hp (by omega),O.Dc,Awd,O.B8,Option.bind_some]
   rw [if_pos c,List.length_singleton] at ho
   have ha:=apm IV.str (n:=16) out (G8 p) (by omega)
   have ha':O.append 16 (SL out) (.list [.str (G8 p)])=some (SL (out++ [G8 p])):=ha
   simp only [ha',Option.bind_some,O.Ag]
   have:=loop 0 0 (out++ [G8 p]) (by rw [c];rfl) (by rw [c];simp;omega)
   rw [c] at this
   simp only [List.length_nil,Int.cast_ofNat_Int,List.drop_nil,List.flatMap_nil,List.append_nil] at this
   rw [Ai2]
   simp only [Abf,List.length_nil,Int.cast_ofNat_Int,Option.bind_some]
   exact this
  ·have c': ¬ ((kids x.2.2 x.2.1).length :Int)=0:=by
    have:(kids x.2.2 x.2.1).length ≠0:=fun e=>c (List.length_eq_zero_iff.1 e)
    omega
   rw [if_neg c] at ho ⊢
   simp only [c',decide_false,Bool.false_eq_true,if_false]
   rw [Ai2]
   simp only [Abf,Option.bind_some]
   have:=loop (kids x.2.2 x.2.1).length 0 out (by omega) (by rw [List.drop_zero];exact ho)
   rw [List.drop_zero] at this
   exact this
theorem Afp (s:Sch) (v:Val) (hs:s.Au≤1048576) (hv:v.Au≤1048576):W F13 0 [s.enc,v.enc]=some [.bool (s.valid&&v.valid)]:=by
 rw [Avc]
 simp only [Amu s hs,Nu v (by omega),O.Ag,O.Ab,Aw,Ap,Option.bind_some]
 cases s.valid<;>cases v.valid<;>rfl
def Gq (s:Sch) (v:Val):List ByteArray:=if s.valid&&v.valid then Axf (lv v.size (some s) v []) else []
theorem Ama (s:Sch) (v:Val) (hs:s.Au≤1048576) (hv:v.Au≤1048576):W F12 0 [s.enc,v.enc]=some [SL (Gq s v)]:=by
 rw [Aum]
 simp only [Afp s v hs hv,O.Ag,O.A3,Option.bind_some,O.Ab]
 unfold Gq
 cases c:s.valid&&v.valid with
 | false=>simp only [Bool.not_false,if_true,Bool.false_eq_true,if_false];rfl
 | true=>
  have c1:s.valid=true∧v.valid=true:=by simpa using c
  have hsb:=Sch.Agg c1.1
  have hsz:=v.Gy
  have hl:=Ais v.size (some s) v []
  have he:IV.agg [.int 0,.str ⟨#[]⟩,.int 0,.str ⟨#[]⟩,.int v.k,.int v.n,.str v.s,.list (v.l.map Val.enc),.list (v.f.map Fld.enc),.int s.k,.int s.mn,.int s.mx,.list (s.en.map .str),.str s.key,.list (s.it.map Sch.enc),.list (s.f.map SFld.enc),.bool true]=Eo (⟨0,Ar,0,Ar⟩,v,some s):=rfl
  have hw:=Al4 v.size (⟨0,Ar,0,Ar⟩,v,some s) [] [] (Nat.le_refl _) (fun t ht=>by cases ht;exact ⟨hsb,hs⟩) hv (by simp) (by simp;omega) (by simp only [List.length_nil];omega)
  simp only [List.nil_append] at hw
  simp only [Bool.not_true,Bool.false_eq_true,if_false,if_true,Val.Bt,Val.C3,Val.D3,Val.Ce,Val.C4,Sch.Bt,Sch.C3,Sch.D3,Sch.Ce,Sch.C4,Sch.Jc,Sch.Hv,Option.bind_some,O.Br,he]
  have hw':W F81 0 [Eo (⟨0,Ar,0,Ar⟩,v,some s),.list [],.list []]=some [SL (lv v.size (some s) v [])]:=hw
  rw [hw']
  simp only [O.Ag,fset (l:=lv v.size (some s) v []) (by omega)]
end Go.CT.Sch
namespace Go.CT.Sch
open Go.Proofs
theorem Hr {key:ByteArray} : ∀ {l:List Val} {acc:List ByteArray},Ho key acc l=true→ ∀x∈l,isKey x key=true
 | [],_,_=>by simp
 | y::l,acc,h=>by
  simp only [Ho,Bool.and_eq_true] at h
  intro x hx
  rcases List.mem_cons.1 hx with rfl | hx
  ·exact h.1.1
  ·exact Hr h.2 x hx
end Go.CT.Sch
namespace Go.CT.Sch
open Go.Proofs
end Go.CT.Sch
namespace Go.CT.Sch
open Go.Proofs
theorem Za (v:Val) (hv:v.Au≤1099511627776) (n:Int) (h0:0≤n) (h1:n≤1000): ∃b,W F3 0 [v.enc,.int n]=some [.bool b]:=by
 obtain ⟨r,h,_⟩:=Anh v hv n n (by omega) (by omega) (by omega)
 exact ⟨decide (0≤r),by rw [Axx];simp [h]⟩
def PtT (s:Sch):Prop:=s.Au≤1048576→ ∀c:Int,c≤100000→ ∃r:Int,W F2 0 [s.enc,.int c]=some [.int r]∧r≤100000
theorem Al5 (s:Sch) (hs:s.Au≤1048576) (c:Int) (i:Nat) (hi:i<s.f.length) (K: ∃r:Int,(∃r':Int,W F2 0 [s.f[i].s.enc,.int c]=some [.int r']∧W F2 2 [.int r',.int (i+1:Nat),s.enc]=some [.int r])∧r≤100000): ∀ (n j:Nat),j+n=s.f[i].df.length →
  ∃r:Int,W F2 3 [.int c,.int i,.int j,s.enc]=some [.int r]∧r≤100000
 | 0,j,h=>by
  have hj:j=s.f[i].df.length :=by omega
  subst hj
  have hm:=s.Ba
  obtain ⟨r,⟨r',h1,h2⟩,h3⟩:=K
  rw [Ash]
  exact ⟨r,by simp only [Sch.Hv,Option.bind_some,Aqb SFld.enc hi,SFld.Ce,Abf,ltn,O.Ab,Bool.false_eq_true,if_false,SFld.Acb,h1,O.Ag,nxt (show i<4611686018427387904 by omega),h2],h3⟩
 | n+1,j,h=>by
  have hj:j<s.f[i].df.length :=by omega
  have hd:=Sch.Ak9 (List.getElem_mem hi) (List.getElem_mem hj)
  have hl:s.f[i].df.length ≤4294967296:=by
   have:=Sch.Dz (List.getElem_mem hi)
   have:=My s.f[i].df
   omega
  obtain ⟨b,hb⟩:=Za s.f[i].df[j] (by omega) 50 (by omega) (by omega)
  obtain ⟨r,hr,hr2⟩:=Al5 s hs c i hi K n (j+1) (by omega)
  rw [Ash]
  simp only [Sch.Hv,Option.bind_some,Aqb SFld.enc hi,SFld.Ce,Abf,lti hj,O.Ab,if_true,O.Bj,Aqb Val.enc hj,hb,O.Ag,O.A3,Aw,Ap,nxt (show j<4611686018427387904 by omega),hr]
  by_cases c1:(2:Int)<j
  ·exact ⟨-1,by simp [c1],by omega⟩
  ·cases b
   ·exact ⟨-1,by simp [c1],by omega⟩
   ·exact ⟨r,by simp [c1],hr2⟩
theorem Adl (s:Sch) (hs:s.Au≤1048576) (ih: ∀p∈s.f,PtT p.s): ∀ (n i:Nat) (c:Int),i+n=s.f.length→c≤100000→
  ∃r:Int,W F2 2 [.int c,.int i,s.enc]=some [.int r]∧r≤100000
 | 0,i,c,h,hc=>by
  have hi:i=s.f.length:=by omega
  subst hi
  rw [Arr]
  exact ⟨c,by simp only [Sch.Hv,Option.bind_some,Abf,ltn,O.Ab,Bool.false_eq_true,if_false],hc⟩
 | n+1,i,c,h,hc=>by
  have hi:i<s.f.length:=by omega
  have hm:=Sch.Dz (List.getElem_mem hi)
  obtain ⟨r',h1,h2⟩:=ih _ (List.getElem_mem hi) (by omega) c hc
  obtain ⟨r,h3,h4⟩:=Adl s hs ih n (i+1) r' (by omega) h2
  obtain ⟨r2,h5,h6⟩:=Al5 s hs c i hi ⟨r,⟨r',h1,h3⟩,h4⟩ s.f[i].df.length 0 (by omega)
  have h5':W F2 3 [.int c,.int i,.int 0,s.enc]=some [.int r2]:=h5
  rw [Arr]
  by_cases c1:0≤c
  ·exact ⟨r2,by simp only [Sch.Hv,Option.bind_some,Abf,lti hi,O.Ab,if_true,O.Ek,c1,decide_true,h5'],h6⟩
  ·exact ⟨c,by simp only [Sch.Hv,Option.bind_some,Abf,lti hi,O.Ab,if_true,O.Ek,c1,decide_false,Bool.false_eq_true,if_false],hc⟩
theorem Ak0 (s:Sch) (hs:s.Au≤1048576) (ih: ∀t∈s.it,PtT t) (ihf: ∀p∈s.f,PtT p.s): ∀ (n i:Nat) (c:Int),i+n=s.it.length→c≤100000→
  ∃r:Int,W F2 1 [.int c,.int i,s.enc]=some [.int r]∧r≤100000
 | 0,i,c,h,hc=>by
  have hi:i=s.it.length:=by omega
  subst hi
  obtain ⟨r,h1,h2⟩:=Adl s hs ihf s.f.length 0 c (by omega) hc
  have h1':W F2 2 [.int c,.int 0,s.enc]=some [.int r]:=h1
  rw [Asq]
  exact ⟨r,by simp only [Sch.Jc,Option.bind_some,Abf,ltn,O.Ab,Bool.false_eq_true,if_false,h1'],h2⟩
 | n+1,i,c,h,hc=>by
  have hi:i<s.it.length:=by omega
  have hl:=s.Acx
  have hm:=Sch.I3 (List.getElem_mem hi)
  obtain ⟨r',h1,h2⟩:=ih _ (List.getElem_mem hi) (by omega) c hc
  obtain ⟨r,h3,h4⟩:=Ak0 s hs ih ihf n (i+1) r' (by omega) h2
  obtain ⟨r2,h5,h6⟩:=Adl s hs ihf s.f.length 0 c (by omega) hc
  have h5':W F2 2 [.int c,.int 0,s.enc]=some [.int r2]:=h5
  rw [Asq]
  by_cases c1:0≤c
  ·exact ⟨r,by simp only [Sch.Jc,Option.bind_some,Abf,lti hi,O.Ab,if_true,O.Ek,c1,decide_true,Aqb Sch.enc hi,h1,O.Ag,nxt (show i<4611686018427387904 by omega),h3],h4⟩
  ·exact ⟨r2,by simp only [Sch.Jc,Option.bind_some,Abf,lti hi,O.Ab,if_true,O.Ek,c1,decide_false,Bool.false_eq_true,if_false,h5'],h6⟩
theorem Amx: ∀s:Sch,PtT s:=by
 refine Sch.ind fun s ih1 ih2 hs c hc=>?_
 rw [Ayd]
 simp only [O.D1,Option.bind_some,O.Ab,Sch.Ce,Abf,O.Bj,Aw,Ap,O.Bv]
 by_cases c1:c≤0
 ·exact ⟨-1,by simp [c1],by omega⟩
 ·by_cases c2:(100:Int)<s.en.length
  ·exact ⟨-1,by simp [c1,c2],by omega⟩
  ·have hw:IntKind.i64.wrap (c - 1)=c - 1:=wrap64 (by omega) (by omega)
   obtain ⟨r,h1,h2⟩:=Ak0 s hs ih1 ih2 s.it.length 0 (c - 1) (by omega) (by omega)
   have h1':W F2 1 [.int (c - 1),.int 0,s.enc]=some [.int r]:=h1
   exact ⟨r,by simp only [c1,c2,decide_false,Bool.false_eq_true,if_false,hw,h1'],h2⟩
theorem Akx (s:Sch) (v:Val) (l:List ByteArray) (hs:s.Au≤1048576) (hv:v.Au≤1048576): ∃b,W F1 0 [s.enc,v.enc,SL l]=some [.bool b]:=by
 obtain ⟨r,h1,_⟩:=Amx s hs 60 (by omega)
 obtain ⟨b,h2⟩:=Za v (by omega) 100 (by omega) (by omega)
 rw [Ayq]
 simp only [h1,O.Ag,O.Ek,Option.bind_some,O.Ab,h2,Aw,Srt.len,O.D1,Ap]
 exact ⟨_,rfl⟩
theorem Acl (s:Sch) (v:Val):(Gq s v).length ≤v.size:=by
 unfold Gq
 split
 ·exact Nat.le_trans (Apl _) (Ais _ _ _ _)
 ·simp
end Go.CT.Sch
namespace Go.CT.Sch
open Go.Proofs
theorem It (p:ByteArray × Val) (nm:ByteArray):W Aza 0 [Fld.enc p,.str nm]=some [.bool (decide (p.1=nm))]:=by
 rw [Are];simp
theorem Zx (l:List (ByteArray × Val)) (nm:ByteArray) (hl:l.length≤1099511627776): ∀ (n i:Nat),i+n=l.length→(∀p∈l.take i,¬ p.1=nm)→
  (W Ave 1 [.list (l.map Fld.enc),.str nm,.int l.length,.int i]=some [.int (-1)]∧ ∀p∈l,¬ p.1=nm)∨
  ∃j,∃h:j<l.length,W Ave 1 [.list (l.map Fld.enc),.str nm,.int l.length,.int i]=some [.int (j:Nat)]∧l[j].1 =nm∧ ∀p∈l.take j,¬ p.1=nm
 | 0,i,h,hp=>by
  left
  rw [Agu]
  have h1: ¬ i<l.length:=by omega
  rw [List.take_of_length_le (by omega)] at hp
  refine ⟨?_,hp⟩
  simp only [O.Ai,Al,h1,decide_false,Option.bind_some,O.Ab,Bool.false_eq_true,if_false]
 | n+1,i,h,hp=>by
  have hi:i<l.length:=by omega
  have hw:=A8 (i:=i) (by omega)
  rw [Agu]
  by_cases c:l[i].1 =nm
  ·right
   refine ⟨i,hi,?_,c,hp⟩
   simp only [O.Ai,Al,hi,decide_true,Option.bind_some,O.Ab,if_true,O.Aj,Int.natCast_nonneg,Int.toNat_natCast,List.getElem?_map,List.getElem?_eq_getElem hi,Option.map_some,It,O.Ag,c]
  ·have:=Zx l nm hl n (i+1) (by omega) (by
    intro p hp'
    rw [←Yc l hi] at hp'
    rcases List.mem_append.1 hp' with h | h
    ·exact hp p h
    ·simp at h;subst h;exact c)
   simp only [O.Ai,Al,hi,decide_true,Option.bind_some,O.Ab,if_true,O.Aj,Int.natCast_nonneg,Int.toNat_natCast,List.getElem?_map,List.getElem?_eq_getElem hi,Option.map_some,It,O.Ag,c,decide_false,Bool.false_eq_true,if_false,O.Am,hw]
   exact this
theorem Kw (nm:ByteArray): ∀ (rest kept junk:List (ByteArray × Val)),junk≠ []→kept.length+junk.length+rest.length≤1099511627776→
  W Anp 1 [.str nm,.int kept.length,.int (kept.length+junk.length:Nat),Srt.LE Fld.enc (kept++(junk++rest))]=some [Srt.LE Fld.enc (kept++rest.filter (Gu nm))]
 | [],kept,junk,hj,hb=>by
  have hj':=List.length_pos_iff.2 hj
  rw [Aeu,Srt.len]
  have h1: ¬ ((kept.length+junk.length:Nat):Int)<(kept++(junk++ [])).length :=by simp
  have hc: ∀z:IV,O.clear z (Srt.LE Fld.enc (kept++(junk++ []))) (.int kept.length) (.int (kept++(junk++ [])).length)=some (.list (kept.map Fld.enc++List.replicate junk.length z)):=by
   intro z
   unfold O.clear Srt.LE
   simp only [Prim.ev,List.append_nil,List.length_map,List.length_append,Int.natCast_nonneg,true_and,Int.toNat_natCast,Nat.le_refl,and_true]
   rw [if_pos (by omega)]
   simp
  have hs: ∀ys:List IV,O.slice (.list (kept.map Fld.enc++ys)) (.int 0) (.int kept.length)=some (Srt.LE Fld.enc kept):=by
   intro ys
   rw [O.Vm,if_pos (by simp only [List.length_append,List.length_map];omega)]
   simp [Srt.LE]
  have hs2: ∃y,O.slice (Srt.LE Fld.enc (kept++(junk++ []))) (.int kept.length) (.int (kept++(junk++ [])).length)=some y:=by
   unfold Srt.LE
   rw [O.Vm,if_pos (by simp only [List.length_append,List.length_map];omega)]
   exact ⟨_,rfl⟩
  obtain ⟨y,hs2⟩:=hs2
  simp only [List.append_nil] at h1 hc hs2
  simp only [List.append_nil,Option.bind_some,O.Ai,h1,decide_false,O.Ab,Bool.false_eq_true,if_false,hs2,hc,hs,List.filter_nil,List.append_nil]
 | v::rest,kept,[],hj,hb=>absurd rfl hj
 | v::rest,kept,y::js,hj,hb=>by
  simp only [List.length_cons] at hb
  rw [Aeu,Srt.len]
  have h1:((kept.length+(y::js).length :Nat):Int)<(kept++(y::js++v::rest)).length :=by simp;omega
  have hw:IntKind.i64.wrap (((kept.length+(y::js).length :Nat):Int)+1)=((kept.length+(y::js).length +1:Nat):Int):=by simp only [List.length_cons];rw [wrap64 (by omega) (by omega)];omega
  have hw2:IntKind.i64.wrap ((kept.length:Int)+1)=((kept.length+1:Nat):Int):=A8 (by omega)
  have gv:=Srt.idx Fld.enc (Srt.Cl (l:=kept++(y::js++v::rest)) (A:=kept++y::js) (x:=v) (B:=rest) (by simp) (i:=kept.length+(y::js).length) (by simp))
  have gi:=Srt.idx Fld.enc (Srt.Cl (l:=kept++(y::js++v::rest)) (A:=kept) (x:=y) (B:=js++v::rest) (by simp) (i:=kept.length) rfl)
  have st:=Srt.H9 (l:=kept++(y::js++v::rest)) (A:=kept) (x:=y) (y:=v) (B:=js++v::rest) (by simp) (i:=kept.length) rfl
  have hi1:kept.length<(kept++(y::js++v::rest)).length :=by simp
  rw [List.filter_cons]
  by_cases c:v.1=nm
  ·have ih:=Kw nm rest kept (y::js++ [v]) (by simp) (by simp;omega)
   have hn:Gu nm v=false:=by simp [Gu,c]
   simp only [Option.bind_some,O.Ai,h1,decide_true,O.Ab,if_true,gv,It,O.Ag,c,O.A3,Bool.not_true,Bool.false_eq_true,if_false,Agt,O.Am,hw,hn]
   rw [show kept.length+(y::js).length +1=kept.length+(y::js++ [v]).length by simp;omega]
   rw [←ih];simp
  ·have ih:=Kw nm rest (kept++ [v]) (js++ [v]) (by simp) (by simp;omega)
   have hn:Gu nm v=true:=by simp [Gu,c]
   simp only [Option.bind_some,O.Ai,h1,decide_true,O.Ab,if_true,gv,It,O.Ag,c,decide_false,O.A3,Bool.not_false,gi,Srt.Ans Fld.enc hi1,st,O.Am,hw2,Agt,hw,hn]
   rw [show kept.length+(y::js).length +1=(kept++ [v]).length +(js++ [v]).length by simp;omega,show kept.length+1=(kept++ [v]).length by simp]
   rw [show kept++v::(js++v::rest)=kept++ [v]++(js++ [v]++rest) by simp,ih]
   simp
theorem Aih (l:List (ByteArray × Val)) (nm:ByteArray) (hl:l.length≤1099511627776):
  W Anp 0 [.list (l.map Fld.enc),.str nm]=some [.list ((l.filter (Gu nm)).map Fld.enc)]:=by
 rw [Aqo,Aok]
 have key:=Zx l nm hl l.length 0 (by omega) (by simp)
 simp only [Int.cast_ofNat_Int] at key
 rcases key with ⟨h1,h2⟩ | ⟨j,hj,h1,h2,h3⟩
 ·simp only [O.Ao,List.length_map,Option.bind_some,h1,O.Ag,O.eq_int,decide_true,O.Ab,if_true]
  congr 3
  rw [List.filter_eq_self.2 (fun p hp=>by simp [Gu,h2 p hp])]
 ·have hne: ¬ (j:Int)= -1:=by omega
  have hw2:IntKind.i64.wrap ((j:Int)+1)=((j+1:Nat):Int):=A8 (by omega)
  simp only [O.Ao,List.length_map,Option.bind_some,h1,O.Ag,O.eq_int,hne,decide_false,O.Ab,Bool.false_eq_true,if_false,O.Am,hw2]
  have hs:l=l.take j++([l[j]]++l.drop (j+1)):=by
   rw [List.singleton_append,←List.drop_eq_getElem_cons hj,List.take_append_drop]
  have hl1:(l.take j).length =j:=by rw [List.length_take];omega
  have hl2:(l.drop (j+1)).length =l.length - (j+1):=by rw [List.length_drop]
  have hd:=Kw nm (l.drop (j+1)) (l.take j) [l[j]] (by simp) (by simp only [List.length_singleton];omega)
  rw [hl1,List.length_singleton,←hs] at hd
  rw [show IV.list (l.map Fld.enc)=Srt.LE Fld.enc l from rfl,hd]
  have hf:l.filter (Gu nm)=l.take j++(l.drop (j+1)).filter (Gu nm):=by
   conv=>lhs;rw [hs]
   rw [List.filter_append,List.filter_append,List.filter_eq_self.2 (fun p hp=>by simp [Gu,h3 p hp])]
   congr 1
   simp [Gu,h2]
  rw [hf];rfl
theorem Ac0 (v:Val) (nm:ByteArray) (hv:Ht 1073741824 v):W Azv 0 [v.enc,.str nm]=some [.list ((D7 v nm).map Fld.enc)]:=by
 rw [Aoe]
 unfold D7
 have h6:=hv.Pk
 have hc:(v.f.map Fld.enc).length ≤1073741824:=by rw [List.length_map];omega
 have hd:=Aih v.f nm (by omega)
 by_cases c:v.k=5
 ·simp only [Val.Bt,Val.C4,Option.bind_some,O.C8,c,decide_true,Bool.not_true,O.Ab,Bool.false_eq_true,if_false,Ate,He hc,O.Ag,hd,if_true]
  rfl
 ·simp [c]
theorem Alz (v:Val) (nm:ByteArray) (x:Val) (hv:Ht 1073741823 v) (hx:Ht 1073741823 x):W Azp 0 [v.enc,.str nm,x.enc]=some (G5 v nm x).Hz :=by
 have ho:=S9 hv nm
 have h6:=ho.1
 have hm:=Ael (D7 v nm++ [(nm,x)]) ⟨by simp;omega,fun p hp=>by
  rcases List.mem_append.1 hp with h | h
  ·exact (ho.2 p h).mono (by omega)
  ·simp at h;subst h;exact hx.mono (by omega)⟩
 have hap:((D7 v nm).length +1) * 96≤Az:=Z9 (by omega) (by omega)
 simp only [List.map_append,List.map_cons,List.map_nil] at hm
 rw [Ao3]
 simp only [Ac0 v nm (hv.mono (by omega)),O.Ag,Val.Bt,Val.C3,Val.D3,Val.Ce,Val.C4,Option.bind_some,O.Br,Fld.H8,O.B8,O.Bm,List.length_map,List.length_singleton,hap,if_true,hm,Val.Cm,O.Gb]
 rfl
end Go.CT.Sch
namespace Go.CT.Sch
open Go.Proofs
theorem Mc (r:Kid→Val × Bool) (x:Kid) (l:List Kid):Et r (x::l)=if (r x).2 then (x.1,(r x).1)::Et r l else Et r l:=by
 unfold Et
 rw [List.filterMap_cons]
 cases (r x).2<;>simp
theorem Z0 (r:Kid→Val × Bool) (l:List Kid):(Et r l).length ≤l.length:=List.length_filterMap_le _ _
theorem Aaj {r:Kid→Val × Bool} {l:List Kid} {y:Stp × Val} (h:y∈Et r l): ∃x∈l,(r x).2 =true∧y=(x.1,(r x).1):=by
 unfold Et at h
 obtain ⟨x,hx,e⟩:=List.mem_filterMap.1 h
 split at e
 ·rename_i c;cases e;exact ⟨x,hx,c,rfl⟩
 ·cases e
theorem Alg {o:Option Sch} {v:Val} {x:Kid} (h:x∈kids o v):(v.k=5∧x.1.k=1)∨(v.k=4∧x.1.k=3):=by
 cases o with
 | none=>simp [kids] at h
 | some s=>
  rw [kids] at h
  split at h
  ·split at h
   ·obtain ⟨p,hp,rfl⟩:=List.mem_map.1 h
    exact .inl ⟨by assumption,rfl⟩
   ·split at h
    ·obtain ⟨p,hp,rfl⟩:=List.mem_map.1 h
     exact .inr ⟨by rename_i c;exact c.1,rfl⟩
    ·simp at h
  ·simp at h
theorem Wo (o:Option Sch) (v:Val):(kids o v).length ≤if v.k=5 then v.f.length else v.l.length:=by
 cases o with
 | none=>simp [kids]
 | some s=>
  rw [kids]
  split
  ·split
   ·simp
   ·split
    ·simp
    ·simp
  ·simp
theorem I9 (d:Nat) (o:Option Sch) (v:Val) (p:List Stp) (ch:ByteArray→Bool):pt (d+1) o v p ch=if kids o v= [] then (v,ch (G8 p)) else
    (⟨v.k,0,Ar,if v.k=5 then [] else Ga (Et (fun x=>pt d x.2.2 x.2.1 (p++ [x.1]) ch) (kids o v)),
      if v.k=5 then fieldsOf (Et (fun x=>pt d x.2.2 x.2.1 (p++ [x.1]) ch) (kids o v)) else []⟩,
     !(Et (fun x=>pt d x.2.2 x.2.1 (p++ [x.1]) ch) (kids o v)).isEmpty):=by rw [pt]
theorem Aqv: ∀ (n:Nat) (o:Option Sch) (v:Val) (p:List Stp) (ch:ByteArray→Bool),(pt n o v p ch).1.f.length ≤v.f.length
 | 0,_,_,_,_=>Nat.le_refl _
 | n+1,o,v,p,ch=>by
  rw [I9]
  split
  ·exact Nat.le_refl _
  ·simp only [Val.Ah7]
   split
   ·rename_i c
    have h1:=Z0 (fun x=>pt n x.2.2 x.2.1 (p++ [x.1]) ch) (kids o v)
    have h2:=Wo o v
    rw [if_pos c] at h2
    simp only [fieldsOf,List.length_map];omega
   ·simp
theorem Abo (s:ByteArray) (N:Nat):Ht N (Yp s):=by
 constructor<;>simp [Yp]
theorem Adn (v:Val) (nm:ByteArray):(D7 v nm).length ≤v.f.length:=by
 unfold D7;split
 ·exact List.length_filter_le _ _
 ·simp
theorem Ag6 {N:Nat} {v x:Val} (nm:ByteArray) (h:Ht (N+1) v) (hx:Ht (N+1) x) (hl:v.f.length≤N):Ht (N+1) (G5 v nm x):=by
 have ho:=S9 h nm
 have h6:=Adn v nm
 have hm:=Aay (N:=N+1) (l:=D7 v nm++ [(nm,x)]) ⟨by simp;omega,fun p hp=>by
  rcases List.mem_append.1 hp with h | h
  ·exact ho.2 p h
  ·simp at h;subst h;exact hx⟩
 constructor
 ·simp [G5]
 ·exact hm.1
 ·simp [G5]
 ·exact hm.2
theorem Aa6 {N:Nat} {o:Option Sch} {v:Val} (h:Ht N v) {x:Kid} (hx:x∈kids o v):Ht N x.2.1:=by
 cases o with
 | none=>simp [kids] at hx
 | some s=>
  rw [kids] at hx
  split at hx
  ·split at hx
   ·obtain ⟨p,hp,rfl⟩:=List.mem_map.1 hx;exact h.Sz hp
   ·split at hx
    ·obtain ⟨p,hp,rfl⟩:=List.mem_map.1 hx;exact h.Ahk hp
    ·simp at hx
  ·simp at hx
theorem Wa {N:Nat} : ∀ (n:Nat) (o:Option Sch) (v:Val) (p:List Stp) (ch:ByteArray→Bool),Ht N v→Ht (N+1) (pt n o v p ch).1
 | 0,_,v,_,_,h=>h.mono (by omega)
 | n+1,o,v,p,ch,h=>by
  rw [I9]
  split
  ·exact h.mono (by omega)
  ·have h1:=Z0 (fun x=>pt n x.2.2 x.2.1 (p++ [x.1]) ch) (kids o v)
   have h2:=Wo o v
   have h3:=h.Zj
   have h4:=h.Pk
   constructor
   ·simp only [Val.Aid]
    split
    ·simp
    ·rename_i c;rw [if_neg c] at h2;simp only [Ga,List.length_map];omega
   ·simp only [Val.Ah7]
    split
    ·rename_i c;rw [if_pos c] at h2;simp only [fieldsOf,List.length_map];omega
    ·simp
   ·simp only [Val.Aid]
    split
    ·simp
    ·intro x hx
     obtain ⟨y,hy,rfl⟩:=List.mem_map.1 hx
     obtain ⟨z,hz,_,rfl⟩:=Aaj hy
     have:=Aqv n z.2.2 z.2.1 (p++ [z.1]) ch
     have hw:=Aa6 h hz
     have:=hw.Pk
     exact Ag6 _ (Wa n _ _ _ _ hw) (Abo _ _) (by show (pt n z.2.2 z.2.1 (p++ [z.1]) ch).1.f.length ≤N;omega)
   ·simp only [Val.Ah7]
    split
    ·intro x hx
     obtain ⟨y,hy,rfl⟩:=List.mem_map.1 hx
     obtain ⟨z,hz,_,rfl⟩:=Aaj hy
     exact Wa n _ _ _ _ (Aa6 h hz)
    ·simp
def chB (ks:List ByteArray) (is:Bool):ByteArray→Bool:=fun t=>inB ks t == is
theorem Ala (t:ByteArray) (ks:List ByteArray) (is:Bool):W Az6 0 [.str t,.list (Uj ks),.bool is]=some [.bool (chB ks is t),.list (Uj ks),.bool is]:=by
 obtain ⟨b,hb⟩:=Axu ks t
 rw [Aq4]
 simp only [Ayk,hb,Option.bind_some,O.Apx];rfl
theorem Amb: ∀ (n:Nat) (x:Kid) (p:List Stp) (ks:List ByteArray) (is:Bool),x.2.1.size≤n→OSB x.2.2→x.2.1.Au≤1048576→(∀s∈p,s.fits)→p.length+n≤1073741824→
  W F99 0 [Eo x,.list (p.map Stp.enc),.list (Uj ks),.bool is]=some [(pt n x.2.2 x.2.1 p (chB ks is)).1.enc,.bool (pt n x.2.2 x.2.1 p (chB ks is)).2,.list (Uj ks),.bool is]
 | 0,x,p,ks,is,h,_,_,_,_=>by have:=x.2.1.size_pos;omega
 | n+1,x,p,ks,is,h,hsb,hv,hp,hl=>by
  obtain ⟨st,v,o⟩:=x
  simp only at h hsb hv ⊢
  have hkl:=Wo o v
  have hlf:=v.Ba
  have hll:=v.Dm
  have hk1:(kids o v).length ≤1048576:=by split at hkl<;>omega
  have loop: ∀ (m i:Nat) (L:List Val) (F:List (ByteArray × Val)),i+m=(kids o v).length →L.length+F.length≤i→
    W F99 1 [.list (p.map Stp.enc),.int (kids o v).length,.int i,.bool is,.int 0,.int 0,.str ⟨#[]⟩,.int v.k,.int 0,.str ⟨#[]⟩,.list ((kids o v).map Eo),.list (Uj ks),.list (L.map Val.enc),.list (F.map Fld.enc)]=
    some [(Val.mk v.k 0 Ar (L++(if v.k=5 then [] else Ga (Et (fun x=>pt n x.2.2 x.2.1 (p++ [x.1]) (chB ks is)) ((kids o v).drop i)))) (F++(if v.k=5 then fieldsOf (Et (fun x=>pt n x.2.2 x.2.1 (p++ [x.1]) (chB ks is)) ((kids o v).drop i)) else []))).enc,
     .bool (decide (0<L.length+F.length+(Et (fun x=>pt n x.2.2 x.2.1 (p++ [x.1]) (chB ks is)) ((kids o v).drop i)).length)),.list (Uj ks),.bool is]:=by
   intro m
   induction m with
   | zero=>
    intro i L F hi hb
    have:i=(kids o v).length :=by omega
    subst this
    have hw:IntKind.i64.wrap ((F.length:Int)+(L.length:Int))=(F.length:Int)+(L.length:Int):=wrap64 (by omega) (by omega)
    rw [Akb,List.drop_length]
    simp only [ltn,Option.bind_some,O.Ab,Bool.false_eq_true,if_false,Abf,O.Am,hw,O.Bj,O.Br]
    have e1:Et (fun x=>pt n x.2.2 x.2.1 (p++ [x.1]) (chB ks is)) []= []:=rfl
    have e2:(if v.k=5 then ([]:List Val) else Ga [])= []:=by split<;>rfl
    have e3:(if v.k=5 then fieldsOf [] else ([]:List (ByteArray × Val)))= []:=by split<;>rfl
    rw [e1,e2,e3,List.append_nil,List.append_nil,Val.Ec,Val.Cm]
    have e4:decide ((0:Int)<(F.length:Int)+(L.length:Int))=decide (0<L.length+F.length+([]:List (Stp × Val)).length):=by
     rw [decide_eq_decide];simp only [List.length_nil];omega
    rw [e4];rfl
   | succ m ih=>
    intro i L F hi hb
    have hi':i<(kids o v).length :=by omega
    have hx:=List.getElem_mem hi'
    obtain ⟨hs1,hs2⟩:=Tp hx
    have hr:=Amb n (kids o v)[i] (p++ [(kids o v)[i].1]) ks is (by omega) (Ai5 hsb hx) (by omega) (Gi hp (Zg hsb hv hx)) (by simp;omega)
    have hk:=Alg hx
    have hcons: ∀d,Et (fun x=>pt n x.2.2 x.2.1 (p++ [x.1]) (chB ks is)) ((kids o v)[i]::d)=if (pt n (kids o v)[i].2.2 (kids o v)[i].2.1 (p++ [(kids o v)[i].1]) (chB ks is)).2 then ((kids o v)[i].1,(pt n (kids o v)[i].2.2 (kids o v)[i].2.1 (p++ [(kids o v)[i].1]) (chB ks is)).1)::Et (fun x=>pt n x.2.2 x.2.1 (p++ [x.1]) (chB ks is)) d else Et (fun x=>pt n x.2.2 x.2.1 (p++ [x.1]) (chB ks is)) d:=fun d=>Mc _ _ _
    rw [Akb,List.drop_eq_getElem_cons hi',hcons]
    simp only [lti hi',Option.bind_some,O.Ab,if_true,Aqb Eo hi',Afk,Ad6 p _ (show p.length≤1073741824 by omega),O.Ag,hr,O.Ajr,O.A3]
    cases c:(pt n (kids o v)[i].2.2 (kids o v)[i].2.1 (p++ [(kids o v)[i].1]) (chB ks is)).2 with
    | false=>
     simp only [Bool.not_false,if_true,Acg,nxt (show i<4611686018427387904 by omega),Option.bind_some,Bool.false_eq_true,if_false]
     exact ih (i+1) L F (by omega) (by omega)
    | true=>
     simp only [Bool.not_true,Bool.false_eq_true,if_false,kid0,Option.bind_some,O.eq_int,O.Ab,if_true]
     rcases hk with ⟨k5,k1⟩ | ⟨k4,k3⟩
     ·have ha:=apm Fld.enc (n:=96) F ((kids o v)[i].1.nm,(pt n (kids o v)[i].2.2 (kids o v)[i].2.1 (p++ [(kids o v)[i].1]) (chB ks is)).1) (by omega)
      have ih':=ih (i+1) L (F++ [((kids o v)[i].1.nm,(pt n (kids o v)[i].2.2 (kids o v)[i].2.1 (p++ [(kids o v)[i].1]) (chB ks is)).1)]) (by omega) (by simp;omega)
      simp only [k1,decide_true,if_true,kid1,Val.Bt,Val.C3,Val.D3,Val.Ce,Val.C4,Option.bind_some,O.Br,Fld.H8,O.B8,ha,Acg,nxt (show i<4611686018427387904 by omega),ih']
      simp only [k5,if_true,fieldsOf,List.map_cons,List.append_assoc,List.singleton_append,List.length_append,List.length_cons,List.length_nil]
      congr 3
      rw [IV.bool.injEq,decide_eq_decide];omega
     ·have n5: ¬ v.k=5:=by omega
      have hwd:=Wa (N:=1048576) n (kids o v)[i].2.2 (kids o v)[i].2.1 (p++ [(kids o v)[i].1]) (chB ks is) (Hp _ (by omega))
      have hwith:=Alz (pt n (kids o v)[i].2.2 (kids o v)[i].2.1 (p++ [(kids o v)[i].1]) (chB ks is)).1 (kids o v)[i].1.nm (Yp (kids o v)[i].1.vl) (hwd.mono (by omega)) (Abo _ _)
      have ha:=apm Val.enc (n:=80) L (G5 (pt n (kids o v)[i].2.2 (kids o v)[i].2.1 (p++ [(kids o v)[i].1]) (chB ks is)).1 (kids o v)[i].1.nm (Yp (kids o v)[i].1.vl)) (by omega)
      have ih':=ih (i+1) (L++ [G5 (pt n (kids o v)[i].2.2 (kids o v)[i].2.1 (p++ [(kids o v)[i].1]) (chB ks is)).1 (kids o v)[i].1.nm (Yp (kids o v)[i].1.vl)]) F (by omega) (by simp;omega)
      have hs:W F18 0 [.str (kids o v)[i].1.vl]=some (Yp (kids o v)[i].1.vl).Hz :=by rw [Adk];rfl
      have k1:decide ((kids o v)[i].1.k =1)=false:=by simp;omega
      rw [Val.Cm] at hs hwith
      simp only [k1,Bool.false_eq_true,if_false,kid1,kid3,Option.bind_some,hs,O.Gb,O.Br,Val.H8,hwith,O.B8,ha,Acg,nxt (show i<4611686018427387904 by omega),ih']
      simp only [n5,if_false,Ga,List.map_cons,List.append_assoc,List.singleton_append,List.length_append,List.length_cons,List.length_nil]
      congr 3
      rw [IV.bool.injEq,decide_eq_decide];omega
  rw [As7,I9]
  simp only [Sp (st,v,o) hsb hv,O.Ag,Abf,Option.bind_some,O.eq_int,O.Ab]
  by_cases c:kids o v= []
  ·simp only [c,if_true,List.length_nil,Int.cast_ofNat_Int,decide_true,Yb p hp (by omega),O.Dc,Amg,Option.bind_some,Ala,O.Akl]
  ·have c': ¬ ((kids o v).length :Int)=0:=by
    have:(kids o v).length ≠0:=fun e=>c (List.length_eq_zero_iff.1 e)
    omega
   have:=loop (kids o v).length 0 [] [] (by omega) (by simp)
   rw [List.drop_zero] at this
   simp only [c',decide_false,Bool.false_eq_true,if_false,kid4,Option.bind_some,c]
   refine this.trans ?_
   simp only [List.nil_append,List.length_nil,Nat.zero_add]
   congr 3
   rw [IV.bool.injEq]
   cases Et (fun x=>pt n x.2.2 x.2.1 (p++ [x.1]) (chB ks is)) (kids o v)<;>simp
end Go.CT.Sch
namespace Go.CT.Sch
open Go.Proofs
theorem Ag4 {y:Val} (h:y.valid=true) (hk:y.k=3):y=Yp y.s:=by
 have h1:=Aau h (by omega)
 have h2:=Aa5 h (by omega)
 have h3:y.n=0:=by
  rw [Gw] at h
  have:=((Dv 11 y).1 h.1).1
  unfold Eu at this
  rw [if_neg (by omega),if_neg (by omega),if_pos hk] at this
  simp only [Bool.and_eq_true] at this
  simpa using this.1
 obtain ⟨k,n,s,l,f⟩:=y
 simp only [Val.Azi,Val.Aid,Val.Ah7,Val.Az2,Val.Aom] at hk h1 h2 h3 ⊢
 subst hk h1 h2 h3;rfl
theorem Av7 {x:Val} {key:ByteArray} (hx:x.valid=true) (hk:isKey x key=true):(x.get key).getD Bb=Yp (H7 x key):=by
 unfold isKey at hk
 simp only [Bool.and_eq_true,decide_eq_true_eq] at hk
 obtain ⟨y,hy⟩:=Option.isSome_iff_exists.1 hk.1
 unfold H7
 rw [hy] at hk ⊢
 exact Ag4 (Al9 hx hy) hk.2
end Go.CT.Sch
namespace Go.CT.Sch
open Go.Proofs
def Ii (s:Sch) (v:Val) (set:List ByteArray) (is:Bool):Val:=
 if s.valid&&v.valid then (if (pt v.size (some s) v [] (chB set is)).2 then (pt v.size (some s) v [] (chB set is)).1 else if v.k=5∨v.k=4 then ⟨v.k,0,Ar,[],[]⟩ else Bb) else v
theorem Ae7 (w:Val) (hw:Ht 1048577 w):(O.Dq [w.enc]).bind (fun x6=>calls (W F98 0 [x6]) 5 fun _ _ _ x10 _=>(O.index x10 (.int 0)).bind fun x12=>some [x12])=some [w.enc]:=by
 have h:=Alv [w] (by simp) (fun x hx=>by simp at hx;subst hx;exact hw.mono (by omega))
 simp only [List.map_cons,List.map_nil] at h
 rw [Val.Cm] at h
 simp only [O.B8,Option.bind_some,h,O.Gb,Val.Aid,List.map_cons,List.map_nil]
 rfl
theorem Aqw (set:List ByteArray) (is:Bool):chB (Pz [] set) is=chB set is:=by
 funext t
 have:inB (Pz [] set) t=inB set t:=by
  rw [Bool.eq_iff_iff,Wk,Wk,Abh];simp
 unfold chB;rw [this]
theorem V7 (s:Sch) (v:Val) (set:List ByteArray) (is:Bool) (hs:s.Au≤1048576) (hv:v.Au≤1048576) (hset:set.length≤1048576) (hsv:s.valid=true) (hvv:v.valid=true): ∀ (n i:Nat) (acc:List ByteArray),i+n=set.length→Pz acc (set.drop i)=Pz [] set→
  W F97 1 [SL set,.int set.length,.int i,s.enc,v.enc,.bool is,.int 0,.int 0,.str ⟨#[]⟩,.list (Uj acc)]=some [(Ii s v set is).enc]
 | 0,i,acc,h,he=>by
  have:i=set.length:=by omega
  subst this
  rw [List.drop_length,Pz] at he
  subst he
  have hk:IV.agg [.int 0,.str ⟨#[]⟩,.int 0,.str ⟨#[]⟩,.int v.k,.int v.n,.str v.s,.list (v.l.map Val.enc),.list (v.f.map Fld.enc),.int s.k,.int s.mn,.int s.mx,.list (s.en.map .str),.str s.key,.list (s.it.map Sch.enc),.list (s.f.map SFld.enc),.bool true]=Eo (⟨0,Ar,0,Ar⟩,v,some s):=rfl
  have hp:=Amb v.size (⟨0,Ar,0,Ar⟩,v,some s) [] (Pz [] set) is (Nat.le_refl _) (fun t ht=>by cases ht;exact ⟨Sch.Agg hsv,hs⟩) hv (by simp) (by have:=v.Gy;simp;omega)
  have hp':W F99 0 [Eo (⟨0,Ar,0,Ar⟩,v,some s),.list [],.list (Uj (Pz [] set)),.bool is]=some [(pt v.size (some s) v [] (chB set is)).1.enc,.bool (pt v.size (some s) v [] (chB set is)).2,.list (Uj (Pz [] set)),.bool is]:=by rw [←Aqw];exact hp
  have hc:=Ae7 (pt v.size (some s) v [] (chB set is)).1 (Wa _ _ _ _ _ (Hp _ (by omega)))
  have hnull:W Azl 0 []=some Bb.Hz:=by rw [Aqs];rfl
  rw [Val.Cm] at hnull
  rw [Ar1]
  simp only [ltn,Option.bind_some,O.Ab,Bool.false_eq_true,if_false,Val.Bt,Val.C3,Val.D3,Val.Ce,Val.C4,Sch.Bt,Sch.C3,Sch.D3,Sch.Ce,Sch.C4,Sch.Jc,Sch.Hv,O.Br,hk,hp',O.Ajr,hc,O.eq_int,Aw,Ap,hnull,O.Gb]
  unfold Ii
  simp only [hsv,hvv,Bool.and_self,if_true]
  cases (pt v.size (some s) v [] (chB set is)).2 with
  | true=>rfl
  | false=>
   by_cases k5:v.k=5
   ·simp only [k5,decide_true,if_true,true_or,Bool.false_eq_true,if_false];rfl
   ·by_cases k4:v.k=4
    ·simp only [k4];rfl
    ·simp only [k4,k5,decide_false,Bool.false_eq_true,if_false,or_self,Aw];rfl
 | n+1,i,acc,h,he=>by
  have hi:i<set.length:=by omega
  have hx:=Srt.idx IV.str (List.getElem?_eq_getElem hi)
  have ih:=V7 s v set is hs hv hset hsv hvv n (i+1) (if inB acc set[i] then acc else acc++ [set[i]]) (by omega) (by rw [←he,List.drop_eq_getElem_cons hi,Pz])
  rw [Ar1]
  simp only [lti hi,Option.bind_some,O.Ab,if_true,hx,Ayg,nxt (show i<4611686018427387904 by omega),ih]
theorem Ad7 (s:Sch) (v:Val) (set:List ByteArray) (is:Bool) (hs:s.Au≤1048576) (hv:v.Au≤1048576) (hset:set.length≤1048576):W F97 0 [s.enc,v.enc,SL set,.bool is]=some [(Ii s v set is).enc]:=by
 rw [Awh]
 simp only [Afp s v hs hv,O.Ag,O.A3,Option.bind_some,O.Ab]
 cases c:s.valid&&v.valid with
 | false=>
  have hw:Ii s v set is=v:=by unfold Ii;rw [c];rfl
  simp only [Bool.not_false,if_true,Ae7 v ((Hp (N:=1048576) v (by omega)).mono (by omega)),hw]
 | true=>
  have c1:s.valid=true∧v.valid=true:=by simpa using c
  have:=V7 s v set is hs hv hset c1.1 c1.2 set.length 0 [] (by omega) (by rw [List.drop_zero])
  simp only [Bool.not_true,Bool.false_eq_true,if_false,Srt.len,Option.bind_some]
  exact this
end Go.CT.Sch
namespace Go.CT.Sch
open Go.Proofs
theorem U7 (v:Val) (nm:ByteArray) (hv:v.Au≤1048576): ∀ (n i:Nat),i+n=v.f.length→
  ∃r:Int,W Arf 1 [.str nm,.int i,v.enc]=some [.int r]∧
   (((v.k=5→((v.f.drop i).find? fun p=>decide (p.1=nm))=none)∧r<0)∨(v.k=5∧ ∃ (j:Nat) (x:Val),r=j∧v.f[j]?=some (nm,x)∧((v.f.drop i).find? fun p=>decide (p.1=nm))=some (nm,x)))
 | 0,i,h=>by
  rw [Agj]
  have h1: ¬ i<v.f.length:=by omega
  refine ⟨-1,by simp [h1],.inl ⟨fun _=>by simp [List.drop_of_length_le (Nat.le_of_not_lt h1)],by omega⟩⟩
 | n+1,i,h=>by
  have hi:i<v.f.length:=by omega
  have hm:=v.Ba
  have hw:=A8 (i:=i) (by omega)
  obtain ⟨r,hr,h2⟩:=U7 v nm hv n (i+1) (by omega)
  rw [Agj,List.drop_eq_getElem_cons hi,List.find?_cons]
  simp only [Val.C4,O.Ao,List.length_map,O.Ai,Al,hi,decide_true,Option.bind_some,O.Ab,if_true,Val.Bt,O.eq_int,O.Aj,Int.natCast_nonneg,Int.toNat_natCast,List.getElem?_map,List.getElem?_eq_getElem hi,Option.map_some,Fld.Bt,O.E0,Aw,Ap,O.Am,hw,hr]
  by_cases k5:v.k=5
  ·by_cases c:v.f[i].1 =nm
   ·refine ⟨i,by simp [k5,c],.inr ⟨k5,i,v.f[i].2,rfl,by simp [hi,←c],by simp [←c]⟩⟩
   ·have c':decide (v.f[i].1 =nm)=false:=by simpa using c
    simp only [k5,decide_true,if_true,c',Bool.false_eq_true,if_false]
    refine ⟨r,rfl,?_⟩
    rcases h2 with ⟨h3,h4⟩ | ⟨_,h3⟩
    ·exact .inl ⟨fun _=>h3 k5,h4⟩
    ·exact .inr ⟨trivial,h3⟩
  ·simp only [k5,decide_false,Bool.false_eq_true,if_false]
   rcases h2 with ⟨h3,h4⟩ | ⟨h3,_⟩
   ·exact ⟨r,rfl,.inl ⟨fun h=>h.elim,h4⟩⟩
   ·exact (k5 h3).elim
theorem Af5 (v:Val) (nm:ByteArray) (hv:v.Au≤1048576): ∃r:Int,W Arf 0 [v.enc,.str nm]=some [.int r]∧
  ((v.get nm=none∧r<0)∨ ∃ (j:Nat) (x:Val),r=j∧v.f[j]?=some (nm,x)∧v.get nm=some x):=by
 obtain ⟨r,hr,h2⟩:=U7 v nm hv v.f.length 0 (by omega)
 refine ⟨r,by rw [Aot];exact hr,?_⟩
 simp only [List.drop_zero] at h2
 unfold Val.get
 rcases h2 with ⟨h3,h4⟩ | ⟨h3,j,x,h4,h5,h6⟩
 ·left
  refine ⟨?_,h4⟩
  split
  ·rename_i k5;rw [h3 k5];rfl
  ·rfl
 ·right
  exact ⟨j,x,h4,h5,by rw [if_pos h3,h6];rfl⟩
theorem Ayi (v:Val) (nm vl:ByteArray) (hv:v.Au≤1048576):W A0f 0 [v.enc,.str nm,.str vl]=some [.bool (hasB nm vl v)]:=by
 obtain ⟨r,hr,h2⟩:=Af5 v nm hv
 rw [An8]
 unfold hasB
 rcases h2 with ⟨h3,h4⟩ | ⟨j,x,rfl,h5,h6⟩
 ·have h4': ¬ (0:Int)≤r:=by omega
  simp only [hr,O.Ag,O.Ek,h4',decide_false,Option.bind_some,O.Ab,Bool.false_eq_true,if_false,h3,Option.getD_none]
  rfl
 ·simp only [hr,O.Ag,O.Ek,Int.natCast_nonneg,decide_true,Option.bind_some,O.Ab,if_true,Val.C4,O.Aj,Int.toNat_natCast,List.getElem?_map,h5,Option.map_some,Fld.C3,Fld.Ce,O.eq_int,O.E0,h6,Option.getD_some]
  by_cases c:x.k=3<;>simp [c]
theorem Abk (v:Val) (x:Stp) (hv:v.Au≤1048576): ∀ (n i:Nat),i+n=v.l.length→
  ∃r:Int,W Awr 1 [.int i,v.enc,x.enc]=some [.int r]∧
   ((((v.l.drop i).find? (hasB x.nm x.vl))=none∧r<0)∨(∃ (j:Nat) (u:Val),r=j∧v.l[j]?=some u∧((v.l.drop i).find? (hasB x.nm x.vl))=some u))
 | 0,i,h=>by
  rw [Aea]
  have h1: ¬ i<v.l.length:=by omega
  refine ⟨-1,by simp [h1],.inl ⟨by simp [List.drop_of_length_le (Nat.le_of_not_lt h1)],by omega⟩⟩
 | n+1,i,h=>by
  have hi:i<v.l.length:=by omega
  have hm:=v.Dm
  have hx:=Val.Ir (List.getElem_mem hi)
  have hw:=A8 (i:=i) (by omega)
  obtain ⟨r,hr,h2⟩:=Abk v x hv n (i+1) (by omega)
  have hh:=Ayi v.l[i] x.nm x.vl (by omega)
  rw [Aea,List.drop_eq_getElem_cons hi,List.find?_cons]
  simp only [Val.Ce,O.Ao,List.length_map,O.Ai,Al,hi,decide_true,Option.bind_some,O.Ab,if_true,O.Aj,Int.natCast_nonneg,Int.toNat_natCast,List.getElem?_map,List.getElem?_eq_getElem hi,Option.map_some,Stp.C3,Stp.Ce,hh,O.Ag,O.Am,hw,hr]
  cases c:hasB x.nm x.vl v.l[i] with
  | true=>exact ⟨i,by simp,.inr ⟨i,v.l[i],rfl,by simp [hi],rfl⟩⟩
  | false=>exact ⟨r,by simp,h2⟩
theorem Awv (v:Val) (x:Stp) (hv:v.Au≤1048576) (hx:Du x=true): ∃r:Int,W Awr 0 [v.enc,x.enc]=some [.int r]∧
  ((N0 v x=none∧r<0)∨ ∃ (j:Nat) (u:Val),r=j∧N0 v x=some u∧(x.k=1→v.f[j]?=some (x.nm,u))∧(x.k≠1→v.l[j]?=some u)):=by
 obtain ⟨g1,g2,g3,g4,g5⟩:=D4 hx
 rw [Aph]
 unfold N0
 simp only [Stp.Bt,Stp.C3,Option.bind_some,O.eq_int,O.Ab]
 by_cases k1:x.k=1
 ·obtain ⟨r,hr,h2⟩:=Af5 v x.nm hv
  simp only [k1,decide_true,if_true,hr,O.Ag]
  refine ⟨r,rfl,?_⟩
  rcases h2 with h2 | ⟨j,u,h3,h4,h5⟩
  ·exact .inl h2
  ·exact .inr ⟨j,u,h3,h5,fun _=>h4,fun h=>(h rfl).elim⟩
 ·simp only [k1,decide_false,Bool.false_eq_true,if_false,Val.Bt,Option.bind_some,O.C8,O.Ab]
  by_cases k4:v.k=4
  ·simp only [k4,decide_true,Bool.not_true,Bool.false_eq_true,if_false,if_true]
   by_cases k2:x.k=2
   ·obtain ⟨j,hj⟩:=Int.eq_ofNat_of_zero_le (g3 k2).1
    simp only [k2,decide_true,if_true,Stp.D3,Val.Ce,O.Ao,List.length_map,Option.bind_some,O.Ai,O.Ab,hj,Int.ofNat_eq_natCast,Int.toNat_natCast,Al]
    by_cases c:j<v.l.length
    ·refine ⟨j,by simp [c],.inr ⟨j,v.l[j],rfl,by simp [c],fun h=>by simp at h,fun _=>by simp [c]⟩⟩
    ·refine ⟨-1,by simp [c],.inl ⟨by simpa using c,by omega⟩⟩
   ·obtain ⟨r,hr,h2⟩:=Abk v x hv v.l.length 0 (by omega)
    simp only [Int.cast_ofNat_Int,List.drop_zero] at hr h2
    simp only [k2,decide_false,Bool.false_eq_true,if_false,hr]
    refine ⟨r,rfl,?_⟩
    rcases h2 with h2 | ⟨j,u,h3,h4,h5⟩
    ·exact .inl h2
    ·exact .inr ⟨j,u,h3,h5,fun h=>h.elim,fun _=>h4⟩
  ·exact ⟨-1,by simp [k4],.inl ⟨by simp [k4],by omega⟩⟩
theorem Rn:IV.agg [.int 0,.int 0,.str ⟨#[]⟩,.list [],.list []]=Bb.enc:=rfl
theorem Ae9 (p:List Stp) (hl:p.length≤1099511627776) (hp: ∀x∈p,Du x=true) (y3 y4 y5:IV): ∀ (n i:Nat) (v:Val),i+n=p.length→v.Au≤1048576→
  W Anf 1 [.list (p.map Stp.enc),.int i,v.enc,y3,y4,y5]=some [((Qo v (p.drop i)).getD Bb).enc,.bool (Qo v (p.drop i)).isSome]
 | 0,i,v,h,hv=>by
  have h1: ¬ i<p.length:=by omega
  rw [Afu,List.drop_of_length_le (by omega)]
  simp only [O.Ao,List.length_map,O.Ai,Al,h1,decide_false,Option.bind_some,O.Ab,Bool.false_eq_true,if_false,Qo,Option.getD_some,Option.isSome_some]
 | n+1,i,v,h,hv=>by
  have hi:i<p.length:=by omega
  have hw:=A8 (i:=i) (by omega)
  have hx:=hp _ (List.getElem_mem hi)
  obtain ⟨r,hr,h2⟩:=Awv v p[i] hv hx
  rw [Afu,List.drop_eq_getElem_cons hi]
  simp only [O.Ao,List.length_map,O.Ai,Al,hi,decide_true,Option.bind_some,O.Ab,if_true,O.Aj,Int.natCast_nonneg,Int.toNat_natCast,List.getElem?_map,List.getElem?_eq_getElem hi,Option.map_some,hr,O.Ag,O.Br,Stp.Bt,O.eq_int,Val.Ce,Val.C4,Qo,Rn]
  rcases h2 with ⟨h3,h4⟩ | ⟨j,u,rfl,h3,h4,h5⟩
  ·simp only [h4,decide_true,if_true,h3];rfl
  ·have hj: ¬ (j:Int)<0:=by omega
   have hm:=Uu h3
   have ih:=Ae9 p hl hp y3 y4 y5 n (i+1) u (by omega) (by omega)
   have e2:W Anf 2 [.list (p.map Stp.enc),.int i,u.enc,y3,y4,y5]=some [((Qo u (p.drop (i+1))).getD Bb).enc,.bool (Qo u (p.drop (i+1))).isSome]:=by
    rw [Ao1]
    simp only [O.Am,hw,Option.bind_some,ih]
   simp only [hj,decide_false,Bool.false_eq_true,if_false,h3,Option.bind_some,Int.natCast_nonneg,if_true,Int.toNat_natCast]
   by_cases k1:p[i].k =1
   ·simp only [k1,decide_true,if_true,h4 k1,Option.map_some,Option.bind_some,Fld.Mi,e2]
   ·simp only [k1,decide_false,Bool.false_eq_true,if_false,h5 k1,Option.map_some,Option.bind_some,e2]
def Azd (v:Val) (p:List Stp):Option Val:=if Ez p then Qo v p else none
theorem Axo (v:Val) (p:List Stp) (hv:v.Au≤1048576) (hp: ∀x∈p,x.fits) (hl:p.length≤1099511627776):W Anf 0 [v.enc,.list (p.map Stp.enc)]=some [((Azd v p).getD Bb).enc,.bool (Azd v p).isSome]:=by
 rw [Ap0]
 unfold Azd
 simp only [L6 p hp hl,O.Ag,O.A3,Option.bind_some,O.Ab,O.Br,Rn]
 cases hb:Ez p with
 | false=>rfl
 | true=>
  have hb2:=hb
  unfold Ez at hb2
  simp only [Bool.and_eq_true,List.all_eq_true] at hb2
  have:=Ae9 p hl hb2.1 (.int 0) (.int 0) (.str ⟨#[]⟩) p.length 0 v (by omega) hv
  simp only [Int.cast_ofNat_Int,List.drop_zero] at this
  simp only [Bool.not_true,Bool.false_eq_true,if_false,this,if_true]
end Go.CT.Sch
