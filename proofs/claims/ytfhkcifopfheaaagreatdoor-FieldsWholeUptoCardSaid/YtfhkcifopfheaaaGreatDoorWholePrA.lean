import Derived.Test.YtfhkcifopfheaaaGreatDoorCtC
import Derived.Test.YtfhkcifopfheaaaGreatDoorLib
import Derived.Test.YtfhkcifopfheaaaGreatDoorTabA
set_option linter.unusedVariables false
set_option linter.unusedSimpArgs false
namespace Go.CT
def SS (l:List ByteArray):Prop:=l.Pairwise fun a b=>blt a b=true
theorem SS.ext: ∀ {a b:List ByteArray},SS a→SS b→(∀x,x∈a↔x∈b)→a=b
 | [],[],_,_,_=>rfl
 | [],y::b,_,_,h=>by have:=(h y).2 List.mem_cons_self;cases this
 | x::a,[],_,_,h=>by have:=(h x).1 List.mem_cons_self;cases this
 | x::a,y::b,ha,hb,h=>by
  obtain ⟨a1,a2⟩:=List.pairwise_cons.1 ha
  obtain ⟨b1,b2⟩:=List.pairwise_cons.1 hb
  have hxy:x=y:=by
   rcases List.mem_cons.1 ((h x).1 List.mem_cons_self) with e | e
   ·exact e
   ·rcases List.mem_cons.1 ((h y).2 List.mem_cons_self) with e' | e'
    ·exact e'.symm
    ·have:=Ii (b1 x e) (a1 y e')
     rw [Di] at this;cases this
  subst hxy
  rw [SS.ext a2 b2 fun z=>⟨fun hz=>?_,fun hz=>?_⟩]
  ·rcases List.mem_cons.1 ((h z).1 (List.mem_cons_of_mem _ hz)) with rfl | e
   ·have:=a1 z hz;rw [Di] at this;cases this
   ·exact e
  ·rcases List.mem_cons.1 ((h z).2 (List.mem_cons_of_mem _ hz)) with rfl | e
   ·have:=b1 z hz;rw [Di] at this;cases this
   ·exact e
theorem Sc {l:List (List UInt8)} {x:List UInt8} :x∈Lib.compact l↔x∈l:=by
 unfold Lib.compact Lib.compactUpTo
 simp only [List.mem_map,List.mem_filter,List.mem_range]
 constructor
 ·rintro ⟨j,⟨hj,_⟩,rfl⟩
  have:l.toArray[j]! =l[j]:=by simp [hj]
  rw [this];exact List.getElem_mem hj
 ·intro hx
  obtain ⟨i,hi,rfl⟩:=List.mem_iff_getElem.1 hx
  -- the first place
  have: ∀i,∀hi:i<l.length,∃j,j<l.length∧Lib.keeps l.toArray j=true∧l.toArray[j]! =l[i]:=by
   intro i
   induction i with
   | zero=>intro hi;exact ⟨0,hi,by simp [Lib.keeps],by simp [hi]⟩
   | succ i ih=>
    intro hi
    by_cases he:l[i]=l[i+1]
    ·obtain ⟨j,h1,h2,h3⟩:=ih (by omega)
     exact ⟨j,h1,h2,h3.trans he⟩
    ·refine ⟨i+1,hi,Lib.keeps_pos ?_,by simp [hi]⟩
     have h1:i<l.length:=by omega
     simp [hi,h1]
     exact fun e=>he e.symm
  obtain ⟨j,h1,h2,h3⟩:=this i hi
  exact ⟨j,⟨h1,h2⟩,h3⟩
def Avi (l:List ByteArray):List ByteArray:=Ec (L8 l)
theorem Wm {l:List ByteArray} {x:ByteArray} :x∈Avi l↔x∈l:=by
 unfold Avi Ec
 rw [Xk];unfold Af7
 rw [Ad6,List.mem_map]
 constructor
 ·rintro ⟨y,hy,rfl⟩
  rw [Sc,List.mem_mergeSort,List.mem_map] at hy
  obtain ⟨z,hz,rfl⟩:=hy
  rw [W4];exact hz
 ·intro hx
  refine ⟨x.data.toList,?_,W4 x⟩
  rw [Sc,List.mem_mergeSort,List.mem_map]
  exact ⟨x,hx,rfl⟩
theorem Am7 (l:List ByteArray):(Avi l).length ≤l.length:=by
 unfold Avi Ec
 rw [Xk];unfold Af7
 rw [Ad6,List.length_map]
 have h1: ∀l:List (List UInt8),(Lib.compact l).length ≤l.length:=fun l=>by
  have h1:(Lib.compact l).length ≤(List.range l.length).length :=by
   unfold Lib.compact Lib.compactUpTo
   rw [List.length_map]
   exact List.length_filter_le _ _
  simpa using h1
 refine Nat.le_trans (h1 _) ?_
 rw [List.length_mergeSort,List.length_map];exact Nat.le_refl _
end Go.CT
namespace Go.CT.Sch
open Go.Proofs
abbrev SL (l:List ByteArray):IV:=Srt.LE IV.str l
theorem Acd {l:List ByteArray} (h:l.length≤1099511627776):O.Jn [SL l]=some [SL l]:=by
 unfold O.Jn SL Srt.LE
 simp only [List.length_map]
 rw [if_pos (by unfold Ax;omega)]
theorem Apj {l:List ByteArray} (h:l.length≤1099511627776):O.Acz [SL l]=some [SL (L8 l)]:=by
 unfold O.Acz SL Srt.LE
 simp only [Je,Option.bind_some]
 rw [if_pos (by omega)]
theorem Abl {l:List ByteArray} (h:l.length≤1099511627776):O.Jz [SL l]=some [SL (Ec l)]:=by
 unfold O.Jz SL Srt.LE
 simp only [Je,Option.bind_some]
 rw [if_pos (by omega)]
theorem fset {l:List ByteArray} (h:l.length≤1099511627776):W F89 0 [SL l]=some [SL (Avi l)]:=by
 have hs:(L8 l).length =l.length:=(L3 l).length_eq
 rw [At3,As0]
 simp only [O.Ah,Asn,Ayl,Ax9,Ax5,Acd h,Apj h,Abl (l:=L8 l) (by omega)]
 rfl
def inB (l:List ByteArray) (s:ByteArray):Bool:=l.any fun t=>decide (s=t)
theorem M3 {l:List ByteArray} {s:ByteArray} :inB l s=true↔s∈l:=by
 unfold inB;rw [List.any_eq_true]
 constructor
 ·rintro ⟨t,h1,h2⟩;rw [of_decide_eq_true h2];exact h1
 ·intro h;exact ⟨s,h,by simp⟩
theorem Ny (k:ByteArray) (ks:List ByteArray) (s:ByteArray):inB (k::ks) s=(decide (s=k)||inB ks s):=rfl
def Vc (ks:List ByteArray):List IV:=ks.map fun k=> .agg [.str k,.bool true]
theorem Alu (s t:ByteArray):(IV.str s).Mi (.str t)=some (decide (s=t)):=by
 have:(s.toList == t.toList)=decide (s=t):=by
  rw [Bool.eq_iff_iff,beq_iff_eq,decide_eq_true_iff];exact O.Pj
 simp only [IV.Mi,this]
theorem Abi (s:ByteArray): ∀ks:List ByteArray,Qn (.str s) (Vc ks)=some (if inB ks s then some (.bool true) else none)
 | []=>rfl
 | k::ks=>by
  have ih:=Abi s ks
  unfold Vc at ih ⊢
  simp only [List.map_cons,Qn,Alu]
  by_cases h:s=k
  ·subst h;simp [Ny]
  ·simp only [h,decide_false,ih,Ny,Bool.false_or]
theorem Aqc (s:ByteArray): ∀ks:List ByteArray,Ahy (.str s) (.bool true) (Vc ks)=some (Vc (if inB ks s then ks else ks++ [s]))
 | []=>rfl
 | k::ks=>by
  have ih:=Aqc s ks
  unfold Vc at ih ⊢
  simp only [List.map_cons,Ahy,Alu]
  by_cases h:s=k
  ·subst h;simp [Ny]
  ·simp only [h,decide_false,ih,Ny,Bool.false_or,Option.map_some]
   cases inB ks s<;>simp
def Pn:List ByteArray→List ByteArray→List ByteArray
 | acc,[]=>acc
 | acc,s::l=>Pn (if inB acc s then acc else acc++ [s]) l
theorem Yl: ∀ (l acc:List ByteArray) (x:ByteArray),x∈Pn acc l↔x∈acc∨x∈l
 | [],acc,x=>by simp [Pn]
 | s::l,acc,x=>by
  rw [Pn,Yl l]
  by_cases h':inB acc s=true
  ·have h:=M3.1 h'
   simp only [h',if_true,List.mem_cons]
   constructor
   ·rintro (h1 | h1)
    ·exact .inl h1
    ·exact .inr (.inr h1)
   ·rintro (h1 | rfl | h1)
    ·exact .inl h1
    ·exact .inl h
    ·exact .inr h1
  ·simp [h',or_assoc]
end Go.CT.Sch
namespace Go.CT.Sch
open Go.Proofs
end Go.CT.Sch
namespace Go.CT.Sch
open Go.Proofs
end Go.CT.Sch
namespace Go.CT.Sch
open Go.Proofs
theorem Aqf (l:List ByteArray) (s:ByteArray) (hl:l.length≤1048576): ∀ (n i:Nat),i+n=l.length→W Ar6 1 [SL l,.str s,.int i]=some [.bool (inB (l.drop i) s)]
 | 0,i,h=>by
  have h1: ¬ i<l.length:=by omega
  rw [Ad1,Srt.len,List.drop_of_length_le (by omega)]
  simp only [Option.bind_some,O.Ak,An,h1,decide_false,O.Ab,Bool.false_eq_true,if_false];rfl
 | n+1,i,h=>by
  have hi:i<l.length:=by omega
  have hw:=Bg (i:=i) (by omega)
  have hx:=Srt.idx IV.str (List.getElem?_eq_getElem hi)
  have ih:=Aqf l s hl n (i+1) (by omega)
  rw [Ad1,Srt.len,List.drop_eq_getElem_cons hi,Ny]
  by_cases he:l[i]=s
  ·simp only [Option.bind_some,O.Ak,An,hi,decide_true,O.Ab,if_true,hx,O.Gf,he,Bool.true_or]
  ·have he': ¬ s=l[i]:=fun e=>he e.symm
   simp only [Option.bind_some,O.Ak,An,hi,decide_true,O.Ab,if_true,hx,O.Gf,he,he',decide_false,Bool.false_eq_true,if_false,Bool.false_or,O.Aq,hw,ih]
theorem rhas (l:List ByteArray) (s:ByteArray) (hl:l.length≤1048576):W Ar6 0 [SL l,.str s]=some [.bool (inB l s)]:=by
 have:=Aqf l s hl l.length 0 (by omega)
 simp only [Int.cast_ofNat_Int,List.drop_zero] at this
 rw [Api];exact this
end Go.CT.Sch
namespace Go.CT.Sch
open Go.Proofs
theorem An6 (c:UInt8):(0:Int)≤c.toNat∧(c.toNat:Int)≤255:=by
 have:=c.toNat_lt;omega
theorem Gh {s:ByteArray} {i:Nat} (h:i<s.size):s.data.toList.drop i=s[i]::s.data.toList.drop (i+1):=by
 rw [List.drop_eq_getElem_cons (by simpa using h)];rfl
theorem Aan (s:ByteArray) (hs:s.size≤4611686018427387904): ∀ (n i:Nat),i+n=s.size→W Aqd 1 [.str s,.int i]=some [.bool ((s.data.toList.drop i).all Jh&&decide (s.size≤200))]
 | 0,i,h=>by
  rw [Ael]
  have h1: ¬ i<s.size:=by omega
  have h2:s.data.toList.drop i= []:=List.drop_of_length_le (by simp;omega)
  have h3:decide ((s.size:Int)≤200)=decide (s.size≤200):=by simp;omega
  simp [h1,h2]
  omega
 | n+1,i,h=>by
  have hi:i<s.size:=by omega
  have ih:=Aan s hs n (i+1) (by omega)
  have hw:=Bg (i:=i) (by omega)
  rw [Ael,Gh hi]
  have hb:=An6 s[i]
  generalize hc:s[i]=c at hb
  have e1:Jh c= !(decide (¬ (c.toNat:Int)=10∧((c.toNat:Int)<32∨(126:Int)<c.toNat))):=by
   unfold Jh
   rw [Bool.eq_iff_iff]
   simp
   omega
  simp only [O.Co,Option.bind_some,O.Ak,An,hi,decide_true,O.Ab,if_true,O.E7,Int.natCast_nonneg,Int.toNat_natCast,Ap0 hi,hc,Option.map_some,O.Eh,List.all_cons,e1,O.Aq,hw,ih]
  by_cases c1:(c.toNat:Int)=10
  ·simp [c1]
  ·by_cases c2:(c.toNat:Int)<32
   ·simp [c1,c2]
   ·by_cases c3:(126:Int)<c.toNat
    ·simp [c1,c2,c3]
    ·simp [c1,c2,c3]
theorem Ai0 (s:ByteArray) (hs:s.size≤4611686018427387904):W Aqd 0 [.str s]=some [.bool (Ks s)]:=by
 rw [Ang]
 exact Aan s hs s.size 0 (by omega)
theorem Ud (s:ByteArray) (hs:s.size≤4611686018427387904): ∀ (n i:Nat),i+n=s.size→W Aqm 1 [.str s,.int i]=some [.bool ((s.data.toList.drop i).all Bz&&decide (1≤s.size∧s.size≤40))]
 | 0,i,h=>by
  rw [Aej]
  have h1: ¬ i<s.size:=by omega
  have h2:s.data.toList.drop i= []:=List.drop_of_length_le (by simp;omega)
  have h3:((s.size:Int)≤40)=(s.size≤40):=by simp;omega
  simp [h1,h2,h3]
  have:((1:Int)≤s.size)=(1≤s.size):=by simp;omega
  by_cases c:1≤s.size<;>simp [this,c]
 | n+1,i,h=>by
  have hi:i<s.size:=by omega
  have ih:=Ud s hs n (i+1) (by omega)
  have hw:=Bg (i:=i) (by omega)
  rw [Aej,Gh hi]
  generalize hc:s[i]=c
  have e1:Bz c= !(decide (¬ (((97:Int)≤c.toNat∧(c.toNat:Int)≤122)∨((65:Int)≤c.toNat∧(c.toNat:Int)≤90))∧ ¬ ((48:Int)≤c.toNat∧(c.toNat:Int)≤57)∧ ¬ (c.toNat:Int)=45∧ ¬ (c.toNat:Int)=95∧ ¬ (c.toNat:Int)=47)):=by
   unfold Bz
   rw [Bool.eq_iff_iff]
   simp
   omega
  simp only [O.Co,Option.bind_some,O.Ak,An,hi,decide_true,O.Ab,if_true,O.E7,Int.natCast_nonneg,Int.toNat_natCast,Ap0 hi,hc,Option.map_some,O.Gr,O.Dt,O.Eh,List.all_cons,e1,O.Aq,hw,ih]
  by_cases p1:(97:Int)≤c.toNat<;>by_cases p2:(c.toNat:Int)≤122<;>by_cases p3:(65:Int)≤c.toNat<;>by_cases p4:(c.toNat:Int)≤90<;>by_cases p5:(48:Int)≤c.toNat<;>by_cases p6:(c.toNat:Int)≤57<;>simp [p1,p2,p3,p4,p5,p6]<;>
   by_cases p7:(c.toNat:Int)=45<;>by_cases p8:(c.toNat:Int)=95<;>by_cases p9:(c.toNat:Int)=47<;>simp [p7,p8,p9]
theorem Adn (s:ByteArray) (hs:s.size≤4611686018427387904):W Aqm 0 [.str s]=some [.bool (Cr s)]:=by
 rw [Apo]
 exact Ud s hs s.size 0 (by omega)
end Go.CT.Sch
namespace Go.CT.Sch
open Go.Proofs
theorem Ct:(⟨#[]⟩:ByteArray)=Ar:=rfl
theorem Zr (d:Nat) (o:Option ByteArray) (p:ByteArray × Val) (r:List (ByteArray × Val)):Ajq d o (p::r)=(Cr p.1&&(match o with | none=>true | some q=>blt q p.1)&&Bn d p.2&&Ajq d (some p.1) r):=by
 cases o<;>rfl
theorem Agt (v:Val) (hv:v.Ay≤1099511627776):W Avf 0 [v.enc]=some [.bool (En v)]:=by
 have hs:=v.Ale
 rw [Am9]
 unfold En
 simp only [Val.Bv,Option.bind_some,O.eq_int,O.Ab]
 by_cases c1:v.k=1
 ·simp [c1,Ct]
 by_cases c2:v.k=2
 ·by_cases a1: -1000000000000000≤v.n<;>by_cases a2:v.n≤1000000000000000<;>simp [c2,a1,a2,Ct]
 by_cases c3:v.k=3
 ·simp [c3,Ai0 v.s (by omega)]
 by_cases c4:v.k=0
 ·by_cases a1:v.n=0<;>simp [c4,Qw,a1,Ct]
 by_cases c5:v.k=4
 ·by_cases a1:v.n=0<;>simp [c5,Qw,a1,Ct]
 by_cases c6:v.k=5
 ·by_cases a1:v.n=0<;>simp [c6,Qw,a1,Ct]
 simp [c1,c2,c3,c4,c5,c6,Qw]
theorem Tj (d:Nat) (v:Val) (hd:d≤12) (hv:v.Ay≤1099511627776) (ih: ∀x∈v.l,W Aa8 0 [x.enc,.int d]=some [.bool (Bn d x)]): ∀ (n i:Nat),i+n=v.l.length→
  W Aa8 1 [.int ((d+1:Nat):Int),.int i,v.enc]=if (v.l.drop i).all (Bn d)=true then W Aa8 2 [.int ((d+1:Nat):Int),.int 0,v.enc] else some [.bool false]
 | 0,i,h=>by
  rw [Ad0]
  have h1: ¬ i<v.l.length:=by omega
  simp [h1,List.drop_of_length_le (Nat.le_of_not_lt h1)]
 | n+1,i,h=>by
  have hi:i<v.l.length:=by omega
  have hm:=v.Du
  have hw:=Bg (i:=i) (by omega)
  have hd1:IntKind.i64.wrap (((d+1:Nat):Int) - 1)=d:=by rw [wrap64 (by omega) (by omega)];omega
  have:=Tj d v hd hv ih n (i+1) (by omega)
  rw [Ad0,List.drop_eq_getElem_cons hi]
  simp only [Val.Cq,Option.bind_some,O.Ao,List.length_map,O.Ak,An,hi,decide_true,O.Ab,if_true,O.Aj,Int.natCast_nonneg,Int.toNat_natCast,List.getElem?_map,List.getElem?_eq_getElem hi,Option.map_some,O.B7,hd1,ih _ (List.getElem_mem hi),O.Ah,O.A3,O.Aq,hw,this,List.all_cons,Bool.and_eq_true]
  by_cases c:Bn d v.l[i]=true<;>simp [c]
theorem Tk (d:Nat) (v:Val) (hd:d≤12) (hv:v.Ay≤1099511627776) (ih: ∀p∈v.f,W Aa8 0 [p.2.enc,.int d]=some [.bool (Bn d p.2)]): ∀ (n i:Nat),i+n=v.f.length→
  W Aa8 2 [.int ((d+1:Nat):Int),.int i,v.enc]=some [.bool (Ajq d (Ez v.f i) (v.f.drop i))]
 | 0,i,h=>by
  rw [Aee]
  have h1: ¬ i<v.f.length:=by omega
  simp [h1,List.drop_of_length_le (Nat.le_of_not_lt h1),Ajq]
 | n+1,i,h=>by
  have hi:i<v.f.length:=by omega
  have hm:=v.Bc
  have hw:=Bg (i:=i) (by omega)
  have hd1:IntKind.i64.wrap (((d+1:Nat):Int) - 1)=d:=by rw [wrap64 (by omega) (by omega)];omega
  have:=Tk d v hd hv ih n (i+1) (by omega)
  have hmem:=List.getElem_mem hi
  have hmass:=Val.Dz hmem
  have hpn:Ez v.f (i+1)=some v.f[i].1 :=by simp [Ez,hi]
  rw [hpn] at this
  rw [Aee,List.drop_eq_getElem_cons hi,Zr]
  simp only [Val.Da,Option.bind_some,O.Ao,List.length_map,O.Ak,An,hi,decide_true,O.Ab,if_true,O.Aj,Int.natCast_nonneg,Int.toNat_natCast,List.getElem?_map,List.getElem?_eq_getElem hi,Option.map_some,Fld.Bv,Fld.Mt,Adn v.f[i].1 (by omega),O.B7,hd1,ih _ hmem,O.Ah,O.A3,O.Aq,hw,this,O.B4]
  cases i with
  | zero=>
   simp only [Ez]
   cases Cr v.f[0].1<;>cases Bn d v.f[0].2<;>simp
  | succ i=>
   have hi':i<v.f.length:=by omega
   have hw2:IntKind.i64.wrap (((i+1:Nat):Int) - 1)=i:=by rw [wrap64 (by omega) (by omega)];omega
   have hp:(0:Int)<((i+1:Nat):Int):=by omega
   simp only [Ez,List.getElem?_eq_getElem hi',Option.map_some,hw2,hp,decide_true,if_true,Int.natCast_nonneg,Int.toNat_natCast,Option.bind_some,Fld.Bv,Wg]
   cases Cr v.f[i+1].1<;>cases Bn d v.f[i+1].2<;>cases blt v.f[i].1 v.f[i+1].1<;>simp
theorem R7: ∀ (d:Nat) (v:Val),d≤12→v.Ay≤1099511627776→W Aa8 0 [v.enc,.int d]=some [.bool (Bn d v)]
 | 0,v,_,_=>by
  rw [Adl]
  simp [Bn]
 | d+1,v,hd,hv=>by
  have h1:=Tj d v (by omega) hv (fun x hx=>R7 d x (by omega) (by have:=Val.Kf hx;omega)) v.l.length 0 (by omega)
  have h2:=Tk d v (by omega) hv (fun p hp=>R7 d p.2 (by omega) (by have:=Val.Dz hp;omega)) v.f.length 0 (by omega)
  rw [Adl]
  have hz: ¬ ((d+1:Nat):Int)=0:=by omega
  simp only [Int.cast_ofNat_Int,List.drop_zero,Ez,Yp] at h1 h2
  rw [h2] at h1
  simp only [O.eq_int,hz,decide_false,Option.bind_some,O.Ab,Bool.false_eq_true,if_false,Agt v hv,O.Ah,O.A3,Val.Cq,Val.Da,Val.Bv,O.Ao,List.length_map,O.B4,O.Eh,h1,Bn]
  have hnil:v.l= []→v.l.all (Bn d)=true:=fun e=>by rw [e];rfl
  have hnil2:v.f= []→(v.f.all fun p=>Cr p.1&&Bn d p.2)=true∧rising v.f=true:=fun e=>by rw [e];exact ⟨rfl,rfl⟩
  generalize v.l.all (Bn d)=A at *
  generalize (v.f.all fun p=>Cr p.1&&Bn d p.2)=B at *
  generalize rising v.f=C at *
  cases hs:En v with
  | false=>simp
  | true=>
   by_cases c1:(64:Int)<v.l.length
   ·have: ¬ v.l.length≤64:=by omega
    simp [c1,this]
   ·have d1:v.l.length≤64:=by omega
    by_cases c2:(64:Int)<v.f.length
    ·have: ¬ v.f.length≤64:=by omega
     simp [c1,c2,this]
    ·have d2:v.f.length≤64:=by omega
     by_cases c3:v.k=4
     ·have c4: ¬ v.k=5:=by omega
      by_cases c5:v.f= []
      ·simp [c3,c1,d1,c5]
       cases A<;>simp
      ·have c6:(0:Int)<v.f.length:=by have:=List.length_pos_iff.2 c5;omega
       simp [c3,c1,c2,d1,d2,c5,c6]
     ·by_cases c5:v.l= []
      ·by_cases c4:v.k=5
       ·simp [c4,c2,d2,c5]
        cases A<;>simp
       ·by_cases c7:v.f= []
        ·simp [c3,c4,c5,c7]
         cases A<;>simp
        ·have c6:(0:Int)<v.f.length:=by have:=List.length_pos_iff.2 c7;omega
         simp [c3,c4,c5,c7,c6,c2,d2]
      ·have c6:(0:Int)<v.l.length:=by have:=List.length_pos_iff.2 c5;omega
       simp [c3,c5,c6,c1,c2,d1,d2]
end Go.CT.Sch
namespace Go.CT
theorem get!_eq (s:ByteArray) (i:Nat) (h:i<s.size):s.get! (i+0)=s[i]:=by
 obtain ⟨a⟩:=s
 have h':i<a.size:=h
 show a[i+0]! =a[i]
 simp [h']
theorem T3 {s:ByteArray} {i:Nat} (h:i<s.size) (hb:s[i].toNat <128):Utf8.decode s i=(s[i].toNat,1):=by
 unfold Utf8.decode
 simp only [get!_eq s i h]
 rw [if_pos hb]
theorem decode_high {s:ByteArray} {i:Nat} (h:i<s.size) (hb:128≤s[i].toNat):128≤(Utf8.decode s i).1 :=by
 unfold Utf8.decode
 simp only [get!_eq s i h]
 rw [if_neg (by omega)]
 have e:Utf8.runeError=65533:=rfl
 split
 ·split<;>simp only [e]<;>omega
 ·split
  ·split
   ·rename_i hc
    simp only [Bool.and_eq_true,decide_eq_true_eq,ge_iff_le] at hc
    show 128≤_
    omega
   ·simp [e]
  ·split
   ·split
    ·rename_i hc
     simp only [Bool.and_eq_true,decide_eq_true_eq,ge_iff_le] at hc
     show 128≤_
     omega
    ·simp [e]
   ·simp [e]
namespace O
variable {s:ByteArray} {i:Nat} {b:Bool} {xs ys:List IV}
theorem Yb (h:i<s.size):L9 (.str s) (.int i)=some (.bool true):=by simp [L9,Prim.ev,h]
theorem Va (h: ¬ i<s.size):L9 (.str s) (.int i)=some (.bool false):=by simp [L9,Prim.ev,h]
theorem Aav (h:i<s.size):Mf (.str s) (.int i)=some (.int (Utf8.decode s i).1):=by simp [Mf,Prim.ev,h]
theorem U8 (h: ¬ i<s.size):Mf (.str s) (.int i)=some (.int 0):=by simp [Mf,Prim.ev,h]
theorem Sw (h:i<s.size):G7 (.str s) (.int i)=some (.int ((i+(Utf8.decode s i).2 :Nat):Int)):=by simp [G7,Prim.ev,h]
theorem P9 (h: ¬ i<s.size):G7 (.str s) (.int i)=some (.int i):=by simp [G7,Prim.ev,h]
@[simp] theorem Aax:Agk (.bool true)=some (.bool true):=rfl
theorem Zx {n:Nat} (h:0<ys.length) (hb:(xs.length+ys.length) * n≤Ax):O1 n (.list xs) (.list ys)=some (.list (xs++ys)):=if_pos ⟨h,hb⟩
theorem Ac9 (h:xs.length+s.size≤Ax):Mu (.list xs) (.str s)=some (.list (xs++Bq s)):=if_pos h
@[simp] theorem Agp:Ajx [.list xs]=some [.list xs]:=rfl
@[simp] theorem Ie:Jf [.list xs]=some [.list xs]:=rfl
theorem Rs: ∀l:List UInt8,(l.map fun b:UInt8=>IV.int b.toNat).mapM Io=some l
 | []=>rfl
 | b::l=>by
  have hb:Io (.int b.toNat)=some b:=by
   have h:(b.toNat:Int)<256:=by have:=b.toNat_lt;omega
   simp only [Io,Int.natCast_nonneg,h,and_self,if_true,Int.toNat_natCast]
   simp [Nat.toUInt8]
  simp [List.map_cons,List.mapM_cons,hb,Rs l]
theorem N6 (s:ByteArray):Py [.list (Bq s)]=some [.str s]:=by
 simp only [Py,Bq,Rs,Option.map_some]
theorem It (s t:ByteArray):Bq (s++t)=Bq s++Bq t:=by
 simp [Bq,ByteArray.toList_data_append]
theorem I3 (s:ByteArray):(Bq s).length =s.size:=by simp [Bq]
theorem Aob (n:Nat) (h:n<100):Ag3 [.int n]=some [.str (Qk n)]:=by
 simp only [Ag3,Int.natCast_nonneg,true_and,Int.toNat_natCast]
 rw [if_pos (by omega)]
end O
end Go.CT
namespace Go.CT.Sch
open Go.Proofs
structure Stp where
 k:Int
 nm:ByteArray
 ix:Int
 vl:ByteArray
def Stp.enc (s:Stp):IV:= .agg [.int s.k,.str s.nm,.int s.ix,.str s.vl]
@[simp] theorem Stp.Bv (s:Stp):O.proj 0 s.enc=some (.int s.k):=rfl
@[simp] theorem Stp.C9 (s:Stp):O.proj 1 s.enc=some (.str s.nm):=rfl
@[simp] theorem Stp.D7 (s:Stp):O.proj 2 s.enc=some (.int s.ix):=rfl
@[simp] theorem Stp.Cq (s:Stp):O.proj 3 s.enc=some (.str s.vl):=rfl
def Stp.fits (s:Stp):Prop:=s.nm.size≤1099511627000∧s.vl.size≤1099511627000
def bsL (l:List UInt8):ByteArray:=⟨l.toArray⟩
theorem G6 (a b:List UInt8):bsL (a++b)=bsL a++bsL b:=by
 apply H4
 rw [ByteArray.toList_data_append];simp [bsL]
theorem Db (l:List UInt8):(bsL l).size =l.length:=by simp [bsL,ByteArray.size]
theorem Hz (s:ByteArray):Ar++s=s:=by
 apply H4
 rw [ByteArray.toList_data_append];rfl
theorem Np (s:ByteArray):s++Ar=s:=by
 apply H4
 rw [ByteArray.toList_data_append];simp [Ar]
theorem Ane {s:ByteArray} {i:Nat} (h:i<s.size):s.extract i (i+1)=bsL [s[i]]:=by
 apply H4
 rw [ByteArray.data_extract,Array.toList_extract]
 simp only [List.extract_eq_take_drop,bsL]
 have:=Gh h
 rw [show i+1 - i=1 by omega,this]
 rfl
def Aae (c:UInt8):List UInt8:=if c.toNat=10 then [92,110] else if c.toNat=34∨c.toNat=92 then [92,c] else [c]
def Uu (s:ByteArray):ByteArray:=bsL (34::s.data.toList.flatMap Aae++ [34])
theorem Anl (c:UInt8):(Aae c).length ≤2:=by unfold Aae;split<;> (try split)<;>simp
theorem Alq: ∀l:List UInt8,(l.flatMap Aae).length ≤2 * l.length
 | []=>by simp
 | c::l=>by
  have:=Anl c
  have:=Alq l
  simp only [List.flatMap_cons,List.length_append,List.length_cons];omega
theorem Mj (s:ByteArray):(Uu s).size ≤2+2 * s.size:=by
 have:=Alq s.data.toList
 have h:s.data.toList.length=s.size:=by simp
 unfold Uu
 rw [Db]
 simp only [List.length_cons,List.length_append,List.length_nil]
 omega
def Ir (x:Stp):Bool:=
 if x.k=1 then Cr x.nm&&decide (x.ix=0)&&decide (x.vl=Ar)
 else if x.k=2 then decide (0≤x.ix)&&decide (x.ix≤64)&&decide (x.nm=Ar)&&decide (x.vl=Ar)
 else if x.k=3 then Cr x.nm&&Ks x.vl&&decide (x.ix=0)
 else false
def N4 (p:List Stp):Bool:=p.all Ir&&decide (p.length≤16)
def M8 (first:Bool) (x:Stp):ByteArray:=
 if x.k=2 then bsL [91]++O.Qk x.ix.toNat++bsL [93]
 else if x.k=3 then bsL [91]++x.nm++bsL [61]++Uu x.vl++bsL [93]
 else if first then x.nm else bsL [46]++x.nm
def Me:Bool→List Stp→ByteArray
 | _,[]=>Ar
 | b,x::r=>M8 b x++Me false r
def Axw (p:List Stp):ByteArray:=Me true p
def Hs (p:List Stp):ByteArray:=if N4 p then Axw p else Ar
def Afd (p:List Stp):Int:=if N4 p then 0 else 1
theorem Sy {s:ByteArray} (h:Cr s=true):s.size≤40:=by
 unfold Cr at h
 simp only [Bool.and_eq_true,decide_eq_true_eq] at h
 exact h.2.2
theorem T5 {s:ByteArray} (h:Ks s=true):s.size≤200:=by
 unfold Ks at h
 simp only [Bool.and_eq_true,decide_eq_true_eq] at h
 exact h.2
theorem Pl (n:Nat):(O.Qk n).size ≤2:=by
 unfold O.Qk
 split
 ·show 1≤2;omega
 ·show 2≤2;omega
theorem Li {x:Stp} (h:Ir x=true):x.nm.size≤40∧x.vl.size≤200∧(x.k=2→0≤x.ix∧x.ix≤64)∧(x.k=3→Ks x.vl=true)∧(x.k=1∨x.k=2∨x.k=3):=by
 have e0:Ar.size=0:=rfl
 unfold Ir at h
 split at h
 ·rename_i k1
  simp only [Bool.and_eq_true,decide_eq_true_eq] at h
  exact ⟨Sy h.1.1,by rw [h.2,e0];omega,fun h=>by omega,fun h=>by omega,.inl k1⟩
 ·split at h
  ·rename_i k2
   simp only [Bool.and_eq_true,decide_eq_true_eq] at h
   exact ⟨by rw [h.1.2,e0];omega,by rw [h.2,e0];omega,fun _=>⟨h.1.1.1,h.1.1.2⟩,fun h=>by omega,.inr (.inl k2)⟩
  ·split at h
   ·rename_i k3
    simp only [Bool.and_eq_true,decide_eq_true_eq] at h
    exact ⟨Sy h.1.1,T5 h.1.2,fun h=>by omega,fun _=>h.1.2,.inr (.inr k3)⟩
   ·cases h
theorem Ajz (c:UInt8):W Axm 0 [.int c.toNat]=some [.bool (Bz c)]:=by
 rw [Ao6]
 simp only [O.Gr,O.Dt,O.eq_int,Option.bind_some,O.Ab,Aw,Am]
 congr 3
 unfold Bz
 rw [Bool.eq_iff_iff]
 simp
 omega
theorem R4 (s:ByteArray) (hs:s.size≤1099511627776): ∀ (n i:Nat),i+n=s.size→W Aqr 1 [.str s,.int i]=some [.bool ((s.data.toList.drop i).all Bz&&decide (1≤s.size∧s.size≤40))]
 | 0,i,h=>by
  have h1: ¬ i<s.size:=by omega
  have h2:s.data.toList.drop i= []:=List.drop_of_length_le (by simp;omega)
  rw [Adx]
  simp only [O.Co,Option.bind_some,O.Ak,An,h1,decide_false,O.Ab,Bool.false_eq_true,if_false,O.B4,O.Dt,Aw,Am,h2,List.all_nil,Bool.true_and]
  congr 3
  rw [Bool.eq_iff_iff]
  simp
  omega
 | n+1,i,h=>by
  have hi:i<s.size:=by omega
  have hw:=Bg (i:=i) (by omega)
  have ih:=R4 s hs n (i+1) (by omega)
  rw [Adx,Gh hi]
  simp only [O.Co,Option.bind_some,O.Ak,An,hi,decide_true,O.Ab,if_true,O.E7,Int.natCast_nonneg,Int.toNat_natCast,Ap0 hi,Option.map_some,Ajz,O.Ah,O.A3,O.Aq,hw,ih,List.all_cons]
  cases Bz s[i]<;>simp
theorem Ah7 (s:ByteArray) (hs:s.size≤1099511627776):W Aqr 0 [.str s]=some [.bool (Cr s)]:=by
 rw [Aop];exact R4 s hs s.size 0 (by omega)
theorem T4 (s:ByteArray) (hs:s.size≤1099511627776): ∀ (n i:Nat),i+n=s.size→W Auh 1 [.str s,.int i]=some [.bool ((s.data.toList.drop i).all Jh&&decide (s.size≤200))]
 | 0,i,h=>by
  have h1: ¬ i<s.size:=by omega
  have h2:s.data.toList.drop i= []:=List.drop_of_length_le (by simp;omega)
  rw [Ae8]
  simp only [O.Co,Option.bind_some,O.Ak,An,h1,decide_false,O.Ab,Bool.false_eq_true,if_false,O.Dt,h2,List.all_nil,Bool.true_and]
  congr 3
  rw [Bool.eq_iff_iff]
  simp
  omega
 | n+1,i,h=>by
  have hi:i<s.size:=by omega
  have hw:=Bg (i:=i) (by omega)
  have ih:=T4 s hs n (i+1) (by omega)
  rw [Ae8,Gh hi]
  have e1:Jh s[i]= !(if (!decide ((s[i].toNat :Int)=10))=true then (if decide ((s[i].toNat :Int)<32)=true then true else decide (126<(s[i].toNat :Int))) else false):=by
   unfold Jh
   rw [Bool.eq_iff_iff]
   by_cases c1:s[i].toNat =10
   ·simp [c1]
   ·have c1': ¬ (s[i].toNat :Int)=10:=by omega
    by_cases c2:s[i].toNat <32
    ·have c2':(s[i].toNat :Int)<32:=by omega
     simp [c1,c1',c2,c2'];omega
    ·have c2': ¬ (s[i].toNat :Int)<32:=by omega
     simp [c1,c1',c2,c2']
     omega
  simp only [O.Co,Option.bind_some,O.Ak,An,hi,decide_true,O.Ab,if_true,O.E7,Int.natCast_nonneg,Int.toNat_natCast,Ap0 hi,Option.map_some,O.Eh,O.B4,Aw,Am,O.Aq,hw,ih,List.all_cons,e1]
  generalize (if (!decide ((s[i].toNat :Int)=10))=true then (if decide ((s[i].toNat :Int)<32)=true then true else decide (126<(s[i].toNat :Int))) else false)=b
  cases b<;>simp
theorem Am8 (s:ByteArray) (hs:s.size≤1099511627776):W Auh 0 [.str s]=some [.bool (Ks s)]:=by
 rw [Anr];exact T4 s hs s.size 0 (by omega)
theorem Ai4 (s:Stp) (hs:s.fits):W Aym 0 [s.enc]=some [.bool (Ir s)]:=by
 have h1:=Ah7 s.nm (Nat.le_trans hs.1 (by decide))
 have h2:=Am8 s.vl (Nat.le_trans hs.2 (by decide))
 rw [An8]
 simp only [Stp.Bv,Stp.C9,Stp.D7,Stp.Cq,Option.bind_some,O.eq_int,O.Ab,h1,h2,O.Ah,O.Gr,O.Dt,O.Gf,Aw,Am,Ct]
 unfold Ir
 by_cases k1:s.k=1
 ·simp only [k1,decide_true,if_true]
  cases Cr s.nm<;>simp
 ·by_cases k2:s.k=2
  ·simp only [k1,k2,decide_true,decide_false,Bool.false_eq_true,if_true,if_false]
   by_cases e1:0≤s.ix<;>by_cases e2:s.ix≤64<;>by_cases e3:s.nm=Ar<;>simp [e1,e2,e3]
  ·simp only [k1,k2,decide_false,Bool.false_eq_true,if_false]
   by_cases k3:s.k=3
   ·simp only [k3,decide_true,if_true]
    cases Cr s.nm<;>cases Ks s.vl<;>simp
   ·simp [k3]
theorem Qf (p:List Stp) (hp: ∀s∈p,s.fits) (hl:p.length≤1099511627776): ∀ (n i:Nat),i+n=p.length→W Aso 1 [.list (p.map Stp.enc),.int i]=some [.bool ((p.drop i).all Ir&&decide (p.length≤16))]
 | 0,i,h=>by
  have h1: ¬ i<p.length:=by omega
  have h2:p.drop i= []:=List.drop_of_length_le (by omega)
  rw [Aff]
  simp only [O.Ao,List.length_map,Option.bind_some,O.Ak,An,h1,decide_false,O.Ab,Bool.false_eq_true,if_false,O.Dt,h2,List.all_nil,Bool.true_and]
  congr 3
  rw [Bool.eq_iff_iff]
  simp
  omega
 | n+1,i,h=>by
  have hi:i<p.length:=by omega
  have hw:=Bg (i:=i) (by omega)
  have ih:=Qf p hp hl n (i+1) (by omega)
  rw [Aff,List.drop_eq_getElem_cons hi]
  simp only [O.Ao,List.length_map,Option.bind_some,O.Ak,An,hi,decide_true,O.Ab,if_true,O.Aj,Int.natCast_nonneg,Int.toNat_natCast,List.getElem?_map,List.getElem?_eq_getElem hi,Option.map_some,Ai4 _ (hp _ (List.getElem_mem hi)),O.Ah,O.A3,O.Aq,hw,ih,List.all_cons]
  cases Ir p[i]<;>simp
theorem U6 (p:List Stp) (hp: ∀s∈p,s.fits) (hl:p.length≤1099511627776):W Aso 0 [.list (p.map Stp.enc)]=some [.bool (N4 p)]:=by
 rw [Aot];exact Qf p hp hl p.length 0 (by omega)
theorem Er {a b:ByteArray} (ha:a.size≤100000) (hb:b.size≤100000):O.cat (.str a) (.str b)=some (.str (a++b)):=by
 rw [O.Aq9,if_pos (by unfold Ax;omega)]
theorem Aua: ∀d:Fin 10,(⟨#[48,49,50,51,52,53,54,55,56,57]⟩:ByteArray).extract d (d+1)=bsL [(48+d.val).toUInt8]:=by decide+kernel
theorem Asm (n:Int) (h0:0≤n) (h1:n≤64):W Ayp 0 [.int n]=some [.str (O.Qk n.toNat)]:=by
 have sl: ∀d:Nat,d<10→O.Kd (.str ⟨#[48,49,50,51,52,53,54,55,56,57]⟩) (.int d) (.int ((d:Int)+1))=some (.str (bsL [(48+d).toUInt8])):=by
  intro d hd
  rw [O.Vs,if_pos ⟨by omega,by omega,by show (d:Int)+1≤10;omega⟩]
  have:=Aua ⟨d,hd⟩
  simp only [Int.toNat_natCast]
  rw [show ((d:Int)+1).toNat =d+1 by omega,this]
 obtain ⟨m,rfl⟩:=Int.eq_ofNat_of_zero_le h0
 rw [Ana]
 unfold O.Qk
 simp only [Int.ofNat_eq_natCast,Int.toNat_natCast]
 by_cases c:m<10
 ·have hw:IntKind.i64.wrap ((m:Int)+1)=(m:Int)+1:=wrap64 (by omega) (by omega)
  have c':(m:Int)<10:=by omega
  simp only [O.Ak,c',decide_true,Option.bind_some,O.Ab,if_true,O.Aq,hw,sl m c,c]
  rfl
 ·have c': ¬ (m:Int)<10:=by omega
  have hq:(m:Int).tdiv 10=((m / 10:Nat):Int):=by rw [Int.tdiv_eq_ediv_of_nonneg (by omega)];omega
  have hr:(m:Int).tmod 10=((m % 10:Nat):Int):=by rw [Int.tmod_eq_emod_of_nonneg (by omega)];omega
  have hw1:IntKind.i64.wrap ((m / 10:Nat):Int)=((m / 10:Nat):Int):=wrap64 (by omega) (by omega)
  have hw2:IntKind.i64.wrap (((m / 10:Nat):Int)+1)=((m / 10:Nat):Int)+1:=wrap64 (by omega) (by omega)
  have hw3:IntKind.i64.wrap (((m % 10:Nat):Int)+1)=((m % 10:Nat):Int)+1:=wrap64 (by omega) (by omega)
  have hne: ¬ (10:Int)=0:=by omega
  simp only [O.Ak,c',decide_false,Option.bind_some,O.Ab,Bool.false_eq_true,if_false,O.Aui,O.Atn,hne,hq,hr,hw1,O.Aq,hw2,hw3,sl (m / 10) (by omega),sl (m % 10) (by omega),c]
  rw [Er (by rw [Db];simp) (by rw [Db];simp),←G6]
  rfl
theorem Rp (s:ByteArray) (hs:s.size≤200): ∀ (n i:Nat) (o:ByteArray),i+n=s.size→o.size≤1+2 * i→W Aho 1 [.str s,.str o,.int i]=some [.str (o++bsL ((s.data.toList.drop i).flatMap Aae++ [34]))]
 | 0,i,o,h,ho=>by
  have h1: ¬ i<s.size:=by omega
  have h2:s.data.toList.drop i= []:=List.drop_of_length_le (by simp;omega)
  rw [Ae6]
  simp only [O.Co,Option.bind_some,O.Ak,An,h1,decide_false,O.Ab,Bool.false_eq_true,if_false,h2,List.flatMap_nil,List.nil_append]
  rw [show (ByteArray.mk #[34])=bsL [34] from rfl,Er (by omega) (by rw [Db];simp)]
  rfl
 | n+1,i,o,h,ho=>by
  have hi:i<s.size:=by omega
  have hw:=Bg (i:=i) (by omega)
  have hsl:O.Kd (.str s) (.int i) (.int ((i+1:Nat):Int))=some (.str (bsL [s[i]])):=by
   rw [O.Vs,if_pos ⟨by omega,by omega,by omega⟩]
   simp only [Int.toNat_natCast]
   rw [Ane hi]
  have next: ∀a:List UInt8,a.length≤2→Aae s[i]=a→W Aho 2 [.str s,.str (o++bsL a),.int i]=some [.str (o++bsL ((s.data.toList.drop i).flatMap Aae++ [34]))]:=by
   intro a ha he
   rw [Aod]
   simp only [O.Aq,hw,Option.bind_some]
   rw [Rp s hs n (i+1) _ (by omega) (by rw [ByteArray.size_append,Db];omega),Gh hi,List.flatMap_cons,he,List.append_assoc,G6 a,ByteArray.append_assoc]
  rw [Ae6]
  simp only [O.Co,Option.bind_some,O.Ak,An,hi,decide_true,O.Ab,if_true,O.E7,Int.natCast_nonneg,Int.toNat_natCast,Ap0 hi,Option.map_some,O.eq_int,Aw,Am]
  rw [show (ByteArray.mk #[92,110])=bsL [92,110] from rfl,show (ByteArray.mk #[92])=bsL [92] from rfl]
  by_cases c1:s[i].toNat =10
  ·have c1':(s[i].toNat :Int)=10:=by omega
   simp only [c1',decide_true,if_true]
   rw [Er (by omega) (by rw [Db];simp)]
   exact next [92,110] (by simp) (by unfold Aae;rw [if_pos c1])
  ·have c1': ¬ (s[i].toNat :Int)=10:=by omega
   simp only [c1',decide_false,Bool.false_eq_true,if_false]
   by_cases c2:s[i].toNat =34∨s[i].toNat =92
   ·have c2':(if decide ((s[i].toNat :Int)=34)=true then true else decide ((s[i].toNat :Int)=92))=true:=by
     rcases c2 with h | h<;>simp [h]
    simp only [c2',if_true]
    rw [Er (by omega) (by rw [Db];simp)]
    simp only [Option.bind_some,O.Aq,hw,hsl]
    rw [Er (by rw [ByteArray.size_append,Db];simp;omega) (by rw [Db];simp),ByteArray.append_assoc,←G6]
    exact next [92,s[i]] (by simp) (by unfold Aae;rw [if_neg c1,if_pos c2])
   ·have c2':(if decide ((s[i].toNat :Int)=34)=true then true else decide ((s[i].toNat :Int)=92))=false:=by
     have h1: ¬ (s[i].toNat :Int)=34:=by omega
     have h2: ¬ (s[i].toNat :Int)=92:=by omega
     simp [h1,h2]
    simp only [c2',Bool.false_eq_true,if_false,O.Aq,hw,Option.bind_some,hsl]
    rw [Er (by omega) (by rw [Db];simp)]
    exact next [s[i]] (by simp) (by unfold Aae;rw [if_neg c1,if_neg c2])
theorem Ah3 (s:ByteArray) (hs:s.size≤200):W Aho 0 [.str s]=some [.str (Uu s)]:=by
 rw [Am1,show (ByteArray.mk #[34])=bsL [34] from rfl]
 rw [show (IV.int 0)=IV.int ((0:Nat):Int) from rfl,Rp s hs s.size 0 _ (by omega) (by rw [Db];simp),←G6]
 rfl
theorem Vf {b:Bool} {x:Stp} (h:Ir x=true):(M8 b x).size ≤500:=by
 obtain ⟨h1,h2,_⟩:=Li h
 have hq:=Mj x.vl
 have hi:=Pl x.ix.toNat
 have e: ∀c:UInt8,(bsL [c]).size =1:=fun c=>by rw [Db];rfl
 unfold M8
 split
 ·simp only [ByteArray.size_append,e];omega
 ·split
  ·simp only [ByteArray.size_append,e];omega
  ·split
   ·omega
   ·simp only [ByteArray.size_append,e];omega
theorem R5 (p:List Stp) (hp: ∀s∈p,Ir s=true) (hl:p.length≤16): ∀ (n i:Nat) (o:ByteArray),i+n=p.length→o.size≤500 * i→W Ag2 1 [.list (p.map Stp.enc),.str o,.int i]=some [.str (o++Me (decide (i=0)) (p.drop i)),.int 0]
 | 0,i,o,h,ho=>by
  have h1: ¬ i<p.length:=by omega
  have h2:p.drop i= []:=List.drop_of_length_le (by omega)
  rw [Adz]
  simp only [O.Ao,List.length_map,Option.bind_some,O.Ak,An,h1,decide_false,O.Ab,Bool.false_eq_true,if_false,h2,Me,Np]
 | n+1,i,o,h,ho=>by
  have hi:i<p.length:=by omega
  have hw:=Bg (i:=i) (by omega)
  have hok:=hp _ (List.getElem_mem hi)
  obtain ⟨g1,g2,g3,g4,g5⟩:=Li hok
  have e: ∀c:UInt8,(bsL [c]).size =1:=fun c=>by rw [Db];rfl
  have next: ∀t:ByteArray,M8 (decide (i=0)) p[i]=t→W Ag2 2 [.list (p.map Stp.enc),.str (o++t),.int i]=some [.str (o++Me (decide (i=0)) (p.drop i)),.int 0]:=by
   intro t ht
   have hz:(M8 (decide (i=0)) p[i]).size ≤500:=Vf hok
   rw [Aoa]
   simp only [O.Aq,hw,Option.bind_some]
   rw [R5 p hp hl n (i+1) (o++t) (by omega) (by rw [ByteArray.size_append,←ht];omega),List.drop_eq_getElem_cons hi,Me,ht,ByteArray.append_assoc]
   rfl
  rw [Adz]
  simp only [O.Ao,List.length_map,Option.bind_some,O.Ak,An,hi,decide_true,O.Ab,if_true,O.Aj,Int.natCast_nonneg,Int.toNat_natCast,List.getElem?_map,List.getElem?_eq_getElem hi,Option.map_some,Stp.Bv,Stp.C9,Stp.D7,Stp.Cq,O.eq_int,O.B4]
  rw [show (ByteArray.mk #[91])=bsL [91] from rfl,show (ByteArray.mk #[93])=bsL [93] from rfl,show (ByteArray.mk #[61])=bsL [61] from rfl,show (ByteArray.mk #[46])=bsL [46] from rfl]
  by_cases k2:p[i].k =2
  ·have hd:=Asm p[i].ix (g3 k2).1 (g3 k2).2
   have hd2:=Pl p[i].ix.toNat
   simp only [k2,decide_true,if_true]
   rw [Er (by omega) (by rw [e];omega)]
   simp only [Option.bind_some,hd,O.Ah]
   rw [Er (by rw [ByteArray.size_append,e];omega) (by omega)]
   simp only [Option.bind_some]
   rw [Er (by rw [ByteArray.size_append,ByteArray.size_append,e];omega) (by rw [e];omega)]
   simp only [Option.bind_some,ByteArray.append_assoc]
   exact next _ (by unfold M8;rw [if_pos k2,ByteArray.append_assoc])
  ·simp only [k2,decide_false,Bool.false_eq_true,if_false]
   by_cases k3:p[i].k =3
   ·have hd:=Ah3 p[i].vl g2
    have hd2:=Mj p[i].vl
    simp only [k3,decide_true,if_true]
    rw [Er (by omega) (by rw [e];omega)]
    simp only [Option.bind_some]
    rw [Er (by rw [ByteArray.size_append,e];omega) (by omega)]
    simp only [Option.bind_some]
    rw [Er (by rw [ByteArray.size_append,ByteArray.size_append,e];omega) (by rw [e];omega)]
    simp only [Option.bind_some,hd,O.Ah]
    rw [Er (by rw [ByteArray.size_append,ByteArray.size_append,ByteArray.size_append,e,e];omega) (by omega)]
    simp only [Option.bind_some]
    rw [Er (by rw [ByteArray.size_append,ByteArray.size_append,ByteArray.size_append,ByteArray.size_append,e,e];omega) (by rw [e];omega)]
    simp only [Option.bind_some,ByteArray.append_assoc]
    exact next _ (by unfold M8;rw [if_neg k2,if_pos k3];simp only [ByteArray.append_assoc])
   ·simp only [k3,decide_false,Bool.false_eq_true,if_false]
    by_cases hz:i=0
    ·have hz': ¬ (0:Int)<i:=by omega
     have ho':o=Ar:=by
      apply H4
      have:o.size=0:=by omega
      have:o.data.toList.length=0:=by simpa using this
      rw [List.length_eq_zero_iff.1 this];rfl
     simp only [hz',decide_false,Bool.false_eq_true,if_false]
     have:=next p[i].nm (by unfold M8;rw [if_neg k2,if_neg k3,if_pos (by simpa using hz)])
     rw [ho',Hz] at this
     rw [ho']
     exact this
    ·have hz':(0:Int)<i:=by omega
     simp only [hz',decide_true,if_true]
     rw [Er (by omega) (by rw [e];omega)]
     simp only [Option.bind_some]
     rw [Er (by rw [ByteArray.size_append,e];omega) (by omega)]
     simp only [Option.bind_some,ByteArray.append_assoc]
     exact next _ (by unfold M8;rw [if_neg k2,if_neg k3,if_neg (by simpa using hz)])
theorem Akk (p:List Stp) (hp: ∀s∈p,s.fits) (hl:p.length≤1099511627776):W Ag2 0 [.list (p.map Stp.enc)]=some [.str (Hs p),.int (Afd p)]:=by
 rw [Ao2]
 unfold Hs Afd
 cases hb:N4 p with
 | false=>simp only [U6 p hp hl,hb,O.Ah,O.A3,Option.bind_some,Bool.not_false,O.Ab,if_true];rfl
 | true=>
  simp only [U6 p hp hl,hb,O.Ah,O.A3,Option.bind_some,Bool.not_true,O.Ab,Bool.false_eq_true,if_false,if_true]
  unfold N4 at hb
  simp only [Bool.and_eq_true,decide_eq_true_eq,List.all_eq_true] at hb
  have:=R5 p hb.1 hb.2 p.length 0 Ar (by omega) (Nat.le_refl _)
  rw [Hz] at this
  exact this
end Go.CT.Sch
namespace Go.CT.Sch
open Go.Proofs
theorem Z7 (s:ByteArray) (hs:s.size≤1099511627776): ∀ (n i:Nat),i+n=s.size→W F22 1 [.str s,.int s.size,.int i]=some [.bool ((s.data.toList.drop i).all Jh&&decide (s.size≤200))]
 | 0,i,h=>by
  have h1: ¬ i<s.size:=by omega
  have h2:s.data.toList.drop i= []:=List.drop_of_length_le (by simp;omega)
  rw [Alx]
  simp only [O.Co,Option.bind_some,O.Ak,An,h1,decide_false,O.Ab,Bool.false_eq_true,if_false,O.Dt,h2,List.all_nil,Bool.true_and]
  congr 3
  rw [Bool.eq_iff_iff]
  simp
  omega
 | n+1,i,h=>by
  have hi:i<s.size:=by omega
  have hw:=Bg (i:=i) (by omega)
  have ih:=Z7 s hs n (i+1) (by omega)
  rw [Alx,Gh hi]
  have e1:Jh s[i]= !(if (!decide ((s[i].toNat :Int)=10))=true then (if decide ((s[i].toNat :Int)<32)=true then true else decide (126<(s[i].toNat :Int))) else false):=by
   unfold Jh
   rw [Bool.eq_iff_iff]
   by_cases c1:s[i].toNat =10
   ·simp [c1]
   ·have c1': ¬ (s[i].toNat :Int)=10:=by omega
    by_cases c2:s[i].toNat <32
    ·have c2':(s[i].toNat :Int)<32:=by omega
     simp [c1,c1',c2,c2'];omega
    ·have c2': ¬ (s[i].toNat :Int)<32:=by omega
     simp [c1,c1',c2,c2']
     omega
  simp only [O.Co,Option.bind_some,O.Ak,An,hi,decide_true,O.Ab,if_true,O.E7,Int.natCast_nonneg,Int.toNat_natCast,Ap0 hi,Option.map_some,O.Eh,O.B4,Aw,Am,O.Aq,hw,ih,List.all_cons,e1]
  generalize (if (!decide ((s[i].toNat :Int)=10))=true then (if decide ((s[i].toNat :Int)<32)=true then true else decide (126<(s[i].toNat :Int))) else false)=b
  cases b<;>simp
theorem Atv (s:ByteArray) (hs:s.size≤1099511627776):W F22 0 [.str s]=some [.bool (Ks s)]:=by
 rw [Asa]
 simp only [O.Co,Option.bind_some]
 exact Z7 s hs s.size 0 (by omega)
theorem Aas (s:ByteArray) (hs:s.size≤1099511627776): ∀ (n i:Nat),i+n=s.size→W F23 1 [.str s,.int s.size,.int i]=some [.bool ((s.data.toList.drop i).all Bz&&decide (1≤s.size∧s.size≤40))]
 | 0,i,h=>by
  have h1: ¬ i<s.size:=by omega
  have h2:s.data.toList.drop i= []:=List.drop_of_length_le (by simp;omega)
  rw [Aio]
  simp only [O.Co,Option.bind_some,O.Ak,An,h1,decide_false,O.Ab,Bool.false_eq_true,if_false,O.Gr,O.Dt,Aw,Am,h2,List.all_nil,Bool.true_and]
  congr 3
  rw [Bool.eq_iff_iff]
  simp
  omega
 | n+1,i,h=>by
  have hi:i<s.size:=by omega
  have hw:=Bg (i:=i) (by omega)
  have ih:=Aas s hs n (i+1) (by omega)
  rw [Aio,Gh hi]
  generalize hc:s[i]=c
  simp only [O.Co,Option.bind_some,O.Ak,An,hi,decide_true,O.Ab,if_true,O.E7,Int.natCast_nonneg,Int.toNat_natCast,Ap0 hi,hc,Option.map_some,O.Gr,O.Dt,O.eq_int,Aw,Am,O.A3,O.Aq,hw,ih,List.all_cons]
  have e1:Bz c=(if (if (if (if (if (if decide ((97:Int)≤c.toNat)=true then decide ((c.toNat:Int)≤122) else false)=true then true else if decide ((65:Int)≤c.toNat)=true then decide ((c.toNat:Int)≤90) else false)=true then true else if decide ((48:Int)≤c.toNat)=true then decide ((c.toNat:Int)≤57) else false)=true then true else decide ((c.toNat:Int)=45))=true then true else decide ((c.toNat:Int)=95))=true then true else decide ((c.toNat:Int)=47)):=by
   unfold Bz
   rw [Bool.eq_iff_iff]
   simp
   omega
  rw [←e1]
  cases Bz c<;>simp
theorem Atk (s:ByteArray) (hs:s.size≤1099511627776):W F23 0 [.str s]=some [.bool (Cr s)]:=by
 rw [Ara]
 simp only [O.Co,Option.bind_some]
 exact Aas s hs s.size 0 (by omega)
theorem Aix (v:Val) (hv:v.Ay≤1099511627776):W F21 0 [v.enc]=some [.bool (En v)]:=by
 have hs:=v.Ale
 rw [Ar1]
 unfold En
 simp only [Val.Bv,Option.bind_some,O.eq_int,O.Ab]
 by_cases c1:v.k=1
 ·by_cases a1:v.s=Ar<;>by_cases a2:v.n=0<;>simp [c1,a1,a2,Ct]
 by_cases c2:v.k=2
 ·by_cases a1: -1000000000000000≤v.n<;>by_cases a2:v.n≤1000000000000000<;>by_cases a3:v.s=Ar<;>simp [c2,a1,a2,a3,Ct]
 by_cases c3:v.k=3
 ·by_cases a1:v.n=0<;>simp [c3,a1,Atv v.s (by omega)]
 by_cases c4:v.k=0
 ·by_cases a1:v.n=0<;>simp [c4,Wa,a1,Ct]
 by_cases c5:v.k=4
 ·by_cases a1:v.n=0<;>simp [c5,Wa,a1,Ct]
 by_cases c6:v.k=5
 ·by_cases a1:v.n=0<;>simp [c6,Wa,a1,Ct]
 simp [c1,c2,c3,c4,c5,c6,Wa]
theorem U9 (d:Nat) (v:Val) (hd:d≤12) (hv:v.Ay≤1099511627776) (ih: ∀p∈v.f,W F20 0 [p.2.enc,.int d]=some [.bool (Bn d p.2)]): ∀ (n i:Nat),i+n=v.f.length→
  W F20 2 [.int ((d+1:Nat):Int),.list (v.f.map Fld.enc),.int v.f.length,.int i,v.enc]=some [.bool (Ajq d (Ez v.f i) (v.f.drop i))]
 | 0,i,h=>by
  rw [Alf]
  have h1: ¬ i<v.f.length:=by omega
  simp [h1,List.drop_of_length_le (Nat.le_of_not_lt h1),Ajq]
 | n+1,i,h=>by
  have hi:i<v.f.length:=by omega
  have hm:=v.Bc
  have hw:=Bg (i:=i) (by omega)
  have hd1:IntKind.i64.wrap (((d+1:Nat):Int) - 1)=d:=by rw [wrap64 (by omega) (by omega)];omega
  have:=U9 d v hd hv ih n (i+1) (by omega)
  have hmem:=List.getElem_mem hi
  have hmass:=Val.Dz hmem
  have hpn:Ez v.f (i+1)=some v.f[i].1 :=by simp [Ez,hi]
  rw [hpn] at this
  rw [Alf,List.drop_eq_getElem_cons hi,Zr]
  simp only [Val.Da,Option.bind_some,O.Ak,An,hi,decide_true,O.Ab,if_true,O.Aj,Int.natCast_nonneg,Int.toNat_natCast,List.getElem?_map,List.getElem?_eq_getElem hi,Option.map_some,Fld.Bv,Fld.Mt,Atk v.f[i].1 (by omega),O.B7,hd1,ih _ hmem,O.Ah,O.A3,O.B4,O.Aq,hw,this]
  cases i with
  | zero=>
   simp only [Ez]
   cases Cr v.f[0].1<;>cases Bn d v.f[0].2<;>simp
  | succ i=>
   have hi':i<v.f.length:=by omega
   have hw2:IntKind.i64.wrap (((i+1:Nat):Int) - 1)=i:=by rw [wrap64 (by omega) (by omega)];omega
   have hp:(0:Int)<((i+1:Nat):Int):=by omega
   simp only [Ez,List.getElem?_eq_getElem hi',Option.map_some,hw2,hp,decide_true,if_true,Int.natCast_nonneg,Int.toNat_natCast,Option.bind_some,Fld.Bv,Ab1]
   cases Cr v.f[i+1].1<;>cases Bn d v.f[i+1].2<;>cases blt v.f[i].1 v.f[i+1].1<;>simp
theorem Ui (d:Nat) (v:Val) (hd:d≤12) (hv:v.Ay≤1099511627776) (ih: ∀x∈v.l,W F20 0 [x.enc,.int d]=some [.bool (Bn d x)]): ∀ (n i:Nat),i+n=v.l.length→
  W F20 1 [.int ((d+1:Nat):Int),.list (v.l.map Val.enc),.int v.l.length,.int i,v.enc]=if (v.l.drop i).all (Bn d)=true then W F20 2 [.int ((d+1:Nat):Int),.list (v.f.map Fld.enc),.int v.f.length,.int 0,v.enc] else some [.bool false]
 | 0,i,h=>by
  rw [Ait]
  have h1: ¬ i<v.l.length:=by omega
  simp [h1,List.drop_of_length_le (Nat.le_of_not_lt h1)]
 | n+1,i,h=>by
  have hi:i<v.l.length:=by omega
  have hm:=v.Du
  have hw:=Bg (i:=i) (by omega)
  have hd1:IntKind.i64.wrap (((d+1:Nat):Int) - 1)=d:=by rw [wrap64 (by omega) (by omega)];omega
  have:=Ui d v hd hv ih n (i+1) (by omega)
  rw [Ait,List.drop_eq_getElem_cons hi]
  simp only [Option.bind_some,O.Ak,An,hi,decide_true,O.Ab,if_true,O.Aj,Int.natCast_nonneg,Int.toNat_natCast,List.getElem?_map,List.getElem?_eq_getElem hi,Option.map_some,O.B7,hd1,ih _ (List.getElem_mem hi),O.Ah,O.A3,O.Aq,hw,this,List.all_cons]
  by_cases c:Bn d v.l[i]=true<;>simp [c]
theorem W5: ∀ (d:Nat) (v:Val),d≤12→v.Ay≤1099511627776→W F20 0 [v.enc,.int d]=some [.bool (Bn d v)]
 | 0,v,_,_=>by
  rw [Ail]
  simp [Bn]
 | d+1,v,hd,hv=>by
  have h1:=Ui d v (by omega) hv (fun x hx=>W5 d x (by omega) (by have:=Val.Kf hx;omega)) v.l.length 0 (by omega)
  have h2:=U9 d v (by omega) hv (fun p hp=>W5 d p.2 (by omega) (by have:=Val.Dz hp;omega)) v.f.length 0 (by omega)
  have hm1:=v.Du
  have hm2:=v.Bc
  have hd0: ¬ ((d+1:Nat):Int)=0:=by omega
  simp only [List.drop_zero,Int.cast_ofNat_Int] at h1 h2
  have e1:decide ((0:Int)<(v.l.length:Int))= !decide (v.l= []):=by cases v.l<;>simp
  have e2:decide ((0:Int)<(v.f.length:Int))= !decide (v.f= []):=by cases v.f<;>simp
  have e3:decide ((64:Int)<(v.l.length:Int))= !decide (v.l.length≤64):=by rw [Bool.eq_iff_iff];simp;omega
  have e4:decide ((64:Int)<(v.f.length:Int))= !decide (v.f.length≤64):=by rw [Bool.eq_iff_iff];simp;omega
  rw [Ail]
  simp only [O.eq_int,hd0,decide_false,Option.bind_some,O.Ab,Bool.false_eq_true,if_false,Aix v hv,O.Ah,O.A3,Aw,Am,Val.Bv,Val.Cq,Val.Da,O.Eh,O.Ao,List.length_map,O.B4,e1,e2,e3,e4,h1,h2]
  unfold Bn
  have hpn:Ez v.f 0=none:=rfl
  rw [hpn,Yp]
  generalize v.l.all (Bn d)=A at *
  generalize (v.f.all fun p=>Cr p.1&&Bn d p.2)=B at *
  generalize rising v.f=C at *
  generalize En v=D
  clear h1 h2
  have p4:(if (!decide (v.k=4))=true then !decide (v.l= []) else false)= !decide (v.k≠4→v.l= []):=by by_cases c:v.k=4<;>simp [c]
  have p5:(if (!decide (v.k=5))=true then !decide (v.f= []) else false)= !decide (v.k≠5→v.f= []):=by by_cases c:v.k=5<;>simp [c]
  rw [p4,p5,show decide (v.l.length≤64∧v.f.length≤64∧(v.k≠4→v.l= [])∧(v.k≠5→v.f= []))=(decide (v.l.length≤64)&&(decide (v.f.length≤64)&&(decide (v.k≠4→v.l= [])&&decide (v.k≠5→v.f= [])))) by simp only [Bool.decide_and]]
  generalize decide (v.l.length≤64)=b1
  generalize decide (v.f.length≤64)=b2
  generalize decide (v.k≠4→v.l= [])=b3
  generalize decide (v.k≠5→v.f= [])=b4
  cases D<;>cases b1<;>cases b2<;>cases b3<;>cases b4<;>cases A<;>cases B<;>cases C<;>rfl
theorem Ya (v:Val) (hv:v.Ay≤1099511627776) (ih: ∀p∈v.f,W F24 0 [p.2.enc]=some [.int p.2.size]): ∀ (n i c:Nat),i+n=v.f.length→c+Bh (v.f.drop i)≤4611686018427387904→
  W F24 2 [.int c,.list (v.f.map Fld.enc),.int v.f.length,.int i]=some [.int ((c+Bh (v.f.drop i):Nat):Int)]
 | 0,i,c,h,hc=>by
  rw [Al3]
  have h1: ¬ i<v.f.length:=by omega
  simp [h1,List.drop_of_length_le (Nat.le_of_not_lt h1),Bh]
 | n+1,i,c,h,hc=>by
  have hi:i<v.f.length:=by omega
  have hm:=v.Bc
  have hw:=Bg (i:=i) (by omega)
  have hd:Bh (v.f.drop i)=v.f[i].2.size +Bh (v.f.drop (i+1)):=by rw [List.drop_eq_getElem_cons hi];rfl
  have hw2:IntKind.i64.wrap ((c:Int)+(v.f[i].2.size :Int))=((c+v.f[i].2.size :Nat):Int):=by rw [wrap64 (by omega) (by omega)];rfl
  rw [Al3]
  simp only [Option.bind_some,O.Ak,An,hi,decide_true,O.Ab,if_true,O.Aj,Int.natCast_nonneg,Int.toNat_natCast,List.getElem?_map,List.getElem?_eq_getElem hi,Option.map_some,Fld.Mt,ih _ (List.getElem_mem hi),O.Ah,O.Aq,hw,hw2]
  rw [Ya v hv ih n (i+1) _ (by omega) (by omega),hd,Nat.add_assoc]
theorem Zc (v:Val) (hv:v.Ay≤1099511627776) (ih: ∀x∈v.l,W F24 0 [x.enc]=some [.int x.size]): ∀ (n i c:Nat),i+n=v.l.length→c+B8 (v.l.drop i)≤4611686018427387904→
  W F24 1 [.int c,.list (v.l.map Val.enc),.int v.l.length,.int i,v.enc]=W F24 2 [.int ((c+B8 (v.l.drop i):Nat):Int),.list (v.f.map Fld.enc),.int v.f.length,.int 0]
 | 0,i,c,h,hc=>by
  rw [Ah8]
  have h1: ¬ i<v.l.length:=by omega
  simp [h1,List.drop_of_length_le (Nat.le_of_not_lt h1),B8]
 | n+1,i,c,h,hc=>by
  have hi:i<v.l.length:=by omega
  have hm:=v.Du
  have hw:=Bg (i:=i) (by omega)
  have hd:B8 (v.l.drop i)=v.l[i].size +B8 (v.l.drop (i+1)):=by rw [List.drop_eq_getElem_cons hi];rfl
  have hw2:IntKind.i64.wrap ((c:Int)+(v.l[i].size :Int))=((c+v.l[i].size :Nat):Int):=by rw [wrap64 (by omega) (by omega)];rfl
  rw [Ah8]
  simp only [Option.bind_some,O.Ak,An,hi,decide_true,O.Ab,if_true,O.Aj,Int.natCast_nonneg,Int.toNat_natCast,List.getElem?_map,List.getElem?_eq_getElem hi,Option.map_some,ih _ (List.getElem_mem hi),O.Ah,O.Aq,hw,hw2]
  rw [Zc v hv ih n (i+1) _ (by omega) (by omega),hd,Nat.add_assoc]
theorem Asj: ∀v:Val,v.Ay≤1099511627776→W F24 0 [v.enc]=some [.int v.size]:=by
 refine Val.ind fun v ih1 ih2 hv=>?_
 have hsz:=v.Ey
 have hs:=v.size_eq
 have h1:=Zc v hv (fun x hx=>ih1 x hx (by have:=Val.Kf hx;omega)) v.l.length 0 1 (by omega) (by simp only [List.drop_zero];omega)
 have h2:=Ya v hv (fun p hp=>ih2 p hp (by have:=Val.Dz hp;omega)) v.f.length 0 (1+B8 v.l) (by omega) (by simp only [List.drop_zero];omega)
 simp only [List.drop_zero,Int.cast_ofNat_Int] at h1 h2
 rw [Atd]
 simp only [Val.Cq,Option.bind_some,O.Ao,List.length_map]
 have h1':W F24 1 [.int 1,.list (v.l.map Val.enc),.int v.l.length,.int 0,v.enc]=W F24 2 [.int ((1+B8 v.l:Nat):Int),.list (v.f.map Fld.enc),.int v.f.length,.int 0]:=h1
 rw [h1',h2,hs]
theorem Oj (v:Val) (hv:v.Ay≤1099511627776):W F19 0 [v.enc]=some [.bool v.valid]:=by
 rw [Aq7]
 have h1:=W5 12 v (by omega) hv
 have h2:=Asj v hv
 simp only [Int.cast_ofNat_Int] at h1
 simp only [h1,h2,O.Ah,O.Ab,O.Dt,Option.bind_some,Val.valid]
 have:decide ((v.size:Int)≤600)=decide (v.size≤600):=by simp;omega
 cases Bn 12 v<;>simp [this]
end Go.CT.Sch
namespace Go.CT.Sch
open Go.Proofs
def nmR (r:Int):Bool:=decide (97≤r∧r≤122)||decide (65≤r∧r≤90)||decide (48≤r∧r≤57)||decide (r=45)||decide (r=95)||decide (r=47)
theorem Avb (r:Int):W F58 0 [.int r]=some [.bool (nmR r)]:=by
 rw [At5]
 simp only [O.Gr,O.Dt,O.eq_int,Option.bind_some,O.Ab,Aw,Am]
 congr 3
 unfold nmR
 rw [Bool.eq_iff_iff]
 simp
theorem Aen (c:UInt8):nmR c.toNat=Bz c:=by
 unfold nmR Bz
 rw [Bool.eq_iff_iff]
 simp
 omega
theorem Adq {r:Int} (h:128≤r):nmR r=false:=by
 unfold nmR
 simp
 omega
theorem Ahs {c:UInt8} (h:128≤c.toNat):Bz c=false:=by
 rw [←Aen];exact Adq (by omega)
theorem Y6 (s:ByteArray) (hs:s.size≤1099511627776): ∀ (n i:Nat),i+n=s.size→W F57 1 [.str s,.str s,.int i]=some [.bool ((s.data.toList.drop i).all Bz&&decide (1≤s.size∧s.size≤40))]
 | 0,i,h=>by
  have h1: ¬ i<s.size:=by omega
  have h2:s.data.toList.drop i= []:=List.drop_of_length_le (by simp;omega)
  rw [Aib]
  simp only [O.Va h1,O.U8 h1,O.P9 h1,Option.bind_some,O.Ab,Bool.false_eq_true,if_false,O.H5,O.Co,O.Dt,Aw,Am,h2,List.all_nil,Bool.true_and]
  congr 3
  have e:s=(⟨#[]⟩:ByteArray)↔s.size=0:=by
   constructor
   ·rintro rfl;rfl
   ·intro h0
    apply H4
    have:s.data.toList.length=0:=by simpa using h0
    rw [List.length_eq_zero_iff.1 this]
  by_cases c:s.size=0
  ·simp [e,c]
  ·have c1:1≤s.size:=by omega
   rw [Bool.eq_iff_iff]
   simp [e,c,c1]
   omega
 | n+1,i,h=>by
  have hi:i<s.size:=by omega
  rw [Aib,Gh hi]
  simp only [O.Yb hi,O.Aav hi,O.Sw hi,Option.bind_some,O.Ab,if_true,O.Aax,Avb,O.Ah,O.A3,List.all_cons]
  by_cases hb:s[i].toNat <128
  ·have ih:=Y6 s hs n (i+1) (by omega)
   rw [T3 hi hb]
   simp only [Aen]
   cases Bz s[i] with
   | true=>simpa using ih
   | false=>simp
  ·have hd:=decode_high hi (by omega)
   rw [Adq (by omega),Ahs (by omega)]
   simp
theorem Ar5 (s:ByteArray) (hs:s.size≤1099511627776):W F57 0 [.str s]=some [.bool (Cr s)]:=by
 rw [Arb];exact Y6 s hs s.size 0 (by omega)
theorem Zd (s:ByteArray):(Val.mk 3 0 s [] []).valid =Ks s:=by
 unfold Val.valid Bn
 simp [En,rising,Val.size,B8,Bh]
theorem At2 (s:Stp) (hs:s.fits):W F56 0 [s.enc]=some [.bool (Ir s)]:=by
 have h1:=Ar5 s.nm (Nat.le_trans hs.1 (by decide))
 have h2:=Oj ⟨3,0,s.vl,[],[]⟩ (by
  have:=hs.2
  rw [Val.Bj];simp [E9,D9];omega)
 rw [Zd] at h2
 have e:IV.agg [.int 3,.int 0,.str s.vl,.list [],.list []]=Val.enc ⟨3,0,s.vl,[],[]⟩:=rfl
 rw [Att]
 simp only [Stp.Bv,Stp.C9,Stp.D7,Stp.Cq,Option.bind_some,O.eq_int,O.Ab,h1,O.Ah,O.Gr,O.Dt,O.Gf,Aw,Am,Ct,Abp,O.E3,O.Ci,e,h2]
 unfold Ir
 by_cases k1:s.k=1
 ·simp only [k1,decide_true,if_true]
  cases Cr s.nm<;>simp
 ·by_cases k2:s.k=2
  ·simp only [k2,decide_true,decide_false,Bool.false_eq_true,if_true,if_false]
   by_cases e1:0≤s.ix<;>by_cases e2:s.ix≤64<;>by_cases e3:s.nm=Ar<;>simp [e1,e2,e3]
  ·simp only [k1,k2,decide_false,Bool.false_eq_true,if_false]
   by_cases k3:s.k=3
   ·simp only [k3,decide_true,if_true]
    cases Cr s.nm<;>cases Ks s.vl<;>simp
   ·simp [k3]
theorem Aew (p:List Stp) (hp: ∀s∈p,s.fits) (hl:p.length≤1099511627776): ∀ (n i:Nat),i+n=p.length→
  ∃r:Int,W F54 1 [.list (p.map Stp.enc),.int p.length,.int i]=some [.int r]∧decide (0≤r)= !(p.drop i).all Ir
 | 0,i,h=>by
  have h1: ¬ i<p.length:=by omega
  have h2:p.drop i= []:=List.drop_of_length_le (by omega)
  rw [Aip]
  simp only [O.Ak,An,h1,decide_false,Option.bind_some,O.Ab,Bool.false_eq_true,if_false,h2]
  exact ⟨-1,rfl,rfl⟩
 | n+1,i,h=>by
  have hi:i<p.length:=by omega
  have hw:=Bg (i:=i) (by omega)
  obtain ⟨r,hr,hr2⟩:=Aew p hp hl n (i+1) (by omega)
  rw [Aip,List.drop_eq_getElem_cons hi]
  simp only [O.Ak,An,hi,decide_true,Option.bind_some,O.Ab,if_true,O.Aj,Int.natCast_nonneg,Int.toNat_natCast,List.getElem?_map,List.getElem?_eq_getElem hi,Option.map_some,Auw,At2 _ (hp _ (List.getElem_mem hi)),O.Ah,O.A3,O.Aq,hw,hr,List.all_cons]
  cases Ir p[i] with
  | true=>exact ⟨r,by simp,by simpa using hr2⟩
  | false=>exact ⟨i,by simp,by simp⟩
theorem Ad2 (p:List Stp) (hp: ∀s∈p,s.fits) (hl:p.length≤1099511627776):W F52 0 [.list (p.map Stp.enc)]=some [.bool (N4 p)]:=by
 obtain ⟨r,hr,hr2⟩:=Aew p hp hl p.length 0 (by omega)
 have hr':W F54 0 [.list (p.map Stp.enc)]=some [.int r]:=by
  rw [Au7]
  simp only [O.Ao,List.length_map,Option.bind_some]
  exact hr
 rw [Atx]
 simp only [O.Ao,List.length_map,Option.bind_some,O.Dt,O.Ab,Au8,hr',O.Ah,O.Gr,hr2,O.A3,List.drop_zero,Bool.not_not]
 unfold N4
 have:decide ((p.length:Int)≤16)=decide (p.length≤16):=by simp;omega
 rw [this]
 by_cases c:p.length≤16<;>simp [c]
theorem Q3 (s:ByteArray) (c:UInt8) (hs:s.size≤1000000):W F59 0 [.list (Bq s),.int c.toNat]=some [.list (Bq (s++bsL [c]))]:=by
 rw [Arp]
 have h:((Bq s).length + [IV.int (c.toNat:Int)].length) * 1≤Ax:=by rw [O.I3];simp;unfold Ax;omega
 simp only [Atw,O.Ie,O.Ah,O.Cb,Option.bind_some,O.Bl,h,if_true,O.It]
 rfl
theorem Ry (s t:ByteArray) (hs:s.size≤1000000) (ht:t.size≤1000000): ∃n,W F62 0 [.list (Bq s),.str t]=some [n,.list (Bq (s++t))]:=by
 rw [Ar8]
 have h:(Bq s).length +t.size≤Ax:=by rw [O.I3];unfold Ax;omega
 simp only [Atw,O.Ie,O.Ah,O.Ac9 h,Option.bind_some,O.Co,O.It]
 exact ⟨_,rfl⟩
theorem Aex (s:ByteArray) (c:UInt8) (hc:c.toNat<128) (hs:s.size≤1000000): ∃n,W F65 0 [.list (Bq s),.int c.toNat]=some [n,.list (Bq (s++bsL [c]))]:=by
 rw [At4]
 have h:((Bq s).length + [IV.int (c.toNat:Int)].length) * 1≤Ax:=by rw [O.I3];simp;unfold Ax;omega
 have w1:IntKind.u32.wrap (c.toNat:Int)=c.toNat:=by
  unfold IntKind.wrap
  simp [IntKind.signed,IntKind.bits]
  omega
 have w2:IntKind.u8.wrap (c.toNat:Int)=c.toNat:=by
  unfold IntKind.wrap
  simp [IntKind.signed,IntKind.bits]
  omega
 have w3:decide ((c.toNat:Int)≤127)=true:=by simp;omega
 simp only [Atw,O.Ie,O.Ah,O.Ao,Option.bind_some,As8,O.Adh,w1,w2,O.Dt,w3,O.Ab,if_true,O.Cb,O.Bl,h,O.It,O.B7]
 exact ⟨_,rfl⟩
theorem Agb {c:UInt8} (h:Jh c=true):c.toNat<128:=by
 unfold Jh at h
 simp at h
 omega
theorem Vm (s:ByteArray) (hs:s.size≤200) (ho: ∀c∈s.data.toList,Jh c=true): ∀ (n i:Nat) (o:ByteArray),i+n=s.size→o.size≤1+2 * i→W F63 1 [.str s,.int i,.list (Bq o)]=some [.str (o++bsL ((s.data.toList.drop i).flatMap Aae++ [34]))]
 | 0,i,o,h,ho'=>by
  have h1: ¬ i<s.size:=by omega
  have h2:s.data.toList.drop i= []:=List.drop_of_length_le (by simp;omega)
  have hb:=Q3 o 34 (by omega)
  rw [Akh]
  simp only [O.Va h1,O.U8 h1,O.P9 h1,Option.bind_some,O.Ab,Bool.false_eq_true,if_false]
  rw [show (IV.int 34)=IV.int ((34:UInt8).toNat :Int) from rfl,hb]
  simp only [O.Ah,Av5,O.N6,h2,List.flatMap_nil,List.nil_append]
 | n+1,i,o,h,ho'=>by
  have hi:i<s.size:=by omega
  have hc:=ho s[i] (by rw [show s[i]=s.data.toList[i]'(by simpa using hi) from rfl];exact List.getElem_mem _)
  have hlow:=Agb hc
  have next: ∀a:List UInt8,a.length≤2→Aae s[i]=a→W F63 3 [.str s,.int ((i+1:Nat):Int),.list (Bq (o++bsL a))]=some [.str (o++bsL ((s.data.toList.drop i).flatMap Aae++ [34]))]:=by
   intro a ha he
   rw [As9]
   rw [Vm s hs ho n (i+1) _ (by omega) (by rw [ByteArray.size_append,Db];omega),Gh hi,List.flatMap_cons,he,List.append_assoc,G6 a,ByteArray.append_assoc]
  rw [Akh]
  simp only [O.Yb hi,O.Aav hi,O.Sw hi,T3 hi hlow,Option.bind_some,O.Ab,if_true,O.Aax,O.eq_int]
  have two:s[i].toNat =34∨s[i].toNat =92→W F63 2 [.int s[i].toNat,.int s[i].toNat,.bool true,.str s,.int ((i+1:Nat):Int),.list (Bq o)]=some [.str (o++bsL ((s.data.toList.drop i).flatMap Aae++ [34]))]:=by
   intro h2
   rw [Ahu]
   have hb:=Q3 o 92 (by omega)
   obtain ⟨m,hr⟩:=Aex (o++bsL [92]) s[i] hlow (by rw [ByteArray.size_append,Db];simp;omega)
   simp only [O.Ab,if_true]
   rw [show (IV.int 92)=IV.int ((92:UInt8).toNat :Int) from rfl,hb]
   simp only [O.Ah,hr,O.Ds]
   rw [ByteArray.append_assoc,←G6]
   exact next [92,s[i]] (by simp) (by unfold Aae;rw [if_neg (by omega),if_pos h2])
  by_cases c1:s[i].toNat =34
  ·have c1':decide ((s[i].toNat :Int)=34)=true:=by simp;omega
   simp only [c1',if_true]
   exact two (.inl c1)
  ·have c1':decide ((s[i].toNat :Int)=34)=false:=by simp;omega
   simp only [c1',Bool.false_eq_true,if_false]
   by_cases c2:s[i].toNat =92
   ·have c2':decide ((s[i].toNat :Int)=92)=true:=by simp;omega
    simp only [c2']
    exact two (.inr c2)
   ·have c2':decide ((s[i].toNat :Int)=92)=false:=by simp;omega
    simp only [c2']
    rw [Ahu]
    simp only [O.Ab,Bool.false_eq_true,if_false,O.eq_int,Option.bind_some]
    by_cases c3:s[i].toNat =10
    ·have c3':decide ((s[i].toNat :Int)=10)=true:=by simp;omega
     simp only [c3',if_true]
     obtain ⟨m,hr⟩:=Ry o (bsL [92,110]) (by omega) (by rw [Db];simp)
     rw [show (ByteArray.mk #[92,110])=bsL [92,110] from rfl]
     simp only [hr,O.Ds]
     exact next [92,110] (by simp) (by unfold Aae;rw [if_pos c3])
    ·have c3':decide ((s[i].toNat :Int)=10)=false:=by simp;omega
     simp only [c3',Bool.false_eq_true,if_false]
     obtain ⟨m,hr⟩:=Aex o s[i] hlow (by omega)
     simp only [hr,O.Ds]
     exact next [s[i]] (by simp) (by unfold Aae;rw [if_neg c3,if_neg (by omega)])
theorem Anz (s:ByteArray) (h:Ks s=true):W F63 0 [.str s]=some [.str (Uu s)]:=by
 have hs:=T5 h
 unfold Ks at h
 simp only [Bool.and_eq_true,List.all_eq_true] at h
 rw [At8]
 have hb:=Q3 Ar 34 (by decide)
 rw [show (IV.list [])=IV.list (Bq Ar) from rfl,show (IV.int 34)=IV.int ((34:UInt8).toNat :Int) from rfl,hb]
 simp only [O.Ah,Hz]
 rw [show (IV.int 0)=IV.int ((0:Nat):Int) from rfl,Vm s hs h.1 s.size 0 _ (by omega) (by rw [Db];simp),←G6]
 rfl
theorem U3 (p:List Stp) (hp: ∀s∈p,Ir s=true) (hl:p.length≤16): ∀ (n i:Nat) (o:ByteArray),i+n=p.length→o.size≤500 * i→W F51 1 [.list (p.map Stp.enc),.int p.length,.int i,.list (Bq o)]=some [.str (o++Me (decide (i=0)) (p.drop i)),.int 0]
 | 0,i,o,h,ho=>by
  have h1: ¬ i<p.length:=by omega
  have h2:p.drop i= []:=List.drop_of_length_le (by omega)
  rw [Ajl]
  simp only [Option.bind_some,O.Ak,An,h1,decide_false,O.Ab,Bool.false_eq_true,if_false,h2,Me,Np,Av5,O.N6,O.Ah]
 | n+1,i,o,h,ho=>by
  have hi:i<p.length:=by omega
  have hw:=Bg (i:=i) (by omega)
  have hok:=hp _ (List.getElem_mem hi)
  obtain ⟨g1,g2,g3,g4,g5⟩:=Li hok
  have e: ∀c:UInt8,(bsL [c]).size =1:=fun c=>by rw [Db];rfl
  have next: ∀t:ByteArray,M8 (decide (i=0)) p[i]=t→W F51 3 [.list (p.map Stp.enc),.int p.length,.int i,.list (Bq (o++t))]=some [.str (o++Me (decide (i=0)) (p.drop i)),.int 0]:=by
   intro t ht
   have hz:(M8 (decide (i=0)) p[i]).size ≤500:=Vf hok
   rw [Asw]
   simp only [O.Aq,hw,Option.bind_some]
   rw [U3 p hp hl n (i+1) (o++t) (by omega) (by rw [ByteArray.size_append,←ht];omega),List.drop_eq_getElem_cons hi,Me,ht,ByteArray.append_assoc]
   rfl
  rw [Ajl]
  simp only [Option.bind_some,O.Ak,An,hi,decide_true,O.Ab,if_true,O.Aj,Int.natCast_nonneg,Int.toNat_natCast,List.getElem?_map,List.getElem?_eq_getElem hi,Option.map_some,Stp.Bv,Stp.C9,Stp.D7,Stp.Cq,O.eq_int,O.B4]
  rw [show (ByteArray.mk #[91])=bsL [91] from rfl,show (ByteArray.mk #[93])=bsL [93] from rfl,show (ByteArray.mk #[61])=bsL [61] from rfl,show (IV.int 46)=IV.int ((46:UInt8).toNat :Int) from rfl]
  rcases g5 with k1 | k2 | k3
  ·simp only [k1,decide_true,if_true]
   by_cases hz:i=0
   ·have hz': ¬ (0:Int)<i:=by omega
    obtain ⟨m,hr⟩:=Ry o p[i].nm (by omega) (by omega)
    simp only [hz',decide_false,Bool.false_eq_true,if_false]
    rw [Aij]
    simp only [Stp.C9,Option.bind_some,hr,O.Ds]
    exact next _ (by unfold M8;rw [if_neg (by omega),if_neg (by omega),if_pos (by simpa using hz)])
   ·have hz':(0:Int)<i:=by omega
    obtain ⟨m,hr⟩:=Ry (o++bsL [46]) p[i].nm (by rw [ByteArray.size_append,e];omega) (by omega)
    simp only [hz',decide_true,if_true,Q3 o 46 (by omega),O.Ah]
    rw [Aij]
    simp only [Stp.C9,Option.bind_some,hr,O.Ds,ByteArray.append_assoc]
    exact next _ (by unfold M8;rw [if_neg (by omega),if_neg (by omega),if_neg (by simpa using hz)])
  ·obtain ⟨x,hx⟩:=Int.eq_ofNat_of_zero_le (g3 k2).1
   have hx2:=(g3 k2).2
   rw [hx] at hx2
   have hd:W F61 0 [.int p[i].ix]=some [.str (O.Qk p[i].ix.toNat)]:=by
    rw [Ax0,hx,O.Aob x (by omega)];rfl
   have hd2:=Pl p[i].ix.toNat
   have k1:decide (p[i].k =1)=false:=by rw [k2];rfl
   simp only [k1,k2,decide_true,Bool.false_eq_true,if_false,if_true,hd,O.Ah]
   rw [Er (by rw [e];omega) (by omega)]
   simp only [Option.bind_some]
   rw [Er (by rw [ByteArray.size_append,e];omega) (by rw [e];omega)]
   obtain ⟨m,hr⟩:=Ry o (bsL [91]++O.Qk p[i].ix.toNat ++bsL [93]) (by omega) (by rw [ByteArray.size_append,ByteArray.size_append,e,e];omega)
   simp only [Option.bind_some,hr,O.Ds]
   exact next _ (by unfold M8;rw [if_pos k2])
  ·have hd:=Anz p[i].vl (g4 k3)
   have hd2:=Mj p[i].vl
   have k1:decide (p[i].k =1)=false:=by rw [k3];rfl
   have k2:decide (p[i].k =2)=false:=by rw [k3];rfl
   simp only [k1,k2,k3,decide_true,Bool.false_eq_true,if_false,if_true]
   rw [Er (by rw [e];omega) (by omega)]
   simp only [Option.bind_some]
   rw [Er (by rw [ByteArray.size_append,e];omega) (by rw [e];omega)]
   simp only [Option.bind_some,hd,O.Ah]
   rw [Er (by rw [ByteArray.size_append,ByteArray.size_append,e,e];omega) (by omega)]
   simp only [Option.bind_some]
   rw [Er (by rw [ByteArray.size_append,ByteArray.size_append,ByteArray.size_append,e,e];omega) (by rw [e];omega)]
   obtain ⟨m,hr⟩:=Ry o (bsL [91]++p[i].nm ++bsL [61]++Uu p[i].vl ++bsL [93]) (by omega) (by simp only [ByteArray.size_append,e];omega)
   simp only [Option.bind_some,hr,O.Ds]
   exact next _ (by unfold M8;rw [if_neg (by omega),if_pos k3])
theorem Xg (p:List Stp) (hp: ∀s∈p,s.fits) (hl:p.length≤1099511627776):W F51 0 [.list (p.map Stp.enc)]=some [.str (Hs p),.int (Afd p)]:=by
 rw [Ave]
 unfold Hs Afd
 cases hb:N4 p with
 | false=>simp only [Ad2 p hp hl,hb,O.Ah,O.A3,Option.bind_some,Bool.not_false,O.Ab,if_true];rfl
 | true=>
  simp only [Ad2 p hp hl,hb,O.Ah,O.A3,Option.bind_some,Bool.not_true,O.Ab,Bool.false_eq_true,if_false,if_true,O.Ao,List.length_map]
  unfold N4 at hb
  simp only [Bool.and_eq_true,decide_eq_true_eq,List.all_eq_true] at hb
  have:=U3 p hb.1 hb.2 p.length 0 Ar (by omega) (Nat.le_refl _)
  rw [Hz] at this
  exact this
end Go.CT.Sch
namespace Go.CT.Sch
open Go.Proofs
def Bf:Val:=⟨0,0,Ar,[],[]⟩
def Ky (o:Option Val):List IV:= [.int (o.getD Bf).k,.int (o.getD Bf).n,.str (o.getD Bf).s,.list ((o.getD Bf).l.map Val.enc),.list ((o.getD Bf).f.map Fld.enc),.bool o.isSome]
theorem Aa0 {n b:Nat} (hn:n≤1099511627776) (hb:b≤127):n * b≤Ax:=by
 have:n * b≤1099511627776 * 127:=Nat.mul_le_mul hn hb
 unfold Ax;omega
theorem Xc {α:Type} (l:List α) {i:Nat} (h:i<l.length):l.take i++ [l[i]]=l.take (i+1):=by
 rw [List.take_add_one,List.getElem?_eq_getElem h];rfl
theorem Su (v:Val) (hv:Hg 1099511627776 v) (y2 y3 y4 y5 y6 y7 y8:IV) (ih: ∀p∈v.f,W F9 0 [p.2.enc]=some p.2.Hl): ∀ (n i:Nat),i+n=v.f.length→
  W F9 2 [.int i,v.enc,y2,y3,y4,y5,y6,y7,y8,.list ((v.f.take i).map Fld.enc)]=some [y5,y6,y7,y8,.list (v.f.map Fld.enc)]
 | 0,i,h=>by
  rw [Ap1]
  have h1: ¬ i<v.f.length:=by omega
  simp only [Val.Da,Option.bind_some,O.Ao,List.length_map,O.Ak,An,h1,decide_false,O.Ab,Bool.false_eq_true,if_false,List.take_of_length_le (Nat.le_of_not_lt h1)]
 | n+1,i,h=>by
  have hi:i<v.f.length:=by omega
  have hm:=hv.O8
  have hw:=Bg (i:=i) (by omega)
  have:=Su v hv y2 y3 y4 y5 y6 y7 y8 ih n (i+1) (by omega)
  have hap:((v.f.take i).length +1) * 96≤Ax:=Aa0 (by rw [List.length_take];omega) (by omega)
  rw [Ap1]
  simp only [Val.Da,Option.bind_some,O.Ao,List.length_map,O.Ak,An,hi,decide_true,O.Ab,if_true,O.Aj,Int.natCast_nonneg,Int.toNat_natCast,List.getElem?_map,List.getElem?_eq_getElem hi,Option.map_some,Fld.Bv,Fld.Mt,ih _ (List.getElem_mem hi),Val.Ck,O.E3,O.Ci,Fld.Hw,O.Cb,O.Bl,List.length_singleton,hap,O.Aq,hw]
  rw [←Xc v.f hi,List.map_append] at this
  exact this
theorem Sm (v:Val) (hv:Hg 1099511627776 v) (y2 y3 y4 y5 y6 y7:IV) (ih: ∀x∈v.l,W F9 0 [x.enc]=some x.Hl): ∀ (n i:Nat),i+n=v.l.length→
  W F9 1 [.int i,v.enc,y2,y3,y4,y5,y6,y7,.list ((v.l.take i).map Val.enc)]=W F9 2 [.int 0,v.enc,y2,y3,y4,y5,y6,y7,.list (v.l.map Val.enc),.list []]
 | 0,i,h=>by
  rw [Apv]
  have h1: ¬ i<v.l.length:=by omega
  simp only [Val.Cq,Option.bind_some,O.Ao,List.length_map,O.Ak,An,h1,decide_false,O.Ab,Bool.false_eq_true,if_false,List.take_of_length_le (Nat.le_of_not_lt h1)]
 | n+1,i,h=>by
  have hi:i<v.l.length:=by omega
  have hm:=hv.Aak
  have hw:=Bg (i:=i) (by omega)
  have:=Sm v hv y2 y3 y4 y5 y6 y7 ih n (i+1) (by omega)
  have hap:((v.l.take i).length +1) * 80≤Ax:=Aa0 (by rw [List.length_take];omega) (by omega)
  rw [Apv]
  simp only [Val.Cq,Option.bind_some,O.Ao,List.length_map,O.Ak,An,hi,decide_true,O.Ab,if_true,O.Aj,Int.natCast_nonneg,Int.toNat_natCast,List.getElem?_map,List.getElem?_eq_getElem hi,Option.map_some,ih _ (List.getElem_mem hi),Val.Ck,O.E3,O.Ci,Val.Hw,O.Cb,O.Bl,List.length_singleton,hap,O.Aq,hw]
  rw [←Xc v.l hi,List.map_append] at this
  exact this
theorem Alo: ∀v:Val,Hg 1099511627776 v→W F9 0 [v.enc]=some v.Hl:=by
 refine Val.ind fun v ih1 ih2 hv=>?_
 have h1:=Sm v hv (.int 0) (.int 0) (.str ⟨#[]⟩) (.int v.k) (.int v.n) (.str v.s) (fun x hx=>ih1 x hx (hv.Ag1 hx)) v.l.length 0 (by omega)
 have h2:=Su v hv (.int 0) (.int 0) (.str ⟨#[]⟩) (.int v.k) (.int v.n) (.str v.s) (.list (v.l.map Val.enc)) (fun p hp=>ih2 p hp (hv.R1 hp)) v.f.length 0 (by omega)
 simp only [List.take_zero,List.map_nil,Int.cast_ofNat_Int] at h1 h2
 rw [Av4]
 simp only [Val.Bv,Val.C9,Val.D7,Option.bind_some]
 rw [h1,h2,Val.Ck]
theorem Uh (v:Val) (nm:ByteArray) (hv:Hg 1099511627776 v) (y3 y4 y5:IV): ∀ (n i:Nat),i+n=v.f.length→
  W Aoh 1 [.str nm,.int i,v.enc,y3,y4,y5]=some (Ky (((v.f.drop i).find? fun p=>decide (p.1=nm)).map (·.2)))
 | 0,i,h=>by
  rw [Ae3]
  have h1: ¬ i<v.f.length:=by omega
  simp [h1,List.drop_of_length_le (Nat.le_of_not_lt h1),Ky,Bf,Ar]
 | n+1,i,h=>by
  have hi:i<v.f.length:=by omega
  have hm:=hv.O8
  have hw:=Bg (i:=i) (by omega)
  have:=Uh v nm hv y3 y4 y5 n (i+1) (by omega)
  have hmem:=List.getElem_mem hi
  rw [Ae3,List.drop_eq_getElem_cons hi]
  simp only [Val.Da,Option.bind_some,O.Ao,List.length_map,O.Ak,An,hi,decide_true,O.Ab,if_true,O.Aj,Int.natCast_nonneg,Int.toNat_natCast,List.getElem?_map,List.getElem?_eq_getElem hi,Option.map_some,Fld.Bv,Fld.Mt,O.Gf,Alo v.f[i].2 (hv.R1 hmem),Val.Ck,O.E3,O.Aq,hw,this,List.find?_cons]
  by_cases c:v.f[i].1 =nm
  ·simp [c,Ky]
  ·have c':decide (v.f[i].1 =nm)=false:=by simpa using c
   simp only [c,c',decide_false,Bool.false_eq_true,if_false]
theorem Anp (v:Val) (nm:ByteArray) (hv:Hg 1099511627776 v):W Aoh 0 [v.enc,.str nm]=some (Ky (v.get nm)):=by
 rw [Aoe]
 unfold Val.get
 have:=Uh v nm hv (.int 0) (.int 0) (.str ⟨#[]⟩) v.f.length 0 (by omega)
 simp only [List.drop_zero,Int.cast_ofNat_Int] at this
 simp only [Val.Bv,Option.bind_some,O.eq_int,O.Ab,this]
 by_cases c:v.k=5<;>simp [c,Ky,Bf,Ar]
def D6 (v:Val) (nm:ByteArray):List (ByteArray × Val):=if v.k=5 then v.f.filter (fun p=> !decide (p.1=nm)) else []
def Oz (p:ByteArray × Val):Bool→List (ByteArray × Val)→List (ByteArray × Val)
 | done,[]=>if done then [] else [p]
 | done,x::xs=>(if !done && !blt x.1 p.1 then [p] else [])++(if x.1=p.1 then [] else [x])++Oz p (done|| !blt x.1 p.1) xs
theorem Xi (p:ByteArray × Val): ∀ (l:List (ByteArray × Val)) (d:Bool),(Oz p d l).length ≤l.length+1
 | [],d=>by cases d<;>simp [Oz]
 | x::xs,true=>by
  simp only [Oz,Bool.not_true,Bool.false_and,Bool.false_eq_true,if_false,List.nil_append,Bool.true_or,List.length_append]
  have:(Oz p true xs).length ≤xs.length:=by
   have key: ∀l,(Oz p true l).length ≤l.length:=by
    intro l
    induction l with
    | nil=>simp [Oz]
    | cons y ys ih=>
     simp only [Oz,Bool.not_true,Bool.false_and,Bool.false_eq_true,if_false,List.nil_append,Bool.true_or,List.length_append,List.length_cons]
     split<;>simp<;>omega
   exact key xs
  split<;>simp<;>omega
 | x::xs,false=>by
  have h1:=Xi p xs true
  have h2:=Xi p xs false
  have key: ∀l,(Oz p true l).length ≤l.length:=by
   intro l
   induction l with
   | nil=>simp [Oz]
   | cons y ys ih=>
    simp only [Oz,Bool.not_true,Bool.false_and,Bool.false_eq_true,if_false,List.nil_append,Bool.true_or,List.length_append,List.length_cons]
    split<;>simp<;>omega
  have h3:=key xs
  simp only [Oz,Bool.not_false,Bool.true_and,Bool.false_or,List.length_append,List.length_cons]
  cases blt x.1 p.1<;>simp<;>split<;>simp<;>omega
def T1 (l:List (ByteArray × Val)):List (ByteArray × Val):=l.foldl (fun acc p=>Oz p false acc) []
theorem Jr (q:ByteArray × Val→Bool): ∀l:List (ByteArray × Val),Cn (l.filter q)≤Cn l
 | []=>by simp
 | p::l=>by
  have:=Jr q l
  rw [List.filter_cons]
  split
  ·rw [Bw,Bw];omega
  ·rw [Bw];omega
def Ep (v:Val) (nm:ByteArray) (x:Val):Val:=⟨5,0,Ar,[],T1 (D6 v nm++ [(nm,x)])⟩
theorem Tf {N:Nat} {v:Val} (h:Hg N v) (nm:ByteArray):Ags N (D6 v nm):=by
 unfold D6
 split
 ·exact ⟨Nat.le_trans (List.length_filter_le _ _) h.O8,fun p hp=>h.R1 (List.mem_filter.1 hp).1⟩
 ·exact ⟨Nat.zero_le _,by simp⟩
theorem Ahv (v:Val) (nm:ByteArray) (hv:v.Ay≤1099511627776):W Aoh 0 [v.enc,.str nm]=some (Ky (v.get nm)):=Anp v nm (Hf v (by omega))
end Go.CT.Sch
namespace Go.CT.Sch
open Go.Proofs
theorem Ug (v:Val) (hv:v.Ay≤1099511627776) (ih: ∀p∈v.f,W V0 0 [p.2.enc]=some [.int p.2.size]): ∀ (n i c:Nat),i+n=v.f.length→c≤1099511627776→
  W V0 2 [.int c,.int i,v.enc]=some [.int ((c+Bh (v.f.drop i):Nat):Int)]
 | 0,i,c,h,hc=>by
  rw [Qu]
  have h1: ¬ i<v.f.length:=by omega
  simp [h1,List.drop_of_length_le (Nat.le_of_not_lt h1),Bh]
 | n+1,i,c,h,hc=>by
  have hi:i<v.f.length:=by omega
  have hm:=v.Bc
  have hw:=Bg (i:=i) (by omega)
  have hs:=O5 (List.getElem_mem hi)
  have hsz:=v.Ey
  rw [v.size_eq] at hsz
  have hd:Bh (v.f.drop i)=v.f[i].2.size +Bh (v.f.drop (i+1)):=by rw [List.drop_eq_getElem_cons hi];rfl
  have hw2:IntKind.i64.wrap ((c:Int)+(v.f[i].2.size :Nat))=((c+v.f[i].2.size :Nat):Int):=by rw [wrap64 (by omega) (by omega)];rfl
  rw [Qu]
  simp only [Val.Da,Option.bind_some,O.Ao,List.length_map,O.Ak,An,hi,decide_true,O.Ab,if_true,O.Aj,Int.natCast_nonneg,Int.toNat_natCast,List.getElem?_map,List.getElem?_eq_getElem hi,Option.map_some,Fld.Mt,ih _ (List.getElem_mem hi),O.Ah,O.Aq,hw,hw2]
  by_cases hc2:c+v.f[i].2.size ≤1099511627776
  ·rw [Ug v hv ih n (i+1) _ (by omega) hc2,hd,Nat.add_assoc]
  ·-- larger sums: only the bound differs
   have key: ∀ (n i c:Nat),i+n=v.f.length→c+Bh (v.f.drop i)≤4611686018427387904→W V0 2 [.int c,.int i,v.enc]=some [.int ((c+Bh (v.f.drop i):Nat):Int)]:=by
    intro n
    induction n with
    | zero=>
     intro i c h _
     rw [Qu]
     have h1: ¬ i<v.f.length:=by omega
     simp [h1,List.drop_of_length_le (Nat.le_of_not_lt h1),Bh]
    | succ n ihn=>
     intro i c h hc
     have hi:i<v.f.length:=by omega
     have hw:=Bg (i:=i) (by omega)
     have hd:Bh (v.f.drop i)=v.f[i].2.size +Bh (v.f.drop (i+1)):=by rw [List.drop_eq_getElem_cons hi];rfl
     have hw2:IntKind.i64.wrap ((c:Int)+(v.f[i].2.size :Nat))=((c+v.f[i].2.size :Nat):Int):=by rw [wrap64 (by omega) (by omega)];rfl
     rw [Qu]
     simp only [Val.Da,Option.bind_some,O.Ao,List.length_map,O.Ak,An,hi,decide_true,O.Ab,if_true,O.Aj,Int.natCast_nonneg,Int.toNat_natCast,List.getElem?_map,List.getElem?_eq_getElem hi,Option.map_some,Fld.Mt,ih _ (List.getElem_mem hi),O.Ah,O.Aq,hw,hw2]
     rw [ihn (i+1) _ (by omega) (by omega),hd,Nat.add_assoc]
   have hsub:Bh (v.f.drop (i+1))≤Bh v.f:=by
    have:=List.take_append_drop (i+1) v.f
    have h2:=Ns (v.f.take (i+1)) (v.f.drop (i+1))
    rw [this] at h2;omega
   rw [key n (i+1) _ (by omega) (by omega),hd,Nat.add_assoc]
theorem Uv (v:Val) (hv:v.Ay≤1099511627776) (ih: ∀x∈v.l,W V0 0 [x.enc]=some [.int x.size]): ∀ (n i c:Nat),i+n=v.l.length→c+B8 (v.l.drop i)≤4611686018427387904→
  W V0 1 [.int c,.int i,v.enc]=W V0 2 [.int ((c+B8 (v.l.drop i):Nat):Int),.int 0,v.enc]
 | 0,i,c,h,hc=>by
  rw [Aft]
  have h1: ¬ i<v.l.length:=by omega
  simp [h1,List.drop_of_length_le (Nat.le_of_not_lt h1),B8]
 | n+1,i,c,h,hc=>by
  have hi:i<v.l.length:=by omega
  have hm:=v.Du
  have hw:=Bg (i:=i) (by omega)
  have hd:B8 (v.l.drop i)=v.l[i].size +B8 (v.l.drop (i+1)):=by rw [List.drop_eq_getElem_cons hi];rfl
  have hw2:IntKind.i64.wrap ((c:Int)+(v.l[i].size :Nat))=((c+v.l[i].size :Nat):Int):=by rw [wrap64 (by omega) (by omega)];rfl
  rw [Aft]
  simp only [Val.Cq,Option.bind_some,O.Ao,List.length_map,O.Ak,An,hi,decide_true,O.Ab,if_true,O.Aj,Int.natCast_nonneg,Int.toNat_natCast,List.getElem?_map,List.getElem?_eq_getElem hi,Option.map_some,ih _ (List.getElem_mem hi),O.Ah,O.Aq,hw,hw2]
  rw [Uv v hv ih n (i+1) _ (by omega) (by omega),hd,Nat.add_assoc]
theorem Ao3: ∀v:Val,v.Ay≤1099511627776→W V0 0 [v.enc]=some [.int v.size]:=by
 refine Val.ind fun v ih1 ih2 hv=>?_
 have hsz:=v.Ey
 have hs:=v.size_eq
 have h1:=Uv v hv (fun x hx=>ih1 x hx (by have:=Val.Kf hx;omega)) v.l.length 0 1 (by omega) (by simp only [List.drop_zero];omega)
 have h2:=Ug v hv (fun p hp=>ih2 p hp (by have:=Val.Dz hp;omega)) v.f.length 0 (1+B8 v.l) (by omega) (by omega)
 simp only [List.drop_zero,Int.cast_ofNat_Int] at h1 h2
 rw [An2]
 have h1':W V0 1 [.int 1,.int 0,v.enc]=W V0 2 [.int ((1+B8 v.l:Nat):Int),.int 0,v.enc]:=h1
 rw [h1',h2,hs]
theorem X6 (v:Val) (hv:v.Ay≤1099511627776):W Axb 0 [v.enc]=some [.bool v.valid]:=by
 rw [Aov]
 have h1:=R7 12 v (by omega) hv
 have h2:=Ao3 v hv
 simp only [Int.cast_ofNat_Int] at h1
 simp only [h1,h2,O.Ah,O.Ab,O.Dt,Option.bind_some,Val.valid]
 have:decide ((v.size:Int)≤600)=decide (v.size≤600):=by simp;omega
 cases Bn 12 v<;>simp [this]
theorem Rl (v:Val) (hv:v.Ay≤1099511627776) (ih: ∀p∈v.f,∀c d:Int,c≤100000→ -1099511627776≤d→d≤100000→ ∃r:Int,W F4 0 [p.2.enc,.int c,.int d]=some [.int r]∧r≤100000) (d:Int) (hd: -1000000000000≤d∧d≤100000): ∀ (n i:Nat) (c:Int),i+n=v.f.length→c≤100000→
  ∃r:Int,W F4 2 [.int c,.int d,.int i,v.enc]=some [.int r]∧r≤100000
 | 0,i,c,h,hc=>by
  rw [Aqg]
  have h1: ¬ i<v.f.length:=by omega
  exact ⟨c,by simp [h1],hc⟩
 | n+1,i,c,h,hc=>by
  have hi:i<v.f.length:=by omega
  have hm:=v.Bc
  have hw:=Bg (i:=i) (by omega)
  have hw2:IntKind.i64.wrap (d - 1)=d - 1:=wrap64 (by omega) (by omega)
  obtain ⟨r,hr,hr2⟩:=ih _ (List.getElem_mem hi) c (d - 1) hc (by omega) (by omega)
  obtain ⟨r',hr',hr2'⟩:=Rl v hv ih d hd n (i+1) r (by omega) hr2
  rw [Aqg]
  by_cases c1:0≤c
  ·by_cases c2:(1000:Int)<v.f[i].1.size
   ·exact ⟨-1,by simp [hi,c1,c2],by omega⟩
   ·exact ⟨r',by simp only [Val.Da,Option.bind_some,O.Ao,List.length_map,O.Ak,An,hi,decide_true,O.Ab,if_true,O.Gr,c1,O.Aj,Int.natCast_nonneg,Int.toNat_natCast,List.getElem?_map,List.getElem?_eq_getElem hi,Option.map_some,Fld.Bv,O.Co,O.B4,c2,decide_false,Bool.false_eq_true,if_false,Fld.Mt,O.B7,hw2,hr,O.Ah,O.Aq,hw,hr'],hr2'⟩
  ·exact ⟨c,by simp [hi,c1],hc⟩
theorem Rw (v:Val) (hv:v.Ay≤1099511627776) (ih: ∀x∈v.l,∀c d:Int,c≤100000→ -1099511627776≤d→d≤100000→ ∃r:Int,W F4 0 [x.enc,.int c,.int d]=some [.int r]∧r≤100000) (d:Int) (hd: -1000000000000≤d∧d≤100000): ∀ (n i:Nat) (c:Int),i+n=v.l.length→c≤100000→
  ∃r:Int,W F4 1 [.int c,.int d,.int i,v.enc]=W F4 2 [.int r,.int d,.int 0,v.enc]∧r≤100000
 | 0,i,c,h,hc=>by
  rw [Aqu]
  have h1: ¬ i<v.l.length:=by omega
  exact ⟨c,by simp [h1],hc⟩
 | n+1,i,c,h,hc=>by
  have hi:i<v.l.length:=by omega
  have hm:=v.Du
  have hw:=Bg (i:=i) (by omega)
  have hw2:IntKind.i64.wrap (d - 1)=d - 1:=wrap64 (by omega) (by omega)
  obtain ⟨r,hr,hr2⟩:=ih _ (List.getElem_mem hi) c (d - 1) hc (by omega) (by omega)
  obtain ⟨r',hr',hr2'⟩:=Rw v hv ih d hd n (i+1) r (by omega) hr2
  rw [Aqu]
  by_cases c1:0≤c
  ·exact ⟨r',by simp only [Val.Cq,Option.bind_some,O.Ao,List.length_map,O.Ak,An,hi,decide_true,O.Ab,if_true,O.Gr,c1,O.Aj,Int.natCast_nonneg,Int.toNat_natCast,List.getElem?_map,List.getElem?_eq_getElem hi,Option.map_some,O.B7,hw2,hr,O.Ah,O.Aq,hw,hr'],hr2'⟩
  ·exact ⟨c,by simp [hi,c1],hc⟩
theorem Amb: ∀v:Val,v.Ay≤1099511627776→ ∀c d:Int,c≤100000→ -1099511627776≤d→d≤100000→ ∃r:Int,W F4 0 [v.enc,.int c,.int d]=some [.int r]∧r≤100000:=by
 refine Val.ind fun v ih1 ih2 hv c d hc hd hd2=>?_
 rw [Avz]
 by_cases c1:c≤0
 ·exact ⟨-1,by simp [c1],by omega⟩
 ·by_cases c2:d≤0
  ·exact ⟨-1,by simp [c1,c2],by omega⟩
  ·by_cases c3:(1000:Int)<v.s.size
   ·exact ⟨-1,by simp [c1,c2,c3],by omega⟩
   ·have hw:IntKind.i64.wrap (c - 1)=c - 1:=wrap64 (by omega) (by omega)
    obtain ⟨r,h1,h2⟩:=Rw v hv (fun x hx=>ih1 x hx (by have:=Val.Kf hx;omega)) d (by omega) v.l.length 0 (c - 1) (by omega) (by omega)
    obtain ⟨r',h1',h2'⟩:=Rl v hv (fun p hp=>ih2 p hp (by have:=Val.Dz hp;omega)) d (by omega) v.f.length 0 r (by omega) h2
    simp only [Int.cast_ofNat_Int] at h1 h1'
    exact ⟨r',by simp [c1,c2,c3,hw,h1,h1'],h2'⟩
theorem H2 (a b:Bool):W Aqk 0 [.bool a,.bool b]=some [.int (if a then -1 else if b then 1 else 0)]:=by
 rw [Ank];cases a<;>cases b<;>rfl
theorem Ahr (a b:Int):(if decide (a<b)=true then (-1:Int) else if decide (b<a)=true then 1 else 0)=0↔a=b:=by
 by_cases h1:a<b
 ·simp [h1];omega
 ·by_cases h2:b<a
  ·simp [h1,h2];omega
  ·simp [h1,h2];omega
theorem Ak6 (a b:ByteArray):(if blt a b=true then (-1:Int) else if blt b a=true then 1 else 0)=0↔a=b:=by
 rcases I6 a b with h | rfl | h
 ·simp [h];exact Qa h
 ·simp [Di]
 ·have:=Oi h
  simp [h,this]
  exact fun e=>Qa h e.symm
theorem As7 (a b:Val) (ha:Hg 1099511627776 a) (hb:Hg 1099511627776 b) (ih: ∀p∈a.f,∀y:Val,Hg 1099511627776 y→ ∃c:Int,W Nj 0 [p.2.enc,y.enc]=some [.int c]∧(c=0↔p.2=y)): ∀ (n i:Nat) (c:Int),i+n=a.f.length→i≤b.f.length→
  ∃c':Int,W Nj 5 [.int c,.int i,a.enc,b.enc]=some [.int c']∧(c'=0↔c=0∧a.f.drop i=b.f.drop i)
 | n,i,c,h,hib=>by
  have hma:=ha.O8
  have hmb:=hb.O8
  rw [Anv]
  by_cases hc:c=0
  ·subst hc
   by_cases h1:i<a.f.length
   ·by_cases h2:i<b.f.length
    ·obtain ⟨m,rfl⟩: ∃m,n=m+1:=⟨n - 1,by omega⟩
     have hw:=Bg (i:=i) (by omega)
     have hmem:=List.getElem_mem h2
     obtain ⟨c1,q1,q2⟩:=ih _ (List.getElem_mem h1) b.f[i].2 (hb.R1 hmem)
     have hn:=Ak6 a.f[i].1 b.f[i].1
     have hd:(a.f.drop i=b.f.drop i)↔(a.f[i].1 =b.f[i].1 ∧a.f[i].2 =b.f[i].2 ∧a.f.drop (i+1)=b.f.drop (i+1)):=by
      rw [List.drop_eq_getElem_cons h1,List.drop_eq_getElem_cons h2]
      simp only [List.cons.injEq,Prod.ext_iff,and_assoc]
     simp only [Val.Da,Option.bind_some,O.Ao,List.length_map,O.Ak,An,h1,h2,decide_true,O.Ab,if_true,O.eq_int,O.Aj,Int.natCast_nonneg,Int.toNat_natCast,List.getElem?_map,List.getElem?_eq_getElem h1,List.getElem?_eq_getElem h2,Option.map_some,Fld.Bv,Fld.Mt,Aja,Ai2,H2,O.Ah,hd]
     generalize (if blt a.f[i].1 b.f[i].1 =true then (-1:Int) else if blt b.f[i].1 a.f[i].1 =true then 1 else 0)=o at hn
     by_cases ho:o=0
     ·obtain ⟨c',r1,r2⟩:=As7 a b ha hb ih m (i+1) c1 (by omega) (by omega)
      refine ⟨c',by simp only [ho,decide_true,if_true,q1,O.Ah,Afz,O.Aq,hw,Option.bind_some,r1],?_⟩
      rw [r2,q2]
      have:=hn.1 ho
      simp [this]
     ·obtain ⟨c',r1,r2⟩:=As7 a b ha hb ih m (i+1) o (by omega) (by omega)
      refine ⟨c',by simp only [ho,decide_false,Bool.false_eq_true,if_false,Afz,O.Aq,hw,Option.bind_some,r1],?_⟩
      rw [r2]
      have: ¬ a.f[i].1 =b.f[i].1 :=fun e=>ho (hn.2 e)
      simp [ho,this]
    ·have hi:i=b.f.length:=by omega
     have hne: ¬ a.f.length=b.f.length:=by omega
     refine ⟨1,?_,by
      have: ¬ a.f.drop i=b.f.drop i:=fun e=>by
       have:=congrArg List.length e
       simp at this;omega
      simp [this]⟩
     have g1: ¬ (a.f.length:Int)<b.f.length:=by omega
     have g2:(b.f.length:Int)<a.f.length:=by omega
     simp [h1,h2,g1,g2,H2]
   ·have hi:i=a.f.length:=by omega
    refine ⟨_,by simp only [Val.Da,Option.bind_some,O.Ao,List.length_map,O.Ak,An,h1,decide_false,O.Ab,Bool.false_eq_true,if_false,O.eq_int,decide_true,if_true,H2,O.Ah,O.B4];rfl,?_⟩
    have e1:a.f.drop i= []:=List.drop_of_length_le (by omega)
    rw [e1]
    by_cases g:a.f.length=b.f.length
    ·have:b.f.drop i= []:=List.drop_of_length_le (by omega)
     simp [g,this]
    ·have g2:a.f.length<b.f.length:=by omega
     have: ¬ []=b.f.drop i:=fun e=>by
      have:=congrArg List.length e
      simp at this;omega
     simp [g2,this]
  ·refine ⟨c,?_,by simp [hc]⟩
   by_cases h1:i<a.f.length<;>by_cases h2:i<b.f.length<;>simp [h1,h2,hc]
theorem Awd (a b:Val) (ha:Hg 1099511627776 a) (hb:Hg 1099511627776 b) (ih: ∀x∈a.l,∀y:Val,Hg 1099511627776 y→ ∃c:Int,W Nj 0 [x.enc,y.enc]=some [.int c]∧(c=0↔x=y)): ∀ (n i:Nat) (c:Int),i+n=a.l.length→i≤b.l.length→
  ∃c':Int,W Nj 3 [.int c,.int i,a.enc,b.enc]=W Nj 4 [.int c',a.enc,b.enc]∧(c'=0↔c=0∧a.l.drop i=b.l.drop i)
 | n,i,c,h,hib=>by
  have hma:=ha.Aak
  have hmb:=hb.Aak
  rw [Apt]
  by_cases hc:c=0
  ·subst hc
   by_cases h1:i<a.l.length
   ·by_cases h2:i<b.l.length
    ·obtain ⟨m,rfl⟩: ∃m,n=m+1:=⟨n - 1,by omega⟩
     have hw:=Bg (i:=i) (by omega)
     obtain ⟨c1,q1,q2⟩:=ih _ (List.getElem_mem h1) b.l[i] (hb.Ag1 (List.getElem_mem h2))
     have hd:(a.l.drop i=b.l.drop i)↔(a.l[i]=b.l[i]∧a.l.drop (i+1)=b.l.drop (i+1)):=by
      rw [List.drop_eq_getElem_cons h1,List.drop_eq_getElem_cons h2]
      simp only [List.cons.injEq]
     obtain ⟨c',r1,r2⟩:=Awd a b ha hb ih m (i+1) c1 (by omega) (by omega)
     refine ⟨c',by simp only [Val.Cq,Option.bind_some,O.Ao,List.length_map,O.Ak,An,h1,h2,decide_true,O.Ab,if_true,O.eq_int,O.Aj,Int.natCast_nonneg,Int.toNat_natCast,List.getElem?_map,List.getElem?_eq_getElem h1,List.getElem?_eq_getElem h2,Option.map_some,q1,O.Ah,O.Aq,hw,r1],?_⟩
     rw [r2,q2,hd];simp
    ·refine ⟨1,?_,by
      have: ¬ a.l.drop i=b.l.drop i:=fun e=>by
       have:=congrArg List.length e
       simp at this;omega
      simp [this]⟩
     have g1: ¬ (a.l.length:Int)<b.l.length:=by omega
     have g2:(b.l.length:Int)<a.l.length:=by omega
     simp [h1,h2,g1,g2,H2]
   ·have hi:i=a.l.length:=by omega
    refine ⟨_,by simp only [Val.Cq,Option.bind_some,O.Ao,List.length_map,O.Ak,An,h1,decide_false,O.Ab,Bool.false_eq_true,if_false,O.eq_int,decide_true,if_true,H2,O.Ah,O.B4];rfl,?_⟩
    have e1:a.l.drop i= []:=List.drop_of_length_le (by omega)
    rw [e1]
    by_cases g:a.l.length=b.l.length
    ·have:b.l.drop i= []:=List.drop_of_length_le (by omega)
     simp [g,this]
    ·have g2:a.l.length<b.l.length:=by omega
     have: ¬ []=b.l.drop i:=fun e=>by
      have:=congrArg List.length e
      simp at this;omega
     simp [g2,this]
  ·refine ⟨c,?_,by simp [hc]⟩
   by_cases h1:i<a.l.length<;>by_cases h2:i<b.l.length<;>simp [h1,h2,hc]
theorem Anm: ∀a:Val,Hg 1099511627776 a→ ∀b:Val,Hg 1099511627776 b→ ∃c:Int,W Nj 0 [a.enc,b.enc]=some [.int c]∧(c=0↔a=b):=by
 refine Val.ind fun a ih1 ih2 ha b hb=>?_
 have h3:=fun c=>Awd a b ha hb (fun x hx=>ih1 x hx (ha.Ag1 hx)) a.l.length 0 c (by omega) (Nat.zero_le _)
 have h5:=fun c=>As7 a b ha hb (fun p hp=>ih2 p hp (ha.R1 hp)) a.f.length 0 c (by omega) (Nat.zero_le _)
 simp only [List.drop_zero,Int.cast_ofNat_Int] at h3 h5
 have hab:a=b↔a.k=b.k∧a.n=b.n∧a.s=b.s∧a.l=b.l∧a.f=b.f:=by
  cases a;cases b;simp
 -- from the lists on
 have rest: ∀c:Int,∃c':Int,W Nj 2 [.int c,a.enc,b.enc]=some [.int c']∧(c'=0↔c=0∧a.l=b.l∧a.f=b.f):=by
  intro c
  obtain ⟨c1,q1,q2⟩:=h3 c
  obtain ⟨c2,r1,r2⟩:=h5 c1
  refine ⟨c2,by rw [Aox,q1,Ao1,r1],by rw [r2,q2,and_assoc]⟩
 have text: ∀c:Int,∃c':Int,W Nj 1 [.int c,a.enc,b.enc]=some [.int c']∧(c'=0↔c=0∧a.s=b.s∧a.l=b.l∧a.f=b.f):=by
  intro c
  rw [Aps]
  by_cases hc:c=0
  ·have hs:=Ak6 a.s b.s
   obtain ⟨c',q1,q2⟩:=rest (if blt a.s b.s=true then (-1:Int) else if blt b.s a.s=true then 1 else 0)
   refine ⟨c',by simp only [O.eq_int,hc,decide_true,Option.bind_some,O.Ab,if_true,Val.D7,Aja,Ai2,H2,O.Ah,q1],?_⟩
   rw [q2,hs];simp [hc]
  ·obtain ⟨c',q1,q2⟩:=rest c
   refine ⟨c',by simp only [O.eq_int,hc,decide_false,Option.bind_some,O.Ab,Bool.false_eq_true,if_false,q1],?_⟩
   rw [q2];simp [hc]
 rw [Ano]
 have hk:=Ahr a.k b.k
 have hn:=Ahr a.n b.n
 simp only [Val.Bv,Val.C9,Option.bind_some,O.Ak,O.B4,H2,O.Ah,O.eq_int,O.Ab]
 generalize (if decide (a.k<b.k)=true then (-1:Int) else if decide (b.k<a.k)=true then 1 else 0)=o at hk
 generalize (if decide (a.n<b.n)=true then (-1:Int) else if decide (b.n<a.n)=true then 1 else 0)=o2 at hn
 by_cases ho:o=0
 ·obtain ⟨c',q1,q2⟩:=text o2
  refine ⟨c',by simp only [ho,decide_true,if_true,q1],?_⟩
  rw [q2,hn,hab]
  have:=hk.1 ho
  simp [this]
 ·obtain ⟨c',q1,q2⟩:=text o
  refine ⟨c',by simp only [ho,decide_false,Bool.false_eq_true,if_false,q1],?_⟩
  rw [q2,hab]
  have: ¬ a.k=b.k:=fun e=>ho (hk.2 e)
  simp [ho,this]
open Classical in
theorem Ahf (a b:Val) (ha:Hg 1099511627776 a) (hb:Hg 1099511627776 b):W Awo 0 [a.enc,b.enc]=some [.bool (decide (a=b))]:=by
 obtain ⟨c,h1,h2⟩:=Anm a ha b hb
 rw [Anq]
 simp only [h1,O.Ah,O.eq_int,Option.bind_some]
 congr 3
 simp only [h2]
open Classical in
theorem Ali (a b:Val) (ha:a.Ay≤1099511627776) (hb:b.Ay≤1099511627776):W Awo 0 [a.enc,b.enc]=some [.bool (decide (a=b))]:=Ahf a b (Hf a (by omega)) (Hf b (by omega))
end Go.CT.Sch
namespace Go.CT.Sch
open Go.Proofs
def Amq (x y:ByteArray × Val):Bool:=blt x.1 y.1
theorem cmpB: ∀ (a b:List UInt8),decide (Lib.compareBytes a b<0)=Op.bytesLess a b
 | [],[]=>rfl
 | [],_::_=>by simp [Lib.compareBytes,Op.bytesLess]
 | _::_,[]=>by simp [Lib.compareBytes,Op.bytesLess]
 | a::x,b::y=>by
  simp only [Lib.compareBytes,Op.bytesLess]
  by_cases h1:a<b
  ·simp [h1]
  ·by_cases h2:b<a
   ·have: ¬ a=b:=fun e=>by subst e;exact h1 h2
    simp [h1,h2,this]
   ·have:a=b:=by
     have h1': ¬ a.toNat<b.toNat:=fun h=>h1 (UInt8.lt_iff_toNat_lt.2 h)
     have h2': ¬ b.toNat<a.toNat:=fun h=>h2 (UInt8.lt_iff_toNat_lt.2 h)
     exact UInt8.toNat_inj.1 (by omega)
    subst this
    simp [h1,cmpB x y]
theorem fcmp (x y:ByteArray × Val): ∃c:Int,W F39 0 [Fld.enc x,Fld.enc y]=some [.int c]∧(decide (c<0)=Amq x y):=by
 refine ⟨Lib.compareBytes x.1.data.toList y.1.data.toList,?_,cmpB _ _⟩
 rw [Asp]
 simp [Ark,Atq,Ax1,O.Of]
theorem ford:Srt.Ord Amq where
 irr x:=Di _
 tr x y z h k:=Ii h k
 neg x y z h:=by
  rcases I6 x.1 y.1 with h1 | h1 | h1
  ·exact .inl h1
  ·right;unfold Amq at h ⊢;rw [←h1];exact h
  ·right;exact Ii h1 h
noncomputable def feqs:Srt.Eqs Fld.enc Amq 6 true where
 S b xs:=W F36 b xs
 B b xs:=W F37 b xs
 I b xs:=W F38 b xs
 M b xs:=W F43 b xs
 R b xs:=W F44 b xs
 X b xs:=W F45 b xs
 C xs:=W F39 0 xs
 cmp:=fcmp
 s0:=by intros;exact Az rfl (by kernel_rfl)
 b0:=by intros;exact Az rfl (by kernel_rfl)
 b1:=by intros;exact Az rfl (by kernel_rfl)
 b2:=by intros;exact Az rfl (by kernel_rfl)
 b3:=by intros;exact Az rfl (by kernel_rfl)
 b4:=by intros;exact Az rfl (by kernel_rfl)
 i0:=by intros;exact Az rfl (by kernel_rfl)
 i1:=by intros;exact Az rfl (by kernel_rfl)
 i2:=by intros;exact Az rfl (by kernel_rfl)
 x0:=by intros;exact Az rfl (by kernel_rfl)
 x1:=by intros;exact Az rfl (by kernel_rfl)
 r0:=by intros;exact Az rfl (by kernel_rfl)
 r1:=by intros;exact Az rfl (by kernel_rfl)
 r2:=by intros;exact Az rfl (by kernel_rfl)
 m0:=by intros;exact Az rfl (by kernel_rfl)
 m1:=by intros;exact Az rfl (by kernel_rfl)
 m2:=by intros;exact Az rfl (by kernel_rfl)
 m3:=by intros;exact Az rfl (by kernel_rfl)
 m4:=by intros;exact Az rfl (by kernel_rfl)
 m5:=by intros;exact Az rfl (by kernel_rfl)
 m6:=by intros;exact Az rfl (by kernel_rfl)
 m7:=by intros;exact Az rfl (by kernel_rfl)
 m8:=by intros;exact Az rfl (by kernel_rfl)
 m9:=by intros;exact Az rfl (by kernel_rfl)
 m10:=by intros;exact Az rfl (by kernel_rfl)
 m11:=by intros;exact Az rfl (by kernel_rfl)
end Go.CT.Sch
namespace Go.CT.Sch
open Go.Proofs
theorem Gy {l:List IV} (h:l.length≤1073741824):O.Lc [.list l]=some [.list l]:=if_pos h
theorem Qi (v:Val) (hv:Hg 1073741824 v) (y2 y3 y4 y5 y6 y7 y9:IV) (ih: ∀p∈v.f,W F46 0 [p.2.enc]=some p.2.Hl): ∀ (n i:Nat),i+n=v.f.length→
  W F46 2 [.int v.f.length,.int i,y2,y3,y4,y5,y6,y7,.list (v.f.map Fld.enc),y9]=some [y2,y3,y4,y9,.list (v.f.map Fld.enc)]
 | 0,i,h=>by
  rw [Aif]
  have h1: ¬ i<v.f.length:=by omega
  simp only [O.Ak,An,h1,decide_false,Option.bind_some,O.Ab,Bool.false_eq_true,if_false]
 | n+1,i,h=>by
  have hi:i<v.f.length:=by omega
  have hm:=hv.O8
  have hw:=Bg (i:=i) (by omega)
  have:=Qi v hv y2 y3 y4 y5 y6 y7 y9 ih n (i+1) (by omega)
  have hset:O.setAt 1 5 true false (.list (v.f.map Fld.enc)) (.int i) v.f[i].2.enc =some (.list (v.f.map Fld.enc)):=by
   have hg:(v.f.map Fld.enc)[i]?=some (Fld.enc v.f[i]):=by rw [List.getElem?_map,List.getElem?_eq_getElem hi];rfl
   have hs:(v.f.map Fld.enc).set i (Fld.enc v.f[i])=v.f.map Fld.enc:=by
    rw [←List.map_set,List.set_getElem_self]
   unfold O.setAt
   simp only [Prim.ev,Int.natCast_nonneg,if_true,Int.toNat_natCast,hg,Bool.false_eq_true,if_false]
   rw [v.f[i].2.D8]
   simp only [Fld.enc]
   have hl:v.f[i].2.Hl.length =5:=rfl
   simp only [hl,if_true]
   congr 2
  rw [Aif]
  simp only [O.Ak,An,hi,decide_true,Option.bind_some,O.Ab,if_true,O.Aj,Int.natCast_nonneg,Int.toNat_natCast,List.getElem?_map,List.getElem?_eq_getElem hi,Option.map_some,Fld.Mt,ih _ (List.getElem_mem hi),Val.Ck,O.E3,O.Ci,Val.Hw,hset,O.Aq,hw,this]
theorem Qg (v:Val) (hv:Hg 1073741824 v) (y2 y3 y4 y6 y7 y8:IV) (ih: ∀x∈v.l,W F46 0 [x.enc]=some x.Hl): ∀ (n i:Nat),i+n=v.l.length→
  W F46 1 [.int v.l.length,.int i,y2,y3,y4,.list (v.f.map Fld.enc),y6,y7,y8,.list (v.l.map Val.enc)]=W F46 2 [.int v.f.length,.int (0:Nat),y2,y3,y4,y6,y7,y8,.list (v.f.map Fld.enc),.list (v.l.map Val.enc)]
 | 0,i,h=>by
  rw [Ai6]
  have h1: ¬ i<v.l.length:=by omega
  have h6:=hv.O8
  have hc:(v.f.map Fld.enc).length ≤1073741824:=by rw [List.length_map];omega
  simp only [O.Ak,An,h1,decide_false,Option.bind_some,O.Ab,Bool.false_eq_true,if_false,Ats,Gy hc,O.Ah,O.Ao,List.length_map]
  rfl
 | n+1,i,h=>by
  have hi:i<v.l.length:=by omega
  have hm:=hv.Aak
  have hw:=Bg (i:=i) (by omega)
  have:=Qg v hv y2 y3 y4 y6 y7 y8 ih n (i+1) (by omega)
  have hset:O.setAt 0 5 true true (.list (v.l.map Val.enc)) (.int i) v.l[i].enc =some (.list (v.l.map Val.enc)):=by
   rw [show (IV.list (v.l.map Val.enc))=Srt.LE Val.enc v.l from rfl,Srt.Amu Val.enc hi,List.set_getElem_self]
  rw [Ai6]
  simp only [O.Ak,An,hi,decide_true,Option.bind_some,O.Ab,if_true,O.Aj,Int.natCast_nonneg,Int.toNat_natCast,List.getElem?_map,List.getElem?_eq_getElem hi,Option.map_some,ih _ (List.getElem_mem hi),Val.Ck,O.E3,O.Ci,Val.Hw,hset,O.Aq,hw,this]
theorem Pz: ∀v:Val,Hg 1073741824 v→W F46 0 [v.enc]=some v.Hl:=by
 refine Val.ind fun v ih1 ih2 hv=>?_
 have h1:=Qg v hv (.int v.k) (.int v.n) (.str v.s) (.int 0) (.int 0) (.str ⟨#[]⟩) (fun x hx=>ih1 x hx (hv.Ag1 hx)) v.l.length 0 (by omega)
 have h2:=Qi v hv (.int v.k) (.int v.n) (.str v.s) (.int 0) (.int 0) (.str ⟨#[]⟩) (.list (v.l.map Val.enc)) (fun p hp=>ih2 p hp (hv.R1 hp)) v.f.length 0 (by omega)
 rw [h2] at h1
 rw [Aus]
 have h6:=hv.Aak
 have hc:(v.l.map Val.enc).length ≤1073741824:=by rw [List.length_map];omega
 simp only [Val.Bv,Val.C9,Val.D7,Val.Cq,Val.Da,Option.bind_some,Ax8,Gy hc,O.Ah,O.Ao,List.length_map]
 rw [Val.Ck]
 exact h1
theorem Aku (l:List Val) (hl:l.length≤1073741824) (hl2: ∀x∈l,Hg 1073741824 x):W F98 0 [.list (l.map Val.enc)]=some (Val.Hl ⟨4,0,Ar,l,[]⟩):=by
 rw [Ary]
 have h:=Pz ⟨4,0,Ar,l,[]⟩ (.mk _ hl (Nat.zero_le _) hl2 (by simp))
 have e:IV.agg [.int 4,.int 0,.str ⟨#[]⟩,.list (l.map Val.enc),.list []]=Val.enc ⟨4,0,Ar,l,[]⟩:=by
  rw [←Val.fold];rfl
 simp only [O.Ci,Option.bind_some,e,h,Val.Ck,O.E3]
theorem Un (v:Val) (nm:ByteArray) (hv:Hg 1073741824 v) (y4 y5 y6:IV): ∀ (n i:Nat),i+n=v.f.length→
  W F73 1 [.str nm,.list (v.f.map Fld.enc),.int v.f.length,.int i,y4,y5,y6]=some (Ky (((v.f.drop i).find? fun p=>decide (p.1=nm)).map (·.2)))
 | 0,i,h=>by
  rw [Aia]
  have h1: ¬ i<v.f.length:=by omega
  simp [h1,List.drop_of_length_le (Nat.le_of_not_lt h1),Ky,Bf,Ar]
 | n+1,i,h=>by
  have hi:i<v.f.length:=by omega
  have hm:=hv.O8
  have hw:=Bg (i:=i) (by omega)
  have:=Un v nm hv y4 y5 y6 n (i+1) (by omega)
  have hmem:=List.getElem_mem hi
  rw [Aia,List.drop_eq_getElem_cons hi]
  simp only [O.Ak,An,hi,decide_true,Option.bind_some,O.Ab,if_true,O.Aj,Int.natCast_nonneg,Int.toNat_natCast,List.getElem?_map,List.getElem?_eq_getElem hi,Option.map_some,Fld.Bv,Fld.Mt,O.Gf,Pz v.f[i].2 (hv.R1 hmem),Val.Ck,O.E3,O.Aq,hw,this,List.find?_cons]
  by_cases c:v.f[i].1 =nm
  ·simp [c,Ky]
  ·have c':decide (v.f[i].1 =nm)=false:=by simpa using c
   simp only [c,c',decide_false,Bool.false_eq_true,if_false]
theorem An1 (v:Val) (nm:ByteArray) (hv:Hg 1073741824 v):W F73 0 [v.enc,.str nm]=some (Ky (v.get nm)):=by
 rw [Au5]
 unfold Val.get
 have:=Un v nm hv (.int 0) (.int 0) (.str ⟨#[]⟩) v.f.length 0 (by omega)
 simp only [List.drop_zero,Int.cast_ofNat_Int] at this
 simp only [Val.Bv,Val.Da,Option.bind_some,O.eq_int,O.Ab,O.Ao,List.length_map,this]
 by_cases c:v.k=5<;>simp [c,Ky,Bf,Ar]
end Go.CT.Sch
namespace Go.CT.Sch
open Go.Proofs
def Gm (nm:ByteArray) (p:ByteArray × Val):Bool:= !decide (p.1=nm)
def dedup:List (ByteArray × Val)→List (ByteArray × Val)
 | []=> []
 | [p]=> [p]
 | p::q::r=>if q.1=p.1 then dedup (q::r) else p::dedup (q::r)
def Dv (l:List (ByteArray × Val)):Prop:=l.Pairwise fun a b=>blt a.1 b.1=true
def isName (nm:ByteArray) (p:ByteArray × Val):Bool:=decide (p.1=nm)
def look (nm:ByteArray) (l:List (ByteArray × Val)):Option (ByteArray × Val):=(l.filter (isName nm)).getLast?
theorem Sa: ∀ (l:List (ByteArray × Val)) (p:ByteArray × Val),p∈dedup l→p∈l
 | [],p,h=>h
 | [_],p,h=>h
 | a::b::r,p,h=>by
  simp only [dedup] at h
  split at h
  ·exact List.mem_cons_of_mem _ (Sa (b::r) p h)
  ·rcases List.mem_cons.1 h with rfl | h
   ·simp
   ·exact List.mem_cons_of_mem _ (Sa (b::r) p h)
theorem Z6 {x y:ByteArray} (h:blt y x=false) (hne: ¬ y=x):blt x y=true:=by
 rcases I6 x y with h1 | h1 | h1
 ·exact h1
 ·exact absurd h1.symm hne
 ·rw [h] at h1;cases h1
theorem Aau {x y z:ByteArray} (h:blt x y=true) (h2:blt z y=false):blt x z=true:=by
 rcases I6 y z with h1 | h1 | h1
 ·exact Ii h h1
 ·rw [←h1];exact h
 ·rw [h2] at h1;cases h1
theorem Qd: ∀l:List (ByteArray × Val),Srt.Bt Amq l→Dv (dedup l)
 | [],_=>List.Pairwise.nil
 | [_],_=>List.pairwise_singleton _ _
 | a::b::r,h=>by
  have h1:=List.pairwise_cons.1 h
  have ih:=Qd (b::r) h1.2
  simp only [dedup]
  split
  ·exact ih
  ·next hne=>
   refine List.pairwise_cons.2 ⟨fun y hy=>?_,ih⟩
   have hab:blt a.1 b.1=true:=Z6 (h1.1 b (by simp)) hne
   rcases List.mem_cons.1 (Sa _ _ hy) with rfl | hy
   ·exact hab
   ·exact Aau hab ((List.pairwise_cons.1 h1.2).1 y hy)
theorem K9 (nm:ByteArray) (p:ByteArray × Val) (l:List (ByteArray × Val)):look nm (p::l)=(look nm l).or (if p.1=nm then some p else none):=by
 unfold look
 rw [List.filter_cons]
 by_cases c:p.1=nm
 ·rw [if_pos (by simp [isName,c]),if_pos c]
  generalize l.filter (isName nm)=m
  cases m with
  | nil=>rfl
  | cons b r=>
   rw [List.getLast?_cons_cons]
   cases h:(b::r).getLast? with
   | none=>simp at h
   | some x=>rfl
 ·rw [if_neg (by simp [isName,c]),if_neg c,Option.or_none]
theorem Ut (nm:ByteArray): ∀l:List (ByteArray × Val),look nm (dedup l)=look nm l
 | []=>rfl
 | [_]=>rfl
 | a::b::r=>by
  have ih:=Ut nm (b::r)
  simp only [dedup]
  split
  ·next e=>
   rw [ih,K9 nm a (b::r),K9 nm b r]
   by_cases c:b.1=nm
   ·have c2:a.1=nm:=by rw [←e];exact c
    simp only [c,c2,if_true]
    cases look nm r<;>rfl
   ·have c2: ¬ a.1=nm:=by rw [←e];exact c
    simp only [c2,if_false,Option.or_none]
  ·rw [K9 nm a,ih,K9 nm a]
theorem Jb {l:List (ByteArray × Val)} (h:Dv l) (p:ByteArray × Val):p∈l↔look p.1 l=some p:=by
 induction l with
 | nil=>simp [look]
 | cons a l ih=>
  have h1:=List.pairwise_cons.1 h
  rw [K9,List.mem_cons,ih h1.2]
  by_cases c:a.1=p.1
  ·have hn:look p.1 l=none:=by
    unfold look
    rw [List.getLast?_eq_none_iff,List.filter_eq_nil_iff]
    intro y hy hy2
    simp only [isName,decide_eq_true_eq] at hy2
    have:=h1.1 y hy
    rw [c,hy2,Di] at this
    cases this
   simp [hn,c,eq_comm]
  ·have: ¬ p=a:=fun e=>c (by rw [e])
   simp [c,this]
theorem Uf {a b:List (ByteArray × Val)} (ha:Dv a) (hb:Dv b) (h: ∀p,p∈a↔p∈b):a=b:=by
 induction a generalizing b with
 | nil=>
  cases b with
  | nil=>rfl
  | cons y b=>have:=(h y).2 (by simp);simp at this
 | cons x a ih=>
  cases b with
  | nil=>have:=(h x).1 (by simp);simp at this
  | cons y b=>
   have ha':=List.pairwise_cons.1 ha
   have hb':=List.pairwise_cons.1 hb
   have hxy:x=y:=by
    rcases List.mem_cons.1 ((h x).1 (by simp)) with e | hx
    ·exact e
    ·rcases List.mem_cons.1 ((h y).2 (by simp)) with e | hy
     ·exact e.symm
     ·have h1:=hb'.1 x hx
      have h2:=ha'.1 y hy
      rw [Oi h1] at h2;cases h2
   subst hxy
   rw [ih ha'.2 hb'.2]
   intro p
   have:=h p
   simp only [List.mem_cons] at this
   constructor
   ·intro hp
    rcases this.1 (.inr hp) with rfl | h
    ·have:=ha'.1 p hp;rw [Di] at this;cases this
    ·exact h
   ·intro hp
    rcases this.2 (.inr hp) with rfl | h
    ·have:=hb'.1 p hp;rw [Di] at this;cases this
    ·exact h
theorem Kw {a b:List (ByteArray × Val)} (ha:Dv a) (hb:Dv b) (h: ∀nm,look nm a=look nm b):a=b:=
 Uf ha hb fun p=>by rw [Jb ha,Jb hb,h]
theorem Zb (p:ByteArray × Val): ∀l,Oz p true l=l.filter (Gm p.1)
 | []=>rfl
 | x::xs=>by
  simp only [Oz,Bool.not_true,Bool.false_and,Bool.false_eq_true,if_false,List.nil_append,Bool.true_or,Zb p xs,List.filter_cons,Gm]
  by_cases c:x.1=p.1<;>simp [c]
theorem Xy (p x:ByteArray × Val) (xs:List (ByteArray × Val)) (h:blt x.1 p.1=false):Oz p false (x::xs)=p::(x::xs).filter (Gm p.1):=by
 simp only [Oz,h,Bool.not_false,Bool.and_self,if_true,Bool.or_true,Zb,List.filter_cons,Gm]
 by_cases c:x.1=p.1<;>simp [c]
theorem Wk (p x:ByteArray × Val) (xs:List (ByteArray × Val)) (h:blt x.1 p.1=true):Oz p false (x::xs)=x::Oz p false xs:=by
 have hne: ¬ x.1=p.1:=Qa h
 simp [Oz,h,hne]
theorem Adk (p:ByteArray × Val): ∀ (l:List (ByteArray × Val)) (y:ByteArray × Val),y∈Oz p false l→y=p∨y∈l
 | [],y,h=>by simp [Oz] at h;exact .inl h
 | x::xs,y,h=>by
  cases hb:blt x.1 p.1 with
  | true=>
   rw [Wk p x xs hb] at h
   rcases List.mem_cons.1 h with rfl | h
   ·simp
   ·rcases Adk p xs y h with h | h
    ·exact .inl h
    ·exact .inr (List.mem_cons_of_mem _ h)
  | false=>
   rw [Xy p x xs hb] at h
   rcases List.mem_cons.1 h with rfl | h
   ·simp
   ·exact .inr (List.mem_filter.1 h).1
theorem Sd (p:ByteArray × Val): ∀l:List (ByteArray × Val),Dv l→Dv (Oz p false l)
 | [],_=>List.pairwise_singleton _ _
 | x::xs,h=>by
  have h1:=List.pairwise_cons.1 h
  cases hb:blt x.1 p.1 with
  | true=>
   rw [Wk p x xs hb]
   refine List.pairwise_cons.2 ⟨fun y hy=>?_,Sd p xs h1.2⟩
   rcases Adk p xs y hy with rfl | hy
   ·exact hb
   ·exact h1.1 y hy
  | false=>
   rw [Xy p x xs hb]
   refine List.pairwise_cons.2 ⟨fun y hy=>?_,h.sublist List.filter_sublist⟩
   obtain ⟨hy,hn⟩:=List.mem_filter.1 hy
   have hne: ¬ y.1=p.1:=by simpa [Gm] using hn
   refine Z6 ?_ hne
   rcases List.mem_cons.1 hy with rfl | hy
   ·exact hb
   ·cases hc:blt y.1 p.1 with
    | false=>rfl
    | true=>have:=Ii (h1.1 y hy) hc;rw [hb] at this;cases this
theorem Rn (p:ByteArray × Val) (nm:ByteArray): ∀l:List (ByteArray × Val),(Oz p false l).filter (isName nm)=if p.1=nm then [p] else l.filter (isName nm)
 | []=>by by_cases c:p.1=nm<;>simp [Oz,isName,c]
 | x::xs=>by
  cases hb:blt x.1 p.1 with
  | true=>
   have hne:=Qa hb
   rw [Wk p x xs hb,List.filter_cons,Rn p nm xs,List.filter_cons]
   by_cases c:p.1=nm
   ·have: ¬ x.1=nm:=by rw [←c];exact hne
    simp [c,isName,this]
   ·simp [c]
  | false=>
   rw [Xy p x xs hb,List.filter_cons,List.filter_filter]
   by_cases c:p.1=nm
   ·rw [if_pos (by simp [isName,c]),if_pos c]
    congr 1
    rw [List.filter_eq_nil_iff]
    intro y _ hy
    simp [Gm,isName,c] at hy
   ·rw [if_neg (by simp [isName,c]),if_neg c]
    refine List.filter_congr fun y _=>?_
    by_cases d:y.1=nm
    ·have: ¬ nm=p.1:=fun e=>c e.symm
     simp [Gm,isName,d,this]
    ·simp [isName,d]
theorem S0 (l:List (ByteArray × Val)) (p:ByteArray × Val):T1 (l++ [p])=Oz p false (T1 l):=by
 unfold T1;rw [List.foldl_append];rfl
theorem Vr (l:List (ByteArray × Val)): ∀n,l.length=n→Dv (T1 l)∧ ∀nm,look nm (T1 l)=look nm l:=by
 intro n
 induction n generalizing l with
 | zero=>intro h;have:=List.length_eq_zero_iff.1 h;subst this;exact ⟨List.Pairwise.nil,fun _=>rfl⟩
 | succ n ih=>
  intro h
  rcases Srt.Em l with rfl | ⟨l0,p,rfl⟩
  ·simp at h
  ·obtain ⟨h1,h2⟩:=ih l0 (by simpa using h)
   rw [S0]
   refine ⟨Sd p _ h1,fun nm=>?_⟩
   unfold look
   rw [Rn,List.filter_append]
   by_cases c:p.1=nm
   ·simp [c,isName]
   ·have:=h2 nm
    unfold look at this
    simp [c,isName] at this ⊢
    exact this
theorem Ij (l:List (ByteArray × Val)):Dv (T1 l):=(Vr l _ rfl).1
theorem Ow (nm:ByteArray) (l:List (ByteArray × Val)):look nm (T1 l)=look nm l:=(Vr l _ rfl).2 nm
theorem Asz {l:List (ByteArray × Val)} (h:Dv l):T1 l=l:=Kw (Ij l) h fun nm=>Ow nm l
theorem Ans {l:List (ByteArray × Val)} {p:ByteArray × Val} (h:p∈T1 l):p∈l:=by
 rw [Jb (Ij l),Ow] at h
 unfold look at h
 exact (List.mem_filter.1 (List.mem_of_getLast? h)).1
theorem Ao4 (k y:ByteArray × Val):Srt.eqv Amq k y=isName k.1 y:=by
 unfold Srt.eqv isName Amq
 rcases I6 k.1 y.1 with h | h | h
 ·have:=Qa h
  rw [h]
  simp only [Bool.not_true,Bool.false_and]
  symm;simpa using fun e=>this e.symm
 ·rw [h,Di];simp
 ·have:=Qa h
  rw [h]
  simp [this]
theorem Vp {l r:List (ByteArray × Val)} (h1:Srt.Bt Amq r) (h2:Srt.Iq Amq l r):dedup r=T1 l:=by
 refine Kw (Qd r h1) (Ij l) fun nm=>?_
 rw [Ut,Ow]
 have:=h2.2 (nm,Bf)
 have e:Srt.eqv Amq (nm,Bf)=isName nm:=funext fun y=>Ao4 _ y
 rw [e] at this
 unfold look
 rw [this]
end Go.CT.Sch
namespace Go.CT.Sch
open Go.Proofs
theorem Tn (p:ByteArray × Val): ∀l,Cn (Oz p false l)≤Cn l+Cn [p]
 | []=>by simp [Oz,D9]
 | x::xs=>by
  cases hb:blt x.1 p.1 with
  | true=>
   have:=Tn p xs
   rw [Wk p x xs hb,Bw,Bw x xs];omega
  | false=>
   have:=Jr (Gm p.1) (x::xs)
   rw [Xy p x xs hb,Bw,Bw p [],D9];omega
theorem S3 (l:List (ByteArray × Val)):Cn (T1 l)≤Cn l:=by
 have: ∀n (l:List (ByteArray × Val)),l.length=n→Cn (T1 l)≤Cn l:=by
  intro n
  induction n with
  | zero=>intro l h;have:=List.length_eq_zero_iff.1 h;subst this;exact Nat.le_refl _
  | succ n ih=>
   intro l h
   rcases Srt.Em l with rfl | ⟨l0,p,rfl⟩
   ·simp at h
   ·have h1:=ih l0 (by simpa using h)
    have h2:=Tn p (T1 l0)
    rw [S0,N0];omega
 exact this _ l rfl
def Avd (l:List (ByteArray × Val)):Val:=⟨5,0,Ar,[],T1 l⟩
theorem Ai5 (l:List (ByteArray × Val)):(Avd l).Ay ≤6+Cn l:=by
 have:=S3 l
 rw [Val.Bj]
 simp only [Avd,Val.Akq,Val.Abc,Val.Acy,E9,show Ar.size=0 from rfl];omega
theorem Lq (r:List (ByteArray × Val)) (hr:r.length≤1099511627775) (y2 y3 y4:IV): ∀ (n i:Nat) (acc:List (ByteArray × Val)),i+n=r.length→acc.length≤i→Ags 1073741824 (acc++dedup (r.drop i))→
  W F34 1 [.int r.length,.int i,y2,y3,y4,Srt.LE Fld.enc r,.int 5,.int 0,.str ⟨#[]⟩,.list (acc.map Fld.enc)]=some (Val.Hl ⟨5,0,Ar,[],acc++dedup (r.drop i)⟩)
 | 0,i,acc,h,ha,hm=>by
  rw [Awb]
  have h1: ¬ i<r.length:=by omega
  have e0:r.drop i= []:=List.drop_of_length_le (by omega)
  rw [e0] at hm ⊢
  rw [show dedup []= [] from rfl,List.append_nil] at hm
  have hc:=Pz ⟨5,0,Ar,[],acc⟩ (.mk _ (Nat.zero_le _) hm.1 (by simp) hm.2)
  have e:IV.agg [.int 5,.int 0,.str ⟨#[]⟩,.list [],.list (acc.map Fld.enc)]=Val.enc ⟨5,0,Ar,[],acc⟩:=by
   rw [←Val.fold];rfl
  simp only [O.Ak,An,h1,decide_false,Option.bind_some,O.Ab,Bool.false_eq_true,if_false,O.Ci,e,hc,Val.Ck,O.E3,dedup,List.append_nil]
 | n+1,i,acc,h,ha,hm=>by
  have hi:i<r.length:=by omega
  have hw:=Bg (i:=i) (by omega)
  have hap:(acc.length+1) * 96≤Ax:=Aa0 (by omega) (by omega)
  have gi:=Srt.idx Fld.enc (List.getElem?_eq_getElem hi)
  rw [Awb]
  have hd:=List.drop_eq_getElem_cons hi
  by_cases c:i+1=r.length
  ·have c':((i+1:Nat):Int)=(r.length:Int):=by omega
   have e1:r.drop (i+1)= []:=List.drop_of_length_le (by omega)
   have ih:=Lq r hr y2 y3 y4 n (i+1) (acc++ [r[i]]) (by omega) (by simp;omega) (by
    rw [e1];rw [hd,e1] at hm
    simpa [dedup] using hm)
   simp only [e1,List.map_append,List.map_cons,List.map_nil] at ih
   rw [hd,e1]
   simp only [O.Ak,An,hi,decide_true,Option.bind_some,O.Ab,if_true,gi,O.Aq,hw,Srt.len,O.eq_int,c',O.Cb,O.Bl,List.length_map,List.length_singleton,hap,Abn]
   rw [c'] at ih
   rw [ih]
   simp [dedup]
  ·have hi2:i+1<r.length:=by omega
   have c': ¬ ((i+1:Nat):Int)=(r.length:Int):=by omega
   have gi2:=Srt.idx Fld.enc (List.getElem?_eq_getElem hi2)
   have hd2:=List.drop_eq_getElem_cons hi2
   by_cases d:r[i+1].1 =r[i].1
   ·have ih:=Lq r hr y2 y3 y4 n (i+1) acc (by omega) (by omega) (by
     rw [hd,hd2] at hm;rw [hd2]
     simp only [dedup,d,if_true] at hm
     exact hm)
    rw [hd2] at ih
    rw [hd,hd2]
    simp only [O.Ak,An,hi,decide_true,Option.bind_some,O.Ab,if_true,gi,O.Aq,hw,Srt.len,O.eq_int,c',decide_false,Bool.false_eq_true,if_false,gi2,Fld.Bv,O.H5,d,Bool.not_true,Abn,dedup,ih]
   ·have ih:=Lq r hr y2 y3 y4 n (i+1) (acc++ [r[i]]) (by omega) (by simp;omega) (by
     rw [hd,hd2] at hm;rw [hd2]
     simp only [dedup,d,if_false] at hm
     simpa using hm)
    rw [hd2] at ih
    simp only [List.map_append,List.map_cons,List.map_nil,List.append_assoc,List.singleton_append] at ih
    rw [hd,hd2]
    simp only [O.Ak,An,hi,decide_true,Option.bind_some,O.Ab,if_true,gi,O.Aq,hw,Srt.len,O.eq_int,c',decide_false,Bool.false_eq_true,if_false,gi2,Fld.Bv,O.H5,d,Bool.not_false,O.Cb,O.Bl,List.length_map,List.length_singleton,hap,Abn,dedup,ih]
theorem Apc (l:List (ByteArray × Val)):(T1 l).length ≤l.length:=by
 have: ∀n (l:List (ByteArray × Val)),l.length=n→(T1 l).length ≤n:=by
  intro n
  induction n with
  | zero=>intro l h;have:=List.length_eq_zero_iff.1 h;subst this;exact Nat.le_refl _
  | succ n ih=>
   intro l h
   rcases Srt.Em l with rfl | ⟨l0,p,rfl⟩
   ·simp at h
   ·have h1:=ih l0 (by simpa using h)
    have h2:=Xi p (T1 l0) false
    rw [S0];omega
 exact this _ l rfl
theorem Z2 {N:Nat} {l:List (ByteArray × Val)} (h:Ags N l):Ags N (T1 l):=
 ⟨Nat.le_trans (Apc l) h.1,fun p hp=>h.2 p (Ans hp)⟩
theorem Ady (l:List (ByteArray × Val)) (hl:Ags 1073741824 l):W F34 0 [.list (l.map Fld.enc)]=some (Avd l).Hl :=by
 have h6:=hl.1
 obtain ⟨r,h1,h2,h3⟩:=Srt.sort ford feqs l (by omega)
 have hc:(l.map Fld.enc).length ≤1073741824:=by rw [List.length_map];omega
 rw [Au0]
 have h3':W F36 0 [.list (l.map Fld.enc)]=some [Srt.LE Fld.enc r]:=h3
 have hlen:r.length=l.length:=h2.1.symm
 have h4:=Lq r (by omega) (.int 0) (.int 0) (.str ⟨#[]⟩) r.length 0 [] (by omega) (by simp) (by
  rw [List.drop_zero,List.nil_append,Vp h1 h2];exact Z2 hl)
 simp only [List.drop_zero,Int.cast_ofNat_Int,List.map_nil,List.nil_append,Vp h1 h2] at h4
 simp only [Ats,Gy hc,O.Ah,h3',Srt.len,Option.bind_some]
 exact h4
theorem Atz (l:List (ByteArray × Val)) (hl:Cn l≤4294967200):W F34 0 [.list (l.map Fld.enc)]=some (Avd l).Hl :=Ady l (Aga (by omega))
end Go.CT.Sch
namespace Go.CT.Sch
open Go.Proofs
theorem Mq {β:Type} {a b c d e g:IV} {f:IV→IV→IV→IV→IV→IV→Option β} :calls (some [a,b,c,d,e,g]) 6 f=f a b c d e g:=rfl
def Cm:Sch:=⟨0,0,0,[],Ar,[],[]⟩
def Mb:SFld:=⟨Ar,false,false,[],Cm⟩
theorem Ur:IV.agg [.str ⟨#[]⟩,.bool false,.bool false,.list [],.int 0,.int 0,.int 0,.list [],.str ⟨#[]⟩,.list [],.list []]=Mb.enc:=rfl
inductive SB:Sch→Prop
 | mk (s:Sch):s.it.length≤1→(s.it≠ []→s.f= [])→(s.k=4→s.it.length=1)→(∀x∈s.it,SB x)→(∀p∈s.f,SB p.s)→SB s
theorem SB.one {s:Sch} (h:SB s):s.it.length≤1:=by cases h;assumption
theorem SB.nof {s:Sch} (h:SB s) (hi:s.it≠ []):s.f= []:=by cases h with | mk _ h1 h2 h3 h4 h5=>exact h2 hi
theorem SB.list {s:Sch} (h:SB s) (hi:s.k=4):s.it.length=1:=by cases h with | mk _ h1 h2 h3 h4 h5=>exact h3 hi
theorem SB.Ru {s x:Sch} (h:SB s) (hx:x∈s.it):SB x:=by cases h with | mk _ h1 h2 h3 h4 h5=>exact h4 x hx
theorem SB.R1 {s:Sch} {p:SFld} (h:SB s) (hx:p∈s.f):SB p.s:=by cases h with | mk _ h1 h2 h3 h4 h5=>exact h5 p hx
def Ly (s:Sch) (nm:ByteArray):Option Sch:=match s.it with | []=>(s.fld nm).map (·.s) | t::_=>some t
theorem Ai8 {s:Sch} {nm:ByteArray} {p:SFld} (h:s.fld nm=some p):p∈s.f∧p.nm=nm:=
 ⟨List.mem_of_find?_eq_some h,by simpa using List.find?_some h⟩
theorem Vz {s t:Sch} {nm:ByteArray} (h:Ly s nm=some t):t∈s.it∨ ∃p∈s.f,p.nm=nm∧p.s=t:=by
 unfold Ly at h
 split at h
 ·right
  rw [Option.map_eq_some_iff] at h
  obtain ⟨p,hp,rfl⟩:=h
  exact ⟨p,(Ai8 hp).1,(Ai8 hp).2,rfl⟩
 ·rename_i t' r e
  cases h
  left;rw [e];simp
theorem SB.sub {s t:Sch} {nm:ByteArray} (hs:SB s) (h:Ly s nm=some t):SB t:=by
 rcases Vz h with h | ⟨p,hp,_,rfl⟩
 ·exact hs.Ru h
 ·exact hs.R1 hp
theorem N1 {s t:Sch} {nm:ByteArray} (h:Ly s nm=some t):t.Ay<s.Ay:=by
 rcases Vz h with h | ⟨p,hp,_,rfl⟩
 ·exact Sch.I2 h
 ·have:=Sch.Dz hp;omega
def Hi (p:List Stp) (c:Int):IV:= .agg [.str (Hs p),.int c]
def Df (nm:ByteArray):Stp:=⟨1,nm,0,Ar⟩
def isKey (v:Val) (nm:ByteArray):Bool:=(v.get nm).isSome &&decide (((v.get nm).getD Bf).k =3)
def Hu (v:Val) (nm:ByteArray):ByteArray:=((v.get nm).getD Bf).s
def Gl (v:Val) (nm:ByteArray):Bool:=isKey v nm&& !decide (nm=Ar)
def G5 (key:ByteArray) (v:Val) (i:Nat):Stp:=if Gl v key then ⟨3,key,0,Hu v key⟩ else ⟨2,Ar,i,Ar⟩
def sameKey (nm:ByteArray) (k:ByteArray) (u:Val):Bool:=Gl u nm&&decide (Hu u nm=k)
def Ard (key:ByteArray) (prev:List Val) (v:Val) (q:List Stp):List IV:=if Gl v key&&prev.any (sameKey key (Hu v key)) then [Hi q 8] else []
def Kb (v:Val) (nm:ByteArray):Bool:=(v.get nm).isSome && !decide (((v.get nm).getD Bf).k =0)
def M5 (v:Val) (p:List Stp) (d:SFld):List IV:=if d.rq&& !Kb v d.nm then [Hi (p++ [Df d.nm]) 7] else []
def Aa6 (p:List Stp) (sc:Sch) (n:Int):List IV:=if decide (n<sc.mn)||decide (sc.mx<n) then [Hi p 5] else []
mutual
def Qh:Val→Sch→List Stp→List IV
 | ⟨k,n,s,l,f⟩,sc,p=>
  if k=sc.k then
   if k=2 then Aa6 p sc n
   else if k=3 then (if decide ((s.size:Int)<sc.mn)||decide (sc.mx<(s.size:Int)) then [Hi p 5] else if decide (0<sc.en.length)&& !sc.en.any (fun e=>decide (e=s)) then [Hi p 1] else [])
   else if k=4 then Aa6 p sc l.length++Mx l sc.key (sc.it.headD Cm) p []
   else if k=5 then Ll f sc p++sc.f.flatMap (M5 ⟨k,n,s,l,f⟩ p)
   else []
  else [Hi p 6]
def Mx:List Val→ByteArray→Sch→List Stp→List Val→List IV
 | [],_,_,_,_=> []
 | v::vs,key,t,p,prev=>(Qh v t (p++ [G5 key v prev.length])++Ard key prev v (p++ [G5 key v prev.length]))++Mx vs key t p (prev++ [v])
def Ll:List (ByteArray × Val)→Sch→List Stp→List IV
 | [],_,_=> []
 | (nm,v)::fs,sc,p=>(match Ly sc nm with | none=> [Hi (p++ [Df nm]) 1] | some t=>if v.k=0 then [] else Qh v t (p++ [Df nm]))++Ll fs sc p
end
theorem Acw (v:Val) (sc:Sch) (p:List Stp):Qh v sc p=
  if v.k=sc.k then
   if v.k=2 then Aa6 p sc v.n
   else if v.k=3 then (if decide ((v.s.size:Int)<sc.mn)||decide (sc.mx<(v.s.size:Int)) then [Hi p 5] else if decide (0<sc.en.length)&& !sc.en.any (fun e=>decide (e=v.s)) then [Hi p 1] else [])
   else if v.k=4 then Aa6 p sc v.l.length++Mx v.l sc.key (sc.it.headD Cm) p []
   else if v.k=5 then Ll v.f sc p++sc.f.flatMap (M5 v p)
   else []
  else [Hi p 6]:=by
 cases v;rw [Qh];rfl
def Avp (sc:Sch) (p:List Stp) (x:ByteArray × Val):List IV:=match Ly sc x.1 with | none=> [Hi (p++ [Df x.1]) 1] | some t=>if x.2.k=0 then [] else Qh x.2 t (p++ [Df x.1])
theorem L5 (x:ByteArray × Val) (fs:List (ByteArray × Val)) (sc:Sch) (p:List Stp):Ll (x::fs) sc p=Avp sc p x++Ll fs sc p:=by
 obtain ⟨nm,v⟩:=x;rw [Ll];rfl
theorem Oh (sc:Sch) (p:List Stp):Ll [] sc p= []:=by rw [Ll]
theorem Pw (v:Val) (vs:List Val) (key:ByteArray) (t:Sch) (p:List Stp) (prev:List Val):Mx (v::vs) key t p prev=(Qh v t (p++ [G5 key v prev.length])++Ard key prev v (p++ [G5 key v prev.length]))++Mx vs key t p (prev++ [v]):=by rw [Mx]
theorem Sf (key:ByteArray) (t:Sch) (p:List Stp) (prev:List Val):Mx [] key t p prev= []:=by rw [Mx]
theorem Wx (key:ByteArray) (prev:List Val) (v:Val) (q:List Stp):(Ard key prev v q).length ≤1:=by unfold Ard;split<;>simp
theorem Aks (v:Val) (p:List Stp) (d:SFld):(M5 v p d).length ≤1:=by unfold M5;split<;>simp
theorem Qs (p:List Stp) (sc:Sch) (n:Int):(Aa6 p sc n).length ≤1:=by unfold Aa6;split<;>simp
theorem Aed (v:Val) (p:List Stp): ∀l:List SFld,(l.flatMap (M5 v p)).length ≤l.length
 | []=>by simp
 | d::l=>by
  have:=Aks v p d
  have:=Aed v p l
  simp only [List.flatMap_cons,List.length_append,List.length_cons];omega
theorem Qq: ∀ (v:Val) (sc:Sch) (p:List Stp),SB sc→(Qh v sc p).length ≤(2+sc.Ay) * v.size:=by
 refine Val.ind fun v ih1 ih2 sc p hs=>?_
 have hpos:=v.size_pos
 have one:1≤(2+sc.Ay) * v.size:=by
  have:1 * 1≤(2+sc.Ay) * v.size:=Nat.mul_le_mul (by omega) hpos
  omega
 have hL: ∀ (t:Sch),SB t→t.Ay<sc.Ay→ ∀ (l:List Val),(∀x∈l,∀sc p,SB sc→(Qh x sc p).length ≤(2+sc.Ay) * x.size)→ ∀ (prev:List Val) (key:ByteArray),(Mx l key t p prev).length ≤(2+sc.Ay) * B8 l:=by
  intro t ht htm l
  induction l with
  | nil=>intro _ prev key;rw [Sf];simp
  | cons x l ih=>
   intro h prev key
   have h1:=h x (by simp) t (p++ [G5 key x prev.length]) ht
   have h2:=ih (fun y hy=>h y (by simp [hy])) (prev++ [x]) key
   have h3:=Wx key prev x (p++ [G5 key x prev.length])
   have h4:=x.size_pos
   have h5:(3+t.Ay) * x.size≤(2+sc.Ay) * x.size:=Nat.mul_le_mul (by omega) (Nat.le_refl _)
   have h6:(3+t.Ay) * x.size=(2+t.Ay) * x.size+x.size:=by rw [show 3+t.Ay=(2+t.Ay)+1 by omega,Nat.add_mul,Nat.one_mul]
   rw [Pw]
   simp only [List.length_append,B8,Nat.mul_add]
   omega
 have hF: ∀ (l:List (ByteArray × Val)),(∀x∈l,∀sc p,SB sc→(Qh x.2 sc p).length ≤(2+sc.Ay) * x.2.size)→(Ll l sc p).length ≤(2+sc.Ay) * Bh l:=by
  intro l
  induction l with
  | nil=>intro _;rw [Oh];simp
  | cons x l ih=>
   intro h
   have h2:=ih (fun y hy=>h y (by simp [hy]))
   have h4:=x.2.size_pos
   have h7:(Avp sc p x).length ≤(2+sc.Ay) * x.2.size:=by
    have h8:1 * 1≤(2+sc.Ay) * x.2.size:=Nat.mul_le_mul (by omega) h4
    unfold Avp
    split
    ·simp only [List.length_singleton];omega
    ·rename_i t ht
     split
     ·simp
     ·have h1:=h x (by simp) t (p++ [Df x.1]) (hs.sub ht)
      have:=N1 ht
      have h5:(2+t.Ay) * x.2.size≤(2+sc.Ay) * x.2.size:=Nat.mul_le_mul (by omega) (Nat.le_refl _)
      omega
   rw [L5]
   simp only [List.length_append,Bh,Nat.mul_add]
   omega
 have hsz:=v.size_eq
 rw [Acw]
 split
 ·split
  ·have:=Qs p sc v.n;omega
  ·split
   ·split
    ·simpa using one
    ·split
     ·simpa using one
     ·simp
   ·split
    ·rename_i hk hk2 hk3 hk4
     obtain ⟨t,ht⟩:=List.length_eq_one_iff.1 (hs.list (by omega))
     have h1:=hL t (hs.Ru (by rw [ht];simp)) (Sch.I2 (by rw [ht];simp)) v.l ih1 [] sc.key
     have h2:=Qs p sc v.l.length
     have h3:(2+sc.Ay) * (1+B8 v.l)≤(2+sc.Ay) * v.size:=Nat.mul_le_mul (Nat.le_refl _) (by omega)
     rw [Nat.mul_add] at h3
     rw [ht,List.headD_cons,List.length_append]
     omega
    ·split
     ·have h1:=hF v.f ih2
      have h2:=Aed v p sc.f
      have h4:=sc.Bc
      have h3:(2+sc.Ay) * (1+Bh v.f)≤(2+sc.Ay) * v.size:=Nat.mul_le_mul (Nat.le_refl _) (by omega)
      rw [Nat.mul_add] at h3
      rw [List.length_append]
      omega
     ·simp
 ·simpa using one
theorem Ahg {n:Nat} (h:n≤4398046511104):n * 24≤Ax:=by
 have:n * 24≤4398046511104 * 24:=Nat.mul_le_mul h (Nat.le_refl _)
 unfold Ax;omega
theorem Aet (v:Val) (nm:ByteArray):((v.get nm).getD Bf).s.size ≤v.Ay:=by
 unfold Val.get
 split
 ·cases h:v.f.find? fun p=>decide (p.1=nm) with
  | none=>exact Nat.zero_le _
  | some p=>
   have h1:=Val.Dz (List.mem_of_find?_eq_some h)
   have h2:=p.2.Ale
   simp only [Option.map_some,Option.getD_some];omega
 ·exact Nat.zero_le _
theorem U0 (key:ByteArray) (v:Val) (i:Nat) (h1:key.size≤1048576) (h2:v.Ay≤1048576):(G5 key v i).fits :=by
 have:=Aet v key
 unfold G5
 split
 ·exact ⟨by show key.size≤_;omega,by show (Hu v key).size ≤_;unfold Hu;omega⟩
 ·exact ⟨by show (0:Nat)≤_;omega,by show (0:Nat)≤_;omega⟩
theorem Gw (nm:ByteArray) (h:nm.size≤1048576):(Df nm).fits :=⟨by show nm.size≤_;omega,by show (0:Nat)≤_;omega⟩
theorem Gi {p:List Stp} {x:Stp} (hp: ∀s∈p,s.fits) (hx:x.fits): ∀s∈p++ [x],s.fits:=by
 intro s hs
 rcases List.mem_append.1 hs with h | h
 ·exact hp s h
 ·simp at h;subst h;exact hx
end Go.CT.Sch
namespace Go.CT.Sch
open Go.Proofs
theorem R9 (v:Val) (nm:ByteArray) (hv:v.Ay≤1048576):W Awg 0 [v.enc,.str nm]=some [.str (Hu v nm),.bool (Gl v nm)]:=by
 rw [Anf]
 unfold Hu Gl isKey
 simp only [Ahv v nm (by omega),Ky,Mq,O.Ab,O.H5,O.eq_int,Option.bind_some,Aw,Am,Ar]
 cases (v.get nm).isSome<;>by_cases h1:nm=⟨#[]⟩<;>by_cases h2:((v.get nm).getD Bf).k =3<;>simp [h1,h2]
theorem Acl (s:Sch) (l:List Val) (i:Nat) (hi:i<l.length) (hv:l[i].Ay ≤1048576):W Ax7 0 [s.enc,.list (l.map Val.enc),.int i]=some [(G5 s.key l[i] i).enc]:=by
 rw [Aof]
 unfold G5
 simp only [O.Aj,Int.natCast_nonneg,if_true,Int.toNat_natCast,List.getElem?_map,List.getElem?_eq_getElem hi,Option.map_some,Option.bind_some,Sch.Da,R9 l[i] s.key hv,O.Ds,O.Ci,O.Ab]
 split<;>rfl
theorem Vu (p:List Stp) (s:Stp) (hl:p.length≤1099511627776):W Awc 0 [.list (p.map Stp.enc),s.enc]=some [.list ((p++ [s]).map Stp.enc)]:=by
 have h1:(0+p.length) * 48≤Ax:=Aa0 (by omega) (by omega)
 have h2:(p.length+1) * 48≤Ax:=by
  have:(p.length+1) * 48≤1099511627777 * 48:=Nat.mul_le_mul (by omega) (Nat.le_refl _)
  unfold Ax;omega
 rw [Apr]
 simp only [O.Cb,Option.bind_some,O.Bl,List.length_nil,List.length_map,h1,if_true,List.nil_append,List.length_singleton,h2,List.map_append,List.map_cons,List.map_nil]
theorem Zq (p:List Stp) (hp: ∀s∈p,s.fits) (hl:p.length≤1099511627776) (c:Int):W Ahl 0 [.list (p.map Stp.enc),.int c]=some [.list [Hi p c]]:=by
 rw [Aog]
 simp only [Akk p hp hl,O.Ds,O.Ci,O.Cb,Option.bind_some,Hi]
theorem Sx (s:Sch) (nm:ByteArray) (hs:s.Ay≤1099511627776) (y3 y4 y5 y6 y7 y8 y9:IV): ∀ (n i:Nat),i+n=s.f.length→
  W Ap9 1 [.str nm,.int i,s.enc,y3,y4,y5,y6,y7,y8,y9]=some [(((s.f.drop i).find? fun p=>decide (p.nm=nm)).getD Mb).enc,.bool ((s.f.drop i).find? fun p=>decide (p.nm=nm)).isSome]
 | 0,i,h=>by
  rw [Adc]
  have h1: ¬ i<s.f.length:=by omega
  simp [h1,List.drop_of_length_le (Nat.le_of_not_lt h1),Ur]
 | n+1,i,h=>by
  have hi:i<s.f.length:=by omega
  have hm:=s.Bc
  have hw:=Bg (i:=i) (by omega)
  have:=Sx s nm hs y3 y4 y5 y6 y7 y8 y9 n (i+1) (by omega)
  rw [Adc,List.drop_eq_getElem_cons hi]
  simp only [Sch.Hm,O.Ao,List.length_map,O.Ak,An,hi,decide_true,Option.bind_some,O.Ab,if_true,O.Aj,Int.natCast_nonneg,Int.toNat_natCast,List.getElem?_map,List.getElem?_eq_getElem hi,Option.map_some,SFld.Bv,O.Gf,O.Aq,hw,this,List.find?_cons]
  by_cases c:s.f[i].nm =nm
  ·simp [c]
  ·have c':decide (s.f[i].nm =nm)=false:=by simpa using c
   simp only [c,c',decide_false,Bool.false_eq_true,if_false]
theorem Aar (s:Sch) (nm:ByteArray) (hs:s.Ay≤1099511627776):W Ap9 0 [s.enc,.str nm]=some [((s.fld nm).getD Mb).enc,.bool (s.fld nm).isSome]:=by
 rw [Anw]
 have:=Sx s nm hs (.str ⟨#[]⟩) (.bool false) (.bool false) (.int 0) (.int 0) (.int 0) (.str ⟨#[]⟩) s.f.length 0 (by omega)
 simp only [List.drop_zero,Int.cast_ofNat_Int] at this
 exact this
def Ag6 (v:Val) (nm:ByteArray):Val:=if Kb v nm then (v.get nm).getD Bf else Bf
theorem Acb (v:Val) (nm:ByteArray) (hv:v.Ay≤1048576):W Axq 0 [v.enc,.str nm]=some [.int (Ag6 v nm).k,.int (Ag6 v nm).n,.str (Ag6 v nm).s,.list ((Ag6 v nm).l.map Val.enc),.list ((Ag6 v nm).f.map Fld.enc),.bool (Kb v nm)]:=by
 rw [An0]
 unfold Ag6 Kb
 simp only [Ahv v nm (by omega),Ky,Mq,O.A3,O.eq_int,O.Ab,Option.bind_some]
 cases (v.get nm).isSome with
 | false=>rfl
 | true=>
  by_cases h:((v.get nm).getD Bf).k =0
  ·simp only [h,decide_true];rfl
  ·simp only [h,decide_false];rfl
theorem Si (s:Sch) (v:Val) (p q:List Stp) (hv:v.Ay≤1048576) (hq: ∀s∈q,s.fits) (hl:q.length≤1099511627776) (i:Nat) (hiv:i≤v.l.length) (key:ByteArray) (ok:Bool) (out:List IV) (ho:out.length≤4398046511103): ∀ (n j:Nat) (ag:Bool),j+n=i→
  W Tv 3 [.list (p.map Stp.enc),.int i,.str key,.bool ok,.bool ag,.int j,s.enc,v.enc,.list out,.list (q.map Stp.enc)]
   =W Tv 4 [.list (p.map Stp.enc),.int i,s.enc,v.enc,.list (out++if ag||(ok&&((v.l.take i).drop j).any (sameKey s.key key)) then [Hi q 8] else [])]
 | n,j,ag,h=>by
  have hm:=v.Du
  have fin:(cnd (.bool ag) (
    calls (W Ahl 0 [.list (q.map Stp.enc),(.int 8)]) 1 fun x12=>
    (O.append 24 (.list out) x12).bind fun x13=>
    W Tv 4 [.list (p.map Stp.enc),.int i,s.enc,v.enc,x13]) (
    W Tv 4 [.list (p.map Stp.enc),.int i,s.enc,v.enc,.list out]))=W Tv 4 [.list (p.map Stp.enc),.int i,s.enc,v.enc,.list (out++if ag then [Hi q 8] else [])]:=by
   cases ag with
   | false=>simp
   | true=>
    have hap:(out.length+1) * 24≤Ax:=Ahg (by omega)
    simp only [O.Ab,if_true,Zq q hq hl 8,O.Ah,O.Bl,List.length_singleton,hap,Option.bind_some]
  rw [Aou]
  by_cases c:j<i
  ·obtain ⟨m,rfl⟩: ∃m,n=m+1:=⟨n - 1,by omega⟩
   have hj:j<v.l.length:=by omega
   have hw:=Bg (i:=j) (by omega)
   have hx:=Val.Kf (List.getElem_mem hj)
   have hc:(j:Int)<i:=by omega
   cases ok with
   | false=>
    simp only [O.Ak,hc,decide_true,Option.bind_some,O.R3,if_true,O.Ab,Bool.false_eq_true,if_false]
    simp only [O.Ab] at fin
    rw [fin];simp
   | true=>
    have hk:=R9 v.l[j] s.key (by omega)
    have hd:(v.l.take i).drop j=v.l[j]::(v.l.take i).drop (j+1):=by
     rw [List.drop_eq_getElem_cons (by simp;omega),List.getElem_take]
    simp only [O.Ak,hc,decide_true,Option.bind_some,O.R3,if_true,O.Ab,Val.Cq,O.Aj,Int.natCast_nonneg,Int.toNat_natCast,List.getElem?_map,List.getElem?_eq_getElem hj,Option.map_some,Sch.Da,hk,O.Ds,O.Gf,Aw,Am,O.Aq,hw]
    rw [Si s v p q hv hq hl i hiv key true out ho m (j+1) _ (by omega),hd,List.any_cons]
    congr 6
    unfold sameKey
    cases ag<;>cases Gl v.l[j] s.key<;>simp
  ·have hc: ¬ (j:Int)<i:=by omega
   simp only [O.Ak,hc,decide_false,Option.bind_some,O.R3,Bool.false_eq_true,if_false,O.Ab]
   simp only [O.Ab] at fin
   rw [fin,List.drop_of_length_le (by simp;omega)]
   simp
def Axn (v:Val):Prop:=v.Ay≤1048576→ ∀ (s:Sch),SB s→s.Ay≤1048576→ ∀p:List Stp,(∀x∈p,x.fits)→p.length+v.Ay≤549755813888→W Aju 0 [s.enc,v.enc,.list (p.map Stp.enc)]=some [.list (Qh v s p)]
theorem Sz (s t:Sch) (v:Val) (p:List Stp) (hv:v.Ay≤1048576) (hs:s.Ay≤1048576) (ht:s.it= [t]) (hsb:SB s) (hp: ∀s∈p,s.fits) (hl:p.length+v.Ay≤549755813888)
  (ih: ∀x∈v.l,Axn x): ∀ (n i:Nat) (out:List IV),i+n=v.l.length→out.length+(2+s.Ay) * B8 (v.l.drop i)≤4398046511103→
  W Tv 2 [.list (p.map Stp.enc),.int i,s.enc,v.enc,.list out]=some [.list (out++Mx (v.l.drop i) s.key t p (v.l.take i))]
 | 0,i,out,h,hb=>by
  have h1: ¬ i<v.l.length:=by omega
  rw [Adm,List.drop_of_length_le (by omega),Sf]
  simp only [Val.Cq,O.Ao,List.length_map,Option.bind_some,O.Ak,An,h1,decide_false,O.Ab,Bool.false_eq_true,if_false,List.append_nil]
 | n+1,i,out,h,hb=>by
  have hi:i<v.l.length:=by omega
  have hm:=v.Du
  have hw:=Bg (i:=i) (by omega)
  have hx:=Val.Kf (List.getElem_mem hi)
  have htm:t∈s.it:=by rw [ht];simp
  have htmass:=Sch.I2 htm
  have hd:=List.drop_eq_getElem_cons hi
  have hkey:=s.V9
  rw [hd] at hb ⊢
  rw [Pw]
  have hti:(v.l.take i).length =i:=by simp;omega
  have htk:v.l.take i++ [v.l[i]]=v.l.take (i+1):=by simp
  rw [hti,htk]
  have hq:=Gi hp (U0 s.key v.l[i] i (by omega) (by omega))
  have he1:=ih _ (List.getElem_mem hi) (by omega) t (hsb.Ru htm) (by omega) _ hq (by simp;omega)
  have hlen:=Qq v.l[i] t (p++ [G5 s.key v.l[i] i]) (hsb.Ru htm)
  have hdl:=Wx s.key (v.l.take i) v.l[i] (p++ [G5 s.key v.l[i] i])
  simp only [B8,Nat.mul_add] at hb
  have hsz:(2+t.Ay) * v.l[i].size +1≤(2+s.Ay) * v.l[i].size :=by
   have h1:=v.l[i].size_pos
   have h2:(3+t.Ay) * v.l[i].size ≤(2+s.Ay) * v.l[i].size :=Nat.mul_le_mul (by omega) (Nat.le_refl _)
   have h3:(3+t.Ay) * v.l[i].size =(2+t.Ay) * v.l[i].size +v.l[i].size :=by rw [show 3+t.Ay=(2+t.Ay)+1 by omega,Nat.add_mul,Nat.one_mul]
   omega
  generalize hE:Qh v.l[i] t (p++ [G5 s.key v.l[i] i])=es1 at *
  have hap:(out.length+es1.length) * 24≤Ax:=Ahg (by omega)
  have h3:=Si s v p (p++ [G5 s.key v.l[i] i]) hv hq (by simp;omega) i (by omega) (Hu v.l[i] s.key) (Gl v.l[i] s.key) (out++es1) (by rw [List.length_append];omega) i 0 false (by omega)
  simp only [Int.cast_ofNat_Int,List.drop_zero,Bool.false_or] at h3
  have hdup:(if (Gl v.l[i] s.key&&(v.l.take i).any (sameKey s.key (Hu v.l[i] s.key)))=true then [Hi (p++ [G5 s.key v.l[i] i]) 8] else [])=Ard s.key (v.l.take i) v.l[i] (p++ [G5 s.key v.l[i] i]):=rfl
  rw [hdup] at h3
  generalize hD:Ard s.key (v.l.take i) v.l[i] (p++ [G5 s.key v.l[i] i])=d at *
  have h4:=Sz s t v p hv hs ht hsb hp hl ih n (i+1) (out++es1++d) (by omega) (by simp only [List.length_append];omega)
  rw [Adm]
  simp only [Val.Cq,O.Ao,List.length_map,Option.bind_some,O.Ak,An,hi,decide_true,O.Ab,if_true,Acl s v.l i hi (by omega),O.Ah,Vu p (G5 s.key v.l[i] i) (by omega),Sch.I0,ht,List.map_cons,List.map_nil,O.Aj,Int.le_refl,Int.toNat_zero,List.getElem?_cons_zero,Int.natCast_nonneg,Int.toNat_natCast,List.getElem?_map,List.getElem?_eq_getElem hi,Option.map_some,he1,O.Bl,hap,Sch.Da,R9 v.l[i] s.key (by omega),O.Ds]
  rw [h3,Am4]
  simp only [O.Aq,hw,Option.bind_some]
  rw [h4]
  simp only [List.append_assoc]
theorem Rv (s:Sch) (v:Val) (p:List Stp) (hv:v.Ay≤1048576) (hs:s.Ay≤1048576) (hp: ∀s∈p,s.fits) (hl:p.length+v.Ay≤549755813888): ∀ (n i:Nat) (out:List IV),i+n=s.f.length→out.length+n≤4398046511103→
  W Uq 3 [.list (p.map Stp.enc),.int i,s.enc,v.enc,.list out]=some [.list (out++(s.f.drop i).flatMap (M5 v p))]
 | 0,i,out,h,hb=>by
  have h1: ¬ i<s.f.length:=by omega
  rw [Aes,List.drop_of_length_le (by omega)]
  simp only [Sch.Hm,O.Ao,List.length_map,Option.bind_some,O.Ak,An,h1,decide_false,O.Ab,Bool.false_eq_true,if_false,List.flatMap_nil,List.append_nil]
 | n+1,i,out,h,hb=>by
  have hi:i<s.f.length:=by omega
  have hm:=s.Bc
  have hw:=Bg (i:=i) (by omega)
  have hsf:=Sch.Dz (List.getElem_mem hi)
  have hq:=Gi hp (Gw s.f[i].nm (by omega))
  have hap:(out.length+1) * 24≤Ax:=Ahg (by omega)
  have hmk:O.Dp [(.int 1),.str s.f[i].nm,(.int 0),(.str ⟨#[]⟩)]=some (Df s.f[i].nm).enc :=rfl
  rw [Aes,List.drop_eq_getElem_cons hi,List.flatMap_cons]
  unfold M5
  simp only [Sch.Hm,O.Ao,List.length_map,Option.bind_some,O.Ak,An,hi,decide_true,O.Ab,if_true,O.Aj,Int.natCast_nonneg,Int.toNat_natCast,List.getElem?_map,List.getElem?_eq_getElem hi,Option.map_some,SFld.Bv,Acb v s.f[i].nm hv,Mq,SFld.C9,O.A3,Aw,Am,hmk,Vu p (Df s.f[i].nm) (by omega),O.Ah,Zq _ hq (by simp;omega),O.Bl,List.length_singleton,hap,Am3,O.Aq,hw]
  have e:(if s.f[i].rq =true then !Kb v s.f[i].nm else false)=(s.f[i].rq && !Kb v s.f[i].nm):=by cases s.f[i].rq<;>simp
  rw [e]
  cases (s.f[i].rq && !Kb v s.f[i].nm) with
  | true=>
   have h1:=Rv s v p hv hs hp hl n (i+1) (out++ [Hi (p++ [Df s.f[i].nm]) 7]) (by omega) (by simp;omega)
   simp only [if_true,h1,List.append_assoc]
   rfl
  | false=>
   have h1:=Rv s v p hv hs hp hl n (i+1) out (by omega) (by omega)
   simp only [Bool.false_eq_true,if_false,h1,List.nil_append]
   rfl
theorem Z0 (s:Sch) (v:Val) (p:List Stp) (hv:v.Ay≤1048576) (hs:s.Ay≤1048576) (hsb:SB s) (hp: ∀s∈p,s.fits) (hl:p.length+v.Ay≤549755813888)
  (ih: ∀x∈v.f,Axn x.2): ∀ (n i:Nat) (out:List IV),i+n=v.f.length→out.length+s.f.length+(2+s.Ay) * Bh (v.f.drop i)≤4398046511103→
  W Uq 1 [.list (p.map Stp.enc),.int i,s.enc,v.enc,.list out]=some [.list (out++Ll (v.f.drop i) s p++s.f.flatMap (M5 v p))]
 | 0,i,out,h,hb=>by
  have h1: ¬ i<v.f.length:=by omega
  have h3:=Rv s v p hv hs hp hl s.f.length 0 out (by omega) (by omega)
  simp only [Int.cast_ofNat_Int,List.drop_zero] at h3
  rw [Afo,List.drop_of_length_le (by omega),Oh]
  simp only [Val.Da,O.Ao,List.length_map,Option.bind_some,O.Ak,An,h1,decide_false,O.Ab,Bool.false_eq_true,if_false,List.append_nil,h3]
 | n+1,i,out,h,hb=>by
  have hi:i<v.f.length:=by omega
  have hm:=v.Bc
  have hw:=Bg (i:=i) (by omega)
  have hx:=Val.Dz (List.getElem_mem hi)
  have hd:=List.drop_eq_getElem_cons hi
  rw [hd] at hb ⊢
  rw [L5]
  simp only [Bh,Nat.mul_add] at hb
  have hq:=Gi hp (Gw v.f[i].1 (by omega))
  have hmk:O.Dp [(.int 1),.str v.f[i].1,(.int 0),(.str ⟨#[]⟩)]=some (Df v.f[i].1).enc :=rfl
  have hpos:=v.f[i].2.size_pos
  have hone:1≤(2+s.Ay) * v.f[i].2.size :=by
   have:1 * 1≤(2+s.Ay) * v.f[i].2.size :=Nat.mul_le_mul (by omega) hpos
   omega
  -- what this field adds
  have key: ∀es:List IV,es.length≤(2+s.Ay) * v.f[i].2.size →W Uq 2 [.list (p.map Stp.enc),.int i,s.enc,v.enc,.list (out++es)]=some [.list (out++(es++Ll (v.f.drop (i+1)) s p)++s.f.flatMap (M5 v p))]:=by
   intro es hes
   have h4:=Z0 s v p hv hs hsb hp hl ih n (i+1) (out++es) (by omega) (by rw [List.length_append];omega)
   rw [Apl]
   simp only [O.Aq,hw,Option.bind_some,h4,List.append_assoc]
  have sub: ∀t:Sch,Ly s v.f[i].1 =some t→((∃es,Qh v.f[i].2 t (p++ [Df v.f[i].1])=es∧W Aju 0 [t.enc,v.f[i].2.enc,.list ((p++ [Df v.f[i].1]).map Stp.enc)]=some [.list es]∧es.length≤(2+s.Ay) * v.f[i].2.size)):=by
   intro t ht
   have htm:=N1 ht
   have h1:=ih _ (List.getElem_mem hi) (by omega) t (hsb.sub ht) (by omega) _ hq (by simp;omega)
   have h2:=Qq v.f[i].2 t (p++ [Df v.f[i].1]) (hsb.sub ht)
   have h5:(2+t.Ay) * v.f[i].2.size ≤(2+s.Ay) * v.f[i].2.size :=Nat.mul_le_mul (by omega) (Nat.le_refl _)
   exact ⟨_,rfl,h1,by omega⟩
  have hap: ∀es:List IV,es.length≤(2+s.Ay) * v.f[i].2.size →(out.length+es.length) * 24≤Ax:=fun es h=>Ahg (by omega)
  rw [Afo]
  simp only [Val.Da,O.Ao,List.length_map,Option.bind_some,O.Ak,An,hi,decide_true,O.Ab,if_true,O.Aj,Int.natCast_nonneg,Int.toNat_natCast,List.getElem?_map,List.getElem?_eq_getElem hi,Option.map_some,Fld.Bv,hmk,Vu p _ (show p.length≤1099511627776 by omega),O.Ah,Aar s v.f[i].1 (by omega),O.Ds,Sch.I0,O.eq_int,O.A3,Aw,Am,Fld.C9,O.Eh,Fld.Mt,SFld.Acr]
  unfold Avp
  cases hit:s.it with
  | nil=>
   have hsub:Ly s v.f[i].1 =(s.fld v.f[i].1).map (·.s):=by unfold Ly;rw [hit]
   rw [hsub] at sub ⊢
   simp only [List.length_nil,Int.cast_ofNat_Int,decide_true,if_true]
   cases hf:s.fld v.f[i].1 with
   | none=>
    have hap1:=hap [Hi (p++ [Df v.f[i].1]) 1] (by simpa using hone)
    simp only [Option.isSome_none,Bool.not_false,if_true,Zq _ hq (show (p++ [Df v.f[i].1]).length ≤1099511627776 by simp;omega),O.Ah,O.Bl,hap1,Option.bind_some,Option.map_none]
    exact key _ (by simpa using hone)
   | some d=>
    simp only [Option.isSome_some,Bool.not_true,Bool.false_eq_true,if_false,Option.map_some,Option.getD_some,show ¬ (0:Int)=1 by omega,decide_false,ite_self]
    by_cases hk:v.f[i].2.k =0
    ·simp only [hk,decide_true,Bool.not_true,Bool.false_eq_true,if_false,if_true]
     have:=key [] (by simp)
     simpa using this
    ·obtain ⟨es,he,h1,h2⟩:=sub d.s (by rw [hf];rfl)
     simp only [hk,decide_false,Bool.not_false,if_true,if_false,h1,O.Ah,O.Bl,hap es h2,Option.bind_some,he]
     exact key es h2
  | cons t r=>
   have hr:r= []:=by have:=hsb.one;rw [hit] at this;simpa using this
   subst hr
   have hsub:Ly s v.f[i].1 =some t:=by unfold Ly;rw [hit]
   rw [hsub] at sub ⊢
   simp only [List.length_cons,List.length_nil,Nat.zero_add,Int.cast_ofNat_Int,show ¬ (1:Int)=0 by omega,decide_false,Bool.false_eq_true,if_false,decide_true,List.map_cons,List.map_nil,Int.le_refl,if_true,Int.toNat_zero,List.getElem?_cons_zero,Option.bind_some]
   by_cases hk:v.f[i].2.k =0
   ·simp only [hk,decide_true,Bool.not_true,Bool.false_eq_true,if_false,if_true]
    have:=key [] (by simp)
    simpa using this
   ·obtain ⟨es,he,h1,h2⟩:=sub t rfl
    simp only [Option.map_some,Option.bind_some,hk,decide_false,Bool.not_false,if_true,if_false,h1,O.Ah,O.Bl,hap es h2,Option.bind_some,he]
    exact key es h2
theorem Za (s:Sch) (v:Val) (p:List Stp) (hp: ∀s∈p,s.fits) (hl:p.length≤1099511627776) (hs:s.Ay≤1048576): ∀ (n i:Nat),i+n=s.en.length→
  W Aju 1 [.list (p.map Stp.enc),.int i,s.enc,v.enc]=some [.list (if decide (0<s.en.length)&& !(s.en.drop i).any (fun e=>decide (e=v.s)) then [Hi p 1] else [])]
 | 0,i,h=>by
  have h1: ¬ i<s.en.length:=by omega
  rw [Aep,List.drop_of_length_le (by omega)]
  simp only [Sch.Cq,O.Ao,List.length_map,Option.bind_some,O.Ak,An,h1,decide_false,O.Ab,Bool.false_eq_true,if_false,O.B4,Zq p hp hl,O.Ah,List.any_nil,Bool.not_false,Bool.and_true]
  have e:decide ((0:Int)<(s.en.length:Int))=decide (0<s.en.length):=by simp
  rw [e]
  split<;>simp
 | n+1,i,h=>by
  have hi:i<s.en.length:=by omega
  have hm:=s.Jv
  have hw:=Bg (i:=i) (by omega)
  have he:=Za s v p hp hl hs n (i+1) (by omega)
  rw [Aep,List.drop_eq_getElem_cons hi,List.any_cons]
  simp only [Sch.Cq,O.Ao,List.length_map,Option.bind_some,O.Ak,An,hi,decide_true,O.Ab,if_true,O.Aj,Int.natCast_nonneg,Int.toNat_natCast,List.getElem?_map,List.getElem?_eq_getElem hi,Option.map_some,Val.D7,O.Gf,O.Aq,hw,he]
  by_cases c:s.en[i]=v.s<;>simp [c]
theorem An3: ∀v:Val,Axn v:=by
 refine Val.ind fun v ih1 ih2 hv s hsb hs p hp hl=>?_
 have hat: ∀c,W Ahl 0 [.list (p.map Stp.enc),.int c]=some [.list [Hi p c]]:=Zq p hp (by omega)
 have hsz:=v.size_eq
 have hsm:=v.Ey
 have hlf:=s.Bc
 have hmul:(2+s.Ay) * v.size≤1048578 * 1048576:=Nat.mul_le_mul (by omega) (by omega)
 rw [Ani,Acw]
 simp only [Val.Bv,Sch.Bv,Option.bind_some,O.Eh,O.Ab,hat,O.Ah]
 by_cases hk:v.k=s.k
 ·simp only [hk,decide_true,Bool.not_true,Bool.false_eq_true,if_false,if_true,O.eq_int,Option.bind_some,O.Ab]
  by_cases k2:s.k=2
  ·simp only [k2,decide_true,if_true,Val.C9,Sch.C9,Sch.D7,O.Ak,O.B4,Option.bind_some,O.Ab,Aw,Am,Aa6]
   by_cases c1:v.n<s.mn<;>by_cases c2:s.mx<v.n<;>simp [c1,c2]
  ·by_cases k3:s.k=3
   ·have h1:=Za s v p hp (by omega) hs s.en.length 0 (by omega)
    simp only [Int.cast_ofNat_Int,List.drop_zero] at h1
    simp only [k3,show ¬ (3:Int)=2 by omega,decide_false,Bool.false_eq_true,if_false,decide_true,if_true,Val.D7,Sch.C9,Sch.D7,O.Co,O.Ak,O.B4,Option.bind_some,O.Ab,Aw,Am,h1]
    by_cases c1:(v.s.size:Int)<s.mn<;>by_cases c2:s.mx<(v.s.size:Int)<;>simp [c1,c2]
   ·by_cases k4:s.k=4
    ·obtain ⟨t,ht⟩:=List.length_eq_one_iff.1 (hsb.list k4)
     have hb:(2+s.Ay) * B8 v.l≤(2+s.Ay) * v.size:=Nat.mul_le_mul (Nat.le_refl _) (by omega)
     have hl1:=Qs p s v.l.length
     have h2:=Sz s t v p hv hs ht hsb hp hl ih1 v.l.length 0 (Aa6 p s v.l.length) (by omega) (by simp only [List.drop_zero];omega)
     simp only [Int.cast_ofNat_Int,List.drop_zero,List.take_zero] at h2
     have h0:W Tv 0 [s.enc,v.enc,.list (p.map Stp.enc)]=some [.list (Aa6 p s v.l.length++Mx v.l s.key t p [])]:=by
      rw [Am2]
      simp only [Val.Cq,Sch.C9,Sch.D7,O.Ao,List.length_map,O.Ak,O.B4,Option.bind_some,O.Ab,Aw,Am,hat,O.Ah,O.Bl,List.length_nil,List.length_singleton,List.nil_append,Ao7]
      have hap:(0+1) * 24≤Ax:=Ahg (by omega)
      simp only [hap,if_true,Option.bind_some]
      revert h2
      unfold Aa6
      by_cases c1:(v.l.length:Int)<s.mn<;>by_cases c2:s.mx<(v.l.length:Int)<;>simp [c1,c2]
     simp only [k4,show ¬ (4:Int)=2 by omega,show ¬ (4:Int)=3 by omega,decide_false,Bool.false_eq_true,if_false,decide_true,if_true,h0,O.Ah,ht,List.headD_cons]
    ·by_cases k5:s.k=5
     ·have hb:(2+s.Ay) * Bh v.f≤(2+s.Ay) * v.size:=Nat.mul_le_mul (Nat.le_refl _) (by omega)
      have h2:=Z0 s v p hv hs hsb hp hl ih2 v.f.length 0 [] (by omega) (by simp only [List.drop_zero,List.length_nil];omega)
      simp only [Int.cast_ofNat_Int,List.drop_zero,List.nil_append] at h2
      have h0:W Uq 0 [s.enc,v.enc,.list (p.map Stp.enc)]=some [.list (Ll v.f s p++s.f.flatMap (M5 v p))]:=by
       rw [Amx,h2]
      simp only [k5,show ¬ (5:Int)=2 by omega,show ¬ (5:Int)=3 by omega,show ¬ (5:Int)=4 by omega,decide_false,Bool.false_eq_true,if_false,decide_true,if_true,h0,O.Ah]
     ·simp only [k2,k3,k4,k5,decide_false,Bool.false_eq_true,if_false]
 ·simp only [hk,decide_false,Bool.not_false,if_true,if_false]
end Go.CT.Sch
namespace Go.CT.Sch
open Go.Proofs
def Ahi (m:List (ByteArray × Bool)):List IV:=m.map fun e=> .agg [.str e.1,.bool e.2]
def Ql (m:List (ByteArray × Bool)) (k:ByteArray):Option Bool:=(m.find? fun e=>decide (e.1=k)).map (·.2)
def Yz (k:ByteArray) (b:Bool):List (ByteArray × Bool)→List (ByteArray × Bool)
 | []=> [(k,b)]
 | e::r=>if e.1=k then (k,b)::r else e::Yz k b r
theorem Uc (a b:ByteArray):IV.Mi (.str a) (.str b)=some (decide (a=b)):=by
 have:(a.toList == b.toList)=decide (a=b):=by
  rw [Bool.eq_iff_iff,beq_iff_eq,decide_eq_true_iff];exact O.Pj
 simp only [IV.Mi,this]
theorem Ti (k:ByteArray): ∀m:List (ByteArray × Bool),Qn (.str k) (Ahi m)=some ((Ql m k).map .bool)
 | []=>rfl
 | e::r=>by
  have ih:=Ti k r
  simp only [Ahi,List.map_cons,Qn,Uc,Ql,List.find?_cons]
  by_cases c:k=e.1
  ·simp [c]
  ·have c': ¬ e.1=k:=fun h=>c h.symm
   simp only [c,c',decide_false]
   exact ih
theorem Aeu (k:ByteArray) (b:Bool): ∀m:List (ByteArray × Bool),Ahy (.str k) (.bool b) (Ahi m)=some (Ahi (Yz k b m))
 | []=>rfl
 | e::r=>by
  have ih:=Aeu k b r
  simp only [Ahi,List.map_cons,Ahy,Uc,Yz]
  by_cases c:k=e.1
  ·simp [c]
  ·have c': ¬ e.1=k:=fun h=>c h.symm
   simp only [c,c',decide_false,if_false]
   unfold Ahi at ih
   rw [ih];rfl
theorem Y8 (k j:ByteArray) (b:Bool): ∀m:List (ByteArray × Bool),Ql (Yz k b m) j=if k=j then some b else Ql m j
 | []=>by simp only [Yz,Ql,List.find?_cons,List.find?_nil];by_cases c:k=j<;>simp [c]
 | e::r=>by
  have ih:=Y8 k j b r
  unfold Ql at ih ⊢
  unfold Yz
  by_cases c:e.1=k
  ·simp only [c,if_true,List.find?_cons]
   by_cases c2:k=j<;>simp [c2]
  ·simp only [c,if_false,List.find?_cons]
   by_cases c2:e.1=j
   ·have: ¬ k=j:=fun h=>c (c2.trans h.symm)
    simp [c2,this]
   ·simp only [c2,decide_false,ih]
theorem Aon (m:List (ByteArray × Bool)) (k:ByteArray):O.Al5 (.bool false) (.list (Ahi m)) (.str k)=some (.bool ((Ql m k).getD false)):=by
 unfold O.Al5
 simp only [Prim.ev,Ti,Option.map_some]
 cases Ql m k<;>rfl
theorem Ao9 (m:List (ByteArray × Bool)) (k:ByteArray):O.Ahn (.list (Ahi m)) (.str k)=some (.bool (Ql m k).isSome):=by
 unfold O.Ahn
 simp only [Prim.ev,Ti,Option.map_some,Option.isSome_map]
theorem Aei (m:List (ByteArray × Bool)) (k:ByteArray) (b:Bool):O.Al8 (.list (Ahi m)) (.str k) (.bool b)=some (.list (Ahi (Yz k b m))):=by
 unfold O.Al8
 simp only [Prim.ev,Aeu,Option.map_some]
theorem Aje (v:Val) (nm:ByteArray) (hv:v.Ay≤4294967296):W F73 0 [v.enc,.str nm]=some (Ky (v.get nm)):=An1 v nm (Hf v (by omega))
theorem Aqe (v:Val) (nm:ByteArray) (hv:v.Ay≤1048576):W F72 0 [v.enc,.str nm]=some [.str (Hu v nm),.bool (isKey v nm)]:=by
 rw [Asu]
 unfold Hu isKey
 simp only [Aje v nm (by omega),Ky,Mq,O.Ab,O.eq_int,Option.bind_some,Aw,Am]
 cases (v.get nm).isSome<;>simp
theorem Af8 (s:Sch) (v:Val) (i:Int) (hv:v.Ay≤1048576):W F71 0 [s.enc,.int i,v.enc]=some [.agg [.int (if Gl v s.key then 3 else 2),.str (if Gl v s.key then s.key else Ar),.int (if Gl v s.key then 0 else i),.str (if Gl v s.key then Hu v s.key else Ar)]]:=by
 rw [Au4]
 have e:(if isKey v s.key=true then !decide (s.key=(⟨#[]⟩:ByteArray)) else false)=Gl v s.key:=by unfold Gl Ar;cases isKey v s.key<;>simp
 simp only [Sch.Da,Option.bind_some,Aqe v s.key hv,O.Ds,O.H5,O.Ab,Aw,Am,e,O.Ci]
 cases Gl v s.key<;>rfl
theorem Ack (s:Sch) (v:Val) (i:Nat) (hv:v.Ay≤1048576):W F71 0 [s.enc,.int i,v.enc]=some [(G5 s.key v i).enc]:=by
 rw [Af8 s v i hv]
 unfold G5
 cases Gl v s.key<;>rfl
theorem S6 (nm:ByteArray):W F79 0 [.str nm]=some [(Df nm).enc]:=by
 rw [Are];rfl
theorem Wz (p:List Stp) (s:Stp) (hl:p.length≤1073741824):W F74 0 [.list (p.map Stp.enc),s.enc]=some [.list ((p++ [s]).map Stp.enc)]:=by
 have h2:((p.map Stp.enc).length + [s.enc].length) * 48≤Ax:=by
  have:(p.length+1) * 48≤1099511627777 * 48:=Nat.mul_le_mul (by omega) (Nat.le_refl _)
  simp only [List.length_map,List.length_singleton]
  unfold Ax;omega
 have h1:O.Lc [.list (p.map Stp.enc)]=some [.list (p.map Stp.enc)]:=Gy (by rw [List.length_map];omega)
 rw [Auc]
 simp only [Av6,h1,O.Ah,Axh,O.Agp,O.Cb,Option.bind_some,O.Zx (n:=48) (by simp) h2,List.map_append,List.map_cons,List.map_nil]
theorem Aev (out:List IV) (p:List Stp) (c:Int) (hp: ∀s∈p,s.fits) (hl:p.length≤1099511627776) (ho:out.length≤4398046511103):W F50 0 [.list out,.list (p.map Stp.enc),.int c]=some [.list (out++ [Hi p c])]:=by
 have hap:(out.length+1) * 24≤Ax:=Ahg (by omega)
 rw [Aug]
 simp only [Xg p hp hl,O.Ds,O.Ci,O.Cb,Option.bind_some,O.Bl,List.length_singleton,hap,if_true,Hi]
theorem Al4 (s:Sch):W F77 0 [s.enc]=some [.bool (decide (s.k=5)&&decide (0<s.it.length))]:=by
 rw [Atr]
 by_cases k5:s.k=5<;>simp [k5]
theorem Ajo (s:Sch):W F29 0 [s.enc]=some [.bool (decide (s.k=5)&&decide (s.it.length=0))]:=by
 rw [Asd]
 by_cases k5:s.k=5<;>simp [k5]
theorem Adi (s:Sch) (nm:ByteArray) (hs:s.Ay≤1099511627776): ∀ (n i:Nat),i+n=s.f.length→
  ∃r:Int,W F27 1 [.list (s.f.map SFld.enc),.str nm,.int s.f.length,.int i]=some [.int r]∧
   ((((s.f.drop i).find? fun p=>decide (p.nm=nm))=none∧r<0)∨(∃j:Nat,r=j∧s.f[j]?=((s.f.drop i).find? fun p=>decide (p.nm=nm))∧((s.f.drop i).find? fun p=>decide (p.nm=nm)).isSome =true))
 | 0,i,h=>by
  rw [Akg]
  have h1: ¬ i<s.f.length:=by omega
  refine ⟨-1,by simp [h1],.inl ⟨by simp [List.drop_of_length_le (Nat.le_of_not_lt h1)],by omega⟩⟩
 | n+1,i,h=>by
  have hi:i<s.f.length:=by omega
  have hm:=s.Bc
  have hw:=Bg (i:=i) (by omega)
  obtain ⟨r,hr,h2⟩:=Adi s nm hs n (i+1) (by omega)
  rw [Akg,List.drop_eq_getElem_cons hi,List.find?_cons]
  simp only [O.Ak,An,hi,decide_true,Option.bind_some,O.Ab,if_true,O.Aj,Int.natCast_nonneg,Int.toNat_natCast,List.getElem?_map,List.getElem?_eq_getElem hi,Option.map_some,Ar4,SFld.Bv,O.Gf,O.Ah,O.Aq,hw,hr]
  by_cases c:s.f[i].nm =nm
  ·refine ⟨i,by simp [c],.inr ⟨i,rfl,by simp [c],by simp [c]⟩⟩
  ·have c':decide (s.f[i].nm =nm)=false:=by simpa using c
   simp only [c',Bool.false_eq_true,if_false]
   exact ⟨r,rfl,h2⟩
theorem Afr (s:Sch) (nm:ByteArray) (hs:s.Ay≤1099511627776):W F26 0 [s.enc,.str nm]=
  some [(if s.k=5∧s.it.length=0 then (s.fld nm).getD Mb else Mb).enc,.bool (decide (s.k=5∧s.it.length=0)&&(s.fld nm).isSome)]:=by
 obtain ⟨r,hr,h2⟩:=Adi s nm hs s.f.length 0 (by omega)
 have hr':W F27 0 [.list (s.f.map SFld.enc),.str nm]=some [.int r]:=by
  rw [Ar9]
  simpa using hr
 simp only [List.drop_zero] at h2
 have hf:(s.f.find? fun p=>decide (p.nm=nm))=s.fld nm:=rfl
 rw [hf] at h2
 have hst:=Ajo s
 rw [Aux]
 simp only [Sch.Hm,Option.bind_some,hr',O.Ah,O.Ak,O.Ab,hst,O.A3,O.Ci,Aw,Am]
 rcases h2 with ⟨h3,h4⟩ | ⟨j,rfl,h3,h4⟩
 ·rw [h3]
  simp only [h4,decide_true,if_true,Option.getD_none,ite_self,Option.isSome_none,Bool.and_false]
  rfl
 ·have hj: ¬ (j:Int)<0:=by omega
  obtain ⟨d,hd⟩:=Option.isSome_iff_exists.1 h4
  rw [hd] at h3 ⊢
  simp only [hj,decide_false,Bool.false_eq_true,if_false,O.Aj,Int.natCast_nonneg,if_true,Int.toNat_natCast,List.getElem?_map,h3,Option.map_some,Option.getD_some,Option.isSome_some,Bool.and_true,Option.bind_some]
  by_cases c1:s.k=5<;>by_cases c2:s.it.length=0<;>simp [c1,c2,Ur]
theorem Agd (v:Val) (nm:ByteArray) (hv:v.Ay≤1048576): ∃w:Val,W F80 0 [v.enc,.str nm]=some [.int w.k,.int w.n,.str w.s,.list (w.l.map Val.enc),.list (w.f.map Fld.enc),.bool (Kb v nm)]∧w=(v.get nm).getD Bf:=by
 rw [As1]
 unfold Kb
 refine ⟨_,?_,rfl⟩
 simp only [Aje v nm (by omega),Ky,Mq,O.Eh,O.Ab,Option.bind_some,Aw,Am]
 cases (v.get nm).isSome<;>simp
theorem Om (l:List ByteArray) (x:ByteArray) (hl:l.length≤1099511627776): ∀ (n i:Nat),i+n=l.length→
  ∃r:Int,W F69 1 [.list (l.map .str),.str x,.int l.length,.int i]=some [.int r]∧(decide (0≤r)=(l.drop i).any fun e=>decide (e=x))
 | 0,i,h=>by
  rw [Aht]
  have h1: ¬ i<l.length:=by omega
  refine ⟨-1,by simp [h1],by simp [List.drop_of_length_le (Nat.le_of_not_lt h1)]⟩
 | n+1,i,h=>by
  have hi:i<l.length:=by omega
  have hw:=Bg (i:=i) (by omega)
  obtain ⟨r,hr,h2⟩:=Om l x hl n (i+1) (by omega)
  rw [Aht,List.drop_eq_getElem_cons hi,List.any_cons]
  simp only [O.Ak,An,hi,decide_true,Option.bind_some,O.Ab,if_true,O.Aj,Int.natCast_nonneg,Int.toNat_natCast,List.getElem?_map,List.getElem?_eq_getElem hi,Option.map_some,O.Gf,O.Aq,hw,hr]
  by_cases c:x=l[i]
  ·refine ⟨i,by simp [c],by simp [c]⟩
  ·have c': ¬ l[i]=x:=fun h=>c h.symm
   simp only [c,decide_false,Bool.false_eq_true,if_false]
   exact ⟨r,rfl,by simp [c',h2]⟩
theorem Ab4 (l:List ByteArray) (x:ByteArray) (hl:l.length≤1099511627776):W F68 0 [.list (l.map .str),.str x]=some [.bool (l.any fun e=>decide (e=x))]:=by
 obtain ⟨r,hr,h2⟩:=Om l x hl l.length 0 (by omega)
 have hr':W F69 0 [.list (l.map .str),.str x]=some [.int r]:=by
  rw [Aty];simpa using hr
 rw [Arn]
 simp only [hr',O.Ah,O.Gr,Option.bind_some,h2,List.drop_zero]
def PgE (v:Val):Prop:=v.Ay≤1048576→ ∀ (s:Sch),SB s→s.Ay≤1048576→ ∀ (p:List Stp) (out:List IV),(∀x∈p,x.fits)→p.length+v.Ay≤1073741824→out.length+(2+s.Ay) * v.size≤4398046511103→
 W F49 0 [.list out,s.enc,v.enc,.list (p.map Stp.enc)]=some [.list (out++Qh v s p)]
theorem Zt (s t:Sch) (v:Val) (p:List Stp) (hv:v.Ay≤1048576) (hs:s.Ay≤1048576) (ht:s.it= [t]) (hsb:SB s) (hp: ∀s∈p,s.fits) (hl:p.length+v.Ay≤1073741824)
  (ih: ∀x∈v.l,PgE x): ∀ (n i:Nat) (out:List IV) (m:List (ByteArray × Bool)),i+n=v.l.length→out.length+(2+s.Ay) * B8 (v.l.drop i)≤4398046511103→
  (∀k,(Ql m k).getD false=(v.l.take i).any (sameKey s.key k))→
  W F70 2 [.list (p.map Stp.enc),.list (v.l.map Val.enc),.int v.l.length,.int i,s.enc,.list (Ahi m),.list out]=some [.list (out++Mx (v.l.drop i) s.key t p (v.l.take i))]
 | 0,i,out,m,h,hb,hM=>by
  have h1: ¬ i<v.l.length:=by omega
  rw [Ak9,List.drop_of_length_le (by omega),Sf]
  simp only [O.Ak,An,h1,decide_false,Option.bind_some,O.Ab,Bool.false_eq_true,if_false,List.append_nil]
 | n+1,i,out,m,h,hb,hM=>by
  have hi:i<v.l.length:=by omega
  have hm:=v.Du
  have hw:=Bg (i:=i) (by omega)
  have hx:=Val.Kf (List.getElem_mem hi)
  have htm:t∈s.it:=by rw [ht];simp
  have htmass:=Sch.I2 htm
  have hd:=List.drop_eq_getElem_cons hi
  have hkey:=s.V9
  rw [hd] at hb ⊢
  rw [Pw]
  have hti:(v.l.take i).length =i:=by simp;omega
  have htk:v.l.take i++ [v.l[i]]=v.l.take (i+1):=by simp
  rw [hti,htk]
  have hq:=Gi hp (U0 s.key v.l[i] i (by omega) (by omega))
  have hlen:=Qq v.l[i] t (p++ [G5 s.key v.l[i] i]) (hsb.Ru htm)
  have hdl:=Wx s.key (v.l.take i) v.l[i] (p++ [G5 s.key v.l[i] i])
  simp only [B8,Nat.mul_add] at hb
  have hsz:(2+t.Ay) * v.l[i].size +1≤(2+s.Ay) * v.l[i].size :=by
   have h1:=v.l[i].size_pos
   have h2:(3+t.Ay) * v.l[i].size ≤(2+s.Ay) * v.l[i].size :=Nat.mul_le_mul (by omega) (Nat.le_refl _)
   have h3:(3+t.Ay) * v.l[i].size =(2+t.Ay) * v.l[i].size +v.l[i].size :=by rw [show 3+t.Ay=(2+t.Ay)+1 by omega,Nat.add_mul,Nat.one_mul]
   omega
  have he1:=ih _ (List.getElem_mem hi) (by omega) t (hsb.Ru htm) (by omega) (p++ [G5 s.key v.l[i] i]) out hq (by simp;omega) (by omega)
  generalize hE:Qh v.l[i] t (p++ [G5 s.key v.l[i] i])=es1 at *
  have hany: ∀k,(v.l.take (i+1)).any (sameKey s.key k)=((v.l.take i).any (sameKey s.key k)||sameKey s.key k v.l[i]):=by
   intro k;rw [←htk,List.any_append];simp
  have go: ∀ (es:List IV) (m':List (ByteArray × Bool)),es.length≤(2+s.Ay) * v.l[i].size →(∀k,(Ql m' k).getD false=(v.l.take (i+1)).any (sameKey s.key k))→
    W F70 4 [.list (p.map Stp.enc),.list (v.l.map Val.enc),.int v.l.length,.int i,s.enc,.list (Ahi m'),.list (out++es)]=some [.list (out++(es++Mx (v.l.drop (i+1)) s.key t p (v.l.take (i+1))))]:=by
   intro es m' hes hM'
   have h4:=Zt s t v p hv hs ht hsb hp hl ih n (i+1) (out++es) m' (by omega) (by rw [List.length_append];omega) hM'
   rw [Ato]
   simp only [O.Aq,hw,Option.bind_some]
   rw [h4,List.append_assoc]
  have ek:(if isKey v.l[i] s.key=true then !decide (s.key=(⟨#[]⟩:ByteArray)) else false)=Gl v.l[i] s.key:=by unfold Gl Ar;cases isKey v.l[i] s.key<;>simp
  rw [Ak9]
  simp only [O.Ak,An,hi,decide_true,Option.bind_some,O.Ab,if_true,O.Aj,Int.natCast_nonneg,Int.toNat_natCast,List.getElem?_map,List.getElem?_eq_getElem hi,Option.map_some,Ack s v.l[i] i (by omega),O.Ah,Wz p (G5 s.key v.l[i] i) (by omega),Sch.I0,ht,List.map_cons,List.map_nil,Int.le_refl,Int.toNat_zero,List.getElem?_cons_zero,he1,Sch.Da,Aqe v.l[i] s.key (by omega),O.Ds,O.H5,Aw,Am,ek,Aon,Ao9,hM]
  unfold Ard
  cases hk:Gl v.l[i] s.key with
  | false=>
   simp only [Bool.false_eq_true,if_false,Bool.false_and,List.append_nil]
   refine go es1 m (by omega) fun k=>?_
   rw [hM,hany]
   simp [sameKey,hk]
  | true=>
   have hM': ∀k,(Ql (Yz (Hu v.l[i] s.key) true m) k).getD false=(v.l.take (i+1)).any (sameKey s.key k):=by
    intro k
    rw [Y8,hany]
    unfold sameKey at hM ⊢
    by_cases c:Hu v.l[i] s.key=k
    ·simp [c,hk]
    ·simp [c,hM]
   simp only [if_true,Bool.true_and]
   cases hdup:(v.l.take i).any (sameKey s.key (Hu v.l[i] s.key)) with
   | true=>
    simp only [if_true,Aev _ _ 8 hq (show (p++ [G5 s.key v.l[i] i]).length ≤1099511627776 by simp;omega) (show (out++es1).length ≤4398046511103 by rw [List.length_append];omega),O.Ah,Aiz,Aei,Option.bind_some]
    have h5:=go (es1++ [Hi (p++ [G5 s.key v.l[i] i]) 8]) _ (by simp;omega) hM'
    simp only [←List.append_assoc] at h5 ⊢
    exact h5
   | false=>
    simp only [Bool.false_eq_true,if_false,Aiz,Aei,Option.bind_some,List.append_nil]
    exact go es1 _ (by omega) hM'
theorem Xm (s:Sch) (v:Val) (p:List Stp) (hv:v.Ay≤1048576) (hs:s.Ay≤1048576) (hp: ∀s∈p,s.fits) (hl:p.length+v.Ay≤1073741824): ∀ (n i:Nat) (out:List IV),i+n=s.f.length→out.length+n≤4398046511103→
  W F78 3 [.list (p.map Stp.enc),.list (s.f.map SFld.enc),.int s.f.length,.int i,v.enc,.list out]=some [.list (out++(s.f.drop i).flatMap (M5 v p))]
 | 0,i,out,h,hb=>by
  have h1: ¬ i<s.f.length:=by omega
  rw [Ahw,List.drop_of_length_le (by omega)]
  simp only [Option.bind_some,O.Ak,An,h1,decide_false,O.Ab,Bool.false_eq_true,if_false,List.flatMap_nil,List.append_nil]
 | n+1,i,out,h,hb=>by
  have hi:i<s.f.length:=by omega
  have hm:=s.Bc
  have hw:=Bg (i:=i) (by omega)
  have hsf:=Sch.Dz (List.getElem_mem hi)
  have hq:=Gi hp (Gw s.f[i].nm (by omega))
  obtain ⟨w,hw1,_⟩:=Agd v s.f[i].nm hv
  rw [Ahw,List.drop_eq_getElem_cons hi,List.flatMap_cons]
  unfold M5
  have e:(if s.f[i].rq =true then !Kb v s.f[i].nm else false)=(s.f[i].rq && !Kb v s.f[i].nm):=by cases s.f[i].rq<;>simp
  simp only [Option.bind_some,O.Ak,An,hi,decide_true,O.Ab,if_true,O.Aj,Int.natCast_nonneg,Int.toNat_natCast,List.getElem?_map,List.getElem?_eq_getElem hi,Option.map_some,SFld.Bv,hw1,Mq,SFld.C9,O.A3,Aw,Am,S6,O.Ah,Wz p (Df s.f[i].nm) (by omega),Aev out _ 7 hq (show (p++ [Df s.f[i].nm]).length ≤1099511627776 by simp;omega) (by omega),Atp,O.Aq,hw,e]
  cases (s.f[i].rq && !Kb v s.f[i].nm) with
  | true=>
   have h1:=Xm s v p hv hs hp hl n (i+1) (out++ [Hi (p++ [Df s.f[i].nm]) 7]) (by omega) (by simp;omega)
   simp only [if_true,h1,List.append_assoc]
   rfl
  | false=>
   have h1:=Xm s v p hv hs hp hl n (i+1) out (by omega) (by omega)
   simp only [Bool.false_eq_true,if_false,h1,List.nil_append]
   rfl
theorem Apy (s:Sch) (v:Val) (p:List Stp) (hv:v.Ay≤1048576) (hs:s.Ay≤1048576) (hsb:SB s) (hp: ∀s∈p,s.fits) (hl:p.length+v.Ay≤1073741824) (ih: ∀x∈v.f,PgE x.2) (i:Nat) (hi:i<v.f.length) (out:List IV) (hb:out.length+(2+s.Ay) * v.f[i].2.size ≤4398046511103) (t:Sch) (ht:Ly s v.f[i].1 =some t):
  W F49 0 [.list out,t.enc,v.f[i].2.enc,.list ((p++ [Df v.f[i].1]).map Stp.enc)]=some [.list (out++Qh v.f[i].2 t (p++ [Df v.f[i].1]))]∧(Qh v.f[i].2 t (p++ [Df v.f[i].1])).length ≤(2+s.Ay) * v.f[i].2.size :=by
 have hm:=v.Bc
 have hx:=Val.Dz (List.getElem_mem hi)
 have hq:=Gi hp (Gw v.f[i].1 (by omega))
 have htm:=N1 ht
 have h2:=Qq v.f[i].2 t (p++ [Df v.f[i].1]) (hsb.sub ht)
 have h5:(2+t.Ay) * v.f[i].2.size ≤(2+s.Ay) * v.f[i].2.size :=Nat.mul_le_mul (by omega) (Nat.le_refl _)
 exact ⟨ih _ (List.getElem_mem hi) (by omega) t (hsb.sub ht) (by omega) _ out hq (by simp;omega) (by omega),by omega⟩
theorem Zh (s t:Sch) (v:Val) (p:List Stp) (hv:v.Ay≤1048576) (hs:s.Ay≤1048576) (ht:s.it= [t]) (hsb:SB s) (hp: ∀s∈p,s.fits) (hl:p.length+v.Ay≤1073741824)
  (ih: ∀x∈v.f,PgE x.2): ∀ (n i:Nat) (out:List IV),i+n=v.f.length→out.length+(2+s.Ay) * Bh (v.f.drop i)≤4398046511103→
  W F49 1 [.list (p.map Stp.enc),.list (v.f.map Fld.enc),.int v.f.length,.int i,s.enc,.list out]=some [.list (out++Ll (v.f.drop i) s p)]
 | 0,i,out,h,hb=>by
  have h1: ¬ i<v.f.length:=by omega
  rw [Akp,List.drop_of_length_le (by omega),Oh]
  simp only [O.Ak,An,h1,decide_false,Option.bind_some,O.Ab,Bool.false_eq_true,if_false,List.append_nil]
 | n+1,i,out,h,hb=>by
  have hi:i<v.f.length:=by omega
  have hm:=v.Bc
  have hw:=Bg (i:=i) (by omega)
  have hd:=List.drop_eq_getElem_cons hi
  rw [hd] at hb ⊢
  rw [L5]
  simp only [Bh,Nat.mul_add] at hb
  have hsub:Ly s v.f[i].1 =some t:=by unfold Ly;rw [ht]
  have key: ∀es:List IV,es.length≤(2+s.Ay) * v.f[i].2.size →W F49 2 [.list (p.map Stp.enc),.list (v.f.map Fld.enc),.int v.f.length,.int i,s.enc,.list (out++es)]=some [.list (out++(es++Ll (v.f.drop (i+1)) s p))]:=by
   intro es hes
   have h4:=Zh s t v p hv hs ht hsb hp hl ih n (i+1) (out++es) (by omega) (by rw [List.length_append];omega)
   rw [Arc]
   simp only [O.Aq,hw,Option.bind_some,h4,List.append_assoc]
  obtain ⟨h1,h2⟩:=Apy s v p hv hs hsb hp hl ih i hi out (by omega) t hsub
  rw [Akp]
  unfold Avp
  rw [hsub]
  simp only [O.Ak,An,hi,decide_true,Option.bind_some,O.Ab,if_true,O.Aj,Int.natCast_nonneg,Int.toNat_natCast,List.getElem?_map,List.getElem?_eq_getElem hi,Option.map_some,Fld.C9,O.Eh,Sch.I0,ht,List.map_cons,List.map_nil,Int.le_refl,Int.toNat_zero,List.getElem?_cons_zero,Fld.Mt,Fld.Bv,S6,O.Ah,Wz p (Df v.f[i].1) (by omega),h1]
  by_cases hk:v.f[i].2.k =0
  ·simp only [hk,decide_true,Bool.not_true,Bool.false_eq_true,if_false,if_true]
   have:=key [] (by simp)
   simpa using this
  ·simp only [hk,decide_false,Bool.not_false,if_true,if_false]
   exact key _ h2
theorem Aem (s:Sch) (v:Val) (p:List Stp) (hv:v.Ay≤1048576) (hs:s.Ay≤1048576) (hk5:s.k=5) (hit:s.it= []) (hsb:SB s) (hp: ∀s∈p,s.fits) (hl:p.length+v.Ay≤1073741824)
  (ih: ∀x∈v.f,PgE x.2): ∀ (n i:Nat) (out:List IV),i+n=v.f.length→out.length+s.f.length+(2+s.Ay) * Bh (v.f.drop i)≤4398046511103→
  W F78 1 [.list (p.map Stp.enc),.list (v.f.map Fld.enc),.int v.f.length,.int i,s.enc,v.enc,.list out]=some [.list (out++Ll (v.f.drop i) s p++s.f.flatMap (M5 v p))]
 | 0,i,out,h,hb=>by
  have h1: ¬ i<v.f.length:=by omega
  have h3:=Xm s v p hv hs hp hl s.f.length 0 out (by omega) (by omega)
  simp only [Int.cast_ofNat_Int,List.drop_zero] at h3
  rw [Aj8,List.drop_of_length_le (by omega),Oh]
  simp only [O.Ak,An,h1,decide_false,Option.bind_some,O.Ab,Bool.false_eq_true,if_false,Sch.Hm,O.Ao,List.length_map,h3,List.append_nil]
 | n+1,i,out,h,hb=>by
  have hi:i<v.f.length:=by omega
  have hm:=v.Bc
  have hw:=Bg (i:=i) (by omega)
  have hx:=Val.Dz (List.getElem_mem hi)
  have hd:=List.drop_eq_getElem_cons hi
  rw [hd] at hb ⊢
  rw [L5]
  simp only [Bh,Nat.mul_add] at hb
  have hpos:=v.f[i].2.size_pos
  have hone:1≤(2+s.Ay) * v.f[i].2.size :=by
   have:1 * 1≤(2+s.Ay) * v.f[i].2.size :=Nat.mul_le_mul (by omega) hpos
   omega
  have hq:=Gi hp (Gw v.f[i].1 (by omega))
  have hsub:Ly s v.f[i].1 =(s.fld v.f[i].1).map (·.s):=by unfold Ly;rw [hit]
  have key: ∀es:List IV,es.length≤(2+s.Ay) * v.f[i].2.size →W F78 2 [.list (p.map Stp.enc),.list (v.f.map Fld.enc),.int v.f.length,.int i,s.enc,v.enc,.list (out++es)]=some [.list (out++(es++Ll (v.f.drop (i+1)) s p)++s.f.flatMap (M5 v p))]:=by
   intro es hes
   have h4:=Aem s v p hv hs hk5 hit hsb hp hl ih n (i+1) (out++es) (by omega) (by rw [List.length_append];omega)
   rw [Ata]
   simp only [O.Aq,hw,Option.bind_some,h4,List.append_assoc]
  rw [Aj8]
  unfold Avp
  simp only [O.Ak,An,hi,decide_true,Option.bind_some,O.Ab,if_true,O.Aj,Int.natCast_nonneg,Int.toNat_natCast,List.getElem?_map,List.getElem?_eq_getElem hi,Option.map_some,Fld.Bv,S6,O.Ah,Wz p (Df v.f[i].1) (by omega),Afr s v.f[i].1 (by omega),O.Ds,hk5,hit,List.length_nil,and_self,decide_true,Bool.true_and,O.A3,Fld.C9,O.Eh,Fld.Mt,SFld.Acr]
  rw [hsub]
  cases hf:s.fld v.f[i].1 with
  | none=>
   simp only [Option.isSome_none,Bool.not_false,if_true,Aev out _ 1 hq (show (p++ [Df v.f[i].1]).length ≤1099511627776 by simp;omega) (by omega),O.Ah,Option.map_none]
   exact key _ (by simpa using hone)
  | some d=>
   simp only [Option.isSome_some,Bool.not_true,Bool.false_eq_true,if_false,Option.map_some,Option.getD_some]
   by_cases hk:v.f[i].2.k =0
   ·simp only [hk,decide_true,Bool.not_true,Bool.false_eq_true,if_false,if_true]
    have:=key [] (by simp)
    simpa using this
   ·obtain ⟨h1,h2⟩:=Apy s v p hv hs hsb hp hl ih i hi out (by omega) d.s (by rw [hsub,hf];rfl)
    simp only [hk,decide_false,Bool.not_false,if_true,if_false,h1,O.Ah]
    exact key _ h2
theorem Apg: ∀v:Val,PgE v:=by
 refine Val.ind fun v ih1 ih2 hv s hsb hs p out hp hl hb=>?_
 have hpos:=v.size_pos
 have hone:1≤(2+s.Ay) * v.size:=by
  have:1 * 1≤(2+s.Ay) * v.size:=Nat.mul_le_mul (by omega) hpos
  omega
 have hat: ∀c,W F50 0 [.list out,.list (p.map Stp.enc),.int c]=some [.list (out++ [Hi p c])]:=fun c=>Aev out p c hp (by omega) (by omega)
 have hsz:=v.size_eq
 have hlf:=s.Bc
 have hle:=s.Jv
 rw [Arj,Acw]
 simp only [Val.Bv,Sch.Bv,Option.bind_some,O.Eh,O.Ab,hat,O.Ah]
 by_cases hk:v.k=s.k
 ·simp only [hk,decide_true,Bool.not_true,Bool.false_eq_true,if_false,if_true,O.eq_int,Option.bind_some,O.Ab]
  by_cases k2:s.k=2
  ·simp only [k2,decide_true,if_true,Val.C9,Sch.C9,Sch.D7,O.Ak,O.B4,Option.bind_some,O.Ab,Aw,Am,Aa6]
   by_cases c1:v.n<s.mn<;>by_cases c2:s.mx<v.n<;>simp [c1,c2]
  ·by_cases k3:s.k=3
   ·simp only [k3,show ¬ (3:Int)=2 by omega,decide_false,Bool.false_eq_true,if_false,decide_true,if_true,Val.D7,Sch.C9,Sch.D7,Sch.Cq,O.Ao,List.length_map,O.Co,O.Ak,O.B4,Option.bind_some,O.Ab,Aw,Am,Ab4 s.en v.s (by omega),O.Ah,O.A3]
    have e:decide ((0:Int)<(s.en.length:Int))=decide (0<s.en.length):=by simp
    rw [e]
    by_cases c1:(v.s.size:Int)<s.mn<;>by_cases c2:s.mx<(v.s.size:Int)<;>by_cases c3:0<s.en.length<;>cases (s.en.any fun e=>decide (e=v.s))<;>simp [c1,c2,c3]
   ·by_cases k4:s.k=4
    ·obtain ⟨t,ht⟩:=List.length_eq_one_iff.1 (hsb.list k4)
     have hb2:(2+s.Ay) * (1+B8 v.l)≤(2+s.Ay) * v.size:=Nat.mul_le_mul (Nat.le_refl _) (by omega)
     rw [Nat.mul_add] at hb2
     have hl1:=Qs p s v.l.length
     have h2:=Zt s t v p hv hs ht hsb hp hl ih1 v.l.length 0 (out++Aa6 p s v.l.length) [] (by omega) (by simp only [List.drop_zero,List.length_append];omega) (fun k=>rfl)
     simp only [Int.cast_ofNat_Int,List.drop_zero,List.take_zero] at h2
     have h0:W F70 0 [.list out,s.enc,v.enc,.list (p.map Stp.enc)]=some [.list (out++(Aa6 p s v.l.length++Mx v.l s.key t p []))]:=by
      have h3: ∀o:List IV,o=out++Aa6 p s v.l.length→W F70 1 [.list (p.map Stp.enc),s.enc,v.enc,.list o]=some [.list (out++(Aa6 p s v.l.length++Mx v.l s.key t p []))]:=by
       intro o ho
       rw [Atj,ho]
       simp only [Val.Cq,O.Ao,List.length_map,Option.bind_some]
       rw [←List.append_assoc]
       exact h2
      rw [Aro]
      simp only [Val.Cq,Sch.C9,Sch.D7,O.Ao,List.length_map,O.Ak,O.B4,Option.bind_some,O.Ab,Aw,Am,hat,O.Ah]
      by_cases c1:(v.l.length:Int)<s.mn<;>by_cases c2:s.mx<(v.l.length:Int)<;>simp only [c1,c2,decide_true,decide_false,if_true,if_false,Bool.false_eq_true]<;>exact h3 _ (by simp [Aa6,c1,c2])
     simp only [k4,show ¬ (4:Int)=2 by omega,show ¬ (4:Int)=3 by omega,decide_false,Bool.false_eq_true,if_false,decide_true,if_true,h0,O.Ah,ht,List.headD_cons]
    ·by_cases k5:s.k=5
     ·have hb2:(2+s.Ay) * (1+Bh v.f)≤(2+s.Ay) * v.size:=Nat.mul_le_mul (Nat.le_refl _) (by omega)
      rw [Nat.mul_add] at hb2
      simp only [k5,show ¬ (5:Int)=2 by omega,show ¬ (5:Int)=3 by omega,show ¬ (5:Int)=4 by omega,decide_false,Bool.false_eq_true,if_false,decide_true,if_true,Al4,O.Ah,Bool.true_and,O.Ab]
      cases hit:s.it with
      | nil=>
       have h2:=Aem s v p hv hs k5 hit hsb hp hl ih2 v.f.length 0 out (by omega) (by simp only [List.drop_zero];omega)
       simp only [Int.cast_ofNat_Int,List.drop_zero] at h2
       have h0:W F78 0 [.list out,s.enc,v.enc,.list (p.map Stp.enc)]=some [.list (out++(Ll v.f s p++s.f.flatMap (M5 v p)))]:=by
        rw [At9,←List.append_assoc]
        simp only [Val.Da,O.Ao,List.length_map,Option.bind_some]
        exact h2
       simp only [List.length_nil,Nat.lt_irrefl,decide_false,Bool.false_eq_true,if_false,h0,O.Ah]
      | cons t r=>
       have hr:r= []:=by have:=hsb.one;rw [hit] at this;simpa using this
       subst hr
       have hnf:=hsb.nof (by rw [hit];simp)
       have h2:=Zh s t v p hv hs hit hsb hp hl ih2 v.f.length 0 out (by omega) (by simp only [List.drop_zero];omega)
       simp only [Int.cast_ofNat_Int,List.drop_zero] at h2
       simp only [List.length_cons,Nat.zero_lt_succ,decide_true,if_true,Val.Da,O.Ao,List.length_map,Option.bind_some,hnf,List.flatMap_nil,List.append_nil]
       exact h2
     ·simp only [k2,k3,k4,k5,decide_false,Bool.false_eq_true,if_false,Al4,O.Ah,Bool.false_and,O.Ab,List.append_nil]
 ·simp only [hk,decide_false,Bool.not_false,if_true,if_false]
theorem Ah6 (v:Val) (hv:v.Ay≤1048576) (s:Sch) (hsb:SB s) (hs:s.Ay≤1048576):W F48 0 [s.enc,v.enc]=some [.list (Qh v s [])]:=by
 have hsm:=v.Ey
 have hmul:(2+s.Ay) * v.size≤1048578 * 1048576:=Nat.mul_le_mul (by omega) (by omega)
 have h:=Apg v hv s hsb hs [] [] (by simp) (by simp;omega) (by simp;omega)
 simp only [List.map_nil,List.nil_append] at h
 rw [Ati]
 simp only [h,O.Ah]
end Go.CT.Sch
namespace Go.CT.Sch
open Go.Proofs
def Ht (o:Option ByteArray) (x:ByteArray):Bool:=match o with | none=>true | some q=>blt q x
def Amm (mn mx:Int):Option ByteArray→List ByteArray→Bool
 | _,[]=>true
 | o,x::r=>Ks x&&decide (mn≤x.size)&&decide ((x.size:Int)≤mx)&&Ht o x&&Amm mn mx (some x) r
def Avt (x:SFld):Bool:=x.df.all fun v=> !decide (v.k=0)&&v.valid&&decide ((Qh v x.s []).length =0)
def fOk (g:Sch→Bool):Option ByteArray→List SFld→Bool
 | _,[]=>true
 | o,x::r=>Cr x.nm&&Ht o x.nm&&g x.s&&decide (x.df.length≤1)&&Avt x&&fOk g (some x.nm) r
def E8 (s:Sch):Bool:=decide (s.key=Ar)&&decide (s.it.length=0)&&decide (s.f.length=0)
def Ag9 (s:Sch) (m:Int):Bool:=decide (0≤s.mn)&&decide (s.mn≤s.mx)&&decide (s.mx≤m)
def Sh (s:Sch):Bool:=decide (s.key=Ar)||(match s.it with | t::_=>decide (t.k=5)&&(t.fld s.key).isSome &&((t.fld s.key).getD Mb).rq &&decide (((t.fld s.key).getD Mb).s.k =3) | []=>false)
def Bm:Nat→Sch→Bool
 | 0,_=>false
 | d+1,s=>
  if s.k=1 then E8 s&&decide (s.mn=0)&&decide (s.mx=0)&&decide (s.en.length=0)
  else if s.k=2 then E8 s&&decide (-1000000000000000≤s.mn)&&decide (s.mn≤s.mx)&&decide (s.mx≤1000000000000000)&&decide (s.en.length=0)
  else if s.k=3 then E8 s&&Ag9 s 200&&Amm s.mn s.mx none s.en&&decide (s.en.length≤64)
  else if s.k=4 then Ag9 s 64&&decide (s.en.length=0)&&decide (s.f.length=0)&&decide (s.it.length=1)&&Sh s&&s.it.all (Bm d)
  else if s.k=5 then decide (s.mn=0)&&decide (s.mx=0)&&decide (s.en.length=0)&&decide (s.key=Ar)&&decide (s.it.length≤1)&&(decide (s.it.length=0)||decide (s.f.length=0))&&decide (s.f.length≤64)&&s.it.all (Bm d)&&fOk (Bm d) none s.f
  else false
def valid (s:Sch):Bool:=Bm 12 s
theorem Ac3 {g:Sch→Bool} : ∀ {l:List SFld} {o:Option ByteArray},fOk g o l=true→ ∀x∈l,Cr x.nm=true∧g x.s=true∧x.df.length≤1∧Avt x=true
 | [],_,_,x,hx=>by simp at hx
 | y::r,o,h,x,hx=>by
  simp only [fOk,Bool.and_eq_true,decide_eq_true_eq] at h
  rcases List.mem_cons.1 hx with rfl | hx
  ·exact ⟨h.1.1.1.1.1,h.1.1.1.2,h.1.1.2,h.1.2⟩
  ·exact Ac3 h.2 x hx
theorem Ia: ∀ (d:Nat) (s:Sch),Bm d s=true→SB s
 | 0,s,h=>by simp [Bm] at h
 | d+1,s,h=>by
  have leaf:s.k≠4→E8 s=true→SB s:=fun h4 h=>by
   simp only [E8,Bool.and_eq_true,decide_eq_true_eq] at h
   have h1:s.it= []:=List.length_eq_zero_iff.1 h.1.2
   have h2:s.f= []:=List.length_eq_zero_iff.1 h.2
   exact .mk s (by omega) (fun e=>absurd h1 e) (fun e=>absurd e h4) (by simp [h1]) (by simp [h2])
  unfold Bm at h
  split at h
  ·simp only [Bool.and_eq_true] at h;exact leaf (by omega) h.1.1.1
  ·split at h
   ·simp only [Bool.and_eq_true] at h;exact leaf (by omega) h.1.1.1.1
   ·split at h
    ·simp only [Bool.and_eq_true] at h;exact leaf (by omega) h.1.1.1
    ·split at h
     ·simp only [Bool.and_eq_true,decide_eq_true_eq,List.all_eq_true] at h
      have h2:s.f= []:=List.length_eq_zero_iff.1 h.1.1.1.2
      exact .mk s (by omega) (fun _=>h2) (fun _=>h.1.1.2) (fun x hx=>Ia d x (h.2 x hx)) (by simp [h2])
     ·split at h
      ·simp only [Bool.and_eq_true,decide_eq_true_eq,List.all_eq_true,Bool.or_eq_true] at h
       refine .mk s h.1.1.1.1.2 (fun e=>?_) (fun e=>by omega) (fun x hx=>Ia d x (h.1.2 x hx)) (fun p hp=>Ia d p.s (Ac3 h.2 p hp).2.1)
       rcases h.1.1.1.2 with h1 | h1
       ·exact absurd (List.length_eq_zero_iff.1 h1) e
       ·exact List.length_eq_zero_iff.1 h1
      ·cases h
def L7 (l:List SFld):Nat→Option ByteArray
 | 0=>none
 | i+1=>(l[i]?).map (·.nm)
def Oe (l:List ByteArray):Nat→Option ByteArray
 | 0=>none
 | i+1=>l[i]?
theorem Yu (s:Sch):W Aw7 0 [s.enc]=some [.bool (E8 s)]:=by
 rw [Am6]
 simp only [Sch.Da,Sch.I0,Sch.Hm,O.Ao,List.length_map,Option.bind_some,O.Gf,O.eq_int,O.Ab,Aw,Am,Ct]
 congr 3
 unfold E8
 rw [Bool.eq_iff_iff]
 simp [and_assoc]
theorem Uw (s:Sch) (hs:s.Ay≤1048576): ∀ (n i:Nat),i+n=s.en.length→
  W Avk 1 [.int i,s.enc]=some [.bool (Amm s.mn s.mx (Oe s.en i) (s.en.drop i)&&(E8 s&&Ag9 s 200&&decide (s.en.length≤64)))]
 | 0,i,h=>by
  have h1: ¬ i<s.en.length:=by omega
  rw [Adj,List.drop_of_length_le (by omega)]
  simp only [Sch.Cq,O.Ao,List.length_map,Option.bind_some,O.Ak,An,h1,decide_false,O.Ab,Bool.false_eq_true,if_false,Yu,O.Ah,Sch.C9,Sch.D7,O.Gr,O.Dt,Aw,Am]
  congr 3
  unfold Ag9 Amm
  rw [Bool.eq_iff_iff]
  simp [and_assoc]
  omega
 | n+1,i,h=>by
  have hi:i<s.en.length:=by omega
  have hm:=s.Jv
  have hw:=Bg (i:=i) (by omega)
  have ih:=Uw s hs n (i+1) (by omega)
  have hx:=Sch.Ajp (List.getElem_mem hi)
  have hpe:Oe s.en (i+1)=some s.en[i]:=by simp [Oe,hi]
  rw [hpe] at ih
  rw [Adj,List.drop_eq_getElem_cons hi]
  simp only [Amm,Sch.Cq,O.Ao,List.length_map,Option.bind_some,O.Ak,An,hi,decide_true,O.Ab,if_true,O.Aj,Int.natCast_nonneg,Int.toNat_natCast,List.getElem?_map,List.getElem?_eq_getElem hi,Option.map_some,O.Co,Ai0 s.en[i] (by omega),O.Ah,O.A3,Sch.C9,Sch.D7,O.B4,O.Aq,hw,ih]
  generalize (E8 s&&Ag9 s 200&&decide (s.en.length≤64))=R
  cases i with
  | zero=>
   simp only [Oe,Ht]
   by_cases c1:s.mn≤(s.en[0].size :Int)<;>by_cases c2:(s.en[0].size :Int)≤s.mx<;>cases Ks s.en[0]<;>simp [c1,c2,Int.not_lt.2,Int.not_le.1]
  | succ i=>
   have hi':i<s.en.length:=by omega
   have hw2:IntKind.i64.wrap (((i+1:Nat):Int) - 1)=i:=by rw [wrap64 (by omega) (by omega)];omega
   have hp:(0:Int)<((i+1:Nat):Int):=by omega
   simp only [Oe,List.getElem?_eq_getElem hi',Ht,O.B7,hw2,hp,decide_true,if_true,Int.natCast_nonneg,Int.toNat_natCast,Option.map_some,Option.bind_some,Wg]
   by_cases c1:s.mn≤(s.en[i+1].size :Int)<;>by_cases c2:(s.en[i+1].size :Int)≤s.mx<;>cases Ks s.en[i+1]<;>cases hb:blt s.en[i] s.en[i+1]<;>simp [c1,c2,Int.not_lt.2,Int.not_le.1,List.getElem?_eq_getElem hi',Wg,hb, -O.Aig]
theorem P1 (d:Nat) (s:Sch) (hd:d≤12) (hs:s.Ay≤1048576) (ih: ∀p∈s.f,W Amo 0 [p.s.enc,.int d]=some [.bool (Bm d p.s)]): ∀ (n i:Nat),i+n=s.f.length→
  W Aur 1 [.int ((d+1:Nat):Int),.int i,s.enc]=some [.bool (fOk (Bm d) (L7 s.f i) (s.f.drop i))]
 | 0,i,h=>by
  have h1: ¬ i<s.f.length:=by omega
  rw [Afu,List.drop_of_length_le (by omega)]
  simp only [Sch.Hm,O.Ao,List.length_map,Option.bind_some,O.Ak,An,h1,decide_false,O.Ab,Bool.false_eq_true,if_false,fOk]
 | n+1,i,h=>by
  have hi:i<s.f.length:=by omega
  have hm:=s.Bc
  have hw:=Bg (i:=i) (by omega)
  have hwd:IntKind.i64.wrap (((d+1:Nat):Int) - 1)=(d:Int):=by rw [wrap64 (by omega) (by omega)];omega
  have hx:=Sch.Dz (List.getElem_mem hi)
  have hrec:=P1 d s hd hs ih n (i+1) (by omega)
  have hpe:L7 s.f (i+1)=some s.f[i].nm :=by simp [L7,hi]
  rw [hpe] at hrec
  have hv:=ih _ (List.getElem_mem hi)
  -- the order
  have hord: ∀ (K:IV→Option IV),((O.gt (.int i) (.int 0)).bind fun x10=>
    (cnd x10 (
      (O.sub .i64 (.int i) (.int 1)).bind fun x11=>
      (O.index (.list (s.f.map SFld.enc)) x11).bind fun x12=>
      (O.proj 0 x12).bind fun x13=>
      (O.sLe (.str s.f[i].nm) x13).bind fun x14=>
      some x14) (some (.bool false))).bind K)=K (.bool (!Ht (L7 s.f i) s.f[i].nm)):=by
   intro K
   cases i with
   | zero=>simp [L7,Ht]
   | succ j=>
    have hj:j<s.f.length:=by omega
    have hw2:IntKind.i64.wrap (((j+1:Nat):Int) - 1)=j:=by rw [wrap64 (by omega) (by omega)];omega
    have hp:(0:Int)<((j+1:Nat):Int):=by omega
    simp only [L7,List.getElem?_eq_getElem hj,Option.map_some,Ht,O.B4,hp,decide_true,Option.bind_some,O.Ab,if_true,O.B7,hw2,O.Aj,Int.natCast_nonneg,Int.toNat_natCast,List.getElem?_map,SFld.Bv,Wg]
  have hix:O.index (.list (s.f.map SFld.enc)) (.int i)=some s.f[i].enc :=by
   simp only [O.Aj,Int.natCast_nonneg,if_true,Int.toNat_natCast,List.getElem?_map,List.getElem?_eq_getElem hi,Option.map_some]
  rw [Afu,List.drop_eq_getElem_cons hi]
  simp only [Sch.Hm,O.Ao,List.length_map,Option.bind_some,O.Ak,An,hi,decide_true,O.Ab,if_true,hix,SFld.Bv,fOk,Adn s.f[i].nm (by omega),O.Ah,O.A3]
  simp only [hord]
  simp only [SFld.Bv,SFld.Cq,SFld.Acr,O.Ah,O.A3,O.Ab,O.B7,hwd,hv,O.Aq,hw,hrec,O.Ao,List.length_map,O.B4,O.eq_int,Option.bind_some]
  cases Cr s.f[i].nm with
  | false=>simp
  | true=>
   cases Ht (L7 s.f i) s.f[i].nm with
   | false=>simp
   | true=>
    cases hsv:Bm d s.f[i].s with
    | false=>simp
    | true=>
     by_cases hlen:s.f[i].df.length ≤1
     ·have hlen': ¬ (1:Int)<s.f[i].df.length :=by omega
      have hsb:=Ia d _ hsv
      unfold Avt
      by_cases h1:s.f[i].df.length =1
      ·obtain ⟨v,hv1⟩:=List.length_eq_one_iff.1 h1
       have hvm:=Sch.Ai1 (List.getElem_mem hi) (show v∈s.f[i].df by rw [hv1];simp)
       have he:=An3 v (by omega) s.f[i].s hsb (by omega) [] (by simp) (by simp;omega)
       simp only [List.map_nil] at he
       have hV:=X6 v (by omega)
       rw [hv1]
       by_cases k0:v.k=0
       ·simp [k0]
       ·cases hval:v.valid with
        | false=>simp [k0,hV,hval]
        | true=>
         by_cases hz:(Qh v s.f[i].s []).length =0
         ·simp [k0,hV,hval,he,List.length_eq_zero_iff.1 hz]
         ·have hz':0<(Qh v s.f[i].s []).length :=Nat.pos_of_ne_zero hz
          have hz2: ¬ Qh v s.f[i].s []= []:=fun h=>hz (by rw [h];rfl)
          simp [k0,hV,hval,he,hz',hz2]
      ·have h0:s.f[i].df = []:=List.length_eq_zero_iff.1 (by omega)
       simp [h0]
     ·have hlen':(1:Int)<s.f[i].df.length :=by omega
      simp [hlen',hlen]
theorem egL (mn mx:Int) (a b c:Nat):(if (if (if (if (if decide (mn<0)=true then true else decide (mx<mn))=true then true else decide ((64:Int)<mx))=true then true else decide ((0:Int)<(a:Int)))=true then true else decide ((0:Int)<(b:Int)))=true then true else !decide ((c:Int)=1))= !(decide (0≤mn)&&decide (mn≤mx)&&decide (mx≤64)&&decide (a=0)&&decide (b=0)&&decide (c=1)):=by
 rw [Bool.eq_iff_iff];simp;omega
theorem egS (mn mx:Int) (a b c:Nat) (k:Bool):(if (if (if (if (if (if (!decide (mn=0))=true then true else !decide (mx=0))=true then true else decide ((0:Int)<(a:Int)))=true then true else !k)=true then true else decide ((1:Int)<(b:Int)))=true then true else if decide ((b:Int)=1)=true then decide ((0:Int)<(c:Int)) else false)=true then true else decide ((64:Int)<(c:Int)))
  = !(decide (mn=0)&&decide (mx=0)&&decide (a=0)&&k&&decide (b≤1)&&(decide (b=0)||decide (c=0))&&decide (c≤64)):=by
 cases k
 ·simp
 ·rw [Bool.eq_iff_iff];simp;omega
theorem Pu: ∀ (d:Nat) (s:Sch),d≤12→s.Ay≤1048576→W Amo 0 [s.enc,.int d]=some [.bool (Bm d s)]
 | 0,s,hd,hs=>by rw [Afe];simp [Bm]
 | d+1,s,hd,hs=>by
  have hd0: ¬ ((d+1:Nat):Int)=0:=by omega
  have hwd:IntKind.i64.wrap (((d+1:Nat):Int) - 1)=(d:Int):=by rw [wrap64 (by omega) (by omega)];omega
  have hit: ∀t∈s.it,W Amo 0 [t.enc,.int d]=some [.bool (Bm d t)]:=fun t ht=>Pu d t (by omega) (by have:=Sch.I2 ht;omega)
  have hif: ∀p∈s.f,W Amo 0 [p.s.enc,.int d]=some [.bool (Bm d p.s)]:=fun p hp=>Pu d p.s (by omega) (by have:=Sch.Dz hp;omega)
  rw [Afe]
  unfold Bm
  simp only [O.eq_int,hd0,decide_false,Option.bind_some,O.Ab,Bool.false_eq_true,if_false,Sch.Bv,Sch.C9,Sch.D7,Sch.Cq,Yu,O.Ah,O.Dt,O.Ao,List.length_map]
  by_cases k1:s.k=1
  ·simp only [k1,decide_true,if_true,Option.bind_some,O.Ab,Aw,Am]
   congr 3
   rw [Bool.eq_iff_iff];simp [and_assoc]
  ·by_cases k2:s.k=2
   ·simp only [k2,show ¬ (2:Int)=1 by omega,decide_true,decide_false,Bool.false_eq_true,if_false,if_true,Option.bind_some,O.Ab,Aw,Am]
    congr 3
    rw [Bool.eq_iff_iff];simp [and_assoc]
   ·by_cases k3:s.k=3
    ·have ht:=Uw s hs s.en.length 0 (by omega)
     simp only [Int.cast_ofNat_Int,List.drop_zero,Oe] at ht
     simp only [k3,show ¬ (3:Int)=1 by omega,show ¬ (3:Int)=2 by omega,decide_true,decide_false,Bool.false_eq_true,if_false,if_true,Aow,ht,O.Ah]
     congr 3
     generalize Amm s.mn s.mx none s.en=a
     cases a<;>cases E8 s<;>cases Ag9 s 200<;>simp
    ·by_cases k4:s.k=4
     ·have hl:W Aue 0 [s.enc,.int ((d+1:Nat):Int)]=some [.bool (Ag9 s 64&&decide (s.en.length=0)&&decide (s.f.length=0)&&decide (s.it.length=1)&&Sh s&&s.it.all (Bm d))]:=by
       rw [Apu]
       simp only [Sch.C9,Sch.D7,Sch.Cq,Sch.I0,Sch.Hm,O.Ao,List.length_map,Option.bind_some,O.Ak,O.B4,O.Eh,O.Ab,Aw,Am]
       have eg:(if (if (if (if (if decide (s.mn<0)=true then true else decide (s.mx<s.mn))=true then true else decide ((64:Int)<s.mx))=true then true else decide ((0:Int)<(s.en.length:Int)))=true then true else decide ((0:Int)<(s.f.length:Int)))=true then true else !decide ((s.it.length:Int)=1))= !(Ag9 s 64&&decide (s.en.length=0)&&decide (s.f.length=0)&&decide (s.it.length=1)):=by
        exact egL s.mn s.mx s.en.length s.f.length s.it.length
       rw [eg]
       cases hg:(Ag9 s 64&&decide (s.en.length=0)&&decide (s.f.length=0)&&decide (s.it.length=1)) with
       | false=>simp
       | true=>
        simp only [Bool.and_eq_true,decide_eq_true_eq] at hg
        obtain ⟨t,ht⟩:=List.length_eq_one_iff.1 hg.2
        have htm:t∈s.it:=by rw [ht];simp
        have hmt:=Sch.I2 htm
        have hl1:W Aue 1 [.int ((d+1:Nat):Int),s.enc]=some [.bool (Bm d t)]:=by
         rw [Ape]
         simp only [Sch.I0,ht,List.map_cons,List.map_nil,Option.bind_some,O.Aj,Int.le_refl,if_true,Int.toNat_zero,List.getElem?_cons_zero,O.B7,hwd,hit t htm,O.Ah]
        have hfd:=Aar t s.key (by omega)
        simp only [Bool.not_true,Bool.false_eq_true,if_false,Sch.Da,Option.bind_some,O.H5,O.Ab,hl1,ht,List.map_cons,List.map_nil,O.Aj,Int.le_refl,if_true,Int.toNat_zero,List.getElem?_cons_zero,hfd,O.Ds,Sch.Bv,SFld.C9,SFld.Da,O.Eh,O.A3,Aw,Am,List.all_cons,List.all_nil,Bool.and_true,Bool.true_and,Sh,Ct]
        by_cases c:s.key=Ar
        ·simp [c]
        ·by_cases c2:t.k=5<;>by_cases c3:((t.fld s.key).getD Mb).s.k =3<;>cases (t.fld s.key).isSome<;>cases ((t.fld s.key).getD Mb).rq<;>simp [c,c2,c3]
      simp only [k4,show ¬ (4:Int)=1 by omega,show ¬ (4:Int)=2 by omega,show ¬ (4:Int)=3 by omega,decide_true,decide_false,Bool.false_eq_true,if_false,if_true,hl,O.Ah]
     ·by_cases k5:s.k=5
      ·have hst:=P1 d s (by omega) hs hif s.f.length 0 (by omega)
       simp only [Int.cast_ofNat_Int,List.drop_zero,L7] at hst
       have hl:W Aur 0 [s.enc,.int ((d+1:Nat):Int)]=some [.bool (decide (s.mn=0)&&decide (s.mx=0)&&decide (s.en.length=0)&&decide (s.key=Ar)&&decide (s.it.length≤1)&&(decide (s.it.length=0)||decide (s.f.length=0))&&decide (s.f.length≤64)&&s.it.all (Bm d)&&fOk (Bm d) none s.f)]:=by
        rw [Anx]
        simp only [Sch.C9,Sch.D7,Sch.Cq,Sch.Da,Sch.I0,Sch.Hm,O.Ao,List.length_map,Option.bind_some,O.H5,O.B4,O.eq_int,O.Eh,O.Ab,Aw,Am,Ct]
        have eg:(if (if (if (if (if (if (!decide (s.mn=0))=true then true else !decide (s.mx=0))=true then true else decide ((0:Int)<(s.en.length:Int)))=true then true else !decide (s.key=Ar))=true then true else decide ((1:Int)<(s.it.length:Int)))=true then true else if decide ((s.it.length:Int)=1)=true then decide ((0:Int)<(s.f.length:Int)) else false)=true then true else decide ((64:Int)<(s.f.length:Int)))
          = !(decide (s.mn=0)&&decide (s.mx=0)&&decide (s.en.length=0)&&decide (s.key=Ar)&&decide (s.it.length≤1)&&(decide (s.it.length=0)||decide (s.f.length=0))&&decide (s.f.length≤64)):=by
         exact egS s.mn s.mx s.en.length s.it.length s.f.length _
        rw [eg]
        cases hg:(decide (s.mn=0)&&decide (s.mx=0)&&decide (s.en.length=0)&&decide (s.key=Ar)&&decide (s.it.length≤1)&&(decide (s.it.length=0)||decide (s.f.length=0))&&decide (s.f.length≤64)) with
        | false=>simp
        | true=>
         simp only [Bool.and_eq_true,Bool.or_eq_true,decide_eq_true_eq] at hg
         by_cases h1:s.it.length=1
         ·obtain ⟨t,ht⟩:=List.length_eq_one_iff.1 h1
          have hf:s.f= []:=by
           rcases hg.1.2 with h | h
           ·omega
           ·exact List.length_eq_zero_iff.1 h
          have hh:=hit t (by rw [ht];simp)
          have hwd2:IntKind.i64.wrap (d:Int)=(d:Int):=wrap64 (by omega) (by omega)
          simp [ht,hf,hwd2,hh,fOk]
         ·have h0:s.it= []:=List.length_eq_zero_iff.1 (by omega)
          push_cast at hst
          simp [h0,hst]
       simp only [k5,show ¬ (5:Int)=1 by omega,show ¬ (5:Int)=2 by omega,show ¬ (5:Int)=3 by omega,show ¬ (5:Int)=4 by omega,decide_true,decide_false,Bool.false_eq_true,if_false,if_true,hl,O.Ah]
      ·simp only [k1,k2,k3,k4,k5,decide_false,Bool.false_eq_true,if_false]
theorem Agv (s:Sch) (hs:s.Ay≤1048576):W Axu 0 [s.enc]=some [.bool s.valid]:=by
 rw [Anb]
 have:W Amo 0 [s.enc,.int 12]=some [.bool s.valid]:=Pu 12 s (by omega) hs
 simp only [this,O.Ah]
end Go.CT.Sch
namespace Go.CT.Sch
open Go.Proofs
theorem Abt (nm:ByteArray):(Avd [(nm,Bf)]).valid =Cr nm:=by
 have h1:T1 [(nm,Bf)]= [(nm,Bf)]:=Asz (List.pairwise_singleton _ _)
 unfold Avd
 rw [h1]
 unfold Val.valid
 have h2:Bn 11 Bf=true:=by decide
 simp only [Bn,Val.Aw6,Val.Av8,Val.Akq,Val.Abc,Val.Acy,En,List.all_cons,List.all_nil,h2,rising,Val.size,B8,Bh,Bf]
 simp
theorem Anu (nm:ByteArray) (hn:nm.size≤1048576) (K:IV→Option (List IV)):(O.Dp [.str nm,(.int 0),(.int 0),(.str ⟨#[]⟩),(.list []),(.list [])]).bind (fun x8=>
  (O.Dr [x8]).bind fun x9=>
  calls (W F34 0 [x9]) 5 fun x10 x11 x12 x13 x14=>
  (O.Dp [x10,x11,x12,x13,x14]).bind fun x15=>
  calls (W F19 0 [x15]) 1 K)=K (.bool (Cr nm)):=by
 have e:IV.agg [.str nm,(.int 0),(.int 0),(.str ⟨#[]⟩),(.list []),(.list [])]=Fld.enc (nm,Bf):=rfl
 have hmass:Cn [(nm,Bf)]≤4294967200:=by
  rw [Bw,D9,Val.Bj]
  simp only [Bf,Val.Akq,Val.Abc,Val.Acy,E9,D9,show Ar.size=0 from rfl];omega
 have h1:=Atz [(nm,Bf)] hmass
 have h2:(Avd [(nm,Bf)]).Ay ≤1099511627776:=by have:=Ai5 [(nm,Bf)];omega
 have h3:=Oj _ h2
 rw [Abt] at h3
 rw [Val.Ck] at h1
 simp only [List.map_cons,List.map_nil] at h1
 simp only [O.Ci,O.Cb,Option.bind_some,e,h1,O.E3,Val.Hw,h3,O.Ah]
theorem Agz (s:Sch) (m:Int):W F16 0 [s.enc,.int m]=some [.bool (Ag9 s m)]:=by
 rw [Asg]
 simp only [Sch.C9,Sch.D7,O.Dt,Option.bind_some,O.Ab,Aw,Am]
 congr 3
 unfold Ag9
 rw [Bool.eq_iff_iff];simp [and_assoc]
theorem X5 (s:Sch) (hs:s.Ay≤1048576): ∀ (n i:Nat),i+n=s.en.length→
  W F17 1 [.list (s.en.map .str),.int s.en.length,.int i,s.enc]=some [.bool (Amm s.mn s.mx (Oe s.en i) (s.en.drop i)&&decide (s.en.length≤64))]
 | 0,i,h=>by
  have h1: ¬ i<s.en.length:=by omega
  rw [Amj,List.drop_of_length_le (by omega)]
  simp only [Sch.Cq,O.Ao,List.length_map,Option.bind_some,O.Ak,An,h1,decide_false,O.Ab,Bool.false_eq_true,if_false,O.Dt,Amm,Bool.true_and]
  congr 3
  rw [Bool.eq_iff_iff];simp;omega
 | n+1,i,h=>by
  have hi:i<s.en.length:=by omega
  have hm:=s.Jv
  have hw:=Bg (i:=i) (by omega)
  have ih:=X5 s hs n (i+1) (by omega)
  have hx:=Sch.Ajp (List.getElem_mem hi)
  have hpe:Oe s.en (i+1)=some s.en[i]:=by simp [Oe,hi]
  rw [hpe] at ih
  have e:IV.agg [.int 3,.int 0,.str s.en[i],.list [],.list []]=Val.enc ⟨3,0,s.en[i],[],[]⟩:=rfl
  have hv:=Oj ⟨3,0,s.en[i],[],[]⟩ (by rw [Val.Bj];simp [E9,D9];omega)
  rw [Zd] at hv
  have hix:O.index (.list (s.en.map .str)) (.int i)=some (.str s.en[i]):=by
   simp only [O.Aj,Int.natCast_nonneg,if_true,Int.toNat_natCast,List.getElem?_map,List.getElem?_eq_getElem hi,Option.map_some]
  have hord: ∀ (K:IV→Option IV),((O.gt (.int i) (.int 0)).bind fun x10=>
    (cnd x10 (
      (O.proj 3 s.enc).bind fun x11=>
      (O.sub .i64 (.int i) (.int 1)).bind fun x12=>
      (O.index x11 x12).bind fun x13=>
      (O.sGe x13 (.str s.en[i])).bind fun x14=>
      some x14) (some (.bool false))).bind K)=K (.bool (!Ht (Oe s.en i) s.en[i])):=by
   intro K
   cases i with
   | zero=>simp [Oe,Ht]
   | succ j=>
    have hj:j<s.en.length:=by omega
    have hw2:IntKind.i64.wrap (((j+1:Nat):Int) - 1)=j:=by rw [wrap64 (by omega) (by omega)];omega
    have hp:(0:Int)<((j+1:Nat):Int):=by omega
    simp only [Sch.Cq,Oe,List.getElem?_eq_getElem hj,Option.map_some,Ht,O.B4,hp,decide_true,Option.bind_some,O.Ab,if_true,O.B7,hw2,O.Aj,Int.natCast_nonneg,Int.toNat_natCast,List.getElem?_map,Ab1]
  rw [Amj,List.drop_eq_getElem_cons hi]
  simp only [Amm,Option.bind_some,O.Ak,An,hi,decide_true,O.Ab,if_true,hix]
  simp only [hord]
  simp only [O.Co,Sch.C9,Sch.D7,Option.bind_some,O.Ak,O.B4,O.Ab,Abp,O.E3,O.Ci,e,hv,O.Ah,O.A3,O.Aq,hw,ih]
  by_cases c1:s.mn≤(s.en[i].size :Int)<;>by_cases c2:(s.en[i].size :Int)≤s.mx<;>cases Ks s.en[i]<;>cases Ht (Oe s.en i) s.en[i]<;>simp [c1,c2,Int.not_lt.2,Int.not_le.1]
theorem Asr (s:Sch) (hs:s.Ay≤1048576):W F17 0 [s.enc]=some [.bool (Amm s.mn s.mx none s.en&&decide (s.en.length≤64))]:=by
 have h:=X5 s hs s.en.length 0 (by omega)
 simp only [Int.cast_ofNat_Int,List.drop_zero,Oe] at h
 rw [Asx]
 simp only [Sch.Cq,O.Ao,List.length_map,Option.bind_some]
 exact h
theorem Apm (s t:Sch) (hs:s.Ay≤1048576) (ht:s.it= [t]) (hsb:SB t):W F25 0 [s.enc]=some [.bool (Sh s)]:=by
 have hmt:=Sch.I2 (show t∈s.it by rw [ht];simp)
 have hfd:=Afr t s.key (by omega)
 rw [Auj]
 unfold Sh
 simp only [Sch.I0,ht,List.map_cons,List.map_nil,O.Aj,Int.le_refl,if_true,Int.toNat_zero,List.getElem?_cons_zero,Option.bind_some,Sch.Da,hfd,O.Ds,O.Gf,O.Ab,SFld.C9,SFld.Da,O.eq_int,Aw,Am,Ct]
 congr 3
 by_cases c:s.key=Ar
 ·simp [c]
 ·by_cases c2:t.k=5
  ·by_cases c3:t.it.length=0
   ·cases (t.fld s.key).isSome<;>cases hrq:((t.fld s.key).getD Mb).rq<;>simp [c,c2,c3,hrq]
   ·have hnf:t.f= []:=hsb.nof fun e=>c3 (by rw [e];rfl)
    have hfl:t.fld s.key=none:=by unfold Sch.fld;rw [hnf];rfl
    simp [c,c2,c3,hfl]
  ·simp [c,c2]
theorem Rq (d:Nat) (s:Sch) (hd:d≤12) (hs:s.Ay≤1048576) (i:Nat) (hi:i<s.f.length) (hsb:SB s.f[i].s): ∀ (n j:Nat),j+n=s.f[i].df.length →
  W F33 2 [.int d,.list (s.f.map SFld.enc),.int s.f.length,.int i,.list (s.f[i].df.map Val.enc),.int s.f[i].df.length,.int j,s.enc,s.f[i].enc]
   =if ((s.f[i].df.drop j).all fun v=> !decide (v.k=0)&&v.valid&&decide ((Qh v s.f[i].s []).length =0))=true then W F33 1 [.int d,.list (s.f.map SFld.enc),.int s.f.length,.int ((i+1:Nat):Int),s.enc] else some [.bool false]
 | 0,j,h=>by
  have h1: ¬ j<s.f[i].df.length :=by omega
  have hm:=s.Bc
  have hw:=Bg (i:=i) (by omega)
  rw [Alm,List.drop_of_length_le (by omega)]
  simp only [O.Ak,An,h1,decide_false,Option.bind_some,O.Ab,Bool.false_eq_true,if_false,O.Aq,hw,List.all_nil,if_true]
 | n+1,j,h=>by
  have hj:j<s.f[i].df.length :=by omega
  have hm:=Sch.Dz (List.getElem_mem hi)
  have hl:=Eo (List.mem_map_of_mem (f:=Val.enc) (List.getElem_mem hj))
  have hvm:=Sch.Ai1 (List.getElem_mem hi) (List.getElem_mem hj)
  have hlen:s.f[i].df.length ≤Gd s.f[i].df :=by have:=Cs (s.f[i].df.map Val.enc);rw [List.length_map] at this;exact this
  have hw:=Bg (i:=j) (by omega)
  have ih:=Rq d s hd hs i hi hsb n (j+1) (by omega)
  have hV:=Oj s.f[i].df[j] (by omega)
  have he:=Ah6 s.f[i].df[j] (by omega) s.f[i].s hsb (by omega)
  rw [Alm,List.drop_eq_getElem_cons hj,List.all_cons]
  simp only [O.Ak,An,hj,decide_true,Option.bind_some,O.Ab,if_true,O.Aj,Int.natCast_nonneg,Int.toNat_natCast,List.getElem?_map,List.getElem?_eq_getElem hj,Option.map_some,Val.Bv,O.eq_int,hV,O.Ah,O.A3,SFld.Acr,he,O.Ao,O.B4,O.Aq,hw,ih]
  by_cases k0:s.f[i].df[j].k =0
  ·simp [k0]
  ·cases hval:s.f[i].df[j].valid with
   | false=>simp [k0]
   | true=>
    by_cases hz:(Qh s.f[i].df[j] s.f[i].s []).length =0
    ·simp [k0,List.length_eq_zero_iff.1 hz]
    ·have hz':0<(Qh s.f[i].df[j] s.f[i].s []).length :=Nat.pos_of_ne_zero hz
     have hz2: ¬ Qh s.f[i].df[j] s.f[i].s []= []:=fun h=>hz (by rw [h];rfl)
     simp [k0,hz',hz2]
theorem Tb (d:Nat) (s:Sch) (hd:d≤12) (hs:s.Ay≤1048576) (ih: ∀p∈s.f,W F15 0 [p.s.enc,.int d]=some [.bool (Bm d p.s)]): ∀ (n i:Nat),i+n=s.f.length→
  W F33 1 [.int d,.list (s.f.map SFld.enc),.int s.f.length,.int i,s.enc]=some [.bool (fOk (Bm d) (L7 s.f i) (s.f.drop i))]
 | 0,i,h=>by
  have h1: ¬ i<s.f.length:=by omega
  rw [Aj3,List.drop_of_length_le (by omega)]
  simp only [O.Ak,An,h1,decide_false,Option.bind_some,O.Ab,Bool.false_eq_true,if_false,fOk]
 | n+1,i,h=>by
  have hi:i<s.f.length:=by omega
  have hm:=s.Bc
  have hx:=Sch.Dz (List.getElem_mem hi)
  have hrec:=Tb d s hd hs ih n (i+1) (by omega)
  have hpe:L7 s.f (i+1)=some s.f[i].nm :=by simp [L7,hi]
  rw [hpe] at hrec
  have hv:=ih _ (List.getElem_mem hi)
  have hix:O.index (.list (s.f.map SFld.enc)) (.int i)=some s.f[i].enc :=by
   simp only [O.Aj,Int.natCast_nonneg,if_true,Int.toNat_natCast,List.getElem?_map,List.getElem?_eq_getElem hi,Option.map_some]
  have hord: ∀ (K:IV→Option IV),((O.gt (.int i) (.int 0)).bind fun x18=>
    (cnd x18 (
      (O.proj 6 s.enc).bind fun x19=>
      (O.sub .i64 (.int i) (.int 1)).bind fun x20=>
      (O.index x19 x20).bind fun x21=>
      (O.proj 0 x21).bind fun x22=>
      (O.sGe x22 (.str s.f[i].nm)).bind fun x23=>
      some x23) (some (.bool false))).bind K)=K (.bool (!Ht (L7 s.f i) s.f[i].nm)):=by
   intro K
   cases i with
   | zero=>simp [L7,Ht]
   | succ j=>
    have hj:j<s.f.length:=by omega
    have hw2:IntKind.i64.wrap (((j+1:Nat):Int) - 1)=j:=by rw [wrap64 (by omega) (by omega)];omega
    have hp:(0:Int)<((j+1:Nat):Int):=by omega
    simp only [Sch.Hm,L7,List.getElem?_eq_getElem hj,Option.map_some,Ht,O.B4,hp,decide_true,Option.bind_some,O.Ab,if_true,O.B7,hw2,O.Aj,Int.natCast_nonneg,Int.toNat_natCast,List.getElem?_map,SFld.Bv,Ab1]
  rw [Aj3,List.drop_eq_getElem_cons hi]
  simp only [O.Ak,An,hi,decide_true,Option.bind_some,O.Ab,if_true,hix,SFld.Bv,fOk]
  rw [Anu s.f[i].nm (by omega)]
  simp only [O.A3,Option.bind_some]
  simp only [hord]
  simp only [SFld.Cq,SFld.Acr,O.Ah,O.A3,O.Ab,hv,O.Ao,List.length_map,O.B4,Option.bind_some]
  cases Cr s.f[i].nm with
  | false=>simp
  | true=>
   cases Ht (L7 s.f i) s.f[i].nm with
   | false=>simp
   | true=>
    cases hsv:Bm d s.f[i].s with
    | false=>simp
    | true=>
     by_cases hlen:s.f[i].df.length ≤1
     ·have hlen': ¬ (1:Int)<s.f[i].df.length :=by omega
      have h2:=Rq d s hd hs i hi (Ia d _ hsv) s.f[i].df.length 0 (by omega)
      simp only [Int.cast_ofNat_Int,List.drop_zero,hrec] at h2
      simp only [Bool.not_true,Bool.false_eq_true,if_false,hlen',decide_false,Option.bind_some,O.Ab,h2,Avt,hlen,decide_true,Bool.true_and]
      cases (s.f[i].df.all fun v=> !decide (v.k=0)&&v.valid&&decide ((Qh v s.f[i].s []).length =0))<;>simp
     ·have hlen':(1:Int)<s.f[i].df.length :=by omega
      simp [hlen',hlen]
theorem Apk (d:Nat) (s:Sch) (hd:d≤12) (hs:s.Ay≤1048576) (hl:s.it.length≤1) (ih: ∀t∈s.it,W F15 0 [t.enc,.int d]=some [.bool (Bm d t)]):
  W F30 0 [.list (s.it.map Sch.enc),.int ((d+1:Nat):Int)]=some [.bool (!s.it.all (Bm d))]:=by
 have hwd:IntKind.i64.wrap (((d+1:Nat):Int) - 1)=(d:Int):=by rw [wrap64 (by omega) (by omega)];omega
 rw [Asv,Ars]
 cases hit:s.it with
 | nil=>
  simp only [List.map_nil,O.Ao,List.length_nil,Option.bind_some,Int.cast_ofNat_Int]
  rw [Abb]
  simp
 | cons t r=>
  have hr:r= []:=by rw [hit] at hl;simpa using hl
  subst hr
  have h1:=ih t (by rw [hit];simp)
  have h2:W F32 0 [t.enc,.int ((d+1:Nat):Int)]=some [.bool (!Bm d t)]:=by
   rw [As3]
   simp only [O.B7,hwd,Option.bind_some,h1,O.Ah,O.A3]
  have h3:IntKind.i64.wrap (0+1)=1:=by decide
  simp only [List.map_cons,List.map_nil,O.Ao,List.length_cons,List.length_nil,Nat.zero_add,Int.cast_ofNat_Int,Option.bind_some]
  rw [Abb]
  simp only [O.Ak,show (0:Int)<1 by omega,decide_true,Option.bind_some,O.Ab,if_true,O.Aj,Int.le_refl,Int.toNat_zero,List.getElem?_cons_zero,h2,O.Ah,O.Aq,h3]
  cases hsv:Bm d t with
  | true=>
   simp only [Bool.not_true,Bool.false_eq_true,if_false]
   rw [Abb]
   simp [hsv]
  | false=>simp [hsv]
theorem egP (k:Int) (a b c:Nat) (e:Bool):(if (if (if (if (!decide (k=3))=true then decide ((0:Int)<(a:Int)) else false)=true then true else if (!decide (k=4))=true then !e else false)=true then true else if (!decide (k=5))=true then decide ((0:Int)<(b:Int)) else false)=true then true else if (if (!decide (k=5))=true then !decide (k=4) else false)=true then decide ((0:Int)<(c:Int)) else false)
  = !(decide (k=3∨a=0)&&(decide (k=4)||e)&&decide (k=5∨b=0)&&decide (k=5∨k=4∨c=0)):=by
 cases e
 ·by_cases k4:k=4
  ·rw [Bool.eq_iff_iff];simp [k4];omega
  ·simp [k4]
 ·rw [Bool.eq_iff_iff];simp;omega
theorem egM (mn mx:Int) (b c:Nat):(if (if (if (if (!decide (mn=0))=true then true else !decide (mx=0))=true then true else decide ((1:Int)<(b:Int)))=true then true else if decide ((b:Int)=1)=true then decide ((0:Int)<(c:Int)) else false)=true then true else decide ((64:Int)<(c:Int)))
  = !(decide (mn=0)&&decide (mx=0)&&decide (b≤1)&&(decide (b=0)||decide (c=0))&&decide (c≤64)):=by
 rw [Bool.eq_iff_iff];simp;omega
theorem Ta: ∀ (d:Nat) (s:Sch),d≤12→s.Ay≤1048576→W F15 0 [s.enc,.int d]=some [.bool (Bm d s)]
 | 0,s,hd,hs=>by rw [Aly];simp [Bm]
 | d+1,s,hd,hs=>by
  have hd0: ¬ ((d+1:Nat):Int)=0:=by omega
  have hwd:IntKind.i64.wrap (((d+1:Nat):Int) - 1)=(d:Int):=by rw [wrap64 (by omega) (by omega)];omega
  have hit: ∀t∈s.it,W F15 0 [t.enc,.int d]=some [.bool (Bm d t)]:=fun t ht=>Ta d t (by omega) (by have:=Sch.I2 ht;omega)
  have hif: ∀p∈s.f,W F15 0 [p.s.enc,.int d]=some [.bool (Bm d p.s)]:=fun p hp=>Ta d p.s (by omega) (by have:=Sch.Dz hp;omega)
  have hfs:=Tb d s (by omega) hs hif s.f.length 0 (by omega)
  simp only [Int.cast_ofNat_Int,List.drop_zero,L7] at hfs
  have hfs':W F33 0 [s.enc,.int d]=some [.bool (fOk (Bm d) none s.f)]:=by
   rw [At0]
   simp only [Sch.Hm,O.Ao,List.length_map,Option.bind_some]
   exact hfs
  rw [Aly]
  unfold Bm
  simp only [O.eq_int,O.Eh,hd0,decide_false,Option.bind_some,O.Ab,Bool.false_eq_true,if_false,Sch.Bv,Sch.Cq,Sch.Da,Sch.I0,Sch.Hm,O.Ao,List.length_map,O.B4,O.H5,Aw,Am,Ct,egP]
  cases hg:(decide (s.k=3∨s.en.length=0)&&(decide (s.k=4)||decide (s.key=Ar))&&decide (s.k=5∨s.f.length=0)&&decide (s.k=5∨s.k=4∨s.it.length=0)) with
  | false=>
   simp only [Bool.not_false,if_true]
   by_cases k1:s.k=1
   ·simp only [k1,if_true,E8]
    simp [k1] at hg
    congr 3
    rw [eq_comm,Bool.eq_false_iff]
    intro h
    simp at h
    simp [h] at hg
   ·by_cases k2:s.k=2
    ·simp only [k2,show ¬ (2:Int)=1 by omega,if_false,if_true,E8]
     simp [k2] at hg
     congr 3
     rw [eq_comm,Bool.eq_false_iff]
     intro h
     simp at h
     simp [h] at hg
    ·by_cases k3:s.k=3
     ·simp only [k3,show ¬ (3:Int)=1 by omega,show ¬ (3:Int)=2 by omega,if_false,if_true,E8]
      simp [k3] at hg
      congr 3
      rw [eq_comm,Bool.eq_false_iff]
      intro h
      simp at h
      simp [h] at hg
     ·by_cases k4:s.k=4
      ·simp only [k4,show ¬ (4:Int)=1 by omega,show ¬ (4:Int)=2 by omega,show ¬ (4:Int)=3 by omega,if_false,if_true]
       simp [k4] at hg
       congr 3
       rw [eq_comm,Bool.eq_false_iff]
       intro h
       simp at h
       simp [h] at hg
      ·by_cases k5:s.k=5
       ·simp only [k5,show ¬ (5:Int)=1 by omega,show ¬ (5:Int)=2 by omega,show ¬ (5:Int)=3 by omega,show ¬ (5:Int)=4 by omega,if_false,if_true]
        simp [k5] at hg
        congr 3
        rw [eq_comm,Bool.eq_false_iff]
        intro h
        simp at h
        simp [h] at hg
       ·simp [k1,k2,k3,k4,k5]
  | true=>
   simp only [Bool.and_eq_true,Bool.or_eq_true,decide_eq_true_eq] at hg
   obtain ⟨⟨⟨g1,g2⟩,g3⟩,g4⟩:=hg
   simp only [Bool.not_true,Bool.false_eq_true,if_false,Sch.C9,Sch.D7,Option.bind_some,O.eq_int,O.Dt,O.Eh,O.Ab,Agz,Asr s hs,O.Ah,Aw,Am]
   by_cases k1:s.k=1
   ·simp only [k1,decide_true,if_true,E8]
    rcases g1 with g1 | g1
    ·omega
    ·rcases g2 with g2 | g2
     ·omega
     ·rcases g3 with g3 | g3
      ·omega
      ·rcases g4 with g4 | g4 | g4
       ·omega
       ·omega
       ·simp only [g1,g2,g3,g4,decide_true,Bool.true_and,Bool.and_true]
        congr 3
        rw [Bool.eq_iff_iff];simp
   ·by_cases k2:s.k=2
    ·simp only [k2,show ¬ (2:Int)=1 by omega,decide_false,Bool.false_eq_true,if_false,decide_true,if_true,E8]
     rcases g1 with g1 | g1
     ·omega
     ·rcases g2 with g2 | g2
      ·omega
      ·rcases g3 with g3 | g3
       ·omega
       ·rcases g4 with g4 | g4 | g4
        ·omega
        ·omega
        ·simp only [g1,g2,g3,g4,decide_true,Bool.true_and,Bool.and_true]
         congr 3
         rw [Bool.eq_iff_iff];simp [and_assoc]
    ·by_cases k3:s.k=3
     ·simp only [k3,show ¬ (3:Int)=1 by omega,show ¬ (3:Int)=2 by omega,decide_false,Bool.false_eq_true,if_false,decide_true,if_true,E8]
      rcases g2 with g2 | g2
      ·omega
      ·rcases g3 with g3 | g3
       ·omega
       ·rcases g4 with g4 | g4 | g4
        ·omega
        ·omega
        ·simp only [g2,g3,g4,decide_true,Bool.true_and,Bool.and_true]
         cases Ag9 s 200<;>simp
     ·by_cases k4:s.k=4
      ·have g1':s.en.length=0:=by rcases g1 with h | h;exact absurd h k3;exact h
       have g3':s.f.length=0:=by rcases g3 with h | h;exact absurd h (by omega);exact h
       simp only [k4,show ¬ (4:Int)=1 by omega,show ¬ (4:Int)=2 by omega,show ¬ (4:Int)=3 by omega,decide_false,Bool.false_eq_true,if_false,decide_true,if_true,g1',g3',Bool.and_true]
       cases Ag9 s 64 with
       | false=>simp
       | true=>
        by_cases h1:s.it.length=1
        ·obtain ⟨t,ht⟩:=List.length_eq_one_iff.1 h1
         have h2:=hit t (by rw [ht];simp)
         have h1':(s.it.length:Int)=1:=by omega
         simp only [if_true,h1',decide_true,ht,List.map_cons,List.map_nil,O.Aj,Int.le_refl,Int.toNat_zero,List.getElem?_cons_zero,Option.bind_some,O.B7,hwd,h2,O.Ah,O.Ab,List.all_cons,List.all_nil,Bool.and_true,Bool.true_and,List.length_cons,List.length_nil]
         cases hsv:Bm d t with
         | false=>simp
         | true=>
          have hk:=Apm s t hs ht (Ia d t hsv)
          simp [hk]
        ·have h1': ¬ (s.it.length:Int)=1:=by omega
         simp [h1,h1']
      ·by_cases k5:s.k=5
       ·have g1':s.en.length=0:=by rcases g1 with h | h;exact absurd h k3;exact h
        have g2':s.key=Ar:=by rcases g2 with h | h;exact absurd h k4;exact h
        simp only [k5,show ¬ (5:Int)=1 by omega,show ¬ (5:Int)=2 by omega,show ¬ (5:Int)=3 by omega,show ¬ (5:Int)=4 by omega,decide_false,Bool.false_eq_true,if_false,decide_true,if_true,g1',g2',Bool.and_true]
        have eg:=egM s.mn s.mx s.it.length s.f.length
        rw [eg]
        cases hg5:(decide (s.mn=0)&&decide (s.mx=0)&&decide (s.it.length≤1)&&(decide (s.it.length=0)||decide (s.f.length=0))&&decide (s.f.length≤64)) with
        | false=>simp
        | true=>
         simp only [Bool.and_eq_true,Bool.or_eq_true,decide_eq_true_eq] at hg5
         have h2:=Apk d s (by omega) hs hg5.1.1.2 hit
         simp only [Bool.not_true,Bool.false_eq_true,if_false,h2,O.Ah,O.A3,Bool.not_not,Option.bind_some,O.Ab,O.B7,hwd,hfs',Aw,Am,Bool.true_and]
         cases s.it.all (Bm d)<;>simp
       ·simp only [k1,k2,k3,k4,k5,decide_false,Bool.false_eq_true,if_false]
theorem Ak1 (s:Sch) (hs:s.Ay≤1048576):W F14 0 [s.enc]=some [.bool s.valid]:=by
 rw [Ast]
 have:W F15 0 [s.enc,.int 12]=some [.bool s.valid]:=Ta 12 s (by omega) hs
 simp only [this,O.Ah]
end Go.CT.Sch
namespace Go.CT.Sch
open Go.Proofs
theorem D2 (d:Nat) (v:Val):Bn (d+1) v=true↔En v=true∧(v.l.length≤64∧v.f.length≤64∧(v.k≠4→v.l= [])∧(v.k≠5→v.f= []))∧(∀x∈v.l,Bn d x=true)∧(∀p∈v.f,Cr p.1=true∧Bn d p.2=true)∧rising v.f=true:=by
 rw [Bn]
 simp only [Bool.and_eq_true,List.all_eq_true,decide_eq_true_eq]
 constructor
 ·rintro ⟨⟨⟨⟨a,b⟩,c⟩,d⟩,e⟩;exact ⟨a,b,c,d,e⟩
 ·rintro ⟨a,b,c,d,e⟩;exact ⟨⟨⟨⟨a,b⟩,c⟩,d⟩,e⟩
theorem J9: ∀ (d:Nat) (v:Val),Bn d v=true→Bn (d+1) v=true
 | 0,v,h=>by simp [Bn] at h
 | d+1,v,h=>by
  rw [D2] at h ⊢
  exact ⟨h.1,h.2.1,fun x hx=>J9 d x (h.2.2.1 x hx),fun p hp=>⟨(h.2.2.2.1 p hp).1,J9 d p.2 (h.2.2.2.1 p hp).2⟩,h.2.2.2.2⟩
theorem Hc (v:Val):v.valid=true↔Bn 12 v=true∧v.size≤600:=by
 unfold Val.valid;simp only [Bool.and_eq_true,decide_eq_true_eq]
theorem Mk {v x:Val} (h:v.valid=true) (hx:x∈v.l):x.valid=true:=by
 rw [Hc] at h ⊢
 have h1:=(D2 11 v).1 h.1
 have:=Val.Aqz hx
 exact ⟨J9 11 x (h1.2.2.1 x hx),by omega⟩
theorem Q7 {v:Val} {p:ByteArray × Val} (h:v.valid=true) (hp:p∈v.f):p.2.valid=true∧Cr p.1=true:=by
 rw [Hc] at h ⊢
 have h1:=(D2 11 v).1 h.1
 have:=Val.Aqn hp
 exact ⟨⟨J9 11 p.2 (h1.2.2.2.1 p hp).2,by omega⟩,(h1.2.2.2.1 p hp).1⟩
theorem Nv: ∀l:List (ByteArray × Val),rising l=true→Dv l
 | [],_=>List.Pairwise.nil
 | [_],_=>List.pairwise_singleton _ _
 | p::q::r,h=>by
  simp only [rising,Bool.and_eq_true] at h
  have ih:=Nv (q::r) h.2
  refine List.pairwise_cons.2 ⟨fun y hy=>?_,ih⟩
  rcases List.mem_cons.1 hy with rfl | hy
  ·exact h.1
  ·exact Ii h.1 ((List.pairwise_cons.1 ih).1 y hy)
theorem P4 {v:Val} (h:v.valid=true):Dv v.f:=by
 rw [Hc] at h
 exact Nv _ ((D2 11 v).1 h.1).2.2.2.2
theorem Aaw {v:Val} (h:v.valid=true) (hk:v.k≠5):v.f= []:=by
 rw [Hc] at h
 exact ((D2 11 v).1 h.1).2.1.2.2.2 hk
theorem R0 {v:Val} (h:v.valid=true) (hk:v.k≠4):v.l= []:=by
 rw [Hc] at h
 exact ((D2 11 v).1 h.1).2.1.2.2.1 hk
theorem M7 {l:List (ByteArray × Val)} (h:Dv l) {p:ByteArray × Val} (hp:p∈l):l.find? (fun q=>decide (q.1=p.1))=some p:=by
 induction l with
 | nil=>simp at hp
 | cons a l ih=>
  have h1:=List.pairwise_cons.1 h
  rw [List.find?_cons]
  rcases List.mem_cons.1 hp with rfl | hp
  ·simp
  ·have: ¬ a.1=p.1:=Qa (h1.1 p hp)
   simp only [this,decide_false]
   exact ih h1.2 hp
theorem Ji {v x:Val} {nm:ByteArray} (h:v.get nm=some x):(nm,x)∈v.f∧v.k=5:=by
 unfold Val.get at h
 split at h
 ·rename_i hk
  rw [Option.map_eq_some_iff] at h
  obtain ⟨p,hp,rfl⟩:=h
  have h1:=List.mem_of_find?_eq_some hp
  have h2:p.1=nm:=by simpa using List.find?_some hp
  subst h2;exact ⟨h1,hk⟩
 ·cases h
theorem Ais {v x:Val} {nm:ByteArray} (h:v.valid=true) (hx:v.get nm=some x):x.valid=true:=(Q7 h (Ji hx).1).1
theorem Adg {g g':Sch→Bool} : ∀ {l:List SFld} {o:Option ByteArray},(∀x∈l,g x.s=true→g' x.s=true)→fOk g o l=true→fOk g' o l=true
 | [],_,_,_=>rfl
 | y::r,o,hg,h=>by
  simp only [fOk,Bool.and_eq_true] at h ⊢
  exact ⟨⟨⟨⟨h.1.1.1.1,hg y (by simp) h.1.1.1.2⟩,h.1.1.2⟩,h.1.2⟩,Adg (fun x hx=>hg x (by simp [hx])) h.2⟩
theorem Ih: ∀ (d:Nat) (s:Sch),Bm d s=true→Bm (d+1) s=true
 | 0,s,h=>by simp [Bm] at h
 | d+1,s,h=>by
  rw [Bm] at h ⊢
  split
  ·rename_i k1;rw [if_pos k1] at h;exact h
  ·rename_i k1;rw [if_neg k1] at h
   split
   ·rename_i k2;rw [if_pos k2] at h;exact h
   ·rename_i k2;rw [if_neg k2] at h
    split
    ·rename_i k3;rw [if_pos k3] at h;exact h
    ·rename_i k3;rw [if_neg k3] at h
     split
     ·rename_i k4;rw [if_pos k4] at h
      simp only [Bool.and_eq_true,List.all_eq_true] at h ⊢
      exact ⟨h.1,fun x hx=>Ih d x (h.2 x hx)⟩
     ·rename_i k4;rw [if_neg k4] at h
      split
      ·rename_i k5;rw [if_pos k5] at h
       simp only [Bool.and_eq_true,List.all_eq_true] at h ⊢
       exact ⟨⟨h.1.1,fun x hx=>Ih d x (h.1.2 x hx)⟩,Adg (fun x _ hx=>Ih d x.s hx) h.2⟩
      ·rename_i k5;rw [if_neg k5] at h;cases h
theorem Ajg {d:Nat} {s t:Sch} (h:Bm (d+1) s=true) (ht:t∈s.it):Bm d t=true:=by
 have noit:E8 s=true→False:=fun hp=>by
  simp only [E8,Bool.and_eq_true,decide_eq_true_eq] at hp
  rw [List.length_eq_zero_iff.1 hp.1.2] at ht;simp at ht
 rw [Bm] at h
 split at h
 ·simp only [Bool.and_eq_true] at h;exact (noit h.1.1.1).elim
 ·split at h
  ·simp only [Bool.and_eq_true] at h;exact (noit h.1.1.1.1).elim
  ·split at h
   ·simp only [Bool.and_eq_true] at h;exact (noit h.1.1.1).elim
   ·split at h
    ·simp only [Bool.and_eq_true,List.all_eq_true] at h;exact h.2 t ht
    ·split at h
     ·simp only [Bool.and_eq_true,List.all_eq_true] at h;exact h.1.2 t ht
     ·cases h
theorem Amv {d:Nat} {s:Sch} {p:SFld} (h:Bm (d+1) s=true) (hp:p∈s.f):s.k=5∧Cr p.nm=true∧Bm d p.s=true∧p.df.length≤1∧Avt p=true:=by
 have nof:s.f.length=0→False:=fun h0=>by
  rw [List.length_eq_zero_iff.1 h0] at hp;simp at hp
 have nop:E8 s=true→False:=fun h0=>by
  simp only [E8,Bool.and_eq_true,decide_eq_true_eq] at h0
  exact nof h0.2
 rw [Bm] at h
 split at h
 ·simp only [Bool.and_eq_true] at h;exact (nop h.1.1.1).elim
 ·split at h
  ·simp only [Bool.and_eq_true] at h;exact (nop h.1.1.1.1).elim
  ·split at h
   ·simp only [Bool.and_eq_true] at h;exact (nop h.1.1.1).elim
   ·split at h
    ·simp only [Bool.and_eq_true,decide_eq_true_eq] at h;exact (nof h.1.1.1.2).elim
    ·split at h
     ·rename_i k5
      simp only [Bool.and_eq_true] at h
      exact ⟨k5,Ac3 h.2 p hp⟩
     ·cases h
theorem Af3 {d:Nat} {s:Sch} (h:Bm d s=true) (hk:s.k=4):Sh s=true∧s.it.length=1:=by
 cases d with
 | zero=>simp [Bm] at h
 | succ d=>
  rw [Bm,if_neg (by omega),if_neg (by omega),if_neg (by omega),if_pos hk] at h
  simp only [Bool.and_eq_true,decide_eq_true_eq] at h
  exact ⟨h.1.2,h.1.1.2⟩
theorem Sch.Afq {s t:Sch} (h:s.valid=true) (ht:t∈s.it):t.valid=true:=Ih 11 t (Ajg h ht)
theorem Sch.Q7 {s:Sch} {p:SFld} (h:s.valid=true) (hp:p∈s.f):p.s.valid=true:=Ih 11 p.s (Amv h hp).2.2.1
theorem Sch.Afk {s:Sch} (h:s.valid=true):SB s:=Ia 12 s h
theorem Sch.Aki {s t:Sch} {nm:ByteArray} (h:s.valid=true) (ht:Ly s nm=some t):t.valid=true:=by
 rcases Vz ht with h1 | ⟨p,hp,_,rfl⟩
 ·exact Sch.Afq h h1
 ·exact Sch.Q7 h hp
end Go.CT.Sch
namespace Go.CT.Sch
open Go.Proofs
end Go.CT.Sch
namespace Go.CT.Sch
open Go.Proofs
abbrev Kid:=Stp × Val × Option Sch
def Avl (key:ByteArray) (x:Val):Stp:=⟨3,key,0,Hu x key⟩
def Gt (key:ByteArray):List ByteArray→List Val→Bool
 | _,[]=>true
 | met,x::l=>isKey x key&& !inB met (Hu x key)&&Gt key (met++ [Hu x key]) l
def kids:Option Sch→Val→List Kid
 | none,_=> []
 | some s,v=>if s.k=v.k then (if v.k=5 then v.f.map fun x=>(Df x.1,x.2,Ly s x.1) else if v.k=4∧s.key≠Ar∧Gt s.key [] v.l=true then v.l.map fun x=>(Avl s.key x,x,s.it.head?) else []) else []
def Jl (s:ByteArray):Val:=⟨3,0,s,[],[]⟩
def lv:Nat→Option Sch→Val→List Stp→List ByteArray
 | 0,_,_,_=> []
 | d+1,o,v,p=>if kids o v= [] then [Hs p] else (kids o v).flatMap fun x=>lv d x.2.2 x.2.1 (p++ [x.1])
def Et (r:Kid→Val × Bool) (l:List Kid):List (Stp × Val):=l.filterMap fun x=>if (r x).2 then some (x.1,(r x).1) else none
def fieldsOf (l:List (Stp × Val)):List (ByteArray × Val):=l.map fun x=>(x.1.nm,x.2)
def El (l:List (Stp × Val)):List Val:=l.map fun x=>Ep x.2 x.1.nm (Jl x.1.vl)
def pt:Nat→Option Sch→Val→List Stp→(ByteArray→Bool)→Val × Bool
  | 0,_,v,_,_=>(v,false)
  | d+1,o,v,p,ch=>if kids o v= [] then (v,ch (Hs p)) else
    (⟨v.k,0,Ar,if v.k=5 then [] else El (Et (fun x=>pt d x.2.2 x.2.1 (p++ [x.1]) ch) (kids o v)),
      if v.k=5 then fieldsOf (Et (fun x=>pt d x.2.2 x.2.1 (p++ [x.1]) ch) (kids o v)) else []⟩,
     !(Et (fun x=>pt d x.2.2 x.2.1 (p++ [x.1]) ch) (kids o v)).isEmpty)
theorem N9 {o:Option Sch} {v:Val} {x:Kid} (h:x∈kids o v):x.2.1.size<v.size∧x.2.1.Ay<v.Ay:=by
 cases o with
 | none=>simp [kids] at h
 | some s=>
  rw [kids] at h
  split at h
  ·split at h
   ·obtain ⟨p,hp,rfl⟩:=List.mem_map.1 h
    have:=Val.Dz hp
    exact ⟨Val.Aqn hp,by show p.2.Ay<v.Ay;omega⟩
   ·split at h
    ·obtain ⟨p,hp,rfl⟩:=List.mem_map.1 h
     exact ⟨Val.Aqz hp,Val.Kf hp⟩
    ·simp at h
  ·simp at h
end Go.CT.Sch
namespace Go.CT.Sch
open Go.Proofs
theorem Aer {α β R:Type} (l:List α) (I:Nat→β→Prop) (F:Nat→β→R) (step:β→α→β) (fin:β→R)
  (h1: ∀i (hi:i<l.length) b,I i b→F i b=F (i+1) (step b l[i])∧I (i+1) (step b l[i])) (h0: ∀b,I l.length b→F l.length b=fin b):
  ∀ (n i:Nat) (b:β),i+n=l.length→I i b→F i b=fin ((l.drop i).foldl step b)
 | 0,i,b,h,hI=>by
  have:i=l.length:=by omega
  subst this
  rw [h0 b hI,List.drop_length];rfl
 | n+1,i,b,h,hI=>by
  have hi:i<l.length:=by omega
  obtain ⟨e,hI'⟩:=h1 i hi b hI
  rw [e,Aer l I F step fin h1 h0 n (i+1) _ (by omega) hI',List.drop_eq_getElem_cons hi];rfl
theorem Ain {α β R:Type} (l:List α) (I:Nat→β→Prop) (F:Nat→β→R) (step:β→α→β) (fin:β→R) (b:β)
  (h1: ∀i (hi:i<l.length) b,I i b→F i b=F (i+1) (step b l[i])∧I (i+1) (step b l[i])) (h0: ∀b,I l.length b→F l.length b=fin b) (hI:I 0 b):
  F 0 b=fin (l.foldl step b):=by
 have:=Aer l I F step fin h1 h0 l.length 0 b (by omega) hI
 rwa [List.drop_zero] at this
theorem N5 {α β:Type} (g:α→β): ∀ (l:List α) (b:List β),l.foldl (fun b x=>b++ [g x]) b=b++l.map g
 | [],b=>by simp
 | x::l,b=>by rw [List.foldl_cons,N5 g l];simp
theorem Aoo {α:Type} (enc:α→IV) {l:List α} {i:Nat} (h:i<l.length):O.index (.list (l.map enc)) (.int i)=some (enc l[i]):=by
 simp only [O.Aj,Int.natCast_nonneg,if_true,Int.toNat_natCast,List.getElem?_map,List.getElem?_eq_getElem h,Option.map_some]
theorem Ys {α:Type} (enc:α→IV) (l:List α):O.len (.list (l.map enc))=some (.int l.length):=by rw [O.Ao,List.length_map]
theorem apm {α:Type} (enc:α→IV) {n:Nat} (l:List α) (x:α) (hl:l.length≤137438953471) (hn:n≤1024:=by decide):O.append n (.list (l.map enc)) (.list [enc x])=some (.list ((l++ [x]).map enc)):=by
 rw [O.Bl,if_pos]
 ·simp
 ·have:(l.length+1) * n≤137438953472 * 1024:=Nat.mul_le_mul (by omega) hn
  simp only [List.length_map,List.length_singleton]
  unfold Ax;omega
theorem lti {i n:Nat} (h:i<n):O.lt (.int i) (.int n)=some (.bool true):=by rw [O.Ak];simp;omega
theorem ltn (n:Nat):O.lt (.int n) (.int n)=some (.bool false):=by rw [O.Ak];simp
theorem nxt {i:Nat} (h:i<4611686018427387904):O.add .i64 (.int i) (.int 1)=some (.int ((i+1:Nat):Int)):=by rw [O.Aq,Bg (by omega)]
def Ei (x:Kid):IV:= .agg [.int x.1.k,.str x.1.nm,.int x.1.ix,.str x.1.vl,.int x.2.1.k,.int x.2.1.n,.str x.2.1.s,.list (x.2.1.l.map Val.enc),.list (x.2.1.f.map Fld.enc),
 .int (x.2.2.getD Cm).k,.int (x.2.2.getD Cm).mn,.int (x.2.2.getD Cm).mx,.list ((x.2.2.getD Cm).en.map .str),.str (x.2.2.getD Cm).key,.list ((x.2.2.getD Cm).it.map Sch.enc),.list ((x.2.2.getD Cm).f.map SFld.enc),.bool x.2.2.isSome]
theorem Ad7 (x:Kid):O.projs 0 4 (Ei x)=some x.1.enc:=rfl
theorem Alv (x:Kid):O.projs 4 5 (Ei x)=some x.2.1.enc:=by rw [Val.D8,Val.Ck];rfl
theorem At6 (x:Kid):O.projs 9 7 (Ei x)=some (x.2.2.getD Cm).enc :=by rw [Sch.D8,Sch.Ck];rfl
theorem kid0 (x:Kid):O.proj 0 (Ei x)=some (.int x.1.k):=rfl
theorem kid1 (x:Kid):O.proj 1 (Ei x)=some (.str x.1.nm):=rfl
theorem kid3 (x:Kid):O.proj 3 (Ei x)=some (.str x.1.vl):=rfl
theorem kid4 (x:Kid):O.proj 4 (Ei x)=some (.int x.2.1.k):=rfl
theorem kid9 (x:Kid):O.proj 9 (Ei x)=some (.int (x.2.2.getD Cm).k):=rfl
theorem Axz (x:Kid):O.proj 13 (Ei x)=some (.str (x.2.2.getD Cm).key):=rfl
theorem Axl (x:Kid):O.proj 16 (Ei x)=some (.bool x.2.2.isSome):=rfl
theorem Aey (s:Sch) (p:ByteArray × Val) (hs:s.Ay≤1099511627776): ∀ (n i:Nat),i+n=s.f.length→
  ∃r:Int,W F84 1 [.list (s.f.map SFld.enc),Fld.enc p,.int s.f.length,.int i]=some [.int r]∧
   ((((s.f.drop i).find? fun q=>decide (q.nm=p.1))=none∧r<0)∨(∃j:Nat,r=j∧s.f[j]?=((s.f.drop i).find? fun q=>decide (q.nm=p.1))∧((s.f.drop i).find? fun q=>decide (q.nm=p.1)).isSome =true))
 | 0,i,h=>by
  rw [Ajr]
  have h1: ¬ i<s.f.length:=by omega
  refine ⟨-1,by simp [h1],.inl ⟨by simp [List.drop_of_length_le (Nat.le_of_not_lt h1)],by omega⟩⟩
 | n+1,i,h=>by
  have hi:i<s.f.length:=by omega
  have hm:=s.Bc
  obtain ⟨r,hr,h2⟩:=Aey s p hs n (i+1) (by omega)
  rw [Ajr,List.drop_eq_getElem_cons hi,List.find?_cons]
  simp only [lti hi,Option.bind_some,O.Ab,if_true,Aoo SFld.enc hi,Aq8,SFld.Bv,Fld.Bv,O.Gf,O.Ah,nxt (show i<4611686018427387904 by omega),hr]
  by_cases c:s.f[i].nm =p.1
  ·refine ⟨i,by simp [c],.inr ⟨i,rfl,by simp [c],by simp [c]⟩⟩
  ·have c':decide (s.f[i].nm =p.1)=false:=by simpa using c
   simp only [c',Bool.false_eq_true,if_false]
   exact ⟨r,rfl,h2⟩
def Cd (s:Sch) (x:ByteArray × Val):Kid:=(Df x.1,x.2,Ly s x.1)
theorem Af2 (s:Sch) (v:Val) (hs:s.Ay≤1099511627776) (hv:v.Ay≤1048576):W F83 0 [s.enc,v.enc]=some [.list ((v.f.map (Cd s)).map Ei)]:=by
 have hl:=v.Bc
 rw [Auo]
 simp only [Val.Da,Option.bind_some,Ys]
 refine (Ain v.f (fun i (b:List Kid)=>b.length=i) (fun i b=>W F83 1 [.list (v.f.map Fld.enc),.int v.f.length,.int i,s.enc,.list (b.map Ei)]) (fun b x=>b++ [Cd s x]) (fun b=>some [.list (b.map Ei)]) [] ?_ ?_ rfl).trans ?_
 ·intro i hi b hb
  refine ⟨?_,by simp [hb]⟩
  rw [Awi]
  have e2: ∀ (o:Option Sch),Ly s v.f[i].1 =o→W F83 2 [.list (v.f.map Fld.enc),.int v.f.length,.int i,s.enc,.list (b.map Ei),.int 1,.str v.f[i].1,.int 0,.str ⟨#[]⟩,.int v.f[i].2.k,.int v.f[i].2.n,.str v.f[i].2.s,.list (v.f[i].2.l.map Val.enc),.list (v.f[i].2.f.map Fld.enc),
    .int (o.getD Cm).k,.int (o.getD Cm).mn,.int (o.getD Cm).mx,.list ((o.getD Cm).en.map .str),.str (o.getD Cm).key,.list ((o.getD Cm).it.map Sch.enc),.list ((o.getD Cm).f.map SFld.enc),.bool o.isSome]=
    W F83 1 [.list (v.f.map Fld.enc),.int v.f.length,.int (i+1:Nat),s.enc,.list ((b++ [Cd s v.f[i]]).map Ei)]:=by
   rintro o rfl
   have ha:=apm Ei (n:=248) b (Cd s v.f[i]) (by omega)
   rw [Ar3]
   simp only [O.Ci,O.Cb,Option.bind_some,nxt (show i<4611686018427387904 by omega)]
   have he:(IV.agg [.int 1,.str v.f[i].1,.int 0,.str ⟨#[]⟩,.int v.f[i].2.k,.int v.f[i].2.n,.str v.f[i].2.s,.list (v.f[i].2.l.map Val.enc),.list (v.f[i].2.f.map Fld.enc),
    .int ((Ly s v.f[i].1).getD Cm).k,.int ((Ly s v.f[i].1).getD Cm).mn,.int ((Ly s v.f[i].1).getD Cm).mx,.list (((Ly s v.f[i].1).getD Cm).en.map .str),.str ((Ly s v.f[i].1).getD Cm).key,.list (((Ly s v.f[i].1).getD Cm).it.map Sch.enc),.list (((Ly s v.f[i].1).getD Cm).f.map SFld.enc),.bool (Ly s v.f[i].1).isSome])=Ei (Cd s v.f[i]):=rfl
   rw [he,ha];rfl
  simp only [lti hi,Option.bind_some,O.Ab,if_true,Aoo Fld.enc hi,Fld.Bv,Fld.Mt,Val.Bv,Val.C9,Val.D7,Val.Cq,Val.Da,Sch.I0,Ys,O.B4]
  cases hit:s.it with
  | cons t ts=>
   have hsub:Ly s v.f[i].1 =some t:=by unfold Ly;rw [hit]
   have:=e2 (some t) hsub
   simp only [Option.getD_some,Option.isSome_some] at this
   have h0:(0:Int)<((t::ts).length :Nat):=by simp
   simp only [h0,decide_true,if_true,List.map_cons,O.Aj,Int.le_refl,Int.toNat_zero,List.getElem?_cons_zero,Option.bind_some,Sch.Bv,Sch.C9,Sch.D7,Sch.Cq,Sch.Da,Sch.I0,Sch.Hm]
   exact this
  | nil=>
   have hsub:Ly s v.f[i].1 =(s.fld v.f[i].1).map (·.s):=by unfold Ly;rw [hit]
   obtain ⟨r,hr,h2⟩:=Aey s v.f[i] hs s.f.length 0 (by omega)
   have hr':W F84 0 [.list (s.f.map SFld.enc),Fld.enc v.f[i]]=some [.int r]:=by
    rw [Ava]
    simpa using hr
   simp only [List.drop_zero] at h2
   have hf:(s.f.find? fun p=>decide (p.nm=v.f[i].1))=s.fld v.f[i].1 :=rfl
   rw [hf] at h2
   have h0: ¬ (0:Int)<(([]:List Sch).length :Nat):=by simp
   simp only [h0,decide_false,Bool.false_eq_true,if_false,Sch.Hm,Option.bind_some,hr',O.Ah,O.Gr,O.Ab]
   rcases h2 with ⟨h3,h4⟩ | ⟨j,rfl,h3,h4⟩
   ·have hn: ¬ (0:Int)≤r:=by omega
    have:=e2 none (by rw [hsub,h3];rfl)
    simp only [Option.getD_none,Option.isSome_none] at this
    simp only [hn,decide_false,Bool.false_eq_true,if_false]
    exact this
   ·obtain ⟨d,hd⟩:=Option.isSome_iff_exists.1 h4
    rw [hd] at h3
    have:=e2 (some d.s) (by rw [hsub,hd];rfl)
    simp only [Option.getD_some,Option.isSome_some] at this
    simp only [Int.natCast_nonneg,decide_true,if_true,O.Aj,Int.toNat_natCast,List.getElem?_map,h3,Option.map_some,Option.bind_some,SFld.Acr,Sch.Bv,Sch.C9,Sch.D7,Sch.Cq,Sch.Da,Sch.I0,Sch.Hm]
    exact this
 ·intro b hb
  rw [Awi]
  simp only [ltn,Option.bind_some,O.Ab,Bool.false_eq_true,if_false]
 ·rw [N5];rfl
end Go.CT.Sch
namespace Go.CT.Sch
open Go.Proofs
theorem Awa (ks:List ByteArray) (s:ByteArray):O.Al5 (.bool false) (.list (Vc ks)) (.str s)=some (.bool (inB ks s)):=by
 unfold O.Al5
 simp only [Prim.ev,Abi,Option.map_some]
 cases inB ks s<;>simp
theorem Awj (ks:List ByteArray) (s:ByteArray): ∃b,O.Ahn (.list (Vc ks)) (.str s)=some (.bool b):=by
 unfold O.Ahn
 simp only [Prim.ev,Abi,Option.map_some]
 exact ⟨_,rfl⟩
theorem Aw5 (ks:List ByteArray) (s:ByteArray):O.Al8 (.list (Vc ks)) (.str s) (.bool true)=some (.list (Vc (if inB ks s then ks else ks++ [s]))):=by
 unfold O.Al8
 simp only [Prim.ev,Aqc,Option.map_some]
def B6 (s:Sch) (x:Val):Kid:=(Avl s.key x,x,s.it.head?)
theorem Og (s t:Sch) (v:Val) (ht:s.it= [t]) (hv:v.Ay≤1048576): ∀ (n i:Nat) (b:List Kid) (acc:List ByteArray),i+n=v.l.length→b.length=i→
  W F86 1 [.list (v.l.map Val.enc),.int v.l.length,.int i,s.enc,.list (b.map Ei),.list (Vc acc)]=some [.list ((if Gt s.key acc (v.l.drop i) then b++(v.l.drop i).map (B6 s) else []).map Ei)]
 | 0,i,b,acc,h,hb=>by
  have:i=v.l.length:=by omega
  subst this
  rw [Ah1,List.drop_length,Gt]
  simp only [ltn,Option.bind_some,O.Ab,Bool.false_eq_true,if_false,if_true,List.map_nil,List.append_nil]
 | n+1,i,b,acc,h,hb=>by
  have hi:i<v.l.length:=by omega
  have hl:=v.Du
  have hm:=Val.Kf (List.getElem_mem hi)
  have hg:=Aje v.l[i] s.key (by omega)
  obtain ⟨bb,hh⟩:=Awj acc (Hu v.l[i] s.key)
  have hh':O.Ahn (.list (Vc acc)) (.str ((v.l[i].get s.key).getD Bf).s)=some (.bool bb):=hh
  have hms:=Aw5 acc (Hu v.l[i] s.key)
  have hmg:=Awa acc (Hu v.l[i] s.key)
  unfold Hu at hms hmg
  rw [Ah1,List.drop_eq_getElem_cons hi,Gt]
  simp only [lti hi,Option.bind_some,O.Ab,if_true,Aoo Val.enc hi,Sch.Da,hg,Ky,Mq,O.A3,O.Eh,Aw,Am,hmg,hh']
  unfold isKey Hu
  cases c1:(v.l[i].get s.key).isSome with
  | false=>simp
  | true=>
   by_cases c2:((v.l[i].get s.key).getD Bf).k =3
   ·cases c3:inB acc ((v.l[i].get s.key).getD Bf).s with
    | true=>simp [c2]
    | false=>
     have ih:=Og s t v ht hv n (i+1) (b++ [B6 s v.l[i]]) (acc++ [Hu v.l[i] s.key]) (by omega) (by simp [hb])
     have ha:=apm Ei (n:=248) b (B6 s v.l[i]) (by omega)
     have he:(IV.agg [.int 3,.str s.key,.int 0,.str ((v.l[i].get s.key).getD Bf).s,.int v.l[i].k,.int v.l[i].n,.str v.l[i].s,.list (v.l[i].l.map Val.enc),.list (v.l[i].f.map Fld.enc),
      .int t.k,.int t.mn,.int t.mx,.list (t.en.map .str),.str t.key,.list (t.it.map Sch.enc),.list (t.f.map SFld.enc),.bool true])=Ei (B6 s v.l[i]):=by
      unfold B6 Ei;rw [ht];rfl
     simp only [c2,decide_true,Bool.not_true,Bool.false_eq_true,if_false,hms,c3,Option.bind_some,Sch.I0,ht,List.map_cons,List.map_nil,O.Aj,Int.le_refl,if_true,Int.toNat_zero,List.getElem?_cons_zero,Sch.Bv,Sch.C9,Sch.D7,Sch.Cq,Sch.Da,Sch.Hm,
      Val.Bv,Val.C9,Val.D7,Val.Cq,Val.Da,O.Ci,O.Cb,nxt (show i<4611686018427387904 by omega),Bool.not_false,Bool.true_and,Bool.and_true]
     rw [he,ha]
     simp only [Option.bind_some]
     refine ih.trans ?_
     unfold Hu
     simp only [List.append_assoc,List.singleton_append]
   ·simp [c2]
theorem Acs (s t:Sch) (v:Val) (ht:s.it= [t]) (hv:v.Ay≤1048576):W F86 0 [s.enc,v.enc]=some [.list ((if Gt s.key [] v.l then v.l.map (B6 s) else []).map Ei)]:=by
 have:=Og s t v ht hv v.l.length 0 [] [] (by omega) rfl
 rw [List.drop_zero] at this
 rw [Auq]
 simp only [Val.Cq,Option.bind_some,Ys]
 exact this
theorem Sv (x:Kid) (hsb: ∀s,x.2.2=some s→SB s∧s.Ay≤1048576) (hv:x.2.1.Ay≤1048576):W F82 0 [Ei x]=some [.list ((kids x.2.2 x.2.1).map Ei)]:=by
 obtain ⟨st,v,o⟩:=x
 rw [Aun]
 simp only [Axl,kid9,kid4,Axz,At6,Alv,Option.bind_some,O.A3,O.Eh,O.Ab,Aw,Am]
 cases o with
 | none=>simp [kids]
 | some s=>
  obtain ⟨hsb,hs⟩:=hsb s rfl
  simp only [Option.isSome_some,Bool.not_true,Bool.false_eq_true,if_false,Option.getD_some]
  rw [kids]
  by_cases c1:s.k=v.k
  ·simp only [c1,decide_true,Bool.not_true,Bool.false_eq_true,if_false,if_true,O.eq_int,Option.bind_some]
   by_cases c2:v.k=5
   ·simp only [c2,decide_true,if_true,Af2 s v (by omega) hv,O.Ah];rfl
   ·simp only [c2,decide_false,Bool.false_eq_true,if_false,O.Ab,Aw,O.H5,Option.bind_some,Am]
    by_cases c3:v.k=4
    ·have hl:=hsb.list (by omega)
     obtain ⟨t,ht⟩: ∃t,s.it= [t]:=List.length_eq_one_iff.1 hl
     by_cases c4:s.key=Ar
     ·have:s.key=(⟨#[]⟩:ByteArray):=c4
      have e:decide (Ar=(⟨#[]⟩:ByteArray))=true:=rfl
      simp only [c3,decide_true,if_true,e,Bool.not_true,Bool.false_eq_true,if_false,c4,ne_eq,not_true_eq_false,false_and,and_false,List.map_nil]
     ·have c4': ¬ s.key=(⟨#[]⟩:ByteArray):=c4
      simp only [c3,decide_true,if_true,c4',decide_false,Bool.not_false,Acs s t v ht hv,O.Ah,true_and,c4,ne_eq,not_false_eq_true]
      rfl
    ·simp [c3]
  ·simp [c1]
theorem Adb (p:List Stp) (s:Stp) (hl:p.length≤1073741824):W F88 0 [.list (p.map Stp.enc),s.enc]=some [.list ((p++ [s]).map Stp.enc)]:=by
 have h1:O.Lc [.list (p.map Stp.enc)]=some [.list (p.map Stp.enc)]:=Gy (by rw [List.length_map];omega)
 rw [Ath]
 simp only [Av6,h1,O.Ah,O.Cb,Option.bind_some,apm Stp.enc (n:=48) p s (by omega)]
def OSB (o:Option Sch):Prop:= ∀s,o=some s→SB s∧s.Ay≤1048576
theorem Aj5 {o:Option Sch} {v:Val} (h:OSB o) {x:Kid} (hx:x∈kids o v):OSB x.2.2:=by
 cases o with
 | none=>simp [kids] at hx
 | some s=>
  obtain ⟨h1,h2⟩:=h s rfl
  rw [kids] at hx
  split at hx
  ·split at hx
   ·obtain ⟨p,hp,rfl⟩:=List.mem_map.1 hx
    intro t ht
    have:=N1 ht
    exact ⟨h1.sub ht,by omega⟩
   ·split at hx
    ·obtain ⟨p,hp,rfl⟩:=List.mem_map.1 hx
     intro t ht
     have hm:=List.mem_of_head? ht
     have:=Sch.I2 hm
     exact ⟨h1.Ru hm,by omega⟩
    ·simp at hx
  ·simp at hx
theorem Aag {o:Option Sch} {v:Val} (h:OSB o) (hv:v.Ay≤1048576) {x:Kid} (hx:x∈kids o v):x.1.fits:=by
 cases o with
 | none=>simp [kids] at hx
 | some s=>
  obtain ⟨h1,h2⟩:=h s rfl
  rw [kids] at hx
  split at hx
  ·split at hx
   ·obtain ⟨p,hp,rfl⟩:=List.mem_map.1 hx
    have:=Val.Dz hp
    exact Gw _ (by omega)
   ·split at hx
    ·obtain ⟨p,hp,rfl⟩:=List.mem_map.1 hx
     have:=Val.Kf hp
     have h3:=Aet p s.key
     have:=s.V9
     exact ⟨by show s.key.size≤_;omega,by show (Hu p s.key).size ≤_;unfold Hu;omega⟩
    ·simp at hx
  ·simp at hx
end Go.CT.Sch
namespace Go.CT.Sch
open Go.Proofs
theorem Adv (o:Option Sch) (v:Val) (g:Kid→List ByteArray) (hg: ∀x∈kids o v,(g x).length ≤x.2.1.size):((kids o v).flatMap g).length <v.size:=by
 have hF: ∀ (l:List (ByteArray × Val)) (s:Sch),(∀x∈l.map (Cd s),(g x).length ≤x.2.1.size)→((l.map (Cd s)).flatMap g).length ≤Bh l:=by
  intro l s
  induction l with
  | nil=>simp
  | cons a l ih=>
   intro h
   have h1:=h (Cd s a) (by simp)
   have h2:=ih fun x hx=>h x (by simp only [List.map_cons,List.mem_cons];exact .inr hx)
   have h3:(Cd s a).2.1.size =a.2.size:=rfl
   have h4:Bh (a::l)=a.2.size+Bh l:=rfl
   simp only [List.map_cons,List.flatMap_cons,List.length_append];omega
 have hV: ∀ (l:List Val) (s:Sch),(∀x∈l.map (B6 s),(g x).length ≤x.2.1.size)→((l.map (B6 s)).flatMap g).length ≤B8 l:=by
  intro l s
  induction l with
  | nil=>simp
  | cons a l ih=>
   intro h
   have h1:=h (B6 s a) (by simp)
   have h2:=ih fun x hx=>h x (by simp only [List.map_cons,List.mem_cons];exact .inr hx)
   have h3:(B6 s a).2.1.size =a.size:=rfl
   have h4:B8 (a::l)=a.size+B8 l:=rfl
   simp only [List.map_cons,List.flatMap_cons,List.length_append];omega
 have hs:=v.size_eq
 cases o with
 | none=>simp only [kids,List.flatMap_nil,List.length_nil];omega
 | some s=>
  revert hg
  rw [kids]
  intro hg
  split
  ·rename_i c1;rw [if_pos c1] at hg
   split
   ·rename_i c2;rw [if_pos c2] at hg
    have:((v.f.map (Cd s)).flatMap g).length ≤Bh v.f:=hF v.f s hg
    show ((v.f.map (Cd s)).flatMap g).length <_
    omega
   ·rename_i c2;rw [if_neg c2] at hg
    split
    ·rename_i c3;rw [if_pos c3] at hg
     have:((v.l.map (B6 s)).flatMap g).length ≤B8 v.l:=hV v.l s hg
     show ((v.l.map (B6 s)).flatMap g).length <_
     omega
    ·simp only [List.flatMap_nil,List.length_nil];omega
  ·simp only [List.flatMap_nil,List.length_nil];omega
theorem Aj4: ∀ (n:Nat) (o:Option Sch) (v:Val) (p:List Stp),(lv n o v p).length ≤v.size
 | 0,_,_,_=>by simp [lv]
 | n+1,o,v,p=>by
  have:=v.size_pos
  rw [lv]
  split
  ·simp;omega
  ·exact Nat.le_of_lt (Adv o v _ fun x _=>Aj4 n _ _ _)
theorem Ah2: ∀ (n:Nat) (x:Kid) (p:List Stp) (out:List ByteArray),x.2.1.size≤n→OSB x.2.2→x.2.1.Ay≤1048576→(∀s∈p,s.fits)→p.length+n≤1073741824→out.length+(lv n x.2.2 x.2.1 p).length ≤1073741824→
  W F81 0 [Ei x,.list (p.map Stp.enc),SL out]=some [SL (out++lv n x.2.2 x.2.1 p)]
 | 0,x,p,out,h,_,_,_,_,_=>by have:=x.2.1.size_pos;omega
 | n+1,x,p,out,h,hsb,hv,hp,hl,ho=>by
  rw [lv] at ho ⊢
  have loop: ∀ (m i:Nat) (out:List ByteArray),i+m=(kids x.2.2 x.2.1).length →out.length+(((kids x.2.2 x.2.1).drop i).flatMap fun y=>lv n y.2.2 y.2.1 (p++ [y.1])).length ≤1073741824→
    W F81 2 [.list (p.map Stp.enc),.int (kids x.2.2 x.2.1).length,.int i,.list ((kids x.2.2 x.2.1).map Ei),SL out]=some [SL (out++((kids x.2.2 x.2.1).drop i).flatMap fun y=>lv n y.2.2 y.2.1 (p++ [y.1]))]:=by
   intro m
   induction m with
   | zero=>
    intro i out hi ho
    have:i=(kids x.2.2 x.2.1).length :=by omega
    subst this
    rw [Amg,List.drop_length]
    simp only [ltn,Option.bind_some,O.Ab,Bool.false_eq_true,if_false,List.flatMap_nil,List.append_nil]
   | succ m ih=>
    intro i out hi ho
    have hi':i<(kids x.2.2 x.2.1).length :=by omega
    have hx:=List.getElem_mem hi'
    obtain ⟨hs1,hs2⟩:=N9 hx
    rw [List.drop_eq_getElem_cons hi',List.flatMap_cons,List.length_append] at ho
    have hlen:(kids x.2.2 x.2.1).length <4611686018427387904:=by
     have:=Adv x.2.2 x.2.1 (fun _=> [Ar]) (fun y hy=>by have:=y.2.1.size_pos;simp;omega)
     have h2:((kids x.2.2 x.2.1).flatMap fun _=> [Ar]).length =(kids x.2.2 x.2.1).length :=by
      generalize kids x.2.2 x.2.1=l
      induction l with
      | nil=>rfl
      | cons a l ih=>simp [List.flatMap_cons,ih]
     have:=x.2.1.Ey
     omega
    have hw:=Ah2 n (kids x.2.2 x.2.1)[i] (p++ [(kids x.2.2 x.2.1)[i].1]) out (by omega) (Aj5 hsb hx) (by omega) (Gi hp (Aag hsb hv hx)) (by simp;omega) (by omega)
    rw [Amg]
    simp only [lti hi',Option.bind_some,O.Ab,if_true,Aoo Ei hi',Ad7,Adb p _ (show p.length≤1073741824 by omega),O.Ah,hw,nxt (show i<4611686018427387904 by omega)]
    rw [ih (i+1) _ (by omega) (by simp only [List.length_append];omega),List.drop_eq_getElem_cons hi',List.flatMap_cons,List.append_assoc]
  rw [Aq5]
  simp only [Sv x hsb hv,O.Ah,Ys,Option.bind_some,O.eq_int,O.Ab]
  by_cases c:kids x.2.2 x.2.1= []
  ·simp only [c,if_true,List.length_nil,Int.cast_ofNat_Int,decide_true,Xg p hp (by omega),O.Ds,Arf,O.Cb,Option.bind_some]
   rw [if_pos c,List.length_singleton] at ho
   have ha:=apm IV.str (n:=16) out (Hs p) (by omega)
   have ha':O.append 16 (SL out) (.list [.str (Hs p)])=some (SL (out++ [Hs p])):=ha
   simp only [ha',Option.bind_some,O.Ah]
   have:=loop 0 0 (out++ [Hs p]) (by rw [c];rfl) (by rw [c];simp;omega)
   rw [c] at this
   simp only [List.length_nil,Int.cast_ofNat_Int,List.drop_nil,List.flatMap_nil,List.append_nil] at this
   rw [Ajk]
   simp only [Ys,List.length_nil,Int.cast_ofNat_Int,Option.bind_some]
   exact this
  ·have c': ¬ ((kids x.2.2 x.2.1).length :Int)=0:=by
    have:(kids x.2.2 x.2.1).length ≠0:=fun e=>c (List.length_eq_zero_iff.1 e)
    omega
   rw [if_neg c] at ho ⊢
   simp only [c',decide_false,Bool.false_eq_true,if_false]
   rw [Ajk]
   simp only [Ys,Option.bind_some]
   have:=loop (kids x.2.2 x.2.1).length 0 out (by omega) (by rw [List.drop_zero];exact ho)
   rw [List.drop_zero] at this
   exact this
theorem Aeb (s:Sch) (v:Val) (hs:s.Ay≤1048576) (hv:v.Ay≤1048576):W F13 0 [s.enc,v.enc]=some [.bool (s.valid&&v.valid)]:=by
 rw [Aub]
 simp only [Ak1 s hs,Oj v (by omega),O.Ah,O.Ab,Aw,Am,Option.bind_some]
 cases s.valid<;>cases v.valid<;>rfl
def Hj (s:Sch) (v:Val):List ByteArray:=if s.valid&&v.valid then Avi (lv v.size (some s) v []) else []
theorem Aa5 (s:Sch) (v:Val) (hs:s.Ay≤1048576) (hv:v.Ay≤1048576):W F12 0 [s.enc,v.enc]=some [SL (Hj s v)]:=by
 rw [Auv]
 simp only [Aeb s v hs hv,O.Ah,O.A3,Option.bind_some,O.Ab]
 unfold Hj
 cases c:s.valid&&v.valid with
 | false=>simp only [Bool.not_false,if_true,Bool.false_eq_true,if_false];rfl
 | true=>
  have c1:s.valid=true∧v.valid=true:=by simpa using c
  have hsb:=Sch.Afk c1.1
  have hsz:=v.Ey
  have hl:=Aj4 v.size (some s) v []
  have he:IV.agg [.int 0,.str ⟨#[]⟩,.int 0,.str ⟨#[]⟩,.int v.k,.int v.n,.str v.s,.list (v.l.map Val.enc),.list (v.f.map Fld.enc),.int s.k,.int s.mn,.int s.mx,.list (s.en.map .str),.str s.key,.list (s.it.map Sch.enc),.list (s.f.map SFld.enc),.bool true]=Ei (⟨0,Ar,0,Ar⟩,v,some s):=rfl
  have hw:=Ah2 v.size (⟨0,Ar,0,Ar⟩,v,some s) [] [] (Nat.le_refl _) (fun t ht=>by cases ht;exact ⟨hsb,hs⟩) hv (by simp) (by simp;omega) (by simp only [List.length_nil];omega)
  simp only [List.nil_append] at hw
  simp only [Bool.not_true,Bool.false_eq_true,if_false,if_true,Val.Bv,Val.C9,Val.D7,Val.Cq,Val.Da,Sch.Bv,Sch.C9,Sch.D7,Sch.Cq,Sch.Da,Sch.I0,Sch.Hm,Option.bind_some,O.Ci,he]
  have hw':W F81 0 [Ei (⟨0,Ar,0,Ar⟩,v,some s),.list [],.list []]=some [SL (lv v.size (some s) v [])]:=hw
  rw [hw']
  simp only [O.Ah,fset (l:=lv v.size (some s) v []) (by omega)]
end Go.CT.Sch
namespace Go.CT.Sch
open Go.Proofs
theorem G9 {key:ByteArray} : ∀ {l:List Val} {acc:List ByteArray},Gt key acc l=true→ ∀x∈l,isKey x key=true
 | [],_,_=>by simp
 | y::l,acc,h=>by
  simp only [Gt,Bool.and_eq_true] at h
  intro x hx
  rcases List.mem_cons.1 hx with rfl | hx
  ·exact h.1.1
  ·exact G9 h.2 x hx
end Go.CT.Sch
namespace Go.CT.Sch
open Go.Proofs
end Go.CT.Sch
namespace Go.CT.Sch
open Go.Proofs
theorem Aaj (v:Val) (hv:v.Ay≤1099511627776) (n:Int) (h0:0≤n) (h1:n≤1000): ∃b,W F3 0 [v.enc,.int n]=some [.bool b]:=by
 obtain ⟨r,h,_⟩:=Amb v hv n n (by omega) (by omega) (by omega)
 exact ⟨decide (0≤r),by rw [Aw4];simp [h]⟩
def PtT (s:Sch):Prop:=s.Ay≤1048576→ ∀c:Int,c≤100000→ ∃r:Int,W F2 0 [s.enc,.int c]=some [.int r]∧r≤100000
theorem Ai3 (s:Sch) (hs:s.Ay≤1048576) (c:Int) (i:Nat) (hi:i<s.f.length) (K: ∃r:Int,(∃r':Int,W F2 0 [s.f[i].s.enc,.int c]=some [.int r']∧W F2 2 [.int r',.int (i+1:Nat),s.enc]=some [.int r])∧r≤100000): ∀ (n j:Nat),j+n=s.f[i].df.length →
  ∃r:Int,W F2 3 [.int c,.int i,.int j,s.enc]=some [.int r]∧r≤100000
 | 0,j,h=>by
  have hj:j=s.f[i].df.length :=by omega
  subst hj
  have hm:=s.Bc
  obtain ⟨r,⟨r',h1,h2⟩,h3⟩:=K
  rw [Aqj]
  exact ⟨r,by simp only [Sch.Hm,Option.bind_some,Aoo SFld.enc hi,SFld.Cq,Ys,ltn,O.Ab,Bool.false_eq_true,if_false,SFld.Acr,h1,O.Ah,nxt (show i<4611686018427387904 by omega),h2],h3⟩
 | n+1,j,h=>by
  have hj:j<s.f[i].df.length :=by omega
  have hd:=Sch.Ai1 (List.getElem_mem hi) (List.getElem_mem hj)
  have hl:s.f[i].df.length ≤4294967296:=by
   have:=Sch.Dz (List.getElem_mem hi)
   have:=Mn s.f[i].df
   omega
  obtain ⟨b,hb⟩:=Aaj s.f[i].df[j] (by omega) 50 (by omega) (by omega)
  obtain ⟨r,hr,hr2⟩:=Ai3 s hs c i hi K n (j+1) (by omega)
  rw [Aqj]
  simp only [Sch.Hm,Option.bind_some,Aoo SFld.enc hi,SFld.Cq,Ys,lti hj,O.Ab,if_true,O.B4,Aoo Val.enc hj,hb,O.Ah,O.A3,Aw,Am,nxt (show j<4611686018427387904 by omega),hr]
  by_cases c1:(2:Int)<j
  ·exact ⟨-1,by simp [c1],by omega⟩
  ·cases b
   ·exact ⟨-1,by simp [c1],by omega⟩
   ·exact ⟨r,by simp [c1],hr2⟩
theorem Acv (s:Sch) (hs:s.Ay≤1048576) (ih: ∀p∈s.f,PtT p.s): ∀ (n i:Nat) (c:Int),i+n=s.f.length→c≤100000→
  ∃r:Int,W F2 2 [.int c,.int i,s.enc]=some [.int r]∧r≤100000
 | 0,i,c,h,hc=>by
  have hi:i=s.f.length:=by omega
  subst hi
  rw [Aqs]
  exact ⟨c,by simp only [Sch.Hm,Option.bind_some,Ys,ltn,O.Ab,Bool.false_eq_true,if_false],hc⟩
 | n+1,i,c,h,hc=>by
  have hi:i<s.f.length:=by omega
  have hm:=Sch.Dz (List.getElem_mem hi)
  obtain ⟨r',h1,h2⟩:=ih _ (List.getElem_mem hi) (by omega) c hc
  obtain ⟨r,h3,h4⟩:=Acv s hs ih n (i+1) r' (by omega) h2
  obtain ⟨r2,h5,h6⟩:=Ai3 s hs c i hi ⟨r,⟨r',h1,h3⟩,h4⟩ s.f[i].df.length 0 (by omega)
  have h5':W F2 3 [.int c,.int i,.int 0,s.enc]=some [.int r2]:=h5
  rw [Aqs]
  by_cases c1:0≤c
  ·exact ⟨r2,by simp only [Sch.Hm,Option.bind_some,Ys,lti hi,O.Ab,if_true,O.Gr,c1,decide_true,h5'],h6⟩
  ·exact ⟨c,by simp only [Sch.Hm,Option.bind_some,Ys,lti hi,O.Ab,if_true,O.Gr,c1,decide_false,Bool.false_eq_true,if_false],hc⟩
theorem Alw (s:Sch) (hs:s.Ay≤1048576) (ih: ∀t∈s.it,PtT t) (ihf: ∀p∈s.f,PtT p.s): ∀ (n i:Nat) (c:Int),i+n=s.it.length→c≤100000→
  ∃r:Int,W F2 1 [.int c,.int i,s.enc]=some [.int r]∧r≤100000
 | 0,i,c,h,hc=>by
  have hi:i=s.it.length:=by omega
  subst hi
  obtain ⟨r,h1,h2⟩:=Acv s hs ihf s.f.length 0 c (by omega) hc
  have h1':W F2 2 [.int c,.int 0,s.enc]=some [.int r]:=h1
  rw [Aqq]
  exact ⟨r,by simp only [Sch.I0,Option.bind_some,Ys,ltn,O.Ab,Bool.false_eq_true,if_false,h1'],h2⟩
 | n+1,i,c,h,hc=>by
  have hi:i<s.it.length:=by omega
  have hl:=s.Abj
  have hm:=Sch.I2 (List.getElem_mem hi)
  obtain ⟨r',h1,h2⟩:=ih _ (List.getElem_mem hi) (by omega) c hc
  obtain ⟨r,h3,h4⟩:=Alw s hs ih ihf n (i+1) r' (by omega) h2
  obtain ⟨r2,h5,h6⟩:=Acv s hs ihf s.f.length 0 c (by omega) hc
  have h5':W F2 2 [.int c,.int 0,s.enc]=some [.int r2]:=h5
  rw [Aqq]
  by_cases c1:0≤c
  ·exact ⟨r,by simp only [Sch.I0,Option.bind_some,Ys,lti hi,O.Ab,if_true,O.Gr,c1,decide_true,Aoo Sch.enc hi,h1,O.Ah,nxt (show i<4611686018427387904 by omega),h3],h4⟩
  ·exact ⟨r2,by simp only [Sch.I0,Option.bind_some,Ys,lti hi,O.Ab,if_true,O.Gr,c1,decide_false,Bool.false_eq_true,if_false,h5'],h6⟩
theorem Akf: ∀s:Sch,PtT s:=by
 refine Sch.ind fun s ih1 ih2 hs c hc=>?_
 rw [Avw]
 simp only [O.Dt,Option.bind_some,O.Ab,Sch.Cq,Ys,O.B4,Aw,Am,O.B7]
 by_cases c1:c≤0
 ·exact ⟨-1,by simp [c1],by omega⟩
 ·by_cases c2:(100:Int)<s.en.length
  ·exact ⟨-1,by simp [c1,c2],by omega⟩
  ·have hw:IntKind.i64.wrap (c - 1)=c - 1:=wrap64 (by omega) (by omega)
   obtain ⟨r,h1,h2⟩:=Alw s hs ih1 ih2 s.it.length 0 (c - 1) (by omega) (by omega)
   have h1':W F2 1 [.int (c - 1),.int 0,s.enc]=some [.int r]:=h1
   exact ⟨r,by simp only [c1,c2,decide_false,Bool.false_eq_true,if_false,hw,h1'],h2⟩
theorem Alh (s:Sch) (v:Val) (l:List ByteArray) (hs:s.Ay≤1048576) (hv:v.Ay≤1048576): ∃b,W F1 0 [s.enc,v.enc,SL l]=some [.bool b]:=by
 obtain ⟨r,h1,_⟩:=Akf s hs 60 (by omega)
 obtain ⟨b,h2⟩:=Aaj v (by omega) 100 (by omega) (by omega)
 rw [Awm]
 simp only [h1,O.Ah,O.Gr,Option.bind_some,O.Ab,h2,Aw,Srt.len,O.Dt,Am]
 exact ⟨_,rfl⟩
theorem Rx (s:Sch) (v:Val):(Hj s v).length ≤v.size:=by
 unfold Hj
 split
 ·exact Nat.le_trans (Am7 _) (Aj4 _ _ _ _)
 ·simp
end Go.CT.Sch
namespace Go.CT.Sch
open Go.Proofs
theorem Il (p:ByteArray × Val) (nm:ByteArray):W Axa 0 [Fld.enc p,.str nm]=some [.bool (decide (p.1=nm))]:=by
 rw [Apf];simp
theorem Zp (l:List (ByteArray × Val)) (nm:ByteArray) (hl:l.length≤1099511627776): ∀ (n i:Nat),i+n=l.length→(∀p∈l.take i,¬ p.1=nm)→
  (W Arv 1 [.list (l.map Fld.enc),.str nm,.int l.length,.int i]=some [.int (-1)]∧ ∀p∈l,¬ p.1=nm)∨
  ∃j,∃h:j<l.length,W Arv 1 [.list (l.map Fld.enc),.str nm,.int l.length,.int i]=some [.int (j:Nat)]∧l[j].1 =nm∧ ∀p∈l.take j,¬ p.1=nm
 | 0,i,h,hp=>by
  left
  rw [Afj]
  have h1: ¬ i<l.length:=by omega
  rw [List.take_of_length_le (by omega)] at hp
  refine ⟨?_,hp⟩
  simp only [O.Ak,An,h1,decide_false,Option.bind_some,O.Ab,Bool.false_eq_true,if_false]
 | n+1,i,h,hp=>by
  have hi:i<l.length:=by omega
  have hw:=Bg (i:=i) (by omega)
  rw [Afj]
  by_cases c:l[i].1 =nm
  ·right
   refine ⟨i,hi,?_,c,hp⟩
   simp only [O.Ak,An,hi,decide_true,Option.bind_some,O.Ab,if_true,O.Aj,Int.natCast_nonneg,Int.toNat_natCast,List.getElem?_map,List.getElem?_eq_getElem hi,Option.map_some,Il,O.Ah,c]
  ·have:=Zp l nm hl n (i+1) (by omega) (by
    intro p hp'
    rw [←Xc l hi] at hp'
    rcases List.mem_append.1 hp' with h | h
    ·exact hp p h
    ·simp at h;subst h;exact c)
   simp only [O.Ak,An,hi,decide_true,Option.bind_some,O.Ab,if_true,O.Aj,Int.natCast_nonneg,Int.toNat_natCast,List.getElem?_map,List.getElem?_eq_getElem hi,Option.map_some,Il,O.Ah,c,decide_false,Bool.false_eq_true,if_false,O.Aq,hw]
   exact this
theorem Kt (nm:ByteArray): ∀ (rest kept junk:List (ByteArray × Val)),junk≠ []→kept.length+junk.length+rest.length≤1099511627776→
  W Ams 1 [.str nm,.int kept.length,.int (kept.length+junk.length:Nat),Srt.LE Fld.enc (kept++(junk++rest))]=some [Srt.LE Fld.enc (kept++rest.filter (Gm nm))]
 | [],kept,junk,hj,hb=>by
  have hj':=List.length_pos_iff.2 hj
  rw [Afc,Srt.len]
  have h1: ¬ ((kept.length+junk.length:Nat):Int)<(kept++(junk++ [])).length :=by simp
  have hc: ∀z:IV,O.clear z (Srt.LE Fld.enc (kept++(junk++ []))) (.int kept.length) (.int (kept++(junk++ [])).length)=some (.list (kept.map Fld.enc++List.replicate junk.length z)):=by
   intro z
   unfold O.clear Srt.LE
   simp only [Prim.ev,List.append_nil,List.length_map,List.length_append,Int.natCast_nonneg,true_and,Int.toNat_natCast,Nat.le_refl,and_true]
   rw [if_pos (by omega)]
   simp
  have hs: ∀ys:List IV,O.slice (.list (kept.map Fld.enc++ys)) (.int 0) (.int kept.length)=some (Srt.LE Fld.enc kept):=by
   intro ys
   rw [O.Us,if_pos (by simp only [List.length_append,List.length_map];omega)]
   simp [Srt.LE]
  have hs2: ∃y,O.slice (Srt.LE Fld.enc (kept++(junk++ []))) (.int kept.length) (.int (kept++(junk++ [])).length)=some y:=by
   unfold Srt.LE
   rw [O.Us,if_pos (by simp only [List.length_append,List.length_map];omega)]
   exact ⟨_,rfl⟩
  obtain ⟨y,hs2⟩:=hs2
  simp only [List.append_nil] at h1 hc hs2
  simp only [List.append_nil,Option.bind_some,O.Ak,h1,decide_false,O.Ab,Bool.false_eq_true,if_false,hs2,hc,hs,List.filter_nil,List.append_nil]
 | v::rest,kept,[],hj,hb=>absurd rfl hj
 | v::rest,kept,y::js,hj,hb=>by
  simp only [List.length_cons] at hb
  rw [Afc,Srt.len]
  have h1:((kept.length+(y::js).length :Nat):Int)<(kept++(y::js++v::rest)).length :=by simp;omega
  have hw:IntKind.i64.wrap (((kept.length+(y::js).length :Nat):Int)+1)=((kept.length+(y::js).length +1:Nat):Int):=by simp only [List.length_cons];rw [wrap64 (by omega) (by omega)];omega
  have hw2:IntKind.i64.wrap ((kept.length:Int)+1)=((kept.length+1:Nat):Int):=Bg (by omega)
  have gv:=Srt.idx Fld.enc (Srt.Cj (l:=kept++(y::js++v::rest)) (A:=kept++y::js) (x:=v) (B:=rest) (by simp) (i:=kept.length+(y::js).length) (by simp))
  have gi:=Srt.idx Fld.enc (Srt.Cj (l:=kept++(y::js++v::rest)) (A:=kept) (x:=y) (B:=js++v::rest) (by simp) (i:=kept.length) rfl)
  have st:=Srt.Hy (l:=kept++(y::js++v::rest)) (A:=kept) (x:=y) (y:=v) (B:=js++v::rest) (by simp) (i:=kept.length) rfl
  have hi1:kept.length<(kept++(y::js++v::rest)).length :=by simp
  rw [List.filter_cons]
  by_cases c:v.1=nm
  ·have ih:=Kt nm rest kept (y::js++ [v]) (by simp) (by simp;omega)
   have hn:Gm nm v=false:=by simp [Gm,c]
   simp only [Option.bind_some,O.Ak,h1,decide_true,O.Ab,if_true,gv,Il,O.Ah,c,O.A3,Bool.not_true,Bool.false_eq_true,if_false,Aea,O.Aq,hw,hn]
   rw [show kept.length+(y::js).length +1=kept.length+(y::js++ [v]).length by simp;omega]
   rw [←ih];simp
  ·have ih:=Kt nm rest (kept++ [v]) (js++ [v]) (by simp) (by simp;omega)
   have hn:Gm nm v=true:=by simp [Gm,c]
   simp only [Option.bind_some,O.Ak,h1,decide_true,O.Ab,if_true,gv,Il,O.Ah,c,decide_false,O.A3,Bool.not_false,gi,Srt.Amu Fld.enc hi1,st,O.Aq,hw2,Aea,hw,hn]
   rw [show kept.length+(y::js).length +1=(kept++ [v]).length +(js++ [v]).length by simp;omega,show kept.length+1=(kept++ [v]).length by simp]
   rw [show kept++v::(js++v::rest)=kept++ [v]++(js++ [v]++rest) by simp,ih]
   simp
theorem Agu (l:List (ByteArray × Val)) (nm:ByteArray) (hl:l.length≤1099511627776):
  W Ams 0 [.list (l.map Fld.enc),.str nm]=some [.list ((l.filter (Gm nm)).map Fld.enc)]:=by
 rw [An7,Amw]
 have key:=Zp l nm hl l.length 0 (by omega) (by simp)
 simp only [Int.cast_ofNat_Int] at key
 rcases key with ⟨h1,h2⟩ | ⟨j,hj,h1,h2,h3⟩
 ·simp only [O.Ao,List.length_map,Option.bind_some,h1,O.Ah,O.eq_int,decide_true,O.Ab,if_true]
  congr 3
  rw [List.filter_eq_self.2 (fun p hp=>by simp [Gm,h2 p hp])]
 ·have hne: ¬ (j:Int)= -1:=by omega
  have hw2:IntKind.i64.wrap ((j:Int)+1)=((j+1:Nat):Int):=Bg (by omega)
  simp only [O.Ao,List.length_map,Option.bind_some,h1,O.Ah,O.eq_int,hne,decide_false,O.Ab,Bool.false_eq_true,if_false,O.Aq,hw2]
  have hs:l=l.take j++([l[j]]++l.drop (j+1)):=by
   rw [List.singleton_append,←List.drop_eq_getElem_cons hj,List.take_append_drop]
  have hl1:(l.take j).length =j:=by rw [List.length_take];omega
  have hl2:(l.drop (j+1)).length =l.length - (j+1):=by rw [List.length_drop]
  have hd:=Kt nm (l.drop (j+1)) (l.take j) [l[j]] (by simp) (by simp only [List.length_singleton];omega)
  rw [hl1,List.length_singleton,←hs] at hd
  rw [show IV.list (l.map Fld.enc)=Srt.LE Fld.enc l from rfl,hd]
  have hf:l.filter (Gm nm)=l.take j++(l.drop (j+1)).filter (Gm nm):=by
   conv=>lhs;rw [hs]
   rw [List.filter_append,List.filter_append,List.filter_eq_self.2 (fun p hp=>by simp [Gm,h3 p hp])]
   congr 1
   simp [Gm,h2]
  rw [hf];rfl
theorem Acf (v:Val) (nm:ByteArray) (hv:Hg 1073741824 v):W Ax6 0 [v.enc,.str nm]=some [.list ((D6 v nm).map Fld.enc)]:=by
 rw [An9]
 unfold D6
 have h6:=hv.O8
 have hc:(v.f.map Fld.enc).length ≤1073741824:=by rw [List.length_map];omega
 have hd:=Agu v.f nm (by omega)
 by_cases c:v.k=5
 ·simp only [Val.Bv,Val.Da,Option.bind_some,O.Eh,c,decide_true,Bool.not_true,O.Ab,Bool.false_eq_true,if_false,Ats,Gy hc,O.Ah,hd,if_true]
  rfl
 ·simp [c]
theorem Air (v:Val) (nm:ByteArray) (x:Val) (hv:Hg 1073741823 v) (hx:Hg 1073741823 x):W Ayn 0 [v.enc,.str nm,x.enc]=some (Ep v nm x).Hl :=by
 have ho:=Tf hv nm
 have h6:=ho.1
 have hm:=Ady (D6 v nm++ [(nm,x)]) ⟨by simp;omega,fun p hp=>by
  rcases List.mem_append.1 hp with h | h
  ·exact (ho.2 p h).mono (by omega)
  ·simp at h;subst h;exact hx.mono (by omega)⟩
 have hap:((D6 v nm).length +1) * 96≤Ax:=Aa0 (by omega) (by omega)
 simp only [List.map_append,List.map_cons,List.map_nil] at hm
 rw [Ann]
 simp only [Acf v nm (hv.mono (by omega)),O.Ah,Val.Bv,Val.C9,Val.D7,Val.Cq,Val.Da,Option.bind_some,O.Ci,Fld.Hw,O.Cb,O.Bl,List.length_map,List.length_singleton,hap,if_true,hm,Val.Ck,O.E3]
 rfl
end Go.CT.Sch
namespace Go.CT.Sch
open Go.Proofs
theorem Jg (r:Kid→Val × Bool) (x:Kid) (l:List Kid):Et r (x::l)=if (r x).2 then (x.1,(r x).1)::Et r l else Et r l:=by
 unfold Et
 rw [List.filterMap_cons]
 cases (r x).2<;>simp
theorem Aaz (r:Kid→Val × Bool) (l:List Kid):(Et r l).length ≤l.length:=List.length_filterMap_le _ _
theorem Oy {r:Kid→Val × Bool} {l:List Kid} {y:Stp × Val} (h:y∈Et r l): ∃x∈l,(r x).2 =true∧y=(x.1,(r x).1):=by
 unfold Et at h
 obtain ⟨x,hx,e⟩:=List.mem_filterMap.1 h
 split at e
 ·rename_i c;cases e;exact ⟨x,hx,c,rfl⟩
 ·cases e
theorem All {o:Option Sch} {v:Val} {x:Kid} (h:x∈kids o v):(v.k=5∧x.1.k=1)∨(v.k=4∧x.1.k=3):=by
 cases o with
 | none=>simp [kids] at h
 | some s=>
  rw [kids] at h
  split at h
  ·split at h
   ·obtain ⟨p,hp,rfl⟩:=List.mem_map.1 h
    exact .inl ⟨by assumption,rfl⟩
   ·split at h
    ·obtain ⟨p,hp,rfl⟩:=List.mem_map.1 h
     exact .inr ⟨by rename_i c;exact c.1,rfl⟩
    ·simp at h
  ·simp at h
theorem Wb (o:Option Sch) (v:Val):(kids o v).length ≤if v.k=5 then v.f.length else v.l.length:=by
 cases o with
 | none=>simp [kids]
 | some s=>
  rw [kids]
  split
  ·split
   ·simp
   ·split
    ·simp
    ·simp
  ·simp
theorem H6 (d:Nat) (o:Option Sch) (v:Val) (p:List Stp) (ch:ByteArray→Bool):pt (d+1) o v p ch=if kids o v= [] then (v,ch (Hs p)) else
    (⟨v.k,0,Ar,if v.k=5 then [] else El (Et (fun x=>pt d x.2.2 x.2.1 (p++ [x.1]) ch) (kids o v)),
      if v.k=5 then fieldsOf (Et (fun x=>pt d x.2.2 x.2.1 (p++ [x.1]) ch) (kids o v)) else []⟩,
     !(Et (fun x=>pt d x.2.2 x.2.1 (p++ [x.1]) ch) (kids o v)).isEmpty):=by rw [pt]
theorem Aoc: ∀ (n:Nat) (o:Option Sch) (v:Val) (p:List Stp) (ch:ByteArray→Bool),(pt n o v p ch).1.f.length ≤v.f.length
 | 0,_,_,_,_=>Nat.le_refl _
 | n+1,o,v,p,ch=>by
  rw [H6]
  split
  ·exact Nat.le_refl _
  ·simp only [Val.Acy]
   split
   ·rename_i c
    have h1:=Aaz (fun x=>pt n x.2.2 x.2.1 (p++ [x.1]) ch) (kids o v)
    have h2:=Wb o v
    rw [if_pos c] at h2
    simp only [fieldsOf,List.length_map];omega
   ·simp
theorem Y7 (s:ByteArray) (N:Nat):Hg N (Jl s):=by
 constructor<;>simp [Jl]
theorem Aca (v:Val) (nm:ByteArray):(D6 v nm).length ≤v.f.length:=by
 unfold D6;split
 ·exact List.length_filter_le _ _
 ·simp
theorem Age {N:Nat} {v x:Val} (nm:ByteArray) (h:Hg (N+1) v) (hx:Hg (N+1) x) (hl:v.f.length≤N):Hg (N+1) (Ep v nm x):=by
 have ho:=Tf h nm
 have h6:=Aca v nm
 have hm:=Z2 (N:=N+1) (l:=D6 v nm++ [(nm,x)]) ⟨by simp;omega,fun p hp=>by
  rcases List.mem_append.1 hp with h | h
  ·exact ho.2 p h
  ·simp at h;subst h;exact hx⟩
 constructor
 ·simp [Ep]
 ·exact hm.1
 ·simp [Ep]
 ·exact hm.2
theorem Zu {N:Nat} {o:Option Sch} {v:Val} (h:Hg N v) {x:Kid} (hx:x∈kids o v):Hg N x.2.1:=by
 cases o with
 | none=>simp [kids] at hx
 | some s=>
  rw [kids] at hx
  split at hx
  ·split at hx
   ·obtain ⟨p,hp,rfl⟩:=List.mem_map.1 hx;exact h.R1 hp
   ·split at hx
    ·obtain ⟨p,hp,rfl⟩:=List.mem_map.1 hx;exact h.Ag1 hp
    ·simp at hx
  ·simp at hx
theorem Xs {N:Nat} : ∀ (n:Nat) (o:Option Sch) (v:Val) (p:List Stp) (ch:ByteArray→Bool),Hg N v→Hg (N+1) (pt n o v p ch).1
 | 0,_,v,_,_,h=>h.mono (by omega)
 | n+1,o,v,p,ch,h=>by
  rw [H6]
  split
  ·exact h.mono (by omega)
  ·have h1:=Aaz (fun x=>pt n x.2.2 x.2.1 (p++ [x.1]) ch) (kids o v)
   have h2:=Wb o v
   have h3:=h.Aak
   have h4:=h.O8
   constructor
   ·simp only [Val.Abc]
    split
    ·simp
    ·rename_i c;rw [if_neg c] at h2;simp only [El,List.length_map];omega
   ·simp only [Val.Acy]
    split
    ·rename_i c;rw [if_pos c] at h2;simp only [fieldsOf,List.length_map];omega
    ·simp
   ·simp only [Val.Abc]
    split
    ·simp
    ·intro x hx
     obtain ⟨y,hy,rfl⟩:=List.mem_map.1 hx
     obtain ⟨z,hz,_,rfl⟩:=Oy hy
     have:=Aoc n z.2.2 z.2.1 (p++ [z.1]) ch
     have hw:=Zu h hz
     have:=hw.O8
     exact Age _ (Xs n _ _ _ _ hw) (Y7 _ _) (by show (pt n z.2.2 z.2.1 (p++ [z.1]) ch).1.f.length ≤N;omega)
   ·simp only [Val.Acy]
    split
    ·intro x hx
     obtain ⟨y,hy,rfl⟩:=List.mem_map.1 hx
     obtain ⟨z,hz,_,rfl⟩:=Oy hy
     exact Xs n _ _ _ _ (Zu h hz)
    ·simp
def chB (ks:List ByteArray) (is:Bool):ByteArray→Bool:=fun t=>inB ks t == is
theorem Al6 (t:ByteArray) (ks:List ByteArray) (is:Bool):W Axi 0 [.str t,.list (Vc ks),.bool is]=some [.bool (chB ks is t),.list (Vc ks),.bool is]:=by
 obtain ⟨b,hb⟩:=Awj ks t
 rw [Aoy]
 simp only [Awa,hb,Option.bind_some,O.Amz];rfl
theorem Aka: ∀ (n:Nat) (x:Kid) (p:List Stp) (ks:List ByteArray) (is:Bool),x.2.1.size≤n→OSB x.2.2→x.2.1.Ay≤1048576→(∀s∈p,s.fits)→p.length+n≤1073741824→
  W F99 0 [Ei x,.list (p.map Stp.enc),.list (Vc ks),.bool is]=some [(pt n x.2.2 x.2.1 p (chB ks is)).1.enc,.bool (pt n x.2.2 x.2.1 p (chB ks is)).2,.list (Vc ks),.bool is]
 | 0,x,p,ks,is,h,_,_,_,_=>by have:=x.2.1.size_pos;omega
 | n+1,x,p,ks,is,h,hsb,hv,hp,hl=>by
  obtain ⟨st,v,o⟩:=x
  simp only at h hsb hv ⊢
  have hkl:=Wb o v
  have hlf:=v.Bc
  have hll:=v.Du
  have hk1:(kids o v).length ≤1048576:=by split at hkl<;>omega
  have loop: ∀ (m i:Nat) (L:List Val) (F:List (ByteArray × Val)),i+m=(kids o v).length →L.length+F.length≤i→
    W F99 1 [.list (p.map Stp.enc),.int (kids o v).length,.int i,.bool is,.int 0,.int 0,.str ⟨#[]⟩,.int v.k,.int 0,.str ⟨#[]⟩,.list ((kids o v).map Ei),.list (Vc ks),.list (L.map Val.enc),.list (F.map Fld.enc)]=
    some [(Val.mk v.k 0 Ar (L++(if v.k=5 then [] else El (Et (fun x=>pt n x.2.2 x.2.1 (p++ [x.1]) (chB ks is)) ((kids o v).drop i)))) (F++(if v.k=5 then fieldsOf (Et (fun x=>pt n x.2.2 x.2.1 (p++ [x.1]) (chB ks is)) ((kids o v).drop i)) else []))).enc,
     .bool (decide (0<L.length+F.length+(Et (fun x=>pt n x.2.2 x.2.1 (p++ [x.1]) (chB ks is)) ((kids o v).drop i)).length)),.list (Vc ks),.bool is]:=by
   intro m
   induction m with
   | zero=>
    intro i L F hi hb
    have:i=(kids o v).length :=by omega
    subst this
    have hw:IntKind.i64.wrap ((F.length:Int)+(L.length:Int))=(F.length:Int)+(L.length:Int):=wrap64 (by omega) (by omega)
    rw [Amc,List.drop_length]
    simp only [ltn,Option.bind_some,O.Ab,Bool.false_eq_true,if_false,Ys,O.Aq,hw,O.B4,O.Ci]
    have e1:Et (fun x=>pt n x.2.2 x.2.1 (p++ [x.1]) (chB ks is)) []= []:=rfl
    have e2:(if v.k=5 then ([]:List Val) else El [])= []:=by split<;>rfl
    have e3:(if v.k=5 then fieldsOf [] else ([]:List (ByteArray × Val)))= []:=by split<;>rfl
    rw [e1,e2,e3,List.append_nil,List.append_nil,Val.D8,Val.Ck]
    have e4:decide ((0:Int)<(F.length:Int)+(L.length:Int))=decide (0<L.length+F.length+([]:List (Stp × Val)).length):=by
     rw [decide_eq_decide];simp only [List.length_nil];omega
    rw [e4];rfl
   | succ m ih=>
    intro i L F hi hb
    have hi':i<(kids o v).length :=by omega
    have hx:=List.getElem_mem hi'
    obtain ⟨hs1,hs2⟩:=N9 hx
    have hr:=Aka n (kids o v)[i] (p++ [(kids o v)[i].1]) ks is (by omega) (Aj5 hsb hx) (by omega) (Gi hp (Aag hsb hv hx)) (by simp;omega)
    have hk:=All hx
    have hcons: ∀d,Et (fun x=>pt n x.2.2 x.2.1 (p++ [x.1]) (chB ks is)) ((kids o v)[i]::d)=if (pt n (kids o v)[i].2.2 (kids o v)[i].2.1 (p++ [(kids o v)[i].1]) (chB ks is)).2 then ((kids o v)[i].1,(pt n (kids o v)[i].2.2 (kids o v)[i].2.1 (p++ [(kids o v)[i].1]) (chB ks is)).1)::Et (fun x=>pt n x.2.2 x.2.1 (p++ [x.1]) (chB ks is)) d else Et (fun x=>pt n x.2.2 x.2.1 (p++ [x.1]) (chB ks is)) d:=fun d=>Jg _ _ _
    rw [Amc,List.drop_eq_getElem_cons hi',hcons]
    simp only [lti hi',Option.bind_some,O.Ab,if_true,Aoo Ei hi',Ad7,Adb p _ (show p.length≤1073741824 by omega),O.Ah,hr,O.Aj6,O.A3]
    cases c:(pt n (kids o v)[i].2.2 (kids o v)[i].2.1 (p++ [(kids o v)[i].1]) (chB ks is)).2 with
    | false=>
     simp only [Bool.not_false,if_true,Aby,nxt (show i<4611686018427387904 by omega),Option.bind_some,Bool.false_eq_true,if_false]
     exact ih (i+1) L F (by omega) (by omega)
    | true=>
     simp only [Bool.not_true,Bool.false_eq_true,if_false,kid0,Option.bind_some,O.eq_int,O.Ab,if_true]
     rcases hk with ⟨k5,k1⟩ | ⟨k4,k3⟩
     ·have ha:=apm Fld.enc (n:=96) F ((kids o v)[i].1.nm,(pt n (kids o v)[i].2.2 (kids o v)[i].2.1 (p++ [(kids o v)[i].1]) (chB ks is)).1) (by omega)
      have ih':=ih (i+1) L (F++ [((kids o v)[i].1.nm,(pt n (kids o v)[i].2.2 (kids o v)[i].2.1 (p++ [(kids o v)[i].1]) (chB ks is)).1)]) (by omega) (by simp;omega)
      simp only [k1,decide_true,if_true,kid1,Val.Bv,Val.C9,Val.D7,Val.Cq,Val.Da,Option.bind_some,O.Ci,Fld.Hw,O.Cb,ha,Aby,nxt (show i<4611686018427387904 by omega),ih']
      simp only [k5,if_true,fieldsOf,List.map_cons,List.append_assoc,List.singleton_append,List.length_append,List.length_cons,List.length_nil]
      congr 3
      rw [IV.bool.injEq,decide_eq_decide];omega
     ·have n5: ¬ v.k=5:=by omega
      have hwd:=Xs (N:=1048576) n (kids o v)[i].2.2 (kids o v)[i].2.1 (p++ [(kids o v)[i].1]) (chB ks is) (Hf _ (by omega))
      have hwith:=Air (pt n (kids o v)[i].2.2 (kids o v)[i].2.1 (p++ [(kids o v)[i].1]) (chB ks is)).1 (kids o v)[i].1.nm (Jl (kids o v)[i].1.vl) (hwd.mono (by omega)) (Y7 _ _)
      have ha:=apm Val.enc (n:=80) L (Ep (pt n (kids o v)[i].2.2 (kids o v)[i].2.1 (p++ [(kids o v)[i].1]) (chB ks is)).1 (kids o v)[i].1.nm (Jl (kids o v)[i].1.vl)) (by omega)
      have ih':=ih (i+1) (L++ [Ep (pt n (kids o v)[i].2.2 (kids o v)[i].2.1 (p++ [(kids o v)[i].1]) (chB ks is)).1 (kids o v)[i].1.nm (Jl (kids o v)[i].1.vl)]) F (by omega) (by simp;omega)
      have hs:W F18 0 [.str (kids o v)[i].1.vl]=some (Jl (kids o v)[i].1.vl).Hl :=by rw [Abp];rfl
      have k1:decide ((kids o v)[i].1.k =1)=false:=by simp;omega
      rw [Val.Ck] at hs hwith
      simp only [k1,Bool.false_eq_true,if_false,kid1,kid3,Option.bind_some,hs,O.E3,O.Ci,Val.Hw,hwith,O.Cb,ha,Aby,nxt (show i<4611686018427387904 by omega),ih']
      simp only [n5,if_false,El,List.map_cons,List.append_assoc,List.singleton_append,List.length_append,List.length_cons,List.length_nil]
      congr 3
      rw [IV.bool.injEq,decide_eq_decide];omega
  rw [Asc,H6]
  simp only [Sv (st,v,o) hsb hv,O.Ah,Ys,Option.bind_some,O.eq_int,O.Ab]
  by_cases c:kids o v= []
  ·simp only [c,if_true,List.length_nil,Int.cast_ofNat_Int,decide_true,Xg p hp (by omega),O.Ds,Alv,Option.bind_some,Al6,O.Arw]
  ·have c': ¬ ((kids o v).length :Int)=0:=by
    have:(kids o v).length ≠0:=fun e=>c (List.length_eq_zero_iff.1 e)
    omega
   have:=loop (kids o v).length 0 [] [] (by omega) (by simp)
   rw [List.drop_zero] at this
   simp only [c',decide_false,Bool.false_eq_true,if_false,kid4,Option.bind_some,c]
   refine this.trans ?_
   simp only [List.nil_append,List.length_nil,Nat.zero_add]
   congr 3
   rw [IV.bool.injEq]
   cases Et (fun x=>pt n x.2.2 x.2.1 (p++ [x.1]) (chB ks is)) (kids o v)<;>simp
end Go.CT.Sch
namespace Go.CT.Sch
open Go.Proofs
theorem Ag0 {y:Val} (h:y.valid=true) (hk:y.k=3):y=Jl y.s:=by
 have h1:=R0 h (by omega)
 have h2:=Aaw h (by omega)
 have h3:y.n=0:=by
  rw [Hc] at h
  have:=((D2 11 y).1 h.1).1
  unfold En at this
  rw [if_neg (by omega),if_neg (by omega),if_pos hk] at this
  simp only [Bool.and_eq_true] at this
  simpa using this.1
 obtain ⟨k,n,s,l,f⟩:=y
 simp only [Val.Aw6,Val.Abc,Val.Acy,Val.Av8,Val.Akq] at hk h1 h2 h3 ⊢
 subst hk h1 h2 h3;rfl
theorem Au2 {x:Val} {key:ByteArray} (hx:x.valid=true) (hk:isKey x key=true):(x.get key).getD Bf=Jl (Hu x key):=by
 unfold isKey at hk
 simp only [Bool.and_eq_true,decide_eq_true_eq] at hk
 obtain ⟨y,hy⟩:=Option.isSome_iff_exists.1 hk.1
 unfold Hu
 rw [hy] at hk ⊢
 exact Ag0 (Ais hx hy) hk.2
end Go.CT.Sch
namespace Go.CT.Sch
open Go.Proofs
def G8 (s:Sch) (v:Val) (set:List ByteArray) (is:Bool):Val:=
 if s.valid&&v.valid then (if (pt v.size (some s) v [] (chB set is)).2 then (pt v.size (some s) v [] (chB set is)).1 else if v.k=5∨v.k=4 then ⟨v.k,0,Ar,[],[]⟩ else Bf) else v
theorem Ad4 (w:Val) (hw:Hg 1048577 w):(O.Dr [w.enc]).bind (fun x6=>calls (W F98 0 [x6]) 5 fun _ _ _ x10 _=>(O.index x10 (.int 0)).bind fun x12=>some [x12])=some [w.enc]:=by
 have h:=Aku [w] (by simp) (fun x hx=>by simp at hx;subst hx;exact hw.mono (by omega))
 simp only [List.map_cons,List.map_nil] at h
 rw [Val.Ck] at h
 simp only [O.Cb,Option.bind_some,h,O.E3,Val.Abc,List.map_cons,List.map_nil]
 rfl
theorem Anc (set:List ByteArray) (is:Bool):chB (Pn [] set) is=chB set is:=by
 funext t
 have:inB (Pn [] set) t=inB set t:=by
  rw [Bool.eq_iff_iff,M3,M3,Yl];simp
 unfold chB;rw [this]
theorem T9 (s:Sch) (v:Val) (set:List ByteArray) (is:Bool) (hs:s.Ay≤1048576) (hv:v.Ay≤1048576) (hset:set.length≤1048576) (hsv:s.valid=true) (hvv:v.valid=true): ∀ (n i:Nat) (acc:List ByteArray),i+n=set.length→Pn acc (set.drop i)=Pn [] set→
  W F97 1 [SL set,.int set.length,.int i,s.enc,v.enc,.bool is,.int 0,.int 0,.str ⟨#[]⟩,.list (Vc acc)]=some [(G8 s v set is).enc]
 | 0,i,acc,h,he=>by
  have:i=set.length:=by omega
  subst this
  rw [List.drop_length,Pn] at he
  subst he
  have hk:IV.agg [.int 0,.str ⟨#[]⟩,.int 0,.str ⟨#[]⟩,.int v.k,.int v.n,.str v.s,.list (v.l.map Val.enc),.list (v.f.map Fld.enc),.int s.k,.int s.mn,.int s.mx,.list (s.en.map .str),.str s.key,.list (s.it.map Sch.enc),.list (s.f.map SFld.enc),.bool true]=Ei (⟨0,Ar,0,Ar⟩,v,some s):=rfl
  have hp:=Aka v.size (⟨0,Ar,0,Ar⟩,v,some s) [] (Pn [] set) is (Nat.le_refl _) (fun t ht=>by cases ht;exact ⟨Sch.Afk hsv,hs⟩) hv (by simp) (by have:=v.Ey;simp;omega)
  have hp':W F99 0 [Ei (⟨0,Ar,0,Ar⟩,v,some s),.list [],.list (Vc (Pn [] set)),.bool is]=some [(pt v.size (some s) v [] (chB set is)).1.enc,.bool (pt v.size (some s) v [] (chB set is)).2,.list (Vc (Pn [] set)),.bool is]:=by rw [←Anc];exact hp
  have hc:=Ad4 (pt v.size (some s) v [] (chB set is)).1 (Xs _ _ _ _ _ (Hf _ (by omega)))
  have hnull:W Axg 0 []=some Bf.Hl:=by rw [Am0];rfl
  rw [Val.Ck] at hnull
  rw [Ap4]
  simp only [ltn,Option.bind_some,O.Ab,Bool.false_eq_true,if_false,Val.Bv,Val.C9,Val.D7,Val.Cq,Val.Da,Sch.Bv,Sch.C9,Sch.D7,Sch.Cq,Sch.Da,Sch.I0,Sch.Hm,O.Ci,hk,hp',O.Aj6,hc,O.eq_int,Aw,Am,hnull,O.E3]
  unfold G8
  simp only [hsv,hvv,Bool.and_self,if_true]
  cases (pt v.size (some s) v [] (chB set is)).2 with
  | true=>rfl
  | false=>
   by_cases k5:v.k=5
   ·simp only [k5,decide_true,if_true,true_or,Bool.false_eq_true,if_false];rfl
   ·by_cases k4:v.k=4
    ·simp only [k4];rfl
    ·simp only [k4,k5,decide_false,Bool.false_eq_true,if_false,or_self,Aw];rfl
 | n+1,i,acc,h,he=>by
  have hi:i<set.length:=by omega
  have hx:=Srt.idx IV.str (List.getElem?_eq_getElem hi)
  have ih:=T9 s v set is hs hv hset hsv hvv n (i+1) (if inB acc set[i] then acc else acc++ [set[i]]) (by omega) (by rw [←he,List.drop_eq_getElem_cons hi,Pn])
  rw [Ap4]
  simp only [lti hi,Option.bind_some,O.Ab,if_true,hx,Aw5,nxt (show i<4611686018427387904 by omega),ih]
theorem Wl (s:Sch) (v:Val) (set:List ByteArray) (is:Bool) (hs:s.Ay≤1048576) (hv:v.Ay≤1048576) (hset:set.length≤1048576):W F97 0 [s.enc,v.enc,SL set,.bool is]=some [(G8 s v set is).enc]:=by
 rw [Asq]
 simp only [Aeb s v hs hv,O.Ah,O.A3,Option.bind_some,O.Ab]
 cases c:s.valid&&v.valid with
 | false=>
  have hw:G8 s v set is=v:=by unfold G8;rw [c];rfl
  simp only [Bool.not_false,if_true,Ad4 v ((Hf (N:=1048576) v (by omega)).mono (by omega)),hw]
 | true=>
  have c1:s.valid=true∧v.valid=true:=by simpa using c
  have:=T9 s v set is hs hv hset c1.1 c1.2 set.length 0 [] (by omega) (by rw [List.drop_zero])
  simp only [Bool.not_true,Bool.false_eq_true,if_false,Srt.len,Option.bind_some]
  exact this
end Go.CT.Sch
namespace Go.CT.Sch
open Go.Proofs
end Go.CT.Sch
namespace Go.CT.Sch
open Go.Proofs
theorem Agg (s:ByteArray):s.data.toList.length=s.size:=by simp
theorem Aiu {s:ByteArray} {i:Nat} {l:List UInt8} (h:s.data.toList.drop i=l) (hl:l≠ []):i+l.length=s.size:=by
 have:=congrArg List.length h
 rw [List.length_drop,Agg] at this
 have:0<l.length:=List.length_pos_iff.2 hl
 omega
theorem sx {s:ByteArray} {i:Nat} {c:UInt8} {r:List UInt8} (h:s.data.toList.drop i=c::r):O.Ho (.str s) (.int i)=some (.int c.toNat)∧i<s.size∧s.data.toList.drop (i+1)=r:=by
 have h1:=Aiu h (by simp)
 simp only [List.length_cons] at h1
 have hi:i<s.size:=by omega
 have h2:=Gh hi
 rw [h] at h2
 obtain ⟨h3,h4⟩:=List.cons.inj h2
 refine ⟨?_,hi,h4.symm⟩
 simp only [O.E7,Int.natCast_nonneg,if_true,Int.toNat_natCast,Ap0 hi,Option.map_some,←h3]
end Go.CT.Sch
namespace Go.CT.Sch
open Go.Proofs
end Go.CT.Sch
namespace Go.CT.Sch
open Go.Proofs
inductive To:List (ByteArray × Val)→List (ByteArray × Val)→Prop where
 | nil:To [] []
 | skip {a b q} :To a b→To a (q::b)
 | keep {a b} {p q:ByteArray × Val} :p.1=q.1→p.2.Ay≤q.2.Ay→To a b→To (p::a) (q::b)
theorem To.refl: ∀l,To l l
 | []=> .nil
 | _::l=> .keep rfl (Nat.le_refl _) (To.refl l)
theorem To.Awk {a b:List (ByteArray × Val)} (h:To a b):Cn a≤Cn b:=by
 induction h with
 | nil=>exact Nat.le_refl _
 | skip _ ih=>rw [Bw];omega
 | keep h1 h2 _ ih=>rw [Bw,Bw,h1];omega
theorem To.names {a b:List (ByteArray × Val)} (h:To a b): ∀p∈a,∃q∈b,q.1=p.1:=by
 induction h with
 | nil=>simp
 | skip _ ih=>intro p hp;obtain ⟨q,h1,h2⟩:=ih p hp;exact ⟨q,List.mem_cons_of_mem _ h1,h2⟩
 | keep h1 _ _ ih=>
  intro p hp
  rcases List.mem_cons.1 hp with rfl | hp
  ·exact ⟨_,List.mem_cons_self,h1.symm⟩
  ·obtain ⟨q,h3,h4⟩:=ih p hp;exact ⟨q,List.mem_cons_of_mem _ h3,h4⟩
theorem To.strict {a b:List (ByteArray × Val)} (h:To a b):Dv b→Dv a:=by
 induction h with
 | nil=>exact id
 | skip _ ih=>intro hs;exact ih (List.pairwise_cons.1 hs).2
 | keep h1 _ hsub ih=>
  intro hs
  obtain ⟨hs1,hs2⟩:=List.pairwise_cons.1 hs
  refine List.pairwise_cons.2 ⟨fun y hy=>?_,ih hs2⟩
  obtain ⟨z,hz,e⟩:=hsub.names y hy
  rw [h1,←e];exact hs1 z hz
theorem To.filter {a b:List (ByteArray × Val)} (nm:ByteArray) (h:To a b):To (a.filter fun p=> !decide (p.1=nm)) (b.filter fun p=> !decide (p.1=nm)):=by
 induction h with
 | nil=>exact .nil
 | @skip a b q _ ih=>
  rw [List.filter_cons]
  split
  ·exact .skip ih
  ·exact ih
 | @keep a b p q h1 h2 _ ih=>
  rw [List.filter_cons,List.filter_cons,h1]
  split
  ·exact .keep h1 h2 ih
  ·exact ih
theorem Lj {key:ByteArray} {w:Val} : ∀ {l:List (ByteArray × Val)},(key,w)∈l→Cn (l.filter fun p=> !decide (p.1=key))+(1+key.size+w.Ay)≤Cn l
 | [],h=>by simp at h
 | q::l,h=>by
  rw [List.filter_cons,Bw]
  rcases List.mem_cons.1 h with rfl | h
  ·have:=Jr (fun p=> !decide (p.1=key)) l
   simp only [decide_true,Bool.not_true,Bool.false_eq_true,if_false];omega
  ·have ih:=Lj h
   split
   ·rw [Bw];omega
   ·omega
theorem Alz {u x:Val} {key:ByteArray} {sv:Val} (hu:u.k=5) (hx:x.k=5) (hs:To u.f x.f) (hk:(key,sv)∈x.f):(Ep u key sv).Ay ≤x.Ay:=by
 have h1:Cn (Ep u key sv).f ≤Cn (D6 u key)+(1+key.size+sv.Ay):=by
  have h:Cn (Ep u key sv).f ≤Cn (D6 u key++ [(key,sv)]):=S3 _
  rw [N0,Bw,D9] at h
  exact h
 have h2:Cn (D6 u key)≤Cn (x.f.filter fun p=> !decide (p.1=key)):=by
  unfold D6;rw [if_pos hu];exact (hs.filter key).Awk
 have h3:=Lj hk
 have h4:=x.Bj
 have h5:=(Ep u key sv).Bj
 have h6:(Ep u key sv).s =Ar:=rfl
 have h7:(Ep u key sv).l = []:=rfl
 rw [h6,h7,E9,show Ar.size=0 from rfl] at h5
 omega
theorem Ama (nm:ByteArray) (l:List (ByteArray × Val)) (p:ByteArray × Val):look nm (l++ [p])=if p.1=nm then some p else look nm l:=by
 unfold look
 rw [List.filter_append]
 by_cases c:p.1=nm
 ·simp [isName,c]
 ·simp [isName,c]
theorem Q2 {u:Val} {key:ByteArray} {sv:Val} (hu:u.k=5) (hs:Dv u.f) (p:ByteArray × Val):p∈(Ep u key sv).f ↔(p.1≠key∧p∈u.f)∨p=(key,sv):=by
 have hst:Dv (Ep u key sv).f :=Ij _
 have hso:Dv (D6 u key):=by unfold D6;rw [if_pos hu];exact List.Pairwise.filter _ hs
 rw [Jb hst]
 have e:look p.1 (Ep u key sv).f =if key=p.1 then some (key,sv) else look p.1 (D6 u key):=by
  show look p.1 (T1 (D6 u key++ [(key,sv)]))=_
  rw [Ow,Ama]
 rw [e]
 by_cases c:key=p.1
 ·rw [if_pos c]
  constructor
  ·intro h;exact .inr (Option.some.inj h).symm
  ·rintro (⟨h,_⟩ | h)
   ·exact absurd c.symm h
   ·rw [h]
 ·rw [if_neg c,←Jb hso]
  unfold D6
  rw [if_pos hu,List.mem_filter]
  constructor
  ·rintro ⟨h1,h2⟩;exact .inl ⟨fun e=>c e.symm,h1⟩
  ·rintro (⟨h1,h2⟩ | h)
   ·exact ⟨h2,by simp [h1]⟩
   ·rw [h] at c;exact absurd rfl c
theorem Arr {v w:Val} {nm:ByteArray} (hk:v.k=5) (hs:Dv v.f):v.get nm=some w↔(nm,w)∈v.f:=by
 constructor
 ·exact fun h=>(Ji h).1
 ·intro h
  have:=M7 hs h
  unfold Val.get
  rw [if_pos hk,this];rfl
theorem P5 (u:Val) (key:ByteArray) (sv:Val):Dv (Ep u key sv).f :=Ij _
theorem Zi (u:Val) {key:ByteArray} {sv:Val} (hu:u.k=5) (hs:Dv u.f):(Ep u key sv).get key=some sv:=
 (Arr rfl (P5 u key sv)).2 ((Q2 hu hs _).2 (.inr rfl))
theorem Akj {x:Val} {key:ByteArray} {sv:Val} (hv:x.valid=true) (h:x.get key=some sv):Ep x key sv=x:=by
 obtain ⟨hm,hk⟩:=Ji h
 have hs:=P4 hv
 have hf:(Ep x key sv).f =x.f:=Uf (P5 _ _ _) hs fun p=>by
  rw [Q2 hk hs]
  constructor
  ·rintro (⟨_,h⟩ | rfl)
   ·exact h
   ·exact hm
  ·intro hp
   by_cases c:p.1=key
   ·right
    have h1:=M7 hs hp
    have h2:=M7 hs hm
    rw [c] at h1
    rw [h1] at h2
    exact Option.some.inj h2
   ·exact .inl ⟨c,hp⟩
 have hl:=R0 hv (by omega)
 have h2:x.n=0∧x.s=Ar:=by
  rw [Hc] at hv
  have:=((D2 11 x).1 hv.1).1
  unfold En at this
  rw [if_neg (by omega),if_neg (by omega),if_neg (by omega)] at this
  exact (of_decide_eq_true this).2
 obtain ⟨k,n,s,l,f⟩:=x
 simp only [Val.Aw6,Val.Abc,Val.Acy,Val.Av8,Val.Akq] at hk hl hf h2
 obtain ⟨rfl,rfl⟩:=h2
 subst hk hl
 show Val.mk 5 0 Ar [] (Ep ⟨5,0,Ar,[],f⟩ key sv).f =_
 rw [hf]
end Go.CT.Sch
