import Derived.Test.YtfhkcifopfheaaaGreatDoorCtC
import Derived.Test.YtfhkcifopfheaaaGreatDoorLib
import Derived.Test.YtfhkcifopfheaaaGreatDoorTabA
set_option linter.unusedVariables false
set_option linter.unusedSimpArgs false
namespace Go.CT
def SS (l:List ByteArray):Prop:=l.Pairwise fun a b=>blt a b=true
theorem SS.ext: ∀ {a b:List ByteArray},SS a→SS b→(∀x,x∈a↔x∈b)→a=b
 | [],[],_,_,_=>rfl
 | [],y::b,_,_,h=>by have:=(h y).2 List.mem_cons_self;cases this
 | x::a,[],_,_,h=>by have:=(h x).1 List.mem_cons_self;cases this
 | x::a,y::b,ha,hb,h=>by
  obtain ⟨a1,a2⟩:=List.pairwise_cons.1 ha
  obtain ⟨b1,b2⟩:=List.pairwise_cons.1 hb
  have hxy:x=y:=by
   rcases List.mem_cons.1 ((h x).1 List.mem_cons_self) with e | e
   ·exact e
   ·rcases List.mem_cons.1 ((h y).2 List.mem_cons_self) with e' | e'
    ·exact e'.symm
    ·have:=I3 (b1 x e) (a1 y e')
     rw [Di] at this;cases this
  subst hxy
  rw [SS.ext a2 b2 fun z=>⟨fun hz=>?_,fun hz=>?_⟩]
  ·rcases List.mem_cons.1 ((h z).1 (List.mem_cons_of_mem _ hz)) with rfl | e
   ·have:=a1 z hz;rw [Di] at this;cases this
   ·exact e
  ·rcases List.mem_cons.1 ((h z).2 (List.mem_cons_of_mem _ hz)) with rfl | e
   ·have:=b1 z hz;rw [Di] at this;cases this
   ·exact e
end Go.CT
namespace Go.CT.Sch
open Go.Proofs
abbrev SL (l:List ByteArray):IV:=Srt.LE IV.str l
def inB (l:List ByteArray) (s:ByteArray):Bool:=l.any fun t=>decide (s=t)
theorem Abh {l:List ByteArray} {s:ByteArray} :inB l s=true↔s∈l:=by
 unfold inB;rw [List.any_eq_true]
 constructor
 ·rintro ⟨t,h1,h2⟩;rw [of_decide_eq_true h2];exact h1
 ·intro h;exact ⟨s,h,by simp⟩
theorem Lk (k:ByteArray) (ks:List ByteArray) (s:ByteArray):inB (k::ks) s=(decide (s=k)||inB ks s):=rfl
def U9 (ks:List ByteArray):List IV:=ks.map fun k=> .agg [.str k,.bool true]
theorem Ak3 (s t:ByteArray):(IV.str s).Lv (.str t)=some (decide (s=t)):=by
 have:(s.toList == t.toList)=decide (s=t):=by
  rw [Bool.eq_iff_iff,beq_iff_eq,decide_eq_true_iff];exact O.Of
 simp only [IV.Lv,this]
theorem Aar (s:ByteArray): ∀ks:List ByteArray,P3 (.str s) (U9 ks)=some (if inB ks s then some (.bool true) else none)
 | []=>rfl
 | k::ks=>by
  have ih:=Aar s ks
  unfold U9 at ih ⊢
  simp only [List.map_cons,P3,Ak3]
  by_cases h:s=k
  ·subst h;simp [Lk]
  ·simp only [h,decide_false,ih,Lk,Bool.false_or]
theorem Apw (s:ByteArray): ∀ks:List ByteArray,Aia (.str s) (.bool true) (U9 ks)=some (U9 (if inB ks s then ks else ks++ [s]))
 | []=>rfl
 | k::ks=>by
  have ih:=Apw s ks
  unfold U9 at ih ⊢
  simp only [List.map_cons,Aia,Ak3]
  by_cases h:s=k
  ·subst h;simp [Lk]
  ·simp only [h,decide_false,ih,Lk,Bool.false_or,Option.map_some]
   cases inB ks s<;>simp
def O7:List ByteArray→List ByteArray→List ByteArray
 | acc,[]=>acc
 | acc,s::l=>O7 (if inB acc s then acc else acc++ [s]) l
theorem Yb: ∀ (l acc:List ByteArray) (x:ByteArray),x∈O7 acc l↔x∈acc∨x∈l
 | [],acc,x=>by simp [O7]
 | s::l,acc,x=>by
  rw [O7,Yb l]
  by_cases h':inB acc s=true
  ·have h:=Abh.1 h'
   simp only [h',if_true,List.mem_cons]
   constructor
   ·rintro (h1 | h1)
    ·exact .inl h1
    ·exact .inr (.inr h1)
   ·rintro (h1 | rfl | h1)
    ·exact .inl h1
    ·exact .inl h
    ·exact .inr h1
  ·simp [h',or_assoc]
end Go.CT.Sch
namespace Go.CT.Sch
open Go.Proofs
end Go.CT.Sch
namespace Go.CT.Sch
open Go.Proofs
end Go.CT.Sch
namespace Go.CT.Sch
open Go.Proofs
theorem Apo (l:List ByteArray) (s:ByteArray) (hl:l.length≤1048576): ∀ (n i:Nat),i+n=l.length→W Asb 1 [SL l,.str s,.int i]=some [.bool (inB (l.drop i) s)]
 | 0,i,h=>by
  have h1: ¬ i<l.length:=by omega
  rw [Aed,Srt.len,List.drop_of_length_le (by omega)]
  simp only [Option.bind_some,O.Ak,Ao,h1,decide_false,O.Ab,Bool.false_eq_true,if_false];rfl
 | n+1,i,h=>by
  have hi:i<l.length:=by omega
  have hw:=Bf (i:=i) (by omega)
  have hx:=Srt.idx IV.str (List.getElem?_eq_getElem hi)
  have ih:=Apo l s hl n (i+1) (by omega)
  rw [Aed,Srt.len,List.drop_eq_getElem_cons hi,Lk]
  by_cases he:l[i]=s
  ·simp only [Option.bind_some,O.Ak,Ao,hi,decide_true,O.Ab,if_true,hx,O.Eg,he,Bool.true_or]
  ·have he': ¬ s=l[i]:=fun e=>he e.symm
   simp only [Option.bind_some,O.Ak,Ao,hi,decide_true,O.Ab,if_true,hx,O.Eg,he,he',decide_false,Bool.false_eq_true,if_false,Bool.false_or,O.Ap,hw,ih]
theorem rhas (l:List ByteArray) (s:ByteArray) (hl:l.length≤1048576):W Asb 0 [SL l,.str s]=some [.bool (inB l s)]:=by
 have:=Apo l s hl l.length 0 (by omega)
 simp only [Int.cast_ofNat_Int,List.drop_zero] at this
 rw [Alz];exact this
end Go.CT.Sch
namespace Go.CT.Sch
open Go.Proofs
theorem An2 (c:UInt8):(0:Int)≤c.toNat∧(c.toNat:Int)≤255:=by
 have:=c.toNat_lt;omega
theorem Gz {s:ByteArray} {i:Nat} (h:i<s.size):s.data.toList.drop i=s[i]::s.data.toList.drop (i+1):=by
 rw [List.drop_eq_getElem_cons (by simpa using h)];rfl
theorem Xh (s:ByteArray) (hs:s.size≤4611686018427387904): ∀ (n i:Nat),i+n=s.size→W Aqf 1 [.str s,.int i]=some [.bool ((s.data.toList.drop i).all Iw&&decide (s.size≤200))]
 | 0,i,h=>by
  rw [Ae1]
  have h1: ¬ i<s.size:=by omega
  have h2:s.data.toList.drop i= []:=List.drop_of_length_le (by simp;omega)
  have h3:decide ((s.size:Int)≤200)=decide (s.size≤200):=by simp;omega
  simp [h1,h2]
  omega
 | n+1,i,h=>by
  have hi:i<s.size:=by omega
  have ih:=Xh s hs n (i+1) (by omega)
  have hw:=Bf (i:=i) (by omega)
  rw [Ae1,Gz hi]
  have hb:=An2 s[i]
  generalize hc:s[i]=c at hb
  have e1:Iw c= !(decide (¬ (c.toNat:Int)=10∧((c.toNat:Int)<32∨(126:Int)<c.toNat))):=by
   unfold Iw
   rw [Bool.eq_iff_iff]
   simp
   omega
  simp only [O.Cm,Option.bind_some,O.Ak,Ao,hi,decide_true,O.Ab,if_true,O.Gs,Int.natCast_nonneg,Int.toNat_natCast,Arr hi,hc,Option.map_some,O.D7,List.all_cons,e1,O.Ap,hw,ih]
  by_cases c1:(c.toNat:Int)=10
  ·simp [c1]
  ·by_cases c2:(c.toNat:Int)<32
   ·simp [c1,c2]
   ·by_cases c3:(126:Int)<c.toNat
    ·simp [c1,c2,c3]
    ·simp [c1,c2,c3]
theorem Ahh (s:ByteArray) (hs:s.size≤4611686018427387904):W Aqf 0 [.str s]=some [.bool (Kz s)]:=by
 rw [Anf]
 exact Xh s hs s.size 0 (by omega)
theorem T2 (s:ByteArray) (hs:s.size≤4611686018427387904): ∀ (n i:Nat),i+n=s.size→W Apm 1 [.str s,.int i]=some [.bool ((s.data.toList.drop i).all Bz&&decide (1≤s.size∧s.size≤40))]
 | 0,i,h=>by
  rw [Acg]
  have h1: ¬ i<s.size:=by omega
  have h2:s.data.toList.drop i= []:=List.drop_of_length_le (by simp;omega)
  have h3:((s.size:Int)≤40)=(s.size≤40):=by simp;omega
  simp [h1,h2,h3]
  have:((1:Int)≤s.size)=(1≤s.size):=by simp;omega
  by_cases c:1≤s.size<;>simp [this,c]
 | n+1,i,h=>by
  have hi:i<s.size:=by omega
  have ih:=T2 s hs n (i+1) (by omega)
  have hw:=Bf (i:=i) (by omega)
  rw [Acg,Gz hi]
  generalize hc:s[i]=c
  have e1:Bz c= !(decide (¬ (((97:Int)≤c.toNat∧(c.toNat:Int)≤122)∨((65:Int)≤c.toNat∧(c.toNat:Int)≤90))∧ ¬ ((48:Int)≤c.toNat∧(c.toNat:Int)≤57)∧ ¬ (c.toNat:Int)=45∧ ¬ (c.toNat:Int)=95∧ ¬ (c.toNat:Int)=47)):=by
   unfold Bz
   rw [Bool.eq_iff_iff]
   simp
   omega
  simp only [O.Cm,Option.bind_some,O.Ak,Ao,hi,decide_true,O.Ab,if_true,O.Gs,Int.natCast_nonneg,Int.toNat_natCast,Arr hi,hc,Option.map_some,O.Gj,O.Dv,O.D7,List.all_cons,e1,O.Ap,hw,ih]
  by_cases p1:(97:Int)≤c.toNat<;>by_cases p2:(c.toNat:Int)≤122<;>by_cases p3:(65:Int)≤c.toNat<;>by_cases p4:(c.toNat:Int)≤90<;>by_cases p5:(48:Int)≤c.toNat<;>by_cases p6:(c.toNat:Int)≤57<;>simp [p1,p2,p3,p4,p5,p6]<;>
   by_cases p7:(c.toNat:Int)=45<;>by_cases p8:(c.toNat:Int)=95<;>by_cases p9:(c.toNat:Int)=47<;>simp [p7,p8,p9]
theorem Adw (s:ByteArray) (hs:s.size≤4611686018427387904):W Apm 0 [.str s]=some [.bool (Cp s)]:=by
 rw [Aol]
 exact T2 s hs s.size 0 (by omega)
end Go.CT.Sch
namespace Go.CT.Sch
open Go.Proofs
theorem Cq:(⟨#[]⟩:ByteArray)=Ay:=rfl
theorem Ys (d:Nat) (o:Option ByteArray) (p:ByteArray × Val) (r:List (ByteArray × Val)):Ajg d o (p::r)=(Cp p.1&&(match o with | none=>true | some q=>blt q p.1)&&Bo d p.2&&Ajg d (some p.1) r):=by
 cases o<;>rfl
theorem Afy (v:Val) (hv:v.A3≤1099511627776):W Ari 0 [v.enc]=some [.bool (E4 v)]:=by
 have hs:=v.Ai9
 rw [Anx]
 unfold E4
 simp only [Val.Bm,Option.bind_some,O.eq_int,O.Ab]
 by_cases c1:v.k=1
 ·simp [c1,Cq]
 by_cases c2:v.k=2
 ·by_cases a1: -1000000000000000≤v.n<;>by_cases a2:v.n≤1000000000000000<;>simp [c2,a1,a2,Cq]
 by_cases c3:v.k=3
 ·simp [c3,Ahh v.s (by omega)]
 by_cases c4:v.k=0
 ·by_cases a1:v.n=0<;>simp [c4,Qq,a1,Cq]
 by_cases c5:v.k=4
 ·by_cases a1:v.n=0<;>simp [c5,Qq,a1,Cq]
 by_cases c6:v.k=5
 ·by_cases a1:v.n=0<;>simp [c6,Qq,a1,Cq]
 simp [c1,c2,c3,c4,c5,c6,Qq]
theorem Qs (d:Nat) (v:Val) (hd:d≤12) (hv:v.A3≤1099511627776) (ih: ∀x∈v.l,W Aak 0 [x.enc,.int d]=some [.bool (Bo d x)]): ∀ (n i:Nat),i+n=v.l.length→
  W Aak 1 [.int ((d+1:Nat):Int),.int i,v.enc]=if (v.l.drop i).all (Bo d)=true then W Aak 2 [.int ((d+1:Nat):Int),.int 0,v.enc] else some [.bool false]
 | 0,i,h=>by
  rw [Ada]
  have h1: ¬ i<v.l.length:=by omega
  simp [h1,List.drop_of_length_le (Nat.le_of_not_lt h1)]
 | n+1,i,h=>by
  have hi:i<v.l.length:=by omega
  have hm:=v.Ct
  have hw:=Bf (i:=i) (by omega)
  have hd1:IntKind.i64.wrap (((d+1:Nat):Int) - 1)=d:=by rw [wrap64 (by omega) (by omega)];omega
  have:=Qs d v hd hv ih n (i+1) (by omega)
  rw [Ada,List.drop_eq_getElem_cons hi]
  simp only [Val.B7,Option.bind_some,O.An,List.length_map,O.Ak,Ao,hi,decide_true,O.Ab,if_true,O.Ai,Int.natCast_nonneg,Int.toNat_natCast,List.getElem?_map,List.getElem?_eq_getElem hi,Option.map_some,O.B6,hd1,ih _ (List.getElem_mem hi),O.Ah,O.Az,O.Ap,hw,this,List.all_cons,Bool.and_eq_true]
  by_cases c:Bo d v.l[i]=true<;>simp [c]
theorem Ry (d:Nat) (v:Val) (hd:d≤12) (hv:v.A3≤1099511627776) (ih: ∀p∈v.f,W Aak 0 [p.2.enc,.int d]=some [.bool (Bo d p.2)]): ∀ (n i:Nat),i+n=v.f.length→
  W Aak 2 [.int ((d+1:Nat):Int),.int i,v.enc]=some [.bool (Ajg d (Et v.f i) (v.f.drop i))]
 | 0,i,h=>by
  rw [Ad6]
  have h1: ¬ i<v.f.length:=by omega
  simp [h1,List.drop_of_length_le (Nat.le_of_not_lt h1),Ajg]
 | n+1,i,h=>by
  have hi:i<v.f.length:=by omega
  have hm:=v.A7
  have hw:=Bf (i:=i) (by omega)
  have hd1:IntKind.i64.wrap (((d+1:Nat):Int) - 1)=d:=by rw [wrap64 (by omega) (by omega)];omega
  have:=Ry d v hd hv ih n (i+1) (by omega)
  have hmem:=List.getElem_mem hi
  have hmass:=Val.Dx hmem
  have hpn:Et v.f (i+1)=some v.f[i].1 :=by simp [Et,hi]
  rw [hpn] at this
  rw [Ad6,List.drop_eq_getElem_cons hi,Ys]
  simp only [Val.Ch,Option.bind_some,O.An,List.length_map,O.Ak,Ao,hi,decide_true,O.Ab,if_true,O.Ai,Int.natCast_nonneg,Int.toNat_natCast,List.getElem?_map,List.getElem?_eq_getElem hi,Option.map_some,Fld.Bm,Fld.Kd,Adw v.f[i].1 (by omega),O.B6,hd1,ih _ hmem,O.Ah,O.Az,O.Ap,hw,this,O.Bu]
  cases i with
  | zero=>
   simp only [Et]
   cases Cp v.f[0].1<;>cases Bo d v.f[0].2<;>simp
  | succ i=>
   have hi':i<v.f.length:=by omega
   have hw2:IntKind.i64.wrap (((i+1:Nat):Int) - 1)=i:=by rw [wrap64 (by omega) (by omega)];omega
   have hp:(0:Int)<((i+1:Nat):Int):=by omega
   simp only [Et,List.getElem?_eq_getElem hi',Option.map_some,hw2,hp,decide_true,if_true,Int.natCast_nonneg,Int.toNat_natCast,Option.bind_some,Fld.Bm,Sn]
   cases Cp v.f[i+1].1<;>cases Bo d v.f[i+1].2<;>cases blt v.f[i].1 v.f[i+1].1<;>simp
theorem R6: ∀ (d:Nat) (v:Val),d≤12→v.A3≤1099511627776→W Aak 0 [v.enc,.int d]=some [.bool (Bo d v)]
 | 0,v,_,_=>by
  rw [Acn]
  simp [Bo]
 | d+1,v,hd,hv=>by
  have h1:=Qs d v (by omega) hv (fun x hx=>R6 d x (by omega) (by have:=Val.Ho hx;omega)) v.l.length 0 (by omega)
  have h2:=Ry d v (by omega) hv (fun p hp=>R6 d p.2 (by omega) (by have:=Val.Dx hp;omega)) v.f.length 0 (by omega)
  rw [Acn]
  have hz: ¬ ((d+1:Nat):Int)=0:=by omega
  simp only [Int.cast_ofNat_Int,List.drop_zero,Et,Ya] at h1 h2
  rw [h2] at h1
  simp only [O.eq_int,hz,decide_false,Option.bind_some,O.Ab,Bool.false_eq_true,if_false,Afy v hv,O.Ah,O.Az,Val.B7,Val.Ch,Val.Bm,O.An,List.length_map,O.Bu,O.D7,h1,Bo]
  have hnil:v.l= []→v.l.all (Bo d)=true:=fun e=>by rw [e];rfl
  have hnil2:v.f= []→(v.f.all fun p=>Cp p.1&&Bo d p.2)=true∧rising v.f=true:=fun e=>by rw [e];exact ⟨rfl,rfl⟩
  generalize v.l.all (Bo d)=A at *
  generalize (v.f.all fun p=>Cp p.1&&Bo d p.2)=B at *
  generalize rising v.f=C at *
  cases hs:E4 v with
  | false=>simp
  | true=>
   by_cases c1:(64:Int)<v.l.length
   ·have: ¬ v.l.length≤64:=by omega
    simp [c1,this]
   ·have d1:v.l.length≤64:=by omega
    by_cases c2:(64:Int)<v.f.length
    ·have: ¬ v.f.length≤64:=by omega
     simp [c1,c2,this]
    ·have d2:v.f.length≤64:=by omega
     by_cases c3:v.k=4
     ·have c4: ¬ v.k=5:=by omega
      by_cases c5:v.f= []
      ·simp [c3,c1,d1,c5]
       cases A<;>simp
      ·have c6:(0:Int)<v.f.length:=by have:=List.length_pos_iff.2 c5;omega
       simp [c3,c1,c2,d1,d2,c5,c6]
     ·by_cases c5:v.l= []
      ·by_cases c4:v.k=5
       ·simp [c4,c2,d2,c5]
        cases A<;>simp
       ·by_cases c7:v.f= []
        ·simp [c3,c4,c5,c7]
         cases A<;>simp
        ·have c6:(0:Int)<v.f.length:=by have:=List.length_pos_iff.2 c7;omega
         simp [c3,c4,c5,c7,c6,c2,d2]
      ·have c6:(0:Int)<v.l.length:=by have:=List.length_pos_iff.2 c5;omega
       simp [c3,c5,c6,c1,c2,d1,d2]
end Go.CT.Sch
namespace Go.CT
theorem get!_eq (s:ByteArray) (i:Nat) (h:i<s.size):s.get! (i+0)=s[i]:=by
 obtain ⟨a⟩:=s
 have h':i<a.size:=h
 show a[i+0]! =a[i]
 simp [h']
theorem Uq {s:ByteArray} {i:Nat} (h:i<s.size) (hb:s[i].toNat <128):Utf8.decode s i=(s[i].toNat,1):=by
 unfold Utf8.decode
 simp only [get!_eq s i h]
 rw [if_pos hb]
theorem decode_high {s:ByteArray} {i:Nat} (h:i<s.size) (hb:128≤s[i].toNat):128≤(Utf8.decode s i).1 :=by
 unfold Utf8.decode
 simp only [get!_eq s i h]
 rw [if_neg (by omega)]
 have e:Utf8.runeError=65533:=rfl
 split
 ·split<;>simp only [e]<;>omega
 ·split
  ·split
   ·rename_i hc
    simp only [Bool.and_eq_true,decide_eq_true_eq,ge_iff_le] at hc
    show 128≤_
    omega
   ·simp [e]
  ·split
   ·split
    ·rename_i hc
     simp only [Bool.and_eq_true,decide_eq_true_eq,ge_iff_le] at hc
     show 128≤_
     omega
    ·simp [e]
   ·simp [e]
namespace O
variable {s:ByteArray} {i:Nat} {b:Bool} {xs ys:List IV}
theorem Yj (h:i<s.size):Lx (.str s) (.int i)=some (.bool true):=by simp [Lx,Prim.ev,h]
theorem Un (h: ¬ i<s.size):Lx (.str s) (.int i)=some (.bool false):=by simp [Lx,Prim.ev,h]
theorem X9 (h:i<s.size):Lu (.str s) (.int i)=some (.int (Utf8.decode s i).1):=by simp [Lu,Prim.ev,h]
theorem Vh (h: ¬ i<s.size):Lu (.str s) (.int i)=some (.int 0):=by simp [Lu,Prim.ev,h]
theorem Rh (h:i<s.size):Gx (.str s) (.int i)=some (.int ((i+(Utf8.decode s i).2 :Nat):Int)):=by simp [Gx,Prim.ev,h]
theorem Pg (h: ¬ i<s.size):Gx (.str s) (.int i)=some (.int i):=by simp [Gx,Prim.ev,h]
@[simp] theorem Zl:Agi (.bool true)=some (.bool true):=rfl
theorem Yu {n:Nat} (h:0<ys.length) (hb:(xs.length+ys.length) * n≤As):O3 n (.list xs) (.list ys)=some (.list (xs++ys)):=if_pos ⟨h,hb⟩
theorem Abk (h:xs.length+s.size≤As):Me (.list xs) (.str s)=some (.list (xs++Bs s)):=if_pos h
@[simp] theorem Agp:Aju [.list xs]=some [.list xs]:=rfl
@[simp] theorem Hp:Is [.list xs]=some [.list xs]:=rfl
theorem Rg: ∀l:List UInt8,(l.map fun b:UInt8=>IV.int b.toNat).mapM H8=some l
 | []=>rfl
 | b::l=>by
  have hb:H8 (.int b.toNat)=some b:=by
   have h:(b.toNat:Int)<256:=by have:=b.toNat_lt;omega
   simp only [H8,Int.natCast_nonneg,h,and_self,if_true,Int.toNat_natCast]
   simp [Nat.toUInt8]
  simp [List.map_cons,List.mapM_cons,hb,Rg l]
theorem N1 (s:ByteArray):On [.list (Bs s)]=some [.str s]:=by
 simp only [On,Bs,Rg,Option.map_some]
theorem Ih (s t:ByteArray):Bs (s++t)=Bs s++Bs t:=by
 simp [Bs,ByteArray.toList_data_append]
theorem Ik (s:ByteArray):(Bs s).length =s.size:=by simp [Bs]
theorem Ao7 (n:Nat) (h:n<100):Afv [.int n]=some [.str (P1 n)]:=by
 simp only [Afv,Int.natCast_nonneg,true_and,Int.toNat_natCast]
 rw [if_pos (by omega)]
end O
end Go.CT
namespace Go.CT.Sch
open Go.Proofs
structure Stp where
 k:Int
 nm:ByteArray
 ix:Int
 vl:ByteArray
def Stp.enc (s:Stp):IV:= .agg [.int s.k,.str s.nm,.int s.ix,.str s.vl]
@[simp] theorem Stp.Bm (s:Stp):O.proj 0 s.enc=some (.int s.k):=rfl
@[simp] theorem Stp.Db (s:Stp):O.proj 1 s.enc=some (.str s.nm):=rfl
@[simp] theorem Stp.Dy (s:Stp):O.proj 2 s.enc=some (.int s.ix):=rfl
@[simp] theorem Stp.B7 (s:Stp):O.proj 3 s.enc=some (.str s.vl):=rfl
def Stp.fits (s:Stp):Prop:=s.nm.size≤1099511627000∧s.vl.size≤1099511627000
def bsL (l:List UInt8):ByteArray:=⟨l.toArray⟩
theorem Gl (a b:List UInt8):bsL (a++b)=bsL a++bsL b:=by
 apply Hu
 rw [ByteArray.toList_data_append];simp [bsL]
theorem Dc (l:List UInt8):(bsL l).size =l.length:=by simp [bsL,ByteArray.size]
theorem Hi (s:ByteArray):Ay++s=s:=by
 apply Hu
 rw [ByteArray.toList_data_append];rfl
theorem Oa (s:ByteArray):s++Ay=s:=by
 apply Hu
 rw [ByteArray.toList_data_append];simp [Ay]
theorem Aod {s:ByteArray} {i:Nat} (h:i<s.size):s.extract i (i+1)=bsL [s[i]]:=by
 apply Hu
 rw [ByteArray.data_extract,Array.toList_extract]
 simp only [List.extract_eq_take_drop,bsL]
 have:=Gz h
 rw [show i+1 - i=1 by omega,this]
 rfl
def Xp (c:UInt8):List UInt8:=if c.toNat=10 then [92,110] else if c.toNat=34∨c.toNat=92 then [92,c] else [c]
def Uh (s:ByteArray):ByteArray:=bsL (34::s.data.toList.flatMap Xp++ [34])
theorem Am2 (c:UInt8):(Xp c).length ≤2:=by unfold Xp;split<;> (try split)<;>simp
theorem Aix: ∀l:List UInt8,(l.flatMap Xp).length ≤2 * l.length
 | []=>by simp
 | c::l=>by
  have:=Am2 c
  have:=Aix l
  simp only [List.flatMap_cons,List.length_append,List.length_cons];omega
theorem Mc (s:ByteArray):(Uh s).size ≤2+2 * s.size:=by
 have:=Aix s.data.toList
 have h:s.data.toList.length=s.size:=by simp
 unfold Uh
 rw [Dc]
 simp only [List.length_cons,List.length_append,List.length_nil]
 omega
def Ia (x:Stp):Bool:=
 if x.k=1 then Cp x.nm&&decide (x.ix=0)&&decide (x.vl=Ay)
 else if x.k=2 then decide (0≤x.ix)&&decide (x.ix≤64)&&decide (x.nm=Ay)&&decide (x.vl=Ay)
 else if x.k=3 then Cp x.nm&&Kz x.vl&&decide (x.ix=0)
 else false
def N6 (p:List Stp):Bool:=p.all Ia&&decide (p.length≤16)
def Mg (first:Bool) (x:Stp):ByteArray:=
 if x.k=2 then bsL [91]++O.P1 x.ix.toNat++bsL [93]
 else if x.k=3 then bsL [91]++x.nm++bsL [61]++Uh x.vl++bsL [93]
 else if first then x.nm else bsL [46]++x.nm
def Lr:Bool→List Stp→ByteArray
 | _,[]=>Ay
 | b,x::r=>Mg b x++Lr false r
def Axd (p:List Stp):ByteArray:=Lr true p
def Nz (p:List Stp):ByteArray:=if N6 p then Axd p else Ay
def Aej (p:List Stp):Int:=if N6 p then 0 else 1
theorem Rs {s:ByteArray} (h:Cp s=true):s.size≤40:=by
 unfold Cp at h
 simp only [Bool.and_eq_true,decide_eq_true_eq] at h
 exact h.2.2
theorem T0 {s:ByteArray} (h:Kz s=true):s.size≤200:=by
 unfold Kz at h
 simp only [Bool.and_eq_true,decide_eq_true_eq] at h
 exact h.2
theorem Oj (n:Nat):(O.P1 n).size ≤2:=by
 unfold O.P1
 split
 ·show 1≤2;omega
 ·show 2≤2;omega
theorem Kp {x:Stp} (h:Ia x=true):x.nm.size≤40∧x.vl.size≤200∧(x.k=2→0≤x.ix∧x.ix≤64)∧(x.k=3→Kz x.vl=true)∧(x.k=1∨x.k=2∨x.k=3):=by
 have e0:Ay.size=0:=rfl
 unfold Ia at h
 split at h
 ·rename_i k1
  simp only [Bool.and_eq_true,decide_eq_true_eq] at h
  exact ⟨Rs h.1.1,by rw [h.2,e0];omega,fun h=>by omega,fun h=>by omega,.inl k1⟩
 ·split at h
  ·rename_i k2
   simp only [Bool.and_eq_true,decide_eq_true_eq] at h
   exact ⟨by rw [h.1.2,e0];omega,by rw [h.2,e0];omega,fun _=>⟨h.1.1.1,h.1.1.2⟩,fun h=>by omega,.inr (.inl k2)⟩
  ·split at h
   ·rename_i k3
    simp only [Bool.and_eq_true,decide_eq_true_eq] at h
    exact ⟨Rs h.1.1,T0 h.1.2,fun h=>by omega,fun _=>h.1.2,.inr (.inr k3)⟩
   ·cases h
theorem Ake (c:UInt8):W Axf 0 [.int c.toNat]=some [.bool (Bz c)]:=by
 rw [Ao5]
 simp only [O.Gj,O.Dv,O.eq_int,Option.bind_some,O.Ab,Ar,Al]
 congr 3
 unfold Bz
 rw [Bool.eq_iff_iff]
 simp
 omega
theorem Ss (s:ByteArray) (hs:s.size≤1099511627776): ∀ (n i:Nat),i+n=s.size→W Aqe 1 [.str s,.int i]=some [.bool ((s.data.toList.drop i).all Bz&&decide (1≤s.size∧s.size≤40))]
 | 0,i,h=>by
  have h1: ¬ i<s.size:=by omega
  have h2:s.data.toList.drop i= []:=List.drop_of_length_le (by simp;omega)
  rw [Adb]
  simp only [O.Cm,Option.bind_some,O.Ak,Ao,h1,decide_false,O.Ab,Bool.false_eq_true,if_false,O.Bu,O.Dv,Ar,Al,h2,List.all_nil,Bool.true_and]
  congr 3
  rw [Bool.eq_iff_iff]
  simp
  omega
 | n+1,i,h=>by
  have hi:i<s.size:=by omega
  have hw:=Bf (i:=i) (by omega)
  have ih:=Ss s hs n (i+1) (by omega)
  rw [Adb,Gz hi]
  simp only [O.Cm,Option.bind_some,O.Ak,Ao,hi,decide_true,O.Ab,if_true,O.Gs,Int.natCast_nonneg,Int.toNat_natCast,Arr hi,Option.map_some,Ake,O.Ah,O.Az,O.Ap,hw,ih,List.all_cons]
  cases Bz s[i]<;>simp
theorem Ak4 (s:ByteArray) (hs:s.size≤1099511627776):W Aqe 0 [.str s]=some [.bool (Cp s)]:=by
 rw [An8];exact Ss s hs s.size 0 (by omega)
theorem Uw (s:ByteArray) (hs:s.size≤1099511627776): ∀ (n i:Nat),i+n=s.size→W Aro 1 [.str s,.int i]=some [.bool ((s.data.toList.drop i).all Iw&&decide (s.size≤200))]
 | 0,i,h=>by
  have h1: ¬ i<s.size:=by omega
  have h2:s.data.toList.drop i= []:=List.drop_of_length_le (by simp;omega)
  rw [Aet]
  simp only [O.Cm,Option.bind_some,O.Ak,Ao,h1,decide_false,O.Ab,Bool.false_eq_true,if_false,O.Dv,h2,List.all_nil,Bool.true_and]
  congr 3
  rw [Bool.eq_iff_iff]
  simp
  omega
 | n+1,i,h=>by
  have hi:i<s.size:=by omega
  have hw:=Bf (i:=i) (by omega)
  have ih:=Uw s hs n (i+1) (by omega)
  rw [Aet,Gz hi]
  have e1:Iw s[i]= !(if (!decide ((s[i].toNat :Int)=10))=true then (if decide ((s[i].toNat :Int)<32)=true then true else decide (126<(s[i].toNat :Int))) else false):=by
   unfold Iw
   rw [Bool.eq_iff_iff]
   by_cases c1:s[i].toNat =10
   ·simp [c1]
   ·have c1': ¬ (s[i].toNat :Int)=10:=by omega
    by_cases c2:s[i].toNat <32
    ·have c2':(s[i].toNat :Int)<32:=by omega
     simp [c1,c1',c2,c2'];omega
    ·have c2': ¬ (s[i].toNat :Int)<32:=by omega
     simp [c1,c1',c2,c2']
     omega
  simp only [O.Cm,Option.bind_some,O.Ak,Ao,hi,decide_true,O.Ab,if_true,O.Gs,Int.natCast_nonneg,Int.toNat_natCast,Arr hi,Option.map_some,O.D7,O.Bu,Ar,Al,O.Ap,hw,ih,List.all_cons,e1]
  generalize (if (!decide ((s[i].toNat :Int)=10))=true then (if decide ((s[i].toNat :Int)<32)=true then true else decide (126<(s[i].toNat :Int))) else false)=b
  cases b<;>simp
theorem Anq (s:ByteArray) (hs:s.size≤1099511627776):W Aro 0 [.str s]=some [.bool (Kz s)]:=by
 rw [An6];exact Uw s hs s.size 0 (by omega)
theorem Ai7 (s:Stp) (hs:s.fits):W Axw 0 [s.enc]=some [.bool (Ia s)]:=by
 have h1:=Ak4 s.nm (Nat.le_trans hs.1 (by decide))
 have h2:=Anq s.vl (Nat.le_trans hs.2 (by decide))
 rw [Anu]
 simp only [Stp.Bm,Stp.Db,Stp.Dy,Stp.B7,Option.bind_some,O.eq_int,O.Ab,h1,h2,O.Ah,O.Gj,O.Dv,O.Eg,Ar,Al,Cq]
 unfold Ia
 by_cases k1:s.k=1
 ·simp only [k1,decide_true,if_true]
  cases Cp s.nm<;>simp
 ·by_cases k2:s.k=2
  ·simp only [k1,k2,decide_true,decide_false,Bool.false_eq_true,if_true,if_false]
   by_cases e1:0≤s.ix<;>by_cases e2:s.ix≤64<;>by_cases e3:s.nm=Ay<;>simp [e1,e2,e3]
  ·simp only [k1,k2,decide_false,Bool.false_eq_true,if_false]
   by_cases k3:s.k=3
   ·simp only [k3,decide_true,if_true]
    cases Cp s.nm<;>cases Kz s.vl<;>simp
   ·simp [k3]
theorem Pq (p:List Stp) (hp: ∀s∈p,s.fits) (hl:p.length≤1099511627776): ∀ (n i:Nat),i+n=p.length→W Aso 1 [.list (p.map Stp.enc),.int i]=some [.bool ((p.drop i).all Ia&&decide (p.length≤16))]
 | 0,i,h=>by
  have h1: ¬ i<p.length:=by omega
  have h2:p.drop i= []:=List.drop_of_length_le (by omega)
  rw [Adi]
  simp only [O.An,List.length_map,Option.bind_some,O.Ak,Ao,h1,decide_false,O.Ab,Bool.false_eq_true,if_false,O.Dv,h2,List.all_nil,Bool.true_and]
  congr 3
  rw [Bool.eq_iff_iff]
  simp
  omega
 | n+1,i,h=>by
  have hi:i<p.length:=by omega
  have hw:=Bf (i:=i) (by omega)
  have ih:=Pq p hp hl n (i+1) (by omega)
  rw [Adi,List.drop_eq_getElem_cons hi]
  simp only [O.An,List.length_map,Option.bind_some,O.Ak,Ao,hi,decide_true,O.Ab,if_true,O.Ai,Int.natCast_nonneg,Int.toNat_natCast,List.getElem?_map,List.getElem?_eq_getElem hi,Option.map_some,Ai7 _ (hp _ (List.getElem_mem hi)),O.Ah,O.Az,O.Ap,hw,ih,List.all_cons]
  cases Ia p[i]<;>simp
theorem Ud (p:List Stp) (hp: ∀s∈p,s.fits) (hl:p.length≤1099511627776):W Aso 0 [.list (p.map Stp.enc)]=some [.bool (N6 p)]:=by
 rw [Ana];exact Pq p hp hl p.length 0 (by omega)
theorem El {a b:ByteArray} (ha:a.size≤100000) (hb:b.size≤100000):O.cat (.str a) (.str b)=some (.str (a++b)):=by
 rw [O.Atj,if_pos (by unfold As;omega)]
theorem Aqu: ∀d:Fin 10,(⟨#[48,49,50,51,52,53,54,55,56,57]⟩:ByteArray).extract d (d+1)=bsL [(48+d.val).toUInt8]:=by decide+kernel
theorem Aq2 (n:Int) (h0:0≤n) (h1:n≤64):W Axy 0 [.int n]=some [.str (O.P1 n.toNat)]:=by
 have sl: ∀d:Nat,d<10→O.J1 (.str ⟨#[48,49,50,51,52,53,54,55,56,57]⟩) (.int d) (.int ((d:Int)+1))=some (.str (bsL [(48+d).toUInt8])):=by
  intro d hd
  rw [O.T7,if_pos ⟨by omega,by omega,by show (d:Int)+1≤10;omega⟩]
  have:=Aqu ⟨d,hd⟩
  simp only [Int.toNat_natCast]
  rw [show ((d:Int)+1).toNat =d+1 by omega,this]
 obtain ⟨m,rfl⟩:=Int.eq_ofNat_of_zero_le h0
 rw [Amp]
 unfold O.P1
 simp only [Int.ofNat_eq_natCast,Int.toNat_natCast]
 by_cases c:m<10
 ·have hw:IntKind.i64.wrap ((m:Int)+1)=(m:Int)+1:=wrap64 (by omega) (by omega)
  have c':(m:Int)<10:=by omega
  simp only [O.Ak,c',decide_true,Option.bind_some,O.Ab,if_true,O.Ap,hw,sl m c,c]
  rfl
 ·have c': ¬ (m:Int)<10:=by omega
  have hq:(m:Int).tdiv 10=((m / 10:Nat):Int):=by rw [Int.tdiv_eq_ediv_of_nonneg (by omega)];omega
  have hr:(m:Int).tmod 10=((m % 10:Nat):Int):=by rw [Int.tmod_eq_emod_of_nonneg (by omega)];omega
  have hw1:IntKind.i64.wrap ((m / 10:Nat):Int)=((m / 10:Nat):Int):=wrap64 (by omega) (by omega)
  have hw2:IntKind.i64.wrap (((m / 10:Nat):Int)+1)=((m / 10:Nat):Int)+1:=wrap64 (by omega) (by omega)
  have hw3:IntKind.i64.wrap (((m % 10:Nat):Int)+1)=((m % 10:Nat):Int)+1:=wrap64 (by omega) (by omega)
  have hne: ¬ (10:Int)=0:=by omega
  simp only [O.Ak,c',decide_false,Option.bind_some,O.Ab,Bool.false_eq_true,if_false,O.Atp,O.Aqz,hne,hq,hr,hw1,O.Ap,hw2,hw3,sl (m / 10) (by omega),sl (m % 10) (by omega),c]
  rw [El (by rw [Dc];simp) (by rw [Dc];simp),←Gl]
  rfl
theorem Q2 (s:ByteArray) (hs:s.size≤200): ∀ (n i:Nat) (o:ByteArray),i+n=s.size→o.size≤1+2 * i→W Agx 1 [.str s,.str o,.int i]=some [.str (o++bsL ((s.data.toList.drop i).flatMap Xp++ [34]))]
 | 0,i,o,h,ho=>by
  have h1: ¬ i<s.size:=by omega
  have h2:s.data.toList.drop i= []:=List.drop_of_length_le (by simp;omega)
  rw [Aco]
  simp only [O.Cm,Option.bind_some,O.Ak,Ao,h1,decide_false,O.Ab,Bool.false_eq_true,if_false,h2,List.flatMap_nil,List.nil_append]
  rw [show (ByteArray.mk #[34])=bsL [34] from rfl,El (by omega) (by rw [Dc];simp)]
  rfl
 | n+1,i,o,h,ho=>by
  have hi:i<s.size:=by omega
  have hw:=Bf (i:=i) (by omega)
  have hsl:O.J1 (.str s) (.int i) (.int ((i+1:Nat):Int))=some (.str (bsL [s[i]])):=by
   rw [O.T7,if_pos ⟨by omega,by omega,by omega⟩]
   simp only [Int.toNat_natCast]
   rw [Aod hi]
  have next: ∀a:List UInt8,a.length≤2→Xp s[i]=a→W Agx 2 [.str s,.str (o++bsL a),.int i]=some [.str (o++bsL ((s.data.toList.drop i).flatMap Xp++ [34]))]:=by
   intro a ha he
   rw [Ami]
   simp only [O.Ap,hw,Option.bind_some]
   rw [Q2 s hs n (i+1) _ (by omega) (by rw [ByteArray.size_append,Dc];omega),Gz hi,List.flatMap_cons,he,List.append_assoc,Gl a,ByteArray.append_assoc]
  rw [Aco]
  simp only [O.Cm,Option.bind_some,O.Ak,Ao,hi,decide_true,O.Ab,if_true,O.Gs,Int.natCast_nonneg,Int.toNat_natCast,Arr hi,Option.map_some,O.eq_int,Ar,Al]
  rw [show (ByteArray.mk #[92,110])=bsL [92,110] from rfl,show (ByteArray.mk #[92])=bsL [92] from rfl]
  by_cases c1:s[i].toNat =10
  ·have c1':(s[i].toNat :Int)=10:=by omega
   simp only [c1',decide_true,if_true]
   rw [El (by omega) (by rw [Dc];simp)]
   exact next [92,110] (by simp) (by unfold Xp;rw [if_pos c1])
  ·have c1': ¬ (s[i].toNat :Int)=10:=by omega
   simp only [c1',decide_false,Bool.false_eq_true,if_false]
   by_cases c2:s[i].toNat =34∨s[i].toNat =92
   ·have c2':(if decide ((s[i].toNat :Int)=34)=true then true else decide ((s[i].toNat :Int)=92))=true:=by
     rcases c2 with h | h<;>simp [h]
    simp only [c2',if_true]
    rw [El (by omega) (by rw [Dc];simp)]
    simp only [Option.bind_some,O.Ap,hw,hsl]
    rw [El (by rw [ByteArray.size_append,Dc];simp;omega) (by rw [Dc];simp),ByteArray.append_assoc,←Gl]
    exact next [92,s[i]] (by simp) (by unfold Xp;rw [if_neg c1,if_pos c2])
   ·have c2':(if decide ((s[i].toNat :Int)=34)=true then true else decide ((s[i].toNat :Int)=92))=false:=by
     have h1: ¬ (s[i].toNat :Int)=34:=by omega
     have h2: ¬ (s[i].toNat :Int)=92:=by omega
     simp [h1,h2]
    simp only [c2',Bool.false_eq_true,if_false,O.Ap,hw,Option.bind_some,hsl]
    rw [El (by omega) (by rw [Dc];simp)]
    exact next [s[i]] (by simp) (by unfold Xp;rw [if_neg c1,if_neg c2])
theorem Ai3 (s:ByteArray) (hs:s.size≤200):W Agx 0 [.str s]=some [.str (Uh s)]:=by
 rw [Am9,show (ByteArray.mk #[34])=bsL [34] from rfl]
 rw [show (IV.int 0)=IV.int ((0:Nat):Int) from rfl,Q2 s hs s.size 0 _ (by omega) (by rw [Dc];simp),←Gl]
 rfl
theorem T3 {b:Bool} {x:Stp} (h:Ia x=true):(Mg b x).size ≤500:=by
 obtain ⟨h1,h2,_⟩:=Kp h
 have hq:=Mc x.vl
 have hi:=Oj x.ix.toNat
 have e: ∀c:UInt8,(bsL [c]).size =1:=fun c=>by rw [Dc];rfl
 unfold Mg
 split
 ·simp only [ByteArray.size_append,e];omega
 ·split
  ·simp only [ByteArray.size_append,e];omega
  ·split
   ·omega
   ·simp only [ByteArray.size_append,e];omega
theorem Sf (p:List Stp) (hp: ∀s∈p,Ia s=true) (hl:p.length≤16): ∀ (n i:Nat) (o:ByteArray),i+n=p.length→o.size≤500 * i→W Aec 1 [.list (p.map Stp.enc),.str o,.int i]=some [.str (o++Lr (decide (i=0)) (p.drop i)),.int 0]
 | 0,i,o,h,ho=>by
  have h1: ¬ i<p.length:=by omega
  have h2:p.drop i= []:=List.drop_of_length_le (by omega)
  rw [Ach]
  simp only [O.An,List.length_map,Option.bind_some,O.Ak,Ao,h1,decide_false,O.Ab,Bool.false_eq_true,if_false,h2,Lr,Oa]
 | n+1,i,o,h,ho=>by
  have hi:i<p.length:=by omega
  have hw:=Bf (i:=i) (by omega)
  have hok:=hp _ (List.getElem_mem hi)
  obtain ⟨g1,g2,g3,g4,g5⟩:=Kp hok
  have e: ∀c:UInt8,(bsL [c]).size =1:=fun c=>by rw [Dc];rfl
  have next: ∀t:ByteArray,Mg (decide (i=0)) p[i]=t→W Aec 2 [.list (p.map Stp.enc),.str (o++t),.int i]=some [.str (o++Lr (decide (i=0)) (p.drop i)),.int 0]:=by
   intro t ht
   have hz:(Mg (decide (i=0)) p[i]).size ≤500:=T3 hok
   rw [Anj]
   simp only [O.Ap,hw,Option.bind_some]
   rw [Sf p hp hl n (i+1) (o++t) (by omega) (by rw [ByteArray.size_append,←ht];omega),List.drop_eq_getElem_cons hi,Lr,ht,ByteArray.append_assoc]
   rfl
  rw [Ach]
  simp only [O.An,List.length_map,Option.bind_some,O.Ak,Ao,hi,decide_true,O.Ab,if_true,O.Ai,Int.natCast_nonneg,Int.toNat_natCast,List.getElem?_map,List.getElem?_eq_getElem hi,Option.map_some,Stp.Bm,Stp.Db,Stp.Dy,Stp.B7,O.eq_int,O.Bu]
  rw [show (ByteArray.mk #[91])=bsL [91] from rfl,show (ByteArray.mk #[93])=bsL [93] from rfl,show (ByteArray.mk #[61])=bsL [61] from rfl,show (ByteArray.mk #[46])=bsL [46] from rfl]
  by_cases k2:p[i].k =2
  ·have hd:=Aq2 p[i].ix (g3 k2).1 (g3 k2).2
   have hd2:=Oj p[i].ix.toNat
   simp only [k2,decide_true,if_true]
   rw [El (by omega) (by rw [e];omega)]
   simp only [Option.bind_some,hd,O.Ah]
   rw [El (by rw [ByteArray.size_append,e];omega) (by omega)]
   simp only [Option.bind_some]
   rw [El (by rw [ByteArray.size_append,ByteArray.size_append,e];omega) (by rw [e];omega)]
   simp only [Option.bind_some,ByteArray.append_assoc]
   exact next _ (by unfold Mg;rw [if_pos k2,ByteArray.append_assoc])
  ·simp only [k2,decide_false,Bool.false_eq_true,if_false]
   by_cases k3:p[i].k =3
   ·have hd:=Ai3 p[i].vl g2
    have hd2:=Mc p[i].vl
    simp only [k3,decide_true,if_true]
    rw [El (by omega) (by rw [e];omega)]
    simp only [Option.bind_some]
    rw [El (by rw [ByteArray.size_append,e];omega) (by omega)]
    simp only [Option.bind_some]
    rw [El (by rw [ByteArray.size_append,ByteArray.size_append,e];omega) (by rw [e];omega)]
    simp only [Option.bind_some,hd,O.Ah]
    rw [El (by rw [ByteArray.size_append,ByteArray.size_append,ByteArray.size_append,e,e];omega) (by omega)]
    simp only [Option.bind_some]
    rw [El (by rw [ByteArray.size_append,ByteArray.size_append,ByteArray.size_append,ByteArray.size_append,e,e];omega) (by rw [e];omega)]
    simp only [Option.bind_some,ByteArray.append_assoc]
    exact next _ (by unfold Mg;rw [if_neg k2,if_pos k3];simp only [ByteArray.append_assoc])
   ·simp only [k3,decide_false,Bool.false_eq_true,if_false]
    by_cases hz:i=0
    ·have hz': ¬ (0:Int)<i:=by omega
     have ho':o=Ay:=by
      apply Hu
      have:o.size=0:=by omega
      have:o.data.toList.length=0:=by simpa using this
      rw [List.length_eq_zero_iff.1 this];rfl
     simp only [hz',decide_false,Bool.false_eq_true,if_false]
     have:=next p[i].nm (by unfold Mg;rw [if_neg k2,if_neg k3,if_pos (by simpa using hz)])
     rw [ho',Hi] at this
     rw [ho']
     exact this
    ·have hz':(0:Int)<i:=by omega
     simp only [hz',decide_true,if_true]
     rw [El (by omega) (by rw [e];omega)]
     simp only [Option.bind_some]
     rw [El (by rw [ByteArray.size_append,e];omega) (by omega)]
     simp only [Option.bind_some,ByteArray.append_assoc]
     exact next _ (by unfold Mg;rw [if_neg k2,if_neg k3,if_neg (by simpa using hz)])
theorem Zj (p:List Stp) (hp: ∀s∈p,s.fits) (hl:p.length≤1099511627776):W Aec 0 [.list (p.map Stp.enc)]=some [.str (Nz p),.int (Aej p)]:=by
 rw [Al0]
 unfold Nz Aej
 cases hb:N6 p with
 | false=>simp only [Ud p hp hl,hb,O.Ah,O.Az,Option.bind_some,Bool.not_false,O.Ab,if_true];rfl
 | true=>
  simp only [Ud p hp hl,hb,O.Ah,O.Az,Option.bind_some,Bool.not_true,O.Ab,Bool.false_eq_true,if_false,if_true]
  unfold N6 at hb
  simp only [Bool.and_eq_true,decide_eq_true_eq,List.all_eq_true] at hb
  have:=Sf p hb.1 hb.2 p.length 0 Ay (by omega) (Nat.le_refl _)
  rw [Hi] at this
  exact this
end Go.CT.Sch
namespace Go.CT.Sch
open Go.Proofs
theorem Y0 (s:ByteArray) (hs:s.size≤1099511627776): ∀ (n i:Nat),i+n=s.size→W F22 1 [.str s,.int s.size,.int i]=some [.bool ((s.data.toList.drop i).all Iw&&decide (s.size≤200))]
 | 0,i,h=>by
  have h1: ¬ i<s.size:=by omega
  have h2:s.data.toList.drop i= []:=List.drop_of_length_le (by simp;omega)
  rw [Ajm]
  simp only [O.Cm,Option.bind_some,O.Ak,Ao,h1,decide_false,O.Ab,Bool.false_eq_true,if_false,O.Dv,h2,List.all_nil,Bool.true_and]
  congr 3
  rw [Bool.eq_iff_iff]
  simp
  omega
 | n+1,i,h=>by
  have hi:i<s.size:=by omega
  have hw:=Bf (i:=i) (by omega)
  have ih:=Y0 s hs n (i+1) (by omega)
  rw [Ajm,Gz hi]
  have e1:Iw s[i]= !(if (!decide ((s[i].toNat :Int)=10))=true then (if decide ((s[i].toNat :Int)<32)=true then true else decide (126<(s[i].toNat :Int))) else false):=by
   unfold Iw
   rw [Bool.eq_iff_iff]
   by_cases c1:s[i].toNat =10
   ·simp [c1]
   ·have c1': ¬ (s[i].toNat :Int)=10:=by omega
    by_cases c2:s[i].toNat <32
    ·have c2':(s[i].toNat :Int)<32:=by omega
     simp [c1,c1',c2,c2'];omega
    ·have c2': ¬ (s[i].toNat :Int)<32:=by omega
     simp [c1,c1',c2,c2']
     omega
  simp only [O.Cm,Option.bind_some,O.Ak,Ao,hi,decide_true,O.Ab,if_true,O.Gs,Int.natCast_nonneg,Int.toNat_natCast,Arr hi,Option.map_some,O.D7,O.Bu,Ar,Al,O.Ap,hw,ih,List.all_cons,e1]
  generalize (if (!decide ((s[i].toNat :Int)=10))=true then (if decide ((s[i].toNat :Int)<32)=true then true else decide (126<(s[i].toNat :Int))) else false)=b
  cases b<;>simp
theorem At0 (s:ByteArray) (hs:s.size≤1099511627776):W F22 0 [.str s]=some [.bool (Kz s)]:=by
 rw [As0]
 simp only [O.Cm,Option.bind_some]
 exact Y0 s hs s.size 0 (by omega)
theorem Xn (s:ByteArray) (hs:s.size≤1099511627776): ∀ (n i:Nat),i+n=s.size→W F23 1 [.str s,.int s.size,.int i]=some [.bool ((s.data.toList.drop i).all Bz&&decide (1≤s.size∧s.size≤40))]
 | 0,i,h=>by
  have h1: ¬ i<s.size:=by omega
  have h2:s.data.toList.drop i= []:=List.drop_of_length_le (by simp;omega)
  rw [Ain]
  simp only [O.Cm,Option.bind_some,O.Ak,Ao,h1,decide_false,O.Ab,Bool.false_eq_true,if_false,O.Gj,O.Dv,Ar,Al,h2,List.all_nil,Bool.true_and]
  congr 3
  rw [Bool.eq_iff_iff]
  simp
  omega
 | n+1,i,h=>by
  have hi:i<s.size:=by omega
  have hw:=Bf (i:=i) (by omega)
  have ih:=Xn s hs n (i+1) (by omega)
  rw [Ain,Gz hi]
  generalize hc:s[i]=c
  simp only [O.Cm,Option.bind_some,O.Ak,Ao,hi,decide_true,O.Ab,if_true,O.Gs,Int.natCast_nonneg,Int.toNat_natCast,Arr hi,hc,Option.map_some,O.Gj,O.Dv,O.eq_int,Ar,Al,O.Az,O.Ap,hw,ih,List.all_cons]
  have e1:Bz c=(if (if (if (if (if (if decide ((97:Int)≤c.toNat)=true then decide ((c.toNat:Int)≤122) else false)=true then true else if decide ((65:Int)≤c.toNat)=true then decide ((c.toNat:Int)≤90) else false)=true then true else if decide ((48:Int)≤c.toNat)=true then decide ((c.toNat:Int)≤57) else false)=true then true else decide ((c.toNat:Int)=45))=true then true else decide ((c.toNat:Int)=95))=true then true else decide ((c.toNat:Int)=47)):=by
   unfold Bz
   rw [Bool.eq_iff_iff]
   simp
   omega
  rw [←e1]
  cases Bz c<;>simp
theorem At8 (s:ByteArray) (hs:s.size≤1099511627776):W F23 0 [.str s]=some [.bool (Cp s)]:=by
 rw [Arl]
 simp only [O.Cm,Option.bind_some]
 exact Xn s hs s.size 0 (by omega)
theorem Ajw (v:Val) (hv:v.A3≤1099511627776):W F21 0 [v.enc]=some [.bool (E4 v)]:=by
 have hs:=v.Ai9
 rw [At3]
 unfold E4
 simp only [Val.Bm,Option.bind_some,O.eq_int,O.Ab]
 by_cases c1:v.k=1
 ·by_cases a1:v.s=Ay<;>by_cases a2:v.n=0<;>simp [c1,a1,a2,Cq]
 by_cases c2:v.k=2
 ·by_cases a1: -1000000000000000≤v.n<;>by_cases a2:v.n≤1000000000000000<;>by_cases a3:v.s=Ay<;>simp [c2,a1,a2,a3,Cq]
 by_cases c3:v.k=3
 ·by_cases a1:v.n=0<;>simp [c3,a1,At0 v.s (by omega)]
 by_cases c4:v.k=0
 ·by_cases a1:v.n=0<;>simp [c4,Vw,a1,Cq]
 by_cases c5:v.k=4
 ·by_cases a1:v.n=0<;>simp [c5,Vw,a1,Cq]
 by_cases c6:v.k=5
 ·by_cases a1:v.n=0<;>simp [c6,Vw,a1,Cq]
 simp [c1,c2,c3,c4,c5,c6,Vw]
theorem To (d:Nat) (v:Val) (hd:d≤12) (hv:v.A3≤1099511627776) (ih: ∀p∈v.f,W F20 0 [p.2.enc,.int d]=some [.bool (Bo d p.2)]): ∀ (n i:Nat),i+n=v.f.length→
  W F20 2 [.int ((d+1:Nat):Int),.list (v.f.map Fld.enc),.int v.f.length,.int i,v.enc]=some [.bool (Ajg d (Et v.f i) (v.f.drop i))]
 | 0,i,h=>by
  rw [Ait]
  have h1: ¬ i<v.f.length:=by omega
  simp [h1,List.drop_of_length_le (Nat.le_of_not_lt h1),Ajg]
 | n+1,i,h=>by
  have hi:i<v.f.length:=by omega
  have hm:=v.A7
  have hw:=Bf (i:=i) (by omega)
  have hd1:IntKind.i64.wrap (((d+1:Nat):Int) - 1)=d:=by rw [wrap64 (by omega) (by omega)];omega
  have:=To d v hd hv ih n (i+1) (by omega)
  have hmem:=List.getElem_mem hi
  have hmass:=Val.Dx hmem
  have hpn:Et v.f (i+1)=some v.f[i].1 :=by simp [Et,hi]
  rw [hpn] at this
  rw [Ait,List.drop_eq_getElem_cons hi,Ys]
  simp only [Val.Ch,Option.bind_some,O.Ak,Ao,hi,decide_true,O.Ab,if_true,O.Ai,Int.natCast_nonneg,Int.toNat_natCast,List.getElem?_map,List.getElem?_eq_getElem hi,Option.map_some,Fld.Bm,Fld.Kd,At8 v.f[i].1 (by omega),O.B6,hd1,ih _ hmem,O.Ah,O.Az,O.Bu,O.Ap,hw,this]
  cases i with
  | zero=>
   simp only [Et]
   cases Cp v.f[0].1<;>cases Bo d v.f[0].2<;>simp
  | succ i=>
   have hi':i<v.f.length:=by omega
   have hw2:IntKind.i64.wrap (((i+1:Nat):Int) - 1)=i:=by rw [wrap64 (by omega) (by omega)];omega
   have hp:(0:Int)<((i+1:Nat):Int):=by omega
   simp only [Et,List.getElem?_eq_getElem hi',Option.map_some,hw2,hp,decide_true,if_true,Int.natCast_nonneg,Int.toNat_natCast,Option.bind_some,Fld.Bm,Aam]
   cases Cp v.f[i+1].1<;>cases Bo d v.f[i+1].2<;>cases blt v.f[i].1 v.f[i+1].1<;>simp
theorem Uy (d:Nat) (v:Val) (hd:d≤12) (hv:v.A3≤1099511627776) (ih: ∀x∈v.l,W F20 0 [x.enc,.int d]=some [.bool (Bo d x)]): ∀ (n i:Nat),i+n=v.l.length→
  W F20 1 [.int ((d+1:Nat):Int),.list (v.l.map Val.enc),.int v.l.length,.int i,v.enc]=if (v.l.drop i).all (Bo d)=true then W F20 2 [.int ((d+1:Nat):Int),.list (v.f.map Fld.enc),.int v.f.length,.int 0,v.enc] else some [.bool false]
 | 0,i,h=>by
  rw [Ahr]
  have h1: ¬ i<v.l.length:=by omega
  simp [h1,List.drop_of_length_le (Nat.le_of_not_lt h1)]
 | n+1,i,h=>by
  have hi:i<v.l.length:=by omega
  have hm:=v.Ct
  have hw:=Bf (i:=i) (by omega)
  have hd1:IntKind.i64.wrap (((d+1:Nat):Int) - 1)=d:=by rw [wrap64 (by omega) (by omega)];omega
  have:=Uy d v hd hv ih n (i+1) (by omega)
  rw [Ahr,List.drop_eq_getElem_cons hi]
  simp only [Option.bind_some,O.Ak,Ao,hi,decide_true,O.Ab,if_true,O.Ai,Int.natCast_nonneg,Int.toNat_natCast,List.getElem?_map,List.getElem?_eq_getElem hi,Option.map_some,O.B6,hd1,ih _ (List.getElem_mem hi),O.Ah,O.Az,O.Ap,hw,this,List.all_cons]
  by_cases c:Bo d v.l[i]=true<;>simp [c]
theorem Vk: ∀ (d:Nat) (v:Val),d≤12→v.A3≤1099511627776→W F20 0 [v.enc,.int d]=some [.bool (Bo d v)]
 | 0,v,_,_=>by
  rw [Aj4]
  simp [Bo]
 | d+1,v,hd,hv=>by
  have h1:=Uy d v (by omega) hv (fun x hx=>Vk d x (by omega) (by have:=Val.Ho hx;omega)) v.l.length 0 (by omega)
  have h2:=To d v (by omega) hv (fun p hp=>Vk d p.2 (by omega) (by have:=Val.Dx hp;omega)) v.f.length 0 (by omega)
  have hm1:=v.Ct
  have hm2:=v.A7
  have hd0: ¬ ((d+1:Nat):Int)=0:=by omega
  simp only [List.drop_zero,Int.cast_ofNat_Int] at h1 h2
  have e1:decide ((0:Int)<(v.l.length:Int))= !decide (v.l= []):=by cases v.l<;>simp
  have e2:decide ((0:Int)<(v.f.length:Int))= !decide (v.f= []):=by cases v.f<;>simp
  have e3:decide ((64:Int)<(v.l.length:Int))= !decide (v.l.length≤64):=by rw [Bool.eq_iff_iff];simp;omega
  have e4:decide ((64:Int)<(v.f.length:Int))= !decide (v.f.length≤64):=by rw [Bool.eq_iff_iff];simp;omega
  rw [Aj4]
  simp only [O.eq_int,hd0,decide_false,Option.bind_some,O.Ab,Bool.false_eq_true,if_false,Ajw v hv,O.Ah,O.Az,Ar,Al,Val.Bm,Val.B7,Val.Ch,O.D7,O.An,List.length_map,O.Bu,e1,e2,e3,e4,h1,h2]
  unfold Bo
  have hpn:Et v.f 0=none:=rfl
  rw [hpn,Ya]
  generalize v.l.all (Bo d)=A at *
  generalize (v.f.all fun p=>Cp p.1&&Bo d p.2)=B at *
  generalize rising v.f=C at *
  generalize E4 v=D
  clear h1 h2
  have p4:(if (!decide (v.k=4))=true then !decide (v.l= []) else false)= !decide (v.k≠4→v.l= []):=by by_cases c:v.k=4<;>simp [c]
  have p5:(if (!decide (v.k=5))=true then !decide (v.f= []) else false)= !decide (v.k≠5→v.f= []):=by by_cases c:v.k=5<;>simp [c]
  rw [p4,p5,show decide (v.l.length≤64∧v.f.length≤64∧(v.k≠4→v.l= [])∧(v.k≠5→v.f= []))=(decide (v.l.length≤64)&&(decide (v.f.length≤64)&&(decide (v.k≠4→v.l= [])&&decide (v.k≠5→v.f= [])))) by simp only [Bool.decide_and]]
  generalize decide (v.l.length≤64)=b1
  generalize decide (v.f.length≤64)=b2
  generalize decide (v.k≠4→v.l= [])=b3
  generalize decide (v.k≠5→v.f= [])=b4
  cases D<;>cases b1<;>cases b2<;>cases b3<;>cases b4<;>cases A<;>cases B<;>cases C<;>rfl
theorem Yn (v:Val) (hv:v.A3≤1099511627776) (ih: ∀p∈v.f,W F24 0 [p.2.enc]=some [.int p.2.size]): ∀ (n i c:Nat),i+n=v.f.length→c+Br (v.f.drop i)≤4611686018427387904→
  W F24 2 [.int c,.list (v.f.map Fld.enc),.int v.f.length,.int i]=some [.int ((c+Br (v.f.drop i):Nat):Int)]
 | 0,i,c,h,hc=>by
  rw [Ai6]
  have h1: ¬ i<v.f.length:=by omega
  simp [h1,List.drop_of_length_le (Nat.le_of_not_lt h1),Br]
 | n+1,i,c,h,hc=>by
  have hi:i<v.f.length:=by omega
  have hm:=v.A7
  have hw:=Bf (i:=i) (by omega)
  have hd:Br (v.f.drop i)=v.f[i].2.size +Br (v.f.drop (i+1)):=by rw [List.drop_eq_getElem_cons hi];rfl
  have hw2:IntKind.i64.wrap ((c:Int)+(v.f[i].2.size :Int))=((c+v.f[i].2.size :Nat):Int):=by rw [wrap64 (by omega) (by omega)];rfl
  rw [Ai6]
  simp only [Option.bind_some,O.Ak,Ao,hi,decide_true,O.Ab,if_true,O.Ai,Int.natCast_nonneg,Int.toNat_natCast,List.getElem?_map,List.getElem?_eq_getElem hi,Option.map_some,Fld.Kd,ih _ (List.getElem_mem hi),O.Ah,O.Ap,hw,hw2]
  rw [Yn v hv ih n (i+1) _ (by omega) (by omega),hd,Nat.add_assoc]
theorem Aaf (v:Val) (hv:v.A3≤1099511627776) (ih: ∀x∈v.l,W F24 0 [x.enc]=some [.int x.size]): ∀ (n i c:Nat),i+n=v.l.length→c+Cl (v.l.drop i)≤4611686018427387904→
  W F24 1 [.int c,.list (v.l.map Val.enc),.int v.l.length,.int i,v.enc]=W F24 2 [.int ((c+Cl (v.l.drop i):Nat):Int),.list (v.f.map Fld.enc),.int v.f.length,.int 0]
 | 0,i,c,h,hc=>by
  rw [Ahw]
  have h1: ¬ i<v.l.length:=by omega
  simp [h1,List.drop_of_length_le (Nat.le_of_not_lt h1),Cl]
 | n+1,i,c,h,hc=>by
  have hi:i<v.l.length:=by omega
  have hm:=v.Ct
  have hw:=Bf (i:=i) (by omega)
  have hd:Cl (v.l.drop i)=v.l[i].size +Cl (v.l.drop (i+1)):=by rw [List.drop_eq_getElem_cons hi];rfl
  have hw2:IntKind.i64.wrap ((c:Int)+(v.l[i].size :Int))=((c+v.l[i].size :Nat):Int):=by rw [wrap64 (by omega) (by omega)];rfl
  rw [Ahw]
  simp only [Option.bind_some,O.Ak,Ao,hi,decide_true,O.Ab,if_true,O.Ai,Int.natCast_nonneg,Int.toNat_natCast,List.getElem?_map,List.getElem?_eq_getElem hi,Option.map_some,ih _ (List.getElem_mem hi),O.Ah,O.Ap,hw,hw2]
  rw [Aaf v hv ih n (i+1) _ (by omega) (by omega),hd,Nat.add_assoc]
theorem As3: ∀v:Val,v.A3≤1099511627776→W F24 0 [v.enc]=some [.int v.size]:=by
 refine Val.ind fun v ih1 ih2 hv=>?_
 have hsz:=v.H0
 have hs:=v.size_eq
 have h1:=Aaf v hv (fun x hx=>ih1 x hx (by have:=Val.Ho hx;omega)) v.l.length 0 1 (by omega) (by simp only [List.drop_zero];omega)
 have h2:=Yn v hv (fun p hp=>ih2 p hp (by have:=Val.Dx hp;omega)) v.f.length 0 (1+Cl v.l) (by omega) (by simp only [List.drop_zero];omega)
 simp only [List.drop_zero,Int.cast_ofNat_Int] at h1 h2
 rw [Ate]
 simp only [Val.B7,Option.bind_some,O.An,List.length_map]
 have h1':W F24 1 [.int 1,.list (v.l.map Val.enc),.int v.l.length,.int 0,v.enc]=W F24 2 [.int ((1+Cl v.l:Nat):Int),.list (v.f.map Fld.enc),.int v.f.length,.int 0]:=h1
 rw [h1',h2,hs]
theorem N9 (v:Val) (hv:v.A3≤1099511627776):W F19 0 [v.enc]=some [.bool v.valid]:=by
 rw [Aq7]
 have h1:=Vk 12 v (by omega) hv
 have h2:=As3 v hv
 simp only [Int.cast_ofNat_Int] at h1
 simp only [h1,h2,O.Ah,O.Ab,O.Dv,Option.bind_some,Val.valid]
 have:decide ((v.size:Int)≤600)=decide (v.size≤600):=by simp;omega
 cases Bo 12 v<;>simp [this]
end Go.CT.Sch
namespace Go.CT.Sch
open Go.Proofs
def nmR (r:Int):Bool:=decide (97≤r∧r≤122)||decide (65≤r∧r≤90)||decide (48≤r∧r≤57)||decide (r=45)||decide (r=95)||decide (r=47)
theorem Asn (r:Int):W F58 0 [.int r]=some [.bool (nmR r)]:=by
 rw [Ar6]
 simp only [O.Gj,O.Dv,O.eq_int,Option.bind_some,O.Ab,Ar,Al]
 congr 3
 unfold nmR
 rw [Bool.eq_iff_iff]
 simp
theorem Adm (c:UInt8):nmR c.toNat=Bz c:=by
 unfold nmR Bz
 rw [Bool.eq_iff_iff]
 simp
 omega
theorem Adc {r:Int} (h:128≤r):nmR r=false:=by
 unfold nmR
 simp
 omega
theorem Ai1 {c:UInt8} (h:128≤c.toNat):Bz c=false:=by
 rw [←Adm];exact Adc (by omega)
theorem X4 (s:ByteArray) (hs:s.size≤1099511627776): ∀ (n i:Nat),i+n=s.size→W F57 1 [.str s,.str s,.int i]=some [.bool ((s.data.toList.drop i).all Bz&&decide (1≤s.size∧s.size≤40))]
 | 0,i,h=>by
  have h1: ¬ i<s.size:=by omega
  have h2:s.data.toList.drop i= []:=List.drop_of_length_le (by simp;omega)
  rw [Aj3]
  simp only [O.Un h1,O.Vh h1,O.Pg h1,Option.bind_some,O.Ab,Bool.false_eq_true,if_false,O.Hd,O.Cm,O.Dv,Ar,Al,h2,List.all_nil,Bool.true_and]
  congr 3
  have e:s=(⟨#[]⟩:ByteArray)↔s.size=0:=by
   constructor
   ·rintro rfl;rfl
   ·intro h0
    apply Hu
    have:s.data.toList.length=0:=by simpa using h0
    rw [List.length_eq_zero_iff.1 this]
  by_cases c:s.size=0
  ·simp [e,c]
  ·have c1:1≤s.size:=by omega
   rw [Bool.eq_iff_iff]
   simp [e,c,c1]
   omega
 | n+1,i,h=>by
  have hi:i<s.size:=by omega
  rw [Aj3,Gz hi]
  simp only [O.Yj hi,O.X9 hi,O.Rh hi,Option.bind_some,O.Ab,if_true,O.Zl,Asn,O.Ah,O.Az,List.all_cons]
  by_cases hb:s[i].toNat <128
  ·have ih:=X4 s hs n (i+1) (by omega)
   rw [Uq hi hb]
   simp only [Adm]
   cases Bz s[i] with
   | true=>simpa using ih
   | false=>simp
  ·have hd:=decode_high hi (by omega)
   rw [Adc (by omega),Ai1 (by omega)]
   simp
theorem Art (s:ByteArray) (hs:s.size≤1099511627776):W F57 0 [.str s]=some [.bool (Cp s)]:=by
 rw [Ar9];exact X4 s hs s.size 0 (by omega)
theorem Xq (s:ByteArray):(Val.mk 3 0 s [] []).valid =Kz s:=by
 unfold Val.valid Bo
 simp [E4,rising,Val.size,Cl,Br]
theorem Aus (s:Stp) (hs:s.fits):W F56 0 [s.enc]=some [.bool (Ia s)]:=by
 have h1:=Art s.nm (Nat.le_trans hs.1 (by decide))
 have h2:=N9 ⟨3,0,s.vl,[],[]⟩ (by
  have:=hs.2
  rw [Val.Cj];simp [Lm,Hm];omega)
 rw [Xq] at h2
 have e:IV.agg [.int 3,.int 0,.str s.vl,.list [],.list []]=Val.enc ⟨3,0,s.vl,[],[]⟩:=rfl
 rw [Ar5]
 simp only [Stp.Bm,Stp.Db,Stp.Dy,Stp.B7,Option.bind_some,O.eq_int,O.Ab,h1,O.Ah,O.Gj,O.Dv,O.Eg,Ar,Al,Cq,Aaq,O.Dn,O.Bl,e,h2]
 unfold Ia
 by_cases k1:s.k=1
 ·simp only [k1,decide_true,if_true]
  cases Cp s.nm<;>simp
 ·by_cases k2:s.k=2
  ·simp only [k2,decide_true,decide_false,Bool.false_eq_true,if_true,if_false]
   by_cases e1:0≤s.ix<;>by_cases e2:s.ix≤64<;>by_cases e3:s.nm=Ay<;>simp [e1,e2,e3]
  ·simp only [k1,k2,decide_false,Bool.false_eq_true,if_false]
   by_cases k3:s.k=3
   ·simp only [k3,decide_true,if_true]
    cases Cp s.nm<;>cases Kz s.vl<;>simp
   ·simp [k3]
theorem Ae2 (p:List Stp) (hp: ∀s∈p,s.fits) (hl:p.length≤1099511627776): ∀ (n i:Nat),i+n=p.length→
  ∃r:Int,W F54 1 [.list (p.map Stp.enc),.int p.length,.int i]=some [.int r]∧decide (0≤r)= !(p.drop i).all Ia
 | 0,i,h=>by
  have h1: ¬ i<p.length:=by omega
  have h2:p.drop i= []:=List.drop_of_length_le (by omega)
  rw [Ak2]
  simp only [O.Ak,Ao,h1,decide_false,Option.bind_some,O.Ab,Bool.false_eq_true,if_false,h2]
  exact ⟨-1,rfl,rfl⟩
 | n+1,i,h=>by
  have hi:i<p.length:=by omega
  have hw:=Bf (i:=i) (by omega)
  obtain ⟨r,hr,hr2⟩:=Ae2 p hp hl n (i+1) (by omega)
  rw [Ak2,List.drop_eq_getElem_cons hi]
  simp only [O.Ak,Ao,hi,decide_true,Option.bind_some,O.Ab,if_true,O.Ai,Int.natCast_nonneg,Int.toNat_natCast,List.getElem?_map,List.getElem?_eq_getElem hi,Option.map_some,At4,Aus _ (hp _ (List.getElem_mem hi)),O.Ah,O.Az,O.Ap,hw,hr,List.all_cons]
  cases Ia p[i] with
  | true=>exact ⟨r,by simp,by simpa using hr2⟩
  | false=>exact ⟨i,by simp,by simp⟩
theorem Ae0 (p:List Stp) (hp: ∀s∈p,s.fits) (hl:p.length≤1099511627776):W F52 0 [.list (p.map Stp.enc)]=some [.bool (N6 p)]:=by
 obtain ⟨r,hr,hr2⟩:=Ae2 p hp hl p.length 0 (by omega)
 have hr':W F54 0 [.list (p.map Stp.enc)]=some [.int r]:=by
  rw [Ar2]
  simp only [O.An,List.length_map,Option.bind_some]
  exact hr
 rw [Ase]
 simp only [O.An,List.length_map,Option.bind_some,O.Dv,O.Ab,As7,hr',O.Ah,O.Gj,hr2,O.Az,List.drop_zero,Bool.not_not]
 unfold N6
 have:decide ((p.length:Int)≤16)=decide (p.length≤16):=by simp;omega
 rw [this]
 by_cases c:p.length≤16<;>simp [c]
theorem Qh (s:ByteArray) (c:UInt8) (hs:s.size≤1000000):W F59 0 [.list (Bs s),.int c.toNat]=some [.list (Bs (s++bsL [c]))]:=by
 rw [Aut]
 have h:((Bs s).length + [IV.int (c.toNat:Int)].length) * 1≤As:=by rw [O.Ik];simp;unfold As;omega
 simp only [Arh,O.Hp,O.Ah,O.Bj,Option.bind_some,O.Bd,h,if_true,O.Ih]
 rfl
theorem Qw (s t:ByteArray) (hs:s.size≤1000000) (ht:t.size≤1000000): ∃n,W F62 0 [.list (Bs s),.str t]=some [n,.list (Bs (s++t))]:=by
 rw [Asf]
 have h:(Bs s).length +t.size≤As:=by rw [O.Ik];unfold As;omega
 simp only [Arh,O.Hp,O.Ah,O.Abk h,Option.bind_some,O.Cm,O.Ih]
 exact ⟨_,rfl⟩
theorem Aep (s:ByteArray) (c:UInt8) (hc:c.toNat<128) (hs:s.size≤1000000): ∃n,W F65 0 [.list (Bs s),.int c.toNat]=some [n,.list (Bs (s++bsL [c]))]:=by
 rw [Aru]
 have h:((Bs s).length + [IV.int (c.toNat:Int)].length) * 1≤As:=by rw [O.Ik];simp;unfold As;omega
 have w1:IntKind.u32.wrap (c.toNat:Int)=c.toNat:=by
  unfold IntKind.wrap
  simp [IntKind.signed,IntKind.bits]
  omega
 have w2:IntKind.u8.wrap (c.toNat:Int)=c.toNat:=by
  unfold IntKind.wrap
  simp [IntKind.signed,IntKind.bits]
  omega
 have w3:decide ((c.toNat:Int)≤127)=true:=by simp;omega
 simp only [Arh,O.Hp,O.Ah,O.An,Option.bind_some,Atb,O.Ac7,w1,w2,O.Dv,w3,O.Ab,if_true,O.Bj,O.Bd,h,O.Ih,O.B6]
 exact ⟨_,rfl⟩
theorem Afo {c:UInt8} (h:Iw c=true):c.toNat<128:=by
 unfold Iw at h
 simp at h
 omega
theorem Ur (s:ByteArray) (hs:s.size≤200) (ho: ∀c∈s.data.toList,Iw c=true): ∀ (n i:Nat) (o:ByteArray),i+n=s.size→o.size≤1+2 * i→W F63 1 [.str s,.int i,.list (Bs o)]=some [.str (o++bsL ((s.data.toList.drop i).flatMap Xp++ [34]))]
 | 0,i,o,h,ho'=>by
  have h1: ¬ i<s.size:=by omega
  have h2:s.data.toList.drop i= []:=List.drop_of_length_le (by simp;omega)
  have hb:=Qh o 34 (by omega)
  rw [Aky]
  simp only [O.Un h1,O.Vh h1,O.Pg h1,Option.bind_some,O.Ab,Bool.false_eq_true,if_false]
  rw [show (IV.int 34)=IV.int ((34:UInt8).toNat :Int) from rfl,hb]
  simp only [O.Ah,Avp,O.N1,h2,List.flatMap_nil,List.nil_append]
 | n+1,i,o,h,ho'=>by
  have hi:i<s.size:=by omega
  have hc:=ho s[i] (by rw [show s[i]=s.data.toList[i]'(by simpa using hi) from rfl];exact List.getElem_mem _)
  have hlow:=Afo hc
  have next: ∀a:List UInt8,a.length≤2→Xp s[i]=a→W F63 3 [.str s,.int ((i+1:Nat):Int),.list (Bs (o++bsL a))]=some [.str (o++bsL ((s.data.toList.drop i).flatMap Xp++ [34]))]:=by
   intro a ha he
   rw [Ara]
   rw [Ur s hs ho n (i+1) _ (by omega) (by rw [ByteArray.size_append,Dc];omega),Gz hi,List.flatMap_cons,he,List.append_assoc,Gl a,ByteArray.append_assoc]
  rw [Aky]
  simp only [O.Yj hi,O.X9 hi,O.Rh hi,Uq hi hlow,Option.bind_some,O.Ab,if_true,O.Zl,O.eq_int]
  have two:s[i].toNat =34∨s[i].toNat =92→W F63 2 [.int s[i].toNat,.int s[i].toNat,.bool true,.str s,.int ((i+1:Nat):Int),.list (Bs o)]=some [.str (o++bsL ((s.data.toList.drop i).flatMap Xp++ [34]))]:=by
   intro h2
   rw [Aj6]
   have hb:=Qh o 92 (by omega)
   obtain ⟨m,hr⟩:=Aep (o++bsL [92]) s[i] hlow (by rw [ByteArray.size_append,Dc];simp;omega)
   simp only [O.Ab,if_true]
   rw [show (IV.int 92)=IV.int ((92:UInt8).toNat :Int) from rfl,hb]
   simp only [O.Ah,hr,O.Cz]
   rw [ByteArray.append_assoc,←Gl]
   exact next [92,s[i]] (by simp) (by unfold Xp;rw [if_neg (by omega),if_pos h2])
  by_cases c1:s[i].toNat =34
  ·have c1':decide ((s[i].toNat :Int)=34)=true:=by simp;omega
   simp only [c1',if_true]
   exact two (.inl c1)
  ·have c1':decide ((s[i].toNat :Int)=34)=false:=by simp;omega
   simp only [c1',Bool.false_eq_true,if_false]
   by_cases c2:s[i].toNat =92
   ·have c2':decide ((s[i].toNat :Int)=92)=true:=by simp;omega
    simp only [c2']
    exact two (.inr c2)
   ·have c2':decide ((s[i].toNat :Int)=92)=false:=by simp;omega
    simp only [c2']
    rw [Aj6]
    simp only [O.Ab,Bool.false_eq_true,if_false,O.eq_int,Option.bind_some]
    by_cases c3:s[i].toNat =10
    ·have c3':decide ((s[i].toNat :Int)=10)=true:=by simp;omega
     simp only [c3',if_true]
     obtain ⟨m,hr⟩:=Qw o (bsL [92,110]) (by omega) (by rw [Dc];simp)
     rw [show (ByteArray.mk #[92,110])=bsL [92,110] from rfl]
     simp only [hr,O.Cz]
     exact next [92,110] (by simp) (by unfold Xp;rw [if_pos c3])
    ·have c3':decide ((s[i].toNat :Int)=10)=false:=by simp;omega
     simp only [c3',Bool.false_eq_true,if_false]
     obtain ⟨m,hr⟩:=Aep o s[i] hlow (by omega)
     simp only [hr,O.Cz]
     exact next [s[i]] (by simp) (by unfold Xp;rw [if_neg c3,if_neg (by omega)])
theorem Ama (s:ByteArray) (h:Kz s=true):W F63 0 [.str s]=some [.str (Uh s)]:=by
 have hs:=T0 h
 unfold Kz at h
 simp only [Bool.and_eq_true,List.all_eq_true] at h
 rw [Asy]
 have hb:=Qh Ay 34 (by decide)
 rw [show (IV.list [])=IV.list (Bs Ay) from rfl,show (IV.int 34)=IV.int ((34:UInt8).toNat :Int) from rfl,hb]
 simp only [O.Ah,Hi]
 rw [show (IV.int 0)=IV.int ((0:Nat):Int) from rfl,Ur s hs h.1 s.size 0 _ (by omega) (by rw [Dc];simp),←Gl]
 rfl
theorem Tw (p:List Stp) (hp: ∀s∈p,Ia s=true) (hl:p.length≤16): ∀ (n i:Nat) (o:ByteArray),i+n=p.length→o.size≤500 * i→W F51 1 [.list (p.map Stp.enc),.int p.length,.int i,.list (Bs o)]=some [.str (o++Lr (decide (i=0)) (p.drop i)),.int 0]
 | 0,i,o,h,ho=>by
  have h1: ¬ i<p.length:=by omega
  have h2:p.drop i= []:=List.drop_of_length_le (by omega)
  rw [Aka]
  simp only [Option.bind_some,O.Ak,Ao,h1,decide_false,O.Ab,Bool.false_eq_true,if_false,h2,Lr,Oa,Avp,O.N1,O.Ah]
 | n+1,i,o,h,ho=>by
  have hi:i<p.length:=by omega
  have hw:=Bf (i:=i) (by omega)
  have hok:=hp _ (List.getElem_mem hi)
  obtain ⟨g1,g2,g3,g4,g5⟩:=Kp hok
  have e: ∀c:UInt8,(bsL [c]).size =1:=fun c=>by rw [Dc];rfl
  have next: ∀t:ByteArray,Mg (decide (i=0)) p[i]=t→W F51 3 [.list (p.map Stp.enc),.int p.length,.int i,.list (Bs (o++t))]=some [.str (o++Lr (decide (i=0)) (p.drop i)),.int 0]:=by
   intro t ht
   have hz:(Mg (decide (i=0)) p[i]).size ≤500:=T3 hok
   rw [Aqk]
   simp only [O.Ap,hw,Option.bind_some]
   rw [Tw p hp hl n (i+1) (o++t) (by omega) (by rw [ByteArray.size_append,←ht];omega),List.drop_eq_getElem_cons hi,Lr,ht,ByteArray.append_assoc]
   rfl
  rw [Aka]
  simp only [Option.bind_some,O.Ak,Ao,hi,decide_true,O.Ab,if_true,O.Ai,Int.natCast_nonneg,Int.toNat_natCast,List.getElem?_map,List.getElem?_eq_getElem hi,Option.map_some,Stp.Bm,Stp.Db,Stp.Dy,Stp.B7,O.eq_int,O.Bu]
  rw [show (ByteArray.mk #[91])=bsL [91] from rfl,show (ByteArray.mk #[93])=bsL [93] from rfl,show (ByteArray.mk #[61])=bsL [61] from rfl,show (IV.int 46)=IV.int ((46:UInt8).toNat :Int) from rfl]
  rcases g5 with k1 | k2 | k3
  ·simp only [k1,decide_true,if_true]
   by_cases hz:i=0
   ·have hz': ¬ (0:Int)<i:=by omega
    obtain ⟨m,hr⟩:=Qw o p[i].nm (by omega) (by omega)
    simp only [hz',decide_false,Bool.false_eq_true,if_false]
    rw [Ahv]
    simp only [Stp.Db,Option.bind_some,hr,O.Cz]
    exact next _ (by unfold Mg;rw [if_neg (by omega),if_neg (by omega),if_pos (by simpa using hz)])
   ·have hz':(0:Int)<i:=by omega
    obtain ⟨m,hr⟩:=Qw (o++bsL [46]) p[i].nm (by rw [ByteArray.size_append,e];omega) (by omega)
    simp only [hz',decide_true,if_true,Qh o 46 (by omega),O.Ah]
    rw [Ahv]
    simp only [Stp.Db,Option.bind_some,hr,O.Cz,ByteArray.append_assoc]
    exact next _ (by unfold Mg;rw [if_neg (by omega),if_neg (by omega),if_neg (by simpa using hz)])
  ·obtain ⟨x,hx⟩:=Int.eq_ofNat_of_zero_le (g3 k2).1
   have hx2:=(g3 k2).2
   rw [hx] at hx2
   have hd:W F61 0 [.int p[i].ix]=some [.str (O.P1 p[i].ix.toNat)]:=by
    rw [Axq,hx,O.Ao7 x (by omega)];rfl
   have hd2:=Oj p[i].ix.toNat
   have k1:decide (p[i].k =1)=false:=by rw [k2];rfl
   simp only [k1,k2,decide_true,Bool.false_eq_true,if_false,if_true,hd,O.Ah]
   rw [El (by rw [e];omega) (by omega)]
   simp only [Option.bind_some]
   rw [El (by rw [ByteArray.size_append,e];omega) (by rw [e];omega)]
   obtain ⟨m,hr⟩:=Qw o (bsL [91]++O.P1 p[i].ix.toNat ++bsL [93]) (by omega) (by rw [ByteArray.size_append,ByteArray.size_append,e,e];omega)
   simp only [Option.bind_some,hr,O.Cz]
   exact next _ (by unfold Mg;rw [if_pos k2])
  ·have hd:=Ama p[i].vl (g4 k3)
   have hd2:=Mc p[i].vl
   have k1:decide (p[i].k =1)=false:=by rw [k3];rfl
   have k2:decide (p[i].k =2)=false:=by rw [k3];rfl
   simp only [k1,k2,k3,decide_true,Bool.false_eq_true,if_false,if_true]
   rw [El (by rw [e];omega) (by omega)]
   simp only [Option.bind_some]
   rw [El (by rw [ByteArray.size_append,e];omega) (by rw [e];omega)]
   simp only [Option.bind_some,hd,O.Ah]
   rw [El (by rw [ByteArray.size_append,ByteArray.size_append,e,e];omega) (by omega)]
   simp only [Option.bind_some]
   rw [El (by rw [ByteArray.size_append,ByteArray.size_append,ByteArray.size_append,e,e];omega) (by rw [e];omega)]
   obtain ⟨m,hr⟩:=Qw o (bsL [91]++p[i].nm ++bsL [61]++Uh p[i].vl ++bsL [93]) (by omega) (by simp only [ByteArray.size_append,e];omega)
   simp only [Option.bind_some,hr,O.Cz]
   exact next _ (by unfold Mg;rw [if_neg (by omega),if_pos k3])
theorem Aef (p:List Stp) (hp: ∀s∈p,s.fits) (hl:p.length≤1099511627776):W F51 0 [.list (p.map Stp.enc)]=some [.str (Nz p),.int (Aej p)]:=by
 rw [Ar7]
 unfold Nz Aej
 cases hb:N6 p with
 | false=>simp only [Ae0 p hp hl,hb,O.Ah,O.Az,Option.bind_some,Bool.not_false,O.Ab,if_true];rfl
 | true=>
  simp only [Ae0 p hp hl,hb,O.Ah,O.Az,Option.bind_some,Bool.not_true,O.Ab,Bool.false_eq_true,if_false,if_true,O.An,List.length_map]
  unfold N6 at hb
  simp only [Bool.and_eq_true,decide_eq_true_eq,List.all_eq_true] at hb
  have:=Tw p hb.1 hb.2 p.length 0 Ay (by omega) (Nat.le_refl _)
  rw [Hi] at this
  exact this
end Go.CT.Sch
namespace Go.CT.Sch
open Go.Proofs
def Bi:Val:=⟨0,0,Ay,[],[]⟩
def J2 (o:Option Val):List IV:= [.int (o.getD Bi).k,.int (o.getD Bi).n,.str (o.getD Bi).s,.list ((o.getD Bi).l.map Val.enc),.list ((o.getD Bi).f.map Fld.enc),.bool o.isSome]
theorem L5 {n b:Nat} (hn:n≤1099511627776) (hb:b≤127):n * b≤As:=by
 have:n * b≤1099511627776 * 127:=Nat.mul_le_mul hn hb
 unfold As;omega
theorem P9 {α:Type} (l:List α) {i:Nat} (h:i<l.length):l.take i++ [l[i]]=l.take (i+1):=by
 rw [List.take_add_one,List.getElem?_eq_getElem h];rfl
theorem Ro (v:Val) (hv:Gf 1099511627776 v) (y2 y3 y4 y5 y6 y7 y8:IV) (ih: ∀p∈v.f,W F9 0 [p.2.enc]=some p.2.Gv): ∀ (n i:Nat),i+n=v.f.length→
  W F9 2 [.int i,v.enc,y2,y3,y4,y5,y6,y7,y8,.list ((v.f.take i).map Fld.enc)]=some [y5,y6,y7,y8,.list (v.f.map Fld.enc)]
 | 0,i,h=>by
  rw [Ap6]
  have h1: ¬ i<v.f.length:=by omega
  simp only [Val.Ch,Option.bind_some,O.An,List.length_map,O.Ak,Ao,h1,decide_false,O.Ab,Bool.false_eq_true,if_false,List.take_of_length_le (Nat.le_of_not_lt h1)]
 | n+1,i,h=>by
  have hi:i<v.f.length:=by omega
  have hm:=hv.Oe
  have hw:=Bf (i:=i) (by omega)
  have:=Ro v hv y2 y3 y4 y5 y6 y7 y8 ih n (i+1) (by omega)
  have hap:((v.f.take i).length +1) * 96≤As:=L5 (by rw [List.length_take];omega) (by omega)
  rw [Ap6]
  simp only [Val.Ch,Option.bind_some,O.An,List.length_map,O.Ak,Ao,hi,decide_true,O.Ab,if_true,O.Ai,Int.natCast_nonneg,Int.toNat_natCast,List.getElem?_map,List.getElem?_eq_getElem hi,Option.map_some,Fld.Bm,Fld.Kd,ih _ (List.getElem_mem hi),Val.Bh,O.Dn,O.Bl,Fld.D9,O.Bj,O.Bd,List.length_singleton,hap,O.Ap,hw]
  rw [←P9 v.f hi,List.map_append] at this
  exact this
theorem Qt (v:Val) (hv:Gf 1099511627776 v) (y2 y3 y4 y5 y6 y7:IV) (ih: ∀x∈v.l,W F9 0 [x.enc]=some x.Gv): ∀ (n i:Nat),i+n=v.l.length→
  W F9 1 [.int i,v.enc,y2,y3,y4,y5,y6,y7,.list ((v.l.take i).map Val.enc)]=W F9 2 [.int 0,v.enc,y2,y3,y4,y5,y6,y7,.list (v.l.map Val.enc),.list []]
 | 0,i,h=>by
  rw [Aqj]
  have h1: ¬ i<v.l.length:=by omega
  simp only [Val.B7,Option.bind_some,O.An,List.length_map,O.Ak,Ao,h1,decide_false,O.Ab,Bool.false_eq_true,if_false,List.take_of_length_le (Nat.le_of_not_lt h1)]
 | n+1,i,h=>by
  have hi:i<v.l.length:=by omega
  have hm:=hv.Xj
  have hw:=Bf (i:=i) (by omega)
  have:=Qt v hv y2 y3 y4 y5 y6 y7 ih n (i+1) (by omega)
  have hap:((v.l.take i).length +1) * 80≤As:=L5 (by rw [List.length_take];omega) (by omega)
  rw [Aqj]
  simp only [Val.B7,Option.bind_some,O.An,List.length_map,O.Ak,Ao,hi,decide_true,O.Ab,if_true,O.Ai,Int.natCast_nonneg,Int.toNat_natCast,List.getElem?_map,List.getElem?_eq_getElem hi,Option.map_some,ih _ (List.getElem_mem hi),Val.Bh,O.Dn,O.Bl,Val.D9,O.Bj,O.Bd,List.length_singleton,hap,O.Ap,hw]
  rw [←P9 v.l hi,List.map_append] at this
  exact this
theorem Nb: ∀v:Val,Gf 1099511627776 v→W F9 0 [v.enc]=some v.Gv:=by
 refine Val.ind fun v ih1 ih2 hv=>?_
 have h1:=Qt v hv (.int 0) (.int 0) (.str ⟨#[]⟩) (.int v.k) (.int v.n) (.str v.s) (fun x hx=>ih1 x hx (hv.Afr hx)) v.l.length 0 (by omega)
 have h2:=Ro v hv (.int 0) (.int 0) (.str ⟨#[]⟩) (.int v.k) (.int v.n) (.str v.s) (.list (v.l.map Val.enc)) (fun p hp=>ih2 p hp (hv.Sw hp)) v.f.length 0 (by omega)
 simp only [List.take_zero,List.map_nil,Int.cast_ofNat_Int] at h1 h2
 rw [Avo]
 simp only [Val.Bm,Val.Db,Val.Dy,Option.bind_some]
 rw [h1,h2,Val.Bh]
theorem Tp (v:Val) (nm:ByteArray) (hv:Gf 1099511627776 v) (y3 y4 y5:IV): ∀ (n i:Nat),i+n=v.f.length→
  W Alm 1 [.str nm,.int i,v.enc,y3,y4,y5]=some (J2 (((v.f.drop i).find? fun p=>decide (p.1=nm)).map (·.2)))
 | 0,i,h=>by
  rw [Ae5]
  have h1: ¬ i<v.f.length:=by omega
  simp [h1,List.drop_of_length_le (Nat.le_of_not_lt h1),J2,Bi,Ay]
 | n+1,i,h=>by
  have hi:i<v.f.length:=by omega
  have hm:=hv.Oe
  have hw:=Bf (i:=i) (by omega)
  have:=Tp v nm hv y3 y4 y5 n (i+1) (by omega)
  have hmem:=List.getElem_mem hi
  rw [Ae5,List.drop_eq_getElem_cons hi]
  simp only [Val.Ch,Option.bind_some,O.An,List.length_map,O.Ak,Ao,hi,decide_true,O.Ab,if_true,O.Ai,Int.natCast_nonneg,Int.toNat_natCast,List.getElem?_map,List.getElem?_eq_getElem hi,Option.map_some,Fld.Bm,Fld.Kd,O.Eg,Nb v.f[i].2 (hv.Sw hmem),Val.Bh,O.Dn,O.Ap,hw,this,List.find?_cons]
  by_cases c:v.f[i].1 =nm
  ·simp [c,J2]
  ·have c':decide (v.f[i].1 =nm)=false:=by simpa using c
   simp only [c,c',decide_false,Bool.false_eq_true,if_false]
theorem Amw (v:Val) (nm:ByteArray) (hv:Gf 1099511627776 v):W Alm 0 [v.enc,.str nm]=some (J2 (v.get nm)):=by
 rw [Anb]
 unfold Val.get
 have:=Tp v nm hv (.int 0) (.int 0) (.str ⟨#[]⟩) v.f.length 0 (by omega)
 simp only [List.drop_zero,Int.cast_ofNat_Int] at this
 simp only [Val.Bm,Option.bind_some,O.eq_int,O.Ab,this]
 by_cases c:v.k=5<;>simp [c,J2,Bi,Ay]
def Gn (v:Val) (nm:ByteArray):List (ByteArray × Val):=if v.k=5 then v.f.filter (fun p=> !decide (p.1=nm)) else []
def K7 (p:ByteArray × Val):Bool→List (ByteArray × Val)→List (ByteArray × Val)
 | done,[]=>if done then [] else [p]
 | done,x::xs=>(if !done && !blt x.1 p.1 then [p] else [])++(if x.1=p.1 then [] else [x])++K7 p (done|| !blt x.1 p.1) xs
theorem Qm (p:ByteArray × Val): ∀ (l:List (ByteArray × Val)) (d:Bool),(K7 p d l).length ≤l.length+1
 | [],d=>by cases d<;>simp [K7]
 | x::xs,true=>by
  simp only [K7,Bool.not_true,Bool.false_and,Bool.false_eq_true,if_false,List.nil_append,Bool.true_or,List.length_append]
  have:(K7 p true xs).length ≤xs.length:=by
   have key: ∀l,(K7 p true l).length ≤l.length:=by
    intro l
    induction l with
    | nil=>simp [K7]
    | cons y ys ih=>
     simp only [K7,Bool.not_true,Bool.false_and,Bool.false_eq_true,if_false,List.nil_append,Bool.true_or,List.length_append,List.length_cons]
     split<;>simp<;>omega
   exact key xs
  split<;>simp<;>omega
 | x::xs,false=>by
  have h1:=Qm p xs true
  have h2:=Qm p xs false
  have key: ∀l,(K7 p true l).length ≤l.length:=by
   intro l
   induction l with
   | nil=>simp [K7]
   | cons y ys ih=>
    simp only [K7,Bool.not_true,Bool.false_and,Bool.false_eq_true,if_false,List.nil_append,Bool.true_or,List.length_append,List.length_cons]
    split<;>simp<;>omega
  have h3:=key xs
  simp only [K7,Bool.not_false,Bool.true_and,Bool.false_or,List.length_append,List.length_cons]
  cases blt x.1 p.1<;>simp<;>split<;>simp<;>omega
theorem Z9 (l:List (ByteArray × Val)) (p:ByteArray × Val) (hl:l.length≤549755813888): ∀ (n i:Nat) (d:Bool) (out:List (ByteArray × Val)),i+n=l.length→out.length≤i+d.toNat→
  W F10 1 [.list (l.map Fld.enc),.bool d,.int i,Fld.enc p,.list (out.map Fld.enc)]=some [.list ((out++K7 p d (l.drop i)).map Fld.enc)]
 | 0,i,d,out,h,ho=>by
  rw [Ahy]
  have h1: ¬ i<l.length:=by omega
  have hdn:=Bool.toNat_le d
  have hap:(out.length+1) * 96≤As:=L5 (by omega) (by omega)
  simp only [Option.bind_some,O.An,List.length_map,O.Ak,Ao,h1,decide_false,O.Ab,Bool.false_eq_true,if_false,List.drop_of_length_le (Nat.le_of_not_lt h1),K7,O.Az,O.Bj,O.Bd,List.length_singleton,hap,if_true]
  cases d<;>simp
 | n+1,i,d,out,h,ho=>by
  have hi:i<l.length:=by omega
  have hw:=Bf (i:=i) (by omega)
  have hdn:=Bool.toNat_le d
  have hap:(out.length+1) * 96≤As:=L5 (by omega) (by omega)
  rw [Ahy,List.drop_eq_getElem_cons hi,K7]
  have half: ∀ (d':Bool) (o:List (ByteArray × Val)),o.length≤i+2→
    W F10 2 [.list (l.map Fld.enc),.bool d',.int i,Fld.enc p,.list (o.map Fld.enc)]=W F10 1 [.list (l.map Fld.enc),.bool d',.int ((i+1:Nat):Int),Fld.enc p,.list ((o++if l[i].1 =p.1 then [] else [l[i]]).map Fld.enc)]:=by
   intro d' o h1
   have hap:(o.length+1) * 96≤As:=L5 (by omega) (by omega)
   rw [As4]
   simp only [O.Ai,Int.natCast_nonneg,if_true,Int.toNat_natCast,List.getElem?_map,List.getElem?_eq_getElem hi,Option.map_some,Option.bind_some,Fld.Bm,O.Hd,O.Ab,O.Bj,O.Bd,List.length_map,List.length_singleton,hap,Aqx,O.Ap,hw]
   by_cases c:l[i].1 =p.1<;>simp [c]
  have fin: ∀ (d':Bool) (o:List (ByteArray × Val)),o.length≤i+d'.toNat→
    W F10 2 [.list (l.map Fld.enc),.bool d',.int i,Fld.enc p,.list (o.map Fld.enc)]=some [.list ((o++(if l[i].1 =p.1 then [] else [l[i]])++K7 p d' (l.drop (i+1))).map Fld.enc)]:=by
   intro d' o h1
   have hdn:=Bool.toNat_le d'
   rw [half d' o (by omega),Z9 l p hl n (i+1) d' _ (by omega) (by split<;>simp<;>omega)]
  have hlt:(i:Int)<l.length:=by omega
  simp only [Option.bind_some,O.An,List.length_map,O.Ak,Ao,hi,decide_true,O.Ab,if_true,O.Az,Fld.Bm,O.Ai,Int.natCast_nonneg,Int.toNat_natCast,List.getElem?_map,List.getElem?_eq_getElem hi,Option.map_some,Sn]
  cases d with
  | true=>
   simp only [Bool.not_true,Bool.false_eq_true,if_false,Option.bind_some,Bool.false_and,List.nil_append,Bool.true_or]
   rw [fin true out ho,List.append_assoc]
   rfl
  | false=>
   simp only [Bool.not_false,if_true,Option.bind_some,Bool.true_and,Bool.false_or]
   cases hb:blt l[i].1 p.1 with
   | true=>
    simp only [Bool.not_true,Bool.false_eq_true,if_false,List.nil_append]
    rw [fin false out ho,List.append_assoc]
    rfl
   | false=>
    have:=fin true (out++ [p]) (by simp at ho ⊢;omega)
    simp only [List.map_append,List.map_cons,List.map_nil] at this
    simp only [Bool.not_false,if_true,O.Bj,Option.bind_some,O.Bd,List.length_map,List.length_singleton,hap]
    rw [this]
    simp
theorem Aqs (l:List (ByteArray × Val)) (p:ByteArray × Val) (hl:l.length≤549755813888):W F10 0 [.list (l.map Fld.enc),Fld.enc p]=some [.list ((K7 p false l).map Fld.enc)]:=by
 rw [At1]
 have:=Z9 l p hl l.length 0 false [] (by omega) (by simp)
 simpa using this
def Tj (l:List (ByteArray × Val)):List (ByteArray × Val):=l.foldl (fun acc p=>K7 p false acc) []
theorem Tv (l:List (ByteArray × Val)) (hl:Aaa 274877906944 l) (y2 y3 y4 y5 y6 y7:IV): ∀ (n i:Nat) (acc:List (ByteArray × Val)),i+n=l.length→acc.length≤i→
  W F8 1 [.list (l.map Fld.enc),.int i,y2,y3,y4,y5,y6,y7,.list (acc.map Fld.enc)]=some [y5,y6,y7,.list [],.list (((l.drop i).foldl (fun acc p=>K7 p false acc) acc).map Fld.enc)]
 | 0,i,acc,h,ha=>by
  rw [Ap1]
  have h1: ¬ i<l.length:=by omega
  simp only [Option.bind_some,O.An,List.length_map,O.Ak,Ao,h1,decide_false,O.Ab,Bool.false_eq_true,if_false,List.drop_of_length_le (Nat.le_of_not_lt h1),List.foldl_nil]
 | n+1,i,acc,h,ha=>by
  have hi:i<l.length:=by omega
  have hlen:=hl.1
  have hw:=Bf (i:=i) (by omega)
  have:=Tv l hl y2 y3 y4 y5 y6 y7 n (i+1) (K7 l[i] false acc) (by omega) (by have:=Qm l[i] acc false;omega)
  rw [Ap1,List.drop_eq_getElem_cons hi]
  simp only [Option.bind_some,O.An,List.length_map,O.Ak,Ao,hi,decide_true,O.Ab,if_true,O.Ai,Int.natCast_nonneg,Int.toNat_natCast,List.getElem?_map,List.getElem?_eq_getElem hi,Option.map_some,Fld.Bm,Fld.Kd,Nb l[i].2 ((hl.2 _ (List.getElem_mem hi)).mono (by omega)),Val.Bh,O.Dn,O.Bl,Fld.D9,Aqs acc l[i] (by omega),O.Ah,O.Ap,hw,this,List.foldl_cons]
theorem Anc (l:List (ByteArray × Val)) (hl:Aaa 274877906944 l):W F8 0 [.list (l.map Fld.enc)]=some [.int 5,.int 0,.str Ay,.list [],.list ((Tj l).map Fld.enc)]:=by
 rw [Awb]
 have:=Tv l hl (.int 0) (.int 0) (.str ⟨#[]⟩) (.int 5) (.int 0) (.str ⟨#[]⟩) l.length 0 [] (by omega) (by simp)
 simp only [List.drop_zero,Int.cast_ofNat_Int,List.map_nil] at this
 exact this
theorem Nc (q:ByteArray × Val→Bool): ∀l:List (ByteArray × Val),Dw (l.filter q)≤Dw l
 | []=>by simp
 | p::l=>by
  have:=Nc q l
  rw [List.filter_cons]
  split
  ·rw [D2,D2];omega
  ·rw [D2];omega
def Sl (v:Val) (nm:ByteArray) (x:Val):Val:=⟨5,0,Ay,[],Tj (Gn v nm++ [(nm,x)])⟩
theorem Mz {N:Nat} {v:Val} (h:Gf N v) (nm:ByteArray):Aaa N (Gn v nm):=by
 unfold Gn
 split
 ·exact ⟨Nat.le_trans (List.length_filter_le _ _) h.Oe,fun p hp=>h.Sw (List.mem_filter.1 hp).1⟩
 ·exact ⟨Nat.zero_le _,by simp⟩
theorem Abm (v:Val) (nm:ByteArray) (hv:v.A3≤1099511627776):W Alm 0 [v.enc,.str nm]=some (J2 (v.get nm)):=Amw v nm (Es v (by omega))
end Go.CT.Sch
namespace Go.CT.Sch
open Go.Proofs
theorem Ug (v:Val) (hv:v.A3≤1099511627776) (ih: ∀p∈v.f,W V8 0 [p.2.enc]=some [.int p.2.size]): ∀ (n i c:Nat),i+n=v.f.length→c≤1099511627776→
  W V8 2 [.int c,.int i,v.enc]=some [.int ((c+Br (v.f.drop i):Nat):Int)]
 | 0,i,c,h,hc=>by
  rw [Qe]
  have h1: ¬ i<v.f.length:=by omega
  simp [h1,List.drop_of_length_le (Nat.le_of_not_lt h1),Br]
 | n+1,i,c,h,hc=>by
  have hi:i<v.f.length:=by omega
  have hm:=v.A7
  have hw:=Bf (i:=i) (by omega)
  have hs:=O9 (List.getElem_mem hi)
  have hsz:=v.H0
  rw [v.size_eq] at hsz
  have hd:Br (v.f.drop i)=v.f[i].2.size +Br (v.f.drop (i+1)):=by rw [List.drop_eq_getElem_cons hi];rfl
  have hw2:IntKind.i64.wrap ((c:Int)+(v.f[i].2.size :Nat))=((c+v.f[i].2.size :Nat):Int):=by rw [wrap64 (by omega) (by omega)];rfl
  rw [Qe]
  simp only [Val.Ch,Option.bind_some,O.An,List.length_map,O.Ak,Ao,hi,decide_true,O.Ab,if_true,O.Ai,Int.natCast_nonneg,Int.toNat_natCast,List.getElem?_map,List.getElem?_eq_getElem hi,Option.map_some,Fld.Kd,ih _ (List.getElem_mem hi),O.Ah,O.Ap,hw,hw2]
  by_cases hc2:c+v.f[i].2.size ≤1099511627776
  ·rw [Ug v hv ih n (i+1) _ (by omega) hc2,hd,Nat.add_assoc]
  ·-- larger sums: only the bound differs
   have key: ∀ (n i c:Nat),i+n=v.f.length→c+Br (v.f.drop i)≤4611686018427387904→W V8 2 [.int c,.int i,v.enc]=some [.int ((c+Br (v.f.drop i):Nat):Int)]:=by
    intro n
    induction n with
    | zero=>
     intro i c h _
     rw [Qe]
     have h1: ¬ i<v.f.length:=by omega
     simp [h1,List.drop_of_length_le (Nat.le_of_not_lt h1),Br]
    | succ n ihn=>
     intro i c h hc
     have hi:i<v.f.length:=by omega
     have hw:=Bf (i:=i) (by omega)
     have hd:Br (v.f.drop i)=v.f[i].2.size +Br (v.f.drop (i+1)):=by rw [List.drop_eq_getElem_cons hi];rfl
     have hw2:IntKind.i64.wrap ((c:Int)+(v.f[i].2.size :Nat))=((c+v.f[i].2.size :Nat):Int):=by rw [wrap64 (by omega) (by omega)];rfl
     rw [Qe]
     simp only [Val.Ch,Option.bind_some,O.An,List.length_map,O.Ak,Ao,hi,decide_true,O.Ab,if_true,O.Ai,Int.natCast_nonneg,Int.toNat_natCast,List.getElem?_map,List.getElem?_eq_getElem hi,Option.map_some,Fld.Kd,ih _ (List.getElem_mem hi),O.Ah,O.Ap,hw,hw2]
     rw [ihn (i+1) _ (by omega) (by omega),hd,Nat.add_assoc]
   have hsub:Br (v.f.drop (i+1))≤Br v.f:=by
    have:=List.take_append_drop (i+1) v.f
    have h2:=Na (v.f.take (i+1)) (v.f.drop (i+1))
    rw [this] at h2;omega
   rw [key n (i+1) _ (by omega) (by omega),hd,Nat.add_assoc]
theorem Tr (v:Val) (hv:v.A3≤1099511627776) (ih: ∀x∈v.l,W V8 0 [x.enc]=some [.int x.size]): ∀ (n i c:Nat),i+n=v.l.length→c+Cl (v.l.drop i)≤4611686018427387904→
  W V8 1 [.int c,.int i,v.enc]=W V8 2 [.int ((c+Cl (v.l.drop i):Nat):Int),.int 0,v.enc]
 | 0,i,c,h,hc=>by
  rw [Acr]
  have h1: ¬ i<v.l.length:=by omega
  simp [h1,List.drop_of_length_le (Nat.le_of_not_lt h1),Cl]
 | n+1,i,c,h,hc=>by
  have hi:i<v.l.length:=by omega
  have hm:=v.Ct
  have hw:=Bf (i:=i) (by omega)
  have hd:Cl (v.l.drop i)=v.l[i].size +Cl (v.l.drop (i+1)):=by rw [List.drop_eq_getElem_cons hi];rfl
  have hw2:IntKind.i64.wrap ((c:Int)+(v.l[i].size :Nat))=((c+v.l[i].size :Nat):Int):=by rw [wrap64 (by omega) (by omega)];rfl
  rw [Acr]
  simp only [Val.B7,Option.bind_some,O.An,List.length_map,O.Ak,Ao,hi,decide_true,O.Ab,if_true,O.Ai,Int.natCast_nonneg,Int.toNat_natCast,List.getElem?_map,List.getElem?_eq_getElem hi,Option.map_some,ih _ (List.getElem_mem hi),O.Ah,O.Ap,hw,hw2]
  rw [Tr v hv ih n (i+1) _ (by omega) (by omega),hd,Nat.add_assoc]
theorem Amz: ∀v:Val,v.A3≤1099511627776→W V8 0 [v.enc]=some [.int v.size]:=by
 refine Val.ind fun v ih1 ih2 hv=>?_
 have hsz:=v.H0
 have hs:=v.size_eq
 have h1:=Tr v hv (fun x hx=>ih1 x hx (by have:=Val.Ho hx;omega)) v.l.length 0 1 (by omega) (by simp only [List.drop_zero];omega)
 have h2:=Ug v hv (fun p hp=>ih2 p hp (by have:=Val.Dx hp;omega)) v.f.length 0 (1+Cl v.l) (by omega) (by omega)
 simp only [List.drop_zero,Int.cast_ofNat_Int] at h1 h2
 rw [Ane]
 have h1':W V8 1 [.int 1,.int 0,v.enc]=W V8 2 [.int ((1+Cl v.l:Nat):Int),.int 0,v.enc]:=h1
 rw [h1',h2,hs]
theorem Xt (v:Val) (hv:v.A3≤1099511627776):W Awr 0 [v.enc]=some [.bool v.valid]:=by
 rw [Amg]
 have h1:=R6 12 v (by omega) hv
 have h2:=Amz v hv
 simp only [Int.cast_ofNat_Int] at h1
 simp only [h1,h2,O.Ah,O.Ab,O.Dv,Option.bind_some,Val.valid]
 have:decide ((v.size:Int)≤600)=decide (v.size≤600):=by simp;omega
 cases Bo 12 v<;>simp [this]
theorem Sv (v:Val) (hv:v.A3≤1099511627776) (ih: ∀p∈v.f,∀c d:Int,c≤100000→ -1099511627776≤d→d≤100000→ ∃r:Int,W F4 0 [p.2.enc,.int c,.int d]=some [.int r]∧r≤100000) (d:Int) (hd: -1000000000000≤d∧d≤100000): ∀ (n i:Nat) (c:Int),i+n=v.f.length→c≤100000→
  ∃r:Int,W F4 2 [.int c,.int d,.int i,v.enc]=some [.int r]∧r≤100000
 | 0,i,c,h,hc=>by
  rw [Apg]
  have h1: ¬ i<v.f.length:=by omega
  exact ⟨c,by simp [h1],hc⟩
 | n+1,i,c,h,hc=>by
  have hi:i<v.f.length:=by omega
  have hm:=v.A7
  have hw:=Bf (i:=i) (by omega)
  have hw2:IntKind.i64.wrap (d - 1)=d - 1:=wrap64 (by omega) (by omega)
  obtain ⟨r,hr,hr2⟩:=ih _ (List.getElem_mem hi) c (d - 1) hc (by omega) (by omega)
  obtain ⟨r',hr',hr2'⟩:=Sv v hv ih d hd n (i+1) r (by omega) hr2
  rw [Apg]
  by_cases c1:0≤c
  ·by_cases c2:(1000:Int)<v.f[i].1.size
   ·exact ⟨-1,by simp [hi,c1,c2],by omega⟩
   ·exact ⟨r',by simp only [Val.Ch,Option.bind_some,O.An,List.length_map,O.Ak,Ao,hi,decide_true,O.Ab,if_true,O.Gj,c1,O.Ai,Int.natCast_nonneg,Int.toNat_natCast,List.getElem?_map,List.getElem?_eq_getElem hi,Option.map_some,Fld.Bm,O.Cm,O.Bu,c2,decide_false,Bool.false_eq_true,if_false,Fld.Kd,O.B6,hw2,hr,O.Ah,O.Ap,hw,hr'],hr2'⟩
  ·exact ⟨c,by simp [hi,c1],hc⟩
theorem Rj (v:Val) (hv:v.A3≤1099511627776) (ih: ∀x∈v.l,∀c d:Int,c≤100000→ -1099511627776≤d→d≤100000→ ∃r:Int,W F4 0 [x.enc,.int c,.int d]=some [.int r]∧r≤100000) (d:Int) (hd: -1000000000000≤d∧d≤100000): ∀ (n i:Nat) (c:Int),i+n=v.l.length→c≤100000→
  ∃r:Int,W F4 1 [.int c,.int d,.int i,v.enc]=W F4 2 [.int r,.int d,.int 0,v.enc]∧r≤100000
 | 0,i,c,h,hc=>by
  rw [Ape]
  have h1: ¬ i<v.l.length:=by omega
  exact ⟨c,by simp [h1],hc⟩
 | n+1,i,c,h,hc=>by
  have hi:i<v.l.length:=by omega
  have hm:=v.Ct
  have hw:=Bf (i:=i) (by omega)
  have hw2:IntKind.i64.wrap (d - 1)=d - 1:=wrap64 (by omega) (by omega)
  obtain ⟨r,hr,hr2⟩:=ih _ (List.getElem_mem hi) c (d - 1) hc (by omega) (by omega)
  obtain ⟨r',hr',hr2'⟩:=Rj v hv ih d hd n (i+1) r (by omega) hr2
  rw [Ape]
  by_cases c1:0≤c
  ·exact ⟨r',by simp only [Val.B7,Option.bind_some,O.An,List.length_map,O.Ak,Ao,hi,decide_true,O.Ab,if_true,O.Gj,c1,O.Ai,Int.natCast_nonneg,Int.toNat_natCast,List.getElem?_map,List.getElem?_eq_getElem hi,Option.map_some,O.B6,hw2,hr,O.Ah,O.Ap,hw,hr'],hr2'⟩
  ·exact ⟨c,by simp [hi,c1],hc⟩
theorem Ajn: ∀v:Val,v.A3≤1099511627776→ ∀c d:Int,c≤100000→ -1099511627776≤d→d≤100000→ ∃r:Int,W F4 0 [v.enc,.int c,.int d]=some [.int r]∧r≤100000:=by
 refine Val.ind fun v ih1 ih2 hv c d hc hd hd2=>?_
 rw [Awi]
 by_cases c1:c≤0
 ·exact ⟨-1,by simp [c1],by omega⟩
 ·by_cases c2:d≤0
  ·exact ⟨-1,by simp [c1,c2],by omega⟩
  ·by_cases c3:(1000:Int)<v.s.size
   ·exact ⟨-1,by simp [c1,c2,c3],by omega⟩
   ·have hw:IntKind.i64.wrap (c - 1)=c - 1:=wrap64 (by omega) (by omega)
    obtain ⟨r,h1,h2⟩:=Rj v hv (fun x hx=>ih1 x hx (by have:=Val.Ho hx;omega)) d (by omega) v.l.length 0 (c - 1) (by omega) (by omega)
    obtain ⟨r',h1',h2'⟩:=Sv v hv (fun p hp=>ih2 p hp (by have:=Val.Dx hp;omega)) d (by omega) v.f.length 0 r (by omega) h2
    simp only [Int.cast_ofNat_Int] at h1 h1'
    exact ⟨r',by simp [c1,c2,c3,hw,h1,h1'],h2'⟩
theorem Hr (a b:Bool):W Apq 0 [.bool a,.bool b]=some [.int (if a then -1 else if b then 1 else 0)]:=by
 rw [Amc];cases a<;>cases b<;>rfl
theorem Ajz (a b:Int):(if decide (a<b)=true then (-1:Int) else if decide (b<a)=true then 1 else 0)=0↔a=b:=by
 by_cases h1:a<b
 ·simp [h1];omega
 ·by_cases h2:b<a
  ·simp [h1,h2];omega
  ·simp [h1,h2];omega
theorem Ag4 (a b:ByteArray):(if blt a b=true then (-1:Int) else if blt b a=true then 1 else 0)=0↔a=b:=by
 rcases Iv a b with h | rfl | h
 ·simp [h];exact Q8 h
 ·simp [Di]
 ·have:=Nv h
  simp [h,this]
  exact fun e=>Q8 h e.symm
theorem Arz (a b:Val) (ha:Gf 1099511627776 a) (hb:Gf 1099511627776 b) (ih: ∀p∈a.f,∀y:Val,Gf 1099511627776 y→ ∃c:Int,W M4 0 [p.2.enc,y.enc]=some [.int c]∧(c=0↔p.2=y)): ∀ (n i:Nat) (c:Int),i+n=a.f.length→i≤b.f.length→
  ∃c':Int,W M4 5 [.int c,.int i,a.enc,b.enc]=some [.int c']∧(c'=0↔c=0∧a.f.drop i=b.f.drop i)
 | n,i,c,h,hib=>by
  have hma:=ha.Oe
  have hmb:=hb.Oe
  rw [Am4]
  by_cases hc:c=0
  ·subst hc
   by_cases h1:i<a.f.length
   ·by_cases h2:i<b.f.length
    ·obtain ⟨m,rfl⟩: ∃m,n=m+1:=⟨n - 1,by omega⟩
     have hw:=Bf (i:=i) (by omega)
     have hmem:=List.getElem_mem h2
     obtain ⟨c1,q1,q2⟩:=ih _ (List.getElem_mem h1) b.f[i].2 (hb.Sw hmem)
     have hn:=Ag4 a.f[i].1 b.f[i].1
     have hd:(a.f.drop i=b.f.drop i)↔(a.f[i].1 =b.f[i].1 ∧a.f[i].2 =b.f[i].2 ∧a.f.drop (i+1)=b.f.drop (i+1)):=by
      rw [List.drop_eq_getElem_cons h1,List.drop_eq_getElem_cons h2]
      simp only [List.cons.injEq,Prod.ext_iff,and_assoc]
     simp only [Val.Ch,Option.bind_some,O.An,List.length_map,O.Ak,Ao,h1,h2,decide_true,O.Ab,if_true,O.eq_int,O.Ai,Int.natCast_nonneg,Int.toNat_natCast,List.getElem?_map,List.getElem?_eq_getElem h1,List.getElem?_eq_getElem h2,Option.map_some,Fld.Bm,Fld.Kd,Aj7,Aja,Hr,O.Ah,hd]
     generalize (if blt a.f[i].1 b.f[i].1 =true then (-1:Int) else if blt b.f[i].1 a.f[i].1 =true then 1 else 0)=o at hn
     by_cases ho:o=0
     ·obtain ⟨c',r1,r2⟩:=Arz a b ha hb ih m (i+1) c1 (by omega) (by omega)
      refine ⟨c',by simp only [ho,decide_true,if_true,q1,O.Ah,Acs,O.Ap,hw,Option.bind_some,r1],?_⟩
      rw [r2,q2]
      have:=hn.1 ho
      simp [this]
     ·obtain ⟨c',r1,r2⟩:=Arz a b ha hb ih m (i+1) o (by omega) (by omega)
      refine ⟨c',by simp only [ho,decide_false,Bool.false_eq_true,if_false,Acs,O.Ap,hw,Option.bind_some,r1],?_⟩
      rw [r2]
      have: ¬ a.f[i].1 =b.f[i].1 :=fun e=>ho (hn.2 e)
      simp [ho,this]
    ·have hi:i=b.f.length:=by omega
     have hne: ¬ a.f.length=b.f.length:=by omega
     refine ⟨1,?_,by
      have: ¬ a.f.drop i=b.f.drop i:=fun e=>by
       have:=congrArg List.length e
       simp at this;omega
      simp [this]⟩
     have g1: ¬ (a.f.length:Int)<b.f.length:=by omega
     have g2:(b.f.length:Int)<a.f.length:=by omega
     simp [h1,h2,g1,g2,Hr]
   ·have hi:i=a.f.length:=by omega
    refine ⟨_,by simp only [Val.Ch,Option.bind_some,O.An,List.length_map,O.Ak,Ao,h1,decide_false,O.Ab,Bool.false_eq_true,if_false,O.eq_int,decide_true,if_true,Hr,O.Ah,O.Bu];rfl,?_⟩
    have e1:a.f.drop i= []:=List.drop_of_length_le (by omega)
    rw [e1]
    by_cases g:a.f.length=b.f.length
    ·have:b.f.drop i= []:=List.drop_of_length_le (by omega)
     simp [g,this]
    ·have g2:a.f.length<b.f.length:=by omega
     have: ¬ []=b.f.drop i:=fun e=>by
      have:=congrArg List.length e
      simp at this;omega
     simp [g2,this]
  ·refine ⟨c,?_,by simp [hc]⟩
   by_cases h1:i<a.f.length<;>by_cases h2:i<b.f.length<;>simp [h1,h2,hc]
theorem Avr (a b:Val) (ha:Gf 1099511627776 a) (hb:Gf 1099511627776 b) (ih: ∀x∈a.l,∀y:Val,Gf 1099511627776 y→ ∃c:Int,W M4 0 [x.enc,y.enc]=some [.int c]∧(c=0↔x=y)): ∀ (n i:Nat) (c:Int),i+n=a.l.length→i≤b.l.length→
  ∃c':Int,W M4 3 [.int c,.int i,a.enc,b.enc]=W M4 4 [.int c',a.enc,b.enc]∧(c'=0↔c=0∧a.l.drop i=b.l.drop i)
 | n,i,c,h,hib=>by
  have hma:=ha.Xj
  have hmb:=hb.Xj
  rw [Am1]
  by_cases hc:c=0
  ·subst hc
   by_cases h1:i<a.l.length
   ·by_cases h2:i<b.l.length
    ·obtain ⟨m,rfl⟩: ∃m,n=m+1:=⟨n - 1,by omega⟩
     have hw:=Bf (i:=i) (by omega)
     obtain ⟨c1,q1,q2⟩:=ih _ (List.getElem_mem h1) b.l[i] (hb.Afr (List.getElem_mem h2))
     have hd:(a.l.drop i=b.l.drop i)↔(a.l[i]=b.l[i]∧a.l.drop (i+1)=b.l.drop (i+1)):=by
      rw [List.drop_eq_getElem_cons h1,List.drop_eq_getElem_cons h2]
      simp only [List.cons.injEq]
     obtain ⟨c',r1,r2⟩:=Avr a b ha hb ih m (i+1) c1 (by omega) (by omega)
     refine ⟨c',by simp only [Val.B7,Option.bind_some,O.An,List.length_map,O.Ak,Ao,h1,h2,decide_true,O.Ab,if_true,O.eq_int,O.Ai,Int.natCast_nonneg,Int.toNat_natCast,List.getElem?_map,List.getElem?_eq_getElem h1,List.getElem?_eq_getElem h2,Option.map_some,q1,O.Ah,O.Ap,hw,r1],?_⟩
     rw [r2,q2,hd];simp
    ·refine ⟨1,?_,by
      have: ¬ a.l.drop i=b.l.drop i:=fun e=>by
       have:=congrArg List.length e
       simp at this;omega
      simp [this]⟩
     have g1: ¬ (a.l.length:Int)<b.l.length:=by omega
     have g2:(b.l.length:Int)<a.l.length:=by omega
     simp [h1,h2,g1,g2,Hr]
   ·have hi:i=a.l.length:=by omega
    refine ⟨_,by simp only [Val.B7,Option.bind_some,O.An,List.length_map,O.Ak,Ao,h1,decide_false,O.Ab,Bool.false_eq_true,if_false,O.eq_int,decide_true,if_true,Hr,O.Ah,O.Bu];rfl,?_⟩
    have e1:a.l.drop i= []:=List.drop_of_length_le (by omega)
    rw [e1]
    by_cases g:a.l.length=b.l.length
    ·have:b.l.drop i= []:=List.drop_of_length_le (by omega)
     simp [g,this]
    ·have g2:a.l.length<b.l.length:=by omega
     have: ¬ []=b.l.drop i:=fun e=>by
      have:=congrArg List.length e
      simp at this;omega
     simp [g2,this]
  ·refine ⟨c,?_,by simp [hc]⟩
   by_cases h1:i<a.l.length<;>by_cases h2:i<b.l.length<;>simp [h1,h2,hc]
theorem Ank: ∀a:Val,Gf 1099511627776 a→ ∀b:Val,Gf 1099511627776 b→ ∃c:Int,W M4 0 [a.enc,b.enc]=some [.int c]∧(c=0↔a=b):=by
 refine Val.ind fun a ih1 ih2 ha b hb=>?_
 have h3:=fun c=>Avr a b ha hb (fun x hx=>ih1 x hx (ha.Afr hx)) a.l.length 0 c (by omega) (Nat.zero_le _)
 have h5:=fun c=>Arz a b ha hb (fun p hp=>ih2 p hp (ha.Sw hp)) a.f.length 0 c (by omega) (Nat.zero_le _)
 simp only [List.drop_zero,Int.cast_ofNat_Int] at h3 h5
 have hab:a=b↔a.k=b.k∧a.n=b.n∧a.s=b.s∧a.l=b.l∧a.f=b.f:=by
  cases a;cases b;simp
 -- from the lists on
 have rest: ∀c:Int,∃c':Int,W M4 2 [.int c,a.enc,b.enc]=some [.int c']∧(c'=0↔c=0∧a.l=b.l∧a.f=b.f):=by
  intro c
  obtain ⟨c1,q1,q2⟩:=h3 c
  obtain ⟨c2,r1,r2⟩:=h5 c1
  refine ⟨c2,by rw [Am5,q1,Am3,r1],by rw [r2,q2,and_assoc]⟩
 have text: ∀c:Int,∃c':Int,W M4 1 [.int c,a.enc,b.enc]=some [.int c']∧(c'=0↔c=0∧a.s=b.s∧a.l=b.l∧a.f=b.f):=by
  intro c
  rw [Amk]
  by_cases hc:c=0
  ·have hs:=Ag4 a.s b.s
   obtain ⟨c',q1,q2⟩:=rest (if blt a.s b.s=true then (-1:Int) else if blt b.s a.s=true then 1 else 0)
   refine ⟨c',by simp only [O.eq_int,hc,decide_true,Option.bind_some,O.Ab,if_true,Val.Dy,Aj7,Aja,Hr,O.Ah,q1],?_⟩
   rw [q2,hs];simp [hc]
  ·obtain ⟨c',q1,q2⟩:=rest c
   refine ⟨c',by simp only [O.eq_int,hc,decide_false,Option.bind_some,O.Ab,Bool.false_eq_true,if_false,q1],?_⟩
   rw [q2];simp [hc]
 rw [Am8]
 have hk:=Ajz a.k b.k
 have hn:=Ajz a.n b.n
 simp only [Val.Bm,Val.Db,Option.bind_some,O.Ak,O.Bu,Hr,O.Ah,O.eq_int,O.Ab]
 generalize (if decide (a.k<b.k)=true then (-1:Int) else if decide (b.k<a.k)=true then 1 else 0)=o at hk
 generalize (if decide (a.n<b.n)=true then (-1:Int) else if decide (b.n<a.n)=true then 1 else 0)=o2 at hn
 by_cases ho:o=0
 ·obtain ⟨c',q1,q2⟩:=text o2
  refine ⟨c',by simp only [ho,decide_true,if_true,q1],?_⟩
  rw [q2,hn,hab]
  have:=hk.1 ho
  simp [this]
 ·obtain ⟨c',q1,q2⟩:=text o
  refine ⟨c',by simp only [ho,decide_false,Bool.false_eq_true,if_false,q1],?_⟩
  rw [q2,hab]
  have: ¬ a.k=b.k:=fun e=>ho (hk.2 e)
  simp [ho,this]
open Classical in
theorem Uo (a b:Val) (ha:Gf 1099511627776 a) (hb:Gf 1099511627776 b):W Awp 0 [a.enc,b.enc]=some [.bool (decide (a=b))]:=by
 obtain ⟨c,h1,h2⟩:=Ank a ha b hb
 rw [An4]
 simp only [h1,O.Ah,O.eq_int,Option.bind_some]
 congr 3
 simp only [h2]
end Go.CT.Sch
namespace Go.CT.Sch
open Go.Proofs
def Aln (x y:ByteArray × Val):Bool:=blt x.1 y.1
theorem cmpB: ∀ (a b:List UInt8),decide (Lib.compareBytes a b<0)=Op.bytesLess a b
 | [],[]=>rfl
 | [],_::_=>by simp [Lib.compareBytes,Op.bytesLess]
 | _::_,[]=>by simp [Lib.compareBytes,Op.bytesLess]
 | a::x,b::y=>by
  simp only [Lib.compareBytes,Op.bytesLess]
  by_cases h1:a<b
  ·simp [h1]
  ·by_cases h2:b<a
   ·have: ¬ a=b:=fun e=>by subst e;exact h1 h2
    simp [h1,h2,this]
   ·have:a=b:=by
     have h1': ¬ a.toNat<b.toNat:=fun h=>h1 (UInt8.lt_iff_toNat_lt.2 h)
     have h2': ¬ b.toNat<a.toNat:=fun h=>h2 (UInt8.lt_iff_toNat_lt.2 h)
     exact UInt8.toNat_inj.1 (by omega)
    subst this
    simp [h1,cmpB x y]
theorem fcmp (x y:ByteArray × Val): ∃c:Int,W F39 0 [Fld.enc x,Fld.enc y]=some [.int c]∧(decide (c<0)=Aln x y):=by
 refine ⟨Lib.compareBytes x.1.data.toList y.1.data.toList,?_,cmpB _ _⟩
 rw [Ar4]
 simp [Asz,Aql,Axs,O.Od]
theorem ford:Srt.Ord Aln where
 irr x:=Di _
 tr x y z h k:=I3 h k
 neg x y z h:=by
  rcases Iv x.1 y.1 with h1 | h1 | h1
  ·exact .inl h1
  ·right;unfold Aln at h ⊢;rw [←h1];exact h
  ·right;exact I3 h1 h
noncomputable def feqs:Srt.Eqs Fld.enc Aln 6 true where
 S b xs:=W F36 b xs
 B b xs:=W F37 b xs
 I b xs:=W F38 b xs
 M b xs:=W F43 b xs
 R b xs:=W F44 b xs
 X b xs:=W F45 b xs
 C xs:=W F39 0 xs
 cmp:=fcmp
 s0:=by intros;exact Ax rfl (by kernel_rfl)
 b0:=by intros;exact Ax rfl (by kernel_rfl)
 b1:=by intros;exact Ax rfl (by kernel_rfl)
 b2:=by intros;exact Ax rfl (by kernel_rfl)
 b3:=by intros;exact Ax rfl (by kernel_rfl)
 b4:=by intros;exact Ax rfl (by kernel_rfl)
 i0:=by intros;exact Ax rfl (by kernel_rfl)
 i1:=by intros;exact Ax rfl (by kernel_rfl)
 i2:=by intros;exact Ax rfl (by kernel_rfl)
 x0:=by intros;exact Ax rfl (by kernel_rfl)
 x1:=by intros;exact Ax rfl (by kernel_rfl)
 r0:=by intros;exact Ax rfl (by kernel_rfl)
 r1:=by intros;exact Ax rfl (by kernel_rfl)
 r2:=by intros;exact Ax rfl (by kernel_rfl)
 m0:=by intros;exact Ax rfl (by kernel_rfl)
 m1:=by intros;exact Ax rfl (by kernel_rfl)
 m2:=by intros;exact Ax rfl (by kernel_rfl)
 m3:=by intros;exact Ax rfl (by kernel_rfl)
 m4:=by intros;exact Ax rfl (by kernel_rfl)
 m5:=by intros;exact Ax rfl (by kernel_rfl)
 m6:=by intros;exact Ax rfl (by kernel_rfl)
 m7:=by intros;exact Ax rfl (by kernel_rfl)
 m8:=by intros;exact Ax rfl (by kernel_rfl)
 m9:=by intros;exact Ax rfl (by kernel_rfl)
 m10:=by intros;exact Ax rfl (by kernel_rfl)
 m11:=by intros;exact Ax rfl (by kernel_rfl)
end Go.CT.Sch
namespace Go.CT.Sch
open Go.Proofs
theorem Gq {l:List IV} (h:l.length≤1073741824):O.K5 [.list l]=some [.list l]:=if_pos h
theorem Ps (v:Val) (hv:Gf 1073741824 v) (y2 y3 y4 y5 y6 y7 y9:IV) (ih: ∀p∈v.f,W F46 0 [p.2.enc]=some p.2.Gv): ∀ (n i:Nat),i+n=v.f.length→
  W F46 2 [.int v.f.length,.int i,y2,y3,y4,y5,y6,y7,.list (v.f.map Fld.enc),y9]=some [y2,y3,y4,y9,.list (v.f.map Fld.enc)]
 | 0,i,h=>by
  rw [Ag7]
  have h1: ¬ i<v.f.length:=by omega
  simp only [O.Ak,Ao,h1,decide_false,Option.bind_some,O.Ab,Bool.false_eq_true,if_false]
 | n+1,i,h=>by
  have hi:i<v.f.length:=by omega
  have hm:=hv.Oe
  have hw:=Bf (i:=i) (by omega)
  have:=Ps v hv y2 y3 y4 y5 y6 y7 y9 ih n (i+1) (by omega)
  have hset:O.setAt 1 5 true false (.list (v.f.map Fld.enc)) (.int i) v.f[i].2.enc =some (.list (v.f.map Fld.enc)):=by
   have hg:(v.f.map Fld.enc)[i]?=some (Fld.enc v.f[i]):=by rw [List.getElem?_map,List.getElem?_eq_getElem hi];rfl
   have hs:(v.f.map Fld.enc).set i (Fld.enc v.f[i])=v.f.map Fld.enc:=by
    rw [←List.map_set,List.set_getElem_self]
   unfold O.setAt
   simp only [Prim.ev,Int.natCast_nonneg,if_true,Int.toNat_natCast,hg,Bool.false_eq_true,if_false]
   rw [v.f[i].2.Dr]
   simp only [Fld.enc]
   have hl:v.f[i].2.Gv.length =5:=rfl
   simp only [hl,if_true]
   congr 2
  rw [Ag7]
  simp only [O.Ak,Ao,hi,decide_true,Option.bind_some,O.Ab,if_true,O.Ai,Int.natCast_nonneg,Int.toNat_natCast,List.getElem?_map,List.getElem?_eq_getElem hi,Option.map_some,Fld.Kd,ih _ (List.getElem_mem hi),Val.Bh,O.Dn,O.Bl,Val.D9,hset,O.Ap,hw,this]
theorem Pj (v:Val) (hv:Gf 1073741824 v) (y2 y3 y4 y6 y7 y8:IV) (ih: ∀x∈v.l,W F46 0 [x.enc]=some x.Gv): ∀ (n i:Nat),i+n=v.l.length→
  W F46 1 [.int v.l.length,.int i,y2,y3,y4,.list (v.f.map Fld.enc),y6,y7,y8,.list (v.l.map Val.enc)]=W F46 2 [.int v.f.length,.int (0:Nat),y2,y3,y4,y6,y7,y8,.list (v.f.map Fld.enc),.list (v.l.map Val.enc)]
 | 0,i,h=>by
  rw [Ajs]
  have h1: ¬ i<v.l.length:=by omega
  have h6:=hv.Oe
  have hc:(v.f.map Fld.enc).length ≤1073741824:=by rw [List.length_map];omega
  simp only [O.Ak,Ao,h1,decide_false,Option.bind_some,O.Ab,Bool.false_eq_true,if_false,Asx,Gq hc,O.Ah,O.An,List.length_map]
  rfl
 | n+1,i,h=>by
  have hi:i<v.l.length:=by omega
  have hm:=hv.Xj
  have hw:=Bf (i:=i) (by omega)
  have:=Pj v hv y2 y3 y4 y6 y7 y8 ih n (i+1) (by omega)
  have hset:O.setAt 0 5 true true (.list (v.l.map Val.enc)) (.int i) v.l[i].enc =some (.list (v.l.map Val.enc)):=by
   rw [show (IV.list (v.l.map Val.enc))=Srt.LE Val.enc v.l from rfl,Srt.Alo Val.enc hi,List.set_getElem_self]
  rw [Ajs]
  simp only [O.Ak,Ao,hi,decide_true,Option.bind_some,O.Ab,if_true,O.Ai,Int.natCast_nonneg,Int.toNat_natCast,List.getElem?_map,List.getElem?_eq_getElem hi,Option.map_some,ih _ (List.getElem_mem hi),Val.Bh,O.Dn,O.Bl,Val.D9,hset,O.Ap,hw,this]
theorem O6: ∀v:Val,Gf 1073741824 v→W F46 0 [v.enc]=some v.Gv:=by
 refine Val.ind fun v ih1 ih2 hv=>?_
 have h1:=Pj v hv (.int v.k) (.int v.n) (.str v.s) (.int 0) (.int 0) (.str ⟨#[]⟩) (fun x hx=>ih1 x hx (hv.Afr hx)) v.l.length 0 (by omega)
 have h2:=Ps v hv (.int v.k) (.int v.n) (.str v.s) (.int 0) (.int 0) (.str ⟨#[]⟩) (.list (v.l.map Val.enc)) (fun p hp=>ih2 p hp (hv.Sw hp)) v.f.length 0 (by omega)
 rw [h2] at h1
 rw [Aug]
 have h6:=hv.Xj
 have hc:(v.l.map Val.enc).length ≤1073741824:=by rw [List.length_map];omega
 simp only [Val.Bm,Val.Db,Val.Dy,Val.B7,Val.Ch,Option.bind_some,Axb,Gq hc,O.Ah,O.An,List.length_map]
 rw [Val.Bh]
 exact h1
theorem Ah4 (l:List Val) (hl:l.length≤1073741824) (hl2: ∀x∈l,Gf 1073741824 x):W F98 0 [.list (l.map Val.enc)]=some (Val.Gv ⟨4,0,Ay,l,[]⟩):=by
 rw [Atf]
 have h:=O6 ⟨4,0,Ay,l,[]⟩ (.mk _ hl (Nat.zero_le _) hl2 (by simp))
 have e:IV.agg [.int 4,.int 0,.str ⟨#[]⟩,.list (l.map Val.enc),.list []]=Val.enc ⟨4,0,Ay,l,[]⟩:=by
  rw [←Val.fold];rfl
 simp only [O.Bl,Option.bind_some,e,h,Val.Bh,O.Dn]
theorem Uz (v:Val) (nm:ByteArray) (hv:Gf 1073741824 v) (y4 y5 y6:IV): ∀ (n i:Nat),i+n=v.f.length→
  W F73 1 [.str nm,.list (v.f.map Fld.enc),.int v.f.length,.int i,y4,y5,y6]=some (J2 (((v.f.drop i).find? fun p=>decide (p.1=nm)).map (·.2)))
 | 0,i,h=>by
  rw [Aij]
  have h1: ¬ i<v.f.length:=by omega
  simp [h1,List.drop_of_length_le (Nat.le_of_not_lt h1),J2,Bi,Ay]
 | n+1,i,h=>by
  have hi:i<v.f.length:=by omega
  have hm:=hv.Oe
  have hw:=Bf (i:=i) (by omega)
  have:=Uz v nm hv y4 y5 y6 n (i+1) (by omega)
  have hmem:=List.getElem_mem hi
  rw [Aij,List.drop_eq_getElem_cons hi]
  simp only [O.Ak,Ao,hi,decide_true,Option.bind_some,O.Ab,if_true,O.Ai,Int.natCast_nonneg,Int.toNat_natCast,List.getElem?_map,List.getElem?_eq_getElem hi,Option.map_some,Fld.Bm,Fld.Kd,O.Eg,O6 v.f[i].2 (hv.Sw hmem),Val.Bh,O.Dn,O.Ap,hw,this,List.find?_cons]
  by_cases c:v.f[i].1 =nm
  ·simp [c,J2]
  ·have c':decide (v.f[i].1 =nm)=false:=by simpa using c
   simp only [c,c',decide_false,Bool.false_eq_true,if_false]
theorem Alw (v:Val) (nm:ByteArray) (hv:Gf 1073741824 v):W F73 0 [v.enc,.str nm]=some (J2 (v.get nm)):=by
 rw [Aqt]
 unfold Val.get
 have:=Uz v nm hv (.int 0) (.int 0) (.str ⟨#[]⟩) v.f.length 0 (by omega)
 simp only [List.drop_zero,Int.cast_ofNat_Int] at this
 simp only [Val.Bm,Val.Ch,Option.bind_some,O.eq_int,O.Ab,O.An,List.length_map,this]
 by_cases c:v.k=5<;>simp [c,J2,Bi,Ay]
end Go.CT.Sch
namespace Go.CT.Sch
open Go.Proofs
def E6 (nm:ByteArray) (p:ByteArray × Val):Bool:= !decide (p.1=nm)
def dedup:List (ByteArray × Val)→List (ByteArray × Val)
 | []=> []
 | [p]=> [p]
 | p::q::r=>if q.1=p.1 then dedup (q::r) else p::dedup (q::r)
def J7 (l:List (ByteArray × Val)):Prop:=l.Pairwise fun a b=>blt a.1 b.1=true
def isName (nm:ByteArray) (p:ByteArray × Val):Bool:=decide (p.1=nm)
def look (nm:ByteArray) (l:List (ByteArray × Val)):Option (ByteArray × Val):=(l.filter (isName nm)).getLast?
theorem Sx: ∀ (l:List (ByteArray × Val)) (p:ByteArray × Val),p∈dedup l→p∈l
 | [],p,h=>h
 | [_],p,h=>h
 | a::b::r,p,h=>by
  simp only [dedup] at h
  split at h
  ·exact List.mem_cons_of_mem _ (Sx (b::r) p h)
  ·rcases List.mem_cons.1 h with rfl | h
   ·simp
   ·exact List.mem_cons_of_mem _ (Sx (b::r) p h)
theorem Z6 {x y:ByteArray} (h:blt y x=false) (hne: ¬ y=x):blt x y=true:=by
 rcases Iv x y with h1 | h1 | h1
 ·exact h1
 ·exact absurd h1.symm hne
 ·rw [h] at h1;cases h1
theorem Za {x y z:ByteArray} (h:blt x y=true) (h2:blt z y=false):blt x z=true:=by
 rcases Iv y z with h1 | h1 | h1
 ·exact I3 h h1
 ·rw [←h1];exact h
 ·rw [h2] at h1;cases h1
theorem Pv: ∀l:List (ByteArray × Val),Srt.Bw Aln l→J7 (dedup l)
 | [],_=>List.Pairwise.nil
 | [_],_=>List.pairwise_singleton _ _
 | a::b::r,h=>by
  have h1:=List.pairwise_cons.1 h
  have ih:=Pv (b::r) h1.2
  simp only [dedup]
  split
  ·exact ih
  ·next hne=>
   refine List.pairwise_cons.2 ⟨fun y hy=>?_,ih⟩
   have hab:blt a.1 b.1=true:=Z6 (h1.1 b (by simp)) hne
   rcases List.mem_cons.1 (Sx _ _ hy) with rfl | hy
   ·exact hab
   ·exact Za hab ((List.pairwise_cons.1 h1.2).1 y hy)
theorem Kn (nm:ByteArray) (p:ByteArray × Val) (l:List (ByteArray × Val)):look nm (p::l)=(look nm l).or (if p.1=nm then some p else none):=by
 unfold look
 rw [List.filter_cons]
 by_cases c:p.1=nm
 ·rw [if_pos (by simp [isName,c]),if_pos c]
  generalize l.filter (isName nm)=m
  cases m with
  | nil=>rfl
  | cons b r=>
   rw [List.getLast?_cons_cons]
   cases h:(b::r).getLast? with
   | none=>simp at h
   | some x=>rfl
 ·rw [if_neg (by simp [isName,c]),if_neg c,Option.or_none]
theorem T8 (nm:ByteArray): ∀l:List (ByteArray × Val),look nm (dedup l)=look nm l
 | []=>rfl
 | [_]=>rfl
 | a::b::r=>by
  have ih:=T8 nm (b::r)
  simp only [dedup]
  split
  ·next e=>
   rw [ih,Kn nm a (b::r),Kn nm b r]
   by_cases c:b.1=nm
   ·have c2:a.1=nm:=by rw [←e];exact c
    simp only [c,c2,if_true]
    cases look nm r<;>rfl
   ·have c2: ¬ a.1=nm:=by rw [←e];exact c
    simp only [c2,if_false,Option.or_none]
  ·rw [Kn nm a,ih,Kn nm a]
theorem Ow {l:List (ByteArray × Val)} (h:J7 l) (p:ByteArray × Val):p∈l↔look p.1 l=some p:=by
 induction l with
 | nil=>simp [look]
 | cons a l ih=>
  have h1:=List.pairwise_cons.1 h
  rw [Kn,List.mem_cons,ih h1.2]
  by_cases c:a.1=p.1
  ·have hn:look p.1 l=none:=by
    unfold look
    rw [List.getLast?_eq_none_iff,List.filter_eq_nil_iff]
    intro y hy hy2
    simp only [isName,decide_eq_true_eq] at hy2
    have:=h1.1 y hy
    rw [c,hy2,Di] at this
    cases this
   simp [hn,c,eq_comm]
  ·have: ¬ p=a:=fun e=>c (by rw [e])
   simp [c,this]
theorem Afw {a b:List (ByteArray × Val)} (ha:J7 a) (hb:J7 b) (h: ∀p,p∈a↔p∈b):a=b:=by
 induction a generalizing b with
 | nil=>
  cases b with
  | nil=>rfl
  | cons y b=>have:=(h y).2 (by simp);simp at this
 | cons x a ih=>
  cases b with
  | nil=>have:=(h x).1 (by simp);simp at this
  | cons y b=>
   have ha':=List.pairwise_cons.1 ha
   have hb':=List.pairwise_cons.1 hb
   have hxy:x=y:=by
    rcases List.mem_cons.1 ((h x).1 (by simp)) with e | hx
    ·exact e
    ·rcases List.mem_cons.1 ((h y).2 (by simp)) with e | hy
     ·exact e.symm
     ·have h1:=hb'.1 x hx
      have h2:=ha'.1 y hy
      rw [Nv h1] at h2;cases h2
   subst hxy
   rw [ih ha'.2 hb'.2]
   intro p
   have:=h p
   simp only [List.mem_cons] at this
   constructor
   ·intro hp
    rcases this.1 (.inr hp) with rfl | h
    ·have:=ha'.1 p hp;rw [Di] at this;cases this
    ·exact h
   ·intro hp
    rcases this.2 (.inr hp) with rfl | h
    ·have:=hb'.1 p hp;rw [Di] at this;cases this
    ·exact h
theorem J8 {a b:List (ByteArray × Val)} (ha:J7 a) (hb:J7 b) (h: ∀nm,look nm a=look nm b):a=b:=
 Afw ha hb fun p=>by rw [Ow ha,Ow hb,h]
theorem Zz (p:ByteArray × Val): ∀l,K7 p true l=l.filter (E6 p.1)
 | []=>rfl
 | x::xs=>by
  simp only [K7,Bool.not_true,Bool.false_and,Bool.false_eq_true,if_false,List.nil_append,Bool.true_or,Zz p xs,List.filter_cons,E6]
  by_cases c:x.1=p.1<;>simp [c]
theorem Vs (p x:ByteArray × Val) (xs:List (ByteArray × Val)) (h:blt x.1 p.1=false):K7 p false (x::xs)=p::(x::xs).filter (E6 p.1):=by
 simp only [K7,h,Bool.not_false,Bool.and_self,if_true,Bool.or_true,Zz,List.filter_cons,E6]
 by_cases c:x.1=p.1<;>simp [c]
theorem Wq (p x:ByteArray × Val) (xs:List (ByteArray × Val)) (h:blt x.1 p.1=true):K7 p false (x::xs)=x::K7 p false xs:=by
 have hne: ¬ x.1=p.1:=Q8 h
 simp [K7,h,hne]
theorem Aey (p:ByteArray × Val): ∀ (l:List (ByteArray × Val)) (y:ByteArray × Val),y∈K7 p false l→y=p∨y∈l
 | [],y,h=>by simp [K7] at h;exact .inl h
 | x::xs,y,h=>by
  cases hb:blt x.1 p.1 with
  | true=>
   rw [Wq p x xs hb] at h
   rcases List.mem_cons.1 h with rfl | h
   ·simp
   ·rcases Aey p xs y h with h | h
    ·exact .inl h
    ·exact .inr (List.mem_cons_of_mem _ h)
  | false=>
   rw [Vs p x xs hb] at h
   rcases List.mem_cons.1 h with rfl | h
   ·simp
   ·exact .inr (List.mem_filter.1 h).1
theorem Q0 (p:ByteArray × Val): ∀l:List (ByteArray × Val),J7 l→J7 (K7 p false l)
 | [],_=>List.pairwise_singleton _ _
 | x::xs,h=>by
  have h1:=List.pairwise_cons.1 h
  cases hb:blt x.1 p.1 with
  | true=>
   rw [Wq p x xs hb]
   refine List.pairwise_cons.2 ⟨fun y hy=>?_,Q0 p xs h1.2⟩
   rcases Aey p xs y hy with rfl | hy
   ·exact hb
   ·exact h1.1 y hy
  | false=>
   rw [Vs p x xs hb]
   refine List.pairwise_cons.2 ⟨fun y hy=>?_,h.sublist List.filter_sublist⟩
   obtain ⟨hy,hn⟩:=List.mem_filter.1 hy
   have hne: ¬ y.1=p.1:=by simpa [E6] using hn
   refine Z6 ?_ hne
   rcases List.mem_cons.1 hy with rfl | hy
   ·exact hb
   ·cases hc:blt y.1 p.1 with
    | false=>rfl
    | true=>have:=I3 (h1.1 y hy) hc;rw [hb] at this;cases this
theorem Sy (p:ByteArray × Val) (nm:ByteArray): ∀l:List (ByteArray × Val),(K7 p false l).filter (isName nm)=if p.1=nm then [p] else l.filter (isName nm)
 | []=>by by_cases c:p.1=nm<;>simp [K7,isName,c]
 | x::xs=>by
  cases hb:blt x.1 p.1 with
  | true=>
   have hne:=Q8 hb
   rw [Wq p x xs hb,List.filter_cons,Sy p nm xs,List.filter_cons]
   by_cases c:p.1=nm
   ·have: ¬ x.1=nm:=by rw [←c];exact hne
    simp [c,isName,this]
   ·simp [c]
  | false=>
   rw [Vs p x xs hb,List.filter_cons,List.filter_filter]
   by_cases c:p.1=nm
   ·rw [if_pos (by simp [isName,c]),if_pos c]
    congr 1
    rw [List.filter_eq_nil_iff]
    intro y _ hy
    simp [E6,isName,c] at hy
   ·rw [if_neg (by simp [isName,c]),if_neg c]
    refine List.filter_congr fun y _=>?_
    by_cases d:y.1=nm
    ·have: ¬ nm=p.1:=fun e=>c e.symm
     simp [E6,isName,d,this]
    ·simp [isName,d]
theorem Sd (l:List (ByteArray × Val)) (p:ByteArray × Val):Tj (l++ [p])=K7 p false (Tj l):=by
 unfold Tj;rw [List.foldl_append];rfl
theorem Ve (l:List (ByteArray × Val)): ∀n,l.length=n→J7 (Tj l)∧ ∀nm,look nm (Tj l)=look nm l:=by
 intro n
 induction n generalizing l with
 | zero=>intro h;have:=List.length_eq_zero_iff.1 h;subst this;exact ⟨List.Pairwise.nil,fun _=>rfl⟩
 | succ n ih=>
  intro h
  rcases Srt.Ek l with rfl | ⟨l0,p,rfl⟩
  ·simp at h
  ·obtain ⟨h1,h2⟩:=ih l0 (by simpa using h)
   rw [Sd]
   refine ⟨Q0 p _ h1,fun nm=>?_⟩
   unfold look
   rw [Sy,List.filter_append]
   by_cases c:p.1=nm
   ·simp [c,isName]
   ·have:=h2 nm
    unfold look at this
    simp [c,isName] at this ⊢
    exact this
theorem Mt (l:List (ByteArray × Val)):J7 (Tj l):=(Ve l _ rfl).1
theorem Sp (nm:ByteArray) (l:List (ByteArray × Val)):look nm (Tj l)=look nm l:=(Ve l _ rfl).2 nm
theorem Asp {l:List (ByteArray × Val)} (h:J7 l):Tj l=l:=J8 (Mt l) h fun nm=>Sp nm l
theorem Aml {l:List (ByteArray × Val)} {p:ByteArray × Val} (h:p∈Tj l):p∈l:=by
 rw [Ow (Mt l),Sp] at h
 unfold look at h
 exact (List.mem_filter.1 (List.mem_of_getLast? h)).1
theorem Aoq (k y:ByteArray × Val):Srt.eqv Aln k y=isName k.1 y:=by
 unfold Srt.eqv isName Aln
 rcases Iv k.1 y.1 with h | h | h
 ·have:=Q8 h
  rw [h]
  simp only [Bool.not_true,Bool.false_and]
  symm;simpa using fun e=>this e.symm
 ·rw [h,Di];simp
 ·have:=Q8 h
  rw [h]
  simp [this]
theorem Tx {l r:List (ByteArray × Val)} (h1:Srt.Bw Aln r) (h2:Srt.H5 Aln l r):dedup r=Tj l:=by
 refine J8 (Pv r h1) (Mt l) fun nm=>?_
 rw [T8,Sp]
 have:=h2.2 (nm,Bi)
 have e:Srt.eqv Aln (nm,Bi)=isName nm:=funext fun y=>Aoq _ y
 rw [e] at this
 unfold look
 rw [this]
end Go.CT.Sch
namespace Go.CT.Sch
open Go.Proofs
theorem Q4 (p:ByteArray × Val): ∀l,Dw (K7 p false l)≤Dw l+Dw [p]
 | []=>by simp [K7,Hm]
 | x::xs=>by
  cases hb:blt x.1 p.1 with
  | true=>
   have:=Q4 p xs
   rw [Wq p x xs hb,D2,D2 x xs];omega
  | false=>
   have:=Nc (E6 p.1) (x::xs)
   rw [Vs p x xs hb,D2,D2 p [],Hm];omega
theorem Ab4 (l:List (ByteArray × Val)):Dw (Tj l)≤Dw l:=by
 have: ∀n (l:List (ByteArray × Val)),l.length=n→Dw (Tj l)≤Dw l:=by
  intro n
  induction n with
  | zero=>intro l h;have:=List.length_eq_zero_iff.1 h;subst this;exact Nat.le_refl _
  | succ n ih=>
   intro l h
   rcases Srt.Ek l with rfl | ⟨l0,p,rfl⟩
   ·simp at h
   ·have h1:=ih l0 (by simpa using h)
    have h2:=Q4 p (Tj l0)
    rw [Sd,W4];omega
 exact this _ l rfl
def Aty (l:List (ByteArray × Val)):Val:=⟨5,0,Ay,[],Tj l⟩
theorem Aj9 (l:List (ByteArray × Val)):(Aty l).A3 ≤6+Dw l:=by
 have:=Ab4 l
 rw [Val.Cj]
 simp only [Aty,Val.Avb,Val.Apk,Val.Apv,Lm,show Ay.size=0 from rfl];omega
theorem Le (r:List (ByteArray × Val)) (hr:r.length≤1099511627775) (y2 y3 y4:IV): ∀ (n i:Nat) (acc:List (ByteArray × Val)),i+n=r.length→acc.length≤i→Aaa 1073741824 (acc++dedup (r.drop i))→
  W F34 1 [.int r.length,.int i,y2,y3,y4,Srt.LE Fld.enc r,.int 5,.int 0,.str ⟨#[]⟩,.list (acc.map Fld.enc)]=some (Val.Gv ⟨5,0,Ay,[],acc++dedup (r.drop i)⟩)
 | 0,i,acc,h,ha,hm=>by
  rw [Avx]
  have h1: ¬ i<r.length:=by omega
  have e0:r.drop i= []:=List.drop_of_length_le (by omega)
  rw [e0] at hm ⊢
  rw [show dedup []= [] from rfl,List.append_nil] at hm
  have hc:=O6 ⟨5,0,Ay,[],acc⟩ (.mk _ (Nat.zero_le _) hm.1 (by simp) hm.2)
  have e:IV.agg [.int 5,.int 0,.str ⟨#[]⟩,.list [],.list (acc.map Fld.enc)]=Val.enc ⟨5,0,Ay,[],acc⟩:=by
   rw [←Val.fold];rfl
  simp only [O.Ak,Ao,h1,decide_false,Option.bind_some,O.Ab,Bool.false_eq_true,if_false,O.Bl,e,hc,Val.Bh,O.Dn,dedup,List.append_nil]
 | n+1,i,acc,h,ha,hm=>by
  have hi:i<r.length:=by omega
  have hw:=Bf (i:=i) (by omega)
  have hap:(acc.length+1) * 96≤As:=L5 (by omega) (by omega)
  have gi:=Srt.idx Fld.enc (List.getElem?_eq_getElem hi)
  rw [Avx]
  have hd:=List.drop_eq_getElem_cons hi
  by_cases c:i+1=r.length
  ·have c':((i+1:Nat):Int)=(r.length:Int):=by omega
   have e1:r.drop (i+1)= []:=List.drop_of_length_le (by omega)
   have ih:=Le r hr y2 y3 y4 n (i+1) (acc++ [r[i]]) (by omega) (by simp;omega) (by
    rw [e1];rw [hd,e1] at hm
    simpa [dedup] using hm)
   simp only [e1,List.map_append,List.map_cons,List.map_nil] at ih
   rw [hd,e1]
   simp only [O.Ak,Ao,hi,decide_true,Option.bind_some,O.Ab,if_true,gi,O.Ap,hw,Srt.len,O.eq_int,c',O.Bj,O.Bd,List.length_map,List.length_singleton,hap,Aao]
   rw [c'] at ih
   rw [ih]
   simp [dedup]
  ·have hi2:i+1<r.length:=by omega
   have c': ¬ ((i+1:Nat):Int)=(r.length:Int):=by omega
   have gi2:=Srt.idx Fld.enc (List.getElem?_eq_getElem hi2)
   have hd2:=List.drop_eq_getElem_cons hi2
   by_cases d:r[i+1].1 =r[i].1
   ·have ih:=Le r hr y2 y3 y4 n (i+1) acc (by omega) (by omega) (by
     rw [hd,hd2] at hm;rw [hd2]
     simp only [dedup,d,if_true] at hm
     exact hm)
    rw [hd2] at ih
    rw [hd,hd2]
    simp only [O.Ak,Ao,hi,decide_true,Option.bind_some,O.Ab,if_true,gi,O.Ap,hw,Srt.len,O.eq_int,c',decide_false,Bool.false_eq_true,if_false,gi2,Fld.Bm,O.Hd,d,Bool.not_true,Aao,dedup,ih]
   ·have ih:=Le r hr y2 y3 y4 n (i+1) (acc++ [r[i]]) (by omega) (by simp;omega) (by
     rw [hd,hd2] at hm;rw [hd2]
     simp only [dedup,d,if_false] at hm
     simpa using hm)
    rw [hd2] at ih
    simp only [List.map_append,List.map_cons,List.map_nil,List.append_assoc,List.singleton_append] at ih
    rw [hd,hd2]
    simp only [O.Ak,Ao,hi,decide_true,Option.bind_some,O.Ab,if_true,gi,O.Ap,hw,Srt.len,O.eq_int,c',decide_false,Bool.false_eq_true,if_false,gi2,Fld.Bm,O.Hd,d,Bool.not_false,O.Bj,O.Bd,List.length_map,List.length_singleton,hap,Aao,dedup,ih]
theorem Amx (l:List (ByteArray × Val)):(Tj l).length ≤l.length:=by
 have: ∀n (l:List (ByteArray × Val)),l.length=n→(Tj l).length ≤n:=by
  intro n
  induction n with
  | zero=>intro l h;have:=List.length_eq_zero_iff.1 h;subst this;exact Nat.le_refl _
  | succ n ih=>
   intro l h
   rcases Srt.Ek l with rfl | ⟨l0,p,rfl⟩
   ·simp at h
   ·have h1:=ih l0 (by simpa using h)
    have h2:=Qm p (Tj l0) false
    rw [Sd];omega
 exact this _ l rfl
theorem Z8 {N:Nat} {l:List (ByteArray × Val)} (h:Aaa N l):Aaa N (Tj l):=
 ⟨Nat.le_trans (Amx l) h.1,fun p hp=>h.2 p (Aml hp)⟩
theorem Adh (l:List (ByteArray × Val)) (hl:Aaa 1073741824 l):W F34 0 [.list (l.map Fld.enc)]=some (Aty l).Gv :=by
 have h6:=hl.1
 obtain ⟨r,h1,h2,h3⟩:=Srt.sort ford feqs l (by omega)
 have hc:(l.map Fld.enc).length ≤1073741824:=by rw [List.length_map];omega
 rw [Atr]
 have h3':W F36 0 [.list (l.map Fld.enc)]=some [Srt.LE Fld.enc r]:=h3
 have hlen:r.length=l.length:=h2.1.symm
 have h4:=Le r (by omega) (.int 0) (.int 0) (.str ⟨#[]⟩) r.length 0 [] (by omega) (by simp) (by
  rw [List.drop_zero,List.nil_append,Tx h1 h2];exact Z8 hl)
 simp only [List.drop_zero,Int.cast_ofNat_Int,List.map_nil,List.nil_append,Tx h1 h2] at h4
 simp only [Asx,Gq hc,O.Ah,h3',Srt.len,Option.bind_some]
 exact h4
theorem Asd (l:List (ByteArray × Val)) (hl:Dw l≤4294967200):W F34 0 [.list (l.map Fld.enc)]=some (Aty l).Gv :=Adh l (Agc (by omega))
end Go.CT.Sch
namespace Go.CT.Sch
open Go.Proofs
theorem Kw {β:Type} {a b c d e g:IV} {f:IV→IV→IV→IV→IV→IV→Option β} :calls (some [a,b,c,d,e,g]) 6 f=f a b c d e g:=rfl
def Cg:Sch:=⟨0,0,0,[],Ay,[],[]⟩
def Lw:SFld:=⟨Ay,false,false,[],Cg⟩
theorem Vf:IV.agg [.str ⟨#[]⟩,.bool false,.bool false,.list [],.int 0,.int 0,.int 0,.list [],.str ⟨#[]⟩,.list [],.list []]=Lw.enc:=rfl
inductive SB:Sch→Prop
 | mk (s:Sch):s.it.length≤1→(s.it≠ []→s.f= [])→(s.k=4→s.it.length=1)→(∀x∈s.it,SB x)→(∀p∈s.f,SB p.s)→SB s
theorem SB.one {s:Sch} (h:SB s):s.it.length≤1:=by cases h;assumption
theorem SB.nof {s:Sch} (h:SB s) (hi:s.it≠ []):s.f= []:=by cases h with | mk _ h1 h2 h3 h4 h5=>exact h2 hi
theorem SB.list {s:Sch} (h:SB s) (hi:s.k=4):s.it.length=1:=by cases h with | mk _ h1 h2 h3 h4 h5=>exact h3 hi
theorem SB.Ra {s x:Sch} (h:SB s) (hx:x∈s.it):SB x:=by cases h with | mk _ h1 h2 h3 h4 h5=>exact h4 x hx
theorem SB.Sw {s:Sch} {p:SFld} (h:SB s) (hx:p∈s.f):SB p.s:=by cases h with | mk _ h1 h2 h3 h4 h5=>exact h5 p hx
def J6 (s:Sch) (nm:ByteArray):Option Sch:=match s.it with | []=>(s.fld nm).map (·.s) | t::_=>some t
theorem Ak5 {s:Sch} {nm:ByteArray} {p:SFld} (h:s.fld nm=some p):p∈s.f∧p.nm=nm:=
 ⟨List.mem_of_find?_eq_some h,by simpa using List.find?_some h⟩
theorem Adp {s t:Sch} {nm:ByteArray} (h:J6 s nm=some t):t∈s.it∨ ∃p∈s.f,p.nm=nm∧p.s=t:=by
 unfold J6 at h
 split at h
 ·right
  rw [Option.map_eq_some_iff] at h
  obtain ⟨p,hp,rfl⟩:=h
  exact ⟨p,(Ak5 hp).1,(Ak5 hp).2,rfl⟩
 ·rename_i t' r e
  cases h
  left;rw [e];simp
theorem SB.sub {s t:Sch} {nm:ByteArray} (hs:SB s) (h:J6 s nm=some t):SB t:=by
 rcases Adp h with h | ⟨p,hp,_,rfl⟩
 ·exact hs.Ra h
 ·exact hs.Sw hp
theorem N2 {s t:Sch} {nm:ByteArray} (h:J6 s nm=some t):t.A3<s.A3:=by
 rcases Adp h with h | ⟨p,hp,_,rfl⟩
 ·exact Sch.Ij h
 ·have:=Sch.Dx hp;omega
def Hc (p:List Stp) (c:Int):IV:= .agg [.str (Nz p),.int c]
def C6 (nm:ByteArray):Stp:=⟨1,nm,0,Ay⟩
def isKey (v:Val) (nm:ByteArray):Bool:=(v.get nm).isSome &&decide (((v.get nm).getD Bi).k =3)
def Jy (v:Val) (nm:ByteArray):ByteArray:=((v.get nm).getD Bi).s
def Ed (v:Val) (nm:ByteArray):Bool:=isKey v nm&& !decide (nm=Ay)
def E8 (key:ByteArray) (v:Val) (i:Nat):Stp:=if Ed v key then ⟨3,key,0,Jy v key⟩ else ⟨2,Ay,i,Ay⟩
def sameKey (nm:ByteArray) (k:ByteArray) (u:Val):Bool:=Ed u nm&&decide (Jy u nm=k)
def Aqq (key:ByteArray) (prev:List Val) (v:Val) (q:List Stp):List IV:=if Ed v key&&prev.any (sameKey key (Jy v key)) then [Hc q 8] else []
def Ju (v:Val) (nm:ByteArray):Bool:=(v.get nm).isSome && !decide (((v.get nm).getD Bi).k =0)
def Mw (v:Val) (p:List Stp) (d:SFld):List IV:=if d.rq&& !Ju v d.nm then [Hc (p++ [C6 d.nm]) 7] else []
def Aaj (p:List Stp) (sc:Sch) (n:Int):List IV:=if decide (n<sc.mn)||decide (sc.mx<n) then [Hc p 5] else []
mutual
def P0:Val→Sch→List Stp→List IV
 | ⟨k,n,s,l,f⟩,sc,p=>
  if k=sc.k then
   if k=2 then Aaj p sc n
   else if k=3 then (if decide ((s.size:Int)<sc.mn)||decide (sc.mx<(s.size:Int)) then [Hc p 5] else if decide (0<sc.en.length)&& !sc.en.any (fun e=>decide (e=s)) then [Hc p 1] else [])
   else if k=4 then Aaj p sc l.length++Mf l sc.key (sc.it.headD Cg) p []
   else if k=5 then K6 f sc p++sc.f.flatMap (Mw ⟨k,n,s,l,f⟩ p)
   else []
  else [Hc p 6]
def Mf:List Val→ByteArray→Sch→List Stp→List Val→List IV
 | [],_,_,_,_=> []
 | v::vs,key,t,p,prev=>(P0 v t (p++ [E8 key v prev.length])++Aqq key prev v (p++ [E8 key v prev.length]))++Mf vs key t p (prev++ [v])
def K6:List (ByteArray × Val)→Sch→List Stp→List IV
 | [],_,_=> []
 | (nm,v)::fs,sc,p=>(match J6 sc nm with | none=> [Hc (p++ [C6 nm]) 1] | some t=>if v.k=0 then [] else P0 v t (p++ [C6 nm]))++K6 fs sc p
end
theorem Aa0 (v:Val) (sc:Sch) (p:List Stp):P0 v sc p=
  if v.k=sc.k then
   if v.k=2 then Aaj p sc v.n
   else if v.k=3 then (if decide ((v.s.size:Int)<sc.mn)||decide (sc.mx<(v.s.size:Int)) then [Hc p 5] else if decide (0<sc.en.length)&& !sc.en.any (fun e=>decide (e=v.s)) then [Hc p 1] else [])
   else if v.k=4 then Aaj p sc v.l.length++Mf v.l sc.key (sc.it.headD Cg) p []
   else if v.k=5 then K6 v.f sc p++sc.f.flatMap (Mw v p)
   else []
  else [Hc p 6]:=by
 cases v;rw [P0];rfl
def Au3 (sc:Sch) (p:List Stp) (x:ByteArray × Val):List IV:=match J6 sc x.1 with | none=> [Hc (p++ [C6 x.1]) 1] | some t=>if x.2.k=0 then [] else P0 x.2 t (p++ [C6 x.1])
theorem K9 (x:ByteArray × Val) (fs:List (ByteArray × Val)) (sc:Sch) (p:List Stp):K6 (x::fs) sc p=Au3 sc p x++K6 fs sc p:=by
 obtain ⟨nm,v⟩:=x;rw [K6];rfl
theorem Nk (sc:Sch) (p:List Stp):K6 [] sc p= []:=by rw [K6]
theorem Ov (v:Val) (vs:List Val) (key:ByteArray) (t:Sch) (p:List Stp) (prev:List Val):Mf (v::vs) key t p prev=(P0 v t (p++ [E8 key v prev.length])++Aqq key prev v (p++ [E8 key v prev.length]))++Mf vs key t p (prev++ [v]):=by rw [Mf]
theorem Q5 (key:ByteArray) (t:Sch) (p:List Stp) (prev:List Val):Mf [] key t p prev= []:=by rw [Mf]
theorem We (key:ByteArray) (prev:List Val) (v:Val) (q:List Stp):(Aqq key prev v q).length ≤1:=by unfold Aqq;split<;>simp
theorem Ajk (v:Val) (p:List Stp) (d:SFld):(Mw v p d).length ≤1:=by unfold Mw;split<;>simp
theorem Qr (p:List Stp) (sc:Sch) (n:Int):(Aaj p sc n).length ≤1:=by unfold Aaj;split<;>simp
theorem Aes (v:Val) (p:List Stp): ∀l:List SFld,(l.flatMap (Mw v p)).length ≤l.length
 | []=>by simp
 | d::l=>by
  have:=Ajk v p d
  have:=Aes v p l
  simp only [List.flatMap_cons,List.length_append,List.length_cons];omega
theorem Qo: ∀ (v:Val) (sc:Sch) (p:List Stp),SB sc→(P0 v sc p).length ≤(2+sc.A3) * v.size:=by
 refine Val.ind fun v ih1 ih2 sc p hs=>?_
 have hpos:=v.size_pos
 have one:1≤(2+sc.A3) * v.size:=by
  have:1 * 1≤(2+sc.A3) * v.size:=Nat.mul_le_mul (by omega) hpos
  omega
 have hL: ∀ (t:Sch),SB t→t.A3<sc.A3→ ∀ (l:List Val),(∀x∈l,∀sc p,SB sc→(P0 x sc p).length ≤(2+sc.A3) * x.size)→ ∀ (prev:List Val) (key:ByteArray),(Mf l key t p prev).length ≤(2+sc.A3) * Cl l:=by
  intro t ht htm l
  induction l with
  | nil=>intro _ prev key;rw [Q5];simp
  | cons x l ih=>
   intro h prev key
   have h1:=h x (by simp) t (p++ [E8 key x prev.length]) ht
   have h2:=ih (fun y hy=>h y (by simp [hy])) (prev++ [x]) key
   have h3:=We key prev x (p++ [E8 key x prev.length])
   have h4:=x.size_pos
   have h5:(3+t.A3) * x.size≤(2+sc.A3) * x.size:=Nat.mul_le_mul (by omega) (Nat.le_refl _)
   have h6:(3+t.A3) * x.size=(2+t.A3) * x.size+x.size:=by rw [show 3+t.A3=(2+t.A3)+1 by omega,Nat.add_mul,Nat.one_mul]
   rw [Ov]
   simp only [List.length_append,Cl,Nat.mul_add]
   omega
 have hF: ∀ (l:List (ByteArray × Val)),(∀x∈l,∀sc p,SB sc→(P0 x.2 sc p).length ≤(2+sc.A3) * x.2.size)→(K6 l sc p).length ≤(2+sc.A3) * Br l:=by
  intro l
  induction l with
  | nil=>intro _;rw [Nk];simp
  | cons x l ih=>
   intro h
   have h2:=ih (fun y hy=>h y (by simp [hy]))
   have h4:=x.2.size_pos
   have h7:(Au3 sc p x).length ≤(2+sc.A3) * x.2.size:=by
    have h8:1 * 1≤(2+sc.A3) * x.2.size:=Nat.mul_le_mul (by omega) h4
    unfold Au3
    split
    ·simp only [List.length_singleton];omega
    ·rename_i t ht
     split
     ·simp
     ·have h1:=h x (by simp) t (p++ [C6 x.1]) (hs.sub ht)
      have:=N2 ht
      have h5:(2+t.A3) * x.2.size≤(2+sc.A3) * x.2.size:=Nat.mul_le_mul (by omega) (Nat.le_refl _)
      omega
   rw [K9]
   simp only [List.length_append,Br,Nat.mul_add]
   omega
 have hsz:=v.size_eq
 rw [Aa0]
 split
 ·split
  ·have:=Qr p sc v.n;omega
  ·split
   ·split
    ·simpa using one
    ·split
     ·simpa using one
     ·simp
   ·split
    ·rename_i hk hk2 hk3 hk4
     obtain ⟨t,ht⟩:=List.length_eq_one_iff.1 (hs.list (by omega))
     have h1:=hL t (hs.Ra (by rw [ht];simp)) (Sch.Ij (by rw [ht];simp)) v.l ih1 [] sc.key
     have h2:=Qr p sc v.l.length
     have h3:(2+sc.A3) * (1+Cl v.l)≤(2+sc.A3) * v.size:=Nat.mul_le_mul (Nat.le_refl _) (by omega)
     rw [Nat.mul_add] at h3
     rw [ht,List.headD_cons,List.length_append]
     omega
    ·split
     ·have h1:=hF v.f ih2
      have h2:=Aes v p sc.f
      have h4:=sc.A7
      have h3:(2+sc.A3) * (1+Br v.f)≤(2+sc.A3) * v.size:=Nat.mul_le_mul (Nat.le_refl _) (by omega)
      rw [Nat.mul_add] at h3
      rw [List.length_append]
      omega
     ·simp
 ·simpa using one
theorem Afh {n:Nat} (h:n≤4398046511104):n * 24≤As:=by
 have:n * 24≤4398046511104 * 24:=Nat.mul_le_mul h (Nat.le_refl _)
 unfold As;omega
theorem Adj (v:Val) (nm:ByteArray):((v.get nm).getD Bi).s.size ≤v.A3:=by
 unfold Val.get
 split
 ·cases h:v.f.find? fun p=>decide (p.1=nm) with
  | none=>exact Nat.zero_le _
  | some p=>
   have h1:=Val.Dx (List.mem_of_find?_eq_some h)
   have h2:=p.2.Ai9
   simp only [Option.map_some,Option.getD_some];omega
 ·exact Nat.zero_le _
theorem Ty (key:ByteArray) (v:Val) (i:Nat) (h1:key.size≤1048576) (h2:v.A3≤1048576):(E8 key v i).fits :=by
 have:=Adj v key
 unfold E8
 split
 ·exact ⟨by show key.size≤_;omega,by show (Jy v key).size ≤_;unfold Jy;omega⟩
 ·exact ⟨by show (0:Nat)≤_;omega,by show (0:Nat)≤_;omega⟩
theorem Gm (nm:ByteArray) (h:nm.size≤1048576):(C6 nm).fits :=⟨by show nm.size≤_;omega,by show (0:Nat)≤_;omega⟩
theorem Ga {p:List Stp} {x:Stp} (hp: ∀s∈p,s.fits) (hx:x.fits): ∀s∈p++ [x],s.fits:=by
 intro s hs
 rcases List.mem_append.1 hs with h | h
 ·exact hp s h
 ·simp at h;subst h;exact hx
end Go.CT.Sch
namespace Go.CT.Sch
open Go.Proofs
theorem Kg (v:Val) (nm:ByteArray) (hv:v.A3≤1048576):W Arw 0 [v.enc,.str nm]=some [.str (Jy v nm),.bool (Ed v nm)]:=by
 rw [Aow]
 unfold Jy Ed isKey
 simp only [Abm v nm (by omega),J2,Kw,O.Ab,O.Hd,O.eq_int,Option.bind_some,Ar,Al,Ay]
 cases (v.get nm).isSome<;>by_cases h1:nm=⟨#[]⟩<;>by_cases h2:((v.get nm).getD Bi).k =3<;>simp [h1,h2]
theorem Ru (s:Sch) (l:List Val) (i:Nat) (hi:i<l.length) (hv:l[i].A3 ≤1048576):W Awo 0 [s.enc,.list (l.map Val.enc),.int i]=some [(E8 s.key l[i] i).enc]:=by
 rw [Alx]
 unfold E8
 simp only [O.Ai,Int.natCast_nonneg,if_true,Int.toNat_natCast,List.getElem?_map,List.getElem?_eq_getElem hi,Option.map_some,Option.bind_some,Sch.Ch,Kg l[i] s.key hv,O.Cz,O.Bl,O.Ab]
 split<;>rfl
theorem Nx (p:List Stp) (s:Stp) (hl:p.length≤1099511627776):W As8 0 [.list (p.map Stp.enc),s.enc]=some [.list ((p++ [s]).map Stp.enc)]:=by
 have h1:(0+p.length) * 48≤As:=L5 (by omega) (by omega)
 have h2:(p.length+1) * 48≤As:=by
  have:(p.length+1) * 48≤1099511627777 * 48:=Nat.mul_le_mul (by omega) (Nat.le_refl _)
  unfold As;omega
 rw [Ann]
 simp only [O.Bj,Option.bind_some,O.Bd,List.length_nil,List.length_map,h1,if_true,List.nil_append,List.length_singleton,h2,List.map_append,List.map_cons,List.map_nil]
theorem Yx (p:List Stp) (hp: ∀s∈p,s.fits) (hl:p.length≤1099511627776) (c:Int):W Agu 0 [.list (p.map Stp.enc),.int c]=some [.list [Hc p c]]:=by
 rw [An7]
 simp only [Zj p hp hl,O.Cz,O.Bl,O.Bj,Option.bind_some,Hc]
theorem Rq (s:Sch) (nm:ByteArray) (hs:s.A3≤1099511627776) (y3 y4 y5 y6 y7 y8 y9:IV): ∀ (n i:Nat),i+n=s.f.length→
  W Apr 1 [.str nm,.int i,s.enc,y3,y4,y5,y6,y7,y8,y9]=some [(((s.f.drop i).find? fun p=>decide (p.nm=nm)).getD Lw).enc,.bool ((s.f.drop i).find? fun p=>decide (p.nm=nm)).isSome]
 | 0,i,h=>by
  rw [Acw]
  have h1: ¬ i<s.f.length:=by omega
  simp [h1,List.drop_of_length_le (Nat.le_of_not_lt h1),Vf]
 | n+1,i,h=>by
  have hi:i<s.f.length:=by omega
  have hm:=s.A7
  have hw:=Bf (i:=i) (by omega)
  have:=Rq s nm hs y3 y4 y5 y6 y7 y8 y9 n (i+1) (by omega)
  rw [Acw,List.drop_eq_getElem_cons hi]
  simp only [Sch.G6,O.An,List.length_map,O.Ak,Ao,hi,decide_true,Option.bind_some,O.Ab,if_true,O.Ai,Int.natCast_nonneg,Int.toNat_natCast,List.getElem?_map,List.getElem?_eq_getElem hi,Option.map_some,SFld.Bm,O.Eg,O.Ap,hw,this,List.find?_cons]
  by_cases c:s.f[i].nm =nm
  ·simp [c]
  ·have c':decide (s.f[i].nm =nm)=false:=by simpa using c
   simp only [c,c',decide_false,Bool.false_eq_true,if_false]
theorem X7 (s:Sch) (nm:ByteArray) (hs:s.A3≤1099511627776):W Apr 0 [s.enc,.str nm]=some [((s.fld nm).getD Lw).enc,.bool (s.fld nm).isSome]:=by
 rw [Amo]
 have:=Rq s nm hs (.str ⟨#[]⟩) (.bool false) (.bool false) (.int 0) (.int 0) (.int 0) (.str ⟨#[]⟩) s.f.length 0 (by omega)
 simp only [List.drop_zero,Int.cast_ofNat_Int] at this
 exact this
def Agb (v:Val) (nm:ByteArray):Val:=if Ju v nm then (v.get nm).getD Bi else Bi
theorem Ace (v:Val) (nm:ByteArray) (hv:v.A3≤1048576):W Aw5 0 [v.enc,.str nm]=some [.int (Agb v nm).k,.int (Agb v nm).n,.str (Agb v nm).s,.list ((Agb v nm).l.map Val.enc),.list ((Agb v nm).f.map Fld.enc),.bool (Ju v nm)]:=by
 rw [Amj]
 unfold Agb Ju
 simp only [Abm v nm (by omega),J2,Kw,O.Az,O.eq_int,O.Ab,Option.bind_some]
 cases (v.get nm).isSome with
 | false=>rfl
 | true=>
  by_cases h:((v.get nm).getD Bi).k =0
  ·simp only [h,decide_true];rfl
  ·simp only [h,decide_false];rfl
theorem R5 (s:Sch) (v:Val) (p q:List Stp) (hv:v.A3≤1048576) (hq: ∀s∈q,s.fits) (hl:q.length≤1099511627776) (i:Nat) (hiv:i≤v.l.length) (key:ByteArray) (ok:Bool) (out:List IV) (ho:out.length≤4398046511103): ∀ (n j:Nat) (ag:Bool),j+n=i→
  W Tf 3 [.list (p.map Stp.enc),.int i,.str key,.bool ok,.bool ag,.int j,s.enc,v.enc,.list out,.list (q.map Stp.enc)]
   =W Tf 4 [.list (p.map Stp.enc),.int i,s.enc,v.enc,.list (out++if ag||(ok&&((v.l.take i).drop j).any (sameKey s.key key)) then [Hc q 8] else [])]
 | n,j,ag,h=>by
  have hm:=v.Ct
  have fin:(cnd (.bool ag) (
    calls (W Agu 0 [.list (q.map Stp.enc),(.int 8)]) 1 fun x12=>
    (O.append 24 (.list out) x12).bind fun x13=>
    W Tf 4 [.list (p.map Stp.enc),.int i,s.enc,v.enc,x13]) (
    W Tf 4 [.list (p.map Stp.enc),.int i,s.enc,v.enc,.list out]))=W Tf 4 [.list (p.map Stp.enc),.int i,s.enc,v.enc,.list (out++if ag then [Hc q 8] else [])]:=by
   cases ag with
   | false=>simp
   | true=>
    have hap:(out.length+1) * 24≤As:=Afh (by omega)
    simp only [O.Ab,if_true,Yx q hq hl 8,O.Ah,O.Bd,List.length_singleton,hap,Option.bind_some]
  rw [Anr]
  by_cases c:j<i
  ·obtain ⟨m,rfl⟩: ∃m,n=m+1:=⟨n - 1,by omega⟩
   have hj:j<v.l.length:=by omega
   have hw:=Bf (i:=j) (by omega)
   have hx:=Val.Ho (List.getElem_mem hj)
   have hc:(j:Int)<i:=by omega
   cases ok with
   | false=>
    simp only [O.Ak,hc,decide_true,Option.bind_some,O.Sk,if_true,O.Ab,Bool.false_eq_true,if_false]
    simp only [O.Ab] at fin
    rw [fin];simp
   | true=>
    have hk:=Kg v.l[j] s.key (by omega)
    have hd:(v.l.take i).drop j=v.l[j]::(v.l.take i).drop (j+1):=by
     rw [List.drop_eq_getElem_cons (by simp;omega),List.getElem_take]
    simp only [O.Ak,hc,decide_true,Option.bind_some,O.Sk,if_true,O.Ab,Val.B7,O.Ai,Int.natCast_nonneg,Int.toNat_natCast,List.getElem?_map,List.getElem?_eq_getElem hj,Option.map_some,Sch.Ch,hk,O.Cz,O.Eg,Ar,Al,O.Ap,hw]
    rw [R5 s v p q hv hq hl i hiv key true out ho m (j+1) _ (by omega),hd,List.any_cons]
    congr 6
    unfold sameKey
    cases ag<;>cases Ed v.l[j] s.key<;>simp
  ·have hc: ¬ (j:Int)<i:=by omega
   simp only [O.Ak,hc,decide_false,Option.bind_some,O.Sk,Bool.false_eq_true,if_false,O.Ab]
   simp only [O.Ab] at fin
   rw [fin,List.drop_of_length_le (by simp;omega)]
   simp
def Axx (v:Val):Prop:=v.A3≤1048576→ ∀ (s:Sch),SB s→s.A3≤1048576→ ∀p:List Stp,(∀x∈p,x.fits)→p.length+v.A3≤549755813888→W Aio 0 [s.enc,v.enc,.list (p.map Stp.enc)]=some [.list (P0 v s p)]
theorem Sa (s t:Sch) (v:Val) (p:List Stp) (hv:v.A3≤1048576) (hs:s.A3≤1048576) (ht:s.it= [t]) (hsb:SB s) (hp: ∀s∈p,s.fits) (hl:p.length+v.A3≤549755813888)
  (ih: ∀x∈v.l,Axx x): ∀ (n i:Nat) (out:List IV),i+n=v.l.length→out.length+(2+s.A3) * Cl (v.l.drop i)≤4398046511103→
  W Tf 2 [.list (p.map Stp.enc),.int i,s.enc,v.enc,.list out]=some [.list (out++Mf (v.l.drop i) s.key t p (v.l.take i))]
 | 0,i,out,h,hb=>by
  have h1: ¬ i<v.l.length:=by omega
  rw [Ad0,List.drop_of_length_le (by omega),Q5]
  simp only [Val.B7,O.An,List.length_map,Option.bind_some,O.Ak,Ao,h1,decide_false,O.Ab,Bool.false_eq_true,if_false,List.append_nil]
 | n+1,i,out,h,hb=>by
  have hi:i<v.l.length:=by omega
  have hm:=v.Ct
  have hw:=Bf (i:=i) (by omega)
  have hx:=Val.Ho (List.getElem_mem hi)
  have htm:t∈s.it:=by rw [ht];simp
  have htmass:=Sch.Ij htm
  have hd:=List.drop_eq_getElem_cons hi
  have hkey:=s.Wj
  rw [hd] at hb ⊢
  rw [Ov]
  have hti:(v.l.take i).length =i:=by simp;omega
  have htk:v.l.take i++ [v.l[i]]=v.l.take (i+1):=by simp
  rw [hti,htk]
  have hq:=Ga hp (Ty s.key v.l[i] i (by omega) (by omega))
  have he1:=ih _ (List.getElem_mem hi) (by omega) t (hsb.Ra htm) (by omega) _ hq (by simp;omega)
  have hlen:=Qo v.l[i] t (p++ [E8 s.key v.l[i] i]) (hsb.Ra htm)
  have hdl:=We s.key (v.l.take i) v.l[i] (p++ [E8 s.key v.l[i] i])
  simp only [Cl,Nat.mul_add] at hb
  have hsz:(2+t.A3) * v.l[i].size +1≤(2+s.A3) * v.l[i].size :=by
   have h1:=v.l[i].size_pos
   have h2:(3+t.A3) * v.l[i].size ≤(2+s.A3) * v.l[i].size :=Nat.mul_le_mul (by omega) (Nat.le_refl _)
   have h3:(3+t.A3) * v.l[i].size =(2+t.A3) * v.l[i].size +v.l[i].size :=by rw [show 3+t.A3=(2+t.A3)+1 by omega,Nat.add_mul,Nat.one_mul]
   omega
  generalize hE:P0 v.l[i] t (p++ [E8 s.key v.l[i] i])=es1 at *
  have hap:(out.length+es1.length) * 24≤As:=Afh (by omega)
  have h3:=R5 s v p (p++ [E8 s.key v.l[i] i]) hv hq (by simp;omega) i (by omega) (Jy v.l[i] s.key) (Ed v.l[i] s.key) (out++es1) (by rw [List.length_append];omega) i 0 false (by omega)
  simp only [Int.cast_ofNat_Int,List.drop_zero,Bool.false_or] at h3
  have hdup:(if (Ed v.l[i] s.key&&(v.l.take i).any (sameKey s.key (Jy v.l[i] s.key)))=true then [Hc (p++ [E8 s.key v.l[i] i]) 8] else [])=Aqq s.key (v.l.take i) v.l[i] (p++ [E8 s.key v.l[i] i]):=rfl
  rw [hdup] at h3
  generalize hD:Aqq s.key (v.l.take i) v.l[i] (p++ [E8 s.key v.l[i] i])=d at *
  have h4:=Sa s t v p hv hs ht hsb hp hl ih n (i+1) (out++es1++d) (by omega) (by simp only [List.length_append];omega)
  rw [Ad0]
  simp only [Val.B7,O.An,List.length_map,Option.bind_some,O.Ak,Ao,hi,decide_true,O.Ab,if_true,Ru s v.l i hi (by omega),O.Ah,Nx p (E8 s.key v.l[i] i) (by omega),Sch.H3,ht,List.map_cons,List.map_nil,O.Ai,Int.le_refl,Int.toNat_zero,List.getElem?_cons_zero,Int.natCast_nonneg,Int.toNat_natCast,List.getElem?_map,List.getElem?_eq_getElem hi,Option.map_some,he1,O.Bd,hap,Sch.Ch,Kg v.l[i] s.key (by omega),O.Cz]
  rw [h3,Aou]
  simp only [O.Ap,hw,Option.bind_some]
  rw [h4]
  simp only [List.append_assoc]
theorem Q9 (s:Sch) (v:Val) (p:List Stp) (hv:v.A3≤1048576) (hs:s.A3≤1048576) (hp: ∀s∈p,s.fits) (hl:p.length+v.A3≤549755813888): ∀ (n i:Nat) (out:List IV),i+n=s.f.length→out.length+n≤4398046511103→
  W Uu 3 [.list (p.map Stp.enc),.int i,s.enc,v.enc,.list out]=some [.list (out++(s.f.drop i).flatMap (Mw v p))]
 | 0,i,out,h,hb=>by
  have h1: ¬ i<s.f.length:=by omega
  rw [Ad1,List.drop_of_length_le (by omega)]
  simp only [Sch.G6,O.An,List.length_map,Option.bind_some,O.Ak,Ao,h1,decide_false,O.Ab,Bool.false_eq_true,if_false,List.flatMap_nil,List.append_nil]
 | n+1,i,out,h,hb=>by
  have hi:i<s.f.length:=by omega
  have hm:=s.A7
  have hw:=Bf (i:=i) (by omega)
  have hsf:=Sch.Dx (List.getElem_mem hi)
  have hq:=Ga hp (Gm s.f[i].nm (by omega))
  have hap:(out.length+1) * 24≤As:=Afh (by omega)
  have hmk:O.Cr [(.int 1),.str s.f[i].nm,(.int 0),(.str ⟨#[]⟩)]=some (C6 s.f[i].nm).enc :=rfl
  rw [Ad1,List.drop_eq_getElem_cons hi,List.flatMap_cons]
  unfold Mw
  simp only [Sch.G6,O.An,List.length_map,Option.bind_some,O.Ak,Ao,hi,decide_true,O.Ab,if_true,O.Ai,Int.natCast_nonneg,Int.toNat_natCast,List.getElem?_map,List.getElem?_eq_getElem hi,Option.map_some,SFld.Bm,Ace v s.f[i].nm hv,Kw,SFld.Db,O.Az,Ar,Al,hmk,Nx p (C6 s.f[i].nm) (by omega),O.Ah,Yx _ hq (by simp;omega),O.Bd,List.length_singleton,hap,An0,O.Ap,hw]
  have e:(if s.f[i].rq =true then !Ju v s.f[i].nm else false)=(s.f[i].rq && !Ju v s.f[i].nm):=by cases s.f[i].rq<;>simp
  rw [e]
  cases (s.f[i].rq && !Ju v s.f[i].nm) with
  | true=>
   have h1:=Q9 s v p hv hs hp hl n (i+1) (out++ [Hc (p++ [C6 s.f[i].nm]) 7]) (by omega) (by simp;omega)
   simp only [if_true,h1,List.append_assoc]
   rfl
  | false=>
   have h1:=Q9 s v p hv hs hp hl n (i+1) out (by omega) (by omega)
   simp only [Bool.false_eq_true,if_false,h1,List.nil_append]
   rfl
theorem Zh (s:Sch) (v:Val) (p:List Stp) (hv:v.A3≤1048576) (hs:s.A3≤1048576) (hsb:SB s) (hp: ∀s∈p,s.fits) (hl:p.length+v.A3≤549755813888)
  (ih: ∀x∈v.f,Axx x.2): ∀ (n i:Nat) (out:List IV),i+n=v.f.length→out.length+s.f.length+(2+s.A3) * Br (v.f.drop i)≤4398046511103→
  W Uu 1 [.list (p.map Stp.enc),.int i,s.enc,v.enc,.list out]=some [.list (out++K6 (v.f.drop i) s p++s.f.flatMap (Mw v p))]
 | 0,i,out,h,hb=>by
  have h1: ¬ i<v.f.length:=by omega
  have h3:=Q9 s v p hv hs hp hl s.f.length 0 out (by omega) (by omega)
  simp only [Int.cast_ofNat_Int,List.drop_zero] at h3
  rw [Adx,List.drop_of_length_le (by omega),Nk]
  simp only [Val.Ch,O.An,List.length_map,Option.bind_some,O.Ak,Ao,h1,decide_false,O.Ab,Bool.false_eq_true,if_false,List.append_nil,h3]
 | n+1,i,out,h,hb=>by
  have hi:i<v.f.length:=by omega
  have hm:=v.A7
  have hw:=Bf (i:=i) (by omega)
  have hx:=Val.Dx (List.getElem_mem hi)
  have hd:=List.drop_eq_getElem_cons hi
  rw [hd] at hb ⊢
  rw [K9]
  simp only [Br,Nat.mul_add] at hb
  have hq:=Ga hp (Gm v.f[i].1 (by omega))
  have hmk:O.Cr [(.int 1),.str v.f[i].1,(.int 0),(.str ⟨#[]⟩)]=some (C6 v.f[i].1).enc :=rfl
  have hpos:=v.f[i].2.size_pos
  have hone:1≤(2+s.A3) * v.f[i].2.size :=by
   have:1 * 1≤(2+s.A3) * v.f[i].2.size :=Nat.mul_le_mul (by omega) hpos
   omega
  -- what this field adds
  have key: ∀es:List IV,es.length≤(2+s.A3) * v.f[i].2.size →W Uu 2 [.list (p.map Stp.enc),.int i,s.enc,v.enc,.list (out++es)]=some [.list (out++(es++K6 (v.f.drop (i+1)) s p)++s.f.flatMap (Mw v p))]:=by
   intro es hes
   have h4:=Zh s v p hv hs hsb hp hl ih n (i+1) (out++es) (by omega) (by rw [List.length_append];omega)
   rw [Anl]
   simp only [O.Ap,hw,Option.bind_some,h4,List.append_assoc]
  have sub: ∀t:Sch,J6 s v.f[i].1 =some t→((∃es,P0 v.f[i].2 t (p++ [C6 v.f[i].1])=es∧W Aio 0 [t.enc,v.f[i].2.enc,.list ((p++ [C6 v.f[i].1]).map Stp.enc)]=some [.list es]∧es.length≤(2+s.A3) * v.f[i].2.size)):=by
   intro t ht
   have htm:=N2 ht
   have h1:=ih _ (List.getElem_mem hi) (by omega) t (hsb.sub ht) (by omega) _ hq (by simp;omega)
   have h2:=Qo v.f[i].2 t (p++ [C6 v.f[i].1]) (hsb.sub ht)
   have h5:(2+t.A3) * v.f[i].2.size ≤(2+s.A3) * v.f[i].2.size :=Nat.mul_le_mul (by omega) (Nat.le_refl _)
   exact ⟨_,rfl,h1,by omega⟩
  have hap: ∀es:List IV,es.length≤(2+s.A3) * v.f[i].2.size →(out.length+es.length) * 24≤As:=fun es h=>Afh (by omega)
  rw [Adx]
  simp only [Val.Ch,O.An,List.length_map,Option.bind_some,O.Ak,Ao,hi,decide_true,O.Ab,if_true,O.Ai,Int.natCast_nonneg,Int.toNat_natCast,List.getElem?_map,List.getElem?_eq_getElem hi,Option.map_some,Fld.Bm,hmk,Nx p _ (show p.length≤1099511627776 by omega),O.Ah,X7 s v.f[i].1 (by omega),O.Cz,Sch.H3,O.eq_int,O.Az,Ar,Al,Fld.Db,O.D7,Fld.Kd,SFld.Zv]
  unfold Au3
  cases hit:s.it with
  | nil=>
   have hsub:J6 s v.f[i].1 =(s.fld v.f[i].1).map (·.s):=by unfold J6;rw [hit]
   rw [hsub] at sub ⊢
   simp only [List.length_nil,Int.cast_ofNat_Int,decide_true,if_true]
   cases hf:s.fld v.f[i].1 with
   | none=>
    have hap1:=hap [Hc (p++ [C6 v.f[i].1]) 1] (by simpa using hone)
    simp only [Option.isSome_none,Bool.not_false,if_true,Yx _ hq (show (p++ [C6 v.f[i].1]).length ≤1099511627776 by simp;omega),O.Ah,O.Bd,hap1,Option.bind_some,Option.map_none]
    exact key _ (by simpa using hone)
   | some d=>
    simp only [Option.isSome_some,Bool.not_true,Bool.false_eq_true,if_false,Option.map_some,Option.getD_some,show ¬ (0:Int)=1 by omega,decide_false,ite_self]
    by_cases hk:v.f[i].2.k =0
    ·simp only [hk,decide_true,Bool.not_true,Bool.false_eq_true,if_false,if_true]
     have:=key [] (by simp)
     simpa using this
    ·obtain ⟨es,he,h1,h2⟩:=sub d.s (by rw [hf];rfl)
     simp only [hk,decide_false,Bool.not_false,if_true,if_false,h1,O.Ah,O.Bd,hap es h2,Option.bind_some,he]
     exact key es h2
  | cons t r=>
   have hr:r= []:=by have:=hsb.one;rw [hit] at this;simpa using this
   subst hr
   have hsub:J6 s v.f[i].1 =some t:=by unfold J6;rw [hit]
   rw [hsub] at sub ⊢
   simp only [List.length_cons,List.length_nil,Nat.zero_add,Int.cast_ofNat_Int,show ¬ (1:Int)=0 by omega,decide_false,Bool.false_eq_true,if_false,decide_true,List.map_cons,List.map_nil,Int.le_refl,if_true,Int.toNat_zero,List.getElem?_cons_zero,Option.bind_some]
   by_cases hk:v.f[i].2.k =0
   ·simp only [hk,decide_true,Bool.not_true,Bool.false_eq_true,if_false,if_true]
    have:=key [] (by simp)
    simpa using this
   ·obtain ⟨es,he,h1,h2⟩:=sub t rfl
    simp only [Option.map_some,Option.bind_some,hk,decide_false,Bool.not_false,if_true,if_false,h1,O.Ah,O.Bd,hap es h2,Option.bind_some,he]
    exact key es h2
theorem Yr (s:Sch) (v:Val) (p:List Stp) (hp: ∀s∈p,s.fits) (hl:p.length≤1099511627776) (hs:s.A3≤1048576): ∀ (n i:Nat),i+n=s.en.length→
  W Aio 1 [.list (p.map Stp.enc),.int i,s.enc,v.enc]=some [.list (if decide (0<s.en.length)&& !(s.en.drop i).any (fun e=>decide (e=v.s)) then [Hc p 1] else [])]
 | 0,i,h=>by
  have h1: ¬ i<s.en.length:=by omega
  rw [Ack,List.drop_of_length_le (by omega)]
  simp only [Sch.B7,O.An,List.length_map,Option.bind_some,O.Ak,Ao,h1,decide_false,O.Ab,Bool.false_eq_true,if_false,O.Bu,Yx p hp hl,O.Ah,List.any_nil,Bool.not_false,Bool.and_true]
  have e:decide ((0:Int)<(s.en.length:Int))=decide (0<s.en.length):=by simp
  rw [e]
  split<;>simp
 | n+1,i,h=>by
  have hi:i<s.en.length:=by omega
  have hm:=s.I6
  have hw:=Bf (i:=i) (by omega)
  have he:=Yr s v p hp hl hs n (i+1) (by omega)
  rw [Ack,List.drop_eq_getElem_cons hi,List.any_cons]
  simp only [Sch.B7,O.An,List.length_map,Option.bind_some,O.Ak,Ao,hi,decide_true,O.Ab,if_true,O.Ai,Int.natCast_nonneg,Int.toNat_natCast,List.getElem?_map,List.getElem?_eq_getElem hi,Option.map_some,Val.Dy,O.Eg,O.Ap,hw,he]
  by_cases c:s.en[i]=v.s<;>simp [c]
theorem Amm: ∀v:Val,Axx v:=by
 refine Val.ind fun v ih1 ih2 hv s hsb hs p hp hl=>?_
 have hat: ∀c,W Agu 0 [.list (p.map Stp.enc),.int c]=some [.list [Hc p c]]:=Yx p hp (by omega)
 have hsz:=v.size_eq
 have hsm:=v.H0
 have hlf:=s.A7
 have hmul:(2+s.A3) * v.size≤1048578 * 1048576:=Nat.mul_le_mul (by omega) (by omega)
 rw [Amr,Aa0]
 simp only [Val.Bm,Sch.Bm,Option.bind_some,O.D7,O.Ab,hat,O.Ah]
 by_cases hk:v.k=s.k
 ·simp only [hk,decide_true,Bool.not_true,Bool.false_eq_true,if_false,if_true,O.eq_int,Option.bind_some,O.Ab]
  by_cases k2:s.k=2
  ·simp only [k2,decide_true,if_true,Val.Db,Sch.Db,Sch.Dy,O.Ak,O.Bu,Option.bind_some,O.Ab,Ar,Al,Aaj]
   by_cases c1:v.n<s.mn<;>by_cases c2:s.mx<v.n<;>simp [c1,c2]
  ·by_cases k3:s.k=3
   ·have h1:=Yr s v p hp (by omega) hs s.en.length 0 (by omega)
    simp only [Int.cast_ofNat_Int,List.drop_zero] at h1
    simp only [k3,show ¬ (3:Int)=2 by omega,decide_false,Bool.false_eq_true,if_false,decide_true,if_true,Val.Dy,Sch.Db,Sch.Dy,O.Cm,O.Ak,O.Bu,Option.bind_some,O.Ab,Ar,Al,h1]
    by_cases c1:(v.s.size:Int)<s.mn<;>by_cases c2:s.mx<(v.s.size:Int)<;>simp [c1,c2]
   ·by_cases k4:s.k=4
    ·obtain ⟨t,ht⟩:=List.length_eq_one_iff.1 (hsb.list k4)
     have hb:(2+s.A3) * Cl v.l≤(2+s.A3) * v.size:=Nat.mul_le_mul (Nat.le_refl _) (by omega)
     have hl1:=Qr p s v.l.length
     have h2:=Sa s t v p hv hs ht hsb hp hl ih1 v.l.length 0 (Aaj p s v.l.length) (by omega) (by simp only [List.drop_zero];omega)
     simp only [Int.cast_ofNat_Int,List.drop_zero,List.take_zero] at h2
     have h0:W Tf 0 [s.enc,v.enc,.list (p.map Stp.enc)]=some [.list (Aaj p s v.l.length++Mf v.l s.key t p [])]:=by
      rw [Ang]
      simp only [Val.B7,Sch.Db,Sch.Dy,O.An,List.length_map,O.Ak,O.Bu,Option.bind_some,O.Ab,Ar,Al,hat,O.Ah,O.Bd,List.length_nil,List.length_singleton,List.nil_append,Amd]
      have hap:(0+1) * 24≤As:=Afh (by omega)
      simp only [hap,if_true,Option.bind_some]
      revert h2
      unfold Aaj
      by_cases c1:(v.l.length:Int)<s.mn<;>by_cases c2:s.mx<(v.l.length:Int)<;>simp [c1,c2]
     simp only [k4,show ¬ (4:Int)=2 by omega,show ¬ (4:Int)=3 by omega,decide_false,Bool.false_eq_true,if_false,decide_true,if_true,h0,O.Ah,ht,List.headD_cons]
    ·by_cases k5:s.k=5
     ·have hb:(2+s.A3) * Br v.f≤(2+s.A3) * v.size:=Nat.mul_le_mul (Nat.le_refl _) (by omega)
      have h2:=Zh s v p hv hs hsb hp hl ih2 v.f.length 0 [] (by omega) (by simp only [List.drop_zero,List.length_nil];omega)
      simp only [Int.cast_ofNat_Int,List.drop_zero,List.nil_append] at h2
      have h0:W Uu 0 [s.enc,v.enc,.list (p.map Stp.enc)]=some [.list (K6 v.f s p++s.f.flatMap (Mw v p))]:=by
       rw [Al1,h2]
      simp only [k5,show ¬ (5:Int)=2 by omega,show ¬ (5:Int)=3 by omega,show ¬ (5:Int)=4 by omega,decide_false,Bool.false_eq_true,if_false,decide_true,if_true,h0,O.Ah]
     ·simp only [k2,k3,k4,k5,decide_false,Bool.false_eq_true,if_false]
 ·simp only [hk,decide_false,Bool.not_false,if_true,if_false]
end Go.CT.Sch
namespace Go.CT.Sch
open Go.Proofs
def Agr (m:List (ByteArray × Bool)):List IV:=m.map fun e=> .agg [.str e.1,.bool e.2]
def P2 (m:List (ByteArray × Bool)) (k:ByteArray):Option Bool:=(m.find? fun e=>decide (e.1=k)).map (·.2)
def Y9 (k:ByteArray) (b:Bool):List (ByteArray × Bool)→List (ByteArray × Bool)
 | []=> [(k,b)]
 | e::r=>if e.1=k then (k,b)::r else e::Y9 k b r
theorem Uf (a b:ByteArray):IV.Lv (.str a) (.str b)=some (decide (a=b)):=by
 have:(a.toList == b.toList)=decide (a=b):=by
  rw [Bool.eq_iff_iff,beq_iff_eq,decide_eq_true_iff];exact O.Of
 simp only [IV.Lv,this]
theorem Qu (k:ByteArray): ∀m:List (ByteArray × Bool),P3 (.str k) (Agr m)=some ((P2 m k).map .bool)
 | []=>rfl
 | e::r=>by
  have ih:=Qu k r
  simp only [Agr,List.map_cons,P3,Uf,P2,List.find?_cons]
  by_cases c:k=e.1
  ·simp [c]
  ·have c': ¬ e.1=k:=fun h=>c h.symm
   simp only [c,c',decide_false]
   exact ih
theorem Acu (k:ByteArray) (b:Bool): ∀m:List (ByteArray × Bool),Aia (.str k) (.bool b) (Agr m)=some (Agr (Y9 k b m))
 | []=>rfl
 | e::r=>by
  have ih:=Acu k b r
  simp only [Agr,List.map_cons,Aia,Uf,Y9]
  by_cases c:k=e.1
  ·simp [c]
  ·have c': ¬ e.1=k:=fun h=>c h.symm
   simp only [c,c',decide_false,if_false]
   unfold Agr at ih
   rw [ih];rfl
theorem Xr (k j:ByteArray) (b:Bool): ∀m:List (ByteArray × Bool),P2 (Y9 k b m) j=if k=j then some b else P2 m j
 | []=>by simp only [Y9,P2,List.find?_cons,List.find?_nil];by_cases c:k=j<;>simp [c]
 | e::r=>by
  have ih:=Xr k j b r
  unfold P2 at ih ⊢
  unfold Y9
  by_cases c:e.1=k
  ·simp only [c,if_true,List.find?_cons]
   by_cases c2:k=j<;>simp [c2]
  ·simp only [c,if_false,List.find?_cons]
   by_cases c2:e.1=j
   ·have: ¬ k=j:=fun h=>c (c2.trans h.symm)
    simp [c2,this]
   ·simp only [c2,decide_false,ih]
theorem Ame (m:List (ByteArray × Bool)) (k:ByteArray):O.Ak0 (.bool false) (.list (Agr m)) (.str k)=some (.bool ((P2 m k).getD false)):=by
 unfold O.Ak0
 simp only [Prim.ev,Qu,Option.map_some]
 cases P2 m k<;>rfl
theorem Am6 (m:List (ByteArray × Bool)) (k:ByteArray):O.Ags (.list (Agr m)) (.str k)=some (.bool (P2 m k).isSome):=by
 unfold O.Ags
 simp only [Prim.ev,Qu,Option.map_some,Option.isSome_map]
theorem Ac4 (m:List (ByteArray × Bool)) (k:ByteArray) (b:Bool):O.Akj (.list (Agr m)) (.str k) (.bool b)=some (.list (Agr (Y9 k b m))):=by
 unfold O.Akj
 simp only [Prim.ev,Acu,Option.map_some]
theorem Ald (v:Val) (nm:ByteArray) (hv:v.A3≤4294967296):W F73 0 [v.enc,.str nm]=some (J2 (v.get nm)):=Alw v nm (Es v (by omega))
theorem Ap4 (v:Val) (nm:ByteArray) (hv:v.A3≤1048576):W F72 0 [v.enc,.str nm]=some [.str (Jy v nm),.bool (isKey v nm)]:=by
 rw [Aq6]
 unfold Jy isKey
 simp only [Ald v nm (by omega),J2,Kw,O.Ab,O.eq_int,Option.bind_some,Ar,Al]
 cases (v.get nm).isSome<;>simp
theorem Afi (s:Sch) (v:Val) (i:Int) (hv:v.A3≤1048576):W F71 0 [s.enc,.int i,v.enc]=some [.agg [.int (if Ed v s.key then 3 else 2),.str (if Ed v s.key then s.key else Ay),.int (if Ed v s.key then 0 else i),.str (if Ed v s.key then Jy v s.key else Ay)]]:=by
 rw [Ats]
 have e:(if isKey v s.key=true then !decide (s.key=(⟨#[]⟩:ByteArray)) else false)=Ed v s.key:=by unfold Ed Ay;cases isKey v s.key<;>simp
 simp only [Sch.Ch,Option.bind_some,Ap4 v s.key hv,O.Cz,O.Hd,O.Ab,Ar,Al,e,O.Bl]
 cases Ed v s.key<;>rfl
theorem Abz (s:Sch) (v:Val) (i:Nat) (hv:v.A3≤1048576):W F71 0 [s.enc,.int i,v.enc]=some [(E8 s.key v i).enc]:=by
 rw [Afi s v i hv]
 unfold E8
 cases Ed v s.key<;>rfl
theorem Si (nm:ByteArray):W F79 0 [.str nm]=some [(C6 nm).enc]:=by
 rw [Ark];rfl
theorem Wk (p:List Stp) (s:Stp) (hl:p.length≤1073741824):W F74 0 [.list (p.map Stp.enc),s.enc]=some [.list ((p++ [s]).map Stp.enc)]:=by
 have h2:((p.map Stp.enc).length + [s.enc].length) * 48≤As:=by
  have:(p.length+1) * 48≤1099511627777 * 48:=Nat.mul_le_mul (by omega) (Nat.le_refl _)
  simp only [List.length_map,List.length_singleton]
  unfold As;omega
 have h1:O.K5 [.list (p.map Stp.enc)]=some [.list (p.map Stp.enc)]:=Gq (by rw [List.length_map];omega)
 rw [Atk]
 simp only [Awd,h1,O.Ah,Axv,O.Agp,O.Bj,Option.bind_some,O.Yu (n:=48) (by simp) h2,List.map_append,List.map_cons,List.map_nil]
theorem Adn (out:List IV) (p:List Stp) (c:Int) (hp: ∀s∈p,s.fits) (hl:p.length≤1099511627776) (ho:out.length≤4398046511103):W F50 0 [.list out,.list (p.map Stp.enc),.int c]=some [.list (out++ [Hc p c])]:=by
 have hap:(out.length+1) * 24≤As:=Afh (by omega)
 rw [Ar8]
 simp only [Aef p hp hl,O.Cz,O.Bl,O.Bj,Option.bind_some,O.Bd,List.length_singleton,hap,if_true,Hc]
theorem Ah0 (s:Sch):W F77 0 [s.enc]=some [.bool (decide (s.k=5)&&decide (0<s.it.length))]:=by
 rw [Arx]
 by_cases k5:s.k=5<;>simp [k5]
theorem Ahs (s:Sch):W F29 0 [s.enc]=some [.bool (decide (s.k=5)&&decide (s.it.length=0))]:=by
 rw [Aqm]
 by_cases k5:s.k=5<;>simp [k5]
theorem Acp (s:Sch) (nm:ByteArray) (hs:s.A3≤1099511627776): ∀ (n i:Nat),i+n=s.f.length→
  ∃r:Int,W F27 1 [.list (s.f.map SFld.enc),.str nm,.int s.f.length,.int i]=some [.int r]∧
   ((((s.f.drop i).find? fun p=>decide (p.nm=nm))=none∧r<0)∨(∃j:Nat,r=j∧s.f[j]?=((s.f.drop i).find? fun p=>decide (p.nm=nm))∧((s.f.drop i).find? fun p=>decide (p.nm=nm)).isSome =true))
 | 0,i,h=>by
  rw [Aip]
  have h1: ¬ i<s.f.length:=by omega
  refine ⟨-1,by simp [h1],.inl ⟨by simp [List.drop_of_length_le (Nat.le_of_not_lt h1)],by omega⟩⟩
 | n+1,i,h=>by
  have hi:i<s.f.length:=by omega
  have hm:=s.A7
  have hw:=Bf (i:=i) (by omega)
  obtain ⟨r,hr,h2⟩:=Acp s nm hs n (i+1) (by omega)
  rw [Aip,List.drop_eq_getElem_cons hi,List.find?_cons]
  simp only [O.Ak,Ao,hi,decide_true,Option.bind_some,O.Ab,if_true,O.Ai,Int.natCast_nonneg,Int.toNat_natCast,List.getElem?_map,List.getElem?_eq_getElem hi,Option.map_some,Auf,SFld.Bm,O.Eg,O.Ah,O.Ap,hw,hr]
  by_cases c:s.f[i].nm =nm
  ·refine ⟨i,by simp [c],.inr ⟨i,rfl,by simp [c],by simp [c]⟩⟩
  ·have c':decide (s.f[i].nm =nm)=false:=by simpa using c
   simp only [c',Bool.false_eq_true,if_false]
   exact ⟨r,rfl,h2⟩
theorem Aee (s:Sch) (nm:ByteArray) (hs:s.A3≤1099511627776):W F26 0 [s.enc,.str nm]=
  some [(if s.k=5∧s.it.length=0 then (s.fld nm).getD Lw else Lw).enc,.bool (decide (s.k=5∧s.it.length=0)&&(s.fld nm).isSome)]:=by
 obtain ⟨r,hr,h2⟩:=Acp s nm hs s.f.length 0 (by omega)
 have hr':W F27 0 [.list (s.f.map SFld.enc),.str nm]=some [.int r]:=by
  rw [Atd]
  simpa using hr
 simp only [List.drop_zero] at h2
 have hf:(s.f.find? fun p=>decide (p.nm=nm))=s.fld nm:=rfl
 rw [hf] at h2
 have hst:=Ahs s
 rw [Auk]
 simp only [Sch.G6,Option.bind_some,hr',O.Ah,O.Ak,O.Ab,hst,O.Az,O.Bl,Ar,Al]
 rcases h2 with ⟨h3,h4⟩ | ⟨j,rfl,h3,h4⟩
 ·rw [h3]
  simp only [h4,decide_true,if_true,Option.getD_none,ite_self,Option.isSome_none,Bool.and_false]
  rfl
 ·have hj: ¬ (j:Int)<0:=by omega
  obtain ⟨d,hd⟩:=Option.isSome_iff_exists.1 h4
  rw [hd] at h3 ⊢
  simp only [hj,decide_false,Bool.false_eq_true,if_false,O.Ai,Int.natCast_nonneg,if_true,Int.toNat_natCast,List.getElem?_map,h3,Option.map_some,Option.getD_some,Option.isSome_some,Bool.and_true,Option.bind_some]
  by_cases c1:s.k=5<;>by_cases c2:s.it.length=0<;>simp [c1,c2,Vf]
theorem Agd (v:Val) (nm:ByteArray) (hv:v.A3≤1048576): ∃w:Val,W F80 0 [v.enc,.str nm]=some [.int w.k,.int w.n,.str w.s,.list (w.l.map Val.enc),.list (w.f.map Fld.enc),.bool (Ju v nm)]∧w=(v.get nm).getD Bi:=by
 rw [Atw]
 unfold Ju
 refine ⟨_,?_,rfl⟩
 simp only [Ald v nm (by omega),J2,Kw,O.D7,O.Ab,Option.bind_some,Ar,Al]
 cases (v.get nm).isSome<;>simp
theorem Nd (l:List ByteArray) (x:ByteArray) (hl:l.length≤1099511627776): ∀ (n i:Nat),i+n=l.length→
  ∃r:Int,W F69 1 [.list (l.map .str),.str x,.int l.length,.int i]=some [.int r]∧(decide (0≤r)=(l.drop i).any fun e=>decide (e=x))
 | 0,i,h=>by
  rw [Ail]
  have h1: ¬ i<l.length:=by omega
  refine ⟨-1,by simp [h1],by simp [List.drop_of_length_le (Nat.le_of_not_lt h1)]⟩
 | n+1,i,h=>by
  have hi:i<l.length:=by omega
  have hw:=Bf (i:=i) (by omega)
  obtain ⟨r,hr,h2⟩:=Nd l x hl n (i+1) (by omega)
  rw [Ail,List.drop_eq_getElem_cons hi,List.any_cons]
  simp only [O.Ak,Ao,hi,decide_true,Option.bind_some,O.Ab,if_true,O.Ai,Int.natCast_nonneg,Int.toNat_natCast,List.getElem?_map,List.getElem?_eq_getElem hi,Option.map_some,O.Eg,O.Ap,hw,hr]
  by_cases c:x=l[i]
  ·refine ⟨i,by simp [c],by simp [c]⟩
  ·have c': ¬ l[i]=x:=fun h=>c h.symm
   simp only [c,decide_false,Bool.false_eq_true,if_false]
   exact ⟨r,rfl,by simp [c',h2]⟩
theorem Abt (l:List ByteArray) (x:ByteArray) (hl:l.length≤1099511627776):W F68 0 [.list (l.map .str),.str x]=some [.bool (l.any fun e=>decide (e=x))]:=by
 obtain ⟨r,hr,h2⟩:=Nd l x hl l.length 0 (by omega)
 have hr':W F69 0 [.list (l.map .str),.str x]=some [.int r]:=by
  rw [Ar0];simpa using hr
 rw [Asi]
 simp only [hr',O.Ah,O.Gj,Option.bind_some,h2,List.drop_zero]
def PgE (v:Val):Prop:=v.A3≤1048576→ ∀ (s:Sch),SB s→s.A3≤1048576→ ∀ (p:List Stp) (out:List IV),(∀x∈p,x.fits)→p.length+v.A3≤1073741824→out.length+(2+s.A3) * v.size≤4398046511103→
 W F49 0 [.list out,s.enc,v.enc,.list (p.map Stp.enc)]=some [.list (out++P0 v s p)]
theorem Ym (s t:Sch) (v:Val) (p:List Stp) (hv:v.A3≤1048576) (hs:s.A3≤1048576) (ht:s.it= [t]) (hsb:SB s) (hp: ∀s∈p,s.fits) (hl:p.length+v.A3≤1073741824)
  (ih: ∀x∈v.l,PgE x): ∀ (n i:Nat) (out:List IV) (m:List (ByteArray × Bool)),i+n=v.l.length→out.length+(2+s.A3) * Cl (v.l.drop i)≤4398046511103→
  (∀k,(P2 m k).getD false=(v.l.take i).any (sameKey s.key k))→
  W F70 2 [.list (p.map Stp.enc),.list (v.l.map Val.enc),.int v.l.length,.int i,s.enc,.list (Agr m),.list out]=some [.list (out++Mf (v.l.drop i) s.key t p (v.l.take i))]
 | 0,i,out,m,h,hb,hM=>by
  have h1: ¬ i<v.l.length:=by omega
  rw [Ai0,List.drop_of_length_le (by omega),Q5]
  simp only [O.Ak,Ao,h1,decide_false,Option.bind_some,O.Ab,Bool.false_eq_true,if_false,List.append_nil]
 | n+1,i,out,m,h,hb,hM=>by
  have hi:i<v.l.length:=by omega
  have hm:=v.Ct
  have hw:=Bf (i:=i) (by omega)
  have hx:=Val.Ho (List.getElem_mem hi)
  have htm:t∈s.it:=by rw [ht];simp
  have htmass:=Sch.Ij htm
  have hd:=List.drop_eq_getElem_cons hi
  have hkey:=s.Wj
  rw [hd] at hb ⊢
  rw [Ov]
  have hti:(v.l.take i).length =i:=by simp;omega
  have htk:v.l.take i++ [v.l[i]]=v.l.take (i+1):=by simp
  rw [hti,htk]
  have hq:=Ga hp (Ty s.key v.l[i] i (by omega) (by omega))
  have hlen:=Qo v.l[i] t (p++ [E8 s.key v.l[i] i]) (hsb.Ra htm)
  have hdl:=We s.key (v.l.take i) v.l[i] (p++ [E8 s.key v.l[i] i])
  simp only [Cl,Nat.mul_add] at hb
  have hsz:(2+t.A3) * v.l[i].size +1≤(2+s.A3) * v.l[i].size :=by
   have h1:=v.l[i].size_pos
   have h2:(3+t.A3) * v.l[i].size ≤(2+s.A3) * v.l[i].size :=Nat.mul_le_mul (by omega) (Nat.le_refl _)
   have h3:(3+t.A3) * v.l[i].size =(2+t.A3) * v.l[i].size +v.l[i].size :=by rw [show 3+t.A3=(2+t.A3)+1 by omega,Nat.add_mul,Nat.one_mul]
   omega
  have he1:=ih _ (List.getElem_mem hi) (by omega) t (hsb.Ra htm) (by omega) (p++ [E8 s.key v.l[i] i]) out hq (by simp;omega) (by omega)
  generalize hE:P0 v.l[i] t (p++ [E8 s.key v.l[i] i])=es1 at *
  have hany: ∀k,(v.l.take (i+1)).any (sameKey s.key k)=((v.l.take i).any (sameKey s.key k)||sameKey s.key k v.l[i]):=by
   intro k;rw [←htk,List.any_append];simp
  have go: ∀ (es:List IV) (m':List (ByteArray × Bool)),es.length≤(2+s.A3) * v.l[i].size →(∀k,(P2 m' k).getD false=(v.l.take (i+1)).any (sameKey s.key k))→
    W F70 4 [.list (p.map Stp.enc),.list (v.l.map Val.enc),.int v.l.length,.int i,s.enc,.list (Agr m'),.list (out++es)]=some [.list (out++(es++Mf (v.l.drop (i+1)) s.key t p (v.l.take (i+1))))]:=by
   intro es m' hes hM'
   have h4:=Ym s t v p hv hs ht hsb hp hl ih n (i+1) (out++es) m' (by omega) (by rw [List.length_append];omega) hM'
   rw [Auc]
   simp only [O.Ap,hw,Option.bind_some]
   rw [h4,List.append_assoc]
  have ek:(if isKey v.l[i] s.key=true then !decide (s.key=(⟨#[]⟩:ByteArray)) else false)=Ed v.l[i] s.key:=by unfold Ed Ay;cases isKey v.l[i] s.key<;>simp
  rw [Ai0]
  simp only [O.Ak,Ao,hi,decide_true,Option.bind_some,O.Ab,if_true,O.Ai,Int.natCast_nonneg,Int.toNat_natCast,List.getElem?_map,List.getElem?_eq_getElem hi,Option.map_some,Abz s v.l[i] i (by omega),O.Ah,Wk p (E8 s.key v.l[i] i) (by omega),Sch.H3,ht,List.map_cons,List.map_nil,Int.le_refl,Int.toNat_zero,List.getElem?_cons_zero,he1,Sch.Ch,Ap4 v.l[i] s.key (by omega),O.Cz,O.Hd,Ar,Al,ek,Ame,Am6,hM]
  unfold Aqq
  cases hk:Ed v.l[i] s.key with
  | false=>
   simp only [Bool.false_eq_true,if_false,Bool.false_and,List.append_nil]
   refine go es1 m (by omega) fun k=>?_
   rw [hM,hany]
   simp [sameKey,hk]
  | true=>
   have hM': ∀k,(P2 (Y9 (Jy v.l[i] s.key) true m) k).getD false=(v.l.take (i+1)).any (sameKey s.key k):=by
    intro k
    rw [Xr,hany]
    unfold sameKey at hM ⊢
    by_cases c:Jy v.l[i] s.key=k
    ·simp [c,hk]
    ·simp [c,hM]
   simp only [if_true,Bool.true_and]
   cases hdup:(v.l.take i).any (sameKey s.key (Jy v.l[i] s.key)) with
   | true=>
    simp only [if_true,Adn _ _ 8 hq (show (p++ [E8 s.key v.l[i] i]).length ≤1099511627776 by simp;omega) (show (out++es1).length ≤4398046511103 by rw [List.length_append];omega),O.Ah,Akg,Ac4,Option.bind_some]
    have h5:=go (es1++ [Hc (p++ [E8 s.key v.l[i] i]) 8]) _ (by simp;omega) hM'
    simp only [←List.append_assoc] at h5 ⊢
    exact h5
   | false=>
    simp only [Bool.false_eq_true,if_false,Akg,Ac4,Option.bind_some,List.append_nil]
    exact go es1 _ (by omega) hM'
theorem Vr (s:Sch) (v:Val) (p:List Stp) (hv:v.A3≤1048576) (hs:s.A3≤1048576) (hp: ∀s∈p,s.fits) (hl:p.length+v.A3≤1073741824): ∀ (n i:Nat) (out:List IV),i+n=s.f.length→out.length+n≤4398046511103→
  W F78 3 [.list (p.map Stp.enc),.list (s.f.map SFld.enc),.int s.f.length,.int i,v.enc,.list out]=some [.list (out++(s.f.drop i).flatMap (Mw v p))]
 | 0,i,out,h,hb=>by
  have h1: ¬ i<s.f.length:=by omega
  rw [Ahd,List.drop_of_length_le (by omega)]
  simp only [Option.bind_some,O.Ak,Ao,h1,decide_false,O.Ab,Bool.false_eq_true,if_false,List.flatMap_nil,List.append_nil]
 | n+1,i,out,h,hb=>by
  have hi:i<s.f.length:=by omega
  have hm:=s.A7
  have hw:=Bf (i:=i) (by omega)
  have hsf:=Sch.Dx (List.getElem_mem hi)
  have hq:=Ga hp (Gm s.f[i].nm (by omega))
  obtain ⟨w,hw1,_⟩:=Agd v s.f[i].nm hv
  rw [Ahd,List.drop_eq_getElem_cons hi,List.flatMap_cons]
  unfold Mw
  have e:(if s.f[i].rq =true then !Ju v s.f[i].nm else false)=(s.f[i].rq && !Ju v s.f[i].nm):=by cases s.f[i].rq<;>simp
  simp only [Option.bind_some,O.Ak,Ao,hi,decide_true,O.Ab,if_true,O.Ai,Int.natCast_nonneg,Int.toNat_natCast,List.getElem?_map,List.getElem?_eq_getElem hi,Option.map_some,SFld.Bm,hw1,Kw,SFld.Db,O.Az,Ar,Al,Si,O.Ah,Wk p (C6 s.f[i].nm) (by omega),Adn out _ 7 hq (show (p++ [C6 s.f[i].nm]).length ≤1099511627776 by simp;omega) (by omega),Aqr,O.Ap,hw,e]
  cases (s.f[i].rq && !Ju v s.f[i].nm) with
  | true=>
   have h1:=Vr s v p hv hs hp hl n (i+1) (out++ [Hc (p++ [C6 s.f[i].nm]) 7]) (by omega) (by simp;omega)
   simp only [if_true,h1,List.append_assoc]
   rfl
  | false=>
   have h1:=Vr s v p hv hs hp hl n (i+1) out (by omega) (by omega)
   simp only [Bool.false_eq_true,if_false,h1,List.nil_append]
   rfl
theorem Apx (s:Sch) (v:Val) (p:List Stp) (hv:v.A3≤1048576) (hs:s.A3≤1048576) (hsb:SB s) (hp: ∀s∈p,s.fits) (hl:p.length+v.A3≤1073741824) (ih: ∀x∈v.f,PgE x.2) (i:Nat) (hi:i<v.f.length) (out:List IV) (hb:out.length+(2+s.A3) * v.f[i].2.size ≤4398046511103) (t:Sch) (ht:J6 s v.f[i].1 =some t):
  W F49 0 [.list out,t.enc,v.f[i].2.enc,.list ((p++ [C6 v.f[i].1]).map Stp.enc)]=some [.list (out++P0 v.f[i].2 t (p++ [C6 v.f[i].1]))]∧(P0 v.f[i].2 t (p++ [C6 v.f[i].1])).length ≤(2+s.A3) * v.f[i].2.size :=by
 have hm:=v.A7
 have hx:=Val.Dx (List.getElem_mem hi)
 have hq:=Ga hp (Gm v.f[i].1 (by omega))
 have htm:=N2 ht
 have h2:=Qo v.f[i].2 t (p++ [C6 v.f[i].1]) (hsb.sub ht)
 have h5:(2+t.A3) * v.f[i].2.size ≤(2+s.A3) * v.f[i].2.size :=Nat.mul_le_mul (by omega) (Nat.le_refl _)
 exact ⟨ih _ (List.getElem_mem hi) (by omega) t (hsb.sub ht) (by omega) _ out hq (by simp;omega) (by omega),by omega⟩
theorem Xe (s t:Sch) (v:Val) (p:List Stp) (hv:v.A3≤1048576) (hs:s.A3≤1048576) (ht:s.it= [t]) (hsb:SB s) (hp: ∀s∈p,s.fits) (hl:p.length+v.A3≤1073741824)
  (ih: ∀x∈v.f,PgE x.2): ∀ (n i:Nat) (out:List IV),i+n=v.f.length→out.length+(2+s.A3) * Br (v.f.drop i)≤4398046511103→
  W F49 1 [.list (p.map Stp.enc),.list (v.f.map Fld.enc),.int v.f.length,.int i,s.enc,.list out]=some [.list (out++K6 (v.f.drop i) s p)]
 | 0,i,out,h,hb=>by
  have h1: ¬ i<v.f.length:=by omega
  rw [Ah1,List.drop_of_length_le (by omega),Nk]
  simp only [O.Ak,Ao,h1,decide_false,Option.bind_some,O.Ab,Bool.false_eq_true,if_false,List.append_nil]
 | n+1,i,out,h,hb=>by
  have hi:i<v.f.length:=by omega
  have hm:=v.A7
  have hw:=Bf (i:=i) (by omega)
  have hd:=List.drop_eq_getElem_cons hi
  rw [hd] at hb ⊢
  rw [K9]
  simp only [Br,Nat.mul_add] at hb
  have hsub:J6 s v.f[i].1 =some t:=by unfold J6;rw [ht]
  have key: ∀es:List IV,es.length≤(2+s.A3) * v.f[i].2.size →W F49 2 [.list (p.map Stp.enc),.list (v.f.map Fld.enc),.int v.f.length,.int i,s.enc,.list (out++es)]=some [.list (out++(es++K6 (v.f.drop (i+1)) s p))]:=by
   intro es hes
   have h4:=Xe s t v p hv hs ht hsb hp hl ih n (i+1) (out++es) (by omega) (by rw [List.length_append];omega)
   rw [Aq3]
   simp only [O.Ap,hw,Option.bind_some,h4,List.append_assoc]
  obtain ⟨h1,h2⟩:=Apx s v p hv hs hsb hp hl ih i hi out (by omega) t hsub
  rw [Ah1]
  unfold Au3
  rw [hsub]
  simp only [O.Ak,Ao,hi,decide_true,Option.bind_some,O.Ab,if_true,O.Ai,Int.natCast_nonneg,Int.toNat_natCast,List.getElem?_map,List.getElem?_eq_getElem hi,Option.map_some,Fld.Db,O.D7,Sch.H3,ht,List.map_cons,List.map_nil,Int.le_refl,Int.toNat_zero,List.getElem?_cons_zero,Fld.Kd,Fld.Bm,Si,O.Ah,Wk p (C6 v.f[i].1) (by omega),h1]
  by_cases hk:v.f[i].2.k =0
  ·simp only [hk,decide_true,Bool.not_true,Bool.false_eq_true,if_false,if_true]
   have:=key [] (by simp)
   simpa using this
  ·simp only [hk,decide_false,Bool.not_false,if_true,if_false]
   exact key _ h2
theorem Adt (s:Sch) (v:Val) (p:List Stp) (hv:v.A3≤1048576) (hs:s.A3≤1048576) (hk5:s.k=5) (hit:s.it= []) (hsb:SB s) (hp: ∀s∈p,s.fits) (hl:p.length+v.A3≤1073741824)
  (ih: ∀x∈v.f,PgE x.2): ∀ (n i:Nat) (out:List IV),i+n=v.f.length→out.length+s.f.length+(2+s.A3) * Br (v.f.drop i)≤4398046511103→
  W F78 1 [.list (p.map Stp.enc),.list (v.f.map Fld.enc),.int v.f.length,.int i,s.enc,v.enc,.list out]=some [.list (out++K6 (v.f.drop i) s p++s.f.flatMap (Mw v p))]
 | 0,i,out,h,hb=>by
  have h1: ¬ i<v.f.length:=by omega
  have h3:=Vr s v p hv hs hp hl s.f.length 0 out (by omega) (by omega)
  simp only [Int.cast_ofNat_Int,List.drop_zero] at h3
  rw [Ahx,List.drop_of_length_le (by omega),Nk]
  simp only [O.Ak,Ao,h1,decide_false,Option.bind_some,O.Ab,Bool.false_eq_true,if_false,Sch.G6,O.An,List.length_map,h3,List.append_nil]
 | n+1,i,out,h,hb=>by
  have hi:i<v.f.length:=by omega
  have hm:=v.A7
  have hw:=Bf (i:=i) (by omega)
  have hx:=Val.Dx (List.getElem_mem hi)
  have hd:=List.drop_eq_getElem_cons hi
  rw [hd] at hb ⊢
  rw [K9]
  simp only [Br,Nat.mul_add] at hb
  have hpos:=v.f[i].2.size_pos
  have hone:1≤(2+s.A3) * v.f[i].2.size :=by
   have:1 * 1≤(2+s.A3) * v.f[i].2.size :=Nat.mul_le_mul (by omega) hpos
   omega
  have hq:=Ga hp (Gm v.f[i].1 (by omega))
  have hsub:J6 s v.f[i].1 =(s.fld v.f[i].1).map (·.s):=by unfold J6;rw [hit]
  have key: ∀es:List IV,es.length≤(2+s.A3) * v.f[i].2.size →W F78 2 [.list (p.map Stp.enc),.list (v.f.map Fld.enc),.int v.f.length,.int i,s.enc,v.enc,.list (out++es)]=some [.list (out++(es++K6 (v.f.drop (i+1)) s p)++s.f.flatMap (Mw v p))]:=by
   intro es hes
   have h4:=Adt s v p hv hs hk5 hit hsb hp hl ih n (i+1) (out++es) (by omega) (by rw [List.length_append];omega)
   rw [Atg]
   simp only [O.Ap,hw,Option.bind_some,h4,List.append_assoc]
  rw [Ahx]
  unfold Au3
  simp only [O.Ak,Ao,hi,decide_true,Option.bind_some,O.Ab,if_true,O.Ai,Int.natCast_nonneg,Int.toNat_natCast,List.getElem?_map,List.getElem?_eq_getElem hi,Option.map_some,Fld.Bm,Si,O.Ah,Wk p (C6 v.f[i].1) (by omega),Aee s v.f[i].1 (by omega),O.Cz,hk5,hit,List.length_nil,and_self,decide_true,Bool.true_and,O.Az,Fld.Db,O.D7,Fld.Kd,SFld.Zv]
  rw [hsub]
  cases hf:s.fld v.f[i].1 with
  | none=>
   simp only [Option.isSome_none,Bool.not_false,if_true,Adn out _ 1 hq (show (p++ [C6 v.f[i].1]).length ≤1099511627776 by simp;omega) (by omega),O.Ah,Option.map_none]
   exact key _ (by simpa using hone)
  | some d=>
   simp only [Option.isSome_some,Bool.not_true,Bool.false_eq_true,if_false,Option.map_some,Option.getD_some]
   by_cases hk:v.f[i].2.k =0
   ·simp only [hk,decide_true,Bool.not_true,Bool.false_eq_true,if_false,if_true]
    have:=key [] (by simp)
    simpa using this
   ·obtain ⟨h1,h2⟩:=Apx s v p hv hs hsb hp hl ih i hi out (by omega) d.s (by rw [hsub,hf];rfl)
    simp only [hk,decide_false,Bool.not_false,if_true,if_false,h1,O.Ah]
    exact key _ h2
theorem Ano: ∀v:Val,PgE v:=by
 refine Val.ind fun v ih1 ih2 hv s hsb hs p out hp hl hb=>?_
 have hpos:=v.size_pos
 have hone:1≤(2+s.A3) * v.size:=by
  have:1 * 1≤(2+s.A3) * v.size:=Nat.mul_le_mul (by omega) hpos
  omega
 have hat: ∀c,W F50 0 [.list out,.list (p.map Stp.enc),.int c]=some [.list (out++ [Hc p c])]:=fun c=>Adn out p c hp (by omega) (by omega)
 have hsz:=v.size_eq
 have hlf:=s.A7
 have hle:=s.I6
 rw [Aqp,Aa0]
 simp only [Val.Bm,Sch.Bm,Option.bind_some,O.D7,O.Ab,hat,O.Ah]
 by_cases hk:v.k=s.k
 ·simp only [hk,decide_true,Bool.not_true,Bool.false_eq_true,if_false,if_true,O.eq_int,Option.bind_some,O.Ab]
  by_cases k2:s.k=2
  ·simp only [k2,decide_true,if_true,Val.Db,Sch.Db,Sch.Dy,O.Ak,O.Bu,Option.bind_some,O.Ab,Ar,Al,Aaj]
   by_cases c1:v.n<s.mn<;>by_cases c2:s.mx<v.n<;>simp [c1,c2]
  ·by_cases k3:s.k=3
   ·simp only [k3,show ¬ (3:Int)=2 by omega,decide_false,Bool.false_eq_true,if_false,decide_true,if_true,Val.Dy,Sch.Db,Sch.Dy,Sch.B7,O.An,List.length_map,O.Cm,O.Ak,O.Bu,Option.bind_some,O.Ab,Ar,Al,Abt s.en v.s (by omega),O.Ah,O.Az]
    have e:decide ((0:Int)<(s.en.length:Int))=decide (0<s.en.length):=by simp
    rw [e]
    by_cases c1:(v.s.size:Int)<s.mn<;>by_cases c2:s.mx<(v.s.size:Int)<;>by_cases c3:0<s.en.length<;>cases (s.en.any fun e=>decide (e=v.s))<;>simp [c1,c2,c3]
   ·by_cases k4:s.k=4
    ·obtain ⟨t,ht⟩:=List.length_eq_one_iff.1 (hsb.list k4)
     have hb2:(2+s.A3) * (1+Cl v.l)≤(2+s.A3) * v.size:=Nat.mul_le_mul (Nat.le_refl _) (by omega)
     rw [Nat.mul_add] at hb2
     have hl1:=Qr p s v.l.length
     have h2:=Ym s t v p hv hs ht hsb hp hl ih1 v.l.length 0 (out++Aaj p s v.l.length) [] (by omega) (by simp only [List.drop_zero,List.length_append];omega) (fun k=>rfl)
     simp only [Int.cast_ofNat_Int,List.drop_zero,List.take_zero] at h2
     have h0:W F70 0 [.list out,s.enc,v.enc,.list (p.map Stp.enc)]=some [.list (out++(Aaj p s v.l.length++Mf v.l s.key t p []))]:=by
      have h3: ∀o:List IV,o=out++Aaj p s v.l.length→W F70 1 [.list (p.map Stp.enc),s.enc,v.enc,.list o]=some [.list (out++(Aaj p s v.l.length++Mf v.l s.key t p []))]:=by
       intro o ho
       rw [Asr,ho]
       simp only [Val.B7,O.An,List.length_map,Option.bind_some]
       rw [←List.append_assoc]
       exact h2
      rw [As1]
      simp only [Val.B7,Sch.Db,Sch.Dy,O.An,List.length_map,O.Ak,O.Bu,Option.bind_some,O.Ab,Ar,Al,hat,O.Ah]
      by_cases c1:(v.l.length:Int)<s.mn<;>by_cases c2:s.mx<(v.l.length:Int)<;>simp only [c1,c2,decide_true,decide_false,if_true,if_false,Bool.false_eq_true]<;>exact h3 _ (by simp [Aaj,c1,c2])
     simp only [k4,show ¬ (4:Int)=2 by omega,show ¬ (4:Int)=3 by omega,decide_false,Bool.false_eq_true,if_false,decide_true,if_true,h0,O.Ah,ht,List.headD_cons]
    ·by_cases k5:s.k=5
     ·have hb2:(2+s.A3) * (1+Br v.f)≤(2+s.A3) * v.size:=Nat.mul_le_mul (Nat.le_refl _) (by omega)
      rw [Nat.mul_add] at hb2
      simp only [k5,show ¬ (5:Int)=2 by omega,show ¬ (5:Int)=3 by omega,show ¬ (5:Int)=4 by omega,decide_false,Bool.false_eq_true,if_false,decide_true,if_true,Ah0,O.Ah,Bool.true_and,O.Ab]
      cases hit:s.it with
      | nil=>
       have h2:=Adt s v p hv hs k5 hit hsb hp hl ih2 v.f.length 0 out (by omega) (by simp only [List.drop_zero];omega)
       simp only [Int.cast_ofNat_Int,List.drop_zero] at h2
       have h0:W F78 0 [.list out,s.enc,v.enc,.list (p.map Stp.enc)]=some [.list (out++(K6 v.f s p++s.f.flatMap (Mw v p)))]:=by
        rw [Auw,←List.append_assoc]
        simp only [Val.Ch,O.An,List.length_map,Option.bind_some]
        exact h2
       simp only [List.length_nil,Nat.lt_irrefl,decide_false,Bool.false_eq_true,if_false,h0,O.Ah]
      | cons t r=>
       have hr:r= []:=by have:=hsb.one;rw [hit] at this;simpa using this
       subst hr
       have hnf:=hsb.nof (by rw [hit];simp)
       have h2:=Xe s t v p hv hs hit hsb hp hl ih2 v.f.length 0 out (by omega) (by simp only [List.drop_zero];omega)
       simp only [Int.cast_ofNat_Int,List.drop_zero] at h2
       simp only [List.length_cons,Nat.zero_lt_succ,decide_true,if_true,Val.Ch,O.An,List.length_map,Option.bind_some,hnf,List.flatMap_nil,List.append_nil]
       exact h2
     ·simp only [k2,k3,k4,k5,decide_false,Bool.false_eq_true,if_false,Ah0,O.Ah,Bool.false_and,O.Ab,List.append_nil]
 ·simp only [hk,decide_false,Bool.not_false,if_true,if_false]
theorem Ak6 (v:Val) (hv:v.A3≤1048576) (s:Sch) (hsb:SB s) (hs:s.A3≤1048576):W F48 0 [s.enc,v.enc]=some [.list (P0 v s [])]:=by
 have hsm:=v.H0
 have hmul:(2+s.A3) * v.size≤1048578 * 1048576:=Nat.mul_le_mul (by omega) (by omega)
 have h:=Ano v hv s hsb hs [] [] (by simp) (by simp;omega) (by simp;omega)
 simp only [List.map_nil,List.nil_append] at h
 rw [Aqy]
 simp only [h,O.Ah]
end Go.CT.Sch
namespace Go.CT.Sch
open Go.Proofs
def Hh (o:Option ByteArray) (x:ByteArray):Bool:=match o with | none=>true | some q=>blt q x
def Alh (mn mx:Int):Option ByteArray→List ByteArray→Bool
 | _,[]=>true
 | o,x::r=>Kz x&&decide (mn≤x.size)&&decide ((x.size:Int)≤mx)&&Hh o x&&Alh mn mx (some x) r
def Av3 (x:SFld):Bool:=x.df.all fun v=> !decide (v.k=0)&&v.valid&&decide ((P0 v x.s []).length =0)
def fOk (g:Sch→Bool):Option ByteArray→List SFld→Bool
 | _,[]=>true
 | o,x::r=>Cp x.nm&&Hh o x.nm&&g x.s&&decide (x.df.length≤1)&&Av3 x&&fOk g (some x.nm) r
def Gh (s:Sch):Bool:=decide (s.key=Ay)&&decide (s.it.length=0)&&decide (s.f.length=0)
def Afu (s:Sch) (m:Int):Bool:=decide (0≤s.mn)&&decide (s.mn≤s.mx)&&decide (s.mx≤m)
def Zp (s:Sch):Bool:=decide (s.key=Ay)||(match s.it with | t::_=>decide (t.k=5)&&(t.fld s.key).isSome &&((t.fld s.key).getD Lw).rq &&decide (((t.fld s.key).getD Lw).s.k =3) | []=>false)
def B5:Nat→Sch→Bool
 | 0,_=>false
 | d+1,s=>
  if s.k=1 then Gh s&&decide (s.mn=0)&&decide (s.mx=0)&&decide (s.en.length=0)
  else if s.k=2 then Gh s&&decide (-1000000000000000≤s.mn)&&decide (s.mn≤s.mx)&&decide (s.mx≤1000000000000000)&&decide (s.en.length=0)
  else if s.k=3 then Gh s&&Afu s 200&&Alh s.mn s.mx none s.en&&decide (s.en.length≤64)
  else if s.k=4 then Afu s 64&&decide (s.en.length=0)&&decide (s.f.length=0)&&decide (s.it.length=1)&&Zp s&&s.it.all (B5 d)
  else if s.k=5 then decide (s.mn=0)&&decide (s.mx=0)&&decide (s.en.length=0)&&decide (s.key=Ay)&&decide (s.it.length≤1)&&(decide (s.it.length=0)||decide (s.f.length=0))&&decide (s.f.length≤64)&&s.it.all (B5 d)&&fOk (B5 d) none s.f
  else false
def valid (s:Sch):Bool:=B5 12 s
theorem Aat {g:Sch→Bool} : ∀ {l:List SFld} {o:Option ByteArray},fOk g o l=true→ ∀x∈l,Cp x.nm=true∧g x.s=true∧x.df.length≤1∧Av3 x=true
 | [],_,_,x,hx=>by simp at hx
 | y::r,o,h,x,hx=>by
  simp only [fOk,Bool.and_eq_true,decide_eq_true_eq] at h
  rcases List.mem_cons.1 hx with rfl | hx
  ·exact ⟨h.1.1.1.1.1,h.1.1.1.2,h.1.1.2,h.1.2⟩
  ·exact Aat h.2 x hx
theorem Hq: ∀ (d:Nat) (s:Sch),B5 d s=true→SB s
 | 0,s,h=>by simp [B5] at h
 | d+1,s,h=>by
  have leaf:s.k≠4→Gh s=true→SB s:=fun h4 h=>by
   simp only [Gh,Bool.and_eq_true,decide_eq_true_eq] at h
   have h1:s.it= []:=List.length_eq_zero_iff.1 h.1.2
   have h2:s.f= []:=List.length_eq_zero_iff.1 h.2
   exact .mk s (by omega) (fun e=>absurd h1 e) (fun e=>absurd e h4) (by simp [h1]) (by simp [h2])
  unfold B5 at h
  split at h
  ·simp only [Bool.and_eq_true] at h;exact leaf (by omega) h.1.1.1
  ·split at h
   ·simp only [Bool.and_eq_true] at h;exact leaf (by omega) h.1.1.1.1
   ·split at h
    ·simp only [Bool.and_eq_true] at h;exact leaf (by omega) h.1.1.1
    ·split at h
     ·simp only [Bool.and_eq_true,decide_eq_true_eq,List.all_eq_true] at h
      have h2:s.f= []:=List.length_eq_zero_iff.1 h.1.1.1.2
      exact .mk s (by omega) (fun _=>h2) (fun _=>h.1.1.2) (fun x hx=>Hq d x (h.2 x hx)) (by simp [h2])
     ·split at h
      ·simp only [Bool.and_eq_true,decide_eq_true_eq,List.all_eq_true,Bool.or_eq_true] at h
       refine .mk s h.1.1.1.1.2 (fun e=>?_) (fun e=>by omega) (fun x hx=>Hq d x (h.1.2 x hx)) (fun p hp=>Hq d p.s (Aat h.2 p hp).2.1)
       rcases h.1.1.1.2 with h1 | h1
       ·exact absurd (List.length_eq_zero_iff.1 h1) e
       ·exact List.length_eq_zero_iff.1 h1
      ·cases h
def Lq (l:List SFld):Nat→Option ByteArray
 | 0=>none
 | i+1=>(l[i]?).map (·.nm)
def Nh (l:List ByteArray):Nat→Option ByteArray
 | 0=>none
 | i+1=>l[i]?
theorem Yl (s:Sch):W Avc 0 [s.enc]=some [.bool (Gh s)]:=by
 rw [Aog]
 simp only [Sch.Ch,Sch.H3,Sch.G6,O.An,List.length_map,Option.bind_some,O.Eg,O.eq_int,O.Ab,Ar,Al,Cq]
 congr 3
 unfold Gh
 rw [Bool.eq_iff_iff]
 simp [and_assoc]
theorem Vg (s:Sch) (hs:s.A3≤1048576): ∀ (n i:Nat),i+n=s.en.length→
  W Au6 1 [.int i,s.enc]=some [.bool (Alh s.mn s.mx (Nh s.en i) (s.en.drop i)&&(Gh s&&Afu s 200&&decide (s.en.length≤64)))]
 | 0,i,h=>by
  have h1: ¬ i<s.en.length:=by omega
  rw [Ac1,List.drop_of_length_le (by omega)]
  simp only [Sch.B7,O.An,List.length_map,Option.bind_some,O.Ak,Ao,h1,decide_false,O.Ab,Bool.false_eq_true,if_false,Yl,O.Ah,Sch.Db,Sch.Dy,O.Gj,O.Dv,Ar,Al]
  congr 3
  unfold Afu Alh
  rw [Bool.eq_iff_iff]
  simp [and_assoc]
  omega
 | n+1,i,h=>by
  have hi:i<s.en.length:=by omega
  have hm:=s.I6
  have hw:=Bf (i:=i) (by omega)
  have ih:=Vg s hs n (i+1) (by omega)
  have hx:=Sch.Ahe (List.getElem_mem hi)
  have hpe:Nh s.en (i+1)=some s.en[i]:=by simp [Nh,hi]
  rw [hpe] at ih
  rw [Ac1,List.drop_eq_getElem_cons hi]
  simp only [Alh,Sch.B7,O.An,List.length_map,Option.bind_some,O.Ak,Ao,hi,decide_true,O.Ab,if_true,O.Ai,Int.natCast_nonneg,Int.toNat_natCast,List.getElem?_map,List.getElem?_eq_getElem hi,Option.map_some,O.Cm,Ahh s.en[i] (by omega),O.Ah,O.Az,Sch.Db,Sch.Dy,O.Bu,O.Ap,hw,ih]
  generalize (Gh s&&Afu s 200&&decide (s.en.length≤64))=R
  cases i with
  | zero=>
   simp only [Nh,Hh]
   by_cases c1:s.mn≤(s.en[0].size :Int)<;>by_cases c2:(s.en[0].size :Int)≤s.mx<;>cases Kz s.en[0]<;>simp [c1,c2,Int.not_lt.2,Int.not_le.1]
  | succ i=>
   have hi':i<s.en.length:=by omega
   have hw2:IntKind.i64.wrap (((i+1:Nat):Int) - 1)=i:=by rw [wrap64 (by omega) (by omega)];omega
   have hp:(0:Int)<((i+1:Nat):Int):=by omega
   simp only [Nh,List.getElem?_eq_getElem hi',Hh,O.B6,hw2,hp,decide_true,if_true,Int.natCast_nonneg,Int.toNat_natCast,Option.map_some,Option.bind_some,Sn]
   by_cases c1:s.mn≤(s.en[i+1].size :Int)<;>by_cases c2:(s.en[i+1].size :Int)≤s.mx<;>cases Kz s.en[i+1]<;>cases hb:blt s.en[i] s.en[i+1]<;>simp [c1,c2,Int.not_lt.2,Int.not_le.1,List.getElem?_eq_getElem hi',Sn,hb, -O.Ah3]
theorem Pn (d:Nat) (s:Sch) (hd:d≤12) (hs:s.A3≤1048576) (ih: ∀p∈s.f,W Alr 0 [p.s.enc,.int d]=some [.bool (B5 d p.s)]): ∀ (n i:Nat),i+n=s.f.length→
  W Arm 1 [.int ((d+1:Nat):Int),.int i,s.enc]=some [.bool (fOk (B5 d) (Lq s.f i) (s.f.drop i))]
 | 0,i,h=>by
  have h1: ¬ i<s.f.length:=by omega
  rw [Afb,List.drop_of_length_le (by omega)]
  simp only [Sch.G6,O.An,List.length_map,Option.bind_some,O.Ak,Ao,h1,decide_false,O.Ab,Bool.false_eq_true,if_false,fOk]
 | n+1,i,h=>by
  have hi:i<s.f.length:=by omega
  have hm:=s.A7
  have hw:=Bf (i:=i) (by omega)
  have hwd:IntKind.i64.wrap (((d+1:Nat):Int) - 1)=(d:Int):=by rw [wrap64 (by omega) (by omega)];omega
  have hx:=Sch.Dx (List.getElem_mem hi)
  have hrec:=Pn d s hd hs ih n (i+1) (by omega)
  have hpe:Lq s.f (i+1)=some s.f[i].nm :=by simp [Lq,hi]
  rw [hpe] at hrec
  have hv:=ih _ (List.getElem_mem hi)
  -- the order
  have hord: ∀ (K:IV→Option IV),((O.gt (.int i) (.int 0)).bind fun x10=>
    (cnd x10 (
      (O.sub .i64 (.int i) (.int 1)).bind fun x11=>
      (O.index (.list (s.f.map SFld.enc)) x11).bind fun x12=>
      (O.proj 0 x12).bind fun x13=>
      (O.sLe (.str s.f[i].nm) x13).bind fun x14=>
      some x14) (some (.bool false))).bind K)=K (.bool (!Hh (Lq s.f i) s.f[i].nm)):=by
   intro K
   cases i with
   | zero=>simp [Lq,Hh]
   | succ j=>
    have hj:j<s.f.length:=by omega
    have hw2:IntKind.i64.wrap (((j+1:Nat):Int) - 1)=j:=by rw [wrap64 (by omega) (by omega)];omega
    have hp:(0:Int)<((j+1:Nat):Int):=by omega
    simp only [Lq,List.getElem?_eq_getElem hj,Option.map_some,Hh,O.Bu,hp,decide_true,Option.bind_some,O.Ab,if_true,O.B6,hw2,O.Ai,Int.natCast_nonneg,Int.toNat_natCast,List.getElem?_map,SFld.Bm,Sn]
  have hix:O.index (.list (s.f.map SFld.enc)) (.int i)=some s.f[i].enc :=by
   simp only [O.Ai,Int.natCast_nonneg,if_true,Int.toNat_natCast,List.getElem?_map,List.getElem?_eq_getElem hi,Option.map_some]
  rw [Afb,List.drop_eq_getElem_cons hi]
  simp only [Sch.G6,O.An,List.length_map,Option.bind_some,O.Ak,Ao,hi,decide_true,O.Ab,if_true,hix,SFld.Bm,fOk,Adw s.f[i].nm (by omega),O.Ah,O.Az]
  simp only [hord]
  simp only [SFld.Bm,SFld.B7,SFld.Zv,O.Ah,O.Az,O.Ab,O.B6,hwd,hv,O.Ap,hw,hrec,O.An,List.length_map,O.Bu,O.eq_int,Option.bind_some]
  cases Cp s.f[i].nm with
  | false=>simp
  | true=>
   cases Hh (Lq s.f i) s.f[i].nm with
   | false=>simp
   | true=>
    cases hsv:B5 d s.f[i].s with
    | false=>simp
    | true=>
     by_cases hlen:s.f[i].df.length ≤1
     ·have hlen': ¬ (1:Int)<s.f[i].df.length :=by omega
      have hsb:=Hq d _ hsv
      unfold Av3
      by_cases h1:s.f[i].df.length =1
      ·obtain ⟨v,hv1⟩:=List.length_eq_one_iff.1 h1
       have hvm:=Sch.Ahn (List.getElem_mem hi) (show v∈s.f[i].df by rw [hv1];simp)
       have he:=Amm v (by omega) s.f[i].s hsb (by omega) [] (by simp) (by simp;omega)
       simp only [List.map_nil] at he
       have hV:=Xt v (by omega)
       rw [hv1]
       by_cases k0:v.k=0
       ·simp [k0]
       ·cases hval:v.valid with
        | false=>simp [k0,hV,hval]
        | true=>
         by_cases hz:(P0 v s.f[i].s []).length =0
         ·simp [k0,hV,hval,he,List.length_eq_zero_iff.1 hz]
         ·have hz':0<(P0 v s.f[i].s []).length :=Nat.pos_of_ne_zero hz
          have hz2: ¬ P0 v s.f[i].s []= []:=fun h=>hz (by rw [h];rfl)
          simp [k0,hV,hval,he,hz',hz2]
      ·have h0:s.f[i].df = []:=List.length_eq_zero_iff.1 (by omega)
       simp [h0]
     ·have hlen':(1:Int)<s.f[i].df.length :=by omega
      simp [hlen',hlen]
theorem egL (mn mx:Int) (a b c:Nat):(if (if (if (if (if decide (mn<0)=true then true else decide (mx<mn))=true then true else decide ((64:Int)<mx))=true then true else decide ((0:Int)<(a:Int)))=true then true else decide ((0:Int)<(b:Int)))=true then true else !decide ((c:Int)=1))= !(decide (0≤mn)&&decide (mn≤mx)&&decide (mx≤64)&&decide (a=0)&&decide (b=0)&&decide (c=1)):=by
 rw [Bool.eq_iff_iff];simp;omega
theorem egS (mn mx:Int) (a b c:Nat) (k:Bool):(if (if (if (if (if (if (!decide (mn=0))=true then true else !decide (mx=0))=true then true else decide ((0:Int)<(a:Int)))=true then true else !k)=true then true else decide ((1:Int)<(b:Int)))=true then true else if decide ((b:Int)=1)=true then decide ((0:Int)<(c:Int)) else false)=true then true else decide ((64:Int)<(c:Int)))
  = !(decide (mn=0)&&decide (mx=0)&&decide (a=0)&&k&&decide (b≤1)&&(decide (b=0)||decide (c=0))&&decide (c≤64)):=by
 cases k
 ·simp
 ·rw [Bool.eq_iff_iff];simp;omega
theorem Pb: ∀ (d:Nat) (s:Sch),d≤12→s.A3≤1048576→W Alr 0 [s.enc,.int d]=some [.bool (B5 d s)]
 | 0,s,hd,hs=>by rw [Ady];simp [B5]
 | d+1,s,hd,hs=>by
  have hd0: ¬ ((d+1:Nat):Int)=0:=by omega
  have hwd:IntKind.i64.wrap (((d+1:Nat):Int) - 1)=(d:Int):=by rw [wrap64 (by omega) (by omega)];omega
  have hit: ∀t∈s.it,W Alr 0 [t.enc,.int d]=some [.bool (B5 d t)]:=fun t ht=>Pb d t (by omega) (by have:=Sch.Ij ht;omega)
  have hif: ∀p∈s.f,W Alr 0 [p.s.enc,.int d]=some [.bool (B5 d p.s)]:=fun p hp=>Pb d p.s (by omega) (by have:=Sch.Dx hp;omega)
  rw [Ady]
  unfold B5
  simp only [O.eq_int,hd0,decide_false,Option.bind_some,O.Ab,Bool.false_eq_true,if_false,Sch.Bm,Sch.Db,Sch.Dy,Sch.B7,Yl,O.Ah,O.Dv,O.An,List.length_map]
  by_cases k1:s.k=1
  ·simp only [k1,decide_true,if_true,Option.bind_some,O.Ab,Ar,Al]
   congr 3
   rw [Bool.eq_iff_iff];simp [and_assoc]
  ·by_cases k2:s.k=2
   ·simp only [k2,show ¬ (2:Int)=1 by omega,decide_true,decide_false,Bool.false_eq_true,if_false,if_true,Option.bind_some,O.Ab,Ar,Al]
    congr 3
    rw [Bool.eq_iff_iff];simp [and_assoc]
   ·by_cases k3:s.k=3
    ·have ht:=Vg s hs s.en.length 0 (by omega)
     simp only [Int.cast_ofNat_Int,List.drop_zero,Nh] at ht
     simp only [k3,show ¬ (3:Int)=1 by omega,show ¬ (3:Int)=2 by omega,decide_true,decide_false,Bool.false_eq_true,if_false,if_true,Anw,ht,O.Ah]
     congr 3
     generalize Alh s.mn s.mx none s.en=a
     cases a<;>cases Gh s<;>cases Afu s 200<;>simp
    ·by_cases k4:s.k=4
     ·have hl:W At6 0 [s.enc,.int ((d+1:Nat):Int)]=some [.bool (Afu s 64&&decide (s.en.length=0)&&decide (s.f.length=0)&&decide (s.it.length=1)&&Zp s&&s.it.all (B5 d))]:=by
       rw [Amn]
       simp only [Sch.Db,Sch.Dy,Sch.B7,Sch.H3,Sch.G6,O.An,List.length_map,Option.bind_some,O.Ak,O.Bu,O.D7,O.Ab,Ar,Al]
       have eg:(if (if (if (if (if decide (s.mn<0)=true then true else decide (s.mx<s.mn))=true then true else decide ((64:Int)<s.mx))=true then true else decide ((0:Int)<(s.en.length:Int)))=true then true else decide ((0:Int)<(s.f.length:Int)))=true then true else !decide ((s.it.length:Int)=1))= !(Afu s 64&&decide (s.en.length=0)&&decide (s.f.length=0)&&decide (s.it.length=1)):=by
        exact egL s.mn s.mx s.en.length s.f.length s.it.length
       rw [eg]
       cases hg:(Afu s 64&&decide (s.en.length=0)&&decide (s.f.length=0)&&decide (s.it.length=1)) with
       | false=>simp
       | true=>
        simp only [Bool.and_eq_true,decide_eq_true_eq] at hg
        obtain ⟨t,ht⟩:=List.length_eq_one_iff.1 hg.2
        have htm:t∈s.it:=by rw [ht];simp
        have hmt:=Sch.Ij htm
        have hl1:W At6 1 [.int ((d+1:Nat):Int),s.enc]=some [.bool (B5 d t)]:=by
         rw [Aos]
         simp only [Sch.H3,ht,List.map_cons,List.map_nil,Option.bind_some,O.Ai,Int.le_refl,if_true,Int.toNat_zero,List.getElem?_cons_zero,O.B6,hwd,hit t htm,O.Ah]
        have hfd:=X7 t s.key (by omega)
        simp only [Bool.not_true,Bool.false_eq_true,if_false,Sch.Ch,Option.bind_some,O.Hd,O.Ab,hl1,ht,List.map_cons,List.map_nil,O.Ai,Int.le_refl,if_true,Int.toNat_zero,List.getElem?_cons_zero,hfd,O.Cz,Sch.Bm,SFld.Db,SFld.Ch,O.D7,O.Az,Ar,Al,List.all_cons,List.all_nil,Bool.and_true,Bool.true_and,Zp,Cq]
        by_cases c:s.key=Ay
        ·simp [c]
        ·by_cases c2:t.k=5<;>by_cases c3:((t.fld s.key).getD Lw).s.k =3<;>cases (t.fld s.key).isSome<;>cases ((t.fld s.key).getD Lw).rq<;>simp [c,c2,c3]
      simp only [k4,show ¬ (4:Int)=1 by omega,show ¬ (4:Int)=2 by omega,show ¬ (4:Int)=3 by omega,decide_true,decide_false,Bool.false_eq_true,if_false,if_true,hl,O.Ah]
     ·by_cases k5:s.k=5
      ·have hst:=Pn d s (by omega) hs hif s.f.length 0 (by omega)
       simp only [Int.cast_ofNat_Int,List.drop_zero,Lq] at hst
       have hl:W Arm 0 [s.enc,.int ((d+1:Nat):Int)]=some [.bool (decide (s.mn=0)&&decide (s.mx=0)&&decide (s.en.length=0)&&decide (s.key=Ay)&&decide (s.it.length≤1)&&(decide (s.it.length=0)||decide (s.f.length=0))&&decide (s.f.length≤64)&&s.it.all (B5 d)&&fOk (B5 d) none s.f)]:=by
        rw [Amb]
        simp only [Sch.Db,Sch.Dy,Sch.B7,Sch.Ch,Sch.H3,Sch.G6,O.An,List.length_map,Option.bind_some,O.Hd,O.Bu,O.eq_int,O.D7,O.Ab,Ar,Al,Cq]
        have eg:(if (if (if (if (if (if (!decide (s.mn=0))=true then true else !decide (s.mx=0))=true then true else decide ((0:Int)<(s.en.length:Int)))=true then true else !decide (s.key=Ay))=true then true else decide ((1:Int)<(s.it.length:Int)))=true then true else if decide ((s.it.length:Int)=1)=true then decide ((0:Int)<(s.f.length:Int)) else false)=true then true else decide ((64:Int)<(s.f.length:Int)))
          = !(decide (s.mn=0)&&decide (s.mx=0)&&decide (s.en.length=0)&&decide (s.key=Ay)&&decide (s.it.length≤1)&&(decide (s.it.length=0)||decide (s.f.length=0))&&decide (s.f.length≤64)):=by
         exact egS s.mn s.mx s.en.length s.it.length s.f.length _
        rw [eg]
        cases hg:(decide (s.mn=0)&&decide (s.mx=0)&&decide (s.en.length=0)&&decide (s.key=Ay)&&decide (s.it.length≤1)&&(decide (s.it.length=0)||decide (s.f.length=0))&&decide (s.f.length≤64)) with
        | false=>simp
        | true=>
         simp only [Bool.and_eq_true,Bool.or_eq_true,decide_eq_true_eq] at hg
         by_cases h1:s.it.length=1
         ·obtain ⟨t,ht⟩:=List.length_eq_one_iff.1 h1
          have hf:s.f= []:=by
           rcases hg.1.2 with h | h
           ·omega
           ·exact List.length_eq_zero_iff.1 h
          have hh:=hit t (by rw [ht];simp)
          have hwd2:IntKind.i64.wrap (d:Int)=(d:Int):=wrap64 (by omega) (by omega)
          simp [ht,hf,hwd2,hh,fOk]
         ·have h0:s.it= []:=List.length_eq_zero_iff.1 (by omega)
          push_cast at hst
          simp [h0,hst]
       simp only [k5,show ¬ (5:Int)=1 by omega,show ¬ (5:Int)=2 by omega,show ¬ (5:Int)=3 by omega,show ¬ (5:Int)=4 by omega,decide_true,decide_false,Bool.false_eq_true,if_false,if_true,hl,O.Ah]
      ·simp only [k1,k2,k3,k4,k5,decide_false,Bool.false_eq_true,if_false]
theorem Af8 (s:Sch) (hs:s.A3≤1048576):W Aw6 0 [s.enc]=some [.bool s.valid]:=by
 rw [Amh]
 have:W Alr 0 [s.enc,.int 12]=some [.bool s.valid]:=Pb 12 s (by omega) hs
 simp only [this,O.Ah]
end Go.CT.Sch
namespace Go.CT.Sch
open Go.Proofs
theorem Ab1 (nm:ByteArray):(Aty [(nm,Bi)]).valid =Cp nm:=by
 have h1:Tj [(nm,Bi)]= [(nm,Bi)]:=Asp (List.pairwise_singleton _ _)
 unfold Aty
 rw [h1]
 unfold Val.valid
 have h2:Bo 11 Bi=true:=by decide
 simp only [Bo,Val.Axc,Val.Ax5,Val.Avb,Val.Apk,Val.Apv,E4,List.all_cons,List.all_nil,h2,rising,Val.size,Cl,Br,Bi]
 simp
theorem Al6 (nm:ByteArray) (hn:nm.size≤1048576) (K:IV→Option (List IV)):(O.Cr [.str nm,(.int 0),(.int 0),(.str ⟨#[]⟩),(.list []),(.list [])]).bind (fun x8=>
  (O.Cw [x8]).bind fun x9=>
  calls (W F34 0 [x9]) 5 fun x10 x11 x12 x13 x14=>
  (O.Cr [x10,x11,x12,x13,x14]).bind fun x15=>
  calls (W F19 0 [x15]) 1 K)=K (.bool (Cp nm)):=by
 have e:IV.agg [.str nm,(.int 0),(.int 0),(.str ⟨#[]⟩),(.list []),(.list [])]=Fld.enc (nm,Bi):=rfl
 have hmass:Dw [(nm,Bi)]≤4294967200:=by
  rw [D2,Hm,Val.Cj]
  simp only [Bi,Val.Avb,Val.Apk,Val.Apv,Lm,Hm,show Ay.size=0 from rfl];omega
 have h1:=Asd [(nm,Bi)] hmass
 have h2:(Aty [(nm,Bi)]).A3 ≤1099511627776:=by have:=Aj9 [(nm,Bi)];omega
 have h3:=N9 _ h2
 rw [Ab1] at h3
 rw [Val.Bh] at h1
 simp only [List.map_cons,List.map_nil] at h1
 simp only [O.Bl,O.Bj,Option.bind_some,e,h1,O.Dn,Val.D9,h3,O.Ah]
theorem Agn (s:Sch) (m:Int):W F16 0 [s.enc,.int m]=some [.bool (Afu s m)]:=by
 rw [Arq]
 simp only [Sch.Db,Sch.Dy,O.Dv,Option.bind_some,O.Ab,Ar,Al]
 congr 3
 unfold Afu
 rw [Bool.eq_iff_iff];simp [and_assoc]
theorem Yi (s:Sch) (hs:s.A3≤1048576): ∀ (n i:Nat),i+n=s.en.length→
  W F17 1 [.list (s.en.map .str),.int s.en.length,.int i,s.enc]=some [.bool (Alh s.mn s.mx (Nh s.en i) (s.en.drop i)&&decide (s.en.length≤64))]
 | 0,i,h=>by
  have h1: ¬ i<s.en.length:=by omega
  rw [Ajc,List.drop_of_length_le (by omega)]
  simp only [Sch.B7,O.An,List.length_map,Option.bind_some,O.Ak,Ao,h1,decide_false,O.Ab,Bool.false_eq_true,if_false,O.Dv,Alh,Bool.true_and]
  congr 3
  rw [Bool.eq_iff_iff];simp;omega
 | n+1,i,h=>by
  have hi:i<s.en.length:=by omega
  have hm:=s.I6
  have hw:=Bf (i:=i) (by omega)
  have ih:=Yi s hs n (i+1) (by omega)
  have hx:=Sch.Ahe (List.getElem_mem hi)
  have hpe:Nh s.en (i+1)=some s.en[i]:=by simp [Nh,hi]
  rw [hpe] at ih
  have e:IV.agg [.int 3,.int 0,.str s.en[i],.list [],.list []]=Val.enc ⟨3,0,s.en[i],[],[]⟩:=rfl
  have hv:=N9 ⟨3,0,s.en[i],[],[]⟩ (by rw [Val.Cj];simp [Lm,Hm];omega)
  rw [Xq] at hv
  have hix:O.index (.list (s.en.map .str)) (.int i)=some (.str s.en[i]):=by
   simp only [O.Ai,Int.natCast_nonneg,if_true,Int.toNat_natCast,List.getElem?_map,List.getElem?_eq_getElem hi,Option.map_some]
  have hord: ∀ (K:IV→Option IV),((O.gt (.int i) (.int 0)).bind fun x10=>
    (cnd x10 (
      (O.proj 3 s.enc).bind fun x11=>
      (O.sub .i64 (.int i) (.int 1)).bind fun x12=>
      (O.index x11 x12).bind fun x13=>
      (O.sGe x13 (.str s.en[i])).bind fun x14=>
      some x14) (some (.bool false))).bind K)=K (.bool (!Hh (Nh s.en i) s.en[i])):=by
   intro K
   cases i with
   | zero=>simp [Nh,Hh]
   | succ j=>
    have hj:j<s.en.length:=by omega
    have hw2:IntKind.i64.wrap (((j+1:Nat):Int) - 1)=j:=by rw [wrap64 (by omega) (by omega)];omega
    have hp:(0:Int)<((j+1:Nat):Int):=by omega
    simp only [Sch.B7,Nh,List.getElem?_eq_getElem hj,Option.map_some,Hh,O.Bu,hp,decide_true,Option.bind_some,O.Ab,if_true,O.B6,hw2,O.Ai,Int.natCast_nonneg,Int.toNat_natCast,List.getElem?_map,Aam]
  rw [Ajc,List.drop_eq_getElem_cons hi]
  simp only [Alh,Option.bind_some,O.Ak,Ao,hi,decide_true,O.Ab,if_true,hix]
  simp only [hord]
  simp only [O.Cm,Sch.Db,Sch.Dy,Option.bind_some,O.Ak,O.Bu,O.Ab,Aaq,O.Dn,O.Bl,e,hv,O.Ah,O.Az,O.Ap,hw,ih]
  by_cases c1:s.mn≤(s.en[i].size :Int)<;>by_cases c2:(s.en[i].size :Int)≤s.mx<;>cases Kz s.en[i]<;>cases Hh (Nh s.en i) s.en[i]<;>simp [c1,c2,Int.not_lt.2,Int.not_le.1]
theorem Asl (s:Sch) (hs:s.A3≤1048576):W F17 0 [s.enc]=some [.bool (Alh s.mn s.mx none s.en&&decide (s.en.length≤64))]:=by
 have h:=Yi s hs s.en.length 0 (by omega)
 simp only [Int.cast_ofNat_Int,List.drop_zero,Nh] at h
 rw [Aur]
 simp only [Sch.B7,O.An,List.length_map,Option.bind_some]
 exact h
theorem Amv (s t:Sch) (hs:s.A3≤1048576) (ht:s.it= [t]) (hsb:SB t):W F25 0 [s.enc]=some [.bool (Zp s)]:=by
 have hmt:=Sch.Ij (show t∈s.it by rw [ht];simp)
 have hfd:=Aee t s.key (by omega)
 rw [Asm]
 unfold Zp
 simp only [Sch.H3,ht,List.map_cons,List.map_nil,O.Ai,Int.le_refl,if_true,Int.toNat_zero,List.getElem?_cons_zero,Option.bind_some,Sch.Ch,hfd,O.Cz,O.Eg,O.Ab,SFld.Db,SFld.Ch,O.eq_int,Ar,Al,Cq]
 congr 3
 by_cases c:s.key=Ay
 ·simp [c]
 ·by_cases c2:t.k=5
  ·by_cases c3:t.it.length=0
   ·cases (t.fld s.key).isSome<;>cases hrq:((t.fld s.key).getD Lw).rq<;>simp [c,c2,c3,hrq]
   ·have hnf:t.f= []:=hsb.nof fun e=>c3 (by rw [e];rfl)
    have hfl:t.fld s.key=none:=by unfold Sch.fld;rw [hnf];rfl
    simp [c,c2,c3,hfl]
  ·simp [c,c2]
theorem Sr (d:Nat) (s:Sch) (hd:d≤12) (hs:s.A3≤1048576) (i:Nat) (hi:i<s.f.length) (hsb:SB s.f[i].s): ∀ (n j:Nat),j+n=s.f[i].df.length →
  W F33 2 [.int d,.list (s.f.map SFld.enc),.int s.f.length,.int i,.list (s.f[i].df.map Val.enc),.int s.f[i].df.length,.int j,s.enc,s.f[i].enc]
   =if ((s.f[i].df.drop j).all fun v=> !decide (v.k=0)&&v.valid&&decide ((P0 v s.f[i].s []).length =0))=true then W F33 1 [.int d,.list (s.f.map SFld.enc),.int s.f.length,.int ((i+1:Nat):Int),s.enc] else some [.bool false]
 | 0,j,h=>by
  have h1: ¬ j<s.f[i].df.length :=by omega
  have hm:=s.A7
  have hw:=Bf (i:=i) (by omega)
  rw [Akt,List.drop_of_length_le (by omega)]
  simp only [O.Ak,Ao,h1,decide_false,Option.bind_some,O.Ab,Bool.false_eq_true,if_false,O.Ap,hw,List.all_nil,if_true]
 | n+1,j,h=>by
  have hj:j<s.f[i].df.length :=by omega
  have hm:=Sch.Dx (List.getElem_mem hi)
  have hl:=Ej (List.mem_map_of_mem (f:=Val.enc) (List.getElem_mem hj))
  have hvm:=Sch.Ahn (List.getElem_mem hi) (List.getElem_mem hj)
  have hlen:s.f[i].df.length ≤I4 s.f[i].df :=by have:=Co (s.f[i].df.map Val.enc);rw [List.length_map] at this;exact this
  have hw:=Bf (i:=j) (by omega)
  have ih:=Sr d s hd hs i hi hsb n (j+1) (by omega)
  have hV:=N9 s.f[i].df[j] (by omega)
  have he:=Ak6 s.f[i].df[j] (by omega) s.f[i].s hsb (by omega)
  rw [Akt,List.drop_eq_getElem_cons hj,List.all_cons]
  simp only [O.Ak,Ao,hj,decide_true,Option.bind_some,O.Ab,if_true,O.Ai,Int.natCast_nonneg,Int.toNat_natCast,List.getElem?_map,List.getElem?_eq_getElem hj,Option.map_some,Val.Bm,O.eq_int,hV,O.Ah,O.Az,SFld.Zv,he,O.An,O.Bu,O.Ap,hw,ih]
  by_cases k0:s.f[i].df[j].k =0
  ·simp [k0]
  ·cases hval:s.f[i].df[j].valid with
   | false=>simp [k0]
   | true=>
    by_cases hz:(P0 s.f[i].df[j] s.f[i].s []).length =0
    ·simp [k0,List.length_eq_zero_iff.1 hz]
    ·have hz':0<(P0 s.f[i].df[j] s.f[i].s []).length :=Nat.pos_of_ne_zero hz
     have hz2: ¬ P0 s.f[i].df[j] s.f[i].s []= []:=fun h=>hz (by rw [h];rfl)
     simp [k0,hz',hz2]
theorem Sh (d:Nat) (s:Sch) (hd:d≤12) (hs:s.A3≤1048576) (ih: ∀p∈s.f,W F15 0 [p.s.enc,.int d]=some [.bool (B5 d p.s)]): ∀ (n i:Nat),i+n=s.f.length→
  W F33 1 [.int d,.list (s.f.map SFld.enc),.int s.f.length,.int i,s.enc]=some [.bool (fOk (B5 d) (Lq s.f i) (s.f.drop i))]
 | 0,i,h=>by
  have h1: ¬ i<s.f.length:=by omega
  rw [Ahg,List.drop_of_length_le (by omega)]
  simp only [O.Ak,Ao,h1,decide_false,Option.bind_some,O.Ab,Bool.false_eq_true,if_false,fOk]
 | n+1,i,h=>by
  have hi:i<s.f.length:=by omega
  have hm:=s.A7
  have hx:=Sch.Dx (List.getElem_mem hi)
  have hrec:=Sh d s hd hs ih n (i+1) (by omega)
  have hpe:Lq s.f (i+1)=some s.f[i].nm :=by simp [Lq,hi]
  rw [hpe] at hrec
  have hv:=ih _ (List.getElem_mem hi)
  have hix:O.index (.list (s.f.map SFld.enc)) (.int i)=some s.f[i].enc :=by
   simp only [O.Ai,Int.natCast_nonneg,if_true,Int.toNat_natCast,List.getElem?_map,List.getElem?_eq_getElem hi,Option.map_some]
  have hord: ∀ (K:IV→Option IV),((O.gt (.int i) (.int 0)).bind fun x18=>
    (cnd x18 (
      (O.proj 6 s.enc).bind fun x19=>
      (O.sub .i64 (.int i) (.int 1)).bind fun x20=>
      (O.index x19 x20).bind fun x21=>
      (O.proj 0 x21).bind fun x22=>
      (O.sGe x22 (.str s.f[i].nm)).bind fun x23=>
      some x23) (some (.bool false))).bind K)=K (.bool (!Hh (Lq s.f i) s.f[i].nm)):=by
   intro K
   cases i with
   | zero=>simp [Lq,Hh]
   | succ j=>
    have hj:j<s.f.length:=by omega
    have hw2:IntKind.i64.wrap (((j+1:Nat):Int) - 1)=j:=by rw [wrap64 (by omega) (by omega)];omega
    have hp:(0:Int)<((j+1:Nat):Int):=by omega
    simp only [Sch.G6,Lq,List.getElem?_eq_getElem hj,Option.map_some,Hh,O.Bu,hp,decide_true,Option.bind_some,O.Ab,if_true,O.B6,hw2,O.Ai,Int.natCast_nonneg,Int.toNat_natCast,List.getElem?_map,SFld.Bm,Aam]
  rw [Ahg,List.drop_eq_getElem_cons hi]
  simp only [O.Ak,Ao,hi,decide_true,Option.bind_some,O.Ab,if_true,hix,SFld.Bm,fOk]
  rw [Al6 s.f[i].nm (by omega)]
  simp only [O.Az,Option.bind_some]
  simp only [hord]
  simp only [SFld.B7,SFld.Zv,O.Ah,O.Az,O.Ab,hv,O.An,List.length_map,O.Bu,Option.bind_some]
  cases Cp s.f[i].nm with
  | false=>simp
  | true=>
   cases Hh (Lq s.f i) s.f[i].nm with
   | false=>simp
   | true=>
    cases hsv:B5 d s.f[i].s with
    | false=>simp
    | true=>
     by_cases hlen:s.f[i].df.length ≤1
     ·have hlen': ¬ (1:Int)<s.f[i].df.length :=by omega
      have h2:=Sr d s hd hs i hi (Hq d _ hsv) s.f[i].df.length 0 (by omega)
      simp only [Int.cast_ofNat_Int,List.drop_zero,hrec] at h2
      simp only [Bool.not_true,Bool.false_eq_true,if_false,hlen',decide_false,Option.bind_some,O.Ab,h2,Av3,hlen,decide_true,Bool.true_and]
      cases (s.f[i].df.all fun v=> !decide (v.k=0)&&v.valid&&decide ((P0 v s.f[i].s []).length =0))<;>simp
     ·have hlen':(1:Int)<s.f[i].df.length :=by omega
      simp [hlen',hlen]
theorem Al4 (d:Nat) (s:Sch) (hd:d≤12) (hs:s.A3≤1048576) (hl:s.it.length≤1) (ih: ∀t∈s.it,W F15 0 [t.enc,.int d]=some [.bool (B5 d t)]):
  W F30 0 [.list (s.it.map Sch.enc),.int ((d+1:Nat):Int)]=some [.bool (!s.it.all (B5 d))]:=by
 have hwd:IntKind.i64.wrap (((d+1:Nat):Int) - 1)=(d:Int):=by rw [wrap64 (by omega) (by omega)];omega
 rw [Auq,Auu]
 cases hit:s.it with
 | nil=>
  simp only [List.map_nil,O.An,List.length_nil,Option.bind_some,Int.cast_ofNat_Int]
  rw [Abx]
  simp
 | cons t r=>
  have hr:r= []:=by rw [hit] at hl;simpa using hl
  subst hr
  have h1:=ih t (by rw [hit];simp)
  have h2:W F32 0 [t.enc,.int ((d+1:Nat):Int)]=some [.bool (!B5 d t)]:=by
   rw [Arc]
   simp only [O.B6,hwd,Option.bind_some,h1,O.Ah,O.Az]
  have h3:IntKind.i64.wrap (0+1)=1:=by decide
  simp only [List.map_cons,List.map_nil,O.An,List.length_cons,List.length_nil,Nat.zero_add,Int.cast_ofNat_Int,Option.bind_some]
  rw [Abx]
  simp only [O.Ak,show (0:Int)<1 by omega,decide_true,Option.bind_some,O.Ab,if_true,O.Ai,Int.le_refl,Int.toNat_zero,List.getElem?_cons_zero,h2,O.Ah,O.Ap,h3]
  cases hsv:B5 d t with
  | true=>
   simp only [Bool.not_true,Bool.false_eq_true,if_false]
   rw [Abx]
   simp [hsv]
  | false=>simp [hsv]
theorem egP (k:Int) (a b c:Nat) (e:Bool):(if (if (if (if (!decide (k=3))=true then decide ((0:Int)<(a:Int)) else false)=true then true else if (!decide (k=4))=true then !e else false)=true then true else if (!decide (k=5))=true then decide ((0:Int)<(b:Int)) else false)=true then true else if (if (!decide (k=5))=true then !decide (k=4) else false)=true then decide ((0:Int)<(c:Int)) else false)
  = !(decide (k=3∨a=0)&&(decide (k=4)||e)&&decide (k=5∨b=0)&&decide (k=5∨k=4∨c=0)):=by
 cases e
 ·by_cases k4:k=4
  ·rw [Bool.eq_iff_iff];simp [k4];omega
  ·simp [k4]
 ·rw [Bool.eq_iff_iff];simp;omega
theorem egM (mn mx:Int) (b c:Nat):(if (if (if (if (!decide (mn=0))=true then true else !decide (mx=0))=true then true else decide ((1:Int)<(b:Int)))=true then true else if decide ((b:Int)=1)=true then decide ((0:Int)<(c:Int)) else false)=true then true else decide ((64:Int)<(c:Int)))
  = !(decide (mn=0)&&decide (mx=0)&&decide (b≤1)&&(decide (b=0)||decide (c=0))&&decide (c≤64)):=by
 rw [Bool.eq_iff_iff];simp;omega
theorem S9: ∀ (d:Nat) (s:Sch),d≤12→s.A3≤1048576→W F15 0 [s.enc,.int d]=some [.bool (B5 d s)]
 | 0,s,hd,hs=>by rw [Akc];simp [B5]
 | d+1,s,hd,hs=>by
  have hd0: ¬ ((d+1:Nat):Int)=0:=by omega
  have hwd:IntKind.i64.wrap (((d+1:Nat):Int) - 1)=(d:Int):=by rw [wrap64 (by omega) (by omega)];omega
  have hit: ∀t∈s.it,W F15 0 [t.enc,.int d]=some [.bool (B5 d t)]:=fun t ht=>S9 d t (by omega) (by have:=Sch.Ij ht;omega)
  have hif: ∀p∈s.f,W F15 0 [p.s.enc,.int d]=some [.bool (B5 d p.s)]:=fun p hp=>S9 d p.s (by omega) (by have:=Sch.Dx hp;omega)
  have hfs:=Sh d s (by omega) hs hif s.f.length 0 (by omega)
  simp only [Int.cast_ofNat_Int,List.drop_zero,Lq] at hfs
  have hfs':W F33 0 [s.enc,.int d]=some [.bool (fOk (B5 d) none s.f)]:=by
   rw [Arn]
   simp only [Sch.G6,O.An,List.length_map,Option.bind_some]
   exact hfs
  rw [Akc]
  unfold B5
  simp only [O.eq_int,O.D7,hd0,decide_false,Option.bind_some,O.Ab,Bool.false_eq_true,if_false,Sch.Bm,Sch.B7,Sch.Ch,Sch.H3,Sch.G6,O.An,List.length_map,O.Bu,O.Hd,Ar,Al,Cq,egP]
  cases hg:(decide (s.k=3∨s.en.length=0)&&(decide (s.k=4)||decide (s.key=Ay))&&decide (s.k=5∨s.f.length=0)&&decide (s.k=5∨s.k=4∨s.it.length=0)) with
  | false=>
   simp only [Bool.not_false,if_true]
   by_cases k1:s.k=1
   ·simp only [k1,if_true,Gh]
    simp [k1] at hg
    congr 3
    rw [eq_comm,Bool.eq_false_iff]
    intro h
    simp at h
    simp [h] at hg
   ·by_cases k2:s.k=2
    ·simp only [k2,show ¬ (2:Int)=1 by omega,if_false,if_true,Gh]
     simp [k2] at hg
     congr 3
     rw [eq_comm,Bool.eq_false_iff]
     intro h
     simp at h
     simp [h] at hg
    ·by_cases k3:s.k=3
     ·simp only [k3,show ¬ (3:Int)=1 by omega,show ¬ (3:Int)=2 by omega,if_false,if_true,Gh]
      simp [k3] at hg
      congr 3
      rw [eq_comm,Bool.eq_false_iff]
      intro h
      simp at h
      simp [h] at hg
     ·by_cases k4:s.k=4
      ·simp only [k4,show ¬ (4:Int)=1 by omega,show ¬ (4:Int)=2 by omega,show ¬ (4:Int)=3 by omega,if_false,if_true]
       simp [k4] at hg
       congr 3
       rw [eq_comm,Bool.eq_false_iff]
       intro h
       simp at h
       simp [h] at hg
      ·by_cases k5:s.k=5
       ·simp only [k5,show ¬ (5:Int)=1 by omega,show ¬ (5:Int)=2 by omega,show ¬ (5:Int)=3 by omega,show ¬ (5:Int)=4 by omega,if_false,if_true]
        simp [k5] at hg
        congr 3
        rw [eq_comm,Bool.eq_false_iff]
        intro h
        simp at h
        simp [h] at hg
       ·simp [k1,k2,k3,k4,k5]
  | true=>
   simp only [Bool.and_eq_true,Bool.or_eq_true,decide_eq_true_eq] at hg
   obtain ⟨⟨⟨g1,g2⟩,g3⟩,g4⟩:=hg
   simp only [Bool.not_true,Bool.false_eq_true,if_false,Sch.Db,Sch.Dy,Option.bind_some,O.eq_int,O.Dv,O.D7,O.Ab,Agn,Asl s hs,O.Ah,Ar,Al]
   by_cases k1:s.k=1
   ·simp only [k1,decide_true,if_true,Gh]
    rcases g1 with g1 | g1
    ·omega
    ·rcases g2 with g2 | g2
     ·omega
     ·rcases g3 with g3 | g3
      ·omega
      ·rcases g4 with g4 | g4 | g4
       ·omega
       ·omega
       ·simp only [g1,g2,g3,g4,decide_true,Bool.true_and,Bool.and_true]
        congr 3
        rw [Bool.eq_iff_iff];simp
   ·by_cases k2:s.k=2
    ·simp only [k2,show ¬ (2:Int)=1 by omega,decide_false,Bool.false_eq_true,if_false,decide_true,if_true,Gh]
     rcases g1 with g1 | g1
     ·omega
     ·rcases g2 with g2 | g2
      ·omega
      ·rcases g3 with g3 | g3
       ·omega
       ·rcases g4 with g4 | g4 | g4
        ·omega
        ·omega
        ·simp only [g1,g2,g3,g4,decide_true,Bool.true_and,Bool.and_true]
         congr 3
         rw [Bool.eq_iff_iff];simp [and_assoc]
    ·by_cases k3:s.k=3
     ·simp only [k3,show ¬ (3:Int)=1 by omega,show ¬ (3:Int)=2 by omega,decide_false,Bool.false_eq_true,if_false,decide_true,if_true,Gh]
      rcases g2 with g2 | g2
      ·omega
      ·rcases g3 with g3 | g3
       ·omega
       ·rcases g4 with g4 | g4 | g4
        ·omega
        ·omega
        ·simp only [g2,g3,g4,decide_true,Bool.true_and,Bool.and_true]
         cases Afu s 200<;>simp
     ·by_cases k4:s.k=4
      ·have g1':s.en.length=0:=by rcases g1 with h | h;exact absurd h k3;exact h
       have g3':s.f.length=0:=by rcases g3 with h | h;exact absurd h (by omega);exact h
       simp only [k4,show ¬ (4:Int)=1 by omega,show ¬ (4:Int)=2 by omega,show ¬ (4:Int)=3 by omega,decide_false,Bool.false_eq_true,if_false,decide_true,if_true,g1',g3',Bool.and_true]
       cases Afu s 64 with
       | false=>simp
       | true=>
        by_cases h1:s.it.length=1
        ·obtain ⟨t,ht⟩:=List.length_eq_one_iff.1 h1
         have h2:=hit t (by rw [ht];simp)
         have h1':(s.it.length:Int)=1:=by omega
         simp only [if_true,h1',decide_true,ht,List.map_cons,List.map_nil,O.Ai,Int.le_refl,Int.toNat_zero,List.getElem?_cons_zero,Option.bind_some,O.B6,hwd,h2,O.Ah,O.Ab,List.all_cons,List.all_nil,Bool.and_true,Bool.true_and,List.length_cons,List.length_nil]
         cases hsv:B5 d t with
         | false=>simp
         | true=>
          have hk:=Amv s t hs ht (Hq d t hsv)
          simp [hk]
        ·have h1': ¬ (s.it.length:Int)=1:=by omega
         simp [h1,h1']
      ·by_cases k5:s.k=5
       ·have g1':s.en.length=0:=by rcases g1 with h | h;exact absurd h k3;exact h
        have g2':s.key=Ay:=by rcases g2 with h | h;exact absurd h k4;exact h
        simp only [k5,show ¬ (5:Int)=1 by omega,show ¬ (5:Int)=2 by omega,show ¬ (5:Int)=3 by omega,show ¬ (5:Int)=4 by omega,decide_false,Bool.false_eq_true,if_false,decide_true,if_true,g1',g2',Bool.and_true]
        have eg:=egM s.mn s.mx s.it.length s.f.length
        rw [eg]
        cases hg5:(decide (s.mn=0)&&decide (s.mx=0)&&decide (s.it.length≤1)&&(decide (s.it.length=0)||decide (s.f.length=0))&&decide (s.f.length≤64)) with
        | false=>simp
        | true=>
         simp only [Bool.and_eq_true,Bool.or_eq_true,decide_eq_true_eq] at hg5
         have h2:=Al4 d s (by omega) hs hg5.1.1.2 hit
         simp only [Bool.not_true,Bool.false_eq_true,if_false,h2,O.Ah,O.Az,Bool.not_not,Option.bind_some,O.Ab,O.B6,hwd,hfs',Ar,Al,Bool.true_and]
         cases s.it.all (B5 d)<;>simp
       ·simp only [k1,k2,k3,k4,k5,decide_false,Bool.false_eq_true,if_false]
theorem Aht (s:Sch) (hs:s.A3≤1048576):W F14 0 [s.enc]=some [.bool s.valid]:=by
 rw [Aq9]
 have:W F15 0 [s.enc,.int 12]=some [.bool s.valid]:=S9 12 s (by omega) hs
 simp only [this,O.Ah]
end Go.CT.Sch
namespace Go.CT.Sch
open Go.Proofs
theorem Gr (d:Nat) (v:Val):Bo (d+1) v=true↔E4 v=true∧(v.l.length≤64∧v.f.length≤64∧(v.k≠4→v.l= [])∧(v.k≠5→v.f= []))∧(∀x∈v.l,Bo d x=true)∧(∀p∈v.f,Cp p.1=true∧Bo d p.2=true)∧rising v.f=true:=by
 rw [Bo]
 simp only [Bool.and_eq_true,List.all_eq_true,decide_eq_true_eq]
 constructor
 ·rintro ⟨⟨⟨⟨a,b⟩,c⟩,d⟩,e⟩;exact ⟨a,b,c,d,e⟩
 ·rintro ⟨a,b,c,d,e⟩;exact ⟨⟨⟨⟨a,b⟩,c⟩,d⟩,e⟩
theorem Jr: ∀ (d:Nat) (v:Val),Bo d v=true→Bo (d+1) v=true
 | 0,v,h=>by simp [Bo] at h
 | d+1,v,h=>by
  rw [Gr] at h ⊢
  exact ⟨h.1,h.2.1,fun x hx=>Jr d x (h.2.2.1 x hx),fun p hp=>⟨(h.2.2.2.1 p hp).1,Jr d p.2 (h.2.2.2.1 p hp).2⟩,h.2.2.2.2⟩
theorem Kv (v:Val):v.valid=true↔Bo 12 v=true∧v.size≤600:=by
 unfold Val.valid;simp only [Bool.and_eq_true,decide_eq_true_eq]
theorem Ak9 {v x:Val} (h:v.valid=true) (hx:x∈v.l):x.valid=true:=by
 rw [Kv] at h ⊢
 have h1:=(Gr 11 v).1 h.1
 have:=Val.Ap5 hx
 exact ⟨Jr 11 x (h1.2.2.1 x hx),by omega⟩
theorem Ab9 {v:Val} {p:ByteArray × Val} (h:v.valid=true) (hp:p∈v.f):p.2.valid=true∧Cp p.1=true:=by
 rw [Kv] at h ⊢
 have h1:=(Gr 11 v).1 h.1
 have:=Val.Aqc hp
 exact ⟨⟨Jr 11 p.2 (h1.2.2.2.1 p hp).2,by omega⟩,(h1.2.2.2.1 p hp).1⟩
theorem Xx {v:Val} (h:v.valid=true) (hk:v.k≠5):v.f= []:=by
 rw [Kv] at h
 exact ((Gr 11 v).1 h.1).2.1.2.2.2 hk
theorem Xy {v:Val} (h:v.valid=true) (hk:v.k≠4):v.l= []:=by
 rw [Kv] at h
 exact ((Gr 11 v).1 h.1).2.1.2.2.1 hk
theorem Af9 {v x:Val} {nm:ByteArray} (h:v.get nm=some x):(nm,x)∈v.f∧v.k=5:=by
 unfold Val.get at h
 split at h
 ·rename_i hk
  rw [Option.map_eq_some_iff] at h
  obtain ⟨p,hp,rfl⟩:=h
  have h1:=List.mem_of_find?_eq_some hp
  have h2:p.1=nm:=by simpa using List.find?_some hp
  subst h2;exact ⟨h1,hk⟩
 ·cases h
theorem Ajl {v x:Val} {nm:ByteArray} (h:v.valid=true) (hx:v.get nm=some x):x.valid=true:=(Ab9 h (Af9 hx).1).1
theorem Aev {g g':Sch→Bool} : ∀ {l:List SFld} {o:Option ByteArray},(∀x∈l,g x.s=true→g' x.s=true)→fOk g o l=true→fOk g' o l=true
 | [],_,_,_=>rfl
 | y::r,o,hg,h=>by
  simp only [fOk,Bool.and_eq_true] at h ⊢
  exact ⟨⟨⟨⟨h.1.1.1.1,hg y (by simp) h.1.1.1.2⟩,h.1.1.2⟩,h.1.2⟩,Aev (fun x hx=>hg x (by simp [hx])) h.2⟩
theorem I7: ∀ (d:Nat) (s:Sch),B5 d s=true→B5 (d+1) s=true
 | 0,s,h=>by simp [B5] at h
 | d+1,s,h=>by
  rw [B5] at h ⊢
  split
  ·rename_i k1;rw [if_pos k1] at h;exact h
  ·rename_i k1;rw [if_neg k1] at h
   split
   ·rename_i k2;rw [if_pos k2] at h;exact h
   ·rename_i k2;rw [if_neg k2] at h
    split
    ·rename_i k3;rw [if_pos k3] at h;exact h
    ·rename_i k3;rw [if_neg k3] at h
     split
     ·rename_i k4;rw [if_pos k4] at h
      simp only [Bool.and_eq_true,List.all_eq_true] at h ⊢
      exact ⟨h.1,fun x hx=>I7 d x (h.2 x hx)⟩
     ·rename_i k4;rw [if_neg k4] at h
      split
      ·rename_i k5;rw [if_pos k5] at h
       simp only [Bool.and_eq_true,List.all_eq_true] at h ⊢
       exact ⟨⟨h.1.1,fun x hx=>I7 d x (h.1.2 x hx)⟩,Aev (fun x _ hx=>I7 d x.s hx) h.2⟩
      ·rename_i k5;rw [if_neg k5] at h;cases h
theorem Am7 {d:Nat} {s:Sch} {p:SFld} (h:B5 (d+1) s=true) (hp:p∈s.f):s.k=5∧Cp p.nm=true∧B5 d p.s=true∧p.df.length≤1∧Av3 p=true:=by
 have nof:s.f.length=0→False:=fun h0=>by
  rw [List.length_eq_zero_iff.1 h0] at hp;simp at hp
 have nop:Gh s=true→False:=fun h0=>by
  simp only [Gh,Bool.and_eq_true,decide_eq_true_eq] at h0
  exact nof h0.2
 rw [B5] at h
 split at h
 ·simp only [Bool.and_eq_true] at h;exact (nop h.1.1.1).elim
 ·split at h
  ·simp only [Bool.and_eq_true] at h;exact (nop h.1.1.1.1).elim
  ·split at h
   ·simp only [Bool.and_eq_true] at h;exact (nop h.1.1.1).elim
   ·split at h
    ·simp only [Bool.and_eq_true,decide_eq_true_eq] at h;exact (nof h.1.1.1.2).elim
    ·split at h
     ·rename_i k5
      simp only [Bool.and_eq_true] at h
      exact ⟨k5,Aat h.2 p hp⟩
     ·cases h
theorem Sch.Ab9 {s:Sch} {p:SFld} (h:s.valid=true) (hp:p∈s.f):p.s.valid=true:=I7 11 p.s (Am7 h hp).2.2.1
theorem Sch.Adg {s:Sch} (h:s.valid=true):SB s:=Hq 12 s h
end Go.CT.Sch
namespace Go.CT.Sch
open Go.Proofs
end Go.CT.Sch
namespace Go.CT.Sch
open Go.Proofs
abbrev Kid:=Stp × Val × Option Sch
def Atm (key:ByteArray) (x:Val):Stp:=⟨3,key,0,Jy x key⟩
def H9 (key:ByteArray):List ByteArray→List Val→Bool
 | _,[]=>true
 | met,x::l=>isKey x key&& !inB met (Jy x key)&&H9 key (met++ [Jy x key]) l
def kids:Option Sch→Val→List Kid
 | none,_=> []
 | some s,v=>if s.k=v.k then (if v.k=5 then v.f.map fun x=>(C6 x.1,x.2,J6 s x.1) else if v.k=4∧s.key≠Ay∧H9 s.key [] v.l=true then v.l.map fun x=>(Atm s.key x,x,s.it.head?) else []) else []
def Agy (s:ByteArray):Val:=⟨3,0,s,[],[]⟩
def lv:Nat→Option Sch→Val→List Stp→List ByteArray
 | 0,_,_,_=> []
 | d+1,o,v,p=>if kids o v= [] then [Nz p] else (kids o v).flatMap fun x=>lv d x.2.2 x.2.1 (p++ [x.1])
def Er (r:Kid→Val × Bool) (l:List Kid):List (Stp × Val):=l.filterMap fun x=>if (r x).2 then some (x.1,(r x).1) else none
def fieldsOf (l:List (Stp × Val)):List (ByteArray × Val):=l.map fun x=>(x.1.nm,x.2)
def Jb (l:List (Stp × Val)):List Val:=l.map fun x=>Sl x.2 x.1.nm (Agy x.1.vl)
def pt:Nat→Option Sch→Val→List Stp→(ByteArray→Bool)→Val × Bool
  | 0,_,v,_,_=>(v,false)
  | d+1,o,v,p,ch=>if kids o v= [] then (v,ch (Nz p)) else
    (⟨v.k,0,Ay,if v.k=5 then [] else Jb (Er (fun x=>pt d x.2.2 x.2.1 (p++ [x.1]) ch) (kids o v)),
      if v.k=5 then fieldsOf (Er (fun x=>pt d x.2.2 x.2.1 (p++ [x.1]) ch) (kids o v)) else []⟩,
     !(Er (fun x=>pt d x.2.2 x.2.1 (p++ [x.1]) ch) (kids o v)).isEmpty)
theorem X3 {o:Option Sch} {v:Val} {x:Kid} (h:x∈kids o v):x.2.1.size<v.size∧x.2.1.A3<v.A3:=by
 cases o with
 | none=>simp [kids] at h
 | some s=>
  rw [kids] at h
  split at h
  ·split at h
   ·obtain ⟨p,hp,rfl⟩:=List.mem_map.1 h
    have:=Val.Dx hp
    exact ⟨Val.Aqc hp,by show p.2.A3<v.A3;omega⟩
   ·split at h
    ·obtain ⟨p,hp,rfl⟩:=List.mem_map.1 h
     exact ⟨Val.Ap5 hp,Val.Ho hp⟩
    ·simp at h
  ·simp at h
end Go.CT.Sch
namespace Go.CT.Sch
open Go.Proofs
theorem Adz {α β R:Type} (l:List α) (I:Nat→β→Prop) (F:Nat→β→R) (step:β→α→β) (fin:β→R)
  (h1: ∀i (hi:i<l.length) b,I i b→F i b=F (i+1) (step b l[i])∧I (i+1) (step b l[i])) (h0: ∀b,I l.length b→F l.length b=fin b):
  ∀ (n i:Nat) (b:β),i+n=l.length→I i b→F i b=fin ((l.drop i).foldl step b)
 | 0,i,b,h,hI=>by
  have:i=l.length:=by omega
  subst this
  rw [h0 b hI,List.drop_length];rfl
 | n+1,i,b,h,hI=>by
  have hi:i<l.length:=by omega
  obtain ⟨e,hI'⟩:=h1 i hi b hI
  rw [e,Adz l I F step fin h1 h0 n (i+1) _ (by omega) hI',List.drop_eq_getElem_cons hi];rfl
theorem Aib {α β R:Type} (l:List α) (I:Nat→β→Prop) (F:Nat→β→R) (step:β→α→β) (fin:β→R) (b:β)
  (h1: ∀i (hi:i<l.length) b,I i b→F i b=F (i+1) (step b l[i])∧I (i+1) (step b l[i])) (h0: ∀b,I l.length b→F l.length b=fin b) (hI:I 0 b):
  F 0 b=fin (l.foldl step b):=by
 have:=Adz l I F step fin h1 h0 l.length 0 b (by omega) hI
 rwa [List.drop_zero] at this
theorem Ns {α β:Type} (g:α→β): ∀ (l:List α) (b:List β),l.foldl (fun b x=>b++ [g x]) b=b++l.map g
 | [],b=>by simp
 | x::l,b=>by rw [List.foldl_cons,Ns g l];simp
theorem Agz {α:Type} (enc:α→IV) {l:List α} {i:Nat} (h:i<l.length):O.index (.list (l.map enc)) (.int i)=some (enc l[i]):=by
 simp only [O.Ai,Int.natCast_nonneg,if_true,Int.toNat_natCast,List.getElem?_map,List.getElem?_eq_getElem h,Option.map_some]
theorem Pt {α:Type} (enc:α→IV) (l:List α):O.len (.list (l.map enc))=some (.int l.length):=by rw [O.An,List.length_map]
theorem apm {α:Type} (enc:α→IV) {n:Nat} (l:List α) (x:α) (hl:l.length≤137438953471) (hn:n≤1024:=by decide):O.append n (.list (l.map enc)) (.list [enc x])=some (.list ((l++ [x]).map enc)):=by
 rw [O.Bd,if_pos]
 ·simp
 ·have:(l.length+1) * n≤137438953472 * 1024:=Nat.mul_le_mul (by omega) hn
  simp only [List.length_map,List.length_singleton]
  unfold As;omega
theorem lti {i n:Nat} (h:i<n):O.lt (.int i) (.int n)=some (.bool true):=by rw [O.Ak];simp;omega
theorem ltn (n:Nat):O.lt (.int n) (.int n)=some (.bool false):=by rw [O.Ak];simp
theorem nxt {i:Nat} (h:i<4611686018427387904):O.add .i64 (.int i) (.int 1)=some (.int ((i+1:Nat):Int)):=by rw [O.Ap,Bf (by omega)]
def E2 (x:Kid):IV:= .agg [.int x.1.k,.str x.1.nm,.int x.1.ix,.str x.1.vl,.int x.2.1.k,.int x.2.1.n,.str x.2.1.s,.list (x.2.1.l.map Val.enc),.list (x.2.1.f.map Fld.enc),
 .int (x.2.2.getD Cg).k,.int (x.2.2.getD Cg).mn,.int (x.2.2.getD Cg).mx,.list ((x.2.2.getD Cg).en.map .str),.str (x.2.2.getD Cg).key,.list ((x.2.2.getD Cg).it.map Sch.enc),.list ((x.2.2.getD Cg).f.map SFld.enc),.bool x.2.2.isSome]
theorem Ans (x:Kid):O.projs 0 4 (E2 x)=some x.1.enc:=rfl
theorem Alc (x:Kid):O.projs 4 5 (E2 x)=some x.2.1.enc:=by rw [Val.Dr,Val.Bh];rfl
theorem Aul (x:Kid):O.projs 9 7 (E2 x)=some (x.2.2.getD Cg).enc :=by rw [Sch.Dr,Sch.Bh];rfl
theorem kid0 (x:Kid):O.proj 0 (E2 x)=some (.int x.1.k):=rfl
theorem kid1 (x:Kid):O.proj 1 (E2 x)=some (.str x.1.nm):=rfl
theorem kid3 (x:Kid):O.proj 3 (E2 x)=some (.str x.1.vl):=rfl
theorem kid4 (x:Kid):O.proj 4 (E2 x)=some (.int x.2.1.k):=rfl
theorem kid9 (x:Kid):O.proj 9 (E2 x)=some (.int (x.2.2.getD Cg).k):=rfl
theorem Axp (x:Kid):O.proj 13 (E2 x)=some (.str (x.2.2.getD Cg).key):=rfl
theorem Axh (x:Kid):O.proj 16 (E2 x)=some (.bool x.2.2.isSome):=rfl
theorem Ac9 (s:Sch) (p:ByteArray × Val) (hs:s.A3≤1099511627776): ∀ (n i:Nat),i+n=s.f.length→
  ∃r:Int,W F84 1 [.list (s.f.map SFld.enc),Fld.enc p,.int s.f.length,.int i]=some [.int r]∧
   ((((s.f.drop i).find? fun q=>decide (q.nm=p.1))=none∧r<0)∨(∃j:Nat,r=j∧s.f[j]?=((s.f.drop i).find? fun q=>decide (q.nm=p.1))∧((s.f.drop i).find? fun q=>decide (q.nm=p.1)).isSome =true))
 | 0,i,h=>by
  rw [Ahf]
  have h1: ¬ i<s.f.length:=by omega
  refine ⟨-1,by simp [h1],.inl ⟨by simp [List.drop_of_length_le (Nat.le_of_not_lt h1)],by omega⟩⟩
 | n+1,i,h=>by
  have hi:i<s.f.length:=by omega
  have hm:=s.A7
  obtain ⟨r,hr,h2⟩:=Ac9 s p hs n (i+1) (by omega)
  rw [Ahf,List.drop_eq_getElem_cons hi,List.find?_cons]
  simp only [lti hi,Option.bind_some,O.Ab,if_true,Agz SFld.enc hi,Atz,SFld.Bm,Fld.Bm,O.Eg,O.Ah,nxt (show i<4611686018427387904 by omega),hr]
  by_cases c:s.f[i].nm =p.1
  ·refine ⟨i,by simp [c],.inr ⟨i,rfl,by simp [c],by simp [c]⟩⟩
  ·have c':decide (s.f[i].nm =p.1)=false:=by simpa using c
   simp only [c',Bool.false_eq_true,if_false]
   exact ⟨r,rfl,h2⟩
def Ei (s:Sch) (x:ByteArray × Val):Kid:=(C6 x.1,x.2,J6 s x.1)
theorem Af3 (s:Sch) (v:Val) (hs:s.A3≤1099511627776) (hv:v.A3≤1048576):W F83 0 [s.enc,v.enc]=some [.list ((v.f.map (Ei s)).map E2)]:=by
 have hl:=v.A7
 rw [At9]
 simp only [Val.Ch,Option.bind_some,Pt]
 refine (Aib v.f (fun i (b:List Kid)=>b.length=i) (fun i b=>W F83 1 [.list (v.f.map Fld.enc),.int v.f.length,.int i,s.enc,.list (b.map E2)]) (fun b x=>b++ [Ei s x]) (fun b=>some [.list (b.map E2)]) [] ?_ ?_ rfl).trans ?_
 ·intro i hi b hb
  refine ⟨?_,by simp [hb]⟩
  rw [Ave]
  have e2: ∀ (o:Option Sch),J6 s v.f[i].1 =o→W F83 2 [.list (v.f.map Fld.enc),.int v.f.length,.int i,s.enc,.list (b.map E2),.int 1,.str v.f[i].1,.int 0,.str ⟨#[]⟩,.int v.f[i].2.k,.int v.f[i].2.n,.str v.f[i].2.s,.list (v.f[i].2.l.map Val.enc),.list (v.f[i].2.f.map Fld.enc),
    .int (o.getD Cg).k,.int (o.getD Cg).mn,.int (o.getD Cg).mx,.list ((o.getD Cg).en.map .str),.str (o.getD Cg).key,.list ((o.getD Cg).it.map Sch.enc),.list ((o.getD Cg).f.map SFld.enc),.bool o.isSome]=
    W F83 1 [.list (v.f.map Fld.enc),.int v.f.length,.int (i+1:Nat),s.enc,.list ((b++ [Ei s v.f[i]]).map E2)]:=by
   rintro o rfl
   have ha:=apm E2 (n:=248) b (Ei s v.f[i]) (by omega)
   rw [Ar3]
   simp only [O.Bl,O.Bj,Option.bind_some,nxt (show i<4611686018427387904 by omega)]
   have he:(IV.agg [.int 1,.str v.f[i].1,.int 0,.str ⟨#[]⟩,.int v.f[i].2.k,.int v.f[i].2.n,.str v.f[i].2.s,.list (v.f[i].2.l.map Val.enc),.list (v.f[i].2.f.map Fld.enc),
    .int ((J6 s v.f[i].1).getD Cg).k,.int ((J6 s v.f[i].1).getD Cg).mn,.int ((J6 s v.f[i].1).getD Cg).mx,.list (((J6 s v.f[i].1).getD Cg).en.map .str),.str ((J6 s v.f[i].1).getD Cg).key,.list (((J6 s v.f[i].1).getD Cg).it.map Sch.enc),.list (((J6 s v.f[i].1).getD Cg).f.map SFld.enc),.bool (J6 s v.f[i].1).isSome])=E2 (Ei s v.f[i]):=rfl
   rw [he,ha];rfl
  simp only [lti hi,Option.bind_some,O.Ab,if_true,Agz Fld.enc hi,Fld.Bm,Fld.Kd,Val.Bm,Val.Db,Val.Dy,Val.B7,Val.Ch,Sch.H3,Pt,O.Bu]
  cases hit:s.it with
  | cons t ts=>
   have hsub:J6 s v.f[i].1 =some t:=by unfold J6;rw [hit]
   have:=e2 (some t) hsub
   simp only [Option.getD_some,Option.isSome_some] at this
   have h0:(0:Int)<((t::ts).length :Nat):=by simp
   simp only [h0,decide_true,if_true,List.map_cons,O.Ai,Int.le_refl,Int.toNat_zero,List.getElem?_cons_zero,Option.bind_some,Sch.Bm,Sch.Db,Sch.Dy,Sch.B7,Sch.Ch,Sch.H3,Sch.G6]
   exact this
  | nil=>
   have hsub:J6 s v.f[i].1 =(s.fld v.f[i].1).map (·.s):=by unfold J6;rw [hit]
   obtain ⟨r,hr,h2⟩:=Ac9 s v.f[i] hs s.f.length 0 (by omega)
   have hr':W F84 0 [.list (s.f.map SFld.enc),Fld.enc v.f[i]]=some [.int r]:=by
    rw [Asa]
    simpa using hr
   simp only [List.drop_zero] at h2
   have hf:(s.f.find? fun p=>decide (p.nm=v.f[i].1))=s.fld v.f[i].1 :=rfl
   rw [hf] at h2
   have h0: ¬ (0:Int)<(([]:List Sch).length :Nat):=by simp
   simp only [h0,decide_false,Bool.false_eq_true,if_false,Sch.G6,Option.bind_some,hr',O.Ah,O.Gj,O.Ab]
   rcases h2 with ⟨h3,h4⟩ | ⟨j,rfl,h3,h4⟩
   ·have hn: ¬ (0:Int)≤r:=by omega
    have:=e2 none (by rw [hsub,h3];rfl)
    simp only [Option.getD_none,Option.isSome_none] at this
    simp only [hn,decide_false,Bool.false_eq_true,if_false]
    exact this
   ·obtain ⟨d,hd⟩:=Option.isSome_iff_exists.1 h4
    rw [hd] at h3
    have:=e2 (some d.s) (by rw [hsub,hd];rfl)
    simp only [Option.getD_some,Option.isSome_some] at this
    simp only [Int.natCast_nonneg,decide_true,if_true,O.Ai,Int.toNat_natCast,List.getElem?_map,h3,Option.map_some,Option.bind_some,SFld.Zv,Sch.Bm,Sch.Db,Sch.Dy,Sch.B7,Sch.Ch,Sch.H3,Sch.G6]
    exact this
 ·intro b hb
  rw [Ave]
  simp only [ltn,Option.bind_some,O.Ab,Bool.false_eq_true,if_false]
 ·rw [Ns];rfl
end Go.CT.Sch
namespace Go.CT.Sch
open Go.Proofs
theorem Avh (ks:List ByteArray) (s:ByteArray):O.Ak0 (.bool false) (.list (U9 ks)) (.str s)=some (.bool (inB ks s)):=by
 unfold O.Ak0
 simp only [Prim.ev,Aar,Option.map_some]
 cases inB ks s<;>simp
theorem Avj (ks:List ByteArray) (s:ByteArray): ∃b,O.Ags (.list (U9 ks)) (.str s)=some (.bool b):=by
 unfold O.Ags
 simp only [Prim.ev,Aar,Option.map_some]
 exact ⟨_,rfl⟩
theorem Avk (ks:List ByteArray) (s:ByteArray):O.Akj (.list (U9 ks)) (.str s) (.bool true)=some (.list (U9 (if inB ks s then ks else ks++ [s]))):=by
 unfold O.Akj
 simp only [Prim.ev,Apw,Option.map_some]
def Eb (s:Sch) (x:Val):Kid:=(Atm s.key x,x,s.it.head?)
theorem Ng (s t:Sch) (v:Val) (ht:s.it= [t]) (hv:v.A3≤1048576): ∀ (n i:Nat) (b:List Kid) (acc:List ByteArray),i+n=v.l.length→b.length=i→
  W F86 1 [.list (v.l.map Val.enc),.int v.l.length,.int i,s.enc,.list (b.map E2),.list (U9 acc)]=some [.list ((if H9 s.key acc (v.l.drop i) then b++(v.l.drop i).map (Eb s) else []).map E2)]
 | 0,i,b,acc,h,hb=>by
  have:i=v.l.length:=by omega
  subst this
  rw [Alf,List.drop_length,H9]
  simp only [ltn,Option.bind_some,O.Ab,Bool.false_eq_true,if_false,if_true,List.map_nil,List.append_nil]
 | n+1,i,b,acc,h,hb=>by
  have hi:i<v.l.length:=by omega
  have hl:=v.Ct
  have hm:=Val.Ho (List.getElem_mem hi)
  have hg:=Ald v.l[i] s.key (by omega)
  obtain ⟨bb,hh⟩:=Avj acc (Jy v.l[i] s.key)
  have hh':O.Ags (.list (U9 acc)) (.str ((v.l[i].get s.key).getD Bi).s)=some (.bool bb):=hh
  have hms:=Avk acc (Jy v.l[i] s.key)
  have hmg:=Avh acc (Jy v.l[i] s.key)
  unfold Jy at hms hmg
  rw [Alf,List.drop_eq_getElem_cons hi,H9]
  simp only [lti hi,Option.bind_some,O.Ab,if_true,Agz Val.enc hi,Sch.Ch,hg,J2,Kw,O.Az,O.D7,Ar,Al,hmg,hh']
  unfold isKey Jy
  cases c1:(v.l[i].get s.key).isSome with
  | false=>simp
  | true=>
   by_cases c2:((v.l[i].get s.key).getD Bi).k =3
   ·cases c3:inB acc ((v.l[i].get s.key).getD Bi).s with
    | true=>simp [c2]
    | false=>
     have ih:=Ng s t v ht hv n (i+1) (b++ [Eb s v.l[i]]) (acc++ [Jy v.l[i] s.key]) (by omega) (by simp [hb])
     have ha:=apm E2 (n:=248) b (Eb s v.l[i]) (by omega)
     have he:(IV.agg [.int 3,.str s.key,.int 0,.str ((v.l[i].get s.key).getD Bi).s,.int v.l[i].k,.int v.l[i].n,.str v.l[i].s,.list (v.l[i].l.map Val.enc),.list (v.l[i].f.map Fld.enc),
      .int t.k,.int t.mn,.int t.mx,.list (t.en.map .str),.str t.key,.list (t.it.map Sch.enc),.list (t.f.map SFld.enc),.bool true])=E2 (Eb s v.l[i]):=by
      unfold Eb E2;rw [ht];rfl
     simp only [c2,decide_true,Bool.not_true,Bool.false_eq_true,if_false,hms,c3,Option.bind_some,Sch.H3,ht,List.map_cons,List.map_nil,O.Ai,Int.le_refl,if_true,Int.toNat_zero,List.getElem?_cons_zero,Sch.Bm,Sch.Db,Sch.Dy,Sch.B7,Sch.Ch,Sch.G6,
      Val.Bm,Val.Db,Val.Dy,Val.B7,Val.Ch,O.Bl,O.Bj,nxt (show i<4611686018427387904 by omega),Bool.not_false,Bool.true_and,Bool.and_true]
     rw [he,ha]
     simp only [Option.bind_some]
     refine ih.trans ?_
     unfold Jy
     simp only [List.append_assoc,List.singleton_append]
   ·simp [c2]
theorem Ab3 (s t:Sch) (v:Val) (ht:s.it= [t]) (hv:v.A3≤1048576):W F86 0 [s.enc,v.enc]=some [.list ((if H9 s.key [] v.l then v.l.map (Eb s) else []).map E2)]:=by
 have:=Ng s t v ht hv v.l.length 0 [] [] (by omega) rfl
 rw [List.drop_zero] at this
 rw [Atu]
 simp only [Val.B7,Option.bind_some,Pt]
 exact this
theorem Abq (x:Kid) (hsb: ∀s,x.2.2=some s→SB s∧s.A3≤1048576) (hv:x.2.1.A3≤1048576):W F82 0 [E2 x]=some [.list ((kids x.2.2 x.2.1).map E2)]:=by
 obtain ⟨st,v,o⟩:=x
 rw [Aum]
 simp only [Axh,kid9,kid4,Axp,Aul,Alc,Option.bind_some,O.Az,O.D7,O.Ab,Ar,Al]
 cases o with
 | none=>simp [kids]
 | some s=>
  obtain ⟨hsb,hs⟩:=hsb s rfl
  simp only [Option.isSome_some,Bool.not_true,Bool.false_eq_true,if_false,Option.getD_some]
  rw [kids]
  by_cases c1:s.k=v.k
  ·simp only [c1,decide_true,Bool.not_true,Bool.false_eq_true,if_false,if_true,O.eq_int,Option.bind_some]
   by_cases c2:v.k=5
   ·simp only [c2,decide_true,if_true,Af3 s v (by omega) hv,O.Ah];rfl
   ·simp only [c2,decide_false,Bool.false_eq_true,if_false,O.Ab,Ar,O.Hd,Option.bind_some,Al]
    by_cases c3:v.k=4
    ·have hl:=hsb.list (by omega)
     obtain ⟨t,ht⟩: ∃t,s.it= [t]:=List.length_eq_one_iff.1 hl
     by_cases c4:s.key=Ay
     ·have:s.key=(⟨#[]⟩:ByteArray):=c4
      have e:decide (Ay=(⟨#[]⟩:ByteArray))=true:=rfl
      simp only [c3,decide_true,if_true,e,Bool.not_true,Bool.false_eq_true,if_false,c4,ne_eq,not_true_eq_false,false_and,and_false,List.map_nil]
     ·have c4': ¬ s.key=(⟨#[]⟩:ByteArray):=c4
      simp only [c3,decide_true,if_true,c4',decide_false,Bool.not_false,Ab3 s t v ht hv,O.Ah,true_and,c4,ne_eq,not_false_eq_true]
      rfl
    ·simp [c3]
  ·simp [c1]
theorem Al9 (p:List Stp) (s:Stp) (hl:p.length≤1073741824):W F88 0 [.list (p.map Stp.enc),s.enc]=some [.list ((p++ [s]).map Stp.enc)]:=by
 have h1:O.K5 [.list (p.map Stp.enc)]=some [.list (p.map Stp.enc)]:=Gq (by rw [List.length_map];omega)
 rw [Aqn]
 simp only [Awd,h1,O.Ah,O.Bj,Option.bind_some,apm Stp.enc (n:=48) p s (by omega)]
def OSB (o:Option Sch):Prop:= ∀s,o=some s→SB s∧s.A3≤1048576
theorem Ah2 {o:Option Sch} {v:Val} (h:OSB o) {x:Kid} (hx:x∈kids o v):OSB x.2.2:=by
 cases o with
 | none=>simp [kids] at hx
 | some s=>
  obtain ⟨h1,h2⟩:=h s rfl
  rw [kids] at hx
  split at hx
  ·split at hx
   ·obtain ⟨p,hp,rfl⟩:=List.mem_map.1 hx
    intro t ht
    have:=N2 ht
    exact ⟨h1.sub ht,by omega⟩
   ·split at hx
    ·obtain ⟨p,hp,rfl⟩:=List.mem_map.1 hx
     intro t ht
     have hm:=List.mem_of_head? ht
     have:=Sch.Ij hm
     exact ⟨h1.Ra hm,by omega⟩
    ·simp at hx
  ·simp at hx
theorem Zg {o:Option Sch} {v:Val} (h:OSB o) (hv:v.A3≤1048576) {x:Kid} (hx:x∈kids o v):x.1.fits:=by
 cases o with
 | none=>simp [kids] at hx
 | some s=>
  obtain ⟨h1,h2⟩:=h s rfl
  rw [kids] at hx
  split at hx
  ·split at hx
   ·obtain ⟨p,hp,rfl⟩:=List.mem_map.1 hx
    have:=Val.Dx hp
    exact Gm _ (by omega)
   ·split at hx
    ·obtain ⟨p,hp,rfl⟩:=List.mem_map.1 hx
     have:=Val.Ho hp
     have h3:=Adj p s.key
     have:=s.Wj
     exact ⟨by show s.key.size≤_;omega,by show (Jy p s.key).size ≤_;unfold Jy;omega⟩
    ·simp at hx
  ·simp at hx
end Go.CT.Sch
namespace Go.CT.Sch
open Go.Proofs
theorem Aoh (s:Sch) (v:Val) (hs:s.A3≤1048576) (hv:v.A3≤1048576):W F13 0 [s.enc,v.enc]=some [.bool (s.valid&&v.valid)]:=by
 rw [As5]
 simp only [Aht s hs,N9 v (by omega),O.Ah,O.Ab,Ar,Al,Option.bind_some]
 cases s.valid<;>cases v.valid<;>rfl
end Go.CT.Sch
namespace Go.CT.Sch
open Go.Proofs
theorem Agq {s:Sch} {v:Val} {i:Nat} (hk:Ed v s.key=true):E8 s.key v i=Atm s.key v:=by
 unfold E8 Atm;rw [if_pos hk]
theorem Px {key:ByteArray} : ∀ {l:List Val} {acc:List ByteArray},H9 key acc l=true→ ∀x∈l,isKey x key=true
 | [],_,_=>by simp
 | y::l,acc,h=>by
  simp only [H9,Bool.and_eq_true] at h
  intro x hx
  rcases List.mem_cons.1 hx with rfl | hx
  ·exact h.1.1
  ·exact Px h.2 x hx
theorem U4 (s:Sch) (v:Val) (hv:v.A3≤1048576) (i:Nat) (hi:i<v.l.length) (a:ByteArray): ∀ (n k:Nat),k+n=i→
  W Agt 2 [.int i,.str a,.int k,s.enc,v.enc]=if inB (((v.l.take i).drop k).map fun x=>Jy x s.key) a then some [.bool false] else W Agt 1 [.int (i+1:Nat),s.enc,v.enc]
 | 0,k,h=>by
  have:k=i:=by omega
  subst this
  have hl:=v.Ct
  rw [Aew,List.drop_of_length_le (by rw [List.length_take];omega)]
  simp only [ltn,Option.bind_some,O.Ab,Bool.false_eq_true,if_false,nxt (show k<4611686018427387904 by omega),List.map_nil,inB,List.any_nil]
 | n+1,k,h=>by
  have hk:k<i:=by omega
  have hkl:k<v.l.length:=by omega
  have hl:=v.Ct
  have hm:=Val.Ho (List.getElem_mem hkl)
  have hk2:k<(v.l.take i).length :=by rw [List.length_take];omega
  have ih:=U4 s v hv i hi a n (k+1) (by omega)
  rw [Aew,List.drop_eq_getElem_cons hk2,List.map_cons,Lk]
  simp only [lti hk,Option.bind_some,O.Ab,if_true,Val.B7,Agz Val.enc hkl,Sch.Ch,Kg v.l[k] s.key (by omega),O.Cz,O.Eg,nxt (show k<4611686018427387904 by omega),ih,List.getElem_take]
  by_cases c:a=Jy v.l[k] s.key
  ·simp [c]
  ·simp [c]
theorem T9 (s:Sch) (v:Val) (hv:v.A3≤1048576) (hne:s.key≠Ay): ∀ (n i:Nat),i+n=v.l.length→
  W Agt 1 [.int i,s.enc,v.enc]=some [.bool (H9 s.key ((v.l.take i).map fun x=>Jy x s.key) (v.l.drop i))]
 | 0,i,h=>by
  have:i=v.l.length:=by omega
  subst this
  rw [Aeh,List.drop_length,H9]
  simp only [Val.B7,Pt,ltn,Option.bind_some,O.Ab,Bool.false_eq_true,if_false]
 | n+1,i,h=>by
  have hi:i<v.l.length:=by omega
  have hm:=Val.Ho (List.getElem_mem hi)
  have ih:=T9 s v hv hne n (i+1) (by omega)
  have h2:=U4 s v hv i hi (Jy v.l[i] s.key) i 0 (by omega)
  rw [List.drop_zero] at h2
  have hh:Ed v.l[i] s.key=isKey v.l[i] s.key:=by unfold Ed;simp [hne]
  have ht:v.l.take (i+1)=v.l.take i++ [v.l[i]]:=(P9 v.l hi).symm
  rw [ht,List.map_append] at ih
  rw [Aeh,List.drop_eq_getElem_cons hi,H9]
  simp only [Val.B7,Pt,lti hi,Option.bind_some,O.Ab,if_true,Agz Val.enc hi,Sch.Ch,Kg v.l[i] s.key (by omega),O.Cz,O.Az,hh]
  simp only [Int.cast_ofNat_Int] at h2
  cases c1:isKey v.l[i] s.key with
  | false=>simp
  | true=>
   simp only [Bool.not_true,Bool.false_eq_true,if_false,h2,ih,List.map_cons,List.map_nil,Bool.true_and]
   cases inB ((v.l.take i).map fun x=>Jy x s.key) (Jy v.l[i] s.key)<;>simp
theorem Al3 (s:Sch) (v:Val) (hv:v.A3≤1048576):W Agt 0 [s.enc,v.enc]=some [.bool (decide (s.k=4∧v.k=4∧s.key≠Ay∧v.l≠ [])&&H9 s.key [] v.l)]:=by
 rw [Anz]
 simp only [Sch.Bm,Option.bind_some,O.D7,O.Ab,Sch.Ch,O.Eg,Val.Bm,Val.B7,Pt,O.eq_int,Ar,Al]
 by_cases c1:s.k=4
 ·by_cases c2:s.key=Ay
  ·have e:decide (Ay=(⟨#[]⟩:ByteArray))=true:=rfl
   simp [c1,c2,e]
  ·have e:decide (s.key=(⟨#[]⟩:ByteArray))=false:=decide_eq_false c2
   by_cases c3:v.k=4
   ·by_cases c4:v.l= []
    ·simp [c1,c4]
    ·have c4': ¬ (v.l.length:Int)=0:=by
      have:v.l.length≠0:=fun e=>c4 (List.length_eq_zero_iff.1 e)
      omega
     have:=T9 s v hv c2 v.l.length 0 (by omega)
     simp only [List.take_zero,List.map_nil,List.drop_zero,Int.cast_ofNat_Int] at this
     simp only [c1,e,c3,c4',decide_true,decide_false,Bool.not_true,Bool.false_eq_true,if_false,this,c2,c4,ne_eq,not_false_eq_true,and_self,Bool.true_and]
   ·simp [c1,c3]
 ·simp [c1]
def oE (o:Option Sch):IV:=(o.getD Cg).enc
theorem Yp (o:Option Sch) (v:Val) (hv:v.A3≤1048576):W Axi 0 [oE o,.bool o.isSome,v.enc]=some [.bool !(kids o v).isEmpty]:=by
 rw [Ao3]
 cases o with
 | none=>simp [kids]
 | some s=>
  simp only [oE,Option.isSome_some,O.Ab,if_true,Option.getD_some,Al3 s v hv,O.Ah,Option.bind_some,Sch.Bm,O.eq_int,Val.Bm,Val.Ch,Pt,O.Bu,Ar,Al]
  congr 3
  rw [kids]
  by_cases c1:s.k=v.k
  ·rw [if_pos c1,c1]
   by_cases c2:v.k=5
   ·rw [if_pos c2,List.isEmpty_map]
    cases v.f<;>simp [c2]
   ·rw [if_neg c2]
    by_cases c3:v.k=4
    ·by_cases c4:s.key=Ay
     ·simp [c4,c3]
     ·cases hl:v.l with
      | nil=>simp [c3]
      | cons a l=>
       cases hk:H9 s.key [] (a::l)<;>simp [c3,c4]
    ·simp [c3,c2]
  ·rw [if_neg c1]
   by_cases c2:s.k=5
   ·have: ¬ v.k=5:=fun e=>c1 (c2.trans e.symm)
    simp [c2,this]
   ·by_cases c3:s.k=4
    ·have: ¬ v.k=4:=fun e=>c1 (c3.trans e.symm)
     simp [c3,this]
    ·simp [c2,c3]
theorem T1 (s:Sch) (nm:ByteArray) (hs:s.A3≤1048576) (y3 y4 y5 y6:IV): ∀ (n i:Nat),i+n=s.f.length→
  W Auz 1 [.str nm,.int i,s.enc,y3,y4,y5,y6]=some [oE (((s.f.drop i).find? fun p=>decide (p.nm=nm)).map (·.s)),.bool ((s.f.drop i).find? fun p=>decide (p.nm=nm)).isSome]
 | 0,i,h=>by
  have:i=s.f.length:=by omega
  subst this
  rw [Ac8,List.drop_length]
  simp only [Sch.G6,Pt,ltn,Option.bind_some,O.Ab,Bool.false_eq_true,if_false,O.Bl];rfl
 | n+1,i,h=>by
  have hi:i<s.f.length:=by omega
  have hm:=s.A7
  have ih:=T1 s nm hs y3 y4 y5 y6 n (i+1) (by omega)
  rw [Ac8,List.drop_eq_getElem_cons hi,List.find?_cons]
  simp only [Sch.G6,Pt,lti hi,Option.bind_some,O.Ab,if_true,Agz SFld.enc hi,SFld.Bm,O.Eg,SFld.Zv,nxt (show i<4611686018427387904 by omega),ih]
  by_cases c:s.f[i].nm =nm
  ·simp [c,oE]
  ·have c':decide (s.f[i].nm =nm)=false:=by simpa using c
   simp only [c',Bool.false_eq_true,if_false]
theorem Als (s:Sch) (nm:ByteArray) (hs:s.A3≤1048576) (hsb:SB s):W Auz 0 [s.enc,.str nm]=some [oE (J6 s nm),.bool (J6 s nm).isSome]:=by
 have h1:=hsb.one
 have:=T1 s nm hs (.int 0) (.int 0) (.int 0) (.str ⟨#[]⟩) s.f.length 0 (by omega)
 rw [List.drop_zero] at this
 rw [Aly]
 simp only [Sch.H3,Option.bind_some,Pt,O.eq_int,O.Ab]
 unfold J6
 cases hit:s.it with
 | nil=>
  have h0:decide (((([]:List Sch).length :Nat):Int)=1)=false:=by decide
  simp only [h0,Bool.false_eq_true,if_false,Option.isSome_map]
  exact this
 | cons t ts=>
  have hn:ts= []:=by rw [hit] at h1;simp at h1;exact h1
  subst hn
  simp [oE]
end Go.CT.Sch
namespace Go.CT.Sch
open Go.Proofs
theorem Asg (s:Sch) (v:Val) (hs:s.A3≤1048576) (hv:v.A3≤1048576):W Axr 0 [s.enc,v.enc]=some [.bool (s.valid&&v.valid)]:=by
 rw [Aoe]
 simp only [Af8 s hs,Xt v (by omega),O.Ah,O.Ab,Ar,Al,Option.bind_some]
 cases s.valid<;>cases v.valid<;>rfl
end Go.CT.Sch
namespace Go.CT.Sch
open Go.Proofs
theorem Y5 (v:Val) (hv:v.A3≤1099511627776) (n:Int) (h0:0≤n) (h1:n≤1000): ∃b,W F3 0 [v.enc,.int n]=some [.bool b]:=by
 obtain ⟨r,h,_⟩:=Ajn v hv n n (by omega) (by omega) (by omega)
 exact ⟨decide (0≤r),by rw [Avv];simp [h]⟩
def PtT (s:Sch):Prop:=s.A3≤1048576→ ∀c:Int,c≤100000→ ∃r:Int,W F2 0 [s.enc,.int c]=some [.int r]∧r≤100000
theorem Ajp (s:Sch) (hs:s.A3≤1048576) (c:Int) (i:Nat) (hi:i<s.f.length) (K: ∃r:Int,(∃r':Int,W F2 0 [s.f[i].s.enc,.int c]=some [.int r']∧W F2 2 [.int r',.int (i+1:Nat),s.enc]=some [.int r])∧r≤100000): ∀ (n j:Nat),j+n=s.f[i].df.length →
  ∃r:Int,W F2 3 [.int c,.int i,.int j,s.enc]=some [.int r]∧r≤100000
 | 0,j,h=>by
  have hj:j=s.f[i].df.length :=by omega
  subst hj
  have hm:=s.A7
  obtain ⟨r,⟨r',h1,h2⟩,h3⟩:=K
  rw [Apf]
  exact ⟨r,by simp only [Sch.G6,Option.bind_some,Agz SFld.enc hi,SFld.B7,Pt,ltn,O.Ab,Bool.false_eq_true,if_false,SFld.Zv,h1,O.Ah,nxt (show i<4611686018427387904 by omega),h2],h3⟩
 | n+1,j,h=>by
  have hj:j<s.f[i].df.length :=by omega
  have hd:=Sch.Ahn (List.getElem_mem hi) (List.getElem_mem hj)
  have hl:s.f[i].df.length ≤4294967296:=by
   have:=Sch.Dx (List.getElem_mem hi)
   have:=Mv s.f[i].df
   omega
  obtain ⟨b,hb⟩:=Y5 s.f[i].df[j] (by omega) 50 (by omega) (by omega)
  obtain ⟨r,hr,hr2⟩:=Ajp s hs c i hi K n (j+1) (by omega)
  rw [Apf]
  simp only [Sch.G6,Option.bind_some,Agz SFld.enc hi,SFld.B7,Pt,lti hj,O.Ab,if_true,O.Bu,Agz Val.enc hj,hb,O.Ah,O.Az,Ar,Al,nxt (show j<4611686018427387904 by omega),hr]
  by_cases c1:(2:Int)<j
  ·exact ⟨-1,by simp [c1],by omega⟩
  ·cases b
   ·exact ⟨-1,by simp [c1],by omega⟩
   ·exact ⟨r,by simp [c1],hr2⟩
theorem Abv (s:Sch) (hs:s.A3≤1048576) (ih: ∀p∈s.f,PtT p.s): ∀ (n i:Nat) (c:Int),i+n=s.f.length→c≤100000→
  ∃r:Int,W F2 2 [.int c,.int i,s.enc]=some [.int r]∧r≤100000
 | 0,i,c,h,hc=>by
  have hi:i=s.f.length:=by omega
  subst hi
  rw [Ao8]
  exact ⟨c,by simp only [Sch.G6,Option.bind_some,Pt,ltn,O.Ab,Bool.false_eq_true,if_false],hc⟩
 | n+1,i,c,h,hc=>by
  have hi:i<s.f.length:=by omega
  have hm:=Sch.Dx (List.getElem_mem hi)
  obtain ⟨r',h1,h2⟩:=ih _ (List.getElem_mem hi) (by omega) c hc
  obtain ⟨r,h3,h4⟩:=Abv s hs ih n (i+1) r' (by omega) h2
  obtain ⟨r2,h5,h6⟩:=Ajp s hs c i hi ⟨r,⟨r',h1,h3⟩,h4⟩ s.f[i].df.length 0 (by omega)
  have h5':W F2 3 [.int c,.int i,.int 0,s.enc]=some [.int r2]:=h5
  rw [Ao8]
  by_cases c1:0≤c
  ·exact ⟨r2,by simp only [Sch.G6,Option.bind_some,Pt,lti hi,O.Ab,if_true,O.Gj,c1,decide_true,h5'],h6⟩
  ·exact ⟨c,by simp only [Sch.G6,Option.bind_some,Pt,lti hi,O.Ab,if_true,O.Gj,c1,decide_false,Bool.false_eq_true,if_false],hc⟩
theorem Ajh (s:Sch) (hs:s.A3≤1048576) (ih: ∀t∈s.it,PtT t) (ihf: ∀p∈s.f,PtT p.s): ∀ (n i:Nat) (c:Int),i+n=s.it.length→c≤100000→
  ∃r:Int,W F2 1 [.int c,.int i,s.enc]=some [.int r]∧r≤100000
 | 0,i,c,h,hc=>by
  have hi:i=s.it.length:=by omega
  subst hi
  obtain ⟨r,h1,h2⟩:=Abv s hs ihf s.f.length 0 c (by omega) hc
  have h1':W F2 2 [.int c,.int 0,s.enc]=some [.int r]:=h1
  rw [Ap0]
  exact ⟨r,by simp only [Sch.H3,Option.bind_some,Pt,ltn,O.Ab,Bool.false_eq_true,if_false,h1'],h2⟩
 | n+1,i,c,h,hc=>by
  have hi:i<s.it.length:=by omega
  have hl:=s.Aau
  have hm:=Sch.Ij (List.getElem_mem hi)
  obtain ⟨r',h1,h2⟩:=ih _ (List.getElem_mem hi) (by omega) c hc
  obtain ⟨r,h3,h4⟩:=Ajh s hs ih ihf n (i+1) r' (by omega) h2
  obtain ⟨r2,h5,h6⟩:=Abv s hs ihf s.f.length 0 c (by omega) hc
  have h5':W F2 2 [.int c,.int 0,s.enc]=some [.int r2]:=h5
  rw [Ap0]
  by_cases c1:0≤c
  ·exact ⟨r,by simp only [Sch.H3,Option.bind_some,Pt,lti hi,O.Ab,if_true,O.Gj,c1,decide_true,Agz Sch.enc hi,h1,O.Ah,nxt (show i<4611686018427387904 by omega),h3],h4⟩
  ·exact ⟨r2,by simp only [Sch.H3,Option.bind_some,Pt,lti hi,O.Ab,if_true,O.Gj,c1,decide_false,Bool.false_eq_true,if_false,h5'],h6⟩
theorem Ah5: ∀s:Sch,PtT s:=by
 refine Sch.ind fun s ih1 ih2 hs c hc=>?_
 rw [Awa]
 simp only [O.Dv,Option.bind_some,O.Ab,Sch.B7,Pt,O.Bu,Ar,Al,O.B6]
 by_cases c1:c≤0
 ·exact ⟨-1,by simp [c1],by omega⟩
 ·by_cases c2:(100:Int)<s.en.length
  ·exact ⟨-1,by simp [c1,c2],by omega⟩
  ·have hw:IntKind.i64.wrap (c - 1)=c - 1:=wrap64 (by omega) (by omega)
   obtain ⟨r,h1,h2⟩:=Ajh s hs ih1 ih2 s.it.length 0 (c - 1) (by omega) (by omega)
   have h1':W F2 1 [.int (c - 1),.int 0,s.enc]=some [.int r]:=h1
   exact ⟨r,by simp only [c1,c2,decide_false,Bool.false_eq_true,if_false,hw,h1'],h2⟩
theorem Aha (s:Sch) (v:Val) (l:List ByteArray) (hs:s.A3≤1048576) (hv:v.A3≤1048576): ∃b,W F1 0 [s.enc,v.enc,SL l]=some [.bool b]:=by
 obtain ⟨r,h1,_⟩:=Ah5 s hs 60 (by omega)
 obtain ⟨b,h2⟩:=Y5 v (by omega) 100 (by omega) (by omega)
 rw [Avf]
 simp only [h1,O.Ah,O.Gj,Option.bind_some,O.Ab,h2,Ar,Srt.len,O.Dv,Al]
 exact ⟨_,rfl⟩
end Go.CT.Sch
namespace Go.CT.Sch
open Go.Proofs
theorem Ib (p:ByteArray × Val) (nm:ByteArray):W Awv 0 [Fld.enc p,.str nm]=some [.bool (decide (p.1=nm))]:=by
 rw [Aoa];simp
theorem Zk (l:List (ByteArray × Val)) (nm:ByteArray) (hl:l.length≤1099511627776): ∀ (n i:Nat),i+n=l.length→(∀p∈l.take i,¬ p.1=nm)→
  (W Aux 1 [.list (l.map Fld.enc),.str nm,.int l.length,.int i]=some [.int (-1)]∧ ∀p∈l,¬ p.1=nm)∨
  ∃j,∃h:j<l.length,W Aux 1 [.list (l.map Fld.enc),.str nm,.int l.length,.int i]=some [.int (j:Nat)]∧l[j].1 =nm∧ ∀p∈l.take j,¬ p.1=nm
 | 0,i,h,hp=>by
  left
  rw [Ad9]
  have h1: ¬ i<l.length:=by omega
  rw [List.take_of_length_le (by omega)] at hp
  refine ⟨?_,hp⟩
  simp only [O.Ak,Ao,h1,decide_false,Option.bind_some,O.Ab,Bool.false_eq_true,if_false]
 | n+1,i,h,hp=>by
  have hi:i<l.length:=by omega
  have hw:=Bf (i:=i) (by omega)
  rw [Ad9]
  by_cases c:l[i].1 =nm
  ·right
   refine ⟨i,hi,?_,c,hp⟩
   simp only [O.Ak,Ao,hi,decide_true,Option.bind_some,O.Ab,if_true,O.Ai,Int.natCast_nonneg,Int.toNat_natCast,List.getElem?_map,List.getElem?_eq_getElem hi,Option.map_some,Ib,O.Ah,c]
  ·have:=Zk l nm hl n (i+1) (by omega) (by
    intro p hp'
    rw [←P9 l hi] at hp'
    rcases List.mem_append.1 hp' with h | h
    ·exact hp p h
    ·simp at h;subst h;exact c)
   simp only [O.Ak,Ao,hi,decide_true,Option.bind_some,O.Ab,if_true,O.Ai,Int.natCast_nonneg,Int.toNat_natCast,List.getElem?_map,List.getElem?_eq_getElem hi,Option.map_some,Ib,O.Ah,c,decide_false,Bool.false_eq_true,if_false,O.Ap,hw]
   exact this
theorem J9 (nm:ByteArray): ∀ (rest kept junk:List (ByteArray × Val)),junk≠ []→kept.length+junk.length+rest.length≤1099511627776→
  W Ali 1 [.str nm,.int kept.length,.int (kept.length+junk.length:Nat),Srt.LE Fld.enc (kept++(junk++rest))]=some [Srt.LE Fld.enc (kept++rest.filter (E6 nm))]
 | [],kept,junk,hj,hb=>by
  have hj':=List.length_pos_iff.2 hj
  rw [Ae6,Srt.len]
  have h1: ¬ ((kept.length+junk.length:Nat):Int)<(kept++(junk++ [])).length :=by simp
  have hc: ∀z:IV,O.clear z (Srt.LE Fld.enc (kept++(junk++ []))) (.int kept.length) (.int (kept++(junk++ [])).length)=some (.list (kept.map Fld.enc++List.replicate junk.length z)):=by
   intro z
   unfold O.clear Srt.LE
   simp only [Prim.ev,List.append_nil,List.length_map,List.length_append,Int.natCast_nonneg,true_and,Int.toNat_natCast,Nat.le_refl,and_true]
   rw [if_pos (by omega)]
   simp
  have hs: ∀ys:List IV,O.slice (.list (kept.map Fld.enc++ys)) (.int 0) (.int kept.length)=some (Srt.LE Fld.enc kept):=by
   intro ys
   rw [O.U0,if_pos (by simp only [List.length_append,List.length_map];omega)]
   simp [Srt.LE]
  have hs2: ∃y,O.slice (Srt.LE Fld.enc (kept++(junk++ []))) (.int kept.length) (.int (kept++(junk++ [])).length)=some y:=by
   unfold Srt.LE
   rw [O.U0,if_pos (by simp only [List.length_append,List.length_map];omega)]
   exact ⟨_,rfl⟩
  obtain ⟨y,hs2⟩:=hs2
  simp only [List.append_nil] at h1 hc hs2
  simp only [List.append_nil,Option.bind_some,O.Ak,h1,decide_false,O.Ab,Bool.false_eq_true,if_false,hs2,hc,hs,List.filter_nil,List.append_nil]
 | v::rest,kept,[],hj,hb=>absurd rfl hj
 | v::rest,kept,y::js,hj,hb=>by
  simp only [List.length_cons] at hb
  rw [Ae6,Srt.len]
  have h1:((kept.length+(y::js).length :Nat):Int)<(kept++(y::js++v::rest)).length :=by simp;omega
  have hw:IntKind.i64.wrap (((kept.length+(y::js).length :Nat):Int)+1)=((kept.length+(y::js).length +1:Nat):Int):=by simp only [List.length_cons];rw [wrap64 (by omega) (by omega)];omega
  have hw2:IntKind.i64.wrap ((kept.length:Int)+1)=((kept.length+1:Nat):Int):=Bf (by omega)
  have gv:=Srt.idx Fld.enc (Srt.Ci (l:=kept++(y::js++v::rest)) (A:=kept++y::js) (x:=v) (B:=rest) (by simp) (i:=kept.length+(y::js).length) (by simp))
  have gi:=Srt.idx Fld.enc (Srt.Ci (l:=kept++(y::js++v::rest)) (A:=kept) (x:=y) (B:=js++v::rest) (by simp) (i:=kept.length) rfl)
  have st:=Srt.Hk (l:=kept++(y::js++v::rest)) (A:=kept) (x:=y) (y:=v) (B:=js++v::rest) (by simp) (i:=kept.length) rfl
  have hi1:kept.length<(kept++(y::js++v::rest)).length :=by simp
  rw [List.filter_cons]
  by_cases c:v.1=nm
  ·have ih:=J9 nm rest kept (y::js++ [v]) (by simp) (by simp;omega)
   have hn:E6 nm v=false:=by simp [E6,c]
   simp only [Option.bind_some,O.Ak,h1,decide_true,O.Ab,if_true,gv,Ib,O.Ah,c,O.Az,Bool.not_true,Bool.false_eq_true,if_false,Ad8,O.Ap,hw,hn]
   rw [show kept.length+(y::js).length +1=kept.length+(y::js++ [v]).length by simp;omega]
   rw [←ih];simp
  ·have ih:=J9 nm rest (kept++ [v]) (js++ [v]) (by simp) (by simp;omega)
   have hn:E6 nm v=true:=by simp [E6,c]
   simp only [Option.bind_some,O.Ak,h1,decide_true,O.Ab,if_true,gv,Ib,O.Ah,c,decide_false,O.Az,Bool.not_false,gi,Srt.Alo Fld.enc hi1,st,O.Ap,hw2,Ad8,hw,hn]
   rw [show kept.length+(y::js).length +1=(kept++ [v]).length +(js++ [v]).length by simp;omega,show kept.length+1=(kept++ [v]).length by simp]
   rw [show kept++v::(js++v::rest)=kept++ [v]++(js++ [v]++rest) by simp,ih]
   simp
theorem Afk (l:List (ByteArray × Val)) (nm:ByteArray) (hl:l.length≤1099511627776):
  W Ali 0 [.list (l.map Fld.enc),.str nm]=some [.list ((l.filter (E6 nm)).map Fld.enc)]:=by
 rw [Aoj,Amq]
 have key:=Zk l nm hl l.length 0 (by omega) (by simp)
 simp only [Int.cast_ofNat_Int] at key
 rcases key with ⟨h1,h2⟩ | ⟨j,hj,h1,h2,h3⟩
 ·simp only [O.An,List.length_map,Option.bind_some,h1,O.Ah,O.eq_int,decide_true,O.Ab,if_true]
  congr 3
  rw [List.filter_eq_self.2 (fun p hp=>by simp [E6,h2 p hp])]
 ·have hne: ¬ (j:Int)= -1:=by omega
  have hw2:IntKind.i64.wrap ((j:Int)+1)=((j+1:Nat):Int):=Bf (by omega)
  simp only [O.An,List.length_map,Option.bind_some,h1,O.Ah,O.eq_int,hne,decide_false,O.Ab,Bool.false_eq_true,if_false,O.Ap,hw2]
  have hs:l=l.take j++([l[j]]++l.drop (j+1)):=by
   rw [List.singleton_append,←List.drop_eq_getElem_cons hj,List.take_append_drop]
  have hl1:(l.take j).length =j:=by rw [List.length_take];omega
  have hl2:(l.drop (j+1)).length =l.length - (j+1):=by rw [List.length_drop]
  have hd:=J9 nm (l.drop (j+1)) (l.take j) [l[j]] (by simp) (by simp only [List.length_singleton];omega)
  rw [hl1,List.length_singleton,←hs] at hd
  rw [show IV.list (l.map Fld.enc)=Srt.LE Fld.enc l from rfl,hd]
  have hf:l.filter (E6 nm)=l.take j++(l.drop (j+1)).filter (E6 nm):=by
   conv=>lhs;rw [hs]
   rw [List.filter_append,List.filter_append,List.filter_eq_self.2 (fun p hp=>by simp [E6,h3 p hp])]
   congr 1
   simp [E6,h2]
  rw [hf];rfl
theorem Aav (v:Val) (nm:ByteArray) (hv:Gf 1073741824 v):W Axe 0 [v.enc,.str nm]=some [.list ((Gn v nm).map Fld.enc)]:=by
 rw [Alu]
 unfold Gn
 have h6:=hv.Oe
 have hc:(v.f.map Fld.enc).length ≤1073741824:=by rw [List.length_map];omega
 have hd:=Afk v.f nm (by omega)
 by_cases c:v.k=5
 ·simp only [Val.Bm,Val.Ch,Option.bind_some,O.D7,c,decide_true,Bool.not_true,O.Ab,Bool.false_eq_true,if_false,Asx,Gq hc,O.Ah,hd,if_true]
  rfl
 ·simp [c]
theorem Akz (v:Val) (nm:ByteArray) (x:Val) (hv:Gf 1073741823 v) (hx:Gf 1073741823 x):W Axo 0 [v.enc,.str nm,x.enc]=some (Sl v nm x).Gv :=by
 have ho:=Mz hv nm
 have h6:=ho.1
 have hm:=Adh (Gn v nm++ [(nm,x)]) ⟨by simp;omega,fun p hp=>by
  rcases List.mem_append.1 hp with h | h
  ·exact (ho.2 p h).mono (by omega)
  ·simp at h;subst h;exact hx.mono (by omega)⟩
 have hap:((Gn v nm).length +1) * 96≤As:=L5 (by omega) (by omega)
 simp only [List.map_append,List.map_cons,List.map_nil] at hm
 rw [Anh]
 simp only [Aav v nm (hv.mono (by omega)),O.Ah,Val.Bm,Val.Db,Val.Dy,Val.B7,Val.Ch,Option.bind_some,O.Bl,Fld.D9,O.Bj,O.Bd,List.length_map,List.length_singleton,hap,if_true,hm,Val.Bh,O.Dn]
 rfl
end Go.CT.Sch
namespace Go.CT.Sch
open Go.Proofs
theorem Tz (r:Kid→Val × Bool) (x:Kid) (l:List Kid):Er r (x::l)=if (r x).2 then (x.1,(r x).1)::Er r l else Er r l:=by
 unfold Er
 rw [List.filterMap_cons]
 cases (r x).2<;>simp
theorem Xd (r:Kid→Val × Bool) (l:List Kid):(Er r l).length ≤l.length:=List.length_filterMap_le _ _
theorem Zy {r:Kid→Val × Bool} {l:List Kid} {y:Stp × Val} (h:y∈Er r l): ∃x∈l,(r x).2 =true∧y=(x.1,(r x).1):=by
 unfold Er at h
 obtain ⟨x,hx,e⟩:=List.mem_filterMap.1 h
 split at e
 ·rename_i c;cases e;exact ⟨x,hx,c,rfl⟩
 ·cases e
theorem Aj5 {o:Option Sch} {v:Val} {x:Kid} (h:x∈kids o v):(v.k=5∧x.1.k=1)∨(v.k=4∧x.1.k=3):=by
 cases o with
 | none=>simp [kids] at h
 | some s=>
  rw [kids] at h
  split at h
  ·split at h
   ·obtain ⟨p,hp,rfl⟩:=List.mem_map.1 h
    exact .inl ⟨by assumption,rfl⟩
   ·split at h
    ·obtain ⟨p,hp,rfl⟩:=List.mem_map.1 h
     exact .inr ⟨by rename_i c;exact c.1,rfl⟩
    ·simp at h
  ·simp at h
theorem Qn (o:Option Sch) (v:Val):(kids o v).length ≤if v.k=5 then v.f.length else v.l.length:=by
 cases o with
 | none=>simp [kids]
 | some s=>
  rw [kids]
  split
  ·split
   ·simp
   ·split
    ·simp
    ·simp
  ·simp
theorem V6 (d:Nat) (o:Option Sch) (v:Val) (p:List Stp) (ch:ByteArray→Bool):pt (d+1) o v p ch=if kids o v= [] then (v,ch (Nz p)) else
    (⟨v.k,0,Ay,if v.k=5 then [] else Jb (Er (fun x=>pt d x.2.2 x.2.1 (p++ [x.1]) ch) (kids o v)),
      if v.k=5 then fieldsOf (Er (fun x=>pt d x.2.2 x.2.1 (p++ [x.1]) ch) (kids o v)) else []⟩,
     !(Er (fun x=>pt d x.2.2 x.2.1 (p++ [x.1]) ch) (kids o v)).isEmpty):=by rw [pt]
theorem An3: ∀ (n:Nat) (o:Option Sch) (v:Val) (p:List Stp) (ch:ByteArray→Bool),(pt n o v p ch).1.f.length ≤v.f.length
 | 0,_,_,_,_=>Nat.le_refl _
 | n+1,o,v,p,ch=>by
  rw [V6]
  split
  ·exact Nat.le_refl _
  ·simp only [Val.Apv]
   split
   ·rename_i c
    have h1:=Xd (fun x=>pt n x.2.2 x.2.1 (p++ [x.1]) ch) (kids o v)
    have h2:=Qn o v
    rw [if_pos c] at h2
    simp only [fieldsOf,List.length_map];omega
   ·simp
theorem Q3 (s:ByteArray) (N:Nat):Gf N (Agy s):=by
 constructor<;>simp [Agy]
theorem Aal (v:Val) (nm:ByteArray):(Gn v nm).length ≤v.f.length:=by
 unfold Gn;split
 ·exact List.length_filter_le _ _
 ·simp
theorem Afp {N:Nat} {v x:Val} (nm:ByteArray) (h:Gf (N+1) v) (hx:Gf (N+1) x) (hl:v.f.length≤N):Gf (N+1) (Sl v nm x):=by
 have ho:=Mz h nm
 have h6:=Aal v nm
 have hm:=Z8 (N:=N+1) (l:=Gn v nm++ [(nm,x)]) ⟨by simp;omega,fun p hp=>by
  rcases List.mem_append.1 hp with h | h
  ·exact ho.2 p h
  ·simp at h;subst h;exact hx⟩
 constructor
 ·simp [Sl]
 ·exact hm.1
 ·simp [Sl]
 ·exact hm.2
theorem Yg {N:Nat} {o:Option Sch} {v:Val} (h:Gf N v) {x:Kid} (hx:x∈kids o v):Gf N x.2.1:=by
 cases o with
 | none=>simp [kids] at hx
 | some s=>
  rw [kids] at hx
  split at hx
  ·split at hx
   ·obtain ⟨p,hp,rfl⟩:=List.mem_map.1 hx;exact h.Sw hp
   ·split at hx
    ·obtain ⟨p,hp,rfl⟩:=List.mem_map.1 hx;exact h.Afr hp
    ·simp at hx
  ·simp at hx
theorem Mj {N:Nat} : ∀ (n:Nat) (o:Option Sch) (v:Val) (p:List Stp) (ch:ByteArray→Bool),Gf N v→Gf (N+1) (pt n o v p ch).1
 | 0,_,v,_,_,h=>h.mono (by omega)
 | n+1,o,v,p,ch,h=>by
  rw [V6]
  split
  ·exact h.mono (by omega)
  ·have h1:=Xd (fun x=>pt n x.2.2 x.2.1 (p++ [x.1]) ch) (kids o v)
   have h2:=Qn o v
   have h3:=h.Xj
   have h4:=h.Oe
   constructor
   ·simp only [Val.Apk]
    split
    ·simp
    ·rename_i c;rw [if_neg c] at h2;simp only [Jb,List.length_map];omega
   ·simp only [Val.Apv]
    split
    ·rename_i c;rw [if_pos c] at h2;simp only [fieldsOf,List.length_map];omega
    ·simp
   ·simp only [Val.Apk]
    split
    ·simp
    ·intro x hx
     obtain ⟨y,hy,rfl⟩:=List.mem_map.1 hx
     obtain ⟨z,hz,_,rfl⟩:=Zy hy
     have:=An3 n z.2.2 z.2.1 (p++ [z.1]) ch
     have hw:=Yg h hz
     have:=hw.Oe
     exact Afp _ (Mj n _ _ _ _ hw) (Q3 _ _) (by show (pt n z.2.2 z.2.1 (p++ [z.1]) ch).1.f.length ≤N;omega)
   ·simp only [Val.Apv]
    split
    ·intro x hx
     obtain ⟨y,hy,rfl⟩:=List.mem_map.1 hx
     obtain ⟨z,hz,_,rfl⟩:=Zy hy
     exact Mj n _ _ _ _ (Yg h hz)
    ·simp
def chB (ks:List ByteArray) (is:Bool):ByteArray→Bool:=fun t=>inB ks t == is
theorem Ag6 (t:ByteArray) (ks:List ByteArray) (is:Bool):W Axk 0 [.str t,.list (U9 ks),.bool is]=some [.bool (chB ks is t),.list (U9 ks),.bool is]:=by
 obtain ⟨b,hb⟩:=Avj ks t
 rw [Aof]
 simp only [Avh,hb,Option.bind_some,O.Acy];rfl
theorem Akl: ∀ (n:Nat) (x:Kid) (p:List Stp) (ks:List ByteArray) (is:Bool),x.2.1.size≤n→OSB x.2.2→x.2.1.A3≤1048576→(∀s∈p,s.fits)→p.length+n≤1073741824→
  W F99 0 [E2 x,.list (p.map Stp.enc),.list (U9 ks),.bool is]=some [(pt n x.2.2 x.2.1 p (chB ks is)).1.enc,.bool (pt n x.2.2 x.2.1 p (chB ks is)).2,.list (U9 ks),.bool is]
 | 0,x,p,ks,is,h,_,_,_,_=>by have:=x.2.1.size_pos;omega
 | n+1,x,p,ks,is,h,hsb,hv,hp,hl=>by
  obtain ⟨st,v,o⟩:=x
  simp only at h hsb hv ⊢
  have hkl:=Qn o v
  have hlf:=v.A7
  have hll:=v.Ct
  have hk1:(kids o v).length ≤1048576:=by split at hkl<;>omega
  have loop: ∀ (m i:Nat) (L:List Val) (F:List (ByteArray × Val)),i+m=(kids o v).length →L.length+F.length≤i→
    W F99 1 [.list (p.map Stp.enc),.int (kids o v).length,.int i,.bool is,.int 0,.int 0,.str ⟨#[]⟩,.int v.k,.int 0,.str ⟨#[]⟩,.list ((kids o v).map E2),.list (U9 ks),.list (L.map Val.enc),.list (F.map Fld.enc)]=
    some [(Val.mk v.k 0 Ay (L++(if v.k=5 then [] else Jb (Er (fun x=>pt n x.2.2 x.2.1 (p++ [x.1]) (chB ks is)) ((kids o v).drop i)))) (F++(if v.k=5 then fieldsOf (Er (fun x=>pt n x.2.2 x.2.1 (p++ [x.1]) (chB ks is)) ((kids o v).drop i)) else []))).enc,
     .bool (decide (0<L.length+F.length+(Er (fun x=>pt n x.2.2 x.2.1 (p++ [x.1]) (chB ks is)) ((kids o v).drop i)).length)),.list (U9 ks),.bool is]:=by
   intro m
   induction m with
   | zero=>
    intro i L F hi hb
    have:i=(kids o v).length :=by omega
    subst this
    have hw:IntKind.i64.wrap ((F.length:Int)+(L.length:Int))=(F.length:Int)+(L.length:Int):=wrap64 (by omega) (by omega)
    rw [Aif,List.drop_length]
    simp only [ltn,Option.bind_some,O.Ab,Bool.false_eq_true,if_false,Pt,O.Ap,hw,O.Bu,O.Bl]
    have e1:Er (fun x=>pt n x.2.2 x.2.1 (p++ [x.1]) (chB ks is)) []= []:=rfl
    have e2:(if v.k=5 then ([]:List Val) else Jb [])= []:=by split<;>rfl
    have e3:(if v.k=5 then fieldsOf [] else ([]:List (ByteArray × Val)))= []:=by split<;>rfl
    rw [e1,e2,e3,List.append_nil,List.append_nil,Val.Dr,Val.Bh]
    have e4:decide ((0:Int)<(F.length:Int)+(L.length:Int))=decide (0<L.length+F.length+([]:List (Stp × Val)).length):=by
     rw [decide_eq_decide];simp only [List.length_nil];omega
    rw [e4];rfl
   | succ m ih=>
    intro i L F hi hb
    have hi':i<(kids o v).length :=by omega
    have hx:=List.getElem_mem hi'
    obtain ⟨hs1,hs2⟩:=X3 hx
    have hr:=Akl n (kids o v)[i] (p++ [(kids o v)[i].1]) ks is (by omega) (Ah2 hsb hx) (by omega) (Ga hp (Zg hsb hv hx)) (by simp;omega)
    have hk:=Aj5 hx
    have hcons: ∀d,Er (fun x=>pt n x.2.2 x.2.1 (p++ [x.1]) (chB ks is)) ((kids o v)[i]::d)=if (pt n (kids o v)[i].2.2 (kids o v)[i].2.1 (p++ [(kids o v)[i].1]) (chB ks is)).2 then ((kids o v)[i].1,(pt n (kids o v)[i].2.2 (kids o v)[i].2.1 (p++ [(kids o v)[i].1]) (chB ks is)).1)::Er (fun x=>pt n x.2.2 x.2.1 (p++ [x.1]) (chB ks is)) d else Er (fun x=>pt n x.2.2 x.2.1 (p++ [x.1]) (chB ks is)) d:=fun d=>Tz _ _ _
    rw [Aif,List.drop_eq_getElem_cons hi',hcons]
    simp only [lti hi',Option.bind_some,O.Ab,if_true,Agz E2 hi',Ans,Al9 p _ (show p.length≤1073741824 by omega),O.Ah,hr,O.Aig,O.Az]
    cases c:(pt n (kids o v)[i].2.2 (kids o v)[i].2.1 (p++ [(kids o v)[i].1]) (chB ks is)).2 with
    | false=>
     simp only [Bool.not_false,if_true,Acf,nxt (show i<4611686018427387904 by omega),Option.bind_some,Bool.false_eq_true,if_false]
     exact ih (i+1) L F (by omega) (by omega)
    | true=>
     simp only [Bool.not_true,Bool.false_eq_true,if_false,kid0,Option.bind_some,O.eq_int,O.Ab,if_true]
     rcases hk with ⟨k5,k1⟩ | ⟨k4,k3⟩
     ·have ha:=apm Fld.enc (n:=96) F ((kids o v)[i].1.nm,(pt n (kids o v)[i].2.2 (kids o v)[i].2.1 (p++ [(kids o v)[i].1]) (chB ks is)).1) (by omega)
      have ih':=ih (i+1) L (F++ [((kids o v)[i].1.nm,(pt n (kids o v)[i].2.2 (kids o v)[i].2.1 (p++ [(kids o v)[i].1]) (chB ks is)).1)]) (by omega) (by simp;omega)
      simp only [k1,decide_true,if_true,kid1,Val.Bm,Val.Db,Val.Dy,Val.B7,Val.Ch,Option.bind_some,O.Bl,Fld.D9,O.Bj,ha,Acf,nxt (show i<4611686018427387904 by omega),ih']
      simp only [k5,if_true,fieldsOf,List.map_cons,List.append_assoc,List.singleton_append,List.length_append,List.length_cons,List.length_nil]
      congr 3
      rw [IV.bool.injEq,decide_eq_decide];omega
     ·have n5: ¬ v.k=5:=by omega
      have hwd:=Mj (N:=1048576) n (kids o v)[i].2.2 (kids o v)[i].2.1 (p++ [(kids o v)[i].1]) (chB ks is) (Es _ (by omega))
      have hwith:=Akz (pt n (kids o v)[i].2.2 (kids o v)[i].2.1 (p++ [(kids o v)[i].1]) (chB ks is)).1 (kids o v)[i].1.nm (Agy (kids o v)[i].1.vl) (hwd.mono (by omega)) (Q3 _ _)
      have ha:=apm Val.enc (n:=80) L (Sl (pt n (kids o v)[i].2.2 (kids o v)[i].2.1 (p++ [(kids o v)[i].1]) (chB ks is)).1 (kids o v)[i].1.nm (Agy (kids o v)[i].1.vl)) (by omega)
      have ih':=ih (i+1) (L++ [Sl (pt n (kids o v)[i].2.2 (kids o v)[i].2.1 (p++ [(kids o v)[i].1]) (chB ks is)).1 (kids o v)[i].1.nm (Agy (kids o v)[i].1.vl)]) F (by omega) (by simp;omega)
      have hs:W F18 0 [.str (kids o v)[i].1.vl]=some (Agy (kids o v)[i].1.vl).Gv :=by rw [Aaq];rfl
      have k1:decide ((kids o v)[i].1.k =1)=false:=by simp;omega
      rw [Val.Bh] at hs hwith
      simp only [k1,Bool.false_eq_true,if_false,kid1,kid3,Option.bind_some,hs,O.Dn,O.Bl,Val.D9,hwith,O.Bj,ha,Acf,nxt (show i<4611686018427387904 by omega),ih']
      simp only [n5,if_false,Jb,List.map_cons,List.append_assoc,List.singleton_append,List.length_append,List.length_cons,List.length_nil]
      congr 3
      rw [IV.bool.injEq,decide_eq_decide];omega
  rw [Auy,V6]
  simp only [Abq (st,v,o) hsb hv,O.Ah,Pt,Option.bind_some,O.eq_int,O.Ab]
  by_cases c:kids o v= []
  ·simp only [c,if_true,List.length_nil,Int.cast_ofNat_Int,decide_true,Aef p hp (by omega),O.Cz,Alc,Option.bind_some,Ag6,O.Aup]
  ·have c': ¬ ((kids o v).length :Int)=0:=by
    have:(kids o v).length ≠0:=fun e=>c (List.length_eq_zero_iff.1 e)
    omega
   have:=loop (kids o v).length 0 [] [] (by omega) (by simp)
   rw [List.drop_zero] at this
   simp only [c',decide_false,Bool.false_eq_true,if_false,kid4,Option.bind_some,c]
   refine this.trans ?_
   simp only [List.nil_append,List.length_nil,Nat.zero_add]
   congr 3
   rw [IV.bool.injEq]
   cases Er (fun x=>pt n x.2.2 x.2.1 (p++ [x.1]) (chB ks is)) (kids o v)<;>simp
end Go.CT.Sch
namespace Go.CT.Sch
open Go.Proofs
theorem Jo (v:Val) (nm:ByteArray) (hv:Gf 1099511627776 v): ∀ (n i:Nat) (out:List (ByteArray × Val)),i+n=v.f.length→out.length≤i→
  W Alj 1 [.str nm,.int i,v.enc,.list (out.map Fld.enc)]=some [.list ((out++(if v.k=5 then (v.f.drop i).filter (fun p=> !decide (p.1=nm)) else [])).map Fld.enc)]
 | 0,i,out,h,ho=>by
  rw [Aeu]
  have h1: ¬ i<v.f.length:=by omega
  simp only [Val.Ch,Option.bind_some,O.An,List.length_map,O.Ak,Ao,h1,decide_false,O.Ab,Bool.false_eq_true,if_false,List.drop_of_length_le (Nat.le_of_not_lt h1),List.filter_nil,ite_self,List.append_nil]
 | n+1,i,out,h,ho=>by
  have hi:i<v.f.length:=by omega
  have hm:=hv.Oe
  have hw:=Bf (i:=i) (by omega)
  rw [Aeu,List.drop_eq_getElem_cons hi]
  have hap:(out.length+1) * 96≤As:=L5 (by omega) (by omega)
  simp only [Val.Ch,Option.bind_some,O.An,List.length_map,O.Ak,Ao,hi,decide_true,O.Ab,if_true,Val.Bm,O.eq_int,O.Ai,Int.natCast_nonneg,Int.toNat_natCast,List.getElem?_map,List.getElem?_eq_getElem hi,Option.map_some,Fld.Bm,O.Hd,List.filter_cons]
  by_cases c:v.k=5
  ·by_cases c2:v.f[i].1 =nm
   ·have:=Jo v nm hv n (i+1) out (by omega) (by omega)
    simp only [c,if_true] at this
    have c3:decide (v.f[i].1 =nm)=true:=by simpa using c2
    simp only [c,c2,c3,decide_true,if_true,Bool.not_true,Bool.false_eq_true,if_false,Ae3,O.Ap,hw,Option.bind_some,this]
   ·have:=Jo v nm hv n (i+1) (out++ [v.f[i]]) (by omega) (by simp;omega)
    simp only [c,if_true,List.map_append,List.map_cons,List.map_nil,List.append_assoc,List.cons_append,List.nil_append] at this
    have c3:decide (v.f[i].1 =nm)=false:=by simpa using c2
    simp only [c,c2,c3,decide_true,decide_false,if_true,Bool.not_false,O.Bj,Option.bind_some,O.Bd,List.length_map,List.length_singleton,hap,Ae3,O.Ap,hw,this,List.map_append,List.map_cons]
  ·simp [c]
theorem Aba (v:Val) (nm:ByteArray) (hv:Gf 1099511627776 v):W Alj 0 [v.enc,.str nm]=some [.list ((Gn v nm).map Fld.enc)]:=by
 rw [Ao0]
 have:=Jo v nm hv v.f.length 0 [] (by omega) (by simp)
 simp only [List.drop_zero,Int.cast_ofNat_Int,List.map_nil,List.nil_append] at this
 exact this
theorem Ahl (v:Val) (nm:ByteArray) (x:Val) (hv:Gf 274877906943 v) (hx:Gf 274877906943 x):W Aw2 0 [v.enc,.str nm,x.enc]=some (Sl v nm x).Gv :=by
 have hom:=Mz hv nm
 have hlen:=hom.1
 have hap:((Gn v nm).length +1) * 96≤As:=L5 (by omega) (by omega)
 have hm:=Anc (Gn v nm++ [(nm,x)]) ⟨by simp;omega,fun p hp=>by
  rcases List.mem_append.1 hp with h | h
  ·exact (hom.2 p h).mono (by omega)
  ·simp at h;subst h;exact hx.mono (by omega)⟩
 simp only [List.map_append,List.map_cons,List.map_nil] at hm
 rw [Ao2]
 simp only [Aba v nm (hv.mono (by omega)),O.Ah,Val.Bm,Val.Db,Val.Dy,Val.B7,Val.Ch,Option.bind_some,O.Bl,Fld.D9,O.Bj,O.Bd,List.length_map,List.length_singleton,hap,if_true,hm,O.Dn,Val.Bh,Sl,Val.Axc,Val.Ax5,Val.Avb,Val.Apk,Val.Apv,List.map_nil]
theorem Agj {y:Val} (h:y.valid=true) (hk:y.k=3):y=Agy y.s:=by
 have h1:=Xy h (by omega)
 have h2:=Xx h (by omega)
 have h3:y.n=0:=by
  rw [Kv] at h
  have:=((Gr 11 y).1 h.1).1
  unfold E4 at this
  rw [if_neg (by omega),if_neg (by omega),if_pos hk] at this
  simp only [Bool.and_eq_true] at this
  simpa using this.1
 obtain ⟨k,n,s,l,f⟩:=y
 simp only [Val.Axc,Val.Apk,Val.Apv,Val.Ax5,Val.Avb] at hk h1 h2 h3 ⊢
 subst hk h1 h2 h3;rfl
theorem As2 {x:Val} {key:ByteArray} (hx:x.valid=true) (hk:isKey x key=true):(x.get key).getD Bi=Agy (Jy x key):=by
 unfold isKey at hk
 simp only [Bool.and_eq_true,decide_eq_true_eq] at hk
 obtain ⟨y,hy⟩:=Option.isSome_iff_exists.1 hk.1
 unfold Jy
 rw [hy] at hk ⊢
 exact Agj (Ajl hx hy) hk.2
theorem Ajf: ∀ (n:Nat) (o:Option Sch) (v:Val) (p:List Stp) (set:List ByteArray) (is:Bool),v.size≤n→OSB o→v.A3≤1048576→v.valid=true→(∀s∈p,s.fits)→p.length+n≤1073741824→set.length≤1048576→
  W P7 0 [oE o,.bool o.isSome,v.enc,.list (p.map Stp.enc),SL set,.bool is]=some [(pt n o v p (chB set is)).1.enc,.bool (pt n o v p (chB set is)).2]
 | 0,o,v,p,set,is,h,_,_,_,_,_,_=>by have:=v.size_pos;omega
 | n+1,o,v,p,set,is,h,hsb,hv,hvv,hp,hl,hset=>by
  have hkl:=Qn o v
  have hlf:=v.A7
  have hll:=v.Ct
  have hk1:(kids o v).length ≤1048576:=by split at hkl<;>omega
  have recu: ∀x∈kids o v,x.2.1.valid=true→W P7 0 [oE x.2.2,.bool x.2.2.isSome,x.2.1.enc,.list ((p++ [x.1]).map Stp.enc),SL set,.bool is]=some [(pt n x.2.2 x.2.1 (p++ [x.1]) (chB set is)).1.enc,.bool (pt n x.2.2 x.2.1 (p++ [x.1]) (chB set is)).2]:=by
   intro x hx hxv
   obtain ⟨h1,h2⟩:=X3 hx
   exact Ajf n x.2.2 x.2.1 (p++ [x.1]) set is (by omega) (Ah2 hsb hx) (by omega) hxv (Ga hp (Zg hsb hv hx)) (by simp;omega) hset
  rw [V6,Alv]
  simp only [Yp o v hv,O.Ah,O.Az,Bool.not_not,Option.bind_some,O.Ab]
  by_cases c:kids o v= []
  ·simp only [c,List.isEmpty_nil,if_true,Zj p hp (by omega),O.Cz,rhas set (Nz p) hset,O.Ah,O.Acy,Option.bind_some];rfl
  ·have c':(kids o v).isEmpty =false:=by simpa using c
   simp only [c',Bool.false_eq_true,if_false,c,Val.Bm,Option.bind_some]
   cases o with
   | none=>simp [kids] at c
   | some s=>
    obtain ⟨hsb1,hs⟩:=hsb s rfl
    have hcons: ∀x d,Er (fun x=>pt n x.2.2 x.2.1 (p++ [x.1]) (chB set is)) (x::d)=if (pt n x.2.2 x.2.1 (p++ [x.1]) (chB set is)).2 then (x.1,(pt n x.2.2 x.2.1 (p++ [x.1]) (chB set is)).1)::Er (fun x=>pt n x.2.2 x.2.1 (p++ [x.1]) (chB set is)) d else Er (fun x=>pt n x.2.2 x.2.1 (p++ [x.1]) (chB set is)) d:=fun x d=>Tz _ _ _
    have loop2:v.k=5→kids (some s) v=v.f.map (Ei s)→ ∀ (m i:Nat) (F:List (ByteArray × Val)),i+m=v.f.length→F.length≤i→
      W P7 3 [.list (p.map Stp.enc),SL set,.bool is,.int i,s.enc,v.enc,.int 0,.int 0,.str ⟨#[]⟩,.int v.k,.int 0,.str ⟨#[]⟩,.list [],.list (F.map Fld.enc)]=
       some [(Val.mk v.k 0 Ay [] (F++fieldsOf (Er (fun x=>pt n x.2.2 x.2.1 (p++ [x.1]) (chB set is)) ((kids (some s) v).drop i)))).enc,.bool (decide (0<F.length+(Er (fun x=>pt n x.2.2 x.2.1 (p++ [x.1]) (chB set is)) ((kids (some s) v).drop i)).length))]:=by
     intro hk5 hkids m
     induction m with
     | zero=>
      intro i F hi hb
      have:i=v.f.length:=by omega
      subst this
      have hd:(kids (some s) v).drop v.f.length= []:=List.drop_of_length_le (by rw [hkids,List.length_map];exact Nat.le_refl _)
      have hw:IntKind.i64.wrap ((0:Int)+(F.length:Int))=(F.length:Int):=by rw [wrap64 (by omega) (by omega)];omega
      have e1:Er (fun x=>pt n x.2.2 x.2.1 (p++ [x.1]) (chB set is)) []= []:=rfl
      have h00:O.len (.list [])=some (.int 0):=rfl
      have e4:decide ((0:Int)<(F.length:Int))=decide (0<F.length+([]:List (Stp × Val)).length):=by
       rw [decide_eq_decide];simp only [List.length_nil];omega
      rw [Wz,hd,e1]
      simp only [Val.Ch,Pt,ltn,Option.bind_some,O.Ab,Bool.false_eq_true,if_false,h00,O.Ap,hw,O.Bu,e4,O.Bl,fieldsOf,List.map_nil,List.append_nil]
      rw [Val.Dr,Val.Bh];rfl
     | succ m ih=>
      intro i F hi hb
      have hi':i<v.f.length:=by omega
      have hi2:i<(kids (some s) v).length :=by rw [hkids,List.length_map];exact hi'
      have hge:(kids (some s) v)[i]=Ei s v.f[i]:=by simp only [hkids,List.getElem_map]
      have hr:=recu _ (List.getElem_mem hi2) (by rw [hge];exact (Ab9 hvv (List.getElem_mem hi')).1)
      rw [List.drop_eq_getElem_cons hi2,hcons]
      rw [hge] at hr ⊢
      have hr':W P7 0 [oE (J6 s v.f[i].1),.bool (J6 s v.f[i].1).isSome,v.f[i].2.enc,.list ((p++ [C6 v.f[i].1]).map Stp.enc),SL set,.bool is]=some [(pt n (Ei s v.f[i]).2.2 (Ei s v.f[i]).2.1 (p++ [(Ei s v.f[i]).1]) (chB set is)).1.enc,.bool (pt n (Ei s v.f[i]).2.2 (Ei s v.f[i]).2.1 (p++ [(Ei s v.f[i]).1]) (chB set is)).2]:=hr
      have he:IV.agg [.int 1,.str v.f[i].1,.int 0,.str ⟨#[]⟩]=(C6 v.f[i].1).enc :=rfl
      rw [Wz]
      simp only [Val.Ch,Pt,lti hi',Option.bind_some,O.Ab,if_true,Agz Fld.enc hi',Fld.Bm,Als s v.f[i].1 hs hsb1,O.Cz,Fld.Kd,O.Bl,he,Nx p (C6 v.f[i].1) (show p.length≤1099511627776 by omega),O.Ah,hr']
      cases cc:(pt n (Ei s v.f[i]).2.2 (Ei s v.f[i]).2.1 (p++ [(Ei s v.f[i]).1]) (chB set is)).2 with
      | false=>
       simp only [Bool.false_eq_true,if_false,Aem,nxt (show i<4611686018427387904 by omega),Option.bind_some]
       exact ih (i+1) F (by omega) (by omega)
      | true=>
       have ha:=apm Fld.enc (n:=96) F (v.f[i].1,(pt n (Ei s v.f[i]).2.2 (Ei s v.f[i]).2.1 (p++ [(Ei s v.f[i]).1]) (chB set is)).1) (by omega)
       have ih':=ih (i+1) (F++ [(v.f[i].1,(pt n (Ei s v.f[i]).2.2 (Ei s v.f[i]).2.1 (p++ [(Ei s v.f[i]).1]) (chB set is)).1)]) (by omega) (by simp;omega)
       simp only [if_true,Val.Bm,Val.Db,Val.Dy,Val.B7,Val.Ch,Option.bind_some,O.Bl,Fld.D9,O.Bj,ha,Aem,nxt (show i<4611686018427387904 by omega),ih']
       simp only [fieldsOf,List.map_cons,List.append_assoc,List.singleton_append,List.length_append,List.length_cons,List.length_nil]
       congr 3
       rw [IV.bool.injEq,decide_eq_decide];omega
    have loop1: ∀t,s.it= [t]→v.k=4→kids (some s) v=v.l.map (Eb s)→v.f= []→s.key≠Ay→(∀x∈v.l,isKey x s.key=true)→ ∀ (m i:Nat) (L:List Val),i+m=v.l.length→L.length≤i→
      W P7 1 [.list (p.map Stp.enc),SL set,.bool is,.int i,s.enc,v.enc,.int 0,.int 0,.str ⟨#[]⟩,.int v.k,.int 0,.str ⟨#[]⟩,.list (L.map Val.enc)]=
       some [(Val.mk v.k 0 Ay (L++Jb (Er (fun x=>pt n x.2.2 x.2.1 (p++ [x.1]) (chB set is)) ((kids (some s) v).drop i))) []).enc,.bool (decide (0<L.length+(Er (fun x=>pt n x.2.2 x.2.1 (p++ [x.1]) (chB set is)) ((kids (some s) v).drop i)).length))]:=by
     intro t ht hk4 hkids hf hne hkey m
     induction m with
     | zero=>
      intro i L hi hb
      have:i=v.l.length:=by omega
      subst this
      have hd:(kids (some s) v).drop v.l.length= []:=List.drop_of_length_le (by rw [hkids,List.length_map];exact Nat.le_refl _)
      have hw:IntKind.i64.wrap ((L.length:Int)+(0:Int))=(L.length:Int):=by rw [wrap64 (by omega) (by omega)];omega
      have e1:Er (fun x=>pt n x.2.2 x.2.1 (p++ [x.1]) (chB set is)) []= []:=rfl
      have h00:O.len (.list [])=some (.int 0):=rfl
      have h01:O.lt (.int 0) (.int 0)=some (.bool false):=rfl
      have e4:decide ((0:Int)<(L.length:Int))=decide (0<L.length+([]:List (Stp × Val)).length):=by
       rw [decide_eq_decide];simp only [List.length_nil];omega
      rw [Wf,hd,e1]
      simp only [Val.B7,Pt,ltn,Option.bind_some,O.Ab,Bool.false_eq_true,if_false]
      rw [Wz]
      simp only [Val.Ch,hf,List.map_nil,h00,h01,Option.bind_some,O.Ab,Bool.false_eq_true,if_false,Pt,O.Ap,hw,O.Bu,e4,O.Bl,Jb,List.append_nil]
      rw [Val.Dr,Val.Bh];rfl
     | succ m ih=>
      intro i L hi hb
      have hi':i<v.l.length:=by omega
      have hi2:i<(kids (some s) v).length :=by rw [hkids,List.length_map];exact hi'
      have hm:=Val.Ho (List.getElem_mem hi')
      have hge:(kids (some s) v)[i]=Eb s v.l[i]:=by simp only [hkids,List.getElem_map]
      have hr:=recu _ (List.getElem_mem hi2) (by rw [hge];exact Ak9 hvv (List.getElem_mem hi'))
      rw [List.drop_eq_getElem_cons hi2,hcons]
      rw [hge] at hr ⊢
      have hik:=hkey _ (List.getElem_mem hi')
      have hst:=Agq (s:=s) (i:=i) (v:=v.l[i]) (by unfold Ed;simp [hik,hne])
      have hr':W P7 0 [oE s.it.head?,.bool s.it.head?.isSome,v.l[i].enc,.list ((p++ [Atm s.key v.l[i]]).map Stp.enc),SL set,.bool is]=some [(pt n (Eb s v.l[i]).2.2 (Eb s v.l[i]).2.1 (p++ [(Eb s v.l[i]).1]) (chB set is)).1.enc,.bool (pt n (Eb s v.l[i]).2.2 (Eb s v.l[i]).2.1 (p++ [(Eb s v.l[i]).1]) (chB set is)).2]:=hr
      rw [ht] at hr'
      have hr'':W P7 0 [t.enc,.bool true,v.l[i].enc,.list ((p++ [Atm s.key v.l[i]]).map Stp.enc),SL set,.bool is]=some [(pt n (Eb s v.l[i]).2.2 (Eb s v.l[i]).2.1 (p++ [(Eb s v.l[i]).1]) (chB set is)).1.enc,.bool (pt n (Eb s v.l[i]).2.2 (Eb s v.l[i]).2.1 (p++ [(Eb s v.l[i]).1]) (chB set is)).2]:=hr'
      have hkv:=As2 (Ak9 hvv (List.getElem_mem hi')) hik
      have hg:=Abm v.l[i] s.key (by omega)
      unfold J2 at hg
      rw [hkv] at hg
      have hwd:=Mj (N:=1048576) n (Eb s v.l[i]).2.2 (Eb s v.l[i]).2.1 (p++ [(Eb s v.l[i]).1]) (chB set is) (Es _ (by show v.l[i].A3 ≤_;omega))
      have hwith:=Ahl (pt n (Eb s v.l[i]).2.2 (Eb s v.l[i]).2.1 (p++ [(Eb s v.l[i]).1]) (chB set is)).1 s.key (Agy (Jy v.l[i] s.key)) (hwd.mono (by omega)) (Q3 _ _)
      rw [Val.Bh] at hwith
      rw [Wf]
      simp only [Val.B7,Pt,lti hi',Option.bind_some,O.Ab,if_true,Sch.H3,ht,List.map_cons,List.map_nil,O.Ai,Int.le_refl,Int.toNat_zero,List.getElem?_cons_zero,Int.natCast_nonneg,Int.toNat_natCast,List.getElem?_map,List.getElem?_eq_getElem hi',Option.map_some,
       Ru s v.l i hi' (by omega),O.Ah,hst,Nx p (Atm s.key v.l[i]) (show p.length≤1099511627776 by omega),hr'',O.Cz]
      cases cc:(pt n (Eb s v.l[i]).2.2 (Eb s v.l[i]).2.1 (p++ [(Eb s v.l[i]).1]) (chB set is)).2 with
      | false=>
       simp only [Bool.false_eq_true,if_false,Acm,nxt (show i<4611686018427387904 by omega),Option.bind_some]
       exact ih (i+1) L (by omega) (by omega)
      | true=>
       have ha:=apm Val.enc (n:=80) L (Sl (pt n (Eb s v.l[i]).2.2 (Eb s v.l[i]).2.1 (p++ [(Eb s v.l[i]).1]) (chB set is)).1 s.key (Agy (Jy v.l[i] s.key))) (by omega)
       have ih':=ih (i+1) (L++ [Sl (pt n (Eb s v.l[i]).2.2 (Eb s v.l[i]).2.1 (p++ [(Eb s v.l[i]).1]) (chB set is)).1 s.key (Agy (Jy v.l[i] s.key))]) (by omega) (by simp;omega)
       simp only [if_true,Sch.Ch,Option.bind_some,hg,Kw,O.Bl,Val.D9,hwith,O.Dn,O.Bj,ha,Acm,nxt (show i<4611686018427387904 by omega),ih']
       simp only [Jb,List.map_cons,List.append_assoc,List.singleton_append,List.length_append,List.length_cons,List.length_nil]
       congr 3
       rw [IV.bool.injEq,decide_eq_decide];omega
    show W P7 1 [.list (p.map Stp.enc),SL set,.bool is,.int 0,s.enc,v.enc,.int 0,.int 0,.str ⟨#[]⟩,.int v.k,.int 0,.str ⟨#[]⟩,.list []]=_
    have hkk:=c
    rw [kids] at hkk
    by_cases c1:s.k=v.k
    ·rw [if_pos c1] at hkk
     by_cases c2:v.k=5
     ·have hkids:kids (some s) v=v.f.map (Ei s):=by rw [kids,if_pos c1,if_pos c2];rfl
      have hnl:=Xy hvv (by omega)
      have h00:O.len (.list [])=some (.int 0):=rfl
      have h0:O.lt (.int 0) (.int 0)=some (.bool false):=rfl
      have:=loop2 c2 hkids v.f.length 0 [] (by omega) (by simp)
      rw [List.drop_zero] at this
      rw [Wf]
      simp only [Val.B7,hnl,List.map_nil,h00,h0,Option.bind_some,O.Ab,Bool.false_eq_true,if_false]
      refine Eq.trans this ?_
      simp only [c2,if_true,List.nil_append,List.length_nil,Nat.zero_add]
      congr 3
      rw [IV.bool.injEq]
      cases Er (fun x=>pt n x.2.2 x.2.1 (p++ [x.1]) (chB set is)) (kids (some s) v)<;>simp
     ·rw [if_neg c2] at hkk
      by_cases c3:v.k=4∧s.key≠Ay∧H9 s.key [] v.l=true
      ·have hkids:kids (some s) v=v.l.map (Eb s):=by rw [kids,if_pos c1,if_neg c2,if_pos c3];rfl
       obtain ⟨t,ht⟩: ∃t,s.it= [t]:=List.length_eq_one_iff.1 (hsb1.list (by omega))
       have:=loop1 t ht c3.1 hkids (Xx hvv c2) c3.2.1 (fun x hx=>Px c3.2.2 x hx) v.l.length 0 [] (by omega) (by simp)
       rw [List.drop_zero] at this
       refine Eq.trans this ?_
       simp only [c2,if_false,List.nil_append,List.length_nil,Nat.zero_add]
       congr 3
       rw [IV.bool.injEq]
       cases Er (fun x=>pt n x.2.2 x.2.1 (p++ [x.1]) (chB set is)) (kids (some s) v)<;>simp
      ·rw [if_neg c3] at hkk;exact absurd rfl hkk
    ·rw [if_neg c1] at hkk;exact absurd rfl hkk
end Go.CT.Sch
