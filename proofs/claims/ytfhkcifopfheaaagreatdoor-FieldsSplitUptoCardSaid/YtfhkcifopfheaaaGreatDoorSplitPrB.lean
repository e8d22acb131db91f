import Derived.Test.YtfhkcifopfheaaaGreatDoorSplitPrA
import Derived.Test.YtfhkcifopfheaaaGreatDoorTabA
import Derived.Test.YtfhkcifopfheaaaGreatDoorCtC
set_option linter.unusedVariables false
set_option linter.unusedSimpArgs false
namespace Go.CT.Sch
open Go.Proofs
theorem Ew (s:ByteArray):s.data.toList.length=s.size:=by simp
theorem R8 {s:ByteArray} {i:Nat} {l:List UInt8} (h:s.data.toList.drop i=l) (hl:l≠ []):i+l.length=s.size:=by
 have:=congrArg List.length h
 rw [List.length_drop,Ew] at this
 have:0<l.length:=List.length_pos_iff.2 hl
 omega
theorem Q2 {s:ByteArray} {i:Nat} {a r:List UInt8} (h:s.data.toList.drop i=a++r):s.data.toList.drop (i+a.length)=r:=by
 rw [←List.drop_drop,h,List.drop_left]
theorem sx {s:ByteArray} {i:Nat} {c:UInt8} {r:List UInt8} (h:s.data.toList.drop i=c::r):O.Dg (.str s) (.int i)=some (.int c.toNat)∧i<s.size∧s.data.toList.drop (i+1)=r:=by
 have h1:=R8 h (by simp)
 simp only [List.length_cons] at h1
 have hi:i<s.size:=by omega
 have h2:=Gv hi
 rw [h] at h2
 obtain ⟨h3,h4⟩:=List.cons.inj h2
 refine ⟨?_,hi,h4.symm⟩
 simp only [O.Ge,Int.natCast_nonneg,if_true,Int.toNat_natCast,Ari hi,Option.map_some,←h3]
theorem ssl {s:ByteArray} {i:Nat} {a r:List UInt8} (h:s.data.toList.drop i=a++r) (ha:a≠ []):O.Hs (.str s) (.int i) (.int ((i+a.length:Nat):Int))=some (.str (bsL a)):=by
 have h1:=R8 h (by simp [ha])
 rw [List.length_append] at h1
 rw [O.Pb,if_pos ⟨by omega,by omega,by omega⟩]
 simp only [Int.toNat_natCast]
 congr 2
 apply Gx
 rw [ByteArray.data_extract,Array.toList_extract]
 simp only [List.extract_eq_take_drop,bsL,h]
 rw [show i+a.length - i=a.length by omega,List.take_left]
def Ahd (r:List UInt8):Prop:= ∀c t,r=c::t→Bg c=false
theorem Xh (s:ByteArray) (hs:s.size≤100000): ∀ (a:List UInt8) (i:Nat) (r:List UInt8),s.data.toList.drop i=a++r→i≤s.size→(∀c∈a,Bg c=true)→Ahd r→W Atc 1 [.str s,.int i]=some [.int ((i+a.length:Nat):Int)]
 | [],i,r,h,hi0,_,hr=>by
  rw [Aee]
  cases r with
  | nil=>
   have hi:s.size≤i:=by
    have:=congrArg List.length h
    rw [List.length_drop,Ew] at this
    simp at this;omega
   have hlt: ¬ i<s.size:=by omega
   simp only [O.A6,Option.bind_some,O.Ai,Al,hlt,decide_false,O.Ab,Bool.false_eq_true,if_false,List.length_nil,Nat.add_zero]
  | cons c t=>
   obtain ⟨h1,h2,h3⟩:=sx h
   have hc:=hr c t rfl
   simp only [O.A6,Option.bind_some,O.Ai,Al,h2,decide_true,O.Ab,if_true,h1,Tk,O.Ag,hc,Bool.false_eq_true,if_false,List.length_nil,Nat.add_zero]
 | c::a,i,r,h,hi0,ha,hr=>by
  obtain ⟨h1,h2,h3⟩:=sx (show s.data.toList.drop i=c::(a++r) from h)
  have hw:=A8 (i:=i) (by omega)
  have hc:=ha c (by simp)
  have ih:=Xh s hs a (i+1) r h3 (by omega) (fun x hx=>ha x (by simp [hx])) hr
  rw [Aee]
  simp only [O.A6,Option.bind_some,O.Ai,Al,h2,decide_true,O.Ab,if_true,h1,Tk,O.Ag,hc,O.Am,hw,ih,List.length_cons]
  congr 3;congr 1;omega
theorem Yn {c:UInt8} (h:Hk c=true):c.toNat=10∨(32≤c.toNat∧c.toNat≤126):=by
 unfold Hk at h
 simp at h
 omega
theorem Aem (o:ByteArray) (c:UInt8) (v:List UInt8):o++bsL [c]++bsL v=o++bsL (c::v):=by
 rw [ByteArray.append_assoc,←Ef];rfl
theorem Tj (s:ByteArray) (hs:s.size≤100000): ∀ (v:List UInt8) (i:Nat) (r:List UInt8) (o:ByteArray),s.data.toList.drop i=v.flatMap Kr++34::r→(∀c∈v,Hk c=true)→o.size+v.length≤1000→
  W Ac6 1 [.str s,.int i,.str o]=some [.str (o++bsL v),.int ((i+(v.flatMap Kr).length +1:Nat):Int),.bool true]
 | [],i,r,o,h,_,_=>by
  obtain ⟨h1,h2,h3⟩:=sx (show s.data.toList.drop i=34::r from h)
  have hw:=A8 (i:=i) (by omega)
  have e:o++bsL []=o:=by apply Gx;rw [ByteArray.toList_data_append];simp [bsL]
  rw [Xk]
  simp only [O.A6,Option.bind_some,O.Ai,Al,h2,decide_true,O.Ab,if_true,h1,O.C8]
  simp only [show ((34:UInt8).toNat :Int)=34 from rfl,decide_true,Bool.not_true,Bool.false_eq_true,if_false,O.Am,hw,Option.bind_some,List.flatMap_nil,List.length_nil,Nat.add_zero,e]
 | c::v,i,r,o,h,hv,ho=>by
  have hc:=hv c (by simp)
  have hv': ∀x∈v,Hk x=true:=fun x hx=>hv x (by simp [hx])
  simp only [List.length_cons] at ho
  have hrange:=Yn hc
  simp only [List.flatMap_cons,List.append_assoc] at h ⊢
  have hlen:=congrArg List.length h
  rw [List.length_drop,Ew] at hlen
  have two: ∀d:UInt8,Kr c= [92,d]→(d.toNat=34∨d.toNat=92∨d.toNat=110)→(d.toNat=110↔c.toNat=10)→(d.toNat≠110→d=c)→
    W Ac6 1 [.str s,.int i,.str o]=some [.str (o++bsL (c::v)),.int ((i+(Kr c++v.flatMap Kr).length +1:Nat):Int),.bool true]:=by
   intro d he hd hn hcd
   rw [he] at h ⊢
   obtain ⟨h1,h2,h3⟩:=sx (show s.data.toList.drop i=92::(d::(v.flatMap Kr++34::r)) from h)
   obtain ⟨g1,g2,g3⟩:=sx h3
   have hw:=A8 (i:=i) (by omega)
   have hw2:IntKind.i64.wrap ((i:Int)+2)=((i+1+1:Nat):Int):=by rw [wrap64 (by omega) (by omega)];omega
   have hge: ¬ ((s.size:Nat):Int)≤((i+1:Nat):Int):=by omega
   have ih:=fun o' (ho':o'.size+v.length≤1000)=>Tj s hs v (i+1+1) r o' g3 hv' ho'
   have hsl:=ssl (i:=i+1) (a:= [d]) (show s.data.toList.drop (i+1)= [d]++(v.flatMap Kr++34::r) from h3) (by simp)
   simp only [List.length_singleton] at hsl
   have e92:((92:UInt8).toNat :Int)=92:=rfl
   rw [Xk]
   simp only [O.A6,Option.bind_some,O.Ai,Al,h2,decide_true,O.Ab,if_true,h1,O.C8,O.Bj,e92,show ¬ (92:Int)=34 by omega,decide_false,Bool.not_false,show ¬ (92:Int)<32 by omega,Bool.false_eq_true,if_false,show ¬ (126:Int)<92 by omega,Bool.not_true,O.Am,hw,O.Ek,hge,g1,hw2]
   have hcond:(if (!decide ((d.toNat:Int)=34))=true then some (IV.bool (!decide ((d.toNat:Int)=92))) else some (IV.bool false))=some (.bool (!decide (d.toNat=34)&& !decide (d.toNat=92))):=by
    by_cases c1:d.toNat=34
    ·simp [c1]
    ·have c1': ¬ (d.toNat:Int)=34:=by omega
     by_cases c2:d.toNat=92
     ·simp [c1,c1',c2]
     ·have c2': ¬ (d.toNat:Int)=92:=by omega
      simp [c1,c1',c2,c2']
   simp only [hcond,Option.bind_some,O.Ab]
   have hfin: ∀o',o'=o++bsL [c]→W Ac6 3 [.str s,.int i,.str o']=some [.str (o++bsL (c::v)),.int ((i+([92,d]++v.flatMap Kr).length +1:Nat):Int),.bool true]:=by
    intro o' ho'
    rw [Aog]
    simp only [O.Am,hw2,Option.bind_some]
    rw [Afd,ih o' (by rw [ho',ByteArray.size_append,Bq,List.length_singleton];omega),ho',Aem]
    congr 3;congr 1
    simp only [List.length_append,List.length_cons,List.length_nil];congr 1;omega
   have hcond2:(if (!decide (d.toNat=34)&& !decide (d.toNat=92))=true then some (IV.bool (!decide ((d.toNat:Int)=110))) else some (IV.bool false))=some (.bool false):=by
    rcases hd with hd | hd | hd
    ·simp [hd]
    ·simp [hd]
    ·have:(d.toNat:Int)=110:=by omega
     simp [hd]
   simp only [hcond2,Option.bind_some,O.Ab,Bool.false_eq_true,if_false,O.eq_int]
   by_cases cn:d.toNat=110
   ·have cn':(d.toNat:Int)=110:=by omega
    have hc10:c=10:=UInt8.toNat_inj.1 (hn.1 cn)
    simp only [cn',decide_true,if_true]
    rw [show (ByteArray.mk #[10])=bsL [10] from rfl,Ed (by omega) (by rw [Bq];simp)]
    simp only [Option.bind_some]
    exact hfin _ (by rw [hc10])
   ·have cn': ¬ (d.toNat:Int)=110:=by omega
    simp only [cn',decide_false,Bool.false_eq_true,if_false,hsl,Option.bind_some]
    rw [Ed (by omega) (by rw [Bq];simp)]
    simp only [Option.bind_some]
    exact hfin _ (by rw [hcd cn])
  by_cases c10:c.toNat=10
  ·exact two 110 (by unfold Kr;rw [if_pos c10]) (.inr (.inr rfl)) ⟨fun _=>c10,fun _=>rfl⟩ (fun h=>(h rfl).elim)
  ·by_cases cq:c.toNat=34∨c.toNat=92
   ·exact two c (by unfold Kr;rw [if_neg c10,if_pos cq]) (by omega) (by omega) (fun _=>rfl)
   ·have he:Kr c= [c]:=by unfold Kr;rw [if_neg c10,if_neg cq]
    rw [he] at h ⊢
    obtain ⟨h1,h2,h3⟩:=sx (show s.data.toList.drop i=c::(v.flatMap Kr++34::r) from h)
    have hw:=A8 (i:=i) (by omega)
    have ih:=Tj s hs v (i+1) r (o++bsL [c]) h3 hv' (by rw [ByteArray.size_append,Bq,List.length_singleton];omega)
    have hsl:=ssl (i:=i) (a:= [c]) (show s.data.toList.drop i= [c]++(v.flatMap Kr++34::r) from h) (by simp)
    simp only [List.length_singleton] at hsl
    have n1: ¬ (c.toNat:Int)=34:=by omega
    have n2: ¬ (c.toNat:Int)<32:=by omega
    have n3: ¬ (126:Int)<c.toNat:=by omega
    have n4: ¬ (c.toNat:Int)=92:=by omega
    rw [Xk]
    simp only [O.A6,Option.bind_some,O.Ai,Al,h2,decide_true,O.Ab,if_true,h1,O.C8,O.Bj,n1,decide_false,Bool.not_false,n2,Bool.false_eq_true,if_false,n3,n4,O.Am,hw,hsl]
    rw [Ed (by omega) (by rw [Bq];simp)]
    simp only [Option.bind_some,Afd,ih,Aem]
    congr 3;congr 1
    simp only [List.length_append,List.length_cons,List.length_nil];congr 1;omega
end Go.CT.Sch
namespace Go.CT.Sch
open Go.Proofs
theorem w8 {x:Int} (h0:0≤x) (h1:x≤255):IntKind.u8.wrap x=x:=by
 unfold IntKind.wrap
 simp [IntKind.signed,IntKind.bits]
 omega
theorem As9 (a:UInt8) (n:Nat) (hn:n≤9) (ha:a.toNat=48+n):W Asl 0 [.str (bsL [a])]=some [.bool true]∧W Arn 0 [.str (bsL [a])]=some [.int n]:=by
 obtain ⟨h1,_,_⟩:=sx (s:=bsL [a]) (i:=0) (show (bsL [a]).data.toList.drop 0=a:: [] from rfl)
 simp only [Int.cast_ofNat_Int] at h1
 have hs:((bsL [a]).size :Int)=1:=by rw [Bq];rfl
 have hw:IntKind.i64.wrap (0+1)=1:=by decide
 have g1: ¬ (a.toNat:Int)<48:=by omega
 have g2: ¬ (57:Int)<a.toNat:=by omega
 constructor
 ·rw [Afl,Oz]
  simp only [O.A6,hs,Option.bind_some,O.Ai,show (0:Int)<1 by omega,decide_true,O.Ab,if_true,h1,g1,O.Bj,g2,decide_false,Bool.false_eq_true,if_false,O.Am,hw]
  rw [Oz]
  simp [hs]
 ·have m1:IntKind.i64.wrap (10 * 0)=0:=by decide
  have m2:IntKind.u8.wrap ((a.toNat:Int) - 48)=n:=by rw [w8 (by omega) (by omega)];omega
  have m3:IntKind.i64.wrap (n:Int)=n:=wrap64 (by omega) (by omega)
  have m4:IntKind.i64.wrap (0+(n:Int))=n:=by rw [wrap64 (by omega) (by omega)];omega
  have m5: ¬ (65:Int)<n:=by omega
  rw [Afy,O3]
  simp only [O.A6,hs,Option.bind_some,O.Ai,show (0:Int)<1 by omega,show (0:Int)<65 by omega,decide_true,O.Ab,if_true,O.Po,m1,h1,O.Bv,m2,O.Ow,m3,O.Am,m4,hw]
  rw [O3]
  simp [hs,m5]
theorem Au6 (a b:UInt8) (q m:Nat) (hq:1≤q∧q≤6) (hm:m≤9) (ha:a.toNat=48+q) (hb:b.toNat=48+m):W Asl 0 [.str (bsL [a,b])]=some [.bool true]∧W Arn 0 [.str (bsL [a,b])]=some [.int (min (10 * q+m) 65:Nat)]:=by
 obtain ⟨h1,_,_⟩:=sx (s:=bsL [a,b]) (i:=0) (show (bsL [a,b]).data.toList.drop 0=a:: [b] from rfl)
 obtain ⟨h2,_,_⟩:=sx (s:=bsL [a,b]) (i:=1) (show (bsL [a,b]).data.toList.drop 1=b:: [] from rfl)
 simp only [Int.cast_ofNat_Int] at h1 h2
 have hs:((bsL [a,b]).size :Int)=2:=by rw [Bq];rfl
 have hw:IntKind.i64.wrap (0+1)=1:=by decide
 have hw1:IntKind.i64.wrap (1+1)=2:=by decide
 have g1: ¬ (a.toNat:Int)<48:=by omega
 have g2: ¬ (57:Int)<a.toNat:=by omega
 have g3: ¬ (b.toNat:Int)<48:=by omega
 have g4: ¬ (57:Int)<b.toNat:=by omega
 have g5: ¬ (a.toNat:Int)=48:=by omega
 constructor
 ·rw [Afl,Oz]
  simp only [O.A6,hs,Option.bind_some,O.Ai,show (0:Int)<2 by omega,decide_true,O.Ab,if_true,h1,g1,O.Bj,g2,decide_false,Bool.false_eq_true,if_false,O.Am,hw]
  rw [Oz]
  simp only [O.A6,hs,Option.bind_some,O.Ai,show (1:Int)<2 by omega,decide_true,O.Ab,if_true,h2,g3,O.Bj,g4,decide_false,Bool.false_eq_true,if_false,O.Am,hw1]
  rw [Oz]
  simp only [O.A6,hs,Option.bind_some,O.Ai,show ¬ (2:Int)<2 by omega,decide_false,O.Ab,Bool.false_eq_true,if_false,O.eq_int,show ¬ (2:Int)=1 by omega,O.Bj,show (1:Int)<2 by omega,decide_true,if_true,h1,O.C8,g5,Bool.not_false]
 ·have m1:IntKind.i64.wrap (10 * 0)=0:=by decide
  have m2:IntKind.u8.wrap ((a.toNat:Int) - 48)=q:=by rw [w8 (by omega) (by omega)];omega
  have m3:IntKind.i64.wrap (q:Int)=q:=wrap64 (by omega) (by omega)
  have m4:IntKind.i64.wrap (0+(q:Int))=q:=by rw [wrap64 (by omega) (by omega)];omega
  have m5:(q:Int)<65:=by omega
  have k1:IntKind.i64.wrap (10 * (q:Int))=10 * q:=wrap64 (by omega) (by omega)
  have k2:IntKind.u8.wrap ((b.toNat:Int) - 48)=m:=by rw [w8 (by omega) (by omega)];omega
  have k3:IntKind.i64.wrap (m:Int)=m:=wrap64 (by omega) (by omega)
  have k4:IntKind.i64.wrap (10 * (q:Int)+(m:Int))=10 * q+m:=wrap64 (by omega) (by omega)
  rw [Afy,O3]
  simp only [O.A6,hs,Option.bind_some,O.Ai,show (0:Int)<2 by omega,show (0:Int)<65 by omega,decide_true,O.Ab,if_true,O.Po,m1,h1,O.Bv,m2,O.Ow,m3,O.Am,m4,hw]
  rw [O3]
  simp only [O.A6,hs,Option.bind_some,O.Ai,show (1:Int)<2 by omega,m5,decide_true,O.Ab,if_true,O.Po,k1,h2,O.Bv,k2,O.Ow,k3,O.Am,k4,hw1]
  rw [O3]
  simp only [O.A6,hs,Option.bind_some,O.Ai,show ¬ (2:Int)<2 by omega,decide_false,O.Ab,Bool.false_eq_true,if_false,O.Bj]
  by_cases c:(65:Int)<10 * q+m
  ·have:min (10 * q+m) 65=65:=by omega
   simp only [c,decide_true,if_true,this];rfl
  ·have:min (10 * q+m) 65=10 * q+m:=by omega
   simp only [c,decide_false,Bool.false_eq_true,if_false,this]
   congr 3
theorem Azc {n:Nat} (h:n≤255):n.toUInt8.toNat=n:=by
 simp [Nat.toUInt8];omega
theorem Aq1 (n:Nat): ∃a:List UInt8,O.Jt n=bsL a∧a≠ []∧(n<100→ ∀c∈a,Bg c=true):=by
 have dig: ∀k:Nat,k≤9→Bg (48+k).toUInt8 =true:=by
  intro k hk
  unfold Bg
  rw [Azc (by omega)]
  simp;omega
 unfold O.Jt
 split
 ·refine ⟨[(48+n).toUInt8],rfl,by simp,fun _ c hc=>?_⟩
  rw [List.mem_singleton] at hc
  rw [hc];exact dig n (by omega)
 ·refine ⟨[(48+n / 10).toUInt8,(48+n % 10).toUInt8],rfl,by simp,fun h c hc=>?_⟩
  rw [List.mem_cons,List.mem_singleton] at hc
  rcases hc with hc | hc
  ·rw [hc];exact dig _ (by omega)
  ·rw [hc];exact dig _ (by omega)
theorem Axm (n:Nat) (hn:n≤64):W Asl 0 [.str (O.Jt n)]=some [.bool true]∧W Arn 0 [.str (O.Jt n)]=some [.int n]:=by
 unfold O.Jt
 split
 ·exact As9 _ n (by omega) (Azc (by omega))
 ·have:=Au6 (48+n / 10).toUInt8 (48+n % 10).toUInt8 (n / 10) (n % 10) (by omega) (by omega) (Azc (by omega)) (Azc (by omega))
  rw [show min (10 * (n / 10)+n % 10) 65=n by omega] at this
  exact this
def Ua (x:Stp) (i:Nat):IV:= .agg [.int x.k,.str x.nm,.int x.ix,.str x.vl,.int i,.bool false]
theorem Iv {s:ByteArray} (h:Cf s=true):(∀c∈s.data.toList,Bg c=true)∧s.data.toList≠ []:=by
 unfold Cf at h
 simp only [Bool.and_eq_true,List.all_eq_true,decide_eq_true_eq] at h
 refine ⟨h.1,fun e=>?_⟩
 have:s.size=0:=by rw [←Ew,e];rfl
 omega
theorem L4 {c:UInt8} {r:List UInt8} (h:Bg c=false):Ahd (c::r):=by
 intro d t e
 obtain ⟨rfl,_⟩:=List.cons.inj e
 exact h
theorem Ab5 (s:ByteArray) (hs:s.size≤100000) (n i:Nat) (hn:n≤64) (r:List UInt8) (h:s.data.toList.drop i=(bsL [91]++O.Jt n++bsL [93]).data.toList ++r):
  W Azb 0 [.str s,.int i]=some [Ua ⟨2,Ar,n,Ar⟩ (i+(bsL [91]++O.Jt n++bsL [93]).size)]:=by
 obtain ⟨a,ha,hne,hok⟩:=Aq1 n
 obtain ⟨d1,d2⟩:=Axm n hn
 rw [ha] at h d1 d2 ⊢
 rw [←Ef,←Ef] at h ⊢
 rw [Bq]
 have h':s.data.toList.drop i=91::(a++93::r):=by rw [h];simp [bsL]
 obtain ⟨g1,g2,g3⟩:=sx h'
 have hw:=A8 (i:=i) (by omega)
 have hnm:=Xh s hs a (i+1) (93::r) g3 (by omega) (hok (by omega)) (L4 (by decide))
 have h2:=Q2 g3
 obtain ⟨f1,f2,f3⟩:=sx h2
 have hsl:=ssl g3 hne
 have hal:0<a.length:=List.length_pos_iff.2 hne
 have hw2:=A8 (i:=i+1+a.length) (by omega)
 have c1: ¬ ((s.size:Nat):Int)≤((i+1+a.length:Nat):Int):=by omega
 have c2: ¬ ((i+1+a.length:Nat):Int)=((i+1:Nat):Int):=by omega
 have e93:((93:UInt8).toNat :Int)=93:=rfl
 rw [Ae0]
 simp only [O.Am,hw,Option.bind_some,Wv,hnm,O.Ag,O.A6,O.Ek,c1,decide_false,O.Ab,Bool.false_eq_true,if_false,O.eq_int,c2,hsl,f1,e93,decide_true,if_true,d1,d2,hw2,O.A3,Bool.not_true,O.Br]
 unfold Ua
 simp only [List.length_append,List.length_cons,List.length_nil]
 congr 4
 rw [show i+1+a.length+1=i+(0+1+a.length+(0+1)) by omega]
 rfl
theorem Ade (s:ByteArray) (hs:s.size≤100000) (nm vl:ByteArray) (hnm':Cf nm=true) (hvl:I2 vl=true) (i:Nat) (r:List UInt8) (h:s.data.toList.drop i=(bsL [91]++nm++bsL [61]++Kn vl++bsL [93]).data.toList ++r):
  W Azb 0 [.str s,.int i]=some [Ua ⟨3,nm,0,vl⟩ (i+(bsL [91]++nm++bsL [61]++Kn vl++bsL [93]).size)]:=by
 obtain ⟨hok,hne⟩:=Iv hnm'
 have hvs:=Pp hvl
 unfold I2 at hvl
 simp only [Bool.and_eq_true,List.all_eq_true] at hvl
 have hsz:(bsL [91]++nm++bsL [61]++Kn vl++bsL [93]).size =nm.data.toList.length+(vl.data.toList.flatMap Kr).length +5:=by
  unfold Kn
  simp only [ByteArray.size_append,Bq,List.length_cons,List.length_nil,List.length_append,Ew];omega
 rw [hsz]
 have h':s.data.toList.drop i=91::(nm.data.toList++61::(34::(vl.data.toList.flatMap Kr++34::(93::r)))):=by
  rw [h];unfold Kn
  simp [ByteArray.toList_data_append,bsL]
 obtain ⟨g1,g2,g3⟩:=sx h'
 have hw:=A8 (i:=i) (by omega)
 have hnm:=Xh s hs nm.data.toList (i+1) _ g3 (by omega) hok (L4 (by decide))
 have h2:=Q2 g3
 obtain ⟨f1,f2,f3⟩:=sx h2
 have hsl:=ssl g3 hne
 have hal:0<nm.data.toList.length:=List.length_pos_iff.2 hne
 obtain ⟨q1,q2,q3⟩:=sx f3
 have hw2:=A8 (i:=i+1+nm.data.toList.length) (by omega)
 have hw3:=A8 (i:=i+1+nm.data.toList.length+1) (by omega)
 have hqd:=Tj s hs vl.data.toList (i+1+nm.data.toList.length+1+1) (93::r) Ar q3 hvl.1 (by rw [Ew];show 0+vl.size≤1000;omega)
 rw [Gr,Wf] at hqd
 have h3:=Q2 q3
 obtain ⟨p1,p2,p3⟩:=sx h3
 obtain ⟨o1,o2,o3⟩:=sx p3
 have hq0:W Ac6 0 [.str s,.int ((i+1+nm.data.toList.length+1:Nat):Int)]=some [.str vl,.int ((i+1+nm.data.toList.length+1+1+(vl.data.toList.flatMap Kr).length +1:Nat):Int),.bool true]:=by
  have c1: ¬ ((s.size:Nat):Int)≤((i+1+nm.data.toList.length+1:Nat):Int):=by omega
  rw [Aos]
  simp only [O.A6,Option.bind_some,O.Ek,c1,decide_false,O.Ab,Bool.false_eq_true,if_false,q1,O.C8,show ((34:UInt8).toNat :Int)=34 from rfl,decide_true,Bool.not_true,O.Am,hw3]
  exact hqd
 have hw4:=A8 (i:=i+1+nm.data.toList.length+1+1+(vl.data.toList.flatMap Kr).length +1) (by omega)
 have c1: ¬ ((s.size:Nat):Int)≤((i+1+nm.data.toList.length:Nat):Int):=by omega
 have c2: ¬ ((i+1+nm.data.toList.length:Nat):Int)=((i+1:Nat):Int):=by omega
 have c3: ¬ ((s.size:Nat):Int)≤((i+1+nm.data.toList.length+1+1+(vl.data.toList.flatMap Kr).length +1:Nat):Int):=by omega
 rw [Ae0]
 simp only [O.Am,hw,Option.bind_some,Wv,hnm,O.Ag,O.A6,O.Ek,c1,decide_false,O.Ab,Bool.false_eq_true,if_false,O.eq_int,c2,hsl,f1,show ((61:UInt8).toNat :Int)=61 from rfl,show ¬ (61:Int)=93 by omega,O.C8,decide_true,Bool.not_true,hw2,hq0,O.Akl,O.A3,c3,o1,show ((93:UInt8).toNat :Int)=93 from rfl,hw4,O.Br,Wf]
 unfold Ua
 congr 4
 rw [show i+1+nm.data.toList.length+1+1+(vl.data.toList.flatMap Kr).length +1+1=i+(nm.data.toList.length+(vl.data.toList.flatMap Kr).length +5) by omega]
theorem Aeb (s:ByteArray) (hs:s.size≤100000) (nm:ByteArray) (hnm':Cf nm=true) (i:Nat) (r:List UInt8) (h:s.data.toList.drop i=nm.data.toList++r) (hi:i≤s.size) (hr:Ahd r) (y2 y3 y4 y5 y6 y7:IV):
  W Atv 1 [.str s,.int i,y2,y3,y4,y5,y6,y7]=some [Ua ⟨1,nm,0,Ar⟩ (i+nm.size)]:=by
 obtain ⟨hok,hne⟩:=Iv hnm'
 have hnm:=Xh s hs nm.data.toList i r h hi hok hr
 have hsl:=ssl h hne
 have hal:0<nm.data.toList.length:=List.length_pos_iff.2 hne
 have c2: ¬ ((i+nm.data.toList.length:Nat):Int)=(i:Int):=by omega
 rw [Apg]
 simp only [Wv,hnm,O.Ag,hsl,Option.bind_some,O.eq_int,c2,decide_false,O.Br,Wf]
 unfold Ua
 rw [Ew]
 rfl
theorem Awl (s:ByteArray) (hs:s.size≤100000) (x:Stp) (hx:Du x=true) (i:Nat) (r:List UInt8) (h:s.data.toList.drop i=(Gt (decide (i=0)) x).data.toList ++r) (hr:Ahd r):
  W Atv 0 [.str s,.int i]=some [Ua x (i+(Gt (decide (i=0)) x).size)]:=by
 obtain ⟨g1,g2,g3,g4,g5⟩:=D4 hx
 obtain ⟨xk,xn,xi,xv⟩:=x
 simp only at g1 g2 g3 g4 g5
 unfold Du at hx
 unfold Gt at h ⊢
 simp only at hx h ⊢
 rw [Ape]
 rcases g5 with rfl | rfl | rfl
 ·simp only [if_true,Bool.and_eq_true,decide_eq_true_eq] at hx
  obtain ⟨⟨hn,rfl⟩,rfl⟩:=hx
  simp only [show ¬ (1:Int)=2 by omega,show ¬ (1:Int)=3 by omega,if_false] at h ⊢
  obtain ⟨hok,hne⟩:=Iv hn
  by_cases hi:i=0
  ·subst hi
   simp only [decide_true,if_true] at h ⊢
   obtain ⟨c,a,hca⟩:=List.exists_cons_of_ne_nil hne
   have h':s.data.toList.drop 0=c::(a++r):=by rw [h,hca];rfl
   obtain ⟨f1,f2,f3⟩:=sx h'
   have hc:=hok c (by rw [hca];simp)
   have hc91: ¬ (c.toNat:Int)=91:=by
    intro e
    have:c.toNat=91:=by omega
    unfold Bg at hc
    rw [this] at hc
    simp at hc
   simp only [f1,Option.bind_some,O.eq_int,hc91,decide_false,O.Ab,Bool.false_eq_true,if_false,O.Bj,show ¬ (0:Int)<((0:Nat):Int) by omega]
   exact Aeb s hs xn hn 0 r h (by omega) hr _ _ _ _ _ _
  ·have hi':(0:Int)<(i:Int):=by omega
   simp only [hi,decide_false,Bool.false_eq_true,if_false] at h ⊢
   have h':s.data.toList.drop i=46::(xn.data.toList++r):=by rw [h];simp [ByteArray.toList_data_append,bsL]
   obtain ⟨f1,f2,f3⟩:=sx h'
   have hw:=A8 (i:=i) (by omega)
   have h5:=Aeb s hs xn hn (i+1) r f3 (by omega) hr (.int 0) (.str ⟨#[]⟩) (.int 0) (.str ⟨#[]⟩) (.int 0) (.bool false)
   simp only [f1,Option.bind_some,O.eq_int,show ((46:UInt8).toNat :Int)=46 from rfl,show ¬ (46:Int)=91 by omega,decide_false,O.Ab,Bool.false_eq_true,if_false,O.Bj,hi',decide_true,if_true,O.C8,Bool.not_true,O.Am,hw,h5]
   rw [ByteArray.size_append,Bq,List.length_singleton,show i+1+xn.size=i+(1+xn.size) by omega]
 ·simp only [show ¬ (2:Int)=1 by omega,if_false,if_true,Bool.and_eq_true,decide_eq_true_eq] at hx
  obtain ⟨⟨⟨h0,h64⟩,rfl⟩,rfl⟩:=hx
  obtain ⟨n,rfl⟩:=Int.eq_ofNat_of_zero_le h0
  simp only [if_true,Int.ofNat_eq_natCast,Int.toNat_natCast] at h ⊢
  have hb:=Ab5 s hs n i (by omega) r h
  have h': ∃t,s.data.toList.drop i=91::t:=by rw [h];simp [ByteArray.toList_data_append,bsL]
  obtain ⟨t,h'⟩:=h'
  obtain ⟨f1,f2,f3⟩:=sx h'
  simp only [f1,Option.bind_some,O.eq_int,show ((91:UInt8).toNat :Int)=91 from rfl,decide_true,O.Ab,if_true,hb,O.Ag]
 ·simp only [show ¬ (3:Int)=1 by omega,show ¬ (3:Int)=2 by omega,if_false,if_true,Bool.and_eq_true,decide_eq_true_eq] at hx
  obtain ⟨⟨hn,hv⟩,rfl⟩:=hx
  simp only [show ¬ (3:Int)=2 by omega,if_false,if_true] at h ⊢
  have hb:=Ade s hs xn xv hn hv i r h
  have h': ∃t,s.data.toList.drop i=91::t:=by rw [h];simp [ByteArray.toList_data_append,bsL]
  obtain ⟨t,h'⟩:=h'
  obtain ⟨f1,f2,f3⟩:=sx h'
  simp only [f1,Option.bind_some,O.eq_int,show ((91:UInt8).toNat :Int)=91 from rfl,decide_true,O.Ab,if_true,hb,O.Ag]
theorem Uo (b:Bool) (x:Stp) (hx:Du x=true):(Gt b x).data.toList ≠ []∧(b=false→Ahd ((Gt b x).data.toList)):=by
 obtain ⟨g1,g2,g3,g4,g5⟩:=D4 hx
 unfold Du at hx
 unfold Gt
 split
 ·refine ⟨by simp [ByteArray.toList_data_append,bsL],fun _=>?_⟩
  have: ∃t,(bsL [91]++O.Jt x.ix.toNat++bsL [93]).data.toList =91::t:=by simp [ByteArray.toList_data_append,bsL]
  obtain ⟨t,ht⟩:=this
  rw [ht];exact L4 (by decide)
 ·split
  ·refine ⟨by simp [ByteArray.toList_data_append,bsL],fun _=>?_⟩
   have: ∃t,(bsL [91]++x.nm++bsL [61]++Kn x.vl++bsL [93]).data.toList =91::t:=by simp [ByteArray.toList_data_append,bsL]
   obtain ⟨t,ht⟩:=this
   rw [ht];exact L4 (by decide)
  ·rename_i k2 k3
   have k1:x.k=1:=by omega
   rw [if_pos k1] at hx
   simp only [Bool.and_eq_true] at hx
   split
   ·rename_i hb
    exact ⟨(Iv hx.1.1).2,fun h=>by rw [h] at hb;cases hb⟩
   ·refine ⟨by simp [ByteArray.toList_data_append,bsL],fun _=>?_⟩
    have: ∃t,(bsL [46]++x.nm).data.toList =46::t:=by simp [ByteArray.toList_data_append,bsL]
    obtain ⟨t,ht⟩:=this
    rw [ht];exact L4 (by decide)
theorem Acz (p:List Stp) (hp: ∀x∈p,Du x=true):Ahd ((Gf false p).data.toList):=by
 cases p with
 | nil=>intro c t h;cases h
 | cons x r=>
  have h1:=Uo false x (hp x (by simp))
  obtain ⟨c,a,hca⟩:=List.exists_cons_of_ne_nil h1.1
  have h2:=h1.2 rfl
  rw [hca] at h2
  have hc:=h2 c a rfl
  simp only [Gf,ByteArray.toList_data_append,hca]
  exact L4 hc
theorem Vh (s:ByteArray) (hs:s.size≤100000) (full:List Stp) (hfull:Ez full=true): ∀ (p done:List Stp) (i:Nat),done++p=full→s.data.toList.drop i=(Gf (decide (i=0)) p).data.toList →i≤s.size→
  W Au9 1 [.str s,.int i,.list (done.map Stp.enc)]=some [.list (full.map Stp.enc),.int 0]
 | [],done,i,hd,h,hi=>by
  rw [List.append_nil] at hd
  subst hd
  have hsz:s.size≤i:=by
   have:=congrArg List.length h
   rw [List.length_drop,Ew] at this
   have e:(Gf (decide (i=0)) []).data.toList.length =0:=rfl
   rw [e] at this;omega
  have hlt: ¬ i<s.size:=by omega
  have hb2:=hfull
  unfold Ez at hb2
  simp only [Bool.and_eq_true,List.all_eq_true,decide_eq_true_eq] at hb2
  have hv:=L6 done (fun x hx=>by
   have:=D4 (hb2.1 x hx)
   exact ⟨by omega,by omega⟩) (by omega)
  rw [Aeo]
  simp only [O.A6,Option.bind_some,O.Ai,Al,hlt,decide_false,O.Ab,Bool.false_eq_true,if_false,hv,O.Ag,hfull,O.A3,Bool.not_true]
 | x::p,done,i,hd,h,hi=>by
  have hb2:=hfull
  unfold Ez at hb2
  simp only [Bool.and_eq_true,List.all_eq_true,decide_eq_true_eq] at hb2
  have hx:Du x=true:=hb2.1 x (by rw [←hd];simp)
  have hp: ∀y∈p,Du y=true:=fun y hy=>hb2.1 y (by rw [←hd];simp [hy])
  simp only [Gf,ByteArray.toList_data_append] at h
  have hst:=Awl s hs x hx i _ h (Acz p hp)
  have hne:=(Uo (decide (i=0)) x hx).1
  have hpos:0<(Gt (decide (i=0)) x).data.toList.length :=List.length_pos_iff.2 hne
  have hsz:=R8 h (by simp [hne])
  have hnext:=Q2 h
  rw [List.length_append] at hsz
  rw [Ew] at hnext hpos hsz
  have hi0:decide (i+(Gt (decide (i=0)) x).size =0)=false:=decide_eq_false (by omega)
  have hlt:i<s.size:=by omega
  have hlen:done.length+p.length+1=full.length:=by rw [←hd];simp;omega
  have hap:((done.map Stp.enc).length + [x.enc].length) * 48≤Az:=by
   simp only [List.length_map,List.length_singleton]
   have:(done.length+1) * 48≤100 * 48:=Nat.mul_le_mul (by omega) (Nat.le_refl _)
   unfold Az;omega
  have ih:=Vh s hs full hfull p (done++ [x]) (i+(Gt (decide (i=0)) x).size) (by rw [←hd];simp) (by rw [hi0];exact hnext) (by omega)
  have e1:O.proj 5 (Ua x (i+(Gt (decide (i=0)) x).size))=some (.bool false):=rfl
  have e2:O.projs 0 4 (Ua x (i+(Gt (decide (i=0)) x).size))=some x.enc:=rfl
  have e3:O.proj 4 (Ua x (i+(Gt (decide (i=0)) x).size))=some (.int ((i+(Gt (decide (i=0)) x).size :Nat):Int)):=rfl
  rw [Aeo]
  simp only [O.A6,Option.bind_some,O.Ai,Al,hlt,decide_true,O.Ab,if_true,hst,O.Ag,e1,Bool.false_eq_true,if_false,e2,O.B8,O.Bm,hap,e3]
  rw [List.map_append] at ih
  exact ih
theorem Ah4 (p:List Stp) (hp: ∀x∈p,Du x=true): ∀b,(Gf b p).size ≤500 * p.length:=by
 induction p with
 | nil=>intro b;show 0≤_;omega
 | cons x r ih=>
  intro b
  have h1:(Gt b x).size ≤500:=P3 (hp x (by simp))
  have h2:=ih (fun y hy=>hp y (by simp [hy])) false
  simp only [Gf,ByteArray.size_append,List.length_cons];omega
theorem Ard (p:List Stp) (hp:Ez p=true):W Au9 0 [.str (G8 p)]=some [.list (p.map Stp.enc),.int 0]:=by
 have hb2:=hp
 unfold Ez at hb2
 simp only [Bool.and_eq_true,List.all_eq_true,decide_eq_true_eq] at hb2
 have hsz:=Ah4 p hb2.1 true
 have h16:500 * p.length≤500 * 16:=Nat.mul_le_mul (Nat.le_refl _) hb2.2
 have e:G8 p=Gf true p:=by unfold G8;rw [if_pos hp];rfl
 rw [Apr,e]
 have hgt: ¬ (20000:Int)<((Gf true p).size :Int):=by omega
 have:=Vh (Gf true p) (by omega) p hp p [] 0 rfl rfl (by omega)
 simp only [Int.cast_ofNat_Int,List.map_nil] at this
 simp only [O.A6,Option.bind_some,O.Bj,hgt,decide_false,O.Ab,Bool.false_eq_true,if_false,this]
end Go.CT.Sch
namespace Go.CT.Sch
open Go.Proofs
inductive Sy:List (ByteArray × Val)→List (ByteArray × Val)→Prop where
 | nil:Sy [] []
 | skip {a b q} :Sy a b→Sy a (q::b)
 | keep {a b} {p q:ByteArray × Val} :p.1=q.1→p.2.Au≤q.2.Au→Sy a b→Sy (p::a) (q::b)
theorem Sy.refl: ∀l,Sy l l
 | []=> .nil
 | _::l=> .keep rfl (Nat.le_refl _) (Sy.refl l)
theorem Sy.Ayv {a b:List (ByteArray × Val)} (h:Sy a b):Cp a≤Cp b:=by
 induction h with
 | nil=>exact Nat.le_refl _
 | skip _ ih=>rw [B6];omega
 | keep h1 h2 _ ih=>rw [B6,B6,h1];omega
theorem Sy.names {a b:List (ByteArray × Val)} (h:Sy a b): ∀p∈a,∃q∈b,q.1=p.1:=by
 induction h with
 | nil=>simp
 | skip _ ih=>intro p hp;obtain ⟨q,h1,h2⟩:=ih p hp;exact ⟨q,List.mem_cons_of_mem _ h1,h2⟩
 | keep h1 _ _ ih=>
  intro p hp
  rcases List.mem_cons.1 hp with rfl | hp
  ·exact ⟨_,List.mem_cons_self,h1.symm⟩
  ·obtain ⟨q,h3,h4⟩:=ih p hp;exact ⟨q,List.mem_cons_of_mem _ h3,h4⟩
theorem Sy.strict {a b:List (ByteArray × Val)} (h:Sy a b):Dn b→Dn a:=by
 induction h with
 | nil=>exact id
 | skip _ ih=>intro hs;exact ih (List.pairwise_cons.1 hs).2
 | keep h1 _ hsub ih=>
  intro hs
  obtain ⟨hs1,hs2⟩:=List.pairwise_cons.1 hs
  refine List.pairwise_cons.2 ⟨fun y hy=>?_,ih hs2⟩
  obtain ⟨z,hz,e⟩:=hsub.names y hy
  rw [h1,←e];exact hs1 z hz
theorem Sy.filter {a b:List (ByteArray × Val)} (nm:ByteArray) (h:Sy a b):Sy (a.filter fun p=> !decide (p.1=nm)) (b.filter fun p=> !decide (p.1=nm)):=by
 induction h with
 | nil=>exact .nil
 | @skip a b q _ ih=>
  rw [List.filter_cons]
  split
  ·exact .skip ih
  ·exact ih
 | @keep a b p q h1 h2 _ ih=>
  rw [List.filter_cons,List.filter_cons,h1]
  split
  ·exact .keep h1 h2 ih
  ·exact ih
theorem K8 {key:ByteArray} {w:Val} : ∀ {l:List (ByteArray × Val)},(key,w)∈l→Cp (l.filter fun p=> !decide (p.1=key))+(1+key.size+w.Au)≤Cp l
 | [],h=>by simp at h
 | q::l,h=>by
  rw [List.filter_cons,B6]
  rcases List.mem_cons.1 h with rfl | h
  ·have:=J4 (fun p=> !decide (p.1=key)) l
   simp only [decide_true,Bool.not_true,Bool.false_eq_true,if_false];omega
  ·have ih:=K8 h
   split
   ·rw [B6];omega
   ·omega
theorem Akw {u x:Val} {key:ByteArray} {sv:Val} (hu:u.k=5) (hx:x.k=5) (hs:Sy u.f x.f) (hk:(key,sv)∈x.f):(G5 u key sv).Au ≤x.Au:=by
 have h1:Cp (G5 u key sv).f ≤Cp (D7 u key)+(1+key.size+sv.Au):=by
  have h:Cp (G5 u key sv).f ≤Cp (D7 u key++ [(key,sv)]):=Sm _
  rw [N9,B6,Eg] at h
  exact h
 have h2:Cp (D7 u key)≤Cp (x.f.filter fun p=> !decide (p.1=key)):=by
  unfold D7;rw [if_pos hu];exact (hs.filter key).Ayv
 have h3:=K8 hk
 have h4:=x.Bp
 have h5:=(G5 u key sv).Bp
 have h6:(G5 u key sv).s =Ar:=rfl
 have h7:(G5 u key sv).l = []:=rfl
 rw [h6,h7,Gg,show Ar.size=0 from rfl] at h5
 omega
theorem Aix (nm:ByteArray) (l:List (ByteArray × Val)) (p:ByteArray × Val):look nm (l++ [p])=if p.1=nm then some p else look nm l:=by
 unfold look
 rw [List.filter_append]
 by_cases c:p.1=nm
 ·simp [isName,c]
 ·simp [isName,c]
theorem Xz {u:Val} {key:ByteArray} {sv:Val} (hu:u.k=5) (hs:Dn u.f) (p:ByteArray × Val):p∈(G5 u key sv).f ↔(p.1≠key∧p∈u.f)∨p=(key,sv):=by
 have hst:Dn (G5 u key sv).f :=Io _
 have hso:Dn (D7 u key):=by unfold D7;rw [if_pos hu];exact List.Pairwise.filter _ hs
 rw [Jk hst]
 have e:look p.1 (G5 u key sv).f =if key=p.1 then some (key,sv) else look p.1 (D7 u key):=by
  show look p.1 (Ub (D7 u key++ [(key,sv)]))=_
  rw [Ox,Aix]
 rw [e]
 by_cases c:key=p.1
 ·rw [if_pos c]
  constructor
  ·intro h;exact .inr (Option.some.inj h).symm
  ·rintro (⟨h,_⟩ | h)
   ·exact absurd c.symm h
   ·rw [h]
 ·rw [if_neg c,←Jk hso]
  unfold D7
  rw [if_pos hu,List.mem_filter]
  constructor
  ·rintro ⟨h1,h2⟩;exact .inl ⟨fun e=>c e.symm,h1⟩
  ·rintro (⟨h1,h2⟩ | h)
   ·exact ⟨h2,by simp [h1]⟩
   ·rw [h] at c;exact absurd rfl c
theorem X6 {v w:Val} {nm:ByteArray} (hk:v.k=5) (hs:Dn v.f):v.get nm=some w↔(nm,w)∈v.f:=by
 constructor
 ·exact fun h=>(Hc h).1
 ·intro h
  have:=Jw hs h
  unfold Val.get
  rw [if_pos hk,this];rfl
theorem Lc (u:Val) (key:ByteArray) (sv:Val):Dn (G5 u key sv).f :=Io _
theorem Qg (u:Val) {key:ByteArray} {sv:Val} (hu:u.k=5) (hs:Dn u.f):(G5 u key sv).get key=some sv:=
 (X6 rfl (Lc u key sv)).2 ((Xz hu hs _).2 (.inr rfl))
theorem Acu (u:Val) {key nm:ByteArray} {sv w:Val} (hu:u.k=5) (hs:Dn u.f) (hn:nm≠key) (h:u.get nm=some w):(G5 u key sv).get nm=some w:=
 (X6 rfl (Lc u key sv)).2 ((Xz hu hs _).2 (.inl ⟨hn,((X6 hu hs).1 h)⟩))
theorem Al8 {x:Val} {key:ByteArray} {sv:Val} (hv:x.valid=true) (h:x.get key=some sv):G5 x key sv=x:=by
 obtain ⟨hm,hk⟩:=Hc h
 have hs:=K1 hv
 have hf:(G5 x key sv).f =x.f:=Vo (Lc _ _ _) hs fun p=>by
  rw [Xz hk hs]
  constructor
  ·rintro (⟨_,h⟩ | rfl)
   ·exact h
   ·exact hm
  ·intro hp
   by_cases c:p.1=key
   ·right
    have h1:=Jw hs hp
    have h2:=Jw hs hm
    rw [c] at h1
    rw [h1] at h2
    exact Option.some.inj h2
   ·exact .inl ⟨c,hp⟩
 have hl:=Aau hv (by omega)
 have h2:x.n=0∧x.s=Ar:=by
  rw [Gw] at hv
  have:=((Dv 11 x).1 hv.1).1
  unfold Eu at this
  rw [if_neg (by omega),if_neg (by omega),if_neg (by omega)] at this
  exact (of_decide_eq_true this).2
 obtain ⟨k,n,s,l,f⟩:=x
 simp only [Val.Azi,Val.Aid,Val.Ah7,Val.Az2,Val.Aom] at hk hl hf h2
 obtain ⟨rfl,rfl⟩:=h2
 subst hk hl
 show Val.mk 5 0 Ar [] (G5 ⟨5,0,Ar,[],f⟩ key sv).f =_
 rw [hf]
end Go.CT.Sch
namespace Go.CT.Sch
open Go.Proofs
theorem Ah0 {o:Option Sch} {v:Val} (h:v.valid=true) {x:Kid} (hx:x∈kids o v):x.2.1.valid=true:=by
 cases o with
 | none=>simp [kids] at hx
 | some s=>
  rw [kids] at hx
  split at hx
  ·split at hx
   ·obtain ⟨p,hp,rfl⟩:=List.mem_map.1 hx;exact (M0 h hp).1
   ·split at hx
    ·obtain ⟨p,hp,rfl⟩:=List.mem_map.1 hx;exact Pq h hp
    ·simp at hx
  ·simp at hx
theorem Vt {o:Option Sch} {v:Val} (h:kids o v≠ []): ∃s,o=some s∧s.k=v.k∧
  ((v.k=5∧kids o v=v.f.map (D5 s))∨(v.k=4∧s.key≠Ar∧Ho s.key [] v.l=true∧kids o v=v.l.map (Dk s))):=by
 cases o with
 | none=>simp [kids] at h
 | some s=>
  refine ⟨s,rfl,?_⟩
  rw [kids] at h ⊢
  by_cases c1:s.k=v.k
  ·rw [if_pos c1] at h ⊢
   by_cases c2:v.k=5
   ·exact ⟨c1,.inl ⟨c2,by rw [if_pos c2];rfl⟩⟩
   ·rw [if_neg c2] at h ⊢
    by_cases c3:v.k=4∧s.key≠Ar∧Ho s.key [] v.l=true
    ·exact ⟨c1,.inr ⟨c3.1,c3.2.1,c3.2.2,by rw [if_pos c3];rfl⟩⟩
    ·rw [if_neg c3] at h;exact absurd rfl h
  ·rw [if_neg c1] at h;exact absurd rfl h
theorem O6 {x:Val} {key:ByteArray} (hx:x.valid=true) (h:isKey x key=true):x.k=5∧(key,Yp (H7 x key))∈x.f∧x.get key=some (Yp (H7 x key)):=by
 have h1:=Av7 hx h
 unfold isKey at h
 simp only [Bool.and_eq_true] at h
 obtain ⟨y,hy⟩:=Option.isSome_iff_exists.1 h.1
 rw [hy] at h1
 have h1':y=Yp (H7 x key):=h1
 rw [h1'] at hy
 exact ⟨(Hc hy).2,(Hc hy).1,hy⟩
theorem Ay1: ∀ (n:Nat) (o:Option Sch) (v:Val) (p:List Stp) (ch:ByteArray→Bool),(pt n o v p ch).1.k =v.k
 | 0,_,_,_,_=>rfl
 | n+1,o,v,p,ch=>by rw [I9];split<;>rfl
theorem Zk (s:Sch) (r:Kid→Val × Bool): ∀l:List (ByteArray × Val),(∀x∈l,(r (D5 s x)).1.Au ≤x.2.Au)→Sy (fieldsOf (Et r (l.map (D5 s)))) l
 | [],_=> .nil
 | x::l,h=>by
  have ih:=Zk s r l fun y hy=>h y (List.mem_cons_of_mem _ hy)
  rw [List.map_cons,Mc]
  cases (r (D5 s x)).2 with
  | false=>exact .skip ih
  | true=>exact .keep rfl (h x List.mem_cons_self) ih
theorem Y5 (s:Sch) (r:Kid→Val × Bool): ∀l:List Val,(∀x∈l,(G5 (r (Dk s x)).1 s.key (Yp (H7 x s.key))).Au ≤x.Au)→Gm (Ga (Et r (l.map (Dk s))))≤Gm l
 | [],_=>Nat.le_refl _
 | x::l,h=>by
  have ih:=Y5 s r l fun y hy=>h y (List.mem_cons_of_mem _ hy)
  have hx:=h x List.mem_cons_self
  rw [List.map_cons,Mc,Nq]
  cases (r (Dk s x)).2 with
  | false=>simp only [Bool.false_eq_true,if_false];omega
  | true=>
   have e:Gm (Ga (((Dk s x).1,(r (Dk s x)).1)::Et r (l.map (Dk s))))=(G5 (r (Dk s x)).1 s.key (Yp (H7 x s.key))).Au +Gm (Ga (Et r (l.map (Dk s)))):=Nq _ _
   simp only [if_true]
   rw [e];omega
theorem Wh: ∀ (n:Nat) (o:Option Sch) (v:Val) (p:List Stp) (ch:ByteArray→Bool),v.valid=true→(pt n o v p ch).1.Au ≤v.Au∧(v.k=5→Sy (pt n o v p ch).1.f v.f)
 | 0,_,v,_,_,_=>⟨Nat.le_refl _,fun _=>Sy.refl _⟩
 | n+1,o,v,p,ch,hv=>by
  rw [I9]
  split
  ·exact ⟨Nat.le_refl _,fun _=>Sy.refl _⟩
  ·rename_i hne
   obtain ⟨s,rfl,h1,h2⟩:=Vt hne
   rcases h2 with ⟨k5,hk⟩ | ⟨k4,hkey,hkl,hk⟩
   ·have hs:Sy (fieldsOf (Et (fun x=>pt n x.2.2 x.2.1 (p++ [x.1]) ch) (kids (some s) v))) v.f:=by
     rw [hk]
     exact Zk s _ v.f fun x hx=>(Wh n (D5 s x).2.2 (D5 s x).2.1 (p++ [(D5 s x).1]) ch (M0 hv hx).1).1
    simp only [k5,if_true]
    refine ⟨?_,fun _=>hs⟩
    have:=hs.Ayv
    have e:=v.Bp
    rw [Val.Bp]
    simp only [Val.Aom,Val.Aid,Val.Ah7,Gg,show Ar.size=0 from rfl];omega
   ·have n5: ¬ v.k=5:=by omega
    have hs:Gm (Ga (Et (fun x=>pt n x.2.2 x.2.1 (p++ [x.1]) ch) (kids (some s) v)))≤Gm v.l:=by
     rw [hk]
     refine Y5 s _ v.l fun x hx=>?_
     obtain ⟨x5,xm,_⟩:=O6 (Pq hv hx) (Hr hkl x hx)
     have ih:=Wh n (Dk s x).2.2 (Dk s x).2.1 (p++ [(Dk s x).1]) ch (Pq hv hx)
     have hkk:=Ay1 n (Dk s x).2.2 (Dk s x).2.1 (p++ [(Dk s x).1]) ch
     exact Akw (hkk.trans x5) x5 (ih.2 x5) xm
    simp only [n5,if_false]
    refine ⟨?_,fun h=>absurd h (by first | exact n5 | exact not_false)⟩
    have e:=v.Bp
    rw [Val.Bp]
    simp only [Val.Aom,Val.Aid,Val.Ah7,Eg,show Ar.size=0 from rfl];omega
theorem Aab {n:Nat} {o:Option Sch} {v:Val} {p:List Stp} {ch:ByteArray→Bool} (hv:v.valid=true) (hk:v.k=5):Dn (pt n o v p ch).1.f :=
 ((Wh n o v p ch hv).2 hk).strict (K1 hv)
theorem Api {s:Sch} {r:Kid→Val × Bool} {l:List (ByteArray × Val)} {x:ByteArray × Val} (hx:x∈l) (h:(r (D5 s x)).2 =true):(x.1,(r (D5 s x)).1)∈fieldsOf (Et r (l.map (D5 s))):=by
 unfold fieldsOf Et
 refine List.mem_map.2 ⟨((D5 s x).1,(r (D5 s x)).1),List.mem_filterMap.2 ⟨D5 s x,List.mem_map_of_mem hx,by rw [if_pos h]⟩,rfl⟩
theorem Qm {key:ByteArray} : ∀ {l:List Val} {acc:List ByteArray},Ho key acc l=true→ ∀x∈l,H7 x key∉acc
 | [],_,_=>by simp
 | y::l,acc,h=>by
  simp only [Ho,Bool.and_eq_true,Bool.not_eq_true'] at h
  intro x hx
  rcases List.mem_cons.1 hx with rfl | hx
  ·intro hm;have:=Wk.2 hm;rw [this] at h;exact absurd h.1.2 (by simp)
  ·exact fun hm=>Qm h.2 x hx (List.mem_append_left _ hm)
theorem Tu {key:ByteArray} {y:Val} {l:List Val} {acc:List ByteArray} (h:Ho key acc (y::l)=true):Ho key (acc++ [H7 y key]) l=true∧ ∀x∈l,H7 x key≠H7 y key:=by
 have h':=h
 simp only [Ho,Bool.and_eq_true] at h'
 exact ⟨h'.2,fun x hx e=>Qm h'.2 x hx (by rw [e];simp)⟩
theorem Aql {x:Val} {key:ByteArray} (h:isKey x key=true) (k:ByteArray):hasB key k x=decide (H7 x key=k):=by
 unfold isKey at h
 simp only [Bool.and_eq_true,decide_eq_true_eq] at h
 unfold hasB H7
 rw [h.2];simp
theorem Ai1 {key:ByteArray} : ∀ {l:List Val} {acc:List ByteArray},Ho key acc l=true→ ∀x∈l,l.find? (hasB key (H7 x key))=some x
 | [],_,_=>by simp
 | y::l,acc,h=>by
  intro x hx
  have hi:=Hr h
  obtain ⟨h1,h2⟩:=Tu h
  rw [List.find?_cons,Aql (hi y List.mem_cons_self)]
  by_cases c:H7 y key=H7 x key
  ·rcases List.mem_cons.1 hx with rfl | hx
   ·simp
   ·exact absurd c.symm (h2 x hx)
  ·rcases List.mem_cons.1 hx with rfl | hx
   ·exact absurd rfl c
   ·simp only [c,decide_false]
    exact Ai1 h1 x hx
theorem Abl (u:Val) (key kv k:ByteArray) (hu:u.k=5) (hs:Dn u.f):hasB key k (G5 u key (Yp kv))=decide (kv=k):=by
 unfold hasB
 rw [Qg u hu hs]
 show (decide ((3:Int)=3)&&decide (kv=k))=decide (kv=k)
 rw [decide_eq_true (rfl:(3:Int)=3),Bool.true_and]
theorem Zz {s:Sch} {r:Kid→Val × Bool} : ∀ {l:List Val} {acc:List ByteArray},Ho s.key acc l=true→(∀y∈l,(r (Dk s y)).1.k =5∧Dn (r (Dk s y)).1.f)→ ∀x∈l,(r (Dk s x)).2 =true→
  (Ga (Et r (l.map (Dk s)))).find? (hasB s.key (H7 x s.key))=some (G5 (r (Dk s x)).1 s.key (Yp (H7 x s.key)))
 | [],_,_,_=>by simp
 | y::l,acc,h,hr=>by
  intro x hx hc
  obtain ⟨h1,h2⟩:=Tu h
  have hy:=hr y List.mem_cons_self
  have ih:=Zz h1 fun z hz=>hr z (List.mem_cons_of_mem _ hz)
  rw [List.map_cons,Mc]
  have e: ∀z t,Ga (((Dk s y).1,z)::t)=G5 z s.key (Yp (H7 y s.key))::Ga t:=fun _ _=>rfl
  by_cases c:H7 y s.key=H7 x s.key
  ·rcases List.mem_cons.1 hx with rfl | hx
   ·rw [if_pos hc,e,List.find?_cons,Abl _ _ _ _ hy.1 hy.2];simp
   ·exact absurd c.symm (h2 x hx)
  ·rcases List.mem_cons.1 hx with rfl | hx
   ·exact absurd rfl c
   ·cases (r (Dk s y)).2 with
    | false=>exact ih x hx hc
    | true=>
     simp only [if_true]
     rw [e,List.find?_cons,Abl _ _ _ _ hy.1 hy.2]
     simp only [c,decide_false]
     exact ih x hx hc
end Go.CT.Sch
namespace Go.CT.Sch
open Go.Proofs
theorem U9: ∀ (q:List Stp) (d:Nat) (v w:Val),Bl d v=true→Qo v q=some w→q.length<d
 | [],0,v,w,h,_=>by simp [Bl] at h
 | [],d+1,_,_,_,_=>by simp
 | x::q,0,v,w,h,_=>by simp [Bl] at h
 | x::q,d+1,v,w,h,hg=>by
  simp only [Qo,Option.bind_eq_some_iff] at hg
  obtain ⟨u,h1,h2⟩:=hg
  have h':=(Dv d v).1 h
  have hu:Bl d u=true:=by
   unfold N0 at h1
   split at h1
   ·exact (h'.2.2.2.1 _ (Hc h1).1).2
   ·split at h1
    ·split at h1
     ·exact h'.2.2.1 _ (List.mem_of_getElem? h1)
     ·exact h'.2.2.1 _ (List.mem_of_find?_eq_some h1)
    ·cases h1
  have:=U9 q d u w hu h2
  simp;omega
theorem Aj5 {u x w:Val} {key:ByteArray} {sv:Val} {q:List Stp} (hu:u.k=5) (hs:Dn u.f) (hx:x.k=5) (hk:x.get key=some sv) (h1:Qo x q=some w) (h2:Qo u q=some w) (hq:q≠ []):Qo (G5 u key sv) q=some w:=by
 cases q with
 | nil=>exact absurd rfl hq
 | cons a q=>
  simp only [Qo,Option.bind_eq_some_iff] at h1 h2 ⊢
  obtain ⟨y,e1,e2⟩:=h1
  obtain ⟨z,e3,e4⟩:=h2
  have ha:a.k=1:=by
   apply Classical.byContradiction
   intro hn
   unfold N0 at e1
   rw [if_neg hn,if_neg (by omega)] at e1;cases e1
  unfold N0 at e1 e3 ⊢
  rw [if_pos ha] at e1 e3 ⊢
  by_cases c:a.nm=key
  ·rw [c,Qg u hu hs]
   rw [c,hk] at e1
   cases e1
   exact ⟨_,rfl,e2⟩
  ·exact ⟨z,Acu u hu hs c e3,e4⟩
theorem Ahp {v:Val} (hv:v.valid=true) {x:ByteArray × Val} (hx:x∈v.f):Du (Cv x.1)=true:=by
 have:=(M0 hv hx).2
 unfold Du Cv
 simp [this]
theorem Ah8 {x:Val} (hx:x.valid=true) {key:ByteArray} (hk:isKey x key=true):Du (At7 key x)=true:=by
 obtain ⟨h5,hm,hg⟩:=O6 hx hk
 have h1:=(M0 hx hm).2
 have h2:=Ak5 (M0 hx hm).1 rfl
 have h2':I2 (H7 x key)=true:=h2
 unfold Du At7
 simp [h1,h2']
theorem Aa8: ∀ (n:Nat) (o:Option Sch) (v:Val) (p:List Stp) (t:ByteArray),v.size≤n→v.valid=true→t∈lv n o v p→
  ∃q w,t=G8 (p++q)∧Qo v q=some w∧(∀x∈q,Du x=true)∧(kids o v≠ []→q≠ [])∧ ∀ch,ch t=true→(pt n o v p ch).2 =true∧Qo (pt n o v p ch).1 q=some w
 | 0,o,v,p,t,h,_,_=>by have:=v.size_pos;omega
 | n+1,o,v,p,t,h,hv,ht=>by
  rw [lv] at ht
  by_cases c:kids o v= []
  ·rw [if_pos c,List.mem_singleton] at ht
   subst ht
   refine ⟨[],v,by simp,rfl,by simp,fun h=>absurd c h,fun ch hc=>?_⟩
   rw [I9,if_pos c]
   exact ⟨hc,rfl⟩
  ·rw [if_neg c] at ht
   obtain ⟨x,hx,ht⟩:=List.mem_flatMap.1 ht
   obtain ⟨hs1,_⟩:=Tp hx
   obtain ⟨q,w,e1,e2,e3,e4,e5⟩:=Aa8 n x.2.2 x.2.1 (p++ [x.1]) t (by omega) (Ah0 hv hx) ht
   rw [List.append_assoc,List.singleton_append] at e1
   obtain ⟨s,rfl,h1,h2⟩:=Vt c
   rcases h2 with ⟨k5,hk⟩ | ⟨k4,hkey,hkl,hk⟩
   ·rw [hk] at hx
    obtain ⟨y,hy,rfl⟩:=List.mem_map.1 hx
    have hg:v.get y.1=some y.2:=get_of_mem hv hy
    refine ⟨Cv y.1::q,w,e1,?_,?_,fun _=>by simp,fun ch hc=>?_⟩
    ·simp only [Qo,N0,Cv,if_true,hg,Option.bind_some];exact e2
    ·intro z hz
     rcases List.mem_cons.1 hz with rfl | hz
     ·exact Ahp hv hy
     ·exact e3 z hz
    ·obtain ⟨e6,e7⟩:=e5 ch hc
     have hm:=Api (r:=fun x=>pt n x.2.2 x.2.1 (p++ [x.1]) ch) hy e6
     have hst:Dn (pt (n+1) (some s) v p ch).1.f :=Aab hv k5
     have hkk:=Ay1 (n+1) (some s) v p ch
     have hf:(pt (n+1) (some s) v p ch).1.f =fieldsOf (Et (fun x=>pt n x.2.2 x.2.1 (p++ [x.1]) ch) (v.f.map (D5 s))):=by
      rw [I9,if_neg c,hk];simp only [k5,if_true,Val.Ah7]
     have h2:(pt (n+1) (some s) v p ch).2 =true:=by
      rw [I9,if_neg c,hk]
      cases hl:Et (fun x=>pt n x.2.2 x.2.1 (p++ [x.1]) ch) (v.f.map (D5 s)) with
      | nil=>rw [hl] at hm;simp [fieldsOf] at hm
      | cons=>rfl
     have hget:=(X6 (hkk.trans k5) hst).2 (by rw [hf];exact hm)
     refine ⟨h2,?_⟩
     simp only [Qo,N0,Cv,if_true,hget,Option.bind_some]
     exact e7
   ·rw [hk] at hx
    obtain ⟨y,hy,rfl⟩:=List.mem_map.1 hx
    have hik:=Hr hkl y hy
    have hyv:=Pq hv hy
    obtain ⟨y5,ym,yg⟩:=O6 hyv hik
    have hfe:=Ai1 hkl y hy
    refine ⟨At7 s.key y::q,w,e1,?_,?_,fun _=>by simp,fun ch hc=>?_⟩
    ·have n1: ¬ (3:Int)=1:=by decide
     have n2: ¬ (3:Int)=2:=by decide
     simp only [Qo,N0,At7,n1,n2,if_false,k4,if_true,hfe,Option.bind_some];exact e2
    ·intro z hz
     rcases List.mem_cons.1 hz with rfl | hz
     ·exact Ah8 hyv hik
     ·exact e3 z hz
    ·obtain ⟨e6,e7⟩:=e5 ch hc
     have hr: ∀z∈v.l,(pt n (Dk s z).2.2 (Dk s z).2.1 (p++ [(Dk s z).1]) ch).1.k =5∧Dn (pt n (Dk s z).2.2 (Dk s z).2.1 (p++ [(Dk s z).1]) ch).1.f :=fun z hz=>by
      obtain ⟨z5,_,_⟩:=O6 (Pq hv hz) (Hr hkl z hz)
      exact ⟨(Ay1 _ _ _ _ _).trans z5,Aab (Pq hv hz) z5⟩
     have hfk:=Zz (r:=fun x=>pt n x.2.2 x.2.1 (p++ [x.1]) ch) hkl hr y hy e6
     have n5: ¬ v.k=5:=by omega
     have hl:(pt (n+1) (some s) v p ch).1.l =Ga (Et (fun x=>pt n x.2.2 x.2.1 (p++ [x.1]) ch) (v.l.map (Dk s))):=by
      rw [I9,if_neg c,hk];simp only [n5,if_false,Val.Aid]
     have h2:(pt (n+1) (some s) v p ch).2 =true:=by
      rw [I9,if_neg c,hk]
      cases hl:Et (fun x=>pt n x.2.2 x.2.1 (p++ [x.1]) ch) (v.l.map (Dk s)) with
      | nil=>rw [hl] at hfk;simp [Ga] at hfk
      | cons=>rfl
     have hkk:=Ay1 (n+1) (some s) v p ch
     refine ⟨h2,?_⟩
     have n1: ¬ (3:Int)=1:=by decide
     have n2: ¬ (3:Int)=2:=by decide
     simp only [Qo,N0,At7,n1,n2,if_false,hkk,k4,if_true,hl,hfk,Option.bind_some]
     by_cases cq:q= []
     ·subst cq
      have e2':y=w:=Option.some.inj e2
      have e7':(pt n (Dk s y).2.2 (Dk s y).2.1 (p++ [(Dk s y).1]) ch).1 =w:=Option.some.inj e7
      rw [e7',←e2',Al8 hyv yg];rfl
     ·exact Aj5 (hr y hy).1 (hr y hy).2 y5 yg e2 e7 cq
end Go.CT.Sch
namespace Go.CT.Sch
open Go.Proofs
theorem Akr {s:Sch} {v:Val} {t:ByteArray} (hv:v.valid=true) (ht:t∈Gq s v): ∃q w,t=G8 q∧Ez q=true∧Qo v q=some w∧
  ∀set is,inB set t=is→Qo (Ii s v set is) q=some w:=by
 unfold Gq at ht
 split at ht
 ·rename_i hc
  rw [Ao5] at ht
  obtain ⟨q,w,e1,e2,e3,_,e5⟩:=Aa8 v.size (some s) v [] t (Nat.le_refl _) hv ht
  rw [List.nil_append] at e1
  have hd:=U9 q 12 v w ((Gw v).1 hv).1 e2
  refine ⟨q,w,e1,?_,e2,fun set is h=>?_⟩
  ·unfold Ez
   simp only [Bool.and_eq_true,List.all_eq_true,decide_eq_true_eq]
   exact ⟨e3,by omega⟩
  ·have hch:chB set is t=true:=by unfold chB;rw [h];simp
   obtain ⟨e6,e7⟩:=e5 _ hch
   unfold Ii
   rw [if_pos hc,if_pos e6]
   exact e7
 ·simp at ht
theorem Adr (s:Sch) (v:Val) (set:List ByteArray) (is:Bool):(Ii s v set is).Au ≤v.Au:=by
 unfold Ii
 split
 ·rename_i hc
  have hv:v.valid=true:=by simp only [Bool.and_eq_true] at hc;exact hc.2
  split
  ·exact (Wh _ _ _ _ _ hv).1
  ·have h0:=v.Bp
   split
   ·rw [Val.Bp (Val.mk _ _ _ _ _)]
    simp only [Val.Aom,Val.Aid,Val.Ah7,Eg,Gg,show Ar.size=0 from rfl];omega
   ·rw [Val.Bp Bb]
    simp only [Bb,Val.Aom,Val.Aid,Val.Ah7,Eg,Gg,show Ar.size=0 from rfl];omega
 ·exact Nat.le_refl _
theorem Acm {q:List Stp} (h:Ez q=true):(∀x∈q,x.fits)∧q.length≤16:=by
 unfold Ez at h
 simp only [Bool.and_eq_true,List.all_eq_true,decide_eq_true_eq] at h
 refine ⟨fun x hx=>?_,h.2⟩
 obtain ⟨h1,h2,_⟩:=D4 (h.1 x hx)
 exact ⟨by omega,by omega⟩
theorem Ays (v w:Val) (q:List Stp) (hv:v.Au≤1048576) (hq:Ez q=true) (hg:Qo v q=some w):W Aze 0 [v.enc,.str (G8 q)]=some [w.enc,.bool true]:=by
 obtain ⟨h1,h2⟩:=Acm hq
 have h3:=Axo v q hv h1 (by omega)
 unfold Azd at h3
 rw [if_pos hq,hg] at h3
 rw [An3]
 simp only [Ard q hq,O.Dc,O.C8,decide_true,Bool.not_true,Option.bind_some,O.Ab,Bool.false_eq_true,if_false,h3,Option.getD_some,Option.isSome_some]
theorem Aly (hA:W F5 0 []=some [.bool true]) (s:Sch) (v:Val) (set:List ByteArray) (hs:s.Au≤1048576) (hv:v.Au≤1048576) (hset:set.length≤1048576) (hvv:v.valid=true): ∀ (n i:Nat),i+n=(Gq s v).length →
  W Aed 1 [SL set,.int i,v.enc,(Ii s v set true).enc,(Ii s v set false).enc,SL (Gq s v)]=some [.bool true]
 | 0,i,h=>by
  have:i=(Gq s v).length :=by omega
  subst this
  rw [Age]
  simp only [Srt.len,ltn,Option.bind_some,O.Ab,Bool.false_eq_true,if_false,hA,O.Ag]
 | n+1,i,h=>by
  have hi:i<(Gq s v).length :=by omega
  have hlen:=Acl s v
  have hsz:=v.Gy
  have ih:=Aly hA s v set hs hv hset hvv n (i+1) (by omega)
  obtain ⟨q,w,e1,e2,e3,e4⟩:=Akr hvv (List.getElem_mem hi)
  have hx:=Srt.idx IV.str (List.getElem?_eq_getElem hi)
  have hat:=Ays v w q hv e2 e3
  rw [←e1] at hat
  have hwm:w.Au≤1048576:=by have:=Zw q v w e3;omega
  have two: ∀is,inB set (Gq s v)[i]=is→W Aed 2 [SL set,.int i,.bool true,v.enc,(Ii s v set true).enc,(Ii s v set false).enc,SL (Gq s v),w.enc,(Ii s v set is).enc]=some [.bool true]:=by
   intro is his
   have hm:=Adr s v set is
   have hat2:=Ays (Ii s v set is) w q (by omega) e2 (e4 set is his)
   rw [←e1] at hat2
   rw [Ao8]
   simp only [hx,Option.bind_some,hat2,O.Dc,O.A3,Bool.not_true,O.Ab,Bool.false_eq_true,if_false,Alw w w (by omega) (by omega),decide_true,O.Ag,nxt (show i<4611686018427387904 by omega),ih]
  rw [Age]
  simp only [Srt.len,lti hi,Option.bind_some,O.Ab,if_true,hx,hat,O.Dc,rhas set _ hset,O.Ag]
  cases hh:inB set (Gq s v)[i] with
  | true=>simp only [if_true];exact two true hh
  | false=>simp only [Bool.false_eq_true,if_false];exact two false hh
theorem Aj0 (hA:W F5 0 []=some [.bool true]) (s:Sch) (v:Val) (set:List ByteArray) (hs:s.Au≤1048576) (hv:v.Au≤1048576) (hset:set.length≤1048576):W Aed 0 [s.enc,v.enc,SL set]=some [.bool true]:=by
 obtain ⟨b,hb⟩:=Akx s v set hs hv
 rw [Aoq]
 simp only [hb,O.Ag,O.A3,Option.bind_some,O.Ab,Ah3 s hs,Aae v (show v.Au≤1099511627776 by omega),Aw,Ap,hA,Aw6,Ap1,Ad7 s v set true hs hv hset,Ad7 s v set false hs hv hset,Ama s v hs hv]
 cases b with
 | false=>rfl
 | true=>
  cases s.valid with
  | false=>rfl
  | true=>
   cases hvv:v.valid with
   | false=>rfl
   | true=>exact Aly hA s v set hs hv hset hvv (Gq s v).length 0 (by omega)
end Go.CT.Sch
namespace Go.CT.Sch
open Go.Proofs
theorem Atq:W F5 0 []=some [.bool true]:=Az0 600 (by kernel_rfl)
end Go.CT.Sch
namespace Go.CT.Sch
open Go.Proofs
theorem T2 {x:IV} (h:WT Tryz.prog 3 x): ∃n,x= .int n:=by
 obtain ⟨n,rfl,_⟩:=h.Gz (k:= .i64) (by kernel_rfl)
 exact ⟨n,rfl⟩
theorem Vs {x:IV} (h:WT Tryz.prog 9 x): ∃s,x= .str s:=by
 obtain ⟨s,rfl,_⟩:=h.Gn (by kernel_rfl)
 exact ⟨s,rfl⟩
theorem Akg {x:IV} (h:WT Tryz.prog 4 x): ∃b,x= .bool b:=h.J2 (by kernel_rfl)
theorem Ath {x:IV} (h:WT Tryz.prog 22 x): ∃l:List ByteArray,x= .list (l.map .str):=by
 obtain ⟨xs,rfl,_,h⟩:=h.Cd (e:=9) (by kernel_rfl)
 obtain ⟨es,rfl,_⟩:=Ij (enc:=IV.str) (ok:=fun _=>True) (xs:=xs) fun x hx=>by
  obtain ⟨s,e⟩:=Vs (h x hx)
  exact ⟨s,e,trivial⟩
 exact ⟨es,rfl⟩
theorem Akt {x:IV} (hx:WT Tryz.prog 30 x) (h: ∀y,y.bulk<x.bulk→WT Tryz.prog 33 y→ ∃v:Val,y=v.enc): ∃l:List Val,x= .list (l.map Val.enc):=by
 obtain ⟨xs,rfl,_,hh⟩:=hx.Cd (e:=33) (by kernel_rfl)
 obtain ⟨es,rfl,_⟩:=Ij (enc:=Val.enc) (ok:=fun _=>True) (xs:=xs) fun y hy=>by
  have hb:y.bulk<(IV.list xs).bulk :=by have:=Es hy;simp only [IV.bulk];omega
  obtain ⟨s,e⟩:=h y hb (hh y hy)
  exact ⟨s,e,trivial⟩
 exact ⟨es,rfl⟩
theorem Ank {x:IV} (hx:WT Tryz.prog 31 x) (h: ∀y,y.bulk<x.bulk→WT Tryz.prog 70 y→ ∃p,y=Fld.enc p): ∃l:List (ByteArray × Val),x= .list (l.map Fld.enc):=by
 obtain ⟨xs,rfl,_,hh⟩:=hx.Cd (e:=70) (by kernel_rfl)
 obtain ⟨es,rfl,_⟩:=Ij (enc:=Fld.enc) (ok:=fun _=>True) (xs:=xs) fun y hy=>by
  have hb:y.bulk<(IV.list xs).bulk :=by have:=Es hy;simp only [IV.bulk];omega
  obtain ⟨s,e⟩:=h y hb (hh y hy)
  exact ⟨s,e,trivial⟩
 exact ⟨es,rfl⟩
theorem Acs: ∀ (n:Nat) (x:IV),x.bulk≤n→(WT Tryz.prog 33 x→ ∃v:Val,x=v.enc)∧(WT Tryz.prog 70 x→ ∃p,x=Fld.enc p)
 | 0,x,hb=>by have:=X3 x;omega
 | n+1,x,hb=>by
  have hV: ∀y:IV,y.bulk≤n→WT Tryz.prog 30 y→ ∃l:List Val,y= .list (l.map Val.enc):=fun y hy h=>Akt h fun z hz hw=>(Acs n z (by omega)).1 hw
  have hF: ∀y:IV,y.bulk≤n→WT Tryz.prog 31 y→ ∃l:List (ByteArray × Val),y= .list (l.map Fld.enc):=fun y hy h=>Ank h fun z hz hw=>(Acs n z (by omega)).2 hw
  constructor
  ·intro h
   obtain ⟨xs,rfl,h2⟩:=h.I7 (ts:= [3,3,9,30,31]) (by kernel_rfl) (by kernel_rfl)
   obtain ⟨a,xs,rfl,ha,h⟩:=h2.cons_inv
   obtain ⟨b,xs,rfl,hb,h⟩:=h.cons_inv
   obtain ⟨c,xs,rfl,hc,h⟩:=h.cons_inv
   obtain ⟨d,xs,rfl,hd,h⟩:=h.cons_inv
   obtain ⟨e,xs,rfl,he,h⟩:=h.cons_inv
   obtain rfl:=h.Xd
   simp only [IV.bulk,IV.Ci] at hb
   obtain ⟨k,rfl⟩:=T2 ha
   obtain ⟨m,rfl⟩:=T2 ‹WT Tryz.prog 3 b›
   obtain ⟨s,rfl⟩:=Vs hc
   obtain ⟨l,rfl⟩:=hV d (by omega) hd
   obtain ⟨f,rfl⟩:=hF e (by omega) he
   exact ⟨⟨k,m,s,l,f⟩,Val.fold _ _ _ _ _⟩
  ·intro h
   obtain ⟨xs,rfl,h2⟩:=h.I7 (ts:= [9,3,3,9,30,31]) (by kernel_rfl) (by kernel_rfl)
   obtain ⟨z,xs,rfl,hz,h⟩:=h2.cons_inv
   obtain ⟨a,xs,rfl,ha,h⟩:=h.cons_inv
   obtain ⟨b,xs,rfl,hb,h⟩:=h.cons_inv
   obtain ⟨c,xs,rfl,hc,h⟩:=h.cons_inv
   obtain ⟨d,xs,rfl,hd,h⟩:=h.cons_inv
   obtain ⟨e,xs,rfl,he,h⟩:=h.cons_inv
   obtain rfl:=h.Xd
   simp only [IV.bulk,IV.Ci] at hb
   obtain ⟨nm,rfl⟩:=Vs hz
   obtain ⟨k,rfl⟩:=T2 ha
   obtain ⟨m,rfl⟩:=T2 ‹WT Tryz.prog 3 b›
   obtain ⟨s,rfl⟩:=Vs hc
   obtain ⟨l,rfl⟩:=hV d (by omega) hd
   obtain ⟨f,rfl⟩:=hF e (by omega) he
   exact ⟨(nm,⟨k,m,s,l,f⟩),Fld.fold _ _ _ _ _ _⟩
theorem Arl {x:IV} (h:WT Tryz.prog 33 x): ∃v:Val,x=v.enc:=(Acs _ x (Nat.le_refl _)).1 h
theorem Ahl {x:IV} (h:WT Tryz.prog 30 x): ∃l:List Val,x= .list (l.map Val.enc):=Akt h fun _ _ hw=>Arl hw
theorem Aur {x:IV} (hx:WT Tryz.prog 23 x) (h: ∀y,y.bulk<x.bulk→WT Tryz.prog 26 y→ ∃v:Sch,y=v.enc): ∃l:List Sch,x= .list (l.map Sch.enc):=by
 obtain ⟨xs,rfl,_,hh⟩:=hx.Cd (e:=26) (by kernel_rfl)
 obtain ⟨es,rfl,_⟩:=Ij (enc:=Sch.enc) (ok:=fun _=>True) (xs:=xs) fun y hy=>by
  have hb:y.bulk<(IV.list xs).bulk :=by have:=Es hy;simp only [IV.bulk];omega
  obtain ⟨s,e⟩:=h y hb (hh y hy)
  exact ⟨s,e,trivial⟩
 exact ⟨es,rfl⟩
theorem Ahu {x:IV} (hx:WT Tryz.prog 24 x) (h: ∀y,y.bulk<x.bulk→WT Tryz.prog 64 y→ ∃p:SFld,y=p.enc): ∃l:List SFld,x= .list (l.map SFld.enc):=by
 obtain ⟨xs,rfl,_,hh⟩:=hx.Cd (e:=64) (by kernel_rfl)
 obtain ⟨es,rfl,_⟩:=Ij (enc:=SFld.enc) (ok:=fun _=>True) (xs:=xs) fun y hy=>by
  have hb:y.bulk<(IV.list xs).bulk :=by have:=Es hy;simp only [IV.bulk];omega
  obtain ⟨s,e⟩:=h y hb (hh y hy)
  exact ⟨s,e,trivial⟩
 exact ⟨es,rfl⟩
theorem Aci: ∀ (n:Nat) (x:IV),x.bulk≤n→(WT Tryz.prog 26 x→ ∃v:Sch,x=v.enc)∧(WT Tryz.prog 64 x→ ∃p:SFld,x=p.enc)
 | 0,x,hb=>by have:=X3 x;omega
 | n+1,x,hbn=>by
  have hV: ∀y:IV,y.bulk≤n→WT Tryz.prog 23 y→ ∃l:List Sch,y= .list (l.map Sch.enc):=fun y hy h=>Aur h fun z hz hw=>(Aci n z (by omega)).1 hw
  have hF: ∀y:IV,y.bulk≤n→WT Tryz.prog 24 y→ ∃l:List SFld,y= .list (l.map SFld.enc):=fun y hy h=>Ahu h fun z hz hw=>(Aci n z (by omega)).2 hw
  have hS: ∀xs,WTs Tryz.prog [3,3,3,22,9,23,24] xs→IV.Ci xs≤n→ ∃s:Sch,xs=s.Hz:=by
   intro xs h hb
   obtain ⟨a,xs,rfl,ha,h⟩:=h.cons_inv
   obtain ⟨b,xs,rfl,hb',h⟩:=h.cons_inv
   obtain ⟨c,xs,rfl,hc,h⟩:=h.cons_inv
   obtain ⟨d,xs,rfl,hd,h⟩:=h.cons_inv
   obtain ⟨e,xs,rfl,he,h⟩:=h.cons_inv
   obtain ⟨g,xs,rfl,hg,h⟩:=h.cons_inv
   obtain ⟨i,xs,rfl,hi,h⟩:=h.cons_inv
   obtain rfl:=h.Xd
   simp only [IV.Ci] at hb
   obtain ⟨k,rfl⟩:=T2 ha
   obtain ⟨m,rfl⟩:=T2 hb'
   obtain ⟨o,rfl⟩:=T2 hc
   obtain ⟨en,rfl⟩:=Ath hd
   obtain ⟨key,rfl⟩:=Vs he
   obtain ⟨it,rfl⟩:=hV g (by omega) hg
   obtain ⟨f,rfl⟩:=hF i (by omega) hi
   exact ⟨⟨k,m,o,en,key,it,f⟩,by rw [Sch.Cm];rfl⟩
  constructor
  ·intro h
   obtain ⟨xs,rfl,h2⟩:=h.I7 (ts:= [3,3,3,22,9,23,24]) (by kernel_rfl) (by kernel_rfl)
   simp only [IV.bulk] at hbn
   obtain ⟨s,rfl⟩:=hS xs h2 (by omega)
   exact ⟨s,s.Ec.symm⟩
  ·intro h
   obtain ⟨xs,rfl,h2⟩:=h.I7 (ts:= [9,4,4,30,3,3,3,22,9,23,24]) (by kernel_rfl) (by kernel_rfl)
   obtain ⟨a,xs,rfl,ha,h⟩:=h2.cons_inv
   obtain ⟨b,xs,rfl,hb',h⟩:=h.cons_inv
   obtain ⟨c,xs,rfl,hc,h⟩:=h.cons_inv
   obtain ⟨d,xs,rfl,hd,h⟩:=h.cons_inv
   simp only [IV.bulk,IV.Ci] at hbn
   obtain ⟨s,rfl⟩:=hS xs h (by omega)
   obtain ⟨nm,rfl⟩:=Vs ha
   obtain ⟨rq,rfl⟩:=Akg hb'
   obtain ⟨im,rfl⟩:=Akg hc
   obtain ⟨df,rfl⟩:=Ahl hd
   exact ⟨⟨nm,rq,im,df,s⟩,rfl⟩
theorem Ax6 {x:IV} (h:WT Tryz.prog 26 x): ∃s:Sch,x=s.enc:=(Aci _ x (Nat.le_refl _)).1 h
end Go.CT.Sch
namespace Go.CT.Sch
open Go.Proofs
theorem Au7 {x:IV} (h:WT Tryz.prog 9 x): ∃s,x= .str s:=by
 obtain ⟨s,rfl,_⟩:=h.Gn (by kernel_rfl)
 exact ⟨s,rfl⟩
theorem Aoa {x:IV} (h:WT Tryz.prog 22 x): ∃l:List ByteArray,x= .list (l.map .str):=by
 obtain ⟨xs,rfl,_,h⟩:=h.Cd (e:=9) (by kernel_rfl)
 obtain ⟨es,rfl,_⟩:=Ij (enc:=IV.str) (ok:=fun _=>True) (xs:=xs) fun x hx=>by
  obtain ⟨s,e⟩:=Au7 (h x hx)
  exact ⟨s,e,trivial⟩
 exact ⟨es,rfl⟩
end Go.CT.Sch
