import Derived.Test.YtfhkcifopfheaaaGreatDoorWholePrA
import Derived.Test.YtfhkcifopfheaaaGreatDoorTabA
import Derived.Test.YtfhkcifopfheaaaGreatDoorCtC
set_option linter.unusedVariables false
set_option linter.unusedSimpArgs false
namespace Go.CT.Sch
open Go.Proofs
def OV (o:Option Sch):Prop:= ∀s,o=some s→s.valid=true
theorem Ajy {o:Option Sch} {v:Val} (h:OV o) {x:Kid} (hx:x∈kids o v):OV x.2.2:=by
 cases o with
 | none=>simp [kids] at hx
 | some s=>
  have h1:=h s rfl
  rw [kids] at hx
  split at hx
  ·split at hx
   ·obtain ⟨p,hp,rfl⟩:=List.mem_map.1 hx
    intro t ht;exact Sch.Aki h1 ht
   ·split at hx
    ·obtain ⟨p,hp,rfl⟩:=List.mem_map.1 hx
     intro t ht;exact Sch.Afq h1 (List.mem_of_head? ht)
    ·simp at hx
  ·simp at hx
theorem O3 {o:Option Sch} {v:Val} (h:v.valid=true) {x:Kid} (hx:x∈kids o v):x.2.1.valid=true:=by
 cases o with
 | none=>simp [kids] at hx
 | some s=>
  rw [kids] at hx
  split at hx
  ·split at hx
   ·obtain ⟨p,hp,rfl⟩:=List.mem_map.1 hx;exact (Q7 h hp).1
   ·split at hx
    ·obtain ⟨p,hp,rfl⟩:=List.mem_map.1 hx;exact Mk h hp
    ·simp at hx
  ·simp at hx
theorem Po {o:Option Sch} {v:Val} (h:kids o v≠ []): ∃s,o=some s∧s.k=v.k∧
  ((v.k=5∧kids o v=v.f.map (Cd s))∨(v.k=4∧s.key≠Ar∧Gt s.key [] v.l=true∧kids o v=v.l.map (B6 s))):=by
 cases o with
 | none=>simp [kids] at h
 | some s=>
  refine ⟨s,rfl,?_⟩
  rw [kids] at h ⊢
  by_cases c1:s.k=v.k
  ·rw [if_pos c1] at h ⊢
   by_cases c2:v.k=5
   ·exact ⟨c1,.inl ⟨c2,by rw [if_pos c2];rfl⟩⟩
   ·rw [if_neg c2] at h ⊢
    by_cases c3:v.k=4∧s.key≠Ar∧Gt s.key [] v.l=true
    ·exact ⟨c1,.inr ⟨c3.1,c3.2.1,c3.2.2,by rw [if_pos c3];rfl⟩⟩
    ·rw [if_neg c3] at h;exact absurd rfl h
  ·rw [if_neg c1] at h;exact absurd rfl h
theorem Ot {x:Val} {key:ByteArray} (hx:x.valid=true) (h:isKey x key=true):x.k=5∧(key,Jl (Hu x key))∈x.f∧x.get key=some (Jl (Hu x key)):=by
 have h1:=Au2 hx h
 unfold isKey at h
 simp only [Bool.and_eq_true] at h
 obtain ⟨y,hy⟩:=Option.isSome_iff_exists.1 h.1
 rw [hy] at h1
 have h1':y=Jl (Hu x key):=h1
 rw [h1'] at hy
 exact ⟨(Ji hy).2,(Ji hy).1,hy⟩
theorem Ayc: ∀ (n:Nat) (o:Option Sch) (v:Val) (p:List Stp) (ch:ByteArray→Bool),(pt n o v p ch).1.k =v.k
 | 0,_,_,_,_=>rfl
 | n+1,o,v,p,ch=>by rw [H6];split<;>rfl
theorem Yo (s:Sch) (r:Kid→Val × Bool): ∀l:List (ByteArray × Val),(∀x∈l,(r (Cd s x)).1.Ay ≤x.2.Ay)→To (fieldsOf (Et r (l.map (Cd s)))) l
 | [],_=> .nil
 | x::l,h=>by
  have ih:=Yo s r l fun y hy=>h y (List.mem_cons_of_mem _ hy)
  rw [List.map_cons,Jg]
  cases (r (Cd s x)).2 with
  | false=>exact .skip ih
  | true=>exact .keep rfl (h x List.mem_cons_self) ih
theorem Aa3 (s:Sch) (r:Kid→Val × Bool): ∀l:List Val,(∀x∈l,(Ep (r (B6 s x)).1 s.key (Jl (Hu x s.key))).Ay ≤x.Ay)→Gd (El (Et r (l.map (B6 s))))≤Gd l
 | [],_=>Nat.le_refl _
 | x::l,h=>by
  have ih:=Aa3 s r l fun y hy=>h y (List.mem_cons_of_mem _ hy)
  have hx:=h x List.mem_cons_self
  rw [List.map_cons,Jg,Mz]
  cases (r (B6 s x)).2 with
  | false=>simp only [Bool.false_eq_true,if_false];omega
  | true=>
   have e:Gd (El (((B6 s x).1,(r (B6 s x)).1)::Et r (l.map (B6 s))))=(Ep (r (B6 s x)).1 s.key (Jl (Hu x s.key))).Ay +Gd (El (Et r (l.map (B6 s)))):=Mz _ _
   simp only [if_true]
   rw [e];omega
theorem Xj: ∀ (n:Nat) (o:Option Sch) (v:Val) (p:List Stp) (ch:ByteArray→Bool),v.valid=true→(pt n o v p ch).1.Ay ≤v.Ay∧(v.k=5→To (pt n o v p ch).1.f v.f)
 | 0,_,v,_,_,_=>⟨Nat.le_refl _,fun _=>To.refl _⟩
 | n+1,o,v,p,ch,hv=>by
  rw [H6]
  split
  ·exact ⟨Nat.le_refl _,fun _=>To.refl _⟩
  ·rename_i hne
   obtain ⟨s,rfl,h1,h2⟩:=Po hne
   rcases h2 with ⟨k5,hk⟩ | ⟨k4,hkey,hkl,hk⟩
   ·have hs:To (fieldsOf (Et (fun x=>pt n x.2.2 x.2.1 (p++ [x.1]) ch) (kids (some s) v))) v.f:=by
     rw [hk]
     exact Yo s _ v.f fun x hx=>(Xj n (Cd s x).2.2 (Cd s x).2.1 (p++ [(Cd s x).1]) ch (Q7 hv hx).1).1
    simp only [k5,if_true]
    refine ⟨?_,fun _=>hs⟩
    have:=hs.Awk
    have e:=v.Bj
    rw [Val.Bj]
    simp only [Val.Akq,Val.Abc,Val.Acy,E9,show Ar.size=0 from rfl];omega
   ·have n5: ¬ v.k=5:=by omega
    have hs:Gd (El (Et (fun x=>pt n x.2.2 x.2.1 (p++ [x.1]) ch) (kids (some s) v)))≤Gd v.l:=by
     rw [hk]
     refine Aa3 s _ v.l fun x hx=>?_
     obtain ⟨x5,xm,_⟩:=Ot (Mk hv hx) (G9 hkl x hx)
     have ih:=Xj n (B6 s x).2.2 (B6 s x).2.1 (p++ [(B6 s x).1]) ch (Mk hv hx)
     have hkk:=Ayc n (B6 s x).2.2 (B6 s x).2.1 (p++ [(B6 s x).1]) ch
     exact Alz (hkk.trans x5) x5 (ih.2 x5) xm
    simp only [n5,if_false]
    refine ⟨?_,fun h=>absurd h (by first | exact n5 | exact not_false)⟩
    have e:=v.Bj
    rw [Val.Bj]
    simp only [Val.Akq,Val.Abc,Val.Acy,D9,show Ar.size=0 from rfl];omega
theorem X7 {n:Nat} {o:Option Sch} {v:Val} {p:List Stp} {ch:ByteArray→Bool} (hv:v.valid=true) (hk:v.k=5):Dv (pt n o v p ch).1.f :=
 ((Xj n o v p ch hv).2 hk).strict (P4 hv)
theorem K4 {key:ByteArray} : ∀ {l:List Val} {acc:List ByteArray},Gt key acc l=true→ ∀x∈l,Hu x key∉acc
 | [],_,_=>by simp
 | y::l,acc,h=>by
  simp only [Gt,Bool.and_eq_true,Bool.not_eq_true'] at h
  intro x hx
  rcases List.mem_cons.1 hx with rfl | hx
  ·intro hm;have:=M3.2 hm;rw [this] at h;exact absurd h.1.2 (by simp)
  ·exact fun hm=>K4 h.2 x hx (List.mem_append_left _ hm)
theorem Abf {key:ByteArray} {y:Val} {l:List Val} {acc:List ByteArray} (h:Gt key acc (y::l)=true):Gt key (acc++ [Hu y key]) l=true∧ ∀x∈l,Hu x key≠Hu y key:=by
 have h':=h
 simp only [Gt,Bool.and_eq_true] at h'
 exact ⟨h'.2,fun x hx e=>K4 h'.2 x hx (by rw [e];simp)⟩
end Go.CT.Sch
namespace Go.CT.Sch
open Go.Proofs
theorem Apz: ∀ (n:Nat) (o:Option Sch) (v:Val) (p:List Stp) (ch:ByteArray→Bool),v.size≤n→v.valid=true→(∀t∈lv n o v p,ch t=true)→pt n o v p ch=(v,true)
 | 0,o,v,p,ch,h,_,_=>by have:=v.size_pos;omega
 | n+1,o,v,p,ch,h,hv,hc=>by
  rw [lv] at hc
  rw [H6]
  by_cases c:kids o v= []
  ·rw [if_pos c] at hc ⊢
   rw [hc _ (by simp)]
  ·rw [if_neg c] at hc ⊢
   have ih: ∀x∈kids o v,pt n x.2.2 x.2.1 (p++ [x.1]) ch=(x.2.1,true):=fun x hx=>by
    obtain ⟨hs1,_⟩:=N9 hx
    exact Apz n _ _ _ _ (by omega) (O3 hv hx) fun t ht=>hc t (List.mem_flatMap.2 ⟨x,hx,ht⟩)
   have hkept: ∀l:List Kid,(∀x∈l,pt n x.2.2 x.2.1 (p++ [x.1]) ch=(x.2.1,true))→Et (fun x=>pt n x.2.2 x.2.1 (p++ [x.1]) ch) l=l.map fun x=>(x.1,x.2.1):=by
    intro l
    induction l with
    | nil=>intro _;rfl
    | cons a l ih2=>
     intro h
     rw [Jg,h a List.mem_cons_self,ih2 fun x hx=>h x (List.mem_cons_of_mem _ hx)]
     simp
   rw [hkept _ ih]
   have hne:((kids o v).map fun x=>(x.1,x.2.1)).isEmpty =false:=by
    cases hk:kids o v with
    | nil=>exact absurd hk c
    | cons=>rfl
   rw [hne]
   obtain ⟨s,rfl,h1,h2⟩:=Po c
   have hsc:v.n=0∧v.s=Ar:=by
    have hv':=hv
    rw [Hc] at hv'
    have:=((D2 11 v).1 hv'.1).1
    unfold En at this
    have hk:v.k=4∨v.k=5:=by rcases h2 with ⟨h,_⟩ | ⟨h,_⟩<;>omega
    rw [if_neg (by omega),if_neg (by omega),if_neg (by omega)] at this
    exact (of_decide_eq_true this).2
   rcases h2 with ⟨k5,hk⟩ | ⟨k4,hkey,hkl,hk⟩
   ·have hl:=R0 hv (by omega)
    have hf:fieldsOf ((kids (some s) v).map fun x=>(x.1,x.2.1))=v.f:=by
     rw [hk]
     unfold fieldsOf
     rw [List.map_map,List.map_map]
     conv=>rhs;rw [←List.map_id v.f]
     rfl
    simp only [k5,if_true,hf]
    obtain ⟨k,nn,ss,l,f⟩:=v
    simp only [Val.Aw6,Val.Abc,Val.Acy,Val.Av8,Val.Akq] at k5 hl hsc ⊢
    obtain ⟨rfl,rfl⟩:=hsc
    subst k5 hl;rfl
   ·have hf:=Aaw hv (by omega)
    have hl:El ((kids (some s) v).map fun x=>(x.1,x.2.1))=v.l:=by
     rw [hk]
     unfold El
     rw [List.map_map,List.map_map]
     conv=>rhs;rw [←List.map_id v.l]
     refine List.map_congr_left fun x hx=>?_
     have hxv:=Mk hv hx
     obtain ⟨_,_,xg⟩:=Ot hxv (G9 hkl x hx)
     exact Akj hxv xg
    have n5: ¬ v.k=5:=by omega
    simp only [n5,if_false,hl]
    obtain ⟨k,nn,ss,l,f⟩:=v
    simp only [Val.Aw6,Val.Abc,Val.Acy,Val.Av8,Val.Akq] at k4 hf hsc ⊢
    obtain ⟨rfl,rfl⟩:=hsc
    subst k4 hf;rfl
end Go.CT.Sch
namespace Go.CT.Sch
open Go.Proofs
theorem Ac5 (s:Sch) (v:Val) (set:List ByteArray) (is:Bool):(G8 s v set is).Ay ≤v.Ay:=by
 unfold G8
 split
 ·rename_i hc
  have hv:v.valid=true:=by simp only [Bool.and_eq_true] at hc;exact hc.2
  split
  ·exact (Xj _ _ _ _ _ hv).1
  ·have h0:=v.Bj
   split
   ·rw [Val.Bj (Val.mk _ _ _ _ _)]
    simp only [Val.Akq,Val.Abc,Val.Acy,D9,E9,show Ar.size=0 from rfl];omega
   ·rw [Val.Bj Bf]
    simp only [Bf,Val.Akq,Val.Abc,Val.Acy,D9,E9,show Ar.size=0 from rfl];omega
 ·exact Nat.le_refl _
end Go.CT.Sch
namespace Go.CT.Sch
open Go.Proofs
theorem Ae4 (u:Val) (key kv:ByteArray) (hu:u.k=5) (hs:Dv u.f):isKey (Ep u key (Jl kv)) key=true∧Hu (Ep u key (Jl kv)) key=kv:=by
 unfold isKey Hu
 rw [Zi u hu hs]
 exact ⟨rfl,rfl⟩
theorem Pf {s:Sch} {r:Kid→Val × Bool} : ∀ {l:List Val} {acc acc':List ByteArray},Gt s.key acc l=true→(∀k∈acc',k∈acc)→(∀y∈l,(r (B6 s y)).1.k =5∧Dv (r (B6 s y)).1.f)→
  Gt s.key acc' (El (Et r (l.map (B6 s))))=true
 | [],_,_,_,_,_=>rfl
 | y::l,acc,acc',h,ha,hr=>by
  have hy:=hr y List.mem_cons_self
  have hn:=K4 h y List.mem_cons_self
  obtain ⟨h1,_⟩:=Abf h
  have e: ∀z t,El (((B6 s y).1,z)::t)=Ep z s.key (Jl (Hu y s.key))::El t:=fun _ _=>rfl
  rw [List.map_cons,Jg]
  cases (r (B6 s y)).2 with
  | false=>exact Pf h1 (fun k hk=>List.mem_append_left _ (ha k hk)) fun z hz=>hr z (List.mem_cons_of_mem _ hz)
  | true=>
   simp only [if_true]
   obtain ⟨w1,w2⟩:=Ae4 (r (B6 s y)).1 s.key (Hu y s.key) hy.1 hy.2
   rw [e,Gt,w1,w2]
   have hni:inB acc' (Hu y s.key)=false:=by
    rw [←Bool.not_eq_true,M3];exact fun hm=>hn (ha _ hm)
   rw [hni]
   simp only [Bool.not_false,Bool.and_self,Bool.true_and]
   refine Pf h1 (fun k hk=>?_) fun z hz=>hr z (List.mem_cons_of_mem _ hz)
   rcases List.mem_append.1 hk with h | h
   ·exact List.mem_append_left _ (ha k h)
   ·exact List.mem_append_right _ h
theorem Ym {s:Sch} {r:Kid→Val × Bool} {l:List (ByteArray × Val)} {p:ByteArray × Val} (h:p∈fieldsOf (Et r (l.map (Cd s)))): ∃y∈l,(r (Cd s y)).2 =true∧p=(y.1,(r (Cd s y)).1):=by
 obtain ⟨z,hz,rfl⟩:=List.mem_map.1 h
 obtain ⟨x,hx,h1,rfl⟩:=Oy hz
 obtain ⟨y,hy,rfl⟩:=List.mem_map.1 hx
 exact ⟨y,hy,h1,rfl⟩
theorem Abx {s:Sch} {r:Kid→Val × Bool} {l:List Val} {u:Val} (h:u∈El (Et r (l.map (B6 s)))): ∃y∈l,(r (B6 s y)).2 =true∧u=Ep (r (B6 s y)).1 s.key (Jl (Hu y s.key)):=by
 obtain ⟨z,hz,rfl⟩:=List.mem_map.1 h
 obtain ⟨x,hx,h1,rfl⟩:=Oy hz
 obtain ⟨y,hy,rfl⟩:=List.mem_map.1 hx
 exact ⟨y,hy,h1,rfl⟩
theorem Yt {o:Option Sch} {v:Val} (h5:v.k≠5) (h4:v.k≠4):kids o v= []:=by
 cases o with
 | none=>rfl
 | some s=>
  rw [kids]
  by_cases c:s.k=v.k
  ·rw [if_pos c,if_neg h5,if_neg (fun h=>h4 h.1)]
  ·rw [if_neg c]
theorem Vw {s:Sch} {v:Val} (h1:s.k=v.k) (h5:v.k=5):kids (some s) v=v.f.map (Cd s):=by rw [kids,if_pos h1,if_pos h5];rfl
theorem We {n:Nat} {o:Option Sch} {v:Val} {p:List Stp} (h:kids o v= []):lv (n+1) o v p= [Hs p]:=by rw [lv,if_pos h]
theorem Xp {n:Nat} {o:Option Sch} {v:Val} {p:List Stp} (h:kids o v≠ []):lv (n+1) o v p=(kids o v).flatMap fun x=>lv n x.2.2 x.2.1 (p++ [x.1]):=by rw [lv,if_neg h]
theorem Acq: ∀ (n:Nat) (o:Option Sch) (v:Val) (p:List Stp) (ch:ByteArray→Bool) (k:Nat),v.size≤n→OV o→v.valid=true→(pt n o v p ch).2 =true→
  (∀t∈lv k o (pt n o v p ch).1 p,t∈lv n o v p)∧
  (∀s key kv,o=some s→s.k=5→v.k=5→(key,Jl kv)∈v.f→ ∀t∈lv k o (Ep (pt n o v p ch).1 key (Jl kv)) p,t∈lv n o v p)
 | 0,o,v,p,ch,k,h,_,_,_=>by have:=v.size_pos;omega
 | n+1,o,v,p,ch,0,h,ho,hv,ha=>by simp [lv]
 | n+1,o,v,p,ch,k+1,h,ho,hv,ha=>by
  have hkk:=Ayc (n+1) o v p ch
  by_cases c:kids o v= []
  ·have e:(pt (n+1) o v p ch).1 =v:=by rw [H6,if_pos c]
   rw [e]
   refine ⟨fun t ht=>?_,fun s key kv ho' hs hv5 hm=>?_⟩
   ·rw [We c] at ht ⊢;exact ht
   ·subst ho'
    rw [Vw (hs.trans hv5.symm) hv5] at c
    have:=List.map_eq_nil_iff.1 c
    rw [this] at hm;simp at hm
  ·rw [Xp c]
   have recu: ∀x∈kids o v,x.2.1.size≤n:=fun x hx=>by have:=(N9 hx).1;omega
   obtain ⟨s,rfl,h1,h2⟩:=Po c
   rcases h2 with ⟨k5,hk⟩ | ⟨k4,hkey,hkl,hk⟩
   ·have hf:(pt (n+1) (some s) v p ch).1.f =fieldsOf (Et (fun x=>pt n x.2.2 x.2.1 (p++ [x.1]) ch) (v.f.map (Cd s))):=by
     rw [H6,if_neg c,hk];simp only [k5,if_true,Val.Acy]
    have hst:Dv (pt (n+1) (some s) v p ch).1.f :=X7 hv k5
    have sub: ∀x∈(pt (n+1) (some s) v p ch).1.f,∀t∈lv k (Ly s x.1) x.2 (p++ [Df x.1]),t∈(kids (some s) v).flatMap fun x=>lv n x.2.2 x.2.1 (p++ [x.1]):=by
     intro x hx t ht
     rw [hf] at hx
     obtain ⟨y,hy,h3,rfl⟩:=Ym hx
     have hmk:Cd s y∈kids (some s) v:=by rw [hk];exact List.mem_map_of_mem hy
     have ih:=(Acq n (Cd s y).2.2 (Cd s y).2.1 (p++ [(Cd s y).1]) ch k (recu _ hmk) (Ajy ho hmk) (O3 hv hmk) h3).1 t ht
     exact List.mem_flatMap.2 ⟨Cd s y,hmk,ih⟩
    refine ⟨fun t ht=>?_,fun s' key kv ho' hs hv5 hm t ht=>?_⟩
    ·have hku:=Vw (s:=s) (v:=(pt (n+1) (some s) v p ch).1) (h1.trans hkk.symm) (hkk.trans k5)
     by_cases cu:kids (some s) (pt (n+1) (some s) v p ch).1 = []
     ·exfalso
      rw [hku] at cu
      have he:=List.map_eq_nil_iff.1 cu
      rw [H6,if_neg c,hk] at ha
      rw [hf] at he
      have he2:=List.map_eq_nil_iff.1 he
      rw [he2] at ha;simp at ha
     ·rw [Xp cu,hku] at ht
      obtain ⟨x,hx,ht⟩:=List.mem_flatMap.1 ht
      obtain ⟨y,hy,rfl⟩:=List.mem_map.1 hx
      exact sub y hy t ht
    ·have hku:=Vw (s:=s) (v:=Ep (pt (n+1) (some s) v p ch).1 key (Jl kv)) (h1.trans k5) rfl
     have cu:kids (some s) (Ep (pt (n+1) (some s) v p ch).1 key (Jl kv))≠ []:=by
      rw [hku]
      intro he
      have he:=List.map_eq_nil_iff.1 he
      have:(key,Jl kv)∈(Ep (pt (n+1) (some s) v p ch).1 key (Jl kv)).f :=(Q2 (hkk.trans k5) hst _).2 (.inr rfl)
      rw [he] at this;simp at this
     rw [Xp cu,hku] at ht
     obtain ⟨x,hx,ht9⟩:=List.mem_flatMap.1 ht
     obtain ⟨y,hy,rfl⟩:=List.mem_map.1 hx
     rcases (Q2 (hkk.trans k5) hst _).1 hy with ⟨_,hy⟩ | rfl
     ·exact sub y hy t ht9
     ·have hmk:Cd s (key,Jl kv)∈kids (some s) v:=by rw [hk];exact List.mem_map_of_mem hm
      have hsz:=recu _ hmk
      refine List.mem_flatMap.2 ⟨Cd s (key,Jl kv),hmk,?_⟩
      have hlf:kids (Ly s key) (Jl kv)= []:=Yt (by show (3:Int)≠5;decide) (by show (3:Int)≠4;decide)
      have hpos:=(Jl kv).size_pos
      have hsz':(Jl kv).size ≤n:=hsz
      obtain ⟨n',rfl⟩: ∃n',n=n'+1:=⟨n - 1,by omega⟩
      cases k with
      | zero=>simp [lv] at ht9
      | succ k=>
       have e1:lv (k+1) (Cd s (key,Jl kv)).2.2 (Cd s (key,Jl kv)).2.1 (p++ [(Cd s (key,Jl kv)).1])= [Hs (p++ [(Cd s (key,Jl kv)).1])]:=We hlf
       have e2:lv (n'+1) (Cd s (key,Jl kv)).2.2 (Cd s (key,Jl kv)).2.1 (p++ [(Cd s (key,Jl kv)).1])= [Hs (p++ [(Cd s (key,Jl kv)).1])]:=We hlf
       rw [e1] at ht9;rw [e2];exact ht9
   ·refine ⟨fun t ht=>?_,fun s' key kv ho' hs hv5 hm=>absurd hv5 (by omega)⟩
    have n5: ¬ v.k=5:=by omega
    have hl:(pt (n+1) (some s) v p ch).1.l =El (Et (fun x=>pt n x.2.2 x.2.1 (p++ [x.1]) ch) (v.l.map (B6 s))):=by
     rw [H6,if_neg c,hk];simp only [n5,if_false,Val.Abc]
    have hr: ∀z∈v.l,(pt n (B6 s z).2.2 (B6 s z).2.1 (p++ [(B6 s z).1]) ch).1.k =5∧Dv (pt n (B6 s z).2.2 (B6 s z).2.1 (p++ [(B6 s z).1]) ch).1.f :=fun z hz=>by
     obtain ⟨z5,_,_⟩:=Ot (Mk hv hz) (G9 hkl z hz)
     exact ⟨(Ayc _ _ _ _ _).trans z5,X7 (Mk hv hz) z5⟩
    have hkk4:(pt (n+1) (some s) v p ch).1.k =4:=hkk.trans k4
    have hku:kids (some s) (pt (n+1) (some s) v p ch).1 =(pt (n+1) (some s) v p ch).1.l.map (B6 s):=by
     rw [kids,if_pos (h1.trans hkk.symm),if_neg (by omega),if_pos ⟨hkk4,hkey,by rw [hl];exact Pf (r:=fun x=>pt n x.2.2 x.2.1 (p++ [x.1]) ch) hkl (fun _ h=>h) hr⟩];rfl
    by_cases cu:kids (some s) (pt (n+1) (some s) v p ch).1 = []
    ·exfalso
     rw [hku] at cu
     have he:=List.map_eq_nil_iff.1 cu
     rw [H6,if_neg c,hk] at ha
     rw [hl] at he
     have he2:=List.map_eq_nil_iff.1 he
     rw [he2] at ha;simp at ha
    ·rw [Xp cu,hku] at ht
     obtain ⟨x,hx,ht⟩:=List.mem_flatMap.1 ht
     obtain ⟨u,hu,rfl⟩:=List.mem_map.1 hx
     rw [hl] at hu
     obtain ⟨y,hy,h3,rfl⟩:=Abx hu
     obtain ⟨y5,ym,_⟩:=Ot (Mk hv hy) (G9 hkl y hy)
     have hmk:B6 s y∈kids (some s) v:=by rw [hk];exact List.mem_map_of_mem hy
     have hsv:=ho s rfl
     have hko:=Af3 hsv (h1.trans k4)
     obtain ⟨t',ht'⟩: ∃t',s.it= [t']:=List.length_eq_one_iff.1 hko.2
     have ht5:t'.k=5:=by
      have:=hko.1
      unfold Sh at this
      rw [ht'] at this
      simp only [Bool.or_eq_true,Bool.and_eq_true,decide_eq_true_eq] at this
      rcases this with h | h
      ·exact absurd h hkey
      ·exact h.1.1.1
     have hkb:=(Ae4 (pt n (B6 s y).2.2 (B6 s y).2.1 (p++ [(B6 s y).1]) ch).1 s.key (Hu y s.key) (hr y hy).1 (hr y hy).2).2
     have hst:Avl s.key (Ep (pt n (B6 s y).2.2 (B6 s y).2.1 (p++ [(B6 s y).1]) ch).1 s.key (Jl (Hu y s.key)))=Avl s.key y:=by
      unfold Avl;rw [hkb]
     have ih:=(Acq n (B6 s y).2.2 (B6 s y).2.1 (p++ [(B6 s y).1]) ch k (recu _ hmk) (Ajy ho hmk) (O3 hv hmk) h3).2 t' s.key (Hu y s.key) (by show s.it.head?=_;rw [ht'];rfl) ht5 y5 ym t (by
      have ht2:t∈lv k s.it.head? (Ep (pt n (B6 s y).2.2 (B6 s y).2.1 (p++ [(B6 s y).1]) ch).1 s.key (Jl (Hu y s.key))) (p++ [Avl s.key (Ep (pt n (B6 s y).2.2 (B6 s y).2.1 (p++ [(B6 s y).1]) ch).1 s.key (Jl (Hu y s.key)))]):=ht
      rw [hst] at ht2;exact ht2)
     exact List.mem_flatMap.2 ⟨B6 s y,hmk,ih⟩
end Go.CT.Sch
namespace Go.CT.Sch
open Go.Proofs
theorem Zw (s:Sch) (v:Val) (set:List ByteArray) (is:Bool) (hs:s.valid=true) (hv:v.valid=true) (h: ∀t∈lv v.size (some s) v [],inB set t=is):G8 s v set is=v:=by
 have:=Apz v.size (some s) v [] (chB set is) (Nat.le_refl _) hv fun t ht=>by unfold chB;rw [h t ht];simp
 unfold G8
 rw [this,hs,hv];rfl
theorem Ak2 (s:Sch) (v:Val) (set:List ByteArray) (is:Bool) (hs:s.valid=true) (hv:v.valid=true) (t:ByteArray) (ht:t∈Hj s (G8 s v set is)):t=Ar∨inB (Hj s v) t=true:=by
 unfold Hj at ht
 split at ht
 ·rw [Wm] at ht
  generalize (G8 s v set is).size =k at ht
  unfold G8 at ht
  rw [hs,hv] at ht
  simp only [Bool.and_self,if_true] at ht
  have hp:Hs []=Ar:=rfl
  have hleaf: ∀u:Val,kids (some s) u= []→t∈lv k (some s) u []→t=Ar:=by
   intro u hu ht
   cases k with
   | zero=>simp [lv] at ht
   | succ k=>rw [We hu,hp] at ht;simpa using ht
  cases ha:(pt v.size (some s) v [] (chB set is)).2 with
  | true=>
   rw [ha] at ht
   right
   have:=(Acq v.size (some s) v [] (chB set is) k (Nat.le_refl _) (fun t h=>by cases h;exact hs) hv ha).1 t ht
   rw [M3]
   unfold Hj
   rw [hs,hv]
   exact (Wm).2 this
  | false=>
   rw [ha] at ht
   left
   simp only [Bool.false_eq_true,if_false] at ht
   split at ht
   ·refine hleaf _ ?_ ht
    rw [kids]
    simp
   ·exact hleaf _ (Yt (by show (0:Int)≠5;decide) (by show (0:Int)≠4;decide)) ht
 ·simp at ht
theorem Alc (hA:W F5 0 []=some [.bool true]) (l m:List ByteArray) (hl:l.length≤1048576) (hm:m.length≤1048576) (h: ∀t∈m,t=Ar∨inB l t=true): ∀ (n i:Nat),i+n=m.length→
  W Amp 1 [SL l,.int i,SL m]=some [.bool true]
 | 0,i,hi=>by
  have:i=m.length:=by omega
  subst this
  rw [Afn]
  simp only [Srt.len,ltn,Option.bind_some,O.Ab,Bool.false_eq_true,if_false,hA,O.Ah]
 | n+1,i,hi=>by
  have hi':i<m.length:=by omega
  have ih:=Alc hA l m hl hm h n (i+1) (by omega)
  have hx:=Srt.idx IV.str (List.getElem?_eq_getElem hi')
  have hh:=h _ (List.getElem_mem hi')
  have e:decide (m[i]=(⟨#[]⟩:ByteArray))=decide (m[i]=Ar):=rfl
  rw [Afn]
  simp only [Srt.len,lti hi',Option.bind_some,O.Ab,if_true,hx,O.H5,e,rhas l _ hl,O.Ah,O.A3,nxt (show i<4611686018427387904 by omega),ih]
  rcases hh with h1 | h1
  ·simp [h1]
  ·rw [h1];cases decide (m[i]=Ar)<;>simp
theorem Ake (hA:W F5 0 []=some [.bool true]) (s:Sch) (v:Val) (set:List ByteArray) (hs:s.Ay≤1048576) (hv:v.Ay≤1048576) (hset:set.length≤1048576):W Amp 0 [s.enc,v.enc,SL set]=some [.bool true]:=by
 obtain ⟨b,hb⟩:=Alh s v set hs hv
 have hll:=Rx s v
 have hsz:=v.Ey
 have hkm:=Ac5 s v set true
 have hml:=Rx s (G8 s v set true)
 have hms:=(G8 s v set true).Ey
 have d0:W F97 0 [s.enc,v.enc,.list [],.bool false]=some [(G8 s v [] false).enc]:=Wl s v [] false hs hv (by simp)
 rw [Anh]
 simp only [hb,O.Ah,O.A3,Option.bind_some,O.Ab,Agv s hs,X6 v (show v.Ay≤1099511627776 by omega),Aw,Am,hA,Auu,Aos,
  Aa5 s v hs hv,Wl s v set true hs hv hset,Wl s v (Hj s v) true hs hv (by omega),d0,Aa5 s (G8 s v set true) hs (by omega)]
 cases b with
 | false=>rfl
 | true=>
  cases hsv:s.valid with
  | false=>rfl
  | true=>
   cases hvv:v.valid with
   | false=>rfl
   | true=>
    have k1:=Zw s v (Hj s v) true hsv hvv fun t ht=>by
     rw [M3];unfold Hj;rw [hsv,hvv];exact Wm.2 ht
    have k2:=Zw s v [] false hsv hvv fun t _=>rfl
    have e:=Ali v v (by omega) (by omega)
    rw [k1,k2]
    simp only [e,decide_true,O.Ah,O.A3,Bool.not_true,Option.bind_some,O.Ab,Bool.false_eq_true,if_false]
    exact Alc hA _ _ (by omega) (by omega) (Ak2 s v set true hsv hvv) (Hj s (G8 s v set true)).length 0 (by omega)
end Go.CT.Sch
namespace Go.CT.Sch
open Go.Proofs
theorem Avg:W F5 0 []=some [.bool true]:=Ayb 600 (by kernel_rfl)
end Go.CT.Sch
namespace Go.CT.Sch
open Go.Proofs
theorem Tg {x:IV} (h:WT Tryz.prog 3 x): ∃n,x= .int n:=by
 obtain ⟨n,rfl,_⟩:=h.Gp (k:= .i64) (by kernel_rfl)
 exact ⟨n,rfl⟩
theorem Uz {x:IV} (h:WT Tryz.prog 9 x): ∃s,x= .str s:=by
 obtain ⟨s,rfl,_⟩:=h.Gj (by kernel_rfl)
 exact ⟨s,rfl⟩
theorem Ald {x:IV} (h:WT Tryz.prog 4 x): ∃b,x= .bool b:=h.J7 (by kernel_rfl)
theorem Asl {x:IV} (h:WT Tryz.prog 22 x): ∃l:List ByteArray,x= .list (l.map .str):=by
 obtain ⟨xs,rfl,_,h⟩:=h.Ca (e:=9) (by kernel_rfl)
 obtain ⟨es,rfl,_⟩:=Ib (enc:=IV.str) (ok:=fun _=>True) (xs:=xs) fun x hx=>by
  obtain ⟨s,e⟩:=Uz (h x hx)
  exact ⟨s,e,trivial⟩
 exact ⟨es,rfl⟩
theorem Amh {x:IV} (hx:WT Tryz.prog 30 x) (h: ∀y,y.bulk<x.bulk→WT Tryz.prog 33 y→ ∃v:Val,y=v.enc): ∃l:List Val,x= .list (l.map Val.enc):=by
 obtain ⟨xs,rfl,_,hh⟩:=hx.Ca (e:=33) (by kernel_rfl)
 obtain ⟨es,rfl,_⟩:=Ib (enc:=Val.enc) (ok:=fun _=>True) (xs:=xs) fun y hy=>by
  have hb:y.bulk<(IV.list xs).bulk :=by have:=Eo hy;simp only [IV.bulk];omega
  obtain ⟨s,e⟩:=h y hb (hh y hy)
  exact ⟨s,e,trivial⟩
 exact ⟨es,rfl⟩
theorem Ajj {x:IV} (hx:WT Tryz.prog 31 x) (h: ∀y,y.bulk<x.bulk→WT Tryz.prog 70 y→ ∃p,y=Fld.enc p): ∃l:List (ByteArray × Val),x= .list (l.map Fld.enc):=by
 obtain ⟨xs,rfl,_,hh⟩:=hx.Ca (e:=70) (by kernel_rfl)
 obtain ⟨es,rfl,_⟩:=Ib (enc:=Fld.enc) (ok:=fun _=>True) (xs:=xs) fun y hy=>by
  have hb:y.bulk<(IV.list xs).bulk :=by have:=Eo hy;simp only [IV.bulk];omega
  obtain ⟨s,e⟩:=h y hb (hh y hy)
  exact ⟨s,e,trivial⟩
 exact ⟨es,rfl⟩
theorem Ab2: ∀ (n:Nat) (x:IV),x.bulk≤n→(WT Tryz.prog 33 x→ ∃v:Val,x=v.enc)∧(WT Tryz.prog 70 x→ ∃p,x=Fld.enc p)
 | 0,x,hb=>by have:=W2 x;omega
 | n+1,x,hb=>by
  have hV: ∀y:IV,y.bulk≤n→WT Tryz.prog 30 y→ ∃l:List Val,y= .list (l.map Val.enc):=fun y hy h=>Amh h fun z hz hw=>(Ab2 n z (by omega)).1 hw
  have hF: ∀y:IV,y.bulk≤n→WT Tryz.prog 31 y→ ∃l:List (ByteArray × Val),y= .list (l.map Fld.enc):=fun y hy h=>Ajj h fun z hz hw=>(Ab2 n z (by omega)).2 hw
  constructor
  ·intro h
   obtain ⟨xs,rfl,h2⟩:=h.Iz (ts:= [3,3,9,30,31]) (by kernel_rfl) (by kernel_rfl)
   obtain ⟨a,xs,rfl,ha,h⟩:=h2.cons_inv
   obtain ⟨b,xs,rfl,hb,h⟩:=h.cons_inv
   obtain ⟨c,xs,rfl,hc,h⟩:=h.cons_inv
   obtain ⟨d,xs,rfl,hd,h⟩:=h.cons_inv
   obtain ⟨e,xs,rfl,he,h⟩:=h.cons_inv
   obtain rfl:=h.Xb
   simp only [IV.bulk,IV.Ch] at hb
   obtain ⟨k,rfl⟩:=Tg ha
   obtain ⟨m,rfl⟩:=Tg ‹WT Tryz.prog 3 b›
   obtain ⟨s,rfl⟩:=Uz hc
   obtain ⟨l,rfl⟩:=hV d (by omega) hd
   obtain ⟨f,rfl⟩:=hF e (by omega) he
   exact ⟨⟨k,m,s,l,f⟩,Val.fold _ _ _ _ _⟩
  ·intro h
   obtain ⟨xs,rfl,h2⟩:=h.Iz (ts:= [9,3,3,9,30,31]) (by kernel_rfl) (by kernel_rfl)
   obtain ⟨z,xs,rfl,hz,h⟩:=h2.cons_inv
   obtain ⟨a,xs,rfl,ha,h⟩:=h.cons_inv
   obtain ⟨b,xs,rfl,hb,h⟩:=h.cons_inv
   obtain ⟨c,xs,rfl,hc,h⟩:=h.cons_inv
   obtain ⟨d,xs,rfl,hd,h⟩:=h.cons_inv
   obtain ⟨e,xs,rfl,he,h⟩:=h.cons_inv
   obtain rfl:=h.Xb
   simp only [IV.bulk,IV.Ch] at hb
   obtain ⟨nm,rfl⟩:=Uz hz
   obtain ⟨k,rfl⟩:=Tg ha
   obtain ⟨m,rfl⟩:=Tg ‹WT Tryz.prog 3 b›
   obtain ⟨s,rfl⟩:=Uz hc
   obtain ⟨l,rfl⟩:=hV d (by omega) hd
   obtain ⟨f,rfl⟩:=hF e (by omega) he
   exact ⟨(nm,⟨k,m,s,l,f⟩),Fld.fold _ _ _ _ _ _⟩
theorem Apw {x:IV} (h:WT Tryz.prog 33 x): ∃v:Val,x=v.enc:=(Ab2 _ x (Nat.le_refl _)).1 h
theorem Agj {x:IV} (h:WT Tryz.prog 30 x): ∃l:List Val,x= .list (l.map Val.enc):=Amh h fun _ _ hw=>Apw hw
theorem Auf {x:IV} (hx:WT Tryz.prog 23 x) (h: ∀y,y.bulk<x.bulk→WT Tryz.prog 26 y→ ∃v:Sch,y=v.enc): ∃l:List Sch,x= .list (l.map Sch.enc):=by
 obtain ⟨xs,rfl,_,hh⟩:=hx.Ca (e:=26) (by kernel_rfl)
 obtain ⟨es,rfl,_⟩:=Ib (enc:=Sch.enc) (ok:=fun _=>True) (xs:=xs) fun y hy=>by
  have hb:y.bulk<(IV.list xs).bulk :=by have:=Eo hy;simp only [IV.bulk];omega
  obtain ⟨s,e⟩:=h y hb (hh y hy)
  exact ⟨s,e,trivial⟩
 exact ⟨es,rfl⟩
theorem Agr {x:IV} (hx:WT Tryz.prog 24 x) (h: ∀y,y.bulk<x.bulk→WT Tryz.prog 64 y→ ∃p:SFld,y=p.enc): ∃l:List SFld,x= .list (l.map SFld.enc):=by
 obtain ⟨xs,rfl,_,hh⟩:=hx.Ca (e:=64) (by kernel_rfl)
 obtain ⟨es,rfl,_⟩:=Ib (enc:=SFld.enc) (ok:=fun _=>True) (xs:=xs) fun y hy=>by
  have hb:y.bulk<(IV.list xs).bulk :=by have:=Eo hy;simp only [IV.bulk];omega
  obtain ⟨s,e⟩:=h y hb (hh y hy)
  exact ⟨s,e,trivial⟩
 exact ⟨es,rfl⟩
theorem Acu: ∀ (n:Nat) (x:IV),x.bulk≤n→(WT Tryz.prog 26 x→ ∃v:Sch,x=v.enc)∧(WT Tryz.prog 64 x→ ∃p:SFld,x=p.enc)
 | 0,x,hb=>by have:=W2 x;omega
 | n+1,x,hbn=>by
  have hV: ∀y:IV,y.bulk≤n→WT Tryz.prog 23 y→ ∃l:List Sch,y= .list (l.map Sch.enc):=fun y hy h=>Auf h fun z hz hw=>(Acu n z (by omega)).1 hw
  have hF: ∀y:IV,y.bulk≤n→WT Tryz.prog 24 y→ ∃l:List SFld,y= .list (l.map SFld.enc):=fun y hy h=>Agr h fun z hz hw=>(Acu n z (by omega)).2 hw
  have hS: ∀xs,WTs Tryz.prog [3,3,3,22,9,23,24] xs→IV.Ch xs≤n→ ∃s:Sch,xs=s.Hl:=by
   intro xs h hb
   obtain ⟨a,xs,rfl,ha,h⟩:=h.cons_inv
   obtain ⟨b,xs,rfl,hb',h⟩:=h.cons_inv
   obtain ⟨c,xs,rfl,hc,h⟩:=h.cons_inv
   obtain ⟨d,xs,rfl,hd,h⟩:=h.cons_inv
   obtain ⟨e,xs,rfl,he,h⟩:=h.cons_inv
   obtain ⟨g,xs,rfl,hg,h⟩:=h.cons_inv
   obtain ⟨i,xs,rfl,hi,h⟩:=h.cons_inv
   obtain rfl:=h.Xb
   simp only [IV.Ch] at hb
   obtain ⟨k,rfl⟩:=Tg ha
   obtain ⟨m,rfl⟩:=Tg hb'
   obtain ⟨o,rfl⟩:=Tg hc
   obtain ⟨en,rfl⟩:=Asl hd
   obtain ⟨key,rfl⟩:=Uz he
   obtain ⟨it,rfl⟩:=hV g (by omega) hg
   obtain ⟨f,rfl⟩:=hF i (by omega) hi
   exact ⟨⟨k,m,o,en,key,it,f⟩,by rw [Sch.Ck];rfl⟩
  constructor
  ·intro h
   obtain ⟨xs,rfl,h2⟩:=h.Iz (ts:= [3,3,3,22,9,23,24]) (by kernel_rfl) (by kernel_rfl)
   simp only [IV.bulk] at hbn
   obtain ⟨s,rfl⟩:=hS xs h2 (by omega)
   exact ⟨s,s.D8.symm⟩
  ·intro h
   obtain ⟨xs,rfl,h2⟩:=h.Iz (ts:= [9,4,4,30,3,3,3,22,9,23,24]) (by kernel_rfl) (by kernel_rfl)
   obtain ⟨a,xs,rfl,ha,h⟩:=h2.cons_inv
   obtain ⟨b,xs,rfl,hb',h⟩:=h.cons_inv
   obtain ⟨c,xs,rfl,hc,h⟩:=h.cons_inv
   obtain ⟨d,xs,rfl,hd,h⟩:=h.cons_inv
   simp only [IV.bulk,IV.Ch] at hbn
   obtain ⟨s,rfl⟩:=hS xs h (by omega)
   obtain ⟨nm,rfl⟩:=Uz ha
   obtain ⟨rq,rfl⟩:=Ald hb'
   obtain ⟨im,rfl⟩:=Ald hc
   obtain ⟨df,rfl⟩:=Agj hd
   exact ⟨⟨nm,rq,im,df,s⟩,rfl⟩
theorem Av2 {x:IV} (h:WT Tryz.prog 26 x): ∃s:Sch,x=s.enc:=(Acu _ x (Nat.le_refl _)).1 h
end Go.CT.Sch
namespace Go.CT.Sch
open Go.Proofs
theorem Aut {x:IV} (h:WT Tryz.prog 9 x): ∃s,x= .str s:=by
 obtain ⟨s,rfl,_⟩:=h.Gj (by kernel_rfl)
 exact ⟨s,rfl⟩
theorem Apn {x:IV} (h:WT Tryz.prog 22 x): ∃l:List ByteArray,x= .list (l.map .str):=by
 obtain ⟨xs,rfl,_,h⟩:=h.Ca (e:=9) (by kernel_rfl)
 obtain ⟨es,rfl,_⟩:=Ib (enc:=IV.str) (ok:=fun _=>True) (xs:=xs) fun x hx=>by
  obtain ⟨s,e⟩:=Aut (h x hx)
  exact ⟨s,e,trivial⟩
 exact ⟨es,rfl⟩
end Go.CT.Sch
