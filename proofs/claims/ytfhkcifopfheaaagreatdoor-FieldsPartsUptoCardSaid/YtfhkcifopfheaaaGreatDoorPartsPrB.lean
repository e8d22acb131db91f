import Derived.Test.YtfhkcifopfheaaaGreatDoorPartsPrA
import Derived.Test.YtfhkcifopfheaaaGreatDoorTabA
import Derived.Test.YtfhkcifopfheaaaGreatDoorCtC
set_option linter.unusedVariables false
set_option linter.unusedSimpArgs false
namespace Go.CT.Sch
open Go.Proofs
def Kj (s:Sch) (v:Val) (set:List ByteArray) (is:Bool):Val:=
 if s.valid&&v.valid then (if (pt v.size (some s) v [] (chB set is)).2 then (pt v.size (some s) v [] (chB set is)).1 else if v.k=5∨v.k=4 then ⟨v.k,0,Ay,[],[]⟩ else Bi) else v
theorem Q7 (s:Sch) (v:Val) (set:List ByteArray) (is:Bool) (hv:v.A3≤1048576):Gf 1048577 (Kj s v set is):=by
 have h:=Es (N:=1048576) v (by omega)
 unfold Kj
 split
 ·split
  ·exact Mj _ _ _ _ _ h
  ·split
   ·constructor<;>simp
   ·constructor<;>simp [Bi]
 ·exact h.mono (by omega)
theorem Adu (w:Val) (hw:Gf 1048577 w):(O.Cw [w.enc]).bind (fun x6=>calls (W F98 0 [x6]) 5 fun _ _ _ x10 _=>(O.index x10 (.int 0)).bind fun x12=>some [x12])=some [w.enc]:=by
 have h:=Ah4 [w] (by simp) (fun x hx=>by simp at hx;subst hx;exact hw.mono (by omega))
 simp only [List.map_cons,List.map_nil] at h
 rw [Val.Bh] at h
 simp only [O.Bj,Option.bind_some,h,O.Dn,Val.Apk,List.map_cons,List.map_nil]
 rfl
theorem Amt (set:List ByteArray) (is:Bool):chB (O7 [] set) is=chB set is:=by
 funext t
 have:inB (O7 [] set) t=inB set t:=by
  rw [Bool.eq_iff_iff,Abh,Abh,Yb];simp
 unfold chB;rw [this]
theorem Um (s:Sch) (v:Val) (set:List ByteArray) (is:Bool) (hs:s.A3≤1048576) (hv:v.A3≤1048576) (hset:set.length≤1048576) (hsv:s.valid=true) (hvv:v.valid=true): ∀ (n i:Nat) (acc:List ByteArray),i+n=set.length→O7 acc (set.drop i)=O7 [] set→
  W F97 1 [SL set,.int set.length,.int i,s.enc,v.enc,.bool is,.int 0,.int 0,.str ⟨#[]⟩,.list (U9 acc)]=some [(Kj s v set is).enc]
 | 0,i,acc,h,he=>by
  have:i=set.length:=by omega
  subst this
  rw [List.drop_length,O7] at he
  subst he
  have hk:IV.agg [.int 0,.str ⟨#[]⟩,.int 0,.str ⟨#[]⟩,.int v.k,.int v.n,.str v.s,.list (v.l.map Val.enc),.list (v.f.map Fld.enc),.int s.k,.int s.mn,.int s.mx,.list (s.en.map .str),.str s.key,.list (s.it.map Sch.enc),.list (s.f.map SFld.enc),.bool true]=E2 (⟨0,Ay,0,Ay⟩,v,some s):=rfl
  have hp:=Akl v.size (⟨0,Ay,0,Ay⟩,v,some s) [] (O7 [] set) is (Nat.le_refl _) (fun t ht=>by cases ht;exact ⟨Sch.Adg hsv,hs⟩) hv (by simp) (by have:=v.H0;simp;omega)
  have hp':W F99 0 [E2 (⟨0,Ay,0,Ay⟩,v,some s),.list [],.list (U9 (O7 [] set)),.bool is]=some [(pt v.size (some s) v [] (chB set is)).1.enc,.bool (pt v.size (some s) v [] (chB set is)).2,.list (U9 (O7 [] set)),.bool is]:=by rw [←Amt];exact hp
  have hc:=Adu (pt v.size (some s) v [] (chB set is)).1 (Mj _ _ _ _ _ (Es _ (by omega)))
  have hnull:W Ax4 0 []=some Bi.Gv:=by rw [Ani];rfl
  rw [Val.Bh] at hnull
  rw [Aqg]
  simp only [ltn,Option.bind_some,O.Ab,Bool.false_eq_true,if_false,Val.Bm,Val.Db,Val.Dy,Val.B7,Val.Ch,Sch.Bm,Sch.Db,Sch.Dy,Sch.B7,Sch.Ch,Sch.H3,Sch.G6,O.Bl,hk,hp',O.Aig,hc,O.eq_int,Ar,Al,hnull,O.Dn]
  unfold Kj
  simp only [hsv,hvv,Bool.and_self,if_true]
  cases (pt v.size (some s) v [] (chB set is)).2 with
  | true=>rfl
  | false=>
   by_cases k5:v.k=5
   ·simp only [k5,decide_true,if_true,true_or,Bool.false_eq_true,if_false];rfl
   ·by_cases k4:v.k=4
    ·simp only [k4];rfl
    ·simp only [k4,k5,decide_false,Bool.false_eq_true,if_false,or_self,Ar];rfl
 | n+1,i,acc,h,he=>by
  have hi:i<set.length:=by omega
  have hx:=Srt.idx IV.str (List.getElem?_eq_getElem hi)
  have ih:=Um s v set is hs hv hset hsv hvv n (i+1) (if inB acc set[i] then acc else acc++ [set[i]]) (by omega) (by rw [←he,List.drop_eq_getElem_cons hi,O7])
  rw [Aqg]
  simp only [lti hi,Option.bind_some,O.Ab,if_true,hx,Avk,nxt (show i<4611686018427387904 by omega),ih]
theorem Ac5 (s:Sch) (v:Val) (set:List ByteArray) (is:Bool) (hs:s.A3≤1048576) (hv:v.A3≤1048576) (hset:set.length≤1048576):W F97 0 [s.enc,v.enc,SL set,.bool is]=some [(Kj s v set is).enc]:=by
 rw [Aqw]
 simp only [Aoh s v hs hv,O.Ah,O.Az,Option.bind_some,O.Ab]
 cases c:s.valid&&v.valid with
 | false=>
  have hw:Kj s v set is=v:=by unfold Kj;rw [c];rfl
  simp only [Bool.not_false,if_true,Adu v ((Es (N:=1048576) v (by omega)).mono (by omega)),hw]
 | true=>
  have c1:s.valid=true∧v.valid=true:=by simpa using c
  have:=Um s v set is hs hv hset c1.1 c1.2 set.length 0 [] (by omega) (by rw [List.drop_zero])
  simp only [Bool.not_true,Bool.false_eq_true,if_false,Srt.len,Option.bind_some]
  exact this
theorem Aer (s:Sch) (v:Val) (set:List ByteArray) (is:Bool) (hs:s.A3≤1048576) (hv:v.A3≤1048576) (hset:set.length≤1048576):W Awn 0 [s.enc,v.enc,SL set,.bool is]=some (Kj s v set is).Gv :=by
 rw [Anm]
 have hcv:=Nb v (Es v (by omega))
 rw [Val.Bh] at hcv
 simp only [Asg s v hs hv,O.Ah,O.Az,Option.bind_some,O.Ab]
 cases c:s.valid&&v.valid with
 | false=>
  have hw:Kj s v set is=v:=by unfold Kj;rw [c];rfl
  rw [hw,Val.Bh]
  simp only [Bool.not_false,if_true,hcv,O.Dn]
 | true=>
  have c1:s.valid=true∧v.valid=true:=by simpa using c
  have hp:=Ajf v.size (some s) v [] set is (Nat.le_refl _) (fun t ht=>by cases ht;exact ⟨Sch.Adg c1.1,hs⟩) hv c1.2 (by simp) (by have:=v.H0;simp;omega) hset
  have hp':W P7 0 [s.enc,.bool true,v.enc,.list [],SL set,.bool is]=some [(pt v.size (some s) v [] (chB set is)).1.enc,.bool (pt v.size (some s) v [] (chB set is)).2]:=hp
  have hc:=Nb (pt v.size (some s) v [] (chB set is)).1 ((Mj (N:=1048576) _ _ _ _ _ (Es _ (by omega))).mono (by omega))
  rw [Val.Bh] at hc
  simp only [Bool.not_true,Bool.false_eq_true,if_false,hp',O.Cz,O.Ab,hc,O.Dn,Val.Bm,Option.bind_some,O.eq_int,Ar,Al]
  unfold Kj
  rw [if_pos c,Val.Bh]
  cases (pt v.size (some s) v [] (chB set is)).2 with
  | true=>rfl
  | false=>
   by_cases k5:v.k=5
   ·simp only [k5,decide_true,if_true,true_or,Bool.false_eq_true,if_false];rfl
   ·by_cases k4:v.k=4
    ·simp only [k4];rfl
    ·simp only [k4,k5,decide_false,Bool.false_eq_true,if_false,or_self];rfl
theorem Ajb (hA:W F5 0 []=some [.bool true]) (s:Sch) (v:Val) (set:List ByteArray) (hs:s.A3≤1048576) (hv:v.A3≤1048576) (hset:set.length≤1048576):W Au8 0 [s.enc,v.enc,SL set]=some [.bool true]:=by
 obtain ⟨b,hb⟩:=Aha s v set hs hv
 have e1:=Aer s v set true hs hv hset
 have e2:=Aer s v set false hs hv hset
 have w1:=Q7 s v set true hv
 have w2:=Q7 s v set false hv
 have q1:=Uo _ _ (w1.mono (by omega)) (w1.mono (by omega))
 have q2:=Uo _ _ (w2.mono (by omega)) (w2.mono (by omega))
 rw [Val.Bh] at e1 e2
 rw [Am0]
 simp only [hb,O.Ah,O.Az,Option.bind_some,O.Ab,hA,Auo,Amf,Ao6,Anv,Ac5 s v set true hs hv hset,Ac5 s v set false hs hv hset,e1,e2,O.Dn,O.Bl,Val.D9,q1,q2,decide_true,if_true]
 cases b<;>simp
end Go.CT.Sch
namespace Go.CT.Sch
open Go.Proofs
theorem Arf:W F5 0 []=some [.bool true]:=Axg 600 (by kernel_rfl)
end Go.CT.Sch
namespace Go.CT.Sch
open Go.Proofs
theorem Rk {x:IV} (h:WT Tryz.prog 3 x): ∃n,x= .int n:=by
 obtain ⟨n,rfl,_⟩:=h.E9 (k:= .i64) (by kernel_rfl)
 exact ⟨n,rfl⟩
theorem Vc {x:IV} (h:WT Tryz.prog 9 x): ∃s,x= .str s:=by
 obtain ⟨s,rfl,_⟩:=h.E7 (by kernel_rfl)
 exact ⟨s,rfl⟩
theorem Aks {x:IV} (h:WT Tryz.prog 4 x): ∃b,x= .bool b:=h.Jj (by kernel_rfl)
theorem Auh {x:IV} (h:WT Tryz.prog 22 x): ∃l:List ByteArray,x= .list (l.map .str):=by
 obtain ⟨xs,rfl,_,h⟩:=h.Ca (e:=9) (by kernel_rfl)
 obtain ⟨es,rfl,_⟩:=Hy (enc:=IV.str) (ok:=fun _=>True) (xs:=xs) fun x hx=>by
  obtain ⟨s,e⟩:=Vc (h x hx)
  exact ⟨s,e,trivial⟩
 exact ⟨es,rfl⟩
theorem Aki {x:IV} (hx:WT Tryz.prog 30 x) (h: ∀y,y.bulk<x.bulk→WT Tryz.prog 33 y→ ∃v:Val,y=v.enc): ∃l:List Val,x= .list (l.map Val.enc):=by
 obtain ⟨xs,rfl,_,hh⟩:=hx.Ca (e:=33) (by kernel_rfl)
 obtain ⟨es,rfl,_⟩:=Hy (enc:=Val.enc) (ok:=fun _=>True) (xs:=xs) fun y hy=>by
  have hb:y.bulk<(IV.list xs).bulk :=by have:=Ej hy;simp only [IV.bulk];omega
  obtain ⟨s,e⟩:=h y hb (hh y hy)
  exact ⟨s,e,trivial⟩
 exact ⟨es,rfl⟩
theorem Alg {x:IV} (hx:WT Tryz.prog 31 x) (h: ∀y,y.bulk<x.bulk→WT Tryz.prog 70 y→ ∃p,y=Fld.enc p): ∃l:List (ByteArray × Val),x= .list (l.map Fld.enc):=by
 obtain ⟨xs,rfl,_,hh⟩:=hx.Ca (e:=70) (by kernel_rfl)
 obtain ⟨es,rfl,_⟩:=Hy (enc:=Fld.enc) (ok:=fun _=>True) (xs:=xs) fun y hy=>by
  have hb:y.bulk<(IV.list xs).bulk :=by have:=Ej hy;simp only [IV.bulk];omega
  obtain ⟨s,e⟩:=h y hb (hh y hy)
  exact ⟨s,e,trivial⟩
 exact ⟨es,rfl⟩
theorem Abp: ∀ (n:Nat) (x:IV),x.bulk≤n→(WT Tryz.prog 33 x→ ∃v:Val,x=v.enc)∧(WT Tryz.prog 70 x→ ∃p,x=Fld.enc p)
 | 0,x,hb=>by have:=Wc x;omega
 | n+1,x,hb=>by
  have hV: ∀y:IV,y.bulk≤n→WT Tryz.prog 30 y→ ∃l:List Val,y= .list (l.map Val.enc):=fun y hy h=>Aki h fun z hz hw=>(Abp n z (by omega)).1 hw
  have hF: ∀y:IV,y.bulk≤n→WT Tryz.prog 31 y→ ∃l:List (ByteArray × Val),y= .list (l.map Fld.enc):=fun y hy h=>Alg h fun z hz hw=>(Abp n z (by omega)).2 hw
  constructor
  ·intro h
   obtain ⟨xs,rfl,h2⟩:=h.Ii (ts:= [3,3,9,30,31]) (by kernel_rfl) (by kernel_rfl)
   obtain ⟨a,xs,rfl,ha,h⟩:=h2.cons_inv
   obtain ⟨b,xs,rfl,hb,h⟩:=h.cons_inv
   obtain ⟨c,xs,rfl,hc,h⟩:=h.cons_inv
   obtain ⟨d,xs,rfl,hd,h⟩:=h.cons_inv
   obtain ⟨e,xs,rfl,he,h⟩:=h.cons_inv
   obtain rfl:=h.Xa
   simp only [IV.bulk,IV.Cd] at hb
   obtain ⟨k,rfl⟩:=Rk ha
   obtain ⟨m,rfl⟩:=Rk ‹WT Tryz.prog 3 b›
   obtain ⟨s,rfl⟩:=Vc hc
   obtain ⟨l,rfl⟩:=hV d (by omega) hd
   obtain ⟨f,rfl⟩:=hF e (by omega) he
   exact ⟨⟨k,m,s,l,f⟩,Val.fold _ _ _ _ _⟩
  ·intro h
   obtain ⟨xs,rfl,h2⟩:=h.Ii (ts:= [9,3,3,9,30,31]) (by kernel_rfl) (by kernel_rfl)
   obtain ⟨z,xs,rfl,hz,h⟩:=h2.cons_inv
   obtain ⟨a,xs,rfl,ha,h⟩:=h.cons_inv
   obtain ⟨b,xs,rfl,hb,h⟩:=h.cons_inv
   obtain ⟨c,xs,rfl,hc,h⟩:=h.cons_inv
   obtain ⟨d,xs,rfl,hd,h⟩:=h.cons_inv
   obtain ⟨e,xs,rfl,he,h⟩:=h.cons_inv
   obtain rfl:=h.Xa
   simp only [IV.bulk,IV.Cd] at hb
   obtain ⟨nm,rfl⟩:=Vc hz
   obtain ⟨k,rfl⟩:=Rk ha
   obtain ⟨m,rfl⟩:=Rk ‹WT Tryz.prog 3 b›
   obtain ⟨s,rfl⟩:=Vc hc
   obtain ⟨l,rfl⟩:=hV d (by omega) hd
   obtain ⟨f,rfl⟩:=hF e (by omega) he
   exact ⟨(nm,⟨k,m,s,l,f⟩),Fld.fold _ _ _ _ _ _⟩
theorem Aqh {x:IV} (h:WT Tryz.prog 33 x): ∃v:Val,x=v.enc:=(Abp _ x (Nat.le_refl _)).1 h
theorem Afx {x:IV} (h:WT Tryz.prog 30 x): ∃l:List Val,x= .list (l.map Val.enc):=Aki h fun _ _ hw=>Aqh hw
theorem Asc {x:IV} (hx:WT Tryz.prog 23 x) (h: ∀y,y.bulk<x.bulk→WT Tryz.prog 26 y→ ∃v:Sch,y=v.enc): ∃l:List Sch,x= .list (l.map Sch.enc):=by
 obtain ⟨xs,rfl,_,hh⟩:=hx.Ca (e:=26) (by kernel_rfl)
 obtain ⟨es,rfl,_⟩:=Hy (enc:=Sch.enc) (ok:=fun _=>True) (xs:=xs) fun y hy=>by
  have hb:y.bulk<(IV.list xs).bulk :=by have:=Ej hy;simp only [IV.bulk];omega
  obtain ⟨s,e⟩:=h y hb (hh y hy)
  exact ⟨s,e,trivial⟩
 exact ⟨es,rfl⟩
theorem Afs {x:IV} (hx:WT Tryz.prog 24 x) (h: ∀y,y.bulk<x.bulk→WT Tryz.prog 64 y→ ∃p:SFld,y=p.enc): ∃l:List SFld,x= .list (l.map SFld.enc):=by
 obtain ⟨xs,rfl,_,hh⟩:=hx.Ca (e:=64) (by kernel_rfl)
 obtain ⟨es,rfl,_⟩:=Hy (enc:=SFld.enc) (ok:=fun _=>True) (xs:=xs) fun y hy=>by
  have hb:y.bulk<(IV.list xs).bulk :=by have:=Ej hy;simp only [IV.bulk];omega
  obtain ⟨s,e⟩:=h y hb (hh y hy)
  exact ⟨s,e,trivial⟩
 exact ⟨es,rfl⟩
theorem Abw: ∀ (n:Nat) (x:IV),x.bulk≤n→(WT Tryz.prog 26 x→ ∃v:Sch,x=v.enc)∧(WT Tryz.prog 64 x→ ∃p:SFld,x=p.enc)
 | 0,x,hb=>by have:=Wc x;omega
 | n+1,x,hbn=>by
  have hV: ∀y:IV,y.bulk≤n→WT Tryz.prog 23 y→ ∃l:List Sch,y= .list (l.map Sch.enc):=fun y hy h=>Asc h fun z hz hw=>(Abw n z (by omega)).1 hw
  have hF: ∀y:IV,y.bulk≤n→WT Tryz.prog 24 y→ ∃l:List SFld,y= .list (l.map SFld.enc):=fun y hy h=>Afs h fun z hz hw=>(Abw n z (by omega)).2 hw
  have hS: ∀xs,WTs Tryz.prog [3,3,3,22,9,23,24] xs→IV.Cd xs≤n→ ∃s:Sch,xs=s.Gv:=by
   intro xs h hb
   obtain ⟨a,xs,rfl,ha,h⟩:=h.cons_inv
   obtain ⟨b,xs,rfl,hb',h⟩:=h.cons_inv
   obtain ⟨c,xs,rfl,hc,h⟩:=h.cons_inv
   obtain ⟨d,xs,rfl,hd,h⟩:=h.cons_inv
   obtain ⟨e,xs,rfl,he,h⟩:=h.cons_inv
   obtain ⟨g,xs,rfl,hg,h⟩:=h.cons_inv
   obtain ⟨i,xs,rfl,hi,h⟩:=h.cons_inv
   obtain rfl:=h.Xa
   simp only [IV.Cd] at hb
   obtain ⟨k,rfl⟩:=Rk ha
   obtain ⟨m,rfl⟩:=Rk hb'
   obtain ⟨o,rfl⟩:=Rk hc
   obtain ⟨en,rfl⟩:=Auh hd
   obtain ⟨key,rfl⟩:=Vc he
   obtain ⟨it,rfl⟩:=hV g (by omega) hg
   obtain ⟨f,rfl⟩:=hF i (by omega) hi
   exact ⟨⟨k,m,o,en,key,it,f⟩,by rw [Sch.Bh];rfl⟩
  constructor
  ·intro h
   obtain ⟨xs,rfl,h2⟩:=h.Ii (ts:= [3,3,3,22,9,23,24]) (by kernel_rfl) (by kernel_rfl)
   simp only [IV.bulk] at hbn
   obtain ⟨s,rfl⟩:=hS xs h2 (by omega)
   exact ⟨s,s.Dr.symm⟩
  ·intro h
   obtain ⟨xs,rfl,h2⟩:=h.Ii (ts:= [9,4,4,30,3,3,3,22,9,23,24]) (by kernel_rfl) (by kernel_rfl)
   obtain ⟨a,xs,rfl,ha,h⟩:=h2.cons_inv
   obtain ⟨b,xs,rfl,hb',h⟩:=h.cons_inv
   obtain ⟨c,xs,rfl,hc,h⟩:=h.cons_inv
   obtain ⟨d,xs,rfl,hd,h⟩:=h.cons_inv
   simp only [IV.bulk,IV.Cd] at hbn
   obtain ⟨s,rfl⟩:=hS xs h (by omega)
   obtain ⟨nm,rfl⟩:=Vc ha
   obtain ⟨rq,rfl⟩:=Aks hb'
   obtain ⟨im,rfl⟩:=Aks hc
   obtain ⟨df,rfl⟩:=Afx hd
   exact ⟨⟨nm,rq,im,df,s⟩,rfl⟩
theorem Avq {x:IV} (h:WT Tryz.prog 26 x): ∃s:Sch,x=s.enc:=(Abw _ x (Nat.le_refl _)).1 h
end Go.CT.Sch
namespace Go.CT.Sch
open Go.Proofs
theorem Auv {x:IV} (h:WT Tryz.prog 9 x): ∃s,x= .str s:=by
 obtain ⟨s,rfl,_⟩:=h.E7 (by kernel_rfl)
 exact ⟨s,rfl⟩
theorem Al5 {x:IV} (h:WT Tryz.prog 22 x): ∃l:List ByteArray,x= .list (l.map .str):=by
 obtain ⟨xs,rfl,_,h⟩:=h.Ca (e:=9) (by kernel_rfl)
 obtain ⟨es,rfl,_⟩:=Hy (enc:=IV.str) (ok:=fun _=>True) (xs:=xs) fun x hx=>by
  obtain ⟨s,e⟩:=Auv (h x hx)
  exact ⟨s,e,trivial⟩
 exact ⟨es,rfl⟩
end Go.CT.Sch
