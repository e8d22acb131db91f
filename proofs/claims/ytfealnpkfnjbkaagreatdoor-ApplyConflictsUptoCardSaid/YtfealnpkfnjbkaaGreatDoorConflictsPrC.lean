import Derived.Test.YtfealnpkfnjbkaaGreatDoorConflictsPrB
set_option linter.unusedVariables false
set_option linter.unusedSimpArgs false
open Bool renaming false_eq_true->aB,not_true->aG,and_eq_true->aH
open Go.CT.O renaming Aa->aM
open Go.CT.Sch.D renaming Br->aK
open Go.CT.Sch.Mgr renaming enc->aE
open List renaming mem_filter->aC,mem_map->aF,mem_append->aI,length_map->aJ
open Nat renaming zero_le->aD,le_refl->aL
open Option renaming bind_some->aA
namespace Go.CT.Sch
open Go.Proofs
def Ady (l:List (UInt8 × Int)):List IV:= [.int 5,.int 0,.str ⟨#[]⟩,.list [],.list (l.map λp=> .agg [.str ⟨#[p.1]⟩,.int 2,.int p.2,.str ⟨#[]⟩,.list [],.list []])]
theorem abcs:W F45 0 [.int 1,.int 2,.int 0]=some (Ady [(97,1),(98,2)])/\W F45 0 [.int 1,.int 0,.int 3]=some (Ady [(97,1),(99,3)])/\W F45 0 [.int 5,.int 0,.int 0]=some (Ady [(97,5)])/\
  W F45 0 [.int 1,.int 0,.int 0]=some (Ady [(97,1)])/\W F45 0 [.int 1,.int 4,.int 0]=some (Ady [(97,1),(98,4)])/\W F45 0 [.int 1,.int 2,.int 3]=some (Ady [(97,1),(98,2),(99,3)])/\W F45 0 [.int 5,.int 2,.int 0]=some (Ady [(97,5),(98,2)]):=
 ⟨Ala 100 (by kernel_rfl),Ala 100 (by kernel_rfl),Ala 100 (by kernel_rfl),Ala 100 (by kernel_rfl),Ala 100 (by kernel_rfl),Ala 100 (by kernel_rfl),Ala 100 (by kernel_rfl)⟩
theorem Bal (l:List (UInt8 × Int)):IV.agg (Ady l)=(vm l).enc :=by
 have:=Val.fold 5 0 An [] (l.map λp=>(⟨#[p.1]⟩,⟨2,p.2,An,[],[]⟩))
 unfold vm
 rw[<-this,List.map_map]
 rfl
theorem Bey:W F44 0 []=some Bf4.E2:=by rw[Bb1];rfl
theorem Bhs:W F43 0 []=some [.int 5,.int 0,.int 0,.list [],.str ⟨#[]⟩,.list [],.list (exS.f.map SFld.enc)]:=by
 rw[Baz]
 simp only[Bey,Sch.E2,Ww,O.Ay,O.Ba,aA]
 rfl
theorem Ay0 (a b:List (UInt8 × Int))(h:(vm a).Ap +(vm b).Ap <=1000):Sz exS (vm a) (vm b) exM:=by
 have c:exS.Ap<=1048576:=of_decide_eq_true (by kernel_rfl)
 have d:Ad3 exM=2:=rfl
 exact⟨c,by omega,by decide⟩
theorem eq_self (v:Val)(h:v.Ap<=1048576):W Bg0 0 [v.enc,v.enc]=some [.bool true]:=by
 rw[Af3 v v (by omega) (by omega)];simp
theorem Ayo:W F42 0 []=some [.bool true]:=by
 obtain⟨g,a2,a3,a4,a5,h,i⟩:=abcs
 have e1:=Pm exS (vm [(97,1),(98,2)]) exM ⟨#[110]⟩ (vm [(97,1),(99,3)]) false (Ay0 _ _ (of_decide_eq_true (by kernel_rfl)))
 have a:=Pm exS (vm [(97,1),(98,2)]) exM ⟨#[110]⟩ (vm [(97,5)]) false (Ay0 _ _ (of_decide_eq_true (by kernel_rfl)))
 have b:=Pm exS (vm [(97,1),(98,2)]) exM ⟨#[110]⟩ (vm [(97,5)]) true (Ay0 _ _ (of_decide_eq_true (by kernel_rfl)))
 have c:=Pm exS (vm [(97,1),(98,2)]) exM ⟨#[109]⟩ (vm [(97,1)]) false (Ay0 _ _ (of_decide_eq_true (by kernel_rfl)))
 have e5:=Aua exS (vm [(97,1),(98,2)]) (vm [(97,1),(98,4)]) exM ⟨#[110]⟩ (Ay0 _ _ (of_decide_eq_true (by kernel_rfl)))
 rw[ex_1]at e1
 rw[ex_2]at a b
 rw[ex_3]at c
 rw[ex_4]at e5
 have j:=eq_self (vm [(97,1),(98,2),(99,3)]) (of_decide_eq_true (by kernel_rfl))
 have m:=eq_self (vm [(97,5),(98,2)]) (of_decide_eq_true (by kernel_rfl))
 have o:=eq_self (vm [(97,1)]) (of_decide_eq_true (by kernel_rfl))
 have q:=Bgr [⟨⟨#[109]⟩,[⟨#[97]⟩]⟩,⟨⟨#[110]⟩,[⟨#[98]⟩]⟩] (by decide) (by simp)
 have r:=Ale [⟨⟨#[109]⟩,[⟨#[97]⟩,⟨#[98]⟩]⟩,⟨⟨#[110]⟩,[⟨#[97]⟩,⟨#[99]⟩]⟩] ⟨#[97]⟩ (by decide) (by simp)
 have t:IV.agg [.int 5,.int 0,.int 0,.list [],.str ⟨#[]⟩,.list [],.list (exS.f.map SFld.enc)]=exS.enc:=by rw[Sch.Eo,Sch.Bm];rfl
 have u:IV.list [.agg [.str ⟨#[109]⟩,.list [.str ⟨#[97]⟩,.str ⟨#[98]⟩]]]= .list (exM.map aE):=rfl
 have w: ∀l,IV.agg [.int 5,.int 0,.str ⟨#[]⟩,.list [],.list (l.map λp:UInt8 × Int=> .agg [.str ⟨#[p.1]⟩,.int 2,.int p.2,.str ⟨#[]⟩,.list [],.list []])]=(vm l).enc :=Bal
 simp only[Ady]at g a2 a3 a4 a5 h i
 simp only[A56.enc,Zt,aB,Zf]at e1 a b c
 rw[A8u]
 simp only[O.Ba,O.Ay,aA,u,Bhs,Ww,g,a2,a3,a4,a5,h,i,O.Df,t,w,e1,a,b,c,e5,O.Ac6,O.Ae]
 have d:W Bge 0 [.list ([⟨⟨#[109]⟩,[⟨#[97]⟩,⟨#[98]⟩]⟩,⟨⟨#[110]⟩,[⟨#[97]⟩,⟨#[99]⟩]⟩].map aE),.str ⟨#[97]⟩]=some [.list [.str ⟨#[109]⟩,.str ⟨#[110]⟩]]:=r
 have e:W Bdm 0 [.list ([⟨⟨#[109]⟩,[⟨#[97]⟩]⟩,⟨⟨#[110]⟩,[⟨#[98]⟩]⟩].map aE),.list [.agg [.str ⟨#[109]⟩,.list [.str ⟨#[97]⟩]],.agg [.str ⟨#[110]⟩,.list [.str ⟨#[98]⟩]]]]=some [.bool true]:=q
 simp only[j,m,o,e,d,O.Ae,aA]
 show _=_
 kernel_rfl
end Go.CT.Sch
namespace Go.CT.Sch
open Go.Proofs
theorem Aeu (nm:ByteArray)(a:List ByteArray): ∀ (l:List Mgr) (d:Bool),∀x∈Zq nm a d l,x=⟨nm,a⟩\/x∈l
 | [],d,x,h=>by
  rw[Zq]at h
  split at h
  ·simp at h
  ·exact .inl (by simpa using h)
 | m::l,d,x,h=>by
  rw[Zq]at h
  rcases aI.1 h with h | h
  ·rcases aI.1 h with h | h
   ·split at h
    ·exact .inl (by simpa using h)
    ·simp at h
   ·split at h
    ·exact .inr (by rw[List.mem_singleton.1 h];simp)
    ·simp at h
  ·rcases Aeu nm a l _ x h with h | h
   ·exact .inl h
   ·exact .inr (by simp[h])
structure Bdl (r:A56):Prop where
 v:r.v.Ap<=1048576
 l:r.l.length<=1048576/\ ∀m∈r.l,m.paths.length<=1048576
 c:r.c.length<=1048576
theorem Ag4 (s:Sch)(live:Val)(m:List Mgr)(nm:ByteArray)(config:Val)(force:Bool)(c:Sz s live config m):Bdl (Abh s live m nm config force):=by
 have j:=c.hab
 have z:=c.hm
 have d:=c.hp
 have a:Ar.Ap<=1048576:=by decide+kernel
 unfold Abh
 split
 ·rename_i b
  unfold okB at b
  simp only[aH]at b
  obtain⟨⟨⟨o,q⟩,A⟩,f4⟩:=b
  have r:=Ot o
  have t:=Ot q
  have B:=I2 live s
  have C:=I2 config s
  have e:=Ah9 (m:=m) (nm:=nm) r t (by omega)
  have i:=Lp s (aK config s)
  have g:=Amu (Ach s (aK config s) (aK live s)) m nm (Az s (aK config s)) (Wq s _)
  unfold Ai0
  split
  ·exact⟨a,⟨aD _,by simp⟩,by unfold Ahc;exact Nat.le_trans g d⟩
  ·split
   ·exact⟨a,⟨aD _,by simp⟩,aD _⟩
   ·rename_i u
    split
    ·refine⟨e,⟨by show(Aun _ _ _ _ _).length <=_;omega,λx h=>?_⟩,aD _⟩
     rcases Aeu _ _ _ _ x h with rfl | h
     ·show(Az _ _).length <=_;omega
     ·obtain⟨y,w,rfl⟩:=aF.1 h
      have F:=Lw y.paths (Tf (Ahc s (aK live s) (aK config s) m nm) y.name)
      have G:=Qx w
      show(Hg _ _).length <=_;omega
    ·exact⟨a,⟨aD _,by simp⟩,aD _⟩
 ·exact⟨a,⟨aD _,by simp⟩,aD _⟩
end Go.CT.Sch
namespace Go.CT.Sch
open Go.Proofs
theorem Aga: ∀m:List Mgr,3 * m.length+Ad3 m<=IV.Dd (m.map aE)
 | []=>aL _
 | x::m=>by
  have b:=Aga m
  have a:=Dx (x.paths.map IV.str)
  rw[aJ]at a
  simp only[List.map_cons,IV.Dd,aE,IV.bulk,Ad3,List.length_cons]
  omega
theorem Bg7 {s:Sch}{a b:Val}{m:List Mgr}(h:s.Ap+a.Ap+b.Ap+IV.Dd (m.map aE)<=1048576):Sz s a b m/\m.length<=500000:=by
 have:=Aga m
 exact⟨⟨by omega,by omega,by omega⟩,by omega⟩
end Go.CT.Sch
namespace Go.CT.Sch
open Go.Proofs
theorem A61 (l:List ByteArray)(x:ByteArray)(d:l.length<=1048576): ∀ (n i:Nat),i+n=l.length->W F217 1 [SL l,.str x,.int (i:Nat)]=some [.bool (inB (l.drop i) x)]
 | 0,i,h=>by
  have:i=l.length:=by omega
  subst this
  have a:O.len (SL l)=some (.int l.length):=G5 IV.str l
  rw[Am5,List.drop_length,a]
  simp only[ltn,aA,aM,aB,Zf]
  rfl
 | n+1,i,h=>by
  have b:i<l.length:=by omega
  have g:=A61 l x d n (i+1) (by omega)
  have a:O.len (SL l)=some (.int l.length):=G5 IV.str l
  have j:O.index (SL l) (.int (i:Nat))=some (.str l[i]):=Kg IV.str b
  rw[Am5,List.drop_eq_getElem_cons b,a]
  simp only[lti b,aA,aM,Zt,j,O.Dh,nxt (show i<4611686018427387904 by omega),g]
  unfold inB
  rw[List.any_cons]
  by_cases c:l[i]=x
  ·simp[c]
  ·have c': ¬ x=l[i]:=λe=>c e.symm
   simp[c,c']
theorem lhas (l:List ByteArray)(x:ByteArray)(a:l.length<=1048576):W F217 0 [SL l,.str x]=some [.bool (inB l x)]:=by
 rw[Azq];exact A61 l x a l.length 0 (by omega)
theorem A8v {v w:Val}{q:List Stp}(a:v.valid=true)(b:Hb v q=some w)(h: ∀x∈q,Dl x=true/\x.k≠2):Cy q=true:=by
 have:=Acl q 12 v w ((Hp v).1 a).1 b
 unfold Cy
 simp only[aH,List.all_eq_true,decide_eq_true_eq]
 exact⟨λx c=>(h x c).1,by omega⟩
theorem A2i {s:Sch}{v:Val}{t:ByteArray}(a:t∈Az s v):t∈lv v.size (some s) v []:=by
 have a:=(aC.1 a).1
 unfold Jt at a
 split at a
 ·exact Ve.1 a
 ·simp at a
theorem Bej {s:Sch}{cf:Val}{o:Option Val}(h:PV s cf)(b:Was s o)(m:Nat){t:ByteArray}(c:t∈Az s cf):Ach s cf (mg m s cf o) t=true:=by
 obtain⟨q,w,u,d,a2,a3,a4,a5⟩:=Avt cf.size s cf [] t (aL _) h.sv h.vv h.fit (A2i c)
 have hp:=A8v h.vv a2 a3
 obtain⟨w',b1,b2⟩:=a5 m o b
 have a:atV s q=some u:=by unfold atV;rw[h.sv,hp];exact a4
 rw[d,List.nil_append,Av2 s cf _ hp λx e=>(a3 x e).2]
 unfold Aiy
 rw[b1,a2,a]
 simp only[Option.isSome_some,Option.getD_some,Bool.true_and,Bool.or_eq_true,decide_eq_true_eq]
 exact b2
theorem A5a {s:Sch}{lv:Val}(gone:List ByteArray)(h:PV s lv):Was s (some (Ai7 s lv gone)):=λv a=>by
 cases a
 exact⟨Aby gone false h.vv,(Af4 gone false h.sv h.vv h.fit h.k5).1⟩
theorem Ank (nm:ByteArray)(a:List ByteArray): ∀l:List Mgr,(⟨nm,a⟩:Mgr)∈Zq nm a false l
 | []=>by simp[Zq]
 | m::l=>by
  rw[Zq]
  cases h:blt m.name nm with
  | false=>simp
  | true=>
   have:=Ank nm a l
   simp only[aG,Bool.and_false,Bool.or_false]
   exact List.mem_append_right _ this
theorem S5 {p x:ByteArray}{l:List Mgr} :inB (Hl p l) x=true↔ ∃m∈l,p∈m.paths/\m.name=x:=by
 unfold Hl
 rw[Ii,aF]
 constructor
 ·rintro⟨m,c,e⟩
  obtain⟨a,b⟩:=aC.1 c
  exact⟨m,a,Ii.1 b,e⟩
 ·rintro⟨m,a,b,e⟩
  exact⟨m,aC.2 ⟨a,Ii.2 b⟩,e⟩
theorem Aq5 {a b:List ByteArray}{x:ByteArray} :x∈Hg a b↔x∈a/\x∉b:=by
 unfold Hg
 rw[aC,Ve,<-Ii (l:=b)]
 simp
theorem A4t {sat:ByteArray->Bool}{l:List Mgr}{nm:ByteArray}{set:List ByteArray}{c:Cf}(h:c∈Rl sat l nm set):c.path∈set/\sat c.path=false/\ ∃m∈l,m.name=c.mgr/\c.path∈m.paths/\c.mgr≠nm:=by
 unfold Rl at h
 obtain⟨t,b,h⟩:=List.mem_flatMap.1 h
 split at h
 ·simp at h
 ·rename_i d
  unfold Sc at h
  obtain⟨m,e,rfl⟩:=aF.1 h
  obtain⟨g,a⟩:=aC.1 e
  simp only[aH,Bool.not_eq_true',decide_eq_false_iff_not]at a
  exact⟨b,by simpa using d,m,g,rfl,Ii.1 a.2,a.1⟩
theorem A0g {cs:List Cf}{c:Cf}(h:c∈cs):c.path∈Tf cs c.mgr:=by
 unfold Tf
 exact aF.2 ⟨c,aC.2 ⟨h,by simp⟩,rfl⟩
structure A54 (s:Sch)(cf:Val)(m:List Mgr)(nm:ByteArray)(r1 r2:A56):Prop where
 e9:(decide (r1.e=9) !=decide (0<r1.c.length))=false
 c0:r2.c= []
 n9:r2.e≠9
 ok:r1.e=0->r2.e=0
 cs: ∀c∈r1.c,c.mgr≠nm/\inB (Hl c.path m) c.mgr=true/\Nw c.path/\(r2.e=0->inB (Hl c.path r2.l) c.mgr=false/\inB (Hl c.path r2.l) nm=true/\Ach s cf r2.v c.path=true)
theorem Bdh {s:Sch}{lv cf:Val}{m:List Mgr}{nm:ByteArray}(B:PV s lv)(A:PV s cf):A54 s cf m nm (Ai0 s lv cf m nm false) (Ai0 s lv cf m nm true):=by
 have j:Ai0 s lv cf m nm true=if 16<(Aun s lv cf m nm).length then⟨Ar,[],[],15⟩else if(Au1 s lv cf m nm).valid =true then⟨Au1 s lv cf m nm,Aun s lv cf m nm,[],0⟩else⟨Ar,[],[],4⟩:=by
  unfold Ai0;simp
 by_cases q:0<(Ahc s lv cf m nm).length
 ·have r:Ai0 s lv cf m nm false=⟨Ar,[],Ahc s lv cf m nm,9⟩:=by unfold Ai0;simp[q]
  rw[r]
  refine⟨by simp[q],?_,?_,λe=>(by cases e),λc d=>?_⟩
  ·rw[j]
   split
   ·rfl
   ·split<;>rfl
  ·rw[j]
   split
   ·decide
   ·split
    ·show(0:Int)≠9;decide
    ·decide
  ·obtain⟨o,C,x,F,t,u,g⟩:=A4t d
   refine⟨g,S5.2 ⟨x,F,u,t⟩,O0 A.vv o,λb=>?_⟩
   have G:Ai0 s lv cf m nm true=⟨Au1 s lv cf m nm,Aun s lv cf m nm,[],0⟩:=by
    rw[j]at b ⊢
    split
    ·rename_i h;rw[if_pos h]at b;cases b
    ·rename_i h
     rw[if_neg h]at b
     split
     ·rfl
     ·rename_i h';rw[if_neg h']at b;cases b
   rw[G]
   have i:decide ((Az s cf).length =0)=false:=by
    have:=List.length_pos_of_mem o
    simp only[decide_eq_false_iff_not];omega
   refine⟨?_,?_,Bej A (A5a _ B) _ o⟩
   ·rw[<-Bool.not_eq_true,S5]
    rintro⟨y,w,hyp,a⟩
    rcases Aeu _ _ _ _ y w with rfl | w
    ·exact g a.symm
    ·obtain⟨z,H,rfl⟩:=aF.1 w
     have a:z.name=c.mgr:=a
     have:=(Aq5.1 hyp).2
     rw[a]at this
     exact this (A0g d)
   ·refine S5.2 ⟨⟨nm,Az s cf⟩,?_,o,rfl⟩
    show _∈Zq _ _ _ _
    rw[i]
    exact Ank _ _ _
 ·have r:Ai0 s lv cf m nm false=Ai0 s lv cf m nm true:=by unfold Ai0;simp[q]
  rw[r,j]
  split
  ·exact⟨rfl,rfl,by decide,λh=>h,by simp⟩
  ·split
   ·exact⟨rfl,rfl,show(0:Int)≠9 by decide,λh=>h,by simp⟩
   ·exact⟨rfl,rfl,by decide,λh=>h,by simp⟩
theorem Bc9 {s:Sch}{live config:Val}{m:List Mgr}{nm:ByteArray}(a:Np s live=true)(b:Np s config=true):A54 s (aK config s) m nm (Abh s live m nm config false) (Abh s live m nm config true):=by
 unfold Abh
 split
 ·exact Bdh (Ot a) (Ot b)
 ·exact⟨rfl,rfl,by decide,λh=>h,by simp⟩
theorem Ab1 (p:ByteArray)(m:List Mgr):(Hl p m).length <=m.length:=by unfold Hl;rw[aJ];exact List.length_filter_le _ _
theorem Aa1 (s:Sch)(config v:Val)(m l:List Mgr)(C:List Cf)(nm:ByteArray)(e:Int)(b:s.Ap<=1048576)(t:config.Ap<=1048576)(u:v.Ap<=1048576)(d:m.length<=1048576/\ ∀x∈m,x.paths.length<=1048576)(g:l.length<=1048576/\ ∀x∈l,x.paths.length<=1048576)(y:C.length<=1048576)(w:Np s config=true)
  (H: ∀c∈C,c.mgr≠nm/\inB (Hl c.path m) c.mgr=true/\Nw c.path/\(e=0->inB (Hl c.path l) c.mgr=false/\inB (Hl c.path l) nm=true/\Ach s (aK config s) v c.path=true)): ∀ (n i:Nat),i+n=C.length->
  W F0 1 [.list (m.map aE),.str nm,.int e,.int (i:Nat),s.enc,config.enc,.list (C.map Cf.enc),v.enc,.list (l.map aE)]=some [.bool true]
 | 0,i,h=>by
  have:i=C.length:=by omega
  subst this
  rw[A6n,G5]
  simp only[ltn,aA,aM,aB,Zf,Ayo,O.Ae]
 | n+1,i,h=>by
  have j:i<C.length:=by omega
  have z:=Aa1 s config v m l C nm e b t u d g y w H n (i+1) (by omega)
  obtain⟨A,B,F,G⟩:=H _ (List.getElem_mem j)
  have L:=Ab1 C[i].path m
  have M:=Ab1 C[i].path l
  have o:W F0 2 [.list (m.map aE),.str nm,.int e,.int (i:Nat),s.enc,config.enc,.list (C.map Cf.enc),v.enc,.list (l.map aE)]=some [.bool true]:=by
   rw[Bfe,nxt (show i<4611686018427387904 by omega)]
   exact z
  rw[A6n,G5]
  simp only[lti j,aA,aM,Zt,Kg Cf.enc j,cf0,cf1,O.Dh,A,Ze,aB,Zf,Ale m _ d.1 d.2,O.Ae,lhas _ _ (show(Hl C[i].path m).length <=1048576 by omega),B,O.As,aG,O.Cc,o]
  by_cases q:e=0
  ·obtain⟨I,J,K⟩:=G q
   have r:=(Rj w b t).2
   have a:=(Bhh s (aK config s) v C[i].path b (by have:=I2 config s;omega) u F)
   simp only[q,Zd,aG,aB,Zf,Ale l _ g.1 g.2,O.Ae,lhas _ _ (show(Hl C[i].path l).length <=1048576 by omega),I,J,K,aM,aA,O.As,r,a]
  ·simp only[q,Ze,Bool.not_false,Zt]
theorem Aep (s:Sch)(live config:Val)(m:List Mgr)(nm:ByteArray)(a:Sz s live config m):W F0 0 [s.enc,live.enc,.list (m.map aE),.str nm,config.enc]=some [.bool true]:=by
 have t:=a.hab
 have J:=a.hm
 have g:=a.hs
 have u:=a.hp
 have d: ∀x∈m,x.paths.length<=1048576:=λx h=>by have:=Qx h;omega
 obtain⟨b,w⟩:=Bd9 m (by omega) d s live config g (by omega) (by omega)
 rw[Bcw]
 simp only[w,O.Ae,O.As,aA,aM,Bel s live g (by omega),Bel s config g (by omega),Bhm m (by omega) (λx h=>by have:=d x h;omega),Ayo]
 cases b with
 | false=>rfl
 | true=>
 cases y:Np s live with
 | false=>rfl
 | true=>
 cases j:Np s config with
 | false=>rfl
 | true=>
 cases K:Adx m with
 | false=>rfl
 | true=>
 obtain⟨z,A,B,C,F⟩:=Bc9 (m:=m) (nm:=nm) y j
 obtain⟨_,_,G⟩:=Ag4 s live m nm config false a
 obtain⟨H,t2,_⟩:=Ag4 s live m nm config true a
 have o:=Pm s live m nm config false a
 have q:=Pm s live m nm config true a
 simp only[A56.enc]at o q
 have r:=Aa1 s config (Abh s live m nm config true).v m (Abh s live m nm config true).l (Abh s live m nm config false).c nm (Abh s live m nm config true).e g (by omega) H ⟨by omega,d⟩ t2 G j F (Abh s live m nm config false).c.length 0 (by omega)
 simp only[Int.cast_ofNat_Int]at r
 have I:(decide ((Abh s live m nm config true).e =9))=false:=by simpa using B
 simp only[aG,aB,Zf,o,q,O.Ac6,O.eq_int,O.Cc,aA,G5,gt0,O.Alj,z,aM,A,List.length_nil,I,r]
 by_cases i:(Abh s live m nm config false).e =0
 ·simp[i,C i]
 ·simp[i]
end Go.CT.Sch
