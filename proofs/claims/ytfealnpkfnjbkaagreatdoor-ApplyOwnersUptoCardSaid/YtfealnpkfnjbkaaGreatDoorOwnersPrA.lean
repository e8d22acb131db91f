import Derived.Test.YtfealnpkfnjbkaaGreatDoorTabA
import Derived.Test.YtfealnpkfnjbkaaGreatDoorCtC
import Derived.Test.YtfealnpkfnjbkaaGreatDoorLib
set_option linter.unusedVariables false
set_option linter.unusedSimpArgs false
open Array renaming toList_extract->eC
open Bool renaming false_eq_true->aB,and_eq_true->aJ,not_true->aT,eq_iff_iff->aX,not_false->bE,true_and->bN,false_and->cJ,and_true->dI,true_or->dU,false_or->eB,or_eq_true->eI,or_true->eK,or_self->fE,not_eq_true'->gF,and_false->gP,not_not->gU
open ByteArray renaming toList_data_append->aN,size_append->aR,append_assoc->bB,data_extract->dS,size->gL
open Go.CT.Fld renaming enc->bC,Bn->dF,J8->dL,Dg->iB
open Go.CT.O renaming Aa->aS,eq_int->aV,Ah->bD,Ae->bI,An->bQ,As->cD,Aj->cE,Aq->cM,B8->cR,Bq->cT,proj->dG,Ci->dY,index->eU,Az->eV,Gk->eW,Cc->fJ,append->fM,Hu->fP,C7->fQ,Bw->fR,C4->fW,Bb->fX,M7->gB,Eh->gM,D1->gT,Ks->gX,projs->gY,Ik->hJ
open Go.CT.Prim renaming ev->dB
open Go.CT.SFld renaming enc->cQ,Bn->eL,Q5->gD,Dg->gV
open Go.CT.Sch renaming Dg->dN,Eu->dO,Js->eF,H3->eG,Cj->eH,Cm->eR,Gy->fL,D0->fY,Bn->gH,enc->gW
open Go.CT.Srt renaming len->cS,LE->eA,idx->eT,eqv->iD
open Go.CT.Val renaming enc->bR,Cm->cX,Cj->dE,Bn->dR,D0->eE,ind->eJ,Ga->eO,Bm->eP,valid->fO,get->gC,Eu->gG,Dg->gN,Bv->hQ,C9->hZ,Aor->iE,Aay->iF
open Int renaming toNat_natCast->aE,natCast_nonneg->aF,cast_ofNat_Int->aK,toNat_zero->cC,le_refl->cP,eq_ofNat_of_zero_le->cU,ofNat_eq_natCast->eD,not_lt->gQ,not_le->gR
open List renaming getElem?_eq_getElem->aC,drop_eq_getElem_cons->aD,drop_of_length_le->aG,length_map->aH,getElem_mem->aL,getElem?_map->aM,length_append->aO,length_singleton->aP,drop_zero->aQ,length_eq_zero_iff->aU,all_eq_true->aY,length_cons->aZ,pairwise_cons->bA,nil_append->bF,length_nil->bG,mem_cons->bH,getElem?_cons_zero->bL,map_cons->bM,map_nil->bO,length_pos_iff->bP,all_cons->bT,length_eq_one_iff->bU,append_assoc->bV,append_nil->bW,filter_cons->bX,find?_cons->bY,flatMap_cons->cB,pairwise_singleton->cF,mem_filter->cG,append_eq_nil_iff->cH,mem_of_find?_eq_some->cL,all_nil->cN,mem_cons_of_mem->cO,length_drop->cV,map_append->cW,length_filter_le->cY,length->cZ,exists_cons_of_ne_nil->dA,extract_eq_take_drop->dD,mem_append->dK,mem_cons_self->dP,mem_map->dX,singleton_append->dZ,filter_append->eQ,pairwise_iff_getElem->eS,flatMap_nil->eX,flatMap_eq_nil_iff->eZ,filter_eq_nil_iff->fA,take_of_length_le->fD,take_append_drop->fG,set_getElem_self->fI,take_zero->fK,mem_map_of_mem->fS,filter_eq_self->fT,any_cons->fU,mem_mergeSort->fZ,mem_singleton->gA,pairwise_map->gE,not_mem_nil->gI,find?_some->gJ,mem_range->gS,range->iC
open List.Pairwise renaming nil->dW,filter->fN
open Nat renaming mul_le_mul->aW,le_refl->bJ,le_of_not_lt->bK,mul_add->cI,le_trans->dC,add_assoc->dH,zero_le->dQ,zero_add->eM,add_zero->eN,toUInt8->gZ
open Option renaming bind_some->aA,map_some->aI,getD_some->bZ,isSome_some->cK,isSome_iff_exists->dJ,isSome_none->dM,getD_none->eY,map_eq_some_iff->fB,map_none->gK,or_none->gO
open UInt8 renaming toNat_inj->fF,lt_iff_toNat_lt->fH
namespace Go.CT.Sch
open Go.Proofs
theorem Ays (c:UInt8):(0:Int)<=c.toNat/\(c.toNat:Int)<=255:=by
 have:=c.toNat_lt;omega
theorem H7 {s:ByteArray}{i:Nat}(h:i<s.size):s.data.toList.drop i=s[i]::s.data.toList.drop (i+1):=by
 rw[aD (by simpa using h)];rfl
theorem Ain (s:ByteArray)(g:s.size<=4611686018427387904): ∀ (n i:Nat),i+n=s.size->W 10 1 [.str s,.int i]=some [.bool ((s.data.toList.drop i).all I0&&decide (s.size<=200))]
 | 0,i,h=>by
  rw[A1.h]
  have j: ¬ i<s.size:=by omega
  have m:s.data.toList.drop i= []:=aG (by simp;omega)
  have u:decide ((s.size:Int)<=200)=decide (s.size<=200):=by simp;omega
  simp[j,m]
  omega
 | n+1,i,h=>by
  have b:i<s.size:=by omega
  have o:=Ain s g n (i+1) (by omega)
  have q:=Be (i:=i) (by omega)
  rw[A1.h,H7 b]
  have r:=Ays s[i]
  generalize t:s[i]=c at r
  have e1:I0 c= !(decide (¬ (c.toNat:Int)=10/\((c.toNat:Int)<32\/(126:Int)<c.toNat))):=by
   unfold I0
   rw[aX]
   simp
   omega
  simp only[cT,aA,bD,Ao,b,Zd,aS,Zt,hJ,aF,aE,A02 b,t,aI,dY,bT,e1,bQ,q,o]
  by_cases a:(c.toNat:Int)=10
  ·simp[a]
  ·by_cases d:(c.toNat:Int)<32
   ·simp[a,d]
   ·by_cases e:(126:Int)<c.toNat
    ·simp[a,d,e]
    ·simp[a,d,e]
theorem Awz (s:ByteArray)(a:s.size<=4611686018427387904):W 10 0 [.str s]=some [.bool (J9 s)]:=by
 rw[A1.g]
 exact Ain s a s.size 0 (by omega)
theorem Abm (s:ByteArray)(b:s.size<=4611686018427387904): ∀ (n i:Nat),i+n=s.size->W 14 1 [.str s,.int i]=some [.bool ((s.data.toList.drop i).all Bx&&decide (1<=s.size/\s.size<=40))]
 | 0,i,h=>by
  rw[A1.p]
  have d: ¬ i<s.size:=by omega
  have e:s.data.toList.drop i= []:=aG (by simp;omega)
  have g:((s.size:Int)<=40)=(s.size<=40):=by simp;omega
  simp[d,e,g]
  have:((1:Int)<=s.size)=(1<=s.size):=by simp;omega
  by_cases c:1<=s.size<;>simp[this,c]
 | n+1,i,h=>by
  have a:i<s.size:=by omega
  have j:=Abm s b n (i+1) (by omega)
  have m:=Be (i:=i) (by omega)
  rw[A1.p,H7 a]
  generalize o:s[i]=c
  have e1:Bx c= !(decide (¬ (((97:Int)<=c.toNat/\(c.toNat:Int)<=122)\/((65:Int)<=c.toNat/\(c.toNat:Int)<=90))/\ ¬ ((48:Int)<=c.toNat/\(c.toNat:Int)<=57)/\ ¬ (c.toNat:Int)=45/\ ¬ (c.toNat:Int)=95/\ ¬ (c.toNat:Int)=47)):=by
   unfold Bx
   rw[aX]
   simp
   omega
  simp only[cT,aA,bD,Ao,a,Zd,aS,Zt,hJ,aF,aE,A02 a,o,aI,fP,eW,dY,bT,e1,bQ,m,j]
  by_cases q:(97:Int)<=c.toNat<;>by_cases r:(c.toNat:Int)<=122<;>by_cases t:(65:Int)<=c.toNat<;>by_cases u:(c.toNat:Int)<=90<;>by_cases w:(48:Int)<=c.toNat<;>by_cases x:(c.toNat:Int)<=57<;>simp[q,r,t,u,w,x]<;>
   by_cases y:(c.toNat:Int)=45<;>by_cases z:(c.toNat:Int)=95<;>by_cases A:(c.toNat:Int)=47<;>simp[y,z,A]
theorem Anq (s:ByteArray)(a:s.size<=4611686018427387904):W 14 0 [.str s]=some [.bool (De s)]:=by
 rw[A1.o]
 exact Abm s a s.size 0 (by omega)
end Go.CT.Sch
namespace Go.CT.Sch
open Go.Proofs
theorem Ds:(⟨#[]⟩:ByteArray)=Am:=rfl
theorem Aj8 (d:Nat)(o:Option ByteArray)(p:ByteArray × Val)(r:List (ByteArray × Val)):As2 d o (p::r)=(De p.1&&(match o with | none=>true | some q=>blt q p.1)&&Ca d p.2&&As2 d (some p.1) r):=by
 cases o<;>rfl
theorem Aq8 (v:Val)(i:v.Ap<=1099511627776):W 17 0 [v.enc]=some [.bool (Ge v)]:=by
 have j:=v.Au4
 rw[A2.e]
 unfold Ge
 simp only[dR,aA,aV,aS]
 by_cases b:v.k=1
 ·simp[b,Ds]
 by_cases c:v.k=2
 ·by_cases a: -1000000000000000<=v.n<;>by_cases a2:v.n<=1000000000000000<;>simp[c,a,a2,Ds]
 by_cases d:v.k=3
 ·simp[d,Awz v.s (by omega)]
 by_cases e:v.k=0
 ·by_cases a:v.n=0<;>simp[e,A2.f,a,Ds]
 by_cases g:v.k=4
 ·by_cases a:v.n=0<;>simp[g,A2.f,a,Ds]
 by_cases h:v.k=5
 ·by_cases a:v.n=0<;>simp[h,A2.f,a,Ds]
 simp[b,c,d,e,g,h,A2.f]
theorem Xj (d:Nat)(v:Val)(hd:d<=12)(j:v.Ap<=1099511627776)(e: ∀x∈v.l,W 16 0 [x.enc,.int d]=some [.bool (Ca d x)]): ∀ (n i:Nat),i+n=v.l.length->
  W 16 1 [.int ((d+1:Nat):Int),.int i,v.enc]=if(v.l.drop i).all (Ca d)=true then W 16 2 [.int ((d+1:Nat):Int),.int 0,v.enc]else some [.bool false]
 | 0,i,h=>by
  rw[A2.c]
  have g: ¬ i<v.l.length:=by omega
  simp[g,aG (bK g)]
 | n+1,i,h=>by
  have a:i<v.l.length:=by omega
  have o:=v.Bu
  have m:=Be (i:=i) (by omega)
  have b:IntKind.i64.wrap (((d+1:Nat):Int) - 1)=d:=by rw[wrap64 (by omega) (by omega)];omega
  have:=Xj d v hd j e n (i+1) (by omega)
  rw[A2.c,aD a]
  simp only[dE,aA,cD,aH,bD,Ao,a,Zd,aS,Zt,cE,aF,aE,aM,aC a,aI,fQ,b,e _ (aL a),bI,cM,bQ,m,this,bT,aJ]
  by_cases c:Ca d v.l[i]=true<;>simp[c]
theorem Y9 (d:Nat)(v:Val)(hd:d<=12)(r:v.Ap<=1099511627776)(o: ∀p∈v.f,W 16 0 [p.2.enc,.int d]=some [.bool (Ca d p.2)]): ∀ (n i:Nat),i+n=v.f.length->
  W 16 2 [.int ((d+1:Nat):Int),.int i,v.enc]=some [.bool (As2 d (H9 v.f i) (v.f.drop i))]
 | 0,i,h=>by
  rw[A2.d]
  have q: ¬ i<v.f.length:=by omega
  simp[q,aG (bK q),As2]
 | n+1,i,h=>by
  have b:i<v.f.length:=by omega
  have u:=v.Bd
  have t:=Be (i:=i) (by omega)
  have c:IntKind.i64.wrap (((d+1:Nat):Int) - 1)=d:=by rw[wrap64 (by omega) (by omega)];omega
  have:=Y9 d v hd r o n (i+1) (by omega)
  have a:=aL b
  have e:=eE a
  have g:H9 v.f (i+1)=some v.f[i].1 :=by simp[H9,b]
  rw[g]at this
  rw[A2.d,aD b,Aj8]
  simp only[cX,aA,cD,aH,bD,Ao,b,Zd,aS,Zt,cE,aF,aE,aM,aC b,aI,dF,dL,Anq v.f[i].1 (by omega),fQ,c,o _ a,bI,cM,bQ,t,this,cR]
  cases i with
  | zero=>
   simp only[H9]
   cases De v.f[0].1<;>cases Ca d v.f[0].2<;>simp
  | succ i=>
   have j:i<v.f.length:=by omega
   have m:IntKind.i64.wrap (((i+1:Nat):Int) - 1)=i:=by rw[wrap64 (by omega) (by omega)];omega
   have hp:(0:Int)<((i+1:Nat):Int):=by omega
   simp only[H9,aC j,aI,m,hp,Zd,Zt,aF,aE,aA,dF,Aeg]
   cases De v.f[i+1].1<;>cases Ca d v.f[i+1].2<;>cases blt v.f[i].1 v.f[i+1].1<;>simp
theorem Z2: ∀ (d:Nat) (v:Val),d<=12->v.Ap<=1099511627776->W 16 0 [v.enc,.int d]=some [.bool (Ca d v)]
 | 0,v,_,_=>by
  rw[A2.b]
  simp[Ca]
 | d+1,v,hd,j=>by
  have m:=Xj d v (by omega) j (λx u=>Z2 d x (by omega) (by have:=eO u;omega)) v.l.length 0 (by omega)
  have r:=Y9 d v (by omega) j (λp hp=>Z2 d p.2 (by omega) (by have:=eE hp;omega)) v.f.length 0 (by omega)
  rw[A2.b]
  have w: ¬ ((d+1:Nat):Int)=0:=by omega
  simp only[aK,aQ,H9,Ahk]at m r
  rw[r]at m
  simp only[aV,w,Ze,aA,aS,aB,Zf,Aq8 v j,bI,cM,dE,cX,dR,cD,aH,cR,dY,m,Ca]
  have t:v.l= []->v.l.all (Ca d)=true:=λe=>by rw[e];rfl
  have o:v.f= []->(v.f.all λp=>De p.1&&Ca d p.2)=true/\rising v.f=true:=λe=>by rw[e];exact⟨rfl,rfl⟩
  generalize v.l.all (Ca d)=A at *
  generalize (v.f.all λp=>De p.1&&Ca d p.2)=B at *
  generalize rising v.f=C at *
  cases y:Ge v with
  | false=>simp
  | true=>
   by_cases b:(64:Int)<v.l.length
   ·have: ¬ v.l.length<=64:=by omega
    simp[b,this]
   ·have d1:v.l.length<=64:=by omega
    by_cases c:(64:Int)<v.f.length
    ·have: ¬ v.f.length<=64:=by omega
     simp[b,c,this]
    ·have d2:v.f.length<=64:=by omega
     by_cases g:v.k=4
     ·have i: ¬ v.k=5:=by omega
      by_cases a:v.f= []
      ·simp[g,b,d1,a]
       cases A<;>simp
      ·have h:(0:Int)<v.f.length:=by have:=bP.2 a;omega
       simp[g,b,c,d1,d2,a,h]
     ·by_cases a:v.l= []
      ·by_cases i:v.k=5
       ·simp[i,c,d2,a]
        cases A<;>simp
       ·by_cases q:v.f= []
        ·simp[g,i,a,q]
         cases A<;>simp
        ·have h:(0:Int)<v.f.length:=by have:=bP.2 q;omega
         simp[g,i,a,q,h,c,d2]
      ·have h:(0:Int)<v.l.length:=by have:=bP.2 a;omega
       simp[g,a,h,b,c,d1,d2]
end Go.CT.Sch
namespace Go.CT
theorem get!_eq (s:ByteArray)(i:Nat)(h:i<s.size):s.get! (i+0)=s[i]:=by
 obtain⟨a⟩:=s
 have h':i<a.size:=h
 show a[i+0]! =a[i]
 simp[h']
theorem Qk {s:ByteArray}{i:Nat}(h:i<s.size)(a:s[i].toNat <128):Utf8.decode s i=(s[i].toNat,1):=by
 unfold Utf8.decode
 simp only[get!_eq s i h]
 rw[if_pos a]
theorem decode_high {s:ByteArray}{i:Nat}(h:i<s.size)(b:128<=s[i].toNat):128<=(Utf8.decode s i).1 :=by
 unfold Utf8.decode
 simp only[get!_eq s i h]
 rw[if_neg (by omega)]
 have e:Utf8.runeError=65533:=rfl
 split
 ·split<;>simp only[e]<;>omega
 ·split
  ·split
   ·rename_i a
    simp only[aJ,decide_eq_true_eq,ge_iff_le]at a
    show 128<=_
    omega
   ·simp[e]
  ·split
   ·split
    ·rename_i a
     simp only[aJ,decide_eq_true_eq,ge_iff_le]at a
     show 128<=_
     omega
    ·simp[e]
   ·simp[e]
namespace O
variable {s:ByteArray}{i:Nat}{b:Bool}{xs ys:List IV}
theorem Sk (h:i<s.size):Oq (.str s) (.int i)=some (.bool true):=by simp[Oq,dB,h]
theorem Vj (h: ¬ i<s.size):Oq (.str s) (.int i)=some (.bool false):=by simp[Oq,dB,h]
theorem Tm (h:i<s.size):Ow (.str s) (.int i)=some (.int (Utf8.decode s i).1):=by simp[Ow,dB,h]
theorem Us (h: ¬ i<s.size):Ow (.str s) (.int i)=some (.int 0):=by simp[Ow,dB,h]
theorem N3 (h:i<s.size):H8 (.str s) (.int i)=some (.int ((i+(Utf8.decode s i).2 :Nat):Int)):=by simp[H8,dB,h]
theorem Pr (h: ¬ i<s.size):H8 (.str s) (.int i)=some (.int i):=by simp[H8,dB,h]
@[simp] theorem Tg:Ak7 (.bool true)=some (.bool true):=rfl
theorem Aih {n:Nat}(h:0<ys.length)(a:(xs.length+ys.length) * n<=Bc):Of n (.list xs) (.list ys)=some (.list (xs++ys)):=if_pos ⟨h,a⟩
theorem Ak9 (h:xs.length+s.size<=Bc):Mc (.list xs) (.str s)=some (.list (xs++Cs s)):=if_pos h
@[simp] theorem Are:Awx [.list xs]=some [.list xs]:=rfl
@[simp] theorem Kw:Mw [.list xs]=some [.list xs]:=rfl
theorem Xm: ∀l:List UInt8,(l.map λb:UInt8=>IV.int b.toNat).mapM Lo=some l
 | []=>rfl
 | b::l=>by
  have a:Lo (.int b.toNat)=some b:=by
   have h:(b.toNat:Int)<256:=by have:=b.toNat_lt;omega
   simp only[Lo,aF,h,and_self,Zt,aE]
   simp[gZ]
  simp[bM,List.mapM_cons,a,Xm l]
theorem N9 (s:ByteArray):U6 [.list (Cs s)]=some [.str s]:=by
 simp only[U6,Cs,Xm,aI]
theorem Mj (s t:ByteArray):Cs (s++t)=Cs s++Cs t:=by
 simp[Cs,aN]
theorem Md (s:ByteArray):(Cs s).length =s.size:=by simp[Cs]
theorem Ayf (n:Nat)(h:n<100):Asa [.int n]=some [.str (M7 n)]:=by
 simp only[Asa,aF,true_and,aE]
 rw[if_pos (by omega)]
end O
end Go.CT
namespace Go.CT.Sch
open Go.Proofs
structure Stp where
 k:Int
 nm:ByteArray
 ix:Int
 vl:ByteArray
def Stp.enc (s:Stp):IV:= .agg [.int s.k,.str s.nm,.int s.ix,.str s.vl]
@[simp] theorem Stp.Bn (s:Stp):dG 0 s.enc=some (.int s.k):=rfl
@[simp] theorem Stp.Dg (s:Stp):dG 1 s.enc=some (.str s.nm):=rfl
@[simp] theorem Stp.Eu (s:Stp):dG 2 s.enc=some (.int s.ix):=rfl
@[simp] theorem Stp.Cj (s:Stp):dG 3 s.enc=some (.str s.vl):=rfl
def Stp.fits (s:Stp):Prop:=s.nm.size<=1099511627000/\s.vl.size<=1099511627000
def bsL (l:List UInt8):ByteArray:=⟨l.toArray⟩
theorem Ha (a b:List UInt8):bsL (a++b)=bsL a++bsL b:=by
 apply Gq
 rw[aN];simp[bsL]
theorem Ce (l:List UInt8):(bsL l).size =l.length:=by simp[bsL,gL]
theorem Qu (s:ByteArray):bsL s.data.toList=s:=rfl
theorem Iw (s:ByteArray):Am++s=s:=by
 apply Gq
 rw[aN];rfl
theorem Sp (s:ByteArray):s++Am=s:=by
 apply Gq
 rw[aN];simp[Am]
theorem Ay4 {s:ByteArray}{i:Nat}(h:i<s.size):s.extract i (i+1)=bsL [s[i]]:=by
 apply Gq
 rw[dS,eC]
 simp only[dD,bsL]
 have:=H7 h
 simp_all
def Jz (c:UInt8):List UInt8:=if c.toNat=10 then[92,110]else if c.toNat=34\/c.toNat=92 then[92,c]else[c]
def M6 (s:ByteArray):ByteArray:=bsL (34::s.data.toList.flatMap Jz++ [34])
theorem Ax0 (c:UInt8):(Jz c).length <=2:=by unfold Jz;grind
theorem Alp: ∀l:List UInt8,(l.flatMap Jz).length <=2 * l.length
 | []=>by simp
 | c::l=>by
  have:=Ax0 c
  have:=Alp l
  grind
theorem Sf (s:ByteArray):(M6 s).size <=2+2 * s.size:=by
 have:=Alp s.data.toList
 have h:s.data.toList.length=s.size:=by simp
 unfold M6
 rw[Ce]
 grind
def C6 (x:Stp):Bool:=
 if x.k=1 then De x.nm&&decide (x.ix=0)&&decide (x.vl=Am)
 else if x.k=2 then decide (0<=x.ix)&&decide (x.ix<=64)&&decide (x.nm=Am)&&decide (x.vl=Am)
 else if x.k=3 then De x.nm&&J9 x.vl&&decide (x.ix=0)
 else false
def C3 (p:List Stp):Bool:=p.all C6&&decide (p.length<=16)
def Ip (first:Bool)(x:Stp):ByteArray:=
 if x.k=2 then bsL [91]++gB x.ix.toNat++bsL [93]
 else if x.k=3 then bsL [91]++x.nm++bsL [61]++M6 x.vl++bsL [93]
 else if first then x.nm else bsL [46]++x.nm
def Ey:Bool->List Stp->ByteArray
 | _,[]=>Am
 | b,x::r=>Ip b x++Ey false r
def A7o (p:List Stp):ByteArray:=Ey true p
def Ck (p:List Stp):ByteArray:=if C3 p then A7o p else Am
def Aps (p:List Stp):Int:=if C3 p then 0 else 1
theorem Nu {s:ByteArray}(h:De s=true):s.size<=40:=by
 unfold De at h
 grind
theorem M4 {s:ByteArray}(h:J9 s=true):s.size<=200:=by
 unfold J9 at h
 grind
theorem T9 (n:Nat):(gB n).size <=2:=by
 unfold gB
 split
 ·show 1<=2;omega
 ·show 2<=2;omega
theorem D7 {x:Stp}(h:C6 x=true):x.nm.size<=40/\x.vl.size<=200/\(x.k=2->0<=x.ix/\x.ix<=64)/\(x.k=3->J9 x.vl=true)/\(x.k=1\/x.k=2\/x.k=3):=by
 have b:Am.size=0:=rfl
 unfold C6 at h
 split at h
 ·rename_i k1
  simp only[aJ,decide_eq_true_eq]at h
  exact⟨Nu h.1.1,by grind,λh=>by omega,λh=>by omega,.inl k1⟩
 ·split at h
  ·grind
  ·split at h
   ·rename_i a
    simp only[aJ,decide_eq_true_eq]at h
    exact⟨Nu h.1.1,M4 h.1.2,λh=>by omega,λ_=>h.1.2,.inr (.inr a)⟩
   ·cases h
theorem Y3 (c:UInt8):W 25 0 [.int c.toNat]=some [.bool (Bx c)]:=by
 rw[A3.e]
 simp only[fP,eW,aV,aA,aS,Aw,Al]
 congr 3
 unfold Bx
 grind
theorem Xd (s:ByteArray)(b:s.size<=1099511627776): ∀ (n i:Nat),i+n=s.size->W 24 1 [.str s,.int i]=some [.bool ((s.data.toList.drop i).all Bx&&decide (1<=s.size/\s.size<=40))]
 | 0,i,h=>by
  have c: ¬ i<s.size:=by omega
  have d:s.data.toList.drop i= []:=aG (by simp;omega)
  rw[A3.d]
  simp only[cT,aA,bD,Ao,c,Ze,aS,aB,Zf,cR,eW,Aw,Al,d,cN,bN]
  congr 3
  grind
 | n+1,i,h=>by
  have a:i<s.size:=by omega
  have e:=Be (i:=i) (by omega)
  have g:=Xd s b n (i+1) (by omega)
  rw[A3.d,H7 a]
  simp only[cT,aA,bD,Ao,a,Zd,aS,Zt,hJ,aF,aE,A02 a,aI,Y3,bI,cM,bQ,e,g,bT]
  grind
theorem Atd (s:ByteArray)(a:s.size<=1099511627776):W 24 0 [.str s]=some [.bool (De s)]:=by
 rw[A3.c];exact Xd s a s.size 0 (by omega)
theorem Ach (s:ByteArray)(b:s.size<=1099511627776): ∀ (n i:Nat),i+n=s.size->W 26 1 [.str s,.int i]=some [.bool ((s.data.toList.drop i).all I0&&decide (s.size<=200))]
 | 0,i,h=>by
  have c: ¬ i<s.size:=by omega
  have d:s.data.toList.drop i= []:=aG (by simp;omega)
  rw[A3.g]
  simp only[cT,aA,bD,Ao,c,Ze,aS,aB,Zf,eW,d,cN,bN]
  congr 3
  grind
 | n+1,i,h=>by
  have a:i<s.size:=by omega
  have e:=Be (i:=i) (by omega)
  have g:=Ach s b n (i+1) (by omega)
  rw[A3.g,H7 a]
  have e1:I0 s[i]= !(if(!decide ((s[i].toNat :Int)=10))=true then(if decide ((s[i].toNat :Int)<32)=true then true else decide (126<(s[i].toNat :Int))) else false):=by
   unfold I0
   grind
  simp only[cT,aA,bD,Ao,a,Zd,aS,Zt,hJ,aF,aE,A02 a,aI,dY,cR,Aw,Al,bQ,e,g,bT,e1]
  grind
theorem Azp (s:ByteArray)(a:s.size<=1099511627776):W 26 0 [.str s]=some [.bool (J9 s)]:=by
 rw[A3.f];exact Ach s a s.size 0 (by omega)
theorem Atw (s:Stp)(a:s.fits):W 23 0 [s.enc]=some [.bool (C6 s)]:=by
 have b:=Atd s.nm (dC a.1 (by decide))
 have c:=Azp s.vl (dC a.2 (by decide))
 rw[A3.b]
 simp only[Stp.Bn,Stp.Dg,Stp.Eu,Stp.Cj,aA,aV,aS,b,c,bI,fP,eW,fW,Aw,Al,Ds]
 unfold C6
 grind
theorem V3 (p:List Stp)(hp: ∀s∈p,s.fits)(b:p.length<=1099511627776): ∀ (n i:Nat),i+n=p.length->W 22 1 [.list (p.map Stp.enc),.int i]=some [.bool ((p.drop i).all C6&&decide (p.length<=16))]
 | 0,i,h=>by
  have c: ¬ i<p.length:=by omega
  have d:p.drop i= []:=aG (by omega)
  rw[A3.a]
  simp only[cD,aH,aA,bD,Ao,c,Ze,aS,aB,Zf,eW,d,cN,bN]
  congr 3
  grind
 | n+1,i,h=>by
  have a:i<p.length:=by omega
  have e:=Be (i:=i) (by omega)
  have g:=V3 p hp b n (i+1) (by omega)
  rw[A3.a,aD a]
  simp only[cD,aH,aA,bD,Ao,a,Zd,aS,Zt,cE,aF,aE,aM,aC a,aI,Atw _ (hp _ (aL a)),bI,cM,bQ,e,g,bT]
  grind
theorem Mp (p:List Stp)(hp: ∀s∈p,s.fits)(a:p.length<=1099511627776):W 22 0 [.list (p.map Stp.enc)]=some [.bool (C3 p)]:=by
 rw[A2.p];exact V3 p hp a p.length 0 (by omega)
theorem G8 {a b:ByteArray}(c:a.size<=100000)(d:b.size<=100000):O.cat (.str a) (.str b)=some (.str (a++b)):=by
 rw[O.A2a,if_pos (by unfold Bc;omega)]
theorem A31: ∀d:Fin 10,(⟨#[48,49,50,51,52,53,54,55,56,57]⟩:ByteArray).extract d (d+1)=bsL [(48+d.val).toUInt8]:=by decide+kernel
theorem A39 (n:Int)(h:0<=n)(q:n<=64):W 27 0 [.int n]=some [.str (gB n.toNat)]:=by
 have sl: ∀d:Nat,d<10->O.Ov (.str ⟨#[48,49,50,51,52,53,54,55,56,57]⟩) (.int d) (.int ((d:Int)+1))=some (.str (bsL [(48+d).toUInt8])):=by
  intro d hd
  rw[O.Uj,if_pos ⟨by omega,by omega,by show(d:Int)+1<=10;omega⟩]
  have:=A31 ⟨d,hd⟩
  grind
 obtain⟨m,rfl⟩:=cU h
 rw[A3.h]
 unfold gB
 simp only[eD,aE]
 by_cases c:m<10
 ·have i:IntKind.i64.wrap ((m:Int)+1)=(m:Int)+1:=wrap64 (by omega) (by omega)
  have c':(m:Int)<10:=by omega
  simp only[bD,c',Zd,aA,aS,Zt,bQ,i,sl m c,c]
  rfl
 ·have c': ¬ (m:Int)<10:=by omega
  have j:(m:Int).tdiv 10=((m / 10:Nat):Int):=by grind
  have o:(m:Int).tmod 10=((m % 10:Nat):Int):=by grind
  have a:IntKind.i64.wrap ((m / 10:Nat):Int)=((m / 10:Nat):Int):=wrap64 (by omega) (by omega)
  have b:IntKind.i64.wrap (((m / 10:Nat):Int)+1)=((m / 10:Nat):Int)+1:=wrap64 (by omega) (by omega)
  have e:IntKind.i64.wrap (((m % 10:Nat):Int)+1)=((m % 10:Nat):Int)+1:=wrap64 (by omega) (by omega)
  have g: ¬ (10:Int)=0:=by omega
  simp only[bD,c',Ze,aA,aS,aB,Zf,O.A2j,O.A1l,g,j,o,a,bQ,b,e,sl (m / 10) (by omega),sl (m % 10) (by omega),c]
  rw[G8 (by rw[Ce];simp) (by rw[Ce];simp),<-Ha]
  rfl
theorem Yj (s:ByteArray)(j:s.size<=200): ∀ (n i:Nat) (o:ByteArray),i+n=s.size->o.size<=1+2 * i->W 28 1 [.str s,.str o,.int i]=some [.str (o++bsL ((s.data.toList.drop i).flatMap Jz++ [34]))]
 | 0,i,o,h,m=>by
  have q: ¬ i<s.size:=by omega
  have r:s.data.toList.drop i= []:=aG (by simp;omega)
  rw[A3.j]
  simp only[cT,aA,bD,Ao,q,Ze,aS,aB,Zf,r,eX,bF]
  rw[show(ByteArray.mk #[34])=bsL [34]from rfl,G8 (by omega) (by rw[Ce];simp)]
  rfl
 | n+1,i,o,h,m=>by
  have e:i<s.size:=by omega
  have g:=Be (i:=i) (by omega)
  have d:O.Ov (.str s) (.int i) (.int ((i+1:Nat):Int))=some (.str (bsL [s[i]])):=by
   rw[O.Uj,if_pos ⟨by omega,by omega,by omega⟩]
   simp only[aE]
   rw[Ay4 e]
  have next: ∀a:List UInt8,a.length<=2->Jz s[i]=a->W 28 2 [.str s,.str (o++bsL a),.int i]=some [.str (o++bsL ((s.data.toList.drop i).flatMap Jz++ [34]))]:=by
   intro a u t
   rw[A3.k]
   simp only[bQ,g,aA]
   rw[Yj s j n (i+1) _ (by omega) (by rw[aR,Ce];omega),H7 e,cB,t,bV,Ha a,bB]
  rw[A3.j]
  simp only[cT,aA,bD,Ao,e,Zd,aS,Zt,hJ,aF,aE,A02 e,aI,aV,Aw,Al]
  rw[show(ByteArray.mk #[92,110])=bsL [92,110]from rfl,show(ByteArray.mk #[92])=bsL [92]from rfl]
  by_cases w:s[i].toNat =10
  ·have b:(s[i].toNat :Int)=10:=by omega
   simp only[b,Zd,Zt]
   rw[G8 (by omega) (by rw[Ce];simp)]
   exact next [92,110] (by simp) (by unfold Jz;grind)
  ·have b: ¬ (s[i].toNat :Int)=10:=by omega
   simp only[b,Ze,aB,Zf]
   by_cases x:s[i].toNat =34\/s[i].toNat =92
   ·have c:(if decide ((s[i].toNat :Int)=34)=true then true else decide ((s[i].toNat :Int)=92))=true:=by
     grind
    simp only[c,Zt]
    rw[G8 (by omega) (by rw[Ce];simp)]
    simp only[aA,bQ,g,d]
    rw[G8 (by rw[aR,Ce];simp;omega) (by rw[Ce];simp),bB,<-Ha]
    exact next [92,s[i]] (by simp) (by unfold Jz;grind)
   ·have c:(if decide ((s[i].toNat :Int)=34)=true then true else decide ((s[i].toNat :Int)=92))=false:=by
     grind
    simp only[c,aB,Zf,bQ,g,aA,d]
    rw[G8 (by omega) (by rw[Ce];simp)]
    exact next [s[i]] (by simp) (by unfold Jz;grind)
theorem Auy (s:ByteArray)(a:s.size<=200):W 28 0 [.str s]=some [.str (M6 s)]:=by
 rw[A3.i,show(ByteArray.mk #[34])=bsL [34]from rfl]
 rw[show(IV.int 0)=IV.int ((0:Nat):Int) from rfl,Yj s a s.size 0 _ (by omega) (by rw[Ce];simp),<-Ha]
 rfl
theorem Vd {b:Bool}{x:Stp}(h:C6 x=true):(Ip b x).size <=500:=by
 obtain⟨a,d,_⟩:=D7 h
 have g:=Sf x.vl
 have i:=T9 x.ix.toNat
 have e: ∀c:UInt8,(bsL [c]).size =1:=λc=>by rw[Ce];rfl
 unfold Ip
 grind
theorem Aao (p:List Stp)(hp: ∀s∈p,C6 s=true)(q:p.length<=16): ∀ (n i:Nat) (o:ByteArray),i+n=p.length->o.size<=500 * i->W 21 1 [.list (p.map Stp.enc),.str o,.int i]=some [.str (o++Ey (decide (i=0)) (p.drop i)),.int 0]
 | 0,i,o,h,r=>by
  have u: ¬ i<p.length:=by omega
  have w:p.drop i= []:=aG (by omega)
  rw[A2.n]
  simp only[cD,aH,aA,bD,Ao,u,Ze,aS,aB,Zf,w,Ey,Sp]
 | n+1,i,o,h,r=>by
  have d:i<p.length:=by omega
  have x:=Be (i:=i) (by omega)
  have b:=hp _ (aL d)
  obtain⟨C,y,m,F,G⟩:=D7 b
  have e: ∀c:UInt8,(bsL [c]).size =1:=λc=>by rw[Ce];rfl
  have next: ∀t:ByteArray,Ip (decide (i=0)) p[i]=t->W 21 2 [.list (p.map Stp.enc),.str (o++t),.int i]=some [.str (o++Ey (decide (i=0)) (p.drop i)),.int 0]:=by
   intro t z
   have A:(Ip (decide (i=0)) p[i]).size <=500:=Vd b
   rw[A2.o]
   simp only[bQ,x,aA]
   rw[Aao p hp q n (i+1) (o++t) (by omega) (by grind),aD d,Ey,z,bB]
   rfl
  rw[A2.n]
  simp only[cD,aH,aA,bD,Ao,d,Zd,aS,Zt,cE,aF,aE,aM,aC d,aI,Stp.Bn,Stp.Dg,Stp.Eu,Stp.Cj,aV,cR]
  rw[show(ByteArray.mk #[91])=bsL [91]from rfl,show(ByteArray.mk #[93])=bsL [93]from rfl,show(ByteArray.mk #[61])=bsL [61]from rfl,show(ByteArray.mk #[46])=bsL [46]from rfl]
  by_cases k2:p[i].k =2
  ·have hd:=A39 p[i].ix (m k2).1 (m k2).2
   have g:=T9 p[i].ix.toNat
   simp only[k2,Zd,Zt]
   rw[G8 (by omega) (by grind)]
   simp only[aA,hd,bI]
   rw[G8 (by grind) (by omega)]
   simp only[aA]
   rw[G8 (by grind) (by grind)]
   simp only[aA,bB]
   exact next _ (by unfold Ip;rw[if_pos k2,bB])
  ·simp only[k2,Ze,aB,Zf]
   by_cases j:p[i].k =3
   ·have hd:=Auy p[i].vl y
    have g:=Sf p[i].vl
    simp only[j,Zd,Zt]
    rw[G8 (by omega) (by grind)]
    simp only[aA]
    rw[G8 (by grind) (by omega)]
    simp only[aA]
    rw[G8 (by grind) (by grind)]
    simp only[aA,hd,bI]
    rw[G8 (by grind) (by omega)]
    simp only[aA]
    rw[G8 (by grind) (by grind)]
    simp only[aA,bB]
    exact next _ (by unfold Ip;rw[if_neg k2,if_pos j];simp only[bB])
   ·simp only[j,Ze,aB,Zf]
    by_cases A:i=0
    ·have a: ¬ (0:Int)<i:=by omega
     have B:o=Am:=by
      apply Gq
      have:o.size=0:=by omega
      have:o.data.toList.length=0:=by simp_all
      rw[aU.1 this];rfl
     simp only[a,Ze,aB,Zf]
     have:=next p[i].nm (by unfold Ip;grind)
     simp_all
    ·have a:(0:Int)<i:=by omega
     simp only[a,Zd,Zt]
     rw[G8 (by omega) (by grind)]
     simp only[aA]
     rw[G8 (by grind) (by omega)]
     simp only[aA,bB]
     exact next _ (by unfold Ip;grind)
theorem Ajg (p:List Stp)(hp: ∀s∈p,s.fits)(b:p.length<=1099511627776):W 21 0 [.list (p.map Stp.enc)]=some [.str (Ck p),.int (Aps p)]:=by
 rw[A2.m]
 unfold Ck Aps
 cases a:C3 p with
 | false=>simp only[Mp p hp b,a,bI,cM,aA,bE,aS,Zt];rfl
 | true=>
  simp only[Mp p hp b,a,bI,cM,aA,aT,aS,aB,Zf,Zt]
  unfold C3 at a
  simp only[aJ,decide_eq_true_eq,aY]at a
  have:=Aao p a.1 a.2 p.length 0 Am (by omega) (bJ _)
  rw[Iw]at this
  exact this
end Go.CT.Sch
namespace Go.CT.Sch
open Go.Proofs
theorem Ahz (s:ByteArray)(j:s.size<=1099511627776): ∀ (n i:Nat),i+n=s.size->W 60 1 [.str s,.int s.size,.int i]=some [.bool ((s.data.toList.drop i).all I0&&decide (s.size<=200))]
 | 0,i,h=>by
  have m: ¬ i<s.size:=by omega
  have o:s.data.toList.drop i= []:=aG (by simp;omega)
  rw[A7.h]
  simp only[cT,aA,bD,Ao,m,Ze,aS,aB,Zf,eW,o,cN,bN]
  congr 3
  rw[aX]
  simp
  omega
 | n+1,i,h=>by
  have d:i<s.size:=by omega
  have q:=Be (i:=i) (by omega)
  have r:=Ahz s j n (i+1) (by omega)
  rw[A7.h,H7 d]
  have e1:I0 s[i]= !(if(!decide ((s[i].toNat :Int)=10))=true then(if decide ((s[i].toNat :Int)<32)=true then true else decide (126<(s[i].toNat :Int))) else false):=by
   unfold I0
   rw[aX]
   by_cases e:s[i].toNat =10
   ·simp[e]
   ·have c: ¬ (s[i].toNat :Int)=10:=by omega
    by_cases g:s[i].toNat <32
    ·have a:(s[i].toNat :Int)<32:=by omega
     simp[e,c,g,a];omega
    ·have a: ¬ (s[i].toNat :Int)<32:=by omega
     simp[e,c,g,a]
     omega
  simp only[cT,aA,bD,Ao,d,Zd,aS,Zt,hJ,aF,aE,A02 d,aI,dY,cR,Aw,Al,bQ,q,r,bT,e1]
  generalize (if(!decide ((s[i].toNat :Int)=10))=true then(if decide ((s[i].toNat :Int)<32)=true then true else decide (126<(s[i].toNat :Int))) else false)=b
  cases b<;>simp
theorem A3t (s:ByteArray)(a:s.size<=1099511627776):W 60 0 [.str s]=some [.bool (J9 s)]:=by
 rw[A7.g]
 simp only[cT,aA]
 exact Ahz s a s.size 0 (by omega)
theorem Aj9 (s:ByteArray)(b:s.size<=1099511627776): ∀ (n i:Nat),i+n=s.size->W 61 1 [.str s,.int s.size,.int i]=some [.bool ((s.data.toList.drop i).all Bx&&decide (1<=s.size/\s.size<=40))]
 | 0,i,h=>by
  have d: ¬ i<s.size:=by omega
  have e:s.data.toList.drop i= []:=aG (by simp;omega)
  rw[A7.j]
  simp only[cT,aA,bD,Ao,d,Ze,aS,aB,Zf,fP,eW,Aw,Al,e,cN,bN]
  congr 3
  rw[aX]
  simp
  omega
 | n+1,i,h=>by
  have a:i<s.size:=by omega
  have g:=Be (i:=i) (by omega)
  have j:=Aj9 s b n (i+1) (by omega)
  rw[A7.j,H7 a]
  generalize m:s[i]=c
  simp only[cT,aA,bD,Ao,a,Zd,aS,Zt,hJ,aF,aE,A02 a,m,aI,fP,eW,aV,Aw,Al,cM,bQ,g,j,bT]
  have e1:Bx c=(if(if(if(if(if(if decide ((97:Int)<=c.toNat)=true then decide ((c.toNat:Int)<=122) else false)=true then true else if decide ((65:Int)<=c.toNat)=true then decide ((c.toNat:Int)<=90) else false)=true then true else if decide ((48:Int)<=c.toNat)=true then decide ((c.toNat:Int)<=57) else false)=true then true else decide ((c.toNat:Int)=45))=true then true else decide ((c.toNat:Int)=95))=true then true else decide ((c.toNat:Int)=47)):=by
   unfold Bx
   rw[aX]
   simp
   omega
  rw[<-e1]
  cases Bx c<;>simp
theorem A1v (s:ByteArray)(a:s.size<=1099511627776):W 61 0 [.str s]=some [.bool (De s)]:=by
 rw[A7.i]
 simp only[cT,aA]
 exact Aj9 s a s.size 0 (by omega)
theorem Axg (v:Val)(i:v.Ap<=1099511627776):W 59 0 [v.enc]=some [.bool (Ge v)]:=by
 have j:=v.Au4
 rw[A7.e]
 unfold Ge
 simp only[dR,aA,aV,aS]
 by_cases b:v.k=1
 ·by_cases a:v.s=Am<;>by_cases a2:v.n=0<;>simp[b,a,a2,Ds]
 by_cases c:v.k=2
 ·by_cases a: -1000000000000000<=v.n<;>by_cases a2:v.n<=1000000000000000<;>by_cases a3:v.s=Am<;>simp[c,a,a2,a3,Ds]
 by_cases d:v.k=3
 ·by_cases a:v.n=0<;>simp[d,a,A3t v.s (by omega)]
 by_cases e:v.k=0
 ·by_cases a:v.n=0<;>simp[e,A7.f,a,Ds]
 by_cases g:v.k=4
 ·by_cases a:v.n=0<;>simp[g,A7.f,a,Ds]
 by_cases h:v.k=5
 ·by_cases a:v.n=0<;>simp[h,A7.f,a,Ds]
 simp[b,c,d,e,g,h,A7.f]
theorem Acn (d:Nat)(v:Val)(hd:d<=12)(r:v.Ap<=1099511627776)(o: ∀p∈v.f,W 58 0 [p.2.enc,.int d]=some [.bool (Ca d p.2)]): ∀ (n i:Nat),i+n=v.f.length->
  W 58 2 [.int ((d+1:Nat):Int),.list (v.f.map bC),.int v.f.length,.int i,v.enc]=some [.bool (As2 d (H9 v.f i) (v.f.drop i))]
 | 0,i,h=>by
  rw[A7.d]
  have q: ¬ i<v.f.length:=by omega
  simp[q,aG (bK q),As2]
 | n+1,i,h=>by
  have b:i<v.f.length:=by omega
  have u:=v.Bd
  have t:=Be (i:=i) (by omega)
  have c:IntKind.i64.wrap (((d+1:Nat):Int) - 1)=d:=by rw[wrap64 (by omega) (by omega)];omega
  have:=Acn d v hd r o n (i+1) (by omega)
  have a:=aL b
  have e:=eE a
  have g:H9 v.f (i+1)=some v.f[i].1 :=by simp[H9,b]
  rw[g]at this
  rw[A7.d,aD b,Aj8]
  simp only[cX,aA,bD,Ao,b,Zd,aS,Zt,cE,aF,aE,aM,aC b,aI,dF,dL,A1v v.f[i].1 (by omega),fQ,c,o _ a,bI,cM,cR,bQ,t,this]
  cases i with
  | zero=>
   simp only[H9]
   cases De v.f[0].1<;>cases Ca d v.f[0].2<;>simp
  | succ i=>
   have j:i<v.f.length:=by omega
   have m:IntKind.i64.wrap (((i+1:Nat):Int) - 1)=i:=by rw[wrap64 (by omega) (by omega)];omega
   have hp:(0:Int)<((i+1:Nat):Int):=by omega
   simp only[H9,aC j,aI,m,hp,Zd,Zt,aF,aE,aA,dF,Ud]
   cases De v.f[i+1].1<;>cases Ca d v.f[i+1].2<;>cases blt v.f[i].1 v.f[i+1].1<;>simp
theorem Abg (d:Nat)(v:Val)(hd:d<=12)(j:v.Ap<=1099511627776)(e: ∀x∈v.l,W 58 0 [x.enc,.int d]=some [.bool (Ca d x)]): ∀ (n i:Nat),i+n=v.l.length->
  W 58 1 [.int ((d+1:Nat):Int),.list (v.l.map bR),.int v.l.length,.int i,v.enc]=if(v.l.drop i).all (Ca d)=true then W 58 2 [.int ((d+1:Nat):Int),.list (v.f.map bC),.int v.f.length,.int 0,v.enc]else some [.bool false]
 | 0,i,h=>by
  rw[A7.c]
  have g: ¬ i<v.l.length:=by omega
  simp[g,aG (bK g)]
 | n+1,i,h=>by
  have a:i<v.l.length:=by omega
  have o:=v.Bu
  have m:=Be (i:=i) (by omega)
  have b:IntKind.i64.wrap (((d+1:Nat):Int) - 1)=d:=by rw[wrap64 (by omega) (by omega)];omega
  have:=Abg d v hd j e n (i+1) (by omega)
  rw[A7.c,aD a]
  simp only[aA,bD,Ao,a,Zd,aS,Zt,cE,aF,aE,aM,aC a,aI,fQ,b,e _ (aL a),bI,cM,bQ,m,this,bT]
  by_cases c:Ca d v.l[i]=true<;>simp[c]
theorem Aed: ∀ (d:Nat) (v:Val),d<=12->v.Ap<=1099511627776->W 58 0 [v.enc,.int d]=some [.bool (Ca d v)]
 | 0,v,_,_=>by
  rw[A7.b]
  simp[Ca]
 | d+1,v,hd,a=>by
  have b:=Abg d v (by omega) a (λx i=>Aed d x (by omega) (by have:=eO i;omega)) v.l.length 0 (by omega)
  have e:=Acn d v (by omega) a (λp hp=>Aed d p.2 (by omega) (by have:=eE hp;omega)) v.f.length 0 (by omega)
  have j:=v.Bu
  have m:=v.Bd
  have g: ¬ ((d+1:Nat):Int)=0:=by omega
  simp only[aQ,aK]at b e
  have e1:decide ((0:Int)<(v.l.length:Int))= !decide (v.l= []):=by cases v.l<;>simp
  have o:decide ((0:Int)<(v.f.length:Int))= !decide (v.f= []):=by cases v.f<;>simp
  have q:decide ((64:Int)<(v.l.length:Int))= !decide (v.l.length<=64):=by rw[aX];simp;omega
  have r:decide ((64:Int)<(v.f.length:Int))= !decide (v.f.length<=64):=by rw[aX];simp;omega
  rw[A7.b]
  simp only[aV,g,Ze,aA,aS,aB,Zf,Axg v a,bI,cM,Aw,Al,dR,dE,cX,dY,cD,aH,cR,e1,o,q,r,b,e]
  unfold Ca
  have h:H9 v.f 0=none:=rfl
  rw[h,Ahk]
  generalize v.l.all (Ca d)=A at *
  generalize (v.f.all λp=>De p.1&&Ca d p.2)=B at *
  generalize rising v.f=C at *
  generalize Ge v=D
  clear b e
  have t:(if(!decide (v.k=4))=true then !decide (v.l= []) else false)= !decide (v.k≠4->v.l= []):=by by_cases c:v.k=4<;>simp[c]
  have u:(if(!decide (v.k=5))=true then !decide (v.f= []) else false)= !decide (v.k≠5->v.f= []):=by by_cases c:v.k=5<;>simp[c]
  rw[t,u,show decide (v.l.length<=64/\v.f.length<=64/\(v.k≠4->v.l= [])/\(v.k≠5->v.f= []))=(decide (v.l.length<=64)&&(decide (v.f.length<=64)&&(decide (v.k≠4->v.l= [])&&decide (v.k≠5->v.f= [])))) by simp only[Bool.decide_and]]
  generalize decide (v.l.length<=64)=b1
  generalize decide (v.f.length<=64)=b2
  generalize decide (v.k≠4->v.l= [])=b3
  generalize decide (v.k≠5->v.f= [])=b4
  cases D<;>cases b1<;>cases b2<;>cases b3<;>cases b4<;>cases A<;>cases B<;>cases C<;>rfl
theorem Aj7 (v:Val)(g:v.Ap<=1099511627776)(d: ∀p∈v.f,W 62 0 [p.2.enc]=some [.int p.2.size]): ∀ (n i c:Nat),i+n=v.f.length->c+B4 (v.f.drop i)<=4611686018427387904->
  W 62 2 [.int c,.list (v.f.map bC),.int v.f.length,.int i]=some [.int ((c+B4 (v.f.drop i):Nat):Int)]
 | 0,i,c,h,j=>by
  rw[A7.m]
  have e: ¬ i<v.f.length:=by omega
  simp[e,aG (bK e),B4]
 | n+1,i,c,h,j=>by
  have a:i<v.f.length:=by omega
  have o:=v.Bd
  have m:=Be (i:=i) (by omega)
  have hd:B4 (v.f.drop i)=v.f[i].2.size +B4 (v.f.drop (i+1)):=by rw[aD a];rfl
  have b:IntKind.i64.wrap ((c:Int)+(v.f[i].2.size :Int))=((c+v.f[i].2.size :Nat):Int):=by rw[wrap64 (by omega) (by omega)];rfl
  rw[A7.m]
  simp only[aA,bD,Ao,a,Zd,aS,Zt,cE,aF,aE,aM,aC a,aI,dL,d _ (aL a),bI,bQ,m,b]
  rw[Aj7 v g d n (i+1) _ (by omega) (by omega),hd,dH]
theorem Agm (v:Val)(g:v.Ap<=1099511627776)(d: ∀x∈v.l,W 62 0 [x.enc]=some [.int x.size]): ∀ (n i c:Nat),i+n=v.l.length->c+Cv (v.l.drop i)<=4611686018427387904->
  W 62 1 [.int c,.list (v.l.map bR),.int v.l.length,.int i,v.enc]=W 62 2 [.int ((c+Cv (v.l.drop i):Nat):Int),.list (v.f.map bC),.int v.f.length,.int 0]
 | 0,i,c,h,j=>by
  rw[A7.l]
  have e: ¬ i<v.l.length:=by omega
  simp[e,aG (bK e),Cv]
 | n+1,i,c,h,j=>by
  have a:i<v.l.length:=by omega
  have o:=v.Bu
  have m:=Be (i:=i) (by omega)
  have hd:Cv (v.l.drop i)=v.l[i].size +Cv (v.l.drop (i+1)):=by rw[aD a];rfl
  have b:IntKind.i64.wrap ((c:Int)+(v.l[i].size :Int))=((c+v.l[i].size :Nat):Int):=by rw[wrap64 (by omega) (by omega)];rfl
  rw[A7.l]
  simp only[aA,bD,Ao,a,Zd,aS,Zt,cE,aF,aE,aM,aC a,aI,d _ (aL a),bI,bQ,m,b]
  rw[Agm v g d n (i+1) _ (by omega) (by omega),hd,dH]
theorem A3l: ∀v:Val,v.Ap<=1099511627776->W 62 0 [v.enc]=some [.int v.size]:=by
 refine eJ λv a b d=>?_
 have i:=v.Gb
 have j:=v.size_eq
 have e:=Agm v d (λx g=>a x g (by have:=eO g;omega)) v.l.length 0 1 (by omega) (by simp only[aQ];omega)
 have h:=Aj7 v d (λp hp=>b p hp (by have:=eE hp;omega)) v.f.length 0 (1+Cv v.l) (by omega) (by simp only[aQ];omega)
 simp only[aQ,aK]at e h
 rw[A7.k]
 simp only[dE,aA,cD,aH]
 have c:W 62 1 [.int 1,.list (v.l.map bR),.int v.l.length,.int 0,v.enc]=W 62 2 [.int ((1+Cv v.l:Nat):Int),.list (v.f.map bC),.int v.f.length,.int 0]:=e
 rw[c,h,j]
theorem I3 (v:Val)(a:v.Ap<=1099511627776):W 57 0 [v.enc]=some [.bool v.valid]:=by
 rw[A7.a]
 have b:=Aed 12 v (by omega) a
 have c:=A3l v a
 simp only[aK]at b
 simp only[b,c,bI,aS,eW,aA,fO]
 have:decide ((v.size:Int)<=600)=decide (v.size<=600):=by simp;omega
 cases Ca 12 v<;>simp[this]
end Go.CT.Sch
namespace Go.CT.Sch
open Go.Proofs
def nmR (r:Int):Bool:=decide (97<=r/\r<=122)||decide (65<=r/\r<=90)||decide (48<=r/\r<=57)||decide (r=45)||decide (r=95)||decide (r=47)
theorem Amd (r:Int):W 96 0 [.int r]=some [.bool (nmR r)]:=by
 rw[A10.e]
 simp only[fP,eW,aV,aA,aS,Aw,Al]
 congr 3
 unfold nmR
 rw[aX]
 simp
theorem W7 (c:UInt8):nmR c.toNat=Bx c:=by
 unfold nmR Bx
 rw[aX]
 simp
 omega
theorem Aee {r:Int}(h:128<=r):nmR r=false:=by
 unfold nmR
 simp
 omega
theorem Aj3 {c:UInt8}(h:128<=c.toNat):Bx c=false:=by
 rw[<-W7];exact Aee (by omega)
theorem Ag8 (s:ByteArray)(d:s.size<=1099511627776): ∀ (n i:Nat),i+n=s.size->W 95 1 [.str s,.str s,.int i]=some [.bool ((s.data.toList.drop i).all Bx&&decide (1<=s.size/\s.size<=40))]
 | 0,i,h=>by
  have b: ¬ i<s.size:=by omega
  have g:s.data.toList.drop i= []:=aG (by simp;omega)
  rw[A10.d]
  simp only[O.Vj b,O.Us b,O.Pr b,aA,aS,aB,Zf,gM,cT,eW,Aw,Al,g,cN,bN]
  congr 3
  have e:s=(⟨#[]⟩:ByteArray)↔s.size=0:=by
   constructor
   ·rintro rfl;rfl
   ·intro j
    apply Gq
    have:s.data.toList.length=0:=by simpa using j
    rw[aU.1 this]
  by_cases c:s.size=0
  ·simp[e,c]
  ·have m:1<=s.size:=by omega
   rw[aX]
   simp[e,c,m]
   omega
 | n+1,i,h=>by
  have a:i<s.size:=by omega
  rw[A10.d,H7 a]
  simp only[O.Sk a,O.Tm a,O.N3 a,aA,aS,Zt,O.Tg,Amd,bI,cM,bT]
  by_cases o:s[i].toNat <128
  ·have q:=Ag8 s d n (i+1) (by omega)
   rw[Qk a o]
   simp only[W7]
   cases Bx s[i]with
   | true=>simpa using q
   | false=>simp
  ·have hd:=decode_high a (by omega)
   rw[Aee (by omega),Aj3 (by omega)]
   simp
theorem A2d (s:ByteArray)(a:s.size<=1099511627776):W 95 0 [.str s]=some [.bool (De s)]:=by
 rw[A10.c];exact Ag8 s a s.size 0 (by omega)
theorem Air (s:ByteArray):(Val.mk 3 0 s [] []).valid =J9 s:=by
 unfold fO Ca
 simp[Ge,rising,Val.size,Cv,B4]
theorem A3b (s:Stp)(a:s.fits):W 94 0 [s.enc]=some [.bool (C6 s)]:=by
 have d:=A2d s.nm (dC a.1 (by decide))
 have b:=I3 ⟨3,0,s.vl,[],[]⟩ (by
  have:=a.2
  rw[hQ];simp[Er,Cq];omega)
 rw[Air]at b
 have e:IV.agg [.int 3,.int 0,.str s.vl,.list [],.list []]=bR ⟨3,0,s.vl,[],[]⟩:=rfl
 rw[A10.b]
 simp only[Stp.Bn,Stp.Dg,Stp.Eu,Stp.Cj,aA,aV,aS,d,bI,fP,eW,fW,Aw,Al,Ds,A6.p,gT,eV,e,b]
 unfold C6
 by_cases k1:s.k=1
 ·simp only[k1,Zd,Zt]
  cases De s.nm<;>simp
 ·by_cases k2:s.k=2
  ·simp only[k2,Zd,Ze,aB,Zt,Zf]
   by_cases e1:0<=s.ix<;>by_cases g:s.ix<=64<;>by_cases h:s.nm=Am<;>simp[e1,g,h]
  ·simp only[k1,k2,Ze,aB,Zf]
   by_cases c:s.k=3
   ·simp only[c,Zd,Zt]
    cases De s.nm<;>cases J9 s.vl<;>simp
   ·simp[c]
theorem Ao7 (p:List Stp)(hp: ∀s∈p,s.fits)(c:p.length<=1099511627776): ∀ (n i:Nat),i+n=p.length->
  ∃r:Int,W 92 1 [.list (p.map Stp.enc),.int p.length,.int i]=some [.int r]/\decide (0<=r)= !(p.drop i).all C6
 | 0,i,h=>by
  have d: ¬ i<p.length:=by omega
  have e:p.drop i= []:=aG (by omega)
  rw[A9.p]
  simp only[bD,Ao,d,Ze,aA,aS,aB,Zf,e]
  exact⟨-1,rfl,rfl⟩
 | n+1,i,h=>by
  have a:i<p.length:=by omega
  have g:=Be (i:=i) (by omega)
  obtain⟨r,j,b⟩:=Ao7 p hp c n (i+1) (by omega)
  rw[A9.p,aD a]
  simp only[bD,Ao,a,Zd,aA,aS,Zt,cE,aF,aE,aM,aC a,aI,A10.a,A3b _ (hp _ (aL a)),bI,cM,bQ,g,j,bT]
  cases C6 p[i]with
  | true=>exact⟨r,by simp,by simpa using b⟩
  | false=>exact⟨i,by simp,by simp⟩
theorem To (p:List Stp)(hp: ∀s∈p,s.fits)(d:p.length<=1099511627776):W 90 0 [.list (p.map Stp.enc)]=some [.bool (C3 p)]:=by
 obtain⟨r,e,a⟩:=Ao7 p hp d p.length 0 (by omega)
 have b:W 92 0 [.list (p.map Stp.enc)]=some [.int r]:=by
  rw[A9.o]
  simp only[cD,aH,aA]
  exact e
 rw[A9.m]
 simp only[cD,aH,aA,eW,aS,A9.n,b,bI,fP,a,cM,aQ,gU]
 unfold C3
 have:decide ((p.length:Int)<=16)=decide (p.length<=16):=by simp;omega
 rw[this]
 by_cases c:p.length<=16<;>simp[c]
theorem Oa (s:ByteArray)(c:UInt8)(a:s.size<=1000000):W 97 0 [.list (Cs s),.int c.toNat]=some [.list (Cs (s++bsL [c]))]:=by
 rw[A10.f]
 have h:((Cs s).length + [IV.int (c.toNat:Int)].length) * 1<=Bc:=by rw[O.Md];simp;unfold Bc;omega
 simp only[A7k,O.Kw,bI,fX,aA,fR,h,Zt,O.Mj]
 rfl
theorem Y8 (s t:ByteArray)(a:s.size<=1000000)(b:t.size<=1000000): ∃n,W 100 0 [.list (Cs s),.str t]=some [n,.list (Cs (s++t))]:=by
 rw[A10.g]
 have h:(Cs s).length +t.size<=Bc:=by rw[O.Md];unfold Bc;omega
 simp only[A7k,O.Kw,bI,O.Ak9 h,aA,cT,O.Mj]
 exact⟨_,rfl⟩
theorem Aoj (s:ByteArray)(c:UInt8)(d:c.toNat<128)(e:s.size<=1000000): ∃n,W 103 0 [.list (Cs s),.int c.toNat]=some [n,.list (Cs (s++bsL [c]))]:=by
 rw[A10.l]
 have h:((Cs s).length + [IV.int (c.toNat:Int)].length) * 1<=Bc:=by rw[O.Md];simp;unfold Bc;omega
 have w1:IntKind.u32.wrap (c.toNat:Int)=c.toNat:=by
  unfold IntKind.wrap
  simp[IntKind.signed,IntKind.bits]
  omega
 have a:IntKind.u8.wrap (c.toNat:Int)=c.toNat:=by
  unfold IntKind.wrap
  simp[IntKind.signed,IntKind.bits]
  omega
 have b:decide ((c.toNat:Int)<=127)=true:=by simp;omega
 simp only[A7k,O.Kw,bI,cD,aA,A10.m,O.Tw,w1,a,eW,b,aS,Zt,fX,fR,h,O.Mj,fQ]
 exact⟨_,rfl⟩
theorem Ar8 {c:UInt8}(h:I0 c=true):c.toNat<128:=by
 unfold I0 at h
 simp at h
 omega
theorem Acs (s:ByteArray)(z:s.size<=200)(x: ∀c∈s.data.toList,I0 c=true): ∀ (n i:Nat) (o:ByteArray),i+n=s.size->o.size<=1+2 * i->W 101 1 [.str s,.int i,.list (Cs o)]=some [.str (o++bsL ((s.data.toList.drop i).flatMap Jz++ [34]))]
 | 0,i,o,h,r=>by
  have t: ¬ i<s.size:=by omega
  have u:s.data.toList.drop i= []:=aG (by simp;omega)
  have w:=Oa o 34 (by omega)
  rw[A10.i]
  simp only[O.Vj t,O.Us t,O.Pr t,aA,aS,aB,Zf]
  rw[show(IV.int 34)=IV.int ((34:UInt8).toNat :Int) from rfl,w]
  simp only[bI,A1p,O.N9,u,eX,bF]
 | n+1,i,o,h,r=>by
  have j:i<s.size:=by omega
  have A:=x s[i] (by rw[show s[i]=s.data.toList[i]'(by simpa using j) from rfl];exact aL _)
  have b:=Ar8 A
  have next: ∀a:List UInt8,a.length<=2->Jz s[i]=a->W 101 3 [.str s,.int ((i+1:Nat):Int),.list (Cs (o++bsL a))]=some [.str (o++bsL ((s.data.toList.drop i).flatMap Jz++ [34]))]:=by
   intro a G B
   rw[A10.k]
   rw[Acs s z x n (i+1) _ (by omega) (by rw[aR,Ce];omega),H7 j,cB,B,bV,Ha a,bB]
  rw[A10.i]
  simp only[O.Sk j,O.Tm j,O.N3 j,Qk j b,aA,aS,Zt,O.Tg,aV]
  have two:s[i].toNat =34\/s[i].toNat =92->W 101 2 [.int s[i].toNat,.int s[i].toNat,.bool true,.str s,.int ((i+1:Nat):Int),.list (Cs o)]=some [.str (o++bsL ((s.data.toList.drop i).flatMap Jz++ [34]))]:=by
   intro u
   rw[A10.j]
   have w:=Oa o 92 (by omega)
   obtain⟨m,q⟩:=Aoj (o++bsL [92]) s[i] b (by rw[aR,Ce];simp;omega)
   simp only[aS,Zt]
   rw[show(IV.int 92)=IV.int ((92:UInt8).toNat :Int) from rfl,w]
   simp only[bI,q,fJ]
   rw[bB,<-Ha]
   exact next [92,s[i]] (by simp) (by unfold Jz;rw[if_neg (by omega),if_pos u])
  by_cases C:s[i].toNat =34
  ·have d:decide ((s[i].toNat :Int)=34)=true:=by simp;omega
   simp only[d,Zt]
   exact two (.inl C)
  ·have d:decide ((s[i].toNat :Int)=34)=false:=by simp;omega
   simp only[d,aB,Zf]
   by_cases F:s[i].toNat =92
   ·have e:decide ((s[i].toNat :Int)=92)=true:=by simp;omega
    simp only[e]
    exact two (.inr F)
   ·have e:decide ((s[i].toNat :Int)=92)=false:=by simp;omega
    simp only[e]
    rw[A10.j]
    simp only[aS,aB,Zf,aV,aA]
    by_cases y:s[i].toNat =10
    ·have g:decide ((s[i].toNat :Int)=10)=true:=by simp;omega
     simp only[g,Zt]
     obtain⟨m,q⟩:=Y8 o (bsL [92,110]) (by omega) (by rw[Ce];simp)
     rw[show(ByteArray.mk #[92,110])=bsL [92,110]from rfl]
     simp only[q,fJ]
     exact next [92,110] (by simp) (by unfold Jz;rw[if_pos y])
    ·have g:decide ((s[i].toNat :Int)=10)=false:=by simp;omega
     simp only[g,aB,Zf]
     obtain⟨m,q⟩:=Aoj o s[i] b (by omega)
     simp only[q,fJ]
     exact next [s[i]] (by simp) (by unfold Jz;rw[if_neg y,if_neg (by omega)])
theorem Ayt (s:ByteArray)(h:J9 s=true):W 101 0 [.str s]=some [.str (M6 s)]:=by
 have a:=M4 h
 unfold J9 at h
 simp only[aJ,aY]at h
 rw[A10.h]
 have b:=Oa Am 34 (by decide)
 rw[show(IV.list [])=IV.list (Cs Am) from rfl,show(IV.int 34)=IV.int ((34:UInt8).toNat :Int) from rfl,b]
 simp only[bI,Iw]
 rw[show(IV.int 0)=IV.int ((0:Nat):Int) from rfl,Acs s a h.1 s.size 0 _ (by omega) (by rw[Ce];simp),<-Ha]
 rfl
theorem Acf (p:List Stp)(hp: ∀s∈p,C6 s=true)(A:p.length<=16): ∀ (n i:Nat) (o:ByteArray),i+n=p.length->o.size<=500 * i->W 89 1 [.list (p.map Stp.enc),.int p.length,.int i,.list (Cs o)]=some [.str (o++Ey (decide (i=0)) (p.drop i)),.int 0]
 | 0,i,o,h,B=>by
  have C: ¬ i<p.length:=by omega
  have F:p.drop i= []:=aG (by omega)
  rw[A9.j]
  simp only[aA,bD,Ao,C,Ze,aS,aB,Zf,F,Ey,Sp,A1p,O.N9,bI]
 | n+1,i,o,h,B=>by
  have j:i<p.length:=by omega
  have G:=Be (i:=i) (by omega)
  have d:=hp _ (aL j)
  obtain⟨J,K,w,H,I⟩:=D7 d
  have e: ∀c:UInt8,(bsL [c]).size =1:=λc=>by rw[Ce];rfl
  have next: ∀t:ByteArray,Ip (decide (i=0)) p[i]=t->W 89 3 [.list (p.map Stp.enc),.int p.length,.int i,.list (Cs (o++t))]=some [.str (o++Ey (decide (i=0)) (p.drop i)),.int 0]:=by
   intro t y
   have q:(Ip (decide (i=0)) p[i]).size <=500:=Vd d
   rw[A9.l]
   simp only[bQ,G,aA]
   rw[Acf p hp A n (i+1) (o++t) (by omega) (by rw[aR,<-y];omega),aD j,Ey,y,bB]
   rfl
  rw[A9.j]
  simp only[aA,bD,Ao,j,Zd,aS,Zt,cE,aF,aE,aM,aC j,aI,Stp.Bn,Stp.Dg,Stp.Eu,Stp.Cj,aV,cR]
  rw[show(ByteArray.mk #[91])=bsL [91]from rfl,show(ByteArray.mk #[93])=bsL [93]from rfl,show(ByteArray.mk #[61])=bsL [61]from rfl,show(IV.int 46)=IV.int ((46:UInt8).toNat :Int) from rfl]
  rcases I with k1 | k2 | g
  ·simp only[k1,Zd,Zt]
   by_cases q:i=0
   ·have a: ¬ (0:Int)<i:=by omega
    obtain⟨m,b⟩:=Y8 o p[i].nm (by omega) (by omega)
    simp only[a,Ze,aB,Zf]
    rw[A9.k]
    simp only[Stp.Dg,aA,b,fJ]
    exact next _ (by unfold Ip;rw[if_neg (by omega),if_neg (by omega),if_pos (by simpa using q)])
   ·have a:(0:Int)<i:=by omega
    obtain⟨m,b⟩:=Y8 (o++bsL [46]) p[i].nm (by rw[aR,e];omega) (by omega)
    simp only[a,Zd,Zt,Oa o 46 (by omega),bI]
    rw[A9.k]
    simp only[Stp.Dg,aA,b,fJ,bB]
    exact next _ (by unfold Ip;rw[if_neg (by omega),if_neg (by omega),if_neg (by simpa using q)])
  ·obtain⟨x,z⟩:=cU (w k2).1
   have r:=(w k2).2
   rw[z]at r
   have hd:W 99 0 [.int p[i].ix]=some [.str (gB p[i].ix.toNat)]:=by
    rw[e_99,z,O.Ayf x (by omega)];rfl
   have u:=T9 p[i].ix.toNat
   have k1:decide (p[i].k =1)=false:=by rw[k2];rfl
   simp only[k1,k2,Zd,aB,Zf,Zt,hd,bI]
   rw[G8 (by rw[e];omega) (by omega)]
   simp only[aA]
   rw[G8 (by rw[aR,e];omega) (by rw[e];omega)]
   obtain⟨m,b⟩:=Y8 o (bsL [91]++gB p[i].ix.toNat ++bsL [93]) (by omega) (by rw[aR,aR,e,e];omega)
   simp only[aA,b,fJ]
   exact next _ (by unfold Ip;rw[if_pos k2])
  ·have hd:=Ayt p[i].vl (H g)
   have u:=Sf p[i].vl
   have k1:decide (p[i].k =1)=false:=by rw[g];rfl
   have k2:decide (p[i].k =2)=false:=by rw[g];rfl
   simp only[k1,k2,g,Zd,aB,Zf,Zt]
   rw[G8 (by rw[e];omega) (by omega)]
   simp only[aA]
   rw[G8 (by rw[aR,e];omega) (by rw[e];omega)]
   simp only[aA,hd,bI]
   rw[G8 (by rw[aR,aR,e,e];omega) (by omega)]
   simp only[aA]
   rw[G8 (by rw[aR,aR,aR,e,e];omega) (by rw[e];omega)]
   obtain⟨m,b⟩:=Y8 o (bsL [91]++p[i].nm ++bsL [61]++M6 p[i].vl ++bsL [93]) (by omega) (by simp only[aR,e];omega)
   simp only[aA,b,fJ]
   exact next _ (by unfold Ip;rw[if_neg (by omega),if_pos g])
theorem Afk (p:List Stp)(hp: ∀s∈p,s.fits)(b:p.length<=1099511627776):W 89 0 [.list (p.map Stp.enc)]=some [.str (Ck p),.int (Aps p)]:=by
 rw[A9.i]
 unfold Ck Aps
 cases a:C3 p with
 | false=>simp only[To p hp b,a,bI,cM,aA,bE,aS,Zt];rfl
 | true=>
  simp only[To p hp b,a,bI,cM,aA,aT,aS,aB,Zf,Zt,cD,aH]
  unfold C3 at a
  simp only[aJ,decide_eq_true_eq,aY]at a
  have:=Acf p a.1 a.2 p.length 0 Am (by omega) (bJ _)
  rw[Iw]at this
  exact this
end Go.CT.Sch
namespace Go.CT.Sch
open Go.Proofs
def Au:Val:=⟨0,0,Am,[],[]⟩
def Ja (o:Option Val):List IV:= [.int (o.getD Au).k,.int (o.getD Au).n,.str (o.getD Au).s,.list ((o.getD Au).l.map bR),.list ((o.getD Au).f.map bC),.bool o.isSome]
theorem Tt {n b:Nat}(a:n<=1099511627776)(c:b<=127):n * b<=Bc:=by
 have:n * b<=1099511627776 * 127:=aW a c
 unfold Bc;omega
theorem Wu {α:Type}(l:List α){i:Nat}(h:i<l.length):l.take i++ [l[i]]=l.take (i+1):=by
 simp_all
theorem Xi (v:Val)(j:Hd 1099511627776 v)(m o q b c d e:IV)(r: ∀p∈v.f,W 33 0 [p.2.enc]=some p.2.Gg): ∀ (n i:Nat),i+n=v.f.length->
  W 33 2 [.int i,v.enc,m,o,q,b,c,d,e,.list ((v.f.take i).map bC)]=some [b,c,d,e,.list (v.f.map bC)]
 | 0,i,h=>by
  rw[A4.g]
  simp_all
 | n+1,i,h=>by
  have a:i<v.f.length:=by omega
  have u:=j.Pp
  have t:=Be (i:=i) (by omega)
  have:=Xi v j m o q b c d e r n (i+1) (by omega)
  have g:((v.f.take i).length +1) * 96<=Bc:=Tt (by grind) (by omega)
  rw[A4.g]
  simp only[cX,aA,cD,aH,bD,Ao,a,Zd,aS,Zt,cE,aF,aE,aM,aC a,aI,dF,dL,r _ (aL a),eP,gT,eV,Fld.C9,fX,fR,aP,g,bQ,t]
  rw[<-Wu v.f a,cW]at this
  exact this
theorem Zo (v:Val)(o:Hd 1099511627776 v)(b c d e g j:IV)(q: ∀x∈v.l,W 33 0 [x.enc]=some x.Gg): ∀ (n i:Nat),i+n=v.l.length->
  W 33 1 [.int i,v.enc,b,c,d,e,g,j,.list ((v.l.take i).map bR)]=W 33 2 [.int 0,v.enc,b,c,d,e,g,j,.list (v.l.map bR),.list []]
 | 0,i,h=>by
  rw[A4.f]
  simp_all
 | n+1,i,h=>by
  have a:i<v.l.length:=by omega
  have t:=o.We
  have r:=Be (i:=i) (by omega)
  have:=Zo v o b c d e g j q n (i+1) (by omega)
  have m:((v.l.take i).length +1) * 80<=Bc:=Tt (by grind) (by omega)
  rw[A4.f]
  simp only[dE,aA,cD,aH,bD,Ao,a,Zd,aS,Zt,cE,aF,aE,aM,aC a,aI,q _ (aL a),eP,gT,eV,hZ,fX,fR,aP,m,bQ,r]
  rw[<-Wu v.l a,cW]at this
  exact this
theorem Avf: ∀v:Val,Hd 1099511627776 v->W 33 0 [v.enc]=some v.Gg:=by
 refine eJ λv b c a=>?_
 have d:=Zo v a (.int 0) (.int 0) (.str ⟨#[]⟩) (.int v.k) (.int v.n) (.str v.s) (λx e=>b x e (a.Kk e)) v.l.length 0 (by omega)
 have g:=Xi v a (.int 0) (.int 0) (.str ⟨#[]⟩) (.int v.k) (.int v.n) (.str v.s) (.list (v.l.map bR)) (λp hp=>c p hp (a.J7 hp)) v.f.length 0 (by omega)
 simp only[fK,bO,aK]at d g
 rw[A4.e]
 simp only[dR,gN,gG,aA]
 rw[d,g,eP]
theorem Acq (v:Val)(nm:ByteArray)(d:Hd 1099511627776 v)(e g j:IV): ∀ (n i:Nat),i+n=v.f.length->
  W 32 1 [.str nm,.int i,v.enc,e,g,j]=some (Ja (((v.f.drop i).find? λp=>decide (p.1=nm)).map (·.2)))
 | 0,i,h=>by
  rw[A4.d]
  have m: ¬ i<v.f.length:=by omega
  simp[m,aG (bK m),Ja,Au,Am]
 | n+1,i,h=>by
  have b:i<v.f.length:=by omega
  have q:=d.Pp
  have o:=Be (i:=i) (by omega)
  have:=Acq v nm d e g j n (i+1) (by omega)
  have a:=aL b
  rw[A4.d,aD b]
  simp only[cX,aA,cD,aH,bD,Ao,b,Zd,aS,Zt,cE,aF,aE,aM,aC b,aI,dF,dL,fW,Avf v.f[i].2 (d.J7 a),eP,gT,bQ,o,this,bY]
  by_cases c:v.f[i].1 =nm
  ·simp[c,Ja]
  grind
theorem Axw (v:Val)(nm:ByteArray)(a:Hd 1099511627776 v):W 32 0 [v.enc,.str nm]=some (Ja (v.get nm)):=by
 rw[A4.c]
 unfold gC
 have:=Acq v nm a (.int 0) (.int 0) (.str ⟨#[]⟩) v.f.length 0 (by omega)
 simp only[aQ,aK]at this
 simp only[dR,aA,aV,aS,this]
 by_cases c:v.k=5<;>simp[c,Ja,Au,Am]
def Ei (v:Val)(nm:ByteArray):List (ByteArray × Val):=if v.k=5 then v.f.filter (λp=> !decide (p.1=nm)) else[]
def T5 (p:ByteArray × Val):Bool->List (ByteArray × Val)->List (ByteArray × Val)
 | done,[]=>if done then[]else[p]
 | done,x::xs=>(if !done && !blt x.1 p.1 then[p]else[])++(if x.1=p.1 then[]else[x])++T5 p (done|| !blt x.1 p.1) xs
theorem Adl (p:ByteArray × Val): ∀ (l:List (ByteArray × Val)) (d:Bool),(T5 p d l).length <=l.length+1
 | [],d=>by cases d<;>simp[T5]
 | x::xs,true=>by
  simp only[T5,aT,cJ,aB,Zf,bF,dU,aO]
  have:(T5 p true xs).length <=xs.length:=by
   have key: ∀l,(T5 p true l).length <=l.length:=by
    intro l
    induction l with
    | nil=>simp[T5]
    | cons y ys a=>
     simp only[T5,aT,cJ,aB,Zf,bF,dU,aO,aZ]
     grind
   exact key xs
  grind
 | x::xs,false=>by
  have b:=Adl p xs true
  have c:=Adl p xs false
  have key: ∀l,(T5 p true l).length <=l.length:=by
   intro l
   induction l with
   | nil=>simp[T5]
   | cons y ys a=>
    simp only[T5,aT,cJ,aB,Zf,bF,dU,aO,aZ]
    grind
  have e:=key xs
  simp only[T5,bE,bN,eB,aO,aZ]
  grind
def Aau (l:List (ByteArray × Val)):List (ByteArray × Val):=l.foldl (λacc p=>T5 p false acc) []
theorem Kl (q:ByteArray × Val->Bool): ∀l:List (ByteArray × Val),Cn (l.filter q)<=Cn l
 | []=>by simp
 | p::l=>by
  have:=Kl q l
  rw[bX]
  split
  ·rw[B7,B7];omega
  ·rw[B7];omega
def Df (v:Val)(nm:ByteArray)(x:Val):Val:=⟨5,0,Am,[],Aau (Ei v nm++ [(nm,x)])⟩
theorem Yu {N:Nat}{v:Val}(h:Hd N v)(nm:ByteArray):Aqv N (Ei v nm):=by
 unfold Ei
 split
 ·exact⟨dC (cY _ _) h.Pp,λp hp=>h.J7 (cG.1 hp).1⟩
 ·exact⟨dQ _,by simp⟩
theorem Ata (v:Val)(nm:ByteArray)(a:v.Ap<=1099511627776):W 32 0 [v.enc,.str nm]=some (Ja (v.get nm)):=Axw v nm (Dd v (by omega))
end Go.CT.Sch
namespace Go.CT.Sch
open Go.Proofs
theorem Acj (v:Val)(r:v.Ap<=1099511627776)(e: ∀p∈v.f,W 18 0 [p.2.enc]=some [.int p.2.size]): ∀ (n i c:Nat),i+n=v.f.length->c<=1099511627776->
  W 18 2 [.int c,.int i,v.enc]=some [.int ((c+B4 (v.f.drop i):Nat):Int)]
 | 0,i,c,h,o=>by
  rw[A2.i]
  have d: ¬ i<v.f.length:=by omega
  simp[d,aG (bK d),B4]
 | n+1,i,c,h,o=>by
  have a:i<v.f.length:=by omega
  have t:=v.Bd
  have g:=Be (i:=i) (by omega)
  have u:=Uw (aL a)
  have j:=v.Gb
  rw[v.size_eq]at j
  have hd:B4 (v.f.drop i)=v.f[i].2.size +B4 (v.f.drop (i+1)):=by rw[aD a];rfl
  have b:IntKind.i64.wrap ((c:Int)+(v.f[i].2.size :Nat))=((c+v.f[i].2.size :Nat):Int):=by rw[wrap64 (by omega) (by omega)];rfl
  rw[A2.i]
  simp only[cX,aA,cD,aH,bD,Ao,a,Zd,aS,Zt,cE,aF,aE,aM,aC a,aI,dL,e _ (aL a),bI,bQ,g,b]
  by_cases m:c+v.f[i].2.size <=1099511627776
  ·rw[Acj v r e n (i+1) _ (by omega) m,hd,dH]
  ·-- larger sums: only the bound differs
   have key: ∀ (n i c:Nat),i+n=v.f.length->c+B4 (v.f.drop i)<=4611686018427387904->W 18 2 [.int c,.int i,v.enc]=some [.int ((c+B4 (v.f.drop i):Nat):Int)]:=by
    intro n
    induction n with
    | zero=>
     intro i c h _
     rw[A2.i]
     have d: ¬ i<v.f.length:=by omega
     simp[d,aG (bK d),B4]
    | succ n ihn=>
     intro i c h o
     have a:i<v.f.length:=by omega
     have g:=Be (i:=i) (by omega)
     have hd:B4 (v.f.drop i)=v.f[i].2.size +B4 (v.f.drop (i+1)):=by rw[aD a];rfl
     have b:IntKind.i64.wrap ((c:Int)+(v.f[i].2.size :Nat))=((c+v.f[i].2.size :Nat):Int):=by rw[wrap64 (by omega) (by omega)];rfl
     rw[A2.i]
     simp only[cX,aA,cD,aH,bD,Ao,a,Zd,aS,Zt,cE,aF,aE,aM,aC a,aI,dL,e _ (aL a),bI,bQ,g,b]
     rw[ihn (i+1) _ (by omega) (by omega),hd,dH]
   have q:B4 (v.f.drop (i+1))<=B4 v.f:=by
    have:=fG (i+1) v.f
    have w:=Og (v.f.take (i+1)) (v.f.drop (i+1))
    grind
   rw[key n (i+1) _ (by omega) (by omega),hd,dH]
theorem Ack (v:Val)(g:v.Ap<=1099511627776)(d: ∀x∈v.l,W 18 0 [x.enc]=some [.int x.size]): ∀ (n i c:Nat),i+n=v.l.length->c+Cv (v.l.drop i)<=4611686018427387904->
  W 18 1 [.int c,.int i,v.enc]=W 18 2 [.int ((c+Cv (v.l.drop i):Nat):Int),.int 0,v.enc]
 | 0,i,c,h,j=>by
  rw[A2.h]
  have e: ¬ i<v.l.length:=by omega
  simp[e,aG (bK e),Cv]
 | n+1,i,c,h,j=>by
  have a:i<v.l.length:=by omega
  have o:=v.Bu
  have m:=Be (i:=i) (by omega)
  have hd:Cv (v.l.drop i)=v.l[i].size +Cv (v.l.drop (i+1)):=by rw[aD a];rfl
  have b:IntKind.i64.wrap ((c:Int)+(v.l[i].size :Nat))=((c+v.l[i].size :Nat):Int):=by rw[wrap64 (by omega) (by omega)];rfl
  rw[A2.h]
  simp only[dE,aA,cD,aH,bD,Ao,a,Zd,aS,Zt,cE,aF,aE,aM,aC a,aI,d _ (aL a),bI,bQ,m,b]
  rw[Ack v g d n (i+1) _ (by omega) (by omega),hd,dH]
theorem Ay5: ∀v:Val,v.Ap<=1099511627776->W 18 0 [v.enc]=some [.int v.size]:=by
 refine eJ λv a b c=>?_
 have e:=v.Gb
 have i:=v.size_eq
 have g:=Ack v c (λx d=>a x d (by have:=eO d;omega)) v.l.length 0 1 (by omega) (by grind)
 have h:=Acj v c (λp hp=>b p hp (by have:=eE hp;omega)) v.f.length 0 (1+Cv v.l) (by omega) (by omega)
 simp only[aQ,aK]at g h
 rw[A2.g]
 grind
theorem T0 (v:Val)(a:v.Ap<=1099511627776):W 15 0 [v.enc]=some [.bool v.valid]:=by
 rw[A2.a]
 have b:=Z2 12 v (by omega) a
 have c:=Ay5 v a
 simp only[aK]at b
 simp only[b,c,bI,aS,eW,aA,fO]
 have:decide ((v.size:Int)<=600)=decide (v.size<=600):=by simp;omega
 grind
theorem Zu (v:Val)(t:v.Ap<=1099511627776)(o: ∀p∈v.f,∀c d:Int,c<=100000-> -1099511627776<=d->d<=100000-> ∃r:Int,W 4 0 [p.2.enc,.int c,.int d]=some [.int r]/\r<=100000)(d:Int)(hd: -1000000000000<=d/\d<=100000): ∀ (n i:Nat) (c:Int),i+n=v.f.length->c<=100000->
  ∃r:Int,W 4 2 [.int c,.int d,.int i,v.enc]=some [.int r]/\r<=100000
 | 0,i,c,h,e=>by
  rw[A0.o]
  simp_all
 | n+1,i,c,h,e=>by
  have b:i<v.f.length:=by omega
  have z:=v.Bd
  have u:=Be (i:=i) (by omega)
  have g:IntKind.i64.wrap (d - 1)=d - 1:=wrap64 (by omega) (by omega)
  obtain⟨r,w,j⟩:=o _ (aL b) c (d - 1) e (by omega) (by omega)
  obtain⟨x,m,a⟩:=Zu v t o d hd n (i+1) r (by omega) j
  rw[A0.o]
  by_cases q:0<=c
  ·by_cases y:(1000:Int)<v.f[i].1.size
   ·simp_all
   ·exact⟨x,by simp only[cX,aA,cD,aH,bD,Ao,b,Zd,aS,Zt,fP,q,cE,aF,aE,aM,aC b,aI,dF,cT,cR,y,Ze,aB,Zf,dL,fQ,g,w,bI,bQ,u,m],a⟩
  ·exact⟨c,by simp[b,q],e⟩
theorem Y0 (v:Val)(m:v.Ap<=1099511627776)(g: ∀x∈v.l,∀c d:Int,c<=100000-> -1099511627776<=d->d<=100000-> ∃r:Int,W 4 0 [x.enc,.int c,.int d]=some [.int r]/\r<=100000)(d:Int)(hd: -1000000000000<=d/\d<=100000): ∀ (n i:Nat) (c:Int),i+n=v.l.length->c<=100000->
  ∃r:Int,W 4 1 [.int c,.int d,.int i,v.enc]=W 4 2 [.int r,.int d,.int 0,v.enc]/\r<=100000
 | 0,i,c,h,b=>by
  rw[A0.n]
  have o: ¬ i<v.l.length:=by omega
  exact⟨c,by simp[o],b⟩
 | n+1,i,c,h,b=>by
  have j:i<v.l.length:=by omega
  have y:=v.Bu
  have z:=Be (i:=i) (by omega)
  have q:IntKind.i64.wrap (d - 1)=d - 1:=wrap64 (by omega) (by omega)
  obtain⟨r,A,e⟩:=g _ (aL j) c (d - 1) b (by omega) (by omega)
  obtain⟨t,u,a⟩:=Y0 v m g d hd n (i+1) r (by omega) e
  rw[A0.n]
  by_cases w:0<=c
  ·exact⟨t,by simp_all,a⟩
  ·exact⟨c,by simp[j,w],b⟩
theorem Av1: ∀v:Val,v.Ap<=1099511627776-> ∀c d:Int,c<=100000-> -1099511627776<=d->d<=100000-> ∃r:Int,W 4 0 [v.enc,.int c,.int d]=some [.int r]/\r<=100000:=by
 refine eJ λv b e h c d z hd m=>?_
 rw[A0.m]
 by_cases o:c<=0
 ·simp_all
 ·by_cases q:d<=0
  ·simp_all
  ·by_cases t:(1000:Int)<v.s.size
   ·simp_all
   ·have u:IntKind.i64.wrap (c - 1)=c - 1:=wrap64 (by omega) (by omega)
    obtain⟨r,i,w⟩:=Y0 v h (λx j=>b x j (by have:=eO j;omega)) d (by omega) v.l.length 0 (c - 1) (by omega) (by omega)
    obtain⟨y,a,g⟩:=Zu v h (λp hp=>e p hp (by have:=eE hp;omega)) d (by omega) v.f.length 0 r (by omega) w
    simp only[aK]at i a
    exact⟨y,by simp[o,q,t,u,i,a],g⟩
theorem K8 (a b:Bool):W 215 0 [.bool a,.bool b]=some [.int (if a then -1 else if b then 1 else 0)]:=by
 rw[A22.f];cases a<;>cases b<;>rfl
theorem Aln (a b:Int):(if decide (a<b)=true then(-1:Int) else if decide (b<a)=true then 1 else 0)=0↔a=b:=by
 grind
theorem Avb (a b:ByteArray):(if blt a b=true then(-1:Int) else if blt b a=true then 1 else 0)=0↔a=b:=by
 rcases Ku a b with h | rfl | h
 ·simp[h];exact Ly h
 ·simp[Ed]
 ·have:=Pj h
  grind
theorem A2k (a b:Val)(r:Hd 1099511627776 a)(q:Hd 1099511627776 b)(t: ∀p∈a.f,∀y:Val,Hd 1099511627776 y-> ∃c:Int,W 214 0 [p.2.enc,y.enc]=some [.int c]/\(c=0↔p.2=y)): ∀ (n i:Nat) (c:Int),i+n=a.f.length->i<=b.f.length->
  ∃c':Int,W 214 5 [.int c,.int i,a.enc,b.enc]=some [.int c']/\(c'=0↔c=0/\a.f.drop i=b.f.drop i)
 | n,i,c,h,z=>by
  have A:=r.Pp
  have B:=q.Pp
  rw[A22.d]
  by_cases C:c=0
  ·subst C
   by_cases d:i<a.f.length
   ·by_cases e:i<b.f.length
    ·obtain⟨m,rfl⟩: ∃m,n=m+1:=⟨n - 1,by omega⟩
     have u:=Be (i:=i) (by omega)
     have j:=aL e
     obtain⟨F,G,L⟩:=t _ (aL d) b.f[i].2 (q.J7 j)
     have H:=Avb a.f[i].1 b.f[i].1
     have hd:(a.f.drop i=b.f.drop i)↔(a.f[i].1 =b.f[i].1 /\a.f[i].2 =b.f[i].2 /\a.f.drop (i+1)=b.f.drop (i+1)):=by
      rw[aD d,aD e]
      grind
     simp only[cX,aA,cD,aH,bD,Ao,d,e,Zd,aS,Zt,aV,cE,aF,aE,aM,aC d,aC e,aI,dF,dL,Asu,Atc,K8,bI,hd]
     generalize (if blt a.f[i].1 b.f[i].1 =true then(-1:Int) else if blt b.f[i].1 a.f[i].1 =true then 1 else 0)=o at H
     by_cases w:o=0
     ·obtain⟨c',r1,r2⟩:=A2k a b r q t m (i+1) F (by omega) (by omega)
      refine⟨c',by simp only[w,Zd,Zt,G,bI,A22.e,bQ,u,aA,r1],?_⟩
      grind
     ·obtain⟨c',r1,r2⟩:=A2k a b r q t m (i+1) o (by omega) (by omega)
      refine⟨c',by simp only[w,Ze,aB,Zf,A22.e,bQ,u,aA,r1],?_⟩
      grind
    ·have I:i=b.f.length:=by omega
     have J: ¬ a.f.length=b.f.length:=by omega
     refine⟨1,?_,by
      simp_all⟩
     have K: ¬ (a.f.length:Int)<b.f.length:=by omega
     have x:(b.f.length:Int)<a.f.length:=by omega
     simp[d,e,K,x,K8]
   ·have I:i=a.f.length:=by omega
    refine⟨_,by simp only[cX,aA,cD,aH,bD,Ao,d,Ze,aS,aB,Zf,aV,Zd,Zt,K8,bI,cR];rfl,?_⟩
    have e1:a.f.drop i= []:=aG (by omega)
    rw[e1]
    by_cases g:a.f.length=b.f.length
    ·grind
    ·have x:a.f.length<b.f.length:=by omega
     simp_all
  simp_all
theorem A6c (a b:Val)(q:Hd 1099511627776 a)(j:Hd 1099511627776 b)(r: ∀x∈a.l,∀y:Val,Hd 1099511627776 y-> ∃c:Int,W 214 0 [x.enc,y.enc]=some [.int c]/\(c=0↔x=y)): ∀ (n i:Nat) (c:Int),i+n=a.l.length->i<=b.l.length->
  ∃c':Int,W 214 3 [.int c,.int i,a.enc,b.enc]=W 214 4 [.int c',a.enc,b.enc]/\(c'=0↔c=0/\a.l.drop i=b.l.drop i)
 | n,i,c,h,w=>by
  have z:=q.We
  have A:=j.We
  rw[A22.b]
  by_cases t:c=0
  ·subst t
   by_cases d:i<a.l.length
   ·by_cases o:i<b.l.length
    ·obtain⟨m,rfl⟩: ∃m,n=m+1:=⟨n - 1,by omega⟩
     have F:=Be (i:=i) (by omega)
     obtain⟨B,G,H⟩:=r _ (aL d) b.l[i] (j.Kk (aL o))
     have hd:(a.l.drop i=b.l.drop i)↔(a.l[i]=b.l[i]/\a.l.drop (i+1)=b.l.drop (i+1)):=by
      rw[aD d,aD o]
      grind
     obtain⟨c',r1,r2⟩:=A6c a b q j r m (i+1) B (by omega) (by omega)
     refine⟨c',by simp_all,?_⟩
     grind
    ·refine⟨1,?_,by
      have: ¬ a.l.drop i=b.l.drop i:=λe=>by
       have:=congrArg cZ e
       grind
      simp[this]⟩
     have C: ¬ (a.l.length:Int)<b.l.length:=by omega
     have u:(b.l.length:Int)<a.l.length:=by omega
     simp[d,o,C,u,K8]
   ·have I:i=a.l.length:=by omega
    refine⟨_,by simp only[dE,aA,cD,aH,bD,Ao,d,Ze,aS,aB,Zf,aV,Zd,Zt,K8,bI,cR];rfl,?_⟩
    have e1:a.l.drop i= []:=aG (by omega)
    rw[e1]
    by_cases g:a.l.length=b.l.length
    ·grind
    ·have u:a.l.length<b.l.length:=by omega
     simp_all
  ·refine⟨c,?_,by simp[t]⟩
   simp_all
theorem Axs: ∀a:Val,Hd 1099511627776 a-> ∀b:Val,Hd 1099511627776 b-> ∃c:Int,W 214 0 [a.enc,b.enc]=some [.int c]/\(c=0↔a=b):=by
 refine eJ λa h i e b j=>?_
 have m:=λc=>A6c a b e j (λx q=>h x q (e.Kk q)) a.l.length 0 c (by omega) (dQ _)
 have r:=λc=>A2k a b e j (λp hp=>i p hp (e.J7 hp)) a.f.length 0 c (by omega) (dQ _)
 simp only[aQ,aK]at m r
 have t:a=b↔a.k=b.k/\a.n=b.n/\a.s=b.s/\a.l=b.l/\a.f=b.f:=by
  cases a;cases b;simp
 -- from the lists on
 have rest: ∀c:Int,∃c':Int,W 214 2 [.int c,a.enc,b.enc]=some [.int c']/\(c'=0↔c=0/\a.l=b.l/\a.f=b.f):=by
  intro c
  obtain⟨u,d,g⟩:=m c
  obtain⟨w,r1,r2⟩:=r u
  refine⟨w,by rw[A22.a,d,A22.c,r1],by grind⟩
 have text: ∀c:Int,∃c':Int,W 214 1 [.int c,a.enc,b.enc]=some [.int c']/\(c'=0↔c=0/\a.s=b.s/\a.l=b.l/\a.f=b.f):=by
  intro c
  rw[A21.p]
  by_cases y:c=0
  ·have C:=Avb a.s b.s
   obtain⟨c',d,g⟩:=rest (if blt a.s b.s=true then(-1:Int) else if blt b.s a.s=true then 1 else 0)
   refine⟨c',by simp only[aV,y,Zd,aA,aS,Zt,gG,Asu,Atc,K8,bI,d],?_⟩
   grind
  ·obtain⟨c',d,g⟩:=rest c
   simp_all
 rw[A21.o]
 have z:=Aln a.k b.k
 have A:=Aln a.n b.n
 simp only[dR,gN,aA,bD,cR,K8,bI,aV,aS]
 generalize (if decide (a.k<b.k)=true then(-1:Int) else if decide (b.k<a.k)=true then 1 else 0)=o at z
 generalize (if decide (a.n<b.n)=true then(-1:Int) else if decide (b.n<a.n)=true then 1 else 0)=B at A
 by_cases F:o=0
 ·obtain⟨c',d,g⟩:=text B
  grind
 ·obtain⟨c',d,g⟩:=text o
  grind
open Classical in
theorem Arj (a b:Val)(ha:Hd 1099511627776 a)(hb:Hd 1099511627776 b):W 213 0 [a.enc,b.enc]=some [.bool (decide (a=b))]:=by
 obtain⟨c,h1,h2⟩:=Axs a ha b hb
 rw[A21.n]
 simp_all
open Classical in
theorem Ag6 (a b:Val)(ha:a.Ap<=1099511627776)(hb:b.Ap<=1099511627776):W 213 0 [a.enc,b.enc]=some [.bool (decide (a=b))]:=Arj a b (Dd a (by omega)) (Dd b (by omega))
end Go.CT.Sch
namespace Go.CT.Sch
open Go.Proofs
def Axl (x y:ByteArray × Val):Bool:=blt x.1 y.1
theorem cmpB: ∀ (a b:List UInt8),decide (Lib.compareBytes a b<0)=Op.bytesLess a b
 | [],[]=>rfl
 | [],_::_=>by simp[Lib.compareBytes,Op.bytesLess]
 | _::_,[]=>by simp[Lib.compareBytes,Op.bytesLess]
 | a::x,b::y=>by
  simp only[Lib.compareBytes,Op.bytesLess]
  by_cases c:a<b
  ·simp[c]
  ·by_cases d:b<a
   ·have: ¬ a=b:=λe=>by subst e;exact c d
    simp[c,d,this]
   ·have:a=b:=by
     have g: ¬ a.toNat<b.toNat:=λh=>c (fH.2 h)
     have i: ¬ b.toNat<a.toNat:=λh=>d (fH.2 h)
     exact fF.1 (by omega)
    subst this
    simp[c,cmpB x y]
theorem fcmp (x y:ByteArray × Val): ∃c:Int,W 77 0 [bC x,bC y]=some [.int c]/\(decide (c<0)=Axl x y):=by
 refine⟨Lib.compareBytes x.1.data.toList y.1.data.toList,?_,cmpB _ _⟩
 rw[A8.n]
 simp[A8.o,A8.p,e_80,O.Qy]
theorem ford:Srt.Ord Axl where
 irr x:=Ed _
 tr x y z h k:=G7 h k
 neg x y z h:=by
  rcases Ku x.1 y.1 with a | a | a
  ·exact .inl a
  ·right;unfold Axl at h ⊢;rw[<-a];exact h
  ·right;exact G7 a h
noncomputable def feqs:Srt.Eqs bC Axl 6 true where
 S b xs:=W 74 b xs
 B b xs:=W 75 b xs
 I b xs:=W 76 b xs
 M b xs:=W 81 b xs
 R b xs:=W 82 b xs
 X b xs:=W 83 b xs
 C xs:=W 77 0 xs
 cmp:=fcmp
 s0:=by intros;exact Vg rfl (by kernel_rfl)
 b0:=by intros;exact Vg rfl (by kernel_rfl)
 b1:=by intros;exact Vg rfl (by kernel_rfl)
 b2:=by intros;exact Vg rfl (by kernel_rfl)
 b3:=by intros;exact Vg rfl (by kernel_rfl)
 b4:=by intros;exact Vg rfl (by kernel_rfl)
 i0:=by intros;exact Vg rfl (by kernel_rfl)
 i1:=by intros;exact Vg rfl (by kernel_rfl)
 i2:=by intros;exact Vg rfl (by kernel_rfl)
 x0:=by intros;exact Vg rfl (by kernel_rfl)
 x1:=by intros;exact Vg rfl (by kernel_rfl)
 r0:=by intros;exact Vg rfl (by kernel_rfl)
 r1:=by intros;exact Vg rfl (by kernel_rfl)
 r2:=by intros;exact Vg rfl (by kernel_rfl)
 m0:=by intros;exact Vg rfl (by kernel_rfl)
 m1:=by intros;exact Vg rfl (by kernel_rfl)
 m2:=by intros;exact Vg rfl (by kernel_rfl)
 m3:=by intros;exact Vg rfl (by kernel_rfl)
 m4:=by intros;exact Vg rfl (by kernel_rfl)
 m5:=by intros;exact Vg rfl (by kernel_rfl)
 m6:=by intros;exact Vg rfl (by kernel_rfl)
 m7:=by intros;exact Vg rfl (by kernel_rfl)
 m8:=by intros;exact Vg rfl (by kernel_rfl)
 m9:=by intros;exact Vg rfl (by kernel_rfl)
 m10:=by intros;exact Vg rfl (by kernel_rfl)
 m11:=by intros;exact Vg rfl (by kernel_rfl)
end Go.CT.Sch
namespace Go.CT.Sch
open Go.Proofs
theorem D2 {l:List IV}(h:l.length<=1073741824):O.Ir [.list l]=some [.list l]:=if_pos h
theorem Vq (v:Val)(j:Hd 1073741824 v)(c d e m o q g:IV)(r: ∀p∈v.f,W 84 0 [p.2.enc]=some p.2.Gg): ∀ (n i:Nat),i+n=v.f.length->
  W 84 2 [.int v.f.length,.int i,c,d,e,m,o,q,.list (v.f.map bC),g]=some [c,d,e,g,.list (v.f.map bC)]
 | 0,i,h=>by
  rw[A9.c]
  have t: ¬ i<v.f.length:=by omega
  simp only[bD,Ao,t,Ze,aA,aS,aB,Zf]
 | n+1,i,h=>by
  have b:i<v.f.length:=by omega
  have y:=j.Pp
  have u:=Be (i:=i) (by omega)
  have:=Vq v j c d e m o q g r n (i+1) (by omega)
  have a:O.setAt 1 5 true false (.list (v.f.map bC)) (.int i) v.f[i].2.enc =some (.list (v.f.map bC)):=by
   have w:(v.f.map bC)[i]?=some (bC v.f[i]):=by rw[aM,aC b];rfl
   have z:(v.f.map bC).set i (bC v.f[i])=v.f.map bC:=by
    rw[<-List.map_set,fI]
   unfold O.setAt
   simp only[dB,aF,Zt,aE,w,aB,Zf]
   rw[v.f[i].2.E0]
   simp only[bC]
   have x:v.f[i].2.Gg.length =5:=rfl
   simp only[x,Zt]
   congr 2
  rw[A9.c]
  simp only[bD,Ao,b,Zd,aA,aS,Zt,cE,aF,aE,aM,aC b,aI,dL,r _ (aL b),eP,gT,eV,hZ,a,bQ,u,this]
theorem V8 (v:Val)(c:Hd 1073741824 v)(d e g j m o:IV)(q: ∀x∈v.l,W 84 0 [x.enc]=some x.Gg): ∀ (n i:Nat),i+n=v.l.length->
  W 84 1 [.int v.l.length,.int i,d,e,g,.list (v.f.map bC),j,m,o,.list (v.l.map bR)]=W 84 2 [.int v.f.length,.int (0:Nat),d,e,g,j,m,o,.list (v.f.map bC),.list (v.l.map bR)]
 | 0,i,h=>by
  rw[A9.b]
  have r: ¬ i<v.l.length:=by omega
  have w:=c.Pp
  have t:(v.f.map bC).length <=1073741824:=by rw[aH];omega
  simp only[bD,Ao,r,Ze,aA,aS,aB,Zf,A63,D2 t,bI,cD,aH]
  rfl
 | n+1,i,h=>by
  have b:i<v.l.length:=by omega
  have y:=c.We
  have u:=Be (i:=i) (by omega)
  have:=V8 v c d e g j m o q n (i+1) (by omega)
  have a:O.setAt 0 5 true true (.list (v.l.map bR)) (.int i) v.l[i].enc =some (.list (v.l.map bR)):=by
   rw[show(IV.list (v.l.map bR))=eA bR v.l from rfl,Srt.Aqi bR b,fI]
  rw[A9.b]
  simp only[bD,Ao,b,Zd,aA,aS,Zt,cE,aF,aE,aM,aC b,aI,q _ (aL b),eP,gT,eV,hZ,a,bQ,u,this]
theorem U3: ∀v:Val,Hd 1073741824 v->W 84 0 [v.enc]=some v.Gg:=by
 refine eJ λv b c a=>?_
 have d:=V8 v a (.int v.k) (.int v.n) (.str v.s) (.int 0) (.int 0) (.str ⟨#[]⟩) (λx e=>b x e (a.Kk e)) v.l.length 0 (by omega)
 have g:=Vq v a (.int v.k) (.int v.n) (.str v.s) (.int 0) (.int 0) (.str ⟨#[]⟩) (.list (v.l.map bR)) (λp hp=>c p hp (a.J7 hp)) v.f.length 0 (by omega)
 rw[g]at d
 rw[A9.a]
 have i:=a.We
 have h:(v.l.map bR).length <=1073741824:=by rw[aH];omega
 simp only[dR,gN,gG,dE,cX,aA,e_85,D2 h,bI,cD,aH]
 rw[eP]
 exact d
theorem M8 (l:List Val)(b:l.length<=1073741824)(a: ∀x∈l,Hd 1073741824 x):W 130 0 [.list (l.map bR)]=some (Val.Gg ⟨4,0,Am,l,[]⟩):=by
 rw[A13.f]
 have h:=U3 ⟨4,0,Am,l,[]⟩ (.mk _ b (dQ _) a (by simp))
 have e:IV.agg [.int 4,.int 0,.str ⟨#[]⟩,.list (l.map bR),.list []]=bR ⟨4,0,Am,l,[]⟩:=by
  rw[<-Val.fold];rfl
 simp only[eV,aA,e,h,eP,gT]
theorem Afh (l:List Val)(b:Dv l<=4294967200):W 130 0 [.list (l.map bR)]=some (Val.Gg ⟨4,0,Am,l,[]⟩):=
 M8 l (by have:=Nl l;omega) λx a=>Dd x (by
  have:x.Ap<=Dv l:=Gv (fS a)
  omega)
theorem Ac2 (v:Val)(nm:ByteArray)(d:Hd 1073741824 v)(e g j:IV): ∀ (n i:Nat),i+n=v.f.length->
  W 111 1 [.str nm,.list (v.f.map bC),.int v.f.length,.int i,e,g,j]=some (Ja (((v.f.drop i).find? λp=>decide (p.1=nm)).map (·.2)))
 | 0,i,h=>by
  rw[A11.i]
  have m: ¬ i<v.f.length:=by omega
  simp[m,aG (bK m),Ja,Au,Am]
 | n+1,i,h=>by
  have b:i<v.f.length:=by omega
  have q:=d.Pp
  have o:=Be (i:=i) (by omega)
  have:=Ac2 v nm d e g j n (i+1) (by omega)
  have a:=aL b
  rw[A11.i,aD b]
  simp only[bD,Ao,b,Zd,aA,aS,Zt,cE,aF,aE,aM,aC b,aI,dF,dL,fW,U3 v.f[i].2 (d.J7 a),eP,gT,bQ,o,this,bY]
  by_cases c:v.f[i].1 =nm
  ·simp[c,Ja]
  ·have c':decide (v.f[i].1 =nm)=false:=by simpa using c
   simp only[c,c',Ze,aB,Zf]
theorem Ay8 (v:Val)(nm:ByteArray)(a:Hd 1073741824 v):W 111 0 [v.enc,.str nm]=some (Ja (v.get nm)):=by
 rw[A11.h]
 unfold gC
 have:=Ac2 v nm a (.int 0) (.int 0) (.str ⟨#[]⟩) v.f.length 0 (by omega)
 simp only[aQ,aK]at this
 simp only[dR,cX,aA,aV,aS,cD,aH,this]
 by_cases c:v.k=5<;>simp[c,Ja,Au,Am]
end Go.CT.Sch
namespace Go.CT.Sch
open Go.Proofs
def Iy (nm:ByteArray)(p:ByteArray × Val):Bool:= !decide (p.1=nm)
def dedup:List (ByteArray × Val)->List (ByteArray × Val)
 | []=> []
 | [p]=> [p]
 | p::q::r=>if q.1=p.1 then dedup (q::r) else p::dedup (q::r)
def Ch (l:List (ByteArray × Val)):Prop:=l.Pairwise λa b=>blt a.1 b.1=true
def isName (nm:ByteArray)(p:ByteArray × Val):Bool:=decide (p.1=nm)
def look (nm:ByteArray)(l:List (ByteArray × Val)):Option (ByteArray × Val):=(l.filter (isName nm)).getLast?
theorem Y4: ∀ (l:List (ByteArray × Val)) (p:ByteArray × Val),p∈dedup l->p∈l
 | [],p,h=>h
 | [_],p,h=>h
 | a::b::r,p,h=>by
  simp only[dedup]at h
  split at h
  ·exact cO _ (Y4 (b::r) p h)
  ·rcases bH.1 h with rfl | h
   ·simp
   ·exact cO _ (Y4 (b::r) p h)
theorem Yk {x y:ByteArray}(h:blt y x=false)(b: ¬ y=x):blt x y=true:=by
 rcases Ku x y with a | a | a
 ·exact a
 ·exact absurd a.symm b
 ·rw[h]at a;cases a
theorem Ajs {x y z:ByteArray}(h:blt x y=true)(b:blt z y=false):blt x z=true:=by
 rcases Ku y z with a | a | a
 ·exact G7 h a
 ·rw[<-a];exact h
 ·rw[b]at a;cases a
theorem V0: ∀l:List (ByteArray × Val),Srt.Db Axl l->Ch (dedup l)
 | [],_=>dW
 | [_],_=>cF _ _
 | a::b::r,h=>by
  have d:=bA.1 h
  have i:=V0 (b::r) d.2
  simp only[dedup]
  split
  ·exact i
  ·next e=>
   refine bA.2 ⟨λy g=>?_,i⟩
   have c:blt a.1 b.1=true:=Yk (d.1 b (by simp)) e
   rcases bH.1 (Y4 _ _ g) with rfl | g
   ·exact c
   ·exact Ajs c ((bA.1 d.2).1 y g)
theorem P0 (nm:ByteArray)(p:ByteArray × Val)(l:List (ByteArray × Val)):look nm (p::l)=(look nm l).or (if p.1=nm then some p else none):=by
 unfold look
 rw[bX]
 by_cases c:p.1=nm
 ·rw[if_pos (by simp[isName,c]),if_pos c]
  generalize l.filter (isName nm)=m
  cases m with
  | nil=>rfl
  | cons b r=>
   rw[List.getLast?_cons_cons]
   cases h:(b::r).getLast? with
   | none=>simp at h
   | some x=>rfl
 ·rw[if_neg (by simp[isName,c]),if_neg c,gO]
theorem Ac5 (nm:ByteArray): ∀l:List (ByteArray × Val),look nm (dedup l)=look nm l
 | []=>rfl
 | [_]=>rfl
 | a::b::r=>by
  have g:=Ac5 nm (b::r)
  simp only[dedup]
  split
  ·next e=>
   rw[g,P0 nm a (b::r),P0 nm b r]
   by_cases c:b.1=nm
   ·have d:a.1=nm:=by rw[<-e];exact c
    simp only[c,d,Zt]
    cases look nm r<;>rfl
   ·have d: ¬ a.1=nm:=by rw[<-e];exact c
    simp only[d,Zf,gO]
  ·rw[P0 nm a,g,P0 nm a]
theorem Mr {l:List (ByteArray × Val)}(h:Ch l)(p:ByteArray × Val):p∈l↔look p.1 l=some p:=by
 induction l with
 | nil=>simp[look]
 | cons a l g=>
  have d:=bA.1 h
  rw[P0,bH,g d.2]
  by_cases c:a.1=p.1
  ·have i:look p.1 l=none:=by
    unfold look
    rw[List.getLast?_eq_none_iff,fA]
    intro y j b
    simp only[isName,decide_eq_true_eq]at b
    have:=d.1 y j
    rw[c,b,Ed]at this
    cases this
   simp[i,c,eq_comm]
  ·have: ¬ p=a:=λe=>c (by rw[e])
   simp[c,this]
theorem U8 {a b:List (ByteArray × Val)}(j:Ch a)(m:Ch b)(h: ∀p,p∈a↔p∈b):a=b:=by
 induction a generalizing b with
 | nil=>
  cases b with
  | nil=>rfl
  | cons y b=>have:=(h y).2 (by simp);simp at this
 | cons x a o=>
  cases b with
  | nil=>have:=(h x).1 (by simp);simp at this
  | cons y b=>
   have c:=bA.1 j
   have d:=bA.1 m
   have g:x=y:=by
    rcases bH.1 ((h x).1 (by simp)) with e | q
    ·exact e
    ·rcases bH.1 ((h y).2 (by simp)) with e | r
     ·exact e.symm
     ·have t:=d.1 x q
      have i:=c.1 y r
      rw[Pj t]at i;cases i
   subst g
   rw[o c.2 d.2]
   intro p
   have:=h p
   simp only[bH]at this
   constructor
   ·intro hp
    rcases this.1 (.inr hp) with rfl | h
    ·have:=c.1 p hp;rw[Ed]at this;cases this
    ·exact h
   ·intro hp
    rcases this.2 (.inr hp) with rfl | h
    ·have:=d.1 p hp;rw[Ed]at this;cases this
    ·exact h
theorem Pw {a b:List (ByteArray × Val)}(c:Ch a)(d:Ch b)(h: ∀nm,look nm a=look nm b):a=b:=
 U8 c d λp=>by rw[Mr c,Mr d,h]
theorem Aje (p:ByteArray × Val): ∀l,T5 p true l=l.filter (Iy p.1)
 | []=>rfl
 | x::xs=>by
  simp only[T5,aT,cJ,aB,Zf,bF,dU,Aje p xs,bX,Iy]
  by_cases c:x.1=p.1<;>simp[c]
theorem Adi (p x:ByteArray × Val)(xs:List (ByteArray × Val))(h:blt x.1 p.1=false):T5 p false (x::xs)=p::(x::xs).filter (Iy p.1):=by
 simp only[T5,h,bE,Bool.and_self,Zt,eK,Aje,bX,Iy]
 by_cases c:x.1=p.1<;>simp[c]
theorem Aeo (p x:ByteArray × Val)(xs:List (ByteArray × Val))(h:blt x.1 p.1=true):T5 p false (x::xs)=x::T5 p false xs:=by
 have a: ¬ x.1=p.1:=Ly h
 simp[T5,h,a]
theorem Ao9 (p:ByteArray × Val): ∀ (l:List (ByteArray × Val)) (y:ByteArray × Val),y∈T5 p false l->y=p\/y∈l
 | [],y,h=>by simp[T5]at h;exact .inl h
 | x::xs,y,h=>by
  cases a:blt x.1 p.1 with
  | true=>
   rw[Aeo p x xs a]at h
   rcases bH.1 h with rfl | h
   ·simp
   ·rcases Ao9 p xs y h with h | h
    ·exact .inl h
    ·exact .inr (cO _ h)
  | false=>
   rw[Adi p x xs a]at h
   rcases bH.1 h with rfl | h
   ·simp
   ·exact .inr (cG.1 h).1
theorem Zg (p:ByteArray × Val): ∀l:List (ByteArray × Val),Ch l->Ch (T5 p false l)
 | [],_=>cF _ _
 | x::xs,h=>by
  have c:=bA.1 h
  cases b:blt x.1 p.1 with
  | true=>
   rw[Aeo p x xs b]
   refine bA.2 ⟨λy a=>?_,Zg p xs c.2⟩
   rcases Ao9 p xs y a with rfl | a
   ·exact b
   ·exact c.1 y a
  | false=>
   rw[Adi p x xs b]
   refine bA.2 ⟨λy a=>?_,h.sublist List.filter_sublist⟩
   obtain⟨a,e⟩:=cG.1 a
   have d: ¬ y.1=p.1:=by simpa [Iy]using e
   refine Yk ?_ d
   rcases bH.1 a with rfl | a
   ·exact b
   ·cases g:blt y.1 p.1 with
    | false=>rfl
    | true=>have:=G7 (c.1 y a) g;rw[b]at this;cases this
theorem Aab (p:ByteArray × Val)(nm:ByteArray): ∀l:List (ByteArray × Val),(T5 p false l).filter (isName nm)=if p.1=nm then[p]else l.filter (isName nm)
 | []=>by by_cases c:p.1=nm<;>simp[T5,isName,c]
 | x::xs=>by
  cases a:blt x.1 p.1 with
  | true=>
   have b:=Ly a
   rw[Aeo p x xs a,bX,Aab p nm xs,bX]
   by_cases c:p.1=nm
   ·have: ¬ x.1=nm:=by rw[<-c];exact b
    simp[c,isName,this]
   ·simp[c]
  | false=>
   rw[Adi p x xs a,bX,List.filter_filter]
   by_cases c:p.1=nm
   ·rw[if_pos (by simp[isName,c]),if_pos c]
    congr 1
    rw[fA]
    intro y _ g
    simp[Iy,isName,c]at g
   ·rw[if_neg (by simp[isName,c]),if_neg c]
    refine List.filter_congr λy _=>?_
    by_cases d:y.1=nm
    ·have: ¬ nm=p.1:=λe=>c e.symm
     simp[Iy,isName,d,this]
    ·simp[isName,d]
theorem Yt (l:List (ByteArray × Val))(p:ByteArray × Val):Aau (l++ [p])=T5 p false (Aau l):=by
 unfold Aau;rw[List.foldl_append];rfl
theorem Abf (l:List (ByteArray × Val)): ∀n,l.length=n->Ch (Aau l)/\ ∀nm,look nm (Aau l)=look nm l:=by
 intro n
 induction n generalizing l with
 | zero=>intro h;have:=aU.1 h;subst this;exact⟨dW,λ_=>rfl⟩
 | succ n a=>
  intro h
  rcases Srt.Hp l with rfl | ⟨b,p,rfl⟩
  ·simp at h
  ·obtain⟨d,e⟩:=a b (by simpa using h)
   rw[Yt]
   refine⟨Zg p _ d,λnm=>?_⟩
   unfold look
   rw[Aab,eQ]
   by_cases c:p.1=nm
   ·simp[c,isName]
   ·have:=e nm
    unfold look at this
    simp[c,isName]at this ⊢
    exact this
theorem Ky (l:List (ByteArray × Val)):Ch (Aau l):=(Abf l _ rfl).1
theorem Ty (nm:ByteArray)(l:List (ByteArray × Val)):look nm (Aau l)=look nm l:=(Abf l _ rfl).2 nm
theorem Awg {l:List (ByteArray × Val)}(h:Ch l):Aau l=l:=Pw (Ky l) h λnm=>Ty nm l
theorem Azc {l:List (ByteArray × Val)}{p:ByteArray × Val}(h:p∈Aau l):p∈l:=by
 rw[Mr (Ky l),Ty]at h
 unfold look at h
 exact(cG.1 (List.mem_of_getLast? h)).1
theorem Ay3 (k y:ByteArray × Val):iD Axl k y=isName k.1 y:=by
 unfold iD isName Axl
 rcases Ku k.1 y.1 with h | h | h
 ·have:=Ly h
  rw[h]
  simp only[aT,cJ]
  symm;simpa using λe=>this e.symm
 ·rw[h,Ed];simp
 ·have:=Ly h
  rw[h]
  simp[this]
theorem Acr {l r:List (ByteArray × Val)}(a:Srt.Db Axl r)(b:Srt.Lp Axl l r):dedup r=Aau l:=by
 refine Pw (V0 r a) (Ky l) λnm=>?_
 rw[Ac5,Ty]
 have:=b.2 (nm,Au)
 have e:iD Axl (nm,Au)=isName nm:=funext λy=>Ay3 _ y
 rw[e]at this
 unfold look
 rw[this]
end Go.CT.Sch
namespace Go.CT.Sch
open Go.Proofs
theorem Xo (p:ByteArray × Val): ∀l,Cn (T5 p false l)<=Cn l+Cn [p]
 | []=>by simp[T5,Cq]
 | x::xs=>by
  cases a:blt x.1 p.1 with
  | true=>
   have:=Xo p xs
   rw[Aeo p x xs a,B7,B7 x xs];omega
  | false=>
   have:=Kl (Iy p.1) (x::xs)
   rw[Adi p x xs a,B7,B7 p [],Cq];omega
theorem R1 (l:List (ByteArray × Val)):Cn (Aau l)<=Cn l:=by
 have: ∀n (l:List (ByteArray × Val)),l.length=n->Cn (Aau l)<=Cn l:=by
  intro n
  induction n with
  | zero=>intro l h;have:=aU.1 h;subst this;exact bJ _
  | succ n b=>
   intro l h
   rcases Srt.Hp l with rfl | ⟨a,p,rfl⟩
   ·simp at h
   ·have c:=b a (by simpa using h)
    have d:=Xo p (Aau a)
    rw[Yt,It];omega
 exact this _ l rfl
def Azk (l:List (ByteArray × Val)):Val:=⟨5,0,Am,[],Aau l⟩
theorem Av8 (l:List (ByteArray × Val)):(Azk l).Ap <=6+Cn l:=by
 have:=R1 l
 rw[hQ]
 simp only[Azk,iE,Val.Wf,iF,Er,show Am.size=0 from rfl];omega
theorem Qz (r:List (ByteArray × Val))(w:r.length<=1099511627775)(q t u:IV): ∀ (n i:Nat) (acc:List (ByteArray × Val)),i+n=r.length->acc.length<=i->Aqv 1073741824 (acc++dedup (r.drop i))->
  W 72 1 [.int r.length,.int i,q,t,u,eA bC r,.int 5,.int 0,.str ⟨#[]⟩,.list (acc.map bC)]=some (Val.Gg ⟨5,0,Am,[],acc++dedup (r.drop i)⟩)
 | 0,i,acc,h,y,b=>by
  rw[A8.l]
  have z: ¬ i<r.length:=by omega
  have A:r.drop i= []:=aG (by omega)
  rw[A]at b ⊢
  rw[show dedup []= []from rfl,bW]at b
  have B:=U3 ⟨5,0,Am,[],acc⟩ (.mk _ (dQ _) b.1 (by simp) b.2)
  have e:IV.agg [.int 5,.int 0,.str ⟨#[]⟩,.list [],.list (acc.map bC)]=bR ⟨5,0,Am,[],acc⟩:=by
   rw[<-Val.fold];rfl
  simp only[bD,Ao,z,Ze,aA,aS,aB,Zf,eV,e,B,eP,gT,dedup,bW]
 | n+1,i,acc,h,y,b=>by
  have j:i<r.length:=by omega
  have x:=Be (i:=i) (by omega)
  have m:(acc.length+1) * 96<=Bc:=Tt (by omega) (by omega)
  have gi:=eT bC (aC j)
  rw[A8.l]
  have hd:=aD j
  by_cases c:i+1=r.length
  ·have c':((i+1:Nat):Int)=(r.length:Int):=by omega
   have e1:r.drop (i+1)= []:=aG (by omega)
   have g:=Qz r w q t u n (i+1) (acc++ [r[i]]) (by omega) (by simp;omega) (by
    rw[e1];rw[hd,e1]at b
    simpa [dedup]using b)
   simp only[e1,cW,bM,bO]at g
   rw[hd,e1]
   simp only[bD,Ao,j,Zd,aA,aS,Zt,gi,bQ,x,cS,aV,c',fX,fR,aH,aP,m,A8.m]
   rw[c']at g
   rw[g]
   simp[dedup]
  ·have o:i+1<r.length:=by omega
   have c': ¬ ((i+1:Nat):Int)=(r.length:Int):=by omega
   have gi2:=eT bC (aC o)
   have a:=aD o
   by_cases d:r[i+1].1 =r[i].1
   ·have g:=Qz r w q t u n (i+1) acc (by omega) (by omega) (by
     rw[hd,a]at b;rw[a]
     simp only[dedup,d,Zt]at b
     exact b)
    rw[a]at g
    rw[hd,a]
    simp only[bD,Ao,j,Zd,aA,aS,Zt,gi,bQ,x,cS,aV,c',Ze,aB,Zf,gi2,dF,gM,d,aT,A8.m,dedup,g]
   ·have g:=Qz r w q t u n (i+1) (acc++ [r[i]]) (by omega) (by simp;omega) (by
     rw[hd,a]at b;rw[a]
     simp only[dedup,d,Zf]at b
     simpa using b)
    rw[a]at g
    simp only[cW,bM,bO,bV,dZ]at g
    rw[hd,a]
    simp only[bD,Ao,j,Zd,aA,aS,Zt,gi,bQ,x,cS,aV,c',Ze,aB,Zf,gi2,dF,gM,d,bE,fX,fR,aH,aP,m,A8.m,dedup,g]
theorem Apb (l:List (ByteArray × Val)):(Aau l).length <=l.length:=by
 have: ∀n (l:List (ByteArray × Val)),l.length=n->(Aau l).length <=n:=by
  intro n
  induction n with
  | zero=>intro l h;have:=aU.1 h;subst this;exact bJ _
  | succ n b=>
   intro l h
   rcases Srt.Hp l with rfl | ⟨a,p,rfl⟩
   ·simp at h
   ·have c:=b a (by simpa using h)
    have d:=Adl p (Aau a) false
    rw[Yt];omega
 exact this _ l rfl
theorem Ah4 {N:Nat}{l:List (ByteArray × Val)}(h:Aqv N l):Aqv N (Aau l):=
 ⟨dC (Apb l) h.1,λp hp=>h.2 p (Azc hp)⟩
theorem Adu (l:List (ByteArray × Val))(c:Aqv 1073741824 l):W 72 0 [.list (l.map bC)]=some (Azk l).Gg :=by
 have i:=c.1
 obtain⟨r,d,a,g⟩:=Srt.sort ford feqs l (by omega)
 have h:(l.map bC).length <=1073741824:=by rw[aH];omega
 rw[A8.k]
 have b:W 74 0 [.list (l.map bC)]=some [eA bC r]:=g
 have hlen:r.length=l.length:=a.1.symm
 have e:=Qz r (by omega) (.int 0) (.int 0) (.str ⟨#[]⟩) r.length 0 [] (by omega) (by simp) (by
  rw[aQ,bF,Acr d a];exact Ah4 c)
 simp only[aQ,aK,bO,bF,Acr d a]at e
 simp only[A63,D2 h,bI,b,cS,aA]
 exact e
theorem Atz (l:List (ByteArray × Val))(a:Cn l<=4294967200):W 72 0 [.list (l.map bC)]=some (Azk l).Gg :=Adu l (Ary (by omega))
end Go.CT.Sch
namespace Go.CT.Sch
open Go.Proofs
theorem Jl {β:Type}{a b c d e g:IV}{f:IV->IV->IV->IV->IV->IV->Option β} :calls (some [a,b,c,d,e,g]) 6 f=f a b c d e g:=rfl
def Bh:Sch:=⟨0,0,0,[],Am,[],[]⟩
def T4:SFld:=⟨Am,false,false,[],Bh⟩
theorem Ns:IV.agg [.int 0,.int 0,.int 0,.list [],.str ⟨#[]⟩,.list [],.list []]=Bh.enc:=rfl
theorem Abn:IV.agg [.str ⟨#[]⟩,.bool false,.bool false,.list [],.int 0,.int 0,.int 0,.list [],.str ⟨#[]⟩,.list [],.list []]=T4.enc:=rfl
inductive SB:Sch->Prop
 | mk (s:Sch):s.it.length<=1->(s.it≠ []->s.f= [])->(s.k=4->s.it.length=1)->(∀x∈s.it,SB x)->(∀p∈s.f,SB p.s)->SB s
theorem SB.one {s:Sch}(h:SB s):s.it.length<=1:=by cases h;assumption
theorem SB.nof {s:Sch}(h:SB s)(a:s.it≠ []):s.f= []:=by cases h with | mk _ c b d e g=>exact b a
theorem SB.list {s:Sch}(h:SB s)(a:s.k=4):s.it.length=1:=by cases h with | mk _ c d b e g=>exact b a
theorem SB.I4 {s x:Sch}(h:SB s)(a:x∈s.it):SB x:=by cases h with | mk _ c d e b g=>exact b x a
theorem SB.J7 {s:Sch}{p:SFld}(h:SB s)(a:p∈s.f):SB p.s:=by cases h with | mk _ c d e g b=>exact b p a
def Du (s:Sch)(nm:ByteArray):Option Sch:=match s.it with | []=>(s.fld nm).map (·.s) | t::_=>some t
theorem Adj {s:Sch}{nm:ByteArray}{p:SFld}(h:s.fld nm=some p):p∈s.f/\p.nm=nm:=
 ⟨cL h,by simpa using gJ h⟩
theorem Nd {s t:Sch}{nm:ByteArray}(h:Du s nm=some t):t∈s.it\/ ∃p∈s.f,p.nm=nm/\p.s=t:=by
 unfold Du at h
 split at h
 ·right
  rw[fB]at h
  obtain⟨p,hp,rfl⟩:=h
  exact⟨p,(Adj hp).1,(Adj hp).2,rfl⟩
 ·rename_i a r e
  cases h
  left;rw[e];simp
theorem SB.sub {s t:Sch}{nm:ByteArray}(a:SB s)(h:Du s nm=some t):SB t:=by
 rcases Nd h with h | ⟨p,hp,_,rfl⟩
 ·exact a.I4 h
 ·exact a.J7 hp
theorem J0 {s t:Sch}{nm:ByteArray}(h:Du s nm=some t):t.Ap<s.Ap:=by
 rcases Nd h with h | ⟨p,hp,_,rfl⟩
 ·exact fL h
 ·have:=fY hp;omega
def Jc (p:List Stp)(c:Int):IV:= .agg [.str (Ck p),.int c]
def Cd (nm:ByteArray):Stp:=⟨1,nm,0,Am⟩
def isKey (v:Val)(nm:ByteArray):Bool:=(v.get nm).isSome &&decide (((v.get nm).getD Au).k =3)
def Cw (v:Val)(nm:ByteArray):ByteArray:=((v.get nm).getD Au).s
def Ef (v:Val)(nm:ByteArray):Bool:=isKey v nm&& !decide (nm=Am)
def H0 (key:ByteArray)(v:Val)(i:Nat):Stp:=if Ef v key then⟨3,key,0,Cw v key⟩else⟨2,Am,i,Am⟩
def sameKey (nm:ByteArray)(k:ByteArray)(u:Val):Bool:=Ef u nm&&decide (Cw u nm=k)
def Aop (key:ByteArray)(prev:List Val)(v:Val)(q:List Stp):List IV:=if Ef v key&&prev.any (sameKey key (Cw v key)) then[Jc q 8]else[]
def Lm (v:Val)(nm:ByteArray):Bool:=(v.get nm).isSome && !decide (((v.get nm).getD Au).k =0)
def Ke (v:Val)(p:List Stp)(d:SFld):List IV:=if d.rq&& !Lm v d.nm then[Jc (p++ [Cd d.nm]) 7]else[]
def Wh (p:List Stp)(sc:Sch)(n:Int):List IV:=if decide (n<sc.mn)||decide (sc.mx<n) then[Jc p 5]else[]
mutual
def Jy:Val->Sch->List Stp->List IV
 | ⟨k,n,s,l,f⟩,sc,p=>
  if k=sc.k then
   if k=2 then Wh p sc n
   else if k=3 then(if decide ((s.size:Int)<sc.mn)||decide (sc.mx<(s.size:Int)) then[Jc p 5]else if decide (0<sc.en.length)&& !sc.en.any (λe=>decide (e=s)) then[Jc p 1]else[])
   else if k=4 then Wh p sc l.length++K3 l sc.key (sc.it.headD Bh) p []
   else if k=5 then Mk f sc p++sc.f.flatMap (Ke ⟨k,n,s,l,f⟩ p)
   else[]
  else[Jc p 6]
def K3:List Val->ByteArray->Sch->List Stp->List Val->List IV
 | [],_,_,_,_=> []
 | v::vs,key,t,p,prev=>(Jy v t (p++ [H0 key v prev.length])++Aop key prev v (p++ [H0 key v prev.length]))++K3 vs key t p (prev++ [v])
def Mk:List (ByteArray × Val)->Sch->List Stp->List IV
 | [],_,_=> []
 | (nm,v)::fs,sc,p=>(match Du sc nm with | none=> [Jc (p++ [Cd nm]) 1] | some t=>if v.k=0 then[]else Jy v t (p++ [Cd nm]))++Mk fs sc p
end
theorem Ji (v:Val)(sc:Sch)(p:List Stp):Jy v sc p=
  if v.k=sc.k then
   if v.k=2 then Wh p sc v.n
   else if v.k=3 then(if decide ((v.s.size:Int)<sc.mn)||decide (sc.mx<(v.s.size:Int)) then[Jc p 5]else if decide (0<sc.en.length)&& !sc.en.any (λe=>decide (e=v.s)) then[Jc p 1]else[])
   else if v.k=4 then Wh p sc v.l.length++K3 v.l sc.key (sc.it.headD Bh) p []
   else if v.k=5 then Mk v.f sc p++sc.f.flatMap (Ke v p)
   else[]
  else[Jc p 6]:=by
 cases v;rw[Jy];rfl
def Aew (sc:Sch)(p:List Stp)(x:ByteArray × Val):List IV:=match Du sc x.1 with | none=> [Jc (p++ [Cd x.1]) 1] | some t=>if x.2.k=0 then[]else Jy x.2 t (p++ [Cd x.1])
theorem Jm (x:ByteArray × Val)(fs:List (ByteArray × Val))(sc:Sch)(p:List Stp):Mk (x::fs) sc p=Aew sc p x++Mk fs sc p:=by
 obtain⟨nm,v⟩:=x;rw[Mk];rfl
theorem Kz (sc:Sch)(p:List Stp):Mk [] sc p= []:=by rw[Mk]
theorem Hc (v:Val)(vs:List Val)(key:ByteArray)(t:Sch)(p:List Stp)(prev:List Val):K3 (v::vs) key t p prev=(Jy v t (p++ [H0 key v prev.length])++Aop key prev v (p++ [H0 key v prev.length]))++K3 vs key t p (prev++ [v]):=by rw[K3]
theorem K1 (key:ByteArray)(t:Sch)(p:List Stp)(prev:List Val):K3 [] key t p prev= []:=by rw[K3]
theorem Mu (l:List (ByteArray × Val))(sc:Sch)(p:List Stp):Mk l sc p=l.flatMap (Aew sc p):=by
 induction l with
 | nil=>simp[Kz]
 | cons x l a=>rw[Jm,a];rfl
theorem Ae7 (key:ByteArray)(prev:List Val)(v:Val)(q:List Stp):(Aop key prev v q).length <=1:=by unfold Aop;split<;>simp
theorem Aue (v:Val)(p:List Stp)(d:SFld):(Ke v p d).length <=1:=by unfold Ke;split<;>simp
theorem Wl (p:List Stp)(sc:Sch)(n:Int):(Wh p sc n).length <=1:=by unfold Wh;split<;>simp
theorem Ant (v:Val)(p:List Stp): ∀l:List SFld,(l.flatMap (Ke v p)).length <=l.length
 | []=>by simp
 | d::l=>by
  have:=Aue v p d
  have:=Ant v p l
  simp only[cB,aO,aZ];omega
theorem Ti: ∀ (v:Val) (sc:Sch) (p:List Stp),SB sc->(Jy v sc p).length <=(2+sc.Ap) * v.size:=by
 refine eJ λv d e sc p g=>?_
 have b:=v.size_pos
 have one:1<=(2+sc.Ap) * v.size:=by
  have:1 * 1<=(2+sc.Ap) * v.size:=aW (by omega) b
  omega
 have r: ∀ (t:Sch),SB t->t.Ap<sc.Ap-> ∀ (l:List Val),(∀x∈l,∀sc p,SB sc->(Jy x sc p).length <=(2+sc.Ap) * x.size)-> ∀ (prev:List Val) (key:ByteArray),(K3 l key t p prev).length <=(2+sc.Ap) * Cv l:=by
  intro t a u l
  induction l with
  | nil=>intro _ prev key;rw[K1];simp
  | cons x l i=>
   intro h prev key
   have j:=h x (by simp) t (p++ [H0 key x prev.length]) a
   have m:=i (λy o=>h y (by simp[o])) (prev++ [x]) key
   have c:=Ae7 key prev x (p++ [H0 key x prev.length])
   have q:=x.size_pos
   have w:(3+t.Ap) * x.size<=(2+sc.Ap) * x.size:=aW (by omega) (bJ _)
   have G:(3+t.Ap) * x.size=(2+t.Ap) * x.size+x.size:=by rw[show 3+t.Ap=(2+t.Ap)+1 by omega,Nat.add_mul,Nat.one_mul]
   rw[Hc]
   simp only[aO,Cv,cI]
   omega
 have z: ∀ (l:List (ByteArray × Val)),(∀x∈l,∀sc p,SB sc->(Jy x.2 sc p).length <=(2+sc.Ap) * x.2.size)->(Mk l sc p).length <=(2+sc.Ap) * B4 l:=by
  intro l
  induction l with
  | nil=>intro _;rw[Kz];simp
  | cons x l i=>
   intro h
   have m:=i (λy o=>h y (by simp[o]))
   have q:=x.2.size_pos
   have H:(Aew sc p x).length <=(2+sc.Ap) * x.2.size:=by
    have I:1 * 1<=(2+sc.Ap) * x.2.size:=aW (by omega) q
    unfold Aew
    split
    ·simp only[aP];omega
    ·rename_i t a
     split
     ·simp
     ·have j:=h x (by simp) t (p++ [Cd x.1]) (g.sub a)
      have:=J0 a
      have w:(2+t.Ap) * x.2.size<=(2+sc.Ap) * x.2.size:=aW (by omega) (bJ _)
      omega
   rw[Jm]
   simp only[aO,B4,cI]
   omega
 have A:=v.size_eq
 rw[Ji]
 split
 ·split
  ·have:=Wl p sc v.n;omega
  ·split
   ·split
    ·simpa using one
    ·split
     ·simpa using one
     ·simp
   ·split
    ·rename_i J B C F
     obtain⟨t,a⟩:=bU.1 (g.list (by omega))
     have j:=r t (g.I4 (by rw[a];simp)) (fL (by rw[a];simp)) v.l d [] sc.key
     have m:=Wl p sc v.l.length
     have c:(2+sc.Ap) * (1+Cv v.l)<=(2+sc.Ap) * v.size:=aW (bJ _) (by omega)
     rw[cI]at c
     rw[a,List.headD_cons,aO]
     omega
    ·split
     ·have j:=z v.f e
      have m:=Ant v p sc.f
      have q:=sc.Bd
      have c:(2+sc.Ap) * (1+B4 v.f)<=(2+sc.Ap) * v.size:=aW (bJ _) (by omega)
      rw[cI]at c
      rw[aO]
      omega
     ·simp
 ·simpa using one
theorem Aqc {n:Nat}(h:n<=4398046511104):n * 24<=Bc:=by
 have:n * 24<=4398046511104 * 24:=aW h (bJ _)
 unfold Bc;omega
theorem Apo (v:Val)(nm:ByteArray):((v.get nm).getD Au).s.size <=v.Ap:=by
 unfold gC
 split
 ·cases h:v.f.find? λp=>decide (p.1=nm) with
  | none=>exact dQ _
  | some p=>
   have a:=eE (cL h)
   have b:=p.2.Au4
   simp only[aI,bZ];omega
 ·exact dQ _
theorem Ac6 (key:ByteArray)(v:Val)(i:Nat)(a:key.size<=1048576)(b:v.Ap<=1048576):(H0 key v i).fits :=by
 have:=Apo v key
 unfold H0
 split
 ·exact⟨by show key.size<=_;omega,by show(Cw v key).size <=_;unfold Cw;omega⟩
 ·exact⟨by show(0:Nat)<=_;omega,by show(0:Nat)<=_;omega⟩
theorem Jj (nm:ByteArray)(h:nm.size<=1048576):(Cd nm).fits :=⟨by show nm.size<=_;omega,by show(0:Nat)<=_;omega⟩
theorem H4 {p:List Stp}{x:Stp}(hp: ∀s∈p,s.fits)(a:x.fits): ∀s∈p++ [x],s.fits:=by
 intro s b
 rcases dK.1 b with h | h
 ·exact hp s h
 ·simp at h;subst h;exact a
end Go.CT.Sch
namespace Go.CT.Sch
open Go.Proofs
theorem Mn (v:Val)(nm:ByteArray)(a:v.Ap<=1048576):W 31 0 [v.enc,.str nm]=some [.str (Cw v nm),.bool (Ef v nm)]:=by
 rw[A4.b]
 unfold Cw Ef isKey
 simp only[Ata v nm (by omega),Ja,Jl,aS,gM,aV,aA,Aw,Al,Am]
 grind
theorem Z1 (s:Sch)(l:List Val)(i:Nat)(a:i<l.length)(b:l[i].Ap <=1048576):W 30 0 [s.enc,.list (l.map bR),.int i]=some [(H0 s.key l[i] i).enc]:=by
 rw[A4.a]
 unfold H0
 simp only[cE,aF,Zt,aE,aM,aC a,aI,aA,eR,Mn l[i] s.key b,fJ,eV,aS]
 split<;>rfl
theorem Sq (p:List Stp)(s:Stp)(a:p.length<=1099511627776):W 34 0 [.list (p.map Stp.enc),s.enc]=some [.list ((p++ [s]).map Stp.enc)]:=by
 have b:(0+p.length) * 48<=Bc:=Tt (by omega) (by omega)
 have c:(p.length+1) * 48<=Bc:=by
  have:(p.length+1) * 48<=1099511627777 * 48:=aW (by omega) (bJ _)
  unfold Bc;omega
 rw[A4.h]
 simp_all
theorem Agc (p:List Stp)(hp: ∀s∈p,s.fits)(a:p.length<=1099511627776)(c:Int):W 20 0 [.list (p.map Stp.enc),.int c]=some [.list [Jc p c]]:=by
 rw[A2.l]
 simp only[Ajg p hp a,fJ,eV,fX,aA,Jc]
theorem Zx (s:Sch)(nm:ByteArray)(q:s.Ap<=1099511627776)(b c d e g j m:IV): ∀ (n i:Nat),i+n=s.f.length->
  W 12 1 [.str nm,.int i,s.enc,b,c,d,e,g,j,m]=some [(((s.f.drop i).find? λp=>decide (p.nm=nm)).getD T4).enc,.bool ((s.f.drop i).find? λp=>decide (p.nm=nm)).isSome]
 | 0,i,h=>by
  rw[A1.l]
  have o: ¬ i<s.f.length:=by omega
  simp[o,aG (bK o),Abn]
 | n+1,i,h=>by
  have a:i<s.f.length:=by omega
  have t:=s.Bd
  have r:=Be (i:=i) (by omega)
  have:=Zx s nm q b c d e g j m n (i+1) (by omega)
  rw[A1.l,aD a]
  simp only[eF,cD,aH,bD,Ao,a,Zd,aA,aS,Zt,cE,aF,aE,aM,aC a,aI,eL,fW,bQ,r,this,bY]
  grind
theorem Aal (s:Sch)(nm:ByteArray)(a:s.Ap<=1099511627776):W 12 0 [s.enc,.str nm]=some [((s.fld nm).getD T4).enc,.bool (s.fld nm).isSome]:=by
 rw[A1.k]
 have:=Zx s nm a (.str ⟨#[]⟩) (.bool false) (.bool false) (.int 0) (.int 0) (.int 0) (.str ⟨#[]⟩) s.f.length 0 (by omega)
 simp only[aQ,aK]at this
 exact this
def Ar3 (v:Val)(nm:ByteArray):Val:=if Lm v nm then(v.get nm).getD Au else Au
theorem Amn (v:Val)(nm:ByteArray)(a:v.Ap<=1048576):W 36 0 [v.enc,.str nm]=some [.int (Ar3 v nm).k,.int (Ar3 v nm).n,.str (Ar3 v nm).s,.list ((Ar3 v nm).l.map bR),.list ((Ar3 v nm).f.map bC),.bool (Lm v nm)]:=by
 rw[A4.n]
 unfold Ar3 Lm
 simp only[Ata v nm (by omega),Ja,Jl,cM,aV,aS,aA]
 cases(v.get nm).isSome with
 | false=>rfl
 | true=>
  by_cases h:((v.get nm).getD Au).k =0
  ·simp only[h,Zd];rfl
  simp_all
theorem Z9 (s:Sch)(v:Val)(p q:List Stp)(u:v.Ap<=1048576)(o: ∀s∈q,s.fits)(r:q.length<=1099511627776)(i:Nat)(a:i<=v.l.length)(key:ByteArray)(ok:Bool)(out:List IV)(w:out.length<=4398046511103): ∀ (n j:Nat) (ag:Bool),j+n=i->
  W 29 3 [.list (p.map Stp.enc),.int i,.str key,.bool ok,.bool ag,.int j,s.enc,v.enc,.list out,.list (q.map Stp.enc)]
   =W 29 4 [.list (p.map Stp.enc),.int i,s.enc,v.enc,.list (out++if ag||(ok&&((v.l.take i).drop j).any (sameKey s.key key)) then[Jc q 8]else[])]
 | n,j,ag,h=>by
  have z:=v.Bu
  have fin:(cnd (.bool ag) (
    calls (W 20 0 [.list (q.map Stp.enc),(.int 8)]) 1 λb=>
    (fM 24 (.list out) b).bind λd=>
    W 29 4 [.list (p.map Stp.enc),.int i,s.enc,v.enc,d]) (
    W 29 4 [.list (p.map Stp.enc),.int i,s.enc,v.enc,.list out]))=W 29 4 [.list (p.map Stp.enc),.int i,s.enc,v.enc,.list (out++if ag then[Jc q 8]else[])]:=by
   cases ag with
   | false=>simp
   | true=>
    have e:(out.length+1) * 24<=Bc:=Aqc (by omega)
    simp only[aS,Zt,Agc q o r 8,bI,fR,aP,e,aA]
  rw[A3.o]
  by_cases c:j<i
  ·obtain⟨m,rfl⟩: ∃m,n=m+1:=⟨n - 1,by omega⟩
   have t:j<v.l.length:=by omega
   have x:=Be (i:=j) (by omega)
   have A:=eO (aL t)
   have g:(j:Int)<i:=by omega
   cases ok with
   | false=>
    simp_all
   | true=>
    have y:=Mn v.l[j] s.key (by omega)
    have hd:(v.l.take i).drop j=v.l[j]::(v.l.take i).drop (j+1):=by
     rw[aD (by simp;omega),List.getElem_take]
    simp only[bD,g,Zd,aA,O.Aap,Zt,aS,dE,cE,aF,aE,aM,aC t,aI,eR,y,fJ,fW,Aw,Al,bQ,x]
    rw[Z9 s v p q u o r i a key true out w m (j+1) _ (by omega),hd,fU]
    congr 6
    unfold sameKey
    grind
  ·have g: ¬ (j:Int)<i:=by omega
   simp only[bD,g,Ze,aA,O.Aap,aB,Zf,aS]
   simp only[aS]at fin
   grind
def A7n (v:Val):Prop:=v.Ap<=1048576-> ∀ (s:Sch),SB s->s.Ap<=1048576-> ∀p:List Stp,(∀x∈p,x.fits)->p.length+v.Ap<=549755813888->W 19 0 [s.enc,v.enc,.list (p.map Stp.enc)]=some [.list (Jy v s p)]
theorem Ahh {v:Val}{s:Sch}{p:List Stp}(a:SB s)(b:s.Ap<=1048576)(c:v.Ap<=1048576):(Jy v s p).length <=2199025352704:=by
 have d:=Ti v s p a
 have e:=v.Gb
 have g:(2+s.Ap) * v.size<=1048578 * 1048576:=aW (by omega) (by omega)
 omega
theorem Yc (s t:Sch)(v:Val)(p:List Stp)(u:v.Ap<=1048576)(B:s.Ap<=1048576)(w:s.it= [t])(a:SB s)(hp: ∀s∈p,s.fits)(C:p.length+v.Ap<=549755813888)
  (y: ∀x∈v.l,A7n x): ∀ (n i:Nat) (out:List IV),i+n=v.l.length->out.length+(2+s.Ap) * Cv (v.l.drop i)<=4398046511103->
  W 29 2 [.list (p.map Stp.enc),.int i,s.enc,v.enc,.list out]=some [.list (out++K3 (v.l.drop i) s.key t p (v.l.take i))]
 | 0,i,out,h,g=>by
  have F: ¬ i<v.l.length:=by omega
  rw[A3.n,aG (by omega),K1]
  simp_all
 | n+1,i,out,h,g=>by
  have c:i<v.l.length:=by omega
  have I:=v.Bu
  have J:=Be (i:=i) (by omega)
  have K:=eO (aL c)
  have b:t∈s.it:=by grind
  have htmass:=fL b
  have hd:=aD c
  have z:=s.Ad7
  rw[hd]at g ⊢
  rw[Hc]
  have j:(v.l.take i).length =i:=by simp;omega
  have m:v.l.take i++ [v.l[i]]=v.l.take (i+1):=by simp
  rw[j,m]
  have A:=H4 hp (Ac6 s.key v.l[i] i (by omega) (by omega))
  have o:=y _ (aL c) (by omega) t (a.I4 b) (by omega) _ A (by simp;omega)
  have hlen:=Ti v.l[i] t (p++ [H0 s.key v.l[i] i]) (a.I4 b)
  have G:=Ae7 s.key (v.l.take i) v.l[i] (p++ [H0 s.key v.l[i] i])
  simp only[Cv,cI]at g
  have H:(2+t.Ap) * v.l[i].size +1<=(2+s.Ap) * v.l[i].size :=by
   have F:=v.l[i].size_pos
   have L:(3+t.Ap) * v.l[i].size <=(2+s.Ap) * v.l[i].size :=aW (by omega) (bJ _)
   grind
  generalize M:Jy v.l[i] t (p++ [H0 s.key v.l[i] i])=es1 at *
  have q:(out.length+es1.length) * 24<=Bc:=Aqc (by omega)
  have r:=Z9 s v p (p++ [H0 s.key v.l[i] i]) u A (by simp;omega) i (by omega) (Cw v.l[i] s.key) (Ef v.l[i] s.key) (out++es1) (by grind) i 0 false (by omega)
  simp only[aK,aQ,eB]at r
  have e:(if(Ef v.l[i] s.key&&(v.l.take i).any (sameKey s.key (Cw v.l[i] s.key)))=true then[Jc (p++ [H0 s.key v.l[i] i]) 8]else[])=Aop s.key (v.l.take i) v.l[i] (p++ [H0 s.key v.l[i] i]):=rfl
  rw[e]at r
  generalize N:Aop s.key (v.l.take i) v.l[i] (p++ [H0 s.key v.l[i] i])=d at *
  have Q:=Yc s t v p u B w a hp C y n (i+1) (out++es1++d) (by omega) (by grind)
  rw[A3.n]
  simp only[dE,cD,aH,aA,bD,Ao,c,Zd,aS,Zt,Z1 s v.l i c (by omega),bI,Sq p (H0 s.key v.l[i] i) (by omega),eG,w,bM,bO,cE,cP,cC,bL,aF,aE,aM,aC c,aI,o,fR,q,eR,Mn v.l[i] s.key (by omega),fJ]
  rw[r,A3.p]
  simp_all
theorem Aas (s:Sch)(v:Val)(p:List Stp)(c:v.Ap<=1048576)(j:s.Ap<=1048576)(hp: ∀s∈p,s.fits)(m:p.length+v.Ap<=549755813888): ∀ (n i:Nat) (out:List IV),i+n=s.f.length->out.length+n<=4398046511103->
  W 35 3 [.list (p.map Stp.enc),.int i,s.enc,v.enc,.list out]=some [.list (out++(s.f.drop i).flatMap (Ke v p))]
 | 0,i,out,h,o=>by
  have a: ¬ i<s.f.length:=by omega
  rw[A4.l,aG (by omega)]
  simp_all
 | n+1,i,out,h,o=>by
  have b:i<s.f.length:=by omega
  have u:=s.Bd
  have q:=Be (i:=i) (by omega)
  have r:=fY (aL b)
  have t:=H4 hp (Jj s.f[i].nm (by omega))
  have d:(out.length+1) * 24<=Bc:=Aqc (by omega)
  have g:O.Sg [(.int 1),.str s.f[i].nm,(.int 0),(.str ⟨#[]⟩)]=some (Cd s.f[i].nm).enc :=rfl
  rw[A4.l,aD b,cB]
  unfold Ke
  simp only[eF,cD,aH,aA,bD,Ao,b,Zd,aS,Zt,cE,aF,aE,aM,aC b,aI,eL,Amn v s.f[i].nm c,Jl,gV,cM,Aw,Al,g,Sq p (Cd s.f[i].nm) (by omega),bI,Agc _ t (by simp;omega),fR,aP,d,A4.m,bQ,q]
  have e:(if s.f[i].rq =true then !Lm v s.f[i].nm else false)=(s.f[i].rq && !Lm v s.f[i].nm):=by grind
  rw[e]
  cases(s.f[i].rq && !Lm v s.f[i].nm) with
  | true=>
   have a:=Aas s v p c j hp m n (i+1) (out++ [Jc (p++ [Cd s.f[i].nm]) 7]) (by omega) (by simp;omega)
   simp only[Zt,a,bV]
   rfl
  | false=>
   have a:=Aas s v p c j hp m n (i+1) out (by omega) (by omega)
   simp only[aB,Zf,a,bF]
   rfl
theorem Agn (s:Sch)(v:Val)(p:List Stp)(u:v.Ap<=1048576)(w:s.Ap<=1048576)(b:SB s)(hp: ∀s∈p,s.fits)(y:p.length+v.Ap<=549755813888)
  (z: ∀x∈v.f,A7n x.2): ∀ (n i:Nat) (out:List IV),i+n=v.f.length->out.length+s.f.length+(2+s.Ap) * B4 (v.f.drop i)<=4398046511103->
  W 35 1 [.list (p.map Stp.enc),.int i,s.enc,v.enc,.list out]=some [.list (out++Mk (v.f.drop i) s p++s.f.flatMap (Ke v p))]
 | 0,i,out,h,j=>by
  have F: ¬ i<v.f.length:=by omega
  have G:=Aas s v p u w hp y s.f.length 0 out (by omega) (by omega)
  simp only[aK,aQ]at G
  rw[A4.j,aG (by omega),Kz]
  simp_all
 | n+1,i,out,h,j=>by
  have c:i<v.f.length:=by omega
  have L:=v.Bd
  have M:=Be (i:=i) (by omega)
  have N:=eE (aL c)
  have hd:=aD c
  rw[hd]at j ⊢
  rw[Jm]
  simp only[B4,cI]at j
  have A:=H4 hp (Jj v.f[i].1 (by omega))
  have m:O.Sg [(.int 1),.str v.f[i].1,(.int 0),(.str ⟨#[]⟩)]=some (Cd v.f[i].1).enc :=rfl
  have B:=v.f[i].2.size_pos
  have C:1<=(2+s.Ap) * v.f[i].2.size :=by
   grind
  -- what this field adds
  have key: ∀es:List IV,es.length<=(2+s.Ap) * v.f[i].2.size ->W 35 2 [.list (p.map Stp.enc),.int i,s.enc,v.enc,.list (out++es)]=some [.list (out++(es++Mk (v.f.drop (i+1)) s p)++s.f.flatMap (Ke v p))]:=by
   intro es H
   have Q:=Agn s v p u w b hp y z n (i+1) (out++es) (by omega) (by grind)
   rw[A4.k]
   simp_all
  have sub: ∀t:Sch,Du s v.f[i].1 =some t->((∃es,Jy v.f[i].2 t (p++ [Cd v.f[i].1])=es/\W 19 0 [t.enc,v.f[i].2.enc,.list ((p++ [Cd v.f[i].1]).map Stp.enc)]=some [.list es]/\es.length<=(2+s.Ap) * v.f[i].2.size)):=by
   intro t o
   have I:=J0 o
   have F:=z _ (aL c) (by omega) t (b.sub o) (by omega) _ A (by simp;omega)
   have R:=Ti v.f[i].2 t (p++ [Cd v.f[i].1]) (b.sub o)
   have S:(2+t.Ap) * v.f[i].2.size <=(2+s.Ap) * v.f[i].2.size :=aW (by omega) (bJ _)
   grind
  have q: ∀es:List IV,es.length<=(2+s.Ap) * v.f[i].2.size ->(out.length+es.length) * 24<=Bc:=λes h=>Aqc (by omega)
  rw[A4.j]
  simp only[cX,cD,aH,aA,bD,Ao,c,Zd,aS,Zt,cE,aF,aE,aM,aC c,aI,dF,m,Sq p _ (show p.length<=1099511627776 by omega),bI,Aal s v.f[i].1 (by omega),fJ,eG,aV,cM,Aw,Al,iB,dY,dL,gD]
  unfold Aew
  cases e:s.it with
  | nil=>
   have a:Du s v.f[i].1 =(s.fld v.f[i].1).map (·.s):=by unfold Du;rw[e]
   rw[a]at sub ⊢
   simp only[bG,aK,Zd,Zt]
   cases T:s.fld v.f[i].1 with
   | none=>
    have g:=q [Jc (p++ [Cd v.f[i].1]) 1] (by omega)
    simp only[dM,bE,Zt,Agc _ A (show(p++ [Cd v.f[i].1]).length <=1099511627776 by simp;omega),bI,fR,g,aA,gK]
    grind
   | some d=>
    simp only[cK,aT,aB,Zf,aI,bZ,show ¬ (0:Int)=1 by omega,Ze,ite_self]
    by_cases J:v.f[i].2.k =0
    ·grind
    simp_all
  | cons t r=>
   have K:r= []:=by have:=b.one;simp_all
   subst K
   have a:Du s v.f[i].1 =some t:=by unfold Du;rw[e]
   rw[a]at sub ⊢
   simp only[aZ,bG,eM,aK,show ¬ (1:Int)=0 by omega,Ze,aB,Zf,Zd,bM,bO,cP,Zt,cC,bL,aA]
   by_cases J:v.f[i].2.k =0
   ·grind
   simp_all
theorem Agg (s:Sch)(v:Val)(p:List Stp)(hp: ∀s∈p,s.fits)(b:p.length<=1099511627776)(c:s.Ap<=1048576): ∀ (n i:Nat),i+n=s.en.length->
  W 19 1 [.list (p.map Stp.enc),.int i,s.enc,v.enc]=some [.list (if decide (0<s.en.length)&& !(s.en.drop i).any (λe=>decide (e=v.s)) then[Jc p 1]else[])]
 | 0,i,h=>by
  have d: ¬ i<s.en.length:=by omega
  rw[A2.k,aG (by omega)]
  simp only[eH,cD,aH,aA,bD,Ao,d,Ze,aS,aB,Zf,cR,Agc p hp b,bI,List.any_nil,bE,dI]
  grind
 | n+1,i,h=>by
  have a:i<s.en.length:=by omega
  have m:=s.Kt
  have g:=Be (i:=i) (by omega)
  have j:=Agg s v p hp b c n (i+1) (by omega)
  rw[A2.k,aD a,fU]
  simp only[eH,cD,aH,aA,bD,Ao,a,Zd,aS,Zt,cE,aF,aE,aM,aC a,aI,gG,fW,bQ,g,j]
  grind
theorem Apt: ∀v:Val,A7n v:=by
 refine eJ λv e g j s a h p hp m=>?_
 have b: ∀c,W 20 0 [.list (p.map Stp.enc),.int c]=some [.list [Jc p c]]:=Agc p hp (by omega)
 have q:=v.size_eq
 have r:=v.Gb
 have u:=s.Bd
 have hmul:(2+s.Ap) * v.size<=1048578 * 1048576:=aW (by omega) (by omega)
 rw[A2.j,Ji]
 simp only[dR,gH,aA,dY,aS,b,bI]
 by_cases w:v.k=s.k
 ·simp only[w,Zd,aT,aB,Zf,Zt,aV,aA,aS]
  by_cases k2:s.k=2
  ·simp only[k2,Zd,Zt,gN,dN,dO,bD,cR,aA,aS,Aw,Al,Wh]
   grind
  ·by_cases x:s.k=3
   ·have o:=Agg s v p hp (by omega) h s.en.length 0 (by omega)
    simp only[aK,aQ]at o
    simp only[x,show ¬ (3:Int)=2 by omega,Ze,aB,Zf,Zd,Zt,gG,dN,dO,cT,bD,cR,aA,aS,Aw,Al,o]
    grind
   ·by_cases y:s.k=4
    ·obtain⟨t,z⟩:=bU.1 (a.list y)
     have A:(2+s.Ap) * Cv v.l<=(2+s.Ap) * v.size:=aW (bJ _) (by omega)
     have B:=Wl p s v.l.length
     have d:=Yc s t v p j h z a hp m e v.l.length 0 (Wh p s v.l.length) (by omega) (by grind)
     simp only[aK,aQ,fK]at d
     have C:W 29 0 [s.enc,v.enc,.list (p.map Stp.enc)]=some [.list (Wh p s v.l.length++K3 v.l s.key t p [])]:=by
      rw[A3.l]
      simp only[dE,dN,dO,cD,aH,bD,cR,aA,aS,Aw,Al,b,bI,fR,bG,aP,bF,A3.m]
      have i:(0+1) * 24<=Bc:=Aqc (by omega)
      simp only[i,Zt,aA]
      revert d
      unfold Wh
      grind
     simp_all
    ·by_cases F:s.k=5
     ·have A:(2+s.Ap) * B4 v.f<=(2+s.Ap) * v.size:=aW (bJ _) (by omega)
      have d:=Agn s v p j h a hp m g v.f.length 0 [] (by omega) (by grind)
      simp only[aK,aQ,bF]at d
      have C:W 35 0 [s.enc,v.enc,.list (p.map Stp.enc)]=some [.list (Mk v.f s p++s.f.flatMap (Ke v p))]:=by
       rw[A4.i,d]
      simp_all
     grind
 grind
end Go.CT.Sch
namespace Go.CT.Sch
open Go.Proofs
def Asg (m:List (ByteArray × Bool)):List IV:=m.map λe=> .agg [.str e.1,.bool e.2]
def X7 (m:List (ByteArray × Bool))(k:ByteArray):Option Bool:=(m.find? λe=>decide (e.1=k)).map (·.2)
def Aix (k:ByteArray)(b:Bool):List (ByteArray × Bool)->List (ByteArray × Bool)
 | []=> [(k,b)]
 | e::r=>if e.1=k then(k,b)::r else e::Aix k b r
theorem Aby (a b:ByteArray):IV.Re (.str a) (.str b)=some (decide (a=b)):=by
 have:(a.toList == b.toList)=decide (a=b):=by
  rw[aX,beq_iff_eq,decide_eq_true_iff];exact O.Uv
 simp only[IV.Re,this]
theorem Zz (k:ByteArray): ∀m:List (ByteArray × Bool),Wj (.str k) (Asg m)=some ((X7 m k).map .bool)
 | []=>rfl
 | e::r=>by
  have a:=Zz k r
  simp only[Asg,bM,Wj,Aby,X7,bY]
  by_cases c:k=e.1
  ·simp[c]
  ·have c': ¬ e.1=k:=λh=>c h.symm
   simp only[c,c',Ze]
   exact a
theorem Aov (k:ByteArray)(b:Bool): ∀m:List (ByteArray × Bool),Avg (.str k) (.bool b) (Asg m)=some (Asg (Aix k b m))
 | []=>rfl
 | e::r=>by
  have a:=Aov k b r
  simp only[Asg,bM,Avg,Aby,Aix]
  by_cases c:k=e.1
  ·simp[c]
  ·have c': ¬ e.1=k:=λh=>c h.symm
   simp only[c,c',Ze,Zf]
   unfold Asg at a
   rw[a];rfl
theorem Ajc (k j:ByteArray)(b:Bool): ∀m:List (ByteArray × Bool),X7 (Aix k b m) j=if k=j then some b else X7 m j
 | []=>by simp only[Aix,X7,bY,List.find?_nil];grind
 | e::r=>by
  have a:=Ajc k j b r
  unfold X7 at a ⊢
  unfold Aix
  grind
theorem Ax4 (m:List (ByteArray × Bool))(k:ByteArray):O.Aoh (.bool false) (.list (Asg m)) (.str k)=some (.bool ((X7 m k).getD false)):=by
 unfold O.Aoh
 simp only[dB,Zz,aI]
 simp_all
theorem Ax2 (m:List (ByteArray × Bool))(k:ByteArray):O.Aku (.list (Asg m)) (.str k)=some (.bool (X7 m k).isSome):=by
 unfold O.Aku
 simp only[dB,Zz,aI,Option.isSome_map]
theorem An5 (m:List (ByteArray × Bool))(k:ByteArray)(b:Bool):O.Ap5 (.list (Asg m)) (.str k) (.bool b)=some (.list (Asg (Aix k b m))):=by
 unfold O.Ap5
 simp only[dB,Aov,aI]
theorem Abk (v:Val)(nm:ByteArray)(a:v.Ap<=4294967296):W 111 0 [v.enc,.str nm]=some (Ja (v.get nm)):=Ay8 v nm (Dd v (by omega))
theorem Azs (v:Val)(nm:ByteArray)(a:v.Ap<=1048576):W 110 0 [v.enc,.str nm]=some [.str (Cw v nm),.bool (isKey v nm)]:=by
 rw[A11.g]
 unfold Cw isKey
 simp only[Abk v nm (by omega),Ja,Jl,aS,aV,aA,Aw,Al]
 grind
theorem Aqe (s:Sch)(v:Val)(i:Int)(a:v.Ap<=1048576):W 109 0 [s.enc,.int i,v.enc]=some [.agg [.int (if Ef v s.key then 3 else 2),.str (if Ef v s.key then s.key else Am),.int (if Ef v s.key then 0 else i),.str (if Ef v s.key then Cw v s.key else Am)]]:=by
 rw[A11.f]
 have e:(if isKey v s.key=true then !decide (s.key=(⟨#[]⟩:ByteArray)) else false)=Ef v s.key:=by unfold Ef Am;grind
 simp only[eR,aA,Azs v s.key a,fJ,gM,aS,Aw,Al,e,eV]
 cases Ef v s.key<;>rfl
theorem Akm (s:Sch)(v:Val)(i:Nat)(a:v.Ap<=1048576):W 109 0 [s.enc,.int i,v.enc]=some [(H0 s.key v i).enc]:=by
 rw[Aqe s v i a]
 unfold H0
 cases Ef v s.key<;>rfl
theorem W9 (nm:ByteArray):W 117 0 [.str nm]=some [(Cd nm).enc]:=by
 rw[A12.a];rfl
theorem Aft (p:List Stp)(s:Stp)(c:p.length<=1073741824):W 112 0 [.list (p.map Stp.enc),s.enc]=some [.list ((p++ [s]).map Stp.enc)]:=by
 have a:((p.map Stp.enc).length + [s.enc].length) * 48<=Bc:=by
  have:(p.length+1) * 48<=1099511627777 * 48:=aW (by omega) (bJ _)
  simp only[aH,aP]
  unfold Bc;omega
 have b:O.Ir [.list (p.map Stp.enc)]=some [.list (p.map Stp.enc)]:=D2 (by grind)
 rw[A11.j]
 simp only[A6s,b,bI,A7q,O.Are,fX,aA,O.Aih (n:=48) (by simp) a,cW,bM,bO]
theorem Anv (out:List IV)(p:List Stp)(c:Int)(hp: ∀s∈p,s.fits)(b:p.length<=1099511627776)(d:out.length<=4398046511103):W 88 0 [.list out,.list (p.map Stp.enc),.int c]=some [.list (out++ [Jc p c])]:=by
 have a:(out.length+1) * 24<=Bc:=Aqc (by omega)
 rw[A9.h]
 simp only[Afk p hp b,fJ,eV,fX,aA,fR,aP,a,Zt,Jc]
theorem Amj (s:Sch):W 115 0 [s.enc]=some [.bool (decide (s.k=5)&&decide (0<s.it.length))]:=by
 rw[A11.k]
 simp_all
theorem As8 (s:Sch):W 67 0 [s.enc]=some [.bool (decide (s.k=5)&&decide (s.it.length=0))]:=by
 rw[A8.c]
 simp_all
theorem Aoy (s:Sch)(nm:ByteArray)(b:s.Ap<=1099511627776): ∀ (n i:Nat),i+n=s.f.length->
  ∃r:Int,W 65 1 [.list (s.f.map cQ),.str nm,.int s.f.length,.int i]=some [.int r]/\
   ((((s.f.drop i).find? λp=>decide (p.nm=nm))=none/\r<0)\/(∃j:Nat,r=j/\s.f[j]?=((s.f.drop i).find? λp=>decide (p.nm=nm))/\((s.f.drop i).find? λp=>decide (p.nm=nm)).isSome =true))
 | 0,i,h=>by
  rw[A8.a]
  simp_all
 | n+1,i,h=>by
  have a:i<s.f.length:=by omega
  have e:=s.Bd
  have c:=Be (i:=i) (by omega)
  obtain⟨r,d,g⟩:=Aoy s nm b n (i+1) (by omega)
  rw[A8.a,aD a,bY]
  simp only[bD,Ao,a,Zd,aA,aS,Zt,cE,aF,aE,aM,aC a,aI,A8.b,eL,fW,bI,bQ,c,d]
  grind
theorem Ad8 (s:Sch)(nm:ByteArray)(h:s.Ap<=1099511627776):W 64 0 [s.enc,.str nm]=
  some [(if s.k=5/\s.it.length=0 then(s.fld nm).getD T4 else T4).enc,.bool (decide (s.k=5/\s.it.length=0)&&(s.fld nm).isSome)]:=by
 obtain⟨r,i,b⟩:=Aoy s nm h s.f.length 0 (by omega)
 have c:W 65 0 [.list (s.f.map cQ),.str nm]=some [.int r]:=by
  rw[A7.p]
  simpa using i
 simp only[aQ]at b
 have m:(s.f.find? λp=>decide (p.nm=nm))=s.fld nm:=rfl
 rw[m]at b
 have e:=As8 s
 rw[A7.o]
 simp only[eF,aA,c,bI,bD,aS,e,cM,eV,Aw,Al]
 rcases b with⟨a,g⟩ | ⟨j,rfl,a,g⟩
 ·rw[a]
  simp only[g,Zd,Zt,eY,ite_self,dM,gP]
  rfl
 ·have o: ¬ (j:Int)<0:=by omega
  obtain⟨d,hd⟩:=dJ.1 g
  rw[hd]at a ⊢
  simp only[o,Ze,aB,Zf,cE,aF,Zt,aE,aM,a,aI,bZ,cK,dI,aA]
  by_cases q:s.k=5<;>by_cases t:s.it.length=0<;>simp[q,t,Abn]
theorem Aq3 (v:Val)(nm:ByteArray)(a:v.Ap<=1048576): ∃w:Val,W 118 0 [v.enc,.str nm]=some [.int w.k,.int w.n,.str w.s,.list (w.l.map bR),.list (w.f.map bC),.bool (Lm v nm)]/\w=(v.get nm).getD Au:=by
 rw[A12.b]
 unfold Lm
 refine⟨_,?_,rfl⟩
 simp only[Abk v nm (by omega),Ja,Jl,dY,aS,aA,Aw,Al]
 grind
theorem Te (l:List ByteArray)(x:ByteArray)(b:l.length<=1099511627776): ∀ (n i:Nat),i+n=l.length->
  ∃r:Int,W 107 1 [.list (l.map .str),.str x,.int l.length,.int i]=some [.int r]/\(decide (0<=r)=(l.drop i).any λe=>decide (e=x))
 | 0,i,h=>by
  rw[A10.p]
  simp_all
 | n+1,i,h=>by
  have a:i<l.length:=by omega
  have c:=Be (i:=i) (by omega)
  obtain⟨r,d,g⟩:=Te l x b n (i+1) (by omega)
  rw[A10.p,aD a,fU]
  simp only[bD,Ao,a,Zd,aA,aS,Zt,cE,aF,aE,aM,aC a,aI,fW,bQ,c,d]
  grind
theorem Nv (l:List ByteArray)(x:ByteArray)(a:l.length<=1099511627776):W 106 0 [.list (l.map .str),.str x]=some [.bool (l.any λe=>decide (e=x))]:=by
 obtain⟨r,b,d⟩:=Te l x a l.length 0 (by omega)
 have c:W 107 0 [.list (l.map .str),.str x]=some [.int r]:=by
  rw[A10.o];simpa using b
 rw[A10.n]
 simp_all
def PgE (v:Val):Prop:=v.Ap<=1048576-> ∀ (s:Sch),SB s->s.Ap<=1048576-> ∀ (p:List Stp) (out:List IV),(∀x∈p,x.fits)->p.length+v.Ap<=1073741824->out.length+(2+s.Ap) * v.size<=4398046511103->
 W 87 0 [.list out,s.enc,v.enc,.list (p.map Stp.enc)]=some [.list (out++Jy v s p)]
theorem Agx (s t:Sch)(v:Val)(p:List Stp)(C:v.Ap<=1048576)(F:s.Ap<=1048576)(w:s.it= [t])(b:SB s)(hp: ∀s∈p,s.fits)(G:p.length+v.Ap<=1073741824)
  (y: ∀x∈v.l,PgE x): ∀ (n i:Nat) (out:List IV) (m:List (ByteArray × Bool)),i+n=v.l.length->out.length+(2+s.Ap) * Cv (v.l.drop i)<=4398046511103->
  (∀k,(X7 m k).getD false=(v.l.take i).any (sameKey s.key k))->
  W 108 2 [.list (p.map Stp.enc),.list (v.l.map bR),.int v.l.length,.int i,s.enc,.list (Asg m),.list out]=some [.list (out++K3 (v.l.drop i) s.key t p (v.l.take i))]
 | 0,i,out,m,h,o,g=>by
  have H: ¬ i<v.l.length:=by omega
  rw[A11.c,aG (by omega),K1]
  simp_all
 | n+1,i,out,m,h,o,g=>by
  have d:i<v.l.length:=by omega
  have M:=v.Bu
  have N:=Be (i:=i) (by omega)
  have Q:=eO (aL d)
  have c:t∈s.it:=by grind
  have htmass:=fL c
  have hd:=aD d
  have z:=s.Ad7
  rw[hd]at o ⊢
  rw[Hc]
  have q:(v.l.take i).length =i:=by simp;omega
  have r:v.l.take i++ [v.l[i]]=v.l.take (i+1):=by simp
  rw[q,r]
  have A:=H4 hp (Ac6 s.key v.l[i] i (by omega) (by omega))
  have hlen:=Ti v.l[i] t (p++ [H0 s.key v.l[i] i]) (b.I4 c)
  have I:=Ae7 s.key (v.l.take i) v.l[i] (p++ [H0 s.key v.l[i] i])
  simp only[Cv,cI]at o
  have J:(2+t.Ap) * v.l[i].size +1<=(2+s.Ap) * v.l[i].size :=by
   have H:=v.l[i].size_pos
   have R:(3+t.Ap) * v.l[i].size <=(2+s.Ap) * v.l[i].size :=aW (by omega) (bJ _)
   grind
  have u:=y _ (aL d) (by omega) t (b.I4 c) (by omega) (p++ [H0 s.key v.l[i] i]) out A (by simp;omega) (by omega)
  generalize S:Jy v.l[i] t (p++ [H0 s.key v.l[i] i])=es1 at *
  have a: ∀k,(v.l.take (i+1)).any (sameKey s.key k)=((v.l.take i).any (sameKey s.key k)||sameKey s.key k v.l[i]):=by
   grind
  have go: ∀ (es:List IV) (j:List (ByteArray × Bool)),es.length<=(2+s.Ap) * v.l[i].size ->(∀k,(X7 j k).getD false=(v.l.take (i+1)).any (sameKey s.key k))->
    W 108 4 [.list (p.map Stp.enc),.list (v.l.map bR),.int v.l.length,.int i,s.enc,.list (Asg j),.list (out++es)]=some [.list (out++(es++K3 (v.l.drop (i+1)) s.key t p (v.l.take (i+1))))]:=by
   intro es j K e
   have T:=Agx s t v p C F w b hp G y n (i+1) (out++es) j (by omega) (by grind) e
   rw[A11.e]
   simp_all
  have ek:(if isKey v.l[i] s.key=true then !decide (s.key=(⟨#[]⟩:ByteArray)) else false)=Ef v.l[i] s.key:=by unfold Ef Am;grind
  rw[A11.c]
  simp only[bD,Ao,d,Zd,aA,aS,Zt,cE,aF,aE,aM,aC d,aI,Akm s v.l[i] i (by omega),bI,Aft p (H0 s.key v.l[i] i) (by omega),eG,w,bM,bO,cP,cC,bL,u,eR,Azs v.l[i] s.key (by omega),fJ,gM,Aw,Al,ek,Ax4,Ax2,g]
  unfold Aop
  cases L:Ef v.l[i] s.key with
  | false=>
   simp only[aB,Zf,cJ,bW]
   refine go es1 m (by omega) λk=>?_
   rw[g,a]
   simp[sameKey,L]
  | true=>
   have e: ∀k,(X7 (Aix (Cw v.l[i] s.key) true m) k).getD false=(v.l.take (i+1)).any (sameKey s.key k):=by
    intro k
    rw[Ajc,a]
    unfold sameKey at g ⊢
    grind
   simp only[Zt,bN]
   cases B:(v.l.take i).any (sameKey s.key (Cw v.l[i] s.key)) with
   | true=>
    simp only[Zt,Anv _ _ 8 A (show(p++ [H0 s.key v.l[i] i]).length <=1099511627776 by simp;omega) (show(out++es1).length <=4398046511103 by grind),bI,A11.d,An5,aA]
    grind
   | false=>
    simp only[aB,Zf,A11.d,An5,aA,bW]
    grind
theorem Ad3 (s:Sch)(v:Val)(p:List Stp)(c:v.Ap<=1048576)(g:s.Ap<=1048576)(hp: ∀s∈p,s.fits)(j:p.length+v.Ap<=1073741824): ∀ (n i:Nat) (out:List IV),i+n=s.f.length->out.length+n<=4398046511103->
  W 116 3 [.list (p.map Stp.enc),.list (s.f.map cQ),.int s.f.length,.int i,v.enc,.list out]=some [.list (out++(s.f.drop i).flatMap (Ke v p))]
 | 0,i,out,h,m=>by
  have a: ¬ i<s.f.length:=by omega
  rw[A11.o,aG (by omega)]
  simp_all
 | n+1,i,out,h,m=>by
  have b:i<s.f.length:=by omega
  have t:=s.Bd
  have o:=Be (i:=i) (by omega)
  have q:=fY (aL b)
  have r:=H4 hp (Jj s.f[i].nm (by omega))
  obtain⟨w,d,_⟩:=Aq3 v s.f[i].nm c
  rw[A11.o,aD b,cB]
  unfold Ke
  have e:(if s.f[i].rq =true then !Lm v s.f[i].nm else false)=(s.f[i].rq && !Lm v s.f[i].nm):=by grind
  simp only[aA,bD,Ao,b,Zd,aS,Zt,cE,aF,aE,aM,aC b,aI,eL,d,Jl,gV,cM,Aw,Al,W9,bI,Aft p (Cd s.f[i].nm) (by omega),Anv out _ 7 r (show(p++ [Cd s.f[i].nm]).length <=1099511627776 by simp;omega) (by omega),A11.p,bQ,o,e]
  cases(s.f[i].rq && !Lm v s.f[i].nm) with
  | true=>
   have a:=Ad3 s v p c g hp j n (i+1) (out++ [Jc (p++ [Cd s.f[i].nm]) 7]) (by omega) (by simp;omega)
   simp only[Zt,a,bV]
   rfl
  | false=>
   have a:=Ad3 s v p c g hp j n (i+1) out (by omega) (by omega)
   simp only[aB,Zf,a,bF]
   rfl
theorem Azr (s:Sch)(v:Val)(p:List Stp)(h:v.Ap<=1048576)(j:s.Ap<=1048576)(a:SB s)(hp: ∀s∈p,s.fits)(m:p.length+v.Ap<=1073741824)(d: ∀x∈v.f,PgE x.2)(i:Nat)(c:i<v.f.length)(out:List IV)(o:out.length+(2+s.Ap) * v.f[i].2.size <=4398046511103)(t:Sch)(b:Du s v.f[i].1 =some t):
  W 87 0 [.list out,t.enc,v.f[i].2.enc,.list ((p++ [Cd v.f[i].1]).map Stp.enc)]=some [.list (out++Jy v.f[i].2 t (p++ [Cd v.f[i].1]))]/\(Jy v.f[i].2 t (p++ [Cd v.f[i].1])).length <=(2+s.Ap) * v.f[i].2.size :=by
 have q:=v.Bd
 have r:=eE (aL c)
 have e:=H4 hp (Jj v.f[i].1 (by omega))
 have g:=J0 b
 have u:=Ti v.f[i].2 t (p++ [Cd v.f[i].1]) (a.sub b)
 have w:(2+t.Ap) * v.f[i].2.size <=(2+s.Ap) * v.f[i].2.size :=aW (by omega) (bJ _)
 exact⟨d _ (aL c) (by omega) t (a.sub b) (by omega) _ out e (by simp;omega) (by omega),by omega⟩
theorem Ai1 (s t:Sch)(v:Val)(p:List Stp)(g:v.Ap<=1048576)(j:s.Ap<=1048576)(d:s.it= [t])(b:SB s)(hp: ∀s∈p,s.fits)(m:p.length+v.Ap<=1073741824)
  (o: ∀x∈v.f,PgE x.2): ∀ (n i:Nat) (out:List IV),i+n=v.f.length->out.length+(2+s.Ap) * B4 (v.f.drop i)<=4398046511103->
  W 87 1 [.list (p.map Stp.enc),.list (v.f.map bC),.int v.f.length,.int i,s.enc,.list out]=some [.list (out++Mk (v.f.drop i) s p)]
 | 0,i,out,h,e=>by
  have q: ¬ i<v.f.length:=by omega
  rw[A9.f,aG (by omega),Kz]
  simp_all
 | n+1,i,out,h,e=>by
  have c:i<v.f.length:=by omega
  have u:=v.Bd
  have w:=Be (i:=i) (by omega)
  have hd:=aD c
  rw[hd]at e ⊢
  rw[Jm]
  simp only[B4,cI]at e
  have a:Du s v.f[i].1 =some t:=by unfold Du;rw[d]
  have key: ∀es:List IV,es.length<=(2+s.Ap) * v.f[i].2.size ->W 87 2 [.list (p.map Stp.enc),.list (v.f.map bC),.int v.f.length,.int i,s.enc,.list (out++es)]=some [.list (out++(es++Mk (v.f.drop (i+1)) s p))]:=by
   intro es r
   have y:=Ai1 s t v p g j d b hp m o n (i+1) (out++es) (by omega) (by grind)
   rw[A9.g]
   simp_all
  obtain⟨q,z⟩:=Azr s v p g j b hp m o i c out (by omega) t a
  rw[A9.f]
  unfold Aew
  rw[a]
  simp only[bD,Ao,c,Zd,aA,aS,Zt,cE,aF,aE,aM,aC c,aI,iB,dY,eG,d,bM,bO,cP,cC,bL,dL,dF,W9,bI,Aft p (Cd v.f[i].1) (by omega),q]
  grind
theorem Aoc (s:Sch)(v:Val)(p:List Stp)(j:v.Ap<=1048576)(m:s.Ap<=1048576)(b:s.k=5)(a:s.it= [])(c:SB s)(hp: ∀s∈p,s.fits)(o:p.length+v.Ap<=1073741824)
  (r: ∀x∈v.f,PgE x.2): ∀ (n i:Nat) (out:List IV),i+n=v.f.length->out.length+s.f.length+(2+s.Ap) * B4 (v.f.drop i)<=4398046511103->
  W 116 1 [.list (p.map Stp.enc),.list (v.f.map bC),.int v.f.length,.int i,s.enc,v.enc,.list out]=some [.list (out++Mk (v.f.drop i) s p++s.f.flatMap (Ke v p))]
 | 0,i,out,h,q=>by
  have w: ¬ i<v.f.length:=by omega
  have y:=Ad3 s v p j m hp o s.f.length 0 out (by omega) (by omega)
  simp only[aK,aQ]at y
  rw[A11.m,aG (by omega),Kz]
  simp_all
 | n+1,i,out,h,q=>by
  have e:i<v.f.length:=by omega
  have B:=v.Bd
  have C:=Be (i:=i) (by omega)
  have F:=eE (aL e)
  have hd:=aD e
  rw[hd]at q ⊢
  rw[Jm]
  simp only[B4,cI]at q
  have t:=v.f[i].2.size_pos
  have u:1<=(2+s.Ap) * v.f[i].2.size :=by
   grind
  have z:=H4 hp (Jj v.f[i].1 (by omega))
  have g:Du s v.f[i].1 =(s.fld v.f[i].1).map (·.s):=by unfold Du;rw[a]
  have key: ∀es:List IV,es.length<=(2+s.Ap) * v.f[i].2.size ->W 116 2 [.list (p.map Stp.enc),.list (v.f.map bC),.int v.f.length,.int i,s.enc,v.enc,.list (out++es)]=some [.list (out++(es++Mk (v.f.drop (i+1)) s p)++s.f.flatMap (Ke v p))]:=by
   intro es A
   have G:=Aoc s v p j m b a c hp o r n (i+1) (out++es) (by omega) (by grind)
   rw[A11.n]
   simp_all
  rw[A11.m]
  unfold Aew
  simp only[bD,Ao,e,Zd,aA,aS,Zt,cE,aF,aE,aM,aC e,aI,dF,W9,bI,Aft p (Cd v.f[i].1) (by omega),Ad8 s v.f[i].1 (by omega),fJ,b,a,bG,and_self,Zd,bN,cM,iB,dY,dL,gD]
  rw[g]
  cases H:s.fld v.f[i].1 with
  | none=>
   simp only[dM,bE,Zt,Anv out _ 1 z (show(p++ [Cd v.f[i].1]).length <=1099511627776 by simp;omega) (by omega),bI,gK]
   grind
  | some d=>
   simp only[cK,aT,aB,Zf,aI,bZ]
   by_cases I:v.f[i].2.k =0
   ·grind
   ·obtain⟨w,J⟩:=Azr s v p j m c hp o r i e out (by omega) d.s (by grind)
    simp_all
theorem Ayr: ∀v:Val,PgE v:=by
 refine eJ λv i d j s a m p out hp q Q=>?_
 have w:=v.size_pos
 have x:1<=(2+s.Ap) * v.size:=by
  grind
 have e: ∀c,W 88 0 [.list out,.list (p.map Stp.enc),.int c]=some [.list (out++ [Jc p c])]:=λc=>Anv out p c hp (by omega) (by omega)
 have C:=v.size_eq
 have F:=s.Bd
 have hle:=s.Kt
 rw[A9.e,Ji]
 simp only[dR,gH,aA,dY,aS,e,bI]
 by_cases G:v.k=s.k
 ·simp only[G,Zd,aT,aB,Zf,Zt,aV,aA,aS]
  by_cases k2:s.k=2
  ·simp only[k2,Zd,Zt,gN,dN,dO,bD,cR,aA,aS,Aw,Al,Wh]
   grind
  ·by_cases y:s.k=3
   ·simp only[y,show ¬ (3:Int)=2 by omega,Ze,aB,Zf,Zd,Zt,gG,dN,dO,eH,cD,aH,cT,bD,cR,aA,aS,Aw,Al,Nv s.en v.s (by omega),bI,cM]
    grind
   ·by_cases z:s.k=4
    ·obtain⟨t,H⟩:=bU.1 (a.list z)
     have b:(2+s.Ap) * (1+Cv v.l)<=(2+s.Ap) * v.size:=aW (bJ _) (by omega)
     rw[cI]at b
     have I:=Wl p s v.l.length
     have g:=Agx s t v p j m H a hp q i v.l.length 0 (out++Wh p s v.l.length) [] (by omega) (by grind) (λk=>rfl)
     simp only[aK,aQ,fK]at g
     have J:W 108 0 [.list out,s.enc,v.enc,.list (p.map Stp.enc)]=some [.list (out++(Wh p s v.l.length++K3 v.l s.key t p []))]:=by
      have K: ∀o:List IV,o=out++Wh p s v.l.length->W 108 1 [.list (p.map Stp.enc),s.enc,v.enc,.list o]=some [.list (out++(Wh p s v.l.length++K3 v.l s.key t p []))]:=by
       intro o L
       rw[A11.b,L]
       simp only[dE,cD,aH,aA]
       rw[<-bV]
       exact g
      rw[A11.a]
      simp only[dE,dN,dO,cD,aH,bD,cR,aA,aS,Aw,Al,e,bI]
      by_cases A:(v.l.length:Int)<s.mn<;>by_cases B:s.mx<(v.l.length:Int)<;>simp only[A,B,Zd,Ze,Zt,Zf,aB]<;>exact K _ (by simp[Wh,A,B])
     simp_all
    ·by_cases u:s.k=5
     ·have b:(2+s.Ap) * (1+B4 v.f)<=(2+s.Ap) * v.size:=aW (bJ _) (by omega)
      rw[cI]at b
      simp only[u,show ¬ (5:Int)=2 by omega,show ¬ (5:Int)=3 by omega,show ¬ (5:Int)=4 by omega,Ze,aB,Zf,Zd,Zt,Amj,bI,bN,aS]
      cases h:s.it with
      | nil=>
       have g:=Aoc s v p j m u h a hp q d v.f.length 0 out (by omega) (by grind)
       simp only[aK,aQ]at g
       have J:W 116 0 [.list out,s.enc,v.enc,.list (p.map Stp.enc)]=some [.list (out++(Mk v.f s p++s.f.flatMap (Ke v p)))]:=by
        rw[A11.l,<-bV]
        simp_all
       simp_all
      | cons t r=>
       have M:r= []:=by have:=a.one;simp_all
       subst M
       have N:=a.nof (by grind)
       have g:=Ai1 s t v p j m h a hp q d v.f.length 0 out (by omega) (by grind)
       simp_all
     ·simp only[k2,y,z,u,Ze,aB,Zf,Amj,bI,cJ,aS,bW]
 grind
theorem Ah5 (v:Val)(b:v.Ap<=1048576)(s:Sch)(a:SB s)(c:s.Ap<=1048576):W 86 0 [s.enc,v.enc]=some [.list (Jy v s [])]:=by
 have d:=v.Gb
 have hmul:(2+s.Ap) * v.size<=1048578 * 1048576:=aW (by omega) (by omega)
 have h:=Ayr v b s a c [] [] (by simp) (by simp;omega) (by simp;omega)
 simp only[bO,bF]at h
 rw[A9.d]
 simp_all
end Go.CT.Sch
namespace Go.CT.Sch
open Go.Proofs
def J1 (o:Option ByteArray)(x:ByteArray):Bool:=match o with | none=>true | some q=>blt q x
def Axm (mn mx:Int):Option ByteArray->List ByteArray->Bool
 | _,[]=>true
 | o,x::r=>J9 x&&decide (mn<=x.size)&&decide ((x.size:Int)<=mx)&&J1 o x&&Axm mn mx (some x) r
def A4e (x:SFld):Bool:=x.df.all λv=> !decide (v.k=0)&&v.valid&&decide ((Jy v x.s []).length =0)
def fOk (g:Sch->Bool):Option ByteArray->List SFld->Bool
 | _,[]=>true
 | o,x::r=>De x.nm&&J1 o x.nm&&g x.s&&decide (x.df.length<=1)&&A4e x&&fOk g (some x.nm) r
def Il (s:Sch):Bool:=decide (s.key=Am)&&decide (s.it.length=0)&&decide (s.f.length=0)
def Ase (s:Sch)(m:Int):Bool:=decide (0<=s.mn)&&decide (s.mn<=s.mx)&&decide (s.mx<=m)
def Xa (s:Sch):Bool:=decide (s.key=Am)||(match s.it with | t::_=>decide (t.k=5)&&(t.fld s.key).isSome &&((t.fld s.key).getD T4).rq &&decide (((t.fld s.key).getD T4).s.k =3) | []=>false)
def Cl:Nat->Sch->Bool
 | 0,_=>false
 | d+1,s=>
  if s.k=1 then Il s&&decide (s.mn=0)&&decide (s.mx=0)&&decide (s.en.length=0)
  else if s.k=2 then Il s&&decide (-1000000000000000<=s.mn)&&decide (s.mn<=s.mx)&&decide (s.mx<=1000000000000000)&&decide (s.en.length=0)
  else if s.k=3 then Il s&&Ase s 200&&Axm s.mn s.mx none s.en&&decide (s.en.length<=64)
  else if s.k=4 then Ase s 64&&decide (s.en.length=0)&&decide (s.f.length=0)&&decide (s.it.length=1)&&Xa s&&s.it.all (Cl d)
  else if s.k=5 then decide (s.mn=0)&&decide (s.mx=0)&&decide (s.en.length=0)&&decide (s.key=Am)&&decide (s.it.length<=1)&&(decide (s.it.length=0)||decide (s.f.length=0))&&decide (s.f.length<=64)&&s.it.all (Cl d)&&fOk (Cl d) none s.f
  else false
def valid (s:Sch):Bool:=Cl 12 s
theorem Al9 {g:Sch->Bool} : ∀ {l:List SFld} {o:Option ByteArray},fOk g o l=true-> ∀x∈l,De x.nm=true/\g x.s=true/\x.df.length<=1/\A4e x=true
 | [],_,_,x,a=>by simp at a
 | y::r,o,h,x,a=>by
  simp only[fOk,aJ,decide_eq_true_eq]at h
  rcases bH.1 a with rfl | a
  ·exact⟨h.1.1.1.1.1,h.1.1.1.2,h.1.1.2,h.1.2⟩
  ·exact Al9 h.2 x a
theorem Hj: ∀ (d:Nat) (s:Sch),Cl d s=true->SB s
 | 0,s,h=>by simp[Cl]at h
 | d+1,s,h=>by
  have leaf:s.k≠4->Il s=true->SB s:=λg h=>by
   simp only[Il,aJ,decide_eq_true_eq]at h
   have a:s.it= []:=aU.1 h.1.2
   have b:s.f= []:=aU.1 h.2
   exact .mk s (by omega) (λe=>absurd a e) (λe=>absurd e g) (by simp[a]) (by simp[b])
  unfold Cl at h
  split at h
  ·simp only[aJ]at h;exact leaf (by omega) h.1.1.1
  ·split at h
   ·simp only[aJ]at h;exact leaf (by omega) h.1.1.1.1
   ·split at h
    ·simp only[aJ]at h;exact leaf (by omega) h.1.1.1
    ·split at h
     ·simp only[aJ,decide_eq_true_eq,aY]at h
      have b:s.f= []:=aU.1 h.1.1.1.2
      exact .mk s (by omega) (λ_=>b) (λ_=>h.1.1.2) (λx c=>Hj d x (h.2 x c)) (by simp[b])
     ·split at h
      ·simp only[aJ,decide_eq_true_eq,aY,eI]at h
       refine .mk s h.1.1.1.1.2 (λe=>?_) (λe=>by omega) (λx c=>Hj d x (h.1.2 x c)) (λp hp=>Hj d p.s (Al9 h.2 p hp).2.1)
       rcases h.1.1.1.2 with a | a
       ·exact absurd (aU.1 a) e
       ·exact aU.1 a
      ·cases h
def Q3 (l:List SFld):Nat->Option ByteArray
 | 0=>none
 | i+1=>(l[i]?).map (·.nm)
def S8 (l:List ByteArray):Nat->Option ByteArray
 | 0=>none
 | i+1=>l[i]?
theorem Aiw (s:Sch):W 8 0 [s.enc]=some [.bool (Il s)]:=by
 rw[A1.d]
 simp only[eR,eG,eF,cD,aH,aA,fW,aV,aS,Aw,Al,Ds]
 congr 3
 unfold Il
 rw[aX]
 simp[and_assoc]
theorem Abl (s:Sch)(m:s.Ap<=1048576): ∀ (n i:Nat),i+n=s.en.length->
  W 9 1 [.int i,s.enc]=some [.bool (Axm s.mn s.mx (S8 s.en i) (s.en.drop i)&&(Il s&&Ase s 200&&decide (s.en.length<=64)))]
 | 0,i,h=>by
  have o: ¬ i<s.en.length:=by omega
  rw[A1.f,aG (by omega)]
  simp only[eH,cD,aH,aA,bD,Ao,o,Ze,aS,aB,Zf,Aiw,bI,dN,dO,fP,eW,Aw,Al]
  congr 3
  unfold Ase Axm
  rw[aX]
  simp[and_assoc]
  omega
 | n+1,i,h=>by
  have a:i<s.en.length:=by omega
  have t:=s.Kt
  have q:=Be (i:=i) (by omega)
  have j:=Abl s m n (i+1) (by omega)
  have u:=Sch.Atg (aL a)
  have c:S8 s.en (i+1)=some s.en[i]:=by simp[S8,a]
  rw[c]at j
  rw[A1.f,aD a]
  simp only[Axm,eH,cD,aH,aA,bD,Ao,a,Zd,aS,Zt,cE,aF,aE,aM,aC a,aI,cT,Awz s.en[i] (by omega),bI,cM,dN,dO,cR,bQ,q,j]
  generalize (Il s&&Ase s 200&&decide (s.en.length<=64))=R
  cases i with
  | zero=>
   simp only[S8,J1]
   by_cases d:s.mn<=(s.en[0].size :Int)<;>by_cases e:(s.en[0].size :Int)<=s.mx<;>cases J9 s.en[0]<;>simp[d,e,gQ.2,gR.1]
  | succ i=>
   have b:i<s.en.length:=by omega
   have g:IntKind.i64.wrap (((i+1:Nat):Int) - 1)=i:=by rw[wrap64 (by omega) (by omega)];omega
   have hp:(0:Int)<((i+1:Nat):Int):=by omega
   simp only[S8,aC b,J1,fQ,g,hp,Zd,Zt,aF,aE,aI,aA,Aeg]
   by_cases d:s.mn<=(s.en[i+1].size :Int)<;>by_cases e:(s.en[i+1].size :Int)<=s.mx<;>cases J9 s.en[i+1]<;>cases r:blt s.en[i] s.en[i+1]<;>simp[d,e,gQ.2,gR.1,aC b,Aeg,r, -O.Ake]
theorem Vv (d:Nat)(s:Sch)(hd:d<=12)(N:s.Ap<=1048576)(M: ∀p∈s.f,W 7 0 [p.s.enc,.int d]=some [.bool (Cl d p.s)]): ∀ (n i:Nat),i+n=s.f.length->
  W 13 1 [.int ((d+1:Nat):Int),.int i,s.enc]=some [.bool (fOk (Cl d) (Q3 s.f i) (s.f.drop i))]
 | 0,i,h=>by
  have q: ¬ i<s.f.length:=by omega
  rw[A1.n,aG (by omega)]
  simp only[eF,cD,aH,aA,bD,Ao,q,Ze,aS,aB,Zf,fOk]
 | n+1,i,h=>by
  have e:i<s.f.length:=by omega
  have X:=s.Bd
  have Q:=Be (i:=i) (by omega)
  have r:IntKind.i64.wrap (((d+1:Nat):Int) - 1)=(d:Int):=by rw[wrap64 (by omega) (by omega)];omega
  have Y:=fY (aL e)
  have c:=Vv d s hd N M n (i+1) (by omega)
  have t:Q3 s.f (i+1)=some s.f[i].nm :=by simp[Q3,e]
  rw[t]at c
  have R:=M _ (aL e)
  -- the order
  have g: ∀ (K:IV->Option IV),((O.gt (.int i) (.int 0)).bind λu=>
    (cnd u (
      (O.sub .i64 (.int i) (.int 1)).bind λw=>
      (eU (.list (s.f.map cQ)) w).bind λx=>
      (dG 0 x).bind λy=>
      (O.sLe (.str s.f[i].nm) y).bind λz=>
      some z) (some (.bool false))).bind K)=K (.bool (!J1 (Q3 s.f i) s.f[i].nm)):=by
   intro K
   cases i with
   | zero=>simp[Q3,J1]
   | succ j=>
    have S:j<s.f.length:=by omega
    have A:IntKind.i64.wrap (((j+1:Nat):Int) - 1)=j:=by rw[wrap64 (by omega) (by omega)];omega
    have hp:(0:Int)<((j+1:Nat):Int):=by omega
    simp only[Q3,aC S,aI,J1,cR,hp,Zd,aA,aS,Zt,fQ,A,cE,aF,aE,aM,eL,Aeg]
  have B:eU (.list (s.f.map cQ)) (.int i)=some s.f[i].enc :=by
   simp only[cE,aF,Zt,aE,aM,aC e,aI]
  rw[A1.n,aD e]
  simp only[eF,cD,aH,aA,bD,Ao,e,Zd,aS,Zt,B,eL,fOk,Anq s.f[i].nm (by omega),bI,cM]
  simp only[g]
  simp only[eL,SFld.Cj,gD,bI,cM,aS,fQ,r,R,bQ,Q,c,cD,aH,cR,aV,aA]
  cases De s.f[i].nm with
  | false=>simp
  | true=>
   cases J1 (Q3 s.f i) s.f[i].nm with
   | false=>simp
   | true=>
    cases C:Cl d s.f[i].s with
    | false=>simp
    | true=>
     by_cases hlen:s.f[i].df.length <=1
     ·have a: ¬ (1:Int)<s.f[i].df.length :=by omega
      have F:=Hj d _ C
      unfold A4e
      by_cases q:s.f[i].df.length =1
      ·obtain⟨v,m⟩:=bU.1 q
       have T:=Sch.Az2 (aL e) (show v∈s.f[i].df by rw[m];simp)
       have G:=Apt v (by omega) s.f[i].s F (by omega) [] (by simp) (by simp;omega)
       simp only[bO]at G
       have H:=T0 v (by omega)
       rw[m]
       by_cases o:v.k=0
       ·simp[o]
       ·cases b:v.valid with
        | false=>simp[o,H,b]
        | true=>
         by_cases I:(Jy v s.f[i].s []).length =0
         ·simp[o,H,b,G,aU.1 I]
         ·have J:0<(Jy v s.f[i].s []).length :=Nat.pos_of_ne_zero I
          have L: ¬ Jy v s.f[i].s []= []:=λh=>I (by rw[h];rfl)
          simp[o,H,b,G,J,L]
      ·have U:s.f[i].df = []:=aU.1 (by omega)
       simp[U]
     ·have a:(1:Int)<s.f[i].df.length :=by omega
      simp[a,hlen]
theorem egL (mn mx:Int)(a b c:Nat):(if(if(if(if(if decide (mn<0)=true then true else decide (mx<mn))=true then true else decide ((64:Int)<mx))=true then true else decide ((0:Int)<(a:Int)))=true then true else decide ((0:Int)<(b:Int)))=true then true else !decide ((c:Int)=1))= !(decide (0<=mn)&&decide (mn<=mx)&&decide (mx<=64)&&decide (a=0)&&decide (b=0)&&decide (c=1)):=by
 rw[aX];simp;omega
theorem egS (mn mx:Int)(a b c:Nat)(k:Bool):(if(if(if(if(if(if(!decide (mn=0))=true then true else !decide (mx=0))=true then true else decide ((0:Int)<(a:Int)))=true then true else !k)=true then true else decide ((1:Int)<(b:Int)))=true then true else if decide ((b:Int)=1)=true then decide ((0:Int)<(c:Int)) else false)=true then true else decide ((64:Int)<(c:Int)))
  = !(decide (mn=0)&&decide (mx=0)&&decide (a=0)&&k&&decide (b<=1)&&(decide (b=0)||decide (c=0))&&decide (c<=64)):=by
 cases k
 ·simp
 ·rw[aX];simp;omega
theorem U9: ∀ (d:Nat) (s:Sch),d<=12->s.Ap<=1048576->W 7 0 [s.enc,.int d]=some [.bool (Cl d s)]
 | 0,s,hd,o=>by rw[A1.c];simp[Cl]
 | d+1,s,hd,o=>by
  have q: ¬ ((d+1:Nat):Int)=0:=by omega
  have r:IntKind.i64.wrap (((d+1:Nat):Int) - 1)=(d:Int):=by rw[wrap64 (by omega) (by omega)];omega
  have g: ∀t∈s.it,W 7 0 [t.enc,.int d]=some [.bool (Cl d t)]:=λt b=>U9 d t (by omega) (by have:=fL b;omega)
  have u: ∀p∈s.f,W 7 0 [p.s.enc,.int d]=some [.bool (Cl d p.s)]:=λp hp=>U9 d p.s (by omega) (by have:=fY hp;omega)
  rw[A1.c]
  unfold Cl
  simp only[aV,q,Ze,aA,aS,aB,Zf,gH,dN,dO,eH,Aiw,bI,eW,cD,aH]
  by_cases k1:s.k=1
  ·simp only[k1,Zd,Zt,aA,aS,Aw,Al]
   congr 3
   rw[aX];simp[and_assoc]
  ·by_cases k2:s.k=2
   ·simp only[k2,show ¬ (2:Int)=1 by omega,Zd,Ze,aB,Zf,Zt,aA,aS,Aw,Al]
    congr 3
    rw[aX];simp[and_assoc]
   ·by_cases z:s.k=3
    ·have b:=Abl s o s.en.length 0 (by omega)
     simp only[aK,aQ,S8]at b
     simp only[z,show ¬ (3:Int)=1 by omega,show ¬ (3:Int)=2 by omega,Zd,Ze,aB,Zf,Zt,A1.e,b,bI]
     congr 3
     generalize Axm s.mn s.mx none s.en=a
     cases a<;>cases Il s<;>cases Ase s 200<;>simp
    ·by_cases A:s.k=4
     ·have w:W 11 0 [s.enc,.int ((d+1:Nat):Int)]=some [.bool (Ase s 64&&decide (s.en.length=0)&&decide (s.f.length=0)&&decide (s.it.length=1)&&Xa s&&s.it.all (Cl d))]:=by
       rw[A1.i]
       simp only[dN,dO,eH,eG,eF,cD,aH,aA,bD,cR,dY,aS,Aw,Al]
       have eg:(if(if(if(if(if decide (s.mn<0)=true then true else decide (s.mx<s.mn))=true then true else decide ((64:Int)<s.mx))=true then true else decide ((0:Int)<(s.en.length:Int)))=true then true else decide ((0:Int)<(s.f.length:Int)))=true then true else !decide ((s.it.length:Int)=1))= !(Ase s 64&&decide (s.en.length=0)&&decide (s.f.length=0)&&decide (s.it.length=1)):=by
        exact egL s.mn s.mx s.en.length s.f.length s.it.length
       rw[eg]
       cases i:(Ase s 64&&decide (s.en.length=0)&&decide (s.f.length=0)&&decide (s.it.length=1)) with
       | false=>simp
       | true=>
        simp only[aJ,decide_eq_true_eq]at i
        obtain⟨t,b⟩:=bU.1 i.2
        have j:t∈s.it:=by rw[b];simp
        have C:=fL j
        have x:W 11 1 [.int ((d+1:Nat):Int),s.enc]=some [.bool (Cl d t)]:=by
         rw[A1.j]
         simp only[eG,b,bM,bO,aA,cE,cP,Zt,cC,bL,fQ,r,g t j,bI]
        have y:=Aal t s.key (by omega)
        simp only[aT,aB,Zf,eR,aA,gM,aS,x,b,bM,bO,cE,cP,Zt,cC,bL,y,fJ,gH,gV,SFld.Cm,dY,cM,Aw,Al,bT,cN,dI,bN,Xa,Ds]
        by_cases c:s.key=Am
        ·simp[c]
        ·by_cases F:t.k=5<;>by_cases G:((t.fld s.key).getD T4).s.k =3<;>cases(t.fld s.key).isSome<;>cases((t.fld s.key).getD T4).rq<;>simp[c,F,G]
      simp only[A,show ¬ (4:Int)=1 by omega,show ¬ (4:Int)=2 by omega,show ¬ (4:Int)=3 by omega,Zd,Ze,aB,Zf,Zt,w,bI]
     ·by_cases B:s.k=5
      ·have e:=Vv d s (by omega) o u s.f.length 0 (by omega)
       simp only[aK,aQ,Q3]at e
       have w:W 13 0 [s.enc,.int ((d+1:Nat):Int)]=some [.bool (decide (s.mn=0)&&decide (s.mx=0)&&decide (s.en.length=0)&&decide (s.key=Am)&&decide (s.it.length<=1)&&(decide (s.it.length=0)||decide (s.f.length=0))&&decide (s.f.length<=64)&&s.it.all (Cl d)&&fOk (Cl d) none s.f)]:=by
        rw[A1.m]
        simp only[dN,dO,eH,eR,eG,eF,cD,aH,aA,gM,cR,aV,dY,aS,Aw,Al,Ds]
        have eg:(if(if(if(if(if(if(!decide (s.mn=0))=true then true else !decide (s.mx=0))=true then true else decide ((0:Int)<(s.en.length:Int)))=true then true else !decide (s.key=Am))=true then true else decide ((1:Int)<(s.it.length:Int)))=true then true else if decide ((s.it.length:Int)=1)=true then decide ((0:Int)<(s.f.length:Int)) else false)=true then true else decide ((64:Int)<(s.f.length:Int)))
          = !(decide (s.mn=0)&&decide (s.mx=0)&&decide (s.en.length=0)&&decide (s.key=Am)&&decide (s.it.length<=1)&&(decide (s.it.length=0)||decide (s.f.length=0))&&decide (s.f.length<=64)):=by
         exact egS s.mn s.mx s.en.length s.it.length s.f.length _
        rw[eg]
        cases i:(decide (s.mn=0)&&decide (s.mx=0)&&decide (s.en.length=0)&&decide (s.key=Am)&&decide (s.it.length<=1)&&(decide (s.it.length=0)||decide (s.f.length=0))&&decide (s.f.length<=64)) with
        | false=>simp
        | true=>
         simp only[aJ,eI,decide_eq_true_eq]at i
         by_cases H:s.it.length=1
         ·obtain⟨t,b⟩:=bU.1 H
          have I:s.f= []:=by
           rcases i.1.2 with h | h
           ·omega
           ·exact aU.1 h
          have J:=g t (by rw[b];simp)
          have m:IntKind.i64.wrap (d:Int)=(d:Int):=wrap64 (by omega) (by omega)
          simp[b,I,m,J,fOk]
         ·have K:s.it= []:=aU.1 (by omega)
          push_cast at e
          simp[K,e]
       simp only[B,show ¬ (5:Int)=1 by omega,show ¬ (5:Int)=2 by omega,show ¬ (5:Int)=3 by omega,show ¬ (5:Int)=4 by omega,Zd,Ze,aB,Zf,Zt,w,bI]
      ·simp only[k1,k2,z,A,B,Ze,aB,Zf]
theorem Qq (s:Sch)(a:s.Ap<=1048576):W 6 0 [s.enc]=some [.bool s.valid]:=by
 rw[A1.b]
 have:W 7 0 [s.enc,.int 12]=some [.bool s.valid]:=U9 12 s (by omega) a
 simp only[this,bI]
end Go.CT.Sch
namespace Go.CT.Sch
open Go.Proofs
theorem Amz (nm:ByteArray):(Azk [(nm,Au)]).valid =De nm:=by
 have a:Aau [(nm,Au)]= [(nm,Au)]:=Awg (cF _ _)
 unfold Azk
 rw[a]
 unfold fO
 have b:Ca 11 Au=true:=by decide
 simp only[Ca,Val.A4c,Val.A5p,iE,Val.Wf,iF,Ge,bT,cN,b,rising,Val.size,Cv,B4,Au]
 simp
theorem Ax1 (nm:ByteArray)(t:nm.size<=1048576)(K:IV->Option (List IV)):(O.Sg [.str nm,(.int 0),(.int 0),(.str ⟨#[]⟩),(.list []),(.list [])]).bind (λo=>
  (O.Ou [o]).bind λq=>
  calls (W 72 0 [q]) 5 λb c d g h=>
  (O.Sg [b,c,d,g,h]).bind λi=>
  calls (W 57 0 [i]) 1 K)=K (.bool (De nm)):=by
 have e:IV.agg [.str nm,(.int 0),(.int 0),(.str ⟨#[]⟩),(.list []),(.list [])]=bC (nm,Au):=rfl
 have a:Cn [(nm,Au)]<=4294967200:=by
  rw[B7,Cq,hQ]
  simp only[Au,iE,Val.Wf,iF,Er,Cq,show Am.size=0 from rfl];omega
 have j:=Atz [(nm,Au)] a
 have r:(Azk [(nm,Au)]).Ap <=1099511627776:=by have:=Av8 [(nm,Au)];omega
 have m:=I3 _ r
 rw[Amz]at m
 rw[eP]at j
 simp only[bM,bO]at j
 simp only[eV,fX,aA,e,j,gT,hZ,m,bI]
theorem Arb (s:Sch)(m:Int):W 54 0 [s.enc,.int m]=some [.bool (Ase s m)]:=by
 rw[A6.m]
 simp only[dN,dO,eW,aA,aS,Aw,Al]
 congr 3
 unfold Ase
 grind
theorem Ai2 (s:Sch)(x:s.Ap<=1048576): ∀ (n i:Nat),i+n=s.en.length->
  W 55 1 [.list (s.en.map .str),.int s.en.length,.int i,s.enc]=some [.bool (Axm s.mn s.mx (S8 s.en i) (s.en.drop i)&&decide (s.en.length<=64))]
 | 0,i,h=>by
  have y: ¬ i<s.en.length:=by omega
  rw[A6.o,aG (by omega)]
  simp only[eH,cD,aH,aA,bD,Ao,y,Ze,aS,aB,Zf,eW,Axm,bN]
  congr 3
  grind
 | n+1,i,h=>by
  have b:i<s.en.length:=by omega
  have F:=s.Kt
  have z:=Be (i:=i) (by omega)
  have u:=Ai2 s x n (i+1) (by omega)
  have G:=Sch.Atg (aL b)
  have c:S8 s.en (i+1)=some s.en[i]:=by simp[S8,b]
  rw[c]at u
  have e:IV.agg [.int 3,.int 0,.str s.en[i],.list [],.list []]=bR ⟨3,0,s.en[i],[],[]⟩:=rfl
  have w:=I3 ⟨3,0,s.en[i],[],[]⟩ (by rw[hQ];simp[Er,Cq];omega)
  rw[Air]at w
  have d:eU (.list (s.en.map .str)) (.int i)=some (.str s.en[i]):=by
   simp_all
  have a: ∀ (K:IV->Option IV),((O.gt (.int i) (.int 0)).bind λg=>
    (cnd g (
     (dG 3 s.enc).bind λm=>
     (O.sub .i64 (.int i) (.int 1)).bind λo=>
     (eU m o).bind λq=>
     (O.sGe q (.str s.en[i])).bind λr=>
     some r) (some (.bool false))).bind K)=K (.bool (!J1 (S8 s.en i) s.en[i])):=by
   intro K
   cases i with
   | zero=>simp[S8,J1]
   | succ j=>
    have A:j<s.en.length:=by omega
    have t:IntKind.i64.wrap (((j+1:Nat):Int) - 1)=j:=by rw[wrap64 (by omega) (by omega)];omega
    have hp:(0:Int)<((j+1:Nat):Int):=by omega
    simp only[eH,S8,aC A,aI,J1,cR,hp,Zd,aA,aS,Zt,fQ,t,cE,aF,aE,aM,Ud]
  rw[A6.o,aD b]
  simp only[Axm,aA,bD,Ao,b,Zd,aS,Zt,d]
  simp only[a]
  simp only[cT,dN,dO,aA,bD,cR,aS,A6.p,gT,eV,e,w,bI,cM,bQ,z,u]
  by_cases B:s.mn<=(s.en[i].size :Int)<;>by_cases C:(s.en[i].size :Int)<=s.mx<;>cases J9 s.en[i]<;>cases J1 (S8 s.en i) s.en[i]<;>simp[B,C,gQ.2,gR.1]
theorem A2z (s:Sch)(a:s.Ap<=1048576):W 55 0 [s.enc]=some [.bool (Axm s.mn s.mx none s.en&&decide (s.en.length<=64))]:=by
 have h:=Ai2 s a s.en.length 0 (by omega)
 simp only[aK,aQ,S8]at h
 rw[A6.n]
 simp_all
theorem Azi (s t:Sch)(m:s.Ap<=1048576)(d:s.it= [t])(a:SB t):W 63 0 [s.enc]=some [.bool (Xa s)]:=by
 have g:=fL (show t∈s.it by grind)
 have b:=Ad8 t s.key (by omega)
 rw[A7.n]
 unfold Xa
 simp only[eG,d,bM,bO,cE,cP,Zt,cC,bL,aA,eR,b,fJ,fW,aS,gV,SFld.Cm,aV,Aw,Al,Ds]
 congr 3
 by_cases c:s.key=Am
 ·simp[c]
 ·by_cases o:t.k=5
  ·by_cases h:t.it.length=0
   ·grind
   ·have i:t.f= []:=a.nof λe=>h (by rw[e];rfl)
    have j:t.fld s.key=none:=by unfold Sch.fld;grind
    grind
  grind
theorem Zi (d:Nat)(s:Sch)(hd:d<=12)(o:s.Ap<=1048576)(i:Nat)(c:i<s.f.length)(a:SB s.f[i].s): ∀ (n j:Nat),j+n=s.f[i].df.length ->
  W 71 2 [.int d,.list (s.f.map cQ),.int s.f.length,.int i,.list (s.f[i].df.map bR),.int s.f[i].df.length,.int j,s.enc,s.f[i].enc]
   =if((s.f[i].df.drop j).all λv=> !decide (v.k=0)&&v.valid&&decide ((Jy v s.f[i].s []).length =0))=true then W 71 1 [.int d,.list (s.f.map cQ),.int s.f.length,.int ((i+1:Nat):Int),s.enc]else some [.bool false]
 | 0,j,h=>by
  have x: ¬ j<s.f[i].df.length :=by omega
  have q:=s.Bd
  have e:=Be (i:=i) (by omega)
  rw[A8.j,aG (by omega)]
  simp_all
 | n+1,j,h=>by
  have b:j<s.f[i].df.length :=by omega
  have q:=fY (aL c)
  have y:=Gv (fS (f:=bR) (aL b))
  have r:=Sch.Az2 (aL c) (aL b)
  have hlen:s.f[i].df.length <=Dv s.f[i].df :=by have:=D9 (s.f[i].df.map bR);rw[aH]at this;exact this
  have e:=Be (i:=j) (by omega)
  have t:=Zi d s hd o i c a n (j+1) (by omega)
  have u:=I3 s.f[i].df[j] (by omega)
  have w:=Ah5 s.f[i].df[j] (by omega) s.f[i].s a (by omega)
  rw[A8.j,aD b,bT]
  simp only[bD,Ao,b,Zd,aA,aS,Zt,cE,aF,aE,aM,aC b,aI,dR,aV,u,bI,cM,gD,w,cD,cR,bQ,e,t]
  by_cases g:s.f[i].df[j].k =0
  ·simp[g]
  ·cases m:s.f[i].df[j].valid with
   | false=>simp[g]
   | true=>
    by_cases z:(Jy s.f[i].df[j] s.f[i].s []).length =0
    ·simp_all
    simp_all
theorem Aae (d:Nat)(s:Sch)(hd:d<=12)(z:s.Ap<=1048576)(A: ∀p∈s.f,W 53 0 [p.s.enc,.int d]=some [.bool (Cl d p.s)]): ∀ (n i:Nat),i+n=s.f.length->
  W 71 1 [.int d,.list (s.f.map cQ),.int s.f.length,.int i,s.enc]=some [.bool (fOk (Cl d) (Q3 s.f i) (s.f.drop i))]
 | 0,i,h=>by
  have C: ¬ i<s.f.length:=by omega
  rw[A8.i,aG (by omega)]
  simp only[bD,Ao,C,Ze,aA,aS,aB,Zf,fOk]
 | n+1,i,h=>by
  have c:i<s.f.length:=by omega
  have H:=s.Bd
  have I:=fY (aL c)
  have b:=Aae d s hd z A n (i+1) (by omega)
  have g:Q3 s.f (i+1)=some s.f[i].nm :=by simp[Q3,c]
  rw[g]at b
  have F:=A _ (aL c)
  have m:eU (.list (s.f.map cQ)) (.int i)=some s.f[i].enc :=by
   simp_all
  have e: ∀ (K:IV->Option IV),((O.gt (.int i) (.int 0)).bind λo=>
    (cnd o (
      (dG 6 s.enc).bind λq=>
      (O.sub .i64 (.int i) (.int 1)).bind λr=>
      (eU q r).bind λt=>
      (dG 0 t).bind λu=>
      (O.sGe u (.str s.f[i].nm)).bind λw=>
      some w) (some (.bool false))).bind K)=K (.bool (!J1 (Q3 s.f i) s.f[i].nm)):=by
   intro K
   cases i with
   | zero=>simp[Q3,J1]
   | succ j=>
    have G:j<s.f.length:=by omega
    have x:IntKind.i64.wrap (((j+1:Nat):Int) - 1)=j:=by rw[wrap64 (by omega) (by omega)];omega
    have hp:(0:Int)<((j+1:Nat):Int):=by omega
    simp only[eF,Q3,aC G,aI,J1,cR,hp,Zd,aA,aS,Zt,fQ,x,cE,aF,aE,aM,eL,Ud]
  rw[A8.i,aD c]
  simp only[bD,Ao,c,Zd,aA,aS,Zt,m,eL,fOk]
  rw[Ax1 s.f[i].nm (by omega)]
  simp only[cM,aA]
  simp only[e]
  simp only[SFld.Cj,gD,bI,cM,aS,F,cD,aH,cR,aA]
  cases De s.f[i].nm with
  | false=>simp
  | true=>
   cases J1 (Q3 s.f i) s.f[i].nm with
   | false=>simp
   | true=>
    cases y:Cl d s.f[i].s with
    | false=>simp
    | true=>
     by_cases hlen:s.f[i].df.length <=1
     ·have a: ¬ (1:Int)<s.f[i].df.length :=by omega
      have B:=Zi d s hd z i c (Hj d _ y) s.f[i].df.length 0 (by omega)
      simp only[aK,aQ,b]at B
      simp only[aT,aB,Zf,a,Ze,aA,aS,B,A4e,hlen,Zd,bN]
      grind
     ·have a:(1:Int)<s.f[i].df.length :=by omega
      simp[a,hlen]
theorem Ayu (d:Nat)(s:Sch)(hd:d<=12)(j:s.Ap<=1048576)(m:s.it.length<=1)(b: ∀t∈s.it,W 53 0 [t.enc,.int d]=some [.bool (Cl d t)]):
  W 68 0 [.list (s.it.map gW),.int ((d+1:Nat):Int)]=some [.bool (!s.it.all (Cl d))]:=by
 have c:IntKind.i64.wrap (((d+1:Nat):Int) - 1)=(d:Int):=by rw[wrap64 (by omega) (by omega)];omega
 rw[A8.d,A8.e]
 cases e:s.it with
 | nil=>
  simp only[bO,cD,bG,aA,aK]
  rw[A8.f]
  simp
 | cons t r=>
  have g:r= []:=by simp_all
  subst g
  have o:=b t (by grind)
  have h:W 70 0 [t.enc,.int ((d+1:Nat):Int)]=some [.bool (!Cl d t)]:=by
   rw[A8.g]
   simp_all
  have i:IntKind.i64.wrap (0+1)=1:=by decide
  simp only[bM,bO,cD,aZ,bG,eM,aK,aA]
  rw[A8.f]
  simp only[bD,show(0:Int)<1 by omega,Zd,aA,aS,Zt,cE,cP,cC,bL,h,bI,bQ,i]
  cases a:Cl d t with
  | true=>
   simp only[aT,aB,Zf]
   rw[A8.f]
   simp[a]
  | false=>simp[a]
theorem egP (k:Int)(a b c:Nat)(e:Bool):(if(if(if(if(!decide (k=3))=true then decide ((0:Int)<(a:Int)) else false)=true then true else if(!decide (k=4))=true then !e else false)=true then true else if(!decide (k=5))=true then decide ((0:Int)<(b:Int)) else false)=true then true else if(if(!decide (k=5))=true then !decide (k=4) else false)=true then decide ((0:Int)<(c:Int)) else false)
  = !(decide (k=3\/a=0)&&(decide (k=4)||e)&&decide (k=5\/b=0)&&decide (k=5\/k=4\/c=0)):=by
 cases e
 ·by_cases d:k=4
  ·rw[aX];simp[d];omega
  ·simp[d]
 ·rw[aX];simp;omega
theorem egM (mn mx:Int)(b c:Nat):(if(if(if(if(!decide (mn=0))=true then true else !decide (mx=0))=true then true else decide ((1:Int)<(b:Int)))=true then true else if decide ((b:Int)=1)=true then decide ((0:Int)<(c:Int)) else false)=true then true else decide ((64:Int)<(c:Int)))
  = !(decide (mn=0)&&decide (mx=0)&&decide (b<=1)&&(decide (b=0)||decide (c=0))&&decide (c<=64)):=by
 rw[aX];simp;omega
theorem Zn: ∀ (d:Nat) (s:Sch),d<=12->s.Ap<=1048576->W 53 0 [s.enc,.int d]=some [.bool (Cl d s)]
 | 0,s,hd,c=>by rw[A6.l];simp[Cl]
 | d+1,s,hd,c=>by
  have q: ¬ ((d+1:Nat):Int)=0:=by omega
  have e:IntKind.i64.wrap (((d+1:Nat):Int) - 1)=(d:Int):=by rw[wrap64 (by omega) (by omega)];omega
  have g: ∀t∈s.it,W 53 0 [t.enc,.int d]=some [.bool (Cl d t)]:=λt m=>Zn d t (by omega) (by have:=fL m;omega)
  have r: ∀p∈s.f,W 53 0 [p.s.enc,.int d]=some [.bool (Cl d p.s)]:=λp hp=>Zn d p.s (by omega) (by have:=fY hp;omega)
  have u:=Aae d s (by omega) c r s.f.length 0 (by omega)
  simp only[aK,aQ,Q3]at u
  have h:W 71 0 [s.enc,.int d]=some [.bool (fOk (Cl d) none s.f)]:=by
   rw[A8.h]
   simp_all
  rw[A6.l]
  unfold Cl
  simp only[aV,dY,q,Ze,aA,aS,aB,Zf,gH,eH,eR,eG,eF,cD,aH,cR,gM,Aw,Al,Ds,egP]
  cases i:(decide (s.k=3\/s.en.length=0)&&(decide (s.k=4)||decide (s.key=Am))&&decide (s.k=5\/s.f.length=0)&&decide (s.k=5\/s.k=4\/s.it.length=0)) with
  | false=>
   simp only[bE,Zt]
   by_cases k1:s.k=1
   ·simp only[k1,Zt,Il]
    simp[k1]at i
    congr 3
    grind
   ·by_cases k2:s.k=2
    ·simp only[k2,show ¬ (2:Int)=1 by omega,Zf,Zt,Il]
     simp[k2]at i
     congr 3
     grind
    ·by_cases o:s.k=3
     ·simp only[o,show ¬ (3:Int)=1 by omega,show ¬ (3:Int)=2 by omega,Zf,Zt,Il]
      simp[o]at i
      congr 3
      grind
     ·by_cases A:s.k=4
      ·simp_all
      ·by_cases B:s.k=5
       ·simp_all
       grind
  | true=>
   simp only[aJ,eI,decide_eq_true_eq]at i
   obtain⟨⟨⟨G,H⟩,I⟩,J⟩:=i
   simp only[aT,aB,Zf,dN,dO,aA,aV,eW,dY,aS,Arb,A2z s c,bI,Aw,Al]
   by_cases k1:s.k=1
   ·simp only[k1,Zd,Zt,Il]
    grind
   ·by_cases k2:s.k=2
    ·simp only[k2,show ¬ (2:Int)=1 by omega,Ze,aB,Zf,Zd,Zt,Il]
     grind
    ·by_cases o:s.k=3
     ·simp only[o,show ¬ (3:Int)=1 by omega,show ¬ (3:Int)=2 by omega,Ze,aB,Zf,Zd,Zt,Il]
      grind
     ·by_cases A:s.k=4
      ·have a:s.en.length=0:=by omega
       have w:s.f.length=0:=by omega
       simp only[A,show ¬ (4:Int)=1 by omega,show ¬ (4:Int)=2 by omega,show ¬ (4:Int)=3 by omega,Ze,aB,Zf,Zd,Zt,a,w,dI]
       cases Ase s 64 with
       | false=>simp
       | true=>
        by_cases C:s.it.length=1
        ·obtain⟨t,m⟩:=bU.1 C
         have x:=g t (by grind)
         have b:(s.it.length:Int)=1:=by omega
         simp only[Zt,b,Zd,m,bM,bO,cE,cP,cC,bL,aA,fQ,e,x,bI,aS,bT,cN,dI,bN,aZ,bG]
         cases y:Cl d t with
         | false=>simp
         | true=>
          have F:=Azi s t c m (Hj d t y)
          simp[F]
        ·have b: ¬ (s.it.length:Int)=1:=by omega
         simp[C,b]
      ·by_cases B:s.k=5
       ·have a:s.en.length=0:=by omega
        have z:s.key=Am:=by grind
        simp only[B,show ¬ (5:Int)=1 by omega,show ¬ (5:Int)=2 by omega,show ¬ (5:Int)=3 by omega,show ¬ (5:Int)=4 by omega,Ze,aB,Zf,Zd,Zt,a,z,dI]
        have eg:=egM s.mn s.mx s.it.length s.f.length
        rw[eg]
        cases j:(decide (s.mn=0)&&decide (s.mx=0)&&decide (s.it.length<=1)&&(decide (s.it.length=0)||decide (s.f.length=0))&&decide (s.f.length<=64)) with
        | false=>simp
        | true=>
         simp only[aJ,eI,decide_eq_true_eq]at j
         have x:=Ayu d s (by omega) c j.1.1.2 g
         simp only[aT,aB,Zf,x,bI,cM,gU,aA,aS,fQ,e,h,Aw,Al,bN]
         grind
       grind
theorem Qe (s:Sch)(a:s.Ap<=1048576):W 52 0 [s.enc]=some [.bool s.valid]:=by
 rw[A6.k]
 have:W 53 0 [s.enc,.int 12]=some [.bool s.valid]:=Zn 12 s (by omega) a
 simp_all
end Go.CT.Sch
namespace Go.CT.Sch
open Go.Proofs
theorem Dc (d:Nat)(v:Val):Ca (d+1) v=true↔Ge v=true/\(v.l.length<=64/\v.f.length<=64/\(v.k≠4->v.l= [])/\(v.k≠5->v.f= []))/\(∀x∈v.l,Ca d x=true)/\(∀p∈v.f,De p.1=true/\Ca d p.2=true)/\rising v.f=true:=by
 rw[Ca]
 simp only[aJ,aY,decide_eq_true_eq]
 constructor
 ·rintro⟨⟨⟨⟨a,b⟩,c⟩,d⟩,e⟩;exact⟨a,b,c,d,e⟩
 ·rintro⟨a,b,c,d,e⟩;exact⟨⟨⟨⟨a,b⟩,c⟩,d⟩,e⟩
theorem Oj: ∀ (d:Nat) (v:Val),Ca d v=true->Ca (d+1) v=true
 | 0,v,h=>by simp[Ca]at h
 | d+1,v,h=>by
  rw[Dc]at h ⊢
  exact⟨h.1,h.2.1,λx a=>Oj d x (h.2.2.1 x a),λp hp=>⟨(h.2.2.2.1 p hp).1,Oj d p.2 (h.2.2.2.1 p hp).2⟩,h.2.2.2.2⟩
theorem Ew (v:Val):v.valid=true↔Ca 12 v=true/\v.size<=600:=by
 unfold fO;simp only[aJ,decide_eq_true_eq]
theorem Cy {v x:Val}(h:v.valid=true)(a:x∈v.l):x.valid=true:=by
 rw[Ew]at h ⊢
 have b:=(Dc 11 v).1 h.1
 have:=Val.Rh a
 exact⟨Oj 11 x (b.2.2.1 x a),by omega⟩
theorem D3 {v:Val}{p:ByteArray × Val}(h:v.valid=true)(hp:p∈v.f):p.2.valid=true/\De p.1=true:=by
 rw[Ew]at h ⊢
 have a:=(Dc 11 v).1 h.1
 have:=Val.Rg hp
 exact⟨⟨Oj 11 p.2 (a.2.2.2.1 p hp).2,by omega⟩,(a.2.2.2.1 p hp).1⟩
theorem Nw: ∀l:List (ByteArray × Val),rising l=true->Ch l
 | [],_=>dW
 | [_],_=>cF _ _
 | p::q::r,h=>by
  simp only[rising,aJ]at h
  have b:=Nw (q::r) h.2
  refine bA.2 ⟨λy a=>?_,b⟩
  rcases bH.1 a with rfl | a
  ·exact h.1
  ·exact G7 h.1 ((bA.1 b).1 y a)
theorem Gs {v:Val}(h:v.valid=true):Ch v.f:=by
 rw[Ew]at h
 exact Nw _ ((Dc 11 v).1 h.1).2.2.2.2
theorem Na {v:Val}(h:v.valid=true)(a:v.k≠5):v.f= []:=by
 rw[Ew]at h
 exact((Dc 11 v).1 h.1).2.1.2.2.2 a
theorem Mv {v:Val}(h:v.valid=true)(a:v.k≠4):v.l= []:=by
 rw[Ew]at h
 exact((Dc 11 v).1 h.1).2.1.2.2.1 a
theorem Ajd {v:Val}(h:v.valid=true)(a:v.k=3):J9 v.s=true:=by
 rw[Ew]at h
 have:=((Dc 11 v).1 h.1).1
 unfold Ge at this
 rw[if_neg (by omega),if_neg (by omega),if_pos a]at this
 simp only[aJ]at this
 exact this.2
theorem Nq {l:List (ByteArray × Val)}(h:Ch l){p:ByteArray × Val}(hp:p∈l):l.find? (λq=>decide (q.1=p.1))=some p:=by
 induction l with
 | nil=>simp at hp
 | cons a l c=>
  have b:=bA.1 h
  rw[bY]
  rcases bH.1 hp with rfl | hp
  ·simp
  ·have: ¬ a.1=p.1:=Ly (b.1 p hp)
   simp only[this,Ze]
   exact c b.2 hp
theorem get_of_mem {v:Val}(h:v.valid=true){p:ByteArray × Val}(hp:p∈v.f):v.get p.1=some p.2:=by
 have b:v.k=5:=by
  rcases Decidable.em (v.k=5) with a | a
  ·exact a
  ·rw[Na h a]at hp;simp at hp
 unfold gC
 rw[if_pos b,Nq (Gs h) hp];rfl
theorem Co {v x:Val}{nm:ByteArray}(h:v.get nm=some x):(nm,x)∈v.f/\v.k=5:=by
 unfold gC at h
 split at h
 ·rename_i a
  rw[fB]at h
  obtain⟨p,hp,rfl⟩:=h
  have b:=cL hp
  have c:p.1=nm:=by simpa using gJ hp
  subst c;exact⟨b,a⟩
 ·cases h
theorem Aws {v x:Val}{nm:ByteArray}(h:v.valid=true)(a:v.get nm=some x):x.valid=true:=(D3 h (Co a).1).1
theorem Aod {g a:Sch->Bool} : ∀ {l:List SFld} {o:Option ByteArray},(∀x∈l,g x.s=true->a x.s=true)->fOk g o l=true->fOk a o l=true
 | [],_,_,_=>rfl
 | y::r,o,b,h=>by
  simp only[fOk,aJ]at h ⊢
  exact⟨⟨⟨⟨h.1.1.1.1,b y (by simp) h.1.1.1.2⟩,h.1.1.2⟩,h.1.2⟩,Aod (λx c=>b x (by simp[c])) h.2⟩
theorem K6: ∀ (d:Nat) (s:Sch),Cl d s=true->Cl (d+1) s=true
 | 0,s,h=>by simp[Cl]at h
 | d+1,s,h=>by
  rw[Cl]at h ⊢
  split
  ·rename_i k1;rw[if_pos k1]at h;exact h
  ·rename_i k1;rw[if_neg k1]at h
   split
   ·rename_i k2;rw[if_pos k2]at h;exact h
   ·rename_i k2;rw[if_neg k2]at h
    split
    ·rename_i b;rw[if_pos b]at h;exact h
    ·rename_i b;rw[if_neg b]at h
     split
     ·rename_i c;rw[if_pos c]at h
      simp only[aJ,aY]at h ⊢
      exact⟨h.1,λx a=>K6 d x (h.2 x a)⟩
     ·rename_i c;rw[if_neg c]at h
      split
      ·rename_i e;rw[if_pos e]at h
       simp only[aJ,aY]at h ⊢
       exact⟨⟨h.1.1,λx a=>K6 d x (h.1.2 x a)⟩,Aod (λx _ a=>K6 d x.s a) h.2⟩
      ·rename_i e;rw[if_neg e]at h;cases h
theorem Aak {d:Nat}{s t:Sch}(h:Cl (d+1) s=true)(a:t∈s.it):Cl d t=true:=by
 have noit:Il s=true->False:=λhp=>by
  simp only[Il,aJ,decide_eq_true_eq]at hp
  rw[aU.1 hp.1.2]at a;simp at a
 rw[Cl]at h
 split at h
 ·simp only[aJ]at h;exact(noit h.1.1.1).elim
 ·split at h
  ·simp only[aJ]at h;exact(noit h.1.1.1.1).elim
  ·split at h
   ·simp only[aJ]at h;exact(noit h.1.1.1).elim
   ·split at h
    ·simp only[aJ,aY]at h;exact h.2 t a
    ·split at h
     ·simp only[aJ,aY]at h;exact h.1.2 t a
     ·cases h
theorem Wm {d:Nat}{s:Sch}{p:SFld}(h:Cl (d+1) s=true)(hp:p∈s.f):s.k=5/\De p.nm=true/\Cl d p.s=true/\p.df.length<=1/\A4e p=true:=by
 have nof:s.f.length=0->False:=λa=>by
  rw[aU.1 a]at hp;simp at hp
 have nop:Il s=true->False:=λa=>by
  simp only[Il,aJ,decide_eq_true_eq]at a
  exact nof a.2
 rw[Cl]at h
 split at h
 ·simp only[aJ]at h;exact(nop h.1.1.1).elim
 ·split at h
  ·simp only[aJ]at h;exact(nop h.1.1.1.1).elim
  ·split at h
   ·simp only[aJ]at h;exact(nop h.1.1.1).elim
   ·split at h
    ·simp only[aJ,decide_eq_true_eq]at h;exact(nof h.1.1.1.2).elim
    ·split at h
     ·rename_i b
      simp only[aJ]at h
      exact⟨b,Al9 h.2 p hp⟩
     ·cases h
theorem Ap9 {d:Nat}{s:Sch}(h:Cl d s=true)(a:s.k=4):Xa s=true/\s.it.length=1:=by
 cases d with
 | zero=>simp[Cl]at h
 | succ d=>
  rw[Cl,if_neg (by omega),if_neg (by omega),if_neg (by omega),if_pos a]at h
  simp only[aJ,decide_eq_true_eq]at h
  exact⟨h.1.2,h.1.1.2⟩
theorem Sch.Ia {s t:Sch}(h:s.valid=true)(a:t∈s.it):t.valid=true:=K6 11 t (Aak h a)
theorem Sch.D3 {s:Sch}{p:SFld}(h:s.valid=true)(hp:p∈s.f):p.s.valid=true:=K6 11 p.s (Wm h hp).2.2.1
theorem Sch.Ex {s:Sch}(h:s.valid=true):SB s:=Hj 12 s h
theorem Sch.H2 {s t:Sch}{nm:ByteArray}(h:s.valid=true)(a:Du s nm=some t):t.valid=true:=by
 rcases Nd a with b | ⟨p,hp,_,rfl⟩
 ·exact Sch.Ia h b
 ·exact Sch.D3 h hp
theorem Aa7 {d:Nat}{s:Sch}(h:Cl (d+1) s=true)(o:s.k=4)(c:s.key≠Am): ∃t,s.it= [t]/\t.k=5/\ ∃p,t.fld s.key=some p/\p.rq=true/\p.s.k=3/\De s.key=true:=by
 obtain⟨b,q⟩:=Ap9 h o
 obtain⟨t,e⟩:=bU.1 q
 unfold Xa at b
 rw[e]at b
 have a:decide (s.key=Am)=false:=by simpa using c
 simp only[a,eB,aJ,decide_eq_true_eq]at b
 obtain⟨⟨⟨r,u⟩,g⟩,i⟩:=b
 obtain⟨p,hp⟩:=dJ.1 u
 rw[hp,bZ]at g i
 have j:=Aak h (show t∈s.it by rw[e];simp)
 have m:=Adj hp
 refine⟨t,e,r,p,hp,g,i,?_⟩
 cases d with
 | zero=>simp[Cl]at j
 | succ d=>have:=(Wm j m.1).2.1;rw[m.2]at this;exact this
end Go.CT.Sch
namespace Go.CT.Sch
open Go.Proofs
theorem Az7 (s:Sch)(n:Int)(p q:List Stp):(Wh p s n).length =(Wh q s n).length :=by unfold Wh;split<;>rfl
theorem A5g (key:ByteArray)(prev:List Val)(v:Val)(p q:List Stp):(Aop key prev v p).length =(Aop key prev v q).length :=by unfold Aop;split<;>rfl
theorem Azu (v:Val)(p q:List Stp): ∀l:List SFld,(l.flatMap (Ke v p)).length =(l.flatMap (Ke v q)).length
 | []=>rfl
 | d::l=>by
  have a:(Ke v p d).length =(Ke v q d).length :=by unfold Ke;split<;>rfl
  simp only[cB,aO,a,Azu v p q l]
theorem A5a: ∀ (v:Val) (s:Sch) (p q:List Stp),(Jy v s p).length =(Jy v s q).length :=by
 refine eJ λv a b s p q=>?_
 have e: ∀ (l:List Val),(∀x∈l,∀s p q,(Jy x s p).length =(Jy x s q).length)-> ∀key t prev,(K3 l key t p prev).length =(K3 l key t q prev).length :=by
  intro l
  induction l with
  | nil=>intro _ key t prev;rw[K1,K1]
  | cons x l c=>
   intro h key t prev
   rw[Hc,Hc]
   simp only[aO]
   rw[h x (by simp) t (p++ [H0 key x prev.length]) (q++ [H0 key x prev.length]),A5g key prev x (p++ [H0 key x prev.length]) (q++ [H0 key x prev.length]),c (λy d=>h y (by simp[d])) key t (prev++ [x])]
 have g: ∀ (l:List (ByteArray × Val)),(∀x∈l,∀s p q,(Jy x.2 s p).length =(Jy x.2 s q).length)->(Mk l s p).length =(Mk l s q).length :=by
  intro l
  induction l with
  | nil=>intro _;rw[Kz,Kz]
  | cons x l c=>
   intro h
   have i:(Aew s p x).length =(Aew s q x).length :=by
    unfold Aew
    split
    ·rfl
    ·split
     ·rfl
     ·exact h x (by simp) _ _ _
   rw[Jm,Jm,aO,aO,i,c λy d=>h y (by simp[d])]
 rw[Ji v s p,Ji v s q]
 split
 ·split
  ·exact Az7 s _ p q
  ·split
   ·split
    ·rfl
    ·split<;>rfl
   ·split
    ·rw[aO,aO,Az7 s _ p q,e v.l a]
    ·split
     ·rw[aO,aO,g v.f b,Azu v p q]
     ·rfl
 ·rfl
theorem Vo {v:Val}{s:Sch}{p:List Stp}(h:Jy v s p= [])(q:List Stp):Jy v s q= []:=by
 have:=A5a v s p q
 rw[h]at this
 exact aU.1 this.symm
theorem Yf {v:Val}{s:Sch}{p:List Stp}(h:Jy v s p= []):v.k=s.k:=by
 rw[Ji]at h
 split at h
 ·assumption
 ·cases h
theorem Ay0 {v:Val}{s:Sch}{p:List Stp}(h:Jy v s p= [])(b:v.k=5):(∀x∈v.f,∀q,Aew s q x= [])/\ ∀d∈s.f,d.rq=true->Lm v d.nm=true:=by
 have a:=Yf h
 have h':=λq=>Vo h q
 constructor
 ·intro x c q
  have h:=h' q
  rw[Ji,if_pos a,if_neg (by omega),if_neg (by omega),if_neg (by omega),if_pos b,cH,Mu,eZ]at h
  exact h.1 x c
 ·intro d hd e
  rw[Ji,if_pos a,if_neg (by omega),if_neg (by omega),if_neg (by omega),if_pos b,cH,eZ]at h
  have:=h.2 d hd
  unfold Ke at this
  rw[e]at this
  cases g:Lm v d.nm with
  | true=>rfl
  | false=>rw[g]at this;simp at this
theorem Azd {s t:Sch}{p:List Stp}{x:ByteArray × Val}(h:Aew s p x= [])(a:x.2.k≠0)(b:Du s x.1=some t):Jy x.2 t (p++ [Cd x.1])= []:=by
 unfold Aew at h
 rw[b]at h
 simp only[a,Zf]at h
 exact h
theorem Aqo {s:Sch}{p:List Stp}{x:ByteArray × Val}(h:Aew s p x= []): ∃t,Du s x.1=some t:=by
 unfold Aew at h
 split at h
 ·cases h
 ·exact⟨_,by assumption⟩
theorem Agq: ∀ {l:List Val} {key:ByteArray} {t:Sch} {p:List Stp} {prev:List Val},K3 l key t p prev= []-> ∀x∈l,Jy x t p= []
 | [],_,_,_,_,_,x,a=>by simp at a
 | v::l,key,t,p,prev,h,x,a=>by
  rw[Hc,cH,cH]at h
  rcases bH.1 a with rfl | a
  ·exact Vo h.1.1 p
  ·exact Agq h.2 x a
theorem Aw5 {v:Val}{s:Sch}{p:List Stp}(h:Jy v s p= [])(b:v.k=4):Wh p s v.l.length= []/\K3 v.l s.key (s.it.headD Bh) p []= []:=by
 have a:=Yf h
 rw[Ji,if_pos a,if_neg (by omega),if_neg (by omega),if_pos b,cH]at h
 exact h
def Pt (s:Sch)(x:Stp):Option Sch:=
 if x.k=1 then(if s.k=5 then Du s x.nm else none)
 else if s.k=4 then(if x.k=2\/(x.k=3/\s.key≠Am/\s.key=x.nm) then s.it.head? else none) else none
def atS:Sch->List Stp->Option Sch
 | s,[]=>some s
 | s,x::r=>(Pt s x).bind λt=>atS t r
def hasB (nm vl:ByteArray)(u:Val):Bool:=decide (((u.get nm).getD Au).k =3)&&decide (((u.get nm).getD Au).s =vl)
def Kj (v:Val)(x:Stp):Option Val:=
 if x.k=1 then v.get x.nm
 else if v.k=4 then(if x.k=2 then v.l[x.ix.toNat]? else v.l.find? (hasB x.nm x.vl)) else none
def Gf:Val->List Stp->Option Val
 | v,[]=>some v
 | v,x::r=>(Kj v x).bind λu=>Gf u r
theorem Ua {v u:Val}{x:Stp}(a:Kj v x=some u):u.Ap<v.Ap:=by
 unfold Kj at a
 split at a
 ·have:=eE (Co a).1;simp only at this;omega
 ·split at a
  ·split at a
   ·exact eO (List.mem_of_getElem? a)
   ·exact eO (cL a)
  ·cases a
theorem Ajz: ∀ (q:List Stp) (v w:Val),Gf v q=some w->w.Ap<=v.Ap
 | [],v,w,a=>by simp only[Gf,Option.some.injEq]at a;subst a;omega
 | y::r,v,w,a=>by
  simp only[Gf]at a
  cases b:Kj v y with
  | none=>rw[b]at a;cases a
  | some u=>rw[b]at a;have:=Ua b;have:=Ajz r u w a;omega
theorem Abo {s t:Sch}{x:Stp}(a:Pt s x=some t):t.Ap<s.Ap:=by
 unfold Pt at a
 split at a
 ·split at a
  ·exact J0 a
  ·cases a
 ·split at a
  ·split at a
   ·exact fL (List.mem_of_mem_head? a)
   ·cases a
  ·cases a
end Go.CT.Sch
namespace Go.CT.Sch
open Go.Proofs
theorem Abq (v:Val)(nm:ByteArray)(o:v.Ap<=1048576): ∀ (n i:Nat),i+n=v.f.length->
  ∃r:Int,W 240 1 [.str nm,.int i,v.enc]=some [.int r]/\
   (((v.k=5->((v.f.drop i).find? λp=>decide (p.1=nm))=none)/\r<0)\/(v.k=5/\ ∃ (j:Nat) (x:Val),r=j/\v.f[j]?=some (nm,x)/\((v.f.drop i).find? λp=>decide (p.1=nm))=some (nm,x)))
 | 0,i,h=>by
  rw[A25.n]
  have g: ¬ i<v.f.length:=by omega
  refine⟨-1,by simp[g],.inl ⟨λ_=>by simp[aG (bK g)],by omega⟩⟩
 | n+1,i,h=>by
  have d:i<v.f.length:=by omega
  have u:=v.Bd
  have q:=Be (i:=i) (by omega)
  obtain⟨r,t,m⟩:=Abq v nm o n (i+1) (by omega)
  rw[A25.n,aD d,bY]
  simp only[cX,cD,aH,bD,Ao,d,Zd,aA,aS,Zt,dR,aV,cE,aF,aE,aM,aC d,aI,dF,fW,Aw,Al,bQ,q,t]
  by_cases a:v.k=5
  ·by_cases c:v.f[i].1 =nm
   ·refine⟨i,by simp[a,c],.inr ⟨a,i,v.f[i].2,rfl,by simp[d,<-c],by simp[<-c]⟩⟩
   ·have c':decide (v.f[i].1 =nm)=false:=by simpa using c
    simp only[a,Zd,Zt,c',aB,Zf]
    refine⟨r,rfl,?_⟩
    rcases m with⟨b,e⟩ | ⟨_,b⟩
    ·exact .inl ⟨λ_=>b a,e⟩
    ·exact .inr ⟨trivial,b⟩
  ·simp only[a,Ze,aB,Zf]
   rcases m with⟨b,e⟩ | ⟨b,_⟩
   ·exact⟨r,rfl,.inl ⟨λh=>h.elim,e⟩⟩
   ·exact(a b).elim
theorem Ap2 (v:Val)(nm:ByteArray)(d:v.Ap<=1048576): ∃r:Int,W 240 0 [v.enc,.str nm]=some [.int r]/\
  ((v.get nm=none/\r<0)\/ ∃ (j:Nat) (x:Val),r=j/\v.f[j]?=some (nm,x)/\v.get nm=some x):=by
 obtain⟨r,e,c⟩:=Abq v nm d v.f.length 0 (by omega)
 refine⟨r,by rw[A25.m];exact e,?_⟩
 simp only[aQ]at c
 unfold gC
 rcases c with⟨a,b⟩ | ⟨a,j,x,b,g,h⟩
 ·left
  refine⟨?_,b⟩
  split
  ·rename_i i;rw[a i];rfl
  ·rfl
 ·right
  exact⟨j,x,b,g,by rw[if_pos a,h];rfl⟩
theorem A54 (v:Val)(nm vl:ByteArray)(d:v.Ap<=1048576):W 241 0 [v.enc,.str nm,.str vl]=some [.bool (hasB nm vl v)]:=by
 obtain⟨r,b,e⟩:=Ap2 v nm d
 rw[A25.o]
 unfold hasB
 rcases e with⟨g,m⟩ | ⟨j,x,rfl,h,i⟩
 ·have a: ¬ (0:Int)<=r:=by omega
  simp only[b,bI,fP,a,Ze,aA,aS,aB,Zf,g,eY]
  rfl
 ·simp only[b,bI,fP,aF,Zd,aA,aS,Zt,cX,cE,aE,aM,h,aI,iB,Fld.Cj,aV,fW,i,bZ]
  by_cases c:x.k=3<;>simp[c]
theorem Ag5 (v:Val)(x:Stp)(d:v.Ap<=1048576): ∀ (n i:Nat),i+n=v.l.length->
  ∃r:Int,W 239 1 [.int i,v.enc,x.enc]=some [.int r]/\
   ((((v.l.drop i).find? (hasB x.nm x.vl))=none/\r<0)\/(∃ (j:Nat) (u:Val),r=j/\v.l[j]?=some u/\((v.l.drop i).find? (hasB x.nm x.vl))=some u))
 | 0,i,h=>by
  rw[A25.l]
  have b: ¬ i<v.l.length:=by omega
  refine⟨-1,by simp[b],.inl ⟨by simp[aG (bK b)],by omega⟩⟩
 | n+1,i,h=>by
  have a:i<v.l.length:=by omega
  have q:=v.Bu
  have t:=eO (aL a)
  have e:=Be (i:=i) (by omega)
  obtain⟨r,g,m⟩:=Ag5 v x d n (i+1) (by omega)
  have o:=A54 v.l[i] x.nm x.vl (by omega)
  rw[A25.l,aD a,bY]
  simp only[dE,cD,aH,bD,Ao,a,Zd,aA,aS,Zt,cE,aF,aE,aM,aC a,aI,Stp.Dg,Stp.Cj,o,bI,bQ,e,g]
  cases c:hasB x.nm x.vl v.l[i]with
  | true=>exact⟨i,by simp,.inr ⟨i,v.l[i],rfl,by simp[a],rfl⟩⟩
  | false=>exact⟨r,by simp,m⟩
theorem A3v (v:Val)(x:Stp)(m:v.Ap<=1048576)(o:C6 x=true): ∃r:Int,W 239 0 [v.enc,x.enc]=some [.int r]/\
  ((Kj v x=none/\r<0)\/ ∃ (j:Nat) (u:Val),r=j/\Kj v x=some u/\(x.k=1->v.f[j]?=some (x.nm,u))/\(x.k≠1->v.l[j]?=some u)):=by
 obtain⟨w,y,q,z,A⟩:=D7 o
 rw[A25.k]
 unfold Kj
 simp only[Stp.Bn,Stp.Dg,aA,aV,aS]
 by_cases k1:x.k=1
 ·obtain⟨r,b,a⟩:=Ap2 v x.nm m
  simp only[k1,Zd,Zt,b,bI]
  refine⟨r,rfl,?_⟩
  rcases a with a | ⟨j,u,d,e,g⟩
  ·exact .inl a
  ·exact .inr ⟨j,u,d,g,λ_=>e,λh=>(h rfl).elim⟩
 ·simp only[k1,Ze,aB,Zf,dR,aA,dY,aS]
  by_cases i:v.k=4
  ·simp only[i,Zd,aT,aB,Zf,Zt]
   by_cases k2:x.k=2
   ·obtain⟨j,t⟩:=cU (q k2).1
    simp only[k2,Zd,Zt,Stp.Eu,dE,cD,aH,aA,bD,aS,t,eD,aE,Ao]
    by_cases c:j<v.l.length
    ·refine⟨j,by simp[c],.inr ⟨j,v.l[j],rfl,by simp[c],λh=>by simp at h,λ_=>by simp[c]⟩⟩
    ·refine⟨-1,by simp[c],.inl ⟨by simpa using c,by omega⟩⟩
   ·obtain⟨r,b,a⟩:=Ag5 v x m v.l.length 0 (by omega)
    simp only[aK,aQ]at b a
    simp only[k2,Ze,aB,Zf,b]
    refine⟨r,rfl,?_⟩
    rcases a with a | ⟨j,u,d,e,g⟩
    ·exact .inl a
    ·exact .inr ⟨j,u,d,g,λh=>h.elim,λ_=>e⟩
  ·exact⟨-1,by simp[i],.inl ⟨by simp[i],by omega⟩⟩
theorem Zs:IV.agg [.int 0,.int 0,.str ⟨#[]⟩,.list [],.list []]=Au.enc:=rfl
theorem Ang (p:List Stp)(q:p.length<=1099511627776)(hp: ∀x∈p,C6 x=true)(c d e:IV): ∀ (n i:Nat) (v:Val),i+n=p.length->v.Ap<=1048576->
  W 238 1 [.list (p.map Stp.enc),.int i,v.enc,c,d,e]=some [((Gf v (p.drop i)).getD Au).enc,.bool (Gf v (p.drop i)).isSome]
 | 0,i,v,h,m=>by
  have t: ¬ i<p.length:=by omega
  rw[A25.i,aG (by omega)]
  simp only[cD,aH,bD,Ao,t,Ze,aA,aS,aB,Zf,Gf,bZ,cK]
 | n+1,i,v,h,m=>by
  have a:i<p.length:=by omega
  have w:=Be (i:=i) (by omega)
  have y:=hp _ (aL a)
  obtain⟨r,z,A⟩:=A3v v p[i] m y
  rw[A25.i,aD a]
  simp only[cD,aH,bD,Ao,a,Zd,aA,aS,Zt,cE,aF,aE,aM,aC a,aI,z,bI,eV,Stp.Bn,aV,dE,cX,Gf,Zs]
  rcases A with⟨b,g⟩ | ⟨j,u,rfl,b,g,B⟩
  ·simp only[g,Zd,Zt,b];rfl
  ·have C: ¬ (j:Int)<0:=by omega
   have G:=Ua b
   have F:=Ang p q hp c d e n (i+1) u (by omega) (by omega)
   have o:W 238 2 [.list (p.map Stp.enc),.int i,u.enc,c,d,e]=some [((Gf u (p.drop (i+1))).getD Au).enc,.bool (Gf u (p.drop (i+1))).isSome]:=by
    rw[A25.j]
    simp only[bQ,w,aA,F]
   simp only[C,Ze,aB,Zf,b,aA,aF,Zt,aE]
   by_cases k1:p[i].k =1
   ·simp only[k1,Zd,Zt,g k1,aI,aA,dL,o]
   ·simp only[k1,Ze,aB,Zf,B k1,aI,aA,o]
def A6x (v:Val)(p:List Stp):Option Val:=if C3 p then Gf v p else none
theorem A5r (v:Val)(p:List Stp)(c:v.Ap<=1048576)(hp: ∀x∈p,x.fits)(b:p.length<=1099511627776):W 238 0 [v.enc,.list (p.map Stp.enc)]=some [((A6x v p).getD Au).enc,.bool (A6x v p).isSome]:=by
 rw[A25.h]
 unfold A6x
 simp only[Mp p hp b,bI,cM,aA,aS,eV,Zs]
 cases d:C3 p with
 | false=>rfl
 | true=>
  have a:=d
  unfold C3 at a
  simp only[aJ,aY]at a
  have:=Ang p b a.1 (.int 0) (.int 0) (.str ⟨#[]⟩) p.length 0 v (by omega) c
  simp only[aK,aQ]at this
  simp only[aT,aB,Zf,this,Zt]
end Go.CT.Sch
namespace Go.CT.Sch
open Go.Proofs
theorem Dt (s:ByteArray):s.data.toList.length=s.size:=by simp
theorem X5 {s:ByteArray}{i:Nat}{l:List UInt8}(h:s.data.toList.drop i=l)(a:l≠ []):i+l.length=s.size:=by
 have:=congrArg cZ h
 rw[cV,Dt]at this
 have:0<l.length:=bP.2 a
 omega
theorem T2 {s:ByteArray}{i:Nat}{a r:List UInt8}(h:s.data.toList.drop i=a++r):s.data.toList.drop (i+a.length)=r:=by
 rw[<-List.drop_drop,h,List.drop_left]
theorem sx {s:ByteArray}{i:Nat}{c:UInt8}{r:List UInt8}(h:s.data.toList.drop i=c::r):O.M3 (.str s) (.int i)=some (.int c.toNat)/\i<s.size/\s.data.toList.drop (i+1)=r:=by
 have d:=X5 h (by simp)
 simp only[aZ]at d
 have a:i<s.size:=by omega
 have b:=H7 a
 rw[h]at b
 obtain⟨e,g⟩:=List.cons.inj b
 refine⟨?_,a,g.symm⟩
 simp only[hJ,aF,Zt,aE,A02 a,aI,<-e]
theorem ssl {s:ByteArray}{i:Nat}{a r:List UInt8}(h:s.data.toList.drop i=a++r)(b:a≠ []):O.Ov (.str s) (.int i) (.int ((i+a.length:Nat):Int))=some (.str (bsL a)):=by
 have c:=X5 h (by simp[b])
 rw[aO]at c
 rw[O.Uj,if_pos ⟨by omega,by omega,by omega⟩]
 simp only[aE]
 congr 2
 apply Gq
 rw[dS,eC]
 simp only[dD,bsL,h]
 rw[show i+a.length - i=a.length by omega,List.take_left]
def Aaz (r:List UInt8):Prop:= ∀c t,r=c::t->Bx c=false
theorem Afu (s:ByteArray)(u:s.size<=100000): ∀ (a:List UInt8) (i:Nat) (r:List UInt8),s.data.toList.drop i=a++r->i<=s.size->(∀c∈a,Bx c=true)->Aaz r->W 234 1 [.str s,.int i]=some [.int ((i+a.length:Nat):Int)]
 | [],i,r,h,b,_,d=>by
  rw[A24.o]
  cases r with
  | nil=>
   have A:s.size<=i:=by
    have:=congrArg cZ h
    rw[cV,Dt]at this
    simp at this;omega
   have e: ¬ i<s.size:=by omega
   simp only[cT,aA,bD,Ao,e,Ze,aS,aB,Zf,bG,eN]
  | cons c t=>
   obtain⟨g,j,o⟩:=sx h
   have m:=d c t rfl
   simp only[cT,aA,bD,Ao,j,Zd,aS,Zt,g,Y3,bI,m,aB,Zf,bG,eN]
 | c::a,i,r,h,b,q,d=>by
  obtain⟨g,j,o⟩:=sx (show s.data.toList.drop i=c::(a++r) from h)
  have w:=Be (i:=i) (by omega)
  have m:=q c (by simp)
  have y:=Afu s u a (i+1) r o (by omega) (λx z=>q x (by simp[z])) d
  rw[A24.o]
  simp only[cT,aA,bD,Ao,j,Zd,aS,Zt,g,Y3,bI,m,bQ,w,y,aZ]
  congr 3;congr 1;omega
theorem Vx {c:UInt8}(h:I0 c=true):c.toNat=10\/(32<=c.toNat/\c.toNat<=126):=by
 unfold I0 at h
 simp at h
 omega
theorem Ws (o:ByteArray)(c:UInt8)(v:List UInt8):o++bsL [c]++bsL v=o++bsL (c::v):=by
 rw[bB,<-Ha];rfl
theorem Ym (s:ByteArray)(M:s.size<=100000): ∀ (v:List UInt8) (i:Nat) (r:List UInt8) (o:ByteArray),s.data.toList.drop i=v.flatMap Jz++34::r->(∀c∈v,I0 c=true)->o.size+v.length<=1000->
  W 237 1 [.str s,.int i,.str o]=some [.str (o++bsL v),.int ((i+(v.flatMap Jz).length +1:Nat):Int),.bool true]
 | [],i,r,o,h,_,_=>by
  obtain⟨t,u,w⟩:=sx (show s.data.toList.drop i=34::r from h)
  have y:=Be (i:=i) (by omega)
  have e:o++bsL []=o:=by apply Gq;rw[aN];simp[bsL]
  rw[A25.e]
  simp only[cT,aA,bD,Ao,u,Zd,aS,Zt,t,dY]
  simp only[show((34:UInt8).toNat :Int)=34 from rfl,Zd,aT,aB,Zf,bQ,y,aA,eX,bG,eN,e]
 | c::v,i,r,o,h,N,R=>by
  have S:=N c (by simp)
  have z: ∀x∈v,I0 x=true:=λx T=>N x (by simp[T])
  simp only[aZ]at R
  have hrange:=Vx S
  simp only[cB,bV]at h ⊢
  have hlen:=congrArg cZ h
  rw[cV,Dt]at hlen
  have two: ∀d:UInt8,Jz c= [92,d]->(d.toNat=34\/d.toNat=92\/d.toNat=110)->(d.toNat=110↔c.toNat=10)->(d.toNat≠110->d=c)->
    W 237 1 [.str s,.int i,.str o]=some [.str (o++bsL (c::v)),.int ((i+(Jz c++v.flatMap Jz).length +1:Nat):Int),.bool true]:=by
   intro d F hd U G
   rw[F]at h ⊢
   obtain⟨t,u,w⟩:=sx (show s.data.toList.drop i=92::(d::(v.flatMap Jz++34::r)) from h)
   obtain⟨X,g2,Y⟩:=sx w
   have y:=Be (i:=i) (by omega)
   have A:IntKind.i64.wrap ((i:Int)+2)=((i+1+1:Nat):Int):=by rw[wrap64 (by omega) (by omega)];omega
   have H: ¬ ((s.size:Nat):Int)<=((i+1:Nat):Int):=by omega
   have I:=λo' (g:o'.size+v.length<=1000)=>Ym s M v (i+1+1) r o' Y z g
   have b:=ssl (i:=i+1) (a:= [d]) (show s.data.toList.drop (i+1)= [d]++(v.flatMap Jz++34::r) from w) (by simp)
   simp only[aP]at b
   have J:((92:UInt8).toNat :Int)=92:=rfl
   rw[A25.e]
   simp only[cT,aA,bD,Ao,u,Zd,aS,Zt,t,dY,cR,J,show ¬ (92:Int)=34 by omega,Ze,bE,show ¬ (92:Int)<32 by omega,aB,Zf,show ¬ (126:Int)<92 by omega,aT,bQ,y,fP,H,X,A]
   have q:(if(!decide ((d.toNat:Int)=34))=true then some (IV.bool (!decide ((d.toNat:Int)=92))) else some (IV.bool false))=some (.bool (!decide (d.toNat=34)&& !decide (d.toNat=92))):=by
    by_cases K:d.toNat=34
    ·simp[K]
    ·have B: ¬ (d.toNat:Int)=34:=by omega
     by_cases Q:d.toNat=92
     ·simp[K,B,Q]
     ·have L: ¬ (d.toNat:Int)=92:=by omega
      simp[K,B,Q,L]
   simp only[q,aA,aS]
   have m: ∀o',o'=o++bsL [c]->W 237 3 [.str s,.int i,.str o']=some [.str (o++bsL (c::v)),.int ((i+([92,d]++v.flatMap Jz).length +1:Nat):Int),.bool true]:=by
    intro o' g
    rw[A25.g]
    simp only[bQ,A,aA]
    rw[A25.f,I o' (by rw[g,aR,Ce,aP];omega),g,Ws]
    congr 3;congr 1
    simp only[aO,aZ,bG];congr 1;omega
   have hcond2:(if(!decide (d.toNat=34)&& !decide (d.toNat=92))=true then some (IV.bool (!decide ((d.toNat:Int)=110))) else some (IV.bool false))=some (.bool false):=by
    rcases hd with hd | hd | hd
    ·simp[hd]
    ·simp[hd]
    ·have:(d.toNat:Int)=110:=by omega
     simp[hd]
   simp only[hcond2,aA,aS,aB,Zf,aV]
   by_cases cn:d.toNat=110
   ·have cn':(d.toNat:Int)=110:=by omega
    have C:c=10:=fF.1 (U.1 cn)
    simp only[cn',Zd,Zt]
    rw[show(ByteArray.mk #[10])=bsL [10]from rfl,G8 (by omega) (by rw[Ce];simp)]
    simp only[aA]
    exact m _ (by rw[C])
   ·have cn': ¬ (d.toNat:Int)=110:=by omega
    simp only[cn',Ze,aB,Zf,b,aA]
    rw[G8 (by omega) (by rw[Ce];simp)]
    simp only[aA]
    exact m _ (by rw[G cn])
  by_cases j:c.toNat=10
  ·exact two 110 (by unfold Jz;rw[if_pos j]) (.inr (.inr rfl)) ⟨λ_=>j,λ_=>rfl⟩ (λh=>(h rfl).elim)
  ·by_cases cq:c.toNat=34\/c.toNat=92
   ·exact two c (by unfold Jz;rw[if_neg j,if_pos cq]) (by omega) (by omega) (λ_=>rfl)
   ·have F:Jz c= [c]:=by unfold Jz;rw[if_neg j,if_neg cq]
    rw[F]at h ⊢
    obtain⟨t,u,w⟩:=sx (show s.data.toList.drop i=c::(v.flatMap Jz++34::r) from h)
    have y:=Be (i:=i) (by omega)
    have I:=Ym s M v (i+1) r (o++bsL [c]) w z (by rw[aR,Ce,aP];omega)
    have b:=ssl (i:=i) (a:= [c]) (show s.data.toList.drop i= [c]++(v.flatMap Jz++34::r) from h) (by simp)
    simp only[aP]at b
    have Z: ¬ (c.toNat:Int)=34:=by omega
    have n2: ¬ (c.toNat:Int)<32:=by omega
    have n3: ¬ (126:Int)<c.toNat:=by omega
    have n4: ¬ (c.toNat:Int)=92:=by omega
    rw[A25.e]
    simp only[cT,aA,bD,Ao,u,Zd,aS,Zt,t,dY,cR,Z,Ze,bE,n2,aB,Zf,n3,n4,bQ,y,b]
    rw[G8 (by omega) (by rw[Ce];simp)]
    simp only[aA,A25.f,I,Ws]
    congr 3;congr 1
    simp only[aO,aZ,bG];congr 1;omega
end Go.CT.Sch
namespace Go.CT.Sch
open Go.Proofs
theorem w8 {x:Int}(a:0<=x)(b:x<=255):IntKind.u8.wrap x=x:=by
 unfold IntKind.wrap
 simp[IntKind.signed,IntKind.bits]
 omega
theorem A1n (a:UInt8)(n:Nat)(h:n<=9)(j:a.toNat=48+n):W 236 0 [.str (bsL [a])]=some [.bool true]/\W 235 0 [.str (bsL [a])]=some [.int n]:=by
 obtain⟨c,_,_⟩:=sx (s:=bsL [a]) (i:=0) (show(bsL [a]).data.toList.drop 0=a:: []from rfl)
 simp only[aK]at c
 have b:((bsL [a]).size :Int)=1:=by rw[Ce];rfl
 have d:IntKind.i64.wrap (0+1)=1:=by decide
 have e: ¬ (a.toNat:Int)<48:=by omega
 have g: ¬ (57:Int)<a.toNat:=by omega
 constructor
 ·rw[A25.b,A25.c]
  simp only[cT,b,aA,bD,show(0:Int)<1 by omega,Zd,aS,Zt,c,e,cR,g,Ze,aB,Zf,bQ,d]
  rw[A25.c]
  simp[b]
 ·have m1:IntKind.i64.wrap (10 * 0)=0:=by decide
  have m2:IntKind.u8.wrap ((a.toNat:Int) - 48)=n:=by rw[w8 (by omega) (by omega)];omega
  have m3:IntKind.i64.wrap (n:Int)=n:=wrap64 (by omega) (by omega)
  have m4:IntKind.i64.wrap (0+(n:Int))=n:=by grind
  have m5: ¬ (65:Int)<n:=by omega
  rw[A24.p,A25.a]
  simp only[cT,b,aA,bD,show(0:Int)<1 by omega,show(0:Int)<65 by omega,Zd,aS,Zt,O.Uy,m1,c,fQ,m2,O.Tw,m3,bQ,m4,d]
  rw[A25.a]
  simp[b,m5]
theorem A1c (a b:UInt8)(q m:Nat)(x:1<=q/\q<=6)(y:m<=9)(z:a.toNat=48+q)(A:b.toNat=48+m):W 236 0 [.str (bsL [a,b])]=some [.bool true]/\W 235 0 [.str (bsL [a,b])]=some [.int (min (10 * q+m) 65:Nat)]:=by
 obtain⟨e,_,_⟩:=sx (s:=bsL [a,b]) (i:=0) (show(bsL [a,b]).data.toList.drop 0=a:: [b]from rfl)
 obtain⟨g,_,_⟩:=sx (s:=bsL [a,b]) (i:=1) (show(bsL [a,b]).data.toList.drop 1=b:: []from rfl)
 simp only[aK]at e g
 have c:((bsL [a,b]).size :Int)=2:=by rw[Ce];rfl
 have h:IntKind.i64.wrap (0+1)=1:=by decide
 have d:IntKind.i64.wrap (1+1)=2:=by decide
 have j: ¬ (a.toNat:Int)<48:=by omega
 have o: ¬ (57:Int)<a.toNat:=by omega
 have r: ¬ (b.toNat:Int)<48:=by omega
 have t: ¬ (57:Int)<b.toNat:=by omega
 have B: ¬ (a.toNat:Int)=48:=by omega
 constructor
 ·rw[A25.b,A25.c]
  simp only[cT,c,aA,bD,show(0:Int)<2 by omega,Zd,aS,Zt,e,j,cR,o,Ze,aB,Zf,bQ,h]
  rw[A25.c]
  simp only[cT,c,aA,bD,show(1:Int)<2 by omega,Zd,aS,Zt,g,r,cR,t,Ze,aB,Zf,bQ,d]
  rw[A25.c]
  simp_all
 ·have m1:IntKind.i64.wrap (10 * 0)=0:=by decide
  have m2:IntKind.u8.wrap ((a.toNat:Int) - 48)=q:=by rw[w8 (by omega) (by omega)];omega
  have m3:IntKind.i64.wrap (q:Int)=q:=wrap64 (by omega) (by omega)
  have m4:IntKind.i64.wrap (0+(q:Int))=q:=by grind
  have m5:(q:Int)<65:=by omega
  have k1:IntKind.i64.wrap (10 * (q:Int))=10 * q:=wrap64 (by omega) (by omega)
  have k2:IntKind.u8.wrap ((b.toNat:Int) - 48)=m:=by rw[w8 (by omega) (by omega)];omega
  have u:IntKind.i64.wrap (m:Int)=m:=wrap64 (by omega) (by omega)
  have w:IntKind.i64.wrap (10 * (q:Int)+(m:Int))=10 * q+m:=wrap64 (by omega) (by omega)
  rw[A24.p,A25.a]
  simp only[cT,c,aA,bD,show(0:Int)<2 by omega,show(0:Int)<65 by omega,Zd,aS,Zt,O.Uy,m1,e,fQ,m2,O.Tw,m3,bQ,m4,h]
  rw[A25.a]
  simp only[cT,c,aA,bD,show(1:Int)<2 by omega,m5,Zd,aS,Zt,O.Uy,k1,g,fQ,k2,O.Tw,u,bQ,w,d]
  rw[A25.a]
  simp only[cT,c,aA,bD,show ¬ (2:Int)<2 by omega,Ze,aS,aB,Zf,cR]
  grind
theorem A6u {n:Nat}(h:n<=255):n.toUInt8.toNat=n:=by
 simp[gZ];omega
theorem Azh (n:Nat): ∃a:List UInt8,gB n=bsL a/\a≠ []/\(n<100-> ∀c∈a,Bx c=true):=by
 have dig: ∀k:Nat,k<=9->Bx (48+k).toUInt8 =true:=by
  intro k d
  unfold Bx
  rw[A6u (by omega)]
  simp;omega
 unfold gB
 split
 ·refine⟨[(48+n).toUInt8],rfl,by simp,λ_ c b=>?_⟩
  grind
 ·refine⟨[(48+n / 10).toUInt8,(48+n % 10).toUInt8],rfl,by simp,λh c b=>?_⟩
  grind
theorem A59 (n:Nat)(a:n<=64):W 236 0 [.str (gB n)]=some [.bool true]/\W 235 0 [.str (gB n)]=some [.int n]:=by
 unfold gB
 split
 ·exact A1n _ n (by omega) (A6u (by omega))
 ·have:=A1c (48+n / 10).toUInt8 (48+n % 10).toUInt8 (n / 10) (n % 10) (by omega) (by omega) (A6u (by omega)) (A6u (by omega))
  rw[show min (10 * (n / 10)+n % 10) 65=n by omega]at this
  exact this
def Aa8 (x:Stp)(i:Nat):IV:= .agg [.int x.k,.str x.nm,.int x.ix,.str x.vl,.int i,.bool false]
theorem Hl {s:ByteArray}(h:De s=true):(∀c∈s.data.toList,Bx c=true)/\s.data.toList≠ []:=by
 unfold De at h
 simp only[aJ,aY,decide_eq_true_eq]at h
 refine⟨h.1,λe=>?_⟩
 have:s.size=0:=by rw[<-Dt,e];rfl
 omega
theorem Ol {c:UInt8}{r:List UInt8}(h:Bx c=false):Aaz (c::r):=by
 intro d t e
 grind
theorem Amy (s:ByteArray)(o:s.size<=100000)(n i:Nat)(q:n<=64)(r:List UInt8)(h:s.data.toList.drop i=(bsL [91]++gB n++bsL [93]).data.toList ++r):
  W 233 0 [.str s,.int i]=some [Aa8 ⟨2,Am,n,Am⟩ (i+(bsL [91]++gB n++bsL [93]).size)]:=by
 obtain⟨a,t,b,c⟩:=Azh n
 obtain⟨d1,d2⟩:=A59 n q
 rw[t]at h d1 d2 ⊢
 rw[<-Ha,<-Ha]at h ⊢
 rw[Ce]
 have h':s.data.toList.drop i=91::(a++93::r):=by rw[h];simp[bsL]
 obtain⟨B,C,d⟩:=sx h'
 have u:=Be (i:=i) (by omega)
 have e:=Afu s o a (i+1) (93::r) d (by omega) (c (by omega)) (Ol (by decide))
 have w:=T2 d
 obtain⟨x,F,G⟩:=sx w
 have g:=ssl d b
 have y:0<a.length:=bP.2 b
 have j:=Be (i:=i+1+a.length) (by omega)
 have z: ¬ ((s.size:Nat):Int)<=((i+1+a.length:Nat):Int):=by omega
 have A: ¬ ((i+1+a.length:Nat):Int)=((i+1:Nat):Int):=by omega
 have m:((93:UInt8).toNat :Int)=93:=rfl
 rw[A24.m]
 simp only[bQ,u,aA,A24.n,e,bI,cT,fP,z,Ze,aS,aB,Zf,aV,A,g,x,m,Zd,Zt,d1,d2,j,cM,aT,eV]
 unfold Aa8
 simp only[aO,aZ,bG]
 congr 4
 rw[show i+1+a.length+1=i+(0+1+a.length+(0+1)) by omega]
 rfl
theorem Akh (s:ByteArray)(y:s.size<=100000)(nm vl:ByteArray)(b:De nm=true)(a:J9 vl=true)(i:Nat)(r:List UInt8)(h:s.data.toList.drop i=(bsL [91]++nm++bsL [61]++M6 vl++bsL [93]).data.toList ++r):
  W 233 0 [.str s,.int i]=some [Aa8 ⟨3,nm,0,vl⟩ (i+(bsL [91]++nm++bsL [61]++M6 vl++bsL [93]).size)]:=by
 obtain⟨e,c⟩:=Hl b
 have A:=M4 a
 unfold J9 at a
 simp only[aJ,aY]at a
 have g:(bsL [91]++nm++bsL [61]++M6 vl++bsL [93]).size =nm.data.toList.length+(vl.data.toList.flatMap Jz).length +5:=by
  unfold M6
  simp only[aR,Ce,aZ,bG,aO,Dt];omega
 rw[g]
 have h':s.data.toList.drop i=91::(nm.data.toList++61::(34::(vl.data.toList.flatMap Jz++34::(93::r)))):=by
  rw[h];unfold M6
  simp[aN,bsL]
 obtain⟨Q,R,j⟩:=sx h'
 have B:=Be (i:=i) (by omega)
 have m:=Afu s y nm.data.toList (i+1) _ j (by omega) e (Ol (by decide))
 have C:=T2 j
 obtain⟨F,S,G⟩:=sx C
 have o:=ssl j c
 have H:0<nm.data.toList.length:=bP.2 c
 obtain⟨I,T,z⟩:=sx G
 have q:=Be (i:=i+1+nm.data.toList.length) (by omega)
 have t:=Be (i:=i+1+nm.data.toList.length+1) (by omega)
 have d:=Ym s y vl.data.toList (i+1+nm.data.toList.length+1+1) (93::r) Am z a.1 (by rw[Dt];show 0+vl.size<=1000;omega)
 rw[Iw,Qu]at d
 have J:=T2 z
 obtain⟨U,X,K⟩:=sx J
 obtain⟨L,Y,Z⟩:=sx K
 have u:W 237 0 [.str s,.int ((i+1+nm.data.toList.length+1:Nat):Int)]=some [.str vl,.int ((i+1+nm.data.toList.length+1+1+(vl.data.toList.flatMap Jz).length +1:Nat):Int),.bool true]:=by
  have w: ¬ ((s.size:Nat):Int)<=((i+1+nm.data.toList.length+1:Nat):Int):=by omega
  rw[A25.d]
  simp only[cT,aA,fP,w,Ze,aS,aB,Zf,I,dY,show((34:UInt8).toNat :Int)=34 from rfl,Zd,aT,bQ,t]
  exact d
 have x:=Be (i:=i+1+nm.data.toList.length+1+1+(vl.data.toList.flatMap Jz).length +1) (by omega)
 have w: ¬ ((s.size:Nat):Int)<=((i+1+nm.data.toList.length:Nat):Int):=by omega
 have M: ¬ ((i+1+nm.data.toList.length:Nat):Int)=((i+1:Nat):Int):=by omega
 have N: ¬ ((s.size:Nat):Int)<=((i+1+nm.data.toList.length+1+1+(vl.data.toList.flatMap Jz).length +1:Nat):Int):=by omega
 rw[A24.m]
 simp only[bQ,B,aA,A24.n,m,bI,cT,fP,w,Ze,aS,aB,Zf,aV,M,o,F,show((61:UInt8).toNat :Int)=61 from rfl,show ¬ (61:Int)=93 by omega,dY,Zd,aT,q,u,gX,cM,N,L,show((93:UInt8).toNat :Int)=93 from rfl,x,eV,Qu]
 unfold Aa8
 grind
theorem An9 (s:ByteArray)(g:s.size<=100000)(nm:ByteArray)(a:De nm=true)(i:Nat)(r:List UInt8)(h:s.data.toList.drop i=nm.data.toList++r)(j:i<=s.size)(m:Aaz r)(o q t u w x:IV):
  W 232 1 [.str s,.int i,o,q,t,u,w,x]=some [Aa8 ⟨1,nm,0,Am⟩ (i+nm.size)]:=by
 obtain⟨c,b⟩:=Hl a
 have d:=Afu s g nm.data.toList i r h j c m
 have e:=ssl h b
 have y:0<nm.data.toList.length:=bP.2 b
 have z: ¬ ((i+nm.data.toList.length:Nat):Int)=(i:Int):=by omega
 rw[A24.l]
 simp only[A24.n,d,bI,e,aA,aV,z,Ze,eV,Qu]
 unfold Aa8
 rw[Dt]
 rfl
theorem A32 (s:ByteArray)(m:s.size<=100000)(x:Stp)(b:C6 x=true)(i:Nat)(r:List UInt8)(h:s.data.toList.drop i=(Ip (decide (i=0)) x).data.toList ++r)(z:Aaz r):
  W 232 0 [.str s,.int i]=some [Aa8 x (i+(Ip (decide (i=0)) x).size)]:=by
 obtain⟨C,F,G,H,A⟩:=D7 b
 obtain⟨xk,xn,xi,xv⟩:=x
 simp only at C F G H A
 unfold C6 at b
 unfold Ip at h ⊢
 simp only at b h ⊢
 rw[A24.k]
 rcases A with rfl | rfl | rfl
 ·simp only[Zt,aJ,decide_eq_true_eq]at b
  obtain⟨⟨d,rfl⟩,rfl⟩:=b
  simp only[show ¬ (1:Int)=2 by omega,show ¬ (1:Int)=3 by omega,Zf]at h ⊢
  obtain⟨q,u⟩:=Hl d
  by_cases B:i=0
  ·subst B
   simp only[Zd,Zt]at h ⊢
   obtain⟨c,a,I⟩:=dA u
   have h':s.data.toList.drop 0=c::(a++r):=by grind
   obtain⟨g,w,o⟩:=sx h'
   have J:=q c (by grind)
   have j: ¬ (c.toNat:Int)=91:=by
    intro e
    have:c.toNat=91:=by omega
    unfold Bx at J
    grind
   simp only[g,aA,aV,j,Ze,aS,aB,Zf,cR,show ¬ (0:Int)<((0:Nat):Int) by omega]
   exact An9 s m xn d 0 r h (by omega) z _ _ _ _ _ _
  ·have y:(0:Int)<(i:Int):=by omega
   simp only[B,Ze,aB,Zf]at h ⊢
   have h':s.data.toList.drop i=46::(xn.data.toList++r):=by rw[h];simp[aN,bsL]
   obtain⟨g,w,o⟩:=sx h'
   have K:=Be (i:=i) (by omega)
   have L:=An9 s m xn d (i+1) r o (by omega) z (.int 0) (.str ⟨#[]⟩) (.int 0) (.str ⟨#[]⟩) (.int 0) (.bool false)
   simp only[g,aA,aV,show((46:UInt8).toNat :Int)=46 from rfl,show ¬ (46:Int)=91 by omega,Ze,aS,aB,Zf,cR,y,Zd,Zt,dY,aT,bQ,K,L]
   rw[aR,Ce,aP,show i+1+xn.size=i+(1+xn.size) by omega]
 ·simp only[show ¬ (2:Int)=1 by omega,Zf,Zt,aJ,decide_eq_true_eq]at b
  obtain⟨⟨⟨M,N⟩,rfl⟩,rfl⟩:=b
  obtain⟨n,rfl⟩:=cU M
  simp only[Zt,eD,aE]at h ⊢
  have Q:=Amy s m n i (by omega) r h
  have h': ∃t,s.data.toList.drop i=91::t:=by rw[h];simp[aN,bsL]
  obtain⟨t,h'⟩:=h'
  obtain⟨g,w,o⟩:=sx h'
  simp_all
 ·simp only[show ¬ (3:Int)=1 by omega,show ¬ (3:Int)=2 by omega,Zf,Zt,aJ,decide_eq_true_eq]at b
  obtain⟨⟨d,R⟩,rfl⟩:=b
  simp only[show ¬ (3:Int)=2 by omega,Zf,Zt]at h ⊢
  have Q:=Akh s m xn xv d R i r h
  have h': ∃t,s.data.toList.drop i=91::t:=by rw[h];simp[aN,bsL]
  obtain⟨t,h'⟩:=h'
  obtain⟨g,w,o⟩:=sx h'
  simp_all
theorem Va (b:Bool)(x:Stp)(a:C6 x=true):(Ip b x).data.toList ≠ []/\(b=false->Aaz ((Ip b x).data.toList)):=by
 obtain⟨d,e,g,i,j⟩:=D7 a
 unfold C6 at a
 unfold Ip
 split
 ·refine⟨by simp[aN,bsL],λ_=>?_⟩
  have: ∃t,(bsL [91]++gB x.ix.toNat++bsL [93]).data.toList =91::t:=by simp[aN,bsL]
  obtain⟨t,c⟩:=this
  rw[c];exact Ol (by decide)
 ·split
  ·refine⟨by simp[aN,bsL],λ_=>?_⟩
   have: ∃t,(bsL [91]++x.nm++bsL [61]++M6 x.vl++bsL [93]).data.toList =91::t:=by simp[aN,bsL]
   obtain⟨t,c⟩:=this
   rw[c];exact Ol (by decide)
  ·rename_i k2 m
   have k1:x.k=1:=by omega
   rw[if_pos k1]at a
   simp only[aJ]at a
   split
   ·rename_i o
    exact⟨(Hl a.1.1).2,λh=>by grind⟩
   ·refine⟨by simp[aN,bsL],λ_=>?_⟩
    have: ∃t,(bsL [46]++x.nm).data.toList =46::t:=by simp[aN,bsL]
    obtain⟨t,c⟩:=this
    rw[c];exact Ol (by decide)
theorem X8 (p:List Stp)(hp: ∀x∈p,C6 x=true):Aaz ((Ey false p).data.toList):=by
 cases p with
 | nil=>intro c t h;cases h
 | cons x r=>
  have d:=Va false x (hp x (by simp))
  obtain⟨c,a,b⟩:=dA d.1
  have e:=d.2 rfl
  rw[b]at e
  have g:=e c a rfl
  simp only[Ey,aN,b]
  exact Ol g
theorem Aco (s:ByteArray)(q:s.size<=100000)(full:List Stp)(a:C3 full=true): ∀ (p done:List Stp) (i:Nat),done++p=full->s.data.toList.drop i=(Ey (decide (i=0)) p).data.toList ->i<=s.size->
  W 231 1 [.str s,.int i,.list (done.map Stp.enc)]=some [.list (full.map Stp.enc),.int 0]
 | [],done,i,hd,h,r=>by
  rw[bW]at hd
  subst hd
  have c:s.size<=i:=by
   have:=congrArg cZ h
   rw[cV,Dt]at this
   have e:(Ey (decide (i=0)) []).data.toList.length =0:=rfl
   omega
  have g: ¬ i<s.size:=by omega
  have b:=a
  unfold C3 at b
  simp only[aJ,aY,decide_eq_true_eq]at b
  have t:=Mp done (λx o=>by
   have:=D7 (b.1 x o)
   exact⟨by omega,by omega⟩) (by omega)
  rw[A24.j]
  simp only[cT,aA,bD,Ao,g,Ze,aS,aB,Zf,t,bI,a,cM,aT]
 | x::p,done,i,hd,h,r=>by
  have b:=a
  unfold C3 at b
  simp only[aJ,aY,decide_eq_true_eq]at b
  have o:C6 x=true:=b.1 x (by grind)
  have hp: ∀y∈p,C6 y=true:=λy A=>b.1 y (by grind)
  simp only[Ey,aN]at h
  have u:=A32 s q x o i _ h (X8 p hp)
  have j:=(Va (decide (i=0)) x o).1
  have m:0<(Ip (decide (i=0)) x).data.toList.length :=bP.2 j
  have c:=X5 h (by simp[j])
  have d:=T2 h
  rw[aO]at c
  rw[Dt]at d m c
  have w:decide (i+(Ip (decide (i=0)) x).size =0)=false:=decide_eq_false (by omega)
  have g:i<s.size:=by omega
  have hlen:done.length+p.length+1=full.length:=by grind
  have z:((done.map Stp.enc).length + [x.enc].length) * 48<=Bc:=by
   simp only[aH,aP]
   have:(done.length+1) * 48<=100 * 48:=aW (by omega) (bJ _)
   unfold Bc;omega
  have B:=Aco s q full a p (done++ [x]) (i+(Ip (decide (i=0)) x).size) (by grind) (by grind) (by omega)
  have e1:dG 5 (Aa8 x (i+(Ip (decide (i=0)) x).size))=some (.bool false):=rfl
  have C:gY 0 4 (Aa8 x (i+(Ip (decide (i=0)) x).size))=some x.enc:=rfl
  have F:dG 4 (Aa8 x (i+(Ip (decide (i=0)) x).size))=some (.int ((i+(Ip (decide (i=0)) x).size :Nat):Int)):=rfl
  rw[A24.j]
  simp_all
theorem Ve (p:List Stp)(hp: ∀x∈p,C6 x=true): ∀b,(Ey b p).size <=500 * p.length:=by
 induction p with
 | nil=>intro b;show 0<=_;omega
 | cons x r a=>
  intro b
  have d:(Ip b x).size <=500:=Vd (hp x (by simp))
  have e:=a (λy c=>hp y (by simp[c])) false
  simp only[Ey,aR,aZ];omega
theorem Wq (p:List Stp)(hp:C3 p=true):W 231 0 [.str (Ck p)]=some [.list (p.map Stp.enc),.int 0]:=by
 have a:=hp
 unfold C3 at a
 simp only[aJ,aY,decide_eq_true_eq]at a
 have b:=Ve p a.1 true
 have c:500 * p.length<=500 * 16:=aW (bJ _) a.2
 have e:Ck p=Ey true p:=by unfold Ck;rw[if_pos hp];rfl
 rw[A24.i,e]
 have d: ¬ (20000:Int)<((Ey true p).size :Int):=by omega
 have:=Aco (Ey true p) (by omega) p hp p [] 0 rfl rfl (by omega)
 simp_all
end Go.CT.Sch
namespace Go.CT
def SS (l:List ByteArray):Prop:=l.Pairwise λa b=>blt a b=true
theorem SS.ext: ∀ {a b:List ByteArray},SS a->SS b->(∀x,x∈a↔x∈b)->a=b
 | [],[],_,_,_=>rfl
 | [],y::b,_,_,h=>by have:=(h y).2 dP;cases this
 | x::a,[],_,_,h=>by have:=(h x).1 dP;cases this
 | x::a,y::b,j,m,h=>by
  obtain⟨i,a2⟩:=bA.1 j
  obtain⟨b1,b2⟩:=bA.1 m
  have d:x=y:=by
   rcases bH.1 ((h x).1 dP) with e | e
   ·exact e
   ·rcases bH.1 ((h y).2 dP) with g | g
    ·exact g.symm
    ·have:=G7 (b1 x e) (i y g)
     rw[Ed]at this;cases this
  subst d
  rw[SS.ext a2 b2 λz=>⟨λc=>?_,λc=>?_⟩]
  ·rcases bH.1 ((h z).1 (cO _ c)) with rfl | e
   ·have:=i z c;rw[Ed]at this;cases this
   ·exact e
  ·rcases bH.1 ((h z).2 (cO _ c)) with rfl | e
   ·have:=b1 z c;rw[Ed]at this;cases this
   ·exact e
theorem Zv {l:List (List UInt8)}{x:List UInt8} :x∈Lib.compact l↔x∈l:=by
 unfold Lib.compact Lib.compactUpTo
 simp only[dX,cG,gS]
 constructor
 ·rintro⟨j,⟨g,_⟩,rfl⟩
  have:l.toArray[j]! =l[j]:=by simp[g]
  rw[this];exact aL g
 ·intro m
  obtain⟨i,a,rfl⟩:=List.mem_iff_getElem.1 m
  -- the first place
  have: ∀i,∀a:i<l.length,∃j,j<l.length/\Lib.keeps l.toArray j=true/\l.toArray[j]! =l[i]:=by
   intro i
   induction i with
   | zero=>intro a;exact⟨0,a,by simp[Lib.keeps],by simp[a]⟩
   | succ i o=>
    intro a
    by_cases h:l[i]=l[i+1]
    ·obtain⟨j,b,c,d⟩:=o (by omega)
     exact⟨j,b,c,d.trans h⟩
    ·refine⟨i+1,a,Lib.keeps_pos ?_,by simp[a]⟩
     have b:i<l.length:=by omega
     simp[a,b]
     exact λe=>h e.symm
  obtain⟨j,b,c,d⟩:=this i a
  exact⟨j,⟨b,c⟩,d⟩
theorem Ajf {l:List (List UInt8)}(h:l.Pairwise λa b=>Op.bytesLess b a=false):(Lib.compact l).Pairwise λa b=>Op.bytesLess a b=true:=by
 unfold Lib.compact Lib.compactUpTo
 rw[gE]
 have u:((iC l.length).filter (Lib.keeps l.toArray)).Pairwise (· < ·):=fN _ List.pairwise_lt_range
 refine u.imp_of_mem fun {i j} w q x=>?_
 simp only[cG,gS]at w q
 obtain⟨c,d⟩:=q
 have g:i<l.length:=by omega
 have hp:j - 1<l.length:=by omega
 have ei:l.toArray[i]! =l[i]:=by simp[g]
 have ej:l.toArray[j]! =l[j]:=by simp[c]
 have ep:l.toArray[j - 1]! =l[j - 1]:=by simp[hp]
 rw[ei,ej]
 have m:l[j]≠l[j - 1]:=by
  intro e
  have:Lib.keeps l.toArray j=false:=Lib.keeps_neg (by omega) (by rw[ej,ep];exact e)
  rw[this]at d;cases d
 have r:Op.bytesLess l[j] l[j - 1]=false:=eS.1 h (j - 1) j hp c (by omega)
 have o:Op.bytesLess l[j - 1] l[j]=true:=by
  rcases Wt l[j - 1] l[j]with h | h | h
  ·exact h
  ·exact absurd h.symm m
  ·rw[h]at r;cases r
 by_cases y:i=j - 1
 ·subst y;exact o
 ·have t:Op.bytesLess l[j - 1] l[i]=false:=eS.1 h i (j - 1) g hp (by omega)
  rcases Wt l[i] l[j - 1]with h | h | h
  ·exact Adz h o
  ·rw[h];exact o
  ·rw[h]at t;cases t
def W2 (l:List ByteArray):List ByteArray:=Gw (Q8 l)
theorem Nk {l:List ByteArray}{x:ByteArray} :x∈W2 l↔x∈l:=by
 unfold W2 Gw
 rw[Wn];unfold Amh
 rw[Adp,dX]
 constructor
 ·rintro⟨y,a,rfl⟩
  rw[Zv,fZ,dX]at a
  obtain⟨z,b,rfl⟩:=a
  rw[Ae6];exact b
 ·intro c
  refine⟨x.data.toList,?_,Ae6 x⟩
  rw[Zv,fZ,dX]
  exact⟨x,c,rfl⟩
theorem Alh (l:List ByteArray):SS (W2 l):=by
 unfold W2 Gw SS
 rw[Wn];unfold Amh
 rw[Adp,gE]
 refine(Ajf (Agh _)).imp λh=>?_
 unfold blt
 rw[S3,S3];exact h
theorem Od (l:List ByteArray):(W2 l).length <=l.length:=by
 unfold W2 Gw
 rw[Wn];unfold Amh
 rw[Adp,aH]
 have a: ∀l:List (List UInt8),(Lib.compact l).length <=l.length:=λl=>by
  have a:(Lib.compact l).length <=(iC l.length).length :=by
   unfold Lib.compact Lib.compactUpTo
   rw[aH]
   exact cY _ _
  simpa using a
 refine dC (a _) ?_
 rw[List.length_mergeSort,aH];exact bJ _
end Go.CT
namespace Go.CT.Sch
open Go.Proofs
abbrev SL (l:List ByteArray):IV:=eA IV.str l
theorem Alc {l:List ByteArray}(h:l.length<=1099511627776):O.Ni [SL l]=some [SL l]:=by
 unfold O.Ni SL eA
 simp only[aH]
 rw[if_pos (by unfold Bc;omega)]
theorem Ayp {l:List ByteArray}(h:l.length<=1099511627776):O.Al7 [SL l]=some [SL (Q8 l)]:=by
 unfold O.Al7 SL eA
 simp only[Nc,aA]
 rw[if_pos (by omega)]
theorem Al0 {l:List ByteArray}(h:l.length<=1099511627776):O.N2 [SL l]=some [SL (Gw l)]:=by
 unfold O.N2 SL eA
 simp only[Nc,aA]
 rw[if_pos (by omega)]
theorem A8c {l:List ByteArray}(h:l.length<=1099511627776):W 144 0 [SL l]=some [SL (W2 l)]:=by
 have a:(Q8 l).length =l.length:=(Qp l).length_eq
 rw[A14.l,A14.m]
 simp only[bI,A14.n,A69,A7a,A7y,Alc h,Ayp h,Al0 (l:=Q8 l) (by omega)]
 rfl
theorem A2i (a b:List ByteArray)(m:a.length<=1048576)(o:b.length<=1048576):W 187 0 [.list [SL a,SL b]]=some [SL (a++b)]:=by
 have g:O.Akj 16 [.list [],.int ((a.length:Int)+(b.length:Int))]=some [.list []]:=by
  simp only[O.Akj]
  rw[if_pos]
  unfold Bc
  refine⟨by omega,?_,?_⟩<;>simp only[bG]<;>omega
 have w1:IntKind.i64.wrap (0+(a.length:Int))=(a.length:Int):=by rw[wrap64 (by omega) (by omega)];omega
 have h:IntKind.i64.wrap ((a.length:Int)+(b.length:Int))=(a.length:Int)+(b.length:Int):=wrap64 (by omega) (by omega)
 have c:IntKind.i64.wrap (0+1)=1:=by decide
 have d:IntKind.i64.wrap (1+1)=2:=by decide
 have i: ¬ (a.length:Int)<0:=by omega
 have j: ¬ (a.length:Int)+(b.length:Int)<0:=by omega
 have ap1:fM 16 (.list []) (SL a)=some (SL a):=by
  unfold SL eA
  rw[fR,if_pos (by simp only[bG,aH,Bc];omega)]
  rfl
 have ap2:fM 16 (SL a) (SL b)=some (SL (a++b)):=by
  unfold SL eA
  rw[fR,if_pos (by simp only[aH,Bc];omega),cW]
 have i0:eU (.list [SL a,SL b]) (.int 0)=some (SL a):=rfl
 have i1:eU (.list [SL a,SL b]) (.int 1)=some (SL b):=rfl
 have e:O.len (.list [SL a,SL b])=some (.int 2):=rfl
 have lt0:decide ((0:Int)<2)=true:=by decide
 have lt1:decide ((1:Int)<2)=true:=by decide
 have lt2:decide ((2:Int)<2)=false:=by decide
 rw[A18.i]
 simp only[e,aA]
 rw[A18.j]
 simp only[bD,lt0,aA,aS,Zt,i0,cS,bQ,w1,i,Ze,aB,Zf]
 rw[A18.k]
 simp only[bQ,c,aA]
 rw[A18.j]
 simp only[bD,lt1,aA,aS,Zt,i1,cS,bQ,h,j,Ze,aB,Zf]
 rw[A18.k]
 simp only[bQ,d,aA]
 rw[A18.j]
 simp only[bD,lt2,aA,aS,aB,Zf,A8f,g,bI,e]
 rw[A18.l]
 simp only[bD,lt0,aA,aS,Zt,i0,ap1,bQ,c]
 rw[A18.l]
 simp only[bD,lt1,aA,aS,Zt,i1,ap2,bQ,d]
 rw[A18.l]
 simp only[bD,lt2,aA,aS,aB,Zf]
theorem Azz (a b:List ByteArray)(c:a.length<=1048576)(d:b.length<=1048576):W 186 0 [SL a,SL b]=some [SL (W2 (a++b))]:=by
 rw[A18.h]
 simp only[fX,aA,A2i a b c d,bI,A8c (l:=a++b) (by simp only[aO];omega)]
def inB (l:List ByteArray)(s:ByteArray):Bool:=l.any λt=>decide (s=t)
theorem Hg {l:List ByteArray}{s:ByteArray} :inB l s=true↔s∈l:=by
 unfold inB;rw[List.any_eq_true]
 constructor
 ·rintro⟨t,a,b⟩;rw[of_decide_eq_true b];exact a
 ·intro h;exact⟨s,h,by simp⟩
theorem Si (k:ByteArray)(ks:List ByteArray)(s:ByteArray):inB (k::ks) s=(decide (s=k)||inB ks s):=rfl
def O6 (ks:List ByteArray):List IV:=ks.map λk=> .agg [.str k,.bool true]
theorem Aw8 (s t:ByteArray):(IV.str s).Re (.str t)=some (decide (s=t)):=by
 have:(s.toList == t.toList)=decide (s=t):=by
  rw[aX,beq_iff_eq,decide_eq_true_iff];exact O.Uv
 simp only[IV.Re,this]
theorem Aai (s:ByteArray): ∀ks:List ByteArray,Wj (.str s) (O6 ks)=some (if inB ks s then some (.bool true) else none)
 | []=>rfl
 | k::ks=>by
  have a:=Aai s ks
  unfold O6 at a ⊢
  simp only[bM,Wj,Aw8]
  by_cases h:s=k
  ·subst h;simp[Si]
  ·simp only[h,Ze,a,Si,eB]
theorem Av3 (s:ByteArray): ∀ks:List ByteArray,Avg (.str s) (.bool true) (O6 ks)=some (O6 (if inB ks s then ks else ks++ [s]))
 | []=>rfl
 | k::ks=>by
  have a:=Av3 s ks
  unfold O6 at a ⊢
  simp only[bM,Avg,Aw8]
  by_cases h:s=k
  ·subst h;simp[Si]
  ·simp only[h,Ze,a,Si,eB,aI]
   cases inB ks s<;>simp
def O3:List ByteArray->List ByteArray->List ByteArray
 | acc,[]=>acc
 | acc,s::l=>O3 (if inB acc s then acc else acc++ [s]) l
theorem Z6: ∀ (l acc:List ByteArray) (x:ByteArray),x∈O3 acc l↔x∈acc\/x∈l
 | [],acc,x=>by simp[O3]
 | s::l,acc,x=>by
  rw[O3,Z6 l]
  by_cases h':inB acc s=true
  ·have h:=Hg.1 h'
   simp only[h',Zt,bH]
   constructor
   ·rintro (a | a)
    ·exact .inl a
    ·exact .inr (.inr a)
   ·rintro (a | rfl | a)
    ·exact .inl a
    ·exact .inl h
    ·exact .inr a
  ·simp[h',or_assoc]
theorem A6z (s:ByteArray)(ks:List ByteArray)(is:Bool):W 154 0 [.str s,.list (O6 ks),.bool is]=some [.bool (inB ks s !=is),.list (O6 ks),.bool is]:=by
 have c:O.Aoh (.bool false) (.list (O6 ks)) (.str s)=some (.bool (inB ks s)):=by
  unfold O.Aoh
  simp only[dB,Aai,aI]
  cases inB ks s<;>simp
 have a: ∃b,O.Aku (.list (O6 ks)) (.str s)=some (.bool b):=by
  unfold O.Aku
  simp only[dB,Aai,aI]
  exact⟨_,rfl⟩
 obtain⟨b,a⟩:=a
 rw[A15.g]
 simp only[c,a,aA,O.Axr]
end Go.CT.Sch
namespace Go.CT.Sch
open Go.Proofs
def Ago (ks:List ByteArray)(is:Bool)(s:ByteArray):Bool:= !(inB ks s !=is)
theorem Azw (l ks:List ByteArray)(is:Bool)(e:l.length<=1099511627776): ∀ (n i:Nat),i+n=l.length->(∀p∈l.take i,Ago ks is p=true)->
  (W 153 1 [SL l,.int l.length,.int i,.bool is,.list (O6 ks)]=some [.int (-1),.list (O6 ks),.bool is]/\ ∀p∈l,Ago ks is p=true)\/
  ∃j,∃h:j<l.length,W 153 1 [SL l,.int l.length,.int i,.bool is,.list (O6 ks)]=some [.int (j:Nat),.list (O6 ks),.bool is]/\Ago ks is l[j]=false/\ ∀p∈l.take j,Ago ks is p=true
 | 0,i,h,hp=>by
  left
  rw[A15.f]
  have g: ¬ i<l.length:=by omega
  rw[fD (by omega)]at hp
  refine⟨?_,hp⟩
  simp only[bD,Ao,g,Ze,aA,aS,aB,Zf]
 | n+1,i,h,hp=>by
  have a:i<l.length:=by omega
  have m:=Be (i:=i) (by omega)
  have d:=eT IV.str (aC a)
  rw[A15.f]
  cases c:(inB ks l[i] !=is) with
  | true=>
   right
   refine⟨i,a,?_,by simp[Ago,c],hp⟩
   simp only[bD,Ao,a,Zd,aA,aS,Zt,d,A6z,gX,c]
  | false=>
   have:=Azw l ks is e n (i+1) (by omega) (by
    intro p b
    rw[<-List.take_append_getElem a]at b
    rcases dK.1 b with h | h
    ·exact hp p h
    ·simp at h;subst h;simp[Ago,c])
   simp only[bD,Ao,a,Zd,aA,aS,Zt,d,A6z,gX,c,aB,Zf,bQ,m]
   exact this
theorem Zl (ks:List ByteArray)(is:Bool): ∀ (rest kept junk:List ByteArray),junk≠ []->kept.length+junk.length+rest.length<=1099511627776->
  W 152 1 [.int kept.length,.int (kept.length+junk.length:Nat),.bool is,SL (kept++(junk++rest)),.list (O6 ks)]=some [SL (kept++rest.filter (Ago ks is)),.list (O6 ks),.bool is]
 | [],kept,junk,d,e=>by
  have r:=bP.2 d
  rw[A15.c,cS]
  have b: ¬ ((kept.length+junk.length:Nat):Int)<(kept++(junk++ [])).length :=by simp
  have o: ∀z:IV,O.clear z (SL (kept++(junk++ []))) (.int kept.length) (.int (kept++(junk++ [])).length)=some (.list (kept.map IV.str++List.replicate junk.length z)):=by
   intro z
   unfold O.clear SL eA
   simp only[dB,bW,aH,aO,aF,true_and,aE,bJ,and_true]
   rw[if_pos (by omega)]
   simp
  have t: ∀ys:List IV,O.slice (.list (kept.map IV.str++ys)) (.int 0) (.int kept.length)=some (SL kept):=by
   intro ys
   rw[O.Ql,if_pos (by simp only[aO,aH];omega)]
   simp[SL,eA]
  have a: ∃y,O.slice (SL (kept++(junk++ []))) (.int kept.length) (.int (kept++(junk++ [])).length)=some y:=by
   unfold SL eA
   rw[O.Ql,if_pos (by simp only[aO,aH];omega)]
   exact⟨_,rfl⟩
  obtain⟨y,a⟩:=a
  simp only[bW]at b o a
  simp only[bW,aA,bD,b,Ze,aS,aB,Zf,a,o,t,List.filter_nil,bW]
 | v::rest,kept,[],d,e=>absurd rfl d
 | v::rest,kept,y::js,d,e=>by
  simp only[aZ]at e
  rw[A15.c,cS]
  have b:((kept.length+(y::js).length :Nat):Int)<(kept++(y::js++v::rest)).length :=by simp;omega
  have q:IntKind.i64.wrap (((kept.length+(y::js).length :Nat):Int)+1)=((kept.length+(y::js).length +1:Nat):Int):=by simp only[aZ];rw[wrap64 (by omega) (by omega)];omega
  have g:IntKind.i64.wrap ((kept.length:Int)+1)=((kept.length+1:Nat):Int):=Be (by omega)
  have gv:=eT IV.str (Srt.Di (l:=kept++(y::js++v::rest)) (A:=kept++y::js) (x:=v) (B:=rest) (by simp) (i:=kept.length+(y::js).length) (by simp))
  have gi:=eT IV.str (Srt.Di (l:=kept++(y::js++v::rest)) (A:=kept) (x:=y) (B:=js++v::rest) (by simp) (i:=kept.length) rfl)
  have st:=Srt.Jq (l:=kept++(y::js++v::rest)) (A:=kept) (x:=y) (y:=v) (B:=js++v::rest) (by simp) (i:=kept.length) rfl
  have h:kept.length<(kept++(y::js++v::rest)).length :=by simp
  rw[bX]
  cases c:(inB ks v !=is) with
  | true=>
   have j:=Zl ks is rest kept (y::js++ [v]) (by simp) (by simp;omega)
   have m:Ago ks is v=false:=by simp[Ago,c]
   simp only[aA,bD,b,Zd,aS,Zt,gv,A6z,gX,c,cM,aT,aB,Zf,A15.d,bQ,q,m]
   rw[show kept.length+(y::js).length +1=kept.length+(y::js++ [v]).length by simp;omega]
   rw[<-j];simp
  | false=>
   have j:=Zl ks is rest (kept++ [v]) (js++ [v]) (by simp) (by simp;omega)
   have m:Ago ks is v=true:=by simp[Ago,c]
   simp only[aA,bD,b,Zd,aS,Zt,gv,A6z,gX,c,cM,bE,gi,Srt.Aqi IV.str h,st,bQ,g,A15.d,q,m]
   rw[show kept.length+(y::js).length +1=(kept++ [v]).length +(js++ [v]).length by simp;omega,show kept.length+1=(kept++ [v]).length by simp]
   rw[show kept++v::(js++v::rest)=kept++ [v]++(js++ [v]++rest) by simp,j]
   simp
theorem A1i (l ks:List ByteArray)(is:Bool)(h:l.length<=1099511627776):
  W 152 0 [SL l,.list (O6 ks),.bool is]=some [SL (l.filter (Ago ks is)),.list (O6 ks),.bool is]:=by
 rw[A15.b,A15.e]
 have key:=Azw l ks is h l.length 0 (by omega) (by simp)
 simp only[aK]at key
 rcases key with⟨a,b⟩ | ⟨j,i,a,b,m⟩
 ·simp only[cS,aA,a,gX,aV,Zd,aS,Zt]
  rw[fT.2 b]
 ·have c: ¬ (j:Int)= -1:=by omega
  have d:IntKind.i64.wrap ((j:Int)+1)=((j+1:Nat):Int):=Be (by omega)
  simp only[cS,aA,a,gX,aV,c,Ze,aS,aB,Zf,bQ,d]
  have g:l=l.take j++([l[j]]++l.drop (j+1)):=by
   rw[dZ,<-aD i,fG]
  have e:(l.take j).length =j:=by rw[List.length_take];omega
  have o:(l.drop (j+1)).length =l.length - (j+1):=by rw[cV]
  have hd:=Zl ks is (l.drop (j+1)) (l.take j) [l[j]] (by simp) (by simp only[aP];omega)
  rw[e,aP,<-g]at hd
  rw[hd]
  have q:l.filter (Ago ks is)=l.take j++(l.drop (j+1)).filter (Ago ks is):=by
   conv=>lhs;rw[g]
   rw[eQ,eQ,fT.2 m]
   congr 1
   simp[b]
  rw[q]
theorem Aud (a b:List ByteArray)(is:Bool)(d:a.length<=1048576)(e:b.length<=1048576): ∀ (n i:Nat) (acc:List ByteArray),i+n=b.length->
  W 151 1 [SL a,SL b,.int b.length,.int i,.bool is,.list (O6 acc)]=some [SL ((W2 a).filter (Ago (O3 acc (b.drop i)) is))]
 | 0,i,acc,h=>by
  have g: ¬ i<b.length:=by omega
  have hd:=A1i (W2 a) acc is (by have:=Od a;omega)
  rw[A15.a]
  simp only[bD,Ao,g,Ze,aA,aS,aB,Zf,A8c (l:=a) (by omega),bI,hd,gX]
  rw[aG (by omega)];rfl
 | n+1,i,acc,h=>by
  have c:i<b.length:=by omega
  have j:=Be (i:=i) (by omega)
  have m:=eT IV.str (aC c)
  have o:O.Ap5 (.list (O6 acc)) (.str b[i]) (.bool true)=some (.list (O6 (if inB acc b[i]then acc else acc++ [b[i]]))):=by
   unfold O.Ap5
   simp only[dB,Av3,aI]
  rw[A15.a]
  simp only[bD,Ao,c,Zd,aA,aS,Zt,m,o,bQ,j]
  rw[Aud a b is d e n (i+1) _ (by omega),aD c,O3]
theorem A4n (a b:List ByteArray)(is:Bool)(c:a.length<=1048576)(d:b.length<=1048576):
  W 151 0 [SL a,SL b,.bool is]=some [SL ((W2 a).filter (λs=>inB b s == is))]:=by
 have h:=Aud a b is c d b.length 0 [] (by omega)
 simp only[aK,aQ]at h
 rw[A14.p,cS]
 simp only[aA]
 refine h.trans ?_
 have e:Ago (O3 [] b) is=λs=>inB b s == is:=by
  funext s
  have:inB (O3 [] b) s=inB b s:=by
   rw[aX,Hg,Hg,Z6];simp
  unfold Ago
  rw[this]
  cases inB b s<;>cases is<;>rfl
 rw[e]
end Go.CT.Sch
namespace Go.CT.Sch
open Go.Proofs
def leB (s x:ByteArray):Bool:=blt s x||decide (s=x)
def Adh (s:ByteArray):Bool->List ByteArray->List ByteArray
 | d,[]=>if d then[]else[s]
 | d,x::r=>(if !d &&leB s x then[s]else[])++(if x=s then[]else[x])++Adh s (d||leB s x) r
theorem Tn (s:ByteArray): ∀l,Adh s true l=l.filter λx=> !decide (x=s)
 | []=>rfl
 | x::r=>by
  rw[Adh,dU,Tn s r,bX]
  by_cases h:x=s<;>simp[h]
theorem Afa (s x:ByteArray): ∀l,x∈Adh s false l↔x=s\/x∈l
 | []=>by simp[Adh]
 | y::r=>by
  rw[Adh]
  cases h:leB s y with
  | true=>
   rw[eK,Tn]
   by_cases a:y=s
   ·subst a
    by_cases c:x=y<;>simp[c]
   ·simp only[bE,bN,Zt,a,Zf,dK,gA,cG,gF,decide_eq_false_iff_not,bH,gI,or_false]
    constructor
    ·rintro ((h | h) | h)
     ·exact .inl h
     ·exact .inr (.inl h)
     ·exact .inr (.inr h.1)
    ·rintro (h | h | h)
     ·exact .inl (.inl h)
     ·exact .inl (.inr h)
     ·by_cases b:x=s
      ·exact .inl (.inl b)
      ·exact .inr ⟨h,b⟩
  | false=>
   have a: ¬ y=s:=by rintro rfl;simp[leB]at h
   simp only[bE,bN,aB,Zf,a,bF,dK,gA,fE,Afa s x r,bH,gI,or_false]
   constructor
   ·rintro (h | h | h)
    ·exact .inr (.inl h)
    ·exact .inl h
    ·exact .inr (.inr h)
   ·rintro (h | h | h)
    ·exact .inr (.inl h)
    ·exact .inl h
    ·exact .inr (.inr h)
theorem Ass (s:ByteArray): ∀l,SS l->SS (Adh s false l)
 | [],_=>cF _ _
 | y::r,j=>by
  obtain⟨d,g⟩:=bA.1 j
  rw[Adh]
  cases h:leB s y with
  | true=>
   rw[eK,Tn]
   have e:(if !false &&true then[s]else[])++(if y=s then[]else[y])++r.filter (λx=> !decide (x=s))=s::(y::r).filter (λx=> !decide (x=s)):=by
    rw[bX]
    by_cases g:y=s<;>simp[g]
   rw[e]
   refine bA.2 ⟨λx a=>?_,fN _ j⟩
   simp only[cG,gF,decide_eq_false_iff_not]at a
   have b:blt s y=true\/s=y:=by simpa [leB]using h
   rcases bH.1 a.1 with rfl | m
   ·exact b.resolve_right λe=>a.2 e.symm
   ·rcases b with h | rfl
    ·exact G7 h (d x m)
    ·exact d x m
  | false=>
   have o: ¬ y=s:=by rintro rfl;simp[leB]at h
   have i:blt y s=true:=by
    rcases Ku s y with c | c | c
    ·simp[leB,c]at h
    ·exact absurd c.symm o
    ·exact c
   simp only[bE,bN,aB,Zf,o,bF,dZ,fE]
   refine bA.2 ⟨λx a=>?_,Ass s r g⟩
   rcases(Afa s x r).1 a with rfl | a
   ·exact i
   ·exact d x a
theorem Adn (s:ByteArray): ∀l,(Adh s false l).length <=l.length+1
 | []=>by simp[Adh]
 | x::r=>by
  have b:=Adn s r
  have c:(if x=s then([]:List ByteArray) else[x]).length <=1:=by split<;>simp
  rw[Adh,aO,aO,aZ]
  cases h:leB s x with
  | true=>
   rw[eK,Tn]
   have:=cY (λx=> !decide (x=s)) r
   have a:(if(!false &&true)=true then[s]else[]).length =1:=rfl
   rw[a];omega
  | false=>
   have a:(if(!false &&false)=true then[s]else[]).length =0:=rfl
   rw[a,fE];omega
theorem Axa (l:List ByteArray)(s:ByteArray)(g:l.length<=1048576): ∀ (n i:Nat) (d:Bool) (out:List ByteArray),i+n=l.length->out.length<=i+(if d then 1 else 0)->
  W 228 1 [SL l,.str s,.bool d,.int i,SL out]=some [SL (out++Adh s d (l.drop i))]
 | 0,i,d,out,h,a=>by
  have r: ¬ i<l.length:=by omega
  have ap:fM 16 (SL out) (.list [.str s])=some (SL (out++ [s])):=by
   have a:out.length<=i+1:=by cases d<;>simp at a<;>omega
   unfold SL eA
   rw[fR,if_pos (by simp only[aH,aP,Bc];omega)]
   simp
  rw[A24.d,cS,aG (by omega)]
  cases d<;>simp[Ao,r,Adh,ap]
 | n+1,i,d,out,h,a=>by
  have c:i<l.length:=by omega
  have j:=Be (i:=i) (by omega)
  have e:=eT IV.str (aC c)
  have ap: ∀ (o:List ByteArray) (t:ByteArray),o.length<=i+3->fM 16 (SL o) (.list [.str t])=some (SL (o++ [t])):=by
   intro o t a
   unfold SL eA
   rw[fR,if_pos (by simp only[aH,aP,Bc];omega)]
   simp
  -- the second half
  have half: ∀ (b:Bool) (o:List ByteArray),o.length<=i+(if b then 1 else 0)->W 228 2 [SL l,.str s,.bool b,.int i,SL o]=some [SL (o++((if l[i]=s then[]else[l[i]])++Adh s b (l.drop (i+1))))]:=by
   intro b o a
   rw[A24.e]
   by_cases m:l[i]=s
   ·have:=Axa l s g n (i+1) b o (by omega) (by omega)
    simp only[e,aA,gM,m,Zd,aT,aS,aB,Zf,A24.f,bQ,j,this,Zt,bF]
   ·have:=Axa l s g n (i+1) b (o++ [l[i]]) (by omega) (by rw[aO,aP];omega)
    simp only[e,aA,gM,m,Ze,bE,aS,Zt,fX,ap o l[i] (by cases b<;>simp at a<;>omega),A24.f,bQ,j,this,Zf,bV]
  rw[A24.d,cS,aD c,Adh]
  have hle:O.sLe (.str s) (.str l[i])=some (.bool (leB s l[i])):=by rw[O.Ake,blt_eq];rfl
  cases d with
  | true=>
   simp only[aA,bD,Ao,c,Zd,aS,Zt,cM,aT,aB,Zf,dU,cJ,bF]
   exact half true out a
  | false=>
   cases q:leB s l[i]with
   | true=>
    simp only[aA,bD,Ao,c,Zd,aS,Zt,cM,bE,e,hle,q,fX,ap out s (by simp at a;omega),eK,bN]
    have u:out.length<=i:=by simpa using a
    rw[half true (out++ [s]) (by rw[aO,aP,if_pos rfl];omega)]
    simp
   | false=>
    simp only[aA,bD,Ao,c,Zd,aS,Zt,cM,bE,e,hle,q,aB,Zf,fE,gP,bF]
    exact half false out a
end Go.CT.Sch
namespace Go.CT.Sch
open Go.Proofs
theorem rput (l:List ByteArray)(s:ByteArray)(a:l.length<=1048576):W 228 0 [SL l,.str s]=some [SL (Adh s false l)]:=by
 have:=Axa l s a l.length 0 false [] (by omega) (by simp)
 simp only[aK,aQ,bF]at this
 rw[A24.c]
 exact this
def S0:List ByteArray->List ByteArray->List ByteArray
 | acc,[]=>acc
 | acc,s::l=>S0 (Adh s false acc) l
theorem Ads: ∀ (l acc:List ByteArray),SS acc->SS (S0 acc l)
 | [],_,h=>h
 | s::l,acc,h=>Ads l _ (Ass s acc h)
theorem X4 (x:ByteArray): ∀ (l acc:List ByteArray),x∈S0 acc l↔x∈acc\/x∈l
 | [],acc=>by simp[S0]
 | s::l,acc=>by
  rw[S0,X4 x l,Afa,bH]
  constructor
  ·rintro ((h | h) | h)
   ·exact .inr (.inl h)
   ·exact .inl h
   ·exact .inr (.inr h)
  ·rintro (h | h | h)
   ·exact .inl (.inr h)
   ·exact .inl (.inl h)
   ·exact .inr h
theorem Aol (l:List ByteArray): ∀ (n i:Nat) (acc:List ByteArray),i+n=l.length->acc.length+n<=1048576->l.length<=1048576->
  W 227 2 [SL l,.int i,SL acc]=some [SL (S0 acc (l.drop i))]
 | 0,i,acc,h,c,b=>by
  have d: ¬ i<l.length:=by omega
  rw[A24.b,cS,aG (by omega)]
  simp only[aA,bD,Ao,d,Ze,aS,aB,Zf,S0]
 | n+1,i,acc,h,c,b=>by
  have a:i<l.length:=by omega
  have e:=Be (i:=i) (by omega)
  have g:=eT IV.str (aC a)
  have hp:=Adn l[i] acc
  have j:=Aol l n (i+1) (Adh l[i] false acc) (by omega) (by omega) b
  rw[A24.b,cS,aD a,S0]
  simp only[aA,bD,Ao,a,Zd,aS,Zt,g,rput acc l[i] (by omega),bI,bQ,e,j]
theorem Ap3 (a b:List ByteArray): ∀ (n i:Nat) (acc:List ByteArray),i+n=a.length->acc.length+n+b.length<=1048576->a.length<=1048576->
  W 227 1 [SL a,SL b,.int i,SL acc]=some [SL (S0 (S0 acc (a.drop i)) b)]
 | 0,i,acc,h,g,d=>by
  have j: ¬ i<a.length:=by omega
  have e:=Aol b b.length 0 acc (by omega) (by omega) (by omega)
  simp only[aK,aQ]at e
  rw[A24.a,cS,aG (by omega)]
  simp only[aA,bD,Ao,j,Ze,aS,aB,Zf,S0]
  exact e
 | n+1,i,acc,h,g,d=>by
  have c:i<a.length:=by omega
  have m:=Be (i:=i) (by omega)
  have o:=eT IV.str (aC c)
  have hp:=Adn a[i] acc
  have q:=Ap3 a b n (i+1) (Adh a[i] false acc) (by omega) (by omega) d
  rw[A24.a,cS,aD c,S0]
  simp only[aA,bD,Ao,c,Zd,aS,Zt,o,rput acc a[i] (by omega),bI,bQ,m,q]
theorem union_eq (a b:List ByteArray):S0 (S0 [] a) b=W2 (a++b):=
 SS.ext (Ads b _ (Ads a _ dW)) (Alh _) λx=>by rw[X4,X4,Nk,dK];simp
theorem A6p (a b:List ByteArray)(c:a.length+b.length<=1048576):W 227 0 [SL a,SL b]=some [SL (W2 (a++b))]:=by
 have:=Ap3 a b a.length 0 [] (by omega) (by simp only[bG];omega) (by omega)
 simp only[aK,aQ,union_eq]at this
 rw[A23.p]
 exact this
def G6 (a b:List ByteArray):List ByteArray:=(W2 a).filter λs=> !inB b s
def Pz (a b:List ByteArray):List ByteArray:=(W2 a).filter λs=>inB b s
theorem Ahq (a b:List ByteArray)(c:a.length<=1048576)(d:b.length<=1048576):W 150 0 [SL a,SL b]=some [SL (G6 a b)]:=by
 rw[A14.o,A4n a b false c d]
 simp only[bI]
 congr 3
 unfold G6;congr 1;funext s;cases inB b s<;>rfl
theorem A0e (a b:List ByteArray)(c:a.length<=1048576)(d:b.length<=1048576):W 209 0 [SL a,SL b]=some [SL (Pz a b)]:=by
 rw[A21.f,A4n a b true c d]
 simp only[bI]
 congr 3
 unfold Pz;congr 1;funext s;cases inB b s<;>rfl
theorem My (a b:List ByteArray):(G6 a b).length <=a.length:=dC (cY _ _) (Od a)
end Go.CT.Sch
namespace Go.CT.Sch
open Go.Proofs
abbrev Kid:=Stp × Val × Option Sch
def Uc (key:ByteArray)(x:Val):Stp:=⟨3,key,0,Cw x key⟩
def Dh (key:ByteArray):List ByteArray->List Val->Bool
 | _,[]=>true
 | met,x::l=>isKey x key&& !inB met (Cw x key)&&Dh key (met++ [Cw x key]) l
def kids:Option Sch->Val->List Kid
 | none,_=> []
 | some s,v=>if s.k=v.k then(if v.k=5 then v.f.map λx=>(Cd x.1,x.2,Du s x.1) else if v.k=4/\s.key≠Am/\Dh s.key [] v.l=true then v.l.map λx=>(Uc s.key x,x,s.it.head?) else[]) else[]
def Qg (s:ByteArray):Val:=⟨3,0,s,[],[]⟩
def lv:Nat->Option Sch->Val->List Stp->List ByteArray
 | 0,_,_,_=> []
 | d+1,o,v,p=>if kids o v= []then[Ck p]else(kids o v).flatMap λx=>lv d x.2.2 x.2.1 (p++ [x.1])
def G5 (r:Kid->Val × Bool)(l:List Kid):List (Stp × Val):=l.filterMap λx=>if(r x).2 then some (x.1,(r x).1) else none
def fieldsOf (l:List (Stp × Val)):List (ByteArray × Val):=l.map λx=>(x.1.nm,x.2)
def Gh (l:List (Stp × Val)):List Val:=l.map λx=>Df x.2 x.1.nm (Qg x.1.vl)
def pt:Nat->Option Sch->Val->List Stp->(ByteArray->Bool)->Val × Bool
 | 0,_,v,_,_=>(v,false)
 | d+1,o,v,p,ch=>if kids o v= []then(v,ch (Ck p)) else
  (⟨
    v.k,0,Am,if v.k=5 then[]else Gh (G5 (λx=>pt d x.2.2 x.2.1 (p++ [x.1]) ch) (kids o v)),
    if v.k=5 then fieldsOf (G5 (λx=>pt d x.2.2 x.2.1 (p++ [x.1]) ch) (kids o v)) else[]⟩,
   !(G5 (λx=>pt d x.2.2 x.2.1 (p++ [x.1]) ch) (kids o v)).isEmpty)
theorem J3 {o:Option Sch}{v:Val}{x:Kid}(h:x∈kids o v):x.2.1.size<v.size/\x.2.1.Ap<v.Ap:=by
 cases o with
 | none=>simp[kids]at h
 | some s=>
  rw[kids]at h
  split at h
  ·split at h
   ·obtain⟨p,hp,rfl⟩:=dX.1 h
    have:=eE hp
    exact⟨Val.Rg hp,by show p.2.Ap<v.Ap;omega⟩
   ·split at h
    ·obtain⟨p,hp,rfl⟩:=dX.1 h
     exact⟨Val.Rh hp,eO hp⟩
    ·simp at h
  ·simp at h
end Go.CT.Sch
namespace Go.CT.Sch
open Go.Proofs
theorem Aog {α β R:Type}(l:List α)(I:Nat->β->Prop)(F:Nat->β->R)(step:β->α->β)(fin:β->R)
  (g: ∀i (a:i<l.length) b,I i b->F i b=F (i+1) (step b l[i])/\I (i+1) (step b l[i])) (j: ∀b,I l.length b->F l.length b=fin b):
  ∀ (n i:Nat) (b:β),i+n=l.length->I i b->F i b=fin ((l.drop i).foldl step b)
 | 0,i,b,h,c=>by
  have:i=l.length:=by omega
  subst this
  rw[j b c,List.drop_length];rfl
 | n+1,i,b,h,c=>by
  have a:i<l.length:=by omega
  obtain⟨e,d⟩:=g i a b c
  rw[e,Aog l I F step fin g j n (i+1) _ (by omega) d,aD a];rfl
theorem Aid {α β R:Type}(l:List α)(I:Nat->β->Prop)(F:Nat->β->R)(step:β->α->β)(fin:β->R)(b:β)
  (a: ∀i (e:i<l.length) b,I i b->F i b=F (i+1) (step b l[i])/\I (i+1) (step b l[i])) (c: ∀b,I l.length b->F l.length b=fin b) (d:I 0 b):
  F 0 b=fin (l.foldl step b):=by
 have:=Aog l I F step fin a c l.length 0 b (by omega) d
 rwa [aQ]at this
theorem Sw {α β:Type}(g:α->β): ∀ (l:List α) (b:List β),l.foldl (λb x=>b++ [g x]) b=b++l.map g
 | [],b=>by simp
 | x::l,b=>by rw[List.foldl_cons,Sw g l];simp
theorem I9 {α:Type}(enc:α->IV){l:List α}{i:Nat}(h:i<l.length):eU (.list (l.map enc)) (.int i)=some (enc l[i]):=by
 simp only[cE,aF,Zt,aE,aM,aC h,aI]
theorem Gi {α:Type}(enc:α->IV)(l:List α):O.len (.list (l.map enc))=some (.int l.length):=by rw[cD,aH]
theorem apm {α:Type}(enc:α->IV){n:Nat}(l:List α)(x:α)(b:l.length<=137438953471)(a:n<=1024:=by decide):fM n (.list (l.map enc)) (.list [enc x])=some (.list ((l++ [x]).map enc)):=by
 rw[fR,if_pos]
 ·simp
 ·have:(l.length+1) * n<=137438953472 * 1024:=aW (by omega) a
  simp only[aH,aP]
  unfold Bc;omega
theorem lti {i n:Nat}(h:i<n):O.lt (.int i) (.int n)=some (.bool true):=by rw[bD];simp;omega
theorem ltn (n:Nat):O.lt (.int n) (.int n)=some (.bool false):=by rw[bD];simp
theorem nxt {i:Nat}(h:i<4611686018427387904):O.add .i64 (.int i) (.int 1)=some (.int ((i+1:Nat):Int)):=by rw[bQ,Be (by omega)]
def Hm (x:Kid):IV:= .agg [.int x.1.k,.str x.1.nm,.int x.1.ix,.str x.1.vl,.int x.2.1.k,.int x.2.1.n,.str x.2.1.s,.list (x.2.1.l.map bR),.list (x.2.1.f.map bC),
 .int (x.2.2.getD Bh).k,.int (x.2.2.getD Bh).mn,.int (x.2.2.getD Bh).mx,.list ((x.2.2.getD Bh).en.map .str),.str (x.2.2.getD Bh).key,.list ((x.2.2.getD Bh).it.map gW),.list ((x.2.2.getD Bh).f.map cQ),.bool x.2.2.isSome]
theorem Anh (x:Kid):gY 0 4 (Hm x)=some x.1.enc:=rfl
theorem Awf (x:Kid):gY 4 5 (Hm x)=some x.2.1.enc:=by rw[Val.E0,eP];rfl
theorem A1f (x:Kid):gY 9 7 (Hm x)=some (x.2.2.getD Bh).enc :=by rw[Sch.E0,Sch.Bm];rfl
theorem kid0 (x:Kid):dG 0 (Hm x)=some (.int x.1.k):=rfl
theorem kid1 (x:Kid):dG 1 (Hm x)=some (.str x.1.nm):=rfl
theorem kid3 (x:Kid):dG 3 (Hm x)=some (.str x.1.vl):=rfl
theorem kid4 (x:Kid):dG 4 (Hm x)=some (.int x.2.1.k):=rfl
theorem kid9 (x:Kid):dG 9 (Hm x)=some (.int (x.2.2.getD Bh).k):=rfl
theorem A8i (x:Kid):dG 13 (Hm x)=some (.str (x.2.2.getD Bh).key):=rfl
theorem A8d (x:Kid):dG 16 (Hm x)=some (.bool x.2.2.isSome):=rfl
theorem Am2 (s:Sch)(p:ByteArray × Val)(d:s.Ap<=1099511627776): ∀ (n i:Nat),i+n=s.f.length->
  ∃r:Int,W 139 1 [.list (s.f.map cQ),bC p,.int s.f.length,.int i]=some [.int r]/\
   ((((s.f.drop i).find? λq=>decide (q.nm=p.1))=none/\r<0)\/(∃j:Nat,r=j/\s.f[j]?=((s.f.drop i).find? λq=>decide (q.nm=p.1))/\((s.f.drop i).find? λq=>decide (q.nm=p.1)).isSome =true))
 | 0,i,h=>by
  rw[A14.f]
  have b: ¬ i<s.f.length:=by omega
  refine⟨-1,by simp[b],.inl ⟨by simp[aG (bK b)],by omega⟩⟩
 | n+1,i,h=>by
  have a:i<s.f.length:=by omega
  have m:=s.Bd
  obtain⟨r,e,g⟩:=Am2 s p d n (i+1) (by omega)
  rw[A14.f,aD a,bY]
  simp only[lti a,aA,aS,Zt,I9 cQ a,A14.g,eL,dF,fW,bI,nxt (show i<4611686018427387904 by omega),e]
  by_cases c:s.f[i].nm =p.1
  ·refine⟨i,by simp[c],.inr ⟨i,rfl,by simp[c],by simp[c]⟩⟩
  ·have c':decide (s.f[i].nm =p.1)=false:=by simpa using c
   simp only[c',aB,Zf]
   exact⟨r,rfl,g⟩
def Dq (s:Sch)(x:ByteArray × Val):Kid:=(Cd x.1,x.2,Du s x.1)
theorem Aqq (s:Sch)(v:Val)(z:s.Ap<=1099511627776)(H:v.Ap<=1048576):W 138 0 [s.enc,v.enc]=some [.list ((v.f.map (Dq s)).map Hm)]:=by
 have I:=v.Bd
 rw[A14.b]
 simp only[cX,aA,Gi]
 refine(Aid v.f (λi (b:List Kid)=>b.length=i) (λi b=>W 138 1 [.list (v.f.map bC),.int v.f.length,.int i,s.enc,.list (b.map Hm)]) (λb x=>b++ [Dq s x]) (λb=>some [.list (b.map Hm)]) [] ?_ ?_ rfl).trans ?_
 ·intro i u b w
  refine⟨?_,by simp[w]⟩
  rw[A14.c]
  have g: ∀ (o:Option Sch),Du s v.f[i].1 =o->W 138 2 [.list (v.f.map bC),.int v.f.length,.int i,s.enc,.list (b.map Hm),.int 1,.str v.f[i].1,.int 0,.str ⟨#[]⟩,.int v.f[i].2.k,.int v.f[i].2.n,.str v.f[i].2.s,.list (v.f[i].2.l.map bR),.list (v.f[i].2.f.map bC),
    .int (o.getD Bh).k,.int (o.getD Bh).mn,.int (o.getD Bh).mx,.list ((o.getD Bh).en.map .str),.str (o.getD Bh).key,.list ((o.getD Bh).it.map gW),.list ((o.getD Bh).f.map cQ),.bool o.isSome]=
    W 138 1 [.list (v.f.map bC),.int v.f.length,.int (i+1:Nat),s.enc,.list ((b++ [Dq s v.f[i]]).map Hm)]:=by
   rintro o rfl
   have A:=apm Hm (n:=248) b (Dq s v.f[i]) (by omega)
   rw[A14.d]
   simp only[eV,fX,aA,nxt (show i<4611686018427387904 by omega)]
   have B:(IV.agg [.int 1,.str v.f[i].1,.int 0,.str ⟨#[]⟩,.int v.f[i].2.k,.int v.f[i].2.n,.str v.f[i].2.s,.list (v.f[i].2.l.map bR),.list (v.f[i].2.f.map bC),
    .int ((Du s v.f[i].1).getD Bh).k,.int ((Du s v.f[i].1).getD Bh).mn,.int ((Du s v.f[i].1).getD Bh).mx,.list (((Du s v.f[i].1).getD Bh).en.map .str),.str ((Du s v.f[i].1).getD Bh).key,.list (((Du s v.f[i].1).getD Bh).it.map gW),.list (((Du s v.f[i].1).getD Bh).f.map cQ),.bool (Du s v.f[i].1).isSome])=Hm (Dq s v.f[i]):=rfl
   rw[B,A];rfl
  simp only[lti u,aA,aS,Zt,I9 bC u,dF,dL,dR,gN,gG,dE,cX,eG,Gi,cR]
  cases c:s.it with
  | cons t ts=>
   have a:Du s v.f[i].1 =some t:=by unfold Du;rw[c]
   have:=g (some t) a
   simp only[bZ,cK]at this
   have h:(0:Int)<((t::ts).length :Nat):=by simp
   simp only[h,Zd,Zt,bM,cE,cP,cC,bL,aA,gH,dN,dO,eH,eR,eG,eF]
   exact this
  | nil=>
   have a:Du s v.f[i].1 =(s.fld v.f[i].1).map (·.s):=by unfold Du;rw[c]
   obtain⟨r,C,m⟩:=Am2 s v.f[i] z s.f.length 0 (by omega)
   have q:W 139 0 [.list (s.f.map cQ),bC v.f[i]]=some [.int r]:=by
    rw[A14.e]
    simpa using C
   simp only[aQ]at m
   have F:(s.f.find? λp=>decide (p.nm=v.f[i].1))=s.fld v.f[i].1 :=rfl
   rw[F]at m
   have h: ¬ (0:Int)<(([]:List Sch).length :Nat):=by simp
   simp only[h,Ze,aB,Zf,eF,aA,q,bI,fP,aS]
   rcases m with⟨e,y⟩ | ⟨j,rfl,e,y⟩
   ·have G: ¬ (0:Int)<=r:=by omega
    have:=g none (by rw[a,e];rfl)
    simp only[eY,dM]at this
    simp only[G,Ze,aB,Zf]
    exact this
   ·obtain⟨d,hd⟩:=dJ.1 y
    rw[hd]at e
    have:=g (some d.s) (by rw[a,hd];rfl)
    simp only[bZ,cK]at this
    simp only[aF,Zd,Zt,cE,aE,aM,e,aI,aA,gD,gH,dN,dO,eH,eR,eG,eF]
    exact this
 ·intro b w
  rw[A14.c]
  simp only[ltn,aA,aS,aB,Zf]
 ·rw[Sw];rfl
end Go.CT.Sch
namespace Go.CT.Sch
open Go.Proofs
theorem sxb {s:ByteArray}{i:Nat}{c:UInt8}{r:List UInt8}(h:s.data.toList.drop i=c::r): ∃a:i<s.size,s[i]=c/\s.data.toList.drop (i+1)=r:=by
 obtain⟨_,a,b⟩:=sx h
 have d:=H7 a
 grind
theorem pn_1 (s:ByteArray): ∀ (a:List UInt8) (i:Nat) (r:List UInt8),s.data.toList.drop i=a++r->i<=s.size->(∀c∈a,Bx c=true)->Aaz r->
  W 159 1 [.str s,.str s,.int i]=some [.int ((i+a.length:Nat):Int)]
 | [],i,r,h,g,_,j=>by
  rw[A15.p]
  cases r with
  | nil=>
   have b: ¬ i<s.size:=by
    simp_all
   have e:i=s.size:=by omega
   simp only[O.Vj b,O.Us b,O.Pr b,aA,aS,aB,Zf,cT,bG,eN]
   rw[e]
  | cons c t=>
   obtain⟨b,m,_⟩:=sxb (show s.data.toList.drop i=c::t from h)
   have o:=j c t rfl
   rw[<-m]at o
   have y:nmR (Utf8.decode s i).1 =false:=by
    by_cases q:s[i].toNat <128
    ·rw[Qk b q,<-o,<-W7]
    ·exact Aee (by have:=decode_high b (by omega);omega)
   simp only[O.Sk b,O.Tm b,O.N3 b,aA,aS,Zt,O.Tg,Amd,y,bI,cM,bE,bG,eN]
 | c::a,i,r,h,g,u,j=>by
  obtain⟨b,m,z⟩:=sxb (show s.data.toList.drop i=c::(a++r) from h)
  have d:=u c (by simp)
  rw[<-m]at d
  have q:s[i].toNat <128:=by
   apply Classical.byContradiction
   intro o
   rw[Aj3 (by omega)]at d;cases d
  have w:=pn_1 s a (i+1) r z (by omega) (λx A=>u x (by simp[A])) j
  have e:i+1+a.length=i+(c::a).length :=by simp;omega
  rw[e]at w
  rw[A15.p]
  simp only[O.Sk b,O.Tm b,O.N3 b,Qk b q,aA,aS,Zt,O.Tg,Amd,W7,d,bI,cM,aT,aB,Zf,w]
theorem A0l (s:ByteArray)(a r:List UInt8)(h:s.data.toList=a++r)(b: ∀c∈a,Bx c=true)(d:Aaz r):W 159 0 [.str s]=some [.int (a.length:Nat)]:=by
 have:=pn_1 s a 0 r (by grind) (by omega) b d
 rw[eM]at this
 rw[A15.o]
 exact this
theorem slo {s:ByteArray}{i:Nat}{r:List UInt8}(h:s.data.toList.drop i=r)(a:i<=s.size):O.Jo (.str s) (.int i)=some (.str (bsL r)):=by
 rw[O.Ai8,if_pos ⟨by omega,by omega⟩]
 congr 2
 apply Gq
 rw[dS,eC]
 simp only[aE,dD,bsL,h]
 refine fD ?_
 have:=congrArg cZ h
 rw[cV,Dt]at this
 omega
theorem A7j (s:ByteArray)(F:s.size<=100000): ∀ (v:List UInt8) (i:Nat) (r:List UInt8) (o:ByteArray),s.data.toList.drop i=v.flatMap Jz++34::r->(∀c∈v,I0 c=true)->o.size+v.length<=1000->
  W 161 1 [.str s,.int i,.list (Cs o)]=some [.str (o++bsL v),.str (bsL r),.bool true]
 | [],i,r,o,h,_,_=>by
  obtain⟨a,b,g⟩:=sx (show s.data.toList.drop i=34::r from h)
  have j:=Be (i:=i) (by omega)
  have e:o++bsL []=o:=by apply Gq;rw[aN];simp[bsL]
  have u:((34:UInt8).toNat :Int)=34:=rfl
  rw[A16.b]
  simp only[cT,aA,bD,Ao,b,Zd,aS,Zt,a,aV,u,A1p,O.N9,bI,bQ,j,slo g (by omega),e]
 | c::v,i,r,o,h,G,L=>by
  have M:=G c (by simp)
  have m: ∀x∈v,I0 x=true:=λx N=>G x (by simp[N])
  simp only[aZ]at L
  have hrange:=Vx M
  simp only[cB,bV]at h
  have two: ∀d:UInt8,Jz c= [92,d]->(d.toNat=34\/d.toNat=92\/d.toNat=110)->(d.toNat=110↔c.toNat=10)->(d.toNat≠110->d=c)->
    W 161 1 [.str s,.int i,.list (Cs o)]=some [.str (o++bsL (c::v)),.str (bsL r),.bool true]:=by
   intro d w hd Q y
   rw[w]at h
   obtain⟨a,b,g⟩:=sx (show s.data.toList.drop i=92::(d::(v.flatMap Jz++34::r)) from h)
   obtain⟨R,S,T⟩:=sx g
   have j:=Be (i:=i) (by omega)
   have z:=Be (i:=i+1) (by omega)
   have A:((92:UInt8).toNat :Int)=92:=rfl
   have B:=A7j s F v (i+1+1) r (o++bsL [c]) T m (by rw[aR,Ce,aP];omega)
   have nx:W 161 2 [.str s,.int ((i+1:Nat):Int),.list (Cs (o++bsL [c]))]=some [.str (o++bsL (c::v)),.str (bsL r),.bool true]:=by
    rw[A16.c]
    simp only[bQ,z,aA,B,Ws]
   rw[A16.b]
   simp only[cT,aA,bD,Ao,b,Zd,aS,Zt,a,aV,A,show ¬ (92:Int)=34 by omega,Ze,aB,Zf,show ¬ (92:Int)<32 by omega,cR,show ¬ (126:Int)<92 by omega,dY,aT,bQ,j,S,R]
   by_cases cn:d.toNat=110
   ·have H: ¬ (d.toNat:Int)=34:=by omega
    have I: ¬ (d.toNat:Int)=92:=by omega
    have J:(d.toNat:Int)=110:=by omega
    have K:c=10:=fF.1 (Q.1 cn)
    have t:=Oa o 10 (by omega)
    simp_all
   ·have q:=y cn
    have t:=Oa o d (by omega)
    rw[q]at t
    subst q
    rcases hd with hd | hd | hd
    ·simp_all
    ·simp_all
    omega
  by_cases C:c.toNat=10
  ·exact two 110 (by unfold Jz;grind) (.inr (.inr rfl)) ⟨λ_=>C,λ_=>rfl⟩ (λh=>(h rfl).elim)
  ·by_cases cq:c.toNat=34\/c.toNat=92
   ·exact two c (by unfold Jz;grind) (by omega) (by omega) (λ_=>rfl)
   ·have w:Jz c= [c]:=by unfold Jz;grind
    rw[w]at h
    obtain⟨a,b,g⟩:=sx (show s.data.toList.drop i=c::(v.flatMap Jz++34::r) from h)
    have j:=Be (i:=i) (by omega)
    have B:=A7j s F v (i+1) r (o++bsL [c]) g m (by rw[aR,Ce,aP];omega)
    have t:=Oa o c (by omega)
    have H: ¬ (c.toNat:Int)=34:=by omega
    have I: ¬ (c.toNat:Int)<32:=by omega
    have J: ¬ (126:Int)<c.toNat:=by omega
    have U: ¬ (c.toNat:Int)=92:=by omega
    rw[A16.b]
    simp only[cT,aA,bD,Ao,b,Zd,aS,Zt,a,aV,H,Ze,aB,Zf,I,cR,J,dY,U,bE,t,bI]
    rw[A16.c]
    simp only[bQ,j,aA,B,Ws]
theorem A03 (c:UInt8)(l:List UInt8):decide (bsL (c::l)=(⟨#[]⟩:ByteArray))=false:=decide_eq_false λe=>by
 have h:=congrArg gL e
 rw[Ce,show(⟨#[]⟩:ByteArray).size =0 from rfl]at h
 cases h
theorem Azm (v:ByteArray)(a:J9 v=true)(r:List UInt8)(j:r.length<=20000):W 161 0 [.str (bsL (34::(v.data.toList.flatMap Jz++34::r)))]=some [.str v,.str (bsL r),.bool true]:=by
 have d:=M4 a
 unfold J9 at a
 simp only[aJ,aY]at a
 have e:=Alp v.data.toList
 rw[Dt]at e
 obtain⟨c,m,g⟩:=sx (s:=bsL (34::(v.data.toList.flatMap Jz++34::r))) (i:=0) (show _=34::(v.data.toList.flatMap Jz++34::r) from rfl)
 have h:(bsL (34::(v.data.toList.flatMap Jz++34::r))).size <=100000:=by
  rw[Ce]
  grind
 have:=A7j _ h v.data.toList 1 r Am g a.1 (by rw[Dt];show 0+_<=_;omega)
 rw[Iw,Qu]at this
 have b:((34:UInt8).toNat :Int)=34:=rfl
 simp only[aK]at c
 rw[A16.a]
 simp only[fW,A03,aA,aS,aB,Zf,c,dY,b,Zd,aT]
 exact this
theorem A6q (r:List UInt8):Aaz (61::r):=Ol (by decide)
theorem A6n (s nm vl:ByteArray)(m:De nm=true)(t:J9 vl=true)(r:List UInt8)(y:r.length<=10000)(h:s.data.toList=91::(nm.data.toList++61::(34::(vl.data.toList.flatMap Jz++34::(93::r))))):
  W 158 0 [.str s]=some [Stp.enc ⟨3,nm,0,vl⟩,.str (bsL r),.bool true]:=by
 obtain⟨d,a⟩:=Hl m
 have o:0<nm.data.toList.length:=bP.2 a
 have e:s.data.toList.drop 1=nm.data.toList++61::(34::(vl.data.toList.flatMap Jz++34::(93::r))):=by rw[h];rfl
 have b:=congrArg cZ h
 rw[Dt]at b
 simp only[aZ,aO]at b
 have q:=slo e (by omega)
 simp only[aK]at q
 have a2:=A0l (bsL (nm.data.toList++61::(34::(vl.data.toList.flatMap Jz++34::(93::r))))) nm.data.toList _ rfl d (A6q _)
 have u:IntKind.i64.wrap (1+((nm.data.toList.length:Nat):Int))=((1+nm.data.toList.length:Nat):Int):=by
  have:nm.data.toList.length<=40:=by rw[Dt];exact Nu m
  rw[wrap64 (by omega) (by omega)];omega
 have a3:=ssl e a
 simp only[aK]at a3
 rw[Qu]at a3
 have w:s.data.toList.drop (1+nm.data.toList.length)=61::(34::(vl.data.toList.flatMap Jz++34::(93::r))):=T2 e
 have a4:=slo w (by omega)
 have x: ¬ ((nm.data.toList.length:Nat):Int)=0:=by omega
 have b1:=fun(c:UInt8) (l:List UInt8)=>(sx (s:=bsL (c::l)) (i:=0) (show _=c::l from rfl)).1
 simp only[aK]at b1
 have b2:=fun(c:UInt8) (l:List UInt8)=>slo (s:=bsL (c::l)) (i:=1) (show _=l from rfl) (by rw[Ce];simp)
 simp only[aK]at b2
 have g:((61:UInt8).toNat :Int)=61:=rfl
 have j:((93:UInt8).toNat :Int)=93:=rfl
 rw[A15.n]
 simp only[q,aA,a2,bI,bQ,u,a3,a4,aV,x,Ze,aS,aB,Zf,fW,A03,b1,g,j,show ¬ (61:Int)=93 by omega,dY,Zd,aT,b2,Azm vl t (93::r) (by simp;omega),gX,cM,eV]
 rfl
theorem A74 {s:ByteArray}(h:s.data.toList= []):s=⟨#[]⟩:=Gq h
theorem pq_3 (s:ByteArray)(nm:ByteArray)(g:De nm=true)(r:List UInt8)(h:s.data.toList=nm.data.toList++r)(i:Aaz r)(done:List Stp)(hd:done.length<=100):
  W 157 3 [.str s,.list (done.map Stp.enc)]=W 157 1 [.str (bsL r),.list ((done++ [(⟨1,nm,0,Am⟩:Stp)]).map Stp.enc)]:=by
 obtain⟨b,a⟩:=Hl g
 have d:0<nm.data.toList.length:=bP.2 a
 have j:=A0l s nm.data.toList r h b i
 have m: ¬ ((nm.data.toList.length:Nat):Int)=0:=by omega
 have o:s.data.toList.drop 0=nm.data.toList++r:=h
 have a2:=ssl o a
 simp only[aK,eM]at a2
 rw[Qu]at a2
 have c:=congrArg cZ h
 rw[Dt,aO]at c
 have q:s.data.toList.drop nm.data.toList.length=r:=by grind
 have a3:=slo q (by omega)
 have e:IV.agg [.int 1,.str nm,.int 0,.str ⟨#[]⟩]=Stp.enc ⟨1,nm,0,Am⟩:=rfl
 rw[A15.m]
 simp only[j,bI,aV,m,Ze,aA,aS,aB,Zf,a2,eV,e,fX,apm Stp.enc (n:=48) done ⟨1,nm,0,Am⟩ (by omega),a3]
 rw[A15.l]
theorem pq_1 (full:List Stp)(b:C3 full=true)(F: ∀x∈full,x.k≠2): ∀ (p done:List Stp) (s:ByteArray),done++p=full->s.data.toList=(Ey (decide (done.length=0)) p).data.toList ->
  W 157 1 [.str s,.list (done.map Stp.enc)]=some [.list (full.map Stp.enc),.int 0]
 | [],done,s,hd,h=>by
  rw[bW]at hd
  subst hd
  have K:s=⟨#[]⟩:=A74 (by rw[h];rfl)
  subst K
  have g:=b
  unfold C3 at g
  simp only[aJ,aY,decide_eq_true_eq]at g
  have G:=To done (λx d=>by
   have:=D7 (g.1 x d)
   exact⟨by omega,by omega⟩) (by omega)
  rw[A15.k]
  simp_all
 | x::p,done,s,hd,h=>by
  have g:=b
  unfold C3 at g
  simp only[aJ,aY,decide_eq_true_eq]at g
  have d:C6 x=true:=g.1 x (by grind)
  have t:=F x (by grind)
  have hp: ∀y∈p,C6 y=true:=λy X=>g.1 y (by grind)
  have hlen:done.length+p.length+1=full.length:=by grind
  have Y:=Ve p hp false
  have L:500 * p.length<=500 * 16:=aW (bJ _) (by omega)
  simp only[Ey,aN]at h
  have j:=X8 p hp
  have M:=(Va (decide (done.length=0)) x d).1
  have u:=pq_1 full b F p (done++ [x]) (bsL (Ey false p).data.toList) (by grind) (by
   have:decide ((done++ [x]).length =0)=false:=decide_eq_false (by simp)
   rw[this];rfl)
  have m:decide (s=(⟨#[]⟩:ByteArray))=false:=decide_eq_false λe=>by
   simp_all
  obtain⟨N,Q,R,S,H⟩:=D7 d
  obtain⟨xk,xn,xi,xv⟩:=x
  simp only at N Q R S H t
  unfold C6 at d
  unfold Ip at h
  simp only at d h
  rw[A15.k]
  simp only[gM,m,bE,aA,aS,Zt]
  rcases H with rfl | rfl | rfl
  ·simp only[Zt,aJ,decide_eq_true_eq]at d
   obtain⟨⟨o,rfl⟩,rfl⟩:=d
   simp only[show ¬ (1:Int)=2 by omega,show ¬ (1:Int)=3 by omega,Zf]at h
   obtain⟨w,z⟩:=Hl o
   by_cases I:done.length=0
   ·simp only[I,Zd,Zt]at h
    obtain⟨c,a,T⟩:=dA z
    have h':s.data.toList.drop 0=c::(a++(Ey false p).data.toList):=by grind
    obtain⟨i,J,A⟩:=sx h'
    simp only[aK]at i
    have U:=w c (by grind)
    have q: ¬ (c.toNat:Int)=91:=by
     intro e
     have:c.toNat=91:=by omega
     unfold Bx at U
     grind
    have B:O.gt (.int (done.length:Nat)) (.int 0)=some (.bool false):=by simp_all
    simp only[i,aA,aV,q,Ze,aS,aB,Zf,Gi,B]
    rw[pq_3 s xn o _ h j done (by omega),u]
   ·simp only[I,Ze,aB,Zf]at h
    have h':s.data.toList.drop 0=46::(xn.data.toList++(Ey false p).data.toList):=by rw[aQ,h];simp[aN,bsL]
    obtain⟨i,J,A⟩:=sx h'
    simp only[aK]at i
    have B:O.gt (.int (done.length:Nat)) (.int 0)=some (.bool true):=by rw[cR];congr 2;grind
    have r:=slo A (by omega)
    simp only[eM,aK]at r
    simp only[i,aA,aV,show((46:UInt8).toNat :Int)=46 from rfl,show ¬ (46:Int)=91 by omega,Ze,aS,aB,Zf,Gi,B,Zt,dY,Zd,aT,r]
    rw[pq_3 (bsL (xn.data.toList++(Ey false p).data.toList)) xn o _ rfl j done (by omega),u]
  ·omega
  ·simp only[show ¬ (3:Int)=1 by omega,show ¬ (3:Int)=2 by omega,Zf,Zt,aJ,decide_eq_true_eq]at d
   obtain⟨⟨o,G⟩,rfl⟩:=d
   simp only[show ¬ (3:Int)=2 by omega,Zf,Zt]at h
   have h':s.data.toList=91::(xn.data.toList++61::(34::(xv.data.toList.flatMap Jz++34::(93::(Ey false p).data.toList)))):=by
    rw[h];simp[aN,bsL,M6]
   have C:=A6n s xn xv o G _ (by rw[Dt];omega) h'
   obtain⟨i,J,A⟩:=sx (show s.data.toList.drop 0=91::_ from h')
   simp only[aK]at i
   simp only[i,aA,aV,show((91:UInt8).toNat :Int)=91 from rfl,Zd,aS,Zt,C,gX,cM,aT,aB,Zf,fX,apm Stp.enc (n:=48) done ⟨3,xn,0,xv⟩ (by omega)]
   rw[A15.l,u]
theorem Apj (p:List Stp)(hp:C3 p=true)(b: ∀x∈p,x.k≠2):W 157 0 [.str (Ck p)]=some [.list (p.map Stp.enc),.int 0]:=by
 have a:=hp
 unfold C3 at a
 simp only[aJ,aY,decide_eq_true_eq]at a
 have c:=Ve p a.1 true
 have d:500 * p.length<=500 * 16:=aW (bJ _) a.2
 have e:Ck p=Ey true p:=by unfold Ck;rw[if_pos hp];rfl
 have g: ¬ (20000:Int)<((Ey true p).size :Int):=by omega
 have:=pq_1 p hp b p [] (Ey true p) rfl rfl
 simp only[bO]at this
 rw[A15.j,e]
 simp_all
end Go.CT.Sch
