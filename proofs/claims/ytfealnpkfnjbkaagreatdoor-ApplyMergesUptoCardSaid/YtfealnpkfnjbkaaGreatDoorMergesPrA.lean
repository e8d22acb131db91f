import Derived.Test.YtfealnpkfnjbkaaGreatDoorTabA
import Derived.Test.YtfealnpkfnjbkaaGreatDoorCtC
import Derived.Test.YtfealnpkfnjbkaaGreatDoorLib
set_option linter.unusedVariables false
set_option linter.unusedSimpArgs false
open Array renaming toList_extract->fH
open Bool renaming false_eq_true->aB,and_eq_true->aL,eq_iff_iff->aT,not_true->aU,not_false->aX,true_and->bI,false_and->cD,and_true->cK,true_or->cW,false_or->cX,eq_false_iff->dA,or_eq_true->eA,or_true->eD,or_self->fA,toNat_le->fP,not_eq_true'->gA,and_false->gP,not_not->gU
open ByteArray renaming size_append->aM,toList_data_append->aS,append_assoc->bG,data_extract->eT
open Go.CT.Fld renaming enc->aY,Bl->dB,Iz->dI,C4->hD
open Go.CT.O renaming Aa->aR,eq_int->aW,Ah->bB,Ac->bK,Ak->bR,Ao->bX,Ai->cC,Ap->cM,Bm->cS,Bw->cT,Ch->eB,Bg->eL,Gb->eP,proj->eS,As->eU,index->eZ,Cv->fC,Gx->fG,Au->fI,B6->fJ,Mg->fU,Cq->fV,append->fX,C9->gL,Cp->gM,Ih->hA,Kd->hE
open Go.CT.Prim renaming ev->dD
open Go.CT.SFld renaming enc->dW,Bl->eN,Qn->gK,C4->gW
open Go.CT.Sch renaming C4->dS,Ee->qAA,Ip->dZ,Bz->eI,B5->eX,Hd->eY,Ge->fL,Dn->fR,Bl->gY
open Go.CT.Srt renaming len->cG,LE->dR,idx->dU,eqv->hG
open Go.CT.Val renaming enc->bU,B5->cP,Bz->cV,Bl->dQ,Dn->dY,ind->eC,D5->eE,Be->eF,valid->fM,get->fW,Ee->gN,C4->gV,Bx->hB,Ci->hC,Aur->hI,Acw->hJ
open Int renaming toNat_natCast->aG,natCast_nonneg->aH,cast_ofNat_Int->aN,toNat_zero->cE,eq_ofNat_of_zero_le->cQ,le_refl->cU,ofNat_eq_natCast->qAB,not_lt->gQ,not_le->gR
open List renaming getElem?_eq_getElem->aC,length_map->aD,drop_eq_getElem_cons->aE,drop_of_length_le->aF,getElem?_map->aJ,getElem_mem->aK,length_append->aO,drop_zero->aP,length_singleton->aQ,length_eq_zero_iff->aV,length_cons->bA,length_nil->bC,nil_append->bD,pairwise_cons->bF,append_assoc->bH,mem_cons->bJ,append_nil->bL,all_eq_true->bM,map_cons->bN,map_nil->bO,getElem?_cons_zero->bQ,all_cons->bS,length_eq_one_iff->bT,filter_cons->bV,length_pos_iff->bW,find?_cons->bY,mem_filter->bZ,flatMap_cons->cA,map_append->cB,pairwise_singleton->cF,all_nil->cH,append_eq_nil_iff->cI,mem_of_find?_eq_some->cN,mem_cons_of_mem->cO,flatMap_nil->cR,length_filter_le->cY,length->dC,length_drop->dF,mem_append->dH,mem_singleton->dK,mem_cons_self->dL,take_of_length_le->dN,mem_map->dO,singleton_append->dP,filter_append->eG,exists_cons_of_ne_nil->eJ,extract_eq_take_drop->eK,pairwise_iff_getElem->eM,length_take->eQ,flatMap_eq_nil_iff->eR,filter_eq_nil_iff->eV,headD_cons->fB,take_append_drop->fD,set_getElem_self->fF,take_zero->fK,mem_map_of_mem->fN,filter_eq_self->fO,any_cons->fQ,mem_mergeSort->fT,pairwise_map->fZ,not_mem_nil->gC,find?_some->gH,filter_nil->gJ,mem_range->gS,range->hF
open List.Pairwise renaming nil->cZ,filter->dX
open List.cons renaming injEq->gF,inj->gT
open Nat renaming mul_le_mul->aZ,le_of_not_lt->bE,le_refl->bP,mul_add->cJ,le_trans->dE,add_assoc->dG,zero_le->dM,pos_of_ne_zero->fS,add_zero->fY,add_mul->gD,one_mul->gE,zero_add->gX,toUInt8->gZ
open Option renaming bind_some->aA,map_some->aI,getD_some->cL,isSome_some->dJ,isSome_none->eH,isSome_iff_exists->eO,map_eq_some_iff->eW,getD_none->gB,map_none->gI,or_none->gO
open UInt8 renaming lt_iff_toNat_lt->fE,toNat_inj->gG
namespace Go.CT.Sch
open Go.Proofs
theorem A1r (c:UInt8):(0:Int)<=c.toNat/\(c.toNat:Int)<=255:=by
 have:=c.toNat_lt;omega
theorem Hz {s:ByteArray}{i:Nat}(h:i<s.size):s.data.toList.drop i=s[i]::s.data.toList.drop (i+1):=by
 rw[aE (by simpa using h)];rfl
theorem Aje (s:ByteArray)(g:s.size<=4611686018427387904): ∀ (n i:Nat),i+n=s.size->W F189 1 [.str s,.int i]=some [.bool ((s.data.toList.drop i).all Io&&decide (s.size<=200))]
 | 0,i,h=>by
  rw[Aq4]
  have j: ¬ i<s.size:=by omega
  have m:s.data.toList.drop i= []:=aF (by simp;omega)
  have u:decide ((s.size:Int)<=200)=decide (s.size<=200):=by simp;omega
  simp[j,m]
  omega
 | n+1,i,h=>by
  have b:i<s.size:=by omega
  have o:=Aje s g n (i+1) (by omega)
  have q:=Bd (i:=i) (by omega)
  rw[Aq4,Hz b]
  have r:=A1r s[i]
  generalize t:s[i]=c at r
  have e1:Io c= !(decide (¬ (c.toNat:Int)=10/\((c.toNat:Int)<32\/(126:Int)<c.toNat))):=by
   unfold Io
   rw[aT]
   simp
   omega
  simp only[cS,aA,bB,Aj,b,Zd,aR,Zt,hA,aH,aG,A9j b,t,aI,eB,bS,e1,bR,q,o]
  by_cases a:(c.toNat:Int)=10
  ·simp[a]
  ·by_cases d:(c.toNat:Int)<32
   ·simp[a,d]
   ·by_cases e:(126:Int)<c.toNat
    ·simp[a,d,e]
    ·simp[a,d,e]
theorem Axg (s:ByteArray)(a:s.size<=4611686018427387904):W F189 0 [.str s]=some [.bool (Jq s)]:=by
 rw[A79]
 exact Aje s a s.size 0 (by omega)
theorem Abl (s:ByteArray)(b:s.size<=4611686018427387904): ∀ (n i:Nat),i+n=s.size->W F193 1 [.str s,.int i]=some [.bool ((s.data.toList.drop i).all Bv&&decide (1<=s.size/\s.size<=40))]
 | 0,i,h=>by
  rw[Aoh]
  have d: ¬ i<s.size:=by omega
  have e:s.data.toList.drop i= []:=aF (by simp;omega)
  have g:((s.size:Int)<=40)=(s.size<=40):=by simp;omega
  simp[d,e,g]
  have:((1:Int)<=s.size)=(1<=s.size):=by simp;omega
  by_cases c:1<=s.size<;>simp[this,c]
 | n+1,i,h=>by
  have a:i<s.size:=by omega
  have j:=Abl s b n (i+1) (by omega)
  have m:=Bd (i:=i) (by omega)
  rw[Aoh,Hz a]
  generalize o:s[i]=c
  have e1:Bv c= !(decide (¬ (((97:Int)<=c.toNat/\(c.toNat:Int)<=122)\/((65:Int)<=c.toNat/\(c.toNat:Int)<=90))/\ ¬ ((48:Int)<=c.toNat/\(c.toNat:Int)<=57)/\ ¬ (c.toNat:Int)=45/\ ¬ (c.toNat:Int)=95/\ ¬ (c.toNat:Int)=47)):=by
   unfold Bv
   rw[aT]
   simp
   omega
  simp only[cS,aA,bB,Aj,a,Zd,aR,Zt,hA,aH,aG,A9j a,o,aI,fG,eP,eB,bS,e1,bR,m,j]
  by_cases q:(97:Int)<=c.toNat<;>by_cases r:(c.toNat:Int)<=122<;>by_cases t:(65:Int)<=c.toNat<;>by_cases u:(c.toNat:Int)<=90<;>by_cases w:(48:Int)<=c.toNat<;>by_cases x:(c.toNat:Int)<=57<;>simp[q,r,t,u,w,x]<;>
   by_cases y:(c.toNat:Int)=45<;>by_cases z:(c.toNat:Int)=95<;>by_cases A:(c.toNat:Int)=47<;>simp[y,z,A]
theorem Aqr (s:ByteArray)(a:s.size<=4611686018427387904):W F193 0 [.str s]=some [.bool (C8 s)]:=by
 rw[A8f]
 exact Abl s a s.size 0 (by omega)
end Go.CT.Sch
namespace Go.CT.Sch
open Go.Proofs
theorem Dk:(⟨#[]⟩:ByteArray)=Am:=rfl
theorem Ah7 (d:Nat)(o:Option ByteArray)(p:ByteArray × Val)(r:List (ByteArray × Val)):Ax9 d o (p::r)=(C8 p.1&&(match o with | none=>true | some q=>blt q p.1)&&Cd d p.2&&Ax9 d (some p.1) r):=by
 cases o<;>rfl
theorem Ass (v:Val)(i:v.Aq<=1099511627776):W F196 0 [v.enc]=some [.bool (Hm v)]:=by
 have j:=v.A02
 rw[A5z]
 unfold Hm
 simp only[dQ,aA,aW,aR]
 by_cases b:v.k=1
 ·simp[b,Dk]
 by_cases c:v.k=2
 ·by_cases a: -1000000000000000<=v.n<;>by_cases a2:v.n<=1000000000000000<;>simp[c,a,a2,Dk]
 by_cases d:v.k=3
 ·simp[d,Axg v.s (by omega)]
 by_cases e:v.k=0
 ·by_cases a:v.n=0<;>simp[e,Wm,a,Dk]
 by_cases g:v.k=4
 ·by_cases a:v.n=0<;>simp[g,Wm,a,Dk]
 by_cases h:v.k=5
 ·by_cases a:v.n=0<;>simp[h,Wm,a,Dk]
 simp[b,c,d,e,g,h,Wm]
theorem Yv (d:Nat)(v:Val)(hd:d<=12)(j:v.Aq<=1099511627776)(e: ∀x∈v.l,W Bfb 0 [x.enc,.int d]=some [.bool (Cd d x)]): ∀ (n i:Nat),i+n=v.l.length->
  W Bfb 1 [.int ((d+1:Nat):Int),.int i,v.enc]=if(v.l.drop i).all (Cd d)=true then W Bfb 2 [.int ((d+1:Nat):Int),.int 0,v.enc]else some [.bool false]
 | 0,i,h=>by
  rw[Amn]
  have g: ¬ i<v.l.length:=by omega
  simp[g,aF (bE g)]
 | n+1,i,h=>by
  have a:i<v.l.length:=by omega
  have o:=v.Bn
  have m:=Bd (i:=i) (by omega)
  have b:IntKind.i64.wrap (((d+1:Nat):Int) - 1)=d:=by rw[wrap64 (by omega) (by omega)];omega
  have:=Yv d v hd j e n (i+1) (by omega)
  rw[Amn,aE a]
  simp only[cV,aA,bX,aD,bB,Aj,a,Zd,aR,Zt,cC,aH,aG,aJ,aC a,aI,fC,b,e _ (aK a),bK,cM,bR,m,this,bS,aL]
  by_cases c:Cd d v.l[i]=true<;>simp[c]
theorem Xt (d:Nat)(v:Val)(hd:d<=12)(r:v.Aq<=1099511627776)(o: ∀p∈v.f,W Bfb 0 [p.2.enc,.int d]=some [.bool (Cd d p.2)]): ∀ (n i:Nat),i+n=v.f.length->
  W Bfb 2 [.int ((d+1:Nat):Int),.int i,v.enc]=some [.bool (Ax9 d (H2 v.f i) (v.f.drop i))]
 | 0,i,h=>by
  rw[Arq]
  have q: ¬ i<v.f.length:=by omega
  simp[q,aF (bE q),Ax9]
 | n+1,i,h=>by
  have b:i<v.f.length:=by omega
  have u:=v.Bc
  have t:=Bd (i:=i) (by omega)
  have c:IntKind.i64.wrap (((d+1:Nat):Int) - 1)=d:=by rw[wrap64 (by omega) (by omega)];omega
  have:=Xt d v hd r o n (i+1) (by omega)
  have a:=aK b
  have e:=dY a
  have g:H2 v.f (i+1)=some v.f[i].1 :=by simp[H2,b]
  rw[g]at this
  rw[Arq,aE b,Ah7]
  simp only[cP,aA,bX,aD,bB,Aj,b,Zd,aR,Zt,cC,aH,aG,aJ,aC b,aI,dB,dI,Aqr v.f[i].1 (by omega),fC,c,o _ a,bK,cM,bR,t,this,cT]
  cases i with
  | zero=>
   simp only[H2]
   cases C8 v.f[0].1<;>cases Cd d v.f[0].2<;>simp
  | succ i=>
   have j:i<v.f.length:=by omega
   have m:IntKind.i64.wrap (((i+1:Nat):Int) - 1)=i:=by rw[wrap64 (by omega) (by omega)];omega
   have hp:(0:Int)<((i+1:Nat):Int):=by omega
   simp only[H2,aC j,aI,m,hp,Zd,Zt,aH,aG,aA,dB,Zp]
   cases C8 v.f[i+1].1<;>cases Cd d v.f[i+1].2<;>cases blt v.f[i].1 v.f[i+1].1<;>simp
theorem Zy: ∀ (d:Nat) (v:Val),d<=12->v.Aq<=1099511627776->W Bfb 0 [v.enc,.int d]=some [.bool (Cd d v)]
 | 0,v,_,_=>by
  rw[Aou]
  simp[Cd]
 | d+1,v,hd,j=>by
  have m:=Yv d v (by omega) j (λx u=>Zy d x (by omega) (by have:=eE u;omega)) v.l.length 0 (by omega)
  have r:=Xt d v (by omega) j (λp hp=>Zy d p.2 (by omega) (by have:=dY hp;omega)) v.f.length 0 (by omega)
  rw[Aou]
  have w: ¬ ((d+1:Nat):Int)=0:=by omega
  simp only[aN,aP,H2,Ajb]at m r
  rw[r]at m
  simp only[aW,w,Ze,aA,aR,aB,Zf,Ass v j,bK,cM,cV,cP,dQ,bX,aD,cT,eB,m,Cd]
  have t:v.l= []->v.l.all (Cd d)=true:=λe=>by rw[e];rfl
  have o:v.f= []->(v.f.all λp=>C8 p.1&&Cd d p.2)=true/\rising v.f=true:=λe=>by rw[e];exact⟨rfl,rfl⟩
  generalize v.l.all (Cd d)=A at *
  generalize (v.f.all λp=>C8 p.1&&Cd d p.2)=B at *
  generalize rising v.f=C at *
  cases y:Hm v with
  | false=>simp
  | true=>
   by_cases b:(64:Int)<v.l.length
   ·have: ¬ v.l.length<=64:=by omega
    simp[b,this]
   ·have d1:v.l.length<=64:=by omega
    by_cases c:(64:Int)<v.f.length
    ·have: ¬ v.f.length<=64:=by omega
     simp[b,c,this]
    ·have d2:v.f.length<=64:=by omega
     by_cases g:v.k=4
     ·have i: ¬ v.k=5:=by omega
      by_cases a:v.f= []
      ·simp[g,b,d1,a]
       cases A<;>simp
      ·have h:(0:Int)<v.f.length:=by have:=bW.2 a;omega
       simp[g,b,c,d1,d2,a,h]
     ·by_cases a:v.l= []
      ·by_cases i:v.k=5
       ·simp[i,c,d2,a]
        cases A<;>simp
       ·by_cases q:v.f= []
        ·simp[g,i,a,q]
         cases A<;>simp
        ·have h:(0:Int)<v.f.length:=by have:=bW.2 q;omega
         simp[g,i,a,q,h,c,d2]
      ·have h:(0:Int)<v.l.length:=by have:=bW.2 a;omega
       simp[g,a,h,b,c,d1,d2]
end Go.CT.Sch
namespace Go.CT
theorem get!_eq (s:ByteArray)(i:Nat)(h:i<s.size):s.get! (i+0)=s[i]:=by
 obtain⟨a⟩:=s
 have h':i<a.size:=h
 show a[i+0]! =a[i]
 simp[h']
theorem Qg {s:ByteArray}{i:Nat}(h:i<s.size)(a:s[i].toNat <128):Utf8.decode s i=(s[i].toNat,1):=by
 unfold Utf8.decode
 simp only[get!_eq s i h]
 rw[if_pos a]
theorem decode_high {s:ByteArray}{i:Nat}(h:i<s.size)(b:128<=s[i].toNat):128<=(Utf8.decode s i).1 :=by
 unfold Utf8.decode
 simp only[get!_eq s i h]
 rw[if_neg (by omega)]
 have e:Utf8.runeError=65533:=rfl
 split
 ·split<;>simp only[e]<;>omega
 ·split
  ·split
   ·rename_i a
    simp only[aL,decide_eq_true_eq,ge_iff_le]at a
    show 128<=_
    omega
   ·simp[e]
  ·split
   ·split
    ·rename_i a
     simp only[aL,decide_eq_true_eq,ge_iff_le]at a
     show 128<=_
     omega
    ·simp[e]
   ·simp[e]
namespace O
variable {s:ByteArray}{i:Nat}{b:Bool}{xs ys:List IV}
theorem Sf (h:i<s.size):Ny (.str s) (.int i)=some (.bool true):=by simp[Ny,dD,h]
theorem Uu (h: ¬ i<s.size):Ny (.str s) (.int i)=some (.bool false):=by simp[Ny,dD,h]
theorem Sm (h:i<s.size):N1 (.str s) (.int i)=some (.int (Utf8.decode s i).1):=by simp[N1,dD,h]
theorem T1 (h: ¬ i<s.size):N1 (.str s) (.int i)=some (.int 0):=by simp[N1,dD,h]
theorem Mu (h:i<s.size):H0 (.str s) (.int i)=some (.int ((i+(Utf8.decode s i).2 :Nat):Int)):=by simp[H0,dD,h]
theorem Pm (h: ¬ i<s.size):H0 (.str s) (.int i)=some (.int i):=by simp[H0,dD,h]
@[simp] theorem R0:Aki (.bool true)=some (.bool true):=rfl
theorem Ahs {n:Nat}(h:0<ys.length)(a:(xs.length+ys.length) * n<=Bb):Np n (.list xs) (.list ys)=some (.list (xs++ys)):=if_pos ⟨h,a⟩
theorem Ak4 (h:xs.length+s.size<=Bb):Lh (.list xs) (.str s)=some (.list (xs++Co s)):=if_pos h
@[simp] theorem Auh:Azv [.list xs]=some [.list xs]:=rfl
@[simp] theorem Kn:Mk [.list xs]=some [.list xs]:=rfl
theorem Zl: ∀l:List UInt8,(l.map λb:UInt8=>IV.int b.toNat).mapM K4=some l
 | []=>rfl
 | b::l=>by
  have a:K4 (.int b.toNat)=some b:=by
   have h:(b.toNat:Int)<256:=by have:=b.toNat_lt;omega
   simp only[K4,aH,h,and_self,Zt,aG]
   simp[gZ]
  simp[bN,List.mapM_cons,a,Zl l]
theorem M7 (s:ByteArray):Us [.list (Co s)]=some [.str s]:=by
 simp only[Us,Co,Zl,aI]
theorem Le (s t:ByteArray):Co (s++t)=Co s++Co t:=by
 simp[Co,aS]
theorem Li (s:ByteArray):(Co s).length =s.size:=by simp[Co]
theorem A7b (n:Nat)(h:n<100):Atk [.int n]=some [.str (Mg n)]:=by
 simp only[Atk,aH,true_and,aG]
 rw[if_pos (by omega)]
end O
end Go.CT
namespace Go.CT.Sch
open Go.Proofs
structure Stp where
 k:Int
 nm:ByteArray
 ix:Int
 vl:ByteArray
def Stp.enc (s:Stp):IV:= .agg [.int s.k,.str s.nm,.int s.ix,.str s.vl]
@[simp] theorem Stp.Bl (s:Stp):eS 0 s.enc=some (.int s.k):=rfl
@[simp] theorem Stp.C4 (s:Stp):eS 1 s.enc=some (.str s.nm):=rfl
@[simp] theorem Stp.Ee (s:Stp):eS 2 s.enc=some (.int s.ix):=rfl
@[simp] theorem Stp.Bz (s:Stp):eS 3 s.enc=some (.str s.vl):=rfl
def Stp.fits (s:Stp):Prop:=s.nm.size<=1099511627000/\s.vl.size<=1099511627000
def bsL (l:List UInt8):ByteArray:=⟨l.toArray⟩
theorem Gz (a b:List UInt8):bsL (a++b)=bsL a++bsL b:=by
 apply Gj
 rw[aS];simp[bsL]
theorem Ce (l:List UInt8):(bsL l).size =l.length:=by simp[bsL,ByteArray.size]
theorem Pw (s:ByteArray):bsL s.data.toList=s:=rfl
theorem Hl (s:ByteArray):Am++s=s:=by
 apply Gj
 rw[aS];rfl
theorem Sl (s:ByteArray):s++Am=s:=by
 apply Gj
 rw[aS];simp[Am]
theorem A1t {s:ByteArray}{i:Nat}(h:i<s.size):s.extract i (i+1)=bsL [s[i]]:=by
 apply Gj
 rw[eT,fH]
 simp only[eK,bsL]
 have:=Hz h
 rw[show i+1 - i=1 by omega,this]
 rfl
def I5 (c:UInt8):List UInt8:=if c.toNat=10 then[92,110]else if c.toNat=34\/c.toNat=92 then[92,c]else[c]
def Lq (s:ByteArray):ByteArray:=bsL (34::s.data.toList.flatMap I5++ [34])
theorem A1o (c:UInt8):(I5 c).length <=2:=by unfold I5;split<;> (try split)<;>simp
theorem Al7: ∀l:List UInt8,(l.flatMap I5).length <=2 * l.length
 | []=>by simp
 | c::l=>by
  have:=A1o c
  have:=Al7 l
  simp only[cA,aO,bA];omega
theorem Rr (s:ByteArray):(Lq s).size <=2+2 * s.size:=by
 have:=Al7 s.data.toList
 have h:s.data.toList.length=s.size:=by simp
 unfold Lq
 rw[Ce]
 simp only[bA,aO,bC]
 omega
def Ei (x:Stp):Bool:=
 if x.k=1 then C8 x.nm&&decide (x.ix=0)&&decide (x.vl=Am)
 else if x.k=2 then decide (0<=x.ix)&&decide (x.ix<=64)&&decide (x.nm=Am)&&decide (x.vl=Am)
 else if x.k=3 then C8 x.nm&&Jq x.vl&&decide (x.ix=0)
 else false
def Db (p:List Stp):Bool:=p.all Ei&&decide (p.length<=16)
def H7 (first:Bool)(x:Stp):ByteArray:=
 if x.k=2 then bsL [91]++fU x.ix.toNat++bsL [93]
 else if x.k=3 then bsL [91]++x.nm++bsL [61]++Lq x.vl++bsL [93]
 else if first then x.nm else bsL [46]++x.nm
def Es:Bool->List Stp->ByteArray
 | _,[]=>Am
 | b,x::r=>H7 b x++Es false r
def Bji (p:List Stp):ByteArray:=Es true p
def Cs (p:List Stp):ByteArray:=if Db p then Bji p else Am
def Apw (p:List Stp):Int:=if Db p then 0 else 1
theorem Rh {s:ByteArray}(h:C8 s=true):s.size<=40:=by
 unfold C8 at h
 simp only[aL,decide_eq_true_eq]at h
 exact h.2.2
theorem Qa {s:ByteArray}(h:Jq s=true):s.size<=200:=by
 unfold Jq at h
 simp only[aL,decide_eq_true_eq]at h
 exact h.2
theorem Tv (n:Nat):(fU n).size <=2:=by
 unfold fU
 split
 ·show 1<=2;omega
 ·show 2<=2;omega
theorem D3 {x:Stp}(h:Ei x=true):x.nm.size<=40/\x.vl.size<=200/\(x.k=2->0<=x.ix/\x.ix<=64)/\(x.k=3->Jq x.vl=true)/\(x.k=1\/x.k=2\/x.k=3):=by
 have a:Am.size=0:=rfl
 unfold Ei at h
 split at h
 ·rename_i k1
  simp only[aL,decide_eq_true_eq]at h
  exact⟨Rh h.1.1,by rw[h.2,a];omega,λh=>by omega,λh=>by omega,.inl k1⟩
 ·split at h
  ·rename_i k2
   simp only[aL,decide_eq_true_eq]at h
   exact⟨by rw[h.1.2,a];omega,by rw[h.2,a];omega,λ_=>⟨h.1.1.1,h.1.1.2⟩,λh=>by omega,.inr (.inl k2)⟩
  ·split at h
   ·rename_i b
    simp only[aL,decide_eq_true_eq]at h
    exact⟨Rh h.1.1,Qa h.1.2,λh=>by omega,λ_=>h.1.2,.inr (.inr b)⟩
   ·cases h
theorem Xf (c:UInt8):W F204 0 [.int c.toNat]=some [.bool (Bv c)]:=by
 rw[A5g]
 simp only[fG,eP,aW,aA,aR,Ax,Al]
 congr 3
 unfold Bv
 rw[aT]
 simp
 omega
theorem Zw (s:ByteArray)(b:s.size<=1099511627776): ∀ (n i:Nat),i+n=s.size->W F203 1 [.str s,.int i]=some [.bool ((s.data.toList.drop i).all Bv&&decide (1<=s.size/\s.size<=40))]
 | 0,i,h=>by
  have c: ¬ i<s.size:=by omega
  have d:s.data.toList.drop i= []:=aF (by simp;omega)
  rw[Am8]
  simp only[cS,aA,bB,Aj,c,Ze,aR,aB,Zf,cT,eP,Ax,Al,d,cH,bI]
  congr 3
  rw[aT]
  simp
  omega
 | n+1,i,h=>by
  have a:i<s.size:=by omega
  have e:=Bd (i:=i) (by omega)
  have g:=Zw s b n (i+1) (by omega)
  rw[Am8,Hz a]
  simp only[cS,aA,bB,Aj,a,Zd,aR,Zt,hA,aH,aG,A9j a,aI,Xf,bK,cM,bR,e,g,bS]
  cases Bv s[i]<;>simp
theorem Avn (s:ByteArray)(a:s.size<=1099511627776):W F203 0 [.str s]=some [.bool (C8 s)]:=by
 rw[A3m];exact Zw s a s.size 0 (by omega)
theorem Ab0 (s:ByteArray)(j:s.size<=1099511627776): ∀ (n i:Nat),i+n=s.size->W F205 1 [.str s,.int i]=some [.bool ((s.data.toList.drop i).all Io&&decide (s.size<=200))]
 | 0,i,h=>by
  have m: ¬ i<s.size:=by omega
  have o:s.data.toList.drop i= []:=aF (by simp;omega)
  rw[Amc]
  simp only[cS,aA,bB,Aj,m,Ze,aR,aB,Zf,eP,o,cH,bI]
  congr 3
  rw[aT]
  simp
  omega
 | n+1,i,h=>by
  have d:i<s.size:=by omega
  have q:=Bd (i:=i) (by omega)
  have r:=Ab0 s j n (i+1) (by omega)
  rw[Amc,Hz d]
  have e1:Io s[i]= !(if(!decide ((s[i].toNat :Int)=10))=true then(if decide ((s[i].toNat :Int)<32)=true then true else decide (126<(s[i].toNat :Int))) else false):=by
   unfold Io
   rw[aT]
   by_cases e:s[i].toNat =10
   ·simp[e]
   ·have c: ¬ (s[i].toNat :Int)=10:=by omega
    by_cases g:s[i].toNat <32
    ·have a:(s[i].toNat :Int)<32:=by omega
     simp[e,c,g,a];omega
    ·have a: ¬ (s[i].toNat :Int)<32:=by omega
     simp[e,c,g,a]
     omega
  simp only[cS,aA,bB,Aj,d,Zd,aR,Zt,hA,aH,aG,A9j d,aI,eB,cT,Ax,Al,bR,q,r,bS,e1]
  generalize (if(!decide ((s[i].toNat :Int)=10))=true then(if decide ((s[i].toNat :Int)<32)=true then true else decide (126<(s[i].toNat :Int))) else false)=b
  cases b<;>simp
theorem A4y (s:ByteArray)(a:s.size<=1099511627776):W F205 0 [.str s]=some [.bool (Jq s)]:=by
 rw[A2r];exact Ab0 s a s.size 0 (by omega)
theorem Ax1 (s:Stp)(a:s.fits):W F202 0 [s.enc]=some [.bool (Ei s)]:=by
 have c:=Avn s.nm (dE a.1 (by decide))
 have d:=A4y s.vl (dE a.2 (by decide))
 rw[A34]
 simp only[Stp.Bl,Stp.C4,Stp.Ee,Stp.Bz,aA,aW,aR,c,d,bK,fG,eP,fV,Ax,Al,Dk]
 unfold Ei
 by_cases k1:s.k=1
 ·simp only[k1,Zd,Zt]
  cases C8 s.nm<;>simp
 ·by_cases k2:s.k=2
  ·simp only[k1,k2,Zd,Ze,aB,Zt,Zf]
   by_cases e1:0<=s.ix<;>by_cases e:s.ix<=64<;>by_cases g:s.nm=Am<;>simp[e1,e,g]
  ·simp only[k1,k2,Ze,aB,Zf]
   by_cases b:s.k=3
   ·simp only[b,Zd,Zt]
    cases C8 s.nm<;>cases Jq s.vl<;>simp
   ·simp[b]
theorem Vi (p:List Stp)(hp: ∀s∈p,s.fits)(b:p.length<=1099511627776): ∀ (n i:Nat),i+n=p.length->W F201 1 [.list (p.map Stp.enc),.int i]=some [.bool ((p.drop i).all Ei&&decide (p.length<=16))]
 | 0,i,h=>by
  have c: ¬ i<p.length:=by omega
  have d:p.drop i= []:=aF (by omega)
  rw[Ao9]
  simp only[bX,aD,aA,bB,Aj,c,Ze,aR,aB,Zf,eP,d,cH,bI]
  congr 3
  rw[aT]
  simp
  omega
 | n+1,i,h=>by
  have a:i<p.length:=by omega
  have e:=Bd (i:=i) (by omega)
  have g:=Vi p hp b n (i+1) (by omega)
  rw[Ao9,aE a]
  simp only[bX,aD,aA,bB,Aj,a,Zd,aR,Zt,cC,aH,aG,aJ,aC a,aI,Ax1 _ (hp _ (aK a)),bK,cM,bR,e,g,bS]
  cases Ei p[i]<;>simp
theorem Lm (p:List Stp)(hp: ∀s∈p,s.fits)(a:p.length<=1099511627776):W F201 0 [.list (p.map Stp.enc)]=some [.bool (Db p)]:=by
 rw[A3x];exact Vi p hp a p.length 0 (by omega)
theorem Gw {a b:ByteArray}(c:a.size<=100000)(d:b.size<=100000):O.cat (.str a) (.str b)=some (.str (a++b)):=by
 rw[O.Bbn,if_pos (by unfold Bb;omega)]
theorem Bb1: ∀d:Fin 10,(⟨#[48,49,50,51,52,53,54,55,56,57]⟩:ByteArray).extract d (d+1)=bsL [(48+d.val).toUInt8]:=by decide+kernel
theorem Be7 (n:Int)(h:0<=n)(q:n<=64):W F206 0 [.int n]=some [.str (fU n.toNat)]:=by
 have sl: ∀d:Nat,d<10->O.N3 (.str ⟨#[48,49,50,51,52,53,54,55,56,57]⟩) (.int d) (.int ((d:Int)+1))=some (.str (bsL [(48+d).toUInt8])):=by
  intro d hd
  rw[O.T2,if_pos ⟨by omega,by omega,by show(d:Int)+1<=10;omega⟩]
  have:=Bb1 ⟨d,hd⟩
  simp only[aG]
  rw[show((d:Int)+1).toNat =d+1 by omega,this]
 obtain⟨m,rfl⟩:=cQ h
 rw[A8h]
 unfold fU
 simp only[qAB,aG]
 by_cases c:m<10
 ·have i:IntKind.i64.wrap ((m:Int)+1)=(m:Int)+1:=wrap64 (by omega) (by omega)
  have c':(m:Int)<10:=by omega
  simp only[bB,c',Zd,aA,aR,Zt,bR,i,sl m c,c]
  rfl
 ·have c': ¬ (m:Int)<10:=by omega
  have j:(m:Int).tdiv 10=((m / 10:Nat):Int):=by rw[Int.tdiv_eq_ediv_of_nonneg (by omega)];omega
  have o:(m:Int).tmod 10=((m % 10:Nat):Int):=by rw[Int.tmod_eq_emod_of_nonneg (by omega)];omega
  have a:IntKind.i64.wrap ((m / 10:Nat):Int)=((m / 10:Nat):Int):=wrap64 (by omega) (by omega)
  have b:IntKind.i64.wrap (((m / 10:Nat):Int)+1)=((m / 10:Nat):Int)+1:=wrap64 (by omega) (by omega)
  have e:IntKind.i64.wrap (((m % 10:Nat):Int)+1)=((m % 10:Nat):Int)+1:=wrap64 (by omega) (by omega)
  have g: ¬ (10:Int)=0:=by omega
  simp only[bB,c',Ze,aA,aR,aB,Zf,O.Bcf,O.Ban,g,j,o,a,bR,b,e,sl (m / 10) (by omega),sl (m % 10) (by omega),c]
  rw[Gw (by rw[Ce];simp) (by rw[Ce];simp),<-Gz]
  rfl
theorem Yg (s:ByteArray)(t:s.size<=200): ∀ (n i:Nat) (o:ByteArray),i+n=s.size->o.size<=1+2 * i->W Bjf 1 [.str s,.str o,.int i]=some [.str (o++bsL ((s.data.toList.drop i).flatMap I5++ [34]))]
 | 0,i,o,h,u=>by
  have g: ¬ i<s.size:=by omega
  have j:s.data.toList.drop i= []:=aF (by simp;omega)
  rw[Amx]
  simp only[cS,aA,bB,Aj,g,Ze,aR,aB,Zf,j,cR,bD]
  rw[show(ByteArray.mk #[34])=bsL [34]from rfl,Gw (by omega) (by rw[Ce];simp)]
  rfl
 | n+1,i,o,h,u=>by
  have e:i<s.size:=by omega
  have m:=Bd (i:=i) (by omega)
  have d:O.N3 (.str s) (.int i) (.int ((i+1:Nat):Int))=some (.str (bsL [s[i]])):=by
   rw[O.T2,if_pos ⟨by omega,by omega,by omega⟩]
   simp only[aG]
   rw[A1t e]
  have next: ∀a:List UInt8,a.length<=2->I5 s[i]=a->W Bjf 2 [.str s,.str (o++bsL a),.int i]=some [.str (o++bsL ((s.data.toList.drop i).flatMap I5++ [34]))]:=by
   intro a x w
   rw[A5l]
   simp only[bR,m,aA]
   rw[Yg s t n (i+1) _ (by omega) (by rw[aM,Ce];omega),Hz e,cA,w,bH,Gz a,bG]
  rw[Amx]
  simp only[cS,aA,bB,Aj,e,Zd,aR,Zt,hA,aH,aG,A9j e,aI,aW,Ax,Al]
  rw[show(ByteArray.mk #[92,110])=bsL [92,110]from rfl,show(ByteArray.mk #[92])=bsL [92]from rfl]
  by_cases q:s[i].toNat =10
  ·have b:(s[i].toNat :Int)=10:=by omega
   simp only[b,Zd,Zt]
   rw[Gw (by omega) (by rw[Ce];simp)]
   exact next [92,110] (by simp) (by unfold I5;rw[if_pos q])
  ·have b: ¬ (s[i].toNat :Int)=10:=by omega
   simp only[b,Ze,aB,Zf]
   by_cases r:s[i].toNat =34\/s[i].toNat =92
   ·have c:(if decide ((s[i].toNat :Int)=34)=true then true else decide ((s[i].toNat :Int)=92))=true:=by
     rcases r with h | h<;>simp[h]
    simp only[c,Zt]
    rw[Gw (by omega) (by rw[Ce];simp)]
    simp only[aA,bR,m,d]
    rw[Gw (by rw[aM,Ce];simp;omega) (by rw[Ce];simp),bG,<-Gz]
    exact next [92,s[i]] (by simp) (by unfold I5;rw[if_neg q,if_pos r])
   ·have c:(if decide ((s[i].toNat :Int)=34)=true then true else decide ((s[i].toNat :Int)=92))=false:=by
     have g: ¬ (s[i].toNat :Int)=34:=by omega
     have j: ¬ (s[i].toNat :Int)=92:=by omega
     simp[g,j]
    simp only[c,aB,Zf,bR,m,aA,d]
    rw[Gw (by omega) (by rw[Ce];simp)]
    exact next [s[i]] (by simp) (by unfold I5;rw[if_neg q,if_neg r])
theorem Avm (s:ByteArray)(a:s.size<=200):W Bjf 0 [.str s]=some [.str (Lq s)]:=by
 rw[A47,show(ByteArray.mk #[34])=bsL [34]from rfl]
 rw[show(IV.int 0)=IV.int ((0:Nat):Int) from rfl,Yg s a s.size 0 _ (by omega) (by rw[Ce];simp),<-Gz]
 rfl
theorem Ua {b:Bool}{x:Stp}(h:Ei x=true):(H7 b x).size <=500:=by
 obtain⟨a,d,_⟩:=D3 h
 have g:=Rr x.vl
 have i:=Tv x.ix.toNat
 have e: ∀c:UInt8,(bsL [c]).size =1:=λc=>by rw[Ce];rfl
 unfold H7
 split
 ·simp only[aM,e];omega
 ·split
  ·simp only[aM,e];omega
  ·split
   ·omega
   ·simp only[aM,e];omega
theorem Yu (p:List Stp)(hp: ∀s∈p,Ei s=true)(w:p.length<=16): ∀ (n i:Nat) (o:ByteArray),i+n=p.length->o.size<=500 * i->W Bkg 1 [.list (p.map Stp.enc),.str o,.int i]=some [.str (o++Es (decide (i=0)) (p.drop i)),.int 0]
 | 0,i,o,h,x=>by
  have y: ¬ i<p.length:=by omega
  have z:p.drop i= []:=aF (by omega)
  rw[Amy]
  simp only[bX,aD,aA,bB,Aj,y,Ze,aR,aB,Zf,z,Es,Sl]
 | n+1,i,o,h,x=>by
  have j:i<p.length:=by omega
  have A:=Bd (i:=i) (by omega)
  have b:=hp _ (aK j)
  obtain⟨C,B,r,F,G⟩:=D3 b
  have e: ∀c:UInt8,(bsL [c]).size =1:=λc=>by rw[Ce];rfl
  have next: ∀t:ByteArray,H7 (decide (i=0)) p[i]=t->W Bkg 2 [.list (p.map Stp.enc),.str (o++t),.int i]=some [.str (o++Es (decide (i=0)) (p.drop i)),.int 0]:=by
   intro t u
   have m:(H7 (decide (i=0)) p[i]).size <=500:=Ua b
   rw[A2v]
   simp only[bR,A,aA]
   rw[Yu p hp w n (i+1) (o++t) (by omega) (by rw[aM,<-u];omega),aE j,Es,u,bG]
   rfl
  rw[Amy]
  simp only[bX,aD,aA,bB,Aj,j,Zd,aR,Zt,cC,aH,aG,aJ,aC j,aI,Stp.Bl,Stp.C4,Stp.Ee,Stp.Bz,aW,cT]
  rw[show(ByteArray.mk #[91])=bsL [91]from rfl,show(ByteArray.mk #[93])=bsL [93]from rfl,show(ByteArray.mk #[61])=bsL [61]from rfl,show(ByteArray.mk #[46])=bsL [46]from rfl]
  by_cases k2:p[i].k =2
  ·have hd:=Be7 p[i].ix (r k2).1 (r k2).2
   have q:=Tv p[i].ix.toNat
   simp only[k2,Zd,Zt]
   rw[Gw (by omega) (by rw[e];omega)]
   simp only[aA,hd,bK]
   rw[Gw (by rw[aM,e];omega) (by omega)]
   simp only[aA]
   rw[Gw (by rw[aM,aM,e];omega) (by rw[e];omega)]
   simp only[aA,bG]
   exact next _ (by unfold H7;rw[if_pos k2,bG])
  ·simp only[k2,Ze,aB,Zf]
   by_cases d:p[i].k =3
   ·have hd:=Avm p[i].vl B
    have q:=Rr p[i].vl
    simp only[d,Zd,Zt]
    rw[Gw (by omega) (by rw[e];omega)]
    simp only[aA]
    rw[Gw (by rw[aM,e];omega) (by omega)]
    simp only[aA]
    rw[Gw (by rw[aM,aM,e];omega) (by rw[e];omega)]
    simp only[aA,hd,bK]
    rw[Gw (by rw[aM,aM,aM,e,e];omega) (by omega)]
    simp only[aA]
    rw[Gw (by rw[aM,aM,aM,aM,e,e];omega) (by rw[e];omega)]
    simp only[aA,bG]
    exact next _ (by unfold H7;rw[if_neg k2,if_pos d];simp only[bG])
   ·simp only[d,Ze,aB,Zf]
    by_cases m:i=0
    ·have a: ¬ (0:Int)<i:=by omega
     have g:o=Am:=by
      apply Gj
      have:o.size=0:=by omega
      have:o.data.toList.length=0:=by simpa using this
      rw[aV.1 this];rfl
     simp only[a,Ze,aB,Zf]
     have:=next p[i].nm (by unfold H7;rw[if_neg k2,if_neg d,if_pos (by simpa using m)])
     rw[g,Hl]at this
     rw[g]
     exact this
    ·have a:(0:Int)<i:=by omega
     simp only[a,Zd,Zt]
     rw[Gw (by omega) (by rw[e];omega)]
     simp only[aA]
     rw[Gw (by rw[aM,e];omega) (by omega)]
     simp only[aA,bG]
     exact next _ (by unfold H7;rw[if_neg k2,if_neg d,if_neg (by simpa using m)])
theorem Xn (p:List Stp)(hp: ∀s∈p,s.fits)(b:p.length<=1099511627776):W Bkg 0 [.list (p.map Stp.enc)]=some [.str (Cs p),.int (Apw p)]:=by
 rw[A4z]
 unfold Cs Apw
 cases a:Db p with
 | false=>simp only[Lm p hp b,a,bK,cM,aA,aX,aR,Zt];rfl
 | true=>
  simp only[Lm p hp b,a,bK,cM,aA,aU,aR,aB,Zf,Zt]
  unfold Db at a
  simp only[aL,decide_eq_true_eq,bM]at a
  have:=Yu p a.1 a.2 p.length 0 Am (by omega) (bP _)
  rw[Hl]at this
  exact this
end Go.CT.Sch
namespace Go.CT.Sch
open Go.Proofs
theorem Ags (s:ByteArray)(j:s.size<=1099511627776): ∀ (n i:Nat),i+n=s.size->W F24 1 [.str s,.int s.size,.int i]=some [.bool ((s.data.toList.drop i).all Io&&decide (s.size<=200))]
 | 0,i,h=>by
  have m: ¬ i<s.size:=by omega
  have o:s.data.toList.drop i= []:=aF (by simp;omega)
  rw[Az2]
  simp only[cS,aA,bB,Aj,m,Ze,aR,aB,Zf,eP,o,cH,bI]
  congr 3
  rw[aT]
  simp
  omega
 | n+1,i,h=>by
  have d:i<s.size:=by omega
  have q:=Bd (i:=i) (by omega)
  have r:=Ags s j n (i+1) (by omega)
  rw[Az2,Hz d]
  have e1:Io s[i]= !(if(!decide ((s[i].toNat :Int)=10))=true then(if decide ((s[i].toNat :Int)<32)=true then true else decide (126<(s[i].toNat :Int))) else false):=by
   unfold Io
   rw[aT]
   by_cases e:s[i].toNat =10
   ·simp[e]
   ·have c: ¬ (s[i].toNat :Int)=10:=by omega
    by_cases g:s[i].toNat <32
    ·have a:(s[i].toNat :Int)<32:=by omega
     simp[e,c,g,a];omega
    ·have a: ¬ (s[i].toNat :Int)<32:=by omega
     simp[e,c,g,a]
     omega
  simp only[cS,aA,bB,Aj,d,Zd,aR,Zt,hA,aH,aG,A9j d,aI,eB,cT,Ax,Al,bR,q,r,bS,e1]
  generalize (if(!decide ((s[i].toNat :Int)=10))=true then(if decide ((s[i].toNat :Int)<32)=true then true else decide (126<(s[i].toNat :Int))) else false)=b
  cases b<;>simp
theorem Bac (s:ByteArray)(a:s.size<=1099511627776):W F24 0 [.str s]=some [.bool (Jq s)]:=by
 rw[Bd2]
 simp only[cS,aA]
 exact Ags s a s.size 0 (by omega)
theorem Ahh (s:ByteArray)(b:s.size<=1099511627776): ∀ (n i:Nat),i+n=s.size->W F25 1 [.str s,.int s.size,.int i]=some [.bool ((s.data.toList.drop i).all Bv&&decide (1<=s.size/\s.size<=40))]
 | 0,i,h=>by
  have d: ¬ i<s.size:=by omega
  have e:s.data.toList.drop i= []:=aF (by simp;omega)
  rw[A0a]
  simp only[cS,aA,bB,Aj,d,Ze,aR,aB,Zf,fG,eP,Ax,Al,e,cH,bI]
  congr 3
  rw[aT]
  simp
  omega
 | n+1,i,h=>by
  have a:i<s.size:=by omega
  have g:=Bd (i:=i) (by omega)
  have j:=Ahh s b n (i+1) (by omega)
  rw[A0a,Hz a]
  generalize m:s[i]=c
  simp only[cS,aA,bB,Aj,a,Zd,aR,Zt,hA,aH,aG,A9j a,m,aI,fG,eP,aW,Ax,Al,cM,bR,g,j,bS]
  have e1:Bv c=(if(if(if(if(if(if decide ((97:Int)<=c.toNat)=true then decide ((c.toNat:Int)<=122) else false)=true then true else if decide ((65:Int)<=c.toNat)=true then decide ((c.toNat:Int)<=90) else false)=true then true else if decide ((48:Int)<=c.toNat)=true then decide ((c.toNat:Int)<=57) else false)=true then true else decide ((c.toNat:Int)=45))=true then true else decide ((c.toNat:Int)=95))=true then true else decide ((c.toNat:Int)=47)):=by
   unfold Bv
   rw[aT]
   simp
   omega
  rw[<-e1]
  cases Bv c<;>simp
theorem Ber (s:ByteArray)(a:s.size<=1099511627776):W F25 0 [.str s]=some [.bool (C8 s)]:=by
 rw[Bb9]
 simp only[cS,aA]
 exact Ahh s a s.size 0 (by omega)
theorem Au2 (v:Val)(i:v.Aq<=1099511627776):W F23 0 [v.enc]=some [.bool (Hm v)]:=by
 have j:=v.A02
 rw[Bc2]
 unfold Hm
 simp only[dQ,aA,aW,aR]
 by_cases b:v.k=1
 ·by_cases a:v.s=Am<;>by_cases a2:v.n=0<;>simp[b,a,a2,Dk]
 by_cases c:v.k=2
 ·by_cases a: -1000000000000000<=v.n<;>by_cases a2:v.n<=1000000000000000<;>by_cases a3:v.s=Am<;>simp[c,a,a2,a3,Dk]
 by_cases d:v.k=3
 ·by_cases a:v.n=0<;>simp[d,a,Bac v.s (by omega)]
 by_cases e:v.k=0
 ·by_cases a:v.n=0<;>simp[e,Afd,a,Dk]
 by_cases g:v.k=4
 ·by_cases a:v.n=0<;>simp[g,Afd,a,Dk]
 by_cases h:v.k=5
 ·by_cases a:v.n=0<;>simp[h,Afd,a,Dk]
 simp[b,c,d,e,g,h,Afd]
theorem Aa2 (d:Nat)(v:Val)(hd:d<=12)(r:v.Aq<=1099511627776)(o: ∀p∈v.f,W F22 0 [p.2.enc,.int d]=some [.bool (Cd d p.2)]): ∀ (n i:Nat),i+n=v.f.length->
  W F22 2 [.int ((d+1:Nat):Int),.list (v.f.map aY),.int v.f.length,.int i,v.enc]=some [.bool (Ax9 d (H2 v.f i) (v.f.drop i))]
 | 0,i,h=>by
  rw[Aww]
  have q: ¬ i<v.f.length:=by omega
  simp[q,aF (bE q),Ax9]
 | n+1,i,h=>by
  have b:i<v.f.length:=by omega
  have u:=v.Bc
  have t:=Bd (i:=i) (by omega)
  have c:IntKind.i64.wrap (((d+1:Nat):Int) - 1)=d:=by rw[wrap64 (by omega) (by omega)];omega
  have:=Aa2 d v hd r o n (i+1) (by omega)
  have a:=aK b
  have e:=dY a
  have g:H2 v.f (i+1)=some v.f[i].1 :=by simp[H2,b]
  rw[g]at this
  rw[Aww,aE b,Ah7]
  simp only[cP,aA,bB,Aj,b,Zd,aR,Zt,cC,aH,aG,aJ,aC b,aI,dB,dI,Ber v.f[i].1 (by omega),fC,c,o _ a,bK,cM,cT,bR,t,this]
  cases i with
  | zero=>
   simp only[H2]
   cases C8 v.f[0].1<;>cases Cd d v.f[0].2<;>simp
  | succ i=>
   have j:i<v.f.length:=by omega
   have m:IntKind.i64.wrap (((i+1:Nat):Int) - 1)=i:=by rw[wrap64 (by omega) (by omega)];omega
   have hp:(0:Int)<((i+1:Nat):Int):=by omega
   simp only[H2,aC j,aI,m,hp,Zd,Zt,aH,aG,aA,dB,Rt]
   cases C8 v.f[i+1].1<;>cases Cd d v.f[i+1].2<;>cases blt v.f[i].1 v.f[i+1].1<;>simp
theorem Aax (d:Nat)(v:Val)(hd:d<=12)(j:v.Aq<=1099511627776)(e: ∀x∈v.l,W F22 0 [x.enc,.int d]=some [.bool (Cd d x)]): ∀ (n i:Nat),i+n=v.l.length->
  W F22 1 [.int ((d+1:Nat):Int),.list (v.l.map bU),.int v.l.length,.int i,v.enc]=if(v.l.drop i).all (Cd d)=true then W F22 2 [.int ((d+1:Nat):Int),.list (v.f.map aY),.int v.f.length,.int 0,v.enc]else some [.bool false]
 | 0,i,h=>by
  rw[Av1]
  have g: ¬ i<v.l.length:=by omega
  simp[g,aF (bE g)]
 | n+1,i,h=>by
  have a:i<v.l.length:=by omega
  have o:=v.Bn
  have m:=Bd (i:=i) (by omega)
  have b:IntKind.i64.wrap (((d+1:Nat):Int) - 1)=d:=by rw[wrap64 (by omega) (by omega)];omega
  have:=Aax d v hd j e n (i+1) (by omega)
  rw[Av1,aE a]
  simp only[aA,bB,Aj,a,Zd,aR,Zt,cC,aH,aG,aJ,aC a,aI,fC,b,e _ (aK a),bK,cM,bR,m,this,bS]
  by_cases c:Cd d v.l[i]=true<;>simp[c]
theorem Ad6: ∀ (d:Nat) (v:Val),d<=12->v.Aq<=1099511627776->W F22 0 [v.enc,.int d]=some [.bool (Cd d v)]
 | 0,v,_,_=>by
  rw[Ayo]
  simp[Cd]
 | d+1,v,hd,a=>by
  have b:=Aax d v (by omega) a (λx i=>Ad6 d x (by omega) (by have:=eE i;omega)) v.l.length 0 (by omega)
  have e:=Aa2 d v (by omega) a (λp hp=>Ad6 d p.2 (by omega) (by have:=dY hp;omega)) v.f.length 0 (by omega)
  have j:=v.Bn
  have m:=v.Bc
  have g: ¬ ((d+1:Nat):Int)=0:=by omega
  simp only[aP,aN]at b e
  have e1:decide ((0:Int)<(v.l.length:Int))= !decide (v.l= []):=by cases v.l<;>simp
  have o:decide ((0:Int)<(v.f.length:Int))= !decide (v.f= []):=by cases v.f<;>simp
  have q:decide ((64:Int)<(v.l.length:Int))= !decide (v.l.length<=64):=by rw[aT];simp;omega
  have r:decide ((64:Int)<(v.f.length:Int))= !decide (v.f.length<=64):=by rw[aT];simp;omega
  rw[Ayo]
  simp only[aW,g,Ze,aA,aR,aB,Zf,Au2 v a,bK,cM,Ax,Al,dQ,cV,cP,eB,bX,aD,cT,e1,o,q,r,b,e]
  unfold Cd
  have h:H2 v.f 0=none:=rfl
  rw[h,Ajb]
  generalize v.l.all (Cd d)=A at *
  generalize (v.f.all λp=>C8 p.1&&Cd d p.2)=B at *
  generalize rising v.f=C at *
  generalize Hm v=D
  clear b e
  have t:(if(!decide (v.k=4))=true then !decide (v.l= []) else false)= !decide (v.k≠4->v.l= []):=by by_cases c:v.k=4<;>simp[c]
  have u:(if(!decide (v.k=5))=true then !decide (v.f= []) else false)= !decide (v.k≠5->v.f= []):=by by_cases c:v.k=5<;>simp[c]
  rw[t,u,show decide (v.l.length<=64/\v.f.length<=64/\(v.k≠4->v.l= [])/\(v.k≠5->v.f= []))=(decide (v.l.length<=64)&&(decide (v.f.length<=64)&&(decide (v.k≠4->v.l= [])&&decide (v.k≠5->v.f= [])))) by simp only[Bool.decide_and]]
  generalize decide (v.l.length<=64)=b1
  generalize decide (v.f.length<=64)=b2
  generalize decide (v.k≠4->v.l= [])=b3
  generalize decide (v.k≠5->v.f= [])=b4
  cases D<;>cases b1<;>cases b2<;>cases b3<;>cases b4<;>cases A<;>cases B<;>cases C<;>rfl
theorem Agw (v:Val)(g:v.Aq<=1099511627776)(d: ∀p∈v.f,W F26 0 [p.2.enc]=some [.int p.2.size]): ∀ (n i c:Nat),i+n=v.f.length->c+B9 (v.f.drop i)<=4611686018427387904->
  W F26 2 [.int c,.list (v.f.map aY),.int v.f.length,.int i]=some [.int ((c+B9 (v.f.drop i):Nat):Int)]
 | 0,i,c,h,j=>by
  rw[Ax3]
  have e: ¬ i<v.f.length:=by omega
  simp[e,aF (bE e),B9]
 | n+1,i,c,h,j=>by
  have a:i<v.f.length:=by omega
  have o:=v.Bc
  have m:=Bd (i:=i) (by omega)
  have hd:B9 (v.f.drop i)=v.f[i].2.size +B9 (v.f.drop (i+1)):=by rw[aE a];rfl
  have b:IntKind.i64.wrap ((c:Int)+(v.f[i].2.size :Int))=((c+v.f[i].2.size :Nat):Int):=by rw[wrap64 (by omega) (by omega)];rfl
  rw[Ax3]
  simp only[aA,bB,Aj,a,Zd,aR,Zt,cC,aH,aG,aJ,aC a,aI,dI,d _ (aK a),bK,bR,m,b]
  rw[Agw v g d n (i+1) _ (by omega) (by omega),hd,dG]
theorem Aha (v:Val)(g:v.Aq<=1099511627776)(d: ∀x∈v.l,W F26 0 [x.enc]=some [.int x.size]): ∀ (n i c:Nat),i+n=v.l.length->c+Cz (v.l.drop i)<=4611686018427387904->
  W F26 1 [.int c,.list (v.l.map bU),.int v.l.length,.int i,v.enc]=W F26 2 [.int ((c+Cz (v.l.drop i):Nat):Int),.list (v.f.map aY),.int v.f.length,.int 0]
 | 0,i,c,h,j=>by
  rw[Azz]
  have e: ¬ i<v.l.length:=by omega
  simp[e,aF (bE e),Cz]
 | n+1,i,c,h,j=>by
  have a:i<v.l.length:=by omega
  have o:=v.Bn
  have m:=Bd (i:=i) (by omega)
  have hd:Cz (v.l.drop i)=v.l[i].size +Cz (v.l.drop (i+1)):=by rw[aE a];rfl
  have b:IntKind.i64.wrap ((c:Int)+(v.l[i].size :Int))=((c+v.l[i].size :Nat):Int):=by rw[wrap64 (by omega) (by omega)];rfl
  rw[Azz]
  simp only[aA,bB,Aj,a,Zd,aR,Zt,cC,aH,aG,aJ,aC a,aI,d _ (aK a),bK,bR,m,b]
  rw[Aha v g d n (i+1) _ (by omega) (by omega),hd,dG]
theorem Bcm: ∀v:Val,v.Aq<=1099511627776->W F26 0 [v.enc]=some [.int v.size]:=by
 refine eC λv a b d=>?_
 have i:=v.Eu
 have j:=v.size_eq
 have e:=Aha v d (λx g=>a x g (by have:=eE g;omega)) v.l.length 0 1 (by omega) (by simp only[aP];omega)
 have h:=Agw v d (λp hp=>b p hp (by have:=dY hp;omega)) v.f.length 0 (1+Cz v.l) (by omega) (by simp only[aP];omega)
 simp only[aP,aN]at e h
 rw[Bcv]
 simp only[cV,aA,bX,aD]
 have c:W F26 1 [.int 1,.list (v.l.map bU),.int v.l.length,.int 0,v.enc]=W F26 2 [.int ((1+Cz v.l:Nat):Int),.list (v.f.map aY),.int v.f.length,.int 0]:=e
 rw[c,h,j]
theorem Iq (v:Val)(a:v.Aq<=1099511627776):W F21 0 [v.enc]=some [.bool v.valid]:=by
 rw[Bcy]
 have b:=Ad6 12 v (by omega) a
 have c:=Bcm v a
 simp only[aN]at b
 simp only[b,c,bK,aR,eP,aA,fM]
 have:decide ((v.size:Int)<=600)=decide (v.size<=600):=by simp;omega
 cases Cd 12 v<;>simp[this]
end Go.CT.Sch
namespace Go.CT.Sch
open Go.Proofs
def nmR (r:Int):Bool:=decide (97<=r/\r<=122)||decide (65<=r/\r<=90)||decide (48<=r/\r<=57)||decide (r=45)||decide (r=95)||decide (r=47)
theorem Alz (r:Int):W F60 0 [.int r]=some [.bool (nmR r)]:=by
 rw[Bbx]
 simp only[fG,eP,aW,aA,aR,Ax,Al]
 congr 3
 unfold nmR
 rw[aT]
 simp
theorem Wh (c:UInt8):nmR c.toNat=Bv c:=by
 unfold nmR Bv
 rw[aT]
 simp
 omega
theorem Afi {r:Int}(h:128<=r):nmR r=false:=by
 unfold nmR
 simp
 omega
theorem Aht {c:UInt8}(h:128<=c.toNat):Bv c=false:=by
 rw[<-Wh];exact Afi (by omega)
theorem Ai1 (s:ByteArray)(d:s.size<=1099511627776): ∀ (n i:Nat),i+n=s.size->W F59 1 [.str s,.str s,.int i]=some [.bool ((s.data.toList.drop i).all Bv&&decide (1<=s.size/\s.size<=40))]
 | 0,i,h=>by
  have b: ¬ i<s.size:=by omega
  have g:s.data.toList.drop i= []:=aF (by simp;omega)
  rw[Awj]
  simp only[O.Uu b,O.T1 b,O.Pm b,aA,aR,aB,Zf,gL,cS,eP,Ax,Al,g,cH,bI]
  congr 3
  have e:s=(⟨#[]⟩:ByteArray)↔s.size=0:=by
   constructor
   ·rintro rfl;rfl
   ·intro j
    apply Gj
    have:s.data.toList.length=0:=by simpa using j
    rw[aV.1 this]
  by_cases c:s.size=0
  ·simp[e,c]
  ·have m:1<=s.size:=by omega
   rw[aT]
   simp[e,c,m]
   omega
 | n+1,i,h=>by
  have a:i<s.size:=by omega
  rw[Awj,Hz a]
  simp only[O.Sf a,O.Sm a,O.Mu a,aA,aR,Zt,O.R0,Alz,bK,cM,bS]
  by_cases o:s[i].toNat <128
  ·have q:=Ai1 s d n (i+1) (by omega)
   rw[Qg a o]
   simp only[Wh]
   cases Bv s[i]with
   | true=>simpa using q
   | false=>simp
  ·have hd:=decode_high a (by omega)
   rw[Afi (by omega),Aht (by omega)]
   simp
theorem Bcr (s:ByteArray)(a:s.size<=1099511627776):W F59 0 [.str s]=some [.bool (C8 s)]:=by
 rw[Be1];exact Ai1 s a s.size 0 (by omega)
theorem Ahf (s:ByteArray):(Val.mk 3 0 s [] []).valid =Jq s:=by
 unfold fM Cd
 simp[Hm,rising,Val.size,Cz,B9]
theorem Bba (s:Stp)(a:s.fits):W F58 0 [s.enc]=some [.bool (Ei s)]:=by
 have d:=Bcr s.nm (dE a.1 (by decide))
 have b:=Iq ⟨3,0,s.vl,[],[]⟩ (by
  have:=a.2
  rw[hB];simp[En,Ck];omega)
 rw[Ahf]at b
 have e:IV.agg [.int 3,.int 0,.str s.vl,.list [],.list []]=bU ⟨3,0,s.vl,[],[]⟩:=rfl
 rw[Bcj]
 simp only[Stp.Bl,Stp.C4,Stp.Ee,Stp.Bz,aA,aW,aR,d,bK,fG,eP,fV,Ax,Al,Dk,Akb,gM,eU,e,b]
 unfold Ei
 by_cases k1:s.k=1
 ·simp only[k1,Zd,Zt]
  cases C8 s.nm<;>simp
 ·by_cases k2:s.k=2
  ·simp only[k2,Zd,Ze,aB,Zt,Zf]
   by_cases e1:0<=s.ix<;>by_cases g:s.ix<=64<;>by_cases h:s.nm=Am<;>simp[e1,g,h]
  ·simp only[k1,k2,Ze,aB,Zf]
   by_cases c:s.k=3
   ·simp only[c,Zd,Zt]
    cases C8 s.nm<;>cases Jq s.vl<;>simp
   ·simp[c]
theorem Ap0 (p:List Stp)(hp: ∀s∈p,s.fits)(c:p.length<=1099511627776): ∀ (n i:Nat),i+n=p.length->
  ∃r:Int,W F56 1 [.list (p.map Stp.enc),.int p.length,.int i]=some [.int r]/\decide (0<=r)= !(p.drop i).all Ei
 | 0,i,h=>by
  have d: ¬ i<p.length:=by omega
  have e:p.drop i= []:=aF (by omega)
  rw[Ay1]
  simp only[bB,Aj,d,Ze,aA,aR,aB,Zf,e]
  exact⟨-1,rfl,rfl⟩
 | n+1,i,h=>by
  have a:i<p.length:=by omega
  have g:=Bd (i:=i) (by omega)
  obtain⟨r,j,b⟩:=Ap0 p hp c n (i+1) (by omega)
  rw[Ay1,aE a]
  simp only[bB,Aj,a,Zd,aA,aR,Zt,cC,aH,aG,aJ,aC a,aI,Bcg,Bba _ (hp _ (aK a)),bK,cM,bR,g,j,bS]
  cases Ei p[i]with
  | true=>exact⟨r,by simp,by simpa using b⟩
  | false=>exact⟨i,by simp,by simp⟩
theorem S3 (p:List Stp)(hp: ∀s∈p,s.fits)(d:p.length<=1099511627776):W F54 0 [.list (p.map Stp.enc)]=some [.bool (Db p)]:=by
 obtain⟨r,e,a⟩:=Ap0 p hp d p.length 0 (by omega)
 have b:W F56 0 [.list (p.map Stp.enc)]=some [.int r]:=by
  rw[Ba9]
  simp only[bX,aD,aA]
  exact e
 rw[Bc7]
 simp only[bX,aD,aA,eP,aR,Bbu,b,bK,fG,a,cM,aP,gU]
 unfold Db
 have:decide ((p.length:Int)<=16)=decide (p.length<=16):=by simp;omega
 rw[this]
 by_cases c:p.length<=16<;>simp[c]
theorem Nn (s:ByteArray)(c:UInt8)(a:s.size<=1000000):W F61 0 [.list (Co s),.int c.toNat]=some [.list (Co (s++bsL [c]))]:=by
 rw[Ba4]
 have h:((Co s).length + [IV.int (c.toNat:Int)].length) * 1<=Bb:=by rw[O.Li];simp;unfold Bb;omega
 simp only[Beo,O.Kn,bK,fI,aA,eL,h,Zt,O.Le]
 rfl
theorem Xa (s t:ByteArray)(a:s.size<=1000000)(b:t.size<=1000000): ∃n,W F64 0 [.list (Co s),.str t]=some [n,.list (Co (s++t))]:=by
 rw[Bbr]
 have h:(Co s).length +t.size<=Bb:=by rw[O.Li];unfold Bb;omega
 simp only[Beo,O.Kn,bK,O.Ak4 h,aA,cS,O.Le]
 exact⟨_,rfl⟩
theorem Asf (s:ByteArray)(c:UInt8)(d:c.toNat<128)(e:s.size<=1000000): ∃n,W F67 0 [.list (Co s),.int c.toNat]=some [n,.list (Co (s++bsL [c]))]:=by
 rw[Bcu]
 have h:((Co s).length + [IV.int (c.toNat:Int)].length) * 1<=Bb:=by rw[O.Li];simp;unfold Bb;omega
 have w1:IntKind.u32.wrap (c.toNat:Int)=c.toNat:=by
  unfold IntKind.wrap
  simp[IntKind.signed,IntKind.bits]
  omega
 have a:IntKind.u8.wrap (c.toNat:Int)=c.toNat:=by
  unfold IntKind.wrap
  simp[IntKind.signed,IntKind.bits]
  omega
 have b:decide ((c.toNat:Int)<=127)=true:=by simp;omega
 simp only[Beo,O.Kn,bK,bX,aA,Bcx,O.Sv,w1,a,eP,b,aR,Zt,fI,eL,h,O.Le,fC]
 exact⟨_,rfl⟩
theorem Atn {c:UInt8}(h:Io c=true):c.toNat<128:=by
 unfold Io at h
 simp at h
 omega
theorem Abd (s:ByteArray)(z:s.size<=200)(x: ∀c∈s.data.toList,Io c=true): ∀ (n i:Nat) (o:ByteArray),i+n=s.size->o.size<=1+2 * i->W F65 1 [.str s,.int i,.list (Co o)]=some [.str (o++bsL ((s.data.toList.drop i).flatMap I5++ [34]))]
 | 0,i,o,h,r=>by
  have t: ¬ i<s.size:=by omega
  have u:s.data.toList.drop i= []:=aF (by simp;omega)
  have w:=Nn o 34 (by omega)
  rw[Aye]
  simp only[O.Uu t,O.T1 t,O.Pm t,aA,aR,aB,Zf]
  rw[show(IV.int 34)=IV.int ((34:UInt8).toNat :Int) from rfl,w]
  simp only[bK,Bap,O.M7,u,cR,bD]
 | n+1,i,o,h,r=>by
  have j:i<s.size:=by omega
  have A:=x s[i] (by rw[show s[i]=s.data.toList[i]'(by simpa using j) from rfl];exact aK _)
  have b:=Atn A
  have next: ∀a:List UInt8,a.length<=2->I5 s[i]=a->W F65 3 [.str s,.int ((i+1:Nat):Int),.list (Co (o++bsL a))]=some [.str (o++bsL ((s.data.toList.drop i).flatMap I5++ [34]))]:=by
   intro a G B
   rw[Bc1]
   rw[Abd s z x n (i+1) _ (by omega) (by rw[aM,Ce];omega),Hz j,cA,B,bH,Gz a,bG]
  rw[Aye]
  simp only[O.Sf j,O.Sm j,O.Mu j,Qg j b,aA,aR,Zt,O.R0,aW]
  have two:s[i].toNat =34\/s[i].toNat =92->W F65 2 [.int s[i].toNat,.int s[i].toNat,.bool true,.str s,.int ((i+1:Nat):Int),.list (Co o)]=some [.str (o++bsL ((s.data.toList.drop i).flatMap I5++ [34]))]:=by
   intro u
   rw[A0q]
   have w:=Nn o 92 (by omega)
   obtain⟨m,q⟩:=Asf (o++bsL [92]) s[i] b (by rw[aM,Ce];simp;omega)
   simp only[aR,Zt]
   rw[show(IV.int 92)=IV.int ((92:UInt8).toNat :Int) from rfl,w]
   simp only[bK,q,fJ]
   rw[bG,<-Gz]
   exact next [92,s[i]] (by simp) (by unfold I5;rw[if_neg (by omega),if_pos u])
  by_cases C:s[i].toNat =34
  ·have d:decide ((s[i].toNat :Int)=34)=true:=by simp;omega
   simp only[d,Zt]
   exact two (.inl C)
  ·have d:decide ((s[i].toNat :Int)=34)=false:=by simp;omega
   simp only[d,aB,Zf]
   by_cases F:s[i].toNat =92
   ·have e:decide ((s[i].toNat :Int)=92)=true:=by simp;omega
    simp only[e]
    exact two (.inr F)
   ·have e:decide ((s[i].toNat :Int)=92)=false:=by simp;omega
    simp only[e]
    rw[A0q]
    simp only[aR,aB,Zf,aW,aA]
    by_cases y:s[i].toNat =10
    ·have g:decide ((s[i].toNat :Int)=10)=true:=by simp;omega
     simp only[g,Zt]
     obtain⟨m,q⟩:=Xa o (bsL [92,110]) (by omega) (by rw[Ce];simp)
     rw[show(ByteArray.mk #[92,110])=bsL [92,110]from rfl]
     simp only[q,fJ]
     exact next [92,110] (by simp) (by unfold I5;rw[if_pos y])
    ·have g:decide ((s[i].toNat :Int)=10)=false:=by simp;omega
     simp only[g,aB,Zf]
     obtain⟨m,q⟩:=Asf o s[i] b (by omega)
     simp only[q,fJ]
     exact next [s[i]] (by simp) (by unfold I5;rw[if_neg y,if_neg (by omega)])
theorem A72 (s:ByteArray)(h:Jq s=true):W F65 0 [.str s]=some [.str (Lq s)]:=by
 have a:=Qa h
 unfold Jq at h
 simp only[aL,bM]at h
 rw[Bbk]
 have b:=Nn Am 34 (by decide)
 rw[show(IV.list [])=IV.list (Co Am) from rfl,show(IV.int 34)=IV.int ((34:UInt8).toNat :Int) from rfl,b]
 simp only[bK,Hl]
 rw[show(IV.int 0)=IV.int ((0:Nat):Int) from rfl,Abd s a h.1 s.size 0 _ (by omega) (by rw[Ce];simp),<-Gz]
 rfl
theorem Ace (p:List Stp)(hp: ∀s∈p,Ei s=true)(A:p.length<=16): ∀ (n i:Nat) (o:ByteArray),i+n=p.length->o.size<=500 * i->W F53 1 [.list (p.map Stp.enc),.int p.length,.int i,.list (Co o)]=some [.str (o++Es (decide (i=0)) (p.drop i)),.int 0]
 | 0,i,o,h,B=>by
  have C: ¬ i<p.length:=by omega
  have F:p.drop i= []:=aF (by omega)
  rw[Avv]
  simp only[aA,bB,Aj,C,Ze,aR,aB,Zf,F,Es,Sl,Bap,O.M7,bK]
 | n+1,i,o,h,B=>by
  have j:i<p.length:=by omega
  have G:=Bd (i:=i) (by omega)
  have d:=hp _ (aK j)
  obtain⟨J,K,w,H,I⟩:=D3 d
  have e: ∀c:UInt8,(bsL [c]).size =1:=λc=>by rw[Ce];rfl
  have next: ∀t:ByteArray,H7 (decide (i=0)) p[i]=t->W F53 3 [.list (p.map Stp.enc),.int p.length,.int i,.list (Co (o++t))]=some [.str (o++Es (decide (i=0)) (p.drop i)),.int 0]:=by
   intro t y
   have q:(H7 (decide (i=0)) p[i]).size <=500:=Ua d
   rw[Bbq]
   simp only[bR,G,aA]
   rw[Ace p hp A n (i+1) (o++t) (by omega) (by rw[aM,<-y];omega),aE j,Es,y,bG]
   rfl
  rw[Avv]
  simp only[aA,bB,Aj,j,Zd,aR,Zt,cC,aH,aG,aJ,aC j,aI,Stp.Bl,Stp.C4,Stp.Ee,Stp.Bz,aW,cT]
  rw[show(ByteArray.mk #[91])=bsL [91]from rfl,show(ByteArray.mk #[93])=bsL [93]from rfl,show(ByteArray.mk #[61])=bsL [61]from rfl,show(IV.int 46)=IV.int ((46:UInt8).toNat :Int) from rfl]
  rcases I with k1 | k2 | g
  ·simp only[k1,Zd,Zt]
   by_cases q:i=0
   ·have a: ¬ (0:Int)<i:=by omega
    obtain⟨m,b⟩:=Xa o p[i].nm (by omega) (by omega)
    simp only[a,Ze,aB,Zf]
    rw[Azb]
    simp only[Stp.C4,aA,b,fJ]
    exact next _ (by unfold H7;rw[if_neg (by omega),if_neg (by omega),if_pos (by simpa using q)])
   ·have a:(0:Int)<i:=by omega
    obtain⟨m,b⟩:=Xa (o++bsL [46]) p[i].nm (by rw[aM,e];omega) (by omega)
    simp only[a,Zd,Zt,Nn o 46 (by omega),bK]
    rw[Azb]
    simp only[Stp.C4,aA,b,fJ,bG]
    exact next _ (by unfold H7;rw[if_neg (by omega),if_neg (by omega),if_neg (by simpa using q)])
  ·obtain⟨x,z⟩:=cQ (w k2).1
   have r:=(w k2).2
   rw[z]at r
   have hd:W F63 0 [.int p[i].ix]=some [.str (fU p[i].ix.toNat)]:=by
    rw[Bjh,z,O.A7b x (by omega)];rfl
   have u:=Tv p[i].ix.toNat
   have k1:decide (p[i].k =1)=false:=by rw[k2];rfl
   simp only[k1,k2,Zd,aB,Zf,Zt,hd,bK]
   rw[Gw (by rw[e];omega) (by omega)]
   simp only[aA]
   rw[Gw (by rw[aM,e];omega) (by rw[e];omega)]
   obtain⟨m,b⟩:=Xa o (bsL [91]++fU p[i].ix.toNat ++bsL [93]) (by omega) (by rw[aM,aM,e,e];omega)
   simp only[aA,b,fJ]
   exact next _ (by unfold H7;rw[if_pos k2])
  ·have hd:=A72 p[i].vl (H g)
   have u:=Rr p[i].vl
   have k1:decide (p[i].k =1)=false:=by rw[g];rfl
   have k2:decide (p[i].k =2)=false:=by rw[g];rfl
   simp only[k1,k2,g,Zd,aB,Zf,Zt]
   rw[Gw (by rw[e];omega) (by omega)]
   simp only[aA]
   rw[Gw (by rw[aM,e];omega) (by rw[e];omega)]
   simp only[aA,hd,bK]
   rw[Gw (by rw[aM,aM,e,e];omega) (by omega)]
   simp only[aA]
   rw[Gw (by rw[aM,aM,aM,e,e];omega) (by rw[e];omega)]
   obtain⟨m,b⟩:=Xa o (bsL [91]++p[i].nm ++bsL [61]++Lq p[i].vl ++bsL [93]) (by omega) (by simp only[aM,e];omega)
   simp only[aA,b,fJ]
   exact next _ (by unfold H7;rw[if_neg (by omega),if_pos g])
theorem Aea (p:List Stp)(hp: ∀s∈p,s.fits)(b:p.length<=1099511627776):W F53 0 [.list (p.map Stp.enc)]=some [.str (Cs p),.int (Apw p)]:=by
 rw[Beq]
 unfold Cs Apw
 cases a:Db p with
 | false=>simp only[S3 p hp b,a,bK,cM,aA,aX,aR,Zt];rfl
 | true=>
  simp only[S3 p hp b,a,bK,cM,aA,aU,aR,aB,Zf,Zt,bX,aD]
  unfold Db at a
  simp only[aL,decide_eq_true_eq,bM]at a
  have:=Ace p a.1 a.2 p.length 0 Am (by omega) (bP _)
  rw[Hl]at this
  exact this
end Go.CT.Sch
namespace Go.CT.Sch
open Go.Proofs
def Aw:Val:=⟨0,0,Am,[],[]⟩
def Ij (o:Option Val):List IV:= [.int (o.getD Aw).k,.int (o.getD Aw).n,.str (o.getD Aw).s,.list ((o.getD Aw).l.map bU),.list ((o.getD Aw).f.map aY),.bool o.isSome]
theorem Kv {n b:Nat}(a:n<=1099511627776)(c:b<=127):n * b<=Bb:=by
 have:n * b<=1099511627776 * 127:=aZ a c
 unfold Bb;omega
theorem Wk {α:Type}(l:List α){i:Nat}(h:i<l.length):l.take i++ [l[i]]=l.take (i+1):=by
 rw[List.take_add_one,aC h];rfl
theorem Yp (v:Val)(j:Gl 1099511627776 v)(m o q b c d e:IV)(r: ∀p∈v.f,W F10 0 [p.2.enc]=some p.2.Ew): ∀ (n i:Nat),i+n=v.f.length->
  W F10 2 [.int i,v.enc,m,o,q,b,c,d,e,.list ((v.f.take i).map aY)]=some [b,c,d,e,.list (v.f.map aY)]
 | 0,i,h=>by
  rw[Avu]
  have t: ¬ i<v.f.length:=by omega
  simp only[cP,aA,bX,aD,bB,Aj,t,Ze,aR,aB,Zf,dN (bE t)]
 | n+1,i,h=>by
  have a:i<v.f.length:=by omega
  have w:=j.N7
  have u:=Bd (i:=i) (by omega)
  have:=Yp v j m o q b c d e r n (i+1) (by omega)
  have g:((v.f.take i).length +1) * 96<=Bb:=Kv (by rw[eQ];omega) (by omega)
  rw[Avu]
  simp only[cP,aA,bX,aD,bB,Aj,a,Zd,aR,Zt,cC,aH,aG,aJ,aC a,aI,dB,dI,r _ (aK a),eF,gM,eU,Fld.Ci,fI,eL,aQ,g,bR,u]
  rw[<-Wk v.f a,cB]at this
  exact this
theorem Ys (v:Val)(o:Gl 1099511627776 v)(b c d e g j:IV)(q: ∀x∈v.l,W F10 0 [x.enc]=some x.Ew): ∀ (n i:Nat),i+n=v.l.length->
  W F10 1 [.int i,v.enc,b,c,d,e,g,j,.list ((v.l.take i).map bU)]=W F10 2 [.int 0,v.enc,b,c,d,e,g,j,.list (v.l.map bU),.list []]
 | 0,i,h=>by
  rw[Axb]
  have r: ¬ i<v.l.length:=by omega
  simp only[cV,aA,bX,aD,bB,Aj,r,Ze,aR,aB,Zf,dN (bE r)]
 | n+1,i,h=>by
  have a:i<v.l.length:=by omega
  have u:=o.Vr
  have t:=Bd (i:=i) (by omega)
  have:=Ys v o b c d e g j q n (i+1) (by omega)
  have m:((v.l.take i).length +1) * 80<=Bb:=Kv (by rw[eQ];omega) (by omega)
  rw[Axb]
  simp only[cV,aA,bX,aD,bB,Aj,a,Zd,aR,Zt,cC,aH,aG,aJ,aC a,aI,q _ (aK a),eF,gM,eU,hC,fI,eL,aQ,m,bR,t]
  rw[<-Wk v.l a,cB]at this
  exact this
theorem R9: ∀v:Val,Gl 1099511627776 v->W F10 0 [v.enc]=some v.Ew:=by
 refine eC λv b c a=>?_
 have d:=Ys v a (.int 0) (.int 0) (.str ⟨#[]⟩) (.int v.k) (.int v.n) (.str v.s) (λx e=>b x e (a.Ll e)) v.l.length 0 (by omega)
 have g:=Yp v a (.int 0) (.int 0) (.str ⟨#[]⟩) (.int v.k) (.int v.n) (.str v.s) (.list (v.l.map bU)) (λp hp=>c p hp (a.J8 hp)) v.f.length 0 (by omega)
 simp only[fK,bO,aN]at d g
 rw[Bco]
 simp only[dQ,gV,gN,aA]
 rw[d,g,eF]
theorem Acg (v:Val)(nm:ByteArray)(d:Gl 1099511627776 v)(e g j:IV): ∀ (n i:Nat),i+n=v.f.length->
  W Bjz 1 [.str nm,.int i,v.enc,e,g,j]=some (Ij (((v.f.drop i).find? λp=>decide (p.1=nm)).map (·.2)))
 | 0,i,h=>by
  rw[Aoa]
  have m: ¬ i<v.f.length:=by omega
  simp[m,aF (bE m),Ij,Aw,Am]
 | n+1,i,h=>by
  have b:i<v.f.length:=by omega
  have q:=d.N7
  have o:=Bd (i:=i) (by omega)
  have:=Acg v nm d e g j n (i+1) (by omega)
  have a:=aK b
  rw[Aoa,aE b]
  simp only[cP,aA,bX,aD,bB,Aj,b,Zd,aR,Zt,cC,aH,aG,aJ,aC b,aI,dB,dI,fV,R9 v.f[i].2 (d.J8 a),eF,gM,bR,o,this,bY]
  by_cases c:v.f[i].1 =nm
  ·simp[c,Ij]
  ·have c':decide (v.f[i].1 =nm)=false:=by simpa using c
   simp only[c,c',Ze,aB,Zf]
theorem Aoq (v:Val)(nm:ByteArray)(a:Gl 1099511627776 v):W Bjz 0 [v.enc,.str nm]=some (Ij (v.get nm)):=by
 rw[A7a]
 unfold fW
 have:=Acg v nm a (.int 0) (.int 0) (.str ⟨#[]⟩) v.f.length 0 (by omega)
 simp only[aP,aN]at this
 simp only[dQ,aA,aW,aR,this]
 by_cases c:v.k=5<;>simp[c,Ij,Aw,Am]
def Dq (v:Val)(nm:ByteArray):List (ByteArray × Val):=if v.k=5 then v.f.filter (λp=> !decide (p.1=nm)) else[]
def Pp (p:ByteArray × Val):Bool->List (ByteArray × Val)->List (ByteArray × Val)
 | done,[]=>if done then[]else[p]
 | done,x::xs=>(if !done && !blt x.1 p.1 then[p]else[])++(if x.1=p.1 then[]else[x])++Pp p (done|| !blt x.1 p.1) xs
theorem Vv (p:ByteArray × Val): ∀ (l:List (ByteArray × Val)) (d:Bool),(Pp p d l).length <=l.length+1
 | [],d=>by cases d<;>simp[Pp]
 | x::xs,true=>by
  simp only[Pp,aU,cD,aB,Zf,bD,cW,aO]
  have:(Pp p true xs).length <=xs.length:=by
   have key: ∀l,(Pp p true l).length <=l.length:=by
    intro l
    induction l with
    | nil=>simp[Pp]
    | cons y ys a=>
     simp only[Pp,aU,cD,aB,Zf,bD,cW,aO,bA]
     split<;>simp<;>omega
   exact key xs
  split<;>simp<;>omega
 | x::xs,false=>by
  have b:=Vv p xs true
  have c:=Vv p xs false
  have key: ∀l,(Pp p true l).length <=l.length:=by
   intro l
   induction l with
   | nil=>simp[Pp]
   | cons y ys a=>
    simp only[Pp,aU,cD,aB,Zf,bD,cW,aO,bA]
    split<;>simp<;>omega
  have e:=key xs
  simp only[Pp,aX,bI,cX,aO,bA]
  cases blt x.1 p.1<;>simp<;>split<;>simp<;>omega
theorem Ahn (l:List (ByteArray × Val))(p:ByteArray × Val)(q:l.length<=549755813888): ∀ (n i:Nat) (d:Bool) (out:List (ByteArray × Val)),i+n=l.length->out.length<=i+d.toNat->
  W F11 1 [.list (l.map aY),.bool d,.int i,aY p,.list (out.map aY)]=some [.list ((out++Pp p d (l.drop i)).map aY)]
 | 0,i,d,out,h,g=>by
  rw[Aw8]
  have j: ¬ i<l.length:=by omega
  have e:=fP d
  have a:(out.length+1) * 96<=Bb:=Kv (by omega) (by omega)
  simp only[aA,bX,aD,bB,Aj,j,Ze,aR,aB,Zf,aF (bE j),Pp,cM,fI,eL,aQ,a,Zt]
  cases d<;>simp
 | n+1,i,d,out,h,g=>by
  have m:i<l.length:=by omega
  have r:=Bd (i:=i) (by omega)
  have e:=fP d
  have a:(out.length+1) * 96<=Bb:=Kv (by omega) (by omega)
  rw[Aw8,aE m,Pp]
  have half: ∀ (b:Bool) (o:List (ByteArray × Val)),o.length<=i+2->
    W F11 2 [.list (l.map aY),.bool b,.int i,aY p,.list (o.map aY)]=W F11 1 [.list (l.map aY),.bool b,.int ((i+1:Nat):Int),aY p,.list ((o++if l[i].1 =p.1 then[]else[l[i]]).map aY)]:=by
   intro b o j
   have a:(o.length+1) * 96<=Bb:=Kv (by omega) (by omega)
   rw[Bel]
   simp only[cC,aH,Zt,aG,aJ,aC m,aI,aA,dB,gL,aR,fI,eL,aD,aQ,a,Bej,bR,r]
   by_cases c:l[i].1 =p.1<;>simp[c]
  have fin: ∀ (b:Bool) (o:List (ByteArray × Val)),o.length<=i+b.toNat->
    W F11 2 [.list (l.map aY),.bool b,.int i,aY p,.list (o.map aY)]=some [.list ((o++(if l[i].1 =p.1 then[]else[l[i]])++Pp p b (l.drop (i+1))).map aY)]:=by
   intro b o j
   have e:=fP b
   rw[half b o (by omega),Ahn l p q n (i+1) b _ (by omega) (by split<;>simp<;>omega)]
  have t:(i:Int)<l.length:=by omega
  simp only[aA,bX,aD,bB,Aj,m,Zd,aR,Zt,cM,dB,cC,aH,aG,aJ,aC m,aI,Zp]
  cases d with
  | true=>
   simp only[aU,aB,Zf,aA,cD,bD,cW]
   rw[fin true out g,bH]
   rfl
  | false=>
   simp only[aX,Zt,aA,bI,cX]
   cases u:blt l[i].1 p.1 with
   | true=>
    simp only[aU,aB,Zf,bD]
    rw[fin false out g,bH]
    rfl
   | false=>
    have:=fin true (out++ [p]) (by simp at g ⊢;omega)
    simp only[cB,bN,bO]at this
    simp only[aX,Zt,fI,aA,eL,aD,aQ,a]
    rw[this]
    simp
theorem Bch (l:List (ByteArray × Val))(p:ByteArray × Val)(a:l.length<=549755813888):W F11 0 [.list (l.map aY),aY p]=some [.list ((Pp p false l).map aY)]:=by
 rw[Bby]
 have:=Ahn l p a l.length 0 false [] (by omega) (by simp)
 simpa using this
def Wb (l:List (ByteArray × Val)):List (ByteArray × Val):=l.foldl (λacc p=>Pp p false acc) []
theorem Aa9 (l:List (ByteArray × Val))(b:Afz 274877906944 l)(g j m c d e:IV): ∀ (n i:Nat) (acc:List (ByteArray × Val)),i+n=l.length->acc.length<=i->
  W F9 1 [.list (l.map aY),.int i,g,j,m,c,d,e,.list (acc.map aY)]=some [c,d,e,.list [],.list (((l.drop i).foldl (λacc p=>Pp p false acc) acc).map aY)]
 | 0,i,acc,h,q=>by
  rw[A9u]
  have o: ¬ i<l.length:=by omega
  simp only[aA,bX,aD,bB,Aj,o,Ze,aR,aB,Zf,aF (bE o),List.foldl_nil]
 | n+1,i,acc,h,q=>by
  have a:i<l.length:=by omega
  have hlen:=b.1
  have r:=Bd (i:=i) (by omega)
  have:=Aa9 l b g j m c d e n (i+1) (Pp l[i] false acc) (by omega) (by have:=Vv l[i] acc false;omega)
  rw[A9u,aE a]
  simp only[aA,bX,aD,bB,Aj,a,Zd,aR,Zt,cC,aH,aG,aJ,aC a,aI,dB,dI,R9 l[i].2 ((b.2 _ (aK a)).mono (by omega)),eF,gM,eU,Fld.Ci,Bch acc l[i] (by omega),bK,bR,r,this,List.foldl_cons]
theorem A6n (l:List (ByteArray × Val))(a:Afz 274877906944 l):W F9 0 [.list (l.map aY)]=some [.int 5,.int 0,.str Am,.list [],.list ((Wb l).map aY)]:=by
 rw[Bhj]
 have:=Aa9 l a (.int 0) (.int 0) (.str ⟨#[]⟩) (.int 5) (.int 0) (.str ⟨#[]⟩) l.length 0 [] (by omega) (by simp)
 simp only[aP,aN,bO]at this
 exact this
theorem J0 (q:ByteArray × Val->Bool): ∀l:List (ByteArray × Val),Cl (l.filter q)<=Cl l
 | []=>by simp
 | p::l=>by
  have:=J0 q l
  rw[bV]
  split
  ·rw[Ca,Ca];omega
  ·rw[Ca];omega
def Ed (v:Val)(nm:ByteArray)(x:Val):Val:=⟨5,0,Am,[],Wb (Dq v nm++ [(nm,x)])⟩
theorem Ra {N:Nat}{v:Val}(h:Gl N v)(nm:ByteArray):Afz N (Dq v nm):=by
 unfold Dq
 split
 ·exact⟨dE (cY _ _) h.N7,λp hp=>h.J8 (bZ.1 hp).1⟩
 ·exact⟨dM _,by simp⟩
theorem Adb (v:Val)(nm:ByteArray)(a:v.Aq<=1099511627776):W Bjz 0 [v.enc,.str nm]=some (Ij (v.get nm)):=Aoq v nm (Cn v (by omega))
end Go.CT.Sch
namespace Go.CT.Sch
open Go.Proofs
theorem Aaw (v:Val)(r:v.Aq<=1099511627776)(e: ∀p∈v.f,W A40 0 [p.2.enc]=some [.int p.2.size]): ∀ (n i c:Nat),i+n=v.f.length->c<=1099511627776->
  W A40 2 [.int c,.int i,v.enc]=some [.int ((c+B9 (v.f.drop i):Nat):Int)]
 | 0,i,c,h,o=>by
  rw[V6]
  have d: ¬ i<v.f.length:=by omega
  simp[d,aF (bE d),B9]
 | n+1,i,c,h,o=>by
  have a:i<v.f.length:=by omega
  have u:=v.Bc
  have g:=Bd (i:=i) (by omega)
  have w:=Ts (aK a)
  have j:=v.Eu
  rw[v.size_eq]at j
  have hd:B9 (v.f.drop i)=v.f[i].2.size +B9 (v.f.drop (i+1)):=by rw[aE a];rfl
  have b:IntKind.i64.wrap ((c:Int)+(v.f[i].2.size :Nat))=((c+v.f[i].2.size :Nat):Int):=by rw[wrap64 (by omega) (by omega)];rfl
  rw[V6]
  simp only[cP,aA,bX,aD,bB,Aj,a,Zd,aR,Zt,cC,aH,aG,aJ,aC a,aI,dI,e _ (aK a),bK,bR,g,b]
  by_cases m:c+v.f[i].2.size <=1099511627776
  ·rw[Aaw v r e n (i+1) _ (by omega) m,hd,dG]
  ·-- larger sums: only the bound differs
   have key: ∀ (n i c:Nat),i+n=v.f.length->c+B9 (v.f.drop i)<=4611686018427387904->W A40 2 [.int c,.int i,v.enc]=some [.int ((c+B9 (v.f.drop i):Nat):Int)]:=by
    intro n
    induction n with
    | zero=>
     intro i c h _
     rw[V6]
     have d: ¬ i<v.f.length:=by omega
     simp[d,aF (bE d),B9]
    | succ n ihn=>
     intro i c h o
     have a:i<v.f.length:=by omega
     have g:=Bd (i:=i) (by omega)
     have hd:B9 (v.f.drop i)=v.f[i].2.size +B9 (v.f.drop (i+1)):=by rw[aE a];rfl
     have b:IntKind.i64.wrap ((c:Int)+(v.f[i].2.size :Nat))=((c+v.f[i].2.size :Nat):Int):=by rw[wrap64 (by omega) (by omega)];rfl
     rw[V6]
     simp only[cP,aA,bX,aD,bB,Aj,a,Zd,aR,Zt,cC,aH,aG,aJ,aC a,aI,dI,e _ (aK a),bK,bR,g,b]
     rw[ihn (i+1) _ (by omega) (by omega),hd,dG]
   have q:B9 (v.f.drop (i+1))<=B9 v.f:=by
    have:=fD (i+1) v.f
    have t:=Nd (v.f.take (i+1)) (v.f.drop (i+1))
    rw[this]at t;omega
   rw[key n (i+1) _ (by omega) (by omega),hd,dG]
theorem Acq (v:Val)(g:v.Aq<=1099511627776)(d: ∀x∈v.l,W A40 0 [x.enc]=some [.int x.size]): ∀ (n i c:Nat),i+n=v.l.length->c+Cz (v.l.drop i)<=4611686018427387904->
  W A40 1 [.int c,.int i,v.enc]=W A40 2 [.int ((c+Cz (v.l.drop i):Nat):Int),.int 0,v.enc]
 | 0,i,c,h,j=>by
  rw[Anf]
  have e: ¬ i<v.l.length:=by omega
  simp[e,aF (bE e),Cz]
 | n+1,i,c,h,j=>by
  have a:i<v.l.length:=by omega
  have o:=v.Bn
  have m:=Bd (i:=i) (by omega)
  have hd:Cz (v.l.drop i)=v.l[i].size +Cz (v.l.drop (i+1)):=by rw[aE a];rfl
  have b:IntKind.i64.wrap ((c:Int)+(v.l[i].size :Nat))=((c+v.l[i].size :Nat):Int):=by rw[wrap64 (by omega) (by omega)];rfl
  rw[Anf]
  simp only[cV,aA,bX,aD,bB,Aj,a,Zd,aR,Zt,cC,aH,aG,aJ,aC a,aI,d _ (aK a),bK,bR,m,b]
  rw[Acq v g d n (i+1) _ (by omega) (by omega),hd,dG]
theorem A1j: ∀v:Val,v.Aq<=1099511627776->W A40 0 [v.enc]=some [.int v.size]:=by
 refine eC λv a b d=>?_
 have i:=v.Eu
 have j:=v.size_eq
 have e:=Acq v d (λx g=>a x g (by have:=eE g;omega)) v.l.length 0 1 (by omega) (by simp only[aP];omega)
 have h:=Aaw v d (λp hp=>b p hp (by have:=dY hp;omega)) v.f.length 0 (1+Cz v.l) (by omega) (by omega)
 simp only[aP,aN]at e h
 rw[A6e]
 have c:W A40 1 [.int 1,.int 0,v.enc]=W A40 2 [.int ((1+Cz v.l:Nat):Int),.int 0,v.enc]:=e
 rw[c,h,j]
theorem Pc (v:Val)(a:v.Aq<=1099511627776):W F194 0 [v.enc]=some [.bool v.valid]:=by
 rw[A3p]
 have b:=Zy 12 v (by omega) a
 have c:=A1j v a
 simp only[aN]at b
 simp only[b,c,bK,aR,eP,aA,fM]
 have:decide ((v.size:Int)<=600)=decide (v.size<=600):=by simp;omega
 cases Cd 12 v<;>simp[this]
theorem Y9 (v:Val)(u:v.Aq<=1099511627776)(q: ∀p∈v.f,∀c d:Int,c<=100000-> -1099511627776<=d->d<=100000-> ∃r:Int,W F4 0 [p.2.enc,.int c,.int d]=some [.int r]/\r<=100000)(d:Int)(hd: -1000000000000<=d/\d<=100000): ∀ (n i:Nat) (c:Int),i+n=v.f.length->c<=100000->
  ∃r:Int,W F4 2 [.int c,.int d,.int i,v.enc]=some [.int r]/\r<=100000
 | 0,i,c,h,e=>by
  rw[A91]
  have w: ¬ i<v.f.length:=by omega
  exact⟨c,by simp[w],e⟩
 | n+1,i,c,h,e=>by
  have a:i<v.f.length:=by omega
  have A:=v.Bc
  have x:=Bd (i:=i) (by omega)
  have g:IntKind.i64.wrap (d - 1)=d - 1:=wrap64 (by omega) (by omega)
  obtain⟨r,y,j⟩:=q _ (aK a) c (d - 1) e (by omega) (by omega)
  obtain⟨z,m,b⟩:=Y9 v u q d hd n (i+1) r (by omega) j
  rw[A91]
  by_cases o:0<=c
  ·by_cases t:(1000:Int)<v.f[i].1.size
   ·exact⟨-1,by simp[a,o,t],by omega⟩
   ·exact⟨z,by simp only[cP,aA,bX,aD,bB,Aj,a,Zd,aR,Zt,fG,o,cC,aH,aG,aJ,aC a,aI,dB,cS,cT,t,Ze,aB,Zf,dI,fC,g,y,bK,bR,x,m],b⟩
  ·exact⟨c,by simp[a,o],e⟩
theorem Xr (v:Val)(t:v.Aq<=1099511627776)(o: ∀x∈v.l,∀c d:Int,c<=100000-> -1099511627776<=d->d<=100000-> ∃r:Int,W F4 0 [x.enc,.int c,.int d]=some [.int r]/\r<=100000)(d:Int)(hd: -1000000000000<=d/\d<=100000): ∀ (n i:Nat) (c:Int),i+n=v.l.length->c<=100000->
  ∃r:Int,W F4 1 [.int c,.int d,.int i,v.enc]=W F4 2 [.int r,.int d,.int 0,v.enc]/\r<=100000
 | 0,i,c,h,b=>by
  rw[A8t]
  have u: ¬ i<v.l.length:=by omega
  exact⟨c,by simp[u],b⟩
 | n+1,i,c,h,b=>by
  have e:i<v.l.length:=by omega
  have A:=v.Bn
  have w:=Bd (i:=i) (by omega)
  have g:IntKind.i64.wrap (d - 1)=d - 1:=wrap64 (by omega) (by omega)
  obtain⟨r,y,j⟩:=o _ (aK e) c (d - 1) b (by omega) (by omega)
  obtain⟨z,m,a⟩:=Xr v t o d hd n (i+1) r (by omega) j
  rw[A8t]
  by_cases q:0<=c
  ·exact⟨z,by simp only[cV,aA,bX,aD,bB,Aj,e,Zd,aR,Zt,fG,q,cC,aH,aG,aJ,aC e,aI,fC,g,y,bK,bR,w,m],a⟩
  ·exact⟨c,by simp[e,q],b⟩
theorem Axa: ∀v:Val,v.Aq<=1099511627776-> ∀c d:Int,c<=100000-> -1099511627776<=d->d<=100000-> ∃r:Int,W F4 0 [v.enc,.int c,.int d]=some [.int r]/\r<=100000:=by
 refine eC λv e g j c d z hd t=>?_
 rw[Bgi]
 by_cases b:c<=0
 ·exact⟨-1,by simp[b],by omega⟩
 ·by_cases h:d<=0
  ·exact⟨-1,by simp[b,h],by omega⟩
  ·by_cases m:(1000:Int)<v.s.size
   ·exact⟨-1,by simp[b,h,m],by omega⟩
   ·have u:IntKind.i64.wrap (c - 1)=c - 1:=wrap64 (by omega) (by omega)
    obtain⟨r,o,w⟩:=Xr v j (λx q=>e x q (by have:=eE q;omega)) d (by omega) v.l.length 0 (c - 1) (by omega) (by omega)
    obtain⟨y,a,i⟩:=Y9 v j (λp hp=>g p hp (by have:=dY hp;omega)) d (by omega) v.f.length 0 r (by omega) w
    simp only[aN]at o a
    exact⟨y,by simp[b,h,m,u,o,a],i⟩
theorem Kr (a b:Bool):W F179 0 [.bool a,.bool b]=some [.int (if a then -1 else if b then 1 else 0)]:=by
 rw[A8e];cases a<;>cases b<;>rfl
theorem Aj4 (a b:Int):(if decide (a<b)=true then(-1:Int) else if decide (b<a)=true then 1 else 0)=0↔a=b:=by
 by_cases c:a<b
 ·simp[c];omega
 ·by_cases d:b<a
  ·simp[c,d];omega
  ·simp[c,d];omega
theorem Awb (a b:ByteArray):(if blt a b=true then(-1:Int) else if blt b a=true then 1 else 0)=0↔a=b:=by
 rcases Kk a b with h | rfl | h
 ·simp[h];exact Kx h
 ·simp[E1]
 ·have:=O5 h
  simp[h,this]
  exact λe=>Kx h e.symm
theorem Bb7 (a b:Val)(u:Gl 1099511627776 a)(t:Gl 1099511627776 b)(w: ∀p∈a.f,∀y:Val,Gl 1099511627776 y-> ∃c:Int,W A8q 0 [p.2.enc,y.enc]=some [.int c]/\(c=0↔p.2=y)): ∀ (n i:Nat) (c:Int),i+n=a.f.length->i<=b.f.length->
  ∃c':Int,W A8q 5 [.int c,.int i,a.enc,b.enc]=some [.int c']/\(c'=0↔c=0/\a.f.drop i=b.f.drop i)
 | n,i,c,h,C=>by
  have F:=u.N7
  have G:=t.N7
  rw[A8b]
  by_cases x:c=0
  ·subst x
   by_cases d:i<a.f.length
   ·by_cases j:i<b.f.length
    ·obtain⟨m,rfl⟩: ∃m,n=m+1:=⟨n - 1,by omega⟩
     have B:=Bd (i:=i) (by omega)
     have q:=aK j
     obtain⟨H,I,J⟩:=w _ (aK d) b.f[i].2 (t.J8 q)
     have z:=Awb a.f[i].1 b.f[i].1
     have hd:(a.f.drop i=b.f.drop i)↔(a.f[i].1 =b.f[i].1 /\a.f[i].2 =b.f[i].2 /\a.f.drop (i+1)=b.f.drop (i+1)):=by
      rw[aE d,aE j]
      simp only[gF,Prod.ext_iff,and_assoc]
     simp only[cP,aA,bX,aD,bB,Aj,d,j,Zd,aR,Zt,aW,cC,aH,aG,aJ,aC d,aC j,aI,dB,dI,Azj,Awu,Kr,bK,hd]
     generalize (if blt a.f[i].1 b.f[i].1 =true then(-1:Int) else if blt b.f[i].1 a.f[i].1 =true then 1 else 0)=o at z
     by_cases r:o=0
     ·obtain⟨c',r1,r2⟩:=Bb7 a b u t w m (i+1) H (by omega) (by omega)
      refine⟨c',by simp only[r,Zd,Zt,I,bK,Aoi,bR,B,aA,r1],?_⟩
      rw[r2,J]
      have:=z.1 r
      simp[this]
     ·obtain⟨c',r1,r2⟩:=Bb7 a b u t w m (i+1) o (by omega) (by omega)
      refine⟨c',by simp only[r,Ze,aB,Zf,Aoi,bR,B,aA,r1],?_⟩
      rw[r2]
      have: ¬ a.f[i].1 =b.f[i].1 :=λe=>r (z.2 e)
      simp[r,this]
    ·have K:i=b.f.length:=by omega
     have L: ¬ a.f.length=b.f.length:=by omega
     refine⟨1,?_,by
      have: ¬ a.f.drop i=b.f.drop i:=λe=>by
       have:=congrArg dC e
       simp at this;omega
      simp[this]⟩
     have M: ¬ (a.f.length:Int)<b.f.length:=by omega
     have A:(b.f.length:Int)<a.f.length:=by omega
     simp[d,j,M,A,Kr]
   ·have K:i=a.f.length:=by omega
    refine⟨_,by simp only[cP,aA,bX,aD,bB,Aj,d,Ze,aR,aB,Zf,aW,Zd,Zt,Kr,bK,cT];rfl,?_⟩
    have e1:a.f.drop i= []:=aF (by omega)
    rw[e1]
    by_cases g:a.f.length=b.f.length
    ·have:b.f.drop i= []:=aF (by omega)
     simp[g,this]
    ·have A:a.f.length<b.f.length:=by omega
     have: ¬ []=b.f.drop i:=λe=>by
      have:=congrArg dC e
      simp at this;omega
     simp[A,this]
  ·refine⟨c,?_,by simp[x]⟩
   by_cases d:i<a.f.length<;>by_cases j:i<b.f.length<;>simp[d,j,x]
theorem Bfp (a b:Val)(t:Gl 1099511627776 a)(o:Gl 1099511627776 b)(u: ∀x∈a.l,∀y:Val,Gl 1099511627776 y-> ∃c:Int,W A8q 0 [x.enc,y.enc]=some [.int c]/\(c=0↔x=y)): ∀ (n i:Nat) (c:Int),i+n=a.l.length->i<=b.l.length->
  ∃c':Int,W A8q 3 [.int c,.int i,a.enc,b.enc]=W A8q 4 [.int c',a.enc,b.enc]/\(c'=0↔c=0/\a.l.drop i=b.l.drop i)
 | n,i,c,h,w=>by
  have z:=t.Vr
  have A:=o.Vr
  rw[A5b]
  by_cases q:c=0
  ·subst q
   by_cases d:i<a.l.length
   ·by_cases j:i<b.l.length
    ·obtain⟨m,rfl⟩: ∃m,n=m+1:=⟨n - 1,by omega⟩
     have B:=Bd (i:=i) (by omega)
     obtain⟨C,F,G⟩:=u _ (aK d) b.l[i] (o.Ll (aK j))
     have hd:(a.l.drop i=b.l.drop i)↔(a.l[i]=b.l[i]/\a.l.drop (i+1)=b.l.drop (i+1)):=by
      rw[aE d,aE j]
      simp only[gF]
     obtain⟨c',r1,r2⟩:=Bfp a b t o u m (i+1) C (by omega) (by omega)
     refine⟨c',by simp only[cV,aA,bX,aD,bB,Aj,d,j,Zd,aR,Zt,aW,cC,aH,aG,aJ,aC d,aC j,aI,F,bK,bR,B,r1],?_⟩
     rw[r2,G,hd];simp
    ·refine⟨1,?_,by
      have: ¬ a.l.drop i=b.l.drop i:=λe=>by
       have:=congrArg dC e
       simp at this;omega
      simp[this]⟩
     have H: ¬ (a.l.length:Int)<b.l.length:=by omega
     have r:(b.l.length:Int)<a.l.length:=by omega
     simp[d,j,H,r,Kr]
   ·have I:i=a.l.length:=by omega
    refine⟨_,by simp only[cV,aA,bX,aD,bB,Aj,d,Ze,aR,aB,Zf,aW,Zd,Zt,Kr,bK,cT];rfl,?_⟩
    have e1:a.l.drop i= []:=aF (by omega)
    rw[e1]
    by_cases g:a.l.length=b.l.length
    ·have:b.l.drop i= []:=aF (by omega)
     simp[g,this]
    ·have r:a.l.length<b.l.length:=by omega
     have: ¬ []=b.l.drop i:=λe=>by
      have:=congrArg dC e
      simp at this;omega
     simp[r,this]
  ·refine⟨c,?_,by simp[q]⟩
   by_cases d:i<a.l.length<;>by_cases j:i<b.l.length<;>simp[d,j,q]
theorem A6q: ∀a:Val,Gl 1099511627776 a-> ∀b:Val,Gl 1099511627776 b-> ∃c:Int,W A8q 0 [a.enc,b.enc]=some [.int c]/\(c=0↔a=b):=by
 refine eC λa q r j b u=>?_
 have w:=λc=>Bfp a b j u (λx y=>q x y (j.Ll y)) a.l.length 0 c (by omega) (dM _)
 have z:=λc=>Bb7 a b j u (λp hp=>r p hp (j.J8 hp)) a.f.length 0 c (by omega) (dM _)
 simp only[aP,aN]at w z
 have h:a=b↔a.k=b.k/\a.n=b.n/\a.s=b.s/\a.l=b.l/\a.f=b.f:=by
  cases a;cases b;simp
 -- from the lists on
 have rest: ∀c:Int,∃c':Int,W A8q 2 [.int c,a.enc,b.enc]=some [.int c']/\(c'=0↔c=0/\a.l=b.l/\a.f=b.f):=by
  intro c
  obtain⟨B,d,g⟩:=w c
  obtain⟨C,r1,r2⟩:=z B
  refine⟨C,by rw[A6f,d,A2q,r1],by rw[r2,g,and_assoc]⟩
 have text: ∀c:Int,∃c':Int,W A8q 1 [.int c,a.enc,b.enc]=some [.int c']/\(c'=0↔c=0/\a.s=b.s/\a.l=b.l/\a.f=b.f):=by
  intro c
  rw[A1n]
  by_cases m:c=0
  ·have F:=Awb a.s b.s
   obtain⟨c',d,g⟩:=rest (if blt a.s b.s=true then(-1:Int) else if blt b.s a.s=true then 1 else 0)
   refine⟨c',by simp only[aW,m,Zd,aA,aR,Zt,gN,Azj,Awu,Kr,bK,d],?_⟩
   rw[g,F];simp[m]
  ·obtain⟨c',d,g⟩:=rest c
   refine⟨c',by simp only[aW,m,Ze,aA,aR,aB,Zf,d],?_⟩
   rw[g];simp[m]
 rw[A1w]
 have t:=Aj4 a.k b.k
 have A:=Aj4 a.n b.n
 simp only[dQ,gV,aA,bB,cT,Kr,bK,aW,aR]
 generalize (if decide (a.k<b.k)=true then(-1:Int) else if decide (b.k<a.k)=true then 1 else 0)=o at t
 generalize (if decide (a.n<b.n)=true then(-1:Int) else if decide (b.n<a.n)=true then 1 else 0)=G at A
 by_cases i:o=0
 ·obtain⟨c',d,g⟩:=text G
  refine⟨c',by simp only[i,Zd,Zt,d],?_⟩
  rw[g,A,h]
  have:=t.1 i
  simp[this]
 ·obtain⟨c',d,g⟩:=text o
  refine⟨c',by simp only[i,Ze,aB,Zf,d],?_⟩
  rw[g,h]
  have: ¬ a.k=b.k:=λe=>i (t.2 e)
  simp[i,this]
open Classical in
theorem Aub (a b:Val)(ha:Gl 1099511627776 a)(hb:Gl 1099511627776 b):W Bje 0 [a.enc,b.enc]=some [.bool (decide (a=b))]:=by
 obtain⟨c,h1,h2⟩:=A6q a ha b hb
 rw[A5h]
 simp only[h1,bK,aW,aA]
 congr 3
 simp only[h2]
open Classical in
theorem Agb (a b:Val)(ha:a.Aq<=1099511627776)(hb:b.Aq<=1099511627776):W Bje 0 [a.enc,b.enc]=some [.bool (decide (a=b))]:=Aub a b (Cn a (by omega)) (Cn b (by omega))
end Go.CT.Sch
namespace Go.CT.Sch
open Go.Proofs
def A05 (x y:ByteArray × Val):Bool:=blt x.1 y.1
theorem cmpB: ∀ (a b:List UInt8),decide (Lib.compareBytes a b<0)=Op.bytesLess a b
 | [],[]=>rfl
 | [],_::_=>by simp[Lib.compareBytes,Op.bytesLess]
 | _::_,[]=>by simp[Lib.compareBytes,Op.bytesLess]
 | a::x,b::y=>by
  simp only[Lib.compareBytes,Op.bytesLess]
  by_cases c:a<b
  ·simp[c]
  ·by_cases d:b<a
   ·have: ¬ a=b:=λe=>by subst e;exact c d
    simp[c,d,this]
   ·have:a=b:=by
     have g: ¬ a.toNat<b.toNat:=λh=>c (fE.2 h)
     have i: ¬ b.toNat<a.toNat:=λh=>d (fE.2 h)
     exact gG.1 (by omega)
    subst this
    simp[c,cmpB x y]
theorem fcmp (x y:ByteArray × Val): ∃c:Int,W F41 0 [aY x,aY y]=some [.int c]/\(decide (c<0)=A05 x y):=by
 refine⟨Lib.compareBytes x.1.data.toList y.1.data.toList,?_,cmpB _ _⟩
 rw[Bbf]
 simp[Ay0,Az7,Bgp,O.Qe]
theorem ford:Srt.Ord A05 where
 irr x:=E1 _
 tr x y z h k:=Hh h k
 neg x y z h:=by
  rcases Kk x.1 y.1 with a | a | a
  ·exact .inl a
  ·right;unfold A05 at h ⊢;rw[<-a];exact h
  ·right;exact Hh a h
noncomputable def feqs:Srt.Eqs aY A05 6 true where
 S b xs:=W F38 b xs
 B b xs:=W F39 b xs
 I b xs:=W F40 b xs
 M b xs:=W F45 b xs
 R b xs:=W F46 b xs
 X b xs:=W F47 b xs
 C xs:=W F41 0 xs
 cmp:=fcmp
 s0:=by intros;exact Ty rfl (by kernel_rfl)
 b0:=by intros;exact Ty rfl (by kernel_rfl)
 b1:=by intros;exact Ty rfl (by kernel_rfl)
 b2:=by intros;exact Ty rfl (by kernel_rfl)
 b3:=by intros;exact Ty rfl (by kernel_rfl)
 b4:=by intros;exact Ty rfl (by kernel_rfl)
 i0:=by intros;exact Ty rfl (by kernel_rfl)
 i1:=by intros;exact Ty rfl (by kernel_rfl)
 i2:=by intros;exact Ty rfl (by kernel_rfl)
 x0:=by intros;exact Ty rfl (by kernel_rfl)
 x1:=by intros;exact Ty rfl (by kernel_rfl)
 r0:=by intros;exact Ty rfl (by kernel_rfl)
 r1:=by intros;exact Ty rfl (by kernel_rfl)
 r2:=by intros;exact Ty rfl (by kernel_rfl)
 m0:=by intros;exact Ty rfl (by kernel_rfl)
 m1:=by intros;exact Ty rfl (by kernel_rfl)
 m2:=by intros;exact Ty rfl (by kernel_rfl)
 m3:=by intros;exact Ty rfl (by kernel_rfl)
 m4:=by intros;exact Ty rfl (by kernel_rfl)
 m5:=by intros;exact Ty rfl (by kernel_rfl)
 m6:=by intros;exact Ty rfl (by kernel_rfl)
 m7:=by intros;exact Ty rfl (by kernel_rfl)
 m8:=by intros;exact Ty rfl (by kernel_rfl)
 m9:=by intros;exact Ty rfl (by kernel_rfl)
 m10:=by intros;exact Ty rfl (by kernel_rfl)
 m11:=by intros;exact Ty rfl (by kernel_rfl)
end Go.CT.Sch
namespace Go.CT.Sch
open Go.Proofs
theorem Dw {l:List IV}(h:l.length<=1073741824):O.Il [.list l]=some [.list l]:=if_pos h
theorem Uz (v:Val)(j:Gl 1073741824 v)(c d e m o q g:IV)(r: ∀p∈v.f,W F48 0 [p.2.enc]=some p.2.Ew): ∀ (n i:Nat),i+n=v.f.length->
  W F48 2 [.int v.f.length,.int i,c,d,e,m,o,q,.list (v.f.map aY),g]=some [c,d,e,g,.list (v.f.map aY)]
 | 0,i,h=>by
  rw[Avo]
  have t: ¬ i<v.f.length:=by omega
  simp only[bB,Aj,t,Ze,aA,aR,aB,Zf]
 | n+1,i,h=>by
  have b:i<v.f.length:=by omega
  have y:=j.N7
  have u:=Bd (i:=i) (by omega)
  have:=Uz v j c d e m o q g r n (i+1) (by omega)
  have a:O.setAt 1 5 true false (.list (v.f.map aY)) (.int i) v.f[i].2.enc =some (.list (v.f.map aY)):=by
   have w:(v.f.map aY)[i]?=some (aY v.f[i]):=by rw[aJ,aC b];rfl
   have z:(v.f.map aY).set i (aY v.f[i])=v.f.map aY:=by
    rw[<-List.map_set,fF]
   unfold O.setAt
   simp only[dD,aH,Zt,aG,w,aB,Zf]
   rw[v.f[i].2.Eg]
   simp only[aY]
   have x:v.f[i].2.Ew.length =5:=rfl
   simp only[x,Zt]
   congr 2
  rw[Avo]
  simp only[bB,Aj,b,Zd,aA,aR,Zt,cC,aH,aG,aJ,aC b,aI,dI,r _ (aK b),eF,gM,eU,hC,a,bR,u,this]
theorem U9 (v:Val)(c:Gl 1073741824 v)(d e g j m o:IV)(q: ∀x∈v.l,W F48 0 [x.enc]=some x.Ew): ∀ (n i:Nat),i+n=v.l.length->
  W F48 1 [.int v.l.length,.int i,d,e,g,.list (v.f.map aY),j,m,o,.list (v.l.map bU)]=W F48 2 [.int v.f.length,.int (0:Nat),d,e,g,j,m,o,.list (v.f.map aY),.list (v.l.map bU)]
 | 0,i,h=>by
  rw[Au9]
  have r: ¬ i<v.l.length:=by omega
  have w:=c.N7
  have t:(v.f.map aY).length <=1073741824:=by rw[aD];omega
  simp only[bB,Aj,r,Ze,aA,aR,aB,Zf,A5k,Dw t,bK,bX,aD]
  rfl
 | n+1,i,h=>by
  have b:i<v.l.length:=by omega
  have y:=c.Vr
  have u:=Bd (i:=i) (by omega)
  have:=U9 v c d e g j m o q n (i+1) (by omega)
  have a:O.setAt 0 5 true true (.list (v.l.map bU)) (.int i) v.l[i].enc =some (.list (v.l.map bU)):=by
   rw[show(IV.list (v.l.map bU))=dR bU v.l from rfl,Srt.Atw bU b,fF]
  rw[Au9]
  simp only[bB,Aj,b,Zd,aA,aR,Zt,cC,aH,aG,aJ,aC b,aI,q _ (aK b),eF,gM,eU,hC,a,bR,u,this]
theorem Up: ∀v:Val,Gl 1073741824 v->W F48 0 [v.enc]=some v.Ew:=by
 refine eC λv b c a=>?_
 have d:=U9 v a (.int v.k) (.int v.n) (.str v.s) (.int 0) (.int 0) (.str ⟨#[]⟩) (λx e=>b x e (a.Ll e)) v.l.length 0 (by omega)
 have g:=Uz v a (.int v.k) (.int v.n) (.str v.s) (.int 0) (.int 0) (.str ⟨#[]⟩) (.list (v.l.map bU)) (λp hp=>c p hp (a.J8 hp)) v.f.length 0 (by omega)
 rw[g]at d
 rw[Bdz]
 have i:=a.Vr
 have h:(v.l.map bU).length <=1073741824:=by rw[aD];omega
 simp only[dQ,gV,gN,cV,cP,aA,Bfs,Dw h,bK,bX,aD]
 rw[eF]
 exact d
theorem Lv (l:List Val)(b:l.length<=1073741824)(a: ∀x∈l,Gl 1073741824 x):W F94 0 [.list (l.map bU)]=some (Val.Ew ⟨4,0,Am,l,[]⟩):=by
 rw[Bdi]
 have h:=Up ⟨4,0,Am,l,[]⟩ (.mk _ b (dM _) a (by simp))
 have e:IV.agg [.int 4,.int 0,.str ⟨#[]⟩,.list (l.map bU),.list []]=bU ⟨4,0,Am,l,[]⟩:=by
  rw[<-Val.fold];rfl
 simp only[eU,aA,e,h,eF,gM]
theorem Ac6 (l:List Val)(b:Ds l<=4294967200):W F94 0 [.list (l.map bU)]=some (Val.Ew ⟨4,0,Am,l,[]⟩):=
 Lv l (by have:=Mx l;omega) λx a=>Cn x (by
  have:x.Aq<=Ds l:=Gs (fN a)
  omega)
theorem Abb (v:Val)(nm:ByteArray)(d:Gl 1073741824 v)(e g j:IV): ∀ (n i:Nat),i+n=v.f.length->
  W F75 1 [.str nm,.list (v.f.map aY),.int v.f.length,.int i,e,g,j]=some (Ij (((v.f.drop i).find? λp=>decide (p.1=nm)).map (·.2)))
 | 0,i,h=>by
  rw[Av4]
  have m: ¬ i<v.f.length:=by omega
  simp[m,aF (bE m),Ij,Aw,Am]
 | n+1,i,h=>by
  have b:i<v.f.length:=by omega
  have q:=d.N7
  have o:=Bd (i:=i) (by omega)
  have:=Abb v nm d e g j n (i+1) (by omega)
  have a:=aK b
  rw[Av4,aE b]
  simp only[bB,Aj,b,Zd,aA,aR,Zt,cC,aH,aG,aJ,aC b,aI,dB,dI,fV,Up v.f[i].2 (d.J8 a),eF,gM,bR,o,this,bY]
  by_cases c:v.f[i].1 =nm
  ·simp[c,Ij]
  ·have c':decide (v.f[i].1 =nm)=false:=by simpa using c
   simp only[c,c',Ze,aB,Zf]
theorem A4j (v:Val)(nm:ByteArray)(a:Gl 1073741824 v):W F75 0 [v.enc,.str nm]=some (Ij (v.get nm)):=by
 rw[Bdf]
 unfold fW
 have:=Abb v nm a (.int 0) (.int 0) (.str ⟨#[]⟩) v.f.length 0 (by omega)
 simp only[aP,aN]at this
 simp only[dQ,cP,aA,aW,aR,bX,aD,this]
 by_cases c:v.k=5<;>simp[c,Ij,Aw,Am]
end Go.CT.Sch
namespace Go.CT.Sch
open Go.Proofs
def Im (nm:ByteArray)(p:ByteArray × Val):Bool:= !decide (p.1=nm)
def dedup:List (ByteArray × Val)->List (ByteArray × Val)
 | []=> []
 | [p]=> [p]
 | p::q::r=>if q.1=p.1 then dedup (q::r) else p::dedup (q::r)
def C3 (l:List (ByteArray × Val)):Prop:=l.Pairwise λa b=>blt a.1 b.1=true
def isName (nm:ByteArray)(p:ByteArray × Val):Bool:=decide (p.1=nm)
def look (nm:ByteArray)(l:List (ByteArray × Val)):Option (ByteArray × Val):=(l.filter (isName nm)).getLast?
theorem Xm: ∀ (l:List (ByteArray × Val)) (p:ByteArray × Val),p∈dedup l->p∈l
 | [],p,h=>h
 | [_],p,h=>h
 | a::b::r,p,h=>by
  simp only[dedup]at h
  split at h
  ·exact cO _ (Xm (b::r) p h)
  ·rcases bJ.1 h with rfl | h
   ·simp
   ·exact cO _ (Xm (b::r) p h)
theorem Ahu {x y:ByteArray}(h:blt y x=false)(b: ¬ y=x):blt x y=true:=by
 rcases Kk x y with a | a | a
 ·exact a
 ·exact absurd a.symm b
 ·rw[h]at a;cases a
theorem Agu {x y z:ByteArray}(h:blt x y=true)(b:blt z y=false):blt x z=true:=by
 rcases Kk y z with a | a | a
 ·exact Hh h a
 ·rw[<-a];exact h
 ·rw[b]at a;cases a
theorem Vb: ∀l:List (ByteArray × Val),Srt.C7 A05 l->C3 (dedup l)
 | [],_=>cZ
 | [_],_=>cF _ _
 | a::b::r,h=>by
  have d:=bF.1 h
  have i:=Vb (b::r) d.2
  simp only[dedup]
  split
  ·exact i
  ·next e=>
   refine bF.2 ⟨λy g=>?_,i⟩
   have c:blt a.1 b.1=true:=Ahu (d.1 b (by simp)) e
   rcases bJ.1 (Xm _ _ g) with rfl | g
   ·exact c
   ·exact Agu c ((bF.1 d.2).1 y g)
theorem Pl (nm:ByteArray)(p:ByteArray × Val)(l:List (ByteArray × Val)):look nm (p::l)=(look nm l).or (if p.1=nm then some p else none):=by
 unfold look
 rw[bV]
 by_cases c:p.1=nm
 ·rw[if_pos (by simp[isName,c]),if_pos c]
  generalize l.filter (isName nm)=m
  cases m with
  | nil=>rfl
  | cons b r=>
   rw[List.getLast?_cons_cons]
   cases h:(b::r).getLast? with
   | none=>simp at h
   | some x=>rfl
 ·rw[if_neg (by simp[isName,c]),if_neg c,gO]
theorem Acf (nm:ByteArray): ∀l:List (ByteArray × Val),look nm (dedup l)=look nm l
 | []=>rfl
 | [_]=>rfl
 | a::b::r=>by
  have g:=Acf nm (b::r)
  simp only[dedup]
  split
  ·next e=>
   rw[g,Pl nm a (b::r),Pl nm b r]
   by_cases c:b.1=nm
   ·have d:a.1=nm:=by rw[<-e];exact c
    simp only[c,d,Zt]
    cases look nm r<;>rfl
   ·have d: ¬ a.1=nm:=by rw[<-e];exact c
    simp only[d,Zf,gO]
  ·rw[Pl nm a,g,Pl nm a]
theorem Ly {l:List (ByteArray × Val)}(h:C3 l)(p:ByteArray × Val):p∈l↔look p.1 l=some p:=by
 induction l with
 | nil=>simp[look]
 | cons a l g=>
  have d:=bF.1 h
  rw[Pl,bJ,g d.2]
  by_cases c:a.1=p.1
  ·have i:look p.1 l=none:=by
    unfold look
    rw[List.getLast?_eq_none_iff,eV]
    intro y j b
    simp only[isName,decide_eq_true_eq]at b
    have:=d.1 y j
    rw[c,b,E1]at this
    cases this
   simp[i,c,eq_comm]
  ·have: ¬ p=a:=λe=>c (by rw[e])
   simp[c,this]
theorem As8 {a b:List (ByteArray × Val)}(j:C3 a)(m:C3 b)(h: ∀p,p∈a↔p∈b):a=b:=by
 induction a generalizing b with
 | nil=>
  cases b with
  | nil=>rfl
  | cons y b=>have:=(h y).2 (by simp);simp at this
 | cons x a o=>
  cases b with
  | nil=>have:=(h x).1 (by simp);simp at this
  | cons y b=>
   have c:=bF.1 j
   have d:=bF.1 m
   have g:x=y:=by
    rcases bJ.1 ((h x).1 (by simp)) with e | q
    ·exact e
    ·rcases bJ.1 ((h y).2 (by simp)) with e | r
     ·exact e.symm
     ·have t:=d.1 x q
      have i:=c.1 y r
      rw[O5 t]at i;cases i
   subst g
   rw[o c.2 d.2]
   intro p
   have:=h p
   simp only[bJ]at this
   constructor
   ·intro hp
    rcases this.1 (.inr hp) with rfl | h
    ·have:=c.1 p hp;rw[E1]at this;cases this
    ·exact h
   ·intro hp
    rcases this.2 (.inr hp) with rfl | h
    ·have:=d.1 p hp;rw[E1]at this;cases this
    ·exact h
theorem Ol {a b:List (ByteArray × Val)}(c:C3 a)(d:C3 b)(h: ∀nm,look nm a=look nm b):a=b:=
 As8 c d λp=>by rw[Ly c,Ly d,h]
theorem Ajc (p:ByteArray × Val): ∀l,Pp p true l=l.filter (Im p.1)
 | []=>rfl
 | x::xs=>by
  simp only[Pp,aU,cD,aB,Zf,bD,cW,Ajc p xs,bV,Im]
  by_cases c:x.1=p.1<;>simp[c]
theorem Adi (p x:ByteArray × Val)(xs:List (ByteArray × Val))(h:blt x.1 p.1=false):Pp p false (x::xs)=p::(x::xs).filter (Im p.1):=by
 simp only[Pp,h,aX,Bool.and_self,Zt,eD,Ajc,bV,Im]
 by_cases c:x.1=p.1<;>simp[c]
theorem Adj (p x:ByteArray × Val)(xs:List (ByteArray × Val))(h:blt x.1 p.1=true):Pp p false (x::xs)=x::Pp p false xs:=by
 have a: ¬ x.1=p.1:=Kx h
 simp[Pp,h,a]
theorem Asc (p:ByteArray × Val): ∀ (l:List (ByteArray × Val)) (y:ByteArray × Val),y∈Pp p false l->y=p\/y∈l
 | [],y,h=>by simp[Pp]at h;exact .inl h
 | x::xs,y,h=>by
  cases a:blt x.1 p.1 with
  | true=>
   rw[Adj p x xs a]at h
   rcases bJ.1 h with rfl | h
   ·simp
   ·rcases Asc p xs y h with h | h
    ·exact .inl h
    ·exact .inr (cO _ h)
  | false=>
   rw[Adi p x xs a]at h
   rcases bJ.1 h with rfl | h
   ·simp
   ·exact .inr (bZ.1 h).1
theorem Wo (p:ByteArray × Val): ∀l:List (ByteArray × Val),C3 l->C3 (Pp p false l)
 | [],_=>cF _ _
 | x::xs,h=>by
  have c:=bF.1 h
  cases b:blt x.1 p.1 with
  | true=>
   rw[Adj p x xs b]
   refine bF.2 ⟨λy a=>?_,Wo p xs c.2⟩
   rcases Asc p xs y a with rfl | a
   ·exact b
   ·exact c.1 y a
  | false=>
   rw[Adi p x xs b]
   refine bF.2 ⟨λy a=>?_,h.sublist List.filter_sublist⟩
   obtain⟨a,e⟩:=bZ.1 a
   have d: ¬ y.1=p.1:=by simpa [Im]using e
   refine Ahu ?_ d
   rcases bJ.1 a with rfl | a
   ·exact b
   ·cases g:blt y.1 p.1 with
    | false=>rfl
    | true=>have:=Hh (c.1 y a) g;rw[b]at this;cases this
theorem Yc (p:ByteArray × Val)(nm:ByteArray): ∀l:List (ByteArray × Val),(Pp p false l).filter (isName nm)=if p.1=nm then[p]else l.filter (isName nm)
 | []=>by by_cases c:p.1=nm<;>simp[Pp,isName,c]
 | x::xs=>by
  cases a:blt x.1 p.1 with
  | true=>
   have b:=Kx a
   rw[Adj p x xs a,bV,Yc p nm xs,bV]
   by_cases c:p.1=nm
   ·have: ¬ x.1=nm:=by rw[<-c];exact b
    simp[c,isName,this]
   ·simp[c]
  | false=>
   rw[Adi p x xs a,bV,List.filter_filter]
   by_cases c:p.1=nm
   ·rw[if_pos (by simp[isName,c]),if_pos c]
    congr 1
    rw[eV]
    intro y _ g
    simp[Im,isName,c]at g
   ·rw[if_neg (by simp[isName,c]),if_neg c]
    refine List.filter_congr λy _=>?_
    by_cases d:y.1=nm
    ·have: ¬ nm=p.1:=λe=>c e.symm
     simp[Im,isName,d,this]
    ·simp[isName,d]
theorem Xx (l:List (ByteArray × Val))(p:ByteArray × Val):Wb (l++ [p])=Pp p false (Wb l):=by
 unfold Wb;rw[List.foldl_append];rfl
theorem Aco (l:List (ByteArray × Val)): ∀n,l.length=n->C3 (Wb l)/\ ∀nm,look nm (Wb l)=look nm l:=by
 intro n
 induction n generalizing l with
 | zero=>intro h;have:=aV.1 h;subst this;exact⟨cZ,λ_=>rfl⟩
 | succ n a=>
  intro h
  rcases Srt.Hj l with rfl | ⟨b,p,rfl⟩
  ·simp at h
  ·obtain⟨d,e⟩:=a b (by simpa using h)
   rw[Xx]
   refine⟨Wo p _ d,λnm=>?_⟩
   unfold look
   rw[Yc,eG]
   by_cases c:p.1=nm
   ·simp[c,isName]
   ·have:=e nm
    unfold look at this
    simp[c,isName]at this ⊢
    exact this
theorem Kb (l:List (ByteArray × Val)):C3 (Wb l):=(Aco l _ rfl).1
theorem Ss (nm:ByteArray)(l:List (ByteArray × Val)):look nm (Wb l)=look nm l:=(Aco l _ rfl).2 nm
theorem Awx {l:List (ByteArray × Val)}(h:C3 l):Wb l=l:=Ol (Kb l) h λnm=>Ss nm l
theorem A6l {l:List (ByteArray × Val)}{p:ByteArray × Val}(h:p∈Wb l):p∈l:=by
 rw[Ly (Kb l),Ss]at h
 unfold look at h
 exact(bZ.1 (List.mem_of_getLast? h)).1
theorem A68 (k y:ByteArray × Val):hG A05 k y=isName k.1 y:=by
 unfold hG isName A05
 rcases Kk k.1 y.1 with h | h | h
 ·have:=Kx h
  rw[h]
  simp only[aU,cD]
  symm;simpa using λe=>this e.symm
 ·rw[h,E1];simp
 ·have:=Kx h
  rw[h]
  simp[this]
theorem Acr {l r:List (ByteArray × Val)}(a:Srt.C7 A05 r)(b:Srt.Ky A05 l r):dedup r=Wb l:=by
 refine Ol (Vb r a) (Kb l) λnm=>?_
 rw[Acf,Ss]
 have:=b.2 (nm,Aw)
 have e:hG A05 (nm,Aw)=isName nm:=funext λy=>A68 _ y
 rw[e]at this
 unfold look
 rw[this]
end Go.CT.Sch
namespace Go.CT.Sch
open Go.Proofs
theorem Zm (p:ByteArray × Val): ∀l,Cl (Pp p false l)<=Cl l+Cl [p]
 | []=>by simp[Pp,Ck]
 | x::xs=>by
  cases a:blt x.1 p.1 with
  | true=>
   have:=Zm p xs
   rw[Adj p x xs a,Ca,Ca x xs];omega
  | false=>
   have:=J0 (Im p.1) (x::xs)
   rw[Adi p x xs a,Ca,Ca p [],Ck];omega
theorem Q7 (l:List (ByteArray × Val)):Cl (Wb l)<=Cl l:=by
 have: ∀n (l:List (ByteArray × Val)),l.length=n->Cl (Wb l)<=Cl l:=by
  intro n
  induction n with
  | zero=>intro l h;have:=aV.1 h;subst this;exact bP _
  | succ n b=>
   intro l h
   rcases Srt.Hj l with rfl | ⟨a,p,rfl⟩
   ·simp at h
   ·have c:=b a (by simpa using h)
    have d:=Zm p (Wb a)
    rw[Xx,Iw];omega
 exact this _ l rfl
def A4o (l:List (ByteArray × Val)):Val:=⟨5,0,Am,[],Wb l⟩
theorem Awh (l:List (ByteArray × Val)):(A4o l).Aq <=6+Cl l:=by
 have:=Q7 l
 rw[hB]
 simp only[A4o,hI,Val.Z2,hJ,En,show Am.size=0 from rfl];omega
theorem Qd (r:List (ByteArray × Val))(w:r.length<=1099511627775)(q t u:IV): ∀ (n i:Nat) (acc:List (ByteArray × Val)),i+n=r.length->acc.length<=i->Afz 1073741824 (acc++dedup (r.drop i))->
  W F36 1 [.int r.length,.int i,q,t,u,dR aY r,.int 5,.int 0,.str ⟨#[]⟩,.list (acc.map aY)]=some (Val.Ew ⟨5,0,Am,[],acc++dedup (r.drop i)⟩)
 | 0,i,acc,h,y,b=>by
  rw[Bhp]
  have z: ¬ i<r.length:=by omega
  have A:r.drop i= []:=aF (by omega)
  rw[A]at b ⊢
  rw[show dedup []= []from rfl,bL]at b
  have B:=Up ⟨5,0,Am,[],acc⟩ (.mk _ (dM _) b.1 (by simp) b.2)
  have e:IV.agg [.int 5,.int 0,.str ⟨#[]⟩,.list [],.list (acc.map aY)]=bU ⟨5,0,Am,[],acc⟩:=by
   rw[<-Val.fold];rfl
  simp only[bB,Aj,z,Ze,aA,aR,aB,Zf,eU,e,B,eF,gM,dedup,bL]
 | n+1,i,acc,h,y,b=>by
  have j:i<r.length:=by omega
  have x:=Bd (i:=i) (by omega)
  have m:(acc.length+1) * 96<=Bb:=Kv (by omega) (by omega)
  have gi:=dU aY (aC j)
  rw[Bhp]
  have hd:=aE j
  by_cases c:i+1=r.length
  ·have c':((i+1:Nat):Int)=(r.length:Int):=by omega
   have e1:r.drop (i+1)= []:=aF (by omega)
   have g:=Qd r w q t u n (i+1) (acc++ [r[i]]) (by omega) (by simp;omega) (by
    rw[e1];rw[hd,e1]at b
    simpa [dedup]using b)
   simp only[e1,cB,bN,bO]at g
   rw[hd,e1]
   simp only[bB,Aj,j,Zd,aA,aR,Zt,gi,bR,x,cG,aW,c',fI,eL,aD,aQ,m,Aka]
   rw[c']at g
   rw[g]
   simp[dedup]
  ·have o:i+1<r.length:=by omega
   have c': ¬ ((i+1:Nat):Int)=(r.length:Int):=by omega
   have gi2:=dU aY (aC o)
   have a:=aE o
   by_cases d:r[i+1].1 =r[i].1
   ·have g:=Qd r w q t u n (i+1) acc (by omega) (by omega) (by
     rw[hd,a]at b;rw[a]
     simp only[dedup,d,Zt]at b
     exact b)
    rw[a]at g
    rw[hd,a]
    simp only[bB,Aj,j,Zd,aA,aR,Zt,gi,bR,x,cG,aW,c',Ze,aB,Zf,gi2,dB,gL,d,aU,Aka,dedup,g]
   ·have g:=Qd r w q t u n (i+1) (acc++ [r[i]]) (by omega) (by simp;omega) (by
     rw[hd,a]at b;rw[a]
     simp only[dedup,d,Zf]at b
     simpa using b)
    rw[a]at g
    simp only[cB,bN,bO,bH,dP]at g
    rw[hd,a]
    simp only[bB,Aj,j,Zd,aA,aR,Zt,gi,bR,x,cG,aW,c',Ze,aB,Zf,gi2,dB,gL,d,aX,fI,eL,aD,aQ,m,Aka,dedup,g]
theorem Aq2 (l:List (ByteArray × Val)):(Wb l).length <=l.length:=by
 have: ∀n (l:List (ByteArray × Val)),l.length=n->(Wb l).length <=n:=by
  intro n
  induction n with
  | zero=>intro l h;have:=aV.1 h;subst this;exact bP _
  | succ n b=>
   intro l h
   rcases Srt.Hj l with rfl | ⟨a,p,rfl⟩
   ·simp at h
   ·have c:=b a (by simpa using h)
    have d:=Vv p (Wb a) false
    rw[Xx];omega
 exact this _ l rfl
theorem Ahz {N:Nat}{l:List (ByteArray × Val)}(h:Afz N l):Afz N (Wb l):=
 ⟨dE (Aq2 l) h.1,λp hp=>h.2 p (A6l hp)⟩
theorem Adv (l:List (ByteArray × Val))(c:Afz 1073741824 l):W F36 0 [.list (l.map aY)]=some (A4o l).Ew :=by
 have i:=c.1
 obtain⟨r,d,a,g⟩:=Srt.sort ford feqs l (by omega)
 have h:(l.map aY).length <=1073741824:=by rw[aD];omega
 rw[Bde]
 have b:W F38 0 [.list (l.map aY)]=some [dR aY r]:=g
 have hlen:r.length=l.length:=a.1.symm
 have e:=Qd r (by omega) (.int 0) (.int 0) (.str ⟨#[]⟩) r.length 0 [] (by omega) (by simp) (by
  rw[aP,bD,Acr d a];exact Ahz c)
 simp only[aP,aN,bO,bD,Acr d a]at e
 simp only[A5k,Dw h,bK,b,cG,aA]
 exact e
theorem Avw (l:List (ByteArray × Val))(a:Cl l<=4294967200):W F36 0 [.list (l.map aY)]=some (A4o l).Ew :=Adv l (Aul (by omega))
end Go.CT.Sch
namespace Go.CT.Sch
open Go.Proofs
theorem Hq {β:Type}{a b c d e g:IV}{f:IV->IV->IV->IV->IV->IV->Option β} :calls (some [a,b,c,d,e,g]) 6 f=f a b c d e g:=rfl
def Bj:Sch:=⟨0,0,0,[],Am,[],[]⟩
def Qq:SFld:=⟨Am,false,false,[],Bj⟩
theorem Mr:IV.agg [.int 0,.int 0,.int 0,.list [],.str ⟨#[]⟩,.list [],.list []]=Bj.enc:=rfl
theorem Ach:IV.agg [.str ⟨#[]⟩,.bool false,.bool false,.list [],.int 0,.int 0,.int 0,.list [],.str ⟨#[]⟩,.list [],.list []]=Qq.enc:=rfl
inductive SB:Sch->Prop
 | mk (s:Sch):s.it.length<=1->(s.it≠ []->s.f= [])->(s.k=4->s.it.length=1)->(∀x∈s.it,SB x)->(∀p∈s.f,SB p.s)->SB s
theorem SB.one {s:Sch}(h:SB s):s.it.length<=1:=by cases h;assumption
theorem SB.nof {s:Sch}(h:SB s)(a:s.it≠ []):s.f= []:=by cases h with | mk _ c b d e g=>exact b a
theorem SB.list {s:Sch}(h:SB s)(a:s.k=4):s.it.length=1:=by cases h with | mk _ c d b e g=>exact b a
theorem SB.Ie {s x:Sch}(h:SB s)(a:x∈s.it):SB x:=by cases h with | mk _ c d e b g=>exact b x a
theorem SB.J8 {s:Sch}{p:SFld}(h:SB s)(a:p∈s.f):SB p.s:=by cases h with | mk _ c d e g b=>exact b p a
def D7 (s:Sch)(nm:ByteArray):Option Sch:=match s.it with | []=>(s.fld nm).map (·.s) | t::_=>some t
theorem Aev {s:Sch}{nm:ByteArray}{p:SFld}(h:s.fld nm=some p):p∈s.f/\p.nm=nm:=
 ⟨cN h,by simpa using gH h⟩
theorem Nj {s t:Sch}{nm:ByteArray}(h:D7 s nm=some t):t∈s.it\/ ∃p∈s.f,p.nm=nm/\p.s=t:=by
 unfold D7 at h
 split at h
 ·right
  rw[eW]at h
  obtain⟨p,hp,rfl⟩:=h
  exact⟨p,(Aev hp).1,(Aev hp).2,rfl⟩
 ·rename_i a r e
  cases h
  left;rw[e];simp
theorem SB.sub {s t:Sch}{nm:ByteArray}(a:SB s)(h:D7 s nm=some t):SB t:=by
 rcases Nj h with h | ⟨p,hp,_,rfl⟩
 ·exact a.Ie h
 ·exact a.J8 hp
theorem Jj {s t:Sch}{nm:ByteArray}(h:D7 s nm=some t):t.Aq<s.Aq:=by
 rcases Nj h with h | ⟨p,hp,_,rfl⟩
 ·exact fL h
 ·have:=fR hp;omega
def I7 (p:List Stp)(c:Int):IV:= .agg [.str (Cs p),.int c]
def Da (nm:ByteArray):Stp:=⟨1,nm,0,Am⟩
def isKey (v:Val)(nm:ByteArray):Bool:=(v.get nm).isSome &&decide (((v.get nm).getD Aw).k =3)
def Dv (v:Val)(nm:ByteArray):ByteArray:=((v.get nm).getD Aw).s
def Ex (v:Val)(nm:ByteArray):Bool:=isKey v nm&& !decide (nm=Am)
def Hs (key:ByteArray)(v:Val)(i:Nat):Stp:=if Ex v key then⟨3,key,0,Dv v key⟩else⟨2,Am,i,Am⟩
def sameKey (nm:ByteArray)(k:ByteArray)(u:Val):Bool:=Ex u nm&&decide (Dv u nm=k)
def Aus (key:ByteArray)(prev:List Val)(v:Val)(q:List Stp):List IV:=if Ex v key&&prev.any (sameKey key (Dv v key)) then[I7 q 8]else[]
def Kz (v:Val)(nm:ByteArray):Bool:=(v.get nm).isSome && !decide (((v.get nm).getD Aw).k =0)
def J7 (v:Val)(p:List Stp)(d:SFld):List IV:=if d.rq&& !Kz v d.nm then[I7 (p++ [Da d.nm]) 7]else[]
def Aaa (p:List Stp)(sc:Sch)(n:Int):List IV:=if decide (n<sc.mn)||decide (sc.mx<n) then[I7 p 5]else[]
mutual
def Jh:Val->Sch->List Stp->List IV
 | ⟨k,n,s,l,f⟩,sc,p=>
  if k=sc.k then
   if k=2 then Aaa p sc n
   else if k=3 then(if decide ((s.size:Int)<sc.mn)||decide (sc.mx<(s.size:Int)) then[I7 p 5]else if decide (0<sc.en.length)&& !sc.en.any (λe=>decide (e=s)) then[I7 p 1]else[])
   else if k=4 then Aaa p sc l.length++K6 l sc.key (sc.it.headD Bj) p []
   else if k=5 then K9 f sc p++sc.f.flatMap (J7 ⟨k,n,s,l,f⟩ p)
   else[]
  else[I7 p 6]
def K6:List Val->ByteArray->Sch->List Stp->List Val->List IV
 | [],_,_,_,_=> []
 | v::vs,key,t,p,prev=>(Jh v t (p++ [Hs key v prev.length])++Aus key prev v (p++ [Hs key v prev.length]))++K6 vs key t p (prev++ [v])
def K9:List (ByteArray × Val)->Sch->List Stp->List IV
 | [],_,_=> []
 | (nm,v)::fs,sc,p=>(match D7 sc nm with | none=> [I7 (p++ [Da nm]) 1] | some t=>if v.k=0 then[]else Jh v t (p++ [Da nm]))++K9 fs sc p
end
theorem Ju (v:Val)(sc:Sch)(p:List Stp):Jh v sc p=
  if v.k=sc.k then
   if v.k=2 then Aaa p sc v.n
   else if v.k=3 then(if decide ((v.s.size:Int)<sc.mn)||decide (sc.mx<(v.s.size:Int)) then[I7 p 5]else if decide (0<sc.en.length)&& !sc.en.any (λe=>decide (e=v.s)) then[I7 p 1]else[])
   else if v.k=4 then Aaa p sc v.l.length++K6 v.l sc.key (sc.it.headD Bj) p []
   else if v.k=5 then K9 v.f sc p++sc.f.flatMap (J7 v p)
   else[]
  else[I7 p 6]:=by
 cases v;rw[Jh];rfl
def Agl (sc:Sch)(p:List Stp)(x:ByteArray × Val):List IV:=match D7 sc x.1 with | none=> [I7 (p++ [Da x.1]) 1] | some t=>if x.2.k=0 then[]else Jh x.2 t (p++ [Da x.1])
theorem I4 (x:ByteArray × Val)(fs:List (ByteArray × Val))(sc:Sch)(p:List Stp):K9 (x::fs) sc p=Agl sc p x++K9 fs sc p:=by
 obtain⟨nm,v⟩:=x;rw[K9];rfl
theorem Ki (sc:Sch)(p:List Stp):K9 [] sc p= []:=by rw[K9]
theorem H9 (v:Val)(vs:List Val)(key:ByteArray)(t:Sch)(p:List Stp)(prev:List Val):K6 (v::vs) key t p prev=(Jh v t (p++ [Hs key v prev.length])++Aus key prev v (p++ [Hs key v prev.length]))++K6 vs key t p (prev++ [v]):=by rw[K6]
theorem Lu (key:ByteArray)(t:Sch)(p:List Stp)(prev:List Val):K6 [] key t p prev= []:=by rw[K6]
theorem To (l:List (ByteArray × Val))(sc:Sch)(p:List Stp):K9 l sc p=l.flatMap (Agl sc p):=by
 induction l with
 | nil=>simp[Ki]
 | cons x l a=>rw[I4,a];rfl
theorem Ac5 (key:ByteArray)(prev:List Val)(v:Val)(q:List Stp):(Aus key prev v q).length <=1:=by unfold Aus;split<;>simp
theorem Avr (v:Val)(p:List Stp)(d:SFld):(J7 v p d).length <=1:=by unfold J7;split<;>simp
theorem Vy (p:List Stp)(sc:Sch)(n:Int):(Aaa p sc n).length <=1:=by unfold Aaa;split<;>simp
theorem Aoy (v:Val)(p:List Stp): ∀l:List SFld,(l.flatMap (J7 v p)).length <=l.length
 | []=>by simp
 | d::l=>by
  have:=Avr v p d
  have:=Aoy v p l
  simp only[cA,aO,bA];omega
theorem S1: ∀ (v:Val) (sc:Sch) (p:List Stp),SB sc->(Jh v sc p).length <=(2+sc.Aq) * v.size:=by
 refine eC λv d e sc p g=>?_
 have b:=v.size_pos
 have one:1<=(2+sc.Aq) * v.size:=by
  have:1 * 1<=(2+sc.Aq) * v.size:=aZ (by omega) b
  omega
 have r: ∀ (t:Sch),SB t->t.Aq<sc.Aq-> ∀ (l:List Val),(∀x∈l,∀sc p,SB sc->(Jh x sc p).length <=(2+sc.Aq) * x.size)-> ∀ (prev:List Val) (key:ByteArray),(K6 l key t p prev).length <=(2+sc.Aq) * Cz l:=by
  intro t a u l
  induction l with
  | nil=>intro _ prev key;rw[Lu];simp
  | cons x l i=>
   intro h prev key
   have j:=h x (by simp) t (p++ [Hs key x prev.length]) a
   have m:=i (λy o=>h y (by simp[o])) (prev++ [x]) key
   have c:=Ac5 key prev x (p++ [Hs key x prev.length])
   have q:=x.size_pos
   have w:(3+t.Aq) * x.size<=(2+sc.Aq) * x.size:=aZ (by omega) (bP _)
   have G:(3+t.Aq) * x.size=(2+t.Aq) * x.size+x.size:=by rw[show 3+t.Aq=(2+t.Aq)+1 by omega,gD,gE]
   rw[H9]
   simp only[aO,Cz,cJ]
   omega
 have z: ∀ (l:List (ByteArray × Val)),(∀x∈l,∀sc p,SB sc->(Jh x.2 sc p).length <=(2+sc.Aq) * x.2.size)->(K9 l sc p).length <=(2+sc.Aq) * B9 l:=by
  intro l
  induction l with
  | nil=>intro _;rw[Ki];simp
  | cons x l i=>
   intro h
   have m:=i (λy o=>h y (by simp[o]))
   have q:=x.2.size_pos
   have H:(Agl sc p x).length <=(2+sc.Aq) * x.2.size:=by
    have I:1 * 1<=(2+sc.Aq) * x.2.size:=aZ (by omega) q
    unfold Agl
    split
    ·simp only[aQ];omega
    ·rename_i t a
     split
     ·simp
     ·have j:=h x (by simp) t (p++ [Da x.1]) (g.sub a)
      have:=Jj a
      have w:(2+t.Aq) * x.2.size<=(2+sc.Aq) * x.2.size:=aZ (by omega) (bP _)
      omega
   rw[I4]
   simp only[aO,B9,cJ]
   omega
 have A:=v.size_eq
 rw[Ju]
 split
 ·split
  ·have:=Vy p sc v.n;omega
  ·split
   ·split
    ·simpa using one
    ·split
     ·simpa using one
     ·simp
   ·split
    ·rename_i J B C F
     obtain⟨t,a⟩:=bT.1 (g.list (by omega))
     have j:=r t (g.Ie (by rw[a];simp)) (fL (by rw[a];simp)) v.l d [] sc.key
     have m:=Vy p sc v.l.length
     have c:(2+sc.Aq) * (1+Cz v.l)<=(2+sc.Aq) * v.size:=aZ (bP _) (by omega)
     rw[cJ]at c
     rw[a,fB,aO]
     omega
    ·split
     ·have j:=z v.f e
      have m:=Aoy v p sc.f
      have q:=sc.Bc
      have c:(2+sc.Aq) * (1+B9 v.f)<=(2+sc.Aq) * v.size:=aZ (bP _) (by omega)
      rw[cJ]at c
      rw[aO]
      omega
     ·simp
 ·simpa using one
theorem At6 {n:Nat}(h:n<=4398046511104):n * 24<=Bb:=by
 have:n * 24<=4398046511104 * 24:=aZ h (bP _)
 unfold Bb;omega
theorem Asj (v:Val)(nm:ByteArray):((v.get nm).getD Aw).s.size <=v.Aq:=by
 unfold fW
 split
 ·cases h:v.f.find? λp=>decide (p.1=nm) with
  | none=>exact dM _
  | some p=>
   have a:=dY (cN h)
   have b:=p.2.A02
   simp only[aI,cL];omega
 ·exact dM _
theorem Ab6 (key:ByteArray)(v:Val)(i:Nat)(a:key.size<=1048576)(b:v.Aq<=1048576):(Hs key v i).fits :=by
 have:=Asj v key
 unfold Hs
 split
 ·exact⟨by show key.size<=_;omega,by show(Dv v key).size <=_;unfold Dv;omega⟩
 ·exact⟨by show(0:Nat)<=_;omega,by show(0:Nat)<=_;omega⟩
theorem I3 (nm:ByteArray)(h:nm.size<=1048576):(Da nm).fits :=⟨by show nm.size<=_;omega,by show(0:Nat)<=_;omega⟩
theorem Hi {p:List Stp}{x:Stp}(hp: ∀s∈p,s.fits)(a:x.fits): ∀s∈p++ [x],s.fits:=by
 intro s b
 rcases dH.1 b with h | h
 ·exact hp s h
 ·simp at h;subst h;exact a
end Go.CT.Sch
namespace Go.CT.Sch
open Go.Proofs
theorem Md (v:Val)(nm:ByteArray)(c:v.Aq<=1048576):W F210 0 [v.enc,.str nm]=some [.str (Dv v nm),.bool (Ex v nm)]:=by
 rw[A3o]
 unfold Dv Ex isKey
 simp only[Adb v nm (by omega),Ij,Hq,aR,gL,aW,aA,Ax,Al,Am]
 cases(v.get nm).isSome<;>by_cases a:nm=⟨#[]⟩<;>by_cases b:((v.get nm).getD Aw).k =3<;>simp[a,b]
theorem Rv (s:Sch)(l:List Val)(i:Nat)(a:i<l.length)(b:l[i].Aq <=1048576):W F209 0 [s.enc,.list (l.map bU),.int i]=some [(Hs s.key l[i] i).enc]:=by
 rw[A7u]
 unfold Hs
 simp only[cC,aH,Zt,aG,aJ,aC a,aI,aA,eX,Md l[i] s.key b,fJ,eU,aR]
 split<;>rfl
theorem Ni (p:List Stp)(s:Stp)(c:p.length<=1099511627776):W F212 0 [.list (p.map Stp.enc),s.enc]=some [.list ((p++ [s]).map Stp.enc)]:=by
 have a:(0+p.length) * 48<=Bb:=Kv (by omega) (by omega)
 have b:(p.length+1) * 48<=Bb:=by
  have:(p.length+1) * 48<=1099511627777 * 48:=aZ (by omega) (bP _)
  unfold Bb;omega
 rw[A6z]
 simp only[fI,aA,eL,bC,aD,a,Zt,bD,aQ,b,cB,bN,bO]
theorem Af5 (p:List Stp)(hp: ∀s∈p,s.fits)(a:p.length<=1099511627776)(c:Int):W Bj0 0 [.list (p.map Stp.enc),.int c]=some [.list [I7 p c]]:=by
 rw[A7e]
 simp only[Xn p hp a,fJ,eU,fI,aA,I7]
theorem Zk (s:Sch)(nm:ByteArray)(r:s.Aq<=1099511627776)(b d e g j m o:IV): ∀ (n i:Nat),i+n=s.f.length->
  W F191 1 [.str nm,.int i,s.enc,b,d,e,g,j,m,o]=some [(((s.f.drop i).find? λp=>decide (p.nm=nm)).getD Qq).enc,.bool ((s.f.drop i).find? λp=>decide (p.nm=nm)).isSome]
 | 0,i,h=>by
  rw[Are]
  have q: ¬ i<s.f.length:=by omega
  simp[q,aF (bE q),Ach]
 | n+1,i,h=>by
  have a:i<s.f.length:=by omega
  have u:=s.Bc
  have t:=Bd (i:=i) (by omega)
  have:=Zk s nm r b d e g j m o n (i+1) (by omega)
  rw[Are,aE a]
  simp only[dZ,bX,aD,bB,Aj,a,Zd,aA,aR,Zt,cC,aH,aG,aJ,aC a,aI,eN,fV,bR,t,this,bY]
  by_cases c:s.f[i].nm =nm
  ·simp[c]
  ·have c':decide (s.f[i].nm =nm)=false:=by simpa using c
   simp only[c,c',Ze,aB,Zf]
theorem W6 (s:Sch)(nm:ByteArray)(a:s.Aq<=1099511627776):W F191 0 [s.enc,.str nm]=some [((s.fld nm).getD Qq).enc,.bool (s.fld nm).isSome]:=by
 rw[A7z]
 have:=Zk s nm a (.str ⟨#[]⟩) (.bool false) (.bool false) (.int 0) (.int 0) (.int 0) (.str ⟨#[]⟩) s.f.length 0 (by omega)
 simp only[aP,aN]at this
 exact this
def Atu (v:Val)(nm:ByteArray):Val:=if Kz v nm then(v.get nm).getD Aw else Aw
theorem Als (v:Val)(nm:ByteArray)(a:v.Aq<=1048576):W F214 0 [v.enc,.str nm]=some [.int (Atu v nm).k,.int (Atu v nm).n,.str (Atu v nm).s,.list ((Atu v nm).l.map bU),.list ((Atu v nm).f.map aY),.bool (Kz v nm)]:=by
 rw[A5a]
 unfold Atu Kz
 simp only[Adb v nm (by omega),Ij,Hq,cM,aW,aR,aA]
 cases(v.get nm).isSome with
 | false=>rfl
 | true=>
  by_cases h:((v.get nm).getD Aw).k =0
  ·simp only[h,Zd];rfl
  ·simp only[h,Ze];rfl
theorem Xp (s:Sch)(v:Val)(p q:List Stp)(u:v.Aq<=1048576)(o: ∀s∈q,s.fits)(r:q.length<=1099511627776)(i:Nat)(b:i<=v.l.length)(key:ByteArray)(ok:Bool)(out:List IV)(w:out.length<=4398046511103): ∀ (n j:Nat) (ag:Bool),j+n=i->
  W Be0 3 [.list (p.map Stp.enc),.int i,.str key,.bool ok,.bool ag,.int j,s.enc,v.enc,.list out,.list (q.map Stp.enc)]
   =W Be0 4 [.list (p.map Stp.enc),.int i,s.enc,v.enc,.list (out++if ag||(ok&&((v.l.take i).drop j).any (sameKey s.key key)) then[I7 q 8]else[])]
 | n,j,ag,h=>by
  have z:=v.Bn
  have fin:(cnd (.bool ag) (
    calls (W Bj0 0 [.list (q.map Stp.enc),(.int 8)]) 1 λd=>
    (fX 24 (.list out) d).bind λe=>
    W Be0 4 [.list (p.map Stp.enc),.int i,s.enc,v.enc,e]) (
    W Be0 4 [.list (p.map Stp.enc),.int i,s.enc,v.enc,.list out]))=W Be0 4 [.list (p.map Stp.enc),.int i,s.enc,v.enc,.list (out++if ag then[I7 q 8]else[])]:=by
   cases ag with
   | false=>simp
   | true=>
    have g:(out.length+1) * 24<=Bb:=At6 (by omega)
    simp only[aR,Zt,Af5 q o r 8,bK,eL,aQ,g,aA]
  rw[A2k]
  by_cases c:j<i
  ·obtain⟨m,rfl⟩: ∃m,n=m+1:=⟨n - 1,by omega⟩
   have t:j<v.l.length:=by omega
   have x:=Bd (i:=j) (by omega)
   have A:=eE (aK t)
   have a:(j:Int)<i:=by omega
   cases ok with
   | false=>
    simp only[bB,a,Zd,aA,O.Ox,Zt,aR,aB,Zf]
    simp only[aR]at fin
    rw[fin];simp
   | true=>
    have y:=Md v.l[j] s.key (by omega)
    have hd:(v.l.take i).drop j=v.l[j]::(v.l.take i).drop (j+1):=by
     rw[aE (by simp;omega),List.getElem_take]
    simp only[bB,a,Zd,aA,O.Ox,Zt,aR,cV,cC,aH,aG,aJ,aC t,aI,eX,y,fJ,fV,Ax,Al,bR,x]
    rw[Xp s v p q u o r i b key true out w m (j+1) _ (by omega),hd,fQ]
    congr 6
    unfold sameKey
    cases ag<;>cases Ex v.l[j] s.key<;>simp
  ·have a: ¬ (j:Int)<i:=by omega
   simp only[bB,a,Ze,aA,O.Ox,aB,Zf,aR]
   simp only[aR]at fin
   rw[fin,aF (by simp;omega)]
   simp
def Bj1 (v:Val):Prop:=v.Aq<=1048576-> ∀ (s:Sch),SB s->s.Aq<=1048576-> ∀p:List Stp,(∀x∈p,x.fits)->p.length+v.Aq<=549755813888->W Bi9 0 [s.enc,v.enc,.list (p.map Stp.enc)]=some [.list (Jh v s p)]
theorem Ai7 {v:Val}{s:Sch}{p:List Stp}(a:SB s)(b:s.Aq<=1048576)(c:v.Aq<=1048576):(Jh v s p).length <=2199025352704:=by
 have d:=S1 v s p a
 have e:=v.Eu
 have g:(2+s.Aq) * v.size<=1048578 * 1048576:=aZ (by omega) (by omega)
 omega
theorem Yo (s t:Sch)(v:Val)(p:List Stp)(w:v.Aq<=1048576)(C:s.Aq<=1048576)(j:s.it= [t])(a:SB s)(hp: ∀s∈p,s.fits)(F:p.length+v.Aq<=549755813888)
  (y: ∀x∈v.l,Bj1 x): ∀ (n i:Nat) (out:List IV),i+n=v.l.length->out.length+(2+s.Aq) * Cz (v.l.drop i)<=4398046511103->
  W Be0 2 [.list (p.map Stp.enc),.int i,s.enc,v.enc,.list out]=some [.list (out++K6 (v.l.drop i) s.key t p (v.l.take i))]
 | 0,i,out,h,m=>by
  have z: ¬ i<v.l.length:=by omega
  rw[Anv,aF (by omega),Lu]
  simp only[cV,bX,aD,aA,bB,Aj,z,Ze,aR,aB,Zf,bL]
 | n+1,i,out,h,m=>by
  have c:i<v.l.length:=by omega
  have K:=v.Bn
  have G:=Bd (i:=i) (by omega)
  have L:=eE (aK c)
  have b:t∈s.it:=by rw[j];simp
  have htmass:=fL b
  have hd:=aE c
  have A:=s.Ad8
  rw[hd]at m ⊢
  rw[H9]
  have o:(v.l.take i).length =i:=by simp;omega
  have q:v.l.take i++ [v.l[i]]=v.l.take (i+1):=by simp
  rw[o,q]
  have B:=Hi hp (Ab6 s.key v.l[i] i (by omega) (by omega))
  have r:=y _ (aK c) (by omega) t (a.Ie b) (by omega) _ B (by simp;omega)
  have hlen:=S1 v.l[i] t (p++ [Hs s.key v.l[i] i]) (a.Ie b)
  have H:=Ac5 s.key (v.l.take i) v.l[i] (p++ [Hs s.key v.l[i] i])
  simp only[Cz,cJ]at m
  have I:(2+t.Aq) * v.l[i].size +1<=(2+s.Aq) * v.l[i].size :=by
   have z:=v.l[i].size_pos
   have M:(3+t.Aq) * v.l[i].size <=(2+s.Aq) * v.l[i].size :=aZ (by omega) (bP _)
   have g:(3+t.Aq) * v.l[i].size =(2+t.Aq) * v.l[i].size +v.l[i].size :=by rw[show 3+t.Aq=(2+t.Aq)+1 by omega,gD,gE]
   omega
  generalize N:Jh v.l[i] t (p++ [Hs s.key v.l[i] i])=es1 at *
  have u:(out.length+es1.length) * 24<=Bb:=At6 (by omega)
  have g:=Xp s v p (p++ [Hs s.key v.l[i] i]) w B (by simp;omega) i (by omega) (Dv v.l[i] s.key) (Ex v.l[i] s.key) (out++es1) (by rw[aO];omega) i 0 false (by omega)
  simp only[aN,aP,cX]at g
  have e:(if(Ex v.l[i] s.key&&(v.l.take i).any (sameKey s.key (Dv v.l[i] s.key)))=true then[I7 (p++ [Hs s.key v.l[i] i]) 8]else[])=Aus s.key (v.l.take i) v.l[i] (p++ [Hs s.key v.l[i] i]):=rfl
  rw[e]at g
  generalize Q:Aus s.key (v.l.take i) v.l[i] (p++ [Hs s.key v.l[i] i])=d at *
  have J:=Yo s t v p w C j a hp F y n (i+1) (out++es1++d) (by omega) (by simp only[aO];omega)
  rw[Anv]
  simp only[cV,bX,aD,aA,bB,Aj,c,Zd,aR,Zt,Rv s v.l i c (by omega),bK,Ni p (Hs s.key v.l[i] i) (by omega),eY,j,bN,bO,cC,cU,cE,bQ,aH,aG,aJ,aC c,aI,r,eL,u,eX,Md v.l[i] s.key (by omega),fJ]
  rw[g,A77]
  simp only[bR,G,aA]
  rw[J]
  simp only[bH]
theorem Z5 (s:Sch)(v:Val)(p:List Stp)(c:v.Aq<=1048576)(j:s.Aq<=1048576)(hp: ∀s∈p,s.fits)(m:p.length+v.Aq<=549755813888): ∀ (n i:Nat) (out:List IV),i+n=s.f.length->out.length+n<=4398046511103->
  W Biy 3 [.list (p.map Stp.enc),.int i,s.enc,v.enc,.list out]=some [.list (out++(s.f.drop i).flatMap (J7 v p))]
 | 0,i,out,h,o=>by
  have a: ¬ i<s.f.length:=by omega
  rw[Aq9,aF (by omega)]
  simp only[dZ,bX,aD,aA,bB,Aj,a,Ze,aR,aB,Zf,cR,bL]
 | n+1,i,out,h,o=>by
  have b:i<s.f.length:=by omega
  have u:=s.Bc
  have q:=Bd (i:=i) (by omega)
  have r:=fR (aK b)
  have t:=Hi hp (I3 s.f[i].nm (by omega))
  have d:(out.length+1) * 24<=Bb:=At6 (by omega)
  have g:O.Rl [(.int 1),.str s.f[i].nm,(.int 0),(.str ⟨#[]⟩)]=some (Da s.f[i].nm).enc :=rfl
  rw[Aq9,aE b,cA]
  unfold J7
  simp only[dZ,bX,aD,aA,bB,Aj,b,Zd,aR,Zt,cC,aH,aG,aJ,aC b,aI,eN,Als v s.f[i].nm c,Hq,gW,cM,Ax,Al,g,Ni p (Da s.f[i].nm) (by omega),bK,Af5 _ t (by simp;omega),eL,aQ,d,A7o,bR,q]
  have e:(if s.f[i].rq =true then !Kz v s.f[i].nm else false)=(s.f[i].rq && !Kz v s.f[i].nm):=by cases s.f[i].rq<;>simp
  rw[e]
  cases(s.f[i].rq && !Kz v s.f[i].nm) with
  | true=>
   have a:=Z5 s v p c j hp m n (i+1) (out++ [I7 (p++ [Da s.f[i].nm]) 7]) (by omega) (by simp;omega)
   simp only[Zt,a,bH]
   rfl
  | false=>
   have a:=Z5 s v p c j hp m n (i+1) out (by omega) (by omega)
   simp only[aB,Zf,a,bD]
   rfl
theorem Aji (s:Sch)(v:Val)(p:List Stp)(C:v.Aq<=1048576)(F:s.Aq<=1048576)(b:SB s)(hp: ∀s∈p,s.fits)(G:p.length+v.Aq<=549755813888)
  (H: ∀x∈v.f,Bj1 x.2): ∀ (n i:Nat) (out:List IV),i+n=v.f.length->out.length+s.f.length+(2+s.Aq) * B9 (v.f.drop i)<=4398046511103->
  W Biy 1 [.list (p.map Stp.enc),.int i,s.enc,v.enc,.list out]=some [.list (out++K9 (v.f.drop i) s p++s.f.flatMap (J7 v p))]
 | 0,i,out,h,y=>by
  have e: ¬ i<v.f.length:=by omega
  have I:=Z5 s v p C F hp G s.f.length 0 out (by omega) (by omega)
  simp only[aN,aP]at I
  rw[Aqc,aF (by omega),Ki]
  simp only[cP,bX,aD,aA,bB,Aj,e,Ze,aR,aB,Zf,bL,I]
 | n+1,i,out,h,y=>by
  have o:i<v.f.length:=by omega
  have S:=v.Bc
  have K:=Bd (i:=i) (by omega)
  have T:=dY (aK o)
  have hd:=aE o
  rw[hd]at y ⊢
  rw[I4]
  simp only[B9,cJ]at y
  have J:=Hi hp (I3 v.f[i].1 (by omega))
  have z:O.Rl [(.int 1),.str v.f[i].1,(.int 0),(.str ⟨#[]⟩)]=some (Da v.f[i].1).enc :=rfl
  have q:=v.f[i].2.size_pos
  have c:1<=(2+s.Aq) * v.f[i].2.size :=by
   have:1 * 1<=(2+s.Aq) * v.f[i].2.size :=aZ (by omega) q
   omega
  -- what this field adds
  have key: ∀es:List IV,es.length<=(2+s.Aq) * v.f[i].2.size ->W Biy 2 [.list (p.map Stp.enc),.int i,s.enc,v.enc,.list (out++es)]=some [.list (out++(es++K9 (v.f.drop (i+1)) s p)++s.f.flatMap (J7 v p))]:=by
   intro es L
   have M:=Aji s v p C F b hp G H n (i+1) (out++es) (by omega) (by rw[aO];omega)
   rw[A6t]
   simp only[bR,K,aA,M,bH]
  have sub: ∀t:Sch,D7 s v.f[i].1 =some t->((∃es,Jh v.f[i].2 t (p++ [Da v.f[i].1])=es/\W Bi9 0 [t.enc,v.f[i].2.enc,.list ((p++ [Da v.f[i].1]).map Stp.enc)]=some [.list es]/\es.length<=(2+s.Aq) * v.f[i].2.size)):=by
   intro t A
   have N:=Jj A
   have e:=H _ (aK o) (by omega) t (b.sub A) (by omega) _ J (by simp;omega)
   have m:=S1 v.f[i].2 t (p++ [Da v.f[i].1]) (b.sub A)
   have U:(2+t.Aq) * v.f[i].2.size <=(2+s.Aq) * v.f[i].2.size :=aZ (by omega) (bP _)
   exact⟨_,rfl,e,by omega⟩
  have g: ∀es:List IV,es.length<=(2+s.Aq) * v.f[i].2.size ->(out.length+es.length) * 24<=Bb:=λes h=>At6 (by omega)
  rw[Aqc]
  simp only[cP,bX,aD,aA,bB,Aj,o,Zd,aR,Zt,cC,aH,aG,aJ,aC o,aI,dB,z,Ni p _ (show p.length<=1099511627776 by omega),bK,W6 s v.f[i].1 (by omega),fJ,eY,aW,cM,Ax,Al,hD,eB,dI,gK]
  unfold Agl
  cases j:s.it with
  | nil=>
   have a:D7 s v.f[i].1 =(s.fld v.f[i].1).map (·.s):=by unfold D7;rw[j]
   rw[a]at sub ⊢
   simp only[bC,aN,Zd,Zt]
   cases Q:s.fld v.f[i].1 with
   | none=>
    have u:=g [I7 (p++ [Da v.f[i].1]) 1] (by simpa using c)
    simp only[eH,aX,Zt,Af5 _ J (show(p++ [Da v.f[i].1]).length <=1099511627776 by simp;omega),bK,eL,u,aA,gI]
    exact key _ (by simpa using c)
   | some d=>
    simp only[dJ,aU,aB,Zf,aI,cL,show ¬ (0:Int)=1 by omega,Ze,ite_self]
    by_cases w:v.f[i].2.k =0
    ·simp only[w,Zd,aU,aB,Zf,Zt]
     have:=key [] (by simp)
     simpa using this
    ·obtain⟨es,B,e,m⟩:=sub d.s (by rw[Q];rfl)
     simp only[w,Ze,aX,Zt,Zf,e,bK,eL,g es m,aA,B]
     exact key es m
  | cons t r=>
   have R:r= []:=by have:=b.one;rw[j]at this;simpa using this
   subst R
   have a:D7 s v.f[i].1 =some t:=by unfold D7;rw[j]
   rw[a]at sub ⊢
   simp only[bA,bC,gX,aN,show ¬ (1:Int)=0 by omega,Ze,aB,Zf,Zd,bN,bO,cU,Zt,cE,bQ,aA]
   by_cases w:v.f[i].2.k =0
   ·simp only[w,Zd,aU,aB,Zf,Zt]
    have:=key [] (by simp)
    simpa using this
   ·obtain⟨es,B,e,m⟩:=sub t rfl
    simp only[aI,aA,w,Ze,aX,Zt,Zf,e,bK,eL,g es m,aA,B]
    exact key es m
theorem Agq (s:Sch)(v:Val)(p:List Stp)(hp: ∀s∈p,s.fits)(b:p.length<=1099511627776)(d:s.Aq<=1048576): ∀ (n i:Nat),i+n=s.en.length->
  W Bi9 1 [.list (p.map Stp.enc),.int i,s.enc,v.enc]=some [.list (if decide (0<s.en.length)&& !(s.en.drop i).any (λe=>decide (e=v.s)) then[I7 p 1]else[])]
 | 0,i,h=>by
  have g: ¬ i<s.en.length:=by omega
  rw[Ano,aF (by omega)]
  simp only[eI,bX,aD,aA,bB,Aj,g,Ze,aR,aB,Zf,cT,Af5 p hp b,bK,List.any_nil,aX,cK]
  have e:decide ((0:Int)<(s.en.length:Int))=decide (0<s.en.length):=by simp
  rw[e]
  split<;>simp
 | n+1,i,h=>by
  have a:i<s.en.length:=by omega
  have o:=s.Kc
  have j:=Bd (i:=i) (by omega)
  have m:=Agq s v p hp b d n (i+1) (by omega)
  rw[Ano,aE a,fQ]
  simp only[eI,bX,aD,aA,bB,Aj,a,Zd,aR,Zt,cC,aH,aG,aJ,aC a,aI,gN,fV,bR,j,m]
  by_cases c:s.en[i]=v.s<;>simp[c]
theorem Ari: ∀v:Val,Bj1 v:=by
 refine eC λv h i r s a j p hp u=>?_
 have b: ∀c,W Bj0 0 [.list (p.map Stp.enc),.int c]=some [.list [I7 p c]]:=Af5 p hp (by omega)
 have B:=v.size_eq
 have C:=v.Eu
 have F:=s.Bc
 have hmul:(2+s.Aq) * v.size<=1048578 * 1048576:=aZ (by omega) (by omega)
 rw[A4g,Ju]
 simp only[dQ,gY,aA,eB,aR,b,bK]
 by_cases w:v.k=s.k
 ·simp only[w,Zd,aU,aB,Zf,Zt,aW,aA,aR]
  by_cases k2:s.k=2
  ·simp only[k2,Zd,Zt,gV,dS,qAA,bB,cT,aA,aR,Ax,Al,Aaa]
   by_cases d:v.n<s.mn<;>by_cases e:s.mx<v.n<;>simp[d,e]
  ·by_cases x:s.k=3
   ·have y:=Agq s v p hp (by omega) j s.en.length 0 (by omega)
    simp only[aN,aP]at y
    simp only[x,show ¬ (3:Int)=2 by omega,Ze,aB,Zf,Zd,Zt,gN,dS,qAA,cS,bB,cT,aA,aR,Ax,Al,y]
    by_cases d:(v.s.size:Int)<s.mn<;>by_cases e:s.mx<(v.s.size:Int)<;>simp[d,e]
   ·by_cases m:s.k=4
    ·obtain⟨t,z⟩:=bT.1 (a.list m)
     have G:(2+s.Aq) * Cz v.l<=(2+s.Aq) * v.size:=aZ (bP _) (by omega)
     have H:=Vy p s v.l.length
     have g:=Yo s t v p r j z a hp u h v.l.length 0 (Aaa p s v.l.length) (by omega) (by simp only[aP];omega)
     simp only[aN,aP,fK]at g
     have o:W Be0 0 [s.enc,v.enc,.list (p.map Stp.enc)]=some [.list (Aaa p s v.l.length++K6 v.l s.key t p [])]:=by
      rw[A6w]
      simp only[cV,dS,qAA,bX,aD,bB,cT,aA,aR,Ax,Al,b,bK,eL,bC,aQ,bD,A2t]
      have q:(0+1) * 24<=Bb:=At6 (by omega)
      simp only[q,Zt,aA]
      revert g
      unfold Aaa
      by_cases d:(v.l.length:Int)<s.mn<;>by_cases e:s.mx<(v.l.length:Int)<;>simp[d,e]
     simp only[m,show ¬ (4:Int)=2 by omega,show ¬ (4:Int)=3 by omega,Ze,aB,Zf,Zd,Zt,o,bK,z,fB]
    ·by_cases A:s.k=5
     ·have G:(2+s.Aq) * B9 v.f<=(2+s.Aq) * v.size:=aZ (bP _) (by omega)
      have g:=Aji s v p r j a hp u i v.f.length 0 [] (by omega) (by simp only[aP,bC];omega)
      simp only[aN,aP,bD]at g
      have o:W Biy 0 [s.enc,v.enc,.list (p.map Stp.enc)]=some [.list (K9 v.f s p++s.f.flatMap (J7 v p))]:=by
       rw[A3h,g]
      simp only[A,show ¬ (5:Int)=2 by omega,show ¬ (5:Int)=3 by omega,show ¬ (5:Int)=4 by omega,Ze,aB,Zf,Zd,Zt,o,bK]
     ·simp only[k2,x,m,A,Ze,aB,Zf]
 ·simp only[w,Ze,aX,Zt,Zf]
end Go.CT.Sch
namespace Go.CT.Sch
open Go.Proofs
def Aut (m:List (ByteArray × Bool)):List IV:=m.map λe=> .agg [.str e.1,.bool e.2]
def Vm (m:List (ByteArray × Bool))(k:ByteArray):Option Bool:=(m.find? λe=>decide (e.1=k)).map (·.2)
def Ajo (k:ByteArray)(b:Bool):List (ByteArray × Bool)->List (ByteArray × Bool)
 | []=> [(k,b)]
 | e::r=>if e.1=k then(k,b)::r else e::Ajo k b r
theorem Ab2 (a b:ByteArray):IV.Ow (.str a) (.str b)=some (decide (a=b)):=by
 have:(a.toList == b.toList)=decide (a=b):=by
  rw[aT,beq_iff_eq,decide_eq_true_iff];exact O.Uq
 simp only[IV.Ow,this]
theorem Wp (k:ByteArray): ∀m:List (ByteArray × Bool),Vt (.str k) (Aut m)=some ((Vm m k).map .bool)
 | []=>rfl
 | e::r=>by
  have a:=Wp k r
  simp only[Aut,bN,Vt,Ab2,Vm,bY]
  by_cases c:k=e.1
  ·simp[c]
  ·have c': ¬ e.1=k:=λh=>c h.symm
   simp only[c,c',Ze]
   exact a
theorem Amd (k:ByteArray)(b:Bool): ∀m:List (ByteArray × Bool),Ayh (.str k) (.bool b) (Aut m)=some (Aut (Ajo k b m))
 | []=>rfl
 | e::r=>by
  have a:=Amd k b r
  simp only[Aut,bN,Ayh,Ab2,Ajo]
  by_cases c:k=e.1
  ·simp[c]
  ·have c': ¬ e.1=k:=λh=>c h.symm
   simp only[c,c',Ze,Zf]
   unfold Aut at a
   rw[a];rfl
theorem Aig (k j:ByteArray)(b:Bool): ∀m:List (ByteArray × Bool),Vm (Ajo k b m) j=if k=j then some b else Vm m j
 | []=>by simp only[Ajo,Vm,bY,List.find?_nil];by_cases c:k=j<;>simp[c]
 | e::r=>by
  have d:=Aig k j b r
  unfold Vm at d ⊢
  unfold Ajo
  by_cases c:e.1=k
  ·simp only[c,Zt,bY]
   by_cases a:k=j<;>simp[a]
  ·simp only[c,Zf,bY]
   by_cases a:e.1=j
   ·have: ¬ k=j:=λh=>c (a.trans h.symm)
    simp[a,this]
   ·simp only[a,Ze,d]
theorem A6m (m:List (ByteArray × Bool))(k:ByteArray):O.Aqv (.bool false) (.list (Aut m)) (.str k)=some (.bool ((Vm m k).getD false)):=by
 unfold O.Aqv
 simp only[dD,Wp,aI]
 cases Vm m k<;>rfl
theorem A1v (m:List (ByteArray × Bool))(k:ByteArray):O.Ak3 (.list (Aut m)) (.str k)=some (.bool (Vm m k).isSome):=by
 unfold O.Ak3
 simp only[dD,Wp,aI,Option.isSome_map]
theorem Asg (m:List (ByteArray × Bool))(k:ByteArray)(b:Bool):O.Apo (.list (Aut m)) (.str k) (.bool b)=some (.list (Aut (Ajo k b m))):=by
 unfold O.Apo
 simp only[dD,Amd,aI]
theorem Acn (v:Val)(nm:ByteArray)(a:v.Aq<=4294967296):W F75 0 [v.enc,.str nm]=some (Ij (v.get nm)):=A4j v nm (Cn v (by omega))
theorem A9y (v:Val)(nm:ByteArray)(a:v.Aq<=1048576):W F74 0 [v.enc,.str nm]=some [.str (Dv v nm),.bool (isKey v nm)]:=by
 rw[Bam]
 unfold Dv isKey
 simp only[Acn v nm (by omega),Ij,Hq,aR,aW,aA,Ax,Al]
 cases(v.get nm).isSome<;>simp
theorem At4 (s:Sch)(v:Val)(i:Int)(a:v.Aq<=1048576):W F73 0 [s.enc,.int i,v.enc]=some [.agg [.int (if Ex v s.key then 3 else 2),.str (if Ex v s.key then s.key else Am),.int (if Ex v s.key then 0 else i),.str (if Ex v s.key then Dv v s.key else Am)]]:=by
 rw[Bdr]
 have e:(if isKey v s.key=true then !decide (s.key=(⟨#[]⟩:ByteArray)) else false)=Ex v s.key:=by unfold Ex Am;cases isKey v s.key<;>simp
 simp only[eX,aA,A9y v s.key a,fJ,gL,aR,Ax,Al,e,eU]
 cases Ex v s.key<;>rfl
theorem Aks (s:Sch)(v:Val)(i:Nat)(a:v.Aq<=1048576):W F73 0 [s.enc,.int i,v.enc]=some [(Hs s.key v i).enc]:=by
 rw[At4 s v i a]
 unfold Hs
 cases Ex v s.key<;>rfl
theorem Yn (nm:ByteArray):W F81 0 [.str nm]=some [(Da nm).enc]:=by
 rw[Bah];rfl
theorem Afr (p:List Stp)(s:Stp)(c:p.length<=1073741824):W F76 0 [.list (p.map Stp.enc),s.enc]=some [.list ((p++ [s]).map Stp.enc)]:=by
 have a:((p.map Stp.enc).length + [s.enc].length) * 48<=Bb:=by
  have:(p.length+1) * 48<=1099511627777 * 48:=aZ (by omega) (bP _)
  simp only[aD,aQ]
  unfold Bb;omega
 have b:O.Il [.list (p.map Stp.enc)]=some [.list (p.map Stp.enc)]:=Dw (by rw[aD];omega)
 rw[Bdq]
 simp only[Bgg,b,bK,Bkn,O.Auh,fI,aA,O.Ahs (n:=48) (by simp) a,cB,bN,bO]
theorem An3 (out:List IV)(p:List Stp)(c:Int)(hp: ∀s∈p,s.fits)(b:p.length<=1099511627776)(d:out.length<=4398046511103):W F52 0 [.list out,.list (p.map Stp.enc),.int c]=some [.list (out++ [I7 p c])]:=by
 have a:(out.length+1) * 24<=Bb:=At6 (by omega)
 rw[Bbm]
 simp only[Aea p hp b,fJ,eU,fI,aA,eL,aQ,a,Zt,I7]
theorem Akm (s:Sch):W F79 0 [s.enc]=some [.bool (decide (s.k=5)&&decide (0<s.it.length))]:=by
 rw[Bdl]
 by_cases a:s.k=5<;>simp[a]
theorem Axo (s:Sch):W F31 0 [s.enc]=some [.bool (decide (s.k=5)&&decide (s.it.length=0))]:=by
 rw[Bcn]
 by_cases a:s.k=5<;>simp[a]
theorem Apm (s:Sch)(nm:ByteArray)(d:s.Aq<=1099511627776): ∀ (n i:Nat),i+n=s.f.length->
  ∃r:Int,W F29 1 [.list (s.f.map dW),.str nm,.int s.f.length,.int i]=some [.int r]/\
   ((((s.f.drop i).find? λp=>decide (p.nm=nm))=none/\r<0)\/(∃j:Nat,r=j/\s.f[j]?=((s.f.drop i).find? λp=>decide (p.nm=nm))/\((s.f.drop i).find? λp=>decide (p.nm=nm)).isSome =true))
 | 0,i,h=>by
  rw[Axs]
  have b: ¬ i<s.f.length:=by omega
  refine⟨-1,by simp[b],.inl ⟨by simp[aF (bE b)],by omega⟩⟩
 | n+1,i,h=>by
  have a:i<s.f.length:=by omega
  have o:=s.Bc
  have e:=Bd (i:=i) (by omega)
  obtain⟨r,g,m⟩:=Apm s nm d n (i+1) (by omega)
  rw[Axs,aE a,bY]
  simp only[bB,Aj,a,Zd,aA,aR,Zt,cC,aH,aG,aJ,aC a,aI,Bd3,eN,fV,bK,bR,e,g]
  by_cases c:s.f[i].nm =nm
  ·refine⟨i,by simp[c],.inr ⟨i,rfl,by simp[c],by simp[c]⟩⟩
  ·have c':decide (s.f[i].nm =nm)=false:=by simpa using c
   simp only[c',aB,Zf]
   exact⟨r,rfl,m⟩
theorem Ad4 (s:Sch)(nm:ByteArray)(h:s.Aq<=1099511627776):W F28 0 [s.enc,.str nm]=
  some [(if s.k=5/\s.it.length=0 then(s.fld nm).getD Qq else Qq).enc,.bool (decide (s.k=5/\s.it.length=0)&&(s.fld nm).isSome)]:=by
 obtain⟨r,i,b⟩:=Apm s nm h s.f.length 0 (by omega)
 have c:W F29 0 [.list (s.f.map dW),.str nm]=some [.int r]:=by
  rw[Ba3]
  simpa using i
 simp only[aP]at b
 have m:(s.f.find? λp=>decide (p.nm=nm))=s.fld nm:=rfl
 rw[m]at b
 have e:=Axo s
 rw[Bdc]
 simp only[dZ,aA,c,bK,bB,aR,e,cM,eU,Ax,Al]
 rcases b with⟨a,g⟩ | ⟨j,rfl,a,g⟩
 ·rw[a]
  simp only[g,Zd,Zt,gB,ite_self,eH,gP]
  rfl
 ·have o: ¬ (j:Int)<0:=by omega
  obtain⟨d,hd⟩:=eO.1 g
  rw[hd]at a ⊢
  simp only[o,Ze,aB,Zf,cC,aH,Zt,aG,aJ,a,aI,cL,dJ,cK,aA]
  by_cases q:s.k=5<;>by_cases t:s.it.length=0<;>simp[q,t,Ach]
theorem Ats (v:Val)(nm:ByteArray)(a:v.Aq<=1048576): ∃w:Val,W F82 0 [v.enc,.str nm]=some [.int w.k,.int w.n,.str w.s,.list (w.l.map bU),.list (w.f.map aY),.bool (Kz v nm)]/\w=(v.get nm).getD Aw:=by
 rw[Be2]
 unfold Kz
 refine⟨_,?_,rfl⟩
 simp only[Acn v nm (by omega),Ij,Hq,eB,aR,aA,Ax,Al]
 cases(v.get nm).isSome<;>simp
theorem Tk (l:List ByteArray)(x:ByteArray)(d:l.length<=1099511627776): ∀ (n i:Nat),i+n=l.length->
  ∃r:Int,W F71 1 [.list (l.map .str),.str x,.int l.length,.int i]=some [.int r]/\(decide (0<=r)=(l.drop i).any λe=>decide (e=x))
 | 0,i,h=>by
  rw[Aym]
  have b: ¬ i<l.length:=by omega
  refine⟨-1,by simp[b],by simp[aF (bE b)]⟩
 | n+1,i,h=>by
  have a:i<l.length:=by omega
  have g:=Bd (i:=i) (by omega)
  obtain⟨r,j,m⟩:=Tk l x d n (i+1) (by omega)
  rw[Aym,aE a,fQ]
  simp only[bB,Aj,a,Zd,aA,aR,Zt,cC,aH,aG,aJ,aC a,aI,fV,bR,g,j]
  by_cases c:x=l[i]
  ·refine⟨i,by simp[c],by simp[c]⟩
  ·have c': ¬ l[i]=x:=λh=>c h.symm
   simp only[c,Ze,aB,Zf]
   exact⟨r,rfl,by simp[c',m]⟩
theorem Mo (l:List ByteArray)(x:ByteArray)(b:l.length<=1099511627776):W F70 0 [.list (l.map .str),.str x]=some [.bool (l.any λe=>decide (e=x))]:=by
 obtain⟨r,c,d⟩:=Tk l x b l.length 0 (by omega)
 have a:W F71 0 [.list (l.map .str),.str x]=some [.int r]:=by
  rw[Bd9];simpa using c
 rw[Bal]
 simp only[a,bK,fG,aA,d,aP]
def PgE (v:Val):Prop:=v.Aq<=1048576-> ∀ (s:Sch),SB s->s.Aq<=1048576-> ∀ (p:List Stp) (out:List IV),(∀x∈p,x.fits)->p.length+v.Aq<=1073741824->out.length+(2+s.Aq) * v.size<=4398046511103->
 W F51 0 [.list out,s.enc,v.enc,.list (p.map Stp.enc)]=some [.list (out++Jh v s p)]
theorem Ag0 (s t:Sch)(v:Val)(p:List Stp)(I:v.Aq<=1048576)(J:s.Aq<=1048576)(r:s.it= [t])(d:SB s)(hp: ∀s∈p,s.fits)(K:p.length+v.Aq<=1073741824)
  (z: ∀x∈v.l,PgE x): ∀ (n i:Nat) (out:List IV) (m:List (ByteArray × Bool)),i+n=v.l.length->out.length+(2+s.Aq) * Cz (v.l.drop i)<=4398046511103->
  (∀k,(Vm m k).getD false=(v.l.take i).any (sameKey s.key k))->
  W F72 2 [.list (p.map Stp.enc),.list (v.l.map bU),.int v.l.length,.int i,s.enc,.list (Aut m),.list out]=some [.list (out++K6 (v.l.drop i) s.key t p (v.l.take i))]
 | 0,i,out,m,h,u,g=>by
  have A: ¬ i<v.l.length:=by omega
  rw[Au4,aF (by omega),Lu]
  simp only[bB,Aj,A,Ze,aA,aR,aB,Zf,bL]
 | n+1,i,out,m,h,u,g=>by
  have j:i<v.l.length:=by omega
  have S:=v.Bn
  have L:=Bd (i:=i) (by omega)
  have T:=eE (aK j)
  have e:t∈s.it:=by rw[r];simp
  have htmass:=fL e
  have hd:=aE j
  have B:=s.Ad8
  rw[hd]at u ⊢
  rw[H9]
  have w:(v.l.take i).length =i:=by simp;omega
  have o:v.l.take i++ [v.l[i]]=v.l.take (i+1):=by simp
  rw[w,o]
  have C:=Hi hp (Ab6 s.key v.l[i] i (by omega) (by omega))
  have hlen:=S1 v.l[i] t (p++ [Hs s.key v.l[i] i]) (d.Ie e)
  have M:=Ac5 s.key (v.l.take i) v.l[i] (p++ [Hs s.key v.l[i] i])
  simp only[Cz,cJ]at u
  have N:(2+t.Aq) * v.l[i].size +1<=(2+s.Aq) * v.l[i].size :=by
   have A:=v.l[i].size_pos
   have U:(3+t.Aq) * v.l[i].size <=(2+s.Aq) * v.l[i].size :=aZ (by omega) (bP _)
   have X:(3+t.Aq) * v.l[i].size =(2+t.Aq) * v.l[i].size +v.l[i].size :=by rw[show 3+t.Aq=(2+t.Aq)+1 by omega,gD,gE]
   omega
  have y:=z _ (aK j) (by omega) t (d.Ie e) (by omega) (p++ [Hs s.key v.l[i] i]) out C (by simp;omega) (by omega)
  generalize Y:Jh v.l[i] t (p++ [Hs s.key v.l[i] i])=es1 at *
  have b: ∀k,(v.l.take (i+1)).any (sameKey s.key k)=((v.l.take i).any (sameKey s.key k)||sameKey s.key k v.l[i]):=by
   intro k;rw[<-o,List.any_append];simp
  have go: ∀ (es:List IV) (q:List (ByteArray × Bool)),es.length<=(2+s.Aq) * v.l[i].size ->(∀k,(Vm q k).getD false=(v.l.take (i+1)).any (sameKey s.key k))->
    W F72 4 [.list (p.map Stp.enc),.list (v.l.map bU),.int v.l.length,.int i,s.enc,.list (Aut q),.list (out++es)]=some [.list (out++(es++K6 (v.l.drop (i+1)) s.key t p (v.l.take (i+1))))]:=by
   intro es q Q a
   have R:=Ag0 s t v p I J r d hp K z n (i+1) (out++es) q (by omega) (by rw[aO];omega) a
   rw[Bau]
   simp only[bR,L,aA]
   rw[R,bH]
  have ek:(if isKey v.l[i] s.key=true then !decide (s.key=(⟨#[]⟩:ByteArray)) else false)=Ex v.l[i] s.key:=by unfold Ex Am;cases isKey v.l[i] s.key<;>simp
  rw[Au4]
  simp only[bB,Aj,j,Zd,aA,aR,Zt,cC,aH,aG,aJ,aC j,aI,Aks s v.l[i] i (by omega),bK,Afr p (Hs s.key v.l[i] i) (by omega),eY,r,bN,bO,cU,cE,bQ,y,eX,A9y v.l[i] s.key (by omega),fJ,gL,Ax,Al,ek,A6m,A1v,g]
  unfold Aus
  cases F:Ex v.l[i] s.key with
  | false=>
   simp only[aB,Zf,cD,bL]
   refine go es1 m (by omega) λk=>?_
   rw[g,b]
   simp[sameKey,F]
  | true=>
   have a: ∀k,(Vm (Ajo (Dv v.l[i] s.key) true m) k).getD false=(v.l.take (i+1)).any (sameKey s.key k):=by
    intro k
    rw[Aig,b]
    unfold sameKey at g ⊢
    by_cases c:Dv v.l[i] s.key=k
    ·simp[c,F]
    ·simp[c,g]
   simp only[Zt,bI]
   cases G:(v.l.take i).any (sameKey s.key (Dv v.l[i] s.key)) with
   | true=>
    simp only[Zt,An3 _ _ 8 C (show(p++ [Hs s.key v.l[i] i]).length <=1099511627776 by simp;omega) (show(out++es1).length <=4398046511103 by rw[aO];omega),bK,Awn,Asg,aA]
    have H:=go (es1++ [I7 (p++ [Hs s.key v.l[i] i]) 8]) _ (by simp;omega) a
    simp only[<-bH]at H ⊢
    exact H
   | false=>
    simp only[aB,Zf,Awn,Asg,aA,bL]
    exact go es1 _ (by omega) a
theorem Ac2 (s:Sch)(v:Val)(p:List Stp)(c:v.Aq<=1048576)(g:s.Aq<=1048576)(hp: ∀s∈p,s.fits)(j:p.length+v.Aq<=1073741824): ∀ (n i:Nat) (out:List IV),i+n=s.f.length->out.length+n<=4398046511103->
  W F80 3 [.list (p.map Stp.enc),.list (s.f.map dW),.int s.f.length,.int i,v.enc,.list out]=some [.list (out++(s.f.drop i).flatMap (J7 v p))]
 | 0,i,out,h,m=>by
  have a: ¬ i<s.f.length:=by omega
  rw[Awr,aF (by omega)]
  simp only[aA,bB,Aj,a,Ze,aR,aB,Zf,cR,bL]
 | n+1,i,out,h,m=>by
  have b:i<s.f.length:=by omega
  have t:=s.Bc
  have o:=Bd (i:=i) (by omega)
  have q:=fR (aK b)
  have r:=Hi hp (I3 s.f[i].nm (by omega))
  obtain⟨w,d,_⟩:=Ats v s.f[i].nm c
  rw[Awr,aE b,cA]
  unfold J7
  have e:(if s.f[i].rq =true then !Kz v s.f[i].nm else false)=(s.f[i].rq && !Kz v s.f[i].nm):=by cases s.f[i].rq<;>simp
  simp only[aA,bB,Aj,b,Zd,aR,Zt,cC,aH,aG,aJ,aC b,aI,eN,d,Hq,gW,cM,Ax,Al,Yn,bK,Afr p (Da s.f[i].nm) (by omega),An3 out _ 7 r (show(p++ [Da s.f[i].nm]).length <=1099511627776 by simp;omega) (by omega),Bdv,bR,o,e]
  cases(s.f[i].rq && !Kz v s.f[i].nm) with
  | true=>
   have a:=Ac2 s v p c g hp j n (i+1) (out++ [I7 (p++ [Da s.f[i].nm]) 7]) (by omega) (by simp;omega)
   simp only[Zt,a,bH]
   rfl
  | false=>
   have a:=Ac2 s v p c g hp j n (i+1) out (by omega) (by omega)
   simp only[aB,Zf,a,bD]
   rfl
theorem A9c (s:Sch)(v:Val)(p:List Stp)(h:v.Aq<=1048576)(j:s.Aq<=1048576)(a:SB s)(hp: ∀s∈p,s.fits)(m:p.length+v.Aq<=1073741824)(d: ∀x∈v.f,PgE x.2)(i:Nat)(c:i<v.f.length)(out:List IV)(o:out.length+(2+s.Aq) * v.f[i].2.size <=4398046511103)(t:Sch)(b:D7 s v.f[i].1 =some t):
  W F51 0 [.list out,t.enc,v.f[i].2.enc,.list ((p++ [Da v.f[i].1]).map Stp.enc)]=some [.list (out++Jh v.f[i].2 t (p++ [Da v.f[i].1]))]/\(Jh v.f[i].2 t (p++ [Da v.f[i].1])).length <=(2+s.Aq) * v.f[i].2.size :=by
 have q:=v.Bc
 have r:=dY (aK c)
 have e:=Hi hp (I3 v.f[i].1 (by omega))
 have g:=Jj b
 have u:=S1 v.f[i].2 t (p++ [Da v.f[i].1]) (a.sub b)
 have w:(2+t.Aq) * v.f[i].2.size <=(2+s.Aq) * v.f[i].2.size :=aZ (by omega) (bP _)
 exact⟨d _ (aK c) (by omega) t (a.sub b) (by omega) _ out e (by simp;omega) (by omega),by omega⟩
theorem Ahc (s t:Sch)(v:Val)(p:List Stp)(j:v.Aq<=1048576)(m:s.Aq<=1048576)(d:s.it= [t])(b:SB s)(hp: ∀s∈p,s.fits)(o:p.length+v.Aq<=1073741824)
  (q: ∀x∈v.f,PgE x.2): ∀ (n i:Nat) (out:List IV),i+n=v.f.length->out.length+(2+s.Aq) * B9 (v.f.drop i)<=4398046511103->
  W F51 1 [.list (p.map Stp.enc),.list (v.f.map aY),.int v.f.length,.int i,s.enc,.list out]=some [.list (out++K9 (v.f.drop i) s p)]
 | 0,i,out,h,e=>by
  have g: ¬ i<v.f.length:=by omega
  rw[A0s,aF (by omega),Ki]
  simp only[bB,Aj,g,Ze,aA,aR,aB,Zf,bL]
 | n+1,i,out,h,e=>by
  have c:i<v.f.length:=by omega
  have A:=v.Bc
  have u:=Bd (i:=i) (by omega)
  have hd:=aE c
  rw[hd]at e ⊢
  rw[I4]
  simp only[B9,cJ]at e
  have a:D7 s v.f[i].1 =some t:=by unfold D7;rw[d]
  have key: ∀es:List IV,es.length<=(2+s.Aq) * v.f[i].2.size ->W F51 2 [.list (p.map Stp.enc),.list (v.f.map aY),.int v.f.length,.int i,s.enc,.list (out++es)]=some [.list (out++(es++K9 (v.f.drop (i+1)) s p))]:=by
   intro es w
   have y:=Ahc s t v p j m d b hp o q n (i+1) (out++es) (by omega) (by rw[aO];omega)
   rw[Bdx]
   simp only[bR,u,aA,y,bH]
  obtain⟨g,z⟩:=A9c s v p j m b hp o q i c out (by omega) t a
  rw[A0s]
  unfold Agl
  rw[a]
  simp only[bB,Aj,c,Zd,aA,aR,Zt,cC,aH,aG,aJ,aC c,aI,hD,eB,eY,d,bN,bO,cU,cE,bQ,dI,dB,Yn,bK,Afr p (Da v.f[i].1) (by omega),g]
  by_cases r:v.f[i].2.k =0
  ·simp only[r,Zd,aU,aB,Zf,Zt]
   have:=key [] (by simp)
   simpa using this
  ·simp only[r,Ze,aX,Zt,Zf]
   exact key _ z
theorem Arv (s:Sch)(v:Val)(p:List Stp)(o:v.Aq<=1048576)(q:s.Aq<=1048576)(c:s.k=5)(b:s.it= [])(e:SB s)(hp: ∀s∈p,s.fits)(r:p.length+v.Aq<=1073741824)
  (w: ∀x∈v.f,PgE x.2): ∀ (n i:Nat) (out:List IV),i+n=v.f.length->out.length+s.f.length+(2+s.Aq) * B9 (v.f.drop i)<=4398046511103->
  W F80 1 [.list (p.map Stp.enc),.list (v.f.map aY),.int v.f.length,.int i,s.enc,v.enc,.list out]=some [.list (out++K9 (v.f.drop i) s p++s.f.flatMap (J7 v p))]
 | 0,i,out,h,t=>by
  have u: ¬ i<v.f.length:=by omega
  have y:=Ac2 s v p o q hp r s.f.length 0 out (by omega) (by omega)
  simp only[aN,aP]at y
  rw[Azx,aF (by omega),Ki]
  simp only[bB,Aj,u,Ze,aA,aR,aB,Zf,dZ,bX,aD,y,bL]
 | n+1,i,out,h,t=>by
  have g:i<v.f.length:=by omega
  have I:=v.Bc
  have A:=Bd (i:=i) (by omega)
  have J:=dY (aK g)
  have hd:=aE g
  rw[hd]at t ⊢
  rw[I4]
  simp only[B9,cJ]at t
  have j:=v.f[i].2.size_pos
  have m:1<=(2+s.Aq) * v.f[i].2.size :=by
   have:1 * 1<=(2+s.Aq) * v.f[i].2.size :=aZ (by omega) j
   omega
  have B:=Hi hp (I3 v.f[i].1 (by omega))
  have a:D7 s v.f[i].1 =(s.fld v.f[i].1).map (·.s):=by unfold D7;rw[b]
  have key: ∀es:List IV,es.length<=(2+s.Aq) * v.f[i].2.size ->W F80 2 [.list (p.map Stp.enc),.list (v.f.map aY),.int v.f.length,.int i,s.enc,v.enc,.list (out++es)]=some [.list (out++(es++K9 (v.f.drop (i+1)) s p)++s.f.flatMap (J7 v p))]:=by
   intro es C
   have F:=Arv s v p o q c b e hp r w n (i+1) (out++es) (by omega) (by rw[aO];omega)
   rw[Bdn]
   simp only[bR,A,aA,F,bH]
  rw[Azx]
  unfold Agl
  simp only[bB,Aj,g,Zd,aA,aR,Zt,cC,aH,aG,aJ,aC g,aI,dB,Yn,bK,Afr p (Da v.f[i].1) (by omega),Ad4 s v.f[i].1 (by omega),fJ,c,b,bC,and_self,Zd,bI,cM,hD,eB,dI,gK]
  rw[a]
  cases G:s.fld v.f[i].1 with
  | none=>
   simp only[eH,aX,Zt,An3 out _ 1 B (show(p++ [Da v.f[i].1]).length <=1099511627776 by simp;omega) (by omega),bK,gI]
   exact key _ (by simpa using m)
  | some d=>
   simp only[dJ,aU,aB,Zf,aI,cL]
   by_cases z:v.f[i].2.k =0
   ·simp only[z,Zd,aU,aB,Zf,Zt]
    have:=key [] (by simp)
    simpa using this
   ·obtain⟨u,H⟩:=A9c s v p o q e hp r w i g out (by omega) d.s (by rw[a,G];rfl)
    simp only[z,Ze,aX,Zt,Zf,u,bK]
    exact key _ H
theorem A5c: ∀v:Val,PgE v:=by
 refine eC λv u j w s a x p out hp y S=>?_
 have m:=v.size_pos
 have F:1<=(2+s.Aq) * v.size:=by
  have:1 * 1<=(2+s.Aq) * v.size:=aZ (by omega) m
  omega
 have q: ∀c,W F52 0 [.list out,.list (p.map Stp.enc),.int c]=some [.list (out++ [I7 p c])]:=λc=>An3 out p c hp (by omega) (by omega)
 have J:=v.size_eq
 have K:=s.Bc
 have hle:=s.Kc
 rw[Bez,Ju]
 simp only[dQ,gY,aA,eB,aR,q,bK]
 by_cases G:v.k=s.k
 ·simp only[G,Zd,aU,aB,Zf,Zt,aW,aA,aR]
  by_cases k2:s.k=2
  ·simp only[k2,Zd,Zt,gV,dS,qAA,bB,cT,aA,aR,Ax,Al,Aaa]
   by_cases h:v.n<s.mn<;>by_cases i:s.mx<v.n<;>simp[h,i]
  ·by_cases H:s.k=3
   ·simp only[H,show ¬ (3:Int)=2 by omega,Ze,aB,Zf,Zd,Zt,gN,dS,qAA,eI,bX,aD,cS,bB,cT,aA,aR,Ax,Al,Mo s.en v.s (by omega),bK,cM]
    have e:decide ((0:Int)<(s.en.length:Int))=decide (0<s.en.length):=by simp
    rw[e]
    by_cases h:(v.s.size:Int)<s.mn<;>by_cases i:s.mx<(v.s.size:Int)<;>by_cases L:0<s.en.length<;>cases(s.en.any λe=>decide (e=v.s))<;>simp[h,i,L]
   ·by_cases z:s.k=4
    ·obtain⟨t,I⟩:=bT.1 (a.list z)
     have g:(2+s.Aq) * (1+Cz v.l)<=(2+s.Aq) * v.size:=aZ (bP _) (by omega)
     rw[cJ]at g
     have M:=Vy p s v.l.length
     have d:=Ag0 s t v p w x I a hp y u v.l.length 0 (out++Aaa p s v.l.length) [] (by omega) (by simp only[aP,aO];omega) (λk=>rfl)
     simp only[aN,aP,fK]at d
     have A:W F72 0 [.list out,s.enc,v.enc,.list (p.map Stp.enc)]=some [.list (out++(Aaa p s v.l.length++K6 v.l s.key t p []))]:=by
      have N: ∀o:List IV,o=out++Aaa p s v.l.length->W F72 1 [.list (p.map Stp.enc),s.enc,v.enc,.list o]=some [.list (out++(Aaa p s v.l.length++K6 v.l s.key t p []))]:=by
       intro o Q
       rw[Bd8,Q]
       simp only[cV,bX,aD,aA]
       rw[<-bH]
       exact d
      rw[Bd6]
      simp only[cV,dS,qAA,bX,aD,bB,cT,aA,aR,Ax,Al,q,bK]
      by_cases h:(v.l.length:Int)<s.mn<;>by_cases i:s.mx<(v.l.length:Int)<;>simp only[h,i,Zd,Ze,Zt,Zf,aB]<;>exact N _ (by simp[Aaa,h,i])
     simp only[z,show ¬ (4:Int)=2 by omega,show ¬ (4:Int)=3 by omega,Ze,aB,Zf,Zd,Zt,A,bK,I,fB]
    ·by_cases B:s.k=5
     ·have g:(2+s.Aq) * (1+B9 v.f)<=(2+s.Aq) * v.size:=aZ (bP _) (by omega)
      rw[cJ]at g
      simp only[B,show ¬ (5:Int)=2 by omega,show ¬ (5:Int)=3 by omega,show ¬ (5:Int)=4 by omega,Ze,aB,Zf,Zd,Zt,Akm,bK,bI,aR]
      cases b:s.it with
      | nil=>
       have d:=Arv s v p w x B b a hp y j v.f.length 0 out (by omega) (by simp only[aP];omega)
       simp only[aN,aP]at d
       have A:W F80 0 [.list out,s.enc,v.enc,.list (p.map Stp.enc)]=some [.list (out++(K9 v.f s p++s.f.flatMap (J7 v p)))]:=by
        rw[Bds,<-bH]
        simp only[cP,bX,aD,aA]
        exact d
       simp only[bC,Nat.lt_irrefl,Ze,aB,Zf,A,bK]
      | cons t r=>
       have R:r= []:=by have:=a.one;rw[b]at this;simpa using this
       subst R
       have C:=a.nof (by rw[b];simp)
       have d:=Ahc s t v p w x b a hp y j v.f.length 0 out (by omega) (by simp only[aP];omega)
       simp only[aN,aP]at d
       simp only[bA,Nat.zero_lt_succ,Zd,Zt,cP,bX,aD,aA,C,cR,bL]
       exact d
     ·simp only[k2,H,z,B,Ze,aB,Zf,Akm,bK,cD,aR,bL]
 ·simp only[G,Ze,aX,Zt,Zf]
theorem Agn (v:Val)(b:v.Aq<=1048576)(s:Sch)(a:SB s)(c:s.Aq<=1048576):W F50 0 [s.enc,v.enc]=some [.list (Jh v s [])]:=by
 have d:=v.Eu
 have hmul:(2+s.Aq) * v.size<=1048578 * 1048576:=aZ (by omega) (by omega)
 have h:=A5c v b s a c [] [] (by simp) (by simp;omega) (by simp;omega)
 simp only[bO,bD]at h
 rw[Bdb]
 simp only[h,bK]
end Go.CT.Sch
namespace Go.CT.Sch
open Go.Proofs
def Jf (o:Option ByteArray)(x:ByteArray):Bool:=match o with | none=>true | some q=>blt q x
def A06 (mn mx:Int):Option ByteArray->List ByteArray->Bool
 | _,[]=>true
 | o,x::r=>Jq x&&decide (mn<=x.size)&&decide ((x.size:Int)<=mx)&&Jf o x&&A06 mn mx (some x) r
def Bfi (x:SFld):Bool:=x.df.all λv=> !decide (v.k=0)&&v.valid&&decide ((Jh v x.s []).length =0)
def fOk (g:Sch->Bool):Option ByteArray->List SFld->Bool
 | _,[]=>true
 | o,x::r=>C8 x.nm&&Jf o x.nm&&g x.s&&decide (x.df.length<=1)&&Bfi x&&fOk g (some x.nm) r
def Ib (s:Sch):Bool:=decide (s.key=Am)&&decide (s.it.length=0)&&decide (s.f.length=0)
def Atg (s:Sch)(m:Int):Bool:=decide (0<=s.mn)&&decide (s.mn<=s.mx)&&decide (s.mx<=m)
def Y8 (s:Sch):Bool:=decide (s.key=Am)||(match s.it with | t::_=>decide (t.k=5)&&(t.fld s.key).isSome &&((t.fld s.key).getD Qq).rq &&decide (((t.fld s.key).getD Qq).s.k =3) | []=>false)
def Cj:Nat->Sch->Bool
 | 0,_=>false
 | d+1,s=>
  if s.k=1 then Ib s&&decide (s.mn=0)&&decide (s.mx=0)&&decide (s.en.length=0)
  else if s.k=2 then Ib s&&decide (-1000000000000000<=s.mn)&&decide (s.mn<=s.mx)&&decide (s.mx<=1000000000000000)&&decide (s.en.length=0)
  else if s.k=3 then Ib s&&Atg s 200&&A06 s.mn s.mx none s.en&&decide (s.en.length<=64)
  else if s.k=4 then Atg s 64&&decide (s.en.length=0)&&decide (s.f.length=0)&&decide (s.it.length=1)&&Y8 s&&s.it.all (Cj d)
  else if s.k=5 then decide (s.mn=0)&&decide (s.mx=0)&&decide (s.en.length=0)&&decide (s.key=Am)&&decide (s.it.length<=1)&&(decide (s.it.length=0)||decide (s.f.length=0))&&decide (s.f.length<=64)&&s.it.all (Cj d)&&fOk (Cj d) none s.f
  else false
def valid (s:Sch):Bool:=Cj 12 s
theorem Alh {g:Sch->Bool} : ∀ {l:List SFld} {o:Option ByteArray},fOk g o l=true-> ∀x∈l,C8 x.nm=true/\g x.s=true/\x.df.length<=1/\Bfi x=true
 | [],_,_,x,a=>by simp at a
 | y::r,o,h,x,a=>by
  simp only[fOk,aL,decide_eq_true_eq]at h
  rcases bJ.1 a with rfl | a
  ·exact⟨h.1.1.1.1.1,h.1.1.1.2,h.1.1.2,h.1.2⟩
  ·exact Alh h.2 x a
theorem Hf: ∀ (d:Nat) (s:Sch),Cj d s=true->SB s
 | 0,s,h=>by simp[Cj]at h
 | d+1,s,h=>by
  have leaf:s.k≠4->Ib s=true->SB s:=λg h=>by
   simp only[Ib,aL,decide_eq_true_eq]at h
   have a:s.it= []:=aV.1 h.1.2
   have b:s.f= []:=aV.1 h.2
   exact .mk s (by omega) (λe=>absurd a e) (λe=>absurd e g) (by simp[a]) (by simp[b])
  unfold Cj at h
  split at h
  ·simp only[aL]at h;exact leaf (by omega) h.1.1.1
  ·split at h
   ·simp only[aL]at h;exact leaf (by omega) h.1.1.1.1
   ·split at h
    ·simp only[aL]at h;exact leaf (by omega) h.1.1.1
    ·split at h
     ·simp only[aL,decide_eq_true_eq,bM]at h
      have b:s.f= []:=aV.1 h.1.1.1.2
      exact .mk s (by omega) (λ_=>b) (λ_=>h.1.1.2) (λx c=>Hf d x (h.2 x c)) (by simp[b])
     ·split at h
      ·simp only[aL,decide_eq_true_eq,bM,eA]at h
       refine .mk s h.1.1.1.1.2 (λe=>?_) (λe=>by omega) (λx c=>Hf d x (h.1.2 x c)) (λp hp=>Hf d p.s (Alh h.2 p hp).2.1)
       rcases h.1.1.1.2 with a | a
       ·exact absurd (aV.1 a) e
       ·exact aV.1 a
      ·cases h
def Qm (l:List SFld):Nat->Option ByteArray
 | 0=>none
 | i+1=>(l[i]?).map (·.nm)
def Sj (l:List ByteArray):Nat->Option ByteArray
 | 0=>none
 | i+1=>l[i]?
theorem Aic (s:Sch):W F187 0 [s.enc]=some [.bool (Ib s)]:=by
 rw[A48]
 simp only[eX,eY,dZ,bX,aD,aA,fV,aW,aR,Ax,Al,Dk]
 congr 3
 unfold Ib
 rw[aT]
 simp[and_assoc]
theorem Ab9 (s:Sch)(m:s.Aq<=1048576): ∀ (n i:Nat),i+n=s.en.length->
  W F188 1 [.int i,s.enc]=some [.bool (A06 s.mn s.mx (Sj s.en i) (s.en.drop i)&&(Ib s&&Atg s 200&&decide (s.en.length<=64)))]
 | 0,i,h=>by
  have o: ¬ i<s.en.length:=by omega
  rw[Aq5,aF (by omega)]
  simp only[eI,bX,aD,aA,bB,Aj,o,Ze,aR,aB,Zf,Aic,bK,dS,qAA,fG,eP,Ax,Al]
  congr 3
  unfold Atg A06
  rw[aT]
  simp[and_assoc]
  omega
 | n+1,i,h=>by
  have a:i<s.en.length:=by omega
  have t:=s.Kc
  have q:=Bd (i:=i) (by omega)
  have j:=Ab9 s m n (i+1) (by omega)
  have u:=Sch.Axf (aK a)
  have c:Sj s.en (i+1)=some s.en[i]:=by simp[Sj,a]
  rw[c]at j
  rw[Aq5,aE a]
  simp only[A06,eI,bX,aD,aA,bB,Aj,a,Zd,aR,Zt,cC,aH,aG,aJ,aC a,aI,cS,Axg s.en[i] (by omega),bK,cM,dS,qAA,cT,bR,q,j]
  generalize (Ib s&&Atg s 200&&decide (s.en.length<=64))=R
  cases i with
  | zero=>
   simp only[Sj,Jf]
   by_cases d:s.mn<=(s.en[0].size :Int)<;>by_cases e:(s.en[0].size :Int)<=s.mx<;>cases Jq s.en[0]<;>simp[d,e,gQ.2,gR.1]
  | succ i=>
   have b:i<s.en.length:=by omega
   have g:IntKind.i64.wrap (((i+1:Nat):Int) - 1)=i:=by rw[wrap64 (by omega) (by omega)];omega
   have hp:(0:Int)<((i+1:Nat):Int):=by omega
   simp only[Sj,aC b,Jf,fC,g,hp,Zd,Zt,aH,aG,aI,aA,Zp]
   by_cases d:s.mn<=(s.en[i+1].size :Int)<;>by_cases e:(s.en[i+1].size :Int)<=s.mx<;>cases Jq s.en[i+1]<;>cases r:blt s.en[i] s.en[i+1]<;>simp[d,e,gQ.2,gR.1,aC b,Zp,r, -O.Al4]
theorem Uv (d:Nat)(s:Sch)(hd:d<=12)(N:s.Aq<=1048576)(M: ∀p∈s.f,W Bgr 0 [p.s.enc,.int d]=some [.bool (Cj d p.s)]): ∀ (n i:Nat),i+n=s.f.length->
  W F192 1 [.int ((d+1:Nat):Int),.int i,s.enc]=some [.bool (fOk (Cj d) (Qm s.f i) (s.f.drop i))]
 | 0,i,h=>by
  have q: ¬ i<s.f.length:=by omega
  rw[An1,aF (by omega)]
  simp only[dZ,bX,aD,aA,bB,Aj,q,Ze,aR,aB,Zf,fOk]
 | n+1,i,h=>by
  have e:i<s.f.length:=by omega
  have X:=s.Bc
  have Q:=Bd (i:=i) (by omega)
  have r:IntKind.i64.wrap (((d+1:Nat):Int) - 1)=(d:Int):=by rw[wrap64 (by omega) (by omega)];omega
  have Y:=fR (aK e)
  have c:=Uv d s hd N M n (i+1) (by omega)
  have t:Qm s.f (i+1)=some s.f[i].nm :=by simp[Qm,e]
  rw[t]at c
  have R:=M _ (aK e)
  -- the order
  have g: ∀ (K:IV->Option IV),((O.gt (.int i) (.int 0)).bind λu=>
    (cnd u (
      (O.sub .i64 (.int i) (.int 1)).bind λw=>
      (eZ (.list (s.f.map dW)) w).bind λx=>
      (eS 0 x).bind λy=>
      (O.sLe (.str s.f[i].nm) y).bind λz=>
      some z) (some (.bool false))).bind K)=K (.bool (!Jf (Qm s.f i) s.f[i].nm)):=by
   intro K
   cases i with
   | zero=>simp[Qm,Jf]
   | succ j=>
    have S:j<s.f.length:=by omega
    have A:IntKind.i64.wrap (((j+1:Nat):Int) - 1)=j:=by rw[wrap64 (by omega) (by omega)];omega
    have hp:(0:Int)<((j+1:Nat):Int):=by omega
    simp only[Qm,aC S,aI,Jf,cT,hp,Zd,aA,aR,Zt,fC,A,cC,aH,aG,aJ,eN,Zp]
  have B:eZ (.list (s.f.map dW)) (.int i)=some s.f[i].enc :=by
   simp only[cC,aH,Zt,aG,aJ,aC e,aI]
  rw[An1,aE e]
  simp only[dZ,bX,aD,aA,bB,Aj,e,Zd,aR,Zt,B,eN,fOk,Aqr s.f[i].nm (by omega),bK,cM]
  simp only[g]
  simp only[eN,SFld.Bz,gK,bK,cM,aR,fC,r,R,bR,Q,c,bX,aD,cT,aW,aA]
  cases C8 s.f[i].nm with
  | false=>simp
  | true=>
   cases Jf (Qm s.f i) s.f[i].nm with
   | false=>simp
   | true=>
    cases C:Cj d s.f[i].s with
    | false=>simp
    | true=>
     by_cases hlen:s.f[i].df.length <=1
     ·have a: ¬ (1:Int)<s.f[i].df.length :=by omega
      have F:=Hf d _ C
      unfold Bfi
      by_cases q:s.f[i].df.length =1
      ·obtain⟨v,m⟩:=bT.1 q
       have T:=Sch.A9i (aK e) (show v∈s.f[i].df by rw[m];simp)
       have G:=Ari v (by omega) s.f[i].s F (by omega) [] (by simp) (by simp;omega)
       simp only[bO]at G
       have H:=Pc v (by omega)
       rw[m]
       by_cases o:v.k=0
       ·simp[o]
       ·cases b:v.valid with
        | false=>simp[o,H,b]
        | true=>
         by_cases I:(Jh v s.f[i].s []).length =0
         ·simp[o,H,b,G,aV.1 I]
         ·have J:0<(Jh v s.f[i].s []).length :=fS I
          have L: ¬ Jh v s.f[i].s []= []:=λh=>I (by rw[h];rfl)
          simp[o,H,b,G,J,L]
      ·have U:s.f[i].df = []:=aV.1 (by omega)
       simp[U]
     ·have a:(1:Int)<s.f[i].df.length :=by omega
      simp[a,hlen]
theorem egL (mn mx:Int)(a b c:Nat):(if(if(if(if(if decide (mn<0)=true then true else decide (mx<mn))=true then true else decide ((64:Int)<mx))=true then true else decide ((0:Int)<(a:Int)))=true then true else decide ((0:Int)<(b:Int)))=true then true else !decide ((c:Int)=1))= !(decide (0<=mn)&&decide (mn<=mx)&&decide (mx<=64)&&decide (a=0)&&decide (b=0)&&decide (c=1)):=by
 rw[aT];simp;omega
theorem egS (mn mx:Int)(a b c:Nat)(k:Bool):(if(if(if(if(if(if(!decide (mn=0))=true then true else !decide (mx=0))=true then true else decide ((0:Int)<(a:Int)))=true then true else !k)=true then true else decide ((1:Int)<(b:Int)))=true then true else if decide ((b:Int)=1)=true then decide ((0:Int)<(c:Int)) else false)=true then true else decide ((64:Int)<(c:Int)))
  = !(decide (mn=0)&&decide (mx=0)&&decide (a=0)&&k&&decide (b<=1)&&(decide (b=0)||decide (c=0))&&decide (c<=64)):=by
 cases k
 ·simp
 ·rw[aT];simp;omega
theorem T3: ∀ (d:Nat) (s:Sch),d<=12->s.Aq<=1048576->W Bgr 0 [s.enc,.int d]=some [.bool (Cj d s)]
 | 0,s,hd,o=>by rw[Aqy];simp[Cj]
 | d+1,s,hd,o=>by
  have q: ¬ ((d+1:Nat):Int)=0:=by omega
  have r:IntKind.i64.wrap (((d+1:Nat):Int) - 1)=(d:Int):=by rw[wrap64 (by omega) (by omega)];omega
  have g: ∀t∈s.it,W Bgr 0 [t.enc,.int d]=some [.bool (Cj d t)]:=λt b=>T3 d t (by omega) (by have:=fL b;omega)
  have u: ∀p∈s.f,W Bgr 0 [p.s.enc,.int d]=some [.bool (Cj d p.s)]:=λp hp=>T3 d p.s (by omega) (by have:=fR hp;omega)
  rw[Aqy]
  unfold Cj
  simp only[aW,q,Ze,aA,aR,aB,Zf,gY,dS,qAA,eI,Aic,bK,eP,bX,aD]
  by_cases k1:s.k=1
  ·simp only[k1,Zd,Zt,aA,aR,Ax,Al]
   congr 3
   rw[aT];simp[and_assoc]
  ·by_cases k2:s.k=2
   ·simp only[k2,show ¬ (2:Int)=1 by omega,Zd,Ze,aB,Zf,Zt,aA,aR,Ax,Al]
    congr 3
    rw[aT];simp[and_assoc]
   ·by_cases z:s.k=3
    ·have b:=Ab9 s o s.en.length 0 (by omega)
     simp only[aN,aP,Sj]at b
     simp only[z,show ¬ (3:Int)=1 by omega,show ¬ (3:Int)=2 by omega,Zd,Ze,aB,Zf,Zt,A3z,b,bK]
     congr 3
     generalize A06 s.mn s.mx none s.en=a
     cases a<;>cases Ib s<;>cases Atg s 200<;>simp
    ·by_cases A:s.k=4
     ·have w:W F190 0 [s.enc,.int ((d+1:Nat):Int)]=some [.bool (Atg s 64&&decide (s.en.length=0)&&decide (s.f.length=0)&&decide (s.it.length=1)&&Y8 s&&s.it.all (Cj d))]:=by
       rw[A49]
       simp only[dS,qAA,eI,eY,dZ,bX,aD,aA,bB,cT,eB,aR,Ax,Al]
       have eg:(if(if(if(if(if decide (s.mn<0)=true then true else decide (s.mx<s.mn))=true then true else decide ((64:Int)<s.mx))=true then true else decide ((0:Int)<(s.en.length:Int)))=true then true else decide ((0:Int)<(s.f.length:Int)))=true then true else !decide ((s.it.length:Int)=1))= !(Atg s 64&&decide (s.en.length=0)&&decide (s.f.length=0)&&decide (s.it.length=1)):=by
        exact egL s.mn s.mx s.en.length s.f.length s.it.length
       rw[eg]
       cases i:(Atg s 64&&decide (s.en.length=0)&&decide (s.f.length=0)&&decide (s.it.length=1)) with
       | false=>simp
       | true=>
        simp only[aL,decide_eq_true_eq]at i
        obtain⟨t,b⟩:=bT.1 i.2
        have j:t∈s.it:=by rw[b];simp
        have C:=fL j
        have x:W F190 1 [.int ((d+1:Nat):Int),s.enc]=some [.bool (Cj d t)]:=by
         rw[A7s]
         simp only[eY,b,bN,bO,aA,cC,cU,Zt,cE,bQ,fC,r,g t j,bK]
        have y:=W6 t s.key (by omega)
        simp only[aU,aB,Zf,eX,aA,gL,aR,x,b,bN,bO,cC,cU,Zt,cE,bQ,y,fJ,gY,gW,SFld.B5,eB,cM,Ax,Al,bS,cH,cK,bI,Y8,Dk]
        by_cases c:s.key=Am
        ·simp[c]
        ·by_cases F:t.k=5<;>by_cases G:((t.fld s.key).getD Qq).s.k =3<;>cases(t.fld s.key).isSome<;>cases((t.fld s.key).getD Qq).rq<;>simp[c,F,G]
      simp only[A,show ¬ (4:Int)=1 by omega,show ¬ (4:Int)=2 by omega,show ¬ (4:Int)=3 by omega,Zd,Ze,aB,Zf,Zt,w,bK]
     ·by_cases B:s.k=5
      ·have e:=Uv d s (by omega) o u s.f.length 0 (by omega)
       simp only[aN,aP,Qm]at e
       have w:W F192 0 [s.enc,.int ((d+1:Nat):Int)]=some [.bool (decide (s.mn=0)&&decide (s.mx=0)&&decide (s.en.length=0)&&decide (s.key=Am)&&decide (s.it.length<=1)&&(decide (s.it.length=0)||decide (s.f.length=0))&&decide (s.f.length<=64)&&s.it.all (Cj d)&&fOk (Cj d) none s.f)]:=by
        rw[A1s]
        simp only[dS,qAA,eI,eX,eY,dZ,bX,aD,aA,gL,cT,aW,eB,aR,Ax,Al,Dk]
        have eg:(if(if(if(if(if(if(!decide (s.mn=0))=true then true else !decide (s.mx=0))=true then true else decide ((0:Int)<(s.en.length:Int)))=true then true else !decide (s.key=Am))=true then true else decide ((1:Int)<(s.it.length:Int)))=true then true else if decide ((s.it.length:Int)=1)=true then decide ((0:Int)<(s.f.length:Int)) else false)=true then true else decide ((64:Int)<(s.f.length:Int)))
          = !(decide (s.mn=0)&&decide (s.mx=0)&&decide (s.en.length=0)&&decide (s.key=Am)&&decide (s.it.length<=1)&&(decide (s.it.length=0)||decide (s.f.length=0))&&decide (s.f.length<=64)):=by
         exact egS s.mn s.mx s.en.length s.it.length s.f.length _
        rw[eg]
        cases i:(decide (s.mn=0)&&decide (s.mx=0)&&decide (s.en.length=0)&&decide (s.key=Am)&&decide (s.it.length<=1)&&(decide (s.it.length=0)||decide (s.f.length=0))&&decide (s.f.length<=64)) with
        | false=>simp
        | true=>
         simp only[aL,eA,decide_eq_true_eq]at i
         by_cases H:s.it.length=1
         ·obtain⟨t,b⟩:=bT.1 H
          have I:s.f= []:=by
           rcases i.1.2 with h | h
           ·omega
           ·exact aV.1 h
          have J:=g t (by rw[b];simp)
          have m:IntKind.i64.wrap (d:Int)=(d:Int):=wrap64 (by omega) (by omega)
          simp[b,I,m,J,fOk]
         ·have K:s.it= []:=aV.1 (by omega)
          push_cast at e
          simp[K,e]
       simp only[B,show ¬ (5:Int)=1 by omega,show ¬ (5:Int)=2 by omega,show ¬ (5:Int)=3 by omega,show ¬ (5:Int)=4 by omega,Zd,Ze,aB,Zf,Zt,w,bK]
      ·simp only[k1,k2,z,A,B,Ze,aB,Zf]
theorem Pz (s:Sch)(a:s.Aq<=1048576):W F185 0 [s.enc]=some [.bool s.valid]:=by
 rw[A6y]
 have:W Bgr 0 [s.enc,.int 12]=some [.bool s.valid]:=T3 12 s (by omega) a
 simp only[this,bK]
end Go.CT.Sch
namespace Go.CT.Sch
open Go.Proofs
theorem Ak2 (nm:ByteArray):(A4o [(nm,Aw)]).valid =C8 nm:=by
 have a:Wb [(nm,Aw)]= [(nm,Aw)]:=Awx (cF _ _)
 unfold A4o
 rw[a]
 unfold fM
 have b:Cd 11 Aw=true:=by decide
 simp only[Cd,Val.Biz,Val.Bku,hI,Val.Z2,hJ,Hm,bS,cH,b,rising,Val.size,Cz,B9,Aw]
 simp
theorem A6r (nm:ByteArray)(t:nm.size<=1048576)(K:IV->Option (List IV)):(O.Rl [.str nm,(.int 0),(.int 0),(.str ⟨#[]⟩),(.list []),(.list [])]).bind (λo=>
  (O.N2 [o]).bind λq=>
  calls (W F36 0 [q]) 5 λb c d g h=>
  (O.Rl [b,c,d,g,h]).bind λi=>
  calls (W F21 0 [i]) 1 K)=K (.bool (C8 nm)):=by
 have e:IV.agg [.str nm,(.int 0),(.int 0),(.str ⟨#[]⟩),(.list []),(.list [])]=aY (nm,Aw):=rfl
 have a:Cl [(nm,Aw)]<=4294967200:=by
  rw[Ca,Ck,hB]
  simp only[Aw,hI,Val.Z2,hJ,En,Ck,show Am.size=0 from rfl];omega
 have j:=Avw [(nm,Aw)] a
 have r:(A4o [(nm,Aw)]).Aq <=1099511627776:=by have:=Awh [(nm,Aw)];omega
 have m:=Iq _ r
 rw[Ak2]at m
 rw[eF]at j
 simp only[bN,bO]at j
 simp only[eU,fI,aA,e,j,gM,hC,m,bK]
theorem At9 (s:Sch)(m:Int):W F18 0 [s.enc,.int m]=some [.bool (Atg s m)]:=by
 rw[Bei]
 simp only[dS,qAA,eP,aA,aR,Ax,Al]
 congr 3
 unfold Atg
 rw[aT];simp[and_assoc]
theorem Af2 (s:Sch)(x:s.Aq<=1048576): ∀ (n i:Nat),i+n=s.en.length->
  W F19 1 [.list (s.en.map .str),.int s.en.length,.int i,s.enc]=some [.bool (A06 s.mn s.mx (Sj s.en i) (s.en.drop i)&&decide (s.en.length<=64))]
 | 0,i,h=>by
  have y: ¬ i<s.en.length:=by omega
  rw[Azp,aF (by omega)]
  simp only[eI,bX,aD,aA,bB,Aj,y,Ze,aR,aB,Zf,eP,A06,bI]
  congr 3
  rw[aT];simp;omega
 | n+1,i,h=>by
  have a:i<s.en.length:=by omega
  have F:=s.Kc
  have z:=Bd (i:=i) (by omega)
  have u:=Af2 s x n (i+1) (by omega)
  have G:=Sch.Axf (aK a)
  have c:Sj s.en (i+1)=some s.en[i]:=by simp[Sj,a]
  rw[c]at u
  have e:IV.agg [.int 3,.int 0,.str s.en[i],.list [],.list []]=bU ⟨3,0,s.en[i],[],[]⟩:=rfl
  have w:=Iq ⟨3,0,s.en[i],[],[]⟩ (by rw[hB];simp[En,Ck];omega)
  rw[Ahf]at w
  have d:eZ (.list (s.en.map .str)) (.int i)=some (.str s.en[i]):=by
   simp only[cC,aH,Zt,aG,aJ,aC a,aI]
  have b: ∀ (K:IV->Option IV),((O.gt (.int i) (.int 0)).bind λg=>
    (cnd g (
     (eS 3 s.enc).bind λm=>
     (O.sub .i64 (.int i) (.int 1)).bind λo=>
     (eZ m o).bind λq=>
     (O.sGe q (.str s.en[i])).bind λr=>
     some r) (some (.bool false))).bind K)=K (.bool (!Jf (Sj s.en i) s.en[i])):=by
   intro K
   cases i with
   | zero=>simp[Sj,Jf]
   | succ j=>
    have A:j<s.en.length:=by omega
    have t:IntKind.i64.wrap (((j+1:Nat):Int) - 1)=j:=by rw[wrap64 (by omega) (by omega)];omega
    have hp:(0:Int)<((j+1:Nat):Int):=by omega
    simp only[eI,Sj,aC A,aI,Jf,cT,hp,Zd,aA,aR,Zt,fC,t,cC,aH,aG,aJ,Rt]
  rw[Azp,aE a]
  simp only[A06,aA,bB,Aj,a,Zd,aR,Zt,d]
  simp only[b]
  simp only[cS,dS,qAA,aA,bB,cT,aR,Akb,gM,eU,e,w,bK,cM,bR,z,u]
  by_cases B:s.mn<=(s.en[i].size :Int)<;>by_cases C:(s.en[i].size :Int)<=s.mx<;>cases Jq s.en[i]<;>cases Jf (Sj s.en i) s.en[i]<;>simp[B,C,gQ.2,gR.1]
theorem Bay (s:Sch)(a:s.Aq<=1048576):W F19 0 [s.enc]=some [.bool (A06 s.mn s.mx none s.en&&decide (s.en.length<=64))]:=by
 have h:=Af2 s a s.en.length 0 (by omega)
 simp only[aN,aP,Sj]at h
 rw[Bb3]
 simp only[eI,bX,aD,aA]
 exact h
theorem A1d (s t:Sch)(q:s.Aq<=1048576)(m:s.it= [t])(a:SB t):W F27 0 [s.enc]=some [.bool (Y8 s)]:=by
 have o:=fL (show t∈s.it by rw[m];simp)
 have b:=Ad4 t s.key (by omega)
 rw[Bbd]
 unfold Y8
 simp only[eY,m,bN,bO,cC,cU,Zt,cE,bQ,aA,eX,b,fJ,fV,aR,gW,SFld.B5,aW,Ax,Al,Dk]
 congr 3
 by_cases c:s.key=Am
 ·simp[c]
 ·by_cases d:t.k=5
  ·by_cases g:t.it.length=0
   ·cases(t.fld s.key).isSome<;>cases h:((t.fld s.key).getD Qq).rq<;>simp[c,d,g,h]
   ·have i:t.f= []:=a.nof λe=>g (by rw[e];rfl)
    have j:t.fld s.key=none:=by unfold Sch.fld;rw[i];rfl
    simp[c,d,g,j]
  ·simp[c,d]
theorem Zi (d:Nat)(s:Sch)(hd:d<=12)(t:s.Aq<=1048576)(i:Nat)(e:i<s.f.length)(a:SB s.f[i].s): ∀ (n j:Nat),j+n=s.f[i].df.length ->
  W F35 2 [.int d,.list (s.f.map dW),.int s.f.length,.int i,.list (s.f[i].df.map bU),.int s.f[i].df.length,.int j,s.enc,s.f[i].enc]
   =if((s.f[i].df.drop j).all λv=> !decide (v.k=0)&&v.valid&&decide ((Jh v s.f[i].s []).length =0))=true then W F35 1 [.int d,.list (s.f.map dW),.int s.f.length,.int ((i+1:Nat):Int),s.enc]else some [.bool false]
 | 0,j,h=>by
  have u: ¬ j<s.f[i].df.length :=by omega
  have w:=s.Bc
  have g:=Bd (i:=i) (by omega)
  rw[A0k,aF (by omega)]
  simp only[bB,Aj,u,Ze,aA,aR,aB,Zf,bR,g,cH,Zt]
 | n+1,j,h=>by
  have b:j<s.f[i].df.length :=by omega
  have w:=fR (aK e)
  have B:=Gs (fN (f:=bU) (aK b))
  have x:=Sch.A9i (aK e) (aK b)
  have hlen:s.f[i].df.length <=Ds s.f[i].df :=by have:=D4 (s.f[i].df.map bU);rw[aD]at this;exact this
  have g:=Bd (i:=j) (by omega)
  have y:=Zi d s hd t i e a n (j+1) (by omega)
  have z:=Iq s.f[i].df[j] (by omega)
  have A:=Agn s.f[i].df[j] (by omega) s.f[i].s a (by omega)
  rw[A0k,aE b,bS]
  simp only[bB,Aj,b,Zd,aA,aR,Zt,cC,aH,aG,aJ,aC b,aI,dQ,aW,z,bK,cM,gK,A,bX,cT,bR,g,y]
  by_cases c:s.f[i].df[j].k =0
  ·simp[c]
  ·cases r:s.f[i].df[j].valid with
   | false=>simp[c]
   | true=>
    by_cases m:(Jh s.f[i].df[j] s.f[i].s []).length =0
    ·simp[c,aV.1 m]
    ·have o:0<(Jh s.f[i].df[j] s.f[i].s []).length :=fS m
     have q: ¬ Jh s.f[i].df[j] s.f[i].s []= []:=λh=>m (by rw[h];rfl)
     simp[c,o,q]
theorem Wv (d:Nat)(s:Sch)(hd:d<=12)(z:s.Aq<=1048576)(A: ∀p∈s.f,W F17 0 [p.s.enc,.int d]=some [.bool (Cj d p.s)]): ∀ (n i:Nat),i+n=s.f.length->
  W F35 1 [.int d,.list (s.f.map dW),.int s.f.length,.int i,s.enc]=some [.bool (fOk (Cj d) (Qm s.f i) (s.f.drop i))]
 | 0,i,h=>by
  have C: ¬ i<s.f.length:=by omega
  rw[Avc,aF (by omega)]
  simp only[bB,Aj,C,Ze,aA,aR,aB,Zf,fOk]
 | n+1,i,h=>by
  have c:i<s.f.length:=by omega
  have H:=s.Bc
  have I:=fR (aK c)
  have b:=Wv d s hd z A n (i+1) (by omega)
  have g:Qm s.f (i+1)=some s.f[i].nm :=by simp[Qm,c]
  rw[g]at b
  have F:=A _ (aK c)
  have m:eZ (.list (s.f.map dW)) (.int i)=some s.f[i].enc :=by
   simp only[cC,aH,Zt,aG,aJ,aC c,aI]
  have e: ∀ (K:IV->Option IV),((O.gt (.int i) (.int 0)).bind λo=>
    (cnd o (
      (eS 6 s.enc).bind λq=>
      (O.sub .i64 (.int i) (.int 1)).bind λr=>
      (eZ q r).bind λt=>
      (eS 0 t).bind λu=>
      (O.sGe u (.str s.f[i].nm)).bind λw=>
      some w) (some (.bool false))).bind K)=K (.bool (!Jf (Qm s.f i) s.f[i].nm)):=by
   intro K
   cases i with
   | zero=>simp[Qm,Jf]
   | succ j=>
    have G:j<s.f.length:=by omega
    have x:IntKind.i64.wrap (((j+1:Nat):Int) - 1)=j:=by rw[wrap64 (by omega) (by omega)];omega
    have hp:(0:Int)<((j+1:Nat):Int):=by omega
    simp only[dZ,Qm,aC G,aI,Jf,cT,hp,Zd,aA,aR,Zt,fC,x,cC,aH,aG,aJ,eN,Rt]
  rw[Avc,aE c]
  simp only[bB,Aj,c,Zd,aA,aR,Zt,m,eN,fOk]
  rw[A6r s.f[i].nm (by omega)]
  simp only[cM,aA]
  simp only[e]
  simp only[SFld.Bz,gK,bK,cM,aR,F,bX,aD,cT,aA]
  cases C8 s.f[i].nm with
  | false=>simp
  | true=>
   cases Jf (Qm s.f i) s.f[i].nm with
   | false=>simp
   | true=>
    cases y:Cj d s.f[i].s with
    | false=>simp
    | true=>
     by_cases hlen:s.f[i].df.length <=1
     ·have a: ¬ (1:Int)<s.f[i].df.length :=by omega
      have B:=Zi d s hd z i c (Hf d _ y) s.f[i].df.length 0 (by omega)
      simp only[aN,aP,b]at B
      simp only[aU,aB,Zf,a,Ze,aA,aR,B,Bfi,hlen,Zd,bI]
      cases(s.f[i].df.all λv=> !decide (v.k=0)&&v.valid&&decide ((Jh v s.f[i].s []).length =0))<;>simp
     ·have a:(1:Int)<s.f[i].df.length :=by omega
      simp[a,hlen]
theorem A76 (d:Nat)(s:Sch)(hd:d<=12)(o:s.Aq<=1048576)(e:s.it.length<=1)(g: ∀t∈s.it,W F17 0 [t.enc,.int d]=some [.bool (Cj d t)]):
  W F32 0 [.list (s.it.map Sch.enc),.int ((d+1:Nat):Int)]=some [.bool (!s.it.all (Cj d))]:=by
 have c:IntKind.i64.wrap (((d+1:Nat):Int) - 1)=(d:Int):=by rw[wrap64 (by omega) (by omega)];omega
 rw[Be3,Bea]
 cases a:s.it with
 | nil=>
  simp only[bO,bX,bC,aA,aN]
  rw[Ajw]
  simp
 | cons t r=>
  have h:r= []:=by rw[a]at e;simpa using e
  subst h
  have i:=g t (by rw[a];simp)
  have j:W F34 0 [t.enc,.int ((d+1:Nat):Int)]=some [.bool (!Cj d t)]:=by
   rw[Bep]
   simp only[fC,c,aA,i,bK,cM]
  have m:IntKind.i64.wrap (0+1)=1:=by decide
  simp only[bN,bO,bX,bA,bC,gX,aN,aA]
  rw[Ajw]
  simp only[bB,show(0:Int)<1 by omega,Zd,aA,aR,Zt,cC,cU,cE,bQ,j,bK,bR,m]
  cases b:Cj d t with
  | true=>
   simp only[aU,aB,Zf]
   rw[Ajw]
   simp[b]
  | false=>simp[b]
theorem egP (k:Int)(a b c:Nat)(e:Bool):(if(if(if(if(!decide (k=3))=true then decide ((0:Int)<(a:Int)) else false)=true then true else if(!decide (k=4))=true then !e else false)=true then true else if(!decide (k=5))=true then decide ((0:Int)<(b:Int)) else false)=true then true else if(if(!decide (k=5))=true then !decide (k=4) else false)=true then decide ((0:Int)<(c:Int)) else false)
  = !(decide (k=3\/a=0)&&(decide (k=4)||e)&&decide (k=5\/b=0)&&decide (k=5\/k=4\/c=0)):=by
 cases e
 ·by_cases d:k=4
  ·rw[aT];simp[d];omega
  ·simp[d]
 ·rw[aT];simp;omega
theorem egM (mn mx:Int)(b c:Nat):(if(if(if(if(!decide (mn=0))=true then true else !decide (mx=0))=true then true else decide ((1:Int)<(b:Int)))=true then true else if decide ((b:Int)=1)=true then decide ((0:Int)<(c:Int)) else false)=true then true else decide ((64:Int)<(c:Int)))
  = !(decide (mn=0)&&decide (mx=0)&&decide (b<=1)&&(decide (b=0)||decide (c=0))&&decide (c<=64)):=by
 rw[aT];simp;omega
theorem Zc: ∀ (d:Nat) (s:Sch),d<=12->s.Aq<=1048576->W F17 0 [s.enc,.int d]=some [.bool (Cj d s)]
 | 0,s,hd,r=>by rw[Awq];simp[Cj]
 | d+1,s,hd,r=>by
  have B: ¬ ((d+1:Nat):Int)=0:=by omega
  have u:IntKind.i64.wrap (((d+1:Nat):Int) - 1)=(d:Int):=by rw[wrap64 (by omega) (by omega)];omega
  have w: ∀t∈s.it,W F17 0 [t.enc,.int d]=some [.bool (Cj d t)]:=λt x=>Zc d t (by omega) (by have:=fL x;omega)
  have C: ∀p∈s.f,W F17 0 [p.s.enc,.int d]=some [.bool (Cj d p.s)]:=λp hp=>Zc d p.s (by omega) (by have:=fR hp;omega)
  have y:=Wv d s (by omega) r C s.f.length 0 (by omega)
  simp only[aN,aP,Qm]at y
  have z:W F35 0 [s.enc,.int d]=some [.bool (fOk (Cj d) none s.f)]:=by
   rw[Bd1]
   simp only[dZ,bX,aD,aA]
   exact y
  rw[Awq]
  unfold Cj
  simp only[aW,eB,B,Ze,aA,aR,aB,Zf,gY,eI,eX,eY,dZ,bX,aD,cT,gL,Ax,Al,Dk,egP]
  cases e:(decide (s.k=3\/s.en.length=0)&&(decide (s.k=4)||decide (s.key=Am))&&decide (s.k=5\/s.f.length=0)&&decide (s.k=5\/s.k=4\/s.it.length=0)) with
  | false=>
   simp only[aX,Zt]
   by_cases k1:s.k=1
   ·simp only[k1,Zt,Ib]
    simp[k1]at e
    congr 3
    rw[eq_comm,dA]
    intro h
    simp at h
    simp[h]at e
   ·by_cases k2:s.k=2
    ·simp only[k2,show ¬ (2:Int)=1 by omega,Zf,Zt,Ib]
     simp[k2]at e
     congr 3
     rw[eq_comm,dA]
     intro h
     simp at h
     simp[h]at e
    ·by_cases i:s.k=3
     ·simp only[i,show ¬ (3:Int)=1 by omega,show ¬ (3:Int)=2 by omega,Zf,Zt,Ib]
      simp[i]at e
      congr 3
      rw[eq_comm,dA]
      intro h
      simp at h
      simp[h]at e
     ·by_cases j:s.k=4
      ·simp only[j,show ¬ (4:Int)=1 by omega,show ¬ (4:Int)=2 by omega,show ¬ (4:Int)=3 by omega,Zf,Zt]
       simp[j]at e
       congr 3
       rw[eq_comm,dA]
       intro h
       simp at h
       simp[h]at e
      ·by_cases q:s.k=5
       ·simp only[q,show ¬ (5:Int)=1 by omega,show ¬ (5:Int)=2 by omega,show ¬ (5:Int)=3 by omega,show ¬ (5:Int)=4 by omega,Zf,Zt]
        simp[q]at e
        congr 3
        rw[eq_comm,dA]
        intro h
        simp at h
        simp[h]at e
       ·simp[k1,k2,i,j,q]
  | true=>
   simp only[aL,eA,decide_eq_true_eq]at e
   obtain⟨⟨⟨g,b⟩,c⟩,a⟩:=e
   simp only[aU,aB,Zf,dS,qAA,aA,aW,eP,eB,aR,At9,Bay s r,bK,Ax,Al]
   by_cases k1:s.k=1
   ·simp only[k1,Zd,Zt,Ib]
    rcases g with g | g
    ·omega
    ·rcases b with b | b
     ·omega
     ·rcases c with c | c
      ·omega
      ·rcases a with a | a | a
       ·omega
       ·omega
       ·simp only[g,b,c,a,Zd,bI,cK]
        congr 3
        rw[aT];simp
   ·by_cases k2:s.k=2
    ·simp only[k2,show ¬ (2:Int)=1 by omega,Ze,aB,Zf,Zd,Zt,Ib]
     rcases g with g | g
     ·omega
     ·rcases b with b | b
      ·omega
      ·rcases c with c | c
       ·omega
       ·rcases a with a | a | a
        ·omega
        ·omega
        ·simp only[g,b,c,a,Zd,bI,cK]
         congr 3
         rw[aT];simp[and_assoc]
    ·by_cases i:s.k=3
     ·simp only[i,show ¬ (3:Int)=1 by omega,show ¬ (3:Int)=2 by omega,Ze,aB,Zf,Zd,Zt,Ib]
      rcases b with b | b
      ·omega
      ·rcases c with c | c
       ·omega
       ·rcases a with a | a | a
        ·omega
        ·omega
        ·simp only[b,c,a,Zd,bI,cK]
         cases Atg s 200<;>simp
     ·by_cases j:s.k=4
      ·have m:s.en.length=0:=by rcases g with h | h;exact absurd h i;exact h
       have F:s.f.length=0:=by rcases c with h | h;exact absurd h (by omega);exact h
       simp only[j,show ¬ (4:Int)=1 by omega,show ¬ (4:Int)=2 by omega,show ¬ (4:Int)=3 by omega,Ze,aB,Zf,Zd,Zt,m,F,cK]
       cases Atg s 64 with
       | false=>simp
       | true=>
        by_cases J:s.it.length=1
        ·obtain⟨t,x⟩:=bT.1 J
         have G:=w t (by rw[x];simp)
         have o:(s.it.length:Int)=1:=by omega
         simp only[Zt,o,Zd,x,bN,bO,cC,cU,cE,bQ,aA,fC,u,G,bK,aR,bS,cH,cK,bI,bA,bC]
         cases H:Cj d t with
         | false=>simp
         | true=>
          have K:=A1d s t r x (Hf d t H)
          simp[K]
        ·have o: ¬ (s.it.length:Int)=1:=by omega
         simp[J,o]
      ·by_cases q:s.k=5
       ·have m:s.en.length=0:=by rcases g with h | h;exact absurd h i;exact h
        have I:s.key=Am:=by rcases b with h | h;exact absurd h j;exact h
        simp only[q,show ¬ (5:Int)=1 by omega,show ¬ (5:Int)=2 by omega,show ¬ (5:Int)=3 by omega,show ¬ (5:Int)=4 by omega,Ze,aB,Zf,Zd,Zt,m,I,cK]
        have eg:=egM s.mn s.mx s.it.length s.f.length
        rw[eg]
        cases A:(decide (s.mn=0)&&decide (s.mx=0)&&decide (s.it.length<=1)&&(decide (s.it.length=0)||decide (s.f.length=0))&&decide (s.f.length<=64)) with
        | false=>simp
        | true=>
         simp only[aL,eA,decide_eq_true_eq]at A
         have G:=A76 d s (by omega) r A.1.1.2 w
         simp only[aU,aB,Zf,G,bK,cM,gU,aA,aR,fC,u,z,Ax,Al,bI]
         cases s.it.all (Cj d)<;>simp
       ·simp only[k1,k2,i,j,q,Ze,aB,Zf]
theorem Oe (s:Sch)(a:s.Aq<=1048576):W F16 0 [s.enc]=some [.bool s.valid]:=by
 rw[Bc8]
 have:W F17 0 [s.enc,.int 12]=some [.bool s.valid]:=Zc 12 s (by omega) a
 simp only[this,bK]
end Go.CT.Sch
namespace Go.CT.Sch
open Go.Proofs
theorem Eb (d:Nat)(v:Val):Cd (d+1) v=true↔Hm v=true/\(v.l.length<=64/\v.f.length<=64/\(v.k≠4->v.l= [])/\(v.k≠5->v.f= []))/\(∀x∈v.l,Cd d x=true)/\(∀p∈v.f,C8 p.1=true/\Cd d p.2=true)/\rising v.f=true:=by
 rw[Cd]
 simp only[aL,bM,decide_eq_true_eq]
 constructor
 ·rintro⟨⟨⟨⟨a,b⟩,c⟩,d⟩,e⟩;exact⟨a,b,c,d,e⟩
 ·rintro⟨a,b,c,d,e⟩;exact⟨⟨⟨⟨a,b⟩,c⟩,d⟩,e⟩
theorem My: ∀ (d:Nat) (v:Val),Cd d v=true->Cd (d+1) v=true
 | 0,v,h=>by simp[Cd]at h
 | d+1,v,h=>by
  rw[Eb]at h ⊢
  exact⟨h.1,h.2.1,λx a=>My d x (h.2.2.1 x a),λp hp=>⟨(h.2.2.2.1 p hp).1,My d p.2 (h.2.2.2.1 p hp).2⟩,h.2.2.2.2⟩
theorem Is (v:Val):v.valid=true↔Cd 12 v=true/\v.size<=600:=by
 unfold fM;simp only[aL,decide_eq_true_eq]
theorem G6 {v x:Val}(h:v.valid=true)(a:x∈v.l):x.valid=true:=by
 rw[Is]at h ⊢
 have b:=(Eb 11 v).1 h.1
 have:=Val.Tg a
 exact⟨My 11 x (b.2.2.1 x a),by omega⟩
theorem G5 {v:Val}{p:ByteArray × Val}(h:v.valid=true)(hp:p∈v.f):p.2.valid=true/\C8 p.1=true:=by
 rw[Is]at h ⊢
 have a:=(Eb 11 v).1 h.1
 have:=Val.Sx hp
 exact⟨⟨My 11 p.2 (a.2.2.2.1 p hp).2,by omega⟩,(a.2.2.2.1 p hp).1⟩
theorem Nk: ∀l:List (ByteArray × Val),rising l=true->C3 l
 | [],_=>cZ
 | [_],_=>cF _ _
 | p::q::r,h=>by
  simp only[rising,aL]at h
  have b:=Nk (q::r) h.2
  refine bF.2 ⟨λy a=>?_,b⟩
  rcases bJ.1 a with rfl | a
  ·exact h.1
  ·exact Hh h.1 ((bF.1 b).1 y a)
theorem Ic {v:Val}(h:v.valid=true):C3 v.f:=by
 rw[Is]at h
 exact Nk _ ((Eb 11 v).1 h.1).2.2.2.2
theorem Lr {v:Val}(h:v.valid=true)(a:v.k≠5):v.f= []:=by
 rw[Is]at h
 exact((Eb 11 v).1 h.1).2.1.2.2.2 a
theorem Og {v:Val}(h:v.valid=true)(a:v.k≠4):v.l= []:=by
 rw[Is]at h
 exact((Eb 11 v).1 h.1).2.1.2.2.1 a
theorem Ayf {v:Val}(h:v.valid=true)(a:v.k=3):Jq v.s=true:=by
 rw[Is]at h
 have:=((Eb 11 v).1 h.1).1
 unfold Hm at this
 rw[if_neg (by omega),if_neg (by omega),if_pos a]at this
 simp only[aL]at this
 exact this.2
theorem Yx {l:List (ByteArray × Val)}(h:C3 l){p:ByteArray × Val}(hp:p∈l):l.find? (λq=>decide (q.1=p.1))=some p:=by
 induction l with
 | nil=>simp at hp
 | cons a l c=>
  have b:=bF.1 h
  rw[bY]
  rcases bJ.1 hp with rfl | hp
  ·simp
  ·have: ¬ a.1=p.1:=Kx (b.1 p hp)
   simp only[this,Ze]
   exact c b.2 hp
theorem get_of_mem {v:Val}(h:v.valid=true){p:ByteArray × Val}(hp:p∈v.f):v.get p.1=some p.2:=by
 have b:v.k=5:=by
  rcases Decidable.em (v.k=5) with a | a
  ·exact a
  ·rw[Lr h a]at hp;simp at hp
 unfold fW
 rw[if_pos b,Yx (Ic h) hp];rfl
theorem E2 {v x:Val}{nm:ByteArray}(h:v.get nm=some x):(nm,x)∈v.f/\v.k=5:=by
 unfold fW at h
 split at h
 ·rename_i a
  rw[eW]at h
  obtain⟨p,hp,rfl⟩:=h
  have b:=cN hp
  have c:p.1=nm:=by simpa using gH hp
  subst c;exact⟨b,a⟩
 ·cases h
theorem A0l {v x:Val}{nm:ByteArray}(h:v.valid=true)(a:v.get nm=some x):x.valid=true:=(G5 h (E2 a).1).1
theorem Ap3 {g a:Sch->Bool} : ∀ {l:List SFld} {o:Option ByteArray},(∀x∈l,g x.s=true->a x.s=true)->fOk g o l=true->fOk a o l=true
 | [],_,_,_=>rfl
 | y::r,o,b,h=>by
  simp only[fOk,aL]at h ⊢
  exact⟨⟨⟨⟨h.1.1.1.1,b y (by simp) h.1.1.1.2⟩,h.1.1.2⟩,h.1.2⟩,Ap3 (λx c=>b x (by simp[c])) h.2⟩
theorem J4: ∀ (d:Nat) (s:Sch),Cj d s=true->Cj (d+1) s=true
 | 0,s,h=>by simp[Cj]at h
 | d+1,s,h=>by
  rw[Cj]at h ⊢
  split
  ·rename_i k1;rw[if_pos k1]at h;exact h
  ·rename_i k1;rw[if_neg k1]at h
   split
   ·rename_i k2;rw[if_pos k2]at h;exact h
   ·rename_i k2;rw[if_neg k2]at h
    split
    ·rename_i b;rw[if_pos b]at h;exact h
    ·rename_i b;rw[if_neg b]at h
     split
     ·rename_i c;rw[if_pos c]at h
      simp only[aL,bM]at h ⊢
      exact⟨h.1,λx a=>J4 d x (h.2 x a)⟩
     ·rename_i c;rw[if_neg c]at h
      split
      ·rename_i e;rw[if_pos e]at h
       simp only[aL,bM]at h ⊢
       exact⟨⟨h.1.1,λx a=>J4 d x (h.1.2 x a)⟩,Ap3 (λx _ a=>J4 d x.s a) h.2⟩
      ·rename_i e;rw[if_neg e]at h;cases h
theorem Xj {d:Nat}{s t:Sch}(h:Cj (d+1) s=true)(a:t∈s.it):Cj d t=true:=by
 have noit:Ib s=true->False:=λhp=>by
  simp only[Ib,aL,decide_eq_true_eq]at hp
  rw[aV.1 hp.1.2]at a;simp at a
 rw[Cj]at h
 split at h
 ·simp only[aL]at h;exact(noit h.1.1.1).elim
 ·split at h
  ·simp only[aL]at h;exact(noit h.1.1.1.1).elim
  ·split at h
   ·simp only[aL]at h;exact(noit h.1.1.1).elim
   ·split at h
    ·simp only[aL,bM]at h;exact h.2 t a
    ·split at h
     ·simp only[aL,bM]at h;exact h.1.2 t a
     ·cases h
theorem Wf {d:Nat}{s:Sch}{p:SFld}(h:Cj (d+1) s=true)(hp:p∈s.f):s.k=5/\C8 p.nm=true/\Cj d p.s=true/\p.df.length<=1/\Bfi p=true:=by
 have nof:s.f.length=0->False:=λa=>by
  rw[aV.1 a]at hp;simp at hp
 have nop:Ib s=true->False:=λa=>by
  simp only[Ib,aL,decide_eq_true_eq]at a
  exact nof a.2
 rw[Cj]at h
 split at h
 ·simp only[aL]at h;exact(nop h.1.1.1).elim
 ·split at h
  ·simp only[aL]at h;exact(nop h.1.1.1.1).elim
  ·split at h
   ·simp only[aL]at h;exact(nop h.1.1.1).elim
   ·split at h
    ·simp only[aL,decide_eq_true_eq]at h;exact(nof h.1.1.1.2).elim
    ·split at h
     ·rename_i b
      simp only[aL]at h
      exact⟨b,Alh h.2 p hp⟩
     ·cases h
theorem Asq {d:Nat}{s:Sch}(h:Cj d s=true)(a:s.k=4):Y8 s=true/\s.it.length=1:=by
 cases d with
 | zero=>simp[Cj]at h
 | succ d=>
  rw[Cj,if_neg (by omega),if_neg (by omega),if_neg (by omega),if_pos a]at h
  simp only[aL,decide_eq_true_eq]at h
  exact⟨h.1.2,h.1.1.2⟩
theorem Sch.Acy {s t:Sch}(h:s.valid=true)(a:t∈s.it):t.valid=true:=J4 11 t (Xj h a)
theorem Sch.G5 {s:Sch}{p:SFld}(h:s.valid=true)(hp:p∈s.f):p.s.valid=true:=J4 11 p.s (Wf h hp).2.2.1
theorem Sch.Gp {s:Sch}(h:s.valid=true):SB s:=Hf 12 s h
theorem Sch.Aib {s t:Sch}{nm:ByteArray}(h:s.valid=true)(a:D7 s nm=some t):t.valid=true:=by
 rcases Nj a with b | ⟨p,hp,_,rfl⟩
 ·exact Sch.Acy h b
 ·exact Sch.G5 h hp
theorem Aae {d:Nat}{s:Sch}(h:Cj (d+1) s=true)(o:s.k=4)(c:s.key≠Am): ∃t,s.it= [t]/\t.k=5/\ ∃p,t.fld s.key=some p/\p.rq=true/\p.s.k=3/\C8 s.key=true:=by
 obtain⟨b,q⟩:=Asq h o
 obtain⟨t,e⟩:=bT.1 q
 unfold Y8 at b
 rw[e]at b
 have a:decide (s.key=Am)=false:=by simpa using c
 simp only[a,cX,aL,decide_eq_true_eq]at b
 obtain⟨⟨⟨r,u⟩,g⟩,i⟩:=b
 obtain⟨p,hp⟩:=eO.1 u
 rw[hp,cL]at g i
 have j:=Xj h (show t∈s.it by rw[e];simp)
 have m:=Aev hp
 refine⟨t,e,r,p,hp,g,i,?_⟩
 cases d with
 | zero=>simp[Cj]at j
 | succ d=>have:=(Wf j m.1).2.1;rw[m.2]at this;exact this
end Go.CT.Sch
namespace Go.CT.Sch
open Go.Proofs
theorem A8z (s:Sch)(n:Int)(p q:List Stp):(Aaa p s n).length =(Aaa q s n).length :=by unfold Aaa;split<;>rfl
theorem Bfo (key:ByteArray)(prev:List Val)(v:Val)(p q:List Stp):(Aus key prev v p).length =(Aus key prev v q).length :=by unfold Aus;split<;>rfl
theorem A8i (v:Val)(p q:List Stp): ∀l:List SFld,(l.flatMap (J7 v p)).length =(l.flatMap (J7 v q)).length
 | []=>rfl
 | d::l=>by
  have a:(J7 v p d).length =(J7 v q d).length :=by unfold J7;split<;>rfl
  simp only[cA,aO,a,A8i v p q l]
theorem Bhf: ∀ (v:Val) (s:Sch) (p q:List Stp),(Jh v s p).length =(Jh v s q).length :=by
 refine eC λv a b s p q=>?_
 have e: ∀ (l:List Val),(∀x∈l,∀s p q,(Jh x s p).length =(Jh x s q).length)-> ∀key t prev,(K6 l key t p prev).length =(K6 l key t q prev).length :=by
  intro l
  induction l with
  | nil=>intro _ key t prev;rw[Lu,Lu]
  | cons x l c=>
   intro h key t prev
   rw[H9,H9]
   simp only[aO]
   rw[h x (by simp) t (p++ [Hs key x prev.length]) (q++ [Hs key x prev.length]),Bfo key prev x (p++ [Hs key x prev.length]) (q++ [Hs key x prev.length]),c (λy d=>h y (by simp[d])) key t (prev++ [x])]
 have g: ∀ (l:List (ByteArray × Val)),(∀x∈l,∀s p q,(Jh x.2 s p).length =(Jh x.2 s q).length)->(K9 l s p).length =(K9 l s q).length :=by
  intro l
  induction l with
  | nil=>intro _;rw[Ki,Ki]
  | cons x l c=>
   intro h
   have i:(Agl s p x).length =(Agl s q x).length :=by
    unfold Agl
    split
    ·rfl
    ·split
     ·rfl
     ·exact h x (by simp) _ _ _
   rw[I4,I4,aO,aO,i,c λy d=>h y (by simp[d])]
 rw[Ju v s p,Ju v s q]
 split
 ·split
  ·exact A8z s _ p q
  ·split
   ·split
    ·rfl
    ·split<;>rfl
   ·split
    ·rw[aO,aO,A8z s _ p q,e v.l a]
    ·split
     ·rw[aO,aO,g v.f b,A8i v p q]
     ·rfl
 ·rfl
theorem T4 {v:Val}{s:Sch}{p:List Stp}(h:Jh v s p= [])(q:List Stp):Jh v s q= []:=by
 have:=Bhf v s p q
 rw[h]at this
 exact aV.1 this.symm
theorem Xh {v:Val}{s:Sch}{p:List Stp}(h:Jh v s p= []):v.k=s.k:=by
 rw[Ju]at h
 split at h
 ·assumption
 ·cases h
theorem A73 {v:Val}{s:Sch}{p:List Stp}(h:Jh v s p= [])(b:v.k=5):(∀x∈v.f,∀q,Agl s q x= [])/\ ∀d∈s.f,d.rq=true->Kz v d.nm=true:=by
 have a:=Xh h
 have h':=λq=>T4 h q
 constructor
 ·intro x c q
  have h:=h' q
  rw[Ju,if_pos a,if_neg (by omega),if_neg (by omega),if_neg (by omega),if_pos b,cI,To,eR]at h
  exact h.1 x c
 ·intro d hd e
  rw[Ju,if_pos a,if_neg (by omega),if_neg (by omega),if_neg (by omega),if_pos b,cI,eR]at h
  have:=h.2 d hd
  unfold J7 at this
  rw[e]at this
  cases g:Kz v d.nm with
  | true=>rfl
  | false=>rw[g]at this;simp at this
theorem A6o {s t:Sch}{p:List Stp}{x:ByteArray × Val}(h:Agl s p x= [])(a:x.2.k≠0)(b:D7 s x.1=some t):Jh x.2 t (p++ [Da x.1])= []:=by
 unfold Agl at h
 rw[b]at h
 simp only[a,Zf]at h
 exact h
theorem At3 {s:Sch}{p:List Stp}{x:ByteArray × Val}(h:Agl s p x= []): ∃t,D7 s x.1=some t:=by
 unfold Agl at h
 split at h
 ·cases h
 ·exact⟨_,by assumption⟩
theorem Aio: ∀ {l:List Val} {key:ByteArray} {t:Sch} {p:List Stp} {prev:List Val},K6 l key t p prev= []-> ∀x∈l,Jh x t p= []
 | [],_,_,_,_,_,x,a=>by simp at a
 | v::l,key,t,p,prev,h,x,a=>by
  rw[H9,cI,cI]at h
  rcases bJ.1 a with rfl | a
  ·exact T4 h.1.1 p
  ·exact Aio h.2 x a
theorem A0e {v:Val}{s:Sch}{p:List Stp}(h:Jh v s p= [])(b:v.k=4):Aaa p s v.l.length= []/\K6 v.l s.key (s.it.headD Bj) p []= []:=by
 have a:=Xh h
 rw[Ju,if_pos a,if_neg (by omega),if_neg (by omega),if_pos b,cI]at h
 exact h
def Vq (s:Sch)(x:Stp):Option Sch:=
 if x.k=1 then(if s.k=5 then D7 s x.nm else none)
 else if s.k=4 then(if x.k=2\/(x.k=3/\s.key≠Am/\s.key=x.nm) then s.it.head? else none) else none
def atS:Sch->List Stp->Option Sch
 | s,[]=>some s
 | s,x::r=>(Vq s x).bind λt=>atS t r
def hasB (nm vl:ByteArray)(u:Val):Bool:=decide (((u.get nm).getD Aw).k =3)&&decide (((u.get nm).getD Aw).s =vl)
def Ul (v:Val)(x:Stp):Option Val:=
 if x.k=1 then v.get x.nm
 else if v.k=4 then(if x.k=2 then v.l[x.ix.toNat]? else v.l.find? (hasB x.nm x.vl)) else none
def Ik:Val->List Stp->Option Val
 | v,[]=>some v
 | v,x::r=>(Ul v x).bind λu=>Ik u r
theorem Ui {v u:Val}{x:Stp}(a:Ul v x=some u):u.Aq<v.Aq:=by
 unfold Ul at a
 split at a
 ·have:=dY (E2 a).1;simp only at this;omega
 ·split at a
  ·split at a
   ·exact eE (List.mem_of_getElem? a)
   ·exact eE (cN a)
  ·cases a
theorem Ahg: ∀ (q:List Stp) (v w:Val),Ik v q=some w->w.Aq<=v.Aq
 | [],v,w,a=>by simp only[Ik,Option.some.injEq]at a;subst a;omega
 | y::r,v,w,a=>by
  simp only[Ik]at a
  cases b:Ul v y with
  | none=>rw[b]at a;cases a
  | some u=>rw[b]at a;have:=Ui b;have:=Ahg r u w a;omega
theorem Abs {s t:Sch}{x:Stp}(a:Vq s x=some t):t.Aq<s.Aq:=by
 unfold Vq at a
 split at a
 ·split at a
  ·exact Jj a
  ·cases a
 ·split at a
  ·split at a
   ·exact fL (List.mem_of_mem_head? a)
   ·cases a
  ·cases a
end Go.CT.Sch
namespace Go.CT.Sch
open Go.Proofs
theorem Abc (v:Val)(nm:ByteArray)(o:v.Aq<=1048576): ∀ (n i:Nat),i+n=v.f.length->
  ∃r:Int,W F242 1 [.str nm,.int i,v.enc]=some [.int r]/\
   (((v.k=5->((v.f.drop i).find? λp=>decide (p.1=nm))=none)/\r<0)\/(v.k=5/\ ∃ (j:Nat) (x:Val),r=j/\v.f[j]?=some (nm,x)/\((v.f.drop i).find? λp=>decide (p.1=nm))=some (nm,x)))
 | 0,i,h=>by
  rw[Anj]
  have g: ¬ i<v.f.length:=by omega
  refine⟨-1,by simp[g],.inl ⟨λ_=>by simp[aF (bE g)],by omega⟩⟩
 | n+1,i,h=>by
  have d:i<v.f.length:=by omega
  have u:=v.Bc
  have q:=Bd (i:=i) (by omega)
  obtain⟨r,t,m⟩:=Abc v nm o n (i+1) (by omega)
  rw[Anj,aE d,bY]
  simp only[cP,bX,aD,bB,Aj,d,Zd,aA,aR,Zt,dQ,aW,cC,aH,aG,aJ,aC d,aI,dB,fV,Ax,Al,bR,q,t]
  by_cases a:v.k=5
  ·by_cases c:v.f[i].1 =nm
   ·refine⟨i,by simp[a,c],.inr ⟨a,i,v.f[i].2,rfl,by simp[d,<-c],by simp[<-c]⟩⟩
   ·have c':decide (v.f[i].1 =nm)=false:=by simpa using c
    simp only[a,Zd,Zt,c',aB,Zf]
    refine⟨r,rfl,?_⟩
    rcases m with⟨b,e⟩ | ⟨_,b⟩
    ·exact .inl ⟨λ_=>b a,e⟩
    ·exact .inr ⟨trivial,b⟩
  ·simp only[a,Ze,aB,Zf]
   rcases m with⟨b,e⟩ | ⟨b,_⟩
   ·exact⟨r,rfl,.inl ⟨λh=>h.elim,e⟩⟩
   ·exact(a b).elim
theorem Asm (v:Val)(nm:ByteArray)(d:v.Aq<=1048576): ∃r:Int,W F242 0 [v.enc,.str nm]=some [.int r]/\
  ((v.get nm=none/\r<0)\/ ∃ (j:Nat) (x:Val),r=j/\v.f[j]?=some (nm,x)/\v.get nm=some x):=by
 obtain⟨r,e,c⟩:=Abc v nm d v.f.length 0 (by omega)
 refine⟨r,by rw[A2o];exact e,?_⟩
 simp only[aP]at c
 unfold fW
 rcases c with⟨a,b⟩ | ⟨a,j,x,b,g,h⟩
 ·left
  refine⟨?_,b⟩
  split
  ·rename_i i;rw[a i];rfl
  ·rfl
 ·right
  exact⟨j,x,b,g,by rw[if_pos a,h];rfl⟩
theorem Bgc (v:Val)(nm vl:ByteArray)(d:v.Aq<=1048576):W F243 0 [v.enc,.str nm,.str vl]=some [.bool (hasB nm vl v)]:=by
 obtain⟨r,b,e⟩:=Asm v nm d
 rw[A52]
 unfold hasB
 rcases e with⟨g,m⟩ | ⟨j,x,rfl,h,i⟩
 ·have a: ¬ (0:Int)<=r:=by omega
  simp only[b,bK,fG,a,Ze,aA,aR,aB,Zf,g,gB]
  rfl
 ·simp only[b,bK,fG,aH,Zd,aA,aR,Zt,cP,cC,aG,aJ,h,aI,hD,Fld.Bz,aW,fV,i,cL]
  by_cases c:x.k=3<;>simp[c]
theorem Ahk (v:Val)(x:Stp)(d:v.Aq<=1048576): ∀ (n i:Nat),i+n=v.l.length->
  ∃r:Int,W F241 1 [.int i,v.enc,x.enc]=some [.int r]/\
   ((((v.l.drop i).find? (hasB x.nm x.vl))=none/\r<0)\/(∃ (j:Nat) (u:Val),r=j/\v.l[j]?=some u/\((v.l.drop i).find? (hasB x.nm x.vl))=some u))
 | 0,i,h=>by
  rw[Art]
  have b: ¬ i<v.l.length:=by omega
  refine⟨-1,by simp[b],.inl ⟨by simp[aF (bE b)],by omega⟩⟩
 | n+1,i,h=>by
  have a:i<v.l.length:=by omega
  have q:=v.Bn
  have t:=eE (aK a)
  have e:=Bd (i:=i) (by omega)
  obtain⟨r,g,m⟩:=Ahk v x d n (i+1) (by omega)
  have o:=Bgc v.l[i] x.nm x.vl (by omega)
  rw[Art,aE a,bY]
  simp only[cV,bX,aD,bB,Aj,a,Zd,aA,aR,Zt,cC,aH,aG,aJ,aC a,aI,Stp.C4,Stp.Bz,o,bK,bR,e,g]
  cases c:hasB x.nm x.vl v.l[i]with
  | true=>exact⟨i,by simp,.inr ⟨i,v.l[i],rfl,by simp[a],rfl⟩⟩
  | false=>exact⟨r,by simp,m⟩
theorem Bbb (v:Val)(x:Stp)(m:v.Aq<=1048576)(o:Ei x=true): ∃r:Int,W F241 0 [v.enc,x.enc]=some [.int r]/\
  ((Ul v x=none/\r<0)\/ ∃ (j:Nat) (u:Val),r=j/\Ul v x=some u/\(x.k=1->v.f[j]?=some (x.nm,u))/\(x.k≠1->v.l[j]?=some u)):=by
 obtain⟨w,y,q,z,A⟩:=D3 o
 rw[A4h]
 unfold Ul
 simp only[Stp.Bl,Stp.C4,aA,aW,aR]
 by_cases k1:x.k=1
 ·obtain⟨r,b,a⟩:=Asm v x.nm m
  simp only[k1,Zd,Zt,b,bK]
  refine⟨r,rfl,?_⟩
  rcases a with a | ⟨j,u,d,e,g⟩
  ·exact .inl a
  ·exact .inr ⟨j,u,d,g,λ_=>e,λh=>(h rfl).elim⟩
 ·simp only[k1,Ze,aB,Zf,dQ,aA,eB,aR]
  by_cases i:v.k=4
  ·simp only[i,Zd,aU,aB,Zf,Zt]
   by_cases k2:x.k=2
   ·obtain⟨j,t⟩:=cQ (q k2).1
    simp only[k2,Zd,Zt,Stp.Ee,cV,bX,aD,aA,bB,aR,t,qAB,aG,Aj]
    by_cases c:j<v.l.length
    ·refine⟨j,by simp[c],.inr ⟨j,v.l[j],rfl,by simp[c],λh=>by simp at h,λ_=>by simp[c]⟩⟩
    ·refine⟨-1,by simp[c],.inl ⟨by simpa using c,by omega⟩⟩
   ·obtain⟨r,b,a⟩:=Ahk v x m v.l.length 0 (by omega)
    simp only[aN,aP]at b a
    simp only[k2,Ze,aB,Zf,b]
    refine⟨r,rfl,?_⟩
    rcases a with a | ⟨j,u,d,e,g⟩
    ·exact .inl a
    ·exact .inr ⟨j,u,d,g,λh=>h.elim,λ_=>e⟩
  ·exact⟨-1,by simp[i],.inl ⟨by simp[i],by omega⟩⟩
theorem Yi:IV.agg [.int 0,.int 0,.str ⟨#[]⟩,.list [],.list []]=Aw.enc:=rfl
theorem Anq (p:List Stp)(q:p.length<=1099511627776)(hp: ∀x∈p,Ei x=true)(c d e:IV): ∀ (n i:Nat) (v:Val),i+n=p.length->v.Aq<=1048576->
  W Bjb 1 [.list (p.map Stp.enc),.int i,v.enc,c,d,e]=some [((Ik v (p.drop i)).getD Aw).enc,.bool (Ik v (p.drop i)).isSome]
 | 0,i,v,h,m=>by
  have t: ¬ i<p.length:=by omega
  rw[Apn,aF (by omega)]
  simp only[bX,aD,bB,Aj,t,Ze,aA,aR,aB,Zf,Ik,cL,dJ]
 | n+1,i,v,h,m=>by
  have a:i<p.length:=by omega
  have w:=Bd (i:=i) (by omega)
  have y:=hp _ (aK a)
  obtain⟨r,z,A⟩:=Bbb v p[i] m y
  rw[Apn,aE a]
  simp only[bX,aD,bB,Aj,a,Zd,aA,aR,Zt,cC,aH,aG,aJ,aC a,aI,z,bK,eU,Stp.Bl,aW,cV,cP,Ik,Yi]
  rcases A with⟨b,g⟩ | ⟨j,u,rfl,b,g,B⟩
  ·simp only[g,Zd,Zt,b];rfl
  ·have C: ¬ (j:Int)<0:=by omega
   have G:=Ui b
   have F:=Anq p q hp c d e n (i+1) u (by omega) (by omega)
   have o:W Bjb 2 [.list (p.map Stp.enc),.int i,u.enc,c,d,e]=some [((Ik u (p.drop (i+1))).getD Aw).enc,.bool (Ik u (p.drop (i+1))).isSome]:=by
    rw[A4c]
    simp only[bR,w,aA,F]
   simp only[C,Ze,aB,Zf,b,aA,aH,Zt,aG]
   by_cases k1:p[i].k =1
   ·simp only[k1,Zd,Zt,g k1,aI,aA,dI,o]
   ·simp only[k1,Ze,aB,Zf,B k1,aI,aA,o]
def Biv (v:Val)(p:List Stp):Option Val:=if Db p then Ik v p else none
theorem Bge (v:Val)(p:List Stp)(c:v.Aq<=1048576)(hp: ∀x∈p,x.fits)(b:p.length<=1099511627776):W Bjb 0 [v.enc,.list (p.map Stp.enc)]=some [((Biv v p).getD Aw).enc,.bool (Biv v p).isSome]:=by
 rw[A70]
 unfold Biv
 simp only[Lm p hp b,bK,cM,aA,aR,eU,Yi]
 cases d:Db p with
 | false=>rfl
 | true=>
  have a:=d
  unfold Db at a
  simp only[aL,bM]at a
  have:=Anq p b a.1 (.int 0) (.int 0) (.str ⟨#[]⟩) p.length 0 v (by omega) c
  simp only[aN,aP]at this
  simp only[aU,aB,Zf,this,Zt]
end Go.CT.Sch
namespace Go.CT.Sch
open Go.Proofs
theorem Dc (s:ByteArray):s.data.toList.length=s.size:=by simp
theorem Yd {s:ByteArray}{i:Nat}{l:List UInt8}(h:s.data.toList.drop i=l)(a:l≠ []):i+l.length=s.size:=by
 have:=congrArg dC h
 rw[dF,Dc]at this
 have:0<l.length:=bW.2 a
 omega
theorem S4 {s:ByteArray}{i:Nat}{a r:List UInt8}(h:s.data.toList.drop i=a++r):s.data.toList.drop (i+a.length)=r:=by
 rw[<-List.drop_drop,h,List.drop_left]
theorem sx {s:ByteArray}{i:Nat}{c:UInt8}{r:List UInt8}(h:s.data.toList.drop i=c::r):O.Lw (.str s) (.int i)=some (.int c.toNat)/\i<s.size/\s.data.toList.drop (i+1)=r:=by
 have d:=Yd h (by simp)
 simp only[bA]at d
 have a:i<s.size:=by omega
 have b:=Hz a
 rw[h]at b
 obtain⟨e,g⟩:=gT b
 refine⟨?_,a,g.symm⟩
 simp only[hA,aH,Zt,aG,A9j a,aI,<-e]
theorem ssl {s:ByteArray}{i:Nat}{a r:List UInt8}(h:s.data.toList.drop i=a++r)(b:a≠ []):O.N3 (.str s) (.int i) (.int ((i+a.length:Nat):Int))=some (.str (bsL a)):=by
 have c:=Yd h (by simp[b])
 rw[aO]at c
 rw[O.T2,if_pos ⟨by omega,by omega,by omega⟩]
 simp only[aG]
 congr 2
 apply Gj
 rw[eT,fH]
 simp only[eK,bsL,h]
 rw[show i+a.length - i=a.length by omega,List.take_left]
def Aan (r:List UInt8):Prop:= ∀c t,r=c::t->Bv c=false
theorem Ae4 (s:ByteArray)(u:s.size<=100000): ∀ (a:List UInt8) (i:Nat) (r:List UInt8),s.data.toList.drop i=a++r->i<=s.size->(∀c∈a,Bv c=true)->Aan r->W F236 1 [.str s,.int i]=some [.int ((i+a.length:Nat):Int)]
 | [],i,r,h,b,_,d=>by
  rw[Am6]
  cases r with
  | nil=>
   have A:s.size<=i:=by
    have:=congrArg dC h
    rw[dF,Dc]at this
    simp at this;omega
   have e: ¬ i<s.size:=by omega
   simp only[cS,aA,bB,Aj,e,Ze,aR,aB,Zf,bC,fY]
  | cons c t=>
   obtain⟨g,j,o⟩:=sx h
   have m:=d c t rfl
   simp only[cS,aA,bB,Aj,j,Zd,aR,Zt,g,Xf,bK,m,aB,Zf,bC,fY]
 | c::a,i,r,h,b,q,d=>by
  obtain⟨g,j,o⟩:=sx (show s.data.toList.drop i=c::(a++r) from h)
  have w:=Bd (i:=i) (by omega)
  have m:=q c (by simp)
  have y:=Ae4 s u a (i+1) r o (by omega) (λx z=>q x (by simp[z])) d
  rw[Am6]
  simp only[cS,aA,bB,Aj,j,Zd,aR,Zt,g,Xf,bK,m,bR,w,y,bA]
  congr 3;congr 1;omega
theorem U5 {c:UInt8}(h:Io c=true):c.toNat=10\/(32<=c.toNat/\c.toNat<=126):=by
 unfold Io at h
 simp at h
 omega
theorem Wl (o:ByteArray)(c:UInt8)(v:List UInt8):o++bsL [c]++bsL v=o++bsL (c::v):=by
 rw[bG,<-Gz];rfl
theorem Y6 (s:ByteArray)(M:s.size<=100000): ∀ (v:List UInt8) (i:Nat) (r:List UInt8) (o:ByteArray),s.data.toList.drop i=v.flatMap I5++34::r->(∀c∈v,Io c=true)->o.size+v.length<=1000->
  W Biu 1 [.str s,.int i,.str o]=some [.str (o++bsL v),.int ((i+(v.flatMap I5).length +1:Nat):Int),.bool true]
 | [],i,r,o,h,_,_=>by
  obtain⟨t,u,w⟩:=sx (show s.data.toList.drop i=34::r from h)
  have y:=Bd (i:=i) (by omega)
  have e:o++bsL []=o:=by apply Gj;rw[aS];simp[bsL]
  rw[Afq]
  simp only[cS,aA,bB,Aj,u,Zd,aR,Zt,t,eB]
  simp only[show((34:UInt8).toNat :Int)=34 from rfl,Zd,aU,aB,Zf,bR,y,aA,cR,bC,fY,e]
 | c::v,i,r,o,h,N,R=>by
  have S:=N c (by simp)
  have z: ∀x∈v,Io x=true:=λx T=>N x (by simp[T])
  simp only[bA]at R
  have hrange:=U5 S
  simp only[cA,bH]at h ⊢
  have hlen:=congrArg dC h
  rw[dF,Dc]at hlen
  have two: ∀d:UInt8,I5 c= [92,d]->(d.toNat=34\/d.toNat=92\/d.toNat=110)->(d.toNat=110↔c.toNat=10)->(d.toNat≠110->d=c)->
    W Biu 1 [.str s,.int i,.str o]=some [.str (o++bsL (c::v)),.int ((i+(I5 c++v.flatMap I5).length +1:Nat):Int),.bool true]:=by
   intro d F hd U G
   rw[F]at h ⊢
   obtain⟨t,u,w⟩:=sx (show s.data.toList.drop i=92::(d::(v.flatMap I5++34::r)) from h)
   obtain⟨X,g2,Y⟩:=sx w
   have y:=Bd (i:=i) (by omega)
   have A:IntKind.i64.wrap ((i:Int)+2)=((i+1+1:Nat):Int):=by rw[wrap64 (by omega) (by omega)];omega
   have H: ¬ ((s.size:Nat):Int)<=((i+1:Nat):Int):=by omega
   have I:=λo' (g:o'.size+v.length<=1000)=>Y6 s M v (i+1+1) r o' Y z g
   have b:=ssl (i:=i+1) (a:= [d]) (show s.data.toList.drop (i+1)= [d]++(v.flatMap I5++34::r) from w) (by simp)
   simp only[aQ]at b
   have J:((92:UInt8).toNat :Int)=92:=rfl
   rw[Afq]
   simp only[cS,aA,bB,Aj,u,Zd,aR,Zt,t,eB,cT,J,show ¬ (92:Int)=34 by omega,Ze,aX,show ¬ (92:Int)<32 by omega,aB,Zf,show ¬ (126:Int)<92 by omega,aU,bR,y,fG,H,X,A]
   have q:(if(!decide ((d.toNat:Int)=34))=true then some (IV.bool (!decide ((d.toNat:Int)=92))) else some (IV.bool false))=some (.bool (!decide (d.toNat=34)&& !decide (d.toNat=92))):=by
    by_cases K:d.toNat=34
    ·simp[K]
    ·have B: ¬ (d.toNat:Int)=34:=by omega
     by_cases Q:d.toNat=92
     ·simp[K,B,Q]
     ·have L: ¬ (d.toNat:Int)=92:=by omega
      simp[K,B,Q,L]
   simp only[q,aA,aR]
   have m: ∀o',o'=o++bsL [c]->W Biu 3 [.str s,.int i,.str o']=some [.str (o++bsL (c::v)),.int ((i+([92,d]++v.flatMap I5).length +1:Nat):Int),.bool true]:=by
    intro o' g
    rw[A75]
    simp only[bR,A,aA]
    rw[Ame,I o' (by rw[g,aM,Ce,aQ];omega),g,Wl]
    congr 3;congr 1
    simp only[aO,bA,bC];congr 1;omega
   have hcond2:(if(!decide (d.toNat=34)&& !decide (d.toNat=92))=true then some (IV.bool (!decide ((d.toNat:Int)=110))) else some (IV.bool false))=some (.bool false):=by
    rcases hd with hd | hd | hd
    ·simp[hd]
    ·simp[hd]
    ·have:(d.toNat:Int)=110:=by omega
     simp[hd]
   simp only[hcond2,aA,aR,aB,Zf,aW]
   by_cases cn:d.toNat=110
   ·have cn':(d.toNat:Int)=110:=by omega
    have C:c=10:=gG.1 (U.1 cn)
    simp only[cn',Zd,Zt]
    rw[show(ByteArray.mk #[10])=bsL [10]from rfl,Gw (by omega) (by rw[Ce];simp)]
    simp only[aA]
    exact m _ (by rw[C])
   ·have cn': ¬ (d.toNat:Int)=110:=by omega
    simp only[cn',Ze,aB,Zf,b,aA]
    rw[Gw (by omega) (by rw[Ce];simp)]
    simp only[aA]
    exact m _ (by rw[G cn])
  by_cases j:c.toNat=10
  ·exact two 110 (by unfold I5;rw[if_pos j]) (.inr (.inr rfl)) ⟨λ_=>j,λ_=>rfl⟩ (λh=>(h rfl).elim)
  ·by_cases cq:c.toNat=34\/c.toNat=92
   ·exact two c (by unfold I5;rw[if_neg j,if_pos cq]) (by omega) (by omega) (λ_=>rfl)
   ·have F:I5 c= [c]:=by unfold I5;rw[if_neg j,if_neg cq]
    rw[F]at h ⊢
    obtain⟨t,u,w⟩:=sx (show s.data.toList.drop i=c::(v.flatMap I5++34::r) from h)
    have y:=Bd (i:=i) (by omega)
    have I:=Y6 s M v (i+1) r (o++bsL [c]) w z (by rw[aM,Ce,aQ];omega)
    have b:=ssl (i:=i) (a:= [c]) (show s.data.toList.drop i= [c]++(v.flatMap I5++34::r) from h) (by simp)
    simp only[aQ]at b
    have Z: ¬ (c.toNat:Int)=34:=by omega
    have n2: ¬ (c.toNat:Int)<32:=by omega
    have n3: ¬ (126:Int)<c.toNat:=by omega
    have n4: ¬ (c.toNat:Int)=92:=by omega
    rw[Afq]
    simp only[cS,aA,bB,Aj,u,Zd,aR,Zt,t,eB,cT,Z,Ze,aX,n2,aB,Zf,n3,n4,bR,y,b]
    rw[Gw (by omega) (by rw[Ce];simp)]
    simp only[aA,Ame,I,Wl]
    congr 3;congr 1
    simp only[aO,bA,bC];congr 1;omega
end Go.CT.Sch
namespace Go.CT.Sch
open Go.Proofs
theorem w8 {x:Int}(a:0<=x)(b:x<=255):IntKind.u8.wrap x=x:=by
 unfold IntKind.wrap
 simp[IntKind.signed,IntKind.bits]
 omega
theorem Bck (a:UInt8)(n:Nat)(h:n<=9)(j:a.toNat=48+n):W Bkl 0 [.str (bsL [a])]=some [.bool true]/\W Bjg 0 [.str (bsL [a])]=some [.int n]:=by
 obtain⟨c,_,_⟩:=sx (s:=bsL [a]) (i:=0) (show(bsL [a]).data.toList.drop 0=a:: []from rfl)
 simp only[aN]at c
 have b:((bsL [a]).size :Int)=1:=by rw[Ce];rfl
 have d:IntKind.i64.wrap (0+1)=1:=by decide
 have e: ¬ (a.toNat:Int)<48:=by omega
 have g: ¬ (57:Int)<a.toNat:=by omega
 constructor
 ·rw[Aq7,R6]
  simp only[cS,b,aA,bB,show(0:Int)<1 by omega,Zd,aR,Zt,c,e,cT,g,Ze,aB,Zf,bR,d]
  rw[R6]
  simp[b]
 ·have m1:IntKind.i64.wrap (10 * 0)=0:=by decide
  have m2:IntKind.u8.wrap ((a.toNat:Int) - 48)=n:=by rw[w8 (by omega) (by omega)];omega
  have m3:IntKind.i64.wrap (n:Int)=n:=wrap64 (by omega) (by omega)
  have m4:IntKind.i64.wrap (0+(n:Int))=n:=by rw[wrap64 (by omega) (by omega)];omega
  have m5: ¬ (65:Int)<n:=by omega
  rw[Ap6,Sy]
  simp only[cS,b,aA,bB,show(0:Int)<1 by omega,show(0:Int)<65 by omega,Zd,aR,Zt,O.T6,m1,c,fC,m2,O.Sv,m3,bR,m4,d]
  rw[Sy]
  simp[b,m5]
theorem Ba6 (a b:UInt8)(q m:Nat)(z:1<=q/\q<=6)(A:m<=9)(B:a.toNat=48+q)(C:b.toNat=48+m):W Bkl 0 [.str (bsL [a,b])]=some [.bool true]/\W Bjg 0 [.str (bsL [a,b])]=some [.int (min (10 * q+m) 65:Nat)]:=by
 obtain⟨g,_,_⟩:=sx (s:=bsL [a,b]) (i:=0) (show(bsL [a,b]).data.toList.drop 0=a:: [b]from rfl)
 obtain⟨h,_,_⟩:=sx (s:=bsL [a,b]) (i:=1) (show(bsL [a,b]).data.toList.drop 1=b:: []from rfl)
 simp only[aN]at g h
 have d:((bsL [a,b]).size :Int)=2:=by rw[Ce];rfl
 have j:IntKind.i64.wrap (0+1)=1:=by decide
 have e:IntKind.i64.wrap (1+1)=2:=by decide
 have o: ¬ (a.toNat:Int)<48:=by omega
 have r: ¬ (57:Int)<a.toNat:=by omega
 have t: ¬ (b.toNat:Int)<48:=by omega
 have u: ¬ (57:Int)<b.toNat:=by omega
 have w: ¬ (a.toNat:Int)=48:=by omega
 constructor
 ·rw[Aq7,R6]
  simp only[cS,d,aA,bB,show(0:Int)<2 by omega,Zd,aR,Zt,g,o,cT,r,Ze,aB,Zf,bR,j]
  rw[R6]
  simp only[cS,d,aA,bB,show(1:Int)<2 by omega,Zd,aR,Zt,h,t,cT,u,Ze,aB,Zf,bR,e]
  rw[R6]
  simp only[cS,d,aA,bB,show ¬ (2:Int)<2 by omega,Ze,aR,aB,Zf,aW,show ¬ (2:Int)=1 by omega,cT,show(1:Int)<2 by omega,Zd,Zt,g,eB,w,aX]
 ·have m1:IntKind.i64.wrap (10 * 0)=0:=by decide
  have m2:IntKind.u8.wrap ((a.toNat:Int) - 48)=q:=by rw[w8 (by omega) (by omega)];omega
  have m3:IntKind.i64.wrap (q:Int)=q:=wrap64 (by omega) (by omega)
  have m4:IntKind.i64.wrap (0+(q:Int))=q:=by rw[wrap64 (by omega) (by omega)];omega
  have m5:(q:Int)<65:=by omega
  have k1:IntKind.i64.wrap (10 * (q:Int))=10 * q:=wrap64 (by omega) (by omega)
  have k2:IntKind.u8.wrap ((b.toNat:Int) - 48)=m:=by rw[w8 (by omega) (by omega)];omega
  have x:IntKind.i64.wrap (m:Int)=m:=wrap64 (by omega) (by omega)
  have y:IntKind.i64.wrap (10 * (q:Int)+(m:Int))=10 * q+m:=wrap64 (by omega) (by omega)
  rw[Ap6,Sy]
  simp only[cS,d,aA,bB,show(0:Int)<2 by omega,show(0:Int)<65 by omega,Zd,aR,Zt,O.T6,m1,g,fC,m2,O.Sv,m3,bR,m4,j]
  rw[Sy]
  simp only[cS,d,aA,bB,show(1:Int)<2 by omega,m5,Zd,aR,Zt,O.T6,k1,h,fC,k2,O.Sv,x,bR,y,e]
  rw[Sy]
  simp only[cS,d,aA,bB,show ¬ (2:Int)<2 by omega,Ze,aR,aB,Zf,cT]
  by_cases c:(65:Int)<10 * q+m
  ·have:min (10 * q+m) 65=65:=by omega
   simp only[c,Zd,Zt,this];rfl
  ·have:min (10 * q+m) 65=10 * q+m:=by omega
   simp only[c,Ze,aB,Zf,this]
   congr 3
theorem Bil {n:Nat}(h:n<=255):n.toUInt8.toNat=n:=by
 simp[gZ];omega
theorem A5e (n:Nat): ∃a:List UInt8,fU n=bsL a/\a≠ []/\(n<100-> ∀c∈a,Bv c=true):=by
 have dig: ∀k:Nat,k<=9->Bv (48+k).toUInt8 =true:=by
  intro k d
  unfold Bv
  rw[Bil (by omega)]
  simp;omega
 unfold fU
 split
 ·refine⟨[(48+n).toUInt8],rfl,by simp,λ_ c b=>?_⟩
  rw[dK]at b
  rw[b];exact dig n (by omega)
 ·refine⟨[(48+n / 10).toUInt8,(48+n % 10).toUInt8],rfl,by simp,λh c b=>?_⟩
  rw[bJ,dK]at b
  rcases b with b | b
  ·rw[b];exact dig _ (by omega)
  ·rw[b];exact dig _ (by omega)
theorem Bie (n:Nat)(a:n<=64):W Bkl 0 [.str (fU n)]=some [.bool true]/\W Bjg 0 [.str (fU n)]=some [.int n]:=by
 unfold fU
 split
 ·exact Bck _ n (by omega) (Bil (by omega))
 ·have:=Ba6 (48+n / 10).toUInt8 (48+n % 10).toUInt8 (n / 10) (n % 10) (by omega) (by omega) (Bil (by omega)) (Bil (by omega))
  rw[show min (10 * (n / 10)+n % 10) 65=n by omega]at this
  exact this
def Aac (x:Stp)(i:Nat):IV:= .agg [.int x.k,.str x.nm,.int x.ix,.str x.vl,.int i,.bool false]
theorem Hc {s:ByteArray}(h:C8 s=true):(∀c∈s.data.toList,Bv c=true)/\s.data.toList≠ []:=by
 unfold C8 at h
 simp only[aL,bM,decide_eq_true_eq]at h
 refine⟨h.1,λe=>?_⟩
 have:s.size=0:=by rw[<-Dc,e];rfl
 omega
theorem Mt {c:UInt8}{r:List UInt8}(h:Bv c=false):Aan (c::r):=by
 intro d t e
 obtain⟨rfl,_⟩:=gT e
 exact h
theorem Ako (s:ByteArray)(o:s.size<=100000)(n i:Nat)(q:n<=64)(r:List UInt8)(h:s.data.toList.drop i=(bsL [91]++fU n++bsL [93]).data.toList ++r):
  W F235 0 [.str s,.int i]=some [Aac ⟨2,Am,n,Am⟩ (i+(bsL [91]++fU n++bsL [93]).size)]:=by
 obtain⟨a,t,b,c⟩:=A5e n
 obtain⟨d1,d2⟩:=Bie n q
 rw[t]at h d1 d2 ⊢
 rw[<-Gz,<-Gz]at h ⊢
 rw[Ce]
 have h':s.data.toList.drop i=91::(a++93::r):=by rw[h];simp[bsL]
 obtain⟨B,C,d⟩:=sx h'
 have u:=Bd (i:=i) (by omega)
 have e:=Ae4 s o a (i+1) (93::r) d (by omega) (c (by omega)) (Mt (by decide))
 have w:=S4 d
 obtain⟨x,F,G⟩:=sx w
 have g:=ssl d b
 have y:0<a.length:=bW.2 b
 have j:=Bd (i:=i+1+a.length) (by omega)
 have z: ¬ ((s.size:Nat):Int)<=((i+1+a.length:Nat):Int):=by omega
 have A: ¬ ((i+1+a.length:Nat):Int)=((i+1:Nat):Int):=by omega
 have m:((93:UInt8).toNat :Int)=93:=rfl
 rw[Arm]
 simp only[bR,u,aA,Adm,e,bK,cS,fG,z,Ze,aR,aB,Zf,aW,A,g,x,m,Zd,Zt,d1,d2,j,cM,aU,eU]
 unfold Aac
 simp only[aO,bA,bC]
 congr 4
 rw[show i+1+a.length+1=i+(0+1+a.length+(0+1)) by omega]
 rfl
theorem Ajy (s:ByteArray)(y:s.size<=100000)(nm vl:ByteArray)(b:C8 nm=true)(a:Jq vl=true)(i:Nat)(r:List UInt8)(h:s.data.toList.drop i=(bsL [91]++nm++bsL [61]++Lq vl++bsL [93]).data.toList ++r):
  W F235 0 [.str s,.int i]=some [Aac ⟨3,nm,0,vl⟩ (i+(bsL [91]++nm++bsL [61]++Lq vl++bsL [93]).size)]:=by
 obtain⟨e,c⟩:=Hc b
 have A:=Qa a
 unfold Jq at a
 simp only[aL,bM]at a
 have g:(bsL [91]++nm++bsL [61]++Lq vl++bsL [93]).size =nm.data.toList.length+(vl.data.toList.flatMap I5).length +5:=by
  unfold Lq
  simp only[aM,Ce,bA,bC,aO,Dc];omega
 rw[g]
 have h':s.data.toList.drop i=91::(nm.data.toList++61::(34::(vl.data.toList.flatMap I5++34::(93::r)))):=by
  rw[h];unfold Lq
  simp[aS,bsL]
 obtain⟨Q,R,j⟩:=sx h'
 have B:=Bd (i:=i) (by omega)
 have m:=Ae4 s y nm.data.toList (i+1) _ j (by omega) e (Mt (by decide))
 have C:=S4 j
 obtain⟨F,S,G⟩:=sx C
 have o:=ssl j c
 have H:0<nm.data.toList.length:=bW.2 c
 obtain⟨I,T,z⟩:=sx G
 have q:=Bd (i:=i+1+nm.data.toList.length) (by omega)
 have t:=Bd (i:=i+1+nm.data.toList.length+1) (by omega)
 have d:=Y6 s y vl.data.toList (i+1+nm.data.toList.length+1+1) (93::r) Am z a.1 (by rw[Dc];show 0+vl.size<=1000;omega)
 rw[Hl,Pw]at d
 have J:=S4 z
 obtain⟨U,X,K⟩:=sx J
 obtain⟨L,Y,Z⟩:=sx K
 have u:W Biu 0 [.str s,.int ((i+1+nm.data.toList.length+1:Nat):Int)]=some [.str vl,.int ((i+1+nm.data.toList.length+1+1+(vl.data.toList.flatMap I5).length +1:Nat):Int),.bool true]:=by
  have w: ¬ ((s.size:Nat):Int)<=((i+1+nm.data.toList.length+1:Nat):Int):=by omega
  rw[A3s]
  simp only[cS,aA,fG,w,Ze,aR,aB,Zf,I,eB,show((34:UInt8).toNat :Int)=34 from rfl,Zd,aU,bR,t]
  exact d
 have x:=Bd (i:=i+1+nm.data.toList.length+1+1+(vl.data.toList.flatMap I5).length +1) (by omega)
 have w: ¬ ((s.size:Nat):Int)<=((i+1+nm.data.toList.length:Nat):Int):=by omega
 have M: ¬ ((i+1+nm.data.toList.length:Nat):Int)=((i+1:Nat):Int):=by omega
 have N: ¬ ((s.size:Nat):Int)<=((i+1+nm.data.toList.length+1+1+(vl.data.toList.flatMap I5).length +1:Nat):Int):=by omega
 rw[Arm]
 simp only[bR,B,aA,Adm,m,bK,cS,fG,w,Ze,aR,aB,Zf,aW,M,o,F,show((61:UInt8).toNat :Int)=61 from rfl,show ¬ (61:Int)=93 by omega,eB,Zd,aU,q,u,hE,cM,N,L,show((93:UInt8).toNat :Int)=93 from rfl,x,eU,Pw]
 unfold Aac
 congr 4
 rw[show i+1+nm.data.toList.length+1+1+(vl.data.toList.flatMap I5).length +1+1=i+(nm.data.toList.length+(vl.data.toList.flatMap I5).length +5) by omega]
theorem Aoo (s:ByteArray)(g:s.size<=100000)(nm:ByteArray)(a:C8 nm=true)(i:Nat)(r:List UInt8)(h:s.data.toList.drop i=nm.data.toList++r)(j:i<=s.size)(m:Aan r)(o q t u w x:IV):
  W F234 1 [.str s,.int i,o,q,t,u,w,x]=some [Aac ⟨1,nm,0,Am⟩ (i+nm.size)]:=by
 obtain⟨c,b⟩:=Hc a
 have d:=Ae4 s g nm.data.toList i r h j c m
 have e:=ssl h b
 have y:0<nm.data.toList.length:=bW.2 b
 have z: ¬ ((i+nm.data.toList.length:Nat):Int)=(i:Int):=by omega
 rw[A3g]
 simp only[Adm,d,bK,e,aA,aW,z,Ze,eU,Pw]
 unfold Aac
 rw[Dc]
 rfl
theorem Bc9 (s:ByteArray)(o:s.size<=100000)(x:Stp)(b:Ei x=true)(i:Nat)(r:List UInt8)(h:s.data.toList.drop i=(H7 (decide (i=0)) x).data.toList ++r)(C:Aan r):
  W F234 0 [.str s,.int i]=some [Aac x (i+(H7 (decide (i=0)) x).size)]:=by
 obtain⟨H,I,J,K,F⟩:=D3 b
 obtain⟨xk,xn,xi,xv⟩:=x
 simp only at H I J K F
 unfold Ei at b
 unfold H7 at h ⊢
 simp only at b h ⊢
 rw[A2i]
 rcases F with rfl | rfl | rfl
 ·simp only[Zt,aL,decide_eq_true_eq]at b
  obtain⟨⟨g,rfl⟩,rfl⟩:=b
  simp only[show ¬ (1:Int)=2 by omega,show ¬ (1:Int)=3 by omega,Zf]at h ⊢
  obtain⟨u,w⟩:=Hc g
  by_cases G:i=0
  ·subst G
   simp only[Zd,Zt]at h ⊢
   obtain⟨c,a,j⟩:=eJ w
   have h':s.data.toList.drop 0=c::(a++r):=by rw[h,j];rfl
   obtain⟨d,y,q⟩:=sx h'
   have z:=u c (by rw[j];simp)
   have m: ¬ (c.toNat:Int)=91:=by
    intro e
    have:c.toNat=91:=by omega
    unfold Bv at z
    rw[this]at z
    simp at z
   simp only[d,aA,aW,m,Ze,aR,aB,Zf,cT,show ¬ (0:Int)<((0:Nat):Int) by omega]
   exact Aoo s o xn g 0 r h (by omega) C _ _ _ _ _ _
  ·have A:(0:Int)<(i:Int):=by omega
   simp only[G,Ze,aB,Zf]at h ⊢
   have h':s.data.toList.drop i=46::(xn.data.toList++r):=by rw[h];simp[aS,bsL]
   obtain⟨d,y,q⟩:=sx h'
   have L:=Bd (i:=i) (by omega)
   have M:=Aoo s o xn g (i+1) r q (by omega) C (.int 0) (.str ⟨#[]⟩) (.int 0) (.str ⟨#[]⟩) (.int 0) (.bool false)
   simp only[d,aA,aW,show((46:UInt8).toNat :Int)=46 from rfl,show ¬ (46:Int)=91 by omega,Ze,aR,aB,Zf,cT,A,Zd,Zt,eB,aU,bR,L,M]
   rw[aM,Ce,aQ,show i+1+xn.size=i+(1+xn.size) by omega]
 ·simp only[show ¬ (2:Int)=1 by omega,Zf,Zt,aL,decide_eq_true_eq]at b
  obtain⟨⟨⟨N,Q⟩,rfl⟩,rfl⟩:=b
  obtain⟨n,rfl⟩:=cQ N
  simp only[Zt,qAB,aG]at h ⊢
  have B:=Ako s o n i (by omega) r h
  have h': ∃t,s.data.toList.drop i=91::t:=by rw[h];simp[aS,bsL]
  obtain⟨t,h'⟩:=h'
  obtain⟨d,y,q⟩:=sx h'
  simp only[d,aA,aW,show((91:UInt8).toNat :Int)=91 from rfl,Zd,aR,Zt,B,bK]
 ·simp only[show ¬ (3:Int)=1 by omega,show ¬ (3:Int)=2 by omega,Zf,Zt,aL,decide_eq_true_eq]at b
  obtain⟨⟨g,R⟩,rfl⟩:=b
  simp only[show ¬ (3:Int)=2 by omega,Zf,Zt]at h ⊢
  have B:=Ajy s o xn xv g R i r h
  have h': ∃t,s.data.toList.drop i=91::t:=by rw[h];simp[aS,bsL]
  obtain⟨t,h'⟩:=h'
  obtain⟨d,y,q⟩:=sx h'
  simp only[d,aA,aW,show((91:UInt8).toNat :Int)=91 from rfl,Zd,aR,Zt,B,bK]
theorem Uh (b:Bool)(x:Stp)(a:Ei x=true):(H7 b x).data.toList ≠ []/\(b=false->Aan ((H7 b x).data.toList)):=by
 obtain⟨e,g,i,j,m⟩:=D3 a
 unfold Ei at a
 unfold H7
 split
 ·refine⟨by simp[aS,bsL],λ_=>?_⟩
  have: ∃t,(bsL [91]++fU x.ix.toNat++bsL [93]).data.toList =91::t:=by simp[aS,bsL]
  obtain⟨t,c⟩:=this
  rw[c];exact Mt (by decide)
 ·split
  ·refine⟨by simp[aS,bsL],λ_=>?_⟩
   have: ∃t,(bsL [91]++x.nm++bsL [61]++Lq x.vl++bsL [93]).data.toList =91::t:=by simp[aS,bsL]
   obtain⟨t,c⟩:=this
   rw[c];exact Mt (by decide)
  ·rename_i k2 o
   have k1:x.k=1:=by omega
   rw[if_pos k1]at a
   simp only[aL]at a
   split
   ·rename_i d
    exact⟨(Hc a.1.1).2,λh=>by rw[h]at d;cases d⟩
   ·refine⟨by simp[aS,bsL],λ_=>?_⟩
    have: ∃t,(bsL [46]++x.nm).data.toList =46::t:=by simp[aS,bsL]
    obtain⟨t,c⟩:=this
    rw[c];exact Mt (by decide)
theorem X8 (p:List Stp)(hp: ∀x∈p,Ei x=true):Aan ((Es false p).data.toList):=by
 cases p with
 | nil=>intro c t h;cases h
 | cons x r=>
  have d:=Uh false x (hp x (by simp))
  obtain⟨c,a,b⟩:=eJ d.1
  have e:=d.2 rfl
  rw[b]at e
  have g:=e c a rfl
  simp only[Es,aS,b]
  exact Mt g
theorem Abj (s:ByteArray)(u:s.size<=100000)(full:List Stp)(a:Db full=true): ∀ (p done:List Stp) (i:Nat),done++p=full->s.data.toList.drop i=(Es (decide (i=0)) p).data.toList ->i<=s.size->
  W F233 1 [.str s,.int i,.list (done.map Stp.enc)]=some [.list (full.map Stp.enc),.int 0]
 | [],done,i,hd,h,z=>by
  rw[bL]at hd
  subst hd
  have d:s.size<=i:=by
   have:=congrArg dC h
   rw[dF,Dc]at this
   have e:(Es (decide (i=0)) []).data.toList.length =0:=rfl
   rw[e]at this;omega
  have g: ¬ i<s.size:=by omega
  have b:=a
  unfold Db at b
  simp only[aL,bM,decide_eq_true_eq]at b
  have A:=Lm done (λx o=>by
   have:=D3 (b.1 x o)
   exact⟨by omega,by omega⟩) (by omega)
  rw[Aqd]
  simp only[cS,aA,bB,Aj,g,Ze,aR,aB,Zf,A,bK,a,cM,aU]
 | x::p,done,i,hd,h,z=>by
  have b:=a
  unfold Db at b
  simp only[aL,bM,decide_eq_true_eq]at b
  have o:Ei x=true:=b.1 x (by rw[<-hd];simp)
  have hp: ∀y∈p,Ei y=true:=λy B=>b.1 y (by rw[<-hd];simp[B])
  simp only[Es,aS]at h
  have q:=Bc9 s u x o i _ h (X8 p hp)
  have j:=(Uh (decide (i=0)) x o).1
  have m:0<(H7 (decide (i=0)) x).data.toList.length :=bW.2 j
  have d:=Yd h (by simp[j])
  have c:=S4 h
  rw[aO]at d
  rw[Dc]at c m d
  have r:decide (i+(H7 (decide (i=0)) x).size =0)=false:=decide_eq_false (by omega)
  have g:i<s.size:=by omega
  have hlen:done.length+p.length+1=full.length:=by rw[<-hd];simp;omega
  have t:((done.map Stp.enc).length + [x.enc].length) * 48<=Bb:=by
   simp only[aD,aQ]
   have:(done.length+1) * 48<=100 * 48:=aZ (by omega) (bP _)
   unfold Bb;omega
  have w:=Abj s u full a p (done++ [x]) (i+(H7 (decide (i=0)) x).size) (by rw[<-hd];simp) (by rw[r];exact c) (by omega)
  have e1:eS 5 (Aac x (i+(H7 (decide (i=0)) x).size))=some (.bool false):=rfl
  have C:O.projs 0 4 (Aac x (i+(H7 (decide (i=0)) x).size))=some x.enc:=rfl
  have F:eS 4 (Aac x (i+(H7 (decide (i=0)) x).size))=some (.int ((i+(H7 (decide (i=0)) x).size :Nat):Int)):=rfl
  rw[Aqd]
  simp only[cS,aA,bB,Aj,g,Zd,aR,Zt,q,bK,e1,aB,Zf,C,fI,eL,t,F]
  rw[cB]at w
  exact w
theorem Ug (p:List Stp)(hp: ∀x∈p,Ei x=true): ∀b,(Es b p).size <=500 * p.length:=by
 induction p with
 | nil=>intro b;show 0<=_;omega
 | cons x r a=>
  intro b
  have d:(H7 b x).size <=500:=Ua (hp x (by simp))
  have e:=a (λy c=>hp y (by simp[c])) false
  simp only[Es,aM,bA];omega
theorem V0 (p:List Stp)(hp:Db p=true):W F233 0 [.str (Cs p)]=some [.list (p.map Stp.enc),.int 0]:=by
 have a:=hp
 unfold Db at a
 simp only[aL,bM,decide_eq_true_eq]at a
 have c:=Ug p a.1 true
 have d:500 * p.length<=500 * 16:=aZ (bP _) a.2
 have e:Cs p=Es true p:=by unfold Cs;rw[if_pos hp];rfl
 rw[A3u,e]
 have b: ¬ (20000:Int)<((Es true p).size :Int):=by omega
 have:=Abj (Es true p) (by omega) p hp p [] 0 rfl rfl (by omega)
 simp only[aN,bO]at this
 simp only[cS,aA,cT,b,Ze,aR,aB,Zf,this]
end Go.CT.Sch
namespace Go.CT
def SS (l:List ByteArray):Prop:=l.Pairwise λa b=>blt a b=true
theorem SS.ext: ∀ {a b:List ByteArray},SS a->SS b->(∀x,x∈a↔x∈b)->a=b
 | [],[],_,_,_=>rfl
 | [],y::b,_,_,h=>by have:=(h y).2 dL;cases this
 | x::a,[],_,_,h=>by have:=(h x).1 dL;cases this
 | x::a,y::b,j,m,h=>by
  obtain⟨i,a2⟩:=bF.1 j
  obtain⟨b1,b2⟩:=bF.1 m
  have d:x=y:=by
   rcases bJ.1 ((h x).1 dL) with e | e
   ·exact e
   ·rcases bJ.1 ((h y).2 dL) with g | g
    ·exact g.symm
    ·have:=Hh (b1 x e) (i y g)
     rw[E1]at this;cases this
  subst d
  rw[SS.ext a2 b2 λz=>⟨λc=>?_,λc=>?_⟩]
  ·rcases bJ.1 ((h z).1 (cO _ c)) with rfl | e
   ·have:=i z c;rw[E1]at this;cases this
   ·exact e
  ·rcases bJ.1 ((h z).2 (cO _ c)) with rfl | e
   ·have:=b1 z c;rw[E1]at this;cases this
   ·exact e
theorem W8 {l:List (List UInt8)}{x:List UInt8} :x∈Lib.compact l↔x∈l:=by
 unfold Lib.compact Lib.compactUpTo
 simp only[dO,bZ,gS]
 constructor
 ·rintro⟨j,⟨g,_⟩,rfl⟩
  have:l.toArray[j]! =l[j]:=by simp[g]
  rw[this];exact aK g
 ·intro m
  obtain⟨i,a,rfl⟩:=List.mem_iff_getElem.1 m
  -- the first place
  have: ∀i,∀a:i<l.length,∃j,j<l.length/\Lib.keeps l.toArray j=true/\l.toArray[j]! =l[i]:=by
   intro i
   induction i with
   | zero=>intro a;exact⟨0,a,by simp[Lib.keeps],by simp[a]⟩
   | succ i o=>
    intro a
    by_cases h:l[i]=l[i+1]
    ·obtain⟨j,b,c,d⟩:=o (by omega)
     exact⟨j,b,c,d.trans h⟩
    ·refine⟨i+1,a,Lib.keeps_pos ?_,by simp[a]⟩
     have b:i<l.length:=by omega
     simp[a,b]
     exact λe=>h e.symm
  obtain⟨j,b,c,d⟩:=this i a
  exact⟨j,⟨b,c⟩,d⟩
theorem Aij {l:List (List UInt8)}(h:l.Pairwise λa b=>Op.bytesLess b a=false):(Lib.compact l).Pairwise λa b=>Op.bytesLess a b=true:=by
 unfold Lib.compact Lib.compactUpTo
 rw[fZ]
 have u:((hF l.length).filter (Lib.keeps l.toArray)).Pairwise (· < ·):=dX _ List.pairwise_lt_range
 refine u.imp_of_mem fun {i j} w q x=>?_
 simp only[bZ,gS]at w q
 obtain⟨c,d⟩:=q
 have g:i<l.length:=by omega
 have hp:j - 1<l.length:=by omega
 have ei:l.toArray[i]! =l[i]:=by simp[g]
 have ej:l.toArray[j]! =l[j]:=by simp[c]
 have ep:l.toArray[j - 1]! =l[j - 1]:=by simp[hp]
 rw[ei,ej]
 have m:l[j]≠l[j - 1]:=by
  intro e
  have:Lib.keeps l.toArray j=false:=Lib.keeps_neg (by omega) (by rw[ej,ep];exact e)
  rw[this]at d;cases d
 have r:Op.bytesLess l[j] l[j - 1]=false:=eM.1 h (j - 1) j hp c (by omega)
 have o:Op.bytesLess l[j - 1] l[j]=true:=by
  rcases Wj l[j - 1] l[j]with h | h | h
  ·exact h
  ·exact absurd h.symm m
  ·rw[h]at r;cases r
 by_cases y:i=j - 1
 ·subst y;exact o
 ·have t:Op.bytesLess l[j - 1] l[i]=false:=eM.1 h i (j - 1) g hp (by omega)
  rcases Wj l[i] l[j - 1]with h | h | h
  ·exact Aet h o
  ·rw[h];exact o
  ·rw[h]at t;cases t
def Vu (l:List ByteArray):List ByteArray:=Gq (Ql l)
theorem Wd {l:List ByteArray}{x:ByteArray} :x∈Vu l↔x∈l:=by
 unfold Vu Gq
 rw[Wi];unfold Ak0
 rw[Aeg,dO]
 constructor
 ·rintro⟨y,a,rfl⟩
  rw[W8,fT,dO]at a
  obtain⟨z,b,rfl⟩:=a
  rw[Ad0];exact b
 ·intro c
  refine⟨x.data.toList,?_,Ad0 x⟩
  rw[W8,fT,dO]
  exact⟨x,c,rfl⟩
theorem Aek (l:List ByteArray):SS (Vu l):=by
 unfold Vu Gq SS
 rw[Wi];unfold Ak0
 rw[Aeg,fZ]
 refine(Aij (Agy _)).imp λh=>?_
 unfold blt
 rw[Th,Th];exact h
theorem K3 (l:List ByteArray):(Vu l).length <=l.length:=by
 unfold Vu Gq
 rw[Wi];unfold Ak0
 rw[Aeg,aD]
 have a: ∀l:List (List UInt8),(Lib.compact l).length <=l.length:=λl=>by
  have a:(Lib.compact l).length <=(hF l.length).length :=by
   unfold Lib.compact Lib.compactUpTo
   rw[aD]
   exact cY _ _
  simpa using a
 refine dE (a _) ?_
 rw[List.length_mergeSort,aD];exact bP _
end Go.CT
namespace Go.CT.Sch
open Go.Proofs
abbrev SL (l:List ByteArray):IV:=dR IV.str l
theorem Al8 {l:List ByteArray}(h:l.length<=1099511627776):O.Nr [SL l]=some [SL l]:=by
 unfold O.Nr SL dR
 simp only[aD]
 rw[if_pos (by unfold Bb;omega)]
theorem A43 {l:List ByteArray}(h:l.length<=1099511627776):O.Ajx [SL l]=some [SL (Ql l)]:=by
 unfold O.Ajx SL dR
 simp only[L8,aA]
 rw[if_pos (by omega)]
theorem Ake {l:List ByteArray}(h:l.length<=1099511627776):O.M9 [SL l]=some [SL (Gq l)]:=by
 unfold O.M9 SL dR
 simp only[L8,aA]
 rw[if_pos (by omega)]
theorem Bj6 {l:List ByteArray}(h:l.length<=1099511627776):W F108 0 [SL l]=some [SL (Vu l)]:=by
 have a:(Ql l).length =l.length:=(P6 l).length_eq
 rw[A6h,A5y]
 simp only[bK,A5x,Bg2,Bgm,Bhv,Al8 h,A43 h,Ake (l:=Ql l) (by omega)]
 rfl
theorem Ba8 (a b:List ByteArray)(m:a.length<=1048576)(o:b.length<=1048576):W F151 0 [.list [SL a,SL b]]=some [SL (a++b)]:=by
 have g:O.Alv 16 [.list [],.int ((a.length:Int)+(b.length:Int))]=some [.list []]:=by
  simp only[O.Alv]
  rw[if_pos]
  unfold Bb
  refine⟨by omega,?_,?_⟩<;>simp only[bC]<;>omega
 have w1:IntKind.i64.wrap (0+(a.length:Int))=(a.length:Int):=by rw[wrap64 (by omega) (by omega)];omega
 have h:IntKind.i64.wrap ((a.length:Int)+(b.length:Int))=(a.length:Int)+(b.length:Int):=wrap64 (by omega) (by omega)
 have c:IntKind.i64.wrap (0+1)=1:=by decide
 have d:IntKind.i64.wrap (1+1)=2:=by decide
 have i: ¬ (a.length:Int)<0:=by omega
 have j: ¬ (a.length:Int)+(b.length:Int)<0:=by omega
 have ap1:fX 16 (.list []) (SL a)=some (SL a):=by
  unfold SL dR
  rw[eL,if_pos (by simp only[bC,aD,Bb];omega)]
  rfl
 have ap2:fX 16 (SL a) (SL b)=some (SL (a++b)):=by
  unfold SL dR
  rw[eL,if_pos (by simp only[aD,Bb];omega),cB]
 have i0:eZ (.list [SL a,SL b]) (.int 0)=some (SL a):=rfl
 have i1:eZ (.list [SL a,SL b]) (.int 1)=some (SL b):=rfl
 have e:O.len (.list [SL a,SL b])=some (.int 2):=rfl
 have lt0:decide ((0:Int)<2)=true:=by decide
 have lt1:decide ((1:Int)<2)=true:=by decide
 have lt2:decide ((2:Int)<2)=false:=by decide
 rw[A1x]
 simp only[e,aA]
 rw[Adh]
 simp only[bB,lt0,aA,aR,Zt,i0,cG,bR,w1,i,Ze,aB,Zf]
 rw[Ant]
 simp only[bR,c,aA]
 rw[Adh]
 simp only[bB,lt1,aA,aR,Zt,i1,cG,bR,h,j,Ze,aB,Zf]
 rw[Ant]
 simp only[bR,d,aA]
 rw[Adh]
 simp only[bB,lt2,aA,aR,aB,Zf,Bh2,g,bK,e]
 rw[Adn]
 simp only[bB,lt0,aA,aR,Zt,i0,ap1,bR,c]
 rw[Adn]
 simp only[bB,lt1,aA,aR,Zt,i1,ap2,bR,d]
 rw[Adn]
 simp only[bB,lt2,aA,aR,aB,Zf]
theorem A8o (a b:List ByteArray)(c:a.length<=1048576)(d:b.length<=1048576):W F150 0 [SL a,SL b]=some [SL (Vu (a++b))]:=by
 rw[A4v]
 simp only[fI,aA,Ba8 a b c d,bK,Bj6 (l:=a++b) (by simp only[aO];omega)]
def inB (l:List ByteArray)(s:ByteArray):Bool:=l.any λt=>decide (s=t)
theorem Nh {l:List ByteArray}{s:ByteArray} :inB l s=true↔s∈l:=by
 unfold inB;rw[List.any_eq_true]
 constructor
 ·rintro⟨t,a,b⟩;rw[of_decide_eq_true b];exact a
 ·intro h;exact⟨s,h,by simp⟩
theorem P4 (k:ByteArray)(ks:List ByteArray)(s:ByteArray):inB (k::ks) s=(decide (s=k)||inB ks s):=rfl
def Pb (ks:List ByteArray):List IV:=ks.map λk=> .agg [.str k,.bool true]
theorem Axr (s t:ByteArray):(IV.str s).Ow (.str t)=some (decide (s=t)):=by
 have:(s.toList == t.toList)=decide (s=t):=by
  rw[aT,beq_iff_eq,decide_eq_true_iff];exact O.Uq
 simp only[IV.Ow,this]
theorem Xy (s:ByteArray): ∀ks:List ByteArray,Vt (.str s) (Pb ks)=some (if inB ks s then some (.bool true) else none)
 | []=>rfl
 | k::ks=>by
  have a:=Xy s ks
  unfold Pb at a ⊢
  simp only[bN,Vt,Axr]
  by_cases h:s=k
  ·subst h;simp[P4]
  ·simp only[h,Ze,a,P4,cX]
theorem Azd (s:ByteArray): ∀ks:List ByteArray,Ayh (.str s) (.bool true) (Pb ks)=some (Pb (if inB ks s then ks else ks++ [s]))
 | []=>rfl
 | k::ks=>by
  have a:=Azd s ks
  unfold Pb at a ⊢
  simp only[bN,Ayh,Axr]
  by_cases h:s=k
  ·subst h;simp[P4]
  ·simp only[h,Ze,a,P4,cX,aI]
   cases inB ks s<;>simp
def Od:List ByteArray->List ByteArray->List ByteArray
 | acc,[]=>acc
 | acc,s::l=>Od (if inB acc s then acc else acc++ [s]) l
theorem Yr: ∀ (l acc:List ByteArray) (x:ByteArray),x∈Od acc l↔x∈acc\/x∈l
 | [],acc,x=>by simp[Od]
 | s::l,acc,x=>by
  rw[Od,Yr l]
  by_cases h':inB acc s=true
  ·have h:=Nh.1 h'
   simp only[h',Zt,bJ]
   constructor
   ·rintro (a | a)
    ·exact .inl a
    ·exact .inr (.inr a)
   ·rintro (a | rfl | a)
    ·exact .inl a
    ·exact .inl h
    ·exact .inr a
  ·simp[h',or_assoc]
theorem Bip (s:ByteArray)(ks:List ByteArray)(is:Bool):W F118 0 [.str s,.list (Pb ks),.bool is]=some [.bool (inB ks s !=is),.list (Pb ks),.bool is]:=by
 have c:O.Aqv (.bool false) (.list (Pb ks)) (.str s)=some (.bool (inB ks s)):=by
  unfold O.Aqv
  simp only[dD,Xy,aI]
  cases inB ks s<;>simp
 have a: ∃b,O.Ak3 (.list (Pb ks)) (.str s)=some (.bool b):=by
  unfold O.Ak3
  simp only[dD,Xy,aI]
  exact⟨_,rfl⟩
 obtain⟨b,a⟩:=a
 rw[A6v]
 simp only[c,a,aA,O.A7w]
end Go.CT.Sch
namespace Go.CT.Sch
open Go.Proofs
def Aie (ks:List ByteArray)(is:Bool)(s:ByteArray):Bool:= !(inB ks s !=is)
theorem A82 (l ks:List ByteArray)(is:Bool)(e:l.length<=1099511627776): ∀ (n i:Nat),i+n=l.length->(∀p∈l.take i,Aie ks is p=true)->
  (W F117 1 [SL l,.int l.length,.int i,.bool is,.list (Pb ks)]=some [.int (-1),.list (Pb ks),.bool is]/\ ∀p∈l,Aie ks is p=true)\/
  ∃j,∃h:j<l.length,W F117 1 [SL l,.int l.length,.int i,.bool is,.list (Pb ks)]=some [.int (j:Nat),.list (Pb ks),.bool is]/\Aie ks is l[j]=false/\ ∀p∈l.take j,Aie ks is p=true
 | 0,i,h,hp=>by
  left
  rw[Ao5]
  have g: ¬ i<l.length:=by omega
  rw[dN (by omega)]at hp
  refine⟨?_,hp⟩
  simp only[bB,Aj,g,Ze,aA,aR,aB,Zf]
 | n+1,i,h,hp=>by
  have a:i<l.length:=by omega
  have m:=Bd (i:=i) (by omega)
  have d:=dU IV.str (aC a)
  rw[Ao5]
  cases c:(inB ks l[i] !=is) with
  | true=>
   right
   refine⟨i,a,?_,by simp[Aie,c],hp⟩
   simp only[bB,Aj,a,Zd,aA,aR,Zt,d,Bip,hE,c]
  | false=>
   have:=A82 l ks is e n (i+1) (by omega) (by
    intro p b
    rw[<-List.take_append_getElem a]at b
    rcases dH.1 b with h | h
    ·exact hp p h
    ·simp at h;subst h;simp[Aie,c])
   simp only[bB,Aj,a,Zd,aA,aR,Zt,d,Bip,hE,c,aB,Zf,bR,m]
   exact this
theorem Xi (ks:List ByteArray)(is:Bool): ∀ (rest kept junk:List ByteArray),junk≠ []->kept.length+junk.length+rest.length<=1099511627776->
  W F116 1 [.int kept.length,.int (kept.length+junk.length:Nat),.bool is,SL (kept++(junk++rest)),.list (Pb ks)]=some [SL (kept++rest.filter (Aie ks is)),.list (Pb ks),.bool is]
 | [],kept,junk,d,e=>by
  have r:=bW.2 d
  rw[Amv,cG]
  have b: ¬ ((kept.length+junk.length:Nat):Int)<(kept++(junk++ [])).length :=by simp
  have o: ∀z:IV,O.clear z (SL (kept++(junk++ []))) (.int kept.length) (.int (kept++(junk++ [])).length)=some (.list (kept.map IV.str++List.replicate junk.length z)):=by
   intro z
   unfold O.clear SL dR
   simp only[dD,bL,aD,aO,aH,true_and,aG,bP,and_true]
   rw[if_pos (by omega)]
   simp
  have t: ∀ys:List IV,O.slice (.list (kept.map IV.str++ys)) (.int 0) (.int kept.length)=some (SL kept):=by
   intro ys
   rw[O.Pv,if_pos (by simp only[aO,aD];omega)]
   simp[SL,dR]
  have a: ∃y,O.slice (SL (kept++(junk++ []))) (.int kept.length) (.int (kept++(junk++ [])).length)=some y:=by
   unfold SL dR
   rw[O.Pv,if_pos (by simp only[aO,aD];omega)]
   exact⟨_,rfl⟩
  obtain⟨y,a⟩:=a
  simp only[bL]at b o a
  simp only[bL,aA,bB,b,Ze,aR,aB,Zf,a,o,t,gJ,bL]
 | v::rest,kept,[],d,e=>absurd rfl d
 | v::rest,kept,y::js,d,e=>by
  simp only[bA]at e
  rw[Amv,cG]
  have b:((kept.length+(y::js).length :Nat):Int)<(kept++(y::js++v::rest)).length :=by simp;omega
  have q:IntKind.i64.wrap (((kept.length+(y::js).length :Nat):Int)+1)=((kept.length+(y::js).length +1:Nat):Int):=by simp only[bA];rw[wrap64 (by omega) (by omega)];omega
  have g:IntKind.i64.wrap ((kept.length:Int)+1)=((kept.length+1:Nat):Int):=Bd (by omega)
  have gv:=dU IV.str (Srt.Dd (l:=kept++(y::js++v::rest)) (A:=kept++y::js) (x:=v) (B:=rest) (by simp) (i:=kept.length+(y::js).length) (by simp))
  have gi:=dU IV.str (Srt.Dd (l:=kept++(y::js++v::rest)) (A:=kept) (x:=y) (B:=js++v::rest) (by simp) (i:=kept.length) rfl)
  have st:=Srt.Jd (l:=kept++(y::js++v::rest)) (A:=kept) (x:=y) (y:=v) (B:=js++v::rest) (by simp) (i:=kept.length) rfl
  have h:kept.length<(kept++(y::js++v::rest)).length :=by simp
  rw[bV]
  cases c:(inB ks v !=is) with
  | true=>
   have j:=Xi ks is rest kept (y::js++ [v]) (by simp) (by simp;omega)
   have m:Aie ks is v=false:=by simp[Aie,c]
   simp only[aA,bB,b,Zd,aR,Zt,gv,Bip,hE,c,cM,aU,aB,Zf,Aob,bR,q,m]
   rw[show kept.length+(y::js).length +1=kept.length+(y::js++ [v]).length by simp;omega]
   rw[<-j];simp
  | false=>
   have j:=Xi ks is rest (kept++ [v]) (js++ [v]) (by simp) (by simp;omega)
   have m:Aie ks is v=true:=by simp[Aie,c]
   simp only[aA,bB,b,Zd,aR,Zt,gv,Bip,hE,c,cM,aX,gi,Srt.Atw IV.str h,st,bR,g,Aob,q,m]
   rw[show kept.length+(y::js).length +1=(kept++ [v]).length +(js++ [v]).length by simp;omega,show kept.length+1=(kept++ [v]).length by simp]
   rw[show kept++v::(js++v::rest)=kept++ [v]++(js++ [v]++rest) by simp,j]
   simp
theorem Bbj (l ks:List ByteArray)(is:Bool)(h:l.length<=1099511627776):
  W F116 0 [SL l,.list (Pb ks),.bool is]=some [SL (l.filter (Aie ks is)),.list (Pb ks),.bool is]:=by
 rw[A6k,A1z]
 have key:=A82 l ks is h l.length 0 (by omega) (by simp)
 simp only[aN]at key
 rcases key with⟨a,b⟩ | ⟨j,i,a,b,m⟩
 ·simp only[cG,aA,a,hE,aW,Zd,aR,Zt]
  rw[fO.2 b]
 ·have c: ¬ (j:Int)= -1:=by omega
  have d:IntKind.i64.wrap ((j:Int)+1)=((j+1:Nat):Int):=Bd (by omega)
  simp only[cG,aA,a,hE,aW,c,Ze,aR,aB,Zf,bR,d]
  have g:l=l.take j++([l[j]]++l.drop (j+1)):=by
   rw[dP,<-aE i,fD]
  have e:(l.take j).length =j:=by rw[eQ];omega
  have o:(l.drop (j+1)).length =l.length - (j+1):=by rw[dF]
  have hd:=Xi ks is (l.drop (j+1)) (l.take j) [l[j]] (by simp) (by simp only[aQ];omega)
  rw[e,aQ,<-g]at hd
  rw[hd]
  have q:l.filter (Aie ks is)=l.take j++(l.drop (j+1)).filter (Aie ks is):=by
   conv=>lhs;rw[g]
   rw[eG,eG,fO.2 m]
   congr 1
   simp[b]
  rw[q]
theorem Azm (a b:List ByteArray)(is:Bool)(d:a.length<=1048576)(e:b.length<=1048576): ∀ (n i:Nat) (acc:List ByteArray),i+n=b.length->
  W F115 1 [SL a,SL b,.int b.length,.int i,.bool is,.list (Pb acc)]=some [SL ((Vu a).filter (Aie (Od acc (b.drop i)) is))]
 | 0,i,acc,h=>by
  have g: ¬ i<b.length:=by omega
  have hd:=Bbj (Vu a) acc is (by have:=K3 a;omega)
  rw[A9n]
  simp only[bB,Aj,g,Ze,aA,aR,aB,Zf,Bj6 (l:=a) (by omega),bK,hd,hE]
  rw[aF (by omega)];rfl
 | n+1,i,acc,h=>by
  have c:i<b.length:=by omega
  have j:=Bd (i:=i) (by omega)
  have m:=dU IV.str (aC c)
  have o:O.Apo (.list (Pb acc)) (.str b[i]) (.bool true)=some (.list (Pb (if inB acc b[i]then acc else acc++ [b[i]]))):=by
   unfold O.Apo
   simp only[dD,Azd,aI]
  rw[A9n]
  simp only[bB,Aj,c,Zd,aA,aR,Zt,m,o,bR,j]
  rw[Azm a b is d e n (i+1) _ (by omega),aE c,Od]
theorem Bhm (a b:List ByteArray)(is:Bool)(c:a.length<=1048576)(d:b.length<=1048576):
  W F115 0 [SL a,SL b,.bool is]=some [SL ((Vu a).filter (λs=>inB b s == is))]:=by
 have h:=Azm a b is c d b.length 0 [] (by omega)
 simp only[aN,aP]at h
 rw[A1p,cG]
 simp only[aA]
 refine h.trans ?_
 have e:Aie (Od [] b) is=λs=>inB b s == is:=by
  funext s
  have:inB (Od [] b) s=inB b s:=by
   rw[aT,Nh,Nh,Yr];simp
  unfold Aie
  rw[this]
  cases inB b s<;>cases is<;>rfl
 rw[e]
end Go.CT.Sch
namespace Go.CT.Sch
open Go.Proofs
def leB (s x:ByteArray):Bool:=blt s x||decide (s=x)
def Abn (s:ByteArray):Bool->List ByteArray->List ByteArray
 | d,[]=>if d then[]else[s]
 | d,x::r=>(if !d &&leB s x then[s]else[])++(if x=s then[]else[x])++Abn s (d||leB s x) r
theorem Sa (s:ByteArray): ∀l,Abn s true l=l.filter λx=> !decide (x=s)
 | []=>rfl
 | x::r=>by
  rw[Abn,cW,Sa s r,bV]
  by_cases h:x=s<;>simp[h]
theorem Afg (s x:ByteArray): ∀l,x∈Abn s false l↔x=s\/x∈l
 | []=>by simp[Abn]
 | y::r=>by
  rw[Abn]
  cases h:leB s y with
  | true=>
   rw[eD,Sa]
   by_cases a:y=s
   ·subst a
    by_cases c:x=y<;>simp[c]
   ·simp only[aX,bI,Zt,a,Zf,dH,dK,bZ,gA,decide_eq_false_iff_not,bJ,gC,or_false]
    constructor
    ·rintro ((h | h) | h)
     ·exact .inl h
     ·exact .inr (.inl h)
     ·exact .inr (.inr h.1)
    ·rintro (h | h | h)
     ·exact .inl (.inl h)
     ·exact .inl (.inr h)
     ·by_cases b:x=s
      ·exact .inl (.inl b)
      ·exact .inr ⟨h,b⟩
  | false=>
   have a: ¬ y=s:=by rintro rfl;simp[leB]at h
   simp only[aX,bI,aB,Zf,a,bD,dH,dK,fA,Afg s x r,bJ,gC,or_false]
   constructor
   ·rintro (h | h | h)
    ·exact .inr (.inl h)
    ·exact .inl h
    ·exact .inr (.inr h)
   ·rintro (h | h | h)
    ·exact .inr (.inl h)
    ·exact .inl h
    ·exact .inr (.inr h)
theorem Avb (s:ByteArray): ∀l,SS l->SS (Abn s false l)
 | [],_=>cF _ _
 | y::r,j=>by
  obtain⟨d,g⟩:=bF.1 j
  rw[Abn]
  cases h:leB s y with
  | true=>
   rw[eD,Sa]
   have e:(if !false &&true then[s]else[])++(if y=s then[]else[y])++r.filter (λx=> !decide (x=s))=s::(y::r).filter (λx=> !decide (x=s)):=by
    rw[bV]
    by_cases g:y=s<;>simp[g]
   rw[e]
   refine bF.2 ⟨λx a=>?_,dX _ j⟩
   simp only[bZ,gA,decide_eq_false_iff_not]at a
   have b:blt s y=true\/s=y:=by simpa [leB]using h
   rcases bJ.1 a.1 with rfl | m
   ·exact b.resolve_right λe=>a.2 e.symm
   ·rcases b with h | rfl
    ·exact Hh h (d x m)
    ·exact d x m
  | false=>
   have o: ¬ y=s:=by rintro rfl;simp[leB]at h
   have i:blt y s=true:=by
    rcases Kk s y with c | c | c
    ·simp[leB,c]at h
    ·exact absurd c.symm o
    ·exact c
   simp only[aX,bI,aB,Zf,o,bD,dP,fA]
   refine bF.2 ⟨λx a=>?_,Avb s r g⟩
   rcases(Afg s x r).1 a with rfl | a
   ·exact i
   ·exact d x a
theorem V7 (s:ByteArray): ∀l,(Abn s false l).length <=l.length+1
 | []=>by simp[Abn]
 | x::r=>by
  have b:=V7 s r
  have c:(if x=s then([]:List ByteArray) else[x]).length <=1:=by split<;>simp
  rw[Abn,aO,aO,bA]
  cases h:leB s x with
  | true=>
   rw[eD,Sa]
   have:=cY (λx=> !decide (x=s)) r
   have a:(if(!false &&true)=true then[s]else[]).length =1:=rfl
   rw[a];omega
  | false=>
   have a:(if(!false &&false)=true then[s]else[]).length =0:=rfl
   rw[a,fA];omega
theorem Ay3 (l:List ByteArray)(s:ByteArray)(g:l.length<=1048576): ∀ (n i:Nat) (d:Bool) (out:List ByteArray),i+n=l.length->out.length<=i+(if d then 1 else 0)->
  W Bko 1 [SL l,.str s,.bool d,.int i,SL out]=some [SL (out++Abn s d (l.drop i))]
 | 0,i,d,out,h,a=>by
  have r: ¬ i<l.length:=by omega
  have ap:fX 16 (SL out) (.list [.str s])=some (SL (out++ [s])):=by
   have a:out.length<=i+1:=by cases d<;>simp at a<;>omega
   unfold SL dR
   rw[eL,if_pos (by simp only[aD,aQ,Bb];omega)]
   simp
  rw[Ao3,cG,aF (by omega)]
  cases d<;>simp[Aj,r,Abn,ap]
 | n+1,i,d,out,h,a=>by
  have c:i<l.length:=by omega
  have j:=Bd (i:=i) (by omega)
  have e:=dU IV.str (aC c)
  have ap: ∀ (o:List ByteArray) (t:ByteArray),o.length<=i+3->fX 16 (SL o) (.list [.str t])=some (SL (o++ [t])):=by
   intro o t a
   unfold SL dR
   rw[eL,if_pos (by simp only[aD,aQ,Bb];omega)]
   simp
  -- the second half
  have half: ∀ (b:Bool) (o:List ByteArray),o.length<=i+(if b then 1 else 0)->W Bko 2 [SL l,.str s,.bool b,.int i,SL o]=some [SL (o++((if l[i]=s then[]else[l[i]])++Abn s b (l.drop (i+1))))]:=by
   intro b o a
   rw[A41]
   by_cases m:l[i]=s
   ·have:=Ay3 l s g n (i+1) b o (by omega) (by omega)
    simp only[e,aA,gL,m,Zd,aU,aR,aB,Zf,Ary,bR,j,this,Zt,bD]
   ·have:=Ay3 l s g n (i+1) b (o++ [l[i]]) (by omega) (by rw[aO,aQ];omega)
    simp only[e,aA,gL,m,Ze,aX,aR,Zt,fI,ap o l[i] (by cases b<;>simp at a<;>omega),Ary,bR,j,this,Zf,bH]
  rw[Ao3,cG,aE c,Abn]
  have hle:O.sLe (.str s) (.str l[i])=some (.bool (leB s l[i])):=by rw[O.Al4,blt_eq];rfl
  cases d with
  | true=>
   simp only[aA,bB,Aj,c,Zd,aR,Zt,cM,aU,aB,Zf,cW,cD,bD]
   exact half true out a
  | false=>
   cases q:leB s l[i]with
   | true=>
    simp only[aA,bB,Aj,c,Zd,aR,Zt,cM,aX,e,hle,q,fI,ap out s (by simp at a;omega),eD,bI]
    have u:out.length<=i:=by simpa using a
    rw[half true (out++ [s]) (by rw[aO,aQ,if_pos rfl];omega)]
    simp
   | false=>
    simp only[aA,bB,Aj,c,Zd,aR,Zt,cM,aX,e,hle,q,aB,Zf,fA,gP,bD]
    exact half false out a
end Go.CT.Sch
namespace Go.CT.Sch
open Go.Proofs
theorem Bjv (l:List ByteArray)(s:ByteArray)(a:l.length<=1048576):W Bko 0 [SL l,.str s]=some [SL (Abn s false l)]:=by
 have:=Ay3 l s a l.length 0 false [] (by omega) (by simp)
 simp only[aN,aP,bD]at this
 rw[A7x]
 exact this
def Oz:List ByteArray->List ByteArray->List ByteArray
 | acc,[]=>acc
 | acc,s::l=>Oz (Abn s false acc) l
theorem Vw: ∀ (l acc:List ByteArray),SS acc->SS (Oz acc l)
 | [],_,h=>h
 | s::l,acc,h=>Vw l _ (Avb s acc h)
theorem R3 (x:ByteArray): ∀ (l acc:List ByteArray),x∈Oz acc l↔x∈acc\/x∈l
 | [],acc=>by simp[Oz]
 | s::l,acc=>by
  rw[Oz,R3 x l,Afg,bJ]
  constructor
  ·rintro ((h | h) | h)
   ·exact .inr (.inl h)
   ·exact .inl h
   ·exact .inr (.inr h)
  ·rintro (h | h | h)
   ·exact .inl (.inr h)
   ·exact .inl (.inl h)
   ·exact .inr h
theorem Aqg (l:List ByteArray): ∀ (n i:Nat) (acc:List ByteArray),i+n=l.length->acc.length+n<=1048576->l.length<=1048576->
  W Bif 2 [SL l,.int i,SL acc]=some [SL (Oz acc (l.drop i))]
 | 0,i,acc,h,c,b=>by
  have d: ¬ i<l.length:=by omega
  rw[Aqz,cG,aF (by omega)]
  simp only[aA,bB,Aj,d,Ze,aR,aB,Zf,Oz]
 | n+1,i,acc,h,c,b=>by
  have a:i<l.length:=by omega
  have e:=Bd (i:=i) (by omega)
  have g:=dU IV.str (aC a)
  have hp:=V7 l[i] acc
  have j:=Aqg l n (i+1) (Abn l[i] false acc) (by omega) (by omega) b
  rw[Aqz,cG,aE a,Oz]
  simp only[aA,bB,Aj,a,Zd,aR,Zt,g,Bjv acc l[i] (by omega),bK,bR,e,j]
theorem An6 (a b:List ByteArray): ∀ (n i:Nat) (acc:List ByteArray),i+n=a.length->acc.length+n+b.length<=1048576->a.length<=1048576->
  W Bif 1 [SL a,SL b,.int i,SL acc]=some [SL (Oz (Oz acc (a.drop i)) b)]
 | 0,i,acc,h,g,d=>by
  have j: ¬ i<a.length:=by omega
  have e:=Aqg b b.length 0 acc (by omega) (by omega) (by omega)
  simp only[aN,aP]at e
  rw[Aod,cG,aF (by omega)]
  simp only[aA,bB,Aj,j,Ze,aR,aB,Zf,Oz]
  exact e
 | n+1,i,acc,h,g,d=>by
  have c:i<a.length:=by omega
  have m:=Bd (i:=i) (by omega)
  have o:=dU IV.str (aC c)
  have hp:=V7 a[i] acc
  have q:=An6 a b n (i+1) (Abn a[i] false acc) (by omega) (by omega) d
  rw[Aod,cG,aE c,Oz]
  simp only[aA,bB,Aj,c,Zd,aR,Zt,o,Bjv acc a[i] (by omega),bK,bR,m,q]
theorem union_eq (a b:List ByteArray):Oz (Oz [] a) b=Vu (a++b):=
 SS.ext (Vw b _ (Vw a _ cZ)) (Aek _) λx=>by rw[R3,R3,Wd,dH];simp
theorem A85 (a b:List ByteArray)(c:a.length+b.length<=1048576):W Bif 0 [SL a,SL b]=some [SL (Vu (a++b))]:=by
 have:=An6 a b a.length 0 [] (by omega) (by simp only[bC];omega) (by omega)
 simp only[aN,aP,union_eq]at this
 rw[A2e]
 exact this
theorem A9a (l:List ByteArray)(s:ByteArray)(g:l.length<=1048576): ∀ (n i:Nat),i+n=l.length->W F246 1 [SL l,.str s,.int i]=some [.bool (inB (l.drop i) s)]
 | 0,i,h=>by
  have j: ¬ i<l.length:=by omega
  rw[Apx,cG,aF (by omega)]
  simp only[aA,bB,Aj,j,Ze,aR,aB,Zf];rfl
 | n+1,i,h=>by
  have a:i<l.length:=by omega
  have m:=Bd (i:=i) (by omega)
  have d:=dU IV.str (aC a)
  have o:=A9a l s g n (i+1) (by omega)
  rw[Apx,cG,aE a,P4]
  by_cases b:l[i]=s
  ·simp only[aA,bB,Aj,a,Zd,aR,Zt,d,fV,b,cW]
  ·have c: ¬ s=l[i]:=λe=>b e.symm
   simp only[aA,bB,Aj,a,Zd,aR,Zt,d,fV,b,c,Ze,aB,Zf,cX,bR,m,o]
theorem Bim (l:List ByteArray)(s:ByteArray)(a:l.length<=1048576):W F246 0 [SL l,.str s]=some [.bool (inB l s)]:=by
 have:=A9a l s a l.length 0 (by omega)
 simp only[aN,aP]at this
 rw[A7t];exact this
theorem Afe (a b:List ByteArray)(c:b.length<=1048576): ∀ (n i:Nat) (acc:List ByteArray),i+n=a.length->acc.length+n<=1048576->a.length<=1048576->
  W Bi5 1 [SL a,SL b,.int i,SL acc]=some [SL (Oz acc ((a.drop i).filter λs=> !inB b s))]
 | 0,i,acc,h,e,g=>by
  have r: ¬ i<a.length:=by omega
  rw[Anh,cG,aF (by omega)]
  simp only[aA,bB,Aj,r,Ze,aR,aB,Zf,gJ,Oz]
 | n+1,i,acc,h,e,g=>by
  have d:i<a.length:=by omega
  have m:=Bd (i:=i) (by omega)
  have o:=dU IV.str (aC d)
  have hp:=V7 a[i] acc
  rw[Anh,cG,aE d,bV]
  cases q:inB b a[i]with
  | false=>
   have j:=Afe a b c n (i+1) (Abn a[i] false acc) (by omega) (by omega) g
   simp only[aA,bB,Aj,d,Zd,aR,Zt,o,Bim b a[i] c,q,bK,cM,aX,Bjv acc a[i] (by omega),Aqf,bR,m,j,Oz]
  | true=>
   have j:=Afe a b c n (i+1) acc (by omega) (by omega) g
   simp only[aA,bB,Aj,d,Zd,aR,Zt,o,Bim b a[i] c,q,bK,cM,aU,aB,Zf,Aqf,bR,m,j]
def Gf (a b:List ByteArray):List ByteArray:=(Vu a).filter λs=> !inB b s
def N8 (a b:List ByteArray):List ByteArray:=(Vu a).filter λs=>inB b s
theorem Av0 {l:List ByteArray}(h:SS l)(p:ByteArray->Bool):SS (l.filter p):=dX p h
theorem Awf (a b:List ByteArray)(c:a.length<=1048576)(d:b.length<=1048576):W Bi5 0 [SL a,SL b]=some [SL (Gf a b)]:=by
 have:=Afe a b d a.length 0 [] (by omega) (by simp only[bC];omega) c
 simp only[aN,aP]at this
 rw[A7m]
 refine this.trans ?_
 rw[SS.ext (Vw _ _ cZ) (Av0 (Aek a) λs=> !inB b s) λx=>by rw[R3,bZ,bZ,Wd];simp]
 rfl
theorem Ajl (a b:List ByteArray)(c:a.length<=1048576)(d:b.length<=1048576):W F114 0 [SL a,SL b]=some [SL (Gf a b)]:=by
 rw[A4q,Bhm a b false c d]
 simp only[bK]
 congr 3
 unfold Gf;congr 1;funext s;cases inB b s<;>rfl
theorem A93 (a b:List ByteArray)(c:a.length<=1048576)(d:b.length<=1048576):W F173 0 [SL a,SL b]=some [SL (N8 a b)]:=by
 rw[A1q,Bhm a b true c d]
 simp only[bK]
 congr 3
 unfold N8;congr 1;funext s;cases inB b s<;>rfl
theorem Kg (a b:List ByteArray):(Gf a b).length <=a.length:=dE (cY _ _) (K3 a)
end Go.CT.Sch
namespace Go.CT.Sch
open Go.Proofs
abbrev Kid:=Stp × Val × Option Sch
def At0 (key:ByteArray)(x:Val):Stp:=⟨3,key,0,Dv x key⟩
def Du (key:ByteArray):List ByteArray->List Val->Bool
 | _,[]=>true
 | met,x::l=>isKey x key&& !inB met (Dv x key)&&Du key (met++ [Dv x key]) l
def kids:Option Sch->Val->List Kid
 | none,_=> []
 | some s,v=>if s.k=v.k then(if v.k=5 then v.f.map λx=>(Da x.1,x.2,D7 s x.1) else if v.k=4/\s.key≠Am/\Du s.key [] v.l=true then v.l.map λx=>(At0 s.key x,x,s.it.head?) else[]) else[]
def Rz (s:ByteArray):Val:=⟨3,0,s,[],[]⟩
def lv:Nat->Option Sch->Val->List Stp->List ByteArray
 | 0,_,_,_=> []
 | d+1,o,v,p=>if kids o v= []then[Cs p]else(kids o v).flatMap λx=>lv d x.2.2 x.2.1 (p++ [x.1])
def Gh (r:Kid->Val × Bool)(l:List Kid):List (Stp × Val):=l.filterMap λx=>if(r x).2 then some (x.1,(r x).1) else none
def fieldsOf (l:List (Stp × Val)):List (ByteArray × Val):=l.map λx=>(x.1.nm,x.2)
def He (l:List (Stp × Val)):List Val:=l.map λx=>Ed x.2 x.1.nm (Rz x.1.vl)
def pt:Nat->Option Sch->Val->List Stp->(ByteArray->Bool)->Val × Bool
 | 0,_,v,_,_=>(v,false)
 | d+1,o,v,p,ch=>if kids o v= []then(v,ch (Cs p)) else
  (⟨
    v.k,0,Am,if v.k=5 then[]else He (Gh (λx=>pt d x.2.2 x.2.1 (p++ [x.1]) ch) (kids o v)),
    if v.k=5 then fieldsOf (Gh (λx=>pt d x.2.2 x.2.1 (p++ [x.1]) ch) (kids o v)) else[]⟩,
   !(Gh (λx=>pt d x.2.2 x.2.1 (p++ [x.1]) ch) (kids o v)).isEmpty)
theorem Oo {o:Option Sch}{v:Val}{x:Kid}(h:x∈kids o v):x.2.1.size<v.size/\x.2.1.Aq<v.Aq:=by
 cases o with
 | none=>simp[kids]at h
 | some s=>
  rw[kids]at h
  split at h
  ·split at h
   ·obtain⟨p,hp,rfl⟩:=dO.1 h
    have:=dY hp
    exact⟨Val.Sx hp,by show p.2.Aq<v.Aq;omega⟩
   ·split at h
    ·obtain⟨p,hp,rfl⟩:=dO.1 h
     exact⟨Val.Tg hp,eE hp⟩
    ·simp at h
  ·simp at h
end Go.CT.Sch
