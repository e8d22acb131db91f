import Derived.Test.YtfealnpkfnjbkaaGreatDoorTabA
import Derived.Test.YtfealnpkfnjbkaaGreatDoorCtC
import Derived.Test.YtfealnpkfnjbkaaGreatDoorLib
set_option linter.unusedVariables false
set_option linter.unusedSimpArgs false
open Array renaming toList_extract->fH
open Bool renaming false_eq_true->aB,and_eq_true->aL,eq_iff_iff->aS,not_true->aV,not_false->bG,true_and->bP,and_true->cJ,false_and->cU,eq_false_iff->cZ,false_or->dW,or_eq_true->eB,true_or->eV,not_not->gT
open ByteArray renaming size_append->aM,toList_data_append->aQ,append_assoc->bC,data_extract->eT
open Go.CT.Fld renaming enc->bD,Bp->dE,J0->dI,C7->iC
open Go.CT.O renaming Aa->aR,eq_int->aW,Ah->bA,Ae->bE,Ak->bR,Ao->bY,Ai->cD,Bx->cR,Bh->cW,As->cX,proj->dF,Cc->eC,index->eO,E4->eP,Ay->eU,Gt->eZ,Co->fA,Bs->fB,Cg->fI,Mf->fT,Dh->gA,Ba->gB,append->gN,Df->gR,projs->gX,Ef->gZ,H7->hQ,J7->iD
open Go.CT.Prim renaming ev->dB
open Go.CT.SFld renaming enc->cP,Bp->eE,Ql->fX,C7->gU
open Go.CT.Sch renaming Iy->dJ,C7->dL,Eh->dM,Cd->dU,Hz->eA,Ck->eJ,Gk->fK,Dq->fP,Bp->gD,enc->gW
open Go.CT.Srt renaming len->dX,LE->eH,idx->fW,eqv->iF
open Go.CT.Val renaming enc->bT,Ck->cL,Cd->cQ,Bp->dP,Dq->dZ,ind->eD,Gd->eF,Bm->eG,valid->fL,get->fU,Eh->gC,C7->gL,Bv->hZ,C0->iB,Awv->iG,Ae2->iH
open Int renaming toNat_natCast->aE,natCast_nonneg->aF,cast_ofNat_Int->aN,toNat_zero->cC,le_refl->cO,eq_ofNat_of_zero_le->cS,ofNat_eq_natCast->dY,not_lt->gO,not_le->gP
open List renaming getElem?_eq_getElem->aC,length_map->aD,drop_eq_getElem_cons->aG,drop_of_length_le->aH,getElem?_map->aJ,getElem_mem->aK,length_append->aO,drop_zero->aP,length_singleton->aT,length_eq_zero_iff->aU,length_cons->aY,length_nil->bB,append_nil->bF,all_eq_true->bH,pairwise_cons->bI,map_cons->bJ,append_assoc->bK,getElem?_cons_zero->bL,mem_cons->bM,map_nil->bO,nil_append->bQ,all_cons->bU,length_eq_one_iff->bV,find?_cons->bW,length_pos_iff->bX,flatMap_cons->cB,filter_cons->cE,map_append->cF,all_nil->cG,append_eq_nil_iff->cH,mem_of_find?_eq_some->cM,mem_cons_of_mem->cN,flatMap_nil->cT,pairwise_singleton->cV,mem_filter->cY,length->dA,length_drop->dD,mem_cons_self->dN,take_of_length_le->dQ,mem_map->dR,length_filter_le->dS,filter_append->eI,exists_cons_of_ne_nil->eK,extract_eq_take_drop->eL,pairwise_iff_getElem->eM,length_take->eQ,flatMap_eq_nil_iff->eS,filter_eq_nil_iff->eW,headD_cons->eY,take_append_drop->fD,set_getElem_self->fF,singleton_append->fG,take_zero->fJ,mem_map_of_mem->fM,filter_eq_self->fN,any_cons->fO,mem_singleton->fR,mem_mergeSort->fS,pairwise_map->fZ,find?_some->gI,mem_append->gJ,mem_range->gQ,range->iE
open List.Pairwise renaming nil->eN,filter->hJ
open List.cons renaming injEq->gG,inj->gS
open Nat renaming mul_le_mul->aX,le_of_not_lt->aZ,le_refl->bN,mul_add->cI,le_trans->dC,add_assoc->dG,zero_le->dO,pos_of_ne_zero->fQ,add_zero->fY,add_mul->gE,one_mul->gF,zero_add->gV,toUInt8->gY
open Option renaming bind_some->aA,map_some->aI,getD_some->bZ,isSome_some->cK,isSome_iff_exists->dH,isSome_none->dK,getD_none->eR,map_eq_some_iff->eX,map_none->gK,or_none->gM
open UInt8 renaming lt_iff_toNat_lt->fE,toNat_inj->gH
namespace Go.CT.Sch
open Go.Proofs
theorem A2n (c:UInt8):(0:Int)<=c.toNat/\(c.toNat:Int)<=255:=by
 have:=c.toNat_lt;omega
theorem Ht {s:ByteArray}{i:Nat}(h:i<s.size):s.data.toList.drop i=s[i]::s.data.toList.drop (i+1):=by
 rw[aG (by simpa using h)];rfl
theorem Ahj (s:ByteArray)(g:s.size<=4611686018427387904): ∀ (n i:Nat),i+n=s.size->W F10 1 [.str s,.int i]=some [.bool ((s.data.toList.drop i).all Ir&&decide (s.size<=200))]
 | 0,i,h=>by
  rw[Au6]
  have j: ¬ i<s.size:=by omega
  have m:s.data.toList.drop i= []:=aH (by simp;omega)
  have u:decide ((s.size:Int)<=200)=decide (s.size<=200):=by simp;omega
  simp[j,m]
  omega
 | n+1,i,h=>by
  have b:i<s.size:=by omega
  have o:=Ahj s g n (i+1) (by omega)
  have q:=Bf (i:=i) (by omega)
  rw[Au6,Ht b]
  have r:=A2n s[i]
  generalize t:s[i]=c at r
  have e1:Ir c= !(decide (¬ (c.toNat:Int)=10/\((c.toNat:Int)<32\/(126:Int)<c.toNat))):=by
   unfold Ir
   rw[aS]
   simp
   omega
  simp only[cW,aA,bA,Al,b,Zd,aR,Zt,hQ,aF,aE,A7i b,t,aI,eC,bU,e1,bR,q,o]
  by_cases a:(c.toNat:Int)=10
  ·simp[a]
  ·by_cases d:(c.toNat:Int)<32
   ·simp[a,d]
   ·by_cases e:(126:Int)<c.toNat
    ·simp[a,d,e]
    ·simp[a,d,e]
theorem Ayk (s:ByteArray)(a:s.size<=4611686018427387904):W F10 0 [.str s]=some [.bool (Jj s)]:=by
 rw[Baw]
 exact Ahj s a s.size 0 (by omega)
theorem Aab (s:ByteArray)(b:s.size<=4611686018427387904): ∀ (n i:Nat),i+n=s.size->W F14 1 [.str s,.int i]=some [.bool ((s.data.toList.drop i).all Bu&&decide (1<=s.size/\s.size<=40))]
 | 0,i,h=>by
  rw[Atb]
  have d: ¬ i<s.size:=by omega
  have e:s.data.toList.drop i= []:=aH (by simp;omega)
  have g:((s.size:Int)<=40)=(s.size<=40):=by simp;omega
  simp[d,e,g]
  have:((1:Int)<=s.size)=(1<=s.size):=by simp;omega
  by_cases c:1<=s.size<;>simp[this,c]
 | n+1,i,h=>by
  have a:i<s.size:=by omega
  have j:=Aab s b n (i+1) (by omega)
  have m:=Bf (i:=i) (by omega)
  rw[Atb,Ht a]
  generalize o:s[i]=c
  have e1:Bu c= !(decide (¬ (((97:Int)<=c.toNat/\(c.toNat:Int)<=122)\/((65:Int)<=c.toNat/\(c.toNat:Int)<=90))/\ ¬ ((48:Int)<=c.toNat/\(c.toNat:Int)<=57)/\ ¬ (c.toNat:Int)=45/\ ¬ (c.toNat:Int)=95/\ ¬ (c.toNat:Int)=47)):=by
   unfold Bu
   rw[aS]
   simp
   omega
  simp only[cW,aA,bA,Al,a,Zd,aR,Zt,hQ,aF,aE,A7i a,o,aI,eZ,eP,eC,bU,e1,bR,m,j]
  by_cases q:(97:Int)<=c.toNat<;>by_cases r:(c.toNat:Int)<=122<;>by_cases t:(65:Int)<=c.toNat<;>by_cases u:(c.toNat:Int)<=90<;>by_cases w:(48:Int)<=c.toNat<;>by_cases x:(c.toNat:Int)<=57<;>simp[q,r,t,u,w,x]<;>
   by_cases y:(c.toNat:Int)=45<;>by_cases z:(c.toNat:Int)=95<;>by_cases A:(c.toNat:Int)=47<;>simp[y,z,A]
theorem Amx (s:ByteArray)(a:s.size<=4611686018427387904):W F14 0 [.str s]=some [.bool (C4 s)]:=by
 rw[Bao]
 exact Aab s a s.size 0 (by omega)
end Go.CT.Sch
namespace Go.CT.Sch
open Go.Proofs
theorem Dj:(⟨#[]⟩:ByteArray)=An:=rfl
theorem Aiu (d:Nat)(o:Option ByteArray)(p:ByteArray × Val)(r:List (ByteArray × Val)):Ati d o (p::r)=(C4 p.1&&(match o with | none=>true | some q=>blt q p.1)&&B9 d p.2&&Ati d (some p.1) r):=by
 cases o<;>rfl
theorem Ark (v:Val)(i:v.Ap<=1099511627776):W F17 0 [v.enc]=some [.bool (Hf v)]:=by
 have j:=v.Av3
 rw[A73]
 unfold Hf
 simp only[dP,aA,aW,aR]
 by_cases b:v.k=1
 ·simp[b,Dj]
 by_cases c:v.k=2
 ·by_cases a: -1000000000000000<=v.n<;>by_cases a2:v.n<=1000000000000000<;>simp[c,a,a2,Dj]
 by_cases d:v.k=3
 ·simp[d,Ayk v.s (by omega)]
 by_cases e:v.k=0
 ·by_cases a:v.n=0<;>simp[e,Acy,a,Dj]
 by_cases g:v.k=4
 ·by_cases a:v.n=0<;>simp[g,Acy,a,Dj]
 by_cases h:v.k=5
 ·by_cases a:v.n=0<;>simp[h,Acy,a,Dj]
 simp[b,c,d,e,g,h,Acy]
theorem V7 (d:Nat)(v:Val)(hd:d<=12)(j:v.Ap<=1099511627776)(e: ∀x∈v.l,W F16 0 [x.enc,.int d]=some [.bool (B9 d x)]): ∀ (n i:Nat),i+n=v.l.length->
  W F16 1 [.int ((d+1:Nat):Int),.int i,v.enc]=if(v.l.drop i).all (B9 d)=true then W F16 2 [.int ((d+1:Nat):Int),.int 0,v.enc]else some [.bool false]
 | 0,i,h=>by
  rw[Ayi]
  have g: ¬ i<v.l.length:=by omega
  simp[g,aH (aZ g)]
 | n+1,i,h=>by
  have a:i<v.l.length:=by omega
  have o:=v.B5
  have m:=Bf (i:=i) (by omega)
  have b:IntKind.i64.wrap (((d+1:Nat):Int) - 1)=d:=by rw[wrap64 (by omega) (by omega)];omega
  have:=V7 d v hd j e n (i+1) (by omega)
  rw[Ayi,aG a]
  simp only[cQ,aA,bY,aD,bA,Al,a,Zd,aR,Zt,cD,aF,aE,aJ,aC a,aI,fA,b,e _ (aK a),bE,cX,bR,m,this,bU,aL]
  by_cases c:B9 d v.l[i]=true<;>simp[c]
theorem Xw (d:Nat)(v:Val)(hd:d<=12)(r:v.Ap<=1099511627776)(o: ∀p∈v.f,W F16 0 [p.2.enc,.int d]=some [.bool (B9 d p.2)]): ∀ (n i:Nat),i+n=v.f.length->
  W F16 2 [.int ((d+1:Nat):Int),.int i,v.enc]=some [.bool (Ati d (Hv v.f i) (v.f.drop i))]
 | 0,i,h=>by
  rw[Asw]
  have q: ¬ i<v.f.length:=by omega
  simp[q,aH (aZ q),Ati]
 | n+1,i,h=>by
  have b:i<v.f.length:=by omega
  have u:=v.Bc
  have t:=Bf (i:=i) (by omega)
  have c:IntKind.i64.wrap (((d+1:Nat):Int) - 1)=d:=by rw[wrap64 (by omega) (by omega)];omega
  have:=Xw d v hd r o n (i+1) (by omega)
  have a:=aK b
  have e:=dZ a
  have g:Hv v.f (i+1)=some v.f[i].1 :=by simp[Hv,b]
  rw[g]at this
  rw[Asw,aG b,Aiu]
  simp only[cL,aA,bY,aD,bA,Al,b,Zd,aR,Zt,cD,aF,aE,aJ,aC b,aI,dE,dI,Amx v.f[i].1 (by omega),fA,c,o _ a,bE,cX,bR,t,this,cR]
  cases i with
  | zero=>
   simp only[Hv]
   cases C4 v.f[0].1<;>cases B9 d v.f[0].2<;>simp
  | succ i=>
   have j:i<v.f.length:=by omega
   have m:IntKind.i64.wrap (((i+1:Nat):Int) - 1)=i:=by rw[wrap64 (by omega) (by omega)];omega
   have hp:(0:Int)<((i+1:Nat):Int):=by omega
   simp only[Hv,aC j,aI,m,hp,Zd,Zt,aF,aE,aA,dE,Ada]
   cases C4 v.f[i+1].1<;>cases B9 d v.f[i+1].2<;>cases blt v.f[i].1 v.f[i+1].1<;>simp
theorem Ym: ∀ (d:Nat) (v:Val),d<=12->v.Ap<=1099511627776->W F16 0 [v.enc,.int d]=some [.bool (B9 d v)]
 | 0,v,_,_=>by
  rw[Atv]
  simp[B9]
 | d+1,v,hd,j=>by
  have m:=V7 d v (by omega) j (λx u=>Ym d x (by omega) (by have:=eF u;omega)) v.l.length 0 (by omega)
  have r:=Xw d v (by omega) j (λp hp=>Ym d p.2 (by omega) (by have:=dZ hp;omega)) v.f.length 0 (by omega)
  rw[Atv]
  have w: ¬ ((d+1:Nat):Int)=0:=by omega
  simp only[aN,aP,Hv,Agg]at m r
  rw[r]at m
  simp only[aW,w,Ze,aA,aR,aB,Zf,Ark v j,bE,cX,cQ,cL,dP,bY,aD,cR,eC,m,B9]
  have t:v.l= []->v.l.all (B9 d)=true:=λe=>by rw[e];rfl
  have o:v.f= []->(v.f.all λp=>C4 p.1&&B9 d p.2)=true/\rising v.f=true:=λe=>by rw[e];exact⟨rfl,rfl⟩
  generalize v.l.all (B9 d)=A at *
  generalize (v.f.all λp=>C4 p.1&&B9 d p.2)=B at *
  generalize rising v.f=C at *
  cases y:Hf v with
  | false=>simp
  | true=>
   by_cases b:(64:Int)<v.l.length
   ·have: ¬ v.l.length<=64:=by omega
    simp[b,this]
   ·have d1:v.l.length<=64:=by omega
    by_cases c:(64:Int)<v.f.length
    ·have: ¬ v.f.length<=64:=by omega
     simp[b,c,this]
    ·have d2:v.f.length<=64:=by omega
     by_cases g:v.k=4
     ·have i: ¬ v.k=5:=by omega
      by_cases a:v.f= []
      ·simp[g,b,d1,a]
       cases A<;>simp
      ·have h:(0:Int)<v.f.length:=by have:=bX.2 a;omega
       simp[g,b,c,d1,d2,a,h]
     ·by_cases a:v.l= []
      ·by_cases i:v.k=5
       ·simp[i,c,d2,a]
        cases A<;>simp
       ·by_cases q:v.f= []
        ·simp[g,i,a,q]
         cases A<;>simp
        ·have h:(0:Int)<v.f.length:=by have:=bX.2 q;omega
         simp[g,i,a,q,h,c,d2]
      ·have h:(0:Int)<v.l.length:=by have:=bX.2 a;omega
       simp[g,a,h,b,c,d1,d2]
end Go.CT.Sch
namespace Go.CT
theorem get!_eq (s:ByteArray)(i:Nat)(h:i<s.size):s.get! (i+0)=s[i]:=by
 obtain⟨a⟩:=s
 have h':i<a.size:=h
 show a[i+0]! =a[i]
 simp[h']
theorem Pk {s:ByteArray}{i:Nat}(h:i<s.size)(a:s[i].toNat <128):Utf8.decode s i=(s[i].toNat,1):=by
 unfold Utf8.decode
 simp only[get!_eq s i h]
 rw[if_pos a]
theorem decode_high {s:ByteArray}{i:Nat}(h:i<s.size)(b:128<=s[i].toNat):128<=(Utf8.decode s i).1 :=by
 unfold Utf8.decode
 simp only[get!_eq s i h]
 rw[if_neg (by omega)]
 have e:Utf8.runeError=65533:=rfl
 split
 ·split<;>simp only[e]<;>omega
 ·split
  ·split
   ·rename_i a
    simp only[aL,decide_eq_true_eq,ge_iff_le]at a
    show 128<=_
    omega
   ·simp[e]
  ·split
   ·split
    ·rename_i a
     simp only[aL,decide_eq_true_eq,ge_iff_le]at a
     show 128<=_
     omega
    ·simp[e]
   ·simp[e]
namespace O
variable {s:ByteArray}{i:Nat}{b:Bool}{xs ys:List IV}
theorem Rk (h:i<s.size):Nu (.str s) (.int i)=some (.bool true):=by simp[Nu,dB,h]
theorem T7 (h: ¬ i<s.size):Nu (.str s) (.int i)=some (.bool false):=by simp[Nu,dB,h]
theorem Sg (h:i<s.size):N0 (.str s) (.int i)=some (.int (Utf8.decode s i).1):=by simp[N0,dB,h]
theorem Tk (h: ¬ i<s.size):N0 (.str s) (.int i)=some (.int 0):=by simp[N0,dB,h]
theorem M7 (h:i<s.size):Hu (.str s) (.int i)=some (.int ((i+(Utf8.decode s i).2 :Nat):Int)):=by simp[Hu,dB,h]
theorem Oo (h: ¬ i<s.size):Hu (.str s) (.int i)=some (.int i):=by simp[Hu,dB,h]
@[simp] theorem Sa:Ajw (.bool true)=some (.bool true):=rfl
theorem Ahd {n:Nat}(h:0<ys.length)(a:(xs.length+ys.length) * n<=Bb):Nh n (.list xs) (.list ys)=some (.list (xs++ys)):=if_pos ⟨h,a⟩
theorem Ajy (h:xs.length+s.size<=Bb):K5 (.list xs) (.str s)=some (.list (xs++Cl s)):=if_pos h
@[simp] theorem Arp:Ayg [.list xs]=some [.list xs]:=rfl
@[simp] theorem Ka:Lu [.list xs]=some [.list xs]:=rfl
theorem Wc: ∀l:List UInt8,(l.map λb:UInt8=>IV.int b.toNat).mapM Kv=some l
 | []=>rfl
 | b::l=>by
  have a:Kv (.int b.toNat)=some b:=by
   have h:(b.toNat:Int)<256:=by have:=b.toNat_lt;omega
   simp only[Kv,aF,h,and_self,Zt,aE]
   simp[gY]
  simp[bJ,List.mapM_cons,a,Wc l]
theorem Nc (s:ByteArray):Ty [.list (Cl s)]=some [.str s]:=by
 simp only[Ty,Cl,Wc,aI]
theorem Lf (s t:ByteArray):Cl (s++t)=Cl s++Cl t:=by
 simp[Cl,aQ]
theorem K6 (s:ByteArray):(Cl s).length =s.size:=by simp[Cl]
theorem A08 (n:Nat)(h:n<100):Asm [.int n]=some [.str (Mf n)]:=by
 simp only[Asm,aF,true_and,aE]
 rw[if_pos (by omega)]
end O
end Go.CT
namespace Go.CT.Sch
open Go.Proofs
structure Stp where
 k:Int
 nm:ByteArray
 ix:Int
 vl:ByteArray
def Stp.enc (s:Stp):IV:= .agg [.int s.k,.str s.nm,.int s.ix,.str s.vl]
@[simp] theorem Stp.Bp (s:Stp):dF 0 s.enc=some (.int s.k):=rfl
@[simp] theorem Stp.C7 (s:Stp):dF 1 s.enc=some (.str s.nm):=rfl
@[simp] theorem Stp.Eh (s:Stp):dF 2 s.enc=some (.int s.ix):=rfl
@[simp] theorem Stp.Cd (s:Stp):dF 3 s.enc=some (.str s.vl):=rfl
def Stp.fits (s:Stp):Prop:=s.nm.size<=1099511627000/\s.vl.size<=1099511627000
def bsL (l:List UInt8):ByteArray:=⟨l.toArray⟩
theorem Gq (a b:List UInt8):bsL (a++b)=bsL a++bsL b:=by
 apply Gb
 rw[aQ];simp[bsL]
theorem Ca (l:List UInt8):(bsL l).size =l.length:=by simp[bsL,ByteArray.size]
theorem Ps (s:ByteArray):bsL s.data.toList=s:=rfl
theorem Hd (s:ByteArray):An++s=s:=by
 apply Gb
 rw[aQ];rfl
theorem Rq (s:ByteArray):s++An=s:=by
 apply Gb
 rw[aQ];simp[An]
theorem A3t {s:ByteArray}{i:Nat}(h:i<s.size):s.extract i (i+1)=bsL [s[i]]:=by
 apply Gb
 rw[eT,fH]
 simp only[eL,bsL]
 have:=Ht h
 rw[show i+1 - i=1 by omega,this]
 rfl
def I6 (c:UInt8):List UInt8:=if c.toNat=10 then[92,110]else if c.toNat=34\/c.toNat=92 then[92,c]else[c]
def Me (s:ByteArray):ByteArray:=bsL (34::s.data.toList.flatMap I6++ [34])
theorem Az2 (c:UInt8):(I6 c).length <=2:=by unfold I6;split<;> (try split)<;>simp
theorem Akb: ∀l:List UInt8,(l.flatMap I6).length <=2 * l.length
 | []=>by simp
 | c::l=>by
  have:=Az2 c
  have:=Akb l
  simp only[cB,aO,aY];omega
theorem Re (s:ByteArray):(Me s).size <=2+2 * s.size:=by
 have:=Akb s.data.toList
 have h:s.data.toList.length=s.size:=by simp
 unfold Me
 rw[Ca]
 simp only[aY,aO,bB]
 omega
def Dl (x:Stp):Bool:=
 if x.k=1 then C4 x.nm&&decide (x.ix=0)&&decide (x.vl=An)
 else if x.k=2 then decide (0<=x.ix)&&decide (x.ix<=64)&&decide (x.nm=An)&&decide (x.vl=An)
 else if x.k=3 then C4 x.nm&&Jj x.vl&&decide (x.ix=0)
 else false
def Cy (p:List Stp):Bool:=p.all Dl&&decide (p.length<=16)
def H0 (first:Bool)(x:Stp):ByteArray:=
 if x.k=2 then bsL [91]++fT x.ix.toNat++bsL [93]
 else if x.k=3 then bsL [91]++x.nm++bsL [61]++Me x.vl++bsL [93]
 else if first then x.nm else bsL [46]++x.nm
def Ei:Bool->List Stp->ByteArray
 | _,[]=>An
 | b,x::r=>H0 b x++Ei false r
def Bgo (p:List Stp):ByteArray:=Ei true p
def Cn (p:List Stp):ByteArray:=if Cy p then Bgo p else An
def Ap1 (p:List Stp):Int:=if Cy p then 0 else 1
theorem Qj {s:ByteArray}(h:C4 s=true):s.size<=40:=by
 unfold C4 at h
 simp only[aL,decide_eq_true_eq]at h
 exact h.2.2
theorem Pv {s:ByteArray}(h:Jj s=true):s.size<=200:=by
 unfold Jj at h
 simp only[aL,decide_eq_true_eq]at h
 exact h.2
theorem S8 (n:Nat):(fT n).size <=2:=by
 unfold fT
 split
 ·show 1<=2;omega
 ·show 2<=2;omega
theorem Dv {x:Stp}(h:Dl x=true):x.nm.size<=40/\x.vl.size<=200/\(x.k=2->0<=x.ix/\x.ix<=64)/\(x.k=3->Jj x.vl=true)/\(x.k=1\/x.k=2\/x.k=3):=by
 have a:An.size=0:=rfl
 unfold Dl at h
 split at h
 ·rename_i k1
  simp only[aL,decide_eq_true_eq]at h
  exact⟨Qj h.1.1,by rw[h.2,a];omega,λh=>by omega,λh=>by omega,.inl k1⟩
 ·split at h
  ·rename_i k2
   simp only[aL,decide_eq_true_eq]at h
   exact⟨by rw[h.1.2,a];omega,by rw[h.2,a];omega,λ_=>⟨h.1.1.1,h.1.1.2⟩,λh=>by omega,.inr (.inl k2)⟩
  ·split at h
   ·rename_i b
    simp only[aL,decide_eq_true_eq]at h
    exact⟨Qj h.1.1,Pv h.1.2,λh=>by omega,λ_=>h.1.2,.inr (.inr b)⟩
   ·cases h
theorem Xr (c:UInt8):W F25 0 [.int c.toNat]=some [.bool (Bu c)]:=by
 rw[A79]
 simp only[eZ,eP,aW,aA,aR,Aw,Am]
 congr 3
 unfold Bu
 rw[aS]
 simp
 omega
theorem Vz (s:ByteArray)(b:s.size<=1099511627776): ∀ (n i:Nat),i+n=s.size->W F24 1 [.str s,.int i]=some [.bool ((s.data.toList.drop i).all Bu&&decide (1<=s.size/\s.size<=40))]
 | 0,i,h=>by
  have c: ¬ i<s.size:=by omega
  have d:s.data.toList.drop i= []:=aH (by simp;omega)
  rw[Auy]
  simp only[cW,aA,bA,Al,c,Ze,aR,aB,Zf,cR,eP,Aw,Am,d,cG,bP]
  congr 3
  rw[aS]
  simp
  omega
 | n+1,i,h=>by
  have a:i<s.size:=by omega
  have e:=Bf (i:=i) (by omega)
  have g:=Vz s b n (i+1) (by omega)
  rw[Auy,Ht a]
  simp only[cW,aA,bA,Al,a,Zd,aR,Zt,hQ,aF,aE,A7i a,aI,Xr,bE,cX,bR,e,g,bU]
  cases Bu s[i]<;>simp
theorem Atx (s:ByteArray)(a:s.size<=1099511627776):W F24 0 [.str s]=some [.bool (C4 s)]:=by
 rw[Bb4];exact Vz s a s.size 0 (by omega)
theorem Aa5 (s:ByteArray)(j:s.size<=1099511627776): ∀ (n i:Nat),i+n=s.size->W F26 1 [.str s,.int i]=some [.bool ((s.data.toList.drop i).all Ir&&decide (s.size<=200))]
 | 0,i,h=>by
  have m: ¬ i<s.size:=by omega
  have o:s.data.toList.drop i= []:=aH (by simp;omega)
  rw[Ayl]
  simp only[cW,aA,bA,Al,m,Ze,aR,aB,Zf,eP,o,cG,bP]
  congr 3
  rw[aS]
  simp
  omega
 | n+1,i,h=>by
  have d:i<s.size:=by omega
  have q:=Bf (i:=i) (by omega)
  have r:=Aa5 s j n (i+1) (by omega)
  rw[Ayl,Ht d]
  have e1:Ir s[i]= !(if(!decide ((s[i].toNat :Int)=10))=true then(if decide ((s[i].toNat :Int)<32)=true then true else decide (126<(s[i].toNat :Int))) else false):=by
   unfold Ir
   rw[aS]
   by_cases e:s[i].toNat =10
   ·simp[e]
   ·have c: ¬ (s[i].toNat :Int)=10:=by omega
    by_cases g:s[i].toNat <32
    ·have a:(s[i].toNat :Int)<32:=by omega
     simp[e,c,g,a];omega
    ·have a: ¬ (s[i].toNat :Int)<32:=by omega
     simp[e,c,g,a]
     omega
  simp only[cW,aA,bA,Al,d,Zd,aR,Zt,hQ,aF,aE,A7i d,aI,eC,cR,Aw,Am,bR,q,r,bU,e1]
  generalize (if(!decide ((s[i].toNat :Int)=10))=true then(if decide ((s[i].toNat :Int)<32)=true then true else decide (126<(s[i].toNat :Int))) else false)=b
  cases b<;>simp
theorem A5n (s:ByteArray)(a:s.size<=1099511627776):W F26 0 [.str s]=some [.bool (Jj s)]:=by
 rw[Bcf];exact Aa5 s a s.size 0 (by omega)
theorem Auk (s:Stp)(a:s.fits):W F23 0 [s.enc]=some [.bool (Dl s)]:=by
 have c:=Atx s.nm (dC a.1 (by decide))
 have d:=A5n s.vl (dC a.2 (by decide))
 rw[A9z]
 simp only[Stp.Bp,Stp.C7,Stp.Eh,Stp.Cd,aA,aW,aR,c,d,bE,eZ,eP,gA,Aw,Am,Dj]
 unfold Dl
 by_cases k1:s.k=1
 ·simp only[k1,Zd,Zt]
  cases C4 s.nm<;>simp
 ·by_cases k2:s.k=2
  ·simp only[k1,k2,Zd,Ze,aB,Zt,Zf]
   by_cases e1:0<=s.ix<;>by_cases e:s.ix<=64<;>by_cases g:s.nm=An<;>simp[e1,e,g]
  ·simp only[k1,k2,Ze,aB,Zf]
   by_cases b:s.k=3
   ·simp only[b,Zd,Zt]
    cases C4 s.nm<;>cases Jj s.vl<;>simp
   ·simp[b]
theorem Uo (p:List Stp)(hp: ∀s∈p,s.fits)(b:p.length<=1099511627776): ∀ (n i:Nat),i+n=p.length->W F22 1 [.list (p.map Stp.enc),.int i]=some [.bool ((p.drop i).all Dl&&decide (p.length<=16))]
 | 0,i,h=>by
  have c: ¬ i<p.length:=by omega
  have d:p.drop i= []:=aH (by omega)
  rw[Atg]
  simp only[bY,aD,aA,bA,Al,c,Ze,aR,aB,Zf,eP,d,cG,bP]
  congr 3
  rw[aS]
  simp
  omega
 | n+1,i,h=>by
  have a:i<p.length:=by omega
  have e:=Bf (i:=i) (by omega)
  have g:=Uo p hp b n (i+1) (by omega)
  rw[Atg,aG a]
  simp only[bY,aD,aA,bA,Al,a,Zd,aR,Zt,cD,aF,aE,aJ,aC a,aI,Auk _ (hp _ (aK a)),bE,cX,bR,e,g,bU]
  cases Dl p[i]<;>simp
theorem Ll (p:List Stp)(hp: ∀s∈p,s.fits)(a:p.length<=1099511627776):W F22 0 [.list (p.map Stp.enc)]=some [.bool (Cy p)]:=by
 rw[Bam];exact Uo p hp a p.length 0 (by omega)
theorem Gn {a b:ByteArray}(c:a.size<=100000)(d:b.size<=100000):O.cat (.str a) (.str b)=some (.str (a++b)):=by
 rw[O.A8y,if_pos (by unfold Bb;omega)]
theorem Bbt: ∀d:Fin 10,(⟨#[48,49,50,51,52,53,54,55,56,57]⟩:ByteArray).extract d (d+1)=bsL [(48+d.val).toUInt8]:=by decide+kernel
theorem Bca (n:Int)(h:0<=n)(q:n<=64):W F27 0 [.int n]=some [.str (fT n.toNat)]:=by
 have sl: ∀d:Nat,d<10->O.Ny (.str ⟨#[48,49,50,51,52,53,54,55,56,57]⟩) (.int d) (.int ((d:Int)+1))=some (.str (bsL [(48+d).toUInt8])):=by
  intro d hd
  rw[O.Te,if_pos ⟨by omega,by omega,by show(d:Int)+1<=10;omega⟩]
  have:=Bbt ⟨d,hd⟩
  simp only[aE]
  rw[show((d:Int)+1).toNat =d+1 by omega,this]
 obtain⟨m,rfl⟩:=cS h
 rw[Bcd]
 unfold fT
 simp only[dY,aE]
 by_cases c:m<10
 ·have i:IntKind.i64.wrap ((m:Int)+1)=(m:Int)+1:=wrap64 (by omega) (by omega)
  have c':(m:Int)<10:=by omega
  simp only[bA,c',Zd,aA,aR,Zt,bR,i,sl m c,c]
  rfl
 ·have c': ¬ (m:Int)<10:=by omega
  have j:(m:Int).tdiv 10=((m / 10:Nat):Int):=by rw[Int.tdiv_eq_ediv_of_nonneg (by omega)];omega
  have o:(m:Int).tmod 10=((m % 10:Nat):Int):=by rw[Int.tmod_eq_emod_of_nonneg (by omega)];omega
  have a:IntKind.i64.wrap ((m / 10:Nat):Int)=((m / 10:Nat):Int):=wrap64 (by omega) (by omega)
  have b:IntKind.i64.wrap (((m / 10:Nat):Int)+1)=((m / 10:Nat):Int)+1:=wrap64 (by omega) (by omega)
  have e:IntKind.i64.wrap (((m % 10:Nat):Int)+1)=((m % 10:Nat):Int)+1:=wrap64 (by omega) (by omega)
  have g: ¬ (10:Int)=0:=by omega
  simp only[bA,c',Ze,aA,aR,aB,Zf,O.A88,O.A77,g,j,o,a,bR,b,e,sl (m / 10) (by omega),sl (m % 10) (by omega),c]
  rw[Gn (by rw[Ca];simp) (by rw[Ca];simp),<-Gq]
  rfl
theorem W9 (s:ByteArray)(t:s.size<=200): ∀ (n i:Nat) (o:ByteArray),i+n=s.size->o.size<=1+2 * i->W F28 1 [.str s,.str o,.int i]=some [.str (o++bsL ((s.data.toList.drop i).flatMap I6++ [34]))]
 | 0,i,o,h,u=>by
  have g: ¬ i<s.size:=by omega
  have j:s.data.toList.drop i= []:=aH (by simp;omega)
  rw[Ay7]
  simp only[cW,aA,bA,Al,g,Ze,aR,aB,Zf,j,cT,bQ]
  rw[show(ByteArray.mk #[34])=bsL [34]from rfl,Gn (by omega) (by rw[Ca];simp)]
  rfl
 | n+1,i,o,h,u=>by
  have e:i<s.size:=by omega
  have m:=Bf (i:=i) (by omega)
  have d:O.Ny (.str s) (.int i) (.int ((i+1:Nat):Int))=some (.str (bsL [s[i]])):=by
   rw[O.Te,if_pos ⟨by omega,by omega,by omega⟩]
   simp only[aE]
   rw[A3t e]
  have next: ∀a:List UInt8,a.length<=2->I6 s[i]=a->W F28 2 [.str s,.str (o++bsL a),.int i]=some [.str (o++bsL ((s.data.toList.drop i).flatMap I6++ [34]))]:=by
   intro a x w
   rw[Bcc]
   simp only[bR,m,aA]
   rw[W9 s t n (i+1) _ (by omega) (by rw[aM,Ca];omega),Ht e,cB,w,bK,Gq a,bC]
  rw[Ay7]
  simp only[cW,aA,bA,Al,e,Zd,aR,Zt,hQ,aF,aE,A7i e,aI,aW,Aw,Am]
  rw[show(ByteArray.mk #[92,110])=bsL [92,110]from rfl,show(ByteArray.mk #[92])=bsL [92]from rfl]
  by_cases q:s[i].toNat =10
  ·have b:(s[i].toNat :Int)=10:=by omega
   simp only[b,Zd,Zt]
   rw[Gn (by omega) (by rw[Ca];simp)]
   exact next [92,110] (by simp) (by unfold I6;rw[if_pos q])
  ·have b: ¬ (s[i].toNat :Int)=10:=by omega
   simp only[b,Ze,aB,Zf]
   by_cases r:s[i].toNat =34\/s[i].toNat =92
   ·have c:(if decide ((s[i].toNat :Int)=34)=true then true else decide ((s[i].toNat :Int)=92))=true:=by
     rcases r with h | h<;>simp[h]
    simp only[c,Zt]
    rw[Gn (by omega) (by rw[Ca];simp)]
    simp only[aA,bR,m,d]
    rw[Gn (by rw[aM,Ca];simp;omega) (by rw[Ca];simp),bC,<-Gq]
    exact next [92,s[i]] (by simp) (by unfold I6;rw[if_neg q,if_pos r])
   ·have c:(if decide ((s[i].toNat :Int)=34)=true then true else decide ((s[i].toNat :Int)=92))=false:=by
     have g: ¬ (s[i].toNat :Int)=34:=by omega
     have j: ¬ (s[i].toNat :Int)=92:=by omega
     simp[g,j]
    simp only[c,aB,Zf,bR,m,aA,d]
    rw[Gn (by omega) (by rw[Ca];simp)]
    exact next [s[i]] (by simp) (by unfold I6;rw[if_neg q,if_neg r])
theorem Avw (s:ByteArray)(a:s.size<=200):W F28 0 [.str s]=some [.str (Me s)]:=by
 rw[A94,show(ByteArray.mk #[34])=bsL [34]from rfl]
 rw[show(IV.int 0)=IV.int ((0:Nat):Int) from rfl,W9 s a s.size 0 _ (by omega) (by rw[Ca];simp),<-Gq]
 rfl
theorem T4 {b:Bool}{x:Stp}(h:Dl x=true):(H0 b x).size <=500:=by
 obtain⟨a,d,_⟩:=Dv h
 have g:=Re x.vl
 have i:=S8 x.ix.toNat
 have e: ∀c:UInt8,(bsL [c]).size =1:=λc=>by rw[Ca];rfl
 unfold H0
 split
 ·simp only[aM,e];omega
 ·split
  ·simp only[aM,e];omega
  ·split
   ·omega
   ·simp only[aM,e];omega
theorem Zb (p:List Stp)(hp: ∀s∈p,Dl s=true)(w:p.length<=16): ∀ (n i:Nat) (o:ByteArray),i+n=p.length->o.size<=500 * i->W F21 1 [.list (p.map Stp.enc),.str o,.int i]=some [.str (o++Ei (decide (i=0)) (p.drop i)),.int 0]
 | 0,i,o,h,x=>by
  have y: ¬ i<p.length:=by omega
  have z:p.drop i= []:=aH (by omega)
  rw[Awp]
  simp only[bY,aD,aA,bA,Al,y,Ze,aR,aB,Zf,z,Ei,Rq]
 | n+1,i,o,h,x=>by
  have j:i<p.length:=by omega
  have A:=Bf (i:=i) (by omega)
  have b:=hp _ (aK j)
  obtain⟨C,B,r,F,G⟩:=Dv b
  have e: ∀c:UInt8,(bsL [c]).size =1:=λc=>by rw[Ca];rfl
  have next: ∀t:ByteArray,H0 (decide (i=0)) p[i]=t->W F21 2 [.list (p.map Stp.enc),.str (o++t),.int i]=some [.str (o++Ei (decide (i=0)) (p.drop i)),.int 0]:=by
   intro t u
   have m:(H0 (decide (i=0)) p[i]).size <=500:=T4 b
   rw[A8x]
   simp only[bR,A,aA]
   rw[Zb p hp w n (i+1) (o++t) (by omega) (by rw[aM,<-u];omega),aG j,Ei,u,bC]
   rfl
  rw[Awp]
  simp only[bY,aD,aA,bA,Al,j,Zd,aR,Zt,cD,aF,aE,aJ,aC j,aI,Stp.Bp,Stp.C7,Stp.Eh,Stp.Cd,aW,cR]
  rw[show(ByteArray.mk #[91])=bsL [91]from rfl,show(ByteArray.mk #[93])=bsL [93]from rfl,show(ByteArray.mk #[61])=bsL [61]from rfl,show(ByteArray.mk #[46])=bsL [46]from rfl]
  by_cases k2:p[i].k =2
  ·have hd:=Bca p[i].ix (r k2).1 (r k2).2
   have q:=S8 p[i].ix.toNat
   simp only[k2,Zd,Zt]
   rw[Gn (by omega) (by rw[e];omega)]
   simp only[aA,hd,bE]
   rw[Gn (by rw[aM,e];omega) (by omega)]
   simp only[aA]
   rw[Gn (by rw[aM,aM,e];omega) (by rw[e];omega)]
   simp only[aA,bC]
   exact next _ (by unfold H0;rw[if_pos k2,bC])
  ·simp only[k2,Ze,aB,Zf]
   by_cases d:p[i].k =3
   ·have hd:=Avw p[i].vl B
    have q:=Re p[i].vl
    simp only[d,Zd,Zt]
    rw[Gn (by omega) (by rw[e];omega)]
    simp only[aA]
    rw[Gn (by rw[aM,e];omega) (by omega)]
    simp only[aA]
    rw[Gn (by rw[aM,aM,e];omega) (by rw[e];omega)]
    simp only[aA,hd,bE]
    rw[Gn (by rw[aM,aM,aM,e,e];omega) (by omega)]
    simp only[aA]
    rw[Gn (by rw[aM,aM,aM,aM,e,e];omega) (by rw[e];omega)]
    simp only[aA,bC]
    exact next _ (by unfold H0;rw[if_neg k2,if_pos d];simp only[bC])
   ·simp only[d,Ze,aB,Zf]
    by_cases m:i=0
    ·have a: ¬ (0:Int)<i:=by omega
     have g:o=An:=by
      apply Gb
      have:o.size=0:=by omega
      have:o.data.toList.length=0:=by simpa using this
      rw[aU.1 this];rfl
     simp only[a,Ze,aB,Zf]
     have:=next p[i].nm (by unfold H0;rw[if_neg k2,if_neg d,if_pos (by simpa using m)])
     rw[g,Hd]at this
     rw[g]
     exact this
    ·have a:(0:Int)<i:=by omega
     simp only[a,Zd,Zt]
     rw[Gn (by omega) (by rw[e];omega)]
     simp only[aA]
     rw[Gn (by rw[aM,e];omega) (by omega)]
     simp only[aA,bC]
     exact next _ (by unfold H0;rw[if_neg k2,if_neg d,if_neg (by simpa using m)])
theorem Axv (p:List Stp)(hp: ∀s∈p,s.fits)(b:p.length<=1099511627776):W F21 0 [.list (p.map Stp.enc)]=some [.str (Cn p),.int (Ap1 p)]:=by
 rw[A8q]
 unfold Cn Ap1
 cases a:Cy p with
 | false=>simp only[Ll p hp b,a,bE,cX,aA,bG,aR,Zt];rfl
 | true=>
  simp only[Ll p hp b,a,bE,cX,aA,aV,aR,aB,Zf,Zt]
  unfold Cy at a
  simp only[aL,decide_eq_true_eq,bH]at a
  have:=Zb p a.1 a.2 p.length 0 An (by omega) (bN _)
  rw[Hd]at this
  exact this
end Go.CT.Sch
namespace Go.CT.Sch
open Go.Proofs
theorem Ags (s:ByteArray)(j:s.size<=1099511627776): ∀ (n i:Nat),i+n=s.size->W F60 1 [.str s,.int s.size,.int i]=some [.bool ((s.data.toList.drop i).all Ir&&decide (s.size<=200))]
 | 0,i,h=>by
  have m: ¬ i<s.size:=by omega
  have o:s.data.toList.drop i= []:=aH (by simp;omega)
  rw[Ayh]
  simp only[cW,aA,bA,Al,m,Ze,aR,aB,Zf,eP,o,cG,bP]
  congr 3
  rw[aS]
  simp
  omega
 | n+1,i,h=>by
  have d:i<s.size:=by omega
  have q:=Bf (i:=i) (by omega)
  have r:=Ags s j n (i+1) (by omega)
  rw[Ayh,Ht d]
  have e1:Ir s[i]= !(if(!decide ((s[i].toNat :Int)=10))=true then(if decide ((s[i].toNat :Int)<32)=true then true else decide (126<(s[i].toNat :Int))) else false):=by
   unfold Ir
   rw[aS]
   by_cases e:s[i].toNat =10
   ·simp[e]
   ·have c: ¬ (s[i].toNat :Int)=10:=by omega
    by_cases g:s[i].toNat <32
    ·have a:(s[i].toNat :Int)<32:=by omega
     simp[e,c,g,a];omega
    ·have a: ¬ (s[i].toNat :Int)<32:=by omega
     simp[e,c,g,a]
     omega
  simp only[cW,aA,bA,Al,d,Zd,aR,Zt,hQ,aF,aE,A7i d,aI,eC,cR,Aw,Am,bR,q,r,bU,e1]
  generalize (if(!decide ((s[i].toNat :Int)=10))=true then(if decide ((s[i].toNat :Int)<32)=true then true else decide (126<(s[i].toNat :Int))) else false)=b
  cases b<;>simp
theorem Bbf (s:ByteArray)(a:s.size<=1099511627776):W F60 0 [.str s]=some [.bool (Jj s)]:=by
 rw[Bab]
 simp only[cW,aA]
 exact Ags s a s.size 0 (by omega)
theorem Aiv (s:ByteArray)(b:s.size<=1099511627776): ∀ (n i:Nat),i+n=s.size->W F61 1 [.str s,.int s.size,.int i]=some [.bool ((s.data.toList.drop i).all Bu&&decide (1<=s.size/\s.size<=40))]
 | 0,i,h=>by
  have d: ¬ i<s.size:=by omega
  have e:s.data.toList.drop i= []:=aH (by simp;omega)
  rw[Axh]
  simp only[cW,aA,bA,Al,d,Ze,aR,aB,Zf,eZ,eP,Aw,Am,e,cG,bP]
  congr 3
  rw[aS]
  simp
  omega
 | n+1,i,h=>by
  have a:i<s.size:=by omega
  have g:=Bf (i:=i) (by omega)
  have j:=Aiv s b n (i+1) (by omega)
  rw[Axh,Ht a]
  generalize m:s[i]=c
  simp only[cW,aA,bA,Al,a,Zd,aR,Zt,hQ,aF,aE,A7i a,m,aI,eZ,eP,aW,Aw,Am,cX,bR,g,j,bU]
  have e1:Bu c=(if(if(if(if(if(if decide ((97:Int)<=c.toNat)=true then decide ((c.toNat:Int)<=122) else false)=true then true else if decide ((65:Int)<=c.toNat)=true then decide ((c.toNat:Int)<=90) else false)=true then true else if decide ((48:Int)<=c.toNat)=true then decide ((c.toNat:Int)<=57) else false)=true then true else decide ((c.toNat:Int)=45))=true then true else decide ((c.toNat:Int)=95))=true then true else decide ((c.toNat:Int)=47)):=by
   unfold Bu
   rw[aS]
   simp
   omega
  rw[<-e1]
  cases Bu c<;>simp
theorem A8m (s:ByteArray)(a:s.size<=1099511627776):W F61 0 [.str s]=some [.bool (C4 s)]:=by
 rw[A8g]
 simp only[cW,aA]
 exact Aiv s a s.size 0 (by omega)
theorem Ayz (v:Val)(i:v.Ap<=1099511627776):W F59 0 [v.enc]=some [.bool (Hf v)]:=by
 have j:=v.Av3
 rw[A9d]
 unfold Hf
 simp only[dP,aA,aW,aR]
 by_cases b:v.k=1
 ·by_cases a:v.s=An<;>by_cases a2:v.n=0<;>simp[b,a,a2,Dj]
 by_cases c:v.k=2
 ·by_cases a: -1000000000000000<=v.n<;>by_cases a2:v.n<=1000000000000000<;>by_cases a3:v.s=An<;>simp[c,a,a2,a3,Dj]
 by_cases d:v.k=3
 ·by_cases a:v.n=0<;>simp[d,a,Bbf v.s (by omega)]
 by_cases e:v.k=0
 ·by_cases a:v.n=0<;>simp[e,Aee,a,Dj]
 by_cases g:v.k=4
 ·by_cases a:v.n=0<;>simp[g,Aee,a,Dj]
 by_cases h:v.k=5
 ·by_cases a:v.n=0<;>simp[h,Aee,a,Dj]
 simp[b,c,d,e,g,h,Aee]
theorem Abb (d:Nat)(v:Val)(hd:d<=12)(r:v.Ap<=1099511627776)(o: ∀p∈v.f,W F58 0 [p.2.enc,.int d]=some [.bool (B9 d p.2)]): ∀ (n i:Nat),i+n=v.f.length->
  W F58 2 [.int ((d+1:Nat):Int),.list (v.f.map bD),.int v.f.length,.int i,v.enc]=some [.bool (Ati d (Hv v.f i) (v.f.drop i))]
 | 0,i,h=>by
  rw[Awy]
  have q: ¬ i<v.f.length:=by omega
  simp[q,aH (aZ q),Ati]
 | n+1,i,h=>by
  have b:i<v.f.length:=by omega
  have u:=v.Bc
  have t:=Bf (i:=i) (by omega)
  have c:IntKind.i64.wrap (((d+1:Nat):Int) - 1)=d:=by rw[wrap64 (by omega) (by omega)];omega
  have:=Abb d v hd r o n (i+1) (by omega)
  have a:=aK b
  have e:=dZ a
  have g:Hv v.f (i+1)=some v.f[i].1 :=by simp[Hv,b]
  rw[g]at this
  rw[Awy,aG b,Aiu]
  simp only[cL,aA,bA,Al,b,Zd,aR,Zt,cD,aF,aE,aJ,aC b,aI,dE,dI,A8m v.f[i].1 (by omega),fA,c,o _ a,bE,cX,cR,bR,t,this]
  cases i with
  | zero=>
   simp only[Hv]
   cases C4 v.f[0].1<;>cases B9 d v.f[0].2<;>simp
  | succ i=>
   have j:i<v.f.length:=by omega
   have m:IntKind.i64.wrap (((i+1:Nat):Int) - 1)=i:=by rw[wrap64 (by omega) (by omega)];omega
   have hp:(0:Int)<((i+1:Nat):Int):=by omega
   simp only[Hv,aC j,aI,m,hp,Zd,Zt,aF,aE,aA,dE,Ta]
   cases C4 v.f[i+1].1<;>cases B9 d v.f[i+1].2<;>cases blt v.f[i].1 v.f[i+1].1<;>simp
theorem Z5 (d:Nat)(v:Val)(hd:d<=12)(j:v.Ap<=1099511627776)(e: ∀x∈v.l,W F58 0 [x.enc,.int d]=some [.bool (B9 d x)]): ∀ (n i:Nat),i+n=v.l.length->
  W F58 1 [.int ((d+1:Nat):Int),.list (v.l.map bT),.int v.l.length,.int i,v.enc]=if(v.l.drop i).all (B9 d)=true then W F58 2 [.int ((d+1:Nat):Int),.list (v.f.map bD),.int v.f.length,.int 0,v.enc]else some [.bool false]
 | 0,i,h=>by
  rw[As4]
  have g: ¬ i<v.l.length:=by omega
  simp[g,aH (aZ g)]
 | n+1,i,h=>by
  have a:i<v.l.length:=by omega
  have o:=v.B5
  have m:=Bf (i:=i) (by omega)
  have b:IntKind.i64.wrap (((d+1:Nat):Int) - 1)=d:=by rw[wrap64 (by omega) (by omega)];omega
  have:=Z5 d v hd j e n (i+1) (by omega)
  rw[As4,aG a]
  simp only[aA,bA,Al,a,Zd,aR,Zt,cD,aF,aE,aJ,aC a,aI,fA,b,e _ (aK a),bE,cX,bR,m,this,bU]
  by_cases c:B9 d v.l[i]=true<;>simp[c]
theorem Ac5: ∀ (d:Nat) (v:Val),d<=12->v.Ap<=1099511627776->W F58 0 [v.enc,.int d]=some [.bool (B9 d v)]
 | 0,v,_,_=>by
  rw[Aui]
  simp[B9]
 | d+1,v,hd,a=>by
  have b:=Z5 d v (by omega) a (λx i=>Ac5 d x (by omega) (by have:=eF i;omega)) v.l.length 0 (by omega)
  have e:=Abb d v (by omega) a (λp hp=>Ac5 d p.2 (by omega) (by have:=dZ hp;omega)) v.f.length 0 (by omega)
  have j:=v.B5
  have m:=v.Bc
  have g: ¬ ((d+1:Nat):Int)=0:=by omega
  simp only[aP,aN]at b e
  have e1:decide ((0:Int)<(v.l.length:Int))= !decide (v.l= []):=by cases v.l<;>simp
  have o:decide ((0:Int)<(v.f.length:Int))= !decide (v.f= []):=by cases v.f<;>simp
  have q:decide ((64:Int)<(v.l.length:Int))= !decide (v.l.length<=64):=by rw[aS];simp;omega
  have r:decide ((64:Int)<(v.f.length:Int))= !decide (v.f.length<=64):=by rw[aS];simp;omega
  rw[Aui]
  simp only[aW,g,Ze,aA,aR,aB,Zf,Ayz v a,bE,cX,Aw,Am,dP,cQ,cL,eC,bY,aD,cR,e1,o,q,r,b,e]
  unfold B9
  have h:Hv v.f 0=none:=rfl
  rw[h,Agg]
  generalize v.l.all (B9 d)=A at *
  generalize (v.f.all λp=>C4 p.1&&B9 d p.2)=B at *
  generalize rising v.f=C at *
  generalize Hf v=D
  clear b e
  have t:(if(!decide (v.k=4))=true then !decide (v.l= []) else false)= !decide (v.k≠4->v.l= []):=by by_cases c:v.k=4<;>simp[c]
  have u:(if(!decide (v.k=5))=true then !decide (v.f= []) else false)= !decide (v.k≠5->v.f= []):=by by_cases c:v.k=5<;>simp[c]
  rw[t,u,show decide (v.l.length<=64/\v.f.length<=64/\(v.k≠4->v.l= [])/\(v.k≠5->v.f= []))=(decide (v.l.length<=64)&&(decide (v.f.length<=64)&&(decide (v.k≠4->v.l= [])&&decide (v.k≠5->v.f= [])))) by simp only[Bool.decide_and]]
  generalize decide (v.l.length<=64)=b1
  generalize decide (v.f.length<=64)=b2
  generalize decide (v.k≠4->v.l= [])=b3
  generalize decide (v.k≠5->v.f= [])=b4
  cases D<;>cases b1<;>cases b2<;>cases b3<;>cases b4<;>cases A<;>cases B<;>cases C<;>rfl
theorem Ait (v:Val)(g:v.Ap<=1099511627776)(d: ∀p∈v.f,W F62 0 [p.2.enc]=some [.int p.2.size]): ∀ (n i c:Nat),i+n=v.f.length->c+B6 (v.f.drop i)<=4611686018427387904->
  W F62 2 [.int c,.list (v.f.map bD),.int v.f.length,.int i]=some [.int ((c+B6 (v.f.drop i):Nat):Int)]
 | 0,i,c,h,j=>by
  rw[Ax5]
  have e: ¬ i<v.f.length:=by omega
  simp[e,aH (aZ e),B6]
 | n+1,i,c,h,j=>by
  have a:i<v.f.length:=by omega
  have o:=v.Bc
  have m:=Bf (i:=i) (by omega)
  have hd:B6 (v.f.drop i)=v.f[i].2.size +B6 (v.f.drop (i+1)):=by rw[aG a];rfl
  have b:IntKind.i64.wrap ((c:Int)+(v.f[i].2.size :Int))=((c+v.f[i].2.size :Nat):Int):=by rw[wrap64 (by omega) (by omega)];rfl
  rw[Ax5]
  simp only[aA,bA,Al,a,Zd,aR,Zt,cD,aF,aE,aJ,aC a,aI,dI,d _ (aK a),bE,bR,m,b]
  rw[Ait v g d n (i+1) _ (by omega) (by omega),hd,dG]
theorem Afn (v:Val)(g:v.Ap<=1099511627776)(d: ∀x∈v.l,W F62 0 [x.enc]=some [.int x.size]): ∀ (n i c:Nat),i+n=v.l.length->c+Cp (v.l.drop i)<=4611686018427387904->
  W F62 1 [.int c,.list (v.l.map bT),.int v.l.length,.int i,v.enc]=W F62 2 [.int ((c+Cp (v.l.drop i):Nat):Int),.list (v.f.map bD),.int v.f.length,.int 0]
 | 0,i,c,h,j=>by
  rw[Aug]
  have e: ¬ i<v.l.length:=by omega
  simp[e,aH (aZ e),Cp]
 | n+1,i,c,h,j=>by
  have a:i<v.l.length:=by omega
  have o:=v.B5
  have m:=Bf (i:=i) (by omega)
  have hd:Cp (v.l.drop i)=v.l[i].size +Cp (v.l.drop (i+1)):=by rw[aG a];rfl
  have b:IntKind.i64.wrap ((c:Int)+(v.l[i].size :Int))=((c+v.l[i].size :Nat):Int):=by rw[wrap64 (by omega) (by omega)];rfl
  rw[Aug]
  simp only[aA,bA,Al,a,Zd,aR,Zt,cD,aF,aE,aJ,aC a,aI,d _ (aK a),bE,bR,m,b]
  rw[Afn v g d n (i+1) _ (by omega) (by omega),hd,dG]
theorem Ba0: ∀v:Val,v.Ap<=1099511627776->W F62 0 [v.enc]=some [.int v.size]:=by
 refine eD λv a b d=>?_
 have i:=v.G7
 have j:=v.size_eq
 have e:=Afn v d (λx g=>a x g (by have:=eF g;omega)) v.l.length 0 1 (by omega) (by simp only[aP];omega)
 have h:=Ait v d (λp hp=>b p hp (by have:=dZ hp;omega)) v.f.length 0 (1+Cp v.l) (by omega) (by simp only[aP];omega)
 simp only[aP,aN]at e h
 rw[A72]
 simp only[cQ,aA,bY,aD]
 have c:W F62 1 [.int 1,.list (v.l.map bT),.int v.l.length,.int 0,v.enc]=W F62 2 [.int ((1+Cp v.l:Nat):Int),.list (v.f.map bD),.int v.f.length,.int 0]:=e
 rw[c,h,j]
theorem It (v:Val)(a:v.Ap<=1099511627776):W F57 0 [v.enc]=some [.bool v.valid]:=by
 rw[Bb9]
 have b:=Ac5 12 v (by omega) a
 have c:=Ba0 v a
 simp only[aN]at b
 simp only[b,c,bE,aR,eP,aA,fL]
 have:decide ((v.size:Int)<=600)=decide (v.size<=600):=by simp;omega
 cases B9 12 v<;>simp[this]
end Go.CT.Sch
namespace Go.CT.Sch
open Go.Proofs
def nmR (r:Int):Bool:=decide (97<=r/\r<=122)||decide (65<=r/\r<=90)||decide (48<=r/\r<=57)||decide (r=45)||decide (r=95)||decide (r=47)
theorem Aky (r:Int):W F96 0 [.int r]=some [.bool (nmR r)]:=by
 rw[Ba8]
 simp only[eZ,eP,aW,aA,aR,Aw,Am]
 congr 3
 unfold nmR
 rw[aS]
 simp
theorem Vt (c:UInt8):nmR c.toNat=Bu c:=by
 unfold nmR Bu
 rw[aS]
 simp
 omega
theorem Ac8 {r:Int}(h:128<=r):nmR r=false:=by
 unfold nmR
 simp
 omega
theorem Aip {c:UInt8}(h:128<=c.toNat):Bu c=false:=by
 rw[<-Vt];exact Ac8 (by omega)
theorem Af5 (s:ByteArray)(d:s.size<=1099511627776): ∀ (n i:Nat),i+n=s.size->W F95 1 [.str s,.str s,.int i]=some [.bool ((s.data.toList.drop i).all Bu&&decide (1<=s.size/\s.size<=40))]
 | 0,i,h=>by
  have b: ¬ i<s.size:=by omega
  have g:s.data.toList.drop i= []:=aH (by simp;omega)
  rw[Awu]
  simp only[O.T7 b,O.Tk b,O.Oo b,aA,aR,aB,Zf,gZ,cW,eP,Aw,Am,g,cG,bP]
  congr 3
  have e:s=(⟨#[]⟩:ByteArray)↔s.size=0:=by
   constructor
   ·rintro rfl;rfl
   ·intro j
    apply Gb
    have:s.data.toList.length=0:=by simpa using j
    rw[aU.1 this]
  by_cases c:s.size=0
  ·simp[e,c]
  ·have m:1<=s.size:=by omega
   rw[aS]
   simp[e,c,m]
   omega
 | n+1,i,h=>by
  have a:i<s.size:=by omega
  rw[Awu,Ht a]
  simp only[O.Rk a,O.Sg a,O.M7 a,aA,aR,Zt,O.Sa,Aky,bE,cX,bU]
  by_cases o:s[i].toNat <128
  ·have q:=Af5 s d n (i+1) (by omega)
   rw[Pk a o]
   simp only[Vt]
   cases Bu s[i]with
   | true=>simpa using q
   | false=>simp
  ·have hd:=decode_high a (by omega)
   rw[Ac8 (by omega),Aip (by omega)]
   simp
theorem A81 (s:ByteArray)(a:s.size<=1099511627776):W F95 0 [.str s]=some [.bool (C4 s)]:=by
 rw[A7s];exact Af5 s a s.size 0 (by omega)
theorem Ahm (s:ByteArray):(Val.mk 3 0 s [] []).valid =Jj s:=by
 unfold fL B9
 simp[Hf,rising,Val.size,Cp,B6]
theorem Baa (s:Stp)(a:s.fits):W F94 0 [s.enc]=some [.bool (Dl s)]:=by
 have d:=A81 s.nm (dC a.1 (by decide))
 have b:=It ⟨3,0,s.vl,[],[]⟩ (by
  have:=a.2
  rw[hZ];simp[Ed,Ch];omega)
 rw[Ahm]at b
 have e:IV.agg [.int 3,.int 0,.str s.vl,.list [],.list []]=bT ⟨3,0,s.vl,[],[]⟩:=rfl
 rw[A9c]
 simp only[Stp.Bp,Stp.C7,Stp.Eh,Stp.Cd,aA,aW,aR,d,bE,eZ,eP,gA,Aw,Am,Dj,Ai4,gR,eU,e,b]
 unfold Dl
 by_cases k1:s.k=1
 ·simp only[k1,Zd,Zt]
  cases C4 s.nm<;>simp
 ·by_cases k2:s.k=2
  ·simp only[k2,Zd,Ze,aB,Zt,Zf]
   by_cases e1:0<=s.ix<;>by_cases g:s.ix<=64<;>by_cases h:s.nm=An<;>simp[e1,g,h]
  ·simp only[k1,k2,Ze,aB,Zf]
   by_cases c:s.k=3
   ·simp only[c,Zd,Zt]
    cases C4 s.nm<;>cases Jj s.vl<;>simp
   ·simp[c]
theorem Ao1 (p:List Stp)(hp: ∀s∈p,s.fits)(c:p.length<=1099511627776): ∀ (n i:Nat),i+n=p.length->
  ∃r:Int,W F92 1 [.list (p.map Stp.enc),.int p.length,.int i]=some [.int r]/\decide (0<=r)= !(p.drop i).all Dl
 | 0,i,h=>by
  have d: ¬ i<p.length:=by omega
  have e:p.drop i= []:=aH (by omega)
  rw[As7]
  simp only[bA,Al,d,Ze,aA,aR,aB,Zf,e]
  exact⟨-1,rfl,rfl⟩
 | n+1,i,h=>by
  have a:i<p.length:=by omega
  have g:=Bf (i:=i) (by omega)
  obtain⟨r,j,b⟩:=Ao1 p hp c n (i+1) (by omega)
  rw[As7,aG a]
  simp only[bA,Al,a,Zd,aA,aR,Zt,cD,aF,aE,aJ,aC a,aI,Bcg,Baa _ (hp _ (aK a)),bE,cX,bR,g,j,bU]
  cases Dl p[i]with
  | true=>exact⟨r,by simp,by simpa using b⟩
  | false=>exact⟨i,by simp,by simp⟩
theorem Sh (p:List Stp)(hp: ∀s∈p,s.fits)(d:p.length<=1099511627776):W F90 0 [.list (p.map Stp.enc)]=some [.bool (Cy p)]:=by
 obtain⟨r,e,a⟩:=Ao1 p hp d p.length 0 (by omega)
 have b:W F92 0 [.list (p.map Stp.enc)]=some [.int r]:=by
  rw[Bak]
  simp only[bY,aD,aA]
  exact e
 rw[Bap]
 simp only[bY,aD,aA,eP,aR,Bbx,b,bE,eZ,a,cX,aP,gT]
 unfold Cy
 have:decide ((p.length:Int)<=16)=decide (p.length<=16):=by simp;omega
 rw[this]
 by_cases c:p.length<=16<;>simp[c]
theorem Nd (s:ByteArray)(c:UInt8)(a:s.size<=1000000):W F97 0 [.list (Cl s),.int c.toNat]=some [.list (Cl (s++bsL [c]))]:=by
 rw[Bbv]
 have h:((Cl s).length + [IV.int (c.toNat:Int)].length) * 1<=Bb:=by rw[O.K6];simp;unfold Bb;omega
 simp only[A8d,O.Ka,bE,gB,aA,fB,h,Zt,O.Lf]
 rfl
theorem Xv (s t:ByteArray)(a:s.size<=1000000)(b:t.size<=1000000): ∃n,W F100 0 [.list (Cl s),.str t]=some [n,.list (Cl (s++t))]:=by
 rw[A5k]
 have h:(Cl s).length +t.size<=Bb:=by rw[O.K6];unfold Bb;omega
 simp only[A8d,O.Ka,bE,O.Ajy h,aA,cW,O.Lf]
 exact⟨_,rfl⟩
theorem An6 (s:ByteArray)(c:UInt8)(d:c.toNat<128)(e:s.size<=1000000): ∃n,W F103 0 [.list (Cl s),.int c.toNat]=some [n,.list (Cl (s++bsL [c]))]:=by
 rw[A0b]
 have h:((Cl s).length + [IV.int (c.toNat:Int)].length) * 1<=Bb:=by rw[O.K6];simp;unfold Bb;omega
 have w1:IntKind.u32.wrap (c.toNat:Int)=c.toNat:=by
  unfold IntKind.wrap
  simp[IntKind.signed,IntKind.bits]
  omega
 have a:IntKind.u8.wrap (c.toNat:Int)=c.toNat:=by
  unfold IntKind.wrap
  simp[IntKind.signed,IntKind.bits]
  omega
 have b:decide ((c.toNat:Int)<=127)=true:=by simp;omega
 simp only[A8d,O.Ka,bE,bY,aA,Aze,O.Sq,w1,a,eP,b,aR,Zt,gB,fB,h,O.Lf,fA]
 exact⟨_,rfl⟩
theorem Asj {c:UInt8}(h:Ir c=true):c.toNat<128:=by
 unfold Ir at h
 simp at h
 omega
theorem Abg (s:ByteArray)(z:s.size<=200)(x: ∀c∈s.data.toList,Ir c=true): ∀ (n i:Nat) (o:ByteArray),i+n=s.size->o.size<=1+2 * i->W Bfk 1 [.str s,.int i,.list (Cl o)]=some [.str (o++bsL ((s.data.toList.drop i).flatMap I6++ [34]))]
 | 0,i,o,h,r=>by
  have t: ¬ i<s.size:=by omega
  have u:s.data.toList.drop i= []:=aH (by simp;omega)
  have w:=Nd o 34 (by omega)
  rw[Anz]
  simp only[O.T7 t,O.Tk t,O.Oo t,aA,aR,aB,Zf]
  rw[show(IV.int 34)=IV.int ((34:UInt8).toNat :Int) from rfl,w]
  simp only[bE,Ats,O.Nc,u,cT,bQ]
 | n+1,i,o,h,r=>by
  have j:i<s.size:=by omega
  have A:=x s[i] (by rw[show s[i]=s.data.toList[i]'(by simpa using j) from rfl];exact aK _)
  have b:=Asj A
  have next: ∀a:List UInt8,a.length<=2->I6 s[i]=a->W Bfk 3 [.str s,.int ((i+1:Nat):Int),.list (Cl (o++bsL a))]=some [.str (o++bsL ((s.data.toList.drop i).flatMap I6++ [34]))]:=by
   intro a G B
   rw[A26]
   rw[Abg s z x n (i+1) _ (by omega) (by rw[aM,Ca];omega),Ht j,cB,B,bK,Gq a,bC]
  rw[Anz]
  simp only[O.Rk j,O.Sg j,O.M7 j,Pk j b,aA,aR,Zt,O.Sa,aW]
  have two:s[i].toNat =34\/s[i].toNat =92->W Bfk 2 [.int s[i].toNat,.int s[i].toNat,.bool true,.str s,.int ((i+1:Nat):Int),.list (Cl o)]=some [.str (o++bsL ((s.data.toList.drop i).flatMap I6++ [34]))]:=by
   intro u
   rw[Ao5]
   have w:=Nd o 92 (by omega)
   obtain⟨m,q⟩:=An6 (o++bsL [92]) s[i] b (by rw[aM,Ca];simp;omega)
   simp only[aR,Zt]
   rw[show(IV.int 92)=IV.int ((92:UInt8).toNat :Int) from rfl,w]
   simp only[bE,q,fI]
   rw[bC,<-Gq]
   exact next [92,s[i]] (by simp) (by unfold I6;rw[if_neg (by omega),if_pos u])
  by_cases C:s[i].toNat =34
  ·have d:decide ((s[i].toNat :Int)=34)=true:=by simp;omega
   simp only[d,Zt]
   exact two (.inl C)
  ·have d:decide ((s[i].toNat :Int)=34)=false:=by simp;omega
   simp only[d,aB,Zf]
   by_cases F:s[i].toNat =92
   ·have e:decide ((s[i].toNat :Int)=92)=true:=by simp;omega
    simp only[e]
    exact two (.inr F)
   ·have e:decide ((s[i].toNat :Int)=92)=false:=by simp;omega
    simp only[e]
    rw[Ao5]
    simp only[aR,aB,Zf,aW,aA]
    by_cases y:s[i].toNat =10
    ·have g:decide ((s[i].toNat :Int)=10)=true:=by simp;omega
     simp only[g,Zt]
     obtain⟨m,q⟩:=Xv o (bsL [92,110]) (by omega) (by rw[Ca];simp)
     rw[show(ByteArray.mk #[92,110])=bsL [92,110]from rfl]
     simp only[q,fI]
     exact next [92,110] (by simp) (by unfold I6;rw[if_pos y])
    ·have g:decide ((s[i].toNat :Int)=10)=false:=by simp;omega
     simp only[g,aB,Zf]
     obtain⟨m,q⟩:=An6 o s[i] b (by omega)
     simp only[q,fI]
     exact next [s[i]] (by simp) (by unfold I6;rw[if_neg y,if_neg (by omega)])
theorem A2r (s:ByteArray)(h:Jj s=true):W Bfk 0 [.str s]=some [.str (Me s)]:=by
 have a:=Pv h
 unfold Jj at h
 simp only[aL,bH]at h
 rw[A2u]
 have b:=Nd An 34 (by decide)
 rw[show(IV.list [])=IV.list (Cl An) from rfl,show(IV.int 34)=IV.int ((34:UInt8).toNat :Int) from rfl,b]
 simp only[bE,Hd]
 rw[show(IV.int 0)=IV.int ((0:Nat):Int) from rfl,Abg s a h.1 s.size 0 _ (by omega) (by rw[Ca];simp),<-Gq]
 rfl
theorem Aa3 (p:List Stp)(hp: ∀s∈p,Dl s=true)(A:p.length<=16): ∀ (n i:Nat) (o:ByteArray),i+n=p.length->o.size<=500 * i->W F89 1 [.list (p.map Stp.enc),.int p.length,.int i,.list (Cl o)]=some [.str (o++Ei (decide (i=0)) (p.drop i)),.int 0]
 | 0,i,o,h,B=>by
  have C: ¬ i<p.length:=by omega
  have F:p.drop i= []:=aH (by omega)
  rw[Avd]
  simp only[aA,bA,Al,C,Ze,aR,aB,Zf,F,Ei,Rq,Ats,O.Nc,bE]
 | n+1,i,o,h,B=>by
  have j:i<p.length:=by omega
  have G:=Bf (i:=i) (by omega)
  have d:=hp _ (aK j)
  obtain⟨J,K,w,H,I⟩:=Dv d
  have e: ∀c:UInt8,(bsL [c]).size =1:=λc=>by rw[Ca];rfl
  have next: ∀t:ByteArray,H0 (decide (i=0)) p[i]=t->W F89 3 [.list (p.map Stp.enc),.int p.length,.int i,.list (Cl (o++t))]=some [.str (o++Ei (decide (i=0)) (p.drop i)),.int 0]:=by
   intro t y
   have q:(H0 (decide (i=0)) p[i]).size <=500:=T4 d
   rw[Bbl]
   simp only[bR,G,aA]
   rw[Aa3 p hp A n (i+1) (o++t) (by omega) (by rw[aM,<-y];omega),aG j,Ei,y,bC]
   rfl
  rw[Avd]
  simp only[aA,bA,Al,j,Zd,aR,Zt,cD,aF,aE,aJ,aC j,aI,Stp.Bp,Stp.C7,Stp.Eh,Stp.Cd,aW,cR]
  rw[show(ByteArray.mk #[91])=bsL [91]from rfl,show(ByteArray.mk #[93])=bsL [93]from rfl,show(ByteArray.mk #[61])=bsL [61]from rfl,show(IV.int 46)=IV.int ((46:UInt8).toNat :Int) from rfl]
  rcases I with k1 | k2 | g
  ·simp only[k1,Zd,Zt]
   by_cases q:i=0
   ·have a: ¬ (0:Int)<i:=by omega
    obtain⟨m,b⟩:=Xv o p[i].nm (by omega) (by omega)
    simp only[a,Ze,aB,Zf]
    rw[Aym]
    simp only[Stp.C7,aA,b,fI]
    exact next _ (by unfold H0;rw[if_neg (by omega),if_neg (by omega),if_pos (by simpa using q)])
   ·have a:(0:Int)<i:=by omega
    obtain⟨m,b⟩:=Xv (o++bsL [46]) p[i].nm (by rw[aM,e];omega) (by omega)
    simp only[a,Zd,Zt,Nd o 46 (by omega),bE]
    rw[Aym]
    simp only[Stp.C7,aA,b,fI,bC]
    exact next _ (by unfold H0;rw[if_neg (by omega),if_neg (by omega),if_neg (by simpa using q)])
  ·obtain⟨x,z⟩:=cS (w k2).1
   have r:=(w k2).2
   rw[z]at r
   have hd:W F99 0 [.int p[i].ix]=some [.str (fT p[i].ix.toNat)]:=by
    rw[Bhg,z,O.A08 x (by omega)];rfl
   have u:=S8 p[i].ix.toNat
   have k1:decide (p[i].k =1)=false:=by rw[k2];rfl
   simp only[k1,k2,Zd,aB,Zf,Zt,hd,bE]
   rw[Gn (by rw[e];omega) (by omega)]
   simp only[aA]
   rw[Gn (by rw[aM,e];omega) (by rw[e];omega)]
   obtain⟨m,b⟩:=Xv o (bsL [91]++fT p[i].ix.toNat ++bsL [93]) (by omega) (by rw[aM,aM,e,e];omega)
   simp only[aA,b,fI]
   exact next _ (by unfold H0;rw[if_pos k2])
  ·have hd:=A2r p[i].vl (H g)
   have u:=Re p[i].vl
   have k1:decide (p[i].k =1)=false:=by rw[g];rfl
   have k2:decide (p[i].k =2)=false:=by rw[g];rfl
   simp only[k1,k2,g,Zd,aB,Zf,Zt]
   rw[Gn (by rw[e];omega) (by omega)]
   simp only[aA]
   rw[Gn (by rw[aM,e];omega) (by rw[e];omega)]
   simp only[aA,hd,bE]
   rw[Gn (by rw[aM,aM,e,e];omega) (by omega)]
   simp only[aA]
   rw[Gn (by rw[aM,aM,aM,e,e];omega) (by rw[e];omega)]
   obtain⟨m,b⟩:=Xv o (bsL [91]++p[i].nm ++bsL [61]++Me p[i].vl ++bsL [93]) (by omega) (by simp only[aM,e];omega)
   simp only[aA,b,fI]
   exact next _ (by unfold H0;rw[if_neg (by omega),if_pos g])
theorem Aei (p:List Stp)(hp: ∀s∈p,s.fits)(b:p.length<=1099511627776):W F89 0 [.list (p.map Stp.enc)]=some [.str (Cn p),.int (Ap1 p)]:=by
 rw[Bay]
 unfold Cn Ap1
 cases a:Cy p with
 | false=>simp only[Sh p hp b,a,bE,cX,aA,bG,aR,Zt];rfl
 | true=>
  simp only[Sh p hp b,a,bE,cX,aA,aV,aR,aB,Zf,Zt,bY,aD]
  unfold Cy at a
  simp only[aL,decide_eq_true_eq,bH]at a
  have:=Aa3 p a.1 a.2 p.length 0 An (by omega) (bN _)
  rw[Hd]at this
  exact this
end Go.CT.Sch
namespace Go.CT.Sch
open Go.Proofs
def Ar:Val:=⟨0,0,An,[],[]⟩
def Ix (o:Option Val):List IV:= [.int (o.getD Ar).k,.int (o.getD Ar).n,.str (o.getD Ar).s,.list ((o.getD Ar).l.map bT),.list ((o.getD Ar).f.map bD),.bool o.isSome]
theorem Sm {n b:Nat}(a:n<=1099511627776)(c:b<=127):n * b<=Bb:=by
 have:n * b<=1099511627776 * 127:=aX a c
 unfold Bb;omega
theorem Adq {α:Type}(l:List α){i:Nat}(h:i<l.length):l.take i++ [l[i]]=l.take (i+1):=by
 rw[List.take_add_one,aC h];rfl
theorem V6 (v:Val)(j:Gs 1099511627776 v)(m o q b c d e:IV)(r: ∀p∈v.f,W F33 0 [p.2.enc]=some p.2.E2): ∀ (n i:Nat),i+n=v.f.length->
  W F33 2 [.int i,v.enc,m,o,q,b,c,d,e,.list ((v.f.take i).map bD)]=some [b,c,d,e,.list (v.f.map bD)]
 | 0,i,h=>by
  rw[Auj]
  have t: ¬ i<v.f.length:=by omega
  simp only[cL,aA,bY,aD,bA,Al,t,Ze,aR,aB,Zf,dQ (aZ t)]
 | n+1,i,h=>by
  have a:i<v.f.length:=by omega
  have w:=j.Om
  have u:=Bf (i:=i) (by omega)
  have:=V6 v j m o q b c d e r n (i+1) (by omega)
  have g:((v.f.take i).length +1) * 96<=Bb:=Sm (by rw[eQ];omega) (by omega)
  rw[Auj]
  simp only[cL,aA,bY,aD,bA,Al,a,Zd,aR,Zt,cD,aF,aE,aJ,aC a,aI,dE,dI,r _ (aK a),eG,gR,eU,Fld.C0,gB,fB,aT,g,bR,u]
  rw[<-Adq v.f a,cF]at this
  exact this
theorem Ya (v:Val)(o:Gs 1099511627776 v)(b c d e g j:IV)(q: ∀x∈v.l,W F33 0 [x.enc]=some x.E2): ∀ (n i:Nat),i+n=v.l.length->
  W F33 1 [.int i,v.enc,b,c,d,e,g,j,.list ((v.l.take i).map bT)]=W F33 2 [.int 0,v.enc,b,c,d,e,g,j,.list (v.l.map bT),.list []]
 | 0,i,h=>by
  rw[Atm]
  have r: ¬ i<v.l.length:=by omega
  simp only[cQ,aA,bY,aD,bA,Al,r,Ze,aR,aB,Zf,dQ (aZ r)]
 | n+1,i,h=>by
  have a:i<v.l.length:=by omega
  have u:=o.U4
  have t:=Bf (i:=i) (by omega)
  have:=Ya v o b c d e g j q n (i+1) (by omega)
  have m:((v.l.take i).length +1) * 80<=Bb:=Sm (by rw[eQ];omega) (by omega)
  rw[Atm]
  simp only[cQ,aA,bY,aD,bA,Al,a,Zd,aR,Zt,cD,aF,aE,aJ,aC a,aI,q _ (aK a),eG,gR,eU,iB,gB,fB,aT,m,bR,t]
  rw[<-Adq v.l a,cF]at this
  exact this
theorem Awi: ∀v:Val,Gs 1099511627776 v->W F33 0 [v.enc]=some v.E2:=by
 refine eD λv b c a=>?_
 have d:=Ya v a (.int 0) (.int 0) (.str ⟨#[]⟩) (.int v.k) (.int v.n) (.str v.s) (λx e=>b x e (a.Lh e)) v.l.length 0 (by omega)
 have g:=V6 v a (.int 0) (.int 0) (.str ⟨#[]⟩) (.int v.k) (.int v.n) (.str v.s) (.list (v.l.map bT)) (λp hp=>c p hp (a.J9 hp)) v.f.length 0 (by omega)
 simp only[fJ,bO,aN]at d g
 rw[A9j]
 simp only[dP,gL,gC,aA]
 rw[d,g,eG]
theorem Abe (v:Val)(nm:ByteArray)(d:Gs 1099511627776 v)(e g j:IV): ∀ (n i:Nat),i+n=v.f.length->
  W F32 1 [.str nm,.int i,v.enc,e,g,j]=some (Ix (((v.f.drop i).find? λp=>decide (p.1=nm)).map (·.2)))
 | 0,i,h=>by
  rw[As2]
  have m: ¬ i<v.f.length:=by omega
  simp[m,aH (aZ m),Ix,Ar,An]
 | n+1,i,h=>by
  have b:i<v.f.length:=by omega
  have q:=d.Om
  have o:=Bf (i:=i) (by omega)
  have:=Abe v nm d e g j n (i+1) (by omega)
  have a:=aK b
  rw[As2,aG b]
  simp only[cL,aA,bY,aD,bA,Al,b,Zd,aR,Zt,cD,aF,aE,aJ,aC b,aI,dE,dI,gA,Awi v.f[i].2 (d.J9 a),eG,gR,bR,o,this,bW]
  by_cases c:v.f[i].1 =nm
  ·simp[c,Ix]
  ·have c':decide (v.f[i].1 =nm)=false:=by simpa using c
   simp only[c,c',Ze,aB,Zf]
theorem Azs (v:Val)(nm:ByteArray)(a:Gs 1099511627776 v):W F32 0 [v.enc,.str nm]=some (Ix (v.get nm)):=by
 rw[Bbq]
 unfold fU
 have:=Abe v nm a (.int 0) (.int 0) (.str ⟨#[]⟩) v.f.length 0 (by omega)
 simp only[aP,aN]at this
 simp only[dP,aA,aW,aR,this]
 by_cases c:v.k=5<;>simp[c,Ix,Ar,An]
def D4 (v:Val)(nm:ByteArray):List (ByteArray × Val):=if v.k=5 then v.f.filter (λp=> !decide (p.1=nm)) else[]
def S4 (p:ByteArray × Val):Bool->List (ByteArray × Val)->List (ByteArray × Val)
 | done,[]=>if done then[]else[p]
 | done,x::xs=>(if !done && !blt x.1 p.1 then[p]else[])++(if x.1=p.1 then[]else[x])++S4 p (done|| !blt x.1 p.1) xs
theorem Ab7 (p:ByteArray × Val): ∀ (l:List (ByteArray × Val)) (d:Bool),(S4 p d l).length <=l.length+1
 | [],d=>by cases d<;>simp[S4]
 | x::xs,true=>by
  simp only[S4,aV,cU,aB,Zf,bQ,eV,aO]
  have:(S4 p true xs).length <=xs.length:=by
   have key: ∀l,(S4 p true l).length <=l.length:=by
    intro l
    induction l with
    | nil=>simp[S4]
    | cons y ys a=>
     simp only[S4,aV,cU,aB,Zf,bQ,eV,aO,aY]
     split<;>simp<;>omega
   exact key xs
  split<;>simp<;>omega
 | x::xs,false=>by
  have b:=Ab7 p xs true
  have c:=Ab7 p xs false
  have key: ∀l,(S4 p true l).length <=l.length:=by
   intro l
   induction l with
   | nil=>simp[S4]
   | cons y ys a=>
    simp only[S4,aV,cU,aB,Zf,bQ,eV,aO,aY]
    split<;>simp<;>omega
  have e:=key xs
  simp only[S4,bG,bP,dW,aO,aY]
  cases blt x.1 p.1<;>simp<;>split<;>simp<;>omega
def Zi (l:List (ByteArray × Val)):List (ByteArray × Val):=l.foldl (λacc p=>S4 p false acc) []
theorem J1 (q:ByteArray × Val->Bool): ∀l:List (ByteArray × Val),Ci (l.filter q)<=Ci l
 | []=>by simp
 | p::l=>by
  have:=J1 q l
  rw[cE]
  split
  ·rw[B7,B7];omega
  ·rw[B7];omega
def Ez (v:Val)(nm:ByteArray)(x:Val):Val:=⟨5,0,An,[],Zi (D4 v nm++ [(nm,x)])⟩
theorem Xk {N:Nat}{v:Val}(h:Gs N v)(nm:ByteArray):Aq9 N (D4 v nm):=by
 unfold D4
 split
 ·exact⟨dC (dS _ _) h.Om,λp hp=>h.J9 (cY.1 hp).1⟩
 ·exact⟨dO _,by simp⟩
theorem Atr (v:Val)(nm:ByteArray)(a:v.Ap<=1099511627776):W F32 0 [v.enc,.str nm]=some (Ix (v.get nm)):=Azs v nm (C6 v (by omega))
end Go.CT.Sch
namespace Go.CT.Sch
open Go.Proofs
theorem Aa7 (v:Val)(r:v.Ap<=1099511627776)(e: ∀p∈v.f,W F18 0 [p.2.enc]=some [.int p.2.size]): ∀ (n i c:Nat),i+n=v.f.length->c<=1099511627776->
  W F18 2 [.int c,.int i,v.enc]=some [.int ((c+B6 (v.f.drop i):Nat):Int)]
 | 0,i,c,h,o=>by
  rw[Adn]
  have d: ¬ i<v.f.length:=by omega
  simp[d,aH (aZ d),B6]
 | n+1,i,c,h,o=>by
  have a:i<v.f.length:=by omega
  have u:=v.Bc
  have g:=Bf (i:=i) (by omega)
  have w:=To (aK a)
  have j:=v.G7
  rw[v.size_eq]at j
  have hd:B6 (v.f.drop i)=v.f[i].2.size +B6 (v.f.drop (i+1)):=by rw[aG a];rfl
  have b:IntKind.i64.wrap ((c:Int)+(v.f[i].2.size :Nat))=((c+v.f[i].2.size :Nat):Int):=by rw[wrap64 (by omega) (by omega)];rfl
  rw[Adn]
  simp only[cL,aA,bY,aD,bA,Al,a,Zd,aR,Zt,cD,aF,aE,aJ,aC a,aI,dI,e _ (aK a),bE,bR,g,b]
  by_cases m:c+v.f[i].2.size <=1099511627776
  ·rw[Aa7 v r e n (i+1) _ (by omega) m,hd,dG]
  ·-- larger sums: only the bound differs
   have key: ∀ (n i c:Nat),i+n=v.f.length->c+B6 (v.f.drop i)<=4611686018427387904->W F18 2 [.int c,.int i,v.enc]=some [.int ((c+B6 (v.f.drop i):Nat):Int)]:=by
    intro n
    induction n with
    | zero=>
     intro i c h _
     rw[Adn]
     have d: ¬ i<v.f.length:=by omega
     simp[d,aH (aZ d),B6]
    | succ n ihn=>
     intro i c h o
     have a:i<v.f.length:=by omega
     have g:=Bf (i:=i) (by omega)
     have hd:B6 (v.f.drop i)=v.f[i].2.size +B6 (v.f.drop (i+1)):=by rw[aG a];rfl
     have b:IntKind.i64.wrap ((c:Int)+(v.f[i].2.size :Nat))=((c+v.f[i].2.size :Nat):Int):=by rw[wrap64 (by omega) (by omega)];rfl
     rw[Adn]
     simp only[cL,aA,bY,aD,bA,Al,a,Zd,aR,Zt,cD,aF,aE,aJ,aC a,aI,dI,e _ (aK a),bE,bR,g,b]
     rw[ihn (i+1) _ (by omega) (by omega),hd,dG]
   have q:B6 (v.f.drop (i+1))<=B6 v.f:=by
    have:=fD (i+1) v.f
    have t:=Ni (v.f.take (i+1)) (v.f.drop (i+1))
    rw[this]at t;omega
   rw[key n (i+1) _ (by omega) (by omega),hd,dG]
theorem Aa8 (v:Val)(g:v.Ap<=1099511627776)(d: ∀x∈v.l,W F18 0 [x.enc]=some [.int x.size]): ∀ (n i c:Nat),i+n=v.l.length->c+Cp (v.l.drop i)<=4611686018427387904->
  W F18 1 [.int c,.int i,v.enc]=W F18 2 [.int ((c+Cp (v.l.drop i):Nat):Int),.int 0,v.enc]
 | 0,i,c,h,j=>by
  rw[Ayd]
  have e: ¬ i<v.l.length:=by omega
  simp[e,aH (aZ e),Cp]
 | n+1,i,c,h,j=>by
  have a:i<v.l.length:=by omega
  have o:=v.B5
  have m:=Bf (i:=i) (by omega)
  have hd:Cp (v.l.drop i)=v.l[i].size +Cp (v.l.drop (i+1)):=by rw[aG a];rfl
  have b:IntKind.i64.wrap ((c:Int)+(v.l[i].size :Nat))=((c+v.l[i].size :Nat):Int):=by rw[wrap64 (by omega) (by omega)];rfl
  rw[Ayd]
  simp only[cQ,aA,bY,aD,bA,Al,a,Zd,aR,Zt,cD,aF,aE,aJ,aC a,aI,d _ (aK a),bE,bR,m,b]
  rw[Aa8 v g d n (i+1) _ (by omega) (by omega),hd,dG]
theorem A3z: ∀v:Val,v.Ap<=1099511627776->W F18 0 [v.enc]=some [.int v.size]:=by
 refine eD λv a b d=>?_
 have i:=v.G7
 have j:=v.size_eq
 have e:=Aa8 v d (λx g=>a x g (by have:=eF g;omega)) v.l.length 0 1 (by omega) (by simp only[aP];omega)
 have h:=Aa7 v d (λp hp=>b p hp (by have:=dZ hp;omega)) v.f.length 0 (1+Cp v.l) (by omega) (by omega)
 simp only[aP,aN]at e h
 rw[A9r]
 have c:W F18 1 [.int 1,.int 0,v.enc]=W F18 2 [.int ((1+Cp v.l:Nat):Int),.int 0,v.enc]:=e
 rw[c,h,j]
theorem Za (v:Val)(a:v.Ap<=1099511627776):W F15 0 [v.enc]=some [.bool v.valid]:=by
 rw[A9h]
 have b:=Ym 12 v (by omega) a
 have c:=A3z v a
 simp only[aN]at b
 simp only[b,c,bE,aR,eP,aA,fL]
 have:decide ((v.size:Int)<=600)=decide (v.size<=600):=by simp;omega
 cases B9 12 v<;>simp[this]
theorem Yf (v:Val)(u:v.Ap<=1099511627776)(q: ∀p∈v.f,∀c d:Int,c<=100000-> -1099511627776<=d->d<=100000-> ∃r:Int,W F4 0 [p.2.enc,.int c,.int d]=some [.int r]/\r<=100000)(d:Int)(hd: -1000000000000<=d/\d<=100000): ∀ (n i:Nat) (c:Int),i+n=v.f.length->c<=100000->
  ∃r:Int,W F4 2 [.int c,.int d,.int i,v.enc]=some [.int r]/\r<=100000
 | 0,i,c,h,e=>by
  rw[A6w]
  have w: ¬ i<v.f.length:=by omega
  exact⟨c,by simp[w],e⟩
 | n+1,i,c,h,e=>by
  have a:i<v.f.length:=by omega
  have A:=v.Bc
  have x:=Bf (i:=i) (by omega)
  have g:IntKind.i64.wrap (d - 1)=d - 1:=wrap64 (by omega) (by omega)
  obtain⟨r,y,j⟩:=q _ (aK a) c (d - 1) e (by omega) (by omega)
  obtain⟨z,m,b⟩:=Yf v u q d hd n (i+1) r (by omega) j
  rw[A6w]
  by_cases o:0<=c
  ·by_cases t:(1000:Int)<v.f[i].1.size
   ·exact⟨-1,by simp[a,o,t],by omega⟩
   ·exact⟨z,by simp only[cL,aA,bY,aD,bA,Al,a,Zd,aR,Zt,eZ,o,cD,aF,aE,aJ,aC a,aI,dE,cW,cR,t,Ze,aB,Zf,dI,fA,g,y,bE,bR,x,m],b⟩
  ·exact⟨c,by simp[a,o],e⟩
theorem Xq (v:Val)(t:v.Ap<=1099511627776)(o: ∀x∈v.l,∀c d:Int,c<=100000-> -1099511627776<=d->d<=100000-> ∃r:Int,W F4 0 [x.enc,.int c,.int d]=some [.int r]/\r<=100000)(d:Int)(hd: -1000000000000<=d/\d<=100000): ∀ (n i:Nat) (c:Int),i+n=v.l.length->c<=100000->
  ∃r:Int,W F4 1 [.int c,.int d,.int i,v.enc]=W F4 2 [.int r,.int d,.int 0,v.enc]/\r<=100000
 | 0,i,c,h,b=>by
  rw[A6a]
  have u: ¬ i<v.l.length:=by omega
  exact⟨c,by simp[u],b⟩
 | n+1,i,c,h,b=>by
  have e:i<v.l.length:=by omega
  have A:=v.B5
  have w:=Bf (i:=i) (by omega)
  have g:IntKind.i64.wrap (d - 1)=d - 1:=wrap64 (by omega) (by omega)
  obtain⟨r,y,j⟩:=o _ (aK e) c (d - 1) b (by omega) (by omega)
  obtain⟨z,m,a⟩:=Xq v t o d hd n (i+1) r (by omega) j
  rw[A6a]
  by_cases q:0<=c
  ·exact⟨z,by simp only[cQ,aA,bY,aD,bA,Al,e,Zd,aR,Zt,eZ,q,cD,aF,aE,aJ,aC e,aI,fA,g,y,bE,bR,w,m],a⟩
  ·exact⟨c,by simp[e,q],b⟩
theorem Axe: ∀v:Val,v.Ap<=1099511627776-> ∀c d:Int,c<=100000-> -1099511627776<=d->d<=100000-> ∃r:Int,W F4 0 [v.enc,.int c,.int d]=some [.int r]/\r<=100000:=by
 refine eD λv e g j c d z hd t=>?_
 rw[Bdo]
 by_cases b:c<=0
 ·exact⟨-1,by simp[b],by omega⟩
 ·by_cases h:d<=0
  ·exact⟨-1,by simp[b,h],by omega⟩
  ·by_cases m:(1000:Int)<v.s.size
   ·exact⟨-1,by simp[b,h,m],by omega⟩
   ·have u:IntKind.i64.wrap (c - 1)=c - 1:=wrap64 (by omega) (by omega)
    obtain⟨r,o,w⟩:=Xq v j (λx q=>e x q (by have:=eF q;omega)) d (by omega) v.l.length 0 (c - 1) (by omega) (by omega)
    obtain⟨y,a,i⟩:=Yf v j (λp hp=>g p hp (by have:=dZ hp;omega)) d (by omega) v.f.length 0 r (by omega) w
    simp only[aN]at o a
    exact⟨y,by simp[b,h,m,u,o,a],i⟩
theorem Kj (a b:Bool):W F215 0 [.bool a,.bool b]=some [.int (if a then -1 else if b then 1 else 0)]:=by
 rw[A2c];cases a<;>cases b<;>rfl
theorem Aj9 (a b:Int):(if decide (a<b)=true then(-1:Int) else if decide (b<a)=true then 1 else 0)=0↔a=b:=by
 by_cases c:a<b
 ·simp[c];omega
 ·by_cases d:b<a
  ·simp[c,d];omega
  ·simp[c,d];omega
theorem Awd (a b:ByteArray):(if blt a b=true then(-1:Int) else if blt b a=true then 1 else 0)=0↔a=b:=by
 rcases Lr a b with h | rfl | h
 ·simp[h];exact Kz h
 ·simp[Es]
 ·have:=Of h
  simp[h,this]
  exact λe=>Kz h e.symm
theorem A89 (a b:Val)(u:Gs 1099511627776 a)(t:Gs 1099511627776 b)(w: ∀p∈a.f,∀y:Val,Gs 1099511627776 y-> ∃c:Int,W A7c 0 [p.2.enc,y.enc]=some [.int c]/\(c=0↔p.2=y)): ∀ (n i:Nat) (c:Int),i+n=a.f.length->i<=b.f.length->
  ∃c':Int,W A7c 5 [.int c,.int i,a.enc,b.enc]=some [.int c']/\(c'=0↔c=0/\a.f.drop i=b.f.drop i)
 | n,i,c,h,C=>by
  have F:=u.Om
  have G:=t.Om
  rw[A28]
  by_cases x:c=0
  ·subst x
   by_cases d:i<a.f.length
   ·by_cases j:i<b.f.length
    ·obtain⟨m,rfl⟩: ∃m,n=m+1:=⟨n - 1,by omega⟩
     have B:=Bf (i:=i) (by omega)
     have q:=aK j
     obtain⟨H,I,J⟩:=w _ (aK d) b.f[i].2 (t.J9 q)
     have z:=Awd a.f[i].1 b.f[i].1
     have hd:(a.f.drop i=b.f.drop i)↔(a.f[i].1 =b.f[i].1 /\a.f[i].2 =b.f[i].2 /\a.f.drop (i+1)=b.f.drop (i+1)):=by
      rw[aG d,aG j]
      simp only[gG,Prod.ext_iff,and_assoc]
     simp only[cL,aA,bY,aD,bA,Al,d,j,Zd,aR,Zt,aW,cD,aF,aE,aJ,aC d,aC j,aI,dE,dI,As6,Atw,Kj,bE,hd]
     generalize (if blt a.f[i].1 b.f[i].1 =true then(-1:Int) else if blt b.f[i].1 a.f[i].1 =true then 1 else 0)=o at z
     by_cases r:o=0
     ·obtain⟨c',r1,r2⟩:=A89 a b u t w m (i+1) H (by omega) (by omega)
      refine⟨c',by simp only[r,Zd,Zt,I,bE,Alm,bR,B,aA,r1],?_⟩
      rw[r2,J]
      have:=z.1 r
      simp[this]
     ·obtain⟨c',r1,r2⟩:=A89 a b u t w m (i+1) o (by omega) (by omega)
      refine⟨c',by simp only[r,Ze,aB,Zf,Alm,bR,B,aA,r1],?_⟩
      rw[r2]
      have: ¬ a.f[i].1 =b.f[i].1 :=λe=>r (z.2 e)
      simp[r,this]
    ·have K:i=b.f.length:=by omega
     have L: ¬ a.f.length=b.f.length:=by omega
     refine⟨1,?_,by
      have: ¬ a.f.drop i=b.f.drop i:=λe=>by
       have:=congrArg dA e
       simp at this;omega
      simp[this]⟩
     have M: ¬ (a.f.length:Int)<b.f.length:=by omega
     have A:(b.f.length:Int)<a.f.length:=by omega
     simp[d,j,M,A,Kj]
   ·have K:i=a.f.length:=by omega
    refine⟨_,by simp only[cL,aA,bY,aD,bA,Al,d,Ze,aR,aB,Zf,aW,Zd,Zt,Kj,bE,cR];rfl,?_⟩
    have e1:a.f.drop i= []:=aH (by omega)
    rw[e1]
    by_cases g:a.f.length=b.f.length
    ·have:b.f.drop i= []:=aH (by omega)
     simp[g,this]
    ·have A:a.f.length<b.f.length:=by omega
     have: ¬ []=b.f.drop i:=λe=>by
      have:=congrArg dA e
      simp at this;omega
     simp[A,this]
  ·refine⟨c,?_,by simp[x]⟩
   by_cases d:i<a.f.length<;>by_cases j:i<b.f.length<;>simp[d,j,x]
theorem Be0 (a b:Val)(t:Gs 1099511627776 a)(o:Gs 1099511627776 b)(u: ∀x∈a.l,∀y:Val,Gs 1099511627776 y-> ∃c:Int,W A7c 0 [x.enc,y.enc]=some [.int c]/\(c=0↔x=y)): ∀ (n i:Nat) (c:Int),i+n=a.l.length->i<=b.l.length->
  ∃c':Int,W A7c 3 [.int c,.int i,a.enc,b.enc]=W A7c 4 [.int c',a.enc,b.enc]/\(c'=0↔c=0/\a.l.drop i=b.l.drop i)
 | n,i,c,h,w=>by
  have z:=t.U4
  have A:=o.U4
  rw[A3e]
  by_cases q:c=0
  ·subst q
   by_cases d:i<a.l.length
   ·by_cases j:i<b.l.length
    ·obtain⟨m,rfl⟩: ∃m,n=m+1:=⟨n - 1,by omega⟩
     have B:=Bf (i:=i) (by omega)
     obtain⟨C,F,G⟩:=u _ (aK d) b.l[i] (o.Lh (aK j))
     have hd:(a.l.drop i=b.l.drop i)↔(a.l[i]=b.l[i]/\a.l.drop (i+1)=b.l.drop (i+1)):=by
      rw[aG d,aG j]
      simp only[gG]
     obtain⟨c',r1,r2⟩:=Be0 a b t o u m (i+1) C (by omega) (by omega)
     refine⟨c',by simp only[cQ,aA,bY,aD,bA,Al,d,j,Zd,aR,Zt,aW,cD,aF,aE,aJ,aC d,aC j,aI,F,bE,bR,B,r1],?_⟩
     rw[r2,G,hd];simp
    ·refine⟨1,?_,by
      have: ¬ a.l.drop i=b.l.drop i:=λe=>by
       have:=congrArg dA e
       simp at this;omega
      simp[this]⟩
     have H: ¬ (a.l.length:Int)<b.l.length:=by omega
     have r:(b.l.length:Int)<a.l.length:=by omega
     simp[d,j,H,r,Kj]
   ·have I:i=a.l.length:=by omega
    refine⟨_,by simp only[cQ,aA,bY,aD,bA,Al,d,Ze,aR,aB,Zf,aW,Zd,Zt,Kj,bE,cR];rfl,?_⟩
    have e1:a.l.drop i= []:=aH (by omega)
    rw[e1]
    by_cases g:a.l.length=b.l.length
    ·have:b.l.drop i= []:=aH (by omega)
     simp[g,this]
    ·have r:a.l.length<b.l.length:=by omega
     have: ¬ []=b.l.drop i:=λe=>by
      have:=congrArg dA e
      simp at this;omega
     simp[r,this]
  ·refine⟨c,?_,by simp[q]⟩
   by_cases d:i<a.l.length<;>by_cases j:i<b.l.length<;>simp[d,j,q]
theorem Azj: ∀a:Val,Gs 1099511627776 a-> ∀b:Val,Gs 1099511627776 b-> ∃c:Int,W A7c 0 [a.enc,b.enc]=some [.int c]/\(c=0↔a=b):=by
 refine eD λa q r j b u=>?_
 have w:=λc=>Be0 a b j u (λx y=>q x y (j.Lh y)) a.l.length 0 c (by omega) (dO _)
 have z:=λc=>A89 a b j u (λp hp=>r p hp (j.J9 hp)) a.f.length 0 c (by omega) (dO _)
 simp only[aP,aN]at w z
 have h:a=b↔a.k=b.k/\a.n=b.n/\a.s=b.s/\a.l=b.l/\a.f=b.f:=by
  cases a;cases b;simp
 -- from the lists on
 have rest: ∀c:Int,∃c':Int,W A7c 2 [.int c,a.enc,b.enc]=some [.int c']/\(c'=0↔c=0/\a.l=b.l/\a.f=b.f):=by
  intro c
  obtain⟨B,d,g⟩:=w c
  obtain⟨C,r1,r2⟩:=z B
  refine⟨C,by rw[A1c,d,A1w,r1],by rw[r2,g,and_assoc]⟩
 have text: ∀c:Int,∃c':Int,W A7c 1 [.int c,a.enc,b.enc]=some [.int c']/\(c'=0↔c=0/\a.s=b.s/\a.l=b.l/\a.f=b.f):=by
  intro c
  rw[A4a]
  by_cases m:c=0
  ·have F:=Awd a.s b.s
   obtain⟨c',d,g⟩:=rest (if blt a.s b.s=true then(-1:Int) else if blt b.s a.s=true then 1 else 0)
   refine⟨c',by simp only[aW,m,Zd,aA,aR,Zt,gC,As6,Atw,Kj,bE,d],?_⟩
   rw[g,F];simp[m]
  ·obtain⟨c',d,g⟩:=rest c
   refine⟨c',by simp only[aW,m,Ze,aA,aR,aB,Zf,d],?_⟩
   rw[g];simp[m]
 rw[A3q]
 have t:=Aj9 a.k b.k
 have A:=Aj9 a.n b.n
 simp only[dP,gL,aA,bA,cR,Kj,bE,aW,aR]
 generalize (if decide (a.k<b.k)=true then(-1:Int) else if decide (b.k<a.k)=true then 1 else 0)=o at t
 generalize (if decide (a.n<b.n)=true then(-1:Int) else if decide (b.n<a.n)=true then 1 else 0)=G at A
 by_cases i:o=0
 ·obtain⟨c',d,g⟩:=text G
  refine⟨c',by simp only[i,Zd,Zt,d],?_⟩
  rw[g,A,h]
  have:=t.1 i
  simp[this]
 ·obtain⟨c',d,g⟩:=text o
  refine⟨c',by simp only[i,Ze,aB,Zf,d],?_⟩
  rw[g,h]
  have: ¬ a.k=b.k:=λe=>i (t.2 e)
  simp[i,this]
open Classical in
theorem Ars (a b:Val)(ha:Gs 1099511627776 a)(hb:Gs 1099511627776 b):W Bg0 0 [a.enc,b.enc]=some [.bool (decide (a=b))]:=by
 obtain⟨c,h1,h2⟩:=Azj a ha b hb
 rw[A3v]
 simp only[h1,bE,aW,aA]
 congr 3
 simp only[h2]
open Classical in
theorem Af3 (a b:Val)(ha:a.Ap<=1099511627776)(hb:b.Ap<=1099511627776):W Bg0 0 [a.enc,b.enc]=some [.bool (decide (a=b))]:=Ars a b (C6 a (by omega)) (C6 b (by omega))
end Go.CT.Sch
namespace Go.CT.Sch
open Go.Proofs
def Ay8 (x y:ByteArray × Val):Bool:=blt x.1 y.1
theorem cmpB: ∀ (a b:List UInt8),decide (Lib.compareBytes a b<0)=Op.bytesLess a b
 | [],[]=>rfl
 | [],_::_=>by simp[Lib.compareBytes,Op.bytesLess]
 | _::_,[]=>by simp[Lib.compareBytes,Op.bytesLess]
 | a::x,b::y=>by
  simp only[Lib.compareBytes,Op.bytesLess]
  by_cases c:a<b
  ·simp[c]
  ·by_cases d:b<a
   ·have: ¬ a=b:=λe=>by subst e;exact c d
    simp[c,d,this]
   ·have:a=b:=by
     have g: ¬ a.toNat<b.toNat:=λh=>c (fE.2 h)
     have i: ¬ b.toNat<a.toNat:=λh=>d (fE.2 h)
     exact gH.1 (by omega)
    subst this
    simp[c,cmpB x y]
theorem fcmp (x y:ByteArray × Val): ∃c:Int,W F77 0 [bD x,bD y]=some [.int c]/\(decide (c<0)=Ay8 x y):=by
 refine⟨Lib.compareBytes x.1.data.toList y.1.data.toList,?_,cmpB _ _⟩
 rw[A95]
 simp[Aux,Ay1,Beh,O.Pw]
theorem ford:Srt.Ord Ay8 where
 irr x:=Es _
 tr x y z h k:=Hm h k
 neg x y z h:=by
  rcases Lr x.1 y.1 with a | a | a
  ·exact .inl a
  ·right;unfold Ay8 at h ⊢;rw[<-a];exact h
  ·right;exact Hm a h
noncomputable def feqs:Srt.Eqs bD Ay8 6 true where
 S b xs:=W F74 b xs
 B b xs:=W F75 b xs
 I b xs:=W F76 b xs
 M b xs:=W F81 b xs
 R b xs:=W F82 b xs
 X b xs:=W F83 b xs
 C xs:=W F77 0 xs
 cmp:=fcmp
 s0:=by intros;exact T6 rfl (by kernel_rfl)
 b0:=by intros;exact T6 rfl (by kernel_rfl)
 b1:=by intros;exact T6 rfl (by kernel_rfl)
 b2:=by intros;exact T6 rfl (by kernel_rfl)
 b3:=by intros;exact T6 rfl (by kernel_rfl)
 b4:=by intros;exact T6 rfl (by kernel_rfl)
 i0:=by intros;exact T6 rfl (by kernel_rfl)
 i1:=by intros;exact T6 rfl (by kernel_rfl)
 i2:=by intros;exact T6 rfl (by kernel_rfl)
 x0:=by intros;exact T6 rfl (by kernel_rfl)
 x1:=by intros;exact T6 rfl (by kernel_rfl)
 r0:=by intros;exact T6 rfl (by kernel_rfl)
 r1:=by intros;exact T6 rfl (by kernel_rfl)
 r2:=by intros;exact T6 rfl (by kernel_rfl)
 m0:=by intros;exact T6 rfl (by kernel_rfl)
 m1:=by intros;exact T6 rfl (by kernel_rfl)
 m2:=by intros;exact T6 rfl (by kernel_rfl)
 m3:=by intros;exact T6 rfl (by kernel_rfl)
 m4:=by intros;exact T6 rfl (by kernel_rfl)
 m5:=by intros;exact T6 rfl (by kernel_rfl)
 m6:=by intros;exact T6 rfl (by kernel_rfl)
 m7:=by intros;exact T6 rfl (by kernel_rfl)
 m8:=by intros;exact T6 rfl (by kernel_rfl)
 m9:=by intros;exact T6 rfl (by kernel_rfl)
 m10:=by intros;exact T6 rfl (by kernel_rfl)
 m11:=by intros;exact T6 rfl (by kernel_rfl)
end Go.CT.Sch
namespace Go.CT.Sch
open Go.Proofs
theorem Ds {l:List IV}(h:l.length<=1073741824):O.Ig [.list l]=some [.list l]:=if_pos h
theorem Uc (v:Val)(j:Gs 1073741824 v)(c d e m o q g:IV)(r: ∀p∈v.f,W F84 0 [p.2.enc]=some p.2.E2): ∀ (n i:Nat),i+n=v.f.length->
  W F84 2 [.int v.f.length,.int i,c,d,e,m,o,q,.list (v.f.map bD),g]=some [c,d,e,g,.list (v.f.map bD)]
 | 0,i,h=>by
  rw[Awk]
  have t: ¬ i<v.f.length:=by omega
  simp only[bA,Al,t,Ze,aA,aR,aB,Zf]
 | n+1,i,h=>by
  have b:i<v.f.length:=by omega
  have y:=j.Om
  have u:=Bf (i:=i) (by omega)
  have:=Uc v j c d e m o q g r n (i+1) (by omega)
  have a:O.setAt 1 5 true false (.list (v.f.map bD)) (.int i) v.f[i].2.enc =some (.list (v.f.map bD)):=by
   have w:(v.f.map bD)[i]?=some (bD v.f[i]):=by rw[aJ,aC b];rfl
   have z:(v.f.map bD).set i (bD v.f[i])=v.f.map bD:=by
    rw[<-List.map_set,fF]
   unfold O.setAt
   simp only[dB,aF,Zt,aE,w,aB,Zf]
   rw[v.f[i].2.Eo]
   simp only[bD]
   have x:v.f[i].2.E2.length =5:=rfl
   simp only[x,Zt]
   congr 2
  rw[Awk]
  simp only[bA,Al,b,Zd,aA,aR,Zt,cD,aF,aE,aJ,aC b,aI,dI,r _ (aK b),eG,gR,eU,iB,a,bR,u,this]
theorem Ut (v:Val)(c:Gs 1073741824 v)(d e g j m o:IV)(q: ∀x∈v.l,W F84 0 [x.enc]=some x.E2): ∀ (n i:Nat),i+n=v.l.length->
  W F84 1 [.int v.l.length,.int i,d,e,g,.list (v.f.map bD),j,m,o,.list (v.l.map bT)]=W F84 2 [.int v.f.length,.int (0:Nat),d,e,g,j,m,o,.list (v.f.map bD),.list (v.l.map bT)]
 | 0,i,h=>by
  rw[Avn]
  have r: ¬ i<v.l.length:=by omega
  have w:=c.Om
  have t:(v.f.map bD).length <=1073741824:=by rw[aD];omega
  simp only[bA,Al,r,Ze,aA,aR,aB,Zf,A2a,Ds t,bE,bY,aD]
  rfl
 | n+1,i,h=>by
  have b:i<v.l.length:=by omega
  have y:=c.U4
  have u:=Bf (i:=i) (by omega)
  have:=Ut v c d e g j m o q n (i+1) (by omega)
  have a:O.setAt 0 5 true true (.list (v.l.map bT)) (.int i) v.l[i].enc =some (.list (v.l.map bT)):=by
   rw[show(IV.list (v.l.map bT))=eH bT v.l from rfl,Srt.Aqx bT b,fF]
  rw[Avn]
  simp only[bA,Al,b,Zd,aA,aR,Zt,cD,aF,aE,aJ,aC b,aI,q _ (aK b),eG,gR,eU,iB,a,bR,u,this]
theorem Tv: ∀v:Val,Gs 1073741824 v->W F84 0 [v.enc]=some v.E2:=by
 refine eD λv b c a=>?_
 have d:=Ut v a (.int v.k) (.int v.n) (.str v.s) (.int 0) (.int 0) (.str ⟨#[]⟩) (λx e=>b x e (a.Lh e)) v.l.length 0 (by omega)
 have g:=Uc v a (.int v.k) (.int v.n) (.str v.s) (.int 0) (.int 0) (.str ⟨#[]⟩) (.list (v.l.map bT)) (λp hp=>c p hp (a.J9 hp)) v.f.length 0 (by omega)
 rw[g]at d
 rw[A8r]
 have i:=a.U4
 have h:(v.l.map bT).length <=1073741824:=by rw[aD];omega
 simp only[dP,gL,gC,cQ,cL,aA,Be3,Ds h,bE,bY,aD]
 rw[eG]
 exact d
theorem Mg (l:List Val)(b:l.length<=1073741824)(a: ∀x∈l,Gs 1073741824 x):W Bfq 0 [.list (l.map bT)]=some (Val.E2 ⟨4,0,An,l,[]⟩):=by
 rw[A5h]
 have h:=Tv ⟨4,0,An,l,[]⟩ (.mk _ b (dO _) a (by simp))
 have e:IV.agg [.int 4,.int 0,.str ⟨#[]⟩,.list (l.map bT),.list []]=bT ⟨4,0,An,l,[]⟩:=by
  rw[<-Val.fold];rfl
 simp only[eU,aA,e,h,eG,gR]
theorem Aef (l:List Val)(b:Dp l<=4294967200):W Bfq 0 [.list (l.map bT)]=some (Val.E2 ⟨4,0,An,l,[]⟩):=
 Mg l (by have:=Mq l;omega) λx a=>C6 x (by
  have:x.Ap<=Dp l:=Gg (fM a)
  omega)
theorem Abp (v:Val)(nm:ByteArray)(d:Gs 1073741824 v)(e g j:IV): ∀ (n i:Nat),i+n=v.f.length->
  W Bgi 1 [.str nm,.list (v.f.map bD),.int v.f.length,.int i,e,g,j]=some (Ix (((v.f.drop i).find? λp=>decide (p.1=nm)).map (·.2)))
 | 0,i,h=>by
  rw[Ana]
  have m: ¬ i<v.f.length:=by omega
  simp[m,aH (aZ m),Ix,Ar,An]
 | n+1,i,h=>by
  have b:i<v.f.length:=by omega
  have q:=d.Om
  have o:=Bf (i:=i) (by omega)
  have:=Abp v nm d e g j n (i+1) (by omega)
  have a:=aK b
  rw[Ana,aG b]
  simp only[bA,Al,b,Zd,aA,aR,Zt,cD,aF,aE,aJ,aC b,aI,dE,dI,gA,Tv v.f[i].2 (d.J9 a),eG,gR,bR,o,this,bW]
  by_cases c:v.f[i].1 =nm
  ·simp[c,Ix]
  ·have c':decide (v.f[i].1 =nm)=false:=by simpa using c
   simp only[c,c',Ze,aB,Zf]
theorem A37 (v:Val)(nm:ByteArray)(a:Gs 1073741824 v):W Bgi 0 [v.enc,.str nm]=some (Ix (v.get nm)):=by
 rw[A46]
 unfold fU
 have:=Abp v nm a (.int 0) (.int 0) (.str ⟨#[]⟩) v.f.length 0 (by omega)
 simp only[aP,aN]at this
 simp only[dP,cL,aA,aW,aR,bY,aD,this]
 by_cases c:v.k=5<;>simp[c,Ix,Ar,An]
end Go.CT.Sch
namespace Go.CT.Sch
open Go.Proofs
def Io (nm:ByteArray)(p:ByteArray × Val):Bool:= !decide (p.1=nm)
def dedup:List (ByteArray × Val)->List (ByteArray × Val)
 | []=> []
 | [p]=> [p]
 | p::q::r=>if q.1=p.1 then dedup (q::r) else p::dedup (q::r)
def Cw (l:List (ByteArray × Val)):Prop:=l.Pairwise λa b=>blt a.1 b.1=true
def isName (nm:ByteArray)(p:ByteArray × Val):Bool:=decide (p.1=nm)
def look (nm:ByteArray)(l:List (ByteArray × Val)):Option (ByteArray × Val):=(l.filter (isName nm)).getLast?
theorem Xs: ∀ (l:List (ByteArray × Val)) (p:ByteArray × Val),p∈dedup l->p∈l
 | [],p,h=>h
 | [_],p,h=>h
 | a::b::r,p,h=>by
  simp only[dedup]at h
  split at h
  ·exact cN _ (Xs (b::r) p h)
  ·rcases bM.1 h with rfl | h
   ·simp
   ·exact cN _ (Xs (b::r) p h)
theorem Agf {x y:ByteArray}(h:blt y x=false)(b: ¬ y=x):blt x y=true:=by
 rcases Lr x y with a | a | a
 ·exact a
 ·exact absurd a.symm b
 ·rw[h]at a;cases a
theorem Aii {x y z:ByteArray}(h:blt x y=true)(b:blt z y=false):blt x z=true:=by
 rcases Lr y z with a | a | a
 ·exact Hm h a
 ·rw[<-a];exact h
 ·rw[b]at a;cases a
theorem Um: ∀l:List (ByteArray × Val),Srt.C5 Ay8 l->Cw (dedup l)
 | [],_=>eN
 | [_],_=>cV _ _
 | a::b::r,h=>by
  have d:=bI.1 h
  have i:=Um (b::r) d.2
  simp only[dedup]
  split
  ·exact i
  ·next e=>
   refine bI.2 ⟨λy g=>?_,i⟩
   have c:blt a.1 b.1=true:=Agf (d.1 b (by simp)) e
   rcases bM.1 (Xs _ _ g) with rfl | g
   ·exact c
   ·exact Aii c ((bI.1 d.2).1 y g)
theorem Oz (nm:ByteArray)(p:ByteArray × Val)(l:List (ByteArray × Val)):look nm (p::l)=(look nm l).or (if p.1=nm then some p else none):=by
 unfold look
 rw[cE]
 by_cases c:p.1=nm
 ·rw[if_pos (by simp[isName,c]),if_pos c]
  generalize l.filter (isName nm)=m
  cases m with
  | nil=>rfl
  | cons b r=>
   rw[List.getLast?_cons_cons]
   cases h:(b::r).getLast? with
   | none=>simp at h
   | some x=>rfl
 ·rw[if_neg (by simp[isName,c]),if_neg c,gM]
theorem Abr (nm:ByteArray): ∀l:List (ByteArray × Val),look nm (dedup l)=look nm l
 | []=>rfl
 | [_]=>rfl
 | a::b::r=>by
  have g:=Abr nm (b::r)
  simp only[dedup]
  split
  ·next e=>
   rw[g,Oz nm a (b::r),Oz nm b r]
   by_cases c:b.1=nm
   ·have d:a.1=nm:=by rw[<-e];exact c
    simp only[c,d,Zt]
    cases look nm r<;>rfl
   ·have d: ¬ a.1=nm:=by rw[<-e];exact c
    simp only[d,Zf,gM]
  ·rw[Oz nm a,g,Oz nm a]
theorem Lo {l:List (ByteArray × Val)}(h:Cw l)(p:ByteArray × Val):p∈l↔look p.1 l=some p:=by
 induction l with
 | nil=>simp[look]
 | cons a l g=>
  have d:=bI.1 h
  rw[Oz,bM,g d.2]
  by_cases c:a.1=p.1
  ·have i:look p.1 l=none:=by
    unfold look
    rw[List.getLast?_eq_none_iff,eW]
    intro y j b
    simp only[isName,decide_eq_true_eq]at b
    have:=d.1 y j
    rw[c,b,Es]at this
    cases this
   simp[i,c,eq_comm]
  ·have: ¬ p=a:=λe=>c (by rw[e])
   simp[c,this]
theorem Ar1 {a b:List (ByteArray × Val)}(j:Cw a)(m:Cw b)(h: ∀p,p∈a↔p∈b):a=b:=by
 induction a generalizing b with
 | nil=>
  cases b with
  | nil=>rfl
  | cons y b=>have:=(h y).2 (by simp);simp at this
 | cons x a o=>
  cases b with
  | nil=>have:=(h x).1 (by simp);simp at this
  | cons y b=>
   have c:=bI.1 j
   have d:=bI.1 m
   have g:x=y:=by
    rcases bM.1 ((h x).1 (by simp)) with e | q
    ·exact e
    ·rcases bM.1 ((h y).2 (by simp)) with e | r
     ·exact e.symm
     ·have t:=d.1 x q
      have i:=c.1 y r
      rw[Of t]at i;cases i
   subst g
   rw[o c.2 d.2]
   intro p
   have:=h p
   simp only[bM]at this
   constructor
   ·intro hp
    rcases this.1 (.inr hp) with rfl | h
    ·have:=c.1 p hp;rw[Es]at this;cases this
    ·exact h
   ·intro hp
    rcases this.2 (.inr hp) with rfl | h
    ·have:=d.1 p hp;rw[Es]at this;cases this
    ·exact h
theorem Ov {a b:List (ByteArray × Val)}(c:Cw a)(d:Cw b)(h: ∀nm,look nm a=look nm b):a=b:=
 Ar1 c d λp=>by rw[Lo c,Lo d,h]
theorem Ah7 (p:ByteArray × Val): ∀l,S4 p true l=l.filter (Io p.1)
 | []=>rfl
 | x::xs=>by
  simp only[S4,aV,cU,aB,Zf,bQ,eV,Ah7 p xs,cE,Io]
  by_cases c:x.1=p.1<;>simp[c]
theorem Ab3 (p x:ByteArray × Val)(xs:List (ByteArray × Val))(h:blt x.1 p.1=false):S4 p false (x::xs)=p::(x::xs).filter (Io p.1):=by
 simp only[S4,h,bG,Bool.and_self,Zt,Bool.or_true,Ah7,cE,Io]
 by_cases c:x.1=p.1<;>simp[c]
theorem Adk (p x:ByteArray × Val)(xs:List (ByteArray × Val))(h:blt x.1 p.1=true):S4 p false (x::xs)=x::S4 p false xs:=by
 have a: ¬ x.1=p.1:=Kz h
 simp[S4,h,a]
theorem Ao6 (p:ByteArray × Val): ∀ (l:List (ByteArray × Val)) (y:ByteArray × Val),y∈S4 p false l->y=p\/y∈l
 | [],y,h=>by simp[S4]at h;exact .inl h
 | x::xs,y,h=>by
  cases a:blt x.1 p.1 with
  | true=>
   rw[Adk p x xs a]at h
   rcases bM.1 h with rfl | h
   ·simp
   ·rcases Ao6 p xs y h with h | h
    ·exact .inl h
    ·exact .inr (cN _ h)
  | false=>
   rw[Ab3 p x xs a]at h
   rcases bM.1 h with rfl | h
   ·simp
   ·exact .inr (cY.1 h).1
theorem X3 (p:ByteArray × Val): ∀l:List (ByteArray × Val),Cw l->Cw (S4 p false l)
 | [],_=>cV _ _
 | x::xs,h=>by
  have c:=bI.1 h
  cases b:blt x.1 p.1 with
  | true=>
   rw[Adk p x xs b]
   refine bI.2 ⟨λy a=>?_,X3 p xs c.2⟩
   rcases Ao6 p xs y a with rfl | a
   ·exact b
   ·exact c.1 y a
  | false=>
   rw[Ab3 p x xs b]
   refine bI.2 ⟨λy a=>?_,h.sublist List.filter_sublist⟩
   obtain⟨a,e⟩:=cY.1 a
   have d: ¬ y.1=p.1:=by simpa [Io]using e
   refine Agf ?_ d
   rcases bM.1 a with rfl | a
   ·exact b
   ·cases g:blt y.1 p.1 with
    | false=>rfl
    | true=>have:=Hm (c.1 y a) g;rw[b]at this;cases this
theorem Yv (p:ByteArray × Val)(nm:ByteArray): ∀l:List (ByteArray × Val),(S4 p false l).filter (isName nm)=if p.1=nm then[p]else l.filter (isName nm)
 | []=>by by_cases c:p.1=nm<;>simp[S4,isName,c]
 | x::xs=>by
  cases a:blt x.1 p.1 with
  | true=>
   have b:=Kz a
   rw[Adk p x xs a,cE,Yv p nm xs,cE]
   by_cases c:p.1=nm
   ·have: ¬ x.1=nm:=by rw[<-c];exact b
    simp[c,isName,this]
   ·simp[c]
  | false=>
   rw[Ab3 p x xs a,cE,List.filter_filter]
   by_cases c:p.1=nm
   ·rw[if_pos (by simp[isName,c]),if_pos c]
    congr 1
    rw[eW]
    intro y _ g
    simp[Io,isName,c]at g
   ·rw[if_neg (by simp[isName,c]),if_neg c]
    refine List.filter_congr λy _=>?_
    by_cases d:y.1=nm
    ·have: ¬ nm=p.1:=λe=>c e.symm
     simp[Io,isName,d,this]
    ·simp[isName,d]
theorem Xj (l:List (ByteArray × Val))(p:ByteArray × Val):Zi (l++ [p])=S4 p false (Zi l):=by
 unfold Zi;rw[List.foldl_append];rfl
theorem Z4 (l:List (ByteArray × Val)): ∀n,l.length=n->Cw (Zi l)/\ ∀nm,look nm (Zi l)=look nm l:=by
 intro n
 induction n generalizing l with
 | zero=>intro h;have:=aU.1 h;subst this;exact⟨eN,λ_=>rfl⟩
 | succ n a=>
  intro h
  rcases Srt.Hc l with rfl | ⟨b,p,rfl⟩
  ·simp at h
  ·obtain⟨d,e⟩:=a b (by simpa using h)
   rw[Xj]
   refine⟨X3 p _ d,λnm=>?_⟩
   unfold look
   rw[Yv,eI]
   by_cases c:p.1=nm
   ·simp[c,isName]
   ·have:=e nm
    unfold look at this
    simp[c,isName]at this ⊢
    exact this
theorem Kc (l:List (ByteArray × Val)):Cw (Zi l):=(Z4 l _ rfl).1
theorem Su (nm:ByteArray)(l:List (ByteArray × Val)):look nm (Zi l)=look nm l:=(Z4 l _ rfl).2 nm
theorem Axw {l:List (ByteArray × Val)}(h:Cw l):Zi l=l:=Ov (Kc l) h λnm=>Su nm l
theorem A4f {l:List (ByteArray × Val)}{p:ByteArray × Val}(h:p∈Zi l):p∈l:=by
 rw[Lo (Kc l),Su]at h
 unfold look at h
 exact(cY.1 (List.mem_of_getLast? h)).1
theorem A3s (k y:ByteArray × Val):iF Ay8 k y=isName k.1 y:=by
 unfold iF isName Ay8
 rcases Lr k.1 y.1 with h | h | h
 ·have:=Kz h
  rw[h]
  simp only[aV,cU]
  symm;simpa using λe=>this e.symm
 ·rw[h,Es];simp
 ·have:=Kz h
  rw[h]
  simp[this]
theorem Abf {l r:List (ByteArray × Val)}(a:Srt.C5 Ay8 r)(b:Srt.Kw Ay8 l r):dedup r=Zi l:=by
 refine Ov (Um r a) (Kc l) λnm=>?_
 rw[Abr,Su]
 have:=b.2 (nm,Ar)
 have e:iF Ay8 (nm,Ar)=isName nm:=funext λy=>A3s _ y
 rw[e]at this
 unfold look
 rw[this]
end Go.CT.Sch
namespace Go.CT.Sch
open Go.Proofs
theorem We (p:ByteArray × Val): ∀l,Ci (S4 p false l)<=Ci l+Ci [p]
 | []=>by simp[S4,Ch]
 | x::xs=>by
  cases a:blt x.1 p.1 with
  | true=>
   have:=We p xs
   rw[Adk p x xs a,B7,B7 x xs];omega
  | false=>
   have:=J1 (Io p.1) (x::xs)
   rw[Ab3 p x xs a,B7,B7 p [],Ch];omega
theorem Q0 (l:List (ByteArray × Val)):Ci (Zi l)<=Ci l:=by
 have: ∀n (l:List (ByteArray × Val)),l.length=n->Ci (Zi l)<=Ci l:=by
  intro n
  induction n with
  | zero=>intro l h;have:=aU.1 h;subst this;exact bN _
  | succ n b=>
   intro l h
   rcases Srt.Hc l with rfl | ⟨a,p,rfl⟩
   ·simp at h
   ·have c:=b a (by simpa using h)
    have d:=We p (Zi a)
    rw[Xj,Ij];omega
 exact this _ l rfl
def A45 (l:List (ByteArray × Val)):Val:=⟨5,0,An,[],Zi l⟩
theorem Axn (l:List (ByteArray × Val)):(A45 l).Ap <=6+Ci l:=by
 have:=Q0 l
 rw[hZ]
 simp only[A45,iG,Val.Zj,iH,Ed,show An.size=0 from rfl];omega
theorem Px (r:List (ByteArray × Val))(w:r.length<=1099511627775)(q t u:IV): ∀ (n i:Nat) (acc:List (ByteArray × Val)),i+n=r.length->acc.length<=i->Aq9 1073741824 (acc++dedup (r.drop i))->
  W F72 1 [.int r.length,.int i,q,t,u,eH bD r,.int 5,.int 0,.str ⟨#[]⟩,.list (acc.map bD)]=some (Val.E2 ⟨5,0,An,[],acc++dedup (r.drop i)⟩)
 | 0,i,acc,h,y,b=>by
  rw[Bdy]
  have z: ¬ i<r.length:=by omega
  have A:r.drop i= []:=aH (by omega)
  rw[A]at b ⊢
  rw[show dedup []= []from rfl,bF]at b
  have B:=Tv ⟨5,0,An,[],acc⟩ (.mk _ (dO _) b.1 (by simp) b.2)
  have e:IV.agg [.int 5,.int 0,.str ⟨#[]⟩,.list [],.list (acc.map bD)]=bT ⟨5,0,An,[],acc⟩:=by
   rw[<-Val.fold];rfl
  simp only[bA,Al,z,Ze,aA,aR,aB,Zf,eU,e,B,eG,gR,dedup,bF]
 | n+1,i,acc,h,y,b=>by
  have j:i<r.length:=by omega
  have x:=Bf (i:=i) (by omega)
  have m:(acc.length+1) * 96<=Bb:=Sm (by omega) (by omega)
  have gi:=fW bD (aC j)
  rw[Bdy]
  have hd:=aG j
  by_cases c:i+1=r.length
  ·have c':((i+1:Nat):Int)=(r.length:Int):=by omega
   have e1:r.drop (i+1)= []:=aH (by omega)
   have g:=Px r w q t u n (i+1) (acc++ [r[i]]) (by omega) (by simp;omega) (by
    rw[e1];rw[hd,e1]at b
    simpa [dedup]using b)
   simp only[e1,cF,bJ,bO]at g
   rw[hd,e1]
   simp only[bA,Al,j,Zd,aA,aR,Zt,gi,bR,x,dX,aW,c',gB,fB,aD,aT,m,Aju]
   rw[c']at g
   rw[g]
   simp[dedup]
  ·have o:i+1<r.length:=by omega
   have c': ¬ ((i+1:Nat):Int)=(r.length:Int):=by omega
   have gi2:=fW bD (aC o)
   have a:=aG o
   by_cases d:r[i+1].1 =r[i].1
   ·have g:=Px r w q t u n (i+1) acc (by omega) (by omega) (by
     rw[hd,a]at b;rw[a]
     simp only[dedup,d,Zt]at b
     exact b)
    rw[a]at g
    rw[hd,a]
    simp only[bA,Al,j,Zd,aA,aR,Zt,gi,bR,x,dX,aW,c',Ze,aB,Zf,gi2,dE,gZ,d,aV,Aju,dedup,g]
   ·have g:=Px r w q t u n (i+1) (acc++ [r[i]]) (by omega) (by simp;omega) (by
     rw[hd,a]at b;rw[a]
     simp only[dedup,d,Zf]at b
     simpa using b)
    rw[a]at g
    simp only[cF,bJ,bO,bK,fG]at g
    rw[hd,a]
    simp only[bA,Al,j,Zd,aA,aR,Zt,gi,bR,x,dX,aW,c',Ze,aB,Zf,gi2,dE,gZ,d,bG,gB,fB,aD,aT,m,Aju,dedup,g]
theorem Ao9 (l:List (ByteArray × Val)):(Zi l).length <=l.length:=by
 have: ∀n (l:List (ByteArray × Val)),l.length=n->(Zi l).length <=n:=by
  intro n
  induction n with
  | zero=>intro l h;have:=aU.1 h;subst this;exact bN _
  | succ n b=>
   intro l h
   rcases Srt.Hc l with rfl | ⟨a,p,rfl⟩
   ·simp at h
   ·have c:=b a (by simpa using h)
    have d:=Ab7 p (Zi a) false
    rw[Xj];omega
 exact this _ l rfl
theorem Agx {N:Nat}{l:List (ByteArray × Val)}(h:Aq9 N l):Aq9 N (Zi l):=
 ⟨dC (Ao9 l) h.1,λp hp=>h.2 p (A4f hp)⟩
theorem Acg (l:List (ByteArray × Val))(c:Aq9 1073741824 l):W F72 0 [.list (l.map bD)]=some (A45 l).E2 :=by
 have i:=c.1
 obtain⟨r,d,a,g⟩:=Srt.sort ford feqs l (by omega)
 have h:(l.map bD).length <=1073741824:=by rw[aD];omega
 rw[A7r]
 have b:W F74 0 [.list (l.map bD)]=some [eH bD r]:=g
 have hlen:r.length=l.length:=a.1.symm
 have e:=Px r (by omega) (.int 0) (.int 0) (.str ⟨#[]⟩) r.length 0 [] (by omega) (by simp) (by
  rw[aP,bQ,Abf d a];exact Agx c)
 simp only[aP,aN,bO,bQ,Abf d a]at e
 simp only[A2a,Ds h,bE,b,dX,aA]
 exact e
theorem Aum (l:List (ByteArray × Val))(a:Ci l<=4294967200):W F72 0 [.list (l.map bD)]=some (A45 l).E2 :=Acg l (Ar6 (by omega))
end Go.CT.Sch
namespace Go.CT.Sch
open Go.Proofs
theorem I8 {β:Type}{a b c d e g:IV}{f:IV->IV->IV->IV->IV->IV->Option β} :calls (some [a,b,c,d,e,g]) 6 f=f a b c d e g:=rfl
def Bg:Sch:=⟨0,0,0,[],An,[],[]⟩
def Qf:SFld:=⟨An,false,false,[],Bg⟩
theorem Mu:IV.agg [.int 0,.int 0,.int 0,.list [],.str ⟨#[]⟩,.list [],.list []]=Bg.enc:=rfl
theorem Aac:IV.agg [.str ⟨#[]⟩,.bool false,.bool false,.list [],.int 0,.int 0,.int 0,.list [],.str ⟨#[]⟩,.list [],.list []]=Qf.enc:=rfl
inductive SB:Sch->Prop
 | mk (s:Sch):s.it.length<=1->(s.it≠ []->s.f= [])->(s.k=4->s.it.length=1)->(∀x∈s.it,SB x)->(∀p∈s.f,SB p.s)->SB s
theorem SB.one {s:Sch}(h:SB s):s.it.length<=1:=by cases h;assumption
theorem SB.nof {s:Sch}(h:SB s)(a:s.it≠ []):s.f= []:=by cases h with | mk _ c b d e g=>exact b a
theorem SB.list {s:Sch}(h:SB s)(a:s.k=4):s.it.length=1:=by cases h with | mk _ c d b e g=>exact b a
theorem SB.Iu {s x:Sch}(h:SB s)(a:x∈s.it):SB x:=by cases h with | mk _ c d e b g=>exact b x a
theorem SB.J9 {s:Sch}{p:SFld}(h:SB s)(a:p∈s.f):SB p.s:=by cases h with | mk _ c d e g b=>exact b p a
def D5 (s:Sch)(nm:ByteArray):Option Sch:=match s.it with | []=>(s.fld nm).map (·.s) | t::_=>some t
theorem Ab5 {s:Sch}{nm:ByteArray}{p:SFld}(h:s.fld nm=some p):p∈s.f/\p.nm=nm:=
 ⟨cM h,by simpa using gI h⟩
theorem Ml {s t:Sch}{nm:ByteArray}(h:D5 s nm=some t):t∈s.it\/ ∃p∈s.f,p.nm=nm/\p.s=t:=by
 unfold D5 at h
 split at h
 ·right
  rw[eX]at h
  obtain⟨p,hp,rfl⟩:=h
  exact⟨p,(Ab5 hp).1,(Ab5 hp).2,rfl⟩
 ·rename_i a r e
  cases h
  left;rw[e];simp
theorem SB.sub {s t:Sch}{nm:ByteArray}(a:SB s)(h:D5 s nm=some t):SB t:=by
 rcases Ml h with h | ⟨p,hp,_,rfl⟩
 ·exact a.Iu h
 ·exact a.J9 hp
theorem Jk {s t:Sch}{nm:ByteArray}(h:D5 s nm=some t):t.Ap<s.Ap:=by
 rcases Ml h with h | ⟨p,hp,_,rfl⟩
 ·exact fK h
 ·have:=fP hp;omega
def I0 (p:List Stp)(c:Int):IV:= .agg [.str (Cn p),.int c]
def Cv (nm:ByteArray):Stp:=⟨1,nm,0,An⟩
def isKey (v:Val)(nm:ByteArray):Bool:=(v.get nm).isSome &&decide (((v.get nm).getD Ar).k =3)
def Dr (v:Val)(nm:ByteArray):ByteArray:=((v.get nm).getD Ar).s
def Ha (v:Val)(nm:ByteArray):Bool:=isKey v nm&& !decide (nm=An)
def Hw (key:ByteArray)(v:Val)(i:Nat):Stp:=if Ha v key then⟨3,key,0,Dr v key⟩else⟨2,An,i,An⟩
def sameKey (nm:ByteArray)(k:ByteArray)(u:Val):Bool:=Ha u nm&&decide (Dr u nm=k)
def Asr (key:ByteArray)(prev:List Val)(v:Val)(q:List Stp):List IV:=if Ha v key&&prev.any (sameKey key (Dr v key)) then[I0 q 8]else[]
def Ku (v:Val)(nm:ByteArray):Bool:=(v.get nm).isSome && !decide (((v.get nm).getD Ar).k =0)
def Km (v:Val)(p:List Stp)(d:SFld):List IV:=if d.rq&& !Ku v d.nm then[I0 (p++ [Cv d.nm]) 7]else[]
def Zl (p:List Stp)(sc:Sch)(n:Int):List IV:=if decide (n<sc.mn)||decide (sc.mx<n) then[I0 p 5]else[]
mutual
def Ji:Val->Sch->List Stp->List IV
 | ⟨k,n,s,l,f⟩,sc,p=>
  if k=sc.k then
   if k=2 then Zl p sc n
   else if k=3 then(if decide ((s.size:Int)<sc.mn)||decide (sc.mx<(s.size:Int)) then[I0 p 5]else if decide (0<sc.en.length)&& !sc.en.any (λe=>decide (e=s)) then[I0 p 1]else[])
   else if k=4 then Zl p sc l.length++Lc l sc.key (sc.it.headD Bg) p []
   else if k=5 then Lg f sc p++sc.f.flatMap (Km ⟨k,n,s,l,f⟩ p)
   else[]
  else[I0 p 6]
def Lc:List Val->ByteArray->Sch->List Stp->List Val->List IV
 | [],_,_,_,_=> []
 | v::vs,key,t,p,prev=>(Ji v t (p++ [Hw key v prev.length])++Asr key prev v (p++ [Hw key v prev.length]))++Lc vs key t p (prev++ [v])
def Lg:List (ByteArray × Val)->Sch->List Stp->List IV
 | [],_,_=> []
 | (nm,v)::fs,sc,p=>(match D5 sc nm with | none=> [I0 (p++ [Cv nm]) 1] | some t=>if v.k=0 then[]else Ji v t (p++ [Cv nm]))++Lg fs sc p
end
theorem Js (v:Val)(sc:Sch)(p:List Stp):Ji v sc p=
  if v.k=sc.k then
   if v.k=2 then Zl p sc v.n
   else if v.k=3 then(if decide ((v.s.size:Int)<sc.mn)||decide (sc.mx<(v.s.size:Int)) then[I0 p 5]else if decide (0<sc.en.length)&& !sc.en.any (λe=>decide (e=v.s)) then[I0 p 1]else[])
   else if v.k=4 then Zl p sc v.l.length++Lc v.l sc.key (sc.it.headD Bg) p []
   else if v.k=5 then Lg v.f sc p++sc.f.flatMap (Km v p)
   else[]
  else[I0 p 6]:=by
 cases v;rw[Ji];rfl
def Ag2 (sc:Sch)(p:List Stp)(x:ByteArray × Val):List IV:=match D5 sc x.1 with | none=> [I0 (p++ [Cv x.1]) 1] | some t=>if x.2.k=0 then[]else Ji x.2 t (p++ [Cv x.1])
theorem Ja (x:ByteArray × Val)(fs:List (ByteArray × Val))(sc:Sch)(p:List Stp):Lg (x::fs) sc p=Ag2 sc p x++Lg fs sc p:=by
 obtain⟨nm,v⟩:=x;rw[Lg];rfl
theorem Kd (sc:Sch)(p:List Stp):Lg [] sc p= []:=by rw[Lg]
theorem Ib (v:Val)(vs:List Val)(key:ByteArray)(t:Sch)(p:List Stp)(prev:List Val):Lc (v::vs) key t p prev=(Ji v t (p++ [Hw key v prev.length])++Asr key prev v (p++ [Hw key v prev.length]))++Lc vs key t p (prev++ [v]):=by rw[Lc]
theorem L9 (key:ByteArray)(t:Sch)(p:List Stp)(prev:List Val):Lc [] key t p prev= []:=by rw[Lc]
theorem Td (l:List (ByteArray × Val))(sc:Sch)(p:List Stp):Lg l sc p=l.flatMap (Ag2 sc p):=by
 induction l with
 | nil=>simp[Kd]
 | cons x l a=>rw[Ja,a];rfl
theorem Ad4 (key:ByteArray)(prev:List Val)(v:Val)(q:List Stp):(Asr key prev v q).length <=1:=by unfold Asr;split<;>simp
theorem Au8 (v:Val)(p:List Stp)(d:SFld):(Km v p d).length <=1:=by unfold Km;split<;>simp
theorem Va (p:List Stp)(sc:Sch)(n:Int):(Zl p sc n).length <=1:=by unfold Zl;split<;>simp
theorem Am0 (v:Val)(p:List Stp): ∀l:List SFld,(l.flatMap (Km v p)).length <=l.length
 | []=>by simp
 | d::l=>by
  have:=Au8 v p d
  have:=Am0 v p l
  simp only[cB,aO,aY];omega
theorem Sd: ∀ (v:Val) (sc:Sch) (p:List Stp),SB sc->(Ji v sc p).length <=(2+sc.Ap) * v.size:=by
 refine eD λv d e sc p g=>?_
 have b:=v.size_pos
 have one:1<=(2+sc.Ap) * v.size:=by
  have:1 * 1<=(2+sc.Ap) * v.size:=aX (by omega) b
  omega
 have r: ∀ (t:Sch),SB t->t.Ap<sc.Ap-> ∀ (l:List Val),(∀x∈l,∀sc p,SB sc->(Ji x sc p).length <=(2+sc.Ap) * x.size)-> ∀ (prev:List Val) (key:ByteArray),(Lc l key t p prev).length <=(2+sc.Ap) * Cp l:=by
  intro t a u l
  induction l with
  | nil=>intro _ prev key;rw[L9];simp
  | cons x l i=>
   intro h prev key
   have j:=h x (by simp) t (p++ [Hw key x prev.length]) a
   have m:=i (λy o=>h y (by simp[o])) (prev++ [x]) key
   have c:=Ad4 key prev x (p++ [Hw key x prev.length])
   have q:=x.size_pos
   have w:(3+t.Ap) * x.size<=(2+sc.Ap) * x.size:=aX (by omega) (bN _)
   have G:(3+t.Ap) * x.size=(2+t.Ap) * x.size+x.size:=by rw[show 3+t.Ap=(2+t.Ap)+1 by omega,gE,gF]
   rw[Ib]
   simp only[aO,Cp,cI]
   omega
 have z: ∀ (l:List (ByteArray × Val)),(∀x∈l,∀sc p,SB sc->(Ji x.2 sc p).length <=(2+sc.Ap) * x.2.size)->(Lg l sc p).length <=(2+sc.Ap) * B6 l:=by
  intro l
  induction l with
  | nil=>intro _;rw[Kd];simp
  | cons x l i=>
   intro h
   have m:=i (λy o=>h y (by simp[o]))
   have q:=x.2.size_pos
   have H:(Ag2 sc p x).length <=(2+sc.Ap) * x.2.size:=by
    have I:1 * 1<=(2+sc.Ap) * x.2.size:=aX (by omega) q
    unfold Ag2
    split
    ·simp only[aT];omega
    ·rename_i t a
     split
     ·simp
     ·have j:=h x (by simp) t (p++ [Cv x.1]) (g.sub a)
      have:=Jk a
      have w:(2+t.Ap) * x.2.size<=(2+sc.Ap) * x.2.size:=aX (by omega) (bN _)
      omega
   rw[Ja]
   simp only[aO,B6,cI]
   omega
 have A:=v.size_eq
 rw[Js]
 split
 ·split
  ·have:=Va p sc v.n;omega
  ·split
   ·split
    ·simpa using one
    ·split
     ·simpa using one
     ·simp
   ·split
    ·rename_i J B C F
     obtain⟨t,a⟩:=bV.1 (g.list (by omega))
     have j:=r t (g.Iu (by rw[a];simp)) (fK (by rw[a];simp)) v.l d [] sc.key
     have m:=Va p sc v.l.length
     have c:(2+sc.Ap) * (1+Cp v.l)<=(2+sc.Ap) * v.size:=aX (bN _) (by omega)
     rw[cI]at c
     rw[a,eY,aO]
     omega
    ·split
     ·have j:=z v.f e
      have m:=Am0 v p sc.f
      have q:=sc.Bc
      have c:(2+sc.Ap) * (1+B6 v.f)<=(2+sc.Ap) * v.size:=aX (bN _) (by omega)
      rw[cI]at c
      rw[aO]
      omega
     ·simp
 ·simpa using one
theorem Aqp {n:Nat}(h:n<=4398046511104):n * 24<=Bb:=by
 have:n * 24<=4398046511104 * 24:=aX h (bN _)
 unfold Bb;omega
theorem Apv (v:Val)(nm:ByteArray):((v.get nm).getD Ar).s.size <=v.Ap:=by
 unfold fU
 split
 ·cases h:v.f.find? λp=>decide (p.1=nm) with
  | none=>exact dO _
  | some p=>
   have a:=dZ (cM h)
   have b:=p.2.Av3
   simp only[aI,bZ];omega
 ·exact dO _
theorem Abs (key:ByteArray)(v:Val)(i:Nat)(a:key.size<=1048576)(b:v.Ap<=1048576):(Hw key v i).fits :=by
 have:=Apv v key
 unfold Hw
 split
 ·exact⟨by show key.size<=_;omega,by show(Dr v key).size <=_;unfold Dr;omega⟩
 ·exact⟨by show(0:Nat)<=_;omega,by show(0:Nat)<=_;omega⟩
theorem I7 (nm:ByteArray)(h:nm.size<=1048576):(Cv nm).fits :=⟨by show nm.size<=_;omega,by show(0:Nat)<=_;omega⟩
theorem Iq {p:List Stp}{x:Stp}(hp: ∀s∈p,s.fits)(a:x.fits): ∀s∈p++ [x],s.fits:=by
 intro s b
 rcases gJ.1 b with h | h
 ·exact hp s h
 ·simp at h;subst h;exact a
end Go.CT.Sch
namespace Go.CT.Sch
open Go.Proofs
theorem Rn (v:Val)(nm:ByteArray)(c:v.Ap<=1048576):W F31 0 [v.enc,.str nm]=some [.str (Dr v nm),.bool (Ha v nm)]:=by
 rw[A8c]
 unfold Dr Ha isKey
 simp only[Atr v nm (by omega),Ix,I8,aR,gZ,aW,aA,Aw,Am,An]
 cases(v.get nm).isSome<;>by_cases a:nm=⟨#[]⟩<;>by_cases b:((v.get nm).getD Ar).k =3<;>simp[a,b]
theorem Akx (s:Sch)(l:List Val)(i:Nat)(a:i<l.length)(b:l[i].Ap <=1048576):W F30 0 [s.enc,.list (l.map bT),.int i]=some [(Hw s.key l[i] i).enc]:=by
 rw[A91]
 unfold Hw
 simp only[cD,aF,Zt,aE,aJ,aC a,aI,aA,eJ,Rn l[i] s.key b,fI,eU,aR]
 split<;>rfl
theorem Aco (p:List Stp)(s:Stp)(c:p.length<=1099511627776):W F34 0 [.list (p.map Stp.enc),s.enc]=some [.list ((p++ [s]).map Stp.enc)]:=by
 have a:(0+p.length) * 48<=Bb:=Sm (by omega) (by omega)
 have b:(p.length+1) * 48<=Bb:=by
  have:(p.length+1) * 48<=1099511627777 * 48:=aX (by omega) (bN _)
  unfold Bb;omega
 rw[A9o]
 simp only[gB,aA,fB,bB,aD,a,Zt,bQ,aT,b,cF,bJ,bO]
theorem Afe (p:List Stp)(hp: ∀s∈p,s.fits)(a:p.length<=1099511627776)(c:Int):W F20 0 [.list (p.map Stp.enc),.int c]=some [.list [I0 p c]]:=by
 rw[A9a]
 simp only[Axv p hp a,fI,eU,gB,aA,I0]
theorem Yi (s:Sch)(nm:ByteArray)(r:s.Ap<=1099511627776)(b d e g j m o:IV): ∀ (n i:Nat),i+n=s.f.length->
  W F12 1 [.str nm,.int i,s.enc,b,d,e,g,j,m,o]=some [(((s.f.drop i).find? λp=>decide (p.nm=nm)).getD Qf).enc,.bool ((s.f.drop i).find? λp=>decide (p.nm=nm)).isSome]
 | 0,i,h=>by
  rw[Awz]
  have q: ¬ i<s.f.length:=by omega
  simp[q,aH (aZ q),Aac]
 | n+1,i,h=>by
  have a:i<s.f.length:=by omega
  have u:=s.Bc
  have t:=Bf (i:=i) (by omega)
  have:=Yi s nm r b d e g j m o n (i+1) (by omega)
  rw[Awz,aG a]
  simp only[dJ,bY,aD,bA,Al,a,Zd,aA,aR,Zt,cD,aF,aE,aJ,aC a,aI,eE,gA,bR,t,this,bW]
  by_cases c:s.f[i].nm =nm
  ·simp[c]
  ·have c':decide (s.f[i].nm =nm)=false:=by simpa using c
   simp only[c,c',Ze,aB,Zf]
theorem Y7 (s:Sch)(nm:ByteArray)(a:s.Ap<=1099511627776):W F12 0 [s.enc,.str nm]=some [((s.fld nm).getD Qf).enc,.bool (s.fld nm).isSome]:=by
 rw[Bbd]
 have:=Yi s nm a (.str ⟨#[]⟩) (.bool false) (.bool false) (.int 0) (.int 0) (.int 0) (.str ⟨#[]⟩) s.f.length 0 (by omega)
 simp only[aP,aN]at this
 exact this
def Asc (v:Val)(nm:ByteArray):Val:=if Ku v nm then(v.get nm).getD Ar else Ar
theorem Ak7 (v:Val)(nm:ByteArray)(a:v.Ap<=1048576):W F36 0 [v.enc,.str nm]=some [.int (Asc v nm).k,.int (Asc v nm).n,.str (Asc v nm).s,.list ((Asc v nm).l.map bT),.list ((Asc v nm).f.map bD),.bool (Ku v nm)]:=by
 rw[Ba5]
 unfold Asc Ku
 simp only[Atr v nm (by omega),Ix,I8,cX,aW,aR,aA]
 cases(v.get nm).isSome with
 | false=>rfl
 | true=>
  by_cases h:((v.get nm).getD Ar).k =0
  ·simp only[h,Zd];rfl
  ·simp only[h,Ze];rfl
theorem Yt (s:Sch)(v:Val)(p q:List Stp)(u:v.Ap<=1048576)(o: ∀s∈q,s.fits)(r:q.length<=1099511627776)(i:Nat)(b:i<=v.l.length)(key:ByteArray)(ok:Bool)(out:List IV)(w:out.length<=4398046511103): ∀ (n j:Nat) (ag:Bool),j+n=i->
  W F29 3 [.list (p.map Stp.enc),.int i,.str key,.bool ok,.bool ag,.int j,s.enc,v.enc,.list out,.list (q.map Stp.enc)]
   =W F29 4 [.list (p.map Stp.enc),.int i,s.enc,v.enc,.list (out++if ag||(ok&&((v.l.take i).drop j).any (sameKey s.key key)) then[I0 q 8]else[])]
 | n,j,ag,h=>by
  have z:=v.B5
  have fin:(cnd (.bool ag) (
    calls (W F20 0 [.list (q.map Stp.enc),(.int 8)]) 1 λd=>
    (gN 24 (.list out) d).bind λe=>
    W F29 4 [.list (p.map Stp.enc),.int i,s.enc,v.enc,e]) (
    W F29 4 [.list (p.map Stp.enc),.int i,s.enc,v.enc,.list out]))=W F29 4 [.list (p.map Stp.enc),.int i,s.enc,v.enc,.list (out++if ag then[I0 q 8]else[])]:=by
   cases ag with
   | false=>simp
   | true=>
    have g:(out.length+1) * 24<=Bb:=Aqp (by omega)
    simp only[aR,Zt,Afe q o r 8,bE,fB,aT,g,aA]
  rw[A8a]
  by_cases c:j<i
  ·obtain⟨m,rfl⟩: ∃m,n=m+1:=⟨n - 1,by omega⟩
   have t:j<v.l.length:=by omega
   have x:=Bf (i:=j) (by omega)
   have A:=eF (aK t)
   have a:(j:Int)<i:=by omega
   cases ok with
   | false=>
    simp only[bA,a,Zd,aA,O.S1,Zt,aR,aB,Zf]
    simp only[aR]at fin
    rw[fin];simp
   | true=>
    have y:=Rn v.l[j] s.key (by omega)
    have hd:(v.l.take i).drop j=v.l[j]::(v.l.take i).drop (j+1):=by
     rw[aG (by simp;omega),List.getElem_take]
    simp only[bA,a,Zd,aA,O.S1,Zt,aR,cQ,cD,aF,aE,aJ,aC t,aI,eJ,y,fI,gA,Aw,Am,bR,x]
    rw[Yt s v p q u o r i b key true out w m (j+1) _ (by omega),hd,fO]
    congr 6
    unfold sameKey
    cases ag<;>cases Ha v.l[j] s.key<;>simp
  ·have a: ¬ (j:Int)<i:=by omega
   simp only[bA,a,Ze,aA,O.S1,aB,Zf,aR]
   simp only[aR]at fin
   rw[fin,aH (by simp;omega)]
   simp
def Bgn (v:Val):Prop:=v.Ap<=1048576-> ∀ (s:Sch),SB s->s.Ap<=1048576-> ∀p:List Stp,(∀x∈p,x.fits)->p.length+v.Ap<=549755813888->W F19 0 [s.enc,v.enc,.list (p.map Stp.enc)]=some [.list (Ji v s p)]
theorem Agb {v:Val}{s:Sch}{p:List Stp}(a:SB s)(b:s.Ap<=1048576)(c:v.Ap<=1048576):(Ji v s p).length <=2199025352704:=by
 have d:=Sd v s p a
 have e:=v.G7
 have g:(2+s.Ap) * v.size<=1048578 * 1048576:=aX (by omega) (by omega)
 omega
theorem Wy (s t:Sch)(v:Val)(p:List Stp)(w:v.Ap<=1048576)(C:s.Ap<=1048576)(j:s.it= [t])(a:SB s)(hp: ∀s∈p,s.fits)(F:p.length+v.Ap<=549755813888)
  (y: ∀x∈v.l,Bgn x): ∀ (n i:Nat) (out:List IV),i+n=v.l.length->out.length+(2+s.Ap) * Cp (v.l.drop i)<=4398046511103->
  W F29 2 [.list (p.map Stp.enc),.int i,s.enc,v.enc,.list out]=some [.list (out++Lc (v.l.drop i) s.key t p (v.l.take i))]
 | 0,i,out,h,m=>by
  have z: ¬ i<v.l.length:=by omega
  rw[Aw1,aH (by omega),L9]
  simp only[cQ,bY,aD,aA,bA,Al,z,Ze,aR,aB,Zf,bF]
 | n+1,i,out,h,m=>by
  have c:i<v.l.length:=by omega
  have K:=v.B5
  have G:=Bf (i:=i) (by omega)
  have L:=eF (aK c)
  have b:t∈s.it:=by rw[j];simp
  have htmass:=fK b
  have hd:=aG c
  have A:=s.Acx
  rw[hd]at m ⊢
  rw[Ib]
  have o:(v.l.take i).length =i:=by simp;omega
  have q:v.l.take i++ [v.l[i]]=v.l.take (i+1):=by simp
  rw[o,q]
  have B:=Iq hp (Abs s.key v.l[i] i (by omega) (by omega))
  have r:=y _ (aK c) (by omega) t (a.Iu b) (by omega) _ B (by simp;omega)
  have hlen:=Sd v.l[i] t (p++ [Hw s.key v.l[i] i]) (a.Iu b)
  have H:=Ad4 s.key (v.l.take i) v.l[i] (p++ [Hw s.key v.l[i] i])
  simp only[Cp,cI]at m
  have I:(2+t.Ap) * v.l[i].size +1<=(2+s.Ap) * v.l[i].size :=by
   have z:=v.l[i].size_pos
   have M:(3+t.Ap) * v.l[i].size <=(2+s.Ap) * v.l[i].size :=aX (by omega) (bN _)
   have g:(3+t.Ap) * v.l[i].size =(2+t.Ap) * v.l[i].size +v.l[i].size :=by rw[show 3+t.Ap=(2+t.Ap)+1 by omega,gE,gF]
   omega
  generalize N:Ji v.l[i] t (p++ [Hw s.key v.l[i] i])=es1 at *
  have u:(out.length+es1.length) * 24<=Bb:=Aqp (by omega)
  have g:=Yt s v p (p++ [Hw s.key v.l[i] i]) w B (by simp;omega) i (by omega) (Dr v.l[i] s.key) (Ha v.l[i] s.key) (out++es1) (by rw[aO];omega) i 0 false (by omega)
  simp only[aN,aP,dW]at g
  have e:(if(Ha v.l[i] s.key&&(v.l.take i).any (sameKey s.key (Dr v.l[i] s.key)))=true then[I0 (p++ [Hw s.key v.l[i] i]) 8]else[])=Asr s.key (v.l.take i) v.l[i] (p++ [Hw s.key v.l[i] i]):=rfl
  rw[e]at g
  generalize Q:Asr s.key (v.l.take i) v.l[i] (p++ [Hw s.key v.l[i] i])=d at *
  have J:=Wy s t v p w C j a hp F y n (i+1) (out++es1++d) (by omega) (by simp only[aO];omega)
  rw[Aw1]
  simp only[cQ,bY,aD,aA,bA,Al,c,Zd,aR,Zt,Akx s v.l i c (by omega),bE,Aco p (Hw s.key v.l[i] i) (by omega),eA,j,bJ,bO,cD,cO,cC,bL,aF,aE,aJ,aC c,aI,r,fB,u,eJ,Rn v.l[i] s.key (by omega),fI]
  rw[g,A9m]
  simp only[bR,G,aA]
  rw[J]
  simp only[bK]
theorem Zg (s:Sch)(v:Val)(p:List Stp)(c:v.Ap<=1048576)(j:s.Ap<=1048576)(hp: ∀s∈p,s.fits)(m:p.length+v.Ap<=549755813888): ∀ (n i:Nat) (out:List IV),i+n=s.f.length->out.length+n<=4398046511103->
  W F35 3 [.list (p.map Stp.enc),.int i,s.enc,v.enc,.list out]=some [.list (out++(s.f.drop i).flatMap (Km v p))]
 | 0,i,out,h,o=>by
  have a: ¬ i<s.f.length:=by omega
  rw[Awb,aH (by omega)]
  simp only[dJ,bY,aD,aA,bA,Al,a,Ze,aR,aB,Zf,cT,bF]
 | n+1,i,out,h,o=>by
  have b:i<s.f.length:=by omega
  have u:=s.Bc
  have q:=Bf (i:=i) (by omega)
  have r:=fP (aK b)
  have t:=Iq hp (I7 s.f[i].nm (by omega))
  have d:(out.length+1) * 24<=Bb:=Aqp (by omega)
  have g:O.Rf [(.int 1),.str s.f[i].nm,(.int 0),(.str ⟨#[]⟩)]=some (Cv s.f[i].nm).enc :=rfl
  rw[Awb,aG b,cB]
  unfold Km
  simp only[dJ,bY,aD,aA,bA,Al,b,Zd,aR,Zt,cD,aF,aE,aJ,aC b,aI,eE,Ak7 v s.f[i].nm c,I8,gU,cX,Aw,Am,g,Aco p (Cv s.f[i].nm) (by omega),bE,Afe _ t (by simp;omega),fB,aT,d,Bbk,bR,q]
  have e:(if s.f[i].rq =true then !Ku v s.f[i].nm else false)=(s.f[i].rq && !Ku v s.f[i].nm):=by cases s.f[i].rq<;>simp
  rw[e]
  cases(s.f[i].rq && !Ku v s.f[i].nm) with
  | true=>
   have a:=Zg s v p c j hp m n (i+1) (out++ [I0 (p++ [Cv s.f[i].nm]) 7]) (by omega) (by simp;omega)
   simp only[Zt,a,bK]
   rfl
  | false=>
   have a:=Zg s v p c j hp m n (i+1) out (by omega) (by omega)
   simp only[aB,Zf,a,bQ]
   rfl
theorem Afo (s:Sch)(v:Val)(p:List Stp)(C:v.Ap<=1048576)(F:s.Ap<=1048576)(b:SB s)(hp: ∀s∈p,s.fits)(G:p.length+v.Ap<=549755813888)
  (H: ∀x∈v.f,Bgn x.2): ∀ (n i:Nat) (out:List IV),i+n=v.f.length->out.length+s.f.length+(2+s.Ap) * B6 (v.f.drop i)<=4398046511103->
  W F35 1 [.list (p.map Stp.enc),.int i,s.enc,v.enc,.list out]=some [.list (out++Lg (v.f.drop i) s p++s.f.flatMap (Km v p))]
 | 0,i,out,h,y=>by
  have e: ¬ i<v.f.length:=by omega
  have I:=Zg s v p C F hp G s.f.length 0 out (by omega) (by omega)
  simp only[aN,aP]at I
  rw[Axi,aH (by omega),Kd]
  simp only[cL,bY,aD,aA,bA,Al,e,Ze,aR,aB,Zf,bF,I]
 | n+1,i,out,h,y=>by
  have o:i<v.f.length:=by omega
  have S:=v.Bc
  have K:=Bf (i:=i) (by omega)
  have T:=dZ (aK o)
  have hd:=aG o
  rw[hd]at y ⊢
  rw[Ja]
  simp only[B6,cI]at y
  have J:=Iq hp (I7 v.f[i].1 (by omega))
  have z:O.Rf [(.int 1),.str v.f[i].1,(.int 0),(.str ⟨#[]⟩)]=some (Cv v.f[i].1).enc :=rfl
  have q:=v.f[i].2.size_pos
  have c:1<=(2+s.Ap) * v.f[i].2.size :=by
   have:1 * 1<=(2+s.Ap) * v.f[i].2.size :=aX (by omega) q
   omega
  -- what this field adds
  have key: ∀es:List IV,es.length<=(2+s.Ap) * v.f[i].2.size ->W F35 2 [.list (p.map Stp.enc),.int i,s.enc,v.enc,.list (out++es)]=some [.list (out++(es++Lg (v.f.drop (i+1)) s p)++s.f.flatMap (Km v p))]:=by
   intro es L
   have M:=Afo s v p C F b hp G H n (i+1) (out++es) (by omega) (by rw[aO];omega)
   rw[A8e]
   simp only[bR,K,aA,M,bK]
  have sub: ∀t:Sch,D5 s v.f[i].1 =some t->((∃es,Ji v.f[i].2 t (p++ [Cv v.f[i].1])=es/\W F19 0 [t.enc,v.f[i].2.enc,.list ((p++ [Cv v.f[i].1]).map Stp.enc)]=some [.list es]/\es.length<=(2+s.Ap) * v.f[i].2.size)):=by
   intro t A
   have N:=Jk A
   have e:=H _ (aK o) (by omega) t (b.sub A) (by omega) _ J (by simp;omega)
   have m:=Sd v.f[i].2 t (p++ [Cv v.f[i].1]) (b.sub A)
   have U:(2+t.Ap) * v.f[i].2.size <=(2+s.Ap) * v.f[i].2.size :=aX (by omega) (bN _)
   exact⟨_,rfl,e,by omega⟩
  have g: ∀es:List IV,es.length<=(2+s.Ap) * v.f[i].2.size ->(out.length+es.length) * 24<=Bb:=λes h=>Aqp (by omega)
  rw[Axi]
  simp only[cL,bY,aD,aA,bA,Al,o,Zd,aR,Zt,cD,aF,aE,aJ,aC o,aI,dE,z,Aco p _ (show p.length<=1099511627776 by omega),bE,Y7 s v.f[i].1 (by omega),fI,eA,aW,cX,Aw,Am,iC,eC,dI,fX]
  unfold Ag2
  cases j:s.it with
  | nil=>
   have a:D5 s v.f[i].1 =(s.fld v.f[i].1).map (·.s):=by unfold D5;rw[j]
   rw[a]at sub ⊢
   simp only[bB,aN,Zd,Zt]
   cases Q:s.fld v.f[i].1 with
   | none=>
    have u:=g [I0 (p++ [Cv v.f[i].1]) 1] (by simpa using c)
    simp only[dK,bG,Zt,Afe _ J (show(p++ [Cv v.f[i].1]).length <=1099511627776 by simp;omega),bE,fB,u,aA,gK]
    exact key _ (by simpa using c)
   | some d=>
    simp only[cK,aV,aB,Zf,aI,bZ,show ¬ (0:Int)=1 by omega,Ze,ite_self]
    by_cases w:v.f[i].2.k =0
    ·simp only[w,Zd,aV,aB,Zf,Zt]
     have:=key [] (by simp)
     simpa using this
    ·obtain⟨es,B,e,m⟩:=sub d.s (by rw[Q];rfl)
     simp only[w,Ze,bG,Zt,Zf,e,bE,fB,g es m,aA,B]
     exact key es m
  | cons t r=>
   have R:r= []:=by have:=b.one;rw[j]at this;simpa using this
   subst R
   have a:D5 s v.f[i].1 =some t:=by unfold D5;rw[j]
   rw[a]at sub ⊢
   simp only[aY,bB,gV,aN,show ¬ (1:Int)=0 by omega,Ze,aB,Zf,Zd,bJ,bO,cO,Zt,cC,bL,aA]
   by_cases w:v.f[i].2.k =0
   ·simp only[w,Zd,aV,aB,Zf,Zt]
    have:=key [] (by simp)
    simpa using this
   ·obtain⟨es,B,e,m⟩:=sub t rfl
    simp only[aI,aA,w,Ze,bG,Zt,Zf,e,bE,fB,g es m,aA,B]
    exact key es m
theorem Afi (s:Sch)(v:Val)(p:List Stp)(hp: ∀s∈p,s.fits)(b:p.length<=1099511627776)(d:s.Ap<=1048576): ∀ (n i:Nat),i+n=s.en.length->
  W F19 1 [.list (p.map Stp.enc),.int i,s.enc,v.enc]=some [.list (if decide (0<s.en.length)&& !(s.en.drop i).any (λe=>decide (e=v.s)) then[I0 p 1]else[])]
 | 0,i,h=>by
  have g: ¬ i<s.en.length:=by omega
  rw[Aup,aH (by omega)]
  simp only[dU,bY,aD,aA,bA,Al,g,Ze,aR,aB,Zf,cR,Afe p hp b,bE,List.any_nil,bG,cJ]
  have e:decide ((0:Int)<(s.en.length:Int))=decide (0<s.en.length):=by simp
  rw[e]
  split<;>simp
 | n+1,i,h=>by
  have a:i<s.en.length:=by omega
  have o:=s.J8
  have j:=Bf (i:=i) (by omega)
  have m:=Afi s v p hp b d n (i+1) (by omega)
  rw[Aup,aG a,fO]
  simp only[dU,bY,aD,aA,bA,Al,a,Zd,aR,Zt,cD,aF,aE,aJ,aC a,aI,gC,gA,bR,j,m]
  by_cases c:s.en[i]=v.s<;>simp[c]
theorem Ap2: ∀v:Val,Bgn v:=by
 refine eD λv h i r s a j p hp u=>?_
 have b: ∀c,W F20 0 [.list (p.map Stp.enc),.int c]=some [.list [I0 p c]]:=Afe p hp (by omega)
 have B:=v.size_eq
 have C:=v.G7
 have F:=s.Bc
 have hmul:(2+s.Ap) * v.size<=1048578 * 1048576:=aX (by omega) (by omega)
 rw[A84,Js]
 simp only[dP,gD,aA,eC,aR,b,bE]
 by_cases w:v.k=s.k
 ·simp only[w,Zd,aV,aB,Zf,Zt,aW,aA,aR]
  by_cases k2:s.k=2
  ·simp only[k2,Zd,Zt,gL,dL,dM,bA,cR,aA,aR,Aw,Am,Zl]
   by_cases d:v.n<s.mn<;>by_cases e:s.mx<v.n<;>simp[d,e]
  ·by_cases x:s.k=3
   ·have y:=Afi s v p hp (by omega) j s.en.length 0 (by omega)
    simp only[aN,aP]at y
    simp only[x,show ¬ (3:Int)=2 by omega,Ze,aB,Zf,Zd,Zt,gC,dL,dM,cW,bA,cR,aA,aR,Aw,Am,y]
    by_cases d:(v.s.size:Int)<s.mn<;>by_cases e:s.mx<(v.s.size:Int)<;>simp[d,e]
   ·by_cases m:s.k=4
    ·obtain⟨t,z⟩:=bV.1 (a.list m)
     have G:(2+s.Ap) * Cp v.l<=(2+s.Ap) * v.size:=aX (bN _) (by omega)
     have H:=Va p s v.l.length
     have g:=Wy s t v p r j z a hp u h v.l.length 0 (Zl p s v.l.length) (by omega) (by simp only[aP];omega)
     simp only[aN,aP,fJ]at g
     have o:W F29 0 [s.enc,v.enc,.list (p.map Stp.enc)]=some [.list (Zl p s v.l.length++Lc v.l s.key t p [])]:=by
      rw[Bah]
      simp only[cQ,dL,dM,bY,aD,bA,cR,aA,aR,Aw,Am,b,bE,fB,bB,aT,bQ,A9e]
      have q:(0+1) * 24<=Bb:=Aqp (by omega)
      simp only[q,Zt,aA]
      revert g
      unfold Zl
      by_cases d:(v.l.length:Int)<s.mn<;>by_cases e:s.mx<(v.l.length:Int)<;>simp[d,e]
     simp only[m,show ¬ (4:Int)=2 by omega,show ¬ (4:Int)=3 by omega,Ze,aB,Zf,Zd,Zt,o,bE,z,eY]
    ·by_cases A:s.k=5
     ·have G:(2+s.Ap) * B6 v.f<=(2+s.Ap) * v.size:=aX (bN _) (by omega)
      have g:=Afo s v p r j a hp u i v.f.length 0 [] (by omega) (by simp only[aP,bB];omega)
      simp only[aN,aP,bQ]at g
      have o:W F35 0 [s.enc,v.enc,.list (p.map Stp.enc)]=some [.list (Lg v.f s p++s.f.flatMap (Km v p))]:=by
       rw[Bav,g]
      simp only[A,show ¬ (5:Int)=2 by omega,show ¬ (5:Int)=3 by omega,show ¬ (5:Int)=4 by omega,Ze,aB,Zf,Zd,Zt,o,bE]
     ·simp only[k2,x,m,A,Ze,aB,Zf]
 ·simp only[w,Ze,bG,Zt,Zf]
end Go.CT.Sch
namespace Go.CT.Sch
open Go.Proofs
def Ass (m:List (ByteArray × Bool)):List IV:=m.map λe=> .agg [.str e.1,.bool e.2]
def U5 (m:List (ByteArray × Bool))(k:ByteArray):Option Bool:=(m.find? λe=>decide (e.1=k)).map (·.2)
def Ahs (k:ByteArray)(b:Bool):List (ByteArray × Bool)->List (ByteArray × Bool)
 | []=> [(k,b)]
 | e::r=>if e.1=k then(k,b)::r else e::Ahs k b r
theorem Aan (a b:ByteArray):IV.Qc (.str a) (.str b)=some (decide (a=b)):=by
 have:(a.toList == b.toList)=decide (a=b):=by
  rw[aS,beq_iff_eq,decide_eq_true_iff];exact O.Tn
 simp only[IV.Qc,this]
theorem Yk (k:ByteArray): ∀m:List (ByteArray × Bool),U8 (.str k) (Ass m)=some ((U5 m k).map .bool)
 | []=>rfl
 | e::r=>by
  have a:=Yk k r
  simp only[Ass,bJ,U8,Aan,U5,bW]
  by_cases c:k=e.1
  ·simp[c]
  ·have c': ¬ e.1=k:=λh=>c h.symm
   simp only[c,c',Ze]
   exact a
theorem Aoq (k:ByteArray)(b:Bool): ∀m:List (ByteArray × Bool),Awj (.str k) (.bool b) (Ass m)=some (Ass (Ahs k b m))
 | []=>rfl
 | e::r=>by
  have a:=Aoq k b r
  simp only[Ass,bJ,Awj,Aan,Ahs]
  by_cases c:k=e.1
  ·simp[c]
  ·have c': ¬ e.1=k:=λh=>c h.symm
   simp only[c,c',Ze,Zf]
   unfold Ass at a
   rw[a];rfl
theorem Ah5 (k j:ByteArray)(b:Bool): ∀m:List (ByteArray × Bool),U5 (Ahs k b m) j=if k=j then some b else U5 m j
 | []=>by simp only[Ahs,U5,bW,List.find?_nil];by_cases c:k=j<;>simp[c]
 | e::r=>by
  have d:=Ah5 k j b r
  unfold U5 at d ⊢
  unfold Ahs
  by_cases c:e.1=k
  ·simp only[c,Zt,bW]
   by_cases a:k=j<;>simp[a]
  ·simp only[c,Zf,bW]
   by_cases a:e.1=j
   ·have: ¬ k=j:=λh=>c (a.trans h.symm)
    simp[a,this]
   ·simp only[a,Ze,d]
theorem A0c (m:List (ByteArray × Bool))(k:ByteArray):O.An4 (.bool false) (.list (Ass m)) (.str k)=some (.bool ((U5 m k).getD false)):=by
 unfold O.An4
 simp only[dB,Yk,aI]
 cases U5 m k<;>rfl
theorem Az8 (m:List (ByteArray × Bool))(k:ByteArray):O.Aji (.list (Ass m)) (.str k)=some (.bool (U5 m k).isSome):=by
 unfold O.Aji
 simp only[dB,Yk,aI,Option.isSome_map]
theorem Anl (m:List (ByteArray × Bool))(k:ByteArray)(b:Bool):O.Aqi (.list (Ass m)) (.str k) (.bool b)=some (.list (Ass (Ahs k b m))):=by
 unfold O.Aqi
 simp only[dB,Aoq,aI]
theorem Z8 (v:Val)(nm:ByteArray)(a:v.Ap<=4294967296):W Bgi 0 [v.enc,.str nm]=some (Ix (v.get nm)):=A37 v nm (C6 v (by omega))
theorem A5u (v:Val)(nm:ByteArray)(a:v.Ap<=1048576):W F110 0 [v.enc,.str nm]=some [.str (Dr v nm),.bool (isKey v nm)]:=by
 rw[A5s]
 unfold Dr isKey
 simp only[Z8 v nm (by omega),Ix,I8,aR,aW,aA,Aw,Am]
 cases(v.get nm).isSome<;>simp
theorem Aqr (s:Sch)(v:Val)(i:Int)(a:v.Ap<=1048576):W F109 0 [s.enc,.int i,v.enc]=some [.agg [.int (if Ha v s.key then 3 else 2),.str (if Ha v s.key then s.key else An),.int (if Ha v s.key then 0 else i),.str (if Ha v s.key then Dr v s.key else An)]]:=by
 rw[A1v]
 have e:(if isKey v s.key=true then !decide (s.key=(⟨#[]⟩:ByteArray)) else false)=Ha v s.key:=by unfold Ha An;cases isKey v s.key<;>simp
 simp only[eJ,aA,A5u v s.key a,fI,gZ,aR,Aw,Am,e,eU]
 cases Ha v s.key<;>rfl
theorem Aja (s:Sch)(v:Val)(i:Nat)(a:v.Ap<=1048576):W F109 0 [s.enc,.int i,v.enc]=some [(Hw s.key v i).enc]:=by
 rw[Aqr s v i a]
 unfold Hw
 cases Ha v s.key<;>rfl
theorem Vv (nm:ByteArray):W F117 0 [.str nm]=some [(Cv nm).enc]:=by
 rw[A02];rfl
theorem Aet (p:List Stp)(s:Stp)(c:p.length<=1073741824):W F112 0 [.list (p.map Stp.enc),s.enc]=some [.list ((p++ [s]).map Stp.enc)]:=by
 have a:((p.map Stp.enc).length + [s.enc].length) * 48<=Bb:=by
  have:(p.length+1) * 48<=1099511627777 * 48:=aX (by omega) (bN _)
  simp only[aD,aT]
  unfold Bb;omega
 have b:O.Ig [.list (p.map Stp.enc)]=some [.list (p.map Stp.enc)]:=Ds (by rw[aD];omega)
 rw[A41]
 simp only[A5w,b,bE,Bcs,O.Arp,gB,aA,O.Ahd (n:=48) (by simp) a,cF,bJ,bO]
theorem Am4 (out:List IV)(p:List Stp)(c:Int)(hp: ∀s∈p,s.fits)(b:p.length<=1099511627776)(d:out.length<=4398046511103):W F88 0 [.list out,.list (p.map Stp.enc),.int c]=some [.list (out++ [I0 p c])]:=by
 have a:(out.length+1) * 24<=Bb:=Aqp (by omega)
 rw[A98]
 simp only[Aei p hp b,fI,eU,gB,aA,fB,aT,a,Zt,I0]
theorem Ak4 (s:Sch):W F115 0 [s.enc]=some [.bool (decide (s.k=5)&&decide (0<s.it.length))]:=by
 rw[A1h]
 by_cases a:s.k=5<;>simp[a]
theorem Atp (s:Sch):W F67 0 [s.enc]=some [.bool (decide (s.k=5)&&decide (s.it.length=0))]:=by
 rw[Bbp]
 by_cases a:s.k=5<;>simp[a]
theorem Aos (s:Sch)(nm:ByteArray)(d:s.Ap<=1099511627776): ∀ (n i:Nat),i+n=s.f.length->
  ∃r:Int,W F65 1 [.list (s.f.map cP),.str nm,.int s.f.length,.int i]=some [.int r]/\
   ((((s.f.drop i).find? λp=>decide (p.nm=nm))=none/\r<0)\/(∃j:Nat,r=j/\s.f[j]?=((s.f.drop i).find? λp=>decide (p.nm=nm))/\((s.f.drop i).find? λp=>decide (p.nm=nm)).isSome =true))
 | 0,i,h=>by
  rw[Atz]
  have b: ¬ i<s.f.length:=by omega
  refine⟨-1,by simp[b],.inl ⟨by simp[aH (aZ b)],by omega⟩⟩
 | n+1,i,h=>by
  have a:i<s.f.length:=by omega
  have o:=s.Bc
  have e:=Bf (i:=i) (by omega)
  obtain⟨r,g,m⟩:=Aos s nm d n (i+1) (by omega)
  rw[Atz,aG a,bW]
  simp only[bA,Al,a,Zd,aA,aR,Zt,cD,aF,aE,aJ,aC a,aI,A99,eE,gA,bE,bR,e,g]
  by_cases c:s.f[i].nm =nm
  ·refine⟨i,by simp[c],.inr ⟨i,rfl,by simp[c],by simp[c]⟩⟩
  ·have c':decide (s.f[i].nm =nm)=false:=by simpa using c
   simp only[c',aB,Zf]
   exact⟨r,rfl,m⟩
theorem Acz (s:Sch)(nm:ByteArray)(h:s.Ap<=1099511627776):W F64 0 [s.enc,.str nm]=
  some [(if s.k=5/\s.it.length=0 then(s.fld nm).getD Qf else Qf).enc,.bool (decide (s.k=5/\s.it.length=0)&&(s.fld nm).isSome)]:=by
 obtain⟨r,i,b⟩:=Aos s nm h s.f.length 0 (by omega)
 have c:W F65 0 [.list (s.f.map cP),.str nm]=some [.int r]:=by
  rw[Bax]
  simpa using i
 simp only[aP]at b
 have m:(s.f.find? λp=>decide (p.nm=nm))=s.fld nm:=rfl
 rw[m]at b
 have e:=Atp s
 rw[A9g]
 simp only[dJ,aA,c,bE,bA,aR,e,cX,eU,Aw,Am]
 rcases b with⟨a,g⟩ | ⟨j,rfl,a,g⟩
 ·rw[a]
  simp only[g,Zd,Zt,eR,ite_self,dK,Bool.and_false]
  rfl
 ·have o: ¬ (j:Int)<0:=by omega
  obtain⟨d,hd⟩:=dH.1 g
  rw[hd]at a ⊢
  simp only[o,Ze,aB,Zf,cD,aF,Zt,aE,aJ,a,aI,bZ,cK,cJ,aA]
  by_cases q:s.k=5<;>by_cases t:s.it.length=0<;>simp[q,t,Aac]
theorem Are (v:Val)(nm:ByteArray)(a:v.Ap<=1048576): ∃w:Val,W F118 0 [v.enc,.str nm]=some [.int w.k,.int w.n,.str w.s,.list (w.l.map bT),.list (w.f.map bD),.bool (Ku v nm)]/\w=(v.get nm).getD Ar:=by
 rw[A4y]
 unfold Ku
 refine⟨_,?_,rfl⟩
 simp only[Z8 v nm (by omega),Ix,I8,eC,aR,aA,Aw,Am]
 cases(v.get nm).isSome<;>simp
theorem R8 (l:List ByteArray)(x:ByteArray)(d:l.length<=1099511627776): ∀ (n i:Nat),i+n=l.length->
  ∃r:Int,W F107 1 [.list (l.map .str),.str x,.int l.length,.int i]=some [.int r]/\(decide (0<=r)=(l.drop i).any λe=>decide (e=x))
 | 0,i,h=>by
  rw[Am7]
  have b: ¬ i<l.length:=by omega
  refine⟨-1,by simp[b],by simp[aH (aZ b)]⟩
 | n+1,i,h=>by
  have a:i<l.length:=by omega
  have g:=Bf (i:=i) (by omega)
  obtain⟨r,j,m⟩:=R8 l x d n (i+1) (by omega)
  rw[Am7,aG a,fO]
  simp only[bA,Al,a,Zd,aA,aR,Zt,cD,aF,aE,aJ,aC a,aI,gA,bR,g,j]
  by_cases c:x=l[i]
  ·refine⟨i,by simp[c],by simp[c]⟩
  ·have c': ¬ l[i]=x:=λh=>c h.symm
   simp only[c,Ze,aB,Zf]
   exact⟨r,rfl,by simp[c',m]⟩
theorem Mx (l:List ByteArray)(x:ByteArray)(b:l.length<=1099511627776):W F106 0 [.list (l.map .str),.str x]=some [.bool (l.any λe=>decide (e=x))]:=by
 obtain⟨r,c,d⟩:=R8 l x b l.length 0 (by omega)
 have a:W F107 0 [.list (l.map .str),.str x]=some [.int r]:=by
  rw[A1k];simpa using c
 rw[A0f]
 simp only[a,bE,eZ,aA,d,aP]
def PgE (v:Val):Prop:=v.Ap<=1048576-> ∀ (s:Sch),SB s->s.Ap<=1048576-> ∀ (p:List Stp) (out:List IV),(∀x∈p,x.fits)->p.length+v.Ap<=1073741824->out.length+(2+s.Ap) * v.size<=4398046511103->
 W F87 0 [.list out,s.enc,v.enc,.list (p.map Stp.enc)]=some [.list (out++Ji v s p)]
theorem Afv (s t:Sch)(v:Val)(p:List Stp)(I:v.Ap<=1048576)(J:s.Ap<=1048576)(r:s.it= [t])(d:SB s)(hp: ∀s∈p,s.fits)(K:p.length+v.Ap<=1073741824)
  (z: ∀x∈v.l,PgE x): ∀ (n i:Nat) (out:List IV) (m:List (ByteArray × Bool)),i+n=v.l.length->out.length+(2+s.Ap) * Cp (v.l.drop i)<=4398046511103->
  (∀k,(U5 m k).getD false=(v.l.take i).any (sameKey s.key k))->
  W Bf6 2 [.list (p.map Stp.enc),.list (v.l.map bT),.int v.l.length,.int i,s.enc,.list (Ass m),.list out]=some [.list (out++Lc (v.l.drop i) s.key t p (v.l.take i))]
 | 0,i,out,m,h,u,g=>by
  have A: ¬ i<v.l.length:=by omega
  rw[Alw,aH (by omega),L9]
  simp only[bA,Al,A,Ze,aA,aR,aB,Zf,bF]
 | n+1,i,out,m,h,u,g=>by
  have j:i<v.l.length:=by omega
  have S:=v.B5
  have L:=Bf (i:=i) (by omega)
  have T:=eF (aK j)
  have e:t∈s.it:=by rw[r];simp
  have htmass:=fK e
  have hd:=aG j
  have B:=s.Acx
  rw[hd]at u ⊢
  rw[Ib]
  have w:(v.l.take i).length =i:=by simp;omega
  have o:v.l.take i++ [v.l[i]]=v.l.take (i+1):=by simp
  rw[w,o]
  have C:=Iq hp (Abs s.key v.l[i] i (by omega) (by omega))
  have hlen:=Sd v.l[i] t (p++ [Hw s.key v.l[i] i]) (d.Iu e)
  have M:=Ad4 s.key (v.l.take i) v.l[i] (p++ [Hw s.key v.l[i] i])
  simp only[Cp,cI]at u
  have N:(2+t.Ap) * v.l[i].size +1<=(2+s.Ap) * v.l[i].size :=by
   have A:=v.l[i].size_pos
   have U:(3+t.Ap) * v.l[i].size <=(2+s.Ap) * v.l[i].size :=aX (by omega) (bN _)
   have X:(3+t.Ap) * v.l[i].size =(2+t.Ap) * v.l[i].size +v.l[i].size :=by rw[show 3+t.Ap=(2+t.Ap)+1 by omega,gE,gF]
   omega
  have y:=z _ (aK j) (by omega) t (d.Iu e) (by omega) (p++ [Hw s.key v.l[i] i]) out C (by simp;omega) (by omega)
  generalize Y:Ji v.l[i] t (p++ [Hw s.key v.l[i] i])=es1 at *
  have b: ∀k,(v.l.take (i+1)).any (sameKey s.key k)=((v.l.take i).any (sameKey s.key k)||sameKey s.key k v.l[i]):=by
   intro k;rw[<-o,List.any_append];simp
  have go: ∀ (es:List IV) (q:List (ByteArray × Bool)),es.length<=(2+s.Ap) * v.l[i].size ->(∀k,(U5 q k).getD false=(v.l.take (i+1)).any (sameKey s.key k))->
    W Bf6 4 [.list (p.map Stp.enc),.list (v.l.map bT),.int v.l.length,.int i,s.enc,.list (Ass q),.list (out++es)]=some [.list (out++(es++Lc (v.l.drop (i+1)) s.key t p (v.l.take (i+1))))]:=by
   intro es q Q a
   have R:=Afv s t v p I J r d hp K z n (i+1) (out++es) q (by omega) (by rw[aO];omega) a
   rw[A3k]
   simp only[bR,L,aA]
   rw[R,bK]
  have ek:(if isKey v.l[i] s.key=true then !decide (s.key=(⟨#[]⟩:ByteArray)) else false)=Ha v.l[i] s.key:=by unfold Ha An;cases isKey v.l[i] s.key<;>simp
  rw[Alw]
  simp only[bA,Al,j,Zd,aA,aR,Zt,cD,aF,aE,aJ,aC j,aI,Aja s v.l[i] i (by omega),bE,Aet p (Hw s.key v.l[i] i) (by omega),eA,r,bJ,bO,cO,cC,bL,y,eJ,A5u v.l[i] s.key (by omega),fI,gZ,Aw,Am,ek,A0c,Az8,g]
  unfold Asr
  cases F:Ha v.l[i] s.key with
  | false=>
   simp only[aB,Zf,cU,bF]
   refine go es1 m (by omega) λk=>?_
   rw[g,b]
   simp[sameKey,F]
  | true=>
   have a: ∀k,(U5 (Ahs (Dr v.l[i] s.key) true m) k).getD false=(v.l.take (i+1)).any (sameKey s.key k):=by
    intro k
    rw[Ah5,b]
    unfold sameKey at g ⊢
    by_cases c:Dr v.l[i] s.key=k
    ·simp[c,F]
    ·simp[c,g]
   simp only[Zt,bP]
   cases G:(v.l.take i).any (sameKey s.key (Dr v.l[i] s.key)) with
   | true=>
    simp only[Zt,Am4 _ _ 8 C (show(p++ [Hw s.key v.l[i] i]).length <=1099511627776 by simp;omega) (show(out++es1).length <=4398046511103 by rw[aO];omega),bE,Amg,Anl,aA]
    have H:=go (es1++ [I0 (p++ [Hw s.key v.l[i] i]) 8]) _ (by simp;omega) a
    simp only[<-bK]at H ⊢
    exact H
   | false=>
    simp only[aB,Zf,Amg,Anl,aA,bF]
    exact go es1 _ (by omega) a
theorem Acu (s:Sch)(v:Val)(p:List Stp)(c:v.Ap<=1048576)(g:s.Ap<=1048576)(hp: ∀s∈p,s.fits)(j:p.length+v.Ap<=1073741824): ∀ (n i:Nat) (out:List IV),i+n=s.f.length->out.length+n<=4398046511103->
  W Bf7 3 [.list (p.map Stp.enc),.list (s.f.map cP),.int s.f.length,.int i,v.enc,.list out]=some [.list (out++(s.f.drop i).flatMap (Km v p))]
 | 0,i,out,h,m=>by
  have a: ¬ i<s.f.length:=by omega
  rw[Aof,aH (by omega)]
  simp only[aA,bA,Al,a,Ze,aR,aB,Zf,cT,bF]
 | n+1,i,out,h,m=>by
  have b:i<s.f.length:=by omega
  have t:=s.Bc
  have o:=Bf (i:=i) (by omega)
  have q:=fP (aK b)
  have r:=Iq hp (I7 s.f[i].nm (by omega))
  obtain⟨w,d,_⟩:=Are v s.f[i].nm c
  rw[Aof,aG b,cB]
  unfold Km
  have e:(if s.f[i].rq =true then !Ku v s.f[i].nm else false)=(s.f[i].rq && !Ku v s.f[i].nm):=by cases s.f[i].rq<;>simp
  simp only[aA,bA,Al,b,Zd,aR,Zt,cD,aF,aE,aJ,aC b,aI,eE,d,I8,gU,cX,Aw,Am,Vv,bE,Aet p (Cv s.f[i].nm) (by omega),Am4 out _ 7 r (show(p++ [Cv s.f[i].nm]).length <=1099511627776 by simp;omega) (by omega),A3b,bR,o,e]
  cases(s.f[i].rq && !Ku v s.f[i].nm) with
  | true=>
   have a:=Acu s v p c g hp j n (i+1) (out++ [I0 (p++ [Cv s.f[i].nm]) 7]) (by omega) (by simp;omega)
   simp only[Zt,a,bK]
   rfl
  | false=>
   have a:=Acu s v p c g hp j n (i+1) out (by omega) (by omega)
   simp only[aB,Zf,a,bQ]
   rfl
theorem A5t (s:Sch)(v:Val)(p:List Stp)(h:v.Ap<=1048576)(j:s.Ap<=1048576)(a:SB s)(hp: ∀s∈p,s.fits)(m:p.length+v.Ap<=1073741824)(d: ∀x∈v.f,PgE x.2)(i:Nat)(c:i<v.f.length)(out:List IV)(o:out.length+(2+s.Ap) * v.f[i].2.size <=4398046511103)(t:Sch)(b:D5 s v.f[i].1 =some t):
  W F87 0 [.list out,t.enc,v.f[i].2.enc,.list ((p++ [Cv v.f[i].1]).map Stp.enc)]=some [.list (out++Ji v.f[i].2 t (p++ [Cv v.f[i].1]))]/\(Ji v.f[i].2 t (p++ [Cv v.f[i].1])).length <=(2+s.Ap) * v.f[i].2.size :=by
 have q:=v.Bc
 have r:=dZ (aK c)
 have e:=Iq hp (I7 v.f[i].1 (by omega))
 have g:=Jk b
 have u:=Sd v.f[i].2 t (p++ [Cv v.f[i].1]) (a.sub b)
 have w:(2+t.Ap) * v.f[i].2.size <=(2+s.Ap) * v.f[i].2.size :=aX (by omega) (bN _)
 exact⟨d _ (aK c) (by omega) t (a.sub b) (by omega) _ out e (by simp;omega) (by omega),by omega⟩
theorem Ahw (s t:Sch)(v:Val)(p:List Stp)(j:v.Ap<=1048576)(m:s.Ap<=1048576)(d:s.it= [t])(b:SB s)(hp: ∀s∈p,s.fits)(o:p.length+v.Ap<=1073741824)
  (q: ∀x∈v.f,PgE x.2): ∀ (n i:Nat) (out:List IV),i+n=v.f.length->out.length+(2+s.Ap) * B6 (v.f.drop i)<=4398046511103->
  W F87 1 [.list (p.map Stp.enc),.list (v.f.map bD),.int v.f.length,.int i,s.enc,.list out]=some [.list (out++Lg (v.f.drop i) s p)]
 | 0,i,out,h,e=>by
  have g: ¬ i<v.f.length:=by omega
  rw[Aw4,aH (by omega),Kd]
  simp only[bA,Al,g,Ze,aA,aR,aB,Zf,bF]
 | n+1,i,out,h,e=>by
  have c:i<v.f.length:=by omega
  have A:=v.Bc
  have u:=Bf (i:=i) (by omega)
  have hd:=aG c
  rw[hd]at e ⊢
  rw[Ja]
  simp only[B6,cI]at e
  have a:D5 s v.f[i].1 =some t:=by unfold D5;rw[d]
  have key: ∀es:List IV,es.length<=(2+s.Ap) * v.f[i].2.size ->W F87 2 [.list (p.map Stp.enc),.list (v.f.map bD),.int v.f.length,.int i,s.enc,.list (out++es)]=some [.list (out++(es++Lg (v.f.drop (i+1)) s p))]:=by
   intro es w
   have y:=Ahw s t v p j m d b hp o q n (i+1) (out++es) (by omega) (by rw[aO];omega)
   rw[A8w]
   simp only[bR,u,aA,y,bK]
  obtain⟨g,z⟩:=A5t s v p j m b hp o q i c out (by omega) t a
  rw[Aw4]
  unfold Ag2
  rw[a]
  simp only[bA,Al,c,Zd,aA,aR,Zt,cD,aF,aE,aJ,aC c,aI,iC,eC,eA,d,bJ,bO,cO,cC,bL,dI,dE,Vv,bE,Aet p (Cv v.f[i].1) (by omega),g]
  by_cases r:v.f[i].2.k =0
  ·simp only[r,Zd,aV,aB,Zf,Zt]
   have:=key [] (by simp)
   simpa using this
  ·simp only[r,Ze,bG,Zt,Zf]
   exact key _ z
theorem Anu (s:Sch)(v:Val)(p:List Stp)(o:v.Ap<=1048576)(q:s.Ap<=1048576)(c:s.k=5)(b:s.it= [])(e:SB s)(hp: ∀s∈p,s.fits)(r:p.length+v.Ap<=1073741824)
  (w: ∀x∈v.f,PgE x.2): ∀ (n i:Nat) (out:List IV),i+n=v.f.length->out.length+s.f.length+(2+s.Ap) * B6 (v.f.drop i)<=4398046511103->
  W Bf7 1 [.list (p.map Stp.enc),.list (v.f.map bD),.int v.f.length,.int i,s.enc,v.enc,.list out]=some [.list (out++Lg (v.f.drop i) s p++s.f.flatMap (Km v p))]
 | 0,i,out,h,t=>by
  have u: ¬ i<v.f.length:=by omega
  have y:=Acu s v p o q hp r s.f.length 0 out (by omega) (by omega)
  simp only[aN,aP]at y
  rw[Aol,aH (by omega),Kd]
  simp only[bA,Al,u,Ze,aA,aR,aB,Zf,dJ,bY,aD,y,bF]
 | n+1,i,out,h,t=>by
  have g:i<v.f.length:=by omega
  have I:=v.Bc
  have A:=Bf (i:=i) (by omega)
  have J:=dZ (aK g)
  have hd:=aG g
  rw[hd]at t ⊢
  rw[Ja]
  simp only[B6,cI]at t
  have j:=v.f[i].2.size_pos
  have m:1<=(2+s.Ap) * v.f[i].2.size :=by
   have:1 * 1<=(2+s.Ap) * v.f[i].2.size :=aX (by omega) j
   omega
  have B:=Iq hp (I7 v.f[i].1 (by omega))
  have a:D5 s v.f[i].1 =(s.fld v.f[i].1).map (·.s):=by unfold D5;rw[b]
  have key: ∀es:List IV,es.length<=(2+s.Ap) * v.f[i].2.size ->W Bf7 2 [.list (p.map Stp.enc),.list (v.f.map bD),.int v.f.length,.int i,s.enc,v.enc,.list (out++es)]=some [.list (out++(es++Lg (v.f.drop (i+1)) s p)++s.f.flatMap (Km v p))]:=by
   intro es C
   have F:=Anu s v p o q c b e hp r w n (i+1) (out++es) (by omega) (by rw[aO];omega)
   rw[A1s]
   simp only[bR,A,aA,F,bK]
  rw[Aol]
  unfold Ag2
  simp only[bA,Al,g,Zd,aA,aR,Zt,cD,aF,aE,aJ,aC g,aI,dE,Vv,bE,Aet p (Cv v.f[i].1) (by omega),Acz s v.f[i].1 (by omega),fI,c,b,bB,and_self,Zd,bP,cX,iC,eC,dI,fX]
  rw[a]
  cases G:s.fld v.f[i].1 with
  | none=>
   simp only[dK,bG,Zt,Am4 out _ 1 B (show(p++ [Cv v.f[i].1]).length <=1099511627776 by simp;omega) (by omega),bE,gK]
   exact key _ (by simpa using m)
  | some d=>
   simp only[cK,aV,aB,Zf,aI,bZ]
   by_cases z:v.f[i].2.k =0
   ·simp only[z,Zd,aV,aB,Zf,Zt]
    have:=key [] (by simp)
    simpa using this
   ·obtain⟨u,H⟩:=A5t s v p o q e hp r w i g out (by omega) d.s (by rw[a,G];rfl)
    simp only[z,Ze,bG,Zt,Zf,u,bE]
    exact key _ H
theorem A2m: ∀v:Val,PgE v:=by
 refine eD λv u j w s a x p out hp y S=>?_
 have m:=v.size_pos
 have F:1<=(2+s.Ap) * v.size:=by
  have:1 * 1<=(2+s.Ap) * v.size:=aX (by omega) m
  omega
 have q: ∀c,W F88 0 [.list out,.list (p.map Stp.enc),.int c]=some [.list (out++ [I0 p c])]:=λc=>Am4 out p c hp (by omega) (by omega)
 have J:=v.size_eq
 have K:=s.Bc
 have hle:=s.J8
 rw[A8j,Js]
 simp only[dP,gD,aA,eC,aR,q,bE]
 by_cases G:v.k=s.k
 ·simp only[G,Zd,aV,aB,Zf,Zt,aW,aA,aR]
  by_cases k2:s.k=2
  ·simp only[k2,Zd,Zt,gL,dL,dM,bA,cR,aA,aR,Aw,Am,Zl]
   by_cases h:v.n<s.mn<;>by_cases i:s.mx<v.n<;>simp[h,i]
  ·by_cases H:s.k=3
   ·simp only[H,show ¬ (3:Int)=2 by omega,Ze,aB,Zf,Zd,Zt,gC,dL,dM,dU,bY,aD,cW,bA,cR,aA,aR,Aw,Am,Mx s.en v.s (by omega),bE,cX]
    have e:decide ((0:Int)<(s.en.length:Int))=decide (0<s.en.length):=by simp
    rw[e]
    by_cases h:(v.s.size:Int)<s.mn<;>by_cases i:s.mx<(v.s.size:Int)<;>by_cases L:0<s.en.length<;>cases(s.en.any λe=>decide (e=v.s))<;>simp[h,i,L]
   ·by_cases z:s.k=4
    ·obtain⟨t,I⟩:=bV.1 (a.list z)
     have g:(2+s.Ap) * (1+Cp v.l)<=(2+s.Ap) * v.size:=aX (bN _) (by omega)
     rw[cI]at g
     have M:=Va p s v.l.length
     have d:=Afv s t v p w x I a hp y u v.l.length 0 (out++Zl p s v.l.length) [] (by omega) (by simp only[aP,aO];omega) (λk=>rfl)
     simp only[aN,aP,fJ]at d
     have A:W Bf6 0 [.list out,s.enc,v.enc,.list (p.map Stp.enc)]=some [.list (out++(Zl p s v.l.length++Lc v.l s.key t p []))]:=by
      have N: ∀o:List IV,o=out++Zl p s v.l.length->W Bf6 1 [.list (p.map Stp.enc),s.enc,v.enc,.list o]=some [.list (out++(Zl p s v.l.length++Lc v.l s.key t p []))]:=by
       intro o Q
       rw[A5j,Q]
       simp only[cQ,bY,aD,aA]
       rw[<-bK]
       exact d
      rw[A3c]
      simp only[cQ,dL,dM,bY,aD,bA,cR,aA,aR,Aw,Am,q,bE]
      by_cases h:(v.l.length:Int)<s.mn<;>by_cases i:s.mx<(v.l.length:Int)<;>simp only[h,i,Zd,Ze,Zt,Zf,aB]<;>exact N _ (by simp[Zl,h,i])
     simp only[z,show ¬ (4:Int)=2 by omega,show ¬ (4:Int)=3 by omega,Ze,aB,Zf,Zd,Zt,A,bE,I,eY]
    ·by_cases B:s.k=5
     ·have g:(2+s.Ap) * (1+B6 v.f)<=(2+s.Ap) * v.size:=aX (bN _) (by omega)
      rw[cI]at g
      simp only[B,show ¬ (5:Int)=2 by omega,show ¬ (5:Int)=3 by omega,show ¬ (5:Int)=4 by omega,Ze,aB,Zf,Zd,Zt,Ak4,bE,bP,aR]
      cases b:s.it with
      | nil=>
       have d:=Anu s v p w x B b a hp y j v.f.length 0 out (by omega) (by simp only[aP];omega)
       simp only[aN,aP]at d
       have A:W Bf7 0 [.list out,s.enc,v.enc,.list (p.map Stp.enc)]=some [.list (out++(Lg v.f s p++s.f.flatMap (Km v p)))]:=by
        rw[A0i,<-bK]
        simp only[cL,bY,aD,aA]
        exact d
       simp only[bB,Nat.lt_irrefl,Ze,aB,Zf,A,bE]
      | cons t r=>
       have R:r= []:=by have:=a.one;rw[b]at this;simpa using this
       subst R
       have C:=a.nof (by rw[b];simp)
       have d:=Ahw s t v p w x b a hp y j v.f.length 0 out (by omega) (by simp only[aP];omega)
       simp only[aN,aP]at d
       simp only[aY,Nat.zero_lt_succ,Zd,Zt,cL,bY,aD,aA,C,cT,bF]
       exact d
     ·simp only[k2,H,z,B,Ze,aB,Zf,Ak4,bE,cU,aR,bF]
 ·simp only[G,Ze,bG,Zt,Zf]
theorem Agy (v:Val)(b:v.Ap<=1048576)(s:Sch)(a:SB s)(c:s.Ap<=1048576):W F86 0 [s.enc,v.enc]=some [.list (Ji v s [])]:=by
 have d:=v.G7
 have hmul:(2+s.Ap) * v.size<=1048578 * 1048576:=aX (by omega) (by omega)
 have h:=A2m v b s a c [] [] (by simp) (by simp;omega) (by simp;omega)
 simp only[bO,bQ]at h
 rw[A9l]
 simp only[h,bE]
end Go.CT.Sch
namespace Go.CT.Sch
open Go.Proofs
def Jl (o:Option ByteArray)(x:ByteArray):Bool:=match o with | none=>true | some q=>blt q x
def Ay9 (mn mx:Int):Option ByteArray->List ByteArray->Bool
 | _,[]=>true
 | o,x::r=>Jj x&&decide (mn<=x.size)&&decide ((x.size:Int)<=mx)&&Jl o x&&Ay9 mn mx (some x) r
def Bcl (x:SFld):Bool:=x.df.all λv=> !decide (v.k=0)&&v.valid&&decide ((Ji v x.s []).length =0)
def fOk (g:Sch->Bool):Option ByteArray->List SFld->Bool
 | _,[]=>true
 | o,x::r=>C4 x.nm&&Jl o x.nm&&g x.s&&decide (x.df.length<=1)&&Bcl x&&fOk g (some x.nm) r
def H8 (s:Sch):Bool:=decide (s.key=An)&&decide (s.it.length=0)&&decide (s.f.length=0)
def Arf (s:Sch)(m:Int):Bool:=decide (0<=s.mn)&&decide (s.mn<=s.mx)&&decide (s.mx<=m)
def Vw (s:Sch):Bool:=decide (s.key=An)||(match s.it with | t::_=>decide (t.k=5)&&(t.fld s.key).isSome &&((t.fld s.key).getD Qf).rq &&decide (((t.fld s.key).getD Qf).s.k =3) | []=>false)
def Ce:Nat->Sch->Bool
 | 0,_=>false
 | d+1,s=>
  if s.k=1 then H8 s&&decide (s.mn=0)&&decide (s.mx=0)&&decide (s.en.length=0)
  else if s.k=2 then H8 s&&decide (-1000000000000000<=s.mn)&&decide (s.mn<=s.mx)&&decide (s.mx<=1000000000000000)&&decide (s.en.length=0)
  else if s.k=3 then H8 s&&Arf s 200&&Ay9 s.mn s.mx none s.en&&decide (s.en.length<=64)
  else if s.k=4 then Arf s 64&&decide (s.en.length=0)&&decide (s.f.length=0)&&decide (s.it.length=1)&&Vw s&&s.it.all (Ce d)
  else if s.k=5 then decide (s.mn=0)&&decide (s.mx=0)&&decide (s.en.length=0)&&decide (s.key=An)&&decide (s.it.length<=1)&&(decide (s.it.length=0)||decide (s.f.length=0))&&decide (s.f.length<=64)&&s.it.all (Ce d)&&fOk (Ce d) none s.f
  else false
def valid (s:Sch):Bool:=Ce 12 s
theorem Akt {g:Sch->Bool} : ∀ {l:List SFld} {o:Option ByteArray},fOk g o l=true-> ∀x∈l,C4 x.nm=true/\g x.s=true/\x.df.length<=1/\Bcl x=true
 | [],_,_,x,a=>by simp at a
 | y::r,o,h,x,a=>by
  simp only[fOk,aL,decide_eq_true_eq]at h
  rcases bM.1 a with rfl | a
  ·exact⟨h.1.1.1.1.1,h.1.1.1.2,h.1.1.2,h.1.2⟩
  ·exact Akt h.2 x a
theorem G4: ∀ (d:Nat) (s:Sch),Ce d s=true->SB s
 | 0,s,h=>by simp[Ce]at h
 | d+1,s,h=>by
  have leaf:s.k≠4->H8 s=true->SB s:=λg h=>by
   simp only[H8,aL,decide_eq_true_eq]at h
   have a:s.it= []:=aU.1 h.1.2
   have b:s.f= []:=aU.1 h.2
   exact .mk s (by omega) (λe=>absurd a e) (λe=>absurd e g) (by simp[a]) (by simp[b])
  unfold Ce at h
  split at h
  ·simp only[aL]at h;exact leaf (by omega) h.1.1.1
  ·split at h
   ·simp only[aL]at h;exact leaf (by omega) h.1.1.1.1
   ·split at h
    ·simp only[aL]at h;exact leaf (by omega) h.1.1.1
    ·split at h
     ·simp only[aL,decide_eq_true_eq,bH]at h
      have b:s.f= []:=aU.1 h.1.1.1.2
      exact .mk s (by omega) (λ_=>b) (λ_=>h.1.1.2) (λx c=>G4 d x (h.2 x c)) (by simp[b])
     ·split at h
      ·simp only[aL,decide_eq_true_eq,bH,eB]at h
       refine .mk s h.1.1.1.1.2 (λe=>?_) (λe=>by omega) (λx c=>G4 d x (h.1.2 x c)) (λp hp=>G4 d p.s (Akt h.2 p hp).2.1)
       rcases h.1.1.1.2 with a | a
       ·exact absurd (aU.1 a) e
       ·exact aU.1 a
      ·cases h
def P4 (l:List SFld):Nat->Option ByteArray
 | 0=>none
 | i+1=>(l[i]?).map (·.nm)
def R2 (l:List ByteArray):Nat->Option ByteArray
 | 0=>none
 | i+1=>l[i]?
theorem Ahr (s:Sch):W F8 0 [s.enc]=some [.bool (H8 s)]:=by
 rw[Bc7]
 simp only[eJ,eA,dJ,bY,aD,aA,gA,aW,aR,Aw,Am,Dj]
 congr 3
 unfold H8
 rw[aS]
 simp[and_assoc]
theorem Aaa (s:Sch)(m:s.Ap<=1048576): ∀ (n i:Nat),i+n=s.en.length->
  W F9 1 [.int i,s.enc]=some [.bool (Ay9 s.mn s.mx (R2 s.en i) (s.en.drop i)&&(H8 s&&Arf s 200&&decide (s.en.length<=64)))]
 | 0,i,h=>by
  have o: ¬ i<s.en.length:=by omega
  rw[A7b,aH (by omega)]
  simp only[dU,bY,aD,aA,bA,Al,o,Ze,aR,aB,Zf,Ahr,bE,dL,dM,eZ,eP,Aw,Am]
  congr 3
  unfold Arf Ay9
  rw[aS]
  simp[and_assoc]
  omega
 | n+1,i,h=>by
  have a:i<s.en.length:=by omega
  have t:=s.J8
  have q:=Bf (i:=i) (by omega)
  have j:=Aaa s m n (i+1) (by omega)
  have u:=Sch.At1 (aK a)
  have c:R2 s.en (i+1)=some s.en[i]:=by simp[R2,a]
  rw[c]at j
  rw[A7b,aG a]
  simp only[Ay9,dU,bY,aD,aA,bA,Al,a,Zd,aR,Zt,cD,aF,aE,aJ,aC a,aI,cW,Ayk s.en[i] (by omega),bE,cX,dL,dM,cR,bR,q,j]
  generalize (H8 s&&Arf s 200&&decide (s.en.length<=64))=R
  cases i with
  | zero=>
   simp only[R2,Jl]
   by_cases d:s.mn<=(s.en[0].size :Int)<;>by_cases e:(s.en[0].size :Int)<=s.mx<;>cases Jj s.en[0]<;>simp[d,e,gO.2,gP.1]
  | succ i=>
   have b:i<s.en.length:=by omega
   have g:IntKind.i64.wrap (((i+1:Nat):Int) - 1)=i:=by rw[wrap64 (by omega) (by omega)];omega
   have hp:(0:Int)<((i+1:Nat):Int):=by omega
   simp only[R2,aC b,Jl,fA,g,hp,Zd,Zt,aF,aE,aI,aA,Ada]
   by_cases d:s.mn<=(s.en[i+1].size :Int)<;>by_cases e:(s.en[i+1].size :Int)<=s.mx<;>cases Jj s.en[i+1]<;>cases r:blt s.en[i] s.en[i+1]<;>simp[d,e,gO.2,gP.1,aC b,Ada,r, -O.Asx]
theorem Uh (d:Nat)(s:Sch)(hd:d<=12)(N:s.Ap<=1048576)(M: ∀p∈s.f,W F7 0 [p.s.enc,.int d]=some [.bool (Ce d p.s)]): ∀ (n i:Nat),i+n=s.f.length->
  W F13 1 [.int ((d+1:Nat):Int),.int i,s.enc]=some [.bool (fOk (Ce d) (P4 s.f i) (s.f.drop i))]
 | 0,i,h=>by
  have q: ¬ i<s.f.length:=by omega
  rw[Auf,aH (by omega)]
  simp only[dJ,bY,aD,aA,bA,Al,q,Ze,aR,aB,Zf,fOk]
 | n+1,i,h=>by
  have e:i<s.f.length:=by omega
  have X:=s.Bc
  have Q:=Bf (i:=i) (by omega)
  have r:IntKind.i64.wrap (((d+1:Nat):Int) - 1)=(d:Int):=by rw[wrap64 (by omega) (by omega)];omega
  have Y:=fP (aK e)
  have c:=Uh d s hd N M n (i+1) (by omega)
  have t:P4 s.f (i+1)=some s.f[i].nm :=by simp[P4,e]
  rw[t]at c
  have R:=M _ (aK e)
  -- the order
  have g: ∀ (K:IV->Option IV),((O.gt (.int i) (.int 0)).bind λu=>
    (cnd u (
      (O.sub .i64 (.int i) (.int 1)).bind λw=>
      (eO (.list (s.f.map cP)) w).bind λx=>
      (dF 0 x).bind λy=>
      (O.sLe (.str s.f[i].nm) y).bind λz=>
      some z) (some (.bool false))).bind K)=K (.bool (!Jl (P4 s.f i) s.f[i].nm)):=by
   intro K
   cases i with
   | zero=>simp[P4,Jl]
   | succ j=>
    have S:j<s.f.length:=by omega
    have A:IntKind.i64.wrap (((j+1:Nat):Int) - 1)=j:=by rw[wrap64 (by omega) (by omega)];omega
    have hp:(0:Int)<((j+1:Nat):Int):=by omega
    simp only[P4,aC S,aI,Jl,cR,hp,Zd,aA,aR,Zt,fA,A,cD,aF,aE,aJ,eE,Ada]
  have B:eO (.list (s.f.map cP)) (.int i)=some s.f[i].enc :=by
   simp only[cD,aF,Zt,aE,aJ,aC e,aI]
  rw[Auf,aG e]
  simp only[dJ,bY,aD,aA,bA,Al,e,Zd,aR,Zt,B,eE,fOk,Amx s.f[i].nm (by omega),bE,cX]
  simp only[g]
  simp only[eE,SFld.Cd,fX,bE,cX,aR,fA,r,R,bR,Q,c,bY,aD,cR,aW,aA]
  cases C4 s.f[i].nm with
  | false=>simp
  | true=>
   cases Jl (P4 s.f i) s.f[i].nm with
   | false=>simp
   | true=>
    cases C:Ce d s.f[i].s with
    | false=>simp
    | true=>
     by_cases hlen:s.f[i].df.length <=1
     ·have a: ¬ (1:Int)<s.f[i].df.length :=by omega
      have F:=G4 d _ C
      unfold Bcl
      by_cases q:s.f[i].df.length =1
      ·obtain⟨v,m⟩:=bV.1 q
       have T:=Sch.A6b (aK e) (show v∈s.f[i].df by rw[m];simp)
       have G:=Ap2 v (by omega) s.f[i].s F (by omega) [] (by simp) (by simp;omega)
       simp only[bO]at G
       have H:=Za v (by omega)
       rw[m]
       by_cases o:v.k=0
       ·simp[o]
       ·cases b:v.valid with
        | false=>simp[o,H,b]
        | true=>
         by_cases I:(Ji v s.f[i].s []).length =0
         ·simp[o,H,b,G,aU.1 I]
         ·have J:0<(Ji v s.f[i].s []).length :=fQ I
          have L: ¬ Ji v s.f[i].s []= []:=λh=>I (by rw[h];rfl)
          simp[o,H,b,G,J,L]
      ·have U:s.f[i].df = []:=aU.1 (by omega)
       simp[U]
     ·have a:(1:Int)<s.f[i].df.length :=by omega
      simp[a,hlen]
theorem egL (mn mx:Int)(a b c:Nat):(if(if(if(if(if decide (mn<0)=true then true else decide (mx<mn))=true then true else decide ((64:Int)<mx))=true then true else decide ((0:Int)<(a:Int)))=true then true else decide ((0:Int)<(b:Int)))=true then true else !decide ((c:Int)=1))= !(decide (0<=mn)&&decide (mn<=mx)&&decide (mx<=64)&&decide (a=0)&&decide (b=0)&&decide (c=1)):=by
 rw[aS];simp;omega
theorem egS (mn mx:Int)(a b c:Nat)(k:Bool):(if(if(if(if(if(if(!decide (mn=0))=true then true else !decide (mx=0))=true then true else decide ((0:Int)<(a:Int)))=true then true else !k)=true then true else decide ((1:Int)<(b:Int)))=true then true else if decide ((b:Int)=1)=true then decide ((0:Int)<(c:Int)) else false)=true then true else decide ((64:Int)<(c:Int)))
  = !(decide (mn=0)&&decide (mx=0)&&decide (a=0)&&k&&decide (b<=1)&&(decide (b=0)||decide (c=0))&&decide (c<=64)):=by
 cases k
 ·simp
 ·rw[aS];simp;omega
theorem T0: ∀ (d:Nat) (s:Sch),d<=12->s.Ap<=1048576->W F7 0 [s.enc,.int d]=some [.bool (Ce d s)]
 | 0,s,hd,o=>by rw[A7h];simp[Ce]
 | d+1,s,hd,o=>by
  have q: ¬ ((d+1:Nat):Int)=0:=by omega
  have r:IntKind.i64.wrap (((d+1:Nat):Int) - 1)=(d:Int):=by rw[wrap64 (by omega) (by omega)];omega
  have g: ∀t∈s.it,W F7 0 [t.enc,.int d]=some [.bool (Ce d t)]:=λt b=>T0 d t (by omega) (by have:=fK b;omega)
  have u: ∀p∈s.f,W F7 0 [p.s.enc,.int d]=some [.bool (Ce d p.s)]:=λp hp=>T0 d p.s (by omega) (by have:=fP hp;omega)
  rw[A7h]
  unfold Ce
  simp only[aW,q,Ze,aA,aR,aB,Zf,gD,dL,dM,dU,Ahr,bE,eP,bY,aD]
  by_cases k1:s.k=1
  ·simp only[k1,Zd,Zt,aA,aR,Aw,Am]
   congr 3
   rw[aS];simp[and_assoc]
  ·by_cases k2:s.k=2
   ·simp only[k2,show ¬ (2:Int)=1 by omega,Zd,Ze,aB,Zf,Zt,aA,aR,Aw,Am]
    congr 3
    rw[aS];simp[and_assoc]
   ·by_cases z:s.k=3
    ·have b:=Aaa s o s.en.length 0 (by omega)
     simp only[aN,aP,R2]at b
     simp only[z,show ¬ (3:Int)=1 by omega,show ¬ (3:Int)=2 by omega,Zd,Ze,aB,Zf,Zt,Bd8,b,bE]
     congr 3
     generalize Ay9 s.mn s.mx none s.en=a
     cases a<;>cases H8 s<;>cases Arf s 200<;>simp
    ·by_cases A:s.k=4
     ·have w:W F11 0 [s.enc,.int ((d+1:Nat):Int)]=some [.bool (Arf s 64&&decide (s.en.length=0)&&decide (s.f.length=0)&&decide (s.it.length=1)&&Vw s&&s.it.all (Ce d))]:=by
       rw[A70]
       simp only[dL,dM,dU,eA,dJ,bY,aD,aA,bA,cR,eC,aR,Aw,Am]
       have eg:(if(if(if(if(if decide (s.mn<0)=true then true else decide (s.mx<s.mn))=true then true else decide ((64:Int)<s.mx))=true then true else decide ((0:Int)<(s.en.length:Int)))=true then true else decide ((0:Int)<(s.f.length:Int)))=true then true else !decide ((s.it.length:Int)=1))= !(Arf s 64&&decide (s.en.length=0)&&decide (s.f.length=0)&&decide (s.it.length=1)):=by
        exact egL s.mn s.mx s.en.length s.f.length s.it.length
       rw[eg]
       cases i:(Arf s 64&&decide (s.en.length=0)&&decide (s.f.length=0)&&decide (s.it.length=1)) with
       | false=>simp
       | true=>
        simp only[aL,decide_eq_true_eq]at i
        obtain⟨t,b⟩:=bV.1 i.2
        have j:t∈s.it:=by rw[b];simp
        have C:=fK j
        have x:W F11 1 [.int ((d+1:Nat):Int),s.enc]=some [.bool (Ce d t)]:=by
         rw[Baj]
         simp only[eA,b,bJ,bO,aA,cD,cO,Zt,cC,bL,fA,r,g t j,bE]
        have y:=Y7 t s.key (by omega)
        simp only[aV,aB,Zf,eJ,aA,gZ,aR,x,b,bJ,bO,cD,cO,Zt,cC,bL,y,fI,gD,gU,SFld.Ck,eC,cX,Aw,Am,bU,cG,cJ,bP,Vw,Dj]
        by_cases c:s.key=An
        ·simp[c]
        ·by_cases F:t.k=5<;>by_cases G:((t.fld s.key).getD Qf).s.k =3<;>cases(t.fld s.key).isSome<;>cases((t.fld s.key).getD Qf).rq<;>simp[c,F,G]
      simp only[A,show ¬ (4:Int)=1 by omega,show ¬ (4:Int)=2 by omega,show ¬ (4:Int)=3 by omega,Zd,Ze,aB,Zf,Zt,w,bE]
     ·by_cases B:s.k=5
      ·have e:=Uh d s (by omega) o u s.f.length 0 (by omega)
       simp only[aN,aP,P4]at e
       have w:W F13 0 [s.enc,.int ((d+1:Nat):Int)]=some [.bool (decide (s.mn=0)&&decide (s.mx=0)&&decide (s.en.length=0)&&decide (s.key=An)&&decide (s.it.length<=1)&&(decide (s.it.length=0)||decide (s.f.length=0))&&decide (s.f.length<=64)&&s.it.all (Ce d)&&fOk (Ce d) none s.f)]:=by
        rw[A8p]
        simp only[dL,dM,dU,eJ,eA,dJ,bY,aD,aA,gZ,cR,aW,eC,aR,Aw,Am,Dj]
        have eg:(if(if(if(if(if(if(!decide (s.mn=0))=true then true else !decide (s.mx=0))=true then true else decide ((0:Int)<(s.en.length:Int)))=true then true else !decide (s.key=An))=true then true else decide ((1:Int)<(s.it.length:Int)))=true then true else if decide ((s.it.length:Int)=1)=true then decide ((0:Int)<(s.f.length:Int)) else false)=true then true else decide ((64:Int)<(s.f.length:Int)))
          = !(decide (s.mn=0)&&decide (s.mx=0)&&decide (s.en.length=0)&&decide (s.key=An)&&decide (s.it.length<=1)&&(decide (s.it.length=0)||decide (s.f.length=0))&&decide (s.f.length<=64)):=by
         exact egS s.mn s.mx s.en.length s.it.length s.f.length _
        rw[eg]
        cases i:(decide (s.mn=0)&&decide (s.mx=0)&&decide (s.en.length=0)&&decide (s.key=An)&&decide (s.it.length<=1)&&(decide (s.it.length=0)||decide (s.f.length=0))&&decide (s.f.length<=64)) with
        | false=>simp
        | true=>
         simp only[aL,eB,decide_eq_true_eq]at i
         by_cases H:s.it.length=1
         ·obtain⟨t,b⟩:=bV.1 H
          have I:s.f= []:=by
           rcases i.1.2 with h | h
           ·omega
           ·exact aU.1 h
          have J:=g t (by rw[b];simp)
          have m:IntKind.i64.wrap (d:Int)=(d:Int):=wrap64 (by omega) (by omega)
          simp[b,I,m,J,fOk]
         ·have K:s.it= []:=aU.1 (by omega)
          push_cast at e
          simp[K,e]
       simp only[B,show ¬ (5:Int)=1 by omega,show ¬ (5:Int)=2 by omega,show ¬ (5:Int)=3 by omega,show ¬ (5:Int)=4 by omega,Zd,Ze,aB,Zf,Zt,w,bE]
      ·simp only[k1,k2,z,A,B,Ze,aB,Zf]
theorem Tu (s:Sch)(a:s.Ap<=1048576):W F6 0 [s.enc]=some [.bool s.valid]:=by
 rw[Bc0]
 have:W F7 0 [s.enc,.int 12]=some [.bool s.valid]:=T0 12 s (by omega) a
 simp only[this,bE]
end Go.CT.Sch
namespace Go.CT.Sch
open Go.Proofs
theorem Ali (nm:ByteArray):(A45 [(nm,Ar)]).valid =C4 nm:=by
 have a:Zi [(nm,Ar)]= [(nm,Ar)]:=Axw (cV _ _)
 unfold A45
 rw[a]
 unfold fL
 have b:B9 11 Ar=true:=by decide
 simp only[B9,Val.Bga,Val.n_mk,iG,Val.Zj,iH,Hf,bU,cG,b,rising,Val.size,Cp,B6,Ar]
 simp
theorem Az7 (nm:ByteArray)(t:nm.size<=1048576)(K:IV->Option (List IV)):(O.Rf [.str nm,(.int 0),(.int 0),(.str ⟨#[]⟩),(.list []),(.list [])]).bind (λo=>
  (O.Nx [o]).bind λq=>
  calls (W F72 0 [q]) 5 λb c d g h=>
  (O.Rf [b,c,d,g,h]).bind λi=>
  calls (W F57 0 [i]) 1 K)=K (.bool (C4 nm)):=by
 have e:IV.agg [.str nm,(.int 0),(.int 0),(.str ⟨#[]⟩),(.list []),(.list [])]=bD (nm,Ar):=rfl
 have a:Ci [(nm,Ar)]<=4294967200:=by
  rw[B7,Ch,hZ]
  simp only[Ar,iG,Val.Zj,iH,Ed,Ch,show An.size=0 from rfl];omega
 have j:=Aum [(nm,Ar)] a
 have r:(A45 [(nm,Ar)]).Ap <=1099511627776:=by have:=Axn [(nm,Ar)];omega
 have m:=It _ r
 rw[Ali]at m
 rw[eG]at j
 simp only[bJ,bO]at j
 simp only[eU,gB,aA,e,j,gR,iB,m,bE]
theorem Arn (s:Sch)(m:Int):W F54 0 [s.enc,.int m]=some [.bool (Arf s m)]:=by
 rw[A9p]
 simp only[dL,dM,eP,aA,aR,Aw,Am]
 congr 3
 unfold Arf
 rw[aS];simp[and_assoc]
theorem Ahx (s:Sch)(x:s.Ap<=1048576): ∀ (n i:Nat),i+n=s.en.length->
  W F55 1 [.list (s.en.map .str),.int s.en.length,.int i,s.enc]=some [.bool (Ay9 s.mn s.mx (R2 s.en i) (s.en.drop i)&&decide (s.en.length<=64))]
 | 0,i,h=>by
  have y: ¬ i<s.en.length:=by omega
  rw[Att,aH (by omega)]
  simp only[dU,bY,aD,aA,bA,Al,y,Ze,aR,aB,Zf,eP,Ay9,bP]
  congr 3
  rw[aS];simp;omega
 | n+1,i,h=>by
  have a:i<s.en.length:=by omega
  have F:=s.J8
  have z:=Bf (i:=i) (by omega)
  have u:=Ahx s x n (i+1) (by omega)
  have G:=Sch.At1 (aK a)
  have c:R2 s.en (i+1)=some s.en[i]:=by simp[R2,a]
  rw[c]at u
  have e:IV.agg [.int 3,.int 0,.str s.en[i],.list [],.list []]=bT ⟨3,0,s.en[i],[],[]⟩:=rfl
  have w:=It ⟨3,0,s.en[i],[],[]⟩ (by rw[hZ];simp[Ed,Ch];omega)
  rw[Ahm]at w
  have d:eO (.list (s.en.map .str)) (.int i)=some (.str s.en[i]):=by
   simp only[cD,aF,Zt,aE,aJ,aC a,aI]
  have b: ∀ (K:IV->Option IV),((O.gt (.int i) (.int 0)).bind λg=>
    (cnd g (
     (dF 3 s.enc).bind λm=>
     (O.sub .i64 (.int i) (.int 1)).bind λo=>
     (eO m o).bind λq=>
     (O.sGe q (.str s.en[i])).bind λr=>
     some r) (some (.bool false))).bind K)=K (.bool (!Jl (R2 s.en i) s.en[i])):=by
   intro K
   cases i with
   | zero=>simp[R2,Jl]
   | succ j=>
    have A:j<s.en.length:=by omega
    have t:IntKind.i64.wrap (((j+1:Nat):Int) - 1)=j:=by rw[wrap64 (by omega) (by omega)];omega
    have hp:(0:Int)<((j+1:Nat):Int):=by omega
    simp only[dU,R2,aC A,aI,Jl,cR,hp,Zd,aA,aR,Zt,fA,t,cD,aF,aE,aJ,Ta]
  rw[Att,aG a]
  simp only[Ay9,aA,bA,Al,a,Zd,aR,Zt,d]
  simp only[b]
  simp only[cW,dL,dM,aA,bA,cR,aR,Ai4,gR,eU,e,w,bE,cX,bR,z,u]
  by_cases B:s.mn<=(s.en[i].size :Int)<;>by_cases C:(s.en[i].size :Int)<=s.mx<;>cases Jj s.en[i]<;>cases Jl (R2 s.en i) s.en[i]<;>simp[B,C,gO.2,gP.1]
theorem A92 (s:Sch)(a:s.Ap<=1048576):W F55 0 [s.enc]=some [.bool (Ay9 s.mn s.mx none s.en&&decide (s.en.length<=64))]:=by
 have h:=Ahx s a s.en.length 0 (by omega)
 simp only[aN,aP,R2]at h
 rw[Bbw]
 simp only[dU,bY,aD,aA]
 exact h
theorem A40 (s t:Sch)(q:s.Ap<=1048576)(m:s.it= [t])(a:SB t):W F63 0 [s.enc]=some [.bool (Vw s)]:=by
 have o:=fK (show t∈s.it by rw[m];simp)
 have b:=Acz t s.key (by omega)
 rw[Ba9]
 unfold Vw
 simp only[eA,m,bJ,bO,cD,cO,Zt,cC,bL,aA,eJ,b,fI,gA,aR,gU,SFld.Ck,aW,Aw,Am,Dj]
 congr 3
 by_cases c:s.key=An
 ·simp[c]
 ·by_cases d:t.k=5
  ·by_cases g:t.it.length=0
   ·cases(t.fld s.key).isSome<;>cases h:((t.fld s.key).getD Qf).rq<;>simp[c,d,g,h]
   ·have i:t.f= []:=a.nof λe=>g (by rw[e];rfl)
    have j:t.fld s.key=none:=by unfold Sch.fld;rw[i];rfl
    simp[c,d,g,j]
  ·simp[c,d]
theorem X5 (d:Nat)(s:Sch)(hd:d<=12)(t:s.Ap<=1048576)(i:Nat)(e:i<s.f.length)(a:SB s.f[i].s): ∀ (n j:Nat),j+n=s.f[i].df.length ->
  W F71 2 [.int d,.list (s.f.map cP),.int s.f.length,.int i,.list (s.f[i].df.map bT),.int s.f[i].df.length,.int j,s.enc,s.f[i].enc]
   =if((s.f[i].df.drop j).all λv=> !decide (v.k=0)&&v.valid&&decide ((Ji v s.f[i].s []).length =0))=true then W F71 1 [.int d,.list (s.f.map cP),.int s.f.length,.int ((i+1:Nat):Int),s.enc]else some [.bool false]
 | 0,j,h=>by
  have u: ¬ j<s.f[i].df.length :=by omega
  have w:=s.Bc
  have g:=Bf (i:=i) (by omega)
  rw[Au7,aH (by omega)]
  simp only[bA,Al,u,Ze,aA,aR,aB,Zf,bR,g,cG,Zt]
 | n+1,j,h=>by
  have b:j<s.f[i].df.length :=by omega
  have w:=fP (aK e)
  have B:=Gg (fM (f:=bT) (aK b))
  have x:=Sch.A6b (aK e) (aK b)
  have hlen:s.f[i].df.length <=Dp s.f[i].df :=by have:=Dx (s.f[i].df.map bT);rw[aD]at this;exact this
  have g:=Bf (i:=j) (by omega)
  have y:=X5 d s hd t i e a n (j+1) (by omega)
  have z:=It s.f[i].df[j] (by omega)
  have A:=Agy s.f[i].df[j] (by omega) s.f[i].s a (by omega)
  rw[Au7,aG b,bU]
  simp only[bA,Al,b,Zd,aA,aR,Zt,cD,aF,aE,aJ,aC b,aI,dP,aW,z,bE,cX,fX,A,bY,cR,bR,g,y]
  by_cases c:s.f[i].df[j].k =0
  ·simp[c]
  ·cases r:s.f[i].df[j].valid with
   | false=>simp[c]
   | true=>
    by_cases m:(Ji s.f[i].df[j] s.f[i].s []).length =0
    ·simp[c,aU.1 m]
    ·have o:0<(Ji s.f[i].df[j] s.f[i].s []).length :=fQ m
     have q: ¬ Ji s.f[i].df[j] s.f[i].s []= []:=λh=>m (by rw[h];rfl)
     simp[c,o,q]
theorem Yy (d:Nat)(s:Sch)(hd:d<=12)(z:s.Ap<=1048576)(A: ∀p∈s.f,W F53 0 [p.s.enc,.int d]=some [.bool (Ce d p.s)]): ∀ (n i:Nat),i+n=s.f.length->
  W F71 1 [.int d,.list (s.f.map cP),.int s.f.length,.int i,s.enc]=some [.bool (fOk (Ce d) (P4 s.f i) (s.f.drop i))]
 | 0,i,h=>by
  have C: ¬ i<s.f.length:=by omega
  rw[Au2,aH (by omega)]
  simp only[bA,Al,C,Ze,aA,aR,aB,Zf,fOk]
 | n+1,i,h=>by
  have c:i<s.f.length:=by omega
  have H:=s.Bc
  have I:=fP (aK c)
  have b:=Yy d s hd z A n (i+1) (by omega)
  have g:P4 s.f (i+1)=some s.f[i].nm :=by simp[P4,c]
  rw[g]at b
  have F:=A _ (aK c)
  have m:eO (.list (s.f.map cP)) (.int i)=some s.f[i].enc :=by
   simp only[cD,aF,Zt,aE,aJ,aC c,aI]
  have e: ∀ (K:IV->Option IV),((O.gt (.int i) (.int 0)).bind λo=>
    (cnd o (
      (dF 6 s.enc).bind λq=>
      (O.sub .i64 (.int i) (.int 1)).bind λr=>
      (eO q r).bind λt=>
      (dF 0 t).bind λu=>
      (O.sGe u (.str s.f[i].nm)).bind λw=>
      some w) (some (.bool false))).bind K)=K (.bool (!Jl (P4 s.f i) s.f[i].nm)):=by
   intro K
   cases i with
   | zero=>simp[P4,Jl]
   | succ j=>
    have G:j<s.f.length:=by omega
    have x:IntKind.i64.wrap (((j+1:Nat):Int) - 1)=j:=by rw[wrap64 (by omega) (by omega)];omega
    have hp:(0:Int)<((j+1:Nat):Int):=by omega
    simp only[dJ,P4,aC G,aI,Jl,cR,hp,Zd,aA,aR,Zt,fA,x,cD,aF,aE,aJ,eE,Ta]
  rw[Au2,aG c]
  simp only[bA,Al,c,Zd,aA,aR,Zt,m,eE,fOk]
  rw[Az7 s.f[i].nm (by omega)]
  simp only[cX,aA]
  simp only[e]
  simp only[SFld.Cd,fX,bE,cX,aR,F,bY,aD,cR,aA]
  cases C4 s.f[i].nm with
  | false=>simp
  | true=>
   cases Jl (P4 s.f i) s.f[i].nm with
   | false=>simp
   | true=>
    cases y:Ce d s.f[i].s with
    | false=>simp
    | true=>
     by_cases hlen:s.f[i].df.length <=1
     ·have a: ¬ (1:Int)<s.f[i].df.length :=by omega
      have B:=X5 d s hd z i c (G4 d _ y) s.f[i].df.length 0 (by omega)
      simp only[aN,aP,b]at B
      simp only[aV,aB,Zf,a,Ze,aA,aR,B,Bcl,hlen,Zd,bP]
      cases(s.f[i].df.all λv=> !decide (v.k=0)&&v.valid&&decide ((Ji v s.f[i].s []).length =0))<;>simp
     ·have a:(1:Int)<s.f[i].df.length :=by omega
      simp[a,hlen]
theorem A2v (d:Nat)(s:Sch)(hd:d<=12)(o:s.Ap<=1048576)(e:s.it.length<=1)(g: ∀t∈s.it,W F53 0 [t.enc,.int d]=some [.bool (Ce d t)]):
  W F68 0 [.list (s.it.map gW),.int ((d+1:Nat):Int)]=some [.bool (!s.it.all (Ce d))]:=by
 have c:IntKind.i64.wrap (((d+1:Nat):Int) - 1)=(d:Int):=by rw[wrap64 (by omega) (by omega)];omega
 rw[Bar,Ba2]
 cases a:s.it with
 | nil=>
  simp only[bO,bY,bB,aA,aN]
  rw[Aki]
  simp
 | cons t r=>
  have h:r= []:=by rw[a]at e;simpa using e
  subst h
  have i:=g t (by rw[a];simp)
  have j:W F70 0 [t.enc,.int ((d+1:Nat):Int)]=some [.bool (!Ce d t)]:=by
   rw[Bb7]
   simp only[fA,c,aA,i,bE,cX]
  have m:IntKind.i64.wrap (0+1)=1:=by decide
  simp only[bJ,bO,bY,aY,bB,gV,aN,aA]
  rw[Aki]
  simp only[bA,show(0:Int)<1 by omega,Zd,aA,aR,Zt,cD,cO,cC,bL,j,bE,bR,m]
  cases b:Ce d t with
  | true=>
   simp only[aV,aB,Zf]
   rw[Aki]
   simp[b]
  | false=>simp[b]
theorem egP (k:Int)(a b c:Nat)(e:Bool):(if(if(if(if(!decide (k=3))=true then decide ((0:Int)<(a:Int)) else false)=true then true else if(!decide (k=4))=true then !e else false)=true then true else if(!decide (k=5))=true then decide ((0:Int)<(b:Int)) else false)=true then true else if(if(!decide (k=5))=true then !decide (k=4) else false)=true then decide ((0:Int)<(c:Int)) else false)
  = !(decide (k=3\/a=0)&&(decide (k=4)||e)&&decide (k=5\/b=0)&&decide (k=5\/k=4\/c=0)):=by
 cases e
 ·by_cases d:k=4
  ·rw[aS];simp[d];omega
  ·simp[d]
 ·rw[aS];simp;omega
theorem egM (mn mx:Int)(b c:Nat):(if(if(if(if(!decide (mn=0))=true then true else !decide (mx=0))=true then true else decide ((1:Int)<(b:Int)))=true then true else if decide ((b:Int)=1)=true then decide ((0:Int)<(c:Int)) else false)=true then true else decide ((64:Int)<(c:Int)))
  = !(decide (mn=0)&&decide (mx=0)&&decide (b<=1)&&(decide (b=0)||decide (c=0))&&decide (c<=64)):=by
 rw[aS];simp;omega
theorem X9: ∀ (d:Nat) (s:Sch),d<=12->s.Ap<=1048576->W F53 0 [s.enc,.int d]=some [.bool (Ce d s)]
 | 0,s,hd,r=>by rw[Ave];simp[Ce]
 | d+1,s,hd,r=>by
  have B: ¬ ((d+1:Nat):Int)=0:=by omega
  have u:IntKind.i64.wrap (((d+1:Nat):Int) - 1)=(d:Int):=by rw[wrap64 (by omega) (by omega)];omega
  have w: ∀t∈s.it,W F53 0 [t.enc,.int d]=some [.bool (Ce d t)]:=λt x=>X9 d t (by omega) (by have:=fK x;omega)
  have C: ∀p∈s.f,W F53 0 [p.s.enc,.int d]=some [.bool (Ce d p.s)]:=λp hp=>X9 d p.s (by omega) (by have:=fP hp;omega)
  have y:=Yy d s (by omega) r C s.f.length 0 (by omega)
  simp only[aN,aP,P4]at y
  have z:W F71 0 [s.enc,.int d]=some [.bool (fOk (Ce d) none s.f)]:=by
   rw[Bb6]
   simp only[dJ,bY,aD,aA]
   exact y
  rw[Ave]
  unfold Ce
  simp only[aW,eC,B,Ze,aA,aR,aB,Zf,gD,dU,eJ,eA,dJ,bY,aD,cR,gZ,Aw,Am,Dj,egP]
  cases e:(decide (s.k=3\/s.en.length=0)&&(decide (s.k=4)||decide (s.key=An))&&decide (s.k=5\/s.f.length=0)&&decide (s.k=5\/s.k=4\/s.it.length=0)) with
  | false=>
   simp only[bG,Zt]
   by_cases k1:s.k=1
   ·simp only[k1,Zt,H8]
    simp[k1]at e
    congr 3
    rw[eq_comm,cZ]
    intro h
    simp at h
    simp[h]at e
   ·by_cases k2:s.k=2
    ·simp only[k2,show ¬ (2:Int)=1 by omega,Zf,Zt,H8]
     simp[k2]at e
     congr 3
     rw[eq_comm,cZ]
     intro h
     simp at h
     simp[h]at e
    ·by_cases i:s.k=3
     ·simp only[i,show ¬ (3:Int)=1 by omega,show ¬ (3:Int)=2 by omega,Zf,Zt,H8]
      simp[i]at e
      congr 3
      rw[eq_comm,cZ]
      intro h
      simp at h
      simp[h]at e
     ·by_cases j:s.k=4
      ·simp only[j,show ¬ (4:Int)=1 by omega,show ¬ (4:Int)=2 by omega,show ¬ (4:Int)=3 by omega,Zf,Zt]
       simp[j]at e
       congr 3
       rw[eq_comm,cZ]
       intro h
       simp at h
       simp[h]at e
      ·by_cases q:s.k=5
       ·simp only[q,show ¬ (5:Int)=1 by omega,show ¬ (5:Int)=2 by omega,show ¬ (5:Int)=3 by omega,show ¬ (5:Int)=4 by omega,Zf,Zt]
        simp[q]at e
        congr 3
        rw[eq_comm,cZ]
        intro h
        simp at h
        simp[h]at e
       ·simp[k1,k2,i,j,q]
  | true=>
   simp only[aL,eB,decide_eq_true_eq]at e
   obtain⟨⟨⟨g,b⟩,c⟩,a⟩:=e
   simp only[aV,aB,Zf,dL,dM,aA,aW,eP,eC,aR,Arn,A92 s r,bE,Aw,Am]
   by_cases k1:s.k=1
   ·simp only[k1,Zd,Zt,H8]
    rcases g with g | g
    ·omega
    ·rcases b with b | b
     ·omega
     ·rcases c with c | c
      ·omega
      ·rcases a with a | a | a
       ·omega
       ·omega
       ·simp only[g,b,c,a,Zd,bP,cJ]
        congr 3
        rw[aS];simp
   ·by_cases k2:s.k=2
    ·simp only[k2,show ¬ (2:Int)=1 by omega,Ze,aB,Zf,Zd,Zt,H8]
     rcases g with g | g
     ·omega
     ·rcases b with b | b
      ·omega
      ·rcases c with c | c
       ·omega
       ·rcases a with a | a | a
        ·omega
        ·omega
        ·simp only[g,b,c,a,Zd,bP,cJ]
         congr 3
         rw[aS];simp[and_assoc]
    ·by_cases i:s.k=3
     ·simp only[i,show ¬ (3:Int)=1 by omega,show ¬ (3:Int)=2 by omega,Ze,aB,Zf,Zd,Zt,H8]
      rcases b with b | b
      ·omega
      ·rcases c with c | c
       ·omega
       ·rcases a with a | a | a
        ·omega
        ·omega
        ·simp only[b,c,a,Zd,bP,cJ]
         cases Arf s 200<;>simp
     ·by_cases j:s.k=4
      ·have m:s.en.length=0:=by rcases g with h | h;exact absurd h i;exact h
       have F:s.f.length=0:=by rcases c with h | h;exact absurd h (by omega);exact h
       simp only[j,show ¬ (4:Int)=1 by omega,show ¬ (4:Int)=2 by omega,show ¬ (4:Int)=3 by omega,Ze,aB,Zf,Zd,Zt,m,F,cJ]
       cases Arf s 64 with
       | false=>simp
       | true=>
        by_cases J:s.it.length=1
        ·obtain⟨t,x⟩:=bV.1 J
         have G:=w t (by rw[x];simp)
         have o:(s.it.length:Int)=1:=by omega
         simp only[Zt,o,Zd,x,bJ,bO,cD,cO,cC,bL,aA,fA,u,G,bE,aR,bU,cG,cJ,bP,aY,bB]
         cases H:Ce d t with
         | false=>simp
         | true=>
          have K:=A40 s t r x (G4 d t H)
          simp[K]
        ·have o: ¬ (s.it.length:Int)=1:=by omega
         simp[J,o]
      ·by_cases q:s.k=5
       ·have m:s.en.length=0:=by rcases g with h | h;exact absurd h i;exact h
        have I:s.key=An:=by rcases b with h | h;exact absurd h j;exact h
        simp only[q,show ¬ (5:Int)=1 by omega,show ¬ (5:Int)=2 by omega,show ¬ (5:Int)=3 by omega,show ¬ (5:Int)=4 by omega,Ze,aB,Zf,Zd,Zt,m,I,cJ]
        have eg:=egM s.mn s.mx s.it.length s.f.length
        rw[eg]
        cases A:(decide (s.mn=0)&&decide (s.mx=0)&&decide (s.it.length<=1)&&(decide (s.it.length=0)||decide (s.f.length=0))&&decide (s.f.length<=64)) with
        | false=>simp
        | true=>
         simp only[aL,eB,decide_eq_true_eq]at A
         have G:=A2v d s (by omega) r A.1.1.2 w
         simp only[aV,aB,Zf,G,bE,cX,gT,aA,aR,fA,u,z,Aw,Am,bP]
         cases s.it.all (Ce d)<;>simp
       ·simp only[k1,k2,i,j,q,Ze,aB,Zf]
theorem Pb (s:Sch)(a:s.Ap<=1048576):W F52 0 [s.enc]=some [.bool s.valid]:=by
 rw[Bb2]
 have:W F53 0 [s.enc,.int 12]=some [.bool s.valid]:=X9 12 s (by omega) a
 simp only[this,bE]
end Go.CT.Sch
namespace Go.CT.Sch
open Go.Proofs
theorem D3 (d:Nat)(v:Val):B9 (d+1) v=true↔Hf v=true/\(v.l.length<=64/\v.f.length<=64/\(v.k≠4->v.l= [])/\(v.k≠5->v.f= []))/\(∀x∈v.l,B9 d x=true)/\(∀p∈v.f,C4 p.1=true/\B9 d p.2=true)/\rising v.f=true:=by
 rw[B9]
 simp only[aL,bH,decide_eq_true_eq]
 constructor
 ·rintro⟨⟨⟨⟨a,b⟩,c⟩,d⟩,e⟩;exact⟨a,b,c,d,e⟩
 ·rintro⟨a,b,c,d,e⟩;exact⟨⟨⟨⟨a,b⟩,c⟩,d⟩,e⟩
theorem Nn: ∀ (d:Nat) (v:Val),B9 d v=true->B9 (d+1) v=true
 | 0,v,h=>by simp[B9]at h
 | d+1,v,h=>by
  rw[D3]at h ⊢
  exact⟨h.1,h.2.1,λx a=>Nn d x (h.2.2.1 x a),λp hp=>⟨(h.2.2.2.1 p hp).1,Nn d p.2 (h.2.2.2.1 p hp).2⟩,h.2.2.2.2⟩
theorem Hp (v:Val):v.valid=true↔B9 12 v=true/\v.size<=600:=by
 unfold fL;simp only[aL,decide_eq_true_eq]
theorem Gx {v x:Val}(h:v.valid=true)(a:x∈v.l):x.valid=true:=by
 rw[Hp]at h ⊢
 have b:=(D3 11 v).1 h.1
 have:=Val.U0 a
 exact⟨Nn 11 x (b.2.2.1 x a),by omega⟩
theorem Gj {v:Val}{p:ByteArray × Val}(h:v.valid=true)(hp:p∈v.f):p.2.valid=true/\C4 p.1=true:=by
 rw[Hp]at h ⊢
 have a:=(D3 11 v).1 h.1
 have:=Val.Ux hp
 exact⟨⟨Nn 11 p.2 (a.2.2.2.1 p hp).2,by omega⟩,(a.2.2.2.1 p hp).1⟩
theorem My: ∀l:List (ByteArray × Val),rising l=true->Cw l
 | [],_=>eN
 | [_],_=>cV _ _
 | p::q::r,h=>by
  simp only[rising,aL]at h
  have b:=My (q::r) h.2
  refine bI.2 ⟨λy a=>?_,b⟩
  rcases bM.1 a with rfl | a
  ·exact h.1
  ·exact Hm h.1 ((bI.1 b).1 y a)
theorem H6 {v:Val}(h:v.valid=true):Cw v.f:=by
 rw[Hp]at h
 exact My _ ((D3 11 v).1 h.1).2.2.2.2
theorem S0 {v:Val}(h:v.valid=true)(a:v.k≠5):v.f= []:=by
 rw[Hp]at h
 exact((D3 11 v).1 h.1).2.1.2.2.2 a
theorem W1 {v:Val}(h:v.valid=true)(a:v.k≠4):v.l= []:=by
 rw[Hp]at h
 exact((D3 11 v).1 h.1).2.1.2.2.1 a
theorem Ah6 {v:Val}(h:v.valid=true)(a:v.k=3):Jj v.s=true:=by
 rw[Hp]at h
 have:=((D3 11 v).1 h.1).1
 unfold Hf at this
 rw[if_neg (by omega),if_neg (by omega),if_pos a]at this
 simp only[aL]at this
 exact this.2
theorem V8 {l:List (ByteArray × Val)}(h:Cw l){p:ByteArray × Val}(hp:p∈l):l.find? (λq=>decide (q.1=p.1))=some p:=by
 induction l with
 | nil=>simp at hp
 | cons a l c=>
  have b:=bI.1 h
  rw[bW]
  rcases bM.1 hp with rfl | hp
  ·simp
  ·have: ¬ a.1=p.1:=Kz (b.1 p hp)
   simp only[this,Ze]
   exact c b.2 hp
theorem get_of_mem {v:Val}(h:v.valid=true){p:ByteArray × Val}(hp:p∈v.f):v.get p.1=some p.2:=by
 have b:v.k=5:=by
  rcases Decidable.em (v.k=5) with a | a
  ·exact a
  ·rw[S0 h a]at hp;simp at hp
 unfold fU
 rw[if_pos b,V8 (H6 h) hp];rfl
theorem Ea {v x:Val}{nm:ByteArray}(h:v.get nm=some x):(nm,x)∈v.f/\v.k=5:=by
 unfold fU at h
 split at h
 ·rename_i a
  rw[eX]at h
  obtain⟨p,hp,rfl⟩:=h
  have b:=cM hp
  have c:p.1=nm:=by simpa using gI hp
  subst c;exact⟨b,a⟩
 ·cases h
theorem Ayc {v x:Val}{nm:ByteArray}(h:v.valid=true)(a:v.get nm=some x):x.valid=true:=(Gj h (Ea a).1).1
theorem Anv {g a:Sch->Bool} : ∀ {l:List SFld} {o:Option ByteArray},(∀x∈l,g x.s=true->a x.s=true)->fOk g o l=true->fOk a o l=true
 | [],_,_,_=>rfl
 | y::r,o,b,h=>by
  simp only[fOk,aL]at h ⊢
  exact⟨⟨⟨⟨h.1.1.1.1,b y (by simp) h.1.1.1.2⟩,h.1.1.2⟩,h.1.2⟩,Anv (λx c=>b x (by simp[c])) h.2⟩
theorem Kh: ∀ (d:Nat) (s:Sch),Ce d s=true->Ce (d+1) s=true
 | 0,s,h=>by simp[Ce]at h
 | d+1,s,h=>by
  rw[Ce]at h ⊢
  split
  ·rename_i k1;rw[if_pos k1]at h;exact h
  ·rename_i k1;rw[if_neg k1]at h
   split
   ·rename_i k2;rw[if_pos k2]at h;exact h
   ·rename_i k2;rw[if_neg k2]at h
    split
    ·rename_i b;rw[if_pos b]at h;exact h
    ·rename_i b;rw[if_neg b]at h
     split
     ·rename_i c;rw[if_pos c]at h
      simp only[aL,bH]at h ⊢
      exact⟨h.1,λx a=>Kh d x (h.2 x a)⟩
     ·rename_i c;rw[if_neg c]at h
      split
      ·rename_i e;rw[if_pos e]at h
       simp only[aL,bH]at h ⊢
       exact⟨⟨h.1.1,λx a=>Kh d x (h.1.2 x a)⟩,Anv (λx _ a=>Kh d x.s a) h.2⟩
      ·rename_i e;rw[if_neg e]at h;cases h
theorem Y6 {d:Nat}{s t:Sch}(h:Ce (d+1) s=true)(a:t∈s.it):Ce d t=true:=by
 have noit:H8 s=true->False:=λhp=>by
  simp only[H8,aL,decide_eq_true_eq]at hp
  rw[aU.1 hp.1.2]at a;simp at a
 rw[Ce]at h
 split at h
 ·simp only[aL]at h;exact(noit h.1.1.1).elim
 ·split at h
  ·simp only[aL]at h;exact(noit h.1.1.1.1).elim
  ·split at h
   ·simp only[aL]at h;exact(noit h.1.1.1).elim
   ·split at h
    ·simp only[aL,bH]at h;exact h.2 t a
    ·split at h
     ·simp only[aL,bH]at h;exact h.1.2 t a
     ·cases h
theorem Vb {d:Nat}{s:Sch}{p:SFld}(h:Ce (d+1) s=true)(hp:p∈s.f):s.k=5/\C4 p.nm=true/\Ce d p.s=true/\p.df.length<=1/\Bcl p=true:=by
 have nof:s.f.length=0->False:=λa=>by
  rw[aU.1 a]at hp;simp at hp
 have nop:H8 s=true->False:=λa=>by
  simp only[H8,aL,decide_eq_true_eq]at a
  exact nof a.2
 rw[Ce]at h
 split at h
 ·simp only[aL]at h;exact(nop h.1.1.1).elim
 ·split at h
  ·simp only[aL]at h;exact(nop h.1.1.1.1).elim
  ·split at h
   ·simp only[aL]at h;exact(nop h.1.1.1).elim
   ·split at h
    ·simp only[aL,decide_eq_true_eq]at h;exact(nof h.1.1.1.2).elim
    ·split at h
     ·rename_i b
      simp only[aL]at h
      exact⟨b,Akt h.2 p hp⟩
     ·cases h
theorem Aqm {d:Nat}{s:Sch}(h:Ce d s=true)(a:s.k=4):Vw s=true/\s.it.length=1:=by
 cases d with
 | zero=>simp[Ce]at h
 | succ d=>
  rw[Ce,if_neg (by omega),if_neg (by omega),if_neg (by omega),if_pos a]at h
  simp only[aL,decide_eq_true_eq]at h
  exact⟨h.1.2,h.1.1.2⟩
theorem Sch.Vj {s t:Sch}(h:s.valid=true)(a:t∈s.it):t.valid=true:=Kh 11 t (Y6 h a)
theorem Sch.Gj {s:Sch}{p:SFld}(h:s.valid=true)(hp:p∈s.f):p.s.valid=true:=Kh 11 p.s (Vb h hp).2.2.1
theorem Sch.Gv {s:Sch}(h:s.valid=true):SB s:=G4 12 s h
theorem Sch.Xa {s t:Sch}{nm:ByteArray}(h:s.valid=true)(a:D5 s nm=some t):t.valid=true:=by
 rcases Ml a with b | ⟨p,hp,_,rfl⟩
 ·exact Sch.Vj h b
 ·exact Sch.Gj h hp
theorem Zx {d:Nat}{s:Sch}(h:Ce (d+1) s=true)(o:s.k=4)(c:s.key≠An): ∃t,s.it= [t]/\t.k=5/\ ∃p,t.fld s.key=some p/\p.rq=true/\p.s.k=3/\C4 s.key=true:=by
 obtain⟨b,q⟩:=Aqm h o
 obtain⟨t,e⟩:=bV.1 q
 unfold Vw at b
 rw[e]at b
 have a:decide (s.key=An)=false:=by simpa using c
 simp only[a,dW,aL,decide_eq_true_eq]at b
 obtain⟨⟨⟨r,u⟩,g⟩,i⟩:=b
 obtain⟨p,hp⟩:=dH.1 u
 rw[hp,bZ]at g i
 have j:=Y6 h (show t∈s.it by rw[e];simp)
 have m:=Ab5 hp
 refine⟨t,e,r,p,hp,g,i,?_⟩
 cases d with
 | zero=>simp[Ce]at j
 | succ d=>have:=(Vb j m.1).2.1;rw[m.2]at this;exact this
end Go.CT.Sch
namespace Go.CT.Sch
open Go.Proofs
theorem A6g (s:Sch)(n:Int)(p q:List Stp):(Zl p s n).length =(Zl q s n).length :=by unfold Zl;split<;>rfl
theorem Bd0 (key:ByteArray)(prev:List Val)(v:Val)(p q:List Stp):(Asr key prev v p).length =(Asr key prev v q).length :=by unfold Asr;split<;>rfl
theorem A5x (v:Val)(p q:List Stp): ∀l:List SFld,(l.flatMap (Km v p)).length =(l.flatMap (Km v q)).length
 | []=>rfl
 | d::l=>by
  have a:(Km v p d).length =(Km v q d).length :=by unfold Km;split<;>rfl
  simp only[cB,aO,a,A5x v p q l]
theorem Bdt: ∀ (v:Val) (s:Sch) (p q:List Stp),(Ji v s p).length =(Ji v s q).length :=by
 refine eD λv a b s p q=>?_
 have e: ∀ (l:List Val),(∀x∈l,∀s p q,(Ji x s p).length =(Ji x s q).length)-> ∀key t prev,(Lc l key t p prev).length =(Lc l key t q prev).length :=by
  intro l
  induction l with
  | nil=>intro _ key t prev;rw[L9,L9]
  | cons x l c=>
   intro h key t prev
   rw[Ib,Ib]
   simp only[aO]
   rw[h x (by simp) t (p++ [Hw key x prev.length]) (q++ [Hw key x prev.length]),Bd0 key prev x (p++ [Hw key x prev.length]) (q++ [Hw key x prev.length]),c (λy d=>h y (by simp[d])) key t (prev++ [x])]
 have g: ∀ (l:List (ByteArray × Val)),(∀x∈l,∀s p q,(Ji x.2 s p).length =(Ji x.2 s q).length)->(Lg l s p).length =(Lg l s q).length :=by
  intro l
  induction l with
  | nil=>intro _;rw[Kd,Kd]
  | cons x l c=>
   intro h
   have i:(Ag2 s p x).length =(Ag2 s q x).length :=by
    unfold Ag2
    split
    ·rfl
    ·split
     ·rfl
     ·exact h x (by simp) _ _ _
   rw[Ja,Ja,aO,aO,i,c λy d=>h y (by simp[d])]
 rw[Js v s p,Js v s q]
 split
 ·split
  ·exact A6g s _ p q
  ·split
   ·split
    ·rfl
    ·split<;>rfl
   ·split
    ·rw[aO,aO,A6g s _ p q,e v.l a]
    ·split
     ·rw[aO,aO,g v.f b,A5x v p q]
     ·rfl
 ·rfl
theorem Ua {v:Val}{s:Sch}{p:List Stp}(h:Ji v s p= [])(q:List Stp):Ji v s q= []:=by
 have:=Bdt v s p q
 rw[h]at this
 exact aU.1 this.symm
theorem W4 {v:Val}{s:Sch}{p:List Stp}(h:Ji v s p= []):v.k=s.k:=by
 rw[Js]at h
 split at h
 ·assumption
 ·cases h
theorem A3o {v:Val}{s:Sch}{p:List Stp}(h:Ji v s p= [])(b:v.k=5):(∀x∈v.f,∀q,Ag2 s q x= [])/\ ∀d∈s.f,d.rq=true->Ku v d.nm=true:=by
 have a:=W4 h
 have h':=λq=>Ua h q
 constructor
 ·intro x c q
  have h:=h' q
  rw[Js,if_pos a,if_neg (by omega),if_neg (by omega),if_neg (by omega),if_pos b,cH,Td,eS]at h
  exact h.1 x c
 ·intro d hd e
  rw[Js,if_pos a,if_neg (by omega),if_neg (by omega),if_neg (by omega),if_pos b,cH,eS]at h
  have:=h.2 d hd
  unfold Km at this
  rw[e]at this
  cases g:Ku v d.nm with
  | true=>rfl
  | false=>rw[g]at this;simp at this
theorem A4i {s t:Sch}{p:List Stp}{x:ByteArray × Val}(h:Ag2 s p x= [])(a:x.2.k≠0)(b:D5 s x.1=some t):Ji x.2 t (p++ [Cv x.1])= []:=by
 unfold Ag2 at h
 rw[b]at h
 simp only[a,Zf]at h
 exact h
theorem Aq1 {s:Sch}{p:List Stp}{x:ByteArray × Val}(h:Ag2 s p x= []): ∃t,D5 s x.1=some t:=by
 unfold Ag2 at h
 split at h
 ·cases h
 ·exact⟨_,by assumption⟩
theorem Afq: ∀ {l:List Val} {key:ByteArray} {t:Sch} {p:List Stp} {prev:List Val},Lc l key t p prev= []-> ∀x∈l,Ji x t p= []
 | [],_,_,_,_,_,x,a=>by simp at a
 | v::l,key,t,p,prev,h,x,a=>by
  rw[Ib,cH,cH]at h
  rcases bM.1 a with rfl | a
  ·exact Ua h.1.1 p
  ·exact Afq h.2 x a
theorem Ayq {v:Val}{s:Sch}{p:List Stp}(h:Ji v s p= [])(b:v.k=4):Zl p s v.l.length= []/\Lc v.l s.key (s.it.headD Bg) p []= []:=by
 have a:=W4 h
 rw[Js,if_pos a,if_neg (by omega),if_neg (by omega),if_pos b,cH]at h
 exact h
def Sb (s:Sch)(x:Stp):Option Sch:=
 if x.k=1 then(if s.k=5 then D5 s x.nm else none)
 else if s.k=4 then(if x.k=2\/(x.k=3/\s.key≠An/\s.key=x.nm) then s.it.head? else none) else none
def atS:Sch->List Stp->Option Sch
 | s,[]=>some s
 | s,x::r=>(Sb s x).bind λt=>atS t r
def hasB (nm vl:ByteArray)(u:Val):Bool:=decide (((u.get nm).getD Ar).k =3)&&decide (((u.get nm).getD Ar).s =vl)
def Qu (v:Val)(x:Stp):Option Val:=
 if x.k=1 then v.get x.nm
 else if v.k=4 then(if x.k=2 then v.l[x.ix.toNat]? else v.l.find? (hasB x.nm x.vl)) else none
def Hb:Val->List Stp->Option Val
 | v,[]=>some v
 | v,x::r=>(Qu v x).bind λu=>Hb u r
theorem S9 {v u:Val}{x:Stp}(a:Qu v x=some u):u.Ap<v.Ap:=by
 unfold Qu at a
 split at a
 ·have:=dZ (Ea a).1;simp only at this;omega
 ·split at a
  ·split at a
   ·exact eF (List.mem_of_getElem? a)
   ·exact eF (cM a)
  ·cases a
theorem Ain: ∀ (q:List Stp) (v w:Val),Hb v q=some w->w.Ap<=v.Ap
 | [],v,w,a=>by simp only[Hb,Option.some.injEq]at a;subst a;omega
 | y::r,v,w,a=>by
  simp only[Hb]at a
  cases b:Qu v y with
  | none=>rw[b]at a;cases a
  | some u=>rw[b]at a;have:=S9 b;have:=Ain r u w a;omega
theorem Aad {s t:Sch}{x:Stp}(a:Sb s x=some t):t.Ap<s.Ap:=by
 unfold Sb at a
 split at a
 ·split at a
  ·exact Jk a
  ·cases a
 ·split at a
  ·split at a
   ·exact fK (List.mem_of_mem_head? a)
   ·cases a
  ·cases a
end Go.CT.Sch
namespace Go.CT.Sch
open Go.Proofs
theorem Aag (v:Val)(nm:ByteArray)(o:v.Ap<=1048576): ∀ (n i:Nat),i+n=v.f.length->
  ∃r:Int,W F232 1 [.str nm,.int i,v.enc]=some [.int r]/\
   (((v.k=5->((v.f.drop i).find? λp=>decide (p.1=nm))=none)/\r<0)\/(v.k=5/\ ∃ (j:Nat) (x:Val),r=j/\v.f[j]?=some (nm,x)/\((v.f.drop i).find? λp=>decide (p.1=nm))=some (nm,x)))
 | 0,i,h=>by
  rw[Ane]
  have g: ¬ i<v.f.length:=by omega
  refine⟨-1,by simp[g],.inl ⟨λ_=>by simp[aH (aZ g)],by omega⟩⟩
 | n+1,i,h=>by
  have d:i<v.f.length:=by omega
  have u:=v.Bc
  have q:=Bf (i:=i) (by omega)
  obtain⟨r,t,m⟩:=Aag v nm o n (i+1) (by omega)
  rw[Ane,aG d,bW]
  simp only[cL,bY,aD,bA,Al,d,Zd,aA,aR,Zt,dP,aW,cD,aF,aE,aJ,aC d,aI,dE,gA,Aw,Am,bR,q,t]
  by_cases a:v.k=5
  ·by_cases c:v.f[i].1 =nm
   ·refine⟨i,by simp[a,c],.inr ⟨a,i,v.f[i].2,rfl,by simp[d,<-c],by simp[<-c]⟩⟩
   ·have c':decide (v.f[i].1 =nm)=false:=by simpa using c
    simp only[a,Zd,Zt,c',aB,Zf]
    refine⟨r,rfl,?_⟩
    rcases m with⟨b,e⟩ | ⟨_,b⟩
    ·exact .inl ⟨λ_=>b a,e⟩
    ·exact .inr ⟨trivial,b⟩
  ·simp only[a,Ze,aB,Zf]
   rcases m with⟨b,e⟩ | ⟨b,_⟩
   ·exact⟨r,rfl,.inl ⟨λh=>h.elim,e⟩⟩
   ·exact(a b).elim
theorem Aqg (v:Val)(nm:ByteArray)(d:v.Ap<=1048576): ∃r:Int,W F232 0 [v.enc,.str nm]=some [.int r]/\
  ((v.get nm=none/\r<0)\/ ∃ (j:Nat) (x:Val),r=j/\v.f[j]?=some (nm,x)/\v.get nm=some x):=by
 obtain⟨r,e,c⟩:=Aag v nm d v.f.length 0 (by omega)
 refine⟨r,by rw[Azt];exact e,?_⟩
 simp only[aP]at c
 unfold fU
 rcases c with⟨a,b⟩ | ⟨a,j,x,b,g,h⟩
 ·left
  refine⟨?_,b⟩
  split
  ·rename_i i;rw[a i];rfl
  ·rfl
 ·right
  exact⟨j,x,b,g,by rw[if_pos a,h];rfl⟩
theorem Ber (v:Val)(nm vl:ByteArray)(d:v.Ap<=1048576):W F233 0 [v.enc,.str nm,.str vl]=some [.bool (hasB nm vl v)]:=by
 obtain⟨r,b,e⟩:=Aqg v nm d
 rw[A5l]
 unfold hasB
 rcases e with⟨g,m⟩ | ⟨j,x,rfl,h,i⟩
 ·have a: ¬ (0:Int)<=r:=by omega
  simp only[b,bE,eZ,a,Ze,aA,aR,aB,Zf,g,eR]
  rfl
 ·simp only[b,bE,eZ,aF,Zd,aA,aR,Zt,cL,cD,aE,aJ,h,aI,iC,Fld.Cd,aW,gA,i,bZ]
  by_cases c:x.k=3<;>simp[c]
theorem Af2 (v:Val)(x:Stp)(d:v.Ap<=1048576): ∀ (n i:Nat),i+n=v.l.length->
  ∃r:Int,W F231 1 [.int i,v.enc,x.enc]=some [.int r]/\
   ((((v.l.drop i).find? (hasB x.nm x.vl))=none/\r<0)\/(∃ (j:Nat) (u:Val),r=j/\v.l[j]?=some u/\((v.l.drop i).find? (hasB x.nm x.vl))=some u))
 | 0,i,h=>by
  rw[Apb]
  have b: ¬ i<v.l.length:=by omega
  refine⟨-1,by simp[b],.inl ⟨by simp[aH (aZ b)],by omega⟩⟩
 | n+1,i,h=>by
  have a:i<v.l.length:=by omega
  have q:=v.B5
  have t:=eF (aK a)
  have e:=Bf (i:=i) (by omega)
  obtain⟨r,g,m⟩:=Af2 v x d n (i+1) (by omega)
  have o:=Ber v.l[i] x.nm x.vl (by omega)
  rw[Apb,aG a,bW]
  simp only[cQ,bY,aD,bA,Al,a,Zd,aA,aR,Zt,cD,aF,aE,aJ,aC a,aI,Stp.C7,Stp.Cd,o,bE,bR,e,g]
  cases c:hasB x.nm x.vl v.l[i]with
  | true=>exact⟨i,by simp,.inr ⟨i,v.l[i],rfl,by simp[a],rfl⟩⟩
  | false=>exact⟨r,by simp,m⟩
theorem Bbh (v:Val)(x:Stp)(m:v.Ap<=1048576)(o:Dl x=true): ∃r:Int,W F231 0 [v.enc,x.enc]=some [.int r]/\
  ((Qu v x=none/\r<0)\/ ∃ (j:Nat) (u:Val),r=j/\Qu v x=some u/\(x.k=1->v.f[j]?=some (x.nm,u))/\(x.k≠1->v.l[j]?=some u)):=by
 obtain⟨w,y,q,z,A⟩:=Dv o
 rw[A3f]
 unfold Qu
 simp only[Stp.Bp,Stp.C7,aA,aW,aR]
 by_cases k1:x.k=1
 ·obtain⟨r,b,a⟩:=Aqg v x.nm m
  simp only[k1,Zd,Zt,b,bE]
  refine⟨r,rfl,?_⟩
  rcases a with a | ⟨j,u,d,e,g⟩
  ·exact .inl a
  ·exact .inr ⟨j,u,d,g,λ_=>e,λh=>(h rfl).elim⟩
 ·simp only[k1,Ze,aB,Zf,dP,aA,eC,aR]
  by_cases i:v.k=4
  ·simp only[i,Zd,aV,aB,Zf,Zt]
   by_cases k2:x.k=2
   ·obtain⟨j,t⟩:=cS (q k2).1
    simp only[k2,Zd,Zt,Stp.Eh,cQ,bY,aD,aA,bA,aR,t,dY,aE,Al]
    by_cases c:j<v.l.length
    ·refine⟨j,by simp[c],.inr ⟨j,v.l[j],rfl,by simp[c],λh=>by simp at h,λ_=>by simp[c]⟩⟩
    ·refine⟨-1,by simp[c],.inl ⟨by simpa using c,by omega⟩⟩
   ·obtain⟨r,b,a⟩:=Af2 v x m v.l.length 0 (by omega)
    simp only[aN,aP]at b a
    simp only[k2,Ze,aB,Zf,b]
    refine⟨r,rfl,?_⟩
    rcases a with a | ⟨j,u,d,e,g⟩
    ·exact .inl a
    ·exact .inr ⟨j,u,d,g,λh=>h.elim,λ_=>e⟩
  ·exact⟨-1,by simp[i],.inl ⟨by simp[i],by omega⟩⟩
theorem Ye:IV.agg [.int 0,.int 0,.str ⟨#[]⟩,.list [],.list []]=Ar.enc:=rfl
theorem Amh (p:List Stp)(q:p.length<=1099511627776)(hp: ∀x∈p,Dl x=true)(c d e:IV): ∀ (n i:Nat) (v:Val),i+n=p.length->v.Ap<=1048576->
  W Bhc 1 [.list (p.map Stp.enc),.int i,v.enc,c,d,e]=some [((Hb v (p.drop i)).getD Ar).enc,.bool (Hb v (p.drop i)).isSome]
 | 0,i,v,h,m=>by
  have t: ¬ i<p.length:=by omega
  rw[Al0,aH (by omega)]
  simp only[bY,aD,bA,Al,t,Ze,aA,aR,aB,Zf,Hb,bZ,cK]
 | n+1,i,v,h,m=>by
  have a:i<p.length:=by omega
  have w:=Bf (i:=i) (by omega)
  have y:=hp _ (aK a)
  obtain⟨r,z,A⟩:=Bbh v p[i] m y
  rw[Al0,aG a]
  simp only[bY,aD,bA,Al,a,Zd,aA,aR,Zt,cD,aF,aE,aJ,aC a,aI,z,bE,eU,Stp.Bp,aW,cQ,cL,Hb,Ye]
  rcases A with⟨b,g⟩ | ⟨j,u,rfl,b,g,B⟩
  ·simp only[g,Zd,Zt,b];rfl
  ·have C: ¬ (j:Int)<0:=by omega
   have G:=S9 b
   have F:=Amh p q hp c d e n (i+1) u (by omega) (by omega)
   have o:W Bhc 2 [.list (p.map Stp.enc),.int i,u.enc,c,d,e]=some [((Hb u (p.drop (i+1))).getD Ar).enc,.bool (Hb u (p.drop (i+1))).isSome]:=by
    rw[A2q]
    simp only[bR,w,aA,F]
   simp only[C,Ze,aB,Zf,b,aA,aF,Zt,aE]
   by_cases k1:p[i].k =1
   ·simp only[k1,Zd,Zt,g k1,aI,aA,dI,o]
   ·simp only[k1,Ze,aB,Zf,B k1,aI,aA,o]
def Bft (v:Val)(p:List Stp):Option Val:=if Cy p then Hb v p else none
theorem Bec (v:Val)(p:List Stp)(c:v.Ap<=1048576)(hp: ∀x∈p,x.fits)(b:p.length<=1099511627776):W Bhc 0 [v.enc,.list (p.map Stp.enc)]=some [((Bft v p).getD Ar).enc,.bool (Bft v p).isSome]:=by
 rw[A0v]
 unfold Bft
 simp only[Ll p hp b,bE,cX,aA,aR,eU,Ye]
 cases d:Cy p with
 | false=>rfl
 | true=>
  have a:=d
  unfold Cy at a
  simp only[aL,bH]at a
  have:=Amh p b a.1 (.int 0) (.int 0) (.str ⟨#[]⟩) p.length 0 v (by omega) c
  simp only[aN,aP]at this
  simp only[aV,aB,Zf,this,Zt]
end Go.CT.Sch
namespace Go.CT.Sch
open Go.Proofs
theorem C8 (s:ByteArray):s.data.toList.length=s.size:=by simp
theorem Ws {s:ByteArray}{i:Nat}{l:List UInt8}(h:s.data.toList.drop i=l)(a:l≠ []):i+l.length=s.size:=by
 have:=congrArg dA h
 rw[dD,C8]at this
 have:0<l.length:=bX.2 a
 omega
theorem Sy {s:ByteArray}{i:Nat}{a r:List UInt8}(h:s.data.toList.drop i=a++r):s.data.toList.drop (i+a.length)=r:=by
 rw[<-List.drop_drop,h,List.drop_left]
theorem sx {s:ByteArray}{i:Nat}{c:UInt8}{r:List UInt8}(h:s.data.toList.drop i=c::r):O.L8 (.str s) (.int i)=some (.int c.toNat)/\i<s.size/\s.data.toList.drop (i+1)=r:=by
 have d:=Ws h (by simp)
 simp only[aY]at d
 have a:i<s.size:=by omega
 have b:=Ht a
 rw[h]at b
 obtain⟨e,g⟩:=gS b
 refine⟨?_,a,g.symm⟩
 simp only[hQ,aF,Zt,aE,A7i a,aI,<-e]
theorem ssl {s:ByteArray}{i:Nat}{a r:List UInt8}(h:s.data.toList.drop i=a++r)(b:a≠ []):O.Ny (.str s) (.int i) (.int ((i+a.length:Nat):Int))=some (.str (bsL a)):=by
 have c:=Ws h (by simp[b])
 rw[aO]at c
 rw[O.Te,if_pos ⟨by omega,by omega,by omega⟩]
 simp only[aE]
 congr 2
 apply Gb
 rw[eT,fH]
 simp only[eL,bsL,h]
 rw[show i+a.length - i=a.length by omega,List.take_left]
def Zn (r:List UInt8):Prop:= ∀c t,r=c::t->Bu c=false
theorem Aev (s:ByteArray)(u:s.size<=100000): ∀ (a:List UInt8) (i:Nat) (r:List UInt8),s.data.toList.drop i=a++r->i<=s.size->(∀c∈a,Bu c=true)->Zn r->W F226 1 [.str s,.int i]=some [.int ((i+a.length:Nat):Int)]
 | [],i,r,h,b,_,d=>by
  rw[Apw]
  cases r with
  | nil=>
   have A:s.size<=i:=by
    have:=congrArg dA h
    rw[dD,C8]at this
    simp at this;omega
   have e: ¬ i<s.size:=by omega
   simp only[cW,aA,bA,Al,e,Ze,aR,aB,Zf,bB,fY]
  | cons c t=>
   obtain⟨g,j,o⟩:=sx h
   have m:=d c t rfl
   simp only[cW,aA,bA,Al,j,Zd,aR,Zt,g,Xr,bE,m,aB,Zf,bB,fY]
 | c::a,i,r,h,b,q,d=>by
  obtain⟨g,j,o⟩:=sx (show s.data.toList.drop i=c::(a++r) from h)
  have w:=Bf (i:=i) (by omega)
  have m:=q c (by simp)
  have y:=Aev s u a (i+1) r o (by omega) (λx z=>q x (by simp[z])) d
  rw[Apw]
  simp only[cW,aA,bA,Al,j,Zd,aR,Zt,g,Xr,bE,m,bR,w,y,aY]
  congr 3;congr 1;omega
theorem Uj {c:UInt8}(h:Ir c=true):c.toNat=10\/(32<=c.toNat/\c.toNat<=126):=by
 unfold Ir at h
 simp at h
 omega
theorem Vh (o:ByteArray)(c:UInt8)(v:List UInt8):o++bsL [c]++bsL v=o++bsL (c::v):=by
 rw[bC,<-Gq];rfl
theorem Xc (s:ByteArray)(M:s.size<=100000): ∀ (v:List UInt8) (i:Nat) (r:List UInt8) (o:ByteArray),s.data.toList.drop i=v.flatMap I6++34::r->(∀c∈v,Ir c=true)->o.size+v.length<=1000->
  W Bf2 1 [.str s,.int i,.str o]=some [.str (o++bsL v),.int ((i+(v.flatMap I6).length +1:Nat):Int),.bool true]
 | [],i,r,o,h,_,_=>by
  obtain⟨t,u,w⟩:=sx (show s.data.toList.drop i=34::r from h)
  have y:=Bf (i:=i) (by omega)
  have e:o++bsL []=o:=by apply Gb;rw[aQ];simp[bsL]
  rw[Aex]
  simp only[cW,aA,bA,Al,u,Zd,aR,Zt,t,eC]
  simp only[show((34:UInt8).toNat :Int)=34 from rfl,Zd,aV,aB,Zf,bR,y,aA,cT,bB,fY,e]
 | c::v,i,r,o,h,N,R=>by
  have S:=N c (by simp)
  have z: ∀x∈v,Ir x=true:=λx T=>N x (by simp[T])
  simp only[aY]at R
  have hrange:=Uj S
  simp only[cB,bK]at h ⊢
  have hlen:=congrArg dA h
  rw[dD,C8]at hlen
  have two: ∀d:UInt8,I6 c= [92,d]->(d.toNat=34\/d.toNat=92\/d.toNat=110)->(d.toNat=110↔c.toNat=10)->(d.toNat≠110->d=c)->
    W Bf2 1 [.str s,.int i,.str o]=some [.str (o++bsL (c::v)),.int ((i+(I6 c++v.flatMap I6).length +1:Nat):Int),.bool true]:=by
   intro d F hd U G
   rw[F]at h ⊢
   obtain⟨t,u,w⟩:=sx (show s.data.toList.drop i=92::(d::(v.flatMap I6++34::r)) from h)
   obtain⟨X,g2,Y⟩:=sx w
   have y:=Bf (i:=i) (by omega)
   have A:IntKind.i64.wrap ((i:Int)+2)=((i+1+1:Nat):Int):=by rw[wrap64 (by omega) (by omega)];omega
   have H: ¬ ((s.size:Nat):Int)<=((i+1:Nat):Int):=by omega
   have I:=λo' (g:o'.size+v.length<=1000)=>Xc s M v (i+1+1) r o' Y z g
   have b:=ssl (i:=i+1) (a:= [d]) (show s.data.toList.drop (i+1)= [d]++(v.flatMap I6++34::r) from w) (by simp)
   simp only[aT]at b
   have J:((92:UInt8).toNat :Int)=92:=rfl
   rw[Aex]
   simp only[cW,aA,bA,Al,u,Zd,aR,Zt,t,eC,cR,J,show ¬ (92:Int)=34 by omega,Ze,bG,show ¬ (92:Int)<32 by omega,aB,Zf,show ¬ (126:Int)<92 by omega,aV,bR,y,eZ,H,X,A]
   have q:(if(!decide ((d.toNat:Int)=34))=true then some (IV.bool (!decide ((d.toNat:Int)=92))) else some (IV.bool false))=some (.bool (!decide (d.toNat=34)&& !decide (d.toNat=92))):=by
    by_cases K:d.toNat=34
    ·simp[K]
    ·have B: ¬ (d.toNat:Int)=34:=by omega
     by_cases Q:d.toNat=92
     ·simp[K,B,Q]
     ·have L: ¬ (d.toNat:Int)=92:=by omega
      simp[K,B,Q,L]
   simp only[q,aA,aR]
   have m: ∀o',o'=o++bsL [c]->W Bf2 3 [.str s,.int i,.str o']=some [.str (o++bsL (c::v)),.int ((i+([92,d]++v.flatMap I6).length +1:Nat):Int),.bool true]:=by
    intro o' g
    rw[A2j]
    simp only[bR,A,aA]
    rw[Api,I o' (by rw[g,aM,Ca,aT];omega),g,Vh]
    congr 3;congr 1
    simp only[aO,aY,bB];congr 1;omega
   have hcond2:(if(!decide (d.toNat=34)&& !decide (d.toNat=92))=true then some (IV.bool (!decide ((d.toNat:Int)=110))) else some (IV.bool false))=some (.bool false):=by
    rcases hd with hd | hd | hd
    ·simp[hd]
    ·simp[hd]
    ·have:(d.toNat:Int)=110:=by omega
     simp[hd]
   simp only[hcond2,aA,aR,aB,Zf,aW]
   by_cases cn:d.toNat=110
   ·have cn':(d.toNat:Int)=110:=by omega
    have C:c=10:=gH.1 (U.1 cn)
    simp only[cn',Zd,Zt]
    rw[show(ByteArray.mk #[10])=bsL [10]from rfl,Gn (by omega) (by rw[Ca];simp)]
    simp only[aA]
    exact m _ (by rw[C])
   ·have cn': ¬ (d.toNat:Int)=110:=by omega
    simp only[cn',Ze,aB,Zf,b,aA]
    rw[Gn (by omega) (by rw[Ca];simp)]
    simp only[aA]
    exact m _ (by rw[G cn])
  by_cases j:c.toNat=10
  ·exact two 110 (by unfold I6;rw[if_pos j]) (.inr (.inr rfl)) ⟨λ_=>j,λ_=>rfl⟩ (λh=>(h rfl).elim)
  ·by_cases cq:c.toNat=34\/c.toNat=92
   ·exact two c (by unfold I6;rw[if_neg j,if_pos cq]) (by omega) (by omega) (λ_=>rfl)
   ·have F:I6 c= [c]:=by unfold I6;rw[if_neg j,if_neg cq]
    rw[F]at h ⊢
    obtain⟨t,u,w⟩:=sx (show s.data.toList.drop i=c::(v.flatMap I6++34::r) from h)
    have y:=Bf (i:=i) (by omega)
    have I:=Xc s M v (i+1) r (o++bsL [c]) w z (by rw[aM,Ca,aT];omega)
    have b:=ssl (i:=i) (a:= [c]) (show s.data.toList.drop i= [c]++(v.flatMap I6++34::r) from h) (by simp)
    simp only[aT]at b
    have Z: ¬ (c.toNat:Int)=34:=by omega
    have n2: ¬ (c.toNat:Int)<32:=by omega
    have n3: ¬ (126:Int)<c.toNat:=by omega
    have n4: ¬ (c.toNat:Int)=92:=by omega
    rw[Aex]
    simp only[cW,aA,bA,Al,u,Zd,aR,Zt,t,eC,cR,Z,Ze,bG,n2,aB,Zf,n3,n4,bR,y,b]
    rw[Gn (by omega) (by rw[Ca];simp)]
    simp only[aA,Api,I,Vh]
    congr 3;congr 1
    simp only[aO,aY,bB];congr 1;omega
end Go.CT.Sch
namespace Go.CT.Sch
open Go.Proofs
theorem w8 {x:Int}(a:0<=x)(b:x<=255):IntKind.u8.wrap x=x:=by
 unfold IntKind.wrap
 simp[IntKind.signed,IntKind.bits]
 omega
theorem A8b (a:UInt8)(n:Nat)(h:n<=9)(j:a.toNat=48+n):W Bg4 0 [.str (bsL [a])]=some [.bool true]/\W Bgk 0 [.str (bsL [a])]=some [.int n]:=by
 obtain⟨c,_,_⟩:=sx (s:=bsL [a]) (i:=0) (show(bsL [a]).data.toList.drop 0=a:: []from rfl)
 simp only[aN]at c
 have b:((bsL [a]).size :Int)=1:=by rw[Ca];rfl
 have d:IntKind.i64.wrap (0+1)=1:=by decide
 have e: ¬ (a.toNat:Int)<48:=by omega
 have g: ¬ (57:Int)<a.toNat:=by omega
 constructor
 ·rw[Al1,R0]
  simp only[cW,b,aA,bA,show(0:Int)<1 by omega,Zd,aR,Zt,c,e,cR,g,Ze,aB,Zf,bR,d]
  rw[R0]
  simp[b]
 ·have m1:IntKind.i64.wrap (10 * 0)=0:=by decide
  have m2:IntKind.u8.wrap ((a.toNat:Int) - 48)=n:=by rw[w8 (by omega) (by omega)];omega
  have m3:IntKind.i64.wrap (n:Int)=n:=wrap64 (by omega) (by omega)
  have m4:IntKind.i64.wrap (0+(n:Int))=n:=by rw[wrap64 (by omega) (by omega)];omega
  have m5: ¬ (65:Int)<n:=by omega
  rw[Amn,Sk]
  simp only[cW,b,aA,bA,show(0:Int)<1 by omega,show(0:Int)<65 by omega,Zd,aR,Zt,O.Tq,m1,c,fA,m2,O.Sq,m3,bR,m4,d]
  rw[Sk]
  simp[b,m5]
theorem A7v (a b:UInt8)(q m:Nat)(z:1<=q/\q<=6)(A:m<=9)(B:a.toNat=48+q)(C:b.toNat=48+m):W Bg4 0 [.str (bsL [a,b])]=some [.bool true]/\W Bgk 0 [.str (bsL [a,b])]=some [.int (min (10 * q+m) 65:Nat)]:=by
 obtain⟨g,_,_⟩:=sx (s:=bsL [a,b]) (i:=0) (show(bsL [a,b]).data.toList.drop 0=a:: [b]from rfl)
 obtain⟨h,_,_⟩:=sx (s:=bsL [a,b]) (i:=1) (show(bsL [a,b]).data.toList.drop 1=b:: []from rfl)
 simp only[aN]at g h
 have d:((bsL [a,b]).size :Int)=2:=by rw[Ca];rfl
 have j:IntKind.i64.wrap (0+1)=1:=by decide
 have e:IntKind.i64.wrap (1+1)=2:=by decide
 have o: ¬ (a.toNat:Int)<48:=by omega
 have r: ¬ (57:Int)<a.toNat:=by omega
 have t: ¬ (b.toNat:Int)<48:=by omega
 have u: ¬ (57:Int)<b.toNat:=by omega
 have w: ¬ (a.toNat:Int)=48:=by omega
 constructor
 ·rw[Al1,R0]
  simp only[cW,d,aA,bA,show(0:Int)<2 by omega,Zd,aR,Zt,g,o,cR,r,Ze,aB,Zf,bR,j]
  rw[R0]
  simp only[cW,d,aA,bA,show(1:Int)<2 by omega,Zd,aR,Zt,h,t,cR,u,Ze,aB,Zf,bR,e]
  rw[R0]
  simp only[cW,d,aA,bA,show ¬ (2:Int)<2 by omega,Ze,aR,aB,Zf,aW,show ¬ (2:Int)=1 by omega,cR,show(1:Int)<2 by omega,Zd,Zt,g,eC,w,bG]
 ·have m1:IntKind.i64.wrap (10 * 0)=0:=by decide
  have m2:IntKind.u8.wrap ((a.toNat:Int) - 48)=q:=by rw[w8 (by omega) (by omega)];omega
  have m3:IntKind.i64.wrap (q:Int)=q:=wrap64 (by omega) (by omega)
  have m4:IntKind.i64.wrap (0+(q:Int))=q:=by rw[wrap64 (by omega) (by omega)];omega
  have m5:(q:Int)<65:=by omega
  have k1:IntKind.i64.wrap (10 * (q:Int))=10 * q:=wrap64 (by omega) (by omega)
  have k2:IntKind.u8.wrap ((b.toNat:Int) - 48)=m:=by rw[w8 (by omega) (by omega)];omega
  have x:IntKind.i64.wrap (m:Int)=m:=wrap64 (by omega) (by omega)
  have y:IntKind.i64.wrap (10 * (q:Int)+(m:Int))=10 * q+m:=wrap64 (by omega) (by omega)
  rw[Amn,Sk]
  simp only[cW,d,aA,bA,show(0:Int)<2 by omega,show(0:Int)<65 by omega,Zd,aR,Zt,O.Tq,m1,g,fA,m2,O.Sq,m3,bR,m4,j]
  rw[Sk]
  simp only[cW,d,aA,bA,show(1:Int)<2 by omega,m5,Zd,aR,Zt,O.Tq,k1,h,fA,k2,O.Sq,x,bR,y,e]
  rw[Sk]
  simp only[cW,d,aA,bA,show ¬ (2:Int)<2 by omega,Ze,aR,aB,Zf,cR]
  by_cases c:(65:Int)<10 * q+m
  ·have:min (10 * q+m) 65=65:=by omega
   simp only[c,Zd,Zt,this];rfl
  ·have:min (10 * q+m) 65=10 * q+m:=by omega
   simp only[c,Ze,aB,Zf,this]
   congr 3
theorem Bfl {n:Nat}(h:n<=255):n.toUInt8.toNat=n:=by
 simp[gY];omega
theorem A4q (n:Nat): ∃a:List UInt8,fT n=bsL a/\a≠ []/\(n<100-> ∀c∈a,Bu c=true):=by
 have dig: ∀k:Nat,k<=9->Bu (48+k).toUInt8 =true:=by
  intro k d
  unfold Bu
  rw[Bfl (by omega)]
  simp;omega
 unfold fT
 split
 ·refine⟨[(48+n).toUInt8],rfl,by simp,λ_ c b=>?_⟩
  rw[fR]at b
  rw[b];exact dig n (by omega)
 ·refine⟨[(48+n / 10).toUInt8,(48+n % 10).toUInt8],rfl,by simp,λh c b=>?_⟩
  rw[bM,fR]at b
  rcases b with b | b
  ·rw[b];exact dig _ (by omega)
  ·rw[b];exact dig _ (by omega)
theorem Bex (n:Nat)(a:n<=64):W Bg4 0 [.str (fT n)]=some [.bool true]/\W Bgk 0 [.str (fT n)]=some [.int n]:=by
 unfold fT
 split
 ·exact A8b _ n (by omega) (Bfl (by omega))
 ·have:=A7v (48+n / 10).toUInt8 (48+n % 10).toUInt8 (n / 10) (n % 10) (by omega) (by omega) (Bfl (by omega)) (Bfl (by omega))
  rw[show min (10 * (n / 10)+n % 10) 65=n by omega]at this
  exact this
def Zy (x:Stp)(i:Nat):IV:= .agg [.int x.k,.str x.nm,.int x.ix,.str x.vl,.int i,.bool false]
theorem G6 {s:ByteArray}(h:C4 s=true):(∀c∈s.data.toList,Bu c=true)/\s.data.toList≠ []:=by
 unfold C4 at h
 simp only[aL,bH,decide_eq_true_eq]at h
 refine⟨h.1,λe=>?_⟩
 have:s.size=0:=by rw[<-C8,e];rfl
 omega
theorem Nq {c:UInt8}{r:List UInt8}(h:Bu c=false):Zn (c::r):=by
 intro d t e
 obtain⟨rfl,_⟩:=gS e
 exact h
theorem Alh (s:ByteArray)(o:s.size<=100000)(n i:Nat)(q:n<=64)(r:List UInt8)(h:s.data.toList.drop i=(bsL [91]++fT n++bsL [93]).data.toList ++r):
  W F225 0 [.str s,.int i]=some [Zy ⟨2,An,n,An⟩ (i+(bsL [91]++fT n++bsL [93]).size)]:=by
 obtain⟨a,t,b,c⟩:=A4q n
 obtain⟨d1,d2⟩:=Bex n q
 rw[t]at h d1 d2 ⊢
 rw[<-Gq,<-Gq]at h ⊢
 rw[Ca]
 have h':s.data.toList.drop i=91::(a++93::r):=by rw[h];simp[bsL]
 obtain⟨B,C,d⟩:=sx h'
 have u:=Bf (i:=i) (by omega)
 have e:=Aev s o a (i+1) (93::r) d (by omega) (c (by omega)) (Nq (by decide))
 have w:=Sy d
 obtain⟨x,F,G⟩:=sx w
 have g:=ssl d b
 have y:0<a.length:=bX.2 b
 have j:=Bf (i:=i+1+a.length) (by omega)
 have z: ¬ ((s.size:Nat):Int)<=((i+1+a.length:Nat):Int):=by omega
 have A: ¬ ((i+1+a.length:Nat):Int)=((i+1:Nat):Int):=by omega
 have m:((93:UInt8).toNat :Int)=93:=rfl
 rw[Ap3]
 simp only[bR,u,aA,Ac3,e,bE,cW,eZ,z,Ze,aR,aB,Zf,aW,A,g,x,m,Zd,Zt,d1,d2,j,cX,aV,eU]
 unfold Zy
 simp only[aO,aY,bB]
 congr 4
 rw[show i+1+a.length+1=i+(0+1+a.length+(0+1)) by omega]
 rfl
theorem Ai3 (s:ByteArray)(y:s.size<=100000)(nm vl:ByteArray)(b:C4 nm=true)(a:Jj vl=true)(i:Nat)(r:List UInt8)(h:s.data.toList.drop i=(bsL [91]++nm++bsL [61]++Me vl++bsL [93]).data.toList ++r):
  W F225 0 [.str s,.int i]=some [Zy ⟨3,nm,0,vl⟩ (i+(bsL [91]++nm++bsL [61]++Me vl++bsL [93]).size)]:=by
 obtain⟨e,c⟩:=G6 b
 have A:=Pv a
 unfold Jj at a
 simp only[aL,bH]at a
 have g:(bsL [91]++nm++bsL [61]++Me vl++bsL [93]).size =nm.data.toList.length+(vl.data.toList.flatMap I6).length +5:=by
  unfold Me
  simp only[aM,Ca,aY,bB,aO,C8];omega
 rw[g]
 have h':s.data.toList.drop i=91::(nm.data.toList++61::(34::(vl.data.toList.flatMap I6++34::(93::r)))):=by
  rw[h];unfold Me
  simp[aQ,bsL]
 obtain⟨Q,R,j⟩:=sx h'
 have B:=Bf (i:=i) (by omega)
 have m:=Aev s y nm.data.toList (i+1) _ j (by omega) e (Nq (by decide))
 have C:=Sy j
 obtain⟨F,S,G⟩:=sx C
 have o:=ssl j c
 have H:0<nm.data.toList.length:=bX.2 c
 obtain⟨I,T,z⟩:=sx G
 have q:=Bf (i:=i+1+nm.data.toList.length) (by omega)
 have t:=Bf (i:=i+1+nm.data.toList.length+1) (by omega)
 have d:=Xc s y vl.data.toList (i+1+nm.data.toList.length+1+1) (93::r) An z a.1 (by rw[C8];show 0+vl.size<=1000;omega)
 rw[Hd,Ps]at d
 have J:=Sy z
 obtain⟨U,X,K⟩:=sx J
 obtain⟨L,Y,Z⟩:=sx K
 have u:W Bf2 0 [.str s,.int ((i+1+nm.data.toList.length+1:Nat):Int)]=some [.str vl,.int ((i+1+nm.data.toList.length+1+1+(vl.data.toList.flatMap I6).length +1:Nat):Int),.bool true]:=by
  have w: ¬ ((s.size:Nat):Int)<=((i+1+nm.data.toList.length+1:Nat):Int):=by omega
  rw[A09]
  simp only[cW,aA,eZ,w,Ze,aR,aB,Zf,I,eC,show((34:UInt8).toNat :Int)=34 from rfl,Zd,aV,bR,t]
  exact d
 have x:=Bf (i:=i+1+nm.data.toList.length+1+1+(vl.data.toList.flatMap I6).length +1) (by omega)
 have w: ¬ ((s.size:Nat):Int)<=((i+1+nm.data.toList.length:Nat):Int):=by omega
 have M: ¬ ((i+1+nm.data.toList.length:Nat):Int)=((i+1:Nat):Int):=by omega
 have N: ¬ ((s.size:Nat):Int)<=((i+1+nm.data.toList.length+1+1+(vl.data.toList.flatMap I6).length +1:Nat):Int):=by omega
 rw[Ap3]
 simp only[bR,B,aA,Ac3,m,bE,cW,eZ,w,Ze,aR,aB,Zf,aW,M,o,F,show((61:UInt8).toNat :Int)=61 from rfl,show ¬ (61:Int)=93 by omega,eC,Zd,aV,q,u,iD,cX,N,L,show((93:UInt8).toNat :Int)=93 from rfl,x,eU,Ps]
 unfold Zy
 congr 4
 rw[show i+1+nm.data.toList.length+1+1+(vl.data.toList.flatMap I6).length +1+1=i+(nm.data.toList.length+(vl.data.toList.flatMap I6).length +5) by omega]
theorem Anq (s:ByteArray)(g:s.size<=100000)(nm:ByteArray)(a:C4 nm=true)(i:Nat)(r:List UInt8)(h:s.data.toList.drop i=nm.data.toList++r)(j:i<=s.size)(m:Zn r)(o q t u w x:IV):
  W F224 1 [.str s,.int i,o,q,t,u,w,x]=some [Zy ⟨1,nm,0,An⟩ (i+nm.size)]:=by
 obtain⟨c,b⟩:=G6 a
 have d:=Aev s g nm.data.toList i r h j c m
 have e:=ssl h b
 have y:0<nm.data.toList.length:=bX.2 b
 have z: ¬ ((i+nm.data.toList.length:Nat):Int)=(i:Int):=by omega
 rw[A4e]
 simp only[Ac3,d,bE,e,aA,aW,z,Ze,eU,Ps]
 unfold Zy
 rw[C8]
 rfl
theorem Bbu (s:ByteArray)(o:s.size<=100000)(x:Stp)(b:Dl x=true)(i:Nat)(r:List UInt8)(h:s.data.toList.drop i=(H0 (decide (i=0)) x).data.toList ++r)(C:Zn r):
  W F224 0 [.str s,.int i]=some [Zy x (i+(H0 (decide (i=0)) x).size)]:=by
 obtain⟨H,I,J,K,F⟩:=Dv b
 obtain⟨xk,xn,xi,xv⟩:=x
 simp only at H I J K F
 unfold Dl at b
 unfold H0 at h ⊢
 simp only at b h ⊢
 rw[A5i]
 rcases F with rfl | rfl | rfl
 ·simp only[Zt,aL,decide_eq_true_eq]at b
  obtain⟨⟨g,rfl⟩,rfl⟩:=b
  simp only[show ¬ (1:Int)=2 by omega,show ¬ (1:Int)=3 by omega,Zf]at h ⊢
  obtain⟨u,w⟩:=G6 g
  by_cases G:i=0
  ·subst G
   simp only[Zd,Zt]at h ⊢
   obtain⟨c,a,j⟩:=eK w
   have h':s.data.toList.drop 0=c::(a++r):=by rw[h,j];rfl
   obtain⟨d,y,q⟩:=sx h'
   have z:=u c (by rw[j];simp)
   have m: ¬ (c.toNat:Int)=91:=by
    intro e
    have:c.toNat=91:=by omega
    unfold Bu at z
    rw[this]at z
    simp at z
   simp only[d,aA,aW,m,Ze,aR,aB,Zf,cR,show ¬ (0:Int)<((0:Nat):Int) by omega]
   exact Anq s o xn g 0 r h (by omega) C _ _ _ _ _ _
  ·have A:(0:Int)<(i:Int):=by omega
   simp only[G,Ze,aB,Zf]at h ⊢
   have h':s.data.toList.drop i=46::(xn.data.toList++r):=by rw[h];simp[aQ,bsL]
   obtain⟨d,y,q⟩:=sx h'
   have L:=Bf (i:=i) (by omega)
   have M:=Anq s o xn g (i+1) r q (by omega) C (.int 0) (.str ⟨#[]⟩) (.int 0) (.str ⟨#[]⟩) (.int 0) (.bool false)
   simp only[d,aA,aW,show((46:UInt8).toNat :Int)=46 from rfl,show ¬ (46:Int)=91 by omega,Ze,aR,aB,Zf,cR,A,Zd,Zt,eC,aV,bR,L,M]
   rw[aM,Ca,aT,show i+1+xn.size=i+(1+xn.size) by omega]
 ·simp only[show ¬ (2:Int)=1 by omega,Zf,Zt,aL,decide_eq_true_eq]at b
  obtain⟨⟨⟨N,Q⟩,rfl⟩,rfl⟩:=b
  obtain⟨n,rfl⟩:=cS N
  simp only[Zt,dY,aE]at h ⊢
  have B:=Alh s o n i (by omega) r h
  have h': ∃t,s.data.toList.drop i=91::t:=by rw[h];simp[aQ,bsL]
  obtain⟨t,h'⟩:=h'
  obtain⟨d,y,q⟩:=sx h'
  simp only[d,aA,aW,show((91:UInt8).toNat :Int)=91 from rfl,Zd,aR,Zt,B,bE]
 ·simp only[show ¬ (3:Int)=1 by omega,show ¬ (3:Int)=2 by omega,Zf,Zt,aL,decide_eq_true_eq]at b
  obtain⟨⟨g,R⟩,rfl⟩:=b
  simp only[show ¬ (3:Int)=2 by omega,Zf,Zt]at h ⊢
  have B:=Ai3 s o xn xv g R i r h
  have h': ∃t,s.data.toList.drop i=91::t:=by rw[h];simp[aQ,bsL]
  obtain⟨t,h'⟩:=h'
  obtain⟨d,y,q⟩:=sx h'
  simp only[d,aA,aW,show((91:UInt8).toNat :Int)=91 from rfl,Zd,aR,Zt,B,bE]
theorem T1 (b:Bool)(x:Stp)(a:Dl x=true):(H0 b x).data.toList ≠ []/\(b=false->Zn ((H0 b x).data.toList)):=by
 obtain⟨e,g,i,j,m⟩:=Dv a
 unfold Dl at a
 unfold H0
 split
 ·refine⟨by simp[aQ,bsL],λ_=>?_⟩
  have: ∃t,(bsL [91]++fT x.ix.toNat++bsL [93]).data.toList =91::t:=by simp[aQ,bsL]
  obtain⟨t,c⟩:=this
  rw[c];exact Nq (by decide)
 ·split
  ·refine⟨by simp[aQ,bsL],λ_=>?_⟩
   have: ∃t,(bsL [91]++x.nm++bsL [61]++Me x.vl++bsL [93]).data.toList =91::t:=by simp[aQ,bsL]
   obtain⟨t,c⟩:=this
   rw[c];exact Nq (by decide)
  ·rename_i k2 o
   have k1:x.k=1:=by omega
   rw[if_pos k1]at a
   simp only[aL]at a
   split
   ·rename_i d
    exact⟨(G6 a.1.1).2,λh=>by rw[h]at d;cases d⟩
   ·refine⟨by simp[aQ,bsL],λ_=>?_⟩
    have: ∃t,(bsL [46]++x.nm).data.toList =46::t:=by simp[aQ,bsL]
    obtain⟨t,c⟩:=this
    rw[c];exact Nq (by decide)
theorem Wu (p:List Stp)(hp: ∀x∈p,Dl x=true):Zn ((Ei false p).data.toList):=by
 cases p with
 | nil=>intro c t h;cases h
 | cons x r=>
  have d:=T1 false x (hp x (by simp))
  obtain⟨c,a,b⟩:=eK d.1
  have e:=d.2 rfl
  rw[b]at e
  have g:=e c a rfl
  simp only[Ei,aQ,b]
  exact Nq g
theorem Abc (s:ByteArray)(u:s.size<=100000)(full:List Stp)(a:Cy full=true): ∀ (p done:List Stp) (i:Nat),done++p=full->s.data.toList.drop i=(Ei (decide (i=0)) p).data.toList ->i<=s.size->
  W F223 1 [.str s,.int i,.list (done.map Stp.enc)]=some [.list (full.map Stp.enc),.int 0]
 | [],done,i,hd,h,z=>by
  rw[bF]at hd
  subst hd
  have d:s.size<=i:=by
   have:=congrArg dA h
   rw[dD,C8]at this
   have e:(Ei (decide (i=0)) []).data.toList.length =0:=rfl
   rw[e]at this;omega
  have g: ¬ i<s.size:=by omega
  have b:=a
  unfold Cy at b
  simp only[aL,bH,decide_eq_true_eq]at b
  have A:=Ll done (λx o=>by
   have:=Dv (b.1 x o)
   exact⟨by omega,by omega⟩) (by omega)
  rw[All]
  simp only[cW,aA,bA,Al,g,Ze,aR,aB,Zf,A,bE,a,cX,aV]
 | x::p,done,i,hd,h,z=>by
  have b:=a
  unfold Cy at b
  simp only[aL,bH,decide_eq_true_eq]at b
  have o:Dl x=true:=b.1 x (by rw[<-hd];simp)
  have hp: ∀y∈p,Dl y=true:=λy B=>b.1 y (by rw[<-hd];simp[B])
  simp only[Ei,aQ]at h
  have q:=Bbu s u x o i _ h (Wu p hp)
  have j:=(T1 (decide (i=0)) x o).1
  have m:0<(H0 (decide (i=0)) x).data.toList.length :=bX.2 j
  have d:=Ws h (by simp[j])
  have c:=Sy h
  rw[aO]at d
  rw[C8]at c m d
  have r:decide (i+(H0 (decide (i=0)) x).size =0)=false:=decide_eq_false (by omega)
  have g:i<s.size:=by omega
  have hlen:done.length+p.length+1=full.length:=by rw[<-hd];simp;omega
  have t:((done.map Stp.enc).length + [x.enc].length) * 48<=Bb:=by
   simp only[aD,aT]
   have:(done.length+1) * 48<=100 * 48:=aX (by omega) (bN _)
   unfold Bb;omega
  have w:=Abc s u full a p (done++ [x]) (i+(H0 (decide (i=0)) x).size) (by rw[<-hd];simp) (by rw[r];exact c) (by omega)
  have e1:dF 5 (Zy x (i+(H0 (decide (i=0)) x).size))=some (.bool false):=rfl
  have C:gX 0 4 (Zy x (i+(H0 (decide (i=0)) x).size))=some x.enc:=rfl
  have F:dF 4 (Zy x (i+(H0 (decide (i=0)) x).size))=some (.int ((i+(H0 (decide (i=0)) x).size :Nat):Int)):=rfl
  rw[All]
  simp only[cW,aA,bA,Al,g,Zd,aR,Zt,q,bE,e1,aB,Zf,C,gB,fB,t,F]
  rw[cF]at w
  exact w
theorem T5 (p:List Stp)(hp: ∀x∈p,Dl x=true): ∀b,(Ei b p).size <=500 * p.length:=by
 induction p with
 | nil=>intro b;show 0<=_;omega
 | cons x r a=>
  intro b
  have d:(H0 b x).size <=500:=T4 (hp x (by simp))
  have e:=a (λy c=>hp y (by simp[c])) false
  simp only[Ei,aM,aY];omega
theorem Vg (p:List Stp)(hp:Cy p=true):W F223 0 [.str (Cn p)]=some [.list (p.map Stp.enc),.int 0]:=by
 have a:=hp
 unfold Cy at a
 simp only[aL,bH,decide_eq_true_eq]at a
 have c:=T5 p a.1 true
 have d:500 * p.length<=500 * 16:=aX (bN _) a.2
 have e:Cn p=Ei true p:=by unfold Cn;rw[if_pos hp];rfl
 rw[A0m,e]
 have b: ¬ (20000:Int)<((Ei true p).size :Int):=by omega
 have:=Abc (Ei true p) (by omega) p hp p [] 0 rfl rfl (by omega)
 simp only[aN,bO]at this
 simp only[cW,aA,cR,b,Ze,aR,aB,Zf,this]
end Go.CT.Sch
namespace Go.CT
def SS (l:List ByteArray):Prop:=l.Pairwise λa b=>blt a b=true
theorem SS.ext: ∀ {a b:List ByteArray},SS a->SS b->(∀x,x∈a↔x∈b)->a=b
 | [],[],_,_,_=>rfl
 | [],y::b,_,_,h=>by have:=(h y).2 dN;cases this
 | x::a,[],_,_,h=>by have:=(h x).1 dN;cases this
 | x::a,y::b,j,m,h=>by
  obtain⟨i,a2⟩:=bI.1 j
  obtain⟨b1,b2⟩:=bI.1 m
  have d:x=y:=by
   rcases bM.1 ((h x).1 dN) with e | e
   ·exact e
   ·rcases bM.1 ((h y).2 dN) with g | g
    ·exact g.symm
    ·have:=Hm (b1 x e) (i y g)
     rw[Es]at this;cases this
  subst d
  rw[SS.ext a2 b2 λz=>⟨λc=>?_,λc=>?_⟩]
  ·rcases bM.1 ((h z).1 (cN _ c)) with rfl | e
   ·have:=i z c;rw[Es]at this;cases this
   ·exact e
  ·rcases bM.1 ((h z).2 (cN _ c)) with rfl | e
   ·have:=b1 z c;rw[Es]at this;cases this
   ·exact e
theorem Yg {l:List (List UInt8)}{x:List UInt8} :x∈Lib.compact l↔x∈l:=by
 unfold Lib.compact Lib.compactUpTo
 simp only[dR,cY,gQ]
 constructor
 ·rintro⟨j,⟨g,_⟩,rfl⟩
  have:l.toArray[j]! =l[j]:=by simp[g]
  rw[this];exact aK g
 ·intro m
  obtain⟨i,a,rfl⟩:=List.mem_iff_getElem.1 m
  -- the first place
  have: ∀i,∀a:i<l.length,∃j,j<l.length/\Lib.keeps l.toArray j=true/\l.toArray[j]! =l[i]:=by
   intro i
   induction i with
   | zero=>intro a;exact⟨0,a,by simp[Lib.keeps],by simp[a]⟩
   | succ i o=>
    intro a
    by_cases h:l[i]=l[i+1]
    ·obtain⟨j,b,c,d⟩:=o (by omega)
     exact⟨j,b,c,d.trans h⟩
    ·refine⟨i+1,a,Lib.keeps_pos ?_,by simp[a]⟩
     have b:i<l.length:=by omega
     simp[a,b]
     exact λe=>h e.symm
  obtain⟨j,b,c,d⟩:=this i a
  exact⟨j,⟨b,c⟩,d⟩
theorem Ah8 {l:List (List UInt8)}(h:l.Pairwise λa b=>Op.bytesLess b a=false):(Lib.compact l).Pairwise λa b=>Op.bytesLess a b=true:=by
 unfold Lib.compact Lib.compactUpTo
 rw[fZ]
 have u:((iE l.length).filter (Lib.keeps l.toArray)).Pairwise (· < ·):=hJ _ List.pairwise_lt_range
 refine u.imp_of_mem fun {i j} w q x=>?_
 simp only[cY,gQ]at w q
 obtain⟨c,d⟩:=q
 have g:i<l.length:=by omega
 have hp:j - 1<l.length:=by omega
 have ei:l.toArray[i]! =l[i]:=by simp[g]
 have ej:l.toArray[j]! =l[j]:=by simp[c]
 have ep:l.toArray[j - 1]! =l[j - 1]:=by simp[hp]
 rw[ei,ej]
 have m:l[j]≠l[j - 1]:=by
  intro e
  have:Lib.keeps l.toArray j=false:=Lib.keeps_neg (by omega) (by rw[ej,ep];exact e)
  rw[this]at d;cases d
 have r:Op.bytesLess l[j] l[j - 1]=false:=eM.1 h (j - 1) j hp c (by omega)
 have o:Op.bytesLess l[j - 1] l[j]=true:=by
  rcases Vi l[j - 1] l[j]with h | h | h
  ·exact h
  ·exact absurd h.symm m
  ·rw[h]at r;cases r
 by_cases y:i=j - 1
 ·subst y;exact o
 ·have t:Op.bytesLess l[j - 1] l[i]=false:=eM.1 h i (j - 1) g hp (by omega)
  rcases Vi l[i] l[j - 1]with h | h | h
  ·exact Acp h o
  ·rw[h];exact o
  ·rw[h]at t;cases t
def Zw (l:List ByteArray):List ByteArray:=Gh (P6 l)
theorem Ve {l:List ByteArray}{x:ByteArray} :x∈Zw l↔x∈l:=by
 unfold Zw Gh
 rw[Vd];unfold Ak2
 rw[Acb,dR]
 constructor
 ·rintro⟨y,a,rfl⟩
  rw[Yg,fS,dR]at a
  obtain⟨z,b,rfl⟩:=a
  rw[Ad2];exact b
 ·intro c
  refine⟨x.data.toList,?_,Ad2 x⟩
  rw[Yg,fS,dR]
  exact⟨x,c,rfl⟩
theorem Av7 (l:List ByteArray):SS (Zw l):=by
 unfold Zw Gh SS
 rw[Vd];unfold Ak2
 rw[Acb,fZ]
 refine(Ah8 (Afj _)).imp λh=>?_
 unfold blt
 rw[Rx,Rx];exact h
theorem Nf (l:List ByteArray):(Zw l).length <=l.length:=by
 unfold Zw Gh
 rw[Vd];unfold Ak2
 rw[Acb,aD]
 have a: ∀l:List (List UInt8),(Lib.compact l).length <=l.length:=λl=>by
  have a:(Lib.compact l).length <=(iE l.length).length :=by
   unfold Lib.compact Lib.compactUpTo
   rw[aD]
   exact dS _ _
  simpa using a
 refine dC (a _) ?_
 rw[List.length_mergeSort,aD];exact bN _
end Go.CT
namespace Go.CT.Sch
open Go.Proofs
abbrev SL (l:List ByteArray):IV:=eH IV.str l
theorem Aj1 {l:List ByteArray}(h:l.length<=1099511627776):O.Mo [SL l]=some [SL l]:=by
 unfold O.Mo SL eH
 simp only[aD]
 rw[if_pos (by unfold Bb;omega)]
theorem A2f {l:List ByteArray}(h:l.length<=1099511627776):O.Akr [SL l]=some [SL (P6 l)]:=by
 unfold O.Akr SL eH
 simp only[Mk,aA]
 rw[if_pos (by omega)]
theorem Akm {l:List ByteArray}(h:l.length<=1099511627776):O.M6 [SL l]=some [SL (Gh l)]:=by
 unfold O.M6 SL eH
 simp only[Mk,aA]
 rw[if_pos (by omega)]
theorem Bhj {l:List ByteArray}(h:l.length<=1099511627776):W F144 0 [SL l]=some [SL (Zw l)]:=by
 have a:(P6 l).length =l.length:=(Pp l).length_eq
 rw[A2z,A0e]
 simp only[bE,A43,Be9,Bc1,Bff,Aj1 h,A2f h,Akm (l:=P6 l) (by omega)]
 rfl
theorem A87 (a b:List ByteArray)(m:a.length<=1048576)(o:b.length<=1048576):W F187 0 [.list [SL a,SL b]]=some [SL (a++b)]:=by
 have g:O.Ai6 16 [.list [],.int ((a.length:Int)+(b.length:Int))]=some [.list []]:=by
  simp only[O.Ai6]
  rw[if_pos]
  unfold Bb
  refine⟨by omega,?_,?_⟩<;>simp only[bB]<;>omega
 have w1:IntKind.i64.wrap (0+(a.length:Int))=(a.length:Int):=by rw[wrap64 (by omega) (by omega)];omega
 have h:IntKind.i64.wrap ((a.length:Int)+(b.length:Int))=(a.length:Int)+(b.length:Int):=wrap64 (by omega) (by omega)
 have c:IntKind.i64.wrap (0+1)=1:=by decide
 have d:IntKind.i64.wrap (1+1)=2:=by decide
 have i: ¬ (a.length:Int)<0:=by omega
 have j: ¬ (a.length:Int)+(b.length:Int)<0:=by omega
 have ap1:gN 16 (.list []) (SL a)=some (SL a):=by
  unfold SL eH
  rw[fB,if_pos (by simp only[bB,aD,Bb];omega)]
  rfl
 have ap2:gN 16 (SL a) (SL b)=some (SL (a++b)):=by
  unfold SL eH
  rw[fB,if_pos (by simp only[aD,Bb];omega),cF]
 have i0:eO (.list [SL a,SL b]) (.int 0)=some (SL a):=rfl
 have i1:eO (.list [SL a,SL b]) (.int 1)=some (SL b):=rfl
 have e:O.len (.list [SL a,SL b])=some (.int 2):=rfl
 have lt0:decide ((0:Int)<2)=true:=by decide
 have lt1:decide ((1:Int)<2)=true:=by decide
 have lt2:decide ((2:Int)<2)=false:=by decide
 rw[A2k]
 simp only[e,aA]
 rw[Adz]
 simp only[bA,lt0,aA,aR,Zt,i0,dX,bR,w1,i,Ze,aB,Zf]
 rw[Am9]
 simp only[bR,c,aA]
 rw[Adz]
 simp only[bA,lt1,aA,aR,Zt,i1,dX,bR,h,j,Ze,aB,Zf]
 rw[Am9]
 simp only[bR,d,aA]
 rw[Adz]
 simp only[bA,lt2,aA,aR,aB,Zf,Bda,g,bE,e]
 rw[Aci]
 simp only[bA,lt0,aA,aR,Zt,i0,ap1,bR,c]
 rw[Aci]
 simp only[bA,lt1,aA,aR,Zt,i1,ap2,bR,d]
 rw[Aci]
 simp only[bA,lt2,aA,aR,aB,Zf]
theorem A55 (a b:List ByteArray)(c:a.length<=1048576)(d:b.length<=1048576):W F186 0 [SL a,SL b]=some [SL (Zw (a++b))]:=by
 rw[A0u]
 simp only[gB,aA,A87 a b c d,bE,Bhj (l:=a++b) (by simp only[aO];omega)]
def inB (l:List ByteArray)(s:ByteArray):Bool:=l.any λt=>decide (s=t)
theorem Ii {l:List ByteArray}{s:ByteArray} :inB l s=true↔s∈l:=by
 unfold inB;rw[List.any_eq_true]
 constructor
 ·rintro⟨t,a,b⟩;rw[of_decide_eq_true b];exact a
 ·intro h;exact⟨s,h,by simp⟩
theorem Vc (k:ByteArray)(ks:List ByteArray)(s:ByteArray):inB (k::ks) s=(decide (s=k)||inB ks s):=rfl
def N7 (ks:List ByteArray):List IV:=ks.map λk=> .agg [.str k,.bool true]
theorem Ayt (s t:ByteArray):(IV.str s).Qc (.str t)=some (decide (s=t)):=by
 have:(s.toList == t.toList)=decide (s=t):=by
  rw[aS,beq_iff_eq,decide_eq_true_iff];exact O.Tn
 simp only[IV.Qc,this]
theorem Y4 (s:ByteArray): ∀ks:List ByteArray,U8 (.str s) (N7 ks)=some (if inB ks s then some (.bool true) else none)
 | []=>rfl
 | k::ks=>by
  have a:=Y4 s ks
  unfold N7 at a ⊢
  simp only[bJ,U8,Ayt]
  by_cases h:s=k
  ·subst h;simp[Vc]
  ·simp only[h,Ze,a,Vc,dW]
theorem Axg (s:ByteArray): ∀ks:List ByteArray,Awj (.str s) (.bool true) (N7 ks)=some (N7 (if inB ks s then ks else ks++ [s]))
 | []=>rfl
 | k::ks=>by
  have a:=Axg s ks
  unfold N7 at a ⊢
  simp only[bJ,Awj,Ayt]
  by_cases h:s=k
  ·subst h;simp[Vc]
  ·simp only[h,Ze,a,Vc,dW,aI]
   cases inB ks s<;>simp
def N5:List ByteArray->List ByteArray->List ByteArray
 | acc,[]=>acc
 | acc,s::l=>N5 (if inB acc s then acc else acc++ [s]) l
theorem Yr: ∀ (l acc:List ByteArray) (x:ByteArray),x∈N5 acc l↔x∈acc\/x∈l
 | [],acc,x=>by simp[N5]
 | s::l,acc,x=>by
  rw[N5,Yr l]
  by_cases h':inB acc s=true
  ·have h:=Ii.1 h'
   simp only[h',Zt,bM]
   constructor
   ·rintro (a | a)
    ·exact .inl a
    ·exact .inr (.inr a)
   ·rintro (a | rfl | a)
    ·exact .inl a
    ·exact .inl h
    ·exact .inr a
  ·simp[h',or_assoc]
theorem Bfw (s:ByteArray)(ks:List ByteArray)(is:Bool):W F154 0 [.str s,.list (N7 ks),.bool is]=some [.bool (inB ks s !=is),.list (N7 ks),.bool is]:=by
 have c:O.An4 (.bool false) (.list (N7 ks)) (.str s)=some (.bool (inB ks s)):=by
  unfold O.An4
  simp only[dB,Y4,aI]
  cases inB ks s<;>simp
 have a: ∃b,O.Aji (.list (N7 ks)) (.str s)=some (.bool b):=by
  unfold O.Aji
  simp only[dB,Y4,aI]
  exact⟨_,rfl⟩
 obtain⟨b,a⟩:=a
 rw[A1g]
 simp only[c,a,aA,O.Alj]
end Go.CT.Sch
namespace Go.CT.Sch
open Go.Proofs
def Afp (ks:List ByteArray)(is:Bool)(s:ByteArray):Bool:= !(inB ks s !=is)
theorem A50 (l ks:List ByteArray)(is:Bool)(e:l.length<=1099511627776): ∀ (n i:Nat),i+n=l.length->(∀p∈l.take i,Afp ks is p=true)->
  (W F153 1 [SL l,.int l.length,.int i,.bool is,.list (N7 ks)]=some [.int (-1),.list (N7 ks),.bool is]/\ ∀p∈l,Afp ks is p=true)\/
  ∃j,∃h:j<l.length,W F153 1 [SL l,.int l.length,.int i,.bool is,.list (N7 ks)]=some [.int (j:Nat),.list (N7 ks),.bool is]/\Afp ks is l[j]=false/\ ∀p∈l.take j,Afp ks is p=true
 | 0,i,h,hp=>by
  left
  rw[Aph]
  have g: ¬ i<l.length:=by omega
  rw[dQ (by omega)]at hp
  refine⟨?_,hp⟩
  simp only[bA,Al,g,Ze,aA,aR,aB,Zf]
 | n+1,i,h,hp=>by
  have a:i<l.length:=by omega
  have m:=Bf (i:=i) (by omega)
  have d:=fW IV.str (aC a)
  rw[Aph]
  cases c:(inB ks l[i] !=is) with
  | true=>
   right
   refine⟨i,a,?_,by simp[Afp,c],hp⟩
   simp only[bA,Al,a,Zd,aA,aR,Zt,d,Bfw,iD,c]
  | false=>
   have:=A50 l ks is e n (i+1) (by omega) (by
    intro p b
    rw[<-List.take_append_getElem a]at b
    rcases gJ.1 b with h | h
    ·exact hp p h
    ·simp at h;subst h;simp[Afp,c])
   simp only[bA,Al,a,Zd,aA,aR,Zt,d,Bfw,iD,c,aB,Zf,bR,m]
   exact this
theorem X8 (ks:List ByteArray)(is:Bool): ∀ (rest kept junk:List ByteArray),junk≠ []->kept.length+junk.length+rest.length<=1099511627776->
  W F152 1 [.int kept.length,.int (kept.length+junk.length:Nat),.bool is,SL (kept++(junk++rest)),.list (N7 ks)]=some [SL (kept++rest.filter (Afp ks is)),.list (N7 ks),.bool is]
 | [],kept,junk,d,e=>by
  have r:=bX.2 d
  rw[Ame,dX]
  have b: ¬ ((kept.length+junk.length:Nat):Int)<(kept++(junk++ [])).length :=by simp
  have o: ∀z:IV,O.clear z (SL (kept++(junk++ []))) (.int kept.length) (.int (kept++(junk++ [])).length)=some (.list (kept.map IV.str++List.replicate junk.length z)):=by
   intro z
   unfold O.clear SL eH
   simp only[dB,bF,aD,aO,aF,true_and,aE,bN,and_true]
   rw[if_pos (by omega)]
   simp
  have t: ∀ys:List IV,O.slice (.list (kept.map IV.str++ys)) (.int 0) (.int kept.length)=some (SL kept):=by
   intro ys
   rw[O.Pl,if_pos (by simp only[aO,aD];omega)]
   simp[SL,eH]
  have a: ∃y,O.slice (SL (kept++(junk++ []))) (.int kept.length) (.int (kept++(junk++ [])).length)=some y:=by
   unfold SL eH
   rw[O.Pl,if_pos (by simp only[aO,aD];omega)]
   exact⟨_,rfl⟩
  obtain⟨y,a⟩:=a
  simp only[bF]at b o a
  simp only[bF,aA,bA,b,Ze,aR,aB,Zf,a,o,t,List.filter_nil,bF]
 | v::rest,kept,[],d,e=>absurd rfl d
 | v::rest,kept,y::js,d,e=>by
  simp only[aY]at e
  rw[Ame,dX]
  have b:((kept.length+(y::js).length :Nat):Int)<(kept++(y::js++v::rest)).length :=by simp;omega
  have q:IntKind.i64.wrap (((kept.length+(y::js).length :Nat):Int)+1)=((kept.length+(y::js).length +1:Nat):Int):=by simp only[aY];rw[wrap64 (by omega) (by omega)];omega
  have g:IntKind.i64.wrap ((kept.length:Int)+1)=((kept.length+1:Nat):Int):=Bf (by omega)
  have gv:=fW IV.str (Srt.C9 (l:=kept++(y::js++v::rest)) (A:=kept++y::js) (x:=v) (B:=rest) (by simp) (i:=kept.length+(y::js).length) (by simp))
  have gi:=fW IV.str (Srt.C9 (l:=kept++(y::js++v::rest)) (A:=kept) (x:=y) (B:=js++v::rest) (by simp) (i:=kept.length) rfl)
  have st:=Srt.Jc (l:=kept++(y::js++v::rest)) (A:=kept) (x:=y) (y:=v) (B:=js++v::rest) (by simp) (i:=kept.length) rfl
  have h:kept.length<(kept++(y::js++v::rest)).length :=by simp
  rw[cE]
  cases c:(inB ks v !=is) with
  | true=>
   have j:=X8 ks is rest kept (y::js++ [v]) (by simp) (by simp;omega)
   have m:Afp ks is v=false:=by simp[Afp,c]
   simp only[aA,bA,b,Zd,aR,Zt,gv,Bfw,iD,c,cX,aV,aB,Zf,Aly,bR,q,m]
   rw[show kept.length+(y::js).length +1=kept.length+(y::js++ [v]).length by simp;omega]
   rw[<-j];simp
  | false=>
   have j:=X8 ks is rest (kept++ [v]) (js++ [v]) (by simp) (by simp;omega)
   have m:Afp ks is v=true:=by simp[Afp,c]
   simp only[aA,bA,b,Zd,aR,Zt,gv,Bfw,iD,c,cX,bG,gi,Srt.Aqx IV.str h,st,bR,g,Aly,q,m]
   rw[show kept.length+(y::js).length +1=(kept++ [v]).length +(js++ [v]).length by simp;omega,show kept.length+1=(kept++ [v]).length by simp]
   rw[show kept++v::(js++v::rest)=kept++ [v]++(js++ [v]++rest) by simp,j]
   simp
theorem A74 (l ks:List ByteArray)(is:Bool)(h:l.length<=1099511627776):
  W F152 0 [SL l,.list (N7 ks),.bool is]=some [SL (l.filter (Afp ks is)),.list (N7 ks),.bool is]:=by
 rw[A5f,A32]
 have key:=A50 l ks is h l.length 0 (by omega) (by simp)
 simp only[aN]at key
 rcases key with⟨a,b⟩ | ⟨j,i,a,b,m⟩
 ·simp only[dX,aA,a,iD,aW,Zd,aR,Zt]
  rw[fN.2 b]
 ·have c: ¬ (j:Int)= -1:=by omega
  have d:IntKind.i64.wrap ((j:Int)+1)=((j+1:Nat):Int):=Bf (by omega)
  simp only[dX,aA,a,iD,aW,c,Ze,aR,aB,Zf,bR,d]
  have g:l=l.take j++([l[j]]++l.drop (j+1)):=by
   rw[fG,<-aG i,fD]
  have e:(l.take j).length =j:=by rw[eQ];omega
  have o:(l.drop (j+1)).length =l.length - (j+1):=by rw[dD]
  have hd:=X8 ks is (l.drop (j+1)) (l.take j) [l[j]] (by simp) (by simp only[aT];omega)
  rw[e,aT,<-g]at hd
  rw[hd]
  have q:l.filter (Afp ks is)=l.take j++(l.drop (j+1)).filter (Afp ks is):=by
   conv=>lhs;rw[g]
   rw[eI,eI,fN.2 m]
   congr 1
   simp[b]
  rw[q]
theorem Au5 (a b:List ByteArray)(is:Bool)(d:a.length<=1048576)(e:b.length<=1048576): ∀ (n i:Nat) (acc:List ByteArray),i+n=b.length->
  W F151 1 [SL a,SL b,.int b.length,.int i,.bool is,.list (N7 acc)]=some [SL ((Zw a).filter (Afp (N5 acc (b.drop i)) is))]
 | 0,i,acc,h=>by
  have g: ¬ i<b.length:=by omega
  have hd:=A74 (Zw a) acc is (by have:=Nf a;omega)
  rw[A51]
  simp only[bA,Al,g,Ze,aA,aR,aB,Zf,Bhj (l:=a) (by omega),bE,hd,iD]
  rw[aH (by omega)];rfl
 | n+1,i,acc,h=>by
  have c:i<b.length:=by omega
  have j:=Bf (i:=i) (by omega)
  have m:=fW IV.str (aC c)
  have o:O.Aqi (.list (N7 acc)) (.str b[i]) (.bool true)=some (.list (N7 (if inB acc b[i]then acc else acc++ [b[i]]))):=by
   unfold O.Aqi
   simp only[dB,Axg,aI]
  rw[A51]
  simp only[bA,Al,c,Zd,aA,aR,Zt,m,o,bR,j]
  rw[Au5 a b is d e n (i+1) _ (by omega),aG c,N5]
theorem Bcv (a b:List ByteArray)(is:Bool)(c:a.length<=1048576)(d:b.length<=1048576):
  W F151 0 [SL a,SL b,.bool is]=some [SL ((Zw a).filter (λs=>inB b s == is))]:=by
 have h:=Au5 a b is c d b.length 0 [] (by omega)
 simp only[aN,aP]at h
 rw[A0y,dX]
 simp only[aA]
 refine h.trans ?_
 have e:Afp (N5 [] b) is=λs=>inB b s == is:=by
  funext s
  have:inB (N5 [] b) s=inB b s:=by
   rw[aS,Ii,Ii,Yr];simp
  unfold Afp
  rw[this]
  cases inB b s<;>cases is<;>rfl
 rw[e]
end Go.CT.Sch
namespace Go.CT.Sch
open Go.Proofs
end Go.CT.Sch
namespace Go.CT.Sch
open Go.Proofs
def Hg (a b:List ByteArray):List ByteArray:=(Zw a).filter λs=> !inB b s
def Oy (a b:List ByteArray):List ByteArray:=(Zw a).filter λs=>inB b s
theorem Agm (a b:List ByteArray)(c:a.length<=1048576)(d:b.length<=1048576):W F150 0 [SL a,SL b]=some [SL (Hg a b)]:=by
 rw[A5p,Bcv a b false c d]
 simp only[bE]
 congr 3
 unfold Hg;congr 1;funext s;cases inB b s<;>rfl
theorem A6o (a b:List ByteArray)(c:a.length<=1048576)(d:b.length<=1048576):W F209 0 [SL a,SL b]=some [SL (Oy a b)]:=by
 rw[A4d,Bcv a b true c d]
 simp only[bE]
 congr 3
 unfold Oy;congr 1;funext s;cases inB b s<;>rfl
theorem Lw (a b:List ByteArray):(Hg a b).length <=a.length:=dC (dS _ _) (Nf a)
end Go.CT.Sch
namespace Go.CT.Sch
open Go.Proofs
abbrev Kid:=Stp × Val × Option Sch
def Al2 (key:ByteArray)(x:Val):Stp:=⟨3,key,0,Dr x key⟩
def Em (key:ByteArray):List ByteArray->List Val->Bool
 | _,[]=>true
 | met,x::l=>isKey x key&& !inB met (Dr x key)&&Em key (met++ [Dr x key]) l
def kids:Option Sch->Val->List Kid
 | none,_=> []
 | some s,v=>if s.k=v.k then(if v.k=5 then v.f.map λx=>(Cv x.1,x.2,D5 s x.1) else if v.k=4/\s.key≠An/\Em s.key [] v.l=true then v.l.map λx=>(Al2 s.key x,x,s.it.head?) else[]) else[]
def Qe (s:ByteArray):Val:=⟨3,0,s,[],[]⟩
def lv:Nat->Option Sch->Val->List Stp->List ByteArray
 | 0,_,_,_=> []
 | d+1,o,v,p=>if kids o v= []then[Cn p]else(kids o v).flatMap λx=>lv d x.2.2 x.2.1 (p++ [x.1])
def Ic (r:Kid->Val × Bool)(l:List Kid):List (Stp × Val):=l.filterMap λx=>if(r x).2 then some (x.1,(r x).1) else none
def fieldsOf (l:List (Stp × Val)):List (ByteArray × Val):=l.map λx=>(x.1.nm,x.2)
def Il (l:List (Stp × Val)):List Val:=l.map λx=>Ez x.2 x.1.nm (Qe x.1.vl)
def pt:Nat->Option Sch->Val->List Stp->(ByteArray->Bool)->Val × Bool
 | 0,_,v,_,_=>(v,false)
 | d+1,o,v,p,ch=>if kids o v= []then(v,ch (Cn p)) else
  (⟨
    v.k,0,An,if v.k=5 then[]else Il (Ic (λx=>pt d x.2.2 x.2.1 (p++ [x.1]) ch) (kids o v)),
    if v.k=5 then fieldsOf (Ic (λx=>pt d x.2.2 x.2.1 (p++ [x.1]) ch) (kids o v)) else[]⟩,
   !(Ic (λx=>pt d x.2.2 x.2.1 (p++ [x.1]) ch) (kids o v)).isEmpty)
theorem Sr {o:Option Sch}{v:Val}{x:Kid}(h:x∈kids o v):x.2.1.size<v.size/\x.2.1.Ap<v.Ap:=by
 cases o with
 | none=>simp[kids]at h
 | some s=>
  rw[kids]at h
  split at h
  ·split at h
   ·obtain⟨p,hp,rfl⟩:=dR.1 h
    have:=dZ hp
    exact⟨Val.Ux hp,by show p.2.Ap<v.Ap;omega⟩
   ·split at h
    ·obtain⟨p,hp,rfl⟩:=dR.1 h
     exact⟨Val.U0 hp,eF hp⟩
    ·simp at h
  ·simp at h
end Go.CT.Sch
namespace Go.CT.Sch
open Go.Proofs
theorem An3 {α β R:Type}(l:List α)(I:Nat->β->Prop)(F:Nat->β->R)(step:β->α->β)(fin:β->R)
  (g: ∀i (a:i<l.length) b,I i b->F i b=F (i+1) (step b l[i])/\I (i+1) (step b l[i])) (j: ∀b,I l.length b->F l.length b=fin b):
  ∀ (n i:Nat) (b:β),i+n=l.length->I i b->F i b=fin ((l.drop i).foldl step b)
 | 0,i,b,h,c=>by
  have:i=l.length:=by omega
  subst this
  rw[j b c,List.drop_length];rfl
 | n+1,i,b,h,c=>by
  have a:i<l.length:=by omega
  obtain⟨e,d⟩:=g i a b c
  rw[e,An3 l I F step fin g j n (i+1) _ (by omega) d,aG a];rfl
theorem Ag8 {α β R:Type}(l:List α)(I:Nat->β->Prop)(F:Nat->β->R)(step:β->α->β)(fin:β->R)(b:β)
  (a: ∀i (e:i<l.length) b,I i b->F i b=F (i+1) (step b l[i])/\I (i+1) (step b l[i])) (c: ∀b,I l.length b->F l.length b=fin b) (d:I 0 b):
  F 0 b=fin (l.foldl step b):=by
 have:=An3 l I F step fin a c l.length 0 b (by omega) d
 rwa [aP]at this
theorem Rv {α β:Type}(g:α->β): ∀ (l:List α) (b:List β),l.foldl (λb x=>b++ [g x]) b=b++l.map g
 | [],b=>by simp
 | x::l,b=>by rw[List.foldl_cons,Rv g l];simp
theorem Kg {α:Type}(enc:α->IV){l:List α}{i:Nat}(h:i<l.length):eO (.list (l.map enc)) (.int i)=some (enc l[i]):=by
 simp only[cD,aF,Zt,aE,aJ,aC h,aI]
theorem G5 {α:Type}(enc:α->IV)(l:List α):O.len (.list (l.map enc))=some (.int l.length):=by rw[bY,aD]
theorem apm {α:Type}(enc:α->IV){n:Nat}(l:List α)(x:α)(b:l.length<=137438953471)(a:n<=1024:=by decide):gN n (.list (l.map enc)) (.list [enc x])=some (.list ((l++ [x]).map enc)):=by
 rw[fB,if_pos]
 ·simp
 ·have:(l.length+1) * n<=137438953472 * 1024:=aX (by omega) a
  simp only[aD,aT]
  unfold Bb;omega
theorem lti {i n:Nat}(h:i<n):O.lt (.int i) (.int n)=some (.bool true):=by rw[bA];simp;omega
theorem ltn (n:Nat):O.lt (.int n) (.int n)=some (.bool false):=by rw[bA];simp
theorem nxt {i:Nat}(h:i<4611686018427387904):O.add .i64 (.int i) (.int 1)=some (.int ((i+1:Nat):Int)):=by rw[bR,Bf (by omega)]
def G8 (x:Kid):IV:= .agg [.int x.1.k,.str x.1.nm,.int x.1.ix,.str x.1.vl,.int x.2.1.k,.int x.2.1.n,.str x.2.1.s,.list (x.2.1.l.map bT),.list (x.2.1.f.map bD),
 .int (x.2.2.getD Bg).k,.int (x.2.2.getD Bg).mn,.int (x.2.2.getD Bg).mx,.list ((x.2.2.getD Bg).en.map .str),.str (x.2.2.getD Bg).key,.list ((x.2.2.getD Bg).it.map gW),.list ((x.2.2.getD Bg).f.map cP),.bool x.2.2.isSome]
theorem Amk (x:Kid):gX 0 4 (G8 x)=some x.1.enc:=rfl
theorem Axu (x:Kid):gX 4 5 (G8 x)=some x.2.1.enc:=by rw[Val.Eo,eG];rfl
theorem A7y (x:Kid):gX 9 7 (G8 x)=some (x.2.2.getD Bg).enc :=by rw[Sch.Eo,Sch.Bm];rfl
theorem kid0 (x:Kid):dF 0 (G8 x)=some (.int x.1.k):=rfl
theorem kid1 (x:Kid):dF 1 (G8 x)=some (.str x.1.nm):=rfl
theorem kid3 (x:Kid):dF 3 (G8 x)=some (.str x.1.vl):=rfl
theorem kid4 (x:Kid):dF 4 (G8 x)=some (.int x.2.1.k):=rfl
theorem kid9 (x:Kid):dF 9 (G8 x)=some (.int (x.2.2.getD Bg).k):=rfl
theorem Bhp (x:Kid):dF 13 (G8 x)=some (.str (x.2.2.getD Bg).key):=rfl
theorem Bhk (x:Kid):dF 16 (G8 x)=some (.bool x.2.2.isSome):=rfl
theorem Alq (s:Sch)(p:ByteArray × Val)(d:s.Ap<=1099511627776): ∀ (n i:Nat),i+n=s.f.length->
  ∃r:Int,W F139 1 [.list (s.f.map cP),bD p,.int s.f.length,.int i]=some [.int r]/\
   ((((s.f.drop i).find? λq=>decide (q.nm=p.1))=none/\r<0)\/(∃j:Nat,r=j/\s.f[j]?=((s.f.drop i).find? λq=>decide (q.nm=p.1))/\((s.f.drop i).find? λq=>decide (q.nm=p.1)).isSome =true))
 | 0,i,h=>by
  rw[Aqb]
  have b: ¬ i<s.f.length:=by omega
  refine⟨-1,by simp[b],.inl ⟨by simp[aH (aZ b)],by omega⟩⟩
 | n+1,i,h=>by
  have a:i<s.f.length:=by omega
  have m:=s.Bc
  obtain⟨r,e,g⟩:=Alq s p d n (i+1) (by omega)
  rw[Aqb,aG a,bW]
  simp only[lti a,aA,aR,Zt,Kg cP a,A03,eE,dE,gA,bE,nxt (show i<4611686018427387904 by omega),e]
  by_cases c:s.f[i].nm =p.1
  ·refine⟨i,by simp[c],.inr ⟨i,rfl,by simp[c],by simp[c]⟩⟩
  ·have c':decide (s.f[i].nm =p.1)=false:=by simpa using c
   simp only[c',aB,Zf]
   exact⟨r,rfl,g⟩
def Hh (s:Sch)(x:ByteArray × Val):Kid:=(Cv x.1,x.2,D5 s x.1)
theorem Aq3 (s:Sch)(v:Val)(z:s.Ap<=1099511627776)(H:v.Ap<=1048576):W Bfp 0 [s.enc,v.enc]=some [.list ((v.f.map (Hh s)).map G8)]:=by
 have I:=v.Bc
 rw[Azw]
 simp only[cL,aA,G5]
 refine(Ag8 v.f (λi (b:List Kid)=>b.length=i) (λi b=>W Bfp 1 [.list (v.f.map bD),.int v.f.length,.int i,s.enc,.list (b.map G8)]) (λb x=>b++ [Hh s x]) (λb=>some [.list (b.map G8)]) [] ?_ ?_ rfl).trans ?_
 ·intro i u b w
  refine⟨?_,by simp[w]⟩
  rw[A58]
  have g: ∀ (o:Option Sch),D5 s v.f[i].1 =o->W Bfp 2 [.list (v.f.map bD),.int v.f.length,.int i,s.enc,.list (b.map G8),.int 1,.str v.f[i].1,.int 0,.str ⟨#[]⟩,.int v.f[i].2.k,.int v.f[i].2.n,.str v.f[i].2.s,.list (v.f[i].2.l.map bT),.list (v.f[i].2.f.map bD),
    .int (o.getD Bg).k,.int (o.getD Bg).mn,.int (o.getD Bg).mx,.list ((o.getD Bg).en.map .str),.str (o.getD Bg).key,.list ((o.getD Bg).it.map gW),.list ((o.getD Bg).f.map cP),.bool o.isSome]=
    W Bfp 1 [.list (v.f.map bD),.int v.f.length,.int (i+1:Nat),s.enc,.list ((b++ [Hh s v.f[i]]).map G8)]:=by
   rintro o rfl
   have A:=apm G8 (n:=248) b (Hh s v.f[i]) (by omega)
   rw[A2d]
   simp only[eU,gB,aA,nxt (show i<4611686018427387904 by omega)]
   have B:(IV.agg [.int 1,.str v.f[i].1,.int 0,.str ⟨#[]⟩,.int v.f[i].2.k,.int v.f[i].2.n,.str v.f[i].2.s,.list (v.f[i].2.l.map bT),.list (v.f[i].2.f.map bD),
    .int ((D5 s v.f[i].1).getD Bg).k,.int ((D5 s v.f[i].1).getD Bg).mn,.int ((D5 s v.f[i].1).getD Bg).mx,.list (((D5 s v.f[i].1).getD Bg).en.map .str),.str ((D5 s v.f[i].1).getD Bg).key,.list (((D5 s v.f[i].1).getD Bg).it.map gW),.list (((D5 s v.f[i].1).getD Bg).f.map cP),.bool (D5 s v.f[i].1).isSome])=G8 (Hh s v.f[i]):=rfl
   rw[B,A];rfl
  simp only[lti u,aA,aR,Zt,Kg bD u,dE,dI,dP,gL,gC,cQ,cL,eA,G5,cR]
  cases c:s.it with
  | cons t ts=>
   have a:D5 s v.f[i].1 =some t:=by unfold D5;rw[c]
   have:=g (some t) a
   simp only[bZ,cK]at this
   have h:(0:Int)<((t::ts).length :Nat):=by simp
   simp only[h,Zd,Zt,bJ,cD,cO,cC,bL,aA,gD,dL,dM,dU,eJ,eA,dJ]
   exact this
  | nil=>
   have a:D5 s v.f[i].1 =(s.fld v.f[i].1).map (·.s):=by unfold D5;rw[c]
   obtain⟨r,C,m⟩:=Alq s v.f[i] z s.f.length 0 (by omega)
   have q:W F139 0 [.list (s.f.map cP),bD v.f[i]]=some [.int r]:=by
    rw[Azh]
    simpa using C
   simp only[aP]at m
   have F:(s.f.find? λp=>decide (p.nm=v.f[i].1))=s.fld v.f[i].1 :=rfl
   rw[F]at m
   have h: ¬ (0:Int)<(([]:List Sch).length :Nat):=by simp
   simp only[h,Ze,aB,Zf,dJ,aA,q,bE,eZ,aR]
   rcases m with⟨e,y⟩ | ⟨j,rfl,e,y⟩
   ·have G: ¬ (0:Int)<=r:=by omega
    have:=g none (by rw[a,e];rfl)
    simp only[eR,dK]at this
    simp only[G,Ze,aB,Zf]
    exact this
   ·obtain⟨d,hd⟩:=dH.1 y
    rw[hd]at e
    have:=g (some d.s) (by rw[a,hd];rfl)
    simp only[bZ,cK]at this
    simp only[aF,Zd,Zt,cD,aE,aJ,e,aI,aA,fX,gD,dL,dM,dU,eJ,eA,dJ]
    exact this
 ·intro b w
  rw[A58]
  simp only[ltn,aA,aR,aB,Zf]
 ·rw[Rv];rfl
end Go.CT.Sch
