import Derived.Test.YtfealnpkfnjbkaaGreatDoorTabA
import Derived.Test.YtfealnpkfnjbkaaGreatDoorCtC
import Derived.Test.YtfealnpkfnjbkaaGreatDoorLib
set_option linter.unusedVariables false
set_option linter.unusedSimpArgs false
open Array renaming toList_extract->fG
open Bool renaming false_eq_true->aB,and_eq_true->aM,eq_iff_iff->aS,not_true->aV,not_false->aY,true_and->bI,and_true->cK,false_and->cL,eq_false_iff->cW,true_or->dA,false_or->dX,or_eq_true->eC,or_true->eE,or_self->eY,not_eq_true'->gB,and_false->gN,not_not->gU
open ByteArray renaming size_append->aL,toList_data_append->aT,append_assoc->bF,data_extract->eV
open Go.CT.Fld renaming enc->bG,Bj->dC,I5->dG,C7->hD
open Go.CT.O renaming Aa->aR,eq_int->aX,Ah->bB,Ae->bH,Al->bR,An->bY,Ak->cD,Ap->cT,Bt->cX,Bl->dF,proj->dU,Bx->eG,index->eO,Ed->eQ,Bf->eR,A9->fB,Gf->fF,Ci->fI,append->fK,Ch->fP,Cw->fQ,Ay->fR,Dz->gR,E3->gS,projs->gY,Hd->gZ,Sb->hA,Kh->hE
open Go.CT.Prim renaming ev->cZ
open Go.CT.SFld renaming enc->cS,Bj->eF,Tb->fY,C7->gV
open Go.CT.Sch renaming H6->dH,C7->dJ,Ee->dK,B5->dW,Hy->eB,Cb->eK,Gu->fS,Dq->fT,Bj->gD,enc->gX
open Go.CT.Srt renaming len->cC,idx->dQ,LE->dV,eqv->hG
open Go.CT.Val renaming enc->bS,Cb->cN,B5->cU,Bj->dN,Dq->eA,ind->eD,E5->eH,Ck->eI,valid->fL,get->fX,Ee->gC,C7->gL,Cf->hB,E6->hC,A8x->hI,Avh->hJ,Avx->hK
open Int renaming toNat_natCast->aG,natCast_nonneg->aH,cast_ofNat_Int->aN,toNat_zero->cB,le_refl->cR,eq_ofNat_of_zero_le->dM,ofNat_eq_natCast->fH,not_lt->gO,not_le->gP
open List renaming getElem?_eq_getElem->aC,drop_eq_getElem_cons->aD,drop_of_length_le->aE,length_map->aF,getElem?_map->aJ,getElem_mem->aK,length_append->aO,drop_zero->aP,length_singleton->aQ,length_eq_zero_iff->aU,length_nil->aZ,length_cons->bA,pairwise_cons->bC,nil_append->bE,mem_cons->bJ,append_nil->bK,append_assoc->bL,all_eq_true->bM,map_cons->bN,getElem?_cons_zero->bO,map_nil->bQ,filter_cons->bT,all_cons->bU,find?_cons->bV,mem_filter->bW,length_eq_one_iff->bX,length_pos_iff->bZ,flatMap_cons->cA,pairwise_singleton->cF,map_append->cG,all_nil->cH,append_eq_nil_iff->cI,mem_of_find?_eq_some->cO,mem_cons_of_mem->cP,flatMap_nil->cV,length->cY,length_drop->dB,mem_append->dE,mem_cons_self->dL,take_of_length_le->dP,mem_map->dR,singleton_append->dS,length_filter_le->dT,filter_append->eJ,exists_cons_of_ne_nil->eL,extract_eq_take_drop->eM,pairwise_iff_getElem->eN,length_take->eS,flatMap_eq_nil_iff->eU,filter_eq_nil_iff->eW,headD_cons->eZ,filter_nil->fA,take_append_drop->fC,set_getElem_self->fE,take_zero->fJ,mem_map_of_mem->fM,filter_eq_self->fN,any_cons->fO,mem_mergeSort->fV,mem_singleton->fW,pairwise_map->gA,not_mem_nil->gE,find?_some->gJ,mem_range->gQ,range->hF
open List.Pairwise renaming nil->cQ,filter->dZ
open List.cons renaming injEq->gH,inj->gT
open Nat renaming mul_le_mul->aW,le_of_not_lt->bD,le_refl->bP,mul_add->cJ,add_assoc->dD,le_trans->dO,zero_le->dY,pos_of_ne_zero->fU,add_zero->fZ,add_mul->gF,one_mul->gG,zero_add->gW
open Option renaming bind_some->aA,map_some->aI,getD_some->cE,isSome_some->cM,isSome_none->dI,isSome_iff_exists->eP,getD_none->eT,map_eq_some_iff->eX,map_none->gK,or_none->gM
open UInt8 renaming lt_iff_toNat_lt->fD,toNat_inj->gI
namespace Go.CT.Sch
open Go.Proofs
theorem A0m (c:UInt8):(0:Int)<=c.toNat/\(c.toNat:Int)<=255:=by
 have:=c.toNat_lt;omega
theorem Gy {s:ByteArray}{i:Nat}(h:i<s.size):s.data.toList.drop i=s[i]::s.data.toList.drop (i+1):=by
 rw[aD (by simpa using h)];rfl
theorem Ac9 (s:ByteArray)(g:s.size<=4611686018427387904): ∀ (n i:Nat),i+n=s.size->W A12 1 [.str s,.int i]=some [.bool ((s.data.toList.drop i).all Hm&&decide (s.size<=200))]
 | 0,i,h=>by
  rw[Ajl]
  have j: ¬ i<s.size:=by omega
  have m:s.data.toList.drop i= []:=aE (by simp;omega)
  have u:decide ((s.size:Int)<=200)=decide (s.size<=200):=by simp;omega
  simp[j,m]
  omega
 | n+1,i,h=>by
  have b:i<s.size:=by omega
  have o:=Ac9 s g n (i+1) (by omega)
  have q:=A8 (i:=i) (by omega)
  rw[Ajl,Gy b]
  have r:=A0m s[i]
  generalize t:s[i]=c at r
  have e1:Hm c= !(decide (¬ (c.toNat:Int)=10/\((c.toNat:Int)<32\/(126:Int)<c.toNat))):=by
   unfold Hm
   rw[aS]
   simp
   omega
  simp only[dF,aA,bB,Aj,b,Zd,aR,Zt,gZ,aH,aG,A3v b,t,aI,eG,bU,e1,bR,q,o]
  by_cases a:(c.toNat:Int)=10
  ·simp[a]
  ·by_cases d:(c.toNat:Int)<32
   ·simp[a,d]
   ·by_cases e:(126:Int)<c.toNat
    ·simp[a,d,e]
    ·simp[a,d,e]
theorem Aul (s:ByteArray)(a:s.size<=4611686018427387904):W A12 0 [.str s]=some [.bool (Iz s)]:=by
 rw[A05]
 exact Ac9 s a s.size 0 (by omega)
theorem Yp (s:ByteArray)(b:s.size<=4611686018427387904): ∀ (n i:Nat),i+n=s.size->W A18 1 [.str s,.int i]=some [.bool ((s.data.toList.drop i).all Bq&&decide (1<=s.size/\s.size<=40))]
 | 0,i,h=>by
  rw[Alq]
  have d: ¬ i<s.size:=by omega
  have e:s.data.toList.drop i= []:=aE (by simp;omega)
  have g:((s.size:Int)<=40)=(s.size<=40):=by simp;omega
  simp[d,e,g]
  have:((1:Int)<=s.size)=(1<=s.size):=by simp;omega
  by_cases c:1<=s.size<;>simp[this,c]
 | n+1,i,h=>by
  have a:i<s.size:=by omega
  have j:=Yp s b n (i+1) (by omega)
  have m:=A8 (i:=i) (by omega)
  rw[Alq,Gy a]
  generalize o:s[i]=c
  have e1:Bq c= !(decide (¬ (((97:Int)<=c.toNat/\(c.toNat:Int)<=122)\/((65:Int)<=c.toNat/\(c.toNat:Int)<=90))/\ ¬ ((48:Int)<=c.toNat/\(c.toNat:Int)<=57)/\ ¬ (c.toNat:Int)=45/\ ¬ (c.toNat:Int)=95/\ ¬ (c.toNat:Int)=47)):=by
   unfold Bq
   rw[aS]
   simp
   omega
  simp only[dF,aA,bB,Aj,a,Zd,aR,Zt,gZ,aH,aG,A3v a,o,aI,fF,eQ,eG,bU,e1,bR,m,j]
  by_cases q:(97:Int)<=c.toNat<;>by_cases r:(c.toNat:Int)<=122<;>by_cases t:(65:Int)<=c.toNat<;>by_cases u:(c.toNat:Int)<=90<;>by_cases w:(48:Int)<=c.toNat<;>by_cases x:(c.toNat:Int)<=57<;>simp[q,r,t,u,w,x]<;>
   by_cases y:(c.toNat:Int)=45<;>by_cases z:(c.toNat:Int)=95<;>by_cases A:(c.toNat:Int)=47<;>simp[y,z,A]
theorem Alk (s:ByteArray)(a:s.size<=4611686018427387904):W A18 0 [.str s]=some [.bool (Cn s)]:=by
 rw[Aza]
 exact Yp s a s.size 0 (by omega)
end Go.CT.Sch
namespace Go.CT.Sch
open Go.Proofs
theorem De:(⟨#[]⟩:ByteArray)=Ar:=rfl
theorem Afv (d:Nat)(o:Option ByteArray)(p:ByteArray × Val)(r:List (ByteArray × Val)):Aqa d o (p::r)=(Cn p.1&&(match o with | none=>true | some q=>blt q p.1)&&Bu d p.2&&Aqa d (some p.1) r):=by
 cases o<;>rfl
theorem Anv (v:Val)(i:v.Aw<=1099511627776):W A5o 0 [v.enc]=some [.bool (Gk v)]:=by
 have j:=v.Art
 rw[A06]
 unfold Gk
 simp only[dN,aA,aX,aR]
 by_cases b:v.k=1
 ·simp[b,De]
 by_cases c:v.k=2
 ·by_cases a: -1000000000000000<=v.n<;>by_cases a2:v.n<=1000000000000000<;>simp[c,a,a2,De]
 by_cases d:v.k=3
 ·simp[d,Aul v.s (by omega)]
 by_cases e:v.k=0
 ·by_cases a:v.n=0<;>simp[e,Tl,a,De]
 by_cases g:v.k=4
 ·by_cases a:v.n=0<;>simp[g,Tl,a,De]
 by_cases h:v.k=5
 ·by_cases a:v.n=0<;>simp[h,Tl,a,De]
 simp[b,c,d,e,g,h,Tl]
theorem Tz (d:Nat)(v:Val)(hd:d<=12)(j:v.Aw<=1099511627776)(e: ∀x∈v.l,W Afx 0 [x.enc,.int d]=some [.bool (Bu d x)]): ∀ (n i:Nat),i+n=v.l.length->
  W Afx 1 [.int ((d+1:Nat):Int),.int i,v.enc]=if(v.l.drop i).all (Bu d)=true then W Afx 2 [.int ((d+1:Nat):Int),.int 0,v.enc]else some [.bool false]
 | 0,i,h=>by
  rw[Ako]
  have g: ¬ i<v.l.length:=by omega
  simp[g,aE (bD g)]
 | n+1,i,h=>by
  have a:i<v.l.length:=by omega
  have o:=v.B8
  have m:=A8 (i:=i) (by omega)
  have b:IntKind.i64.wrap (((d+1:Nat):Int) - 1)=d:=by rw[wrap64 (by omega) (by omega)];omega
  have:=Tz d v hd j e n (i+1) (by omega)
  rw[Ako,aD a]
  simp only[cU,aA,bY,aF,bB,Aj,a,Zd,aR,Zt,cD,aH,aG,aJ,aC a,aI,fP,b,e _ (aK a),bH,cT,bR,m,this,bU,aM]
  by_cases c:Bu d v.l[i]=true<;>simp[c]
theorem Uu (d:Nat)(v:Val)(hd:d<=12)(r:v.Aw<=1099511627776)(o: ∀p∈v.f,W Afx 0 [p.2.enc,.int d]=some [.bool (Bu d p.2)]): ∀ (n i:Nat),i+n=v.f.length->
  W Afx 2 [.int ((d+1:Nat):Int),.int i,v.enc]=some [.bool (Aqa d (Gz v.f i) (v.f.drop i))]
 | 0,i,h=>by
  rw[Amz]
  have q: ¬ i<v.f.length:=by omega
  simp[q,aE (bD q),Aqa]
 | n+1,i,h=>by
  have b:i<v.f.length:=by omega
  have u:=v.A7
  have t:=A8 (i:=i) (by omega)
  have c:IntKind.i64.wrap (((d+1:Nat):Int) - 1)=d:=by rw[wrap64 (by omega) (by omega)];omega
  have:=Uu d v hd r o n (i+1) (by omega)
  have a:=aK b
  have e:=eA a
  have g:Gz v.f (i+1)=some v.f[i].1 :=by simp[Gz,b]
  rw[g]at this
  rw[Amz,aD b,Afv]
  simp only[cN,aA,bY,aF,bB,Aj,b,Zd,aR,Zt,cD,aH,aG,aJ,aC b,aI,dC,dG,Alk v.f[i].1 (by omega),fP,c,o _ a,bH,cT,bR,t,this,cX]
  cases i with
  | zero=>
   simp only[Gz]
   cases Cn v.f[0].1<;>cases Bu d v.f[0].2<;>simp
  | succ i=>
   have j:i<v.f.length:=by omega
   have m:IntKind.i64.wrap (((i+1:Nat):Int) - 1)=i:=by rw[wrap64 (by omega) (by omega)];omega
   have hp:(0:Int)<((i+1:Nat):Int):=by omega
   simp only[Gz,aC j,aI,m,hp,Zd,Zt,aH,aG,aA,dC,Abd]
   cases Cn v.f[i+1].1<;>cases Bu d v.f[i+1].2<;>cases blt v.f[i].1 v.f[i+1].1<;>simp
theorem Wc: ∀ (d:Nat) (v:Val),d<=12->v.Aw<=1099511627776->W Afx 0 [v.enc,.int d]=some [.bool (Bu d v)]
 | 0,v,_,_=>by
  rw[Al0]
  simp[Bu]
 | d+1,v,hd,j=>by
  have m:=Tz d v (by omega) j (λx u=>Wc d x (by omega) (by have:=eH u;omega)) v.l.length 0 (by omega)
  have r:=Uu d v (by omega) j (λp hp=>Wc d p.2 (by omega) (by have:=eA hp;omega)) v.f.length 0 (by omega)
  rw[Al0]
  have w: ¬ ((d+1:Nat):Int)=0:=by omega
  simp only[aN,aP,Gz,Afp]at m r
  rw[r]at m
  simp only[aX,w,Ze,aA,aR,aB,Zf,Anv v j,bH,cT,cU,cN,dN,bY,aF,cX,eG,m,Bu]
  have t:v.l= []->v.l.all (Bu d)=true:=λe=>by rw[e];rfl
  have o:v.f= []->(v.f.all λp=>Cn p.1&&Bu d p.2)=true/\rising v.f=true:=λe=>by rw[e];exact⟨rfl,rfl⟩
  generalize v.l.all (Bu d)=A at *
  generalize (v.f.all λp=>Cn p.1&&Bu d p.2)=B at *
  generalize rising v.f=C at *
  cases y:Gk v with
  | false=>simp
  | true=>
   by_cases b:(64:Int)<v.l.length
   ·have: ¬ v.l.length<=64:=by omega
    simp[b,this]
   ·have d1:v.l.length<=64:=by omega
    by_cases c:(64:Int)<v.f.length
    ·have: ¬ v.f.length<=64:=by omega
     simp[b,c,this]
    ·have d2:v.f.length<=64:=by omega
     by_cases g:v.k=4
     ·have i: ¬ v.k=5:=by omega
      by_cases a:v.f= []
      ·simp[g,b,d1,a]
       cases A<;>simp
      ·have h:(0:Int)<v.f.length:=by have:=bZ.2 a;omega
       simp[g,b,c,d1,d2,a,h]
     ·by_cases a:v.l= []
      ·by_cases i:v.k=5
       ·simp[i,c,d2,a]
        cases A<;>simp
       ·by_cases q:v.f= []
        ·simp[g,i,a,q]
         cases A<;>simp
        ·have h:(0:Int)<v.f.length:=by have:=bZ.2 q;omega
         simp[g,i,a,q,h,c,d2]
      ·have h:(0:Int)<v.l.length:=by have:=bZ.2 a;omega
       simp[g,a,h,b,c,d1,d2]
end Go.CT.Sch
namespace Go.CT
theorem get!_eq (s:ByteArray)(i:Nat)(h:i<s.size):s.get! (i+0)=s[i]:=by
 obtain⟨a⟩:=s
 have h':i<a.size:=h
 show a[i+0]! =a[i]
 simp[h']
theorem Nt {s:ByteArray}{i:Nat}(h:i<s.size)(a:s[i].toNat <128):Utf8.decode s i=(s[i].toNat,1):=by
 unfold Utf8.decode
 simp only[get!_eq s i h]
 rw[if_pos a]
theorem decode_high {s:ByteArray}{i:Nat}(h:i<s.size)(b:128<=s[i].toNat):128<=(Utf8.decode s i).1 :=by
 unfold Utf8.decode
 simp only[get!_eq s i h]
 rw[if_neg (by omega)]
 have e:Utf8.runeError=65533:=rfl
 split
 ·split<;>simp only[e]<;>omega
 ·split
  ·split
   ·rename_i a
    simp only[aM,decide_eq_true_eq,ge_iff_le]at a
    show 128<=_
    omega
   ·simp[e]
  ·split
   ·split
    ·rename_i a
     simp only[aM,decide_eq_true_eq,ge_iff_le]at a
     show 128<=_
     omega
    ·simp[e]
   ·simp[e]
namespace O
variable {s:ByteArray}{i:Nat}{b:Bool}{xs ys:List IV}
theorem P5 (h:i<s.size):M0 (.str s) (.int i)=some (.bool true):=by simp[M0,cZ,h]
theorem Rf (h: ¬ i<s.size):M0 (.str s) (.int i)=some (.bool false):=by simp[M0,cZ,h]
theorem Qh (h:i<s.size):M4 (.str s) (.int i)=some (.int (Utf8.decode s i).1):=by simp[M4,cZ,h]
theorem R9 (h: ¬ i<s.size):M4 (.str s) (.int i)=some (.int 0):=by simp[M4,cZ,h]
theorem Lp (h:i<s.size):Ht (.str s) (.int i)=some (.int ((i+(Utf8.decode s i).2 :Nat):Int)):=by simp[Ht,cZ,h]
theorem M9 (h: ¬ i<s.size):Ht (.str s) (.int i)=some (.int i):=by simp[Ht,cZ,h]
@[simp] theorem Ql:Afz (.bool true)=some (.bool true):=rfl
theorem Afo {n:Nat}(h:0<ys.length)(a:(xs.length+ys.length) * n<=A4):Ro n (.list xs) (.list ys)=some (.list (xs++ys)):=if_pos ⟨h,a⟩
theorem Ahi (h:xs.length+s.size<=A4):Po (.list xs) (.str s)=some (.list (xs++B6 s)):=if_pos h
@[simp] theorem An9:Att [.list xs]=some [.list xs]:=rfl
@[simp] theorem Jo:Kk [.list xs]=some [.list xs]:=rfl
theorem Va: ∀l:List UInt8,(l.map λb:UInt8=>IV.int b.toNat).mapM J2=some l
 | []=>rfl
 | b::l=>by
  have a:J2 (.int b.toNat)=some b:=by
   have h:(b.toNat:Int)<256:=by have:=b.toNat_lt;omega
   simp only[J2,aH,h,and_self,Zt,aG]
   simp[Nat.toUInt8]
  simp[bN,List.mapM_cons,a,Va l]
theorem Lm (s:ByteArray):R6 [.list (B6 s)]=some [.str s]:=by
 simp only[R6,B6,Va,aI]
theorem Kb (s t:ByteArray):B6 (s++t)=B6 s++B6 t:=by
 simp[B6,aT]
theorem Ka (s:ByteArray):(B6 s).length =s.size:=by simp[B6]
theorem Ayo (n:Nat)(h:n<100):An5 [.int n]=some [.str (Sb n)]:=by
 simp only[An5,aH,true_and,aG]
 rw[if_pos (by omega)]
end O
end Go.CT
namespace Go.CT.Sch
open Go.Proofs
structure Stp where
 k:Int
 nm:ByteArray
 ix:Int
 vl:ByteArray
def Stp.enc (s:Stp):IV:= .agg [.int s.k,.str s.nm,.int s.ix,.str s.vl]
@[simp] theorem Stp.Bj (s:Stp):dU 0 s.enc=some (.int s.k):=rfl
@[simp] theorem Stp.C7 (s:Stp):dU 1 s.enc=some (.str s.nm):=rfl
@[simp] theorem Stp.Ee (s:Stp):dU 2 s.enc=some (.int s.ix):=rfl
@[simp] theorem Stp.B5 (s:Stp):dU 3 s.enc=some (.str s.vl):=rfl
def Stp.fits (s:Stp):Prop:=s.nm.size<=1099511627000/\s.vl.size<=1099511627000
def bsL (l:List UInt8):ByteArray:=⟨l.toArray⟩
theorem He (a b:List UInt8):bsL (a++b)=bsL a++bsL b:=by
 apply Ek
 rw[aT];simp[bsL]
theorem Bz (l:List UInt8):(bsL l).size =l.length:=by simp[bsL,ByteArray.size]
theorem Nx (s:ByteArray):bsL s.data.toList=s:=rfl
theorem Gl (s:ByteArray):Ar++s=s:=by
 apply Ek
 rw[aT];rfl
theorem Qu (s:ByteArray):s++Ar=s:=by
 apply Ek
 rw[aT];simp[Ar]
theorem Aw4 {s:ByteArray}{i:Nat}(h:i<s.size):s.extract i (i+1)=bsL [s[i]]:=by
 apply Ek
 rw[eV,fG]
 simp only[eM,bsL]
 have:=Gy h
 rw[show i+1 - i=1 by omega,this]
 rfl
def H8 (c:UInt8):List UInt8:=if c.toNat=10 then[92,110]else if c.toNat=34\/c.toNat=92 then[92,c]else[c]
def K5 (s:ByteArray):ByteArray:=bsL (34::s.data.toList.flatMap H8++ [34])
theorem Av5 (c:UInt8):(H8 c).length <=2:=by unfold H8;split<;> (try split)<;>simp
theorem Ah5: ∀l:List UInt8,(l.flatMap H8).length <=2 * l.length
 | []=>by simp
 | c::l=>by
  have:=Av5 c
  have:=Ah5 l
  simp only[cA,aO,bA];omega
theorem Oz (s:ByteArray):(K5 s).size <=2+2 * s.size:=by
 have:=Ah5 s.data.toList
 have h:s.data.toList.length=s.size:=by simp
 unfold K5
 rw[Bz]
 simp only[bA,aO,aZ]
 omega
def Dr (x:Stp):Bool:=
 if x.k=1 then Cn x.nm&&decide (x.ix=0)&&decide (x.vl=Ar)
 else if x.k=2 then decide (0<=x.ix)&&decide (x.ix<=64)&&decide (x.nm=Ar)&&decide (x.vl=Ar)
 else if x.k=3 then Cn x.nm&&Iz x.vl&&decide (x.ix=0)
 else false
def Dj (p:List Stp):Bool:=p.all Dr&&decide (p.length<=16)
def G6 (first:Bool)(x:Stp):ByteArray:=
 if x.k=2 then bsL [91]++hA x.ix.toNat++bsL [93]
 else if x.k=3 then bsL [91]++x.nm++bsL [61]++K5 x.vl++bsL [93]
 else if first then x.nm else bsL [46]++x.nm
def Dw:Bool->List Stp->ByteArray
 | _,[]=>Ar
 | b,x::r=>G6 b x++Dw false r
def Bcm (p:List Stp):ByteArray:=Dw true p
def C9 (p:List Stp):ByteArray:=if Dj p then Bcm p else Ar
def Al2 (p:List Stp):Int:=if Dj p then 0 else 1
theorem Pm {s:ByteArray}(h:Cn s=true):s.size<=40:=by
 unfold Cn at h
 simp only[aM,decide_eq_true_eq]at h
 exact h.2.2
theorem Nr {s:ByteArray}(h:Iz s=true):s.size<=200:=by
 unfold Iz at h
 simp only[aM,decide_eq_true_eq]at h
 exact h.2
theorem Rc (n:Nat):(hA n).size <=2:=by
 unfold hA
 split
 ·show 1<=2;omega
 ·show 2<=2;omega
theorem Df {x:Stp}(h:Dr x=true):x.nm.size<=40/\x.vl.size<=200/\(x.k=2->0<=x.ix/\x.ix<=64)/\(x.k=3->Iz x.vl=true)/\(x.k=1\/x.k=2\/x.k=3):=by
 have a:Ar.size=0:=rfl
 unfold Dr at h
 split at h
 ·rename_i k1
  simp only[aM,decide_eq_true_eq]at h
  exact⟨Pm h.1.1,by rw[h.2,a];omega,λh=>by omega,λh=>by omega,.inl k1⟩
 ·split at h
  ·rename_i k2
   simp only[aM,decide_eq_true_eq]at h
   exact⟨by rw[h.1.2,a];omega,by rw[h.2,a];omega,λ_=>⟨h.1.1.1,h.1.1.2⟩,λh=>by omega,.inr (.inl k2)⟩
  ·split at h
   ·rename_i b
    simp only[aM,decide_eq_true_eq]at h
    exact⟨Pm h.1.1,Nr h.1.2,λh=>by omega,λ_=>h.1.2,.inr (.inr b)⟩
   ·cases h
theorem U9 (c:UInt8):W Bb3 0 [.int c.toNat]=some [.bool (Bq c)]:=by
 rw[Azv]
 simp only[fF,eQ,aX,aA,aR,Az,Am]
 congr 3
 unfold Bq
 rw[aS]
 simp
 omega
theorem Vc (s:ByteArray)(b:s.size<=1099511627776): ∀ (n i:Nat),i+n=s.size->W A2h 1 [.str s,.int i]=some [.bool ((s.data.toList.drop i).all Bq&&decide (1<=s.size/\s.size<=40))]
 | 0,i,h=>by
  have c: ¬ i<s.size:=by omega
  have d:s.data.toList.drop i= []:=aE (by simp;omega)
  rw[Aih]
  simp only[dF,aA,bB,Aj,c,Ze,aR,aB,Zf,cX,eQ,Az,Am,d,cH,bI]
  congr 3
  rw[aS]
  simp
  omega
 | n+1,i,h=>by
  have a:i<s.size:=by omega
  have e:=A8 (i:=i) (by omega)
  have g:=Vc s b n (i+1) (by omega)
  rw[Aih,Gy a]
  simp only[dF,aA,bB,Aj,a,Zd,aR,Zt,gZ,aH,aG,A3v a,aI,U9,bH,cT,bR,e,g,bU]
  cases Bq s[i]<;>simp
theorem Aqu (s:ByteArray)(a:s.size<=1099511627776):W A2h 0 [.str s]=some [.bool (Cn s)]:=by
 rw[Axx];exact Vc s a s.size 0 (by omega)
theorem Y9 (s:ByteArray)(j:s.size<=1099511627776): ∀ (n i:Nat),i+n=s.size->W A8t 1 [.str s,.int i]=some [.bool ((s.data.toList.drop i).all Hm&&decide (s.size<=200))]
 | 0,i,h=>by
  have m: ¬ i<s.size:=by omega
  have o:s.data.toList.drop i= []:=aE (by simp;omega)
  rw[Alr]
  simp only[dF,aA,bB,Aj,m,Ze,aR,aB,Zf,eQ,o,cH,bI]
  congr 3
  rw[aS]
  simp
  omega
 | n+1,i,h=>by
  have d:i<s.size:=by omega
  have q:=A8 (i:=i) (by omega)
  have r:=Y9 s j n (i+1) (by omega)
  rw[Alr,Gy d]
  have e1:Hm s[i]= !(if(!decide ((s[i].toNat :Int)=10))=true then(if decide ((s[i].toNat :Int)<32)=true then true else decide (126<(s[i].toNat :Int))) else false):=by
   unfold Hm
   rw[aS]
   by_cases e:s[i].toNat =10
   ·simp[e]
   ·have c: ¬ (s[i].toNat :Int)=10:=by omega
    by_cases g:s[i].toNat <32
    ·have a:(s[i].toNat :Int)<32:=by omega
     simp[e,c,g,a];omega
    ·have a: ¬ (s[i].toNat :Int)<32:=by omega
     simp[e,c,g,a]
     omega
  simp only[dF,aA,bB,Aj,d,Zd,aR,Zt,gZ,aH,aG,A3v d,aI,eG,cX,Az,Am,bR,q,r,bU,e1]
  generalize (if(!decide ((s[i].toNat :Int)=10))=true then(if decide ((s[i].toNat :Int)<32)=true then true else decide (126<(s[i].toNat :Int))) else false)=b
  cases b<;>simp
theorem Azg (s:ByteArray)(a:s.size<=1099511627776):W A8t 0 [.str s]=some [.bool (Iz s)]:=by
 rw[Az1];exact Y9 s a s.size 0 (by omega)
theorem Ast (s:Stp)(a:s.fits):W Bch 0 [s.enc]=some [.bool (Dr s)]:=by
 have c:=Aqu s.nm (dO a.1 (by decide))
 have d:=Azg s.vl (dO a.2 (by decide))
 rw[Axt]
 simp only[Stp.Bj,Stp.C7,Stp.Ee,Stp.B5,aA,aX,aR,c,d,bH,fF,eQ,fQ,Az,Am,De]
 unfold Dr
 by_cases k1:s.k=1
 ·simp only[k1,Zd,Zt]
  cases Cn s.nm<;>simp
 ·by_cases k2:s.k=2
  ·simp only[k1,k2,Zd,Ze,aB,Zt,Zf]
   by_cases e1:0<=s.ix<;>by_cases e:s.ix<=64<;>by_cases g:s.nm=Ar<;>simp[e1,e,g]
  ·simp only[k1,k2,Ze,aB,Zf]
   by_cases b:s.k=3
   ·simp only[b,Zd,Zt]
    cases Cn s.nm<;>cases Iz s.vl<;>simp
   ·simp[b]
theorem Sp (p:List Stp)(hp: ∀s∈p,s.fits)(b:p.length<=1099511627776): ∀ (n i:Nat),i+n=p.length->W Azn 1 [.list (p.map Stp.enc),.int i]=some [.bool ((p.drop i).all Dr&&decide (p.length<=16))]
 | 0,i,h=>by
  have c: ¬ i<p.length:=by omega
  have d:p.drop i= []:=aE (by omega)
  rw[Ajo]
  simp only[bY,aF,aA,bB,Aj,c,Ze,aR,aB,Zf,eQ,d,cH,bI]
  congr 3
  rw[aS]
  simp
  omega
 | n+1,i,h=>by
  have a:i<p.length:=by omega
  have e:=A8 (i:=i) (by omega)
  have g:=Sp p hp b n (i+1) (by omega)
  rw[Ajo,aD a]
  simp only[bY,aF,aA,bB,Aj,a,Zd,aR,Zt,cD,aH,aG,aJ,aC a,aI,Ast _ (hp _ (aK a)),bH,cT,bR,e,g,bU]
  cases Dr p[i]<;>simp
theorem Nq (p:List Stp)(hp: ∀s∈p,s.fits)(a:p.length<=1099511627776):W Azn 0 [.list (p.map Stp.enc)]=some [.bool (Dj p)]:=by
 rw[A0n];exact Sp p hp a p.length 0 (by omega)
theorem E0 {a b:ByteArray}(c:a.size<=100000)(d:b.size<=100000):O.cat (.str a) (.str b)=some (.str (a++b)):=by
 rw[O.A8g,if_pos (by unfold A4;omega)]
theorem A6r: ∀d:Fin 10,(⟨#[48,49,50,51,52,53,54,55,56,57]⟩:ByteArray).extract d (d+1)=bsL [(48+d.val).toUInt8]:=by decide+kernel
theorem A4v (n:Int)(h:0<=n)(q:n<=64):W Bdw 0 [.int n]=some [.str (hA n.toNat)]:=by
 have sl: ∀d:Nat,d<10->O.Hq (.str ⟨#[48,49,50,51,52,53,54,55,56,57]⟩) (.int d) (.int ((d:Int)+1))=some (.str (bsL [(48+d).toUInt8])):=by
  intro d hd
  rw[O.Rl,if_pos ⟨by omega,by omega,by show(d:Int)+1<=10;omega⟩]
  have:=A6r ⟨d,hd⟩
  simp only[aG]
  rw[show((d:Int)+1).toNat =d+1 by omega,this]
 obtain⟨m,rfl⟩:=dM h
 rw[Ay0]
 unfold hA
 simp only[fH,aG]
 by_cases c:m<10
 ·have i:IntKind.i64.wrap ((m:Int)+1)=(m:Int)+1:=wrap64 (by omega) (by omega)
  have c':(m:Int)<10:=by omega
  simp only[bB,c',Zd,aA,aR,Zt,bR,i,sl m c,c]
  rfl
 ·have c': ¬ (m:Int)<10:=by omega
  have j:(m:Int).tdiv 10=((m / 10:Nat):Int):=by rw[Int.tdiv_eq_ediv_of_nonneg (by omega)];omega
  have o:(m:Int).tmod 10=((m % 10:Nat):Int):=by rw[Int.tmod_eq_emod_of_nonneg (by omega)];omega
  have a:IntKind.i64.wrap ((m / 10:Nat):Int)=((m / 10:Nat):Int):=wrap64 (by omega) (by omega)
  have b:IntKind.i64.wrap (((m / 10:Nat):Int)+1)=((m / 10:Nat):Int)+1:=wrap64 (by omega) (by omega)
  have e:IntKind.i64.wrap (((m % 10:Nat):Int)+1)=((m % 10:Nat):Int)+1:=wrap64 (by omega) (by omega)
  have g: ¬ (10:Int)=0:=by omega
  simp only[bB,c',Ze,aA,aR,aB,Zf,O.A3z,O.A6b,g,j,o,a,bR,b,e,sl (m / 10) (by omega),sl (m % 10) (by omega),c]
  rw[E0 (by rw[Bz];simp) (by rw[Bz];simp),<-He]
  rfl
theorem V4 (s:ByteArray)(t:s.size<=200): ∀ (n i:Nat) (o:ByteArray),i+n=s.size->o.size<=1+2 * i->W Apd 1 [.str s,.str o,.int i]=some [.str (o++bsL ((s.data.toList.drop i).flatMap H8++ [34]))]
 | 0,i,o,h,u=>by
  have g: ¬ i<s.size:=by omega
  have j:s.data.toList.drop i= []:=aE (by simp;omega)
  rw[Am2]
  simp only[dF,aA,bB,Aj,g,Ze,aR,aB,Zf,j,cV,bE]
  rw[show(ByteArray.mk #[34])=bsL [34]from rfl,E0 (by omega) (by rw[Bz];simp)]
  rfl
 | n+1,i,o,h,u=>by
  have e:i<s.size:=by omega
  have m:=A8 (i:=i) (by omega)
  have d:O.Hq (.str s) (.int i) (.int ((i+1:Nat):Int))=some (.str (bsL [s[i]])):=by
   rw[O.Rl,if_pos ⟨by omega,by omega,by omega⟩]
   simp only[aG]
   rw[Aw4 e]
  have next: ∀a:List UInt8,a.length<=2->H8 s[i]=a->W Apd 2 [.str s,.str (o++bsL a),.int i]=some [.str (o++bsL ((s.data.toList.drop i).flatMap H8++ [34]))]:=by
   intro a x w
   rw[Ayq]
   simp only[bR,m,aA]
   rw[V4 s t n (i+1) _ (by omega) (by rw[aL,Bz];omega),Gy e,cA,w,bL,He a,bF]
  rw[Am2]
  simp only[dF,aA,bB,Aj,e,Zd,aR,Zt,gZ,aH,aG,A3v e,aI,aX,Az,Am]
  rw[show(ByteArray.mk #[92,110])=bsL [92,110]from rfl,show(ByteArray.mk #[92])=bsL [92]from rfl]
  by_cases q:s[i].toNat =10
  ·have b:(s[i].toNat :Int)=10:=by omega
   simp only[b,Zd,Zt]
   rw[E0 (by omega) (by rw[Bz];simp)]
   exact next [92,110] (by simp) (by unfold H8;rw[if_pos q])
  ·have b: ¬ (s[i].toNat :Int)=10:=by omega
   simp only[b,Ze,aB,Zf]
   by_cases r:s[i].toNat =34\/s[i].toNat =92
   ·have c:(if decide ((s[i].toNat :Int)=34)=true then true else decide ((s[i].toNat :Int)=92))=true:=by
     rcases r with h | h<;>simp[h]
    simp only[c,Zt]
    rw[E0 (by omega) (by rw[Bz];simp)]
    simp only[aA,bR,m,d]
    rw[E0 (by rw[aL,Bz];simp;omega) (by rw[Bz];simp),bF,<-He]
    exact next [92,s[i]] (by simp) (by unfold H8;rw[if_neg q,if_pos r])
   ·have c:(if decide ((s[i].toNat :Int)=34)=true then true else decide ((s[i].toNat :Int)=92))=false:=by
     have g: ¬ (s[i].toNat :Int)=34:=by omega
     have j: ¬ (s[i].toNat :Int)=92:=by omega
     simp[g,j]
    simp only[c,aB,Zf,bR,m,aA,d]
    rw[E0 (by omega) (by rw[Bz];simp)]
    exact next [s[i]] (by simp) (by unfold H8;rw[if_neg q,if_neg r])
theorem Asr (s:ByteArray)(a:s.size<=200):W Apd 0 [.str s]=some [.str (K5 s)]:=by
 rw[A1b,show(ByteArray.mk #[34])=bsL [34]from rfl]
 rw[show(IV.int 0)=IV.int ((0:Nat):Int) from rfl,V4 s a s.size 0 _ (by omega) (by rw[Bz];simp),<-He]
 rfl
theorem Rv {b:Bool}{x:Stp}(h:Dr x=true):(G6 b x).size <=500:=by
 obtain⟨a,d,_⟩:=Df h
 have g:=Oz x.vl
 have i:=Rc x.ix.toNat
 have e: ∀c:UInt8,(bsL [c]).size =1:=λc=>by rw[Bz];rfl
 unfold G6
 split
 ·simp only[aL,e];omega
 ·split
  ·simp only[aL,e];omega
  ·split
   ·omega
   ·simp only[aL,e];omega
theorem U6 (p:List Stp)(hp: ∀s∈p,Dr s=true)(w:p.length<=16): ∀ (n i:Nat) (o:ByteArray),i+n=p.length->o.size<=500 * i->W Am0 1 [.list (p.map Stp.enc),.str o,.int i]=some [.str (o++Dw (decide (i=0)) (p.drop i)),.int 0]
 | 0,i,o,h,x=>by
  have y: ¬ i<p.length:=by omega
  have z:p.drop i= []:=aE (by omega)
  rw[Ak5]
  simp only[bY,aF,aA,bB,Aj,y,Ze,aR,aB,Zf,z,Dw,Qu]
 | n+1,i,o,h,x=>by
  have j:i<p.length:=by omega
  have A:=A8 (i:=i) (by omega)
  have b:=hp _ (aK j)
  obtain⟨C,B,r,E,F⟩:=Df b
  have e: ∀c:UInt8,(bsL [c]).size =1:=λc=>by rw[Bz];rfl
  have next: ∀t:ByteArray,G6 (decide (i=0)) p[i]=t->W Am0 2 [.list (p.map Stp.enc),.str (o++t),.int i]=some [.str (o++Dw (decide (i=0)) (p.drop i)),.int 0]:=by
   intro t u
   have m:(G6 (decide (i=0)) p[i]).size <=500:=Rv b
   rw[A0o]
   simp only[bR,A,aA]
   rw[U6 p hp w n (i+1) (o++t) (by omega) (by rw[aL,<-u];omega),aD j,Dw,u,bF]
   rfl
  rw[Ak5]
  simp only[bY,aF,aA,bB,Aj,j,Zd,aR,Zt,cD,aH,aG,aJ,aC j,aI,Stp.Bj,Stp.C7,Stp.Ee,Stp.B5,aX,cX]
  rw[show(ByteArray.mk #[91])=bsL [91]from rfl,show(ByteArray.mk #[93])=bsL [93]from rfl,show(ByteArray.mk #[61])=bsL [61]from rfl,show(ByteArray.mk #[46])=bsL [46]from rfl]
  by_cases k2:p[i].k =2
  ·have hd:=A4v p[i].ix (r k2).1 (r k2).2
   have q:=Rc p[i].ix.toNat
   simp only[k2,Zd,Zt]
   rw[E0 (by omega) (by rw[e];omega)]
   simp only[aA,hd,bH]
   rw[E0 (by rw[aL,e];omega) (by omega)]
   simp only[aA]
   rw[E0 (by rw[aL,aL,e];omega) (by rw[e];omega)]
   simp only[aA,bF]
   exact next _ (by unfold G6;rw[if_pos k2,bF])
  ·simp only[k2,Ze,aB,Zf]
   by_cases d:p[i].k =3
   ·have hd:=Asr p[i].vl B
    have q:=Oz p[i].vl
    simp only[d,Zd,Zt]
    rw[E0 (by omega) (by rw[e];omega)]
    simp only[aA]
    rw[E0 (by rw[aL,e];omega) (by omega)]
    simp only[aA]
    rw[E0 (by rw[aL,aL,e];omega) (by rw[e];omega)]
    simp only[aA,hd,bH]
    rw[E0 (by rw[aL,aL,aL,e,e];omega) (by omega)]
    simp only[aA]
    rw[E0 (by rw[aL,aL,aL,aL,e,e];omega) (by rw[e];omega)]
    simp only[aA,bF]
    exact next _ (by unfold G6;rw[if_neg k2,if_pos d];simp only[bF])
   ·simp only[d,Ze,aB,Zf]
    by_cases m:i=0
    ·have a: ¬ (0:Int)<i:=by omega
     have g:o=Ar:=by
      apply Ek
      have:o.size=0:=by omega
      have:o.data.toList.length=0:=by simpa using this
      rw[aU.1 this];rfl
     simp only[a,Ze,aB,Zf]
     have:=next p[i].nm (by unfold G6;rw[if_neg k2,if_neg d,if_pos (by simpa using m)])
     rw[g,Gl]at this
     rw[g]
     exact this
    ·have a:(0:Int)<i:=by omega
     simp only[a,Zd,Zt]
     rw[E0 (by omega) (by rw[e];omega)]
     simp only[aA]
     rw[E0 (by rw[aL,e];omega) (by omega)]
     simp only[aA,bF]
     exact next _ (by unfold G6;rw[if_neg k2,if_neg d,if_neg (by simpa using m)])
theorem Adq (p:List Stp)(hp: ∀s∈p,s.fits)(b:p.length<=1099511627776):W Am0 0 [.list (p.map Stp.enc)]=some [.str (C9 p),.int (Al2 p)]:=by
 rw[Aw7]
 unfold C9 Al2
 cases a:Dj p with
 | false=>simp only[Nq p hp b,a,bH,cT,aA,aY,aR,Zt];rfl
 | true=>
  simp only[Nq p hp b,a,bH,cT,aA,aV,aR,aB,Zf,Zt]
  unfold Dj at a
  simp only[aM,decide_eq_true_eq,bM]at a
  have:=U6 p a.1 a.2 p.length 0 Ar (by omega) (bP _)
  rw[Gl]at this
  exact this
end Go.CT.Sch
namespace Go.CT.Sch
open Go.Proofs
theorem Afc (s:ByteArray)(j:s.size<=1099511627776): ∀ (n i:Nat),i+n=s.size->W F24 1 [.str s,.int s.size,.int i]=some [.bool ((s.data.toList.drop i).all Hm&&decide (s.size<=200))]
 | 0,i,h=>by
  have m: ¬ i<s.size:=by omega
  have o:s.data.toList.drop i= []:=aE (by simp;omega)
  rw[Asz]
  simp only[dF,aA,bB,Aj,m,Ze,aR,aB,Zf,eQ,o,cH,bI]
  congr 3
  rw[aS]
  simp
  omega
 | n+1,i,h=>by
  have d:i<s.size:=by omega
  have q:=A8 (i:=i) (by omega)
  have r:=Afc s j n (i+1) (by omega)
  rw[Asz,Gy d]
  have e1:Hm s[i]= !(if(!decide ((s[i].toNat :Int)=10))=true then(if decide ((s[i].toNat :Int)<32)=true then true else decide (126<(s[i].toNat :Int))) else false):=by
   unfold Hm
   rw[aS]
   by_cases e:s[i].toNat =10
   ·simp[e]
   ·have c: ¬ (s[i].toNat :Int)=10:=by omega
    by_cases g:s[i].toNat <32
    ·have a:(s[i].toNat :Int)<32:=by omega
     simp[e,c,g,a];omega
    ·have a: ¬ (s[i].toNat :Int)<32:=by omega
     simp[e,c,g,a]
     omega
  simp only[dF,aA,bB,Aj,d,Zd,aR,Zt,gZ,aH,aG,A3v d,aI,eG,cX,Az,Am,bR,q,r,bU,e1]
  generalize (if(!decide ((s[i].toNat :Int)=10))=true then(if decide ((s[i].toNat :Int)<32)=true then true else decide (126<(s[i].toNat :Int))) else false)=b
  cases b<;>simp
theorem A4x (s:ByteArray)(a:s.size<=1099511627776):W F24 0 [.str s]=some [.bool (Iz s)]:=by
 rw[A6p]
 simp only[dF,aA]
 exact Afc s a s.size 0 (by omega)
theorem Afu (s:ByteArray)(b:s.size<=1099511627776): ∀ (n i:Nat),i+n=s.size->W F25 1 [.str s,.int s.size,.int i]=some [.bool ((s.data.toList.drop i).all Bq&&decide (1<=s.size/\s.size<=40))]
 | 0,i,h=>by
  have d: ¬ i<s.size:=by omega
  have e:s.data.toList.drop i= []:=aE (by simp;omega)
  rw[Apr]
  simp only[dF,aA,bB,Aj,d,Ze,aR,aB,Zf,fF,eQ,Az,Am,e,cH,bI]
  congr 3
  rw[aS]
  simp
  omega
 | n+1,i,h=>by
  have a:i<s.size:=by omega
  have g:=A8 (i:=i) (by omega)
  have j:=Afu s b n (i+1) (by omega)
  rw[Apr,Gy a]
  generalize m:s[i]=c
  simp only[dF,aA,bB,Aj,a,Zd,aR,Zt,gZ,aH,aG,A3v a,m,aI,fF,eQ,aX,Az,Am,cT,bR,g,j,bU]
  have e1:Bq c=(if(if(if(if(if(if decide ((97:Int)<=c.toNat)=true then decide ((c.toNat:Int)<=122) else false)=true then true else if decide ((65:Int)<=c.toNat)=true then decide ((c.toNat:Int)<=90) else false)=true then true else if decide ((48:Int)<=c.toNat)=true then decide ((c.toNat:Int)<=57) else false)=true then true else decide ((c.toNat:Int)=45))=true then true else decide ((c.toNat:Int)=95))=true then true else decide ((c.toNat:Int)=47)):=by
   unfold Bq
   rw[aS]
   simp
   omega
  rw[<-e1]
  cases Bq c<;>simp
theorem A7e (s:ByteArray)(a:s.size<=1099511627776):W F25 0 [.str s]=some [.bool (Cn s)]:=by
 rw[A6a]
 simp only[dF,aA]
 exact Afu s a s.size 0 (by omega)
theorem Ave (v:Val)(i:v.Aw<=1099511627776):W F23 0 [v.enc]=some [.bool (Gk v)]:=by
 have j:=v.Art
 rw[A6l]
 unfold Gk
 simp only[dN,aA,aX,aR]
 by_cases b:v.k=1
 ·by_cases a:v.s=Ar<;>by_cases a2:v.n=0<;>simp[b,a,a2,De]
 by_cases c:v.k=2
 ·by_cases a: -1000000000000000<=v.n<;>by_cases a2:v.n<=1000000000000000<;>by_cases a3:v.s=Ar<;>simp[c,a,a2,a3,De]
 by_cases d:v.k=3
 ·by_cases a:v.n=0<;>simp[d,a,A4x v.s (by omega)]
 by_cases e:v.k=0
 ·by_cases a:v.n=0<;>simp[e,Aal,a,De]
 by_cases g:v.k=4
 ·by_cases a:v.n=0<;>simp[g,Aal,a,De]
 by_cases h:v.k=5
 ·by_cases a:v.n=0<;>simp[h,Aal,a,De]
 simp[b,c,d,e,g,h,Aal]
theorem Yl (d:Nat)(v:Val)(hd:d<=12)(r:v.Aw<=1099511627776)(o: ∀p∈v.f,W F22 0 [p.2.enc,.int d]=some [.bool (Bu d p.2)]): ∀ (n i:Nat),i+n=v.f.length->
  W F22 2 [.int ((d+1:Nat):Int),.list (v.f.map bG),.int v.f.length,.int i,v.enc]=some [.bool (Aqa d (Gz v.f i) (v.f.drop i))]
 | 0,i,h=>by
  rw[Aq5]
  have q: ¬ i<v.f.length:=by omega
  simp[q,aE (bD q),Aqa]
 | n+1,i,h=>by
  have b:i<v.f.length:=by omega
  have u:=v.A7
  have t:=A8 (i:=i) (by omega)
  have c:IntKind.i64.wrap (((d+1:Nat):Int) - 1)=d:=by rw[wrap64 (by omega) (by omega)];omega
  have:=Yl d v hd r o n (i+1) (by omega)
  have a:=aK b
  have e:=eA a
  have g:Gz v.f (i+1)=some v.f[i].1 :=by simp[Gz,b]
  rw[g]at this
  rw[Aq5,aD b,Afv]
  simp only[cN,aA,bB,Aj,b,Zd,aR,Zt,cD,aH,aG,aJ,aC b,aI,dC,dG,A7e v.f[i].1 (by omega),fP,c,o _ a,bH,cT,cX,bR,t,this]
  cases i with
  | zero=>
   simp only[Gz]
   cases Cn v.f[0].1<;>cases Bu d v.f[0].2<;>simp
  | succ i=>
   have j:i<v.f.length:=by omega
   have m:IntKind.i64.wrap (((i+1:Nat):Int) - 1)=i:=by rw[wrap64 (by omega) (by omega)];omega
   have hp:(0:Int)<((i+1:Nat):Int):=by omega
   simp only[Gz,aC j,aI,m,hp,Zd,Zt,aH,aG,aA,dC,Py]
   cases Cn v.f[i+1].1<;>cases Bu d v.f[i+1].2<;>cases blt v.f[i].1 v.f[i+1].1<;>simp
theorem Ys (d:Nat)(v:Val)(hd:d<=12)(j:v.Aw<=1099511627776)(e: ∀x∈v.l,W F22 0 [x.enc,.int d]=some [.bool (Bu d x)]): ∀ (n i:Nat),i+n=v.l.length->
  W F22 1 [.int ((d+1:Nat):Int),.list (v.l.map bS),.int v.l.length,.int i,v.enc]=if(v.l.drop i).all (Bu d)=true then W F22 2 [.int ((d+1:Nat):Int),.list (v.f.map bG),.int v.f.length,.int 0,v.enc]else some [.bool false]
 | 0,i,h=>by
  rw[Ap4]
  have g: ¬ i<v.l.length:=by omega
  simp[g,aE (bD g)]
 | n+1,i,h=>by
  have a:i<v.l.length:=by omega
  have o:=v.B8
  have m:=A8 (i:=i) (by omega)
  have b:IntKind.i64.wrap (((d+1:Nat):Int) - 1)=d:=by rw[wrap64 (by omega) (by omega)];omega
  have:=Ys d v hd j e n (i+1) (by omega)
  rw[Ap4,aD a]
  simp only[aA,bB,Aj,a,Zd,aR,Zt,cD,aH,aG,aJ,aC a,aI,fP,b,e _ (aK a),bH,cT,bR,m,this,bU]
  by_cases c:Bu d v.l[i]=true<;>simp[c]
theorem Aaa: ∀ (d:Nat) (v:Val),d<=12->v.Aw<=1099511627776->W F22 0 [v.enc,.int d]=some [.bool (Bu d v)]
 | 0,v,_,_=>by
  rw[Ar0]
  simp[Bu]
 | d+1,v,hd,a=>by
  have b:=Ys d v (by omega) a (λx i=>Aaa d x (by omega) (by have:=eH i;omega)) v.l.length 0 (by omega)
  have e:=Yl d v (by omega) a (λp hp=>Aaa d p.2 (by omega) (by have:=eA hp;omega)) v.f.length 0 (by omega)
  have j:=v.B8
  have m:=v.A7
  have g: ¬ ((d+1:Nat):Int)=0:=by omega
  simp only[aP,aN]at b e
  have e1:decide ((0:Int)<(v.l.length:Int))= !decide (v.l= []):=by cases v.l<;>simp
  have o:decide ((0:Int)<(v.f.length:Int))= !decide (v.f= []):=by cases v.f<;>simp
  have q:decide ((64:Int)<(v.l.length:Int))= !decide (v.l.length<=64):=by rw[aS];simp;omega
  have r:decide ((64:Int)<(v.f.length:Int))= !decide (v.f.length<=64):=by rw[aS];simp;omega
  rw[Ar0]
  simp only[aX,g,Ze,aA,aR,aB,Zf,Ave v a,bH,cT,Az,Am,dN,cU,cN,eG,bY,aF,cX,e1,o,q,r,b,e]
  unfold Bu
  have h:Gz v.f 0=none:=rfl
  rw[h,Afp]
  generalize v.l.all (Bu d)=A at *
  generalize (v.f.all λp=>Cn p.1&&Bu d p.2)=B at *
  generalize rising v.f=C at *
  generalize Gk v=D
  clear b e
  have t:(if(!decide (v.k=4))=true then !decide (v.l= []) else false)= !decide (v.k≠4->v.l= []):=by by_cases c:v.k=4<;>simp[c]
  have u:(if(!decide (v.k=5))=true then !decide (v.f= []) else false)= !decide (v.k≠5->v.f= []):=by by_cases c:v.k=5<;>simp[c]
  rw[t,u,show decide (v.l.length<=64/\v.f.length<=64/\(v.k≠4->v.l= [])/\(v.k≠5->v.f= []))=(decide (v.l.length<=64)&&(decide (v.f.length<=64)&&(decide (v.k≠4->v.l= [])&&decide (v.k≠5->v.f= [])))) by simp only[Bool.decide_and]]
  generalize decide (v.l.length<=64)=b1
  generalize decide (v.f.length<=64)=b2
  generalize decide (v.k≠4->v.l= [])=b3
  generalize decide (v.k≠5->v.f= [])=b4
  cases D<;>cases b1<;>cases b2<;>cases b3<;>cases b4<;>cases A<;>cases B<;>cases C<;>rfl
theorem Adi (v:Val)(g:v.Aw<=1099511627776)(d: ∀p∈v.f,W F26 0 [p.2.enc]=some [.int p.2.size]): ∀ (n i c:Nat),i+n=v.f.length->c+Br (v.f.drop i)<=4611686018427387904->
  W F26 2 [.int c,.list (v.f.map bG),.int v.f.length,.int i]=some [.int ((c+Br (v.f.drop i):Nat):Int)]
 | 0,i,c,h,j=>by
  rw[Auy]
  have e: ¬ i<v.f.length:=by omega
  simp[e,aE (bD e),Br]
 | n+1,i,c,h,j=>by
  have a:i<v.f.length:=by omega
  have o:=v.A7
  have m:=A8 (i:=i) (by omega)
  have hd:Br (v.f.drop i)=v.f[i].2.size +Br (v.f.drop (i+1)):=by rw[aD a];rfl
  have b:IntKind.i64.wrap ((c:Int)+(v.f[i].2.size :Int))=((c+v.f[i].2.size :Nat):Int):=by rw[wrap64 (by omega) (by omega)];rfl
  rw[Auy]
  simp only[aA,bB,Aj,a,Zd,aR,Zt,cD,aH,aG,aJ,aC a,aI,dG,d _ (aK a),bH,bR,m,b]
  rw[Adi v g d n (i+1) _ (by omega) (by omega),hd,dD]
theorem Ae6 (v:Val)(g:v.Aw<=1099511627776)(d: ∀x∈v.l,W F26 0 [x.enc]=some [.int x.size]): ∀ (n i c:Nat),i+n=v.l.length->c+Cd (v.l.drop i)<=4611686018427387904->
  W F26 1 [.int c,.list (v.l.map bS),.int v.l.length,.int i,v.enc]=W F26 2 [.int ((c+Cd (v.l.drop i):Nat):Int),.list (v.f.map bG),.int v.f.length,.int 0]
 | 0,i,c,h,j=>by
  rw[Ar9]
  have e: ¬ i<v.l.length:=by omega
  simp[e,aE (bD e),Cd]
 | n+1,i,c,h,j=>by
  have a:i<v.l.length:=by omega
  have o:=v.B8
  have m:=A8 (i:=i) (by omega)
  have hd:Cd (v.l.drop i)=v.l[i].size +Cd (v.l.drop (i+1)):=by rw[aD a];rfl
  have b:IntKind.i64.wrap ((c:Int)+(v.l[i].size :Int))=((c+v.l[i].size :Nat):Int):=by rw[wrap64 (by omega) (by omega)];rfl
  rw[Ar9]
  simp only[aA,bB,Aj,a,Zd,aR,Zt,cD,aH,aG,aJ,aC a,aI,d _ (aK a),bH,bR,m,b]
  rw[Ae6 v g d n (i+1) _ (by omega) (by omega),hd,dD]
theorem A32: ∀v:Val,v.Aw<=1099511627776->W F26 0 [v.enc]=some [.int v.size]:=by
 refine eD λv a b d=>?_
 have i:=v.Ej
 have j:=v.size_eq
 have e:=Ae6 v d (λx g=>a x g (by have:=eH g;omega)) v.l.length 0 1 (by omega) (by simp only[aP];omega)
 have h:=Adi v d (λp hp=>b p hp (by have:=eA hp;omega)) v.f.length 0 (1+Cd v.l) (by omega) (by simp only[aP];omega)
 simp only[aP,aN]at e h
 rw[A7d]
 simp only[cU,aA,bY,aF]
 have c:W F26 1 [.int 1,.list (v.l.map bS),.int v.l.length,.int 0,v.enc]=W F26 2 [.int ((1+Cd v.l:Nat):Int),.list (v.f.map bG),.int v.f.length,.int 0]:=e
 rw[c,h,j]
theorem Hn (v:Val)(a:v.Aw<=1099511627776):W F21 0 [v.enc]=some [.bool v.valid]:=by
 rw[A4k]
 have b:=Aaa 12 v (by omega) a
 have c:=A32 v a
 simp only[aN]at b
 simp only[b,c,bH,aR,eQ,aA,fL]
 have:decide ((v.size:Int)<=600)=decide (v.size<=600):=by simp;omega
 cases Bu 12 v<;>simp[this]
end Go.CT.Sch
namespace Go.CT.Sch
open Go.Proofs
def nmR (r:Int):Bool:=decide (97<=r/\r<=122)||decide (65<=r/\r<=90)||decide (48<=r/\r<=57)||decide (r=45)||decide (r=95)||decide (r=47)
theorem Aic (r:Int):W F60 0 [.int r]=some [.bool (nmR r)]:=by
 rw[A69]
 simp only[fF,eQ,aX,aA,aR,Az,Am]
 congr 3
 unfold nmR
 rw[aS]
 simp
theorem To (c:UInt8):nmR c.toNat=Bq c:=by
 unfold nmR Bq
 rw[aS]
 simp
 omega
theorem Aa4 {r:Int}(h:128<=r):nmR r=false:=by
 unfold nmR
 simp
 omega
theorem Ae9 {c:UInt8}(h:128<=c.toNat):Bq c=false:=by
 rw[<-To];exact Aa4 (by omega)
theorem Ack (s:ByteArray)(d:s.size<=1099511627776): ∀ (n i:Nat),i+n=s.size->W F59 1 [.str s,.str s,.int i]=some [.bool ((s.data.toList.drop i).all Bq&&decide (1<=s.size/\s.size<=40))]
 | 0,i,h=>by
  have b: ¬ i<s.size:=by omega
  have g:s.data.toList.drop i= []:=aE (by simp;omega)
  rw[Apq]
  simp only[O.Rf b,O.R9 b,O.M9 b,aA,aR,aB,Zf,gR,dF,eQ,Az,Am,g,cH,bI]
  congr 3
  have e:s=(⟨#[]⟩:ByteArray)↔s.size=0:=by
   constructor
   ·rintro rfl;rfl
   ·intro j
    apply Ek
    have:s.data.toList.length=0:=by simpa using j
    rw[aU.1 this]
  by_cases c:s.size=0
  ·simp[e,c]
  ·have m:1<=s.size:=by omega
   rw[aS]
   simp[e,c,m]
   omega
 | n+1,i,h=>by
  have a:i<s.size:=by omega
  rw[Apq,Gy a]
  simp only[O.P5 a,O.Qh a,O.Lp a,aA,aR,Zt,O.Ql,Aic,bH,cT,bU]
  by_cases o:s[i].toNat <128
  ·have q:=Ack s d n (i+1) (by omega)
   rw[Nt a o]
   simp only[To]
   cases Bq s[i]with
   | true=>simpa using q
   | false=>simp
  ·have hd:=decode_high a (by omega)
   rw[Aa4 (by omega),Ae9 (by omega)]
   simp
theorem A5u (s:ByteArray)(a:s.size<=1099511627776):W F59 0 [.str s]=some [.bool (Cn s)]:=by
 rw[A8b];exact Ack s a s.size 0 (by omega)
theorem Aer (s:ByteArray):(Val.mk 3 0 s [] []).valid =Iz s:=by
 unfold fL Bu
 simp[Gk,rising,Val.size,Cd,Br]
theorem A4p (s:Stp)(a:s.fits):W F58 0 [s.enc]=some [.bool (Dr s)]:=by
 have d:=A5u s.nm (dO a.1 (by decide))
 have b:=Hn ⟨3,0,s.vl,[],[]⟩ (by
  have:=a.2
  rw[hB];simp[Hh,C5];omega)
 rw[Aer]at b
 have e:IV.agg [.int 3,.int 0,.str s.vl,.list [],.list []]=bS ⟨3,0,s.vl,[],[]⟩:=rfl
 rw[A7l]
 simp only[Stp.Bj,Stp.C7,Stp.Ee,Stp.B5,aA,aX,aR,d,bH,fF,eQ,fQ,Az,Am,De,Ar4,gS,fB,e,b]
 unfold Dr
 by_cases k1:s.k=1
 ·simp only[k1,Zd,Zt]
  cases Cn s.nm<;>simp
 ·by_cases k2:s.k=2
  ·simp only[k2,Zd,Ze,aB,Zt,Zf]
   by_cases e1:0<=s.ix<;>by_cases g:s.ix<=64<;>by_cases h:s.nm=Ar<;>simp[e1,g,h]
  ·simp only[k1,k2,Ze,aB,Zf]
   by_cases c:s.k=3
   ·simp only[c,Zd,Zt]
    cases Cn s.nm<;>cases Iz s.vl<;>simp
   ·simp[c]
theorem Amx (p:List Stp)(hp: ∀s∈p,s.fits)(c:p.length<=1099511627776): ∀ (n i:Nat),i+n=p.length->
  ∃r:Int,W F56 1 [.list (p.map Stp.enc),.int p.length,.int i]=some [.int r]/\decide (0<=r)= !(p.drop i).all Dr
 | 0,i,h=>by
  have d: ¬ i<p.length:=by omega
  have e:p.drop i= []:=aE (by omega)
  rw[Apn]
  simp only[bB,Aj,d,Ze,aA,aR,aB,Zf,e]
  exact⟨-1,rfl,rfl⟩
 | n+1,i,h=>by
  have a:i<p.length:=by omega
  have g:=A8 (i:=i) (by omega)
  obtain⟨r,j,b⟩:=Amx p hp c n (i+1) (by omega)
  rw[Apn,aD a]
  simp only[bB,Aj,a,Zd,aA,aR,Zt,cD,aH,aG,aJ,aC a,aI,A7j,A4p _ (hp _ (aK a)),bH,cT,bR,g,j,bU]
  cases Dr p[i]with
  | true=>exact⟨r,by simp,by simpa using b⟩
  | false=>exact⟨i,by simp,by simp⟩
theorem Tw (p:List Stp)(hp: ∀s∈p,s.fits)(d:p.length<=1099511627776):W F54 0 [.list (p.map Stp.enc)]=some [.bool (Dj p)]:=by
 obtain⟨r,e,a⟩:=Amx p hp d p.length 0 (by omega)
 have b:W F56 0 [.list (p.map Stp.enc)]=some [.int r]:=by
  rw[A6f]
  simp only[bY,aF,aA]
  exact e
 rw[A6o]
 simp only[bY,aF,aA,eQ,aR,A79,b,bH,fF,a,cT,aP,gU]
 unfold Dj
 have:decide ((p.length:Int)<=16)=decide (p.length<=16):=by simp;omega
 rw[this]
 by_cases c:p.length<=16<;>simp[c]
theorem Lo (s:ByteArray)(c:UInt8)(a:s.size<=1000000):W F61 0 [.list (B6 s),.int c.toNat]=some [.list (B6 (s++bsL [c]))]:=by
 rw[A49]
 have h:((B6 s).length + [IV.int (c.toNat:Int)].length) * 1<=A4:=by rw[O.Ka];simp;unfold A4;omega
 simp only[A48,O.Jo,bH,fR,aA,eR,h,Zt,O.Kb]
 rfl
theorem Um (s t:ByteArray)(a:s.size<=1000000)(b:t.size<=1000000): ∃n,W F64 0 [.list (B6 s),.str t]=some [n,.list (B6 (s++t))]:=by
 rw[A41]
 have h:(B6 s).length +t.size<=A4:=by rw[O.Ka];unfold A4;omega
 simp only[A48,O.Jo,bH,O.Ahi h,aA,dF,O.Kb]
 exact⟨_,rfl⟩
theorem Aj4 (s:ByteArray)(c:UInt8)(d:c.toNat<128)(e:s.size<=1000000): ∃n,W F67 0 [.list (B6 s),.int c.toNat]=some [n,.list (B6 (s++bsL [c]))]:=by
 rw[A8s]
 have h:((B6 s).length + [IV.int (c.toNat:Int)].length) * 1<=A4:=by rw[O.Ka];simp;unfold A4;omega
 have w1:IntKind.u32.wrap (c.toNat:Int)=c.toNat:=by
  unfold IntKind.wrap
  simp[IntKind.signed,IntKind.bits]
  omega
 have a:IntKind.u8.wrap (c.toNat:Int)=c.toNat:=by
  unfold IntKind.wrap
  simp[IntKind.signed,IntKind.bits]
  omega
 have b:decide ((c.toNat:Int)<=127)=true:=by simp;omega
 simp only[A48,O.Jo,bH,bY,aA,A51,O.Aln,w1,a,eQ,b,aR,Zt,fR,eR,h,O.Kb,fP]
 exact⟨_,rfl⟩
theorem Aoc {c:UInt8}(h:Hm c=true):c.toNat<128:=by
 unfold Hm at h
 simp at h
 omega
theorem Yb (s:ByteArray)(z:s.size<=200)(x: ∀c∈s.data.toList,Hm c=true): ∀ (n i:Nat) (o:ByteArray),i+n=s.size->o.size<=1+2 * i->W F65 1 [.str s,.int i,.list (B6 o)]=some [.str (o++bsL ((s.data.toList.drop i).flatMap H8++ [34]))]
 | 0,i,o,h,r=>by
  have t: ¬ i<s.size:=by omega
  have u:s.data.toList.drop i= []:=aE (by simp;omega)
  have w:=Lo o 34 (by omega)
  rw[Ark]
  simp only[O.Rf t,O.R9 t,O.M9 t,aA,aR,aB,Zf]
  rw[show(IV.int 34)=IV.int ((34:UInt8).toNat :Int) from rfl,w]
  simp only[bH,A8q,O.Lm,u,cV,bE]
 | n+1,i,o,h,r=>by
  have j:i<s.size:=by omega
  have A:=x s[i] (by rw[show s[i]=s.data.toList[i]'(by simpa using j) from rfl];exact aK _)
  have b:=Aoc A
  have next: ∀a:List UInt8,a.length<=2->H8 s[i]=a->W F65 3 [.str s,.int ((i+1:Nat):Int),.list (B6 (o++bsL a))]=some [.str (o++bsL ((s.data.toList.drop i).flatMap H8++ [34]))]:=by
   intro a F B
   rw[A35]
   rw[Yb s z x n (i+1) _ (by omega) (by rw[aL,Bz];omega),Gy j,cA,B,bL,He a,bF]
  rw[Ark]
  simp only[O.P5 j,O.Qh j,O.Lp j,Nt j b,aA,aR,Zt,O.Ql,aX]
  have two:s[i].toNat =34\/s[i].toNat =92->W F65 2 [.int s[i].toNat,.int s[i].toNat,.bool true,.str s,.int ((i+1:Nat):Int),.list (B6 o)]=some [.str (o++bsL ((s.data.toList.drop i).flatMap H8++ [34]))]:=by
   intro u
   rw[Avb]
   have w:=Lo o 92 (by omega)
   obtain⟨m,q⟩:=Aj4 (o++bsL [92]) s[i] b (by rw[aL,Bz];simp;omega)
   simp only[aR,Zt]
   rw[show(IV.int 92)=IV.int ((92:UInt8).toNat :Int) from rfl,w]
   simp only[bH,q,fI]
   rw[bF,<-He]
   exact next [92,s[i]] (by simp) (by unfold H8;rw[if_neg (by omega),if_pos u])
  by_cases C:s[i].toNat =34
  ·have d:decide ((s[i].toNat :Int)=34)=true:=by simp;omega
   simp only[d,Zt]
   exact two (.inl C)
  ·have d:decide ((s[i].toNat :Int)=34)=false:=by simp;omega
   simp only[d,aB,Zf]
   by_cases E:s[i].toNat =92
   ·have e:decide ((s[i].toNat :Int)=92)=true:=by simp;omega
    simp only[e]
    exact two (.inr E)
   ·have e:decide ((s[i].toNat :Int)=92)=false:=by simp;omega
    simp only[e]
    rw[Avb]
    simp only[aR,aB,Zf,aX,aA]
    by_cases y:s[i].toNat =10
    ·have g:decide ((s[i].toNat :Int)=10)=true:=by simp;omega
     simp only[g,Zt]
     obtain⟨m,q⟩:=Um o (bsL [92,110]) (by omega) (by rw[Bz];simp)
     rw[show(ByteArray.mk #[92,110])=bsL [92,110]from rfl]
     simp only[q,fI]
     exact next [92,110] (by simp) (by unfold H8;rw[if_pos y])
    ·have g:decide ((s[i].toNat :Int)=10)=false:=by simp;omega
     simp only[g,aB,Zf]
     obtain⟨m,q⟩:=Aj4 o s[i] b (by omega)
     simp only[q,fI]
     exact next [s[i]] (by simp) (by unfold H8;rw[if_neg y,if_neg (by omega)])
theorem Azq (s:ByteArray)(h:Iz s=true):W F65 0 [.str s]=some [.str (K5 s)]:=by
 have a:=Nr h
 unfold Iz at h
 simp only[aM,bM]at h
 rw[A6s]
 have b:=Lo Ar 34 (by decide)
 rw[show(IV.list [])=IV.list (B6 Ar) from rfl,show(IV.int 34)=IV.int ((34:UInt8).toNat :Int) from rfl,b]
 simp only[bH,Gl]
 rw[show(IV.int 0)=IV.int ((0:Nat):Int) from rfl,Yb s a h.1 s.size 0 _ (by omega) (by rw[Bz];simp),<-He]
 rfl
theorem Xt (p:List Stp)(hp: ∀s∈p,Dr s=true)(A:p.length<=16): ∀ (n i:Nat) (o:ByteArray),i+n=p.length->o.size<=500 * i->W F53 1 [.list (p.map Stp.enc),.int p.length,.int i,.list (B6 o)]=some [.str (o++Dw (decide (i=0)) (p.drop i)),.int 0]
 | 0,i,o,h,B=>by
  have C: ¬ i<p.length:=by omega
  have E:p.drop i= []:=aE (by omega)
  rw[Auq]
  simp only[aA,bB,Aj,C,Ze,aR,aB,Zf,E,Dw,Qu,A8q,O.Lm,bH]
 | n+1,i,o,h,B=>by
  have j:i<p.length:=by omega
  have F:=A8 (i:=i) (by omega)
  have d:=hp _ (aK j)
  obtain⟨I,J,w,G,H⟩:=Df d
  have e: ∀c:UInt8,(bsL [c]).size =1:=λc=>by rw[Bz];rfl
  have next: ∀t:ByteArray,G6 (decide (i=0)) p[i]=t->W F53 3 [.list (p.map Stp.enc),.int p.length,.int i,.list (B6 (o++t))]=some [.str (o++Dw (decide (i=0)) (p.drop i)),.int 0]:=by
   intro t y
   have q:(G6 (decide (i=0)) p[i]).size <=500:=Rv d
   rw[A5c]
   simp only[bR,F,aA]
   rw[Xt p hp A n (i+1) (o++t) (by omega) (by rw[aL,<-y];omega),aD j,Dw,y,bF]
   rfl
  rw[Auq]
  simp only[aA,bB,Aj,j,Zd,aR,Zt,cD,aH,aG,aJ,aC j,aI,Stp.Bj,Stp.C7,Stp.Ee,Stp.B5,aX,cX]
  rw[show(ByteArray.mk #[91])=bsL [91]from rfl,show(ByteArray.mk #[93])=bsL [93]from rfl,show(ByteArray.mk #[61])=bsL [61]from rfl,show(IV.int 46)=IV.int ((46:UInt8).toNat :Int) from rfl]
  rcases H with k1 | k2 | g
  ·simp only[k1,Zd,Zt]
   by_cases q:i=0
   ·have a: ¬ (0:Int)<i:=by omega
    obtain⟨m,b⟩:=Um o p[i].nm (by omega) (by omega)
    simp only[a,Ze,aB,Zf]
    rw[Ar5]
    simp only[Stp.C7,aA,b,fI]
    exact next _ (by unfold G6;rw[if_neg (by omega),if_neg (by omega),if_pos (by simpa using q)])
   ·have a:(0:Int)<i:=by omega
    obtain⟨m,b⟩:=Um (o++bsL [46]) p[i].nm (by rw[aL,e];omega) (by omega)
    simp only[a,Zd,Zt,Lo o 46 (by omega),bH]
    rw[Ar5]
    simp only[Stp.C7,aA,b,fI,bF]
    exact next _ (by unfold G6;rw[if_neg (by omega),if_neg (by omega),if_neg (by simpa using q)])
  ·obtain⟨x,z⟩:=dM (w k2).1
   have r:=(w k2).2
   rw[z]at r
   have hd:W F63 0 [.int p[i].ix]=some [.str (hA p[i].ix.toNat)]:=by
    rw[Bd2,z,O.Ayo x (by omega)];rfl
   have u:=Rc p[i].ix.toNat
   have k1:decide (p[i].k =1)=false:=by rw[k2];rfl
   simp only[k1,k2,Zd,aB,Zf,Zt,hd,bH]
   rw[E0 (by rw[e];omega) (by omega)]
   simp only[aA]
   rw[E0 (by rw[aL,e];omega) (by rw[e];omega)]
   obtain⟨m,b⟩:=Um o (bsL [91]++hA p[i].ix.toNat ++bsL [93]) (by omega) (by rw[aL,aL,e,e];omega)
   simp only[aA,b,fI]
   exact next _ (by unfold G6;rw[if_pos k2])
  ·have hd:=Azq p[i].vl (G g)
   have u:=Oz p[i].vl
   have k1:decide (p[i].k =1)=false:=by rw[g];rfl
   have k2:decide (p[i].k =2)=false:=by rw[g];rfl
   simp only[k1,k2,g,Zd,aB,Zf,Zt]
   rw[E0 (by rw[e];omega) (by omega)]
   simp only[aA]
   rw[E0 (by rw[aL,e];omega) (by rw[e];omega)]
   simp only[aA,hd,bH]
   rw[E0 (by rw[aL,aL,e,e];omega) (by omega)]
   simp only[aA]
   rw[E0 (by rw[aL,aL,aL,e,e];omega) (by rw[e];omega)]
   obtain⟨m,b⟩:=Um o (bsL [91]++p[i].nm ++bsL [61]++K5 p[i].vl ++bsL [93]) (by omega) (by simp only[aL,e];omega)
   simp only[aA,b,fI]
   exact next _ (by unfold G6;rw[if_neg (by omega),if_pos g])
theorem Al3 (p:List Stp)(hp: ∀s∈p,s.fits)(b:p.length<=1099511627776):W F53 0 [.list (p.map Stp.enc)]=some [.str (C9 p),.int (Al2 p)]:=by
 rw[A66]
 unfold C9 Al2
 cases a:Dj p with
 | false=>simp only[Tw p hp b,a,bH,cT,aA,aY,aR,Zt];rfl
 | true=>
  simp only[Tw p hp b,a,bH,cT,aA,aV,aR,aB,Zf,Zt,bY,aF]
  unfold Dj at a
  simp only[aM,decide_eq_true_eq,bM]at a
  have:=Xt p a.1 a.2 p.length 0 Ar (by omega) (bP _)
  rw[Gl]at this
  exact this
end Go.CT.Sch
namespace Go.CT.Sch
open Go.Proofs
def Bc:Val:=⟨0,0,Ar,[],[]⟩
def Iv (o:Option Val):List IV:= [.int (o.getD Bc).k,.int (o.getD Bc).n,.str (o.getD Bc).s,.list ((o.getD Bc).l.map bS),.list ((o.getD Bc).f.map bG),.bool o.isSome]
theorem Si {n b:Nat}(a:n<=1099511627776)(c:b<=127):n * b<=A4:=by
 have:n * b<=1099511627776 * 127:=aW a c
 unfold A4;omega
theorem Abr {α:Type}(l:List α){i:Nat}(h:i<l.length):l.take i++ [l[i]]=l.take (i+1):=by
 rw[List.take_add_one,aC h];rfl
theorem Vw (v:Val)(j:Kf 1099511627776 v)(m o q b c d e:IV)(r: ∀p∈v.f,W F10 0 [p.2.enc]=some p.2.Hi): ∀ (n i:Nat),i+n=v.f.length->
  W F10 2 [.int i,v.enc,m,o,q,b,c,d,e,.list ((v.f.take i).map bG)]=some [b,c,d,e,.list (v.f.map bG)]
 | 0,i,h=>by
  rw[Au4]
  have t: ¬ i<v.f.length:=by omega
  simp only[cN,aA,bY,aF,bB,Aj,t,Ze,aR,aB,Zf,dP (bD t)]
 | n+1,i,h=>by
  have a:i<v.f.length:=by omega
  have w:=j.Uz
  have u:=A8 (i:=i) (by omega)
  have:=Vw v j m o q b c d e r n (i+1) (by omega)
  have g:((v.f.take i).length +1) * 96<=A4:=Si (by rw[eS];omega) (by omega)
  rw[Au4]
  simp only[cN,aA,bY,aF,bB,Aj,a,Zd,aR,Zt,cD,aH,aG,aJ,aC a,aI,dC,dG,r _ (aK a),eI,gS,fB,Fld.E6,fR,eR,aQ,g,bR,u]
  rw[<-Abr v.f a,cG]at this
  exact this
theorem Uj (v:Val)(o:Kf 1099511627776 v)(b c d e g j:IV)(q: ∀x∈v.l,W F10 0 [x.enc]=some x.Hi): ∀ (n i:Nat),i+n=v.l.length->
  W F10 1 [.int i,v.enc,b,c,d,e,g,j,.list ((v.l.take i).map bS)]=W F10 2 [.int 0,v.enc,b,c,d,e,g,j,.list (v.l.map bS),.list []]
 | 0,i,h=>by
  rw[As2]
  have r: ¬ i<v.l.length:=by omega
  simp only[cU,aA,bY,aF,bB,Aj,r,Ze,aR,aB,Zf,dP (bD r)]
 | n+1,i,h=>by
  have a:i<v.l.length:=by omega
  have u:=o.Zn
  have t:=A8 (i:=i) (by omega)
  have:=Uj v o b c d e g j q n (i+1) (by omega)
  have m:((v.l.take i).length +1) * 80<=A4:=Si (by rw[eS];omega) (by omega)
  rw[As2]
  simp only[cU,aA,bY,aF,bB,Aj,a,Zd,aR,Zt,cD,aH,aG,aJ,aC a,aI,q _ (aK a),eI,gS,fB,hC,fR,eR,aQ,m,bR,t]
  rw[<-Abr v.l a,cG]at this
  exact this
theorem Au8: ∀v:Val,Kf 1099511627776 v->W F10 0 [v.enc]=some v.Hi:=by
 refine eD λv b c a=>?_
 have d:=Uj v a (.int 0) (.int 0) (.str ⟨#[]⟩) (.int v.k) (.int v.n) (.str v.s) (λx e=>b x e (a.W5 e)) v.l.length 0 (by omega)
 have g:=Vw v a (.int 0) (.int 0) (.str ⟨#[]⟩) (.int v.k) (.int v.n) (.str v.s) (.list (v.l.map bS)) (λp hp=>c p hp (a.Oh hp)) v.f.length 0 (by omega)
 simp only[fJ,bQ,aN]at d g
 rw[A5d]
 simp only[dN,gL,gC,aA]
 rw[d,g,eI]
theorem Yk (v:Val)(nm:ByteArray)(d:Kf 1099511627776 v)(e g j:IV): ∀ (n i:Nat),i+n=v.f.length->
  W Aw0 1 [.str nm,.int i,v.enc,e,g,j]=some (Iv (((v.f.drop i).find? λp=>decide (p.1=nm)).map (·.2)))
 | 0,i,h=>by
  rw[Amw]
  have m: ¬ i<v.f.length:=by omega
  simp[m,aE (bD m),Iv,Bc,Ar]
 | n+1,i,h=>by
  have b:i<v.f.length:=by omega
  have q:=d.Uz
  have o:=A8 (i:=i) (by omega)
  have:=Yk v nm d e g j n (i+1) (by omega)
  have a:=aK b
  rw[Amw,aD b]
  simp only[cN,aA,bY,aF,bB,Aj,b,Zd,aR,Zt,cD,aH,aG,aJ,aC b,aI,dC,dG,fQ,Au8 v.f[i].2 (d.Oh a),eI,gS,bR,o,this,bV]
  by_cases c:v.f[i].1 =nm
  ·simp[c,Iv]
  ·have c':decide (v.f[i].1 =nm)=false:=by simpa using c
   simp only[c,c',Ze,aB,Zf]
theorem Azk (v:Val)(nm:ByteArray)(a:Kf 1099511627776 v):W Aw0 0 [v.enc,.str nm]=some (Iv (v.get nm)):=by
 rw[A1k]
 unfold fX
 have:=Yk v nm a (.int 0) (.int 0) (.str ⟨#[]⟩) v.f.length 0 (by omega)
 simp only[aP,aN]at this
 simp only[dN,aA,aX,aR,this]
 by_cases c:v.k=5<;>simp[c,Iv,Bc,Ar]
def A5y (v:Val)(nm:ByteArray):List (ByteArray × Val):=if v.k=5 then v.f.filter (λp=> !decide (p.1=nm)) else[]
def Rb (p:ByteArray × Val):Bool->List (ByteArray × Val)->List (ByteArray × Val)
 | done,[]=>if done then[]else[p]
 | done,x::xs=>(if !done && !blt x.1 p.1 then[p]else[])++(if x.1=p.1 then[]else[x])++Rb p (done|| !blt x.1 p.1) xs
theorem Zq (p:ByteArray × Val): ∀ (l:List (ByteArray × Val)) (d:Bool),(Rb p d l).length <=l.length+1
 | [],d=>by cases d<;>simp[Rb]
 | x::xs,true=>by
  simp only[Rb,aV,cL,aB,Zf,bE,dA,aO]
  have:(Rb p true xs).length <=xs.length:=by
   have key: ∀l,(Rb p true l).length <=l.length:=by
    intro l
    induction l with
    | nil=>simp[Rb]
    | cons y ys a=>
     simp only[Rb,aV,cL,aB,Zf,bE,dA,aO,bA]
     split<;>simp<;>omega
   exact key xs
  split<;>simp<;>omega
 | x::xs,false=>by
  have b:=Zq p xs true
  have c:=Zq p xs false
  have key: ∀l,(Rb p true l).length <=l.length:=by
   intro l
   induction l with
   | nil=>simp[Rb]
   | cons y ys a=>
    simp only[Rb,aV,cL,aB,Zf,bE,dA,aO,bA]
    split<;>simp<;>omega
  have e:=key xs
  simp only[Rb,aY,bI,dX,aO,bA]
  cases blt x.1 p.1<;>simp<;>split<;>simp<;>omega
def Xh (l:List (ByteArray × Val)):List (ByteArray × Val):=l.foldl (λacc p=>Rb p false acc) []
theorem Q4 (q:ByteArray × Val->Bool): ∀l:List (ByteArray × Val),Dl (l.filter q)<=Dl l
 | []=>by simp
 | p::l=>by
  have:=Q4 q l
  rw[bT]
  split
  ·rw[C6,C6];omega
  ·rw[C6];omega
def Bc4 (v:Val)(nm:ByteArray)(x:Val):Val:=⟨5,0,Ar,[],Xh (A5y v nm++ [(nm,x)])⟩
theorem At6 (v:Val)(nm:ByteArray)(a:v.Aw<=1099511627776):W Aw0 0 [v.enc,.str nm]=some (Iv (v.get nm)):=Azk v nm (Hl v (by omega))
end Go.CT.Sch
namespace Go.CT.Sch
open Go.Proofs
theorem Yc (v:Val)(r:v.Aw<=1099511627776)(e: ∀p∈v.f,W Abk 0 [p.2.enc]=some [.int p.2.size]): ∀ (n i c:Nat),i+n=v.f.length->c<=1099511627776->
  W Abk 2 [.int c,.int i,v.enc]=some [.int ((c+Br (v.f.drop i):Nat):Int)]
 | 0,i,c,h,o=>by
  rw[Th]
  have d: ¬ i<v.f.length:=by omega
  simp[d,aE (bD d),Br]
 | n+1,i,c,h,o=>by
  have a:i<v.f.length:=by omega
  have u:=v.A7
  have g:=A8 (i:=i) (by omega)
  have w:=Rj (aK a)
  have j:=v.Ej
  rw[v.size_eq]at j
  have hd:Br (v.f.drop i)=v.f[i].2.size +Br (v.f.drop (i+1)):=by rw[aD a];rfl
  have b:IntKind.i64.wrap ((c:Int)+(v.f[i].2.size :Nat))=((c+v.f[i].2.size :Nat):Int):=by rw[wrap64 (by omega) (by omega)];rfl
  rw[Th]
  simp only[cN,aA,bY,aF,bB,Aj,a,Zd,aR,Zt,cD,aH,aG,aJ,aC a,aI,dG,e _ (aK a),bH,bR,g,b]
  by_cases m:c+v.f[i].2.size <=1099511627776
  ·rw[Yc v r e n (i+1) _ (by omega) m,hd,dD]
  ·-- larger sums: only the bound differs
   have key: ∀ (n i c:Nat),i+n=v.f.length->c+Br (v.f.drop i)<=4611686018427387904->W Abk 2 [.int c,.int i,v.enc]=some [.int ((c+Br (v.f.drop i):Nat):Int)]:=by
    intro n
    induction n with
    | zero=>
     intro i c h _
     rw[Th]
     have d: ¬ i<v.f.length:=by omega
     simp[d,aE (bD d),Br]
    | succ n ihn=>
     intro i c h o
     have a:i<v.f.length:=by omega
     have g:=A8 (i:=i) (by omega)
     have hd:Br (v.f.drop i)=v.f[i].2.size +Br (v.f.drop (i+1)):=by rw[aD a];rfl
     have b:IntKind.i64.wrap ((c:Int)+(v.f[i].2.size :Nat))=((c+v.f[i].2.size :Nat):Int):=by rw[wrap64 (by omega) (by omega)];rfl
     rw[Th]
     simp only[cN,aA,bY,aF,bB,Aj,a,Zd,aR,Zt,cD,aH,aG,aJ,aC a,aI,dG,e _ (aK a),bH,bR,g,b]
     rw[ihn (i+1) _ (by omega) (by omega),hd,dD]
   have q:Br (v.f.drop (i+1))<=Br v.f:=by
    have:=fC (i+1) v.f
    have t:=Le (v.f.take (i+1)) (v.f.drop (i+1))
    rw[this]at t;omega
   rw[key n (i+1) _ (by omega) (by omega),hd,dD]
theorem Yu (v:Val)(g:v.Aw<=1099511627776)(d: ∀x∈v.l,W Abk 0 [x.enc]=some [.int x.size]): ∀ (n i c:Nat),i+n=v.l.length->c+Cd (v.l.drop i)<=4611686018427387904->
  W Abk 1 [.int c,.int i,v.enc]=W Abk 2 [.int ((c+Cd (v.l.drop i):Nat):Int),.int 0,v.enc]
 | 0,i,c,h,j=>by
  rw[Am1]
  have e: ¬ i<v.l.length:=by omega
  simp[e,aE (bD e),Cd]
 | n+1,i,c,h,j=>by
  have a:i<v.l.length:=by omega
  have o:=v.B8
  have m:=A8 (i:=i) (by omega)
  have hd:Cd (v.l.drop i)=v.l[i].size +Cd (v.l.drop (i+1)):=by rw[aD a];rfl
  have b:IntKind.i64.wrap ((c:Int)+(v.l[i].size :Nat))=((c+v.l[i].size :Nat):Int):=by rw[wrap64 (by omega) (by omega)];rfl
  rw[Am1]
  simp only[cU,aA,bY,aF,bB,Aj,a,Zd,aR,Zt,cD,aH,aG,aJ,aC a,aI,d _ (aK a),bH,bR,m,b]
  rw[Yu v g d n (i+1) _ (by omega) (by omega),hd,dD]
theorem Axz: ∀v:Val,v.Aw<=1099511627776->W Abk 0 [v.enc]=some [.int v.size]:=by
 refine eD λv a b d=>?_
 have i:=v.Ej
 have j:=v.size_eq
 have e:=Yu v d (λx g=>a x g (by have:=eH g;omega)) v.l.length 0 1 (by omega) (by simp only[aP];omega)
 have h:=Yc v d (λp hp=>b p hp (by have:=eA hp;omega)) v.f.length 0 (1+Cd v.l) (by omega) (by omega)
 simp only[aP,aN]at e h
 rw[Ayx]
 have c:W Abk 1 [.int 1,.int 0,v.enc]=W Abk 2 [.int ((1+Cd v.l:Nat):Int),.int 0,v.enc]:=e
 rw[c,h,j]
theorem Qj (v:Val)(a:v.Aw<=1099511627776):W A85 0 [v.enc]=some [.bool v.valid]:=by
 rw[Ayh]
 have b:=Wc 12 v (by omega) a
 have c:=Axz v a
 simp only[aN]at b
 simp only[b,c,bH,aR,eQ,aA,fL]
 have:decide ((v.size:Int)<=600)=decide (v.size<=600):=by simp;omega
 cases Bu 12 v<;>simp[this]
theorem Vl (v:Val)(u:v.Aw<=1099511627776)(q: ∀p∈v.f,∀c d:Int,c<=100000-> -1099511627776<=d->d<=100000-> ∃r:Int,W F4 0 [p.2.enc,.int c,.int d]=some [.int r]/\r<=100000)(d:Int)(hd: -1000000000000<=d/\d<=100000): ∀ (n i:Nat) (c:Int),i+n=v.f.length->c<=100000->
  ∃r:Int,W F4 2 [.int c,.int d,.int i,v.enc]=some [.int r]/\r<=100000
 | 0,i,c,h,e=>by
  rw[A13]
  have w: ¬ i<v.f.length:=by omega
  exact⟨c,by simp[w],e⟩
 | n+1,i,c,h,e=>by
  have a:i<v.f.length:=by omega
  have A:=v.A7
  have x:=A8 (i:=i) (by omega)
  have g:IntKind.i64.wrap (d - 1)=d - 1:=wrap64 (by omega) (by omega)
  obtain⟨r,y,j⟩:=q _ (aK a) c (d - 1) e (by omega) (by omega)
  obtain⟨z,m,b⟩:=Vl v u q d hd n (i+1) r (by omega) j
  rw[A13]
  by_cases o:0<=c
  ·by_cases t:(1000:Int)<v.f[i].1.size
   ·exact⟨-1,by simp[a,o,t],by omega⟩
   ·exact⟨z,by simp only[cN,aA,bY,aF,bB,Aj,a,Zd,aR,Zt,fF,o,cD,aH,aG,aJ,aC a,aI,dC,dF,cX,t,Ze,aB,Zf,dG,fP,g,y,bH,bR,x,m],b⟩
  ·exact⟨c,by simp[a,o],e⟩
theorem Uw (v:Val)(t:v.Aw<=1099511627776)(o: ∀x∈v.l,∀c d:Int,c<=100000-> -1099511627776<=d->d<=100000-> ∃r:Int,W F4 0 [x.enc,.int c,.int d]=some [.int r]/\r<=100000)(d:Int)(hd: -1000000000000<=d/\d<=100000): ∀ (n i:Nat) (c:Int),i+n=v.l.length->c<=100000->
  ∃r:Int,W F4 1 [.int c,.int d,.int i,v.enc]=W F4 2 [.int r,.int d,.int 0,v.enc]/\r<=100000
 | 0,i,c,h,b=>by
  rw[A3h]
  have u: ¬ i<v.l.length:=by omega
  exact⟨c,by simp[u],b⟩
 | n+1,i,c,h,b=>by
  have e:i<v.l.length:=by omega
  have A:=v.B8
  have w:=A8 (i:=i) (by omega)
  have g:IntKind.i64.wrap (d - 1)=d - 1:=wrap64 (by omega) (by omega)
  obtain⟨r,y,j⟩:=o _ (aK e) c (d - 1) b (by omega) (by omega)
  obtain⟨z,m,a⟩:=Uw v t o d hd n (i+1) r (by omega) j
  rw[A3h]
  by_cases q:0<=c
  ·exact⟨z,by simp only[cU,aA,bY,aF,bB,Aj,e,Zd,aR,Zt,fF,q,cD,aH,aG,aJ,aC e,aI,fP,g,y,bH,bR,w,m],a⟩
  ·exact⟨c,by simp[e,q],b⟩
theorem At8: ∀v:Val,v.Aw<=1099511627776-> ∀c d:Int,c<=100000-> -1099511627776<=d->d<=100000-> ∃r:Int,W F4 0 [v.enc,.int c,.int d]=some [.int r]/\r<=100000:=by
 refine eD λv e g j c d z hd t=>?_
 rw[Bam]
 by_cases b:c<=0
 ·exact⟨-1,by simp[b],by omega⟩
 ·by_cases h:d<=0
  ·exact⟨-1,by simp[b,h],by omega⟩
  ·by_cases m:(1000:Int)<v.s.size
   ·exact⟨-1,by simp[b,h,m],by omega⟩
   ·have u:IntKind.i64.wrap (c - 1)=c - 1:=wrap64 (by omega) (by omega)
    obtain⟨r,o,w⟩:=Uw v j (λx q=>e x q (by have:=eH q;omega)) d (by omega) v.l.length 0 (c - 1) (by omega) (by omega)
    obtain⟨y,a,i⟩:=Vl v j (λp hp=>g p hp (by have:=eA hp;omega)) d (by omega) v.f.length 0 r (by omega) w
    simp only[aN]at o a
    exact⟨y,by simp[b,h,m,u,o,a],i⟩
theorem Jh (a b:Bool):W A1t 0 [.bool a,.bool b]=some [.int (if a then -1 else if b then 1 else 0)]:=by
 rw[Awv];cases a<;>cases b<;>rfl
theorem Ag4 (a b:Int):(if decide (a<b)=true then(-1:Int) else if decide (b<a)=true then 1 else 0)=0↔a=b:=by
 by_cases c:a<b
 ·simp[c];omega
 ·by_cases d:b<a
  ·simp[c,d];omega
  ·simp[c,d];omega
theorem Aqc (a b:ByteArray):(if blt a b=true then(-1:Int) else if blt b a=true then 1 else 0)=0↔a=b:=by
 rcases Je a b with h | rfl | h
 ·simp[h];exact Oo h
 ·simp[D2]
 ·have:=Nd h
  simp[h,this]
  exact λe=>Oo h e.symm
theorem A6h (a b:Val)(u:Kf 1099511627776 a)(t:Kf 1099511627776 b)(w: ∀p∈a.f,∀y:Val,Kf 1099511627776 y-> ∃c:Int,W P2 0 [p.2.enc,y.enc]=some [.int c]/\(c=0↔p.2=y)): ∀ (n i:Nat) (c:Int),i+n=a.f.length->i<=b.f.length->
  ∃c':Int,W P2 5 [.int c,.int i,a.enc,b.enc]=some [.int c']/\(c'=0↔c=0/\a.f.drop i=b.f.drop i)
 | n,i,c,h,C=>by
  have E:=u.Uz
  have F:=t.Uz
  rw[Azm]
  by_cases x:c=0
  ·subst x
   by_cases d:i<a.f.length
   ·by_cases j:i<b.f.length
    ·obtain⟨m,rfl⟩: ∃m,n=m+1:=⟨n - 1,by omega⟩
     have B:=A8 (i:=i) (by omega)
     have q:=aK j
     obtain⟨G,H,I⟩:=w _ (aK d) b.f[i].2 (t.Oh q)
     have z:=Aqc a.f[i].1 b.f[i].1
     have hd:(a.f.drop i=b.f.drop i)↔(a.f[i].1 =b.f[i].1 /\a.f[i].2 =b.f[i].2 /\a.f.drop (i+1)=b.f.drop (i+1)):=by
      rw[aD d,aD j]
      simp only[gH,Prod.ext_iff,and_assoc]
     simp only[cN,aA,bY,aF,bB,Aj,d,j,Zd,aR,Zt,aX,cD,aH,aG,aJ,aC d,aC j,aI,dC,dG,Ap6,At2,Jh,bH,hd]
     generalize (if blt a.f[i].1 b.f[i].1 =true then(-1:Int) else if blt b.f[i].1 a.f[i].1 =true then 1 else 0)=o at z
     by_cases r:o=0
     ·obtain⟨c',r1,r2⟩:=A6h a b u t w m (i+1) G (by omega) (by omega)
      refine⟨c',by simp only[r,Zd,Zt,H,bH,Aig,bR,B,aA,r1],?_⟩
      rw[r2,I]
      have:=z.1 r
      simp[this]
     ·obtain⟨c',r1,r2⟩:=A6h a b u t w m (i+1) o (by omega) (by omega)
      refine⟨c',by simp only[r,Ze,aB,Zf,Aig,bR,B,aA,r1],?_⟩
      rw[r2]
      have: ¬ a.f[i].1 =b.f[i].1 :=λe=>r (z.2 e)
      simp[r,this]
    ·have J:i=b.f.length:=by omega
     have K: ¬ a.f.length=b.f.length:=by omega
     refine⟨1,?_,by
      have: ¬ a.f.drop i=b.f.drop i:=λe=>by
       have:=congrArg cY e
       simp at this;omega
      simp[this]⟩
     have L: ¬ (a.f.length:Int)<b.f.length:=by omega
     have A:(b.f.length:Int)<a.f.length:=by omega
     simp[d,j,L,A,Jh]
   ·have J:i=a.f.length:=by omega
    refine⟨_,by simp only[cN,aA,bY,aF,bB,Aj,d,Ze,aR,aB,Zf,aX,Zd,Zt,Jh,bH,cX];rfl,?_⟩
    have e1:a.f.drop i= []:=aE (by omega)
    rw[e1]
    by_cases g:a.f.length=b.f.length
    ·have:b.f.drop i= []:=aE (by omega)
     simp[g,this]
    ·have A:a.f.length<b.f.length:=by omega
     have: ¬ []=b.f.drop i:=λe=>by
      have:=congrArg cY e
      simp at this;omega
     simp[A,this]
  ·refine⟨c,?_,by simp[x]⟩
   by_cases d:i<a.f.length<;>by_cases j:i<b.f.length<;>simp[d,j,x]
theorem Bao (a b:Val)(t:Kf 1099511627776 a)(o:Kf 1099511627776 b)(u: ∀x∈a.l,∀y:Val,Kf 1099511627776 y-> ∃c:Int,W P2 0 [x.enc,y.enc]=some [.int c]/\(c=0↔x=y)): ∀ (n i:Nat) (c:Int),i+n=a.l.length->i<=b.l.length->
  ∃c':Int,W P2 3 [.int c,.int i,a.enc,b.enc]=W P2 4 [.int c',a.enc,b.enc]/\(c'=0↔c=0/\a.l.drop i=b.l.drop i)
 | n,i,c,h,w=>by
  have z:=t.Zn
  have A:=o.Zn
  rw[Az9]
  by_cases q:c=0
  ·subst q
   by_cases d:i<a.l.length
   ·by_cases j:i<b.l.length
    ·obtain⟨m,rfl⟩: ∃m,n=m+1:=⟨n - 1,by omega⟩
     have B:=A8 (i:=i) (by omega)
     obtain⟨C,E,F⟩:=u _ (aK d) b.l[i] (o.W5 (aK j))
     have hd:(a.l.drop i=b.l.drop i)↔(a.l[i]=b.l[i]/\a.l.drop (i+1)=b.l.drop (i+1)):=by
      rw[aD d,aD j]
      simp only[gH]
     obtain⟨c',r1,r2⟩:=Bao a b t o u m (i+1) C (by omega) (by omega)
     refine⟨c',by simp only[cU,aA,bY,aF,bB,Aj,d,j,Zd,aR,Zt,aX,cD,aH,aG,aJ,aC d,aC j,aI,E,bH,bR,B,r1],?_⟩
     rw[r2,F,hd];simp
    ·refine⟨1,?_,by
      have: ¬ a.l.drop i=b.l.drop i:=λe=>by
       have:=congrArg cY e
       simp at this;omega
      simp[this]⟩
     have G: ¬ (a.l.length:Int)<b.l.length:=by omega
     have r:(b.l.length:Int)<a.l.length:=by omega
     simp[d,j,G,r,Jh]
   ·have H:i=a.l.length:=by omega
    refine⟨_,by simp only[cU,aA,bY,aF,bB,Aj,d,Ze,aR,aB,Zf,aX,Zd,Zt,Jh,bH,cX];rfl,?_⟩
    have e1:a.l.drop i= []:=aE (by omega)
    rw[e1]
    by_cases g:a.l.length=b.l.length
    ·have:b.l.drop i= []:=aE (by omega)
     simp[g,this]
    ·have r:a.l.length<b.l.length:=by omega
     have: ¬ []=b.l.drop i:=λe=>by
      have:=congrArg cY e
      simp at this;omega
     simp[r,this]
  ·refine⟨c,?_,by simp[q]⟩
   by_cases d:i<a.l.length<;>by_cases j:i<b.l.length<;>simp[d,j,q]
theorem Azc: ∀a:Val,Kf 1099511627776 a-> ∀b:Val,Kf 1099511627776 b-> ∃c:Int,W P2 0 [a.enc,b.enc]=some [.int c]/\(c=0↔a=b):=by
 refine eD λa q r j b u=>?_
 have w:=λc=>Bao a b j u (λx y=>q x y (j.W5 y)) a.l.length 0 c (by omega) (dY _)
 have z:=λc=>A6h a b j u (λp hp=>r p hp (j.Oh hp)) a.f.length 0 c (by omega) (dY _)
 simp only[aP,aN]at w z
 have h:a=b↔a.k=b.k/\a.n=b.n/\a.s=b.s/\a.l=b.l/\a.f=b.f:=by
  cases a;cases b;simp
 -- from the lists on
 have rest: ∀c:Int,∃c':Int,W P2 2 [.int c,a.enc,b.enc]=some [.int c']/\(c'=0↔c=0/\a.l=b.l/\a.f=b.f):=by
  intro c
  obtain⟨B,d,g⟩:=w c
  obtain⟨C,r1,r2⟩:=z B
  refine⟨C,by rw[Ax3,d,Azi,r1],by rw[r2,g,and_assoc]⟩
 have text: ∀c:Int,∃c':Int,W P2 1 [.int c,a.enc,b.enc]=some [.int c']/\(c'=0↔c=0/\a.s=b.s/\a.l=b.l/\a.f=b.f):=by
  intro c
  rw[Aw2]
  by_cases m:c=0
  ·have E:=Aqc a.s b.s
   obtain⟨c',d,g⟩:=rest (if blt a.s b.s=true then(-1:Int) else if blt b.s a.s=true then 1 else 0)
   refine⟨c',by simp only[aX,m,Zd,aA,aR,Zt,gC,Ap6,At2,Jh,bH,d],?_⟩
   rw[g,E];simp[m]
  ·obtain⟨c',d,g⟩:=rest c
   refine⟨c',by simp only[aX,m,Ze,aA,aR,aB,Zf,d],?_⟩
   rw[g];simp[m]
 rw[Ayn]
 have t:=Ag4 a.k b.k
 have A:=Ag4 a.n b.n
 simp only[dN,gL,aA,bB,cX,Jh,bH,aX,aR]
 generalize (if decide (a.k<b.k)=true then(-1:Int) else if decide (b.k<a.k)=true then 1 else 0)=o at t
 generalize (if decide (a.n<b.n)=true then(-1:Int) else if decide (b.n<a.n)=true then 1 else 0)=F at A
 by_cases i:o=0
 ·obtain⟨c',d,g⟩:=text F
  refine⟨c',by simp only[i,Zd,Zt,d],?_⟩
  rw[g,A,h]
  have:=t.1 i
  simp[this]
 ·obtain⟨c',d,g⟩:=text o
  refine⟨c',by simp only[i,Ze,aB,Zf,d],?_⟩
  rw[g,h]
  have: ¬ a.k=b.k:=λe=>i (t.2 e)
  simp[i,this]
open Classical in
theorem Ano (a b:Val)(ha:Kf 1099511627776 a)(hb:Kf 1099511627776 b):W A29 0 [a.enc,b.enc]=some [.bool (decide (a=b))]:=by
 obtain⟨c,h1,h2⟩:=Azc a ha b hb
 rw[Axu]
 simp only[h1,bH,aX,aA]
 congr 3
 simp only[h2]
open Classical in
theorem Aez (a b:Val)(ha:a.Aw<=1099511627776)(hb:b.Aw<=1099511627776):W A29 0 [a.enc,b.enc]=some [.bool (decide (a=b))]:=Ano a b (Hl a (by omega)) (Hl b (by omega))
end Go.CT.Sch
namespace Go.CT.Sch
open Go.Proofs
def Avo (x y:ByteArray × Val):Bool:=blt x.1 y.1
theorem cmpB: ∀ (a b:List UInt8),decide (Lib.compareBytes a b<0)=Op.bytesLess a b
 | [],[]=>rfl
 | [],_::_=>by simp[Lib.compareBytes,Op.bytesLess]
 | _::_,[]=>by simp[Lib.compareBytes,Op.bytesLess]
 | a::x,b::y=>by
  simp only[Lib.compareBytes,Op.bytesLess]
  by_cases c:a<b
  ·simp[c]
  ·by_cases d:b<a
   ·have: ¬ a=b:=λe=>by subst e;exact c d
    simp[c,d,this]
   ·have:a=b:=by
     have g: ¬ a.toNat<b.toNat:=λh=>c (fD.2 h)
     have i: ¬ b.toNat<a.toNat:=λh=>d (fD.2 h)
     exact gI.1 (by omega)
    subst this
    simp[c,cmpB x y]
theorem fcmp (x y:ByteArray × Val): ∃c:Int,W F41 0 [bG x,bG y]=some [.int c]/\(decide (c<0)=Avo x y):=by
 refine⟨Lib.compareBytes x.1.data.toList y.1.data.toList,?_,cmpB _ _⟩
 rw[A31]
 simp[Aq2,Aqe,A91,O.Nw]
theorem ford:Srt.Ord Avo where
 irr x:=D2 _
 tr x y z h k:=Gc h k
 neg x y z h:=by
  rcases Je x.1 y.1 with a | a | a
  ·exact .inl a
  ·right;unfold Avo at h ⊢;rw[<-a];exact h
  ·right;exact Gc a h
noncomputable def feqs:Srt.Eqs bG Avo 6 true where
 S b xs:=W F38 b xs
 B b xs:=W F39 b xs
 I b xs:=W F40 b xs
 M b xs:=W F45 b xs
 R b xs:=W F46 b xs
 X b xs:=W F47 b xs
 C xs:=W F41 0 xs
 cmp:=fcmp
 s0:=by intros;exact Aq rfl (by kernel_rfl)
 b0:=by intros;exact Aq rfl (by kernel_rfl)
 b1:=by intros;exact Aq rfl (by kernel_rfl)
 b2:=by intros;exact Aq rfl (by kernel_rfl)
 b3:=by intros;exact Aq rfl (by kernel_rfl)
 b4:=by intros;exact Aq rfl (by kernel_rfl)
 i0:=by intros;exact Aq rfl (by kernel_rfl)
 i1:=by intros;exact Aq rfl (by kernel_rfl)
 i2:=by intros;exact Aq rfl (by kernel_rfl)
 x0:=by intros;exact Aq rfl (by kernel_rfl)
 x1:=by intros;exact Aq rfl (by kernel_rfl)
 r0:=by intros;exact Aq rfl (by kernel_rfl)
 r1:=by intros;exact Aq rfl (by kernel_rfl)
 r2:=by intros;exact Aq rfl (by kernel_rfl)
 m0:=by intros;exact Aq rfl (by kernel_rfl)
 m1:=by intros;exact Aq rfl (by kernel_rfl)
 m2:=by intros;exact Aq rfl (by kernel_rfl)
 m3:=by intros;exact Aq rfl (by kernel_rfl)
 m4:=by intros;exact Aq rfl (by kernel_rfl)
 m5:=by intros;exact Aq rfl (by kernel_rfl)
 m6:=by intros;exact Aq rfl (by kernel_rfl)
 m7:=by intros;exact Aq rfl (by kernel_rfl)
 m8:=by intros;exact Aq rfl (by kernel_rfl)
 m9:=by intros;exact Aq rfl (by kernel_rfl)
 m10:=by intros;exact Aq rfl (by kernel_rfl)
 m11:=by intros;exact Aq rfl (by kernel_rfl)
end Go.CT.Sch
namespace Go.CT.Sch
open Go.Proofs
theorem Ez {l:List IV}(h:l.length<=1073741824):O.Io [.list l]=some [.list l]:=if_pos h
theorem Sm (v:Val)(j:Kf 1073741824 v)(c d e m o q g:IV)(r: ∀p∈v.f,W F48 0 [p.2.enc]=some p.2.Hi): ∀ (n i:Nat),i+n=v.f.length->
  W F48 2 [.int v.f.length,.int i,c,d,e,m,o,q,.list (v.f.map bG),g]=some [c,d,e,g,.list (v.f.map bG)]
 | 0,i,h=>by
  rw[Aui]
  have t: ¬ i<v.f.length:=by omega
  simp only[bB,Aj,t,Ze,aA,aR,aB,Zf]
 | n+1,i,h=>by
  have b:i<v.f.length:=by omega
  have y:=j.Uz
  have u:=A8 (i:=i) (by omega)
  have:=Sm v j c d e m o q g r n (i+1) (by omega)
  have a:O.setAt 1 5 true false (.list (v.f.map bG)) (.int i) v.f[i].2.enc =some (.list (v.f.map bG)):=by
   have w:(v.f.map bG)[i]?=some (bG v.f[i]):=by rw[aJ,aC b];rfl
   have z:(v.f.map bG).set i (bG v.f[i])=v.f.map bG:=by
    rw[<-List.map_set,fE]
   unfold O.setAt
   simp only[cZ,aH,Zt,aG,w,aB,Zf]
   rw[v.f[i].2.En]
   simp only[bG]
   have x:v.f[i].2.Hi.length =5:=rfl
   simp only[x,Zt]
   congr 2
  rw[Aui]
  simp only[bB,Aj,b,Zd,aA,aR,Zt,cD,aH,aG,aJ,aC b,aI,dG,r _ (aK b),eI,gS,fB,hC,a,bR,u,this]
theorem Sw (v:Val)(c:Kf 1073741824 v)(d e g j m o:IV)(q: ∀x∈v.l,W F48 0 [x.enc]=some x.Hi): ∀ (n i:Nat),i+n=v.l.length->
  W F48 1 [.int v.l.length,.int i,d,e,g,.list (v.f.map bG),j,m,o,.list (v.l.map bS)]=W F48 2 [.int v.f.length,.int (0:Nat),d,e,g,j,m,o,.list (v.f.map bG),.list (v.l.map bS)]
 | 0,i,h=>by
  rw[Arp]
  have r: ¬ i<v.l.length:=by omega
  have w:=c.Uz
  have t:(v.f.map bG).length <=1073741824:=by rw[aF];omega
  simp only[bB,Aj,r,Ze,aA,aR,aB,Zf,A4r,Ez t,bH,bY,aF]
  rfl
 | n+1,i,h=>by
  have b:i<v.l.length:=by omega
  have y:=c.Zn
  have u:=A8 (i:=i) (by omega)
  have:=Sw v c d e g j m o q n (i+1) (by omega)
  have a:O.setAt 0 5 true true (.list (v.l.map bS)) (.int i) v.l[i].enc =some (.list (v.l.map bS)):=by
   rw[show(IV.list (v.l.map bS))=dV bS v.l from rfl,Srt.Atu bS b,fE]
  rw[Arp]
  simp only[bB,Aj,b,Zd,aA,aR,Zt,cD,aH,aG,aJ,aC b,aI,q _ (aK b),eI,gS,fB,hC,a,bR,u,this]
theorem Rg: ∀v:Val,Kf 1073741824 v->W F48 0 [v.enc]=some v.Hi:=by
 refine eD λv b c a=>?_
 have d:=Sw v a (.int v.k) (.int v.n) (.str v.s) (.int 0) (.int 0) (.str ⟨#[]⟩) (λx e=>b x e (a.W5 e)) v.l.length 0 (by omega)
 have g:=Sm v a (.int v.k) (.int v.n) (.str v.s) (.int 0) (.int 0) (.str ⟨#[]⟩) (.list (v.l.map bS)) (λp hp=>c p hp (a.Oh hp)) v.f.length 0 (by omega)
 rw[g]at d
 rw[A7n]
 have i:=a.Zn
 have h:(v.l.map bS).length <=1073741824:=by rw[aF];omega
 simp only[dN,gL,gC,cU,cN,aA,Bab,Ez h,bH,bY,aF]
 rw[eI]
 exact d
theorem V7 (l:List Val)(b:l.length<=1073741824)(a: ∀x∈l,Kf 1073741824 x):W F94 0 [.list (l.map bS)]=some (Val.Hi ⟨4,0,Ar,l,[]⟩):=by
 rw[A75]
 have h:=Rg ⟨4,0,Ar,l,[]⟩ (.mk _ b (dY _) a (by simp))
 have e:IV.agg [.int 4,.int 0,.str ⟨#[]⟩,.list (l.map bS),.list []]=bS ⟨4,0,Ar,l,[]⟩:=by
  rw[<-Val.fold];rfl
 simp only[fB,aA,e,h,eI,gS]
theorem Amv (l:List Val)(b:Eg l<=4294967200):W F94 0 [.list (l.map bS)]=some (Val.Hi ⟨4,0,Ar,l,[]⟩):=
 V7 l (by have:=Li l;omega) λx a=>Hl x (by
  have:x.Aw<=Eg l:=Et (fM a)
  omega)
theorem Ye (v:Val)(nm:ByteArray)(d:Kf 1073741824 v)(e g j:IV): ∀ (n i:Nat),i+n=v.f.length->
  W F75 1 [.str nm,.list (v.f.map bG),.int v.f.length,.int i,e,g,j]=some (Iv (((v.f.drop i).find? λp=>decide (p.1=nm)).map (·.2)))
 | 0,i,h=>by
  rw[Aur]
  have m: ¬ i<v.f.length:=by omega
  simp[m,aE (bD m),Iv,Bc,Ar]
 | n+1,i,h=>by
  have b:i<v.f.length:=by omega
  have q:=d.Uz
  have o:=A8 (i:=i) (by omega)
  have:=Ye v nm d e g j n (i+1) (by omega)
  have a:=aK b
  rw[Aur,aD b]
  simp only[bB,Aj,b,Zd,aA,aR,Zt,cD,aH,aG,aJ,aC b,aI,dC,dG,fQ,Rg v.f[i].2 (d.Oh a),eI,gS,bR,o,this,bV]
  by_cases c:v.f[i].1 =nm
  ·simp[c,Iv]
  ·have c':decide (v.f[i].1 =nm)=false:=by simpa using c
   simp only[c,c',Ze,aB,Zf]
theorem Ayg (v:Val)(nm:ByteArray)(a:Kf 1073741824 v):W F75 0 [v.enc,.str nm]=some (Iv (v.get nm)):=by
 rw[A8p]
 unfold fX
 have:=Ye v nm a (.int 0) (.int 0) (.str ⟨#[]⟩) v.f.length 0 (by omega)
 simp only[aP,aN]at this
 simp only[dN,cN,aA,aX,aR,bY,aF,this]
 by_cases c:v.k=5<;>simp[c,Iv,Bc,Ar]
end Go.CT.Sch
namespace Go.CT.Sch
open Go.Proofs
def Sg (nm:ByteArray)(p:ByteArray × Val):Bool:= !decide (p.1=nm)
def dedup:List (ByteArray × Val)->List (ByteArray × Val)
 | []=> []
 | [p]=> [p]
 | p::q::r=>if q.1=p.1 then dedup (q::r) else p::dedup (q::r)
def Hg (l:List (ByteArray × Val)):Prop:=l.Pairwise λa b=>blt a.1 b.1=true
def isName (nm:ByteArray)(p:ByteArray × Val):Bool:=decide (p.1=nm)
def look (nm:ByteArray)(l:List (ByteArray × Val)):Option (ByteArray × Val):=(l.filter (isName nm)).getLast?
theorem Wj: ∀ (l:List (ByteArray × Val)) (p:ByteArray × Val),p∈dedup l->p∈l
 | [],p,h=>h
 | [_],p,h=>h
 | a::b::r,p,h=>by
  simp only[dedup]at h
  split at h
  ·exact cP _ (Wj (b::r) p h)
  ·rcases bJ.1 h with rfl | h
   ·simp
   ·exact cP _ (Wj (b::r) p h)
theorem Afg {x y:ByteArray}(h:blt y x=false)(b: ¬ y=x):blt x y=true:=by
 rcases Je x y with a | a | a
 ·exact a
 ·exact absurd a.symm b
 ·rw[h]at a;cases a
theorem Acz {x y z:ByteArray}(h:blt x y=true)(b:blt z y=false):blt x z=true:=by
 rcases Je y z with a | a | a
 ·exact Gc h a
 ·rw[<-a];exact h
 ·rw[b]at a;cases a
theorem Sj: ∀l:List (ByteArray × Val),Srt.Cm Avo l->Hg (dedup l)
 | [],_=>cQ
 | [_],_=>cF _ _
 | a::b::r,h=>by
  have d:=bC.1 h
  have i:=Sj (b::r) d.2
  simp only[dedup]
  split
  ·exact i
  ·next e=>
   refine bC.2 ⟨λy g=>?_,i⟩
   have c:blt a.1 b.1=true:=Afg (d.1 b (by simp)) e
   rcases bJ.1 (Wj _ _ g) with rfl | g
   ·exact c
   ·exact Acz c ((bC.1 d.2).1 y g)
theorem Nc (nm:ByteArray)(p:ByteArray × Val)(l:List (ByteArray × Val)):look nm (p::l)=(look nm l).or (if p.1=nm then some p else none):=by
 unfold look
 rw[bT]
 by_cases c:p.1=nm
 ·rw[if_pos (by simp[isName,c]),if_pos c]
  generalize l.filter (isName nm)=m
  cases m with
  | nil=>rfl
  | cons b r=>
   rw[List.getLast?_cons_cons]
   cases h:(b::r).getLast? with
   | none=>simp at h
   | some x=>rfl
 ·rw[if_neg (by simp[isName,c]),if_neg c,gM]
theorem Xn (nm:ByteArray): ∀l:List (ByteArray × Val),look nm (dedup l)=look nm l
 | []=>rfl
 | [_]=>rfl
 | a::b::r=>by
  have g:=Xn nm (b::r)
  simp only[dedup]
  split
  ·next e=>
   rw[g,Nc nm a (b::r),Nc nm b r]
   by_cases c:b.1=nm
   ·have d:a.1=nm:=by rw[<-e];exact c
    simp only[c,d,Zt]
    cases look nm r<;>rfl
   ·have d: ¬ a.1=nm:=by rw[<-e];exact c
    simp only[d,Zf,gM]
  ·rw[Nc nm a,g,Nc nm a]
theorem Rw {l:List (ByteArray × Val)}(h:Hg l)(p:ByteArray × Val):p∈l↔look p.1 l=some p:=by
 induction l with
 | nil=>simp[look]
 | cons a l g=>
  have d:=bC.1 h
  rw[Nc,bJ,g d.2]
  by_cases c:a.1=p.1
  ·have i:look p.1 l=none:=by
    unfold look
    rw[List.getLast?_eq_none_iff,eW]
    intro y j b
    simp only[isName,decide_eq_true_eq]at b
    have:=d.1 y j
    rw[c,b,D2]at this
    cases this
   simp[i,c,eq_comm]
  ·have: ¬ p=a:=λe=>c (by rw[e])
   simp[c,this]
theorem An3 {a b:List (ByteArray × Val)}(j:Hg a)(m:Hg b)(h: ∀p,p∈a↔p∈b):a=b:=by
 induction a generalizing b with
 | nil=>
  cases b with
  | nil=>rfl
  | cons y b=>have:=(h y).2 (by simp);simp at this
 | cons x a o=>
  cases b with
  | nil=>have:=(h x).1 (by simp);simp at this
  | cons y b=>
   have c:=bC.1 j
   have d:=bC.1 m
   have g:x=y:=by
    rcases bJ.1 ((h x).1 (by simp)) with e | q
    ·exact e
    ·rcases bJ.1 ((h y).2 (by simp)) with e | r
     ·exact e.symm
     ·have t:=d.1 x q
      have i:=c.1 y r
      rw[Nd t]at i;cases i
   subst g
   rw[o c.2 d.2]
   intro p
   have:=h p
   simp only[bJ]at this
   constructor
   ·intro hp
    rcases this.1 (.inr hp) with rfl | h
    ·have:=c.1 p hp;rw[D2]at this;cases this
    ·exact h
   ·intro hp
    rcases this.2 (.inr hp) with rfl | h
    ·have:=d.1 p hp;rw[D2]at this;cases this
    ·exact h
theorem Mw {a b:List (ByteArray × Val)}(c:Hg a)(d:Hg b)(h: ∀nm,look nm a=look nm b):a=b:=
 An3 c d λp=>by rw[Rw c,Rw d,h]
theorem Aet (p:ByteArray × Val): ∀l,Rb p true l=l.filter (Sg p.1)
 | []=>rfl
 | x::xs=>by
  simp only[Rb,aV,cL,aB,Zf,bE,dA,Aet p xs,bT,Sg]
  by_cases c:x.1=p.1<;>simp[c]
theorem Abg (p x:ByteArray × Val)(xs:List (ByteArray × Val))(h:blt x.1 p.1=false):Rb p false (x::xs)=p::(x::xs).filter (Sg p.1):=by
 simp only[Rb,h,aY,Bool.and_self,Zt,eE,Aet,bT,Sg]
 by_cases c:x.1=p.1<;>simp[c]
theorem Aay (p x:ByteArray × Val)(xs:List (ByteArray × Val))(h:blt x.1 p.1=true):Rb p false (x::xs)=x::Rb p false xs:=by
 have a: ¬ x.1=p.1:=Oo h
 simp[Rb,h,a]
theorem Ak3 (p:ByteArray × Val): ∀ (l:List (ByteArray × Val)) (y:ByteArray × Val),y∈Rb p false l->y=p\/y∈l
 | [],y,h=>by simp[Rb]at h;exact .inl h
 | x::xs,y,h=>by
  cases a:blt x.1 p.1 with
  | true=>
   rw[Aay p x xs a]at h
   rcases bJ.1 h with rfl | h
   ·simp
   ·rcases Ak3 p xs y h with h | h
    ·exact .inl h
    ·exact .inr (cP _ h)
  | false=>
   rw[Abg p x xs a]at h
   rcases bJ.1 h with rfl | h
   ·simp
   ·exact .inr (bW.1 h).1
theorem Uo (p:ByteArray × Val): ∀l:List (ByteArray × Val),Hg l->Hg (Rb p false l)
 | [],_=>cF _ _
 | x::xs,h=>by
  have c:=bC.1 h
  cases b:blt x.1 p.1 with
  | true=>
   rw[Aay p x xs b]
   refine bC.2 ⟨λy a=>?_,Uo p xs c.2⟩
   rcases Ak3 p xs y a with rfl | a
   ·exact b
   ·exact c.1 y a
  | false=>
   rw[Abg p x xs b]
   refine bC.2 ⟨λy a=>?_,h.sublist List.filter_sublist⟩
   obtain⟨a,e⟩:=bW.1 a
   have d: ¬ y.1=p.1:=by simpa [Sg]using e
   refine Afg ?_ d
   rcases bJ.1 a with rfl | a
   ·exact b
   ·cases g:blt y.1 p.1 with
    | false=>rfl
    | true=>have:=Gc (c.1 y a) g;rw[b]at this;cases this
theorem Ur (p:ByteArray × Val)(nm:ByteArray): ∀l:List (ByteArray × Val),(Rb p false l).filter (isName nm)=if p.1=nm then[p]else l.filter (isName nm)
 | []=>by by_cases c:p.1=nm<;>simp[Rb,isName,c]
 | x::xs=>by
  cases a:blt x.1 p.1 with
  | true=>
   have b:=Oo a
   rw[Aay p x xs a,bT,Ur p nm xs,bT]
   by_cases c:p.1=nm
   ·have: ¬ x.1=nm:=by rw[<-c];exact b
    simp[c,isName,this]
   ·simp[c]
  | false=>
   rw[Abg p x xs a,bT,List.filter_filter]
   by_cases c:p.1=nm
   ·rw[if_pos (by simp[isName,c]),if_pos c]
    congr 1
    rw[eW]
    intro y _ g
    simp[Sg,isName,c]at g
   ·rw[if_neg (by simp[isName,c]),if_neg c]
    refine List.filter_congr λy _=>?_
    by_cases d:y.1=nm
    ·have: ¬ nm=p.1:=λe=>c e.symm
     simp[Sg,isName,d,this]
    ·simp[isName,d]
theorem Vg (l:List (ByteArray × Val))(p:ByteArray × Val):Xh (l++ [p])=Rb p false (Xh l):=by
 unfold Xh;rw[List.foldl_append];rfl
theorem Xx (l:List (ByteArray × Val)): ∀n,l.length=n->Hg (Xh l)/\ ∀nm,look nm (Xh l)=look nm l:=by
 intro n
 induction n generalizing l with
 | zero=>intro h;have:=aU.1 h;subst this;exact⟨cQ,λ_=>rfl⟩
 | succ n a=>
  intro h
  rcases Srt.Gi l with rfl | ⟨b,p,rfl⟩
  ·simp at h
  ·obtain⟨d,e⟩:=a b (by simpa using h)
   rw[Vg]
   refine⟨Uo p _ d,λnm=>?_⟩
   unfold look
   rw[Ur,eJ]
   by_cases c:p.1=nm
   ·simp[c,isName]
   ·have:=e nm
    unfold look at this
    simp[c,isName]at this ⊢
    exact this
theorem O3 (l:List (ByteArray × Val)):Hg (Xh l):=(Xx l _ rfl).1
theorem U5 (nm:ByteArray)(l:List (ByteArray × Val)):look nm (Xh l)=look nm l:=(Xx l _ rfl).2 nm
theorem Asx {l:List (ByteArray × Val)}(h:Hg l):Xh l=l:=Mw (O3 l) h λnm=>U5 nm l
theorem Axy {l:List (ByteArray × Val)}{p:ByteArray × Val}(h:p∈Xh l):p∈l:=by
 rw[Rw (O3 l),U5]at h
 unfold look at h
 exact(bW.1 (List.mem_of_getLast? h)).1
theorem Ay2 (k y:ByteArray × Val):hG Avo k y=isName k.1 y:=by
 unfold hG isName Avo
 rcases Je k.1 y.1 with h | h | h
 ·have:=Oo h
  rw[h]
  simp only[aV,cL]
  symm;simpa using λe=>this e.symm
 ·rw[h,D2];simp
 ·have:=Oo h
  rw[h]
  simp[this]
theorem Xw {l r:List (ByteArray × Val)}(a:Srt.Cm Avo r)(b:Srt.J5 Avo l r):dedup r=Xh l:=by
 refine Mw (Sj r a) (O3 l) λnm=>?_
 rw[Xn,U5]
 have:=b.2 (nm,Bc)
 have e:hG Avo (nm,Bc)=isName nm:=funext λy=>Ay2 _ y
 rw[e]at this
 unfold look
 rw[this]
end Go.CT.Sch
namespace Go.CT.Sch
open Go.Proofs
theorem Wm (p:ByteArray × Val): ∀l,Dl (Rb p false l)<=Dl l+Dl [p]
 | []=>by simp[Rb,C5]
 | x::xs=>by
  cases a:blt x.1 p.1 with
  | true=>
   have:=Wm p xs
   rw[Aay p x xs a,C6,C6 x xs];omega
  | false=>
   have:=Q4 (Sg p.1) (x::xs)
   rw[Abg p x xs a,C6,C6 p [],C5];omega
theorem Aha (l:List (ByteArray × Val)):Dl (Xh l)<=Dl l:=by
 have: ∀n (l:List (ByteArray × Val)),l.length=n->Dl (Xh l)<=Dl l:=by
  intro n
  induction n with
  | zero=>intro l h;have:=aU.1 h;subst this;exact bP _
  | succ n b=>
   intro l h
   rcases Srt.Gi l with rfl | ⟨a,p,rfl⟩
   ·simp at h
   ·have c:=b a (by simpa using h)
    have d:=Wm p (Xh a)
    rw[Vg,Ld];omega
 exact this _ l rfl
def Azh (l:List (ByteArray × Val)):Val:=⟨5,0,Ar,[],Xh l⟩
theorem Atp (l:List (ByteArray × Val)):(Azh l).Aw <=6+Dl l:=by
 have:=Aha l
 rw[hB]
 simp only[Azh,hI,hJ,hK,Hh,show Ar.size=0 from rfl];omega
theorem N8 (r:List (ByteArray × Val))(w:r.length<=1099511627775)(q t u:IV): ∀ (n i:Nat) (acc:List (ByteArray × Val)),i+n=r.length->acc.length<=i->Au5 1073741824 (acc++dedup (r.drop i))->
  W F36 1 [.int r.length,.int i,q,t,u,dV bG r,.int 5,.int 0,.str ⟨#[]⟩,.list (acc.map bG)]=some (Val.Hi ⟨5,0,Ar,[],acc++dedup (r.drop i)⟩)
 | 0,i,acc,h,y,b=>by
  rw[Bbo]
  have z: ¬ i<r.length:=by omega
  have A:r.drop i= []:=aE (by omega)
  rw[A]at b ⊢
  rw[show dedup []= []from rfl,bK]at b
  have B:=Rg ⟨5,0,Ar,[],acc⟩ (.mk _ (dY _) b.1 (by simp) b.2)
  have e:IV.agg [.int 5,.int 0,.str ⟨#[]⟩,.list [],.list (acc.map bG)]=bS ⟨5,0,Ar,[],acc⟩:=by
   rw[<-Val.fold];rfl
  simp only[bB,Aj,z,Ze,aA,aR,aB,Zf,fB,e,B,eI,gS,dedup,bK]
 | n+1,i,acc,h,y,b=>by
  have j:i<r.length:=by omega
  have x:=A8 (i:=i) (by omega)
  have m:(acc.length+1) * 96<=A4:=Si (by omega) (by omega)
  have gi:=dQ bG (aC j)
  rw[Bbo]
  have hd:=aD j
  by_cases c:i+1=r.length
  ·have c':((i+1:Nat):Int)=(r.length:Int):=by omega
   have e1:r.drop (i+1)= []:=aE (by omega)
   have g:=N8 r w q t u n (i+1) (acc++ [r[i]]) (by omega) (by simp;omega) (by
    rw[e1];rw[hd,e1]at b
    simpa [dedup]using b)
   simp only[e1,cG,bN,bQ]at g
   rw[hd,e1]
   simp only[bB,Aj,j,Zd,aA,aR,Zt,gi,bR,x,cC,aX,c',fR,eR,aF,aQ,m,Af3]
   rw[c']at g
   rw[g]
   simp[dedup]
  ·have o:i+1<r.length:=by omega
   have c': ¬ ((i+1:Nat):Int)=(r.length:Int):=by omega
   have gi2:=dQ bG (aC o)
   have a:=aD o
   by_cases d:r[i+1].1 =r[i].1
   ·have g:=N8 r w q t u n (i+1) acc (by omega) (by omega) (by
     rw[hd,a]at b;rw[a]
     simp only[dedup,d,Zt]at b
     exact b)
    rw[a]at g
    rw[hd,a]
    simp only[bB,Aj,j,Zd,aA,aR,Zt,gi,bR,x,cC,aX,c',Ze,aB,Zf,gi2,dC,gR,d,aV,Af3,dedup,g]
   ·have g:=N8 r w q t u n (i+1) (acc++ [r[i]]) (by omega) (by simp;omega) (by
     rw[hd,a]at b;rw[a]
     simp only[dedup,d,Zf]at b
     simpa using b)
    rw[a]at g
    simp only[cG,bN,bQ,bL,dS]at g
    rw[hd,a]
    simp only[bB,Aj,j,Zd,aA,aR,Zt,gi,bR,x,cC,aX,c',Ze,aB,Zf,gi2,dC,gR,d,aY,fR,eR,aF,aQ,m,Af3,dedup,g]
theorem A1a (l:List (ByteArray × Val)):(Xh l).length <=l.length:=by
 have: ∀n (l:List (ByteArray × Val)),l.length=n->(Xh l).length <=n:=by
  intro n
  induction n with
  | zero=>intro l h;have:=aU.1 h;subst this;exact bP _
  | succ n b=>
   intro l h
   rcases Srt.Gi l with rfl | ⟨a,p,rfl⟩
   ·simp at h
   ·have c:=b a (by simpa using h)
    have d:=Zq p (Xh a) false
    rw[Vg];omega
 exact this _ l rfl
theorem Apv {N:Nat}{l:List (ByteArray × Val)}(h:Au5 N l):Au5 N (Xh l):=
 ⟨dO (A1a l) h.1,λp hp=>h.2 p (Axy hp)⟩
theorem Ax8 (l:List (ByteArray × Val))(c:Au5 1073741824 l):W F36 0 [.list (l.map bG)]=some (Azh l).Hi :=by
 have i:=c.1
 obtain⟨r,d,a,g⟩:=Srt.sort ford feqs l (by omega)
 have h:(l.map bG).length <=1073741824:=by rw[aF];omega
 rw[A77]
 have b:W F38 0 [.list (l.map bG)]=some [dV bG r]:=g
 have hlen:r.length=l.length:=a.1.symm
 have e:=N8 r (by omega) (.int 0) (.int 0) (.str ⟨#[]⟩) r.length 0 [] (by omega) (by simp) (by
  rw[aP,bE,Xw d a];exact Apv c)
 simp only[aP,aN,bQ,bE,Xw d a]at e
 simp only[A4r,Ez h,bH,b,cC,aA]
 exact e
theorem Atd (l:List (ByteArray × Val))(a:Dl l<=4294967200):W F36 0 [.list (l.map bG)]=some (Azh l).Hi :=Ax8 l (Ao9 (by omega))
end Go.CT.Sch
namespace Go.CT.Sch
open Go.Proofs
theorem I8 {β:Type}{a b c d e g:IV}{f:IV->IV->IV->IV->IV->IV->Option β} :calls (some [a,b,c,d,e,g]) 6 f=f a b c d e g:=rfl
def Bw:Sch:=⟨0,0,0,[],Ar,[],[]⟩
def Oj:SFld:=⟨Ar,false,false,[],Bw⟩
theorem Pw:IV.agg [.int 0,.int 0,.int 0,.list [],.str ⟨#[]⟩,.list [],.list []]=Bw.enc:=rfl
theorem Xo:IV.agg [.str ⟨#[]⟩,.bool false,.bool false,.list [],.int 0,.int 0,.int 0,.list [],.str ⟨#[]⟩,.list [],.list []]=Oj.enc:=rfl
inductive SB:Sch->Prop
 | mk (s:Sch):s.it.length<=1->(s.it≠ []->s.f= [])->(s.k=4->s.it.length=1)->(∀x∈s.it,SB x)->(∀p∈s.f,SB p.s)->SB s
theorem SB.one {s:Sch}(h:SB s):s.it.length<=1:=by cases h;assumption
theorem SB.nof {s:Sch}(h:SB s)(a:s.it≠ []):s.f= []:=by cases h with | mk _ c b d e g=>exact b a
theorem SB.list {s:Sch}(h:SB s)(a:s.k=4):s.it.length=1:=by cases h with | mk _ c d b e g=>exact b a
theorem SB.Jz {s x:Sch}(h:SB s)(a:x∈s.it):SB x:=by cases h with | mk _ c d e b g=>exact b x a
theorem SB.Oh {s:Sch}{p:SFld}(h:SB s)(a:p∈s.f):SB p.s:=by cases h with | mk _ c d e g b=>exact b p a
def Gh (s:Sch)(nm:ByteArray):Option Sch:=match s.it with | []=>(s.fld nm).map (·.s) | t::_=>some t
theorem Aqb {s:Sch}{nm:ByteArray}{p:SFld}(h:s.fld nm=some p):p∈s.f/\p.nm=nm:=
 ⟨cO h,by simpa using gJ h⟩
theorem Oa {s t:Sch}{nm:ByteArray}(h:Gh s nm=some t):t∈s.it\/ ∃p∈s.f,p.nm=nm/\p.s=t:=by
 unfold Gh at h
 split at h
 ·right
  rw[eX]at h
  obtain⟨p,hp,rfl⟩:=h
  exact⟨p,(Aqb hp).1,(Aqb hp).2,rfl⟩
 ·rename_i a r e
  cases h
  left;rw[e];simp
theorem SB.sub {s t:Sch}{nm:ByteArray}(a:SB s)(h:Gh s nm=some t):SB t:=by
 rcases Oa h with h | ⟨p,hp,_,rfl⟩
 ·exact a.Jz h
 ·exact a.Oh hp
theorem Jg {s t:Sch}{nm:ByteArray}(h:Gh s nm=some t):t.Aw<s.Aw:=by
 rcases Oa h with h | ⟨p,hp,_,rfl⟩
 ·exact fS h
 ·have:=fT hp;omega
def H7 (p:List Stp)(c:Int):IV:= .agg [.str (C9 p),.int c]
def C3 (nm:ByteArray):Stp:=⟨1,nm,0,Ar⟩
def isKey (v:Val)(nm:ByteArray):Bool:=(v.get nm).isSome &&decide (((v.get nm).getD Bc).k =3)
def Ir (v:Val)(nm:ByteArray):ByteArray:=((v.get nm).getD Bc).s
def Ep (v:Val)(nm:ByteArray):Bool:=isKey v nm&& !decide (nm=Ar)
def Gt (key:ByteArray)(v:Val)(i:Nat):Stp:=if Ep v key then⟨3,key,0,Ir v key⟩else⟨2,Ar,i,Ar⟩
def sameKey (nm:ByteArray)(k:ByteArray)(u:Val):Bool:=Ep u nm&&decide (Ir u nm=k)
def Atg (key:ByteArray)(prev:List Val)(v:Val)(q:List Stp):List IV:=if Ep v key&&prev.any (sameKey key (Ir v key)) then[H7 q 8]else[]
def Jy (v:Val)(nm:ByteArray):Bool:=(v.get nm).isSome && !decide (((v.get nm).getD Bc).k =0)
def I9 (v:Val)(p:List Stp)(d:SFld):List IV:=if d.rq&& !Jy v d.nm then[H7 (p++ [C3 d.nm]) 7]else[]
def W4 (p:List Stp)(sc:Sch)(n:Int):List IV:=if decide (n<sc.mn)||decide (sc.mx<n) then[H7 p 5]else[]
mutual
def Iw:Val->Sch->List Stp->List IV
 | ⟨k,n,s,l,f⟩,sc,p=>
  if k=sc.k then
   if k=2 then W4 p sc n
   else if k=3 then(if decide ((s.size:Int)<sc.mn)||decide (sc.mx<(s.size:Int)) then[H7 p 5]else if decide (0<sc.en.length)&& !sc.en.any (λe=>decide (e=s)) then[H7 p 1]else[])
   else if k=4 then W4 p sc l.length++Km l sc.key (sc.it.headD Bw) p []
   else if k=5 then J7 f sc p++sc.f.flatMap (I9 ⟨k,n,s,l,f⟩ p)
   else[]
  else[H7 p 6]
def Km:List Val->ByteArray->Sch->List Stp->List Val->List IV
 | [],_,_,_,_=> []
 | v::vs,key,t,p,prev=>(Iw v t (p++ [Gt key v prev.length])++Atg key prev v (p++ [Gt key v prev.length]))++Km vs key t p (prev++ [v])
def J7:List (ByteArray × Val)->Sch->List Stp->List IV
 | [],_,_=> []
 | (nm,v)::fs,sc,p=>(match Gh sc nm with | none=> [H7 (p++ [C3 nm]) 1] | some t=>if v.k=0 then[]else Iw v t (p++ [C3 nm]))++J7 fs sc p
end
theorem Kc (v:Val)(sc:Sch)(p:List Stp):Iw v sc p=
  if v.k=sc.k then
   if v.k=2 then W4 p sc v.n
   else if v.k=3 then(if decide ((v.s.size:Int)<sc.mn)||decide (sc.mx<(v.s.size:Int)) then[H7 p 5]else if decide (0<sc.en.length)&& !sc.en.any (λe=>decide (e=v.s)) then[H7 p 1]else[])
   else if v.k=4 then W4 p sc v.l.length++Km v.l sc.key (sc.it.headD Bw) p []
   else if v.k=5 then J7 v.f sc p++sc.f.flatMap (I9 v p)
   else[]
  else[H7 p 6]:=by
 cases v;rw[Iw];rfl
def Afw (sc:Sch)(p:List Stp)(x:ByteArray × Val):List IV:=match Gh sc x.1 with | none=> [H7 (p++ [C3 x.1]) 1] | some t=>if x.2.k=0 then[]else Iw x.2 t (p++ [C3 x.1])
theorem H9 (x:ByteArray × Val)(fs:List (ByteArray × Val))(sc:Sch)(p:List Stp):J7 (x::fs) sc p=Afw sc p x++J7 fs sc p:=by
 obtain⟨nm,v⟩:=x;rw[J7];rfl
theorem Js (sc:Sch)(p:List Stp):J7 [] sc p= []:=by rw[J7]
theorem Ia (v:Val)(vs:List Val)(key:ByteArray)(t:Sch)(p:List Stp)(prev:List Val):Km (v::vs) key t p prev=(Iw v t (p++ [Gt key v prev.length])++Atg key prev v (p++ [Gt key v prev.length]))++Km vs key t p (prev++ [v]):=by rw[Km]
theorem Kv (key:ByteArray)(t:Sch)(p:List Stp)(prev:List Val):Km [] key t p prev= []:=by rw[Km]
theorem Xk (l:List (ByteArray × Val))(sc:Sch)(p:List Stp):J7 l sc p=l.flatMap (Afw sc p):=by
 induction l with
 | nil=>simp[Js]
 | cons x l a=>rw[H9,a];rfl
theorem Abi (key:ByteArray)(prev:List Val)(v:Val)(q:List Stp):(Atg key prev v q).length <=1:=by unfold Atg;split<;>simp
theorem Au2 (v:Val)(p:List Stp)(d:SFld):(I9 v p d).length <=1:=by unfold I9;split<;>simp
theorem Tq (p:List Stp)(sc:Sch)(n:Int):(W4 p sc n).length <=1:=by unfold W4;split<;>simp
theorem Al4 (v:Val)(p:List Stp): ∀l:List SFld,(l.flatMap (I9 v p)).length <=l.length
 | []=>by simp
 | d::l=>by
  have:=Au2 v p d
  have:=Al4 v p l
  simp only[cA,aO,bA];omega
theorem Qw: ∀ (v:Val) (sc:Sch) (p:List Stp),SB sc->(Iw v sc p).length <=(2+sc.Aw) * v.size:=by
 refine eD λv d e sc p g=>?_
 have b:=v.size_pos
 have one:1<=(2+sc.Aw) * v.size:=by
  have:1 * 1<=(2+sc.Aw) * v.size:=aW (by omega) b
  omega
 have r: ∀ (t:Sch),SB t->t.Aw<sc.Aw-> ∀ (l:List Val),(∀x∈l,∀sc p,SB sc->(Iw x sc p).length <=(2+sc.Aw) * x.size)-> ∀ (prev:List Val) (key:ByteArray),(Km l key t p prev).length <=(2+sc.Aw) * Cd l:=by
  intro t a u l
  induction l with
  | nil=>intro _ prev key;rw[Kv];simp
  | cons x l i=>
   intro h prev key
   have j:=h x (by simp) t (p++ [Gt key x prev.length]) a
   have m:=i (λy o=>h y (by simp[o])) (prev++ [x]) key
   have c:=Abi key prev x (p++ [Gt key x prev.length])
   have q:=x.size_pos
   have w:(3+t.Aw) * x.size<=(2+sc.Aw) * x.size:=aW (by omega) (bP _)
   have F:(3+t.Aw) * x.size=(2+t.Aw) * x.size+x.size:=by rw[show 3+t.Aw=(2+t.Aw)+1 by omega,gF,gG]
   rw[Ia]
   simp only[aO,Cd,cJ]
   omega
 have z: ∀ (l:List (ByteArray × Val)),(∀x∈l,∀sc p,SB sc->(Iw x.2 sc p).length <=(2+sc.Aw) * x.2.size)->(J7 l sc p).length <=(2+sc.Aw) * Br l:=by
  intro l
  induction l with
  | nil=>intro _;rw[Js];simp
  | cons x l i=>
   intro h
   have m:=i (λy o=>h y (by simp[o]))
   have q:=x.2.size_pos
   have G:(Afw sc p x).length <=(2+sc.Aw) * x.2.size:=by
    have H:1 * 1<=(2+sc.Aw) * x.2.size:=aW (by omega) q
    unfold Afw
    split
    ·simp only[aQ];omega
    ·rename_i t a
     split
     ·simp
     ·have j:=h x (by simp) t (p++ [C3 x.1]) (g.sub a)
      have:=Jg a
      have w:(2+t.Aw) * x.2.size<=(2+sc.Aw) * x.2.size:=aW (by omega) (bP _)
      omega
   rw[H9]
   simp only[aO,Br,cJ]
   omega
 have A:=v.size_eq
 rw[Kc]
 split
 ·split
  ·have:=Tq p sc v.n;omega
  ·split
   ·split
    ·simpa using one
    ·split
     ·simpa using one
     ·simp
   ·split
    ·rename_i I B C E
     obtain⟨t,a⟩:=bX.1 (g.list (by omega))
     have j:=r t (g.Jz (by rw[a];simp)) (fS (by rw[a];simp)) v.l d [] sc.key
     have m:=Tq p sc v.l.length
     have c:(2+sc.Aw) * (1+Cd v.l)<=(2+sc.Aw) * v.size:=aW (bP _) (by omega)
     rw[cJ]at c
     rw[a,eZ,aO]
     omega
    ·split
     ·have j:=z v.f e
      have m:=Al4 v p sc.f
      have q:=sc.A7
      have c:(2+sc.Aw) * (1+Br v.f)<=(2+sc.Aw) * v.size:=aW (bP _) (by omega)
      rw[cJ]at c
      rw[aO]
      omega
     ·simp
 ·simpa using one
theorem Ani {n:Nat}(h:n<=4398046511104):n * 24<=A4:=by
 have:n * 24<=4398046511104 * 24:=aW h (bP _)
 unfold A4;omega
theorem Amg (v:Val)(nm:ByteArray):((v.get nm).getD Bc).s.size <=v.Aw:=by
 unfold fX
 split
 ·cases h:v.f.find? λp=>decide (p.1=nm) with
  | none=>exact dY _
  | some p=>
   have a:=eA (cO h)
   have b:=p.2.Art
   simp only[aI,cE];omega
 ·exact dY _
theorem Zg (key:ByteArray)(v:Val)(i:Nat)(a:key.size<=1048576)(b:v.Aw<=1048576):(Gt key v i).fits :=by
 have:=Amg v key
 unfold Gt
 split
 ·exact⟨by show key.size<=_;omega,by show(Ir v key).size <=_;unfold Ir;omega⟩
 ·exact⟨by show(0:Nat)<=_;omega,by show(0:Nat)<=_;omega⟩
theorem H3 (nm:ByteArray)(h:nm.size<=1048576):(C3 nm).fits :=⟨by show nm.size<=_;omega,by show(0:Nat)<=_;omega⟩
theorem Hw {p:List Stp}{x:Stp}(hp: ∀s∈p,s.fits)(a:x.fits): ∀s∈p++ [x],s.fits:=by
 intro s b
 rcases dE.1 b with h | h
 ·exact hp s h
 ·simp at h;subst h;exact a
end Go.CT.Sch
namespace Go.CT.Sch
open Go.Proofs
theorem Kl (v:Val)(nm:ByteArray)(c:v.Aw<=1048576):W A2d 0 [v.enc,.str nm]=some [.str (Ir v nm),.bool (Ep v nm)]:=by
 rw[Axe]
 unfold Ir Ep isKey
 simp only[At6 v nm (by omega),Iv,I8,aR,gR,aX,aA,Az,Am,Ar]
 cases(v.get nm).isSome<;>by_cases a:nm=⟨#[]⟩<;>by_cases b:((v.get nm).getD Bc).k =3<;>simp[a,b]
theorem T1 (s:Sch)(l:List Val)(i:Nat)(a:i<l.length)(b:l[i].Aw <=1048576):W Bb2 0 [s.enc,.list (l.map bS),.int i]=some [(Gt s.key l[i] i).enc]:=by
 rw[Ayz]
 unfold Gt
 simp only[cD,aH,Zt,aG,aJ,aC a,aI,aA,eK,Kl l[i] s.key b,fI,fB,aR]
 split<;>rfl
theorem Ra (p:List Stp)(s:Stp)(c:p.length<=1099511627776):W A5g 0 [.list (p.map Stp.enc),s.enc]=some [.list ((p++ [s]).map Stp.enc)]:=by
 have a:(0+p.length) * 48<=A4:=Si (by omega) (by omega)
 have b:(p.length+1) * 48<=A4:=by
  have:(p.length+1) * 48<=1099511627777 * 48:=aW (by omega) (bP _)
  unfold A4;omega
 rw[Aw1]
 simp only[fR,aA,eR,aZ,aF,a,Zt,bE,aQ,b,cG,bN,bQ]
theorem Adh (p:List Stp)(hp: ∀s∈p,s.fits)(a:p.length<=1099511627776)(c:Int):W Ape 0 [.list (p.map Stp.enc),.int c]=some [.list [H7 p c]]:=by
 rw[Ax1]
 simp only[Adq p hp a,fI,fB,fR,aA,H7]
theorem Vt (s:Sch)(nm:ByteArray)(r:s.Aw<=1099511627776)(b d e g j m o:IV): ∀ (n i:Nat),i+n=s.f.length->
  W A15 1 [.str nm,.int i,s.enc,b,d,e,g,j,m,o]=some [(((s.f.drop i).find? λp=>decide (p.nm=nm)).getD Oj).enc,.bool ((s.f.drop i).find? λp=>decide (p.nm=nm)).isSome]
 | 0,i,h=>by
  rw[Alz]
  have q: ¬ i<s.f.length:=by omega
  simp[q,aE (bD q),Xo]
 | n+1,i,h=>by
  have a:i<s.f.length:=by omega
  have u:=s.A7
  have t:=A8 (i:=i) (by omega)
  have:=Vt s nm r b d e g j m o n (i+1) (by omega)
  rw[Alz,aD a]
  simp only[dH,bY,aF,bB,Aj,a,Zd,aA,aR,Zt,cD,aH,aG,aJ,aC a,aI,eF,fQ,bR,t,this,bV]
  by_cases c:s.f[i].nm =nm
  ·simp[c]
  ·have c':decide (s.f[i].nm =nm)=false:=by simpa using c
   simp only[c,c',Ze,aB,Zf]
theorem Afn (s:Sch)(nm:ByteArray)(a:s.Aw<=1099511627776):W A15 0 [s.enc,.str nm]=some [((s.fld nm).getD Oj).enc,.bool (s.fld nm).isSome]:=by
 rw[A1g]
 have:=Vt s nm a (.str ⟨#[]⟩) (.bool false) (.bool false) (.int 0) (.int 0) (.int 0) (.str ⟨#[]⟩) s.f.length 0 (by omega)
 simp only[aP,aN]at this
 exact this
def Ao2 (v:Val)(nm:ByteArray):Val:=if Jy v nm then(v.get nm).getD Bc else Bc
theorem Agq (v:Val)(nm:ByteArray)(a:v.Aw<=1048576):W Bcs 0 [v.enc,.str nm]=some [.int (Ao2 v nm).k,.int (Ao2 v nm).n,.str (Ao2 v nm).s,.list ((Ao2 v nm).l.map bS),.list ((Ao2 v nm).f.map bG),.bool (Jy v nm)]:=by
 rw[Awz]
 unfold Ao2 Jy
 simp only[At6 v nm (by omega),Iv,I8,cT,aX,aR,aA]
 cases(v.get nm).isSome with
 | false=>rfl
 | true=>
  by_cases h:((v.get nm).getD Bc).k =0
  ·simp only[h,Zd];rfl
  ·simp only[h,Ze];rfl
theorem Wa (s:Sch)(v:Val)(p q:List Stp)(u:v.Aw<=1048576)(o: ∀s∈q,s.fits)(r:q.length<=1099511627776)(i:Nat)(b:i<=v.l.length)(key:ByteArray)(ok:Bool)(out:List IV)(w:out.length<=4398046511103): ∀ (n j:Nat) (ag:Bool),j+n=i->
  W Xf 3 [.list (p.map Stp.enc),.int i,.str key,.bool ok,.bool ag,.int j,s.enc,v.enc,.list out,.list (q.map Stp.enc)]
   =W Xf 4 [.list (p.map Stp.enc),.int i,s.enc,v.enc,.list (out++if ag||(ok&&((v.l.take i).drop j).any (sameKey s.key key)) then[H7 q 8]else[])]
 | n,j,ag,h=>by
  have z:=v.B8
  have fin:(cnd (.bool ag) (
    calls (W Ape 0 [.list (q.map Stp.enc),(.int 8)]) 1 λd=>
    (fK 24 (.list out) d).bind λe=>
    W Xf 4 [.list (p.map Stp.enc),.int i,s.enc,v.enc,e]) (
    W Xf 4 [.list (p.map Stp.enc),.int i,s.enc,v.enc,.list out]))=W Xf 4 [.list (p.map Stp.enc),.int i,s.enc,v.enc,.list (out++if ag then[H7 q 8]else[])]:=by
   cases ag with
   | false=>simp
   | true=>
    have g:(out.length+1) * 24<=A4:=Ani (by omega)
    simp only[aR,Zt,Adh q o r 8,bH,eR,aQ,g,aA]
  rw[A0z]
  by_cases c:j<i
  ·obtain⟨m,rfl⟩: ∃m,n=m+1:=⟨n - 1,by omega⟩
   have t:j<v.l.length:=by omega
   have x:=A8 (i:=j) (by omega)
   have A:=eH (aK t)
   have a:(j:Int)<i:=by omega
   cases ok with
   | false=>
    simp only[bB,a,Zd,aA,O.Vz,Zt,aR,aB,Zf]
    simp only[aR]at fin
    rw[fin];simp
   | true=>
    have y:=Kl v.l[j] s.key (by omega)
    have hd:(v.l.take i).drop j=v.l[j]::(v.l.take i).drop (j+1):=by
     rw[aD (by simp;omega),List.getElem_take]
    simp only[bB,a,Zd,aA,O.Vz,Zt,aR,cU,cD,aH,aG,aJ,aC t,aI,eK,y,fI,fQ,Az,Am,bR,x]
    rw[Wa s v p q u o r i b key true out w m (j+1) _ (by omega),hd,fO]
    congr 6
    unfold sameKey
    cases ag<;>cases Ep v.l[j] s.key<;>simp
  ·have a: ¬ (j:Int)<i:=by omega
   simp only[bB,a,Ze,aA,O.Vz,aB,Zf,aR]
   simp only[aR]at fin
   rw[fin,aE (by simp;omega)]
   simp
def Bdk (v:Val):Prop:=v.Aw<=1048576-> ∀ (s:Sch),SB s->s.Aw<=1048576-> ∀p:List Stp,(∀x∈p,x.fits)->p.length+v.Aw<=549755813888->W Aph 0 [s.enc,v.enc,.list (p.map Stp.enc)]=some [.list (Iw v s p)]
theorem Acl {v:Val}{s:Sch}{p:List Stp}(a:SB s)(b:s.Aw<=1048576)(c:v.Aw<=1048576):(Iw v s p).length <=2199025352704:=by
 have d:=Qw v s p a
 have e:=v.Ej
 have g:(2+s.Aw) * v.size<=1048578 * 1048576:=aW (by omega) (by omega)
 omega
theorem Wk (s t:Sch)(v:Val)(p:List Stp)(w:v.Aw<=1048576)(C:s.Aw<=1048576)(j:s.it= [t])(a:SB s)(hp: ∀s∈p,s.fits)(E:p.length+v.Aw<=549755813888)
  (y: ∀x∈v.l,Bdk x): ∀ (n i:Nat) (out:List IV),i+n=v.l.length->out.length+(2+s.Aw) * Cd (v.l.drop i)<=4398046511103->
  W Xf 2 [.list (p.map Stp.enc),.int i,s.enc,v.enc,.list out]=some [.list (out++Km (v.l.drop i) s.key t p (v.l.take i))]
 | 0,i,out,h,m=>by
  have z: ¬ i<v.l.length:=by omega
  rw[Aj3,aE (by omega),Kv]
  simp only[cU,bY,aF,aA,bB,Aj,z,Ze,aR,aB,Zf,bK]
 | n+1,i,out,h,m=>by
  have c:i<v.l.length:=by omega
  have J:=v.B8
  have F:=A8 (i:=i) (by omega)
  have K:=eH (aK c)
  have b:t∈s.it:=by rw[j];simp
  have htmass:=fS b
  have hd:=aD c
  have A:=s.Aat
  rw[hd]at m ⊢
  rw[Ia]
  have o:(v.l.take i).length =i:=by simp;omega
  have q:v.l.take i++ [v.l[i]]=v.l.take (i+1):=by simp
  rw[o,q]
  have B:=Hw hp (Zg s.key v.l[i] i (by omega) (by omega))
  have r:=y _ (aK c) (by omega) t (a.Jz b) (by omega) _ B (by simp;omega)
  have hlen:=Qw v.l[i] t (p++ [Gt s.key v.l[i] i]) (a.Jz b)
  have G:=Abi s.key (v.l.take i) v.l[i] (p++ [Gt s.key v.l[i] i])
  simp only[Cd,cJ]at m
  have H:(2+t.Aw) * v.l[i].size +1<=(2+s.Aw) * v.l[i].size :=by
   have z:=v.l[i].size_pos
   have L:(3+t.Aw) * v.l[i].size <=(2+s.Aw) * v.l[i].size :=aW (by omega) (bP _)
   have g:(3+t.Aw) * v.l[i].size =(2+t.Aw) * v.l[i].size +v.l[i].size :=by rw[show 3+t.Aw=(2+t.Aw)+1 by omega,gF,gG]
   omega
  generalize M:Iw v.l[i] t (p++ [Gt s.key v.l[i] i])=es1 at *
  have u:(out.length+es1.length) * 24<=A4:=Ani (by omega)
  have g:=Wa s v p (p++ [Gt s.key v.l[i] i]) w B (by simp;omega) i (by omega) (Ir v.l[i] s.key) (Ep v.l[i] s.key) (out++es1) (by rw[aO];omega) i 0 false (by omega)
  simp only[aN,aP,dX]at g
  have e:(if(Ep v.l[i] s.key&&(v.l.take i).any (sameKey s.key (Ir v.l[i] s.key)))=true then[H7 (p++ [Gt s.key v.l[i] i]) 8]else[])=Atg s.key (v.l.take i) v.l[i] (p++ [Gt s.key v.l[i] i]):=rfl
  rw[e]at g
  generalize N:Atg s.key (v.l.take i) v.l[i] (p++ [Gt s.key v.l[i] i])=d at *
  have I:=Wk s t v p w C j a hp E y n (i+1) (out++es1++d) (by omega) (by simp only[aO];omega)
  rw[Aj3]
  simp only[cU,bY,aF,aA,bB,Aj,c,Zd,aR,Zt,T1 s v.l i c (by omega),bH,Ra p (Gt s.key v.l[i] i) (by omega),eB,j,bN,bQ,cD,cR,cB,bO,aH,aG,aJ,aC c,aI,r,eR,u,eK,Kl v.l[i] s.key (by omega),fI]
  rw[g,Ay3]
  simp only[bR,F,aA]
  rw[I]
  simp only[bL]
theorem Vr (s:Sch)(v:Val)(p:List Stp)(c:v.Aw<=1048576)(j:s.Aw<=1048576)(hp: ∀s∈p,s.fits)(m:p.length+v.Aw<=549755813888): ∀ (n i:Nat) (out:List IV),i+n=s.f.length->out.length+n<=4398046511103->
  W Yz 3 [.list (p.map Stp.enc),.int i,s.enc,v.enc,.list out]=some [.list (out++(s.f.drop i).flatMap (I9 v p))]
 | 0,i,out,h,o=>by
  have a: ¬ i<s.f.length:=by omega
  rw[Ajs,aE (by omega)]
  simp only[dH,bY,aF,aA,bB,Aj,a,Ze,aR,aB,Zf,cV,bK]
 | n+1,i,out,h,o=>by
  have b:i<s.f.length:=by omega
  have u:=s.A7
  have q:=A8 (i:=i) (by omega)
  have r:=fT (aK b)
  have t:=Hw hp (H3 s.f[i].nm (by omega))
  have d:(out.length+1) * 24<=A4:=Ani (by omega)
  have g:O.Bg [(.int 1),.str s.f[i].nm,(.int 0),(.str ⟨#[]⟩)]=some (C3 s.f[i].nm).enc :=rfl
  rw[Ajs,aD b,cA]
  unfold I9
  simp only[dH,bY,aF,aA,bB,Aj,b,Zd,aR,Zt,cD,aH,aG,aJ,aC b,aI,eF,Agq v s.f[i].nm c,I8,gV,cT,Az,Am,g,Ra p (C3 s.f[i].nm) (by omega),bH,Adh _ t (by simp;omega),eR,aQ,d,Azj,bR,q]
  have e:(if s.f[i].rq =true then !Jy v s.f[i].nm else false)=(s.f[i].rq && !Jy v s.f[i].nm):=by cases s.f[i].rq<;>simp
  rw[e]
  cases(s.f[i].rq && !Jy v s.f[i].nm) with
  | true=>
   have a:=Vr s v p c j hp m n (i+1) (out++ [H7 (p++ [C3 s.f[i].nm]) 7]) (by omega) (by simp;omega)
   simp only[Zt,a,bL]
   rfl
  | false=>
   have a:=Vr s v p c j hp m n (i+1) out (by omega) (by omega)
   simp only[aB,Zf,a,bE]
   rfl
theorem Adu (s:Sch)(v:Val)(p:List Stp)(C:v.Aw<=1048576)(E:s.Aw<=1048576)(b:SB s)(hp: ∀s∈p,s.fits)(F:p.length+v.Aw<=549755813888)
  (G: ∀x∈v.f,Bdk x.2): ∀ (n i:Nat) (out:List IV),i+n=v.f.length->out.length+s.f.length+(2+s.Aw) * Br (v.f.drop i)<=4398046511103->
  W Yz 1 [.list (p.map Stp.enc),.int i,s.enc,v.enc,.list out]=some [.list (out++J7 (v.f.drop i) s p++s.f.flatMap (I9 v p))]
 | 0,i,out,h,y=>by
  have e: ¬ i<v.f.length:=by omega
  have H:=Vr s v p C E hp F s.f.length 0 out (by omega) (by omega)
  simp only[aN,aP]at H
  rw[Aj1,aE (by omega),Js]
  simp only[cN,bY,aF,aA,bB,Aj,e,Ze,aR,aB,Zf,bK,H]
 | n+1,i,out,h,y=>by
  have o:i<v.f.length:=by omega
  have R:=v.A7
  have J:=A8 (i:=i) (by omega)
  have S:=eA (aK o)
  have hd:=aD o
  rw[hd]at y ⊢
  rw[H9]
  simp only[Br,cJ]at y
  have I:=Hw hp (H3 v.f[i].1 (by omega))
  have z:O.Bg [(.int 1),.str v.f[i].1,(.int 0),(.str ⟨#[]⟩)]=some (C3 v.f[i].1).enc :=rfl
  have q:=v.f[i].2.size_pos
  have c:1<=(2+s.Aw) * v.f[i].2.size :=by
   have:1 * 1<=(2+s.Aw) * v.f[i].2.size :=aW (by omega) q
   omega
  -- what this field adds
  have key: ∀es:List IV,es.length<=(2+s.Aw) * v.f[i].2.size ->W Yz 2 [.list (p.map Stp.enc),.int i,s.enc,v.enc,.list (out++es)]=some [.list (out++(es++J7 (v.f.drop (i+1)) s p)++s.f.flatMap (I9 v p))]:=by
   intro es K
   have L:=Adu s v p C E b hp F G n (i+1) (out++es) (by omega) (by rw[aO];omega)
   rw[Ay5]
   simp only[bR,J,aA,L,bL]
  have sub: ∀t:Sch,Gh s v.f[i].1 =some t->((∃es,Iw v.f[i].2 t (p++ [C3 v.f[i].1])=es/\W Aph 0 [t.enc,v.f[i].2.enc,.list ((p++ [C3 v.f[i].1]).map Stp.enc)]=some [.list es]/\es.length<=(2+s.Aw) * v.f[i].2.size)):=by
   intro t A
   have M:=Jg A
   have e:=G _ (aK o) (by omega) t (b.sub A) (by omega) _ I (by simp;omega)
   have m:=Qw v.f[i].2 t (p++ [C3 v.f[i].1]) (b.sub A)
   have T:(2+t.Aw) * v.f[i].2.size <=(2+s.Aw) * v.f[i].2.size :=aW (by omega) (bP _)
   exact⟨_,rfl,e,by omega⟩
  have g: ∀es:List IV,es.length<=(2+s.Aw) * v.f[i].2.size ->(out.length+es.length) * 24<=A4:=λes h=>Ani (by omega)
  rw[Aj1]
  simp only[cN,bY,aF,aA,bB,Aj,o,Zd,aR,Zt,cD,aH,aG,aJ,aC o,aI,dC,z,Ra p _ (show p.length<=1099511627776 by omega),bH,Afn s v.f[i].1 (by omega),fI,eB,aX,cT,Az,Am,hD,eG,dG,fY]
  unfold Afw
  cases j:s.it with
  | nil=>
   have a:Gh s v.f[i].1 =(s.fld v.f[i].1).map (·.s):=by unfold Gh;rw[j]
   rw[a]at sub ⊢
   simp only[aZ,aN,Zd,Zt]
   cases N:s.fld v.f[i].1 with
   | none=>
    have u:=g [H7 (p++ [C3 v.f[i].1]) 1] (by simpa using c)
    simp only[dI,aY,Zt,Adh _ I (show(p++ [C3 v.f[i].1]).length <=1099511627776 by simp;omega),bH,eR,u,aA,gK]
    exact key _ (by simpa using c)
   | some d=>
    simp only[cM,aV,aB,Zf,aI,cE,show ¬ (0:Int)=1 by omega,Ze,ite_self]
    by_cases w:v.f[i].2.k =0
    ·simp only[w,Zd,aV,aB,Zf,Zt]
     have:=key [] (by simp)
     simpa using this
    ·obtain⟨es,B,e,m⟩:=sub d.s (by rw[N];rfl)
     simp only[w,Ze,aY,Zt,Zf,e,bH,eR,g es m,aA,B]
     exact key es m
  | cons t r=>
   have Q:r= []:=by have:=b.one;rw[j]at this;simpa using this
   subst Q
   have a:Gh s v.f[i].1 =some t:=by unfold Gh;rw[j]
   rw[a]at sub ⊢
   simp only[bA,aZ,gW,aN,show ¬ (1:Int)=0 by omega,Ze,aB,Zf,Zd,bN,bQ,cR,Zt,cB,bO,aA]
   by_cases w:v.f[i].2.k =0
   ·simp only[w,Zd,aV,aB,Zf,Zt]
    have:=key [] (by simp)
    simpa using this
   ·obtain⟨es,B,e,m⟩:=sub t rfl
    simp only[aI,aA,w,Ze,aY,Zt,Zf,e,bH,eR,g es m,aA,B]
    exact key es m
theorem Ad3 (s:Sch)(v:Val)(p:List Stp)(hp: ∀s∈p,s.fits)(b:p.length<=1099511627776)(d:s.Aw<=1048576): ∀ (n i:Nat),i+n=s.en.length->
  W Aph 1 [.list (p.map Stp.enc),.int i,s.enc,v.enc]=some [.list (if decide (0<s.en.length)&& !(s.en.drop i).any (λe=>decide (e=v.s)) then[H7 p 1]else[])]
 | 0,i,h=>by
  have g: ¬ i<s.en.length:=by omega
  rw[Alf,aE (by omega)]
  simp only[dW,bY,aF,aA,bB,Aj,g,Ze,aR,aB,Zf,cX,Adh p hp b,bH,List.any_nil,aY,cK]
  have e:decide ((0:Int)<(s.en.length:Int))=decide (0<s.en.length):=by simp
  rw[e]
  split<;>simp
 | n+1,i,h=>by
  have a:i<s.en.length:=by omega
  have o:=s.Lf
  have j:=A8 (i:=i) (by omega)
  have m:=Ad3 s v p hp b d n (i+1) (by omega)
  rw[Alf,aD a,fO]
  simp only[dW,bY,aF,aA,bB,Aj,a,Zd,aR,Zt,cD,aH,aG,aJ,aC a,aI,gC,fQ,bR,j,m]
  by_cases c:s.en[i]=v.s<;>simp[c]
theorem Akh: ∀v:Val,Bdk v:=by
 refine eD λv h i r s a j p hp u=>?_
 have b: ∀c,W Ape 0 [.list (p.map Stp.enc),.int c]=some [.list [H7 p c]]:=Adh p hp (by omega)
 have B:=v.size_eq
 have C:=v.Ej
 have E:=s.A7
 have hmul:(2+s.Aw) * v.size<=1048578 * 1048576:=aW (by omega) (by omega)
 rw[Ay6,Kc]
 simp only[dN,gD,aA,eG,aR,b,bH]
 by_cases w:v.k=s.k
 ·simp only[w,Zd,aV,aB,Zf,Zt,aX,aA,aR]
  by_cases k2:s.k=2
  ·simp only[k2,Zd,Zt,gL,dJ,dK,bB,cX,aA,aR,Az,Am,W4]
   by_cases d:v.n<s.mn<;>by_cases e:s.mx<v.n<;>simp[d,e]
  ·by_cases x:s.k=3
   ·have y:=Ad3 s v p hp (by omega) j s.en.length 0 (by omega)
    simp only[aN,aP]at y
    simp only[x,show ¬ (3:Int)=2 by omega,Ze,aB,Zf,Zd,Zt,gC,dJ,dK,dF,bB,cX,aA,aR,Az,Am,y]
    by_cases d:(v.s.size:Int)<s.mn<;>by_cases e:s.mx<(v.s.size:Int)<;>simp[d,e]
   ·by_cases m:s.k=4
    ·obtain⟨t,z⟩:=bX.1 (a.list m)
     have F:(2+s.Aw) * Cd v.l<=(2+s.Aw) * v.size:=aW (bP _) (by omega)
     have G:=Tq p s v.l.length
     have g:=Wk s t v p r j z a hp u h v.l.length 0 (W4 p s v.l.length) (by omega) (by simp only[aP];omega)
     simp only[aN,aP,fJ]at g
     have o:W Xf 0 [s.enc,v.enc,.list (p.map Stp.enc)]=some [.list (W4 p s v.l.length++Km v.l s.key t p [])]:=by
      rw[A03]
      simp only[cU,dJ,dK,bY,aF,bB,cX,aA,aR,Az,Am,b,bH,eR,aZ,aQ,bE,Azf]
      have q:(0+1) * 24<=A4:=Ani (by omega)
      simp only[q,Zt,aA]
      revert g
      unfold W4
      by_cases d:(v.l.length:Int)<s.mn<;>by_cases e:s.mx<(v.l.length:Int)<;>simp[d,e]
     simp only[m,show ¬ (4:Int)=2 by omega,show ¬ (4:Int)=3 by omega,Ze,aB,Zf,Zd,Zt,o,bH,z,eZ]
    ·by_cases A:s.k=5
     ·have F:(2+s.Aw) * Br v.f<=(2+s.Aw) * v.size:=aW (bP _) (by omega)
      have g:=Adu s v p r j a hp u i v.f.length 0 [] (by omega) (by simp only[aP,aZ];omega)
      simp only[aN,aP,bE]at g
      have o:W Yz 0 [s.enc,v.enc,.list (p.map Stp.enc)]=some [.list (J7 v.f s p++s.f.flatMap (I9 v p))]:=by
       rw[Awh,g]
      simp only[A,show ¬ (5:Int)=2 by omega,show ¬ (5:Int)=3 by omega,show ¬ (5:Int)=4 by omega,Ze,aB,Zf,Zd,Zt,o,bH]
     ·simp only[k2,x,m,A,Ze,aB,Zf]
 ·simp only[w,Ze,aY,Zt,Zf]
end Go.CT.Sch
namespace Go.CT.Sch
open Go.Proofs
def Apj (m:List (ByteArray × Bool)):List IV:=m.map λe=> .agg [.str e.1,.bool e.2]
def Te (m:List (ByteArray × Bool))(k:ByteArray):Option Bool:=(m.find? λe=>decide (e.1=k)).map (·.2)
def Acx (k:ByteArray)(b:Bool):List (ByteArray × Bool)->List (ByteArray × Bool)
 | []=> [(k,b)]
 | e::r=>if e.1=k then(k,b)::r else e::Acx k b r
theorem Yw (a b:ByteArray):IV.Oq (.str a) (.str b)=some (decide (a=b)):=by
 have:(a.toList == b.toList)=decide (a=b):=by
  rw[aS,beq_iff_eq,decide_eq_true_iff];exact O.R8
 simp only[IV.Oq,this]
theorem Us (k:ByteArray): ∀m:List (ByteArray × Bool),Ta (.str k) (Apj m)=some ((Te m k).map .bool)
 | []=>rfl
 | e::r=>by
  have a:=Us k r
  simp only[Apj,bN,Ta,Yw,Te,bV]
  by_cases c:k=e.1
  ·simp[c]
  ·have c': ¬ e.1=k:=λh=>c h.symm
   simp only[c,c',Ze]
   exact a
theorem Ak6 (k:ByteArray)(b:Bool): ∀m:List (ByteArray × Bool),Aup (.str k) (.bool b) (Apj m)=some (Apj (Acx k b m))
 | []=>rfl
 | e::r=>by
  have a:=Ak6 k b r
  simp only[Apj,bN,Aup,Yw,Acx]
  by_cases c:k=e.1
  ·simp[c]
  ·have c': ¬ e.1=k:=λh=>c h.symm
   simp only[c,c',Ze,Zf]
   unfold Apj at a
   rw[a];rfl
theorem Aff (k j:ByteArray)(b:Bool): ∀m:List (ByteArray × Bool),Te (Acx k b m) j=if k=j then some b else Te m j
 | []=>by simp only[Acx,Te,bV,List.find?_nil];by_cases c:k=j<;>simp[c]
 | e::r=>by
  have d:=Aff k j b r
  unfold Te at d ⊢
  unfold Acx
  by_cases c:e.1=k
  ·simp only[c,Zt,bV]
   by_cases a:k=j<;>simp[a]
  ·simp only[c,Zf,bV]
   by_cases a:e.1=j
   ·have: ¬ k=j:=λh=>c (a.trans h.symm)
    simp[a,this]
   ·simp only[a,Ze,d]
theorem Awa (m:List (ByteArray × Bool))(k:ByteArray):O.Anx (.bool false) (.list (Apj m)) (.str k)=some (.bool ((Te m k).getD false)):=by
 unfold O.Anx
 simp only[cZ,Us,aI]
 cases Te m k<;>rfl
theorem Axh (m:List (ByteArray × Bool))(k:ByteArray):O.Air (.list (Apj m)) (.str k)=some (.bool (Te m k).isSome):=by
 unfold O.Air
 simp only[cZ,Us,aI,Option.isSome_map]
theorem Aj2 (m:List (ByteArray × Bool))(k:ByteArray)(b:Bool):O.Anu (.list (Apj m)) (.str k) (.bool b)=some (.list (Apj (Acx k b m))):=by
 unfold O.Anu
 simp only[cZ,Ak6,aI]
theorem Aeq (v:Val)(nm:ByteArray)(a:v.Aw<=4294967296):W F75 0 [v.enc,.str nm]=some (Iv (v.get nm)):=Ayg v nm (Hl v (by omega))
theorem A2j (v:Val)(nm:ByteArray)(a:v.Aw<=1048576):W F74 0 [v.enc,.str nm]=some [.str (Ir v nm),.bool (isKey v nm)]:=by
 rw[A76]
 unfold Ir isKey
 simp only[Aeq v nm (by omega),Iv,I8,aR,aX,aA,Az,Am]
 cases(v.get nm).isSome<;>simp
theorem Ao1 (s:Sch)(v:Val)(i:Int)(a:v.Aw<=1048576):W F73 0 [s.enc,.int i,v.enc]=some [.agg [.int (if Ep v s.key then 3 else 2),.str (if Ep v s.key then s.key else Ar),.int (if Ep v s.key then 0 else i),.str (if Ep v s.key then Ir v s.key else Ar)]]:=by
 rw[A61]
 have e:(if isKey v s.key=true then !decide (s.key=(⟨#[]⟩:ByteArray)) else false)=Ep v s.key:=by unfold Ep Ar;cases isKey v s.key<;>simp
 simp only[eK,aA,A2j v s.key a,fI,gR,aR,Az,Am,e,fB]
 cases Ep v s.key<;>rfl
theorem Agl (s:Sch)(v:Val)(i:Nat)(a:v.Aw<=1048576):W F73 0 [s.enc,.int i,v.enc]=some [(Gt s.key v i).enc]:=by
 rw[Ao1 s v i a]
 unfold Gt
 cases Ep v s.key<;>rfl
theorem Ut (nm:ByteArray):W F81 0 [.str nm]=some [(C3 nm).enc]:=by
 rw[A7h];rfl
theorem Zo (p:List Stp)(s:Stp)(c:p.length<=1073741824):W F76 0 [.list (p.map Stp.enc),s.enc]=some [.list ((p++ [s]).map Stp.enc)]:=by
 have a:((p.map Stp.enc).length + [s.enc].length) * 48<=A4:=by
  have:(p.length+1) * 48<=1099511627777 * 48:=aW (by omega) (bP _)
  simp only[aF,aQ]
  unfold A4;omega
 have b:O.Io [.list (p.map Stp.enc)]=some [.list (p.map Stp.enc)]:=Ez (by rw[aF];omega)
 rw[A47]
 simp only[A9l,b,bH,Bdn,O.An9,fR,aA,O.Afo (n:=48) (by simp) a,cG,bN,bQ]
theorem Aju (out:List IV)(p:List Stp)(c:Int)(hp: ∀s∈p,s.fits)(b:p.length<=1099511627776)(d:out.length<=4398046511103):W F52 0 [.list out,.list (p.map Stp.enc),.int c]=some [.list (out++ [H7 p c])]:=by
 have a:(out.length+1) * 24<=A4:=Ani (by omega)
 rw[A59]
 simp only[Al3 p hp b,fI,fB,fR,aA,eR,aQ,a,Zt,H7]
theorem Ard (s:Sch):W F79 0 [s.enc]=some [.bool (decide (s.k=5)&&decide (0<s.it.length))]:=by
 rw[A4d]
 by_cases a:s.k=5<;>simp[a]
theorem As8 (s:Sch):W F31 0 [s.enc]=some [.bool (decide (s.k=5)&&decide (s.it.length=0))]:=by
 rw[A7a]
 by_cases a:s.k=5<;>simp[a]
theorem Aku (s:Sch)(nm:ByteArray)(d:s.Aw<=1099511627776): ∀ (n i:Nat),i+n=s.f.length->
  ∃r:Int,W F29 1 [.list (s.f.map cS),.str nm,.int s.f.length,.int i]=some [.int r]/\
   ((((s.f.drop i).find? λp=>decide (p.nm=nm))=none/\r<0)\/(∃j:Nat,r=j/\s.f[j]?=((s.f.drop i).find? λp=>decide (p.nm=nm))/\((s.f.drop i).find? λp=>decide (p.nm=nm)).isSome =true))
 | 0,i,h=>by
  rw[Are]
  have b: ¬ i<s.f.length:=by omega
  refine⟨-1,by simp[b],.inl ⟨by simp[aE (bD b)],by omega⟩⟩
 | n+1,i,h=>by
  have a:i<s.f.length:=by omega
  have o:=s.A7
  have e:=A8 (i:=i) (by omega)
  obtain⟨r,g,m⟩:=Aku s nm d n (i+1) (by omega)
  rw[Are,aD a,bV]
  simp only[bB,Aj,a,Zd,aA,aR,Zt,cD,aH,aG,aJ,aC a,aI,A4c,eF,fQ,bH,bR,e,g]
  by_cases c:s.f[i].nm =nm
  ·refine⟨i,by simp[c],.inr ⟨i,rfl,by simp[c],by simp[c]⟩⟩
  ·have c':decide (s.f[i].nm =nm)=false:=by simpa using c
   simp only[c',aB,Zf]
   exact⟨r,rfl,m⟩
theorem Aie (s:Sch)(nm:ByteArray)(h:s.Aw<=1099511627776):W F28 0 [s.enc,.str nm]=
  some [(if s.k=5/\s.it.length=0 then(s.fld nm).getD Oj else Oj).enc,.bool (decide (s.k=5/\s.it.length=0)&&(s.fld nm).isSome)]:=by
 obtain⟨r,i,b⟩:=Aku s nm h s.f.length 0 (by omega)
 have c:W F29 0 [.list (s.f.map cS),.str nm]=some [.int r]:=by
  rw[A4s]
  simpa using i
 simp only[aP]at b
 have m:(s.f.find? λp=>decide (p.nm=nm))=s.fld nm:=rfl
 rw[m]at b
 have e:=As8 s
 rw[A70]
 simp only[dH,aA,c,bH,bB,aR,e,cT,fB,Az,Am]
 rcases b with⟨a,g⟩ | ⟨j,rfl,a,g⟩
 ·rw[a]
  simp only[g,Zd,Zt,eT,ite_self,dI,gN]
  rfl
 ·have o: ¬ (j:Int)<0:=by omega
  obtain⟨d,hd⟩:=eP.1 g
  rw[hd]at a ⊢
  simp only[o,Ze,aB,Zf,cD,aH,Zt,aG,aJ,a,aI,cE,cM,cK,aA]
  by_cases q:s.k=5<;>by_cases t:s.it.length=0<;>simp[q,t,Xo]
theorem Anj (v:Val)(nm:ByteArray)(a:v.Aw<=1048576): ∃w:Val,W F82 0 [v.enc,.str nm]=some [.int w.k,.int w.n,.str w.s,.list (w.l.map bS),.list (w.f.map bG),.bool (Jy v nm)]/\w=(v.get nm).getD Bc:=by
 rw[A8u]
 unfold Jy
 refine⟨_,?_,rfl⟩
 simp only[Aeq v nm (by omega),Iv,I8,eG,aR,aA,Az,Am]
 cases(v.get nm).isSome<;>simp
theorem P7 (l:List ByteArray)(x:ByteArray)(d:l.length<=1099511627776): ∀ (n i:Nat),i+n=l.length->
  ∃r:Int,W F71 1 [.list (l.map .str),.str x,.int l.length,.int i]=some [.int r]/\(decide (0<=r)=(l.drop i).any λe=>decide (e=x))
 | 0,i,h=>by
  rw[Aq6]
  have b: ¬ i<l.length:=by omega
  refine⟨-1,by simp[b],by simp[aE (bD b)]⟩
 | n+1,i,h=>by
  have a:i<l.length:=by omega
  have g:=A8 (i:=i) (by omega)
  obtain⟨r,j,m⟩:=P7 l x d n (i+1) (by omega)
  rw[Aq6,aD a,fO]
  simp only[bB,Aj,a,Zd,aA,aR,Zt,cD,aH,aG,aJ,aC a,aI,fQ,bR,g,j]
  by_cases c:x=l[i]
  ·refine⟨i,by simp[c],by simp[c]⟩
  ·have c': ¬ l[i]=x:=λh=>c h.symm
   simp only[c,Ze,aB,Zf]
   exact⟨r,rfl,by simp[c',m]⟩
theorem Pp (l:List ByteArray)(x:ByteArray)(b:l.length<=1099511627776):W F70 0 [.list (l.map .str),.str x]=some [.bool (l.any λe=>decide (e=x))]:=by
 obtain⟨r,c,d⟩:=P7 l x b l.length 0 (by omega)
 have a:W F71 0 [.list (l.map .str),.str x]=some [.int r]:=by
  rw[A71];simpa using c
 rw[A6w]
 simp only[a,bH,fF,aA,d,aP]
def PgE (v:Val):Prop:=v.Aw<=1048576-> ∀ (s:Sch),SB s->s.Aw<=1048576-> ∀ (p:List Stp) (out:List IV),(∀x∈p,x.fits)->p.length+v.Aw<=1073741824->out.length+(2+s.Aw) * v.size<=4398046511103->
 W F51 0 [.list out,s.enc,v.enc,.list (p.map Stp.enc)]=some [.list (out++Iw v s p)]
theorem Aex (s t:Sch)(v:Val)(p:List Stp)(H:v.Aw<=1048576)(I:s.Aw<=1048576)(r:s.it= [t])(d:SB s)(hp: ∀s∈p,s.fits)(J:p.length+v.Aw<=1073741824)
  (z: ∀x∈v.l,PgE x): ∀ (n i:Nat) (out:List IV) (m:List (ByteArray × Bool)),i+n=v.l.length->out.length+(2+s.Aw) * Cd (v.l.drop i)<=4398046511103->
  (∀k,(Te m k).getD false=(v.l.take i).any (sameKey s.key k))->
  W F72 2 [.list (p.map Stp.enc),.list (v.l.map bS),.int v.l.length,.int i,s.enc,.list (Apj m),.list out]=some [.list (out++Km (v.l.drop i) s.key t p (v.l.take i))]
 | 0,i,out,m,h,u,g=>by
  have A: ¬ i<v.l.length:=by omega
  rw[Asf,aE (by omega),Kv]
  simp only[bB,Aj,A,Ze,aA,aR,aB,Zf,bK]
 | n+1,i,out,m,h,u,g=>by
  have j:i<v.l.length:=by omega
  have R:=v.B8
  have K:=A8 (i:=i) (by omega)
  have S:=eH (aK j)
  have e:t∈s.it:=by rw[r];simp
  have htmass:=fS e
  have hd:=aD j
  have B:=s.Aat
  rw[hd]at u ⊢
  rw[Ia]
  have w:(v.l.take i).length =i:=by simp;omega
  have o:v.l.take i++ [v.l[i]]=v.l.take (i+1):=by simp
  rw[w,o]
  have C:=Hw hp (Zg s.key v.l[i] i (by omega) (by omega))
  have hlen:=Qw v.l[i] t (p++ [Gt s.key v.l[i] i]) (d.Jz e)
  have L:=Abi s.key (v.l.take i) v.l[i] (p++ [Gt s.key v.l[i] i])
  simp only[Cd,cJ]at u
  have M:(2+t.Aw) * v.l[i].size +1<=(2+s.Aw) * v.l[i].size :=by
   have A:=v.l[i].size_pos
   have T:(3+t.Aw) * v.l[i].size <=(2+s.Aw) * v.l[i].size :=aW (by omega) (bP _)
   have U:(3+t.Aw) * v.l[i].size =(2+t.Aw) * v.l[i].size +v.l[i].size :=by rw[show 3+t.Aw=(2+t.Aw)+1 by omega,gF,gG]
   omega
  have y:=z _ (aK j) (by omega) t (d.Jz e) (by omega) (p++ [Gt s.key v.l[i] i]) out C (by simp;omega) (by omega)
  generalize X:Iw v.l[i] t (p++ [Gt s.key v.l[i] i])=es1 at *
  have b: ∀k,(v.l.take (i+1)).any (sameKey s.key k)=((v.l.take i).any (sameKey s.key k)||sameKey s.key k v.l[i]):=by
   intro k;rw[<-o,List.any_append];simp
  have go: ∀ (es:List IV) (q:List (ByteArray × Bool)),es.length<=(2+s.Aw) * v.l[i].size ->(∀k,(Te q k).getD false=(v.l.take (i+1)).any (sameKey s.key k))->
    W F72 4 [.list (p.map Stp.enc),.list (v.l.map bS),.int v.l.length,.int i,s.enc,.list (Apj q),.list (out++es)]=some [.list (out++(es++Km (v.l.drop (i+1)) s.key t p (v.l.take (i+1))))]:=by
   intro es q N a
   have Q:=Aex s t v p H I r d hp J z n (i+1) (out++es) q (by omega) (by rw[aO];omega) a
   rw[A58]
   simp only[bR,K,aA]
   rw[Q,bL]
  have ek:(if isKey v.l[i] s.key=true then !decide (s.key=(⟨#[]⟩:ByteArray)) else false)=Ep v.l[i] s.key:=by unfold Ep Ar;cases isKey v.l[i] s.key<;>simp
  rw[Asf]
  simp only[bB,Aj,j,Zd,aA,aR,Zt,cD,aH,aG,aJ,aC j,aI,Agl s v.l[i] i (by omega),bH,Zo p (Gt s.key v.l[i] i) (by omega),eB,r,bN,bQ,cR,cB,bO,y,eK,A2j v.l[i] s.key (by omega),fI,gR,Az,Am,ek,Awa,Axh,g]
  unfold Atg
  cases E:Ep v.l[i] s.key with
  | false=>
   simp only[aB,Zf,cL,bK]
   refine go es1 m (by omega) λk=>?_
   rw[g,b]
   simp[sameKey,E]
  | true=>
   have a: ∀k,(Te (Acx (Ir v.l[i] s.key) true m) k).getD false=(v.l.take (i+1)).any (sameKey s.key k):=by
    intro k
    rw[Aff,b]
    unfold sameKey at g ⊢
    by_cases c:Ir v.l[i] s.key=k
    ·simp[c,E]
    ·simp[c,g]
   simp only[Zt,bI]
   cases F:(v.l.take i).any (sameKey s.key (Ir v.l[i] s.key)) with
   | true=>
    simp only[Zt,Aju _ _ 8 C (show(p++ [Gt s.key v.l[i] i]).length <=1099511627776 by simp;omega) (show(out++es1).length <=4398046511103 by rw[aO];omega),bH,Aq7,Aj2,aA]
    have G:=go (es1++ [H7 (p++ [Gt s.key v.l[i] i]) 8]) _ (by simp;omega) a
    simp only[<-bL]at G ⊢
    exact G
   | false=>
    simp only[aB,Zf,Aq7,Aj2,aA,bK]
    exact go es1 _ (by omega) a
theorem Aa8 (s:Sch)(v:Val)(p:List Stp)(c:v.Aw<=1048576)(g:s.Aw<=1048576)(hp: ∀s∈p,s.fits)(j:p.length+v.Aw<=1073741824): ∀ (n i:Nat) (out:List IV),i+n=s.f.length->out.length+n<=4398046511103->
  W F80 3 [.list (p.map Stp.enc),.list (s.f.map cS),.int s.f.length,.int i,v.enc,.list out]=some [.list (out++(s.f.drop i).flatMap (I9 v p))]
 | 0,i,out,h,m=>by
  have a: ¬ i<s.f.length:=by omega
  rw[Aq9,aE (by omega)]
  simp only[aA,bB,Aj,a,Ze,aR,aB,Zf,cV,bK]
 | n+1,i,out,h,m=>by
  have b:i<s.f.length:=by omega
  have t:=s.A7
  have o:=A8 (i:=i) (by omega)
  have q:=fT (aK b)
  have r:=Hw hp (H3 s.f[i].nm (by omega))
  obtain⟨w,d,_⟩:=Anj v s.f[i].nm c
  rw[Aq9,aD b,cA]
  unfold I9
  have e:(if s.f[i].rq =true then !Jy v s.f[i].nm else false)=(s.f[i].rq && !Jy v s.f[i].nm):=by cases s.f[i].rq<;>simp
  simp only[aA,bB,Aj,b,Zd,aR,Zt,cD,aH,aG,aJ,aC b,aI,eF,d,I8,gV,cT,Az,Am,Ut,bH,Zo p (C3 s.f[i].nm) (by omega),Aju out _ 7 r (show(p++ [C3 s.f[i].nm]).length <=1099511627776 by simp;omega) (by omega),A45,bR,o,e]
  cases(s.f[i].rq && !Jy v s.f[i].nm) with
  | true=>
   have a:=Aa8 s v p c g hp j n (i+1) (out++ [H7 (p++ [C3 s.f[i].nm]) 7]) (by omega) (by simp;omega)
   simp only[Zt,a,bL]
   rfl
  | false=>
   have a:=Aa8 s v p c g hp j n (i+1) out (by omega) (by omega)
   simp only[aB,Zf,a,bE]
   rfl
theorem A2q (s:Sch)(v:Val)(p:List Stp)(h:v.Aw<=1048576)(j:s.Aw<=1048576)(a:SB s)(hp: ∀s∈p,s.fits)(m:p.length+v.Aw<=1073741824)(d: ∀x∈v.f,PgE x.2)(i:Nat)(c:i<v.f.length)(out:List IV)(o:out.length+(2+s.Aw) * v.f[i].2.size <=4398046511103)(t:Sch)(b:Gh s v.f[i].1 =some t):
  W F51 0 [.list out,t.enc,v.f[i].2.enc,.list ((p++ [C3 v.f[i].1]).map Stp.enc)]=some [.list (out++Iw v.f[i].2 t (p++ [C3 v.f[i].1]))]/\(Iw v.f[i].2 t (p++ [C3 v.f[i].1])).length <=(2+s.Aw) * v.f[i].2.size :=by
 have q:=v.A7
 have r:=eA (aK c)
 have e:=Hw hp (H3 v.f[i].1 (by omega))
 have g:=Jg b
 have u:=Qw v.f[i].2 t (p++ [C3 v.f[i].1]) (a.sub b)
 have w:(2+t.Aw) * v.f[i].2.size <=(2+s.Aw) * v.f[i].2.size :=aW (by omega) (bP _)
 exact⟨d _ (aK c) (by omega) t (a.sub b) (by omega) _ out e (by simp;omega) (by omega),by omega⟩
theorem Ae1 (s t:Sch)(v:Val)(p:List Stp)(j:v.Aw<=1048576)(m:s.Aw<=1048576)(d:s.it= [t])(b:SB s)(hp: ∀s∈p,s.fits)(o:p.length+v.Aw<=1073741824)
  (q: ∀x∈v.f,PgE x.2): ∀ (n i:Nat) (out:List IV),i+n=v.f.length->out.length+(2+s.Aw) * Br (v.f.drop i)<=4398046511103->
  W F51 1 [.list (p.map Stp.enc),.list (v.f.map bG),.int v.f.length,.int i,s.enc,.list out]=some [.list (out++J7 (v.f.drop i) s p)]
 | 0,i,out,h,e=>by
  have g: ¬ i<v.f.length:=by omega
  rw[Atl,aE (by omega),Js]
  simp only[bB,Aj,g,Ze,aA,aR,aB,Zf,bK]
 | n+1,i,out,h,e=>by
  have c:i<v.f.length:=by omega
  have A:=v.A7
  have u:=A8 (i:=i) (by omega)
  have hd:=aD c
  rw[hd]at e ⊢
  rw[H9]
  simp only[Br,cJ]at e
  have a:Gh s v.f[i].1 =some t:=by unfold Gh;rw[d]
  have key: ∀es:List IV,es.length<=(2+s.Aw) * v.f[i].2.size ->W F51 2 [.list (p.map Stp.enc),.list (v.f.map bG),.int v.f.length,.int i,s.enc,.list (out++es)]=some [.list (out++(es++J7 (v.f.drop (i+1)) s p))]:=by
   intro es w
   have y:=Ae1 s t v p j m d b hp o q n (i+1) (out++es) (by omega) (by rw[aO];omega)
   rw[A8o]
   simp only[bR,u,aA,y,bL]
  obtain⟨g,z⟩:=A2q s v p j m b hp o q i c out (by omega) t a
  rw[Atl]
  unfold Afw
  rw[a]
  simp only[bB,Aj,c,Zd,aA,aR,Zt,cD,aH,aG,aJ,aC c,aI,hD,eG,eB,d,bN,bQ,cR,cB,bO,dG,dC,Ut,bH,Zo p (C3 v.f[i].1) (by omega),g]
  by_cases r:v.f[i].2.k =0
  ·simp only[r,Zd,aV,aB,Zf,Zt]
   have:=key [] (by simp)
   simpa using this
  ·simp only[r,Ze,aY,Zt,Zf]
   exact key _ z
theorem Aly (s:Sch)(v:Val)(p:List Stp)(o:v.Aw<=1048576)(q:s.Aw<=1048576)(c:s.k=5)(b:s.it= [])(e:SB s)(hp: ∀s∈p,s.fits)(r:p.length+v.Aw<=1073741824)
  (w: ∀x∈v.f,PgE x.2): ∀ (n i:Nat) (out:List IV),i+n=v.f.length->out.length+s.f.length+(2+s.Aw) * Br (v.f.drop i)<=4398046511103->
  W F80 1 [.list (p.map Stp.enc),.list (v.f.map bG),.int v.f.length,.int i,s.enc,v.enc,.list out]=some [.list (out++J7 (v.f.drop i) s p++s.f.flatMap (I9 v p))]
 | 0,i,out,h,t=>by
  have u: ¬ i<v.f.length:=by omega
  have y:=Aa8 s v p o q hp r s.f.length 0 out (by omega) (by omega)
  simp only[aN,aP]at y
  rw[Arb,aE (by omega),Js]
  simp only[bB,Aj,u,Ze,aA,aR,aB,Zf,dH,bY,aF,y,bK]
 | n+1,i,out,h,t=>by
  have g:i<v.f.length:=by omega
  have H:=v.A7
  have A:=A8 (i:=i) (by omega)
  have I:=eA (aK g)
  have hd:=aD g
  rw[hd]at t ⊢
  rw[H9]
  simp only[Br,cJ]at t
  have j:=v.f[i].2.size_pos
  have m:1<=(2+s.Aw) * v.f[i].2.size :=by
   have:1 * 1<=(2+s.Aw) * v.f[i].2.size :=aW (by omega) j
   omega
  have B:=Hw hp (H3 v.f[i].1 (by omega))
  have a:Gh s v.f[i].1 =(s.fld v.f[i].1).map (·.s):=by unfold Gh;rw[b]
  have key: ∀es:List IV,es.length<=(2+s.Aw) * v.f[i].2.size ->W F80 2 [.list (p.map Stp.enc),.list (v.f.map bG),.int v.f.length,.int i,s.enc,v.enc,.list (out++es)]=some [.list (out++(es++J7 (v.f.drop (i+1)) s p)++s.f.flatMap (I9 v p))]:=by
   intro es C
   have E:=Aly s v p o q c b e hp r w n (i+1) (out++es) (by omega) (by rw[aO];omega)
   rw[A38]
   simp only[bR,A,aA,E,bL]
  rw[Arb]
  unfold Afw
  simp only[bB,Aj,g,Zd,aA,aR,Zt,cD,aH,aG,aJ,aC g,aI,dC,Ut,bH,Zo p (C3 v.f[i].1) (by omega),Aie s v.f[i].1 (by omega),fI,c,b,aZ,and_self,Zd,bI,cT,hD,eG,dG,fY]
  rw[a]
  cases F:s.fld v.f[i].1 with
  | none=>
   simp only[dI,aY,Zt,Aju out _ 1 B (show(p++ [C3 v.f[i].1]).length <=1099511627776 by simp;omega) (by omega),bH,gK]
   exact key _ (by simpa using m)
  | some d=>
   simp only[cM,aV,aB,Zf,aI,cE]
   by_cases z:v.f[i].2.k =0
   ·simp only[z,Zd,aV,aB,Zf,Zt]
    have:=key [] (by simp)
    simpa using this
   ·obtain⟨u,G⟩:=A2q s v p o q e hp r w i g out (by omega) d.s (by rw[a,F];rfl)
    simp only[z,Ze,aY,Zt,Zf,u,bH]
    exact key _ G
theorem Av6: ∀v:Val,PgE v:=by
 refine eD λv u j w s a x p out hp y R=>?_
 have m:=v.size_pos
 have E:1<=(2+s.Aw) * v.size:=by
  have:1 * 1<=(2+s.Aw) * v.size:=aW (by omega) m
  omega
 have q: ∀c,W F52 0 [.list out,.list (p.map Stp.enc),.int c]=some [.list (out++ [H7 p c])]:=λc=>Aju out p c hp (by omega) (by omega)
 have I:=v.size_eq
 have J:=s.A7
 have hle:=s.Lf
 rw[A46,Kc]
 simp only[dN,gD,aA,eG,aR,q,bH]
 by_cases F:v.k=s.k
 ·simp only[F,Zd,aV,aB,Zf,Zt,aX,aA,aR]
  by_cases k2:s.k=2
  ·simp only[k2,Zd,Zt,gL,dJ,dK,bB,cX,aA,aR,Az,Am,W4]
   by_cases h:v.n<s.mn<;>by_cases i:s.mx<v.n<;>simp[h,i]
  ·by_cases G:s.k=3
   ·simp only[G,show ¬ (3:Int)=2 by omega,Ze,aB,Zf,Zd,Zt,gC,dJ,dK,dW,bY,aF,dF,bB,cX,aA,aR,Az,Am,Pp s.en v.s (by omega),bH,cT]
    have e:decide ((0:Int)<(s.en.length:Int))=decide (0<s.en.length):=by simp
    rw[e]
    by_cases h:(v.s.size:Int)<s.mn<;>by_cases i:s.mx<(v.s.size:Int)<;>by_cases K:0<s.en.length<;>cases(s.en.any λe=>decide (e=v.s))<;>simp[h,i,K]
   ·by_cases z:s.k=4
    ·obtain⟨t,H⟩:=bX.1 (a.list z)
     have g:(2+s.Aw) * (1+Cd v.l)<=(2+s.Aw) * v.size:=aW (bP _) (by omega)
     rw[cJ]at g
     have L:=Tq p s v.l.length
     have d:=Aex s t v p w x H a hp y u v.l.length 0 (out++W4 p s v.l.length) [] (by omega) (by simp only[aP,aO];omega) (λk=>rfl)
     simp only[aN,aP,fJ]at d
     have A:W F72 0 [.list out,s.enc,v.enc,.list (p.map Stp.enc)]=some [.list (out++(W4 p s v.l.length++Km v.l s.key t p []))]:=by
      have M: ∀o:List IV,o=out++W4 p s v.l.length->W F72 1 [.list (p.map Stp.enc),s.enc,v.enc,.list o]=some [.list (out++(W4 p s v.l.length++Km v.l s.key t p []))]:=by
       intro o N
       rw[A5i,N]
       simp only[cU,bY,aF,aA]
       rw[<-bL]
       exact d
      rw[A8h]
      simp only[cU,dJ,dK,bY,aF,bB,cX,aA,aR,Az,Am,q,bH]
      by_cases h:(v.l.length:Int)<s.mn<;>by_cases i:s.mx<(v.l.length:Int)<;>simp only[h,i,Zd,Ze,Zt,Zf,aB]<;>exact M _ (by simp[W4,h,i])
     simp only[z,show ¬ (4:Int)=2 by omega,show ¬ (4:Int)=3 by omega,Ze,aB,Zf,Zd,Zt,A,bH,H,eZ]
    ·by_cases B:s.k=5
     ·have g:(2+s.Aw) * (1+Br v.f)<=(2+s.Aw) * v.size:=aW (bP _) (by omega)
      rw[cJ]at g
      simp only[B,show ¬ (5:Int)=2 by omega,show ¬ (5:Int)=3 by omega,show ¬ (5:Int)=4 by omega,Ze,aB,Zf,Zd,Zt,Ard,bH,bI,aR]
      cases b:s.it with
      | nil=>
       have d:=Aly s v p w x B b a hp y j v.f.length 0 out (by omega) (by simp only[aP];omega)
       simp only[aN,aP]at d
       have A:W F80 0 [.list out,s.enc,v.enc,.list (p.map Stp.enc)]=some [.list (out++(J7 v.f s p++s.f.flatMap (I9 v p)))]:=by
        rw[A5m,<-bL]
        simp only[cN,bY,aF,aA]
        exact d
       simp only[aZ,Nat.lt_irrefl,Ze,aB,Zf,A,bH]
      | cons t r=>
       have Q:r= []:=by have:=a.one;rw[b]at this;simpa using this
       subst Q
       have C:=a.nof (by rw[b];simp)
       have d:=Ae1 s t v p w x b a hp y j v.f.length 0 out (by omega) (by simp only[aP];omega)
       simp only[aN,aP]at d
       simp only[bA,Nat.zero_lt_succ,Zd,Zt,cN,bY,aF,aA,C,cV,bK]
       exact d
     ·simp only[k2,G,z,B,Ze,aB,Zf,Ard,bH,cL,aR,bK]
 ·simp only[F,Ze,aY,Zt,Zf]
theorem Aey (v:Val)(b:v.Aw<=1048576)(s:Sch)(a:SB s)(c:s.Aw<=1048576):W F50 0 [s.enc,v.enc]=some [.list (Iw v s [])]:=by
 have d:=v.Ej
 have hmul:(2+s.Aw) * v.size<=1048578 * 1048576:=aW (by omega) (by omega)
 have h:=Av6 v b s a c [] [] (by simp) (by simp;omega) (by simp;omega)
 simp only[bQ,bE]at h
 rw[A8l]
 simp only[h,bH]
end Go.CT.Sch
namespace Go.CT.Sch
open Go.Proofs
def Ih (o:Option ByteArray)(x:ByteArray):Bool:=match o with | none=>true | some q=>blt q x
def Avu (mn mx:Int):Option ByteArray->List ByteArray->Bool
 | _,[]=>true
 | o,x::r=>Iz x&&decide (mn<=x.size)&&decide ((x.size:Int)<=mx)&&Ih o x&&Avu mn mx (some x) r
def A8w (x:SFld):Bool:=x.df.all λv=> !decide (v.k=0)&&v.valid&&decide ((Iw v x.s []).length =0)
def fOk (g:Sch->Bool):Option ByteArray->List SFld->Bool
 | _,[]=>true
 | o,x::r=>Cn x.nm&&Ih o x.nm&&g x.s&&decide (x.df.length<=1)&&A8w x&&fOk g (some x.nm) r
def Hf (s:Sch):Bool:=decide (s.key=Ar)&&decide (s.it.length=0)&&decide (s.f.length=0)
def Aou (s:Sch)(m:Int):Bool:=decide (0<=s.mn)&&decide (s.mn<=s.mx)&&decide (s.mx<=m)
def Afs (s:Sch):Bool:=decide (s.key=Ar)||(match s.it with | t::_=>decide (t.k=5)&&(t.fld s.key).isSome &&((t.fld s.key).getD Oj).rq &&decide (((t.fld s.key).getD Oj).s.k =3) | []=>false)
def B9:Nat->Sch->Bool
 | 0,_=>false
 | d+1,s=>
  if s.k=1 then Hf s&&decide (s.mn=0)&&decide (s.mx=0)&&decide (s.en.length=0)
  else if s.k=2 then Hf s&&decide (-1000000000000000<=s.mn)&&decide (s.mn<=s.mx)&&decide (s.mx<=1000000000000000)&&decide (s.en.length=0)
  else if s.k=3 then Hf s&&Aou s 200&&Avu s.mn s.mx none s.en&&decide (s.en.length<=64)
  else if s.k=4 then Aou s 64&&decide (s.en.length=0)&&decide (s.f.length=0)&&decide (s.it.length=1)&&Afs s&&s.it.all (B9 d)
  else if s.k=5 then decide (s.mn=0)&&decide (s.mx=0)&&decide (s.en.length=0)&&decide (s.key=Ar)&&decide (s.it.length<=1)&&(decide (s.it.length=0)||decide (s.f.length=0))&&decide (s.f.length<=64)&&s.it.all (B9 d)&&fOk (B9 d) none s.f
  else false
def valid (s:Sch):Bool:=B9 12 s
theorem Ag1 {g:Sch->Bool} : ∀ {l:List SFld} {o:Option ByteArray},fOk g o l=true-> ∀x∈l,Cn x.nm=true/\g x.s=true/\x.df.length<=1/\A8w x=true
 | [],_,_,x,a=>by simp at a
 | y::r,o,h,x,a=>by
  simp only[fOk,aM,decide_eq_true_eq]at h
  rcases bJ.1 a with rfl | a
  ·exact⟨h.1.1.1.1.1,h.1.1.1.2,h.1.1.2,h.1.2⟩
  ·exact Ag1 h.2 x a
theorem Gd: ∀ (d:Nat) (s:Sch),B9 d s=true->SB s
 | 0,s,h=>by simp[B9]at h
 | d+1,s,h=>by
  have leaf:s.k≠4->Hf s=true->SB s:=λg h=>by
   simp only[Hf,aM,decide_eq_true_eq]at h
   have a:s.it= []:=aU.1 h.1.2
   have b:s.f= []:=aU.1 h.2
   exact .mk s (by omega) (λe=>absurd a e) (λe=>absurd e g) (by simp[a]) (by simp[b])
  unfold B9 at h
  split at h
  ·simp only[aM]at h;exact leaf (by omega) h.1.1.1
  ·split at h
   ·simp only[aM]at h;exact leaf (by omega) h.1.1.1.1
   ·split at h
    ·simp only[aM]at h;exact leaf (by omega) h.1.1.1
    ·split at h
     ·simp only[aM,decide_eq_true_eq,bM]at h
      have b:s.f= []:=aU.1 h.1.1.1.2
      exact .mk s (by omega) (λ_=>b) (λ_=>h.1.1.2) (λx c=>Gd d x (h.2 x c)) (by simp[b])
     ·split at h
      ·simp only[aM,decide_eq_true_eq,bM,eC]at h
       refine .mk s h.1.1.1.1.2 (λe=>?_) (λe=>by omega) (λx c=>Gd d x (h.1.2 x c)) (λp hp=>Gd d p.s (Ag1 h.2 p hp).2.1)
       rcases h.1.1.1.2 with a | a
       ·exact absurd (aU.1 a) e
       ·exact aU.1 a
      ·cases h
def Oe (l:List SFld):Nat->Option ByteArray
 | 0=>none
 | i+1=>(l[i]?).map (·.nm)
def Q2 (l:List ByteArray):Nat->Option ByteArray
 | 0=>none
 | i+1=>l[i]?
theorem Afk (s:Sch):W Bbi 0 [s.enc]=some [.bool (Hf s)]:=by
 rw[Awl]
 simp only[eK,eB,dH,bY,aF,aA,fQ,aX,aR,Az,Am,De]
 congr 3
 unfold Hf
 rw[aS]
 simp[and_assoc]
theorem Yd (s:Sch)(m:s.Aw<=1048576): ∀ (n i:Nat),i+n=s.en.length->
  W A80 1 [.int i,s.enc]=some [.bool (Avu s.mn s.mx (Q2 s.en i) (s.en.drop i)&&(Hf s&&Aou s 200&&decide (s.en.length<=64)))]
 | 0,i,h=>by
  have o: ¬ i<s.en.length:=by omega
  rw[Aji,aE (by omega)]
  simp only[dW,bY,aF,aA,bB,Aj,o,Ze,aR,aB,Zf,Afk,bH,dJ,dK,fF,eQ,Az,Am]
  congr 3
  unfold Aou Avu
  rw[aS]
  simp[and_assoc]
  omega
 | n+1,i,h=>by
  have a:i<s.en.length:=by omega
  have t:=s.Lf
  have q:=A8 (i:=i) (by omega)
  have j:=Yd s m n (i+1) (by omega)
  have u:=Sch.Auj (aK a)
  have c:Q2 s.en (i+1)=some s.en[i]:=by simp[Q2,a]
  rw[c]at j
  rw[Aji,aD a]
  simp only[Avu,dW,bY,aF,aA,bB,Aj,a,Zd,aR,Zt,cD,aH,aG,aJ,aC a,aI,dF,Aul s.en[i] (by omega),bH,cT,dJ,dK,cX,bR,q,j]
  generalize (Hf s&&Aou s 200&&decide (s.en.length<=64))=R
  cases i with
  | zero=>
   simp only[Q2,Ih]
   by_cases d:s.mn<=(s.en[0].size :Int)<;>by_cases e:(s.en[0].size :Int)<=s.mx<;>cases Iz s.en[0]<;>simp[d,e,gO.2,gP.1]
  | succ i=>
   have b:i<s.en.length:=by omega
   have g:IntKind.i64.wrap (((i+1:Nat):Int) - 1)=i:=by rw[wrap64 (by omega) (by omega)];omega
   have hp:(0:Int)<((i+1:Nat):Int):=by omega
   simp only[Q2,aC b,Ih,fP,g,hp,Zd,Zt,aH,aG,aI,aA,Abd]
   by_cases d:s.mn<=(s.en[i+1].size :Int)<;>by_cases e:(s.en[i+1].size :Int)<=s.mx<;>cases Iz s.en[i+1]<;>cases r:blt s.en[i] s.en[i+1]<;>simp[d,e,gO.2,gP.1,aC b,Abd,r, -O.Agi]
theorem Sy (d:Nat)(s:Sch)(hd:d<=12)(M:s.Aw<=1048576)(L: ∀p∈s.f,W Avr 0 [p.s.enc,.int d]=some [.bool (B9 d p.s)]): ∀ (n i:Nat),i+n=s.f.length->
  W A6c 1 [.int ((d+1:Nat):Int),.int i,s.enc]=some [.bool (fOk (B9 d) (Oe s.f i) (s.f.drop i))]
 | 0,i,h=>by
  have q: ¬ i<s.f.length:=by omega
  rw[Al7,aE (by omega)]
  simp only[dH,bY,aF,aA,bB,Aj,q,Ze,aR,aB,Zf,fOk]
 | n+1,i,h=>by
  have e:i<s.f.length:=by omega
  have U:=s.A7
  have N:=A8 (i:=i) (by omega)
  have r:IntKind.i64.wrap (((d+1:Nat):Int) - 1)=(d:Int):=by rw[wrap64 (by omega) (by omega)];omega
  have X:=fT (aK e)
  have c:=Sy d s hd M L n (i+1) (by omega)
  have t:Oe s.f (i+1)=some s.f[i].nm :=by simp[Oe,e]
  rw[t]at c
  have Q:=L _ (aK e)
  -- the order
  have g: ∀ (K:IV->Option IV),((O.gt (.int i) (.int 0)).bind λu=>
    (cnd u (
      (O.sub .i64 (.int i) (.int 1)).bind λw=>
      (eO (.list (s.f.map cS)) w).bind λx=>
      (dU 0 x).bind λy=>
      (O.sLe (.str s.f[i].nm) y).bind λz=>
      some z) (some (.bool false))).bind K)=K (.bool (!Ih (Oe s.f i) s.f[i].nm)):=by
   intro K
   cases i with
   | zero=>simp[Oe,Ih]
   | succ j=>
    have R:j<s.f.length:=by omega
    have A:IntKind.i64.wrap (((j+1:Nat):Int) - 1)=j:=by rw[wrap64 (by omega) (by omega)];omega
    have hp:(0:Int)<((j+1:Nat):Int):=by omega
    simp only[Oe,aC R,aI,Ih,cX,hp,Zd,aA,aR,Zt,fP,A,cD,aH,aG,aJ,eF,Abd]
  have B:eO (.list (s.f.map cS)) (.int i)=some s.f[i].enc :=by
   simp only[cD,aH,Zt,aG,aJ,aC e,aI]
  rw[Al7,aD e]
  simp only[dH,bY,aF,aA,bB,Aj,e,Zd,aR,Zt,B,eF,fOk,Alk s.f[i].nm (by omega),bH,cT]
  simp only[g]
  simp only[eF,SFld.B5,fY,bH,cT,aR,fP,r,Q,bR,N,c,bY,aF,cX,aX,aA]
  cases Cn s.f[i].nm with
  | false=>simp
  | true=>
   cases Ih (Oe s.f i) s.f[i].nm with
   | false=>simp
   | true=>
    cases C:B9 d s.f[i].s with
    | false=>simp
    | true=>
     by_cases hlen:s.f[i].df.length <=1
     ·have a: ¬ (1:Int)<s.f[i].df.length :=by omega
      have E:=Gd d _ C
      unfold A8w
      by_cases q:s.f[i].df.length =1
      ·obtain⟨v,m⟩:=bX.1 q
       have S:=Sch.A2w (aK e) (show v∈s.f[i].df by rw[m];simp)
       have F:=Akh v (by omega) s.f[i].s E (by omega) [] (by simp) (by simp;omega)
       simp only[bQ]at F
       have G:=Qj v (by omega)
       rw[m]
       by_cases o:v.k=0
       ·simp[o]
       ·cases b:v.valid with
        | false=>simp[o,G,b]
        | true=>
         by_cases H:(Iw v s.f[i].s []).length =0
         ·simp[o,G,b,F,aU.1 H]
         ·have I:0<(Iw v s.f[i].s []).length :=fU H
          have J: ¬ Iw v s.f[i].s []= []:=λh=>H (by rw[h];rfl)
          simp[o,G,b,F,I,J]
      ·have T:s.f[i].df = []:=aU.1 (by omega)
       simp[T]
     ·have a:(1:Int)<s.f[i].df.length :=by omega
      simp[a,hlen]
theorem egL (mn mx:Int)(a b c:Nat):(if(if(if(if(if decide (mn<0)=true then true else decide (mx<mn))=true then true else decide ((64:Int)<mx))=true then true else decide ((0:Int)<(a:Int)))=true then true else decide ((0:Int)<(b:Int)))=true then true else !decide ((c:Int)=1))= !(decide (0<=mn)&&decide (mn<=mx)&&decide (mx<=64)&&decide (a=0)&&decide (b=0)&&decide (c=1)):=by
 rw[aS];simp;omega
theorem egS (mn mx:Int)(a b c:Nat)(k:Bool):(if(if(if(if(if(if(!decide (mn=0))=true then true else !decide (mx=0))=true then true else decide ((0:Int)<(a:Int)))=true then true else !k)=true then true else decide ((1:Int)<(b:Int)))=true then true else if decide ((b:Int)=1)=true then decide ((0:Int)<(c:Int)) else false)=true then true else decide ((64:Int)<(c:Int)))
  = !(decide (mn=0)&&decide (mx=0)&&decide (a=0)&&k&&decide (b<=1)&&(decide (b=0)||decide (c=0))&&decide (c<=64)):=by
 cases k
 ·simp
 ·rw[aS];simp;omega
theorem Rk: ∀ (d:Nat) (s:Sch),d<=12->s.Aw<=1048576->W Avr 0 [s.enc,.int d]=some [.bool (B9 d s)]
 | 0,s,hd,o=>by rw[Amb];simp[B9]
 | d+1,s,hd,o=>by
  have q: ¬ ((d+1:Nat):Int)=0:=by omega
  have r:IntKind.i64.wrap (((d+1:Nat):Int) - 1)=(d:Int):=by rw[wrap64 (by omega) (by omega)];omega
  have g: ∀t∈s.it,W Avr 0 [t.enc,.int d]=some [.bool (B9 d t)]:=λt b=>Rk d t (by omega) (by have:=fS b;omega)
  have u: ∀p∈s.f,W Avr 0 [p.s.enc,.int d]=some [.bool (B9 d p.s)]:=λp hp=>Rk d p.s (by omega) (by have:=fT hp;omega)
  rw[Amb]
  unfold B9
  simp only[aX,q,Ze,aA,aR,aB,Zf,gD,dJ,dK,dW,Afk,bH,eQ,bY,aF]
  by_cases k1:s.k=1
  ·simp only[k1,Zd,Zt,aA,aR,Az,Am]
   congr 3
   rw[aS];simp[and_assoc]
  ·by_cases k2:s.k=2
   ·simp only[k2,show ¬ (2:Int)=1 by omega,Zd,Ze,aB,Zf,Zt,aA,aR,Az,Am]
    congr 3
    rw[aS];simp[and_assoc]
   ·by_cases z:s.k=3
    ·have b:=Yd s o s.en.length 0 (by omega)
     simp only[aN,aP,Q2]at b
     simp only[z,show ¬ (3:Int)=1 by omega,show ¬ (3:Int)=2 by omega,Zd,Ze,aB,Zf,Zt,A0q,b,bH]
     congr 3
     generalize Avu s.mn s.mx none s.en=a
     cases a<;>cases Hf s<;>cases Aou s 200<;>simp
    ·by_cases A:s.k=4
     ·have w:W A7i 0 [s.enc,.int ((d+1:Nat):Int)]=some [.bool (Aou s 64&&decide (s.en.length=0)&&decide (s.f.length=0)&&decide (s.it.length=1)&&Afs s&&s.it.all (B9 d))]:=by
       rw[Axo]
       simp only[dJ,dK,dW,eB,dH,bY,aF,aA,bB,cX,eG,aR,Az,Am]
       have eg:(if(if(if(if(if decide (s.mn<0)=true then true else decide (s.mx<s.mn))=true then true else decide ((64:Int)<s.mx))=true then true else decide ((0:Int)<(s.en.length:Int)))=true then true else decide ((0:Int)<(s.f.length:Int)))=true then true else !decide ((s.it.length:Int)=1))= !(Aou s 64&&decide (s.en.length=0)&&decide (s.f.length=0)&&decide (s.it.length=1)):=by
        exact egL s.mn s.mx s.en.length s.f.length s.it.length
       rw[eg]
       cases i:(Aou s 64&&decide (s.en.length=0)&&decide (s.f.length=0)&&decide (s.it.length=1)) with
       | false=>simp
       | true=>
        simp only[aM,decide_eq_true_eq]at i
        obtain⟨t,b⟩:=bX.1 i.2
        have j:t∈s.it:=by rw[b];simp
        have C:=fS j
        have x:W A7i 1 [.int ((d+1:Nat):Int),s.enc]=some [.bool (B9 d t)]:=by
         rw[Aww]
         simp only[eB,b,bN,bQ,aA,cD,cR,Zt,cB,bO,fP,r,g t j,bH]
        have y:=Afn t s.key (by omega)
        simp only[aV,aB,Zf,eK,aA,gR,aR,x,b,bN,bQ,cD,cR,Zt,cB,bO,y,fI,gD,gV,SFld.Cb,eG,cT,Az,Am,bU,cH,cK,bI,Afs,De]
        by_cases c:s.key=Ar
        ·simp[c]
        ·by_cases E:t.k=5<;>by_cases F:((t.fld s.key).getD Oj).s.k =3<;>cases(t.fld s.key).isSome<;>cases((t.fld s.key).getD Oj).rq<;>simp[c,E,F]
      simp only[A,show ¬ (4:Int)=1 by omega,show ¬ (4:Int)=2 by omega,show ¬ (4:Int)=3 by omega,Zd,Ze,aB,Zf,Zt,w,bH]
     ·by_cases B:s.k=5
      ·have e:=Sy d s (by omega) o u s.f.length 0 (by omega)
       simp only[aN,aP,Oe]at e
       have w:W A6c 0 [s.enc,.int ((d+1:Nat):Int)]=some [.bool (decide (s.mn=0)&&decide (s.mx=0)&&decide (s.en.length=0)&&decide (s.key=Ar)&&decide (s.it.length<=1)&&(decide (s.it.length=0)||decide (s.f.length=0))&&decide (s.f.length<=64)&&s.it.all (B9 d)&&fOk (B9 d) none s.f)]:=by
        rw[Av8]
        simp only[dJ,dK,dW,eK,eB,dH,bY,aF,aA,gR,cX,aX,eG,aR,Az,Am,De]
        have eg:(if(if(if(if(if(if(!decide (s.mn=0))=true then true else !decide (s.mx=0))=true then true else decide ((0:Int)<(s.en.length:Int)))=true then true else !decide (s.key=Ar))=true then true else decide ((1:Int)<(s.it.length:Int)))=true then true else if decide ((s.it.length:Int)=1)=true then decide ((0:Int)<(s.f.length:Int)) else false)=true then true else decide ((64:Int)<(s.f.length:Int)))
          = !(decide (s.mn=0)&&decide (s.mx=0)&&decide (s.en.length=0)&&decide (s.key=Ar)&&decide (s.it.length<=1)&&(decide (s.it.length=0)||decide (s.f.length=0))&&decide (s.f.length<=64)):=by
         exact egS s.mn s.mx s.en.length s.it.length s.f.length _
        rw[eg]
        cases i:(decide (s.mn=0)&&decide (s.mx=0)&&decide (s.en.length=0)&&decide (s.key=Ar)&&decide (s.it.length<=1)&&(decide (s.it.length=0)||decide (s.f.length=0))&&decide (s.f.length<=64)) with
        | false=>simp
        | true=>
         simp only[aM,eC,decide_eq_true_eq]at i
         by_cases G:s.it.length=1
         ·obtain⟨t,b⟩:=bX.1 G
          have H:s.f= []:=by
           rcases i.1.2 with h | h
           ·omega
           ·exact aU.1 h
          have I:=g t (by rw[b];simp)
          have m:IntKind.i64.wrap (d:Int)=(d:Int):=wrap64 (by omega) (by omega)
          simp[b,H,m,I,fOk]
         ·have J:s.it= []:=aU.1 (by omega)
          push_cast at e
          simp[J,e]
       simp only[B,show ¬ (5:Int)=1 by omega,show ¬ (5:Int)=2 by omega,show ¬ (5:Int)=3 by omega,show ¬ (5:Int)=4 by omega,Zd,Ze,aB,Zf,Zt,w,bH]
      ·simp only[k1,k2,z,A,B,Ze,aB,Zf]
theorem R7 (s:Sch)(a:s.Aw<=1048576):W Bad 0 [s.enc]=some [.bool s.valid]:=by
 rw[Awm]
 have:W Avr 0 [s.enc,.int 12]=some [.bool s.valid]:=Rk 12 s (by omega) a
 simp only[this,bH]
end Go.CT.Sch
namespace Go.CT.Sch
open Go.Proofs
theorem Ahy (nm:ByteArray):(Azh [(nm,Bc)]).valid =Cn nm:=by
 have a:Xh [(nm,Bc)]= [(nm,Bc)]:=Asx (cF _ _)
 unfold Azh
 rw[a]
 unfold fL
 have b:Bu 11 Bc=true:=by decide
 simp only[Bu,Val.Bc5,Val.n_mk,hI,hJ,hK,Gk,bU,cH,b,rising,Val.size,Cd,Br,Bc]
 simp
theorem Az6 (nm:ByteArray)(t:nm.size<=1048576)(K:IV->Option (List IV)):(O.Bg [.str nm,(.int 0),(.int 0),(.str ⟨#[]⟩),(.list []),(.list [])]).bind (λo=>
  (O.Bn [o]).bind λq=>
  calls (W F36 0 [q]) 5 λb c d g h=>
  (O.Bg [b,c,d,g,h]).bind λi=>
  calls (W F21 0 [i]) 1 K)=K (.bool (Cn nm)):=by
 have e:IV.agg [.str nm,(.int 0),(.int 0),(.str ⟨#[]⟩),(.list []),(.list [])]=bG (nm,Bc):=rfl
 have a:Dl [(nm,Bc)]<=4294967200:=by
  rw[C6,C5,hB]
  simp only[Bc,hI,hJ,hK,Hh,C5,show Ar.size=0 from rfl];omega
 have j:=Atd [(nm,Bc)] a
 have r:(Azh [(nm,Bc)]).Aw <=1099511627776:=by have:=Atp [(nm,Bc)];omega
 have m:=Hn _ r
 rw[Ahy]at m
 rw[eI]at j
 simp only[bN,bQ]at j
 simp only[fB,fR,aA,e,j,gS,hC,m,bH]
theorem Aox (s:Sch)(m:Int):W F18 0 [s.enc,.int m]=some [.bool (Aou s m)]:=by
 rw[A30]
 simp only[dJ,dK,eQ,aA,aR,Az,Am]
 congr 3
 unfold Aou
 rw[aS];simp[and_assoc]
theorem Aek (s:Sch)(x:s.Aw<=1048576): ∀ (n i:Nat),i+n=s.en.length->
  W F19 1 [.list (s.en.map .str),.int s.en.length,.int i,s.enc]=some [.bool (Avu s.mn s.mx (Q2 s.en i) (s.en.drop i)&&decide (s.en.length<=64))]
 | 0,i,h=>by
  have y: ¬ i<s.en.length:=by omega
  rw[Ar8,aE (by omega)]
  simp only[dW,bY,aF,aA,bB,Aj,y,Ze,aR,aB,Zf,eQ,Avu,bI]
  congr 3
  rw[aS];simp;omega
 | n+1,i,h=>by
  have a:i<s.en.length:=by omega
  have E:=s.Lf
  have z:=A8 (i:=i) (by omega)
  have u:=Aek s x n (i+1) (by omega)
  have F:=Sch.Auj (aK a)
  have c:Q2 s.en (i+1)=some s.en[i]:=by simp[Q2,a]
  rw[c]at u
  have e:IV.agg [.int 3,.int 0,.str s.en[i],.list [],.list []]=bS ⟨3,0,s.en[i],[],[]⟩:=rfl
  have w:=Hn ⟨3,0,s.en[i],[],[]⟩ (by rw[hB];simp[Hh,C5];omega)
  rw[Aer]at w
  have d:eO (.list (s.en.map .str)) (.int i)=some (.str s.en[i]):=by
   simp only[cD,aH,Zt,aG,aJ,aC a,aI]
  have b: ∀ (K:IV->Option IV),((O.gt (.int i) (.int 0)).bind λg=>
    (cnd g (
     (dU 3 s.enc).bind λm=>
     (O.sub .i64 (.int i) (.int 1)).bind λo=>
     (eO m o).bind λq=>
     (O.sGe q (.str s.en[i])).bind λr=>
     some r) (some (.bool false))).bind K)=K (.bool (!Ih (Q2 s.en i) s.en[i])):=by
   intro K
   cases i with
   | zero=>simp[Q2,Ih]
   | succ j=>
    have A:j<s.en.length:=by omega
    have t:IntKind.i64.wrap (((j+1:Nat):Int) - 1)=j:=by rw[wrap64 (by omega) (by omega)];omega
    have hp:(0:Int)<((j+1:Nat):Int):=by omega
    simp only[dW,Q2,aC A,aI,Ih,cX,hp,Zd,aA,aR,Zt,fP,t,cD,aH,aG,aJ,Py]
  rw[Ar8,aD a]
  simp only[Avu,aA,bB,Aj,a,Zd,aR,Zt,d]
  simp only[b]
  simp only[dF,dJ,dK,aA,bB,cX,aR,Ar4,gS,fB,e,w,bH,cT,bR,z,u]
  by_cases B:s.mn<=(s.en[i].size :Int)<;>by_cases C:(s.en[i].size :Int)<=s.mx<;>cases Iz s.en[i]<;>cases Ih (Q2 s.en i) s.en[i]<;>simp[B,C,gO.2,gP.1]
theorem A50 (s:Sch)(a:s.Aw<=1048576):W F19 0 [s.enc]=some [.bool (Avu s.mn s.mx none s.en&&decide (s.en.length<=64))]:=by
 have h:=Aek s a s.en.length 0 (by omega)
 simp only[aN,aP,Q2]at h
 rw[A8v]
 simp only[dW,bY,aF,aA]
 exact h
theorem Axs (s t:Sch)(q:s.Aw<=1048576)(m:s.it= [t])(a:SB t):W F27 0 [s.enc]=some [.bool (Afs s)]:=by
 have o:=fS (show t∈s.it by rw[m];simp)
 have b:=Aie t s.key (by omega)
 rw[A7p]
 unfold Afs
 simp only[eB,m,bN,bQ,cD,cR,Zt,cB,bO,aA,eK,b,fI,fQ,aR,gV,SFld.Cb,aX,Az,Am,De]
 congr 3
 by_cases c:s.key=Ar
 ·simp[c]
 ·by_cases d:t.k=5
  ·by_cases g:t.it.length=0
   ·cases(t.fld s.key).isSome<;>cases h:((t.fld s.key).getD Oj).rq<;>simp[c,d,g,h]
   ·have i:t.f= []:=a.nof λe=>g (by rw[e];rfl)
    have j:t.fld s.key=none:=by unfold Sch.fld;rw[i];rfl
    simp[c,d,g,j]
  ·simp[c,d]
theorem Wf (d:Nat)(s:Sch)(hd:d<=12)(t:s.Aw<=1048576)(i:Nat)(e:i<s.f.length)(a:SB s.f[i].s): ∀ (n j:Nat),j+n=s.f[i].df.length ->
  W F35 2 [.int d,.list (s.f.map cS),.int s.f.length,.int i,.list (s.f[i].df.map bS),.int s.f[i].df.length,.int j,s.enc,s.f[i].enc]
   =if((s.f[i].df.drop j).all λv=> !decide (v.k=0)&&v.valid&&decide ((Iw v s.f[i].s []).length =0))=true then W F35 1 [.int d,.list (s.f.map cS),.int s.f.length,.int ((i+1:Nat):Int),s.enc]else some [.bool false]
 | 0,j,h=>by
  have u: ¬ j<s.f[i].df.length :=by omega
  have w:=s.A7
  have g:=A8 (i:=i) (by omega)
  rw[Atn,aE (by omega)]
  simp only[bB,Aj,u,Ze,aA,aR,aB,Zf,bR,g,cH,Zt]
 | n+1,j,h=>by
  have b:j<s.f[i].df.length :=by omega
  have w:=fT (aK e)
  have B:=Et (fM (f:=bS) (aK b))
  have x:=Sch.A2w (aK e) (aK b)
  have hlen:s.f[i].df.length <=Eg s.f[i].df :=by have:=Dg (s.f[i].df.map bS);rw[aF]at this;exact this
  have g:=A8 (i:=j) (by omega)
  have y:=Wf d s hd t i e a n (j+1) (by omega)
  have z:=Hn s.f[i].df[j] (by omega)
  have A:=Aey s.f[i].df[j] (by omega) s.f[i].s a (by omega)
  rw[Atn,aD b,bU]
  simp only[bB,Aj,b,Zd,aA,aR,Zt,cD,aH,aG,aJ,aC b,aI,dN,aX,z,bH,cT,fY,A,bY,cX,bR,g,y]
  by_cases c:s.f[i].df[j].k =0
  ·simp[c]
  ·cases r:s.f[i].df[j].valid with
   | false=>simp[c]
   | true=>
    by_cases m:(Iw s.f[i].df[j] s.f[i].s []).length =0
    ·simp[c,aU.1 m]
    ·have o:0<(Iw s.f[i].df[j] s.f[i].s []).length :=fU m
     have q: ¬ Iw s.f[i].df[j] s.f[i].s []= []:=λh=>m (by rw[h];rfl)
     simp[c,o,q]
theorem V3 (d:Nat)(s:Sch)(hd:d<=12)(z:s.Aw<=1048576)(A: ∀p∈s.f,W F17 0 [p.s.enc,.int d]=some [.bool (B9 d p.s)]): ∀ (n i:Nat),i+n=s.f.length->
  W F35 1 [.int d,.list (s.f.map cS),.int s.f.length,.int i,s.enc]=some [.bool (fOk (B9 d) (Oe s.f i) (s.f.drop i))]
 | 0,i,h=>by
  have C: ¬ i<s.f.length:=by omega
  rw[Aqy,aE (by omega)]
  simp only[bB,Aj,C,Ze,aA,aR,aB,Zf,fOk]
 | n+1,i,h=>by
  have c:i<s.f.length:=by omega
  have G:=s.A7
  have H:=fT (aK c)
  have b:=V3 d s hd z A n (i+1) (by omega)
  have g:Oe s.f (i+1)=some s.f[i].nm :=by simp[Oe,c]
  rw[g]at b
  have E:=A _ (aK c)
  have m:eO (.list (s.f.map cS)) (.int i)=some s.f[i].enc :=by
   simp only[cD,aH,Zt,aG,aJ,aC c,aI]
  have e: ∀ (K:IV->Option IV),((O.gt (.int i) (.int 0)).bind λo=>
    (cnd o (
      (dU 6 s.enc).bind λq=>
      (O.sub .i64 (.int i) (.int 1)).bind λr=>
      (eO q r).bind λt=>
      (dU 0 t).bind λu=>
      (O.sGe u (.str s.f[i].nm)).bind λw=>
      some w) (some (.bool false))).bind K)=K (.bool (!Ih (Oe s.f i) s.f[i].nm)):=by
   intro K
   cases i with
   | zero=>simp[Oe,Ih]
   | succ j=>
    have F:j<s.f.length:=by omega
    have x:IntKind.i64.wrap (((j+1:Nat):Int) - 1)=j:=by rw[wrap64 (by omega) (by omega)];omega
    have hp:(0:Int)<((j+1:Nat):Int):=by omega
    simp only[dH,Oe,aC F,aI,Ih,cX,hp,Zd,aA,aR,Zt,fP,x,cD,aH,aG,aJ,eF,Py]
  rw[Aqy,aD c]
  simp only[bB,Aj,c,Zd,aA,aR,Zt,m,eF,fOk]
  rw[Az6 s.f[i].nm (by omega)]
  simp only[cT,aA]
  simp only[e]
  simp only[SFld.B5,fY,bH,cT,aR,E,bY,aF,cX,aA]
  cases Cn s.f[i].nm with
  | false=>simp
  | true=>
   cases Ih (Oe s.f i) s.f[i].nm with
   | false=>simp
   | true=>
    cases y:B9 d s.f[i].s with
    | false=>simp
    | true=>
     by_cases hlen:s.f[i].df.length <=1
     ·have a: ¬ (1:Int)<s.f[i].df.length :=by omega
      have B:=Wf d s hd z i c (Gd d _ y) s.f[i].df.length 0 (by omega)
      simp only[aN,aP,b]at B
      simp only[aV,aB,Zf,a,Ze,aA,aR,B,A8w,hlen,Zd,bI]
      cases(s.f[i].df.all λv=> !decide (v.k=0)&&v.valid&&decide ((Iw v s.f[i].s []).length =0))<;>simp
     ·have a:(1:Int)<s.f[i].df.length :=by omega
      simp[a,hlen]
theorem A0u (d:Nat)(s:Sch)(hd:d<=12)(o:s.Aw<=1048576)(e:s.it.length<=1)(g: ∀t∈s.it,W F17 0 [t.enc,.int d]=some [.bool (B9 d t)]):
  W F32 0 [.list (s.it.map gX),.int ((d+1:Nat):Int)]=some [.bool (!s.it.all (B9 d))]:=by
 have c:IntKind.i64.wrap (((d+1:Nat):Int) - 1)=(d:Int):=by rw[wrap64 (by omega) (by omega)];omega
 rw[A6m,A7w]
 cases a:s.it with
 | nil=>
  simp only[bQ,bY,aZ,aA,aN]
  rw[Ahg]
  simp
 | cons t r=>
  have h:r= []:=by rw[a]at e;simpa using e
  subst h
  have i:=g t (by rw[a];simp)
  have j:W F34 0 [t.enc,.int ((d+1:Nat):Int)]=some [.bool (!B9 d t)]:=by
   rw[A56]
   simp only[fP,c,aA,i,bH,cT]
  have m:IntKind.i64.wrap (0+1)=1:=by decide
  simp only[bN,bQ,bY,bA,aZ,gW,aN,aA]
  rw[Ahg]
  simp only[bB,show(0:Int)<1 by omega,Zd,aA,aR,Zt,cD,cR,cB,bO,j,bH,bR,m]
  cases b:B9 d t with
  | true=>
   simp only[aV,aB,Zf]
   rw[Ahg]
   simp[b]
  | false=>simp[b]
theorem egP (k:Int)(a b c:Nat)(e:Bool):(if(if(if(if(!decide (k=3))=true then decide ((0:Int)<(a:Int)) else false)=true then true else if(!decide (k=4))=true then !e else false)=true then true else if(!decide (k=5))=true then decide ((0:Int)<(b:Int)) else false)=true then true else if(if(!decide (k=5))=true then !decide (k=4) else false)=true then decide ((0:Int)<(c:Int)) else false)
  = !(decide (k=3\/a=0)&&(decide (k=4)||e)&&decide (k=5\/b=0)&&decide (k=5\/k=4\/c=0)):=by
 cases e
 ·by_cases d:k=4
  ·rw[aS];simp[d];omega
  ·simp[d]
 ·rw[aS];simp;omega
theorem egM (mn mx:Int)(b c:Nat):(if(if(if(if(!decide (mn=0))=true then true else !decide (mx=0))=true then true else decide ((1:Int)<(b:Int)))=true then true else if decide ((b:Int)=1)=true then decide ((0:Int)<(c:Int)) else false)=true then true else decide ((64:Int)<(c:Int)))
  = !(decide (mn=0)&&decide (mx=0)&&decide (b<=1)&&(decide (b=0)||decide (c=0))&&decide (c<=64)):=by
 rw[aS];simp;omega
theorem Wd: ∀ (d:Nat) (s:Sch),d<=12->s.Aw<=1048576->W F17 0 [s.enc,.int d]=some [.bool (B9 d s)]
 | 0,s,hd,r=>by rw[As5];simp[B9]
 | d+1,s,hd,r=>by
  have B: ¬ ((d+1:Nat):Int)=0:=by omega
  have u:IntKind.i64.wrap (((d+1:Nat):Int) - 1)=(d:Int):=by rw[wrap64 (by omega) (by omega)];omega
  have w: ∀t∈s.it,W F17 0 [t.enc,.int d]=some [.bool (B9 d t)]:=λt x=>Wd d t (by omega) (by have:=fS x;omega)
  have C: ∀p∈s.f,W F17 0 [p.s.enc,.int d]=some [.bool (B9 d p.s)]:=λp hp=>Wd d p.s (by omega) (by have:=fT hp;omega)
  have y:=V3 d s (by omega) r C s.f.length 0 (by omega)
  simp only[aN,aP,Oe]at y
  have z:W F35 0 [s.enc,.int d]=some [.bool (fOk (B9 d) none s.f)]:=by
   rw[A4y]
   simp only[dH,bY,aF,aA]
   exact y
  rw[As5]
  unfold B9
  simp only[aX,eG,B,Ze,aA,aR,aB,Zf,gD,dW,eK,eB,dH,bY,aF,cX,gR,Az,Am,De,egP]
  cases e:(decide (s.k=3\/s.en.length=0)&&(decide (s.k=4)||decide (s.key=Ar))&&decide (s.k=5\/s.f.length=0)&&decide (s.k=5\/s.k=4\/s.it.length=0)) with
  | false=>
   simp only[aY,Zt]
   by_cases k1:s.k=1
   ·simp only[k1,Zt,Hf]
    simp[k1]at e
    congr 3
    rw[eq_comm,cW]
    intro h
    simp at h
    simp[h]at e
   ·by_cases k2:s.k=2
    ·simp only[k2,show ¬ (2:Int)=1 by omega,Zf,Zt,Hf]
     simp[k2]at e
     congr 3
     rw[eq_comm,cW]
     intro h
     simp at h
     simp[h]at e
    ·by_cases i:s.k=3
     ·simp only[i,show ¬ (3:Int)=1 by omega,show ¬ (3:Int)=2 by omega,Zf,Zt,Hf]
      simp[i]at e
      congr 3
      rw[eq_comm,cW]
      intro h
      simp at h
      simp[h]at e
     ·by_cases j:s.k=4
      ·simp only[j,show ¬ (4:Int)=1 by omega,show ¬ (4:Int)=2 by omega,show ¬ (4:Int)=3 by omega,Zf,Zt]
       simp[j]at e
       congr 3
       rw[eq_comm,cW]
       intro h
       simp at h
       simp[h]at e
      ·by_cases q:s.k=5
       ·simp only[q,show ¬ (5:Int)=1 by omega,show ¬ (5:Int)=2 by omega,show ¬ (5:Int)=3 by omega,show ¬ (5:Int)=4 by omega,Zf,Zt]
        simp[q]at e
        congr 3
        rw[eq_comm,cW]
        intro h
        simp at h
        simp[h]at e
       ·simp[k1,k2,i,j,q]
  | true=>
   simp only[aM,eC,decide_eq_true_eq]at e
   obtain⟨⟨⟨g,b⟩,c⟩,a⟩:=e
   simp only[aV,aB,Zf,dJ,dK,aA,aX,eQ,eG,aR,Aox,A50 s r,bH,Az,Am]
   by_cases k1:s.k=1
   ·simp only[k1,Zd,Zt,Hf]
    rcases g with g | g
    ·omega
    ·rcases b with b | b
     ·omega
     ·rcases c with c | c
      ·omega
      ·rcases a with a | a | a
       ·omega
       ·omega
       ·simp only[g,b,c,a,Zd,bI,cK]
        congr 3
        rw[aS];simp
   ·by_cases k2:s.k=2
    ·simp only[k2,show ¬ (2:Int)=1 by omega,Ze,aB,Zf,Zd,Zt,Hf]
     rcases g with g | g
     ·omega
     ·rcases b with b | b
      ·omega
      ·rcases c with c | c
       ·omega
       ·rcases a with a | a | a
        ·omega
        ·omega
        ·simp only[g,b,c,a,Zd,bI,cK]
         congr 3
         rw[aS];simp[and_assoc]
    ·by_cases i:s.k=3
     ·simp only[i,show ¬ (3:Int)=1 by omega,show ¬ (3:Int)=2 by omega,Ze,aB,Zf,Zd,Zt,Hf]
      rcases b with b | b
      ·omega
      ·rcases c with c | c
       ·omega
       ·rcases a with a | a | a
        ·omega
        ·omega
        ·simp only[b,c,a,Zd,bI,cK]
         cases Aou s 200<;>simp
     ·by_cases j:s.k=4
      ·have m:s.en.length=0:=by rcases g with h | h;exact absurd h i;exact h
       have E:s.f.length=0:=by rcases c with h | h;exact absurd h (by omega);exact h
       simp only[j,show ¬ (4:Int)=1 by omega,show ¬ (4:Int)=2 by omega,show ¬ (4:Int)=3 by omega,Ze,aB,Zf,Zd,Zt,m,E,cK]
       cases Aou s 64 with
       | false=>simp
       | true=>
        by_cases I:s.it.length=1
        ·obtain⟨t,x⟩:=bX.1 I
         have F:=w t (by rw[x];simp)
         have o:(s.it.length:Int)=1:=by omega
         simp only[Zt,o,Zd,x,bN,bQ,cD,cR,cB,bO,aA,fP,u,F,bH,aR,bU,cH,cK,bI,bA,aZ]
         cases G:B9 d t with
         | false=>simp
         | true=>
          have J:=Axs s t r x (Gd d t G)
          simp[J]
        ·have o: ¬ (s.it.length:Int)=1:=by omega
         simp[I,o]
      ·by_cases q:s.k=5
       ·have m:s.en.length=0:=by rcases g with h | h;exact absurd h i;exact h
        have H:s.key=Ar:=by rcases b with h | h;exact absurd h j;exact h
        simp only[q,show ¬ (5:Int)=1 by omega,show ¬ (5:Int)=2 by omega,show ¬ (5:Int)=3 by omega,show ¬ (5:Int)=4 by omega,Ze,aB,Zf,Zd,Zt,m,H,cK]
        have eg:=egM s.mn s.mx s.it.length s.f.length
        rw[eg]
        cases A:(decide (s.mn=0)&&decide (s.mx=0)&&decide (s.it.length<=1)&&(decide (s.it.length=0)||decide (s.f.length=0))&&decide (s.f.length<=64)) with
        | false=>simp
        | true=>
         simp only[aM,eC,decide_eq_true_eq]at A
         have F:=A0u d s (by omega) r A.1.1.2 w
         simp only[aV,aB,Zf,F,bH,cT,gU,aA,aR,fP,u,z,Az,Am,bI]
         cases s.it.all (B9 d)<;>simp
       ·simp only[k1,k2,i,j,q,Ze,aB,Zf]
theorem Q7 (s:Sch)(a:s.Aw<=1048576):W F16 0 [s.enc]=some [.bool s.valid]:=by
 rw[A8d]
 have:W F17 0 [s.enc,.int 12]=some [.bool s.valid]:=Wd 12 s (by omega) a
 simp only[this,bH]
end Go.CT.Sch
namespace Go.CT.Sch
open Go.Proofs
theorem Dn (d:Nat)(v:Val):Bu (d+1) v=true↔Gk v=true/\(v.l.length<=64/\v.f.length<=64/\(v.k≠4->v.l= [])/\(v.k≠5->v.f= []))/\(∀x∈v.l,Bu d x=true)/\(∀p∈v.f,Cn p.1=true/\Bu d p.2=true)/\rising v.f=true:=by
 rw[Bu]
 simp only[aM,bM,decide_eq_true_eq]
 constructor
 ·rintro⟨⟨⟨⟨a,b⟩,c⟩,d⟩,e⟩;exact⟨a,b,c,d,e⟩
 ·rintro⟨a,b,c,d,e⟩;exact⟨⟨⟨⟨a,b⟩,c⟩,d⟩,e⟩
theorem K7: ∀ (d:Nat) (v:Val),Bu d v=true->Bu (d+1) v=true
 | 0,v,h=>by simp[Bu]at h
 | d+1,v,h=>by
  rw[Dn]at h ⊢
  exact⟨h.1,h.2.1,λx a=>K7 d x (h.2.2.1 x a),λp hp=>⟨(h.2.2.2.1 p hp).1,K7 d p.2 (h.2.2.2.1 p hp).2⟩,h.2.2.2.2⟩
theorem Hv (v:Val):v.valid=true↔Bu 12 v=true/\v.size<=600:=by
 unfold fL;simp only[aM,decide_eq_true_eq]
theorem Z8 {v x:Val}(h:v.valid=true)(a:x∈v.l):x.valid=true:=by
 rw[Hv]at h ⊢
 have b:=(Dn 11 v).1 h.1
 have:=Val.Acp a
 exact⟨K7 11 x (b.2.2.1 x a),by omega⟩
theorem Mt {v:Val}{p:ByteArray × Val}(h:v.valid=true)(hp:p∈v.f):p.2.valid=true/\Cn p.1=true:=by
 rw[Hv]at h ⊢
 have a:=(Dn 11 v).1 h.1
 have:=Val.Acd hp
 exact⟨⟨K7 11 p.2 (a.2.2.2.1 p hp).2,by omega⟩,(a.2.2.2.1 p hp).1⟩
theorem Lv: ∀l:List (ByteArray × Val),rising l=true->Hg l
 | [],_=>cQ
 | [_],_=>cF _ _
 | p::q::r,h=>by
  simp only[rising,aM]at h
  have b:=Lv (q::r) h.2
  refine bC.2 ⟨λy a=>?_,b⟩
  rcases bJ.1 a with rfl | a
  ·exact h.1
  ·exact Gc h.1 ((bC.1 b).1 y a)
theorem Adk {v:Val}(h:v.valid=true):Hg v.f:=by
 rw[Hv]at h
 exact Lv _ ((Dn 11 v).1 h.1).2.2.2.2
theorem Qe {v:Val}(h:v.valid=true)(a:v.k≠5):v.f= []:=by
 rw[Hv]at h
 exact((Dn 11 v).1 h.1).2.1.2.2.2 a
theorem Uq {v:Val}(h:v.valid=true)(a:v.k≠4):v.l= []:=by
 rw[Hv]at h
 exact((Dn 11 v).1 h.1).2.1.2.2.1 a
theorem Apm {v:Val}(h:v.valid=true)(a:v.k=3):Iz v.s=true:=by
 rw[Hv]at h
 have:=((Dn 11 v).1 h.1).1
 unfold Gk at this
 rw[if_neg (by omega),if_neg (by omega),if_pos a]at this
 simp only[aM]at this
 exact this.2
theorem Af9 {l:List (ByteArray × Val)}(h:Hg l){p:ByteArray × Val}(hp:p∈l):l.find? (λq=>decide (q.1=p.1))=some p:=by
 induction l with
 | nil=>simp at hp
 | cons a l c=>
  have b:=bC.1 h
  rw[bV]
  rcases bJ.1 hp with rfl | hp
  ·simp
  ·have: ¬ a.1=p.1:=Oo (b.1 p hp)
   simp only[this,Ze]
   exact c b.2 hp
theorem get_of_mem {v:Val}(h:v.valid=true){p:ByteArray × Val}(hp:p∈v.f):v.get p.1=some p.2:=by
 have b:v.k=5:=by
  rcases Decidable.em (v.k=5) with a | a
  ·exact a
  ·rw[Qe h a]at hp;simp at hp
 unfold fX
 rw[if_pos b,Af9 (Adk h) hp];rfl
theorem Kz {v x:Val}{nm:ByteArray}(h:v.get nm=some x):(nm,x)∈v.f/\v.k=5:=by
 unfold fX at h
 split at h
 ·rename_i a
  rw[eX]at h
  obtain⟨p,hp,rfl⟩:=h
  have b:=cO hp
  have c:p.1=nm:=by simpa using gJ hp
  subst c;exact⟨b,a⟩
 ·cases h
theorem As4 {v x:Val}{nm:ByteArray}(h:v.valid=true)(a:v.get nm=some x):x.valid=true:=(Mt h (Kz a).1).1
theorem Aim {g a:Sch->Bool} : ∀ {l:List SFld} {o:Option ByteArray},(∀x∈l,g x.s=true->a x.s=true)->fOk g o l=true->fOk a o l=true
 | [],_,_,_=>rfl
 | y::r,o,b,h=>by
  simp only[fOk,aM]at h ⊢
  exact⟨⟨⟨⟨h.1.1.1.1,b y (by simp) h.1.1.1.2⟩,h.1.1.2⟩,h.1.2⟩,Aim (λx c=>b x (by simp[c])) h.2⟩
theorem Ll: ∀ (d:Nat) (s:Sch),B9 d s=true->B9 (d+1) s=true
 | 0,s,h=>by simp[B9]at h
 | d+1,s,h=>by
  rw[B9]at h ⊢
  split
  ·rename_i k1;rw[if_pos k1]at h;exact h
  ·rename_i k1;rw[if_neg k1]at h
   split
   ·rename_i k2;rw[if_pos k2]at h;exact h
   ·rename_i k2;rw[if_neg k2]at h
    split
    ·rename_i b;rw[if_pos b]at h;exact h
    ·rename_i b;rw[if_neg b]at h
     split
     ·rename_i c;rw[if_pos c]at h
      simp only[aM,bM]at h ⊢
      exact⟨h.1,λx a=>Ll d x (h.2 x a)⟩
     ·rename_i c;rw[if_neg c]at h
      split
      ·rename_i e;rw[if_pos e]at h
       simp only[aM,bM]at h ⊢
       exact⟨⟨h.1.1,λx a=>Ll d x (h.1.2 x a)⟩,Aim (λx _ a=>Ll d x.s a) h.2⟩
      ·rename_i e;rw[if_neg e]at h;cases h
theorem Aum {d:Nat}{s t:Sch}(h:B9 (d+1) s=true)(a:t∈s.it):B9 d t=true:=by
 have noit:Hf s=true->False:=λhp=>by
  simp only[Hf,aM,decide_eq_true_eq]at hp
  rw[aU.1 hp.1.2]at a;simp at a
 rw[B9]at h
 split at h
 ·simp only[aM]at h;exact(noit h.1.1.1).elim
 ·split at h
  ·simp only[aM]at h;exact(noit h.1.1.1.1).elim
  ·split at h
   ·simp only[aM]at h;exact(noit h.1.1.1).elim
   ·split at h
    ·simp only[aM,bM]at h;exact h.2 t a
    ·split at h
     ·simp only[aM,bM]at h;exact h.1.2 t a
     ·cases h
theorem Abe {d:Nat}{s:Sch}{p:SFld}(h:B9 (d+1) s=true)(hp:p∈s.f):s.k=5/\Cn p.nm=true/\B9 d p.s=true/\p.df.length<=1/\A8w p=true:=by
 have nof:s.f.length=0->False:=λa=>by
  rw[aU.1 a]at hp;simp at hp
 have nop:Hf s=true->False:=λa=>by
  simp only[Hf,aM,decide_eq_true_eq]at a
  exact nof a.2
 rw[B9]at h
 split at h
 ·simp only[aM]at h;exact(nop h.1.1.1).elim
 ·split at h
  ·simp only[aM]at h;exact(nop h.1.1.1.1).elim
  ·split at h
   ·simp only[aM]at h;exact(nop h.1.1.1).elim
   ·split at h
    ·simp only[aM,decide_eq_true_eq]at h;exact(nof h.1.1.1.2).elim
    ·split at h
     ·rename_i b
      simp only[aM]at h
      exact⟨b,Ag1 h.2 p hp⟩
     ·cases h
theorem Sch.Mt {s:Sch}{p:SFld}(h:s.valid=true)(hp:p∈s.f):p.s.valid=true:=Ll 11 p.s (Abe h hp).2.2.1
theorem Sch.Tx {s:Sch}(h:s.valid=true):SB s:=Gd 12 s h
end Go.CT.Sch
namespace Go.CT.Sch
open Go.Proofs
theorem A3x (s:Sch)(n:Int)(p q:List Stp):(W4 p s n).length =(W4 q s n).length :=by unfold W4;split<;>rfl
theorem Bac (key:ByteArray)(prev:List Val)(v:Val)(p q:List Stp):(Atg key prev v p).length =(Atg key prev v q).length :=by unfold Atg;split<;>rfl
theorem A2v (v:Val)(p q:List Stp): ∀l:List SFld,(l.flatMap (I9 v p)).length =(l.flatMap (I9 v q)).length
 | []=>rfl
 | d::l=>by
  have a:(I9 v p d).length =(I9 v q d).length :=by unfold I9;split<;>rfl
  simp only[cA,aO,a,A2v v p q l]
theorem A92: ∀ (v:Val) (s:Sch) (p q:List Stp),(Iw v s p).length =(Iw v s q).length :=by
 refine eD λv a b s p q=>?_
 have e: ∀ (l:List Val),(∀x∈l,∀s p q,(Iw x s p).length =(Iw x s q).length)-> ∀key t prev,(Km l key t p prev).length =(Km l key t q prev).length :=by
  intro l
  induction l with
  | nil=>intro _ key t prev;rw[Kv,Kv]
  | cons x l c=>
   intro h key t prev
   rw[Ia,Ia]
   simp only[aO]
   rw[h x (by simp) t (p++ [Gt key x prev.length]) (q++ [Gt key x prev.length]),Bac key prev x (p++ [Gt key x prev.length]) (q++ [Gt key x prev.length]),c (λy d=>h y (by simp[d])) key t (prev++ [x])]
 have g: ∀ (l:List (ByteArray × Val)),(∀x∈l,∀s p q,(Iw x.2 s p).length =(Iw x.2 s q).length)->(J7 l s p).length =(J7 l s q).length :=by
  intro l
  induction l with
  | nil=>intro _;rw[Js,Js]
  | cons x l c=>
   intro h
   have i:(Afw s p x).length =(Afw s q x).length :=by
    unfold Afw
    split
    ·rfl
    ·split
     ·rfl
     ·exact h x (by simp) _ _ _
   rw[H9,H9,aO,aO,i,c λy d=>h y (by simp[d])]
 rw[Kc v s p,Kc v s q]
 split
 ·split
  ·exact A3x s _ p q
  ·split
   ·split
    ·rfl
    ·split<;>rfl
   ·split
    ·rw[aO,aO,A3x s _ p q,e v.l a]
    ·split
     ·rw[aO,aO,g v.f b,A2v v p q]
     ·rfl
 ·rfl
theorem R3 {v:Val}{s:Sch}{p:List Stp}(h:Iw v s p= [])(q:List Stp):Iw v s q= []:=by
 have:=A92 v s p q
 rw[h]at this
 exact aU.1 this.symm
theorem W1 {v:Val}{s:Sch}{p:List Stp}(h:Iw v s p= []):v.k=s.k:=by
 rw[Kc]at h
 split at h
 ·assumption
 ·cases h
theorem Axk {v:Val}{s:Sch}{p:List Stp}(h:Iw v s p= [])(b:v.k=5):(∀x∈v.f,∀q,Afw s q x= [])/\ ∀d∈s.f,d.rq=true->Jy v d.nm=true:=by
 have a:=W1 h
 have h':=λq=>R3 h q
 constructor
 ·intro x c q
  have h:=h' q
  rw[Kc,if_pos a,if_neg (by omega),if_neg (by omega),if_neg (by omega),if_pos b,cI,Xk,eU]at h
  exact h.1 x c
 ·intro d hd e
  rw[Kc,if_pos a,if_neg (by omega),if_neg (by omega),if_neg (by omega),if_pos b,cI,eU]at h
  have:=h.2 d hd
  unfold I9 at this
  rw[e]at this
  cases g:Jy v d.nm with
  | true=>rfl
  | false=>rw[g]at this;simp at this
theorem Awn {s t:Sch}{p:List Stp}{x:ByteArray × Val}(h:Afw s p x= [])(a:x.2.k≠0)(b:Gh s x.1=some t):Iw x.2 t (p++ [C3 x.1])= []:=by
 unfold Afw at h
 rw[b]at h
 simp only[a,Zf]at h
 exact h
theorem Aob {s:Sch}{p:List Stp}{x:ByteArray × Val}(h:Afw s p x= []): ∃t,Gh s x.1=some t:=by
 unfold Afw at h
 split at h
 ·cases h
 ·exact⟨_,by assumption⟩
theorem Ae7: ∀ {l:List Val} {key:ByteArray} {t:Sch} {p:List Stp} {prev:List Val},Km l key t p prev= []-> ∀x∈l,Iw x t p= []
 | [],_,_,_,_,_,x,a=>by simp at a
 | v::l,key,t,p,prev,h,x,a=>by
  rw[Ia,cI,cI]at h
  rcases bJ.1 a with rfl | a
  ·exact R3 h.1.1 p
  ·exact Ae7 h.2 x a
theorem Aqz {v:Val}{s:Sch}{p:List Stp}(h:Iw v s p= [])(b:v.k=4):W4 p s v.l.length= []/\Km v.l s.key (s.it.headD Bw) p []= []:=by
 have a:=W1 h
 rw[Kc,if_pos a,if_neg (by omega),if_neg (by omega),if_pos b,cI]at h
 exact h
def hasB (nm vl:ByteArray)(u:Val):Bool:=decide (((u.get nm).getD Bc).k =3)&&decide (((u.get nm).getD Bc).s =vl)
def Rr (v:Val)(x:Stp):Option Val:=
 if x.k=1 then v.get x.nm
 else if v.k=4 then(if x.k=2 then v.l[x.ix.toNat]? else v.l.find? (hasB x.nm x.vl)) else none
def Mi:Val->List Stp->Option Val
 | v,[]=>some v
 | v,x::r=>(Rr v x).bind λu=>Mi u r
theorem Se {v u:Val}{x:Stp}(a:Rr v x=some u):u.Aw<v.Aw:=by
 unfold Rr at a
 split at a
 ·have:=eA (Kz a).1;simp only at this;omega
 ·split at a
  ·split at a
   ·exact eH (List.mem_of_getElem? a)
   ·exact eH (cO a)
  ·cases a
theorem Afe: ∀ (q:List Stp) (v w:Val),Mi v q=some w->w.Aw<=v.Aw
 | [],v,w,a=>by simp only[Mi,Option.some.injEq]at a;subst a;omega
 | y::r,v,w,a=>by
  simp only[Mi]at a
  cases b:Rr v y with
  | none=>rw[b]at a;cases a
  | some u=>rw[b]at a;have:=Se b;have:=Afe r u w a;omega
end Go.CT.Sch
namespace Go.CT.Sch
open Go.Proofs
theorem Xu (v:Val)(nm:ByteArray)(o:v.Aw<=1048576): ∀ (n i:Nat),i+n=v.f.length->
  ∃r:Int,W A28 1 [.str nm,.int i,v.enc]=some [.int r]/\
   (((v.k=5->((v.f.drop i).find? λp=>decide (p.1=nm))=none)/\r<0)\/(v.k=5/\ ∃ (j:Nat) (x:Val),r=j/\v.f[j]?=some (nm,x)/\((v.f.drop i).find? λp=>decide (p.1=nm))=some (nm,x)))
 | 0,i,h=>by
  rw[Akk]
  have g: ¬ i<v.f.length:=by omega
  refine⟨-1,by simp[g],.inl ⟨λ_=>by simp[aE (bD g)],by omega⟩⟩
 | n+1,i,h=>by
  have d:i<v.f.length:=by omega
  have u:=v.A7
  have q:=A8 (i:=i) (by omega)
  obtain⟨r,t,m⟩:=Xu v nm o n (i+1) (by omega)
  rw[Akk,aD d,bV]
  simp only[cN,bY,aF,bB,Aj,d,Zd,aA,aR,Zt,dN,aX,cD,aH,aG,aJ,aC d,aI,dC,fQ,Az,Am,bR,q,t]
  by_cases a:v.k=5
  ·by_cases c:v.f[i].1 =nm
   ·refine⟨i,by simp[a,c],.inr ⟨a,i,v.f[i].2,rfl,by simp[d,<-c],by simp[<-c]⟩⟩
   ·have c':decide (v.f[i].1 =nm)=false:=by simpa using c
    simp only[a,Zd,Zt,c',aB,Zf]
    refine⟨r,rfl,?_⟩
    rcases m with⟨b,e⟩ | ⟨_,b⟩
    ·exact .inl ⟨λ_=>b a,e⟩
    ·exact .inr ⟨trivial,b⟩
  ·simp only[a,Ze,aB,Zf]
   rcases m with⟨b,e⟩ | ⟨b,_⟩
   ·exact⟨r,rfl,.inl ⟨λh=>h.elim,e⟩⟩
   ·exact(a b).elim
theorem Aiu (v:Val)(nm:ByteArray)(d:v.Aw<=1048576): ∃r:Int,W A28 0 [v.enc,.str nm]=some [.int r]/\
  ((v.get nm=none/\r<0)\/ ∃ (j:Nat) (x:Val),r=j/\v.f[j]?=some (nm,x)/\v.get nm=some x):=by
 obtain⟨r,e,c⟩:=Xu v nm d v.f.length 0 (by omega)
 refine⟨r,by rw[Ayr];exact e,?_⟩
 simp only[aP]at c
 unfold fX
 rcases c with⟨a,b⟩ | ⟨a,j,x,b,g,h⟩
 ·left
  refine⟨?_,b⟩
  split
  ·rename_i i;rw[a i];rfl
  ·rfl
 ·right
  exact⟨j,x,b,g,by rw[if_pos a,h];rfl⟩
theorem A9n (v:Val)(nm vl:ByteArray)(d:v.Aw<=1048576):W Bdp 0 [v.enc,.str nm,.str vl]=some [.bool (hasB nm vl v)]:=by
 obtain⟨r,b,e⟩:=Aiu v nm d
 rw[Av0]
 unfold hasB
 rcases e with⟨g,m⟩ | ⟨j,x,rfl,h,i⟩
 ·have a: ¬ (0:Int)<=r:=by omega
  simp only[b,bH,fF,a,Ze,aA,aR,aB,Zf,g,eT]
  rfl
 ·simp only[b,bH,fF,aH,Zd,aA,aR,Zt,cN,cD,aG,aJ,h,aI,hD,Fld.B5,aX,fQ,i,cE]
  by_cases c:x.k=3<;>simp[c]
theorem Ac2 (v:Val)(x:Stp)(d:v.Aw<=1048576): ∀ (n i:Nat),i+n=v.l.length->
  ∃r:Int,W A8f 1 [.int i,v.enc,x.enc]=some [.int r]/\
   ((((v.l.drop i).find? (hasB x.nm x.vl))=none/\r<0)\/(∃ (j:Nat) (u:Val),r=j/\v.l[j]?=some u/\((v.l.drop i).find? (hasB x.nm x.vl))=some u))
 | 0,i,h=>by
  rw[Amt]
  have b: ¬ i<v.l.length:=by omega
  refine⟨-1,by simp[b],.inl ⟨by simp[aE (bD b)],by omega⟩⟩
 | n+1,i,h=>by
  have a:i<v.l.length:=by omega
  have q:=v.B8
  have t:=eH (aK a)
  have e:=A8 (i:=i) (by omega)
  obtain⟨r,g,m⟩:=Ac2 v x d n (i+1) (by omega)
  have o:=A9n v.l[i] x.nm x.vl (by omega)
  rw[Amt,aD a,bV]
  simp only[cU,bY,aF,bB,Aj,a,Zd,aA,aR,Zt,cD,aH,aG,aJ,aC a,aI,Stp.C7,Stp.B5,o,bH,bR,e,g]
  cases c:hasB x.nm x.vl v.l[i]with
  | true=>exact⟨i,by simp,.inr ⟨i,v.l[i],rfl,by simp[a],rfl⟩⟩
  | false=>exact⟨r,by simp,m⟩
theorem A8n (v:Val)(x:Stp)(m:v.Aw<=1048576)(o:Dr x=true): ∃r:Int,W A8f 0 [v.enc,x.enc]=some [.int r]/\
  ((Rr v x=none/\r<0)\/ ∃ (j:Nat) (u:Val),r=j/\Rr v x=some u/\(x.k=1->v.f[j]?=some (x.nm,u))/\(x.k≠1->v.l[j]?=some u)):=by
 obtain⟨w,y,q,z,A⟩:=Df o
 rw[Axn]
 unfold Rr
 simp only[Stp.Bj,Stp.C7,aA,aX,aR]
 by_cases k1:x.k=1
 ·obtain⟨r,b,a⟩:=Aiu v x.nm m
  simp only[k1,Zd,Zt,b,bH]
  refine⟨r,rfl,?_⟩
  rcases a with a | ⟨j,u,d,e,g⟩
  ·exact .inl a
  ·exact .inr ⟨j,u,d,g,λ_=>e,λh=>(h rfl).elim⟩
 ·simp only[k1,Ze,aB,Zf,dN,aA,eG,aR]
  by_cases i:v.k=4
  ·simp only[i,Zd,aV,aB,Zf,Zt]
   by_cases k2:x.k=2
   ·obtain⟨j,t⟩:=dM (q k2).1
    simp only[k2,Zd,Zt,Stp.Ee,cU,bY,aF,aA,bB,aR,t,fH,aG,Aj]
    by_cases c:j<v.l.length
    ·refine⟨j,by simp[c],.inr ⟨j,v.l[j],rfl,by simp[c],λh=>by simp at h,λ_=>by simp[c]⟩⟩
    ·refine⟨-1,by simp[c],.inl ⟨by simpa using c,by omega⟩⟩
   ·obtain⟨r,b,a⟩:=Ac2 v x m v.l.length 0 (by omega)
    simp only[aN,aP]at b a
    simp only[k2,Ze,aB,Zf,b]
    refine⟨r,rfl,?_⟩
    rcases a with a | ⟨j,u,d,e,g⟩
    ·exact .inl a
    ·exact .inr ⟨j,u,d,g,λh=>h.elim,λ_=>e⟩
  ·exact⟨-1,by simp[i],.inl ⟨by simp[i],by omega⟩⟩
theorem Uk:IV.agg [.int 0,.int 0,.str ⟨#[]⟩,.list [],.list []]=Bc.enc:=rfl
theorem Amd (p:List Stp)(q:p.length<=1099511627776)(hp: ∀x∈p,Dr x=true)(c d e:IV): ∀ (n i:Nat) (v:Val),i+n=p.length->v.Aw<=1048576->
  W Ar6 1 [.list (p.map Stp.enc),.int i,v.enc,c,d,e]=some [((Mi v (p.drop i)).getD Bc).enc,.bool (Mi v (p.drop i)).isSome]
 | 0,i,v,h,m=>by
  have t: ¬ i<p.length:=by omega
  rw[Aiz,aE (by omega)]
  simp only[bY,aF,bB,Aj,t,Ze,aA,aR,aB,Zf,Mi,cE,cM]
 | n+1,i,v,h,m=>by
  have a:i<p.length:=by omega
  have w:=A8 (i:=i) (by omega)
  have y:=hp _ (aK a)
  obtain⟨r,z,A⟩:=A8n v p[i] m y
  rw[Aiz,aD a]
  simp only[bY,aF,bB,Aj,a,Zd,aA,aR,Zt,cD,aH,aG,aJ,aC a,aI,z,bH,fB,Stp.Bj,aX,cU,cN,Mi,Uk]
  rcases A with⟨b,g⟩ | ⟨j,u,rfl,b,g,B⟩
  ·simp only[g,Zd,Zt,b];rfl
  ·have C: ¬ (j:Int)<0:=by omega
   have F:=Se b
   have E:=Amd p q hp c d e n (i+1) u (by omega) (by omega)
   have o:W Ar6 2 [.list (p.map Stp.enc),.int i,u.enc,c,d,e]=some [((Mi u (p.drop (i+1))).getD Bc).enc,.bool (Mi u (p.drop (i+1))).isSome]:=by
    rw[Av4]
    simp only[bR,w,aA,E]
   simp only[C,Ze,aB,Zf,b,aA,aH,Zt,aG]
   by_cases k1:p[i].k =1
   ·simp only[k1,Zd,Zt,g k1,aI,aA,dG,o]
   ·simp only[k1,Ze,aB,Zf,B k1,aI,aA,o]
def Bb6 (v:Val)(p:List Stp):Option Val:=if Dj p then Mi v p else none
theorem Bat (v:Val)(p:List Stp)(c:v.Aw<=1048576)(hp: ∀x∈p,x.fits)(b:p.length<=1099511627776):W Ar6 0 [v.enc,.list (p.map Stp.enc)]=some [((Bb6 v p).getD Bc).enc,.bool (Bb6 v p).isSome]:=by
 rw[Ax4]
 unfold Bb6
 simp only[Nq p hp b,bH,cT,aA,aR,fB,Uk]
 cases d:Dj p with
 | false=>rfl
 | true=>
  have a:=d
  unfold Dj at a
  simp only[aM,bM]at a
  have:=Amd p b a.1 (.int 0) (.int 0) (.str ⟨#[]⟩) p.length 0 v (by omega) c
  simp only[aN,aP]at this
  simp only[aV,aB,Zf,this,Zt]
end Go.CT.Sch
namespace Go.CT.Sch
open Go.Proofs
theorem Co (s:ByteArray):s.data.toList.length=s.size:=by simp
theorem Wu {s:ByteArray}{i:Nat}{l:List UInt8}(h:s.data.toList.drop i=l)(a:l≠ []):i+l.length=s.size:=by
 have:=congrArg cY h
 rw[dB,Co]at this
 have:0<l.length:=bZ.2 a
 omega
theorem Tu {s:ByteArray}{i:Nat}{a r:List UInt8}(h:s.data.toList.drop i=a++r):s.data.toList.drop (i+a.length)=r:=by
 rw[<-List.drop_drop,h,List.drop_left]
theorem sx {s:ByteArray}{i:Nat}{c:UInt8}{r:List UInt8}(h:s.data.toList.drop i=c::r):O.C8 (.str s) (.int i)=some (.int c.toNat)/\i<s.size/\s.data.toList.drop (i+1)=r:=by
 have d:=Wu h (by simp)
 simp only[bA]at d
 have a:i<s.size:=by omega
 have b:=Gy a
 rw[h]at b
 obtain⟨e,g⟩:=gT b
 refine⟨?_,a,g.symm⟩
 simp only[gZ,aH,Zt,aG,A3v a,aI,<-e]
theorem ssl {s:ByteArray}{i:Nat}{a r:List UInt8}(h:s.data.toList.drop i=a++r)(b:a≠ []):O.Hq (.str s) (.int i) (.int ((i+a.length:Nat):Int))=some (.str (bsL a)):=by
 have c:=Wu h (by simp[b])
 rw[aO]at c
 rw[O.Rl,if_pos ⟨by omega,by omega,by omega⟩]
 simp only[aG]
 congr 2
 apply Ek
 rw[eV,fG]
 simp only[eM,bsL,h]
 rw[show i+a.length - i=a.length by omega,List.take_left]
def Xe (r:List UInt8):Prop:= ∀c t,r=c::t->Bq c=false
theorem Ahv (s:ByteArray)(u:s.size<=100000): ∀ (a:List UInt8) (i:Nat) (r:List UInt8),s.data.toList.drop i=a++r->i<=s.size->(∀c∈a,Bq c=true)->Xe r->W A4e 1 [.str s,.int i]=some [.int ((i+a.length:Nat):Int)]
 | [],i,r,h,b,_,d=>by
  rw[Akr]
  cases r with
  | nil=>
   have A:s.size<=i:=by
    have:=congrArg cY h
    rw[dB,Co]at this
    simp at this;omega
   have e: ¬ i<s.size:=by omega
   simp only[dF,aA,bB,Aj,e,Ze,aR,aB,Zf,aZ,fZ]
  | cons c t=>
   obtain⟨g,j,o⟩:=sx h
   have m:=d c t rfl
   simp only[dF,aA,bB,Aj,j,Zd,aR,Zt,g,U9,bH,m,aB,Zf,aZ,fZ]
 | c::a,i,r,h,b,q,d=>by
  obtain⟨g,j,o⟩:=sx (show s.data.toList.drop i=c::(a++r) from h)
  have w:=A8 (i:=i) (by omega)
  have m:=q c (by simp)
  have y:=Ahv s u a (i+1) r o (by omega) (λx z=>q x (by simp[z])) d
  rw[Akr]
  simp only[dF,aA,bB,Aj,j,Zd,aR,Zt,g,U9,bH,m,bR,w,y,bA]
  congr 3;congr 1;omega
theorem Sh {c:UInt8}(h:Hm c=true):c.toNat=10\/(32<=c.toNat/\c.toNat<=126):=by
 unfold Hm at h
 simp at h
 omega
theorem Tm (o:ByteArray)(c:UInt8)(v:List UInt8):o++bsL [c]++bsL v=o++bsL (c::v):=by
 rw[bF,<-He];rfl
theorem Uv (s:ByteArray)(L:s.size<=100000): ∀ (v:List UInt8) (i:Nat) (r:List UInt8) (o:ByteArray),s.data.toList.drop i=v.flatMap H8++34::r->(∀c∈v,Hm c=true)->o.size+v.length<=1000->
  W Ahj 1 [.str s,.int i,.str o]=some [.str (o++bsL v),.int ((i+(v.flatMap H8).length +1:Nat):Int),.bool true]
 | [],i,r,o,h,_,_=>by
  obtain⟨t,u,w⟩:=sx (show s.data.toList.drop i=34::r from h)
  have y:=A8 (i:=i) (by omega)
  have e:o++bsL []=o:=by apply Ek;rw[aT];simp[bsL]
  rw[Zs]
  simp only[dF,aA,bB,Aj,u,Zd,aR,Zt,t,eG]
  simp only[show((34:UInt8).toNat :Int)=34 from rfl,Zd,aV,aB,Zf,bR,y,aA,cV,aZ,fZ,e]
 | c::v,i,r,o,h,M,Q=>by
  have R:=M c (by simp)
  have z: ∀x∈v,Hm x=true:=λx S=>M x (by simp[S])
  simp only[bA]at Q
  have hrange:=Sh R
  simp only[cA,bL]at h ⊢
  have hlen:=congrArg cY h
  rw[dB,Co]at hlen
  have two: ∀d:UInt8,H8 c= [92,d]->(d.toNat=34\/d.toNat=92\/d.toNat=110)->(d.toNat=110↔c.toNat=10)->(d.toNat≠110->d=c)->
    W Ahj 1 [.str s,.int i,.str o]=some [.str (o++bsL (c::v)),.int ((i+(H8 c++v.flatMap H8).length +1:Nat):Int),.bool true]:=by
   intro d E hd T F
   rw[E]at h ⊢
   obtain⟨t,u,w⟩:=sx (show s.data.toList.drop i=92::(d::(v.flatMap H8++34::r)) from h)
   obtain⟨U,g2,X⟩:=sx w
   have y:=A8 (i:=i) (by omega)
   have A:IntKind.i64.wrap ((i:Int)+2)=((i+1+1:Nat):Int):=by rw[wrap64 (by omega) (by omega)];omega
   have G: ¬ ((s.size:Nat):Int)<=((i+1:Nat):Int):=by omega
   have H:=λo' (g:o'.size+v.length<=1000)=>Uv s L v (i+1+1) r o' X z g
   have b:=ssl (i:=i+1) (a:= [d]) (show s.data.toList.drop (i+1)= [d]++(v.flatMap H8++34::r) from w) (by simp)
   simp only[aQ]at b
   have I:((92:UInt8).toNat :Int)=92:=rfl
   rw[Zs]
   simp only[dF,aA,bB,Aj,u,Zd,aR,Zt,t,eG,cX,I,show ¬ (92:Int)=34 by omega,Ze,aY,show ¬ (92:Int)<32 by omega,aB,Zf,show ¬ (126:Int)<92 by omega,aV,bR,y,fF,G,U,A]
   have q:(if(!decide ((d.toNat:Int)=34))=true then some (IV.bool (!decide ((d.toNat:Int)=92))) else some (IV.bool false))=some (.bool (!decide (d.toNat=34)&& !decide (d.toNat=92))):=by
    by_cases J:d.toNat=34
    ·simp[J]
    ·have B: ¬ (d.toNat:Int)=34:=by omega
     by_cases N:d.toNat=92
     ·simp[J,B,N]
     ·have K: ¬ (d.toNat:Int)=92:=by omega
      simp[J,B,N,K]
   simp only[q,aA,aR]
   have m: ∀o',o'=o++bsL [c]->W Ahj 3 [.str s,.int i,.str o']=some [.str (o++bsL (c::v)),.int ((i+([92,d]++v.flatMap H8).length +1:Nat):Int),.bool true]:=by
    intro o' g
    rw[A1r]
    simp only[bR,A,aA]
    rw[Ak2,H o' (by rw[g,aL,Bz,aQ];omega),g,Tm]
    congr 3;congr 1
    simp only[aO,bA,aZ];congr 1;omega
   have hcond2:(if(!decide (d.toNat=34)&& !decide (d.toNat=92))=true then some (IV.bool (!decide ((d.toNat:Int)=110))) else some (IV.bool false))=some (.bool false):=by
    rcases hd with hd | hd | hd
    ·simp[hd]
    ·simp[hd]
    ·have:(d.toNat:Int)=110:=by omega
     simp[hd]
   simp only[hcond2,aA,aR,aB,Zf,aX]
   by_cases cn:d.toNat=110
   ·have cn':(d.toNat:Int)=110:=by omega
    have C:c=10:=gI.1 (T.1 cn)
    simp only[cn',Zd,Zt]
    rw[show(ByteArray.mk #[10])=bsL [10]from rfl,E0 (by omega) (by rw[Bz];simp)]
    simp only[aA]
    exact m _ (by rw[C])
   ·have cn': ¬ (d.toNat:Int)=110:=by omega
    simp only[cn',Ze,aB,Zf,b,aA]
    rw[E0 (by omega) (by rw[Bz];simp)]
    simp only[aA]
    exact m _ (by rw[F cn])
  by_cases j:c.toNat=10
  ·exact two 110 (by unfold H8;rw[if_pos j]) (.inr (.inr rfl)) ⟨λ_=>j,λ_=>rfl⟩ (λh=>(h rfl).elim)
  ·by_cases cq:c.toNat=34\/c.toNat=92
   ·exact two c (by unfold H8;rw[if_neg j,if_pos cq]) (by omega) (by omega) (λ_=>rfl)
   ·have E:H8 c= [c]:=by unfold H8;rw[if_neg j,if_neg cq]
    rw[E]at h ⊢
    obtain⟨t,u,w⟩:=sx (show s.data.toList.drop i=c::(v.flatMap H8++34::r) from h)
    have y:=A8 (i:=i) (by omega)
    have H:=Uv s L v (i+1) r (o++bsL [c]) w z (by rw[aL,Bz,aQ];omega)
    have b:=ssl (i:=i) (a:= [c]) (show s.data.toList.drop i= [c]++(v.flatMap H8++34::r) from h) (by simp)
    simp only[aQ]at b
    have Y: ¬ (c.toNat:Int)=34:=by omega
    have Z: ¬ (c.toNat:Int)<32:=by omega
    have n3: ¬ (126:Int)<c.toNat:=by omega
    have n4: ¬ (c.toNat:Int)=92:=by omega
    rw[Zs]
    simp only[dF,aA,bB,Aj,u,Zd,aR,Zt,t,eG,cX,Y,Ze,aY,Z,aB,Zf,n3,n4,bR,y,b]
    rw[E0 (by omega) (by rw[Bz];simp)]
    simp only[aA,Ak2,H,Tm]
    congr 3;congr 1
    simp only[aO,bA,aZ];congr 1;omega
end Go.CT.Sch
namespace Go.CT.Sch
open Go.Proofs
def Aci (x:Stp)(i:Nat):IV:= .agg [.int x.k,.str x.nm,.int x.ix,.str x.vl,.int i,.bool false]
theorem Gb {s:ByteArray}(h:Cn s=true):(∀c∈s.data.toList,Bq c=true)/\s.data.toList≠ []:=by
 unfold Cn at h
 simp only[aM,bM,decide_eq_true_eq]at h
 refine⟨h.1,λe=>?_⟩
 have:s.size=0:=by rw[<-Co,e];rfl
 omega
theorem Ny {c:UInt8}{r:List UInt8}(h:Bq c=false):Xe (c::r):=by
 intro d t e
 obtain⟨rfl,_⟩:=gT e
 exact h
theorem Ahp (s:ByteArray)(y:s.size<=100000)(nm vl:ByteArray)(b:Cn nm=true)(a:Iz vl=true)(i:Nat)(r:List UInt8)(h:s.data.toList.drop i=(bsL [91]++nm++bsL [61]++K5 vl++bsL [93]).data.toList ++r):
  W Bce 0 [.str s,.int i]=some [Aci ⟨3,nm,0,vl⟩ (i+(bsL [91]++nm++bsL [61]++K5 vl++bsL [93]).size)]:=by
 obtain⟨e,c⟩:=Gb b
 have A:=Nr a
 unfold Iz at a
 simp only[aM,bM]at a
 have g:(bsL [91]++nm++bsL [61]++K5 vl++bsL [93]).size =nm.data.toList.length+(vl.data.toList.flatMap H8).length +5:=by
  unfold K5
  simp only[aL,Bz,bA,aZ,aO,Co];omega
 rw[g]
 have h':s.data.toList.drop i=91::(nm.data.toList++61::(34::(vl.data.toList.flatMap H8++34::(93::r)))):=by
  rw[h];unfold K5
  simp[aT,bsL]
 obtain⟨N,Q,j⟩:=sx h'
 have B:=A8 (i:=i) (by omega)
 have m:=Ahv s y nm.data.toList (i+1) _ j (by omega) e (Ny (by decide))
 have C:=Tu j
 obtain⟨E,R,F⟩:=sx C
 have o:=ssl j c
 have G:0<nm.data.toList.length:=bZ.2 c
 obtain⟨H,S,z⟩:=sx F
 have q:=A8 (i:=i+1+nm.data.toList.length) (by omega)
 have t:=A8 (i:=i+1+nm.data.toList.length+1) (by omega)
 have d:=Uv s y vl.data.toList (i+1+nm.data.toList.length+1+1) (93::r) Ar z a.1 (by rw[Co];show 0+vl.size<=1000;omega)
 rw[Gl,Nx]at d
 have I:=Tu z
 obtain⟨T,U,J⟩:=sx I
 obtain⟨K,X,Y⟩:=sx J
 have u:W Ahj 0 [.str s,.int ((i+1+nm.data.toList.length+1:Nat):Int)]=some [.str vl,.int ((i+1+nm.data.toList.length+1+1+(vl.data.toList.flatMap H8).length +1:Nat):Int),.bool true]:=by
  have w: ¬ ((s.size:Nat):Int)<=((i+1+nm.data.toList.length+1:Nat):Int):=by omega
  rw[Aw3]
  simp only[dF,aA,fF,w,Ze,aR,aB,Zf,H,eG,show((34:UInt8).toNat :Int)=34 from rfl,Zd,aV,bR,t]
  exact d
 have x:=A8 (i:=i+1+nm.data.toList.length+1+1+(vl.data.toList.flatMap H8).length +1) (by omega)
 have w: ¬ ((s.size:Nat):Int)<=((i+1+nm.data.toList.length:Nat):Int):=by omega
 have L: ¬ ((i+1+nm.data.toList.length:Nat):Int)=((i+1:Nat):Int):=by omega
 have M: ¬ ((s.size:Nat):Int)<=((i+1+nm.data.toList.length+1+1+(vl.data.toList.flatMap H8).length +1:Nat):Int):=by omega
 rw[Aw5]
 simp only[bR,B,aA,Ai1,m,bH,dF,fF,w,Ze,aR,aB,Zf,aX,L,o,E,show((61:UInt8).toNat :Int)=61 from rfl,show ¬ (61:Int)=93 by omega,eG,Zd,aV,q,u,hE,cT,M,K,show((93:UInt8).toNat :Int)=93 from rfl,x,fB,Nx]
 unfold Aci
 congr 4
 rw[show i+1+nm.data.toList.length+1+1+(vl.data.toList.flatMap H8).length +1+1=i+(nm.data.toList.length+(vl.data.toList.flatMap H8).length +5) by omega]
theorem Akt (s:ByteArray)(g:s.size<=100000)(nm:ByteArray)(a:Cn nm=true)(i:Nat)(r:List UInt8)(h:s.data.toList.drop i=nm.data.toList++r)(j:i<=s.size)(m:Xe r)(o q t u w x:IV):
  W A5s 1 [.str s,.int i,o,q,t,u,w,x]=some [Aci ⟨1,nm,0,Ar⟩ (i+nm.size)]:=by
 obtain⟨c,b⟩:=Gb a
 have d:=Ahv s g nm.data.toList i r h j c m
 have e:=ssl h b
 have y:0<nm.data.toList.length:=bZ.2 b
 have z: ¬ ((i+nm.data.toList.length:Nat):Int)=(i:Int):=by omega
 rw[A0t]
 simp only[Ai1,d,bH,e,aA,aX,z,Ze,fB,Nx]
 unfold Aci
 rw[Co]
 rfl
theorem A7z (s:ByteArray)(o:s.size<=100000)(x:Stp)(b:Dr x=true)(q:x.k≠2)(i:Nat)(r:List UInt8)(h:s.data.toList.drop i=(G6 (decide (i=0)) x).data.toList ++r)(B:Xe r):
  W A5s 0 [.str s,.int i]=some [Aci x (i+(G6 (decide (i=0)) x).size)]:=by
 obtain⟨G,H,I,J,C⟩:=Df b
 obtain⟨xk,xn,xi,xv⟩:=x
 simp only at G H I J C
 unfold Dr at b
 unfold G6 at h ⊢
 simp only at b h ⊢
 rw[Ayk]
 rcases C with rfl | rfl | rfl
 ·simp only[Zt,aM,decide_eq_true_eq]at b
  obtain⟨⟨d,rfl⟩,rfl⟩:=b
  simp only[show ¬ (1:Int)=2 by omega,show ¬ (1:Int)=3 by omega,Zf]at h ⊢
  obtain⟨u,w⟩:=Gb d
  by_cases E:i=0
  ·subst E
   simp only[Zd,Zt]at h ⊢
   obtain⟨c,a,g⟩:=eL w
   have h':s.data.toList.drop 0=c::(a++r):=by rw[h,g];rfl
   obtain⟨j,F,y⟩:=sx h'
   have z:=u c (by rw[g];simp)
   have m: ¬ (c.toNat:Int)=91:=by
    intro e
    have:c.toNat=91:=by omega
    unfold Bq at z
    rw[this]at z
    simp at z
   simp only[j,aA,aX,m,Ze,aR,aB,Zf,cX,show ¬ (0:Int)<((0:Nat):Int) by omega]
   exact Akt s o xn d 0 r h (by omega) B _ _ _ _ _ _
  ·have A:(0:Int)<(i:Int):=by omega
   simp only[E,Ze,aB,Zf]at h ⊢
   have h':s.data.toList.drop i=46::(xn.data.toList++r):=by rw[h];simp[aT,bsL]
   obtain⟨j,F,y⟩:=sx h'
   have K:=A8 (i:=i) (by omega)
   have L:=Akt s o xn d (i+1) r y (by omega) B (.int 0) (.str ⟨#[]⟩) (.int 0) (.str ⟨#[]⟩) (.int 0) (.bool false)
   simp only[j,aA,aX,show((46:UInt8).toNat :Int)=46 from rfl,show ¬ (46:Int)=91 by omega,Ze,aR,aB,Zf,cX,A,Zd,Zt,eG,aV,bR,K,L]
   rw[aL,Bz,aQ,show i+1+xn.size=i+(1+xn.size) by omega]
 ·exact absurd rfl q
 ·simp only[show ¬ (3:Int)=1 by omega,show ¬ (3:Int)=2 by omega,Zf,Zt,aM,decide_eq_true_eq]at b
  obtain⟨⟨d,M⟩,rfl⟩:=b
  simp only[show ¬ (3:Int)=2 by omega,Zf,Zt]at h ⊢
  have N:=Ahp s o xn xv d M i r h
  have h': ∃t,s.data.toList.drop i=91::t:=by rw[h];simp[aT,bsL]
  obtain⟨t,h'⟩:=h'
  obtain⟨j,F,y⟩:=sx h'
  simp only[j,aA,aX,show((91:UInt8).toNat :Int)=91 from rfl,Zd,aR,Zt,N,bH]
theorem Sa (b:Bool)(x:Stp)(a:Dr x=true):(G6 b x).data.toList ≠ []/\(b=false->Xe ((G6 b x).data.toList)):=by
 obtain⟨e,g,i,j,m⟩:=Df a
 unfold Dr at a
 unfold G6
 split
 ·refine⟨by simp[aT,bsL],λ_=>?_⟩
  have: ∃t,(bsL [91]++hA x.ix.toNat++bsL [93]).data.toList =91::t:=by simp[aT,bsL]
  obtain⟨t,c⟩:=this
  rw[c];exact Ny (by decide)
 ·split
  ·refine⟨by simp[aT,bsL],λ_=>?_⟩
   have: ∃t,(bsL [91]++x.nm++bsL [61]++K5 x.vl++bsL [93]).data.toList =91::t:=by simp[aT,bsL]
   obtain⟨t,c⟩:=this
   rw[c];exact Ny (by decide)
  ·rename_i k2 o
   have k1:x.k=1:=by omega
   rw[if_pos k1]at a
   simp only[aM]at a
   split
   ·rename_i d
    exact⟨(Gb a.1.1).2,λh=>by rw[h]at d;cases d⟩
   ·refine⟨by simp[aT,bsL],λ_=>?_⟩
    have: ∃t,(bsL [46]++x.nm).data.toList =46::t:=by simp[aT,bsL]
    obtain⟨t,c⟩:=this
    rw[c];exact Ny (by decide)
theorem Vm (p:List Stp)(hp: ∀x∈p,Dr x=true):Xe ((Dw false p).data.toList):=by
 cases p with
 | nil=>intro c t h;cases h
 | cons x r=>
  have d:=Sa false x (hp x (by simp))
  obtain⟨c,a,b⟩:=eL d.1
  have e:=d.2 rfl
  rw[b]at e
  have g:=e c a rfl
  simp only[Dw,aT,b]
  exact Ny g
theorem Xr (s:ByteArray)(w:s.size<=100000)(full:List Stp)(a:Dj full=true)(j: ∀y∈full,y.k≠2): ∀ (p done:List Stp) (i:Nat),done++p=full->s.data.toList.drop i=(Dw (decide (i=0)) p).data.toList ->i<=s.size->
  W A5b 1 [.str s,.int i,.list (done.map Stp.enc)]=some [.list (full.map Stp.enc),.int 0]
 | [],done,i,hd,h,A=>by
  rw[bK]at hd
  subst hd
  have d:s.size<=i:=by
   have:=congrArg cY h
   rw[dB,Co]at this
   have e:(Dw (decide (i=0)) []).data.toList.length =0:=rfl
   rw[e]at this;omega
  have g: ¬ i<s.size:=by omega
  have b:=a
  unfold Dj at b
  simp only[aM,bM,decide_eq_true_eq]at b
  have B:=Nq done (λx q=>by
   have:=Df (b.1 x q)
   exact⟨by omega,by omega⟩) (by omega)
  rw[Amh]
  simp only[dF,aA,bB,Aj,g,Ze,aR,aB,Zf,B,bH,a,cT,aV]
 | x::p,done,i,hd,h,A=>by
  have b:=a
  unfold Dj at b
  simp only[aM,bM,decide_eq_true_eq]at b
  have q:Dr x=true:=b.1 x (by rw[<-hd];simp)
  have hp: ∀y∈p,Dr y=true:=λy C=>b.1 y (by rw[<-hd];simp[C])
  simp only[Dw,aT]at h
  have r:=A7z s w x q (j x (by rw[<-hd];simp)) i _ h (Vm p hp)
  have m:=(Sa (decide (i=0)) x q).1
  have o:0<(G6 (decide (i=0)) x).data.toList.length :=bZ.2 m
  have d:=Wu h (by simp[m])
  have c:=Tu h
  rw[aO]at d
  rw[Co]at c o d
  have t:decide (i+(G6 (decide (i=0)) x).size =0)=false:=decide_eq_false (by omega)
  have g:i<s.size:=by omega
  have hlen:done.length+p.length+1=full.length:=by rw[<-hd];simp;omega
  have u:((done.map Stp.enc).length + [x.enc].length) * 48<=A4:=by
   simp only[aF,aQ]
   have:(done.length+1) * 48<=100 * 48:=aW (by omega) (bP _)
   unfold A4;omega
  have z:=Xr s w full a j p (done++ [x]) (i+(G6 (decide (i=0)) x).size) (by rw[<-hd];simp) (by rw[t];exact c) (by omega)
  have e1:dU 5 (Aci x (i+(G6 (decide (i=0)) x).size))=some (.bool false):=rfl
  have E:gY 0 4 (Aci x (i+(G6 (decide (i=0)) x).size))=some x.enc:=rfl
  have F:dU 4 (Aci x (i+(G6 (decide (i=0)) x).size))=some (.int ((i+(G6 (decide (i=0)) x).size :Nat):Int)):=rfl
  rw[Amh]
  simp only[dF,aA,bB,Aj,g,Zd,aR,Zt,r,bH,e1,aB,Zf,E,fR,eR,u,F]
  rw[cG]at z
  exact z
theorem R5 (p:List Stp)(hp: ∀x∈p,Dr x=true): ∀b,(Dw b p).size <=500 * p.length:=by
 induction p with
 | nil=>intro b;show 0<=_;omega
 | cons x r a=>
  intro b
  have d:(G6 b x).size <=500:=Rv (hp x (by simp))
  have e:=a (λy c=>hp y (by simp[c])) false
  simp only[Dw,aL,bA];omega
theorem Aa6 (p:List Stp)(hp:Dj p=true)(c: ∀y∈p,y.k≠2):W A5b 0 [.str (C9 p)]=some [.list (p.map Stp.enc),.int 0]:=by
 have a:=hp
 unfold Dj at a
 simp only[aM,bM,decide_eq_true_eq]at a
 have d:=R5 p a.1 true
 have g:500 * p.length<=500 * 16:=aW (bP _) a.2
 have e:C9 p=Dw true p:=by unfold C9;rw[if_pos hp];rfl
 rw[Av3,e]
 have b: ¬ (20000:Int)<((Dw true p).size :Int):=by omega
 have:=Xr (Dw true p) (by omega) p hp c p [] 0 rfl rfl (by omega)
 simp only[aN,bQ]at this
 simp only[dF,aA,cX,b,Ze,aR,aB,Zf,this]
end Go.CT.Sch
namespace Go.CT
def SS (l:List ByteArray):Prop:=l.Pairwise λa b=>blt a b=true
theorem SS.ext: ∀ {a b:List ByteArray},SS a->SS b->(∀x,x∈a↔x∈b)->a=b
 | [],[],_,_,_=>rfl
 | [],y::b,_,_,h=>by have:=(h y).2 dL;cases this
 | x::a,[],_,_,h=>by have:=(h x).1 dL;cases this
 | x::a,y::b,j,m,h=>by
  obtain⟨i,a2⟩:=bC.1 j
  obtain⟨b1,b2⟩:=bC.1 m
  have d:x=y:=by
   rcases bJ.1 ((h x).1 dL) with e | e
   ·exact e
   ·rcases bJ.1 ((h y).2 dL) with g | g
    ·exact g.symm
    ·have:=Gc (b1 x e) (i y g)
     rw[D2]at this;cases this
  subst d
  rw[SS.ext a2 b2 λz=>⟨λc=>?_,λc=>?_⟩]
  ·rcases bJ.1 ((h z).1 (cP _ c)) with rfl | e
   ·have:=i z c;rw[D2]at this;cases this
   ·exact e
  ·rcases bJ.1 ((h z).2 (cP _ c)) with rfl | e
   ·have:=b1 z c;rw[D2]at this;cases this
   ·exact e
theorem V0 {l:List (List UInt8)}{x:List UInt8} :x∈Lib.compact l↔x∈l:=by
 unfold Lib.compact Lib.compactUpTo
 simp only[dR,bW,gQ]
 constructor
 ·rintro⟨j,⟨g,_⟩,rfl⟩
  have:l.toArray[j]! =l[j]:=by simp[g]
  rw[this];exact aK g
 ·intro m
  obtain⟨i,a,rfl⟩:=List.mem_iff_getElem.1 m
  -- the first place
  have: ∀i,∀a:i<l.length,∃j,j<l.length/\Lib.keeps l.toArray j=true/\l.toArray[j]! =l[i]:=by
   intro i
   induction i with
   | zero=>intro a;exact⟨0,a,by simp[Lib.keeps],by simp[a]⟩
   | succ i o=>
    intro a
    by_cases h:l[i]=l[i+1]
    ·obtain⟨j,b,c,d⟩:=o (by omega)
     exact⟨j,b,c,d.trans h⟩
    ·refine⟨i+1,a,Lib.keeps_pos ?_,by simp[a]⟩
     have b:i<l.length:=by omega
     simp[a,b]
     exact λe=>h e.symm
  obtain⟨j,b,c,d⟩:=this i a
  exact⟨j,⟨b,c⟩,d⟩
theorem Ad8 {l:List (List UInt8)}(h:l.Pairwise λa b=>Op.bytesLess b a=false):(Lib.compact l).Pairwise λa b=>Op.bytesLess a b=true:=by
 unfold Lib.compact Lib.compactUpTo
 rw[gA]
 have u:((hF l.length).filter (Lib.keeps l.toArray)).Pairwise (· < ·):=dZ _ List.pairwise_lt_range
 refine u.imp_of_mem fun {i j} w q x=>?_
 simp only[bW,gQ]at w q
 obtain⟨c,d⟩:=q
 have g:i<l.length:=by omega
 have hp:j - 1<l.length:=by omega
 have ei:l.toArray[i]! =l[i]:=by simp[g]
 have ej:l.toArray[j]! =l[j]:=by simp[c]
 have ep:l.toArray[j - 1]! =l[j - 1]:=by simp[hp]
 rw[ei,ej]
 have m:l[j]≠l[j - 1]:=by
  intro e
  have:Lib.keeps l.toArray j=false:=Lib.keeps_neg (by omega) (by rw[ej,ep];exact e)
  rw[this]at d;cases d
 have r:Op.bytesLess l[j] l[j - 1]=false:=eN.1 h (j - 1) j hp c (by omega)
 have o:Op.bytesLess l[j - 1] l[j]=true:=by
  rcases Tp l[j - 1] l[j]with h | h | h
  ·exact h
  ·exact absurd h.symm m
  ·rw[h]at r;cases r
 by_cases y:i=j - 1
 ·subst y;exact o
 ·have t:Op.bytesLess l[j - 1] l[i]=false:=eN.1 h i (j - 1) g hp (by omega)
  rcases Tp l[i] l[j - 1]with h | h | h
  ·exact Abx h o
  ·rw[h];exact o
  ·rw[h]at t;cases t
def Wh (l:List ByteArray):List ByteArray:=Eu (Og l)
theorem P8 {l:List ByteArray}{x:ByteArray} :x∈Wh l↔x∈l:=by
 unfold Wh Eu
 rw[Tv];unfold Ag5
 rw[Aac,dR]
 constructor
 ·rintro⟨y,a,rfl⟩
  rw[V0,fV,dR]at a
  obtain⟨z,b,rfl⟩:=a
  rw[Z7];exact b
 ·intro c
  refine⟨x.data.toList,?_,Z7 x⟩
  rw[V0,fV,dR]
  exact⟨x,c,rfl⟩
theorem Vx (l:List ByteArray):SS (Wh l):=by
 unfold Wh Eu SS
 rw[Tv];unfold Ag5
 rw[Aac,gA]
 refine(Ad8 (Aef _)).imp λh=>?_
 unfold blt
 rw[Qf,Qf];exact h
theorem N9 (l:List ByteArray):(Wh l).length <=l.length:=by
 unfold Wh Eu
 rw[Tv];unfold Ag5
 rw[Aac,aF]
 have a: ∀l:List (List UInt8),(Lib.compact l).length <=l.length:=λl=>by
  have a:(Lib.compact l).length <=(hF l.length).length :=by
   unfold Lib.compact Lib.compactUpTo
   rw[aF]
   exact dT _ _
  simpa using a
 refine dO (a _) ?_
 rw[List.length_mergeSort,aF];exact bP _
end Go.CT
namespace Go.CT.Sch
open Go.Proofs
abbrev SL (l:List ByteArray):IV:=dV IV.str l
theorem Ah0 {l:List ByteArray}(h:l.length<=1099511627776):O.K9 [SL l]=some [SL l]:=by
 unfold O.K9 SL dV
 simp only[aF]
 rw[if_pos (by unfold A4;omega)]
theorem Awi {l:List ByteArray}(h:l.length<=1099511627776):O.Af4 [SL l]=some [SL (Og l)]:=by
 unfold O.Af4 SL dV
 simp only[Kw,aA]
 rw[if_pos (by omega)]
theorem Agt {l:List ByteArray}(h:l.length<=1099511627776):O.Lj [SL l]=some [SL (Eu l)]:=by
 unfold O.Lj SL dV
 simp only[Kw,aA]
 rw[if_pos (by omega)]
theorem Bc7 {l:List ByteArray}(h:l.length<=1099511627776):W Bax 0 [SL l]=some [SL (Wh l)]:=by
 have a:(Og l).length =l.length:=(Nz l).length_eq
 rw[A0s,Ay7]
 simp only[bH,Azd,Ba1,A9u,Bal,Ah0 h,Awi h,Agt (l:=Og l) (by omega)]
 rfl
theorem A5a (a b:List ByteArray)(m:a.length<=1048576)(o:b.length<=1048576):W Aq8 0 [.list [SL a,SL b]]=some [SL (a++b)]:=by
 have g:O.Aia 16 [.list [],.int ((a.length:Int)+(b.length:Int))]=some [.list []]:=by
  simp only[O.Aia]
  rw[if_pos]
  unfold A4
  refine⟨by omega,?_,?_⟩<;>simp only[aZ]<;>omega
 have w1:IntKind.i64.wrap (0+(a.length:Int))=(a.length:Int):=by rw[wrap64 (by omega) (by omega)];omega
 have h:IntKind.i64.wrap ((a.length:Int)+(b.length:Int))=(a.length:Int)+(b.length:Int):=wrap64 (by omega) (by omega)
 have c:IntKind.i64.wrap (0+1)=1:=by decide
 have d:IntKind.i64.wrap (1+1)=2:=by decide
 have i: ¬ (a.length:Int)<0:=by omega
 have j: ¬ (a.length:Int)+(b.length:Int)<0:=by omega
 have ap1:fK 16 (.list []) (SL a)=some (SL a):=by
  unfold SL dV
  rw[eR,if_pos (by simp only[aZ,aF,A4];omega)]
  rfl
 have ap2:fK 16 (SL a) (SL b)=some (SL (a++b)):=by
  unfold SL dV
  rw[eR,if_pos (by simp only[aF,A4];omega),cG]
 have i0:eO (.list [SL a,SL b]) (.int 0)=some (SL a):=rfl
 have i1:eO (.list [SL a,SL b]) (.int 1)=some (SL b):=rfl
 have e:O.len (.list [SL a,SL b])=some (.int 2):=rfl
 have lt0:decide ((0:Int)<2)=true:=by decide
 have lt1:decide ((1:Int)<2)=true:=by decide
 have lt2:decide ((2:Int)<2)=false:=by decide
 rw[A1j]
 simp only[e,aA]
 rw[Abt]
 simp only[bB,lt0,aA,aR,Zt,i0,cC,bR,w1,i,Ze,aB,Zf]
 rw[Aml]
 simp only[bR,c,aA]
 rw[Abt]
 simp only[bB,lt1,aA,aR,Zt,i1,cC,bR,h,j,Ze,aB,Zf]
 rw[Aml]
 simp only[bR,d,aA]
 rw[Abt]
 simp only[bB,lt2,aA,aR,aB,Zf,Bai,g,bH,e]
 rw[Aa0]
 simp only[bB,lt0,aA,aR,Zt,i0,ap1,bR,c]
 rw[Aa0]
 simp only[bB,lt1,aA,aR,Zt,i1,ap2,bR,d]
 rw[Aa0]
 simp only[bB,lt2,aA,aR,aB,Zf]
theorem A9t (a b:List ByteArray)(c:a.length<=1048576)(d:b.length<=1048576):W Bcy 0 [SL a,SL b]=some [SL (Wh (a++b))]:=by
 rw[A01]
 simp only[fR,aA,A5a a b c d,bH,Bc7 (l:=a++b) (by simp only[aO];omega)]
def inB (l:List ByteArray)(s:ByteArray):Bool:=l.any λt=>decide (s=t)
theorem Aap {l:List ByteArray}{s:ByteArray} :inB l s=true↔s∈l:=by
 unfold inB;rw[List.any_eq_true]
 constructor
 ·rintro⟨t,a,b⟩;rw[of_decide_eq_true b];exact a
 ·intro h;exact⟨s,h,by simp⟩
theorem Ns (k:ByteArray)(ks:List ByteArray)(s:ByteArray):inB (k::ks) s=(decide (s=k)||inB ks s):=rfl
def Sx (ks:List ByteArray):List IV:=ks.map λk=> .agg [.str k,.bool true]
theorem Arv (s t:ByteArray):(IV.str s).Oq (.str t)=some (decide (s=t)):=by
 have:(s.toList == t.toList)=decide (s=t):=by
  rw[aS,beq_iff_eq,decide_eq_true_iff];exact O.R8
 simp only[IV.Oq,this]
theorem Wq (s:ByteArray): ∀ks:List ByteArray,Ta (.str s) (Sx ks)=some (if inB ks s then some (.bool true) else none)
 | []=>rfl
 | k::ks=>by
  have a:=Wq s ks
  unfold Sx at a ⊢
  simp only[bN,Ta,Arv]
  by_cases h:s=k
  ·subst h;simp[Ns]
  ·simp only[h,Ze,a,Ns,dX]
theorem Asi (s:ByteArray): ∀ks:List ByteArray,Aup (.str s) (.bool true) (Sx ks)=some (Sx (if inB ks s then ks else ks++ [s]))
 | []=>rfl
 | k::ks=>by
  have a:=Asi s ks
  unfold Sx at a ⊢
  simp only[bN,Aup,Arv]
  by_cases h:s=k
  ·subst h;simp[Ns]
  ·simp only[h,Ze,a,Ns,dX,aI]
   cases inB ks s<;>simp
def Adc:List ByteArray->List ByteArray->List ByteArray
 | acc,[]=>acc
 | acc,s::l=>Adc (if inB acc s then acc else acc++ [s]) l
theorem Adn: ∀ (l acc:List ByteArray) (x:ByteArray),x∈Adc acc l↔x∈acc\/x∈l
 | [],acc,x=>by simp[Adc]
 | s::l,acc,x=>by
  rw[Adc,Adn l]
  by_cases h':inB acc s=true
  ·have h:=Aap.1 h'
   simp only[h',Zt,bJ]
   constructor
   ·rintro (a | a)
    ·exact .inl a
    ·exact .inr (.inr a)
   ·rintro (a | rfl | a)
    ·exact .inl a
    ·exact .inl h
    ·exact .inr a
  ·simp[h',or_assoc]
theorem Bbr (s:ByteArray)(ks:List ByteArray)(is:Bool):W Bbv 0 [.str s,.list (Sx ks),.bool is]=some [.bool (inB ks s !=is),.list (Sx ks),.bool is]:=by
 have c:O.Anx (.bool false) (.list (Sx ks)) (.str s)=some (.bool (inB ks s)):=by
  unfold O.Anx
  simp only[cZ,Wq,aI]
  cases inB ks s<;>simp
 have a: ∃b,O.Air (.list (Sx ks)) (.str s)=some (.bool b):=by
  unfold O.Air
  simp only[cZ,Wq,aI]
  exact⟨_,rfl⟩
 obtain⟨b,a⟩:=a
 rw[Axc]
 simp only[c,a,aA,O.A0p]
end Go.CT.Sch
namespace Go.CT.Sch
open Go.Proofs
def Acq (ks:List ByteArray)(is:Bool)(s:ByteArray):Bool:= !(inB ks s !=is)
theorem A26 (l ks:List ByteArray)(is:Bool)(e:l.length<=1099511627776): ∀ (n i:Nat),i+n=l.length->(∀p∈l.take i,Acq ks is p=true)->
  (W A8m 1 [SL l,.int l.length,.int i,.bool is,.list (Sx ks)]=some [.int (-1),.list (Sx ks),.bool is]/\ ∀p∈l,Acq ks is p=true)\/
  ∃j,∃h:j<l.length,W A8m 1 [SL l,.int l.length,.int i,.bool is,.list (Sx ks)]=some [.int (j:Nat),.list (Sx ks),.bool is]/\Acq ks is l[j]=false/\ ∀p∈l.take j,Acq ks is p=true
 | 0,i,h,hp=>by
  left
  rw[Aio]
  have g: ¬ i<l.length:=by omega
  rw[dP (by omega)]at hp
  refine⟨?_,hp⟩
  simp only[bB,Aj,g,Ze,aA,aR,aB,Zf]
 | n+1,i,h,hp=>by
  have a:i<l.length:=by omega
  have m:=A8 (i:=i) (by omega)
  have d:=dQ IV.str (aC a)
  rw[Aio]
  cases c:(inB ks l[i] !=is) with
  | true=>
   right
   refine⟨i,a,?_,by simp[Acq,c],hp⟩
   simp only[bB,Aj,a,Zd,aA,aR,Zt,d,Bbr,hE,c]
  | false=>
   have:=A26 l ks is e n (i+1) (by omega) (by
    intro p b
    rw[<-List.take_append_getElem a]at b
    rcases dE.1 b with h | h
    ·exact hp p h
    ·simp at h;subst h;simp[Acq,c])
   simp only[bB,Aj,a,Zd,aA,aR,Zt,d,Bbr,hE,c,aB,Zf,bR,m]
   exact this
theorem Ve (ks:List ByteArray)(is:Bool): ∀ (rest kept junk:List ByteArray),junk≠ []->kept.length+junk.length+rest.length<=1099511627776->
  W Avm 1 [.int kept.length,.int (kept.length+junk.length:Nat),.bool is,SL (kept++(junk++rest)),.list (Sx ks)]=some [SL (kept++rest.filter (Acq ks is)),.list (Sx ks),.bool is]
 | [],kept,junk,d,e=>by
  have r:=bZ.2 d
  rw[Aif,cC]
  have b: ¬ ((kept.length+junk.length:Nat):Int)<(kept++(junk++ [])).length :=by simp
  have o: ∀z:IV,O.clear z (SL (kept++(junk++ []))) (.int kept.length) (.int (kept++(junk++ [])).length)=some (.list (kept.map IV.str++List.replicate junk.length z)):=by
   intro z
   unfold O.clear SL dV
   simp only[cZ,bK,aF,aO,aH,true_and,aG,bP,and_true]
   rw[if_pos (by omega)]
   simp
  have t: ∀ys:List IV,O.slice (.list (kept.map IV.str++ys)) (.int 0) (.int kept.length)=some (SL kept):=by
   intro ys
   rw[O.Yt,if_pos (by simp only[aO,aF];omega)]
   simp[SL,dV]
  have a: ∃y,O.slice (SL (kept++(junk++ []))) (.int kept.length) (.int (kept++(junk++ [])).length)=some y:=by
   unfold SL dV
   rw[O.Yt,if_pos (by simp only[aO,aF];omega)]
   exact⟨_,rfl⟩
  obtain⟨y,a⟩:=a
  simp only[bK]at b o a
  simp only[bK,aA,bB,b,Ze,aR,aB,Zf,a,o,t,fA,bK]
 | v::rest,kept,[],d,e=>absurd rfl d
 | v::rest,kept,y::js,d,e=>by
  simp only[bA]at e
  rw[Aif,cC]
  have b:((kept.length+(y::js).length :Nat):Int)<(kept++(y::js++v::rest)).length :=by simp;omega
  have q:IntKind.i64.wrap (((kept.length+(y::js).length :Nat):Int)+1)=((kept.length+(y::js).length +1:Nat):Int):=by simp only[bA];rw[wrap64 (by omega) (by omega)];omega
  have g:IntKind.i64.wrap ((kept.length:Int)+1)=((kept.length+1:Nat):Int):=A8 (by omega)
  have gv:=dQ IV.str (Srt.C0 (l:=kept++(y::js++v::rest)) (A:=kept++y::js) (x:=v) (B:=rest) (by simp) (i:=kept.length+(y::js).length) (by simp))
  have gi:=dQ IV.str (Srt.C0 (l:=kept++(y::js++v::rest)) (A:=kept) (x:=y) (B:=js++v::rest) (by simp) (i:=kept.length) rfl)
  have st:=Srt.I4 (l:=kept++(y::js++v::rest)) (A:=kept) (x:=y) (y:=v) (B:=js++v::rest) (by simp) (i:=kept.length) rfl
  have h:kept.length<(kept++(y::js++v::rest)).length :=by simp
  rw[bT]
  cases c:(inB ks v !=is) with
  | true=>
   have j:=Ve ks is rest kept (y::js++ [v]) (by simp) (by simp;omega)
   have m:Acq ks is v=false:=by simp[Acq,c]
   simp only[aA,bB,b,Zd,aR,Zt,gv,Bbr,hE,c,cT,aV,aB,Zf,Amc,bR,q,m]
   rw[show kept.length+(y::js).length +1=kept.length+(y::js++ [v]).length by simp;omega]
   rw[<-j];simp
  | false=>
   have j:=Ve ks is rest (kept++ [v]) (js++ [v]) (by simp) (by simp;omega)
   have m:Acq ks is v=true:=by simp[Acq,c]
   simp only[aA,bB,b,Zd,aR,Zt,gv,Bbr,hE,c,cT,aY,gi,Srt.Atu IV.str h,st,bR,g,Amc,q,m]
   rw[show kept.length+(y::js).length +1=(kept++ [v]).length +(js++ [v]).length by simp;omega,show kept.length+1=(kept++ [v]).length by simp]
   rw[show kept++v::(js++v::rest)=kept++ [v]++(js++ [v]++rest) by simp,j]
   simp
theorem A5j (l ks:List ByteArray)(is:Bool)(h:l.length<=1099511627776):
  W Avm 0 [SL l,.list (Sx ks),.bool is]=some [SL (l.filter (Acq ks is)),.list (Sx ks),.bool is]:=by
 rw[A1l,A1e]
 have key:=A26 l ks is h l.length 0 (by omega) (by simp)
 simp only[aN]at key
 rcases key with⟨a,b⟩ | ⟨j,i,a,b,m⟩
 ·simp only[cC,aA,a,hE,aX,Zd,aR,Zt]
  rw[fN.2 b]
 ·have c: ¬ (j:Int)= -1:=by omega
  have d:IntKind.i64.wrap ((j:Int)+1)=((j+1:Nat):Int):=A8 (by omega)
  simp only[cC,aA,a,hE,aX,c,Ze,aR,aB,Zf,bR,d]
  have g:l=l.take j++([l[j]]++l.drop (j+1)):=by
   rw[dS,<-aD i,fC]
  have e:(l.take j).length =j:=by rw[eS];omega
  have o:(l.drop (j+1)).length =l.length - (j+1):=by rw[dB]
  have hd:=Ve ks is (l.drop (j+1)) (l.take j) [l[j]] (by simp) (by simp only[aQ];omega)
  rw[e,aQ,<-g]at hd
  rw[hd]
  have q:l.filter (Acq ks is)=l.take j++(l.drop (j+1)).filter (Acq ks is):=by
   conv=>lhs;rw[g]
   rw[eJ,eJ,fN.2 m]
   congr 1
   simp[b]
  rw[q]
theorem Aso (a b:List ByteArray)(is:Bool)(d:a.length<=1048576)(e:b.length<=1048576): ∀ (n i:Nat) (acc:List ByteArray),i+n=b.length->
  W A3i 1 [SL a,SL b,.int b.length,.int i,.bool is,.list (Sx acc)]=some [SL ((Wh a).filter (Acq (Adc acc (b.drop i)) is))]
 | 0,i,acc,h=>by
  have g: ¬ i<b.length:=by omega
  have hd:=A5j (Wh a) acc is (by have:=N9 a;omega)
  rw[A19]
  simp only[bB,Aj,g,Ze,aA,aR,aB,Zf,Bc7 (l:=a) (by omega),bH,hd,hE]
  rw[aE (by omega)];rfl
 | n+1,i,acc,h=>by
  have c:i<b.length:=by omega
  have j:=A8 (i:=i) (by omega)
  have m:=dQ IV.str (aC c)
  have o:O.Anu (.list (Sx acc)) (.str b[i]) (.bool true)=some (.list (Sx (if inB acc b[i]then acc else acc++ [b[i]]))):=by
   unfold O.Anu
   simp only[cZ,Asi,aI]
  rw[A19]
  simp only[bB,Aj,c,Zd,aA,aR,Zt,m,o,bR,j]
  rw[Aso a b is d e n (i+1) _ (by omega),aD c,Adc]
theorem A9o (a b:List ByteArray)(is:Bool)(c:a.length<=1048576)(d:b.length<=1048576):
  W A3i 0 [SL a,SL b,.bool is]=some [SL ((Wh a).filter (λs=>inB b s == is))]:=by
 have h:=Aso a b is c d b.length 0 [] (by omega)
 simp only[aN,aP]at h
 rw[Awk,cC]
 simp only[aA]
 refine h.trans ?_
 have e:Acq (Adc [] b) is=λs=>inB b s == is:=by
  funext s
  have:inB (Adc [] b) s=inB b s:=by
   rw[aS,Aap,Aap,Adn];simp
  unfold Acq
  rw[this]
  cases inB b s<;>cases is<;>rfl
 rw[e]
end Go.CT.Sch
namespace Go.CT.Sch
open Go.Proofs
def leB (s x:ByteArray):Bool:=blt s x||decide (s=x)
def W7 (s:ByteArray):Bool->List ByteArray->List ByteArray
 | d,[]=>if d then[]else[s]
 | d,x::r=>(if !d &&leB s x then[s]else[])++(if x=s then[]else[x])++W7 s (d||leB s x) r
theorem Q9 (s:ByteArray): ∀l,W7 s true l=l.filter λx=> !decide (x=s)
 | []=>rfl
 | x::r=>by
  rw[W7,dA,Q9 s r,bT]
  by_cases h:x=s<;>simp[h]
theorem Z3 (s x:ByteArray): ∀l,x∈W7 s false l↔x=s\/x∈l
 | []=>by simp[W7]
 | y::r=>by
  rw[W7]
  cases h:leB s y with
  | true=>
   rw[eE,Q9]
   by_cases a:y=s
   ·subst a
    by_cases c:x=y<;>simp[c]
   ·simp only[aY,bI,Zt,a,Zf,dE,fW,bW,gB,decide_eq_false_iff_not,bJ,gE,or_false]
    constructor
    ·rintro ((h | h) | h)
     ·exact .inl h
     ·exact .inr (.inl h)
     ·exact .inr (.inr h.1)
    ·rintro (h | h | h)
     ·exact .inl (.inl h)
     ·exact .inl (.inr h)
     ·by_cases b:x=s
      ·exact .inl (.inl b)
      ·exact .inr ⟨h,b⟩
  | false=>
   have a: ¬ y=s:=by rintro rfl;simp[leB]at h
   simp only[aY,bI,aB,Zf,a,bE,dE,fW,eY,Z3 s x r,bJ,gE,or_false]
   constructor
   ·rintro (h | h | h)
    ·exact .inr (.inl h)
    ·exact .inl h
    ·exact .inr (.inr h)
   ·rintro (h | h | h)
    ·exact .inr (.inl h)
    ·exact .inl h
    ·exact .inr (.inr h)
theorem Avc (s:ByteArray): ∀l,SS l->SS (W7 s false l)
 | [],_=>cF _ _
 | y::r,j=>by
  obtain⟨d,g⟩:=bC.1 j
  rw[W7]
  cases h:leB s y with
  | true=>
   rw[eE,Q9]
   have e:(if !false &&true then[s]else[])++(if y=s then[]else[y])++r.filter (λx=> !decide (x=s))=s::(y::r).filter (λx=> !decide (x=s)):=by
    rw[bT]
    by_cases g:y=s<;>simp[g]
   rw[e]
   refine bC.2 ⟨λx a=>?_,dZ _ j⟩
   simp only[bW,gB,decide_eq_false_iff_not]at a
   have b:blt s y=true\/s=y:=by simpa [leB]using h
   rcases bJ.1 a.1 with rfl | m
   ·exact b.resolve_right λe=>a.2 e.symm
   ·rcases b with h | rfl
    ·exact Gc h (d x m)
    ·exact d x m
  | false=>
   have o: ¬ y=s:=by rintro rfl;simp[leB]at h
   have i:blt y s=true:=by
    rcases Je s y with c | c | c
    ·simp[leB,c]at h
    ·exact absurd c.symm o
    ·exact c
   simp only[aY,bI,aB,Zf,o,bE,dS,eY]
   refine bC.2 ⟨λx a=>?_,Avc s r g⟩
   rcases(Z3 s x r).1 a with rfl | a
   ·exact i
   ·exact d x a
theorem Qi (s:ByteArray): ∀l,(W7 s false l).length <=l.length+1
 | []=>by simp[W7]
 | x::r=>by
  have b:=Qi s r
  have c:(if x=s then([]:List ByteArray) else[x]).length <=1:=by split<;>simp
  rw[W7,aO,aO,bA]
  cases h:leB s x with
  | true=>
   rw[eE,Q9]
   have:=dT (λx=> !decide (x=s)) r
   have a:(if(!false &&true)=true then[s]else[]).length =1:=rfl
   rw[a];omega
  | false=>
   have a:(if(!false &&false)=true then[s]else[]).length =0:=rfl
   rw[a,eY];omega
theorem Ass (l:List ByteArray)(s:ByteArray)(g:l.length<=1048576): ∀ (n i:Nat) (d:Bool) (out:List ByteArray),i+n=l.length->out.length<=i+(if d then 1 else 0)->
  W Ach 1 [SL l,.str s,.bool d,.int i,SL out]=some [SL (out++W7 s d (l.drop i))]
 | 0,i,d,out,h,a=>by
  have r: ¬ i<l.length:=by omega
  have ap:fK 16 (SL out) (.list [.str s])=some (SL (out++ [s])):=by
   have a:out.length<=i+1:=by cases d<;>simp at a<;>omega
   unfold SL dV
   rw[eR,if_pos (by simp only[aF,aQ,A4];omega)]
   simp
  rw[Am6,cC,aE (by omega)]
  cases d<;>simp[Aj,r,W7,ap]
 | n+1,i,d,out,h,a=>by
  have c:i<l.length:=by omega
  have j:=A8 (i:=i) (by omega)
  have e:=dQ IV.str (aC c)
  have ap: ∀ (o:List ByteArray) (t:ByteArray),o.length<=i+3->fK 16 (SL o) (.list [.str t])=some (SL (o++ [t])):=by
   intro o t a
   unfold SL dV
   rw[eR,if_pos (by simp only[aF,aQ,A4];omega)]
   simp
  -- the second half
  have half: ∀ (b:Bool) (o:List ByteArray),o.length<=i+(if b then 1 else 0)->W Ach 2 [SL l,.str s,.bool b,.int i,SL o]=some [SL (o++((if l[i]=s then[]else[l[i]])++W7 s b (l.drop (i+1))))]:=by
   intro b o a
   rw[Aya]
   by_cases m:l[i]=s
   ·have:=Ass l s g n (i+1) b o (by omega) (by omega)
    simp only[e,aA,gR,m,Zd,aV,aR,aB,Zf,Ain,bR,j,this,Zt,bE]
   ·have:=Ass l s g n (i+1) b (o++ [l[i]]) (by omega) (by rw[aO,aQ];omega)
    simp only[e,aA,gR,m,Ze,aY,aR,Zt,fR,ap o l[i] (by cases b<;>simp at a<;>omega),Ain,bR,j,this,Zf,bL]
  rw[Am6,cC,aD c,W7]
  have hle:O.sLe (.str s) (.str l[i])=some (.bool (leB s l[i])):=by rw[O.Agi,blt_eq];rfl
  cases d with
  | true=>
   simp only[aA,bB,Aj,c,Zd,aR,Zt,cT,aV,aB,Zf,dA,cL,bE]
   exact half true out a
  | false=>
   cases q:leB s l[i]with
   | true=>
    simp only[aA,bB,Aj,c,Zd,aR,Zt,cT,aY,e,hle,q,fR,ap out s (by simp at a;omega),eE,bI]
    have u:out.length<=i:=by simpa using a
    rw[half true (out++ [s]) (by rw[aO,aQ,if_pos rfl];omega)]
    simp
   | false=>
    simp only[aA,bB,Aj,c,Zd,aR,Zt,cT,aY,e,hle,q,aB,Zf,eY,gN,bE]
    exact half false out a
end Go.CT.Sch
namespace Go.CT.Sch
open Go.Proofs
theorem Bbw (l:List ByteArray)(s:ByteArray)(a:l.length<=1048576):W Ach 0 [SL l,.str s]=some [SL (W7 s false l)]:=by
 have:=Ass l s a l.length 0 false [] (by omega) (by simp)
 simp only[aN,aP,bE]at this
 rw[Awt]
 exact this
def Kx:List ByteArray->List ByteArray->List ByteArray
 | acc,[]=>acc
 | acc,s::l=>Kx (W7 s false acc) l
theorem Q8: ∀ (l acc:List ByteArray),SS acc->SS (Kx acc l)
 | [],_,h=>h
 | s::l,acc,h=>Q8 l _ (Avc s acc h)
theorem Na (x:ByteArray): ∀ (l acc:List ByteArray),x∈Kx acc l↔x∈acc\/x∈l
 | [],acc=>by simp[Kx]
 | s::l,acc=>by
  rw[Kx,Na x l,Z3,bJ]
  constructor
  ·rintro ((h | h) | h)
   ·exact .inr (.inl h)
   ·exact .inl h
   ·exact .inr (.inr h)
  ·rintro (h | h | h)
   ·exact .inl (.inr h)
   ·exact .inl (.inl h)
   ·exact .inr h
theorem Amy (l:List ByteArray): ∀ (n i:Nat) (acc:List ByteArray),i+n=l.length->acc.length+n<=1048576->l.length<=1048576->
  W Aom 2 [SL l,.int i,SL acc]=some [SL (Kx acc (l.drop i))]
 | 0,i,acc,h,c,b=>by
  have d: ¬ i<l.length:=by omega
  rw[Akb,cC,aE (by omega)]
  simp only[aA,bB,Aj,d,Ze,aR,aB,Zf,Kx]
 | n+1,i,acc,h,c,b=>by
  have a:i<l.length:=by omega
  have e:=A8 (i:=i) (by omega)
  have g:=dQ IV.str (aC a)
  have hp:=Qi l[i] acc
  have j:=Amy l n (i+1) (W7 l[i] false acc) (by omega) (by omega) b
  rw[Akb,cC,aD a,Kx]
  simp only[aA,bB,Aj,a,Zd,aR,Zt,g,Bbw acc l[i] (by omega),bH,bR,e,j]
theorem Ai0 (a b:List ByteArray): ∀ (n i:Nat) (acc:List ByteArray),i+n=a.length->acc.length+n+b.length<=1048576->a.length<=1048576->
  W Aom 1 [SL a,SL b,.int i,SL acc]=some [SL (Kx (Kx acc (a.drop i)) b)]
 | 0,i,acc,h,g,d=>by
  have j: ¬ i<a.length:=by omega
  have e:=Amy b b.length 0 acc (by omega) (by omega) (by omega)
  simp only[aN,aP]at e
  rw[Alm,cC,aE (by omega)]
  simp only[aA,bB,Aj,j,Ze,aR,aB,Zf,Kx]
  exact e
 | n+1,i,acc,h,g,d=>by
  have c:i<a.length:=by omega
  have m:=A8 (i:=i) (by omega)
  have o:=dQ IV.str (aC c)
  have hp:=Qi a[i] acc
  have q:=Ai0 a b n (i+1) (W7 a[i] false acc) (by omega) (by omega) d
  rw[Alm,cC,aD c,Kx]
  simp only[aA,bB,Aj,c,Zd,aR,Zt,o,Bbw acc a[i] (by omega),bH,bR,m,q]
theorem union_eq (a b:List ByteArray):Kx (Kx [] a) b=Wh (a++b):=
 SS.ext (Q8 b _ (Q8 a _ cQ)) (Vx _) λx=>by rw[Na,Na,P8,dE];simp
theorem A3u (a b:List ByteArray)(c:a.length+b.length<=1048576):W Aom 0 [SL a,SL b]=some [SL (Wh (a++b))]:=by
 have:=Ai0 a b a.length 0 [] (by omega) (by simp only[aZ];omega) (by omega)
 simp only[aN,aP,union_eq]at this
 rw[Ayl]
 exact this
theorem A2a (l:List ByteArray)(s:ByteArray)(g:l.length<=1048576): ∀ (n i:Nat),i+n=l.length->W Avy 1 [SL l,.str s,.int i]=some [.bool (inB (l.drop i) s)]
 | 0,i,h=>by
  have j: ¬ i<l.length:=by omega
  rw[Akm,cC,aE (by omega)]
  simp only[aA,bB,Aj,j,Ze,aR,aB,Zf];rfl
 | n+1,i,h=>by
  have a:i<l.length:=by omega
  have m:=A8 (i:=i) (by omega)
  have d:=dQ IV.str (aC a)
  have o:=A2a l s g n (i+1) (by omega)
  rw[Akm,cC,aD a,Ns]
  by_cases b:l[i]=s
  ·simp only[aA,bB,Aj,a,Zd,aR,Zt,d,fQ,b,dA]
  ·have c: ¬ s=l[i]:=λe=>b e.symm
   simp only[aA,bB,Aj,a,Zd,aR,Zt,d,fQ,b,c,Ze,aB,Zf,dX,bR,m,o]
theorem A82 (l:List ByteArray)(s:ByteArray)(a:l.length<=1048576):W Avy 0 [SL l,.str s]=some [.bool (inB l s)]:=by
 have:=A2a l s a l.length 0 (by omega)
 simp only[aN,aP]at this
 rw[Awj];exact this
theorem Zl (a b:List ByteArray)(c:b.length<=1048576): ∀ (n i:Nat) (acc:List ByteArray),i+n=a.length->acc.length+n<=1048576->a.length<=1048576->
  W Aqq 1 [SL a,SL b,.int i,SL acc]=some [SL (Kx acc ((a.drop i).filter (inB b)))]
 | 0,i,acc,h,e,g=>by
  have r: ¬ i<a.length:=by omega
  rw[Ait,cC,aE (by omega)]
  simp only[aA,bB,Aj,r,Ze,aR,aB,Zf,fA,Kx]
 | n+1,i,acc,h,e,g=>by
  have d:i<a.length:=by omega
  have m:=A8 (i:=i) (by omega)
  have o:=dQ IV.str (aC d)
  have hp:=Qi a[i] acc
  rw[Ait,cC,aD d,bT]
  cases q:inB b a[i]with
  | true=>
   have j:=Zl a b c n (i+1) (W7 a[i] false acc) (by omega) (by omega) g
   simp only[aA,bB,Aj,d,Zd,aR,Zt,o,A82 b a[i] c,q,bH,Bbw acc a[i] (by omega),Akg,bR,m,j,Kx]
  | false=>
   have j:=Zl a b c n (i+1) acc (by omega) (by omega) g
   simp only[aA,bB,Aj,d,Zd,aR,Zt,o,A82 b a[i] c,q,bH,aB,Zf,Akg,bR,m,j]
theorem Abv (a b:List ByteArray)(c:b.length<=1048576): ∀ (n i:Nat) (acc:List ByteArray),i+n=a.length->acc.length+n<=1048576->a.length<=1048576->
  W Avs 1 [SL a,SL b,.int i,SL acc]=some [SL (Kx acc ((a.drop i).filter λs=> !inB b s))]
 | 0,i,acc,h,e,g=>by
  have r: ¬ i<a.length:=by omega
  rw[Ajy,cC,aE (by omega)]
  simp only[aA,bB,Aj,r,Ze,aR,aB,Zf,fA,Kx]
 | n+1,i,acc,h,e,g=>by
  have d:i<a.length:=by omega
  have m:=A8 (i:=i) (by omega)
  have o:=dQ IV.str (aC d)
  have hp:=Qi a[i] acc
  rw[Ajy,cC,aD d,bT]
  cases q:inB b a[i]with
  | false=>
   have j:=Abv a b c n (i+1) (W7 a[i] false acc) (by omega) (by omega) g
   simp only[aA,bB,Aj,d,Zd,aR,Zt,o,A82 b a[i] c,q,bH,cT,aY,Bbw acc a[i] (by omega),Aj9,bR,m,j,Kx]
  | true=>
   have j:=Abv a b c n (i+1) acc (by omega) (by omega) g
   simp only[aA,bB,Aj,d,Zd,aR,Zt,o,A82 b a[i] c,q,bH,cT,aV,aB,Zf,Aj9,bR,m,j]
def Om (a b:List ByteArray):List ByteArray:=(Wh a).filter λs=> !inB b s
def Hp (a b:List ByteArray):List ByteArray:=(Wh a).filter λs=>inB b s
theorem Acf {l:List ByteArray}(h:SS l)(p:ByteArray->Bool):SS (l.filter p):=dZ p h
theorem A1y (a b:List ByteArray)(c:a.length<=1048576)(d:b.length<=1048576):W Aqq 0 [SL a,SL b]=some [SL (Hp a b)]:=by
 have:=Zl a b d a.length 0 [] (by omega) (by simp only[aZ];omega) c
 simp only[aN,aP]at this
 rw[Azb]
 refine this.trans ?_
 rw[SS.ext (Q8 _ _ cQ) (Acf (Vx a) (inB b)) λx=>by rw[Na,bW,bW,P8];simp]
 rfl
theorem Bba (a b:List ByteArray)(c:a.length<=1048576)(d:b.length<=1048576):W Avs 0 [SL a,SL b]=some [SL (Om a b)]:=by
 have:=Abv a b d a.length 0 [] (by omega) (by simp only[aZ];omega) c
 simp only[aN,aP]at this
 rw[Awx]
 refine this.trans ?_
 rw[SS.ext (Q8 _ _ cQ) (Acf (Vx a) λs=> !inB b s) λx=>by rw[Na,bW,bW,P8];simp]
 rfl
theorem A2f (a b:List ByteArray)(c:a.length<=1048576)(d:b.length<=1048576):W Aqd 0 [SL a,SL b]=some [SL (Om a b)]:=by
 rw[Axj,A9o a b false c d]
 simp only[bH]
 congr 3
 unfold Om;congr 1;funext s;cases inB b s<;>rfl
theorem A3n (a b:List ByteArray)(c:a.length<=1048576)(d:b.length<=1048576):W Bb8 0 [SL a,SL b]=some [SL (Hp a b)]:=by
 rw[A0h,A9o a b true c d]
 simp only[bH]
 congr 3
 unfold Hp;congr 1;funext s;cases inB b s<;>rfl
theorem Acb (a b:List ByteArray):(Om a b).length <=a.length:=dO (dT _ _) (N9 a)
end Go.CT.Sch
namespace Go.CT.Sch
open Go.Proofs
abbrev Kid:=Stp × Val × Option Sch
def Avq (key:ByteArray)(x:Val):Stp:=⟨3,key,0,Ir x key⟩
def Gn (key:ByteArray):List ByteArray->List Val->Bool
 | _,[]=>true
 | met,x::l=>isKey x key&& !inB met (Ir x key)&&Gn key (met++ [Ir x key]) l
def kids:Option Sch->Val->List Kid
 | none,_=> []
 | some s,v=>if s.k=v.k then(if v.k=5 then v.f.map λx=>(C3 x.1,x.2,Gh s x.1) else if v.k=4/\s.key≠Ar/\Gn s.key [] v.l=true then v.l.map λx=>(Avq s.key x,x,s.it.head?) else[]) else[]
def A5v (s:ByteArray):Val:=⟨3,0,s,[],[]⟩
def lv:Nat->Option Sch->Val->List Stp->List ByteArray
 | 0,_,_,_=> []
 | d+1,o,v,p=>if kids o v= []then[C9 p]else(kids o v).flatMap λx=>lv d x.2.2 x.2.1 (p++ [x.1])
def A4o (r:Kid->Val × Bool)(l:List Kid):List (Stp × Val):=l.filterMap λx=>if(r x).2 then some (x.1,(r x).1) else none
def fieldsOf (l:List (Stp × Val)):List (ByteArray × Val):=l.map λx=>(x.1.nm,x.2)
def A63 (l:List (Stp × Val)):List Val:=l.map λx=>Bc4 x.2 x.1.nm (A5v x.1.vl)
def pt:Nat->Option Sch->Val->List Stp->(ByteArray->Bool)->Val × Bool
 | 0,_,v,_,_=>(v,false)
 | d+1,o,v,p,ch=>if kids o v= []then(v,ch (C9 p)) else
  (⟨
    v.k,0,Ar,if v.k=5 then[]else A63 (A4o (λx=>pt d x.2.2 x.2.1 (p++ [x.1]) ch) (kids o v)),
    if v.k=5 then fieldsOf (A4o (λx=>pt d x.2.2 x.2.1 (p++ [x.1]) ch) (kids o v)) else[]⟩,
   !(A4o (λx=>pt d x.2.2 x.2.1 (p++ [x.1]) ch) (kids o v)).isEmpty)
theorem Vk {o:Option Sch}{v:Val}{x:Kid}(h:x∈kids o v):x.2.1.size<v.size/\x.2.1.Aw<v.Aw:=by
 cases o with
 | none=>simp[kids]at h
 | some s=>
  rw[kids]at h
  split at h
  ·split at h
   ·obtain⟨p,hp,rfl⟩:=dR.1 h
    have:=eA hp
    exact⟨Val.Acd hp,by show p.2.Aw<v.Aw;omega⟩
   ·split at h
    ·obtain⟨p,hp,rfl⟩:=dR.1 h
     exact⟨Val.Acp hp,eH hp⟩
    ·simp at h
  ·simp at h
end Go.CT.Sch
namespace Go.CT.Sch
open Go.Proofs
theorem Alc {α β R:Type}(l:List α)(I:Nat->β->Prop)(F:Nat->β->R)(step:β->α->β)(fin:β->R)
  (g: ∀i (a:i<l.length) b,I i b->F i b=F (i+1) (step b l[i])/\I (i+1) (step b l[i])) (j: ∀b,I l.length b->F l.length b=fin b):
  ∀ (n i:Nat) (b:β),i+n=l.length->I i b->F i b=fin ((l.drop i).foldl step b)
 | 0,i,b,h,c=>by
  have:i=l.length:=by omega
  subst this
  rw[j b c,List.drop_length];rfl
 | n+1,i,b,h,c=>by
  have a:i<l.length:=by omega
  obtain⟨e,d⟩:=g i a b c
  rw[e,Alc l I F step fin g j n (i+1) _ (by omega) d,aD a];rfl
theorem Aqx {α β R:Type}(l:List α)(I:Nat->β->Prop)(F:Nat->β->R)(step:β->α->β)(fin:β->R)(b:β)
  (a: ∀i (e:i<l.length) b,I i b->F i b=F (i+1) (step b l[i])/\I (i+1) (step b l[i])) (c: ∀b,I l.length b->F l.length b=fin b) (d:I 0 b):
  F 0 b=fin (l.foldl step b):=by
 have:=Alc l I F step fin a c l.length 0 b (by omega) d
 rwa [aP]at this
theorem Qa {α β:Type}(g:α->β): ∀ (l:List α) (b:List β),l.foldl (λb x=>b++ [g x]) b=b++l.map g
 | [],b=>by simp
 | x::l,b=>by rw[List.foldl_cons,Qa g l];simp
theorem Jt {α:Type}(enc:α->IV){l:List α}{i:Nat}(h:i<l.length):eO (.list (l.map enc)) (.int i)=some (enc l[i]):=by
 simp only[cD,aH,Zt,aG,aJ,aC h,aI]
theorem Gg {α:Type}(enc:α->IV)(l:List α):O.len (.list (l.map enc))=some (.int l.length):=by rw[bY,aF]
theorem apm {α:Type}(enc:α->IV){n:Nat}(l:List α)(x:α)(b:l.length<=137438953471)(a:n<=1024:=by decide):fK n (.list (l.map enc)) (.list [enc x])=some (.list ((l++ [x]).map enc)):=by
 rw[eR,if_pos]
 ·simp
 ·have:(l.length+1) * n<=137438953472 * 1024:=aW (by omega) a
  simp only[aF,aQ]
  unfold A4;omega
theorem lti {i n:Nat}(h:i<n):O.lt (.int i) (.int n)=some (.bool true):=by rw[bB];simp;omega
theorem ltn (n:Nat):O.lt (.int n) (.int n)=some (.bool false):=by rw[bB];simp
theorem nxt {i:Nat}(h:i<4611686018427387904):O.add .i64 (.int i) (.int 1)=some (.int ((i+1:Nat):Int)):=by rw[bR,A8 (by omega)]
def H4 (x:Kid):IV:= .agg [.int x.1.k,.str x.1.nm,.int x.1.ix,.str x.1.vl,.int x.2.1.k,.int x.2.1.n,.str x.2.1.s,.list (x.2.1.l.map bS),.list (x.2.1.f.map bG),
 .int (x.2.2.getD Bw).k,.int (x.2.2.getD Bw).mn,.int (x.2.2.getD Bw).mx,.list ((x.2.2.getD Bw).en.map .str),.str (x.2.2.getD Bw).key,.list ((x.2.2.getD Bw).it.map gX),.list ((x.2.2.getD Bw).f.map cS),.bool x.2.2.isSome]
theorem Awr (x:Kid):gY 0 4 (H4 x)=some x.1.enc:=rfl
theorem A5q (x:Kid):gY 4 5 (H4 x)=some x.2.1.enc:=by rw[Val.En,eI];rfl
theorem A6y (x:Kid):gY 9 7 (H4 x)=some (x.2.2.getD Bw).enc :=by rw[Sch.En,Sch.Ck];rfl
theorem kid4 (x:Kid):dU 4 (H4 x)=some (.int x.2.1.k):=rfl
theorem kid9 (x:Kid):dU 9 (H4 x)=some (.int (x.2.2.getD Bw).k):=rfl
theorem Bco (x:Kid):dU 13 (H4 x)=some (.str (x.2.2.getD Bw).key):=rfl
theorem Bcv (x:Kid):dU 16 (H4 x)=some (.bool x.2.2.isSome):=rfl
theorem Ajd (s:Sch)(p:ByteArray × Val)(d:s.Aw<=1099511627776): ∀ (n i:Nat),i+n=s.f.length->
  ∃r:Int,W A7c 1 [.list (s.f.map cS),bG p,.int s.f.length,.int i]=some [.int r]/\
   ((((s.f.drop i).find? λq=>decide (q.nm=p.1))=none/\r<0)\/(∃j:Nat,r=j/\s.f[j]?=((s.f.drop i).find? λq=>decide (q.nm=p.1))/\((s.f.drop i).find? λq=>decide (q.nm=p.1)).isSome =true))
 | 0,i,h=>by
  rw[Aj5]
  have b: ¬ i<s.f.length:=by omega
  refine⟨-1,by simp[b],.inl ⟨by simp[aE (bD b)],by omega⟩⟩
 | n+1,i,h=>by
  have a:i<s.f.length:=by omega
  have m:=s.A7
  obtain⟨r,e,g⟩:=Ajd s p d n (i+1) (by omega)
  rw[Aj5,aD a,bV]
  simp only[lti a,aA,aR,Zt,Jt cS a,Aye,eF,dC,fQ,bH,nxt (show i<4611686018427387904 by omega),e]
  by_cases c:s.f[i].nm =p.1
  ·refine⟨i,by simp[c],.inr ⟨i,rfl,by simp[c],by simp[c]⟩⟩
  ·have c':decide (s.f[i].nm =p.1)=false:=by simpa using c
   simp only[c',aB,Zf]
   exact⟨r,rfl,g⟩
def H2 (s:Sch)(x:ByteArray × Val):Kid:=(C3 x.1,x.2,Gh s x.1)
theorem Aog (s:Sch)(v:Val)(z:s.Aw<=1099511627776)(G:v.Aw<=1048576):W Ank 0 [s.enc,v.enc]=some [.list ((v.f.map (H2 s)).map H4)]:=by
 have H:=v.A7
 rw[Awd]
 simp only[cN,aA,Gg]
 refine(Aqx v.f (λi (b:List Kid)=>b.length=i) (λi b=>W Ank 1 [.list (v.f.map bG),.int v.f.length,.int i,s.enc,.list (b.map H4)]) (λb x=>b++ [H2 s x]) (λb=>some [.list (b.map H4)]) [] ?_ ?_ rfl).trans ?_
 ·intro i u b w
  refine⟨?_,by simp[w]⟩
  rw[A10]
  have g: ∀ (o:Option Sch),Gh s v.f[i].1 =o->W Ank 2 [.list (v.f.map bG),.int v.f.length,.int i,s.enc,.list (b.map H4),.int 1,.str v.f[i].1,.int 0,.str ⟨#[]⟩,.int v.f[i].2.k,.int v.f[i].2.n,.str v.f[i].2.s,.list (v.f[i].2.l.map bS),.list (v.f[i].2.f.map bG),
    .int (o.getD Bw).k,.int (o.getD Bw).mn,.int (o.getD Bw).mx,.list ((o.getD Bw).en.map .str),.str (o.getD Bw).key,.list ((o.getD Bw).it.map gX),.list ((o.getD Bw).f.map cS),.bool o.isSome]=
    W Ank 1 [.list (v.f.map bG),.int v.f.length,.int (i+1:Nat),s.enc,.list ((b++ [H2 s v.f[i]]).map H4)]:=by
   rintro o rfl
   have A:=apm H4 (n:=248) b (H2 s v.f[i]) (by omega)
   rw[Ayb]
   simp only[fB,fR,aA,nxt (show i<4611686018427387904 by omega)]
   have B:(IV.agg [.int 1,.str v.f[i].1,.int 0,.str ⟨#[]⟩,.int v.f[i].2.k,.int v.f[i].2.n,.str v.f[i].2.s,.list (v.f[i].2.l.map bS),.list (v.f[i].2.f.map bG),
    .int ((Gh s v.f[i].1).getD Bw).k,.int ((Gh s v.f[i].1).getD Bw).mn,.int ((Gh s v.f[i].1).getD Bw).mx,.list (((Gh s v.f[i].1).getD Bw).en.map .str),.str ((Gh s v.f[i].1).getD Bw).key,.list (((Gh s v.f[i].1).getD Bw).it.map gX),.list (((Gh s v.f[i].1).getD Bw).f.map cS),.bool (Gh s v.f[i].1).isSome])=H4 (H2 s v.f[i]):=rfl
   rw[B,A];rfl
  simp only[lti u,aA,aR,Zt,Jt bG u,dC,dG,dN,gL,gC,cU,cN,eB,Gg,cX]
  cases c:s.it with
  | cons t ts=>
   have a:Gh s v.f[i].1 =some t:=by unfold Gh;rw[c]
   have:=g (some t) a
   simp only[cE,cM]at this
   have h:(0:Int)<((t::ts).length :Nat):=by simp
   simp only[h,Zd,Zt,bN,cD,cR,cB,bO,aA,gD,dJ,dK,dW,eK,eB,dH]
   exact this
  | nil=>
   have a:Gh s v.f[i].1 =(s.fld v.f[i].1).map (·.s):=by unfold Gh;rw[c]
   obtain⟨r,C,m⟩:=Ajd s v.f[i] z s.f.length 0 (by omega)
   have q:W A7c 0 [.list (s.f.map cS),bG v.f[i]]=some [.int r]:=by
    rw[Aw6]
    simpa using C
   simp only[aP]at m
   have E:(s.f.find? λp=>decide (p.nm=v.f[i].1))=s.fld v.f[i].1 :=rfl
   rw[E]at m
   have h: ¬ (0:Int)<(([]:List Sch).length :Nat):=by simp
   simp only[h,Ze,aB,Zf,dH,aA,q,bH,fF,aR]
   rcases m with⟨e,y⟩ | ⟨j,rfl,e,y⟩
   ·have F: ¬ (0:Int)<=r:=by omega
    have:=g none (by rw[a,e];rfl)
    simp only[eT,dI]at this
    simp only[F,Ze,aB,Zf]
    exact this
   ·obtain⟨d,hd⟩:=eP.1 y
    rw[hd]at e
    have:=g (some d.s) (by rw[a,hd];rfl)
    simp only[cE,cM]at this
    simp only[aH,Zd,Zt,cD,aG,aJ,e,aI,aA,fY,gD,dJ,dK,dW,eK,eB,dH]
    exact this
 ·intro b w
  rw[A10]
  simp only[ltn,aA,aR,aB,Zf]
 ·rw[Qa];rfl
end Go.CT.Sch
