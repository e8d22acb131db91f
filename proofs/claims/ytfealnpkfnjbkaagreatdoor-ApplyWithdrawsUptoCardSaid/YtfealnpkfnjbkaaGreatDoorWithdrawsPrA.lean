import Derived.Test.YtfealnpkfnjbkaaGreatDoorTabA
import Derived.Test.YtfealnpkfnjbkaaGreatDoorCtC
import Derived.Test.YtfealnpkfnjbkaaGreatDoorLib
set_option linter.unusedVariables false
set_option linter.unusedSimpArgs false
open Array renaming toList_extract->fM
open Bool renaming false_eq_true->aB,and_eq_true->aL,eq_iff_iff->aT,not_true->aV,not_false->aY,true_and->bJ,and_true->cL,false_and->cM,eq_false_iff->dB,true_or->dX,false_or->eD,or_eq_true->eH,or_true->eK,or_self->fF,not_eq_true'->gG,and_false->gT,not_not->hJ
open ByteArray renaming size_append->aM,toList_data_append->aR,append_assoc->bF,data_extract->fA
open Go.CT.Fld renaming enc->bG,Bs->dG,J7->dL,Dj->iH
open Go.CT.O renaming Aa->aS,eq_int->aW,Ah->bA,Ae->bI,Al->bR,Ao->bZ,Ai->cE,Ar->cV,B5->cW,Bg->cZ,proj->dH,Ci->eI,index->eU,Ge->eV,Bm->eW,Ba->fB,Gq->fH,Cz->fI,Cg->fN,append->fQ,Az->fX,Mq->gB,C4->gH,Ed->gX,Dg->gY,projs->iC,Ih->iE,Kn->iI
open Go.CT.Prim renaming ev->dD
open Go.CT.SFld renaming enc->cS,Bs->eL,Q3->gD,Dj->hQ
open Go.CT.Sch renaming Io->dM,Dj->dO,Ep->dP,Cc->eC,Hz->eG,Cm->eP,Gw->fP,Dw->fY,Bs->gJ,enc->iB
open Go.CT.Srt renaming len->cT,LE->eB,idx->eT,eqv->iK
open Go.CT.Val renaming enc->bT,Cm->cO,Cc->cU,Bs->dU,Dw->eF,ind->eJ,E8->eM,Bl->eN,valid->fS,get->gC,Ep->gI,Dj->gR,B4->iF,Da->iG,Atr->iL
open Int renaming toNat_natCast->aG,natCast_nonneg->aH,cast_ofNat_Int->aN,toNat_zero->cD,le_refl->cR,eq_ofNat_of_zero_le->cX,ofNat_eq_natCast->eE,not_lt->gU,not_le->gV
open List renaming getElem?_eq_getElem->aC,length_map->aD,drop_eq_getElem_cons->aE,drop_of_length_le->aF,getElem?_map->aJ,getElem_mem->aK,length_append->aO,drop_zero->aP,length_singleton->aQ,length_eq_zero_iff->aU,length_cons->aZ,length_nil->bB,pairwise_cons->bC,nil_append->bE,mem_cons->bH,append_nil->bK,append_assoc->bL,all_eq_true->bM,map_cons->bN,getElem?_cons_zero->bO,map_nil->bQ,all_cons->bU,length_eq_one_iff->bV,find?_cons->bW,length_pos_iff->bX,filter_cons->bY,flatMap_cons->cC,pairwise_singleton->cF,map_append->cG,mem_filter->cH,all_nil->cI,append_eq_nil_iff->cJ,mem_of_find?_eq_some->cP,mem_cons_of_mem->cQ,flatMap_nil->cY,length_filter_le->dA,length->dC,length_drop->dF,mem_append->dK,mem_singleton->dQ,mem_cons_self->dR,take_of_length_le->dW,mem_map->dZ,singleton_append->eA,filter_append->eO,exists_cons_of_ne_nil->eQ,extract_eq_take_drop->eR,pairwise_iff_getElem->eS,length_take->eX,flatMap_eq_nil_iff->eZ,filter_eq_nil_iff->fD,headD_cons->fG,take_append_drop->fJ,set_getElem_self->fL,take_zero->fO,mem_map_of_mem->fT,filter_eq_self->fU,any_cons->fW,mem_mergeSort->gA,pairwise_map->gF,not_mem_nil->gK,find?_some->gP,mem_range->gW,range->iJ
open List.Pairwise renaming nil->dY,filter->fR
open List.cons renaming injEq->gN,inj->gZ
open Nat renaming mul_le_mul->aX,le_of_not_lt->bD,le_refl->bP,mul_add->cK,le_trans->dE,add_assoc->dI,zero_le->dS,pos_of_ne_zero->fZ,add_zero->gE,add_mul->gL,one_mul->gM,zero_add->hZ,toUInt8->iD
open Option renaming bind_some->aA,map_some->aI,getD_some->cB,isSome_some->cN,isSome_iff_exists->dJ,isSome_none->dN,getD_none->eY,map_eq_some_iff->fE,map_none->gQ,or_none->gS
open UInt8 renaming lt_iff_toNat_lt->fK,toNat_inj->gO
namespace Go.CT.Sch
open Go.Proofs
theorem A30 (c:UInt8):(0:Int)<=c.toNat/\(c.toNat:Int)<=255:=by
 have:=c.toNat_lt;omega
theorem H6 {s:ByteArray}{i:Nat}(h:i<s.size):s.data.toList.drop i=s[i]::s.data.toList.drop (i+1):=by
 rw[aE (by simpa using h)];rfl
theorem Ah0 (s:ByteArray)(g:s.size<=4611686018427387904): ∀ (n i:Nat),i+n=s.size->W F10 1 [.str s,.int i]=some [.bool ((s.data.toList.drop i).all Iz&&decide (s.size<=200))]
 | 0,i,h=>by
  rw[Av6]
  have j: ¬ i<s.size:=by omega
  have m:s.data.toList.drop i= []:=aF (by simp;omega)
  have u:decide ((s.size:Int)<=200)=decide (s.size<=200):=by simp;omega
  simp[j,m]
  omega
 | n+1,i,h=>by
  have b:i<s.size:=by omega
  have o:=Ah0 s g n (i+1) (by omega)
  have q:=Bd (i:=i) (by omega)
  rw[Av6,H6 b]
  have r:=A30 s[i]
  generalize t:s[i]=c at r
  have e1:Iz c= !(decide (¬ (c.toNat:Int)=10/\((c.toNat:Int)<32\/(126:Int)<c.toNat))):=by
   unfold Iz
   rw[aT]
   simp
   omega
  simp only[cZ,aA,bA,Aj,b,Zd,aS,Zt,iE,aH,aG,A8t b,t,aI,eI,bU,e1,bR,q,o]
  by_cases a:(c.toNat:Int)=10
  ·simp[a]
  ·by_cases d:(c.toNat:Int)<32
   ·simp[a,d]
   ·by_cases e:(126:Int)<c.toNat
    ·simp[a,d,e]
    ·simp[a,d,e]
theorem Azc (s:ByteArray)(a:s.size<=4611686018427387904):W F10 0 [.str s]=some [.bool (Jw s)]:=by
 rw[Bb8]
 exact Ah0 s a s.size 0 (by omega)
theorem Aaq (s:ByteArray)(b:s.size<=4611686018427387904): ∀ (n i:Nat),i+n=s.size->W F14 1 [.str s,.int i]=some [.bool ((s.data.toList.drop i).all Bv&&decide (1<=s.size/\s.size<=40))]
 | 0,i,h=>by
  rw[Aub]
  have d: ¬ i<s.size:=by omega
  have e:s.data.toList.drop i= []:=aF (by simp;omega)
  have g:((s.size:Int)<=40)=(s.size<=40):=by simp;omega
  simp[d,e,g]
  have:((1:Int)<=s.size)=(1<=s.size):=by simp;omega
  by_cases c:1<=s.size<;>simp[this,c]
 | n+1,i,h=>by
  have a:i<s.size:=by omega
  have j:=Aaq s b n (i+1) (by omega)
  have m:=Bd (i:=i) (by omega)
  rw[Aub,H6 a]
  generalize o:s[i]=c
  have e1:Bv c= !(decide (¬ (((97:Int)<=c.toNat/\(c.toNat:Int)<=122)\/((65:Int)<=c.toNat/\(c.toNat:Int)<=90))/\ ¬ ((48:Int)<=c.toNat/\(c.toNat:Int)<=57)/\ ¬ (c.toNat:Int)=45/\ ¬ (c.toNat:Int)=95/\ ¬ (c.toNat:Int)=47)):=by
   unfold Bv
   rw[aT]
   simp
   omega
  simp only[cZ,aA,bA,Aj,a,Zd,aS,Zt,iE,aH,aG,A8t a,o,aI,fH,eV,eI,bU,e1,bR,m,j]
  by_cases q:(97:Int)<=c.toNat<;>by_cases r:(c.toNat:Int)<=122<;>by_cases t:(65:Int)<=c.toNat<;>by_cases u:(c.toNat:Int)<=90<;>by_cases w:(48:Int)<=c.toNat<;>by_cases x:(c.toNat:Int)<=57<;>simp[q,r,t,u,w,x]<;>
   by_cases y:(c.toNat:Int)=45<;>by_cases z:(c.toNat:Int)=95<;>by_cases A:(c.toNat:Int)=47<;>simp[y,z,A]
theorem Anj (s:ByteArray)(a:s.size<=4611686018427387904):W F14 0 [.str s]=some [.bool (C5 s)]:=by
 rw[Bb0]
 exact Aaq s a s.size 0 (by omega)
end Go.CT.Sch
namespace Go.CT.Sch
open Go.Proofs
theorem Dx:(⟨#[]⟩:ByteArray)=Am:=rfl
theorem Aje (d:Nat)(o:Option ByteArray)(p:ByteArray × Val)(r:List (ByteArray × Val)):Aui d o (p::r)=(C5 p.1&&(match o with | none=>true | some q=>blt q p.1)&&B9 d p.2&&Aui d (some p.1) r):=by
 cases o<;>rfl
theorem Asl (v:Val)(i:v.Ap<=1099511627776):W F17 0 [v.enc]=some [.bool (Gz v)]:=by
 have j:=v.Aw2
 rw[A9f]
 unfold Gz
 simp only[dU,aA,aW,aS]
 by_cases b:v.k=1
 ·simp[b,Dx]
 by_cases c:v.k=2
 ·by_cases a: -1000000000000000<=v.n<;>by_cases a2:v.n<=1000000000000000<;>simp[c,a,a2,Dx]
 by_cases d:v.k=3
 ·simp[d,Azc v.s (by omega)]
 by_cases e:v.k=0
 ·by_cases a:v.n=0<;>simp[e,Adh,a,Dx]
 by_cases g:v.k=4
 ·by_cases a:v.n=0<;>simp[g,Adh,a,Dx]
 by_cases h:v.k=5
 ·by_cases a:v.n=0<;>simp[h,Adh,a,Dx]
 simp[b,c,d,e,g,h,Adh]
theorem Wp (d:Nat)(v:Val)(hd:d<=12)(j:v.Ap<=1099511627776)(e: ∀x∈v.l,W F16 0 [x.enc,.int d]=some [.bool (B9 d x)]): ∀ (n i:Nat),i+n=v.l.length->
  W F16 1 [.int ((d+1:Nat):Int),.int i,v.enc]=if(v.l.drop i).all (B9 d)=true then W F16 2 [.int ((d+1:Nat):Int),.int 0,v.enc]else some [.bool false]
 | 0,i,h=>by
  rw[Aza]
  have g: ¬ i<v.l.length:=by omega
  simp[g,aF (bD g)]
 | n+1,i,h=>by
  have a:i<v.l.length:=by omega
  have o:=v.Bx
  have m:=Bd (i:=i) (by omega)
  have b:IntKind.i64.wrap (((d+1:Nat):Int) - 1)=d:=by rw[wrap64 (by omega) (by omega)];omega
  have:=Wp d v hd j e n (i+1) (by omega)
  rw[Aza,aE a]
  simp only[cU,aA,bZ,aD,bA,Aj,a,Zd,aS,Zt,cE,aH,aG,aJ,aC a,aI,fI,b,e _ (aK a),bI,cV,bR,m,this,bU,aL]
  by_cases c:B9 d v.l[i]=true<;>simp[c]
theorem Yd (d:Nat)(v:Val)(hd:d<=12)(r:v.Ap<=1099511627776)(o: ∀p∈v.f,W F16 0 [p.2.enc,.int d]=some [.bool (B9 d p.2)]): ∀ (n i:Nat),i+n=v.f.length->
  W F16 2 [.int ((d+1:Nat):Int),.int i,v.enc]=some [.bool (Aui d (H8 v.f i) (v.f.drop i))]
 | 0,i,h=>by
  rw[Atw]
  have q: ¬ i<v.f.length:=by omega
  simp[q,aF (bD q),Aui]
 | n+1,i,h=>by
  have b:i<v.f.length:=by omega
  have u:=v.Bc
  have t:=Bd (i:=i) (by omega)
  have c:IntKind.i64.wrap (((d+1:Nat):Int) - 1)=d:=by rw[wrap64 (by omega) (by omega)];omega
  have:=Yd d v hd r o n (i+1) (by omega)
  have a:=aK b
  have e:=eF a
  have g:H8 v.f (i+1)=some v.f[i].1 :=by simp[H8,b]
  rw[g]at this
  rw[Atw,aE b,Aje]
  simp only[cO,aA,bZ,aD,bA,Aj,b,Zd,aS,Zt,cE,aH,aG,aJ,aC b,aI,dG,dL,Anj v.f[i].1 (by omega),fI,c,o _ a,bI,cV,bR,t,this,cW]
  cases i with
  | zero=>
   simp only[H8]
   cases C5 v.f[0].1<;>cases B9 d v.f[0].2<;>simp
  | succ i=>
   have j:i<v.f.length:=by omega
   have m:IntKind.i64.wrap (((i+1:Nat):Int) - 1)=i:=by rw[wrap64 (by omega) (by omega)];omega
   have hp:(0:Int)<((i+1:Nat):Int):=by omega
   simp only[H8,aC j,aI,m,hp,Zd,Zt,aH,aG,aA,dG,Adr]
   cases C5 v.f[i+1].1<;>cases B9 d v.f[i+1].2<;>cases blt v.f[i].1 v.f[i+1].1<;>simp
theorem Y4: ∀ (d:Nat) (v:Val),d<=12->v.Ap<=1099511627776->W F16 0 [v.enc,.int d]=some [.bool (B9 d v)]
 | 0,v,_,_=>by
  rw[Auv]
  simp[B9]
 | d+1,v,hd,j=>by
  have m:=Wp d v (by omega) j (λx u=>Y4 d x (by omega) (by have:=eM u;omega)) v.l.length 0 (by omega)
  have r:=Yd d v (by omega) j (λp hp=>Y4 d p.2 (by omega) (by have:=eF hp;omega)) v.f.length 0 (by omega)
  rw[Auv]
  have w: ¬ ((d+1:Nat):Int)=0:=by omega
  simp only[aN,aP,H8,Agy]at m r
  rw[r]at m
  simp only[aW,w,Ze,aA,aS,aB,Zf,Asl v j,bI,cV,cU,cO,dU,bZ,aD,cW,eI,m,B9]
  have t:v.l= []->v.l.all (B9 d)=true:=λe=>by rw[e];rfl
  have o:v.f= []->(v.f.all λp=>C5 p.1&&B9 d p.2)=true/\rising v.f=true:=λe=>by rw[e];exact⟨rfl,rfl⟩
  generalize v.l.all (B9 d)=A at *
  generalize (v.f.all λp=>C5 p.1&&B9 d p.2)=B at *
  generalize rising v.f=C at *
  cases y:Gz v with
  | false=>simp
  | true=>
   by_cases b:(64:Int)<v.l.length
   ·have: ¬ v.l.length<=64:=by omega
    simp[b,this]
   ·have d1:v.l.length<=64:=by omega
    by_cases c:(64:Int)<v.f.length
    ·have: ¬ v.f.length<=64:=by omega
     simp[b,c,this]
    ·have d2:v.f.length<=64:=by omega
     by_cases g:v.k=4
     ·have i: ¬ v.k=5:=by omega
      by_cases a:v.f= []
      ·simp[g,b,d1,a]
       cases A<;>simp
      ·have h:(0:Int)<v.f.length:=by have:=bX.2 a;omega
       simp[g,b,c,d1,d2,a,h]
     ·by_cases a:v.l= []
      ·by_cases i:v.k=5
       ·simp[i,c,d2,a]
        cases A<;>simp
       ·by_cases q:v.f= []
        ·simp[g,i,a,q]
         cases A<;>simp
        ·have h:(0:Int)<v.f.length:=by have:=bX.2 q;omega
         simp[g,i,a,q,h,c,d2]
      ·have h:(0:Int)<v.l.length:=by have:=bX.2 a;omega
       simp[g,a,h,b,c,d1,d2]
end Go.CT.Sch
namespace Go.CT
theorem get!_eq (s:ByteArray)(i:Nat)(h:i<s.size):s.get! (i+0)=s[i]:=by
 obtain⟨a⟩:=s
 have h':i<a.size:=h
 show a[i+0]! =a[i]
 simp[h']
theorem Px {s:ByteArray}{i:Nat}(h:i<s.size)(a:s[i].toNat <128):Utf8.decode s i=(s[i].toNat,1):=by
 unfold Utf8.decode
 simp only[get!_eq s i h]
 rw[if_pos a]
theorem decode_high {s:ByteArray}{i:Nat}(h:i<s.size)(b:128<=s[i].toNat):128<=(Utf8.decode s i).1 :=by
 unfold Utf8.decode
 simp only[get!_eq s i h]
 rw[if_neg (by omega)]
 have e:Utf8.runeError=65533:=rfl
 split
 ·split<;>simp only[e]<;>omega
 ·split
  ·split
   ·rename_i a
    simp only[aL,decide_eq_true_eq,ge_iff_le]at a
    show 128<=_
    omega
   ·simp[e]
  ·split
   ·split
    ·rename_i a
     simp only[aL,decide_eq_true_eq,ge_iff_le]at a
     show 128<=_
     omega
    ·simp[e]
   ·simp[e]
namespace O
variable {s:ByteArray}{i:Nat}{b:Bool}{xs ys:List IV}
theorem R4 (h:i<s.size):N7 (.str s) (.int i)=some (.bool true):=by simp[N7,dD,h]
theorem Un (h: ¬ i<s.size):N7 (.str s) (.int i)=some (.bool false):=by simp[N7,dD,h]
theorem S3 (h:i<s.size):Oc (.str s) (.int i)=some (.int (Utf8.decode s i).1):=by simp[Oc,dD,h]
theorem T0 (h: ¬ i<s.size):Oc (.str s) (.int i)=some (.int 0):=by simp[Oc,dD,h]
theorem Nk (h:i<s.size):H7 (.str s) (.int i)=some (.int ((i+(Utf8.decode s i).2 :Nat):Int)):=by simp[H7,dD,h]
theorem O5 (h: ¬ i<s.size):H7 (.str s) (.int i)=some (.int i):=by simp[H7,dD,h]
@[simp] theorem Sw:Akg (.bool true)=some (.bool true):=rfl
theorem Ahu {n:Nat}(h:0<ys.length)(a:(xs.length+ys.length) * n<=Bb):Ny n (.list xs) (.list ys)=some (.list (xs++ys)):=if_pos ⟨h,a⟩
theorem Aki (h:xs.length+s.size<=Bb):Lr (.list xs) (.str s)=some (.list (xs++Ct s)):=if_pos h
@[simp] theorem Asq:Ay8 [.list xs]=some [.list xs]:=rfl
@[simp] theorem Ku:Mi [.list xs]=some [.list xs]:=rfl
theorem Wt: ∀l:List UInt8,(l.map λb:UInt8=>IV.int b.toNat).mapM Li=some l
 | []=>rfl
 | b::l=>by
  have a:Li (.int b.toNat)=some b:=by
   have h:(b.toNat:Int)<256:=by have:=b.toNat_lt;omega
   simp only[Li,aH,h,and_self,Zt,aG]
   simp[iD]
  simp[bN,List.mapM_cons,a,Wt l]
theorem Nt (s:ByteArray):Uf [.list (Ct s)]=some [.str s]:=by
 simp only[Uf,Ct,Wt,aI]
theorem Ma (s t:ByteArray):Ct (s++t)=Ct s++Ct t:=by
 simp[Ct,aR]
theorem Lu (s:ByteArray):(Ct s).length =s.size:=by simp[Ct]
theorem A2q (n:Nat)(h:n<100):Atk [.int n]=some [.str (Mq n)]:=by
 simp only[Atk,aH,true_and,aG]
 rw[if_pos (by omega)]
end O
end Go.CT
namespace Go.CT.Sch
open Go.Proofs
structure Stp where
 k:Int
 nm:ByteArray
 ix:Int
 vl:ByteArray
def Stp.enc (s:Stp):IV:= .agg [.int s.k,.str s.nm,.int s.ix,.str s.vl]
@[simp] theorem Stp.Bs (s:Stp):dH 0 s.enc=some (.int s.k):=rfl
@[simp] theorem Stp.Dj (s:Stp):dH 1 s.enc=some (.str s.nm):=rfl
@[simp] theorem Stp.Ep (s:Stp):dH 2 s.enc=some (.int s.ix):=rfl
@[simp] theorem Stp.Cc (s:Stp):dH 3 s.enc=some (.str s.vl):=rfl
def Stp.fits (s:Stp):Prop:=s.nm.size<=1099511627000/\s.vl.size<=1099511627000
def bsL (l:List UInt8):ByteArray:=⟨l.toArray⟩
theorem G7 (a b:List UInt8):bsL (a++b)=bsL a++bsL b:=by
 apply Gm
 rw[aR];simp[bsL]
theorem Cd (l:List UInt8):(bsL l).size =l.length:=by simp[bsL,ByteArray.size]
theorem Qa (s:ByteArray):bsL s.data.toList=s:=rfl
theorem Hn (s:ByteArray):Am++s=s:=by
 apply Gm
 rw[aR];rfl
theorem Is (s:ByteArray):s++Am=s:=by
 apply Gm
 rw[aR];simp[Am]
theorem A43 {s:ByteArray}{i:Nat}(h:i<s.size):s.extract i (i+1)=bsL [s[i]]:=by
 apply Gm
 rw[fA,fM]
 simp only[eR,bsL]
 have:=H6 h
 rw[show i+1 - i=1 by omega,this]
 rfl
def Jg (c:UInt8):List UInt8:=if c.toNat=10 then[92,110]else if c.toNat=34\/c.toNat=92 then[92,c]else[c]
def K1 (s:ByteArray):ByteArray:=bsL (34::s.data.toList.flatMap Jg++ [34])
theorem A02 (c:UInt8):(Jg c).length <=2:=by unfold Jg;split<;> (try split)<;>simp
theorem Akx: ∀l:List UInt8,(l.flatMap Jg).length <=2 * l.length
 | []=>by simp
 | c::l=>by
  have:=A02 c
  have:=Akx l
  simp only[cC,aO,aZ];omega
theorem Ry (s:ByteArray):(K1 s).size <=2+2 * s.size:=by
 have:=Akx s.data.toList
 have h:s.data.toList.length=s.size:=by simp
 unfold K1
 rw[Cd]
 simp only[aZ,aO,bB]
 omega
def Dr (x:Stp):Bool:=
 if x.k=1 then C5 x.nm&&decide (x.ix=0)&&decide (x.vl=Am)
 else if x.k=2 then decide (0<=x.ix)&&decide (x.ix<=64)&&decide (x.nm=Am)&&decide (x.vl=Am)
 else if x.k=3 then C5 x.nm&&Jw x.vl&&decide (x.ix=0)
 else false
def C6 (p:List Stp):Bool:=p.all Dr&&decide (p.length<=16)
def G9 (first:Bool)(x:Stp):ByteArray:=
 if x.k=2 then bsL [91]++gB x.ix.toNat++bsL [93]
 else if x.k=3 then bsL [91]++x.nm++bsL [61]++K1 x.vl++bsL [93]
 else if first then x.nm else bsL [46]++x.nm
def Cs:Bool->List Stp->ByteArray
 | _,[]=>Am
 | b,x::r=>G9 b x++Cs false r
def A2u (p:List Stp):ByteArray:=Cs true p
def Cj (p:List Stp):ByteArray:=if C6 p then A2u p else Am
def Aqs (p:List Stp):Int:=if C6 p then 0 else 1
theorem Q1 {s:ByteArray}(h:C5 s=true):s.size<=40:=by
 unfold C5 at h
 simp only[aL,decide_eq_true_eq]at h
 exact h.2.2
theorem Qd {s:ByteArray}(h:Jw s=true):s.size<=200:=by
 unfold Jw at h
 simp only[aL,decide_eq_true_eq]at h
 exact h.2
theorem Tm (n:Nat):(gB n).size <=2:=by
 unfold gB
 split
 ·show 1<=2;omega
 ·show 2<=2;omega
theorem D1 {x:Stp}(h:Dr x=true):x.nm.size<=40/\x.vl.size<=200/\(x.k=2->0<=x.ix/\x.ix<=64)/\(x.k=3->Jw x.vl=true)/\(x.k=1\/x.k=2\/x.k=3):=by
 have a:Am.size=0:=rfl
 unfold Dr at h
 split at h
 ·rename_i k1
  simp only[aL,decide_eq_true_eq]at h
  exact⟨Q1 h.1.1,by rw[h.2,a];omega,λh=>by omega,λh=>by omega,.inl k1⟩
 ·split at h
  ·rename_i k2
   simp only[aL,decide_eq_true_eq]at h
   exact⟨by rw[h.1.2,a];omega,by rw[h.2,a];omega,λ_=>⟨h.1.1.1,h.1.1.2⟩,λh=>by omega,.inr (.inl k2)⟩
  ·split at h
   ·rename_i b
    simp only[aL,decide_eq_true_eq]at h
    exact⟨Q1 h.1.1,Qd h.1.2,λh=>by omega,λ_=>h.1.2,.inr (.inr b)⟩
   ·cases h
theorem X8 (c:UInt8):W F25 0 [.int c.toNat]=some [.bool (Bv c)]:=by
 rw[A9l]
 simp only[fH,eV,aW,aA,aS,Ax,An]
 congr 3
 unfold Bv
 rw[aT]
 simp
 omega
theorem Wk (s:ByteArray)(b:s.size<=1099511627776): ∀ (n i:Nat),i+n=s.size->W F24 1 [.str s,.int i]=some [.bool ((s.data.toList.drop i).all Bv&&decide (1<=s.size/\s.size<=40))]
 | 0,i,h=>by
  have c: ¬ i<s.size:=by omega
  have d:s.data.toList.drop i= []:=aF (by simp;omega)
  rw[Avz]
  simp only[cZ,aA,bA,Aj,c,Ze,aS,aB,Zf,cW,eV,Ax,An,d,cI,bJ]
  congr 3
  rw[aT]
  simp
  omega
 | n+1,i,h=>by
  have a:i<s.size:=by omega
  have e:=Bd (i:=i) (by omega)
  have g:=Wk s b n (i+1) (by omega)
  rw[Avz,H6 a]
  simp only[cZ,aA,bA,Aj,a,Zd,aS,Zt,iE,aH,aG,A8t a,aI,X8,bI,cV,bR,e,g,bU]
  cases Bv s[i]<;>simp
theorem Aux (s:ByteArray)(a:s.size<=1099511627776):W F24 0 [.str s]=some [.bool (C5 s)]:=by
 rw[Bdh];exact Wk s a s.size 0 (by omega)
theorem Abl (s:ByteArray)(j:s.size<=1099511627776): ∀ (n i:Nat),i+n=s.size->W F26 1 [.str s,.int i]=some [.bool ((s.data.toList.drop i).all Iz&&decide (s.size<=200))]
 | 0,i,h=>by
  have m: ¬ i<s.size:=by omega
  have o:s.data.toList.drop i= []:=aF (by simp;omega)
  rw[Aze]
  simp only[cZ,aA,bA,Aj,m,Ze,aS,aB,Zf,eV,o,cI,bJ]
  congr 3
  rw[aT]
  simp
  omega
 | n+1,i,h=>by
  have d:i<s.size:=by omega
  have q:=Bd (i:=i) (by omega)
  have r:=Abl s j n (i+1) (by omega)
  rw[Aze,H6 d]
  have e1:Iz s[i]= !(if(!decide ((s[i].toNat :Int)=10))=true then(if decide ((s[i].toNat :Int)<32)=true then true else decide (126<(s[i].toNat :Int))) else false):=by
   unfold Iz
   rw[aT]
   by_cases e:s[i].toNat =10
   ·simp[e]
   ·have c: ¬ (s[i].toNat :Int)=10:=by omega
    by_cases g:s[i].toNat <32
    ·have a:(s[i].toNat :Int)<32:=by omega
     simp[e,c,g,a];omega
    ·have a: ¬ (s[i].toNat :Int)<32:=by omega
     simp[e,c,g,a]
     omega
  simp only[cZ,aA,bA,Aj,d,Zd,aS,Zt,iE,aH,aG,A8t d,aI,eI,cW,Ax,An,bR,q,r,bU,e1]
  generalize (if(!decide ((s[i].toNat :Int)=10))=true then(if decide ((s[i].toNat :Int)<32)=true then true else decide (126<(s[i].toNat :Int))) else false)=b
  cases b<;>simp
theorem A6w (s:ByteArray)(a:s.size<=1099511627776):W F26 0 [.str s]=some [.bool (Jw s)]:=by
 rw[Bdr];exact Abl s a s.size 0 (by omega)
theorem Avl (s:Stp)(a:s.fits):W F23 0 [s.enc]=some [.bool (Dr s)]:=by
 have c:=Aux s.nm (dE a.1 (by decide))
 have d:=A6w s.vl (dE a.2 (by decide))
 rw[Bbb]
 simp only[Stp.Bs,Stp.Dj,Stp.Ep,Stp.Cc,aA,aW,aS,c,d,bI,fH,eV,gH,Ax,An,Dx]
 unfold Dr
 by_cases k1:s.k=1
 ·simp only[k1,Zd,Zt]
  cases C5 s.nm<;>simp
 ·by_cases k2:s.k=2
  ·simp only[k1,k2,Zd,Ze,aB,Zt,Zf]
   by_cases e1:0<=s.ix<;>by_cases e:s.ix<=64<;>by_cases g:s.nm=Am<;>simp[e1,e,g]
  ·simp only[k1,k2,Ze,aB,Zf]
   by_cases b:s.k=3
   ·simp only[b,Zd,Zt]
    cases C5 s.nm<;>cases Jw s.vl<;>simp
   ·simp[b]
theorem U8 (p:List Stp)(hp: ∀s∈p,s.fits)(b:p.length<=1099511627776): ∀ (n i:Nat),i+n=p.length->W F22 1 [.list (p.map Stp.enc),.int i]=some [.bool ((p.drop i).all Dr&&decide (p.length<=16))]
 | 0,i,h=>by
  have c: ¬ i<p.length:=by omega
  have d:p.drop i= []:=aF (by omega)
  rw[Aug]
  simp only[bZ,aD,aA,bA,Aj,c,Ze,aS,aB,Zf,eV,d,cI,bJ]
  congr 3
  rw[aT]
  simp
  omega
 | n+1,i,h=>by
  have a:i<p.length:=by omega
  have e:=Bd (i:=i) (by omega)
  have g:=U8 p hp b n (i+1) (by omega)
  rw[Aug,aE a]
  simp only[bZ,aD,aA,bA,Aj,a,Zd,aS,Zt,cE,aH,aG,aJ,aC a,aI,Avl _ (hp _ (aK a)),bI,cV,bR,e,g,bU]
  cases Dr p[i]<;>simp
theorem Pv (p:List Stp)(hp: ∀s∈p,s.fits)(a:p.length<=1099511627776):W F22 0 [.list (p.map Stp.enc)]=some [.bool (C6 p)]:=by
 rw[Bbz];exact U8 p hp a p.length 0 (by omega)
theorem G5 {a b:ByteArray}(c:a.size<=100000)(d:b.size<=100000):O.cat (.str a) (.str b)=some (.str (a++b)):=by
 rw[O.A99,if_pos (by unfold Bb;omega)]
theorem Bc6: ∀d:Fin 10,(⟨#[48,49,50,51,52,53,54,55,56,57]⟩:ByteArray).extract d (d+1)=bsL [(48+d.val).toUInt8]:=by decide+kernel
theorem Bdn (n:Int)(h:0<=n)(q:n<=64):W F27 0 [.int n]=some [.str (gB n.toNat)]:=by
 have sl: ∀d:Nat,d<10->O.Oa (.str ⟨#[48,49,50,51,52,53,54,55,56,57]⟩) (.int d) (.int ((d:Int)+1))=some (.str (bsL [(48+d).toUInt8])):=by
  intro d hd
  rw[O.Tv,if_pos ⟨by omega,by omega,by show(d:Int)+1<=10;omega⟩]
  have:=Bc6 ⟨d,hd⟩
  simp only[aG]
  rw[show((d:Int)+1).toNat =d+1 by omega,this]
 obtain⟨m,rfl⟩:=cX h
 rw[Bdp]
 unfold gB
 simp only[eE,aG]
 by_cases c:m<10
 ·have i:IntKind.i64.wrap ((m:Int)+1)=(m:Int)+1:=wrap64 (by omega) (by omega)
  have c':(m:Int)<10:=by omega
  simp only[bA,c',Zd,aA,aS,Zt,bR,i,sl m c,c]
  rfl
 ·have c': ¬ (m:Int)<10:=by omega
  have j:(m:Int).tdiv 10=((m / 10:Nat):Int):=by rw[Int.tdiv_eq_ediv_of_nonneg (by omega)];omega
  have o:(m:Int).tmod 10=((m % 10:Nat):Int):=by rw[Int.tmod_eq_emod_of_nonneg (by omega)];omega
  have a:IntKind.i64.wrap ((m / 10:Nat):Int)=((m / 10:Nat):Int):=wrap64 (by omega) (by omega)
  have b:IntKind.i64.wrap (((m / 10:Nat):Int)+1)=((m / 10:Nat):Int)+1:=wrap64 (by omega) (by omega)
  have e:IntKind.i64.wrap (((m % 10:Nat):Int)+1)=((m % 10:Nat):Int)+1:=wrap64 (by omega) (by omega)
  have g: ¬ (10:Int)=0:=by omega
  simp only[bA,c',Ze,aA,aS,aB,Zf,O.Baj,O.A9j,g,j,o,a,bR,b,e,sl (m / 10) (by omega),sl (m % 10) (by omega),c]
  rw[G5 (by rw[Cd];simp) (by rw[Cd];simp),<-G7]
  rfl
theorem Xn (s:ByteArray)(t:s.size<=200): ∀ (n i:Nat) (o:ByteArray),i+n=s.size->o.size<=1+2 * i->W F28 1 [.str s,.str o,.int i]=some [.str (o++bsL ((s.data.toList.drop i).flatMap Jg++ [34]))]
 | 0,i,o,h,u=>by
  have g: ¬ i<s.size:=by omega
  have j:s.data.toList.drop i= []:=aF (by simp;omega)
  rw[Az3]
  simp only[cZ,aA,bA,Aj,g,Ze,aS,aB,Zf,j,cY,bE]
  rw[show(ByteArray.mk #[34])=bsL [34]from rfl,G5 (by omega) (by rw[Cd];simp)]
  rfl
 | n+1,i,o,h,u=>by
  have e:i<s.size:=by omega
  have m:=Bd (i:=i) (by omega)
  have d:O.Oa (.str s) (.int i) (.int ((i+1:Nat):Int))=some (.str (bsL [s[i]])):=by
   rw[O.Tv,if_pos ⟨by omega,by omega,by omega⟩]
   simp only[aG]
   rw[A43 e]
  have next: ∀a:List UInt8,a.length<=2->Jg s[i]=a->W F28 2 [.str s,.str (o++bsL a),.int i]=some [.str (o++bsL ((s.data.toList.drop i).flatMap Jg++ [34]))]:=by
   intro a x w
   rw[Bdo]
   simp only[bR,m,aA]
   rw[Xn s t n (i+1) _ (by omega) (by rw[aM,Cd];omega),H6 e,cC,w,bL,G7 a,bF]
  rw[Az3]
  simp only[cZ,aA,bA,Aj,e,Zd,aS,Zt,iE,aH,aG,A8t e,aI,aW,Ax,An]
  rw[show(ByteArray.mk #[92,110])=bsL [92,110]from rfl,show(ByteArray.mk #[92])=bsL [92]from rfl]
  by_cases q:s[i].toNat =10
  ·have b:(s[i].toNat :Int)=10:=by omega
   simp only[b,Zd,Zt]
   rw[G5 (by omega) (by rw[Cd];simp)]
   exact next [92,110] (by simp) (by unfold Jg;rw[if_pos q])
  ·have b: ¬ (s[i].toNat :Int)=10:=by omega
   simp only[b,Ze,aB,Zf]
   by_cases r:s[i].toNat =34\/s[i].toNat =92
   ·have c:(if decide ((s[i].toNat :Int)=34)=true then true else decide ((s[i].toNat :Int)=92))=true:=by
     rcases r with h | h<;>simp[h]
    simp only[c,Zt]
    rw[G5 (by omega) (by rw[Cd];simp)]
    simp only[aA,bR,m,d]
    rw[G5 (by rw[aM,Cd];simp;omega) (by rw[Cd];simp),bF,<-G7]
    exact next [92,s[i]] (by simp) (by unfold Jg;rw[if_neg q,if_pos r])
   ·have c:(if decide ((s[i].toNat :Int)=34)=true then true else decide ((s[i].toNat :Int)=92))=false:=by
     have g: ¬ (s[i].toNat :Int)=34:=by omega
     have j: ¬ (s[i].toNat :Int)=92:=by omega
     simp[g,j]
    simp only[c,aB,Zf,bR,m,aA,d]
    rw[G5 (by omega) (by rw[Cd];simp)]
    exact next [s[i]] (by simp) (by unfold Jg;rw[if_neg q,if_neg r])
theorem Aww (s:ByteArray)(a:s.size<=200):W F28 0 [.str s]=some [.str (K1 s)]:=by
 rw[Bbh,show(ByteArray.mk #[34])=bsL [34]from rfl]
 rw[show(IV.int 0)=IV.int ((0:Nat):Int) from rfl,Xn s a s.size 0 _ (by omega) (by rw[Cd];simp),<-G7]
 rfl
theorem Ul {b:Bool}{x:Stp}(h:Dr x=true):(G9 b x).size <=500:=by
 obtain⟨a,d,_⟩:=D1 h
 have g:=Ry x.vl
 have i:=Tm x.ix.toNat
 have e: ∀c:UInt8,(bsL [c]).size =1:=λc=>by rw[Cd];rfl
 unfold G9
 split
 ·simp only[aM,e];omega
 ·split
  ·simp only[aM,e];omega
  ·split
   ·omega
   ·simp only[aM,e];omega
theorem Zs (p:List Stp)(hp: ∀s∈p,Dr s=true)(w:p.length<=16): ∀ (n i:Nat) (o:ByteArray),i+n=p.length->o.size<=500 * i->W F21 1 [.list (p.map Stp.enc),.str o,.int i]=some [.str (o++Cs (decide (i=0)) (p.drop i)),.int 0]
 | 0,i,o,h,x=>by
  have y: ¬ i<p.length:=by omega
  have z:p.drop i= []:=aF (by omega)
  rw[Axk]
  simp only[bZ,aD,aA,bA,Aj,y,Ze,aS,aB,Zf,z,Cs,Is]
 | n+1,i,o,h,x=>by
  have j:i<p.length:=by omega
  have A:=Bd (i:=i) (by omega)
  have b:=hp _ (aK j)
  obtain⟨C,B,r,F,G⟩:=D1 b
  have e: ∀c:UInt8,(bsL [c]).size =1:=λc=>by rw[Cd];rfl
  have next: ∀t:ByteArray,G9 (decide (i=0)) p[i]=t->W F21 2 [.list (p.map Stp.enc),.str (o++t),.int i]=some [.str (o++Cs (decide (i=0)) (p.drop i)),.int 0]:=by
   intro t u
   have m:(G9 (decide (i=0)) p[i]).size <=500:=Ul b
   rw[A98]
   simp only[bR,A,aA]
   rw[Zs p hp w n (i+1) (o++t) (by omega) (by rw[aM,<-u];omega),aE j,Cs,u,bF]
   rfl
  rw[Axk]
  simp only[bZ,aD,aA,bA,Aj,j,Zd,aS,Zt,cE,aH,aG,aJ,aC j,aI,Stp.Bs,Stp.Dj,Stp.Ep,Stp.Cc,aW,cW]
  rw[show(ByteArray.mk #[91])=bsL [91]from rfl,show(ByteArray.mk #[93])=bsL [93]from rfl,show(ByteArray.mk #[61])=bsL [61]from rfl,show(ByteArray.mk #[46])=bsL [46]from rfl]
  by_cases k2:p[i].k =2
  ·have hd:=Bdn p[i].ix (r k2).1 (r k2).2
   have q:=Tm p[i].ix.toNat
   simp only[k2,Zd,Zt]
   rw[G5 (by omega) (by rw[e];omega)]
   simp only[aA,hd,bI]
   rw[G5 (by rw[aM,e];omega) (by omega)]
   simp only[aA]
   rw[G5 (by rw[aM,aM,e];omega) (by rw[e];omega)]
   simp only[aA,bF]
   exact next _ (by unfold G9;rw[if_pos k2,bF])
  ·simp only[k2,Ze,aB,Zf]
   by_cases d:p[i].k =3
   ·have hd:=Aww p[i].vl B
    have q:=Ry p[i].vl
    simp only[d,Zd,Zt]
    rw[G5 (by omega) (by rw[e];omega)]
    simp only[aA]
    rw[G5 (by rw[aM,e];omega) (by omega)]
    simp only[aA]
    rw[G5 (by rw[aM,aM,e];omega) (by rw[e];omega)]
    simp only[aA,hd,bI]
    rw[G5 (by rw[aM,aM,aM,e,e];omega) (by omega)]
    simp only[aA]
    rw[G5 (by rw[aM,aM,aM,aM,e,e];omega) (by rw[e];omega)]
    simp only[aA,bF]
    exact next _ (by unfold G9;rw[if_neg k2,if_pos d];simp only[bF])
   ·simp only[d,Ze,aB,Zf]
    by_cases m:i=0
    ·have a: ¬ (0:Int)<i:=by omega
     have g:o=Am:=by
      apply Gm
      have:o.size=0:=by omega
      have:o.data.toList.length=0:=by simpa using this
      rw[aU.1 this];rfl
     simp only[a,Ze,aB,Zf]
     have:=next p[i].nm (by unfold G9;rw[if_neg k2,if_neg d,if_pos (by simpa using m)])
     rw[g,Hn]at this
     rw[g]
     exact this
    ·have a:(0:Int)<i:=by omega
     simp only[a,Zd,Zt]
     rw[G5 (by omega) (by rw[e];omega)]
     simp only[aA]
     rw[G5 (by rw[aM,e];omega) (by omega)]
     simp only[aA,bF]
     exact next _ (by unfold G9;rw[if_neg k2,if_neg d,if_neg (by simpa using m)])
theorem Aiq (p:List Stp)(hp: ∀s∈p,s.fits)(b:p.length<=1099511627776):W F21 0 [.list (p.map Stp.enc)]=some [.str (Cj p),.int (Aqs p)]:=by
 rw[A92]
 unfold Cj Aqs
 cases a:C6 p with
 | false=>simp only[Pv p hp b,a,bI,cV,aA,aY,aS,Zt];rfl
 | true=>
  simp only[Pv p hp b,a,bI,cV,aA,aV,aS,aB,Zf,Zt]
  unfold C6 at a
  simp only[aL,decide_eq_true_eq,bM]at a
  have:=Zs p a.1 a.2 p.length 0 Am (by omega) (bP _)
  rw[Hn]at this
  exact this
end Go.CT.Sch
namespace Go.CT.Sch
open Go.Proofs
theorem Ahb (s:ByteArray)(j:s.size<=1099511627776): ∀ (n i:Nat),i+n=s.size->W F60 1 [.str s,.int s.size,.int i]=some [.bool ((s.data.toList.drop i).all Iz&&decide (s.size<=200))]
 | 0,i,h=>by
  have m: ¬ i<s.size:=by omega
  have o:s.data.toList.drop i= []:=aF (by simp;omega)
  rw[Ay9]
  simp only[cZ,aA,bA,Aj,m,Ze,aS,aB,Zf,eV,o,cI,bJ]
  congr 3
  rw[aT]
  simp
  omega
 | n+1,i,h=>by
  have d:i<s.size:=by omega
  have q:=Bd (i:=i) (by omega)
  have r:=Ahb s j n (i+1) (by omega)
  rw[Ay9,H6 d]
  have e1:Iz s[i]= !(if(!decide ((s[i].toNat :Int)=10))=true then(if decide ((s[i].toNat :Int)<32)=true then true else decide (126<(s[i].toNat :Int))) else false):=by
   unfold Iz
   rw[aT]
   by_cases e:s[i].toNat =10
   ·simp[e]
   ·have c: ¬ (s[i].toNat :Int)=10:=by omega
    by_cases g:s[i].toNat <32
    ·have a:(s[i].toNat :Int)<32:=by omega
     simp[e,c,g,a];omega
    ·have a: ¬ (s[i].toNat :Int)<32:=by omega
     simp[e,c,g,a]
     omega
  simp only[cZ,aA,bA,Aj,d,Zd,aS,Zt,iE,aH,aG,A8t d,aI,eI,cW,Ax,An,bR,q,r,bU,e1]
  generalize (if(!decide ((s[i].toNat :Int)=10))=true then(if decide ((s[i].toNat :Int)<32)=true then true else decide (126<(s[i].toNat :Int))) else false)=b
  cases b<;>simp
theorem Bcs (s:ByteArray)(a:s.size<=1099511627776):W F60 0 [.str s]=some [.bool (Jw s)]:=by
 rw[Bbo]
 simp only[cZ,aA]
 exact Ahb s a s.size 0 (by omega)
theorem Ajf (s:ByteArray)(b:s.size<=1099511627776): ∀ (n i:Nat),i+n=s.size->W F61 1 [.str s,.int s.size,.int i]=some [.bool ((s.data.toList.drop i).all Bv&&decide (1<=s.size/\s.size<=40))]
 | 0,i,h=>by
  have d: ¬ i<s.size:=by omega
  have e:s.data.toList.drop i= []:=aF (by simp;omega)
  rw[Aya]
  simp only[cZ,aA,bA,Aj,d,Ze,aS,aB,Zf,fH,eV,Ax,An,e,cI,bJ]
  congr 3
  rw[aT]
  simp
  omega
 | n+1,i,h=>by
  have a:i<s.size:=by omega
  have g:=Bd (i:=i) (by omega)
  have j:=Ajf s b n (i+1) (by omega)
  rw[Aya,H6 a]
  generalize m:s[i]=c
  simp only[cZ,aA,bA,Aj,a,Zd,aS,Zt,iE,aH,aG,A8t a,m,aI,fH,eV,aW,Ax,An,cV,bR,g,j,bU]
  have e1:Bv c=(if(if(if(if(if(if decide ((97:Int)<=c.toNat)=true then decide ((c.toNat:Int)<=122) else false)=true then true else if decide ((65:Int)<=c.toNat)=true then decide ((c.toNat:Int)<=90) else false)=true then true else if decide ((48:Int)<=c.toNat)=true then decide ((c.toNat:Int)<=57) else false)=true then true else decide ((c.toNat:Int)=45))=true then true else decide ((c.toNat:Int)=95))=true then true else decide ((c.toNat:Int)=47)):=by
   unfold Bv
   rw[aT]
   simp
   omega
  rw[<-e1]
  cases Bv c<;>simp
theorem A9y (s:ByteArray)(a:s.size<=1099511627776):W F61 0 [.str s]=some [.bool (C5 s)]:=by
 rw[A9s]
 simp only[cZ,aA]
 exact Ajf s a s.size 0 (by omega)
theorem Azv (v:Val)(i:v.Ap<=1099511627776):W F59 0 [v.enc]=some [.bool (Gz v)]:=by
 have j:=v.Aw2
 rw[Bao]
 unfold Gz
 simp only[dU,aA,aW,aS]
 by_cases b:v.k=1
 ·by_cases a:v.s=Am<;>by_cases a2:v.n=0<;>simp[b,a,a2,Dx]
 by_cases c:v.k=2
 ·by_cases a: -1000000000000000<=v.n<;>by_cases a2:v.n<=1000000000000000<;>by_cases a3:v.s=Am<;>simp[c,a,a2,a3,Dx]
 by_cases d:v.k=3
 ·by_cases a:v.n=0<;>simp[d,a,Bcs v.s (by omega)]
 by_cases e:v.k=0
 ·by_cases a:v.n=0<;>simp[e,Aew,a,Dx]
 by_cases g:v.k=4
 ·by_cases a:v.n=0<;>simp[g,Aew,a,Dx]
 by_cases h:v.k=5
 ·by_cases a:v.n=0<;>simp[h,Aew,a,Dx]
 simp[b,c,d,e,g,h,Aew]
theorem Abr (d:Nat)(v:Val)(hd:d<=12)(r:v.Ap<=1099511627776)(o: ∀p∈v.f,W F58 0 [p.2.enc,.int d]=some [.bool (B9 d p.2)]): ∀ (n i:Nat),i+n=v.f.length->
  W F58 2 [.int ((d+1:Nat):Int),.list (v.f.map bG),.int v.f.length,.int i,v.enc]=some [.bool (Aui d (H8 v.f i) (v.f.drop i))]
 | 0,i,h=>by
  rw[Axs]
  have q: ¬ i<v.f.length:=by omega
  simp[q,aF (bD q),Aui]
 | n+1,i,h=>by
  have b:i<v.f.length:=by omega
  have u:=v.Bc
  have t:=Bd (i:=i) (by omega)
  have c:IntKind.i64.wrap (((d+1:Nat):Int) - 1)=d:=by rw[wrap64 (by omega) (by omega)];omega
  have:=Abr d v hd r o n (i+1) (by omega)
  have a:=aK b
  have e:=eF a
  have g:H8 v.f (i+1)=some v.f[i].1 :=by simp[H8,b]
  rw[g]at this
  rw[Axs,aE b,Aje]
  simp only[cO,aA,bA,Aj,b,Zd,aS,Zt,cE,aH,aG,aJ,aC b,aI,dG,dL,A9y v.f[i].1 (by omega),fI,c,o _ a,bI,cV,cW,bR,t,this]
  cases i with
  | zero=>
   simp only[H8]
   cases C5 v.f[0].1<;>cases B9 d v.f[0].2<;>simp
  | succ i=>
   have j:i<v.f.length:=by omega
   have m:IntKind.i64.wrap (((i+1:Nat):Int) - 1)=i:=by rw[wrap64 (by omega) (by omega)];omega
   have hp:(0:Int)<((i+1:Nat):Int):=by omega
   simp only[H8,aC j,aI,m,hp,Zd,Zt,aH,aG,aA,dG,Tp]
   cases C5 v.f[i+1].1<;>cases B9 d v.f[i+1].2<;>cases blt v.f[i].1 v.f[i+1].1<;>simp
theorem Aak (d:Nat)(v:Val)(hd:d<=12)(j:v.Ap<=1099511627776)(e: ∀x∈v.l,W F58 0 [x.enc,.int d]=some [.bool (B9 d x)]): ∀ (n i:Nat),i+n=v.l.length->
  W F58 1 [.int ((d+1:Nat):Int),.list (v.l.map bT),.int v.l.length,.int i,v.enc]=if(v.l.drop i).all (B9 d)=true then W F58 2 [.int ((d+1:Nat):Int),.list (v.f.map bG),.int v.f.length,.int 0,v.enc]else some [.bool false]
 | 0,i,h=>by
  rw[At4]
  have g: ¬ i<v.l.length:=by omega
  simp[g,aF (bD g)]
 | n+1,i,h=>by
  have a:i<v.l.length:=by omega
  have o:=v.Bx
  have m:=Bd (i:=i) (by omega)
  have b:IntKind.i64.wrap (((d+1:Nat):Int) - 1)=d:=by rw[wrap64 (by omega) (by omega)];omega
  have:=Aak d v hd j e n (i+1) (by omega)
  rw[At4,aE a]
  simp only[aA,bA,Aj,a,Zd,aS,Zt,cE,aH,aG,aJ,aC a,aI,fI,b,e _ (aK a),bI,cV,bR,m,this,bU]
  by_cases c:B9 d v.l[i]=true<;>simp[c]
theorem Adn: ∀ (d:Nat) (v:Val),d<=12->v.Ap<=1099511627776->W F58 0 [v.enc,.int d]=some [.bool (B9 d v)]
 | 0,v,_,_=>by
  rw[Avj]
  simp[B9]
 | d+1,v,hd,a=>by
  have b:=Aak d v (by omega) a (λx i=>Adn d x (by omega) (by have:=eM i;omega)) v.l.length 0 (by omega)
  have e:=Abr d v (by omega) a (λp hp=>Adn d p.2 (by omega) (by have:=eF hp;omega)) v.f.length 0 (by omega)
  have j:=v.Bx
  have m:=v.Bc
  have g: ¬ ((d+1:Nat):Int)=0:=by omega
  simp only[aP,aN]at b e
  have e1:decide ((0:Int)<(v.l.length:Int))= !decide (v.l= []):=by cases v.l<;>simp
  have o:decide ((0:Int)<(v.f.length:Int))= !decide (v.f= []):=by cases v.f<;>simp
  have q:decide ((64:Int)<(v.l.length:Int))= !decide (v.l.length<=64):=by rw[aT];simp;omega
  have r:decide ((64:Int)<(v.f.length:Int))= !decide (v.f.length<=64):=by rw[aT];simp;omega
  rw[Avj]
  simp only[aW,g,Ze,aA,aS,aB,Zf,Azv v a,bI,cV,Ax,An,dU,cU,cO,eI,bZ,aD,cW,e1,o,q,r,b,e]
  unfold B9
  have h:H8 v.f 0=none:=rfl
  rw[h,Agy]
  generalize v.l.all (B9 d)=A at *
  generalize (v.f.all λp=>C5 p.1&&B9 d p.2)=B at *
  generalize rising v.f=C at *
  generalize Gz v=D
  clear b e
  have t:(if(!decide (v.k=4))=true then !decide (v.l= []) else false)= !decide (v.k≠4->v.l= []):=by by_cases c:v.k=4<;>simp[c]
  have u:(if(!decide (v.k=5))=true then !decide (v.f= []) else false)= !decide (v.k≠5->v.f= []):=by by_cases c:v.k=5<;>simp[c]
  rw[t,u,show decide (v.l.length<=64/\v.f.length<=64/\(v.k≠4->v.l= [])/\(v.k≠5->v.f= []))=(decide (v.l.length<=64)&&(decide (v.f.length<=64)&&(decide (v.k≠4->v.l= [])&&decide (v.k≠5->v.f= [])))) by simp only[Bool.decide_and]]
  generalize decide (v.l.length<=64)=b1
  generalize decide (v.f.length<=64)=b2
  generalize decide (v.k≠4->v.l= [])=b3
  generalize decide (v.k≠5->v.f= [])=b4
  cases D<;>cases b1<;>cases b2<;>cases b3<;>cases b4<;>cases A<;>cases B<;>cases C<;>rfl
theorem Ajd (v:Val)(g:v.Ap<=1099511627776)(d: ∀p∈v.f,W F62 0 [p.2.enc]=some [.int p.2.size]): ∀ (n i c:Nat),i+n=v.f.length->c+Bz (v.f.drop i)<=4611686018427387904->
  W F62 2 [.int c,.list (v.f.map bG),.int v.f.length,.int i]=some [.int ((c+Bz (v.f.drop i):Nat):Int)]
 | 0,i,c,h,j=>by
  rw[Ayy]
  have e: ¬ i<v.f.length:=by omega
  simp[e,aF (bD e),Bz]
 | n+1,i,c,h,j=>by
  have a:i<v.f.length:=by omega
  have o:=v.Bc
  have m:=Bd (i:=i) (by omega)
  have hd:Bz (v.f.drop i)=v.f[i].2.size +Bz (v.f.drop (i+1)):=by rw[aE a];rfl
  have b:IntKind.i64.wrap ((c:Int)+(v.f[i].2.size :Int))=((c+v.f[i].2.size :Nat):Int):=by rw[wrap64 (by omega) (by omega)];rfl
  rw[Ayy]
  simp only[aA,bA,Aj,a,Zd,aS,Zt,cE,aH,aG,aJ,aC a,aI,dL,d _ (aK a),bI,bR,m,b]
  rw[Ajd v g d n (i+1) _ (by omega) (by omega),hd,dI]
theorem Af5 (v:Val)(g:v.Ap<=1099511627776)(d: ∀x∈v.l,W F62 0 [x.enc]=some [.int x.size]): ∀ (n i c:Nat),i+n=v.l.length->c+Cn (v.l.drop i)<=4611686018427387904->
  W F62 1 [.int c,.list (v.l.map bT),.int v.l.length,.int i,v.enc]=W F62 2 [.int ((c+Cn (v.l.drop i):Nat):Int),.list (v.f.map bG),.int v.f.length,.int 0]
 | 0,i,c,h,j=>by
  rw[Avh]
  have e: ¬ i<v.l.length:=by omega
  simp[e,aF (bD e),Cn]
 | n+1,i,c,h,j=>by
  have a:i<v.l.length:=by omega
  have o:=v.Bx
  have m:=Bd (i:=i) (by omega)
  have hd:Cn (v.l.drop i)=v.l[i].size +Cn (v.l.drop (i+1)):=by rw[aE a];rfl
  have b:IntKind.i64.wrap ((c:Int)+(v.l[i].size :Int))=((c+v.l[i].size :Nat):Int):=by rw[wrap64 (by omega) (by omega)];rfl
  rw[Avh]
  simp only[aA,bA,Aj,a,Zd,aS,Zt,cE,aH,aG,aJ,aC a,aI,d _ (aK a),bI,bR,m,b]
  rw[Af5 v g d n (i+1) _ (by omega) (by omega),hd,dI]
theorem Bcd: ∀v:Val,v.Ap<=1099511627776->W F62 0 [v.enc]=some [.int v.size]:=by
 refine eJ λv a b d=>?_
 have i:=v.E9
 have j:=v.size_eq
 have e:=Af5 v d (λx g=>a x g (by have:=eM g;omega)) v.l.length 0 1 (by omega) (by simp only[aP];omega)
 have h:=Ajd v d (λp hp=>b p hp (by have:=eF hp;omega)) v.f.length 0 (1+Cn v.l) (by omega) (by simp only[aP];omega)
 simp only[aP,aN]at e h
 rw[A9e]
 simp only[cU,aA,bZ,aD]
 have c:W F62 1 [.int 1,.list (v.l.map bT),.int v.l.length,.int 0,v.enc]=W F62 2 [.int ((1+Cn v.l:Nat):Int),.list (v.f.map bG),.int v.f.length,.int 0]:=e
 rw[c,h,j]
theorem I2 (v:Val)(a:v.Ap<=1099511627776):W F57 0 [v.enc]=some [.bool v.valid]:=by
 rw[Bdm]
 have b:=Adn 12 v (by omega) a
 have c:=Bcd v a
 simp only[aN]at b
 simp only[b,c,bI,aS,eV,aA,fS]
 have:decide ((v.size:Int)<=600)=decide (v.size<=600):=by simp;omega
 cases B9 12 v<;>simp[this]
end Go.CT.Sch
namespace Go.CT.Sch
open Go.Proofs
def nmR (r:Int):Bool:=decide (97<=r/\r<=122)||decide (65<=r/\r<=90)||decide (48<=r/\r<=57)||decide (r=45)||decide (r=95)||decide (r=47)
theorem Alk (r:Int):W F96 0 [.int r]=some [.bool (nmR r)]:=by
 rw[Bcl]
 simp only[fH,eV,aW,aA,aS,Ax,An]
 congr 3
 unfold nmR
 rw[aT]
 simp
theorem We (c:UInt8):nmR c.toNat=Bv c:=by
 unfold nmR Bv
 rw[aT]
 simp
 omega
theorem Adp {r:Int}(h:128<=r):nmR r=false:=by
 unfold nmR
 simp
 omega
theorem Ai9 {c:UInt8}(h:128<=c.toNat):Bv c=false:=by
 rw[<-We];exact Adp (by omega)
theorem Agm (s:ByteArray)(d:s.size<=1099511627776): ∀ (n i:Nat),i+n=s.size->W F95 1 [.str s,.str s,.int i]=some [.bool ((s.data.toList.drop i).all Bv&&decide (1<=s.size/\s.size<=40))]
 | 0,i,h=>by
  have b: ¬ i<s.size:=by omega
  have g:s.data.toList.drop i= []:=aF (by simp;omega)
  rw[Axp]
  simp only[O.Un b,O.T0 b,O.O5 b,aA,aS,aB,Zf,gX,cZ,eV,Ax,An,g,cI,bJ]
  congr 3
  have e:s=(⟨#[]⟩:ByteArray)↔s.size=0:=by
   constructor
   ·rintro rfl;rfl
   ·intro j
    apply Gm
    have:s.data.toList.length=0:=by simpa using j
    rw[aU.1 this]
  by_cases c:s.size=0
  ·simp[e,c]
  ·have m:1<=s.size:=by omega
   rw[aT]
   simp[e,c,m]
   omega
 | n+1,i,h=>by
  have a:i<s.size:=by omega
  rw[Axp,H6 a]
  simp only[O.R4 a,O.S3 a,O.Nk a,aA,aS,Zt,O.Sw,Alk,bI,cV,bU]
  by_cases o:s[i].toNat <128
  ·have q:=Agm s d n (i+1) (by omega)
   rw[Px a o]
   simp only[We]
   cases Bv s[i]with
   | true=>simpa using q
   | false=>simp
  ·have hd:=decode_high a (by omega)
   rw[Adp (by omega),Ai9 (by omega)]
   simp
theorem Bac (s:ByteArray)(a:s.size<=1099511627776):W F95 0 [.str s]=some [.bool (C5 s)]:=by
 rw[A84];exact Agm s a s.size 0 (by omega)
theorem Ah3 (s:ByteArray):(Val.mk 3 0 s [] []).valid =Jw s:=by
 unfold fS B9
 simp[Gz,rising,Val.size,Cn,Bz]
theorem Bbn (s:Stp)(a:s.fits):W F94 0 [s.enc]=some [.bool (Dr s)]:=by
 have d:=Bac s.nm (dE a.1 (by decide))
 have b:=I2 ⟨3,0,s.vl,[],[]⟩ (by
  have:=a.2
  rw[iF];simp[Em,Co];omega)
 rw[Ah3]at b
 have e:IV.agg [.int 3,.int 0,.str s.vl,.list [],.list []]=bT ⟨3,0,s.vl,[],[]⟩:=rfl
 rw[Ban]
 simp only[Stp.Bs,Stp.Dj,Stp.Ep,Stp.Cc,aA,aW,aS,d,bI,fH,eV,gH,Ax,An,Dx,Ajn,gY,fB,e,b]
 unfold Dr
 by_cases k1:s.k=1
 ·simp only[k1,Zd,Zt]
  cases C5 s.nm<;>simp
 ·by_cases k2:s.k=2
  ·simp only[k2,Zd,Ze,aB,Zt,Zf]
   by_cases e1:0<=s.ix<;>by_cases g:s.ix<=64<;>by_cases h:s.nm=Am<;>simp[e1,g,h]
  ·simp only[k1,k2,Ze,aB,Zf]
   by_cases c:s.k=3
   ·simp only[c,Zd,Zt]
    cases C5 s.nm<;>cases Jw s.vl<;>simp
   ·simp[c]
theorem Apu (p:List Stp)(hp: ∀s∈p,s.fits)(c:p.length<=1099511627776): ∀ (n i:Nat),i+n=p.length->
  ∃r:Int,W F92 1 [.list (p.map Stp.enc),.int p.length,.int i]=some [.int r]/\decide (0<=r)= !(p.drop i).all Dr
 | 0,i,h=>by
  have d: ¬ i<p.length:=by omega
  have e:p.drop i= []:=aF (by omega)
  rw[At7]
  simp only[bA,Aj,d,Ze,aA,aS,aB,Zf,e]
  exact⟨-1,rfl,rfl⟩
 | n+1,i,h=>by
  have a:i<p.length:=by omega
  have g:=Bd (i:=i) (by omega)
  obtain⟨r,j,b⟩:=Apu p hp c n (i+1) (by omega)
  rw[At7,aE a]
  simp only[bA,Aj,a,Zd,aA,aS,Zt,cE,aH,aG,aJ,aC a,aI,Bds,Bbn _ (hp _ (aK a)),bI,cV,bR,g,j,bU]
  cases Dr p[i]with
  | true=>exact⟨r,by simp,by simpa using b⟩
  | false=>exact⟨i,by simp,by simp⟩
theorem S5 (p:List Stp)(hp: ∀s∈p,s.fits)(d:p.length<=1099511627776):W F90 0 [.list (p.map Stp.enc)]=some [.bool (C6 p)]:=by
 obtain⟨r,e,a⟩:=Apu p hp d p.length 0 (by omega)
 have b:W F92 0 [.list (p.map Stp.enc)]=some [.int r]:=by
  rw[Bbx]
  simp only[bZ,aD,aA]
  exact e
 rw[Bb1]
 simp only[bZ,aD,aA,eV,aS,Bda,b,bI,fH,a,cV,aP,hJ]
 unfold C6
 have:decide ((p.length:Int)<=16)=decide (p.length<=16):=by simp;omega
 rw[this]
 by_cases c:p.length<=16<;>simp[c]
theorem Nu (s:ByteArray)(c:UInt8)(a:s.size<=1000000):W F97 0 [.list (Ct s),.int c.toNat]=some [.list (Ct (s++bsL [c]))]:=by
 rw[Bc8]
 have h:((Ct s).length + [IV.int (c.toNat:Int)].length) * 1<=Bb:=by rw[O.Lu];simp;unfold Bb;omega
 simp only[A9p,O.Ku,bI,fX,aA,eW,h,Zt,O.Ma]
 rfl
theorem Yc (s t:ByteArray)(a:s.size<=1000000)(b:t.size<=1000000): ∃n,W F100 0 [.list (Ct s),.str t]=some [n,.list (Ct (s++t))]:=by
 rw[A6u]
 have h:(Ct s).length +t.size<=Bb:=by rw[O.Lu];unfold Bb;omega
 simp only[A9p,O.Ku,bI,O.Aki h,aA,cZ,O.Ma]
 exact⟨_,rfl⟩
theorem Aow (s:ByteArray)(c:UInt8)(d:c.toNat<128)(e:s.size<=1000000): ∃n,W F103 0 [.list (Ct s),.int c.toNat]=some [n,.list (Ct (s++bsL [c]))]:=by
 rw[A1f]
 have h:((Ct s).length + [IV.int (c.toNat:Int)].length) * 1<=Bb:=by rw[O.Lu];simp;unfold Bb;omega
 have w1:IntKind.u32.wrap (c.toNat:Int)=c.toNat:=by
  unfold IntKind.wrap
  simp[IntKind.signed,IntKind.bits]
  omega
 have a:IntKind.u8.wrap (c.toNat:Int)=c.toNat:=by
  unfold IntKind.wrap
  simp[IntKind.signed,IntKind.bits]
  omega
 have b:decide ((c.toNat:Int)<=127)=true:=by simp;omega
 simp only[A9p,O.Ku,bI,bZ,aA,A0c,O.Tb,w1,a,eV,b,aS,Zt,fX,eW,h,O.Ma,fI]
 exact⟨_,rfl⟩
theorem Ati {c:UInt8}(h:Iz c=true):c.toNat<128:=by
 unfold Iz at h
 simp at h
 omega
theorem Abx (s:ByteArray)(z:s.size<=200)(x: ∀c∈s.data.toList,Iz c=true): ∀ (n i:Nat) (o:ByteArray),i+n=s.size->o.size<=1+2 * i->W Bgq 1 [.str s,.int i,.list (Ct o)]=some [.str (o++bsL ((s.data.toList.drop i).flatMap Jg++ [34]))]
 | 0,i,o,h,r=>by
  have t: ¬ i<s.size:=by omega
  have u:s.data.toList.drop i= []:=aF (by simp;omega)
  have w:=Nu o 34 (by omega)
  rw[Aon]
  simp only[O.Un t,O.T0 t,O.O5 t,aA,aS,aB,Zf]
  rw[show(IV.int 34)=IV.int ((34:UInt8).toNat :Int) from rfl,w]
  simp only[bI,Aus,O.Nt,u,cY,bE]
 | n+1,i,o,h,r=>by
  have j:i<s.size:=by omega
  have A:=x s[i] (by rw[show s[i]=s.data.toList[i]'(by simpa using j) from rfl];exact aK _)
  have b:=Ati A
  have next: ∀a:List UInt8,a.length<=2->Jg s[i]=a->W Bgq 3 [.str s,.int ((i+1:Nat):Int),.list (Ct (o++bsL a))]=some [.str (o++bsL ((s.data.toList.drop i).flatMap Jg++ [34]))]:=by
   intro a G B
   rw[A4f]
   rw[Abx s z x n (i+1) _ (by omega) (by rw[aM,Cd];omega),H6 j,cC,B,bL,G7 a,bF]
  rw[Aon]
  simp only[O.R4 j,O.S3 j,O.Nk j,Px j b,aA,aS,Zt,O.Sw,aW]
  have two:s[i].toNat =34\/s[i].toNat =92->W Bgq 2 [.int s[i].toNat,.int s[i].toNat,.bool true,.str s,.int ((i+1:Nat):Int),.list (Ct o)]=some [.str (o++bsL ((s.data.toList.drop i).flatMap Jg++ [34]))]:=by
   intro u
   rw[Apy]
   have w:=Nu o 92 (by omega)
   obtain⟨m,q⟩:=Aow (o++bsL [92]) s[i] b (by rw[aM,Cd];simp;omega)
   simp only[aS,Zt]
   rw[show(IV.int 92)=IV.int ((92:UInt8).toNat :Int) from rfl,w]
   simp only[bI,q,fN]
   rw[bF,<-G7]
   exact next [92,s[i]] (by simp) (by unfold Jg;rw[if_neg (by omega),if_pos u])
  by_cases C:s[i].toNat =34
  ·have d:decide ((s[i].toNat :Int)=34)=true:=by simp;omega
   simp only[d,Zt]
   exact two (.inl C)
  ·have d:decide ((s[i].toNat :Int)=34)=false:=by simp;omega
   simp only[d,aB,Zf]
   by_cases F:s[i].toNat =92
   ·have e:decide ((s[i].toNat :Int)=92)=true:=by simp;omega
    simp only[e]
    exact two (.inr F)
   ·have e:decide ((s[i].toNat :Int)=92)=false:=by simp;omega
    simp only[e]
    rw[Apy]
    simp only[aS,aB,Zf,aW,aA]
    by_cases y:s[i].toNat =10
    ·have g:decide ((s[i].toNat :Int)=10)=true:=by simp;omega
     simp only[g,Zt]
     obtain⟨m,q⟩:=Yc o (bsL [92,110]) (by omega) (by rw[Cd];simp)
     rw[show(ByteArray.mk #[92,110])=bsL [92,110]from rfl]
     simp only[q,fN]
     exact next [92,110] (by simp) (by unfold Jg;rw[if_pos y])
    ·have g:decide ((s[i].toNat :Int)=10)=false:=by simp;omega
     simp only[g,aB,Zf]
     obtain⟨m,q⟩:=Aow o s[i] b (by omega)
     simp only[q,fN]
     exact next [s[i]] (by simp) (by unfold Jg;rw[if_neg y,if_neg (by omega)])
theorem A33 (s:ByteArray)(h:Jw s=true):W Bgq 0 [.str s]=some [.str (K1 s)]:=by
 have a:=Qd h
 unfold Jw at h
 simp only[aL,bM]at h
 rw[A37]
 have b:=Nu Am 34 (by decide)
 rw[show(IV.list [])=IV.list (Ct Am) from rfl,show(IV.int 34)=IV.int ((34:UInt8).toNat :Int) from rfl,b]
 simp only[bI,Hn]
 rw[show(IV.int 0)=IV.int ((0:Nat):Int) from rfl,Abx s a h.1 s.size 0 _ (by omega) (by rw[Cd];simp),<-G7]
 rfl
theorem Abj (p:List Stp)(hp: ∀s∈p,Dr s=true)(A:p.length<=16): ∀ (n i:Nat) (o:ByteArray),i+n=p.length->o.size<=500 * i->W F89 1 [.list (p.map Stp.enc),.int p.length,.int i,.list (Ct o)]=some [.str (o++Cs (decide (i=0)) (p.drop i)),.int 0]
 | 0,i,o,h,B=>by
  have C: ¬ i<p.length:=by omega
  have F:p.drop i= []:=aF (by omega)
  rw[Awc]
  simp only[aA,bA,Aj,C,Ze,aS,aB,Zf,F,Cs,Is,Aus,O.Nt,bI]
 | n+1,i,o,h,B=>by
  have j:i<p.length:=by omega
  have G:=Bd (i:=i) (by omega)
  have d:=hp _ (aK j)
  obtain⟨J,K,w,H,I⟩:=D1 d
  have e: ∀c:UInt8,(bsL [c]).size =1:=λc=>by rw[Cd];rfl
  have next: ∀t:ByteArray,G9 (decide (i=0)) p[i]=t->W F89 3 [.list (p.map Stp.enc),.int p.length,.int i,.list (Ct (o++t))]=some [.str (o++Cs (decide (i=0)) (p.drop i)),.int 0]:=by
   intro t y
   have q:(G9 (decide (i=0)) p[i]).size <=500:=Ul d
   rw[Bcy]
   simp only[bR,G,aA]
   rw[Abj p hp A n (i+1) (o++t) (by omega) (by rw[aM,<-y];omega),aE j,Cs,y,bF]
   rfl
  rw[Awc]
  simp only[aA,bA,Aj,j,Zd,aS,Zt,cE,aH,aG,aJ,aC j,aI,Stp.Bs,Stp.Dj,Stp.Ep,Stp.Cc,aW,cW]
  rw[show(ByteArray.mk #[91])=bsL [91]from rfl,show(ByteArray.mk #[93])=bsL [93]from rfl,show(ByteArray.mk #[61])=bsL [61]from rfl,show(IV.int 46)=IV.int ((46:UInt8).toNat :Int) from rfl]
  rcases I with k1 | k2 | g
  ·simp only[k1,Zd,Zt]
   by_cases q:i=0
   ·have a: ¬ (0:Int)<i:=by omega
    obtain⟨m,b⟩:=Yc o p[i].nm (by omega) (by omega)
    simp only[a,Ze,aB,Zf]
    rw[Azg]
    simp only[Stp.Dj,aA,b,fN]
    exact next _ (by unfold G9;rw[if_neg (by omega),if_neg (by omega),if_pos (by simpa using q)])
   ·have a:(0:Int)<i:=by omega
    obtain⟨m,b⟩:=Yc (o++bsL [46]) p[i].nm (by rw[aM,e];omega) (by omega)
    simp only[a,Zd,Zt,Nu o 46 (by omega),bI]
    rw[Azg]
    simp only[Stp.Dj,aA,b,fN,bF]
    exact next _ (by unfold G9;rw[if_neg (by omega),if_neg (by omega),if_neg (by simpa using q)])
  ·obtain⟨x,z⟩:=cX (w k2).1
   have r:=(w k2).2
   rw[z]at r
   have hd:W F99 0 [.int p[i].ix]=some [.str (gB p[i].ix.toNat)]:=by
    rw[Bil,z,O.A2q x (by omega)];rfl
   have u:=Tm p[i].ix.toNat
   have k1:decide (p[i].k =1)=false:=by rw[k2];rfl
   simp only[k1,k2,Zd,aB,Zf,Zt,hd,bI]
   rw[G5 (by rw[e];omega) (by omega)]
   simp only[aA]
   rw[G5 (by rw[aM,e];omega) (by rw[e];omega)]
   obtain⟨m,b⟩:=Yc o (bsL [91]++gB p[i].ix.toNat ++bsL [93]) (by omega) (by rw[aM,aM,e,e];omega)
   simp only[aA,b,fN]
   exact next _ (by unfold G9;rw[if_pos k2])
  ·have hd:=A33 p[i].vl (H g)
   have u:=Ry p[i].vl
   have k1:decide (p[i].k =1)=false:=by rw[g];rfl
   have k2:decide (p[i].k =2)=false:=by rw[g];rfl
   simp only[k1,k2,g,Zd,aB,Zf,Zt]
   rw[G5 (by rw[e];omega) (by omega)]
   simp only[aA]
   rw[G5 (by rw[aM,e];omega) (by rw[e];omega)]
   simp only[aA,hd,bI]
   rw[G5 (by rw[aM,aM,e,e];omega) (by omega)]
   simp only[aA]
   rw[G5 (by rw[aM,aM,aM,e,e];omega) (by rw[e];omega)]
   obtain⟨m,b⟩:=Yc o (bsL [91]++p[i].nm ++bsL [61]++K1 p[i].vl ++bsL [93]) (by omega) (by simp only[aM,e];omega)
   simp only[aA,b,fN]
   exact next _ (by unfold G9;rw[if_neg (by omega),if_pos g])
theorem Ae1 (p:List Stp)(hp: ∀s∈p,s.fits)(b:p.length<=1099511627776):W F89 0 [.list (p.map Stp.enc)]=some [.str (Cj p),.int (Aqs p)]:=by
 rw[Bcb]
 unfold Cj Aqs
 cases a:C6 p with
 | false=>simp only[S5 p hp b,a,bI,cV,aA,aY,aS,Zt];rfl
 | true=>
  simp only[S5 p hp b,a,bI,cV,aA,aV,aS,aB,Zf,Zt,bZ,aD]
  unfold C6 at a
  simp only[aL,decide_eq_true_eq,bM]at a
  have:=Abj p a.1 a.2 p.length 0 Am (by omega) (bP _)
  rw[Hn]at this
  exact this
end Go.CT.Sch
namespace Go.CT.Sch
open Go.Proofs
def Au:Val:=⟨0,0,Am,[],[]⟩
def I9 (o:Option Val):List IV:= [.int (o.getD Au).k,.int (o.getD Au).n,.str (o.getD Au).s,.list ((o.getD Au).l.map bT),.list ((o.getD Au).f.map bG),.bool o.isSome]
theorem S9 {n b:Nat}(a:n<=1099511627776)(c:b<=127):n * b<=Bb:=by
 have:n * b<=1099511627776 * 127:=aX a c
 unfold Bb;omega
theorem V4 {α:Type}(l:List α){i:Nat}(h:i<l.length):l.take i++ [l[i]]=l.take (i+1):=by
 rw[List.take_add_one,aC h];rfl
theorem Wo (v:Val)(j:Ha 1099511627776 v)(m o q b c d e:IV)(r: ∀p∈v.f,W F33 0 [p.2.enc]=some p.2.E1): ∀ (n i:Nat),i+n=v.f.length->
  W F33 2 [.int i,v.enc,m,o,q,b,c,d,e,.list ((v.f.take i).map bG)]=some [b,c,d,e,.list (v.f.map bG)]
 | 0,i,h=>by
  rw[Avk]
  have t: ¬ i<v.f.length:=by omega
  simp only[cO,aA,bZ,aD,bA,Aj,t,Ze,aS,aB,Zf,dW (bD t)]
 | n+1,i,h=>by
  have a:i<v.f.length:=by omega
  have w:=j.O3
  have u:=Bd (i:=i) (by omega)
  have:=Wo v j m o q b c d e r n (i+1) (by omega)
  have g:((v.f.take i).length +1) * 96<=Bb:=S9 (by rw[eX];omega) (by omega)
  rw[Avk]
  simp only[cO,aA,bZ,aD,bA,Aj,a,Zd,aS,Zt,cE,aH,aG,aJ,aC a,aI,dG,dL,r _ (aK a),eN,gY,fB,Fld.Da,fX,eW,aQ,g,bR,u]
  rw[<-V4 v.f a,cG]at this
  exact this
theorem Yp (v:Val)(o:Ha 1099511627776 v)(b c d e g j:IV)(q: ∀x∈v.l,W F33 0 [x.enc]=some x.E1): ∀ (n i:Nat),i+n=v.l.length->
  W F33 1 [.int i,v.enc,b,c,d,e,g,j,.list ((v.l.take i).map bT)]=W F33 2 [.int 0,v.enc,b,c,d,e,g,j,.list (v.l.map bT),.list []]
 | 0,i,h=>by
  rw[Aum]
  have r: ¬ i<v.l.length:=by omega
  simp only[cU,aA,bZ,aD,bA,Aj,r,Ze,aS,aB,Zf,dW (bD r)]
 | n+1,i,h=>by
  have a:i<v.l.length:=by omega
  have u:=o.Vm
  have t:=Bd (i:=i) (by omega)
  have:=Yp v o b c d e g j q n (i+1) (by omega)
  have m:((v.l.take i).length +1) * 80<=Bb:=S9 (by rw[eX];omega) (by omega)
  rw[Aum]
  simp only[cU,aA,bZ,aD,bA,Aj,a,Zd,aS,Zt,cE,aH,aG,aJ,aC a,aI,q _ (aK a),eN,gY,fB,iG,fX,eW,aQ,m,bR,t]
  rw[<-V4 v.l a,cG]at this
  exact this
theorem Axe: ∀v:Val,Ha 1099511627776 v->W F33 0 [v.enc]=some v.E1:=by
 refine eJ λv b c a=>?_
 have d:=Yp v a (.int 0) (.int 0) (.str ⟨#[]⟩) (.int v.k) (.int v.n) (.str v.s) (λx e=>b x e (a.Nv e)) v.l.length 0 (by omega)
 have g:=Wo v a (.int 0) (.int 0) (.str ⟨#[]⟩) (.int v.k) (.int v.n) (.str v.s) (.list (v.l.map bT)) (λp hp=>c p hp (a.Ks hp)) v.f.length 0 (by omega)
 simp only[fO,bQ,aN]at d g
 rw[Bau]
 simp only[dU,gR,gI,aA]
 rw[d,g,eN]
theorem Abv (v:Val)(nm:ByteArray)(d:Ha 1099511627776 v)(e g j:IV): ∀ (n i:Nat),i+n=v.f.length->
  W F32 1 [.str nm,.int i,v.enc,e,g,j]=some (I9 (((v.f.drop i).find? λp=>decide (p.1=nm)).map (·.2)))
 | 0,i,h=>by
  rw[At1]
  have m: ¬ i<v.f.length:=by omega
  simp[m,aF (bD m),I9,Au,Am]
 | n+1,i,h=>by
  have b:i<v.f.length:=by omega
  have q:=d.O3
  have o:=Bd (i:=i) (by omega)
  have:=Abv v nm d e g j n (i+1) (by omega)
  have a:=aK b
  rw[At1,aE b]
  simp only[cO,aA,bZ,aD,bA,Aj,b,Zd,aS,Zt,cE,aH,aG,aJ,aC b,aI,dG,dL,gH,Axe v.f[i].2 (d.Ks a),eN,gY,bR,o,this,bW]
  by_cases c:v.f[i].1 =nm
  ·simp[c,I9]
  ·have c':decide (v.f[i].1 =nm)=false:=by simpa using c
   simp only[c,c',Ze,aB,Zf]
theorem A0t (v:Val)(nm:ByteArray)(a:Ha 1099511627776 v):W F32 0 [v.enc,.str nm]=some (I9 (v.get nm)):=by
 rw[Bc3]
 unfold gC
 have:=Abv v nm a (.int 0) (.int 0) (.str ⟨#[]⟩) v.f.length 0 (by omega)
 simp only[aP,aN]at this
 simp only[dU,aA,aW,aS,this]
 by_cases c:v.k=5<;>simp[c,I9,Au,Am]
def Ea (v:Val)(nm:ByteArray):List (ByteArray × Val):=if v.k=5 then v.f.filter (λp=> !decide (p.1=nm)) else[]
def Tj (p:ByteArray × Val):Bool->List (ByteArray × Val)->List (ByteArray × Val)
 | done,[]=>if done then[]else[p]
 | done,x::xs=>(if !done && !blt x.1 p.1 then[p]else[])++(if x.1=p.1 then[]else[x])++Tj p (done|| !blt x.1 p.1) xs
theorem Acp (p:ByteArray × Val): ∀ (l:List (ByteArray × Val)) (d:Bool),(Tj p d l).length <=l.length+1
 | [],d=>by cases d<;>simp[Tj]
 | x::xs,true=>by
  simp only[Tj,aV,cM,aB,Zf,bE,dX,aO]
  have:(Tj p true xs).length <=xs.length:=by
   have key: ∀l,(Tj p true l).length <=l.length:=by
    intro l
    induction l with
    | nil=>simp[Tj]
    | cons y ys a=>
     simp only[Tj,aV,cM,aB,Zf,bE,dX,aO,aZ]
     split<;>simp<;>omega
   exact key xs
  split<;>simp<;>omega
 | x::xs,false=>by
  have b:=Acp p xs true
  have c:=Acp p xs false
  have key: ∀l,(Tj p true l).length <=l.length:=by
   intro l
   induction l with
   | nil=>simp[Tj]
   | cons y ys a=>
    simp only[Tj,aV,cM,aB,Zf,bE,dX,aO,aZ]
    split<;>simp<;>omega
  have e:=key xs
  simp only[Tj,aY,bJ,eD,aO,aZ]
  cases blt x.1 p.1<;>simp<;>split<;>simp<;>omega
def Zz (l:List (ByteArray × Val)):List (ByteArray × Val):=l.foldl (λacc p=>Tj p false acc) []
theorem Kf (q:ByteArray × Val->Bool): ∀l:List (ByteArray × Val),Cq (l.filter q)<=Cq l
 | []=>by simp
 | p::l=>by
  have:=Kf q l
  rw[bY]
  split
  ·rw[Ca,Ca];omega
  ·rw[Ca];omega
def De (v:Val)(nm:ByteArray)(x:Val):Val:=⟨5,0,Am,[],Zz (Ea v nm++ [(nm,x)])⟩
theorem Xy {N:Nat}{v:Val}(h:Ha N v)(nm:ByteArray):Ar8 N (Ea v nm):=by
 unfold Ea
 split
 ·exact⟨dE (dA _ _) h.O3,λp hp=>h.Ks (cH.1 hp).1⟩
 ·exact⟨dS _,by simp⟩
theorem Aur (v:Val)(nm:ByteArray)(a:v.Ap<=1099511627776):W F32 0 [v.enc,.str nm]=some (I9 (v.get nm)):=A0t v nm (Dd v (by omega))
end Go.CT.Sch
namespace Go.CT.Sch
open Go.Proofs
theorem Abn (v:Val)(r:v.Ap<=1099511627776)(e: ∀p∈v.f,W F18 0 [p.2.enc]=some [.int p.2.size]): ∀ (n i c:Nat),i+n=v.f.length->c<=1099511627776->
  W F18 2 [.int c,.int i,v.enc]=some [.int ((c+Bz (v.f.drop i):Nat):Int)]
 | 0,i,c,h,o=>by
  rw[Ad3]
  have d: ¬ i<v.f.length:=by omega
  simp[d,aF (bD d),Bz]
 | n+1,i,c,h,o=>by
  have a:i<v.f.length:=by omega
  have u:=v.Bc
  have g:=Bd (i:=i) (by omega)
  have w:=T3 (aK a)
  have j:=v.E9
  rw[v.size_eq]at j
  have hd:Bz (v.f.drop i)=v.f[i].2.size +Bz (v.f.drop (i+1)):=by rw[aE a];rfl
  have b:IntKind.i64.wrap ((c:Int)+(v.f[i].2.size :Nat))=((c+v.f[i].2.size :Nat):Int):=by rw[wrap64 (by omega) (by omega)];rfl
  rw[Ad3]
  simp only[cO,aA,bZ,aD,bA,Aj,a,Zd,aS,Zt,cE,aH,aG,aJ,aC a,aI,dL,e _ (aK a),bI,bR,g,b]
  by_cases m:c+v.f[i].2.size <=1099511627776
  ·rw[Abn v r e n (i+1) _ (by omega) m,hd,dI]
  ·-- larger sums: only the bound differs
   have key: ∀ (n i c:Nat),i+n=v.f.length->c+Bz (v.f.drop i)<=4611686018427387904->W F18 2 [.int c,.int i,v.enc]=some [.int ((c+Bz (v.f.drop i):Nat):Int)]:=by
    intro n
    induction n with
    | zero=>
     intro i c h _
     rw[Ad3]
     have d: ¬ i<v.f.length:=by omega
     simp[d,aF (bD d),Bz]
    | succ n ihn=>
     intro i c h o
     have a:i<v.f.length:=by omega
     have g:=Bd (i:=i) (by omega)
     have hd:Bz (v.f.drop i)=v.f[i].2.size +Bz (v.f.drop (i+1)):=by rw[aE a];rfl
     have b:IntKind.i64.wrap ((c:Int)+(v.f[i].2.size :Nat))=((c+v.f[i].2.size :Nat):Int):=by rw[wrap64 (by omega) (by omega)];rfl
     rw[Ad3]
     simp only[cO,aA,bZ,aD,bA,Aj,a,Zd,aS,Zt,cE,aH,aG,aJ,aC a,aI,dL,e _ (aK a),bI,bR,g,b]
     rw[ihn (i+1) _ (by omega) (by omega),hd,dI]
   have q:Bz (v.f.drop (i+1))<=Bz v.f:=by
    have:=fJ (i+1) v.f
    have t:=Nz (v.f.take (i+1)) (v.f.drop (i+1))
    rw[this]at t;omega
   rw[key n (i+1) _ (by omega) (by omega),hd,dI]
theorem Abo (v:Val)(g:v.Ap<=1099511627776)(d: ∀x∈v.l,W F18 0 [x.enc]=some [.int x.size]): ∀ (n i c:Nat),i+n=v.l.length->c+Cn (v.l.drop i)<=4611686018427387904->
  W F18 1 [.int c,.int i,v.enc]=W F18 2 [.int ((c+Cn (v.l.drop i):Nat):Int),.int 0,v.enc]
 | 0,i,c,h,j=>by
  rw[Ay5]
  have e: ¬ i<v.l.length:=by omega
  simp[e,aF (bD e),Cn]
 | n+1,i,c,h,j=>by
  have a:i<v.l.length:=by omega
  have o:=v.Bx
  have m:=Bd (i:=i) (by omega)
  have hd:Cn (v.l.drop i)=v.l[i].size +Cn (v.l.drop (i+1)):=by rw[aE a];rfl
  have b:IntKind.i64.wrap ((c:Int)+(v.l[i].size :Nat))=((c+v.l[i].size :Nat):Int):=by rw[wrap64 (by omega) (by omega)];rfl
  rw[Ay5]
  simp only[cU,aA,bZ,aD,bA,Aj,a,Zd,aS,Zt,cE,aH,aG,aJ,aC a,aI,d _ (aK a),bI,bR,m,b]
  rw[Abo v g d n (i+1) _ (by omega) (by omega),hd,dI]
theorem A49: ∀v:Val,v.Ap<=1099511627776->W F18 0 [v.enc]=some [.int v.size]:=by
 refine eJ λv a b d=>?_
 have i:=v.E9
 have j:=v.size_eq
 have e:=Abo v d (λx g=>a x g (by have:=eM g;omega)) v.l.length 0 1 (by omega) (by simp only[aP];omega)
 have h:=Abn v d (λp hp=>b p hp (by have:=eF hp;omega)) v.f.length 0 (1+Cn v.l) (by omega) (by omega)
 simp only[aP,aN]at e h
 rw[Ba4]
 have c:W F18 1 [.int 1,.int 0,v.enc]=W F18 2 [.int ((1+Cn v.l:Nat):Int),.int 0,v.enc]:=e
 rw[c,h,j]
theorem Tf (v:Val)(a:v.Ap<=1099511627776):W F15 0 [v.enc]=some [.bool v.valid]:=by
 rw[Bas]
 have b:=Y4 12 v (by omega) a
 have c:=A49 v a
 simp only[aN]at b
 simp only[b,c,bI,aS,eV,aA,fS]
 have:decide ((v.size:Int)<=600)=decide (v.size<=600):=by simp;omega
 cases B9 12 v<;>simp[this]
theorem Yu (v:Val)(u:v.Ap<=1099511627776)(q: ∀p∈v.f,∀c d:Int,c<=100000-> -1099511627776<=d->d<=100000-> ∃r:Int,W F4 0 [p.2.enc,.int c,.int d]=some [.int r]/\r<=100000)(d:Int)(hd: -1000000000000<=d/\d<=100000): ∀ (n i:Nat) (c:Int),i+n=v.f.length->c<=100000->
  ∃r:Int,W F4 2 [.int c,.int d,.int i,v.enc]=some [.int r]/\r<=100000
 | 0,i,c,h,e=>by
  rw[A77]
  have w: ¬ i<v.f.length:=by omega
  exact⟨c,by simp[w],e⟩
 | n+1,i,c,h,e=>by
  have a:i<v.f.length:=by omega
  have A:=v.Bc
  have x:=Bd (i:=i) (by omega)
  have g:IntKind.i64.wrap (d - 1)=d - 1:=wrap64 (by omega) (by omega)
  obtain⟨r,y,j⟩:=q _ (aK a) c (d - 1) e (by omega) (by omega)
  obtain⟨z,m,b⟩:=Yu v u q d hd n (i+1) r (by omega) j
  rw[A77]
  by_cases o:0<=c
  ·by_cases t:(1000:Int)<v.f[i].1.size
   ·exact⟨-1,by simp[a,o,t],by omega⟩
   ·exact⟨z,by simp only[cO,aA,bZ,aD,bA,Aj,a,Zd,aS,Zt,fH,o,cE,aH,aG,aJ,aC a,aI,dG,cZ,cW,t,Ze,aB,Zf,dL,fI,g,y,bI,bR,x,m],b⟩
  ·exact⟨c,by simp[a,o],e⟩
theorem X7 (v:Val)(t:v.Ap<=1099511627776)(o: ∀x∈v.l,∀c d:Int,c<=100000-> -1099511627776<=d->d<=100000-> ∃r:Int,W F4 0 [x.enc,.int c,.int d]=some [.int r]/\r<=100000)(d:Int)(hd: -1000000000000<=d/\d<=100000): ∀ (n i:Nat) (c:Int),i+n=v.l.length->c<=100000->
  ∃r:Int,W F4 1 [.int c,.int d,.int i,v.enc]=W F4 2 [.int r,.int d,.int 0,v.enc]/\r<=100000
 | 0,i,c,h,b=>by
  rw[A7k]
  have u: ¬ i<v.l.length:=by omega
  exact⟨c,by simp[u],b⟩
 | n+1,i,c,h,b=>by
  have e:i<v.l.length:=by omega
  have A:=v.Bx
  have w:=Bd (i:=i) (by omega)
  have g:IntKind.i64.wrap (d - 1)=d - 1:=wrap64 (by omega) (by omega)
  obtain⟨r,y,j⟩:=o _ (aK e) c (d - 1) b (by omega) (by omega)
  obtain⟨z,m,a⟩:=X7 v t o d hd n (i+1) r (by omega) j
  rw[A7k]
  by_cases q:0<=c
  ·exact⟨z,by simp only[cU,aA,bZ,aD,bA,Aj,e,Zd,aS,Zt,fH,q,cE,aH,aG,aJ,aC e,aI,fI,g,y,bI,bR,w,m],a⟩
  ·exact⟨c,by simp[e,q],b⟩
theorem Ax7: ∀v:Val,v.Ap<=1099511627776-> ∀c d:Int,c<=100000-> -1099511627776<=d->d<=100000-> ∃r:Int,W F4 0 [v.enc,.int c,.int d]=some [.int r]/\r<=100000:=by
 refine eJ λv e g j c d z hd t=>?_
 rw[Bew]
 by_cases b:c<=0
 ·exact⟨-1,by simp[b],by omega⟩
 ·by_cases h:d<=0
  ·exact⟨-1,by simp[b,h],by omega⟩
  ·by_cases m:(1000:Int)<v.s.size
   ·exact⟨-1,by simp[b,h,m],by omega⟩
   ·have u:IntKind.i64.wrap (c - 1)=c - 1:=wrap64 (by omega) (by omega)
    obtain⟨r,o,w⟩:=X7 v j (λx q=>e x q (by have:=eM q;omega)) d (by omega) v.l.length 0 (c - 1) (by omega) (by omega)
    obtain⟨y,a,i⟩:=Yu v j (λp hp=>g p hp (by have:=eF hp;omega)) d (by omega) v.f.length 0 r (by omega) w
    simp only[aN]at o a
    exact⟨y,by simp[b,h,m,u,o,a],i⟩
theorem K3 (a b:Bool):W F215 0 [.bool a,.bool b]=some [.int (if a then -1 else if b then 1 else 0)]:=by
 rw[A3s];cases a<;>cases b<;>rfl
theorem Aku (a b:Int):(if decide (a<b)=true then(-1:Int) else if decide (b<a)=true then 1 else 0)=0↔a=b:=by
 by_cases c:a<b
 ·simp[c];omega
 ·by_cases d:b<a
  ·simp[c,d];omega
  ·simp[c,d];omega
theorem Axa (a b:ByteArray):(if blt a b=true then(-1:Int) else if blt b a=true then 1 else 0)=0↔a=b:=by
 rcases Kt a b with h | rfl | h
 ·simp[h];exact I1 h
 ·simp[Ez]
 ·have:=Ou h
  simp[h,this]
  exact λe=>I1 h e.symm
theorem Bak (a b:Val)(u:Ha 1099511627776 a)(t:Ha 1099511627776 b)(w: ∀p∈a.f,∀y:Val,Ha 1099511627776 y-> ∃c:Int,W A8n 0 [p.2.enc,y.enc]=some [.int c]/\(c=0↔p.2=y)): ∀ (n i:Nat) (c:Int),i+n=a.f.length->i<=b.f.length->
  ∃c':Int,W A8n 5 [.int c,.int i,a.enc,b.enc]=some [.int c']/\(c'=0↔c=0/\a.f.drop i=b.f.drop i)
 | n,i,c,h,C=>by
  have F:=u.O3
  have G:=t.O3
  rw[A4h]
  by_cases x:c=0
  ·subst x
   by_cases d:i<a.f.length
   ·by_cases j:i<b.f.length
    ·obtain⟨m,rfl⟩: ∃m,n=m+1:=⟨n - 1,by omega⟩
     have B:=Bd (i:=i) (by omega)
     have q:=aK j
     obtain⟨H,I,J⟩:=w _ (aK d) b.f[i].2 (t.Ks q)
     have z:=Axa a.f[i].1 b.f[i].1
     have hd:(a.f.drop i=b.f.drop i)↔(a.f[i].1 =b.f[i].1 /\a.f[i].2 =b.f[i].2 /\a.f.drop (i+1)=b.f.drop (i+1)):=by
      rw[aE d,aE j]
      simp only[gN,Prod.ext_iff,and_assoc]
     simp only[cO,aA,bZ,aD,bA,Aj,d,j,Zd,aS,Zt,aW,cE,aH,aG,aJ,aC d,aC j,aI,dG,dL,At6,Auw,K3,bI,hd]
     generalize (if blt a.f[i].1 b.f[i].1 =true then(-1:Int) else if blt b.f[i].1 a.f[i].1 =true then 1 else 0)=o at z
     by_cases r:o=0
     ·obtain⟨c',r1,r2⟩:=Bak a b u t w m (i+1) H (by omega) (by omega)
      refine⟨c',by simp only[r,Zd,Zt,I,bI,Al8,bR,B,aA,r1],?_⟩
      rw[r2,J]
      have:=z.1 r
      simp[this]
     ·obtain⟨c',r1,r2⟩:=Bak a b u t w m (i+1) o (by omega) (by omega)
      refine⟨c',by simp only[r,Ze,aB,Zf,Al8,bR,B,aA,r1],?_⟩
      rw[r2]
      have: ¬ a.f[i].1 =b.f[i].1 :=λe=>r (z.2 e)
      simp[r,this]
    ·have K:i=b.f.length:=by omega
     have L: ¬ a.f.length=b.f.length:=by omega
     refine⟨1,?_,by
      have: ¬ a.f.drop i=b.f.drop i:=λe=>by
       have:=congrArg dC e
       simp at this;omega
      simp[this]⟩
     have M: ¬ (a.f.length:Int)<b.f.length:=by omega
     have A:(b.f.length:Int)<a.f.length:=by omega
     simp[d,j,M,A,K3]
   ·have K:i=a.f.length:=by omega
    refine⟨_,by simp only[cO,aA,bZ,aD,bA,Aj,d,Ze,aS,aB,Zf,aW,Zd,Zt,K3,bI,cW];rfl,?_⟩
    have e1:a.f.drop i= []:=aF (by omega)
    rw[e1]
    by_cases g:a.f.length=b.f.length
    ·have:b.f.drop i= []:=aF (by omega)
     simp[g,this]
    ·have A:a.f.length<b.f.length:=by omega
     have: ¬ []=b.f.drop i:=λe=>by
      have:=congrArg dC e
      simp at this;omega
     simp[A,this]
  ·refine⟨c,?_,by simp[x]⟩
   by_cases d:i<a.f.length<;>by_cases j:i<b.f.length<;>simp[d,j,x]
theorem Bf7 (a b:Val)(t:Ha 1099511627776 a)(o:Ha 1099511627776 b)(u: ∀x∈a.l,∀y:Val,Ha 1099511627776 y-> ∃c:Int,W A8n 0 [x.enc,y.enc]=some [.int c]/\(c=0↔x=y)): ∀ (n i:Nat) (c:Int),i+n=a.l.length->i<=b.l.length->
  ∃c':Int,W A8n 3 [.int c,.int i,a.enc,b.enc]=W A8n 4 [.int c',a.enc,b.enc]/\(c'=0↔c=0/\a.l.drop i=b.l.drop i)
 | n,i,c,h,w=>by
  have z:=t.Vm
  have A:=o.Vm
  rw[A4n]
  by_cases q:c=0
  ·subst q
   by_cases d:i<a.l.length
   ·by_cases j:i<b.l.length
    ·obtain⟨m,rfl⟩: ∃m,n=m+1:=⟨n - 1,by omega⟩
     have B:=Bd (i:=i) (by omega)
     obtain⟨C,F,G⟩:=u _ (aK d) b.l[i] (o.Nv (aK j))
     have hd:(a.l.drop i=b.l.drop i)↔(a.l[i]=b.l[i]/\a.l.drop (i+1)=b.l.drop (i+1)):=by
      rw[aE d,aE j]
      simp only[gN]
     obtain⟨c',r1,r2⟩:=Bf7 a b t o u m (i+1) C (by omega) (by omega)
     refine⟨c',by simp only[cU,aA,bZ,aD,bA,Aj,d,j,Zd,aS,Zt,aW,cE,aH,aG,aJ,aC d,aC j,aI,F,bI,bR,B,r1],?_⟩
     rw[r2,G,hd];simp
    ·refine⟨1,?_,by
      have: ¬ a.l.drop i=b.l.drop i:=λe=>by
       have:=congrArg dC e
       simp at this;omega
      simp[this]⟩
     have H: ¬ (a.l.length:Int)<b.l.length:=by omega
     have r:(b.l.length:Int)<a.l.length:=by omega
     simp[d,j,H,r,K3]
   ·have I:i=a.l.length:=by omega
    refine⟨_,by simp only[cU,aA,bZ,aD,bA,Aj,d,Ze,aS,aB,Zf,aW,Zd,Zt,K3,bI,cW];rfl,?_⟩
    have e1:a.l.drop i= []:=aF (by omega)
    rw[e1]
    by_cases g:a.l.length=b.l.length
    ·have:b.l.drop i= []:=aF (by omega)
     simp[g,this]
    ·have r:a.l.length<b.l.length:=by omega
     have: ¬ []=b.l.drop i:=λe=>by
      have:=congrArg dC e
      simp at this;omega
     simp[r,this]
  ·refine⟨c,?_,by simp[q]⟩
   by_cases d:i<a.l.length<;>by_cases j:i<b.l.length<;>simp[d,j,q]
theorem A0i: ∀a:Val,Ha 1099511627776 a-> ∀b:Val,Ha 1099511627776 b-> ∃c:Int,W A8n 0 [a.enc,b.enc]=some [.int c]/\(c=0↔a=b):=by
 refine eJ λa q r j b u=>?_
 have w:=λc=>Bf7 a b j u (λx y=>q x y (j.Nv y)) a.l.length 0 c (by omega) (dS _)
 have z:=λc=>Bak a b j u (λp hp=>r p hp (j.Ks hp)) a.f.length 0 c (by omega) (dS _)
 simp only[aP,aN]at w z
 have h:a=b↔a.k=b.k/\a.n=b.n/\a.s=b.s/\a.l=b.l/\a.f=b.f:=by
  cases a;cases b;simp
 -- from the lists on
 have rest: ∀c:Int,∃c':Int,W A8n 2 [.int c,a.enc,b.enc]=some [.int c']/\(c'=0↔c=0/\a.l=b.l/\a.f=b.f):=by
  intro c
  obtain⟨B,d,g⟩:=w c
  obtain⟨C,r1,r2⟩:=z B
  refine⟨C,by rw[A2t,d,A3n,r1],by rw[r2,g,and_assoc]⟩
 have text: ∀c:Int,∃c':Int,W A8n 1 [.int c,a.enc,b.enc]=some [.int c']/\(c'=0↔c=0/\a.s=b.s/\a.l=b.l/\a.f=b.f):=by
  intro c
  rw[A5k]
  by_cases m:c=0
  ·have F:=Axa a.s b.s
   obtain⟨c',d,g⟩:=rest (if blt a.s b.s=true then(-1:Int) else if blt b.s a.s=true then 1 else 0)
   refine⟨c',by simp only[aW,m,Zd,aA,aS,Zt,gI,At6,Auw,K3,bI,d],?_⟩
   rw[g,F];simp[m]
  ·obtain⟨c',d,g⟩:=rest c
   refine⟨c',by simp only[aW,m,Ze,aA,aS,aB,Zf,d],?_⟩
   rw[g];simp[m]
 rw[A40]
 have t:=Aku a.k b.k
 have A:=Aku a.n b.n
 simp only[dU,gR,aA,bA,cW,K3,bI,aW,aS]
 generalize (if decide (a.k<b.k)=true then(-1:Int) else if decide (b.k<a.k)=true then 1 else 0)=o at t
 generalize (if decide (a.n<b.n)=true then(-1:Int) else if decide (b.n<a.n)=true then 1 else 0)=G at A
 by_cases i:o=0
 ·obtain⟨c',d,g⟩:=text G
  refine⟨c',by simp only[i,Zd,Zt,d],?_⟩
  rw[g,A,h]
  have:=t.1 i
  simp[this]
 ·obtain⟨c',d,g⟩:=text o
  refine⟨c',by simp only[i,Ze,aB,Zf,d],?_⟩
  rw[g,h]
  have: ¬ a.k=b.k:=λe=>i (t.2 e)
  simp[i,this]
open Classical in
theorem Ast (a b:Val)(ha:Ha 1099511627776 a)(hb:Ha 1099511627776 b):W Bh8 0 [a.enc,b.enc]=some [.bool (decide (a=b))]:=by
 obtain⟨c,h1,h2⟩:=A0i a ha b hb
 rw[A45]
 simp only[h1,bI,aW,aA]
 congr 3
 simp only[h2]
open Classical in
theorem Au9 (a b:Val)(ha:a.Ap<=1099511627776)(hb:b.Ap<=1099511627776):W Bh8 0 [a.enc,b.enc]=some [.bool (decide (a=b))]:=Ast a b (Dd a (by omega)) (Dd b (by omega))
end Go.CT.Sch
namespace Go.CT.Sch
open Go.Proofs
def Az4 (x y:ByteArray × Val):Bool:=blt x.1 y.1
theorem cmpB: ∀ (a b:List UInt8),decide (Lib.compareBytes a b<0)=Op.bytesLess a b
 | [],[]=>rfl
 | [],_::_=>by simp[Lib.compareBytes,Op.bytesLess]
 | _::_,[]=>by simp[Lib.compareBytes,Op.bytesLess]
 | a::x,b::y=>by
  simp only[Lib.compareBytes,Op.bytesLess]
  by_cases c:a<b
  ·simp[c]
  ·by_cases d:b<a
   ·have: ¬ a=b:=λe=>by subst e;exact c d
    simp[c,d,this]
   ·have:a=b:=by
     have g: ¬ a.toNat<b.toNat:=λh=>c (fK.2 h)
     have i: ¬ b.toNat<a.toNat:=λh=>d (fK.2 h)
     exact gO.1 (by omega)
    subst this
    simp[c,cmpB x y]
theorem fcmp (x y:ByteArray × Val): ∃c:Int,W F77 0 [bG x,bG y]=some [.int c]/\(decide (c<0)=Az4 x y):=by
 refine⟨Lib.compareBytes x.1.data.toList y.1.data.toList,?_,cmpB _ _⟩
 rw[Bbi]
 simp[Avy,Azx,Bfp,O.Qe]
theorem ford:Srt.Ord Az4 where
 irr x:=Ez _
 tr x y z h k:=G4 h k
 neg x y z h:=by
  rcases Kt x.1 y.1 with a | a | a
  ·exact .inl a
  ·right;unfold Az4 at h ⊢;rw[<-a];exact h
  ·right;exact G4 a h
noncomputable def feqs:Srt.Eqs bG Az4 6 true where
 S b xs:=W F74 b xs
 B b xs:=W F75 b xs
 I b xs:=W F76 b xs
 M b xs:=W F81 b xs
 R b xs:=W F82 b xs
 X b xs:=W F83 b xs
 C xs:=W F77 0 xs
 cmp:=fcmp
 s0:=by intros;exact Um rfl (by kernel_rfl)
 b0:=by intros;exact Um rfl (by kernel_rfl)
 b1:=by intros;exact Um rfl (by kernel_rfl)
 b2:=by intros;exact Um rfl (by kernel_rfl)
 b3:=by intros;exact Um rfl (by kernel_rfl)
 b4:=by intros;exact Um rfl (by kernel_rfl)
 i0:=by intros;exact Um rfl (by kernel_rfl)
 i1:=by intros;exact Um rfl (by kernel_rfl)
 i2:=by intros;exact Um rfl (by kernel_rfl)
 x0:=by intros;exact Um rfl (by kernel_rfl)
 x1:=by intros;exact Um rfl (by kernel_rfl)
 r0:=by intros;exact Um rfl (by kernel_rfl)
 r1:=by intros;exact Um rfl (by kernel_rfl)
 r2:=by intros;exact Um rfl (by kernel_rfl)
 m0:=by intros;exact Um rfl (by kernel_rfl)
 m1:=by intros;exact Um rfl (by kernel_rfl)
 m2:=by intros;exact Um rfl (by kernel_rfl)
 m3:=by intros;exact Um rfl (by kernel_rfl)
 m4:=by intros;exact Um rfl (by kernel_rfl)
 m5:=by intros;exact Um rfl (by kernel_rfl)
 m6:=by intros;exact Um rfl (by kernel_rfl)
 m7:=by intros;exact Um rfl (by kernel_rfl)
 m8:=by intros;exact Um rfl (by kernel_rfl)
 m9:=by intros;exact Um rfl (by kernel_rfl)
 m10:=by intros;exact Um rfl (by kernel_rfl)
 m11:=by intros;exact Um rfl (by kernel_rfl)
end Go.CT.Sch
namespace Go.CT.Sch
open Go.Proofs
theorem Dy {l:List IV}(h:l.length<=1073741824):O.Iq [.list l]=some [.list l]:=if_pos h
theorem Ut (v:Val)(j:Ha 1073741824 v)(c d e m o q g:IV)(r: ∀p∈v.f,W F84 0 [p.2.enc]=some p.2.E1): ∀ (n i:Nat),i+n=v.f.length->
  W F84 2 [.int v.f.length,.int i,c,d,e,m,o,q,.list (v.f.map bG),g]=some [c,d,e,g,.list (v.f.map bG)]
 | 0,i,h=>by
  rw[Axg]
  have t: ¬ i<v.f.length:=by omega
  simp only[bA,Aj,t,Ze,aA,aS,aB,Zf]
 | n+1,i,h=>by
  have b:i<v.f.length:=by omega
  have y:=j.O3
  have u:=Bd (i:=i) (by omega)
  have:=Ut v j c d e m o q g r n (i+1) (by omega)
  have a:O.setAt 1 5 true false (.list (v.f.map bG)) (.int i) v.f[i].2.enc =some (.list (v.f.map bG)):=by
   have w:(v.f.map bG)[i]?=some (bG v.f[i]):=by rw[aJ,aC b];rfl
   have z:(v.f.map bG).set i (bG v.f[i])=v.f.map bG:=by
    rw[<-List.map_set,fL]
   unfold O.setAt
   simp only[dD,aH,Zt,aG,w,aB,Zf]
   rw[v.f[i].2.Es]
   simp only[bG]
   have x:v.f[i].2.E1.length =5:=rfl
   simp only[x,Zt]
   congr 2
  rw[Axg]
  simp only[bA,Aj,b,Zd,aA,aS,Zt,cE,aH,aG,aJ,aC b,aI,dL,r _ (aK b),eN,gY,fB,iG,a,bR,u,this]
theorem Vd (v:Val)(c:Ha 1073741824 v)(d e g j m o:IV)(q: ∀x∈v.l,W F84 0 [x.enc]=some x.E1): ∀ (n i:Nat),i+n=v.l.length->
  W F84 1 [.int v.l.length,.int i,d,e,g,.list (v.f.map bG),j,m,o,.list (v.l.map bT)]=W F84 2 [.int v.f.length,.int (0:Nat),d,e,g,j,m,o,.list (v.f.map bG),.list (v.l.map bT)]
 | 0,i,h=>by
  rw[Awo]
  have r: ¬ i<v.l.length:=by omega
  have w:=c.O3
  have t:(v.f.map bG).length <=1073741824:=by rw[aD];omega
  simp only[bA,Aj,r,Ze,aA,aS,aB,Zf,A3r,Dy t,bI,bZ,aD]
  rfl
 | n+1,i,h=>by
  have b:i<v.l.length:=by omega
  have y:=c.Vm
  have u:=Bd (i:=i) (by omega)
  have:=Vd v c d e g j m o q n (i+1) (by omega)
  have a:O.setAt 0 5 true true (.list (v.l.map bT)) (.int i) v.l[i].enc =some (.list (v.l.map bT)):=by
   rw[show(IV.list (v.l.map bT))=eB bT v.l from rfl,Srt.Aru bT b,fL]
  rw[Awo]
  simp only[bA,Aj,b,Zd,aA,aS,Zt,cE,aH,aG,aJ,aC b,aI,q _ (aK b),eN,gY,fB,iG,a,bR,u,this]
theorem Ua: ∀v:Val,Ha 1073741824 v->W F84 0 [v.enc]=some v.E1:=by
 refine eJ λv b c a=>?_
 have d:=Vd v a (.int v.k) (.int v.n) (.str v.s) (.int 0) (.int 0) (.str ⟨#[]⟩) (λx e=>b x e (a.Nv e)) v.l.length 0 (by omega)
 have g:=Ut v a (.int v.k) (.int v.n) (.str v.s) (.int 0) (.int 0) (.str ⟨#[]⟩) (.list (v.l.map bT)) (λp hp=>c p hp (a.Ks hp)) v.f.length 0 (by omega)
 rw[g]at d
 rw[A93]
 have i:=a.Vm
 have h:(v.l.map bT).length <=1073741824:=by rw[aD];omega
 simp only[dU,gR,gI,cU,cO,aA,Bgb,Dy h,bI,bZ,aD]
 rw[eN]
 exact d
theorem Mr (l:List Val)(b:l.length<=1073741824)(a: ∀x∈l,Ha 1073741824 x):W Bgw 0 [.list (l.map bT)]=some (Val.E1 ⟨4,0,Am,l,[]⟩):=by
 rw[A6r]
 have h:=Ua ⟨4,0,Am,l,[]⟩ (.mk _ b (dS _) a (by simp))
 have e:IV.agg [.int 4,.int 0,.str ⟨#[]⟩,.list (l.map bT),.list []]=bT ⟨4,0,Am,l,[]⟩:=by
  rw[<-Val.fold];rfl
 simp only[fB,aA,e,h,eN,gY]
theorem Aex (l:List Val)(b:Du l<=4294967200):W Bgw 0 [.list (l.map bT)]=some (Val.E1 ⟨4,0,Am,l,[]⟩):=
 Mr l (by have:=M4 l;omega) λx a=>Dd x (by
  have:x.Ap<=Du l:=Gt (fT a)
  omega)
theorem Ab7 (v:Val)(nm:ByteArray)(d:Ha 1073741824 v)(e g j:IV): ∀ (n i:Nat),i+n=v.f.length->
  W Bhq 1 [.str nm,.list (v.f.map bG),.int v.f.length,.int i,e,g,j]=some (I9 (((v.f.drop i).find? λp=>decide (p.1=nm)).map (·.2)))
 | 0,i,h=>by
  rw[An0]
  have m: ¬ i<v.f.length:=by omega
  simp[m,aF (bD m),I9,Au,Am]
 | n+1,i,h=>by
  have b:i<v.f.length:=by omega
  have q:=d.O3
  have o:=Bd (i:=i) (by omega)
  have:=Ab7 v nm d e g j n (i+1) (by omega)
  have a:=aK b
  rw[An0,aE b]
  simp only[bA,Aj,b,Zd,aA,aS,Zt,cE,aH,aG,aJ,aC b,aI,dG,dL,gH,Ua v.f[i].2 (d.Ks a),eN,gY,bR,o,this,bW]
  by_cases c:v.f[i].1 =nm
  ·simp[c,I9]
  ·have c':decide (v.f[i].1 =nm)=false:=by simpa using c
   simp only[c,c',Ze,aB,Zf]
theorem A5g (v:Val)(nm:ByteArray)(a:Ha 1073741824 v):W Bhq 0 [v.enc,.str nm]=some (I9 (v.get nm)):=by
 rw[A6f]
 unfold gC
 have:=Ab7 v nm a (.int 0) (.int 0) (.str ⟨#[]⟩) v.f.length 0 (by omega)
 simp only[aP,aN]at this
 simp only[dU,cO,aA,aW,aS,bZ,aD,this]
 by_cases c:v.k=5<;>simp[c,I9,Au,Am]
end Go.CT.Sch
namespace Go.CT.Sch
open Go.Proofs
def Ix (nm:ByteArray)(p:ByteArray × Val):Bool:= !decide (p.1=nm)
def dedup:List (ByteArray × Val)->List (ByteArray × Val)
 | []=> []
 | [p]=> [p]
 | p::q::r=>if q.1=p.1 then dedup (q::r) else p::dedup (q::r)
def Ck (l:List (ByteArray × Val)):Prop:=l.Pairwise λa b=>blt a.1 b.1=true
def isName (nm:ByteArray)(p:ByteArray × Val):Bool:=decide (p.1=nm)
def look (nm:ByteArray)(l:List (ByteArray × Val)):Option (ByteArray × Val):=(l.filter (isName nm)).getLast?
theorem X9: ∀ (l:List (ByteArray × Val)) (p:ByteArray × Val),p∈dedup l->p∈l
 | [],p,h=>h
 | [_],p,h=>h
 | a::b::r,p,h=>by
  simp only[dedup]at h
  split at h
  ·exact cQ _ (X9 (b::r) p h)
  ·rcases bH.1 h with rfl | h
   ·simp
   ·exact cQ _ (X9 (b::r) p h)
theorem Agx {x y:ByteArray}(h:blt y x=false)(b: ¬ y=x):blt x y=true:=by
 rcases Kt x y with a | a | a
 ·exact a
 ·exact absurd a.symm b
 ·rw[h]at a;cases a
theorem Aiz {x y z:ByteArray}(h:blt x y=true)(b:blt z y=false):blt x z=true:=by
 rcases Kt y z with a | a | a
 ·exact G4 h a
 ·rw[<-a];exact h
 ·rw[b]at a;cases a
theorem U7: ∀l:List (ByteArray × Val),Srt.Dc Az4 l->Ck (dedup l)
 | [],_=>dY
 | [_],_=>cF _ _
 | a::b::r,h=>by
  have d:=bC.1 h
  have i:=U7 (b::r) d.2
  simp only[dedup]
  split
  ·exact i
  ·next e=>
   refine bC.2 ⟨λy g=>?_,i⟩
   have c:blt a.1 b.1=true:=Agx (d.1 b (by simp)) e
   rcases bH.1 (X9 _ _ g) with rfl | g
   ·exact c
   ·exact Aiz c ((bC.1 d.2).1 y g)
theorem Pg (nm:ByteArray)(p:ByteArray × Val)(l:List (ByteArray × Val)):look nm (p::l)=(look nm l).or (if p.1=nm then some p else none):=by
 unfold look
 rw[bY]
 by_cases c:p.1=nm
 ·rw[if_pos (by simp[isName,c]),if_pos c]
  generalize l.filter (isName nm)=m
  cases m with
  | nil=>rfl
  | cons b r=>
   rw[List.getLast?_cons_cons]
   cases h:(b::r).getLast? with
   | none=>simp at h
   | some x=>rfl
 ·rw[if_neg (by simp[isName,c]),if_neg c,gS]
theorem Ab9 (nm:ByteArray): ∀l:List (ByteArray × Val),look nm (dedup l)=look nm l
 | []=>rfl
 | [_]=>rfl
 | a::b::r=>by
  have g:=Ab9 nm (b::r)
  simp only[dedup]
  split
  ·next e=>
   rw[g,Pg nm a (b::r),Pg nm b r]
   by_cases c:b.1=nm
   ·have d:a.1=nm:=by rw[<-e];exact c
    simp only[c,d,Zt]
    cases look nm r<;>rfl
   ·have d: ¬ a.1=nm:=by rw[<-e];exact c
    simp only[d,Zf,gS]
  ·rw[Pg nm a,g,Pg nm a]
theorem Mg {l:List (ByteArray × Val)}(h:Ck l)(p:ByteArray × Val):p∈l↔look p.1 l=some p:=by
 induction l with
 | nil=>simp[look]
 | cons a l g=>
  have d:=bC.1 h
  rw[Pg,bH,g d.2]
  by_cases c:a.1=p.1
  ·have i:look p.1 l=none:=by
    unfold look
    rw[List.getLast?_eq_none_iff,fD]
    intro y j b
    simp only[isName,decide_eq_true_eq]at b
    have:=d.1 y j
    rw[c,b,Ez]at this
    cases this
   simp[i,c,eq_comm]
  ·have: ¬ p=a:=λe=>c (by rw[e])
   simp[c,this]
theorem Ab2 {a b:List (ByteArray × Val)}(j:Ck a)(m:Ck b)(h: ∀p,p∈a↔p∈b):a=b:=by
 induction a generalizing b with
 | nil=>
  cases b with
  | nil=>rfl
  | cons y b=>have:=(h y).2 (by simp);simp at this
 | cons x a o=>
  cases b with
  | nil=>have:=(h x).1 (by simp);simp at this
  | cons y b=>
   have c:=bC.1 j
   have d:=bC.1 m
   have g:x=y:=by
    rcases bH.1 ((h x).1 (by simp)) with e | q
    ·exact e
    ·rcases bH.1 ((h y).2 (by simp)) with e | r
     ·exact e.symm
     ·have t:=d.1 x q
      have i:=c.1 y r
      rw[Ou t]at i;cases i
   subst g
   rw[o c.2 d.2]
   intro p
   have:=h p
   simp only[bH]at this
   constructor
   ·intro hp
    rcases this.1 (.inr hp) with rfl | h
    ·have:=c.1 p hp;rw[Ez]at this;cases this
    ·exact h
   ·intro hp
    rcases this.2 (.inr hp) with rfl | h
    ·have:=d.1 p hp;rw[Ez]at this;cases this
    ·exact h
theorem O8 {a b:List (ByteArray × Val)}(c:Ck a)(d:Ck b)(h: ∀nm,look nm a=look nm b):a=b:=
 Ab2 c d λp=>by rw[Mg c,Mg d,h]
theorem Aio (p:ByteArray × Val): ∀l,Tj p true l=l.filter (Ix p.1)
 | []=>rfl
 | x::xs=>by
  simp only[Tj,aV,cM,aB,Zf,bE,dX,Aio p xs,bY,Ix]
  by_cases c:x.1=p.1<;>simp[c]
theorem Acl (p x:ByteArray × Val)(xs:List (ByteArray × Val))(h:blt x.1 p.1=false):Tj p false (x::xs)=p::(x::xs).filter (Ix p.1):=by
 simp only[Tj,h,aY,Bool.and_self,Zt,eK,Aio,bY,Ix]
 by_cases c:x.1=p.1<;>simp[c]
theorem Ad0 (p x:ByteArray × Val)(xs:List (ByteArray × Val))(h:blt x.1 p.1=true):Tj p false (x::xs)=x::Tj p false xs:=by
 have a: ¬ x.1=p.1:=I1 h
 simp[Tj,h,a]
theorem Apz (p:ByteArray × Val): ∀ (l:List (ByteArray × Val)) (y:ByteArray × Val),y∈Tj p false l->y=p\/y∈l
 | [],y,h=>by simp[Tj]at h;exact .inl h
 | x::xs,y,h=>by
  cases a:blt x.1 p.1 with
  | true=>
   rw[Ad0 p x xs a]at h
   rcases bH.1 h with rfl | h
   ·simp
   ·rcases Apz p xs y h with h | h
    ·exact .inl h
    ·exact .inr (cQ _ h)
  | false=>
   rw[Acl p x xs a]at h
   rcases bH.1 h with rfl | h
   ·simp
   ·exact .inr (cH.1 h).1
theorem Yh (p:ByteArray × Val): ∀l:List (ByteArray × Val),Ck l->Ck (Tj p false l)
 | [],_=>cF _ _
 | x::xs,h=>by
  have c:=bC.1 h
  cases b:blt x.1 p.1 with
  | true=>
   rw[Ad0 p x xs b]
   refine bC.2 ⟨λy a=>?_,Yh p xs c.2⟩
   rcases Apz p xs y a with rfl | a
   ·exact b
   ·exact c.1 y a
  | false=>
   rw[Acl p x xs b]
   refine bC.2 ⟨λy a=>?_,h.sublist List.filter_sublist⟩
   obtain⟨a,e⟩:=cH.1 a
   have d: ¬ y.1=p.1:=by simpa [Ix]using e
   refine Agx ?_ d
   rcases bH.1 a with rfl | a
   ·exact b
   ·cases g:blt y.1 p.1 with
    | false=>rfl
    | true=>have:=G4 (c.1 y a) g;rw[b]at this;cases this
theorem Zg (p:ByteArray × Val)(nm:ByteArray): ∀l:List (ByteArray × Val),(Tj p false l).filter (isName nm)=if p.1=nm then[p]else l.filter (isName nm)
 | []=>by by_cases c:p.1=nm<;>simp[Tj,isName,c]
 | x::xs=>by
  cases a:blt x.1 p.1 with
  | true=>
   have b:=I1 a
   rw[Ad0 p x xs a,bY,Zg p nm xs,bY]
   by_cases c:p.1=nm
   ·have: ¬ x.1=nm:=by rw[<-c];exact b
    simp[c,isName,this]
   ·simp[c]
  | false=>
   rw[Acl p x xs a,bY,List.filter_filter]
   by_cases c:p.1=nm
   ·rw[if_pos (by simp[isName,c]),if_pos c]
    congr 1
    rw[fD]
    intro y _ g
    simp[Ix,isName,c]at g
   ·rw[if_neg (by simp[isName,c]),if_neg c]
    refine List.filter_congr λy _=>?_
    by_cases d:y.1=nm
    ·have: ¬ nm=p.1:=λe=>c e.symm
     simp[Ix,isName,d,this]
    ·simp[isName,d]
theorem Xx (l:List (ByteArray × Val))(p:ByteArray × Val):Zz (l++ [p])=Tj p false (Zz l):=by
 unfold Zz;rw[List.foldl_append];rfl
theorem Aaj (l:List (ByteArray × Val)): ∀n,l.length=n->Ck (Zz l)/\ ∀nm,look nm (Zz l)=look nm l:=by
 intro n
 induction n generalizing l with
 | zero=>intro h;have:=aU.1 h;subst this;exact⟨dY,λ_=>rfl⟩
 | succ n a=>
  intro h
  rcases Srt.Hm l with rfl | ⟨b,p,rfl⟩
  ·simp at h
  ·obtain⟨d,e⟩:=a b (by simpa using h)
   rw[Xx]
   refine⟨Yh p _ d,λnm=>?_⟩
   unfold look
   rw[Zg,eO]
   by_cases c:p.1=nm
   ·simp[c,isName]
   ·have:=e nm
    unfold look at this
    simp[c,isName]at this ⊢
    exact this
theorem Kw (l:List (ByteArray × Val)):Ck (Zz l):=(Aaj l _ rfl).1
theorem Td (nm:ByteArray)(l:List (ByteArray × Val)):look nm (Zz l)=look nm l:=(Aaj l _ rfl).2 nm
theorem Ayo {l:List (ByteArray × Val)}(h:Ck l):Zz l=l:=O8 (Kw l) h λnm=>Td nm l
theorem A5o {l:List (ByteArray × Val)}{p:ByteArray × Val}(h:p∈Zz l):p∈l:=by
 rw[Mg (Kw l),Td]at h
 unfold look at h
 exact(cH.1 (List.mem_of_getLast? h)).1
theorem A42 (k y:ByteArray × Val):iK Az4 k y=isName k.1 y:=by
 unfold iK isName Az4
 rcases Kt k.1 y.1 with h | h | h
 ·have:=I1 h
  rw[h]
  simp only[aV,cM]
  symm;simpa using λe=>this e.symm
 ·rw[h,Ez];simp
 ·have:=I1 h
  rw[h]
  simp[this]
theorem Abw {l r:List (ByteArray × Val)}(a:Srt.Dc Az4 r)(b:Srt.Lj Az4 l r):dedup r=Zz l:=by
 refine O8 (U7 r a) (Kw l) λnm=>?_
 rw[Ab9,Td]
 have:=b.2 (nm,Au)
 have e:iK Az4 (nm,Au)=isName nm:=funext λy=>A42 _ y
 rw[e]at this
 unfold look
 rw[this]
end Go.CT.Sch
namespace Go.CT.Sch
open Go.Proofs
theorem Wv (p:ByteArray × Val): ∀l,Cq (Tj p false l)<=Cq l+Cq [p]
 | []=>by simp[Tj,Co]
 | x::xs=>by
  cases a:blt x.1 p.1 with
  | true=>
   have:=Wv p xs
   rw[Ad0 p x xs a,Ca,Ca x xs];omega
  | false=>
   have:=Kf (Ix p.1) (x::xs)
   rw[Acl p x xs a,Ca,Ca p [],Co];omega
theorem Ri (l:List (ByteArray × Val)):Cq (Zz l)<=Cq l:=by
 have: ∀n (l:List (ByteArray × Val)),l.length=n->Cq (Zz l)<=Cq l:=by
  intro n
  induction n with
  | zero=>intro l h;have:=aU.1 h;subst this;exact bP _
  | succ n b=>
   intro l h
   rcases Srt.Hm l with rfl | ⟨a,p,rfl⟩
   ·simp at h
   ·have c:=b a (by simpa using h)
    have d:=Wv p (Zz a)
    rw[Xx,It];omega
 exact this _ l rfl
def A6e (l:List (ByteArray × Val)):Val:=⟨5,0,Am,[],Zz l⟩
theorem Ayg (l:List (ByteArray × Val)):(A6e l).Ap <=6+Cq l:=by
 have:=Ri l
 rw[iF]
 simp only[A6e,iL,Val.To,Val.Ym,Em,show Am.size=0 from rfl];omega
theorem Qg (r:List (ByteArray × Val))(w:r.length<=1099511627775)(q t u:IV): ∀ (n i:Nat) (acc:List (ByteArray × Val)),i+n=r.length->acc.length<=i->Ar8 1073741824 (acc++dedup (r.drop i))->
  W F72 1 [.int r.length,.int i,q,t,u,eB bG r,.int 5,.int 0,.str ⟨#[]⟩,.list (acc.map bG)]=some (Val.E1 ⟨5,0,Am,[],acc++dedup (r.drop i)⟩)
 | 0,i,acc,h,y,b=>by
  rw[Be7]
  have z: ¬ i<r.length:=by omega
  have A:r.drop i= []:=aF (by omega)
  rw[A]at b ⊢
  rw[show dedup []= []from rfl,bK]at b
  have B:=Ua ⟨5,0,Am,[],acc⟩ (.mk _ (dS _) b.1 (by simp) b.2)
  have e:IV.agg [.int 5,.int 0,.str ⟨#[]⟩,.list [],.list (acc.map bG)]=bT ⟨5,0,Am,[],acc⟩:=by
   rw[<-Val.fold];rfl
  simp only[bA,Aj,z,Ze,aA,aS,aB,Zf,fB,e,B,eN,gY,dedup,bK]
 | n+1,i,acc,h,y,b=>by
  have j:i<r.length:=by omega
  have x:=Bd (i:=i) (by omega)
  have m:(acc.length+1) * 96<=Bb:=S9 (by omega) (by omega)
  have gi:=eT bG (aC j)
  rw[Be7]
  have hd:=aE j
  by_cases c:i+1=r.length
  ·have c':((i+1:Nat):Int)=(r.length:Int):=by omega
   have e1:r.drop (i+1)= []:=aF (by omega)
   have g:=Qg r w q t u n (i+1) (acc++ [r[i]]) (by omega) (by simp;omega) (by
    rw[e1];rw[hd,e1]at b
    simpa [dedup]using b)
   simp only[e1,cG,bN,bQ]at g
   rw[hd,e1]
   simp only[bA,Aj,j,Zd,aA,aS,Zt,gi,bR,x,cT,aW,c',fX,eW,aD,aQ,m,Ake]
   rw[c']at g
   rw[g]
   simp[dedup]
  ·have o:i+1<r.length:=by omega
   have c': ¬ ((i+1:Nat):Int)=(r.length:Int):=by omega
   have gi2:=eT bG (aC o)
   have a:=aE o
   by_cases d:r[i+1].1 =r[i].1
   ·have g:=Qg r w q t u n (i+1) acc (by omega) (by omega) (by
     rw[hd,a]at b;rw[a]
     simp only[dedup,d,Zt]at b
     exact b)
    rw[a]at g
    rw[hd,a]
    simp only[bA,Aj,j,Zd,aA,aS,Zt,gi,bR,x,cT,aW,c',Ze,aB,Zf,gi2,dG,gX,d,aV,Ake,dedup,g]
   ·have g:=Qg r w q t u n (i+1) (acc++ [r[i]]) (by omega) (by simp;omega) (by
     rw[hd,a]at b;rw[a]
     simp only[dedup,d,Zf]at b
     simpa using b)
    rw[a]at g
    simp only[cG,bN,bQ,bL,eA]at g
    rw[hd,a]
    simp only[bA,Aj,j,Zd,aA,aS,Zt,gi,bR,x,cT,aW,c',Ze,aB,Zf,gi2,dG,gX,d,aY,fX,eW,aD,aQ,m,Ake,dedup,g]
theorem Ap2 (l:List (ByteArray × Val)):(Zz l).length <=l.length:=by
 have: ∀n (l:List (ByteArray × Val)),l.length=n->(Zz l).length <=n:=by
  intro n
  induction n with
  | zero=>intro l h;have:=aU.1 h;subst this;exact bP _
  | succ n b=>
   intro l h
   rcases Srt.Hm l with rfl | ⟨a,p,rfl⟩
   ·simp at h
   ·have c:=b a (by simpa using h)
    have d:=Acp p (Zz a) false
    rw[Xx];omega
 exact this _ l rfl
theorem Ahg {N:Nat}{l:List (ByteArray × Val)}(h:Ar8 N l):Ar8 N (Zz l):=
 ⟨dE (Ap2 l) h.1,λp hp=>h.2 p (A5o hp)⟩
theorem Ac0 (l:List (ByteArray × Val))(c:Ar8 1073741824 l):W F72 0 [.list (l.map bG)]=some (A6e l).E1 :=by
 have i:=c.1
 obtain⟨r,d,a,g⟩:=Srt.sort ford feqs l (by omega)
 have h:(l.map bG).length <=1073741824:=by rw[aD];omega
 rw[A83]
 have b:W F74 0 [.list (l.map bG)]=some [eB bG r]:=g
 have hlen:r.length=l.length:=a.1.symm
 have e:=Qg r (by omega) (.int 0) (.int 0) (.str ⟨#[]⟩) r.length 0 [] (by omega) (by simp) (by
  rw[aP,bE,Abw d a];exact Ahg c)
 simp only[aP,aN,bQ,bE,Abw d a]at e
 simp only[A3r,Dy h,bI,b,cT,aA]
 exact e
theorem Avn (l:List (ByteArray × Val))(a:Cq l<=4294967200):W F72 0 [.list (l.map bG)]=some (A6e l).E1 :=Ac0 l (As5 (by omega))
end Go.CT.Sch
namespace Go.CT.Sch
open Go.Proofs
theorem Jj {β:Type}{a b c d e g:IV}{f:IV->IV->IV->IV->IV->IV->Option β} :calls (some [a,b,c,d,e,g]) 6 f=f a b c d e g:=rfl
def Br:Sch:=⟨0,0,0,[],Am,[],[]⟩
def Qu:SFld:=⟨Am,false,false,[],Br⟩
theorem Qy:IV.agg [.int 0,.int 0,.int 0,.list [],.str ⟨#[]⟩,.list [],.list []]=Br.enc:=rfl
theorem Aar:IV.agg [.str ⟨#[]⟩,.bool false,.bool false,.list [],.int 0,.int 0,.int 0,.list [],.str ⟨#[]⟩,.list [],.list []]=Qu.enc:=rfl
inductive SB:Sch->Prop
 | mk (s:Sch):s.it.length<=1->(s.it≠ []->s.f= [])->(s.k=4->s.it.length=1)->(∀x∈s.it,SB x)->(∀p∈s.f,SB p.s)->SB s
theorem SB.one {s:Sch}(h:SB s):s.it.length<=1:=by cases h;assumption
theorem SB.nof {s:Sch}(h:SB s)(a:s.it≠ []):s.f= []:=by cases h with | mk _ c b d e g=>exact b a
theorem SB.list {s:Sch}(h:SB s)(a:s.k=4):s.it.length=1:=by cases h with | mk _ c d b e g=>exact b a
theorem SB.I3 {s x:Sch}(h:SB s)(a:x∈s.it):SB x:=by cases h with | mk _ c d e b g=>exact b x a
theorem SB.Ks {s:Sch}{p:SFld}(h:SB s)(a:p∈s.f):SB p.s:=by cases h with | mk _ c d e g b=>exact b p a
def Eb (s:Sch)(nm:ByteArray):Option Sch:=match s.it with | []=>(s.fld nm).map (·.s) | t::_=>some t
theorem Acn {s:Sch}{nm:ByteArray}{p:SFld}(h:s.fld nm=some p):p∈s.f/\p.nm=nm:=
 ⟨cP h,by simpa using gP h⟩
theorem Mx {s t:Sch}{nm:ByteArray}(h:Eb s nm=some t):t∈s.it\/ ∃p∈s.f,p.nm=nm/\p.s=t:=by
 unfold Eb at h
 split at h
 ·right
  rw[fE]at h
  obtain⟨p,hp,rfl⟩:=h
  exact⟨p,(Acn hp).1,(Acn hp).2,rfl⟩
 ·rename_i a r e
  cases h
  left;rw[e];simp
theorem SB.sub {s t:Sch}{nm:ByteArray}(a:SB s)(h:Eb s nm=some t):SB t:=by
 rcases Mx h with h | ⟨p,hp,_,rfl⟩
 ·exact a.I3 h
 ·exact a.Ks hp
theorem Jz {s t:Sch}{nm:ByteArray}(h:Eb s nm=some t):t.Ap<s.Ap:=by
 rcases Mx h with h | ⟨p,hp,_,rfl⟩
 ·exact fP h
 ·have:=fY hp;omega
def Jb (p:List Stp)(c:Int):IV:= .agg [.str (Cj p),.int c]
def Ch (nm:ByteArray):Stp:=⟨1,nm,0,Am⟩
def isKey (v:Val)(nm:ByteArray):Bool:=(v.get nm).isSome &&decide (((v.get nm).getD Au).k =3)
def Dq (v:Val)(nm:ByteArray):ByteArray:=((v.get nm).getD Au).s
def Gb (v:Val)(nm:ByteArray):Bool:=isKey v nm&& !decide (nm=Am)
def Ht (key:ByteArray)(v:Val)(i:Nat):Stp:=if Gb v key then⟨3,key,0,Dq v key⟩else⟨2,Am,i,Am⟩
def sameKey (nm:ByteArray)(k:ByteArray)(u:Val):Bool:=Gb u nm&&decide (Dq u nm=k)
def Atq (key:ByteArray)(prev:List Val)(v:Val)(q:List Stp):List IV:=if Gb v key&&prev.any (sameKey key (Dq v key)) then[Jb q 8]else[]
def Lh (v:Val)(nm:ByteArray):Bool:=(v.get nm).isSome && !decide (((v.get nm).getD Au).k =0)
def Ke (v:Val)(p:List Stp)(d:SFld):List IV:=if d.rq&& !Lh v d.nm then[Jb (p++ [Ch d.nm]) 7]else[]
def Z1 (p:List Stp)(sc:Sch)(n:Int):List IV:=if decide (n<sc.mn)||decide (sc.mx<n) then[Jb p 5]else[]
mutual
def Jo:Val->Sch->List Stp->List IV
 | ⟨k,n,s,l,f⟩,sc,p=>
  if k=sc.k then
   if k=2 then Z1 p sc n
   else if k=3 then(if decide ((s.size:Int)<sc.mn)||decide (sc.mx<(s.size:Int)) then[Jb p 5]else if decide (0<sc.en.length)&& !sc.en.any (λe=>decide (e=s)) then[Jb p 1]else[])
   else if k=4 then Z1 p sc l.length++Ly l sc.key (sc.it.headD Br) p []
   else if k=5 then Le f sc p++sc.f.flatMap (Ke ⟨k,n,s,l,f⟩ p)
   else[]
  else[Jb p 6]
def Ly:List Val->ByteArray->Sch->List Stp->List Val->List IV
 | [],_,_,_,_=> []
 | v::vs,key,t,p,prev=>(Jo v t (p++ [Ht key v prev.length])++Atq key prev v (p++ [Ht key v prev.length]))++Ly vs key t p (prev++ [v])
def Le:List (ByteArray × Val)->Sch->List Stp->List IV
 | [],_,_=> []
 | (nm,v)::fs,sc,p=>(match Eb sc nm with | none=> [Jb (p++ [Ch nm]) 1] | some t=>if v.k=0 then[]else Jo v t (p++ [Ch nm]))++Le fs sc p
end
theorem Iv (v:Val)(sc:Sch)(p:List Stp):Jo v sc p=
  if v.k=sc.k then
   if v.k=2 then Z1 p sc v.n
   else if v.k=3 then(if decide ((v.s.size:Int)<sc.mn)||decide (sc.mx<(v.s.size:Int)) then[Jb p 5]else if decide (0<sc.en.length)&& !sc.en.any (λe=>decide (e=v.s)) then[Jb p 1]else[])
   else if v.k=4 then Z1 p sc v.l.length++Ly v.l sc.key (sc.it.headD Br) p []
   else if v.k=5 then Le v.f sc p++sc.f.flatMap (Ke v p)
   else[]
  else[Jb p 6]:=by
 cases v;rw[Jo];rfl
def Ahl (sc:Sch)(p:List Stp)(x:ByteArray × Val):List IV:=match Eb sc x.1 with | none=> [Jb (p++ [Ch x.1]) 1] | some t=>if x.2.k=0 then[]else Jo x.2 t (p++ [Ch x.1])
theorem Jk (x:ByteArray × Val)(fs:List (ByteArray × Val))(sc:Sch)(p:List Stp):Le (x::fs) sc p=Ahl sc p x++Le fs sc p:=by
 obtain⟨nm,v⟩:=x;rw[Le];rfl
theorem Jy (sc:Sch)(p:List Stp):Le [] sc p= []:=by rw[Le]
theorem Il (v:Val)(vs:List Val)(key:ByteArray)(t:Sch)(p:List Stp)(prev:List Val):Ly (v::vs) key t p prev=(Jo v t (p++ [Ht key v prev.length])++Atq key prev v (p++ [Ht key v prev.length]))++Ly vs key t p (prev++ [v]):=by rw[Ly]
theorem Mn (key:ByteArray)(t:Sch)(p:List Stp)(prev:List Val):Ly [] key t p prev= []:=by rw[Ly]
theorem Tu (l:List (ByteArray × Val))(sc:Sch)(p:List Stp):Le l sc p=l.flatMap (Ahl sc p):=by
 induction l with
 | nil=>simp[Jy]
 | cons x l a=>rw[Jk,a];rfl
theorem Ael (key:ByteArray)(prev:List Val)(v:Val)(q:List Stp):(Atq key prev v q).length <=1:=by unfold Atq;split<;>simp
theorem Av8 (v:Val)(p:List Stp)(d:SFld):(Ke v p d).length <=1:=by unfold Ke;split<;>simp
theorem Vv (p:List Stp)(sc:Sch)(n:Int):(Z1 p sc n).length <=1:=by unfold Z1;split<;>simp
theorem Anm (v:Val)(p:List Stp): ∀l:List SFld,(l.flatMap (Ke v p)).length <=l.length
 | []=>by simp
 | d::l=>by
  have:=Av8 v p d
  have:=Anm v p l
  simp only[cC,aO,aZ];omega
theorem Sy: ∀ (v:Val) (sc:Sch) (p:List Stp),SB sc->(Jo v sc p).length <=(2+sc.Ap) * v.size:=by
 refine eJ λv d e sc p g=>?_
 have b:=v.size_pos
 have one:1<=(2+sc.Ap) * v.size:=by
  have:1 * 1<=(2+sc.Ap) * v.size:=aX (by omega) b
  omega
 have r: ∀ (t:Sch),SB t->t.Ap<sc.Ap-> ∀ (l:List Val),(∀x∈l,∀sc p,SB sc->(Jo x sc p).length <=(2+sc.Ap) * x.size)-> ∀ (prev:List Val) (key:ByteArray),(Ly l key t p prev).length <=(2+sc.Ap) * Cn l:=by
  intro t a u l
  induction l with
  | nil=>intro _ prev key;rw[Mn];simp
  | cons x l i=>
   intro h prev key
   have j:=h x (by simp) t (p++ [Ht key x prev.length]) a
   have m:=i (λy o=>h y (by simp[o])) (prev++ [x]) key
   have c:=Ael key prev x (p++ [Ht key x prev.length])
   have q:=x.size_pos
   have w:(3+t.Ap) * x.size<=(2+sc.Ap) * x.size:=aX (by omega) (bP _)
   have G:(3+t.Ap) * x.size=(2+t.Ap) * x.size+x.size:=by rw[show 3+t.Ap=(2+t.Ap)+1 by omega,gL,gM]
   rw[Il]
   simp only[aO,Cn,cK]
   omega
 have z: ∀ (l:List (ByteArray × Val)),(∀x∈l,∀sc p,SB sc->(Jo x.2 sc p).length <=(2+sc.Ap) * x.2.size)->(Le l sc p).length <=(2+sc.Ap) * Bz l:=by
  intro l
  induction l with
  | nil=>intro _;rw[Jy];simp
  | cons x l i=>
   intro h
   have m:=i (λy o=>h y (by simp[o]))
   have q:=x.2.size_pos
   have H:(Ahl sc p x).length <=(2+sc.Ap) * x.2.size:=by
    have I:1 * 1<=(2+sc.Ap) * x.2.size:=aX (by omega) q
    unfold Ahl
    split
    ·simp only[aQ];omega
    ·rename_i t a
     split
     ·simp
     ·have j:=h x (by simp) t (p++ [Ch x.1]) (g.sub a)
      have:=Jz a
      have w:(2+t.Ap) * x.2.size<=(2+sc.Ap) * x.2.size:=aX (by omega) (bP _)
      omega
   rw[Jk]
   simp only[aO,Bz,cK]
   omega
 have A:=v.size_eq
 rw[Iv]
 split
 ·split
  ·have:=Vv p sc v.n;omega
  ·split
   ·split
    ·simpa using one
    ·split
     ·simpa using one
     ·simp
   ·split
    ·rename_i J B C F
     obtain⟨t,a⟩:=bV.1 (g.list (by omega))
     have j:=r t (g.I3 (by rw[a];simp)) (fP (by rw[a];simp)) v.l d [] sc.key
     have m:=Vv p sc v.l.length
     have c:(2+sc.Ap) * (1+Cn v.l)<=(2+sc.Ap) * v.size:=aX (bP _) (by omega)
     rw[cK]at c
     rw[a,fG,aO]
     omega
    ·split
     ·have j:=z v.f e
      have m:=Anm v p sc.f
      have q:=sc.Bc
      have c:(2+sc.Ap) * (1+Bz v.f)<=(2+sc.Ap) * v.size:=aX (bP _) (by omega)
      rw[cK]at c
      rw[aO]
      omega
     ·simp
 ·simpa using one
theorem Arm {n:Nat}(h:n<=4398046511104):n * 24<=Bb:=by
 have:n * 24<=4398046511104 * 24:=aX h (bP _)
 unfold Bb;omega
theorem Aqm (v:Val)(nm:ByteArray):((v.get nm).getD Au).s.size <=v.Ap:=by
 unfold gC
 split
 ·cases h:v.f.find? λp=>decide (p.1=nm) with
  | none=>exact dS _
  | some p=>
   have a:=eF (cP h)
   have b:=p.2.Aw2
   simp only[aI,cB];omega
 ·exact dS _
theorem Aca (key:ByteArray)(v:Val)(i:Nat)(a:key.size<=1048576)(b:v.Ap<=1048576):(Ht key v i).fits :=by
 have:=Aqm v key
 unfold Ht
 split
 ·exact⟨by show key.size<=_;omega,by show(Dq v key).size <=_;unfold Dq;omega⟩
 ·exact⟨by show(0:Nat)<=_;omega,by show(0:Nat)<=_;omega⟩
theorem Ji (nm:ByteArray)(h:nm.size<=1048576):(Ch nm).fits :=⟨by show nm.size<=_;omega,by show(0:Nat)<=_;omega⟩
theorem H0 {p:List Stp}{x:Stp}(hp: ∀s∈p,s.fits)(a:x.fits): ∀s∈p++ [x],s.fits:=by
 intro s b
 rcases dK.1 b with h | h
 ·exact hp s h
 ·simp at h;subst h;exact a
end Go.CT.Sch
namespace Go.CT.Sch
open Go.Proofs
theorem Md (v:Val)(nm:ByteArray)(c:v.Ap<=1048576):W F31 0 [v.enc,.str nm]=some [.str (Dq v nm),.bool (Gb v nm)]:=by
 rw[A9o]
 unfold Dq Gb isKey
 simp only[Aur v nm (by omega),I9,Jj,aS,gX,aW,aA,Ax,An,Am]
 cases(v.get nm).isSome<;>by_cases a:nm=⟨#[]⟩<;>by_cases b:((v.get nm).getD Au).k =3<;>simp[a,b]
theorem Y3 (s:Sch)(l:List Val)(i:Nat)(a:i<l.length)(b:l[i].Ap <=1048576):W F30 0 [s.enc,.list (l.map bT),.int i]=some [(Ht s.key l[i] i).enc]:=by
 rw[Bbd]
 unfold Ht
 simp only[cE,aH,Zt,aG,aJ,aC a,aI,aA,eP,Md l[i] s.key b,fN,fB,aS]
 split<;>rfl
theorem R8 (p:List Stp)(s:Stp)(c:p.length<=1099511627776):W F34 0 [.list (p.map Stp.enc),s.enc]=some [.list ((p++ [s]).map Stp.enc)]:=by
 have a:(0+p.length) * 48<=Bb:=S9 (by omega) (by omega)
 have b:(p.length+1) * 48<=Bb:=by
  have:(p.length+1) * 48<=1099511627777 * 48:=aX (by omega) (bP _)
  unfold Bb;omega
 rw[Baz]
 simp only[fX,aA,eW,bB,aD,a,Zt,bE,aQ,b,cG,bN,bQ]
theorem Afu (p:List Stp)(hp: ∀s∈p,s.fits)(a:p.length<=1099511627776)(c:Int):W F20 0 [.list (p.map Stp.enc),.int c]=some [.list [Jb p c]]:=by
 rw[Bal]
 simp only[Aiq p hp a,fN,fB,fX,aA,Jb]
theorem Yx (s:Sch)(nm:ByteArray)(r:s.Ap<=1099511627776)(b d e g j m o:IV): ∀ (n i:Nat),i+n=s.f.length->
  W F12 1 [.str nm,.int i,s.enc,b,d,e,g,j,m,o]=some [(((s.f.drop i).find? λp=>decide (p.nm=nm)).getD Qu).enc,.bool ((s.f.drop i).find? λp=>decide (p.nm=nm)).isSome]
 | 0,i,h=>by
  rw[Axt]
  have q: ¬ i<s.f.length:=by omega
  simp[q,aF (bD q),Aar]
 | n+1,i,h=>by
  have a:i<s.f.length:=by omega
  have u:=s.Bc
  have t:=Bd (i:=i) (by omega)
  have:=Yx s nm r b d e g j m o n (i+1) (by omega)
  rw[Axt,aE a]
  simp only[dM,bZ,aD,bA,Aj,a,Zd,aA,aS,Zt,cE,aH,aG,aJ,aC a,aI,eL,gH,bR,t,this,bW]
  by_cases c:s.f[i].nm =nm
  ·simp[c]
  ·have c':decide (s.f[i].nm =nm)=false:=by simpa using c
   simp only[c,c',Ze,aB,Zf]
theorem Ai3 (s:Sch)(nm:ByteArray)(a:s.Ap<=1099511627776):W F12 0 [s.enc,.str nm]=some [((s.fld nm).getD Qu).enc,.bool (s.fld nm).isSome]:=by
 rw[Bcq]
 have:=Yx s nm a (.str ⟨#[]⟩) (.bool false) (.bool false) (.int 0) (.int 0) (.int 0) (.str ⟨#[]⟩) s.f.length 0 (by omega)
 simp only[aP,aN]at this
 exact this
def Atb (v:Val)(nm:ByteArray):Val:=if Lh v nm then(v.get nm).getD Au else Au
theorem Alv (v:Val)(nm:ByteArray)(a:v.Ap<=1048576):W F36 0 [v.enc,.str nm]=some [.int (Atb v nm).k,.int (Atb v nm).n,.str (Atb v nm).s,.list ((Atb v nm).l.map bT),.list ((Atb v nm).f.map bG),.bool (Lh v nm)]:=by
 rw[Bci]
 unfold Atb Lh
 simp only[Aur v nm (by omega),I9,Jj,cV,aW,aS,aA]
 cases(v.get nm).isSome with
 | false=>rfl
 | true=>
  by_cases h:((v.get nm).getD Au).k =0
  ·simp only[h,Zd];rfl
  ·simp only[h,Ze];rfl
theorem Za (s:Sch)(v:Val)(p q:List Stp)(u:v.Ap<=1048576)(o: ∀s∈q,s.fits)(r:q.length<=1099511627776)(i:Nat)(b:i<=v.l.length)(key:ByteArray)(ok:Bool)(out:List IV)(w:out.length<=4398046511103): ∀ (n j:Nat) (ag:Bool),j+n=i->
  W F29 3 [.list (p.map Stp.enc),.int i,.str key,.bool ok,.bool ag,.int j,s.enc,v.enc,.list out,.list (q.map Stp.enc)]
   =W F29 4 [.list (p.map Stp.enc),.int i,s.enc,v.enc,.list (out++if ag||(ok&&((v.l.take i).drop j).any (sameKey s.key key)) then[Jb q 8]else[])]
 | n,j,ag,h=>by
  have z:=v.Bx
  have fin:(cnd (.bool ag) (
    calls (W F20 0 [.list (q.map Stp.enc),(.int 8)]) 1 λd=>
    (fQ 24 (.list out) d).bind λe=>
    W F29 4 [.list (p.map Stp.enc),.int i,s.enc,v.enc,e]) (
    W F29 4 [.list (p.map Stp.enc),.int i,s.enc,v.enc,.list out]))=W F29 4 [.list (p.map Stp.enc),.int i,s.enc,v.enc,.list (out++if ag then[Jb q 8]else[])]:=by
   cases ag with
   | false=>simp
   | true=>
    have g:(out.length+1) * 24<=Bb:=Arm (by omega)
    simp only[aS,Zt,Afu q o r 8,bI,eW,aQ,g,aA]
  rw[A9m]
  by_cases c:j<i
  ·obtain⟨m,rfl⟩: ∃m,n=m+1:=⟨n - 1,by omega⟩
   have t:j<v.l.length:=by omega
   have x:=Bd (i:=j) (by omega)
   have A:=eM (aK t)
   have a:(j:Int)<i:=by omega
   cases ok with
   | false=>
    simp only[bA,a,Zd,aA,O.Zu,Zt,aS,aB,Zf]
    simp only[aS]at fin
    rw[fin];simp
   | true=>
    have y:=Md v.l[j] s.key (by omega)
    have hd:(v.l.take i).drop j=v.l[j]::(v.l.take i).drop (j+1):=by
     rw[aE (by simp;omega),List.getElem_take]
    simp only[bA,a,Zd,aA,O.Zu,Zt,aS,cU,cE,aH,aG,aJ,aC t,aI,eP,y,fN,gH,Ax,An,bR,x]
    rw[Za s v p q u o r i b key true out w m (j+1) _ (by omega),hd,fW]
    congr 6
    unfold sameKey
    cases ag<;>cases Gb v.l[j] s.key<;>simp
  ·have a: ¬ (j:Int)<i:=by omega
   simp only[bA,a,Ze,aA,O.Zu,aB,Zf,aS]
   simp only[aS]at fin
   rw[fin,aF (by simp;omega)]
   simp
def Bhu (v:Val):Prop:=v.Ap<=1048576-> ∀ (s:Sch),SB s->s.Ap<=1048576-> ∀p:List Stp,(∀x∈p,x.fits)->p.length+v.Ap<=549755813888->W F19 0 [s.enc,v.enc,.list (p.map Stp.enc)]=some [.list (Jo v s p)]
theorem Agu {v:Val}{s:Sch}{p:List Stp}(a:SB s)(b:s.Ap<=1048576)(c:v.Ap<=1048576):(Jo v s p).length <=2199025352704:=by
 have d:=Sy v s p a
 have e:=v.E9
 have g:(2+s.Ap) * v.size<=1048578 * 1048576:=aX (by omega) (by omega)
 omega
theorem Xg (s t:Sch)(v:Val)(p:List Stp)(w:v.Ap<=1048576)(C:s.Ap<=1048576)(j:s.it= [t])(a:SB s)(hp: ∀s∈p,s.fits)(F:p.length+v.Ap<=549755813888)
  (y: ∀x∈v.l,Bhu x): ∀ (n i:Nat) (out:List IV),i+n=v.l.length->out.length+(2+s.Ap) * Cn (v.l.drop i)<=4398046511103->
  W F29 2 [.list (p.map Stp.enc),.int i,s.enc,v.enc,.list out]=some [.list (out++Ly (v.l.drop i) s.key t p (v.l.take i))]
 | 0,i,out,h,m=>by
  have z: ¬ i<v.l.length:=by omega
  rw[Axv,aF (by omega),Mn]
  simp only[cU,bZ,aD,aA,bA,Aj,z,Ze,aS,aB,Zf,bK]
 | n+1,i,out,h,m=>by
  have c:i<v.l.length:=by omega
  have K:=v.Bx
  have G:=Bd (i:=i) (by omega)
  have L:=eM (aK c)
  have b:t∈s.it:=by rw[j];simp
  have htmass:=fP b
  have hd:=aE c
  have A:=s.Adg
  rw[hd]at m ⊢
  rw[Il]
  have o:(v.l.take i).length =i:=by simp;omega
  have q:v.l.take i++ [v.l[i]]=v.l.take (i+1):=by simp
  rw[o,q]
  have B:=H0 hp (Aca s.key v.l[i] i (by omega) (by omega))
  have r:=y _ (aK c) (by omega) t (a.I3 b) (by omega) _ B (by simp;omega)
  have hlen:=Sy v.l[i] t (p++ [Ht s.key v.l[i] i]) (a.I3 b)
  have H:=Ael s.key (v.l.take i) v.l[i] (p++ [Ht s.key v.l[i] i])
  simp only[Cn,cK]at m
  have I:(2+t.Ap) * v.l[i].size +1<=(2+s.Ap) * v.l[i].size :=by
   have z:=v.l[i].size_pos
   have M:(3+t.Ap) * v.l[i].size <=(2+s.Ap) * v.l[i].size :=aX (by omega) (bP _)
   have g:(3+t.Ap) * v.l[i].size =(2+t.Ap) * v.l[i].size +v.l[i].size :=by rw[show 3+t.Ap=(2+t.Ap)+1 by omega,gL,gM]
   omega
  generalize N:Jo v.l[i] t (p++ [Ht s.key v.l[i] i])=es1 at *
  have u:(out.length+es1.length) * 24<=Bb:=Arm (by omega)
  have g:=Za s v p (p++ [Ht s.key v.l[i] i]) w B (by simp;omega) i (by omega) (Dq v.l[i] s.key) (Gb v.l[i] s.key) (out++es1) (by rw[aO];omega) i 0 false (by omega)
  simp only[aN,aP,eD]at g
  have e:(if(Gb v.l[i] s.key&&(v.l.take i).any (sameKey s.key (Dq v.l[i] s.key)))=true then[Jb (p++ [Ht s.key v.l[i] i]) 8]else[])=Atq s.key (v.l.take i) v.l[i] (p++ [Ht s.key v.l[i] i]):=rfl
  rw[e]at g
  generalize Q:Atq s.key (v.l.take i) v.l[i] (p++ [Ht s.key v.l[i] i])=d at *
  have J:=Xg s t v p w C j a hp F y n (i+1) (out++es1++d) (by omega) (by simp only[aO];omega)
  rw[Axv]
  simp only[cU,bZ,aD,aA,bA,Aj,c,Zd,aS,Zt,Y3 s v.l i c (by omega),bI,R8 p (Ht s.key v.l[i] i) (by omega),eG,j,bN,bQ,cE,cR,cD,bO,aH,aG,aJ,aC c,aI,r,eW,u,eP,Md v.l[i] s.key (by omega),fN]
  rw[g,Bax]
  simp only[bR,G,aA]
  rw[J]
  simp only[bL]
theorem Zx (s:Sch)(v:Val)(p:List Stp)(c:v.Ap<=1048576)(j:s.Ap<=1048576)(hp: ∀s∈p,s.fits)(m:p.length+v.Ap<=549755813888): ∀ (n i:Nat) (out:List IV),i+n=s.f.length->out.length+n<=4398046511103->
  W F35 3 [.list (p.map Stp.enc),.int i,s.enc,v.enc,.list out]=some [.list (out++(s.f.drop i).flatMap (Ke v p))]
 | 0,i,out,h,o=>by
  have a: ¬ i<s.f.length:=by omega
  rw[Aw9,aF (by omega)]
  simp only[dM,bZ,aD,aA,bA,Aj,a,Ze,aS,aB,Zf,cY,bK]
 | n+1,i,out,h,o=>by
  have b:i<s.f.length:=by omega
  have u:=s.Bc
  have q:=Bd (i:=i) (by omega)
  have r:=fY (aK b)
  have t:=H0 hp (Ji s.f[i].nm (by omega))
  have d:(out.length+1) * 24<=Bb:=Arm (by omega)
  have g:O.Rz [(.int 1),.str s.f[i].nm,(.int 0),(.str ⟨#[]⟩)]=some (Ch s.f[i].nm).enc :=rfl
  rw[Aw9,aE b,cC]
  unfold Ke
  simp only[dM,bZ,aD,aA,bA,Aj,b,Zd,aS,Zt,cE,aH,aG,aJ,aC b,aI,eL,Alv v s.f[i].nm c,Jj,hQ,cV,Ax,An,g,R8 p (Ch s.f[i].nm) (by omega),bI,Afu _ t (by simp;omega),eW,aQ,d,Bcx,bR,q]
  have e:(if s.f[i].rq =true then !Lh v s.f[i].nm else false)=(s.f[i].rq && !Lh v s.f[i].nm):=by cases s.f[i].rq<;>simp
  rw[e]
  cases(s.f[i].rq && !Lh v s.f[i].nm) with
  | true=>
   have a:=Zx s v p c j hp m n (i+1) (out++ [Jb (p++ [Ch s.f[i].nm]) 7]) (by omega) (by simp;omega)
   simp only[Zt,a,bL]
   rfl
  | false=>
   have a:=Zx s v p c j hp m n (i+1) out (by omega) (by omega)
   simp only[aB,Zf,a,bE]
   rfl
theorem Af6 (s:Sch)(v:Val)(p:List Stp)(C:v.Ap<=1048576)(F:s.Ap<=1048576)(b:SB s)(hp: ∀s∈p,s.fits)(G:p.length+v.Ap<=549755813888)
  (H: ∀x∈v.f,Bhu x.2): ∀ (n i:Nat) (out:List IV),i+n=v.f.length->out.length+s.f.length+(2+s.Ap) * Bz (v.f.drop i)<=4398046511103->
  W F35 1 [.list (p.map Stp.enc),.int i,s.enc,v.enc,.list out]=some [.list (out++Le (v.f.drop i) s p++s.f.flatMap (Ke v p))]
 | 0,i,out,h,y=>by
  have e: ¬ i<v.f.length:=by omega
  have I:=Zx s v p C F hp G s.f.length 0 out (by omega) (by omega)
  simp only[aN,aP]at I
  rw[Ayb,aF (by omega),Jy]
  simp only[cO,bZ,aD,aA,bA,Aj,e,Ze,aS,aB,Zf,bK,I]
 | n+1,i,out,h,y=>by
  have o:i<v.f.length:=by omega
  have S:=v.Bc
  have K:=Bd (i:=i) (by omega)
  have T:=eF (aK o)
  have hd:=aE o
  rw[hd]at y ⊢
  rw[Jk]
  simp only[Bz,cK]at y
  have J:=H0 hp (Ji v.f[i].1 (by omega))
  have z:O.Rz [(.int 1),.str v.f[i].1,(.int 0),(.str ⟨#[]⟩)]=some (Ch v.f[i].1).enc :=rfl
  have q:=v.f[i].2.size_pos
  have c:1<=(2+s.Ap) * v.f[i].2.size :=by
   have:1 * 1<=(2+s.Ap) * v.f[i].2.size :=aX (by omega) q
   omega
  -- what this field adds
  have key: ∀es:List IV,es.length<=(2+s.Ap) * v.f[i].2.size ->W F35 2 [.list (p.map Stp.enc),.int i,s.enc,v.enc,.list (out++es)]=some [.list (out++(es++Le (v.f.drop (i+1)) s p)++s.f.flatMap (Ke v p))]:=by
   intro es L
   have M:=Af6 s v p C F b hp G H n (i+1) (out++es) (by omega) (by rw[aO];omega)
   rw[A9q]
   simp only[bR,K,aA,M,bL]
  have sub: ∀t:Sch,Eb s v.f[i].1 =some t->((∃es,Jo v.f[i].2 t (p++ [Ch v.f[i].1])=es/\W F19 0 [t.enc,v.f[i].2.enc,.list ((p++ [Ch v.f[i].1]).map Stp.enc)]=some [.list es]/\es.length<=(2+s.Ap) * v.f[i].2.size)):=by
   intro t A
   have N:=Jz A
   have e:=H _ (aK o) (by omega) t (b.sub A) (by omega) _ J (by simp;omega)
   have m:=Sy v.f[i].2 t (p++ [Ch v.f[i].1]) (b.sub A)
   have U:(2+t.Ap) * v.f[i].2.size <=(2+s.Ap) * v.f[i].2.size :=aX (by omega) (bP _)
   exact⟨_,rfl,e,by omega⟩
  have g: ∀es:List IV,es.length<=(2+s.Ap) * v.f[i].2.size ->(out.length+es.length) * 24<=Bb:=λes h=>Arm (by omega)
  rw[Ayb]
  simp only[cO,bZ,aD,aA,bA,Aj,o,Zd,aS,Zt,cE,aH,aG,aJ,aC o,aI,dG,z,R8 p _ (show p.length<=1099511627776 by omega),bI,Ai3 s v.f[i].1 (by omega),fN,eG,aW,cV,Ax,An,iH,eI,dL,gD]
  unfold Ahl
  cases j:s.it with
  | nil=>
   have a:Eb s v.f[i].1 =(s.fld v.f[i].1).map (·.s):=by unfold Eb;rw[j]
   rw[a]at sub ⊢
   simp only[bB,aN,Zd,Zt]
   cases Q:s.fld v.f[i].1 with
   | none=>
    have u:=g [Jb (p++ [Ch v.f[i].1]) 1] (by simpa using c)
    simp only[dN,aY,Zt,Afu _ J (show(p++ [Ch v.f[i].1]).length <=1099511627776 by simp;omega),bI,eW,u,aA,gQ]
    exact key _ (by simpa using c)
   | some d=>
    simp only[cN,aV,aB,Zf,aI,cB,show ¬ (0:Int)=1 by omega,Ze,ite_self]
    by_cases w:v.f[i].2.k =0
    ·simp only[w,Zd,aV,aB,Zf,Zt]
     have:=key [] (by simp)
     simpa using this
    ·obtain⟨es,B,e,m⟩:=sub d.s (by rw[Q];rfl)
     simp only[w,Ze,aY,Zt,Zf,e,bI,eW,g es m,aA,B]
     exact key es m
  | cons t r=>
   have R:r= []:=by have:=b.one;rw[j]at this;simpa using this
   subst R
   have a:Eb s v.f[i].1 =some t:=by unfold Eb;rw[j]
   rw[a]at sub ⊢
   simp only[aZ,bB,hZ,aN,show ¬ (1:Int)=0 by omega,Ze,aB,Zf,Zd,bN,bQ,cR,Zt,cD,bO,aA]
   by_cases w:v.f[i].2.k =0
   ·simp only[w,Zd,aV,aB,Zf,Zt]
    have:=key [] (by simp)
    simpa using this
   ·obtain⟨es,B,e,m⟩:=sub t rfl
    simp only[aI,aA,w,Ze,aY,Zt,Zf,e,bI,eW,g es m,aA,B]
    exact key es m
theorem Afy (s:Sch)(v:Val)(p:List Stp)(hp: ∀s∈p,s.fits)(b:p.length<=1099511627776)(d:s.Ap<=1048576): ∀ (n i:Nat),i+n=s.en.length->
  W F19 1 [.list (p.map Stp.enc),.int i,s.enc,v.enc]=some [.list (if decide (0<s.en.length)&& !(s.en.drop i).any (λe=>decide (e=v.s)) then[Jb p 1]else[])]
 | 0,i,h=>by
  have g: ¬ i<s.en.length:=by omega
  rw[Avp,aF (by omega)]
  simp only[eC,bZ,aD,aA,bA,Aj,g,Ze,aS,aB,Zf,cW,Afu p hp b,bI,List.any_nil,aY,cL]
  have e:decide ((0:Int)<(s.en.length:Int))=decide (0<s.en.length):=by simp
  rw[e]
  split<;>simp
 | n+1,i,h=>by
  have a:i<s.en.length:=by omega
  have o:=s.Ko
  have j:=Bd (i:=i) (by omega)
  have m:=Afy s v p hp b d n (i+1) (by omega)
  rw[Avp,aE a,fW]
  simp only[eC,bZ,aD,aA,bA,Aj,a,Zd,aS,Zt,cE,aH,aG,aJ,aC a,aI,gI,gH,bR,j,m]
  by_cases c:s.en[i]=v.s<;>simp[c]
theorem Aqt: ∀v:Val,Bhu v:=by
 refine eJ λv h i r s a j p hp u=>?_
 have b: ∀c,W F20 0 [.list (p.map Stp.enc),.int c]=some [.list [Jb p c]]:=Afu p hp (by omega)
 have B:=v.size_eq
 have C:=v.E9
 have F:=s.Bc
 have hmul:(2+s.Ap) * v.size<=1048578 * 1048576:=aX (by omega) (by omega)
 rw[Baf,Iv]
 simp only[dU,gJ,aA,eI,aS,b,bI]
 by_cases w:v.k=s.k
 ·simp only[w,Zd,aV,aB,Zf,Zt,aW,aA,aS]
  by_cases k2:s.k=2
  ·simp only[k2,Zd,Zt,gR,dO,dP,bA,cW,aA,aS,Ax,An,Z1]
   by_cases d:v.n<s.mn<;>by_cases e:s.mx<v.n<;>simp[d,e]
  ·by_cases x:s.k=3
   ·have y:=Afy s v p hp (by omega) j s.en.length 0 (by omega)
    simp only[aN,aP]at y
    simp only[x,show ¬ (3:Int)=2 by omega,Ze,aB,Zf,Zd,Zt,gI,dO,dP,cZ,bA,cW,aA,aS,Ax,An,y]
    by_cases d:(v.s.size:Int)<s.mn<;>by_cases e:s.mx<(v.s.size:Int)<;>simp[d,e]
   ·by_cases m:s.k=4
    ·obtain⟨t,z⟩:=bV.1 (a.list m)
     have G:(2+s.Ap) * Cn v.l<=(2+s.Ap) * v.size:=aX (bP _) (by omega)
     have H:=Vv p s v.l.length
     have g:=Xg s t v p r j z a hp u h v.l.length 0 (Z1 p s v.l.length) (by omega) (by simp only[aP];omega)
     simp only[aN,aP,fO]at g
     have o:W F29 0 [s.enc,v.enc,.list (p.map Stp.enc)]=some [.list (Z1 p s v.l.length++Ly v.l s.key t p [])]:=by
      rw[Bbu]
      simp only[cU,dO,dP,bZ,aD,bA,cW,aA,aS,Ax,An,b,bI,eW,bB,aQ,bE,Bap]
      have q:(0+1) * 24<=Bb:=Arm (by omega)
      simp only[q,Zt,aA]
      revert g
      unfold Z1
      by_cases d:(v.l.length:Int)<s.mn<;>by_cases e:s.mx<(v.l.length:Int)<;>simp[d,e]
     simp only[m,show ¬ (4:Int)=2 by omega,show ¬ (4:Int)=3 by omega,Ze,aB,Zf,Zd,Zt,o,bI,z,fG]
    ·by_cases A:s.k=5
     ·have G:(2+s.Ap) * Bz v.f<=(2+s.Ap) * v.size:=aX (bP _) (by omega)
      have g:=Af6 s v p r j a hp u i v.f.length 0 [] (by omega) (by simp only[aP,bB];omega)
      simp only[aN,aP,bE]at g
      have o:W F35 0 [s.enc,v.enc,.list (p.map Stp.enc)]=some [.list (Le v.f s p++s.f.flatMap (Ke v p))]:=by
       rw[Bb7,g]
      simp only[A,show ¬ (5:Int)=2 by omega,show ¬ (5:Int)=3 by omega,show ¬ (5:Int)=4 by omega,Ze,aB,Zf,Zd,Zt,o,bI]
     ·simp only[k2,x,m,A,Ze,aB,Zf]
 ·simp only[w,Ze,aY,Zt,Zf]
end Go.CT.Sch
namespace Go.CT.Sch
open Go.Proofs
def Ats (m:List (ByteArray × Bool)):List IV:=m.map λe=> .agg [.str e.1,.bool e.2]
def Vp (m:List (ByteArray × Bool))(k:ByteArray):Option Bool:=(m.find? λe=>decide (e.1=k)).map (·.2)
def Ah9 (k:ByteArray)(b:Bool):List (ByteArray × Bool)->List (ByteArray × Bool)
 | []=> [(k,b)]
 | e::r=>if e.1=k then(k,b)::r else e::Ah9 k b r
theorem Aa3 (a b:ByteArray):IV.Qs (.str a) (.str b)=some (decide (a=b)):=by
 have:(a.toList == b.toList)=decide (a=b):=by
  rw[aT,beq_iff_eq,decide_eq_true_iff];exact O.T2
 simp only[IV.Qs,this]
theorem Yz (k:ByteArray): ∀m:List (ByteArray × Bool),Vt (.str k) (Ats m)=some ((Vp m k).map .bool)
 | []=>rfl
 | e::r=>by
  have a:=Yz k r
  simp only[Ats,bN,Vt,Aa3,Vp,bW]
  by_cases c:k=e.1
  ·simp[c]
  ·have c': ¬ e.1=k:=λh=>c h.symm
   simp only[c,c',Ze]
   exact a
theorem Apg (k:ByteArray)(b:Bool): ∀m:List (ByteArray × Bool),Axf (.str k) (.bool b) (Ats m)=some (Ats (Ah9 k b m))
 | []=>rfl
 | e::r=>by
  have a:=Apg k b r
  simp only[Ats,bN,Axf,Aa3,Ah9]
  by_cases c:k=e.1
  ·simp[c]
  ·have c': ¬ e.1=k:=λh=>c h.symm
   simp only[c,c',Ze,Zf]
   unfold Ats at a
   rw[a];rfl
theorem Aim (k j:ByteArray)(b:Bool): ∀m:List (ByteArray × Bool),Vp (Ah9 k b m) j=if k=j then some b else Vp m j
 | []=>by simp only[Ah9,Vp,bW,List.find?_nil];by_cases c:k=j<;>simp[c]
 | e::r=>by
  have d:=Aim k j b r
  unfold Vp at d ⊢
  unfold Ah9
  by_cases c:e.1=k
  ·simp only[c,Zt,bW]
   by_cases a:k=j<;>simp[a]
  ·simp only[c,Zf,bW]
   by_cases a:e.1=j
   ·have: ¬ k=j:=λh=>c (a.trans h.symm)
    simp[a,this]
   ·simp only[a,Ze,d]
theorem A1g (m:List (ByteArray × Bool))(k:ByteArray):O.Aou (.bool false) (.list (Ats m)) (.str k)=some (.bool ((Vp m k).getD false)):=by
 unfold O.Aou
 simp only[dD,Yz,aI]
 cases Vp m k<;>rfl
theorem A1b (m:List (ByteArray × Bool))(k:ByteArray):O.Aj0 (.list (Ats m)) (.str k)=some (.bool (Vp m k).isSome):=by
 unfold O.Aj0
 simp only[dD,Yz,aI,Option.isSome_map]
theorem An8 (m:List (ByteArray × Bool))(k:ByteArray)(b:Bool):O.Arb (.list (Ats m)) (.str k) (.bool b)=some (.list (Ats (Ah9 k b m))):=by
 unfold O.Arb
 simp only[dD,Apg,aI]
theorem Aan (v:Val)(nm:ByteArray)(a:v.Ap<=4294967296):W Bhq 0 [v.enc,.str nm]=some (I9 (v.get nm)):=A5g v nm (Dd v (by omega))
theorem A64 (v:Val)(nm:ByteArray)(a:v.Ap<=1048576):W F110 0 [v.enc,.str nm]=some [.str (Dq v nm),.bool (isKey v nm)]:=by
 rw[A61]
 unfold Dq isKey
 simp only[Aan v nm (by omega),I9,Jj,aS,aW,aA,Ax,An]
 cases(v.get nm).isSome<;>simp
theorem Arp (s:Sch)(v:Val)(i:Int)(a:v.Ap<=1048576):W F109 0 [s.enc,.int i,v.enc]=some [.agg [.int (if Gb v s.key then 3 else 2),.str (if Gb v s.key then s.key else Am),.int (if Gb v s.key then 0 else i),.str (if Gb v s.key then Dq v s.key else Am)]]:=by
 rw[A3m]
 have e:(if isKey v s.key=true then !decide (s.key=(⟨#[]⟩:ByteArray)) else false)=Gb v s.key:=by unfold Gb Am;cases isKey v s.key<;>simp
 simp only[eP,aA,A64 v s.key a,fN,gX,aS,Ax,An,e,fB]
 cases Gb v s.key<;>rfl
theorem Ajs (s:Sch)(v:Val)(i:Nat)(a:v.Ap<=1048576):W F109 0 [s.enc,.int i,v.enc]=some [(Ht s.key v i).enc]:=by
 rw[Arp s v i a]
 unfold Ht
 cases Gb v s.key<;>rfl
theorem Wg (nm:ByteArray):W F117 0 [.str nm]=some [(Ch nm).enc]:=by
 rw[A2i];rfl
theorem Afb (p:List Stp)(s:Stp)(c:p.length<=1073741824):W F112 0 [.list (p.map Stp.enc),s.enc]=some [.list ((p++ [s]).map Stp.enc)]:=by
 have a:((p.map Stp.enc).length + [s.enc].length) * 48<=Bb:=by
  have:(p.length+1) * 48<=1099511627777 * 48:=aX (by omega) (bP _)
  simp only[aD,aQ]
  unfold Bb;omega
 have b:O.Iq [.list (p.map Stp.enc)]=some [.list (p.map Stp.enc)]:=Dy (by rw[aD];omega)
 rw[A6a]
 simp only[A66,b,bI,Bd5,O.Asq,fX,aA,O.Ahu (n:=48) (by simp) a,cG,bN,bQ]
theorem Anq (out:List IV)(p:List Stp)(c:Int)(hp: ∀s∈p,s.fits)(b:p.length<=1099511627776)(d:out.length<=4398046511103):W F88 0 [.list out,.list (p.map Stp.enc),.int c]=some [.list (out++ [Jb p c])]:=by
 have a:(out.length+1) * 24<=Bb:=Arm (by omega)
 rw[Bbl]
 simp only[Ae1 p hp b,fN,fB,fX,aA,eW,aQ,a,Zt,Jb]
theorem Alr (s:Sch):W F115 0 [s.enc]=some [.bool (decide (s.k=5)&&decide (0<s.it.length))]:=by
 rw[A2z]
 by_cases a:s.k=5<;>simp[a]
theorem Aup (s:Sch):W F67 0 [s.enc]=some [.bool (decide (s.k=5)&&decide (s.it.length=0))]:=by
 rw[Bc2]
 by_cases a:s.k=5<;>simp[a]
theorem Apj (s:Sch)(nm:ByteArray)(d:s.Ap<=1099511627776): ∀ (n i:Nat),i+n=s.f.length->
  ∃r:Int,W F65 1 [.list (s.f.map cS),.str nm,.int s.f.length,.int i]=some [.int r]/\
   ((((s.f.drop i).find? λp=>decide (p.nm=nm))=none/\r<0)\/(∃j:Nat,r=j/\s.f[j]?=((s.f.drop i).find? λp=>decide (p.nm=nm))/\((s.f.drop i).find? λp=>decide (p.nm=nm)).isSome =true))
 | 0,i,h=>by
  rw[Auz]
  have b: ¬ i<s.f.length:=by omega
  refine⟨-1,by simp[b],.inl ⟨by simp[aF (bD b)],by omega⟩⟩
 | n+1,i,h=>by
  have a:i<s.f.length:=by omega
  have o:=s.Bc
  have e:=Bd (i:=i) (by omega)
  obtain⟨r,g,m⟩:=Apj s nm d n (i+1) (by omega)
  rw[Auz,aE a,bW]
  simp only[bA,Aj,a,Zd,aA,aS,Zt,cE,aH,aG,aJ,aC a,aI,Bbm,eL,gH,bI,bR,e,g]
  by_cases c:s.f[i].nm =nm
  ·refine⟨i,by simp[c],.inr ⟨i,rfl,by simp[c],by simp[c]⟩⟩
  ·have c':decide (s.f[i].nm =nm)=false:=by simpa using c
   simp only[c',aB,Zf]
   exact⟨r,rfl,m⟩
theorem Adi (s:Sch)(nm:ByteArray)(h:s.Ap<=1099511627776):W F64 0 [s.enc,.str nm]=
  some [(if s.k=5/\s.it.length=0 then(s.fld nm).getD Qu else Qu).enc,.bool (decide (s.k=5/\s.it.length=0)&&(s.fld nm).isSome)]:=by
 obtain⟨r,i,b⟩:=Apj s nm h s.f.length 0 (by omega)
 have c:W F65 0 [.list (s.f.map cS),.str nm]=some [.int r]:=by
  rw[Bb9]
  simpa using i
 simp only[aP]at b
 have m:(s.f.find? λp=>decide (p.nm=nm))=s.fld nm:=rfl
 rw[m]at b
 have e:=Aup s
 rw[Bar]
 simp only[dM,aA,c,bI,bA,aS,e,cV,fB,Ax,An]
 rcases b with⟨a,g⟩ | ⟨j,rfl,a,g⟩
 ·rw[a]
  simp only[g,Zd,Zt,eY,ite_self,dN,gT]
  rfl
 ·have o: ¬ (j:Int)<0:=by omega
  obtain⟨d,hd⟩:=dJ.1 g
  rw[hd]at a ⊢
  simp only[o,Ze,aB,Zf,cE,aH,Zt,aG,aJ,a,aI,cB,cN,cL,aA]
  by_cases q:s.k=5<;>by_cases t:s.it.length=0<;>simp[q,t,Aar]
theorem Asf (v:Val)(nm:ByteArray)(a:v.Ap<=1048576): ∃w:Val,W F118 0 [v.enc,.str nm]=some [.int w.k,.int w.n,.str w.s,.list (w.l.map bT),.list (w.f.map bG),.bool (Lh v nm)]/\w=(v.get nm).getD Au:=by
 rw[A55]
 unfold Lh
 refine⟨_,?_,rfl⟩
 simp only[Aan v nm (by omega),I9,Jj,eI,aS,aA,Ax,An]
 cases(v.get nm).isSome<;>simp
theorem Su (l:List ByteArray)(x:ByteArray)(d:l.length<=1099511627776): ∀ (n i:Nat),i+n=l.length->
  ∃r:Int,W F107 1 [.list (l.map .str),.str x,.int l.length,.int i]=some [.int r]/\(decide (0<=r)=(l.drop i).any λe=>decide (e=x))
 | 0,i,h=>by
  rw[Anw]
  have b: ¬ i<l.length:=by omega
  refine⟨-1,by simp[b],by simp[aF (bD b)]⟩
 | n+1,i,h=>by
  have a:i<l.length:=by omega
  have g:=Bd (i:=i) (by omega)
  obtain⟨r,j,m⟩:=Su l x d n (i+1) (by omega)
  rw[Anw,aE a,fW]
  simp only[bA,Aj,a,Zd,aA,aS,Zt,cE,aH,aG,aJ,aC a,aI,gH,bR,g,j]
  by_cases c:x=l[i]
  ·refine⟨i,by simp[c],by simp[c]⟩
  ·have c': ¬ l[i]=x:=λh=>c h.symm
   simp only[c,Ze,aB,Zf]
   exact⟨r,rfl,by simp[c',m]⟩
theorem Nb (l:List ByteArray)(x:ByteArray)(b:l.length<=1099511627776):W F106 0 [.list (l.map .str),.str x]=some [.bool (l.any λe=>decide (e=x))]:=by
 obtain⟨r,c,d⟩:=Su l x b l.length 0 (by omega)
 have a:W F107 0 [.list (l.map .str),.str x]=some [.int r]:=by
  rw[A3a];simpa using c
 rw[A1i]
 simp only[a,bI,fH,aA,d,aP]
def PgE (v:Val):Prop:=v.Ap<=1048576-> ∀ (s:Sch),SB s->s.Ap<=1048576-> ∀ (p:List Stp) (out:List IV),(∀x∈p,x.fits)->p.length+v.Ap<=1073741824->out.length+(2+s.Ap) * v.size<=4398046511103->
 W F87 0 [.list out,s.enc,v.enc,.list (p.map Stp.enc)]=some [.list (out++Jo v s p)]
theorem Agd (s t:Sch)(v:Val)(p:List Stp)(I:v.Ap<=1048576)(J:s.Ap<=1048576)(r:s.it= [t])(d:SB s)(hp: ∀s∈p,s.fits)(K:p.length+v.Ap<=1073741824)
  (z: ∀x∈v.l,PgE x): ∀ (n i:Nat) (out:List IV) (m:List (ByteArray × Bool)),i+n=v.l.length->out.length+(2+s.Ap) * Cn (v.l.drop i)<=4398046511103->
  (∀k,(Vp m k).getD false=(v.l.take i).any (sameKey s.key k))->
  W Bhe 2 [.list (p.map Stp.enc),.list (v.l.map bT),.int v.l.length,.int i,s.enc,.list (Ats m),.list out]=some [.list (out++Ly (v.l.drop i) s.key t p (v.l.take i))]
 | 0,i,out,m,h,u,g=>by
  have A: ¬ i<v.l.length:=by omega
  rw[Amh,aF (by omega),Mn]
  simp only[bA,Aj,A,Ze,aA,aS,aB,Zf,bK]
 | n+1,i,out,m,h,u,g=>by
  have j:i<v.l.length:=by omega
  have S:=v.Bx
  have L:=Bd (i:=i) (by omega)
  have T:=eM (aK j)
  have e:t∈s.it:=by rw[r];simp
  have htmass:=fP e
  have hd:=aE j
  have B:=s.Adg
  rw[hd]at u ⊢
  rw[Il]
  have w:(v.l.take i).length =i:=by simp;omega
  have o:v.l.take i++ [v.l[i]]=v.l.take (i+1):=by simp
  rw[w,o]
  have C:=H0 hp (Aca s.key v.l[i] i (by omega) (by omega))
  have hlen:=Sy v.l[i] t (p++ [Ht s.key v.l[i] i]) (d.I3 e)
  have M:=Ael s.key (v.l.take i) v.l[i] (p++ [Ht s.key v.l[i] i])
  simp only[Cn,cK]at u
  have N:(2+t.Ap) * v.l[i].size +1<=(2+s.Ap) * v.l[i].size :=by
   have A:=v.l[i].size_pos
   have U:(3+t.Ap) * v.l[i].size <=(2+s.Ap) * v.l[i].size :=aX (by omega) (bP _)
   have X:(3+t.Ap) * v.l[i].size =(2+t.Ap) * v.l[i].size +v.l[i].size :=by rw[show 3+t.Ap=(2+t.Ap)+1 by omega,gL,gM]
   omega
  have y:=z _ (aK j) (by omega) t (d.I3 e) (by omega) (p++ [Ht s.key v.l[i] i]) out C (by simp;omega) (by omega)
  generalize Y:Jo v.l[i] t (p++ [Ht s.key v.l[i] i])=es1 at *
  have b: ∀k,(v.l.take (i+1)).any (sameKey s.key k)=((v.l.take i).any (sameKey s.key k)||sameKey s.key k v.l[i]):=by
   intro k;rw[<-o,List.any_append];simp
  have go: ∀ (es:List IV) (q:List (ByteArray × Bool)),es.length<=(2+s.Ap) * v.l[i].size ->(∀k,(Vp q k).getD false=(v.l.take (i+1)).any (sameKey s.key k))->
    W Bhe 4 [.list (p.map Stp.enc),.list (v.l.map bT),.int v.l.length,.int i,s.enc,.list (Ats q),.list (out++es)]=some [.list (out++(es++Ly (v.l.drop (i+1)) s.key t p (v.l.take (i+1))))]:=by
   intro es q Q a
   have R:=Agd s t v p I J r d hp K z n (i+1) (out++es) q (by omega) (by rw[aO];omega) a
   rw[A4t]
   simp only[bR,L,aA]
   rw[R,bL]
  have ek:(if isKey v.l[i] s.key=true then !decide (s.key=(⟨#[]⟩:ByteArray)) else false)=Gb v.l[i] s.key:=by unfold Gb Am;cases isKey v.l[i] s.key<;>simp
  rw[Amh]
  simp only[bA,Aj,j,Zd,aA,aS,Zt,cE,aH,aG,aJ,aC j,aI,Ajs s v.l[i] i (by omega),bI,Afb p (Ht s.key v.l[i] i) (by omega),eG,r,bN,bQ,cR,cD,bO,y,eP,A64 v.l[i] s.key (by omega),fN,gX,Ax,An,ek,A1g,A1b,g]
  unfold Atq
  cases F:Gb v.l[i] s.key with
  | false=>
   simp only[aB,Zf,cM,bK]
   refine go es1 m (by omega) λk=>?_
   rw[g,b]
   simp[sameKey,F]
  | true=>
   have a: ∀k,(Vp (Ah9 (Dq v.l[i] s.key) true m) k).getD false=(v.l.take (i+1)).any (sameKey s.key k):=by
    intro k
    rw[Aim,b]
    unfold sameKey at g ⊢
    by_cases c:Dq v.l[i] s.key=k
    ·simp[c,F]
    ·simp[c,g]
   simp only[Zt,bJ]
   cases G:(v.l.take i).any (sameKey s.key (Dq v.l[i] s.key)) with
   | true=>
    simp only[Zt,Anq _ _ 8 C (show(p++ [Ht s.key v.l[i] i]).length <=1099511627776 by simp;omega) (show(out++es1).length <=4398046511103 by rw[aO];omega),bI,Am3,An8,aA]
    have H:=go (es1++ [Jb (p++ [Ht s.key v.l[i] i]) 8]) _ (by simp;omega) a
    simp only[<-bL]at H ⊢
    exact H
   | false=>
    simp only[aB,Zf,Am3,An8,aA,bK]
    exact go es1 _ (by omega) a
theorem Adc (s:Sch)(v:Val)(p:List Stp)(c:v.Ap<=1048576)(g:s.Ap<=1048576)(hp: ∀s∈p,s.fits)(j:p.length+v.Ap<=1073741824): ∀ (n i:Nat) (out:List IV),i+n=s.f.length->out.length+n<=4398046511103->
  W Bhf 3 [.list (p.map Stp.enc),.list (s.f.map cS),.int s.f.length,.int i,v.enc,.list out]=some [.list (out++(s.f.drop i).flatMap (Ke v p))]
 | 0,i,out,h,m=>by
  have a: ¬ i<s.f.length:=by omega
  rw[Ao5,aF (by omega)]
  simp only[aA,bA,Aj,a,Ze,aS,aB,Zf,cY,bK]
 | n+1,i,out,h,m=>by
  have b:i<s.f.length:=by omega
  have t:=s.Bc
  have o:=Bd (i:=i) (by omega)
  have q:=fY (aK b)
  have r:=H0 hp (Ji s.f[i].nm (by omega))
  obtain⟨w,d,_⟩:=Asf v s.f[i].nm c
  rw[Ao5,aE b,cC]
  unfold Ke
  have e:(if s.f[i].rq =true then !Lh v s.f[i].nm else false)=(s.f[i].rq && !Lh v s.f[i].nm):=by cases s.f[i].rq<;>simp
  simp only[aA,bA,Aj,b,Zd,aS,Zt,cE,aH,aG,aJ,aC b,aI,eL,d,Jj,hQ,cV,Ax,An,Wg,bI,Afb p (Ch s.f[i].nm) (by omega),Anq out _ 7 r (show(p++ [Ch s.f[i].nm]).length <=1099511627776 by simp;omega) (by omega),A4k,bR,o,e]
  cases(s.f[i].rq && !Lh v s.f[i].nm) with
  | true=>
   have a:=Adc s v p c g hp j n (i+1) (out++ [Jb (p++ [Ch s.f[i].nm]) 7]) (by omega) (by simp;omega)
   simp only[Zt,a,bL]
   rfl
  | false=>
   have a:=Adc s v p c g hp j n (i+1) out (by omega) (by omega)
   simp only[aB,Zf,a,bE]
   rfl
theorem A63 (s:Sch)(v:Val)(p:List Stp)(h:v.Ap<=1048576)(j:s.Ap<=1048576)(a:SB s)(hp: ∀s∈p,s.fits)(m:p.length+v.Ap<=1073741824)(d: ∀x∈v.f,PgE x.2)(i:Nat)(c:i<v.f.length)(out:List IV)(o:out.length+(2+s.Ap) * v.f[i].2.size <=4398046511103)(t:Sch)(b:Eb s v.f[i].1 =some t):
  W F87 0 [.list out,t.enc,v.f[i].2.enc,.list ((p++ [Ch v.f[i].1]).map Stp.enc)]=some [.list (out++Jo v.f[i].2 t (p++ [Ch v.f[i].1]))]/\(Jo v.f[i].2 t (p++ [Ch v.f[i].1])).length <=(2+s.Ap) * v.f[i].2.size :=by
 have q:=v.Bc
 have r:=eF (aK c)
 have e:=H0 hp (Ji v.f[i].1 (by omega))
 have g:=Jz b
 have u:=Sy v.f[i].2 t (p++ [Ch v.f[i].1]) (a.sub b)
 have w:(2+t.Ap) * v.f[i].2.size <=(2+s.Ap) * v.f[i].2.size :=aX (by omega) (bP _)
 exact⟨d _ (aK c) (by omega) t (a.sub b) (by omega) _ out e (by simp;omega) (by omega),by omega⟩
theorem Aid (s t:Sch)(v:Val)(p:List Stp)(j:v.Ap<=1048576)(m:s.Ap<=1048576)(d:s.it= [t])(b:SB s)(hp: ∀s∈p,s.fits)(o:p.length+v.Ap<=1073741824)
  (q: ∀x∈v.f,PgE x.2): ∀ (n i:Nat) (out:List IV),i+n=v.f.length->out.length+(2+s.Ap) * Bz (v.f.drop i)<=4398046511103->
  W F87 1 [.list (p.map Stp.enc),.list (v.f.map bG),.int v.f.length,.int i,s.enc,.list out]=some [.list (out++Le (v.f.drop i) s p)]
 | 0,i,out,h,e=>by
  have g: ¬ i<v.f.length:=by omega
  rw[Axy,aF (by omega),Jy]
  simp only[bA,Aj,g,Ze,aA,aS,aB,Zf,bK]
 | n+1,i,out,h,e=>by
  have c:i<v.f.length:=by omega
  have A:=v.Bc
  have u:=Bd (i:=i) (by omega)
  have hd:=aE c
  rw[hd]at e ⊢
  rw[Jk]
  simp only[Bz,cK]at e
  have a:Eb s v.f[i].1 =some t:=by unfold Eb;rw[d]
  have key: ∀es:List IV,es.length<=(2+s.Ap) * v.f[i].2.size ->W F87 2 [.list (p.map Stp.enc),.list (v.f.map bG),.int v.f.length,.int i,s.enc,.list (out++es)]=some [.list (out++(es++Le (v.f.drop (i+1)) s p))]:=by
   intro es w
   have y:=Aid s t v p j m d b hp o q n (i+1) (out++es) (by omega) (by rw[aO];omega)
   rw[A97]
   simp only[bR,u,aA,y,bL]
  obtain⟨g,z⟩:=A63 s v p j m b hp o q i c out (by omega) t a
  rw[Axy]
  unfold Ahl
  rw[a]
  simp only[bA,Aj,c,Zd,aA,aS,Zt,cE,aH,aG,aJ,aC c,aI,iH,eI,eG,d,bN,bQ,cR,cD,bO,dL,dG,Wg,bI,Afb p (Ch v.f[i].1) (by omega),g]
  by_cases r:v.f[i].2.k =0
  ·simp only[r,Zd,aV,aB,Zf,Zt]
   have:=key [] (by simp)
   simpa using this
  ·simp only[r,Ze,aY,Zt,Zf]
   exact key _ z
theorem Aoh (s:Sch)(v:Val)(p:List Stp)(o:v.Ap<=1048576)(q:s.Ap<=1048576)(c:s.k=5)(b:s.it= [])(e:SB s)(hp: ∀s∈p,s.fits)(r:p.length+v.Ap<=1073741824)
  (w: ∀x∈v.f,PgE x.2): ∀ (n i:Nat) (out:List IV),i+n=v.f.length->out.length+s.f.length+(2+s.Ap) * Bz (v.f.drop i)<=4398046511103->
  W Bhf 1 [.list (p.map Stp.enc),.list (v.f.map bG),.int v.f.length,.int i,s.enc,v.enc,.list out]=some [.list (out++Le (v.f.drop i) s p++s.f.flatMap (Ke v p))]
 | 0,i,out,h,t=>by
  have u: ¬ i<v.f.length:=by omega
  have y:=Adc s v p o q hp r s.f.length 0 out (by omega) (by omega)
  simp only[aN,aP]at y
  rw[Apc,aF (by omega),Jy]
  simp only[bA,Aj,u,Ze,aA,aS,aB,Zf,dM,bZ,aD,y,bK]
 | n+1,i,out,h,t=>by
  have g:i<v.f.length:=by omega
  have I:=v.Bc
  have A:=Bd (i:=i) (by omega)
  have J:=eF (aK g)
  have hd:=aE g
  rw[hd]at t ⊢
  rw[Jk]
  simp only[Bz,cK]at t
  have j:=v.f[i].2.size_pos
  have m:1<=(2+s.Ap) * v.f[i].2.size :=by
   have:1 * 1<=(2+s.Ap) * v.f[i].2.size :=aX (by omega) j
   omega
  have B:=H0 hp (Ji v.f[i].1 (by omega))
  have a:Eb s v.f[i].1 =(s.fld v.f[i].1).map (·.s):=by unfold Eb;rw[b]
  have key: ∀es:List IV,es.length<=(2+s.Ap) * v.f[i].2.size ->W Bhf 2 [.list (p.map Stp.enc),.list (v.f.map bG),.int v.f.length,.int i,s.enc,v.enc,.list (out++es)]=some [.list (out++(es++Le (v.f.drop (i+1)) s p)++s.f.flatMap (Ke v p))]:=by
   intro es C
   have F:=Aoh s v p o q c b e hp r w n (i+1) (out++es) (by omega) (by rw[aO];omega)
   rw[A3j]
   simp only[bR,A,aA,F,bL]
  rw[Apc]
  unfold Ahl
  simp only[bA,Aj,g,Zd,aA,aS,Zt,cE,aH,aG,aJ,aC g,aI,dG,Wg,bI,Afb p (Ch v.f[i].1) (by omega),Adi s v.f[i].1 (by omega),fN,c,b,bB,and_self,Zd,bJ,cV,iH,eI,dL,gD]
  rw[a]
  cases G:s.fld v.f[i].1 with
  | none=>
   simp only[dN,aY,Zt,Anq out _ 1 B (show(p++ [Ch v.f[i].1]).length <=1099511627776 by simp;omega) (by omega),bI,gQ]
   exact key _ (by simpa using m)
  | some d=>
   simp only[cN,aV,aB,Zf,aI,cB]
   by_cases z:v.f[i].2.k =0
   ·simp only[z,Zd,aV,aB,Zf,Zt]
    have:=key [] (by simp)
    simpa using this
   ·obtain⟨u,H⟩:=A63 s v p o q e hp r w i g out (by omega) d.s (by rw[a,G];rfl)
    simp only[z,Ze,aY,Zt,Zf,u,bI]
    exact key _ H
theorem A3z: ∀v:Val,PgE v:=by
 refine eJ λv u j w s a x p out hp y S=>?_
 have m:=v.size_pos
 have F:1<=(2+s.Ap) * v.size:=by
  have:1 * 1<=(2+s.Ap) * v.size:=aX (by omega) m
  omega
 have q: ∀c,W F88 0 [.list out,.list (p.map Stp.enc),.int c]=some [.list (out++ [Jb p c])]:=λc=>Anq out p c hp (by omega) (by omega)
 have J:=v.size_eq
 have K:=s.Bc
 have hle:=s.Ko
 rw[A9v,Iv]
 simp only[dU,gJ,aA,eI,aS,q,bI]
 by_cases G:v.k=s.k
 ·simp only[G,Zd,aV,aB,Zf,Zt,aW,aA,aS]
  by_cases k2:s.k=2
  ·simp only[k2,Zd,Zt,gR,dO,dP,bA,cW,aA,aS,Ax,An,Z1]
   by_cases h:v.n<s.mn<;>by_cases i:s.mx<v.n<;>simp[h,i]
  ·by_cases H:s.k=3
   ·simp only[H,show ¬ (3:Int)=2 by omega,Ze,aB,Zf,Zd,Zt,gI,dO,dP,eC,bZ,aD,cZ,bA,cW,aA,aS,Ax,An,Nb s.en v.s (by omega),bI,cV]
    have e:decide ((0:Int)<(s.en.length:Int))=decide (0<s.en.length):=by simp
    rw[e]
    by_cases h:(v.s.size:Int)<s.mn<;>by_cases i:s.mx<(v.s.size:Int)<;>by_cases L:0<s.en.length<;>cases(s.en.any λe=>decide (e=v.s))<;>simp[h,i,L]
   ·by_cases z:s.k=4
    ·obtain⟨t,I⟩:=bV.1 (a.list z)
     have g:(2+s.Ap) * (1+Cn v.l)<=(2+s.Ap) * v.size:=aX (bP _) (by omega)
     rw[cK]at g
     have M:=Vv p s v.l.length
     have d:=Agd s t v p w x I a hp y u v.l.length 0 (out++Z1 p s v.l.length) [] (by omega) (by simp only[aP,aO];omega) (λk=>rfl)
     simp only[aN,aP,fO]at d
     have A:W Bhe 0 [.list out,s.enc,v.enc,.list (p.map Stp.enc)]=some [.list (out++(Z1 p s v.l.length++Ly v.l s.key t p []))]:=by
      have N: ∀o:List IV,o=out++Z1 p s v.l.length->W Bhe 1 [.list (p.map Stp.enc),s.enc,v.enc,.list o]=some [.list (out++(Z1 p s v.l.length++Ly v.l s.key t p []))]:=by
       intro o Q
       rw[A6t,Q]
       simp only[cU,bZ,aD,aA]
       rw[<-bL]
       exact d
      rw[A4l]
      simp only[cU,dO,dP,bZ,aD,bA,cW,aA,aS,Ax,An,q,bI]
      by_cases h:(v.l.length:Int)<s.mn<;>by_cases i:s.mx<(v.l.length:Int)<;>simp only[h,i,Zd,Ze,Zt,Zf,aB]<;>exact N _ (by simp[Z1,h,i])
     simp only[z,show ¬ (4:Int)=2 by omega,show ¬ (4:Int)=3 by omega,Ze,aB,Zf,Zd,Zt,A,bI,I,fG]
    ·by_cases B:s.k=5
     ·have g:(2+s.Ap) * (1+Bz v.f)<=(2+s.Ap) * v.size:=aX (bP _) (by omega)
      rw[cK]at g
      simp only[B,show ¬ (5:Int)=2 by omega,show ¬ (5:Int)=3 by omega,show ¬ (5:Int)=4 by omega,Ze,aB,Zf,Zd,Zt,Alr,bI,bJ,aS]
      cases b:s.it with
      | nil=>
       have d:=Aoh s v p w x B b a hp y j v.f.length 0 out (by omega) (by simp only[aP];omega)
       simp only[aN,aP]at d
       have A:W Bhf 0 [.list out,s.enc,v.enc,.list (p.map Stp.enc)]=some [.list (out++(Le v.f s p++s.f.flatMap (Ke v p)))]:=by
        rw[A1l,<-bL]
        simp only[cO,bZ,aD,aA]
        exact d
       simp only[bB,Nat.lt_irrefl,Ze,aB,Zf,A,bI]
      | cons t r=>
       have R:r= []:=by have:=a.one;rw[b]at this;simpa using this
       subst R
       have C:=a.nof (by rw[b];simp)
       have d:=Aid s t v p w x b a hp y j v.f.length 0 out (by omega) (by simp only[aP];omega)
       simp only[aN,aP]at d
       simp only[aZ,Nat.zero_lt_succ,Zd,Zt,cO,bZ,aD,aA,C,cY,bK]
       exact d
     ·simp only[k2,H,z,B,Ze,aB,Zf,Alr,bI,cM,aS,bK]
 ·simp only[G,Ze,aY,Zt,Zf]
theorem Ahh (v:Val)(b:v.Ap<=1048576)(s:Sch)(a:SB s)(c:s.Ap<=1048576):W F86 0 [s.enc,v.enc]=some [.list (Jo v s [])]:=by
 have d:=v.E9
 have hmul:(2+s.Ap) * v.size<=1048578 * 1048576:=aX (by omega) (by omega)
 have h:=A3z v b s a c [] [] (by simp) (by simp;omega) (by simp;omega)
 simp only[bQ,bE]at h
 rw[Baw]
 simp only[h,bI]
end Go.CT.Sch
namespace Go.CT.Sch
open Go.Proofs
def J0 (o:Option ByteArray)(x:ByteArray):Bool:=match o with | none=>true | some q=>blt q x
def Az6 (mn mx:Int):Option ByteArray->List ByteArray->Bool
 | _,[]=>true
 | o,x::r=>Jw x&&decide (mn<=x.size)&&decide ((x.size:Int)<=mx)&&J0 o x&&Az6 mn mx (some x) r
def Bdx (x:SFld):Bool:=x.df.all λv=> !decide (v.k=0)&&v.valid&&decide ((Jo v x.s []).length =0)
def fOk (g:Sch->Bool):Option ByteArray->List SFld->Bool
 | _,[]=>true
 | o,x::r=>C5 x.nm&&J0 o x.nm&&g x.s&&decide (x.df.length<=1)&&Bdx x&&fOk g (some x.nm) r
def Ii (s:Sch):Bool:=decide (s.key=Am)&&decide (s.it.length=0)&&decide (s.f.length=0)
def Asg (s:Sch)(m:Int):Bool:=decide (0<=s.mn)&&decide (s.mn<=s.mx)&&decide (s.mx<=m)
def Wh (s:Sch):Bool:=decide (s.key=Am)||(match s.it with | t::_=>decide (t.k=5)&&(t.fld s.key).isSome &&((t.fld s.key).getD Qu).rq &&decide (((t.fld s.key).getD Qu).s.k =3) | []=>false)
def Cl:Nat->Sch->Bool
 | 0,_=>false
 | d+1,s=>
  if s.k=1 then Ii s&&decide (s.mn=0)&&decide (s.mx=0)&&decide (s.en.length=0)
  else if s.k=2 then Ii s&&decide (-1000000000000000<=s.mn)&&decide (s.mn<=s.mx)&&decide (s.mx<=1000000000000000)&&decide (s.en.length=0)
  else if s.k=3 then Ii s&&Asg s 200&&Az6 s.mn s.mx none s.en&&decide (s.en.length<=64)
  else if s.k=4 then Asg s 64&&decide (s.en.length=0)&&decide (s.f.length=0)&&decide (s.it.length=1)&&Wh s&&s.it.all (Cl d)
  else if s.k=5 then decide (s.mn=0)&&decide (s.mx=0)&&decide (s.en.length=0)&&decide (s.key=Am)&&decide (s.it.length<=1)&&(decide (s.it.length=0)||decide (s.f.length=0))&&decide (s.f.length<=64)&&s.it.all (Cl d)&&fOk (Cl d) none s.f
  else false
def valid (s:Sch):Bool:=Cl 12 s
theorem Alg {g:Sch->Bool} : ∀ {l:List SFld} {o:Option ByteArray},fOk g o l=true-> ∀x∈l,C5 x.nm=true/\g x.s=true/\x.df.length<=1/\Bdx x=true
 | [],_,_,x,a=>by simp at a
 | y::r,o,h,x,a=>by
  simp only[fOk,aL,decide_eq_true_eq]at h
  rcases bH.1 a with rfl | a
  ·exact⟨h.1.1.1.1.1,h.1.1.1.2,h.1.1.2,h.1.2⟩
  ·exact Alg h.2 x a
theorem Hg: ∀ (d:Nat) (s:Sch),Cl d s=true->SB s
 | 0,s,h=>by simp[Cl]at h
 | d+1,s,h=>by
  have leaf:s.k≠4->Ii s=true->SB s:=λg h=>by
   simp only[Ii,aL,decide_eq_true_eq]at h
   have a:s.it= []:=aU.1 h.1.2
   have b:s.f= []:=aU.1 h.2
   exact .mk s (by omega) (λe=>absurd a e) (λe=>absurd e g) (by simp[a]) (by simp[b])
  unfold Cl at h
  split at h
  ·simp only[aL]at h;exact leaf (by omega) h.1.1.1
  ·split at h
   ·simp only[aL]at h;exact leaf (by omega) h.1.1.1.1
   ·split at h
    ·simp only[aL]at h;exact leaf (by omega) h.1.1.1
    ·split at h
     ·simp only[aL,decide_eq_true_eq,bM]at h
      have b:s.f= []:=aU.1 h.1.1.1.2
      exact .mk s (by omega) (λ_=>b) (λ_=>h.1.1.2) (λx c=>Hg d x (h.2 x c)) (by simp[b])
     ·split at h
      ·simp only[aL,decide_eq_true_eq,bM,eH]at h
       refine .mk s h.1.1.1.1.2 (λe=>?_) (λe=>by omega) (λx c=>Hg d x (h.1.2 x c)) (λp hp=>Hg d p.s (Alg h.2 p hp).2.1)
       rcases h.1.1.1.2 with a | a
       ·exact absurd (aU.1 a) e
       ·exact aU.1 a
      ·cases h
def Qk (l:List SFld):Nat->Option ByteArray
 | 0=>none
 | i+1=>(l[i]?).map (·.nm)
def Sm (l:List ByteArray):Nat->Option ByteArray
 | 0=>none
 | i+1=>l[i]?
theorem Ah8 (s:Sch):W F8 0 [s.enc]=some [.bool (Ii s)]:=by
 rw[Bej]
 simp only[eP,eG,dM,bZ,aD,aA,gH,aW,aS,Ax,An,Dx]
 congr 3
 unfold Ii
 rw[aT]
 simp[and_assoc]
theorem Aap (s:Sch)(m:s.Ap<=1048576): ∀ (n i:Nat),i+n=s.en.length->
  W F9 1 [.int i,s.enc]=some [.bool (Az6 s.mn s.mx (Sm s.en i) (s.en.drop i)&&(Ii s&&Asg s 200&&decide (s.en.length<=64)))]
 | 0,i,h=>by
  have o: ¬ i<s.en.length:=by omega
  rw[A8m,aF (by omega)]
  simp only[eC,bZ,aD,aA,bA,Aj,o,Ze,aS,aB,Zf,Ah8,bI,dO,dP,fH,eV,Ax,An]
  congr 3
  unfold Asg Az6
  rw[aT]
  simp[and_assoc]
  omega
 | n+1,i,h=>by
  have a:i<s.en.length:=by omega
  have t:=s.Ko
  have q:=Bd (i:=i) (by omega)
  have j:=Aap s m n (i+1) (by omega)
  have u:=Sch.Au1 (aK a)
  have c:Sm s.en (i+1)=some s.en[i]:=by simp[Sm,a]
  rw[c]at j
  rw[A8m,aE a]
  simp only[Az6,eC,bZ,aD,aA,bA,Aj,a,Zd,aS,Zt,cE,aH,aG,aJ,aC a,aI,cZ,Azc s.en[i] (by omega),bI,cV,dO,dP,cW,bR,q,j]
  generalize (Ii s&&Asg s 200&&decide (s.en.length<=64))=R
  cases i with
  | zero=>
   simp only[Sm,J0]
   by_cases d:s.mn<=(s.en[0].size :Int)<;>by_cases e:(s.en[0].size :Int)<=s.mx<;>cases Jw s.en[0]<;>simp[d,e,gU.2,gV.1]
  | succ i=>
   have b:i<s.en.length:=by omega
   have g:IntKind.i64.wrap (((i+1:Nat):Int) - 1)=i:=by rw[wrap64 (by omega) (by omega)];omega
   have hp:(0:Int)<((i+1:Nat):Int):=by omega
   simp only[Sm,aC b,J0,fI,g,hp,Zd,Zt,aH,aG,aI,aA,Adr]
   by_cases d:s.mn<=(s.en[i+1].size :Int)<;>by_cases e:(s.en[i+1].size :Int)<=s.mx<;>cases Jw s.en[i+1]<;>cases r:blt s.en[i] s.en[i+1]<;>simp[d,e,gU.2,gV.1,aC b,Adr,r, -O.Ajj]
theorem U0 (d:Nat)(s:Sch)(hd:d<=12)(N:s.Ap<=1048576)(M: ∀p∈s.f,W F7 0 [p.s.enc,.int d]=some [.bool (Cl d p.s)]): ∀ (n i:Nat),i+n=s.f.length->
  W F13 1 [.int ((d+1:Nat):Int),.int i,s.enc]=some [.bool (fOk (Cl d) (Qk s.f i) (s.f.drop i))]
 | 0,i,h=>by
  have q: ¬ i<s.f.length:=by omega
  rw[Avg,aF (by omega)]
  simp only[dM,bZ,aD,aA,bA,Aj,q,Ze,aS,aB,Zf,fOk]
 | n+1,i,h=>by
  have e:i<s.f.length:=by omega
  have X:=s.Bc
  have Q:=Bd (i:=i) (by omega)
  have r:IntKind.i64.wrap (((d+1:Nat):Int) - 1)=(d:Int):=by rw[wrap64 (by omega) (by omega)];omega
  have Y:=fY (aK e)
  have c:=U0 d s hd N M n (i+1) (by omega)
  have t:Qk s.f (i+1)=some s.f[i].nm :=by simp[Qk,e]
  rw[t]at c
  have R:=M _ (aK e)
  -- the order
  have g: ∀ (K:IV->Option IV),((O.gt (.int i) (.int 0)).bind λu=>
    (cnd u (
      (O.sub .i64 (.int i) (.int 1)).bind λw=>
      (eU (.list (s.f.map cS)) w).bind λx=>
      (dH 0 x).bind λy=>
      (O.sLe (.str s.f[i].nm) y).bind λz=>
      some z) (some (.bool false))).bind K)=K (.bool (!J0 (Qk s.f i) s.f[i].nm)):=by
   intro K
   cases i with
   | zero=>simp[Qk,J0]
   | succ j=>
    have S:j<s.f.length:=by omega
    have A:IntKind.i64.wrap (((j+1:Nat):Int) - 1)=j:=by rw[wrap64 (by omega) (by omega)];omega
    have hp:(0:Int)<((j+1:Nat):Int):=by omega
    simp only[Qk,aC S,aI,J0,cW,hp,Zd,aA,aS,Zt,fI,A,cE,aH,aG,aJ,eL,Adr]
  have B:eU (.list (s.f.map cS)) (.int i)=some s.f[i].enc :=by
   simp only[cE,aH,Zt,aG,aJ,aC e,aI]
  rw[Avg,aE e]
  simp only[dM,bZ,aD,aA,bA,Aj,e,Zd,aS,Zt,B,eL,fOk,Anj s.f[i].nm (by omega),bI,cV]
  simp only[g]
  simp only[eL,SFld.Cc,gD,bI,cV,aS,fI,r,R,bR,Q,c,bZ,aD,cW,aW,aA]
  cases C5 s.f[i].nm with
  | false=>simp
  | true=>
   cases J0 (Qk s.f i) s.f[i].nm with
   | false=>simp
   | true=>
    cases C:Cl d s.f[i].s with
    | false=>simp
    | true=>
     by_cases hlen:s.f[i].df.length <=1
     ·have a: ¬ (1:Int)<s.f[i].df.length :=by omega
      have F:=Hg d _ C
      unfold Bdx
      by_cases q:s.f[i].df.length =1
      ·obtain⟨v,m⟩:=bV.1 q
       have T:=Sch.A7m (aK e) (show v∈s.f[i].df by rw[m];simp)
       have G:=Aqt v (by omega) s.f[i].s F (by omega) [] (by simp) (by simp;omega)
       simp only[bQ]at G
       have H:=Tf v (by omega)
       rw[m]
       by_cases o:v.k=0
       ·simp[o]
       ·cases b:v.valid with
        | false=>simp[o,H,b]
        | true=>
         by_cases I:(Jo v s.f[i].s []).length =0
         ·simp[o,H,b,G,aU.1 I]
         ·have J:0<(Jo v s.f[i].s []).length :=fZ I
          have L: ¬ Jo v s.f[i].s []= []:=λh=>I (by rw[h];rfl)
          simp[o,H,b,G,J,L]
      ·have U:s.f[i].df = []:=aU.1 (by omega)
       simp[U]
     ·have a:(1:Int)<s.f[i].df.length :=by omega
      simp[a,hlen]
theorem egL (mn mx:Int)(a b c:Nat):(if(if(if(if(if decide (mn<0)=true then true else decide (mx<mn))=true then true else decide ((64:Int)<mx))=true then true else decide ((0:Int)<(a:Int)))=true then true else decide ((0:Int)<(b:Int)))=true then true else !decide ((c:Int)=1))= !(decide (0<=mn)&&decide (mn<=mx)&&decide (mx<=64)&&decide (a=0)&&decide (b=0)&&decide (c=1)):=by
 rw[aT];simp;omega
theorem egS (mn mx:Int)(a b c:Nat)(k:Bool):(if(if(if(if(if(if(!decide (mn=0))=true then true else !decide (mx=0))=true then true else decide ((0:Int)<(a:Int)))=true then true else !k)=true then true else decide ((1:Int)<(b:Int)))=true then true else if decide ((b:Int)=1)=true then decide ((0:Int)<(c:Int)) else false)=true then true else decide ((64:Int)<(c:Int)))
  = !(decide (mn=0)&&decide (mx=0)&&decide (a=0)&&k&&decide (b<=1)&&(decide (b=0)||decide (c=0))&&decide (c<=64)):=by
 cases k
 ·simp
 ·rw[aT];simp;omega
theorem Uh: ∀ (d:Nat) (s:Sch),d<=12->s.Ap<=1048576->W F7 0 [s.enc,.int d]=some [.bool (Cl d s)]
 | 0,s,hd,o=>by rw[A8s];simp[Cl]
 | d+1,s,hd,o=>by
  have q: ¬ ((d+1:Nat):Int)=0:=by omega
  have r:IntKind.i64.wrap (((d+1:Nat):Int) - 1)=(d:Int):=by rw[wrap64 (by omega) (by omega)];omega
  have g: ∀t∈s.it,W F7 0 [t.enc,.int d]=some [.bool (Cl d t)]:=λt b=>Uh d t (by omega) (by have:=fP b;omega)
  have u: ∀p∈s.f,W F7 0 [p.s.enc,.int d]=some [.bool (Cl d p.s)]:=λp hp=>Uh d p.s (by omega) (by have:=fY hp;omega)
  rw[A8s]
  unfold Cl
  simp only[aW,q,Ze,aA,aS,aB,Zf,gJ,dO,dP,eC,Ah8,bI,eV,bZ,aD]
  by_cases k1:s.k=1
  ·simp only[k1,Zd,Zt,aA,aS,Ax,An]
   congr 3
   rw[aT];simp[and_assoc]
  ·by_cases k2:s.k=2
   ·simp only[k2,show ¬ (2:Int)=1 by omega,Zd,Ze,aB,Zf,Zt,aA,aS,Ax,An]
    congr 3
    rw[aT];simp[and_assoc]
   ·by_cases z:s.k=3
    ·have b:=Aap s o s.en.length 0 (by omega)
     simp only[aN,aP,Sm]at b
     simp only[z,show ¬ (3:Int)=1 by omega,show ¬ (3:Int)=2 by omega,Zd,Ze,aB,Zf,Zt,Bfg,b,bI]
     congr 3
     generalize Az6 s.mn s.mx none s.en=a
     cases a<;>cases Ii s<;>cases Asg s 200<;>simp
    ·by_cases A:s.k=4
     ·have w:W F11 0 [s.enc,.int ((d+1:Nat):Int)]=some [.bool (Asg s 64&&decide (s.en.length=0)&&decide (s.f.length=0)&&decide (s.it.length=1)&&Wh s&&s.it.all (Cl d))]:=by
       rw[A9c]
       simp only[dO,dP,eC,eG,dM,bZ,aD,aA,bA,cW,eI,aS,Ax,An]
       have eg:(if(if(if(if(if decide (s.mn<0)=true then true else decide (s.mx<s.mn))=true then true else decide ((64:Int)<s.mx))=true then true else decide ((0:Int)<(s.en.length:Int)))=true then true else decide ((0:Int)<(s.f.length:Int)))=true then true else !decide ((s.it.length:Int)=1))= !(Asg s 64&&decide (s.en.length=0)&&decide (s.f.length=0)&&decide (s.it.length=1)):=by
        exact egL s.mn s.mx s.en.length s.f.length s.it.length
       rw[eg]
       cases i:(Asg s 64&&decide (s.en.length=0)&&decide (s.f.length=0)&&decide (s.it.length=1)) with
       | false=>simp
       | true=>
        simp only[aL,decide_eq_true_eq]at i
        obtain⟨t,b⟩:=bV.1 i.2
        have j:t∈s.it:=by rw[b];simp
        have C:=fP j
        have x:W F11 1 [.int ((d+1:Nat):Int),s.enc]=some [.bool (Cl d t)]:=by
         rw[Bbw]
         simp only[eG,b,bN,bQ,aA,cE,cR,Zt,cD,bO,fI,r,g t j,bI]
        have y:=Ai3 t s.key (by omega)
        simp only[aV,aB,Zf,eP,aA,gX,aS,x,b,bN,bQ,cE,cR,Zt,cD,bO,y,fN,gJ,hQ,SFld.Cm,eI,cV,Ax,An,bU,cI,cL,bJ,Wh,Dx]
        by_cases c:s.key=Am
        ·simp[c]
        ·by_cases F:t.k=5<;>by_cases G:((t.fld s.key).getD Qu).s.k =3<;>cases(t.fld s.key).isSome<;>cases((t.fld s.key).getD Qu).rq<;>simp[c,F,G]
      simp only[A,show ¬ (4:Int)=1 by omega,show ¬ (4:Int)=2 by omega,show ¬ (4:Int)=3 by omega,Zd,Ze,aB,Zf,Zt,w,bI]
     ·by_cases B:s.k=5
      ·have e:=U0 d s (by omega) o u s.f.length 0 (by omega)
       simp only[aN,aP,Qk]at e
       have w:W F13 0 [s.enc,.int ((d+1:Nat):Int)]=some [.bool (decide (s.mn=0)&&decide (s.mx=0)&&decide (s.en.length=0)&&decide (s.key=Am)&&decide (s.it.length<=1)&&(decide (s.it.length=0)||decide (s.f.length=0))&&decide (s.f.length<=64)&&s.it.all (Cl d)&&fOk (Cl d) none s.f)]:=by
        rw[A91]
        simp only[dO,dP,eC,eP,eG,dM,bZ,aD,aA,gX,cW,aW,eI,aS,Ax,An,Dx]
        have eg:(if(if(if(if(if(if(!decide (s.mn=0))=true then true else !decide (s.mx=0))=true then true else decide ((0:Int)<(s.en.length:Int)))=true then true else !decide (s.key=Am))=true then true else decide ((1:Int)<(s.it.length:Int)))=true then true else if decide ((s.it.length:Int)=1)=true then decide ((0:Int)<(s.f.length:Int)) else false)=true then true else decide ((64:Int)<(s.f.length:Int)))
          = !(decide (s.mn=0)&&decide (s.mx=0)&&decide (s.en.length=0)&&decide (s.key=Am)&&decide (s.it.length<=1)&&(decide (s.it.length=0)||decide (s.f.length=0))&&decide (s.f.length<=64)):=by
         exact egS s.mn s.mx s.en.length s.it.length s.f.length _
        rw[eg]
        cases i:(decide (s.mn=0)&&decide (s.mx=0)&&decide (s.en.length=0)&&decide (s.key=Am)&&decide (s.it.length<=1)&&(decide (s.it.length=0)||decide (s.f.length=0))&&decide (s.f.length<=64)) with
        | false=>simp
        | true=>
         simp only[aL,eH,decide_eq_true_eq]at i
         by_cases H:s.it.length=1
         ·obtain⟨t,b⟩:=bV.1 H
          have I:s.f= []:=by
           rcases i.1.2 with h | h
           ·omega
           ·exact aU.1 h
          have J:=g t (by rw[b];simp)
          have m:IntKind.i64.wrap (d:Int)=(d:Int):=wrap64 (by omega) (by omega)
          simp[b,I,m,J,fOk]
         ·have K:s.it= []:=aU.1 (by omega)
          push_cast at e
          simp[K,e]
       simp only[B,show ¬ (5:Int)=1 by omega,show ¬ (5:Int)=2 by omega,show ¬ (5:Int)=3 by omega,show ¬ (5:Int)=4 by omega,Zd,Ze,aB,Zf,Zt,w,bI]
      ·simp only[k1,k2,z,A,B,Ze,aB,Zf]
theorem T8 (s:Sch)(a:s.Ap<=1048576):W F6 0 [s.enc]=some [.bool s.valid]:=by
 rw[Bed]
 have:W F7 0 [s.enc,.int 12]=some [.bool s.valid]:=Uh 12 s (by omega) a
 simp only[this,bI]
end Go.CT.Sch
namespace Go.CT.Sch
open Go.Proofs
theorem Al5 (nm:ByteArray):(A6e [(nm,Au)]).valid =C5 nm:=by
 have a:Zz [(nm,Au)]= [(nm,Au)]:=Ayo (cF _ _)
 unfold A6e
 rw[a]
 unfold fS
 have b:B9 11 Au=true:=by decide
 simp only[B9,Val.Bgs,Val.Bh7,iL,Val.To,Val.Ym,Gz,bU,cI,b,rising,Val.size,Cn,Bz,Au]
 simp
theorem A09 (nm:ByteArray)(t:nm.size<=1048576)(K:IV->Option (List IV)):(O.Rz [.str nm,(.int 0),(.int 0),(.str ⟨#[]⟩),(.list []),(.list [])]).bind (λo=>
  (O.N9 [o]).bind λq=>
  calls (W F72 0 [q]) 5 λb c d g h=>
  (O.Rz [b,c,d,g,h]).bind λi=>
  calls (W F57 0 [i]) 1 K)=K (.bool (C5 nm)):=by
 have e:IV.agg [.str nm,(.int 0),(.int 0),(.str ⟨#[]⟩),(.list []),(.list [])]=bG (nm,Au):=rfl
 have a:Cq [(nm,Au)]<=4294967200:=by
  rw[Ca,Co,iF]
  simp only[Au,iL,Val.To,Val.Ym,Em,Co,show Am.size=0 from rfl];omega
 have j:=Avn [(nm,Au)] a
 have r:(A6e [(nm,Au)]).Ap <=1099511627776:=by have:=Ayg [(nm,Au)];omega
 have m:=I2 _ r
 rw[Al5]at m
 rw[eN]at j
 simp only[bN,bQ]at j
 simp only[fB,fX,aA,e,j,gY,iG,m,bI]
theorem Aso (s:Sch)(m:Int):W F54 0 [s.enc,.int m]=some [.bool (Asg s m)]:=by
 rw[Ba0]
 simp only[dO,dP,eV,aA,aS,Ax,An]
 congr 3
 unfold Asg
 rw[aT];simp[and_assoc]
theorem Aie (s:Sch)(x:s.Ap<=1048576): ∀ (n i:Nat),i+n=s.en.length->
  W F55 1 [.list (s.en.map .str),.int s.en.length,.int i,s.enc]=some [.bool (Az6 s.mn s.mx (Sm s.en i) (s.en.drop i)&&decide (s.en.length<=64))]
 | 0,i,h=>by
  have y: ¬ i<s.en.length:=by omega
  rw[Aut,aF (by omega)]
  simp only[eC,bZ,aD,aA,bA,Aj,y,Ze,aS,aB,Zf,eV,Az6,bJ]
  congr 3
  rw[aT];simp;omega
 | n+1,i,h=>by
  have a:i<s.en.length:=by omega
  have F:=s.Ko
  have z:=Bd (i:=i) (by omega)
  have u:=Aie s x n (i+1) (by omega)
  have G:=Sch.Au1 (aK a)
  have c:Sm s.en (i+1)=some s.en[i]:=by simp[Sm,a]
  rw[c]at u
  have e:IV.agg [.int 3,.int 0,.str s.en[i],.list [],.list []]=bT ⟨3,0,s.en[i],[],[]⟩:=rfl
  have w:=I2 ⟨3,0,s.en[i],[],[]⟩ (by rw[iF];simp[Em,Co];omega)
  rw[Ah3]at w
  have d:eU (.list (s.en.map .str)) (.int i)=some (.str s.en[i]):=by
   simp only[cE,aH,Zt,aG,aJ,aC a,aI]
  have b: ∀ (K:IV->Option IV),((O.gt (.int i) (.int 0)).bind λg=>
    (cnd g (
     (dH 3 s.enc).bind λm=>
     (O.sub .i64 (.int i) (.int 1)).bind λo=>
     (eU m o).bind λq=>
     (O.sGe q (.str s.en[i])).bind λr=>
     some r) (some (.bool false))).bind K)=K (.bool (!J0 (Sm s.en i) s.en[i])):=by
   intro K
   cases i with
   | zero=>simp[Sm,J0]
   | succ j=>
    have A:j<s.en.length:=by omega
    have t:IntKind.i64.wrap (((j+1:Nat):Int) - 1)=j:=by rw[wrap64 (by omega) (by omega)];omega
    have hp:(0:Int)<((j+1:Nat):Int):=by omega
    simp only[eC,Sm,aC A,aI,J0,cW,hp,Zd,aA,aS,Zt,fI,t,cE,aH,aG,aJ,Tp]
  rw[Aut,aE a]
  simp only[Az6,aA,bA,Aj,a,Zd,aS,Zt,d]
  simp only[b]
  simp only[cZ,dO,dP,aA,bA,cW,aS,Ajn,gY,fB,e,w,bI,cV,bR,z,u]
  by_cases B:s.mn<=(s.en[i].size :Int)<;>by_cases C:(s.en[i].size :Int)<=s.mx<;>cases Jw s.en[i]<;>cases J0 (Sm s.en i) s.en[i]<;>simp[B,C,gU.2,gV.1]
theorem Bbe (s:Sch)(a:s.Ap<=1048576):W F55 0 [s.enc]=some [.bool (Az6 s.mn s.mx none s.en&&decide (s.en.length<=64))]:=by
 have h:=Aie s a s.en.length 0 (by omega)
 simp only[aN,aP,Sm]at h
 rw[Bc9]
 simp only[eC,bZ,aD,aA]
 exact h
theorem A58 (s t:Sch)(q:s.Ap<=1048576)(m:s.it= [t])(a:SB t):W F63 0 [s.enc]=some [.bool (Wh s)]:=by
 have o:=fP (show t∈s.it by rw[m];simp)
 have b:=Adi t s.key (by omega)
 rw[Bcm]
 unfold Wh
 simp only[eG,m,bN,bQ,cE,cR,Zt,cD,bO,aA,eP,b,fN,gH,aS,hQ,SFld.Cm,aW,Ax,An,Dx]
 congr 3
 by_cases c:s.key=Am
 ·simp[c]
 ·by_cases d:t.k=5
  ·by_cases g:t.it.length=0
   ·cases(t.fld s.key).isSome<;>cases h:((t.fld s.key).getD Qu).rq<;>simp[c,d,g,h]
   ·have i:t.f= []:=a.nof λe=>g (by rw[e];rfl)
    have j:t.fld s.key=none:=by unfold Sch.fld;rw[i];rfl
    simp[c,d,g,j]
  ·simp[c,d]
theorem Yk (d:Nat)(s:Sch)(hd:d<=12)(t:s.Ap<=1048576)(i:Nat)(e:i<s.f.length)(a:SB s.f[i].s): ∀ (n j:Nat),j+n=s.f[i].df.length ->
  W F71 2 [.int d,.list (s.f.map cS),.int s.f.length,.int i,.list (s.f[i].df.map bT),.int s.f[i].df.length,.int j,s.enc,s.f[i].enc]
   =if((s.f[i].df.drop j).all λv=> !decide (v.k=0)&&v.valid&&decide ((Jo v s.f[i].s []).length =0))=true then W F71 1 [.int d,.list (s.f.map cS),.int s.f.length,.int ((i+1:Nat):Int),s.enc]else some [.bool false]
 | 0,j,h=>by
  have u: ¬ j<s.f[i].df.length :=by omega
  have w:=s.Bc
  have g:=Bd (i:=i) (by omega)
  rw[Av7,aF (by omega)]
  simp only[bA,Aj,u,Ze,aA,aS,aB,Zf,bR,g,cI,Zt]
 | n+1,j,h=>by
  have b:j<s.f[i].df.length :=by omega
  have w:=fY (aK e)
  have B:=Gt (fT (f:=bT) (aK b))
  have x:=Sch.A7m (aK e) (aK b)
  have hlen:s.f[i].df.length <=Du s.f[i].df :=by have:=D3 (s.f[i].df.map bT);rw[aD]at this;exact this
  have g:=Bd (i:=j) (by omega)
  have y:=Yk d s hd t i e a n (j+1) (by omega)
  have z:=I2 s.f[i].df[j] (by omega)
  have A:=Ahh s.f[i].df[j] (by omega) s.f[i].s a (by omega)
  rw[Av7,aE b,bU]
  simp only[bA,Aj,b,Zd,aA,aS,Zt,cE,aH,aG,aJ,aC b,aI,dU,aW,z,bI,cV,gD,A,bZ,cW,bR,g,y]
  by_cases c:s.f[i].df[j].k =0
  ·simp[c]
  ·cases r:s.f[i].df[j].valid with
   | false=>simp[c]
   | true=>
    by_cases m:(Jo s.f[i].df[j] s.f[i].s []).length =0
    ·simp[c,aU.1 m]
    ·have o:0<(Jo s.f[i].df[j] s.f[i].s []).length :=fZ m
     have q: ¬ Jo s.f[i].df[j] s.f[i].s []= []:=λh=>m (by rw[h];rfl)
     simp[c,o,q]
theorem Zj (d:Nat)(s:Sch)(hd:d<=12)(z:s.Ap<=1048576)(A: ∀p∈s.f,W F53 0 [p.s.enc,.int d]=some [.bool (Cl d p.s)]): ∀ (n i:Nat),i+n=s.f.length->
  W F71 1 [.int d,.list (s.f.map cS),.int s.f.length,.int i,s.enc]=some [.bool (fOk (Cl d) (Qk s.f i) (s.f.drop i))]
 | 0,i,h=>by
  have C: ¬ i<s.f.length:=by omega
  rw[Av2,aF (by omega)]
  simp only[bA,Aj,C,Ze,aA,aS,aB,Zf,fOk]
 | n+1,i,h=>by
  have c:i<s.f.length:=by omega
  have H:=s.Bc
  have I:=fY (aK c)
  have b:=Zj d s hd z A n (i+1) (by omega)
  have g:Qk s.f (i+1)=some s.f[i].nm :=by simp[Qk,c]
  rw[g]at b
  have F:=A _ (aK c)
  have m:eU (.list (s.f.map cS)) (.int i)=some s.f[i].enc :=by
   simp only[cE,aH,Zt,aG,aJ,aC c,aI]
  have e: ∀ (K:IV->Option IV),((O.gt (.int i) (.int 0)).bind λo=>
    (cnd o (
      (dH 6 s.enc).bind λq=>
      (O.sub .i64 (.int i) (.int 1)).bind λr=>
      (eU q r).bind λt=>
      (dH 0 t).bind λu=>
      (O.sGe u (.str s.f[i].nm)).bind λw=>
      some w) (some (.bool false))).bind K)=K (.bool (!J0 (Qk s.f i) s.f[i].nm)):=by
   intro K
   cases i with
   | zero=>simp[Qk,J0]
   | succ j=>
    have G:j<s.f.length:=by omega
    have x:IntKind.i64.wrap (((j+1:Nat):Int) - 1)=j:=by rw[wrap64 (by omega) (by omega)];omega
    have hp:(0:Int)<((j+1:Nat):Int):=by omega
    simp only[dM,Qk,aC G,aI,J0,cW,hp,Zd,aA,aS,Zt,fI,x,cE,aH,aG,aJ,eL,Tp]
  rw[Av2,aE c]
  simp only[bA,Aj,c,Zd,aA,aS,Zt,m,eL,fOk]
  rw[A09 s.f[i].nm (by omega)]
  simp only[cV,aA]
  simp only[e]
  simp only[SFld.Cc,gD,bI,cV,aS,F,bZ,aD,cW,aA]
  cases C5 s.f[i].nm with
  | false=>simp
  | true=>
   cases J0 (Qk s.f i) s.f[i].nm with
   | false=>simp
   | true=>
    cases y:Cl d s.f[i].s with
    | false=>simp
    | true=>
     by_cases hlen:s.f[i].df.length <=1
     ·have a: ¬ (1:Int)<s.f[i].df.length :=by omega
      have B:=Yk d s hd z i c (Hg d _ y) s.f[i].df.length 0 (by omega)
      simp only[aN,aP,b]at B
      simp only[aV,aB,Zf,a,Ze,aA,aS,B,Bdx,hlen,Zd,bJ]
      cases(s.f[i].df.all λv=> !decide (v.k=0)&&v.valid&&decide ((Jo v s.f[i].s []).length =0))<;>simp
     ·have a:(1:Int)<s.f[i].df.length :=by omega
      simp[a,hlen]
theorem A38 (d:Nat)(s:Sch)(hd:d<=12)(o:s.Ap<=1048576)(e:s.it.length<=1)(g: ∀t∈s.it,W F53 0 [t.enc,.int d]=some [.bool (Cl d t)]):
  W F68 0 [.list (s.it.map iB),.int ((d+1:Nat):Int)]=some [.bool (!s.it.all (Cl d))]:=by
 have c:IntKind.i64.wrap (((d+1:Nat):Int) - 1)=(d:Int):=by rw[wrap64 (by omega) (by omega)];omega
 rw[Bb3,Bcf]
 cases a:s.it with
 | nil=>
  simp only[bQ,bZ,bB,aA,aN]
  rw[Ak5]
  simp
 | cons t r=>
  have h:r= []:=by rw[a]at e;simpa using e
  subst h
  have i:=g t (by rw[a];simp)
  have j:W F70 0 [t.enc,.int ((d+1:Nat):Int)]=some [.bool (!Cl d t)]:=by
   rw[Bdk]
   simp only[fI,c,aA,i,bI,cV]
  have m:IntKind.i64.wrap (0+1)=1:=by decide
  simp only[bN,bQ,bZ,aZ,bB,hZ,aN,aA]
  rw[Ak5]
  simp only[bA,show(0:Int)<1 by omega,Zd,aA,aS,Zt,cE,cR,cD,bO,j,bI,bR,m]
  cases b:Cl d t with
  | true=>
   simp only[aV,aB,Zf]
   rw[Ak5]
   simp[b]
  | false=>simp[b]
theorem egP (k:Int)(a b c:Nat)(e:Bool):(if(if(if(if(!decide (k=3))=true then decide ((0:Int)<(a:Int)) else false)=true then true else if(!decide (k=4))=true then !e else false)=true then true else if(!decide (k=5))=true then decide ((0:Int)<(b:Int)) else false)=true then true else if(if(!decide (k=5))=true then !decide (k=4) else false)=true then decide ((0:Int)<(c:Int)) else false)
  = !(decide (k=3\/a=0)&&(decide (k=4)||e)&&decide (k=5\/b=0)&&decide (k=5\/k=4\/c=0)):=by
 cases e
 ·by_cases d:k=4
  ·rw[aT];simp[d];omega
  ·simp[d]
 ·rw[aT];simp;omega
theorem egM (mn mx:Int)(b c:Nat):(if(if(if(if(!decide (mn=0))=true then true else !decide (mx=0))=true then true else decide ((1:Int)<(b:Int)))=true then true else if decide ((b:Int)=1)=true then decide ((0:Int)<(c:Int)) else false)=true then true else decide ((64:Int)<(c:Int)))
  = !(decide (mn=0)&&decide (mx=0)&&decide (b<=1)&&(decide (b=0)||decide (c=0))&&decide (c<=64)):=by
 rw[aT];simp;omega
theorem Yo: ∀ (d:Nat) (s:Sch),d<=12->s.Ap<=1048576->W F53 0 [s.enc,.int d]=some [.bool (Cl d s)]
 | 0,s,hd,r=>by rw[Awd];simp[Cl]
 | d+1,s,hd,r=>by
  have B: ¬ ((d+1:Nat):Int)=0:=by omega
  have u:IntKind.i64.wrap (((d+1:Nat):Int) - 1)=(d:Int):=by rw[wrap64 (by omega) (by omega)];omega
  have w: ∀t∈s.it,W F53 0 [t.enc,.int d]=some [.bool (Cl d t)]:=λt x=>Yo d t (by omega) (by have:=fP x;omega)
  have C: ∀p∈s.f,W F53 0 [p.s.enc,.int d]=some [.bool (Cl d p.s)]:=λp hp=>Yo d p.s (by omega) (by have:=fY hp;omega)
  have y:=Zj d s (by omega) r C s.f.length 0 (by omega)
  simp only[aN,aP,Qk]at y
  have z:W F71 0 [s.enc,.int d]=some [.bool (fOk (Cl d) none s.f)]:=by
   rw[Bdj]
   simp only[dM,bZ,aD,aA]
   exact y
  rw[Awd]
  unfold Cl
  simp only[aW,eI,B,Ze,aA,aS,aB,Zf,gJ,eC,eP,eG,dM,bZ,aD,cW,gX,Ax,An,Dx,egP]
  cases e:(decide (s.k=3\/s.en.length=0)&&(decide (s.k=4)||decide (s.key=Am))&&decide (s.k=5\/s.f.length=0)&&decide (s.k=5\/s.k=4\/s.it.length=0)) with
  | false=>
   simp only[aY,Zt]
   by_cases k1:s.k=1
   ·simp only[k1,Zt,Ii]
    simp[k1]at e
    congr 3
    rw[eq_comm,dB]
    intro h
    simp at h
    simp[h]at e
   ·by_cases k2:s.k=2
    ·simp only[k2,show ¬ (2:Int)=1 by omega,Zf,Zt,Ii]
     simp[k2]at e
     congr 3
     rw[eq_comm,dB]
     intro h
     simp at h
     simp[h]at e
    ·by_cases i:s.k=3
     ·simp only[i,show ¬ (3:Int)=1 by omega,show ¬ (3:Int)=2 by omega,Zf,Zt,Ii]
      simp[i]at e
      congr 3
      rw[eq_comm,dB]
      intro h
      simp at h
      simp[h]at e
     ·by_cases j:s.k=4
      ·simp only[j,show ¬ (4:Int)=1 by omega,show ¬ (4:Int)=2 by omega,show ¬ (4:Int)=3 by omega,Zf,Zt]
       simp[j]at e
       congr 3
       rw[eq_comm,dB]
       intro h
       simp at h
       simp[h]at e
      ·by_cases q:s.k=5
       ·simp only[q,show ¬ (5:Int)=1 by omega,show ¬ (5:Int)=2 by omega,show ¬ (5:Int)=3 by omega,show ¬ (5:Int)=4 by omega,Zf,Zt]
        simp[q]at e
        congr 3
        rw[eq_comm,dB]
        intro h
        simp at h
        simp[h]at e
       ·simp[k1,k2,i,j,q]
  | true=>
   simp only[aL,eH,decide_eq_true_eq]at e
   obtain⟨⟨⟨g,b⟩,c⟩,a⟩:=e
   simp only[aV,aB,Zf,dO,dP,aA,aW,eV,eI,aS,Aso,Bbe s r,bI,Ax,An]
   by_cases k1:s.k=1
   ·simp only[k1,Zd,Zt,Ii]
    rcases g with g | g
    ·omega
    ·rcases b with b | b
     ·omega
     ·rcases c with c | c
      ·omega
      ·rcases a with a | a | a
       ·omega
       ·omega
       ·simp only[g,b,c,a,Zd,bJ,cL]
        congr 3
        rw[aT];simp
   ·by_cases k2:s.k=2
    ·simp only[k2,show ¬ (2:Int)=1 by omega,Ze,aB,Zf,Zd,Zt,Ii]
     rcases g with g | g
     ·omega
     ·rcases b with b | b
      ·omega
      ·rcases c with c | c
       ·omega
       ·rcases a with a | a | a
        ·omega
        ·omega
        ·simp only[g,b,c,a,Zd,bJ,cL]
         congr 3
         rw[aT];simp[and_assoc]
    ·by_cases i:s.k=3
     ·simp only[i,show ¬ (3:Int)=1 by omega,show ¬ (3:Int)=2 by omega,Ze,aB,Zf,Zd,Zt,Ii]
      rcases b with b | b
      ·omega
      ·rcases c with c | c
       ·omega
       ·rcases a with a | a | a
        ·omega
        ·omega
        ·simp only[b,c,a,Zd,bJ,cL]
         cases Asg s 200<;>simp
     ·by_cases j:s.k=4
      ·have m:s.en.length=0:=by rcases g with h | h;exact absurd h i;exact h
       have F:s.f.length=0:=by rcases c with h | h;exact absurd h (by omega);exact h
       simp only[j,show ¬ (4:Int)=1 by omega,show ¬ (4:Int)=2 by omega,show ¬ (4:Int)=3 by omega,Ze,aB,Zf,Zd,Zt,m,F,cL]
       cases Asg s 64 with
       | false=>simp
       | true=>
        by_cases J:s.it.length=1
        ·obtain⟨t,x⟩:=bV.1 J
         have G:=w t (by rw[x];simp)
         have o:(s.it.length:Int)=1:=by omega
         simp only[Zt,o,Zd,x,bN,bQ,cE,cR,cD,bO,aA,fI,u,G,bI,aS,bU,cI,cL,bJ,aZ,bB]
         cases H:Cl d t with
         | false=>simp
         | true=>
          have K:=A58 s t r x (Hg d t H)
          simp[K]
        ·have o: ¬ (s.it.length:Int)=1:=by omega
         simp[J,o]
      ·by_cases q:s.k=5
       ·have m:s.en.length=0:=by rcases g with h | h;exact absurd h i;exact h
        have I:s.key=Am:=by rcases b with h | h;exact absurd h j;exact h
        simp only[q,show ¬ (5:Int)=1 by omega,show ¬ (5:Int)=2 by omega,show ¬ (5:Int)=3 by omega,show ¬ (5:Int)=4 by omega,Ze,aB,Zf,Zd,Zt,m,I,cL]
        have eg:=egM s.mn s.mx s.it.length s.f.length
        rw[eg]
        cases A:(decide (s.mn=0)&&decide (s.mx=0)&&decide (s.it.length<=1)&&(decide (s.it.length=0)||decide (s.f.length=0))&&decide (s.f.length<=64)) with
        | false=>simp
        | true=>
         simp only[aL,eH,decide_eq_true_eq]at A
         have G:=A38 d s (by omega) r A.1.1.2 w
         simp only[aV,aB,Zf,G,bI,cV,hJ,aA,aS,fI,u,z,Ax,An,bJ]
         cases s.it.all (Cl d)<;>simp
       ·simp only[k1,k2,i,j,q,Ze,aB,Zf]
theorem Pq (s:Sch)(a:s.Ap<=1048576):W F52 0 [s.enc]=some [.bool s.valid]:=by
 rw[Bdf]
 have:W F53 0 [s.enc,.int 12]=some [.bool s.valid]:=Yo 12 s (by omega) a
 simp only[this,bI]
end Go.CT.Sch
namespace Go.CT.Sch
open Go.Proofs
theorem Cw (d:Nat)(v:Val):B9 (d+1) v=true↔Gz v=true/\(v.l.length<=64/\v.f.length<=64/\(v.k≠4->v.l= [])/\(v.k≠5->v.f= []))/\(∀x∈v.l,B9 d x=true)/\(∀p∈v.f,C5 p.1=true/\B9 d p.2=true)/\rising v.f=true:=by
 rw[B9]
 simp only[aL,bM,decide_eq_true_eq]
 constructor
 ·rintro⟨⟨⟨⟨a,b⟩,c⟩,d⟩,e⟩;exact⟨a,b,c,d,e⟩
 ·rintro⟨a,b,c,d,e⟩;exact⟨⟨⟨⟨a,b⟩,c⟩,d⟩,e⟩
theorem N2: ∀ (d:Nat) (v:Val),B9 d v=true->B9 (d+1) v=true
 | 0,v,h=>by simp[B9]at h
 | d+1,v,h=>by
  rw[Cw]at h ⊢
  exact⟨h.1,h.2.1,λx a=>N2 d x (h.2.2.1 x a),λp hp=>⟨(h.2.2.2.1 p hp).1,N2 d p.2 (h.2.2.2.1 p hp).2⟩,h.2.2.2.2⟩
theorem Gj (v:Val):v.valid=true↔B9 12 v=true/\v.size<=600:=by
 unfold fS;simp only[aL,decide_eq_true_eq]
theorem Eu {v x:Val}(h:v.valid=true)(a:x∈v.l):x.valid=true:=by
 rw[Gj]at h ⊢
 have b:=(Cw 11 v).1 h.1
 have:=Val.Vl a
 exact⟨N2 11 x (b.2.2.1 x a),by omega⟩
theorem Gl {v:Val}{p:ByteArray × Val}(h:v.valid=true)(hp:p∈v.f):p.2.valid=true/\C5 p.1=true:=by
 rw[Gj]at h ⊢
 have a:=(Cw 11 v).1 h.1
 have:=Val.Vi hp
 exact⟨⟨N2 11 p.2 (a.2.2.2.1 p hp).2,by omega⟩,(a.2.2.2.1 p hp).1⟩
theorem Nc: ∀l:List (ByteArray × Val),rising l=true->Ck l
 | [],_=>dY
 | [_],_=>cF _ _
 | p::q::r,h=>by
  simp only[rising,aL]at h
  have b:=Nc (q::r) h.2
  refine bC.2 ⟨λy a=>?_,b⟩
  rcases bH.1 a with rfl | a
  ·exact h.1
  ·exact G4 h.1 ((bC.1 b).1 y a)
theorem Gp {v:Val}(h:v.valid=true):Ck v.f:=by
 rw[Gj]at h
 exact Nc _ ((Cw 11 v).1 h.1).2.2.2.2
theorem Ps {v:Val}(h:v.valid=true)(a:v.k≠5):v.f= []:=by
 rw[Gj]at h
 exact((Cw 11 v).1 h.1).2.1.2.2.2 a
theorem Oo {v:Val}(h:v.valid=true)(a:v.k≠4):v.l= []:=by
 rw[Gj]at h
 exact((Cw 11 v).1 h.1).2.1.2.2.1 a
theorem Ain {v:Val}(h:v.valid=true)(a:v.k=3):Jw v.s=true:=by
 rw[Gj]at h
 have:=((Cw 11 v).1 h.1).1
 unfold Gz at this
 rw[if_neg (by omega),if_neg (by omega),if_pos a]at this
 simp only[aL]at this
 exact this.2
theorem M8 {l:List (ByteArray × Val)}(h:Ck l){p:ByteArray × Val}(hp:p∈l):l.find? (λq=>decide (q.1=p.1))=some p:=by
 induction l with
 | nil=>simp at hp
 | cons a l c=>
  have b:=bC.1 h
  rw[bW]
  rcases bH.1 hp with rfl | hp
  ·simp
  ·have: ¬ a.1=p.1:=I1 (b.1 p hp)
   simp only[this,Ze]
   exact c b.2 hp
theorem get_of_mem {v:Val}(h:v.valid=true){p:ByteArray × Val}(hp:p∈v.f):v.get p.1=some p.2:=by
 have b:v.k=5:=by
  rcases Decidable.em (v.k=5) with a | a
  ·exact a
  ·rw[Ps h a]at hp;simp at hp
 unfold gC
 rw[if_pos b,M8 (Gp h) hp];rfl
theorem D6 {v x:Val}{nm:ByteArray}(h:v.get nm=some x):(nm,x)∈v.f/\v.k=5:=by
 unfold gC at h
 split at h
 ·rename_i a
  rw[fE]at h
  obtain⟨p,hp,rfl⟩:=h
  have b:=cP hp
  have c:p.1=nm:=by simpa using gP hp
  subst c;exact⟨b,a⟩
 ·cases h
theorem Ay4 {v x:Val}{nm:ByteArray}(h:v.valid=true)(a:v.get nm=some x):x.valid=true:=(Gl h (D6 a).1).1
theorem Aoi {g a:Sch->Bool} : ∀ {l:List SFld} {o:Option ByteArray},(∀x∈l,g x.s=true->a x.s=true)->fOk g o l=true->fOk a o l=true
 | [],_,_,_=>rfl
 | y::r,o,b,h=>by
  simp only[fOk,aL]at h ⊢
  exact⟨⟨⟨⟨h.1.1.1.1,b y (by simp) h.1.1.1.2⟩,h.1.1.2⟩,h.1.2⟩,Aoi (λx c=>b x (by simp[c])) h.2⟩
theorem Kz: ∀ (d:Nat) (s:Sch),Cl d s=true->Cl (d+1) s=true
 | 0,s,h=>by simp[Cl]at h
 | d+1,s,h=>by
  rw[Cl]at h ⊢
  split
  ·rename_i k1;rw[if_pos k1]at h;exact h
  ·rename_i k1;rw[if_neg k1]at h
   split
   ·rename_i k2;rw[if_pos k2]at h;exact h
   ·rename_i k2;rw[if_neg k2]at h
    split
    ·rename_i b;rw[if_pos b]at h;exact h
    ·rename_i b;rw[if_neg b]at h
     split
     ·rename_i c;rw[if_pos c]at h
      simp only[aL,bM]at h ⊢
      exact⟨h.1,λx a=>Kz d x (h.2 x a)⟩
     ·rename_i c;rw[if_neg c]at h
      split
      ·rename_i e;rw[if_pos e]at h
       simp only[aL,bM]at h ⊢
       exact⟨⟨h.1.1,λx a=>Kz d x (h.1.2 x a)⟩,Aoi (λx _ a=>Kz d x.s a) h.2⟩
      ·rename_i e;rw[if_neg e]at h;cases h
theorem Zp {d:Nat}{s t:Sch}(h:Cl (d+1) s=true)(a:t∈s.it):Cl d t=true:=by
 have noit:Ii s=true->False:=λhp=>by
  simp only[Ii,aL,decide_eq_true_eq]at hp
  rw[aU.1 hp.1.2]at a;simp at a
 rw[Cl]at h
 split at h
 ·simp only[aL]at h;exact(noit h.1.1.1).elim
 ·split at h
  ·simp only[aL]at h;exact(noit h.1.1.1.1).elim
  ·split at h
   ·simp only[aL]at h;exact(noit h.1.1.1).elim
   ·split at h
    ·simp only[aL,bM]at h;exact h.2 t a
    ·split at h
     ·simp only[aL,bM]at h;exact h.1.2 t a
     ·cases h
theorem Vw {d:Nat}{s:Sch}{p:SFld}(h:Cl (d+1) s=true)(hp:p∈s.f):s.k=5/\C5 p.nm=true/\Cl d p.s=true/\p.df.length<=1/\Bdx p=true:=by
 have nof:s.f.length=0->False:=λa=>by
  rw[aU.1 a]at hp;simp at hp
 have nop:Ii s=true->False:=λa=>by
  simp only[Ii,aL,decide_eq_true_eq]at a
  exact nof a.2
 rw[Cl]at h
 split at h
 ·simp only[aL]at h;exact(nop h.1.1.1).elim
 ·split at h
  ·simp only[aL]at h;exact(nop h.1.1.1.1).elim
  ·split at h
   ·simp only[aL]at h;exact(nop h.1.1.1).elim
   ·split at h
    ·simp only[aL,decide_eq_true_eq]at h;exact(nof h.1.1.1.2).elim
    ·split at h
     ·rename_i b
      simp only[aL]at h
      exact⟨b,Alg h.2 p hp⟩
     ·cases h
theorem Ari {d:Nat}{s:Sch}(h:Cl d s=true)(a:s.k=4):Wh s=true/\s.it.length=1:=by
 cases d with
 | zero=>simp[Cl]at h
 | succ d=>
  rw[Cl,if_neg (by omega),if_neg (by omega),if_neg (by omega),if_pos a]at h
  simp only[aL,decide_eq_true_eq]at h
  exact⟨h.1.2,h.1.1.2⟩
theorem Sch.V3 {s t:Sch}(h:s.valid=true)(a:t∈s.it):t.valid=true:=Kz 11 t (Zp h a)
theorem Sch.Gl {s:Sch}{p:SFld}(h:s.valid=true)(hp:p∈s.f):p.s.valid=true:=Kz 11 p.s (Vw h hp).2.2.1
theorem Sch.Hp {s:Sch}(h:s.valid=true):SB s:=Hg 12 s h
theorem Sch.Xo {s t:Sch}{nm:ByteArray}(h:s.valid=true)(a:Eb s nm=some t):t.valid=true:=by
 rcases Mx a with b | ⟨p,hp,_,rfl⟩
 ·exact Sch.V3 h b
 ·exact Sch.Gl h hp
theorem Aac {d:Nat}{s:Sch}(h:Cl (d+1) s=true)(o:s.k=4)(c:s.key≠Am): ∃t,s.it= [t]/\t.k=5/\ ∃p,t.fld s.key=some p/\p.rq=true/\p.s.k=3/\C5 s.key=true:=by
 obtain⟨b,q⟩:=Ari h o
 obtain⟨t,e⟩:=bV.1 q
 unfold Wh at b
 rw[e]at b
 have a:decide (s.key=Am)=false:=by simpa using c
 simp only[a,eD,aL,decide_eq_true_eq]at b
 obtain⟨⟨⟨r,u⟩,g⟩,i⟩:=b
 obtain⟨p,hp⟩:=dJ.1 u
 rw[hp,cB]at g i
 have j:=Zp h (show t∈s.it by rw[e];simp)
 have m:=Acn hp
 refine⟨t,e,r,p,hp,g,i,?_⟩
 cases d with
 | zero=>simp[Cl]at j
 | succ d=>have:=(Vw j m.1).2.1;rw[m.2]at this;exact this
end Go.CT.Sch
namespace Go.CT.Sch
open Go.Proofs
theorem A7r (s:Sch)(n:Int)(p q:List Stp):(Z1 p s n).length =(Z1 q s n).length :=by unfold Z1;split<;>rfl
theorem Be9 (key:ByteArray)(prev:List Val)(v:Val)(p q:List Stp):(Atq key prev v p).length =(Atq key prev v q).length :=by unfold Atq;split<;>rfl
theorem A67 (v:Val)(p q:List Stp): ∀l:List SFld,(l.flatMap (Ke v p)).length =(l.flatMap (Ke v q)).length
 | []=>rfl
 | d::l=>by
  have a:(Ke v p d).length =(Ke v q d).length :=by unfold Ke;split<;>rfl
  simp only[cC,aO,a,A67 v p q l]
theorem Be2: ∀ (v:Val) (s:Sch) (p q:List Stp),(Jo v s p).length =(Jo v s q).length :=by
 refine eJ λv a b s p q=>?_
 have e: ∀ (l:List Val),(∀x∈l,∀s p q,(Jo x s p).length =(Jo x s q).length)-> ∀key t prev,(Ly l key t p prev).length =(Ly l key t q prev).length :=by
  intro l
  induction l with
  | nil=>intro _ key t prev;rw[Mn,Mn]
  | cons x l c=>
   intro h key t prev
   rw[Il,Il]
   simp only[aO]
   rw[h x (by simp) t (p++ [Ht key x prev.length]) (q++ [Ht key x prev.length]),Be9 key prev x (p++ [Ht key x prev.length]) (q++ [Ht key x prev.length]),c (λy d=>h y (by simp[d])) key t (prev++ [x])]
 have g: ∀ (l:List (ByteArray × Val)),(∀x∈l,∀s p q,(Jo x.2 s p).length =(Jo x.2 s q).length)->(Le l s p).length =(Le l s q).length :=by
  intro l
  induction l with
  | nil=>intro _;rw[Jy,Jy]
  | cons x l c=>
   intro h
   have i:(Ahl s p x).length =(Ahl s q x).length :=by
    unfold Ahl
    split
    ·rfl
    ·split
     ·rfl
     ·exact h x (by simp) _ _ _
   rw[Jk,Jk,aO,aO,i,c λy d=>h y (by simp[d])]
 rw[Iv v s p,Iv v s q]
 split
 ·split
  ·exact A7r s _ p q
  ·split
   ·split
    ·rfl
    ·split<;>rfl
   ·split
    ·rw[aO,aO,A7r s _ p q,e v.l a]
    ·split
     ·rw[aO,aO,g v.f b,A67 v p q]
     ·rfl
 ·rfl
theorem Uq {v:Val}{s:Sch}{p:List Stp}(h:Jo v s p= [])(q:List Stp):Jo v s q= []:=by
 have:=Be2 v s p q
 rw[h]at this
 exact aU.1 this.symm
theorem Xj {v:Val}{s:Sch}{p:List Stp}(h:Jo v s p= []):v.k=s.k:=by
 rw[Iv]at h
 split at h
 ·assumption
 ·cases h
theorem A4y {v:Val}{s:Sch}{p:List Stp}(h:Jo v s p= [])(b:v.k=5):(∀x∈v.f,∀q,Ahl s q x= [])/\ ∀d∈s.f,d.rq=true->Lh v d.nm=true:=by
 have a:=Xj h
 have h':=λq=>Uq h q
 constructor
 ·intro x c q
  have h:=h' q
  rw[Iv,if_pos a,if_neg (by omega),if_neg (by omega),if_neg (by omega),if_pos b,cJ,Tu,eZ]at h
  exact h.1 x c
 ·intro d hd e
  rw[Iv,if_pos a,if_neg (by omega),if_neg (by omega),if_neg (by omega),if_pos b,cJ,eZ]at h
  have:=h.2 d hd
  unfold Ke at this
  rw[e]at this
  cases g:Lh v d.nm with
  | true=>rfl
  | false=>rw[g]at this;simp at this
theorem A5q {s t:Sch}{p:List Stp}{x:ByteArray × Val}(h:Ahl s p x= [])(a:x.2.k≠0)(b:Eb s x.1=some t):Jo x.2 t (p++ [Ch x.1])= []:=by
 unfold Ahl at h
 rw[b]at h
 simp only[a,Zf]at h
 exact h
theorem Ar0 {s:Sch}{p:List Stp}{x:ByteArray × Val}(h:Ahl s p x= []): ∃t,Eb s x.1=some t:=by
 unfold Ahl at h
 split at h
 ·cases h
 ·exact⟨_,by assumption⟩
theorem Af9: ∀ {l:List Val} {key:ByteArray} {t:Sch} {p:List Stp} {prev:List Val},Ly l key t p prev= []-> ∀x∈l,Jo x t p= []
 | [],_,_,_,_,_,x,a=>by simp at a
 | v::l,key,t,p,prev,h,x,a=>by
  rw[Il,cJ,cJ]at h
  rcases bH.1 a with rfl | a
  ·exact Uq h.1.1 p
  ·exact Af9 h.2 x a
theorem Azk {v:Val}{s:Sch}{p:List Stp}(h:Jo v s p= [])(b:v.k=4):Z1 p s v.l.length= []/\Ly v.l s.key (s.it.headD Br) p []= []:=by
 have a:=Xj h
 rw[Iv,if_pos a,if_neg (by omega),if_neg (by omega),if_pos b,cJ]at h
 exact h
def Aej (s:Sch)(x:Stp):Option Sch:=
 if x.k=1 then(if s.k=5 then Eb s x.nm else none)
 else if s.k=4 then(if x.k=2\/(x.k=3/\s.key≠Am/\s.key=x.nm) then s.it.head? else none) else none
def atS:Sch->List Stp->Option Sch
 | s,[]=>some s
 | s,x::r=>(Aej s x).bind λt=>atS t r
def hasB (nm vl:ByteArray)(u:Val):Bool:=decide (((u.get nm).getD Au).k =3)&&decide (((u.get nm).getD Au).s =vl)
def Nl (v:Val)(x:Stp):Option Val:=
 if x.k=1 then v.get x.nm
 else if v.k=4 then(if x.k=2 then v.l[x.ix.toNat]? else v.l.find? (hasB x.nm x.vl)) else none
def Hw:Val->List Stp->Option Val
 | v,[]=>some v
 | v,x::r=>(Nl v x).bind λu=>Hw u r
theorem Tn {v u:Val}{x:Stp}(a:Nl v x=some u):u.Ap<v.Ap:=by
 unfold Nl at a
 split at a
 ·have:=eF (D6 a).1;simp only at this;omega
 ·split at a
  ·split at a
   ·exact eM (List.mem_of_getElem? a)
   ·exact eM (cP a)
  ·cases a
theorem Ai6: ∀ (q:List Stp) (v w:Val),Hw v q=some w->w.Ap<=v.Ap
 | [],v,w,a=>by simp only[Hw,Option.some.injEq]at a;subst a;omega
 | y::r,v,w,a=>by
  simp only[Hw]at a
  cases b:Nl v y with
  | none=>rw[b]at a;cases a
  | some u=>rw[b]at a;have:=Tn b;have:=Ai6 r u w a;omega
theorem Art {s t:Sch}{x:Stp}(a:Aej s x=some t):t.Ap<s.Ap:=by
 unfold Aej at a
 split at a
 ·split at a
  ·exact Jz a
  ·cases a
 ·split at a
  ·split at a
   ·exact fP (List.mem_of_mem_head? a)
   ·cases a
  ·cases a
end Go.CT.Sch
namespace Go.CT.Sch
open Go.Proofs
theorem Aau (v:Val)(nm:ByteArray)(o:v.Ap<=1048576): ∀ (n i:Nat),i+n=v.f.length->
  ∃r:Int,W F239 1 [.str nm,.int i,v.enc]=some [.int r]/\
   (((v.k=5->((v.f.drop i).find? λp=>decide (p.1=nm))=none)/\r<0)\/(v.k=5/\ ∃ (j:Nat) (x:Val),r=j/\v.f[j]?=some (nm,x)/\((v.f.drop i).find? λp=>decide (p.1=nm))=some (nm,x)))
 | 0,i,h=>by
  rw[Amp]
  have g: ¬ i<v.f.length:=by omega
  refine⟨-1,by simp[g],.inl ⟨λ_=>by simp[aF (bD g)],by omega⟩⟩
 | n+1,i,h=>by
  have d:i<v.f.length:=by omega
  have u:=v.Bc
  have q:=Bd (i:=i) (by omega)
  obtain⟨r,t,m⟩:=Aau v nm o n (i+1) (by omega)
  rw[Amp,aE d,bW]
  simp only[cO,bZ,aD,bA,Aj,d,Zd,aA,aS,Zt,dU,aW,cE,aH,aG,aJ,aC d,aI,dG,gH,Ax,An,bR,q,t]
  by_cases a:v.k=5
  ·by_cases c:v.f[i].1 =nm
   ·refine⟨i,by simp[a,c],.inr ⟨a,i,v.f[i].2,rfl,by simp[d,<-c],by simp[<-c]⟩⟩
   ·have c':decide (v.f[i].1 =nm)=false:=by simpa using c
    simp only[a,Zd,Zt,c',aB,Zf]
    refine⟨r,rfl,?_⟩
    rcases m with⟨b,e⟩ | ⟨_,b⟩
    ·exact .inl ⟨λ_=>b a,e⟩
    ·exact .inr ⟨trivial,b⟩
  ·simp only[a,Ze,aB,Zf]
   rcases m with⟨b,e⟩ | ⟨b,_⟩
   ·exact⟨r,rfl,.inl ⟨λh=>h.elim,e⟩⟩
   ·exact(a b).elim
theorem Aq8 (v:Val)(nm:ByteArray)(d:v.Ap<=1048576): ∃r:Int,W F239 0 [v.enc,.str nm]=some [.int r]/\
  ((v.get nm=none/\r<0)\/ ∃ (j:Nat) (x:Val),r=j/\v.f[j]?=some (nm,x)/\v.get nm=some x):=by
 obtain⟨r,e,c⟩:=Aau v nm d v.f.length 0 (by omega)
 refine⟨r,by rw[A27];exact e,?_⟩
 simp only[aP]at c
 unfold gC
 rcases c with⟨a,b⟩ | ⟨a,j,x,b,g,h⟩
 ·left
  refine⟨?_,b⟩
  split
  ·rename_i i;rw[a i];rfl
  ·rfl
 ·right
  exact⟨j,x,b,g,by rw[if_pos a,h];rfl⟩
theorem Bfy (v:Val)(nm vl:ByteArray)(d:v.Ap<=1048576):W F240 0 [v.enc,.str nm,.str vl]=some [.bool (hasB nm vl v)]:=by
 obtain⟨r,b,e⟩:=Aq8 v nm d
 rw[A6h]
 unfold hasB
 rcases e with⟨g,m⟩ | ⟨j,x,rfl,h,i⟩
 ·have a: ¬ (0:Int)<=r:=by omega
  simp only[b,bI,fH,a,Ze,aA,aS,aB,Zf,g,eY]
  rfl
 ·simp only[b,bI,fH,aH,Zd,aA,aS,Zt,cO,cE,aG,aJ,h,aI,iH,Fld.Cc,aW,gH,i,cB]
  by_cases c:x.k=3<;>simp[c]
theorem Agl (v:Val)(x:Stp)(d:v.Ap<=1048576): ∀ (n i:Nat),i+n=v.l.length->
  ∃r:Int,W F238 1 [.int i,v.enc,x.enc]=some [.int r]/\
   ((((v.l.drop i).find? (hasB x.nm x.vl))=none/\r<0)\/(∃ (j:Nat) (u:Val),r=j/\v.l[j]?=some u/\((v.l.drop i).find? (hasB x.nm x.vl))=some u))
 | 0,i,h=>by
  rw[Aop]
  have b: ¬ i<v.l.length:=by omega
  refine⟨-1,by simp[b],.inl ⟨by simp[aF (bD b)],by omega⟩⟩
 | n+1,i,h=>by
  have a:i<v.l.length:=by omega
  have q:=v.Bx
  have t:=eM (aK a)
  have e:=Bd (i:=i) (by omega)
  obtain⟨r,g,m⟩:=Agl v x d n (i+1) (by omega)
  have o:=Bfy v.l[i] x.nm x.vl (by omega)
  rw[Aop,aE a,bW]
  simp only[cU,bZ,aD,bA,Aj,a,Zd,aA,aS,Zt,cE,aH,aG,aJ,aC a,aI,Stp.Dj,Stp.Cc,o,bI,bR,e,g]
  cases c:hasB x.nm x.vl v.l[i]with
  | true=>exact⟨i,by simp,.inr ⟨i,v.l[i],rfl,by simp[a],rfl⟩⟩
  | false=>exact⟨r,by simp,m⟩
theorem Bcu (v:Val)(x:Stp)(m:v.Ap<=1048576)(o:Dr x=true): ∃r:Int,W F238 0 [v.enc,x.enc]=some [.int r]/\
  ((Nl v x=none/\r<0)\/ ∃ (j:Nat) (u:Val),r=j/\Nl v x=some u/\(x.k=1->v.f[j]?=some (x.nm,u))/\(x.k≠1->v.l[j]?=some u)):=by
 obtain⟨w,y,q,z,A⟩:=D1 o
 rw[A62]
 unfold Nl
 simp only[Stp.Bs,Stp.Dj,aA,aW,aS]
 by_cases k1:x.k=1
 ·obtain⟨r,b,a⟩:=Aq8 v x.nm m
  simp only[k1,Zd,Zt,b,bI]
  refine⟨r,rfl,?_⟩
  rcases a with a | ⟨j,u,d,e,g⟩
  ·exact .inl a
  ·exact .inr ⟨j,u,d,g,λ_=>e,λh=>(h rfl).elim⟩
 ·simp only[k1,Ze,aB,Zf,dU,aA,eI,aS]
  by_cases i:v.k=4
  ·simp only[i,Zd,aV,aB,Zf,Zt]
   by_cases k2:x.k=2
   ·obtain⟨j,t⟩:=cX (q k2).1
    simp only[k2,Zd,Zt,Stp.Ep,cU,bZ,aD,aA,bA,aS,t,eE,aG,Aj]
    by_cases c:j<v.l.length
    ·refine⟨j,by simp[c],.inr ⟨j,v.l[j],rfl,by simp[c],λh=>by simp at h,λ_=>by simp[c]⟩⟩
    ·refine⟨-1,by simp[c],.inl ⟨by simpa using c,by omega⟩⟩
   ·obtain⟨r,b,a⟩:=Agl v x m v.l.length 0 (by omega)
    simp only[aN,aP]at b a
    simp only[k2,Ze,aB,Zf,b]
    refine⟨r,rfl,?_⟩
    rcases a with a | ⟨j,u,d,e,g⟩
    ·exact .inl a
    ·exact .inr ⟨j,u,d,g,λh=>h.elim,λ_=>e⟩
  ·exact⟨-1,by simp[i],.inl ⟨by simp[i],by omega⟩⟩
theorem Yt:IV.agg [.int 0,.int 0,.str ⟨#[]⟩,.list [],.list []]=Au.enc:=rfl
theorem Am4 (p:List Stp)(q:p.length<=1099511627776)(hp: ∀x∈p,Dr x=true)(c d e:IV): ∀ (n i:Nat) (v:Val),i+n=p.length->v.Ap<=1048576->
  W Bir 1 [.list (p.map Stp.enc),.int i,v.enc,c,d,e]=some [((Hw v (p.drop i)).getD Au).enc,.bool (Hw v (p.drop i)).isSome]
 | 0,i,v,h,m=>by
  have t: ¬ i<p.length:=by omega
  rw[Aox,aF (by omega)]
  simp only[bZ,aD,bA,Aj,t,Ze,aA,aS,aB,Zf,Hw,cB,cN]
 | n+1,i,v,h,m=>by
  have a:i<p.length:=by omega
  have w:=Bd (i:=i) (by omega)
  have y:=hp _ (aK a)
  obtain⟨r,z,A⟩:=Bcu v p[i] m y
  rw[Aox,aE a]
  simp only[bZ,aD,bA,Aj,a,Zd,aA,aS,Zt,cE,aH,aG,aJ,aC a,aI,z,bI,fB,Stp.Bs,aW,cU,cO,Hw,Yt]
  rcases A with⟨b,g⟩ | ⟨j,u,rfl,b,g,B⟩
  ·simp only[g,Zd,Zt,b];rfl
  ·have C: ¬ (j:Int)<0:=by omega
   have G:=Tn b
   have F:=Am4 p q hp c d e n (i+1) u (by omega) (by omega)
   have o:W Bir 2 [.list (p.map Stp.enc),.int i,u.enc,c,d,e]=some [((Hw u (p.drop (i+1))).getD Au).enc,.bool (Hw u (p.drop (i+1))).isSome]:=by
    rw[A2b]
    simp only[bR,w,aA,F]
   simp only[C,Ze,aB,Zf,b,aA,aH,Zt,aG]
   by_cases k1:p[i].k =1
   ·simp only[k1,Zd,Zt,g k1,aI,aA,dL,o]
   ·simp only[k1,Ze,aB,Zf,B k1,aI,aA,o]
def Bgz (v:Val)(p:List Stp):Option Val:=if C6 p then Hw v p else none
theorem Bfk (v:Val)(p:List Stp)(c:v.Ap<=1048576)(hp: ∀x∈p,x.fits)(b:p.length<=1099511627776):W Bir 0 [v.enc,.list (p.map Stp.enc)]=some [((Bgz v p).getD Au).enc,.bool (Bgz v p).isSome]:=by
 rw[A08]
 unfold Bgz
 simp only[Pv p hp b,bI,cV,aA,aS,fB,Yt]
 cases d:C6 p with
 | false=>rfl
 | true=>
  have a:=d
  unfold C6 at a
  simp only[aL,bM]at a
  have:=Am4 p b a.1 (.int 0) (.int 0) (.str ⟨#[]⟩) p.length 0 v (by omega) c
  simp only[aN,aP]at this
  simp only[aV,aB,Zf,this,Zt]
end Go.CT.Sch
namespace Go.CT.Sch
open Go.Proofs
theorem C7 (s:ByteArray):s.data.toList.length=s.size:=by simp
theorem Xa {s:ByteArray}{i:Nat}{l:List UInt8}(h:s.data.toList.drop i=l)(a:l≠ []):i+l.length=s.size:=by
 have:=congrArg dC h
 rw[dF,C7]at this
 have:0<l.length:=bX.2 a
 omega
theorem Th {s:ByteArray}{i:Nat}{a r:List UInt8}(h:s.data.toList.drop i=a++r):s.data.toList.drop (i+a.length)=r:=by
 rw[<-List.drop_drop,h,List.drop_left]
theorem sx {s:ByteArray}{i:Nat}{c:UInt8}{r:List UInt8}(h:s.data.toList.drop i=c::r):O.Mm (.str s) (.int i)=some (.int c.toNat)/\i<s.size/\s.data.toList.drop (i+1)=r:=by
 have d:=Xa h (by simp)
 simp only[aZ]at d
 have a:i<s.size:=by omega
 have b:=H6 a
 rw[h]at b
 obtain⟨e,g⟩:=gZ b
 refine⟨?_,a,g.symm⟩
 simp only[iE,aH,Zt,aG,A8t a,aI,<-e]
theorem ssl {s:ByteArray}{i:Nat}{a r:List UInt8}(h:s.data.toList.drop i=a++r)(b:a≠ []):O.Oa (.str s) (.int i) (.int ((i+a.length:Nat):Int))=some (.str (bsL a)):=by
 have c:=Xa h (by simp[b])
 rw[aO]at c
 rw[O.Tv,if_pos ⟨by omega,by omega,by omega⟩]
 simp only[aG]
 congr 2
 apply Gm
 rw[fA,fM]
 simp only[eR,bsL,h]
 rw[show i+a.length - i=a.length by omega,List.take_left]
def Z2 (r:List UInt8):Prop:= ∀c t,r=c::t->Bv c=false
theorem Afc (s:ByteArray)(u:s.size<=100000): ∀ (a:List UInt8) (i:Nat) (r:List UInt8),s.data.toList.drop i=a++r->i<=s.size->(∀c∈a,Bv c=true)->Z2 r->W F233 1 [.str s,.int i]=some [.int ((i+a.length:Nat):Int)]
 | [],i,r,h,b,_,d=>by
  rw[Aqu]
  cases r with
  | nil=>
   have A:s.size<=i:=by
    have:=congrArg dC h
    rw[dF,C7]at this
    simp at this;omega
   have e: ¬ i<s.size:=by omega
   simp only[cZ,aA,bA,Aj,e,Ze,aS,aB,Zf,bB,gE]
  | cons c t=>
   obtain⟨g,j,o⟩:=sx h
   have m:=d c t rfl
   simp only[cZ,aA,bA,Aj,j,Zd,aS,Zt,g,X8,bI,m,aB,Zf,bB,gE]
 | c::a,i,r,h,b,q,d=>by
  obtain⟨g,j,o⟩:=sx (show s.data.toList.drop i=c::(a++r) from h)
  have w:=Bd (i:=i) (by omega)
  have m:=q c (by simp)
  have y:=Afc s u a (i+1) r o (by omega) (λx z=>q x (by simp[z])) d
  rw[Aqu]
  simp only[cZ,aA,bA,Aj,j,Zd,aS,Zt,g,X8,bI,m,bR,w,y,aZ]
  congr 3;congr 1;omega
theorem U4 {c:UInt8}(h:Iz c=true):c.toNat=10\/(32<=c.toNat/\c.toNat<=126):=by
 unfold Iz at h
 simp at h
 omega
theorem Vz (o:ByteArray)(c:UInt8)(v:List UInt8):o++bsL [c]++bsL v=o++bsL (c::v):=by
 rw[bF,<-G7];rfl
theorem Xq (s:ByteArray)(M:s.size<=100000): ∀ (v:List UInt8) (i:Nat) (r:List UInt8) (o:ByteArray),s.data.toList.drop i=v.flatMap Jg++34::r->(∀c∈v,Iz c=true)->o.size+v.length<=1000->
  W Bg8 1 [.str s,.int i,.str o]=some [.str (o++bsL v),.int ((i+(v.flatMap Jg).length +1:Nat):Int),.bool true]
 | [],i,r,o,h,_,_=>by
  obtain⟨t,u,w⟩:=sx (show s.data.toList.drop i=34::r from h)
  have y:=Bd (i:=i) (by omega)
  have e:o++bsL []=o:=by apply Gm;rw[aR];simp[bsL]
  rw[Aey]
  simp only[cZ,aA,bA,Aj,u,Zd,aS,Zt,t,eI]
  simp only[show((34:UInt8).toNat :Int)=34 from rfl,Zd,aV,aB,Zf,bR,y,aA,cY,bB,gE,e]
 | c::v,i,r,o,h,N,R=>by
  have S:=N c (by simp)
  have z: ∀x∈v,Iz x=true:=λx T=>N x (by simp[T])
  simp only[aZ]at R
  have hrange:=U4 S
  simp only[cC,bL]at h ⊢
  have hlen:=congrArg dC h
  rw[dF,C7]at hlen
  have two: ∀d:UInt8,Jg c= [92,d]->(d.toNat=34\/d.toNat=92\/d.toNat=110)->(d.toNat=110↔c.toNat=10)->(d.toNat≠110->d=c)->
    W Bg8 1 [.str s,.int i,.str o]=some [.str (o++bsL (c::v)),.int ((i+(Jg c++v.flatMap Jg).length +1:Nat):Int),.bool true]:=by
   intro d F hd U G
   rw[F]at h ⊢
   obtain⟨t,u,w⟩:=sx (show s.data.toList.drop i=92::(d::(v.flatMap Jg++34::r)) from h)
   obtain⟨X,g2,Y⟩:=sx w
   have y:=Bd (i:=i) (by omega)
   have A:IntKind.i64.wrap ((i:Int)+2)=((i+1+1:Nat):Int):=by rw[wrap64 (by omega) (by omega)];omega
   have H: ¬ ((s.size:Nat):Int)<=((i+1:Nat):Int):=by omega
   have I:=λo' (g:o'.size+v.length<=1000)=>Xq s M v (i+1+1) r o' Y z g
   have b:=ssl (i:=i+1) (a:= [d]) (show s.data.toList.drop (i+1)= [d]++(v.flatMap Jg++34::r) from w) (by simp)
   simp only[aQ]at b
   have J:((92:UInt8).toNat :Int)=92:=rfl
   rw[Aey]
   simp only[cZ,aA,bA,Aj,u,Zd,aS,Zt,t,eI,cW,J,show ¬ (92:Int)=34 by omega,Ze,aY,show ¬ (92:Int)<32 by omega,aB,Zf,show ¬ (126:Int)<92 by omega,aV,bR,y,fH,H,X,A]
   have q:(if(!decide ((d.toNat:Int)=34))=true then some (IV.bool (!decide ((d.toNat:Int)=92))) else some (IV.bool false))=some (.bool (!decide (d.toNat=34)&& !decide (d.toNat=92))):=by
    by_cases K:d.toNat=34
    ·simp[K]
    ·have B: ¬ (d.toNat:Int)=34:=by omega
     by_cases Q:d.toNat=92
     ·simp[K,B,Q]
     ·have L: ¬ (d.toNat:Int)=92:=by omega
      simp[K,B,Q,L]
   simp only[q,aA,aS]
   have m: ∀o',o'=o++bsL [c]->W Bg8 3 [.str s,.int i,.str o']=some [.str (o++bsL (c::v)),.int ((i+([92,d]++v.flatMap Jg).length +1:Nat):Int),.bool true]:=by
    intro o' g
    rw[A5n]
    simp only[bR,A,aA]
    rw[Anl,I o' (by rw[g,aM,Cd,aQ];omega),g,Vz]
    congr 3;congr 1
    simp only[aO,aZ,bB];congr 1;omega
   have hcond2:(if(!decide (d.toNat=34)&& !decide (d.toNat=92))=true then some (IV.bool (!decide ((d.toNat:Int)=110))) else some (IV.bool false))=some (.bool false):=by
    rcases hd with hd | hd | hd
    ·simp[hd]
    ·simp[hd]
    ·have:(d.toNat:Int)=110:=by omega
     simp[hd]
   simp only[hcond2,aA,aS,aB,Zf,aW]
   by_cases cn:d.toNat=110
   ·have cn':(d.toNat:Int)=110:=by omega
    have C:c=10:=gO.1 (U.1 cn)
    simp only[cn',Zd,Zt]
    rw[show(ByteArray.mk #[10])=bsL [10]from rfl,G5 (by omega) (by rw[Cd];simp)]
    simp only[aA]
    exact m _ (by rw[C])
   ·have cn': ¬ (d.toNat:Int)=110:=by omega
    simp only[cn',Ze,aB,Zf,b,aA]
    rw[G5 (by omega) (by rw[Cd];simp)]
    simp only[aA]
    exact m _ (by rw[G cn])
  by_cases j:c.toNat=10
  ·exact two 110 (by unfold Jg;rw[if_pos j]) (.inr (.inr rfl)) ⟨λ_=>j,λ_=>rfl⟩ (λh=>(h rfl).elim)
  ·by_cases cq:c.toNat=34\/c.toNat=92
   ·exact two c (by unfold Jg;rw[if_neg j,if_pos cq]) (by omega) (by omega) (λ_=>rfl)
   ·have F:Jg c= [c]:=by unfold Jg;rw[if_neg j,if_neg cq]
    rw[F]at h ⊢
    obtain⟨t,u,w⟩:=sx (show s.data.toList.drop i=c::(v.flatMap Jg++34::r) from h)
    have y:=Bd (i:=i) (by omega)
    have I:=Xq s M v (i+1) r (o++bsL [c]) w z (by rw[aM,Cd,aQ];omega)
    have b:=ssl (i:=i) (a:= [c]) (show s.data.toList.drop i= [c]++(v.flatMap Jg++34::r) from h) (by simp)
    simp only[aQ]at b
    have Z: ¬ (c.toNat:Int)=34:=by omega
    have n2: ¬ (c.toNat:Int)<32:=by omega
    have n3: ¬ (126:Int)<c.toNat:=by omega
    have n4: ¬ (c.toNat:Int)=92:=by omega
    rw[Aey]
    simp only[cZ,aA,bA,Aj,u,Zd,aS,Zt,t,eI,cW,Z,Ze,aY,n2,aB,Zf,n3,n4,bR,y,b]
    rw[G5 (by omega) (by rw[Cd];simp)]
    simp only[aA,Anl,I,Vz]
    congr 3;congr 1
    simp only[aO,aZ,bB];congr 1;omega
end Go.CT.Sch
namespace Go.CT.Sch
open Go.Proofs
theorem w8 {x:Int}(a:0<=x)(b:x<=255):IntKind.u8.wrap x=x:=by
 unfold IntKind.wrap
 simp[IntKind.signed,IntKind.bits]
 omega
theorem A9n (a:UInt8)(n:Nat)(h:n<=9)(j:a.toNat=48+n):W Bis 0 [.str (bsL [a])]=some [.bool true]/\W Bhv 0 [.str (bsL [a])]=some [.int n]:=by
 obtain⟨c,_,_⟩:=sx (s:=bsL [a]) (i:=0) (show(bsL [a]).data.toList.drop 0=a:: []from rfl)
 simp only[aN]at c
 have b:((bsL [a]).size :Int)=1:=by rw[Cd];rfl
 have d:IntKind.i64.wrap (0+1)=1:=by decide
 have e: ¬ (a.toNat:Int)<48:=by omega
 have g: ¬ (57:Int)<a.toNat:=by omega
 constructor
 ·rw[Am7,Sj]
  simp only[cZ,b,aA,bA,show(0:Int)<1 by omega,Zd,aS,Zt,c,e,cW,g,Ze,aB,Zf,bR,d]
  rw[Sj]
  simp[b]
 ·have m1:IntKind.i64.wrap (10 * 0)=0:=by decide
  have m2:IntKind.u8.wrap ((a.toNat:Int) - 48)=n:=by rw[w8 (by omega) (by omega)];omega
  have m3:IntKind.i64.wrap (n:Int)=n:=wrap64 (by omega) (by omega)
  have m4:IntKind.i64.wrap (0+(n:Int))=n:=by rw[wrap64 (by omega) (by omega)];omega
  have m5: ¬ (65:Int)<n:=by omega
  rw[Amw,R9]
  simp only[cZ,b,aA,bA,show(0:Int)<1 by omega,show(0:Int)<65 by omega,Zd,aS,Zt,O.T5,m1,c,fI,m2,O.Tb,m3,bR,m4,d]
  rw[R9]
  simp[b,m5]
theorem A87 (a b:UInt8)(q m:Nat)(z:1<=q/\q<=6)(A:m<=9)(B:a.toNat=48+q)(C:b.toNat=48+m):W Bis 0 [.str (bsL [a,b])]=some [.bool true]/\W Bhv 0 [.str (bsL [a,b])]=some [.int (min (10 * q+m) 65:Nat)]:=by
 obtain⟨g,_,_⟩:=sx (s:=bsL [a,b]) (i:=0) (show(bsL [a,b]).data.toList.drop 0=a:: [b]from rfl)
 obtain⟨h,_,_⟩:=sx (s:=bsL [a,b]) (i:=1) (show(bsL [a,b]).data.toList.drop 1=b:: []from rfl)
 simp only[aN]at g h
 have d:((bsL [a,b]).size :Int)=2:=by rw[Cd];rfl
 have j:IntKind.i64.wrap (0+1)=1:=by decide
 have e:IntKind.i64.wrap (1+1)=2:=by decide
 have o: ¬ (a.toNat:Int)<48:=by omega
 have r: ¬ (57:Int)<a.toNat:=by omega
 have t: ¬ (b.toNat:Int)<48:=by omega
 have u: ¬ (57:Int)<b.toNat:=by omega
 have w: ¬ (a.toNat:Int)=48:=by omega
 constructor
 ·rw[Am7,Sj]
  simp only[cZ,d,aA,bA,show(0:Int)<2 by omega,Zd,aS,Zt,g,o,cW,r,Ze,aB,Zf,bR,j]
  rw[Sj]
  simp only[cZ,d,aA,bA,show(1:Int)<2 by omega,Zd,aS,Zt,h,t,cW,u,Ze,aB,Zf,bR,e]
  rw[Sj]
  simp only[cZ,d,aA,bA,show ¬ (2:Int)<2 by omega,Ze,aS,aB,Zf,aW,show ¬ (2:Int)=1 by omega,cW,show(1:Int)<2 by omega,Zd,Zt,g,eI,w,aY]
 ·have m1:IntKind.i64.wrap (10 * 0)=0:=by decide
  have m2:IntKind.u8.wrap ((a.toNat:Int) - 48)=q:=by rw[w8 (by omega) (by omega)];omega
  have m3:IntKind.i64.wrap (q:Int)=q:=wrap64 (by omega) (by omega)
  have m4:IntKind.i64.wrap (0+(q:Int))=q:=by rw[wrap64 (by omega) (by omega)];omega
  have m5:(q:Int)<65:=by omega
  have k1:IntKind.i64.wrap (10 * (q:Int))=10 * q:=wrap64 (by omega) (by omega)
  have k2:IntKind.u8.wrap ((b.toNat:Int) - 48)=m:=by rw[w8 (by omega) (by omega)];omega
  have x:IntKind.i64.wrap (m:Int)=m:=wrap64 (by omega) (by omega)
  have y:IntKind.i64.wrap (10 * (q:Int)+(m:Int))=10 * q+m:=wrap64 (by omega) (by omega)
  rw[Amw,R9]
  simp only[cZ,d,aA,bA,show(0:Int)<2 by omega,show(0:Int)<65 by omega,Zd,aS,Zt,O.T5,m1,g,fI,m2,O.Tb,m3,bR,m4,j]
  rw[R9]
  simp only[cZ,d,aA,bA,show(1:Int)<2 by omega,m5,Zd,aS,Zt,O.T5,k1,h,fI,k2,O.Tb,x,bR,y,e]
  rw[R9]
  simp only[cZ,d,aA,bA,show ¬ (2:Int)<2 by omega,Ze,aS,aB,Zf,cW]
  by_cases c:(65:Int)<10 * q+m
  ·have:min (10 * q+m) 65=65:=by omega
   simp only[c,Zd,Zt,this];rfl
  ·have:min (10 * q+m) 65=10 * q+m:=by omega
   simp only[c,Ze,aB,Zf,this]
   congr 3
theorem Bgr {n:Nat}(h:n<=255):n.toUInt8.toNat=n:=by
 simp[iD];omega
theorem A5y (n:Nat): ∃a:List UInt8,gB n=bsL a/\a≠ []/\(n<100-> ∀c∈a,Bv c=true):=by
 have dig: ∀k:Nat,k<=9->Bv (48+k).toUInt8 =true:=by
  intro k d
  unfold Bv
  rw[Bgr (by omega)]
  simp;omega
 unfold gB
 split
 ·refine⟨[(48+n).toUInt8],rfl,by simp,λ_ c b=>?_⟩
  rw[dQ]at b
  rw[b];exact dig n (by omega)
 ·refine⟨[(48+n / 10).toUInt8,(48+n % 10).toUInt8],rfl,by simp,λh c b=>?_⟩
  rw[bH,dQ]at b
  rcases b with b | b
  ·rw[b];exact dig _ (by omega)
  ·rw[b];exact dig _ (by omega)
theorem Bf4 (n:Nat)(a:n<=64):W Bis 0 [.str (gB n)]=some [.bool true]/\W Bhv 0 [.str (gB n)]=some [.int n]:=by
 unfold gB
 split
 ·exact A9n _ n (by omega) (Bgr (by omega))
 ·have:=A87 (48+n / 10).toUInt8 (48+n % 10).toUInt8 (n / 10) (n % 10) (by omega) (by omega) (Bgr (by omega)) (Bgr (by omega))
  rw[show min (10 * (n / 10)+n % 10) 65=n by omega]at this
  exact this
def Aad (x:Stp)(i:Nat):IV:= .agg [.int x.k,.str x.nm,.int x.ix,.str x.vl,.int i,.bool false]
theorem Hh {s:ByteArray}(h:C5 s=true):(∀c∈s.data.toList,Bv c=true)/\s.data.toList≠ []:=by
 unfold C5 at h
 simp only[aL,bM,decide_eq_true_eq]at h
 refine⟨h.1,λe=>?_⟩
 have:s.size=0:=by rw[<-C7,e];rfl
 omega
theorem N3 {c:UInt8}{r:List UInt8}(h:Bv c=false):Z2 (c::r):=by
 intro d t e
 obtain⟨rfl,_⟩:=gZ e
 exact h
theorem Al4 (s:ByteArray)(o:s.size<=100000)(n i:Nat)(q:n<=64)(r:List UInt8)(h:s.data.toList.drop i=(bsL [91]++gB n++bsL [93]).data.toList ++r):
  W F232 0 [.str s,.int i]=some [Aad ⟨2,Am,n,Am⟩ (i+(bsL [91]++gB n++bsL [93]).size)]:=by
 obtain⟨a,t,b,c⟩:=A5y n
 obtain⟨d1,d2⟩:=Bf4 n q
 rw[t]at h d1 d2 ⊢
 rw[<-G7,<-G7]at h ⊢
 rw[Cd]
 have h':s.data.toList.drop i=91::(a++93::r):=by rw[h];simp[bsL]
 obtain⟨B,C,d⟩:=sx h'
 have u:=Bd (i:=i) (by omega)
 have e:=Afc s o a (i+1) (93::r) d (by omega) (c (by omega)) (N3 (by decide))
 have w:=Th d
 obtain⟨x,F,G⟩:=sx w
 have g:=ssl d b
 have y:0<a.length:=bX.2 b
 have j:=Bd (i:=i+1+a.length) (by omega)
 have z: ¬ ((s.size:Nat):Int)<=((i+1+a.length:Nat):Int):=by omega
 have A: ¬ ((i+1+a.length:Nat):Int)=((i+1:Nat):Int):=by omega
 have m:((93:UInt8).toNat :Int)=93:=rfl
 rw[Ami]
 simp only[bR,u,aA,Afe,e,bI,cZ,fH,z,Ze,aS,aB,Zf,aW,A,g,x,m,Zd,Zt,d1,d2,j,cV,aV,fB]
 unfold Aad
 simp only[aO,aZ,bB]
 congr 4
 rw[show i+1+a.length+1=i+(0+1+a.length+(0+1)) by omega]
 rfl
theorem Ajm (s:ByteArray)(y:s.size<=100000)(nm vl:ByteArray)(b:C5 nm=true)(a:Jw vl=true)(i:Nat)(r:List UInt8)(h:s.data.toList.drop i=(bsL [91]++nm++bsL [61]++K1 vl++bsL [93]).data.toList ++r):
  W F232 0 [.str s,.int i]=some [Aad ⟨3,nm,0,vl⟩ (i+(bsL [91]++nm++bsL [61]++K1 vl++bsL [93]).size)]:=by
 obtain⟨e,c⟩:=Hh b
 have A:=Qd a
 unfold Jw at a
 simp only[aL,bM]at a
 have g:(bsL [91]++nm++bsL [61]++K1 vl++bsL [93]).size =nm.data.toList.length+(vl.data.toList.flatMap Jg).length +5:=by
  unfold K1
  simp only[aM,Cd,aZ,bB,aO,C7];omega
 rw[g]
 have h':s.data.toList.drop i=91::(nm.data.toList++61::(34::(vl.data.toList.flatMap Jg++34::(93::r)))):=by
  rw[h];unfold K1
  simp[aR,bsL]
 obtain⟨Q,R,j⟩:=sx h'
 have B:=Bd (i:=i) (by omega)
 have m:=Afc s y nm.data.toList (i+1) _ j (by omega) e (N3 (by decide))
 have C:=Th j
 obtain⟨F,S,G⟩:=sx C
 have o:=ssl j c
 have H:0<nm.data.toList.length:=bX.2 c
 obtain⟨I,T,z⟩:=sx G
 have q:=Bd (i:=i+1+nm.data.toList.length) (by omega)
 have t:=Bd (i:=i+1+nm.data.toList.length+1) (by omega)
 have d:=Xq s y vl.data.toList (i+1+nm.data.toList.length+1+1) (93::r) Am z a.1 (by rw[C7];show 0+vl.size<=1000;omega)
 rw[Hn,Qa]at d
 have J:=Th z
 obtain⟨U,X,K⟩:=sx J
 obtain⟨L,Y,Z⟩:=sx K
 have u:W Bg8 0 [.str s,.int ((i+1+nm.data.toList.length+1:Nat):Int)]=some [.str vl,.int ((i+1+nm.data.toList.length+1+1+(vl.data.toList.flatMap Jg).length +1:Nat):Int),.bool true]:=by
  have w: ¬ ((s.size:Nat):Int)<=((i+1+nm.data.toList.length+1:Nat):Int):=by omega
  rw[A1e]
  simp only[cZ,aA,fH,w,Ze,aS,aB,Zf,I,eI,show((34:UInt8).toNat :Int)=34 from rfl,Zd,aV,bR,t]
  exact d
 have x:=Bd (i:=i+1+nm.data.toList.length+1+1+(vl.data.toList.flatMap Jg).length +1) (by omega)
 have w: ¬ ((s.size:Nat):Int)<=((i+1+nm.data.toList.length:Nat):Int):=by omega
 have M: ¬ ((i+1+nm.data.toList.length:Nat):Int)=((i+1:Nat):Int):=by omega
 have N: ¬ ((s.size:Nat):Int)<=((i+1+nm.data.toList.length+1+1+(vl.data.toList.flatMap Jg).length +1:Nat):Int):=by omega
 rw[Ami]
 simp only[bR,B,aA,Afe,m,bI,cZ,fH,w,Ze,aS,aB,Zf,aW,M,o,F,show((61:UInt8).toNat :Int)=61 from rfl,show ¬ (61:Int)=93 by omega,eI,Zd,aV,q,u,iI,cV,N,L,show((93:UInt8).toNat :Int)=93 from rfl,x,fB,Qa]
 unfold Aad
 congr 4
 rw[show i+1+nm.data.toList.length+1+1+(vl.data.toList.flatMap Jg).length +1+1=i+(nm.data.toList.length+(vl.data.toList.flatMap Jg).length +5) by omega]
theorem Aod (s:ByteArray)(g:s.size<=100000)(nm:ByteArray)(a:C5 nm=true)(i:Nat)(r:List UInt8)(h:s.data.toList.drop i=nm.data.toList++r)(j:i<=s.size)(m:Z2 r)(o q t u w x:IV):
  W F231 1 [.str s,.int i,o,q,t,u,w,x]=some [Aad ⟨1,nm,0,Am⟩ (i+nm.size)]:=by
 obtain⟨c,b⟩:=Hh a
 have d:=Afc s g nm.data.toList i r h j c m
 have e:=ssl h b
 have y:0<nm.data.toList.length:=bX.2 b
 have z: ¬ ((i+nm.data.toList.length:Nat):Int)=(i:Int):=by omega
 rw[A5h]
 simp only[Afe,d,bI,e,aA,aW,z,Ze,fB,Qa]
 unfold Aad
 rw[C7]
 rfl
theorem Bc7 (s:ByteArray)(o:s.size<=100000)(x:Stp)(b:Dr x=true)(i:Nat)(r:List UInt8)(h:s.data.toList.drop i=(G9 (decide (i=0)) x).data.toList ++r)(C:Z2 r):
  W F231 0 [.str s,.int i]=some [Aad x (i+(G9 (decide (i=0)) x).size)]:=by
 obtain⟨H,I,J,K,F⟩:=D1 b
 obtain⟨xk,xn,xi,xv⟩:=x
 simp only at H I J K F
 unfold Dr at b
 unfold G9 at h ⊢
 simp only at b h ⊢
 rw[A4o]
 rcases F with rfl | rfl | rfl
 ·simp only[Zt,aL,decide_eq_true_eq]at b
  obtain⟨⟨g,rfl⟩,rfl⟩:=b
  simp only[show ¬ (1:Int)=2 by omega,show ¬ (1:Int)=3 by omega,Zf]at h ⊢
  obtain⟨u,w⟩:=Hh g
  by_cases G:i=0
  ·subst G
   simp only[Zd,Zt]at h ⊢
   obtain⟨c,a,j⟩:=eQ w
   have h':s.data.toList.drop 0=c::(a++r):=by rw[h,j];rfl
   obtain⟨d,y,q⟩:=sx h'
   have z:=u c (by rw[j];simp)
   have m: ¬ (c.toNat:Int)=91:=by
    intro e
    have:c.toNat=91:=by omega
    unfold Bv at z
    rw[this]at z
    simp at z
   simp only[d,aA,aW,m,Ze,aS,aB,Zf,cW,show ¬ (0:Int)<((0:Nat):Int) by omega]
   exact Aod s o xn g 0 r h (by omega) C _ _ _ _ _ _
  ·have A:(0:Int)<(i:Int):=by omega
   simp only[G,Ze,aB,Zf]at h ⊢
   have h':s.data.toList.drop i=46::(xn.data.toList++r):=by rw[h];simp[aR,bsL]
   obtain⟨d,y,q⟩:=sx h'
   have L:=Bd (i:=i) (by omega)
   have M:=Aod s o xn g (i+1) r q (by omega) C (.int 0) (.str ⟨#[]⟩) (.int 0) (.str ⟨#[]⟩) (.int 0) (.bool false)
   simp only[d,aA,aW,show((46:UInt8).toNat :Int)=46 from rfl,show ¬ (46:Int)=91 by omega,Ze,aS,aB,Zf,cW,A,Zd,Zt,eI,aV,bR,L,M]
   rw[aM,Cd,aQ,show i+1+xn.size=i+(1+xn.size) by omega]
 ·simp only[show ¬ (2:Int)=1 by omega,Zf,Zt,aL,decide_eq_true_eq]at b
  obtain⟨⟨⟨N,Q⟩,rfl⟩,rfl⟩:=b
  obtain⟨n,rfl⟩:=cX N
  simp only[Zt,eE,aG]at h ⊢
  have B:=Al4 s o n i (by omega) r h
  have h': ∃t,s.data.toList.drop i=91::t:=by rw[h];simp[aR,bsL]
  obtain⟨t,h'⟩:=h'
  obtain⟨d,y,q⟩:=sx h'
  simp only[d,aA,aW,show((91:UInt8).toNat :Int)=91 from rfl,Zd,aS,Zt,B,bI]
 ·simp only[show ¬ (3:Int)=1 by omega,show ¬ (3:Int)=2 by omega,Zf,Zt,aL,decide_eq_true_eq]at b
  obtain⟨⟨g,R⟩,rfl⟩:=b
  simp only[show ¬ (3:Int)=2 by omega,Zf,Zt]at h ⊢
  have B:=Ajm s o xn xv g R i r h
  have h': ∃t,s.data.toList.drop i=91::t:=by rw[h];simp[aR,bsL]
  obtain⟨t,h'⟩:=h'
  obtain⟨d,y,q⟩:=sx h'
  simp only[d,aA,aW,show((91:UInt8).toNat :Int)=91 from rfl,Zd,aS,Zt,B,bI]
theorem Ui (b:Bool)(x:Stp)(a:Dr x=true):(G9 b x).data.toList ≠ []/\(b=false->Z2 ((G9 b x).data.toList)):=by
 obtain⟨e,g,i,j,m⟩:=D1 a
 unfold Dr at a
 unfold G9
 split
 ·refine⟨by simp[aR,bsL],λ_=>?_⟩
  have: ∃t,(bsL [91]++gB x.ix.toNat++bsL [93]).data.toList =91::t:=by simp[aR,bsL]
  obtain⟨t,c⟩:=this
  rw[c];exact N3 (by decide)
 ·split
  ·refine⟨by simp[aR,bsL],λ_=>?_⟩
   have: ∃t,(bsL [91]++x.nm++bsL [61]++K1 x.vl++bsL [93]).data.toList =91::t:=by simp[aR,bsL]
   obtain⟨t,c⟩:=this
   rw[c];exact N3 (by decide)
  ·rename_i k2 o
   have k1:x.k=1:=by omega
   rw[if_pos k1]at a
   simp only[aL]at a
   split
   ·rename_i d
    exact⟨(Hh a.1.1).2,λh=>by rw[h]at d;cases d⟩
   ·refine⟨by simp[aR,bsL],λ_=>?_⟩
    have: ∃t,(bsL [46]++x.nm).data.toList =46::t:=by simp[aR,bsL]
    obtain⟨t,c⟩:=this
    rw[c];exact N3 (by decide)
theorem Xc (p:List Stp)(hp: ∀x∈p,Dr x=true):Z2 ((Cs false p).data.toList):=by
 cases p with
 | nil=>intro c t h;cases h
 | cons x r=>
  have d:=Ui false x (hp x (by simp))
  obtain⟨c,a,b⟩:=eQ d.1
  have e:=d.2 rfl
  rw[b]at e
  have g:=e c a rfl
  simp only[Cs,aR,b]
  exact N3 g
theorem Abs (s:ByteArray)(u:s.size<=100000)(full:List Stp)(a:C6 full=true): ∀ (p done:List Stp) (i:Nat),done++p=full->s.data.toList.drop i=(Cs (decide (i=0)) p).data.toList ->i<=s.size->
  W F230 1 [.str s,.int i,.list (done.map Stp.enc)]=some [.list (full.map Stp.enc),.int 0]
 | [],done,i,hd,h,z=>by
  rw[bK]at hd
  subst hd
  have d:s.size<=i:=by
   have:=congrArg dC h
   rw[dF,C7]at this
   have e:(Cs (decide (i=0)) []).data.toList.length =0:=rfl
   rw[e]at this;omega
  have g: ¬ i<s.size:=by omega
  have b:=a
  unfold C6 at b
  simp only[aL,bM,decide_eq_true_eq]at b
  have A:=Pv done (λx o=>by
   have:=D1 (b.1 x o)
   exact⟨by omega,by omega⟩) (by omega)
  rw[Amm]
  simp only[cZ,aA,bA,Aj,g,Ze,aS,aB,Zf,A,bI,a,cV,aV]
 | x::p,done,i,hd,h,z=>by
  have b:=a
  unfold C6 at b
  simp only[aL,bM,decide_eq_true_eq]at b
  have o:Dr x=true:=b.1 x (by rw[<-hd];simp)
  have hp: ∀y∈p,Dr y=true:=λy B=>b.1 y (by rw[<-hd];simp[B])
  simp only[Cs,aR]at h
  have q:=Bc7 s u x o i _ h (Xc p hp)
  have j:=(Ui (decide (i=0)) x o).1
  have m:0<(G9 (decide (i=0)) x).data.toList.length :=bX.2 j
  have d:=Xa h (by simp[j])
  have c:=Th h
  rw[aO]at d
  rw[C7]at c m d
  have r:decide (i+(G9 (decide (i=0)) x).size =0)=false:=decide_eq_false (by omega)
  have g:i<s.size:=by omega
  have hlen:done.length+p.length+1=full.length:=by rw[<-hd];simp;omega
  have t:((done.map Stp.enc).length + [x.enc].length) * 48<=Bb:=by
   simp only[aD,aQ]
   have:(done.length+1) * 48<=100 * 48:=aX (by omega) (bP _)
   unfold Bb;omega
  have w:=Abs s u full a p (done++ [x]) (i+(G9 (decide (i=0)) x).size) (by rw[<-hd];simp) (by rw[r];exact c) (by omega)
  have e1:dH 5 (Aad x (i+(G9 (decide (i=0)) x).size))=some (.bool false):=rfl
  have C:iC 0 4 (Aad x (i+(G9 (decide (i=0)) x).size))=some x.enc:=rfl
  have F:dH 4 (Aad x (i+(G9 (decide (i=0)) x).size))=some (.int ((i+(G9 (decide (i=0)) x).size :Nat):Int)):=rfl
  rw[Amm]
  simp only[cZ,aA,bA,Aj,g,Zd,aS,Zt,q,bI,e1,aB,Zf,C,fX,eW,t,F]
  rw[cG]at w
  exact w
theorem Qf (p:List Stp)(hp: ∀x∈p,Dr x=true): ∀b,(Cs b p).size <=500 * p.length:=by
 induction p with
 | nil=>intro b;show 0<=_;omega
 | cons x r a=>
  intro b
  have d:(G9 b x).size <=500:=Ul (hp x (by simp))
  have e:=a (λy c=>hp y (by simp[c])) false
  simp only[Cs,aM,aZ];omega
theorem Ac9 (p:List Stp)(hp:C6 p=true):W F230 0 [.str (Cj p)]=some [.list (p.map Stp.enc),.int 0]:=by
 have a:=hp
 unfold C6 at a
 simp only[aL,bM,decide_eq_true_eq]at a
 have c:=Qf p a.1 true
 have d:500 * p.length<=500 * 16:=aX (bP _) a.2
 have e:Cj p=Cs true p:=by unfold Cj;rw[if_pos hp];rfl
 rw[A1x,e]
 have b: ¬ (20000:Int)<((Cs true p).size :Int):=by omega
 have:=Abs (Cs true p) (by omega) p hp p [] 0 rfl rfl (by omega)
 simp only[aN,bQ]at this
 simp only[cZ,aA,cW,b,Ze,aS,aB,Zf,this]
end Go.CT.Sch
namespace Go.CT
def SS (l:List ByteArray):Prop:=l.Pairwise λa b=>blt a b=true
theorem SS.ext: ∀ {a b:List ByteArray},SS a->SS b->(∀x,x∈a↔x∈b)->a=b
 | [],[],_,_,_=>rfl
 | [],y::b,_,_,h=>by have:=(h y).2 dR;cases this
 | x::a,[],_,_,h=>by have:=(h x).1 dR;cases this
 | x::a,y::b,j,m,h=>by
  obtain⟨i,a2⟩:=bC.1 j
  obtain⟨b1,b2⟩:=bC.1 m
  have d:x=y:=by
   rcases bH.1 ((h x).1 dR) with e | e
   ·exact e
   ·rcases bH.1 ((h y).2 dR) with g | g
    ·exact g.symm
    ·have:=G4 (b1 x e) (i y g)
     rw[Ez]at this;cases this
  subst d
  rw[SS.ext a2 b2 λz=>⟨λc=>?_,λc=>?_⟩]
  ·rcases bH.1 ((h z).1 (cQ _ c)) with rfl | e
   ·have:=i z c;rw[Ez]at this;cases this
   ·exact e
  ·rcases bH.1 ((h z).2 (cQ _ c)) with rfl | e
   ·have:=b1 z c;rw[Ez]at this;cases this
   ·exact e
theorem Yv {l:List (List UInt8)}{x:List UInt8} :x∈Lib.compact l↔x∈l:=by
 unfold Lib.compact Lib.compactUpTo
 simp only[dZ,cH,gW]
 constructor
 ·rintro⟨j,⟨g,_⟩,rfl⟩
  have:l.toArray[j]! =l[j]:=by simp[g]
  rw[this];exact aK g
 ·intro m
  obtain⟨i,a,rfl⟩:=List.mem_iff_getElem.1 m
  -- the first place
  have: ∀i,∀a:i<l.length,∃j,j<l.length/\Lib.keeps l.toArray j=true/\l.toArray[j]! =l[i]:=by
   intro i
   induction i with
   | zero=>intro a;exact⟨0,a,by simp[Lib.keeps],by simp[a]⟩
   | succ i o=>
    intro a
    by_cases h:l[i]=l[i+1]
    ·obtain⟨j,b,c,d⟩:=o (by omega)
     exact⟨j,b,c,d.trans h⟩
    ·refine⟨i+1,a,Lib.keeps_pos ?_,by simp[a]⟩
     have b:i<l.length:=by omega
     simp[a,b]
     exact λe=>h e.symm
  obtain⟨j,b,c,d⟩:=this i a
  exact⟨j,⟨b,c⟩,d⟩
theorem Aip {l:List (List UInt8)}(h:l.Pairwise λa b=>Op.bytesLess b a=false):(Lib.compact l).Pairwise λa b=>Op.bytesLess a b=true:=by
 unfold Lib.compact Lib.compactUpTo
 rw[gF]
 have u:((iJ l.length).filter (Lib.keeps l.toArray)).Pairwise (· < ·):=fR _ List.pairwise_lt_range
 refine u.imp_of_mem fun {i j} w q x=>?_
 simp only[cH,gW]at w q
 obtain⟨c,d⟩:=q
 have g:i<l.length:=by omega
 have hp:j - 1<l.length:=by omega
 have ei:l.toArray[i]! =l[i]:=by simp[g]
 have ej:l.toArray[j]! =l[j]:=by simp[c]
 have ep:l.toArray[j - 1]! =l[j - 1]:=by simp[hp]
 rw[ei,ej]
 have m:l[j]≠l[j - 1]:=by
  intro e
  have:Lib.keeps l.toArray j=false:=Lib.keeps_neg (by omega) (by rw[ej,ep];exact e)
  rw[this]at d;cases d
 have r:Op.bytesLess l[j] l[j - 1]=false:=eS.1 h (j - 1) j hp c (by omega)
 have o:Op.bytesLess l[j - 1] l[j]=true:=by
  rcases V0 l[j - 1] l[j]with h | h | h
  ·exact h
  ·exact absurd h.symm m
  ·rw[h]at r;cases r
 by_cases y:i=j - 1
 ·subst y;exact o
 ·have t:Op.bytesLess l[j - 1] l[i]=false:=eS.1 h i (j - 1) g hp (by omega)
  rcases V0 l[i] l[j - 1]with h | h | h
  ·exact Ac7 h o
  ·rw[h];exact o
  ·rw[h]at t;cases t
def Wb (l:List ByteArray):List ByteArray:=Gu (Qm l)
theorem Pu {l:List ByteArray}{x:ByteArray} :x∈Wb l↔x∈l:=by
 unfold Wb Gu
 rw[Vx];unfold Alo
 rw[Acv,dZ]
 constructor
 ·rintro⟨y,a,rfl⟩
  rw[Yv,gA,dZ]at a
  obtain⟨z,b,rfl⟩:=a
  rw[Aei];exact b
 ·intro c
  refine⟨x.data.toList,?_,Aei x⟩
  rw[Yv,gA,dZ]
  exact⟨x,c,rfl⟩
theorem Akq (l:List ByteArray):SS (Wb l):=by
 unfold Wb Gu SS
 rw[Vx];unfold Alo
 rw[Acv,gF]
 refine(Aip (Afz _)).imp λh=>?_
 unfold blt
 rw[Si,Si];exact h
theorem Nw (l:List ByteArray):(Wb l).length <=l.length:=by
 unfold Wb Gu
 rw[Vx];unfold Alo
 rw[Acv,aD]
 have a: ∀l:List (List UInt8),(Lib.compact l).length <=l.length:=λl=>by
  have a:(Lib.compact l).length <=(iJ l.length).length :=by
   unfold Lib.compact Lib.compactUpTo
   rw[aD]
   exact dA _ _
  simpa using a
 refine dE (a _) ?_
 rw[List.length_mergeSort,aD];exact bP _
end Go.CT
namespace Go.CT.Sch
open Go.Proofs
abbrev SL (l:List ByteArray):IV:=eB IV.str l
theorem Akl {l:List ByteArray}(h:l.length<=1099511627776):O.M0 [SL l]=some [SL l]:=by
 unfold O.M0 SL eB
 simp only[aD]
 rw[if_pos (by unfold Bb;omega)]
theorem A3v {l:List ByteArray}(h:l.length<=1099511627776):O.Ale [SL l]=some [SL (Qm l)]:=by
 unfold O.Ale SL eB
 simp only[Mw,aA]
 rw[if_pos (by omega)]
theorem Ak9 {l:List ByteArray}(h:l.length<=1099511627776):O.Nj [SL l]=some [SL (Gu l)]:=by
 unfold O.Nj SL eB
 simp only[Mw,aA]
 rw[if_pos (by omega)]
theorem Bio {l:List ByteArray}(h:l.length<=1099511627776):W F144 0 [SL l]=some [SL (Wb l)]:=by
 have a:(Qm l).length =l.length:=(P5 l).length_eq
 rw[A4d,A1h]
 simp only[bI,A6c,Bgg,Bee,Bgm,Akl h,A3v h,Ak9 (l:=Qm l) (by omega)]
 rfl
theorem Bai (a b:List ByteArray)(m:a.length<=1048576)(o:b.length<=1048576):W F187 0 [.list [SL a,SL b]]=some [SL (a++b)]:=by
 have g:O.Ajp 16 [.list [],.int ((a.length:Int)+(b.length:Int))]=some [.list []]:=by
  simp only[O.Ajp]
  rw[if_pos]
  unfold Bb
  refine⟨by omega,?_,?_⟩<;>simp only[bB]<;>omega
 have w1:IntKind.i64.wrap (0+(a.length:Int))=(a.length:Int):=by rw[wrap64 (by omega) (by omega)];omega
 have h:IntKind.i64.wrap ((a.length:Int)+(b.length:Int))=(a.length:Int)+(b.length:Int):=wrap64 (by omega) (by omega)
 have c:IntKind.i64.wrap (0+1)=1:=by decide
 have d:IntKind.i64.wrap (1+1)=2:=by decide
 have i: ¬ (a.length:Int)<0:=by omega
 have j: ¬ (a.length:Int)+(b.length:Int)<0:=by omega
 have ap1:fQ 16 (.list []) (SL a)=some (SL a):=by
  unfold SL eB
  rw[eW,if_pos (by simp only[bB,aD,Bb];omega)]
  rfl
 have ap2:fQ 16 (SL a) (SL b)=some (SL (a++b)):=by
  unfold SL eB
  rw[eW,if_pos (by simp only[aD,Bb];omega),cG]
 have i0:eU (.list [SL a,SL b]) (.int 0)=some (SL a):=rfl
 have i1:eU (.list [SL a,SL b]) (.int 1)=some (SL b):=rfl
 have e:O.len (.list [SL a,SL b])=some (.int 2):=rfl
 have lt0:decide ((0:Int)<2)=true:=by decide
 have lt1:decide ((1:Int)<2)=true:=by decide
 have lt2:decide ((2:Int)<2)=false:=by decide
 rw[A3x]
 simp only[e,aA]
 rw[Aef]
 simp only[bA,lt0,aA,aS,Zt,i0,cT,bR,w1,i,Ze,aB,Zf]
 rw[Anz]
 simp only[bR,c,aA]
 rw[Aef]
 simp only[bA,lt1,aA,aS,Zt,i1,cT,bR,h,j,Ze,aB,Zf]
 rw[Anz]
 simp only[bR,d,aA]
 rw[Aef]
 simp only[bA,lt2,aA,aS,aB,Zf,Bel,g,bI,e]
 rw[Ac1]
 simp only[bA,lt0,aA,aS,Zt,i0,ap1,bR,c]
 rw[Ac1]
 simp only[bA,lt1,aA,aS,Zt,i1,ap2,bR,d]
 rw[Ac1]
 simp only[bA,lt2,aA,aS,aB,Zf]
theorem A7e (a b:List ByteArray)(c:a.length<=1048576)(d:b.length<=1048576):W F186 0 [SL a,SL b]=some [SL (Wb (a++b))]:=by
 rw[A1w]
 simp only[fX,aA,Bai a b c d,bI,Bio (l:=a++b) (by simp only[aO];omega)]
def inB (l:List ByteArray)(s:ByteArray):Bool:=l.any λt=>decide (s=t)
theorem Hs {l:List ByteArray}{s:ByteArray} :inB l s=true↔s∈l:=by
 unfold inB;rw[List.any_eq_true]
 constructor
 ·rintro⟨t,a,b⟩;rw[of_decide_eq_true b];exact a
 ·intro h;exact⟨s,h,by simp⟩
theorem R1 (k:ByteArray)(ks:List ByteArray)(s:ByteArray):inB (k::ks) s=(decide (s=k)||inB ks s):=rfl
def Oj (ks:List ByteArray):List IV:=ks.map λk=> .agg [.str k,.bool true]
theorem Azn (s t:ByteArray):(IV.str s).Qs (.str t)=some (decide (s=t)):=by
 have:(s.toList == t.toList)=decide (s=t):=by
  rw[aT,beq_iff_eq,decide_eq_true_iff];exact O.T2
 simp only[IV.Qs,this]
theorem Zn (s:ByteArray): ∀ks:List ByteArray,Vt (.str s) (Oj ks)=some (if inB ks s then some (.bool true) else none)
 | []=>rfl
 | k::ks=>by
  have a:=Zn s ks
  unfold Oj at a ⊢
  simp only[bN,Vt,Azn]
  by_cases h:s=k
  ·subst h;simp[R1]
  ·simp only[h,Ze,a,R1,eD]
theorem Ax9 (s:ByteArray): ∀ks:List ByteArray,Axf (.str s) (.bool true) (Oj ks)=some (Oj (if inB ks s then ks else ks++ [s]))
 | []=>rfl
 | k::ks=>by
  have a:=Ax9 s ks
  unfold Oj at a ⊢
  simp only[bN,Axf,Azn]
  by_cases h:s=k
  ·subst h;simp[R1]
  ·simp only[h,Ze,a,R1,eD,aI]
   cases inB ks s<;>simp
def Oh:List ByteArray->List ByteArray->List ByteArray
 | acc,[]=>acc
 | acc,s::l=>Oh (if inB acc s then acc else acc++ [s]) l
theorem Y8: ∀ (l acc:List ByteArray) (x:ByteArray),x∈Oh acc l↔x∈acc\/x∈l
 | [],acc,x=>by simp[Oh]
 | s::l,acc,x=>by
  rw[Oh,Y8 l]
  by_cases h':inB acc s=true
  ·have h:=Hs.1 h'
   simp only[h',Zt,bH]
   constructor
   ·rintro (a | a)
    ·exact .inl a
    ·exact .inr (.inr a)
   ·rintro (a | rfl | a)
    ·exact .inl a
    ·exact .inl h
    ·exact .inr a
  ·simp[h',or_assoc]
theorem Bg3 (s:ByteArray)(ks:List ByteArray)(is:Bool):W F154 0 [.str s,.list (Oj ks),.bool is]=some [.bool (inB ks s !=is),.list (Oj ks),.bool is]:=by
 have c:O.Aou (.bool false) (.list (Oj ks)) (.str s)=some (.bool (inB ks s)):=by
  unfold O.Aou
  simp only[dD,Zn,aI]
  cases inB ks s<;>simp
 have a: ∃b,O.Aj0 (.list (Oj ks)) (.str s)=some (.bool b):=by
  unfold O.Aj0
  simp only[dD,Zn,aI]
  exact⟨_,rfl⟩
 obtain⟨b,a⟩:=a
 rw[A2y]
 simp only[c,a,aA,O.A0f]
end Go.CT.Sch
namespace Go.CT.Sch
open Go.Proofs
def Af7 (ks:List ByteArray)(is:Bool)(s:ByteArray):Bool:= !(inB ks s !=is)
theorem A7a (l ks:List ByteArray)(is:Bool)(e:l.length<=1099511627776): ∀ (n i:Nat),i+n=l.length->(∀p∈l.take i,Af7 ks is p=true)->
  (W F153 1 [SL l,.int l.length,.int i,.bool is,.list (Oj ks)]=some [.int (-1),.list (Oj ks),.bool is]/\ ∀p∈l,Af7 ks is p=true)\/
  ∃j,∃h:j<l.length,W F153 1 [SL l,.int l.length,.int i,.bool is,.list (Oj ks)]=some [.int (j:Nat),.list (Oj ks),.bool is]/\Af7 ks is l[j]=false/\ ∀p∈l.take j,Af7 ks is p=true
 | 0,i,h,hp=>by
  left
  rw[Ap9]
  have g: ¬ i<l.length:=by omega
  rw[dW (by omega)]at hp
  refine⟨?_,hp⟩
  simp only[bA,Aj,g,Ze,aA,aS,aB,Zf]
 | n+1,i,h,hp=>by
  have a:i<l.length:=by omega
  have m:=Bd (i:=i) (by omega)
  have d:=eT IV.str (aC a)
  rw[Ap9]
  cases c:(inB ks l[i] !=is) with
  | true=>
   right
   refine⟨i,a,?_,by simp[Af7,c],hp⟩
   simp only[bA,Aj,a,Zd,aA,aS,Zt,d,Bg3,iI,c]
  | false=>
   have:=A7a l ks is e n (i+1) (by omega) (by
    intro p b
    rw[<-List.take_append_getElem a]at b
    rcases dK.1 b with h | h
    ·exact hp p h
    ·simp at h;subst h;simp[Af7,c])
   simp only[bA,Aj,a,Zd,aA,aS,Zt,d,Bg3,iI,c,aB,Zf,bR,m]
   exact this
theorem Yn (ks:List ByteArray)(is:Bool): ∀ (rest kept junk:List ByteArray),junk≠ []->kept.length+junk.length+rest.length<=1099511627776->
  W F152 1 [.int kept.length,.int (kept.length+junk.length:Nat),.bool is,SL (kept++(junk++rest)),.list (Oj ks)]=some [SL (kept++rest.filter (Af7 ks is)),.list (Oj ks),.bool is]
 | [],kept,junk,d,e=>by
  have r:=bX.2 d
  rw[Am1,cT]
  have b: ¬ ((kept.length+junk.length:Nat):Int)<(kept++(junk++ [])).length :=by simp
  have o: ∀z:IV,O.clear z (SL (kept++(junk++ []))) (.int kept.length) (.int (kept++(junk++ [])).length)=some (.list (kept.map IV.str++List.replicate junk.length z)):=by
   intro z
   unfold O.clear SL eB
   simp only[dD,bK,aD,aO,aH,true_and,aG,bP,and_true]
   rw[if_pos (by omega)]
   simp
  have t: ∀ys:List IV,O.slice (.list (kept.map IV.str++ys)) (.int 0) (.int kept.length)=some (SL kept):=by
   intro ys
   rw[O.Py,if_pos (by simp only[aO,aD];omega)]
   simp[SL,eB]
  have a: ∃y,O.slice (SL (kept++(junk++ []))) (.int kept.length) (.int (kept++(junk++ [])).length)=some y:=by
   unfold SL eB
   rw[O.Py,if_pos (by simp only[aO,aD];omega)]
   exact⟨_,rfl⟩
  obtain⟨y,a⟩:=a
  simp only[bK]at b o a
  simp only[bK,aA,bA,b,Ze,aS,aB,Zf,a,o,t,List.filter_nil,bK]
 | v::rest,kept,[],d,e=>absurd rfl d
 | v::rest,kept,y::js,d,e=>by
  simp only[aZ]at e
  rw[Am1,cT]
  have b:((kept.length+(y::js).length :Nat):Int)<(kept++(y::js++v::rest)).length :=by simp;omega
  have q:IntKind.i64.wrap (((kept.length+(y::js).length :Nat):Int)+1)=((kept.length+(y::js).length +1:Nat):Int):=by simp only[aZ];rw[wrap64 (by omega) (by omega)];omega
  have g:IntKind.i64.wrap ((kept.length:Int)+1)=((kept.length+1:Nat):Int):=Bd (by omega)
  have gv:=eT IV.str (Srt.Df (l:=kept++(y::js++v::rest)) (A:=kept++y::js) (x:=v) (B:=rest) (by simp) (i:=kept.length+(y::js).length) (by simp))
  have gi:=eT IV.str (Srt.Df (l:=kept++(y::js++v::rest)) (A:=kept) (x:=y) (B:=js++v::rest) (by simp) (i:=kept.length) rfl)
  have st:=Srt.Jn (l:=kept++(y::js++v::rest)) (A:=kept) (x:=y) (y:=v) (B:=js++v::rest) (by simp) (i:=kept.length) rfl
  have h:kept.length<(kept++(y::js++v::rest)).length :=by simp
  rw[bY]
  cases c:(inB ks v !=is) with
  | true=>
   have j:=Yn ks is rest kept (y::js++ [v]) (by simp) (by simp;omega)
   have m:Af7 ks is v=false:=by simp[Af7,c]
   simp only[aA,bA,b,Zd,aS,Zt,gv,Bg3,iI,c,cV,aV,aB,Zf,Amk,bR,q,m]
   rw[show kept.length+(y::js).length +1=kept.length+(y::js++ [v]).length by simp;omega]
   rw[<-j];simp
  | false=>
   have j:=Yn ks is rest (kept++ [v]) (js++ [v]) (by simp) (by simp;omega)
   have m:Af7 ks is v=true:=by simp[Af7,c]
   simp only[aA,bA,b,Zd,aS,Zt,gv,Bg3,iI,c,cV,aY,gi,Srt.Aru IV.str h,st,bR,g,Amk,q,m]
   rw[show kept.length+(y::js).length +1=(kept++ [v]).length +(js++ [v]).length by simp;omega,show kept.length+1=(kept++ [v]).length by simp]
   rw[show kept++v::(js++v::rest)=kept++ [v]++(js++ [v]++rest) by simp,j]
   simp
theorem A9g (l ks:List ByteArray)(is:Bool)(h:l.length<=1099511627776):
  W F152 0 [SL l,.list (Oj ks),.bool is]=some [SL (l.filter (Af7 ks is)),.list (Oj ks),.bool is]:=by
 rw[A6p,A5c]
 have key:=A7a l ks is h l.length 0 (by omega) (by simp)
 simp only[aN]at key
 rcases key with⟨a,b⟩ | ⟨j,i,a,b,m⟩
 ·simp only[cT,aA,a,iI,aW,Zd,aS,Zt]
  rw[fU.2 b]
 ·have c: ¬ (j:Int)= -1:=by omega
  have d:IntKind.i64.wrap ((j:Int)+1)=((j+1:Nat):Int):=Bd (by omega)
  simp only[cT,aA,a,iI,aW,c,Ze,aS,aB,Zf,bR,d]
  have g:l=l.take j++([l[j]]++l.drop (j+1)):=by
   rw[eA,<-aE i,fJ]
  have e:(l.take j).length =j:=by rw[eX];omega
  have o:(l.drop (j+1)).length =l.length - (j+1):=by rw[dF]
  have hd:=Yn ks is (l.drop (j+1)) (l.take j) [l[j]] (by simp) (by simp only[aQ];omega)
  rw[e,aQ,<-g]at hd
  rw[hd]
  have q:l.filter (Af7 ks is)=l.take j++(l.drop (j+1)).filter (Af7 ks is):=by
   conv=>lhs;rw[g]
   rw[eO,eO,fU.2 m]
   congr 1
   simp[b]
  rw[q]
theorem Av5 (a b:List ByteArray)(is:Bool)(d:a.length<=1048576)(e:b.length<=1048576): ∀ (n i:Nat) (acc:List ByteArray),i+n=b.length->
  W F151 1 [SL a,SL b,.int b.length,.int i,.bool is,.list (Oj acc)]=some [SL ((Wb a).filter (Af7 (Oh acc (b.drop i)) is))]
 | 0,i,acc,h=>by
  have g: ¬ i<b.length:=by omega
  have hd:=A9g (Wb a) acc is (by have:=Nw a;omega)
  rw[A7b]
  simp only[bA,Aj,g,Ze,aA,aS,aB,Zf,Bio (l:=a) (by omega),bI,hd,iI]
  rw[aF (by omega)];rfl
 | n+1,i,acc,h=>by
  have c:i<b.length:=by omega
  have j:=Bd (i:=i) (by omega)
  have m:=eT IV.str (aC c)
  have o:O.Arb (.list (Oj acc)) (.str b[i]) (.bool true)=some (.list (Oj (if inB acc b[i]then acc else acc++ [b[i]]))):=by
   unfold O.Arb
   simp only[dD,Ax9,aI]
  rw[A7b]
  simp only[bA,Aj,c,Zd,aA,aS,Zt,m,o,bR,j]
  rw[Av5 a b is d e n (i+1) _ (by omega),aE c,Oh]
theorem Bd8 (a b:List ByteArray)(is:Bool)(c:a.length<=1048576)(d:b.length<=1048576):
  W F151 0 [SL a,SL b,.bool is]=some [SL ((Wb a).filter (λs=>inB b s == is))]:=by
 have h:=Av5 a b is c d b.length 0 [] (by omega)
 simp only[aN,aP]at h
 rw[A2a,cT]
 simp only[aA]
 refine h.trans ?_
 have e:Af7 (Oh [] b) is=λs=>inB b s == is:=by
  funext s
  have:inB (Oh [] b) s=inB b s:=by
   rw[aT,Hs,Hs,Y8];simp
  unfold Af7
  rw[this]
  cases inB b s<;>cases is<;>rfl
 rw[e]
end Go.CT.Sch
namespace Go.CT.Sch
open Go.Proofs
def leB (s x:ByteArray):Bool:=blt s x||decide (s=x)
def Ack (s:ByteArray):Bool->List ByteArray->List ByteArray
 | d,[]=>if d then[]else[s]
 | d,x::r=>(if !d &&leB s x then[s]else[])++(if x=s then[]else[x])++Ack s (d||leB s x) r
theorem S4 (s:ByteArray): ∀l,Ack s true l=l.filter λx=> !decide (x=s)
 | []=>rfl
 | x::r=>by
  rw[Ack,dX,S4 s r,bY]
  by_cases h:x=s<;>simp[h]
theorem Aeo (s x:ByteArray): ∀l,x∈Ack s false l↔x=s\/x∈l
 | []=>by simp[Ack]
 | y::r=>by
  rw[Ack]
  cases h:leB s y with
  | true=>
   rw[eK,S4]
   by_cases a:y=s
   ·subst a
    by_cases c:x=y<;>simp[c]
   ·simp only[aY,bJ,Zt,a,Zf,dK,dQ,cH,gG,decide_eq_false_iff_not,bH,gK,or_false]
    constructor
    ·rintro ((h | h) | h)
     ·exact .inl h
     ·exact .inr (.inl h)
     ·exact .inr (.inr h.1)
    ·rintro (h | h | h)
     ·exact .inl (.inl h)
     ·exact .inl (.inr h)
     ·by_cases b:x=s
      ·exact .inl (.inl b)
      ·exact .inr ⟨h,b⟩
  | false=>
   have a: ¬ y=s:=by rintro rfl;simp[leB]at h
   simp only[aY,bJ,aB,Zf,a,bE,dK,dQ,fF,Aeo s x r,bH,gK,or_false]
   constructor
   ·rintro (h | h | h)
    ·exact .inr (.inl h)
    ·exact .inl h
    ·exact .inr (.inr h)
   ·rintro (h | h | h)
    ·exact .inr (.inl h)
    ·exact .inl h
    ·exact .inr (.inr h)
theorem At3 (s:ByteArray): ∀l,SS l->SS (Ack s false l)
 | [],_=>cF _ _
 | y::r,j=>by
  obtain⟨d,g⟩:=bC.1 j
  rw[Ack]
  cases h:leB s y with
  | true=>
   rw[eK,S4]
   have e:(if !false &&true then[s]else[])++(if y=s then[]else[y])++r.filter (λx=> !decide (x=s))=s::(y::r).filter (λx=> !decide (x=s)):=by
    rw[bY]
    by_cases g:y=s<;>simp[g]
   rw[e]
   refine bC.2 ⟨λx a=>?_,fR _ j⟩
   simp only[cH,gG,decide_eq_false_iff_not]at a
   have b:blt s y=true\/s=y:=by simpa [leB]using h
   rcases bH.1 a.1 with rfl | m
   ·exact b.resolve_right λe=>a.2 e.symm
   ·rcases b with h | rfl
    ·exact G4 h (d x m)
    ·exact d x m
  | false=>
   have o: ¬ y=s:=by rintro rfl;simp[leB]at h
   have i:blt y s=true:=by
    rcases Kt s y with c | c | c
    ·simp[leB,c]at h
    ·exact absurd c.symm o
    ·exact c
   simp only[aY,bJ,aB,Zf,o,bE,eA,fF]
   refine bC.2 ⟨λx a=>?_,At3 s r g⟩
   rcases(Aeo s x r).1 a with rfl | a
   ·exact i
   ·exact d x a
theorem Acs (s:ByteArray): ∀l,(Ack s false l).length <=l.length+1
 | []=>by simp[Ack]
 | x::r=>by
  have b:=Acs s r
  have c:(if x=s then([]:List ByteArray) else[x]).length <=1:=by split<;>simp
  rw[Ack,aO,aO,aZ]
  cases h:leB s x with
  | true=>
   rw[eK,S4]
   have:=dA (λx=> !decide (x=s)) r
   have a:(if(!false &&true)=true then[s]else[]).length =1:=rfl
   rw[a];omega
  | false=>
   have a:(if(!false &&false)=true then[s]else[]).length =0:=rfl
   rw[a,fF];omega
theorem Azp (l:List ByteArray)(s:ByteArray)(g:l.length<=1048576): ∀ (n i:Nat) (d:Bool) (out:List ByteArray),i+n=l.length->out.length<=i+(if d then 1 else 0)->
  W Bhz 1 [SL l,.str s,.bool d,.int i,SL out]=some [SL (out++Ack s d (l.drop i))]
 | 0,i,d,out,h,a=>by
  have r: ¬ i<l.length:=by omega
  have ap:fQ 16 (SL out) (.list [.str s])=some (SL (out++ [s])):=by
   have a:out.length<=i+1:=by cases d<;>simp at a<;>omega
   unfold SL eB
   rw[eW,if_pos (by simp only[aD,aQ,Bb];omega)]
   simp
  rw[Aps,cT,aF (by omega)]
  cases d<;>simp[Aj,r,Ack,ap]
 | n+1,i,d,out,h,a=>by
  have c:i<l.length:=by omega
  have j:=Bd (i:=i) (by omega)
  have e:=eT IV.str (aC c)
  have ap: ∀ (o:List ByteArray) (t:ByteArray),o.length<=i+3->fQ 16 (SL o) (.list [.str t])=some (SL (o++ [t])):=by
   intro o t a
   unfold SL eB
   rw[eW,if_pos (by simp only[aD,aQ,Bb];omega)]
   simp
  -- the second half
  have half: ∀ (b:Bool) (o:List ByteArray),o.length<=i+(if b then 1 else 0)->W Bhz 2 [SL l,.str s,.bool b,.int i,SL o]=some [SL (o++((if l[i]=s then[]else[l[i]])++Ack s b (l.drop (i+1))))]:=by
   intro b o a
   rw[A3h]
   by_cases m:l[i]=s
   ·have:=Azp l s g n (i+1) b o (by omega) (by omega)
    simp only[e,aA,gX,m,Zd,aV,aS,aB,Zf,Aqi,bR,j,this,Zt,bE]
   ·have:=Azp l s g n (i+1) b (o++ [l[i]]) (by omega) (by rw[aO,aQ];omega)
    simp only[e,aA,gX,m,Ze,aY,aS,Zt,fX,ap o l[i] (by cases b<;>simp at a<;>omega),Aqi,bR,j,this,Zf,bL]
  rw[Aps,cT,aE c,Ack]
  have hle:O.sLe (.str s) (.str l[i])=some (.bool (leB s l[i])):=by rw[O.Ajj,blt_eq];rfl
  cases d with
  | true=>
   simp only[aA,bA,Aj,c,Zd,aS,Zt,cV,aV,aB,Zf,dX,cM,bE]
   exact half true out a
  | false=>
   cases q:leB s l[i]with
   | true=>
    simp only[aA,bA,Aj,c,Zd,aS,Zt,cV,aY,e,hle,q,fX,ap out s (by simp at a;omega),eK,bJ]
    have u:out.length<=i:=by simpa using a
    rw[half true (out++ [s]) (by rw[aO,aQ,if_pos rfl];omega)]
    simp
   | false=>
    simp only[aA,bA,Aj,c,Zd,aS,Zt,cV,aY,e,hle,q,aB,Zf,fF,gT,bE]
    exact half false out a
end Go.CT.Sch
namespace Go.CT.Sch
open Go.Proofs
theorem rput (l:List ByteArray)(s:ByteArray)(a:l.length<=1048576):W Bhz 0 [SL l,.str s]=some [SL (Ack s false l)]:=by
 have:=Azp l s a l.length 0 false [] (by omega) (by simp)
 simp only[aN,aP,bE]at this
 rw[A57]
 exact this
def Sg:List ByteArray->List ByteArray->List ByteArray
 | acc,[]=>acc
 | acc,s::l=>Sg (Ack s false acc) l
theorem Acy: ∀ (l acc:List ByteArray),SS acc->SS (Sg acc l)
 | [],_,h=>h
 | s::l,acc,h=>Acy l _ (At3 s acc h)
theorem W9 (x:ByteArray): ∀ (l acc:List ByteArray),x∈Sg acc l↔x∈acc\/x∈l
 | [],acc=>by simp[Sg]
 | s::l,acc=>by
  rw[Sg,W9 x l,Aeo,bH]
  constructor
  ·rintro ((h | h) | h)
   ·exact .inr (.inl h)
   ·exact .inl h
   ·exact .inr (.inr h)
  ·rintro (h | h | h)
   ·exact .inl (.inr h)
   ·exact .inl (.inl h)
   ·exact .inr h
theorem Ao0 (l:List ByteArray): ∀ (n i:Nat) (acc:List ByteArray),i+n=l.length->acc.length+n<=1048576->l.length<=1048576->
  W Bg9 2 [SL l,.int i,SL acc]=some [SL (Sg acc (l.drop i))]
 | 0,i,acc,h,c,b=>by
  have d: ¬ i<l.length:=by omega
  rw[Aq3,cT,aF (by omega)]
  simp only[aA,bA,Aj,d,Ze,aS,aB,Zf,Sg]
 | n+1,i,acc,h,c,b=>by
  have a:i<l.length:=by omega
  have e:=Bd (i:=i) (by omega)
  have g:=eT IV.str (aC a)
  have hp:=Acs l[i] acc
  have j:=Ao0 l n (i+1) (Ack l[i] false acc) (by omega) (by omega) b
  rw[Aq3,cT,aE a,Sg]
  simp only[aA,bA,Aj,a,Zd,aS,Zt,g,rput acc l[i] (by omega),bI,bR,e,j]
theorem Aq9 (a b:List ByteArray): ∀ (n i:Nat) (acc:List ByteArray),i+n=a.length->acc.length+n+b.length<=1048576->a.length<=1048576->
  W Bg9 1 [SL a,SL b,.int i,SL acc]=some [SL (Sg (Sg acc (a.drop i)) b)]
 | 0,i,acc,h,g,d=>by
  have j: ¬ i<a.length:=by omega
  have e:=Ao0 b b.length 0 acc (by omega) (by omega) (by omega)
  simp only[aN,aP]at e
  rw[Ap7,cT,aF (by omega)]
  simp only[aA,bA,Aj,j,Ze,aS,aB,Zf,Sg]
  exact e
 | n+1,i,acc,h,g,d=>by
  have c:i<a.length:=by omega
  have m:=Bd (i:=i) (by omega)
  have o:=eT IV.str (aC c)
  have hp:=Acs a[i] acc
  have q:=Aq9 a b n (i+1) (Ack a[i] false acc) (by omega) (by omega) d
  rw[Ap7,cT,aE c,Sg]
  simp only[aA,bA,Aj,c,Zd,aS,Zt,o,rput acc a[i] (by omega),bI,bR,m,q]
theorem union_eq (a b:List ByteArray):Sg (Sg [] a) b=Wb (a++b):=
 SS.ext (Acy b _ (Acy a _ dY)) (Akq _) λx=>by rw[W9,W9,Pu,dK];simp
theorem Bgl (a b:List ByteArray)(c:a.length+b.length<=1048576):W Bg9 0 [SL a,SL b]=some [SL (Wb (a++b))]:=by
 have:=Aq9 a b a.length 0 [] (by omega) (by simp only[bB];omega) (by omega)
 simp only[aN,aP,union_eq]at this
 rw[A6s]
 exact this
def Hy (a b:List ByteArray):List ByteArray:=(Wb a).filter λs=> !inB b s
def Pf (a b:List ByteArray):List ByteArray:=(Wb a).filter λs=>inB b s
theorem Ag5 (a b:List ByteArray)(c:a.length<=1048576)(d:b.length<=1048576):W F150 0 [SL a,SL b]=some [SL (Hy a b)]:=by
 rw[A6y,Bd8 a b false c d]
 simp only[bI]
 congr 3
 unfold Hy;congr 1;funext s;cases inB b s<;>rfl
theorem A7z (a b:List ByteArray)(c:a.length<=1048576)(d:b.length<=1048576):W F209 0 [SL a,SL b]=some [SL (Pf a b)]:=by
 rw[A5m,Bd8 a b true c d]
 simp only[bI]
 congr 3
 unfold Pf;congr 1;funext s;cases inB b s<;>rfl
theorem Oy (a b:List ByteArray):(Hy a b).length <=a.length:=dE (dA _ _) (Nw a)
end Go.CT.Sch
namespace Go.CT.Sch
open Go.Proofs
abbrev Kid:=Stp × Val × Option Sch
def R5 (key:ByteArray)(x:Val):Stp:=⟨3,key,0,Dq x key⟩
def Dv (key:ByteArray):List ByteArray->List Val->Bool
 | _,[]=>true
 | met,x::l=>isKey x key&& !inB met (Dq x key)&&Dv key (met++ [Dq x key]) l
def kids:Option Sch->Val->List Kid
 | none,_=> []
 | some s,v=>if s.k=v.k then(if v.k=5 then v.f.map λx=>(Ch x.1,x.2,Eb s x.1) else if v.k=4/\s.key≠Am/\Dv s.key [] v.l=true then v.l.map λx=>(R5 s.key x,x,s.it.head?) else[]) else[]
def K8 (s:ByteArray):Val:=⟨3,0,s,[],[]⟩
def lv:Nat->Option Sch->Val->List Stp->List ByteArray
 | 0,_,_,_=> []
 | d+1,o,v,p=>if kids o v= []then[Cj p]else(kids o v).flatMap λx=>lv d x.2.2 x.2.1 (p++ [x.1])
def Gc (r:Kid->Val × Bool)(l:List Kid):List (Stp × Val):=l.filterMap λx=>if(r x).2 then some (x.1,(r x).1) else none
def fieldsOf (l:List (Stp × Val)):List (ByteArray × Val):=l.map λx=>(x.1.nm,x.2)
def Ee (l:List (Stp × Val)):List Val:=l.map λx=>De x.2 x.1.nm (K8 x.1.vl)
def pt:Nat->Option Sch->Val->List Stp->(ByteArray->Bool)->Val × Bool
 | 0,_,v,_,_=>(v,false)
 | d+1,o,v,p,ch=>if kids o v= []then(v,ch (Cj p)) else
  (⟨
    v.k,0,Am,if v.k=5 then[]else Ee (Gc (λx=>pt d x.2.2 x.2.1 (p++ [x.1]) ch) (kids o v)),
    if v.k=5 then fieldsOf (Gc (λx=>pt d x.2.2 x.2.1 (p++ [x.1]) ch) (kids o v)) else[]⟩,
   !(Gc (λx=>pt d x.2.2 x.2.1 (p++ [x.1]) ch) (kids o v)).isEmpty)
theorem Ms {o:Option Sch}{v:Val}{x:Kid}(h:x∈kids o v):x.2.1.size<v.size/\x.2.1.Ap<v.Ap:=by
 cases o with
 | none=>simp[kids]at h
 | some s=>
  rw[kids]at h
  split at h
  ·split at h
   ·obtain⟨p,hp,rfl⟩:=dZ.1 h
    have:=eF hp
    exact⟨Val.Vi hp,by show p.2.Ap<v.Ap;omega⟩
   ·split at h
    ·obtain⟨p,hp,rfl⟩:=dZ.1 h
     exact⟨Val.Vl hp,eM hp⟩
    ·simp at h
  ·simp at h
end Go.CT.Sch
namespace Go.CT.Sch
open Go.Proofs
theorem Aot {α β R:Type}(l:List α)(I:Nat->β->Prop)(F:Nat->β->R)(step:β->α->β)(fin:β->R)
  (g: ∀i (a:i<l.length) b,I i b->F i b=F (i+1) (step b l[i])/\I (i+1) (step b l[i])) (j: ∀b,I l.length b->F l.length b=fin b):
  ∀ (n i:Nat) (b:β),i+n=l.length->I i b->F i b=fin ((l.drop i).foldl step b)
 | 0,i,b,h,c=>by
  have:i=l.length:=by omega
  subst this
  rw[j b c,List.drop_length];rfl
 | n+1,i,b,h,c=>by
  have a:i<l.length:=by omega
  obtain⟨e,d⟩:=g i a b c
  rw[e,Aot l I F step fin g j n (i+1) _ (by omega) d,aE a];rfl
theorem Ahq {α β R:Type}(l:List α)(I:Nat->β->Prop)(F:Nat->β->R)(step:β->α->β)(fin:β->R)(b:β)
  (a: ∀i (e:i<l.length) b,I i b->F i b=F (i+1) (step b l[i])/\I (i+1) (step b l[i])) (c: ∀b,I l.length b->F l.length b=fin b) (d:I 0 b):
  F 0 b=fin (l.foldl step b):=by
 have:=Aot l I F step fin a c l.length 0 b (by omega) d
 rwa [aP]at this
theorem Se {α β:Type}(g:α->β): ∀ (l:List α) (b:List β),l.foldl (λb x=>b++ [g x]) b=b++l.map g
 | [],b=>by simp
 | x::l,b=>by rw[List.foldl_cons,Se g l];simp
theorem Jq {α:Type}(enc:α->IV){l:List α}{i:Nat}(h:i<l.length):eU (.list (l.map enc)) (.int i)=some (enc l[i]):=by
 simp only[cE,aH,Zt,aG,aJ,aC h,aI]
theorem Gi {α:Type}(enc:α->IV)(l:List α):O.len (.list (l.map enc))=some (.int l.length):=by rw[bZ,aD]
theorem apm {α:Type}(enc:α->IV){n:Nat}(l:List α)(x:α)(b:l.length<=137438953471)(a:n<=1024:=by decide):fQ n (.list (l.map enc)) (.list [enc x])=some (.list ((l++ [x]).map enc)):=by
 rw[eW,if_pos]
 ·simp
 ·have:(l.length+1) * n<=137438953472 * 1024:=aX (by omega) a
  simp only[aD,aQ]
  unfold Bb;omega
theorem lti {i n:Nat}(h:i<n):O.lt (.int i) (.int n)=some (.bool true):=by rw[bA];simp;omega
theorem ltn (n:Nat):O.lt (.int n) (.int n)=some (.bool false):=by rw[bA];simp
theorem nxt {i:Nat}(h:i<4611686018427387904):O.add .i64 (.int i) (.int 1)=some (.int ((i+1:Nat):Int)):=by rw[bR,Bd (by omega)]
def Hj (x:Kid):IV:= .agg [.int x.1.k,.str x.1.nm,.int x.1.ix,.str x.1.vl,.int x.2.1.k,.int x.2.1.n,.str x.2.1.s,.list (x.2.1.l.map bT),.list (x.2.1.f.map bG),
 .int (x.2.2.getD Br).k,.int (x.2.2.getD Br).mn,.int (x.2.2.getD Br).mx,.list ((x.2.2.getD Br).en.map .str),.str (x.2.2.getD Br).key,.list ((x.2.2.getD Br).it.map iB),.list ((x.2.2.getD Br).f.map cS),.bool x.2.2.isSome]
theorem Am8 (x:Kid):iC 0 4 (Hj x)=some x.1.enc:=rfl
theorem Ayn (x:Kid):iC 4 5 (Hj x)=some x.2.1.enc:=by rw[Val.Es,eN];rfl
theorem A9a (x:Kid):iC 9 7 (Hj x)=some (x.2.2.getD Br).enc :=by rw[Sch.Es,Sch.Bl];rfl
theorem kid0 (x:Kid):dH 0 (Hj x)=some (.int x.1.k):=rfl
theorem kid1 (x:Kid):dH 1 (Hj x)=some (.str x.1.nm):=rfl
theorem kid3 (x:Kid):dH 3 (Hj x)=some (.str x.1.vl):=rfl
theorem kid4 (x:Kid):dH 4 (Hj x)=some (.int x.2.1.k):=rfl
theorem kid9 (x:Kid):dH 9 (Hj x)=some (.int (x.2.2.getD Br).k):=rfl
theorem Biw (x:Kid):dH 13 (Hj x)=some (.str (x.2.2.getD Br).key):=rfl
theorem Bip (x:Kid):dH 16 (Hj x)=some (.bool x.2.2.isSome):=rfl
theorem Amc (s:Sch)(p:ByteArray × Val)(d:s.Ap<=1099511627776): ∀ (n i:Nat),i+n=s.f.length->
  ∃r:Int,W F139 1 [.list (s.f.map cS),bG p,.int s.f.length,.int i]=some [.int r]/\
   ((((s.f.drop i).find? λq=>decide (q.nm=p.1))=none/\r<0)\/(∃j:Nat,r=j/\s.f[j]?=((s.f.drop i).find? λq=>decide (q.nm=p.1))/\((s.f.drop i).find? λq=>decide (q.nm=p.1)).isSome =true))
 | 0,i,h=>by
  rw[Aq2]
  have b: ¬ i<s.f.length:=by omega
  refine⟨-1,by simp[b],.inl ⟨by simp[aF (bD b)],by omega⟩⟩
 | n+1,i,h=>by
  have a:i<s.f.length:=by omega
  have m:=s.Bc
  obtain⟨r,e,g⟩:=Amc s p d n (i+1) (by omega)
  rw[Aq2,aE a,bW]
  simp only[lti a,aA,aS,Zt,Jq cS a,A2j,eL,dG,gH,bI,nxt (show i<4611686018427387904 by omega),e]
  by_cases c:s.f[i].nm =p.1
  ·refine⟨i,by simp[c],.inr ⟨i,rfl,by simp[c],by simp[c]⟩⟩
  ·have c':decide (s.f[i].nm =p.1)=false:=by simpa using c
   simp only[c',aB,Zf]
   exact⟨r,rfl,g⟩
def Cy (s:Sch)(x:ByteArray × Val):Kid:=(Ch x.1,x.2,Eb s x.1)
theorem Ar2 (s:Sch)(v:Val)(z:s.Ap<=1099511627776)(H:v.Ap<=1048576):W Bgv 0 [s.enc,v.enc]=some [.list ((v.f.map (Cy s)).map Hj)]:=by
 have I:=v.Bc
 rw[A0x]
 simp only[cO,aA,Gi]
 refine(Ahq v.f (λi (b:List Kid)=>b.length=i) (λi b=>W Bgv 1 [.list (v.f.map bG),.int v.f.length,.int i,s.enc,.list (b.map Hj)]) (λb x=>b++ [Cy s x]) (λb=>some [.list (b.map Hj)]) [] ?_ ?_ rfl).trans ?_
 ·intro i u b w
  refine⟨?_,by simp[w]⟩
  rw[A7h]
  have g: ∀ (o:Option Sch),Eb s v.f[i].1 =o->W Bgv 2 [.list (v.f.map bG),.int v.f.length,.int i,s.enc,.list (b.map Hj),.int 1,.str v.f[i].1,.int 0,.str ⟨#[]⟩,.int v.f[i].2.k,.int v.f[i].2.n,.str v.f[i].2.s,.list (v.f[i].2.l.map bT),.list (v.f[i].2.f.map bG),
    .int (o.getD Br).k,.int (o.getD Br).mn,.int (o.getD Br).mx,.list ((o.getD Br).en.map .str),.str (o.getD Br).key,.list ((o.getD Br).it.map iB),.list ((o.getD Br).f.map cS),.bool o.isSome]=
    W Bgv 1 [.list (v.f.map bG),.int v.f.length,.int (i+1:Nat),s.enc,.list ((b++ [Cy s v.f[i]]).map Hj)]:=by
   rintro o rfl
   have A:=apm Hj (n:=248) b (Cy s v.f[i]) (by omega)
   rw[A3t]
   simp only[fB,fX,aA,nxt (show i<4611686018427387904 by omega)]
   have B:(IV.agg [.int 1,.str v.f[i].1,.int 0,.str ⟨#[]⟩,.int v.f[i].2.k,.int v.f[i].2.n,.str v.f[i].2.s,.list (v.f[i].2.l.map bT),.list (v.f[i].2.f.map bG),
    .int ((Eb s v.f[i].1).getD Br).k,.int ((Eb s v.f[i].1).getD Br).mn,.int ((Eb s v.f[i].1).getD Br).mx,.list (((Eb s v.f[i].1).getD Br).en.map .str),.str ((Eb s v.f[i].1).getD Br).key,.list (((Eb s v.f[i].1).getD Br).it.map iB),.list (((Eb s v.f[i].1).getD Br).f.map cS),.bool (Eb s v.f[i].1).isSome])=Hj (Cy s v.f[i]):=rfl
   rw[B,A];rfl
  simp only[lti u,aA,aS,Zt,Jq bG u,dG,dL,dU,gR,gI,cU,cO,eG,Gi,cW]
  cases c:s.it with
  | cons t ts=>
   have a:Eb s v.f[i].1 =some t:=by unfold Eb;rw[c]
   have:=g (some t) a
   simp only[cB,cN]at this
   have h:(0:Int)<((t::ts).length :Nat):=by simp
   simp only[h,Zd,Zt,bN,cE,cR,cD,bO,aA,gJ,dO,dP,eC,eP,eG,dM]
   exact this
  | nil=>
   have a:Eb s v.f[i].1 =(s.fld v.f[i].1).map (·.s):=by unfold Eb;rw[c]
   obtain⟨r,C,m⟩:=Amc s v.f[i] z s.f.length 0 (by omega)
   have q:W F139 0 [.list (s.f.map cS),bG v.f[i]]=some [.int r]:=by
    rw[A0g]
    simpa using C
   simp only[aP]at m
   have F:(s.f.find? λp=>decide (p.nm=v.f[i].1))=s.fld v.f[i].1 :=rfl
   rw[F]at m
   have h: ¬ (0:Int)<(([]:List Sch).length :Nat):=by simp
   simp only[h,Ze,aB,Zf,dM,aA,q,bI,fH,aS]
   rcases m with⟨e,y⟩ | ⟨j,rfl,e,y⟩
   ·have G: ¬ (0:Int)<=r:=by omega
    have:=g none (by rw[a,e];rfl)
    simp only[eY,dN]at this
    simp only[G,Ze,aB,Zf]
    exact this
   ·obtain⟨d,hd⟩:=dJ.1 y
    rw[hd]at e
    have:=g (some d.s) (by rw[a,hd];rfl)
    simp only[cB,cN]at this
    simp only[aH,Zd,Zt,cE,aG,aJ,e,aI,aA,gD,gJ,dO,dP,eC,eP,eG,dM]
    exact this
 ·intro b w
  rw[A7h]
  simp only[ltn,aA,aS,aB,Zf]
 ·rw[Se];rfl
end Go.CT.Sch
