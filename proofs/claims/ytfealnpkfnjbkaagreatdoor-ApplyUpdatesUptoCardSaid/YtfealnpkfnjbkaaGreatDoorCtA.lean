import Derived.Orders
import Derived.Below
import Derived.Laws.AppendOwn
import Derived.Laws.Cells
import Derived.Laws.StructEq
import Derived.Laws.BytesString
import Derived.Laws.Small
import Derived.Maps.AppendAt
import Derived.Laws.OwnMore
import Derived.Laws.Build
import Derived.Laws.MakeOwn
set_option linter.unusedVariables false
set_option linter.unusedSimpArgs false
open Array renaming length_toList->aA,getElem?_eq_some_iff->aI,getElem?_eq_getElem->bO,mem_iff_getElem->cK,toList_extract->cO,foldl_toList->cW,toList_map->cY,getD->dD
open Bool renaming and_eq_true->aC,false_eq_true->aJ,or_eq_true->bK,not_eq_true'->bQ
open Go.RowKit.Below renaming heap_alloc->bD
open Int renaming natCast_nonneg->bI
open List renaming length_take->aD,getElem?_take->aE,getElem?_eq_some_iff->aG,getElem?_drop->aH,length_drop->aK,flatMap_cons->aN,getElem?_eq_getElem->aQ,replicate->aR,mem_flatMap->aS,length_eq_zero_iff->aT,mem_cons_self->aU,mem_cons_of_mem->aV,length_append->aW,length_cons->bC,mem_append_right->bE,drop_drop->bF,take_append_of_le_length->bH,drop_of_length_le->bJ,mem_of_getElem?->bL,drop_zero->bM,mem_of_mem_take->bN,toList_toArray->bP,ext_getElem?->bR,take_of_length_le->bS,mem_of_mem_drop->bT,drop_append_of_le_length->bU,mem_append->bV,nil_append->bW,mapM_cons->bZ,mem_replicate->cB,getElem?_map->cC,all_eq_true->cE,append_nil->cJ,mem_iff_getElem?->cL,getElem?_eq_none->cN,getElem?_append->cQ,take_zero->cR,flatMap_append->cS,mem_cons->cU,map_cons->cV,take_length->cX,length->cZ,foldl_cons->dA,range->dC,take_take->dF,extract->dG
open Nat renaming mul_le_mul_right->aO,le_refl->aY,lt_succ_self->bA,add_mul->bG,zero_mul->bX,zero_add->bY,one_mul->cD,le_mul_of_pos_right->cF,succ_mul->cG,add_zero->cH,add_comm->cI,div_lt_iff_lt_mul->cM,zero_le->cP,add_assoc->cT,div_add_mod->dB,mod_lt->dE,mul_comm->dH
open Option renaming isSome_iff_exists->aF,map_some->aL,bind_eq_bind->aM,map_eq_some_iff->aP,bind_some->aX,pure_def->bB,map->dJ
open Option.some renaming injEq->aB
open Prod.mk renaming injEq->aZ
open UInt8 renaming ofNat->dI
theorem Zt.{u}{α:Sort u}{x:Decidable True}(t e:α):(if True then t else e)=t:=if_true t e
theorem Zf.{u}{α:Sort u}{x:Decidable False}(t e:α):(if False then t else e)=e:=if_false t e
theorem Zd(h:Decidable True):decide True=true:=decide_true h
theorem Ze(h:Decidable False):decide False=false:=decide_false h
namespace Go.CT
inductive IV where
 | int (n:Int)
 | bool (b:Bool)
 | str (s:ByteArray)
 | agg (xs:List IV)
 | list (xs:List IV)
 | junk
 deriving Inhabited
inductive Arg where
 | v (n:Nat)
 | k (c:IV)
 deriving Inhabited
def IV.Oq:IV->IV->Option Bool
 | .int a,.int b=>some (a == b)
 | .bool a,.bool b=>some (a == b)
 | .str a,.str b=>some (a.toList == b.toList)
 | _,_=>none
def IV.N6:List IV->List IV->Option Bool
 | [],[]=>some true
 | x::xs,y::ys=>do
  let a <-x.Oq y
  let b <-N6 xs ys
  pure (a&&b)
 | _,_=>none
inductive Prim where
 | arith (op:BinOp) (k:IntKind) -- + - *
 | quo (k:IntKind) | rem (k:IntKind)
 | bits (op:BinOp) (k:IntKind) -- & | ^ &^
 | shift (op:BinOp) (k:IntKind)
 | cmp (op:BinOp) -- integers
 | cmpS (op:BinOp) -- strings, comparisons
 | cat
 | eqB (neg:Bool)
 | eqA (neg:Bool)
 | not
 | neg (k:IntKind)
 | conv (k:IntKind)
 | len | Mo
 | index | C8
 | slice | Pk | Hq | E7
 | append (bytes:Nat)
 | Ro (bytes:Nat) -- of something
 | Po
 | Bg | Bn
 | proj (off n:Nat) (agg:Bool)
 | setAt (off n:Nat) (agg whole:Bool)
 | max | min
 | pick
 | Aus (bytes:Nat) (zero:IV)
 | bytesOf | strOf
 | clear (zero:IV)
 | copy
 | Afz
 | M0 | M4 | Ht
 | Anx (zero:IV) | Air | Anu
 deriving Inhabited
def A4:Nat:=140737488355328 -- 2^47
def K4 (op:BinOp)(x y:Int):Option Bool:=
 match op with
 | .eql =>some (x == y)
 | .neq =>some (x !=y)
 | .lss =>some (decide (x<y))
 | .leq =>some (decide (x<=y))
 | .gtr =>some (decide (x > y))
 | .geq =>some (decide (x≥y))
 | _=>none
def Kt (op:BinOp)(x y:ByteArray):Option Bool:=
 let eq:=x.toList == y.toList
 let lt:=Op.bytesLess x.toList y.toList
 match op with
 | .eql =>some eq
 | .neq =>some !eq
 | .lss =>some lt
 | .leq =>some (lt||eq)
 | .gtr =>some !(lt||eq)
 | .geq =>some !lt
 | _=>none
def setCells (cs new:List IV)(off:Nat):List IV:=cs.take off++new++cs.drop (off+new.length)
def B6 (s:ByteArray):List IV:=s.data.toList.map λb=> .int b.toNat
def J2:IV->Option UInt8
 | .int n=>if 0<=n/\n<256 then some n.toNat.toUInt8 else none
 | _=>none
def Ta (key:IV):List IV->Option (Option IV)
 | []=>some none
 | .agg [k,v]::r=>
  match key.Oq k with
  | some true=>some (some v)
  | some false=>Ta key r
  | none=>none
 | _=>none
def Aup (key val:IV):List IV->Option (List IV)
 | []=>some [.agg [key,val]]
 | .agg [k,v]::r=>
  match key.Oq k with
  | some true=>some (.agg [key,val]::r)
  | some false=>(Aup key val r).map (.agg [k,v]:: ·)
  | none=>none
 | _=>none
def Prim.ev (p:Prim)(as:List IV):Option IV:=
 match p,as with
 | .arith .add k,[.int a,.int b]=>some (.int (k.wrap (a+b)))
 | .arith .sub k,[.int a,.int b]=>some (.int (k.wrap (a - b)))
 | .arith .mul k,[.int a,.int b]=>some (.int (k.wrap (a * b)))
 | .quo k,[.int a,.int b]=>if b=0 then none else some (.int (k.wrap (a.tdiv b)))
 | .rem _,[.int a,.int b]=>if b=0 then none else some (.int (a.tmod b))
 | .shift .shl k,[.int a,.int b]=>if b<0 then none else some (.int (k.wrap (a * 2 ^ (Nat.min b.toNat k.bits))))
 | .shift .shr k,[.int a,.int b]=>if b<0 then none else some (.int (a.fdiv (2 ^ (Nat.min b.toNat k.bits))))
 | .cmp op,[.int a,.int b]=>(K4 op a b).map .bool
 | .cmpS op,[.str a,.str b]=>(Kt op a b).map .bool
 | .cat,[.str a,.str b]=>if a.size+b.size<=A4 then some (.str (a++b)) else none
 | .eqB ng,[.bool a,.bool b]=>some (.bool (if ng then a !=b else a == b))
 | .eqA ng,[.agg a,.agg b]=>(IV.N6 a b).map λr=> .bool (if ng then !r else r)
 | .not,[.bool a]=>some (.bool !a)
 | .neg k,[.int a]=>some (.int (k.wrap (0 - a)))
 | .conv k,[.int a]=>some (.int (k.wrap a))
 | .len,[.list xs]=>some (.int xs.length)
 | .Mo,[.str s]=>some (.int s.size)
 | .index,[.list xs,.int i]=>if 0<=i then xs[i.toNat]? else none
 | .C8,[.str s,.int i]=>if 0<=i then(s[i.toNat]?).map λb=> .int b.toNat else none
 | .slice,[.list xs,.int l,.int h]=>if 0<=l/\l<=h/\h<=xs.length then some (.list ((xs.take h.toNat).drop l.toNat)) else none
 | .Pk,[.list xs,.int l]=>if 0<=l/\l<=xs.length then some (.list (xs.drop l.toNat)) else none
 | .Hq,[.str s,.int l,.int h]=>if 0<=l/\l<=h/\h<=s.size then some (.str (s.extract l.toNat h.toNat)) else none
 | .E7,[.str s,.int l]=>if 0<=l/\l<=s.size then some (.str (s.extract l.toNat s.size)) else none
 | .append bytes,[.list xs,.list ys]=>if(xs.length+ys.length) * bytes<=A4 then some (.list (xs++ys)) else none
 | .Ro bytes,[.list xs,.list ys]=>if 0<ys.length/\(xs.length+ys.length) * bytes<=A4 then some (.list (xs++ys)) else none
 | .Po,[.list xs,.str s]=>if xs.length+s.size<=A4 then some (.list (xs++B6 s)) else none
 | .Bg,xs=>some (.agg xs)
 | .Bn,xs=>some (.list xs)
 | .proj off n isAgg,[.agg xs]=>if isAgg then some (.agg ((xs.drop off).take n)) else xs[off]?
 | .setAt off n isAgg whole,[.list xs,.int i,x]=>
  if 0<=i then
   match xs[i.toNat]? with
   | none=>none
   | some old=>
    if whole then some (.list (xs.set i.toNat x))
    else match old with
     | .agg cs=>match isAgg,x with
      | true,.agg new=>if new.length=n then some (.list (xs.set i.toNat (.agg (setCells cs new off)))) else none
      | true,_=>none
      | false,x=>some (.list (xs.set i.toNat (.agg (cs.set off x))))
     | _=>none
  else none
 | .max,[.int a,.int b]=>some (.int (if a<b then b else a))
 | .min,[.int a,.int b]=>some (.int (if b<a then b else a))
 | .pick,[.bool c,a,b]=>some (if c then a else b)
 | .Aus bytes z,[.int l,.int c]=>if 0<=l/\l<=c/\c * bytes<=A4 then some (.list (aR l.toNat z)) else none
 | .clear z,[.list xs,.int l,.int h]=>if 0<xs.length/\0<=l/\l<=h/\h<=xs.length then some (.list (xs.take l.toNat++aR (h.toNat - l.toNat) z++xs.drop h.toNat)) else none
 | .copy,[.list xs,.int l,.list ys]=>if 0<=l/\l+ys.length<=xs.length then some (.list (xs.take l.toNat++ys++xs.drop (l.toNat+ys.length))) else none
 | .bytesOf,[.str s]=>some (.list (B6 s))
 | .Afz,[.bool b]=>if b then some (.bool true) else none
 | .M0,[.str s,.int p]=>if 0<=p then some (.bool (decide (p.toNat<s.size))) else none
 | .M4,[.str s,.int p]=>if 0<=p then some (.int (if p.toNat<s.size then(Utf8.decode s p.toNat).1 else 0)) else none
 | .Ht,[.str s,.int p]=>if 0<=p then some (.int (if p.toNat<s.size then p.toNat+(Utf8.decode s p.toNat).2 else p.toNat)) else none
 | .Anx z,[.list es,k]=>(Ta k es).map λr=>r.getD z
 | .Air,[.list es,k]=>(Ta k es).map λr=> .bool r.isSome
 | .Anu,[.list es,k,v]=>(Aup k v es).map .list
 | .strOf,[.list xs]=>(xs.mapM J2).map λl=> .str ⟨l.toArray⟩
 | _,_=>none
structure Job where
 spec:Nat
 blk:Nat -- block of the spec; 0: its entry
inductive Mj where
 | Bv (p:Prim) (args:List Arg)
 | call (s:Nat) (args:List Arg) (n:Nat) -- n results
structure K1 where
 gs:List (Arg × Bool)
 l:Mj
inductive PT where
 | lets (l:K1) (k:PT)
 | ite (c:Arg) (p q:PT)
 | jump (b:Nat) (args:List Arg)
 | ret (args:List Arg)
 deriving Inhabited
def Arg.ev (ρ:List IV):Arg->Option IV
 | .v n=>ρ[n]?
 | .k c=>some c
def Arg.evs (ρ:List IV):List Arg->Option (List IV)
 | []=>some []
 | a::as=>do
  let x <-a.ev ρ
  let xs <-Arg.evs ρ as
  pure (x::xs)
def holds (ρ:List IV):List (Arg × Bool)->Option Bool
 | []=>some true
 | (a,want)::gs=>
  match a.ev ρ with
  | some (.bool b)=>if b=want then holds ρ gs else some false
  | _=>none
def Mj.ev (R:Job->List IV->Option (List IV))(ρ:List IV):Mj->Option (List IV)
 | .Bv p as=>((Arg.evs ρ as).bind p.ev).map ([·])
 | .call s as n=>((Arg.evs ρ as).bind (R ⟨s,0⟩)).bind λrs=>if rs.length=n then some rs else none
def Mj.arity:Mj->Nat
 | .Bv _ _=>1
 | .call _ _ n=>n
def K1.ev (R:Job->List IV->Option (List IV))(ρ:List IV)(g:K1):Option (List IV):=
 (holds ρ g.gs).bind λb=>if b then g.l.ev R ρ else some (aR g.l.arity .junk)
def PT.den (R:Job->List IV->Option (List IV))(s:Nat):PT->List IV->Option (List IV)
 | .lets l k,ρ=>(l.ev R ρ).bind λxs=>k.den R s (ρ++xs)
 | .ite c p q,ρ=>
  match c.ev ρ with
  | some (.bool true)=>p.den R s ρ
  | some (.bool false)=>q.den R s ρ
  | _=>none
 | .jump b as,ρ=>(Arg.evs ρ as).bind (R ⟨s,b⟩)
 | .ret as,ρ=>Arg.evs ρ as
inductive PV where
 | p (key off:Nat) -- into a box
 | el (key:Nat) (e:TypeId) (i:Arg) (off:Nat) -- into an element (of type e) of an own array
 | im (x:Arg) (t:TypeId) (off:Nat) -- into memory that nobody writes any more; x: all that lies there, of type t
 deriving Inhabited
inductive LV where
 | at (x:Arg) (t:TypeId)
 | nil (t:TypeId)
 | ref (key:Nat) (t:TypeId)
 | sub (key:Nat) (lo hi:Arg) (t:TypeId) -- a part of a row of one's own
 | ptr (p:PV)
 | fn (f:FuncId) (caps:List PV)
 | mref (key:Nat) (t:TypeId) -- a map of one's own
 | hid (key:Nat) -- nil, or the pointer to the variable 'key'
 | cl (x:Arg) (t:TypeId) -- data: a row without room
 | st (x:Arg) (t:TypeId) -- data: a row that is nil where it is empty
 | junk
 deriving Inhabited
inductive VV where
 | leaf (l:LV)
 | agg (t:TypeId) (cs:List LV)
 deriving Inhabited
inductive SX where
 | one (v:VV)
 | tup (vs:List VV)
 | nx (ok i r:Arg) -- what a step through a text gives
 deriving Inhabited
structure SV where
 gs:List (Arg × Bool)
 x:SX
 deriving Inhabited
inductive Ob where
 | box (t:TypeId) (v:VV)
 | arr (e:TypeId) (t:TypeId) (c:Arg) -- own
 | frz (e:TypeId) (t:TypeId) (c:Arg) -- not written any more
 | iter (s p:Arg) -- a walk through a text
 | mp (t kt vt:TypeId) (c:Arg) -- a map
 deriving Inhabited
structure PLt where
 n:Nat
 l:K1
inductive RM (α:Type) where
 | pure (a:α)
 | tm (s:Nat) (k:SV->RM α)
 | ob (key:Nat) (k:Option Ob->RM α)
 | emit (l:PLt) (k:RM α)
 | fail
def RM.bind {α β:Type} :RM α->(α->RM β)->RM β
 | .pure a,f=>f a
 | .tm s k,f=> .tm s λv=>(k v).bind f
 | .ob s k,f=> .ob s λv=>(k v).bind f
 | .emit l k,f=> .emit l (k.bind f)
 | .fail,_=> .fail
structure View where
 tm:Nat->SV
 ob:Nat->Option Ob
def RM.run {α:Type}(S:View):RM α->Option (α × List PLt × List Nat × List Nat)
 | .pure a=>some (a,[],[],[])
 | .tm s k=>((k (S.tm s)).run S).map fun(a,e,l,r)=>(a,e,s::l,r)
 | .ob s k=>((k (S.ob s)).run S).map fun(a,e,l,r)=>(a,e,l,s::r)
 | .emit t k=>(k.run S).map fun(a,e,l,r)=>(a,t::e,l,r)
 | .fail =>none
structure ES where
 n:Nat -- the next atom
 m:Nat -- the next key
 gs:List (Arg × Bool) -- under which guard
 obs:List (Nat × Option Ob) -- the first counts
def EM (α:Type):=ES->RM (α × ES)
instance :Monad EM where
 pure a:=λs=> .pure (a,s)
 bind x f:=λs=>(x s).bind fun(a,s')=>f a s'
def Hc (k:Nat):List (Nat × Option Ob)->Option (Option Ob)
 | []=>none
 | (a,o)::r=>if a == k then some o else Hc k r
namespace EM
def fail {α:Type} :EM α:=λ_=> .fail
def Ac8 (s:Nat):EM SV:=λes=> .tm s λv=> .pure (v,es)
def Gj (k:Nat):EM Ob:=λes=>
 match Hc k es.obs with
 | some (some o)=> .pure (o,es)
 | some none=> .fail
 | none=> .ob k λo=>match o with
  | some o=> .pure (o,es)
  | none=> .fail
def ofOption {α:Type}(o:Option α):EM α:=λes=>match o with | some a=> .pure (a,es) | none=> .fail
def guard (b:Bool):EM Unit:=λes=>if b then .pure ((),es) else .fail
def emit (l:Mj):EM Nat:=λes=> .emit ⟨es.n,⟨es.gs,l⟩⟩ (.pure (es.n,{es with n:=es.n+l.arity}))
def Bv (p:Prim)(as:List Arg):EM Arg:=do pure (.v (<-emit (.Bv p as)))
def Em (k:Nat)(o:Option Ob):EM Unit:=λes=> .pure ((),{es with obs:=(k,o)::es.obs})
def Ga:EM Nat:=λes=> .pure (es.m,{es with m:=es.m+1})
def guards:EM (List (Arg × Bool)):=λes=> .pure (es.gs,es)
def bare:EM Unit:=λes=>match es.gs with | []=> .pure ((),es) | _=> .fail
end EM
open EM
def Arg.same:Arg->Arg->Bool
 | .v a,.v b=>a == b
 | .k (.bool a),.k (.bool b)=>a == b
 | .k (.int a),.k (.int b)=>a == b
 | _,_=>false
def A64 (g:Arg × Bool)(gs:List (Arg × Bool)):Bool:=gs.any λh=>g.1.same h.1&&g.2 == h.2
def Ti (gs a:List (Arg × Bool)):Bool:=gs.all λg=>A64 g a
section
variable (P:Program)
def Ai (t:TypeId):Bool:=match P.underlying t with | some (.struct _) | some (.array _ _)=>true | _=>false
def Ag (t:TypeId):Nat:=match P.info? t with | some i=>i.size | none=>0
def Jd (t:TypeId):Nat:=match P.info? t with | some i=>i.bytes | none=>0
def Kp (t:TypeId):Option IntKind:=match P.underlying t with | some (.int k)=>some k | _=>none
def isStr (t:TypeId):Bool:=match P.underlying t with | some .string =>true | _=>false
def isBool (t:TypeId):Bool:=match P.underlying t with | some .bool =>true | _=>false
def Cr (t:TypeId):Option TypeId:=match P.underlying t with | some (.slice e)=>some e | _=>none
def Hb:Nat->TypeId->Option (List TypeId)
 | 0,_=>none
 | d+1,t=>
  match P.underlying t with
  | some (.struct fs)=>(fs.toList.mapM λf=>Hb d f.type).map List.flatten
  | some (.array n e)=>(Hb d e).map λl=>(aR n l).flatten
  | some _=>some [t]
  | none=>none
def leaves (t:TypeId):Option (List TypeId):=Hb P 12 t
def Wl (t0:TypeId)(off:Nat)(t:TypeId):Bool:=
 match leaves P t0,leaves P t with
 | some ts,some us=>(ts.drop off).take us.length == us&&us.length == Ag P t&&0<us.length
 | _,_=>false
def Ly (t:TypeId):Value->Option LV
 | .int k n=>if Kp P t=some k then some (.at (.k (.int n)) t) else none
 | .bool b=>if isBool P t then some (.at (.k (.bool b)) t) else none
 | .string s=>if isStr P t then some (.at (.k (.str s)) t) else none
 | .slice none 0 0=>if(Cr P t).isSome then some (.nil t) else none
 | .nilFunc =>some .junk
 | .pointer none=>some .junk
 | .nilIface =>some .junk
 | .map none=>some .junk
 | _=>none
def D3:List TypeId->List Value->Option (List LV)
 | [],[]=>some []
 | t::ts,v::vs=>do
  let l <-Ly P t v
  let ls <-D3 ts vs
  pure (l::ls)
 | _,_=>none
def M6 (t:TypeId)(v:Value):Option VV:=
 match v with
 | .agg cs=>if Ai P t then do pure (.agg t (<-D3 P (<-leaves P t) cs.toList)) else none
 | v=>if Ai P t then none else(Ly P t v).map .leaf
def Ug (t:TypeId):Option VV:=do M6 P t (<- (<-P.info? t).zero)
def Iu:LV->Option IV
 | .at (.k c) _=>some c
 | .nil _=>some (.list [])
 | _=>none
def N7:List LV->Option (List IV)
 | []=>some []
 | l::ls=>do
  let x <-Iu l
  let xs <-N7 ls
  pure (x::xs)
def Adz (t:TypeId):Option IV:=do
 match <-Ug P t with
 | .leaf l=>Iu l
 | .agg _ cs=>(N7 cs).map .agg
def rd (x:Operand)(t:TypeId):EM SX:=do
 match x with
 | .tmp s=>do
  let v <-Ac8 s
  EM.guard (Ti v.gs (<-guards))
  pure v.x
 | .const c=>do pure (.one (<-ofOption (M6 P t c)))
 | .func f=>pure (.one (.leaf (.fn f [])))
 | .global _=>fail
def rd1 (x:Operand)(t:TypeId):EM VV:=do
 match <-rd P x t with
 | .one v=>pure v
 | _=>fail
def A6v (t c:TypeId):Bool:=t == c||(match Kp P t,Kp P c with | some a,some b=>a == b | _,_=>false)
def Da (fz:Bool)(t:TypeId)(l:LV):EM Arg:=do
 match l with
 | .at x a=>do
  EM.guard (A6v P t a)
  pure x
 | .cl x a=>do
  EM.guard (t == a)
  pure x
 | .st x a=>do
  EM.guard (t == a)
  pure x
 | .nil _=>do
  EM.guard (Cr P t).isSome
  pure (.k (.list []))
 | .ref k _=>do
  match <-Gj k with
  | .arr e tt c=>do
   EM.guard (Cr P t == some e)
   if fz then Em k (some (.frz e tt c))
   pure c
  | .frz e _ c=>do
   EM.guard (Cr P t == some e)
   pure c
  | _=>fail
 | .sub k lo b a=>do
  match <-Gj k with
  | .arr e tt c=>do
   EM.guard (Cr P t == some e&&Cr P a == some e)
   let x <-Bv .slice [c,lo,b]
   if fz then Em k (some (.frz e tt c))
   pure x
  | .frz e _ c=>do
   EM.guard (Cr P t == some e&&Cr P a == some e)
   Bv .slice [c,lo,b]
  | _=>fail
 | _=>fail
def Du (fz:Bool):List TypeId->List LV->EM (List Arg)
 | [],[]=>pure []
 | t::ts,l::ls=>do
  let a <-Da P fz t l
  let as <-Du fz ts ls
  pure (a::as)
 | _,_=>fail
def Im (fz:Bool)(t:TypeId)(v:VV):EM Arg:=do
 match v with
 | .leaf l=>Da P fz t l
 | .agg a cs=>do
  EM.guard (t == a&&Ai P t)
  Bv .Bg (<-Du P fz (<-ofOption (leaves P t)) cs)
def H0 (x:Operand)(t:TypeId):EM Arg:=do Im P false t (<-rd1 P x t)
def Adl (x:Operand):EM Arg:=do
 match x with
 | .const (.int _ n)=>pure (.k (.int n))
 | .tmp s=>do
  let v <-Ac8 s
  EM.guard (Ti v.gs (<-guards))
  match v.x with
  | .one (.leaf (.at a t))=>do
   EM.guard (Kp P t).isSome
   pure a
  | _=>fail
 | _=>fail
def projs (x:Arg):List TypeId->Nat->EM (List LV)
 | [],_=>pure []
 | t::ts,i=>do
  let a <-Bv (.proj i 1 false) [x]
  let r <-projs x ts (i+1)
  pure (.at a t::r)
def Mu (v:VV):EM (List LV):=do
 match v with
 | .agg _ cs=>pure cs
 | .leaf .junk =>fail
 | .leaf (.at x t)=>
  if Ai P t then do projs x (<-ofOption (leaves P t)) 0 else pure [.at x t]
 | .leaf l=>pure [l]
def Aft (t0:TypeId)(v:VV)(off:Nat)(t:TypeId):EM VV:=do
 match v with
 | .agg _ cs=>
  if Ai P t then do
   EM.guard (decide (off+Ag P t<=cs.length))
   pure (.agg t ((cs.drop off).take (Ag P t)))
  else do pure (.leaf (<-ofOption cs[off]?))
 | .leaf (.at x a)=>do
  EM.guard (a == t0)
  if Ai P t0 then
   if off == 0&&t == t0 then pure (.leaf (.at x t0))
   else do
    EM.guard (Wl P t0 off t)
    pure (.leaf (.at (<-Bv (.proj off (Ag P t) (Ai P t)) [x]) t))
  else do
   EM.guard (off == 0&&t == t0)
   pure (.leaf (.at x t0))
 | .leaf .junk =>fail
 | .leaf l=>do
  EM.guard (off == 0&& !Ai P t)
  pure (.leaf l)
def Atj (p:PV)(t:TypeId):EM VV:=do
 EM.guard (P.underlying t).isSome
 match p with
 | .p k off=>do
  match <-Gj k with
  | .box t0 v=>Aft P t0 v off t
  | _=>fail
 | .el k e i off=>do
  match <-Gj k with
  | .arr a _ c=>do
   EM.guard (e == a)
   let x <-Bv .index [c,i]
   Aft P e (.leaf (.at x e)) off t
  | _=>fail
 | .im x t0 off=>Aft P t0 (.leaf (.at x t0)) off t
def Nk (t:TypeId):Bool:=
 match leaves P t with
 | some ts=>ts.length == Ag P t&&(Ai P t||Ag P t == 1)
 | none=>false
def Nf (t:TypeId):Bool:=
 match P.info? t with
 | some i=>(match i.zero with | some z=>z.cells.size == i.size | none=>false)
 | none=>false
def Ke (t:TypeId):VV->Bool
 | .agg a cs=>t == a&&Ai P t&&cs.length == Ag P t
 | .leaf .junk =>false
 | .leaf (.at _ a)=>t == a&&Nk P t
 | .leaf _=> !Ai P t&&Ag P t == 1
def Aaj (t:TypeId):VV->Bool
 | .leaf .junk => !Ai P t&&Ag P t == 1
 | v=>Ke P t v
def Atf (p:PV)(t:TypeId)(v:VV):EM Unit:=do
 bare
 match p with
 | .p k off=>do
  match <-Gj k with
  | .box t0 old=>
   if off == 0&&t == t0 then do
    EM.guard (Ke P t v)
    Em k (some (.box t0 v))
   else do
    EM.guard (Ai P t0&&decide (0<Ag P t))
    let cs <-Mu P old
    let new <-Mu P v
    EM.guard (decide (off+new.length<=cs.length)&&new.length == Ag P t)
    Em k (some (.box t0 (.agg t0 (cs.take off++new++cs.drop (off+new.length)))))
  | _=>fail
 | .el k a i off=>do
  let x <-Im P true t v
  match <-Gj k with
  | .arr e tt c=>do
   EM.guard (e == a)
   EM.guard ((off == 0&&t == e&&Nk P e)||(Ai P e&&Wl P e off t&&Nk P e))
   let c' <-Bv (.setAt off (Ag P t) (Ai P t) (off == 0&&t == e)) [c,i,x]
   Em k (some (.arr e tt c'))
  | _=>fail
 | .im .. =>fail
def U0 (t:TypeId):VV->Bool
 | .agg _ cs=>Ai P t&&cs.length == Ag P t
 | .leaf (.at _ a)=>Ai P t&&t == a&&(match leaves P t with | some ts=>ts.length == Ag P t | none=>false)
 | _=>false
def U8 (v:VV):EM PV:=do
 match v with
 | .leaf (.ptr p)=>pure p
 | _=>fail
def PV.plus (p:PV)(o:Nat):PV:=
 match p with
 | .p k off=> .p k (off+o)
 | .el k e i off=> .el k e i (off+o)
 | .im x t off=> .im x t (off+o)
def one (v:VV):SX:= .one v
def dat (x:Arg)(t:TypeId):SX:= .one (.leaf (.at x t))
def Amr (t:TypeId):Bool:=
 match P.underlying t with
 | some (.struct fs)=>
  fs.toList.zipIdx.all (fun(f,i)=>f.offset == i&&f.name != "_" &&((Kp P f.type).isSome ||isStr P f.type||isBool P f.type))&&
  !P.stoodInHeld t&& !P.eqGuardType P.depth t
 | _=>false
def yOk (op:BinOp)(yt:TypeId)(k:IntKind):Bool:=
 match op with
 | .shl | .shr =>(Kp P yt).isSome
 | _=>Kp P yt == some k
def Bc3 (op:BinOp)(xt:TypeId)(x y:Operand)(yt rt:TypeId):EM SX:=do
 let a <-H0 P x xt
 let b <-H0 P y yt
 match P.underlying xt with
 | some (.int k)=>do
  EM.guard (yOk P op yt k)
  match op with
  | .add | .sub | .mul =>do
   EM.guard (Kp P rt == some k)
   pure (dat (<-Bv (.arith op k) [a,b]) rt)
  | .quo =>do
   EM.guard (Kp P rt == some k)
   pure (dat (<-Bv (.quo k) [a,b]) rt)
  | .rem =>do
   EM.guard (Kp P rt == some k)
   pure (dat (<-Bv (.rem k) [a,b]) rt)
  | .shl | .shr =>do
   EM.guard (Kp P rt == some k)
   pure (dat (<-Bv (.shift op k) [a,b]) rt)
  | .eql | .neq | .lss | .leq | .gtr | .geq =>do
   EM.guard (isBool P rt)
   pure (dat (<-Bv (.cmp op) [a,b]) rt)
  | _=>fail
 | some .string =>do
  EM.guard (isStr P yt)
  match op with
  | .add =>do
   EM.guard (isStr P rt)
   pure (dat (<-Bv .cat [a,b]) rt)
  | .eql | .neq | .lss | .leq | .gtr | .geq =>do
   EM.guard (isBool P rt)
   pure (dat (<-Bv (.cmpS op) [a,b]) rt)
  | _=>fail
 | some .bool =>do
  EM.guard (isBool P yt&&isBool P rt)
  match op with
  | .eql =>do pure (dat (<-Bv (.eqB false) [a,b]) rt)
  | .neq =>do pure (dat (<-Bv (.eqB true) [a,b]) rt)
  | _=>fail
 | some (.struct _)=>do
  EM.guard (Amr P xt&&xt == yt&&isBool P rt)
  match op with
  | .eql =>do pure (dat (<-Bv (.eqA false) [a,b]) rt)
  | .neq =>do pure (dat (<-Bv (.eqA true) [a,b]) rt)
  | _=>fail
 | _=>fail
def Bcb (ne:Bool)(xt:TypeId)(x:Operand)(rt:TypeId):EM SX:=do
 match <-rd1 P x xt with
 | .leaf (.st c t)=>do
  EM.guard ((Cr P t).isSome &&isBool P rt&&(Cr P xt).isSome)
  let n <-Bv .len [c]
  let b <-Bv (.cmp (if ne then .neq else .eql)) [n,.k (.int 0)]
  pure (dat b rt)
 | _=>fail
def Agj (op:BinOp)(xt:TypeId)(x y:Operand)(yt rt:TypeId):EM SX:=
 match op,y with
 | .eql,.const (.slice none 0 0)=>Bcb P false xt x rt
 | .neq,.const (.slice none 0 0)=>Bcb P true xt x rt
 | _,_=>Bc3 P op xt x y yt rt
def rtOf (op:BinOp)(xt rt:TypeId):TypeId:=
 match op with
 | .eql | .neq | .lss | .leq | .gtr | .geq =>if isBool P rt then rt else((dC 64).find? (isBool P ·)).getD rt
 | .add | .sub =>if(Kp P xt).isSome &&Kp P rt !=Kp P xt then xt else rt
 | _=>rt
def xUn (op:UnOp)(xt:TypeId)(x:Operand)(rt:TypeId):EM SX:=do
 let a <-H0 P x xt
 match op with
 | .not =>do
  EM.guard (isBool P xt&&isBool P rt)
  pure (dat (<-Bv .not [a]) rt)
 | .neg =>do
  let k <-ofOption (Kp P xt)
  EM.guard (Kp P rt == some k)
  pure (dat (<-Bv (.neg k) [a]) rt)
 | _=>fail
def A6g (src dst:TypeId)(x:Operand):EM SX:=do
 let a <-H0 P x src
 match P.underlying src,P.underlying dst with
 | some (.int _),some (.int k)=>do pure (dat (<-Bv (.conv k) [a]) dst)
 | some .string,some .string =>pure (dat a dst)
 | some (.slice e),some .string =>do
  EM.guard (Kp P e == some .u8)
  pure (dat (<-Bv .strOf [a]) dst)
 | _,_=>fail
def Rq (t:TypeId)(x i:Operand):EM SX:=do
 let xv <-rd1 P x t
 match P.underlying t with
 | some (.slice e)=>do
  EM.guard (decide (0<Ag P e))
  let iv <-Adl P i
  match xv with
  | .leaf (.ref k _)=>do
   match <-Gj k with
   | .arr a _ c=>do
    EM.guard (e == a)
    let _ <-Bv .index [c,iv]
    pure (one (.leaf (.ptr (.el k e iv 0))))
   | .frz a _ c=>do
    EM.guard (e == a)
    pure (one (.leaf (.ptr (.im (<-Bv .index [c,iv]) e 0))))
   | _=>fail
  | .leaf l=>do
   let c <-Da P true t l
   pure (one (.leaf (.ptr (.im (<-Bv .index [c,iv]) e 0))))
  | _=>fail
 | some (.array n e)=>do
  let p <-U8 xv
  match i with
  | .const (.int _ j)=>do
   EM.guard (decide (0<=j)&&decide (j<n)&&decide (0<Ag P e))
   pure (one (.leaf (.ptr (p.plus (j.toNat * Ag P e)))))
  | _=>fail
 | _=>fail
def Qn (x:Option Operand):EM (Option Arg):=do
 match x with
 | none=>pure none
 | some o=>do pure (some (<-Adl P o))
def Bag (c l:Arg)(h:Option Arg)(t:TypeId):EM SX:=
 match h with
 | some h=>do pure (dat (<-Bv .slice [c,l,h]) t)
 | none=>do pure (dat (<-Bv .Pk [c,l]) t)
def Bd5 (c:Arg)(h:Option Arg):EM Arg:=
 match h with
 | some h=>pure h
 | none=>Bv .len [c]
def Au9 (t:TypeId)(x:Operand)(lo b mx:Option Operand):EM SX:=do
 EM.guard mx.isNone
 let xv <-rd1 P x t
 let l <-Qn P lo
 let h <-Qn P b
 match P.underlying t with
 | some .string =>do
  let a <-Im P false t xv
  match h with
  | some h=>do pure (dat (<-Bv .Hq [a,l.getD (.k (.int 0)),h]) t)
  | none=>do pure (dat (<-Bv .E7 [a,l.getD (.k (.int 0))]) t)
 | some (.slice e)=>do
  EM.guard (decide (0<Ag P e))
  match xv with
  | .leaf (.ref k _)=>do
   match <-Gj k with
   | .arr d _ c=>do
    EM.guard (e == d)
    let b <-Bd5 c h
    let _ <-Bv .slice [c,l.getD (.k (.int 0)),b]
    pure (one (.leaf (.sub k (l.getD (.k (.int 0))) b t)))
   | .frz d _ c=>do
    EM.guard (e == d)
    Bag c (l.getD (.k (.int 0))) h t
   | _=>fail
  | .leaf lf=>do
   let c <-Da P true t lf
   Bag c (l.getD (.k (.int 0))) h t
  | _=>fail
 | _=>fail
def Ag6 (t:TypeId)(x:Operand)(lo a mx:Option Operand):EM SX:=do
 let xv <-rd1 P x t
 let l <-Qn P lo
 let h <-Qn P a
 let m <-Qn P mx
 match P.underlying t with
 | some (.slice e)=>do
  EM.guard (decide (0<Ag P e))
  match xv,h,m with
  | .leaf (.ref k _),some h,some m=>do
   match <-Gj k with
   | .arr b _ c=>do
    EM.guard (e == b)
    let _ <-Bv .slice [c,l.getD (.k (.int 0)),h]
    let _ <-Bv .slice [c,h,m]
    pure (one (.leaf .junk))
   | _=>fail
  | _,_,_=>fail
 | _=>fail
def T9 (t:TypeId)(k:Nat)(a:TypeId)(lo b:Option Operand):EM SX:=do
 let l <-Qn P lo
 let h <-Qn P b
 match P.underlying t with
 | some (.slice e)=>do
  EM.guard (decide (0<Ag P e)&&Cr P a == some e)
  match h with
  | some h=>do
   match <-Gj k with
   | .arr d _ c=>do
    EM.guard (e == d)
    let _ <-Bv .slice [c,l.getD (.k (.int 0)),h]
    pure (one (.leaf (.sub k (l.getD (.k (.int 0))) h t)))
   | _=>fail
  | none=>fail
 | _=>fail
def Wv (t:TypeId)(x:Operand)(lo a mx:Option Operand):EM SX:=
 match mx with
 | some m=>Ag6 P t x lo a (some m)
 | none=>do
  match <-rd1 P x t with
  | .leaf (.sub k (.k (.int 0)) _ b)=>T9 P t k b lo a
  | _=>Au9 P t x lo a none
def Ky (e:TypeId):List (Nat × Operand)->Nat->EM (List Arg)
 | [],_=>pure []
 | (i,x)::b,j=>do
  EM.guard (i == j)
  let a <-Im P true e (<-rd1 P x e)
  let r <-Ky e b (j+1)
  pure (a::r)
def Ow (t:TypeId)(len:Nat)(parts:Array (Nat × Operand)):EM SX:=do
 bare
 let e <-ofOption (Cr P t)
 EM.guard (decide (len * Ag P e<=2 ^ 24)&&decide (0<Ag P e)&&parts.size == len&&Nf P e&&Nk P e)
 let args <-Ky P e parts.toList 0
 let c <-Bv .Bn args
 let k <-Ga
 Em k (some (.arr e t c))
 pure (one (.leaf (.ref k t)))
def Ng (t:TypeId)(len:Nat)(parts:Array (Nat × Operand)):EM SX:=do
 let e <-ofOption (Cr P t)
 EM.guard (decide (len * Ag P e<=2 ^ 24)&&decide (0<Ag P e)&&parts.size == len&&Nf P e&&Nk P e)
 let args <-Ky P e parts.toList 0
 let c <-Bv .Bn args
 pure (dat c t)
def Ks (place:Nat->Option (Nat × TypeId)):List (Nat × Operand)->List LV->EM (List LV)
 | [],cs=>pure cs
 | (i,x)::a,cs=>do
  let (off,t) <-ofOption (place i)
  let new <-Mu P (<-rd1 P x t)
  EM.guard (new.length == Ag P t&&decide (off+new.length<=cs.length))
  Ks place a (cs.take off++new++cs.drop (off+new.length))
def Aqw (t:TypeId)(parts:Array (Nat × Operand)):EM SX:=do
 match <-ofOption (Ug P t) with
 | .agg _ cs=>
  match P.underlying t with
  | some (.struct fs)=>do
   EM.guard (fs.toList.all λf=>(P.info? f.type).isSome)
   pure (one (.agg t (<-Ks P (λi=>(fs[i]?).map λf=>(f.offset,f.type)) parts.toList cs)))
  | some (.array _ e)=>do
   EM.guard (P.info? e).isSome
   pure (one (.agg t (<-Ks P (λi=>some (i * Ag P e,e)) parts.toList cs)))
  | _=>fail
 | _=>fail
def Bc9 (t:TypeId)(x:Operand)(rt:TypeId):EM SX:=do
 EM.guard (Kp P rt == some .i64)
 let a <-H0 P x t
 match P.underlying t with
 | some .string =>do pure (dat (<-Bv .Mo [a]) rt)
 | some (.slice _)=>do pure (dat (<-Bv .len [a]) rt)
 | _=>fail
def Qs (e:TypeId)(v:VV):EM (Option Nat × Arg):=do
 match v with
 | .leaf (.nil _)=>pure (none,.k (.list []))
 | .leaf (.ref k _)=>do
  match <-Gj k with
  | .arr a _ c=>do
   EM.guard (e == a)
   pure (some k,c)
  | _=>fail
 | .leaf (.sub k (.k (.int 0)) b d)=>do
  match <-Gj k with
  | .arr a _ c=>do
   EM.guard (e == a&&Cr P d == some e)
   pure (some k,<-Bv .slice [c,.k (.int 0),b])
  | _=>fail
 | _=>fail
def Pq (old:Option Nat):EM Unit:=
 match old with
 | some k=>Em k none
 | none=>pure ()
def Agh (st xt:TypeId)(s x:Operand)(rt:TypeId):EM SX:=do
 bare
 let e <-ofOption (Cr P st)
 EM.guard (decide (0<Ag P e)&&decide (0<Jd P e)&&st == xt&&Nf P e)
 let sv <-rd1 P s st
 let xv <-rd1 P x xt
 let a <-Im P false xt xv
 let (old,c) <-Qs P e sv
 let c' <-Bv (.append (Jd P e)) [c,a]
 Pq old
 let b <-Ga
 Em b (some (.arr e st c'))
 pure (one (.leaf (.ref b rt)))
def Z2 (st xt:TypeId)(c:Arg)(ct:TypeId)(x:Operand)(rt:TypeId):EM SX:=do
 bare
 let e <-ofOption (Cr P st)
 EM.guard (decide (0<Ag P e)&&decide (0<Jd P e)&&st == xt&&ct == st&&Nf P e)
 let xv <-rd1 P x xt
 let a <-Im P false xt xv
 let c' <-Bv (.Ro (Jd P e)) [c,a]
 let b <-Ga
 Em b (some (.arr e st c'))
 pure (one (.leaf (.ref b rt)))
def O9 (st xt:TypeId)(k:Nat)(b:Arg)(g:TypeId)(lo a:Arg)(t2:TypeId)(rt:TypeId):EM SX:=do
 bare
 let e <-ofOption (Cr P st)
 EM.guard (decide (0<Ag P e)&&decide (0<Jd P e)&&st == xt&&Nf P e&&Cr P g == some e&&Cr P t2 == some e&&Cr P rt == some e)
 match <-Gj k with
 | .arr h tt c=>do
  EM.guard (e == h)
  let _ <-Bv .index [c,.k (.int 0)]
  let _ <-Bv .slice [c,b,lo]
  let x <-Bv .slice [c,.k (.int 0),b]
  let y <-Bv .slice [c,lo,a]
  let d <-Bv (.append 0) [x,y]
  let m <-Bv .len [d]
  let z <-Bv .Pk [c,m]
  let c' <-Bv (.append 0) [d,z]
  Em k (some (.arr e tt c'))
  pure (one (.leaf (.sub k (.k (.int 0)) m rt)))
 | _=>fail
def Amf:VV->VV->Option (Nat × Arg × TypeId × Arg × Arg × TypeId)
 | .leaf (.sub k (.k (.int 0)) b c),.leaf (.sub k2 lo a t2)=>if k == k2 then some (k,b,c,lo,a,t2) else none
 | _,_=>none
def Rs (st xt:TypeId)(s x:Operand)(rt:TypeId):EM SX:=do
 match <-rd1 P s st with
 | .leaf (.cl c ct)=>Z2 P st xt c ct x rt
 | sv=>do
  match Amf sv (<-rd1 P x xt) with
  | some (k,b,d,lo,a,t2)=>O9 P st xt k b d lo a t2 rt
  | none=>Agh P st xt s x rt
def zeroByte (e:TypeId):Bool:=
 match P.info? e with
 | some i=>match i.zero with | some (.int .u8 0)=>true | _=>false
 | none=>false
def Z1 (st xt:TypeId)(s x:Operand)(rt:TypeId):EM SX:=do
 bare
 let e <-ofOption (Cr P st)
 EM.guard (isStr P xt&&Kp P e == some .u8 &&Ag P e == 1&&Jd P e == 1&&(Nf P e&&zeroByte P e))
 let sv <-rd1 P s st
 let a <-H0 P x xt
 let (old,c) <-Qs P e sv
 let c' <-Bv .Po [c,a]
 Pq old
 let b <-Ga
 Em b (some (.arr e st c'))
 pure (one (.leaf (.ref b rt)))
def Aba (mx:Bool)(t:TypeId)(x y:Operand)(rt:TypeId):EM SX:=do
 let k <-ofOption (Kp P t)
 EM.guard (Kp P rt == some k)
 let a <-H0 P x t
 let b <-H0 P y t
 pure (dat (<-Bv (if mx then .max else .min) [a,b]) rt)
def Apo (t:TypeId)(x:Operand):EM SX:=do
 bare
 let e <-ofOption (Cr P t)
 EM.guard (decide (0<Ag P e)&&Nf P e)
 let z <-ofOption (Adz P e)
 let xv <-rd1 P x t
 match xv with
 | .leaf (.sub k lo a b)=>do
  match <-Gj k with
  | .arr d tt c=>do
   EM.guard (e == d&&Cr P b == some e)
   let c' <-Bv (.clear z) [c,lo,a]
   Em k (some (.arr e tt c'))
   pure (one (.leaf .junk))
  | _=>fail
 | _=>fail
def Rz (t:TypeId)(len cap:Operand):EM SX:=do
 bare
 let e <-ofOption (Cr P t)
 EM.guard (decide (0<Ag P e)&&decide (0<Jd P e)&&Nf P e)
 let l <-Adl P len
 let c <-Adl P cap
 let x <-Bv (.Aus (Jd P e) (<-ofOption (Adz P e))) [l,c]
 let k <-Ga
 Em k (some (.arr e t x))
 pure (one (.leaf (.ref k t)))
def Axf:TypeId:=((dC 64).find? (isBool P ·)).getD 0
def Arq (t:TypeId)(x:Operand):EM SX:=do
 bare
 EM.guard (isStr P t)
 let a <-H0 P x t
 let k <-Ga
 Em k (some (.iter a (.k (.int 0))))
 pure (one (.leaf (.ptr (.p k 0))))
def Ato (p:PV):EM SX:=do
 match p with
 | .p k 0=>do
  match <-Gj k with
  | .iter s p=>do
   let ok <-Bv .M0 [s,p]
   let r <-Bv .M4 [s,p]
   let a <-Bv .Ht [s,p]
   Em k (some (.iter s a))
   pure (.nx ok p r)
  | _=>fail
 | _=>fail
def A42 (it:Operand)(isString:Bool):EM SX:=do
 bare
 EM.guard isString
 let p <-U8 (<-rd1 P it 0)
 Ato p
def xNx (ok p r:Arg)(i:Nat)(rt:TypeId):EM SX:=do
 match i with
 | 0=>do
  let bt:=if isBool P rt then rt else Axf P
  EM.guard (isBool P bt)
  pure (dat ok bt)
 | 1=>do
  EM.guard (Kp P rt == some .i64)
  let _ <-Bv .Afz [ok]
  pure (dat p rt)
 | 2=>do
  EM.guard (Kp P rt == some .i32)
  let _ <-Bv .Afz [ok]
  pure (dat r rt)
 | _=>fail
def Aqn (t:TypeId):Option (TypeId × TypeId):=match P.underlying t with | some (.map k v)=>some (k,v) | _=>none
def Aua (t:TypeId):Bool:=(Kp P t).isSome ||isStr P t
def Aby (t:TypeId)(reserve:Option Operand):EM SX:=do
 bare
 EM.guard reserve.isNone
 let kv <-ofOption (Aqn P t)
 EM.guard (Aua P kv.1)
 let k <-Ga
 Em k (some (.mp t kv.1 kv.2 (.k (.list []))))
 pure (one (.leaf (.mref k t)))
def Awu (v:VV):EM Nat:=do
 match v with
 | .leaf (.mref k _)=>pure k
 | _=>fail
def Ah8 (t:TypeId)(x i:Operand)(ok:Bool):EM SX:=do
 let kv <-ofOption (Aqn P t)
 EM.guard (Aua P kv.1&&Nf P kv.2)
 let z <-ofOption (Adz P kv.2)
 let k <-Awu (<-rd1 P x t)
 let iv <-H0 P i kv.1
 match <-Gj k with
 | .mp _ kt vt c=>do
  EM.guard (kv.1 == kt&&kv.2 == vt&&isBool P (Axf P))
  let v <-Bv (.Anx z) [c,iv]
  let h <-Bv .Air [c,iv]
  if ok then pure (.tup [.leaf (.at v vt),.leaf (.at h (Axf P))])
  else pure (dat v vt)
 | _=>fail
def Rn (t:TypeId)(m i x:Operand):EM SX:=do
 bare
 let kv <-ofOption (Aqn P t)
 EM.guard (Aua P kv.1)
 let k <-Awu (<-rd1 P m t)
 let iv <-H0 P i kv.1
 let xv <-Im P true kv.2 (<-rd1 P x kv.2)
 match <-Gj k with
 | .mp a kt vt c=>do
  EM.guard (kv.1 == kt&&kv.2 == vt)
  let c' <-Bv .Anu [c,iv,xv]
  Em k (some (.mp a kt vt c'))
  pure (one (.leaf .junk))
 | _=>fail
def A2y (t:TypeId):Option (TypeId × TypeId):=
 match leaves P t with
 | some [pt,st]=>
  match P.underlying pt,Cr P st with
  | some (.pointer a),some e=>if a == t&&Kp P e == some .u8 &&Ag P e == 1&&Ai P t&&Ag P t == 2 then some (st,e) else none
  | _,_=>none
 | _=>none
def Aub (t:TypeId):Bool:=
 match P.info? t with
 | some i=>
  match i.zero with
  | some (.agg cs)=>match cs.toList with | [.pointer none,.slice none 0 0]=>true | _=>false
  | _=>false
 | none=>false
def Ahc (t st:TypeId):EM SX:=do
 bare
 EM.guard (Aub P t&&Ai P t&&Ag P t == 2)
 let k <-Ga
 Em k (some (.box t (.agg t [.hid k,.nil st])))
 pure (one (.leaf (.ptr (.p k 0))))
end
def Di:PV->List Nat
 | .p k _=> [k]
 | .el k _ _ _=> [k]
 | .im .. => []
def A5:LV->List Nat
 | .ref k _=> [k]
 | .sub k _ _ _=> [k]
 | .ptr p=>Di p
 | .fn _ a=>a.flatMap Di
 | .mref k _=> [k]
 | .hid k=> [k]
 | _=> []
def Ax:VV->List Nat
 | .leaf l=>A5 l
 | .agg _ ls=>ls.flatMap A5
def Ca:SX->List Nat
 | .one v=>Ax v
 | .tup vs=>vs.flatMap Ax
 | .nx .. => []
def E4:Ob->List Nat
 | .box _ v=>Ax v
 | _=> []
inductive PS where
 | data (t:TypeId)
 | arr (t:TypeId) -- a slice that the callee may write, as long as it is; it is handed back
 | own (t:TypeId) -- a slice that is the callee's own from now on
 | box (t:TypeId) (own:List Bool) -- a pointer to a variable that the callee may write; which of its cells are rows of its own
 | fn (f:FuncId) (caps:List TypeId) -- a closure over variables of these types, which are only read
 | rd (t:TypeId) -- a pointer to a variable that is only read
 | bld (t:TypeId) (back:Bool) -- a pointer to a strings.Builder; handed back, or gone
 | fnb (f:FuncId) (n:Nat) -- a closure; its n captured variables come as the next parameters
 deriving Inhabited
inductive Bk where
 | box (k:Nat) (t:TypeId) (own:List Bool)
 | arr (k:Nat) (e t:TypeId)
 | bld (k:Nat) (t e st:TypeId)
 deriving Inhabited
inductive RS where
 | whole (t:TypeId) -- data
 | cells (t:TypeId) (own:List Bool) -- cell by cell: rows of the caller's own, or data
 | skip -- what nobody looks at
 | clip (t:TypeId) -- data: a row without room
 | strict (t:TypeId) -- data: a row that is nil where it is empty
 | nbox (t:TypeId) (own:List Bool) -- a pointer to a new variable
 | clo (f:FuncId) (bxs:List (TypeId × List Bool)) -- a closure over new variables
 deriving Inhabited
structure Spec where
 fn:FuncId
 params:List PS
 results:List RS
 alias_:Bool -- may a result share memory with an argument?
 deriving Inhabited
section
variable (P:Program)
def Rp (e:TypeId)(l:LV):EM Arg:=do
 EM.guard (decide (0<Ag P e))
 let r <-Qs P e (.leaf l)
 Pq r.1
 pure r.2
def Ag9 (t:TypeId)(l:LV):EM Arg:=do
 match l with
 | .mref k _=>do
  match <-Gj k with
  | .mp _ kt vt c=>do
   EM.guard (Aqn P t == some (kt,vt))
   Em k none
   pure c
  | _=>fail
 | _=>fail
def Agk (t:TypeId)(l:LV):EM Arg:=
 match Cr P t with
 | some e=>Rp P e l
 | none=>Ag9 P t l
def Ah2 (fz o:Bool)(t:TypeId)(l:LV):EM Arg:=do
 if o then Agk P t l
 else Da P fz t l
def D9 (fz:Bool):List Bool->List TypeId->List LV->EM (List Arg)
 | [],[],[]=>pure []
 | o::bs,t::ts,l::ls=>do
  let a <-Ah2 P fz o t l
  let as <-D9 fz bs ts ls
  pure (a::as)
 | _,_,_=>fail
def Zp (fz:Bool)(t:TypeId)(p:PV):EM Arg:=do
 match p with
 | .p k 0=>do
  match <-Gj k with
  | .box t0 v=>do
   EM.guard (t == t0&&decide (0<Ag P t))
   Im P fz t v
  | _=>fail
 | .im x t0 0=>do
  EM.guard (t == t0)
  pure x
 | _=>fail
def I3 (fz:Bool):List TypeId->List PV->EM (List Arg)
 | [],[]=>pure []
 | t::ts,p::b=>do
  let a <-Zp P fz t p
  let as <-I3 fz ts b
  pure (a::as)
 | _,_=>fail
def A2g (al:Bool)(p:PS)(v:VV):EM (List Arg × List Bk):=do
 match p with
 | .data t=>do pure ([<-Im P al t v],[])
 | .arr t=>do
  match v with
  | .leaf (.ref k _)=>do
   match <-Gj k with
   | .arr e b c=>do
    EM.guard (Cr P t == some e)
    Em k none
    pure ([c],[.arr k e b])
   | _=>fail
  | _=>fail
 | .own t=>do
  match v with
  | .leaf l=>do pure ([<-Rp P (<-ofOption (Cr P t)) l],[])
  | _=>fail
 | .box t own=>do
  match v with
  | .leaf (.ptr (.p k 0))=>do
   match <-Gj k with
   | .box t0 v=>do
    EM.guard (t == t0)
    let cs <-Mu P v
    Em k none
    let a <-D9 P al own (<-ofOption (leaves P t)) cs
    pure (a,[.box k t own])
   | _=>fail
  | _=>fail
 | .fn f ts=>do
  match v with
  | .leaf (.fn g caps)=>do
   EM.guard (f == g)
   pure (<-I3 P al ts caps,[])
  | _=>fail
 | .rd t=>do
  match v with
  | .leaf (.ptr p)=>do pure ([<-Zp P al t p],[])
  | _=>fail
 | .bld t back=>do
  match v with
  | .leaf (.ptr (.p k 0))=>do
   match <-Gj k with
   | .box t0 (.agg _ [.hid k1,l])=>do
    let se <-ofOption (A2y P t)
    EM.guard (t == t0&&k1 == k)
    Em k none
    let a <-Rp P se.2 l
    pure ([a],if back then[.bld k t se.2 se.1]else[])
   | _=>fail
  | _=>fail
 | .fnb _ _=>pure ([],[])
def Pr (al:Bool):List PS->List VV->EM (List Arg × List Bk)
 | [],[]=>pure ([],[])
 | p::b,v::vs=>do
  let a <-A2g P al p v
  let r <-Pr al b vs
  pure (a.1++r.1,a.2++r.2)
 | _,_=>fail
def Cz:List Bool->List TypeId->Nat->EM (List LV)
 | [],[],_=>pure []
 | true::bs,t::ts,n=>
  match Cr P t with
  | some e=>do
   if(<-guards).isEmpty then do
    let k <-Ga
    Em k (some (.arr e t (.v n)))
    let r <-Cz bs ts (n+1)
    pure (.ref k t::r)
   else do
    let r <-Cz bs ts (n+1)
    pure (.at (.v n) t::r)
  | none=>do
   bare
   let kv <-ofOption (Aqn P t)
   let k <-Ga
   Em k (some (.mp t kv.1 kv.2 (.v n)))
   let r <-Cz bs ts (n+1)
   pure (.mref k t::r)
 | false::bs,t::ts,n=>do
  let r <-Cz bs ts (n+1)
  pure (.at (.v n) t::r)
 | _,_,_=>fail
def Avw (t:TypeId)(cs:List LV):EM VV:=do
 if Ai P t then pure (.agg t cs)
 else match cs with
  | [c]=>pure (.leaf c)
  | _=>fail
def Lk:List (TypeId × List Bool)->Nat->EM (List PV × Nat)
 | [],n=>pure ([],n)
 | b::bs,n=>do
  let ts <-ofOption (leaves P b.1)
  let cs <-Cz P b.2 ts n
  let v <-Avw P b.1 cs
  let k <-Ga
  Em k (some (.box b.1 v))
  let r <-Lk bs (n+b.2.length)
  pure (.p k 0::r.1,r.2)
def Ge:List RS->Nat->EM (List VV × Nat)
 | [],n=>pure ([],n)
 | .skip ::rs,n=>do
  let r <-Ge rs n
  pure (.leaf .junk ::r.1,r.2)
 | .clip t::rs,n=>do
  let r <-Ge rs (n+1)
  pure (.leaf (.cl (.v n) t)::r.1,r.2)
 | .strict t::rs,n=>do
  let r <-Ge rs (n+1)
  pure (.leaf (.st (.v n) t)::r.1,r.2)
 | .whole t::rs,n=>do
  let r <-Ge rs (n+1)
  pure (.leaf (.at (.v n) t)::r.1,r.2)
 | .cells t own::rs,n=>do
  let ts <-ofOption (leaves P t)
  let cs <-Cz P own ts n
  let v <-Avw P t cs
  let r <-Ge rs (n+own.length)
  pure (v::r.1,r.2)
 | .nbox t own::rs,n=>do
  bare
  let b <-Lk P [(t,own)] n
  let r <-Ge rs b.2
  pure (b.1.map (λp=> .leaf (.ptr p))++r.1,r.2)
 | .clo f bxs::rs,n=>do
  bare
  let b <-Lk P bxs n
  let r <-Ge rs b.2
  pure (.leaf (.fn f b.1)::r.1,r.2)
def Dx:List Bk->Nat->EM Unit
 | [],_=>pure ()
 | .box k t own::bs,n=>do
  let ts <-ofOption (leaves P t)
  let cs <-Cz P own ts n
  let v <-Avw P t cs
  Em k (some (.box t v))
  Dx bs (n+own.length)
 | .arr k e t::bs,n=>do
  Em k (some (.arr e t (.v n)))
  Dx bs (n+1)
 | .bld k t e st::bs,n=>do
  let a <-Ga
  Em a (some (.arr e st (.v n)))
  Em k (some (.box t (.agg t [.hid k,.ref a st])))
  Dx bs (n+1)
def RS.arity:RS->Nat
 | .skip =>0
 | .clip _=>1
 | .strict _=>1
 | .whole _=>1
 | .cells _ o=>o.length
 | .nbox _ o=>o.length
 | .clo _ bxs=>(bxs.flatMap (·.2)).length
def PS.back:PS->Nat
 | .bld _ b=>if b then 1 else 0
 | .box _ o=>o.length
 | .arr _=>1
 | _=>0
def Avt:List Nat->Nat
 | []=>0
 | n::ns=>n+Avt ns
def Spec.arity (s:Spec):Nat:=Avt (s.results.map RS.arity)+Avt (s.params.map PS.back)
def PS.Dy:PS->Bool
 | .data _ | .fn _ _ | .rd _ | .fnb _ _=>true
 | _=>false
def Pb (t:TypeId):Bool:=
 match leaves P t with
 | some ts=>ts.all λu=>(Cr P u).isNone
 | none=>false
def D5:List Bool->List TypeId->Bool
 | [],[]=>true
 | true::bs,t::ts=>(match Cr P t with | some e=>Pb P e | none=>match Aqn P t with | some kv=>Pb P kv.1&&Pb P kv.2 | none=>false)&&D5 bs ts
 | false::bs,t::ts=>(Cr P t).isNone &&D5 bs ts
 | _,_=>false
def RS.flat:RS->Bool
 | .skip =>true
 | .clip t=>Pb P t
 | .strict t=>Pb P t
 | .whole t=>Pb P t
 | .cells t own=>match leaves P t with | some ts=>D5 P own ts | none=>false
 | .nbox t own=>match leaves P t with | some ts=>D5 P own ts | none=>false
 | .clo _ bxs=>bxs.all λb=>match leaves P b.1 with | some ts=>D5 P b.2 ts | none=>false
def PS.safe (p:PS):Bool:=
 match p with
 | .data _ | .fnb _ _ | .own _ | .bld _ _=>true
 | .fn _ ts=>ts.isEmpty
 | .arr t=>match Cr P t with | some e=>Pb P e | none=>false
 | .box t bs=>match leaves P t with | some ts=>D5 P bs ts | none=>false
 | .rd _=>false
def Acm:List PS->List VV->List Nat
 | .data _::a,v::vs=>Ax v++Acm a vs
 | _::a,_::vs=>Acm a vs
 | _,_=> []
def Nh:List PS->List VV->Bool
 | .data _::a,.leaf _::vs=>Nh a vs
 | .data _::a,v::vs=>(Ax v).isEmpty &&Nh a vs
 | _::a,_::vs=>Nh a vs
 | _,_=>true
def Pz:List Nat->EM (List Nat)
 | []=>pure []
 | k::ks=>do
  match <-Gj k with
  | .arr .. =>do
   let r <-Pz ks
   pure (k::r)
  | _=>Pz ks
def Mx:List Nat->EM Unit
 | []=>pure ()
 | k::ks=>do
  match <-Gj k with
  | .arr .. =>Mx ks
  | _=>fail
def Ajx (p:PV):EM Unit:=do
 match p with
 | .p k _=>do
  match <-Gj k with
  | .box .. =>pure ()
  | _=>fail
 | .im .. =>pure ()
 | .el .. =>fail
def T7:List PV->EM Unit
 | []=>pure ()
 | p::a=>do
  Ajx p
  T7 a
def Ash (p:PS)(v:VV):EM Unit:=do
 match p with
 | .rd _=>
  match v with
  | .leaf (.ptr p)=>Ajx p
  | _=>fail
 | .fn _ _=>
  match v with
  | .leaf (.fn _ caps)=>T7 caps
  | _=>fail
 | _=>pure ()
def still:List PS->List VV->EM Unit
 | [],[]=>pure ()
 | p::a,v::vs=>do
  Ash p v
  still a vs
 | _,_=>fail
def Ant:List Operand->List TypeId->EM (List VV)
 | [],_=>pure []
 | x::xs,t::ts=>do
  let v <-rd1 P x t
  let vs <-Ant xs ts
  pure (v::vs)
 | _,[]=>fail
def Aqf (b:Bool):EM Unit:=if b then pure () else bare
def Aar:List VV->SX
 | [v]=> .one v
 | rs=> .tup rs
def U4 (i:Nat)(s:Spec)(vs:List VV):EM SX:=do
 EM.guard (s.alias_||s.results.all (RS.flat P))
 Aqf (s.params.all PS.Dy)
 let Ab3:= !s.alias_ && !s.params.all PS.Dy&&s.params.all (PS.safe P)&&Nh s.params vs
 let ks <-Pz (if Ab3 then Acm s.params vs else[])
 let ab <-Pr P (!Ab3 &&(s.alias_|| !s.params.all PS.Dy)) s.params vs
 Mx ks
 still s.params vs
 let n <-emit (.call i ab.1 s.arity)
 let rm <-Ge P s.results n
 Dx P ab.2 rm.2
 pure (Aar rm.1)
def Apx (p:PS)(v:VV):EM Bool:=do
 match p,v with
 | .fn f _,.leaf (.fn g _)=>pure (f == g)
 | .fn ..,_=>pure false
 | .fnb _ _,_=>pure true
 | .data _,.leaf (.ptr _)=>pure false
 | .data _,.leaf (.fn ..)=>pure false
 | .own _,.leaf (.ref k _)=>do
  match <-Gj k with
  | .arr .. =>pure true
  | _=>pure false
 | .own _,.leaf (.sub ..)=>pure true
 | .own _,.leaf (.nil _)=>pure true
 | .own _,_=>pure false
 | .arr _,.leaf (.ref k _)=>do
  match <-Gj k with
  | .arr .. =>pure true
  | _=>pure false
 | .arr _,_=>pure false
 | .box _ _,.leaf (.ptr (.p _ 0))=>pure true
 | .box _ _,_=>pure false
 | .rd _,.leaf (.ptr _)=>pure true
 | .rd _,_=>pure false
 | .bld _ _,.leaf (.ptr (.p _ 0))=>pure true
 | .bld _ _,_=>pure false
 | _,_=>pure true
def O5:List PS->List VV->EM Bool
 | [],[]=>pure true
 | p::a,v::vs=>do
  if <-Apx p v then O5 a vs else pure false
 | _,_=>pure false
def An8 (p:PV):VV:= .leaf (.ptr p)
def Ag0:VV->Option (FuncId × List PV)
 | .leaf (.fn g caps)=>some (g,caps)
 | _=>none
def Bb9:Value->Option (FuncId × List Value)
 | .func (.func g) first caps=>if first.isEmpty then some (g,caps.toList) else none
 | _=>none
def Ae8:PS->Option (FuncId × Nat)
 | .fnb f n=>some (f,n)
 | _=>none
def J3:Nat->List PS->List VV->Option (List VV)
 | n+1,_::a,vs=>J3 n a vs
 | _+1,[],_=>none
 | 0,[],[]=>some []
 | 0,[],_::_=>none
 | 0,_::_,[]=>none
 | 0,p::a,v::vs=>
  match Ae8 p with
  | none=>(J3 0 a vs).map (v:: ·)
  | some fn=>
   match Ag0 v with
   | some gc=>if fn.1 == gc.1&&gc.2.length == fn.2 then(J3 fn.2 a vs).map λr=> .leaf .junk ::(gc.2.map An8++r) else none
   | none=>none
def Iq:Nat->List PS->List Value->Option (List Value)
 | n+1,_::a,vs=>Iq n a vs
 | _+1,[],_=>none
 | 0,[],[]=>some []
 | 0,[],_::_=>none
 | 0,_::_,[]=>none
 | 0,p::a,v::vs=>
  match Ae8 p with
  | none=>(Iq 0 a vs).map (v:: ·)
  | some fn=>
   match Bb9 v with
   | some gc=>if fn.1 == gc.1&&gc.2.length == fn.2 then(Iq fn.2 a vs).map λr=>v::(gc.2++r) else none
   | none=>none
def K6 (f:FuncId)(vs:List VV):List (Nat × Spec)->EM (Nat × Spec)
 | []=>fail
 | (i,s)::ss=>
  if s.fn == f then
   match J3 0 s.params vs with
   | some fl=>do
    if <-O5 s.params fl then pure (i,s) else K6 f vs ss
   | none=>K6 f vs ss
  else K6 f vs ss
variable (specs:List (Nat × Spec))
def A9v (c:Call)(rt:TypeId):EM SX:=do
 match c.callee with
 | .builtin b=>
  match b,c.args.toList,c.argTypes.toList with
  | .len,[x],[t]=>Bc9 P t x rt
  | .append,[s,x],[st,xt]=>if isStr P xt then Z1 P st xt s x rt else Rs P st xt s x rt
  | .clear,[x],[t]=>Apo P t x
  | .max,[x,y],[t,u]=>do
   EM.guard (t == u)
   Aba P true t x y rt
  | .min,[x,y],[t,u]=>do
   EM.guard (t == u)
   Aba P false t x y rt
  | _,_,_=>fail
 | .value fo=>do
  match <-rd1 P fo 0 with
  | .leaf (.fn f caps)=>do
   let vs <-Ant P c.args.toList c.argTypes.toList
   let all:=vs++caps.map An8
   let q <-K6 f all specs
   let fl <-ofOption (J3 0 q.2.params all)
   U4 P q.1 q.2 fl
  | _=>fail
 | .invoke .. =>fail
def Oc (cv:Arg)(want:Bool)(x:Operand)(t:TypeId):EM Arg:=do
 match x with
 | .tmp s=>do
  let v <-Ac8 s
  EM.guard (Ti v.gs ((cv,want)::(<-guards)))
  match v.x with
  | .one (.leaf (.at y a))=>do
   EM.guard (t == a)
   pure y
  | _=>fail
 | .const c=>do
  match <-ofOption (M6 P t c) with
  | .leaf (.at y _)=>pure y
  | _=>fail
 | _=>fail
def A4h (c a b:Operand)(rt:TypeId):EM SX:=do
 EM.guard (isBool P rt)
 let cv <-H0 P c rt
 let x <-Oc P cv true a rt
 let y <-Oc P cv false b rt
 pure (dat (<-Bv .pick [cv,x,y]) rt)
def Y0:List Operand->EM (List PV)
 | []=>pure []
 | x::xs=>do
  let p <-U8 (<-rd1 P x 0)
  let a <-Y0 xs
  pure (p::a)
def xOp (o:Oper):EM SX:=do
 match o.op with
 | .move x | .assign x=>rd P x o.type
 | .pick c a b=>A4h P c a b o.type
 | .box t x=>do
  bare
  let v <-rd1 P x t
  EM.guard (Ke P t v)
  let k <-Ga
  Em k (some (.box t v))
  pure (one (.leaf (.ptr (.p k 0))))
 | .alloc t=>
  match A2y P t with
  | some se=>Ahc P t se.1
  | none=>do
   bare
   let v <-ofOption (Ug P t)
   EM.guard (Aaj P t v)
   let k <-Ga
   Em k (some (.box t v))
   pure (one (.leaf (.ptr (.p k 0))))
 | .load t a=>do
  let p <-U8 (<-rd1 P a 0)
  pure (.one (<-Atj P p t))
 | .store t a x=>do
  let p <-U8 (<-rd1 P a 0)
  let v <-rd1 P x t
  Atf P p t v
  pure (one (.leaf .junk))
 | .fieldAddr s x f=>do
  let p <-U8 (<-rd1 P x 0)
  match P.underlying s with
  | some (.struct fs)=>do
   let fl <-ofOption fs[f]?
   EM.guard (decide (0<Ag P fl.type))
   pure (one (.leaf (.ptr (p.plus fl.offset))))
  | _=>fail
 | .field s x f=>do
  let v <-rd1 P x s
  match P.underlying s with
  | some (.struct fs)=>do
   let fl <-ofOption fs[f]?
   EM.guard ((P.underlying fl.type).isSome &&U0 P s v)
   pure (.one (<-Aft P s v fl.offset fl.type))
  | _=>fail
 | .indexAddr t x i=>Rq P t x i
 | .index t x i=>do
  EM.guard (isStr P t&&Kp P o.type == some .u8)
  let a <-H0 P x t
  let iv <-Adl P i
  pure (dat (<-Bv .C8 [a,iv]) o.type)
 | .slice t x lo d mx=>Wv P t x lo d mx
 | .binOp op xt x y yt=>Agj P op xt x y yt (rtOf P op xt o.type)
 | .unOp op xt x=>xUn P op xt x o.type
 | .convert src dst x=>A6g P src dst x
 | .nilCheck x=>do
  match <-rd1 P x 0 with
  | .leaf (.ptr p)=>pure (one (.leaf (.ptr p)))
  | .leaf (.fn f c)=>pure (one (.leaf (.fn f c)))
  | _=>fail
 | .extract t i=>do
  match <-rd P t 0 with
  | .tup vs=>do pure (.one (<-ofOption vs[i]?))
  | .nx ok p r=>xNx P ok p r i o.type
  | _=>fail
 | .range t x=>Arq P t x
 | .next it isString=>A42 P it isString
 | .makeMap t r=>Aby P t r
 | .lookup t x i ok=>Ah8 P t x i ok
 | .mapUpdate t m i x=>Rn P t m i x
 | .build t parts=>Aqw P t parts
 | .buildSlice t len parts=>do
  if(<-guards).isEmpty then Ow P t len parts else Ng P t len parts
 | .makeSlice t l c=>Rz P t l c
 | .makeFunc (.func f) first caps=>do
  EM.guard first.isEmpty
  pure (one (.leaf (.fn f (<-Y0 P caps.toList))))
 | .call c=>A9v P specs c o.type
 | _=>fail
end
structure St where
 n:Nat
 m:Nat
 tm:List (Nat × SV)
 ob:List (Nat × Ob)
 deriving Inhabited
def nothing:SV:=⟨[],.one (.leaf .junk)⟩
def Hz (t:Nat):List (Nat × SV)->SV
 | []=>nothing
 | (a,v)::r=>if a == t then v else Hz t r
def Oi (k:Nat):List (Nat × Ob)->Option Ob
 | []=>none
 | (a,o)::r=>if a == k then some o else Oi k r
def St.view (s:St):View:=⟨λt=>Hz t s.tm,λk=>Oi k s.ob⟩
def Ats (t:Nat)(v:SV):List (Nat × SV)->List (Nat × SV)
 | []=> [(t,v)]
 | (a,b)::r=>if a == t then(t,v)::r else(a,b)::Ats t v r
def Ag8 (k:Nat):List (Nat × Ob)->List (Nat × Ob)
 | []=> []
 | (a,o)::r=>if a == k then Ag8 k r else(a,o)::Ag8 k r
def A0k (k:Nat)(o:Option Ob)(l:List (Nat × Ob)):List (Nat × Ob):=
 match o with
 | some o=>(k,o)::Ag8 k l
 | none=>Ag8 k l
def We:List (Nat × Option Ob)->List (Nat × Ob)->List (Nat × Ob)
 | [],l=>l
 | (k,o)::r,l=>A0k k o (We r l)
def Abq (P:Program)(S:View)(ops:Array Oper)(o:Oper):Option (List (Arg × Bool) × List Nat):=
 match o.guard with
 | none=>some ([],[])
 | some (j,want)=>
  match (ops[j]?).bind (·.dst) with
  | none=>none
  | some d=>
   match (S.tm d).x with
   | .one (.leaf (.at x t))=>if isBool P t then some ((S.tm d).gs ++ [(x,want)],[d]) else none
   | _=>none
structure E8 where
 gs:List (Arg × Bool)
 lets:List PLt
 dst:Option Nat
 v:SV
 obs:List (Nat × Option Ob)
 slots:List Nat
 keys:List Nat
 n:Nat
 m:Nat
def Cg (S:View):List (Nat × Option Ob)->Bool
 | []=>true
 | (k,some (.frz e t c))::r=>
  (
   match S.ob k with
   | some (.arr a b c')=>e == a&&t == b&&c.same c'
   | some (.frz a b c')=>e == a&&t == b&&c.same c'
   | _=>false)&&Cg S r
 | _=>false
def Lr (m0:Nat):PV->Bool
 | .p k _=>decide (k<m0)
 | .el k _ _ _=>decide (k<m0)
 | .im .. =>true
def Mc (m0:Nat):LV->Bool
 | .ref k _=>decide (k<m0)
 | .sub k _ _ _=>decide (k<m0)
 | .ptr p=>Lr m0 p
 | .fn _ a=>a.all (Lr m0)
 | .mref k _=>decide (k<m0)
 | .hid k=>decide (k<m0)
 | _=>true
def Jr (m0:Nat):VV->Bool
 | .leaf l=>Mc m0 l
 | .agg _ ls=>ls.all (Mc m0)
def Q3 (m0:Nat):SX->Bool
 | .one v=>Jr m0 v
 | .tup vs=>vs.all (Jr m0)
 | .nx .. =>true
def A2x (P:Program)(specs:List (Nat × Spec))(N:Nat)(ops:Array Oper)(m0:Nat)(S:View)(n m:Nat)(o:Oper):Option E8:=
 match Abq P S ops o with
 | none=>none
 | some (gs,gk)=>
  match (xOp P specs o {n,m,gs,obs:= []}).run S with
  | none=>none
  | some ((x,es),lets,slots,keys)=>
   if(gs.isEmpty||(Cg S es.obs&&Q3 m0 x))&&(match o.dst with | some d=>decide (d<N) | none=>true)&&decide (m<=es.m) then
    some {gs,lets,dst:=o.dst,v:=⟨gs,x⟩,obs:=es.obs,slots:=gk++slots,keys,n:=es.n,m:=es.m}
   else none
def St.after (s:St)(d:E8):St:=
 {
  n:=d.n,m:=d.m,
  tm:=match d.dst with | some t=>Ats t d.v s.tm | none=>s.tm,
  ob:=We d.obs s.ob}
def Aeg (P:Program)(specs:List (Nat × Spec))(N:Nat)(ops:Array Oper)(m0:Nat):List Oper->St->Option (List E8 × St)
 | [],s=>some ([],s)
 | o::os,s=>
  match A2x P specs N ops m0 s.view s.n s.m o with
  | none=>none
  | some d=>
   match Aeg P specs N ops m0 os (s.after d) with
   | none=>none
   | some (ds,s')=>some (d::ds,s')
def At1 (acc:List Nat):List Edge->Nat
 | []=>0
 | e::es=>(if Region.binds .any e then(1<<<e.on)||| acc.getD e.on 0 else 0)||| At1 acc es
def A3o:List Oper->List Nat->List Nat
 | [],acc=>acc
 | o::os,acc=>A3o os (acc++ [At1 acc o.after.toList])
def E8.Ajb (x y:E8):Bool:=
 (match y.dst with | some t=>x.slots.contains t||x.dst == some t | none=>false)||y.obs.any λp=>x.keys.contains p.1||x.obs.any λq=>q.1 == p.1
def Tn (anc:Nat)(x:E8):List E8->Nat->Bool
 | [],_=>true
 | y::ys,j=>(anc.testBit j|| !(x.Ajb y||y.Ajb x))&&Tn anc x ys (j+1)
def Nv (before:List E8):List Nat->List E8->Bool
 | a::as,d::ds=>Tn a d before 0&&Nv (before++ [d]) as ds
 | [],[]=>true
 | _,_=>false
def Akl:List Oper->Nat->Bool
 | [],_=>true
 | o::os,i=>(o.after.toList.all λe=> !Region.binds .any e||decide (e.on<i))&&Akl os (i+1)
def Ali (ops:List Oper)(ds:List E8):Bool:=Akl ops 0&&Nv [] (A3o ops []) ds
def Ts (P:Program)(specs:List (Nat × Spec))(N:Nat)(ops:Array Oper)(draw:Bool)(s:St):Option (List PLt × St):=
 match Aeg P specs N ops s.m ops.toList s with
 | none=>none
 | some (ds,s')=>if !draw ||Ali ops.toList ds then some (ds.flatMap (·.lets),s') else none
end Go.CT
namespace Go.CT
open Go.RowKit
def D1 (w:World)(ad:Addr)(v:Value)(sz:Nat):Prop:=
 v.cells.size=sz/\ ∀ (i:Nat) (u:Value),v.cells[i]?=some u->w.cell? (ad.add i)=some u
inductive Rel (P:Program)(w:World)(O:Nat->Prop):TypeId->IV->Value->Prop
 | int {t:TypeId} {k:IntKind} {n:Int} :P.underlying t=some (.int k)->Rel P w O t (.int n) (.int k n)
 | bool {t:TypeId} {b:Bool} :P.underlying t=some .bool ->Rel P w O t (.bool b) (.bool b)
 | str {t:TypeId} {s:ByteArray} :P.underlying t=some .string ->Rel P w O t (.str s) (.string s)
 | agg {t:TypeId} {ts:List TypeId} {xs:List IV} {cs:Array Value} :Ai P t=true->leaves P t=some ts->xs.length=ts.length->cs.size=ts.length->
  (∀ (i:Nat) (u:TypeId),ts[i]?=some u->Ai P u=false)->
  (∀ (i:Nat) (u:TypeId) (x:IV) (c:Value),ts[i]?=some u->xs[i]?=some x->cs[i]?=some c->Rel P w O u x c)->
  Rel P w O t (.agg xs) (.agg cs)
 | list {t e:TypeId} {xs:List IV} {A:Option Addr} {c:Nat} (vs:Nat->Value):P.underlying t=some (.slice e)->xs.length<=c->xs.length<=maxLen->
  (0<xs.length->0<Ag P e/\ ∃ad,A=some ad/\ ¬ O ad.block/\ ∀j,j<xs.length->D1 w (ad.add (j * Ag P e)) (vs j) (Ag P e))->
  (∀ (j:Nat) (x:IV),xs[j]?=some x->Rel P w O e x (vs j))->
  Rel P w O t (.list xs) (.slice A xs.length c)
theorem Dm (ad:Addr)(n:Nat):(ad.add n).block =ad.block:=by unfold Addr.add;split<;>rfl
theorem Ds (ad:Addr)(i j:Nat):(ad.add i).add j=ad.add (i+j):=by
 unfold Addr.add
 by_cases a:i=0
 ·subst a;simp
 ·by_cases b:j=0
  ·subst b;simp[a]
  ·have: ¬ (i+j=0):=by omega
   simp[a,b,cT]
theorem A6 (ad:Addr):ad.add 0=ad:=by simp[Addr.add]
section
variable {P:Program}{w w':World}{O O':Nat->Prop}{t:TypeId}{x:IV}{v:Value}
theorem D1.step {ad:Addr}{sz:Nat}(h:D1 w ad v sz)(a:w'.heap[ad.block]?=w.heap[ad.block]?):D1 w' ad v sz:=by
 refine⟨h.1,λi u b=>?_⟩
 rw[<-h.2 i u b]
 apply World.cell?_of_block
 rw[Dm]
 exact a
theorem D1.lt {ad:Addr}{sz:Nat}(h:D1 w ad v sz)(a:0<sz):ad.block<w.heap.size:=by
 have b:0<v.cells.size:=by rw[h.1];exact a
 have:=World.block_lt_of_cell? w _ (h.2 0 _ (bO b))
 rwa [Dm]at this
def Kj (O:Nat->Prop)(w w':World):Prop:= ∀b,b<w.heap.size-> ¬ O b->w'.heap[b]?=w.heap[b]?
theorem D1.stays {ad:Addr}{sz:Nat}(h:D1 w ad v sz)(a:Kj O w w')(b: ¬ O ad.block):D1 w' ad v sz:=by
 by_cases c:0<sz
 ·exact h.step (a _ (h.lt c) b)
 ·refine⟨h.1,λi u d=>?_⟩
  have:=(aI.1 d).1
  have:=h.1
  omega
theorem Rel.mono (h:Rel P w O t x v)(r: ∀b,b<w.heap.size->O' b->O b)(u:Kj O w w'):Rel P w' O' t x v:=by
 induction h with
 | int h=>exact .int h
 | bool h=>exact .bool h
 | str h=>exact .str h
 | agg a c d e y _ g=>exact .agg a c d e y g
 | list vs a c d e _ g=>
  refine .list vs a c d (λm=>?_) g
  obtain⟨o,ad,rfl,z,q⟩:=e m
  have i:ad.block<w.heap.size:=by have:=(q 0 m).lt o;rwa [Dm]at this
  exact⟨o,ad,rfl,λh=>z (r _ i h),λj A=>(q j A).stays u (by rwa [Dm])⟩
theorem Kj.refl (O:Nat->Prop)(w:World):Kj O w w:=λ_ _ _=>rfl
theorem Rel.weaken (h:Rel P w O t x v)(a: ∀b,b<w.heap.size->O' b->O b):Rel P w O' t x v:=h.mono a (Kj.refl _ _)
theorem Cp {k:IntKind}(h:Kp P t=some k):P.underlying t=some (.int k):=by
 unfold Kp at h;split at h<;>simp_all
theorem Ce (h:isBool P t=true):P.underlying t=some .bool :=by
 unfold isBool at h;split at h<;>simp_all
theorem D4 (h:isStr P t=true):P.underlying t=some .string :=by
 unfold isStr at h;split at h<;>simp_all
theorem Be {e:TypeId}(h:Cr P t=some e):P.underlying t=some (.slice e):=by
 unfold Cr at h;split at h<;>simp_all
theorem Aa3 {k:IntKind}(h:P.underlying t=some (.int k)):Ai P t=false:=by simp[Ai,h]
theorem Xd (h:P.underlying t=some .bool):Ai P t=false:=by simp[Ai,h]
theorem Abo (h:P.underlying t=some .string):Ai P t=false:=by simp[Ai,h]
theorem Rel.G4 {k:IntKind}(h:Rel P w O t x v)(a:P.underlying t=some (.int k)): ∃n,x= .int n/\v= .int k n:=by
 cases h with
 | int h=>rw[a]at h;injection h with h;injection h with h;subst h;exact⟨_,rfl,rfl⟩
 | bool h=>rw[a]at h;cases h
 | str h=>rw[a]at h;cases h
 | agg h=>simp[Ai,a]at h
 | list _ h=>rw[a]at h;cases h
theorem Rel.Md (h:Rel P w O t x v)(a:P.underlying t=some .bool): ∃b,x= .bool b/\v= .bool b:=by
 cases h with
 | int h=>rw[a]at h;cases h
 | bool h=>exact⟨_,rfl,rfl⟩
 | str h=>rw[a]at h;cases h
 | agg h=>simp[Ai,a]at h
 | list _ h=>rw[a]at h;cases h
theorem Rel.Hj (h:Rel P w O t x v)(a:P.underlying t=some .string): ∃s,x= .str s/\v= .string s:=by
 cases h with
 | int h=>rw[a]at h;cases h
 | bool h=>rw[a]at h;cases h
 | str h=>exact⟨_,rfl,rfl⟩
 | agg h=>simp[Ai,a]at h
 | list _ h=>rw[a]at h;cases h
def Row (P:Program)(w:World)(O:Nat->Prop)(e:TypeId)(xs:List IV)(A:Option Addr)(c:Nat):Prop:=
 xs.length<=c/\xs.length<=maxLen/\ ∃vs:Nat->Value,
  (0<xs.length->0<Ag P e/\ ∃ad,A=some ad/\ ¬ O ad.block/\ ∀j,j<xs.length->D1 w (ad.add (j * Ag P e)) (vs j) (Ag P e))/\
  ∀ (j:Nat) (x:IV),xs[j]?=some x->Rel P w O e x (vs j)
theorem Rel.Cl {e:TypeId}(h:Rel P w O t x v)(a:P.underlying t=some (.slice e)): ∃xs A c,x= .list xs/\v= .slice A xs.length c/\Row P w O e xs A c:=by
 cases h with
 | int h=>rw[a]at h;cases h
 | bool h=>rw[a]at h;cases h
 | str h=>rw[a]at h;cases h
 | agg h=>simp[Ai,a]at h
 | list vs h b d g i=>
  rw[a]at h;injection h with h;injection h with h;subst h
  exact⟨_,_,_,rfl,rfl,b,d,vs,g,i⟩
theorem Row.rel {e:TypeId}{xs:List IV}{A:Option Addr}{c:Nat}(h:Row P w O e xs A c)(a:P.underlying t=some (.slice e)):Rel P w O t (.list xs) (.slice A xs.length c):=by
 obtain⟨b,d,vs,g,i⟩:=h
 exact .list vs a b d g i
theorem Rel.It (h:Rel P w O t x v)(a:Ai P t=true): ∃ts xs cs,leaves P t=some ts/\x= .agg xs/\v= .agg cs/\xs.length=ts.length/\cs.size=ts.length/\
  (∀ (i:Nat) (u:TypeId),ts[i]?=some u->Ai P u=false)/\
  ∀ (i:Nat) (u:TypeId) (x:IV) (c:Value),ts[i]?=some u->xs[i]?=some x->cs[i]?=some c->Rel P w O u x c:=by
 cases h with
 | int h=>simp[Ai,h]at a
 | bool h=>simp[Ai,h]at a
 | str h=>simp[Ai,h]at a
 | agg m b d e g j=>exact⟨_,_,_,b,rfl,rfl,d,e,g,j⟩
 | list _ h=>simp[Ai,h]at a
theorem Rel.one (h:Rel P w O t x v)(a:Ai P t=false):v.oneCell'=true/\v.cells= #[v]:=by
 cases h with
 | int h=>exact⟨rfl,rfl⟩
 | bool h=>exact⟨rfl,rfl⟩
 | str h=>exact⟨rfl,rfl⟩
 | agg h=>simp[a]at h
 | list _ h=>exact⟨rfl,rfl⟩
theorem Rel.cells_one (h:Rel P w O t x v): ∀u∈v.cells,u.oneCell'=true:=by
 by_cases d:Ai P t=true
 ·obtain⟨ts,xs,cs,e,rfl,rfl,r,y,g,j⟩:=h.It d
  intro u b
  obtain⟨i,m,rfl⟩:=cK.1 b
  have c:i<cs.size:=m
  have o:i<xs.length:=by omega
  have a:i<ts.length:=by omega
  exact((j i _ _ _ (aQ a) (aQ o) (bO c)).one (g i _ (aQ a))).1
 ·have a:Ai P t=false:=by simpa using d
  obtain⟨e,q⟩:=h.one a
  intro u b
  rw[q]at b
  simp at b
  rw[b];exact e
theorem Row.mono {e:TypeId}{xs:List IV}{A:Option Addr}{c:Nat}(h:Row P w O e xs A c)(d: ∀b,b<w.heap.size->O' b->O b)(g:Kj O w w'):Row P w' O' e xs A c:=by
 obtain⟨q,r,vs,t,u⟩:=h
 refine⟨q,r,vs,λi=>?_,λj x y=>(u j x y).mono d g⟩
 obtain⟨m,ad,rfl,z,o⟩:=t i
 have a:ad.block<w.heap.size:=by have:=(o 0 i).lt m;rwa [Dm]at this
 exact⟨m,ad,rfl,λh=>z (d _ a h),λj B=>(o j B).stays g (by rwa [Dm])⟩
theorem Row.nil (e:TypeId)(A:Option Addr)(c:Nat):Row P w O e [] A c:=⟨by simp,by simp,λ_=> .tuple #[],by simp,by simp⟩
theorem Row.at_ {e:TypeId}{xs:List IV}{A:Option Addr}{c:Nat}(h:Row P w O e xs A c){j:Nat}{x:IV}(a:xs[j]?=some x):
  ∃ad v,A=some ad/\ ¬ O ad.block/\D1 w (ad.add (j * Ag P e)) v (Ag P e)/\Rel P w O e x v:=by
 obtain⟨o,q,vs,b,d⟩:=h
 have g:=(aG.1 a).1
 obtain⟨r,ad,rfl,i,m⟩:=b (by omega)
 exact⟨ad,vs j,rfl,i,m j g,d j x a⟩
theorem Row.part {e:TypeId}{xs:List IV}{A:Option Addr}{c:Nat}(h:Row P w O e xs A c){l r:Nat}(o:l<=r)(q:r<=xs.length):
  Row P w O e ((xs.take r).drop l) (if c=l then A else A.map (·.add (l * Ag P e))) (c - l):=by
 obtain⟨t,u,vs,d,g⟩:=h
 have hlen:((xs.take r).drop l).length =r - l:=by rw[aK,aD];omega
 refine⟨by omega,by omega,λj=>vs (l+j),λy=>?_,λj x b=>?_⟩
 ·obtain⟨i,ad,rfl,z,m⟩:=d (by omega)
  have a:c≠l:=by omega
  refine⟨i,ad.add (l * Ag P e),by simp[a],by rwa [Dm],λj B=>?_⟩
  rw[Ds,<-bG]
  exact m (l+j) (by omega)
 ·have:xs[l+j]?=some x:=by
   rw[aH,aE]at b
   split at b<;>simp_all
  exact g _ _ this
def Ag2 (P:Program)(w:World)(O:Nat->Prop)(e:TypeId)(xs:List IV)(A:Option Addr)(c:Nat):Prop:=
 xs.length<=c/\xs.length<=maxLen/\ ∃vs:Nat->Value,
  (0<xs.length->0<Ag P e/\ ∃ad,A=some ad/\ ∀j,j<xs.length->D1 w (ad.add (j * Ag P e)) (vs j) (Ag P e))/\
  ∀ (j:Nat) (x:IV),xs[j]?=some x->Rel P w O e x (vs j)
theorem Row.Ab3 {e:TypeId}{xs:List IV}{A:Option Addr}{c:Nat}(h:Row P w O e xs A c):Ag2 P w O e xs A c:=by
 obtain⟨a,b,vs,d,g⟩:=h
 exact⟨a,b,vs,λi=>by obtain⟨j,ad,rfl,o,m⟩:=d i;exact⟨j,ad,rfl,m⟩,g⟩
theorem Ag2.row {e:TypeId}{xs:List IV}{A:Option Addr}{c:Nat}(h:Ag2 P w O e xs A c)(a: ∀b,b<w.heap.size->O' b->O b)(d: ∀ad,A=some ad-> ¬ O' ad.block):Row P w O' e xs A c:=by
 obtain⟨g,i,vs,m,o⟩:=h
 exact⟨g,i,vs,λq=>by obtain⟨r,ad,rfl,t⟩:=m q;exact⟨r,ad,rfl,d _ rfl,t⟩,λj x u=>(o j x u).weaken a⟩
theorem Ag2.part {e:TypeId}{xs:List IV}{A:Option Addr}{c:Nat}(h:Ag2 P w O e xs A c){l r:Nat}(o:l<=r)(q:r<=xs.length):
  Ag2 P w O e ((xs.take r).drop l) (if c=l then A else A.map (·.add (l * Ag P e))) (c - l):=by
 obtain⟨t,u,vs,d,g⟩:=h
 have hlen:((xs.take r).drop l).length =r - l:=by rw[aK,aD];omega
 refine⟨by omega,by omega,λj=>vs (l+j),λy=>?_,λj x b=>?_⟩
 ·obtain⟨i,ad,rfl,m⟩:=d (by omega)
  have a:c≠l:=by omega
  refine⟨i,ad.add (l * Ag P e),by simp[a],λj z=>?_⟩
  rw[Ds,<-bG]
  exact m (l+j) (by omega)
 ·have:xs[l+j]?=some x:=by
   rw[aH,aE]at b
   split at b<;>simp_all
  exact g _ _ this
theorem Row.nilB (e:TypeId)(A:Option Addr)(c:Nat):Ag2 P w O e [] A c:=(Row.nil (P:=P) (w:=w) (O:=O) e A c).Ab3
def Nn (P:Program)(t:TypeId)(cs:Array Value)(off:Nat):Value:=
 if Ai P t then .agg (cs.extract off (off+Ag P t)) else cs.getD off undef
theorem Mr {d:TypeDesc}(a:P.underlying t=some d):(isAgg t).run P w= .ok (Ai P t) w:=by
 unfold isAgg underlying Ai
 simp[a]
 cases d<;>rfl
theorem run_sizeOf {i:TypeInfo}(a:P.info? t=some i):(sizeOf t).run P w= .ok (Ag P t) w:=by
 unfold sizeOf typeInfo Ag
 simp[a]
theorem I1 (h:Ai P t=true): ∃d,P.underlying t=some d:=by
 unfold Ai at h
 cases hd:P.underlying t with
 | none=>simp[hd]at h
 | some d=>exact⟨d,rfl⟩
theorem D8 (h:0<Ag P t): ∃i,P.info? t=some i:=by
 unfold Ag at h
 cases hd:P.info? t with
 | none=>simp[hd]at h
 | some d=>exact⟨d,rfl⟩
theorem Ew {d:TypeDesc}(h:P.underlying t=some d): ∃i,P.info? t=some i:=by
 unfold Program.underlying at h
 cases a:P.info? t with
 | none=>simp[a]at h
 | some i=>exact⟨i,rfl⟩
theorem Tc {d:TypeDesc}{ad:Addr}{sz off:Nat}(g:P.underlying t=some d)(h:D1 w ad v sz)
  (o:Ai P t=true->off+Ag P t<=sz) (q:Ai P t=false->off<sz):
  (loadVar t (ad.add off)).run P w= .ok (Nn P t v.cells off) w:=by
 unfold loadVar Nn
 simp only[Sem.run_bind,Mr g,Result.andThen_ok]
 by_cases a:Ai P t=true
 ·have hle:=o a
  obtain⟨i,r⟩:=Ew g
  simp only[a,Zt,Sem.run_bind,run_sizeOf r,Result.andThen_ok]
  have m:=run_loadCells_list (P:=P) w (ad.add off) ((v.cells.toList.drop off).take (Ag P t)) (λj u e=>by
   rw[aE]at e
   split at e
   ·rw[aH]at e
    rw[Ds]
    exact h.2 _ _ (by simpa using e)
   ·simp at e)
  have hlen:((v.cells.toList.drop off).take (Ag P t)).length =Ag P t:=by
   rw[aD,aK,aA,h.1];omega
  rw[hlen]at m
  rw[m]
  simp only[Result.andThen_ok,Sem.run_pure]
  congr 2
  apply Array.ext'
  simp[cO,dG]
 ·have b:Ai P t=false:=by simpa using a
  have c:=q b
  rw[<-h.1]at c
  simp[b,h.2 off _ (bO c)]
  simp[c]
theorem Rel.Y7 (h:Rel P w O t x v)(c:v.cells.size=Ag P t):Nn P t v.cells 0=v:=by
 unfold Nn
 by_cases b:Ai P t=true
 ·obtain⟨ts,xs,cs,d,rfl,rfl,e,g,i,j⟩:=h.It b
  simp only[b,Zt]
  congr 1
  have:cs.size=Ag P t:=c
  simp[Value.cells,<-this]
 ·have a:Ai P t=false:=by simpa using b
  rw[(h.one a).2]
  simp[a]
theorem Rel.Nn {t0:TypeId}{off:Nat}(h:Rel P w O t0 x v)(A:Ai P t0=true)(hp:Wl P t0 off t=true){y:IV}
  (q:Prim.ev (.proj off (Ag P t) (Ai P t)) [x]=some y):Rel P w O t y (Nn P t v.cells off)/\0<Ag P t/\off+Ag P t<=v.cells.size:=by
 obtain⟨ts,xs,cs,F,rfl,rfl,L,M,G,E⟩:=h.It A
 unfold Wl at hp
 rw[F]at hp
 cases e:leaves P t with
 | none=>simp[e]at hp
 | some us=>
  simp only[e,aC,beq_iff_eq,decide_eq_true_eq]at hp
  obtain⟨⟨m,H⟩,I⟩:=hp
  have hlen:off+us.length<=ts.length:=by
   have:=congrArg cZ m
   rw[aD,aK]at this
   omega
  refine⟨?_,by omega,by show off+_<=cs.size;omega⟩
  have a: ∀ (i:Nat) (u:TypeId),us[i]?=some u->ts[off+i]?=some u:=by
   intro i u g
   rw[<-m,aE]at g
   split at g
   ·rwa [aH]at g
   ·simp at g
  unfold CT.Nn
  by_cases b:Ai P t=true
  ·simp only[b,Zt,Prim.ev,aB]at q ⊢
   subst q
   refine .agg b e ?_ ?_ (λi u g=>G _ _ (a i u g)) (λi u x c g r z=>?_)
   ·rw[aD,aK];omega
   ·simp[Value.cells];omega
   ·refine E (off+i) u x c (a i u g) ?_ ?_
    ·rw[aE]at r
     split at r
     ·rwa [aH]at r
     ·simp at r
    ·rw[Array.getElem?_extract]at z
     split at z
     ·simpa [Value.cells]using z
     ·simp at z
  ·have j:Ai P t=false:=by simpa using b
   simp only[j,Prim.ev,aJ,Zf]at q ⊢
   -- one cell
   have B:us= [t]:=by
    have J: ∀ (d:Nat),Hb P (d+1) t=some us->us= [t]:=by
     intro d hd
     unfold Hb at hd
     cases C:P.underlying t with
     | none=>simp[C]at hd
     | some de=>cases de<;>simp_all[Ai]
    exact J 11 e
   subst B
   have K:=a 0 t rfl
   have o:off<cs.size:=by simp at hlen;omega
   refine E off t y _ (by simpa using K) q ?_
   simp[Value.cells,dD,o]
end
end Go.CT
namespace Go.CT
def cur (S:View)(obs:List (Nat × Option Ob))(k:Nat):Option Ob:=
 match Hc k obs with
 | some o=>o
 | none=>S.ob k
def Ev {α:Type}(S:View)(f:EM α)(es:ES)(x:α)(es':ES)(ls:List PLt):Prop:= ∃sl ks,(f es).run S=some ((x,es'),ls,sl,ks)
section
variable {α β:Type}{S:View}{es es':ES}{ls:List PLt}
theorem RM.run_bind (r:RM α)(f:α->RM β):(r.bind f).run S=(r.run S).bind fun(a,e,l,k)=>((f a).run S).map fun(b,d,g,h)=>(b,e++d,l++g,k++h):=by
 induction r with
 | pure a=>simp[RM.bind,RM.run]
 | tm s k c=>
  simp only[RM.bind,RM.run,c]
  cases(k (S.tm s)).run S with
  | none=>rfl
  | some r=>obtain⟨a,e,l,r⟩:=r;simp;cases(f a).run S<;>simp
 | ob s k c=>
  simp only[RM.bind,RM.run,c]
  cases(k (S.ob s)).run S with
  | none=>rfl
  | some r=>obtain⟨a,e,l,r⟩:=r;simp;cases(f a).run S<;>simp
 | emit t k c=>
  simp only[RM.bind,RM.run,c]
  cases k.run S with
  | none=>rfl
  | some r=>obtain⟨a,e,l,r⟩:=r;simp;cases(f a).run S<;>simp
 | fail=>rfl
theorem Ad {a x:α} :Ev S (pure a) es x es' ls↔x=a/\es=es'/\ls= []:=by
 show(∃sl ks,some _=some _)↔_
 constructor
 ·rintro⟨sl,ks,h⟩
  simp only[aB,aZ]at h
  exact⟨h.1.1.symm,h.1.2,h.2.1.symm⟩
 ·rintro⟨rfl,rfl,rfl⟩
  exact⟨[],[],rfl⟩
theorem Ab {x:EM α}{f:α->EM β}{r:β} :Ev S (x >>= f) es r es' ls↔ ∃a es1 c d,Ev S x es a es1 c/\Ev S (f a) es1 r es' d/\ls=c++d:=by
 unfold Ev
 have j:(x >>= f) es=(x es).bind fun(a,s')=>f a s':=rfl
 constructor
 ·rintro⟨sl,ks,h⟩
  rw[j,RM.run_bind]at h
  cases m:(x es).run S with
  | none=>simp[m]at h
  | some y=>
   obtain⟨⟨a,es1⟩,c,e,k1⟩:=y
   simp only[m,aX]at h
   cases g:(f a es1).run S with
   | none=>simp[g]at h
   | some z=>
    obtain⟨⟨b,es2⟩,d,i,k2⟩:=z
    simp only[g,aL,aB,aZ]at h
    obtain⟨⟨rfl,rfl⟩,rfl,_,_⟩:=h
    exact⟨a,es1,c,d,⟨e,k1,rfl⟩,⟨i,k2,g⟩,rfl⟩
 ·rintro⟨a,es1,c,d,⟨e,k1,o⟩,⟨i,k2,q⟩,rfl⟩
  refine⟨e++i,k1++k2,?_⟩
  rw[j,RM.run_bind,o]
  simp[q]
theorem Ac {x:α} :Ev S (EM.fail:EM α) es x es' ls↔False:=by
 constructor
 ·rintro⟨sl,ks,h⟩;simp[EM.fail,RM.run]at h
 ·exact False.elim
theorem K8 {s:Nat}{x:SV} :Ev S (EM.Ac8 s) es x es' ls↔x=S.tm s/\es=es'/\ls= []:=by
 constructor
 ·rintro⟨sl,ks,h⟩
  simp only[EM.Ac8,RM.run,aL,aB,aZ]at h
  exact⟨h.1.1.symm,h.1.2,h.2.1.symm⟩
 ·rintro⟨rfl,rfl,rfl⟩
  exact⟨[s],[],rfl⟩
theorem Bp {k:Nat}{x:Ob} :Ev S (EM.Gj k) es x es' ls↔cur S es.obs k=some x/\es=es'/\ls= []:=by
 unfold Ev EM.Gj cur
 cases a:Hc k es.obs with
 | some o=>
  cases o with
  | some o=>
   simp only[RM.run,aB,aZ]
   constructor
   ·rintro⟨sl,ks,⟨h,h'⟩,rfl,_⟩;simp_all
   ·rintro⟨h,rfl,rfl⟩;exact⟨[],[],by simp_all⟩
  | none=>simp[RM.run]
 | none=>
  simp only[RM.run]
  cases b:S.ob k with
  | none=>simp[RM.run]
  | some o=>
   simp only[RM.run,aL,aB,aZ]
   constructor
   ·rintro⟨sl,ks,⟨h,h'⟩,rfl,_⟩;simp_all
   ·rintro⟨h,rfl,rfl⟩;exact⟨[],[k],by simp_all⟩
theorem Ao {o:Option α}{x:α} :Ev S (EM.ofOption o) es x es' ls↔o=some x/\es=es'/\ls= []:=by
 unfold Ev EM.ofOption
 cases o with
 | none=>simp[RM.run]
 | some o=>
  simp only[RM.run,aB,aZ]
  constructor
  ·rintro⟨sl,ks,⟨h,h'⟩,rfl,_⟩;simp_all
  ·rintro⟨h,rfl,rfl⟩;exact⟨[],[],by simp_all⟩
theorem Af {b:Bool}{x:Unit} :Ev S (EM.guard b) es x es' ls↔b=true/\es=es'/\ls= []:=by
 unfold Ev EM.guard
 cases b with
 | false=>simp[RM.run]
 | true=>
  simp only[RM.run,Zt,aB,aZ]
  constructor
  ·rintro⟨sl,ks,⟨h,h'⟩,rfl,_⟩;simp_all
  ·rintro⟨_,rfl,rfl⟩;exact⟨[],[],by simp_all⟩
theorem Ahf {l:Mj}{x:Nat} :Ev S (EM.emit l) es x es' ls↔x=es.n/\es'= {es with n:=es.n+l.arity} /\ls= [⟨es.n,⟨es.gs,l⟩⟩]:=by
 unfold Ev EM.emit
 simp only[RM.run,aL,aB,aZ]
 constructor
 ·rintro⟨sl,ks,⟨h,h'⟩,rfl,_⟩;exact⟨h.symm,h'.symm,rfl⟩
 ·rintro⟨rfl,rfl,rfl⟩;exact⟨[],[],⟨rfl,rfl⟩,rfl,rfl,rfl⟩
theorem Bd {k:Nat}{o:Option Ob}{x:Unit} :Ev S (EM.Em k o) es x es' ls↔es'= {es with obs:=(k,o)::es.obs} /\ls= []:=by
 unfold Ev EM.Em
 simp only[RM.run,aB,aZ]
 constructor
 ·rintro⟨sl,ks,⟨h,h'⟩,rfl,_⟩;simp_all
 ·rintro⟨rfl,rfl⟩;exact⟨[],[],by simp⟩
theorem Cc {x:Nat} :Ev S EM.Ga es x es' ls↔x=es.m/\es'= {es with m:=es.m+1} /\ls= []:=by
 unfold Ev EM.Ga
 simp only[RM.run,aB,aZ]
 constructor
 ·rintro⟨sl,ks,⟨h,h'⟩,rfl,_⟩;exact⟨h.symm,h'.symm,rfl⟩
 ·rintro⟨rfl,rfl,rfl⟩;exact⟨[],[],⟨rfl,rfl⟩,rfl,rfl,rfl⟩
theorem Ii {x:List (Arg × Bool)} :Ev S EM.guards es x es' ls↔x=es.gs/\es=es'/\ls= []:=by
 unfold Ev EM.guards
 simp only[RM.run,aB,aZ]
 constructor
 ·rintro⟨sl,ks,⟨h,h'⟩,rfl,_⟩;exact⟨h.symm,h',rfl⟩
 ·rintro⟨rfl,rfl,rfl⟩;exact⟨[],[],⟨rfl,rfl⟩,rfl,rfl,rfl⟩
theorem Dh {x:Unit} :Ev S EM.bare es x es' ls↔es.gs= []/\es=es'/\ls= []:=by
 unfold Ev EM.bare
 cases a:es.gs with
 | nil=>
  simp only[RM.run,aB,aZ]
  constructor
  ·rintro⟨sl,ks,⟨h,h'⟩,rfl,_⟩;simp_all
  ·rintro⟨_,rfl,rfl⟩;exact⟨[],[],by simp_all⟩
 | cons=>simp[RM.run]
theorem Bi {p:Prim}{as:List Arg}{x:Arg} :Ev S (EM.Bv p as) es x es' ls↔x= .v es.n/\es'= {es with n:=es.n+1} /\ls= [⟨es.n,⟨es.gs,.Bv p as⟩⟩]:=by
 unfold EM.Bv
 rw[Ab]
 constructor
 ·rintro⟨a,es1,d,e,b,c,rfl⟩
  rw[Ahf]at b;rw[Ad]at c
  obtain⟨rfl,rfl,rfl⟩:=b
  obtain⟨rfl,rfl,rfl⟩:=c
  exact⟨rfl,rfl,rfl⟩
 ·rintro⟨rfl,rfl,rfl⟩
  exact⟨_,_,_,_,Ahf.2 ⟨rfl,rfl,rfl⟩,Ad.2 ⟨rfl,rfl,rfl⟩,rfl⟩
theorem Hr {c:Prop}[Decidable c]{f g:EM α}{x:α} :Ev S (if c then f else g) es x es' ls↔(c/\Ev S f es x es' ls)\/(¬ c/\Ev S g es x es' ls):=by
 by_cases h:c<;>simp[h]
end
def Bck (R:Job->List IV->Option (List IV))(ρ:List IV)(l:PLt):Prop:=
 ∃xs,l.l.ev R ρ=some xs/\ ∀i,i<l.l.l.arity->ρ[l.n+i]?=xs[i]?
def LH (R:Job->List IV->Option (List IV))(ρ:List IV)(ls:List PLt):Prop:= ∀l∈ls,Bck R ρ l
theorem LH.left {R:Job->List IV->Option (List IV)}{ρ:List IV}{a b:List PLt}(h:LH R ρ (a++b)):LH R ρ a:=λl c=>h l (List.mem_append_left _ c)
theorem LH.right {R:Job->List IV->Option (List IV)}{ρ:List IV}{b a:List PLt}(h:LH R ρ (b++a)):LH R ρ a:=λl c=>h l (bE _ c)
theorem LH.Bv {R:Job->List IV->Option (List IV)}{ρ:List IV}{n:Nat}{gs:List (Arg × Bool)}{p:Prim}{as:List Arg}(h:LH R ρ [⟨n,⟨gs,.Bv p as⟩⟩])(d:holds ρ gs=some true):
  ∃vs y,Arg.evs ρ as=some vs/\p.ev vs=some y/\Arg.ev ρ (.v n)=some y:=by
 obtain⟨xs,a,e⟩:=h _ (List.mem_singleton.2 rfl)
 simp only[K1.ev,d,aX,Zt,Mj.ev]at a
 cases c:Arg.evs ρ as with
 | none=>simp[c]at a
 | some vs=>
  simp only[c,aX]at a
  cases b:p.ev vs with
  | none=>simp[b]at a
  | some y=>
   simp only[b,aL,aB]at a
   subst a
   have:=e 0 (by simp[Mj.arity])
   exact⟨vs,y,rfl,b,by simpa [Arg.ev]using this⟩
def blk:Value->Option Nat
 | .slice (some a) _ _=>some a.block
 | .pointer (some a)=>some a.block
 | .map (some r)=>some r
 | _=>none
def Ob.Ea:Ob->Bool
 | .box _ _=>true
 | .arr .. =>true
 | .frz .. =>false
 | .iter .. =>true
 | .mp .. =>true
def Wr (ob:Nat->Option Ob)(μ:Nat->Value)(b:Nat):Prop:= ∃k o,ob k=some o/\o.Ea=true/\blk (μ k)=some b
structure Cx where
 P:Program
 ρ:List IV
 μ:Nat->Value
 w:World
 O:Nat->Prop -- data lie outside
 W:Nat->Prop -- what this call may write
def Sf (c:Cx)(x:Arg)(t:TypeId)(v:Value):Prop:= ∃iv,x.ev c.ρ=some iv/\Rel c.P c.w c.O t iv v
def Ab7 (c:Cx):PV->Value->Prop
 | .p k off,v=> ∃b,c.μ k= .pointer (some ⟨b,0,none⟩)/\v= .pointer (some ((⟨b,0,none⟩:Addr).add off))
 | .el k e i off,v=> ∃g n cap j,c.μ k= .slice (some ⟨g,0,none⟩) n cap/\i.ev c.ρ=some (.int (j:Nat))/\j<n/\
  v= .pointer (some ((⟨g,0,none⟩:Addr).add (j * Ag c.P e+off)))
 | .im x t off,v=> ∃ad u,Sf c x t u/\D1 c.w ad u (Ag c.P t)/\0<Ag c.P t/\ ¬ c.W ad.block/\v= .pointer (some (ad.add off))
def Mk (c:Cx):List PV->List Value->Prop
 | [],[]=>True
 | p::a,v::vs=>Ab7 c p v/\Mk c a vs
 | _,_=>False
def W2 (c:Cx):LV->Value->Prop
 | .at x t,v=>Sf c x t v
 | .nil _,v=>v= .slice none 0 0
 | .ref k _,v=>v=c.μ k/\ ∃A n cap,v= .slice A n cap
 | .sub k lo b t,v=> ∃ (A:Option Addr) (n cap l h:Nat) (e:TypeId),c.P.underlying t=some (.slice e)/\c.μ k= .slice A n cap/\lo.ev c.ρ=some (.int l)/\b.ev c.ρ=some (.int h)/\l<=h/\h<=n/\
  v= .slice (if cap=l then A else A.map (·.add (l * Ag c.P e))) (h - l) (cap - l)
 | .ptr p,v=>Ab7 c p v
 | .fn f d,v=> ∃vs:Array Value,v= .func (.func f) #[] vs/\Mk c d vs.toList
 | .mref k _,v=>v=c.μ k/\ ∃r,v= .map (some r)
 | .cl x t,v=>Sf c x t v/\ ∃A n,v= .slice A n n
 | .st x t,v=>Sf c x t v/\ ∃ys A cap,x.ev c.ρ=some (.list ys)/\v= .slice A ys.length cap/\(ys= []->v= .slice none 0 0)
 | .hid k,v=>v= .pointer none\/(v=c.μ k/\ ∃a,v= .pointer (some a))
 | .junk,_=>True
def Bb0 (c:Cx)(l:LV)(v:Value):Prop:=v.oneCell'=true/\W2 c l v
def Dt (c:Cx):List LV->List Value->Prop
 | [],[]=>True
 | l::ls,v::vs=>Bb0 c l v/\Dt c ls vs
 | _,_=>False
def K0 (c:Cx):VV->Value->Prop
 | .leaf l,v=>W2 c l v
 | .agg _ ls,v=> ∃cs:Array Value,v= .agg cs/\Dt c ls cs.toList
def Eh (c:Cx):List VV->List Value->Prop
 | [],[]=>True
 | l::ls,v::vs=>K0 c l v/\Eh c ls vs
 | _,_=>False
def Agd (c:Cx):SX->Value->Prop
 | .one v,u=>K0 c v u
 | .tup vs,u=> ∃us:Array Value,u= .tuple us/\Eh c vs us.toList
 | .nx ok i r,u=> ∃ (b:Bool) (n m:Int),ok.ev c.ρ=some (.bool b)/\i.ev c.ρ=some (.int n)/\r.ev c.ρ=some (.int m)/\u= .tuple (if b then #[.bool true,.int .i64 n,.int .i32 m]else #[.bool false])
def Ap2 (c:Cx)(s:SV)(v:Value):Prop:= ∃b,holds c.ρ s.gs=some b/\(b=true->Agd c s.x v)/\(b=false->v=undef)
def Ja (P:Program)(w:World)(O:Nat->Prop)(e:TypeId)(ivs:List IV)(cs:List Value):Prop:=
 ∀ (j:Nat) (x:IV),ivs[j]?=some x-> ∃v:Value,Rel P w O e x v/\v.cells.toList=(cs.drop (j * Ag P e)).take (Ag P e)/\v.cells.size=Ag P e
def Jf (P:Program)(w:World)(O:Nat->Prop)(kt vt:TypeId):List IV->List MapEntry->Prop
 | [],[]=>True
 | x::xs,e::es=>(∃a b,x= .agg [a,b]/\Rel P w O kt a e.key/\Rel P w O vt b e.val)/\Jf P w O kt vt xs es
 | _,_=>False
def Ae3 (c:Cx)(k:Nat):Ob->Prop
 | .box t vv=> ∃b v,c.μ k= .pointer (some ⟨b,0,none⟩)/\c.w.heap[b]?=some (.cells v.cells t (0,0))/\v.cells.size=Ag c.P t/\
  (if Ai c.P t then ∃cs,v= .agg cs else v.oneCell'=true)/\(∀u∈v.cells,u.oneCell'=true)/\K0 c vv v
 | .arr e t a=> ∃ivs cs,a.ev c.ρ=some (.list ivs)/\c.P.underlying t=some (.slice e)/\0<Ag c.P e/\c.w.ownsRow 0 e (Ag c.P e) (c.μ k) ivs.length cs/\Ja c.P c.w c.O e ivs cs/\
  (∀u∈cs,u.oneCell'=true)
 | .frz e t a=>c.P.underlying t=some (.slice e)/\Sf c a t (c.μ k)
 | .iter s p=> ∃ (b n:Nat) (bs:ByteArray),c.μ k= .pointer (some ⟨b,0,none⟩)/\c.w.heap[b]?=some (.stringIter bs n)/\s.ev c.ρ=some (.str bs)/\p.ev c.ρ=some (.int n)
 | .mp t kt vt a=> ∃ (r cl:Nat) (es:Array MapEntry) (ivs:List IV),c.μ k= .map (some r)/\c.w.heap[r]?=some (.map es cl)/\c.P.underlying t=some (.map kt vt)/\Aua c.P kt=true/\a.ev c.ρ=some (.list ivs)/\Jf c.P c.w c.O kt vt ivs es.toList
def Bh (P:Program)(X:Nat->Prop)(ρ:List IV)(ob:Nat->Option Ob)(μ:Nat->Value)(w:World):Cx:=
 {P,ρ,μ,w,O:=λb=>X b\/Wr ob μ b,W:=Wr ob μ}
structure Good (P:Program)(N:Nat)(X:Nat->Prop)(ρ:List IV)(K:Nat->Prop)(tm:Nat->SV)(ob:Nat->Option Ob)(μ:Nat->Value)(a:Act)(w:World):Prop where
 size:a.tmps.size=N
 defers:a.defers= []
 slot: ∀s,Ap2 (Bh P X ρ ob μ w) (tm s) (a.tmps.getD s undef)
 obj: ∀k o,ob k=some o->Ae3 (Bh P X ρ ob μ w) k o
 sep: ∀k k' o o' b,ob k=some o->ob k'=some o'->o.Ea=true->o'.Ea=true->blk (μ k)=some b->blk (μ k')=some b->k=k'
 xsep: ∀k o b,ob k=some o->o.Ea=true->blk (μ k)=some b-> ¬ X b
 xlt: ∀b,X b->b<w.heap.size
 kt: ∀s k,k∈Ca (tm s).x ->K k
 ko: ∀k o,ob k=some o->K k/\ ∀k'∈E4 o,K k'
end Go.CT
namespace Go.CT
structure Dp (K:Nat->Prop)(c c':Cx):Prop where
 P:c'.P=c.P
 ρ: ∀ (n:Nat) (y:IV),c.ρ[n]?=some y->c'.ρ[n]?=some y
 μ: ∀k,K k->c'.μ k=c.μ k
 stays:Kj c.W c.w c'.w
 O: ∀b,b<c.w.heap.size->c'.O b->c.O b
 W: ∀b,b<c.w.heap.size->c'.W b->c.W b
 WO: ∀b,c.W b->c.O b
section
variable {K:Nat->Prop}{c c':Cx}
theorem Arg.Ef {ρ ρ':List IV}(h: ∀ (n:Nat) (y:IV),ρ[n]?=some y->ρ'[n]?=some y){x:Arg}{y:IV}(a:x.ev ρ=some y):x.ev ρ'=some y:=by
 cases x with
 | v n=>exact h n y a
 | k c=>exact a
theorem O7 {ρ ρ':List IV}(h: ∀ (n:Nat) (y:IV),ρ[n]?=some y->ρ'[n]?=some y): ∀ {gs:List (Arg × Bool)} {b:Bool},holds ρ gs=some b->holds ρ' gs=some b
 | [],_,c=>c
 | (a,want)::gs,b,c=>by
  unfold holds at c ⊢
  cases d:a.ev ρ with
  | none=>simp[d]at c
  | some y=>
   rw[Arg.Ef h d]
   simp only[d]at c
   cases y<;>simp_all
   split<;>simp_all
   exact O7 h c
theorem Dp.rel (h:Dp K c c'){t:TypeId}{x:IV}{v:Value}(a:Rel c.P c.w c.O t x v):Rel c'.P c'.w c'.O t x v:=by
 rw[h.P]
 exact a.mono h.O (λb d e=>h.stays b d λg=>e (h.WO b g))
theorem Dp.A87 (h:Dp K c c'){x:Arg}{t:TypeId}{v:Value}(a:Sf c x t v):Sf c' x t v:=by
 obtain⟨iv,b,d⟩:=a
 exact⟨iv,Arg.Ef h.ρ b,h.rel d⟩
theorem Dp.prel (h:Dp K c c'){p:PV}{v:Value}(w: ∀k∈Di p,K k)(o:Ab7 c p v):Ab7 c' p v:=by
 cases p with
 | p k off=>
  obtain⟨b,d,a⟩:=o
  exact⟨b,by rw[h.μ k (w k (by simp[Di]))];exact d,a⟩
 | el k e i off=>
  obtain⟨g,n,cap,j,d,a,m,q⟩:=o
  exact⟨g,n,cap,j,by rw[h.μ k (w k (by simp[Di]))];exact d,Arg.Ef h.ρ a,m,by rw[h.P];exact q⟩
 | im x t off=>
  obtain⟨ad,u,d,a,y,m,q⟩:=o
  have r:=a.lt y
  exact⟨ad,u,h.A87 d,by rw[h.P];exact a.stays h.stays m,by rw[h.P];exact y,λz=>m (h.W _ r z),q⟩
theorem Dp.Ad4 (h:Dp K c c'): ∀ {b:List PV} {vs:List Value},(∀k∈b.flatMap Di,K k)->Mk c b vs->Mk c' b vs
 | [],[],_,_=>trivial
 | p::b,v::vs,e,a=>⟨h.prel (λk d=>e k (by simp[d])) a.1,h.Ad4 (λk d=>e k (by rw[aN];exact bE _ d)) a.2⟩
 | [],_::_,_,a=>a.elim
 | _::_,[],_,a=>a.elim
theorem Dp.Bdz (h:Dp K c c'){l:LV}{v:Value}(b: ∀k∈A5 l,K k)(a:W2 c l v):W2 c' l v:=by
 cases l with
 | «at» x t=>exact h.A87 a
 | nil t=>exact a
 | ref k t=>exact⟨by rw[h.μ k (b k (by simp[A5]))];exact a.1,a.2⟩
 | sub k lo o t=>
  obtain⟨A,n,cap,l,r,e,m,d,g,i,j⟩:=a
  exact⟨A,n,cap,l,r,e,by rw[h.P];exact m,by rw[h.μ k (b k (by simp[A5]))];exact d,Arg.Ef h.ρ g,Arg.Ef h.ρ i,by rw[h.P];exact j⟩
 | ptr p=>exact h.prel b a
 | fn f q=>
  obtain⟨vs,d,g⟩:=a
  exact⟨vs,d,h.Ad4 b g⟩
 | mref k t=>exact⟨by rw[h.μ k (b k (by simp[A5]))];exact a.1,a.2⟩
 | cl x t=>exact⟨h.A87 a.1,a.2⟩
 | st x t=>
  obtain⟨d,ys,A,cap,g,i,j⟩:=a
  exact⟨h.A87 d,ys,A,cap,Arg.Ef h.ρ g,i,j⟩
 | hid k=>exact a.imp id λa=>⟨by rw[h.μ k (b k (by simp[A5]))];exact a.1,a.2⟩
 | junk=>trivial
theorem Dp.Acu (h:Dp K c c'): ∀ {ls:List LV} {vs:List Value},(∀k∈ls.flatMap A5,K k)->Dt c ls vs->Dt c' ls vs
 | [],[],_,_=>trivial
 | p::e,v::vs,d,a=>⟨⟨a.1.1,h.Bdz (λk b=>d k (by simp[b])) a.1.2⟩,h.Acu (λk b=>d k (by rw[aN];exact bE _ b)) a.2⟩
 | [],_::_,_,a=>a.elim
 | _::_,[],_,a=>a.elim
theorem Dp.Apb (h:Dp K c c'){x:VV}{v:Value}(a: ∀k∈Ax x,K k)(b:K0 c x v):K0 c' x v:=by
 cases x with
 | leaf l=>exact h.Bdz a b
 | agg t ls=>
  obtain⟨cs,d,e⟩:=b
  exact⟨cs,d,h.Acu a e⟩
theorem Dp.Qq (h:Dp K c c'): ∀ {ls:List VV} {vs:List Value},(∀k∈ls.flatMap Ax,K k)->Eh c ls vs->Eh c' ls vs
 | [],[],_,_=>trivial
 | p::e,v::vs,d,a=>⟨h.Apb (λk b=>d k (by simp[b])) a.1,h.Qq (λk b=>d k (by rw[aN];exact bE _ b)) a.2⟩
 | [],_::_,_,a=>a.elim
 | _::_,[],_,a=>a.elim
theorem Dp.xrel (h:Dp K c c'){x:SX}{v:Value}(g: ∀k∈Ca x,K k)(a:Agd c x v):Agd c' x v:=by
 cases x with
 | one x=>exact h.Apb g a
 | tup vs=>
  obtain⟨us,d,e⟩:=a
  exact⟨us,d,h.Qq g e⟩
 | nx ok i r=>
  obtain⟨b,n,m,d,e,j,o⟩:=a
  exact⟨b,n,m,Arg.Ef h.ρ d,Arg.Ef h.ρ e,Arg.Ef h.ρ j,o⟩
theorem Dp.Arc (h:Dp K c c'){x:SV}{v:Value}(a: ∀k∈Ca x.x,K k)(d:Ap2 c x v):Ap2 c' x v:=by
 obtain⟨b,e,g,i⟩:=d
 exact⟨b,O7 h.ρ e,λj=>h.xrel a (g j),i⟩
theorem Dp.elems (h:Dp K c c'){e:TypeId}{ivs:List IV}{cs:List Value}(a:Ja c.P c.w c.O e ivs cs):Ja c'.P c'.w c'.O e ivs cs:=by
 intro j x b
 obtain⟨v,d,g,i⟩:=a j x b
 exact⟨v,h.rel d,by rw[h.P];exact g,by rw[h.P];exact i⟩
theorem Jf.imp {P P':Program}{w w':World}{O O':Nat->Prop}{kt vt:TypeId}(h: ∀ (t:TypeId) (x:IV) (v:Value),Rel P w O t x v->Rel P' w' O' t x v): ∀ {xs:List IV} {es:List MapEntry},Jf P w O kt vt xs es->Jf P' w' O' kt vt xs es
 | [],[],_=>trivial
 | _::_,_::_,⟨⟨a,b,d,e,g⟩,c⟩=>⟨⟨a,b,d,h _ _ _ e,h _ _ _ g⟩,c.imp h⟩
 | [],_::_,c=>c.elim
 | _::_,[],c=>c.elim
theorem Dp.Af0 (h:Dp K c c'){k:Nat}{o:Ob}(q:K k)(C: ∀E∈E4 o,K E)(z:o.Ea=true-> ∀b,blk (c.μ k)=some b->b<c.w.heap.size->c'.w.heap[b]?=c.w.heap[b]?)(u:Ae3 c k o):Ae3 c' k o:=by
 cases o with
 | box t vv=>
  obtain⟨b,v,d,i,j,m,x,y⟩:=u
  refine⟨b,v,by rw[h.μ k q];exact d,?_,by rw[h.P];exact j,by rw[h.P];exact m,x,h.Apb C y⟩
  rw[z rfl b (by rw[d];rfl) (aI.1 i).1]
  exact i
 | arr e t a=>
  obtain⟨ivs,cs,d,i,j,m,x,y⟩:=u
  refine⟨ivs,cs,Arg.Ef h.ρ d,by rw[h.P];exact i,by rw[h.P];exact j,?_,h.elems x,y⟩
  rw[h.P,h.μ k q]
  obtain⟨F,A⟩:=m
  refine⟨F,?_⟩
  rcases A with A | ⟨g,cap,cur,e1,G,B,H⟩
  ·exact .inl A
  ·refine .inr ⟨g,cap,cur,e1,G,?_,H⟩
   rw[z rfl g (by rw[e1];rfl) (aI.1 B).1]
   exact B
 | frz e t a=>
  obtain⟨d,i⟩:=u
  exact⟨by rw[h.P];exact d,by rw[h.μ k q];exact h.A87 i⟩
 | iter s p=>
  obtain⟨b,n,bs,d,i,j,m⟩:=u
  refine⟨b,n,bs,by rw[h.μ k q];exact d,?_,Arg.Ef h.ρ j,Arg.Ef h.ρ m⟩
  rw[z rfl b (by rw[d];rfl) (aI.1 i).1]
  exact i
 | mp t kt vt a=>
  obtain⟨r,cl,es,ivs,d,i,j,m,x,y⟩:=u
  refine⟨r,cl,es,ivs,by rw[h.μ k q];exact d,?_,by rw[h.P];exact j,by rw[h.P];exact m,Arg.Ef h.ρ x,y.imp λ_ _ _ h'=>h.rel h'⟩
  rw[z rfl r (by rw[d];rfl) (aI.1 i).1]
  exact i
end
def Bo (ob:Nat->Option Ob)(k:Nat)(o:Option Ob):Nat->Option Ob:=λa=>if a=k then o else ob a
theorem Bm (S:View)(k:Nat)(o:Option Ob)(obs:List (Nat × Option Ob)):cur S ((k,o)::obs)=Bo (cur S obs) k o:=by
 funext a
 by_cases h:a=k
 ·subst h;simp[cur,Bo,Hc]
 ·have:(k == a)=false:=by simp;exact λh'=>h h'.symm
  have e:Hc a ((k,o)::obs)=Hc a obs:=by rw[Hc];simp[this]
  simp[cur,Bo,h,e]
theorem Ma (S:View):cur S []=S.ob:=by funext k;rfl
def Iy (ob ob':Nat->Option Ob):Prop:= ∀k o,ob' k=some o->o.Ea=true->ob k=some o
theorem Iy.refl (ob:Nat->Option Ob):Iy ob ob:=λ_ _ h _=>h
theorem Iy.trans {a b c:Nat->Option Ob}(h:Iy a b)(h':Iy b c):Iy a c:=λk o e d=>h k o (h' k o e d) d
theorem Iy.wr {ob ob':Nat->Option Ob}(h:Iy ob ob'){μ:Nat->Value}{b:Nat}(c:Wr ob' μ b):Wr ob μ b:=by
 obtain⟨k,o,d,a,e⟩:=c
 exact⟨k,o,h k o d a,a,e⟩
section
variable {P:Program}{N:Nat}{X:Nat->Prop}{ρ:List IV}{K:Nat->Prop}{tm:Nat->SV}{ob ob':Nat->Option Ob}{μ:Nat->Value}{a:Act}{w:World}
theorem Iy.later (h:Iy ob ob'):Dp K (Bh P X ρ ob μ w) (Bh P X ρ ob' μ w):=
 {P:=rfl,ρ:=λ_ _ h=>h,μ:=λ_ _=>rfl,stays:=Kj.refl _ _,O:=λ_b _ a=>a.elim .inl λa=> .inr (h.wr a),W:=λ_b _ a=>h.wr a,WO:=λ_b a=> .inr a}
theorem Good.Dv (G:Good P N X ρ K tm ob μ a w)(h:Iy ob ob')(c: ∀k o,ob' k=some o->o.Ea=false->Ae3 (Bh P X ρ ob' μ w) k o/\K k/\ ∀g∈E4 o,K g):
  Good P N X ρ K tm ob' μ a w:=by
 have L:Dp K (Bh P X ρ ob μ w) (Bh P X ρ ob' μ w):=h.later
 refine⟨G.size,G.defers,λs=>L.Arc (G.kt s) (G.slot s),λk o d=>?_,λk g o o' b m i j q r t=>G.sep k g o o' b (h k o m j) (h g o' i q) j q r t,
  λk o b m i j=>G.xsep k o b (h k o m i) i j,G.xlt,G.kt,λk o d=>?_⟩
 ·cases e:o.Ea with
  | true=>
   have:=h k o d e
   exact L.Af0 (G.ko k o this).1 (G.ko k o this).2 (λ_ b _ _=>rfl) (G.obj k o this)
  | false=>exact(c k o d e).1
 ·cases e:o.Ea with
  | true=>exact G.ko k o (h k o d e)
  | false=>exact(c k o d e).2
theorem Good.Apl (G:Good P N X ρ K tm ob μ a w){k:Nat}{e t:TypeId}{x:Arg}(h:ob k=some (.arr e t x)):
  ∃ivs A cap,x.ev ρ=some (.list ivs)/\μ k= .slice A ivs.length cap/\Ag2 P w (Bh P X ρ ob μ w).O e ivs A cap/\0<Ag P e/\P.underlying t=some (.slice e):=by
 obtain⟨ivs,cs,C,E,q,H,I,Z⟩:=G.obj k _ h
 obtain⟨g1,r⟩:=H
 rcases r with⟨r,J⟩ | ⟨g,cap,cu,e1,e2,L,F,e5,e6,M⟩
 ·have:ivs= []:=by cases ivs with | nil=>rfl | cons=>simp at J
  subst this
  exact⟨[],none,0,C,r,Row.nilB e none 0,q,E⟩
 ·refine⟨ivs,_,cap,C,e1,⟨F,Nat.le_trans F e5,?_⟩,q,E⟩
  -- the elements' values
  have key: ∀j:Nat,∃v:Value,j<ivs.length->(∀x,ivs[j]?=some x->Rel P w (Bh P X ρ ob μ w).O e x v)/\v.cells.toList=(cs.drop (j * Ag P e)).take (Ag P e)/\v.cells.size=Ag P e:=by
   intro j
   by_cases c:j<ivs.length
   ·obtain⟨v,Q,R,S⟩:=I j _ (aQ c)
    exact⟨v,λ_=>⟨λx d=>by rw[aQ c]at d;injection d with d;subst d;exact Q,R,S⟩⟩
   ·exact⟨.tuple #[],λh=>absurd h c⟩
  obtain⟨vs,m⟩:=Classical.axiomOfChoice key
  refine⟨vs,λh0=>⟨q,_,rfl,λj c=>⟨(m j c).2.2,λi u T=>?_⟩⟩,λj x d=>(m j (aG.1 d).1).1 x d⟩
  have b:(vs j).cells.toList[i]?=some u:=by simpa using T
  rw[(m j c).2.1,aE]at b
  split at b
  ·rename_i U
   rw[aH]at b
   have y:w.heap[g]?=some (.cells cu e (0,0)):=L
   rw[Ds,<-M,aE]at *
   have z:j * Ag P e+i<ivs.length * Ag P e:=by
    have:j * Ag P e+Ag P e<=ivs.length * Ag P e:=by rw[<-cG];exact aO _ c
    have Y:i<Ag P e:=U
    omega
   have B:cu.toList[j * Ag P e+i]?=some u:=by
    have:=b
    rw[if_pos (by exact z)]at this
    exact this
   have o:(⟨g,0,none⟩:Addr).add (j * Ag P e+i)=⟨g,j * Ag P e+i,none⟩:=by unfold Addr.add;split<;>simp_all
   rw[o]
   simp only[World.cell?,y]
   simpa using B
  ·simp at b
end
end Go.CT
namespace Go.CT
open EM
def Px (c:Cx)(x:Arg)(t:TypeId)(v:Value):Prop:=
 ∃iv,x.ev c.ρ=some iv/\Rel c.P c.w (λ_=>False) t iv v/\
  ∀e,c.P.underlying t=some (.slice e)-> ∃xs A cap,iv= .list xs/\v= .slice A xs.length cap/\Ag2 c.P c.w c.O e xs A cap
theorem Sf.Ab3 {c:Cx}{x:Arg}{t:TypeId}{v:Value}(h:Sf c x t v):Px c x t v:=by
 obtain⟨iv,b,a⟩:=h
 refine⟨iv,b,a.weaken (λ_ _ h=>h.elim),λe d=>?_⟩
 obtain⟨xs,A,cap,rfl,rfl,g⟩:=a.Cl d
 exact⟨xs,A,cap,rfl,rfl,g.Ab3⟩
theorem Px.A2l {c:Cx}{x:Arg}{t e:TypeId}{xs:List IV}{A:Option Addr}{cap:Nat}(h:x.ev c.ρ=some (.list xs))(b:c.P.underlying t=some (.slice e))(d:Ag2 c.P c.w c.O e xs A cap):
  Px c x t (.slice A xs.length cap):=by
 refine⟨_,h,(d.row (λ_ _ h=>h.elim) (λ_ _ h=>h)).rel b,λg a=>?_⟩
 rw[b]at a;injection a with a;injection a with a;subst a
 exact⟨xs,A,cap,rfl,rfl,d⟩
theorem Dp.brel {K:Nat->Prop}{c c':Cx}(h:Dp K c c')(a:c'.w=c.w){x:Arg}{t:TypeId}{v:Value}(d:Px c x t v):Px c' x t v:=by
 obtain⟨iv,g,i,m⟩:=d
 refine⟨iv,Arg.Ef h.ρ g,by rw[h.P,a];exact i,λe b=>?_⟩
 rw[h.P]at b
 obtain⟨xs,A,cap,e1,o,q,r,vs,u,y⟩:=m e b
 exact⟨xs,A,cap,e1,o,q,r,vs,by rw[h.P,a];exact u,λj x z=>h.rel (y j x z)⟩
section
variable {P:Program}{N:Nat}{X:Nat->Prop}{R:Job->List IV->Option (List IV)}{ρ:List IV}{K:Nat->Prop}{S:View}{μ:Nat->Value}{a:Act}{w:World}
theorem Good.freeze {tm:Nat->SV}{ob:Nat->Option Ob}(G:Good P N X ρ K tm ob μ a w){k:Nat}{e t:TypeId}{c:Arg}(h:ob k=some (.arr e t c)):
  Good P N X ρ K tm (Bo ob k (some (.frz e t c))) μ a w/\Iy ob (Bo ob k (some (.frz e t c))):=by
 have F:Iy ob (Bo ob k (some (.frz e t c))):=by
  intro d o g u
  unfold Bo at g
  split at g
  ·injection g with g;subst g;simp[Ob.Ea]at u
  ·exact g
 refine⟨G.Dv F (λd o g u=>?_),F⟩
 by_cases x:d=k
 ·subst x
  simp only[Bo,Zt,aB]at g
  subst g
  obtain⟨ivs,A,cap,B,y,C,J,z⟩:=G.Apl h
  refine⟨⟨z,.list ivs,B,?_⟩,(G.ko d _ h).1,λ_ h=>by simp[E4]at h⟩
  show Rel P w _ t (.list ivs) (μ d)
  rw[y]
  refine(C.row (λb _ j=>j.elim .inl λj=> .inr (F.wr j)) (λad E m=>?_)).rel z
  subst E
  have j:blk (μ d)=some ad.block:=by rw[y];rfl
  rcases m with m | ⟨k2,H,q,r,I⟩
  ·exact G.xsep d _ _ h rfl j m
  ·have:k2=d:=G.sep k2 d _ _ _ (F k2 H q r) h r rfl I j
   subst this
   simp only[Bo,Zt,aB]at q
   subst q
   simp[Ob.Ea]at r
 ·have i:ob d=some o:=by simpa [Bo,x]using g
  exact⟨F.later.Af0 (K:=K) (G.ko d o i).1 (G.ko d o i).2 (λ_ _ _ _=>rfl) (G.obj d o i),G.ko d o i⟩
theorem Good.drop {tm:Nat->SV}{ob:Nat->Option Ob}(G:Good P N X ρ K tm ob μ a w)(k:Nat):
  Good P N X ρ K tm (Bo ob k none) μ a w/\Iy ob (Bo ob k none):=by
 have F:Iy ob (Bo ob k none):=by
  intro c o d e
  unfold Bo at d
  split at d
  ·cases d
  ·exact d
 refine⟨G.Dv F (λc o d e=>?_),F⟩
 have g:c≠k:=by rintro rfl;simp[Bo]at d
 have b:ob c=some o:=by simpa [Bo,g]using d
 exact⟨F.later.Af0 (K:=K) (G.ko c o b).1 (G.ko c o b).2 (λ_ _ _ _=>rfl) (G.obj c o b),G.ko c o b⟩
variable (P N X ρ K S μ a w) in
structure Ph (es es':ES):Prop where
 Cj:Good P N X ρ K S.tm (cur S es'.obs) μ a w
 Dv:Iy (cur S es.obs) (cur S es'.obs)
 m:es'.m=es.m
 gs:es'.gs=es.gs
theorem Ph.refl {es:ES}(G:Good P N X ρ K S.tm (cur S es.obs) μ a w):Ph P N X ρ K S μ a w es es:=⟨G,Iy.refl _,rfl,rfl⟩
theorem Ph.same {es es':ES}(G:Good P N X ρ K S.tm (cur S es.obs) μ a w)(b:es'.obs=es.obs)(c:es'.m=es.m)(d:es'.gs=es.gs):Ph P N X ρ K S μ a w es es':=
 ⟨by rw[b];exact G,by rw[b];exact Iy.refl _,c,d⟩
theorem Ph.trans {e1 b c:ES}(h:Ph P N X ρ K S μ a w e1 b)(h':Ph P N X ρ K S μ a w b c):Ph P N X ρ K S μ a w e1 c:=
 ⟨h'.Cj,h.Dv.trans h'.Dv,h'.m.trans h.m,h'.gs.trans h.gs⟩
theorem Ph.later {es es':ES}(h:Ph P N X ρ K S μ a w es es'):Dp K (Bh P X ρ (cur S es.obs) μ w) (Bh P X ρ (cur S es'.obs) μ w):=h.Dv.later
theorem Ph.upd {es:ES}{k:Nat}{o:Option Ob}{n:Nat}(h:Good P N X ρ K S.tm (Bo (cur S es.obs) k o) μ a w/\Iy (cur S es.obs) (Bo (cur S es.obs) k o)):
  Ph P N X ρ K S μ a w es {es with n,obs:=(k,o)::es.obs} :=
 ⟨by rw[Bm];exact h.1,by rw[Bm];exact h.2,rfl,rfl⟩
theorem Apf {x:Arg}{vs:List IV}(h:Arg.evs ρ [x]=some vs): ∃y,x.ev ρ=some y/\vs= [y]:=by
 unfold Arg.evs at h
 cases a:x.ev ρ with
 | none=>simp[a]at h
 | some y=>simp[a,Arg.evs]at h;exact⟨y,rfl,h.symm⟩
theorem Ab8 {x y:Arg}{vs:List IV}(h:Arg.evs ρ [x,y]=some vs): ∃u v,x.ev ρ=some u/\y.ev ρ=some v/\vs= [u,v]:=by
 unfold Arg.evs at h
 cases a:x.ev ρ with
 | none=>simp[a]at h
 | some u=>
  cases b:Arg.evs ρ [y]with
  | none=>simp[a,b]at h
  | some r=>
   obtain⟨v,c,rfl⟩:=Apf b
   simp[a,b]at h
   exact⟨u,v,rfl,c,h.symm⟩
theorem A6q {x y z:Arg}{vs:List IV}(h:Arg.evs ρ [x,y,z]=some vs): ∃u v q,x.ev ρ=some u/\y.ev ρ=some v/\z.ev ρ=some q/\vs= [u,v,q]:=by
 unfold Arg.evs at h
 cases a:x.ev ρ with
 | none=>simp[a]at h
 | some u=>
  cases b:Arg.evs ρ [y,z]with
  | none=>simp[a,b]at h
  | some r=>
   obtain⟨v,q,c,d,rfl⟩:=Ab8 b
   simp[a,b]at h
   exact⟨u,v,q,rfl,c,d,h.symm⟩
theorem Q0 {c lo i:Arg}{xs:List IV}{l h _n:Nat}{vs:List IV}{y:IV}(j:c.ev ρ=some (.list xs))(m:lo.ev ρ=some (.int l))(o:i.ev ρ=some (.int h))
  (r:Arg.evs ρ [c,lo,i]=some vs) (a:Prim.ev .slice vs=some y):y= .list ((xs.take h).drop l)/\l<=h/\h<=xs.length:=by
 obtain⟨u,v,q,b,d,e,rfl⟩:=A6q r
 rw[j]at b;rw[m]at d;rw[o]at e
 injection b with b;injection d with d;injection e with e
 subst b;subst d;subst e
 simp only[Prim.ev]at a
 split at a
 ·rename_i g
  injection a with a
  refine⟨by rw[<-a];simp,by omega,by omega⟩
 ·cases a
theorem Adx {c:Cx}{x:Arg}{t d:TypeId}{v:Value}(h:A6v c.P t d=true)(i:Sf c x d v):Sf c x t v:=by
 unfold A6v at h
 rw[bK]at h
 rcases h with h | h
 ·have:t=d:=by simpa using h
  subst this;exact i
 ·obtain⟨iv,j,m⟩:=i
  cases e:Kp c.P t with
  | none=>rw[e]at h;simp at h
  | some a=>
   cases g:Kp c.P d with
   | none=>rw[e,g]at h;simp at h
   | some b=>
    rw[e,g]at h
    have:a=b:=by simpa using h
    subst this
    obtain⟨n,rfl,rfl⟩:=m.G4 (Cp g)
    exact⟨_,j,.int (Cp e)⟩
theorem G5 {fz:Bool}{t:TypeId}{l:LV}{es es':ES}{x:Arg}{ls:List PLt}{v:Value}(G:Good P N X ρ K S.tm (cur S es.obs) μ a w)(h:Ev S (Da P fz t l) es x es' ls)(hl:LH R ρ ls)
  (hg:holds ρ es.gs=some true) (g:W2 (Bh P X ρ (cur S es.obs) μ w) l v):
  Ph P N X ρ K S μ a w es es'/\Px (Bh P X ρ (cur S es'.obs) μ w) x t v/\(fz=true->Sf (Bh P X ρ (cur S es'.obs) μ w) x t v):=by
 unfold Da at h
 cases l with
 | «at» x' u=>
  simp only[Ab,Af,Ad]at h
  obtain⟨_,_,_,_,⟨d,rfl,rfl⟩,⟨rfl,rfl,rfl⟩,rfl⟩:=h
  have g:=Adx d g
  exact⟨.refl G,Sf.Ab3 g,λ_=>g⟩
 | cl x' u=>
  simp only[Ab,Af,Ad]at h
  obtain⟨_,_,_,_,⟨d,rfl,rfl⟩,⟨rfl,rfl,rfl⟩,rfl⟩:=h
  have:t=u:=by simpa using d
  subst this
  exact⟨.refl G,Sf.Ab3 g.1,λ_=>g.1⟩
 | st x' u=>
  simp only[Ab,Af,Ad]at h
  obtain⟨_,_,_,_,⟨d,rfl,rfl⟩,⟨rfl,rfl,rfl⟩,rfl⟩:=h
  have:t=u:=by simpa using d
  subst this
  exact⟨.refl G,Sf.Ab3 g.1,λ_=>g.1⟩
 | nil u=>
  simp only[Ab,Af,Ad]at h
  obtain⟨_,_,_,_,⟨d,rfl,rfl⟩,⟨rfl,rfl,rfl⟩,rfl⟩:=h
  obtain⟨e,j⟩:=aF.1 d
  have aa:v= .slice none 0 0:=g
  subst aa
  have D:Sf (Bh P X ρ (cur S es.obs) μ w) (.k (.list [])) t (.slice none 0 0):=⟨_,rfl,(Row.nil e none 0).rel (Be j)⟩
  exact⟨.refl G,D.Ab3,λ_=>D⟩
 | ref k u=>
  obtain⟨g,_⟩:=g
  have g:v=μ k:=g
  subst g
  simp only[Ab,Bp]at h
  obtain⟨o,_,_,ls2,⟨C,rfl,rfl⟩,h,rfl⟩:=h
  cases o with
  | box=>simp[Ac]at h
  | iter=>simp[Ac]at h
  | mp=>simp[Ac]at h
  | arr e tt c=>
   simp only[Ab,Af,Hr,Bd,Ad]at h
   obtain⟨_,_,_,_,⟨d,rfl,rfl⟩,h2,rfl⟩:=h
   have j:Cr P t=some e:=by simpa using d
   obtain⟨ivs,A,cap,U,Y,g3,g4,E⟩:=G.Apl C
   rcases h2 with⟨Q,_,_,_,_,⟨rfl,rfl⟩,⟨rfl,rfl,rfl⟩,rfl⟩ | ⟨Q,rfl,rfl,rfl⟩
   ·have F:=G.freeze C
    have ph:Ph P N X ρ K S μ a w es {es with obs:=(k,some (.frz e tt x))::es.obs} :=Ph.upd (n:=es.n) F
    have D:Sf (Bh P X ρ (cur S ((k,some (.frz e tt x))::es.obs)) μ w) x t (μ k):=by
     have:=F.1.obj k (.frz e tt x) (by simp[Bo])
     obtain⟨_,iv,d1,d2⟩:=this
     rw[Bm]
     refine⟨iv,d1,?_⟩
     obtain⟨xs,A,cap,rfl,r,H⟩:=d2.Cl E
     show Rel P w _ t _ _
     have m:μ k= .slice A xs.length cap:=r
     rw[m]
     exact H.rel (Be j)
    exact⟨ph,D.Ab3,λ_=>D⟩
   ·refine⟨.refl G,?_,λI=>absurd I Q⟩
    rw[Y]
    exact Px.A2l U (Be j) g3
  | frz e tt c=>
   simp only[Ab,Af,Ad]at h
   obtain⟨_,_,_,_,⟨d,rfl,rfl⟩,⟨rfl,rfl,rfl⟩,rfl⟩:=h
   have j:Cr P t=some e:=by simpa using d
   obtain⟨E,iv,d1,d2⟩:=G.obj k _ C
   obtain⟨xs,A,cap,rfl,r,H⟩:=d2.Cl E
   have m:μ k= .slice A xs.length cap:=r
   have D:Sf (Bh P X ρ (cur S es.obs) μ w) x t (μ k):=by
    rw[m]
    exact⟨_,d1,H.rel (Be j)⟩
   exact⟨.refl G,D.Ab3,λ_=>D⟩
 | sub k lo hi u=>
  obtain⟨A0,n0,cap0,i,M,z,q0,q1,q2,q3,q4,q5,q6⟩:=g
  subst q6
  simp only[Ab,Bp]at h
  obtain⟨o,_,_,ls2,⟨C,rfl,rfl⟩,h,rfl⟩:=h
  cases o with
  | box=>simp[Ac]at h
  | iter=>simp[Ac]at h
  | mp=>simp[Ac]at h
  | arr e tt c=>
   simp only[Ab,Af,Hr,Bd,Ad,Bi]at h
   obtain⟨_,_,_,_,⟨d,rfl,rfl⟩,⟨_,r,l3,l4,⟨rfl,rfl,rfl⟩,h2,rfl⟩,rfl⟩:=h
   simp only[aC,beq_iff_eq]at d
   obtain⟨j,J⟩:=d
   have L:z=e:=by
    have:=Be J
    have b:P.underlying u=some (.slice z):=q0
    rw[this]at b;injection b with b;injection b with b;exact b.symm
   subst L
   obtain⟨ivs,A,cap,U,Y,g3,g4,E⟩:=G.Apl C
   have q:μ k= .slice A0 n0 cap0:=q1
   rw[Y]at q
   injection q with i1 i2 i3
   subst i1;subst i2;subst i3
   obtain⟨vs,y,p1,p2,Z⟩:=LH.Bv hl.right.left hg
   obtain⟨rfl,p5,p6⟩:=Q0 (_n:=0) U q2 q3 p1 p2
   have hlen:M - i=((ivs.take M).drop i).length :=by rw[aK,aD];omega
   rcases h2 with⟨Q,_,_,_,_,⟨rfl,rfl⟩,⟨rfl,rfl,rfl⟩,rfl⟩ | ⟨Q,rfl,rfl,rfl⟩
   ·have F:=G.freeze C
    have ph:Ph P N X ρ K S μ a w es {es with n:=es.n+1,obs:=(k,some (.frz z tt c))::es.obs} :=Ph.upd F
    have D:Sf (Bh P X ρ (cur S ((k,some (.frz z tt c))::es.obs)) μ w) (.v es.n) t (.slice (if cap=i then A else A.map (·.add (i * Ag P z))) (M - i) (cap - i)):=by
     have:=F.1.obj k (.frz z tt c) (by simp[Bo])
     obtain⟨_,iv,d1,d2⟩:=this
     rw[Bm]
     refine⟨_,Z,?_⟩
     have T:Rel P w _ tt iv (μ k):=d2
     rw[Y]at T
     have B:c.ev ρ=some iv:=d1
     rw[U]at B;injection B with B;subst B
     obtain⟨xs,A2,cap2,e1,r,H⟩:=T.Cl E
     injection e1 with e1;injection r with r e3 e4
     subst e1;subst r;subst e4
     rw[hlen]
     exact(H.part p5 p6).rel (Be j)
    exact⟨ph,D.Ab3,λ_=>D⟩
   ·refine⟨.same G rfl rfl rfl,?_,λI=>absurd I Q⟩
    rw[show(Bh P X ρ (cur S es.obs) μ w).P =P from rfl,hlen]
    exact Px.A2l Z (Be j) (g3.part p5 p6)
  | frz e tt c=>
   simp only[Ab,Af,Bi]at h
   obtain⟨_,_,_,_,⟨d,rfl,rfl⟩,⟨rfl,rfl,rfl⟩,rfl⟩:=h
   simp only[aC,beq_iff_eq]at d
   obtain⟨j,J⟩:=d
   have L:z=e:=by
    have:=Be J
    have b:P.underlying u=some (.slice z):=q0
    rw[this]at b;injection b with b;injection b with b;exact b.symm
   subst L
   obtain⟨E,iv,d1,d2⟩:=G.obj k _ C
   obtain⟨xs,A,cap,rfl,r,H⟩:=d2.Cl E
   have m:μ k= .slice A xs.length cap:=r
   have q:μ k= .slice A0 n0 cap0:=q1
   rw[m]at q
   injection q with i1 i2 i3
   subst i1;subst i2;subst i3
   obtain⟨vs,y,p1,p2,Z⟩:=LH.Bv hl hg
   obtain⟨rfl,p5,p6⟩:=Q0 (_n:=0) d1 q2 q3 p1 p2
   have hlen:M - i=((xs.take M).drop i).length :=by rw[aK,aD];omega
   have D:Sf (Bh P X ρ (cur S es.obs) μ w) (.v es.n) t (.slice (if cap=i then A else A.map (·.add (i * Ag P z))) (M - i) (cap - i)):=by
    rw[hlen]
    exact⟨_,Z,(H.part p5 p6).rel (Be j)⟩
   exact⟨.same G rfl rfl rfl,D.Ab3,λ_=>D⟩
 | ptr p=>simp[Ac]at h
 | fn f ps=>simp[Ac]at h
 | mref k t=>simp[Ac]at h
 | hid k=>simp[Ac]at h
 | junk=>simp[Ac]at h
end
end Go.CT
namespace Go.CT
open EM
theorem Pu {P:Program} : ∀ (d:Nat) (t:TypeId) (ts:List TypeId),Hb P d t=some ts-> ∀u∈ts,Ai P u=false
 | 0,_,_,h=>by simp[Hb]at h
 | d+1,t,ts,h=>by
  unfold Hb at h
  cases g:P.underlying t with
  | none=>simp[g]at h
  | some de=>
   simp only[g]at h
   have c:(∀ (_:Ai P t=false),some [t]=some ts-> ∀u∈ts,Ai P u=false):=by
    intro j h u a
    injection h with h;subst h
    simp at a;subst a;exact j
   cases de with
   | struct fs=>
    simp only[aP]at h
    obtain⟨ls,b,rfl⟩:=h
    have key: ∀ (l:List Field) (ls:List (List TypeId)),l.mapM (λf=>Hb P d f.type)=some ls-> ∀u∈ls.flatten,Ai P u=false:=by
     intro l
     induction l with
     | nil=>intro ls h u a;simp at h;subst h;simp at a
     | cons f l m=>
      intro ls h u a
      simp only[bZ,bB,aM]at h
      cases b:Hb P d f.type with
      | none=>simp[b]at h
      | some x=>
       simp only[b,aX]at h
       cases i:l.mapM (λf=>Hb P d f.type) with
       | none=>simp[i]at h
       | some xs=>
        simp only[i,aX,aB]at h
        subst h
        simp only[List.flatten_cons,bV]at a
        exact a.elim (Pu d _ _ b u) (m _ i u)
    exact key _ _ b
   | array n e=>
    simp only[aP]at h
    obtain⟨l,b,rfl⟩:=h
    intro u a
    simp only[List.mem_flatten,cB]at a
    obtain⟨o,⟨_,rfl⟩,a⟩:=a
    exact Pu d _ _ b u a
   | _=>exact c (by simp[Ai,g]) h
theorem Eb {P:Program}{t:TypeId}{ts:List TypeId}(h:leaves P t=some ts): ∀ (i:Nat) (u:TypeId),ts[i]?=some u->Ai P u=false:=
 λ_ _ a=>Pu _ _ _ h _ (bL a)
def Ho (P:Program)(w:World)(O:Nat->Prop):List TypeId->List IV->List Value->Prop
 | [],[],[]=>True
 | t::ts,x::xs,v::vs=>Rel P w O t x v/\Ho P w O ts xs vs
 | _,_,_=>False
section
variable {P:Program}{w:World}{O O':Nat->Prop}
theorem Ho.len: ∀ {ts:List TypeId} {xs:List IV} {vs:List Value},Ho P w O ts xs vs->xs.length=ts.length/\vs.length=ts.length
 | [],[],[],_=>⟨rfl,rfl⟩
 | _::_,_::_,_::_,h=>by have:=Ho.len h.2;simp[this.1,this.2]
 | [],[],_::_,h=>h.elim
 | [],_::_,_,h=>h.elim
 | _::_,[],_,h=>h.elim
 | _::_,_::_,[],h=>h.elim
theorem Ho.get: ∀ {ts:List TypeId} {xs:List IV} {vs:List Value},Ho P w O ts xs vs-> ∀ (i:Nat) (u:TypeId) (x:IV) (c:Value),ts[i]?=some u->xs[i]?=some x->vs[i]?=some c->Rel P w O u x c
 | [],[],[],_=>by simp
 | t::_,y::_,z::_,h=>by
  intro i u x c a b d
  cases i with
  | zero=>simp at a b d;subst a;subst b;subst d;exact h.1
  | succ i=>simp at a b d;exact Ho.get h.2 i u x c a b d
 | [],[],_::_,h=>h.elim
 | [],_::_,_,h=>h.elim
 | _::_,[],_,h=>h.elim
 | _::_,_::_,[],h=>h.elim
theorem Ho.Kq: ∀ {ts:List TypeId} {xs:List IV} {vs:List Value},xs.length=ts.length->vs.length=ts.length->(∀ (i:Nat) (u:TypeId) (x:IV) (c:Value),ts[i]?=some u->xs[i]?=some x->vs[i]?=some c->Rel P w O u x c)->Ho P w O ts xs vs
 | [],[],[],_,_,_=>trivial
 | _::_,_::_,_::_,e,g,h=>⟨h 0 _ _ _ rfl rfl rfl,Ho.Kq (by simpa using e) (by simpa using g) λi u x c a b d=>h (i+1) u x c (by simpa using a) (by simpa using b) (by simpa using d)⟩
 | [],_::_,_,e,_,_=>by simp at e
 | [],[],_::_,_,g,_=>by simp at g
 | _::_,[],_,e,_,_=>by simp at e
 | _::_,_::_,[],_,g,_=>by simp at g
theorem Ho.weaken: ∀ {ts:List TypeId} {xs:List IV} {vs:List Value},Ho P w O ts xs vs->(∀b,b<w.heap.size->O' b->O b)->Ho P w O' ts xs vs
 | [],[],[],_,_=>trivial
 | _::_,_::_,_::_,h,a=>⟨h.1.weaken a,Ho.weaken h.2 a⟩
 | [],[],_::_,h,_=>h.elim
 | [],_::_,_,h,_=>h.elim
 | _::_,[],_,h,_=>h.elim
 | _::_,_::_,[],h,_=>h.elim
theorem Ho.agg {t:TypeId}{ts:List TypeId}{xs:List IV}{cs:Array Value}(h:Ho P w O ts xs cs.toList)(b:Ai P t=true)(a:leaves P t=some ts):Rel P w O t (.agg xs) (.agg cs):=
 .agg b a h.len.1 (by simpa using h.len.2) (Eb a) λi u x c d e g=>h.get i u x c d e (by simpa using g)
theorem Rel.Abb {t:TypeId}{x:IV}{v:Value}(h:Rel P w O t x v)(e:Ai P t=true): ∃ts xs cs,leaves P t=some ts/\x= .agg xs/\v= .agg cs/\Ho P w O ts xs cs.toList:=by
 obtain⟨ts,xs,cs,g,rfl,rfl,j,m,q,o⟩:=h.It e
 exact⟨ts,xs,cs,g,rfl,rfl,Ho.Kq j (by simpa using m) λi u x c a b d=>o i u x c a b (by simpa using d)⟩
end
section
variable {P:Program}{N:Nat}{X:Nat->Prop}{R:Job->List IV->Option (List IV)}{ρ:List IV}{K:Nat->Prop}{S:View}{μ:Nat->Value}{a:Act}{w:World}
theorem Ey {x:Arg}{xs:List Arg}{y:IV}{ys:List IV}(a:x.ev ρ=some y)(b:Arg.evs ρ xs=some ys):Arg.evs ρ (x::xs)=some (y::ys):=by
 simp[Arg.evs,a,b]
theorem Q5 {fz:Bool} : ∀ {ts:List TypeId} {lvs:List LV} {es es':ES} {as:List Arg} {ls:List PLt} {vs:List Value} (_G:Good P N X ρ K S.tm (cur S es.obs) μ a w) (_h:Ev S (Du P fz ts lvs) es as es' ls) (_hl:LH R ρ ls)
  (_hg:holds ρ es.gs=some true) (_hk: ∀k∈lvs.flatMap A5,K k) (_hv:Dt (Bh P X ρ (cur S es.obs) μ w) lvs vs),
  Ph P N X ρ K S μ a w es es'/\ ∃xs,Arg.evs ρ as=some xs/\Ho P w (λ_=>False) ts xs vs/\(fz=true->Ho P w (Bh P X ρ (cur S es'.obs) μ w).O ts xs vs)
 | [],[],es,es',as,ls,vs,G,h,g,i,m,c=>by
  unfold Du at h
  rw[Ad]at h
  obtain⟨rfl,rfl,rfl⟩:=h
  cases vs with
  | nil=>exact⟨.refl G,[],rfl,trivial,λ_=>trivial⟩
  | cons=>exact c.elim
 | t::ts,l::lvs,es,es',as,ls,vs,G,h,g,i,m,c=>by
  unfold Du at h
  simp only[Ab,Ad]at h
  obtain⟨x,e1,L,_,r,⟨xs,M,Q,_,u,⟨rfl,rfl,rfl⟩,rfl⟩,rfl⟩:=h
  cases vs with
  | nil=>exact c.elim
  | cons v vs=>
   obtain⟨e,z,A⟩:=G5 G r g.left i c.1.2
   have d: ∀k∈lvs.flatMap A5,K k:=λk B=>m k (by rw[aN];exact bE _ B)
   obtain⟨o,ys,C,E,F⟩:=Q5 e.Cj u g.right.left (by rw[e.gs];exact i) d (e.later.Acu d c.2)
   obtain⟨y,r1,r2,_⟩:=z
   refine⟨e.trans o,y::ys,Ey r1 C,⟨r2,E⟩,λq=>⟨?_,F q⟩⟩
   obtain⟨H,I,J⟩:=A q
   have j:x.ev ρ=some y:=r1
   have b:x.ev ρ=some H:=I
   rw[j]at b;injection b with b;subst b
   exact o.later.rel J
 | [],_::_,_,_,_,_,_,_,h,_,_,_,_=>by simp[Du,Ac]at h
 | _::_,[],_,_,_,_,_,_,h,_,_,_,_=>by simp[Du,Ac]at h
theorem D6 {fz:Bool}{t:TypeId}{vv:VV}{es es':ES}{x:Arg}{ls:List PLt}{v:Value}(G:Good P N X ρ K S.tm (cur S es.obs) μ a w)(h:Ev S (Im P fz t vv) es x es' ls)(b:LH R ρ ls)
  (c:holds ρ es.gs=some true) (u: ∀k∈Ax vv,K k) (m:K0 (Bh P X ρ (cur S es.obs) μ w) vv v):
  Ph P N X ρ K S μ a w es es'/\Px (Bh P X ρ (cur S es'.obs) μ w) x t v/\(fz=true->Sf (Bh P X ρ (cur S es'.obs) μ w) x t v):=by
 unfold Im at h
 cases vv with
 | leaf l=>exact G5 G h b c m
 | agg H cs=>
  simp only[Ab,Af,Ao,Bi]at h
  obtain⟨_,_,_,_,⟨o,rfl,rfl⟩,⟨ts,_,_,_,⟨q,rfl,rfl⟩,⟨as,e1,I,J,z,⟨rfl,rfl,rfl⟩,rfl⟩,rfl⟩,rfl⟩:=h
  simp only[aC,beq_iff_eq]at o
  obtain⟨rfl,d⟩:=o
  obtain⟨us,rfl,A⟩:=m
  obtain⟨g,xs,B,C,E⟩:=Q5 G z b.right.right.left c u A
  obtain⟨vs,y,r1,r2,r⟩:=LH.Bv b.right.right.right (by rw[g.gs];exact c)
  rw[B]at r1;injection r1 with r1;subst r1
  simp only[Prim.ev,aB]at r2;subst r2
  have i: ∀e,P.underlying t≠some (.slice e):=by
   intro e j;simp[Ai,j]at d
  refine⟨g.trans (.same g.Cj rfl rfl rfl),⟨_,r,C.agg d q,λe j=>absurd j (i e)⟩,λF=>⟨_,r,(E F).agg d q⟩⟩
def Aty (c:Cx)(KS:List Nat)(b:Nat):Prop:=c.O b/\ ∀k∈KS,blk (c.μ k)≠some b
theorem Acn {t:TypeId}{l:LV}{es es':ES}{x:Arg}{ls:List PLt}{v:Value}{KS:List Nat}(G:Good P N X ρ K S.tm (cur S es.obs) μ a w)(h:Ev S (Da P false t l) es x es' ls)(hl:LH R ρ ls)
  (hg:holds ρ es.gs=some true) (j:W2 (Bh P X ρ (cur S es.obs) μ w) l v) (E: ∀k∈A5 l,∀e t c,cur S es.obs k=some (.arr e t c)->k∈KS):
  ∃iv,x.ev ρ=some iv/\Rel P w (Aty (Bh P X ρ (cur S es.obs) μ w) KS) t iv v:=by
 have weak: ∀ {iv},Rel P w (Bh P X ρ (cur S es.obs) μ w).O t iv v->Rel P w (Aty (Bh P X ρ (cur S es.obs) μ w) KS) t iv v:=λh=>h.weaken λ_ _ F=>F.1
 unfold Da at h
 cases l with
 | «at» x' m=>
  simp only[Ab,Af,Ad]at h
  obtain⟨_,_,_,_,⟨g,rfl,rfl⟩,⟨rfl,rfl,rfl⟩,rfl⟩:=h
  obtain⟨iv,d1,d2⟩:=Adx g j
  exact⟨iv,d1,weak d2⟩
 | cl x' m=>
  simp only[Ab,Af,Ad]at h
  obtain⟨_,_,_,_,⟨g,rfl,rfl⟩,⟨rfl,rfl,rfl⟩,rfl⟩:=h
  have:t=m:=by simpa using g
  subst this
  obtain⟨iv,d1,d2⟩:=j.1
  exact⟨iv,d1,weak d2⟩
 | st x' m=>
  simp only[Ab,Af,Ad]at h
  obtain⟨_,_,_,_,⟨g,rfl,rfl⟩,⟨rfl,rfl,rfl⟩,rfl⟩:=h
  have:t=m:=by simpa using g
  subst this
  obtain⟨iv,d1,d2⟩:=j.1
  exact⟨iv,d1,weak d2⟩
 | nil m=>
  simp only[Ab,Af,Ad]at h
  obtain⟨_,_,_,_,⟨g,rfl,rfl⟩,⟨rfl,rfl,rfl⟩,rfl⟩:=h
  obtain⟨e,q⟩:=aF.1 g
  have T:v= .slice none 0 0:=j
  subst T
  exact⟨_,rfl,(Row.nil e none 0).rel (Be q)⟩
 | ref k m=>
  obtain⟨j,_⟩:=j
  have j:v=μ k:=j
  subst j
  simp only[Ab,Bp]at h
  obtain⟨o,_,_,ls2,⟨r,rfl,rfl⟩,h,rfl⟩:=h
  cases o with
  | box=>simp[Ac]at h
  | iter=>simp[Ac]at h
  | mp=>simp[Ac]at h
  | arr e tt c=>
   simp only[Ab,Af,Hr,Bd,Ad,aJ,false_and,false_or,not_false_eq_true,true_and]at h
   obtain⟨_,_,_,_,⟨g,rfl,rfl⟩,⟨rfl,rfl,rfl⟩,rfl⟩:=h
   have q:Cr P t=some e:=by simpa using g
   obtain⟨ivs,A,cap,U,H,Y,g4,I⟩:=G.Apl r
   rw[H]
   refine⟨_,U,(Y.row (λb _ F=>F.1) λad u Z=>?_).rel (Be q)⟩
   exact Z.2 k (E k (by simp[A5]) _ _ _ r) (by show blk (μ k)=_;rw[H,u];rfl)
  | frz e tt c=>
   simp only[Ab,Af,Ad]at h
   obtain⟨_,_,_,_,⟨g,rfl,rfl⟩,⟨rfl,rfl,rfl⟩,rfl⟩:=h
   have q:Cr P t=some e:=by simpa using g
   obtain⟨I,iv,d1,d2⟩:=G.obj k _ r
   obtain⟨xs,A,cap,rfl,J,hr⟩:=d2.Cl I
   have z:μ k= .slice A xs.length cap:=J
   exact⟨_,d1,weak (by rw[z];exact hr.rel (Be q))⟩
 | sub k lo hi m=>
  obtain⟨A0,n0,cap0,L,M,Q,q0,q1,q2,q3,q4,q5,q6⟩:=j
  subst q6
  simp only[Ab,Bp]at h
  obtain⟨o,_,_,ls2,⟨r,rfl,rfl⟩,h,rfl⟩:=h
  cases o with
  | box=>simp[Ac]at h
  | iter=>simp[Ac]at h
  | mp=>simp[Ac]at h
  | arr e tt c=>
   simp only[Ab,Af,Hr,Bd,Ad,Bi,aJ,false_and,false_or,not_false_eq_true,true_and]at h
   obtain⟨_,_,_,_,⟨g,rfl,rfl⟩,⟨_,J,l3,l4,⟨rfl,rfl,rfl⟩,⟨rfl,rfl,rfl⟩,rfl⟩,rfl⟩:=h
   simp only[aC,beq_iff_eq]at g
   obtain⟨q,B⟩:=g
   have C:Q=e:=by
    have:=Be B
    have d:P.underlying m=some (.slice Q):=q0
    rw[this]at d;injection d with d;injection d with d;exact d.symm
   subst C
   obtain⟨ivs,A,cap,U,H,Y,g4,I⟩:=G.Apl r
   have i:μ k= .slice A0 n0 cap0:=q1
   rw[H]at i
   injection i with i1 i2 i3
   subst i1;subst i2;subst i3
   obtain⟨vs,y,p1,p2,p3⟩:=LH.Bv hl.right.left hg
   obtain⟨rfl,p5,p6⟩:=Q0 (_n:=0) U q2 q3 p1 p2
   have hlen:M - L=((ivs.take M).drop L).length :=by rw[aK,aD];omega
   rw[show(Bh P X ρ (cur S es.obs) μ w).P =P from rfl,hlen]
   refine⟨_,p3,((Y.part p5 p6).row (λb _ F=>F.1) λad u Z=>?_).rel (Be q)⟩
   refine Z.2 k (E k (by simp[A5]) _ _ _ r) ?_
   show blk (μ k)=_
   rw[H]
   split at u
   ·rw[u];rfl
   ·cases A with
    | none=>cases u
    | some ad0=>
     simp only[aL,aB]at u
     rw[<-u,Dm];rfl
  | frz e tt c=>
   simp only[Ab,Af,Bi]at h
   obtain⟨_,_,_,_,⟨g,rfl,rfl⟩,⟨rfl,rfl,rfl⟩,rfl⟩:=h
   simp only[aC,beq_iff_eq]at g
   obtain⟨q,B⟩:=g
   have C:Q=e:=by
    have:=Be B
    have d:P.underlying m=some (.slice Q):=q0
    rw[this]at d;injection d with d;injection d with d;exact d.symm
   subst C
   obtain⟨I,iv,d1,d2⟩:=G.obj k _ r
   obtain⟨xs,A,cap,rfl,J,hr⟩:=d2.Cl I
   have z:μ k= .slice A xs.length cap:=J
   have i:μ k= .slice A0 n0 cap0:=q1
   rw[z]at i
   injection i with i1 i2 i3
   subst i1;subst i2;subst i3
   obtain⟨vs,y,p1,p2,p3⟩:=LH.Bv hl hg
   obtain⟨rfl,p5,p6⟩:=Q0 (_n:=0) d1 q2 q3 p1 p2
   have hlen:M - L=((xs.take M).drop L).length :=by rw[aK,aD];omega
   refine⟨_,p3,weak ?_⟩
   rw[show(Bh P X ρ (cur S es.obs) μ w).P =P from rfl,hlen]
   exact(hr.part p5 p6).rel (Be q)
 | ptr p=>simp[Ac]at h
 | fn f ps=>simp[Ac]at h
 | mref k t=>simp[Ac]at h
 | hid k=>simp[Ac]at h
 | junk=>simp[Ac]at h
theorem W8 {t:TypeId}{l:LV}{es es':ES}{x:Arg}{ls:List PLt}(h:Ev S (Da P false t l) es x es' ls)(c:A5 l= []):Ev S (Da P true t l) es x es' ls/\es'=es:=by
 unfold Da at h ⊢
 cases l with
 | ref=>simp[A5]at c
 | sub=>simp[A5]at c
 | ptr p=>simp[Ac]at h
 | fn f e=>simp[Ac]at h
 | mref k t=>simp[Ac]at h
 | hid k=>simp[Ac]at h
 | junk=>simp[Ac]at h
 | «at» d a=>exact⟨h,by simp only[Ab,Af,Ad]at h;obtain⟨_,_,_,_,⟨b,rfl,rfl⟩,⟨rfl,rfl,rfl⟩,rfl⟩:=h;rfl⟩
 | cl d a=>exact⟨h,by simp only[Ab,Af,Ad]at h;obtain⟨_,_,_,_,⟨b,rfl,rfl⟩,⟨rfl,rfl,rfl⟩,rfl⟩:=h;rfl⟩
 | st d a=>exact⟨h,by simp only[Ab,Af,Ad]at h;obtain⟨_,_,_,_,⟨b,rfl,rfl⟩,⟨rfl,rfl,rfl⟩,rfl⟩:=h;rfl⟩
 | nil a=>exact⟨h,by simp only[Ab,Af,Ad]at h;obtain⟨_,_,_,_,⟨b,rfl,rfl⟩,⟨rfl,rfl,rfl⟩,rfl⟩:=h;rfl⟩
theorem Mf: ∀ {ts:List TypeId} {lvs:List LV} {es es':ES} {as:List Arg} {ls:List PLt},Ev S (Du P false ts lvs) es as es' ls->lvs.flatMap A5= []->Ev S (Du P true ts lvs) es as es' ls/\es'=es
 | [],[],es,es',as,ls,h,a=>by
  unfold Du at h ⊢
  exact⟨h,(Ad.1 h).2.1.symm⟩
 | t::ts,l::lvs,es,es',as,ls,h,a=>by
  rw[aN,List.append_eq_nil_iff]at a
  unfold Du at h ⊢
  rw[Ab]at h ⊢
  obtain⟨x,e1,d,q,e,b,rfl⟩:=h
  rw[Ab]at b
  obtain⟨y,r,g,i,j,c,rfl⟩:=b
  obtain⟨m,rfl⟩:=W8 e a.1
  obtain⟨o,rfl⟩:=Mf j a.2
  refine⟨⟨x,_,d,_,m,Ab.2 ⟨y,_,g,i,o,c,rfl⟩,rfl⟩,(Ad.1 c).2.1.symm⟩
 | [],_::_,_,_,_,_,h,_=>by simp[Du,Ac]at h
 | _::_,[],_,_,_,_,h,_=>by simp[Du,Ac]at h
theorem Anq {t:TypeId}{vv:VV}{es es':ES}{x:Arg}{ls:List PLt}{v:Value}{KS:List Nat}(G:Good P N X ρ K S.tm (cur S es.obs) μ a w)(h:Ev S (Im P false t vv) es x es' ls)(i:LH R ρ ls)
  (j:holds ρ es.gs=some true) (B: ∀k∈Ax vv,K k) (m:K0 (Bh P X ρ (cur S es.obs) μ w) vv v) (d: ∀k∈Ax vv,∀e t c,cur S es.obs k=some (.arr e t c)->k∈KS)
  (hd:(∃l,vv= .leaf l)\/Ax vv= []):
  ∃iv,x.ev ρ=some iv/\Rel P w (Aty (Bh P X ρ (cur S es.obs) μ w) KS) t iv v:=by
 cases vv with
 | leaf l=>exact Acn G h i j m d
 | agg o cs=>
  have g:Ax (.agg o cs)= []:=hd.resolve_left (by simp)
  have h':Ev S (Im P true t (.agg o cs)) es x es' ls/\es'.obs=es.obs:=by
   unfold Im at h ⊢
   rw[Ab]at h ⊢
   obtain⟨u,e1,C,l2,q,r,rfl⟩:=h
   rw[Ab]at r
   obtain⟨E,F,H,l4,y,z,rfl⟩:=r
   rw[Ab]at z
   obtain⟨I,J,L,M,Q,A,rfl⟩:=z
   obtain⟨T,U⟩:=Mf Q g
   refine⟨⟨u,e1,C,_,q,Ab.2 ⟨E,F,H,_,y,Ab.2 ⟨I,J,L,M,T,A,rfl⟩,rfl⟩,rfl⟩,?_⟩
   obtain⟨_,rfl,_⟩:=Af.1 q
   obtain⟨_,rfl,_⟩:=Ao.1 y
   obtain⟨_,rfl,_⟩:=Bi.1 A
   rw[U]
  obtain⟨h',Y⟩:=h'
  obtain⟨p,_,Z⟩:=D6 G h' i j B m
  obtain⟨iv,d1,d2⟩:=Z rfl
  rw[Y]at d2
  exact⟨iv,d1,d2.weaken λb _ hb=>hb.1⟩
theorem Arg.Lh {x y:Arg}(h:x.same y=true):x.ev ρ=y.ev ρ:=by
 cases x with
 | v n=>cases y with
  | v m=>simp[Arg.same]at h;subst h;rfl
  | k c=>simp[Arg.same]at h
 | k c=>cases y with
  | v m=>cases c<;>simp[Arg.same]at h
  | k d=>cases c<;>cases d<;>simp_all[Arg.same,Arg.ev]
theorem Ap7 {gs:List (Arg × Bool)}(h:holds ρ gs=some true): ∀g∈gs,g.1.ev ρ=some (.bool g.2):=by
 induction gs with
 | nil=>simp
 | cons g gs a=>
  obtain⟨x,want⟩:=g
  unfold holds at h
  cases c:x.ev ρ with
  | none=>simp[c]at h
  | some y=>
   cases y<;>simp_all
   rename_i b
   split at h
   ·rename_i d;subst d;exact⟨rfl,a h⟩
   ·simp at h
theorem holds_of {gs:List (Arg × Bool)}(h: ∀g∈gs,g.1.ev ρ=some (.bool g.2)):holds ρ gs=some true:=by
 induction gs with
 | nil=>rfl
 | cons g gs a=>
  obtain⟨x,want⟩:=g
  have b:=h _ aU
  unfold holds
  simp only[b,Zt]
  exact a λg c=>h g (aV _ c)
theorem Kg {gs b:List (Arg × Bool)}(h:Ti gs b=true)(c:holds ρ b=some true):holds ρ gs=some true:=by
 refine holds_of λg d=>?_
 have:=cE.1 h g d
 obtain⟨e,i,a⟩:=List.any_eq_true.1 this
 simp only[aC,beq_iff_eq]at a
 rw[Arg.Lh a.1,a.2]
 exact Ap7 c e i
theorem Ap2.use {c:Cx}{s:SV}{v:Value}(h:Ap2 c s v)(d:holds c.ρ s.gs=some true):Agd c s.x v:=by
 obtain⟨b,a,e,g⟩:=h
 rw[d]at a;injection a with a;exact e a.symm
theorem Ya {c:Cx}{t:TypeId}{v:Value}{l:LV}(h:Ly c.P t v=some l):Bb0 c l v/\A5 l= []:=by
 unfold Ly at h
 split at h
 ·split at h
  ·rename_i a;injection h with h;subst h;exact⟨⟨rfl,_,rfl,.int (Cp a)⟩,rfl⟩
  ·cases h
 ·split at h
  ·rename_i a;injection h with h;subst h;exact⟨⟨rfl,_,rfl,.bool (Ce a)⟩,rfl⟩
  ·cases h
 ·split at h
  ·rename_i a;injection h with h;subst h;exact⟨⟨rfl,_,rfl,.str (D4 a)⟩,rfl⟩
  ·cases h
 ·split at h
  ·injection h with h;subst h;exact⟨⟨rfl,rfl⟩,rfl⟩
  ·cases h
 ·injection h with h;subst h;exact⟨⟨rfl,trivial⟩,rfl⟩
 ·injection h with h;subst h;exact⟨⟨rfl,trivial⟩,rfl⟩
 ·injection h with h;subst h;exact⟨⟨rfl,trivial⟩,rfl⟩
 ·injection h with h;subst h;exact⟨⟨rfl,trivial⟩,rfl⟩
 ·cases h
theorem V9 {c:Cx} : ∀ {ts:List TypeId} {vs:List Value} {ls:List LV},D3 c.P ts vs=some ls->Dt c ls vs/\ls.flatMap A5= []/\ls.length=ts.length
 | [],[],ls,h=>by simp[D3]at h;subst h;exact⟨trivial,rfl,rfl⟩
 | t::ts,v::vs,ls,h=>by
  simp only[D3,bB,aM]at h
  cases a:Ly c.P t v with
  | none=>simp[a]at h
  | some l=>
   cases b:D3 c.P ts vs with
   | none=>simp[a,b]at h
   | some ls'=>
    simp[a,b]at h;subst h
    have:=Ya a
    have d:=V9 b
    exact⟨⟨this.1,d.1⟩,by rw[aN,this.2,d.2.1];rfl,by simp[d.2.2]⟩
 | [],_::_,_,h=>by simp[D3]at h
 | _::_,[],_,h=>by simp[D3]at h
theorem N3 {c:Cx}{t:TypeId}{v:Value}{vv:VV}(h:M6 c.P t v=some vv):K0 c vv v/\Ax vv= []/\(Ai c.P t=false->v.oneCell'=true)/\(∀u∈v.cells,u.oneCell'=true)/\
  (Ai c.P t=true-> ∃cs,v= .agg cs):=by
 unfold M6 at h
 split at h
 ·rename_i cs
  split at h
  ·rename_i d
   simp only[bB,aM]at h
   cases b:leaves c.P t with
   | none=>simp[b]at h
   | some ts=>
    cases e:D3 c.P ts cs.toList with
    | none=>simp[b,e]at h
    | some ls=>
     simp[b,e]at h;subst h
     have:=V9 e
     refine⟨⟨cs,rfl,this.1⟩,this.2.1,λh=>by simp[d]at h,?_,λ_=>⟨cs,rfl⟩⟩
     intro u a
     have g:u∈cs.toList:=by simpa [Value.cells]using a
     have key: ∀ (ls:List LV) (vs:List Value),Dt c ls vs-> ∀u∈vs,u.oneCell'=true:=by
      intro ls
      induction ls with
      | nil=>intro vs h u a;cases vs with | nil=>simp at a | cons=>exact h.elim
      | cons l ls j=>
       intro vs h u a
       cases vs with
       | nil=>exact h.elim
       | cons v vs=>
        rcases cU.1 a with rfl | a
        ·exact h.1.1
        ·exact j vs h.2 u a
     exact key _ _ this.1 u g
  ·cases h
 ·split at h
  ·cases h
  ·rename_i m d
   simp only[aP]at h
   obtain⟨l,h,rfl⟩:=h
   have:=Ya h
   have i:v.oneCell'=true:=this.1.1
   refine⟨this.1.2,this.2,λ_=>i,?_,λh=>absurd h d⟩
   intro u a
   have:v.cells= #[v]:=by cases v<;>simp_all[Value.cells]
   rw[this]at a;simp at a;subst a;exact i
theorem Awf {t:TypeId}{x:Operand}{es es':ES}{sx:SX}{ls:List PLt}(G:Good P N X ρ K S.tm (cur S es.obs) μ a w)(h:Ev S (rd P x t) es sx es' ls)(e:holds ρ es.gs=some true):
  es=es'/\ls= []/\Agd (Bh P X ρ (cur S es.obs) μ w) sx (a.eval x)/\ ∀k∈Ca sx,K k:=by
 unfold rd at h
 cases x with
 | tmp s=>
  simp only[Ab,K8,Ii,Af,Ad]at h
  obtain⟨v,_,_,_,⟨rfl,rfl,rfl⟩,⟨gs,_,_,_,⟨rfl,rfl,rfl⟩,⟨_,_,_,_,⟨d,rfl,rfl⟩,⟨rfl,rfl,rfl⟩,rfl⟩,rfl⟩,rfl⟩:=h
  exact⟨rfl,rfl,(G.slot s).use (Kg d e),G.kt s⟩
 | const c=>
  simp only[Ab,Ao,Ad]at h
  obtain⟨v,_,_,_,⟨d,rfl,rfl⟩,⟨rfl,rfl,rfl⟩,rfl⟩:=h
  have:=N3 (c:=Bh P X ρ (cur S es.obs) μ w) d
  exact⟨rfl,rfl,this.1,λk b=>by rw[show Ca (.one v)=Ax v from rfl,this.2.1]at b;simp at b⟩
 | func f=>
  rw[Ad]at h
  obtain⟨rfl,rfl,rfl⟩:=h
  exact⟨rfl,rfl,⟨#[],rfl,trivial⟩,λk b=>by simp[Ca,Ax,A5]at b⟩
 | global g=>simp[Ac]at h
theorem E1 {t:TypeId}{x:Operand}{es es':ES}{vv:VV}{ls:List PLt}(G:Good P N X ρ K S.tm (cur S es.obs) μ a w)(h:Ev S (rd1 P x t) es vv es' ls)(c:holds ρ es.gs=some true):
  es=es'/\ls= []/\K0 (Bh P X ρ (cur S es.obs) μ w) vv (a.eval x)/\ ∀k∈Ax vv,K k:=by
 unfold rd1 at h
 rw[Ab]at h
 obtain⟨sx,e1,j,m,d,b,rfl⟩:=h
 obtain⟨rfl,rfl,e,g⟩:=Awf G d c
 cases sx with
 | one v=>
  rw[Ad]at b
  obtain⟨rfl,rfl,rfl⟩:=b
  exact⟨rfl,rfl,e,g⟩
 | tup vs=>simp[Ac]at b
 | nx ok i r=>simp[Ac]at b
theorem E9 {t:TypeId}{x:Operand}{es es':ES}{y:Arg}{ls:List PLt}(G:Good P N X ρ K S.tm (cur S es.obs) μ a w)(h:Ev S (H0 P x t) es y es' ls)(c:LH R ρ ls)(b:holds ρ es.gs=some true):
  Ph P N X ρ K S μ a w es es'/\Px (Bh P X ρ (cur S es'.obs) μ w) y t (a.eval x):=by
 unfold H0 at h
 rw[Ab]at h
 obtain⟨vv,e1,o,q,d,e,rfl⟩:=h
 obtain⟨rfl,rfl,g,i⟩:=E1 G d b
 obtain⟨j,m,_⟩:=D6 G e c.right b i g
 exact⟨j,m⟩
theorem Qy {x:Operand}{es es':ES}{y:Arg}{ls:List PLt}(G:Good P N X ρ K S.tm (cur S es.obs) μ a w)(h:Ev S (Adl P x) es y es' ls)(i:holds ρ es.gs=some true):
  es=es'/\ls= []/\ ∃n k,y.ev ρ=some (.int n)/\a.eval x= .int k n:=by
 unfold Adl at h
 cases x with
 | tmp s=>
  simp only[Ab,K8,Ii,Af]at h
  obtain⟨v,_,_,_,⟨rfl,rfl,rfl⟩,⟨gs,_,_,_,⟨rfl,rfl,rfl⟩,⟨_,_,_,_,⟨j,rfl,rfl⟩,d,rfl⟩,rfl⟩,rfl⟩:=h
  have e:=(G.slot s).use (Kg j i)
  split at d
  ·rename_i b t m
   rw[m]at e
   simp only[Ab,Af,Ad]at d
   obtain⟨_,_,_,_,⟨o,rfl,rfl⟩,⟨rfl,rfl,rfl⟩,rfl⟩:=d
   obtain⟨k,q⟩:=aF.1 o
   obtain⟨iv,d1,d2⟩:=e
   obtain⟨n,rfl,r⟩:=d2.G4 (Cp q)
   exact⟨rfl,rfl,n,k,d1,r⟩
  ·simp[Ac]at d
 | const c=>
  cases c<;>simp[Ac,Ad]at h
  obtain⟨rfl,rfl,rfl⟩:=h
  exact⟨rfl,rfl,_,_,rfl,rfl⟩
 | func f=>simp[Ac]at h
 | global g=>simp[Ac]at h
end
end Go.CT
namespace Go.CT
open EM
structure Gr (W:Nat->Prop)(w w':World):Prop where
 os:w'.os=w.os
 tape:w'.tape=w.tape
 output:w'.output=w.output
 size:w.heap.size<=w'.heap.size
 stays:Kj W w w'
theorem Gr.refl (W:Nat->Prop)(w:World):Gr W w w:=⟨rfl,rfl,rfl,aY _,Kj.refl _ _⟩
def As (K:Nat->Prop)(m a:Nat)(k:Nat):Prop:=K k\/(m<=k/\k<a)
structure Out (P:Program)(N:Nat)(X:Nat->Prop)(ρ:List IV)(K:Nat->Prop)(S:View)(μ:Nat->Value)(a:Act)(w:World)(es es':ES)(sx:SX)(μ':Nat->Value)(w':World)(v:Value):Prop where
 Cj:Good P N X ρ (As K es.m es'.m) S.tm (cur S es'.obs) μ' a w'
 rel:Agd (Bh P X ρ (cur S es'.obs) μ' w') sx v
 keys: ∀k∈Ca sx,As K es.m es'.m k
 step:Gr (Wr (cur S es.obs) μ) w w'
 own: ∀b,Wr (cur S es'.obs) μ' b->Wr (cur S es.obs) μ b\/w.heap.size<=b
 keep: ∀k,K k->μ' k=μ k
theorem Good.M5 {P:Program}{N:Nat}{X:Nat->Prop}{ρ:List IV}{K K':Nat->Prop}{tm:Nat->SV}{ob:Nat->Option Ob}{μ:Nat->Value}{a:Act}{w:World}
  (G:Good P N X ρ K tm ob μ a w) (h: ∀k,K k->K' k):Good P N X ρ K' tm ob μ a w:=
 ⟨G.size,G.defers,G.slot,G.obj,G.sep,G.xsep,G.xlt,λs k b=>h k (G.kt s k b),λk o c=>⟨h k (G.ko k o c).1,λd b=>h d ((G.ko k o c).2 d b)⟩⟩
theorem Cv {P:Program}{o:Oper}{a:Act}{w w':World}{v:Value}{next:Act->World->Prop}{Q:Exit->Act->World->Prop}(h:(execOp a.eval o).run P w= .ok (.value v) w')(b:next (a.put o.dst v) w'):
  o.wp P a w next Q:=by
 unfold Oper.wp
 rw[h];exact b
section
variable {P:Program}{N:Nat}{X:Nat->Prop}{R:Job->List IV->Option (List IV)}{ρ:List IV}{K:Nat->Prop}{S:View}{μ:Nat->Value}{a:Act}{w:World}{es es':ES}{ls:List PLt}{sx:SX}
theorem Ph.out {v:Value}(p:Ph P N X ρ K S μ a w es es')(b:Agd (Bh P X ρ (cur S es'.obs) μ w) sx v)(c: ∀k∈Ca sx,K k):Out P N X ρ K S μ a w es es' sx μ w v:=
 ⟨p.Cj.M5 λ_ h=> .inl h,b,λk h=> .inl (c k h),.refl _ _,λ_b d=> .inl (p.Dv.wr d),λ_ _=>rfl⟩
theorem Mb (x:Arg)(t:TypeId): ∀k∈Ca (dat x t),K k:=λk h=>by simp[dat,Ca,Ax,A5]at h
theorem Px.int {c:Cx}{x:Arg}{t:TypeId}{v:Value}{k:IntKind}(h:Px c x t v)(a:c.P.underlying t=some (.int k)): ∃n,x.ev c.ρ=some (.int n)/\v= .int k n:=by
 obtain⟨iv,b,d,_⟩:=h
 obtain⟨n,rfl,e⟩:=d.G4 a
 exact⟨n,b,e⟩
theorem Px.bool {c:Cx}{x:Arg}{t:TypeId}{v:Value}(h:Px c x t v)(a:c.P.underlying t=some .bool): ∃n,x.ev c.ρ=some (.bool n)/\v= .bool n:=by
 obtain⟨iv,b,d,_⟩:=h
 obtain⟨n,rfl,e⟩:=d.Md a
 exact⟨n,b,e⟩
theorem Px.str {c:Cx}{x:Arg}{t:TypeId}{v:Value}(h:Px c x t v)(a:c.P.underlying t=some .string): ∃n,x.ev c.ρ=some (.str n)/\v= .string n:=by
 obtain⟨iv,b,d,_⟩:=h
 obtain⟨n,rfl,e⟩:=d.Hj a
 exact⟨n,b,e⟩
theorem A1z {t u:TypeId}{x y:Operand}{e1 d:ES}{b c:Arg}{i j:List PLt}(G:Good P N X ρ K S.tm (cur S es.obs) μ a w)(q:Ev S (H0 P x t) es b e1 i)(r:Ev S (H0 P y u) e1 c d j)
  (e:LH R ρ i) (g:LH R ρ j) (m:holds ρ es.gs=some true):
  Ph P N X ρ K S μ a w es d/\Px (Bh P X ρ (cur S d.obs) μ w) b t (a.eval x)/\Px (Bh P X ρ (cur S d.obs) μ w) c u (a.eval y):=by
 obtain⟨h,z⟩:=E9 G q e m
 obtain⟨o,A⟩:=E9 h.Cj r g (by rw[h.gs];exact m)
 exact⟨h.trans o,o.later.brel rfl z,A⟩
theorem Dd {e1:ES}{n:Nat}{rt:TypeId}{iv:IV}{v:Value}(p:Ph P N X ρ K S μ a w es e1)(h:Arg.ev ρ (.v n)=some iv)(d:Rel P w (λb=>X b\/Wr (cur S e1.obs) μ b) rt iv v){c:Nat} :
  Out P N X ρ K S μ a w es {e1 with n:=c} (dat (.v n) rt) μ w v:=
 Ph.out (es':= {e1 with n:=c}) ⟨p.Cj,p.Dv,p.m,p.gs⟩ ⟨iv,h,d⟩ (Mb _ _)
theorem Bbm {op:BinOp}{yt:TypeId}{k:IntKind}(h:yOk P op yt k=true): ∃k2,P.underlying yt=some (.int k2)/\((match op with | .shl | .shr =>true | _=>false)=false->k2=k):=by
 have key: ∀b:(Kp P yt).isSome =true,∃k2,P.underlying yt=some (.int k2):=λb=>by
  obtain⟨k2,a⟩:=aF.1 b
  exact⟨k2,Cp a⟩
 cases op<;>simp only[yOk]at h<;>first
  | exact⟨k,Cp (by simpa using h),λ_=>rfl⟩
  | (obtain⟨k2,a⟩:=key h;exact⟨k2,a,λh=>by cases h⟩)
theorem A4u {op:BinOp}{xt yt rt:TypeId}{x y:Operand}{k:IntKind}{b c:Arg}{d:ES}(p:Ph P N X ρ K S μ a w es d)(E:P.underlying xt=some (.int k))
  (F:Px (Bh P X ρ (cur S d.obs) μ w) b xt (a.eval x)) (G:Px (Bh P X ρ (cur S d.obs) μ w) c yt (a.eval y)) (o:holds ρ d.gs=some true) (H:LH R ρ ls)
  (h:Ev S (do
   EM.guard (yOk P op yt k)
   match op with
   | .add | .sub | .mul =>do
    EM.guard (Kp P rt == some k)
    pure (dat (<-Bv (.arith op k) [b,c]) rt)
   | .quo =>do
    EM.guard (Kp P rt == some k)
    pure (dat (<-Bv (.quo k) [b,c]) rt)
   | .rem =>do
    EM.guard (Kp P rt == some k)
    pure (dat (<-Bv (.rem k) [b,c]) rt)
   | .shl | .shr =>do
    EM.guard (Kp P rt == some k)
    pure (dat (<-Bv (.shift op k) [b,c]) rt)
   | .eql | .neq | .lss | .leq | .gtr | .geq =>do
    EM.guard (isBool P rt)
    pure (dat (<-Bv (.cmp op) [b,c]) rt)
   | _=>fail:EM SX) d sx es' ls):
  ∃v,(do eqGuard op xt x y (a.eval x) (a.eval y);binOp op xt (a.eval x) (a.eval y):Sem Value).run P w= .ok v w/\Out P N X ρ K S μ a w es es' sx μ w v:=by
 simp only[Ab,Af]at h
 obtain⟨_,_,_,_,⟨I,rfl,rfl⟩,h,rfl⟩:=h
 obtain⟨k2,q,r⟩:=Bbm I
 obtain⟨i,J,L⟩:=F.int E
 obtain⟨j,M,Q⟩:=G.int q
 have t:b.ev ρ=some (.int i):=J
 have z:c.ev ρ=some (.int j):=M
 rw[L,Q]
 cases op<;>simp only[Ac]at h<;>simp only[Ab,Af,Bi,Ad]at h<;>obtain⟨_,_,_,_,⟨A,rfl,rfl⟩,⟨_,_,_,_,⟨rfl,rfl,rfl⟩,⟨rfl,rfl,rfl⟩,rfl⟩,rfl⟩:=h<;>
  obtain⟨vs,iv,r1,r2,B⟩:=LH.Bv H.right.left o<;>obtain⟨u,v,g,m,rfl⟩:=Ab8 r1<;>rw[t]at g<;>rw[z]at m<;>injection g with g<;>injection m with m<;>subst g<;>subst m<;> (try (have e:=r rfl;subst e))<;>
  first
   | (
     simp only[Prim.ev,aB]at r2
     subst r2
     refine⟨_,?_,Dd p B (.int (Cp (by simpa using A)))⟩
     simp[eqGuard,binOp,Op.intArith])
   | (
     simp only[Prim.ev,K4,aL,aB]at r2
     subst r2
     refine⟨_,?_,Dd p B (.bool (Ce A))⟩
     simp[eqGuard,binOp,Op.intCmp])
   | (
     simp only[Prim.ev]at r2
     split at r2
     ·cases r2
     ·rename_i C
      injection r2 with r2;subst r2
      refine⟨_,?_,Dd p B (.int (Cp (by simpa using A)))⟩
      first
       | (simp[eqGuard,binOp,Op.intDiv,C];done)
       | (simp[eqGuard,binOp,Op.shift,C,Nat.min_def];done))
theorem A5e {op:BinOp}{xt yt rt:TypeId}{x y:Operand}{b c:Arg}{d:ES}(p:Ph P N X ρ K S μ a w es d)(z:P.underlying xt=some .string)
  (A:Px (Bh P X ρ (cur S d.obs) μ w) b xt (a.eval x)) (B:Px (Bh P X ρ (cur S d.obs) μ w) c yt (a.eval y)) (m:holds ρ d.gs=some true) (C:LH R ρ ls)
  (h:Ev S (do
   EM.guard (isStr P yt)
   match op with
   | .add =>do
    EM.guard (isStr P rt)
    pure (dat (<-Bv .cat [b,c]) rt)
   | .eql | .neq | .lss | .leq | .gtr | .geq =>do
    EM.guard (isBool P rt)
    pure (dat (<-Bv (.cmpS op) [b,c]) rt)
   | _=>fail:EM SX) d sx es' ls):
  ∃v,(do eqGuard op xt x y (a.eval x) (a.eval y);binOp op xt (a.eval x) (a.eval y):Sem Value).run P w= .ok v w/\Out P N X ρ K S μ a w es es' sx μ w v:=by
 simp only[Ab,Af]at h
 obtain⟨_,_,_,_,⟨E,rfl,rfl⟩,h,rfl⟩:=h
 obtain⟨i,F,G⟩:=A.str z
 obtain⟨j,H,I⟩:=B.str (D4 E)
 have o:b.ev ρ=some (.str i):=F
 have q:c.ev ρ=some (.str j):=H
 rw[G,I]
 cases op<;>simp only[Ac]at h<;>simp only[Ab,Af,Bi,Ad]at h<;>obtain⟨_,_,_,_,⟨r,rfl,rfl⟩,⟨_,_,_,_,⟨rfl,rfl,rfl⟩,⟨rfl,rfl,rfl⟩,rfl⟩,rfl⟩:=h<;>
  obtain⟨vs,iv,r1,r2,t⟩:=LH.Bv C.right.left m<;>obtain⟨u,v,e,g,rfl⟩:=Ab8 r1<;>rw[o]at e<;>rw[q]at g<;>injection e with e<;>injection g with g<;>subst e<;>subst g
 case add=>
  simp only[Prim.ev]at r2
  split at r2
  ·rename_i J
   injection r2 with r2;subst r2
   refine⟨_,?_,Dd p t (.str (D4 r))⟩
   have: ¬ (((i.size+j.size:Nat):Int) > IntKind.i64.max):=by
    have:IntKind.i64.max=9223372036854775807:=by decide
    have:A4=140737488355328:=rfl
    omega
   simp only[eqGuard,binOp,Op.stringOp,if_neg this]
   simp
  ·cases r2
 all_goals
  simp only[Prim.ev,Kt,aL,aB]at r2
  subst r2
  refine⟨_,?_,Dd p t (.bool (Ce r))⟩
  simp[eqGuard,binOp,Op.stringOp]
theorem A7g {op:BinOp}{xt yt rt:TypeId}{x y:Operand}{b c:Arg}{d:ES}(p:Ph P N X ρ K S μ a w es d)(o:P.underlying xt=some .bool)
  (A:Px (Bh P X ρ (cur S d.obs) μ w) b xt (a.eval x)) (B:Px (Bh P X ρ (cur S d.obs) μ w) c yt (a.eval y)) (q:holds ρ d.gs=some true) (C:LH R ρ ls)
  (h:Ev S (do
   EM.guard (isBool P yt&&isBool P rt)
   match op with
   | .eql =>do pure (dat (<-Bv (.eqB false) [b,c]) rt)
   | .neq =>do pure (dat (<-Bv (.eqB true) [b,c]) rt)
   | _=>fail:EM SX) d sx es' ls):
  ∃v,(do eqGuard op xt x y (a.eval x) (a.eval y);binOp op xt (a.eval x) (a.eval y):Sem Value).run P w= .ok v w/\Out P N X ρ K S μ a w es es' sx μ w v:=by
 simp only[Ab,Af]at h
 obtain⟨_,_,_,_,⟨e,rfl,rfl⟩,h,rfl⟩:=h
 simp only[aC]at e
 obtain⟨i,E,F⟩:=A.bool o
 obtain⟨j,G,H⟩:=B.bool (Ce e.1)
 have r:b.ev ρ=some (.bool i):=E
 have t:c.ev ρ=some (.bool j):=G
 rw[F,H]
 cases op<;>simp only[Ac]at h<;>simp only[Ab,Bi,Ad]at h<;>obtain⟨_,_,_,_,⟨rfl,rfl,rfl⟩,⟨rfl,rfl,rfl⟩,rfl⟩:=h<;>
  obtain⟨vs,iv,r1,r2,z⟩:=LH.Bv C.left q<;>obtain⟨u,v,g,m,rfl⟩:=Ab8 r1<;>rw[r]at g<;>rw[t]at m<;>injection g with g<;>injection m with m<;>subst g<;>subst m
 ·simp only[Prim.ev,aB,aJ,Zf]at r2
  subst r2
  refine⟨_,?_,Dd p z (.bool (Ce e.2))⟩
  rw[Sem.run_bind,show(eqGuard .eql xt x y (.bool i) (.bool j)).run P w= .ok () w by simp[eqGuard],Result.andThen_ok,run_eql_bool w xt i j o]
 ·simp only[Prim.ev,aB,Zt]at r2
  subst r2
  refine⟨_,?_,Dd p z (.bool (Ce e.2))⟩
  rw[Sem.run_bind,show(eqGuard .neq xt x y (.bool i) (.bool j)).run P w= .ok () w by simp[eqGuard],Result.andThen_ok,run_neq_bool w xt i j o]
  cases i<;>cases j<;>rfl
def L9 (P:Program)(t:TypeId):Bool:=(Kp P t).isSome ||isStr P t||isBool P t
theorem Arr {t:TypeId}{x y:IV}{u v:Value}{d:Nat}{O O':Nat->Prop}(h:L9 P t=true)(a:Rel P w O t x u)(b:Rel P w O' t y v):
  ∃r,IV.Oq x y=some r/\(Op.equalIn (d+1) t u v).run P w= .ok r w:=by
 simp only[L9,bK,aF]at h
 rcases h with (⟨k,h⟩ | h) | h
 ·obtain⟨n,rfl,rfl⟩:=a.G4 (Cp h)
  obtain⟨m,rfl,rfl⟩:=b.G4 (Cp h)
  exact⟨_,rfl,run_equalIn_int w d t k k n m (Cp h)⟩
 ·obtain⟨n,rfl,rfl⟩:=a.Hj (D4 h)
  obtain⟨m,rfl,rfl⟩:=b.Hj (D4 h)
  exact⟨_,rfl,run_equalIn_string w d t n m (D4 h)⟩
 ·obtain⟨n,rfl,rfl⟩:=a.Md (Ce h)
  obtain⟨m,rfl,rfl⟩:=b.Md (Ce h)
  exact⟨_,rfl,run_equalIn_bool' w d t n m (Ce h)⟩
theorem Y3 {t:TypeId}(h:L9 P t=true):Ai P t=false/\ ∃d,P.underlying t=some d:=by
 simp only[L9,bK,aF]at h
 rcases h with (⟨k,h⟩ | h) | h
 ·exact⟨Aa3 (Cp h),_,Cp h⟩
 ·exact⟨Abo (D4 h),_,D4 h⟩
 ·exact⟨Xd (Ce h),_,Ce h⟩
theorem Vi {d:Nat}{cs ds:Array Value}{O O':Nat->Prop} : ∀ (fs:List Field) (k:Nat) (xs ys:List IV),(∀ (j:Nat) (f:Field),fs[j]?=some f->f.offset=k+j/\(f.name != "_")=true/\L9 P f.type=true)->
  Ho P w O (fs.map (·.type)) xs (cs.toList.drop k)->Ho P w O' (fs.map (·.type)) ys (ds.toList.drop k)->
  ∃r,IV.N6 xs ys=some r/\(Op.eqFields (d+1) cs ds fs).run P w= .ok r w
 | [],k,xs,ys,_,c,e=>by
  have m:=c.len.1
  have o:=e.len.1
  obtain rfl:xs= []:=aT.1 (by simpa using m)
  obtain rfl:ys= []:=aT.1 (by simpa using o)
  exact⟨true,rfl,rfl⟩
 | f::fs,k,xs,ys,q,c,e=>by
  obtain⟨m,o,t⟩:=q 0 f rfl
  cases xs with
  | nil=>exact absurd c.len.1 (by simp)
  | cons x xs=>
   cases ys with
   | nil=>exact absurd e.len.1 (by simp)
   | cons y ys=>
    cases a:cs.toList.drop k with
    | nil=>rw[a]at c;exact c.elim
    | cons u us=>
     cases b:ds.toList.drop k with
     | nil=>rw[b]at e;exact e.elim
     | cons v vs=>
      rw[a]at c;rw[b]at e
      obtain⟨r1,e1,A⟩:=Arr (d:=d) t c.1 e.1
      have g:us=cs.toList.drop (k+1):=by rw[<-bF,a];rfl
      have i:vs=ds.toList.drop (k+1):=by rw[<-bF,b];rfl
      obtain⟨r2,B,C⟩:=Vi fs (k+1) xs ys (λj f h=>by
       have:=q (j+1) f (by simpa using h)
       exact⟨by omega,this.2⟩) (by rw[<-g];exact c.2) (by rw[<-i];exact e.2)
      refine⟨r1&&r2,by simp[IV.N6,e1,B],?_⟩
      obtain⟨z,dd,hd⟩:=Y3 t
      have E:cs[k]?=some u:=by
       have:=congrArg (λl=>l[0]?) a
       simpa [aH]using this
      have F:ds[k]?=some v:=by
       have:=congrArg (λl=>l[0]?) b
       simpa [aH]using this
      have G:(part f.type cs f.offset).run P w= .ok u w:=by
       simp[part,Mr hd,z,m,E]
      have H:(part f.type ds f.offset).run P w= .ok v w:=by
       simp[part,Mr hd,z,m,F]
      have I:f.name≠ "_" :=by simpa using o
      simp only[Op.eqFields,I,ne_eq,not_false_eq_true,Zt,Sem.run_bind,G,H,A,Result.andThen_ok]
      cases r1
      ·simp
      ·simpa using C
theorem Adm {t:TypeId}{fs:Array Field}(b:P.underlying t=some (.struct fs))(h: ∀f∈fs.toList,L9 P f.type=true):leaves P t=some (fs.toList.map (·.type)):=by
 have key: ∀l:List Field,(∀f∈l,L9 P f.type=true)->l.mapM (λf=>Hb P 11 f.type)=some (l.map λf=> [f.type]):=by
  intro l
  induction l with
  | nil=>intro _;rfl
  | cons f l a=>
   intro h
   have c:Hb P 11 f.type=some [f.type]:=by
    obtain⟨i,d,hd⟩:=Y3 (h f aU)
    unfold Hb
    rw[hd]
    cases d<;>simp_all[Ai]
   rw[bZ,c,a λg e=>h g (aV _ e)]
   rfl
 unfold leaves Hb
 rw[b]
 simp only[key _ h,aL]
 congr 1
 induction fs.toList with
 | nil=>rfl
 | cons f l a=>simp[a]
theorem Awy {t:TypeId}(h:Amr P t=true): ∃fs,P.underlying t=some (.struct fs)/\leaves P t=some (fs.toList.map (·.type))/\
  (∀ (j:Nat) (f:Field),fs.toList[j]?=some f->f.offset=0+j/\(f.name != "_")=true/\L9 P f.type=true)/\P.stoodInHeld t=false/\P.eqGuardType P.depth t=false:=by
 unfold Amr at h
 split at h
 ·rename_i fs c
  simp only[aC,cE,bQ]at h
  obtain⟨⟨d,e⟩,g⟩:=h
  have a: ∀ (j:Nat) (f:Field),fs.toList[j]?=some f->f.offset=0+j/\(f.name != "_")=true/\L9 P f.type=true:=by
   intro j f b
   have:=d (f,j) (by
    rw[List.mem_zipIdx_iff_getElem?]
    simpa using b)
   simp only[beq_iff_eq]at this
   exact⟨by omega,this.1.2,this.2⟩
  refine⟨fs,c,Adm c (λf b=>?_),a,e,g⟩
  obtain⟨j,i⟩:=cL.1 b
  exact(a j f i).2.2
 ·cases h
theorem A4a {op:BinOp}{xt yt rt:TypeId}{x y:Operand}{b c:Arg}{o:ES}(p:Ph P N X ρ K S μ a w es o)
  (hb:Px (Bh P X ρ (cur S o.obs) μ w) b xt (a.eval x)) (hc:Px (Bh P X ρ (cur S o.obs) μ w) c yt (a.eval y)) (C:holds ρ o.gs=some true) (hl:LH R ρ ls)
  (h:Ev S (do
   EM.guard (Amr P xt&&xt == yt&&isBool P rt)
   match op with
   | .eql =>do pure (dat (<-Bv (.eqA false) [b,c]) rt)
   | .neq =>do pure (dat (<-Bv (.eqA true) [b,c]) rt)
   | _=>fail:EM SX) o sx es' ls):
  ∃v,(do eqGuard op xt x y (a.eval x) (a.eval y);binOp op xt (a.eval x) (a.eval y):Sem Value).run P w= .ok v w/\Out P N X ρ K S μ a w es es' sx μ w v:=by
 simp only[Ab,Af]at h
 obtain⟨_,_,_,_,⟨z,rfl,rfl⟩,h,rfl⟩:=h
 simp only[aC,beq_iff_eq]at z
 obtain⟨⟨z,rfl⟩,Y⟩:=z
 obtain⟨fs,E,F,q,G,t⟩:=Awy z
 have m:Ai P xt=true:=by simp[Ai,E]
 have hf:P.underlying xt=some (.struct (P.fieldsOf xt)):=by simp[Program.fieldsOf,E]
 have H:P.fieldsOf xt=fs:=by simp[Program.fieldsOf,E]
 obtain⟨i,hi,I,_⟩:=hb
 obtain⟨j,hj,J,_⟩:=hc
 obtain⟨ts,xs,cs,q1,rfl,hx,L⟩:=I.Abb m
 obtain⟨M,ys,ds,q2,rfl,hy,Q⟩:=J.Abb m
 have e:leaves P xt=some ts:=q1
 have g:leaves P xt=some M:=q2
 rw[F]at e g
 injection e with e;injection g with g
 subst e;subst g
 have T:b.ev ρ=some (.agg xs):=hi
 have U:c.ev ρ=some (.agg ys):=hj
 obtain⟨r,e1,o⟩:=Vi (d:=9998) fs.toList 0 xs ys q (by rw[bM];exact L) (by rw[bM];exact Q)
 have heq:(Op.equalIn 10000 xt (.agg cs) (.agg ds)).run P w= .ok r w:=by
  have:=run_equalIn_agg w 9999 xt cs ds hf G
  rw[this,H];exact o
 rw[hx,hy]
 cases op<;>simp only[Ac]at h<;>simp only[Ab,Bi,Ad]at h<;>obtain⟨_,_,_,_,⟨rfl,rfl,rfl⟩,⟨rfl,rfl,rfl⟩,rfl⟩:=h<;>
  obtain⟨vs,iv,r1,r2,Z⟩:=LH.Bv hl.left C<;>obtain⟨u,v,A,B,rfl⟩:=Ab8 r1<;>rw[T]at A<;>rw[U]at B<;>injection A with A<;>injection B with B<;>subst A<;>subst B
 ·simp only[Prim.ev,e1,aL,aB,aJ,Zf]at r2
  subst r2
  refine⟨_,?_,Dd p Z (.bool (Ce Y))⟩
  rw[Sem.run_bind,run_eqGuard_agg w .eql xt x y cs ds t,Result.andThen_ok,run_eql_struct w xt cs ds,heq,Result.andThen_ok]
 ·simp only[Prim.ev,e1,aL,aB,Zt]at r2
  subst r2
  refine⟨_,?_,Dd p Z (.bool (Ce Y))⟩
  rw[Sem.run_bind,run_eqGuard_agg w .neq xt x y cs ds t,Result.andThen_ok,run_neq_struct w xt cs ds,heq,Result.andThen_ok]
theorem A6e {op:BinOp}{xt yt rt:TypeId}{x y:Operand}(G:Good P N X ρ K S.tm (cur S es.obs) μ a w)(h:Ev S (Bc3 P op xt x y yt rt) es sx es' ls)(e:LH R ρ ls)(m:holds ρ es.gs=some true):
  ∃v,(do eqGuard op xt x y (a.eval x) (a.eval y);binOp op xt (a.eval x) (a.eval y):Sem Value).run P w= .ok v w/\Out P N X ρ K S μ a w es es' sx μ w v:=by
 unfold Bc3 at h
 rw[Ab]at h
 obtain⟨b,e1,t,_,o,h,rfl⟩:=h
 rw[Ab]at h
 obtain⟨c,q,u,z,r,h,rfl⟩:=h
 obtain⟨p,i,j⟩:=A1z G o r e.left e.right.left m
 have e:=e.right.right
 have d:holds ρ q.gs=some true:=by rw[p.gs];exact m
 split at h
 ·rename_i k g;exact A4u p g i j d e h
 ·rename_i g;exact A5e p g i j d e h
 ·rename_i g;exact A7g p g i j d e h
 ·exact A4a p i j d e h
 ·simp[Ac]at h
end
end Go.CT
namespace Go.CT
open EM
section
variable {P:Program}{N:Nat}{X:Nat->Prop}{R:Job->List IV->Option (List IV)}{ρ:List IV}{K:Nat->Prop}{S:View}{μ:Nat->Value}{a:Act}{w:World}{es es':ES}{ls:List PLt}{sx:SX}
theorem Bap {op:UnOp}{xt rt:TypeId}{x:Operand}(G:Good P N X ρ K S.tm (cur S es.obs) μ a w)(h:Ev S (xUn P op xt x rt) es sx es' ls)(e:LH R ρ ls)(r:holds ρ es.gs=some true):
  ∃v,(Op.unary op (a.eval x)).run P w= .ok v w/\Out P N X ρ K S μ a w es es' sx μ w v:=by
 unfold xUn at h
 rw[Ab]at h
 obtain⟨b,e1,A,B,y,h,rfl⟩:=h
 obtain⟨p,t⟩:=E9 G y e.left r
 have g:holds ρ e1.gs=some true:=by rw[p.gs];exact r
 have e:=e.right
 cases op with
 | not=>
  simp only[Ab,Af,Bi,Ad]at h
  obtain⟨_,_,_,_,⟨j,rfl,rfl⟩,⟨_,_,_,_,⟨rfl,rfl,rfl⟩,⟨rfl,rfl,rfl⟩,rfl⟩,rfl⟩:=h
  simp only[aC]at j
  obtain⟨i,m,o⟩:=t.bool (Ce j.1)
  have d:b.ev ρ=some (.bool i):=m
  obtain⟨vs,iv,r1,r2,q⟩:=LH.Bv e.right.left g
  obtain⟨u,c,rfl⟩:=Apf r1
  rw[d]at c;injection c with c;subst c
  simp only[Prim.ev,aB]at r2;subst r2
  exact⟨_,by rw[o];rfl,Dd p q (.bool (Ce j.2))⟩
 | neg=>
  simp only[Ab,Ao,Af,Bi,Ad]at h
  obtain⟨k,_,_,_,⟨z,rfl,rfl⟩,⟨_,_,_,_,⟨j,rfl,rfl⟩,⟨_,_,_,_,⟨rfl,rfl,rfl⟩,⟨rfl,rfl,rfl⟩,rfl⟩,rfl⟩,rfl⟩:=h
  obtain⟨i,m,o⟩:=t.int (Cp z)
  have d:b.ev ρ=some (.int i):=m
  obtain⟨vs,iv,r1,r2,q⟩:=LH.Bv e.right.right.left g
  obtain⟨u,c,rfl⟩:=Apf r1
  rw[d]at c;injection c with c;subst c
  simp only[Prim.ev,aB]at r2;subst r2
  exact⟨_,by rw[o];rfl,Dd p q (.int (Cp (by simpa using j)))⟩
 | xor=>simp[Ac]at h
 | plus=>simp[Ac]at h
theorem Y6: ∀ (ns:List Int) (l:List UInt8) (acc:ByteArray),(ns.map IV.int).mapM J2=some l->ns.foldl (λr n=>r.push (dI n.toNat)) acc=⟨(acc.data.toList++l).toArray⟩
 | [],l,acc,h=>by
  simp at h;subst h
  simp
 | n::ns,l,acc,h=>by
  simp only[cV,bZ,bB,aM]at h
  cases a:J2 (.int n) with
  | none=>simp[a]at h
  | some b=>
   cases c:(ns.map IV.int).mapM J2 with
   | none=>simp[a,c]at h
   | some d=>
    simp only[a,c,aX,aB]at h
    subst h
    rw[dA,Y6 ns d _ c]
    have e:b=dI n.toNat:=by
     simp only[J2]at a
     split at a
     ·injection a with a;exact a.symm
     ·cases a
    subst e
    simp[ByteArray.push]
theorem Az4 {src dst:TypeId}{x:Operand}(G:Good P N X ρ K S.tm (cur S es.obs) μ a w)(h:Ev S (A6g P src dst x) es sx es' ls)(z:LH R ρ ls)(hg:holds ρ es.gs=some true):
  ∃v,(convert src dst (a.eval x)).run P w= .ok v w/\Out P N X ρ K S μ a w es es' sx μ w v:=by
 unfold A6g at h
 rw[Ab]at h
 obtain⟨b,e1,l1,l2,h1,h,rfl⟩:=h
 obtain⟨p,J⟩:=E9 G h1 z.left hg
 have B:holds ρ e1.gs=some true:=by rw[p.gs];exact hg
 have z:=z.right
 split at h
 ·rename_i k k' g hd
  simp only[Ab,Bi,Ad]at h
  obtain⟨_,_,_,_,⟨rfl,rfl,rfl⟩,⟨rfl,rfl,rfl⟩,rfl⟩:=h
  obtain⟨i,C,E⟩:=J.int g
  have o:b.ev ρ=some (.int i):=C
  obtain⟨vs,iv,r1,r2,L⟩:=LH.Bv z.left B
  obtain⟨u,d,rfl⟩:=Apf r1
  rw[o]at d;injection d with d;subst d
  simp only[Prim.ev,aB]at r2;subst r2
  refine⟨_,?_,Dd p L (.int hd)⟩
  rw[E]
  simp[convert,underlying,g,hd,Conv.intToInt]
 ·rename_i g hd
  rw[Ad]at h
  obtain⟨rfl,rfl,rfl⟩:=h
  obtain⟨i,C,E⟩:=J.str g
  refine⟨.string i,?_,p.out ⟨_,C,.str hd⟩ (Mb _ _)⟩
  rw[E]
  simp[convert,underlying,g,hd]
 ·rename_i e g hd
  simp only[Ab,Af,Bi,Ad]at h
  obtain⟨_,_,_,_,⟨g1,rfl,rfl⟩,⟨_,_,_,_,⟨rfl,rfl,rfl⟩,⟨rfl,rfl,rfl⟩,rfl⟩,rfl⟩:=h
  have M:P.underlying e=some (.int .u8):=Cp (by simpa using g1)
  obtain⟨iv0,C,_,F⟩:=J
  obtain⟨xs,A,cap,rfl,E,h1,h2,vs0,Q,h4⟩:=F e g
  have o:b.ev ρ=some (.list xs):=C
  obtain⟨vs,iv,r1,r2,L⟩:=LH.Bv z.right.left B
  obtain⟨u,d,rfl⟩:=Apf r1
  rw[o]at d;injection d with d;subst d
  simp only[Prim.ev,aP]at r2
  obtain⟨l,r2,rfl⟩:=r2
  -- the numbers
  have hints: ∃ns:List Int,xs=ns.map IV.int/\ ∀j n,ns[j]?=some n->vs0 j= .int .u8 n:=by
   refine⟨xs.map fun | .int n=>n | _=>0,?_,?_⟩
   ·apply bR
    intro j
    simp only[cC]
    cases c:xs[j]? with
    | none=>rfl
    | some y=>
     obtain⟨n,rfl,_⟩:=(h4 j y c).G4 M
     rfl
   ·intro j n c
    simp only[cC]at c
    cases T:xs[j]? with
    | none=>simp[T]at c
    | some y=>
     obtain⟨m,rfl,hv⟩:=(h4 j y T).G4 M
     simp[T]at c;subst c;exact hv
  obtain⟨ns,rfl,H⟩:=hints
  have U:0<ns.length->Ag P e=1:=by
   intro Y
   obtain⟨ab,ad,_,Z⟩:=Q (by simpa using Y)
   have:=(Z 0 (by simpa using Y)).1
   rw[H 0 _ (aQ Y)]at this
   simp[Value.cells]at this
   exact this.symm
  refine⟨.string ⟨l.toArray⟩,?_,Dd p L (.str hd)⟩
  rw[E]
  have q:(convert src dst (.slice A (ns.map IV.int).length cap)).run P w=(Conv.bytesToString (.slice A (ns.map IV.int).length cap)).run P w:=by
   simp[convert,underlying,g,hd,M]
  rw[q]
  cases A with
  | none=>
   have t:ns= []:=by
    cases ns with
    | nil=>rfl
    | cons n ns=>obtain⟨_,ad,h,_⟩:=Q (by simp);cases h
   subst t
   simp at r2;subst r2
   rfl
  | some ad=>
   have r:(loadCells ad (ns.map IV.int).length).run P w= .ok (ns.map (Value.int .u8)).toArray w:=by
    have:=run_loadCells_list (P:=P) w ad (ns.map (Value.int .u8)) (λj u c=>by
     simp only[cC]at c
     cases t:ns[j]? with
     | none=>simp[t]at c
     | some n=>
      simp[t]at c;subst c
      have aa:=(aG.1 t).1
      obtain⟨_,ad',hA,Z⟩:=Q (by simp;omega)
      injection hA with hA;subst hA
      have I:D1 w (ad.add (j * Ag P e)) (vs0 j) (Ag P e):=Z j (by simpa using aa)
      rw[H j n t,U (by omega),Nat.mul_one]at I
      have:=I.2 0 (.int .u8 n) (by simp[Value.cells])
      rwa [A6]at this)
    simpa using this
   rw[run_bytesToString w ad _ cap ns r,Y6 ns l _ r2]
   simp
 ·simp[Ac]at h
theorem A6i {t rt:TypeId}{x:Operand}{ats:Array TypeId}(r:ats= #[t])(G:Good P N X ρ K S.tm (cur S es.obs) μ a w)(h:Ev S (Bc9 P t x rt) es sx es' ls)(g:LH R ρ ls)(C:holds ρ es.gs=some true):
  ∃v,(Builtin.len_ ats rt #[a.eval x]).run P w= .ok v w/\Out P N X ρ K S μ a w es es' sx μ w v:=by
 subst r
 unfold Bc9 at h
 rw[Ab]at h
 obtain⟨_,_,_,_,E,h,rfl⟩:=h
 rw[Af]at E
 obtain⟨H,rfl,rfl⟩:=E
 rw[Ab]at h
 obtain⟨b,e1,J,L,I,h,rfl⟩:=h
 obtain⟨p,F⟩:=E9 G I g.right.left C
 have j:holds ρ e1.gs=some true:=by rw[p.gs];exact C
 have g:=g.right.right
 have m:P.underlying rt=some (.int .i64):=Cp (by simpa using H)
 split at h
 ·rename_i o
  simp only[Ab,Bi,Ad]at h
  obtain⟨_,_,_,_,⟨rfl,rfl,rfl⟩,⟨rfl,rfl,rfl⟩,rfl⟩:=h
  obtain⟨i,y,z⟩:=F.str o
  have d:b.ev ρ=some (.str i):=y
  obtain⟨vs,iv,r1,r2,B⟩:=LH.Bv g.left j
  obtain⟨u,c,rfl⟩:=Apf r1
  rw[d]at c;injection c with c;subst c
  simp only[Prim.ev,aB]at r2;subst r2
  refine⟨_,?_,Dd p B (.int m)⟩
  rw[z]
  simp[Builtin.len_,underlying,o,goInt]
 ·rename_i e o
  simp only[Ab,Bi,Ad]at h
  obtain⟨_,_,_,_,⟨rfl,rfl,rfl⟩,⟨rfl,rfl,rfl⟩,rfl⟩:=h
  obtain⟨iv0,y,_,q⟩:=F
  obtain⟨xs,A,cap,rfl,z,_⟩:=q e o
  have d:b.ev ρ=some (.list xs):=y
  obtain⟨vs,iv,r1,r2,B⟩:=LH.Bv g.left j
  obtain⟨u,c,rfl⟩:=Apf r1
  rw[d]at c;injection c with c;subst c
  simp only[Prim.ev,aB]at r2;subst r2
  refine⟨_,?_,Dd p B (.int m)⟩
  rw[z]
  simp[Builtin.len_,underlying,o,goInt]
 ·simp[Ac]at h
theorem Yv {mx:Bool}{t rt:TypeId}{x y:Operand}{ats:Array TypeId}(G:Good P N X ρ K S.tm (cur S es.obs) μ a w)(h:Ev S (Aba P mx t x y rt) es sx es' ls)(d:LH R ρ ls)(A:holds ρ es.gs=some true):
  ∃v,(if mx then Builtin.max_ ats rt #[a.eval x,a.eval y]else Builtin.min_ ats rt #[a.eval x,a.eval y]).run P w= .ok v w/\Out P N X ρ K S μ a w es es' sx μ w v:=by
 unfold Aba at h
 rw[Ab]at h
 obtain⟨k,_,_,_,e,h,rfl⟩:=h
 rw[Ao]at e
 obtain⟨B,rfl,rfl⟩:=e
 rw[Ab]at h
 obtain⟨_,_,_,_,e,h,rfl⟩:=h
 rw[Af]at e
 obtain⟨E,rfl,rfl⟩:=e
 rw[Ab]at h
 obtain⟨b,e1,Y,_,F,h,rfl⟩:=h
 rw[Ab]at h
 obtain⟨c,H,Z,l3,I,h,rfl⟩:=h
 have d:=d.right.right
 obtain⟨p,J,L⟩:=A1z G F I d.left d.right.left A
 have q:holds ρ H.gs=some true:=by rw[p.gs];exact A
 have d:=d.right.right
 have g:P.underlying rt=some (.int k):=Cp (by simpa using E)
 obtain⟨i,M,Q⟩:=J.int (Cp B)
 obtain⟨j,T,U⟩:=L.int (Cp B)
 have r:b.ev ρ=some (.int i):=M
 have z:c.ev ρ=some (.int j):=T
 simp only[Ab,Bi,Ad]at h
 obtain⟨_,_,_,_,⟨rfl,rfl,rfl⟩,⟨rfl,rfl,rfl⟩,rfl⟩:=h
 obtain⟨vs,iv,r1,r2,C⟩:=LH.Bv d.left q
 obtain⟨u,v,m,o,rfl⟩:=Ab8 r1
 rw[r]at m;rw[z]at o
 injection m with m;injection o with o;subst m;subst o
 rw[Q,U]
 cases mx with
 | true=>
  simp only[Zt,Prim.ev,aB]at r2
  subst r2
  refine⟨_,?_,Dd p C (.int g)⟩
  simp[Builtin.max_,Builtin.max2]
 | false=>
  simp only[aJ,Zf,Prim.ev,aB]at r2
  subst r2
  refine⟨_,?_,Dd p C (.int g)⟩
  simp[Builtin.min_,Builtin.min2]
theorem Ua {cv:Arg}{want:Bool}{x:Operand}{t:TypeId}{y:Arg}(G:Good P N X ρ K S.tm (cur S es.obs) μ a w)(h:Ev S (Oc P cv want x t) es y es' ls)(q:holds ρ es.gs=some true)
  (r:cv.ev ρ=some (.bool want)):Sf (Bh P X ρ (cur S es.obs) μ w) y t (a.eval x):=by
 unfold Oc at h
 cases x with
 | tmp s=>
  simp only[Ab,K8,Ii,Af]at h
  obtain⟨v,_,_,_,⟨rfl,rfl,rfl⟩,⟨gs,_,_,_,⟨rfl,rfl,rfl⟩,⟨_,_,_,_,⟨d,rfl,rfl⟩,e,rfl⟩,rfl⟩,rfl⟩:=h
  have j:holds ρ ((cv,want)::es.gs)=some true:=by rw[holds,r];simpa using q
  have o:=(G.slot s).use (Kg d j)
  split at e
  ·rename_i b u z
   rw[z]at o
   simp only[Ab,Af,Ad]at e
   obtain⟨_,_,_,_,⟨A,rfl,rfl⟩,⟨rfl,rfl,rfl⟩,rfl⟩:=e
   have:t=u:=by simpa using A
   subst this
   exact o
  ·simp[Ac]at e
 | const k=>
  simp only[Ab,Ao]at h
  obtain⟨v,_,_,_,⟨d,rfl,rfl⟩,e,rfl⟩:=h
  split at e
  ·rename_i b u
   rw[Ad]at e
   obtain⟨rfl,rfl,rfl⟩:=e
   have B:=N3 (c:=Bh P X ρ (cur S es.obs) μ w) d
   obtain⟨iv,d1,d2⟩:=B.1
   refine⟨iv,d1,?_⟩
   -- its type is the wanted one
   have:u=t:=by
    unfold M6 at d
    split at d
    ·split at d
     ·simp only[bB,aM]at d
      cases i:leaves P t with
      | none=>simp[i]at d
      | some ts=>cases m:D3 P ts (by assumption:Array Value).toList<;>simp[i,m]at d
     ·cases d
    ·split at d
     ·cases d
     ·simp only[aP]at d
      obtain⟨l,d,e⟩:=d
      injection e with e;subst e
      unfold Ly at d
      split at d<;> (try split at d)<;>simp_all
   subst this
   exact d2
  ·simp[Ac]at e
 | func f=>simp[Ac]at h
 | global g=>simp[Ac]at h
theorem Vu {cv:Arg}{want:Bool}{x:Operand}{t:TypeId}{y:Arg}(h:Ev S (Oc P cv want x t) es y es' ls):es=es'/\ls= []:=by
 unfold Oc at h
 cases x with
 | tmp s=>
  simp only[Ab,K8,Ii,Af]at h
  obtain⟨v,_,_,_,⟨rfl,rfl,rfl⟩,⟨gs,_,_,_,⟨rfl,rfl,rfl⟩,⟨_,_,_,_,⟨b,rfl,rfl⟩,a,rfl⟩,rfl⟩,rfl⟩:=h
  split at a
  ·simp only[Ab,Af,Ad]at a
   obtain⟨_,_,_,_,⟨c,rfl,rfl⟩,⟨rfl,rfl,rfl⟩,rfl⟩:=a
   exact⟨rfl,rfl⟩
  ·simp[Ac]at a
 | const k=>
  simp only[Ab,Ao]at h
  obtain⟨v,_,_,_,⟨b,rfl,rfl⟩,a,rfl⟩:=h
  split at a
  ·rw[Ad]at a
   obtain⟨rfl,rfl,rfl⟩:=a
   exact⟨rfl,rfl⟩
  ·simp[Ac]at a
 | func f=>simp[Ac]at h
 | global g=>simp[Ac]at h
theorem Ay1 {c x y:Operand}{rt:TypeId}(G:Good P N X ρ K S.tm (cur S es.obs) μ a w)(h:Ev S (A4h P c x y rt) es sx es' ls)(g:LH R ρ ls)(m:holds ρ es.gs=some true):
  ∃v,(do pure (if <-asBool (a.eval c) then a.eval x else a.eval y):Sem Value).run P w= .ok v w/\Out P N X ρ K S μ a w es es' sx μ w v:=by
 unfold A4h at h
 rw[Ab]at h
 obtain⟨_,_,_,_,o,h,rfl⟩:=h
 rw[Af]at o
 obtain⟨A,rfl,rfl⟩:=o
 rw[Ab]at h
 obtain⟨cv,e1,J,_,B,h,rfl⟩:=h
 obtain⟨p,C⟩:=E9 G B g.right.left m
 have d:holds ρ e1.gs=some true:=by rw[p.gs];exact m
 have g:=g.right.right
 rw[Ab]at h
 obtain⟨xv,L,M,_,r,h,rfl⟩:=h
 obtain⟨rfl,rfl⟩:=Vu r
 rw[Ab]at h
 obtain⟨yv,Q,T,_,t,h,rfl⟩:=h
 obtain⟨rfl,rfl⟩:=Vu t
 simp only[Ab,Bi,Ad]at h
 obtain⟨_,_,_,_,⟨rfl,rfl,rfl⟩,⟨rfl,rfl,rfl⟩,rfl⟩:=h
 obtain⟨i,E,F⟩:=C.bool (Ce A)
 have e:cv.ev ρ=some (.bool i):=E
 obtain⟨vs,iv,r1,r2,z⟩:=LH.Bv g.right.right.left d
 obtain⟨u,s,q,j,H,I,rfl⟩:=A6q r1
 rw[e]at j;injection j with j;subst j
 simp only[Prim.ev,aB]at r2
 rw[F]
 cases i with
 | true=>
  simp only[Zt]at r2;subst r2
  obtain⟨iv,d1,d2⟩:=Ua p.Cj r d e
  have b:xv.ev ρ=some iv:=d1
  rw[H]at b;injection b with b;subst b
  exact⟨_,by simp[asBool],Dd p z d2⟩
 | false=>
  simp only[aJ,Zf]at r2;subst r2
  obtain⟨iv,d1,d2⟩:=Ua p.Cj t d e
  have b:yv.ev ρ=some iv:=d1
  rw[I]at b;injection b with b;subst b
  exact⟨_,by simp[asBool],Dd p z d2⟩
end
end Go.CT
namespace Go.CT
open EM
section
variable {P:Program}{N:Nat}{X:Nat->Prop}{R:Job->List IV->Option (List IV)}{ρ:List IV}{K:Nat->Prop}{S:View}{μ:Nat->Value}{a:Act}{w:World}{es es':ES}{ls:List PLt}{sx:SX}
theorem Dt.len {c:Cx} : ∀ {ls:List LV} {vs:List Value},Dt c ls vs->ls.length=vs.length
 | [],[],_=>rfl
 | _::_,_::_,h=>by simp[Dt.len h.2]
 | [],_::_,h=>h.elim
 | _::_,[],h=>h.elim
theorem Dt.get {c:Cx} : ∀ {ls:List LV} {vs:List Value},Dt c ls vs-> ∀ (i:Nat) (l:LV) (v:Value),ls[i]?=some l->vs[i]?=some v->Bb0 c l v
 | [],[],_=>by simp
 | l::ls,v::vs,h=>by
  intro i d e a b
  cases i with
  | zero=>simp at a b;subst a;subst b;exact h.1
  | succ i=>exact Dt.get h.2 i d e (by simpa using a) (by simpa using b)
 | [],_::_,h=>h.elim
 | _::_,[],h=>h.elim
theorem Dt.drop {c:Cx} : ∀ {ls:List LV} {vs:List Value} (n:Nat),Dt c ls vs->Dt c (ls.drop n) (vs.drop n)
 | [],[],n,_=>by simp[Dt]
 | l::ls,v::vs,0,h=>h
 | l::ls,v::vs,n+1,h=>by simpa using Dt.drop n h.2
 | [],_::_,_,h=>h.elim
 | _::_,[],_,h=>h.elim
theorem Dt.take {c:Cx} : ∀ {ls:List LV} {vs:List Value} (n:Nat),Dt c ls vs->Dt c (ls.take n) (vs.take n)
 | [],[],n,_=>by simp[Dt]
 | l::ls,v::vs,0,h=>by simp[Dt]
 | l::ls,v::vs,n+1,h=>⟨h.1,Dt.take n h.2⟩
 | [],_::_,_,h=>h.elim
 | _::_,[],_,h=>h.elim
theorem Dt.append {c:Cx} : ∀ {ls:List LV} {vs:List Value} {ls':List LV} {a:List Value},Dt c ls vs->Dt c ls' a->Dt c (ls++ls') (vs++a)
 | [],[],_,_,_,h'=>h'
 | _::_,_::_,_,_,h,h'=>⟨h.1,Dt.append h.2 h'⟩
 | [],_::_,_,_,h,_=>h.elim
 | _::_,[],_,_,h,_=>h.elim
theorem Dt.one {c:Cx} : ∀ {ls:List LV} {vs:List Value},Dt c ls vs-> ∀u∈vs,u.oneCell'=true
 | [],[],_=>by simp
 | _::_,_::_,h=>by
  intro u a
  rcases cU.1 a with rfl | a
  ·exact h.1.1
  ·exact Dt.one h.2 u a
 | [],_::_,h=>h.elim
 | _::_,[],h=>h.elim
theorem W2.one {c:Cx}{l:LV}{v:Value}(h:W2 c l v)(d:l≠ .junk)(m: ∀x t,l= .at x t->Ai c.P t=false):v.oneCell'=true/\v.cells= #[v]:=by
 cases l with
 | «at» x t=>obtain⟨iv,_,o⟩:=h;exact o.one (m x t rfl)
 | nil t=>have h:v= .slice none 0 0:=h;subst h;exact⟨rfl,rfl⟩
 | ref k t=>obtain⟨_,A,n,cap,rfl⟩:=h;exact⟨rfl,rfl⟩
 | sub k lo q t=>obtain⟨A,n,cap,l,r,e,_,_,_,_,_,_,rfl⟩:=h;exact⟨rfl,rfl⟩
 | ptr p=>
  cases p with
  | p k off=>obtain⟨b,_,rfl⟩:=h;exact⟨rfl,rfl⟩
  | el k e i off=>obtain⟨g,n,cap,j,_,_,_,rfl⟩:=h;exact⟨rfl,rfl⟩
  | im x t off=>obtain⟨ad,u,_,_,_,_,rfl⟩:=h;exact⟨rfl,rfl⟩
 | fn f w=>obtain⟨vs,rfl,_⟩:=h;exact⟨rfl,rfl⟩
 | mref k t=>obtain⟨_,r,rfl⟩:=h;exact⟨rfl,rfl⟩
 | hid k=>rcases h with rfl | ⟨_,a,rfl⟩<;>exact⟨rfl,rfl⟩
 | cl x t=>obtain⟨_,A,n,rfl⟩:=h;exact⟨rfl,rfl⟩
 | st x t=>obtain⟨_,ys,A,cap,_,rfl,_⟩:=h;exact⟨rfl,rfl⟩
 | junk=>exact absurd rfl d
theorem Ale {x:Arg} : ∀ {ts:List TypeId} {i:Nat} {es es':ES} {lvs:List LV} {ls:List PLt} {xs:List IV} {cs:List Value},Ev S (projs x ts i) es lvs es' ls->LH R ρ ls->holds ρ es.gs=some true->
  x.ev ρ=some (.agg xs)->Ho P w (Bh P X ρ (cur S es.obs) μ w).O ts (xs.drop i) cs->(∀u∈ts,Ai P u=false)->
  (∃n,es'= {es with n})/\Dt (Bh P X ρ (cur S es.obs) μ w) lvs cs/\lvs.flatMap A5= []
 | [],i,es,es',lvs,ls,xs,cs,h,_,_,_,b,_=>by
  unfold projs at h
  rw[Ad]at h
  obtain⟨rfl,rfl,rfl⟩:=h
  have:=b.len
  have:cs= []:=aT.1 (by simpa using this.2)
  subst this
  exact⟨⟨es.n,rfl⟩,trivial,rfl⟩
 | t::ts,i,es,es',lvs,ls,xs,cs,h,g,j,m,b,o=>by
  unfold projs at h
  simp only[Ab,Bi,Ad]at h
  obtain⟨_,_,_,_,⟨rfl,rfl,rfl⟩,⟨r,G,H,_,q,⟨rfl,rfl,rfl⟩,rfl⟩,rfl⟩:=h
  cases a:xs.drop i with
  | nil=>rw[a]at b;exact b.elim
  | cons y ys=>
   cases cs with
   | nil=>rw[a]at b;exact b.elim
   | cons c cs=>
    rw[a]at b
    obtain⟨vs,iv,r1,r2,z⟩:=LH.Bv g.left j
    obtain⟨u,d,rfl⟩:=Apf r1
    rw[m]at d;injection d with d;subst d
    have A:xs[i]?=some y:=by
     have:=congrArg (λl=>l[0]?) a
     simpa [aH]using this
    have e:ys=xs.drop (i+1):=by rw[<-bF,a];rfl
    simp only[Prim.ev,aJ,Zf]at r2
    rw[A]at r2;injection r2 with r2;subst r2
    obtain⟨⟨n,B⟩,C,E⟩:=Ale (es:= {es with n:=es.n+1}) q g.right.left j m (by rw[<-e];exact b.2) (λu F=>o u (aV _ F))
    refine⟨⟨n,B⟩,⟨⟨(b.1.one (o t aU)).1,_,z,b.1⟩,C⟩,?_⟩
    rw[aN,E];rfl
theorem I6 {vv:VV}{lvs:List LV}{v:Value}(h:Ev S (Mu P vv) es lvs es' ls)(r:LH R ρ ls)(y:holds ρ es.gs=some true)(o: ∀k∈Ax vv,K k)
  (e:K0 (Bh P X ρ (cur S es.obs) μ w) vv v):
  (∃n,es'= {es with n})/\Dt (Bh P X ρ (cur S es.obs) μ w) lvs v.cells.toList/\(∀k∈lvs.flatMap A5,K k):=by
 unfold Mu at h
 cases vv with
 | agg t cs=>
  rw[Ad]at h
  obtain⟨rfl,rfl,rfl⟩:=h
  obtain⟨us,rfl,z⟩:=e
  exact⟨⟨es.n,rfl⟩,z,o⟩
 | leaf l=>
  have lone:l≠ .junk ->(∀x t,l= .at x t->Ai P t=false)->Ev S (pure [l]:EM (List LV)) es lvs es' ls->
    (∃n,es'= {es with n})/\Dt (Bh P X ρ (cur S es.obs) μ w) lvs v.cells.toList/\(∀k∈lvs.flatMap A5,K k):=by
   intro A b h
   rw[Ad]at h
   obtain⟨rfl,rfl,rfl⟩:=h
   have d:=W2.one (c:=Bh P X ρ (cur S es.obs) μ w) e A b
   refine⟨⟨es.n,rfl⟩,?_,λk g=>o k (by simpa [Ax]using g)⟩
   rw[d.2]
   exact⟨⟨d.1,e⟩,trivial⟩
  cases l with
  | «at» x t=>
   simp only[Hr]at h
   rcases h with⟨b,h⟩ | ⟨b,h⟩
   ·simp only[Ab,Ao]at h
    obtain⟨ts,_,_,_,⟨d,rfl,rfl⟩,B,rfl⟩:=h
    obtain⟨iv,d1,d2⟩:=e
    obtain⟨j,xs,cs,C,rfl,rfl,E⟩:=d2.Abb b
    have a:leaves P t=some j:=C
    rw[d]at a;injection a with a;subst a
    obtain⟨F,G,H⟩:=Ale (xs:=xs) (cs:=cs.toList) B r y d1 (by rw[bM];exact E) (λu I=>by
     obtain⟨i,q⟩:=cL.1 I
     exact Eb d i u q)
    exact⟨F,G,λk g=>by rw[H]at g;simp at g⟩
   ·exact lone (by simp) (λJ L m=>by injection m with _ m;subst m;simpa using b) h
  | junk=>simp[Ac]at h
  | nil t=>exact lone (by simp) (by simp) h
  | ref k t=>exact lone (by simp) (by simp) h
  | sub k lo q t=>exact lone (by simp) (by simp) h
  | ptr p=>exact lone (by simp) (by simp) h
  | fn f M=>exact lone (by simp) (by simp) h
  | mref k t=>exact lone (by simp) (by simp) h
  | hid k=>exact lone (by simp) (by simp) h
  | cl x t=>exact lone (by simp) (by simp) h
  | st x t=>exact lone (by simp) (by simp) h
theorem Aen (cs:Array Value)(i n:Nat):(cs.extract i (i+n)).toList =(cs.toList.drop i).take n:=by
 simp[cO,dG]
theorem Am5 {t0 t:TypeId}{vv r:VV}{off:Nat}{v:Value}(h:Ev S (Aft P t0 vv off t) es r es' ls)(H:LH R ρ ls)(I:holds ρ es.gs=some true)(o: ∀k∈Ax vv,K k)
  (z:K0 (Bh P X ρ (cur S es.obs) μ w) vv v) (E:v.cells.size=Ag P t0) (J:if Ai P t0 then ∃cs,v= .agg cs else v.oneCell'=true):
  (∃n,es'= {es with n})/\K0 (Bh P X ρ (cur S es.obs) μ w) r (Nn P t v.cells off)/\(∀k∈Ax r,K k)/\
   (Ai P t=true->off+Ag P t<=v.cells.size)/\(Ai P t=false->off<v.cells.size):=by
 unfold Aft at h
 have onecells:v.oneCell'=true->v.cells= #[v]:=by intro h;cases v<;>simp_all[Value.cells,Value.oneCell']
 cases vv with
 | agg t' cs=>
  obtain⟨us,rfl,i⟩:=z
  simp only[Hr]at h
  rcases h with⟨j,h⟩ | ⟨j,h⟩
  ·simp only[Ab,Af,Ad]at h
   obtain⟨_,_,_,_,⟨e,rfl,rfl⟩,⟨rfl,rfl,rfl⟩,rfl⟩:=h
   simp only[decide_eq_true_eq]at e
   have hlen:=i.len
   refine⟨⟨es.n,rfl⟩,⟨us.extract off (off+Ag P t),by simp[Nn,j,Value.cells],?_⟩,λk g=>o k ?_,λ_=>?_,λh=>by simp[j]at h⟩
   ·rw[Aen];exact(i.drop off).take _
   ·simp only[Ax,aS]at g ⊢
    obtain⟨l,g,o⟩:=g
    exact⟨l,bT (bN g),o⟩
   ·simp only[Value.cells];rw[hlen]at e;simpa using e
  ·have d:Ai P t=false:=by simpa using j
   simp only[Ab,Ao,Ad]at h
   obtain⟨l,_,_,_,⟨e,rfl,rfl⟩,⟨rfl,rfl,rfl⟩,rfl⟩:=h
   have q:=(aG.1 e).1
   have hlen:=i.len
   have m:off<us.size:=by rw[hlen]at q;simpa using q
   refine⟨⟨es.n,rfl⟩,?_,λk g=>o k ?_,λh=>by simp[d]at h,λ_=>m⟩
   ·have:=(i.get off l us[off] e (by simp[m])).2
    show W2 _ l _
    simpa [Nn,d,Value.cells,dD,m]using this
   ·simp only[Ax,aS]at g ⊢
    exact⟨l,bL e,g⟩
 | leaf l=>
  have lone:l≠ .junk \/v.oneCell'=true->(∀x u,l≠ .at x u)->Ev S (do
    EM.guard (off == 0&& !Ai P t)
    pure (.leaf l):EM VV) es r es' ls->v.oneCell'=true->
    (∃n,es'= {es with n})/\K0 (Bh P X ρ (cur S es.obs) μ w) r (Nn P t v.cells off)/\(∀k∈Ax r,K k)/\
     (Ai P t=true->off+Ag P t<=v.cells.size)/\(Ai P t=false->off<v.cells.size):=by
   intro _ _ h L
   simp only[Ab,Af,Ad]at h
   obtain⟨_,_,_,_,⟨e,rfl,rfl⟩,⟨rfl,rfl,rfl⟩,rfl⟩:=h
   simp only[aC,beq_iff_eq,bQ]at e
   obtain⟨rfl,d⟩:=e
   have i:=onecells L
   refine⟨⟨es.n,rfl⟩,?_,o,λh=>by simp[d]at h,λ_=>by rw[i];simp⟩
   have:Nn P t v.cells 0=v:=by rw[i];simp[Nn,d]
   rw[this];exact z
  have a: ∀ (_:l≠ .junk) (_: ∀x u,l≠ .at x u),v.oneCell'=true:=λM B=>(W2.one (c:=Bh P X ρ (cur S es.obs) μ w) z M (λx u N=>absurd N (B x u))).1
  cases l with
  | «at» x F=>
   simp only[Ab,Af]at h
   obtain⟨_,_,_,_,⟨Q,rfl,rfl⟩,h,rfl⟩:=h
   have:F=t0:=by simpa using Q
   subst this
   obtain⟨iv,d1,d2⟩:=z
   simp only[Hr]at h
   rcases h with⟨j,h⟩ | ⟨j,h⟩
   ·rcases h with⟨i,h⟩ | ⟨i,h⟩
    ·rw[Ad]at h
     obtain⟨rfl,rfl,rfl⟩:=h
     simp only[aC,beq_iff_eq]at i
     obtain⟨rfl,rfl⟩:=i
     refine⟨⟨es.n,rfl⟩,?_,λk g=>by simp[Ax,A5]at g,λ_=>by omega,λh=>by simp[j]at h⟩
     have d2:Rel P w (λb=>X b\/Wr (cur S es.obs) μ b) t iv v:=d2
     rw[Rel.Y7 d2 E]
     exact⟨iv,d1,d2⟩
    ·simp only[Ab,Af,Bi,Ad]at h
     obtain⟨_,_,_,_,⟨e,rfl,rfl⟩,⟨_,_,_,_,⟨rfl,rfl,rfl⟩,⟨rfl,rfl,rfl⟩,rfl⟩,rfl⟩:=h
     obtain⟨vs,y,r1,r2,T⟩:=LH.Bv H.right.left I
     obtain⟨u,A,rfl⟩:=Apf r1
     have C:x.ev ρ=some iv:=d1
     rw[C]at A;injection A with A;subst A
     obtain⟨U,Y,G⟩:=Rel.Nn d2 j e r2
     exact⟨⟨es.n+1,rfl⟩,⟨y,T,U⟩,λk g=>by simp[Ax,A5]at g,λ_=>G,λ_=>by
      have Z:0<Ag P t:=Y
      have aa:off+Ag P t<=v.cells.size:=G
      omega⟩
   ·have d:Ai P F=false:=by simpa using j
    simp only[Ab,Af,Ad]at h
    obtain⟨_,_,_,_,⟨e,rfl,rfl⟩,⟨rfl,rfl,rfl⟩,rfl⟩:=h
    simp only[aC,beq_iff_eq]at e
    obtain⟨rfl,rfl⟩:=e
    refine⟨⟨es.n,rfl⟩,?_,λk g=>by simp[Ax,A5]at g,λh=>by simp[d]at h,λ_=>by rw[(d2.one d).2];simp⟩
    have d2:Rel P w (λb=>X b\/Wr (cur S es.obs) μ b) t iv v:=d2
    rw[Rel.Y7 d2 E]
    exact⟨iv,d1,d2⟩
  | junk=>simp[Ac]at h
  | nil t=>exact lone (.inl (by simp)) (by simp) h (a (by simp) (by simp))
  | ref k t=>exact lone (.inl (by simp)) (by simp) h (a (by simp) (by simp))
  | sub k lo hi t=>exact lone (.inl (by simp)) (by simp) h (a (by simp) (by simp))
  | ptr p=>exact lone (.inl (by simp)) (by simp) h (a (by simp) (by simp))
  | fn f ps=>exact lone (.inl (by simp)) (by simp) h (a (by simp) (by simp))
  | mref k t=>exact lone (.inl (by simp)) (by simp) h (a (by simp) (by simp))
  | hid k=>exact lone (.inl (by simp)) (by simp) h (a (by simp) (by simp))
  | cl x t=>exact lone (.inl (by simp)) (by simp) h (a (by simp) (by simp))
  | st x t=>exact lone (.inl (by simp)) (by simp) h (a (by simp) (by simp))
end
end Go.CT
namespace Go.CT
open EM
theorem Abf {w:World}{b:Nat}{v:Value}{t:TypeId}{fr:Nat × Nat}(h:w.heap[b]?=some (.cells v.cells t fr)):D1 w ⟨b,0,none⟩ v v.cells.size:=by
 refine⟨rfl,λi u c=>?_⟩
 have a:(⟨b,0,none⟩:Addr).add i=⟨b,i,none⟩:=by unfold Addr.add;split<;>simp_all
 rw[a]
 simp[World.cell?,h,c]
theorem Ag2.at_ {P:Program}{w:World}{O:Nat->Prop}{e:TypeId}{xs:List IV}{A:Option Addr}{c:Nat}(h:Ag2 P w O e xs A c){j:Nat}{x:IV}(a:xs[j]?=some x):
  ∃ad v,A=some ad/\0<Ag P e/\D1 w (ad.add (j * Ag P e)) v (Ag P e)/\Rel P w O e x v:=by
 obtain⟨o,q,vs,b,d⟩:=h
 have g:=(aG.1 a).1
 obtain⟨i,ad,rfl,m⟩:=b (by omega)
 exact⟨ad,vs j,rfl,i,m j g,d j x a⟩
theorem Rel.A44 {P:Program}{w:World}{O:Nat->Prop}{t:TypeId}{x:IV}{v:Value}(h:Rel P w O t x v):if Ai P t then ∃cs,v= .agg cs else v.oneCell'=true:=by
 by_cases b:Ai P t=true
 ·simp only[b,Zt]
  obtain⟨_,_,cs,_,_,rfl,_⟩:=h.It b
  exact⟨cs,rfl⟩
 ·have a:Ai P t=false:=by simpa using b
  simp only[a,aJ,Zf]
  exact(h.one a).1
theorem N0 {ρ:List IV}{c i:Arg}{xs:List IV}{j:Int}{vs:List IV}{y:IV}(e:c.ev ρ=some (.list xs))(g:i.ev ρ=some (.int j))(h:Arg.evs ρ [c,i]=some vs)(a:Prim.ev .index vs=some y):
  0<=j/\xs[j.toNat]?=some y:=by
 obtain⟨u,v,b,d,rfl⟩:=Ab8 h
 rw[e]at b;rw[g]at d
 injection b with b;injection d with d
 subst b;subst d
 simp only[Prim.ev]at a
 split at a
 ·exact⟨by assumption,a⟩
 ·cases a
section
variable {P:Program}{N:Nat}{X:Nat->Prop}{R:Job->List IV->Option (List IV)}{ρ:List IV}{K:Nat->Prop}{S:View}{μ:Nat->Value}{a:Act}{w:World}{es es':ES}{ls:List PLt}{sx:SX}
theorem Ai6 {p:PV}{t:TypeId}{r:VV}{v:Value}(G:Good P N X ρ K S.tm (cur S es.obs) μ a w)(h:Ev S (Atj P p t) es r es' ls)(q:LH R ρ ls)(Y:holds ρ es.gs=some true)
  (hp:Ab7 (Bh P X ρ (cur S es.obs) μ w) p v):
  ∃u,(Instr.loadAt t v).run P w= .ok u w/\(∃n,es'= {es with n})/\K0 (Bh P X ρ (cur S es.obs) μ w) r u/\ ∀k∈Ax r,K k:=by
 unfold Atj at h
 rw[Ab]at h
 obtain⟨_,_,_,_,Z,h,rfl⟩:=h
 rw[Af]at Z
 obtain⟨g0,rfl,rfl⟩:=Z
 have q:=q.right
 obtain⟨d,hd⟩:=aF.1 g0
 -- the last step is alike
 have fin: ∀ {ad:Addr} {u:Value} {off sz:Nat} {t0:TypeId} {vv:VV} {e1:ES} {E:List PLt},(∃n,e1= {es with n})->D1 w ad u sz->sz=Ag P t0->v= .pointer (some (ad.add off))->
   Ev S (Aft P t0 vv off t) e1 r es' E->LH R ρ E->(∀k∈Ax vv,K k)->K0 (Bh P X ρ (cur S es.obs) μ w) vv u->(if Ai P t0 then ∃cs,u= .agg cs else u.oneCell'=true)->
   ∃u,(Instr.loadAt t v).run P w= .ok u w/\(∃n,es'= {es with n})/\K0 (Bh P X ρ (cur S es.obs) μ w) r u/\ ∀k∈Ax r,K k:=by
  intro ad u off sz t0 vv e1 E he B F hv h q hk hr ha
  obtain⟨n,rfl⟩:=he
  obtain⟨⟨n',hn⟩,H,I,J,q4⟩:=Am5 (es:= {es with n}) h q Y hk hr (by rw[B.1,F]) ha
  refine⟨Nn P t u.cells off,?_,⟨n',hn⟩,H,I⟩
  subst hv
  unfold Instr.loadAt Instr.sureAddr
  simp only[Sem.run_bind,Sem.run_pure,Result.andThen_ok]
  exact Tc hd B (by rw[<-B.1];exact J) (by rw[<-B.1];exact q4)
 cases p with
 | p k off=>
  simp only[Ab,Bp]at h
  obtain⟨o,_,_,l2,⟨C,rfl,rfl⟩,h,rfl⟩:=h
  cases o with
  | box t0 vv=>
   obtain⟨b,u,h1,h2,h3,h4,h5,h6⟩:=G.obj k _ C
   obtain⟨b',L,z⟩:=hp
   have hb:b'=b:=by
    have M:μ k= .pointer (some ⟨b,0,none⟩):=h1
    have m:μ k= .pointer (some ⟨b',0,none⟩):=L
    rw[M]at m;injection m with m;injection m with m;injection m with m;exact m.symm
   subst hb
   exact fin ⟨es.n,rfl⟩ (Abf h2) h3 z h q ((G.ko k _ C).2) h6 h4
  | arr=>simp[Ac]at h
  | frz=>simp[Ac]at h
  | iter=>simp[Ac]at h
  | mp=>simp[Ac]at h
 | el k e i off=>
  simp only[Ab,Bp]at h
  obtain⟨o,_,_,l2,⟨C,rfl,rfl⟩,h,rfl⟩:=h
  cases o with
  | box=>simp[Ac]at h
  | arr e' tt c=>
   simp only[Ab,Af,Bi]at h
   obtain⟨_,_,_,_,⟨g1,rfl,rfl⟩,⟨_,_,_,_,⟨rfl,rfl,rfl⟩,h,rfl⟩,rfl⟩:=h
   have:e=e':=by simpa using g1
   subst this
   obtain⟨ivs,A,cap,H,I,J,q4,q5⟩:=G.Apl C
   obtain⟨g,n,cap',j,L,z,p3,p4⟩:=hp
   have m:μ k= .slice (some ⟨g,0,none⟩) n cap':=L
   rw[I]at m;injection m with i1 i2 i3
   subst i1;subst i2;subst i3
   obtain⟨vs,y,r1,r2,r3⟩:=LH.Bv q.right.left Y
   obtain⟨_,s1⟩:=N0 H z r1 r2
   obtain⟨ad,u,Q,t2,t3,t4⟩:=J.at_ s1
   injection Q with Q;subst Q
   have T:D1 w ((⟨g,0,none⟩:Addr).add (j * Ag P e)) u (Ag P e):=by simpa using t3
   refine fin (e1:= {es with n:=es.n+1}) ⟨es.n+1,rfl⟩ T rfl ?_ h q.right.right (λk U=>by simp[Ax,A5]at U) ⟨y,r3,t4⟩ t4.A44
   rw[Ds];exact p4
  | frz=>simp[Ac]at h
  | iter=>simp[Ac]at h
  | mp=>simp[Ac]at h
 | im x t0 off=>
  obtain⟨ad,u,⟨iv,d1,d2⟩,z,p3,p4,p5⟩:=hp
  exact fin ⟨es.n,rfl⟩ z rfl p5 h q (λk U=>by simp[Ax,A5]at U) ⟨iv,d1,d2⟩ d2.A44
theorem Amn {vv:VV}{p:PV}(h:Ev S (U8 vv) es p es' ls):es=es'/\ls= []/\vv= .leaf (.ptr p):=by
 unfold U8 at h
 split at h
 ·rw[Ad]at h;obtain⟨rfl,rfl,rfl⟩:=h;exact⟨rfl,rfl,rfl⟩
 ·simp[Ac]at h
theorem Qk {x:Operand}{t:TypeId}{vv:VV}{p:PV}{e1 b:ES}{c d:List PLt}(G:Good P N X ρ K S.tm (cur S es.obs) μ a w)(e:Ev S (rd1 P x t) es vv e1 c)(g:Ev S (U8 vv) e1 p b d)(h:holds ρ es.gs=some true):
  es=b/\c= []/\d= []/\Ab7 (Bh P X ρ (cur S es.obs) μ w) p (a.eval x)/\ ∀k∈Di p,K k:=by
 obtain⟨rfl,rfl,i,j⟩:=E1 G e h
 obtain⟨rfl,rfl,rfl⟩:=Amn g
 exact⟨rfl,rfl,rfl,i,j⟩
theorem Axw {t:TypeId}{x:Operand}(G:Good P N X ρ K S.tm (cur S es.obs) μ a w)(h:Ev S (do
   let p <-U8 (<-rd1 P x 0)
   pure (.one (<-Atj P p t)):EM SX) es sx es' ls) (c:LH R ρ ls) (b:holds ρ es.gs=some true):
  ∃v,(Instr.loadAt t (a.eval x)).run P w= .ok v w/\Out P N X ρ K S μ a w es es' sx μ w v:=by
 rw[Ab]at h
 obtain⟨vv,e1,o,_,d,h,rfl⟩:=h
 rw[Ab]at h
 obtain⟨p,q,y,_,e,h,rfl⟩:=h
 obtain⟨rfl,rfl,rfl,hp,z⟩:=Qk G d e b
 rw[Ab]at h
 obtain⟨r,A,B,_,g,h,rfl⟩:=h
 rw[Ad]at h
 obtain⟨rfl,rfl,rfl⟩:=h
 obtain⟨u,i,⟨n,rfl⟩,j,m⟩:=Ai6 G g c.right.right.left b hp
 exact⟨u,i,Ph.out (es':= {es with n}) (.same G rfl rfl rfl) j m⟩
theorem Ab7.plus {c:Cx}{p:PV}{v:Value}{o:Nat}(h:Ab7 c p v): ∃ad,v= .pointer (some ad)/\Ab7 c (p.plus o) (.pointer (some (ad.add o))):=by
 cases p with
 | p k off=>
  obtain⟨b,a,rfl⟩:=h
  exact⟨_,rfl,b,a,by rw[Ds]⟩
 | el k e i off=>
  obtain⟨g,n,cap,j,a,d,m,rfl⟩:=h
  exact⟨_,rfl,g,n,cap,j,a,d,m,by rw[Ds,cT]⟩
 | im x t off=>
  obtain⟨ad,u,a,d,m,q,rfl⟩:=h
  exact⟨_,rfl,ad,u,a,d,m,q,by rw[Ds]⟩
theorem Aca (p:PV)(o:Nat):Di (p.plus o)=Di p:=by cases p<;>rfl
theorem Abu {s:TypeId}{x:Operand}{f:Nat}(G:Good P N X ρ K S.tm (cur S es.obs) μ a w)(h:Ev S (do
   let p <-U8 (<-rd1 P x 0)
   match P.underlying s with
   | some (.struct fs)=>do
    let fl <-ofOption fs[f]?
    EM.guard (decide (0<Ag P fl.type))
    pure (one (.leaf (.ptr (p.plus fl.offset))))
   | _=>fail:EM SX) es sx es' ls) (e:holds ρ es.gs=some true):
  ∃v,(Instr.fieldAt s (a.eval x) f).run P w= .ok v w/\Out P N X ρ K S μ a w es es' sx μ w v:=by
 rw[Ab]at h
 obtain⟨vv,e1,z,_,g,h,rfl⟩:=h
 rw[Ab]at h
 obtain⟨p,A,B,_,j,h,rfl⟩:=h
 obtain⟨rfl,rfl,rfl,hp,m⟩:=Qk G g j e
 split at h
 ·rename_i fs q
  simp only[Ab,Ao,Af,Ad]at h
  obtain⟨fl,_,_,_,⟨r,rfl,rfl⟩,⟨_,_,_,_,⟨d,rfl,rfl⟩,⟨rfl,rfl,rfl⟩,rfl⟩,rfl⟩:=h
  simp only[decide_eq_true_eq]at d
  obtain⟨ad,t,b⟩:=hp.plus (o:=fl.offset)
  obtain⟨i,u⟩:=D8 d
  refine⟨_,?_,Ph.out (.refl G) b (λk y=>m k ?_)⟩
  ·rw[t]
   have c:Ag P fl.type≠0:=by omega
   simp[Instr.fieldAt,underlying,q,r,Instr.sureAddr,fieldPlace,run_sizeOf u,c]
  ·simpa [Ca,Ax,A5,one,Aca]using y
 ·simp[Ac]at h
theorem Eh.get {c:Cx} : ∀ {ls:List VV} {vs:List Value},Eh c ls vs-> ∀ (i:Nat) (l:VV),ls[i]?=some l-> ∃v,vs[i]?=some v/\K0 c l v
 | [],[],_=>by simp
 | l::ls,v::vs,h=>by
  intro i b a
  cases i with
  | zero=>simp at a;subst a;exact⟨v,rfl,h.1⟩
  | succ i=>
   obtain⟨d,e,g⟩:=Eh.get h.2 i b (by simpa using a)
   exact⟨d,by simpa using e,g⟩
 | [],_::_,h=>h.elim
 | _::_,[],h=>h.elim
theorem Ade {x:Operand}{o:Oper}(e:o.op= .nilCheck x)(G:Good P N X ρ K S.tm (cur S es.obs) μ a w)(h:Ev S (do
   match <-rd1 P x 0 with
   | .leaf (.ptr p)=>pure (one (.leaf (.ptr p)))
   | .leaf (.fn f c)=>pure (one (.leaf (.fn f c)))
   | _=>fail:EM SX) es sx es' ls) (i:holds ρ es.gs=some true):
  ∃v,(execOp a.eval o).run P w= .ok (.value v) w/\Out P N X ρ K S μ a w es es' sx μ w v:=by
 rw[Ab]at h
 obtain⟨vv,e1,m,_,j,h,rfl⟩:=h
 obtain⟨rfl,rfl,b,g⟩:=E1 G j i
 split at h
 ·rename_i p
  rw[Ad]at h
  obtain⟨rfl,rfl,rfl⟩:=h
  refine⟨a.eval x,?_,Ph.out (.refl G) b g⟩
  obtain⟨ad,d,_⟩:=Ab7.plus (o:=0) b
  unfold execOp
  simp only[e,d]
  rfl
 ·rename_i f c
  rw[Ad]at h
  obtain⟨rfl,rfl,rfl⟩:=h
  refine⟨a.eval x,?_,Ph.out (.refl G) b g⟩
  obtain⟨vs,d,_⟩:=b
  unfold execOp
  simp only[e,d]
  rfl
 ·simp[Ac]at h
theorem Acs: ∀ {xs:List Operand} {es es':ES} {b:List PV} {ls:List PLt},Good P N X ρ K S.tm (cur S es.obs) μ a w->Ev S (Y0 P xs) es b es' ls->holds ρ es.gs=some true->
  es=es'/\ls= []/\Mk (Bh P X ρ (cur S es.obs) μ w) b (xs.map a.eval)/\ ∀k∈b.flatMap Di,K k
 | [],es,es',b,ls,G,h,d=>by
  unfold Y0 at h
  rw[Ad]at h
  obtain⟨rfl,rfl,rfl⟩:=h
  exact⟨rfl,rfl,trivial,λk c=>by simp at c⟩
 | x::xs,es,es',b,ls,G,h,d=>by
  unfold Y0 at h
  rw[Ab]at h
  obtain⟨vv,e1,q,_,e,h,rfl⟩:=h
  rw[Ab]at h
  obtain⟨p,r,t,_,g,h,rfl⟩:=h
  obtain⟨rfl,rfl,rfl,hp,i⟩:=Qk G e g d
  simp only[Ab,Ad]at h
  obtain⟨qs,u,y,_,j,⟨rfl,rfl,rfl⟩,rfl⟩:=h
  obtain⟨rfl,rfl,m,o⟩:=Acs G j d
  refine⟨rfl,rfl,⟨hp,m⟩,λk c=>?_⟩
  rw[aN]at c
  exact(bV.1 c).elim (i k) (o k)
theorem Adv {f:FuncId}{first caps:Array Operand}(G:Good P N X ρ K S.tm (cur S es.obs) μ a w)(h:Ev S (do
   EM.guard first.isEmpty
   pure (one (.leaf (.fn f (<-Y0 P caps.toList)))):EM SX) es sx es' ls) (c:holds ρ es.gs=some true):
  ∃v,(Instr.makeFunc (.func f) (first.map a.eval) (caps.map a.eval)).run P w= .ok v w/\Out P N X ρ K S μ a w es es' sx μ w v:=by
 rw[Ab]at h
 obtain⟨_,_,_,_,b,h,rfl⟩:=h
 rw[Af]at b
 obtain⟨d,rfl,rfl⟩:=b
 simp only[Ab,Ad]at h
 obtain⟨o,q,r,_,e,⟨rfl,rfl,rfl⟩,rfl⟩:=h
 obtain⟨rfl,rfl,g,i⟩:=Acs G e c
 have j:first= #[]:=by simpa using d
 subst j
 exact⟨.func (.func f) #[] (caps.map a.eval),by simp[Instr.makeFunc],Ph.out (.refl G) ⟨_,rfl,by simpa using g⟩ (λk m=>i k (by simpa [Ca,Ax,A5,one]using m))⟩
theorem Arj {s:TypeId}{x:Operand}{f:Nat}(G:Good P N X ρ K S.tm (cur S es.obs) μ a w)(h:Ev S (do
   let v <-rd1 P x s
   match P.underlying s with
   | some (.struct fs)=>do
    let fl <-ofOption fs[f]?
    EM.guard ((P.underlying fl.type).isSome &&U0 P s v)
    pure (.one (<-Aft P s v fl.offset fl.type))
   | _=>fail:EM SX) es sx es' ls) (H:LH R ρ ls) (E:holds ρ es.gs=some true):
  ∃v,(Instr.field s (a.eval x) f).run P w= .ok v w/\Out P N X ρ K S μ a w es es' sx μ w v:=by
 rw[Ab]at h
 obtain⟨vv,e1,l1,_,I,h,rfl⟩:=h
 obtain⟨rfl,rfl,o,J⟩:=E1 G I E
 split at h
 ·rename_i fs L
  rw[Ab]at h
  obtain⟨fl,_,_,_,e,h,rfl⟩:=h
  rw[Ao]at e
  obtain⟨M,rfl,rfl⟩:=e
  rw[Ab]at h
  obtain⟨_,_,_,_,e,h,rfl⟩:=h
  rw[Af]at e
  obtain⟨q,rfl,rfl⟩:=e
  simp only[aC]at q
  obtain⟨d,hd⟩:=aF.1 q.1
  simp only[Ab,Ad]at h
  obtain⟨r,e2,l2,_,Q,⟨rfl,rfl,rfl⟩,rfl⟩:=h
  have hwhole:Ai P s=true/\ ∃cs,a.eval x= .agg cs/\cs.size=Ag P s:=by
   have g:=q.2
   cases vv with
   | agg t cs=>
    simp only[U0,aC,beq_iff_eq]at g
    obtain⟨us,u,T⟩:=o
    have:=T.len
    exact⟨g.1,us,u,by rw[<-g.2,this];simp⟩
   | leaf l=>
    cases l with
    | «at» y t=>
     simp only[U0,aC,beq_iff_eq]at g
     obtain⟨⟨ga,rfl⟩,gl⟩:=g
     obtain⟨iv,d1,d2⟩:=o
     obtain⟨ts,xs,cs,m,_,u,z⟩:=d2.Abb ga
     have A:leaves P s=some ts:=m
     rw[A]at gl
     have:=z.len.2
     simp only[beq_iff_eq]at gl
     exact⟨ga,cs,u,by rw[<-gl,<-this];simp⟩
    | _=>simp[U0]at g
  obtain⟨U,cs,b,B⟩:=hwhole
  obtain⟨⟨n,Y⟩,m,z,Z,F⟩:=Am5 Q H.right.right.right.left E J o (by rw[b];exact B) (by simp only[U,Zt];exact⟨cs,b⟩)
  subst Y
  refine⟨Nn P fl.type cs fl.offset,?_,Ph.out (es':= {es with n:=n}) (.same G rfl rfl rfl) (by rw[b]at m;exact m) z⟩
  rw[b]
  rw[b]at Z F
  simp only[Instr.field,underlying,Sem.run_bind,run_program,Result.andThen_ok,L,Sem.run_pure,M,asAgg]
  unfold part Nn
  obtain⟨i,hi⟩:=Ew hd
  by_cases j:Ai P fl.type=true
  ·simp[Mr hd,j,run_sizeOf hi]
  ·have c:Ai P fl.type=false:=by simpa using j
   have C:fl.offset<cs.size:=F c
   simp[Mr hd,c,C,dD]
 ·simp[Ac]at h
theorem Aod {t rt:TypeId}{x i:Operand}(G:Good P N X ρ K S.tm (cur S es.obs) μ a w)(h:Ev S (do
   EM.guard (isStr P t&&Kp P rt == some .u8)
   let b <-H0 P x t
   let iv <-Adl P i
   pure (dat (<-Bv .C8 [b,iv]) rt):EM SX) es sx es' ls) (e:LH R ρ ls) (z:holds ρ es.gs=some true):
  ∃v,(Instr.index t (a.eval x) (a.eval i)).run P w= .ok v w/\Out P N X ρ K S μ a w es es' sx μ w v:=by
 rw[Ab]at h
 obtain⟨_,_,_,_,g,h,rfl⟩:=h
 rw[Af]at g
 obtain⟨j,rfl,rfl⟩:=g
 simp only[aC,beq_iff_eq]at j
 rw[Ab]at h
 obtain⟨b,e1,L,_,A,h,rfl⟩:=h
 obtain⟨p,B⟩:=E9 G A e.right.left z
 have d:holds ρ e1.gs=some true:=by rw[p.gs];exact z
 have e:=e.right.right
 rw[Ab]at h
 obtain⟨iv,M,Q,_,C,h,rfl⟩:=h
 obtain⟨rfl,rfl,n,k,E,F⟩:=Qy p.Cj C d
 simp only[Ab,Bi,Ad]at h
 obtain⟨_,_,_,_,⟨rfl,rfl,rfl⟩,⟨rfl,rfl,rfl⟩,rfl⟩:=h
 obtain⟨s,H,q⟩:=B.str (D4 j.1)
 have r:b.ev ρ=some (.str s):=H
 obtain⟨vs,y,r1,r2,I⟩:=LH.Bv e.right.left d
 obtain⟨u,v,m,o,rfl⟩:=Ab8 r1
 rw[r]at m;rw[E]at o
 injection m with m;injection o with o;subst m;subst o
 simp only[Prim.ev]at r2
 split at r2
 ·rename_i g
  simp only[aP]at r2
  obtain⟨c,J,rfl⟩:=r2
  refine⟨_,?_,Dd p I (.int (Cp j.2))⟩
  rw[q,F]
  simp[Instr.index,asIntOf,underlying,D4 j.1,g,J]
 ·cases r2
end
end Go.CT
namespace Go.CT
open EM
section
variable {P:Program}{w:World}
theorem run_sliceBound {k:IntKind}{n:Int}{y:Nat}{code:BoundsCode}(a:0<=n)(b:n<=y):(Instr.sliceBound (.int k n) y code).run P w= .ok n.toNat w:=by
 simp[Instr.sliceBound,asIntOf,a,b]
def Ix (o:Option Value)(d n:Nat):Prop:=(o=none/\n=d)\/ ∃k:IntKind,o=some (.int k n)
theorem Y8 {isS:Bool}{len cap l h:Nat}{lo d:Option Value}(a:Ix lo 0 l)(b:Ix d len h)(e:l<=h)(g:h<=cap):
  (Instr.sliceBounds isS len cap lo d none).run P w= .ok (l,h,cap) w:=by
 unfold Instr.sliceBounds
 rcases b with⟨rfl,rfl⟩ | ⟨k,rfl⟩
 ·rcases a with⟨rfl,rfl⟩ | ⟨c,rfl⟩
  ·simp
  ·simp[run_sliceBound (P:=P) (w:=w) (k:=c) (n:=(l:Int)) (y:=h) (bI _) (by omega)]
 ·rcases a with⟨rfl,rfl⟩ | ⟨c,rfl⟩
  ·simp[run_sliceBound (P:=P) (w:=w) (k:=k) (n:=(h:Int)) (y:=cap) (bI _) (by omega)]
  ·simp[run_sliceBound (P:=P) (w:=w) (k:=k) (n:=(h:Int)) (y:=cap) (bI _) (by omega),
    run_sliceBound (P:=P) (w:=w) (k:=c) (n:=(l:Int)) (y:=h) (bI _) (by omega)]
theorem Hu {t e:TypeId}{A:Option Addr}{n cap l h:Nat}{lo g:Option Value}(j:P.underlying t=some (.slice e))(m:0<Ag P e)(a:Ix lo 0 l)(b:Ix g n h)(c:l<=h)(o:h<=cap):
  (Instr.sliceAt t (.slice A n cap) lo g none).run P w= .ok (.slice (if cap=l then A else A.map (·.add (l * Ag P e))) (h - l) (cap - l)) w:=by
 obtain⟨i,d⟩:=D8 m
 unfold Instr.sliceAt Instr.slice
 simp only[underlying,Sem.run_bind,run_program,Result.andThen_ok,j,Sem.run_pure]
 rw[Y8 a b c o]
 simp[run_sizeOf d]
theorem run_slice_string {t:TypeId}{s:ByteArray}{l h:Nat}{lo d:Option Value}(e:P.underlying t=some .string)(a:Ix lo 0 l)(b:Ix d s.size h)(c:l<=h)(g:h<=s.size):
  (Instr.sliceAt t (.string s) lo d none).run P w= .ok (.string (s.extract l h)) w:=by
 unfold Instr.sliceAt Instr.slice
 simp only[underlying,Sem.run_bind,run_program,Result.andThen_ok,e,Sem.run_pure]
 simp[Y8 (P:=P) (w:=w) (isS:=false) a b c g]
end
section
variable {P:Program}{N:Nat}{X:Nat->Prop}{R:Job->List IV->Option (List IV)}{ρ:List IV}{K:Nat->Prop}{S:View}{μ:Nat->Value}{a:Act}{w:World}{es es':ES}{ls:List PLt}{sx:SX}
theorem Row.im {e:TypeId}{_c x:Arg}{xs:List IV}{A:Option Addr}{cap j:Nat}{y:IV}{cx:Cx}(a:Row cx.P cx.w cx.O e xs A cap)(c:xs[j]?=some y)(d:x.ev cx.ρ=some y)(g:0<Ag cx.P e)(i: ∀b,cx.W b->cx.O b):
  ∃ad,A=some ad/\Ab7 cx (.im x e 0) (.pointer (some (ad.add (j * Ag cx.P e)))):=by
 obtain⟨ad,u,m,o,q,r⟩:=a.at_ c
 refine⟨ad,m,_,u,⟨y,d,r⟩,q,g,?_,by rw[A6]⟩
 rw[Dm]
 exact λh=>o (i _ h)
theorem run_indexAt_slice {t e:TypeId}{A:Option Addr}{ad:Addr}{n cap:Nat}{k:IntKind}{j:Int}(a:P.underlying t=some (.slice e))(b:0<Ag P e)(c:A=some ad)(d:0<=j)(g:j<n):
  (Instr.indexAt t (.slice A n cap) (.int k j)).run P w= .ok (.pointer (some (ad.add (j.toNat * Ag P e)))) w:=by
 obtain⟨i,h⟩:=D8 b
 subst c
 simp[Instr.indexAt,asIntOf,underlying,a,d,g,run_sizeOf h]
theorem toNat_lt {xs:List IV}{j:Int}{y:IV}(a:0<=j)(h:xs[j.toNat]?=some y):j<xs.length:=by
 have:=(aG.1 h).1
 omega
theorem Aaw {t:TypeId}{x i:Operand}(G:Good P N X ρ K S.tm (cur S es.obs) μ a w)(h:Ev S (Rq P t x i) es sx es' ls)(q:LH R ρ ls)(F:holds ρ es.gs=some true):
  ∃v,(Instr.indexAt t (a.eval x) (a.eval i)).run P w= .ok v w/\Out P N X ρ K S μ a w es es' sx μ w v:=by
 unfold Rq at h
 rw[Ab]at h
 obtain⟨xv,e1,l1,_,h1,h,rfl⟩:=h
 obtain⟨rfl,rfl,h3,h4⟩:=E1 G h1 F
 have q:=q.right
 split at h
 ·rename_i e H
  rw[Ab]at h
  obtain⟨_,_,_,_,h0,h,rfl⟩:=h
  rw[Af]at h0
  obtain⟨I,rfl,rfl⟩:=h0
  simp only[decide_eq_true_eq]at I
  rw[Ab]at h
  obtain⟨iv,e2,l2,_,h2,h,rfl⟩:=h
  obtain⟨rfl,rfl,j,k,T,hi⟩:=Qy G h2 F
  have q:=q.right.right
  rw[hi]
  -- the arm for data
  have data: ∀ {l:LV} {C:ES} {L:List PLt} {c:Arg},K0 (Bh P X ρ (cur S es.obs) μ w) (.leaf l) (a.eval x)->Ev S (Da P true t l) es c C L->LH R ρ L->
    ∀ {U:List PLt},Ev S (do pure (one (.leaf (.ptr (.im (<-Bv .index [c,iv]) e 0)))):EM SX) C sx es' U->LH R ρ U->
    ∃v,(Instr.indexAt t (a.eval x) (.int k j)).run P w= .ok v w/\Out P N X ρ K S μ a w es es' sx μ w v:=by
   intro l C L c r hd aa U h ab
   obtain⟨p,_,hD⟩:=G5 G hd aa F r
   obtain⟨z,d1,d2⟩:=hD rfl
   obtain⟨xs,A,cap,rfl,hx,d⟩:=d2.Cl H
   simp only[Ab,Bi,Ad]at h
   obtain⟨_,_,_,_,⟨rfl,rfl,rfl⟩,⟨rfl,rfl,rfl⟩,rfl⟩:=h
   obtain⟨vs,y,r1,r2,Y⟩:=LH.Bv ab.left (by rw[p.gs];exact F)
   obtain⟨E,J⟩:=N0 d1 T r1 r2
   obtain⟨ad,hA,hp⟩:=Row.im (_c:=c) (cx:=Bh P X ρ (cur S C.obs) μ w) d J Y I (λb hb=> .inr hb)
   rw[hx]
   exact⟨_,run_indexAt_slice H I hA E (toNat_lt E J),Ph.out (es':= {C with n:=C.n+1}) ⟨p.Cj,p.Dv,p.m,p.gs⟩ hp (λk u=>by simp[Ca,Ax,A5,Di,one]at u)⟩
  split at h
  ·rename_i M t0
   obtain⟨r,_⟩:=h3
   have r:a.eval x=μ M:=r
   rw[Ab]at h
   obtain⟨o,_,_,L,Q,h,rfl⟩:=h
   rw[Bp]at Q
   obtain⟨Q,rfl,rfl⟩:=Q
   have q:=q.right
   cases o with
   | box=>simp[Ac]at h
   | iter=>simp[Ac]at h
   | mp=>simp[Ac]at h
   | arr e' tt c=>
    simp only[Ab,Af,Bi,Ad]at h
    obtain⟨_,_,_,_,⟨B,rfl,rfl⟩,⟨_,_,_,_,⟨rfl,rfl,rfl⟩,⟨rfl,rfl,rfl⟩,rfl⟩,rfl⟩:=h
    have:e=e':=by simpa using B
    subst this
    obtain⟨ivs,cs,E,J,q3,Z,q5,q6⟩:=G.obj M _ Q
    obtain⟨vs,y,r1,r2,Y⟩:=LH.Bv q.right.left F
    obtain⟨s1,s2⟩:=N0 E T r1 r2
    have ac:=toNat_lt s1 s2
    obtain⟨_,Z⟩:=Z
    rcases Z with⟨_,Z⟩ | ⟨g,cap,cu,e1,_⟩
    ·omega
    ·have ae:μ M= .slice (some ⟨g,0,none⟩) ivs.length cap:=e1
     rw[r,ae]
     refine⟨_,run_indexAt_slice H I rfl s1 ac,Ph.out (es':= {es with n:=es.n+1}) (.same G rfl rfl rfl) ⟨g,ivs.length,cap,j.toNat,e1,?_,by omega,by rw[cH];rfl⟩ (λk u=>?_)⟩
     ·have:((j.toNat:Nat):Int)=j:=by omega
      rw[this];exact T
     ·simp[Ca,Ax,A5,Di,one]at u
      subst u
      exact h4 k (by simp[Ax,A5])
   | frz e' tt c=>
    simp only[Ab,Af,Bi,Ad]at h
    obtain⟨_,_,_,_,⟨B,rfl,rfl⟩,⟨_,_,_,_,⟨rfl,rfl,rfl⟩,⟨rfl,rfl,rfl⟩,rfl⟩,rfl⟩:=h
    have:e=e':=by simpa using B
    subst this
    obtain⟨g5,z,d1,d2⟩:=G.obj M _ Q
    obtain⟨xs,A,cap,rfl,hx,d⟩:=d2.Cl g5
    obtain⟨vs,y,r1,r2,Y⟩:=LH.Bv q.right.left F
    obtain⟨E,J⟩:=N0 d1 T r1 r2
    obtain⟨ad,hA,hp⟩:=Row.im (_c:=c) (cx:=Bh P X ρ (cur S es.obs) μ w) d J Y I (λb hb=> .inr hb)
    have af:μ M= .slice A xs.length cap:=hx
    rw[r,af]
    exact⟨_,run_indexAt_slice H I hA E (toNat_lt E J),Ph.out (es':= {es with n:=es.n+1}) (.same G rfl rfl rfl) hp (λk u=>by simp[Ca,Ax,A5,Di,one]at u)⟩
  ·rename_i l _
   rw[Ab]at h
   obtain⟨c,C,L,U,hd,h,rfl⟩:=h
   exact data h3 hd q.left h q.right
  ·simp[Ac]at h
 ·rename_i n e H
  rw[Ab]at h
  obtain⟨p,e2,l2,_,h2,h,rfl⟩:=h
  obtain⟨rfl,rfl,rfl⟩:=Amn h2
  split at h
  ·rename_i k j
   simp only[Ab,Af,Ad]at h
   obtain⟨_,_,_,_,⟨B,rfl,rfl⟩,⟨rfl,rfl,rfl⟩,rfl⟩:=h
   simp only[aC,decide_eq_true_eq]at B
   obtain⟨⟨B,g2⟩,g3⟩:=B
   obtain⟨ad,r,ag⟩:=Ab7.plus (o:=j.toNat * Ag P e) h3
   obtain⟨i,hi⟩:=D8 g3
   refine⟨_,?_,Ph.out (.refl G) ag (λk u=>h4 k ?_)⟩
   ·rw[r]
    simp[Instr.indexAt,asIntOf,underlying,H,Instr.sureAddr,Act.eval,B,g2,run_sizeOf hi]
   ·simpa [Ca,Ax,A5,one,Aca]using u
  ·simp[Ac]at h
 ·simp[Ac]at h
theorem Jm {o:Option Operand}{r:Option Arg}(G:Good P N X ρ K S.tm (cur S es.obs) μ a w)(h:Ev S (Qn P o) es r es' ls)(b:holds ρ es.gs=some true):
  es=es'/\ls= []/\((o=none/\r=none)\/ ∃x y n k,o=some x/\r=some y/\y.ev ρ=some (.int n)/\a.eval x= .int k n):=by
 unfold Qn at h
 cases o with
 | none=>
  rw[Ad]at h
  obtain⟨rfl,rfl,rfl⟩:=h
  exact⟨rfl,rfl,.inl ⟨rfl,rfl⟩⟩
 | some x=>
  simp only[Ab,Ad]at h
  obtain⟨y,e1,g,_,c,⟨rfl,rfl,rfl⟩,rfl⟩:=h
  obtain⟨rfl,rfl,n,k,d,e⟩:=Qy G c b
  exact⟨rfl,rfl,.inr ⟨x,y,n,k,rfl,rfl,d,e⟩⟩
theorem A6x {o:Option Operand}{r:Option Arg}(h:(o=none/\r=none)\/ ∃x y n k,o=some x/\r=some y/\y.ev ρ=some (.int n)/\a.eval x= .int k n):
  ∃n,(r.getD (.k (.int 0))).ev ρ=some (.int n)/\(0<=n->Ix (o.map a.eval) 0 n.toNat):=by
 rcases h with⟨rfl,rfl⟩ | ⟨x,y,n,k,rfl,rfl,b,c⟩
 ·exact⟨0,rfl,λ_=> .inl ⟨rfl,rfl⟩⟩
 ·exact⟨n,b,λd=> .inr ⟨k,by rw[aL,c];congr 2;omega⟩⟩
theorem Ip {c lo g:Arg}{xs:List IV}{l h:Int}{vs:List IV}{y:IV}(i:c.ev ρ=some (.list xs))(j:lo.ev ρ=some (.int l))(m:g.ev ρ=some (.int h))
  (o:Arg.evs ρ [c,lo,g]=some vs) (a:Prim.ev .slice vs=some y):y= .list ((xs.take h.toNat).drop l.toNat)/\0<=l/\l<=h/\h<=xs.length:=by
 obtain⟨u,v,q,b,d,e,rfl⟩:=A6q o
 rw[i]at b;rw[j]at d;rw[m]at e
 injection b with b;injection d with d;injection e with e
 subst b;subst d;subst e
 simp only[Prim.ev]at a
 split at a
 ·injection a with a;exact⟨a.symm,by omega,by omega,by omega⟩
 ·cases a
theorem Zb {c lo:Arg}{xs:List IV}{l:Int}{vs:List IV}{y:IV}(e:c.ev ρ=some (.list xs))(g:lo.ev ρ=some (.int l))
  (h:Arg.evs ρ [c,lo]=some vs) (a:Prim.ev .Pk vs=some y):y= .list ((xs.take xs.length).drop l.toNat)/\0<=l/\l<=xs.length:=by
 obtain⟨u,v,b,d,rfl⟩:=Ab8 h
 rw[e]at b;rw[g]at d
 injection b with b;injection d with d
 subst b;subst d
 simp only[Prim.ev]at a
 split at a
 ·injection a with a;exact⟨by rw[cX];exact a.symm,by omega,by omega⟩
 ·cases a
theorem As7 {t:TypeId}{x:Operand}{lo Z mx:Option Operand}(G:Good P N X ρ K S.tm (cur S es.obs) μ a w)(h:Ev S (Au9 P t x lo Z mx) es sx es' ls)(b:LH R ρ ls)(Q:holds ρ es.gs=some true):
  ∃v,(Instr.sliceAt t (a.eval x) (lo.map a.eval) (Z.map a.eval) (mx.map a.eval)).run P w= .ok v w/\Out P N X ρ K S μ a w es es' sx μ w v:=by
 unfold Au9 at h
 rw[Ab]at h
 obtain⟨_,_,_,_,F,h,rfl⟩:=h
 rw[Af]at F
 obtain⟨g0,rfl,rfl⟩:=F
 have ad:mx=none:=by simpa using g0
 subst ad
 rw[Option.map_none]
 rw[Ab]at h
 obtain⟨xv,e1,l1,_,h1,h,rfl⟩:=h
 obtain⟨rfl,rfl,m,h4⟩:=E1 G h1 Q
 rw[Ab]at h
 obtain⟨l,e2,l2,_,h2,h,rfl⟩:=h
 obtain⟨rfl,rfl,o1⟩:=Jm G h2 Q
 rw[Ab]at h
 obtain⟨hh,e3,l3,_,h5,h,rfl⟩:=h
 obtain⟨rfl,rfl,o2⟩:=Jm G h5 Q
 have b:=b.right.right.right.right
 obtain⟨ln,C,blo⟩:=A6x o1
 -- data, cut
 have cut: ∀ {e:TypeId} {c:Arg} {U:ES} {v:Value} {xs:List IV} {A:Option Addr} {cap:Nat},P.underlying t=some (.slice e)->0<Ag P e->Ph P N X ρ K S μ a w es U->c.ev ρ=some (.list xs)->
   v= .slice A xs.length cap->Row P w (Bh P X ρ (cur S U.obs) μ w).O e xs A cap->a.eval x=v->
   ∀ {l4:List PLt},Ev S (Bag c (l.getD (.k (.int 0))) hh t) U sx es' l4->LH R ρ l4->
   ∃v,(Instr.sliceAt t (a.eval x) (lo.map a.eval) (Z.map a.eval) none).run P w= .ok v w/\Out P N X ρ K S μ a w es es' sx μ w v:=by
  intro e c U v xs A cap i hs p hc hv g ae l4 h aa
  have H:holds ρ U.gs=some true:=by rw[p.gs];exact Q
  rw[ae,hv]
  unfold Bag at h
  rcases o2 with⟨rfl,rfl⟩ | ⟨Y,hy,j,hk,rfl,rfl,I,J⟩
  ·simp only[Ab,Bi,Ad]at h
   obtain⟨_,_,_,_,⟨rfl,rfl,rfl⟩,⟨rfl,rfl,rfl⟩,rfl⟩:=h
   obtain⟨vs,y,r1,r2,M⟩:=LH.Bv aa.left H
   obtain⟨rfl,q1,q2⟩:=Zb hc C r1 r2
   refine⟨_,Hu i hs (blo q1) (.inl ⟨rfl,rfl⟩) (by omega) g.1,?_⟩
   have hr:=(g.part (l:=ln.toNat) (r:=xs.length) (by omega) (aY _)).rel i
   have hlen:((xs.take xs.length).drop ln.toNat).length =xs.length - ln.toNat:=by simp
   rw[hlen]at hr
   exact Dd p M hr
  ·simp only[Ab,Bi,Ad]at h
   obtain⟨_,_,_,_,⟨rfl,rfl,rfl⟩,⟨rfl,rfl,rfl⟩,rfl⟩:=h
   obtain⟨vs,y,r1,r2,M⟩:=LH.Bv aa.left H
   obtain⟨rfl,q1,q2,q3⟩:=Ip hc C I r1 r2
   have hb:Ix (dJ a.eval (some Y)) xs.length j.toNat:= .inr ⟨hk,by rw[aL,J];congr 2;omega⟩
   refine⟨_,Hu i hs (blo q1) hb (by omega) (by have:=g.1;omega),?_⟩
   have hr:=(g.part (l:=ln.toNat) (r:=j.toNat) (by omega) (by omega)).rel i
   have hlen:((xs.take j.toNat).drop ln.toNat).length =j.toNat - ln.toNat:=by rw[aK,aD];omega
   rw[hlen]at hr
   exact Dd p M hr
 cases i:P.underlying t with
 | none=>simp[i,Ac]at h
 | some d=>
 simp only[i]at h
 cases d with
 | string=>
  rw[Ab]at h
  obtain⟨c,U,l4,l5,hd,h,rfl⟩:=h
  obtain⟨p,hB,_⟩:=D6 G hd b.left Q h4 m
  have H:holds ρ U.gs=some true:=by rw[p.gs];exact Q
  obtain⟨s,hs,af⟩:=hB.str i
  have ab:c.ev ρ=some (.str s):=hs
  rw[af]
  rcases o2 with⟨rfl,rfl⟩ | ⟨Y,hy,j,hk,rfl,rfl,I,J⟩
  ·simp only[Ab,Bi,Ad]at h
   obtain⟨_,_,_,_,⟨rfl,rfl,rfl⟩,⟨rfl,rfl,rfl⟩,rfl⟩:=h
   obtain⟨vs,y,r1,r2,M⟩:=LH.Bv b.right.left H
   obtain⟨u,v,B,T,rfl⟩:=Ab8 r1
   rw[ab]at B;rw[C]at T
   injection B with B;injection T with T;subst B;subst T
   simp only[Prim.ev]at r2
   split at r2
   ·rename_i hc
    injection r2 with r2;subst r2
    exact⟨_,run_slice_string i (blo hc.1) (.inl ⟨rfl,rfl⟩) (by omega) (aY _),Dd p M (.str i)⟩
   ·cases r2
  ·simp only[Ab,Bi,Ad]at h
   obtain⟨_,_,_,_,⟨rfl,rfl,rfl⟩,⟨rfl,rfl,rfl⟩,rfl⟩:=h
   obtain⟨vs,y,r1,r2,M⟩:=LH.Bv b.right.left H
   obtain⟨u,v,q,B,T,s3,rfl⟩:=A6q r1
   rw[ab]at B;rw[C]at T;rw[I]at s3
   injection B with B;injection T with T;injection s3 with s3;subst B;subst T;subst s3
   simp only[Prim.ev]at r2
   split at r2
   ·rename_i hc
    injection r2 with r2;subst r2
    have hb:Ix (dJ a.eval (some Y)) s.size j.toNat:= .inr ⟨hk,by rw[aL,J];congr 2;omega⟩
    exact⟨_,run_slice_string i (blo hc.1) hb (by omega) (by omega),Dd p M (.str i)⟩
   ·cases r2
 | slice e=>
  rw[Ab]at h
  obtain⟨_,_,_,_,F,h,rfl⟩:=h
  rw[Af]at F
  obtain⟨g1,rfl,rfl⟩:=F
  simp only[decide_eq_true_eq]at g1
  have b:=b.right
  have other: ∀ {lf:LV},K0 (Bh P X ρ (cur S es.obs) μ w) (.leaf lf) (a.eval x)-> ∀ {lx:List PLt},Ev S (do
    let c <-Da P true t lf
    Bag c (l.getD (.k (.int 0))) hh t:EM SX) es sx es' lx->LH R ρ lx->
    ∃v,(Instr.sliceAt t (a.eval x) (lo.map a.eval) (Z.map a.eval) none).run P w= .ok v w/\Out P N X ρ K S μ a w es es' sx μ w v:=by
   intro lf m lx h b
   rw[Ab]at h
   obtain⟨c,U,l4,l5,hd,h,rfl⟩:=h
   obtain⟨p,_,hD⟩:=G5 G hd b.left Q m
   obtain⟨z,d1,d2⟩:=hD rfl
   obtain⟨xs,A,cap,rfl,Y,g⟩:=d2.Cl i
   exact cut i g1 p d1 Y g rfl h b.right
  cases xv with
  | agg t' cs=>simp[Ac]at h
  | leaf lf=>
  cases lf with
  | ref k0 t0=>
   obtain⟨hv,_⟩:=m
   have hv:a.eval x=μ k0:=hv
   rw[Ab]at h
   obtain⟨o,_,_,l3,ho,h,rfl⟩:=h
   rw[Bp]at ho
   obtain⟨ho,rfl,rfl⟩:=ho
   have b:=b.right
   cases o with
   | box=>simp[Ac]at h
   | iter=>simp[Ac]at h
   | mp=>simp[Ac]at h
   | arr e' tt c=>
    rw[Ab]at h
    obtain⟨_,_,_,_,F,h,rfl⟩:=h
    rw[Af]at F
    obtain⟨g2,rfl,rfl⟩:=F
    have:e=e':=by simpa using g2
    subst this
    obtain⟨ivs,A,cap,q1,q2,q3,q4,q5⟩:=G.Apl ho
    have b:=b.right
    rw[hv,q2]
    have fin: ∀ {e5:ES} {l5:List PLt} {L:Arg} {j:Int},(∃n,e5= {es with n})->L.ev ρ=some (.int j)->(0<=j->Ix (Z.map a.eval) ivs.length j.toNat)->
      Ev S (do
       let _ <-Bv .slice [c,l.getD (.k (.int 0)),L]
       pure (one (.leaf (.sub k0 (l.getD (.k (.int 0))) L t))):EM SX) e5 sx es' l5->LH R ρ l5->
      ∃v,(Instr.sliceAt t (.slice A ivs.length cap) (lo.map a.eval) (Z.map a.eval) none).run P w= .ok v w/\Out P N X ρ K S μ a w es es' sx μ w v:=by
     intro e5 l5 L j he ac hb h ag
     obtain⟨n,rfl⟩:=he
     simp only[Ab,Bi,Ad]at h
     obtain⟨_,_,_,_,⟨rfl,rfl,rfl⟩,⟨rfl,rfl,rfl⟩,rfl⟩:=h
     obtain⟨vs,y,r1,r2,M⟩:=LH.Bv ag.left Q
     obtain⟨rfl,p1,p2,p3⟩:=Ip q1 C ac r1 r2
     refine⟨_,Hu i g1 (blo p1) (hb (by omega)) (by omega) (by have:=q3.1;omega),Ph.out (es':= {es with n:=n+1}) (.same G rfl rfl rfl) ?_ (λk hm=>?_)⟩
     ·refine⟨A,ivs.length,cap,ln.toNat,j.toNat,e,i,q2,?_,?_,by omega,by omega,rfl⟩
      ·rw[show((ln.toNat:Nat):Int)=ln by omega];exact C
      ·rw[show((j.toNat:Nat):Int)=j by omega];exact ac
     ·simp[Ca,Ax,A5,one]at hm
      subst hm
      exact h4 k (by simp[Ax,A5])
    rw[Ab]at h
    obtain⟨L,e5,l5,_,E,h,rfl⟩:=h
    rcases o2 with⟨rfl,rfl⟩ | ⟨Y,hy,j,hk,rfl,rfl,I,J⟩
    ·unfold Bd5 at E
     rw[Bi]at E
     obtain⟨rfl,rfl,rfl⟩:=E
     obtain⟨vs,y,r1,r2,M⟩:=LH.Bv b.left Q
     obtain⟨u,B,rfl⟩:=Apf r1
     have ah:c.ev ρ=some (.list ivs):=q1
     rw[ah]at B;injection B with B;subst B
     simp only[Prim.ev,aB]at r2;subst r2
     exact fin (e5:= {es with n:=es.n+1}) ⟨es.n+1,rfl⟩ M (λ_=> .inl ⟨rfl,by simp⟩) h b.right
    ·unfold Bd5 at E
     rw[Ad]at E
     obtain⟨rfl,rfl,rfl⟩:=E
     exact fin ⟨es.n,rfl⟩ I (λF=> .inr ⟨hk,by rw[aL,J];congr 2;omega⟩) h b.right
   | frz e' tt c=>
    rw[Ab]at h
    obtain⟨_,_,_,_,F,h,rfl⟩:=h
    rw[Af]at F
    obtain⟨g2,rfl,rfl⟩:=F
    have:e=e':=by simpa using g2
    subst this
    obtain⟨g5,z,d1,d2⟩:=G.obj k0 _ ho
    obtain⟨xs,A,cap,rfl,Y,g⟩:=d2.Cl g5
    exact cut i g1 (.refl G) d1 Y g hv h b.right
  | «at» _ _=>exact other m h b
  | nil _=>exact other m h b
  | sub _ _ _ _=>exact other m h b
  | ptr _=>exact other m h b
  | fn _ _=>exact other m h b
  | mref _ _=>exact other m h b
  | hid _=>exact other m h b
  | cl _ _=>exact other m h b
  | st _ _=>exact other m h b
  | junk=>exact other m h b
 | _=>simp[Ac]at h
end
end Go.CT
namespace Go.CT
open EM
def Db (μ:Nat->Value)(k:Nat)(v:Value):Nat->Value:=λa=>if a=k then v else μ a
section
variable {P:Program}{N:Nat}{X:Nat->Prop}{R:Job->List IV->Option (List IV)}{ρ:List IV}{K:Nat->Prop}{S:View}{tm:Nat->SV}{ob ob':Nat->Option Ob}{μ:Nat->Value}{a:Act}{w w':World}{es es':ES}{ls:List PLt}{sx:SX}
theorem Good.Mg (G:Good P N X ρ K tm ob μ a w){k:Nat}{o:Ob}{b:Nat}(h:ob k=some o)(z:o.Ea=true)(d:blk (μ k)=some b):b<w.heap.size:=by
 have:=G.obj k o h
 cases o with
 | box t vv=>
  obtain⟨q,v,j,m,_⟩:=this
  have i:μ k= .pointer (some ⟨q,0,none⟩):=j
  rw[i]at d;simp[blk]at d;subst d
  exact(aI.1 m).1
 | arr e t c=>
  obtain⟨ivs,cs,j,m,B,⟨_,u⟩,_⟩:=this
  rcases u with⟨u,_⟩ | ⟨g,cap,cu,e1,_,A,_⟩
  ·have x:μ k= .slice none 0 0:=u
   rw[x]at d;simp[blk]at d
  ·have y:μ k= .slice (some ⟨g,0,none⟩) ivs.length cap:=e1
   rw[y]at d;simp[blk]at d;subst d
   exact(aI.1 A).1
 | frz=>simp[Ob.Ea]at z
 | iter s p=>
  obtain⟨q,n,bs,j,m,_⟩:=this
  have i:μ k= .pointer (some ⟨q,0,none⟩):=j
  rw[i]at d;simp[blk]at d;subst d
  exact(aI.1 m).1
 | mp t kt vt c=>
  obtain⟨r,cl,es,ivs,j,m,_⟩:=this
  have i:μ k= .map (some r):=j
  rw[i]at d;simp[blk]at d;subst d
  exact(aI.1 m).1
structure Put (P:Program)(X:Nat->Prop)(ρ:List IV)(K:Nat->Prop)(ob ob':Nat->Option Ob)(μ:Nat->Value)(w w':World)(k:Nat)(o:Ob)(hdr:Value):Prop where
 other: ∀k' o',k'≠k->ob' k'=some o'->ob k'=some o'
 here:ob' k=some o
 same: ∀k',K k'->Db μ k hdr k'=μ k'
 step:Gr (Wr ob μ) w w'
 rest: ∀k' o' b,k'≠k->ob' k'=some o'->o'.Ea=true->blk (μ k')=some b->w'.heap[b]?=w.heap[b]?
 new: ∀b,blk hdr=some b->(Wr ob μ b/\ ∀k' o',k'≠k->ob' k'=some o'->o'.Ea=true->blk (μ k')≠some b)\/w.heap.size<=b
 keys: ∀k'∈E4 o,K k'\/k'=k
theorem Cy {k a:Nat}{v:Value}(h:a≠k):Db μ k v a=μ a:=by simp[Db,h]
theorem Bb {k:Nat}{v:Value} :Db μ k v k=v:=by simp[Db]
theorem Put.later {k:Nat}{o:Ob}{hdr:Value}(p:Put P X ρ K ob ob' μ w w' k o hdr):Dp K (Bh P X ρ ob μ w) (Bh P X ρ ob' (Db μ k hdr) w'):=by
 have g: ∀b,b<w.heap.size->Wr ob' (Db μ k hdr) b->Wr ob μ b:=by
  rintro b a ⟨d,o',i,j,c⟩
  by_cases e:d=k
  ·subst e
   rw[Bb]at c
   rcases p.new b c with h | h
   ·exact h.1
   ·omega
  ·rw[Cy e]at c
   exact⟨d,o',p.other d o' e i,j,c⟩
 exact {P:=rfl,ρ:=λ_ _ h=>h,μ:=p.same,stays:=p.step.stays,O:=λb a h=>h.elim .inl λh=> .inr (g b a h),W:=g,WO:=λb a=> .inr a}
theorem Put.Cj {k:Nat}{o:Ob}{hdr:Value}(G:Good P N X ρ K tm ob μ a w)(p:Put P X ρ K ob ob' μ w w' k o hdr)(C:Ae3 (Bh P X ρ ob' (Db μ k hdr) w') k o){K':Nat->Prop}(x: ∀c,K c\/c=k->K' c):
  Good P N X ρ K' tm ob' (Db μ k hdr) a w':=by
 have L:=p.later
 have r: ∀ {c o' b},c≠k->ob' c=some o'->o'.Ea=true->blk (Db μ k hdr c)=some b->b<w.heap.size/\blk (μ c)=some b:=by
  intro c o' b d j m e
  rw[Cy d]at e
  exact⟨G.Mg (p.other c o' d j) m e,e⟩
 have t: ∀ {c o' b},c≠k->ob' c=some o'->o'.Ea=true->blk (Db μ k hdr c)=some b->blk hdr=some b->False:=by
  intro c o' b d j m e y
  have:=r d j m e
  rcases p.new b y with h | h
  ·exact h.2 c o' d j m this.2
  ·omega
 refine⟨G.size,G.defers,λs=>L.Arc (G.kt s) (G.slot s),λc o' i=>?_,?_,?_,λb E=>Nat.lt_of_lt_of_le (G.xlt b E) p.step.size,λs c h=>x c (.inl (G.kt s c h)),λc o' i=>?_⟩
 ·by_cases d:c=k
  ·subst d
   have:=p.here
   rw[this]at i;injection i with i;subst i
   exact C
  ·have u:=p.other c o' d i
   exact L.Af0 (G.ko c o' u).1 (G.ko c o' u).2 (λH b E _=>p.rest c o' b d i H E) (G.obj c o' u)
 ·intro k1 k2 F z b j m e y A B
  by_cases q:k1=k
  ·by_cases g:k2=k
   ·rw[q,g]
   ·subst q
    rw[Bb]at A
    exact(t g m y B A).elim
  ·by_cases g:k2=k
   ·subst g
    rw[Bb]at B
    exact(t q j e A B).elim
   ·exact G.sep k1 k2 F z b (p.other k1 F q j) (p.other k2 z g m) e y (r q j e A).2 (r g m y B).2
 ·intro c o' b j m e
  by_cases d:c=k
  ·subst d
   rw[Bb]at e
   rcases p.new b e with⟨⟨k2,z,I,J,M⟩,_⟩ | h
   ·exact G.xsep k2 z b I J M
   ·intro Q
    have:=G.xlt b Q
    omega
  ·exact G.xsep c o' b (p.other c o' d j) m (r d j m e).2
 ·by_cases d:c=k
  ·subst d
   rw[p.here]at i;injection i with i;subst i
   exact⟨x _ (.inr rfl),λc h=>x c (p.keys c h)⟩
  ·have:=G.ko c o' (p.other c o' d i)
   exact⟨x c (.inl this.1),λk2 h=>x k2 (.inl (this.2 k2 h))⟩
theorem Put.own {k:Nat}{o:Ob}{hdr:Value}(_G:Good P N X ρ K tm ob μ a w)(p:Put P X ρ K ob ob' μ w w' k o hdr): ∀b,Wr ob' (Db μ k hdr) b->Wr ob μ b\/w.heap.size<=b:=by
 rintro b ⟨d,o',g,h,c⟩
 by_cases e:d=k
 ·subst e
  rw[Bb]at c
  exact(p.new b c).imp (·.1) id
 ·rw[Cy e]at c
  exact .inl ⟨d,o',p.other d o' e g,h,c⟩
theorem Es (W:Nat->Prop)(w:World)(o:Obj):Gr W w (w.alloc o):=
 ⟨rfl,rfl,rfl,by simp,λb a _=>bD w o b a⟩
theorem Adf {t:TypeId}{vv:VV}{v:Value}{e1:ES}(p:Ph P N X ρ K S μ a w es e1)(hfresh: ∀k,es.m<=k->k<e1.m+1-> ¬ K k)
  (x:K0 (Bh P X ρ (cur S e1.obs) μ w) vv v) (q: ∀k∈Ax vv,K k) (y:v.cells.size=Ag P t) (i:if Ai P t then ∃cs,v= .agg cs else v.oneCell'=true) (z: ∀u∈v.cells,u.oneCell'=true):
  Out P N X ρ K S μ a w es {e1 with m:=e1.m+1,obs:=(e1.m,some (.box t vv))::e1.obs} (one (.leaf (.ptr (.p e1.m 0)))) (Db μ e1.m (.pointer (some ⟨w.heap.size,0,none⟩))) (w.alloc (.cells v.cells t)) (.pointer (some ⟨w.heap.size,0,none⟩)):=by
 have A: ¬ K e1.m:=hfresh e1.m (by rw[p.m];exact aY _) (bA _)
 have g:Put P X ρ K (cur S e1.obs) (Bo (cur S e1.obs) e1.m (some (.box t vv))) μ w (w.alloc (.cells v.cells t)) e1.m (.box t vv) (.pointer (some ⟨w.heap.size,0,none⟩)):=
  {
   other:=λc o' h j=>by simpa [Bo,h]using j
   here:=by simp[Bo]
   same:=λc h=>Cy (λe=>A (e ▸ h))
   step:=Es _ _ _
   rest:=λc o' b h j B d=>bD _ _ _ (p.Cj.Mg (by simpa [Bo,h]using j) B d)
   new:=λb d=> .inr (by simp[blk]at d;omega)
   keys:=λc h=> .inl (q c h)}
 have o:Ae3 (Bh P X ρ (Bo (cur S e1.obs) e1.m (some (.box t vv))) (Db μ e1.m (.pointer (some ⟨w.heap.size,0,none⟩))) (w.alloc (.cells v.cells t))) e1.m (.box t vv):=
  ⟨w.heap.size,v,Bb,heap_alloc_new w _,y,i,z,g.later.Apb q x⟩
 have r: ∀c,K c\/c=e1.m->As K es.m (e1.m+1) c:=by
  rintro c (h | rfl)
  ·exact .inl h
  ·exact .inr ⟨by rw[p.m];exact aY _,bA _⟩
 refine⟨?_,?_,?_,?_,?_,g.same⟩
 ·rw[show({e1 with m:=e1.m+1,obs:=(e1.m,some (.box t vv))::e1.obs} :ES).obs =(e1.m,some (.box t vv))::e1.obs from rfl,Bm]
  exact g.Cj p.Cj o r
 ·exact⟨w.heap.size,Bb,by rw[A6]⟩
 ·intro k h
  simp[Ca,Ax,A5,Di,one]at h
  subst h
  exact r _ (.inr rfl)
 ·exact Es _ _ _
 ·intro b d
  rw[show({e1 with m:=e1.m+1,obs:=(e1.m,some (.box t vv))::e1.obs} :ES).obs =(e1.m,some (.box t vv))::e1.obs from rfl,Bm]at d
  exact(g.own p.Cj b d).imp p.Dv.wr id
theorem Aav {o:Ob}{obj:Obj}{hdr:Value}{e1:ES}{nn:Nat}{sx:SX}(p:Ph P N X ρ K S μ a w es e1)(hfresh: ∀k,es.m<=k->k<e1.m+1-> ¬ K k)(c:blk hdr=some w.heap.size)(t: ∀k∈E4 o,K k\/k=e1.m)
  (j:Dp K (Bh P X ρ (cur S e1.obs) μ w) (Bh P X ρ (Bo (cur S e1.obs) e1.m (some o)) (Db μ e1.m hdr) (w.alloc obj))->Ae3 (Bh P X ρ (Bo (cur S e1.obs) e1.m (some o)) (Db μ e1.m hdr) (w.alloc obj)) e1.m o)
  (u:Agd (Bh P X ρ (Bo (cur S e1.obs) e1.m (some o)) (Db μ e1.m hdr) (w.alloc obj)) sx hdr) (x: ∀k∈Ca sx,k=e1.m):
  Out P N X ρ K S μ a w es {e1 with n:=nn,m:=e1.m+1,obs:=(e1.m,some o)::e1.obs} sx (Db μ e1.m hdr) (w.alloc obj) hdr:=by
 have y: ¬ K e1.m:=hfresh e1.m (by rw[p.m];exact aY _) (bA _)
 have i:Put P X ρ K (cur S e1.obs) (Bo (cur S e1.obs) e1.m (some o)) μ w (w.alloc obj) e1.m o hdr:=
  {
   other:=λd o' h q=>by simpa [Bo,h]using q
   here:=by simp[Bo]
   same:=λd h=>Cy (λe=>y (e ▸ h))
   step:=Es _ _ _
   rest:=λd o' b h q z c=>bD _ _ _ (p.Cj.Mg (by simpa [Bo,h]using q) z c)
   new:=λb g=> .inr (by rw[c]at g;injection g with g;omega)
   keys:=t}
 have r: ∀d,K d\/d=e1.m->As K es.m (e1.m+1) d:=by
  rintro d (h | rfl)
  ·exact .inl h
  ·exact .inr ⟨by rw[p.m];exact aY _,bA _⟩
 refine⟨?_,?_,?_,?_,?_,i.same⟩
 ·show Good P N X ρ (As K es.m (e1.m+1)) S.tm (cur S ((e1.m,some o)::e1.obs)) _ a _
  rw[Bm]
  exact i.Cj p.Cj (j i.later) r
 ·show Agd (Bh P X ρ (cur S ((e1.m,some o)::e1.obs)) _ _) _ _
  rw[Bm];exact u
 ·intro k h
  exact r _ (.inr (x k h))
 ·exact Es _ _ _
 ·intro b c
  have c:Wr (cur S ((e1.m,some o)::e1.obs)) _ b:=c
  rw[Bm]at c
  exact(i.own p.Cj b c).imp p.Dv.wr id
theorem Yq {e t:TypeId}{x:Arg}{ivs:List IV}{cs:Array Value}{n cap:Nat}{e1:ES}(p:Ph P N X ρ K S μ a w es e1)(hfresh: ∀k,es.m<=k->k<e1.m+1-> ¬ K k)
  (B:x.ev ρ=some (.list ivs)) (C:P.underlying t=some (.slice e)) (q:0<Ag P e) (E:ivs.length=n) (c:n<=cap) (i:cap<=maxLen) (j:cs.size=cap * Ag P e)
  (r:Ja P w (Bh P X ρ (cur S e1.obs) μ w).O e ivs (cs.toList.take (n * Ag P e))) (F: ∀u∈cs.toList.take (n * Ag P e),u.oneCell'=true) {rt:TypeId} {nn:Nat} :
  Out P N X ρ K S μ a w es {e1 with n:=nn,m:=e1.m+1,obs:=(e1.m,some (.arr e t x))::e1.obs} (one (.leaf (.ref e1.m rt))) (Db μ e1.m (.slice (some ⟨w.heap.size,0,none⟩) n cap)) (w.alloc (.cells cs e)) (.slice (some ⟨w.heap.size,0,none⟩) n cap):=by
 have G: ¬ K e1.m:=hfresh e1.m (by rw[p.m];exact aY _) (bA _)
 have o:Put P X ρ K (cur S e1.obs) (Bo (cur S e1.obs) e1.m (some (.arr e t x))) μ w (w.alloc (.cells cs e)) e1.m (.arr e t x) (.slice (some ⟨w.heap.size,0,none⟩) n cap):=
  {
   other:=λd o' h y=>by simpa [Bo,h]using y
   here:=by simp[Bo]
   same:=λd h=>Cy (λe=>G (e ▸ h))
   step:=Es _ _ _
   rest:=λd o' b h y H g=>bD _ _ _ (p.Cj.Mg (by simpa [Bo,h]using y) H g)
   new:=λb g=> .inr (by simp[blk]at g;omega)
   keys:=λd h=>by simp[E4]at h}
 have z:Ae3 (Bh P X ρ (Bo (cur S e1.obs) e1.m (some (.arr e t x))) (Db μ e1.m (.slice (some ⟨w.heap.size,0,none⟩) n cap)) (w.alloc (.cells cs e))) e1.m (.arr e t x):=by
  refine⟨ivs,cs.toList.take (n * Ag P e),B,C,q,?_,o.later.elems r,F⟩
  show World.ownsRow _ 0 e (Ag P e) (Db μ e1.m _ e1.m) ivs.length _
  rw[Bb,E]
  refine⟨?_,.inr ⟨w.heap.size,cap,cs,rfl,cP _,heap_alloc_new w _,c,i,j,rfl⟩⟩
  rw[aD,aA,j]
  have:=aO (Ag P e) c
  omega
 have A: ∀d,K d\/d=e1.m->As K es.m (e1.m+1) d:=by
  rintro d (h | rfl)
  ·exact .inl h
  ·exact .inr ⟨by rw[p.m];exact aY _,bA _⟩
 refine⟨?_,?_,?_,?_,?_,o.same⟩
 ·show Good P N X ρ (As K es.m (e1.m+1)) S.tm (cur S ((e1.m,some (.arr e t x))::e1.obs)) _ a _
  rw[Bm]
  exact o.Cj p.Cj z A
 ·exact⟨Bb.symm,_,_,_,rfl⟩
 ·intro k h
  simp[Ca,Ax,A5,one]at h
  subst h
  exact A _ (.inr rfl)
 ·exact Es _ _ _
 ·intro b g
  have g:Wr (cur S ((e1.m,some (.arr e t x))::e1.obs)) _ b:=g
  rw[Bm]at g
  exact(o.own p.Cj b g).imp p.Dv.wr id
theorem Ad9 {e t:TypeId}{x:Arg}{ivs:List IV}{cs:Array Value}{n cap:Nat}{e1:ES}(p:Ph P N X ρ K S μ a w es e1)(hfresh: ∀k,es.m<=k->k<e1.m+1-> ¬ K k)
  (i:x.ev ρ=some (.list ivs)) (j:P.underlying t=some (.slice e)) (d:0<Ag P e) (o:ivs.length=n) (b:n<=cap) (c:cap<=maxLen) (g:cs.size=cap * Ag P e)
  (h:Ja P w (Bh P X ρ (cur S e1.obs) μ w).O e ivs (cs.toList.take (n * Ag P e))) (q: ∀u∈cs,u.oneCell'=true) {rt:TypeId} {nn:Nat} :
  Out P N X ρ K S μ a w es {e1 with n:=nn,m:=e1.m+1,obs:=(e1.m,some (.arr e t x))::e1.obs} (one (.leaf (.ref e1.m rt))) (Db μ e1.m (.slice (some ⟨w.heap.size,0,none⟩) n cap)) (w.alloc (.cells cs e)) (.slice (some ⟨w.heap.size,0,none⟩) n cap):=
 Yq p hfresh i j d o b c g h λu r=>q u (by simpa using bN r)
end
end Go.CT
namespace Go.CT
open EM
theorem Abp (off:Nat): ∀ (vs:List Value) (k:Nat) (cells:Array Value),off+k+vs.length<=cells.size->
  ((vs.zipIdx k).foldl (fun(cs:Array Value) (p:Value × Nat)=>cs.setIfInBounds (off+p.2) p.1) cells).toList =cells.toList.take (off+k)++vs++cells.toList.drop (off+k+vs.length)
 | [],k,cells,_=>by simp
 | v::vs,k,cells,h=>by
  simp only[bC]at h
  rw[List.zipIdx_cons,dA,Abp off vs (k+1) _ (by simpa using(by omega:off+(k+1)+vs.length<=cells.size))]
  have d:off+k<cells.toList.length:=by simp;omega
  apply bR
  intro j
  simp only[Array.toList_setIfInBounds]
  simp only[cQ,aD,List.length_set,aW,bC,aH,List.getElem?_set,aE,List.getElem?_cons]
  have e1:min (off+(k+1)) cells.toList.length=off+(k+1):=by omega
  have e:min (off+k) cells.toList.length=off+k:=by omega
  rw[e1,e]
  by_cases b:j<off+k
  ·have a:j<off+(k+1):=by omega
   have a2: ¬ (off+k=j):=by omega
   simp[b,a,a2,show j<off+(k+1)+vs.length by omega,show j<off+k+(vs.length+1) by omega]
  ·by_cases g:j=off+k
   ·subst g
    simp[show off+k<off+(k+1) by omega,show off+k<off+(k+1)+vs.length by omega]
    omega
   ·by_cases c:j<off+k+(vs.length+1)
    ·have a: ¬ j<off+(k+1):=by omega
     have a3: ¬ (j - (off+k)=0):=by omega
     simp only[a,Zf,c,Zt,b,show j<off+(k+1)+vs.length by omega,a3]
     congr 1<;>omega
    ·have a: ¬ j<off+(k+1)+vs.length:=by omega
     simp only[a,Zf,c]
     have: ¬ (off+k=off+(k+1)+vs.length+(j - (off+(k+1)+vs.length))):=by omega
     simp only[this,Zf]
     congr 1;omega
def Ba (vs:List Value):List Value:=vs.flatMap λv=>v.cells.toList
theorem Dc {vs:List Value}{sz:Nat}(h: ∀v∈vs,v.cells.size=sz):(Ba vs).length =vs.length * sz:=by
 induction vs with
 | nil=>simp[Ba]
 | cons v vs a=>
  have:=a λu b=>h u (aV _ b)
  have c:=h v aU
  simp only[Ba,aN,aW,bC]at this ⊢
  rw[this,aA,c,bG,cD,cI]
theorem Qb {sz:Nat} : ∀ {vs:List Value},(∀v∈vs,v.cells.size=sz)-> ∀ (j:Nat) (v:Value),vs[j]?=some v->((Ba vs).drop (j * sz)).take sz=v.cells.toList
 | [],_,j,v,a=>by simp at a
 | u::vs,h,j,v,a=>by
  have c:=h u aU
  have b:u.cells.toList.length=sz:=by rw[aA,c]
  cases j with
  | zero=>
   simp at a;subst a
   simp only[Ba,aN,bX,bM]
   rw[bH (by omega),<-b,cX]
  | succ j=>
   have:=Qb (λw d=>h w (aV _ d)) j v (by simpa using a)
   rw[<-this]
   simp only[Ba,aN]
   rw[cG,cI,<-bF,bU (by omega),<-b,List.drop_length,bW]
theorem D7 (us vs:List Value):Ba (us++vs)=Ba us++Ba vs:=by simp[Ba]
theorem Ei {vs:List Value}(h: ∀v∈vs,∀u∈v.cells,u.oneCell'=true): ∀u∈Ba vs,u.oneCell'=true:=by
 intro u a
 simp only[Ba,aS]at a
 obtain⟨v,b,a⟩:=a
 exact h v b u (by simpa using a)
def Gq (P:Program)(w:World)(O:Nat->Prop)(e:TypeId):List IV->List Value->Prop
 | [],[]=>True
 | x::xs,v::vs=>(Rel P w O e x v/\v.cells.size=Ag P e)/\Gq P w O e xs vs
 | _,_=>False
section
variable {P:Program}{w:World}{O:Nat->Prop}{e:TypeId}
theorem Gq.len: ∀ {xs:List IV} {vs:List Value},Gq P w O e xs vs->xs.length=vs.length
 | [],[],_=>rfl
 | _::_,_::_,h=>by simp[Gq.len h.2]
 | [],_::_,h=>h.elim
 | _::_,[],h=>h.elim
theorem Gq.size: ∀ {xs:List IV} {vs:List Value},Gq P w O e xs vs-> ∀v∈vs,v.cells.size=Ag P e/\ ∀u∈v.cells,u.oneCell'=true
 | [],[],_=>by simp
 | _::_,_::_,h=>by
  intro v a
  rcases cU.1 a with rfl | a
  ·exact⟨h.1.2,h.1.1.cells_one⟩
  ·exact Gq.size h.2 v a
 | [],_::_,h=>h.elim
 | _::_,[],h=>h.elim
theorem Gq.get: ∀ {xs:List IV} {vs:List Value},Gq P w O e xs vs-> ∀ (j:Nat) (x:IV),xs[j]?=some x-> ∃v,vs[j]?=some v/\Rel P w O e x v
 | [],[],_=>by simp
 | _::_,_::_,h=>by
  intro j x a
  cases j with
  | zero=>simp at a;subst a;exact⟨_,rfl,h.1.1⟩
  | succ j=>
   obtain⟨v,b,c⟩:=Gq.get h.2 j x (by simpa using a)
   exact⟨v,by simpa using b,c⟩
 | [],_::_,h=>h.elim
 | _::_,[],h=>h.elim
theorem Gq.append: ∀ {xs:List IV} {vs:List Value} {ys:List IV} {us:List Value},Gq P w O e xs vs->Gq P w O e ys us->Gq P w O e (xs++ys) (vs++us)
 | [],[],_,_,_,h=>h
 | _::_,_::_,_,_,h,h'=>⟨h.1,Gq.append h.2 h'⟩
 | [],_::_,_,_,h,_=>h.elim
 | _::_,[],_,_,h,_=>h.elim
theorem Gq.Kq: ∀ {xs:List IV} {vs:List Value},xs.length=vs.length->(∀ (j:Nat) (x:IV) (v:Value),xs[j]?=some x->vs[j]?=some v->Rel P w O e x v/\v.cells.size=Ag P e)->Gq P w O e xs vs
 | [],[],_,_=>trivial
 | _::_,_::_,h,c=>⟨c 0 _ _ rfl rfl,Gq.Kq (by simpa using h) λj x v a b=>c (j+1) x v (by simpa using a) (by simpa using b)⟩
 | [],_::_,h,_=>by simp at h
 | _::_,[],h,_=>by simp at h
theorem Gq.elems {xs:List IV}{vs:List Value}(h:Gq P w O e xs vs):Ja P w O e xs (Ba vs):=by
 intro j x b
 obtain⟨v,a,c⟩:=h.get j x b
 have d:=h.size v (bL a)
 exact⟨v,c,(Qb (λu g=>(h.size u g).1) j v a).symm,d.1⟩
theorem Ja.Apa {xs:List IV}{cs:List Value}(h:Ja P w O e xs cs)(d:cs.length=xs.length * Ag P e): ∃vs,Gq P w O e xs vs/\cs=Ba vs:=by
 induction xs generalizing cs with
 | nil=>
  have:cs= []:=aT.1 (by simpa using d)
  subst this
  exact⟨[],trivial,rfl⟩
 | cons x xs i=>
  obtain⟨v,m,g,o⟩:=h 0 x rfl
  simp only[bX,bM]at g
  have a:Ja P w O e xs (cs.drop (Ag P e)):=by
   intro j y q
   obtain⟨u,b,c,r⟩:=h (j+1) y (by simpa using q)
   exact⟨u,b,by rw[c,bF,bG,cD,cI],r⟩
  obtain⟨vs,b,c⟩:=i a (by rw[aK,d,bC,bG];omega)
  refine⟨v::vs,⟨⟨m,o⟩,b⟩,?_⟩
  show cs=v.cells.toList++Ba vs
  rw[g,<-c,List.take_append_drop]
theorem Ag2.Apa {xs:List IV}{A:Option Addr}{c:Nat}(h:Ag2 P w O e xs A c): ∃vs,Gq P w O e xs vs/\(0<xs.length-> ∃ad,A=some ad/\ ∀ (j:Nat) (u:Value),(Ba vs)[j]?=some u->w.cell? (ad.add j)=some u):=by
 obtain⟨G,H,vs,C,E⟩:=h
 by_cases o:0<xs.length
 ·obtain⟨r,ad,rfl,t⟩:=C o
  have g:Gq P w O e xs ((dC xs.length).map vs):=Gq.Kq (by simp) λj x v y a=>by
   have b:=(aG.1 y).1
   simp[b]at a
   subst a
   exact⟨E j x y,(t j b).1⟩
  refine⟨_,g,λ_=>⟨ad,rfl,λq u z=>?_⟩⟩
  have hlen:=Dc (λv a=>(g.size v a).1)
  have B:=(aG.1 z).1
  rw[hlen,List.length_map,List.length_range]at B
  have b:q / Ag P e<xs.length:=(cM r).2 B
  have F:q % Ag P e<Ag P e:=dE _ r
  have i:=Qb (λv a=>(g.size v a).1) (q / Ag P e) (vs (q / Ag P e)) (by simp[b])
  have d:q / Ag P e * Ag P e+q % Ag P e=q:=by rw[dH];exact dB q (Ag P e)
  have m:(vs (q / Ag P e)).cells.toList[q % Ag P e]?=some u:=by
   rw[<-i,aE,if_pos F,aH,d]
   exact z
  have:=(t _ b).2 (q % Ag P e) u (by simpa using m)
  rwa [Ds,d]at this
 ·have:xs= []:=aT.1 (by omega)
  subst this
  exact⟨[],trivial,λh=>absurd h o⟩
theorem Aoe {base size n cap h:Nat}{A:Option Addr}{xs:List Value}(j:w.ownsRow base e size (.slice A n cap) n xs)(i:h<=n):w.ownsRow base e size (.slice A h cap) h (xs.take (h * size)):=by
 obtain⟨m,d⟩:=j
 refine⟨by rw[aD,m];have:=aO size i;omega,?_⟩
 rcases d with⟨d,u⟩ | ⟨g,cap',cur,e1,o,q,x,e5,r,t⟩
 ·injection d with a b c
  subst a;subst c
  have:h=0:=by omega
  subst this
  exact .inl ⟨rfl,rfl⟩
 ·injection e1 with a b c
  subst a;subst c
  refine .inr ⟨g,cap,cur,rfl,o,q,by omega,e5,r,?_⟩
  rw[<-t,dF]
  congr 1
  have:=aO size i
  omega
theorem V5 (base:Nat){t ty:TypeId}{i:TypeInfo}{size:Nat}(d:P.underlying t=some (.slice e))(h:P.info? e=some i)
  (v:Value) (n c:Nat) (xs:List Value) (a:w.ownsRow base e size v n xs):(Builtin.append_ #[t,t] ty #[v,.slice none 0 c]).run P w= .ok v w:=by
 rcases a.2 with⟨rfl,rfl⟩ | ⟨g,cap,cur,rfl,_,_,b,_⟩
 ·simp[Builtin.append_,underlying,d,sizeOf,typeInfo,h,Builtin.lenOf,Builtin.firstCells]
 ·simp[Builtin.append_,underlying,d,sizeOf,typeInfo,h,Builtin.lenOf,Builtin.firstCells,b,storeCells]
end
end Go.CT
namespace Go.CT
open EM
section
variable {P:Program}{N:Nat}{X:Nat->Prop}{R:Job->List IV->Option (List IV)}{ρ:List IV}{K:Nat->Prop}{S:View}{μ:Nat->Value}{a:Act}{w:World}{es es':ES}{ls:List PLt}{sx:SX}
theorem Gx {v:Value}(h:v.oneCell'=true):v.cells= #[v]:=by cases v<;>simp_all[Value.cells,Value.oneCell']
theorem Rel.sized {O:Nat->Prop}{t:TypeId}{x:IV}{v:Value}(h:Rel P w O t x v)(b:Nk P t=true):v.cells.size=Ag P t:=by
 unfold Nk at b
 cases d:leaves P t with
 | none=>simp[d]at b
 | some ts=>
  simp only[d,aC,beq_iff_eq,bK]at b
  by_cases e:Ai P t=true
  ·obtain⟨g,xs,cs,c,_,rfl,i⟩:=h.Abb e
   rw[d]at c;injection c with c;subst c
   have:=i.len.2
   simp only[Value.cells]
   rw[aA]at this
   omega
  ·have a:Ai P t=false:=by simpa using e
   rw[(h.one a).2]
   have:=b.2.resolve_left (by simp[a])
   simp[this]
theorem Abl {c:Cx}{t:TypeId}{vv:VV}{v:Value}(h:Ke c.P t vv=true)(g:K0 c vv v):
  v.cells.size=Ag c.P t/\(if Ai c.P t then ∃cs,v= .agg cs else v.oneCell'=true)/\ ∀u∈v.cells,u.oneCell'=true:=by
 cases vv with
 | agg b cs=>
  simp only[Ke,aC,beq_iff_eq]at h
  obtain⟨⟨rfl,o⟩,a⟩:=h
  obtain⟨us,rfl,j⟩:=g
  refine⟨by rw[<-a,j.len];simp[Value.cells],by simp only[o,Zt];exact⟨us,rfl⟩,λu e=>j.one u (by simpa [Value.cells]using e)⟩
 | leaf l=>
  have lone:l≠ .junk ->(∀x u,l≠ .at x u)->(!Ai c.P t&&Ag c.P t == 1)=true->v.cells.size=Ag c.P t/\(if Ai c.P t then ∃cs,v= .agg cs else v.oneCell'=true)/\ ∀u∈v.cells,u.oneCell'=true:=by
   intro q i a
   simp only[aC,bQ,beq_iff_eq]at a
   obtain⟨m,r⟩:=W2.one (c:=c) g q (λx u w=>absurd w (i x u))
   rw[r]
   exact⟨by simp[a.2],by simp[a.1,m],λu e=>by simp at e;subst e;exact m⟩
  cases l with
  | «at» x b=>
   simp only[Ke,aC,beq_iff_eq]at h
   obtain⟨rfl,a⟩:=h
   obtain⟨iv,_,d⟩:=g
   exact⟨d.sized a,d.A44,d.cells_one⟩
  | junk=>simp[Ke]at h
  | nil b=>exact lone (by simp) (by simp) h
  | ref k b=>exact lone (by simp) (by simp) h
  | sub k lo y b=>exact lone (by simp) (by simp) h
  | ptr p=>exact lone (by simp) (by simp) h
  | fn f z=>exact lone (by simp) (by simp) h
  | mref k t=>exact lone (by simp) (by simp) h
  | hid k=>exact lone (by simp) (by simp) h
  | cl x t=>exact lone (by simp) (by simp) h
  | st x t=>exact lone (by simp) (by simp) h
theorem A7y {t:TypeId}{x:Operand}(G:Good P N X ρ K S.tm (cur S es.obs) μ a w)(h:Ev S (do
   bare
   let v <-rd1 P x t
   EM.guard (Ke P t v)
   let k <-Ga
   Em k (some (.box t v))
   pure (one (.leaf (.ptr (.p k 0)))):EM SX) es sx es' ls) (e:holds ρ es.gs=some true) (hfresh: ∀k,es.m<=k->k<es'.m-> ¬ K k):
  ∃v w' μ',(Instr.box t (a.eval x)).run P w= .ok v w'/\Out P N X ρ K S μ a w es es' sx μ' w' v:=by
 rw[Ab]at h
 obtain⟨_,_,_,_,b,h,rfl⟩:=h
 rw[Dh]at b
 obtain⟨_,rfl,rfl⟩:=b
 rw[Ab]at h
 obtain⟨vv,e1,u,_,g,h,rfl⟩:=h
 obtain⟨rfl,rfl,d,i⟩:=E1 G g e
 simp only[Ab,Af,Cc,Bd,Ad]at h
 obtain⟨_,_,_,_,⟨j,rfl,rfl⟩,⟨_,_,_,_,⟨rfl,rfl,rfl⟩,⟨_,_,_,_,⟨rfl,rfl⟩,⟨rfl,rfl,rfl⟩,rfl⟩,rfl⟩,rfl⟩:=h
 obtain⟨o,q,r⟩:=Abl (c:=Bh P X ρ (cur S es.obs) μ w) j d
 refine⟨_,_,_,?_,Adf (.refl G) hfresh d i o q r⟩
 simp[Instr.box,newVar,newRow]
theorem Asj {t:TypeId}(G:Good P N X ρ K S.tm (cur S es.obs) μ a w)(h:Ev S (do
   bare
   let v <-ofOption (Ug P t)
   EM.guard (Aaj P t v)
   let k <-Ga
   Em k (some (.box t v))
   pure (one (.leaf (.ptr (.p k 0)))):EM SX) es sx es' ls) (hfresh: ∀k,es.m<=k->k<es'.m-> ¬ K k):
  ∃v w' μ',(Instr.alloc t true (.tuple #[])).run P w= .ok v w'/\Out P N X ρ K S μ a w es es' sx μ' w' v:=by
 simp only[Ab,Dh,Ao,Af,Cc,Bd,Ad]at h
 obtain⟨_,_,_,_,⟨_,rfl,rfl⟩,⟨vv,_,_,_,⟨d,rfl,rfl⟩,⟨_,_,_,_,⟨b,rfl,rfl⟩,⟨_,_,_,_,⟨rfl,rfl,rfl⟩,⟨_,_,_,_,⟨rfl,rfl⟩,⟨rfl,rfl,rfl⟩,rfl⟩,rfl⟩,rfl⟩,rfl⟩,rfl⟩:=h
 unfold Ug at d
 simp only[aM]at d
 cases e:P.info? t with
 | none=>simp[e]at d
 | some i=>
  cases g:i.zero with
  | none=>simp[e,g]at d
  | some z=>
   simp only[e,g,aX]at d
   obtain⟨j,x,y,A,F⟩:=N3 (c:=Bh P X ρ (cur S es.obs) μ w) d
   have o:z.cells.size=Ag P t/\(if Ai P t then ∃cs,z= .agg cs else z.oneCell'=true):=by
    by_cases q:vv= .leaf .junk
    ·subst q
     simp only[Aaj,aC,bQ,beq_iff_eq]at b
     have r:=y b.1
     rw[Gx r]
     exact⟨by simp[b.2],by simp[b.1,r]⟩
    ·have B:Ke P t vv=true:=by
      unfold Aaj at b
      split at b
      ·exact absurd rfl q
      ·exact b
     obtain⟨C,E,_⟩:=Abl (c:=Bh P X ρ (cur S es.obs) μ w) B j
     exact⟨C,E⟩
   refine⟨_,_,_,?_,Adf (.refl G) hfresh j (λk u=>by rw[x]at u;simp at u) o.1 o.2 A⟩
   simp[Instr.alloc,zeroValue,typeInfo,e,g,newVar,newRow]
theorem T5 {O:Nat->Prop}{t:TypeId}{v:Value}{l:LV}{x:IV}(h:Ly P t v=some l)(a:Iu l=some x):Rel P w O t x v:=by
 unfold Ly at h
 split at h
 ·split at h
  ·rename_i b;injection h with h;subst h;simp[Iu]at a;subst a;exact .int (Cp b)
  ·cases h
 ·split at h
  ·rename_i b;injection h with h;subst h;simp[Iu]at a;subst a;exact .bool (Ce b)
  ·cases h
 ·split at h
  ·rename_i b;injection h with h;subst h;simp[Iu]at a;subst a;exact .str (D4 b)
  ·cases h
 ·split at h
  ·rename_i b;injection h with h;subst h;simp[Iu]at a;subst a
   obtain⟨e,c⟩:=aF.1 b
   exact(Row.nil e none 0).rel (Be c)
  ·cases h
 ·injection h with h;subst h;simp[Iu]at a
 ·injection h with h;subst h;simp[Iu]at a
 ·injection h with h;subst h;simp[Iu]at a
 ·injection h with h;subst h;simp[Iu]at a
 ·cases h
theorem Sk {O:Nat->Prop} : ∀ {ts:List TypeId} {vs:List Value} {ls:List LV} {xs:List IV},D3 P ts vs=some ls->N7 ls=some xs->Ho P w O ts xs vs
 | [],[],ls,xs,h,a=>by simp[D3]at h;subst h;simp[N7]at a;subst a;trivial
 | t::ts,v::vs,ls,xs,h,a=>by
  simp only[D3,bB,aM]at h
  cases b:Ly P t v with
  | none=>simp[b]at h
  | some l=>
   cases d:D3 P ts vs with
   | none=>simp[b,d]at h
   | some ls'=>
    simp[b,d]at h;subst h
    simp only[N7,bB,aM]at a
    cases c:Iu l with
    | none=>simp[c]at a
    | some x=>
     cases e:N7 ls' with
     | none=>simp[c,e]at a
     | some g=>
      simp[c,e]at a;subst a
      exact⟨T5 b c,Sk d e⟩
 | [],_::_,_,_,h,_=>by simp[D3]at h
 | _::_,[],_,_,h,_=>by simp[D3]at h
theorem R1 {O:Nat->Prop}{t:TypeId}{x:IV}(h:Adz P t=some x): ∃i z,P.info? t=some i/\i.zero=some z/\Rel P w O t x z:=by
 unfold Adz Ug at h
 simp only[aM]at h
 cases c:P.info? t with
 | none=>simp[c]at h
 | some i=>
  cases d:i.zero with
  | none=>simp[c,d]at h
  | some z=>
   simp only[c,d,aX]at h
   cases a:M6 P t z with
   | none=>simp[a]at h
   | some vv=>
    simp only[a,aX]at h
    refine⟨i,z,rfl,d,?_⟩
    unfold M6 at a
    split at a
    ·rename_i cs
     split at a
     ·rename_i g
      simp only[bB,aM]at a
      cases b:leaves P t with
      | none=>simp[b]at a
      | some ts=>
       cases e:D3 P ts cs.toList with
       | none=>simp[b,e]at a
       | some ls=>
        simp[b,e]at a;subst a
        simp only[aP]at h
        obtain⟨xs,h,rfl⟩:=h
        exact(Sk e h).agg g b
     ·cases a
    ·split at a
     ·cases a
     ·simp only[aP]at a
      obtain⟨l,a,rfl⟩:=a
      exact T5 a h
theorem Mz {e:TypeId}(h:Nf P e=true): ∃i z,P.info? e=some i/\i.zero=some z/\z.cells.size=Ag P e/\i.size=Ag P e/\i.bytes=Jd P e:=by
 unfold Nf at h
 cases a:P.info? e with
 | none=>simp[a]at h
 | some i=>
  cases b:i.zero with
  | none=>simp[a,b]at h
  | some z=>
   simp only[a,b,beq_iff_eq]at h
   exact⟨i,z,rfl,b,by simp[Ag,a,h],by simp[Ag,a],by simp[Jd,a]⟩
theorem Ad2 (z:Array Value)(sz l c:Nat)(a:z.size=sz)(i:0<sz)(m:l<=c):(madeCells z (c * sz)).toList.take (l * sz)=Ba (aR l (.agg z)):=by
 have hlen:(Ba (aR l (Value.agg z))).length =l * sz:=by
  rw[Dc (sz:=sz) (λv b=>by rw[(cB.1 b).2];exact a)]
  simp
 have hle:l * sz<=c * sz:=aO _ m
 apply bR
 intro q
 by_cases j:q<l * sz
 ·rw[aE,if_pos j]
  have o:q / sz<l:=(cM i).2 j
  have d:q % sz<sz:=dE _ i
  have e:=Qb (sz:=sz) (vs:=aR l (Value.agg z)) (λv b=>by rw[(cB.1 b).2];exact a) (q / sz) (.agg z) (by simp[o])
  have g:q / sz * sz+q % sz=q:=by rw[dH];exact dB q sz
  have:(Ba (aR l (Value.agg z)))[q]?=z.toList[q % sz]?:=by
   have r:(Value.agg z).cells.toList =z.toList:=rfl
   rw[<-r,<-e,aE,if_pos d,aH,g]
  rw[this]
  have h:q<c * sz:=by omega
  have t:q % z.size<z.size:=by rw[a];exact d
  simp[madeCells,h,a,d]
 ·rw[cN (by rw[aD];omega),cN (by omega)]
theorem Aa2 {t:TypeId}{x y:Operand}(G:Good P N X ρ K S.tm (cur S es.obs) μ a w)(h:Ev S (Rz P t x y) es sx es' ls)(hl:LH R ρ ls)(H:holds ρ es.gs=some true)(hfresh: ∀k,es.m<=k->k<es'.m-> ¬ K k):
  ∃v w' μ',(Instr.makeSlice t (a.eval x) (a.eval y)).run P w= .ok v w'/\Out P N X ρ K S μ a w es es' sx μ' w' v:=by
 unfold Rz at h
 rw[Ab]at h
 obtain⟨_,_,_,_,o,h,rfl⟩:=h
 rw[Dh]at o
 obtain⟨_,rfl,rfl⟩:=o
 rw[Ab]at h
 obtain⟨e,_,_,_,o,h,rfl⟩:=h
 rw[Ao]at o
 obtain⟨he,rfl,rfl⟩:=o
 rw[Ab]at h
 obtain⟨_,_,_,_,o,h,rfl⟩:=h
 rw[Af]at o
 obtain⟨r,rfl,rfl⟩:=o
 simp only[aC,decide_eq_true_eq]at r
 obtain⟨⟨r,g2⟩,g3⟩:=r
 rw[Ab]at h
 obtain⟨lA,e2,l2,_,h2,h,rfl⟩:=h
 obtain⟨rfl,rfl,l,kl,I,J⟩:=Qy G h2 H
 rw[Ab]at h
 obtain⟨cA,e3,l3,_,C,h,rfl⟩:=h
 obtain⟨rfl,rfl,c,kc,L,M⟩:=Qy G C H
 simp only[Ab,Ao,Bi,Cc,Bd,Ad]at h
 obtain⟨zi,_,_,_,⟨hz,rfl,rfl⟩,⟨_,_,_,_,⟨rfl,rfl,rfl⟩,⟨_,_,_,_,⟨rfl,rfl,rfl⟩,⟨_,_,_,_,⟨rfl,rfl⟩,⟨rfl,rfl,rfl⟩,rfl⟩,rfl⟩,rfl⟩,rfl⟩:=h
 obtain⟨vs,iv,r1,r2,r3⟩:=LH.Bv hl.right.right.right.right.right.right.left H
 obtain⟨u,v,E,F,rfl⟩:=Ab8 r1
 rw[I]at E;rw[L]at F
 injection E with E;injection F with F;subst E;subst F
 simp only[Prim.ev]at r2
 split at r2
 ·rename_i Q
  injection r2 with r2;subst r2
  obtain⟨i,z,U,Y,T,q4,q5⟩:=Mz g3
  obtain⟨i',z',d,g,q⟩:=R1 (w:=w) (O:=λb=>X b\/Wr (cur S es.obs) μ b) hz
  rw[U]at d;injection d with d;subst d
  rw[Y]at g;injection g with g;subst g
  have Z:=Be he
  have hb:(Jd P e:Int) * c<=140737488355328:=by
   have:A4=140737488355328:=rfl
   have C:=Q.2.2
   rw[this]at C
   rw[Int.mul_comm];exact C
  have aa:c<=140737488355328:=by
   have h1:(1:Int)<=Jd P e:=by omega
   have:(1:Int) * c<=Jd P e * c:=Int.mul_le_mul_of_nonneg_right h1 (by omega)
   omega
  have A:=run_make (P:=P) w t e i z Z U Y kl kc l c Q.1 Q.2.1 (by rw[q5];omega) (by omega)
  rw[J,M]
  refine⟨_,_,Db μ es.m (.slice (some ⟨w.heap.size,0,none⟩) l.toNat c.toNat),A,?_⟩
  rw[q4]
  have B:Gq P w (λb=>X b\/Wr (cur S es.obs) μ b) e (aR l.toNat zi) (aR l.toNat z):=
   Gq.Kq (by simp) λj x v hx hv=>by
    simp[List.getElem?_replicate]at hx hv
    obtain⟨_,rfl⟩:=hx
    obtain⟨_,rfl⟩:=hv
    exact⟨q,T⟩
  refine Ad9 (es:=es) (e1:= {es with n:=es.n+1}) (ivs:=aR l.toNat zi) (n:=l.toNat) (cap:=c.toNat) (cs:=madeCells z.cells (c.toNat * Ag P e)) (.same G rfl rfl rfl) hfresh r3 Z r (by simp) (by omega) ?_ (size_madeCells _ _) ?_ ?_
  ·have:maxLen=9223372036854775807:=by decide
   omega
  ·rw[Ad2 z.cells (Ag P e) l.toNat c.toNat T r (by omega)]
   have hh:Ba (aR l.toNat (Value.agg z.cells))=Ba (aR l.toNat z):=by
    simp only[Ba,List.flatMap_replicate]
    rfl
   rw[hh]
   exact B.elems
  ·intro u hu
   obtain⟨j,hj,rfl⟩:=cK.1 hu
   have ab:j<c.toNat * Ag P e:=by simpa [size_madeCells]using hj
   have hr:j % z.cells.size<z.cells.size:=dE _ (by rw[T];exact r)
   have:(madeCells z.cells (c.toNat * Ag P e))[j]=z.cells[j % z.cells.size]'hr:=by
    simp[madeCells,hr]
   rw[this]
   exact q.cells_one _ (Array.getElem_mem hr)
 ·cases r2
end
end Go.CT
namespace Go.CT
open EM
def Ahu:Nat->List Value->List (Nat × Value)
 | _,[]=> []
 | j,v::vs=>(j,v)::Ahu (j+1) vs
theorem Wt {sz:Nat} : ∀ (vs:List Value) (j:Nat) (cells:Array Value),(∀v∈vs,v.cells.size=sz)->(j+vs.length) * sz<=cells.size->
  ∃cells',Instr.fill (λi=>some (i * sz,sz)) cells (Ahu j vs)=some cells'/\cells'.toList=cells.toList.take (j * sz)++Ba vs++cells.toList.drop ((j+vs.length) * sz)
 | [],j,cells,_,_=>⟨cells,rfl,by simp[Ba]⟩
 | v::vs,j,cells,o,g=>by
  have b:=o v aU
  have A:j * sz+sz<=cells.size:=by
   have:(j+1) * sz<=(j+(vs.length+1)) * sz:=aO _ (by omega)
   simp only[bC]at g
   rw[bG,cD]at this
   omega
  have h:=Abp (j * sz) v.cells.toList 0 cells (by simp[b];omega)
  let cells1:=(v.cells.toList.zipIdx 0).foldl (fun(cs:Array Value) (p:Value × Nat)=>cs.setIfInBounds (j * sz+p.2) p.1) cells
  have d:cells1.toList=cells.toList.take (j * sz)++v.cells.toList++cells.toList.drop (j * sz+sz):=by
   have:=h
   simp only[cH,aA,b]at this
   exact this
  have e:cells1.size=cells.size:=by
   have:=congrArg cZ d
   simp only[aA,aW,aD,aK,b]at this
   omega
  obtain⟨cells',r,t⟩:=Wt vs (j+1) cells1 (λu w=>o u (aV _ w)) (by rw[e];simp only[bC]at g;rw[cT,cI 1];exact g)
  refine⟨cells',?_,?_⟩
  ·simp only[Ahu,Instr.fill]
   have a:(decide (v.cells.size≠sz)||decide (j * sz+v.cells.size > cells.size))=false:=by simp[b];omega
   rw[a]
   simp only[aJ,Zf]
   have:v.cells.zipIdx.foldl (λcs x=>match x with | (c,j_1)=>cs.setIfInBounds (j * sz+j_1) c) cells=cells1:=by
    show _=(v.cells.toList.zipIdx 0).foldl _ cells
    rw[<-cW]
    simp
   rw[this]
   exact r
  ·rw[t,d]
   have e1:(j+1) * sz=j * sz+sz:=by rw[bG,cD]
   have q:(j+1+vs.length) * sz=j * sz+sz+vs.length * sz:=by rw[bG,e1]
   have y:(j+(v::vs).length) * sz=j * sz+sz+vs.length * sz:=by rw[bC,<-q];congr 1;omega
   have B:(cells.toList.take (j * sz)).length =j * sz:=by rw[aD,aA];omega
   have C:v.cells.toList.length=sz:=by rw[aA,b]
   rw[e1,q,y]
   have z:(cells.toList.take (j * sz)++v.cells.toList++cells.toList.drop (j * sz+sz)).take (j * sz+sz)=cells.toList.take (j * sz)++v.cells.toList:=by
    rw[bH (by rw[aW];omega),bS (by rw[aW];omega)]
   have t2:(cells.toList.take (j * sz)++v.cells.toList++cells.toList.drop (j * sz+sz)).drop (j * sz+sz+vs.length * sz)=cells.toList.drop (j * sz+sz+vs.length * sz):=by
    have m:(cells.toList.take (j * sz)++v.cells.toList).length =j * sz+sz:=by rw[aW];omega
    rw[<-bF,List.drop_left' m,bF]
   rw[z,t2]
   simp[Ba]
section
variable {P:Program}{N:Nat}{X:Nat->Prop}{R:Job->List IV->Option (List IV)}{ρ:List IV}{K:Nat->Prop}{S:View}{μ:Nat->Value}{a:Act}{w:World}{es es':ES}{ls:List PLt}{sx:SX}
theorem Gq.later {c c':Cx}(L:Dp K c c'){e:TypeId} : ∀ {xs:List IV} {vs:List Value},Gq c.P c.w c.O e xs vs->Gq c'.P c'.w c'.O e xs vs
 | [],[],_=>trivial
 | _::_,_::_,h=>⟨⟨L.rel h.1.1,by rw[L.P];exact h.1.2⟩,Gq.later L h.2⟩
 | [],_::_,h=>h.elim
 | _::_,[],h=>h.elim
theorem Ms {e:TypeId}(b:Nk P e=true): ∀ {parts:List (Nat × Operand)} {j:Nat} {es es':ES} {as:List Arg} {ls:List PLt},Good P N X ρ K S.tm (cur S es.obs) μ a w->Ev S (Ky P e parts j) es as es' ls->LH R ρ ls->holds ρ es.gs=some true->
  Ph P N X ρ K S μ a w es es'/\ ∃xs,Arg.evs ρ as=some xs/\Gq P w (Bh P X ρ (cur S es'.obs) μ w).O e xs (parts.map λp=>a.eval p.2)/\parts.map (λp=>(p.1,a.eval p.2))=Ahu j (parts.map λp=>a.eval p.2)
 | [],j,es,es',as,ls,G,h,c,d=>by
  unfold Ky at h
  rw[Ad]at h
  obtain⟨rfl,rfl,rfl⟩:=h
  exact⟨.refl G,[],rfl,trivial,rfl⟩
 | (i,x)::I,j,es,es',as,ls,G,h,c,d=>by
  unfold Ky at h
  rw[Ab]at h
  obtain⟨_,_,_,_,g,h,rfl⟩:=h
  rw[Af]at g
  obtain⟨m,rfl,rfl⟩:=g
  have:i=j:=by simpa using m
  subst this
  rw[Ab]at h
  obtain⟨vv,e1,J,_,o,h,rfl⟩:=h
  obtain⟨rfl,rfl,t,u⟩:=E1 G o d
  rw[Ab]at h
  obtain⟨y,L,M,_,A,h,rfl⟩:=h
  have c:=c.right.right
  obtain⟨p,_,B⟩:=D6 G A c.left d u t
  simp only[Ab,Ad]at h
  obtain⟨r,Q,T,_,C,⟨rfl,rfl,rfl⟩,rfl⟩:=h
  obtain⟨q,xs,E,F,H⟩:=Ms b p.Cj C c.right.left (by rw[p.gs];exact d)
  obtain⟨z,d1,d2⟩:=q.later.A87 (B rfl)
  exact⟨p.trans q,z::xs,Ey d1 E,⟨⟨d2,d2.sized b⟩,F⟩,by simp only[cV,Ahu,H]⟩
theorem W9 {t:TypeId}{len:Nat}{parts:Array (Nat × Operand)}(G:Good P N X ρ K S.tm (cur S es.obs) μ a w)(h:Ev S (Ow P t len parts) es sx es' ls)(B:LH R ρ ls)(H:holds ρ es.gs=some true)(hfresh: ∀k,es.m<=k->k<es'.m-> ¬ K k):
  ∃v w' μ',(Instr.buildSlice t len (parts.map fun(i,x)=>(i,a.eval x))).run P w= .ok v w'/\Out P N X ρ K S μ a w es es' sx μ' w' v:=by
 unfold Ow at h
 rw[Ab]at h
 obtain⟨_,_,_,_,d,h,rfl⟩:=h
 rw[Dh]at d
 obtain⟨_,rfl,rfl⟩:=d
 rw[Ab]at h
 obtain⟨e,_,_,_,d,h,rfl⟩:=h
 rw[Ao]at d
 obtain⟨Q,rfl,rfl⟩:=d
 rw[Ab]at h
 obtain⟨_,_,_,_,d,h,rfl⟩:=h
 rw[Af]at d
 obtain⟨C,rfl,rfl⟩:=d
 simp only[aC,decide_eq_true_eq,beq_iff_eq]at C
 obtain⟨⟨⟨⟨C,I⟩,J⟩,T⟩,U⟩:=C
 rw[Ab]at h
 obtain⟨as,e1,l1,_,Y,h,rfl⟩:=h
 have B:=B.right.right.right
 obtain⟨p,xs,Z,j,q3⟩:=Ms U G Y B.left H
 simp only[Ab,Bi,Cc,Bd,Ad]at h
 obtain⟨_,_,_,_,⟨rfl,rfl,rfl⟩,⟨_,_,_,_,⟨rfl,rfl,rfl⟩,⟨_,_,_,_,⟨rfl,rfl⟩,⟨rfl,rfl,rfl⟩,rfl⟩,rfl⟩,rfl⟩:=h
 obtain⟨vs,iv,r1,r2,r3⟩:=LH.Bv B.right.left (by rw[p.gs];exact H)
 rw[Z]at r1;injection r1 with r1;subst r1
 simp only[Prim.ev,aB]at r2;subst r2
 obtain⟨i,z,E,z2,z3,z4,z5⟩:=Mz T
 have F:=Be Q
 have hlen:(parts.toList.map λp=>a.eval p.2).length =len:=by simp[J]
 have o:=j.len
 rw[hlen]at o
 let vs0:=parts.toList.map λp=>a.eval p.2
 have aa:(if len * Ag P e=0 then(#[]:Array Value) else z.cells)=if len * Ag P e=0 then #[]else z.cells:=rfl
 let cells0:Array Value:=(Array.range (len * Ag P e)).map ((if len * Ag P e=0 then(#[]:Array Value) else z.cells)[· % (if len * Ag P e=0 then(#[]:Array Value) else z.cells).size]!)
 have q:cells0.size=len * Ag P e:=by simp[cells0]
 obtain⟨cells',L,f2⟩:=Wt (sz:=Ag P e) vs0 0 cells0 (λv r=>(j.size v r).1) (by rw[q,bY];exact aO _ (by simp[vs0,J]))
 have y:vs0.length=len:=hlen
 have g:cells'.toList=Ba vs0:=by
  rw[f2,bX,cR,bW,bY,y,bJ (by rw[aA,q];exact aY _),cJ]
 have A:cells'.size=len * Ag P e:=by
  rw[<-aA,g,Dc (sz:=Ag P e) (λv r=>(j.size v r).1),y]
 refine⟨.slice (some ⟨w.heap.size,0,none⟩) len len,w.alloc (.cells cells' e),Db μ e1.m (.slice (some ⟨w.heap.size,0,none⟩) len len),?_,?_⟩
 ·have hparts:(parts.map fun(x:Nat × Operand)=>match x with | (i,x)=>(i,a.eval x)).toList =Ahu 0 vs0:=by
   rw[cY]
   have:(fun(x:Nat × Operand)=>match x with | (i,x)=>(i,a.eval x))=λp=>(p.1,a.eval p.2):=by funext ⟨i,x⟩;rfl
   rw[this];exact q3
  unfold Instr.buildSlice
  have M: ¬ (len * Ag P e > 2 ^ 24):=by omega
  by_cases c:len * Ag P e=0
  ·simp only[underlying,Sem.run_bind,run_program,Result.andThen_ok,F,Sem.run_pure,run_sizeOf E,if_neg M,if_pos c,hparts]
   have b:=L
   simp only[cells0,if_pos c]at b
   rw[b]
   simp[newRow]
  ·simp only[underlying,Sem.run_bind,run_program,Result.andThen_ok,F,Sem.run_pure,run_sizeOf E,if_neg M,if_neg c,hparts,zeroValue,typeInfo,E,z2]
   have b:=L
   simp only[cells0,if_neg c]at b
   rw[b]
   simp[newRow]
 ·refine Ad9 (es:=es) (e1:= {e1 with n:=e1.n+1}) (ivs:=xs) (n:=len) (cap:=len) (cs:=cells') ⟨p.Cj,p.Dv,p.m,p.gs⟩ hfresh r3 F I o (aY _) ?_ A ?_ ?_
  ·have:maxLen=9223372036854775807:=by decide
   have:=cF len I
   omega
  ·rw[bS (by rw[aA,A];exact aY _),g]
   exact j.elems
  ·intro u hu
   have:u∈cells'.toList:=by simpa using hu
   rw[g]at this
   exact Ei (λv r=>(j.size v r).2) u this
theorem Qg (A:Option Addr)(n c:Nat):blk (.slice A n c)=(Value.slice A n c).ownBlock :=by cases A<;>rfl
theorem Pt {e:TypeId}{sv:VV}{old:Option Nat}{c:Arg}{v:Value}(G:Good P N X ρ K S.tm (cur S es.obs) μ a w)(h:Ev S (Qs P e sv) es (old,c) es' ls)(hl:LH R ρ ls)(hg:holds ρ es.gs=some true)
  (g:K0 (Bh P X ρ (cur S es.obs) μ w) sv v) (hs:0<Ag P e):
  (∃n,es'= {es with n})/\ ∃ivs cs,c.ev ρ=some (.list ivs)/\w.ownsRow 0 e (Ag P e) v ivs.length cs/\Ja P w (Bh P X ρ (cur S es.obs) μ w).O e ivs cs/\
   (old=none->v= .slice none 0 0)/\ ∀k,old=some k->(∃t F,cur S es.obs k=some (.arr e t F))/\v.ownBlock=blk (μ k):=by
 unfold Qs at h
 split at h
 ·rw[Ad]at h
  obtain⟨i,rfl,rfl⟩:=h
  injection i with i z;subst i;subst z
  have g:v= .slice none 0 0:=g
  subst g
  exact⟨⟨es.n,rfl⟩,[],[],rfl,World.ownsRow_nil _ _ _ _,λj x B=>by simp at B,λ_=>rfl,λk m=>by cases m⟩
 ·rename_i k t
  obtain⟨g,_⟩:=g
  have g:v=μ k:=g
  subst g
  rw[Ab]at h
  obtain⟨o,_,_,l2,C,h,rfl⟩:=h
  rw[Bp]at C
  obtain⟨q,rfl,rfl⟩:=C
  cases o with
  | box=>simp[Ac]at h
  | frz=>simp[Ac]at h
  | iter=>simp[Ac]at h
  | mp=>simp[Ac]at h
  | arr e' tt F=>
   simp only[Ab,Af,Ad]at h
   obtain⟨_,_,_,_,⟨H,rfl,rfl⟩,⟨i,rfl,rfl⟩,rfl⟩:=h
   have:e=e':=by simpa using H
   subst this
   injection i with i z;subst i;subst z
   obtain⟨ivs,cs,I,q2,q3,J,L,q6⟩:=G.obj k _ q
   refine⟨⟨es.n,rfl⟩,ivs,cs,I,J,L,(λh=>by cases h),λk' m=>?_⟩
   injection m with m;subst m
   refine⟨⟨_,_,q⟩,?_⟩
   obtain⟨_,_,_,_,M,_⟩:=G.Apl q
   rw[M,Qg]
 ·rename_i k hi t
  obtain⟨A,n,cap,l,r,d,p0,p1,p2,p3,p4,p5,p6⟩:=g
  have Q:(Arg.k (.int 0)).ev ρ=some (.int l):=p2
  simp only[Arg.ev,aB,IV.int.injEq]at Q
  have T:l=0:=by omega
  subst T
  rw[Ab]at h
  obtain⟨o,_,_,l2,C,h,rfl⟩:=h
  rw[Bp]at C
  obtain⟨q,rfl,rfl⟩:=C
  cases o with
  | box=>simp[Ac]at h
  | frz=>simp[Ac]at h
  | iter=>simp[Ac]at h
  | mp=>simp[Ac]at h
  | arr e' tt F=>
   simp only[Ab,Af,Bi,Ad]at h
   obtain⟨_,_,_,_,⟨H,rfl,rfl⟩,⟨_,_,_,_,⟨rfl,rfl,rfl⟩,⟨i,rfl,rfl⟩,rfl⟩,rfl⟩:=h
   simp only[aC,beq_iff_eq]at H
   obtain⟨rfl,g2⟩:=H
   have U:d=e:=by
    have:=Be g2
    have b:P.underlying t=some (.slice d):=p0
    rw[this]at b;injection b with b;injection b with b;exact b.symm
   subst U
   injection i with i z;subst i;subst z
   obtain⟨ivs,cs,I,q2,q3,J,L,q6⟩:=G.obj k _ q
   obtain⟨_,A',cap',q1'',q2'',_⟩:=G.Apl q
   have q1s:F.ev ρ=some (.list ivs):=I
   rw[q1s]at q1'';injection q1'' with q1'';injection q1'' with q1'';subst q1''
   have E:μ k= .slice A n cap:=p1
   rw[q2'']at E;injection E with i1 i2 i3
   subst i1;subst i2;subst i3
   obtain⟨vs,y,r1,r2,r3⟩:=LH.Bv hl.right.right.left hg
   obtain⟨rfl,_,Y⟩:=Q0 (l:=0) (_n:=0) I (by rfl) p3 r1 r2
   have g:v= .slice A' r cap':=by
    rw[p6]
    simp only[bX,Nat.sub_zero]
    split
    ·rfl
    ·congr 1
     cases A' with
     | none=>rfl
     | some ad=>simp[A6]
   subst g
   rw[bM]at r3
   have Z:w.ownsRow 0 d (Ag P d) (.slice A' ivs.length cap') ivs.length cs:=by
    have:w.ownsRow 0 d (Ag P d) (μ k) ivs.length cs:=J
    rwa [q2'']at this
   have hr:(ivs.take r).length =r:=by rw[aD];omega
   refine⟨⟨es.n+1,rfl⟩,ivs.take r,cs.take (r * Ag P d),r3,by rw[hr];exact Aoe Z Y,?_,(λh=>by cases h),λk' m=>?_⟩
   ·intro j x B
    have hj:=(aG.1 B).1
    rw[hr]at hj
    rw[aE,if_pos hj]at B
    obtain⟨u,t1,t2,t3⟩:=L j x B
    refine⟨u,t1,?_,t3⟩
    rw[t2,List.drop_take,dF]
    congr 1
    have:j * Ag P d+Ag P d<=r * Ag P d:=by rw[<-cG];exact aO _ hj
    show Ag P d=min (Ag P d) _
    omega
   ·injection m with m;subst m
    exact⟨⟨_,_,q⟩,by rw[q2'',Qg];cases A'<;>rfl⟩
 ·simp[Ac]at h
end
end Go.CT
namespace Go.CT
open EM
section
variable {P:Program}{N:Nat}{X:Nat->Prop}{R:Job->List IV->Option (List IV)}{ρ:List IV}{K:Nat->Prop}{S:View}{μ:Nat->Value}{a:Act}{w:World}{es es':ES}{ls:List PLt}{sx:SX}
theorem Anl {st xt rt:TypeId}{s x:Operand}(G:Good P N X ρ K S.tm (cur S es.obs) μ a w)(h:Ev S (Agh P st xt s x rt) es sx es' ls)(hl:LH R ρ ls)(hg:holds ρ es.gs=some true)(hfresh: ∀k,es.m<=k->k<es'.m-> ¬ K k):
  ∃v w' μ',(Builtin.append_ #[st,xt] rt #[a.eval s,a.eval x]).run P w= .ok v w'/\Out P N X ρ K S μ a w es es' sx μ' w' v:=by
 unfold Agh at h
 rw[Ab]at h
 obtain⟨_,_,_,_,H,h,rfl⟩:=h
 rw[Dh]at H
 obtain⟨_,rfl,rfl⟩:=H
 rw[Ab]at h
 obtain⟨e,_,_,_,H,h,rfl⟩:=h
 rw[Ao]at H
 obtain⟨he,rfl,rfl⟩:=H
 rw[Ab]at h
 obtain⟨_,_,_,_,H,h,rfl⟩:=h
 rw[Af]at H
 obtain⟨T,rfl,rfl⟩:=H
 simp only[aC,decide_eq_true_eq,beq_iff_eq]at T
 obtain⟨⟨⟨T,g2⟩,rfl⟩,g4⟩:=T
 rw[Ab]at h
 obtain⟨sv,e1,l1,_,I,h,rfl⟩:=h
 obtain⟨rfl,rfl,sv3,sv4⟩:=E1 G I hg
 rw[Ab]at h
 obtain⟨xv,e1,l1,_,I,h,rfl⟩:=h
 obtain⟨rfl,rfl,xv3,xv4⟩:=E1 G I hg
 have hl:=hl.right.right.right.right.right
 rw[Ab]at h
 obtain⟨y,B,l2,_,L,h,rfl⟩:=h
 obtain⟨p,hB,_⟩:=D6 G L hl.left hg xv4 xv3
 have aa:holds ρ B.gs=some true:=by rw[p.gs];exact hg
 rw[Ab]at h
 obtain⟨⟨old,c⟩,e3,l3,_,U,h,rfl⟩:=h
 obtain⟨⟨n3,rfl⟩,ivs,cs,q1,q2,q3,q4,q5⟩:=Pt p.Cj U hl.right.left aa (p.later.Apb sv4 sv3) T
 simp only[Ab,Bi,Cc,Bd,Ad]at h
 obtain⟨_,_,_,_,⟨rfl,rfl,rfl⟩,⟨_,d,l4,_,J,⟨_,_,_,_,⟨rfl,rfl,rfl⟩,⟨_,_,_,_,⟨rfl,rfl⟩,⟨rfl,rfl,rfl⟩,rfl⟩,rfl⟩,rfl⟩,rfl⟩:=h
 obtain⟨vs,iv,r1,r2,r3⟩:=LH.Bv hl.right.right.left aa
 obtain⟨u,v,s1,s2,rfl⟩:=Ab8 r1
 rw[q1]at s1;injection s1 with s1;subst s1
 have ht:=Be he
 obtain⟨yiv,b1,b2,b3⟩:=hB
 obtain⟨ys,A,cap,rfl,hx,ab⟩:=b3 e ht
 have ah:y.ev ρ=some (.list ys):=b1
 rw[ah]at s2;injection s2 with s2;subst s2
 simp only[Prim.ev]at r2
 split at r2
 ·rename_i hbytes
  injection r2 with r2;subst r2
  obtain⟨i,z,z1,z2,z3,z4,z5⟩:=Mz g4
  have ai:A4=140737488355328:=rfl
  have an:maxLen=9223372036854775807:=by decide
  have Q:ivs.length+ys.length<=maxLen:=by
   have:=cF (ivs.length+ys.length) g2
   omega
  obtain⟨us,M,hcells⟩:=ab.Apa
  have ac:=M.len
  -- what the machine does
  have run: ∃r w',(Builtin.append_ #[st,st] rt #[a.eval s,a.eval x]).run P w= .ok r w'/\w'.ownsRow 0 e (Ag P e) r (ivs.length+ys.length) (cs++Ba us)/\w.grownBy w' (a.eval s).ownBlock /\
    (r.ownBlock=(a.eval s).ownBlock \/r.ownBlock=some w.heap.size):=by
   rw[hx]
   by_cases H:0<ys.length
   ·obtain⟨ad,rfl,aj⟩:=hcells H
    obtain⟨r,w',t1,t2,t3,_,t4⟩:=run_append_own_at (P:=P) w 0 st rt e i z (Ag P e) (Jd P e) ht z1 z2 z4 z5 z3 T (a.eval s) ivs.length cs q2 ad ys.length cap (Ba us)
     (by have:=Dc (sz:=Ag P e) (vs:=us) (λv hv=>(M.size v hv).1);rw[this,<-ac]) aj (Ei λv hv=>(M.size v hv).2) Q (by omega) (cP _)
    exact⟨r,w',t1,t2,t3,t4⟩
   ·have hy:ys= []:=aT.1 (by omega)
    subst hy
    have hu:us= []:=aT.1 (by rw[<-ac];rfl)
    subst hu
    cases A with
    | none=>
     refine⟨a.eval s,w,V5 0 ht z1 _ _ cap _ q2,?_,⟨rfl,rfl,rfl,aY _,λ_ _ _=>rfl⟩,.inl rfl⟩
     simpa [Ba]using q2
    | some ad=>
     obtain⟨r,w',t1,t2,t3,_,t4⟩:=run_append_own_at (P:=P) w 0 st rt e i z (Ag P e) (Jd P e) ht z1 z2 z4 z5 z3 T (a.eval s) ivs.length cs q2 ad 0 cap []
      (by simp) (λj u h=>by simp at h) (λu h=>by simp at h) Q (by rw[<-ai];exact hbytes) (cP _)
     exact⟨r,w',t1,by simpa [Ba]using t2,t3,t4⟩
  obtain⟨r,w',t1,t2,t3,t4⟩:=run
  -- what has become of the state
  obtain⟨A',n',cap',ae⟩: ∃A n c,r= .slice A n c:=by
   rcases t2.2 with⟨h,_⟩ | ⟨g,cap,cu,h,_⟩
   ·exact⟨_,_,_,h⟩
   ·exact⟨_,_,_,h⟩
  have Y:blk r=r.ownBlock:=by rw[ae,Qg]
  -- the old row's block is ours
  have hold: ∀b,(a.eval s).ownBlock =some b-> ∃k t c0,old=some k/\cur S B.obs k=some (.arr e t c0)/\blk (μ k)=some b:=by
   intro b q
   cases old with
   | none=>rw[q4 rfl]at q;simp[Value.ownBlock]at q
   | some k=>
    obtain⟨⟨t,c0,I⟩,L⟩:=q5 k rfl
    exact⟨k,t,c0,rfl,I,by rw[<-L];exact q⟩
  obtain⟨af,ag,ao⟩:cur S d.obs=(match old with | some k=>Bo (cur S B.obs) k none | none=>cur S B.obs)/\d.m=B.m/\d.gs=B.gs:=by
   unfold Pq at J
   cases old with
   | none=>rw[Ad]at J;obtain⟨_,rfl,_⟩:=J;exact⟨rfl,rfl,rfl⟩
   | some k=>
    rw[Bd]at J
    obtain⟨rfl,_⟩:=J
    exact⟨by rw[show({n:=B.n,m:=B.m,gs:=B.gs,obs:=(k,none)::B.obs} :ES).obs =(k,none)::B.obs from rfl]<;>exact Bm ..,rfl,rfl⟩
  have hm: ¬ K d.m:=hfresh d.m (by rw[ag,p.m];exact aY _) (bA _)
  have F: ∀k o,cur S d.obs k=some o->cur S B.obs k=some o/\old≠some k:=by
   intro k o E
   rw[af]at E
   cases old with
   | none=>exact⟨E,by simp⟩
   | some k0=>
    simp only[Bo]at E
    split at E
    ·cases E
    ·rename_i Z
     exact⟨E,by simpa using λh=>Z h.symm⟩
  have hP:Put P X ρ K (cur S B.obs) (Bo (cur S d.obs) d.m (some (.arr e st (.v n3)))) μ w w' d.m (.arr e st (.v n3)) r:=
   {
    other:=λC o' h E=>(F C o' (by simpa [Bo,h]using E)).1
    here:=by simp[Bo]
    same:=λC h=>Cy (λe=>hm (e ▸ h))
    step:=⟨t3.os,t3.tape,t3.output,t3.size,λb q hW=>t3.block b q (λh=>by
     obtain⟨k,t,c0,_,L,U⟩:=hold b h.symm
     exact hW ⟨k,_,L,rfl,U⟩)⟩
    rest:=λC o' b h E hi q=>by
     obtain⟨I,L⟩:=F C o' (by simpa [Bo,h]using E)
     refine t3.block b (p.Cj.Mg I hi q) (λak=>?_)
     obtain⟨k,t,c0,U,J,h5⟩:=hold b ak.symm
     have:=p.Cj.sep C k _ _ b I J hi rfl q h5
     subst this
     exact L U
    new:=λb q=>by
     rw[Y]at q
     rcases t4 with h | h
     ·rw[h]at q
      obtain⟨k,t,c0,U,J,h5⟩:=hold b q
      refine .inl ⟨⟨k,_,J,rfl,h5⟩,λC o' Z E hi al=>?_⟩
      obtain⟨I,L⟩:=F C o' (by simpa [Bo,Z]using E)
      have:=p.Cj.sep C k _ _ b I J hi rfl al h5
      subst this
      exact L U
     ·rw[h]at q;injection q with q;exact .inr (by omega)
    keys:=λC h=>by simp[E4]at h}
  obtain⟨vs0,w1,w2⟩:=q3.Apa (by
   have:=q2.1
   omega)
  have hE:Gq P w (Bh P X ρ (cur S B.obs) μ w).O e (ivs++ys) (vs0++us):=w1.append M
  have am:Ae3 (Bh P X ρ (Bo (cur S d.obs) d.m (some (.arr e st (.v n3)))) (Db μ d.m r) w') d.m (.arr e st (.v n3)):=by
   refine⟨ivs++ys,cs++Ba us,r3,ht,T,?_,hP.later.elems ?_,?_⟩
   ·show World.ownsRow _ 0 e (Ag P e) (Db μ d.m r d.m) _ _
    rw[Bb,aW]
    exact t2
   ·rw[w2,<-D7]
    exact hE.elems
   ·rw[w2,<-D7]
    exact Ei λv hv=>(hE.size v hv).2
  have hK: ∀C,K C\/C=d.m->As K es.m (d.m+1) C:=by
   rintro C (h | rfl)
   ·exact .inl h
   ·exact .inr ⟨by rw[ag,p.m];exact aY _,bA _⟩
  refine⟨r,w',Db μ d.m r,t1,?_,?_,?_,?_,?_,hP.same⟩
  ·show Good P N X ρ (As K es.m (d.m+1)) S.tm (cur S ((d.m,some (.arr e st (.v n3)))::d.obs)) _ a _
   rw[Bm]
   exact hP.Cj p.Cj am hK
  ·exact⟨Bb.symm,_,_,_,ae⟩
  ·intro k h
   simp[Ca,Ax,A5,one]at h
   subst h
   exact hK _ (.inr rfl)
  ·have:=hP.step
   exact⟨this.os,this.tape,this.output,this.size,λb q hW=>this.stays b q λh=>hW (p.Dv.wr h)⟩
  ·intro b q
   have q:Wr (cur S ((d.m,some (.arr e st (.v n3)))::d.obs)) _ b:=q
   rw[Bm]at q
   exact(hP.own p.Cj b q).imp p.Dv.wr id
 ·cases r2
theorem Dt.Al5 {c:Cx}{cs new:List LV}{vs us:List Value}(h:Dt c cs vs)(h':Dt c new us)(off:Nat):
  Dt c (cs.take off++new++cs.drop (off+new.length)) (vs.take off++us++vs.drop (off+us.length)):=by
 rw[h'.len]
 exact((h.take off).append h').append (h.drop _)
theorem Mq {place:Nat->Option (Nat × TypeId)}{place':Nat->Option (Nat × Nat)}(hp: ∀i off t,place i=some (off,t)->place' i=some (off,Ag P t)):
  ∀ {parts:List (Nat × Operand)} {cs r:List LV} {cells:Array Value} {es es':ES} {ls:List PLt},Good P N X ρ K S.tm (cur S es.obs) μ a w->Ev S (Ks P place parts cs) es r es' ls->LH R ρ ls->holds ρ es.gs=some true->
  Dt (Bh P X ρ (cur S es.obs) μ w) cs cells.toList->(∀k∈cs.flatMap A5,K k)->
  (∃n,es'= {es with n})/\ ∃cells',Instr.fill place' cells (parts.map λp=>(p.1,a.eval p.2))=some cells'/\Dt (Bh P X ρ (cur S es.obs) μ w) r cells'.toList/\ ∀k∈r.flatMap A5,K k
 | [],cs,r,cells,es,es',ls,G,h,g,o,q,u=>by
  unfold Ks at h
  rw[Ad]at h
  obtain⟨rfl,rfl,rfl⟩:=h
  exact⟨⟨es.n,rfl⟩,cells,rfl,q,u⟩
 | (i,x)::Z,cs,r,cells,es,es',ls,G,h,g,o,q,u=>by
  unfold Ks at h
  rw[Ab]at h
  obtain⟨⟨off,t⟩,_,_,_,j,h,rfl⟩:=h
  rw[Ao]at j
  obtain⟨E,rfl,rfl⟩:=j
  rw[Ab]at h
  obtain⟨vv,e1,l1,_,F,h,rfl⟩:=h
  obtain⟨rfl,rfl,H,I⟩:=E1 G F o
  have g:=g.right.right
  rw[Ab]at h
  obtain⟨new,e2,l2,_,J,h,rfl⟩:=h
  obtain⟨⟨L,rfl⟩,C,M⟩:=I6 J g.left o I H
  rw[Ab]at h
  obtain⟨_,_,_,_,j,h,rfl⟩:=h
  rw[Af]at j
  obtain⟨y,rfl,rfl⟩:=j
  simp only[aC,beq_iff_eq,decide_eq_true_eq]at y
  obtain⟨y,g2⟩:=y
  have Q:(a.eval x).cells.size =Ag P t:=by rw[<-y,C.len,aA]
  have T:cs.length=cells.size:=by rw[q.len,aA]
  let cells1:=((a.eval x).cells.toList.zipIdx 0).foldl (fun(cs:Array Value) (p:Value × Nat)=>cs.setIfInBounds (off+p.2) p.1) cells
  have m:=Abp off (a.eval x).cells.toList 0 cells (by simp only[aA];omega)
  simp only[cH]at m
  have z:Dt (Bh P X ρ (cur S es.obs) μ w) (cs.take off++new++cs.drop (off+new.length)) cells1.toList:=by
   have:cells1.toList=_:=m
   rw[this]
   exact q.Al5 C off
  have A: ∀k∈(cs.take off++new++cs.drop (off+new.length)).flatMap A5,K k:=by
   intro k b
   simp only[cS,bV]at b
   rcases b with (b | b) | b
   ·simp only[aS]at b ⊢
    obtain⟨l,b,d⟩:=b
    exact u k (aS.2 ⟨l,bN b,d⟩)
   ·exact M k b
   ·simp only[aS]at b ⊢
    obtain⟨l,b,d⟩:=b
    exact u k (aS.2 ⟨l,bT b,d⟩)
  obtain⟨⟨U,B⟩,cells',r1,r2,Y⟩:=Mq hp (es:= {es with n:=L}) G h g.right.right o z A
  refine⟨⟨U,B⟩,cells',?_,r2,Y⟩
  rw[cV]
  unfold Instr.fill
  rw[hp i off t E]
  have e:(decide ((a.eval x).cells.size ≠Ag P t)||decide (off+(a.eval x).cells.size > cells.size))=false:=by simp[Q];omega
  simp only[e,aJ,Zf]
  have:(a.eval x).cells.zipIdx.foldl (λcs x=>match x with | (c,j_1)=>cs.setIfInBounds (off+j_1) c) cells=cells1:=by
   show _=((a.eval x).cells.toList.zipIdx 0).foldl _ cells
   rw[<-cW]
   simp
  rw[this]
  exact r1
theorem Adw: ∀ (fs:List Field),(∀f∈fs,(P.info? f.type).isSome =true)->fs.mapM (λf=>(P.info? f.type).map λi=>(f.offset,i.size))=some (fs.map λf=>(f.offset,Ag P f.type))
 | [],_=>rfl
 | f::fs,h=>by
  obtain⟨i,a⟩:=aF.1 (h f aU)
  rw[bZ,Adw fs λg b=>h g (aV _ b),a]
  simp[Ag,a]
theorem Ati {t:TypeId}{parts:Array (Nat × Operand)}(G:Good P N X ρ K S.tm (cur S es.obs) μ a w)(h:Ev S (Aqw P t parts) es sx es' ls)(y:LH R ρ ls)(Q:holds ρ es.gs=some true):
  ∃v,(Instr.build t (parts.map fun(i,x)=>(i,a.eval x))).run P w= .ok v w/\Out P N X ρ K S μ a w es es' sx μ w v:=by
 unfold Aqw at h
 rw[Ab]at h
 obtain⟨zv,_,_,_,T,h,rfl⟩:=h
 rw[Ao]at T
 obtain⟨g,rfl,rfl⟩:=T
 have y:=y.right
 unfold Ug at g
 simp only[aM]at g
 cases j:P.info? t with
 | none=>simp[j]at g
 | some i=>
 cases A:i.zero with
 | none=>simp[j,A]at g
 | some z=>
 simp only[j,A,aX]at g
 obtain⟨Y,Z,_⟩:=N3 (c:=Bh P X ρ (cur S es.obs) μ w) g
 have hparts:(parts.map fun(x:Nat × Operand)=>match x with | (i,x)=>(i,a.eval x)).toList =parts.toList.map λp=>(p.1,a.eval p.2):=by
  rw[cY]
 cases zv with
 | leaf l=>simp[Ac]at h
 | agg t' cs=>
  obtain⟨us,C,m⟩:=Y
  have o:z.cells=us:=by rw[C];rfl
  have q: ∀k∈cs.flatMap A5,K k:=λk U=>by
   have E:cs.flatMap A5= []:=Z
   rw[E]at U;simp at U
  cases B:P.underlying t with
  | none=>simp[B,Ac]at h
  | some d=>
  simp only[B]at h
  cases d with
  | struct fs=>
   simp only[Ab,Af,Ad]at h
   obtain⟨_,_,_,_,⟨F,rfl,rfl⟩,⟨r,e2,l2,_,b,⟨rfl,rfl,rfl⟩,rfl⟩,rfl⟩:=h
   obtain⟨⟨n,rfl⟩,cells',H,I,J⟩:=Mq (place':=((fs.toList.map λf=>(f.offset,Ag P f.type)).toArray[·]?)) (λi off t h=>by
    simp only[aP]at h
    obtain⟨f,L,h⟩:=h
    injection h with M b;subst M;subst b
    simp[L]) (cells:=us) G b y.right.left Q m q
   refine⟨.agg cells',run_build w t _ cells' ?_,Ph.out (es':= {es with n}) (.same G rfl rfl rfl) ⟨cells',rfl,I⟩ J⟩
   unfold Program.built
   rw[j,B]
   simp only[A,Adw fs.toList (λf L=>cE.1 F f L),hparts,o]
   exact H
  | array n0 e=>
   simp only[Ab,Af,Ad]at h
   obtain⟨_,_,_,_,⟨F,rfl,rfl⟩,⟨r,e2,l2,_,b,⟨rfl,rfl,rfl⟩,rfl⟩,rfl⟩:=h
   obtain⟨ie,u⟩:=aF.1 F
   obtain⟨⟨n,rfl⟩,cells',H,I,J⟩:=Mq (place':=λi=>some (i * ie.size,ie.size)) (λi off t h=>by
    injection h with h;injection h with M b;subst M;subst b
    simp[Ag,u]) (cells:=us) G b y.right.left Q m q
   refine⟨.agg cells',run_build w t _ cells' ?_,Ph.out (es':= {es with n}) (.same G rfl rfl rfl) ⟨cells',rfl,I⟩ J⟩
   unfold Program.built
   rw[j,B]
   simp only[A,u,hparts,o]
   exact H
  | _=>simp[Ac]at h
end
end Go.CT
namespace Go.CT
open EM
theorem Lw (b off:Nat):(⟨b,0,none⟩:Addr).add off=⟨b,off,none⟩:=by unfold Addr.add;split<;>simp_all
section
variable {P:Program}{w:World}
theorem Kd {t T:TypeId}{b off:Nat}{cur:Array Value}{v:Value}{i:TypeInfo}(c:P.info? t=some i)(d:w.heap[b]?=some (.cells cur T (0,0)))(a:v.cells.size=Ag P t)(e:off+v.cells.size<=cur.size)
  (g: ∀u∈v.cells,u.oneCell'=true):
  (Instr.storeAt t (.pointer (some ((⟨b,0,none⟩:Addr).add off))) v).run P w= .ok () (w.setRow b (cur.toList.take off++v.cells.toList++cur.toList.drop (off+v.cells.size)).toArray):=by
 rw[Lw]
 have:=run_storeCells_at (P:=P) b off T v.cells.toList 0 cur w d (by simpa using e) (λu h=>g u (by simpa using h))
 simp only[cH,aA]at this
 simp[Instr.storeAt,Instr.sureAddr,storeVar,run_sizeOf c,a]
 rw[<-a]
 simpa using this
theorem Aeh {W:Nat->Prop}{b:Nat}(a:W b)(cs:Array Value):Gr W w (w.setRow b cs):=
 ⟨rfl,rfl,rfl,by simp,λk _ c=>setRow_other w b k cs (λe=>c (e ▸ a))⟩
theorem I7 {α:Type}{cs new:List α}{off:Nat}(h:off+new.length<=cs.length):(cs.take off++new++cs.drop (off+new.length)).length =cs.length:=by
 simp only[aW,aD,aK];omega
theorem N4 {α:Type}{cs new:List α}{off:Nat}(h:off+new.length<=cs.length)(i:Nat):
  (cs.take off++new++cs.drop (off+new.length))[i]?=if i<off then cs[i]? else if i<off+new.length then new[i - off]? else cs[i]?:=by
 simp only[cQ,aW,aD,aE,aH]
 have e1:min off cs.length=off:=by omega
 rw[e1]
 by_cases a:i<off
 ·simp[a,show i<off+new.length by omega]
 ·by_cases b:i<off+new.length
  ·simp[a,b]
  ·simp only[a,b,Zf]
   congr 1;omega
theorem Ue {sz:Nat} : ∀ {vs:List Value} {j off:Nat} {u u':Value} {new:List Value},(∀v∈vs,v.cells.size=sz)->vs[j]?=some u->off+new.length<=sz->u'.cells.toList=u.cells.toList.take off++new++u.cells.toList.drop (off+new.length)->
  Ba (vs.set j u')=(Ba vs).take (j * sz+off)++new++(Ba vs).drop (j * sz+off+new.length)
 | [],j,off,u,u',new,_,a,_,_=>by simp at a
 | v::vs,0,off,u,u',new,h,a,c,b=>by
  simp at a;subst a
  have d:v.cells.toList.length=sz:=by rw[aA];exact h v aU
  simp only[List.set_cons_zero,Ba,aN,bX,bY]
  rw[b,bH (by omega),bU (by omega)]
  simp
 | v::vs,j+1,off,u,u',new,h,a,c,b=>by
  have d:v.cells.toList.length=sz:=by rw[aA];exact h v aU
  have g:=Ue (vs:=vs) (j:=j) (λv i=>h v (aV _ i)) (by simpa using a) c b
  simp only[List.set_cons_succ]
  have e: ∀ws:List Value,Ba (v::ws)=v.cells.toList++Ba ws:=λws=>by simp[Ba]
  rw[e,e,g]
  have e1:(j+1) * sz+off=sz+(j * sz+off):=by rw[bG,cD];omega
  have m:(j+1) * sz+off+new.length=sz+(j * sz+off+new.length):=by rw[e1];omega
  rw[m,e1,List.take_append,List.drop_append,d]
  have o:sz+(j * sz+off) - sz=j * sz+off:=by omega
  have a2:sz+(j * sz+off+new.length) - sz=j * sz+off+new.length:=by omega
  rw[o,a2,bS (l:=v.cells.toList) (by omega),bJ (l:=v.cells.toList) (by omega)]
  simp
theorem Gq.set {O:Nat->Prop}{e:TypeId} : ∀ {xs:List IV} {vs:List Value} {j:Nat} {y:IV} {u:Value},Gq P w O e xs vs->Rel P w O e y u->u.cells.size=Ag P e->Gq P w O e (xs.set j y) (vs.set j u)
 | [],[],j,_,_,_,_,_=>by simp[Gq]
 | _::_,_::_,0,_,_,h,a,b=>⟨⟨a,b⟩,h.2⟩
 | _::_,_::_,j+1,_,_,h,a,b=>⟨h.1,Gq.set h.2 a b⟩
 | [],_::_,_,_,_,h,_,_=>h.elim
 | _::_,[],_,_,_,h,_,_=>h.elim
theorem Rel.Al5 {O:Nat->Prop}{t0 t:TypeId}{off:Nat}{x y:IV}{u v:Value}(hx:Rel P w O t0 x u)(T:Ai P t0=true)(hp:Wl P t0 off t=true)(J:Rel P w O t y v):
  off+v.cells.size<=u.cells.size/\v.cells.size=Ag P t/\ ∃cs,x= .agg cs/\
   (
    (Ai P t=true-> ∃new,y= .agg new/\new.length=Ag P t/\Rel P w O t0 (.agg (setCells cs new off)) (.agg (u.cells.toList.take off++v.cells.toList++u.cells.toList.drop (off+v.cells.size)).toArray))/\
    (Ai P t=false->Rel P w O t0 (.agg (cs.set off y)) (.agg (u.cells.toList.take off++v.cells.toList++u.cells.toList.drop (off+v.cells.size)).toArray))):=by
 obtain⟨ts,xs,us,U,rfl,rfl,K⟩:=hx.Abb T
 unfold Wl at hp
 rw[U]at hp
 cases e:leaves P t with
 | none=>simp[e]at hp
 | some tt=>
  simp only[e,aC,beq_iff_eq,decide_eq_true_eq]at hp
  obtain⟨⟨A,aa⟩,ab⟩:=hp
  have B:=K.len
  have C: ∀ (i:Nat) (q:TypeId),tt[i]?=some q->ts[off+i]?=some q:=by
   intro i q j
   rw[<-A,aE]at j
   split at j
   · rwa [aH]at j
   · simp at j
  have hle:off+tt.length<=ts.length:=by
   have:=congrArg cZ A
   rw[aD,aK]at this
   omega
  -- the new part, leaf by leaf
  have r: ∃new:List IV,Ho P w O tt new v.cells.toList/\(Ai P t=true->y= .agg new)/\(Ai P t=false->new= [y]):=by
   by_cases c:Ai P t=true
   · obtain⟨ac,ys,ad,H,rfl,rfl,q2⟩:=J.Abb c
     rw[e]at H;injection H with H;subst H
     exact⟨ys,q2,λ_=>rfl,λh=>by simp[c]at h⟩
   · have m:Ai P t=false:=by simpa using c
     have L:tt= [t]:=by
      have hl: ∀ (d:Nat),Hb P (d+1) t=some tt->tt= [t]:=by
       intro d hd
       unfold Hb at hd
       cases M:P.underlying t with
       | none=>simp[M]at hd
       | some de=>cases de<;>simp_all[Ai]
      exact hl 11 e
     subst L
     refine⟨[y],?_,λh=>by simp[m]at h,λ_=>rfl⟩
     rw[(J.one m).2]
     exact⟨J,trivial⟩
  obtain⟨new,X,N,Q⟩:=r
  have g:=X.len
  have ae:v.cells.size=tt.length:=by rw[<-aA];exact g.2
  have Y:us.size=ts.length:=by rw[<-aA];exact B.2
  have z:off+v.cells.size<=us.size:=by omega
  have E:new.length=v.cells.toList.length:=by rw[g.1,g.2]
  have o:Rel P w O t0 (.agg (setCells xs new off)) (.agg (us.toList.take off++v.cells.toList++us.toList.drop (off+v.cells.size)).toArray):=by
   refine Ho.agg (ts:=ts) (Ho.Kq ?_ ?_ ?_) T U
   · unfold setCells
     rw[I7 (by omega)];exact B.1
   · have:=I7 (cs:=us.toList) (new:=v.cells.toList) (off:=off) (by simpa using z)
     simp only[aA]at this ⊢
     rw[bP,this]
     omega
   · intro i q R c' j a b
     unfold setCells at a
     rw[N4 (by omega)]at a
     rw[bP]at b
     have F:=N4 (cs:=us.toList) (new:=v.cells.toList) (off:=off) (by simpa using z) i
     simp only[aA]at F
     rw[F]at b
     by_cases Z:i<off
     ·simp only[Z,Zt]at a b
      exact K.get i q R c' j a b
     ·simp only[Z,Zf]at a b
      by_cases I:i<off+v.cells.size
      ·rw[if_pos I]at b
       rw[if_pos (by rw[E,aA];exact I)]at a
       refine X.get (i - off) q R c' ?_ a b
       have G:i - off<tt.length:=by omega
       have:=C (i - off) _ (aQ G)
       rw[show off+(i - off)=i by omega,j]at this
       rw[aQ G];exact this.symm
      ·rw[if_neg I]at b
       rw[if_neg (by rw[E,aA];exact I)]at a
       exact K.get i q R c' j a b
  refine⟨z,by omega,xs,rfl,λc=>⟨new,N c,by omega,o⟩,λc=>?_⟩
  have S:=Q c
  subst S
  have:setCells xs [y] off=xs.set off y:=by
   unfold setCells
   have ho:off<xs.length:=by simp at g;omega
   simp only[List.length_singleton]
   rw[List.set_eq_take_append_cons_drop,if_pos ho]
   simp
  rw[<-this];exact o
end
theorem Pn {α:Type}{cs new:List α}{p m:Nat}(h:p+new.length<=m)(c:m<=cs.length):
  (cs.take p++new++cs.drop (p+new.length)).take m=(cs.take m).take p++new++(cs.take m).drop (p+new.length):=by
 apply bR
 intro i
 rw[N4 (by rw[aD];omega),aE,N4 (by omega),aE]
 by_cases a:i<p
 ·simp[a,show i<m by omega]
 ·by_cases b:i<p+new.length
  ·simp[a,b,show i<m by omega]
  ·simp only[a,b,Zf]
section
variable {P:Program}{w:World}{O:Nat->Prop}
theorem Auo {e t:TypeId}{off:Nat}{xs:List IV}{vs:List Value}{j:Nat}{y r:IV}{v:Value}(A:Gq P w O e xs vs)(E:Rel P w O t y v)
  (o:((off == 0&&t == e&&Nk P e)||(Ai P e&&Wl P e off t&&Nk P e))=true)
  (h:Prim.ev (.setAt off (Ag P t) (Ai P t) (off == 0&&t == e)) [.list xs,.int (j:Nat),y]=some r):
  ∃c d,r= .list c/\c.length=xs.length/\Gq P w O e c d/\j * Ag P e+off+v.cells.size<=(Ba vs).length /\v.cells.size=Ag P t/\
   Ba d=(Ba vs).take (j * Ag P e+off)++v.cells.toList++(Ba vs).drop (j * Ag P e+off+v.cells.size):=by
 simp only[Prim.ev,bI,Zt,Int.toNat_natCast]at h
 cases F:xs[j]? with
 | none=>simp[F]at h
 | some old=>
  obtain⟨u,B,G⟩:=A.get j old F
  have i:=λa b=>(A.size a b).1
  have K:=i u (bL B)
  have L:=(aG.1 B).1
  have hlen:=Dc i
  have M:j * Ag P e+Ag P e<=vs.length * Ag P e:=by rw[<-cG];exact aO _ L
  simp only[F]at h
  by_cases C:(off == 0&&t == e)=true
  ·simp only[C,Zt,aB]at h
   subst h
   simp only[aC,beq_iff_eq]at C
   obtain⟨rfl,rfl⟩:=C
   have q:Nk P t=true:=by
    simp only[bK,aC]at o
    rcases o with o | o
    ·exact o.2
    ·exact o.2
   have x:=E.sized q
   have g:=Ue (vs:=vs) (j:=j) (off:=0) (u:=u) (u':=v) (new:=v.cells.toList) i B (by rw[aA,x];omega)
    (by rw[cR,bW,bY,bJ (by rw[aA,aA];omega),cJ])
   rw[aA]at g
   exact⟨_,_,rfl,by simp,Gq.set A E x,by omega,x,g⟩
  ·have z:(off == 0&&t == e)=false:=by simpa using C
   simp only[z,Bool.false_and,Bool.false_or,aC]at o
   obtain⟨⟨N,hp⟩,q⟩:=o
   obtain⟨b1,b2,cs,rfl,Q,R⟩:=G.Al5 N hp E
   simp only[z]at h
   have fin: ∀ {H:IV},Rel P w O e H (.agg (u.cells.toList.take off++v.cells.toList++u.cells.toList.drop (off+v.cells.size)).toArray)->r= .list (xs.set j H)->
     ∃c d,r= .list c/\c.length=xs.length/\Gq P w O e c d/\j * Ag P e+off+v.cells.size<=(Ba vs).length /\v.cells.size=Ag P t/\
      Ba d=(Ba vs).take (j * Ag P e+off)++v.cells.toList++(Ba vs).drop (j * Ag P e+off+v.cells.size):=by
    intro H J S
    have g:=Ue (vs:=vs) (j:=j) (off:=off) (u:=u) (new:=v.cells.toList) (u':= .agg (u.cells.toList.take off++v.cells.toList++u.cells.toList.drop (off+v.cells.size)).toArray) i B
     (by rw[aA];omega) (by rw[aA];simp[Value.cells])
    rw[aA]at g
    exact⟨_,_,S,by simp,Gq.set A J (J.sized q),by omega,b2,g⟩
   cases m:Ai P t with
   | true=>
    obtain⟨new,rfl,T,I⟩:=Q m
    simp only[m,T,Zt,aJ,Zf,aB]at h
    exact fin I h.symm
   | false=>
    have I:=R m
    simp only[m,aJ,Zf,aB]at h
    exact fin I h.symm
end
section
variable {P:Program}{N:Nat}{X:Nat->Prop}{R:Job->List IV->Option (List IV)}{ρ:List IV}{K:Nat->Prop}{S:View}{μ:Nat->Value}{a:Act}{w:World}{es es':ES}{ls:List PLt}{sx:SX}
theorem Qd {k b:Nat}{o o':Ob}{cs:Array Value}{e1:ES}{nn:Nat}{val:Value}(p:Ph P N X ρ K S μ a w es e1)(r:cur S e1.obs k=some o)(d:o.Ea=true)(x:blk (μ k)=some b)(i: ∀g∈E4 o',K g)
  (y:Dp K (Bh P X ρ (cur S e1.obs) μ w) (Bh P X ρ (Bo (cur S e1.obs) k (some o')) (Db μ k (μ k)) (w.setRow b cs))->Ae3 (Bh P X ρ (Bo (cur S e1.obs) k (some o')) (Db μ k (μ k)) (w.setRow b cs)) k o'):
  Out P N X ρ K S μ a w es {e1 with n:=nn,obs:=(k,some o')::e1.obs} (one (.leaf .junk)) (Db μ k (μ k)) (w.setRow b cs) val:=by
 have z:=(p.Cj.ko k o r).1
 have t:Put P X ρ K (cur S e1.obs) (Bo (cur S e1.obs) k (some o')) μ w (w.setRow b cs) k o' (μ k):=
  {
   other:=λg u h j=>by simpa [Bo,h]using j
   here:=by simp[Bo]
   same:=λg _=>by unfold Db;split<;>simp_all
   step:=Aeh ⟨k,o,r,d,x⟩ _
   rest:=λg u q h j A c=>by
    have B:cur S e1.obs g=some u:=by simpa [Bo,h]using j
    refine setRow_other w b q cs (λe=>?_)
    subst e
    exact h (p.Cj.sep g k u o q B r A d c x)
   new:=λq c=> .inl ⟨⟨k,o,r,d,c⟩,λg u h j A C=>h (p.Cj.sep g k u o q (by simpa [Bo,h]using j) r A d C c)⟩
   keys:=λk2 j=> .inl (i k2 j)}
 have E: ∀g,K g\/g=k->As K es.m e1.m g:=by
  rintro g (h | rfl)
  ·exact .inl h
  ·exact .inl z
 refine⟨?_,trivial,λk h=>by simp[Ca,Ax,A5,one]at h,?_,?_,t.same⟩
 ·show Good P N X ρ (As K es.m e1.m) S.tm (cur S ((k,some o')::e1.obs)) _ a _
  rw[Bm]
  exact t.Cj p.Cj (y t.later) E
 ·have:=t.step
  exact⟨this.os,this.tape,this.output,this.size,λb x F=>this.stays b x λh=>F (p.Dv.wr h)⟩
 ·intro q c
  have c:Wr (cur S ((k,some o')::e1.obs)) _ q:=c
  rw[Bm]at c
  exact(t.own p.Cj q c).imp p.Dv.wr id
theorem Arw {p:PV}{t:TypeId}{vv:VV}{va v:Value}{u:Unit}(G:Good P N X ρ K S.tm (cur S es.obs) μ a w)(h:Ev S (Atf P p t vv) es u es' ls)(A:LH R ρ ls)(hg:holds ρ es.gs=some true)
  (hp:Ab7 (Bh P X ρ (cur S es.obs) μ w) p va) (al: ∀k∈Di p,K k) (Y:K0 (Bh P X ρ (cur S es.obs) μ w) vv v) (Q: ∀k∈Ax vv,K k):
  ∃w' μ',(Instr.storeAt t va v).run P w= .ok () w'/\Out P N X ρ K S μ a w es es' (one (.leaf .junk)) μ' w' undef:=by
 unfold Atf at h
 rw[Ab]at h
 obtain⟨_,_,_,_,F,h,rfl⟩:=h
 rw[Dh]at F
 obtain⟨_,rfl,rfl⟩:=F
 have A:=A.right
 cases p with
 | p k off=>
  rw[Ab]at h
  obtain⟨o,_,_,l2,F,h,rfl⟩:=h
  rw[Bp]at F
  obtain⟨Z,rfl,rfl⟩:=F
  have A:=A.right
  cases o with
  | arr=>simp[Ac]at h
  | frz=>simp[Ac]at h
  | iter=>simp[Ac]at h
  | mp=>simp[Ac]at h
  | box t0 old=>
   obtain⟨b,uu,o1,o2,o3,o4,o5,o6⟩:=G.obj k _ Z
   obtain⟨J,p1,p2⟩:=hp
   have ad:J=b:=by
    have ae:μ k= .pointer (some ⟨b,0,none⟩):=o1
    have z:μ k= .pointer (some ⟨J,0,none⟩):=p1
    rw[ae]at z;injection z with z;injection z with z;injection z with z;exact z.symm
   subst ad
   have hblk:blk (μ k)=some J:=by
    have af:μ k= .pointer (some ⟨J,0,none⟩):=o1
    rw[af];rfl
   subst p2
   have T:w.heap[J]?=some (.cells uu.cells t0 (0,0)):=o2
   have ag:uu.cells.size=Ag P t0:=o3
   simp only[Hr]at h
   rcases h with⟨hc,h⟩ | ⟨hc,h⟩
   ·simp only[aC,beq_iff_eq]at hc
    obtain⟨rfl,rfl⟩:=hc
    simp only[Ab,Af,Bd]at h
    obtain⟨_,_,_,_,⟨g1,rfl,rfl⟩,⟨rfl,rfl⟩,rfl⟩:=h
    obtain⟨M,f2,U⟩:=Abl (c:=Bh P X ρ (cur S es.obs) μ w) g1 Y
    have M:v.cells.size=Ag P t:=M
    obtain⟨i,hi⟩: ∃i,P.info? t=some i:=by
     by_cases ha:Ai P t=true
     ·obtain⟨d,hd⟩:=I1 ha
      exact Ew hd
     ·have aa:Ai P t=false:=by simpa using ha
      have ah:v.oneCell'=true:=by
       have:(if Ai P t then ∃cs,v= .agg cs else v.oneCell'=true):=f2
       simpa [aa]using this
      rw[Gx ah]at M
      exact D8 (by simp at M;omega)
    have q:=Kd (off:=0) hi T M (by omega) U
    have hcells:(uu.cells.toList.take 0++v.cells.toList++uu.cells.toList.drop (0+v.cells.size)).toArray =v.cells:=by
     rw[cR,bW,bY,bJ (by rw[aA];omega),cJ]
    rw[hcells]at q
    refine⟨_,_,q,Qd (e1:=es) (.refl G) Z rfl hblk Q (λL=>?_)⟩
    exact⟨J,v,by rw[show(Bh P X ρ (Bo (cur S es.obs) k (some (.box t vv))) (Db μ k (μ k)) (w.setRow J v.cells)).μ =Db μ k (μ k) from rfl,Bb];exact o1,
     setRow_heap w J uu.cells v.cells t (0,0) T,M,f2,U,L.Apb Q Y⟩
   ·rw[Ab]at h
    obtain⟨_,_,_,_,F,h,rfl⟩:=h
    rw[Af]at F
    obtain⟨g1,rfl,rfl⟩:=F
    simp only[aC,decide_eq_true_eq]at g1
    obtain⟨ga,gs⟩:=g1
    have A:=A.right
    rw[Ab]at h
    obtain⟨cs,e1,l1,_,h1,h,rfl⟩:=h
    obtain⟨⟨n1,rfl⟩,q1,q2⟩:=I6 h1 A.left hg (G.ko k _ Z).2 o6
    rw[Ab]at h
    obtain⟨new,e2,l2,_,h2,h,rfl⟩:=h
    obtain⟨⟨n2,rfl⟩,q3,C⟩:=I6 (es:= {es with n:=n1}) h2 A.right.left hg Q Y
    simp only[Ab,Af,Bd]at h
    obtain⟨_,_,_,_,⟨g2,rfl,rfl⟩,⟨rfl,rfl⟩,rfl⟩:=h
    simp only[aC,decide_eq_true_eq,beq_iff_eq]at g2
    obtain⟨g2,g3⟩:=g2
    have am:v.cells.size=new.length:=by rw[q3.len,aA]
    have an:uu.cells.size=cs.length:=by rw[q1.len,aA]
    have M:v.cells.size=Ag P t:=by omega
    have U: ∀u∈v.cells,u.oneCell'=true:=λu hu=>q3.one u (by simpa using hu)
    obtain⟨i,hi⟩:=D8 gs
    have q:=Kd (off:=off) hi T M (by omega) U
    refine⟨_,Db μ k (μ k),q,?_⟩
    have H: ∀k'∈Ax (.agg t0 (cs.take off++new++cs.drop (off+new.length))),K k':=by
     intro k' B
     simp only[Ax,cS,bV]at B
     rcases B with (B | B) | B
     ·simp only[aS]at B
      obtain⟨l,B,ab⟩:=B
      exact q2 k' (aS.2 ⟨l,bN B,ab⟩)
     ·exact C k' B
     ·simp only[aS]at B
      obtain⟨l,B,ab⟩:=B
      exact q2 k' (aS.2 ⟨l,bT B,ab⟩)
    refine Qd (e1:=es) (nn:=n2) (.refl G) Z rfl hblk H (λL=>?_)
    have I:=q1.Al5 q3 off
    have hcells:(uu.cells.toList.take off++v.cells.toList++uu.cells.toList.drop (off+v.cells.size))=(uu.cells.toList.take off++v.cells.toList++uu.cells.toList.drop (off+v.cells.toList.length)):=by rw[aA]
    rw[<-hcells]at I
    refine⟨J,.agg (uu.cells.toList.take off++v.cells.toList++uu.cells.toList.drop (off+v.cells.size)).toArray,?_,setRow_heap w J uu.cells _ t0 (0,0) T,?_,?_,?_,?_⟩
    ·show Db μ k (μ k) k=_
     rw[Bb];exact o1
    ·have:=I7 (cs:=uu.cells.toList) (new:=v.cells.toList) (off:=off) (by rw[aA,aA];omega)
     rw[aA,aA]at this
     exact this.trans ag
    ·show if Ai P t0 then _ else _
     rw[if_pos ga];exact⟨_,rfl⟩
    ·intro u hu
     have ai:u∈(uu.cells.toList.take off++v.cells.toList++uu.cells.toList.drop (off+v.cells.size)):=by simpa [Value.cells]using hu
     exact I.one u ai
    ·exact⟨_,rfl,by rw[bP];exact L.Acu H I⟩
 | el k e iA off=>
  rw[Ab]at h
  obtain⟨x,e1,l1,_,h1,h,rfl⟩:=h
  obtain⟨p,_,hD⟩:=D6 G h1 A.left hg Q Y
  obtain⟨y,d1,d2⟩:=hD rfl
  have d1:x.ev ρ=some y:=d1
  have A:=A.right
  rw[Ab]at h
  obtain⟨o,_,_,l2,F,h,rfl⟩:=h
  rw[Bp]at F
  obtain⟨Z,rfl,rfl⟩:=F
  have A:=A.right
  cases o with
  | box=>simp[Ac]at h
  | frz=>simp[Ac]at h
  | iter=>simp[Ac]at h
  | mp=>simp[Ac]at h
  | arr E tt c=>
   simp only[Ab,Af,Bi,Bd]at h
   obtain⟨_,_,_,_,⟨g1,rfl,rfl⟩,⟨_,_,_,_,⟨g2,rfl,rfl⟩,⟨_,_,_,_,⟨rfl,rfl,rfl⟩,⟨rfl,rfl⟩,rfl⟩,rfl⟩,rfl⟩:=h
   have:E=e:=by simpa using g1
   subst this
   obtain⟨ivs,cs,q1,q2,q3,C,q5,q6⟩:=p.Cj.obj k _ Z
   have q1:c.ev ρ=some (.list ivs):=q1
   obtain⟨ao,r,r1,r2,r3⟩:=LH.Bv A.right.right.left (by rw[p.gs];exact hg)
   obtain⟨a1,a2,a3,s1,s2,s3,rfl⟩:=A6q r1
   obtain⟨g,n,cap,j,m1,m2,m3,rfl⟩:=hp
   have m2:iA.ev ρ=some (.int (j:Nat)):=m2
   have m1:μ k= .slice (some ⟨g,0,none⟩) n cap:=m1
   rw[q1]at s1;injection s1 with s1;subst s1
   rw[m2]at s2;injection s2 with s2;subst s2
   rw[d1]at s3;injection s3 with s3;subst s3
   obtain⟨w1,C⟩:=C
   rcases C with⟨C,_⟩ | ⟨g',cap',cu,M,f2,U,f4,f5,f6,f7⟩
   ·have C:μ k= .slice none 0 0:=C
    rw[m1]at C;injection C with C;cases C
   ·have ac:μ k= .slice (some ⟨g',0,none⟩) ivs.length cap':=M
    rw[m1]at ac;injection ac with i1 i2 i3
    injection i1 with i1;injection i1 with i1;subst i1;subst i2;subst i3
    have U:w.heap[g]?=some (.cells cu E (0,0)):=U
    have w1:cs.length=ivs.length * Ag P E:=w1
    have q5:Ja P w (Bh P X ρ (cur S e1.obs) μ w).O E ivs cs:=q5
    obtain⟨us,hE,rfl⟩:=q5.Apa w1
    obtain⟨aj,us',rfl,t1,t2,t3,t4,t5⟩:=Auo hE d2 g2 r2
    have f6:cu.size=cap * Ag P E:=f6
    have f7:cu.toList.take (ivs.length * Ag P E)=Ba us:=f7
    have ak:ivs.length * Ag P E<=cu.size:=by rw[f6];exact aO _ f4
    obtain⟨i,hi⟩: ∃i,P.info? t=some i:=by
     simp only[bK,aC,beq_iff_eq]at g2
     by_cases ha:Ai P t=true
     ·obtain⟨d,hd⟩:=I1 ha
      exact Ew hd
     ·have aa:Ai P t=false:=by simpa using ha
      have:=(d2.one aa).1
      rw[Gx this]at t4
      exact D8 (by simp at t4;omega)
    have q:=Kd (off:=j * Ag P E+off) hi U t4 (by omega) d2.cells_one
    refine⟨_,Db μ k (μ k),q,Qd (e1:=e1) p Z rfl (by rw[m1];rfl) (λk' hk=>by cases hk) (λL=>?_)⟩
    refine⟨aj,Ba us',r3,q2,q3,⟨?_,.inr ⟨g,cap,_,?_,cP _,setRow_heap w g cu _ E (0,0) U,by omega,f5,?_,?_⟩⟩,(Gq.later L t2).elems,Ei λv Y=>(t2.size v Y).2⟩
    ·rw[Dc λv Y=>(t2.size v Y).1,t2.len];rfl
    ·show Db μ k (μ k) k=_
     rw[Bb,m1,t1]
    ·have:=I7 (cs:=cu.toList) (new:=v.cells.toList) (off:=j * Ag P E+off) (by rw[aA,aA];omega)
     rw[aA,aA]at this
     exact this.trans f6
    ·rw[bP,t1]
     have:=Pn (cs:=cu.toList) (new:=v.cells.toList) (p:=j * Ag P E+off) (m:=ivs.length * Ag P E) (by rw[aA];omega) (by rw[aA];omega)
     rw[aA]at this
     rw[t5,<-f7];exact this
 | im x t0 off=>simp[Ac]at h
end
end Go.CT
