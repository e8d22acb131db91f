import Derived.Orders
import Derived.Below
import Derived.Laws.AppendOwn
import Derived.Laws.Cells
import Derived.Laws.StructEq
import Derived.Laws.BytesString
import Derived.Laws.Small
import Derived.Maps.AppendAt
import Derived.Laws.OwnMore
import Derived.Laws.Build
import Derived.Laws.MakeOwn
set_option linter.unusedVariables false
set_option linter.unusedSimpArgs false
open Array renaming length_toList->aC,getElem?_eq_some_iff->aF,getElem?_eq_getElem->bM,mem_iff_getElem->cJ,foldl_toList->cS,toList_map->cV,getD->dB
open Bool renaming and_eq_true->aB,false_eq_true->aJ,or_eq_true->bO,not_eq_true'->bP
open Go.RowKit.Below renaming heap_alloc->bD
open Int renaming natCast_nonneg->bJ,toNat_natCast->cU
open List renaming replicate->aD,getElem?_eq_some_iff->aK,length_append->aL,length_eq_zero_iff->aM,flatMap_cons->aP,getElem?_eq_getElem->aQ,getElem?_take->aR,mem_cons_self->aS,length_take->aT,mem_of_getElem?->aU,mem_cons_of_mem->aV,take_of_length_le->aZ,mem_flatMap->bB,length_cons->bC,length_drop->bF,drop_drop->bG,getElem?_drop->bH,mem_replicate->bI,mem_append_right->bK,drop_zero->bL,toList_toArray->bN,ext_getElem?->bQ,drop_of_length_le->bR,take_append_of_le_length->bT,getElem?_append_left->bW,getElem?_map->bX,all_eq_true->cB,getElem?_cons_zero->cD,flatMap_replicate->cG,mem_append->cH,nil_append->cI,mem_iff_getElem?->cK,length_replicate->cM,getElem?_toArray->cN,mapM_cons->cO,flatMap_append->cP,mem_cons->cQ,map_cons->cR,take_append->cW,drop_append->cX,foldl_cons->cY,range->dA,take_take->dD
open Nat renaming mul_le_mul_right->aH,lt_succ_self->aW,le_refl->bA,add_mul->bE,add_zero->bU,zero_mul->bV,zero_le->bY,one_mul->bZ,le_mul_of_pos_right->cC,succ_mul->cE,add_comm->cF,div_lt_iff_lt_mul->cL,zero_add->cT,div_add_mod->cZ,mod_lt->dC,add_assoc->dE,mul_comm->dF
open Option renaming isSome_iff_exists->aE,bind_eq_bind->aG,map_eq_some_iff->aI,map_some->aN,bind_some->aO,pure_def->aY,map->dH
open Option.some renaming injEq->aA
open Prod.mk renaming injEq->aX
open UInt8 renaming ofNat->dG
theorem Zt.{u}{α:Sort u}{x:Decidable True}(t e:α):(if True then t else e)=t:=if_true t e
theorem Zf.{u}{α:Sort u}{x:Decidable False}(t e:α):(if False then t else e)=e:=if_false t e
theorem Zd(h:Decidable True):decide True=true:=decide_true h
theorem Ze(h:Decidable False):decide False=false:=decide_false h
namespace Go.CT
inductive IV where
 | int (n:Int)
 | bool (b:Bool)
 | str (s:ByteArray)
 | agg (xs:List IV)
 | list (xs:List IV)
 | junk
 deriving Inhabited
inductive Arg where
 | v (n:Nat)
 | k (c:IV)
 deriving Inhabited
def IV.Re:IV->IV->Option Bool
 | .int a,.int b=>some (a == b)
 | .bool a,.bool b=>some (a == b)
 | .str a,.str b=>some (a.toList == b.toList)
 | _,_=>none
def IV.Qv:List IV->List IV->Option Bool
 | [],[]=>some true
 | x::xs,y::ys=>do
  let a <-x.Re y
  let b <-Qv xs ys
  pure (a&&b)
 | _,_=>none
inductive Prim where
 | arith (op:BinOp) (k:IntKind) -- + - *
 | quo (k:IntKind) | rem (k:IntKind)
 | bits (op:BinOp) (k:IntKind) -- & | ^ &^
 | shift (op:BinOp) (k:IntKind)
 | cmp (op:BinOp) -- integers
 | cmpS (op:BinOp) -- strings, comparisons
 | cat
 | eqB (neg:Bool)
 | eqA (neg:Bool)
 | not
 | neg (k:IntKind)
 | conv (k:IntKind)
 | len | Ato
 | index | M3
 | slice | Nj | Ov | Jo
 | append (bytes:Nat)
 | Of (bytes:Nat) -- of something
 | Mc
 | Sg | Ou
 | proj (off n:Nat) (agg:Bool)
 | setAt (off n:Nat) (agg whole:Bool)
 | max | min
 | pick
 | Akk (bytes:Nat) (zero:IV)
 | bytesOf | strOf
 | clear (zero:IV)
 | copy
 | Ak7
 | Oq | Ow | H8
 | Aoh (zero:IV) | Aku | Ap5
 deriving Inhabited
def Bc:Nat:=140737488355328 -- 2^47
def Nb (op:BinOp)(x y:Int):Option Bool:=
 match op with
 | .eql =>some (x == y)
 | .neq =>some (x !=y)
 | .lss =>some (decide (x<y))
 | .leq =>some (decide (x<=y))
 | .gtr =>some (decide (x > y))
 | .geq =>some (decide (x≥y))
 | _=>none
def Mo (op:BinOp)(x y:ByteArray):Option Bool:=
 let eq:=x.toList == y.toList
 let lt:=Op.bytesLess x.toList y.toList
 match op with
 | .eql =>some eq
 | .neq =>some !eq
 | .lss =>some lt
 | .leq =>some (lt||eq)
 | .gtr =>some !(lt||eq)
 | .geq =>some !lt
 | _=>none
def setCells (cs new:List IV)(off:Nat):List IV:=cs.take off++new++cs.drop (off+new.length)
def Cs (s:ByteArray):List IV:=s.data.toList.map λb=> .int b.toNat
def Lo:IV->Option UInt8
 | .int n=>if 0<=n/\n<256 then some n.toNat.toUInt8 else none
 | _=>none
def Wj (key:IV):List IV->Option (Option IV)
 | []=>some none
 | .agg [k,v]::r=>
  match key.Re k with
  | some true=>some (some v)
  | some false=>Wj key r
  | none=>none
 | _=>none
def Avg (key val:IV):List IV->Option (List IV)
 | []=>some [.agg [key,val]]
 | .agg [k,v]::r=>
  match key.Re k with
  | some true=>some (.agg [key,val]::r)
  | some false=>(Avg key val r).map (.agg [k,v]:: ·)
  | none=>none
 | _=>none
def Prim.ev (p:Prim)(as:List IV):Option IV:=
 match p,as with
 | .arith .add k,[.int a,.int b]=>some (.int (k.wrap (a+b)))
 | .arith .sub k,[.int a,.int b]=>some (.int (k.wrap (a - b)))
 | .arith .mul k,[.int a,.int b]=>some (.int (k.wrap (a * b)))
 | .quo k,[.int a,.int b]=>if b=0 then none else some (.int (k.wrap (a.tdiv b)))
 | .rem _,[.int a,.int b]=>if b=0 then none else some (.int (a.tmod b))
 | .shift .shl k,[.int a,.int b]=>if b<0 then none else some (.int (k.wrap (a * 2 ^ (Nat.min b.toNat k.bits))))
 | .shift .shr k,[.int a,.int b]=>if b<0 then none else some (.int (a.fdiv (2 ^ (Nat.min b.toNat k.bits))))
 | .cmp op,[.int a,.int b]=>(Nb op a b).map .bool
 | .cmpS op,[.str a,.str b]=>(Mo op a b).map .bool
 | .cat,[.str a,.str b]=>if a.size+b.size<=Bc then some (.str (a++b)) else none
 | .eqB ng,[.bool a,.bool b]=>some (.bool (if ng then a !=b else a == b))
 | .eqA ng,[.agg a,.agg b]=>(IV.Qv a b).map λr=> .bool (if ng then !r else r)
 | .not,[.bool a]=>some (.bool !a)
 | .neg k,[.int a]=>some (.int (k.wrap (0 - a)))
 | .conv k,[.int a]=>some (.int (k.wrap a))
 | .len,[.list xs]=>some (.int xs.length)
 | .Ato,[.str s]=>some (.int s.size)
 | .index,[.list xs,.int i]=>if 0<=i then xs[i.toNat]? else none
 | .M3,[.str s,.int i]=>if 0<=i then(s[i.toNat]?).map λb=> .int b.toNat else none
 | .slice,[.list xs,.int l,.int h]=>if 0<=l/\l<=h/\h<=xs.length then some (.list ((xs.take h.toNat).drop l.toNat)) else none
 | .Nj,[.list xs,.int l]=>if 0<=l/\l<=xs.length then some (.list (xs.drop l.toNat)) else none
 | .Ov,[.str s,.int l,.int h]=>if 0<=l/\l<=h/\h<=s.size then some (.str (s.extract l.toNat h.toNat)) else none
 | .Jo,[.str s,.int l]=>if 0<=l/\l<=s.size then some (.str (s.extract l.toNat s.size)) else none
 | .append bytes,[.list xs,.list ys]=>if(xs.length+ys.length) * bytes<=Bc then some (.list (xs++ys)) else none
 | .Of bytes,[.list xs,.list ys]=>if 0<ys.length/\(xs.length+ys.length) * bytes<=Bc then some (.list (xs++ys)) else none
 | .Mc,[.list xs,.str s]=>if xs.length+s.size<=Bc then some (.list (xs++Cs s)) else none
 | .Sg,xs=>some (.agg xs)
 | .Ou,xs=>some (.list xs)
 | .proj off n isAgg,[.agg xs]=>if isAgg then some (.agg ((xs.drop off).take n)) else xs[off]?
 | .setAt off n isAgg whole,[.list xs,.int i,x]=>
  if 0<=i then
   match xs[i.toNat]? with
   | none=>none
   | some old=>
    if whole then some (.list (xs.set i.toNat x))
    else match old with
     | .agg cs=>match isAgg,x with
      | true,.agg new=>if new.length=n then some (.list (xs.set i.toNat (.agg (setCells cs new off)))) else none
      | true,_=>none
      | false,x=>some (.list (xs.set i.toNat (.agg (cs.set off x))))
     | _=>none
  else none
 | .max,[.int a,.int b]=>some (.int (if a<b then b else a))
 | .min,[.int a,.int b]=>some (.int (if b<a then b else a))
 | .pick,[.bool c,a,b]=>some (if c then a else b)
 | .Akk bytes z,[.int l,.int c]=>if 0<=l/\l<=c/\c * bytes<=Bc then some (.list (aD l.toNat z)) else none
 | .clear z,[.list xs,.int l,.int h]=>if 0<xs.length/\0<=l/\l<=h/\h<=xs.length then some (.list (xs.take l.toNat++aD (h.toNat - l.toNat) z++xs.drop h.toNat)) else none
 | .copy,[.list xs,.int l,.list ys]=>if 0<=l/\l+ys.length<=xs.length then some (.list (xs.take l.toNat++ys++xs.drop (l.toNat+ys.length))) else none
 | .bytesOf,[.str s]=>some (.list (Cs s))
 | .Ak7,[.bool b]=>if b then some (.bool true) else none
 | .Oq,[.str s,.int p]=>if 0<=p then some (.bool (decide (p.toNat<s.size))) else none
 | .Ow,[.str s,.int p]=>if 0<=p then some (.int (if p.toNat<s.size then(Utf8.decode s p.toNat).1 else 0)) else none
 | .H8,[.str s,.int p]=>if 0<=p then some (.int (if p.toNat<s.size then p.toNat+(Utf8.decode s p.toNat).2 else p.toNat)) else none
 | .Aoh z,[.list es,k]=>(Wj k es).map λr=>r.getD z
 | .Aku,[.list es,k]=>(Wj k es).map λr=> .bool r.isSome
 | .Ap5,[.list es,k,v]=>(Avg k v es).map .list
 | .strOf,[.list xs]=>(xs.mapM Lo).map λl=> .str ⟨l.toArray⟩
 | _,_=>none
structure Job where
 spec:Nat
 blk:Nat -- block of the spec; 0: its entry
inductive O0 where
 | Cb (p:Prim) (args:List Arg)
 | call (s:Nat) (args:List Arg) (n:Nat) -- n results
structure Mm where
 gs:List (Arg × Bool)
 l:O0
inductive PT where
 | lets (l:Mm) (k:PT)
 | ite (c:Arg) (p q:PT)
 | jump (b:Nat) (args:List Arg)
 | ret (args:List Arg)
 deriving Inhabited
def Arg.ev (ρ:List IV):Arg->Option IV
 | .v n=>ρ[n]?
 | .k c=>some c
def Arg.evs (ρ:List IV):List Arg->Option (List IV)
 | []=>some []
 | a::as=>do
  let x <-a.ev ρ
  let xs <-Arg.evs ρ as
  pure (x::xs)
def holds (ρ:List IV):List (Arg × Bool)->Option Bool
 | []=>some true
 | (a,want)::gs=>
  match a.ev ρ with
  | some (.bool b)=>if b=want then holds ρ gs else some false
  | _=>none
def O0.ev (R:Job->List IV->Option (List IV))(ρ:List IV):O0->Option (List IV)
 | .Cb p as=>((Arg.evs ρ as).bind p.ev).map ([·])
 | .call s as n=>((Arg.evs ρ as).bind (R ⟨s,0⟩)).bind λrs=>if rs.length=n then some rs else none
def O0.arity:O0->Nat
 | .Cb _ _=>1
 | .call _ _ n=>n
def Mm.ev (R:Job->List IV->Option (List IV))(ρ:List IV)(g:Mm):Option (List IV):=
 (holds ρ g.gs).bind λb=>if b then g.l.ev R ρ else some (aD g.l.arity .junk)
def PT.den (R:Job->List IV->Option (List IV))(s:Nat):PT->List IV->Option (List IV)
 | .lets l k,ρ=>(l.ev R ρ).bind λxs=>k.den R s (ρ++xs)
 | .ite c p q,ρ=>
  match c.ev ρ with
  | some (.bool true)=>p.den R s ρ
  | some (.bool false)=>q.den R s ρ
  | _=>none
 | .jump b as,ρ=>(Arg.evs ρ as).bind (R ⟨s,b⟩)
 | .ret as,ρ=>Arg.evs ρ as
inductive PV where
 | p (key off:Nat) -- into a box
 | el (key:Nat) (e:TypeId) (i:Arg) (off:Nat) -- into an element (of type e) of an own array
 | im (x:Arg) (t:TypeId) (off:Nat) -- into memory that nobody writes any more; x: all that lies there, of type t
 deriving Inhabited
inductive LV where
 | at (x:Arg) (t:TypeId)
 | nil (t:TypeId)
 | ref (key:Nat) (t:TypeId)
 | sub (key:Nat) (lo hi:Arg) (t:TypeId) -- a part of a row of one's own
 | ptr (p:PV)
 | fn (f:FuncId) (caps:List PV)
 | mref (key:Nat) (t:TypeId) -- a map of one's own
 | hid (key:Nat) -- nil, or the pointer to the variable 'key'
 | cl (x:Arg) (t:TypeId) -- data: a row without room
 | st (x:Arg) (t:TypeId) -- data: a row that is nil where it is empty
 | junk
 deriving Inhabited
inductive VV where
 | leaf (l:LV)
 | agg (t:TypeId) (cs:List LV)
 deriving Inhabited
inductive SX where
 | one (v:VV)
 | tup (vs:List VV)
 | nx (ok i r:Arg) -- what a step through a text gives
 deriving Inhabited
structure SV where
 gs:List (Arg × Bool)
 x:SX
 deriving Inhabited
inductive Ob where
 | box (t:TypeId) (v:VV)
 | arr (e:TypeId) (t:TypeId) (c:Arg) -- own
 | frz (e:TypeId) (t:TypeId) (c:Arg) -- not written any more
 | iter (s p:Arg) -- a walk through a text
 | mp (t kt vt:TypeId) (c:Arg) -- a map
 deriving Inhabited
structure PLt where
 n:Nat
 l:Mm
inductive RM (α:Type) where
 | pure (a:α)
 | tm (s:Nat) (k:SV->RM α)
 | ob (key:Nat) (k:Option Ob->RM α)
 | emit (l:PLt) (k:RM α)
 | fail
def RM.bind {α β:Type} :RM α->(α->RM β)->RM β
 | .pure a,f=>f a
 | .tm s k,f=> .tm s λv=>(k v).bind f
 | .ob s k,f=> .ob s λv=>(k v).bind f
 | .emit l k,f=> .emit l (k.bind f)
 | .fail,_=> .fail
structure View where
 tm:Nat->SV
 ob:Nat->Option Ob
def RM.run {α:Type}(S:View):RM α->Option (α × List PLt × List Nat × List Nat)
 | .pure a=>some (a,[],[],[])
 | .tm s k=>((k (S.tm s)).run S).map fun(a,e,l,r)=>(a,e,s::l,r)
 | .ob s k=>((k (S.ob s)).run S).map fun(a,e,l,r)=>(a,e,l,s::r)
 | .emit t k=>(k.run S).map fun(a,e,l,r)=>(a,t::e,l,r)
 | .fail =>none
structure ES where
 n:Nat -- the next atom
 m:Nat -- the next key
 gs:List (Arg × Bool) -- under which guard
 obs:List (Nat × Option Ob) -- the first counts
def EM (α:Type):=ES->RM (α × ES)
instance :Monad EM where
 pure a:=λs=> .pure (a,s)
 bind x f:=λs=>(x s).bind fun(a,s')=>f a s'
def Io (k:Nat):List (Nat × Option Ob)->Option (Option Ob)
 | []=>none
 | (a,o)::r=>if a == k then some o else Io k r
namespace EM
def fail {α:Type} :EM α:=λ_=> .fail
def Aja (s:Nat):EM SV:=λes=> .tm s λv=> .pure (v,es)
def Hr (k:Nat):EM Ob:=λes=>
 match Io k es.obs with
 | some (some o)=> .pure (o,es)
 | some none=> .fail
 | none=> .ob k λo=>match o with
  | some o=> .pure (o,es)
  | none=> .fail
def ofOption {α:Type}(o:Option α):EM α:=λes=>match o with | some a=> .pure (a,es) | none=> .fail
def guard (b:Bool):EM Unit:=λes=>if b then .pure ((),es) else .fail
def emit (l:O0):EM Nat:=λes=> .emit ⟨es.n,⟨es.gs,l⟩⟩ (.pure (es.n,{es with n:=es.n+l.arity}))
def Cb (p:Prim)(as:List Arg):EM Arg:=do pure (.v (<-emit (.Cb p as)))
def Gr (k:Nat)(o:Option Ob):EM Unit:=λes=> .pure ((),{es with obs:=(k,o)::es.obs})
def Hn:EM Nat:=λes=> .pure (es.m,{es with m:=es.m+1})
def guards:EM (List (Arg × Bool)):=λes=> .pure (es.gs,es)
def bare:EM Unit:=λes=>match es.gs with | []=> .pure ((),es) | _=> .fail
end EM
open EM
def Arg.same:Arg->Arg->Bool
 | .v a,.v b=>a == b
 | .k (.bool a),.k (.bool b)=>a == b
 | .k (.int a),.k (.int b)=>a == b
 | _,_=>false
def A28 (g:Arg × Bool)(gs:List (Arg × Bool)):Bool:=gs.any λh=>g.1.same h.1&&g.2 == h.2
def Wo (gs a:List (Arg × Bool)):Bool:=gs.all λg=>A28 g a
section
variable (P:Program)
def Ak (t:TypeId):Bool:=match P.underlying t with | some (.struct _) | some (.array _ _)=>true | _=>false
def Ag (t:TypeId):Nat:=match P.info? t with | some i=>i.size | none=>0
def Kp (t:TypeId):Nat:=match P.info? t with | some i=>i.bytes | none=>0
def Mt (t:TypeId):Option IntKind:=match P.underlying t with | some (.int k)=>some k | _=>none
def isStr (t:TypeId):Bool:=match P.underlying t with | some .string =>true | _=>false
def isBool (t:TypeId):Bool:=match P.underlying t with | some .bool =>true | _=>false
def Dl (t:TypeId):Option TypeId:=match P.underlying t with | some (.slice e)=>some e | _=>none
def Ij:Nat->TypeId->Option (List TypeId)
 | 0,_=>none
 | d+1,t=>
  match P.underlying t with
  | some (.struct fs)=>(fs.toList.mapM λf=>Ij d f.type).map List.flatten
  | some (.array n e)=>(Ij d e).map λl=>(aD n l).flatten
  | some _=>some [t]
  | none=>none
def leaves (t:TypeId):Option (List TypeId):=Ij P 12 t
def Yd (t0:TypeId)(off:Nat)(t:TypeId):Bool:=
 match leaves P t0,leaves P t with
 | some ts,some us=>(ts.drop off).take us.length == us&&us.length == Ag P t&&0<us.length
 | _,_=>false
def N4 (t:TypeId):Value->Option LV
 | .int k n=>if Mt P t=some k then some (.at (.k (.int n)) t) else none
 | .bool b=>if isBool P t then some (.at (.k (.bool b)) t) else none
 | .string s=>if isStr P t then some (.at (.k (.str s)) t) else none
 | .slice none 0 0=>if(Dl P t).isSome then some (.nil t) else none
 | .nilFunc =>some .junk
 | .pointer none=>some .junk
 | .nilIface =>some .junk
 | .map none=>some .junk
 | _=>none
def E5:List TypeId->List Value->Option (List LV)
 | [],[]=>some []
 | t::ts,v::vs=>do
  let l <-N4 P t v
  let ls <-E5 ts vs
  pure (l::ls)
 | _,_=>none
def O5 (t:TypeId)(v:Value):Option VV:=
 match v with
 | .agg cs=>if Ak P t then do pure (.agg t (<-E5 P (<-leaves P t) cs.toList)) else none
 | v=>if Ak P t then none else(N4 P t v).map .leaf
def Yn (t:TypeId):Option VV:=do O5 P t (<- (<-P.info? t).zero)
def Ka:LV->Option IV
 | .at (.k c) _=>some c
 | .nil _=>some (.list [])
 | _=>none
def Qm:List LV->Option (List IV)
 | []=>some []
 | l::ls=>do
  let x <-Ka l
  let xs <-Qm ls
  pure (x::xs)
def Ahm (t:TypeId):Option IV:=do
 match <-Yn P t with
 | .leaf l=>Ka l
 | .agg _ cs=>(Qm cs).map .agg
def rd (x:Operand)(t:TypeId):EM SX:=do
 match x with
 | .tmp s=>do
  let v <-Aja s
  EM.guard (Wo v.gs (<-guards))
  pure v.x
 | .const c=>do pure (.one (<-ofOption (O5 P t c)))
 | .func f=>pure (.one (.leaf (.fn f [])))
 | .global _=>fail
def rd1 (x:Operand)(t:TypeId):EM VV:=do
 match <-rd P x t with
 | .one v=>pure v
 | _=>fail
def A2o (t c:TypeId):Bool:=t == c||(match Mt P t,Mt P c with | some a,some b=>a == b | _,_=>false)
def D5 (fz:Bool)(t:TypeId)(l:LV):EM Arg:=do
 match l with
 | .at x a=>do
  EM.guard (A2o P t a)
  pure x
 | .cl x a=>do
  EM.guard (t == a)
  pure x
 | .st x a=>do
  EM.guard (t == a)
  pure x
 | .nil _=>do
  EM.guard (Dl P t).isSome
  pure (.k (.list []))
 | .ref k _=>do
  match <-Hr k with
  | .arr e tt c=>do
   EM.guard (Dl P t == some e)
   if fz then Gr k (some (.frz e tt c))
   pure c
  | .frz e _ c=>do
   EM.guard (Dl P t == some e)
   pure c
  | _=>fail
 | .sub k lo b a=>do
  match <-Hr k with
  | .arr e tt c=>do
   EM.guard (Dl P t == some e&&Dl P a == some e)
   let x <-Cb .slice [c,lo,b]
   if fz then Gr k (some (.frz e tt c))
   pure x
  | .frz e _ c=>do
   EM.guard (Dl P t == some e&&Dl P a == some e)
   Cb .slice [c,lo,b]
  | _=>fail
 | _=>fail
def Ep (fz:Bool):List TypeId->List LV->EM (List Arg)
 | [],[]=>pure []
 | t::ts,l::ls=>do
  let a <-D5 P fz t l
  let as <-Ep fz ts ls
  pure (a::as)
 | _,_=>fail
def J4 (fz:Bool)(t:TypeId)(v:VV):EM Arg:=do
 match v with
 | .leaf l=>D5 P fz t l
 | .agg a cs=>do
  EM.guard (t == a&&Ak P t)
  Cb .Sg (<-Ep P fz (<-ofOption (leaves P t)) cs)
def I7 (x:Operand)(t:TypeId):EM Arg:=do J4 P false t (<-rd1 P x t)
def Aio (x:Operand):EM Arg:=do
 match x with
 | .const (.int _ n)=>pure (.k (.int n))
 | .tmp s=>do
  let v <-Aja s
  EM.guard (Wo v.gs (<-guards))
  match v.x with
  | .one (.leaf (.at a t))=>do
   EM.guard (Mt P t).isSome
   pure a
  | _=>fail
 | _=>fail
def projs (x:Arg):List TypeId->Nat->EM (List LV)
 | [],_=>pure []
 | t::ts,i=>do
  let a <-Cb (.proj i 1 false) [x]
  let r <-projs x ts (i+1)
  pure (.at a t::r)
def Pg (v:VV):EM (List LV):=do
 match v with
 | .agg _ cs=>pure cs
 | .leaf .junk =>fail
 | .leaf (.at x t)=>
  if Ak P t then do projs x (<-ofOption (leaves P t)) 0 else pure [.at x t]
 | .leaf l=>pure [l]
def Ajj (t0:TypeId)(v:VV)(off:Nat)(t:TypeId):EM VV:=do
 match v with
 | .agg _ cs=>
  if Ak P t then do
   EM.guard (decide (off+Ag P t<=cs.length))
   pure (.agg t ((cs.drop off).take (Ag P t)))
  else do pure (.leaf (<-ofOption cs[off]?))
 | .leaf (.at x a)=>do
  EM.guard (a == t0)
  if Ak P t0 then
   if off == 0&&t == t0 then pure (.leaf (.at x t0))
   else do
    EM.guard (Yd P t0 off t)
    pure (.leaf (.at (<-Cb (.proj off (Ag P t) (Ak P t)) [x]) t))
  else do
   EM.guard (off == 0&&t == t0)
   pure (.leaf (.at x t0))
 | .leaf .junk =>fail
 | .leaf l=>do
  EM.guard (off == 0&& !Ak P t)
  pure (.leaf l)
def Avk (p:PV)(t:TypeId):EM VV:=do
 EM.guard (P.underlying t).isSome
 match p with
 | .p k off=>do
  match <-Hr k with
  | .box t0 v=>Ajj P t0 v off t
  | _=>fail
 | .el k e i off=>do
  match <-Hr k with
  | .arr a _ c=>do
   EM.guard (e == a)
   let x <-Cb .index [c,i]
   Ajj P e (.leaf (.at x e)) off t
  | _=>fail
 | .im x t0 off=>Ajj P t0 (.leaf (.at x t0)) off t
def Po (t:TypeId):Bool:=
 match leaves P t with
 | some ts=>ts.length == Ag P t&&(Ak P t||Ag P t == 1)
 | none=>false
def Pm (t:TypeId):Bool:=
 match P.info? t with
 | some i=>(match i.zero with | some z=>z.cells.size == i.size | none=>false)
 | none=>false
def Ma (t:TypeId):VV->Bool
 | .agg a cs=>t == a&&Ak P t&&cs.length == Ag P t
 | .leaf .junk =>false
 | .leaf (.at _ a)=>t == a&&Po P t
 | .leaf _=> !Ak P t&&Ag P t == 1
def Aeq (t:TypeId):VV->Bool
 | .leaf .junk => !Ak P t&&Ag P t == 1
 | v=>Ma P t v
def Avp (p:PV)(t:TypeId)(v:VV):EM Unit:=do
 bare
 match p with
 | .p k off=>do
  match <-Hr k with
  | .box t0 old=>
   if off == 0&&t == t0 then do
    EM.guard (Ma P t v)
    Gr k (some (.box t0 v))
   else do
    EM.guard (Ak P t0&&decide (0<Ag P t))
    let cs <-Pg P old
    let new <-Pg P v
    EM.guard (decide (off+new.length<=cs.length)&&new.length == Ag P t)
    Gr k (some (.box t0 (.agg t0 (cs.take off++new++cs.drop (off+new.length)))))
  | _=>fail
 | .el k a i off=>do
  let x <-J4 P true t v
  match <-Hr k with
  | .arr e tt c=>do
   EM.guard (e == a)
   EM.guard ((off == 0&&t == e&&Po P e)||(Ak P e&&Yd P e off t&&Po P e))
   let c' <-Cb (.setAt off (Ag P t) (Ak P t) (off == 0&&t == e)) [c,i,x]
   Gr k (some (.arr e tt c'))
  | _=>fail
 | .im .. =>fail
def Zq (t:TypeId):VV->Bool
 | .agg _ cs=>Ak P t&&cs.length == Ag P t
 | .leaf (.at _ a)=>Ak P t&&t == a&&(match leaves P t with | some ts=>ts.length == Ag P t | none=>false)
 | _=>false
def Aaj (v:VV):EM PV:=do
 match v with
 | .leaf (.ptr p)=>pure p
 | _=>fail
def PV.plus (p:PV)(o:Nat):PV:=
 match p with
 | .p k off=> .p k (off+o)
 | .el k e i off=> .el k e i (off+o)
 | .im x t off=> .im x t (off+o)
def one (v:VV):SX:= .one v
def dat (x:Arg)(t:TypeId):SX:= .one (.leaf (.at x t))
def An0 (t:TypeId):Bool:=
 match P.underlying t with
 | some (.struct fs)=>
  fs.toList.zipIdx.all (fun(f,i)=>f.offset == i&&f.name != "_" &&((Mt P f.type).isSome ||isStr P f.type||isBool P f.type))&&
  !P.stoodInHeld t&& !P.eqGuardType P.depth t
 | _=>false
def yOk (op:BinOp)(yt:TypeId)(k:IntKind):Bool:=
 match op with
 | .shl | .shr =>(Mt P yt).isSome
 | _=>Mt P yt == some k
def A7w (op:BinOp)(xt:TypeId)(x y:Operand)(yt rt:TypeId):EM SX:=do
 let a <-I7 P x xt
 let b <-I7 P y yt
 match P.underlying xt with
 | some (.int k)=>do
  EM.guard (yOk P op yt k)
  match op with
  | .add | .sub | .mul =>do
   EM.guard (Mt P rt == some k)
   pure (dat (<-Cb (.arith op k) [a,b]) rt)
  | .quo =>do
   EM.guard (Mt P rt == some k)
   pure (dat (<-Cb (.quo k) [a,b]) rt)
  | .rem =>do
   EM.guard (Mt P rt == some k)
   pure (dat (<-Cb (.rem k) [a,b]) rt)
  | .shl | .shr =>do
   EM.guard (Mt P rt == some k)
   pure (dat (<-Cb (.shift op k) [a,b]) rt)
  | .eql | .neq | .lss | .leq | .gtr | .geq =>do
   EM.guard (isBool P rt)
   pure (dat (<-Cb (.cmp op) [a,b]) rt)
  | _=>fail
 | some .string =>do
  EM.guard (isStr P yt)
  match op with
  | .add =>do
   EM.guard (isStr P rt)
   pure (dat (<-Cb .cat [a,b]) rt)
  | .eql | .neq | .lss | .leq | .gtr | .geq =>do
   EM.guard (isBool P rt)
   pure (dat (<-Cb (.cmpS op) [a,b]) rt)
  | _=>fail
 | some .bool =>do
  EM.guard (isBool P yt&&isBool P rt)
  match op with
  | .eql =>do pure (dat (<-Cb (.eqB false) [a,b]) rt)
  | .neq =>do pure (dat (<-Cb (.eqB true) [a,b]) rt)
  | _=>fail
 | some (.struct _)=>do
  EM.guard (An0 P xt&&xt == yt&&isBool P rt)
  match op with
  | .eql =>do pure (dat (<-Cb (.eqA false) [a,b]) rt)
  | .neq =>do pure (dat (<-Cb (.eqA true) [a,b]) rt)
  | _=>fail
 | _=>fail
def A62 (ne:Bool)(xt:TypeId)(x:Operand)(rt:TypeId):EM SX:=do
 match <-rd1 P x xt with
 | .leaf (.st c t)=>do
  EM.guard ((Dl P t).isSome &&isBool P rt&&(Dl P xt).isSome)
  let n <-Cb .len [c]
  let b <-Cb (.cmp (if ne then .neq else .eql)) [n,.k (.int 0)]
  pure (dat b rt)
 | _=>fail
def Ak2 (op:BinOp)(xt:TypeId)(x y:Operand)(yt rt:TypeId):EM SX:=
 match op,y with
 | .eql,.const (.slice none 0 0)=>A62 P false xt x rt
 | .neq,.const (.slice none 0 0)=>A62 P true xt x rt
 | _,_=>A7w P op xt x y yt rt
def rtOf (op:BinOp)(xt rt:TypeId):TypeId:=
 match op with
 | .eql | .neq | .lss | .leq | .gtr | .geq =>if isBool P rt then rt else((dA 64).find? (isBool P ·)).getD rt
 | .add | .sub =>if(Mt P xt).isSome &&Mt P rt !=Mt P xt then xt else rt
 | _=>rt
def xUn (op:UnOp)(xt:TypeId)(x:Operand)(rt:TypeId):EM SX:=do
 let a <-I7 P x xt
 match op with
 | .not =>do
  EM.guard (isBool P xt&&isBool P rt)
  pure (dat (<-Cb .not [a]) rt)
 | .neg =>do
  let k <-ofOption (Mt P xt)
  EM.guard (Mt P rt == some k)
  pure (dat (<-Cb (.neg k) [a]) rt)
 | _=>fail
def A2n (src dst:TypeId)(x:Operand):EM SX:=do
 let a <-I7 P x src
 match P.underlying src,P.underlying dst with
 | some (.int _),some (.int k)=>do pure (dat (<-Cb (.conv k) [a]) dst)
 | some .string,some .string =>pure (dat a dst)
 | some (.slice e),some .string =>do
  EM.guard (Mt P e == some .u8)
  pure (dat (<-Cb .strOf [a]) dst)
 | _,_=>fail
def Vn (t:TypeId)(x i:Operand):EM SX:=do
 let xv <-rd1 P x t
 match P.underlying t with
 | some (.slice e)=>do
  EM.guard (decide (0<Ag P e))
  let iv <-Aio P i
  match xv with
  | .leaf (.ref k _)=>do
   match <-Hr k with
   | .arr a _ c=>do
    EM.guard (e == a)
    let _ <-Cb .index [c,iv]
    pure (one (.leaf (.ptr (.el k e iv 0))))
   | .frz a _ c=>do
    EM.guard (e == a)
    pure (one (.leaf (.ptr (.im (<-Cb .index [c,iv]) e 0))))
   | _=>fail
  | .leaf l=>do
   let c <-D5 P true t l
   pure (one (.leaf (.ptr (.im (<-Cb .index [c,iv]) e 0))))
  | _=>fail
 | some (.array n e)=>do
  let p <-Aaj xv
  match i with
  | .const (.int _ j)=>do
   EM.guard (decide (0<=j)&&decide (j<n)&&decide (0<Ag P e))
   pure (one (.leaf (.ptr (p.plus (j.toNat * Ag P e)))))
  | _=>fail
 | _=>fail
def Td (x:Option Operand):EM (Option Arg):=do
 match x with
 | none=>pure none
 | some o=>do pure (some (<-Aio P o))
def A6b (c l:Arg)(h:Option Arg)(t:TypeId):EM SX:=
 match h with
 | some h=>do pure (dat (<-Cb .slice [c,l,h]) t)
 | none=>do pure (dat (<-Cb .Nj [c,l]) t)
def A8j (c:Arg)(h:Option Arg):EM Arg:=
 match h with
 | some h=>pure h
 | none=>Cb .len [c]
def Atp (t:TypeId)(x:Operand)(lo b mx:Option Operand):EM SX:=do
 EM.guard mx.isNone
 let xv <-rd1 P x t
 let l <-Td P lo
 let h <-Td P b
 match P.underlying t with
 | some .string =>do
  let a <-J4 P false t xv
  match h with
  | some h=>do pure (dat (<-Cb .Ov [a,l.getD (.k (.int 0)),h]) t)
  | none=>do pure (dat (<-Cb .Jo [a,l.getD (.k (.int 0))]) t)
 | some (.slice e)=>do
  EM.guard (decide (0<Ag P e))
  match xv with
  | .leaf (.ref k _)=>do
   match <-Hr k with
   | .arr d _ c=>do
    EM.guard (e == d)
    let b <-A8j c h
    let _ <-Cb .slice [c,l.getD (.k (.int 0)),b]
    pure (one (.leaf (.sub k (l.getD (.k (.int 0))) b t)))
   | .frz d _ c=>do
    EM.guard (e == d)
    A6b c (l.getD (.k (.int 0))) h t
   | _=>fail
  | .leaf lf=>do
   let c <-D5 P true t lf
   A6b c (l.getD (.k (.int 0))) h t
  | _=>fail
 | _=>fail
def Alb (t:TypeId)(x:Operand)(lo a mx:Option Operand):EM SX:=do
 let xv <-rd1 P x t
 let l <-Td P lo
 let h <-Td P a
 let m <-Td P mx
 match P.underlying t with
 | some (.slice e)=>do
  EM.guard (decide (0<Ag P e))
  match xv,h,m with
  | .leaf (.ref k _),some h,some m=>do
   match <-Hr k with
   | .arr b _ c=>do
    EM.guard (e == b)
    let _ <-Cb .slice [c,l.getD (.k (.int 0)),h]
    let _ <-Cb .slice [c,h,m]
    pure (one (.leaf .junk))
   | _=>fail
  | _,_,_=>fail
 | _=>fail
def Zc (t:TypeId)(k:Nat)(a:TypeId)(lo b:Option Operand):EM SX:=do
 let l <-Td P lo
 let h <-Td P b
 match P.underlying t with
 | some (.slice e)=>do
  EM.guard (decide (0<Ag P e)&&Dl P a == some e)
  match h with
  | some h=>do
   match <-Hr k with
   | .arr d _ c=>do
    EM.guard (e == d)
    let _ <-Cb .slice [c,l.getD (.k (.int 0)),h]
    pure (one (.leaf (.sub k (l.getD (.k (.int 0))) h t)))
   | _=>fail
  | none=>fail
 | _=>fail
def Xl (t:TypeId)(x:Operand)(lo a mx:Option Operand):EM SX:=
 match mx with
 | some m=>Alb P t x lo a (some m)
 | none=>do
  match <-rd1 P x t with
  | .leaf (.sub k (.k (.int 0)) _ b)=>Zc P t k b lo a
  | _=>Atp P t x lo a none
def M0 (e:TypeId):List (Nat × Operand)->Nat->EM (List Arg)
 | [],_=>pure []
 | (i,x)::b,j=>do
  EM.guard (i == j)
  let a <-J4 P true e (<-rd1 P x e)
  let r <-M0 e b (j+1)
  pure (a::r)
def R4 (t:TypeId)(len:Nat)(parts:Array (Nat × Operand)):EM SX:=do
 bare
 let e <-ofOption (Dl P t)
 EM.guard (decide (len * Ag P e<=2 ^ 24)&&decide (0<Ag P e)&&parts.size == len&&Pm P e&&Po P e)
 let args <-M0 P e parts.toList 0
 let c <-Cb .Ou args
 let k <-Hn
 Gr k (some (.arr e t c))
 pure (one (.leaf (.ref k t)))
def P6 (t:TypeId)(len:Nat)(parts:Array (Nat × Operand)):EM SX:=do
 let e <-ofOption (Dl P t)
 EM.guard (decide (len * Ag P e<=2 ^ 24)&&decide (0<Ag P e)&&parts.size == len&&Pm P e&&Po P e)
 let args <-M0 P e parts.toList 0
 let c <-Cb .Ou args
 pure (dat c t)
def M5 (place:Nat->Option (Nat × TypeId)):List (Nat × Operand)->List LV->EM (List LV)
 | [],cs=>pure cs
 | (i,x)::a,cs=>do
  let (off,t) <-ofOption (place i)
  let new <-Pg P (<-rd1 P x t)
  EM.guard (new.length == Ag P t&&decide (off+new.length<=cs.length))
  M5 place a (cs.take off++new++cs.drop (off+new.length))
def Asm (t:TypeId)(parts:Array (Nat × Operand)):EM SX:=do
 match <-ofOption (Yn P t) with
 | .agg _ cs=>
  match P.underlying t with
  | some (.struct fs)=>do
   EM.guard (fs.toList.all λf=>(P.info? f.type).isSome)
   pure (one (.agg t (<-M5 P (λi=>(fs[i]?).map λf=>(f.offset,f.type)) parts.toList cs)))
  | some (.array _ e)=>do
   EM.guard (P.info? e).isSome
   pure (one (.agg t (<-M5 P (λi=>some (i * Ag P e,e)) parts.toList cs)))
  | _=>fail
 | _=>fail
def A76 (t:TypeId)(x:Operand)(rt:TypeId):EM SX:=do
 EM.guard (Mt P rt == some .i64)
 let a <-I7 P x t
 match P.underlying t with
 | some .string =>do pure (dat (<-Cb .Ato [a]) rt)
 | some (.slice _)=>do pure (dat (<-Cb .len [a]) rt)
 | _=>fail
def Tq (e:TypeId)(v:VV):EM (Option Nat × Arg):=do
 match v with
 | .leaf (.nil _)=>pure (none,.k (.list []))
 | .leaf (.ref k _)=>do
  match <-Hr k with
  | .arr a _ c=>do
   EM.guard (e == a)
   pure (some k,c)
  | _=>fail
 | .leaf (.sub k (.k (.int 0)) b d)=>do
  match <-Hr k with
  | .arr a _ c=>do
   EM.guard (e == a&&Dl P d == some e)
   pure (some k,<-Cb .slice [c,.k (.int 0),b])
  | _=>fail
 | _=>fail
def Ry (old:Option Nat):EM Unit:=
 match old with
 | some k=>Gr k none
 | none=>pure ()
def Ami (st xt:TypeId)(s x:Operand)(rt:TypeId):EM SX:=do
 bare
 let e <-ofOption (Dl P st)
 EM.guard (decide (0<Ag P e)&&decide (0<Kp P e)&&st == xt&&Pm P e)
 let sv <-rd1 P s st
 let xv <-rd1 P x xt
 let a <-J4 P false xt xv
 let (old,c) <-Tq P e sv
 let c' <-Cb (.append (Kp P e)) [c,a]
 Ry old
 let b <-Hn
 Gr b (some (.arr e st c'))
 pure (one (.leaf (.ref b rt)))
def Afx (st xt:TypeId)(c:Arg)(ct:TypeId)(x:Operand)(rt:TypeId):EM SX:=do
 bare
 let e <-ofOption (Dl P st)
 EM.guard (decide (0<Ag P e)&&decide (0<Kp P e)&&st == xt&&ct == st&&Pm P e)
 let xv <-rd1 P x xt
 let a <-J4 P false xt xv
 let c' <-Cb (.Of (Kp P e)) [c,a]
 let b <-Hn
 Gr b (some (.arr e st c'))
 pure (one (.leaf (.ref b rt)))
def Rw (st xt:TypeId)(k:Nat)(b:Arg)(g:TypeId)(lo a:Arg)(t2:TypeId)(rt:TypeId):EM SX:=do
 bare
 let e <-ofOption (Dl P st)
 EM.guard (decide (0<Ag P e)&&decide (0<Kp P e)&&st == xt&&Pm P e&&Dl P g == some e&&Dl P t2 == some e&&Dl P rt == some e)
 match <-Hr k with
 | .arr h tt c=>do
  EM.guard (e == h)
  let _ <-Cb .index [c,.k (.int 0)]
  let _ <-Cb .slice [c,b,lo]
  let x <-Cb .slice [c,.k (.int 0),b]
  let y <-Cb .slice [c,lo,a]
  let d <-Cb (.append 0) [x,y]
  let m <-Cb .len [d]
  let z <-Cb .Nj [c,m]
  let c' <-Cb (.append 0) [d,z]
  Gr k (some (.arr e tt c'))
  pure (one (.leaf (.sub k (.k (.int 0)) m rt)))
 | _=>fail
def Anx:VV->VV->Option (Nat × Arg × TypeId × Arg × Arg × TypeId)
 | .leaf (.sub k (.k (.int 0)) b c),.leaf (.sub k2 lo a t2)=>if k == k2 then some (k,b,c,lo,a,t2) else none
 | _,_=>none
def T8 (st xt:TypeId)(s x:Operand)(rt:TypeId):EM SX:=do
 match <-rd1 P s st with
 | .leaf (.cl c ct)=>Afx P st xt c ct x rt
 | sv=>do
  match Anx sv (<-rd1 P x xt) with
  | some (k,b,d,lo,a,t2)=>Rw P st xt k b d lo a t2 rt
  | none=>Ami P st xt s x rt
def zeroByte (e:TypeId):Bool:=
 match P.info? e with
 | some i=>match i.zero with | some (.int .u8 0)=>true | _=>false
 | none=>false
def Ae5 (st xt:TypeId)(s x:Operand)(rt:TypeId):EM SX:=do
 bare
 let e <-ofOption (Dl P st)
 EM.guard (isStr P xt&&Mt P e == some .u8 &&Ag P e == 1&&Kp P e == 1&&(Pm P e&&zeroByte P e))
 let sv <-rd1 P s st
 let a <-I7 P x xt
 let (old,c) <-Tq P e sv
 let c' <-Cb .Mc [c,a]
 Ry old
 let b <-Hn
 Gr b (some (.arr e st c'))
 pure (one (.leaf (.ref b rt)))
def Adw (mx:Bool)(t:TypeId)(x y:Operand)(rt:TypeId):EM SX:=do
 let k <-ofOption (Mt P t)
 EM.guard (Mt P rt == some k)
 let a <-I7 P x t
 let b <-I7 P y t
 pure (dat (<-Cb (if mx then .max else .min) [a,b]) rt)
def Asz (t:TypeId)(x:Operand):EM SX:=do
 bare
 let e <-ofOption (Dl P t)
 EM.guard (decide (0<Ag P e)&&Pm P e)
 let z <-ofOption (Ahm P e)
 let xv <-rd1 P x t
 match xv with
 | .leaf (.sub k lo a b)=>do
  match <-Hr k with
  | .arr d tt c=>do
   EM.guard (e == d&&Dl P b == some e)
   let c' <-Cb (.clear z) [c,lo,a]
   Gr k (some (.arr e tt c'))
   pure (one (.leaf .junk))
  | _=>fail
 | _=>fail
def Vc (t:TypeId)(len cap:Operand):EM SX:=do
 bare
 let e <-ofOption (Dl P t)
 EM.guard (decide (0<Ag P e)&&decide (0<Kp P e)&&Pm P e)
 let l <-Aio P len
 let c <-Aio P cap
 let x <-Cb (.Akk (Kp P e) (<-ofOption (Ahm P e))) [l,c]
 let k <-Hn
 Gr k (some (.arr e t x))
 pure (one (.leaf (.ref k t)))
def Azl:TypeId:=((dA 64).find? (isBool P ·)).getD 0
def Atv (t:TypeId)(x:Operand):EM SX:=do
 bare
 EM.guard (isStr P t)
 let a <-I7 P x t
 let k <-Hn
 Gr k (some (.iter a (.k (.int 0))))
 pure (one (.leaf (.ptr (.p k 0))))
def Atb (p:PV):EM SX:=do
 match p with
 | .p k 0=>do
  match <-Hr k with
  | .iter s p=>do
   let ok <-Cb .Oq [s,p]
   let r <-Cb .Ow [s,p]
   let a <-Cb .H8 [s,p]
   Gr k (some (.iter s a))
   pure (.nx ok p r)
  | _=>fail
 | _=>fail
def A34 (it:Operand)(isString:Bool):EM SX:=do
 bare
 EM.guard isString
 let p <-Aaj (<-rd1 P it 0)
 Atb p
def xNx (ok p r:Arg)(i:Nat)(rt:TypeId):EM SX:=do
 match i with
 | 0=>do
  let bt:=if isBool P rt then rt else Azl P
  EM.guard (isBool P bt)
  pure (dat ok bt)
 | 1=>do
  EM.guard (Mt P rt == some .i64)
  let _ <-Cb .Ak7 [ok]
  pure (dat p rt)
 | 2=>do
  EM.guard (Mt P rt == some .i32)
  let _ <-Cb .Ak7 [ok]
  pure (dat r rt)
 | _=>fail
def At8 (t:TypeId):Option (TypeId × TypeId):=match P.underlying t with | some (.map k v)=>some (k,v) | _=>none
def Avj (t:TypeId):Bool:=(Mt P t).isSome ||isStr P t
def Afr (t:TypeId)(reserve:Option Operand):EM SX:=do
 bare
 EM.guard reserve.isNone
 let kv <-ofOption (At8 P t)
 EM.guard (Avj P kv.1)
 let k <-Hn
 Gr k (some (.mp t kv.1 kv.2 (.k (.list []))))
 pure (one (.leaf (.mref k t)))
def Ayh (v:VV):EM Nat:=do
 match v with
 | .leaf (.mref k _)=>pure k
 | _=>fail
def Ak3 (t:TypeId)(x i:Operand)(ok:Bool):EM SX:=do
 let kv <-ofOption (At8 P t)
 EM.guard (Avj P kv.1&&Pm P kv.2)
 let z <-ofOption (Ahm P kv.2)
 let k <-Ayh (<-rd1 P x t)
 let iv <-I7 P i kv.1
 match <-Hr k with
 | .mp _ kt vt c=>do
  EM.guard (kv.1 == kt&&kv.2 == vt&&isBool P (Azl P))
  let v <-Cb (.Aoh z) [c,iv]
  let h <-Cb .Aku [c,iv]
  if ok then pure (.tup [.leaf (.at v vt),.leaf (.at h (Azl P))])
  else pure (dat v vt)
 | _=>fail
def U7 (t:TypeId)(m i x:Operand):EM SX:=do
 bare
 let kv <-ofOption (At8 P t)
 EM.guard (Avj P kv.1)
 let k <-Ayh (<-rd1 P m t)
 let iv <-I7 P i kv.1
 let xv <-J4 P true kv.2 (<-rd1 P x kv.2)
 match <-Hr k with
 | .mp a kt vt c=>do
  EM.guard (kv.1 == kt&&kv.2 == vt)
  let c' <-Cb .Ap5 [c,iv,xv]
  Gr k (some (.mp a kt vt c'))
  pure (one (.leaf .junk))
 | _=>fail
def A0y (t:TypeId):Option (TypeId × TypeId):=
 match leaves P t with
 | some [pt,st]=>
  match P.underlying pt,Dl P st with
  | some (.pointer a),some e=>if a == t&&Mt P e == some .u8 &&Ag P e == 1&&Ak P t&&Ag P t == 2 then some (st,e) else none
  | _,_=>none
 | _=>none
def Atu (t:TypeId):Bool:=
 match P.info? t with
 | some i=>
  match i.zero with
  | some (.agg cs)=>match cs.toList with | [.pointer none,.slice none 0 0]=>true | _=>false
  | _=>false
 | none=>false
def Aly (t st:TypeId):EM SX:=do
 bare
 EM.guard (Atu P t&&Ak P t&&Ag P t == 2)
 let k <-Hn
 Gr k (some (.box t (.agg t [.hid k,.nil st])))
 pure (one (.leaf (.ptr (.p k 0))))
end
def Eg:PV->List Nat
 | .p k _=> [k]
 | .el k _ _ _=> [k]
 | .im .. => []
def Bf:LV->List Nat
 | .ref k _=> [k]
 | .sub k _ _ _=> [k]
 | .ptr p=>Eg p
 | .fn _ a=>a.flatMap Eg
 | .mref k _=> [k]
 | .hid k=> [k]
 | _=> []
def Ay:VV->List Nat
 | .leaf l=>Bf l
 | .agg _ ls=>ls.flatMap Bf
def Ct:SX->List Nat
 | .one v=>Ay v
 | .tup vs=>vs.flatMap Ay
 | .nx .. => []
def He:Ob->List Nat
 | .box _ v=>Ay v
 | _=> []
inductive PS where
 | data (t:TypeId)
 | arr (t:TypeId) -- a slice that the callee may write, as long as it is; it is handed back
 | own (t:TypeId) -- a slice that is the callee's own from now on
 | box (t:TypeId) (own:List Bool) -- a pointer to a variable that the callee may write; which of its cells are rows of its own
 | fn (f:FuncId) (caps:List TypeId) -- a closure over variables of these types, which are only read
 | rd (t:TypeId) -- a pointer to a variable that is only read
 | bld (t:TypeId) (back:Bool) -- a pointer to a strings.Builder; handed back, or gone
 | fnb (f:FuncId) (n:Nat) -- a closure; its n captured variables come as the next parameters
 deriving Inhabited
inductive Bk where
 | box (k:Nat) (t:TypeId) (own:List Bool)
 | arr (k:Nat) (e t:TypeId)
 | bld (k:Nat) (t e st:TypeId)
 deriving Inhabited
inductive RS where
 | whole (t:TypeId) -- data
 | cells (t:TypeId) (own:List Bool) -- cell by cell: rows of the caller's own, or data
 | skip -- what nobody looks at
 | clip (t:TypeId) -- data: a row without room
 | strict (t:TypeId) -- data: a row that is nil where it is empty
 | nbox (t:TypeId) (own:List Bool) -- a pointer to a new variable
 | clo (f:FuncId) (bxs:List (TypeId × List Bool)) -- a closure over new variables
 deriving Inhabited
structure Spec where
 fn:FuncId
 params:List PS
 results:List RS
 alias_:Bool -- may a result share memory with an argument?
 deriving Inhabited
section
variable (P:Program)
def Up (e:TypeId)(l:LV):EM Arg:=do
 EM.guard (decide (0<Ag P e))
 let r <-Tq P e (.leaf l)
 Ry r.1
 pure r.2
def Ak8 (t:TypeId)(l:LV):EM Arg:=do
 match l with
 | .mref k _=>do
  match <-Hr k with
  | .mp _ kt vt c=>do
   EM.guard (At8 P t == some (kt,vt))
   Gr k none
   pure c
  | _=>fail
 | _=>fail
def Alo (t:TypeId)(l:LV):EM Arg:=
 match Dl P t with
 | some e=>Up P e l
 | none=>Ak8 P t l
def Amc (fz o:Bool)(t:TypeId)(l:LV):EM Arg:=do
 if o then Alo P t l
 else D5 P fz t l
def E9 (fz:Bool):List Bool->List TypeId->List LV->EM (List Arg)
 | [],[],[]=>pure []
 | o::bs,t::ts,l::ls=>do
  let a <-Amc P fz o t l
  let as <-E9 fz bs ts ls
  pure (a::as)
 | _,_,_=>fail
def Aep (fz:Bool)(t:TypeId)(p:PV):EM Arg:=do
 match p with
 | .p k 0=>do
  match <-Hr k with
  | .box t0 v=>do
   EM.guard (t == t0&&decide (0<Ag P t))
   J4 P fz t v
  | _=>fail
 | .im x t0 0=>do
  EM.guard (t == t0)
  pure x
 | _=>fail
def Ki (fz:Bool):List TypeId->List PV->EM (List Arg)
 | [],[]=>pure []
 | t::ts,p::b=>do
  let a <-Aep P fz t p
  let as <-Ki fz ts b
  pure (a::as)
 | _,_=>fail
def A07 (al:Bool)(p:PS)(v:VV):EM (List Arg × List Bk):=do
 match p with
 | .data t=>do pure ([<-J4 P al t v],[])
 | .arr t=>do
  match v with
  | .leaf (.ref k _)=>do
   match <-Hr k with
   | .arr e b c=>do
    EM.guard (Dl P t == some e)
    Gr k none
    pure ([c],[.arr k e b])
   | _=>fail
  | _=>fail
 | .own t=>do
  match v with
  | .leaf l=>do pure ([<-Up P (<-ofOption (Dl P t)) l],[])
  | _=>fail
 | .box t own=>do
  match v with
  | .leaf (.ptr (.p k 0))=>do
   match <-Hr k with
   | .box t0 v=>do
    EM.guard (t == t0)
    let cs <-Pg P v
    Gr k none
    let a <-E9 P al own (<-ofOption (leaves P t)) cs
    pure (a,[.box k t own])
   | _=>fail
  | _=>fail
 | .fn f ts=>do
  match v with
  | .leaf (.fn g caps)=>do
   EM.guard (f == g)
   pure (<-Ki P al ts caps,[])
  | _=>fail
 | .rd t=>do
  match v with
  | .leaf (.ptr p)=>do pure ([<-Aep P al t p],[])
  | _=>fail
 | .bld t back=>do
  match v with
  | .leaf (.ptr (.p k 0))=>do
   match <-Hr k with
   | .box t0 (.agg _ [.hid k1,l])=>do
    let se <-ofOption (A0y P t)
    EM.guard (t == t0&&k1 == k)
    Gr k none
    let a <-Up P se.2 l
    pure ([a],if back then[.bld k t se.2 se.1]else[])
   | _=>fail
  | _=>fail
 | .fnb _ _=>pure ([],[])
def R6 (al:Bool):List PS->List VV->EM (List Arg × List Bk)
 | [],[]=>pure ([],[])
 | p::b,v::vs=>do
  let a <-A07 P al p v
  let r <-R6 al b vs
  pure (a.1++r.1,a.2++r.2)
 | _,_=>fail
def Dy:List Bool->List TypeId->Nat->EM (List LV)
 | [],[],_=>pure []
 | true::bs,t::ts,n=>
  match Dl P t with
  | some e=>do
   if(<-guards).isEmpty then do
    let k <-Hn
    Gr k (some (.arr e t (.v n)))
    let r <-Dy bs ts (n+1)
    pure (.ref k t::r)
   else do
    let r <-Dy bs ts (n+1)
    pure (.at (.v n) t::r)
  | none=>do
   bare
   let kv <-ofOption (At8 P t)
   let k <-Hn
   Gr k (some (.mp t kv.1 kv.2 (.v n)))
   let r <-Dy bs ts (n+1)
   pure (.mref k t::r)
 | false::bs,t::ts,n=>do
  let r <-Dy bs ts (n+1)
  pure (.at (.v n) t::r)
 | _,_,_=>fail
def Axn (t:TypeId)(cs:List LV):EM VV:=do
 if Ak P t then pure (.agg t cs)
 else match cs with
  | [c]=>pure (.leaf c)
  | _=>fail
def Nh:List (TypeId × List Bool)->Nat->EM (List PV × Nat)
 | [],n=>pure ([],n)
 | b::bs,n=>do
  let ts <-ofOption (leaves P b.1)
  let cs <-Dy P b.2 ts n
  let v <-Axn P b.1 cs
  let k <-Hn
  Gr k (some (.box b.1 v))
  let r <-Nh bs (n+b.2.length)
  pure (.p k 0::r.1,r.2)
def Hi:List RS->Nat->EM (List VV × Nat)
 | [],n=>pure ([],n)
 | .skip ::rs,n=>do
  let r <-Hi rs n
  pure (.leaf .junk ::r.1,r.2)
 | .clip t::rs,n=>do
  let r <-Hi rs (n+1)
  pure (.leaf (.cl (.v n) t)::r.1,r.2)
 | .strict t::rs,n=>do
  let r <-Hi rs (n+1)
  pure (.leaf (.st (.v n) t)::r.1,r.2)
 | .whole t::rs,n=>do
  let r <-Hi rs (n+1)
  pure (.leaf (.at (.v n) t)::r.1,r.2)
 | .cells t own::rs,n=>do
  let ts <-ofOption (leaves P t)
  let cs <-Dy P own ts n
  let v <-Axn P t cs
  let r <-Hi rs (n+own.length)
  pure (v::r.1,r.2)
 | .nbox t own::rs,n=>do
  bare
  let b <-Nh P [(t,own)] n
  let r <-Hi rs b.2
  pure (b.1.map (λp=> .leaf (.ptr p))++r.1,r.2)
 | .clo f bxs::rs,n=>do
  bare
  let b <-Nh P bxs n
  let r <-Hi rs b.2
  pure (.leaf (.fn f b.1)::r.1,r.2)
def Et:List Bk->Nat->EM Unit
 | [],_=>pure ()
 | .box k t own::bs,n=>do
  let ts <-ofOption (leaves P t)
  let cs <-Dy P own ts n
  let v <-Axn P t cs
  Gr k (some (.box t v))
  Et bs (n+own.length)
 | .arr k e t::bs,n=>do
  Gr k (some (.arr e t (.v n)))
  Et bs (n+1)
 | .bld k t e st::bs,n=>do
  let a <-Hn
  Gr a (some (.arr e st (.v n)))
  Gr k (some (.box t (.agg t [.hid k,.ref a st])))
  Et bs (n+1)
def RS.arity:RS->Nat
 | .skip =>0
 | .clip _=>1
 | .strict _=>1
 | .whole _=>1
 | .cells _ o=>o.length
 | .nbox _ o=>o.length
 | .clo _ bxs=>(bxs.flatMap (·.2)).length
def PS.back:PS->Nat
 | .bld _ b=>if b then 1 else 0
 | .box _ o=>o.length
 | .arr _=>1
 | _=>0
def Axo:List Nat->Nat
 | []=>0
 | n::ns=>n+Axo ns
def Spec.arity (s:Spec):Nat:=Axo (s.results.map RS.arity)+Axo (s.params.map PS.back)
def PS.Ez:PS->Bool
 | .data _ | .fn _ _ | .rd _ | .fnb _ _=>true
 | _=>false
def R9 (t:TypeId):Bool:=
 match leaves P t with
 | some ts=>ts.all λu=>(Dl P u).isNone
 | none=>false
def E8:List Bool->List TypeId->Bool
 | [],[]=>true
 | true::bs,t::ts=>(match Dl P t with | some e=>R9 P e | none=>match At8 P t with | some kv=>R9 P kv.1&&R9 P kv.2 | none=>false)&&E8 bs ts
 | false::bs,t::ts=>(Dl P t).isNone &&E8 bs ts
 | _,_=>false
def RS.flat:RS->Bool
 | .skip =>true
 | .clip t=>R9 P t
 | .strict t=>R9 P t
 | .whole t=>R9 P t
 | .cells t own=>match leaves P t with | some ts=>E8 P own ts | none=>false
 | .nbox t own=>match leaves P t with | some ts=>E8 P own ts | none=>false
 | .clo _ bxs=>bxs.all λb=>match leaves P b.1 with | some ts=>E8 P b.2 ts | none=>false
def PS.safe (p:PS):Bool:=
 match p with
 | .data _ | .fnb _ _ | .own _ | .bld _ _=>true
 | .fn _ ts=>ts.isEmpty
 | .arr t=>match Dl P t with | some e=>R9 P e | none=>false
 | .box t bs=>match leaves P t with | some ts=>E8 P bs ts | none=>false
 | .rd _=>false
def Af8:List PS->List VV->List Nat
 | .data _::a,v::vs=>Ay v++Af8 a vs
 | _::a,_::vs=>Af8 a vs
 | _,_=> []
def O8:List PS->List VV->Bool
 | .data _::a,.leaf _::vs=>O8 a vs
 | .data _::a,v::vs=>(Ay v).isEmpty &&O8 a vs
 | _::a,_::vs=>O8 a vs
 | _,_=>true
def Ru:List Nat->EM (List Nat)
 | []=>pure []
 | k::ks=>do
  match <-Hr k with
  | .arr .. =>do
   let r <-Ru ks
   pure (k::r)
  | _=>Ru ks
def P4:List Nat->EM Unit
 | []=>pure ()
 | k::ks=>do
  match <-Hr k with
  | .arr .. =>P4 ks
  | _=>fail
def Am7 (p:PV):EM Unit:=do
 match p with
 | .p k _=>do
  match <-Hr k with
  | .box .. =>pure ()
  | _=>fail
 | .im .. =>pure ()
 | .el .. =>fail
def Z5:List PV->EM Unit
 | []=>pure ()
 | p::a=>do
  Am7 p
  Z5 a
def Au5 (p:PS)(v:VV):EM Unit:=do
 match p with
 | .rd _=>
  match v with
  | .leaf (.ptr p)=>Am7 p
  | _=>fail
 | .fn _ _=>
  match v with
  | .leaf (.fn _ caps)=>Z5 caps
  | _=>fail
 | _=>pure ()
def still:List PS->List VV->EM Unit
 | [],[]=>pure ()
 | p::a,v::vs=>do
  Au5 p v
  still a vs
 | _,_=>fail
def Ar6:List Operand->List TypeId->EM (List VV)
 | [],_=>pure []
 | x::xs,t::ts=>do
  let v <-rd1 P x t
  let vs <-Ar6 xs ts
  pure (v::vs)
 | _,[]=>fail
def Av6 (b:Bool):EM Unit:=if b then pure () else bare
def Adv:List VV->SX
 | [v]=> .one v
 | rs=> .tup rs
def Aaf (i:Nat)(s:Spec)(vs:List VV):EM SX:=do
 EM.guard (s.alias_||s.results.all (RS.flat P))
 Av6 (s.params.all PS.Ez)
 let Af1:= !s.alias_ && !s.params.all PS.Ez&&s.params.all (PS.safe P)&&O8 s.params vs
 let ks <-Ru (if Af1 then Af8 s.params vs else[])
 let ab <-R6 P (!Af1 &&(s.alias_|| !s.params.all PS.Ez)) s.params vs
 P4 ks
 still s.params vs
 let n <-emit (.call i ab.1 s.arity)
 let rm <-Hi P s.results n
 Et P ab.2 rm.2
 pure (Adv rm.1)
def As1 (p:PS)(v:VV):EM Bool:=do
 match p,v with
 | .fn f _,.leaf (.fn g _)=>pure (f == g)
 | .fn ..,_=>pure false
 | .fnb _ _,_=>pure true
 | .data _,.leaf (.ptr _)=>pure false
 | .data _,.leaf (.fn ..)=>pure false
 | .own _,.leaf (.ref k _)=>do
  match <-Hr k with
  | .arr .. =>pure true
  | _=>pure false
 | .own _,.leaf (.sub ..)=>pure true
 | .own _,.leaf (.nil _)=>pure true
 | .own _,_=>pure false
 | .arr _,.leaf (.ref k _)=>do
  match <-Hr k with
  | .arr .. =>pure true
  | _=>pure false
 | .arr _,_=>pure false
 | .box _ _,.leaf (.ptr (.p _ 0))=>pure true
 | .box _ _,_=>pure false
 | .rd _,.leaf (.ptr _)=>pure true
 | .rd _,_=>pure false
 | .bld _ _,.leaf (.ptr (.p _ 0))=>pure true
 | .bld _ _,_=>pure false
 | _,_=>pure true
def Se:List PS->List VV->EM Bool
 | [],[]=>pure true
 | p::a,v::vs=>do
  if <-As1 p v then Se a vs else pure false
 | _,_=>pure false
def Ap7 (p:PV):VV:= .leaf (.ptr p)
def Ald:VV->Option (FuncId × List PV)
 | .leaf (.fn g caps)=>some (g,caps)
 | _=>none
def A6w:Value->Option (FuncId × List Value)
 | .func (.func g) first caps=>if first.isEmpty then some (g,caps.toList) else none
 | _=>none
def Aej:PS->Option (FuncId × Nat)
 | .fnb f n=>some (f,n)
 | _=>none
def Lu:Nat->List PS->List VV->Option (List VV)
 | n+1,_::a,vs=>Lu n a vs
 | _+1,[],_=>none
 | 0,[],[]=>some []
 | 0,[],_::_=>none
 | 0,_::_,[]=>none
 | 0,p::a,v::vs=>
  match Aej p with
  | none=>(Lu 0 a vs).map (v:: ·)
  | some fn=>
   match Ald v with
   | some gc=>if fn.1 == gc.1&&gc.2.length == fn.2 then(Lu fn.2 a vs).map λr=> .leaf .junk ::(gc.2.map Ap7++r) else none
   | none=>none
def Kb:Nat->List PS->List Value->Option (List Value)
 | n+1,_::a,vs=>Kb n a vs
 | _+1,[],_=>none
 | 0,[],[]=>some []
 | 0,[],_::_=>none
 | 0,_::_,[]=>none
 | 0,p::a,v::vs=>
  match Aej p with
  | none=>(Kb 0 a vs).map (v:: ·)
  | some fn=>
   match A6w v with
   | some gc=>if fn.1 == gc.1&&gc.2.length == fn.2 then(Kb fn.2 a vs).map λr=>v::(gc.2++r) else none
   | none=>none
def Nx (f:FuncId)(vs:List VV):List (Nat × Spec)->EM (Nat × Spec)
 | []=>fail
 | (i,s)::ss=>
  if s.fn == f then
   match Lu 0 s.params vs with
   | some fl=>do
    if <-Se s.params fl then pure (i,s) else Nx f vs ss
   | none=>Nx f vs ss
  else Nx f vs ss
variable (specs:List (Nat × Spec))
def A6m (c:Call)(rt:TypeId):EM SX:=do
 match c.callee with
 | .builtin b=>
  match b,c.args.toList,c.argTypes.toList with
  | .len,[x],[t]=>A76 P t x rt
  | .append,[s,x],[st,xt]=>if isStr P xt then Ae5 P st xt s x rt else T8 P st xt s x rt
  | .clear,[x],[t]=>Asz P t x
  | .max,[x,y],[t,u]=>do
   EM.guard (t == u)
   Adw P true t x y rt
  | .min,[x,y],[t,u]=>do
   EM.guard (t == u)
   Adw P false t x y rt
  | _,_,_=>fail
 | .value fo=>do
  match <-rd1 P fo 0 with
  | .leaf (.fn f caps)=>do
   let vs <-Ar6 P c.args.toList c.argTypes.toList
   let all:=vs++caps.map Ap7
   let q <-Nx f all specs
   let fl <-ofOption (Lu 0 q.2.params all)
   Aaf P q.1 q.2 fl
  | _=>fail
 | .invoke .. =>fail
def Qt (cv:Arg)(want:Bool)(x:Operand)(t:TypeId):EM Arg:=do
 match x with
 | .tmp s=>do
  let v <-Aja s
  EM.guard (Wo v.gs ((cv,want)::(<-guards)))
  match v.x with
  | .one (.leaf (.at y a))=>do
   EM.guard (t == a)
   pure y
  | _=>fail
 | .const c=>do
  match <-ofOption (O5 P t c) with
  | .leaf (.at y _)=>pure y
  | _=>fail
 | _=>fail
def A3o (c a b:Operand)(rt:TypeId):EM SX:=do
 EM.guard (isBool P rt)
 let cv <-I7 P c rt
 let x <-Qt P cv true a rt
 let y <-Qt P cv false b rt
 pure (dat (<-Cb .pick [cv,x,y]) rt)
def Ade:List Operand->EM (List PV)
 | []=>pure []
 | x::xs=>do
  let p <-Aaj (<-rd1 P x 0)
  let a <-Ade xs
  pure (p::a)
def xOp (o:Oper):EM SX:=do
 match o.op with
 | .move x | .assign x=>rd P x o.type
 | .pick c a b=>A3o P c a b o.type
 | .box t x=>do
  bare
  let v <-rd1 P x t
  EM.guard (Ma P t v)
  let k <-Hn
  Gr k (some (.box t v))
  pure (one (.leaf (.ptr (.p k 0))))
 | .alloc t=>
  match A0y P t with
  | some se=>Aly P t se.1
  | none=>do
   bare
   let v <-ofOption (Yn P t)
   EM.guard (Aeq P t v)
   let k <-Hn
   Gr k (some (.box t v))
   pure (one (.leaf (.ptr (.p k 0))))
 | .load t a=>do
  let p <-Aaj (<-rd1 P a 0)
  pure (.one (<-Avk P p t))
 | .store t a x=>do
  let p <-Aaj (<-rd1 P a 0)
  let v <-rd1 P x t
  Avp P p t v
  pure (one (.leaf .junk))
 | .fieldAddr s x f=>do
  let p <-Aaj (<-rd1 P x 0)
  match P.underlying s with
  | some (.struct fs)=>do
   let fl <-ofOption fs[f]?
   EM.guard (decide (0<Ag P fl.type))
   pure (one (.leaf (.ptr (p.plus fl.offset))))
  | _=>fail
 | .field s x f=>do
  let v <-rd1 P x s
  match P.underlying s with
  | some (.struct fs)=>do
   let fl <-ofOption fs[f]?
   EM.guard ((P.underlying fl.type).isSome &&Zq P s v)
   pure (.one (<-Ajj P s v fl.offset fl.type))
  | _=>fail
 | .indexAddr t x i=>Vn P t x i
 | .index t x i=>do
  EM.guard (isStr P t&&Mt P o.type == some .u8)
  let a <-I7 P x t
  let iv <-Aio P i
  pure (dat (<-Cb .M3 [a,iv]) o.type)
 | .slice t x lo d mx=>Xl P t x lo d mx
 | .binOp op xt x y yt=>Ak2 P op xt x y yt (rtOf P op xt o.type)
 | .unOp op xt x=>xUn P op xt x o.type
 | .convert src dst x=>A2n P src dst x
 | .nilCheck x=>do
  match <-rd1 P x 0 with
  | .leaf (.ptr p)=>pure (one (.leaf (.ptr p)))
  | .leaf (.fn f c)=>pure (one (.leaf (.fn f c)))
  | _=>fail
 | .extract t i=>do
  match <-rd P t 0 with
  | .tup vs=>do pure (.one (<-ofOption vs[i]?))
  | .nx ok p r=>xNx P ok p r i o.type
  | _=>fail
 | .range t x=>Atv P t x
 | .next it isString=>A34 P it isString
 | .makeMap t r=>Afr P t r
 | .lookup t x i ok=>Ak3 P t x i ok
 | .mapUpdate t m i x=>U7 P t m i x
 | .build t parts=>Asm P t parts
 | .buildSlice t len parts=>do
  if(<-guards).isEmpty then R4 P t len parts else P6 P t len parts
 | .makeSlice t l c=>Vc P t l c
 | .makeFunc (.func f) first caps=>do
  EM.guard first.isEmpty
  pure (one (.leaf (.fn f (<-Ade P caps.toList))))
 | .call c=>A6m P specs c o.type
 | _=>fail
end
structure St where
 n:Nat
 m:Nat
 tm:List (Nat × SV)
 ob:List (Nat × Ob)
 deriving Inhabited
def nothing:SV:=⟨[],.one (.leaf .junk)⟩
def I8 (t:Nat):List (Nat × SV)->SV
 | []=>nothing
 | (a,v)::r=>if a == t then v else I8 t r
def Q7 (k:Nat):List (Nat × Ob)->Option Ob
 | []=>none
 | (a,o)::r=>if a == k then some o else Q7 k r
def St.view (s:St):View:=⟨λt=>I8 t s.tm,λk=>Q7 k s.ob⟩
def Aso (t:Nat)(v:SV):List (Nat × SV)->List (Nat × SV)
 | []=> [(t,v)]
 | (a,b)::r=>if a == t then(t,v)::r else(a,b)::Aso t v r
def Alf (k:Nat):List (Nat × Ob)->List (Nat × Ob)
 | []=> []
 | (a,o)::r=>if a == k then Alf k r else(a,o)::Alf k r
def Ayl (k:Nat)(o:Option Ob)(l:List (Nat × Ob)):List (Nat × Ob):=
 match o with
 | some o=>(k,o)::Alf k l
 | none=>Alf k l
def X9:List (Nat × Option Ob)->List (Nat × Ob)->List (Nat × Ob)
 | [],l=>l
 | (k,o)::r,l=>Ayl k o (X9 r l)
def Adk (P:Program)(S:View)(ops:Array Oper)(o:Oper):Option (List (Arg × Bool) × List Nat):=
 match o.guard with
 | none=>some ([],[])
 | some (j,want)=>
  match (ops[j]?).bind (·.dst) with
  | none=>none
  | some d=>
   match (S.tm d).x with
   | .one (.leaf (.at x t))=>if isBool P t then some ((S.tm d).gs ++ [(x,want)],[d]) else none
   | _=>none
structure Hf where
 gs:List (Arg × Bool)
 lets:List PLt
 dst:Option Nat
 v:SV
 obs:List (Nat × Option Ob)
 slots:List Nat
 keys:List Nat
 n:Nat
 m:Nat
def C5 (S:View):List (Nat × Option Ob)->Bool
 | []=>true
 | (k,some (.frz e t c))::r=>
  (
   match S.ob k with
   | some (.arr a b c')=>e == a&&t == b&&c.same c'
   | some (.frz a b c')=>e == a&&t == b&&c.same c'
   | _=>false)&&C5 S r
 | _=>false
def Oe (m0:Nat):PV->Bool
 | .p k _=>decide (k<m0)
 | .el k _ _ _=>decide (k<m0)
 | .im .. =>true
def Nr (m0:Nat):LV->Bool
 | .ref k _=>decide (k<m0)
 | .sub k _ _ _=>decide (k<m0)
 | .ptr p=>Oe m0 p
 | .fn _ a=>a.all (Oe m0)
 | .mref k _=>decide (k<m0)
 | .hid k=>decide (k<m0)
 | _=>true
def Le (m0:Nat):VV->Bool
 | .leaf l=>Nr m0 l
 | .agg _ ls=>ls.all (Nr m0)
def Tv (m0:Nat):SX->Bool
 | .one v=>Le m0 v
 | .tup vs=>vs.all (Le m0)
 | .nx .. =>true
def A0f (P:Program)(specs:List (Nat × Spec))(N:Nat)(ops:Array Oper)(m0:Nat)(S:View)(n m:Nat)(o:Oper):Option Hf:=
 match Adk P S ops o with
 | none=>none
 | some (gs,gk)=>
  match (xOp P specs o {n,m,gs,obs:= []}).run S with
  | none=>none
  | some ((x,es),lets,slots,keys)=>
   if(gs.isEmpty||(C5 S es.obs&&Tv m0 x))&&(match o.dst with | some d=>decide (d<N) | none=>true)&&decide (m<=es.m) then
    some {gs,lets,dst:=o.dst,v:=⟨gs,x⟩,obs:=es.obs,slots:=gk++slots,keys,n:=es.n,m:=es.m}
   else none
def St.after (s:St)(d:Hf):St:=
 {
  n:=d.n,m:=d.m,
  tm:=match d.dst with | some t=>Aso t d.v s.tm | none=>s.tm,
  ob:=X9 d.obs s.ob}
def Ai5 (P:Program)(specs:List (Nat × Spec))(N:Nat)(ops:Array Oper)(m0:Nat):List Oper->St->Option (List Hf × St)
 | [],s=>some ([],s)
 | o::os,s=>
  match A0f P specs N ops m0 s.view s.n s.m o with
  | none=>none
  | some d=>
   match Ai5 P specs N ops m0 os (s.after d) with
   | none=>none
   | some (ds,s')=>some (d::ds,s')
def Av9 (acc:List Nat):List Edge->Nat
 | []=>0
 | e::es=>(if Region.binds .any e then(1<<<e.on)||| acc.getD e.on 0 else 0)||| Av9 acc es
def Az9:List Oper->List Nat->List Nat
 | [],acc=>acc
 | o::os,acc=>Az9 os (acc++ [Av9 acc o.after.toList])
def Hf.Ane (x y:Hf):Bool:=
 (match y.dst with | some t=>x.slots.contains t||x.dst == some t | none=>false)||y.obs.any λp=>x.keys.contains p.1||x.obs.any λq=>q.1 == p.1
def W5 (anc:Nat)(x:Hf):List Hf->Nat->Bool
 | [],_=>true
 | y::ys,j=>(anc.testBit j|| !(x.Ane y||y.Ane x))&&W5 anc x ys (j+1)
def Wy (before:List Hf):List Nat->List Hf->Bool
 | a::as,d::ds=>W5 a d before 0&&Wy (before++ [d]) as ds
 | [],[]=>true
 | _,_=>false
def Api:List Oper->Nat->Bool
 | [],_=>true
 | o::os,i=>(o.after.toList.all λe=> !Region.binds .any e||decide (e.on<i))&&Api os (i+1)
def Am8 (ops:List Oper)(ds:List Hf):Bool:=Api ops 0&&Wy [] (Az9 ops []) ds
def Ww (P:Program)(specs:List (Nat × Spec))(N:Nat)(ops:Array Oper)(draw:Bool)(s:St):Option (List PLt × St):=
 match Ai5 P specs N ops s.m ops.toList s with
 | none=>none
 | some (ds,s')=>if !draw ||Am8 ops.toList ds then some (ds.flatMap (·.lets),s') else none
end Go.CT
namespace Go.CT
open Go.RowKit
def E2 (w:World)(ad:Addr)(v:Value)(sz:Nat):Prop:=
 v.cells.size=sz/\ ∀ (i:Nat) (u:Value),v.cells[i]?=some u->w.cell? (ad.add i)=some u
inductive Rel (P:Program)(w:World)(O:Nat->Prop):TypeId->IV->Value->Prop
 | int {t:TypeId} {k:IntKind} {n:Int} :P.underlying t=some (.int k)->Rel P w O t (.int n) (.int k n)
 | bool {t:TypeId} {b:Bool} :P.underlying t=some .bool ->Rel P w O t (.bool b) (.bool b)
 | str {t:TypeId} {s:ByteArray} :P.underlying t=some .string ->Rel P w O t (.str s) (.string s)
 | agg {t:TypeId} {ts:List TypeId} {xs:List IV} {cs:Array Value} :Ak P t=true->leaves P t=some ts->xs.length=ts.length->cs.size=ts.length->
  (∀ (i:Nat) (u:TypeId),ts[i]?=some u->Ak P u=false)->
  (∀ (i:Nat) (u:TypeId) (x:IV) (c:Value),ts[i]?=some u->xs[i]?=some x->cs[i]?=some c->Rel P w O u x c)->
  Rel P w O t (.agg xs) (.agg cs)
 | list {t e:TypeId} {xs:List IV} {A:Option Addr} {c:Nat} (vs:Nat->Value):P.underlying t=some (.slice e)->xs.length<=c->xs.length<=maxLen->
  (0<xs.length->0<Ag P e/\ ∃ad,A=some ad/\ ¬ O ad.block/\ ∀j,j<xs.length->E2 w (ad.add (j * Ag P e)) (vs j) (Ag P e))->
  (∀ (j:Nat) (x:IV),xs[j]?=some x->Rel P w O e x (vs j))->
  Rel P w O t (.list xs) (.slice A xs.length c)
theorem Ec (ad:Addr)(n:Nat):(ad.add n).block =ad.block:=by unfold Addr.add;grind
theorem Em (ad:Addr)(i j:Nat):(ad.add i).add j=ad.add (i+j):=by
 unfold Addr.add
 grind
theorem Bg (ad:Addr):ad.add 0=ad:=by simp[Addr.add]
section
variable {P:Program}{w w':World}{O O':Nat->Prop}{t:TypeId}{x:IV}{v:Value}
theorem E2.step {ad:Addr}{sz:Nat}(h:E2 w ad v sz)(a:w'.heap[ad.block]?=w.heap[ad.block]?):E2 w' ad v sz:=by
 refine⟨h.1,λi u b=>?_⟩
 rw[<-h.2 i u b]
 apply World.cell?_of_block
 rw[Ec]
 exact a
theorem E2.lt {ad:Addr}{sz:Nat}(h:E2 w ad v sz)(a:0<sz):ad.block<w.heap.size:=by
 have b:0<v.cells.size:=by rw[h.1];exact a
 have:=World.block_lt_of_cell? w _ (h.2 0 _ (bM b))
 rwa [Ec]at this
def Mb (O:Nat->Prop)(w w':World):Prop:= ∀b,b<w.heap.size-> ¬ O b->w'.heap[b]?=w.heap[b]?
theorem E2.stays {ad:Addr}{sz:Nat}(h:E2 w ad v sz)(a:Mb O w w')(b: ¬ O ad.block):E2 w' ad v sz:=by
 by_cases c:0<sz
 ·exact h.step (a _ (h.lt c) b)
 ·refine⟨h.1,λi u d=>?_⟩
  have:=(aF.1 d).1
  have:=h.1
  omega
theorem Rel.mono (h:Rel P w O t x v)(r: ∀b,b<w.heap.size->O' b->O b)(u:Mb O w w'):Rel P w' O' t x v:=by
 induction h with
 | int h=>exact .int h
 | bool h=>exact .bool h
 | str h=>exact .str h
 | agg a c d e y _ g=>exact .agg a c d e y g
 | list vs a c d e _ g=>
  refine .list vs a c d (λm=>?_) g
  obtain⟨o,ad,rfl,z,q⟩:=e m
  have i:ad.block<w.heap.size:=by have:=(q 0 m).lt o;rwa [Ec]at this
  exact⟨o,ad,rfl,λh=>z (r _ i h),λj A=>(q j A).stays u (by rwa [Ec])⟩
theorem Mb.refl (O:Nat->Prop)(w:World):Mb O w w:=λ_ _ _=>rfl
theorem Rel.weaken (h:Rel P w O t x v)(a: ∀b,b<w.heap.size->O' b->O b):Rel P w O' t x v:=h.mono a (Mb.refl _ _)
theorem Dk {k:IntKind}(h:Mt P t=some k):P.underlying t=some (.int k):=by
 unfold Mt at h;grind
theorem Cz (h:isBool P t=true):P.underlying t=some .bool :=by
 unfold isBool at h;grind
theorem E4 (h:isStr P t=true):P.underlying t=some .string :=by
 unfold isStr at h;grind
theorem Bo {e:TypeId}(h:Dl P t=some e):P.underlying t=some (.slice e):=by
 unfold Dl at h;grind
theorem Afn {k:IntKind}(h:P.underlying t=some (.int k)):Ak P t=false:=by simp[Ak,h]
theorem Aa0 (h:P.underlying t=some .bool):Ak P t=false:=by simp[Ak,h]
theorem Aeu (h:P.underlying t=some .string):Ak P t=false:=by simp[Ak,h]
theorem Rel.Ih {k:IntKind}(h:Rel P w O t x v)(a:P.underlying t=some (.int k)): ∃n,x= .int n/\v= .int k n:=by
 cases h with
 | int h=>grind
 | bool h=>grind
 | str h=>grind
 | agg h=>simp[Ak,a]at h
 | list _ h=>grind
theorem Rel.Nz (h:Rel P w O t x v)(a:P.underlying t=some .bool): ∃b,x= .bool b/\v= .bool b:=by
 cases h with
 | int h=>grind
 | bool h=>grind
 | str h=>grind
 | agg h=>simp[Ak,a]at h
 | list _ h=>grind
theorem Rel.Is (h:Rel P w O t x v)(a:P.underlying t=some .string): ∃s,x= .str s/\v= .string s:=by
 cases h with
 | int h=>grind
 | bool h=>grind
 | str h=>grind
 | agg h=>simp[Ak,a]at h
 | list _ h=>grind
def Row (P:Program)(w:World)(O:Nat->Prop)(e:TypeId)(xs:List IV)(A:Option Addr)(c:Nat):Prop:=
 xs.length<=c/\xs.length<=maxLen/\ ∃vs:Nat->Value,
  (0<xs.length->0<Ag P e/\ ∃ad,A=some ad/\ ¬ O ad.block/\ ∀j,j<xs.length->E2 w (ad.add (j * Ag P e)) (vs j) (Ag P e))/\
  ∀ (j:Nat) (x:IV),xs[j]?=some x->Rel P w O e x (vs j)
theorem Rel.Da {e:TypeId}(h:Rel P w O t x v)(a:P.underlying t=some (.slice e)): ∃xs A c,x= .list xs/\v= .slice A xs.length c/\Row P w O e xs A c:=by
 cases h with
 | int h=>grind
 | bool h=>grind
 | str h=>grind
 | agg h=>simp[Ak,a]at h
 | list vs h b d g i=>
  rw[a]at h;injection h with h;injection h with h;subst h
  exact⟨_,_,_,rfl,rfl,b,d,vs,g,i⟩
theorem Row.rel {e:TypeId}{xs:List IV}{A:Option Addr}{c:Nat}(h:Row P w O e xs A c)(a:P.underlying t=some (.slice e)):Rel P w O t (.list xs) (.slice A xs.length c):=by
 obtain⟨b,d,vs,g,i⟩:=h
 exact .list vs a b d g i
theorem Rel.J5 (h:Rel P w O t x v)(a:Ak P t=true): ∃ts xs cs,leaves P t=some ts/\x= .agg xs/\v= .agg cs/\xs.length=ts.length/\cs.size=ts.length/\
  (∀ (i:Nat) (u:TypeId),ts[i]?=some u->Ak P u=false)/\
  ∀ (i:Nat) (u:TypeId) (x:IV) (c:Value),ts[i]?=some u->xs[i]?=some x->cs[i]?=some c->Rel P w O u x c:=by
 cases h with
 | int h=>simp[Ak,h]at a
 | bool h=>simp[Ak,h]at a
 | str h=>simp[Ak,h]at a
 | agg b d e g j m=>grind
 | list _ h=>simp[Ak,h]at a
theorem Rel.one (h:Rel P w O t x v)(a:Ak P t=false):v.oneCell'=true/\v.cells= #[v]:=by
 cases h with
 | int h=>exact⟨rfl,rfl⟩
 | bool h=>exact⟨rfl,rfl⟩
 | str h=>exact⟨rfl,rfl⟩
 | agg h=>grind
 | list _ h=>exact⟨rfl,rfl⟩
theorem Rel.cells_one (h:Rel P w O t x v): ∀u∈v.cells,u.oneCell'=true:=by
 by_cases c:Ak P t=true
 ·obtain⟨ts,xs,cs,d,rfl,rfl,q,r,e,g⟩:=h.J5 c
  intro u j
  obtain⟨i,m,rfl⟩:=cJ.1 j
  have b:i<cs.size:=m
  have o:i<xs.length:=by omega
  have a:i<ts.length:=by omega
  exact((g i _ _ _ (aQ a) (aQ o) (bM b)).one (e i _ (aQ a))).1
 ·have a:Ak P t=false:=by grind
  obtain⟨d,y⟩:=h.one a
  grind
theorem Row.mono {e:TypeId}{xs:List IV}{A:Option Addr}{c:Nat}(h:Row P w O e xs A c)(d: ∀b,b<w.heap.size->O' b->O b)(g:Mb O w w'):Row P w' O' e xs A c:=by
 obtain⟨q,r,vs,t,u⟩:=h
 refine⟨q,r,vs,λi=>?_,λj x y=>(u j x y).mono d g⟩
 obtain⟨m,ad,rfl,z,o⟩:=t i
 have a:ad.block<w.heap.size:=by have:=(o 0 i).lt m;rwa [Ec]at this
 exact⟨m,ad,rfl,λh=>z (d _ a h),λj B=>(o j B).stays g (by rwa [Ec])⟩
theorem Row.nil (e:TypeId)(A:Option Addr)(c:Nat):Row P w O e [] A c:=⟨by simp,by simp,λ_=> .tuple #[],by simp,by simp⟩
theorem Row.at_ {e:TypeId}{xs:List IV}{A:Option Addr}{c:Nat}(h:Row P w O e xs A c){j:Nat}{x:IV}(a:xs[j]?=some x):
  ∃ad v,A=some ad/\ ¬ O ad.block/\E2 w (ad.add (j * Ag P e)) v (Ag P e)/\Rel P w O e x v:=by
 obtain⟨b,d,vs,g,i⟩:=h
 grind
theorem Row.part {e:TypeId}{xs:List IV}{A:Option Addr}{c:Nat}(h:Row P w O e xs A c){l r:Nat}(g:l<=r)(i:r<=xs.length):
  Row P w O e ((xs.take r).drop l) (if c=l then A else A.map (·.add (l * Ag P e))) (c - l):=by
 obtain⟨m,o,vs,b,q⟩:=h
 have hlen:((xs.take r).drop l).length =r - l:=by grind
 refine⟨by omega,by omega,λj=>vs (l+j),λt=>?_,λj x u=>?_⟩
 ·obtain⟨d,ad,rfl,y,z⟩:=b (by omega)
  have a:c≠l:=by omega
  refine⟨d,ad.add (l * Ag P e),by simp[a],by rwa [Ec],λj B=>?_⟩
  rw[Em,<-bE]
  grind
 grind
def Amx (P:Program)(w:World)(O:Nat->Prop)(e:TypeId)(xs:List IV)(A:Option Addr)(c:Nat):Prop:=
 xs.length<=c/\xs.length<=maxLen/\ ∃vs:Nat->Value,
  (0<xs.length->0<Ag P e/\ ∃ad,A=some ad/\ ∀j,j<xs.length->E2 w (ad.add (j * Ag P e)) (vs j) (Ag P e))/\
  ∀ (j:Nat) (x:IV),xs[j]?=some x->Rel P w O e x (vs j)
theorem Row.Af1 {e:TypeId}{xs:List IV}{A:Option Addr}{c:Nat}(h:Row P w O e xs A c):Amx P w O e xs A c:=by
 obtain⟨a,b,vs,g,d⟩:=h
 exact⟨a,b,vs,λi=>by grind,d⟩
theorem Amx.row {e:TypeId}{xs:List IV}{A:Option Addr}{c:Nat}(h:Amx P w O e xs A c)(a: ∀b,b<w.heap.size->O' b->O b)(o: ∀ad,A=some ad-> ¬ O' ad.block):Row P w O' e xs A c:=by
 obtain⟨d,g,vs,q,i⟩:=h
 exact⟨d,g,vs,λr=>by grind,λj x m=>(i j x m).weaken a⟩
theorem Amx.part {e:TypeId}{xs:List IV}{A:Option Addr}{c:Nat}(h:Amx P w O e xs A c){l r:Nat}(g:l<=r)(i:r<=xs.length):
  Amx P w O e ((xs.take r).drop l) (if c=l then A else A.map (·.add (l * Ag P e))) (c - l):=by
 obtain⟨m,o,vs,b,q⟩:=h
 have hlen:((xs.take r).drop l).length =r - l:=by grind
 refine⟨by omega,by omega,λj=>vs (l+j),λt=>?_,λj x u=>?_⟩
 ·obtain⟨d,ad,rfl,y⟩:=b (by omega)
  have a:c≠l:=by omega
  refine⟨d,ad.add (l * Ag P e),by simp[a],λj z=>?_⟩
  rw[Em,<-bE]
  grind
 grind
theorem Row.nilB (e:TypeId)(A:Option Addr)(c:Nat):Amx P w O e [] A c:=(Row.nil (P:=P) (w:=w) (O:=O) e A c).Af1
def Qa (P:Program)(t:TypeId)(cs:Array Value)(off:Nat):Value:=
 if Ak P t then .agg (cs.extract off (off+Ag P t)) else cs.getD off undef
theorem Pu {d:TypeDesc}(a:P.underlying t=some d):(isAgg t).run P w= .ok (Ak P t) w:=by
 unfold isAgg underlying Ak
 simp[a]
 cases d<;>rfl
theorem run_sizeOf {i:TypeInfo}(a:P.info? t=some i):(sizeOf t).run P w= .ok (Ag P t) w:=by
 unfold sizeOf typeInfo Ag
 simp[a]
theorem Kg (h:Ak P t=true): ∃d,P.underlying t=some d:=by
 unfold Ak at h
 grind
theorem E7 (h:0<Ag P t): ∃i,P.info? t=some i:=by
 unfold Ag at h
 grind
theorem G4 {d:TypeDesc}(h:P.underlying t=some d): ∃i,P.info? t=some i:=by
 unfold Program.underlying at h
 grind
theorem Wk {d:TypeDesc}{ad:Addr}{sz off:Nat}(g:P.underlying t=some d)(h:E2 w ad v sz)
  (o:Ak P t=true->off+Ag P t<=sz) (q:Ak P t=false->off<sz):
  (loadVar t (ad.add off)).run P w= .ok (Qa P t v.cells off) w:=by
 unfold loadVar Qa
 simp only[Sem.run_bind,Pu g,Result.andThen_ok]
 by_cases b:Ak P t=true
 ·have hle:=o b
  obtain⟨i,r⟩:=G4 g
  simp only[b,Zt,Sem.run_bind,run_sizeOf r,Result.andThen_ok]
  have m:=run_loadCells_list (P:=P) w (ad.add off) ((v.cells.toList.drop off).take (Ag P t)) (λj u e=>by
   rw[aR]at e
   split at e
   ·rw[bH]at e
    rw[Em]
    exact h.2 _ _ (by grind)
   grind)
  have hlen:((v.cells.toList.drop off).take (Ag P t)).length =Ag P t:=by
   rw[aT,bF,aC,h.1];omega
  rw[hlen]at m
  rw[m]
  simp only[Result.andThen_ok,Sem.run_pure]
  congr 2
  grind
 ·have a:Ak P t=false:=by grind
  have c:=q a
  rw[<-h.1]at c
  simp[a,h.2 off _ (bM c)]
  simp[c]
theorem Rel.Ab4 (h:Rel P w O t x v)(c:v.cells.size=Ag P t):Qa P t v.cells 0=v:=by
 unfold Qa
 by_cases b:Ak P t=true
 ·obtain⟨ts,xs,cs,d,rfl,rfl,e,g,i,j⟩:=h.J5 b
  simp only[b,Zt]
  congr 1
  have:cs.size=Ag P t:=c
  simp[Value.cells,<-this]
 ·have a:Ak P t=false:=by grind
  rw[(h.one a).2]
  simp[a]
theorem Rel.Qa {t0:TypeId}{off:Nat}(h:Rel P w O t0 x v)(o:Ak P t0=true)(hp:Yd P t0 off t=true){y:IV}
  (m:Prim.ev (.proj off (Ag P t) (Ak P t)) [x]=some y):Rel P w O t y (Qa P t v.cells off)/\0<Ag P t/\off+Ag P t<=v.cells.size:=by
 obtain⟨ts,xs,cs,B,rfl,rfl,K,L,C,A⟩:=h.J5 o
 unfold Yd at hp
 rw[B]at hp
 cases e:leaves P t with
 | none=>grind
 | some us=>
  simp only[e,aB,beq_iff_eq,decide_eq_true_eq]at hp
  obtain⟨⟨F,G⟩,H⟩:=hp
  have hlen:off+us.length<=ts.length:=by
   grind
  refine⟨?_,by omega,by show off+_<=cs.size;omega⟩
  have a: ∀ (i:Nat) (u:TypeId),us[i]?=some u->ts[off+i]?=some u:=by
   grind
  unfold CT.Qa
  by_cases b:Ak P t=true
  ·simp only[b,Zt,Prim.ev,aA]at m ⊢
   subst m
   refine .agg b e ?_ ?_ (λi u q=>C _ _ (a i u q)) (λi u x c q M r=>?_)
   ·grind
   ·simp[Value.cells];omega
   ·refine A (off+i) u x c (a i u q) ?_ ?_
    ·grind
    ·rw[Array.getElem?_extract]at r
     split at r
     ·simpa [Value.cells]using r
     grind
  ·have g:Ak P t=false:=by grind
   simp only[g,Prim.ev,aJ,Zf]at m ⊢
   -- one cell
   have z:us= [t]:=by
    have I: ∀ (d:Nat),Ij P (d+1) t=some us->us= [t]:=by
     intro d hd
     unfold Ij at hd
     cases J:P.underlying t with
     | none=>grind
     | some de=>cases de<;>simp_all[Ak]
    exact I 11 e
   subst z
   have N:=a 0 t rfl
   have j:off<cs.size:=by omega
   refine A off t y _ (by omega) m ?_
   simp[Value.cells,dB,j]
end
end Go.CT
namespace Go.CT
def cur (S:View)(obs:List (Nat × Option Ob))(k:Nat):Option Ob:=
 match Io k obs with
 | some o=>o
 | none=>S.ob k
def Ev {α:Type}(S:View)(f:EM α)(es:ES)(x:α)(es':ES)(ls:List PLt):Prop:= ∃sl ks,(f es).run S=some ((x,es'),ls,sl,ks)
section
variable {α β:Type}{S:View}{es es':ES}{ls:List PLt}
theorem RM.run_bind (r:RM α)(f:α->RM β):(r.bind f).run S=(r.run S).bind fun(a,e,l,k)=>((f a).run S).map fun(b,d,g,h)=>(b,e++d,l++g,k++h):=by
 induction r with
 | pure a=>simp[RM.bind,RM.run]
 | tm s k c=>
  simp only[RM.bind,RM.run,c]
  cases(k (S.tm s)).run S with
  | none=>rfl
  | some r=>obtain⟨a,e,l,r⟩:=r;simp;cases(f a).run S<;>simp
 | ob s k c=>
  simp only[RM.bind,RM.run,c]
  cases(k (S.ob s)).run S with
  | none=>rfl
  | some r=>obtain⟨a,e,l,r⟩:=r;simp;cases(f a).run S<;>simp
 | emit t k c=>
  simp only[RM.bind,RM.run,c]
  cases k.run S with
  | none=>rfl
  | some r=>obtain⟨a,e,l,r⟩:=r;simp;cases(f a).run S<;>simp
 | fail=>rfl
theorem Ad {a x:α} :Ev S (pure a) es x es' ls↔x=a/\es=es'/\ls= []:=by
 show(∃sl ks,some _=some _)↔_
 constructor
 ·grind
 simp_all
theorem Ab {x:EM α}{f:α->EM β}{r:β} :Ev S (x >>= f) es r es' ls↔ ∃a es1 b c,Ev S x es a es1 b/\Ev S (f a) es1 r es' c/\ls=b++c:=by
 unfold Ev
 have d:(x >>= f) es=(x es).bind fun(a,s')=>f a s':=rfl
 constructor
 ·rintro⟨sl,ks,h⟩
  rw[d,RM.run_bind]at h
  cases g:(x es).run S with
  | none=>grind
  | some y=>
   obtain⟨⟨a,es1⟩,b,e,k1⟩:=y
   simp only[g,aO]at h
   cases o:(f a es1).run S with
   | none=>grind
   | some z=>
    grind
 ·rintro⟨a,es1,b,c,⟨e,k1,i⟩,⟨j,k2,m⟩,rfl⟩
  refine⟨e++j,k1++k2,?_⟩
  rw[d,RM.run_bind,i]
  simp[m]
theorem Ac {x:α} :Ev S (EM.fail:EM α) es x es' ls↔False:=by
 constructor
 ·rintro⟨sl,ks,h⟩;simp[EM.fail,RM.run]at h
 grind
theorem Oh {s:Nat}{x:SV} :Ev S (EM.Aja s) es x es' ls↔x=S.tm s/\es=es'/\ls= []:=by
 constructor
 ·rintro⟨sl,ks,h⟩
  simp only[EM.Aja,RM.run,aN,aA,aX]at h
  grind
 ·rintro⟨rfl,rfl,rfl⟩
  exact⟨[s],[],rfl⟩
theorem B6 {k:Nat}{x:Ob} :Ev S (EM.Hr k) es x es' ls↔cur S es.obs k=some x/\es=es'/\ls= []:=by
 unfold Ev EM.Hr cur
 cases a:Io k es.obs with
 | some o=>
  cases o with
  | some o=>
   simp only[RM.run,aA,aX]
   grind
  | none=>simp[RM.run]
 | none=>
  simp only[RM.run]
  cases b:S.ob k with
  | none=>simp[RM.run]
  | some o=>
   simp only[RM.run,aN,aA,aX]
   grind
theorem Ar {o:Option α}{x:α} :Ev S (EM.ofOption o) es x es' ls↔o=some x/\es=es'/\ls= []:=by
 unfold Ev EM.ofOption
 cases o with
 | none=>simp[RM.run]
 | some o=>
  simp only[RM.run,aA,aX]
  grind
theorem Af {b:Bool}{x:Unit} :Ev S (EM.guard b) es x es' ls↔b=true/\es=es'/\ls= []:=by
 unfold Ev EM.guard
 cases b with
 | false=>simp[RM.run]
 | true=>
  simp only[RM.run,Zt,aA,aX]
  grind
theorem Alw {l:O0}{x:Nat} :Ev S (EM.emit l) es x es' ls↔x=es.n/\es'= {es with n:=es.n+l.arity} /\ls= [⟨es.n,⟨es.gs,l⟩⟩]:=by
 unfold Ev EM.emit
 simp only[RM.run,aN,aA,aX]
 grind
theorem Bp {k:Nat}{o:Option Ob}{x:Unit} :Ev S (EM.Gr k o) es x es' ls↔es'= {es with obs:=(k,o)::es.obs} /\ls= []:=by
 unfold Ev EM.Gr
 simp only[RM.run,aA,aX]
 grind
theorem C0 {x:Nat} :Ev S EM.Hn es x es' ls↔x=es.m/\es'= {es with m:=es.m+1} /\ls= []:=by
 unfold Ev EM.Hn
 simp only[RM.run,aA,aX]
 grind
theorem Jr {x:List (Arg × Bool)} :Ev S EM.guards es x es' ls↔x=es.gs/\es=es'/\ls= []:=by
 unfold Ev EM.guards
 simp only[RM.run,aA,aX]
 grind
theorem Ea {x:Unit} :Ev S EM.bare es x es' ls↔es.gs= []/\es=es'/\ls= []:=by
 unfold Ev EM.bare
 cases a:es.gs with
 | nil=>
  simp only[RM.run,aA,aX]
  grind
 | cons=>simp[RM.run]
theorem Bt {p:Prim}{as:List Arg}{x:Arg} :Ev S (EM.Cb p as) es x es' ls↔x= .v es.n/\es'= {es with n:=es.n+1} /\ls= [⟨es.n,⟨es.gs,.Cb p as⟩⟩]:=by
 unfold EM.Cb
 rw[Ab]
 constructor
 ·rintro⟨a,es1,d,e,b,c,rfl⟩
  rw[Alw]at b;rw[Ad]at c
  obtain⟨rfl,rfl,rfl⟩:=b
  obtain⟨rfl,rfl,rfl⟩:=c
  exact⟨rfl,rfl,rfl⟩
 ·rintro⟨rfl,rfl,rfl⟩
  exact⟨_,_,_,_,Alw.2 ⟨rfl,rfl,rfl⟩,Ad.2 ⟨rfl,rfl,rfl⟩,rfl⟩
theorem Iz {c:Prop}[Decidable c]{f g:EM α}{x:α} :Ev S (if c then f else g) es x es' ls↔(c/\Ev S f es x es' ls)\/(¬ c/\Ev S g es x es' ls):=by
 grind
end
def A7m (R:Job->List IV->Option (List IV))(ρ:List IV)(l:PLt):Prop:=
 ∃xs,l.l.ev R ρ=some xs/\ ∀i,i<l.l.l.arity->ρ[l.n+i]?=xs[i]?
def LH (R:Job->List IV->Option (List IV))(ρ:List IV)(ls:List PLt):Prop:= ∀l∈ls,A7m R ρ l
theorem LH.left {R:Job->List IV->Option (List IV)}{ρ:List IV}{a b:List PLt}(h:LH R ρ (a++b)):LH R ρ a:=λl c=>h l (List.mem_append_left _ c)
theorem LH.right {R:Job->List IV->Option (List IV)}{ρ:List IV}{b a:List PLt}(h:LH R ρ (b++a)):LH R ρ a:=λl c=>h l (bK _ c)
theorem LH.Cb {R:Job->List IV->Option (List IV)}{ρ:List IV}{n:Nat}{gs:List (Arg × Bool)}{p:Prim}{as:List Arg}(h:LH R ρ [⟨n,⟨gs,.Cb p as⟩⟩])(c:holds ρ gs=some true):
  ∃vs y,Arg.evs ρ as=some vs/\p.ev vs=some y/\Arg.ev ρ (.v n)=some y:=by
 obtain⟨xs,a,d⟩:=h _ (List.mem_singleton.2 rfl)
 simp only[Mm.ev,c,aO,Zt,O0.ev]at a
 cases e:Arg.evs ρ as with
 | none=>grind
 | some vs=>
  simp only[e,aO]at a
  cases b:p.ev vs with
  | none=>grind
  | some y=>
   simp only[b,aN,aA]at a
   subst a
   have:=d 0 (by simp[O0.arity])
   exact⟨vs,y,rfl,b,by simpa [Arg.ev]using this⟩
def blk:Value->Option Nat
 | .slice (some a) _ _=>some a.block
 | .pointer (some a)=>some a.block
 | .map (some r)=>some r
 | _=>none
def Ob.Gl:Ob->Bool
 | .box _ _=>true
 | .arr .. =>true
 | .frz .. =>false
 | .iter .. =>true
 | .mp .. =>true
def Wr (ob:Nat->Option Ob)(μ:Nat->Value)(b:Nat):Prop:= ∃k o,ob k=some o/\o.Gl=true/\blk (μ k)=some b
structure Cx where
 P:Program
 ρ:List IV
 μ:Nat->Value
 w:World
 O:Nat->Prop -- data lie outside
 W:Nat->Prop -- what this call may write
def Vr (c:Cx)(x:Arg)(t:TypeId)(v:Value):Prop:= ∃iv,x.ev c.ρ=some iv/\Rel c.P c.w c.O t iv v
def Af0 (c:Cx):PV->Value->Prop
 | .p k off,v=> ∃b,c.μ k= .pointer (some ⟨b,0,none⟩)/\v= .pointer (some ((⟨b,0,none⟩:Addr).add off))
 | .el k e i off,v=> ∃g n cap j,c.μ k= .slice (some ⟨g,0,none⟩) n cap/\i.ev c.ρ=some (.int (j:Nat))/\j<n/\
  v= .pointer (some ((⟨g,0,none⟩:Addr).add (j * Ag c.P e+off)))
 | .im x t off,v=> ∃ad u,Vr c x t u/\E2 c.w ad u (Ag c.P t)/\0<Ag c.P t/\ ¬ c.W ad.block/\v= .pointer (some (ad.add off))
def Oz (c:Cx):List PV->List Value->Prop
 | [],[]=>True
 | p::a,v::vs=>Af0 c p v/\Oz c a vs
 | _,_=>False
def Aav (c:Cx):LV->Value->Prop
 | .at x t,v=>Vr c x t v
 | .nil _,v=>v= .slice none 0 0
 | .ref k _,v=>v=c.μ k/\ ∃A n cap,v= .slice A n cap
 | .sub k lo b t,v=> ∃ (A:Option Addr) (n cap l h:Nat) (e:TypeId),c.P.underlying t=some (.slice e)/\c.μ k= .slice A n cap/\lo.ev c.ρ=some (.int l)/\b.ev c.ρ=some (.int h)/\l<=h/\h<=n/\
  v= .slice (if cap=l then A else A.map (·.add (l * Ag c.P e))) (h - l) (cap - l)
 | .ptr p,v=>Af0 c p v
 | .fn f d,v=> ∃vs:Array Value,v= .func (.func f) #[] vs/\Oz c d vs.toList
 | .mref k _,v=>v=c.μ k/\ ∃r,v= .map (some r)
 | .cl x t,v=>Vr c x t v/\ ∃A n,v= .slice A n n
 | .st x t,v=>Vr c x t v/\ ∃ys A cap,x.ev c.ρ=some (.list ys)/\v= .slice A ys.length cap/\(ys= []->v= .slice none 0 0)
 | .hid k,v=>v= .pointer none\/(v=c.μ k/\ ∃a,v= .pointer (some a))
 | .junk,_=>True
def A60 (c:Cx)(l:LV)(v:Value):Prop:=v.oneCell'=true/\Aav c l v
def Eo (c:Cx):List LV->List Value->Prop
 | [],[]=>True
 | l::ls,v::vs=>A60 c l v/\Eo c ls vs
 | _,_=>False
def Mq (c:Cx):VV->Value->Prop
 | .leaf l,v=>Aav c l v
 | .agg _ ls,v=> ∃cs:Array Value,v= .agg cs/\Eo c ls cs.toList
def Gn (c:Cx):List VV->List Value->Prop
 | [],[]=>True
 | l::ls,v::vs=>Mq c l v/\Gn c ls vs
 | _,_=>False
def Alq (c:Cx):SX->Value->Prop
 | .one v,u=>Mq c v u
 | .tup vs,u=> ∃us:Array Value,u= .tuple us/\Gn c vs us.toList
 | .nx ok i r,u=> ∃ (b:Bool) (n m:Int),ok.ev c.ρ=some (.bool b)/\i.ev c.ρ=some (.int n)/\r.ev c.ρ=some (.int m)/\u= .tuple (if b then #[.bool true,.int .i64 n,.int .i32 m]else #[.bool false])
def Awr (c:Cx)(s:SV)(v:Value):Prop:= ∃b,holds c.ρ s.gs=some b/\(b=true->Alq c s.x v)/\(b=false->v=undef)
def Kr (P:Program)(w:World)(O:Nat->Prop)(e:TypeId)(ivs:List IV)(cs:List Value):Prop:=
 ∀ (j:Nat) (x:IV),ivs[j]?=some x-> ∃v:Value,Rel P w O e x v/\v.cells.toList=(cs.drop (j * Ag P e)).take (Ag P e)/\v.cells.size=Ag P e
def Kq (P:Program)(w:World)(O:Nat->Prop)(kt vt:TypeId):List IV->List MapEntry->Prop
 | [],[]=>True
 | x::xs,e::es=>(∃a b,x= .agg [a,b]/\Rel P w O kt a e.key/\Rel P w O vt b e.val)/\Kq P w O kt vt xs es
 | _,_=>False
def Agb (c:Cx)(k:Nat):Ob->Prop
 | .box t vv=> ∃b v,c.μ k= .pointer (some ⟨b,0,none⟩)/\c.w.heap[b]?=some (.cells v.cells t (0,0))/\v.cells.size=Ag c.P t/\
  (if Ak c.P t then ∃cs,v= .agg cs else v.oneCell'=true)/\(∀u∈v.cells,u.oneCell'=true)/\Mq c vv v
 | .arr e t a=> ∃ivs cs,a.ev c.ρ=some (.list ivs)/\c.P.underlying t=some (.slice e)/\0<Ag c.P e/\c.w.ownsRow 0 e (Ag c.P e) (c.μ k) ivs.length cs/\Kr c.P c.w c.O e ivs cs/\
  (∀u∈cs,u.oneCell'=true)
 | .frz e t a=>c.P.underlying t=some (.slice e)/\Vr c a t (c.μ k)
 | .iter s p=> ∃ (b n:Nat) (bs:ByteArray),c.μ k= .pointer (some ⟨b,0,none⟩)/\c.w.heap[b]?=some (.stringIter bs n)/\s.ev c.ρ=some (.str bs)/\p.ev c.ρ=some (.int n)
 | .mp t kt vt a=> ∃ (r cl:Nat) (es:Array MapEntry) (ivs:List IV),c.μ k= .map (some r)/\c.w.heap[r]?=some (.map es cl)/\c.P.underlying t=some (.map kt vt)/\Avj c.P kt=true/\a.ev c.ρ=some (.list ivs)/\Kq c.P c.w c.O kt vt ivs es.toList
def Bs (P:Program)(X:Nat->Prop)(ρ:List IV)(ob:Nat->Option Ob)(μ:Nat->Value)(w:World):Cx:=
 {P,ρ,μ,w,O:=λb=>X b\/Wr ob μ b,W:=Wr ob μ}
structure Good (P:Program)(N:Nat)(X:Nat->Prop)(ρ:List IV)(K:Nat->Prop)(tm:Nat->SV)(ob:Nat->Option Ob)(μ:Nat->Value)(a:Act)(w:World):Prop where
 size:a.tmps.size=N
 defers:a.defers= []
 slot: ∀s,Awr (Bs P X ρ ob μ w) (tm s) (a.tmps.getD s undef)
 obj: ∀k o,ob k=some o->Agb (Bs P X ρ ob μ w) k o
 sep: ∀k k' o o' b,ob k=some o->ob k'=some o'->o.Gl=true->o'.Gl=true->blk (μ k)=some b->blk (μ k')=some b->k=k'
 xsep: ∀k o b,ob k=some o->o.Gl=true->blk (μ k)=some b-> ¬ X b
 xlt: ∀b,X b->b<w.heap.size
 kt: ∀s k,k∈Ct (tm s).x ->K k
 ko: ∀k o,ob k=some o->K k/\ ∀k'∈He o,K k'
end Go.CT
namespace Go.CT
structure Ek (K:Nat->Prop)(c c':Cx):Prop where
 P:c'.P=c.P
 ρ: ∀ (n:Nat) (y:IV),c.ρ[n]?=some y->c'.ρ[n]?=some y
 μ: ∀k,K k->c'.μ k=c.μ k
 stays:Mb c.W c.w c'.w
 O: ∀b,b<c.w.heap.size->c'.O b->c.O b
 W: ∀b,b<c.w.heap.size->c'.W b->c.W b
 WO: ∀b,c.W b->c.O b
section
variable {K:Nat->Prop}{c c':Cx}
theorem Arg.Gm {ρ ρ':List IV}(h: ∀ (n:Nat) (y:IV),ρ[n]?=some y->ρ'[n]?=some y){x:Arg}{y:IV}(a:x.ev ρ=some y):x.ev ρ'=some y:=by
 cases x with
 | v n=>exact h n y a
 | k c=>exact a
theorem Rp {ρ ρ':List IV}(h: ∀ (n:Nat) (y:IV),ρ[n]?=some y->ρ'[n]?=some y): ∀ {gs:List (Arg × Bool)} {b:Bool},holds ρ gs=some b->holds ρ' gs=some b
 | [],_,c=>c
 | (a,want)::gs,b,c=>by
  unfold holds at c ⊢
  cases d:a.ev ρ with
  | none=>simp[d]at c
  | some y=>
   rw[Arg.Gm h d]
   simp only[d]at c
   cases y<;>simp_all
   split<;>simp_all
   exact Rp h c
theorem Ek.rel (h:Ek K c c'){t:TypeId}{x:IV}{v:Value}(a:Rel c.P c.w c.O t x v):Rel c'.P c'.w c'.O t x v:=by
 rw[h.P]
 exact a.mono h.O (λb d e=>h.stays b d λg=>e (h.WO b g))
theorem Ek.A4g (h:Ek K c c'){x:Arg}{t:TypeId}{v:Value}(a:Vr c x t v):Vr c' x t v:=by
 obtain⟨iv,b,d⟩:=a
 exact⟨iv,Arg.Gm h.ρ b,h.rel d⟩
theorem Ek.prel (h:Ek K c c'){p:PV}{v:Value}(w: ∀k∈Eg p,K k)(o:Af0 c p v):Af0 c' p v:=by
 cases p with
 | p k off=>
  obtain⟨b,d,a⟩:=o
  exact⟨b,by rw[h.μ k (w k (by simp[Eg]))];exact d,a⟩
 | el k e i off=>
  obtain⟨g,n,cap,j,d,a,m,q⟩:=o
  exact⟨g,n,cap,j,by rw[h.μ k (w k (by simp[Eg]))];exact d,Arg.Gm h.ρ a,m,by rw[h.P];exact q⟩
 | im x t off=>
  obtain⟨ad,u,d,a,y,m,q⟩:=o
  have r:=a.lt y
  exact⟨ad,u,h.A4g d,by rw[h.P];exact a.stays h.stays m,by rw[h.P];exact y,λz=>m (h.W _ r z),q⟩
theorem Ek.Af7 (h:Ek K c c'): ∀ {b:List PV} {vs:List Value},(∀k∈b.flatMap Eg,K k)->Oz c b vs->Oz c' b vs
 | [],[],_,_=>trivial
 | p::b,v::vs,e,a=>⟨h.prel (λk d=>e k (by simp[d])) a.1,h.Af7 (λk d=>e k (by rw[aP];exact bK _ d)) a.2⟩
 | [],_::_,_,a=>a.elim
 | _::_,[],_,a=>a.elim
theorem Ek.A8e (h:Ek K c c'){l:LV}{v:Value}(b: ∀k∈Bf l,K k)(a:Aav c l v):Aav c' l v:=by
 cases l with
 | «at» x t=>exact h.A4g a
 | nil t=>exact a
 | ref k t=>exact⟨by rw[h.μ k (b k (by simp[Bf]))];exact a.1,a.2⟩
 | sub k lo o t=>
  obtain⟨A,n,cap,l,r,e,m,d,g,i,j⟩:=a
  exact⟨A,n,cap,l,r,e,by rw[h.P];exact m,by rw[h.μ k (b k (by simp[Bf]))];exact d,Arg.Gm h.ρ g,Arg.Gm h.ρ i,by rw[h.P];exact j⟩
 | ptr p=>exact h.prel b a
 | fn f q=>
  obtain⟨vs,d,g⟩:=a
  exact⟨vs,d,h.Af7 b g⟩
 | mref k t=>exact⟨by rw[h.μ k (b k (by simp[Bf]))];exact a.1,a.2⟩
 | cl x t=>exact⟨h.A4g a.1,a.2⟩
 | st x t=>
  obtain⟨d,ys,A,cap,g,i,j⟩:=a
  exact⟨h.A4g d,ys,A,cap,Arg.Gm h.ρ g,i,j⟩
 | hid k=>exact a.imp id λa=>⟨by rw[h.μ k (b k (by simp[Bf]))];exact a.1,a.2⟩
 | junk=>trivial
theorem Ek.Agt (h:Ek K c c'): ∀ {ls:List LV} {vs:List Value},(∀k∈ls.flatMap Bf,K k)->Eo c ls vs->Eo c' ls vs
 | [],[],_,_=>trivial
 | p::e,v::vs,d,a=>⟨⟨a.1.1,h.A8e (λk b=>d k (by simp[b])) a.1.2⟩,h.Agt (λk b=>d k (by rw[aP];exact bK _ b)) a.2⟩
 | [],_::_,_,a=>a.elim
 | _::_,[],_,a=>a.elim
theorem Ek.Ash (h:Ek K c c'){x:VV}{v:Value}(a: ∀k∈Ay x,K k)(b:Mq c x v):Mq c' x v:=by
 cases x with
 | leaf l=>exact h.A8e a b
 | agg t ls=>
  obtain⟨cs,d,e⟩:=b
  exact⟨cs,d,h.Agt a e⟩
theorem Ek.Tp (h:Ek K c c'): ∀ {ls:List VV} {vs:List Value},(∀k∈ls.flatMap Ay,K k)->Gn c ls vs->Gn c' ls vs
 | [],[],_,_=>trivial
 | p::e,v::vs,d,a=>⟨h.Ash (λk b=>d k (by simp[b])) a.1,h.Tp (λk b=>d k (by rw[aP];exact bK _ b)) a.2⟩
 | [],_::_,_,a=>a.elim
 | _::_,[],_,a=>a.elim
theorem Ek.xrel (h:Ek K c c'){x:SX}{v:Value}(g: ∀k∈Ct x,K k)(a:Alq c x v):Alq c' x v:=by
 cases x with
 | one x=>exact h.Ash g a
 | tup vs=>
  obtain⟨us,d,e⟩:=a
  exact⟨us,d,h.Tp g e⟩
 | nx ok i r=>
  obtain⟨b,n,m,d,e,j,o⟩:=a
  exact⟨b,n,m,Arg.Gm h.ρ d,Arg.Gm h.ρ e,Arg.Gm h.ρ j,o⟩
theorem Ek.Awj (h:Ek K c c'){x:SV}{v:Value}(a: ∀k∈Ct x.x,K k)(d:Awr c x v):Awr c' x v:=by
 obtain⟨b,e,g,i⟩:=d
 exact⟨b,Rp h.ρ e,λj=>h.xrel a (g j),i⟩
theorem Ek.elems (h:Ek K c c'){e:TypeId}{ivs:List IV}{cs:List Value}(a:Kr c.P c.w c.O e ivs cs):Kr c'.P c'.w c'.O e ivs cs:=by
 intro j x b
 obtain⟨v,d,g,i⟩:=a j x b
 exact⟨v,h.rel d,by rw[h.P];exact g,by rw[h.P];exact i⟩
theorem Kq.imp {P P':Program}{w w':World}{O O':Nat->Prop}{kt vt:TypeId}(h: ∀ (t:TypeId) (x:IV) (v:Value),Rel P w O t x v->Rel P' w' O' t x v): ∀ {xs:List IV} {es:List MapEntry},Kq P w O kt vt xs es->Kq P' w' O' kt vt xs es
 | [],[],_=>trivial
 | _::_,_::_,⟨⟨a,b,d,e,g⟩,c⟩=>⟨⟨a,b,d,h _ _ _ e,h _ _ _ g⟩,c.imp h⟩
 | [],_::_,c=>c.elim
 | _::_,[],c=>c.elim
theorem Ek.Akc (h:Ek K c c'){k:Nat}{o:Ob}(q:K k)(C: ∀F∈He o,K F)(z:o.Gl=true-> ∀b,blk (c.μ k)=some b->b<c.w.heap.size->c'.w.heap[b]?=c.w.heap[b]?)(u:Agb c k o):Agb c' k o:=by
 cases o with
 | box t vv=>
  obtain⟨b,v,d,i,j,m,x,y⟩:=u
  refine⟨b,v,by rw[h.μ k q];exact d,?_,by rw[h.P];exact j,by rw[h.P];exact m,x,h.Ash C y⟩
  rw[z rfl b (by rw[d];rfl) (aF.1 i).1]
  exact i
 | arr e t a=>
  obtain⟨ivs,cs,d,i,j,m,x,y⟩:=u
  refine⟨ivs,cs,Arg.Gm h.ρ d,by rw[h.P];exact i,by rw[h.P];exact j,?_,h.elems x,y⟩
  rw[h.P,h.μ k q]
  obtain⟨G,A⟩:=m
  refine⟨G,?_⟩
  rcases A with A | ⟨g,cap,cur,e1,H,B,I⟩
  ·exact .inl A
  ·refine .inr ⟨g,cap,cur,e1,H,?_,I⟩
   rw[z rfl g (by rw[e1];rfl) (aF.1 B).1]
   exact B
 | frz e t a=>
  obtain⟨d,i⟩:=u
  exact⟨by rw[h.P];exact d,by rw[h.μ k q];exact h.A4g i⟩
 | iter s p=>
  obtain⟨b,n,bs,d,i,j,m⟩:=u
  refine⟨b,n,bs,by rw[h.μ k q];exact d,?_,Arg.Gm h.ρ j,Arg.Gm h.ρ m⟩
  rw[z rfl b (by rw[d];rfl) (aF.1 i).1]
  exact i
 | mp t kt vt a=>
  obtain⟨r,cl,es,ivs,d,i,j,m,x,y⟩:=u
  refine⟨r,cl,es,ivs,by rw[h.μ k q];exact d,?_,by rw[h.P];exact j,by rw[h.P];exact m,Arg.Gm h.ρ x,y.imp λ_ _ _ h'=>h.rel h'⟩
  rw[z rfl r (by rw[d];rfl) (aF.1 i).1]
  exact i
end
def B5 (ob:Nat->Option Ob)(k:Nat)(o:Option Ob):Nat->Option Ob:=λa=>if a=k then o else ob a
theorem Bz (S:View)(k:Nat)(o:Option Ob)(obs:List (Nat × Option Ob)):cur S ((k,o)::obs)=B5 (cur S obs) k o:=by
 funext a
 by_cases h:a=k
 ·subst h;simp[cur,B5,Io]
 ·have:(k == a)=false:=by simp;exact λh'=>h h'.symm
  have e:Io a ((k,o)::obs)=Io a obs:=by rw[Io];simp[this]
  simp[cur,B5,h,e]
theorem Nn (S:View):cur S []=S.ob:=by funext k;rfl
def Kc (ob ob':Nat->Option Ob):Prop:= ∀k o,ob' k=some o->o.Gl=true->ob k=some o
theorem Kc.refl (ob:Nat->Option Ob):Kc ob ob:=λ_ _ h _=>h
theorem Kc.trans {a b c:Nat->Option Ob}(h:Kc a b)(h':Kc b c):Kc a c:=λk o e d=>h k o (h' k o e d) d
theorem Kc.wr {ob ob':Nat->Option Ob}(h:Kc ob ob'){μ:Nat->Value}{b:Nat}(c:Wr ob' μ b):Wr ob μ b:=by
 obtain⟨k,o,d,a,e⟩:=c
 exact⟨k,o,h k o d a,a,e⟩
section
variable {P:Program}{N:Nat}{X:Nat->Prop}{ρ:List IV}{K:Nat->Prop}{tm:Nat->SV}{ob ob':Nat->Option Ob}{μ:Nat->Value}{a:Act}{w:World}
theorem Kc.later (h:Kc ob ob'):Ek K (Bs P X ρ ob μ w) (Bs P X ρ ob' μ w):=
 {P:=rfl,ρ:=λ_ _ h=>h,μ:=λ_ _=>rfl,stays:=Mb.refl _ _,O:=λ_b _ a=>a.elim .inl λa=> .inr (h.wr a),W:=λ_b _ a=>h.wr a,WO:=λ_b a=> .inr a}
theorem Good.Es (G:Good P N X ρ K tm ob μ a w)(h:Kc ob ob')(c: ∀k o,ob' k=some o->o.Gl=false->Agb (Bs P X ρ ob' μ w) k o/\K k/\ ∀g∈He o,K g):
  Good P N X ρ K tm ob' μ a w:=by
 have L:Ek K (Bs P X ρ ob μ w) (Bs P X ρ ob' μ w):=h.later
 refine⟨G.size,G.defers,λs=>L.Awj (G.kt s) (G.slot s),λk o d=>?_,λk g o o' b m i j q r t=>G.sep k g o o' b (h k o m j) (h g o' i q) j q r t,
  λk o b m i j=>G.xsep k o b (h k o m i) i j,G.xlt,G.kt,λk o d=>?_⟩
 ·cases e:o.Gl with
  | true=>
   have:=h k o d e
   exact L.Akc (G.ko k o this).1 (G.ko k o this).2 (λ_ b _ _=>rfl) (G.obj k o this)
  | false=>exact(c k o d e).1
 ·cases e:o.Gl with
  | true=>exact G.ko k o (h k o d e)
  | false=>exact(c k o d e).2
theorem Good.Asb (G:Good P N X ρ K tm ob μ a w){k:Nat}{e t:TypeId}{x:Arg}(h:ob k=some (.arr e t x)):
  ∃ivs A cap,x.ev ρ=some (.list ivs)/\μ k= .slice A ivs.length cap/\Amx P w (Bs P X ρ ob μ w).O e ivs A cap/\0<Ag P e/\P.underlying t=some (.slice e):=by
 obtain⟨ivs,cs,C,F,q,I,J,h6⟩:=G.obj k _ h
 obtain⟨g1,r⟩:=I
 rcases r with⟨r,L⟩ | ⟨g,cap,cu,e1,e2,M,H,e5,e6,Q⟩
 ·have:ivs= []:=by cases ivs with | nil=>rfl | cons=>simp at L
  subst this
  exact⟨[],none,0,C,r,Row.nilB e none 0,q,F⟩
 ·refine⟨ivs,_,cap,C,e1,⟨H,Nat.le_trans H e5,?_⟩,q,F⟩
  -- the elements' values
  have key: ∀j:Nat,∃v:Value,j<ivs.length->(∀x,ivs[j]?=some x->Rel P w (Bs P X ρ ob μ w).O e x v)/\v.cells.toList=(cs.drop (j * Ag P e)).take (Ag P e)/\v.cells.size=Ag P e:=by
   intro j
   by_cases c:j<ivs.length
   ·obtain⟨v,R,S,T⟩:=J j _ (aQ c)
    exact⟨v,λ_=>⟨λx d=>by rw[aQ c]at d;injection d with d;subst d;exact R,S,T⟩⟩
   ·exact⟨.tuple #[],λh=>absurd h c⟩
  obtain⟨vs,m⟩:=Classical.axiomOfChoice key
  refine⟨vs,λh0=>⟨q,_,rfl,λj c=>⟨(m j c).2.2,λi u U=>?_⟩⟩,λj x d=>(m j (aK.1 d).1).1 x d⟩
  have b:(vs j).cells.toList[i]?=some u:=by simpa using U
  rw[(m j c).2.1,aR]at b
  split at b
  ·rename_i Y
   rw[bH]at b
   have y:w.heap[g]?=some (.cells cu e (0,0)):=M
   rw[Em,<-Q,aR]at *
   have z:j * Ag P e+i<ivs.length * Ag P e:=by
    have:j * Ag P e+Ag P e<=ivs.length * Ag P e:=by rw[<-cE];exact aH _ c
    have Z:i<Ag P e:=Y
    omega
   have B:cu.toList[j * Ag P e+i]?=some u:=by
    have:=b
    rw[if_pos (by exact z)]at this
    exact this
   have o:(⟨g,0,none⟩:Addr).add (j * Ag P e+i)=⟨g,j * Ag P e+i,none⟩:=by unfold Addr.add;split<;>simp_all
   rw[o]
   simp only[World.cell?,y]
   simpa using B
  ·simp at b
end
end Go.CT
namespace Go.CT
open EM
def R0 (c:Cx)(x:Arg)(t:TypeId)(v:Value):Prop:=
 ∃iv,x.ev c.ρ=some iv/\Rel c.P c.w (λ_=>False) t iv v/\
  ∀e,c.P.underlying t=some (.slice e)-> ∃xs A cap,iv= .list xs/\v= .slice A xs.length cap/\Amx c.P c.w c.O e xs A cap
theorem Vr.Af1 {c:Cx}{x:Arg}{t:TypeId}{v:Value}(h:Vr c x t v):R0 c x t v:=by
 obtain⟨iv,b,a⟩:=h
 refine⟨iv,b,a.weaken (λ_ _ h=>h.elim),λe d=>?_⟩
 obtain⟨xs,A,cap,rfl,rfl,g⟩:=a.Da d
 exact⟨xs,A,cap,rfl,rfl,g.Af1⟩
theorem R0.Az0 {c:Cx}{x:Arg}{t e:TypeId}{xs:List IV}{A:Option Addr}{cap:Nat}(h:x.ev c.ρ=some (.list xs))(a:c.P.underlying t=some (.slice e))(b:Amx c.P c.w c.O e xs A cap):
  R0 c x t (.slice A xs.length cap):=by
 refine⟨_,h,(b.row (λ_ _ h=>h.elim) (λ_ _ h=>h)).rel a,λd g=>?_⟩
 grind
theorem Ek.brel {K:Nat->Prop}{c c':Cx}(h:Ek K c c')(a:c'.w=c.w){x:Arg}{t:TypeId}{v:Value}(d:R0 c x t v):R0 c' x t v:=by
 obtain⟨iv,g,i,m⟩:=d
 refine⟨iv,Arg.Gm h.ρ g,by rw[h.P,a];exact i,λe b=>?_⟩
 rw[h.P]at b
 obtain⟨xs,A,cap,e1,o,q,r,vs,u,y⟩:=m e b
 exact⟨xs,A,cap,e1,o,q,r,vs,by rw[h.P,a];exact u,λj x z=>h.rel (y j x z)⟩
section
variable {P:Program}{N:Nat}{X:Nat->Prop}{R:Job->List IV->Option (List IV)}{ρ:List IV}{K:Nat->Prop}{S:View}{μ:Nat->Value}{a:Act}{w:World}
theorem Good.freeze {tm:Nat->SV}{ob:Nat->Option Ob}(G:Good P N X ρ K tm ob μ a w){k:Nat}{e t:TypeId}{c:Arg}(h:ob k=some (.arr e t c)):
  Good P N X ρ K tm (B5 ob k (some (.frz e t c))) μ a w/\Kc ob (B5 ob k (some (.frz e t c))):=by
 have F:Kc ob (B5 ob k (some (.frz e t c))):=by
  intro d o g q
  unfold B5 at g
  split at g
  ·injection g with g;subst g;simp[Ob.Gl]at q
  ·exact g
 refine⟨G.Es F (λd o g q=>?_),F⟩
 by_cases r:d=k
 ·subst r
  simp only[B5,Zt,aA]at g
  subst g
  obtain⟨ivs,A,cap,B,u,C,L,x⟩:=G.Asb h
  refine⟨⟨x,.list ivs,B,?_⟩,(G.ko d _ h).1,λ_ h=>by simp[He]at h⟩
  show Rel P w _ t (.list ivs) (μ d)
  rw[u]
  refine(C.row (λb _ j=>j.elim .inl λj=> .inr (F.wr j)) (λad H m=>?_)).rel x
  subst H
  have j:blk (μ d)=some ad.block:=by rw[u];rfl
  rcases m with m | ⟨k2,I,y,z,J⟩
  ·exact G.xsep d _ _ h rfl j m
  ·have:k2=d:=G.sep k2 d _ _ _ (F k2 I y z) h z rfl J j
   subst this
   simp only[B5,Zt,aA]at y
   grind
 ·have i:ob d=some o:=by simpa [B5,r]using g
  exact⟨F.later.Akc (K:=K) (G.ko d o i).1 (G.ko d o i).2 (λ_ _ _ _=>rfl) (G.obj d o i),G.ko d o i⟩
theorem Good.drop {tm:Nat->SV}{ob:Nat->Option Ob}(G:Good P N X ρ K tm ob μ a w)(k:Nat):
  Good P N X ρ K tm (B5 ob k none) μ a w/\Kc ob (B5 ob k none):=by
 have F:Kc ob (B5 ob k none):=by
  intro c o d e
  unfold B5 at d
  grind
 refine⟨G.Es F (λc o d e=>?_),F⟩
 have g:c≠k:=by rintro rfl;simp[B5]at d
 have b:ob c=some o:=by simpa [B5,g]using d
 exact⟨F.later.Akc (K:=K) (G.ko c o b).1 (G.ko c o b).2 (λ_ _ _ _=>rfl) (G.obj c o b),G.ko c o b⟩
variable (P N X ρ K S μ a w) in
structure Ph (es es':ES):Prop where
 C8:Good P N X ρ K S.tm (cur S es'.obs) μ a w
 Es:Kc (cur S es.obs) (cur S es'.obs)
 m:es'.m=es.m
 gs:es'.gs=es.gs
theorem Ph.refl {es:ES}(G:Good P N X ρ K S.tm (cur S es.obs) μ a w):Ph P N X ρ K S μ a w es es:=⟨G,Kc.refl _,rfl,rfl⟩
theorem Ph.same {es es':ES}(G:Good P N X ρ K S.tm (cur S es.obs) μ a w)(b:es'.obs=es.obs)(c:es'.m=es.m)(d:es'.gs=es.gs):Ph P N X ρ K S μ a w es es':=
 ⟨by grind,by rw[b];exact Kc.refl _,c,d⟩
theorem Ph.trans {e1 b c:ES}(h:Ph P N X ρ K S μ a w e1 b)(h':Ph P N X ρ K S μ a w b c):Ph P N X ρ K S μ a w e1 c:=
 ⟨h'.C8,h.Es.trans h'.Es,h'.m.trans h.m,h'.gs.trans h.gs⟩
theorem Ph.later {es es':ES}(h:Ph P N X ρ K S μ a w es es'):Ek K (Bs P X ρ (cur S es.obs) μ w) (Bs P X ρ (cur S es'.obs) μ w):=h.Es.later
theorem Ph.upd {es:ES}{k:Nat}{o:Option Ob}{n:Nat}(h:Good P N X ρ K S.tm (B5 (cur S es.obs) k o) μ a w/\Kc (cur S es.obs) (B5 (cur S es.obs) k o)):
  Ph P N X ρ K S μ a w es {es with n,obs:=(k,o)::es.obs} :=
 ⟨by rw[Bz];exact h.1,by rw[Bz];exact h.2,rfl,rfl⟩
theorem Asf {x:Arg}{vs:List IV}(h:Arg.evs ρ [x]=some vs): ∃y,x.ev ρ=some y/\vs= [y]:=by
 unfold Arg.evs at h
 cases a:x.ev ρ with
 | none=>grind
 | some y=>simp[a,Arg.evs]at h;grind
theorem Afz {x y:Arg}{vs:List IV}(h:Arg.evs ρ [x,y]=some vs): ∃u v,x.ev ρ=some u/\y.ev ρ=some v/\vs= [u,v]:=by
 unfold Arg.evs at h
 cases b:x.ev ρ with
 | none=>grind
 | some u=>
  cases a:Arg.evs ρ [y]with
  | none=>grind
  | some r=>
   obtain⟨v,c,rfl⟩:=Asf a
   grind
theorem A1r {x y z:Arg}{vs:List IV}(h:Arg.evs ρ [x,y,z]=some vs): ∃u v q,x.ev ρ=some u/\y.ev ρ=some v/\z.ev ρ=some q/\vs= [u,v,q]:=by
 unfold Arg.evs at h
 cases b:x.ev ρ with
 | none=>grind
 | some u=>
  cases a:Arg.evs ρ [y,z]with
  | none=>grind
  | some r=>
   obtain⟨v,q,c,d,rfl⟩:=Afz a
   grind
theorem Ss {c lo e:Arg}{xs:List IV}{l h _n:Nat}{vs:List IV}{y:IV}(g:c.ev ρ=some (.list xs))(i:lo.ev ρ=some (.int l))(j:e.ev ρ=some (.int h))
  (m:Arg.evs ρ [c,lo,e]=some vs) (o:Prim.ev .slice vs=some y):y= .list ((xs.take h).drop l)/\l<=h/\h<=xs.length:=by
 obtain⟨u,v,q,a,b,d,rfl⟩:=A1r m
 rw[g]at a;rw[i]at b;rw[j]at d
 injection a with a;injection b with b;injection d with d
 subst a;subst b;subst d
 simp only[Prim.ev]at o
 grind
theorem Aif {c:Cx}{x:Arg}{t d:TypeId}{v:Value}(h:A2o c.P t d=true)(i:Vr c x d v):Vr c x t v:=by
 unfold A2o at h
 rw[bO]at h
 rcases h with h | h
 ·grind
 ·obtain⟨iv,j,m⟩:=i
  cases e:Mt c.P t with
  | none=>grind
  | some a=>
   cases g:Mt c.P d with
   | none=>grind
   | some b=>
    rw[e,g]at h
    have:a=b:=by grind
    subst this
    obtain⟨n,rfl,rfl⟩:=m.Ih (Dk g)
    exact⟨_,j,.int (Dk e)⟩
theorem Ii {fz:Bool}{t:TypeId}{l:LV}{es es':ES}{x:Arg}{ls:List PLt}{v:Value}(G:Good P N X ρ K S.tm (cur S es.obs) μ a w)(h:Ev S (D5 P fz t l) es x es' ls)(hl:LH R ρ ls)
  (hg:holds ρ es.gs=some true) (b:Aav (Bs P X ρ (cur S es.obs) μ w) l v):
  Ph P N X ρ K S μ a w es es'/\R0 (Bs P X ρ (cur S es'.obs) μ w) x t v/\(fz=true->Vr (Bs P X ρ (cur S es'.obs) μ w) x t v):=by
 unfold D5 at h
 cases l with
 | «at» x' r=>
  simp only[Ab,Af,Ad]at h
  obtain⟨_,_,_,_,⟨d,rfl,rfl⟩,⟨rfl,rfl,rfl⟩,rfl⟩:=h
  have b:=Aif d b
  exact⟨.refl G,Vr.Af1 b,λ_=>b⟩
 | cl x' r=>
  simp only[Ab,Af,Ad]at h
  obtain⟨_,_,_,_,⟨d,rfl,rfl⟩,⟨rfl,rfl,rfl⟩,rfl⟩:=h
  have:t=r:=by grind
  subst this
  exact⟨.refl G,Vr.Af1 b.1,λ_=>b.1⟩
 | st x' r=>
  simp only[Ab,Af,Ad]at h
  obtain⟨_,_,_,_,⟨d,rfl,rfl⟩,⟨rfl,rfl,rfl⟩,rfl⟩:=h
  have:t=r:=by grind
  subst this
  exact⟨.refl G,Vr.Af1 b.1,λ_=>b.1⟩
 | nil r=>
  simp only[Ab,Af,Ad]at h
  obtain⟨_,_,_,_,⟨d,rfl,rfl⟩,⟨rfl,rfl,rfl⟩,rfl⟩:=h
  obtain⟨e,i⟩:=aE.1 d
  have aa:v= .slice none 0 0:=b
  subst aa
  have D:Vr (Bs P X ρ (cur S es.obs) μ w) (.k (.list [])) t (.slice none 0 0):=⟨_,rfl,(Row.nil e none 0).rel (Bo i)⟩
  exact⟨.refl G,D.Af1,λ_=>D⟩
 | ref k r=>
  obtain⟨b,_⟩:=b
  have b:v=μ k:=b
  subst b
  simp only[Ab,B6]at h
  obtain⟨o,_,_,ls2,⟨B,rfl,rfl⟩,h,rfl⟩:=h
  cases o with
  | box=>simp[Ac]at h
  | iter=>simp[Ac]at h
  | mp=>simp[Ac]at h
  | arr e tt c=>
   simp only[Ab,Af,Iz,Bp,Ad]at h
   obtain⟨_,_,_,_,⟨d,rfl,rfl⟩,h2,rfl⟩:=h
   have i:Dl P t=some e:=by grind
   obtain⟨ivs,A,cap,U,Y,g3,g4,C⟩:=G.Asb B
   rcases h2 with⟨Q,_,_,_,_,⟨rfl,rfl⟩,⟨rfl,rfl,rfl⟩,rfl⟩ | ⟨Q,rfl,rfl,rfl⟩
   ·have F:=G.freeze B
    have ph:Ph P N X ρ K S μ a w es {es with obs:=(k,some (.frz e tt x))::es.obs} :=Ph.upd (n:=es.n) F
    have D:Vr (Bs P X ρ (cur S ((k,some (.frz e tt x))::es.obs)) μ w) x t (μ k):=by
     have:=F.1.obj k (.frz e tt x) (by simp[B5])
     obtain⟨_,iv,d1,d2⟩:=this
     rw[Bz]
     refine⟨iv,d1,?_⟩
     obtain⟨xs,A,cap,rfl,q,H⟩:=d2.Da C
     show Rel P w _ t _ _
     have j:μ k= .slice A xs.length cap:=q
     rw[j]
     exact H.rel (Bo i)
    exact⟨ph,D.Af1,λ_=>D⟩
   ·refine⟨.refl G,?_,λI=>absurd I Q⟩
    rw[Y]
    exact R0.Az0 U (Bo i) g3
  | frz e tt c=>
   simp only[Ab,Af,Ad]at h
   obtain⟨_,_,_,_,⟨d,rfl,rfl⟩,⟨rfl,rfl,rfl⟩,rfl⟩:=h
   have i:Dl P t=some e:=by grind
   obtain⟨C,iv,d1,d2⟩:=G.obj k _ B
   obtain⟨xs,A,cap,rfl,q,H⟩:=d2.Da C
   have j:μ k= .slice A xs.length cap:=q
   have D:Vr (Bs P X ρ (cur S es.obs) μ w) x t (μ k):=by
    rw[j]
    exact⟨_,d1,H.rel (Bo i)⟩
   exact⟨.refl G,D.Af1,λ_=>D⟩
 | sub k lo hi r=>
  obtain⟨A0,n0,cap0,g,M,u,q0,q1,q2,q3,q4,q5,q6⟩:=b
  subst q6
  simp only[Ab,B6]at h
  obtain⟨o,_,_,ls2,⟨B,rfl,rfl⟩,h,rfl⟩:=h
  cases o with
  | box=>simp[Ac]at h
  | iter=>simp[Ac]at h
  | mp=>simp[Ac]at h
  | arr e tt c=>
   simp only[Ab,Af,Iz,Bp,Ad,Bt]at h
   obtain⟨_,_,_,_,⟨d,rfl,rfl⟩,⟨_,q,l3,l4,⟨rfl,rfl,rfl⟩,h2,rfl⟩,rfl⟩:=h
   simp only[aB,beq_iff_eq]at d
   obtain⟨i,J⟩:=d
   have L:u=e:=by
    have:=Bo J
    have ab:P.underlying r=some (.slice u):=q0
    grind
   subst L
   obtain⟨ivs,A,cap,U,Y,g3,g4,C⟩:=G.Asb B
   have m:μ k= .slice A0 n0 cap0:=q1
   rw[Y]at m
   injection m with i1 i2 i3
   subst i1;subst i2;subst i3
   obtain⟨vs,y,p1,p2,Z⟩:=LH.Cb hl.right.left hg
   obtain⟨rfl,p5,p6⟩:=Ss (_n:=0) U q2 q3 p1 p2
   have hlen:M - g=((ivs.take M).drop g).length :=by grind
   rcases h2 with⟨Q,_,_,_,_,⟨rfl,rfl⟩,⟨rfl,rfl,rfl⟩,rfl⟩ | ⟨Q,rfl,rfl,rfl⟩
   ·have F:=G.freeze B
    have ph:Ph P N X ρ K S μ a w es {es with n:=es.n+1,obs:=(k,some (.frz u tt c))::es.obs} :=Ph.upd F
    have D:Vr (Bs P X ρ (cur S ((k,some (.frz u tt c))::es.obs)) μ w) (.v es.n) t (.slice (if cap=g then A else A.map (·.add (g * Ag P u))) (M - g) (cap - g)):=by
     have:=F.1.obj k (.frz u tt c) (by simp[B5])
     obtain⟨_,iv,d1,d2⟩:=this
     rw[Bz]
     refine⟨_,Z,?_⟩
     have T:Rel P w _ tt iv (μ k):=d2
     rw[Y]at T
     have z:c.ev ρ=some iv:=d1
     rw[U]at z;injection z with z;subst z
     obtain⟨xs,A2,cap2,e1,q,H⟩:=T.Da C
     injection e1 with e1;injection q with q e3 e4
     subst e1;subst q;subst e4
     rw[hlen]
     exact(H.part p5 p6).rel (Bo i)
    exact⟨ph,D.Af1,λ_=>D⟩
   ·refine⟨.same G rfl rfl rfl,?_,λI=>absurd I Q⟩
    rw[show(Bs P X ρ (cur S es.obs) μ w).P =P from rfl,hlen]
    exact R0.Az0 Z (Bo i) (g3.part p5 p6)
  | frz e tt c=>
   simp only[Ab,Af,Bt]at h
   obtain⟨_,_,_,_,⟨d,rfl,rfl⟩,⟨rfl,rfl,rfl⟩,rfl⟩:=h
   simp only[aB,beq_iff_eq]at d
   obtain⟨i,J⟩:=d
   have L:u=e:=by
    have:=Bo J
    have ab:P.underlying r=some (.slice u):=q0
    grind
   subst L
   obtain⟨C,iv,d1,d2⟩:=G.obj k _ B
   obtain⟨xs,A,cap,rfl,q,H⟩:=d2.Da C
   have j:μ k= .slice A xs.length cap:=q
   have m:μ k= .slice A0 n0 cap0:=q1
   rw[j]at m
   injection m with i1 i2 i3
   subst i1;subst i2;subst i3
   obtain⟨vs,y,p1,p2,Z⟩:=LH.Cb hl hg
   obtain⟨rfl,p5,p6⟩:=Ss (_n:=0) d1 q2 q3 p1 p2
   have hlen:M - g=((xs.take M).drop g).length :=by grind
   have D:Vr (Bs P X ρ (cur S es.obs) μ w) (.v es.n) t (.slice (if cap=g then A else A.map (·.add (g * Ag P u))) (M - g) (cap - g)):=by
    rw[hlen]
    exact⟨_,Z,(H.part p5 p6).rel (Bo i)⟩
   exact⟨.same G rfl rfl rfl,D.Af1,λ_=>D⟩
 | ptr p=>simp[Ac]at h
 | fn f ps=>simp[Ac]at h
 | mref k t=>simp[Ac]at h
 | hid k=>simp[Ac]at h
 | junk=>simp[Ac]at h
end
end Go.CT
namespace Go.CT
open EM
theorem Rs {P:Program} : ∀ (d:Nat) (t:TypeId) (ts:List TypeId),Ij P d t=some ts-> ∀u∈ts,Ak P u=false
 | 0,_,_,h=>by simp[Ij]at h
 | d+1,t,ts,h=>by
  unfold Ij at h
  cases g:P.underlying t with
  | none=>grind
  | some de=>
   simp only[g]at h
   have b:(∀ (_:Ak P t=false),some [t]=some ts-> ∀u∈ts,Ak P u=false):=by
    grind
   cases de with
   | struct fs=>
    simp only[aI]at h
    obtain⟨ls,c,rfl⟩:=h
    have key: ∀ (l:List Field) (ls:List (List TypeId)),l.mapM (λf=>Ij P d f.type)=some ls-> ∀u∈ls.flatten,Ak P u=false:=by
     intro l
     induction l with
     | nil=>grind
     | cons f l j=>
      intro ls h u a
      simp only[cO,aY,aG]at h
      cases c:Ij P d f.type with
      | none=>grind
      | some x=>
       simp only[c,aO]at h
       cases i:l.mapM (λf=>Ij P d f.type) with
       | none=>grind
       | some xs=>
        simp only[i,aO,aA]at h
        subst h
        simp only[List.flatten_cons,cH]at a
        exact a.elim (Rs d _ _ c u) (j _ i u)
    grind
   | array n e=>
    simp only[aI]at h
    obtain⟨l,c,rfl⟩:=h
    intro u a
    simp only[List.mem_flatten,bI]at a
    obtain⟨m,⟨_,rfl⟩,a⟩:=a
    exact Rs d _ _ c u a
   | _=>exact b (by simp[Ak,g]) h
theorem Gj {P:Program}{t:TypeId}{ts:List TypeId}(h:leaves P t=some ts): ∀ (i:Nat) (u:TypeId),ts[i]?=some u->Ak P u=false:=
 λ_ _ a=>Rs _ _ _ h _ (aU a)
def Ix (P:Program)(w:World)(O:Nat->Prop):List TypeId->List IV->List Value->Prop
 | [],[],[]=>True
 | t::ts,x::xs,v::vs=>Rel P w O t x v/\Ix P w O ts xs vs
 | _,_,_=>False
section
variable {P:Program}{w:World}{O O':Nat->Prop}
theorem Ix.len: ∀ {ts:List TypeId} {xs:List IV} {vs:List Value},Ix P w O ts xs vs->xs.length=ts.length/\vs.length=ts.length
 | [],[],[],_=>⟨rfl,rfl⟩
 | _::_,_::_,_::_,h=>by have:=Ix.len h.2;grind
 | [],[],_::_,h=>h.elim
 | [],_::_,_,h=>h.elim
 | _::_,[],_,h=>h.elim
 | _::_,_::_,[],h=>h.elim
theorem Ix.get: ∀ {ts:List TypeId} {xs:List IV} {vs:List Value},Ix P w O ts xs vs-> ∀ (i:Nat) (u:TypeId) (x:IV) (c:Value),ts[i]?=some u->xs[i]?=some x->vs[i]?=some c->Rel P w O u x c
 | [],[],[],_=>by simp
 | t::_,y::_,z::_,h=>by
  intro i u x c a b d
  cases i with
  | zero=>simp at a b d;subst a;subst b;subst d;exact h.1
  | succ i=>simp at a b d;exact Ix.get h.2 i u x c a b d
 | [],[],_::_,h=>h.elim
 | [],_::_,_,h=>h.elim
 | _::_,[],_,h=>h.elim
 | _::_,_::_,[],h=>h.elim
theorem Ix.M9: ∀ {ts:List TypeId} {xs:List IV} {vs:List Value},xs.length=ts.length->vs.length=ts.length->(∀ (i:Nat) (u:TypeId) (x:IV) (c:Value),ts[i]?=some u->xs[i]?=some x->vs[i]?=some c->Rel P w O u x c)->Ix P w O ts xs vs
 | [],[],[],_,_,_=>trivial
 | _::_,_::_,_::_,e,g,h=>⟨h 0 _ _ _ rfl rfl rfl,Ix.M9 (by grind) (by grind) λi u x c a b d=>h (i+1) u x c (by grind) (by grind) (by grind)⟩
 | [],_::_,_,e,_,_=>by simp at e
 | [],[],_::_,_,g,_=>by simp at g
 | _::_,[],_,e,_,_=>by simp at e
 | _::_,_::_,[],_,g,_=>by simp at g
theorem Ix.weaken: ∀ {ts:List TypeId} {xs:List IV} {vs:List Value},Ix P w O ts xs vs->(∀b,b<w.heap.size->O' b->O b)->Ix P w O' ts xs vs
 | [],[],[],_,_=>trivial
 | _::_,_::_,_::_,h,a=>⟨h.1.weaken a,Ix.weaken h.2 a⟩
 | [],[],_::_,h,_=>h.elim
 | [],_::_,_,h,_=>h.elim
 | _::_,[],_,h,_=>h.elim
 | _::_,_::_,[],h,_=>h.elim
theorem Ix.agg {t:TypeId}{ts:List TypeId}{xs:List IV}{cs:Array Value}(h:Ix P w O ts xs cs.toList)(b:Ak P t=true)(a:leaves P t=some ts):Rel P w O t (.agg xs) (.agg cs):=
 .agg b a h.len.1 (by simpa using h.len.2) (Gj a) λi u x c d e g=>h.get i u x c d e (by grind)
theorem Rel.Afw {t:TypeId}{x:IV}{v:Value}(h:Rel P w O t x v)(e:Ak P t=true): ∃ts xs cs,leaves P t=some ts/\x= .agg xs/\v= .agg cs/\Ix P w O ts xs cs.toList:=by
 obtain⟨ts,xs,cs,g,rfl,rfl,j,o,q,m⟩:=h.J5 e
 exact⟨ts,xs,cs,g,rfl,rfl,Ix.M9 j (by omega) λi u x c a b d=>m i u x c a b (by grind)⟩
end
section
variable {P:Program}{N:Nat}{X:Nat->Prop}{R:Job->List IV->Option (List IV)}{ρ:List IV}{K:Nat->Prop}{S:View}{μ:Nat->Value}{a:Act}{w:World}
theorem Gx {x:Arg}{xs:List Arg}{y:IV}{ys:List IV}(a:x.ev ρ=some y)(b:Arg.evs ρ xs=some ys):Arg.evs ρ (x::xs)=some (y::ys):=by
 simp[Arg.evs,a,b]
theorem Sr {fz:Bool} : ∀ {ts:List TypeId} {lvs:List LV} {es es':ES} {as:List Arg} {ls:List PLt} {vs:List Value} (_G:Good P N X ρ K S.tm (cur S es.obs) μ a w) (_h:Ev S (Ep P fz ts lvs) es as es' ls) (_hl:LH R ρ ls)
  (_hg:holds ρ es.gs=some true) (_hk: ∀k∈lvs.flatMap Bf,K k) (_hv:Eo (Bs P X ρ (cur S es.obs) μ w) lvs vs),
  Ph P N X ρ K S μ a w es es'/\ ∃xs,Arg.evs ρ as=some xs/\Ix P w (λ_=>False) ts xs vs/\(fz=true->Ix P w (Bs P X ρ (cur S es'.obs) μ w).O ts xs vs)
 | [],[],es,es',as,ls,vs,G,h,g,i,m,c=>by
  unfold Ep at h
  rw[Ad]at h
  obtain⟨rfl,rfl,rfl⟩:=h
  cases vs with
  | nil=>exact⟨.refl G,[],rfl,trivial,λ_=>trivial⟩
  | cons=>exact c.elim
 | t::ts,l::lvs,es,es',as,ls,vs,G,h,g,i,m,c=>by
  unfold Ep at h
  simp only[Ab,Ad]at h
  obtain⟨x,e1,L,_,r,⟨xs,M,Q,_,u,⟨rfl,rfl,rfl⟩,rfl⟩,rfl⟩:=h
  cases vs with
  | nil=>exact c.elim
  | cons v vs=>
   obtain⟨e,z,A⟩:=Ii G r g.left i c.1.2
   have d: ∀k∈lvs.flatMap Bf,K k:=λk T=>m k (by grind)
   obtain⟨o,ys,B,C,F⟩:=Sr e.C8 u g.right.left (by rw[e.gs];exact i) d (e.later.Agt d c.2)
   obtain⟨y,r1,r2,_⟩:=z
   refine⟨e.trans o,y::ys,Gx r1 B,⟨r2,C⟩,λq=>⟨?_,F q⟩⟩
   obtain⟨H,I,J⟩:=A q
   have j:x.ev ρ=some y:=r1
   have b:x.ev ρ=some H:=I
   rw[j]at b;injection b with b;subst b
   exact o.later.rel J
 | [],_::_,_,_,_,_,_,_,h,_,_,_,_=>by simp[Ep,Ac]at h
 | _::_,[],_,_,_,_,_,_,h,_,_,_,_=>by simp[Ep,Ac]at h
theorem E3 {fz:Bool}{t:TypeId}{vv:VV}{es es':ES}{x:Arg}{ls:List PLt}{v:Value}(G:Good P N X ρ K S.tm (cur S es.obs) μ a w)(h:Ev S (J4 P fz t vv) es x es' ls)(b:LH R ρ ls)
  (c:holds ρ es.gs=some true) (u: ∀k∈Ay vv,K k) (m:Mq (Bs P X ρ (cur S es.obs) μ w) vv v):
  Ph P N X ρ K S μ a w es es'/\R0 (Bs P X ρ (cur S es'.obs) μ w) x t v/\(fz=true->Vr (Bs P X ρ (cur S es'.obs) μ w) x t v):=by
 unfold J4 at h
 cases vv with
 | leaf l=>exact Ii G h b c m
 | agg I cs=>
  simp only[Ab,Af,Ar,Bt]at h
  obtain⟨_,_,_,_,⟨o,rfl,rfl⟩,⟨ts,_,_,_,⟨q,rfl,rfl⟩,⟨as,e1,J,L,z,⟨rfl,rfl,rfl⟩,rfl⟩,rfl⟩,rfl⟩:=h
  simp only[aB,beq_iff_eq]at o
  obtain⟨rfl,d⟩:=o
  obtain⟨us,rfl,A⟩:=m
  obtain⟨g,xs,B,C,F⟩:=Sr G z b.right.right.left c u A
  obtain⟨vs,y,r1,r2,r⟩:=LH.Cb b.right.right.right (by rw[g.gs];exact c)
  rw[B]at r1;injection r1 with r1;subst r1
  simp only[Prim.ev,aA]at r2;subst r2
  have i: ∀e,P.underlying t≠some (.slice e):=by
   intro e j;simp[Ak,j]at d
  refine⟨g.trans (.same g.C8 rfl rfl rfl),⟨_,r,C.agg d q,λe j=>absurd j (i e)⟩,λH=>⟨_,r,(F H).agg d q⟩⟩
def Axd (c:Cx)(KS:List Nat)(b:Nat):Prop:=c.O b/\ ∀k∈KS,blk (c.μ k)≠some b
theorem Agy {t:TypeId}{l:LV}{es es':ES}{x:Arg}{ls:List PLt}{v:Value}{KS:List Nat}(G:Good P N X ρ K S.tm (cur S es.obs) μ a w)(h:Ev S (D5 P false t l) es x es' ls)(hl:LH R ρ ls)
  (hg:holds ρ es.gs=some true) (i:Aav (Bs P X ρ (cur S es.obs) μ w) l v) (C: ∀k∈Bf l,∀e t c,cur S es.obs k=some (.arr e t c)->k∈KS):
  ∃iv,x.ev ρ=some iv/\Rel P w (Axd (Bs P X ρ (cur S es.obs) μ w) KS) t iv v:=by
 have weak: ∀ {iv},Rel P w (Bs P X ρ (cur S es.obs) μ w).O t iv v->Rel P w (Axd (Bs P X ρ (cur S es.obs) μ w) KS) t iv v:=λh=>h.weaken λ_ _ F=>F.1
 unfold D5 at h
 cases l with
 | «at» x' j=>
  simp only[Ab,Af,Ad]at h
  obtain⟨_,_,_,_,⟨d,rfl,rfl⟩,⟨rfl,rfl,rfl⟩,rfl⟩:=h
  obtain⟨iv,d1,d2⟩:=Aif d i
  exact⟨iv,d1,weak d2⟩
 | cl x' j=>
  simp only[Ab,Af,Ad]at h
  obtain⟨_,_,_,_,⟨d,rfl,rfl⟩,⟨rfl,rfl,rfl⟩,rfl⟩:=h
  have:t=j:=by grind
  subst this
  obtain⟨iv,d1,d2⟩:=i.1
  exact⟨iv,d1,weak d2⟩
 | st x' j=>
  simp only[Ab,Af,Ad]at h
  obtain⟨_,_,_,_,⟨d,rfl,rfl⟩,⟨rfl,rfl,rfl⟩,rfl⟩:=h
  have:t=j:=by grind
  subst this
  obtain⟨iv,d1,d2⟩:=i.1
  exact⟨iv,d1,weak d2⟩
 | nil j=>
  simp only[Ab,Af,Ad]at h
  obtain⟨_,_,_,_,⟨d,rfl,rfl⟩,⟨rfl,rfl,rfl⟩,rfl⟩:=h
  obtain⟨e,m⟩:=aE.1 d
  have T:v= .slice none 0 0:=i
  subst T
  exact⟨_,rfl,(Row.nil e none 0).rel (Bo m)⟩
 | ref k j=>
  obtain⟨i,_⟩:=i
  have i:v=μ k:=i
  subst i
  simp only[Ab,B6]at h
  obtain⟨o,_,_,ls2,⟨q,rfl,rfl⟩,h,rfl⟩:=h
  cases o with
  | box=>simp[Ac]at h
  | iter=>simp[Ac]at h
  | mp=>simp[Ac]at h
  | arr e tt c=>
   simp only[Ab,Af,Iz,Bp,Ad,aJ,false_and,false_or,not_false_eq_true,true_and]at h
   obtain⟨_,_,_,_,⟨d,rfl,rfl⟩,⟨rfl,rfl,rfl⟩,rfl⟩:=h
   have m:Dl P t=some e:=by grind
   obtain⟨ivs,A,cap,U,H,Y,g4,I⟩:=G.Asb q
   rw[H]
   refine⟨_,U,(Y.row (λb _ F=>F.1) λad r Z=>?_).rel (Bo m)⟩
   exact Z.2 k (C k (by simp[Bf]) _ _ _ q) (by show blk (μ k)=_;rw[H,r];rfl)
  | frz e tt c=>
   simp only[Ab,Af,Ad]at h
   obtain⟨_,_,_,_,⟨d,rfl,rfl⟩,⟨rfl,rfl,rfl⟩,rfl⟩:=h
   have m:Dl P t=some e:=by grind
   obtain⟨I,iv,d1,d2⟩:=G.obj k _ q
   obtain⟨xs,A,cap,rfl,J,hr⟩:=d2.Da I
   have u:μ k= .slice A xs.length cap:=J
   exact⟨_,d1,weak (by rw[u];exact hr.rel (Bo m))⟩
 | sub k lo hi j=>
  obtain⟨A0,n0,cap0,L,M,Q,q0,q1,q2,q3,q4,q5,q6⟩:=i
  subst q6
  simp only[Ab,B6]at h
  obtain⟨o,_,_,ls2,⟨q,rfl,rfl⟩,h,rfl⟩:=h
  cases o with
  | box=>simp[Ac]at h
  | iter=>simp[Ac]at h
  | mp=>simp[Ac]at h
  | arr e tt c=>
   simp only[Ab,Af,Iz,Bp,Ad,Bt,aJ,false_and,false_or,not_false_eq_true,true_and]at h
   obtain⟨_,_,_,_,⟨d,rfl,rfl⟩,⟨_,J,l3,l4,⟨rfl,rfl,rfl⟩,⟨rfl,rfl,rfl⟩,rfl⟩,rfl⟩:=h
   simp only[aB,beq_iff_eq]at d
   obtain⟨m,z⟩:=d
   have B:Q=e:=by
    have:=Bo z
    have aa:P.underlying j=some (.slice Q):=q0
    grind
   subst B
   obtain⟨ivs,A,cap,U,H,Y,g4,I⟩:=G.Asb q
   have g:μ k= .slice A0 n0 cap0:=q1
   rw[H]at g
   injection g with i1 i2 i3
   subst i1;subst i2;subst i3
   obtain⟨vs,y,p1,p2,p3⟩:=LH.Cb hl.right.left hg
   obtain⟨rfl,p5,p6⟩:=Ss (_n:=0) U q2 q3 p1 p2
   have hlen:M - L=((ivs.take M).drop L).length :=by grind
   rw[show(Bs P X ρ (cur S es.obs) μ w).P =P from rfl,hlen]
   refine⟨_,p3,((Y.part p5 p6).row (λb _ F=>F.1) λad r Z=>?_).rel (Bo m)⟩
   refine Z.2 k (C k (by simp[Bf]) _ _ _ q) ?_
   show blk (μ k)=_
   rw[H]
   split at r
   ·rw[r];rfl
   ·cases A with
    | none=>cases r
    | some ad0=>
     simp only[aN,aA]at r
     rw[<-r,Ec];rfl
  | frz e tt c=>
   simp only[Ab,Af,Bt]at h
   obtain⟨_,_,_,_,⟨d,rfl,rfl⟩,⟨rfl,rfl,rfl⟩,rfl⟩:=h
   simp only[aB,beq_iff_eq]at d
   obtain⟨m,z⟩:=d
   have B:Q=e:=by
    have:=Bo z
    have aa:P.underlying j=some (.slice Q):=q0
    grind
   subst B
   obtain⟨I,iv,d1,d2⟩:=G.obj k _ q
   obtain⟨xs,A,cap,rfl,J,hr⟩:=d2.Da I
   have u:μ k= .slice A xs.length cap:=J
   have g:μ k= .slice A0 n0 cap0:=q1
   rw[u]at g
   injection g with i1 i2 i3
   subst i1;subst i2;subst i3
   obtain⟨vs,y,p1,p2,p3⟩:=LH.Cb hl hg
   obtain⟨rfl,p5,p6⟩:=Ss (_n:=0) d1 q2 q3 p1 p2
   have hlen:M - L=((xs.take M).drop L).length :=by grind
   refine⟨_,p3,weak ?_⟩
   rw[show(Bs P X ρ (cur S es.obs) μ w).P =P from rfl,hlen]
   exact(hr.part p5 p6).rel (Bo m)
 | ptr p=>simp[Ac]at h
 | fn f ps=>simp[Ac]at h
 | mref k t=>simp[Ac]at h
 | hid k=>simp[Ac]at h
 | junk=>simp[Ac]at h
theorem Aa5 {t:TypeId}{l:LV}{es es':ES}{x:Arg}{ls:List PLt}(h:Ev S (D5 P false t l) es x es' ls)(b:Bf l= []):Ev S (D5 P true t l) es x es' ls/\es'=es:=by
 unfold D5 at h ⊢
 cases l with
 | ref=>simp[Bf]at b
 | sub=>simp[Bf]at b
 | ptr p=>simp[Ac]at h
 | fn f d=>simp[Ac]at h
 | mref k t=>simp[Ac]at h
 | hid k=>simp[Ac]at h
 | junk=>simp[Ac]at h
 | «at» c a=>exact⟨h,by simp only[Ab,Af,Ad]at h;grind⟩
 | cl c a=>exact⟨h,by simp only[Ab,Af,Ad]at h;grind⟩
 | st c a=>exact⟨h,by simp only[Ab,Af,Ad]at h;grind⟩
 | nil a=>exact⟨h,by simp only[Ab,Af,Ad]at h;grind⟩
theorem Ot: ∀ {ts:List TypeId} {lvs:List LV} {es es':ES} {as:List Arg} {ls:List PLt},Ev S (Ep P false ts lvs) es as es' ls->lvs.flatMap Bf= []->Ev S (Ep P true ts lvs) es as es' ls/\es'=es
 | [],[],es,es',as,ls,h,a=>by
  unfold Ep at h ⊢
  exact⟨h,(Ad.1 h).2.1.symm⟩
 | t::ts,l::lvs,es,es',as,ls,h,a=>by
  rw[aP,List.append_eq_nil_iff]at a
  unfold Ep at h ⊢
  rw[Ab]at h ⊢
  obtain⟨x,e1,d,q,e,b,rfl⟩:=h
  rw[Ab]at b
  obtain⟨y,r,g,i,j,c,rfl⟩:=b
  obtain⟨m,rfl⟩:=Aa5 e a.1
  obtain⟨o,rfl⟩:=Ot j a.2
  refine⟨⟨x,_,d,_,m,Ab.2 ⟨y,_,g,i,o,c,rfl⟩,rfl⟩,(Ad.1 c).2.1.symm⟩
 | [],_::_,_,_,_,_,h,_=>by simp[Ep,Ac]at h
 | _::_,[],_,_,_,_,h,_=>by simp[Ep,Ac]at h
theorem Arw {t:TypeId}{vv:VV}{es es':ES}{x:Arg}{ls:List PLt}{v:Value}{KS:List Nat}(G:Good P N X ρ K S.tm (cur S es.obs) μ a w)(h:Ev S (J4 P false t vv) es x es' ls)(i:LH R ρ ls)
  (j:holds ρ es.gs=some true) (B: ∀k∈Ay vv,K k) (m:Mq (Bs P X ρ (cur S es.obs) μ w) vv v) (d: ∀k∈Ay vv,∀e t c,cur S es.obs k=some (.arr e t c)->k∈KS)
  (hd:(∃l,vv= .leaf l)\/Ay vv= []):
  ∃iv,x.ev ρ=some iv/\Rel P w (Axd (Bs P X ρ (cur S es.obs) μ w) KS) t iv v:=by
 cases vv with
 | leaf l=>exact Agy G h i j m d
 | agg o cs=>
  have g:Ay (.agg o cs)= []:=hd.resolve_left (by simp)
  have h':Ev S (J4 P true t (.agg o cs)) es x es' ls/\es'.obs=es.obs:=by
   unfold J4 at h ⊢
   rw[Ab]at h ⊢
   obtain⟨u,e1,C,l2,q,r,rfl⟩:=h
   rw[Ab]at r
   obtain⟨F,H,I,l4,y,z,rfl⟩:=r
   rw[Ab]at z
   obtain⟨J,L,M,Q,T,A,rfl⟩:=z
   obtain⟨U,Y⟩:=Ot T g
   refine⟨⟨u,e1,C,_,q,Ab.2 ⟨F,H,I,_,y,Ab.2 ⟨J,L,M,Q,U,A,rfl⟩,rfl⟩,rfl⟩,?_⟩
   obtain⟨_,rfl,_⟩:=Af.1 q
   obtain⟨_,rfl,_⟩:=Ar.1 y
   obtain⟨_,rfl,_⟩:=Bt.1 A
   rw[Y]
  obtain⟨h',Z⟩:=h'
  obtain⟨p,_,hD⟩:=E3 G h' i j B m
  obtain⟨iv,d1,d2⟩:=hD rfl
  rw[Z]at d2
  exact⟨iv,d1,d2.weaken λb _ hb=>hb.1⟩
theorem Arg.N8 {x y:Arg}(h:x.same y=true):x.ev ρ=y.ev ρ:=by
 cases x with
 | v n=>cases y with
  | v m=>simp[Arg.same]at h;subst h;rfl
  | k c=>simp[Arg.same]at h
 | k c=>cases y with
  | v m=>cases c<;>simp[Arg.same]at h
  | k d=>cases c<;>cases d<;>simp_all[Arg.same,Arg.ev]
theorem At5 {gs:List (Arg × Bool)}(h:holds ρ gs=some true): ∀g∈gs,g.1.ev ρ=some (.bool g.2):=by
 induction gs with
 | nil=>simp
 | cons g gs a=>
  obtain⟨x,want⟩:=g
  unfold holds at h
  grind
theorem holds_of {gs:List (Arg × Bool)}(h: ∀g∈gs,g.1.ev ρ=some (.bool g.2)):holds ρ gs=some true:=by
 induction gs with
 | nil=>rfl
 | cons g gs a=>
  obtain⟨x,want⟩:=g
  have b:=h _ aS
  unfold holds
  grind
theorem Mi {gs b:List (Arg × Bool)}(h:Wo gs b=true)(c:holds ρ b=some true):holds ρ gs=some true:=by
 refine holds_of λg d=>?_
 have:=cB.1 h g d
 obtain⟨e,i,a⟩:=List.any_eq_true.1 this
 simp only[aB,beq_iff_eq]at a
 rw[Arg.N8 a.1,a.2]
 exact At5 c e i
theorem Awr.use {c:Cx}{s:SV}{v:Value}(h:Awr c s v)(a:holds c.ρ s.gs=some true):Alq c s.x v:=by
 obtain⟨b,d,e,g⟩:=h
 grind
theorem Acm {c:Cx}{t:TypeId}{v:Value}{l:LV}(h:N4 c.P t v=some l):A60 c l v/\Bf l= []:=by
 unfold N4 at h
 split at h
 ·split at h
  ·rename_i a;injection h with h;subst h;exact⟨⟨rfl,_,rfl,.int (Dk a)⟩,rfl⟩
  ·cases h
 ·split at h
  ·rename_i a;injection h with h;subst h;exact⟨⟨rfl,_,rfl,.bool (Cz a)⟩,rfl⟩
  ·cases h
 ·split at h
  ·rename_i a;injection h with h;subst h;exact⟨⟨rfl,_,rfl,.str (E4 a)⟩,rfl⟩
  ·cases h
 ·split at h
  ·injection h with h;subst h;exact⟨⟨rfl,rfl⟩,rfl⟩
  ·cases h
 ·injection h with h;subst h;exact⟨⟨rfl,trivial⟩,rfl⟩
 ·injection h with h;subst h;exact⟨⟨rfl,trivial⟩,rfl⟩
 ·injection h with h;subst h;exact⟨⟨rfl,trivial⟩,rfl⟩
 ·injection h with h;subst h;exact⟨⟨rfl,trivial⟩,rfl⟩
 ·cases h
theorem Yo {c:Cx} : ∀ {ts:List TypeId} {vs:List Value} {ls:List LV},E5 c.P ts vs=some ls->Eo c ls vs/\ls.flatMap Bf= []/\ls.length=ts.length
 | [],[],ls,h=>by simp[E5]at h;subst h;exact⟨trivial,rfl,rfl⟩
 | t::ts,v::vs,ls,h=>by
  simp only[E5,aY,aG]at h
  cases a:N4 c.P t v with
  | none=>grind
  | some l=>
   cases b:E5 c.P ts vs with
   | none=>grind
   | some ls'=>
    simp[a,b]at h;subst h
    have:=Acm a
    have d:=Yo b
    exact⟨⟨this.1,d.1⟩,by grind,by grind⟩
 | [],_::_,_,h=>by simp[E5]at h
 | _::_,[],_,h=>by simp[E5]at h
theorem Q0 {c:Cx}{t:TypeId}{v:Value}{vv:VV}(h:O5 c.P t v=some vv):Mq c vv v/\Ay vv= []/\(Ak c.P t=false->v.oneCell'=true)/\(∀u∈v.cells,u.oneCell'=true)/\
  (Ak c.P t=true-> ∃cs,v= .agg cs):=by
 unfold O5 at h
 split at h
 ·rename_i cs
  split at h
  ·rename_i d
   simp only[aY,aG]at h
   cases b:leaves c.P t with
   | none=>grind
   | some ts=>
    cases e:E5 c.P ts cs.toList with
    | none=>grind
    | some ls=>
     simp[b,e]at h;subst h
     have:=Yo e
     refine⟨⟨cs,rfl,this.1⟩,this.2.1,λh=>by grind,?_,λ_=>⟨cs,rfl⟩⟩
     intro u a
     have g:u∈cs.toList:=by simpa [Value.cells]using a
     have key: ∀ (ls:List LV) (vs:List Value),Eo c ls vs-> ∀u∈vs,u.oneCell'=true:=by
      intro ls
      induction ls with
      | nil=>intro vs h u a;cases vs with | nil=>simp at a | cons=>exact h.elim
      | cons l ls i=>
       intro vs h u a
       cases vs with
       | nil=>exact h.elim
       | cons v vs=>
        rcases cQ.1 a with rfl | a
        ·exact h.1.1
        ·exact i vs h.2 u a
     grind
  ·cases h
 ·split at h
  ·cases h
  ·rename_i j d
   simp only[aI]at h
   obtain⟨l,h,rfl⟩:=h
   have:=Acm h
   have m:v.oneCell'=true:=this.1.1
   refine⟨this.1.2,this.2,λ_=>m,?_,λh=>absurd h d⟩
   intro u a
   have:v.cells= #[v]:=by cases v<;>simp_all[Value.cells]
   grind
theorem Axx {t:TypeId}{x:Operand}{es es':ES}{sx:SX}{ls:List PLt}(G:Good P N X ρ K S.tm (cur S es.obs) μ a w)(h:Ev S (rd P x t) es sx es' ls)(e:holds ρ es.gs=some true):
  es=es'/\ls= []/\Alq (Bs P X ρ (cur S es.obs) μ w) sx (a.eval x)/\ ∀k∈Ct sx,K k:=by
 unfold rd at h
 cases x with
 | tmp s=>
  simp only[Ab,Oh,Jr,Af,Ad]at h
  obtain⟨v,_,_,_,⟨rfl,rfl,rfl⟩,⟨gs,_,_,_,⟨rfl,rfl,rfl⟩,⟨_,_,_,_,⟨d,rfl,rfl⟩,⟨rfl,rfl,rfl⟩,rfl⟩,rfl⟩,rfl⟩:=h
  exact⟨rfl,rfl,(G.slot s).use (Mi d e),G.kt s⟩
 | const c=>
  simp only[Ab,Ar,Ad]at h
  obtain⟨v,_,_,_,⟨d,rfl,rfl⟩,⟨rfl,rfl,rfl⟩,rfl⟩:=h
  have:=Q0 (c:=Bs P X ρ (cur S es.obs) μ w) d
  exact⟨rfl,rfl,this.1,λk b=>by rw[show Ct (.one v)=Ay v from rfl,this.2.1]at b;simp at b⟩
 | func f=>
  rw[Ad]at h
  obtain⟨rfl,rfl,rfl⟩:=h
  exact⟨rfl,rfl,⟨#[],rfl,trivial⟩,λk b=>by simp[Ct,Ay,Bf]at b⟩
 | global g=>simp[Ac]at h
theorem G9 {t:TypeId}{x:Operand}{es es':ES}{vv:VV}{ls:List PLt}(G:Good P N X ρ K S.tm (cur S es.obs) μ a w)(h:Ev S (rd1 P x t) es vv es' ls)(c:holds ρ es.gs=some true):
  es=es'/\ls= []/\Mq (Bs P X ρ (cur S es.obs) μ w) vv (a.eval x)/\ ∀k∈Ay vv,K k:=by
 unfold rd1 at h
 rw[Ab]at h
 obtain⟨sx,e1,j,m,d,b,rfl⟩:=h
 obtain⟨rfl,rfl,e,g⟩:=Axx G d c
 cases sx with
 | one v=>
  rw[Ad]at b
  obtain⟨rfl,rfl,rfl⟩:=b
  exact⟨rfl,rfl,e,g⟩
 | tup vs=>simp[Ac]at b
 | nx ok i r=>simp[Ac]at b
theorem Hh {t:TypeId}{x:Operand}{es es':ES}{y:Arg}{ls:List PLt}(G:Good P N X ρ K S.tm (cur S es.obs) μ a w)(h:Ev S (I7 P x t) es y es' ls)(c:LH R ρ ls)(b:holds ρ es.gs=some true):
  Ph P N X ρ K S μ a w es es'/\R0 (Bs P X ρ (cur S es'.obs) μ w) y t (a.eval x):=by
 unfold I7 at h
 rw[Ab]at h
 obtain⟨vv,e1,j,m,d,e,rfl⟩:=h
 obtain⟨rfl,rfl,g,i⟩:=G9 G d b
 obtain⟨o,q,_⟩:=E3 G e c.right b i g
 grind
theorem T1 {x:Operand}{es es':ES}{y:Arg}{ls:List PLt}(G:Good P N X ρ K S.tm (cur S es.obs) μ a w)(h:Ev S (Aio P x) es y es' ls)(i:holds ρ es.gs=some true):
  es=es'/\ls= []/\ ∃n k,y.ev ρ=some (.int n)/\a.eval x= .int k n:=by
 unfold Aio at h
 cases x with
 | tmp s=>
  simp only[Ab,Oh,Jr,Af]at h
  obtain⟨v,_,_,_,⟨rfl,rfl,rfl⟩,⟨gs,_,_,_,⟨rfl,rfl,rfl⟩,⟨_,_,_,_,⟨j,rfl,rfl⟩,d,rfl⟩,rfl⟩,rfl⟩:=h
  have e:=(G.slot s).use (Mi j i)
  split at d
  ·rename_i b t m
   rw[m]at e
   simp only[Ab,Af,Ad]at d
   obtain⟨_,_,_,_,⟨o,rfl,rfl⟩,⟨rfl,rfl,rfl⟩,rfl⟩:=d
   obtain⟨k,q⟩:=aE.1 o
   obtain⟨iv,d1,d2⟩:=e
   obtain⟨n,rfl,r⟩:=d2.Ih (Dk q)
   exact⟨rfl,rfl,n,k,d1,r⟩
  ·simp[Ac]at d
 | const c=>
  cases c<;>simp[Ac,Ad]at h
  obtain⟨rfl,rfl,rfl⟩:=h
  exact⟨rfl,rfl,_,_,rfl,rfl⟩
 | func f=>simp[Ac]at h
 | global g=>simp[Ac]at h
end
end Go.CT
namespace Go.CT
open EM
structure Hz (W:Nat->Prop)(w w':World):Prop where
 os:w'.os=w.os
 tape:w'.tape=w.tape
 output:w'.output=w.output
 size:w.heap.size<=w'.heap.size
 stays:Mb W w w'
theorem Hz.refl (W:Nat->Prop)(w:World):Hz W w w:=⟨rfl,rfl,rfl,bA _,Mb.refl _ _⟩
def Ax (K:Nat->Prop)(m a:Nat)(k:Nat):Prop:=K k\/(m<=k/\k<a)
structure Out (P:Program)(N:Nat)(X:Nat->Prop)(ρ:List IV)(K:Nat->Prop)(S:View)(μ:Nat->Value)(a:Act)(w:World)(es es':ES)(sx:SX)(μ':Nat->Value)(w':World)(v:Value):Prop where
 C8:Good P N X ρ (Ax K es.m es'.m) S.tm (cur S es'.obs) μ' a w'
 rel:Alq (Bs P X ρ (cur S es'.obs) μ' w') sx v
 keys: ∀k∈Ct sx,Ax K es.m es'.m k
 step:Hz (Wr (cur S es.obs) μ) w w'
 own: ∀b,Wr (cur S es'.obs) μ' b->Wr (cur S es.obs) μ b\/w.heap.size<=b
 keep: ∀k,K k->μ' k=μ k
theorem Good.Pl {P:Program}{N:Nat}{X:Nat->Prop}{ρ:List IV}{K K':Nat->Prop}{tm:Nat->SV}{ob:Nat->Option Ob}{μ:Nat->Value}{a:Act}{w:World}
  (G:Good P N X ρ K tm ob μ a w) (h: ∀k,K k->K' k):Good P N X ρ K' tm ob μ a w:=
 ⟨G.size,G.defers,G.slot,G.obj,G.sep,G.xsep,G.xlt,λs k b=>h k (G.kt s k b),λk o c=>⟨h k (G.ko k o c).1,λd b=>h d ((G.ko k o c).2 d b)⟩⟩
theorem Dr {P:Program}{o:Oper}{a:Act}{w w':World}{v:Value}{next:Act->World->Prop}{Q:Exit->Act->World->Prop}(h:(execOp a.eval o).run P w= .ok (.value v) w')(b:next (a.put o.dst v) w'):
  o.wp P a w next Q:=by
 unfold Oper.wp
 rw[h];exact b
section
variable {P:Program}{N:Nat}{X:Nat->Prop}{R:Job->List IV->Option (List IV)}{ρ:List IV}{K:Nat->Prop}{S:View}{μ:Nat->Value}{a:Act}{w:World}{es es':ES}{ls:List PLt}{sx:SX}
theorem Ph.out {v:Value}(p:Ph P N X ρ K S μ a w es es')(b:Alq (Bs P X ρ (cur S es'.obs) μ w) sx v)(c: ∀k∈Ct sx,K k):Out P N X ρ K S μ a w es es' sx μ w v:=
 ⟨p.C8.Pl λ_ h=> .inl h,b,λk h=> .inl (c k h),.refl _ _,λ_b d=> .inl (p.Es.wr d),λ_ _=>rfl⟩
theorem Np (x:Arg)(t:TypeId): ∀k∈Ct (dat x t),K k:=λk h=>by simp[dat,Ct,Ay,Bf]at h
theorem R0.int {c:Cx}{x:Arg}{t:TypeId}{v:Value}{k:IntKind}(h:R0 c x t v)(a:c.P.underlying t=some (.int k)): ∃n,x.ev c.ρ=some (.int n)/\v= .int k n:=by
 obtain⟨iv,d,b,_⟩:=h
 obtain⟨n,rfl,e⟩:=b.Ih a
 grind
theorem R0.bool {c:Cx}{x:Arg}{t:TypeId}{v:Value}(h:R0 c x t v)(a:c.P.underlying t=some .bool): ∃n,x.ev c.ρ=some (.bool n)/\v= .bool n:=by
 obtain⟨iv,d,b,_⟩:=h
 obtain⟨n,rfl,e⟩:=b.Nz a
 grind
theorem R0.str {c:Cx}{x:Arg}{t:TypeId}{v:Value}(h:R0 c x t v)(a:c.P.underlying t=some .string): ∃n,x.ev c.ρ=some (.str n)/\v= .string n:=by
 obtain⟨iv,d,b,_⟩:=h
 obtain⟨n,rfl,e⟩:=b.Is a
 grind
theorem A0s {t u:TypeId}{x y:Operand}{e1 d:ES}{b c:Arg}{i j:List PLt}(G:Good P N X ρ K S.tm (cur S es.obs) μ a w)(q:Ev S (I7 P x t) es b e1 i)(r:Ev S (I7 P y u) e1 c d j)
  (e:LH R ρ i) (g:LH R ρ j) (m:holds ρ es.gs=some true):
  Ph P N X ρ K S μ a w es d/\R0 (Bs P X ρ (cur S d.obs) μ w) b t (a.eval x)/\R0 (Bs P X ρ (cur S d.obs) μ w) c u (a.eval y):=by
 obtain⟨h,z⟩:=Hh G q e m
 obtain⟨o,A⟩:=Hh h.C8 r g (by rw[h.gs];exact m)
 exact⟨h.trans o,o.later.brel rfl z,A⟩
theorem D8 {e1:ES}{n:Nat}{rt:TypeId}{iv:IV}{v:Value}(p:Ph P N X ρ K S μ a w es e1)(h:Arg.ev ρ (.v n)=some iv)(d:Rel P w (λb=>X b\/Wr (cur S e1.obs) μ b) rt iv v){c:Nat} :
  Out P N X ρ K S μ a w es {e1 with n:=c} (dat (.v n) rt) μ w v:=
 Ph.out (es':= {e1 with n:=c}) ⟨p.C8,p.Es,p.m,p.gs⟩ ⟨iv,h,d⟩ (Np _ _)
theorem A4s {op:BinOp}{yt:TypeId}{k:IntKind}(h:yOk P op yt k=true): ∃k2,P.underlying yt=some (.int k2)/\((match op with | .shl | .shr =>true | _=>false)=false->k2=k):=by
 have key: ∀a:(Mt P yt).isSome =true,∃k2,P.underlying yt=some (.int k2):=λa=>by
  obtain⟨k2,b⟩:=aE.1 a
  exact⟨k2,Dk b⟩
 cases op<;>simp only[yOk]at h<;>first
  | exact⟨k,Dk (by grind),λ_=>rfl⟩
  | grind
theorem A3g {op:BinOp}{xt yt rt:TypeId}{x y:Operand}{k:IntKind}{b c:Arg}{d:ES}(p:Ph P N X ρ K S μ a w es d)(F:P.underlying xt=some (.int k))
  (G:R0 (Bs P X ρ (cur S d.obs) μ w) b xt (a.eval x)) (H:R0 (Bs P X ρ (cur S d.obs) μ w) c yt (a.eval y)) (o:holds ρ d.gs=some true) (I:LH R ρ ls)
  (h:Ev S (do
   EM.guard (yOk P op yt k)
   match op with
   | .add | .sub | .mul =>do
    EM.guard (Mt P rt == some k)
    pure (dat (<-Cb (.arith op k) [b,c]) rt)
   | .quo =>do
    EM.guard (Mt P rt == some k)
    pure (dat (<-Cb (.quo k) [b,c]) rt)
   | .rem =>do
    EM.guard (Mt P rt == some k)
    pure (dat (<-Cb (.rem k) [b,c]) rt)
   | .shl | .shr =>do
    EM.guard (Mt P rt == some k)
    pure (dat (<-Cb (.shift op k) [b,c]) rt)
   | .eql | .neq | .lss | .leq | .gtr | .geq =>do
    EM.guard (isBool P rt)
    pure (dat (<-Cb (.cmp op) [b,c]) rt)
   | _=>fail:EM SX) d sx es' ls):
  ∃v,(do eqGuard op xt x y (a.eval x) (a.eval y);binOp op xt (a.eval x) (a.eval y):Sem Value).run P w= .ok v w/\Out P N X ρ K S μ a w es es' sx μ w v:=by
 simp only[Ab,Af]at h
 obtain⟨_,_,_,_,⟨J,rfl,rfl⟩,h,rfl⟩:=h
 obtain⟨k2,q,r⟩:=A4s J
 obtain⟨i,L,M⟩:=G.int F
 obtain⟨j,Q,T⟩:=H.int q
 have t:b.ev ρ=some (.int i):=L
 have z:c.ev ρ=some (.int j):=Q
 rw[M,T]
 cases op<;>simp only[Ac]at h<;>simp only[Ab,Af,Bt,Ad]at h<;>obtain⟨_,_,_,_,⟨A,rfl,rfl⟩,⟨_,_,_,_,⟨rfl,rfl,rfl⟩,⟨rfl,rfl,rfl⟩,rfl⟩,rfl⟩:=h<;>
  obtain⟨vs,iv,r1,r2,B⟩:=LH.Cb I.right.left o<;>obtain⟨u,v,g,m,rfl⟩:=Afz r1<;>rw[t]at g<;>rw[z]at m<;>injection g with g<;>injection m with m<;>subst g<;>subst m<;> (try (have e:=r rfl;subst e))<;>
  first
   | (
     simp only[Prim.ev,aA]at r2
     subst r2
     refine⟨_,?_,D8 p B (.int (Dk (by simpa using A)))⟩
     simp[eqGuard,binOp,Op.intArith])
   | (
     simp only[Prim.ev,Nb,aN,aA]at r2
     subst r2
     refine⟨_,?_,D8 p B (.bool (Cz A))⟩
     simp[eqGuard,binOp,Op.intCmp])
   | (
     simp only[Prim.ev]at r2
     split at r2
     ·cases r2
     ·rename_i C
      injection r2 with r2;subst r2
      refine⟨_,?_,D8 p B (.int (Dk (by simpa using A)))⟩
      first
       | (simp[eqGuard,binOp,Op.intDiv,C];done)
       | (simp[eqGuard,binOp,Op.shift,C,Nat.min_def];done))
theorem A1q {op:BinOp}{xt yt rt:TypeId}{x y:Operand}{b c:Arg}{d:ES}(p:Ph P N X ρ K S μ a w es d)(z:P.underlying xt=some .string)
  (A:R0 (Bs P X ρ (cur S d.obs) μ w) b xt (a.eval x)) (B:R0 (Bs P X ρ (cur S d.obs) μ w) c yt (a.eval y)) (m:holds ρ d.gs=some true) (C:LH R ρ ls)
  (h:Ev S (do
   EM.guard (isStr P yt)
   match op with
   | .add =>do
    EM.guard (isStr P rt)
    pure (dat (<-Cb .cat [b,c]) rt)
   | .eql | .neq | .lss | .leq | .gtr | .geq =>do
    EM.guard (isBool P rt)
    pure (dat (<-Cb (.cmpS op) [b,c]) rt)
   | _=>fail:EM SX) d sx es' ls):
  ∃v,(do eqGuard op xt x y (a.eval x) (a.eval y);binOp op xt (a.eval x) (a.eval y):Sem Value).run P w= .ok v w/\Out P N X ρ K S μ a w es es' sx μ w v:=by
 simp only[Ab,Af]at h
 obtain⟨_,_,_,_,⟨F,rfl,rfl⟩,h,rfl⟩:=h
 obtain⟨i,G,H⟩:=A.str z
 obtain⟨j,I,J⟩:=B.str (E4 F)
 have o:b.ev ρ=some (.str i):=G
 have q:c.ev ρ=some (.str j):=I
 rw[H,J]
 cases op<;>simp only[Ac]at h<;>simp only[Ab,Af,Bt,Ad]at h<;>obtain⟨_,_,_,_,⟨r,rfl,rfl⟩,⟨_,_,_,_,⟨rfl,rfl,rfl⟩,⟨rfl,rfl,rfl⟩,rfl⟩,rfl⟩:=h<;>
  obtain⟨vs,iv,r1,r2,t⟩:=LH.Cb C.right.left m<;>obtain⟨u,v,e,g,rfl⟩:=Afz r1<;>rw[o]at e<;>rw[q]at g<;>injection e with e<;>injection g with g<;>subst e<;>subst g
 case add=>
  simp only[Prim.ev]at r2
  split at r2
  ·rename_i L
   injection r2 with r2;subst r2
   refine⟨_,?_,D8 p t (.str (E4 r))⟩
   have: ¬ (((i.size+j.size:Nat):Int) > IntKind.i64.max):=by
    have:IntKind.i64.max=9223372036854775807:=by decide
    have:Bc=140737488355328:=rfl
    omega
   simp only[eqGuard,binOp,Op.stringOp,if_neg this]
   simp
  ·cases r2
 all_goals
  simp only[Prim.ev,Mo,aN,aA]at r2
  subst r2
  refine⟨_,?_,D8 p t (.bool (Cz r))⟩
  simp[eqGuard,binOp,Op.stringOp]
theorem A1u {op:BinOp}{xt yt rt:TypeId}{x y:Operand}{b c:Arg}{d:ES}(p:Ph P N X ρ K S μ a w es d)(o:P.underlying xt=some .bool)
  (A:R0 (Bs P X ρ (cur S d.obs) μ w) b xt (a.eval x)) (B:R0 (Bs P X ρ (cur S d.obs) μ w) c yt (a.eval y)) (q:holds ρ d.gs=some true) (C:LH R ρ ls)
  (h:Ev S (do
   EM.guard (isBool P yt&&isBool P rt)
   match op with
   | .eql =>do pure (dat (<-Cb (.eqB false) [b,c]) rt)
   | .neq =>do pure (dat (<-Cb (.eqB true) [b,c]) rt)
   | _=>fail:EM SX) d sx es' ls):
  ∃v,(do eqGuard op xt x y (a.eval x) (a.eval y);binOp op xt (a.eval x) (a.eval y):Sem Value).run P w= .ok v w/\Out P N X ρ K S μ a w es es' sx μ w v:=by
 simp only[Ab,Af]at h
 obtain⟨_,_,_,_,⟨e,rfl,rfl⟩,h,rfl⟩:=h
 simp only[aB]at e
 obtain⟨i,F,G⟩:=A.bool o
 obtain⟨j,H,I⟩:=B.bool (Cz e.1)
 have r:b.ev ρ=some (.bool i):=F
 have t:c.ev ρ=some (.bool j):=H
 rw[G,I]
 cases op<;>simp only[Ac]at h<;>simp only[Ab,Bt,Ad]at h<;>obtain⟨_,_,_,_,⟨rfl,rfl,rfl⟩,⟨rfl,rfl,rfl⟩,rfl⟩:=h<;>
  obtain⟨vs,iv,r1,r2,z⟩:=LH.Cb C.left q<;>obtain⟨u,v,g,m,rfl⟩:=Afz r1<;>rw[r]at g<;>rw[t]at m<;>injection g with g<;>injection m with m<;>subst g<;>subst m
 ·simp only[Prim.ev,aA,aJ,Zf]at r2
  subst r2
  refine⟨_,?_,D8 p z (.bool (Cz e.2))⟩
  rw[Sem.run_bind,show(eqGuard .eql xt x y (.bool i) (.bool j)).run P w= .ok () w by simp[eqGuard],Result.andThen_ok,run_eql_bool w xt i j o]
 ·simp only[Prim.ev,aA,Zt]at r2
  subst r2
  refine⟨_,?_,D8 p z (.bool (Cz e.2))⟩
  rw[Sem.run_bind,show(eqGuard .neq xt x y (.bool i) (.bool j)).run P w= .ok () w by simp[eqGuard],Result.andThen_ok,run_neq_bool w xt i j o]
  grind
def N7 (P:Program)(t:TypeId):Bool:=(Mt P t).isSome ||isStr P t||isBool P t
theorem Avw {t:TypeId}{x y:IV}{u v:Value}{d:Nat}{O O':Nat->Prop}(h:N7 P t=true)(a:Rel P w O t x u)(b:Rel P w O' t y v):
  ∃r,IV.Re x y=some r/\(Op.equalIn (d+1) t u v).run P w= .ok r w:=by
 simp only[N7,bO,aE]at h
 rcases h with (⟨k,h⟩ | h) | h
 ·obtain⟨n,rfl,rfl⟩:=a.Ih (Dk h)
  obtain⟨m,rfl,rfl⟩:=b.Ih (Dk h)
  exact⟨_,rfl,run_equalIn_int w d t k k n m (Dk h)⟩
 ·obtain⟨n,rfl,rfl⟩:=a.Is (E4 h)
  obtain⟨m,rfl,rfl⟩:=b.Is (E4 h)
  exact⟨_,rfl,run_equalIn_string w d t n m (E4 h)⟩
 ·obtain⟨n,rfl,rfl⟩:=a.Nz (Cz h)
  obtain⟨m,rfl,rfl⟩:=b.Nz (Cz h)
  exact⟨_,rfl,run_equalIn_bool' w d t n m (Cz h)⟩
theorem Acv {t:TypeId}(h:N7 P t=true):Ak P t=false/\ ∃d,P.underlying t=some d:=by
 simp only[N7,bO,aE]at h
 rcases h with (⟨k,h⟩ | h) | h
 ·exact⟨Afn (Dk h),_,Dk h⟩
 ·exact⟨Aeu (E4 h),_,E4 h⟩
 ·exact⟨Aa0 (Cz h),_,Cz h⟩
theorem Za {d:Nat}{cs ds:Array Value}{O O':Nat->Prop} : ∀ (fs:List Field) (k:Nat) (xs ys:List IV),(∀ (j:Nat) (f:Field),fs[j]?=some f->f.offset=k+j/\(f.name != "_")=true/\N7 P f.type=true)->
  Ix P w O (fs.map (·.type)) xs (cs.toList.drop k)->Ix P w O' (fs.map (·.type)) ys (ds.toList.drop k)->
  ∃r,IV.Qv xs ys=some r/\(Op.eqFields (d+1) cs ds fs).run P w= .ok r w
 | [],k,xs,ys,_,c,e=>by
  have m:=c.len.1
  have z:=e.len.1
  obtain rfl:xs= []:=aM.1 (by grind)
  obtain rfl:ys= []:=aM.1 (by grind)
  exact⟨true,rfl,rfl⟩
 | f::fs,k,xs,ys,o,c,e=>by
  obtain⟨m,z,q⟩:=o 0 f rfl
  cases xs with
  | nil=>exact absurd c.len.1 (by simp)
  | cons x xs=>
   cases ys with
   | nil=>exact absurd e.len.1 (by simp)
   | cons y ys=>
    cases a:cs.toList.drop k with
    | nil=>rw[a]at c;exact c.elim
    | cons u us=>
     cases b:ds.toList.drop k with
     | nil=>rw[b]at e;exact e.elim
     | cons v vs=>
      rw[a]at c;rw[b]at e
      obtain⟨r1,e1,A⟩:=Avw (d:=d) q c.1 e.1
      have g:us=cs.toList.drop (k+1):=by rw[<-bG,a];rfl
      have i:vs=ds.toList.drop (k+1):=by rw[<-bG,b];rfl
      obtain⟨r2,B,C⟩:=Za fs (k+1) xs ys (λj f h=>by
       have:=o (j+1) f (by grind)
       grind) (by rw[<-g];exact c.2) (by rw[<-i];exact e.2)
      refine⟨r1&&r2,by simp[IV.Qv,e1,B],?_⟩
      obtain⟨t,dd,hd⟩:=Acv q
      have F:cs[k]?=some u:=by
       have:=congrArg (λl=>l[0]?) a
       grind
      have G:ds[k]?=some v:=by
       have:=congrArg (λl=>l[0]?) b
       grind
      have H:(part f.type cs f.offset).run P w= .ok u w:=by
       simp[part,Pu hd,t,m,F]
      have I:(part f.type ds f.offset).run P w= .ok v w:=by
       simp[part,Pu hd,t,m,G]
      have J:f.name≠ "_" :=by grind
      simp only[Op.eqFields,J,ne_eq,not_false_eq_true,Zt,Sem.run_bind,H,I,A,Result.andThen_ok]
      cases r1
      ·simp
      ·simpa using C
theorem Af6 {t:TypeId}{fs:Array Field}(b:P.underlying t=some (.struct fs))(h: ∀f∈fs.toList,N7 P f.type=true):leaves P t=some (fs.toList.map (·.type)):=by
 have key: ∀l:List Field,(∀f∈l,N7 P f.type=true)->l.mapM (λf=>Ij P 11 f.type)=some (l.map λf=> [f.type]):=by
  intro l
  induction l with
  | nil=>intro _;rfl
  | cons f l a=>
   intro h
   have c:Ij P 11 f.type=some [f.type]:=by
    obtain⟨e,d,hd⟩:=Acv (h f aS)
    unfold Ij
    rw[hd]
    cases d<;>simp_all[Ak]
   grind
 unfold leaves Ij
 rw[b]
 simp only[key _ h,aN]
 congr 1
 induction fs.toList with
 | nil=>rfl
 | cons f l a=>simp[a]
theorem Ayn {t:TypeId}(h:An0 P t=true): ∃fs,P.underlying t=some (.struct fs)/\leaves P t=some (fs.toList.map (·.type))/\
  (∀ (j:Nat) (f:Field),fs.toList[j]?=some f->f.offset=0+j/\(f.name != "_")=true/\N7 P f.type=true)/\P.stoodInHeld t=false/\P.eqGuardType P.depth t=false:=by
 unfold An0 at h
 split at h
 ·rename_i fs b
  simp only[aB,cB,bP]at h
  obtain⟨⟨d,e⟩,g⟩:=h
  have a: ∀ (j:Nat) (f:Field),fs.toList[j]?=some f->f.offset=0+j/\(f.name != "_")=true/\N7 P f.type=true:=by
   intro j f c
   have:=d (f,j) (by
    grind)
   simp only[beq_iff_eq]at this
   exact⟨by omega,this.1.2,this.2⟩
  refine⟨fs,b,Af6 b (λf c=>?_),a,e,g⟩
  obtain⟨j,i⟩:=cK.1 c
  grind
 ·cases h
theorem A37 {op:BinOp}{xt yt rt:TypeId}{x y:Operand}{b c:Arg}{o:ES}(p:Ph P N X ρ K S μ a w es o)
  (hb:R0 (Bs P X ρ (cur S o.obs) μ w) b xt (a.eval x)) (hc:R0 (Bs P X ρ (cur S o.obs) μ w) c yt (a.eval y)) (C:holds ρ o.gs=some true) (hl:LH R ρ ls)
  (h:Ev S (do
   EM.guard (An0 P xt&&xt == yt&&isBool P rt)
   match op with
   | .eql =>do pure (dat (<-Cb (.eqA false) [b,c]) rt)
   | .neq =>do pure (dat (<-Cb (.eqA true) [b,c]) rt)
   | _=>fail:EM SX) o sx es' ls):
  ∃v,(do eqGuard op xt x y (a.eval x) (a.eval y);binOp op xt (a.eval x) (a.eval y):Sem Value).run P w= .ok v w/\Out P N X ρ K S μ a w es es' sx μ w v:=by
 simp only[Ab,Af]at h
 obtain⟨_,_,_,_,⟨z,rfl,rfl⟩,h,rfl⟩:=h
 simp only[aB,beq_iff_eq]at z
 obtain⟨⟨z,rfl⟩,Y⟩:=z
 obtain⟨fs,Z,F,q,G,t⟩:=Ayn z
 have m:Ak P xt=true:=by simp[Ak,Z]
 have hf:P.underlying xt=some (.struct (P.fieldsOf xt)):=by simp[Program.fieldsOf,Z]
 have H:P.fieldsOf xt=fs:=by grind
 obtain⟨i,hi,I,_⟩:=hb
 obtain⟨j,hj,J,_⟩:=hc
 obtain⟨ts,xs,cs,q1,rfl,hx,L⟩:=I.Afw m
 obtain⟨M,ys,ds,q2,rfl,hy,Q⟩:=J.Afw m
 have e:leaves P xt=some ts:=q1
 have g:leaves P xt=some M:=q2
 rw[F]at e g
 injection e with e;injection g with g
 subst e;subst g
 have T:b.ev ρ=some (.agg xs):=hi
 have U:c.ev ρ=some (.agg ys):=hj
 obtain⟨r,e1,o⟩:=Za (d:=9998) fs.toList 0 xs ys q (by rw[bL];exact L) (by rw[bL];exact Q)
 have heq:(Op.equalIn 10000 xt (.agg cs) (.agg ds)).run P w= .ok r w:=by
  have:=run_equalIn_agg w 9999 xt cs ds hf G
  rw[this,H];exact o
 rw[hx,hy]
 cases op<;>simp only[Ac]at h<;>simp only[Ab,Bt,Ad]at h<;>obtain⟨_,_,_,_,⟨rfl,rfl,rfl⟩,⟨rfl,rfl,rfl⟩,rfl⟩:=h<;>
  obtain⟨vs,iv,r1,r2,r3⟩:=LH.Cb hl.left C<;>obtain⟨u,v,A,B,rfl⟩:=Afz r1<;>rw[T]at A<;>rw[U]at B<;>injection A with A<;>injection B with B<;>subst A<;>subst B
 ·simp only[Prim.ev,e1,aN,aA,aJ,Zf]at r2
  subst r2
  refine⟨_,?_,D8 p r3 (.bool (Cz Y))⟩
  rw[Sem.run_bind,run_eqGuard_agg w .eql xt x y cs ds t,Result.andThen_ok,run_eql_struct w xt cs ds,heq,Result.andThen_ok]
 ·simp only[Prim.ev,e1,aN,aA,Zt]at r2
  subst r2
  refine⟨_,?_,D8 p r3 (.bool (Cz Y))⟩
  rw[Sem.run_bind,run_eqGuard_agg w .neq xt x y cs ds t,Result.andThen_ok,run_neq_struct w xt cs ds,heq,Result.andThen_ok]
theorem A2g {op:BinOp}{xt yt rt:TypeId}{x y:Operand}(G:Good P N X ρ K S.tm (cur S es.obs) μ a w)(h:Ev S (A7w P op xt x y yt rt) es sx es' ls)(e:LH R ρ ls)(m:holds ρ es.gs=some true):
  ∃v,(do eqGuard op xt x y (a.eval x) (a.eval y);binOp op xt (a.eval x) (a.eval y):Sem Value).run P w= .ok v w/\Out P N X ρ K S μ a w es es' sx μ w v:=by
 unfold A7w at h
 rw[Ab]at h
 obtain⟨b,e1,t,_,o,h,rfl⟩:=h
 rw[Ab]at h
 obtain⟨c,q,u,z,r,h,rfl⟩:=h
 obtain⟨p,i,j⟩:=A0s G o r e.left e.right.left m
 have e:=e.right.right
 have d:holds ρ q.gs=some true:=by rw[p.gs];exact m
 split at h
 ·rename_i k g;exact A3g p g i j d e h
 ·rename_i g;exact A1q p g i j d e h
 ·rename_i g;exact A1u p g i j d e h
 ·exact A37 p i j d e h
 ·simp[Ac]at h
end
end Go.CT
namespace Go.CT
open EM
section
variable {P:Program}{N:Nat}{X:Nat->Prop}{R:Job->List IV->Option (List IV)}{ρ:List IV}{K:Nat->Prop}{S:View}{μ:Nat->Value}{a:Act}{w:World}{es es':ES}{ls:List PLt}{sx:SX}
theorem A5v {op:UnOp}{xt rt:TypeId}{x:Operand}(G:Good P N X ρ K S.tm (cur S es.obs) μ a w)(h:Ev S (xUn P op xt x rt) es sx es' ls)(e:LH R ρ ls)(r:holds ρ es.gs=some true):
  ∃v,(Op.unary op (a.eval x)).run P w= .ok v w/\Out P N X ρ K S μ a w es es' sx μ w v:=by
 unfold xUn at h
 rw[Ab]at h
 obtain⟨b,e1,A,B,y,h,rfl⟩:=h
 obtain⟨p,t⟩:=Hh G y e.left r
 have g:holds ρ e1.gs=some true:=by rw[p.gs];exact r
 have e:=e.right
 cases op with
 | not=>
  simp only[Ab,Af,Bt,Ad]at h
  obtain⟨_,_,_,_,⟨j,rfl,rfl⟩,⟨_,_,_,_,⟨rfl,rfl,rfl⟩,⟨rfl,rfl,rfl⟩,rfl⟩,rfl⟩:=h
  simp only[aB]at j
  obtain⟨i,m,o⟩:=t.bool (Cz j.1)
  have d:b.ev ρ=some (.bool i):=m
  obtain⟨vs,iv,r1,r2,q⟩:=LH.Cb e.right.left g
  obtain⟨u,c,rfl⟩:=Asf r1
  rw[d]at c;injection c with c;subst c
  simp only[Prim.ev,aA]at r2;subst r2
  exact⟨_,by rw[o];rfl,D8 p q (.bool (Cz j.2))⟩
 | neg=>
  simp only[Ab,Ar,Af,Bt,Ad]at h
  obtain⟨k,_,_,_,⟨z,rfl,rfl⟩,⟨_,_,_,_,⟨j,rfl,rfl⟩,⟨_,_,_,_,⟨rfl,rfl,rfl⟩,⟨rfl,rfl,rfl⟩,rfl⟩,rfl⟩,rfl⟩:=h
  obtain⟨i,m,o⟩:=t.int (Dk z)
  have d:b.ev ρ=some (.int i):=m
  obtain⟨vs,iv,r1,r2,q⟩:=LH.Cb e.right.right.left g
  obtain⟨u,c,rfl⟩:=Asf r1
  rw[d]at c;injection c with c;subst c
  simp only[Prim.ev,aA]at r2;subst r2
  exact⟨_,by rw[o];rfl,D8 p q (.int (Dk (by simpa using j)))⟩
 | xor=>simp[Ac]at h
 | plus=>simp[Ac]at h
theorem Acb: ∀ (ns:List Int) (l:List UInt8) (acc:ByteArray),(ns.map IV.int).mapM Lo=some l->ns.foldl (λr n=>r.push (dG n.toNat)) acc=⟨(acc.data.toList++l).toArray⟩
 | [],l,acc,h=>by
  simp at h;subst h
  simp
 | n::ns,l,acc,h=>by
  simp only[cR,cO,aY,aG]at h
  cases a:Lo (.int n) with
  | none=>simp[a]at h
  | some b=>
   cases c:(ns.map IV.int).mapM Lo with
   | none=>simp[a,c]at h
   | some d=>
    simp only[a,c,aO,aA]at h
    subst h
    rw[cY,Acb ns d _ c]
    have e:b=dG n.toNat:=by
     simp only[Lo]at a
     split at a
     ·injection a with a;exact a.symm
     ·cases a
    subst e
    simp[ByteArray.push]
theorem Ax8 {src dst:TypeId}{x:Operand}(G:Good P N X ρ K S.tm (cur S es.obs) μ a w)(h:Ev S (A2n P src dst x) es sx es' ls)(z:LH R ρ ls)(hg:holds ρ es.gs=some true):
  ∃v,(convert src dst (a.eval x)).run P w= .ok v w/\Out P N X ρ K S μ a w es es' sx μ w v:=by
 unfold A2n at h
 rw[Ab]at h
 obtain⟨b,e1,l1,l2,h1,h,rfl⟩:=h
 obtain⟨p,L⟩:=Hh G h1 z.left hg
 have B:holds ρ e1.gs=some true:=by rw[p.gs];exact hg
 have z:=z.right
 split at h
 ·rename_i k k' g hd
  simp only[Ab,Bt,Ad]at h
  obtain⟨_,_,_,_,⟨rfl,rfl,rfl⟩,⟨rfl,rfl,rfl⟩,rfl⟩:=h
  obtain⟨i,C,F⟩:=L.int g
  have o:b.ev ρ=some (.int i):=C
  obtain⟨vs,iv,r1,r2,M⟩:=LH.Cb z.left B
  obtain⟨u,d,rfl⟩:=Asf r1
  rw[o]at d;injection d with d;subst d
  simp only[Prim.ev,aA]at r2;subst r2
  refine⟨_,?_,D8 p M (.int hd)⟩
  rw[F]
  simp[convert,underlying,g,hd,Conv.intToInt]
 ·rename_i g hd
  rw[Ad]at h
  obtain⟨rfl,rfl,rfl⟩:=h
  obtain⟨i,C,F⟩:=L.str g
  refine⟨.string i,?_,p.out ⟨_,C,.str hd⟩ (Np _ _)⟩
  rw[F]
  simp[convert,underlying,g,hd]
 ·rename_i e g hd
  simp only[Ab,Af,Bt,Ad]at h
  obtain⟨_,_,_,_,⟨g1,rfl,rfl⟩,⟨_,_,_,_,⟨rfl,rfl,rfl⟩,⟨rfl,rfl,rfl⟩,rfl⟩,rfl⟩:=h
  have Q:P.underlying e=some (.int .u8):=Dk (by simpa using g1)
  obtain⟨iv0,C,_,H⟩:=L
  obtain⟨xs,A,cap,rfl,F,h1,h2,vs0,T,h4⟩:=H e g
  have o:b.ev ρ=some (.list xs):=C
  obtain⟨vs,iv,r1,r2,M⟩:=LH.Cb z.right.left B
  obtain⟨u,d,rfl⟩:=Asf r1
  rw[o]at d;injection d with d;subst d
  simp only[Prim.ev,aI]at r2
  obtain⟨l,r2,rfl⟩:=r2
  -- the numbers
  have hints: ∃ns:List Int,xs=ns.map IV.int/\ ∀j n,ns[j]?=some n->vs0 j= .int .u8 n:=by
   refine⟨xs.map fun | .int n=>n | _=>0,?_,?_⟩
   ·apply bQ
    intro j
    simp only[bX]
    cases c:xs[j]? with
    | none=>rfl
    | some y=>
     obtain⟨n,rfl,_⟩:=(h4 j y c).Ih Q
     rfl
   ·intro j n c
    simp only[bX]at c
    cases U:xs[j]? with
    | none=>simp[U]at c
    | some y=>
     obtain⟨m,rfl,hv⟩:=(h4 j y U).Ih Q
     simp[U]at c;subst c;exact hv
  obtain⟨ns,rfl,I⟩:=hints
  have Y:0<ns.length->Ag P e=1:=by
   intro Z
   obtain⟨ab,ad,_,hc⟩:=T (by simpa using Z)
   have:=(hc 0 (by simpa using Z)).1
   rw[I 0 _ (aQ Z)]at this
   simp[Value.cells]at this
   exact this.symm
  refine⟨.string ⟨l.toArray⟩,?_,D8 p M (.str hd)⟩
  rw[F]
  have q:(convert src dst (.slice A (ns.map IV.int).length cap)).run P w=(Conv.bytesToString (.slice A (ns.map IV.int).length cap)).run P w:=by
   simp[convert,underlying,g,hd,Q]
  rw[q]
  cases A with
  | none=>
   have t:ns= []:=by
    cases ns with
    | nil=>rfl
    | cons n ns=>obtain⟨_,ad,h,_⟩:=T (by simp);cases h
   subst t
   simp at r2;subst r2
   rfl
  | some ad=>
   have r:(loadCells ad (ns.map IV.int).length).run P w= .ok (ns.map (Value.int .u8)).toArray w:=by
    have:=run_loadCells_list (P:=P) w ad (ns.map (Value.int .u8)) (λj u c=>by
     simp only[bX]at c
     cases t:ns[j]? with
     | none=>simp[t]at c
     | some n=>
      simp[t]at c;subst c
      have aa:=(aK.1 t).1
      obtain⟨_,ad',hA,hc⟩:=T (by simp;omega)
      injection hA with hA;subst hA
      have J:E2 w (ad.add (j * Ag P e)) (vs0 j) (Ag P e):=hc j (by simpa using aa)
      rw[I j n t,Y (by omega),Nat.mul_one]at J
      have:=J.2 0 (.int .u8 n) (by simp[Value.cells])
      rwa [Bg]at this)
    simpa using this
   rw[run_bytesToString w ad _ cap ns r,Acb ns l _ r2]
   simp
 ·simp[Ac]at h
theorem A3q {t rt:TypeId}{x:Operand}{ats:Array TypeId}(r:ats= #[t])(G:Good P N X ρ K S.tm (cur S es.obs) μ a w)(h:Ev S (A76 P t x rt) es sx es' ls)(g:LH R ρ ls)(C:holds ρ es.gs=some true):
  ∃v,(Builtin.len_ ats rt #[a.eval x]).run P w= .ok v w/\Out P N X ρ K S μ a w es es' sx μ w v:=by
 subst r
 unfold A76 at h
 rw[Ab]at h
 obtain⟨_,_,_,_,F,h,rfl⟩:=h
 rw[Af]at F
 obtain⟨I,rfl,rfl⟩:=F
 rw[Ab]at h
 obtain⟨b,e1,L,M,J,h,rfl⟩:=h
 obtain⟨p,H⟩:=Hh G J g.right.left C
 have j:holds ρ e1.gs=some true:=by rw[p.gs];exact C
 have g:=g.right.right
 have m:P.underlying rt=some (.int .i64):=Dk (by simpa using I)
 split at h
 ·rename_i o
  simp only[Ab,Bt,Ad]at h
  obtain⟨_,_,_,_,⟨rfl,rfl,rfl⟩,⟨rfl,rfl,rfl⟩,rfl⟩:=h
  obtain⟨i,y,z⟩:=H.str o
  have d:b.ev ρ=some (.str i):=y
  obtain⟨vs,iv,r1,r2,B⟩:=LH.Cb g.left j
  obtain⟨u,c,rfl⟩:=Asf r1
  rw[d]at c;injection c with c;subst c
  simp only[Prim.ev,aA]at r2;subst r2
  refine⟨_,?_,D8 p B (.int m)⟩
  rw[z]
  simp[Builtin.len_,underlying,o,goInt]
 ·rename_i e o
  simp only[Ab,Bt,Ad]at h
  obtain⟨_,_,_,_,⟨rfl,rfl,rfl⟩,⟨rfl,rfl,rfl⟩,rfl⟩:=h
  obtain⟨iv0,y,_,q⟩:=H
  obtain⟨xs,A,cap,rfl,z,_⟩:=q e o
  have d:b.ev ρ=some (.list xs):=y
  obtain⟨vs,iv,r1,r2,B⟩:=LH.Cb g.left j
  obtain⟨u,c,rfl⟩:=Asf r1
  rw[d]at c;injection c with c;subst c
  simp only[Prim.ev,aA]at r2;subst r2
  refine⟨_,?_,D8 p B (.int m)⟩
  rw[z]
  simp[Builtin.len_,underlying,o,goInt]
 ·simp[Ac]at h
theorem Abb {mx:Bool}{t rt:TypeId}{x y:Operand}{ats:Array TypeId}(G:Good P N X ρ K S.tm (cur S es.obs) μ a w)(h:Ev S (Adw P mx t x y rt) es sx es' ls)(d:LH R ρ ls)(A:holds ρ es.gs=some true):
  ∃v,(if mx then Builtin.max_ ats rt #[a.eval x,a.eval y]else Builtin.min_ ats rt #[a.eval x,a.eval y]).run P w= .ok v w/\Out P N X ρ K S μ a w es es' sx μ w v:=by
 unfold Adw at h
 rw[Ab]at h
 obtain⟨k,_,_,_,e,h,rfl⟩:=h
 rw[Ar]at e
 obtain⟨B,rfl,rfl⟩:=e
 rw[Ab]at h
 obtain⟨_,_,_,_,e,h,rfl⟩:=h
 rw[Af]at e
 obtain⟨F,rfl,rfl⟩:=e
 rw[Ab]at h
 obtain⟨b,e1,Z,_,H,h,rfl⟩:=h
 rw[Ab]at h
 obtain⟨c,I,l2,l3,J,h,rfl⟩:=h
 have d:=d.right.right
 obtain⟨p,L,M⟩:=A0s G H J d.left d.right.left A
 have q:holds ρ I.gs=some true:=by rw[p.gs];exact A
 have d:=d.right.right
 have g:P.underlying rt=some (.int k):=Dk (by simpa using F)
 obtain⟨i,Q,T⟩:=L.int (Dk B)
 obtain⟨j,U,Y⟩:=M.int (Dk B)
 have r:b.ev ρ=some (.int i):=Q
 have z:c.ev ρ=some (.int j):=U
 simp only[Ab,Bt,Ad]at h
 obtain⟨_,_,_,_,⟨rfl,rfl,rfl⟩,⟨rfl,rfl,rfl⟩,rfl⟩:=h
 obtain⟨vs,iv,r1,r2,C⟩:=LH.Cb d.left q
 obtain⟨u,v,m,o,rfl⟩:=Afz r1
 rw[r]at m;rw[z]at o
 injection m with m;injection o with o;subst m;subst o
 rw[T,Y]
 cases mx with
 | true=>
  simp only[Zt,Prim.ev,aA]at r2
  subst r2
  refine⟨_,?_,D8 p C (.int g)⟩
  simp[Builtin.max_,Builtin.max2]
 | false=>
  simp only[aJ,Zf,Prim.ev,aA]at r2
  subst r2
  refine⟨_,?_,D8 p C (.int g)⟩
  simp[Builtin.min_,Builtin.min2]
theorem Ys {cv:Arg}{want:Bool}{x:Operand}{t:TypeId}{y:Arg}(G:Good P N X ρ K S.tm (cur S es.obs) μ a w)(h:Ev S (Qt P cv want x t) es y es' ls)(q:holds ρ es.gs=some true)
  (r:cv.ev ρ=some (.bool want)):Vr (Bs P X ρ (cur S es.obs) μ w) y t (a.eval x):=by
 unfold Qt at h
 cases x with
 | tmp s=>
  simp only[Ab,Oh,Jr,Af]at h
  obtain⟨v,_,_,_,⟨rfl,rfl,rfl⟩,⟨gs,_,_,_,⟨rfl,rfl,rfl⟩,⟨_,_,_,_,⟨d,rfl,rfl⟩,e,rfl⟩,rfl⟩,rfl⟩:=h
  have j:holds ρ ((cv,want)::es.gs)=some true:=by rw[holds,r];simpa using q
  have o:=(G.slot s).use (Mi d j)
  split at e
  ·rename_i b u z
   rw[z]at o
   simp only[Ab,Af,Ad]at e
   obtain⟨_,_,_,_,⟨A,rfl,rfl⟩,⟨rfl,rfl,rfl⟩,rfl⟩:=e
   have:t=u:=by simpa using A
   subst this
   exact o
  ·simp[Ac]at e
 | const k=>
  simp only[Ab,Ar]at h
  obtain⟨v,_,_,_,⟨d,rfl,rfl⟩,e,rfl⟩:=h
  split at e
  ·rename_i b u
   rw[Ad]at e
   obtain⟨rfl,rfl,rfl⟩:=e
   have B:=Q0 (c:=Bs P X ρ (cur S es.obs) μ w) d
   obtain⟨iv,d1,d2⟩:=B.1
   refine⟨iv,d1,?_⟩
   -- its type is the wanted one
   have:u=t:=by
    unfold O5 at d
    split at d
    ·split at d
     ·simp only[aY,aG]at d
      cases i:leaves P t with
      | none=>simp[i]at d
      | some ts=>cases m:E5 P ts (by assumption:Array Value).toList<;>simp[i,m]at d
     ·cases d
    ·split at d
     ·cases d
     ·simp only[aI]at d
      obtain⟨l,d,e⟩:=d
      injection e with e;subst e
      unfold N4 at d
      split at d<;> (try split at d)<;>simp_all
   subst this
   exact d2
  ·simp[Ac]at e
 | func f=>simp[Ac]at h
 | global g=>simp[Ac]at h
theorem Zk {cv:Arg}{want:Bool}{x:Operand}{t:TypeId}{y:Arg}(h:Ev S (Qt P cv want x t) es y es' ls):es=es'/\ls= []:=by
 unfold Qt at h
 cases x with
 | tmp s=>
  simp only[Ab,Oh,Jr,Af]at h
  obtain⟨v,_,_,_,⟨rfl,rfl,rfl⟩,⟨gs,_,_,_,⟨rfl,rfl,rfl⟩,⟨_,_,_,_,⟨b,rfl,rfl⟩,a,rfl⟩,rfl⟩,rfl⟩:=h
  split at a
  ·simp only[Ab,Af,Ad]at a
   obtain⟨_,_,_,_,⟨c,rfl,rfl⟩,⟨rfl,rfl,rfl⟩,rfl⟩:=a
   exact⟨rfl,rfl⟩
  ·simp[Ac]at a
 | const k=>
  simp only[Ab,Ar]at h
  obtain⟨v,_,_,_,⟨b,rfl,rfl⟩,a,rfl⟩:=h
  split at a
  ·rw[Ad]at a
   obtain⟨rfl,rfl,rfl⟩:=a
   exact⟨rfl,rfl⟩
  ·simp[Ac]at a
 | func f=>simp[Ac]at h
 | global g=>simp[Ac]at h
theorem Azn {c x y:Operand}{rt:TypeId}(G:Good P N X ρ K S.tm (cur S es.obs) μ a w)(h:Ev S (A3o P c x y rt) es sx es' ls)(g:LH R ρ ls)(m:holds ρ es.gs=some true):
  ∃v,(do pure (if <-asBool (a.eval c) then a.eval x else a.eval y):Sem Value).run P w= .ok v w/\Out P N X ρ K S μ a w es es' sx μ w v:=by
 unfold A3o at h
 rw[Ab]at h
 obtain⟨_,_,_,_,o,h,rfl⟩:=h
 rw[Af]at o
 obtain⟨A,rfl,rfl⟩:=o
 rw[Ab]at h
 obtain⟨cv,e1,L,_,B,h,rfl⟩:=h
 obtain⟨p,C⟩:=Hh G B g.right.left m
 have d:holds ρ e1.gs=some true:=by rw[p.gs];exact m
 have g:=g.right.right
 rw[Ab]at h
 obtain⟨xv,M,Q,_,r,h,rfl⟩:=h
 obtain⟨rfl,rfl⟩:=Zk r
 rw[Ab]at h
 obtain⟨yv,T,U,_,t,h,rfl⟩:=h
 obtain⟨rfl,rfl⟩:=Zk t
 simp only[Ab,Bt,Ad]at h
 obtain⟨_,_,_,_,⟨rfl,rfl,rfl⟩,⟨rfl,rfl,rfl⟩,rfl⟩:=h
 obtain⟨i,F,H⟩:=C.bool (Cz A)
 have e:cv.ev ρ=some (.bool i):=F
 obtain⟨vs,iv,r1,r2,z⟩:=LH.Cb g.right.right.left d
 obtain⟨u,s,q,j,I,J,rfl⟩:=A1r r1
 rw[e]at j;injection j with j;subst j
 simp only[Prim.ev,aA]at r2
 rw[H]
 cases i with
 | true=>
  simp only[Zt]at r2;subst r2
  obtain⟨iv,d1,d2⟩:=Ys p.C8 r d e
  have b:xv.ev ρ=some iv:=d1
  rw[I]at b;injection b with b;subst b
  exact⟨_,by simp[asBool],D8 p z d2⟩
 | false=>
  simp only[aJ,Zf]at r2;subst r2
  obtain⟨iv,d1,d2⟩:=Ys p.C8 t d e
  have b:yv.ev ρ=some iv:=d1
  rw[J]at b;injection b with b;subst b
  exact⟨_,by simp[asBool],D8 p z d2⟩
end
end Go.CT
namespace Go.CT
open EM
section
variable {P:Program}{N:Nat}{X:Nat->Prop}{R:Job->List IV->Option (List IV)}{ρ:List IV}{K:Nat->Prop}{S:View}{μ:Nat->Value}{a:Act}{w:World}{es es':ES}{ls:List PLt}{sx:SX}
theorem Eo.len {c:Cx} : ∀ {ls:List LV} {vs:List Value},Eo c ls vs->ls.length=vs.length
 | [],[],_=>rfl
 | _::_,_::_,h=>by simp[Eo.len h.2]
 | [],_::_,h=>h.elim
 | _::_,[],h=>h.elim
theorem Eo.get {c:Cx} : ∀ {ls:List LV} {vs:List Value},Eo c ls vs-> ∀ (i:Nat) (l:LV) (v:Value),ls[i]?=some l->vs[i]?=some v->A60 c l v
 | [],[],_=>by simp
 | l::ls,v::vs,h=>by
  intro i d e a b
  cases i with
  | zero=>simp at a b;subst a;subst b;exact h.1
  | succ i=>exact Eo.get h.2 i d e (by grind) (by grind)
 | [],_::_,h=>h.elim
 | _::_,[],h=>h.elim
theorem Eo.drop {c:Cx} : ∀ {ls:List LV} {vs:List Value} (n:Nat),Eo c ls vs->Eo c (ls.drop n) (vs.drop n)
 | [],[],n,_=>by simp[Eo]
 | l::ls,v::vs,0,h=>h
 | l::ls,v::vs,n+1,h=>by simpa using Eo.drop n h.2
 | [],_::_,_,h=>h.elim
 | _::_,[],_,h=>h.elim
theorem Eo.take {c:Cx} : ∀ {ls:List LV} {vs:List Value} (n:Nat),Eo c ls vs->Eo c (ls.take n) (vs.take n)
 | [],[],n,_=>by simp[Eo]
 | l::ls,v::vs,0,h=>by simp[Eo]
 | l::ls,v::vs,n+1,h=>⟨h.1,Eo.take n h.2⟩
 | [],_::_,_,h=>h.elim
 | _::_,[],_,h=>h.elim
theorem Eo.append {c:Cx} : ∀ {ls:List LV} {vs:List Value} {ls':List LV} {a:List Value},Eo c ls vs->Eo c ls' a->Eo c (ls++ls') (vs++a)
 | [],[],_,_,_,h'=>h'
 | _::_,_::_,_,_,h,h'=>⟨h.1,Eo.append h.2 h'⟩
 | [],_::_,_,_,h,_=>h.elim
 | _::_,[],_,_,h,_=>h.elim
theorem Eo.one {c:Cx} : ∀ {ls:List LV} {vs:List Value},Eo c ls vs-> ∀u∈vs,u.oneCell'=true
 | [],[],_=>by simp
 | _::_,_::_,h=>by
  intro u a
  rcases cQ.1 a with rfl | a
  ·exact h.1.1
  ·exact Eo.one h.2 u a
 | [],_::_,h=>h.elim
 | _::_,[],h=>h.elim
theorem Aav.one {c:Cx}{l:LV}{v:Value}(h:Aav c l v)(o:l≠ .junk)(d: ∀x t,l= .at x t->Ak c.P t=false):v.oneCell'=true/\v.cells= #[v]:=by
 cases l with
 | «at» x t=>obtain⟨iv,_,m⟩:=h;exact m.one (d x t rfl)
 | nil t=>have h:v= .slice none 0 0:=h;subst h;exact⟨rfl,rfl⟩
 | ref k t=>obtain⟨_,A,n,cap,rfl⟩:=h;exact⟨rfl,rfl⟩
 | sub k lo q t=>obtain⟨A,n,cap,l,r,e,_,_,_,_,_,_,rfl⟩:=h;exact⟨rfl,rfl⟩
 | ptr p=>
  cases p with
  | p k off=>obtain⟨b,_,rfl⟩:=h;exact⟨rfl,rfl⟩
  | el k e i off=>obtain⟨g,n,cap,j,_,_,_,rfl⟩:=h;exact⟨rfl,rfl⟩
  | im x t off=>obtain⟨ad,u,_,_,_,_,rfl⟩:=h;exact⟨rfl,rfl⟩
 | fn f w=>obtain⟨vs,rfl,_⟩:=h;exact⟨rfl,rfl⟩
 | mref k t=>obtain⟨_,r,rfl⟩:=h;exact⟨rfl,rfl⟩
 | hid k=>rcases h with rfl | ⟨_,a,rfl⟩<;>exact⟨rfl,rfl⟩
 | cl x t=>obtain⟨_,A,n,rfl⟩:=h;exact⟨rfl,rfl⟩
 | st x t=>obtain⟨_,ys,A,cap,_,rfl,_⟩:=h;exact⟨rfl,rfl⟩
 | junk=>grind
theorem Ank {x:Arg} : ∀ {ts:List TypeId} {i:Nat} {es es':ES} {lvs:List LV} {ls:List PLt} {xs:List IV} {cs:List Value},Ev S (projs x ts i) es lvs es' ls->LH R ρ ls->holds ρ es.gs=some true->
  x.ev ρ=some (.agg xs)->Ix P w (Bs P X ρ (cur S es.obs) μ w).O ts (xs.drop i) cs->(∀u∈ts,Ak P u=false)->
  (∃n,es'= {es with n})/\Eo (Bs P X ρ (cur S es.obs) μ w) lvs cs/\lvs.flatMap Bf= []
 | [],i,es,es',lvs,ls,xs,cs,h,_,_,_,b,_=>by
  unfold projs at h
  rw[Ad]at h
  obtain⟨rfl,rfl,rfl⟩:=h
  have:=b.len
  have:cs= []:=aM.1 (by grind)
  subst this
  exact⟨⟨es.n,rfl⟩,trivial,rfl⟩
 | t::ts,i,es,es',lvs,ls,xs,cs,h,g,j,m,b,o=>by
  unfold projs at h
  simp only[Ab,Bt,Ad]at h
  obtain⟨_,_,_,_,⟨rfl,rfl,rfl⟩,⟨r,H,I,_,q,⟨rfl,rfl,rfl⟩,rfl⟩,rfl⟩:=h
  cases a:xs.drop i with
  | nil=>rw[a]at b;exact b.elim
  | cons y ys=>
   cases cs with
   | nil=>rw[a]at b;exact b.elim
   | cons c cs=>
    rw[a]at b
    obtain⟨vs,iv,r1,r2,z⟩:=LH.Cb g.left j
    obtain⟨u,d,rfl⟩:=Asf r1
    rw[m]at d;injection d with d;subst d
    have A:xs[i]?=some y:=by
     have:=congrArg (λl=>l[0]?) a
     grind
    have e:ys=xs.drop (i+1):=by rw[<-bG,a];rfl
    simp only[Prim.ev,aJ,Zf]at r2
    rw[A]at r2;injection r2 with r2;subst r2
    obtain⟨⟨n,B⟩,C,F⟩:=Ank (es:= {es with n:=es.n+1}) q g.right.left j m (by rw[<-e];exact b.2) (λu G=>o u (aV _ G))
    refine⟨⟨n,B⟩,⟨⟨(b.1.one (o t aS)).1,_,z,b.1⟩,C⟩,?_⟩
    rw[aP,F];rfl
theorem Km {vv:VV}{lvs:List LV}{v:Value}(h:Ev S (Pg P vv) es lvs es' ls)(q:LH R ρ ls)(r:holds ρ es.gs=some true)(j: ∀k∈Ay vv,K k)
  (d:Mq (Bs P X ρ (cur S es.obs) μ w) vv v):
  (∃n,es'= {es with n})/\Eo (Bs P X ρ (cur S es.obs) μ w) lvs v.cells.toList/\(∀k∈lvs.flatMap Bf,K k):=by
 unfold Pg at h
 cases vv with
 | agg t cs=>
  rw[Ad]at h
  obtain⟨rfl,rfl,rfl⟩:=h
  obtain⟨us,rfl,y⟩:=d
  exact⟨⟨es.n,rfl⟩,y,j⟩
 | leaf l=>
  have lone:l≠ .junk ->(∀x t,l= .at x t->Ak P t=false)->Ev S (pure [l]:EM (List LV)) es lvs es' ls->
    (∃n,es'= {es with n})/\Eo (Bs P X ρ (cur S es.obs) μ w) lvs v.cells.toList/\(∀k∈lvs.flatMap Bf,K k):=by
   intro z e h
   rw[Ad]at h
   obtain⟨rfl,rfl,rfl⟩:=h
   have b:=Aav.one (c:=Bs P X ρ (cur S es.obs) μ w) d z e
   refine⟨⟨es.n,rfl⟩,?_,λk m=>j k (by simpa [Ay]using m)⟩
   rw[b.2]
   exact⟨⟨b.1,d⟩,trivial⟩
  cases l with
  | «at» x t=>
   simp only[Iz]at h
   rcases h with⟨e,h⟩ | ⟨e,h⟩
   ·simp only[Ab,Ar]at h
    obtain⟨ts,_,_,_,⟨b,rfl,rfl⟩,A,rfl⟩:=h
    obtain⟨iv,d1,d2⟩:=d
    obtain⟨g,xs,cs,B,rfl,rfl,C⟩:=d2.Afw e
    have a:leaves P t=some g:=B
    rw[b]at a;injection a with a;subst a
    obtain⟨F,G,I⟩:=Ank (xs:=xs) (cs:=cs.toList) A q r d1 (by rw[bL];exact C) (λu H=>by
     obtain⟨i,o⟩:=cK.1 H
     exact Gj b i u o)
    exact⟨F,G,λk m=>by grind⟩
   grind
  | junk=>simp[Ac]at h
  | nil t=>exact lone (by simp) (by simp) h
  | ref k t=>exact lone (by simp) (by simp) h
  | sub k lo o t=>exact lone (by simp) (by simp) h
  | ptr p=>exact lone (by simp) (by simp) h
  | fn f J=>exact lone (by simp) (by simp) h
  | mref k t=>exact lone (by simp) (by simp) h
  | hid k=>exact lone (by simp) (by simp) h
  | cl x t=>exact lone (by simp) (by simp) h
  | st x t=>exact lone (by simp) (by simp) h
theorem Aim (cs:Array Value)(i n:Nat):(cs.extract i (i+n)).toList =(cs.toList.drop i).take n:=by
 simp_all
theorem An1 {t0 t:TypeId}{vv r:VV}{off:Nat}{v:Value}(h:Ev S (Ajj P t0 vv off t) es r es' ls)(G:LH R ρ ls)(H:holds ρ es.gs=some true)(o: ∀k∈Ay vv,K k)
  (q:Mq (Bs P X ρ (cur S es.obs) μ w) vv v) (B:v.cells.size=Ag P t0) (I:if Ak P t0 then ∃cs,v= .agg cs else v.oneCell'=true):
  (∃n,es'= {es with n})/\Mq (Bs P X ρ (cur S es.obs) μ w) r (Qa P t v.cells off)/\(∀k∈Ay r,K k)/\
   (Ak P t=true->off+Ag P t<=v.cells.size)/\(Ak P t=false->off<v.cells.size):=by
 unfold Ajj at h
 have onecells:v.oneCell'=true->v.cells= #[v]:=by intro h;cases v<;>simp_all[Value.cells,Value.oneCell']
 cases vv with
 | agg Y cs=>
  obtain⟨us,rfl,d⟩:=q
  simp only[Iz]at h
  rcases h with⟨j,h⟩ | ⟨j,h⟩
  ·simp only[Ab,Af,Ad]at h
   obtain⟨_,_,_,_,⟨a,rfl,rfl⟩,⟨rfl,rfl,rfl⟩,rfl⟩:=h
   simp only[decide_eq_true_eq]at a
   have hlen:=d.len
   refine⟨⟨es.n,rfl⟩,⟨us.extract off (off+Ag P t),by simp[Qa,j,Value.cells],?_⟩,λk g=>o k ?_,λ_=>?_,λh=>by grind⟩
   ·rw[Aim];exact(d.drop off).take _
   ·simp only[Ay,bB]at g ⊢
    grind
   ·simp only[Value.cells];grind
  ·have e:Ak P t=false:=by grind
   simp only[Ab,Ar,Ad]at h
   obtain⟨l,_,_,_,⟨a,rfl,rfl⟩,⟨rfl,rfl,rfl⟩,rfl⟩:=h
   have J:=(aK.1 a).1
   have hlen:=d.len
   have i:off<us.size:=by grind
   refine⟨⟨es.n,rfl⟩,?_,λk g=>o k ?_,λh=>by grind,λ_=>i⟩
   ·have:=(d.get off l us[off] a (by simp[i])).2
    show Aav _ l _
    simpa [Qa,e,Value.cells,dB,i]using this
   ·simp only[Ay,bB]at g ⊢
    grind
 | leaf l=>
  have lone:l≠ .junk \/v.oneCell'=true->(∀x u,l≠ .at x u)->Ev S (do
    EM.guard (off == 0&& !Ak P t)
    pure (.leaf l):EM VV) es r es' ls->v.oneCell'=true->
    (∃n,es'= {es with n})/\Mq (Bs P X ρ (cur S es.obs) μ w) r (Qa P t v.cells off)/\(∀k∈Ay r,K k)/\
     (Ak P t=true->off+Ag P t<=v.cells.size)/\(Ak P t=false->off<v.cells.size):=by
   intro _ _ h L
   simp only[Ab,Af,Ad]at h
   obtain⟨_,_,_,_,⟨a,rfl,rfl⟩,⟨rfl,rfl,rfl⟩,rfl⟩:=h
   simp only[aB,beq_iff_eq,bP]at a
   obtain⟨rfl,e⟩:=a
   have d:=onecells L
   refine⟨⟨es.n,rfl⟩,?_,o,λh=>by grind,λ_=>by grind⟩
   have:Qa P t v.cells 0=v:=by rw[d];simp[Qa,e]
   grind
  have C: ∀ (_:l≠ .junk) (_: ∀x u,l≠ .at x u),v.oneCell'=true:=λM z=>(Aav.one (c:=Bs P X ρ (cur S es.obs) μ w) q M (λx u N=>absurd N (z x u))).1
  cases l with
  | «at» x F=>
   simp only[Ab,Af]at h
   obtain⟨_,_,_,_,⟨Z,rfl,rfl⟩,h,rfl⟩:=h
   have:F=t0:=by grind
   subst this
   obtain⟨iv,d1,d2⟩:=q
   simp only[Iz]at h
   rcases h with⟨j,h⟩ | ⟨j,h⟩
   ·rcases h with⟨d,h⟩ | ⟨d,h⟩
    ·rw[Ad]at h
     obtain⟨rfl,rfl,rfl⟩:=h
     simp only[aB,beq_iff_eq]at d
     obtain⟨rfl,rfl⟩:=d
     refine⟨⟨es.n,rfl⟩,?_,λk g=>by grind,λ_=>by omega,λh=>by grind⟩
     have d2:Rel P w (λb=>X b\/Wr (cur S es.obs) μ b) t iv v:=d2
     rw[Rel.Ab4 d2 B]
     exact⟨iv,d1,d2⟩
    ·simp only[Ab,Af,Bt,Ad]at h
     obtain⟨_,_,_,_,⟨a,rfl,rfl⟩,⟨_,_,_,_,⟨rfl,rfl,rfl⟩,⟨rfl,rfl,rfl⟩,rfl⟩,rfl⟩:=h
     obtain⟨vs,y,r1,r2,Q⟩:=LH.Cb G.right.left H
     obtain⟨u,m,rfl⟩:=Asf r1
     have A:x.ev ρ=some iv:=d1
     rw[A]at m;injection m with m;subst m
     obtain⟨T,q2,U⟩:=Rel.Qa d2 j a r2
     exact⟨⟨es.n+1,rfl⟩,⟨y,Q,T⟩,λk g=>by simp[Ay,Bf]at g,λ_=>U,λ_=>by
      omega⟩
   ·have e:Ak P F=false:=by grind
    simp only[Ab,Af,Ad]at h
    obtain⟨_,_,_,_,⟨a,rfl,rfl⟩,⟨rfl,rfl,rfl⟩,rfl⟩:=h
    simp only[aB,beq_iff_eq]at a
    obtain⟨rfl,rfl⟩:=a
    refine⟨⟨es.n,rfl⟩,?_,λk g=>by grind,λh=>by omega,λ_=>by grind⟩
    have d2:Rel P w (λb=>X b\/Wr (cur S es.obs) μ b) t iv v:=d2
    rw[Rel.Ab4 d2 B]
    exact⟨iv,d1,d2⟩
  | junk=>simp[Ac]at h
  | nil t=>simp_all
  | ref k t=>simp_all
  | sub k lo hi t=>simp_all
  | ptr p=>simp_all
  | fn f ps=>simp_all
  | mref k t=>simp_all
  | hid k=>simp_all
  | cl x t=>simp_all
  | st x t=>simp_all
end
end Go.CT
namespace Go.CT
open EM
theorem Afv {w:World}{b:Nat}{v:Value}{t:TypeId}{fr:Nat × Nat}(h:w.heap[b]?=some (.cells v.cells t fr)):E2 w ⟨b,0,none⟩ v v.cells.size:=by
 refine⟨rfl,λi u c=>?_⟩
 have a:(⟨b,0,none⟩:Addr).add i=⟨b,i,none⟩:=by unfold Addr.add;grind
 rw[a]
 simp[World.cell?,h,c]
theorem Amx.at_ {P:Program}{w:World}{O:Nat->Prop}{e:TypeId}{xs:List IV}{A:Option Addr}{c:Nat}(h:Amx P w O e xs A c){j:Nat}{x:IV}(a:xs[j]?=some x):
  ∃ad v,A=some ad/\0<Ag P e/\E2 w (ad.add (j * Ag P e)) v (Ag P e)/\Rel P w O e x v:=by
 obtain⟨b,d,vs,g,i⟩:=h
 grind
theorem Rel.A3c {P:Program}{w:World}{O:Nat->Prop}{t:TypeId}{x:IV}{v:Value}(h:Rel P w O t x v):if Ak P t then ∃cs,v= .agg cs else v.oneCell'=true:=by
 by_cases b:Ak P t=true
 ·simp only[b,Zt]
  obtain⟨_,_,cs,_,_,rfl,_⟩:=h.J5 b
  grind
 ·have a:Ak P t=false:=by grind
  simp only[a,aJ,Zf]
  exact(h.one a).1
theorem Qs {ρ:List IV}{c i:Arg}{xs:List IV}{j:Int}{vs:List IV}{y:IV}(d:c.ev ρ=some (.list xs))(e:i.ev ρ=some (.int j))(g:Arg.evs ρ [c,i]=some vs)(h:Prim.ev .index vs=some y):
  0<=j/\xs[j.toNat]?=some y:=by
 obtain⟨u,v,a,b,rfl⟩:=Afz g
 rw[d]at a;rw[e]at b
 injection a with a;injection b with b
 subst a;subst b
 simp only[Prim.ev]at h
 grind
section
variable {P:Program}{N:Nat}{X:Nat->Prop}{R:Job->List IV->Option (List IV)}{ρ:List IV}{K:Nat->Prop}{S:View}{μ:Nat->Value}{a:Act}{w:World}{es es':ES}{ls:List PLt}{sx:SX}
theorem Aof {p:PV}{t:TypeId}{r:VV}{v:Value}(G:Good P N X ρ K S.tm (cur S es.obs) μ a w)(h:Ev S (Avk P p t) es r es' ls)(m:LH R ρ ls)(U:holds ρ es.gs=some true)
  (hp:Af0 (Bs P X ρ (cur S es.obs) μ w) p v):
  ∃u,(Instr.loadAt t v).run P w= .ok u w/\(∃n,es'= {es with n})/\Mq (Bs P X ρ (cur S es.obs) μ w) r u/\ ∀k∈Ay r,K k:=by
 unfold Avk at h
 rw[Ab]at h
 obtain⟨_,_,_,_,Y,h,rfl⟩:=h
 rw[Af]at Y
 obtain⟨g0,rfl,rfl⟩:=Y
 have m:=m.right
 obtain⟨d,hd⟩:=aE.1 g0
 -- the last step is alike
 have fin: ∀ {ad:Addr} {u:Value} {off sz:Nat} {t0:TypeId} {vv:VV} {e1:ES} {F:List PLt},(∃n,e1= {es with n})->E2 w ad u sz->sz=Ag P t0->v= .pointer (some (ad.add off))->
   Ev S (Ajj P t0 vv off t) e1 r es' F->LH R ρ F->(∀k∈Ay vv,K k)->Mq (Bs P X ρ (cur S es.obs) μ w) vv u->(if Ak P t0 then ∃cs,u= .agg cs else u.oneCell'=true)->
   ∃u,(Instr.loadAt t v).run P w= .ok u w/\(∃n,es'= {es with n})/\Mq (Bs P X ρ (cur S es.obs) μ w) r u/\ ∀k∈Ay r,K k:=by
  intro ad u off sz t0 vv e1 F he B H hv h m hk hr ha
  obtain⟨n,rfl⟩:=he
  obtain⟨⟨n',hn⟩,I,J,L,Z⟩:=An1 (es:= {es with n}) h m U hk hr (by rw[B.1,H]) ha
  refine⟨Qa P t u.cells off,?_,⟨n',hn⟩,I,J⟩
  subst hv
  unfold Instr.loadAt Instr.sureAddr
  simp only[Sem.run_bind,Sem.run_pure,Result.andThen_ok]
  exact Wk hd B (by rw[<-B.1];exact L) (by rw[<-B.1];exact Z)
 cases p with
 | p k off=>
  simp only[Ab,B6]at h
  obtain⟨o,_,_,l2,⟨C,rfl,rfl⟩,h,rfl⟩:=h
  cases o with
  | box t0 vv=>
   obtain⟨b,u,h1,h2,h3,h4,h5,h6⟩:=G.obj k _ C
   obtain⟨b',p1,q⟩:=hp
   have hb:b'=b:=by
    grind
   subst hb
   exact fin ⟨es.n,rfl⟩ (Afv h2) h3 q h m ((G.ko k _ C).2) h6 h4
  | arr=>simp[Ac]at h
  | frz=>simp[Ac]at h
  | iter=>simp[Ac]at h
  | mp=>simp[Ac]at h
 | el k e i off=>
  simp only[Ab,B6]at h
  obtain⟨o,_,_,l2,⟨C,rfl,rfl⟩,h,rfl⟩:=h
  cases o with
  | box=>simp[Ac]at h
  | arr e' tt c=>
   simp only[Ab,Af,Bt]at h
   obtain⟨_,_,_,_,⟨g1,rfl,rfl⟩,⟨_,_,_,_,⟨rfl,rfl,rfl⟩,h,rfl⟩,rfl⟩:=h
   have:e=e':=by grind
   subst this
   obtain⟨ivs,A,cap,I,J,L,Z,q5⟩:=G.Asb C
   obtain⟨g,n,cap',j,p1,q,p3,p4⟩:=hp
   have z:μ k= .slice (some ⟨g,0,none⟩) n cap':=p1
   rw[J]at z;injection z with i1 i2 i3
   subst i1;subst i2;subst i3
   obtain⟨vs,y,r1,r2,r3⟩:=LH.Cb m.right.left U
   obtain⟨_,s1⟩:=Qs I q r1 r2
   obtain⟨ad,u,M,t2,t3,t4⟩:=L.at_ s1
   injection M with M;subst M
   have Q:E2 w ((⟨g,0,none⟩:Addr).add (j * Ag P e)) u (Ag P e):=by grind
   refine fin (e1:= {es with n:=es.n+1}) ⟨es.n+1,rfl⟩ Q rfl ?_ h m.right.right (λk T=>by simp[Ay,Bf]at T) ⟨y,r3,t4⟩ t4.A3c
   rw[Em];exact p4
  | frz=>simp[Ac]at h
  | iter=>simp[Ac]at h
  | mp=>simp[Ac]at h
 | im x t0 off=>
  obtain⟨ad,u,⟨iv,d1,d2⟩,q,p3,p4,p5⟩:=hp
  exact fin ⟨es.n,rfl⟩ q rfl p5 h m (λk T=>by simp[Ay,Bf]at T) ⟨iv,d1,d2⟩ d2.A3c
theorem An8 {vv:VV}{p:PV}(h:Ev S (Aaj vv) es p es' ls):es=es'/\ls= []/\vv= .leaf (.ptr p):=by
 unfold Aaj at h
 split at h
 ·rw[Ad]at h;grind
 ·simp[Ac]at h
theorem S4 {x:Operand}{t:TypeId}{vv:VV}{p:PV}{e1 b:ES}{c d:List PLt}(G:Good P N X ρ K S.tm (cur S es.obs) μ a w)(e:Ev S (rd1 P x t) es vv e1 c)(g:Ev S (Aaj vv) e1 p b d)(h:holds ρ es.gs=some true):
  es=b/\c= []/\d= []/\Af0 (Bs P X ρ (cur S es.obs) μ w) p (a.eval x)/\ ∀k∈Eg p,K k:=by
 obtain⟨rfl,rfl,i,j⟩:=G9 G e h
 obtain⟨rfl,rfl,rfl⟩:=An8 g
 exact⟨rfl,rfl,rfl,i,j⟩
theorem Axu {t:TypeId}{x:Operand}(G:Good P N X ρ K S.tm (cur S es.obs) μ a w)(h:Ev S (do
   let p <-Aaj (<-rd1 P x 0)
   pure (.one (<-Avk P p t)):EM SX) es sx es' ls) (c:LH R ρ ls) (b:holds ρ es.gs=some true):
  ∃v,(Instr.loadAt t (a.eval x)).run P w= .ok v w/\Out P N X ρ K S μ a w es es' sx μ w v:=by
 rw[Ab]at h
 obtain⟨vv,e1,o,_,d,h,rfl⟩:=h
 rw[Ab]at h
 obtain⟨p,q,y,_,e,h,rfl⟩:=h
 obtain⟨rfl,rfl,rfl,hp,z⟩:=S4 G d e b
 rw[Ab]at h
 obtain⟨r,A,B,_,g,h,rfl⟩:=h
 rw[Ad]at h
 obtain⟨rfl,rfl,rfl⟩:=h
 obtain⟨u,i,⟨n,rfl⟩,j,m⟩:=Aof G g c.right.right.left b hp
 exact⟨u,i,Ph.out (es':= {es with n}) (.same G rfl rfl rfl) j m⟩
theorem Af0.plus {c:Cx}{p:PV}{v:Value}{o:Nat}(h:Af0 c p v): ∃ad,v= .pointer (some ad)/\Af0 c (p.plus o) (.pointer (some (ad.add o))):=by
 cases p with
 | p k off=>
  obtain⟨b,a,rfl⟩:=h
  exact⟨_,rfl,b,a,by rw[Em]⟩
 | el k e i off=>
  obtain⟨g,n,cap,j,a,d,m,rfl⟩:=h
  exact⟨_,rfl,g,n,cap,j,a,d,m,by rw[Em,dE]⟩
 | im x t off=>
  obtain⟨ad,u,a,d,m,q,rfl⟩:=h
  exact⟨_,rfl,ad,u,a,d,m,q,by rw[Em]⟩
theorem Aho (p:PV)(o:Nat):Eg (p.plus o)=Eg p:=by cases p<;>rfl
theorem Ad0 {s:TypeId}{x:Operand}{f:Nat}(G:Good P N X ρ K S.tm (cur S es.obs) μ a w)(h:Ev S (do
   let p <-Aaj (<-rd1 P x 0)
   match P.underlying s with
   | some (.struct fs)=>do
    let fl <-ofOption fs[f]?
    EM.guard (decide (0<Ag P fl.type))
    pure (one (.leaf (.ptr (p.plus fl.offset))))
   | _=>fail:EM SX) es sx es' ls) (e:holds ρ es.gs=some true):
  ∃v,(Instr.fieldAt s (a.eval x) f).run P w= .ok v w/\Out P N X ρ K S μ a w es es' sx μ w v:=by
 rw[Ab]at h
 obtain⟨vv,e1,z,_,g,h,rfl⟩:=h
 rw[Ab]at h
 obtain⟨p,A,B,_,j,h,rfl⟩:=h
 obtain⟨rfl,rfl,rfl,hp,m⟩:=S4 G g j e
 split at h
 ·rename_i fs q
  simp only[Ab,Ar,Af,Ad]at h
  obtain⟨fl,_,_,_,⟨r,rfl,rfl⟩,⟨_,_,_,_,⟨d,rfl,rfl⟩,⟨rfl,rfl,rfl⟩,rfl⟩,rfl⟩:=h
  simp only[decide_eq_true_eq]at d
  obtain⟨ad,t,b⟩:=hp.plus (o:=fl.offset)
  obtain⟨i,u⟩:=E7 d
  refine⟨_,?_,Ph.out (.refl G) b (λk y=>m k ?_)⟩
  ·rw[t]
   have c:Ag P fl.type≠0:=by omega
   simp[Instr.fieldAt,underlying,q,r,Instr.sureAddr,fieldPlace,run_sizeOf u,c]
  ·simpa [Ct,Ay,Bf,one,Aho]using y
 ·simp[Ac]at h
theorem Gn.get {c:Cx} : ∀ {ls:List VV} {vs:List Value},Gn c ls vs-> ∀ (i:Nat) (l:VV),ls[i]?=some l-> ∃v,vs[i]?=some v/\Mq c l v
 | [],[],_=>by simp
 | l::ls,v::vs,h=>by
  intro i b a
  cases i with
  | zero=>simp at a;subst a;exact⟨v,rfl,h.1⟩
  | succ i=>
   obtain⟨d,e,g⟩:=Gn.get h.2 i b (by grind)
   grind
 | [],_::_,h=>h.elim
 | _::_,[],h=>h.elim
theorem Ajr {x:Operand}{o:Oper}(j:o.op= .nilCheck x)(G:Good P N X ρ K S.tm (cur S es.obs) μ a w)(h:Ev S (do
   match <-rd1 P x 0 with
   | .leaf (.ptr p)=>pure (one (.leaf (.ptr p)))
   | .leaf (.fn f c)=>pure (one (.leaf (.fn f c)))
   | _=>fail:EM SX) es sx es' ls) (e:holds ρ es.gs=some true):
  ∃v,(execOp a.eval o).run P w= .ok (.value v) w/\Out P N X ρ K S μ a w es es' sx μ w v:=by
 rw[Ab]at h
 obtain⟨vv,e1,m,_,g,h,rfl⟩:=h
 obtain⟨rfl,rfl,b,d⟩:=G9 G g e
 split at h
 ·rename_i p
  rw[Ad]at h
  obtain⟨rfl,rfl,rfl⟩:=h
  refine⟨a.eval x,?_,Ph.out (.refl G) b d⟩
  obtain⟨ad,i,_⟩:=Af0.plus (o:=0) b
  unfold execOp
  simp_all
 ·rename_i f c
  rw[Ad]at h
  obtain⟨rfl,rfl,rfl⟩:=h
  refine⟨a.eval x,?_,Ph.out (.refl G) b d⟩
  obtain⟨vs,i,_⟩:=b
  unfold execOp
  simp_all
 ·simp[Ac]at h
theorem Ag4: ∀ {xs:List Operand} {es es':ES} {b:List PV} {ls:List PLt},Good P N X ρ K S.tm (cur S es.obs) μ a w->Ev S (Ade P xs) es b es' ls->holds ρ es.gs=some true->
  es=es'/\ls= []/\Oz (Bs P X ρ (cur S es.obs) μ w) b (xs.map a.eval)/\ ∀k∈b.flatMap Eg,K k
 | [],es,es',b,ls,G,h,c=>by
  unfold Ade at h
  rw[Ad]at h
  obtain⟨rfl,rfl,rfl⟩:=h
  exact⟨rfl,rfl,trivial,λk d=>by simp at d⟩
 | x::xs,es,es',b,ls,G,h,c=>by
  unfold Ade at h
  rw[Ab]at h
  obtain⟨vv,e1,m,_,e,h,rfl⟩:=h
  rw[Ab]at h
  obtain⟨p,o,q,_,g,h,rfl⟩:=h
  obtain⟨rfl,rfl,rfl,hp,r⟩:=S4 G e g c
  simp only[Ab,Ad]at h
  obtain⟨qs,t,u,_,i,⟨rfl,rfl,rfl⟩,rfl⟩:=h
  obtain⟨rfl,rfl,j,y⟩:=Ag4 G i c
  refine⟨rfl,rfl,⟨hp,j⟩,λk d=>?_⟩
  grind
theorem Agf {f:FuncId}{first caps:Array Operand}(G:Good P N X ρ K S.tm (cur S es.obs) μ a w)(h:Ev S (do
   EM.guard first.isEmpty
   pure (one (.leaf (.fn f (<-Ade P caps.toList)))):EM SX) es sx es' ls) (c:holds ρ es.gs=some true):
  ∃v,(Instr.makeFunc (.func f) (first.map a.eval) (caps.map a.eval)).run P w= .ok v w/\Out P N X ρ K S μ a w es es' sx μ w v:=by
 rw[Ab]at h
 obtain⟨_,_,_,_,b,h,rfl⟩:=h
 rw[Af]at b
 obtain⟨m,rfl,rfl⟩:=b
 simp only[Ab,Ad]at h
 obtain⟨o,q,r,_,d,⟨rfl,rfl,rfl⟩,rfl⟩:=h
 obtain⟨rfl,rfl,e,g⟩:=Ag4 G d c
 have i:first= #[]:=by grind
 subst i
 exact⟨.func (.func f) #[] (caps.map a.eval),by simp[Instr.makeFunc],Ph.out (.refl G) ⟨_,rfl,by simpa using e⟩ (λk j=>g k (by simpa [Ct,Ay,Bf,one]using j))⟩
theorem At9 {s:TypeId}{x:Operand}{f:Nat}(G:Good P N X ρ K S.tm (cur S es.obs) μ a w)(h:Ev S (do
   let v <-rd1 P x s
   match P.underlying s with
   | some (.struct fs)=>do
    let fl <-ofOption fs[f]?
    EM.guard ((P.underlying fl.type).isSome &&Zq P s v)
    pure (.one (<-Ajj P s v fl.offset fl.type))
   | _=>fail:EM SX) es sx es' ls) (H:LH R ρ ls) (C:holds ρ es.gs=some true):
  ∃v,(Instr.field s (a.eval x) f).run P w= .ok v w/\Out P N X ρ K S μ a w es es' sx μ w v:=by
 rw[Ab]at h
 obtain⟨vv,e1,l1,_,I,h,rfl⟩:=h
 obtain⟨rfl,rfl,m,J⟩:=G9 G I C
 split at h
 ·rename_i fs L
  rw[Ab]at h
  obtain⟨fl,_,_,_,e,h,rfl⟩:=h
  rw[Ar]at e
  obtain⟨M,rfl,rfl⟩:=e
  rw[Ab]at h
  obtain⟨_,_,_,_,e,h,rfl⟩:=h
  rw[Af]at e
  obtain⟨o,rfl,rfl⟩:=e
  simp only[aB]at o
  obtain⟨d,hd⟩:=aE.1 o.1
  simp only[Ab,Ad]at h
  obtain⟨r,e2,l2,_,Q,⟨rfl,rfl,rfl⟩,rfl⟩:=h
  have hwhole:Ak P s=true/\ ∃cs,a.eval x= .agg cs/\cs.size=Ag P s:=by
   have g:=o.2
   cases vv with
   | agg t cs=>
    simp only[Zq,aB,beq_iff_eq]at g
    obtain⟨us,T,U⟩:=m
    have:=U.len
    grind
   | leaf l=>
    cases l with
    | «at» y t=>
     simp only[Zq,aB,beq_iff_eq]at g
     obtain⟨⟨ga,rfl⟩,gl⟩:=g
     obtain⟨iv,d1,d2⟩:=m
     obtain⟨ts,xs,cs,j,_,T,q⟩:=d2.Afw ga
     have u:leaves P s=some ts:=j
     rw[u]at gl
     have:=q.len.2
     grind
    | _=>simp[Zq]at g
  obtain⟨ha,cs,b,z⟩:=hwhole
  obtain⟨⟨n,Y⟩,j,q,Z,F⟩:=An1 Q H.right.right.right.left C J m (by rw[b];exact z) (by grind)
  subst Y
  refine⟨Qa P fl.type cs fl.offset,?_,Ph.out (es':= {es with n:=n}) (.same G rfl rfl rfl) (by rw[b]at j;exact j) q⟩
  rw[b]
  rw[b]at Z F
  simp only[Instr.field,underlying,Sem.run_bind,run_program,Result.andThen_ok,L,Sem.run_pure,M,asAgg]
  unfold part Qa
  obtain⟨i,hi⟩:=G4 hd
  by_cases A:Ak P fl.type=true
  ·simp[Pu hd,A,run_sizeOf hi]
  ·have c:Ak P fl.type=false:=by grind
   have B:fl.offset<cs.size:=F c
   simp[Pu hd,c,B,dB]
 ·simp[Ac]at h
theorem Arv {t rt:TypeId}{x i:Operand}(G:Good P N X ρ K S.tm (cur S es.obs) μ a w)(h:Ev S (do
   EM.guard (isStr P t&&Mt P rt == some .u8)
   let b <-I7 P x t
   let iv <-Aio P i
   pure (dat (<-Cb .M3 [b,iv]) rt):EM SX) es sx es' ls) (e:LH R ρ ls) (z:holds ρ es.gs=some true):
  ∃v,(Instr.index t (a.eval x) (a.eval i)).run P w= .ok v w/\Out P N X ρ K S μ a w es es' sx μ w v:=by
 rw[Ab]at h
 obtain⟨_,_,_,_,g,h,rfl⟩:=h
 rw[Af]at g
 obtain⟨j,rfl,rfl⟩:=g
 simp only[aB,beq_iff_eq]at j
 rw[Ab]at h
 obtain⟨b,e1,M,_,A,h,rfl⟩:=h
 obtain⟨p,B⟩:=Hh G A e.right.left z
 have d:holds ρ e1.gs=some true:=by rw[p.gs];exact z
 have e:=e.right.right
 rw[Ab]at h
 obtain⟨iv,Q,T,_,C,h,rfl⟩:=h
 obtain⟨rfl,rfl,n,k,F,H⟩:=T1 p.C8 C d
 simp only[Ab,Bt,Ad]at h
 obtain⟨_,_,_,_,⟨rfl,rfl,rfl⟩,⟨rfl,rfl,rfl⟩,rfl⟩:=h
 obtain⟨s,I,q⟩:=B.str (E4 j.1)
 have r:b.ev ρ=some (.str s):=I
 obtain⟨vs,y,r1,r2,J⟩:=LH.Cb e.right.left d
 obtain⟨u,v,m,o,rfl⟩:=Afz r1
 rw[r]at m;rw[F]at o
 injection m with m;injection o with o;subst m;subst o
 simp only[Prim.ev]at r2
 split at r2
 ·rename_i g
  simp only[aI]at r2
  obtain⟨c,L,rfl⟩:=r2
  refine⟨_,?_,D8 p J (.int (Dk j.2))⟩
  rw[q,H]
  simp[Instr.index,asIntOf,underlying,E4 j.1,g,L]
 ·cases r2
end
end Go.CT
namespace Go.CT
open EM
section
variable {P:Program}{w:World}
theorem run_sliceBound {k:IntKind}{n:Int}{y:Nat}{code:BoundsCode}(a:0<=n)(b:n<=y):(Instr.sliceBound (.int k n) y code).run P w= .ok n.toNat w:=by
 simp[Instr.sliceBound,asIntOf,a,b]
def J6 (o:Option Value)(d n:Nat):Prop:=(o=none/\n=d)\/ ∃k:IntKind,o=some (.int k n)
theorem Ab1 {isS:Bool}{len cap l h:Nat}{lo d:Option Value}(a:J6 lo 0 l)(b:J6 d len h)(e:l<=h)(g:h<=cap):
  (Instr.sliceBounds isS len cap lo d none).run P w= .ok (l,h,cap) w:=by
 unfold Instr.sliceBounds
 rcases b with⟨rfl,rfl⟩ | ⟨k,rfl⟩
 ·rcases a with⟨rfl,rfl⟩ | ⟨c,rfl⟩
  ·simp
  ·simp[run_sliceBound (P:=P) (w:=w) (k:=c) (n:=(l:Int)) (y:=h) (bJ _) (by omega)]
 ·rcases a with⟨rfl,rfl⟩ | ⟨c,rfl⟩
  ·simp[run_sliceBound (P:=P) (w:=w) (k:=k) (n:=(h:Int)) (y:=cap) (bJ _) (by omega)]
  ·simp[run_sliceBound (P:=P) (w:=w) (k:=k) (n:=(h:Int)) (y:=cap) (bJ _) (by omega),
    run_sliceBound (P:=P) (w:=w) (k:=c) (n:=(l:Int)) (y:=h) (bJ _) (by omega)]
theorem Iu {t e:TypeId}{A:Option Addr}{n cap l h:Nat}{lo g:Option Value}(j:P.underlying t=some (.slice e))(m:0<Ag P e)(a:J6 lo 0 l)(b:J6 g n h)(c:l<=h)(o:h<=cap):
  (Instr.sliceAt t (.slice A n cap) lo g none).run P w= .ok (.slice (if cap=l then A else A.map (·.add (l * Ag P e))) (h - l) (cap - l)) w:=by
 obtain⟨i,d⟩:=E7 m
 unfold Instr.sliceAt Instr.slice
 simp only[underlying,Sem.run_bind,run_program,Result.andThen_ok,j,Sem.run_pure]
 rw[Ab1 a b c o]
 simp[run_sizeOf d]
theorem run_slice_string {t:TypeId}{s:ByteArray}{l h:Nat}{lo d:Option Value}(e:P.underlying t=some .string)(a:J6 lo 0 l)(b:J6 d s.size h)(c:l<=h)(g:h<=s.size):
  (Instr.sliceAt t (.string s) lo d none).run P w= .ok (.string (s.extract l h)) w:=by
 unfold Instr.sliceAt Instr.slice
 simp only[underlying,Sem.run_bind,run_program,Result.andThen_ok,e,Sem.run_pure]
 simp[Ab1 (P:=P) (w:=w) (isS:=false) a b c g]
end
section
variable {P:Program}{N:Nat}{X:Nat->Prop}{R:Job->List IV->Option (List IV)}{ρ:List IV}{K:Nat->Prop}{S:View}{μ:Nat->Value}{a:Act}{w:World}{es es':ES}{ls:List PLt}{sx:SX}
theorem Row.im {e:TypeId}{_c x:Arg}{xs:List IV}{A:Option Addr}{cap j:Nat}{y:IV}{cx:Cx}(a:Row cx.P cx.w cx.O e xs A cap)(c:xs[j]?=some y)(d:x.ev cx.ρ=some y)(g:0<Ag cx.P e)(o: ∀b,cx.W b->cx.O b):
  ∃ad,A=some ad/\Af0 cx (.im x e 0) (.pointer (some (ad.add (j * Ag cx.P e)))):=by
 obtain⟨ad,u,h,q,i,m⟩:=a.at_ c
 refine⟨ad,h,_,u,⟨y,d,m⟩,i,g,?_,by rw[Bg]⟩
 rw[Ec]
 grind
theorem run_indexAt_slice {t e:TypeId}{A:Option Addr}{ad:Addr}{n cap:Nat}{k:IntKind}{j:Int}(a:P.underlying t=some (.slice e))(b:0<Ag P e)(c:A=some ad)(d:0<=j)(g:j<n):
  (Instr.indexAt t (.slice A n cap) (.int k j)).run P w= .ok (.pointer (some (ad.add (j.toNat * Ag P e)))) w:=by
 obtain⟨i,h⟩:=E7 b
 subst c
 simp[Instr.indexAt,asIntOf,underlying,a,d,g,run_sizeOf h]
theorem toNat_lt {xs:List IV}{j:Int}{y:IV}(a:0<=j)(h:xs[j.toNat]?=some y):j<xs.length:=by
 grind
theorem Aes {t:TypeId}{x i:Operand}(G:Good P N X ρ K S.tm (cur S es.obs) μ a w)(h:Ev S (Vn P t x i) es sx es' ls)(q:LH R ρ ls)(F:holds ρ es.gs=some true):
  ∃v,(Instr.indexAt t (a.eval x) (a.eval i)).run P w= .ok v w/\Out P N X ρ K S μ a w es es' sx μ w v:=by
 unfold Vn at h
 rw[Ab]at h
 obtain⟨xv,e1,l1,_,h1,h,rfl⟩:=h
 obtain⟨rfl,rfl,h3,h4⟩:=G9 G h1 F
 have q:=q.right
 split at h
 ·rename_i e H
  rw[Ab]at h
  obtain⟨_,_,_,_,h0,h,rfl⟩:=h
  rw[Af]at h0
  obtain⟨I,rfl,rfl⟩:=h0
  simp only[decide_eq_true_eq]at I
  rw[Ab]at h
  obtain⟨iv,e2,l2,_,h2,h,rfl⟩:=h
  obtain⟨rfl,rfl,j,k,U,hi⟩:=T1 G h2 F
  have q:=q.right.right
  rw[hi]
  -- the arm for data
  have data: ∀ {l:LV} {B:ES} {M:List PLt} {c:Arg},Mq (Bs P X ρ (cur S es.obs) μ w) (.leaf l) (a.eval x)->Ev S (D5 P true t l) es c B M->LH R ρ M->
    ∀ {Y:List PLt},Ev S (do pure (one (.leaf (.ptr (.im (<-Cb .index [c,iv]) e 0)))):EM SX) B sx es' Y->LH R ρ Y->
    ∃v,(Instr.indexAt t (a.eval x) (.int k j)).run P w= .ok v w/\Out P N X ρ K S μ a w es es' sx μ w v:=by
   intro l B M c r hd aa Y h ab
   obtain⟨p,_,hD⟩:=Ii G hd aa F r
   obtain⟨z,d1,d2⟩:=hD rfl
   obtain⟨xs,A,cap,rfl,hx,d⟩:=d2.Da H
   simp only[Ab,Bt,Ad]at h
   obtain⟨_,_,_,_,⟨rfl,rfl,rfl⟩,⟨rfl,rfl,rfl⟩,rfl⟩:=h
   obtain⟨vs,y,r1,r2,Z⟩:=LH.Cb ab.left (by rw[p.gs];exact F)
   obtain⟨C,J⟩:=Qs d1 U r1 r2
   obtain⟨ad,hA,hp⟩:=Row.im (_c:=c) (cx:=Bs P X ρ (cur S B.obs) μ w) d J Z I (λb hb=> .inr hb)
   rw[hx]
   exact⟨_,run_indexAt_slice H I hA C (toNat_lt C J),Ph.out (es':= {B with n:=B.n+1}) ⟨p.C8,p.Es,p.m,p.gs⟩ hp (λk u=>by simp[Ct,Ay,Bf,Eg,one]at u)⟩
  split at h
  ·rename_i Q t0
   obtain⟨r,_⟩:=h3
   have r:a.eval x=μ Q:=r
   rw[Ab]at h
   obtain⟨o,_,_,M,T,h,rfl⟩:=h
   rw[B6]at T
   obtain⟨T,rfl,rfl⟩:=T
   have q:=q.right
   cases o with
   | box=>simp[Ac]at h
   | iter=>simp[Ac]at h
   | mp=>simp[Ac]at h
   | arr e' tt c=>
    simp only[Ab,Af,Bt,Ad]at h
    obtain⟨_,_,_,_,⟨L,rfl,rfl⟩,⟨_,_,_,_,⟨rfl,rfl,rfl⟩,⟨rfl,rfl,rfl⟩,rfl⟩,rfl⟩:=h
    have:e=e':=by grind
    subst this
    obtain⟨ivs,cs,C,J,q3,q4,q5,q6⟩:=G.obj Q _ T
    obtain⟨vs,y,r1,r2,Z⟩:=LH.Cb q.right.left F
    obtain⟨s1,s2⟩:=Qs C U r1 r2
    have ac:=toNat_lt s1 s2
    obtain⟨_,q4⟩:=q4
    rcases q4 with⟨_,q4⟩ | ⟨g,cap,cu,e1,_⟩
    ·omega
    ·have ae:μ Q= .slice (some ⟨g,0,none⟩) ivs.length cap:=e1
     rw[r,ae]
     refine⟨_,run_indexAt_slice H I rfl s1 ac,Ph.out (es':= {es with n:=es.n+1}) (.same G rfl rfl rfl) ⟨g,ivs.length,cap,j.toNat,e1,?_,by omega,by rw[bU];rfl⟩ (λk u=>?_)⟩
     ·have:((j.toNat:Nat):Int)=j:=by omega
      rw[this];exact U
     ·simp[Ct,Ay,Bf,Eg,one]at u
      subst u
      exact h4 k (by simp[Ay,Bf])
   | frz e' tt c=>
    simp only[Ab,Af,Bt,Ad]at h
    obtain⟨_,_,_,_,⟨L,rfl,rfl⟩,⟨_,_,_,_,⟨rfl,rfl,rfl⟩,⟨rfl,rfl,rfl⟩,rfl⟩,rfl⟩:=h
    have:e=e':=by grind
    subst this
    obtain⟨g5,z,d1,d2⟩:=G.obj Q _ T
    obtain⟨xs,A,cap,rfl,hx,d⟩:=d2.Da g5
    obtain⟨vs,y,r1,r2,Z⟩:=LH.Cb q.right.left F
    obtain⟨C,J⟩:=Qs d1 U r1 r2
    obtain⟨ad,hA,hp⟩:=Row.im (_c:=c) (cx:=Bs P X ρ (cur S es.obs) μ w) d J Z I (λb hb=> .inr hb)
    have af:μ Q= .slice A xs.length cap:=hx
    rw[r,af]
    exact⟨_,run_indexAt_slice H I hA C (toNat_lt C J),Ph.out (es':= {es with n:=es.n+1}) (.same G rfl rfl rfl) hp (λk u=>by simp[Ct,Ay,Bf,Eg,one]at u)⟩
  ·rename_i l _
   rw[Ab]at h
   obtain⟨c,B,M,Y,hd,h,rfl⟩:=h
   exact data h3 hd q.left h q.right
  ·simp[Ac]at h
 ·rename_i n e H
  rw[Ab]at h
  obtain⟨p,e2,l2,_,h2,h,rfl⟩:=h
  obtain⟨rfl,rfl,rfl⟩:=An8 h2
  split at h
  ·rename_i k j
   simp only[Ab,Af,Ad]at h
   obtain⟨_,_,_,_,⟨L,rfl,rfl⟩,⟨rfl,rfl,rfl⟩,rfl⟩:=h
   simp only[aB,decide_eq_true_eq]at L
   obtain⟨⟨L,g2⟩,g3⟩:=L
   obtain⟨ad,r,ag⟩:=Af0.plus (o:=j.toNat * Ag P e) h3
   obtain⟨i,hi⟩:=E7 g3
   refine⟨_,?_,Ph.out (.refl G) ag (λk u=>h4 k ?_)⟩
   ·rw[r]
    simp[Instr.indexAt,asIntOf,underlying,H,Instr.sureAddr,Act.eval,L,g2,run_sizeOf hi]
   ·simpa [Ct,Ay,Bf,one,Aho]using u
  ·simp[Ac]at h
 ·simp[Ac]at h
theorem Lg {o:Option Operand}{r:Option Arg}(G:Good P N X ρ K S.tm (cur S es.obs) μ a w)(h:Ev S (Td P o) es r es' ls)(b:holds ρ es.gs=some true):
  es=es'/\ls= []/\((o=none/\r=none)\/ ∃x y n k,o=some x/\r=some y/\y.ev ρ=some (.int n)/\a.eval x= .int k n):=by
 unfold Td at h
 cases o with
 | none=>
  rw[Ad]at h
  grind
 | some x=>
  simp only[Ab,Ad]at h
  obtain⟨y,e1,d,_,c,⟨rfl,rfl,rfl⟩,rfl⟩:=h
  obtain⟨rfl,rfl,n,k,e,g⟩:=T1 G c b
  grind
theorem A2w {o:Option Operand}{r:Option Arg}(h:(o=none/\r=none)\/ ∃x y n k,o=some x/\r=some y/\y.ev ρ=some (.int n)/\a.eval x= .int k n):
  ∃n,(r.getD (.k (.int 0))).ev ρ=some (.int n)/\(0<=n->J6 (o.map a.eval) 0 n.toNat):=by
 rcases h with⟨rfl,rfl⟩ | ⟨x,y,n,k,rfl,rfl,b,c⟩
 ·exact⟨0,rfl,λ_=> .inl ⟨rfl,rfl⟩⟩
 ·exact⟨n,b,λd=> .inr ⟨k,by grind⟩⟩
theorem J2 {c lo e:Arg}{xs:List IV}{l h:Int}{vs:List IV}{y:IV}(g:c.ev ρ=some (.list xs))(i:lo.ev ρ=some (.int l))(j:e.ev ρ=some (.int h))
  (m:Arg.evs ρ [c,lo,e]=some vs) (o:Prim.ev .slice vs=some y):y= .list ((xs.take h.toNat).drop l.toNat)/\0<=l/\l<=h/\h<=xs.length:=by
 obtain⟨u,v,q,a,b,d,rfl⟩:=A1r m
 rw[g]at a;rw[i]at b;rw[j]at d
 injection a with a;injection b with b;injection d with d
 subst a;subst b;subst d
 simp only[Prim.ev]at o
 grind
theorem Acu {c lo:Arg}{xs:List IV}{l:Int}{vs:List IV}{y:IV}(d:c.ev ρ=some (.list xs))(e:lo.ev ρ=some (.int l))
  (g:Arg.evs ρ [c,lo]=some vs) (h:Prim.ev .Nj vs=some y):y= .list ((xs.take xs.length).drop l.toNat)/\0<=l/\l<=xs.length:=by
 obtain⟨u,v,a,b,rfl⟩:=Afz g
 rw[d]at a;rw[e]at b
 injection a with a;injection b with b
 subst a;subst b
 simp only[Prim.ev]at h
 grind
theorem Awo {t:TypeId}{x:Operand}{lo Y mx:Option Operand}(G:Good P N X ρ K S.tm (cur S es.obs) μ a w)(h:Ev S (Atp P t x lo Y mx) es sx es' ls)(g:LH R ρ ls)(M:holds ρ es.gs=some true):
  ∃v,(Instr.sliceAt t (a.eval x) (lo.map a.eval) (Y.map a.eval) (mx.map a.eval)).run P w= .ok v w/\Out P N X ρ K S μ a w es es' sx μ w v:=by
 unfold Atp at h
 rw[Ab]at h
 obtain⟨_,_,_,_,F,h,rfl⟩:=h
 rw[Af]at F
 obtain⟨g0,rfl,rfl⟩:=F
 have ae:mx=none:=by simpa using g0
 subst ae
 rw[Option.map_none]
 rw[Ab]at h
 obtain⟨xv,e1,l1,_,h1,h,rfl⟩:=h
 obtain⟨rfl,rfl,h3,h4⟩:=G9 G h1 M
 rw[Ab]at h
 obtain⟨l,e2,l2,_,h2,h,rfl⟩:=h
 obtain⟨rfl,rfl,o1⟩:=Lg G h2 M
 rw[Ab]at h
 obtain⟨hh,e3,l3,_,h5,h,rfl⟩:=h
 obtain⟨rfl,rfl,o2⟩:=Lg G h5 M
 have g:=g.right.right.right.right
 obtain⟨ln,B,blo⟩:=A2w o1
 -- data, cut
 have cut: ∀ {e:TypeId} {c:Arg} {T:ES} {v:Value} {xs:List IV} {A:Option Addr} {cap:Nat},P.underlying t=some (.slice e)->0<Ag P e->Ph P N X ρ K S μ a w es T->c.ev ρ=some (.list xs)->
   v= .slice A xs.length cap->Row P w (Bs P X ρ (cur S T.obs) μ w).O e xs A cap->a.eval x=v->
   ∀ {l4:List PLt},Ev S (A6b c (l.getD (.k (.int 0))) hh t) T sx es' l4->LH R ρ l4->
   ∃v,(Instr.sliceAt t (a.eval x) (lo.map a.eval) (Y.map a.eval) none).run P w= .ok v w/\Out P N X ρ K S μ a w es es' sx μ w v:=by
  intro e c T v xs A cap i hs p Z hv b af l4 h aa
  have H:holds ρ T.gs=some true:=by rw[p.gs];exact M
  rw[af,hv]
  unfold A6b at h
  rcases o2 with⟨rfl,rfl⟩ | ⟨U,hy,j,hk,rfl,rfl,I,ab⟩
  ·simp only[Ab,Bt,Ad]at h
   obtain⟨_,_,_,_,⟨rfl,rfl,rfl⟩,⟨rfl,rfl,rfl⟩,rfl⟩:=h
   obtain⟨vs,y,r1,r2,L⟩:=LH.Cb aa.left H
   obtain⟨rfl,q1,q2⟩:=Acu Z B r1 r2
   refine⟨_,Iu i hs (blo q1) (.inl ⟨rfl,rfl⟩) (by omega) b.1,?_⟩
   have hr:=(b.part (l:=ln.toNat) (r:=xs.length) (by omega) (bA _)).rel i
   have hlen:((xs.take xs.length).drop ln.toNat).length =xs.length - ln.toNat:=by simp
   rw[hlen]at hr
   exact D8 p L hr
  ·simp only[Ab,Bt,Ad]at h
   obtain⟨_,_,_,_,⟨rfl,rfl,rfl⟩,⟨rfl,rfl,rfl⟩,rfl⟩:=h
   obtain⟨vs,y,r1,r2,L⟩:=LH.Cb aa.left H
   obtain⟨rfl,q1,q2,q3⟩:=J2 Z B I r1 r2
   have hb:J6 (dH a.eval (some U)) xs.length j.toNat:= .inr ⟨hk,by grind⟩
   refine⟨_,Iu i hs (blo q1) hb (by omega) (by have:=b.1;omega),?_⟩
   have hr:=(b.part (l:=ln.toNat) (r:=j.toNat) (by omega) (by omega)).rel i
   have hlen:((xs.take j.toNat).drop ln.toNat).length =j.toNat - ln.toNat:=by grind
   rw[hlen]at hr
   exact D8 p L hr
 cases i:P.underlying t with
 | none=>simp[i,Ac]at h
 | some d=>
 simp only[i]at h
 cases d with
 | string=>
  rw[Ab]at h
  obtain⟨c,T,l4,l5,hd,h,rfl⟩:=h
  obtain⟨p,hB,_⟩:=E3 G hd g.left M h4 h3
  have H:holds ρ T.gs=some true:=by rw[p.gs];exact M
  obtain⟨s,hs,ag⟩:=hB.str i
  have ac:c.ev ρ=some (.str s):=hs
  rw[ag]
  rcases o2 with⟨rfl,rfl⟩ | ⟨U,hy,j,hk,rfl,rfl,I,ab⟩
  ·simp only[Ab,Bt,Ad]at h
   obtain⟨_,_,_,_,⟨rfl,rfl,rfl⟩,⟨rfl,rfl,rfl⟩,rfl⟩:=h
   obtain⟨vs,y,r1,r2,L⟩:=LH.Cb g.right.left H
   obtain⟨u,v,m,Q,rfl⟩:=Afz r1
   rw[ac]at m;rw[B]at Q
   injection m with m;injection Q with Q;subst m;subst Q
   simp only[Prim.ev]at r2
   split at r2
   ·rename_i Z
    injection r2 with r2;subst r2
    exact⟨_,run_slice_string i (blo Z.1) (.inl ⟨rfl,rfl⟩) (by omega) (bA _),D8 p L (.str i)⟩
   ·cases r2
  ·simp only[Ab,Bt,Ad]at h
   obtain⟨_,_,_,_,⟨rfl,rfl,rfl⟩,⟨rfl,rfl,rfl⟩,rfl⟩:=h
   obtain⟨vs,y,r1,r2,L⟩:=LH.Cb g.right.left H
   obtain⟨u,v,q,m,Q,s3,rfl⟩:=A1r r1
   rw[ac]at m;rw[B]at Q;rw[I]at s3
   injection m with m;injection Q with Q;injection s3 with s3;subst m;subst Q;subst s3
   simp only[Prim.ev]at r2
   split at r2
   ·rename_i Z
    injection r2 with r2;subst r2
    have hb:J6 (dH a.eval (some U)) s.size j.toNat:= .inr ⟨hk,by grind⟩
    exact⟨_,run_slice_string i (blo Z.1) hb (by omega) (by omega),D8 p L (.str i)⟩
   ·cases r2
 | slice e=>
  rw[Ab]at h
  obtain⟨_,_,_,_,F,h,rfl⟩:=h
  rw[Af]at F
  obtain⟨g1,rfl,rfl⟩:=F
  simp only[decide_eq_true_eq]at g1
  have g:=g.right
  have other: ∀ {lf:LV},Mq (Bs P X ρ (cur S es.obs) μ w) (.leaf lf) (a.eval x)-> ∀ {lx:List PLt},Ev S (do
    let c <-D5 P true t lf
    A6b c (l.getD (.k (.int 0))) hh t:EM SX) es sx es' lx->LH R ρ lx->
    ∃v,(Instr.sliceAt t (a.eval x) (lo.map a.eval) (Y.map a.eval) none).run P w= .ok v w/\Out P N X ρ K S μ a w es es' sx μ w v:=by
   intro lf h3 lx h g
   rw[Ab]at h
   obtain⟨c,T,l4,l5,hd,h,rfl⟩:=h
   obtain⟨p,_,hD⟩:=Ii G hd g.left M h3
   obtain⟨z,d1,d2⟩:=hD rfl
   obtain⟨xs,A,cap,rfl,U,b⟩:=d2.Da i
   exact cut i g1 p d1 U b rfl h g.right
  cases xv with
  | agg t' cs=>simp[Ac]at h
  | leaf lf=>
  cases lf with
  | ref k0 t0=>
   obtain⟨hv,_⟩:=h3
   have hv:a.eval x=μ k0:=hv
   rw[Ab]at h
   obtain⟨o,_,_,l3,ho,h,rfl⟩:=h
   rw[B6]at ho
   obtain⟨ho,rfl,rfl⟩:=ho
   have g:=g.right
   cases o with
   | box=>simp[Ac]at h
   | iter=>simp[Ac]at h
   | mp=>simp[Ac]at h
   | arr e' tt c=>
    rw[Ab]at h
    obtain⟨_,_,_,_,F,h,rfl⟩:=h
    rw[Af]at F
    obtain⟨g2,rfl,rfl⟩:=F
    have:e=e':=by grind
    subst this
    obtain⟨ivs,A,cap,q1,q2,q3,q4,q5⟩:=G.Asb ho
    have g:=g.right
    rw[hv,q2]
    have fin: ∀ {e5:ES} {l5:List PLt} {J:Arg} {j:Int},(∃n,e5= {es with n})->J.ev ρ=some (.int j)->(0<=j->J6 (Y.map a.eval) ivs.length j.toNat)->
      Ev S (do
       let _ <-Cb .slice [c,l.getD (.k (.int 0)),J]
       pure (one (.leaf (.sub k0 (l.getD (.k (.int 0))) J t))):EM SX) e5 sx es' l5->LH R ρ l5->
      ∃v,(Instr.sliceAt t (.slice A ivs.length cap) (lo.map a.eval) (Y.map a.eval) none).run P w= .ok v w/\Out P N X ρ K S μ a w es es' sx μ w v:=by
     intro e5 l5 J j he ad hb h ah
     obtain⟨n,rfl⟩:=he
     simp only[Ab,Bt,Ad]at h
     obtain⟨_,_,_,_,⟨rfl,rfl,rfl⟩,⟨rfl,rfl,rfl⟩,rfl⟩:=h
     obtain⟨vs,y,r1,r2,L⟩:=LH.Cb ah.left M
     obtain⟨rfl,p1,p2,p3⟩:=J2 q1 B ad r1 r2
     refine⟨_,Iu i g1 (blo p1) (hb (by omega)) (by omega) (by have:=q3.1;omega),Ph.out (es':= {es with n:=n+1}) (.same G rfl rfl rfl) ?_ (λk hm=>?_)⟩
     ·refine⟨A,ivs.length,cap,ln.toNat,j.toNat,e,i,q2,?_,?_,by omega,by omega,rfl⟩
      ·rw[show((ln.toNat:Nat):Int)=ln by omega];exact B
      ·rw[show((j.toNat:Nat):Int)=j by omega];exact ad
     ·simp[Ct,Ay,Bf,one]at hm
      subst hm
      exact h4 k (by simp[Ay,Bf])
    rw[Ab]at h
    obtain⟨J,e5,l5,_,C,h,rfl⟩:=h
    rcases o2 with⟨rfl,rfl⟩ | ⟨U,hy,j,hk,rfl,rfl,I,ab⟩
    ·unfold A8j at C
     rw[Bt]at C
     obtain⟨rfl,rfl,rfl⟩:=C
     obtain⟨vs,y,r1,r2,L⟩:=LH.Cb g.left M
     obtain⟨u,m,rfl⟩:=Asf r1
     have ai:c.ev ρ=some (.list ivs):=q1
     rw[ai]at m;injection m with m;subst m
     simp only[Prim.ev,aA]at r2;subst r2
     exact fin (e5:= {es with n:=es.n+1}) ⟨es.n+1,rfl⟩ L (λ_=> .inl ⟨rfl,by simp⟩) h g.right
    ·unfold A8j at C
     rw[Ad]at C
     obtain⟨rfl,rfl,rfl⟩:=C
     exact fin ⟨es.n,rfl⟩ I (λF=> .inr ⟨hk,by grind⟩) h g.right
   | frz e' tt c=>
    rw[Ab]at h
    obtain⟨_,_,_,_,F,h,rfl⟩:=h
    rw[Af]at F
    obtain⟨g2,rfl,rfl⟩:=F
    have:e=e':=by grind
    subst this
    obtain⟨g5,z,d1,d2⟩:=G.obj k0 _ ho
    obtain⟨xs,A,cap,rfl,U,b⟩:=d2.Da g5
    exact cut i g1 (.refl G) d1 U b hv h g.right
  | «at» _ _=>grind
  | nil _=>grind
  | sub _ _ _ _=>grind
  | ptr _=>grind
  | fn _ _=>grind
  | mref _ _=>grind
  | hid _=>grind
  | cl _ _=>grind
  | st _ _=>grind
  | junk=>grind
 | _=>simp[Ac]at h
end
end Go.CT
namespace Go.CT
open EM
def D6 (μ:Nat->Value)(k:Nat)(v:Value):Nat->Value:=λa=>if a=k then v else μ a
section
variable {P:Program}{N:Nat}{X:Nat->Prop}{R:Job->List IV->Option (List IV)}{ρ:List IV}{K:Nat->Prop}{S:View}{tm:Nat->SV}{ob ob':Nat->Option Ob}{μ:Nat->Value}{a:Act}{w w':World}{es es':ES}{ls:List PLt}{sx:SX}
theorem Good.On (G:Good P N X ρ K tm ob μ a w){k:Nat}{o:Ob}{b:Nat}(h:ob k=some o)(z:o.Gl=true)(d:blk (μ k)=some b):b<w.heap.size:=by
 have:=G.obj k o h
 cases o with
 | box t vv=>
  obtain⟨q,v,j,m,_⟩:=this
  have i:μ k= .pointer (some ⟨q,0,none⟩):=j
  rw[i]at d;simp[blk]at d;subst d
  exact(aF.1 m).1
 | arr e t c=>
  obtain⟨ivs,cs,j,m,B,⟨_,u⟩,_⟩:=this
  rcases u with⟨u,_⟩ | ⟨g,cap,cu,e1,_,A,_⟩
  ·have x:μ k= .slice none 0 0:=u
   rw[x]at d;simp[blk]at d
  ·have y:μ k= .slice (some ⟨g,0,none⟩) ivs.length cap:=e1
   rw[y]at d;simp[blk]at d;subst d
   exact(aF.1 A).1
 | frz=>simp[Ob.Gl]at z
 | iter s p=>
  obtain⟨q,n,bs,j,m,_⟩:=this
  have i:μ k= .pointer (some ⟨q,0,none⟩):=j
  rw[i]at d;simp[blk]at d;subst d
  exact(aF.1 m).1
 | mp t kt vt c=>
  obtain⟨r,cl,es,ivs,j,m,_⟩:=this
  have i:μ k= .map (some r):=j
  rw[i]at d;simp[blk]at d;subst d
  exact(aF.1 m).1
structure Put (P:Program)(X:Nat->Prop)(ρ:List IV)(K:Nat->Prop)(ob ob':Nat->Option Ob)(μ:Nat->Value)(w w':World)(k:Nat)(o:Ob)(hdr:Value):Prop where
 other: ∀k' o',k'≠k->ob' k'=some o'->ob k'=some o'
 here:ob' k=some o
 same: ∀k',K k'->D6 μ k hdr k'=μ k'
 step:Hz (Wr ob μ) w w'
 rest: ∀k' o' b,k'≠k->ob' k'=some o'->o'.Gl=true->blk (μ k')=some b->w'.heap[b]?=w.heap[b]?
 new: ∀b,blk hdr=some b->(Wr ob μ b/\ ∀k' o',k'≠k->ob' k'=some o'->o'.Gl=true->blk (μ k')≠some b)\/w.heap.size<=b
 keys: ∀k'∈He o,K k'\/k'=k
theorem Dx {k a:Nat}{v:Value}(h:a≠k):D6 μ k v a=μ a:=by simp[D6,h]
theorem Bl {k:Nat}{v:Value} :D6 μ k v k=v:=by simp[D6]
theorem Put.later {k:Nat}{o:Ob}{hdr:Value}(p:Put P X ρ K ob ob' μ w w' k o hdr):Ek K (Bs P X ρ ob μ w) (Bs P X ρ ob' (D6 μ k hdr) w'):=by
 have g: ∀b,b<w.heap.size->Wr ob' (D6 μ k hdr) b->Wr ob μ b:=by
  rintro b a ⟨d,o',i,j,c⟩
  by_cases e:d=k
  ·subst e
   rw[Bl]at c
   rcases p.new b c with h | h
   ·exact h.1
   ·omega
  ·rw[Dx e]at c
   exact⟨d,o',p.other d o' e i,j,c⟩
 exact {P:=rfl,ρ:=λ_ _ h=>h,μ:=p.same,stays:=p.step.stays,O:=λb a h=>h.elim .inl λh=> .inr (g b a h),W:=g,WO:=λb a=> .inr a}
theorem Put.C8 {k:Nat}{o:Ob}{hdr:Value}(G:Good P N X ρ K tm ob μ a w)(p:Put P X ρ K ob ob' μ w w' k o hdr)(H:Agb (Bs P X ρ ob' (D6 μ k hdr) w') k o){K':Nat->Prop}(y: ∀c,K c\/c=k->K' c):
  Good P N X ρ K' tm ob' (D6 μ k hdr) a w':=by
 have L:=p.later
 have g: ∀ {c o' b},c≠k->ob' c=some o'->o'.Gl=true->blk (D6 μ k hdr c)=some b->b<w.heap.size/\blk (μ c)=some b:=by
  intro c o' b d i j e
  rw[Dx d]at e
  exact⟨G.On (p.other c o' d i) j e,e⟩
 have A: ∀ {c o' b},c≠k->ob' c=some o'->o'.Gl=true->blk (D6 μ k hdr c)=some b->blk hdr=some b->False:=by
  intro c o' b d i j e u
  have:=g d i j e
  rcases p.new b u with h | h
  ·grind
  ·omega
 refine⟨G.size,G.defers,λs=>L.Awj (G.kt s) (G.slot s),λc o' q=>?_,?_,?_,λb z=>Nat.lt_of_lt_of_le (G.xlt b z) p.step.size,λs c h=>y c (.inl (G.kt s c h)),λc o' q=>?_⟩
 ·by_cases d:c=k
  ·subst d
   have:=p.here
   grind
  ·have r:=p.other c o' d q
   exact L.Akc (G.ko c o' r).1 (G.ko c o' r).2 (λI b z _=>p.rest c o' b d q I z) (G.obj c o' r)
 ·intro k1 k2 B x b i j e u C F
  by_cases t:k1=k
  ·by_cases m:k2=k
   ·omega
   ·subst t
    rw[Bl]at C
    grind
  ·by_cases m:k2=k
   ·subst m
    rw[Bl]at F
    grind
   ·exact G.sep k1 k2 B x b (p.other k1 B t i) (p.other k2 x m j) e u (g t i e C).2 (g m j u F).2
 ·intro c o' b i j e
  by_cases d:c=k
  ·subst d
   rw[Bl]at e
   rcases p.new b e with⟨⟨k2,x,J,M,Q⟩,_⟩ | h
   ·exact G.xsep k2 x b J M Q
   ·intro R
    have:=G.xlt b R
    omega
  ·exact G.xsep c o' b (p.other c o' d i) j (g d i j e).2
 ·by_cases d:c=k
  ·subst d
   rw[p.here]at q;injection q with q;subst q
   exact⟨y _ (.inr rfl),λc h=>y c (p.keys c h)⟩
  ·have:=G.ko c o' (p.other c o' d q)
   grind
theorem Put.own {k:Nat}{o:Ob}{hdr:Value}(_G:Good P N X ρ K tm ob μ a w)(p:Put P X ρ K ob ob' μ w w' k o hdr): ∀b,Wr ob' (D6 μ k hdr) b->Wr ob μ b\/w.heap.size<=b:=by
 rintro b ⟨d,o',g,h,c⟩
 by_cases e:d=k
 ·subst e
  rw[Bl]at c
  exact(p.new b c).imp (·.1) id
 ·rw[Dx e]at c
  exact .inl ⟨d,o',p.other d o' e g,h,c⟩
theorem Gu (W:Nat->Prop)(w:World)(o:Obj):Hz W w (w.alloc o):=
 ⟨rfl,rfl,rfl,by simp,λb a _=>bD w o b a⟩
theorem Ahu {t:TypeId}{vv:VV}{v:Value}{e1:ES}(p:Ph P N X ρ K S μ a w es e1)(hfresh: ∀k,es.m<=k->k<e1.m+1-> ¬ K k)
  (r:Mq (Bs P X ρ (cur S e1.obs) μ w) vv v) (q: ∀k∈Ay vv,K k) (x:v.cells.size=Ag P t) (i:if Ak P t then ∃cs,v= .agg cs else v.oneCell'=true) (y: ∀u∈v.cells,u.oneCell'=true):
  Out P N X ρ K S μ a w es {e1 with m:=e1.m+1,obs:=(e1.m,some (.box t vv))::e1.obs} (one (.leaf (.ptr (.p e1.m 0)))) (D6 μ e1.m (.pointer (some ⟨w.heap.size,0,none⟩))) (w.alloc (.cells v.cells t)) (.pointer (some ⟨w.heap.size,0,none⟩)):=by
 have z: ¬ K e1.m:=hfresh e1.m (by rw[p.m];omega) (aW _)
 have g:Put P X ρ K (cur S e1.obs) (B5 (cur S e1.obs) e1.m (some (.box t vv))) μ w (w.alloc (.cells v.cells t)) e1.m (.box t vv) (.pointer (some ⟨w.heap.size,0,none⟩)):=
  {
   other:=λc o' h j=>by simpa [B5,h]using j
   here:=by simp[B5]
   same:=λc h=>Dx (λe=>z (e ▸ h))
   step:=Gu _ _ _
   rest:=λc o' b h j A d=>bD _ _ _ (p.C8.On (by simpa [B5,h]using j) A d)
   new:=λb d=> .inr (by simp[blk]at d;omega)
   keys:=λc h=> .inl (q c h)}
 have o:Agb (Bs P X ρ (B5 (cur S e1.obs) e1.m (some (.box t vv))) (D6 μ e1.m (.pointer (some ⟨w.heap.size,0,none⟩))) (w.alloc (.cells v.cells t))) e1.m (.box t vv):=
  ⟨w.heap.size,v,Bl,heap_alloc_new w _,x,i,y,g.later.Ash q r⟩
 have B: ∀c,K c\/c=e1.m->Ax K es.m (e1.m+1) c:=by
  rintro c (h | rfl)
  ·exact .inl h
  ·exact .inr ⟨by rw[p.m];omega,aW _⟩
 refine⟨?_,?_,?_,?_,?_,g.same⟩
 ·rw[show({e1 with m:=e1.m+1,obs:=(e1.m,some (.box t vv))::e1.obs} :ES).obs =(e1.m,some (.box t vv))::e1.obs from rfl,Bz]
  exact g.C8 p.C8 o B
 ·exact⟨w.heap.size,Bl,by rw[Bg]⟩
 ·intro k h
  simp[Ct,Ay,Bf,Eg,one]at h
  grind
 ·exact Gu _ _ _
 ·intro b d
  rw[show({e1 with m:=e1.m+1,obs:=(e1.m,some (.box t vv))::e1.obs} :ES).obs =(e1.m,some (.box t vv))::e1.obs from rfl,Bz]at d
  exact(g.own p.C8 b d).imp p.Es.wr id
theorem Aex {o:Ob}{obj:Obj}{hdr:Value}{e1:ES}{nn:Nat}{sx:SX}(p:Ph P N X ρ K S μ a w es e1)(hfresh: ∀k,es.m<=k->k<e1.m+1-> ¬ K k)(c:blk hdr=some w.heap.size)(q: ∀k∈He o,K k\/k=e1.m)
  (i:Ek K (Bs P X ρ (cur S e1.obs) μ w) (Bs P X ρ (B5 (cur S e1.obs) e1.m (some o)) (D6 μ e1.m hdr) (w.alloc obj))->Agb (Bs P X ρ (B5 (cur S e1.obs) e1.m (some o)) (D6 μ e1.m hdr) (w.alloc obj)) e1.m o)
  (r:Alq (Bs P X ρ (B5 (cur S e1.obs) e1.m (some o)) (D6 μ e1.m hdr) (w.alloc obj)) sx hdr) (z: ∀k∈Ct sx,k=e1.m):
  Out P N X ρ K S μ a w es {e1 with n:=nn,m:=e1.m+1,obs:=(e1.m,some o)::e1.obs} sx (D6 μ e1.m hdr) (w.alloc obj) hdr:=by
 have t: ¬ K e1.m:=hfresh e1.m (by rw[p.m];omega) (aW _)
 have g:Put P X ρ K (cur S e1.obs) (B5 (cur S e1.obs) e1.m (some o)) μ w (w.alloc obj) e1.m o hdr:=
  {
   other:=λd o' h j=>by simpa [B5,h]using j
   here:=by simp[B5]
   same:=λd h=>Dx (λe=>t (e ▸ h))
   step:=Gu _ _ _
   rest:=λd o' b h j u c=>bD _ _ _ (p.C8.On (by simpa [B5,h]using j) u c)
   new:=λb x=> .inr (by grind)
   keys:=q}
 have y: ∀d,K d\/d=e1.m->Ax K es.m (e1.m+1) d:=by
  rintro d (h | rfl)
  ·exact .inl h
  ·exact .inr ⟨by rw[p.m];omega,aW _⟩
 refine⟨?_,?_,?_,?_,?_,g.same⟩
 ·show Good P N X ρ (Ax K es.m (e1.m+1)) S.tm (cur S ((e1.m,some o)::e1.obs)) _ a _
  rw[Bz]
  exact g.C8 p.C8 (i g.later) y
 ·show Alq (Bs P X ρ (cur S ((e1.m,some o)::e1.obs)) _ _) _ _
  rw[Bz];exact r
 ·grind
 ·exact Gu _ _ _
 ·intro b c
  have c:Wr (cur S ((e1.m,some o)::e1.obs)) _ b:=c
  rw[Bz]at c
  exact(g.own p.C8 b c).imp p.Es.wr id
theorem Abj {e t:TypeId}{x:Arg}{ivs:List IV}{cs:Array Value}{n cap:Nat}{e1:ES}(p:Ph P N X ρ K S μ a w es e1)(hfresh: ∀k,es.m<=k->k<e1.m+1-> ¬ K k)
  (A:x.ev ρ=some (.list ivs)) (B:P.underlying t=some (.slice e)) (o:0<Ag P e) (C:ivs.length=n) (g:n<=cap) (i:cap<=maxLen) (q:cs.size=cap * Ag P e)
  (r:Kr P w (Bs P X ρ (cur S e1.obs) μ w).O e ivs (cs.toList.take (n * Ag P e))) (F: ∀u∈cs.toList.take (n * Ag P e),u.oneCell'=true) {rt:TypeId} {nn:Nat} :
  Out P N X ρ K S μ a w es {e1 with n:=nn,m:=e1.m+1,obs:=(e1.m,some (.arr e t x))::e1.obs} (one (.leaf (.ref e1.m rt))) (D6 μ e1.m (.slice (some ⟨w.heap.size,0,none⟩) n cap)) (w.alloc (.cells cs e)) (.slice (some ⟨w.heap.size,0,none⟩) n cap):=by
 have G: ¬ K e1.m:=hfresh e1.m (by rw[p.m];omega) (aW _)
 have j:Put P X ρ K (cur S e1.obs) (B5 (cur S e1.obs) e1.m (some (.arr e t x))) μ w (w.alloc (.cells cs e)) e1.m (.arr e t x) (.slice (some ⟨w.heap.size,0,none⟩) n cap):=
  {
   other:=λc o' h y=>by simpa [B5,h]using y
   here:=by simp[B5]
   same:=λc h=>Dx (λe=>G (e ▸ h))
   step:=Gu _ _ _
   rest:=λc o' b h y H d=>bD _ _ _ (p.C8.On (by simpa [B5,h]using y) H d)
   new:=λb d=> .inr (by simp[blk]at d;omega)
   keys:=λc h=>by simp[He]at h}
 have z:Agb (Bs P X ρ (B5 (cur S e1.obs) e1.m (some (.arr e t x))) (D6 μ e1.m (.slice (some ⟨w.heap.size,0,none⟩) n cap)) (w.alloc (.cells cs e))) e1.m (.arr e t x):=by
  refine⟨ivs,cs.toList.take (n * Ag P e),A,B,o,?_,j.later.elems r,F⟩
  show World.ownsRow _ 0 e (Ag P e) (D6 μ e1.m _ e1.m) ivs.length _
  rw[Bl,C]
  refine⟨?_,.inr ⟨w.heap.size,cap,cs,rfl,bY _,heap_alloc_new w _,g,i,q,rfl⟩⟩
  simp_all
 have I: ∀c,K c\/c=e1.m->Ax K es.m (e1.m+1) c:=by
  rintro c (h | rfl)
  ·exact .inl h
  ·exact .inr ⟨by rw[p.m];omega,aW _⟩
 refine⟨?_,?_,?_,?_,?_,j.same⟩
 ·show Good P N X ρ (Ax K es.m (e1.m+1)) S.tm (cur S ((e1.m,some (.arr e t x))::e1.obs)) _ a _
  rw[Bz]
  exact j.C8 p.C8 z I
 ·exact⟨Bl.symm,_,_,_,rfl⟩
 ·intro k h
  simp[Ct,Ay,Bf,one]at h
  grind
 ·exact Gu _ _ _
 ·intro b d
  have d:Wr (cur S ((e1.m,some (.arr e t x))::e1.obs)) _ b:=d
  rw[Bz]at d
  exact(j.own p.C8 b d).imp p.Es.wr id
theorem Ahl {e t:TypeId}{x:Arg}{ivs:List IV}{cs:Array Value}{n cap:Nat}{e1:ES}(p:Ph P N X ρ K S μ a w es e1)(hfresh: ∀k,es.m<=k->k<e1.m+1-> ¬ K k)
  (i:x.ev ρ=some (.list ivs)) (j:P.underlying t=some (.slice e)) (d:0<Ag P e) (o:ivs.length=n) (b:n<=cap) (c:cap<=maxLen) (g:cs.size=cap * Ag P e)
  (h:Kr P w (Bs P X ρ (cur S e1.obs) μ w).O e ivs (cs.toList.take (n * Ag P e))) (q: ∀u∈cs,u.oneCell'=true) {rt:TypeId} {nn:Nat} :
  Out P N X ρ K S μ a w es {e1 with n:=nn,m:=e1.m+1,obs:=(e1.m,some (.arr e t x))::e1.obs} (one (.leaf (.ref e1.m rt))) (D6 μ e1.m (.slice (some ⟨w.heap.size,0,none⟩) n cap)) (w.alloc (.cells cs e)) (.slice (some ⟨w.heap.size,0,none⟩) n cap):=
 Abj p hfresh i j d o b c g h λu r=>q u (by grind)
end
end Go.CT
namespace Go.CT
open EM
theorem Afp (off:Nat): ∀ (vs:List Value) (k:Nat) (cells:Array Value),off+k+vs.length<=cells.size->
  ((vs.zipIdx k).foldl (fun(cs:Array Value) (p:Value × Nat)=>cs.setIfInBounds (off+p.2) p.1) cells).toList =cells.toList.take (off+k)++vs++cells.toList.drop (off+k+vs.length)
 | [],k,cells,_=>by simp
 | v::vs,k,cells,h=>by
  simp only[bC]at h
  rw[List.zipIdx_cons,cY,Afp off vs (k+1) _ (by simpa using(by omega:off+(k+1)+vs.length<=cells.size))]
  have d:off+k<cells.toList.length:=by simp;omega
  apply bQ
  intro j
  simp only[Array.toList_setIfInBounds]
  simp only[List.getElem?_append,aT,List.length_set,aL,bC,bH,List.getElem?_set,aR,List.getElem?_cons]
  have e1:min (off+(k+1)) cells.toList.length=off+(k+1):=by omega
  have e:min (off+k) cells.toList.length=off+k:=by omega
  rw[e1,e]
  by_cases b:j<off+k
  ·have a:j<off+(k+1):=by omega
   have a2: ¬ (off+k=j):=by omega
   simp[b,a,a2,show j<off+(k+1)+vs.length by omega,show j<off+k+(vs.length+1) by omega]
  ·by_cases g:j=off+k
   ·subst g
    simp[show off+k<off+(k+1) by omega,show off+k<off+(k+1)+vs.length by omega]
    omega
   ·by_cases c:j<off+k+(vs.length+1)
    ·have a: ¬ j<off+(k+1):=by omega
     have a3: ¬ (j - (off+k)=0):=by omega
     simp only[a,Zf,c,Zt,b,show j<off+(k+1)+vs.length by omega,a3]
     congr 1<;>omega
    ·have a: ¬ j<off+(k+1)+vs.length:=by omega
     simp only[a,Zf,c]
     have: ¬ (off+k=off+(k+1)+vs.length+(j - (off+(k+1)+vs.length))):=by omega
     simp only[this,Zf]
     congr 1;omega
def Bj (vs:List Value):List Value:=vs.flatMap λv=>v.cells.toList
theorem Eb {vs:List Value}{sz:Nat}(h: ∀v∈vs,v.cells.size=sz):(Bj vs).length =vs.length * sz:=by
 induction vs with
 | nil=>simp[Bj]
 | cons v vs a=>
  have:=a λu b=>h u (aV _ b)
  have c:=h v aS
  simp only[Bj,aP,aL,bC]at this ⊢
  rw[this,aC,c,bE,bZ,cF]
theorem Tx {sz:Nat} : ∀ {vs:List Value},(∀v∈vs,v.cells.size=sz)-> ∀ (j:Nat) (v:Value),vs[j]?=some v->((Bj vs).drop (j * sz)).take sz=v.cells.toList
 | [],_,j,v,a=>by simp at a
 | u::vs,h,j,v,a=>by
  have c:=h u aS
  have b:u.cells.toList.length=sz:=by rw[aC,c]
  cases j with
  | zero=>
   simp at a;subst a
   simp only[Bj,aP,bV,bL]
   rw[bT (by omega),<-b,List.take_length]
  | succ j=>
   have:=Tx (λw d=>h w (aV _ d)) j v (by simpa using a)
   rw[<-this]
   simp only[Bj,aP]
   rw[cE,cF,<-bG,List.drop_append_of_le_length (by omega),<-b,List.drop_length,cI]
theorem Gc (us vs:List Value):Bj (us++vs)=Bj us++Bj vs:=by simp[Bj]
theorem Gp {vs:List Value}(h: ∀v∈vs,∀u∈v.cells,u.oneCell'=true): ∀u∈Bj vs,u.oneCell'=true:=by
 intro u a
 simp only[Bj,bB]at a
 obtain⟨v,b,a⟩:=a
 exact h v b u (by simpa using a)
def Hv (P:Program)(w:World)(O:Nat->Prop)(e:TypeId):List IV->List Value->Prop
 | [],[]=>True
 | x::xs,v::vs=>(Rel P w O e x v/\v.cells.size=Ag P e)/\Hv P w O e xs vs
 | _,_=>False
section
variable {P:Program}{w:World}{O:Nat->Prop}{e:TypeId}
theorem Hv.len: ∀ {xs:List IV} {vs:List Value},Hv P w O e xs vs->xs.length=vs.length
 | [],[],_=>rfl
 | _::_,_::_,h=>by simp[Hv.len h.2]
 | [],_::_,h=>h.elim
 | _::_,[],h=>h.elim
theorem Hv.size: ∀ {xs:List IV} {vs:List Value},Hv P w O e xs vs-> ∀v∈vs,v.cells.size=Ag P e/\ ∀u∈v.cells,u.oneCell'=true
 | [],[],_=>by simp
 | _::_,_::_,h=>by
  intro v a
  rcases cQ.1 a with rfl | a
  ·exact⟨h.1.2,h.1.1.cells_one⟩
  ·exact Hv.size h.2 v a
 | [],_::_,h=>h.elim
 | _::_,[],h=>h.elim
theorem Hv.get: ∀ {xs:List IV} {vs:List Value},Hv P w O e xs vs-> ∀ (j:Nat) (x:IV),xs[j]?=some x-> ∃v,vs[j]?=some v/\Rel P w O e x v
 | [],[],_=>by simp
 | _::_,_::_,h=>by
  intro j x a
  cases j with
  | zero=>simp at a;subst a;exact⟨_,rfl,h.1.1⟩
  | succ j=>
   obtain⟨v,b,c⟩:=Hv.get h.2 j x (by simpa using a)
   exact⟨v,by simpa using b,c⟩
 | [],_::_,h=>h.elim
 | _::_,[],h=>h.elim
theorem Hv.append: ∀ {xs:List IV} {vs:List Value} {ys:List IV} {us:List Value},Hv P w O e xs vs->Hv P w O e ys us->Hv P w O e (xs++ys) (vs++us)
 | [],[],_,_,_,h=>h
 | _::_,_::_,_,_,h,h'=>⟨h.1,Hv.append h.2 h'⟩
 | [],_::_,_,_,h,_=>h.elim
 | _::_,[],_,_,h,_=>h.elim
theorem Hv.M9: ∀ {xs:List IV} {vs:List Value},xs.length=vs.length->(∀ (j:Nat) (x:IV) (v:Value),xs[j]?=some x->vs[j]?=some v->Rel P w O e x v/\v.cells.size=Ag P e)->Hv P w O e xs vs
 | [],[],_,_=>trivial
 | _::_,_::_,h,c=>⟨c 0 _ _ rfl rfl,Hv.M9 (by simpa using h) λj x v a b=>c (j+1) x v (by simpa using a) (by simpa using b)⟩
 | [],_::_,h,_=>by simp at h
 | _::_,[],h,_=>by simp at h
theorem Hv.elems {xs:List IV}{vs:List Value}(h:Hv P w O e xs vs):Kr P w O e xs (Bj vs):=by
 intro j x b
 obtain⟨v,a,c⟩:=h.get j x b
 have d:=h.size v (aU a)
 exact⟨v,c,(Tx (λu g=>(h.size u g).1) j v a).symm,d.1⟩
theorem Kr.Asc {xs:List IV}{cs:List Value}(h:Kr P w O e xs cs)(d:cs.length=xs.length * Ag P e): ∃vs,Hv P w O e xs vs/\cs=Bj vs:=by
 induction xs generalizing cs with
 | nil=>
  have:cs= []:=aM.1 (by simpa using d)
  subst this
  exact⟨[],trivial,rfl⟩
 | cons x xs i=>
  obtain⟨v,m,g,o⟩:=h 0 x rfl
  simp only[bV,bL]at g
  have a:Kr P w O e xs (cs.drop (Ag P e)):=by
   intro j y q
   obtain⟨u,b,c,r⟩:=h (j+1) y (by simpa using q)
   exact⟨u,b,by rw[c,bG,bE,bZ,cF],r⟩
  obtain⟨vs,b,c⟩:=i a (by rw[bF,d,bC,bE];omega)
  refine⟨v::vs,⟨⟨m,o⟩,b⟩,?_⟩
  show cs=v.cells.toList++Bj vs
  rw[g,<-c,List.take_append_drop]
theorem Amx.Asc {xs:List IV}{A:Option Addr}{c:Nat}(h:Amx P w O e xs A c): ∃vs,Hv P w O e xs vs/\(0<xs.length-> ∃ad,A=some ad/\ ∀ (j:Nat) (u:Value),(Bj vs)[j]?=some u->w.cell? (ad.add j)=some u):=by
 obtain⟨H,I,vs,C,F⟩:=h
 by_cases o:0<xs.length
 ·obtain⟨r,ad,rfl,t⟩:=C o
  have g:Hv P w O e xs ((dA xs.length).map vs):=Hv.M9 (by simp) λj x v y a=>by
   have b:=(aK.1 y).1
   simp[b]at a
   subst a
   exact⟨F j x y,(t j b).1⟩
  refine⟨_,g,λ_=>⟨ad,rfl,λq u z=>?_⟩⟩
  have hlen:=Eb (λv a=>(g.size v a).1)
  have B:=(aK.1 z).1
  rw[hlen,List.length_map,List.length_range]at B
  have b:q / Ag P e<xs.length:=(cL r).2 B
  have G:q % Ag P e<Ag P e:=dC _ r
  have i:=Tx (λv a=>(g.size v a).1) (q / Ag P e) (vs (q / Ag P e)) (by simp[b])
  have d:q / Ag P e * Ag P e+q % Ag P e=q:=by rw[dF];exact cZ q (Ag P e)
  have m:(vs (q / Ag P e)).cells.toList[q % Ag P e]?=some u:=by
   rw[<-i,aR,if_pos G,bH,d]
   exact z
  have:=(t _ b).2 (q % Ag P e) u (by simpa using m)
  rwa [Em,d]at this
 ·have:xs= []:=aM.1 (by omega)
  subst this
  exact⟨[],trivial,λh=>absurd h o⟩
theorem Arp {base size n cap h:Nat}{A:Option Addr}{xs:List Value}(j:w.ownsRow base e size (.slice A n cap) n xs)(i:h<=n):w.ownsRow base e size (.slice A h cap) h (xs.take (h * size)):=by
 obtain⟨m,d⟩:=j
 refine⟨by rw[aT,m];have:=aH size i;omega,?_⟩
 rcases d with⟨d,u⟩ | ⟨g,cap',cur,e1,o,q,x,e5,r,t⟩
 ·injection d with a b c
  subst a;subst c
  have:h=0:=by omega
  subst this
  exact .inl ⟨rfl,rfl⟩
 ·injection e1 with a b c
  subst a;subst c
  refine .inr ⟨g,cap,cur,rfl,o,q,by omega,e5,r,?_⟩
  rw[<-t,dD]
  congr 1
  have:=aH size i
  omega
theorem Yi (base:Nat){t ty:TypeId}{i:TypeInfo}{size:Nat}(d:P.underlying t=some (.slice e))(h:P.info? e=some i)
  (v:Value) (n c:Nat) (xs:List Value) (a:w.ownsRow base e size v n xs):(Builtin.append_ #[t,t] ty #[v,.slice none 0 c]).run P w= .ok v w:=by
 rcases a.2 with⟨rfl,rfl⟩ | ⟨g,cap,cur,rfl,_,_,b,_⟩
 ·simp[Builtin.append_,underlying,d,sizeOf,typeInfo,h,Builtin.lenOf,Builtin.firstCells]
 ·simp[Builtin.append_,underlying,d,sizeOf,typeInfo,h,Builtin.lenOf,Builtin.firstCells,b,storeCells]
end
end Go.CT
namespace Go.CT
open EM
section
variable {P:Program}{N:Nat}{X:Nat->Prop}{R:Job->List IV->Option (List IV)}{ρ:List IV}{K:Nat->Prop}{S:View}{μ:Nat->Value}{a:Act}{w:World}{es es':ES}{ls:List PLt}{sx:SX}
theorem H6 {v:Value}(h:v.oneCell'=true):v.cells= #[v]:=by cases v<;>simp_all[Value.cells,Value.oneCell']
theorem Rel.sized {O:Nat->Prop}{t:TypeId}{x:IV}{v:Value}(h:Rel P w O t x v)(c:Po P t=true):v.cells.size=Ag P t:=by
 unfold Po at c
 cases d:leaves P t with
 | none=>grind
 | some ts=>
  simp only[d,aB,beq_iff_eq,bO]at c
  by_cases e:Ak P t=true
  ·obtain⟨g,xs,cs,a,_,rfl,i⟩:=h.Afw e
   rw[d]at a;injection a with a;subst a
   have:=i.len.2
   simp only[Value.cells]
   grind
  ·have b:Ak P t=false:=by grind
   rw[(h.one b).2]
   grind
theorem Afs {c:Cx}{t:TypeId}{vv:VV}{v:Value}(h:Ma c.P t vv=true)(e:Mq c vv v):
  v.cells.size=Ag c.P t/\(if Ak c.P t then ∃cs,v= .agg cs else v.oneCell'=true)/\ ∀u∈v.cells,u.oneCell'=true:=by
 cases vv with
 | agg b cs=>
  simp only[Ma,aB,beq_iff_eq]at h
  obtain⟨⟨rfl,q⟩,a⟩:=h
  obtain⟨us,rfl,i⟩:=e
  refine⟨by rw[<-a,i.len];simp[Value.cells],by grind,λu j=>i.one u (by simpa [Value.cells]using j)⟩
 | leaf l=>
  have lone:l≠ .junk ->(∀x u,l≠ .at x u)->(!Ak c.P t&&Ag c.P t == 1)=true->v.cells.size=Ag c.P t/\(if Ak c.P t then ∃cs,v= .agg cs else v.oneCell'=true)/\ ∀u∈v.cells,u.oneCell'=true:=by
   intro m g a
   simp only[aB,bP,beq_iff_eq]at a
   obtain⟨r,w⟩:=Aav.one (c:=c) e m (λx u o=>absurd o (g x u))
   grind
  cases l with
  | «at» x b=>
   simp only[Ma,aB,beq_iff_eq]at h
   obtain⟨rfl,a⟩:=h
   obtain⟨iv,_,d⟩:=e
   exact⟨d.sized a,d.A3c,d.cells_one⟩
  | junk=>simp[Ma]at h
  | nil b=>exact lone (by simp) (by simp) h
  | ref k b=>exact lone (by simp) (by simp) h
  | sub k lo y b=>exact lone (by simp) (by simp) h
  | ptr p=>exact lone (by simp) (by simp) h
  | fn f z=>exact lone (by simp) (by simp) h
  | mref k t=>exact lone (by simp) (by simp) h
  | hid k=>exact lone (by simp) (by simp) h
  | cl x t=>exact lone (by simp) (by simp) h
  | st x t=>exact lone (by simp) (by simp) h
theorem A2y {t:TypeId}{x:Operand}(G:Good P N X ρ K S.tm (cur S es.obs) μ a w)(h:Ev S (do
   bare
   let v <-rd1 P x t
   EM.guard (Ma P t v)
   let k <-Hn
   Gr k (some (.box t v))
   pure (one (.leaf (.ptr (.p k 0)))):EM SX) es sx es' ls) (e:holds ρ es.gs=some true) (hfresh: ∀k,es.m<=k->k<es'.m-> ¬ K k):
  ∃v w' μ',(Instr.box t (a.eval x)).run P w= .ok v w'/\Out P N X ρ K S μ a w es es' sx μ' w' v:=by
 rw[Ab]at h
 obtain⟨_,_,_,_,b,h,rfl⟩:=h
 rw[Ea]at b
 obtain⟨_,rfl,rfl⟩:=b
 rw[Ab]at h
 obtain⟨vv,e1,u,_,g,h,rfl⟩:=h
 obtain⟨rfl,rfl,d,i⟩:=G9 G g e
 simp only[Ab,Af,C0,Bp,Ad]at h
 obtain⟨_,_,_,_,⟨j,rfl,rfl⟩,⟨_,_,_,_,⟨rfl,rfl,rfl⟩,⟨_,_,_,_,⟨rfl,rfl⟩,⟨rfl,rfl,rfl⟩,rfl⟩,rfl⟩,rfl⟩:=h
 obtain⟨o,q,r⟩:=Afs (c:=Bs P X ρ (cur S es.obs) μ w) j d
 refine⟨_,_,_,?_,Ahu (.refl G) hfresh d i o q r⟩
 simp[Instr.box,newVar,newRow]
theorem Au9 {t:TypeId}(G:Good P N X ρ K S.tm (cur S es.obs) μ a w)(h:Ev S (do
   bare
   let v <-ofOption (Yn P t)
   EM.guard (Aeq P t v)
   let k <-Hn
   Gr k (some (.box t v))
   pure (one (.leaf (.ptr (.p k 0)))):EM SX) es sx es' ls) (hfresh: ∀k,es.m<=k->k<es'.m-> ¬ K k):
  ∃v w' μ',(Instr.alloc t true (.tuple #[])).run P w= .ok v w'/\Out P N X ρ K S μ a w es es' sx μ' w' v:=by
 simp only[Ab,Ea,Ar,Af,C0,Bp,Ad]at h
 obtain⟨_,_,_,_,⟨_,rfl,rfl⟩,⟨vv,_,_,_,⟨b,rfl,rfl⟩,⟨_,_,_,_,⟨d,rfl,rfl⟩,⟨_,_,_,_,⟨rfl,rfl,rfl⟩,⟨_,_,_,_,⟨rfl,rfl⟩,⟨rfl,rfl,rfl⟩,rfl⟩,rfl⟩,rfl⟩,rfl⟩,rfl⟩:=h
 unfold Yn at b
 simp only[aG]at b
 cases e:P.info? t with
 | none=>grind
 | some i=>
  cases g:i.zero with
  | none=>grind
  | some z=>
   simp only[e,g,aO]at b
   obtain⟨j,C,q,r,F⟩:=Q0 (c:=Bs P X ρ (cur S es.obs) μ w) b
   have o:z.cells.size=Ag P t/\(if Ak P t then ∃cs,z= .agg cs else z.oneCell'=true):=by
    by_cases u:vv= .leaf .junk
    ·subst u
     simp only[Aeq,aB,bP,beq_iff_eq]at d
     have x:=q d.1
     rw[H6 x]
     grind
    ·have y:Ma P t vv=true:=by
      unfold Aeq at d
      grind
     obtain⟨A,B,_⟩:=Afs (c:=Bs P X ρ (cur S es.obs) μ w) y j
     exact⟨A,B⟩
   refine⟨_,_,_,?_,Ahu (.refl G) hfresh j (λk H=>by grind) o.1 o.2 r⟩
   simp[Instr.alloc,zeroValue,typeInfo,e,g,newVar,newRow]
theorem Zy {O:Nat->Prop}{t:TypeId}{v:Value}{l:LV}{x:IV}(h:N4 P t v=some l)(a:Ka l=some x):Rel P w O t x v:=by
 unfold N4 at h
 split at h
 ·split at h
  ·rename_i b;injection h with h;subst h;simp[Ka]at a;subst a;exact .int (Dk b)
  ·cases h
 ·split at h
  ·rename_i b;injection h with h;subst h;simp[Ka]at a;subst a;exact .bool (Cz b)
  ·cases h
 ·split at h
  ·rename_i b;injection h with h;subst h;simp[Ka]at a;subst a;exact .str (E4 b)
  ·cases h
 ·split at h
  ·rename_i b;injection h with h;subst h;simp[Ka]at a;subst a
   obtain⟨e,c⟩:=aE.1 b
   exact(Row.nil e none 0).rel (Bo c)
  ·cases h
 ·injection h with h;subst h;simp[Ka]at a
 ·injection h with h;subst h;simp[Ka]at a
 ·injection h with h;subst h;simp[Ka]at a
 ·injection h with h;subst h;simp[Ka]at a
 ·cases h
theorem Vw {O:Nat->Prop} : ∀ {ts:List TypeId} {vs:List Value} {ls:List LV} {xs:List IV},E5 P ts vs=some ls->Qm ls=some xs->Ix P w O ts xs vs
 | [],[],ls,xs,h,a=>by simp[E5]at h;subst h;simp[Qm]at a;subst a;trivial
 | t::ts,v::vs,ls,xs,h,a=>by
  simp only[E5,aY,aG]at h
  cases b:N4 P t v with
  | none=>grind
  | some l=>
   cases c:E5 P ts vs with
   | none=>grind
   | some ls'=>
    simp[b,c]at h;subst h
    simp only[Qm,aY,aG]at a
    cases d:Ka l with
    | none=>grind
    | some x=>
     cases e:Qm ls' with
     | none=>grind
     | some g=>
      simp[d,e]at a;subst a
      exact⟨Zy b d,Vw c e⟩
 | [],_::_,_,_,h,_=>by simp[E5]at h
 | _::_,[],_,_,h,_=>by simp[E5]at h
theorem Ug {O:Nat->Prop}{t:TypeId}{x:IV}(h:Ahm P t=some x): ∃i z,P.info? t=some i/\i.zero=some z/\Rel P w O t x z:=by
 unfold Ahm Yn at h
 simp only[aG]at h
 cases e:P.info? t with
 | none=>grind
 | some i=>
  cases c:i.zero with
  | none=>grind
  | some z=>
   simp only[e,c,aO]at h
   cases a:O5 P t z with
   | none=>grind
   | some vv=>
    simp only[a,aO]at h
    refine⟨i,z,rfl,c,?_⟩
    unfold O5 at a
    split at a
    ·rename_i cs
     split at a
     ·rename_i g
      simp only[aY,aG]at a
      cases b:leaves P t with
      | none=>grind
      | some ts=>
       cases d:E5 P ts cs.toList with
       | none=>grind
       | some ls=>
        simp[b,d]at a;subst a
        simp only[aI]at h
        obtain⟨xs,h,rfl⟩:=h
        exact(Vw d h).agg g b
     ·cases a
    ·split at a
     ·cases a
     ·simp only[aI]at a
      obtain⟨l,a,rfl⟩:=a
      exact Zy a h
theorem Pk {e:TypeId}(h:Pm P e=true): ∃i z,P.info? e=some i/\i.zero=some z/\z.cells.size=Ag P e/\i.size=Ag P e/\i.bytes=Kp P e:=by
 unfold Pm at h
 cases a:P.info? e with
 | none=>grind
 | some i=>
  cases b:i.zero with
  | none=>grind
  | some z=>
   simp only[a,b,beq_iff_eq]at h
   exact⟨i,z,rfl,b,by simp[Ag,a,h],by simp[Ag,a],by simp[Kp,a]⟩
theorem Aiq (z:Array Value)(sz l c:Nat)(a:z.size=sz)(e:0<sz)(h:l<=c):(madeCells z (c * sz)).toList.take (l * sz)=Bj (aD l (.agg z)):=by
 have hlen:(Bj (aD l (Value.agg z))).length =l * sz:=by
  rw[Eb (sz:=sz) (λv b=>by rw[(bI.1 b).2];exact a)]
  simp
 have hle:l * sz<=c * sz:=aH _ h
 apply bQ
 intro q
 by_cases g:q<l * sz
 ·rw[aR,if_pos g]
  have i:q / sz<l:=(cL e).2 g
  have j:q % sz<sz:=dC _ e
  have m:=Tx (sz:=sz) (vs:=aD l (Value.agg z)) (λv b=>by rw[(bI.1 b).2];exact a) (q / sz) (.agg z) (by simp[i])
  have o:q / sz * sz+q % sz=q:=by rw[dF];exact cZ q sz
  have:(Bj (aD l (Value.agg z)))[q]?=z.toList[q % sz]?:=by
   have t:(Value.agg z).cells.toList =z.toList:=rfl
   grind
  rw[this]
  have d:q<c * sz:=by omega
  have r:q % z.size<z.size:=by grind
  simp[madeCells,d,a,j]
 grind
theorem Adm {t:TypeId}{x y:Operand}(G:Good P N X ρ K S.tm (cur S es.obs) μ a w)(h:Ev S (Vc P t x y) es sx es' ls)(hl:LH R ρ ls)(H:holds ρ es.gs=some true)(hfresh: ∀k,es.m<=k->k<es'.m-> ¬ K k):
  ∃v w' μ',(Instr.makeSlice t (a.eval x) (a.eval y)).run P w= .ok v w'/\Out P N X ρ K S μ a w es es' sx μ' w' v:=by
 unfold Vc at h
 rw[Ab]at h
 obtain⟨_,_,_,_,o,h,rfl⟩:=h
 rw[Ea]at o
 obtain⟨_,rfl,rfl⟩:=o
 rw[Ab]at h
 obtain⟨e,_,_,_,o,h,rfl⟩:=h
 rw[Ar]at o
 obtain⟨he,rfl,rfl⟩:=o
 rw[Ab]at h
 obtain⟨_,_,_,_,o,h,rfl⟩:=h
 rw[Af]at o
 obtain⟨q,rfl,rfl⟩:=o
 simp only[aB,decide_eq_true_eq]at q
 obtain⟨⟨q,g2⟩,g3⟩:=q
 rw[Ab]at h
 obtain⟨lA,e2,l2,_,h2,h,rfl⟩:=h
 obtain⟨rfl,rfl,l,kl,I,J⟩:=T1 G h2 H
 rw[Ab]at h
 obtain⟨cA,e3,l3,_,h3,h,rfl⟩:=h
 obtain⟨rfl,rfl,c,kc,L,M⟩:=T1 G h3 H
 simp only[Ab,Ar,Bt,C0,Bp,Ad]at h
 obtain⟨zi,_,_,_,⟨hz,rfl,rfl⟩,⟨_,_,_,_,⟨rfl,rfl,rfl⟩,⟨_,_,_,_,⟨rfl,rfl,rfl⟩,⟨_,_,_,_,⟨rfl,rfl⟩,⟨rfl,rfl,rfl⟩,rfl⟩,rfl⟩,rfl⟩,rfl⟩:=h
 obtain⟨vs,iv,r1,r2,r3⟩:=LH.Cb hl.right.right.right.right.right.right.left H
 obtain⟨u,v,C,F,rfl⟩:=Afz r1
 rw[I]at C;rw[L]at F
 injection C with C;injection F with F;subst C;subst F
 simp only[Prim.ev]at r2
 split at r2
 ·rename_i T
  injection r2 with r2;subst r2
  obtain⟨i,z,U,Y,q3,q4,q5⟩:=Pk g3
  obtain⟨i',z',d,g,r⟩:=Ug (w:=w) (O:=λb=>X b\/Wr (cur S es.obs) μ b) hz
  rw[U]at d;injection d with d;subst d
  rw[Y]at g;injection g with g;subst g
  have Z:=Bo he
  have hb:(Kp P e:Int) * c<=140737488355328:=by
   have:Bc=140737488355328:=rfl
   grind
  have aa:c<=140737488355328:=by
   have h1:(1:Int)<=Kp P e:=by omega
   have:(1:Int) * c<=Kp P e * c:=Int.mul_le_mul_of_nonneg_right h1 (by omega)
   omega
  have A:=run_make (P:=P) w t e i z Z U Y kl kc l c T.1 T.2.1 (by grind) (by omega)
  rw[J,M]
  refine⟨_,_,D6 μ es.m (.slice (some ⟨w.heap.size,0,none⟩) l.toNat c.toNat),A,?_⟩
  rw[q4]
  have B:Hv P w (λb=>X b\/Wr (cur S es.obs) μ b) e (aD l.toNat zi) (aD l.toNat z):=
   Hv.M9 (by simp) λj x v hx hv=>by
    grind
  refine Ahl (es:=es) (e1:= {es with n:=es.n+1}) (ivs:=aD l.toNat zi) (n:=l.toNat) (cap:=c.toNat) (cs:=madeCells z.cells (c.toNat * Ag P e)) (.same G rfl rfl rfl) hfresh r3 Z q (by simp) (by omega) ?_ (size_madeCells _ _) ?_ ?_
  ·have:maxLen=9223372036854775807:=by decide
   omega
  ·rw[Aiq z.cells (Ag P e) l.toNat c.toNat q3 q (by omega)]
   have hh:Bj (aD l.toNat (Value.agg z.cells))=Bj (aD l.toNat z):=by
    simp only[Bj,cG]
    rfl
   rw[hh]
   exact B.elems
  ·intro u hu
   obtain⟨j,hj,rfl⟩:=cJ.1 hu
   have ab:j<c.toNat * Ag P e:=by simpa [size_madeCells]using hj
   have Q:j % z.cells.size<z.cells.size:=dC _ (by omega)
   have:(madeCells z.cells (c.toNat * Ag P e))[j]=z.cells[j % z.cells.size]'Q:=by
    simp[madeCells,Q]
   rw[this]
   exact r.cells_one _ (Array.getElem_mem Q)
 ·cases r2
end
end Go.CT
namespace Go.CT
open EM
def Amo:Nat->List Value->List (Nat × Value)
 | _,[]=> []
 | j,v::vs=>(j,v)::Amo (j+1) vs
theorem X6 {sz:Nat} : ∀ (vs:List Value) (j:Nat) (cells:Array Value),(∀v∈vs,v.cells.size=sz)->(j+vs.length) * sz<=cells.size->
  ∃cells',Instr.fill (λi=>some (i * sz,sz)) cells (Amo j vs)=some cells'/\cells'.toList=cells.toList.take (j * sz)++Bj vs++cells.toList.drop ((j+vs.length) * sz)
 | [],j,cells,_,_=>⟨cells,rfl,by simp[Bj]⟩
 | v::vs,j,cells,o,g=>by
  have b:=o v aS
  have A:j * sz+sz<=cells.size:=by
   have:(j+1) * sz<=(j+(vs.length+1)) * sz:=aH _ (by omega)
   simp only[bC]at g
   rw[bE,bZ]at this
   omega
  have h:=Afp (j * sz) v.cells.toList 0 cells (by simp[b];omega)
  let cells1:=(v.cells.toList.zipIdx 0).foldl (fun(cs:Array Value) (p:Value × Nat)=>cs.setIfInBounds (j * sz+p.2) p.1) cells
  have d:cells1.toList=cells.toList.take (j * sz)++v.cells.toList++cells.toList.drop (j * sz+sz):=by
   have:=h
   simp only[bU,aC,b]at this
   exact this
  have e:cells1.size=cells.size:=by
   have:=congrArg List.length d
   simp only[aC,aL,aT,bF,b]at this
   omega
  obtain⟨cells',r,t⟩:=X6 vs (j+1) cells1 (λu w=>o u (aV _ w)) (by rw[e];simp only[bC]at g;rw[dE,cF 1];exact g)
  refine⟨cells',?_,?_⟩
  ·simp only[Amo,Instr.fill]
   have a:(decide (v.cells.size≠sz)||decide (j * sz+v.cells.size > cells.size))=false:=by simp[b];omega
   rw[a]
   simp only[aJ,Zf]
   have:v.cells.zipIdx.foldl (λcs x=>match x with | (c,j_1)=>cs.setIfInBounds (j * sz+j_1) c) cells=cells1:=by
    show _=(v.cells.toList.zipIdx 0).foldl _ cells
    rw[<-cS]
    simp
   rw[this]
   exact r
  ·rw[t,d]
   have e1:(j+1) * sz=j * sz+sz:=by rw[bE,bZ]
   have q:(j+1+vs.length) * sz=j * sz+sz+vs.length * sz:=by rw[bE,e1]
   have y:(j+(v::vs).length) * sz=j * sz+sz+vs.length * sz:=by rw[bC,<-q];congr 1;omega
   have B:(cells.toList.take (j * sz)).length =j * sz:=by rw[aT,aC];omega
   have C:v.cells.toList.length=sz:=by rw[aC,b]
   rw[e1,q,y]
   have z:(cells.toList.take (j * sz)++v.cells.toList++cells.toList.drop (j * sz+sz)).take (j * sz+sz)=cells.toList.take (j * sz)++v.cells.toList:=by
    rw[bT (by rw[aL];omega),aZ (by rw[aL];omega)]
   have t2:(cells.toList.take (j * sz)++v.cells.toList++cells.toList.drop (j * sz+sz)).drop (j * sz+sz+vs.length * sz)=cells.toList.drop (j * sz+sz+vs.length * sz):=by
    have m:(cells.toList.take (j * sz)++v.cells.toList).length =j * sz+sz:=by rw[aL];omega
    rw[<-bG,List.drop_left' m,bG]
   rw[z,t2]
   simp[Bj]
section
variable {P:Program}{N:Nat}{X:Nat->Prop}{R:Job->List IV->Option (List IV)}{ρ:List IV}{K:Nat->Prop}{S:View}{μ:Nat->Value}{a:Act}{w:World}{es es':ES}{ls:List PLt}{sx:SX}
theorem Hv.later {c c':Cx}(L:Ek K c c'){e:TypeId} : ∀ {xs:List IV} {vs:List Value},Hv c.P c.w c.O e xs vs->Hv c'.P c'.w c'.O e xs vs
 | [],[],_=>trivial
 | _::_,_::_,h=>⟨⟨L.rel h.1.1,by rw[L.P];exact h.1.2⟩,Hv.later L h.2⟩
 | [],_::_,h=>h.elim
 | _::_,[],h=>h.elim
theorem P7 {e:TypeId}(b:Po P e=true): ∀ {parts:List (Nat × Operand)} {j:Nat} {es es':ES} {as:List Arg} {ls:List PLt},Good P N X ρ K S.tm (cur S es.obs) μ a w->Ev S (M0 P e parts j) es as es' ls->LH R ρ ls->holds ρ es.gs=some true->
  Ph P N X ρ K S μ a w es es'/\ ∃xs,Arg.evs ρ as=some xs/\Hv P w (Bs P X ρ (cur S es'.obs) μ w).O e xs (parts.map λp=>a.eval p.2)/\parts.map (λp=>(p.1,a.eval p.2))=Amo j (parts.map λp=>a.eval p.2)
 | [],j,es,es',as,ls,G,h,c,d=>by
  unfold M0 at h
  rw[Ad]at h
  obtain⟨rfl,rfl,rfl⟩:=h
  exact⟨.refl G,[],rfl,trivial,rfl⟩
 | (i,x)::J,j,es,es',as,ls,G,h,c,d=>by
  unfold M0 at h
  rw[Ab]at h
  obtain⟨_,_,_,_,g,h,rfl⟩:=h
  rw[Af]at g
  obtain⟨m,rfl,rfl⟩:=g
  have:i=j:=by simpa using m
  subst this
  rw[Ab]at h
  obtain⟨vv,e1,L,_,o,h,rfl⟩:=h
  obtain⟨rfl,rfl,t,u⟩:=G9 G o d
  rw[Ab]at h
  obtain⟨y,M,Q,_,A,h,rfl⟩:=h
  have c:=c.right.right
  obtain⟨p,_,B⟩:=E3 G A c.left d u t
  simp only[Ab,Ad]at h
  obtain⟨r,T,U,_,C,⟨rfl,rfl,rfl⟩,rfl⟩:=h
  obtain⟨q,xs,F,H,I⟩:=P7 b p.C8 C c.right.left (by rw[p.gs];exact d)
  obtain⟨z,d1,d2⟩:=q.later.A4g (B rfl)
  exact⟨p.trans q,z::xs,Gx d1 F,⟨⟨d2,d2.sized b⟩,H⟩,by simp only[cR,Amo,I]⟩
theorem Aa4 {t:TypeId}{len:Nat}{parts:Array (Nat × Operand)}(G:Good P N X ρ K S.tm (cur S es.obs) μ a w)(h:Ev S (R4 P t len parts) es sx es' ls)(B:LH R ρ ls)(I:holds ρ es.gs=some true)(hfresh: ∀k,es.m<=k->k<es'.m-> ¬ K k):
  ∃v w' μ',(Instr.buildSlice t len (parts.map fun(i,x)=>(i,a.eval x))).run P w= .ok v w'/\Out P N X ρ K S μ a w es es' sx μ' w' v:=by
 unfold R4 at h
 rw[Ab]at h
 obtain⟨_,_,_,_,d,h,rfl⟩:=h
 rw[Ea]at d
 obtain⟨_,rfl,rfl⟩:=d
 rw[Ab]at h
 obtain⟨e,_,_,_,d,h,rfl⟩:=h
 rw[Ar]at d
 obtain⟨T,rfl,rfl⟩:=d
 rw[Ab]at h
 obtain⟨_,_,_,_,d,h,rfl⟩:=h
 rw[Af]at d
 obtain⟨C,rfl,rfl⟩:=d
 simp only[aB,decide_eq_true_eq,beq_iff_eq]at C
 obtain⟨⟨⟨⟨C,J⟩,L⟩,U⟩,Y⟩:=C
 rw[Ab]at h
 obtain⟨as,e1,l1,_,Z,h,rfl⟩:=h
 have B:=B.right.right.right
 obtain⟨p,xs,q1,j,q3⟩:=P7 Y G Z B.left I
 simp only[Ab,Bt,C0,Bp,Ad]at h
 obtain⟨_,_,_,_,⟨rfl,rfl,rfl⟩,⟨_,_,_,_,⟨rfl,rfl,rfl⟩,⟨_,_,_,_,⟨rfl,rfl⟩,⟨rfl,rfl,rfl⟩,rfl⟩,rfl⟩,rfl⟩:=h
 obtain⟨vs,iv,r1,r2,r3⟩:=LH.Cb B.right.left (by rw[p.gs];exact I)
 rw[q1]at r1;injection r1 with r1;subst r1
 simp only[Prim.ev,aA]at r2;subst r2
 obtain⟨i,z,F,z2,z3,z4,z5⟩:=Pk U
 have H:=Bo T
 have hlen:(parts.toList.map λp=>a.eval p.2).length =len:=by simp[L]
 have o:=j.len
 rw[hlen]at o
 let vs0:=parts.toList.map λp=>a.eval p.2
 have aa:(if len * Ag P e=0 then(#[]:Array Value) else z.cells)=if len * Ag P e=0 then #[]else z.cells:=rfl
 let cells0:Array Value:=(Array.range (len * Ag P e)).map ((if len * Ag P e=0 then(#[]:Array Value) else z.cells)[· % (if len * Ag P e=0 then(#[]:Array Value) else z.cells).size]!)
 have q:cells0.size=len * Ag P e:=by simp[cells0]
 obtain⟨cells',M,f2⟩:=X6 (sz:=Ag P e) vs0 0 cells0 (λv r=>(j.size v r).1) (by rw[q,cT];exact aH _ (by simp[vs0,L]))
 have y:vs0.length=len:=hlen
 have g:cells'.toList=Bj vs0:=by
  rw[f2,bV,List.take_zero,cI,cT,y,bR (by rw[aC,q];exact bA _),List.append_nil]
 have A:cells'.size=len * Ag P e:=by
  rw[<-aC,g,Eb (sz:=Ag P e) (λv r=>(j.size v r).1),y]
 refine⟨.slice (some ⟨w.heap.size,0,none⟩) len len,w.alloc (.cells cells' e),D6 μ e1.m (.slice (some ⟨w.heap.size,0,none⟩) len len),?_,?_⟩
 ·have hparts:(parts.map fun(x:Nat × Operand)=>match x with | (i,x)=>(i,a.eval x)).toList =Amo 0 vs0:=by
   rw[cV]
   have:(fun(x:Nat × Operand)=>match x with | (i,x)=>(i,a.eval x))=λp=>(p.1,a.eval p.2):=by funext ⟨i,x⟩;rfl
   rw[this];exact q3
  unfold Instr.buildSlice
  have Q: ¬ (len * Ag P e > 2 ^ 24):=by omega
  by_cases c:len * Ag P e=0
  ·simp only[underlying,Sem.run_bind,run_program,Result.andThen_ok,H,Sem.run_pure,run_sizeOf F,if_neg Q,if_pos c,hparts]
   have b:=M
   simp only[cells0,if_pos c]at b
   rw[b]
   simp[newRow]
  ·simp only[underlying,Sem.run_bind,run_program,Result.andThen_ok,H,Sem.run_pure,run_sizeOf F,if_neg Q,if_neg c,hparts,zeroValue,typeInfo,F,z2]
   have b:=M
   simp only[cells0,if_neg c]at b
   rw[b]
   simp[newRow]
 ·refine Ahl (es:=es) (e1:= {e1 with n:=e1.n+1}) (ivs:=xs) (n:=len) (cap:=len) (cs:=cells') ⟨p.C8,p.Es,p.m,p.gs⟩ hfresh r3 H J o (bA _) ?_ A ?_ ?_
  ·have:maxLen=9223372036854775807:=by decide
   have:=cC len J
   omega
  ·rw[aZ (by rw[aC,A];exact bA _),g]
   exact j.elems
  ·intro u hu
   have:u∈cells'.toList:=by simpa using hu
   rw[g]at this
   exact Gp (λv r=>(j.size v r).2) u this
theorem S9 (A:Option Addr)(n c:Nat):blk (.slice A n c)=(Value.slice A n c).ownBlock :=by cases A<;>rfl
theorem Rl {e:TypeId}{sv:VV}{old:Option Nat}{c:Arg}{v:Value}(G:Good P N X ρ K S.tm (cur S es.obs) μ a w)(h:Ev S (Tq P e sv) es (old,c) es' ls)(hl:LH R ρ ls)(hg:holds ρ es.gs=some true)
  (g:Mq (Bs P X ρ (cur S es.obs) μ w) sv v) (hs:0<Ag P e):
  (∃n,es'= {es with n})/\ ∃ivs cs,c.ev ρ=some (.list ivs)/\w.ownsRow 0 e (Ag P e) v ivs.length cs/\Kr P w (Bs P X ρ (cur S es.obs) μ w).O e ivs cs/\
   (old=none->v= .slice none 0 0)/\ ∀k,old=some k->(∃t H,cur S es.obs k=some (.arr e t H))/\v.ownBlock=blk (μ k):=by
 unfold Tq at h
 split at h
 ·rw[Ad]at h
  obtain⟨i,rfl,rfl⟩:=h
  injection i with i z;subst i;subst z
  have g:v= .slice none 0 0:=g
  subst g
  exact⟨⟨es.n,rfl⟩,[],[],rfl,World.ownsRow_nil _ _ _ _,λj x B=>by simp at B,λ_=>rfl,λk m=>by cases m⟩
 ·rename_i k t
  obtain⟨g,_⟩:=g
  have g:v=μ k:=g
  subst g
  rw[Ab]at h
  obtain⟨o,_,_,l2,C,h,rfl⟩:=h
  rw[B6]at C
  obtain⟨q,rfl,rfl⟩:=C
  cases o with
  | box=>simp[Ac]at h
  | frz=>simp[Ac]at h
  | iter=>simp[Ac]at h
  | mp=>simp[Ac]at h
  | arr e' tt H=>
   simp only[Ab,Af,Ad]at h
   obtain⟨_,_,_,_,⟨I,rfl,rfl⟩,⟨i,rfl,rfl⟩,rfl⟩:=h
   have:e=e':=by simpa using I
   subst this
   injection i with i z;subst i;subst z
   obtain⟨ivs,cs,J,q2,q3,L,M,q6⟩:=G.obj k _ q
   refine⟨⟨es.n,rfl⟩,ivs,cs,J,L,M,(λh=>by cases h),λk' m=>?_⟩
   injection m with m;subst m
   refine⟨⟨_,_,q⟩,?_⟩
   obtain⟨_,_,_,_,Q,_⟩:=G.Asb q
   rw[Q,S9]
 ·rename_i k hi t
  obtain⟨A,n,cap,l,r,d,p0,p1,p2,p3,p4,p5,p6⟩:=g
  have T:(Arg.k (.int 0)).ev ρ=some (.int l):=p2
  simp only[Arg.ev,aA,IV.int.injEq]at T
  have U:l=0:=by omega
  subst U
  rw[Ab]at h
  obtain⟨o,_,_,l2,C,h,rfl⟩:=h
  rw[B6]at C
  obtain⟨q,rfl,rfl⟩:=C
  cases o with
  | box=>simp[Ac]at h
  | frz=>simp[Ac]at h
  | iter=>simp[Ac]at h
  | mp=>simp[Ac]at h
  | arr e' tt H=>
   simp only[Ab,Af,Bt,Ad]at h
   obtain⟨_,_,_,_,⟨I,rfl,rfl⟩,⟨_,_,_,_,⟨rfl,rfl,rfl⟩,⟨i,rfl,rfl⟩,rfl⟩,rfl⟩:=h
   simp only[aB,beq_iff_eq]at I
   obtain⟨rfl,g2⟩:=I
   have Y:d=e:=by
    have:=Bo g2
    have b:P.underlying t=some (.slice d):=p0
    rw[this]at b;injection b with b;injection b with b;exact b.symm
   subst Y
   injection i with i z;subst i;subst z
   obtain⟨ivs,cs,J,q2,q3,L,M,q6⟩:=G.obj k _ q
   obtain⟨_,A',cap',q1'',q2'',_⟩:=G.Asb q
   have q1s:H.ev ρ=some (.list ivs):=J
   rw[q1s]at q1'';injection q1'' with q1'';injection q1'' with q1'';subst q1''
   have F:μ k= .slice A n cap:=p1
   rw[q2'']at F;injection F with i1 i2 i3
   subst i1;subst i2;subst i3
   obtain⟨vs,y,r1,r2,r3⟩:=LH.Cb hl.right.right.left hg
   obtain⟨rfl,_,Z⟩:=Ss (l:=0) (_n:=0) J (by rfl) p3 r1 r2
   have g:v= .slice A' r cap':=by
    rw[p6]
    simp only[bV,Nat.sub_zero]
    split
    ·rfl
    ·congr 1
     cases A' with
     | none=>rfl
     | some ad=>simp[Bg]
   subst g
   rw[bL]at r3
   have aa:w.ownsRow 0 d (Ag P d) (.slice A' ivs.length cap') ivs.length cs:=by
    have:w.ownsRow 0 d (Ag P d) (μ k) ivs.length cs:=L
    rwa [q2'']at this
   have hr:(ivs.take r).length =r:=by rw[aT];omega
   refine⟨⟨es.n+1,rfl⟩,ivs.take r,cs.take (r * Ag P d),r3,by rw[hr];exact Arp aa Z,?_,(λh=>by cases h),λk' m=>?_⟩
   ·intro j x B
    have hj:=(aK.1 B).1
    rw[hr]at hj
    rw[aR,if_pos hj]at B
    obtain⟨u,t1,t2,t3⟩:=M j x B
    refine⟨u,t1,?_,t3⟩
    rw[t2,List.drop_take,dD]
    congr 1
    have:j * Ag P d+Ag P d<=r * Ag P d:=by rw[<-cE];exact aH _ hj
    show Ag P d=min (Ag P d) _
    omega
   ·injection m with m;subst m
    exact⟨⟨_,_,q⟩,by rw[q2'',S9];cases A'<;>rfl⟩
 ·simp[Ac]at h
end
end Go.CT
namespace Go.CT
open EM
section
variable {P:Program}{N:Nat}{X:Nat->Prop}{R:Job->List IV->Option (List IV)}{ρ:List IV}{K:Nat->Prop}{S:View}{μ:Nat->Value}{a:Act}{w:World}{es es':ES}{ls:List PLt}{sx:SX}
theorem Aqx {st xt rt:TypeId}{s x:Operand}(G:Good P N X ρ K S.tm (cur S es.obs) μ a w)(h:Ev S (Ami P st xt s x rt) es sx es' ls)(hl:LH R ρ ls)(hg:holds ρ es.gs=some true)(hfresh: ∀k,es.m<=k->k<es'.m-> ¬ K k):
  ∃v w' μ',(Builtin.append_ #[st,xt] rt #[a.eval s,a.eval x]).run P w= .ok v w'/\Out P N X ρ K S μ a w es es' sx μ' w' v:=by
 unfold Ami at h
 rw[Ab]at h
 obtain⟨_,_,_,_,I,h,rfl⟩:=h
 rw[Ea]at I
 obtain⟨_,rfl,rfl⟩:=I
 rw[Ab]at h
 obtain⟨e,_,_,_,I,h,rfl⟩:=h
 rw[Ar]at I
 obtain⟨he,rfl,rfl⟩:=I
 rw[Ab]at h
 obtain⟨_,_,_,_,I,h,rfl⟩:=h
 rw[Af]at I
 obtain⟨U,rfl,rfl⟩:=I
 simp only[aB,decide_eq_true_eq,beq_iff_eq]at U
 obtain⟨⟨⟨U,g2⟩,rfl⟩,g4⟩:=U
 rw[Ab]at h
 obtain⟨sv,e1,l1,_,J,h,rfl⟩:=h
 obtain⟨rfl,rfl,sv3,sv4⟩:=G9 G J hg
 rw[Ab]at h
 obtain⟨xv,e1,l1,_,J,h,rfl⟩:=h
 obtain⟨rfl,rfl,xv3,xv4⟩:=G9 G J hg
 have hl:=hl.right.right.right.right.right
 rw[Ab]at h
 obtain⟨y,B,l2,_,M,h,rfl⟩:=h
 obtain⟨p,hB,_⟩:=E3 G M hl.left hg xv4 xv3
 have ab:holds ρ B.gs=some true:=by rw[p.gs];exact hg
 rw[Ab]at h
 obtain⟨⟨old,c⟩,e3,l3,_,Y,h,rfl⟩:=h
 obtain⟨⟨n3,rfl⟩,ivs,cs,q1,q2,q3,q4,q5⟩:=Rl p.C8 Y hl.right.left ab (p.later.Ash sv4 sv3) U
 simp only[Ab,Bt,C0,Bp,Ad]at h
 obtain⟨_,_,_,_,⟨rfl,rfl,rfl⟩,⟨_,d,l4,_,L,⟨_,_,_,_,⟨rfl,rfl,rfl⟩,⟨_,_,_,_,⟨rfl,rfl⟩,⟨rfl,rfl,rfl⟩,rfl⟩,rfl⟩,rfl⟩,rfl⟩:=h
 obtain⟨vs,iv,r1,r2,r3⟩:=LH.Cb hl.right.right.left ab
 obtain⟨u,v,s1,s2,rfl⟩:=Afz r1
 rw[q1]at s1;injection s1 with s1;subst s1
 have ht:=Bo he
 obtain⟨yiv,b1,b2,b3⟩:=hB
 obtain⟨ys,A,cap,rfl,hx,ac⟩:=b3 e ht
 have ai:y.ev ρ=some (.list ys):=b1
 rw[ai]at s2;injection s2 with s2;subst s2
 simp only[Prim.ev]at r2
 split at r2
 ·rename_i hbytes
  injection r2 with r2;subst r2
  obtain⟨i,z,z1,z2,z3,z4,z5⟩:=Pk g4
  have aj:Bc=140737488355328:=rfl
  have ao:maxLen=9223372036854775807:=by decide
  have T:ivs.length+ys.length<=maxLen:=by
   have:=cC (ivs.length+ys.length) g2
   omega
  obtain⟨us,Q,hcells⟩:=ac.Asc
  have ae:=Q.len
  -- what the machine does
  have run: ∃r w',(Builtin.append_ #[st,st] rt #[a.eval s,a.eval x]).run P w= .ok r w'/\w'.ownsRow 0 e (Ag P e) r (ivs.length+ys.length) (cs++Bj us)/\w.grownBy w' (a.eval s).ownBlock /\
    (r.ownBlock=(a.eval s).ownBlock \/r.ownBlock=some w.heap.size):=by
   rw[hx]
   by_cases I:0<ys.length
   ·obtain⟨ad,rfl,ak⟩:=hcells I
    obtain⟨r,w',t1,t2,t3,_,t4⟩:=run_append_own_at (P:=P) w 0 st rt e i z (Ag P e) (Kp P e) ht z1 z2 z4 z5 z3 U (a.eval s) ivs.length cs q2 ad ys.length cap (Bj us)
     (by have:=Eb (sz:=Ag P e) (vs:=us) (λv hv=>(Q.size v hv).1);rw[this,<-ae]) ak (Gp λv hv=>(Q.size v hv).2) T (by omega) (bY _)
    exact⟨r,w',t1,t2,t3,t4⟩
   ·have hy:ys= []:=aM.1 (by omega)
    subst hy
    have hu:us= []:=aM.1 (by rw[<-ae];rfl)
    subst hu
    cases A with
    | none=>
     refine⟨a.eval s,w,Yi 0 ht z1 _ _ cap _ q2,?_,⟨rfl,rfl,rfl,bA _,λ_ _ _=>rfl⟩,.inl rfl⟩
     simpa [Bj]using q2
    | some ad=>
     obtain⟨r,w',t1,t2,t3,_,t4⟩:=run_append_own_at (P:=P) w 0 st rt e i z (Ag P e) (Kp P e) ht z1 z2 z4 z5 z3 U (a.eval s) ivs.length cs q2 ad 0 cap []
      (by simp) (λj u h=>by simp at h) (λu h=>by simp at h) T (by rw[<-aj];exact hbytes) (bY _)
     exact⟨r,w',t1,by simpa [Bj]using t2,t3,t4⟩
  obtain⟨r,w',t1,t2,t3,t4⟩:=run
  -- what has become of the state
  obtain⟨A',n',cap',af⟩: ∃A n c,r= .slice A n c:=by
   rcases t2.2 with⟨h,_⟩ | ⟨g,cap,cu,h,_⟩
   ·exact⟨_,_,_,h⟩
   ·exact⟨_,_,_,h⟩
  have Z:blk r=r.ownBlock:=by rw[af,S9]
  -- the old row's block is ours
  have hold: ∀b,(a.eval s).ownBlock =some b-> ∃k t c0,old=some k/\cur S B.obs k=some (.arr e t c0)/\blk (μ k)=some b:=by
   intro b q
   cases old with
   | none=>rw[q4 rfl]at q;simp[Value.ownBlock]at q
   | some k=>
    obtain⟨⟨t,c0,J⟩,M⟩:=q5 k rfl
    exact⟨k,t,c0,rfl,J,by rw[<-M];exact q⟩
  obtain⟨ag,ah,ap⟩:cur S d.obs=(match old with | some k=>B5 (cur S B.obs) k none | none=>cur S B.obs)/\d.m=B.m/\d.gs=B.gs:=by
   unfold Ry at L
   cases old with
   | none=>rw[Ad]at L;obtain⟨_,rfl,_⟩:=L;exact⟨rfl,rfl,rfl⟩
   | some k=>
    rw[Bp]at L
    obtain⟨rfl,_⟩:=L
    exact⟨by rw[show({n:=B.n,m:=B.m,gs:=B.gs,obs:=(k,none)::B.obs} :ES).obs =(k,none)::B.obs from rfl]<;>exact Bz ..,rfl,rfl⟩
  have hm: ¬ K d.m:=hfresh d.m (by rw[ah,p.m];exact bA _) (aW _)
  have H: ∀k o,cur S d.obs k=some o->cur S B.obs k=some o/\old≠some k:=by
   intro k o F
   rw[ag]at F
   cases old with
   | none=>exact⟨F,by simp⟩
   | some k0=>
    simp only[B5]at F
    split at F
    ·cases F
    ·rename_i aa
     exact⟨F,by simpa using λh=>aa h.symm⟩
  have hP:Put P X ρ K (cur S B.obs) (B5 (cur S d.obs) d.m (some (.arr e st (.v n3)))) μ w w' d.m (.arr e st (.v n3)) r:=
   {
    other:=λC o' h F=>(H C o' (by simpa [B5,h]using F)).1
    here:=by simp[B5]
    same:=λC h=>Dx (λe=>hm (e ▸ h))
    step:=⟨t3.os,t3.tape,t3.output,t3.size,λb q hW=>t3.block b q (λh=>by
     obtain⟨k,t,c0,_,M,Y⟩:=hold b h.symm
     exact hW ⟨k,_,M,rfl,Y⟩)⟩
    rest:=λC o' b h F hi q=>by
     obtain⟨J,M⟩:=H C o' (by simpa [B5,h]using F)
     refine t3.block b (p.C8.On J hi q) (λal=>?_)
     obtain⟨k,t,c0,Y,L,h5⟩:=hold b al.symm
     have:=p.C8.sep C k _ _ b J L hi rfl q h5
     subst this
     exact M Y
    new:=λb q=>by
     rw[Z]at q
     rcases t4 with h | h
     ·rw[h]at q
      obtain⟨k,t,c0,Y,L,h5⟩:=hold b q
      refine .inl ⟨⟨k,_,L,rfl,h5⟩,λC o' aa F hi am=>?_⟩
      obtain⟨J,M⟩:=H C o' (by simpa [B5,aa]using F)
      have:=p.C8.sep C k _ _ b J L hi rfl am h5
      subst this
      exact M Y
     ·rw[h]at q;injection q with q;exact .inr (by omega)
    keys:=λC h=>by simp[He]at h}
  obtain⟨vs0,w1,w2⟩:=q3.Asc (by
   have:=q2.1
   omega)
  have hE:Hv P w (Bs P X ρ (cur S B.obs) μ w).O e (ivs++ys) (vs0++us):=w1.append Q
  have an:Agb (Bs P X ρ (B5 (cur S d.obs) d.m (some (.arr e st (.v n3)))) (D6 μ d.m r) w') d.m (.arr e st (.v n3)):=by
   refine⟨ivs++ys,cs++Bj us,r3,ht,U,?_,hP.later.elems ?_,?_⟩
   ·show World.ownsRow _ 0 e (Ag P e) (D6 μ d.m r d.m) _ _
    rw[Bl,aL]
    exact t2
   ·rw[w2,<-Gc]
    exact hE.elems
   ·rw[w2,<-Gc]
    exact Gp λv hv=>(hE.size v hv).2
  have hK: ∀C,K C\/C=d.m->Ax K es.m (d.m+1) C:=by
   rintro C (h | rfl)
   ·exact .inl h
   ·exact .inr ⟨by rw[ah,p.m];exact bA _,aW _⟩
  refine⟨r,w',D6 μ d.m r,t1,?_,?_,?_,?_,?_,hP.same⟩
  ·show Good P N X ρ (Ax K es.m (d.m+1)) S.tm (cur S ((d.m,some (.arr e st (.v n3)))::d.obs)) _ a _
   rw[Bz]
   exact hP.C8 p.C8 an hK
  ·exact⟨Bl.symm,_,_,_,af⟩
  ·intro k h
   simp[Ct,Ay,Bf,one]at h
   subst h
   exact hK _ (.inr rfl)
  ·have:=hP.step
   exact⟨this.os,this.tape,this.output,this.size,λb q hW=>this.stays b q λh=>hW (p.Es.wr h)⟩
  ·intro b q
   have q:Wr (cur S ((d.m,some (.arr e st (.v n3)))::d.obs)) _ b:=q
   rw[Bz]at q
   exact(hP.own p.C8 b q).imp p.Es.wr id
 ·cases r2
theorem Eo.Aoo {c:Cx}{cs new:List LV}{vs us:List Value}(h:Eo c cs vs)(h':Eo c new us)(off:Nat):
  Eo c (cs.take off++new++cs.drop (off+new.length)) (vs.take off++us++vs.drop (off+us.length)):=by
 rw[h'.len]
 exact((h.take off).append h').append (h.drop _)
theorem Qc {place:Nat->Option (Nat × TypeId)}{place':Nat->Option (Nat × Nat)}(hp: ∀i off t,place i=some (off,t)->place' i=some (off,Ag P t)):
  ∀ {parts:List (Nat × Operand)} {cs r:List LV} {cells:Array Value} {es es':ES} {ls:List PLt},Good P N X ρ K S.tm (cur S es.obs) μ a w->Ev S (M5 P place parts cs) es r es' ls->LH R ρ ls->holds ρ es.gs=some true->
  Eo (Bs P X ρ (cur S es.obs) μ w) cs cells.toList->(∀k∈cs.flatMap Bf,K k)->
  (∃n,es'= {es with n})/\ ∃cells',Instr.fill place' cells (parts.map λp=>(p.1,a.eval p.2))=some cells'/\Eo (Bs P X ρ (cur S es.obs) μ w) r cells'.toList/\ ∀k∈r.flatMap Bf,K k
 | [],cs,r,cells,es,es',ls,G,h,g,o,q,u=>by
  unfold M5 at h
  rw[Ad]at h
  obtain⟨rfl,rfl,rfl⟩:=h
  exact⟨⟨es.n,rfl⟩,cells,rfl,q,u⟩
 | (i,x)::ps,cs,r,cells,es,es',ls,G,h,g,o,q,u=>by
  unfold M5 at h
  rw[Ab]at h
  obtain⟨⟨off,t⟩,_,_,_,j,h,rfl⟩:=h
  rw[Ar]at j
  obtain⟨F,rfl,rfl⟩:=j
  rw[Ab]at h
  obtain⟨vv,e1,l1,_,H,h,rfl⟩:=h
  obtain⟨rfl,rfl,I,J⟩:=G9 G H o
  have g:=g.right.right
  rw[Ab]at h
  obtain⟨new,e2,l2,_,L,h,rfl⟩:=h
  obtain⟨⟨M,rfl⟩,C,Q⟩:=Km L g.left o J I
  rw[Ab]at h
  obtain⟨_,_,_,_,j,h,rfl⟩:=h
  rw[Af]at j
  obtain⟨y,rfl,rfl⟩:=j
  simp only[aB,beq_iff_eq,decide_eq_true_eq]at y
  obtain⟨y,g2⟩:=y
  have T:(a.eval x).cells.size =Ag P t:=by rw[<-y,C.len,aC]
  have U:cs.length=cells.size:=by rw[q.len,aC]
  let cells1:=((a.eval x).cells.toList.zipIdx 0).foldl (fun(cs:Array Value) (p:Value × Nat)=>cs.setIfInBounds (off+p.2) p.1) cells
  have m:=Afp off (a.eval x).cells.toList 0 cells (by simp only[aC];omega)
  simp only[bU]at m
  have z:Eo (Bs P X ρ (cur S es.obs) μ w) (cs.take off++new++cs.drop (off+new.length)) cells1.toList:=by
   have:cells1.toList=_:=m
   rw[this]
   exact q.Aoo C off
  have A: ∀k∈(cs.take off++new++cs.drop (off+new.length)).flatMap Bf,K k:=by
   intro k b
   simp only[cP,cH]at b
   rcases b with (b | b) | b
   ·simp only[bB]at b ⊢
    obtain⟨l,b,d⟩:=b
    exact u k (bB.2 ⟨l,List.mem_of_mem_take b,d⟩)
   ·exact Q k b
   ·simp only[bB]at b ⊢
    obtain⟨l,b,d⟩:=b
    exact u k (bB.2 ⟨l,List.mem_of_mem_drop b,d⟩)
  obtain⟨⟨Y,B⟩,cells',r1,r2,Z⟩:=Qc hp (es:= {es with n:=M}) G h g.right.right o z A
  refine⟨⟨Y,B⟩,cells',?_,r2,Z⟩
  rw[cR]
  unfold Instr.fill
  rw[hp i off t F]
  have e:(decide ((a.eval x).cells.size ≠Ag P t)||decide (off+(a.eval x).cells.size > cells.size))=false:=by simp[T];omega
  simp only[e,aJ,Zf]
  have:(a.eval x).cells.zipIdx.foldl (λcs x=>match x with | (c,j_1)=>cs.setIfInBounds (off+j_1) c) cells=cells1:=by
   show _=((a.eval x).cells.toList.zipIdx 0).foldl _ cells
   rw[<-cS]
   simp
  rw[this]
  exact r1
theorem Ag3: ∀ (fs:List Field),(∀f∈fs,(P.info? f.type).isSome =true)->fs.mapM (λf=>(P.info? f.type).map λi=>(f.offset,i.size))=some (fs.map λf=>(f.offset,Ag P f.type))
 | [],_=>rfl
 | f::fs,h=>by
  obtain⟨i,a⟩:=aE.1 (h f aS)
  rw[cO,Ag3 fs λg b=>h g (aV _ b),a]
  simp[Ag,a]
theorem Ate {t:TypeId}{parts:Array (Nat × Operand)}(G:Good P N X ρ K S.tm (cur S es.obs) μ a w)(h:Ev S (Asm P t parts) es sx es' ls)(y:LH R ρ ls)(T:holds ρ es.gs=some true):
  ∃v,(Instr.build t (parts.map fun(i,x)=>(i,a.eval x))).run P w= .ok v w/\Out P N X ρ K S μ a w es es' sx μ w v:=by
 unfold Asm at h
 rw[Ab]at h
 obtain⟨zv,_,_,_,U,h,rfl⟩:=h
 rw[Ar]at U
 obtain⟨g,rfl,rfl⟩:=U
 have y:=y.right
 unfold Yn at g
 simp only[aG]at g
 cases j:P.info? t with
 | none=>simp[j]at g
 | some i=>
 cases A:i.zero with
 | none=>simp[j,A]at g
 | some z=>
 simp only[j,A,aO]at g
 obtain⟨Z,c2,_⟩:=Q0 (c:=Bs P X ρ (cur S es.obs) μ w) g
 have hparts:(parts.map fun(x:Nat × Operand)=>match x with | (i,x)=>(i,a.eval x)).toList =parts.toList.map λp=>(p.1,a.eval p.2):=by
  rw[cV]
 cases zv with
 | leaf l=>simp[Ac]at h
 | agg t' cs=>
  obtain⟨us,C,m⟩:=Z
  have o:z.cells=us:=by rw[C];rfl
  have q: ∀k∈cs.flatMap Bf,K k:=λk Y=>by
   have F:cs.flatMap Bf= []:=c2
   rw[F]at Y;simp at Y
  cases B:P.underlying t with
  | none=>simp[B,Ac]at h
  | some d=>
  simp only[B]at h
  cases d with
  | struct fs=>
   simp only[Ab,Af,Ad]at h
   obtain⟨_,_,_,_,⟨H,rfl,rfl⟩,⟨r,e2,l2,_,b,⟨rfl,rfl,rfl⟩,rfl⟩,rfl⟩:=h
   obtain⟨⟨n,rfl⟩,cells',I,J,L⟩:=Qc (place':=((fs.toList.map λf=>(f.offset,Ag P f.type)).toArray[·]?)) (λi off t h=>by
    simp only[aI]at h
    obtain⟨f,M,h⟩:=h
    injection h with Q b;subst Q;subst b
    simp[M]) (cells:=us) G b y.right.left T m q
   refine⟨.agg cells',run_build w t _ cells' ?_,Ph.out (es':= {es with n}) (.same G rfl rfl rfl) ⟨cells',rfl,J⟩ L⟩
   unfold Program.built
   rw[j,B]
   simp only[A,Ag3 fs.toList (λf M=>cB.1 H f M),hparts,o]
   exact I
  | array n0 e=>
   simp only[Ab,Af,Ad]at h
   obtain⟨_,_,_,_,⟨H,rfl,rfl⟩,⟨r,e2,l2,_,b,⟨rfl,rfl,rfl⟩,rfl⟩,rfl⟩:=h
   obtain⟨ie,u⟩:=aE.1 H
   obtain⟨⟨n,rfl⟩,cells',I,J,L⟩:=Qc (place':=λi=>some (i * ie.size,ie.size)) (λi off t h=>by
    injection h with h;injection h with Q b;subst Q;subst b
    simp[Ag,u]) (cells:=us) G b y.right.left T m q
   refine⟨.agg cells',run_build w t _ cells' ?_,Ph.out (es':= {es with n}) (.same G rfl rfl rfl) ⟨cells',rfl,J⟩ L⟩
   unfold Program.built
   rw[j,B]
   simp only[A,u,hparts,o]
   exact I
  | _=>simp[Ac]at h
end
end Go.CT
namespace Go.CT
open EM
theorem N1 (b off:Nat):(⟨b,0,none⟩:Addr).add off=⟨b,off,none⟩:=by unfold Addr.add;grind
section
variable {P:Program}{w:World}
theorem Mf {t T:TypeId}{b off:Nat}{cur:Array Value}{v:Value}{i:TypeInfo}(a:P.info? t=some i)(c:w.heap[b]?=some (.cells cur T (0,0)))(d:v.cells.size=Ag P t)(g:off+v.cells.size<=cur.size)
  (e: ∀u∈v.cells,u.oneCell'=true):
  (Instr.storeAt t (.pointer (some ((⟨b,0,none⟩:Addr).add off))) v).run P w= .ok () (w.setRow b (cur.toList.take off++v.cells.toList++cur.toList.drop (off+v.cells.size)).toArray):=by
 rw[N1]
 have:=run_storeCells_at (P:=P) b off T v.cells.toList 0 cur w c (by omega) (λu h=>e u (by grind))
 simp only[bU,aC]at this
 simp[Instr.storeAt,Instr.sureAddr,storeVar,run_sizeOf a,d]
 grind
theorem Agk {W:Nat->Prop}{b:Nat}(a:W b)(cs:Array Value):Hz W w (w.setRow b cs):=
 ⟨rfl,rfl,rfl,by simp,λk _ c=>setRow_other w b k cs (λe=>c (e ▸ a))⟩
theorem Qj {α:Type}{cs new:List α}{off:Nat}(h:off+new.length<=cs.length):(cs.take off++new++cs.drop (off+new.length)).length =cs.length:=by
 grind
theorem Ada {α:Type}{cs new:List α}{off:Nat}(h:off+new.length<=cs.length)(i:Nat):
  (cs.take off++new++cs.drop (off+new.length))[i]?=if i<off then cs[i]? else if i<off+new.length then new[i - off]? else cs[i]?:=by
 grind
theorem Aac {sz:Nat} : ∀ {vs:List Value} {j off:Nat} {u u':Value} {new:List Value},(∀v∈vs,v.cells.size=sz)->vs[j]?=some u->off+new.length<=sz->u'.cells.toList=u.cells.toList.take off++new++u.cells.toList.drop (off+new.length)->
  Bj (vs.set j u')=(Bj vs).take (j * sz+off)++new++(Bj vs).drop (j * sz+off+new.length)
 | [],j,off,u,u',new,_,a,_,_=>by simp at a
 | v::vs,0,off,u,u',new,h,a,b,c=>by
  simp at a;subst a
  have d:v.cells.toList.length=sz:=by grind
  simp only[List.set_cons_zero,Bj,aP,bV,cT]
  grind
 | v::vs,j+1,off,u,u',new,h,a,b,c=>by
  have d:v.cells.toList.length=sz:=by grind
  have g:=Aac (vs:=vs) (j:=j) (λv i=>h v (aV _ i)) (by grind) b c
  simp only[List.set_cons_succ]
  have e: ∀ws:List Value,Bj (v::ws)=v.cells.toList++Bj ws:=λws=>by simp[Bj]
  rw[e,e,g]
  have e1:(j+1) * sz+off=sz+(j * sz+off):=by grind
  have m:(j+1) * sz+off+new.length=sz+(j * sz+off+new.length):=by omega
  rw[m,e1,cW,cX,d]
  have o:sz+(j * sz+off) - sz=j * sz+off:=by omega
  have a2:sz+(j * sz+off+new.length) - sz=j * sz+off+new.length:=by omega
  rw[o,a2,aZ (l:=v.cells.toList) (by omega),bR (l:=v.cells.toList) (by omega)]
  simp
theorem Hv.set {O:Nat->Prop}{e:TypeId} : ∀ {xs:List IV} {vs:List Value} {j:Nat} {y:IV} {u:Value},Hv P w O e xs vs->Rel P w O e y u->u.cells.size=Ag P e->Hv P w O e (xs.set j y) (vs.set j u)
 | [],[],j,_,_,_,_,_=>by simp[Hv]
 | _::_,_::_,0,_,_,h,a,b=>⟨⟨a,b⟩,h.2⟩
 | _::_,_::_,j+1,_,_,h,a,b=>⟨h.1,Hv.set h.2 a b⟩
 | [],_::_,_,_,_,h,_,_=>h.elim
 | _::_,[],_,_,_,h,_,_=>h.elim
theorem Rel.Aoo {O:Nat->Prop}{t0 t:TypeId}{off:Nat}{x y:IV}{u v:Value}(T:Rel P w O t0 x u)(J:Ak P t0=true)(hp:Yd P t0 off t=true)(z:Rel P w O t y v):
  off+v.cells.size<=u.cells.size/\v.cells.size=Ag P t/\ ∃cs,x= .agg cs/\
   (
    (Ak P t=true-> ∃new,y= .agg new/\new.length=Ag P t/\Rel P w O t0 (.agg (setCells cs new off)) (.agg (u.cells.toList.take off++v.cells.toList++u.cells.toList.drop (off+v.cells.size)).toArray))/\
    (Ak P t=false->Rel P w O t0 (.agg (cs.set off y)) (.agg (u.cells.toList.take off++v.cells.toList++u.cells.toList.drop (off+v.cells.size)).toArray))):=by
 obtain⟨ts,xs,us,K,rfl,rfl,A⟩:=T.Afw J
 unfold Yd at hp
 rw[K]at hp
 cases g:leaves P t with
 | none=>grind
 | some tt=>
  simp only[g,aB,beq_iff_eq,decide_eq_true_eq]at hp
  obtain⟨⟨U,X⟩,Y⟩:=hp
  have Z:=A.len
  have L: ∀ (i:Nat) (q:TypeId),tt[i]?=some q->ts[off+i]?=some q:=by
   grind
  have hle:off+tt.length<=ts.length:=by
   grind
  -- the new part, leaf by leaf
  have j: ∃new:List IV,Ix P w O tt new v.cells.toList/\(Ak P t=true->y= .agg new)/\(Ak P t=false->new= [y]):=by
   by_cases c:Ak P t=true
   · obtain⟨aa,ys,ab,r,rfl,rfl,q2⟩:=z.Afw c
     rw[g]at r;injection r with r;subst r
     exact⟨ys,q2,λ_=>rfl,λh=>by grind⟩
   · have m:Ak P t=false:=by grind
     have B:tt= [t]:=by
      have hl: ∀ (d:Nat),Ij P (d+1) t=some tt->tt= [t]:=by
       intro d hd
       unfold Ij at hd
       cases ac:P.underlying t with
       | none=>grind
       | some de=>cases de<;>simp_all[Ak]
      exact hl 11 g
     subst B
     refine⟨[y],?_,λh=>by grind,λ_=>rfl⟩
     rw[(z.one m).2]
     exact⟨z,trivial⟩
  obtain⟨new,M,C,F⟩:=j
  have ad:=M.len
  have ae:v.cells.size=tt.length:=by grind
  have N:us.size=ts.length:=by grind
  have G:off+v.cells.size<=us.size:=by omega
  have af:new.length=v.cells.toList.length:=by omega
  have e:Rel P w O t0 (.agg (setCells xs new off)) (.agg (us.toList.take off++v.cells.toList++us.toList.drop (off+v.cells.size)).toArray):=by
   refine Ix.agg (ts:=ts) (Ix.M9 ?_ ?_ ?_) J K
   · unfold setCells
     grind
   · grind
   · intro i q H c' Q a b
     unfold setCells at a
     rw[Ada (by omega)]at a
     rw[bN]at b
     have o:=Ada (cs:=us.toList) (new:=v.cells.toList) (off:=off) (by omega) i
     simp only[aC]at o
     rw[o]at b
     by_cases R:i<off
     ·simp only[R,Zt]at a b
      exact A.get i q H c' Q a b
     ·simp only[R,Zf]at a b
      by_cases S:i<off+v.cells.size
      ·rw[if_pos S]at b
       rw[if_pos (by omega)]at a
       refine M.get (i - off) q H c' ?_ a b
       grind
      ·rw[if_neg S]at b
       rw[if_neg (by omega)]at a
       exact A.get i q H c' Q a b
  refine⟨G,by omega,xs,rfl,λc=>⟨new,C c,by omega,e⟩,λc=>?_⟩
  have I:=F c
  subst I
  have:setCells xs [y] off=xs.set off y:=by
   unfold setCells
   have ho:off<xs.length:=by omega
   simp only[List.length_singleton]
   rw[List.set_eq_take_append_cons_drop,if_pos ho]
   simp
  rw[<-this];exact e
end
theorem Rx {α:Type}{cs new:List α}{p m:Nat}(h:p+new.length<=m)(a:m<=cs.length):
  (cs.take p++new++cs.drop (p+new.length)).take m=(cs.take m).take p++new++(cs.take m).drop (p+new.length):=by
 apply bQ
 grind
section
variable {P:Program}{w:World}{O:Nat->Prop}
theorem Awh {e t:TypeId}{off:Nat}{xs:List IV}{vs:List Value}{j:Nat}{y r:IV}{v:Value}(x:Hv P w O e xs vs)(A:Rel P w O t y v)
  (G:((off == 0&&t == e&&Po P e)||(Ak P e&&Yd P e off t&&Po P e))=true)
  (m:Prim.ev (.setAt off (Ag P t) (Ak P t) (off == 0&&t == e)) [.list xs,.int (j:Nat),y]=some r):
  ∃c d,r= .list c/\c.length=xs.length/\Hv P w O e c d/\j * Ag P e+off+v.cells.size<=(Bj vs).length /\v.cells.size=Ag P t/\
   Bj d=(Bj vs).take (j * Ag P e+off)++v.cells.toList++(Bj vs).drop (j * Ag P e+off+v.cells.size):=by
 simp only[Prim.ev,bJ,Zt,cU]at m
 cases H:xs[j]? with
 | none=>grind
 | some old=>
  obtain⟨u,z,B⟩:=x.get j old H
  have h:=λa b=>(x.size a b).1
  have J:=h u (aU z)
  have K:=(aK.1 z).1
  have hlen:=Eb h
  have L:j * Ag P e+Ag P e<=vs.length * Ag P e:=by rw[<-cE];exact aH _ K
  simp only[H]at m
  by_cases C:(off == 0&&t == e)=true
  ·simp only[C,Zt,aA]at m
   subst m
   simp only[aB,beq_iff_eq]at C
   obtain⟨rfl,rfl⟩:=C
   have i:Po P t=true:=by
    grind
   have o:=A.sized i
   have g:=Aac (vs:=vs) (j:=j) (off:=0) (u:=u) (u':=v) (new:=v.cells.toList) h z (by grind)
    (by simp_all)
   rw[aC]at g
   exact⟨_,_,rfl,by simp,Hv.set x A o,by omega,o,g⟩
  ·have q:(off == 0&&t == e)=false:=by grind
   simp only[q,Bool.false_and,Bool.false_or,aB]at G
   obtain⟨⟨M,hp⟩,i⟩:=G
   obtain⟨b1,b2,cs,rfl,Q,R⟩:=B.Aoo M hp A
   simp only[q]at m
   have fin: ∀ {F:IV},Rel P w O e F (.agg (u.cells.toList.take off++v.cells.toList++u.cells.toList.drop (off+v.cells.size)).toArray)->r= .list (xs.set j F)->
     ∃c d,r= .list c/\c.length=xs.length/\Hv P w O e c d/\j * Ag P e+off+v.cells.size<=(Bj vs).length /\v.cells.size=Ag P t/\
      Bj d=(Bj vs).take (j * Ag P e+off)++v.cells.toList++(Bj vs).drop (j * Ag P e+off+v.cells.size):=by
    intro F I N
    have g:=Aac (vs:=vs) (j:=j) (off:=off) (u:=u) (new:=v.cells.toList) (u':= .agg (u.cells.toList.take off++v.cells.toList++u.cells.toList.drop (off+v.cells.size)).toArray) h z
     (by grind) (by rw[aC];simp[Value.cells])
    rw[aC]at g
    exact⟨_,_,N,by simp,Hv.set x I (I.sized i),by omega,b2,g⟩
   grind
end
section
variable {P:Program}{N:Nat}{X:Nat->Prop}{R:Job->List IV->Option (List IV)}{ρ:List IV}{K:Nat->Prop}{S:View}{μ:Nat->Value}{a:Act}{w:World}{es es':ES}{ls:List PLt}{sx:SX}
theorem T3 {k b:Nat}{o o':Ob}{cs:Array Value}{e1:ES}{nn:Nat}{val:Value}(p:Ph P N X ρ K S μ a w es e1)(r:cur S e1.obs k=some o)(d:o.Gl=true)(x:blk (μ k)=some b)(i: ∀g∈He o',K g)
  (y:Ek K (Bs P X ρ (cur S e1.obs) μ w) (Bs P X ρ (B5 (cur S e1.obs) k (some o')) (D6 μ k (μ k)) (w.setRow b cs))->Agb (Bs P X ρ (B5 (cur S e1.obs) k (some o')) (D6 μ k (μ k)) (w.setRow b cs)) k o'):
  Out P N X ρ K S μ a w es {e1 with n:=nn,obs:=(k,some o')::e1.obs} (one (.leaf .junk)) (D6 μ k (μ k)) (w.setRow b cs) val:=by
 have z:=(p.C8.ko k o r).1
 have t:Put P X ρ K (cur S e1.obs) (B5 (cur S e1.obs) k (some o')) μ w (w.setRow b cs) k o' (μ k):=
  {
   other:=λg u h j=>by simpa [B5,h]using j
   here:=by simp[B5]
   same:=λg _=>by unfold D6;grind
   step:=Agk ⟨k,o,r,d,x⟩ _
   rest:=λg u q h j A c=>by
    have B:cur S e1.obs g=some u:=by simpa [B5,h]using j
    refine setRow_other w b q cs (λe=>?_)
    subst e
    exact h (p.C8.sep g k u o q B r A d c x)
   new:=λq c=> .inl ⟨⟨k,o,r,d,c⟩,λg u h j A C=>h (p.C8.sep g k u o q (by simpa [B5,h]using j) r A d C c)⟩
   keys:=λk2 j=> .inl (i k2 j)}
 have F: ∀g,K g\/g=k->Ax K es.m e1.m g:=by
  rintro g (h | rfl)
  ·exact .inl h
  ·exact .inl z
 refine⟨?_,trivial,λk h=>by simp[Ct,Ay,Bf,one]at h,?_,?_,t.same⟩
 ·show Good P N X ρ (Ax K es.m e1.m) S.tm (cur S ((k,some o')::e1.obs)) _ a _
  rw[Bz]
  exact t.C8 p.C8 (y t.later) F
 ·have:=t.step
  exact⟨this.os,this.tape,this.output,this.size,λb x G=>this.stays b x λh=>G (p.Es.wr h)⟩
 ·intro q c
  have c:Wr (cur S ((k,some o')::e1.obs)) _ q:=c
  rw[Bz]at c
  exact(t.own p.C8 q c).imp p.Es.wr id
theorem Aub {p:PV}{t:TypeId}{vv:VV}{va v:Value}{u:Unit}(G:Good P N X ρ K S.tm (cur S es.obs) μ a w)(h:Ev S (Avp P p t vv) es u es' ls)(z:LH R ρ ls)(hg:holds ρ es.gs=some true)
  (hp:Af0 (Bs P X ρ (cur S es.obs) μ w) p va) (ai: ∀k∈Eg p,K k) (Q:Mq (Bs P X ρ (cur S es.obs) μ w) vv v) (F: ∀k∈Ay vv,K k):
  ∃w' μ',(Instr.storeAt t va v).run P w= .ok () w'/\Out P N X ρ K S μ a w es es' (one (.leaf .junk)) μ' w' undef:=by
 unfold Avp at h
 rw[Ab]at h
 obtain⟨_,_,_,_,B,h,rfl⟩:=h
 rw[Ea]at B
 obtain⟨_,rfl,rfl⟩:=B
 have z:=z.right
 cases p with
 | p k off=>
  rw[Ab]at h
  obtain⟨o,_,_,l2,B,h,rfl⟩:=h
  rw[B6]at B
  obtain⟨U,rfl,rfl⟩:=B
  have z:=z.right
  cases o with
  | arr=>simp[Ac]at h
  | frz=>simp[Ac]at h
  | iter=>simp[Ac]at h
  | mp=>simp[Ac]at h
  | box t0 old=>
   obtain⟨b,uu,o1,o2,o3,o4,o5,o6⟩:=G.obj k _ U
   obtain⟨H,p1,p2⟩:=hp
   have ac:H=b:=by
    grind
   subst ac
   have hblk:blk (μ k)=some H:=by
    have ad:μ k= .pointer (some ⟨H,0,none⟩):=o1
    rw[ad];rfl
   subst p2
   have I:w.heap[H]?=some (.cells uu.cells t0 (0,0)):=o2
   have ae:uu.cells.size=Ag P t0:=o3
   simp only[Iz]at h
   rcases h with⟨hc,h⟩ | ⟨hc,h⟩
   ·simp only[aB,beq_iff_eq]at hc
    obtain⟨rfl,rfl⟩:=hc
    simp only[Ab,Af,Bp]at h
    obtain⟨_,_,_,_,⟨g1,rfl,rfl⟩,⟨rfl,rfl⟩,rfl⟩:=h
    obtain⟨J,f2,M⟩:=Afs (c:=Bs P X ρ (cur S es.obs) μ w) g1 Q
    have J:v.cells.size=Ag P t:=J
    obtain⟨i,hi⟩: ∃i,P.info? t=some i:=by
     by_cases ha:Ak P t=true
     ·obtain⟨d,hd⟩:=Kg ha
      exact G4 hd
     ·have aa:Ak P t=false:=by grind
      have af:v.oneCell'=true:=by
       have:(if Ak P t then ∃cs,v= .agg cs else v.oneCell'=true):=f2
       grind
      rw[H6 af]at J
      exact E7 (by grind)
    have q:=Mf (off:=0) hi I J (by omega) M
    have hcells:(uu.cells.toList.take 0++v.cells.toList++uu.cells.toList.drop (0+v.cells.size)).toArray =v.cells:=by
     grind
    rw[hcells]at q
    refine⟨_,_,q,T3 (e1:=es) (.refl G) U rfl hblk F (λL=>?_)⟩
    exact⟨H,v,by rw[show(Bs P X ρ (B5 (cur S es.obs) k (some (.box t vv))) (D6 μ k (μ k)) (w.setRow H v.cells)).μ =D6 μ k (μ k) from rfl,Bl];exact o1,
     setRow_heap w H uu.cells v.cells t (0,0) I,J,f2,M,L.Ash F Q⟩
   ·rw[Ab]at h
    obtain⟨_,_,_,_,B,h,rfl⟩:=h
    rw[Af]at B
    obtain⟨g1,rfl,rfl⟩:=B
    simp only[aB,decide_eq_true_eq]at g1
    obtain⟨ga,gs⟩:=g1
    have z:=z.right
    rw[Ab]at h
    obtain⟨cs,e1,l1,_,h1,h,rfl⟩:=h
    obtain⟨⟨n1,rfl⟩,Z,q2⟩:=Km h1 z.left hg (G.ko k _ U).2 o6
    rw[Ab]at h
    obtain⟨new,e2,l2,_,h2,h,rfl⟩:=h
    obtain⟨⟨n2,rfl⟩,q3,Y⟩:=Km (es:= {es with n:=n1}) h2 z.right.left hg F Q
    simp only[Ab,Af,Bp]at h
    obtain⟨_,_,_,_,⟨g2,rfl,rfl⟩,⟨rfl,rfl⟩,rfl⟩:=h
    simp only[aB,decide_eq_true_eq,beq_iff_eq]at g2
    obtain⟨g2,g3⟩:=g2
    have aj:v.cells.size=new.length:=by rw[q3.len,aC]
    have ak:uu.cells.size=cs.length:=by rw[Z.len,aC]
    have J:v.cells.size=Ag P t:=by omega
    have M: ∀u∈v.cells,u.oneCell'=true:=λu hu=>q3.one u (by grind)
    obtain⟨i,hi⟩:=E7 gs
    have q:=Mf (off:=off) hi I J (by omega) M
    refine⟨_,D6 μ k (μ k),q,?_⟩
    have C: ∀k'∈Ay (.agg t0 (cs.take off++new++cs.drop (off+new.length))),K k':=by
     intro k' hm
     simp only[Ay,cP,cH]at hm
     grind
    refine T3 (e1:=es) (nn:=n2) (.refl G) U rfl hblk C (λL=>?_)
    have T:=Z.Aoo q3 off
    have hcells:(uu.cells.toList.take off++v.cells.toList++uu.cells.toList.drop (off+v.cells.size))=(uu.cells.toList.take off++v.cells.toList++uu.cells.toList.drop (off+v.cells.toList.length)):=by grind
    rw[<-hcells]at T
    refine⟨H,.agg (uu.cells.toList.take off++v.cells.toList++uu.cells.toList.drop (off+v.cells.size)).toArray,?_,setRow_heap w H uu.cells _ t0 (0,0) I,?_,?_,?_,?_⟩
    ·show D6 μ k (μ k) k=_
     rw[Bl];exact o1
    ·have:=Qj (cs:=uu.cells.toList) (new:=v.cells.toList) (off:=off) (by grind)
     rw[aC,aC]at this
     exact this.trans ae
    ·show if Ak P t0 then _ else _
     grind
    ·intro u hu
     have al:u∈(uu.cells.toList.take off++v.cells.toList++uu.cells.toList.drop (off+v.cells.size)):=by simpa [Value.cells]using hu
     grind
    ·exact⟨_,rfl,by rw[bN];exact L.Agt C T⟩
 | el k e iA off=>
  rw[Ab]at h
  obtain⟨x,e1,l1,_,h1,h,rfl⟩:=h
  obtain⟨p,_,hD⟩:=E3 G h1 z.left hg F Q
  obtain⟨y,d1,d2⟩:=hD rfl
  have d1:x.ev ρ=some y:=d1
  have z:=z.right
  rw[Ab]at h
  obtain⟨o,_,_,l2,B,h,rfl⟩:=h
  rw[B6]at B
  obtain⟨U,rfl,rfl⟩:=B
  have z:=z.right
  cases o with
  | box=>simp[Ac]at h
  | frz=>simp[Ac]at h
  | iter=>simp[Ac]at h
  | mp=>simp[Ac]at h
  | arr A tt c=>
   simp only[Ab,Af,Bt,Bp]at h
   obtain⟨_,_,_,_,⟨g1,rfl,rfl⟩,⟨_,_,_,_,⟨g2,rfl,rfl⟩,⟨_,_,_,_,⟨rfl,rfl,rfl⟩,⟨rfl,rfl⟩,rfl⟩,rfl⟩,rfl⟩:=h
   have:A=e:=by grind
   subst this
   obtain⟨ivs,cs,Z,q2,q3,Y,q5,q6⟩:=p.C8.obj k _ U
   have Z:c.ev ρ=some (.list ivs):=Z
   obtain⟨am,r,r1,r2,r3⟩:=LH.Cb z.right.right.left (by rw[p.gs];exact hg)
   obtain⟨a1,a2,a3,s1,s2,s3,rfl⟩:=A1r r1
   obtain⟨g,n,cap,j,m1,m2,m3,rfl⟩:=hp
   have m2:iA.ev ρ=some (.int (j:Nat)):=m2
   have m1:μ k= .slice (some ⟨g,0,none⟩) n cap:=m1
   rw[Z]at s1;injection s1 with s1;subst s1
   rw[m2]at s2;injection s2 with s2;subst s2
   rw[d1]at s3;injection s3 with s3;subst s3
   obtain⟨w1,Y⟩:=Y
   rcases Y with⟨Y,_⟩ | ⟨g',cap',cu,J,f2,M,f4,f5,f6,f7⟩
   ·have Y:μ k= .slice none 0 0:=Y
    grind
   ·have ab:μ k= .slice (some ⟨g',0,none⟩) ivs.length cap':=J
    rw[m1]at ab;injection ab with i1 i2 i3
    injection i1 with i1;injection i1 with i1;subst i1;subst i2;subst i3
    have M:w.heap[g]?=some (.cells cu A (0,0)):=M
    have w1:cs.length=ivs.length * Ag P A:=w1
    have q5:Kr P w (Bs P X ρ (cur S e1.obs) μ w).O A ivs cs:=q5
    obtain⟨us,hE,rfl⟩:=q5.Asc w1
    obtain⟨ag,us',rfl,t1,t2,t3,t4,t5⟩:=Awh hE d2 g2 r2
    have f6:cu.size=cap * Ag P A:=f6
    have f7:cu.toList.take (ivs.length * Ag P A)=Bj us:=f7
    have ah:ivs.length * Ag P A<=cu.size:=by grind
    obtain⟨i,hi⟩: ∃i,P.info? t=some i:=by
     simp only[bO,aB,beq_iff_eq]at g2
     by_cases ha:Ak P t=true
     ·obtain⟨d,hd⟩:=Kg ha
      exact G4 hd
     ·have aa:Ak P t=false:=by grind
      have:=(d2.one aa).1
      rw[H6 this]at t4
      exact E7 (by grind)
    have q:=Mf (off:=j * Ag P A+off) hi M t4 (by omega) d2.cells_one
    refine⟨_,D6 μ k (μ k),q,T3 (e1:=e1) p U rfl (by rw[m1];rfl) (λk' hk=>by cases hk) (λL=>?_)⟩
    refine⟨ag,Bj us',r3,q2,q3,⟨?_,.inr ⟨g,cap,_,?_,bY _,setRow_heap w g cu _ A (0,0) M,by omega,f5,?_,?_⟩⟩,(Hv.later L t2).elems,Gp λv Q=>(t2.size v Q).2⟩
    ·rw[Eb λv Q=>(t2.size v Q).1,t2.len];rfl
    ·show D6 μ k (μ k) k=_
     rw[Bl,m1,t1]
    ·have:=Qj (cs:=cu.toList) (new:=v.cells.toList) (off:=j * Ag P A+off) (by grind)
     rw[aC,aC]at this
     exact this.trans f6
    ·rw[bN,t1]
     have:=Rx (cs:=cu.toList) (new:=v.cells.toList) (p:=j * Ag P A+off) (m:=ivs.length * Ag P A) (by grind) (by omega)
     rw[aC]at this
     rw[t5,<-f7];exact this
 | im x t0 off=>simp[Ac]at h
end
end Go.CT
namespace Go.CT
open EM
section
variable {P:Program}{N:Nat}{X:Nat->Prop}{R:Job->List IV->Option (List IV)}{ρ:List IV}{K:Nat->Prop}{S:View}{μ:Nat->Value}{a:Act}{w:World}{es es':ES}{ls:List PLt}{sx:SX}
theorem Aa1 (z:Value)(sz n:Nat)(a:z.cells.size=sz)(b:0<sz):(Builtin.zeroCells z.cells n).toList =Bj (aD n z):=by
 have c:Builtin.zeroCells z.cells n=madeCells z.cells (n * sz):=by simp[Builtin.zeroCells,madeCells,a]
 have d:=Aiq z.cells sz n n a b (bA _)
 have e:(madeCells z.cells (n * sz)).toList.take (n * sz)=(madeCells z.cells (n * sz)).toList :=by
  rw[aZ]
  rw[aC,size_madeCells];exact bA _
 rw[c,<-e,d]
 simp only[Bj,cG]
 rfl
theorem Lh {sz:Nat} : ∀ {us:List Value},(∀u∈us,u.cells.size=sz)-> ∀l,Bj (us.take l)=(Bj us).take (l * sz)/\Bj (us.drop l)=(Bj us).drop (l * sz)
 | [],_,l=>by simp[Bj]
 | u::us,h,0=>by simp[Bj]
 | u::us,h,l+1=>by
  have a:=Lh (us:=us) (λv d=>h v (aV _ d)) l
  have b:u.cells.toList.length=sz:=by rw[aC];exact h u aS
  have c: ∀vs:List Value,Bj (u::vs)=u.cells.toList++Bj vs:=λvs=>by simp[Bj]
  have e1:(l+1) * sz=sz+l * sz:=by rw[bE,bZ];omega
  rw[List.take_succ_cons,List.drop_succ_cons,c,c,a.1,a.2,e1]
  constructor
  ·rw[cW,b,aZ (l:=u.cells.toList) (by omega)]
   congr 2;omega
  ·rw[cX,b,bR (l:=u.cells.toList) (by omega),cI]
   congr 1;omega
theorem Hv.cut {O:Nat->Prop}{e:TypeId}{xs:List IV}{us:List Value}(h:Hv P w O e xs us)(l:Nat):Hv P w O e (xs.take l) (us.take l)/\Hv P w O e (xs.drop l) (us.drop l):=by
 have hlen:=h.len
 refine⟨Hv.M9 (by rw[aT,aT,hlen]) λj x v c b=>?_,Hv.M9 (by rw[bF,bF,hlen]) λj x v c b=>?_⟩
 ·rw[aR]at c b
  split at c
  ·rename_i g
   rw[if_pos g]at b
   obtain⟨u,a,d⟩:=h.get j x c
   rw[b]at a;injection a with a;subst a
   exact⟨d,(h.size v (aU b)).1⟩
  ·cases c
 ·rw[bH]at c b
  obtain⟨u,a,d⟩:=h.get _ x c
  rw[b]at a;injection a with a;subst a
  exact⟨d,(h.size v (aU b)).1⟩
theorem Hv.app {O:Nat->Prop}{e:TypeId}{xs ys:List IV}{us vs:List Value}(h:Hv P w O e xs us)(k:Hv P w O e ys vs):Hv P w O e (xs++ys) (us++vs):=by
 have g:=h.len
 have i:=k.len
 refine Hv.M9 (by rw[aL,aL,g,i]) λj x v c b=>?_
 by_cases m:j<us.length
 ·rw[bW (by omega)]at c
  rw[bW m]at b
  obtain⟨u,a,d⟩:=h.get j x c
  rw[b]at a;injection a with a;subst a
  exact⟨d,(h.size v (aU b)).1⟩
 ·rw[List.getElem?_append_right (by omega)]at c b
  rw[g]at c
  obtain⟨u,a,d⟩:=k.get _ x c
  rw[b]at a;injection a with a;subst a
  exact⟨d,(k.size v (aU b)).1⟩
theorem Ava {t rt:TypeId}{x:Operand}(G:Good P N X ρ K S.tm (cur S es.obs) μ a w)(h:Ev S (Asz P t x) es sx es' ls)(hl:LH R ρ ls)(hg:holds ρ es.gs=some true):
  ∃v w' μ',(Builtin.clear_ #[t] rt #[a.eval x]).run P w= .ok v w'/\Out P N X ρ K S μ a w es es' sx μ' w' v:=by
 unfold Asz at h
 rw[Ab]at h
 obtain⟨_,_,_,_,d,h,rfl⟩:=h
 rw[Ea]at d
 obtain⟨_,rfl,rfl⟩:=d
 rw[Ab]at h
 obtain⟨e,_,_,_,d,h,rfl⟩:=h
 rw[Ar]at d
 obtain⟨he,rfl,rfl⟩:=d
 rw[Ab]at h
 obtain⟨_,_,_,_,d,h,rfl⟩:=h
 rw[Af]at d
 obtain⟨g1,rfl,rfl⟩:=d
 simp only[aB,decide_eq_true_eq]at g1
 obtain⟨g1,g3⟩:=g1
 rw[Ab]at h
 obtain⟨zi,_,_,_,d,h,rfl⟩:=h
 rw[Ar]at d
 obtain⟨hz,rfl,rfl⟩:=d
 rw[Ab]at h
 obtain⟨xv,e1,l1,_,h1,h,rfl⟩:=h
 obtain⟨rfl,rfl,p1,p2⟩:=G9 G h1 hg
 split at h
 rotate_left
 ·simp[Ac]at h
 rename_i k lo hi t'
 rw[Ab]at h
 obtain⟨o,_,_,l2,d,h,rfl⟩:=h
 rw[B6]at d
 obtain⟨ho,rfl,rfl⟩:=d
 cases o with
 | box=>simp[Ac]at h
 | frz=>simp[Ac]at h
 | iter=>simp[Ac]at h
 | mp=>simp[Ac]at h
 | arr e' tt c=>
  simp only[Ab,Af,Bt,Bp,Ad]at h
  obtain⟨_,_,_,_,⟨g4,rfl,rfl⟩,⟨_,_,_,_,⟨rfl,rfl,rfl⟩,⟨_,_,_,_,⟨rfl,rfl⟩,⟨rfl,rfl,rfl⟩,rfl⟩,rfl⟩,rfl⟩:=h
  simp only[aB,beq_iff_eq]at g4
  obtain⟨rfl,g4⟩:=g4
  obtain⟨ivs,cs,q1,q2,q3,q4,q5,q6⟩:=G.obj k _ ho
  have q1:c.ev ρ=some (.list ivs):=q1
  have ae:=hl.right.right.right.right.right.right.right
  obtain⟨al,r,r1,r2,r3⟩:=LH.Cb (by simpa using ae) hg
  obtain⟨a1,a2,a3,s1,s2,s3,rfl⟩:=A1r r1
  obtain⟨A,n,cap,l,h,e0,m0,m1,m2,m3,m4,m5,q⟩:=p1
  have m2:lo.ev ρ=some (.int (l:Nat)):=m2
  have m3:hi.ev ρ=some (.int (h:Nat)):=m3
  have m1:μ k= .slice A n cap:=m1
  have m0:P.underlying t'=some (.slice e0):=m0
  rw[Bo g4]at m0;injection m0 with m0;injection m0 with m0;subst m0
  rw[q1]at s1;injection s1 with s1;subst s1
  rw[m2]at s2;injection s2 with s2;subst s2
  rw[m3]at s3;injection s3 with s3;subst s3
  simp only[Prim.ev]at r2
  rw[Option.ite_none_right_eq_some]at r2
  obtain⟨⟨aj,_,_,hle⟩,r2⟩:=r2
  injection r2 with r2
  subst r2
  have hle:h<=ivs.length:=by omega
  simp only[cU]at r3
  obtain⟨w1,q4⟩:=q4
  rcases q4 with⟨_,q4⟩ | ⟨g,cap',cu,f1,f2,T,f4,f5,f6,f7⟩
  ·omega
  have U:μ k= .slice (some ⟨g,0,none⟩) ivs.length cap':=f1
  rw[m1]at U;injection U with i1 i2 i3
  subst i1;subst i2;subst i3
  have T:w.heap[g]?=some (.cells cu e (0,0)):=T
  have w1:cs.length=ivs.length * Ag P e:=w1
  have q5:Kr P w (Bs P X ρ (cur S es.obs) μ w).O e ivs cs:=q5
  obtain⟨us,hE,rfl⟩:=q5.Asc w1
  have f6:cu.size=cap * Ag P e:=f6
  have f7:cu.toList.take (ivs.length * Ag P e)=Bj us:=f7
  have ak:ivs.length * Ag P e<=cu.size:=by rw[f6];exact aH _ f4
  obtain⟨i,z,z1,z2,z3,z4,z5⟩:=Pk g3
  obtain⟨i',z',y,B,Z⟩:=Ug (w:=w) (O:=(Bs P X ρ (cur S es.obs) μ w).O) hz
  rw[z1]at y;injection y with y;subst y
  rw[z2]at B;injection B with B;subst B
  have F:Hv P w (Bs P X ρ (cur S es.obs) μ w).O e (aD (h - l) zi) (aD (h - l) z):=
   Hv.M9 (by simp) λj x v hx q=>by
    simp[List.getElem?_replicate]at hx q
    obtain⟨_,rfl⟩:=hx
    obtain⟨_,rfl⟩:=q
    exact⟨Z,z3⟩
  have t2:Hv P w (Bs P X ρ (cur S es.obs) μ w).O e (ivs.take l++aD (h - l) zi++ivs.drop h) (us.take l++aD (h - l) z++us.drop h):=
   ((hE.cut l).1.app F).app (hE.cut h).2
  have I:=λa b=>(hE.size a b).1
  have af:us.length=ivs.length:=hE.len.symm
  have am:(Bj us).length =ivs.length * Ag P e:=by rw[Eb I,af]
  have ag:(Builtin.zeroCells z.cells (h - l)).toList =Bj (aD (h - l) z):=Aa1 z (Ag P e) (h - l) z3 g1
  have C:(Bj (aD (h - l) z)).length =(h - l) * Ag P e:=by
   rw[Eb (sz:=Ag P e) (λv q=>by rw[(bI.1 q).2];exact z3),cM]
  have e3:l * Ag P e+(h - l) * Ag P e=h * Ag P e:=by rw[<-bE];congr 1;omega
  have hh:h * Ag P e<=ivs.length * Ag P e:=aH _ hle
  have J:Bj (us.take l++aD (h - l) z++us.drop h)=(Bj us).take (l * Ag P e)++Bj (aD (h - l) z)++(Bj us).drop (l * Ag P e+(Bj (aD (h - l) z)).length):=by
   rw[Gc,Gc,(Lh I l).1,(Lh I h).2,C,e3]
  have aa:(ivs.take l++aD (h - l) zi++ivs.drop h).length =ivs.length:=by
   simp only[aL,aT,cM,bF];omega
  -- what is laid
  have ab:(Builtin.clear_ #[t] rt #[a.eval x]).run P w= .ok (.tuple #[]) (w.setRow g (cu.toList.take (l * Ag P e)++Bj (aD (h - l) z)++cu.toList.drop (l * Ag P e+(Bj (aD (h - l) z)).length)).toArray):=by
   have H:(underlying t).run P w= .ok (.slice e) w:=by simp[underlying,Bo he]
   have ah:a.eval x= .slice (if cap=l then some (⟨g,0,none⟩:Addr) else(some (⟨g,0,none⟩:Addr)).map (·.add (l * Ag P e))) (h - l) (cap - l):=q
   rw[ah]
   by_cases ac:h - l=0
   ·have M:(cu.toList.take (l * Ag P e)++Bj (aD (h - l) z)++cu.toList.drop (l * Ag P e+(Bj (aD (h - l) z)).length)).toArray =cu:=by
     rw[ac];simp[Bj]
    rw[M,setRow_self w g cu e (0,0) T,ac]
    generalize (if cap=l then some (⟨g,0,none⟩:Addr) else(some (⟨g,0,none⟩:Addr)).map (·.add (l * Ag P e)))=Y
    unfold Builtin.clear_
    simp only[cN,cD,Sem.run_bind,H,Result.andThen_ok]
    cases Y<;>simp
   ·have ai: ¬ cap=l:=by omega
    obtain⟨nn,Q⟩: ∃nn,h - l=nn+1:=⟨h - l - 1,by omega⟩
    have ad:=run_storeCells_at (P:=P) g (l * Ag P e) e (Bj (aD (h - l) z)) 0 cu w T (by rw[C];omega) (λv q=>by
     exact Gp (λu hu=>by rw[(bI.1 hu).2];exact(F.size z (by rw[Q];simp)).2) v q)
    simp only[bU]at ad
    rw[if_neg ai]
    simp only[aN,N1]
    unfold Builtin.clear_
    simp only[cN,cD,Sem.run_bind,H,Result.andThen_ok]
    rw[Q]
    simp only[Sem.run_bind,zeroValue,typeInfo]
    rw[<-Q]
    simp[z1,z2,ag,ad]
  refine⟨_,_,D6 μ k (μ k),ab,T3 (e1:=es) (.refl G) ho rfl (by rw[m1];rfl) (λk' hk=>by cases hk) (λL=>?_)⟩
  refine⟨_,Bj (us.take l++aD (h - l) z++us.drop h),r3,q2,q3,⟨?_,.inr ⟨g,cap,_,?_,bY _,setRow_heap w g cu _ e (0,0) T,by omega,f5,?_,?_⟩⟩,(Hv.later L t2).elems,Gp λv q=>(t2.size v q).2⟩
  ·rw[Eb λv q=>(t2.size v q).1,<-t2.len];rfl
  ·show D6 μ k (μ k) k=_
   rw[Bl,m1,aa]
  ·have:=Qj (cs:=cu.toList) (new:=Bj (aD (h - l) z)) (off:=l * Ag P e) (by rw[C,aC];omega)
   rw[aC]at this
   exact this.trans f6
  ·rw[bN,aa]
   have:=Rx (cs:=cu.toList) (new:=Bj (aD (h - l) z)) (p:=l * Ag P e) (m:=ivs.length * Ag P e) (by rw[C];omega) (by rw[aC];omega)
   rw[J,<-f7];exact this
end
end Go.CT
