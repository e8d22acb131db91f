import Derived.Orders
import Derived.Below
import Derived.Laws.AppendOwn
import Derived.Laws.Cells
import Derived.Laws.StructEq
import Derived.Laws.BytesString
import Derived.Laws.Small
import Derived.Maps.AppendAt
import Derived.Laws.OwnMore
import Derived.Laws.Build
import Derived.Laws.MakeOwn
set_option linter.unusedVariables false
set_option linter.unusedSimpArgs false
namespace Go.CT
inductive IV where
 | int (n:Int)
 | bool (b:Bool)
 | str (s:ByteArray)
 | agg (xs:List IV)
 | list (xs:List IV)
 | junk
 deriving Inhabited
inductive Arg where
 | v (n:Nat)
 | k (c:IV)
 deriving Inhabited
def IV.Mi:IV→IV→Option Bool
 | .int a,.int b=>some (a == b)
 | .bool a,.bool b=>some (a == b)
 | .str a,.str b=>some (a.toList == b.toList)
 | _,_=>none
def IV.L4:List IV→List IV→Option Bool
 | [],[]=>some true
 | x::xs,y::ys=>do
  let a ←x.Mi y
  let b ←L4 xs ys
  pure (a&&b)
 | _,_=>none
inductive Prim where
 | arith (op:BinOp) (k:IntKind) -- + - *
 | quo (k:IntKind) | rem (k:IntKind)
 | bits (op:BinOp) (k:IntKind) -- & | ^ &^
 | shift (op:BinOp) (k:IntKind)
 | cmp (op:BinOp) -- integers
 | cmpS (op:BinOp) -- strings, comparisons
 | cat
 | eqB (neg:Bool)
 | eqA (neg:Bool)
 | not
 | neg (k:IntKind)
 | conv (k:IntKind)
 | len | Qv
 | index | Ho
 | slice | Px | Kd | Nl
 | append (bytes:Nat)
 | O1 (bytes:Nat) -- of something
 | Mu
 | Dp | Dr
 | proj (off n:Nat) (agg:Bool)
 | setAt (off n:Nat) (agg whole:Bool)
 | max | min
 | pick
 | Aik (bytes:Nat) (zero:IV)
 | bytesOf | strOf
 | clear (zero:IV)
 | copy
 | Agk
 | L9 | Mf | G7
 | Al5 (zero:IV) | Ahn | Al8
 deriving Inhabited
def Ax:Nat:=140737488355328 -- 2^47
def Ov (op:BinOp) (x y:Int):Option Bool:=
 match op with
 | .eql =>some (x == y)
 | .neq =>some (x !=y)
 | .lss =>some (decide (x<y))
 | .leq =>some (decide (x≤y))
 | .gtr =>some (decide (x > y))
 | .geq =>some (decide (x≥y))
 | _=>none
def Jj (op:BinOp) (x y:ByteArray):Option Bool:=
 let eq:=x.toList == y.toList
 let lt:=Op.bytesLess x.toList y.toList
 match op with
 | .eql =>some eq
 | .neq =>some !eq
 | .lss =>some lt
 | .leq =>some (lt||eq)
 | .gtr =>some !(lt||eq)
 | .geq =>some !lt
 | _=>none
def setCells (cs new:List IV) (off:Nat):List IV:=cs.take off++new++cs.drop (off+new.length)
def Bq (s:ByteArray):List IV:=s.data.toList.map fun b=> .int b.toNat
def Io:IV→Option UInt8
 | .int n=>if 0≤n∧n<256 then some n.toNat.toUInt8 else none
 | _=>none
def Qn (key:IV):List IV→Option (Option IV)
 | []=>some none
 | .agg [k,v]::r=>
  match key.Mi k with
  | some true=>some (some v)
  | some false=>Qn key r
  | none=>none
 | _=>none
def Ahy (key val:IV):List IV→Option (List IV)
 | []=>some [.agg [key,val]]
 | .agg [k,v]::r=>
  match key.Mi k with
  | some true=>some (.agg [key,val]::r)
  | some false=>(Ahy key val r).map (.agg [k,v]:: ·)
  | none=>none
 | _=>none
def Prim.ev (p:Prim) (as:List IV):Option IV:=
 match p,as with
 | .arith .add k,[.int a,.int b]=>some (.int (k.wrap (a+b)))
 | .arith .sub k,[.int a,.int b]=>some (.int (k.wrap (a - b)))
 | .arith .mul k,[.int a,.int b]=>some (.int (k.wrap (a * b)))
 | .quo k,[.int a,.int b]=>if b=0 then none else some (.int (k.wrap (a.tdiv b)))
 | .rem _,[.int a,.int b]=>if b=0 then none else some (.int (a.tmod b))
 | .shift .shl k,[.int a,.int b]=>if b<0 then none else some (.int (k.wrap (a * 2 ^ (Nat.min b.toNat k.bits))))
 | .shift .shr k,[.int a,.int b]=>if b<0 then none else some (.int (a.fdiv (2 ^ (Nat.min b.toNat k.bits))))
 | .cmp op,[.int a,.int b]=>(Ov op a b).map .bool
 | .cmpS op,[.str a,.str b]=>(Jj op a b).map .bool
 | .cat,[.str a,.str b]=>if a.size+b.size≤Ax then some (.str (a++b)) else none
 | .eqB ng,[.bool a,.bool b]=>some (.bool (if ng then a !=b else a == b))
 | .eqA ng,[.agg a,.agg b]=>(IV.L4 a b).map fun r=> .bool (if ng then !r else r)
 | .not,[.bool a]=>some (.bool !a)
 | .neg k,[.int a]=>some (.int (k.wrap (0 - a)))
 | .conv k,[.int a]=>some (.int (k.wrap a))
 | .len,[.list xs]=>some (.int xs.length)
 | .Qv,[.str s]=>some (.int s.size)
 | .index,[.list xs,.int i]=>if 0≤i then xs[i.toNat]? else none
 | .Ho,[.str s,.int i]=>if 0≤i then (s[i.toNat]?).map fun b=> .int b.toNat else none
 | .slice,[.list xs,.int l,.int h]=>if 0≤l∧l≤h∧h≤xs.length then some (.list ((xs.take h.toNat).drop l.toNat)) else none
 | .Px,[.list xs,.int l]=>if 0≤l∧l≤xs.length then some (.list (xs.drop l.toNat)) else none
 | .Kd,[.str s,.int l,.int h]=>if 0≤l∧l≤h∧h≤s.size then some (.str (s.extract l.toNat h.toNat)) else none
 | .Nl,[.str s,.int l]=>if 0≤l∧l≤s.size then some (.str (s.extract l.toNat s.size)) else none
 | .append bytes,[.list xs,.list ys]=>if (xs.length+ys.length) * bytes≤Ax then some (.list (xs++ys)) else none
 | .O1 bytes,[.list xs,.list ys]=>if 0<ys.length∧(xs.length+ys.length) * bytes≤Ax then some (.list (xs++ys)) else none
 | .Mu,[.list xs,.str s]=>if xs.length+s.size≤Ax then some (.list (xs++Bq s)) else none
 | .Dp,xs=>some (.agg xs)
 | .Dr,xs=>some (.list xs)
 | .proj off n isAgg,[.agg xs]=>if isAgg then some (.agg ((xs.drop off).take n)) else xs[off]?
 | .setAt off n isAgg whole,[.list xs,.int i,x]=>
  if 0≤i then
   match xs[i.toNat]? with
   | none=>none
   | some old=>
    if whole then some (.list (xs.set i.toNat x))
    else match old with
     | .agg cs=>match isAgg,x with
      | true,.agg new=>if new.length=n then some (.list (xs.set i.toNat (.agg (setCells cs new off)))) else none
      | true,_=>none
      | false,x=>some (.list (xs.set i.toNat (.agg (cs.set off x))))
     | _=>none
  else none
 | .max,[.int a,.int b]=>some (.int (if a<b then b else a))
 | .min,[.int a,.int b]=>some (.int (if b<a then b else a))
 | .pick,[.bool c,a,b]=>some (if c then a else b)
 | .Aik bytes z,[.int l,.int c]=>if 0≤l∧l≤c∧c * bytes≤Ax then some (.list (List.replicate l.toNat z)) else none
 | .clear z,[.list xs,.int l,.int h]=>if 0<xs.length∧0≤l∧l≤h∧h≤xs.length then some (.list (xs.take l.toNat++List.replicate (h.toNat - l.toNat) z++xs.drop h.toNat)) else none
 | .copy,[.list xs,.int l,.list ys]=>if 0≤l∧l+ys.length≤xs.length then some (.list (xs.take l.toNat++ys++xs.drop (l.toNat+ys.length))) else none
 | .bytesOf,[.str s]=>some (.list (Bq s))
 | .Agk,[.bool b]=>if b then some (.bool true) else none
 | .L9,[.str s,.int p]=>if 0≤p then some (.bool (decide (p.toNat<s.size))) else none
 | .Mf,[.str s,.int p]=>if 0≤p then some (.int (if p.toNat<s.size then (Utf8.decode s p.toNat).1 else 0)) else none
 | .G7,[.str s,.int p]=>if 0≤p then some (.int (if p.toNat<s.size then p.toNat+(Utf8.decode s p.toNat).2 else p.toNat)) else none
 | .Al5 z,[.list es,k]=>(Qn k es).map fun r=>r.getD z
 | .Ahn,[.list es,k]=>(Qn k es).map fun r=> .bool r.isSome
 | .Al8,[.list es,k,v]=>(Ahy k v es).map .list
 | .strOf,[.list xs]=>(xs.mapM Io).map fun l=> .str ⟨l.toArray⟩
 | _,_=>none
structure Job where
 spec:Nat
 blk:Nat -- block of the spec; 0: its entry
inductive Kj where
 | Bo (p:Prim) (args:List Arg)
 | call (s:Nat) (args:List Arg) (n:Nat) -- n results
structure Jc where
 gs:List (Arg × Bool)
 l:Kj
inductive PT where
 | lets (l:Jc) (k:PT)
 | ite (c:Arg) (p q:PT)
 | jump (b:Nat) (args:List Arg)
 | ret (args:List Arg)
 deriving Inhabited
def Arg.ev (ρ:List IV):Arg→Option IV
 | .v n=>ρ[n]?
 | .k c=>some c
def Arg.evs (ρ:List IV):List Arg→Option (List IV)
 | []=>some []
 | a::as=>do
  let x ←a.ev ρ
  let xs ←Arg.evs ρ as
  pure (x::xs)
def holds (ρ:List IV):List (Arg × Bool)→Option Bool
 | []=>some true
 | (a,want)::gs=>
  match a.ev ρ with
  | some (.bool b)=>if b=want then holds ρ gs else some false
  | _=>none
def Kj.ev (R:Job→List IV→Option (List IV)) (ρ:List IV):Kj→Option (List IV)
 | .Bo p as=>((Arg.evs ρ as).bind p.ev).map ([·])
 | .call s as n=>((Arg.evs ρ as).bind (R ⟨s,0⟩)).bind fun rs=>if rs.length=n then some rs else none
def Kj.arity:Kj→Nat
 | .Bo _ _=>1
 | .call _ _ n=>n
def Jc.ev (R:Job→List IV→Option (List IV)) (ρ:List IV) (g:Jc):Option (List IV):=
 (holds ρ g.gs).bind fun b=>if b then g.l.ev R ρ else some (List.replicate g.l.arity .junk)
def PT.den (R:Job→List IV→Option (List IV)) (s:Nat):PT→List IV→Option (List IV)
 | .lets l k,ρ=>(l.ev R ρ).bind fun xs=>k.den R s (ρ++xs)
 | .ite c p q,ρ=>
  match c.ev ρ with
  | some (.bool true)=>p.den R s ρ
  | some (.bool false)=>q.den R s ρ
  | _=>none
 | .jump b as,ρ=>(Arg.evs ρ as).bind (R ⟨s,b⟩)
 | .ret as,ρ=>Arg.evs ρ as
inductive PV where
 | p (key off:Nat) -- into a box
 | el (key:Nat) (e:TypeId) (i:Arg) (off:Nat) -- into an element (of type e) of an own array
 | im (x:Arg) (t:TypeId) (off:Nat) -- into memory that nobody writes any more; x: all that lies there, of type t
 deriving Inhabited
inductive LV where
 | at (x:Arg) (t:TypeId)
 | nil (t:TypeId)
 | ref (key:Nat) (t:TypeId)
 | sub (key:Nat) (lo hi:Arg) (t:TypeId) -- a part of a row of one's own
 | ptr (p:PV)
 | fn (f:FuncId) (caps:List PV)
 | mref (key:Nat) (t:TypeId) -- a map of one's own
 | hid (key:Nat) -- nil, or the pointer to the variable 'key'
 | cl (x:Arg) (t:TypeId) -- data: a row without room
 | junk
 deriving Inhabited
inductive VV where
 | leaf (l:LV)
 | agg (t:TypeId) (cs:List LV)
 deriving Inhabited
inductive SX where
 | one (v:VV)
 | tup (vs:List VV)
 | nx (ok i r:Arg) -- what a step through a text gives
 deriving Inhabited
structure SV where
 gs:List (Arg × Bool)
 x:SX
 deriving Inhabited
inductive Ob where
 | box (t:TypeId) (v:VV)
 | arr (e:TypeId) (t:TypeId) (c:Arg) -- own
 | frz (e:TypeId) (t:TypeId) (c:Arg) -- not written any more
 | iter (s p:Arg) -- a walk through a text
 | mp (t kt vt:TypeId) (c:Arg) -- a map
 deriving Inhabited
structure PLt where
 n:Nat
 l:Jc
inductive RM (α:Type) where
 | pure (a:α)
 | tm (s:Nat) (k:SV→RM α)
 | ob (key:Nat) (k:Option Ob→RM α)
 | emit (l:PLt) (k:RM α)
 | fail
def RM.bind {α β:Type} :RM α→(α→RM β)→RM β
 | .pure a,f=>f a
 | .tm s k,f=> .tm s fun v=>(k v).bind f
 | .ob s k,f=> .ob s fun v=>(k v).bind f
 | .emit l k,f=> .emit l (k.bind f)
 | .fail,_=> .fail
structure View where
 tm:Nat→SV
 ob:Nat→Option Ob
def RM.run {α:Type} (S:View):RM α→Option (α × List PLt × List Nat × List Nat)
 | .pure a=>some (a,[],[],[])
 | .tm s k=>((k (S.tm s)).run S).map fun (a,e,l,r)=>(a,e,s::l,r)
 | .ob s k=>((k (S.ob s)).run S).map fun (a,e,l,r)=>(a,e,l,s::r)
 | .emit t k=>(k.run S).map fun (a,e,l,r)=>(a,t::e,l,r)
 | .fail =>none
structure ES where
 n:Nat -- the next atom
 m:Nat -- the next key
 gs:List (Arg × Bool) -- under which guard
 obs:List (Nat × Option Ob) -- the first counts
def EM (α:Type):=ES→RM (α × ES)
instance :Monad EM where
 pure a:=fun s=> .pure (a,s)
 bind x f:=fun s=>(x s).bind fun (a,s')=>f a s'
def Ga (k:Nat):List (Nat × Option Ob)→Option (Option Ob)
 | []=>none
 | (k',o)::r=>if k' == k then some o else Ga k r
namespace EM
def fail {α:Type} :EM α:=fun _=> .fail
def X4 (s:Nat):EM SV:=fun es=> .tm s fun v=> .pure (v,es)
def E5 (k:Nat):EM Ob:=fun es=>
 match Ga k es.obs with
 | some (some o)=> .pure (o,es)
 | some none=> .fail
 | none=> .ob k fun o=>match o with
  | some o=> .pure (o,es)
  | none=> .fail
def ofOption {α:Type} (o:Option α):EM α:=fun es=>match o with | some a=> .pure (a,es) | none=> .fail
def guard (b:Bool):EM Unit:=fun es=>if b then .pure ((),es) else .fail
def emit (l:Kj):EM Nat:=fun es=> .emit ⟨es.n,⟨es.gs,l⟩⟩ (.pure (es.n,{es with n:=es.n+l.arity}))
def Bo (p:Prim) (as:List Arg):EM Arg:=do pure (.v (←emit (.Bo p as)))
def D5 (k:Nat) (o:Option Ob):EM Unit:=fun es=> .pure ((),{es with obs:=(k,o)::es.obs})
def Ej:EM Nat:=fun es=> .pure (es.m,{es with m:=es.m+1})
def guards:EM (List (Arg × Bool)):=fun es=> .pure (es.gs,es)
def bare:EM Unit:=fun es=>match es.gs with | []=> .pure ((),es) | _=> .fail
end EM
open EM
def Arg.same:Arg→Arg→Bool
 | .v a,.v b=>a == b
 | .k (.bool a),.k (.bool b)=>a == b
 | .k (.int a),.k (.int b)=>a == b
 | _,_=>false
def Arh (g:Arg × Bool) (gs:List (Arg × Bool)):Bool:=gs.any fun h=>g.1.same h.1&&g.2 == h.2
def Qz (gs hs:List (Arg × Bool)):Bool:=gs.all fun g=>Arh g hs
section
variable (P:Program)
def Ag (t:TypeId):Bool:=match P.underlying t with | some (.struct _) | some (.array _ _)=>true | _=>false
def Af (t:TypeId):Nat:=match P.info? t with | some i=>i.size | none=>0
def Is (t:TypeId):Nat:=match P.info? t with | some i=>i.bytes | none=>0
def Kl (t:TypeId):Option IntKind:=match P.underlying t with | some (.int k)=>some k | _=>none
def isStr (t:TypeId):Bool:=match P.underlying t with | some .string =>true | _=>false
def isBool (t:TypeId):Bool:=match P.underlying t with | some .bool =>true | _=>false
def Cz (t:TypeId):Option TypeId:=match P.underlying t with | some (.slice e)=>some e | _=>none
def E6:Nat→TypeId→Option (List TypeId)
 | 0,_=>none
 | d+1,t=>
  match P.underlying t with
  | some (.struct fs)=>(fs.toList.mapM fun f=>E6 d f.type).map List.flatten
  | some (.array n e)=>(E6 d e).map fun l=>(List.replicate n l).flatten
  | some _=>some [t]
  | none=>none
def leaves (t:TypeId):Option (List TypeId):=E6 P 12 t
def Ro (t0:TypeId) (off:Nat) (t:TypeId):Bool:=
 match leaves P t0,leaves P t with
 | some ts,some us=>(ts.drop off).take us.length == us&&us.length == Af P t&&0<us.length
 | _,_=>false
def Ju (t:TypeId):Value→Option LV
 | .int k n=>if Kl P t=some k then some (.at (.k (.int n)) t) else none
 | .bool b=>if isBool P t then some (.at (.k (.bool b)) t) else none
 | .string s=>if isStr P t then some (.at (.k (.str s)) t) else none
 | .slice none 0 0=>if (Cz P t).isSome then some (.nil t) else none
 | .nilFunc =>some .junk
 | .pointer none=>some .junk
 | .nilIface =>some .junk
 | .map none=>some .junk
 | _=>none
def Dm:List TypeId→List Value→Option (List LV)
 | [],[]=>some []
 | t::ts,v::vs=>do
  let l ←Ju P t v
  let ls ←Dm ts vs
  pure (l::ls)
 | _,_=>none
def Km (t:TypeId) (v:Value):Option VV:=
 match v with
 | .agg cs=>if Ag P t then do pure (.agg t (←Dm P (←leaves P t) cs.toList)) else none
 | v=>if Ag P t then none else (Ju P t v).map .leaf
def Rk (t:TypeId):Option VV:=do Km P t (← (←P.info? t).zero)
def Hh:LV→Option IV
 | .at (.k c) _=>some c
 | .nil _=>some (.list [])
 | _=>none
def Lx:List LV→Option (List IV)
 | []=>some []
 | l::ls=>do
  let x ←Hh l
  let xs ←Lx ls
  pure (x::xs)
def Yr (t:TypeId):Option IV:=do
 match ←Rk P t with
 | .leaf l=>Hh l
 | .agg _ cs=>(Lx cs).map .agg
def rd (x:Operand) (t:TypeId):EM SX:=do
 match x with
 | .tmp s=>do
  let v ←X4 s
  EM.guard (Qz v.gs (←guards))
  pure v.x
 | .const c=>do pure (.one (←ofOption (Km P t c)))
 | .func f=>pure (.one (.leaf (.fn f [])))
 | .global _=>fail
def rd1 (x:Operand) (t:TypeId):EM VV:=do
 match ←rd P x t with
 | .one v=>pure v
 | _=>fail
def Cp (fz:Bool) (t:TypeId) (l:LV):EM Arg:=do
 match l with
 | .at x t'=>do
  EM.guard (t == t')
  pure x
 | .cl x t'=>do
  EM.guard (t == t')
  pure x
 | .nil _=>do
  EM.guard (Cz P t).isSome
  pure (.k (.list []))
 | .ref k _=>do
  match ←E5 k with
  | .arr e tt c=>do
   EM.guard (Cz P t == some e)
   if fz then D5 k (some (.frz e tt c))
   pure c
  | .frz e _ c=>do
   EM.guard (Cz P t == some e)
   pure c
  | _=>fail
 | .sub k lo hi t'=>do
  match ←E5 k with
  | .arr e tt c=>do
   EM.guard (Cz P t == some e&&Cz P t' == some e)
   let x ←Bo .slice [c,lo,hi]
   if fz then D5 k (some (.frz e tt c))
   pure x
  | .frz e _ c=>do
   EM.guard (Cz P t == some e&&Cz P t' == some e)
   Bo .slice [c,lo,hi]
  | _=>fail
 | _=>fail
def C5 (fz:Bool):List TypeId→List LV→EM (List Arg)
 | [],[]=>pure []
 | t::ts,l::ls=>do
  let a ←Cp P fz t l
  let as ←C5 fz ts ls
  pure (a::as)
 | _,_=>fail
def Hq (fz:Bool) (t:TypeId) (v:VV):EM Arg:=do
 match v with
 | .leaf l=>Cp P fz t l
 | .agg t' cs=>do
  EM.guard (t == t'&&Ag P t)
  Bo .Dp (←C5 P fz (←ofOption (leaves P t)) cs)
def Gq (x:Operand) (t:TypeId):EM Arg:=do Hq P false t (←rd1 P x t)
def Zz (x:Operand):EM Arg:=do
 match x with
 | .const (.int _ n)=>pure (.k (.int n))
 | .tmp s=>do
  let v ←X4 s
  EM.guard (Qz v.gs (←guards))
  match v.x with
  | .one (.leaf (.at a t))=>do
   EM.guard (Kl P t).isSome
   pure a
  | _=>fail
 | _=>fail
def projs (x:Arg):List TypeId→Nat→EM (List LV)
 | [],_=>pure []
 | t::ts,i=>do
  let a ←Bo (.proj i 1 false) [x]
  let r ←projs x ts (i+1)
  pure (.at a t::r)
def K6 (v:VV):EM (List LV):=do
 match v with
 | .agg _ cs=>pure cs
 | .leaf .junk =>fail
 | .leaf (.at x t)=>
  if Ag P t then do projs x (←ofOption (leaves P t)) 0 else pure [.at x t]
 | .leaf l=>pure [l]
def Aat (t0:TypeId) (v:VV) (off:Nat) (t:TypeId):EM VV:=do
 match v with
 | .agg _ cs=>
  if Ag P t then do
   EM.guard (decide (off+Af P t≤cs.length))
   pure (.agg t ((cs.drop off).take (Af P t)))
  else do pure (.leaf (←ofOption cs[off]?))
 | .leaf (.at x t1)=>do
  EM.guard (t1 == t0)
  if Ag P t0 then
   if off == 0&&t == t0 then pure (.leaf (.at x t0))
   else do
    EM.guard (Ro P t0 off t)
    pure (.leaf (.at (←Bo (.proj off (Af P t) (Ag P t)) [x]) t))
  else do
   EM.guard (off == 0&&t == t0)
   pure (.leaf (.at x t0))
 | .leaf .junk =>fail
 | .leaf l=>do
  EM.guard (off == 0&& !Ag P t)
  pure (.leaf l)
def Ala (p:PV) (t:TypeId):EM VV:=do
 EM.guard (P.underlying t).isSome
 match p with
 | .p k off=>do
  match ←E5 k with
  | .box t0 v=>Aat P t0 v off t
  | _=>fail
 | .el k e i off=>do
  match ←E5 k with
  | .arr e' _ c=>do
   EM.guard (e == e')
   let x ←Bo .index [c,i]
   Aat P e (.leaf (.at x e)) off t
  | _=>fail
 | .im x t0 off=>Aat P t0 (.leaf (.at x t0)) off t
def K8 (t:TypeId):Bool:=
 match leaves P t with
 | some ts=>ts.length == Af P t&&(Ag P t||Af P t == 1)
 | none=>false
def Mc (t:TypeId):Bool:=
 match P.info? t with
 | some i=>(match i.zero with | some z=>z.cells.size == i.size | none=>false)
 | none=>false
def Iy (t:TypeId):VV→Bool
 | .agg t' cs=>t == t'&&Ag P t&&cs.length == Af P t
 | .leaf .junk =>false
 | .leaf (.at _ t')=>t == t'&&K8 P t
 | .leaf _=> !Ag P t&&Af P t == 1
def V5 (t:TypeId):VV→Bool
 | .leaf .junk => !Ag P t&&Af P t == 1
 | v=>Iy P t v
def Akt (p:PV) (t:TypeId) (v:VV):EM Unit:=do
 bare
 match p with
 | .p k off=>do
  match ←E5 k with
  | .box t0 old=>
   if off == 0&&t == t0 then do
    EM.guard (Iy P t v)
    D5 k (some (.box t0 v))
   else do
    EM.guard (Ag P t0&&decide (0<Af P t))
    let cs ←K6 P old
    let new ←K6 P v
    EM.guard (decide (off+new.length≤cs.length)&&new.length == Af P t)
    D5 k (some (.box t0 (.agg t0 (cs.take off++new++cs.drop (off+new.length)))))
  | _=>fail
 | .el k e' i off=>do
  let x ←Hq P true t v
  match ←E5 k with
  | .arr e tt c=>do
   EM.guard (e == e')
   EM.guard ((off == 0&&t == e&&K8 P e)||(Ag P e&&Ro P e off t&&K8 P e))
   let c' ←Bo (.setAt off (Af P t) (Ag P t) (off == 0&&t == e)) [c,i,x]
   D5 k (some (.arr e tt c'))
  | _=>fail
 | .im .. =>fail
def Tp (t:TypeId):VV→Bool
 | .agg _ cs=>Ag P t&&cs.length == Af P t
 | .leaf (.at _ t')=>Ag P t&&t == t'&&(match leaves P t with | some ts=>ts.length == Af P t | none=>false)
 | _=>false
def Tq (v:VV):EM PV:=do
 match v with
 | .leaf (.ptr p)=>pure p
 | _=>fail
def PV.plus (p:PV) (o:Nat):PV:=
 match p with
 | .p k off=> .p k (off+o)
 | .el k e i off=> .el k e i (off+o)
 | .im x t off=> .im x t (off+o)
def one (v:VV):SX:= .one v
def dat (x:Arg) (t:TypeId):SX:= .one (.leaf (.at x t))
def Ae9 (t:TypeId):Bool:=
 match P.underlying t with
 | some (.struct fs)=>
  fs.toList.zipIdx.all (fun (f,i)=>f.offset == i&&f.name != "_" &&((Kl P f.type).isSome ||isStr P f.type||isBool P f.type))&&
  !P.stoodInHeld t&& !P.eqGuardType P.depth t
 | _=>false
def Axr (op:BinOp) (xt:TypeId) (x y:Operand) (yt rt:TypeId):EM SX:=do
 let a ←Gq P x xt
 let b ←Gq P y yt
 match P.underlying xt with
 | some (.int k)=>do
  EM.guard (Kl P yt == some k)
  match op with
  | .add | .sub | .mul =>do
   EM.guard (Kl P rt == some k)
   pure (dat (←Bo (.arith op k) [a,b]) rt)
  | .quo =>do
   EM.guard (Kl P rt == some k)
   pure (dat (←Bo (.quo k) [a,b]) rt)
  | .rem =>do
   EM.guard (Kl P rt == some k)
   pure (dat (←Bo (.rem k) [a,b]) rt)
  | .shl | .shr =>do
   EM.guard (Kl P rt == some k)
   pure (dat (←Bo (.shift op k) [a,b]) rt)
  | .eql | .neq | .lss | .leq | .gtr | .geq =>do
   EM.guard (isBool P rt)
   pure (dat (←Bo (.cmp op) [a,b]) rt)
  | _=>fail
 | some .string =>do
  EM.guard (isStr P yt)
  match op with
  | .add =>do
   EM.guard (isStr P rt)
   pure (dat (←Bo .cat [a,b]) rt)
  | .eql | .neq | .lss | .leq | .gtr | .geq =>do
   EM.guard (isBool P rt)
   pure (dat (←Bo (.cmpS op) [a,b]) rt)
  | _=>fail
 | some .bool =>do
  EM.guard (isBool P yt&&isBool P rt)
  match op with
  | .eql =>do pure (dat (←Bo (.eqB false) [a,b]) rt)
  | .neq =>do pure (dat (←Bo (.eqB true) [a,b]) rt)
  | _=>fail
 | some (.struct _)=>do
  EM.guard (Ae9 P xt&&xt == yt&&isBool P rt)
  match op with
  | .eql =>do pure (dat (←Bo (.eqA false) [a,b]) rt)
  | .neq =>do pure (dat (←Bo (.eqA true) [a,b]) rt)
  | _=>fail
 | _=>fail
def rtOf (op:BinOp) (xt rt:TypeId):TypeId:=
 match op with
 | .eql | .neq | .lss | .leq | .gtr | .geq =>if isBool P rt then rt else ((List.range 64).find? (isBool P ·)).getD rt
 | .add | .sub =>if (Kl P xt).isSome &&Kl P rt !=Kl P xt then xt else rt
 | _=>rt
def xUn (op:UnOp) (xt:TypeId) (x:Operand) (rt:TypeId):EM SX:=do
 let a ←Gq P x xt
 match op with
 | .not =>do
  EM.guard (isBool P xt&&isBool P rt)
  pure (dat (←Bo .not [a]) rt)
 | .neg =>do
  let k ←ofOption (Kl P xt)
  EM.guard (Kl P rt == some k)
  pure (dat (←Bo (.neg k) [a]) rt)
 | _=>fail
def At1 (src dst:TypeId) (x:Operand):EM SX:=do
 let a ←Gq P x src
 match P.underlying src,P.underlying dst with
 | some (.int _),some (.int k)=>do pure (dat (←Bo (.conv k) [a]) dst)
 | some .string,some .string =>pure (dat a dst)
 | some (.slice e),some .string =>do
  EM.guard (Kl P e == some .u8)
  pure (dat (←Bo .strOf [a]) dst)
 | _,_=>fail
def Pg (t:TypeId) (x i:Operand):EM SX:=do
 let xv ←rd1 P x t
 match P.underlying t with
 | some (.slice e)=>do
  EM.guard (decide (0<Af P e))
  let iv ←Zz P i
  match xv with
  | .leaf (.ref k _)=>do
   match ←E5 k with
   | .arr e' _ c=>do
    EM.guard (e == e')
    let _ ←Bo .index [c,iv]
    pure (one (.leaf (.ptr (.el k e iv 0))))
   | .frz e' _ c=>do
    EM.guard (e == e')
    pure (one (.leaf (.ptr (.im (←Bo .index [c,iv]) e 0))))
   | _=>fail
  | .leaf l=>do
   let c ←Cp P true t l
   pure (one (.leaf (.ptr (.im (←Bo .index [c,iv]) e 0))))
  | _=>fail
 | some (.array n e)=>do
  let p ←Tq xv
  match i with
  | .const (.int _ j)=>do
   EM.guard (decide (0≤j)&&decide (j<n)&&decide (0<Af P e))
   pure (one (.leaf (.ptr (p.plus (j.toNat * Af P e)))))
  | _=>fail
 | _=>fail
def Adw (x:Option Operand):EM (Option Arg):=do
 match x with
 | none=>pure none
 | some o=>do pure (some (←Zz P o))
def Awx (c l:Arg) (h:Option Arg) (t:TypeId):EM SX:=
 match h with
 | some h=>do pure (dat (←Bo .slice [c,l,h]) t)
 | none=>do pure (dat (←Bo .Px [c,l]) t)
def Ax4 (c:Arg) (h:Option Arg):EM Arg:=
 match h with
 | some h=>pure h
 | none=>Bo .len [c]
def Amd (t:TypeId) (x:Operand) (lo hi mx:Option Operand):EM SX:=do
 EM.guard mx.isNone
 let xv ←rd1 P x t
 let l ←Adw P lo
 let h ←Adw P hi
 match P.underlying t with
 | some .string =>do
  let a ←Hq P false t xv
  match h with
  | some h=>do pure (dat (←Bo .Kd [a,l.getD (.k (.int 0)),h]) t)
  | none=>do pure (dat (←Bo .Nl [a,l.getD (.k (.int 0))]) t)
 | some (.slice e)=>do
  EM.guard (decide (0<Af P e))
  match xv with
  | .leaf (.ref k _)=>do
   match ←E5 k with
   | .arr e' _ c=>do
    EM.guard (e == e')
    let hi ←Ax4 c h
    let _ ←Bo .slice [c,l.getD (.k (.int 0)),hi]
    pure (one (.leaf (.sub k (l.getD (.k (.int 0))) hi t)))
   | .frz e' _ c=>do
    EM.guard (e == e')
    Awx c (l.getD (.k (.int 0))) h t
   | _=>fail
  | .leaf lf=>do
   let c ←Cp P true t lf
   Awx c (l.getD (.k (.int 0))) h t
  | _=>fail
 | _=>fail
def I5 (e:TypeId):List (Nat × Operand)→Nat→EM (List Arg)
 | [],_=>pure []
 | (i,x)::ps,j=>do
  EM.guard (i == j)
  let a ←Hq P true e (←rd1 P x e)
  let r ←I5 e ps (j+1)
  pure (a::r)
def M6 (t:TypeId) (len:Nat) (parts:Array (Nat × Operand)):EM SX:=do
 bare
 let e ←ofOption (Cz P t)
 EM.guard (decide (len * Af P e≤2 ^ 24)&&decide (0<Af P e)&&parts.size == len&&Mc P e&&K8 P e)
 let args ←I5 P e parts.toList 0
 let c ←Bo .Dr args
 let k ←Ej
 D5 k (some (.arr e t c))
 pure (one (.leaf (.ref k t)))
def K5 (t:TypeId) (len:Nat) (parts:Array (Nat × Operand)):EM SX:=do
 let e ←ofOption (Cz P t)
 EM.guard (decide (len * Af P e≤2 ^ 24)&&decide (0<Af P e)&&parts.size == len&&Mc P e&&K8 P e)
 let args ←I5 P e parts.toList 0
 let c ←Bo .Dr args
 pure (dat c t)
def Jk (place:Nat→Option (Nat × TypeId)):List (Nat × Operand)→List LV→EM (List LV)
 | [],cs=>pure cs
 | (i,x)::ps,cs=>do
  let (off,t) ←ofOption (place i)
  let new ←K6 P (←rd1 P x t)
  EM.guard (new.length == Af P t&&decide (off+new.length≤cs.length))
  Jk place ps (cs.take off++new++cs.drop (off+new.length))
def Ajt (t:TypeId) (parts:Array (Nat × Operand)):EM SX:=do
 match ←ofOption (Rk P t) with
 | .agg _ cs=>
  match P.underlying t with
  | some (.struct fs)=>do
   EM.guard (fs.toList.all fun f=>(P.info? f.type).isSome)
   pure (one (.agg t (←Jk P (fun i=>(fs[i]?).map fun f=>(f.offset,f.type)) parts.toList cs)))
  | some (.array _ e)=>do
   EM.guard (P.info? e).isSome
   pure (one (.agg t (←Jk P (fun i=>some (i * Af P e,e)) parts.toList cs)))
  | _=>fail
 | _=>fail
def Aye (t:TypeId) (x:Operand) (rt:TypeId):EM SX:=do
 EM.guard (Kl P rt == some .i64)
 let a ←Gq P x t
 match P.underlying t with
 | some .string =>do pure (dat (←Bo .Qv [a]) rt)
 | some (.slice _)=>do pure (dat (←Bo .len [a]) rt)
 | _=>fail
def Ou (e:TypeId) (v:VV):EM (Option Nat × Arg):=do
 match v with
 | .leaf (.nil _)=>pure (none,.k (.list []))
 | .leaf (.ref k _)=>do
  match ←E5 k with
  | .arr e' _ c=>do
   EM.guard (e == e')
   pure (some k,c)
  | _=>fail
 | .leaf (.sub k (.k (.int 0)) hi t')=>do
  match ←E5 k with
  | .arr e' _ c=>do
   EM.guard (e == e'&&Cz P t' == some e)
   pure (some k,←Bo .slice [c,.k (.int 0),hi])
  | _=>fail
 | _=>fail
def Mp (old:Option Nat):EM Unit:=
 match old with
 | some k=>D5 k none
 | none=>pure ()
def Ac4 (st xt:TypeId) (s x:Operand) (rt:TypeId):EM SX:=do
 bare
 let e ←ofOption (Cz P st)
 EM.guard (decide (0<Af P e)&&decide (0<Is P e)&&st == xt&&Mc P e)
 let sv ←rd1 P s st
 let xv ←rd1 P x xt
 let a ←Hq P false xt xv
 let (old,c) ←Ou P e sv
 let c' ←Bo (.append (Is P e)) [c,a]
 Mp old
 let k' ←Ej
 D5 k' (some (.arr e st c'))
 pure (one (.leaf (.ref k' rt)))
def Wc (st xt:TypeId) (c:Arg) (ct:TypeId) (x:Operand) (rt:TypeId):EM SX:=do
 bare
 let e ←ofOption (Cz P st)
 EM.guard (decide (0<Af P e)&&decide (0<Is P e)&&st == xt&&ct == st&&Mc P e)
 let xv ←rd1 P x xt
 let a ←Hq P false xt xv
 let c' ←Bo (.O1 (Is P e)) [c,a]
 let k' ←Ej
 D5 k' (some (.arr e st c'))
 pure (one (.leaf (.ref k' rt)))
def Pb (st xt:TypeId) (s x:Operand) (rt:TypeId):EM SX:=do
 match ←rd1 P s st with
 | .leaf (.cl c ct)=>Wc P st xt c ct x rt
 | _=>Ac4 P st xt s x rt
def zeroByte (e:TypeId):Bool:=
 match P.info? e with
 | some i=>match i.zero with | some (.int .u8 0)=>true | _=>false
 | none=>false
def Wd (st xt:TypeId) (s x:Operand) (rt:TypeId):EM SX:=do
 bare
 let e ←ofOption (Cz P st)
 EM.guard (isStr P xt&&Kl P e == some .u8 &&Af P e == 1&&Is P e == 1&&(Mc P e&&zeroByte P e))
 let sv ←rd1 P s st
 let a ←Gq P x xt
 let (old,c) ←Ou P e sv
 let c' ←Bo .Mu [c,a]
 Mp old
 let k' ←Ej
 D5 k' (some (.arr e st c'))
 pure (one (.leaf (.ref k' rt)))
def Wu (mx:Bool) (t:TypeId) (x y:Operand) (rt:TypeId):EM SX:=do
 let k ←ofOption (Kl P t)
 EM.guard (Kl P rt == some k)
 let a ←Gq P x t
 let b ←Gq P y t
 pure (dat (←Bo (if mx then .max else .min) [a,b]) rt)
def Ak0 (t:TypeId) (x:Operand):EM SX:=do
 bare
 let e ←ofOption (Cz P t)
 EM.guard (decide (0<Af P e)&&Mc P e)
 let z ←ofOption (Yr P e)
 let xv ←rd1 P x t
 match xv with
 | .leaf (.sub k lo hi t')=>do
  match ←E5 k with
  | .arr e' tt c=>do
   EM.guard (e == e'&&Cz P t' == some e)
   let c' ←Bo (.clear z) [c,lo,hi]
   D5 k (some (.arr e tt c'))
   pure (one (.leaf .junk))
  | _=>fail
 | _=>fail
def Ps (t:TypeId) (len cap:Operand):EM SX:=do
 bare
 let e ←ofOption (Cz P t)
 EM.guard (decide (0<Af P e)&&decide (0<Is P e)&&Mc P e)
 let l ←Zz P len
 let c ←Zz P cap
 let x ←Bo (.Aik (Is P e) (←ofOption (Yr P e))) [l,c]
 let k ←Ej
 D5 k (some (.arr e t x))
 pure (one (.leaf (.ref k t)))
def Atb:TypeId:=((List.range 64).find? (isBool P ·)).getD 0
def Akw (t:TypeId) (x:Operand):EM SX:=do
 bare
 EM.guard (isStr P t)
 let a ←Gq P x t
 let k ←Ej
 D5 k (some (.iter a (.k (.int 0))))
 pure (one (.leaf (.ptr (.p k 0))))
def Ajh (p:PV):EM SX:=do
 match p with
 | .p k 0=>do
  match ←E5 k with
  | .iter s p=>do
   let ok ←Bo .L9 [s,p]
   let r ←Bo .Mf [s,p]
   let p' ←Bo .G7 [s,p]
   D5 k (some (.iter s p'))
   pure (.nx ok p r)
  | _=>fail
 | _=>fail
def Auz (it:Operand) (isString:Bool):EM SX:=do
 bare
 EM.guard isString
 let p ←Tq (←rd1 P it 0)
 Ajh p
def xNx (ok p r:Arg) (i:Nat) (rt:TypeId):EM SX:=do
 match i with
 | 0=>do
  let bt:=if isBool P rt then rt else Atb P
  EM.guard (isBool P bt)
  pure (dat ok bt)
 | 1=>do
  EM.guard (Kl P rt == some .i64)
  let _ ←Bo .Agk [ok]
  pure (dat p rt)
 | 2=>do
  EM.guard (Kl P rt == some .i32)
  let _ ←Bo .Agk [ok]
  pure (dat r rt)
 | _=>fail
def Aj1 (t:TypeId):Option (TypeId × TypeId):=match P.underlying t with | some (.map k v)=>some (k,v) | _=>none
def Aid (t:TypeId):Bool:=(Kl P t).isSome ||isStr P t
def V3 (t:TypeId) (reserve:Option Operand):EM SX:=do
 bare
 EM.guard reserve.isNone
 let kv ←ofOption (Aj1 P t)
 EM.guard (Aid P kv.1)
 let k ←Ej
 D5 k (some (.mp t kv.1 kv.2 (.k (.list []))))
 pure (one (.leaf (.mref k t)))
def An5 (v:VV):EM Nat:=do
 match v with
 | .leaf (.mref k _)=>pure k
 | _=>fail
def Abd (t:TypeId) (x i:Operand) (ok:Bool):EM SX:=do
 let kv ←ofOption (Aj1 P t)
 EM.guard (Aid P kv.1&&Mc P kv.2)
 let z ←ofOption (Yr P kv.2)
 let k ←An5 (←rd1 P x t)
 let iv ←Gq P i kv.1
 match ←E5 k with
 | .mp _ kt vt c=>do
  EM.guard (kv.1 == kt&&kv.2 == vt&&isBool P (Atb P))
  let v ←Bo (.Al5 z) [c,iv]
  let h ←Bo .Ahn [c,iv]
  if ok then pure (.tup [.leaf (.at v vt),.leaf (.at h (Atb P))])
  else pure (dat v vt)
 | _=>fail
def Pc (t:TypeId) (m i x:Operand):EM SX:=do
 bare
 let kv ←ofOption (Aj1 P t)
 EM.guard (Aid P kv.1)
 let k ←An5 (←rd1 P m t)
 let iv ←Gq P i kv.1
 let xv ←Hq P true kv.2 (←rd1 P x kv.2)
 match ←E5 k with
 | .mp t' kt vt c=>do
  EM.guard (kv.1 == kt&&kv.2 == vt)
  let c' ←Bo .Al8 [c,iv,xv]
  D5 k (some (.mp t' kt vt c'))
  pure (one (.leaf .junk))
 | _=>fail
def Aq2 (t:TypeId):Option (TypeId × TypeId):=
 match leaves P t with
 | some [pt,st]=>
  match P.underlying pt,Cz P st with
  | some (.pointer t'),some e=>if t' == t&&Kl P e == some .u8 &&Af P e == 1&&Ag P t&&Af P t == 2 then some (st,e) else none
  | _,_=>none
 | _=>none
def Aln (t:TypeId):Bool:=
 match P.info? t with
 | some i=>
  match i.zero with
  | some (.agg cs)=>match cs.toList with | [.pointer none,.slice none 0 0]=>true | _=>false
  | _=>false
 | none=>false
def Abv (t st:TypeId):EM SX:=do
 bare
 EM.guard (Aln P t&&Ag P t&&Af P t == 2)
 let k ←Ej
 D5 k (some (.box t (.agg t [.hid k,.nil st])))
 pure (one (.leaf (.ptr (.p k 0))))
end
def Cv:PV→List Nat
 | .p k _=> [k]
 | .el k _ _ _=> [k]
 | .im .. => []
def As:LV→List Nat
 | .ref k _=> [k]
 | .sub k _ _ _=> [k]
 | .ptr p=>Cv p
 | .fn _ ps=>ps.flatMap Cv
 | .mref k _=> [k]
 | .hid k=> [k]
 | _=> []
def Ap:VV→List Nat
 | .leaf l=>As l
 | .agg _ ls=>ls.flatMap As
def Br:SX→List Nat
 | .one v=>Ap v
 | .tup vs=>vs.flatMap Ap
 | .nx .. => []
def Ee:Ob→List Nat
 | .box _ v=>Ap v
 | _=> []
inductive PS where
 | data (t:TypeId)
 | arr (t:TypeId) -- a slice that the callee may write, as long as it is; it is handed back
 | own (t:TypeId) -- a slice that is the callee's own from now on
 | box (t:TypeId) (own:List Bool) -- a pointer to a variable that the callee may write; which of its cells are rows of its own
 | fn (f:FuncId) (caps:List TypeId) -- a closure over variables of these types, which are only read
 | rd (t:TypeId) -- a pointer to a variable that is only read
 | bld (t:TypeId) (back:Bool) -- a pointer to a strings.Builder; handed back, or gone
 | fnb (f:FuncId) (n:Nat) -- a closure; its n captured variables come as the next parameters
 deriving Inhabited
inductive Bk where
 | box (k:Nat) (t:TypeId) (own:List Bool)
 | arr (k:Nat) (e t:TypeId)
 | bld (k:Nat) (t e st:TypeId)
 deriving Inhabited
inductive RS where
 | whole (t:TypeId) -- data
 | cells (t:TypeId) (own:List Bool) -- cell by cell: rows of the caller's own, or data
 | skip -- what nobody looks at
 | clip (t:TypeId) -- data: a row without room
 | nbox (t:TypeId) (own:List Bool) -- a pointer to a new variable
 | clo (f:FuncId) (bxs:List (TypeId × List Bool)) -- a closure over new variables
 deriving Inhabited
structure Spec where
 fn:FuncId
 params:List PS
 results:List RS
 alias_:Bool -- may a result share memory with an argument?
 deriving Inhabited
section
variable (P:Program)
def O6 (e:TypeId) (l:LV):EM Arg:=do
 EM.guard (decide (0<Af P e))
 let r ←Ou P e (.leaf l)
 Mp r.1
 pure r.2
def Abk (t:TypeId) (l:LV):EM Arg:=do
 match l with
 | .mref k _=>do
  match ←E5 k with
  | .mp _ kt vt c=>do
   EM.guard (Aj1 P t == some (kt,vt))
   D5 k none
   pure c
  | _=>fail
 | _=>fail
def Ab5 (t:TypeId) (l:LV):EM Arg:=
 match Cz P t with
 | some e=>O6 P e l
 | none=>Abk P t l
def Ab8 (fz o:Bool) (t:TypeId) (l:LV):EM Arg:=do
 if o then Ab5 P t l
 else Cp P fz t l
def Dk (fz:Bool):List Bool→List TypeId→List LV→EM (List Arg)
 | [],[],[]=>pure []
 | o::bs,t::ts,l::ls=>do
  let a ←Ab8 P fz o t l
  let as ←Dk fz bs ts ls
  pure (a::as)
 | _,_,_=>fail
def Ww (fz:Bool) (t:TypeId) (p:PV):EM Arg:=do
 match p with
 | .p k 0=>do
  match ←E5 k with
  | .box t0 v=>do
   EM.guard (t == t0&&decide (0<Af P t))
   Hq P fz t v
  | _=>fail
 | .im x t0 0=>do
  EM.guard (t == t0)
  pure x
 | _=>fail
def Hv (fz:Bool):List TypeId→List PV→EM (List Arg)
 | [],[]=>pure []
 | t::ts,p::ps=>do
  let a ←Ww P fz t p
  let as ←Hv fz ts ps
  pure (a::as)
 | _,_=>fail
def Aqp (al:Bool) (p:PS) (v:VV):EM (List Arg × List Bk):=do
 match p with
 | .data t=>do pure ([←Hq P al t v],[])
 | .arr t=>do
  match v with
  | .leaf (.ref k _)=>do
   match ←E5 k with
   | .arr e t' c=>do
    EM.guard (Cz P t == some e)
    D5 k none
    pure ([c],[.arr k e t'])
   | _=>fail
  | _=>fail
 | .own t=>do
  match v with
  | .leaf l=>do pure ([←O6 P (←ofOption (Cz P t)) l],[])
  | _=>fail
 | .box t own=>do
  match v with
  | .leaf (.ptr (.p k 0))=>do
   match ←E5 k with
   | .box t0 v=>do
    EM.guard (t == t0)
    let cs ←K6 P v
    D5 k none
    let a ←Dk P al own (←ofOption (leaves P t)) cs
    pure (a,[.box k t own])
   | _=>fail
  | _=>fail
 | .fn f ts=>do
  match v with
  | .leaf (.fn g caps)=>do
   EM.guard (f == g)
   pure (←Hv P al ts caps,[])
  | _=>fail
 | .rd t=>do
  match v with
  | .leaf (.ptr p)=>do pure ([←Ww P al t p],[])
  | _=>fail
 | .bld t back=>do
  match v with
  | .leaf (.ptr (.p k 0))=>do
   match ←E5 k with
   | .box t0 (.agg _ [.hid k1,l])=>do
    let se ←ofOption (Aq2 P t)
    EM.guard (t == t0&&k1 == k)
    D5 k none
    let a ←O6 P se.2 l
    pure ([a],if back then [.bld k t se.2 se.1] else [])
   | _=>fail
  | _=>fail
 | .fnb _ _=>pure ([],[])
def Mv (al:Bool):List PS→List VV→EM (List Arg × List Bk)
 | [],[]=>pure ([],[])
 | p::ps,v::vs=>do
  let a ←Aqp P al p v
  let r ←Mv al ps vs
  pure (a.1++r.1,a.2++r.2)
 | _,_=>fail
def Cg:List Bool→List TypeId→Nat→EM (List LV)
 | [],[],_=>pure []
 | true::bs,t::ts,n=>
  match Cz P t with
  | some e=>do
   if (←guards).isEmpty then do
    let k ←Ej
    D5 k (some (.arr e t (.v n)))
    let r ←Cg bs ts (n+1)
    pure (.ref k t::r)
   else do
    let r ←Cg bs ts (n+1)
    pure (.at (.v n) t::r)
  | none=>do
   bare
   let kv ←ofOption (Aj1 P t)
   let k ←Ej
   D5 k (some (.mp t kv.1 kv.2 (.v n)))
   let r ←Cg bs ts (n+1)
   pure (.mref k t::r)
 | false::bs,t::ts,n=>do
  let r ←Cg bs ts (n+1)
  pure (.at (.v n) t::r)
 | _,_,_=>fail
def Aml (t:TypeId) (cs:List LV):EM VV:=do
 if Ag P t then pure (.agg t cs)
 else match cs with
  | [c]=>pure (.leaf c)
  | _=>fail
def Jq:List (TypeId × List Bool)→Nat→EM (List PV × Nat)
 | [],n=>pure ([],n)
 | b::bs,n=>do
  let ts ←ofOption (leaves P b.1)
  let cs ←Cg P b.2 ts n
  let v ←Aml P b.1 cs
  let k ←Ej
  D5 k (some (.box b.1 v))
  let r ←Jq bs (n+b.2.length)
  pure (.p k 0::r.1,r.2)
def E1:List RS→Nat→EM (List VV × Nat)
 | [],n=>pure ([],n)
 | .skip ::rs,n=>do
  let r ←E1 rs n
  pure (.leaf .junk ::r.1,r.2)
 | .clip t::rs,n=>do
  let r ←E1 rs (n+1)
  pure (.leaf (.cl (.v n) t)::r.1,r.2)
 | .whole t::rs,n=>do
  let r ←E1 rs (n+1)
  pure (.leaf (.at (.v n) t)::r.1,r.2)
 | .cells t own::rs,n=>do
  let ts ←ofOption (leaves P t)
  let cs ←Cg P own ts n
  let v ←Aml P t cs
  let r ←E1 rs (n+own.length)
  pure (v::r.1,r.2)
 | .nbox t own::rs,n=>do
  bare
  let b ←Jq P [(t,own)] n
  let r ←E1 rs b.2
  pure (b.1.map (fun p=> .leaf (.ptr p))++r.1,r.2)
 | .clo f bxs::rs,n=>do
  bare
  let b ←Jq P bxs n
  let r ←E1 rs b.2
  pure (.leaf (.fn f b.1)::r.1,r.2)
def C8:List Bk→Nat→EM Unit
 | [],_=>pure ()
 | .box k t own::bs,n=>do
  let ts ←ofOption (leaves P t)
  let cs ←Cg P own ts n
  let v ←Aml P t cs
  D5 k (some (.box t v))
  C8 bs (n+own.length)
 | .arr k e t::bs,n=>do
  D5 k (some (.arr e t (.v n)))
  C8 bs (n+1)
 | .bld k t e st::bs,n=>do
  let k' ←Ej
  D5 k' (some (.arr e st (.v n)))
  D5 k (some (.box t (.agg t [.hid k,.ref k' st])))
  C8 bs (n+1)
def RS.arity:RS→Nat
 | .skip =>0
 | .clip _=>1
 | .whole _=>1
 | .cells _ o=>o.length
 | .nbox _ o=>o.length
 | .clo _ bxs=>(bxs.flatMap (·.2)).length
def PS.back:PS→Nat
 | .bld _ b=>if b then 1 else 0
 | .box _ o=>o.length
 | .arr _=>1
 | _=>0
def Amn:List Nat→Nat
 | []=>0
 | n::ns=>n+Amn ns
def Spec.arity (s:Spec):Nat:=Amn (s.results.map RS.arity)+Amn (s.params.map PS.back)
def PS.De:PS→Bool
 | .data _ | .fn _ _ | .rd _ | .fnb _ _=>true
 | _=>false
def Od (t:TypeId):Bool:=
 match leaves P t with
 | some ts=>ts.all fun u=>(Cz P u).isNone
 | none=>false
def Dj:List Bool→List TypeId→Bool
 | [],[]=>true
 | true::bs,t::ts=>(match Cz P t with | some e=>Od P e | none=>match Aj1 P t with | some kv=>Od P kv.1&&Od P kv.2 | none=>false)&&Dj bs ts
 | false::bs,t::ts=>(Cz P t).isNone &&Dj bs ts
 | _,_=>false
def RS.flat:RS→Bool
 | .skip =>true
 | .clip t=>Od P t
 | .whole t=>Od P t
 | .cells t own=>match leaves P t with | some ts=>Dj P own ts | none=>false
 | .nbox t own=>match leaves P t with | some ts=>Dj P own ts | none=>false
 | .clo _ bxs=>bxs.all fun b=>match leaves P b.1 with | some ts=>Dj P b.2 ts | none=>false
def PS.safe (p:PS):Bool:=
 match p with
 | .data _ | .fnb _ _ | .own _ | .bld _ _=>true
 | .fn _ ts=>ts.isEmpty
 | .arr t=>match Cz P t with | some e=>Od P e | none=>false
 | .box t bs=>match leaves P t with | some ts=>Dj P bs ts | none=>false
 | .rd _=>false
def X9:List PS→List VV→List Nat
 | .data _::ps,v::vs=>Ap v++X9 ps vs
 | _::ps,_::vs=>X9 ps vs
 | _,_=> []
def Ko:List PS→List VV→Bool
 | .data _::ps,.leaf _::vs=>Ko ps vs
 | .data _::ps,v::vs=>(Ap v).isEmpty &&Ko ps vs
 | _::ps,_::vs=>Ko ps vs
 | _,_=>true
def Nd:List Nat→EM (List Nat)
 | []=>pure []
 | k::ks=>do
  match ←E5 k with
  | .arr .. =>do
   let r ←Nd ks
   pure (k::r)
  | _=>Nd ks
def Kx:List Nat→EM Unit
 | []=>pure ()
 | k::ks=>do
  match ←E5 k with
  | .arr .. =>Kx ks
  | _=>fail
def Ad8 (p:PV):EM Unit:=do
 match p with
 | .p k _=>do
  match ←E5 k with
  | .box .. =>pure ()
  | _=>fail
 | .im .. =>pure ()
 | .el .. =>fail
def Sr:List PV→EM Unit
 | []=>pure ()
 | p::ps=>do
  Ad8 p
  Sr ps
def Ak3 (p:PS) (v:VV):EM Unit:=do
 match p with
 | .rd _=>
  match v with
  | .leaf (.ptr p)=>Ad8 p
  | _=>fail
 | .fn _ _=>
  match v with
  | .leaf (.fn _ caps)=>Sr caps
  | _=>fail
 | _=>pure ()
def still:List PS→List VV→EM Unit
 | [],[]=>pure ()
 | p::ps,v::vs=>do
  Ak3 p v
  still ps vs
 | _,_=>fail
def Ag5:List Operand→List TypeId→EM (List VV)
 | [],_=>pure []
 | x::xs,t::ts=>do
  let v ←rd1 P x t
  let vs ←Ag5 xs ts
  pure (v::vs)
 | _,[]=>fail
def Alk (b:Bool):EM Unit:=if b then pure () else bare
def Xq:List VV→SX
 | [v]=> .one v
 | rs=> .tup rs
def Ra (i:Nat) (s:Spec) (vs:List VV):EM SX:=do
 EM.guard (s.alias_||s.results.all (RS.flat P))
 Alk (s.params.all PS.De)
 let Zk:= !s.alias_ && !s.params.all PS.De&&s.params.all (PS.safe P)&&Ko s.params vs
 let ks ←Nd (if Zk then X9 s.params vs else [])
 let ab ←Mv P (!Zk &&(s.alias_|| !s.params.all PS.De)) s.params vs
 Kx ks
 still s.params vs
 let n ←emit (.call i ab.1 s.arity)
 let rm ←E1 P s.results n
 C8 P ab.2 rm.2
 pure (Xq rm.1)
def Ah5 (p:PS) (v:VV):EM Bool:=do
 match p,v with
 | .fn f _,.leaf (.fn g _)=>pure (f == g)
 | .fn ..,_=>pure false
 | .fnb _ _,_=>pure true
 | .data _,.leaf (.ptr _)=>pure false
 | .data _,.leaf (.fn ..)=>pure false
 | .own _,.leaf (.ref k _)=>do
  match ←E5 k with
  | .arr .. =>pure true
  | _=>pure false
 | .own _,.leaf (.sub ..)=>pure true
 | .own _,.leaf (.nil _)=>pure true
 | .own _,_=>pure false
 | .arr _,.leaf (.ref k _)=>do
  match ←E5 k with
  | .arr .. =>pure true
  | _=>pure false
 | .arr _,_=>pure false
 | .box _ _,.leaf (.ptr (.p _ 0))=>pure true
 | .box _ _,_=>pure false
 | .rd _,.leaf (.ptr _)=>pure true
 | .rd _,_=>pure false
 | .bld _ _,.leaf (.ptr (.p _ 0))=>pure true
 | .bld _ _,_=>pure false
 | _,_=>pure true
def Mm:List PS→List VV→EM Bool
 | [],[]=>pure true
 | p::ps,v::vs=>do
  if ←Ah5 p v then Mm ps vs else pure false
 | _,_=>pure false
def Af6 (p:PV):VV:= .leaf (.ptr p)
def Ab9:VV→Option (FuncId × List PV)
 | .leaf (.fn g caps)=>some (g,caps)
 | _=>none
def Axd:Value→Option (FuncId × List Value)
 | .func (.func g) first caps=>if first.isEmpty then some (g,caps.toList) else none
 | _=>none
def Z8:PS→Option (FuncId × Nat)
 | .fnb f n=>some (f,n)
 | _=>none
def Im:Nat→List PS→List VV→Option (List VV)
 | n+1,_::ps,vs=>Im n ps vs
 | _+1,[],_=>none
 | 0,[],[]=>some []
 | 0,[],_::_=>none
 | 0,_::_,[]=>none
 | 0,p::ps,v::vs=>
  match Z8 p with
  | none=>(Im 0 ps vs).map (v:: ·)
  | some fn=>
   match Ab9 v with
   | some gc=>if fn.1 == gc.1&&gc.2.length == fn.2 then (Im fn.2 ps vs).map fun r=> .leaf .junk ::(gc.2.map Af6++r) else none
   | none=>none
def Hk:Nat→List PS→List Value→Option (List Value)
 | n+1,_::ps,vs=>Hk n ps vs
 | _+1,[],_=>none
 | 0,[],[]=>some []
 | 0,[],_::_=>none
 | 0,_::_,[]=>none
 | 0,p::ps,v::vs=>
  match Z8 p with
  | none=>(Hk 0 ps vs).map (v:: ·)
  | some fn=>
   match Axd v with
   | some gc=>if fn.1 == gc.1&&gc.2.length == fn.2 then (Hk fn.2 ps vs).map fun r=>v::(gc.2++r) else none
   | none=>none
def Ka (f:FuncId) (vs:List VV):List (Nat × Spec)→EM (Nat × Spec)
 | []=>fail
 | (i,s)::ss=>
  if s.fn == f then
   match Im 0 s.params vs with
   | some fl=>do
    if ←Mm s.params fl then pure (i,s) else Ka f vs ss
   | none=>Ka f vs ss
  else Ka f vs ss
variable (specs:List (Nat × Spec))
def Aw2 (c:Call) (rt:TypeId):EM SX:=do
 match c.callee with
 | .builtin b=>
  match b,c.args.toList,c.argTypes.toList with
  | .len,[x],[t]=>Aye P t x rt
  | .append,[s,x],[st,xt]=>if isStr P xt then Wd P st xt s x rt else Pb P st xt s x rt
  | .clear,[x],[t]=>Ak0 P t x
  | .max,[x,y],[t,u]=>do
   EM.guard (t == u)
   Wu P true t x y rt
  | .min,[x,y],[t,u]=>do
   EM.guard (t == u)
   Wu P false t x y rt
  | _,_,_=>fail
 | .value fo=>do
  match ←rd1 P fo 0 with
  | .leaf (.fn f caps)=>do
   let vs ←Ag5 P c.args.toList c.argTypes.toList
   let all:=vs++caps.map Af6
   let q ←Ka f all specs
   let fl ←ofOption (Im 0 q.2.params all)
   Ra P q.1 q.2 fl
  | _=>fail
 | .invoke .. =>fail
def Lp (cv:Arg) (want:Bool) (x:Operand) (t:TypeId):EM Arg:=do
 match x with
 | .tmp s=>do
  let v ←X4 s
  EM.guard (Qz v.gs ((cv,want)::(←guards)))
  match v.x with
  | .one (.leaf (.at y t'))=>do
   EM.guard (t == t')
   pure y
  | _=>fail
 | .const c=>do
  match ←ofOption (Km P t c) with
  | .leaf (.at y _)=>pure y
  | _=>fail
 | _=>fail
def Au1 (c a b:Operand) (rt:TypeId):EM SX:=do
 EM.guard (isBool P rt)
 let cv ←Gq P c rt
 let x ←Lp P cv true a rt
 let y ←Lp P cv false b rt
 pure (dat (←Bo .pick [cv,x,y]) rt)
def Uk:List Operand→EM (List PV)
 | []=>pure []
 | x::xs=>do
  let p ←Tq (←rd1 P x 0)
  let ps ←Uk xs
  pure (p::ps)
def xOp (o:Oper):EM SX:=do
 match o.op with
 | .move x | .assign x=>rd P x o.type
 | .pick c a b=>Au1 P c a b o.type
 | .box t x=>do
  bare
  let v ←rd1 P x t
  EM.guard (Iy P t v)
  let k ←Ej
  D5 k (some (.box t v))
  pure (one (.leaf (.ptr (.p k 0))))
 | .alloc t=>
  match Aq2 P t with
  | some se=>Abv P t se.1
  | none=>do
   bare
   let v ←ofOption (Rk P t)
   EM.guard (V5 P t v)
   let k ←Ej
   D5 k (some (.box t v))
   pure (one (.leaf (.ptr (.p k 0))))
 | .load t a=>do
  let p ←Tq (←rd1 P a 0)
  pure (.one (←Ala P p t))
 | .store t a x=>do
  let p ←Tq (←rd1 P a 0)
  let v ←rd1 P x t
  Akt P p t v
  pure (one (.leaf .junk))
 | .fieldAddr s x f=>do
  let p ←Tq (←rd1 P x 0)
  match P.underlying s with
  | some (.struct fs)=>do
   let fl ←ofOption fs[f]?
   EM.guard (decide (0<Af P fl.type))
   pure (one (.leaf (.ptr (p.plus fl.offset))))
  | _=>fail
 | .field s x f=>do
  let v ←rd1 P x s
  match P.underlying s with
  | some (.struct fs)=>do
   let fl ←ofOption fs[f]?
   EM.guard ((P.underlying fl.type).isSome &&Tp P s v)
   pure (.one (←Aat P s v fl.offset fl.type))
  | _=>fail
 | .indexAddr t x i=>Pg P t x i
 | .index t x i=>do
  EM.guard (isStr P t&&Kl P o.type == some .u8)
  let a ←Gq P x t
  let iv ←Zz P i
  pure (dat (←Bo .Ho [a,iv]) o.type)
 | .slice t x lo hi mx=>Amd P t x lo hi mx
 | .binOp op xt x y yt=>Axr P op xt x y yt (rtOf P op xt o.type)
 | .unOp op xt x=>xUn P op xt x o.type
 | .convert src dst x=>At1 P src dst x
 | .nilCheck x=>do
  match ←rd1 P x 0 with
  | .leaf (.ptr p)=>pure (one (.leaf (.ptr p)))
  | .leaf (.fn f c)=>pure (one (.leaf (.fn f c)))
  | _=>fail
 | .extract t i=>do
  match ←rd P t 0 with
  | .tup vs=>do pure (.one (←ofOption vs[i]?))
  | .nx ok p r=>xNx P ok p r i o.type
  | _=>fail
 | .range t x=>Akw P t x
 | .next it isString=>Auz P it isString
 | .makeMap t r=>V3 P t r
 | .lookup t x i ok=>Abd P t x i ok
 | .mapUpdate t m i x=>Pc P t m i x
 | .build t parts=>Ajt P t parts
 | .buildSlice t len parts=>do
  if (←guards).isEmpty then M6 P t len parts else K5 P t len parts
 | .makeSlice t l c=>Ps P t l c
 | .makeFunc (.func f) first caps=>do
  EM.guard first.isEmpty
  pure (one (.leaf (.fn f (←Uk P caps.toList))))
 | .call c=>Aw2 P specs c o.type
 | _=>fail
end
structure St where
 n:Nat
 m:Nat
 tm:List (Nat × SV)
 ob:List (Nat × Ob)
 deriving Inhabited
def nothing:SV:=⟨[],.one (.leaf .junk)⟩
def Gs (t:Nat):List (Nat × SV)→SV
 | []=>nothing
 | (t',v)::r=>if t' == t then v else Gs t r
def L6 (k:Nat):List (Nat × Ob)→Option Ob
 | []=>none
 | (k',o)::r=>if k' == k then some o else L6 k r
def St.view (s:St):View:=⟨fun t=>Gs t s.tm,fun k=>L6 k s.ob⟩
def Akm (t:Nat) (v:SV):List (Nat × SV)→List (Nat × SV)
 | []=> [(t,v)]
 | (t',v')::r=>if t' == t then (t,v)::r else (t',v')::Akm t v r
def Abe (k:Nat):List (Nat × Ob)→List (Nat × Ob)
 | []=> []
 | (k',o)::r=>if k' == k then Abe k r else (k',o)::Abe k r
def Apd (k:Nat) (o:Option Ob) (l:List (Nat × Ob)):List (Nat × Ob):=
 match o with
 | some o=>(k,o)::Abe k l
 | none=>Abe k l
def Sn:List (Nat × Option Ob)→List (Nat × Ob)→List (Nat × Ob)
 | [],l=>l
 | (k,o)::r,l=>Apd k o (Sn r l)
def Wq (P:Program) (S:View) (ops:Array Oper) (o:Oper):Option (List (Arg × Bool) × List Nat):=
 match o.guard with
 | none=>some ([],[])
 | some (j,want)=>
  match (ops[j]?).bind (·.dst) with
  | none=>none
  | some d=>
   match (S.tm d).x with
   | .one (.leaf (.at x t))=>if isBool P t then some ((S.tm d).gs ++ [(x,want)],[d]) else none
   | _=>none
structure Ef where
 gs:List (Arg × Bool)
 lets:List PLt
 dst:Option Nat
 v:SV
 obs:List (Nat × Option Ob)
 slots:List Nat
 keys:List Nat
 n:Nat
 m:Nat
def Bs (S:View):List (Nat × Option Ob)→Bool
  | []=>true
  | (k,some (.frz e t c))::r=>
    (match S.ob k with
     | some (.arr e' t' c')=>e == e'&&t == t'&&c.same c'
     | some (.frz e' t' c')=>e == e'&&t == t'&&c.same c'
     | _=>false)&&Bs S r
  | _=>false
def Jt (m0:Nat):PV→Bool
 | .p k _=>decide (k<m0)
 | .el k _ _ _=>decide (k<m0)
 | .im .. =>true
def Js (m0:Nat):LV→Bool
 | .ref k _=>decide (k<m0)
 | .sub k _ _ _=>decide (k<m0)
 | .ptr p=>Jt m0 p
 | .fn _ ps=>ps.all (Jt m0)
 | .mref k _=>decide (k<m0)
 | .hid k=>decide (k<m0)
 | _=>true
def H3 (m0:Nat):VV→Bool
 | .leaf l=>Js m0 l
 | .agg _ ls=>ls.all (Js m0)
def N8 (m0:Nat):SX→Bool
 | .one v=>H3 m0 v
 | .tup vs=>vs.all (H3 m0)
 | .nx .. =>true
def Apx (P:Program) (specs:List (Nat × Spec)) (N:Nat) (ops:Array Oper) (m0:Nat) (S:View) (n m:Nat) (o:Oper):Option Ef:=
 match Wq P S ops o with
 | none=>none
 | some (gs,gk)=>
  match (xOp P specs o {n,m,gs,obs:= []}).run S with
  | none=>none
  | some ((x,es),lets,slots,keys)=>
   if (gs.isEmpty||(Bs S es.obs&&N8 m0 x))&&(match o.dst with | some d=>decide (d<N) | none=>true)&&decide (m≤es.m) then
    some {gs,lets,dst:=o.dst,v:=⟨gs,x⟩,obs:=es.obs,slots:=gk++slots,keys,n:=es.n,m:=es.m}
   else none
def St.after (s : St) (d : Ef) : St :=
  { n := d.n, m := d.m,
    tm := match d.dst with | some t => Akm t d.v s.tm | none => s.tm,
    ob := Sn d.obs s.ob }
def Aay (P:Program) (specs:List (Nat × Spec)) (N:Nat) (ops:Array Oper) (m0:Nat):List Oper→St→Option (List Ef × St)
 | [],s=>some ([],s)
 | o::os,s=>
  match Apx P specs N ops m0 s.view s.n s.m o with
  | none=>none
  | some d=>
   match Aay P specs N ops m0 os (s.after d) with
   | none=>none
   | some (ds,s')=>some (d::ds,s')
def Ak4 (acc:List Nat):List Edge→Nat
 | []=>0
 | e::es=>(if Region.binds .any e then (1<<<e.on)||| acc.getD e.on 0 else 0)||| Ak4 acc es
def Ap6:List Oper→List Nat→List Nat
 | [],acc=>acc
 | o::os,acc=>Ap6 os (acc++ [Ak4 acc o.after.toList])
def Ef.Afv (x y:Ef):Bool:=
 (match y.dst with | some t=>x.slots.contains t||x.dst == some t | none=>false)||y.obs.any fun p=>x.keys.contains p.1||x.obs.any fun q=>q.1 == p.1
def Qx (anc:Nat) (x:Ef):List Ef→Nat→Bool
 | [],_=>true
 | y::ys,j=>(anc.testBit j|| !(x.Afv y||y.Afv x))&&Qx anc x ys (j+1)
def Lo (before:List Ef):List Nat→List Ef→Bool
 | a::as,d::ds=>Qx a d before 0&&Lo (before++ [d]) as ds
 | [],[]=>true
 | _,_=>false
def Afx:List Oper→Nat→Bool
 | [],_=>true
 | o::os,i=>(o.after.toList.all fun e=> !Region.binds .any e||decide (e.on<i))&&Afx os (i+1)
def Afw (ops:List Oper) (ds:List Ef):Bool:=Afx ops 0&&Lo [] (Ap6 ops []) ds
def Qr (P:Program) (specs:List (Nat × Spec)) (N:Nat) (ops:Array Oper) (draw:Bool) (s:St):Option (List PLt × St):=
 match Aay P specs N ops s.m ops.toList s with
 | none=>none
 | some (ds,s')=>if !draw ||Afw ops.toList ds then some (ds.flatMap (·.lets),s') else none
end Go.CT
namespace Go.CT
open Go.RowKit
def Dh (w:World) (ad:Addr) (v:Value) (sz:Nat):Prop:=
 v.cells.size=sz∧ ∀ (i:Nat) (u:Value),v.cells[i]?=some u→w.cell? (ad.add i)=some u
inductive Rel (P:Program) (w:World) (O:Nat→Prop):TypeId→IV→Value→Prop
 | int {t:TypeId} {k:IntKind} {n:Int} :P.underlying t=some (.int k)→Rel P w O t (.int n) (.int k n)
 | bool {t:TypeId} {b:Bool} :P.underlying t=some .bool →Rel P w O t (.bool b) (.bool b)
 | str {t:TypeId} {s:ByteArray} :P.underlying t=some .string →Rel P w O t (.str s) (.string s)
 | agg {t:TypeId} {ts:List TypeId} {xs:List IV} {cs:Array Value} :Ag P t=true→leaves P t=some ts→xs.length=ts.length→cs.size=ts.length→
   (∀ (i:Nat) (u:TypeId),ts[i]?=some u→Ag P u=false)→
   (∀ (i:Nat) (u:TypeId) (x:IV) (c:Value),ts[i]?=some u→xs[i]?=some x→cs[i]?=some c→Rel P w O u x c)→
   Rel P w O t (.agg xs) (.agg cs)
 | list {t e:TypeId} {xs:List IV} {A:Option Addr} {c:Nat} (vs:Nat→Value):P.underlying t=some (.slice e)→xs.length≤c→xs.length≤maxLen→
   (0<xs.length→0<Af P e∧ ∃ad,A=some ad∧ ¬ O ad.block∧ ∀j,j<xs.length→Dh w (ad.add (j * Af P e)) (vs j) (Af P e))→
   (∀ (j:Nat) (x:IV),xs[j]?=some x→Rel P w O e x (vs j))→
   Rel P w O t (.list xs) (.slice A xs.length c)
theorem Cw (ad:Addr) (n:Nat):(ad.add n).block =ad.block:=by unfold Addr.add;split<;>rfl
theorem C4 (ad:Addr) (i j:Nat):(ad.add i).add j=ad.add (i+j):=by
 unfold Addr.add
 by_cases hi:i=0
 ·subst hi;simp
 ·by_cases hj:j=0
  ·subst hj;simp [hi]
  ·have: ¬ (i+j=0):=by omega
   simp [hi,hj,Nat.add_assoc]
theorem Au (ad:Addr):ad.add 0=ad:=by simp [Addr.add]
section
variable {P:Program} {w w':World} {O O':Nat→Prop} {t:TypeId} {x:IV} {v:Value}
theorem Dh.step {ad:Addr} {sz:Nat} (h:Dh w ad v sz) (hb:w'.heap[ad.block]?=w.heap[ad.block]?):Dh w' ad v sz:=by
 refine ⟨h.1,fun i u hu=>?_⟩
 rw [←h.2 i u hu]
 apply World.cell?_of_block
 rw [Cw]
 exact hb
theorem Dh.lt {ad:Addr} {sz:Nat} (h:Dh w ad v sz) (h0:0<sz):ad.block<w.heap.size:=by
 have h1:0<v.cells.size:=by rw [h.1];exact h0
 have:=World.block_lt_of_cell? w _ (h.2 0 _ (Array.getElem?_eq_getElem h1))
 rwa [Cw] at this
def I8 (O:Nat→Prop) (w w':World):Prop:= ∀b,b<w.heap.size→ ¬ O b→w'.heap[b]?=w.heap[b]?
theorem Dh.stays {ad:Addr} {sz:Nat} (h:Dh w ad v sz) (hw:I8 O w w') (ho: ¬ O ad.block):Dh w' ad v sz:=by
 by_cases hz:0<sz
 ·exact h.step (hw _ (h.lt hz) ho)
 ·refine ⟨h.1,fun i u hu=>?_⟩
  have:=(Array.getElem?_eq_some_iff.1 hu).1
  have:=h.1
  omega
theorem Rel.mono (h:Rel P w O t x v) (hO: ∀b,b<w.heap.size→O' b→O b) (hw:I8 O w w'):Rel P w' O' t x v:=by
 induction h with
 | int h=>exact .int h
 | bool h=>exact .bool h
 | str h=>exact .str h
 | agg h1 h2 h3 h4 h5 _ ih=>exact .agg h1 h2 h3 h4 h5 ih
 | list vs h1 h2 h3 h4 _ ih=>
  refine .list vs h1 h2 h3 (fun h0=>?_) ih
  obtain ⟨hs,ad,rfl,ho,hc⟩:=h4 h0
  have hlt:ad.block<w.heap.size:=by have:=(hc 0 h0).lt hs;rwa [Cw] at this
  exact ⟨hs,ad,rfl,fun h=>ho (hO _ hlt h),fun j hj=>(hc j hj).stays hw (by rwa [Cw])⟩
theorem I8.refl (O:Nat→Prop) (w:World):I8 O w w:=fun _ _ _=>rfl
theorem Rel.weaken (h:Rel P w O t x v) (hO: ∀b,b<w.heap.size→O' b→O b):Rel P w O' t x v:=h.mono hO (I8.refl _ _)
theorem Cl {k:IntKind} (h:Kl P t=some k):P.underlying t=some (.int k):=by
 unfold Kl at h;split at h<;>simp_all
theorem Bx (h:isBool P t=true):P.underlying t=some .bool :=by
 unfold isBool at h;split at h<;>simp_all
theorem Dl (h:isStr P t=true):P.underlying t=some .string :=by
 unfold isStr at h;split at h<;>simp_all
theorem Ba {e:TypeId} (h:Cz P t=some e):P.underlying t=some (.slice e):=by
 unfold Cz at h;split at h<;>simp_all
theorem Xo {k:IntKind} (h:P.underlying t=some (.int k)):Ag P t=false:=by simp [Ag,h]
theorem Tz (h:P.underlying t=some .bool):Ag P t=false:=by simp [Ag,h]
theorem Wi (h:P.underlying t=some .string):Ag P t=false:=by simp [Ag,h]
theorem Rel.Gp {k:IntKind} (h:Rel P w O t x v) (ht:P.underlying t=some (.int k)): ∃n,x= .int n∧v= .int k n:=by
 cases h with
 | int h=>rw [ht] at h;injection h with h;injection h with h;subst h;exact ⟨_,rfl,rfl⟩
 | bool h=>rw [ht] at h;cases h
 | str h=>rw [ht] at h;cases h
 | agg h=>simp [Ag,ht] at h
 | list _ h=>rw [ht] at h;cases h
theorem Rel.J7 (h:Rel P w O t x v) (ht:P.underlying t=some .bool): ∃b,x= .bool b∧v= .bool b:=by
 cases h with
 | int h=>rw [ht] at h;cases h
 | bool h=>exact ⟨_,rfl,rfl⟩
 | str h=>rw [ht] at h;cases h
 | agg h=>simp [Ag,ht] at h
 | list _ h=>rw [ht] at h;cases h
theorem Rel.Gj (h:Rel P w O t x v) (ht:P.underlying t=some .string): ∃s,x= .str s∧v= .string s:=by
 cases h with
 | int h=>rw [ht] at h;cases h
 | bool h=>rw [ht] at h;cases h
 | str h=>exact ⟨_,rfl,rfl⟩
 | agg h=>simp [Ag,ht] at h
 | list _ h=>rw [ht] at h;cases h
def Row (P:Program) (w:World) (O:Nat→Prop) (e:TypeId) (xs:List IV) (A:Option Addr) (c:Nat):Prop:=
 xs.length≤c∧xs.length≤maxLen∧ ∃vs:Nat→Value,
  (0<xs.length→0<Af P e∧ ∃ad,A=some ad∧ ¬ O ad.block∧ ∀j,j<xs.length→Dh w (ad.add (j * Af P e)) (vs j) (Af P e))∧
  ∀ (j:Nat) (x:IV),xs[j]?=some x→Rel P w O e x (vs j)
theorem Rel.Ca {e:TypeId} (h:Rel P w O t x v) (ht:P.underlying t=some (.slice e)): ∃xs A c,x= .list xs∧v= .slice A xs.length c∧Row P w O e xs A c:=by
 cases h with
 | int h=>rw [ht] at h;cases h
 | bool h=>rw [ht] at h;cases h
 | str h=>rw [ht] at h;cases h
 | agg h=>simp [Ag,ht] at h
 | list vs h h2 h3 h4 h5=>
  rw [ht] at h;injection h with h;injection h with h;subst h
  exact ⟨_,_,_,rfl,rfl,h2,h3,vs,h4,h5⟩
theorem Row.rel {e:TypeId} {xs:List IV} {A:Option Addr} {c:Nat} (h:Row P w O e xs A c) (ht:P.underlying t=some (.slice e)):Rel P w O t (.list xs) (.slice A xs.length c):=by
 obtain ⟨h1,h2,vs,h3,h4⟩:=h
 exact .list vs ht h1 h2 h3 h4
theorem Rel.Iz (h:Rel P w O t x v) (ht:Ag P t=true): ∃ts xs cs,leaves P t=some ts∧x= .agg xs∧v= .agg cs∧xs.length=ts.length∧cs.size=ts.length∧
  (∀ (i:Nat) (u:TypeId),ts[i]?=some u→Ag P u=false)∧
  ∀ (i:Nat) (u:TypeId) (x:IV) (c:Value),ts[i]?=some u→xs[i]?=some x→cs[i]?=some c→Rel P w O u x c:=by
 cases h with
 | int h=>simp [Ag,h] at ht
 | bool h=>simp [Ag,h] at ht
 | str h=>simp [Ag,h] at ht
 | agg h1 h2 h3 h4 h5 h6=>exact ⟨_,_,_,h2,rfl,rfl,h3,h4,h5,h6⟩
 | list _ h=>simp [Ag,h] at ht
theorem Rel.one (h:Rel P w O t x v) (ht:Ag P t=false):v.oneCell'=true∧v.cells= #[v]:=by
 cases h with
 | int h=>exact ⟨rfl,rfl⟩
 | bool h=>exact ⟨rfl,rfl⟩
 | str h=>exact ⟨rfl,rfl⟩
 | agg h=>simp [ht] at h
 | list _ h=>exact ⟨rfl,rfl⟩
theorem Rel.Nu (h:Rel P w O t x v): ∀u∈v.cells,u.oneCell'=true:=by
 by_cases ht:Ag P t=true
 ·obtain ⟨ts,xs,cs,h1,rfl,rfl,h3,h4,h5,h6⟩:=h.Iz ht
  intro u hu
  obtain ⟨i,hi,rfl⟩:=Array.mem_iff_getElem.1 hu
  have hi':i<cs.size:=hi
  have hx:i<xs.length:=by omega
  have ht':i<ts.length:=by omega
  exact ((h6 i _ _ _ (List.getElem?_eq_getElem ht') (List.getElem?_eq_getElem hx) (Array.getElem?_eq_getElem hi')).one (h5 i _ (List.getElem?_eq_getElem ht'))).1
 ·have ht':Ag P t=false:=by simpa using ht
  obtain ⟨h1,h2⟩:=h.one ht'
  intro u hu
  rw [h2] at hu
  simp at hu
  rw [hu];exact h1
theorem Row.mono {e:TypeId} {xs:List IV} {A:Option Addr} {c:Nat} (h:Row P w O e xs A c) (hO: ∀b,b<w.heap.size→O' b→O b) (hw:I8 O w w'):Row P w' O' e xs A c:=by
 obtain ⟨h1,h2,vs,h3,h4⟩:=h
 refine ⟨h1,h2,vs,fun h0=>?_,fun j x hx=>(h4 j x hx).mono hO hw⟩
 obtain ⟨hs,ad,rfl,ho,hc⟩:=h3 h0
 have hlt:ad.block<w.heap.size:=by have:=(hc 0 h0).lt hs;rwa [Cw] at this
 exact ⟨hs,ad,rfl,fun h=>ho (hO _ hlt h),fun j hj=>(hc j hj).stays hw (by rwa [Cw])⟩
theorem Row.nil (e:TypeId) (A:Option Addr) (c:Nat):Row P w O e [] A c:=⟨by simp,by simp,fun _=> .tuple #[],by simp,by simp⟩
theorem Row.at_ {e:TypeId} {xs:List IV} {A:Option Addr} {c:Nat} (h:Row P w O e xs A c) {j:Nat} {x:IV} (hx:xs[j]?=some x):
  ∃ad v,A=some ad∧ ¬ O ad.block∧Dh w (ad.add (j * Af P e)) v (Af P e)∧Rel P w O e x v:=by
 obtain ⟨h1,h2,vs,h3,h4⟩:=h
 have hj:=(List.getElem?_eq_some_iff.1 hx).1
 obtain ⟨hs,ad,rfl,ho,hc⟩:=h3 (by omega)
 exact ⟨ad,vs j,rfl,ho,hc j hj,h4 j x hx⟩
theorem Row.part {e:TypeId} {xs:List IV} {A:Option Addr} {c:Nat} (h:Row P w O e xs A c) {l r:Nat} (hl:l≤r) (hr:r≤xs.length):
  Row P w O e ((xs.take r).drop l) (if c=l then A else A.map (·.add (l * Af P e))) (c - l):=by
 obtain ⟨h1,h2,vs,h3,h4⟩:=h
 have hlen:((xs.take r).drop l).length =r - l:=by rw [List.length_drop,List.length_take];omega
 refine ⟨by omega,by omega,fun j=>vs (l+j),fun h0=>?_,fun j x hx=>?_⟩
 ·obtain ⟨hs,ad,rfl,ho,hc⟩:=h3 (by omega)
  have hcl:c≠l:=by omega
  refine ⟨hs,ad.add (l * Af P e),by simp [hcl],by rwa [Cw],fun j hj=>?_⟩
  rw [C4,←Nat.add_mul]
  exact hc (l+j) (by omega)
 ·have:xs[l+j]?=some x:=by
   rw [List.getElem?_drop,List.getElem?_take] at hx
   split at hx<;>simp_all
  exact h4 _ _ this
def Aci (P:Program) (w:World) (O:Nat→Prop) (e:TypeId) (xs:List IV) (A:Option Addr) (c:Nat):Prop:=
 xs.length≤c∧xs.length≤maxLen∧ ∃vs:Nat→Value,
  (0<xs.length→0<Af P e∧ ∃ad,A=some ad∧ ∀j,j<xs.length→Dh w (ad.add (j * Af P e)) (vs j) (Af P e))∧
  ∀ (j:Nat) (x:IV),xs[j]?=some x→Rel P w O e x (vs j)
theorem Row.Zk {e:TypeId} {xs:List IV} {A:Option Addr} {c:Nat} (h:Row P w O e xs A c):Aci P w O e xs A c:=by
 obtain ⟨h1,h2,vs,h3,h4⟩:=h
 exact ⟨h1,h2,vs,fun h0=>by obtain ⟨hs,ad,rfl,ho,hc⟩:=h3 h0;exact ⟨hs,ad,rfl,hc⟩,h4⟩
theorem Aci.row {e:TypeId} {xs:List IV} {A:Option Addr} {c:Nat} (h:Aci P w O e xs A c) (hO: ∀b,b<w.heap.size→O' b→O b) (hA: ∀ad,A=some ad→ ¬ O' ad.block):Row P w O' e xs A c:=by
 obtain ⟨h1,h2,vs,h3,h4⟩:=h
 exact ⟨h1,h2,vs,fun h0=>by obtain ⟨hs,ad,rfl,hc⟩:=h3 h0;exact ⟨hs,ad,rfl,hA _ rfl,hc⟩,fun j x hx=>(h4 j x hx).weaken hO⟩
theorem Aci.part {e:TypeId} {xs:List IV} {A:Option Addr} {c:Nat} (h:Aci P w O e xs A c) {l r:Nat} (hl:l≤r) (hr:r≤xs.length):
  Aci P w O e ((xs.take r).drop l) (if c=l then A else A.map (·.add (l * Af P e))) (c - l):=by
 obtain ⟨h1,h2,vs,h3,h4⟩:=h
 have hlen:((xs.take r).drop l).length =r - l:=by rw [List.length_drop,List.length_take];omega
 refine ⟨by omega,by omega,fun j=>vs (l+j),fun h0=>?_,fun j x hx=>?_⟩
 ·obtain ⟨hs,ad,rfl,hc⟩:=h3 (by omega)
  have hcl:c≠l:=by omega
  refine ⟨hs,ad.add (l * Af P e),by simp [hcl],fun j hj=>?_⟩
  rw [C4,←Nat.add_mul]
  exact hc (l+j) (by omega)
 ·have:xs[l+j]?=some x:=by
   rw [List.getElem?_drop,List.getElem?_take] at hx
   split at hx<;>simp_all
  exact h4 _ _ this
theorem Row.nilB (e:TypeId) (A:Option Addr) (c:Nat):Aci P w O e [] A c:=(Row.nil (P:=P) (w:=w) (O:=O) e A c).Zk
def Kq (P:Program) (t:TypeId) (cs:Array Value) (off:Nat):Value:=
 if Ag P t then .agg (cs.extract off (off+Af P t)) else cs.getD off undef
theorem Kn {d:TypeDesc} (ht:P.underlying t=some d):(isAgg t).run P w= .ok (Ag P t) w:=by
 unfold isAgg underlying Ag
 simp [ht]
 cases d<;>rfl
theorem run_sizeOf {i:TypeInfo} (ht:P.info? t=some i):(sizeOf t).run P w= .ok (Af P t) w:=by
 unfold sizeOf typeInfo Af
 simp [ht]
theorem Hp (h:Ag P t=true): ∃d,P.underlying t=some d:=by
 unfold Ag at h
 cases hd:P.underlying t with
 | none=>simp [hd] at h
 | some d=>exact ⟨d,rfl⟩
theorem D1 (h:0<Af P t): ∃i,P.info? t=some i:=by
 unfold Af at h
 cases hd:P.info? t with
 | none=>simp [hd] at h
 | some d=>exact ⟨d,rfl⟩
theorem D3 {d:TypeDesc} (h:P.underlying t=some d): ∃i,P.info? t=some i:=by
 unfold Program.underlying at h
 cases hi:P.info? t with
 | none=>simp [hi] at h
 | some i=>exact ⟨i,rfl⟩
theorem Qp {d:TypeDesc} {ad:Addr} {sz off:Nat} (hu:P.underlying t=some d) (h:Dh w ad v sz)
  (ha:Ag P t=true→off+Af P t≤sz) (ho:Ag P t=false→off<sz):
  (loadVar t (ad.add off)).run P w= .ok (Kq P t v.cells off) w:=by
 unfold loadVar Kq
 simp only [Sem.run_bind,Kn hu,Result.andThen_ok]
 by_cases hagg:Ag P t=true
 ·have hle:=ha hagg
  obtain ⟨i,hi⟩:=D3 hu
  simp only [hagg,if_true,Sem.run_bind,run_sizeOf hi,Result.andThen_ok]
  have hl:=run_loadCells_list (P:=P) w (ad.add off) ((v.cells.toList.drop off).take (Af P t)) (fun j u hj=>by
   rw [List.getElem?_take] at hj
   split at hj
   ·rw [List.getElem?_drop] at hj
    rw [C4]
    exact h.2 _ _ (by simpa using hj)
   ·simp at hj)
  have hlen:((v.cells.toList.drop off).take (Af P t)).length =Af P t:=by
   rw [List.length_take,List.length_drop,Array.length_toList,h.1];omega
  rw [hlen] at hl
  rw [hl]
  simp only [Result.andThen_ok,Sem.run_pure]
  congr 2
  apply Array.ext'
  simp [Array.toList_extract,List.extract]
 ·have hagg':Ag P t=false:=by simpa using hagg
  have hlt:=ho hagg'
  rw [←h.1] at hlt
  simp [hagg',h.2 off _ (Array.getElem?_eq_getElem hlt)]
  simp [hlt]
theorem Rel.Vb (h:Rel P w O t x v) (hs:v.cells.size=Af P t):Kq P t v.cells 0=v:=by
 unfold Kq
 by_cases ht:Ag P t=true
 ·obtain ⟨ts,xs,cs,h1,rfl,rfl,h3,h4,h5,h6⟩:=h.Iz ht
  simp only [ht,if_true]
  congr 1
  have:cs.size=Af P t:=hs
  simp [Value.cells,←this]
 ·have ht':Ag P t=false:=by simpa using ht
  rw [(h.one ht').2]
  simp [ht']
theorem Rel.Kq {t0:TypeId} {off:Nat} (h:Rel P w O t0 x v) (ht0:Ag P t0=true) (hp:Ro P t0 off t=true) {y:IV}
  (hy:Prim.ev (.proj off (Af P t) (Ag P t)) [x]=some y):Rel P w O t y (Kq P t v.cells off)∧0<Af P t∧off+Af P t≤v.cells.size:=by
 obtain ⟨ts,xs,cs,h1,rfl,rfl,h3,h4,h5,h6⟩:=h.Iz ht0
 unfold Ro at hp
 rw [h1] at hp
 cases hus:leaves P t with
 | none=>simp [hus] at hp
 | some us=>
  simp only [hus,Bool.and_eq_true,beq_iff_eq,decide_eq_true_eq] at hp
  obtain ⟨⟨hp1,hp2⟩,hp3⟩:=hp
  have hlen:off+us.length≤ts.length:=by
   have:=congrArg List.length hp1
   rw [List.length_take,List.length_drop] at this
   omega
  refine ⟨?_,by omega,by show off+_≤cs.size;omega⟩
  have hget: ∀ (i:Nat) (u:TypeId),us[i]?=some u→ts[off+i]?=some u:=by
   intro i u hu
   rw [←hp1,List.getElem?_take] at hu
   split at hu
   ·rwa [List.getElem?_drop] at hu
   ·simp at hu
  unfold CT.Kq
  by_cases hagg:Ag P t=true
  ·simp only [hagg,if_true,Prim.ev,Option.some.injEq] at hy ⊢
   subst hy
   refine .agg hagg hus ?_ ?_ (fun i u hu=>h5 _ _ (hget i u hu)) (fun i u x c hu hx hc=>?_)
   ·rw [List.length_take,List.length_drop];omega
   ·simp [Value.cells];omega
   ·refine h6 (off+i) u x c (hget i u hu) ?_ ?_
    ·rw [List.getElem?_take] at hx
     split at hx
     ·rwa [List.getElem?_drop] at hx
     ·simp at hx
    ·rw [Array.getElem?_extract] at hc
     split at hc
     ·simpa [Value.cells] using hc
     ·simp at hc
  ·have hagg':Ag P t=false:=by simpa using hagg
   simp only [hagg',Prim.ev,Bool.false_eq_true,if_false] at hy ⊢
   -- one cell
   have hu1:us= [t]:=by
    have hl: ∀ (d:Nat),E6 P (d+1) t=some us→us= [t]:=by
     intro d hd
     unfold E6 at hd
     cases hun:P.underlying t with
     | none=>simp [hun] at hd
     | some de=>cases de<;>simp_all [Ag]
    exact hl 11 hus
   subst hu1
   have ht:=hget 0 t rfl
   have hoff:off<cs.size:=by simp at hlen;omega
   refine h6 off t y _ (by simpa using ht) hy ?_
   simp [Value.cells,Array.getD,hoff]
end
end Go.CT
namespace Go.CT
def cur (S:View) (obs:List (Nat × Option Ob)) (k:Nat):Option Ob:=
 match Ga k obs with
 | some o=>o
 | none=>S.ob k
def Ev {α:Type} (S:View) (f:EM α) (es:ES) (x:α) (es':ES) (ls:List PLt):Prop:= ∃sl ks,(f es).run S=some ((x,es'),ls,sl,ks)
section
variable {α β:Type} {S:View} {es es':ES} {ls:List PLt}
theorem RM.run_bind (r:RM α) (f:α→RM β):(r.bind f).run S=(r.run S).bind fun (a,e,l,k)=>((f a).run S).map fun (b,e',l',k')=>(b,e++e',l++l',k++k'):=by
 induction r with
 | pure a=>simp [RM.bind,RM.run]
 | tm s k ih=>
  simp only [RM.bind,RM.run,ih]
  cases (k (S.tm s)).run S with
  | none=>rfl
  | some r=>obtain ⟨a,e,l,r⟩:=r;simp;cases (f a).run S<;>simp
 | ob s k ih=>
  simp only [RM.bind,RM.run,ih]
  cases (k (S.ob s)).run S with
  | none=>rfl
  | some r=>obtain ⟨a,e,l,r⟩:=r;simp;cases (f a).run S<;>simp
 | emit t k ih=>
  simp only [RM.bind,RM.run,ih]
  cases k.run S with
  | none=>rfl
  | some r=>obtain ⟨a,e,l,r⟩:=r;simp;cases (f a).run S<;>simp
 | fail=>rfl
theorem Ac {a x:α} :Ev S (pure a) es x es' ls↔x=a∧es=es'∧ls= []:=by
 show (∃sl ks,some _=some _)↔_
 constructor
 ·rintro ⟨sl,ks,h⟩
  simp only [Option.some.injEq,Prod.mk.injEq] at h
  exact ⟨h.1.1.symm,h.1.2,h.2.1.symm⟩
 ·rintro ⟨rfl,rfl,rfl⟩
  exact ⟨[],[],rfl⟩
theorem Aa {x:EM α} {f:α→EM β} {r:β} :Ev S (x >>= f) es r es' ls↔ ∃a es1 l1 l2,Ev S x es a es1 l1∧Ev S (f a) es1 r es' l2∧ls=l1++l2:=by
 unfold Ev
 have hb:(x >>= f) es=(x es).bind fun (a,s')=>f a s':=rfl
 constructor
 ·rintro ⟨sl,ks,h⟩
  rw [hb,RM.run_bind] at h
  cases hx:(x es).run S with
  | none=>simp [hx] at h
  | some y=>
   obtain ⟨⟨a,es1⟩,l1,s1,k1⟩:=y
   simp only [hx,Option.bind_some] at h
   cases hf:(f a es1).run S with
   | none=>simp [hf] at h
   | some z=>
    obtain ⟨⟨b,es2⟩,l2,s2,k2⟩:=z
    simp only [hf,Option.map_some,Option.some.injEq,Prod.mk.injEq] at h
    obtain ⟨⟨rfl,rfl⟩,rfl,_,_⟩:=h
    exact ⟨a,es1,l1,l2,⟨s1,k1,rfl⟩,⟨s2,k2,hf⟩,rfl⟩
 ·rintro ⟨a,es1,l1,l2,⟨s1,k1,h1⟩,⟨s2,k2,h2⟩,rfl⟩
  refine ⟨s1++s2,k1++k2,?_⟩
  rw [hb,RM.run_bind,h1]
  simp [h2]
theorem Ad {x:α} :Ev S (EM.fail:EM α) es x es' ls↔False:=by
 constructor
 ·rintro ⟨sl,ks,h⟩;simp [EM.fail,RM.run] at h
 ·exact False.elim
theorem Jo {s:Nat} {x:SV} :Ev S (EM.X4 s) es x es' ls↔x=S.tm s∧es=es'∧ls= []:=by
 constructor
 ·rintro ⟨sl,ks,h⟩
  simp only [EM.X4,RM.run,Option.map_some,Option.some.injEq,Prod.mk.injEq] at h
  exact ⟨h.1.1.symm,h.1.2,h.2.1.symm⟩
 ·rintro ⟨rfl,rfl,rfl⟩
  exact ⟨[s],[],rfl⟩
theorem Be {k:Nat} {x:Ob} :Ev S (EM.E5 k) es x es' ls↔cur S es.obs k=some x∧es=es'∧ls= []:=by
 unfold Ev EM.E5 cur
 cases h1:Ga k es.obs with
 | some o=>
  cases o with
  | some o=>
   simp only [RM.run,Option.some.injEq,Prod.mk.injEq]
   constructor
   ·rintro ⟨sl,ks,⟨h,h'⟩,rfl,_⟩;simp_all
   ·rintro ⟨h,rfl,rfl⟩;exact ⟨[],[],by simp_all⟩
  | none=>simp [RM.run]
 | none=>
  simp only [RM.run]
  cases h2:S.ob k with
  | none=>simp [RM.run]
  | some o=>
   simp only [RM.run,Option.map_some,Option.some.injEq,Prod.mk.injEq]
   constructor
   ·rintro ⟨sl,ks,⟨h,h'⟩,rfl,_⟩;simp_all
   ·rintro ⟨h,rfl,rfl⟩;exact ⟨[],[k],by simp_all⟩
theorem Ai {o:Option α} {x:α} :Ev S (EM.ofOption o) es x es' ls↔o=some x∧es=es'∧ls= []:=by
 unfold Ev EM.ofOption
 cases o with
 | none=>simp [RM.run]
 | some o=>
  simp only [RM.run,Option.some.injEq,Prod.mk.injEq]
  constructor
  ·rintro ⟨sl,ks,⟨h,h'⟩,rfl,_⟩;simp_all
  ·rintro ⟨h,rfl,rfl⟩;exact ⟨[],[],by simp_all⟩
theorem Ae {b:Bool} {x:Unit} :Ev S (EM.guard b) es x es' ls↔b=true∧es=es'∧ls= []:=by
 unfold Ev EM.guard
 cases b with
 | false=>simp [RM.run]
 | true=>
  simp only [RM.run,if_true,Option.some.injEq,Prod.mk.injEq]
  constructor
  ·rintro ⟨sl,ks,⟨h,h'⟩,rfl,_⟩;simp_all
  ·rintro ⟨_,rfl,rfl⟩;exact ⟨[],[],by simp_all⟩
theorem Ac7 {l:Kj} {x:Nat} :Ev S (EM.emit l) es x es' ls↔x=es.n∧es'= {es with n:=es.n+l.arity} ∧ls= [⟨es.n,⟨es.gs,l⟩⟩]:=by
 unfold Ev EM.emit
 simp only [RM.run,Option.map_some,Option.some.injEq,Prod.mk.injEq]
 constructor
 ·rintro ⟨sl,ks,⟨h,h'⟩,rfl,_⟩;exact ⟨h.symm,h'.symm,rfl⟩
 ·rintro ⟨rfl,rfl,rfl⟩;exact ⟨[],[],⟨rfl,rfl⟩,rfl,rfl,rfl⟩
theorem A5 {k:Nat} {o:Option Ob} {x:Unit} :Ev S (EM.D5 k o) es x es' ls↔es'= {es with obs:=(k,o)::es.obs} ∧ls= []:=by
 unfold Ev EM.D5
 simp only [RM.run,Option.some.injEq,Prod.mk.injEq]
 constructor
 ·rintro ⟨sl,ks,⟨h,h'⟩,rfl,_⟩;simp_all
 ·rintro ⟨rfl,rfl⟩;exact ⟨[],[],by simp⟩
theorem Bp {x:Nat} :Ev S EM.Ej es x es' ls↔x=es.m∧es'= {es with m:=es.m+1} ∧ls= []:=by
 unfold Ev EM.Ej
 simp only [RM.run,Option.some.injEq,Prod.mk.injEq]
 constructor
 ·rintro ⟨sl,ks,⟨h,h'⟩,rfl,_⟩;exact ⟨h.symm,h'.symm,rfl⟩
 ·rintro ⟨rfl,rfl,rfl⟩;exact ⟨[],[],⟨rfl,rfl⟩,rfl,rfl,rfl⟩
theorem Ha {x:List (Arg × Bool)} :Ev S EM.guards es x es' ls↔x=es.gs∧es=es'∧ls= []:=by
 unfold Ev EM.guards
 simp only [RM.run,Option.some.injEq,Prod.mk.injEq]
 constructor
 ·rintro ⟨sl,ks,⟨h,h'⟩,rfl,_⟩;exact ⟨h.symm,h',rfl⟩
 ·rintro ⟨rfl,rfl,rfl⟩;exact ⟨[],[],⟨rfl,rfl⟩,rfl,rfl,rfl⟩
theorem Cy {x:Unit} :Ev S EM.bare es x es' ls↔es.gs= []∧es=es'∧ls= []:=by
 unfold Ev EM.bare
 cases hg:es.gs with
 | nil=>
  simp only [RM.run,Option.some.injEq,Prod.mk.injEq]
  constructor
  ·rintro ⟨sl,ks,⟨h,h'⟩,rfl,_⟩;simp_all
  ·rintro ⟨_,rfl,rfl⟩;exact ⟨[],[],by simp_all⟩
 | cons=>simp [RM.run]
theorem Bb {p:Prim} {as:List Arg} {x:Arg} :Ev S (EM.Bo p as) es x es' ls↔x= .v es.n∧es'= {es with n:=es.n+1} ∧ls= [⟨es.n,⟨es.gs,.Bo p as⟩⟩]:=by
 unfold EM.Bo
 rw [Aa]
 constructor
 ·rintro ⟨a,es1,l1,l2,h1,h2,rfl⟩
  rw [Ac7] at h1;rw [Ac] at h2
  obtain ⟨rfl,rfl,rfl⟩:=h1
  obtain ⟨rfl,rfl,rfl⟩:=h2
  exact ⟨rfl,rfl,rfl⟩
 ·rintro ⟨rfl,rfl,rfl⟩
  exact ⟨_,_,_,_,Ac7.2 ⟨rfl,rfl,rfl⟩,Ac.2 ⟨rfl,rfl,rfl⟩,rfl⟩
theorem Gk {c:Prop} [Decidable c] {f g:EM α} {x:α} :Ev S (if c then f else g) es x es' ls↔(c∧Ev S f es x es' ls)∨(¬ c∧Ev S g es x es' ls):=by
 by_cases h:c<;>simp [h]
end
def Ayj (R:Job→List IV→Option (List IV)) (ρ:List IV) (l:PLt):Prop:=
 ∃xs,l.l.ev R ρ=some xs∧ ∀i,i<l.l.l.arity→ρ[l.n+i]?=xs[i]?
def LH (R:Job→List IV→Option (List IV)) (ρ:List IV) (ls:List PLt):Prop:= ∀l∈ls,Ayj R ρ l
theorem LH.left {R:Job→List IV→Option (List IV)} {ρ:List IV} {l1 l2:List PLt} (h:LH R ρ (l1++l2)):LH R ρ l1:=fun l hl=>h l (List.mem_append_left _ hl)
theorem LH.right {R:Job→List IV→Option (List IV)} {ρ:List IV} {l1 l2:List PLt} (h:LH R ρ (l1++l2)):LH R ρ l2:=fun l hl=>h l (List.mem_append_right _ hl)
theorem LH.Bo {R:Job→List IV→Option (List IV)} {ρ:List IV} {n:Nat} {gs:List (Arg × Bool)} {p:Prim} {as:List Arg} (h:LH R ρ [⟨n,⟨gs,.Bo p as⟩⟩]) (hg:holds ρ gs=some true):
  ∃vs y,Arg.evs ρ as=some vs∧p.ev vs=some y∧Arg.ev ρ (.v n)=some y:=by
 obtain ⟨xs,h1,h2⟩:=h _ (List.mem_singleton.2 rfl)
 simp only [Jc.ev,hg,Option.bind_some,if_true,Kj.ev] at h1
 cases hv:Arg.evs ρ as with
 | none=>simp [hv] at h1
 | some vs=>
  simp only [hv,Option.bind_some] at h1
  cases hy:p.ev vs with
  | none=>simp [hy] at h1
  | some y=>
   simp only [hy,Option.map_some,Option.some.injEq] at h1
   subst h1
   have:=h2 0 (by simp [Kj.arity])
   exact ⟨vs,y,rfl,hy,by simpa [Arg.ev] using this⟩
def blk:Value→Option Nat
 | .slice (some a) _ _=>some a.block
 | .pointer (some a)=>some a.block
 | .map (some r)=>some r
 | _=>none
def Ob.Dn:Ob→Bool
 | .box _ _=>true
 | .arr .. =>true
 | .frz .. =>false
 | .iter .. =>true
 | .mp .. =>true
def Wr (ob:Nat→Option Ob) (μ:Nat→Value) (b:Nat):Prop:= ∃k o,ob k=some o∧o.Dn=true∧blk (μ k)=some b
structure Cx where
 P:Program
 ρ:List IV
 μ:Nat→Value
 w:World
 O:Nat→Prop -- data lie outside
 W:Nat→Prop -- what this call may write
def Ts (c:Cx) (x:Arg) (t:TypeId) (v:Value):Prop:= ∃iv,x.ev c.ρ=some iv∧Rel c.P c.w c.O t iv v
def Xz (c:Cx):PV→Value→Prop
 | .p k off,v=> ∃b,c.μ k= .pointer (some ⟨b,0,none⟩)∧v= .pointer (some ((⟨b,0,none⟩:Addr).add off))
 | .el k e i off,v=> ∃g n cap j,c.μ k= .slice (some ⟨g,0,none⟩) n cap∧i.ev c.ρ=some (.int (j:Nat))∧j<n∧
   v= .pointer (some ((⟨g,0,none⟩:Addr).add (j * Af c.P e+off)))
 | .im x t off,v=> ∃ad u,Ts c x t u∧Dh c.w ad u (Af c.P t)∧0<Af c.P t∧ ¬ c.W ad.block∧v= .pointer (some (ad.add off))
def Kk (c:Cx):List PV→List Value→Prop
 | [],[]=>True
 | p::ps,v::vs=>Xz c p v∧Kk c ps vs
 | _,_=>False
def Tr (c:Cx):LV→Value→Prop
 | .at x t,v=>Ts c x t v
 | .nil _,v=>v= .slice none 0 0
 | .ref k _,v=>v=c.μ k∧ ∃A n cap,v= .slice A n cap
 | .sub k lo hi t,v=> ∃ (A:Option Addr) (n cap l h:Nat) (e:TypeId),c.P.underlying t=some (.slice e)∧c.μ k= .slice A n cap∧lo.ev c.ρ=some (.int l)∧hi.ev c.ρ=some (.int h)∧l≤h∧h≤n∧
   v= .slice (if cap=l then A else A.map (·.add (l * Af c.P e))) (h - l) (cap - l)
 | .ptr p,v=>Xz c p v
 | .fn f ps,v=> ∃vs:Array Value,v= .func (.func f) #[] vs∧Kk c ps vs.toList
 | .mref k _,v=>v=c.μ k∧ ∃r,v= .map (some r)
 | .cl x t,v=>Ts c x t v∧ ∃A n,v= .slice A n n
 | .hid k,v=>v= .pointer none∨(v=c.μ k∧ ∃a,v= .pointer (some a))
 | .junk,_=>True
def Aw8 (c:Cx) (l:LV) (v:Value):Prop:=v.oneCell'=true∧Tr c l v
def C6 (c:Cx):List LV→List Value→Prop
 | [],[]=>True
 | l::ls,v::vs=>Aw8 c l v∧C6 c ls vs
 | _,_=>False
def Ki (c:Cx):VV→Value→Prop
 | .leaf l,v=>Tr c l v
 | .agg _ ls,v=> ∃cs:Array Value,v= .agg cs∧C6 c ls cs.toList
def Dy (c:Cx):List VV→List Value→Prop
 | [],[]=>True
 | l::ls,v::vs=>Ki c l v∧Dy c ls vs
 | _,_=>False
def Acn (c:Cx):SX→Value→Prop
 | .one v,u=>Ki c v u
 | .tup vs,u=> ∃us:Array Value,u= .tuple us∧Dy c vs us.toList
 | .nx ok i r,u=> ∃ (b:Bool) (n m:Int),ok.ev c.ρ=some (.bool b)∧i.ev c.ρ=some (.int n)∧r.ev c.ρ=some (.int m)∧u= .tuple (if b then #[.bool true,.int .i64 n,.int .i32 m] else #[.bool false])
def Amk (c:Cx) (s:SV) (v:Value):Prop:= ∃b,holds c.ρ s.gs=some b∧(b=true→Acn c s.x v)∧(b=false→v=undef)
def Ik (P:Program) (w:World) (O:Nat→Prop) (e:TypeId) (ivs:List IV) (cs:List Value):Prop:=
 ∀ (j:Nat) (x:IV),ivs[j]?=some x→ ∃v:Value,Rel P w O e x v∧v.cells.toList=(cs.drop (j * Af P e)).take (Af P e)∧v.cells.size=Af P e
def H9 (P:Program) (w:World) (O:Nat→Prop) (kt vt:TypeId):List IV→List MapEntry→Prop
 | [],[]=>True
 | x::xs,e::es=>(∃a b,x= .agg [a,b]∧Rel P w O kt a e.key∧Rel P w O vt b e.val)∧H9 P w O kt vt xs es
 | _,_=>False
def Y0 (c:Cx) (k:Nat):Ob→Prop
 | .box t vv=> ∃b v,c.μ k= .pointer (some ⟨b,0,none⟩)∧c.w.heap[b]?=some (.cells v.cells t (0,0))∧v.cells.size=Af c.P t∧
   (if Ag c.P t then ∃cs,v= .agg cs else v.oneCell'=true)∧(∀u∈v.cells,u.oneCell'=true)∧Ki c vv v
 | .arr e t a=> ∃ivs cs,a.ev c.ρ=some (.list ivs)∧c.P.underlying t=some (.slice e)∧0<Af c.P e∧c.w.ownsRow 0 e (Af c.P e) (c.μ k) ivs.length cs∧Ik c.P c.w c.O e ivs cs∧
   (∀u∈cs,u.oneCell'=true)
 | .frz e t a=>c.P.underlying t=some (.slice e)∧Ts c a t (c.μ k)
 | .iter s p=> ∃ (b n:Nat) (bs:ByteArray),c.μ k= .pointer (some ⟨b,0,none⟩)∧c.w.heap[b]?=some (.stringIter bs n)∧s.ev c.ρ=some (.str bs)∧p.ev c.ρ=some (.int n)
 | .mp t kt vt a=> ∃ (r cl:Nat) (es:Array MapEntry) (ivs:List IV),c.μ k= .map (some r)∧c.w.heap[r]?=some (.map es cl)∧c.P.underlying t=some (.map kt vt)∧Aid c.P kt=true∧a.ev c.ρ=some (.list ivs)∧H9 c.P c.w c.O kt vt ivs es.toList
def A6 (P:Program) (X:Nat→Prop) (ρ:List IV) (ob:Nat→Option Ob) (μ:Nat→Value) (w:World):Cx:=
 {P,ρ,μ,w,O:=fun b=>X b∨Wr ob μ b,W:=Wr ob μ}
structure Good (P:Program) (N:Nat) (X:Nat→Prop) (ρ:List IV) (K:Nat→Prop) (tm:Nat→SV) (ob:Nat→Option Ob) (μ:Nat→Value) (a:Act) (w:World):Prop where
 size:a.tmps.size=N
 defers:a.defers= []
 slot: ∀s,Amk (A6 P X ρ ob μ w) (tm s) (a.tmps.getD s undef)
 obj: ∀k o,ob k=some o→Y0 (A6 P X ρ ob μ w) k o
 sep: ∀k k' o o' b,ob k=some o→ob k'=some o'→o.Dn=true→o'.Dn=true→blk (μ k)=some b→blk (μ k')=some b→k=k'
 xsep: ∀k o b,ob k=some o→o.Dn=true→blk (μ k)=some b→ ¬ X b
 xlt: ∀b,X b→b<w.heap.size
 kt: ∀s k,k∈Br (tm s).x →K k
 ko: ∀k o,ob k=some o→K k∧ ∀k'∈Ee o,K k'
end Go.CT
namespace Go.CT
structure C0 (K:Nat→Prop) (c c':Cx):Prop where
 P:c'.P=c.P
 ρ: ∀ (n:Nat) (y:IV),c.ρ[n]?=some y→c'.ρ[n]?=some y
 μ: ∀k,K k→c'.μ k=c.μ k
 stays:I8 c.W c.w c'.w
 O: ∀b,b<c.w.heap.size→c'.O b→c.O b
 W: ∀b,b<c.w.heap.size→c'.W b→c.W b
 WO: ∀b,c.W b→c.O b
section
variable {K:Nat→Prop} {c c':Cx}
theorem Arg.D0 {ρ ρ':List IV} (h: ∀ (n:Nat) (y:IV),ρ[n]?=some y→ρ'[n]?=some y) {x:Arg} {y:IV} (hx:x.ev ρ=some y):x.ev ρ'=some y:=by
 cases x with
 | v n=>exact h n y hx
 | k c=>exact hx
theorem M9 {ρ ρ':List IV} (h: ∀ (n:Nat) (y:IV),ρ[n]?=some y→ρ'[n]?=some y): ∀ {gs:List (Arg × Bool)} {b:Bool},holds ρ gs=some b→holds ρ' gs=some b
 | [],_,hx=>hx
 | (a,want)::gs,b,hx=>by
  unfold holds at hx ⊢
  cases ha:a.ev ρ with
  | none=>simp [ha] at hx
  | some y=>
   rw [Arg.D0 h ha]
   simp only [ha] at hx
   cases y<;>simp_all
   split<;>simp_all
   exact M9 h hx
theorem C0.rel (h:C0 K c c') {t:TypeId} {x:IV} {v:Value} (hr:Rel c.P c.w c.O t x v):Rel c'.P c'.w c'.O t x v:=by
 rw [h.P]
 exact hr.mono h.O (fun b hb ho=>h.stays b hb fun hw=>ho (h.WO b hw))
theorem C0.Awr (h:C0 K c c') {x:Arg} {t:TypeId} {v:Value} (hr:Ts c x t v):Ts c' x t v:=by
 obtain ⟨iv,h1,h2⟩:=hr
 exact ⟨iv,Arg.D0 h.ρ h1,h.rel h2⟩
theorem C0.prel (h:C0 K c c') {p:PV} {v:Value} (hk: ∀k∈Cv p,K k) (hr:Xz c p v):Xz c' p v:=by
 cases p with
 | p k off=>
  obtain ⟨b,h1,h2⟩:=hr
  exact ⟨b,by rw [h.μ k (hk k (by simp [Cv]))];exact h1,h2⟩
 | el k e i off=>
  obtain ⟨g,n,cap,j,h1,h2,h3,h4⟩:=hr
  exact ⟨g,n,cap,j,by rw [h.μ k (hk k (by simp [Cv]))];exact h1,Arg.D0 h.ρ h2,h3,by rw [h.P];exact h4⟩
 | im x t off=>
  obtain ⟨ad,u,h1,h2,hs,h3,h4⟩:=hr
  have hlt:=h2.lt hs
  exact ⟨ad,u,h.Awr h1,by rw [h.P];exact h2.stays h.stays h3,by rw [h.P];exact hs,fun hw=>h3 (h.W _ hlt hw),h4⟩
theorem C0.Aad (h:C0 K c c'): ∀ {ps:List PV} {vs:List Value},(∀k∈ps.flatMap Cv,K k)→Kk c ps vs→Kk c' ps vs
 | [],[],_,_=>trivial
 | p::ps,v::vs,hk,hr=>⟨h.prel (fun k hm=>hk k (by simp [hm])) hr.1,h.Aad (fun k hm=>hk k (by rw [List.flatMap_cons];exact List.mem_append_right _ hm)) hr.2⟩
 | [],_::_,_,hr=>hr.elim
 | _::_,[],_,hr=>hr.elim
theorem C0.Axx (h:C0 K c c') {l:LV} {v:Value} (hk: ∀k∈As l,K k) (hr:Tr c l v):Tr c' l v:=by
 cases l with
 | «at» x t=>exact h.Awr hr
 | nil t=>exact hr
 | ref k t=>exact ⟨by rw [h.μ k (hk k (by simp [As]))];exact hr.1,hr.2⟩
 | sub k lo hi t=>
  obtain ⟨A,n,cap,l,r,e,h0,h1,h2,h3,h4⟩:=hr
  exact ⟨A,n,cap,l,r,e,by rw [h.P];exact h0,by rw [h.μ k (hk k (by simp [As]))];exact h1,Arg.D0 h.ρ h2,Arg.D0 h.ρ h3,by rw [h.P];exact h4⟩
 | ptr p=>exact h.prel hk hr
 | fn f ps=>
  obtain ⟨vs,h1,h2⟩:=hr
  exact ⟨vs,h1,h.Aad hk h2⟩
 | mref k t=>exact ⟨by rw [h.μ k (hk k (by simp [As]))];exact hr.1,hr.2⟩
 | cl x t=>exact ⟨h.Awr hr.1,hr.2⟩
 | hid k=>exact hr.imp id fun hr=>⟨by rw [h.μ k (hk k (by simp [As]))];exact hr.1,hr.2⟩
 | junk=>trivial
theorem C0.Aam (h:C0 K c c'): ∀ {ls:List LV} {vs:List Value},(∀k∈ls.flatMap As,K k)→C6 c ls vs→C6 c' ls vs
 | [],[],_,_=>trivial
 | p::ps,v::vs,hk,hr=>⟨⟨hr.1.1,h.Axx (fun k hm=>hk k (by simp [hm])) hr.1.2⟩,h.Aam (fun k hm=>hk k (by rw [List.flatMap_cons];exact List.mem_append_right _ hm)) hr.2⟩
 | [],_::_,_,hr=>hr.elim
 | _::_,[],_,hr=>hr.elim
theorem C0.Ahm (h:C0 K c c') {x:VV} {v:Value} (hk: ∀k∈Ap x,K k) (hr:Ki c x v):Ki c' x v:=by
 cases x with
 | leaf l=>exact h.Axx hk hr
 | agg t ls=>
  obtain ⟨cs,h1,h2⟩:=hr
  exact ⟨cs,h1,h.Aam hk h2⟩
theorem C0.N7 (h:C0 K c c'): ∀ {ls:List VV} {vs:List Value},(∀k∈ls.flatMap Ap,K k)→Dy c ls vs→Dy c' ls vs
 | [],[],_,_=>trivial
 | p::ps,v::vs,hk,hr=>⟨h.Ahm (fun k hm=>hk k (by simp [hm])) hr.1,h.N7 (fun k hm=>hk k (by rw [List.flatMap_cons];exact List.mem_append_right _ hm)) hr.2⟩
 | [],_::_,_,hr=>hr.elim
 | _::_,[],_,hr=>hr.elim
theorem C0.xrel (h:C0 K c c') {x:SX} {v:Value} (hk: ∀k∈Br x,K k) (hr:Acn c x v):Acn c' x v:=by
 cases x with
 | one x=>exact h.Ahm hk hr
 | tup vs=>
  obtain ⟨us,h1,h2⟩:=hr
  exact ⟨us,h1,h.N7 hk h2⟩
 | nx ok i r=>
  obtain ⟨b,n,m,h1,h2,h3,h4⟩:=hr
  exact ⟨b,n,m,Arg.D0 h.ρ h1,Arg.D0 h.ρ h2,Arg.D0 h.ρ h3,h4⟩
theorem C0.Ajn (h:C0 K c c') {x:SV} {v:Value} (hk: ∀k∈Br x.x,K k) (hr:Amk c x v):Amk c' x v:=by
 obtain ⟨b,h1,h2,h3⟩:=hr
 exact ⟨b,M9 h.ρ h1,fun hb=>h.xrel hk (h2 hb),h3⟩
theorem C0.elems (h:C0 K c c') {e:TypeId} {ivs:List IV} {cs:List Value} (hr:Ik c.P c.w c.O e ivs cs):Ik c'.P c'.w c'.O e ivs cs:=by
 intro j x hx
 obtain ⟨v,h1,h2,h3⟩:=hr j x hx
 exact ⟨v,h.rel h1,by rw [h.P];exact h2,by rw [h.P];exact h3⟩
theorem H9.imp {P P':Program} {w w':World} {O O':Nat→Prop} {kt vt:TypeId} (h: ∀ (t:TypeId) (x:IV) (v:Value),Rel P w O t x v→Rel P' w' O' t x v): ∀ {xs:List IV} {es:List MapEntry},H9 P w O kt vt xs es→H9 P' w' O' kt vt xs es
 | [],[],_=>trivial
 | _::_,_::_,⟨⟨a,b,h1,h2,h3⟩,hr⟩=>⟨⟨a,b,h1,h _ _ _ h2,h _ _ _ h3⟩,hr.imp h⟩
 | [],_::_,hr=>hr.elim
 | _::_,[],hr=>hr.elim
theorem C0.Aa7 (h:C0 K c c') {k:Nat} {o:Ob} (hK:K k) (hk: ∀k'∈Ee o,K k') (hb:o.Dn=true→ ∀b,blk (c.μ k)=some b→b<c.w.heap.size→c'.w.heap[b]?=c.w.heap[b]?) (hr:Y0 c k o):Y0 c' k o:=by
 cases o with
 | box t vv=>
  obtain ⟨b,v,h1,h2,h3,h4,h5,h6⟩:=hr
  refine ⟨b,v,by rw [h.μ k hK];exact h1,?_,by rw [h.P];exact h3,by rw [h.P];exact h4,h5,h.Ahm hk h6⟩
  rw [hb rfl b (by rw [h1];rfl) (Array.getElem?_eq_some_iff.1 h2).1]
  exact h2
 | arr e t a=>
  obtain ⟨ivs,cs,h1,h2,h3,h4,h5,h6⟩:=hr
  refine ⟨ivs,cs,Arg.D0 h.ρ h1,by rw [h.P];exact h2,by rw [h.P];exact h3,?_,h.elems h5,h6⟩
  rw [h.P,h.μ k hK]
  obtain ⟨g1,g2⟩:=h4
  refine ⟨g1,?_⟩
  rcases g2 with g2 | ⟨g,cap,cur,e1,e2,e3,e4⟩
  ·exact .inl g2
  ·refine .inr ⟨g,cap,cur,e1,e2,?_,e4⟩
   rw [hb rfl g (by rw [e1];rfl) (Array.getElem?_eq_some_iff.1 e3).1]
   exact e3
 | frz e t a=>
  obtain ⟨h1,h2⟩:=hr
  exact ⟨by rw [h.P];exact h1,by rw [h.μ k hK];exact h.Awr h2⟩
 | iter s p=>
  obtain ⟨b,n,bs,h1,h2,h3,h4⟩:=hr
  refine ⟨b,n,bs,by rw [h.μ k hK];exact h1,?_,Arg.D0 h.ρ h3,Arg.D0 h.ρ h4⟩
  rw [hb rfl b (by rw [h1];rfl) (Array.getElem?_eq_some_iff.1 h2).1]
  exact h2
 | mp t kt vt a=>
  obtain ⟨r,cl,es,ivs,h1,h2,h3,h4,h5,h6⟩:=hr
  refine ⟨r,cl,es,ivs,by rw [h.μ k hK];exact h1,?_,by rw [h.P];exact h3,by rw [h.P];exact h4,Arg.D0 h.ρ h5,h6.imp fun _ _ _ h'=>h.rel h'⟩
  rw [hb rfl r (by rw [h1];rfl) (Array.getElem?_eq_some_iff.1 h2).1]
  exact h2
end
def A9 (ob:Nat→Option Ob) (k:Nat) (o:Option Ob):Nat→Option Ob:=fun k'=>if k'=k then o else ob k'
theorem A7 (S:View) (k:Nat) (o:Option Ob) (obs:List (Nat × Option Ob)):cur S ((k,o)::obs)=A9 (cur S obs) k o:=by
 funext k'
 by_cases h:k'=k
 ·subst h;simp [cur,A9,Ga]
 ·have:(k == k')=false:=by simp;exact fun h'=>h h'.symm
  have e:Ga k' ((k,o)::obs)=Ga k' obs:=by rw [Ga];simp [this]
  simp [cur,A9,h,e]
theorem J1 (S:View):cur S []=S.ob:=by funext k;rfl
def Hn (ob ob':Nat→Option Ob):Prop:= ∀k o,ob' k=some o→o.Dn=true→ob k=some o
theorem Hn.refl (ob:Nat→Option Ob):Hn ob ob:=fun _ _ h _=>h
theorem Hn.trans {a b c:Nat→Option Ob} (h:Hn a b) (h':Hn b c):Hn a c:=fun k o ho hi=>h k o (h' k o ho hi) hi
theorem Hn.wr {ob ob':Nat→Option Ob} (h:Hn ob ob') {μ:Nat→Value} {b:Nat} (hb:Wr ob' μ b):Wr ob μ b:=by
 obtain ⟨k,o,h1,h2,h3⟩:=hb
 exact ⟨k,o,h k o h1 h2,h2,h3⟩
section
variable {P:Program} {N:Nat} {X:Nat→Prop} {ρ:List IV} {K:Nat→Prop} {tm:Nat→SV} {ob ob':Nat→Option Ob} {μ:Nat→Value} {a:Act} {w:World}
theorem Hn.later (h:Hn ob ob'):C0 K (A6 P X ρ ob μ w) (A6 P X ρ ob' μ w):=
 {P:=rfl,ρ:=fun _ _ h=>h,μ:=fun _ _=>rfl,stays:=I8.refl _ _,O:=fun _b _ hb=>hb.elim .inl fun hb=> .inr (h.wr hb),W:=fun _b _ hb=>h.wr hb,WO:=fun _b hb=> .inr hb}
theorem Good.Dc (G:Good P N X ρ K tm ob μ a w) (h:Hn ob ob') (hobj: ∀k o,ob' k=some o→o.Dn=false→Y0 (A6 P X ρ ob' μ w) k o∧K k∧ ∀k'∈Ee o,K k'):
  Good P N X ρ K tm ob' μ a w:=by
 have L:C0 K (A6 P X ρ ob μ w) (A6 P X ρ ob' μ w):=h.later
 refine ⟨G.size,G.defers,fun s=>L.Ajn (G.kt s) (G.slot s),fun k o ho=>?_,fun k k' o o' b h1 h2 h3 h4 h5 h6=>G.sep k k' o o' b (h k o h1 h3) (h k' o' h2 h4) h3 h4 h5 h6,
  fun k o b h1 h2 h3=>G.xsep k o b (h k o h1 h2) h2 h3,G.xlt,G.kt,fun k o ho=>?_⟩
 ·cases hi:o.Dn with
  | true=>
   have:=h k o ho hi
   exact L.Aa7 (G.ko k o this).1 (G.ko k o this).2 (fun _ b _ _=>rfl) (G.obj k o this)
  | false=>exact (hobj k o ho hi).1
 ·cases hi:o.Dn with
  | true=>exact G.ko k o (h k o ho hi)
  | false=>exact (hobj k o ho hi).2
theorem Good.Amr (G:Good P N X ρ K tm ob μ a w) {k:Nat} {e t:TypeId} {x:Arg} (h:ob k=some (.arr e t x)):
  ∃ivs A cap,x.ev ρ=some (.list ivs)∧μ k= .slice A ivs.length cap∧Aci P w (A6 P X ρ ob μ w).O e ivs A cap∧0<Af P e∧P.underlying t=some (.slice e):=by
 obtain ⟨ivs,cs,h1,h2,h3,h4,h5,h6⟩:=G.obj k _ h
 obtain ⟨g1,g2⟩:=h4
 rcases g2 with ⟨g2,g3⟩ | ⟨g,cap,cu,e1,e2,e3,e4,e5,e6,e7⟩
 ·have:ivs= []:=by cases ivs with | nil=>rfl | cons=>simp at g3
  subst this
  exact ⟨[],none,0,h1,g2,Row.nilB e none 0,h3,h2⟩
 ·refine ⟨ivs,_,cap,h1,e1,⟨e4,Nat.le_trans e4 e5,?_⟩,h3,h2⟩
  -- the elements' values
  have key: ∀j:Nat,∃v:Value,j<ivs.length→(∀x,ivs[j]?=some x→Rel P w (A6 P X ρ ob μ w).O e x v)∧v.cells.toList=(cs.drop (j * Af P e)).take (Af P e)∧v.cells.size=Af P e:=by
   intro j
   by_cases hj:j<ivs.length
   ·obtain ⟨v,q1,q2,q3⟩:=h5 j _ (List.getElem?_eq_getElem hj)
    exact ⟨v,fun _=>⟨fun x hx=>by rw [List.getElem?_eq_getElem hj] at hx;injection hx with hx;subst hx;exact q1,q2,q3⟩⟩
   ·exact ⟨.tuple #[],fun h=>absurd h hj⟩
  obtain ⟨vs,hvs⟩:=Classical.axiomOfChoice key
  refine ⟨vs,fun h0=>⟨h3,_,rfl,fun j hj=>⟨(hvs j hj).2.2,fun i u hu=>?_⟩⟩,fun j x hx=>(hvs j (List.getElem?_eq_some_iff.1 hx).1).1 x hx⟩
  have hu':(vs j).cells.toList[i]?=some u:=by simpa using hu
  rw [(hvs j hj).2.1,List.getElem?_take] at hu'
  split at hu'
  ·rename_i hi
   rw [List.getElem?_drop] at hu'
   have e3':w.heap[g]?=some (.cells cu e (0,0)):=e3
   rw [C4,←e7,List.getElem?_take] at *
   have hlt:j * Af P e+i<ivs.length * Af P e:=by
    have:j * Af P e+Af P e≤ivs.length * Af P e:=by rw [←Nat.succ_mul];exact Nat.mul_le_mul_right _ hj
    have hi':i<Af P e:=hi
    omega
   have hu2:cu.toList[j * Af P e+i]?=some u:=by
    have:=hu'
    rw [if_pos (by exact hlt)] at this
    exact this
   have hadd:(⟨g,0,none⟩:Addr).add (j * Af P e+i)=⟨g,j * Af P e+i,none⟩:=by unfold Addr.add;split<;>simp_all
   rw [hadd]
   simp only [World.cell?,e3']
   simpa using hu2
  ·simp at hu'
end
end Go.CT
namespace Go.CT
open EM
def Nc (c:Cx) (x:Arg) (t:TypeId) (v:Value):Prop:=
 ∃iv,x.ev c.ρ=some iv∧Rel c.P c.w (fun _=>False) t iv v∧
  ∀e,c.P.underlying t=some (.slice e)→ ∃xs A cap,iv= .list xs∧v= .slice A xs.length cap∧Aci c.P c.w c.O e xs A cap
theorem Ts.Zk {c:Cx} {x:Arg} {t:TypeId} {v:Value} (h:Ts c x t v):Nc c x t v:=by
 obtain ⟨iv,h1,h2⟩:=h
 refine ⟨iv,h1,h2.weaken (fun _ _ h=>h.elim),fun e he=>?_⟩
 obtain ⟨xs,A,cap,rfl,rfl,hr⟩:=h2.Ca he
 exact ⟨xs,A,cap,rfl,rfl,hr.Zk⟩
theorem Nc.Aqy {c:Cx} {x:Arg} {t e:TypeId} {xs:List IV} {A:Option Addr} {cap:Nat} (h:x.ev c.ρ=some (.list xs)) (ht:c.P.underlying t=some (.slice e)) (hr:Aci c.P c.w c.O e xs A cap):
  Nc c x t (.slice A xs.length cap):=by
 refine ⟨_,h,(hr.row (fun _ _ h=>h.elim) (fun _ _ h=>h)).rel ht,fun e' he=>?_⟩
 rw [ht] at he;injection he with he;injection he with he;subst he
 exact ⟨xs,A,cap,rfl,rfl,hr⟩
theorem C0.brel {K:Nat→Prop} {c c':Cx} (h:C0 K c c') (hw:c'.w=c.w) {x:Arg} {t:TypeId} {v:Value} (hr:Nc c x t v):Nc c' x t v:=by
 obtain ⟨iv,h1,h2,h3⟩:=hr
 refine ⟨iv,Arg.D0 h.ρ h1,by rw [h.P,hw];exact h2,fun e he=>?_⟩
 rw [h.P] at he
 obtain ⟨xs,A,cap,e1,e2,g1,g2,vs,g3,g4⟩:=h3 e he
 exact ⟨xs,A,cap,e1,e2,g1,g2,vs,by rw [h.P,hw];exact g3,fun j x hx=>h.rel (g4 j x hx)⟩
section
variable {P:Program} {N:Nat} {X:Nat→Prop} {R:Job→List IV→Option (List IV)} {ρ:List IV} {K:Nat→Prop} {S:View} {μ:Nat→Value} {a:Act} {w:World}
theorem Good.freeze {tm:Nat→SV} {ob:Nat→Option Ob} (G:Good P N X ρ K tm ob μ a w) {k:Nat} {e t:TypeId} {c:Arg} (h:ob k=some (.arr e t c)):
  Good P N X ρ K tm (A9 ob k (some (.frz e t c))) μ a w∧Hn ob (A9 ob k (some (.frz e t c))):=by
 have F:Hn ob (A9 ob k (some (.frz e t c))):=by
  intro k' o ho hi
  unfold A9 at ho
  split at ho
  ·injection ho with ho;subst ho;simp [Ob.Dn] at hi
  ·exact ho
 refine ⟨G.Dc F (fun k' o ho hi=>?_),F⟩
 by_cases hk:k'=k
 ·subst hk
  simp only [A9,if_true,Option.some.injEq] at ho
  subst ho
  obtain ⟨ivs,A,cap,h1,h2,h3,h4,h5⟩:=G.Amr h
  refine ⟨⟨h5,.list ivs,h1,?_⟩,(G.ko k' _ h).1,fun _ h=>by simp [Ee] at h⟩
  show Rel P w _ t (.list ivs) (μ k')
  rw [h2]
  refine (h3.row (fun b _ hb=>hb.elim .inl fun hb=> .inr (F.wr hb)) (fun ad hA hO=>?_)).rel h5
  subst hA
  have hb:blk (μ k')=some ad.block:=by rw [h2];rfl
  rcases hO with hO | ⟨k2,o2,q1,q2,q3⟩
  ·exact G.xsep k' _ _ h rfl hb hO
  ·have:k2=k':=G.sep k2 k' _ _ _ (F k2 o2 q1 q2) h q2 rfl q3 hb
   subst this
   simp only [A9,if_true,Option.some.injEq] at q1
   subst q1
   simp [Ob.Dn] at q2
 ·have ho':ob k'=some o:=by simpa [A9,hk] using ho
  exact ⟨F.later.Aa7 (K:=K) (G.ko k' o ho').1 (G.ko k' o ho').2 (fun _ _ _ _=>rfl) (G.obj k' o ho'),G.ko k' o ho'⟩
theorem Good.drop {tm:Nat→SV} {ob:Nat→Option Ob} (G:Good P N X ρ K tm ob μ a w) (k:Nat):
  Good P N X ρ K tm (A9 ob k none) μ a w∧Hn ob (A9 ob k none):=by
 have F:Hn ob (A9 ob k none):=by
  intro k' o ho hi
  unfold A9 at ho
  split at ho
  ·cases ho
  ·exact ho
 refine ⟨G.Dc F (fun k' o ho hi=>?_),F⟩
 have hk:k'≠k:=by rintro rfl;simp [A9] at ho
 have ho':ob k'=some o:=by simpa [A9,hk] using ho
 exact ⟨F.later.Aa7 (K:=K) (G.ko k' o ho').1 (G.ko k' o ho').2 (fun _ _ _ _=>rfl) (G.obj k' o ho'),G.ko k' o ho'⟩
variable (P N X ρ K S μ a w) in
structure Ph (es es':ES):Prop where
 Bu:Good P N X ρ K S.tm (cur S es'.obs) μ a w
 Dc:Hn (cur S es.obs) (cur S es'.obs)
 m:es'.m=es.m
 gs:es'.gs=es.gs
theorem Ph.refl {es:ES} (G:Good P N X ρ K S.tm (cur S es.obs) μ a w):Ph P N X ρ K S μ a w es es:=⟨G,Hn.refl _,rfl,rfl⟩
theorem Ph.same {es es':ES} (G:Good P N X ρ K S.tm (cur S es.obs) μ a w) (ho:es'.obs=es.obs) (hm:es'.m=es.m) (hg:es'.gs=es.gs):Ph P N X ρ K S μ a w es es':=
 ⟨by rw [ho];exact G,by rw [ho];exact Hn.refl _,hm,hg⟩
theorem Ph.trans {e1 e2 e3:ES} (h:Ph P N X ρ K S μ a w e1 e2) (h':Ph P N X ρ K S μ a w e2 e3):Ph P N X ρ K S μ a w e1 e3:=
 ⟨h'.Bu,h.Dc.trans h'.Dc,h'.m.trans h.m,h'.gs.trans h.gs⟩
theorem Ph.later {es es':ES} (h:Ph P N X ρ K S μ a w es es'):C0 K (A6 P X ρ (cur S es.obs) μ w) (A6 P X ρ (cur S es'.obs) μ w):=h.Dc.later
theorem Ph.upd {es:ES} {k:Nat} {o:Option Ob} {n:Nat} (h:Good P N X ρ K S.tm (A9 (cur S es.obs) k o) μ a w∧Hn (cur S es.obs) (A9 (cur S es.obs) k o)):
  Ph P N X ρ K S μ a w es {es with n,obs:=(k,o)::es.obs} :=
 ⟨by rw [A7];exact h.1,by rw [A7];exact h.2,rfl,rfl⟩
theorem Akr {x:Arg} {vs:List IV} (h:Arg.evs ρ [x]=some vs): ∃y,x.ev ρ=some y∧vs= [y]:=by
 unfold Arg.evs at h
 cases hx:x.ev ρ with
 | none=>simp [hx] at h
 | some y=>simp [hx,Arg.evs] at h;exact ⟨y,rfl,h.symm⟩
theorem Aa9 {x y:Arg} {vs:List IV} (h:Arg.evs ρ [x,y]=some vs): ∃u v,x.ev ρ=some u∧y.ev ρ=some v∧vs= [u,v]:=by
 unfold Arg.evs at h
 cases hx:x.ev ρ with
 | none=>simp [hx] at h
 | some u=>
  cases hr:Arg.evs ρ [y] with
  | none=>simp [hx,hr] at h
  | some r=>
   obtain ⟨v,hv,rfl⟩:=Akr hr
   simp [hx,hr] at h
   exact ⟨u,v,rfl,hv,h.symm⟩
theorem Aq6 {x y z:Arg} {vs:List IV} (h:Arg.evs ρ [x,y,z]=some vs): ∃u v q,x.ev ρ=some u∧y.ev ρ=some v∧z.ev ρ=some q∧vs= [u,v,q]:=by
 unfold Arg.evs at h
 cases hx:x.ev ρ with
 | none=>simp [hx] at h
 | some u=>
  cases hr:Arg.evs ρ [y,z] with
  | none=>simp [hx,hr] at h
  | some r=>
   obtain ⟨v,q,hv,hq,rfl⟩:=Aa9 hr
   simp [hx,hr] at h
   exact ⟨u,v,q,rfl,hv,hq,h.symm⟩
theorem Nx {c lo hi:Arg} {xs:List IV} {l h _n:Nat} {vs:List IV} {y:IV} (hc:c.ev ρ=some (.list xs)) (hl:lo.ev ρ=some (.int l)) (hh:hi.ev ρ=some (.int h))
  (hv:Arg.evs ρ [c,lo,hi]=some vs) (hy:Prim.ev .slice vs=some y):y= .list ((xs.take h).drop l)∧l≤h∧h≤xs.length:=by
 obtain ⟨u,v,q,h1,h2,h3,rfl⟩:=Aq6 hv
 rw [hc] at h1;rw [hl] at h2;rw [hh] at h3
 injection h1 with h1;injection h2 with h2;injection h3 with h3
 subst h1;subst h2;subst h3
 simp only [Prim.ev] at hy
 split at hy
 ·rename_i hcond
  injection hy with hy
  refine ⟨by rw [←hy];simp,by omega,by omega⟩
 ·cases hy
theorem E2 {fz:Bool} {t:TypeId} {l:LV} {es es':ES} {x:Arg} {ls:List PLt} {v:Value} (G:Good P N X ρ K S.tm (cur S es.obs) μ a w) (h:Ev S (Cp P fz t l) es x es' ls) (hl:LH R ρ ls)
  (hg:holds ρ es.gs=some true) (hv:Tr (A6 P X ρ (cur S es.obs) μ w) l v):
  Ph P N X ρ K S μ a w es es'∧Nc (A6 P X ρ (cur S es'.obs) μ w) x t v∧(fz=true→Ts (A6 P X ρ (cur S es'.obs) μ w) x t v):=by
 unfold Cp at h
 cases l with
 | «at» x' t'=>
  simp only [Aa,Ae,Ac] at h
  obtain ⟨_,_,_,_,⟨h1,rfl,rfl⟩,⟨rfl,rfl,rfl⟩,rfl⟩:=h
  have:t=t':=by simpa using h1
  subst this
  exact ⟨.refl G,Ts.Zk hv,fun _=>hv⟩
 | cl x' t'=>
  simp only [Aa,Ae,Ac] at h
  obtain ⟨_,_,_,_,⟨h1,rfl,rfl⟩,⟨rfl,rfl,rfl⟩,rfl⟩:=h
  have:t=t':=by simpa using h1
  subst this
  exact ⟨.refl G,Ts.Zk hv.1,fun _=>hv.1⟩
 | nil t'=>
  simp only [Aa,Ae,Ac] at h
  obtain ⟨_,_,_,_,⟨h1,rfl,rfl⟩,⟨rfl,rfl,rfl⟩,rfl⟩:=h
  obtain ⟨e,he⟩:=Option.isSome_iff_exists.1 h1
  have hv':v= .slice none 0 0:=hv
  subst hv'
  have D:Ts (A6 P X ρ (cur S es.obs) μ w) (.k (.list [])) t (.slice none 0 0):=⟨_,rfl,(Row.nil e none 0).rel (Ba he)⟩
  exact ⟨.refl G,D.Zk,fun _=>D⟩
 | ref k t'=>
  obtain ⟨hv,_⟩:=hv
  have hv:v=μ k:=hv
  subst hv
  simp only [Aa,Be] at h
  obtain ⟨o,_,_,ls2,⟨ho,rfl,rfl⟩,h,rfl⟩:=h
  cases o with
  | box=>simp [Ad] at h
  | iter=>simp [Ad] at h
  | mp=>simp [Ad] at h
  | arr e tt c=>
   simp only [Aa,Ae,Gk,A5,Ac] at h
   obtain ⟨_,_,_,_,⟨h1,rfl,rfl⟩,h2,rfl⟩:=h
   have he:Cz P t=some e:=by simpa using h1
   obtain ⟨ivs,A,cap,g1,g2,g3,g4,g5⟩:=G.Amr ho
   rcases h2 with ⟨hf,_,_,_,_,⟨rfl,rfl⟩,⟨rfl,rfl,rfl⟩,rfl⟩ | ⟨hf,rfl,rfl,rfl⟩
   ·have F:=G.freeze ho
    have ph:Ph P N X ρ K S μ a w es {es with obs:=(k,some (.frz e tt x))::es.obs} :=Ph.upd (n:=es.n) F
    have D:Ts (A6 P X ρ (cur S ((k,some (.frz e tt x))::es.obs)) μ w) x t (μ k):=by
     have:=F.1.obj k (.frz e tt x) (by simp [A9])
     obtain ⟨_,iv,d1,d2⟩:=this
     rw [A7]
     refine ⟨iv,d1,?_⟩
     obtain ⟨xs,A,cap,rfl,e2,hr⟩:=d2.Ca g5
     show Rel P w _ t _ _
     have e2':μ k= .slice A xs.length cap:=e2
     rw [e2']
     exact hr.rel (Ba he)
    exact ⟨ph,D.Zk,fun _=>D⟩
   ·refine ⟨.refl G,?_,fun hf'=>absurd hf' hf⟩
    rw [g2]
    exact Nc.Aqy g1 (Ba he) g3
  | frz e tt c=>
   simp only [Aa,Ae,Ac] at h
   obtain ⟨_,_,_,_,⟨h1,rfl,rfl⟩,⟨rfl,rfl,rfl⟩,rfl⟩:=h
   have he:Cz P t=some e:=by simpa using h1
   obtain ⟨g5,iv,d1,d2⟩:=G.obj k _ ho
   obtain ⟨xs,A,cap,rfl,e2,hr⟩:=d2.Ca g5
   have e2':μ k= .slice A xs.length cap:=e2
   have D:Ts (A6 P X ρ (cur S es.obs) μ w) x t (μ k):=by
    rw [e2']
    exact ⟨_,d1,hr.rel (Ba he)⟩
   exact ⟨.refl G,D.Zk,fun _=>D⟩
 | sub k lo hi t'=>
  obtain ⟨A0,n0,cap0,l0,h0,e0,q0,q1,q2,q3,q4,q5,q6⟩:=hv
  subst q6
  simp only [Aa,Be] at h
  obtain ⟨o,_,_,ls2,⟨ho,rfl,rfl⟩,h,rfl⟩:=h
  cases o with
  | box=>simp [Ad] at h
  | iter=>simp [Ad] at h
  | mp=>simp [Ad] at h
  | arr e tt c=>
   simp only [Aa,Ae,Gk,A5,Ac,Bb] at h
   obtain ⟨_,_,_,_,⟨h1,rfl,rfl⟩,⟨_,e2,l3,l4,⟨rfl,rfl,rfl⟩,h2,rfl⟩,rfl⟩:=h
   simp only [Bool.and_eq_true,beq_iff_eq] at h1
   obtain ⟨he,he'⟩:=h1
   have hee:e0=e:=by
    have:=Ba he'
    have q0':P.underlying t'=some (.slice e0):=q0
    rw [this] at q0';injection q0' with q0';injection q0' with q0';exact q0'.symm
   subst hee
   obtain ⟨ivs,A,cap,g1,g2,g3,g4,g5⟩:=G.Amr ho
   have q1':μ k= .slice A0 n0 cap0:=q1
   rw [g2] at q1'
   injection q1' with i1 i2 i3
   subst i1;subst i2;subst i3
   obtain ⟨vs,y,p1,p2,p3⟩:=LH.Bo hl.right.left hg
   obtain ⟨rfl,p5,p6⟩:=Nx (_n:=0) g1 q2 q3 p1 p2
   have hlen:h0 - l0=((ivs.take h0).drop l0).length :=by rw [List.length_drop,List.length_take];omega
   rcases h2 with ⟨hf,_,_,_,_,⟨rfl,rfl⟩,⟨rfl,rfl,rfl⟩,rfl⟩ | ⟨hf,rfl,rfl,rfl⟩
   ·have F:=G.freeze ho
    have ph:Ph P N X ρ K S μ a w es {es with n:=es.n+1,obs:=(k,some (.frz e0 tt c))::es.obs} :=Ph.upd F
    have D:Ts (A6 P X ρ (cur S ((k,some (.frz e0 tt c))::es.obs)) μ w) (.v es.n) t (.slice (if cap=l0 then A else A.map (·.add (l0 * Af P e0))) (h0 - l0) (cap - l0)):=by
     have:=F.1.obj k (.frz e0 tt c) (by simp [A9])
     obtain ⟨_,iv,d1,d2⟩:=this
     rw [A7]
     refine ⟨_,p3,?_⟩
     have d2':Rel P w _ tt iv (μ k):=d2
     rw [g2] at d2'
     have d1':c.ev ρ=some iv:=d1
     rw [g1] at d1';injection d1' with d1';subst d1'
     obtain ⟨xs,A2,cap2,e1,e2,hr⟩:=d2'.Ca g5
     injection e1 with e1;injection e2 with e2 e3 e4
     subst e1;subst e2;subst e4
     rw [hlen]
     exact (hr.part p5 p6).rel (Ba he)
    exact ⟨ph,D.Zk,fun _=>D⟩
   ·refine ⟨.same G rfl rfl rfl,?_,fun hf'=>absurd hf' hf⟩
    rw [show (A6 P X ρ (cur S es.obs) μ w).P =P from rfl,hlen]
    exact Nc.Aqy p3 (Ba he) (g3.part p5 p6)
  | frz e tt c=>
   simp only [Aa,Ae,Bb] at h
   obtain ⟨_,_,_,_,⟨h1,rfl,rfl⟩,⟨rfl,rfl,rfl⟩,rfl⟩:=h
   simp only [Bool.and_eq_true,beq_iff_eq] at h1
   obtain ⟨he,he'⟩:=h1
   have hee:e0=e:=by
    have:=Ba he'
    have q0':P.underlying t'=some (.slice e0):=q0
    rw [this] at q0';injection q0' with q0';injection q0' with q0';exact q0'.symm
   subst hee
   obtain ⟨g5,iv,d1,d2⟩:=G.obj k _ ho
   obtain ⟨xs,A,cap,rfl,e2,hr⟩:=d2.Ca g5
   have e2':μ k= .slice A xs.length cap:=e2
   have q1':μ k= .slice A0 n0 cap0:=q1
   rw [e2'] at q1'
   injection q1' with i1 i2 i3
   subst i1;subst i2;subst i3
   obtain ⟨vs,y,p1,p2,p3⟩:=LH.Bo hl hg
   obtain ⟨rfl,p5,p6⟩:=Nx (_n:=0) d1 q2 q3 p1 p2
   have hlen:h0 - l0=((xs.take h0).drop l0).length :=by rw [List.length_drop,List.length_take];omega
   have D:Ts (A6 P X ρ (cur S es.obs) μ w) (.v es.n) t (.slice (if cap=l0 then A else A.map (·.add (l0 * Af P e0))) (h0 - l0) (cap - l0)):=by
    rw [hlen]
    exact ⟨_,p3,(hr.part p5 p6).rel (Ba he)⟩
   exact ⟨.same G rfl rfl rfl,D.Zk,fun _=>D⟩
 | ptr p=>simp [Ad] at h
 | fn f ps=>simp [Ad] at h
 | mref k t=>simp [Ad] at h
 | hid k=>simp [Ad] at h
 | junk=>simp [Ad] at h
end
end Go.CT
namespace Go.CT
open EM
theorem M0 {P:Program} : ∀ (d:Nat) (t:TypeId) (ts:List TypeId),E6 P d t=some ts→ ∀u∈ts,Ag P u=false
 | 0,_,_,h=>by simp [E6] at h
 | d+1,t,ts,h=>by
  unfold E6 at h
  cases hu:P.underlying t with
  | none=>simp [hu] at h
  | some de=>
   simp only [hu] at h
   have hone:(∀ (_:Ag P t=false),some [t]=some ts→ ∀u∈ts,Ag P u=false):=by
    intro ha h u hm
    injection h with h;subst h
    simp at hm;subst hm;exact ha
   cases de with
   | struct fs=>
    simp only [Option.map_eq_some_iff] at h
    obtain ⟨ls,h1,rfl⟩:=h
    have key: ∀ (l:List Field) (ls:List (List TypeId)),l.mapM (fun f=>E6 P d f.type)=some ls→ ∀u∈ls.flatten,Ag P u=false:=by
     intro l
     induction l with
     | nil=>intro ls h u hm;simp at h;subst h;simp at hm
     | cons f l ih=>
      intro ls h u hm
      simp only [List.mapM_cons,Option.pure_def,Option.bind_eq_bind] at h
      cases h1:E6 P d f.type with
      | none=>simp [h1] at h
      | some x=>
       simp only [h1,Option.bind_some] at h
       cases h2:l.mapM (fun f=>E6 P d f.type) with
       | none=>simp [h2] at h
       | some xs=>
        simp only [h2,Option.bind_some,Option.some.injEq] at h
        subst h
        simp only [List.flatten_cons,List.mem_append] at hm
        exact hm.elim (M0 d _ _ h1 u) (ih _ h2 u)
    exact key _ _ h1
   | array n e=>
    simp only [Option.map_eq_some_iff] at h
    obtain ⟨l,h1,rfl⟩:=h
    intro u hm
    simp only [List.mem_flatten,List.mem_replicate] at hm
    obtain ⟨l',⟨_,rfl⟩,hm⟩:=hm
    exact M0 d _ _ h1 u hm
   | _=>exact hone (by simp [Ag,hu]) h
theorem Dq {P:Program} {t:TypeId} {ts:List TypeId} (h:leaves P t=some ts): ∀ (i:Nat) (u:TypeId),ts[i]?=some u→Ag P u=false:=
 fun _ _ hi=>M0 _ _ _ h _ (List.mem_of_getElem? hi)
def Gn (P:Program) (w:World) (O:Nat→Prop):List TypeId→List IV→List Value→Prop
 | [],[],[]=>True
 | t::ts,x::xs,v::vs=>Rel P w O t x v∧Gn P w O ts xs vs
 | _,_,_=>False
section
variable {P:Program} {w:World} {O O':Nat→Prop}
theorem Gn.len: ∀ {ts:List TypeId} {xs:List IV} {vs:List Value},Gn P w O ts xs vs→xs.length=ts.length∧vs.length=ts.length
 | [],[],[],_=>⟨rfl,rfl⟩
 | _::_,_::_,_::_,h=>by have:=Gn.len h.2;simp [this.1,this.2]
 | [],[],_::_,h=>h.elim
 | [],_::_,_,h=>h.elim
 | _::_,[],_,h=>h.elim
 | _::_,_::_,[],h=>h.elim
theorem Gn.get: ∀ {ts:List TypeId} {xs:List IV} {vs:List Value},Gn P w O ts xs vs→ ∀ (i:Nat) (u:TypeId) (x:IV) (c:Value),ts[i]?=some u→xs[i]?=some x→vs[i]?=some c→Rel P w O u x c
 | [],[],[],_=>by simp
 | t::_,y::_,z::_,h=>by
  intro i u x c h1 h2 h3
  cases i with
  | zero=>simp at h1 h2 h3;subst h1;subst h2;subst h3;exact h.1
  | succ i=>simp at h1 h2 h3;exact Gn.get h.2 i u x c h1 h2 h3
 | [],[],_::_,h=>h.elim
 | [],_::_,_,h=>h.elim
 | _::_,[],_,h=>h.elim
 | _::_,_::_,[],h=>h.elim
theorem Gn.Ja: ∀ {ts:List TypeId} {xs:List IV} {vs:List Value},xs.length=ts.length→vs.length=ts.length→(∀ (i:Nat) (u:TypeId) (x:IV) (c:Value),ts[i]?=some u→xs[i]?=some x→vs[i]?=some c→Rel P w O u x c)→Gn P w O ts xs vs
 | [],[],[],_,_,_=>trivial
 | _::_,_::_,_::_,h1,h2,h=>⟨h 0 _ _ _ rfl rfl rfl,Gn.Ja (by simpa using h1) (by simpa using h2) fun i u x c a b d=>h (i+1) u x c (by simpa using a) (by simpa using b) (by simpa using d)⟩
 | [],_::_,_,h1,_,_=>by simp at h1
 | [],[],_::_,_,h2,_=>by simp at h2
 | _::_,[],_,h1,_,_=>by simp at h1
 | _::_,_::_,[],_,h2,_=>by simp at h2
theorem Gn.weaken: ∀ {ts:List TypeId} {xs:List IV} {vs:List Value},Gn P w O ts xs vs→(∀b,b<w.heap.size→O' b→O b)→Gn P w O' ts xs vs
 | [],[],[],_,_=>trivial
 | _::_,_::_,_::_,h,hO=>⟨h.1.weaken hO,Gn.weaken h.2 hO⟩
 | [],[],_::_,h,_=>h.elim
 | [],_::_,_,h,_=>h.elim
 | _::_,[],_,h,_=>h.elim
 | _::_,_::_,[],h,_=>h.elim
theorem Gn.agg {t:TypeId} {ts:List TypeId} {xs:List IV} {cs:Array Value} (h:Gn P w O ts xs cs.toList) (ha:Ag P t=true) (hl:leaves P t=some ts):Rel P w O t (.agg xs) (.agg cs):=
 .agg ha hl h.len.1 (by simpa using h.len.2) (Dq hl) fun i u x c h1 h2 h3=>h.get i u x c h1 h2 (by simpa using h3)
theorem Rel.W1 {t:TypeId} {x:IV} {v:Value} (h:Rel P w O t x v) (ha:Ag P t=true): ∃ts xs cs,leaves P t=some ts∧x= .agg xs∧v= .agg cs∧Gn P w O ts xs cs.toList:=by
 obtain ⟨ts,xs,cs,h1,rfl,rfl,h3,h4,h5,h6⟩:=h.Iz ha
 exact ⟨ts,xs,cs,h1,rfl,rfl,Gn.Ja h3 (by simpa using h4) fun i u x c a b d=>h6 i u x c a b (by simpa using d)⟩
end
section
variable {P:Program} {N:Nat} {X:Nat→Prop} {R:Job→List IV→Option (List IV)} {ρ:List IV} {K:Nat→Prop} {S:View} {μ:Nat→Value} {a:Act} {w:World}
theorem Ed {x:Arg} {xs:List Arg} {y:IV} {ys:List IV} (h1:x.ev ρ=some y) (h2:Arg.evs ρ xs=some ys):Arg.evs ρ (x::xs)=some (y::ys):=by
 simp [Arg.evs,h1,h2]
theorem Ol {fz:Bool} : ∀ {ts:List TypeId} {lvs:List LV} {es es':ES} {as:List Arg} {ls:List PLt} {vs:List Value} (_G:Good P N X ρ K S.tm (cur S es.obs) μ a w) (_h:Ev S (C5 P fz ts lvs) es as es' ls) (_hl:LH R ρ ls)
  (_hg:holds ρ es.gs=some true) (_hk: ∀k∈lvs.flatMap As,K k) (_hv:C6 (A6 P X ρ (cur S es.obs) μ w) lvs vs),
  Ph P N X ρ K S μ a w es es'∧ ∃xs,Arg.evs ρ as=some xs∧Gn P w (fun _=>False) ts xs vs∧(fz=true→Gn P w (A6 P X ρ (cur S es'.obs) μ w).O ts xs vs)
 | [],[],es,es',as,ls,vs,G,h,hl,hg,hk,hv=>by
  unfold C5 at h
  rw [Ac] at h
  obtain ⟨rfl,rfl,rfl⟩:=h
  cases vs with
  | nil=>exact ⟨.refl G,[],rfl,trivial,fun _=>trivial⟩
  | cons=>exact hv.elim
 | t::ts,l::lvs,es,es',as,ls,vs,G,h,hl,hg,hk,hv=>by
  unfold C5 at h
  simp only [Aa,Ac] at h
  obtain ⟨x,e1,l1,_,h1,⟨xs,e2,l2,_,h2,⟨rfl,rfl,rfl⟩,rfl⟩,rfl⟩:=h
  cases vs with
  | nil=>exact hv.elim
  | cons v vs=>
   obtain ⟨p1,p2,p3⟩:=E2 G h1 hl.left hg hv.1.2
   have hk2: ∀k∈lvs.flatMap As,K k:=fun k hm=>hk k (by rw [List.flatMap_cons];exact List.mem_append_right _ hm)
   obtain ⟨q1,ys,q2,q3,q4⟩:=Ol p1.Bu h2 hl.right.left (by rw [p1.gs];exact hg) hk2 (p1.later.Aam hk2 hv.2)
   obtain ⟨y,r1,r2,_⟩:=p2
   refine ⟨p1.trans q1,y::ys,Ed r1 q2,⟨r2,q3⟩,fun hf=>⟨?_,q4 hf⟩⟩
   obtain ⟨y',s1,s2⟩:=p3 hf
   have r1':x.ev ρ=some y:=r1
   have s1':x.ev ρ=some y':=s1
   rw [r1'] at s1';injection s1' with s1';subst s1'
   exact q1.later.rel s2
 | [],_::_,_,_,_,_,_,_,h,_,_,_,_=>by simp [C5,Ad] at h
 | _::_,[],_,_,_,_,_,_,h,_,_,_,_=>by simp [C5,Ad] at h
theorem Dw {fz:Bool} {t:TypeId} {vv:VV} {es es':ES} {x:Arg} {ls:List PLt} {v:Value} (G:Good P N X ρ K S.tm (cur S es.obs) μ a w) (h:Ev S (Hq P fz t vv) es x es' ls) (hl:LH R ρ ls)
  (hg:holds ρ es.gs=some true) (hk: ∀k∈Ap vv,K k) (hv:Ki (A6 P X ρ (cur S es.obs) μ w) vv v):
  Ph P N X ρ K S μ a w es es'∧Nc (A6 P X ρ (cur S es'.obs) μ w) x t v∧(fz=true→Ts (A6 P X ρ (cur S es'.obs) μ w) x t v):=by
 unfold Hq at h
 cases vv with
 | leaf l=>exact E2 G h hl hg hv
 | agg t' cs=>
  simp only [Aa,Ae,Ai,Bb] at h
  obtain ⟨_,_,_,_,⟨h1,rfl,rfl⟩,⟨ts,_,_,_,⟨h2,rfl,rfl⟩,⟨as,e1,l1,l2,h3,⟨rfl,rfl,rfl⟩,rfl⟩,rfl⟩,rfl⟩:=h
  simp only [Bool.and_eq_true,beq_iff_eq] at h1
  obtain ⟨rfl,ha⟩:=h1
  obtain ⟨us,rfl,hc⟩:=hv
  obtain ⟨p1,xs,p2,p3,p4⟩:=Ol G h3 hl.right.right.left hg hk hc
  obtain ⟨vs,y,r1,r2,r3⟩:=LH.Bo hl.right.right.right (by rw [p1.gs];exact hg)
  rw [p2] at r1;injection r1 with r1;subst r1
  simp only [Prim.ev,Option.some.injEq] at r2;subst r2
  have hns: ∀e,P.underlying t≠some (.slice e):=by
   intro e he;simp [Ag,he] at ha
  refine ⟨p1.trans (.same p1.Bu rfl rfl rfl),⟨_,r3,p3.agg ha h2,fun e he=>absurd he (hns e)⟩,fun hf=>⟨_,r3,(p4 hf).agg ha h2⟩⟩
def Als (c:Cx) (KS:List Nat) (b:Nat):Prop:=c.O b∧ ∀k∈KS,blk (c.μ k)≠some b
theorem Zj {t:TypeId} {l:LV} {es es':ES} {x:Arg} {ls:List PLt} {v:Value} {KS:List Nat} (G:Good P N X ρ K S.tm (cur S es.obs) μ a w) (h:Ev S (Cp P false t l) es x es' ls) (hl:LH R ρ ls)
  (hg:holds ρ es.gs=some true) (hv:Tr (A6 P X ρ (cur S es.obs) μ w) l v) (hKS: ∀k∈As l,∀e t c,cur S es.obs k=some (.arr e t c)→k∈KS):
  ∃iv,x.ev ρ=some iv∧Rel P w (Als (A6 P X ρ (cur S es.obs) μ w) KS) t iv v:=by
 have weak: ∀ {iv},Rel P w (A6 P X ρ (cur S es.obs) μ w).O t iv v→Rel P w (Als (A6 P X ρ (cur S es.obs) μ w) KS) t iv v:=fun h=>h.weaken fun _ _ hb=>hb.1
 unfold Cp at h
 cases l with
 | «at» x' t'=>
  simp only [Aa,Ae,Ac] at h
  obtain ⟨_,_,_,_,⟨h1,rfl,rfl⟩,⟨rfl,rfl,rfl⟩,rfl⟩:=h
  have:t=t':=by simpa using h1
  subst this
  obtain ⟨iv,d1,d2⟩:=hv
  exact ⟨iv,d1,weak d2⟩
 | cl x' t'=>
  simp only [Aa,Ae,Ac] at h
  obtain ⟨_,_,_,_,⟨h1,rfl,rfl⟩,⟨rfl,rfl,rfl⟩,rfl⟩:=h
  have:t=t':=by simpa using h1
  subst this
  obtain ⟨iv,d1,d2⟩:=hv.1
  exact ⟨iv,d1,weak d2⟩
 | nil t'=>
  simp only [Aa,Ae,Ac] at h
  obtain ⟨_,_,_,_,⟨h1,rfl,rfl⟩,⟨rfl,rfl,rfl⟩,rfl⟩:=h
  obtain ⟨e,he⟩:=Option.isSome_iff_exists.1 h1
  have hv':v= .slice none 0 0:=hv
  subst hv'
  exact ⟨_,rfl,(Row.nil e none 0).rel (Ba he)⟩
 | ref k t'=>
  obtain ⟨hv,_⟩:=hv
  have hv:v=μ k:=hv
  subst hv
  simp only [Aa,Be] at h
  obtain ⟨o,_,_,ls2,⟨ho,rfl,rfl⟩,h,rfl⟩:=h
  cases o with
  | box=>simp [Ad] at h
  | iter=>simp [Ad] at h
  | mp=>simp [Ad] at h
  | arr e tt c=>
   simp only [Aa,Ae,Gk,A5,Ac,Bool.false_eq_true,false_and,false_or,not_false_eq_true,true_and] at h
   obtain ⟨_,_,_,_,⟨h1,rfl,rfl⟩,⟨rfl,rfl,rfl⟩,rfl⟩:=h
   have he:Cz P t=some e:=by simpa using h1
   obtain ⟨ivs,A,cap,g1,g2,g3,g4,g5⟩:=G.Amr ho
   rw [g2]
   refine ⟨_,g1,(g3.row (fun b _ hb=>hb.1) fun ad hA hO=>?_).rel (Ba he)⟩
   exact hO.2 k (hKS k (by simp [As]) _ _ _ ho) (by show blk (μ k)=_;rw [g2,hA];rfl)
  | frz e tt c=>
   simp only [Aa,Ae,Ac] at h
   obtain ⟨_,_,_,_,⟨h1,rfl,rfl⟩,⟨rfl,rfl,rfl⟩,rfl⟩:=h
   have he:Cz P t=some e:=by simpa using h1
   obtain ⟨g5,iv,d1,d2⟩:=G.obj k _ ho
   obtain ⟨xs,A,cap,rfl,e2,hr⟩:=d2.Ca g5
   have e2':μ k= .slice A xs.length cap:=e2
   exact ⟨_,d1,weak (by rw [e2'];exact hr.rel (Ba he))⟩
 | sub k lo hi t'=>
  obtain ⟨A0,n0,cap0,l0,h0,e0,q0,q1,q2,q3,q4,q5,q6⟩:=hv
  subst q6
  simp only [Aa,Be] at h
  obtain ⟨o,_,_,ls2,⟨ho,rfl,rfl⟩,h,rfl⟩:=h
  cases o with
  | box=>simp [Ad] at h
  | iter=>simp [Ad] at h
  | mp=>simp [Ad] at h
  | arr e tt c=>
   simp only [Aa,Ae,Gk,A5,Ac,Bb,Bool.false_eq_true,false_and,false_or,not_false_eq_true,true_and] at h
   obtain ⟨_,_,_,_,⟨h1,rfl,rfl⟩,⟨_,e2,l3,l4,⟨rfl,rfl,rfl⟩,⟨rfl,rfl,rfl⟩,rfl⟩,rfl⟩:=h
   simp only [Bool.and_eq_true,beq_iff_eq] at h1
   obtain ⟨he,he'⟩:=h1
   have hee:e0=e:=by
    have:=Ba he'
    have q0':P.underlying t'=some (.slice e0):=q0
    rw [this] at q0';injection q0' with q0';injection q0' with q0';exact q0'.symm
   subst hee
   obtain ⟨ivs,A,cap,g1,g2,g3,g4,g5⟩:=G.Amr ho
   have q1':μ k= .slice A0 n0 cap0:=q1
   rw [g2] at q1'
   injection q1' with i1 i2 i3
   subst i1;subst i2;subst i3
   obtain ⟨vs,y,p1,p2,p3⟩:=LH.Bo hl.right.left hg
   obtain ⟨rfl,p5,p6⟩:=Nx (_n:=0) g1 q2 q3 p1 p2
   have hlen:h0 - l0=((ivs.take h0).drop l0).length :=by rw [List.length_drop,List.length_take];omega
   rw [show (A6 P X ρ (cur S es.obs) μ w).P =P from rfl,hlen]
   refine ⟨_,p3,((g3.part p5 p6).row (fun b _ hb=>hb.1) fun ad hA hO=>?_).rel (Ba he)⟩
   refine hO.2 k (hKS k (by simp [As]) _ _ _ ho) ?_
   show blk (μ k)=_
   rw [g2]
   split at hA
   ·rw [hA];rfl
   ·cases A with
    | none=>cases hA
    | some ad0=>
     simp only [Option.map_some,Option.some.injEq] at hA
     rw [←hA,Cw];rfl
  | frz e tt c=>
   simp only [Aa,Ae,Bb] at h
   obtain ⟨_,_,_,_,⟨h1,rfl,rfl⟩,⟨rfl,rfl,rfl⟩,rfl⟩:=h
   simp only [Bool.and_eq_true,beq_iff_eq] at h1
   obtain ⟨he,he'⟩:=h1
   have hee:e0=e:=by
    have:=Ba he'
    have q0':P.underlying t'=some (.slice e0):=q0
    rw [this] at q0';injection q0' with q0';injection q0' with q0';exact q0'.symm
   subst hee
   obtain ⟨g5,iv,d1,d2⟩:=G.obj k _ ho
   obtain ⟨xs,A,cap,rfl,e2,hr⟩:=d2.Ca g5
   have e2':μ k= .slice A xs.length cap:=e2
   have q1':μ k= .slice A0 n0 cap0:=q1
   rw [e2'] at q1'
   injection q1' with i1 i2 i3
   subst i1;subst i2;subst i3
   obtain ⟨vs,y,p1,p2,p3⟩:=LH.Bo hl hg
   obtain ⟨rfl,p5,p6⟩:=Nx (_n:=0) d1 q2 q3 p1 p2
   have hlen:h0 - l0=((xs.take h0).drop l0).length :=by rw [List.length_drop,List.length_take];omega
   refine ⟨_,p3,weak ?_⟩
   rw [show (A6 P X ρ (cur S es.obs) μ w).P =P from rfl,hlen]
   exact (hr.part p5 p6).rel (Ba he)
 | ptr p=>simp [Ad] at h
 | fn f ps=>simp [Ad] at h
 | mref k t=>simp [Ad] at h
 | hid k=>simp [Ad] at h
 | junk=>simp [Ad] at h
theorem Ty {t:TypeId} {l:LV} {es es':ES} {x:Arg} {ls:List PLt} (h:Ev S (Cp P false t l) es x es' ls) (hk:As l= []):Ev S (Cp P true t l) es x es' ls∧es'=es:=by
 unfold Cp at h ⊢
 cases l with
 | ref=>simp [As] at hk
 | sub=>simp [As] at hk
 | ptr p=>simp [Ad] at h
 | fn f ps=>simp [Ad] at h
 | mref k t=>simp [Ad] at h
 | hid k=>simp [Ad] at h
 | junk=>simp [Ad] at h
 | «at» x' t'=>exact ⟨h,by simp only [Aa,Ae,Ac] at h;obtain ⟨_,_,_,_,⟨h1,rfl,rfl⟩,⟨rfl,rfl,rfl⟩,rfl⟩:=h;rfl⟩
 | cl x' t'=>exact ⟨h,by simp only [Aa,Ae,Ac] at h;obtain ⟨_,_,_,_,⟨h1,rfl,rfl⟩,⟨rfl,rfl,rfl⟩,rfl⟩:=h;rfl⟩
 | nil t'=>exact ⟨h,by simp only [Aa,Ae,Ac] at h;obtain ⟨_,_,_,_,⟨h1,rfl,rfl⟩,⟨rfl,rfl,rfl⟩,rfl⟩:=h;rfl⟩
theorem Kh: ∀ {ts:List TypeId} {lvs:List LV} {es es':ES} {as:List Arg} {ls:List PLt},Ev S (C5 P false ts lvs) es as es' ls→lvs.flatMap As= []→Ev S (C5 P true ts lvs) es as es' ls∧es'=es
 | [],[],es,es',as,ls,h,hk=>by
  unfold C5 at h ⊢
  exact ⟨h,(Ac.1 h).2.1.symm⟩
 | t::ts,l::lvs,es,es',as,ls,h,hk=>by
  rw [List.flatMap_cons,List.append_eq_nil_iff] at hk
  unfold C5 at h ⊢
  rw [Aa] at h ⊢
  obtain ⟨x,e1,l1,l2,h1,h2,rfl⟩:=h
  rw [Aa] at h2
  obtain ⟨y,e2,l3,l4,h3,h4,rfl⟩:=h2
  obtain ⟨q1,rfl⟩:=Ty h1 hk.1
  obtain ⟨q2,rfl⟩:=Kh h3 hk.2
  refine ⟨⟨x,_,l1,_,q1,Aa.2 ⟨y,_,l3,l4,q2,h4,rfl⟩,rfl⟩,(Ac.1 h4).2.1.symm⟩
 | [],_::_,_,_,_,_,h,_=>by simp [C5,Ad] at h
 | _::_,[],_,_,_,_,h,_=>by simp [C5,Ad] at h
theorem Agx {t:TypeId} {vv:VV} {es es':ES} {x:Arg} {ls:List PLt} {v:Value} {KS:List Nat} (G:Good P N X ρ K S.tm (cur S es.obs) μ a w) (h:Ev S (Hq P false t vv) es x es' ls) (hl:LH R ρ ls)
  (hg:holds ρ es.gs=some true) (hk: ∀k∈Ap vv,K k) (hv:Ki (A6 P X ρ (cur S es.obs) μ w) vv v) (hKS: ∀k∈Ap vv,∀e t c,cur S es.obs k=some (.arr e t c)→k∈KS)
  (hd:(∃l,vv= .leaf l)∨Ap vv= []):
  ∃iv,x.ev ρ=some iv∧Rel P w (Als (A6 P X ρ (cur S es.obs) μ w) KS) t iv v:=by
 cases vv with
 | leaf l=>exact Zj G h hl hg hv hKS
 | agg t' cs=>
  have hkc:Ap (.agg t' cs)= []:=hd.resolve_left (by simp)
  have h':Ev S (Hq P true t (.agg t' cs)) es x es' ls∧es'.obs=es.obs:=by
   unfold Hq at h ⊢
   rw [Aa] at h ⊢
   obtain ⟨u,e1,l1,l2,h1,h2,rfl⟩:=h
   rw [Aa] at h2
   obtain ⟨u2,e2,l3,l4,h3,h4,rfl⟩:=h2
   rw [Aa] at h4
   obtain ⟨u3,e3,l5,l6,h5,h6,rfl⟩:=h4
   obtain ⟨q1,q2⟩:=Kh h5 hkc
   refine ⟨⟨u,e1,l1,_,h1,Aa.2 ⟨u2,e2,l3,_,h3,Aa.2 ⟨u3,e3,l5,l6,q1,h6,rfl⟩,rfl⟩,rfl⟩,?_⟩
   obtain ⟨_,rfl,_⟩:=Ae.1 h1
   obtain ⟨_,rfl,_⟩:=Ai.1 h3
   obtain ⟨_,rfl,_⟩:=Bb.1 h6
   rw [q2]
  obtain ⟨h',ho⟩:=h'
  obtain ⟨p,_,hD⟩:=Dw G h' hl hg hk hv
  obtain ⟨iv,d1,d2⟩:=hD rfl
  rw [ho] at d2
  exact ⟨iv,d1,d2.weaken fun b _ hb=>hb.1⟩
theorem Arg.Jy {x y:Arg} (h:x.same y=true):x.ev ρ=y.ev ρ:=by
 cases x with
 | v n=>cases y with
  | v m=>simp [Arg.same] at h;subst h;rfl
  | k c=>simp [Arg.same] at h
 | k c=>cases y with
  | v m=>cases c<;>simp [Arg.same] at h
  | k d=>cases c<;>cases d<;>simp_all [Arg.same,Arg.ev]
theorem Aiy {gs:List (Arg × Bool)} (h:holds ρ gs=some true): ∀g∈gs,g.1.ev ρ=some (.bool g.2):=by
 induction gs with
 | nil=>simp
 | cons g gs ih=>
  obtain ⟨x,want⟩:=g
  unfold holds at h
  cases hx:x.ev ρ with
  | none=>simp [hx] at h
  | some y=>
   cases y<;>simp_all
   rename_i b
   split at h
   ·rename_i hb;subst hb;exact ⟨rfl,ih h⟩
   ·simp at h
theorem holds_of {gs:List (Arg × Bool)} (h: ∀g∈gs,g.1.ev ρ=some (.bool g.2)):holds ρ gs=some true:=by
 induction gs with
 | nil=>rfl
 | cons g gs ih=>
  obtain ⟨x,want⟩:=g
  have h0:=h _ List.mem_cons_self
  unfold holds
  simp only [h0,if_true]
  exact ih fun g hg=>h g (List.mem_cons_of_mem _ hg)
theorem Iw {gs hs:List (Arg × Bool)} (h:Qz gs hs=true) (hh:holds ρ hs=some true):holds ρ gs=some true:=by
 refine holds_of fun g hg=>?_
 have:=List.all_eq_true.1 h g hg
 obtain ⟨g',h1,h2⟩:=List.any_eq_true.1 this
 simp only [Bool.and_eq_true,beq_iff_eq] at h2
 rw [Arg.Jy h2.1,h2.2]
 exact Aiy hh g' h1
theorem Amk.use {c:Cx} {s:SV} {v:Value} (h:Amk c s v) (hh:holds c.ρ s.gs=some true):Acn c s.x v:=by
 obtain ⟨b,h1,h2,h3⟩:=h
 rw [hh] at h1;injection h1 with h1;exact h2 h1.symm
theorem U5 {c:Cx} {t:TypeId} {v:Value} {l:LV} (h:Ju c.P t v=some l):Aw8 c l v∧As l= []:=by
 unfold Ju at h
 split at h
 ·split at h
  ·rename_i hk;injection h with h;subst h;exact ⟨⟨rfl,_,rfl,.int (Cl hk)⟩,rfl⟩
  ·cases h
 ·split at h
  ·rename_i hk;injection h with h;subst h;exact ⟨⟨rfl,_,rfl,.bool (Bx hk)⟩,rfl⟩
  ·cases h
 ·split at h
  ·rename_i hk;injection h with h;subst h;exact ⟨⟨rfl,_,rfl,.str (Dl hk)⟩,rfl⟩
  ·cases h
 ·split at h
  ·injection h with h;subst h;exact ⟨⟨rfl,rfl⟩,rfl⟩
  ·cases h
 ·injection h with h;subst h;exact ⟨⟨rfl,trivial⟩,rfl⟩
 ·injection h with h;subst h;exact ⟨⟨rfl,trivial⟩,rfl⟩
 ·injection h with h;subst h;exact ⟨⟨rfl,trivial⟩,rfl⟩
 ·injection h with h;subst h;exact ⟨⟨rfl,trivial⟩,rfl⟩
 ·cases h
theorem Sq {c:Cx} : ∀ {ts:List TypeId} {vs:List Value} {ls:List LV},Dm c.P ts vs=some ls→C6 c ls vs∧ls.flatMap As= []∧ls.length=ts.length
 | [],[],ls,h=>by simp [Dm] at h;subst h;exact ⟨trivial,rfl,rfl⟩
 | t::ts,v::vs,ls,h=>by
  simp only [Dm,Option.pure_def,Option.bind_eq_bind] at h
  cases h1:Ju c.P t v with
  | none=>simp [h1] at h
  | some l=>
   cases h2:Dm c.P ts vs with
   | none=>simp [h1,h2] at h
   | some ls'=>
    simp [h1,h2] at h;subst h
    have:=U5 h1
    have ih:=Sq h2
    exact ⟨⟨this.1,ih.1⟩,by rw [List.flatMap_cons,this.2,ih.2.1];rfl,by simp [ih.2.2]⟩
 | [],_::_,_,h=>by simp [Dm] at h
 | _::_,[],_,h=>by simp [Dm] at h
theorem Lm {c:Cx} {t:TypeId} {v:Value} {vv:VV} (h:Km c.P t v=some vv):Ki c vv v∧Ap vv= []∧(Ag c.P t=false→v.oneCell'=true)∧(∀u∈v.cells,u.oneCell'=true)∧
  (Ag c.P t=true→ ∃cs,v= .agg cs):=by
 unfold Km at h
 split at h
 ·rename_i cs
  split at h
  ·rename_i ha
   simp only [Option.pure_def,Option.bind_eq_bind] at h
   cases hts:leaves c.P t with
   | none=>simp [hts] at h
   | some ts=>
    cases hl:Dm c.P ts cs.toList with
    | none=>simp [hts,hl] at h
    | some ls=>
     simp [hts,hl] at h;subst h
     have:=Sq hl
     refine ⟨⟨cs,rfl,this.1⟩,this.2.1,fun h=>by simp [ha] at h,?_,fun _=>⟨cs,rfl⟩⟩
     intro u hu
     have hu':u∈cs.toList:=by simpa [Value.cells] using hu
     have key: ∀ (ls:List LV) (vs:List Value),C6 c ls vs→ ∀u∈vs,u.oneCell'=true:=by
      intro ls
      induction ls with
      | nil=>intro vs h u hu;cases vs with | nil=>simp at hu | cons=>exact h.elim
      | cons l ls ih=>
       intro vs h u hu
       cases vs with
       | nil=>exact h.elim
       | cons v vs=>
        rcases List.mem_cons.1 hu with rfl | hu
        ·exact h.1.1
        ·exact ih vs h.2 u hu
     exact key _ _ this.1 u hu'
  ·cases h
 ·split at h
  ·cases h
  ·rename_i hne ha
   simp only [Option.map_eq_some_iff] at h
   obtain ⟨l,h,rfl⟩:=h
   have:=U5 h
   have ho:v.oneCell'=true:=this.1.1
   refine ⟨this.1.2,this.2,fun _=>ho,?_,fun h=>absurd h ha⟩
   intro u hu
   have:v.cells= #[v]:=by cases v<;>simp_all [Value.cells]
   rw [this] at hu;simp at hu;subst hu;exact ho
theorem Ant {t:TypeId} {x:Operand} {es es':ES} {sx:SX} {ls:List PLt} (G:Good P N X ρ K S.tm (cur S es.obs) μ a w) (h:Ev S (rd P x t) es sx es' ls) (hg:holds ρ es.gs=some true):
  es=es'∧ls= []∧Acn (A6 P X ρ (cur S es.obs) μ w) sx (a.eval x)∧ ∀k∈Br sx,K k:=by
 unfold rd at h
 cases x with
 | tmp s=>
  simp only [Aa,Jo,Ha,Ae,Ac] at h
  obtain ⟨v,_,_,_,⟨rfl,rfl,rfl⟩,⟨gs,_,_,_,⟨rfl,rfl,rfl⟩,⟨_,_,_,_,⟨h1,rfl,rfl⟩,⟨rfl,rfl,rfl⟩,rfl⟩,rfl⟩,rfl⟩:=h
  exact ⟨rfl,rfl,(G.slot s).use (Iw h1 hg),G.kt s⟩
 | const c=>
  simp only [Aa,Ai,Ac] at h
  obtain ⟨v,_,_,_,⟨h1,rfl,rfl⟩,⟨rfl,rfl,rfl⟩,rfl⟩:=h
  have:=Lm (c:=A6 P X ρ (cur S es.obs) μ w) h1
  exact ⟨rfl,rfl,this.1,fun k hk=>by rw [show Br (.one v)=Ap v from rfl,this.2.1] at hk;simp at hk⟩
 | func f=>
  rw [Ac] at h
  obtain ⟨rfl,rfl,rfl⟩:=h
  exact ⟨rfl,rfl,⟨#[],rfl,trivial⟩,fun k hk=>by simp [Br,Ap,As] at hk⟩
 | global g=>simp [Ad] at h
theorem Eu {t:TypeId} {x:Operand} {es es':ES} {vv:VV} {ls:List PLt} (G:Good P N X ρ K S.tm (cur S es.obs) μ a w) (h:Ev S (rd1 P x t) es vv es' ls) (hg:holds ρ es.gs=some true):
  es=es'∧ls= []∧Ki (A6 P X ρ (cur S es.obs) μ w) vv (a.eval x)∧ ∀k∈Ap vv,K k:=by
 unfold rd1 at h
 rw [Aa] at h
 obtain ⟨sx,e1,l1,l2,h1,h2,rfl⟩:=h
 obtain ⟨rfl,rfl,h3,h4⟩:=Ant G h1 hg
 cases sx with
 | one v=>
  rw [Ac] at h2
  obtain ⟨rfl,rfl,rfl⟩:=h2
  exact ⟨rfl,rfl,h3,h4⟩
 | tup vs=>simp [Ad] at h2
 | nx ok i r=>simp [Ad] at h2
theorem Eg {t:TypeId} {x:Operand} {es es':ES} {y:Arg} {ls:List PLt} (G:Good P N X ρ K S.tm (cur S es.obs) μ a w) (h:Ev S (Gq P x t) es y es' ls) (hl:LH R ρ ls) (hg:holds ρ es.gs=some true):
  Ph P N X ρ K S μ a w es es'∧Nc (A6 P X ρ (cur S es'.obs) μ w) y t (a.eval x):=by
 unfold Gq at h
 rw [Aa] at h
 obtain ⟨vv,e1,l1,l2,h1,h2,rfl⟩:=h
 obtain ⟨rfl,rfl,h3,h4⟩:=Eu G h1 hg
 obtain ⟨p1,p2,_⟩:=Dw G h2 hl.right hg h4 h3
 exact ⟨p1,p2⟩
theorem Oq {x:Operand} {es es':ES} {y:Arg} {ls:List PLt} (G:Good P N X ρ K S.tm (cur S es.obs) μ a w) (h:Ev S (Zz P x) es y es' ls) (hg:holds ρ es.gs=some true):
  es=es'∧ls= []∧ ∃n k,y.ev ρ=some (.int n)∧a.eval x= .int k n:=by
 unfold Zz at h
 cases x with
 | tmp s=>
  simp only [Aa,Jo,Ha,Ae] at h
  obtain ⟨v,_,_,_,⟨rfl,rfl,rfl⟩,⟨gs,_,_,_,⟨rfl,rfl,rfl⟩,⟨_,_,_,_,⟨h1,rfl,rfl⟩,h2,rfl⟩,rfl⟩,rfl⟩:=h
  have hx:=(G.slot s).use (Iw h1 hg)
  split at h2
  ·rename_i b t hb
   rw [hb] at hx
   simp only [Aa,Ae,Ac] at h2
   obtain ⟨_,_,_,_,⟨h3,rfl,rfl⟩,⟨rfl,rfl,rfl⟩,rfl⟩:=h2
   obtain ⟨k,hk⟩:=Option.isSome_iff_exists.1 h3
   obtain ⟨iv,d1,d2⟩:=hx
   obtain ⟨n,rfl,hv⟩:=d2.Gp (Cl hk)
   exact ⟨rfl,rfl,n,k,d1,hv⟩
  ·simp [Ad] at h2
 | const c=>
  cases c<;>simp [Ad,Ac] at h
  obtain ⟨rfl,rfl,rfl⟩:=h
  exact ⟨rfl,rfl,_,_,rfl,rfl⟩
 | func f=>simp [Ad] at h
 | global g=>simp [Ad] at h
end
end Go.CT
namespace Go.CT
open EM
structure Gb (W:Nat→Prop) (w w':World):Prop where
 os:w'.os=w.os
 tape:w'.tape=w.tape
 output:w'.output=w.output
 size:w.heap.size≤w'.heap.size
 stays:I8 W w w'
theorem Gb.refl (W:Nat→Prop) (w:World):Gb W w w:=⟨rfl,rfl,rfl,Nat.le_refl _,I8.refl _ _⟩
def Al (K:Nat→Prop) (m m':Nat) (k:Nat):Prop:=K k∨(m≤k∧k<m')
structure Out (P:Program) (N:Nat) (X:Nat→Prop) (ρ:List IV) (K:Nat→Prop) (S:View) (μ:Nat→Value) (a:Act) (w:World) (es es':ES) (sx:SX) (μ':Nat→Value) (w':World) (v:Value):Prop where
 Bu:Good P N X ρ (Al K es.m es'.m) S.tm (cur S es'.obs) μ' a w'
 rel:Acn (A6 P X ρ (cur S es'.obs) μ' w') sx v
 keys: ∀k∈Br sx,Al K es.m es'.m k
 step:Gb (Wr (cur S es.obs) μ) w w'
 own: ∀b,Wr (cur S es'.obs) μ' b→Wr (cur S es.obs) μ b∨w.heap.size≤b
 keep: ∀k,K k→μ' k=μ k
theorem Good.K7 {P:Program} {N:Nat} {X:Nat→Prop} {ρ:List IV} {K K':Nat→Prop} {tm:Nat→SV} {ob:Nat→Option Ob} {μ:Nat→Value} {a:Act} {w:World}
  (G:Good P N X ρ K tm ob μ a w) (h: ∀k,K k→K' k):Good P N X ρ K' tm ob μ a w:=
 ⟨G.size,G.defers,G.slot,G.obj,G.sep,G.xsep,G.xlt,fun s k hk=>h k (G.kt s k hk),fun k o ho=>⟨h k (G.ko k o ho).1,fun k' hk=>h k' ((G.ko k o ho).2 k' hk)⟩⟩
theorem Cc {P:Program} {o:Oper} {a:Act} {w w':World} {v:Value} {next:Act→World→Prop} {Q:Exit→Act→World→Prop} (h:(execOp a.eval o).run P w= .ok (.value v) w') (hn:next (a.put o.dst v) w'):
  o.wp P a w next Q:=by
 unfold Oper.wp
 rw [h];exact hn
section
variable {P:Program} {N:Nat} {X:Nat→Prop} {R:Job→List IV→Option (List IV)} {ρ:List IV} {K:Nat→Prop} {S:View} {μ:Nat→Value} {a:Act} {w:World} {es es':ES} {ls:List PLt} {sx:SX}
theorem Ph.out {v:Value} (p:Ph P N X ρ K S μ a w es es') (hr:Acn (A6 P X ρ (cur S es'.obs) μ w) sx v) (hk: ∀k∈Br sx,K k):Out P N X ρ K S μ a w es es' sx μ w v:=
 ⟨p.Bu.K7 fun _ h=> .inl h,hr,fun k h=> .inl (hk k h),.refl _ _,fun _b hb=> .inl (p.Dc.wr hb),fun _ _=>rfl⟩
theorem J0 (x:Arg) (t:TypeId): ∀k∈Br (dat x t),K k:=fun k h=>by simp [dat,Br,Ap,As] at h
theorem Nc.int {c:Cx} {x:Arg} {t:TypeId} {v:Value} {k:IntKind} (h:Nc c x t v) (ht:c.P.underlying t=some (.int k)): ∃n,x.ev c.ρ=some (.int n)∧v= .int k n:=by
 obtain ⟨iv,h1,h2,_⟩:=h
 obtain ⟨n,rfl,hv⟩:=h2.Gp ht
 exact ⟨n,h1,hv⟩
theorem Nc.bool {c:Cx} {x:Arg} {t:TypeId} {v:Value} (h:Nc c x t v) (ht:c.P.underlying t=some .bool): ∃n,x.ev c.ρ=some (.bool n)∧v= .bool n:=by
 obtain ⟨iv,h1,h2,_⟩:=h
 obtain ⟨n,rfl,hv⟩:=h2.J7 ht
 exact ⟨n,h1,hv⟩
theorem Nc.str {c:Cx} {x:Arg} {t:TypeId} {v:Value} (h:Nc c x t v) (ht:c.P.underlying t=some .string): ∃n,x.ev c.ρ=some (.str n)∧v= .string n:=by
 obtain ⟨iv,h1,h2,_⟩:=h
 obtain ⟨n,rfl,hv⟩:=h2.Gj ht
 exact ⟨n,h1,hv⟩
theorem Ap2 {t u:TypeId} {x y:Operand} {e1 e2:ES} {b c:Arg} {l1 l2:List PLt} (G:Good P N X ρ K S.tm (cur S es.obs) μ a w) (h1:Ev S (Gq P x t) es b e1 l1) (h2:Ev S (Gq P y u) e1 c e2 l2)
  (hl1:LH R ρ l1) (hl2:LH R ρ l2) (hg:holds ρ es.gs=some true):
  Ph P N X ρ K S μ a w es e2∧Nc (A6 P X ρ (cur S e2.obs) μ w) b t (a.eval x)∧Nc (A6 P X ρ (cur S e2.obs) μ w) c u (a.eval y):=by
 obtain ⟨p1,p2⟩:=Eg G h1 hl1 hg
 obtain ⟨q1,q2⟩:=Eg p1.Bu h2 hl2 (by rw [p1.gs];exact hg)
 exact ⟨p1.trans q1,q1.later.brel rfl p2,q2⟩
theorem C3 {e1:ES} {n:Nat} {rt:TypeId} {iv:IV} {v:Value} (p:Ph P N X ρ K S μ a w es e1) (h:Arg.ev ρ (.v n)=some iv) (hr:Rel P w (fun b=>X b∨Wr (cur S e1.obs) μ b) rt iv v) {n':Nat} :
  Out P N X ρ K S μ a w es {e1 with n:=n'} (dat (.v n) rt) μ w v:=
 Ph.out (es':= {e1 with n:=n'}) ⟨p.Bu,p.Dc,p.m,p.gs⟩ ⟨iv,h,hr⟩ (J0 _ _)
theorem Arm {op:BinOp} {xt yt rt:TypeId} {x y:Operand} {k:IntKind} {b c:Arg} {e2:ES} (p:Ph P N X ρ K S μ a w es e2) (hk:P.underlying xt=some (.int k))
    (hb:Nc (A6 P X ρ (cur S e2.obs) μ w) b xt (a.eval x)) (hc:Nc (A6 P X ρ (cur S e2.obs) μ w) c yt (a.eval y)) (hg2:holds ρ e2.gs=some true) (hl:LH R ρ ls)
    (h:Ev S (do
      EM.guard (Kl P yt == some k)
      match op with
      | .add | .sub | .mul =>do
        EM.guard (Kl P rt == some k)
        pure (dat (←Bo (.arith op k) [b,c]) rt)
      | .quo =>do
        EM.guard (Kl P rt == some k)
        pure (dat (←Bo (.quo k) [b,c]) rt)
      | .rem =>do
        EM.guard (Kl P rt == some k)
        pure (dat (←Bo (.rem k) [b,c]) rt)
      | .shl | .shr =>do
        EM.guard (Kl P rt == some k)
        pure (dat (←Bo (.shift op k) [b,c]) rt)
      | .eql | .neq | .lss | .leq | .gtr | .geq =>do
        EM.guard (isBool P rt)
        pure (dat (←Bo (.cmp op) [b,c]) rt)
      | _=>fail:EM SX) e2 sx es' ls):
    ∃v,(do eqGuard op xt x y (a.eval x) (a.eval y);binOp op xt (a.eval x) (a.eval y):Sem Value).run P w= .ok v w∧Out P N X ρ K S μ a w es es' sx μ w v:=by
  simp only [Aa,Ae] at h
  obtain ⟨_,_,_,_,⟨g1,rfl,rfl⟩,h,rfl⟩:=h
  have hyk:P.underlying yt=some (.int k):=Cl (by simpa using g1)
  obtain ⟨i,hi,hx⟩:=hb.int hk
  obtain ⟨j,hj,hy⟩:=hc.int hyk
  have hi':b.ev ρ=some (.int i):=hi
  have hj':c.ev ρ=some (.int j):=hj
  rw [hx,hy]
  cases op<;>simp only [Ad] at h<;>simp only [Aa,Ae,Bb,Ac] at h<;>obtain ⟨_,_,_,_,⟨g2,rfl,rfl⟩,⟨_,_,_,_,⟨rfl,rfl,rfl⟩,⟨rfl,rfl,rfl⟩,rfl⟩,rfl⟩:=h<;>
    obtain ⟨vs,iv,r1,r2,r3⟩:=LH.Bo hl.right.left hg2<;>obtain ⟨u,v,s1,s2,rfl⟩:=Aa9 r1<;>rw [hi'] at s1<;>rw [hj'] at s2<;>injection s1 with s1<;>injection s2 with s2<;>subst s1<;>subst s2<;>
    first
      | (simp only [Prim.ev,Option.some.injEq] at r2
         subst r2
         refine ⟨_,?_,C3 p r3 (.int (Cl (by simpa using g2)))⟩
         simp [eqGuard,binOp,Op.intArith])
      | (simp only [Prim.ev,Ov,Option.map_some,Option.some.injEq] at r2
         subst r2
         refine ⟨_,?_,C3 p r3 (.bool (Bx g2))⟩
         simp [eqGuard,binOp,Op.intCmp])
      | (simp only [Prim.ev] at r2
         split at r2
         · cases r2
         · rename_i hz
           injection r2 with r2;subst r2
           refine ⟨_,?_,C3 p r3 (.int (Cl (by simpa using g2)))⟩
           first
             | (simp [eqGuard,binOp,Op.intDiv,hz];done)
             | (simp [eqGuard,binOp,Op.shift,hz,Nat.min_def];done))
theorem Asi {op:BinOp} {xt yt rt:TypeId} {x y:Operand} {b c:Arg} {e2:ES} (p:Ph P N X ρ K S μ a w es e2) (hk:P.underlying xt=some .string)
  (hb:Nc (A6 P X ρ (cur S e2.obs) μ w) b xt (a.eval x)) (hc:Nc (A6 P X ρ (cur S e2.obs) μ w) c yt (a.eval y)) (hg2:holds ρ e2.gs=some true) (hl:LH R ρ ls)
  (h:Ev S (do
   EM.guard (isStr P yt)
   match op with
   | .add =>do
    EM.guard (isStr P rt)
    pure (dat (←Bo .cat [b,c]) rt)
   | .eql | .neq | .lss | .leq | .gtr | .geq =>do
    EM.guard (isBool P rt)
    pure (dat (←Bo (.cmpS op) [b,c]) rt)
   | _=>fail:EM SX) e2 sx es' ls):
  ∃v,(do eqGuard op xt x y (a.eval x) (a.eval y);binOp op xt (a.eval x) (a.eval y):Sem Value).run P w= .ok v w∧Out P N X ρ K S μ a w es es' sx μ w v:=by
 simp only [Aa,Ae] at h
 obtain ⟨_,_,_,_,⟨g1,rfl,rfl⟩,h,rfl⟩:=h
 obtain ⟨i,hi,hx⟩:=hb.str hk
 obtain ⟨j,hj,hy⟩:=hc.str (Dl g1)
 have hi':b.ev ρ=some (.str i):=hi
 have hj':c.ev ρ=some (.str j):=hj
 rw [hx,hy]
 cases op<;>simp only [Ad] at h<;>simp only [Aa,Ae,Bb,Ac] at h<;>obtain ⟨_,_,_,_,⟨g2,rfl,rfl⟩,⟨_,_,_,_,⟨rfl,rfl,rfl⟩,⟨rfl,rfl,rfl⟩,rfl⟩,rfl⟩:=h<;>
  obtain ⟨vs,iv,r1,r2,r3⟩:=LH.Bo hl.right.left hg2<;>obtain ⟨u,v,s1,s2,rfl⟩:=Aa9 r1<;>rw [hi'] at s1<;>rw [hj'] at s2<;>injection s1 with s1<;>injection s2 with s2<;>subst s1<;>subst s2
 case add=>
  simp only [Prim.ev] at r2
  split at r2
  ·rename_i hz
   injection r2 with r2;subst r2
   refine ⟨_,?_,C3 p r3 (.str (Dl g2))⟩
   have: ¬ (((i.size+j.size:Nat):Int) > IntKind.i64.max):=by
    have:IntKind.i64.max=9223372036854775807:=by decide
    have:Ax=140737488355328:=rfl
    omega
   simp only [eqGuard,binOp,Op.stringOp,if_neg this]
   simp
  ·cases r2
 all_goals
  simp only [Prim.ev,Jj,Option.map_some,Option.some.injEq] at r2
  subst r2
  refine ⟨_,?_,C3 p r3 (.bool (Bx g2))⟩
  simp [eqGuard,binOp,Op.stringOp]
theorem As5 {op:BinOp} {xt yt rt:TypeId} {x y:Operand} {b c:Arg} {e2:ES} (p:Ph P N X ρ K S μ a w es e2) (hk:P.underlying xt=some .bool)
  (hb:Nc (A6 P X ρ (cur S e2.obs) μ w) b xt (a.eval x)) (hc:Nc (A6 P X ρ (cur S e2.obs) μ w) c yt (a.eval y)) (hg2:holds ρ e2.gs=some true) (hl:LH R ρ ls)
  (h:Ev S (do
   EM.guard (isBool P yt&&isBool P rt)
   match op with
   | .eql =>do pure (dat (←Bo (.eqB false) [b,c]) rt)
   | .neq =>do pure (dat (←Bo (.eqB true) [b,c]) rt)
   | _=>fail:EM SX) e2 sx es' ls):
  ∃v,(do eqGuard op xt x y (a.eval x) (a.eval y);binOp op xt (a.eval x) (a.eval y):Sem Value).run P w= .ok v w∧Out P N X ρ K S μ a w es es' sx μ w v:=by
 simp only [Aa,Ae] at h
 obtain ⟨_,_,_,_,⟨g1,rfl,rfl⟩,h,rfl⟩:=h
 simp only [Bool.and_eq_true] at g1
 obtain ⟨i,hi,hx⟩:=hb.bool hk
 obtain ⟨j,hj,hy⟩:=hc.bool (Bx g1.1)
 have hi':b.ev ρ=some (.bool i):=hi
 have hj':c.ev ρ=some (.bool j):=hj
 rw [hx,hy]
 cases op<;>simp only [Ad] at h<;>simp only [Aa,Bb,Ac] at h<;>obtain ⟨_,_,_,_,⟨rfl,rfl,rfl⟩,⟨rfl,rfl,rfl⟩,rfl⟩:=h<;>
  obtain ⟨vs,iv,r1,r2,r3⟩:=LH.Bo hl.left hg2<;>obtain ⟨u,v,s1,s2,rfl⟩:=Aa9 r1<;>rw [hi'] at s1<;>rw [hj'] at s2<;>injection s1 with s1<;>injection s2 with s2<;>subst s1<;>subst s2
 ·simp only [Prim.ev,Option.some.injEq,Bool.false_eq_true,if_false] at r2
  subst r2
  refine ⟨_,?_,C3 p r3 (.bool (Bx g1.2))⟩
  rw [Sem.run_bind,show (eqGuard .eql xt x y (.bool i) (.bool j)).run P w= .ok () w by simp [eqGuard],Result.andThen_ok,run_eql_bool w xt i j hk]
 ·simp only [Prim.ev,Option.some.injEq,if_true] at r2
  subst r2
  refine ⟨_,?_,C3 p r3 (.bool (Bx g1.2))⟩
  rw [Sem.run_bind,show (eqGuard .neq xt x y (.bool i) (.bool j)).run P w= .ok () w by simp [eqGuard],Result.andThen_ok,run_neq_bool w xt i j hk]
  cases i<;>cases j<;>rfl
def J3 (P:Program) (t:TypeId):Bool:=(Kl P t).isSome ||isStr P t||isBool P t
theorem Alp {t:TypeId} {x y:IV} {u v:Value} {d:Nat} {O O':Nat→Prop} (h:J3 P t=true) (hx:Rel P w O t x u) (hy:Rel P w O' t y v):
  ∃r,IV.Mi x y=some r∧(Op.equalIn (d+1) t u v).run P w= .ok r w:=by
 simp only [J3,Bool.or_eq_true,Option.isSome_iff_exists] at h
 rcases h with (⟨k,h⟩ | h) | h
 ·obtain ⟨n,rfl,rfl⟩:=hx.Gp (Cl h)
  obtain ⟨m,rfl,rfl⟩:=hy.Gp (Cl h)
  exact ⟨_,rfl,run_equalIn_int w d t k k n m (Cl h)⟩
 ·obtain ⟨n,rfl,rfl⟩:=hx.Gj (Dl h)
  obtain ⟨m,rfl,rfl⟩:=hy.Gj (Dl h)
  exact ⟨_,rfl,run_equalIn_string w d t n m (Dl h)⟩
 ·obtain ⟨n,rfl,rfl⟩:=hx.J7 (Bx h)
  obtain ⟨m,rfl,rfl⟩:=hy.J7 (Bx h)
  exact ⟨_,rfl,run_equalIn_bool' w d t n m (Bx h)⟩
theorem Uj {t:TypeId} (h:J3 P t=true):Ag P t=false∧ ∃d,P.underlying t=some d:=by
 simp only [J3,Bool.or_eq_true,Option.isSome_iff_exists] at h
 rcases h with (⟨k,h⟩ | h) | h
 ·exact ⟨Xo (Cl h),_,Cl h⟩
 ·exact ⟨Wi (Dl h),_,Dl h⟩
 ·exact ⟨Tz (Bx h),_,Bx h⟩
theorem Te {d:Nat} {cs ds:Array Value} {O O':Nat→Prop} : ∀ (fs:List Field) (k:Nat) (xs ys:List IV),(∀ (j:Nat) (f:Field),fs[j]?=some f→f.offset=k+j∧(f.name != "_")=true∧J3 P f.type=true)→
  Gn P w O (fs.map (·.type)) xs (cs.toList.drop k)→Gn P w O' (fs.map (·.type)) ys (ds.toList.drop k)→
  ∃r,IV.L4 xs ys=some r∧(Op.eqFields (d+1) cs ds fs).run P w= .ok r w
 | [],k,xs,ys,_,hx,hy=>by
  have h1:=hx.len.1
  have h2:=hy.len.1
  obtain rfl:xs= []:=List.length_eq_zero_iff.1 (by simpa using h1)
  obtain rfl:ys= []:=List.length_eq_zero_iff.1 (by simpa using h2)
  exact ⟨true,rfl,rfl⟩
 | f::fs,k,xs,ys,hf,hx,hy=>by
  obtain ⟨h1,h2,h3⟩:=hf 0 f rfl
  cases xs with
  | nil=>exact absurd hx.len.1 (by simp)
  | cons x xs=>
   cases ys with
   | nil=>exact absurd hy.len.1 (by simp)
   | cons y ys=>
    cases hcs:cs.toList.drop k with
    | nil=>rw [hcs] at hx;exact hx.elim
    | cons u us=>
     cases hds:ds.toList.drop k with
     | nil=>rw [hds] at hy;exact hy.elim
     | cons v vs=>
      rw [hcs] at hx;rw [hds] at hy
      obtain ⟨r1,e1,e2⟩:=Alp (d:=d) h3 hx.1 hy.1
      have hcs':us=cs.toList.drop (k+1):=by rw [←List.drop_drop,hcs];rfl
      have hds':vs=ds.toList.drop (k+1):=by rw [←List.drop_drop,hds];rfl
      obtain ⟨r2,e3,e4⟩:=Te fs (k+1) xs ys (fun j f h=>by
       have:=hf (j+1) f (by simpa using h)
       exact ⟨by omega,this.2⟩) (by rw [←hcs'];exact hx.2) (by rw [←hds'];exact hy.2)
      refine ⟨r1&&r2,by simp [IV.L4,e1,e3],?_⟩
      obtain ⟨ha,dd,hd⟩:=Uj h3
      have hu:cs[k]?=some u:=by
       have:=congrArg (fun l=>l[0]?) hcs
       simpa [List.getElem?_drop] using this
      have hv:ds[k]?=some v:=by
       have:=congrArg (fun l=>l[0]?) hds
       simpa [List.getElem?_drop] using this
      have p1:(part f.type cs f.offset).run P w= .ok u w:=by
       simp [part,Kn hd,ha,h1,hu]
      have p2:(part f.type ds f.offset).run P w= .ok v w:=by
       simp [part,Kn hd,ha,h1,hv]
      have hn:f.name≠ "_" :=by simpa using h2
      simp only [Op.eqFields,hn,ne_eq,not_false_eq_true,if_true,Sem.run_bind,p1,p2,e2,Result.andThen_ok]
      cases r1
      ·simp
      ·simpa using e4
theorem Aaq {t:TypeId} {fs:Array Field} (hu:P.underlying t=some (.struct fs)) (h: ∀f∈fs.toList,J3 P f.type=true):leaves P t=some (fs.toList.map (·.type)):=by
 have key: ∀l:List Field,(∀f∈l,J3 P f.type=true)→l.mapM (fun f=>E6 P 11 f.type)=some (l.map fun f=> [f.type]):=by
  intro l
  induction l with
  | nil=>intro _;rfl
  | cons f l ih=>
   intro h
   have h0:E6 P 11 f.type=some [f.type]:=by
    obtain ⟨ha,d,hd⟩:=Uj (h f List.mem_cons_self)
    unfold E6
    rw [hd]
    cases d<;>simp_all [Ag]
   rw [List.mapM_cons,h0,ih fun g hg=>h g (List.mem_cons_of_mem _ hg)]
   rfl
 unfold leaves E6
 rw [hu]
 simp only [key _ h,Option.map_some]
 congr 1
 induction fs.toList with
 | nil=>rfl
 | cons f l ih=>simp [ih]
theorem Aoi {t:TypeId} (h:Ae9 P t=true): ∃fs,P.underlying t=some (.struct fs)∧leaves P t=some (fs.toList.map (·.type))∧
  (∀ (j:Nat) (f:Field),fs.toList[j]?=some f→f.offset=0+j∧(f.name != "_")=true∧J3 P f.type=true)∧P.stoodInHeld t=false∧P.eqGuardType P.depth t=false:=by
 unfold Ae9 at h
 split at h
 ·rename_i fs hu
  simp only [Bool.and_eq_true,List.all_eq_true,Bool.not_eq_true'] at h
  obtain ⟨⟨h1,h2⟩,h3⟩:=h
  have hall: ∀ (j:Nat) (f:Field),fs.toList[j]?=some f→f.offset=0+j∧(f.name != "_")=true∧J3 P f.type=true:=by
   intro j f hf
   have:=h1 (f,j) (by
    rw [List.mem_zipIdx_iff_getElem?]
    simpa using hf)
   simp only [beq_iff_eq] at this
   exact ⟨by omega,this.1.2,this.2⟩
  refine ⟨fs,hu,Aaq hu (fun f hf=>?_),hall,h2,h3⟩
  obtain ⟨j,hj⟩:=List.mem_iff_getElem?.1 hf
  exact (hall j f hj).2.2
 ·cases h
theorem Aru {op:BinOp} {xt yt rt:TypeId} {x y:Operand} {b c:Arg} {e2:ES} (p:Ph P N X ρ K S μ a w es e2)
  (hb:Nc (A6 P X ρ (cur S e2.obs) μ w) b xt (a.eval x)) (hc:Nc (A6 P X ρ (cur S e2.obs) μ w) c yt (a.eval y)) (hg2:holds ρ e2.gs=some true) (hl:LH R ρ ls)
  (h:Ev S (do
   EM.guard (Ae9 P xt&&xt == yt&&isBool P rt)
   match op with
   | .eql =>do pure (dat (←Bo (.eqA false) [b,c]) rt)
   | .neq =>do pure (dat (←Bo (.eqA true) [b,c]) rt)
   | _=>fail:EM SX) e2 sx es' ls):
  ∃v,(do eqGuard op xt x y (a.eval x) (a.eval y);binOp op xt (a.eval x) (a.eval y):Sem Value).run P w= .ok v w∧Out P N X ρ K S μ a w es es' sx μ w v:=by
 simp only [Aa,Ae] at h
 obtain ⟨_,_,_,_,⟨g1,rfl,rfl⟩,h,rfl⟩:=h
 simp only [Bool.and_eq_true,beq_iff_eq] at g1
 obtain ⟨⟨g1,rfl⟩,g3⟩:=g1
 obtain ⟨fs,hu,hlv,hall,hst,heg⟩:=Aoi g1
 have hagg:Ag P xt=true:=by simp [Ag,hu]
 have hf:P.underlying xt=some (.struct (P.fieldsOf xt)):=by simp [Program.fieldsOf,hu]
 have hfs:P.fieldsOf xt=fs:=by simp [Program.fieldsOf,hu]
 obtain ⟨i,hi,hbr,_⟩:=hb
 obtain ⟨j,hj,hcr,_⟩:=hc
 obtain ⟨ts,xs,cs,q1,rfl,hx,hrx⟩:=hbr.W1 hagg
 obtain ⟨ts',ys,ds,q2,rfl,hy,hry⟩:=hcr.W1 hagg
 have q1':leaves P xt=some ts:=q1
 have q2':leaves P xt=some ts':=q2
 rw [hlv] at q1' q2'
 injection q1' with q1';injection q2' with q2'
 subst q1';subst q2'
 have hi':b.ev ρ=some (.agg xs):=hi
 have hj':c.ev ρ=some (.agg ys):=hj
 obtain ⟨r,e1,e2⟩:=Te (d:=9998) fs.toList 0 xs ys hall (by rw [List.drop_zero];exact hrx) (by rw [List.drop_zero];exact hry)
 have heq:(Op.equalIn 10000 xt (.agg cs) (.agg ds)).run P w= .ok r w:=by
  have:=run_equalIn_agg w 9999 xt cs ds hf hst
  rw [this,hfs];exact e2
 rw [hx,hy]
 cases op<;>simp only [Ad] at h<;>simp only [Aa,Bb,Ac] at h<;>obtain ⟨_,_,_,_,⟨rfl,rfl,rfl⟩,⟨rfl,rfl,rfl⟩,rfl⟩:=h<;>
  obtain ⟨vs,iv,r1,r2,r3⟩:=LH.Bo hl.left hg2<;>obtain ⟨u,v,s1,s2,rfl⟩:=Aa9 r1<;>rw [hi'] at s1<;>rw [hj'] at s2<;>injection s1 with s1<;>injection s2 with s2<;>subst s1<;>subst s2
 ·simp only [Prim.ev,e1,Option.map_some,Option.some.injEq,Bool.false_eq_true,if_false] at r2
  subst r2
  refine ⟨_,?_,C3 p r3 (.bool (Bx g3))⟩
  rw [Sem.run_bind,run_eqGuard_agg w .eql xt x y cs ds heg,Result.andThen_ok,run_eql_struct w xt cs ds,heq,Result.andThen_ok]
 ·simp only [Prim.ev,e1,Option.map_some,Option.some.injEq,if_true] at r2
  subst r2
  refine ⟨_,?_,C3 p r3 (.bool (Bx g3))⟩
  rw [Sem.run_bind,run_eqGuard_agg w .neq xt x y cs ds heg,Result.andThen_ok,run_neq_struct w xt cs ds,heq,Result.andThen_ok]
theorem At7 {op:BinOp} {xt yt rt:TypeId} {x y:Operand} (G:Good P N X ρ K S.tm (cur S es.obs) μ a w) (h:Ev S (Axr P op xt x y yt rt) es sx es' ls) (hl:LH R ρ ls) (hg:holds ρ es.gs=some true):
  ∃v,(do eqGuard op xt x y (a.eval x) (a.eval y);binOp op xt (a.eval x) (a.eval y):Sem Value).run P w= .ok v w∧Out P N X ρ K S μ a w es es' sx μ w v:=by
 unfold Axr at h
 rw [Aa] at h
 obtain ⟨b,e1,l1,_,h1,h,rfl⟩:=h
 rw [Aa] at h
 obtain ⟨c,e2,l2,l3,h2,h,rfl⟩:=h
 obtain ⟨p,hb,hc⟩:=Ap2 G h1 h2 hl.left hl.right.left hg
 have hl:=hl.right.right
 have hg2:holds ρ e2.gs=some true:=by rw [p.gs];exact hg
 split at h
 ·rename_i k hk;exact Arm p hk hb hc hg2 hl h
 ·rename_i hk;exact Asi p hk hb hc hg2 hl h
 ·rename_i hk;exact As5 p hk hb hc hg2 hl h
 ·exact Aru p hb hc hg2 hl h
 ·simp [Ad] at h
end
end Go.CT
namespace Go.CT
open EM
section
variable {P:Program} {N:Nat} {X:Nat→Prop} {R:Job→List IV→Option (List IV)} {ρ:List IV} {K:Nat→Prop} {S:View} {μ:Nat→Value} {a:Act} {w:World} {es es':ES} {ls:List PLt} {sx:SX}
theorem Aw3 {op:UnOp} {xt rt:TypeId} {x:Operand} (G:Good P N X ρ K S.tm (cur S es.obs) μ a w) (h:Ev S (xUn P op xt x rt) es sx es' ls) (hl:LH R ρ ls) (hg:holds ρ es.gs=some true):
  ∃v,(Op.unary op (a.eval x)).run P w= .ok v w∧Out P N X ρ K S μ a w es es' sx μ w v:=by
 unfold xUn at h
 rw [Aa] at h
 obtain ⟨b,e1,l1,l2,h1,h,rfl⟩:=h
 obtain ⟨p,hb⟩:=Eg G h1 hl.left hg
 have hg2:holds ρ e1.gs=some true:=by rw [p.gs];exact hg
 have hl:=hl.right
 cases op with
 | not=>
  simp only [Aa,Ae,Bb,Ac] at h
  obtain ⟨_,_,_,_,⟨g1,rfl,rfl⟩,⟨_,_,_,_,⟨rfl,rfl,rfl⟩,⟨rfl,rfl,rfl⟩,rfl⟩,rfl⟩:=h
  simp only [Bool.and_eq_true] at g1
  obtain ⟨i,hi,hx⟩:=hb.bool (Bx g1.1)
  have hi':b.ev ρ=some (.bool i):=hi
  obtain ⟨vs,iv,r1,r2,r3⟩:=LH.Bo hl.right.left hg2
  obtain ⟨u,s1,rfl⟩:=Akr r1
  rw [hi'] at s1;injection s1 with s1;subst s1
  simp only [Prim.ev,Option.some.injEq] at r2;subst r2
  exact ⟨_,by rw [hx];rfl,C3 p r3 (.bool (Bx g1.2))⟩
 | neg=>
  simp only [Aa,Ai,Ae,Bb,Ac] at h
  obtain ⟨k,_,_,_,⟨g0,rfl,rfl⟩,⟨_,_,_,_,⟨g1,rfl,rfl⟩,⟨_,_,_,_,⟨rfl,rfl,rfl⟩,⟨rfl,rfl,rfl⟩,rfl⟩,rfl⟩,rfl⟩:=h
  obtain ⟨i,hi,hx⟩:=hb.int (Cl g0)
  have hi':b.ev ρ=some (.int i):=hi
  obtain ⟨vs,iv,r1,r2,r3⟩:=LH.Bo hl.right.right.left hg2
  obtain ⟨u,s1,rfl⟩:=Akr r1
  rw [hi'] at s1;injection s1 with s1;subst s1
  simp only [Prim.ev,Option.some.injEq] at r2;subst r2
  exact ⟨_,by rw [hx];rfl,C3 p r3 (.int (Cl (by simpa using g1)))⟩
 | xor=>simp [Ad] at h
 | plus=>simp [Ad] at h
theorem Uy: ∀ (ns:List Int) (l:List UInt8) (acc:ByteArray),(ns.map IV.int).mapM Io=some l→ns.foldl (fun r n=>r.push (UInt8.ofNat n.toNat)) acc=⟨(acc.data.toList++l).toArray⟩
 | [],l,acc,h=>by
  simp at h;subst h
  simp
 | n::ns,l,acc,h=>by
  simp only [List.map_cons,List.mapM_cons,Option.pure_def,Option.bind_eq_bind] at h
  cases h1:Io (.int n) with
  | none=>simp [h1] at h
  | some b=>
   cases h2:(ns.map IV.int).mapM Io with
   | none=>simp [h1,h2] at h
   | some l'=>
    simp only [h1,h2,Option.bind_some,Option.some.injEq] at h
    subst h
    rw [List.foldl_cons,Uy ns l' _ h2]
    have hb:b=UInt8.ofNat n.toNat:=by
     simp only [Io] at h1
     split at h1
     ·injection h1 with h1;exact h1.symm
     ·cases h1
    subst hb
    simp [ByteArray.push]
theorem Aoq {src dst:TypeId} {x:Operand} (G:Good P N X ρ K S.tm (cur S es.obs) μ a w) (h:Ev S (At1 P src dst x) es sx es' ls) (hl:LH R ρ ls) (hg:holds ρ es.gs=some true):
  ∃v,(convert src dst (a.eval x)).run P w= .ok v w∧Out P N X ρ K S μ a w es es' sx μ w v:=by
 unfold At1 at h
 rw [Aa] at h
 obtain ⟨b,e1,l1,l2,h1,h,rfl⟩:=h
 obtain ⟨p,hb⟩:=Eg G h1 hl.left hg
 have hg2:holds ρ e1.gs=some true:=by rw [p.gs];exact hg
 have hl:=hl.right
 split at h
 ·rename_i k k' hs hd
  simp only [Aa,Bb,Ac] at h
  obtain ⟨_,_,_,_,⟨rfl,rfl,rfl⟩,⟨rfl,rfl,rfl⟩,rfl⟩:=h
  obtain ⟨i,hi,hx⟩:=hb.int hs
  have hi':b.ev ρ=some (.int i):=hi
  obtain ⟨vs,iv,r1,r2,r3⟩:=LH.Bo hl.left hg2
  obtain ⟨u,s1,rfl⟩:=Akr r1
  rw [hi'] at s1;injection s1 with s1;subst s1
  simp only [Prim.ev,Option.some.injEq] at r2;subst r2
  refine ⟨_,?_,C3 p r3 (.int hd)⟩
  rw [hx]
  simp [convert,underlying,hs,hd,Conv.intToInt]
 ·rename_i hs hd
  rw [Ac] at h
  obtain ⟨rfl,rfl,rfl⟩:=h
  obtain ⟨i,hi,hx⟩:=hb.str hs
  refine ⟨.string i,?_,p.out ⟨_,hi,.str hd⟩ (J0 _ _)⟩
  rw [hx]
  simp [convert,underlying,hs,hd]
 ·rename_i e hs hd
  simp only [Aa,Ae,Bb,Ac] at h
  obtain ⟨_,_,_,_,⟨g1,rfl,rfl⟩,⟨_,_,_,_,⟨rfl,rfl,rfl⟩,⟨rfl,rfl,rfl⟩,rfl⟩,rfl⟩:=h
  have he:P.underlying e=some (.int .u8):=Cl (by simpa using g1)
  obtain ⟨iv0,hi,_,hrow⟩:=hb
  obtain ⟨xs,A,cap,rfl,hx,h1,h2,vs0,h3,h4⟩:=hrow e hs
  have hi':b.ev ρ=some (.list xs):=hi
  obtain ⟨vs,iv,r1,r2,r3⟩:=LH.Bo hl.right.left hg2
  obtain ⟨u,s1,rfl⟩:=Akr r1
  rw [hi'] at s1;injection s1 with s1;subst s1
  simp only [Prim.ev,Option.map_eq_some_iff] at r2
  obtain ⟨l,r2,rfl⟩:=r2
  -- the numbers
  have hints: ∃ns:List Int,xs=ns.map IV.int∧ ∀j n,ns[j]?=some n→vs0 j= .int .u8 n:=by
   refine ⟨xs.map fun | .int n=>n | _=>0,?_,?_⟩
   ·apply List.ext_getElem?
    intro j
    simp only [List.getElem?_map]
    cases hj:xs[j]? with
    | none=>rfl
    | some y=>
     obtain ⟨n,rfl,_⟩:=(h4 j y hj).Gp he
     rfl
   ·intro j n hj
    simp only [List.getElem?_map] at hj
    cases hy:xs[j]? with
    | none=>simp [hy] at hj
    | some y=>
     obtain ⟨m,rfl,hv⟩:=(h4 j y hy).Gp he
     simp [hy] at hj;subst hj;exact hv
  obtain ⟨ns,rfl,hns⟩:=hints
  have hsz:0<ns.length→Af P e=1:=by
   intro h0
   obtain ⟨hs0,ad,_,hc⟩:=h3 (by simpa using h0)
   have:=(hc 0 (by simpa using h0)).1
   rw [hns 0 _ (List.getElem?_eq_getElem h0)] at this
   simp [Value.cells] at this
   exact this.symm
  refine ⟨.string ⟨l.toArray⟩,?_,C3 p r3 (.str hd)⟩
  rw [hx]
  have hconv:(convert src dst (.slice A (ns.map IV.int).length cap)).run P w=(Conv.bytesToString (.slice A (ns.map IV.int).length cap)).run P w:=by
   simp [convert,underlying,hs,hd,he]
  rw [hconv]
  cases A with
  | none=>
   have hn:ns= []:=by
    cases ns with
    | nil=>rfl
    | cons n ns=>obtain ⟨_,ad,h,_⟩:=h3 (by simp);cases h
   subst hn
   simp at r2;subst r2
   rfl
  | some ad=>
   have hload:(loadCells ad (ns.map IV.int).length).run P w= .ok (ns.map (Value.int .u8)).toArray w:=by
    have:=run_loadCells_list (P:=P) w ad (ns.map (Value.int .u8)) (fun j u hj=>by
     simp only [List.getElem?_map] at hj
     cases hn:ns[j]? with
     | none=>simp [hn] at hj
     | some n=>
      simp [hn] at hj;subst hj
      have hlt:=(List.getElem?_eq_some_iff.1 hn).1
      obtain ⟨_,ad',hA,hc⟩:=h3 (by simp;omega)
      injection hA with hA;subst hA
      have hcj:Dh w (ad.add (j * Af P e)) (vs0 j) (Af P e):=hc j (by simpa using hlt)
      rw [hns j n hn,hsz (by omega),Nat.mul_one] at hcj
      have:=hcj.2 0 (.int .u8 n) (by simp [Value.cells])
      rwa [Au] at this)
    simpa using this
   rw [run_bytesToString w ad _ cap ns hload,Uy ns l _ r2]
   simp
 ·simp [Ad] at h
theorem As4 {t rt:TypeId} {x:Operand} {ats:Array TypeId} (hat:ats= #[t]) (G:Good P N X ρ K S.tm (cur S es.obs) μ a w) (h:Ev S (Aye P t x rt) es sx es' ls) (hl:LH R ρ ls) (hg:holds ρ es.gs=some true):
  ∃v,(Builtin.len_ ats rt #[a.eval x]).run P w= .ok v w∧Out P N X ρ K S μ a w es es' sx μ w v:=by
 subst hat
 unfold Aye at h
 rw [Aa] at h
 obtain ⟨_,_,_,_,h0,h,rfl⟩:=h
 rw [Ae] at h0
 obtain ⟨g0,rfl,rfl⟩:=h0
 rw [Aa] at h
 obtain ⟨b,e1,l1,l2,h1,h,rfl⟩:=h
 obtain ⟨p,hb⟩:=Eg G h1 hl.right.left hg
 have hg2:holds ρ e1.gs=some true:=by rw [p.gs];exact hg
 have hl:=hl.right.right
 have hrt:P.underlying rt=some (.int .i64):=Cl (by simpa using g0)
 split at h
 ·rename_i ht
  simp only [Aa,Bb,Ac] at h
  obtain ⟨_,_,_,_,⟨rfl,rfl,rfl⟩,⟨rfl,rfl,rfl⟩,rfl⟩:=h
  obtain ⟨i,hi,hx⟩:=hb.str ht
  have hi':b.ev ρ=some (.str i):=hi
  obtain ⟨vs,iv,r1,r2,r3⟩:=LH.Bo hl.left hg2
  obtain ⟨u,s1,rfl⟩:=Akr r1
  rw [hi'] at s1;injection s1 with s1;subst s1
  simp only [Prim.ev,Option.some.injEq] at r2;subst r2
  refine ⟨_,?_,C3 p r3 (.int hrt)⟩
  rw [hx]
  simp [Builtin.len_,underlying,ht,goInt]
 ·rename_i e ht
  simp only [Aa,Bb,Ac] at h
  obtain ⟨_,_,_,_,⟨rfl,rfl,rfl⟩,⟨rfl,rfl,rfl⟩,rfl⟩:=h
  obtain ⟨iv0,hi,_,hrow⟩:=hb
  obtain ⟨xs,A,cap,rfl,hx,_⟩:=hrow e ht
  have hi':b.ev ρ=some (.list xs):=hi
  obtain ⟨vs,iv,r1,r2,r3⟩:=LH.Bo hl.left hg2
  obtain ⟨u,s1,rfl⟩:=Akr r1
  rw [hi'] at s1;injection s1 with s1;subst s1
  simp only [Prim.ev,Option.some.injEq] at r2;subst r2
  refine ⟨_,?_,C3 p r3 (.int hrt)⟩
  rw [hx]
  simp [Builtin.len_,underlying,ht,goInt]
 ·simp [Ad] at h
theorem Vl {mx:Bool} {t rt:TypeId} {x y:Operand} {ats:Array TypeId} (G:Good P N X ρ K S.tm (cur S es.obs) μ a w) (h:Ev S (Wu P mx t x y rt) es sx es' ls) (hl:LH R ρ ls) (hg:holds ρ es.gs=some true):
  ∃v,(if mx then Builtin.max_ ats rt #[a.eval x,a.eval y] else Builtin.min_ ats rt #[a.eval x,a.eval y]).run P w= .ok v w∧Out P N X ρ K S μ a w es es' sx μ w v:=by
 unfold Wu at h
 rw [Aa] at h
 obtain ⟨k,_,_,_,h0,h,rfl⟩:=h
 rw [Ai] at h0
 obtain ⟨g0,rfl,rfl⟩:=h0
 rw [Aa] at h
 obtain ⟨_,_,_,_,h0,h,rfl⟩:=h
 rw [Ae] at h0
 obtain ⟨g1,rfl,rfl⟩:=h0
 rw [Aa] at h
 obtain ⟨b,e1,l1,_,h1,h,rfl⟩:=h
 rw [Aa] at h
 obtain ⟨c,e2,l2,l3,h2,h,rfl⟩:=h
 have hl:=hl.right.right
 obtain ⟨p,hb,hc⟩:=Ap2 G h1 h2 hl.left hl.right.left hg
 have hg2:holds ρ e2.gs=some true:=by rw [p.gs];exact hg
 have hl:=hl.right.right
 have hrt:P.underlying rt=some (.int k):=Cl (by simpa using g1)
 obtain ⟨i,hi,hx⟩:=hb.int (Cl g0)
 obtain ⟨j,hj,hy⟩:=hc.int (Cl g0)
 have hi':b.ev ρ=some (.int i):=hi
 have hj':c.ev ρ=some (.int j):=hj
 simp only [Aa,Bb,Ac] at h
 obtain ⟨_,_,_,_,⟨rfl,rfl,rfl⟩,⟨rfl,rfl,rfl⟩,rfl⟩:=h
 obtain ⟨vs,iv,r1,r2,r3⟩:=LH.Bo hl.left hg2
 obtain ⟨u,v,s1,s2,rfl⟩:=Aa9 r1
 rw [hi'] at s1;rw [hj'] at s2
 injection s1 with s1;injection s2 with s2;subst s1;subst s2
 rw [hx,hy]
 cases mx with
 | true=>
  simp only [if_true,Prim.ev,Option.some.injEq] at r2
  subst r2
  refine ⟨_,?_,C3 p r3 (.int hrt)⟩
  simp [Builtin.max_,Builtin.max2]
 | false=>
  simp only [Bool.false_eq_true,if_false,Prim.ev,Option.some.injEq] at r2
  subst r2
  refine ⟨_,?_,C3 p r3 (.int hrt)⟩
  simp [Builtin.min_,Builtin.min2]
theorem Ss {cv:Arg} {want:Bool} {x:Operand} {t:TypeId} {y:Arg} (G:Good P N X ρ K S.tm (cur S es.obs) μ a w) (h:Ev S (Lp P cv want x t) es y es' ls) (hg:holds ρ es.gs=some true)
  (hc:cv.ev ρ=some (.bool want)):Ts (A6 P X ρ (cur S es.obs) μ w) y t (a.eval x):=by
 unfold Lp at h
 cases x with
 | tmp s=>
  simp only [Aa,Jo,Ha,Ae] at h
  obtain ⟨v,_,_,_,⟨rfl,rfl,rfl⟩,⟨gs,_,_,_,⟨rfl,rfl,rfl⟩,⟨_,_,_,_,⟨h1,rfl,rfl⟩,h2,rfl⟩,rfl⟩,rfl⟩:=h
  have hgg:holds ρ ((cv,want)::es.gs)=some true:=by rw [holds,hc];simpa using hg
  have hx:=(G.slot s).use (Iw h1 hgg)
  split at h2
  ·rename_i b u hb
   rw [hb] at hx
   simp only [Aa,Ae,Ac] at h2
   obtain ⟨_,_,_,_,⟨h3,rfl,rfl⟩,⟨rfl,rfl,rfl⟩,rfl⟩:=h2
   have:t=u:=by simpa using h3
   subst this
   exact hx
  ·simp [Ad] at h2
 | const k=>
  simp only [Aa,Ai] at h
  obtain ⟨v,_,_,_,⟨h1,rfl,rfl⟩,h2,rfl⟩:=h
  split at h2
  ·rename_i b u
   rw [Ac] at h2
   obtain ⟨rfl,rfl,rfl⟩:=h2
   have hv:=Lm (c:=A6 P X ρ (cur S es.obs) μ w) h1
   obtain ⟨iv,d1,d2⟩:=hv.1
   refine ⟨iv,d1,?_⟩
   -- its type is the wanted one
   have:u=t:=by
    unfold Km at h1
    split at h1
    ·split at h1
     ·simp only [Option.pure_def,Option.bind_eq_bind] at h1
      cases hts:leaves P t with
      | none=>simp [hts] at h1
      | some ts=>cases hcs:Dm P ts (by assumption:Array Value).toList<;>simp [hts,hcs] at h1
     ·cases h1
    ·split at h1
     ·cases h1
     ·simp only [Option.map_eq_some_iff] at h1
      obtain ⟨l,h1,h2⟩:=h1
      injection h2 with h2;subst h2
      unfold Ju at h1
      split at h1<;> (try split at h1)<;>simp_all
   subst this
   exact d2
  ·simp [Ad] at h2
 | func f=>simp [Ad] at h
 | global g=>simp [Ad] at h
theorem Q9 {cv:Arg} {want:Bool} {x:Operand} {t:TypeId} {y:Arg} (h:Ev S (Lp P cv want x t) es y es' ls):es=es'∧ls= []:=by
 unfold Lp at h
 cases x with
 | tmp s=>
  simp only [Aa,Jo,Ha,Ae] at h
  obtain ⟨v,_,_,_,⟨rfl,rfl,rfl⟩,⟨gs,_,_,_,⟨rfl,rfl,rfl⟩,⟨_,_,_,_,⟨h1,rfl,rfl⟩,h2,rfl⟩,rfl⟩,rfl⟩:=h
  split at h2
  ·simp only [Aa,Ae,Ac] at h2
   obtain ⟨_,_,_,_,⟨h3,rfl,rfl⟩,⟨rfl,rfl,rfl⟩,rfl⟩:=h2
   exact ⟨rfl,rfl⟩
  ·simp [Ad] at h2
 | const k=>
  simp only [Aa,Ai] at h
  obtain ⟨v,_,_,_,⟨h1,rfl,rfl⟩,h2,rfl⟩:=h
  split at h2
  ·rw [Ac] at h2
   obtain ⟨rfl,rfl,rfl⟩:=h2
   exact ⟨rfl,rfl⟩
  ·simp [Ad] at h2
 | func f=>simp [Ad] at h
 | global g=>simp [Ad] at h
theorem Aor {c x y:Operand} {rt:TypeId} (G:Good P N X ρ K S.tm (cur S es.obs) μ a w) (h:Ev S (Au1 P c x y rt) es sx es' ls) (hl:LH R ρ ls) (hg:holds ρ es.gs=some true):
  ∃v,(do pure (if ←asBool (a.eval c) then a.eval x else a.eval y):Sem Value).run P w= .ok v w∧Out P N X ρ K S μ a w es es' sx μ w v:=by
 unfold Au1 at h
 rw [Aa] at h
 obtain ⟨_,_,_,_,h0,h,rfl⟩:=h
 rw [Ae] at h0
 obtain ⟨g0,rfl,rfl⟩:=h0
 rw [Aa] at h
 obtain ⟨cv,e1,l1,_,h1,h,rfl⟩:=h
 obtain ⟨p,hb⟩:=Eg G h1 hl.right.left hg
 have hg2:holds ρ e1.gs=some true:=by rw [p.gs];exact hg
 have hl:=hl.right.right
 rw [Aa] at h
 obtain ⟨xv,e2,l2,_,h2,h,rfl⟩:=h
 obtain ⟨rfl,rfl⟩:=Q9 h2
 rw [Aa] at h
 obtain ⟨yv,e3,l3,_,h3,h,rfl⟩:=h
 obtain ⟨rfl,rfl⟩:=Q9 h3
 simp only [Aa,Bb,Ac] at h
 obtain ⟨_,_,_,_,⟨rfl,rfl,rfl⟩,⟨rfl,rfl,rfl⟩,rfl⟩:=h
 obtain ⟨i,hi,hc⟩:=hb.bool (Bx g0)
 have hi':cv.ev ρ=some (.bool i):=hi
 obtain ⟨vs,iv,r1,r2,r3⟩:=LH.Bo hl.right.right.left hg2
 obtain ⟨u,s,q,s1,s2,s3,rfl⟩:=Aq6 r1
 rw [hi'] at s1;injection s1 with s1;subst s1
 simp only [Prim.ev,Option.some.injEq] at r2
 rw [hc]
 cases i with
 | true=>
  simp only [if_true] at r2;subst r2
  obtain ⟨iv,d1,d2⟩:=Ss p.Bu h2 hg2 hi'
  have d1':xv.ev ρ=some iv:=d1
  rw [s2] at d1';injection d1' with d1';subst d1'
  exact ⟨_,by simp [asBool],C3 p r3 d2⟩
 | false=>
  simp only [Bool.false_eq_true,if_false] at r2;subst r2
  obtain ⟨iv,d1,d2⟩:=Ss p.Bu h3 hg2 hi'
  have d1':yv.ev ρ=some iv:=d1
  rw [s3] at d1';injection d1' with d1';subst d1'
  exact ⟨_,by simp [asBool],C3 p r3 d2⟩
end
end Go.CT
namespace Go.CT
open EM
section
variable {P:Program} {N:Nat} {X:Nat→Prop} {R:Job→List IV→Option (List IV)} {ρ:List IV} {K:Nat→Prop} {S:View} {μ:Nat→Value} {a:Act} {w:World} {es es':ES} {ls:List PLt} {sx:SX}
theorem C6.len {c:Cx} : ∀ {ls:List LV} {vs:List Value},C6 c ls vs→ls.length=vs.length
 | [],[],_=>rfl
 | _::_,_::_,h=>by simp [C6.len h.2]
 | [],_::_,h=>h.elim
 | _::_,[],h=>h.elim
theorem C6.get {c:Cx} : ∀ {ls:List LV} {vs:List Value},C6 c ls vs→ ∀ (i:Nat) (l:LV) (v:Value),ls[i]?=some l→vs[i]?=some v→Aw8 c l v
 | [],[],_=>by simp
 | l::ls,v::vs,h=>by
  intro i l' v' h1 h2
  cases i with
  | zero=>simp at h1 h2;subst h1;subst h2;exact h.1
  | succ i=>exact C6.get h.2 i l' v' (by simpa using h1) (by simpa using h2)
 | [],_::_,h=>h.elim
 | _::_,[],h=>h.elim
theorem C6.drop {c:Cx} : ∀ {ls:List LV} {vs:List Value} (n:Nat),C6 c ls vs→C6 c (ls.drop n) (vs.drop n)
 | [],[],n,_=>by simp [C6]
 | l::ls,v::vs,0,h=>h
 | l::ls,v::vs,n+1,h=>by simpa using C6.drop n h.2
 | [],_::_,_,h=>h.elim
 | _::_,[],_,h=>h.elim
theorem C6.take {c:Cx} : ∀ {ls:List LV} {vs:List Value} (n:Nat),C6 c ls vs→C6 c (ls.take n) (vs.take n)
 | [],[],n,_=>by simp [C6]
 | l::ls,v::vs,0,h=>by simp [C6]
 | l::ls,v::vs,n+1,h=>⟨h.1,C6.take n h.2⟩
 | [],_::_,_,h=>h.elim
 | _::_,[],_,h=>h.elim
theorem C6.append {c:Cx} : ∀ {ls:List LV} {vs:List Value} {ls':List LV} {vs':List Value},C6 c ls vs→C6 c ls' vs'→C6 c (ls++ls') (vs++vs')
 | [],[],_,_,_,h'=>h'
 | _::_,_::_,_,_,h,h'=>⟨h.1,C6.append h.2 h'⟩
 | [],_::_,_,_,h,_=>h.elim
 | _::_,[],_,_,h,_=>h.elim
theorem C6.one {c:Cx} : ∀ {ls:List LV} {vs:List Value},C6 c ls vs→ ∀u∈vs,u.oneCell'=true
 | [],[],_=>by simp
 | _::_,_::_,h=>by
  intro u hu
  rcases List.mem_cons.1 hu with rfl | hu
  ·exact h.1.1
  ·exact C6.one h.2 u hu
 | [],_::_,h=>h.elim
 | _::_,[],h=>h.elim
theorem Tr.one {c:Cx} {l:LV} {v:Value} (h:Tr c l v) (hj:l≠ .junk) (ha: ∀x t,l= .at x t→Ag c.P t=false):v.oneCell'=true∧v.cells= #[v]:=by
 cases l with
 | «at» x t=>obtain ⟨iv,_,hr⟩:=h;exact hr.one (ha x t rfl)
 | nil t=>have h:v= .slice none 0 0:=h;subst h;exact ⟨rfl,rfl⟩
 | ref k t=>obtain ⟨_,A,n,cap,rfl⟩:=h;exact ⟨rfl,rfl⟩
 | sub k lo hi t=>obtain ⟨A,n,cap,l,r,e,_,_,_,_,_,_,rfl⟩:=h;exact ⟨rfl,rfl⟩
 | ptr p=>
  cases p with
  | p k off=>obtain ⟨b,_,rfl⟩:=h;exact ⟨rfl,rfl⟩
  | el k e i off=>obtain ⟨g,n,cap,j,_,_,_,rfl⟩:=h;exact ⟨rfl,rfl⟩
  | im x t off=>obtain ⟨ad,u,_,_,_,_,rfl⟩:=h;exact ⟨rfl,rfl⟩
 | fn f ps=>obtain ⟨vs,rfl,_⟩:=h;exact ⟨rfl,rfl⟩
 | mref k t=>obtain ⟨_,r,rfl⟩:=h;exact ⟨rfl,rfl⟩
 | hid k=>rcases h with rfl | ⟨_,a,rfl⟩<;>exact ⟨rfl,rfl⟩
 | cl x t=>obtain ⟨_,A,n,rfl⟩:=h;exact ⟨rfl,rfl⟩
 | junk=>exact absurd rfl hj
theorem Aeh {x:Arg} : ∀ {ts:List TypeId} {i:Nat} {es es':ES} {lvs:List LV} {ls:List PLt} {xs:List IV} {cs:List Value},Ev S (projs x ts i) es lvs es' ls→LH R ρ ls→holds ρ es.gs=some true→
  x.ev ρ=some (.agg xs)→Gn P w (A6 P X ρ (cur S es.obs) μ w).O ts (xs.drop i) cs→(∀u∈ts,Ag P u=false)→
  (∃n,es'= {es with n})∧C6 (A6 P X ρ (cur S es.obs) μ w) lvs cs∧lvs.flatMap As= []
 | [],i,es,es',lvs,ls,xs,cs,h,_,_,_,hr,_=>by
  unfold projs at h
  rw [Ac] at h
  obtain ⟨rfl,rfl,rfl⟩:=h
  have:=hr.len
  have:cs= []:=List.length_eq_zero_iff.1 (by simpa using this.2)
  subst this
  exact ⟨⟨es.n,rfl⟩,trivial,rfl⟩
 | t::ts,i,es,es',lvs,ls,xs,cs,h,hl,hg,hx,hr,ha=>by
  unfold projs at h
  simp only [Aa,Bb,Ac] at h
  obtain ⟨_,_,_,_,⟨rfl,rfl,rfl⟩,⟨r,e2,l2,_,h2,⟨rfl,rfl,rfl⟩,rfl⟩,rfl⟩:=h
  cases hxs:xs.drop i with
  | nil=>rw [hxs] at hr;exact hr.elim
  | cons y ys=>
   cases cs with
   | nil=>rw [hxs] at hr;exact hr.elim
   | cons c cs=>
    rw [hxs] at hr
    obtain ⟨vs,iv,r1,r2,r3⟩:=LH.Bo hl.left hg
    obtain ⟨u,s1,rfl⟩:=Akr r1
    rw [hx] at s1;injection s1 with s1;subst s1
    have hy:xs[i]?=some y:=by
     have:=congrArg (fun l=>l[0]?) hxs
     simpa [List.getElem?_drop] using this
    have hys:ys=xs.drop (i+1):=by rw [←List.drop_drop,hxs];rfl
    simp only [Prim.ev,Bool.false_eq_true,if_false] at r2
    rw [hy] at r2;injection r2 with r2;subst r2
    obtain ⟨⟨n,hn⟩,q1,q2⟩:=Aeh (es:= {es with n:=es.n+1}) h2 hl.right.left hg hx (by rw [←hys];exact hr.2) (fun u hu=>ha u (List.mem_cons_of_mem _ hu))
    refine ⟨⟨n,hn⟩,⟨⟨(hr.1.one (ha t List.mem_cons_self)).1,_,r3,hr.1⟩,q1⟩,?_⟩
    rw [List.flatMap_cons,q2];rfl
theorem H0 {vv:VV} {lvs:List LV} {v:Value} (h:Ev S (K6 P vv) es lvs es' ls) (hl:LH R ρ ls) (hg:holds ρ es.gs=some true) (hk: ∀k∈Ap vv,K k)
  (hv:Ki (A6 P X ρ (cur S es.obs) μ w) vv v):
  (∃n,es'= {es with n})∧C6 (A6 P X ρ (cur S es.obs) μ w) lvs v.cells.toList∧(∀k∈lvs.flatMap As,K k):=by
 unfold K6 at h
 cases vv with
 | agg t cs=>
  rw [Ac] at h
  obtain ⟨rfl,rfl,rfl⟩:=h
  obtain ⟨us,rfl,hc⟩:=hv
  exact ⟨⟨es.n,rfl⟩,hc,hk⟩
 | leaf l=>
  have lone:l≠ .junk →(∀x t,l= .at x t→Ag P t=false)→Ev S (pure [l]:EM (List LV)) es lvs es' ls→
    (∃n,es'= {es with n})∧C6 (A6 P X ρ (cur S es.obs) μ w) lvs v.cells.toList∧(∀k∈lvs.flatMap As,K k):=by
   intro hj ha h
   rw [Ac] at h
   obtain ⟨rfl,rfl,rfl⟩:=h
   have h1:=Tr.one (c:=A6 P X ρ (cur S es.obs) μ w) hv hj ha
   refine ⟨⟨es.n,rfl⟩,?_,fun k hm=>hk k (by simpa [Ap] using hm)⟩
   rw [h1.2]
   exact ⟨⟨h1.1,hv⟩,trivial⟩
  cases l with
  | «at» x t=>
   simp only [Gk] at h
   rcases h with ⟨ha,h⟩ | ⟨ha,h⟩
   ·simp only [Aa,Ai] at h
    obtain ⟨ts,_,_,_,⟨h1,rfl,rfl⟩,h2,rfl⟩:=h
    obtain ⟨iv,d1,d2⟩:=hv
    obtain ⟨ts',xs,cs,q1,rfl,rfl,q2⟩:=d2.W1 ha
    have q1':leaves P t=some ts':=q1
    rw [h1] at q1';injection q1' with q1';subst q1'
    obtain ⟨hn,p1,p2⟩:=Aeh (xs:=xs) (cs:=cs.toList) h2 hl hg d1 (by rw [List.drop_zero];exact q2) (fun u hu=>by
     obtain ⟨i,hi⟩:=List.mem_iff_getElem?.1 hu
     exact Dq h1 i u hi)
    exact ⟨hn,p1,fun k hm=>by rw [p2] at hm;simp at hm⟩
   ·exact lone (by simp) (fun x' t' he=>by injection he with _ he;subst he;simpa using ha) h
  | junk=>simp [Ad] at h
  | nil t=>exact lone (by simp) (by simp) h
  | ref k t=>exact lone (by simp) (by simp) h
  | sub k lo hi t=>exact lone (by simp) (by simp) h
  | ptr p=>exact lone (by simp) (by simp) h
  | fn f ps=>exact lone (by simp) (by simp) h
  | mref k t=>exact lone (by simp) (by simp) h
  | hid k=>exact lone (by simp) (by simp) h
  | cl x t=>exact lone (by simp) (by simp) h
theorem Yw (cs:Array Value) (i n:Nat):(cs.extract i (i+n)).toList =(cs.toList.drop i).take n:=by
 simp [Array.toList_extract,List.extract]
theorem Ae0 {t0 t:TypeId} {vv r:VV} {off:Nat} {v:Value} (h:Ev S (Aat P t0 vv off t) es r es' ls) (hl:LH R ρ ls) (hg:holds ρ es.gs=some true) (hk: ∀k∈Ap vv,K k)
  (hv:Ki (A6 P X ρ (cur S es.obs) μ w) vv v) (hs:v.cells.size=Af P t0) (ha0:if Ag P t0 then ∃cs,v= .agg cs else v.oneCell'=true):
  (∃n,es'= {es with n})∧Ki (A6 P X ρ (cur S es.obs) μ w) r (Kq P t v.cells off)∧(∀k∈Ap r,K k)∧
   (Ag P t=true→off+Af P t≤v.cells.size)∧(Ag P t=false→off<v.cells.size):=by
 unfold Aat at h
 have onecells:v.oneCell'=true→v.cells= #[v]:=by intro h;cases v<;>simp_all [Value.cells,Value.oneCell']
 cases vv with
 | agg t' cs=>
  obtain ⟨us,rfl,hc⟩:=hv
  simp only [Gk] at h
  rcases h with ⟨ha,h⟩ | ⟨ha,h⟩
  ·simp only [Aa,Ae,Ac] at h
   obtain ⟨_,_,_,_,⟨g1,rfl,rfl⟩,⟨rfl,rfl,rfl⟩,rfl⟩:=h
   simp only [decide_eq_true_eq] at g1
   have hlen:=hc.len
   refine ⟨⟨es.n,rfl⟩,⟨us.extract off (off+Af P t),by simp [Kq,ha,Value.cells],?_⟩,fun k hm=>hk k ?_,fun _=>?_,fun h=>by simp [ha] at h⟩
   ·rw [Yw];exact (hc.drop off).take _
   ·simp only [Ap,List.mem_flatMap] at hm ⊢
    obtain ⟨l,hm,hk⟩:=hm
    exact ⟨l,List.mem_of_mem_drop (List.mem_of_mem_take hm),hk⟩
   ·simp only [Value.cells];rw [hlen] at g1;simpa using g1
  ·have ha':Ag P t=false:=by simpa using ha
   simp only [Aa,Ai,Ac] at h
   obtain ⟨l,_,_,_,⟨g1,rfl,rfl⟩,⟨rfl,rfl,rfl⟩,rfl⟩:=h
   have hlt:=(List.getElem?_eq_some_iff.1 g1).1
   have hlen:=hc.len
   have hus:off<us.size:=by rw [hlen] at hlt;simpa using hlt
   refine ⟨⟨es.n,rfl⟩,?_,fun k hm=>hk k ?_,fun h=>by simp [ha'] at h,fun _=>hus⟩
   ·have:=(hc.get off l us[off] g1 (by simp [hus])).2
    show Tr _ l _
    simpa [Kq,ha',Value.cells,Array.getD,hus] using this
   ·simp only [Ap,List.mem_flatMap] at hm ⊢
    exact ⟨l,List.mem_of_getElem? g1,hm⟩
 | leaf l=>
  have lone:l≠ .junk ∨v.oneCell'=true→(∀x u,l≠ .at x u)→Ev S (do
    EM.guard (off == 0&& !Ag P t)
    pure (.leaf l):EM VV) es r es' ls→v.oneCell'=true→
    (∃n,es'= {es with n})∧Ki (A6 P X ρ (cur S es.obs) μ w) r (Kq P t v.cells off)∧(∀k∈Ap r,K k)∧
     (Ag P t=true→off+Af P t≤v.cells.size)∧(Ag P t=false→off<v.cells.size):=by
   intro _ _ h ho
   simp only [Aa,Ae,Ac] at h
   obtain ⟨_,_,_,_,⟨g1,rfl,rfl⟩,⟨rfl,rfl,rfl⟩,rfl⟩:=h
   simp only [Bool.and_eq_true,beq_iff_eq,Bool.not_eq_true'] at g1
   obtain ⟨rfl,ha'⟩:=g1
   have hc:=onecells ho
   refine ⟨⟨es.n,rfl⟩,?_,hk,fun h=>by simp [ha'] at h,fun _=>by rw [hc];simp⟩
   have:Kq P t v.cells 0=v:=by rw [hc];simp [Kq,ha']
   rw [this];exact hv
  have hone: ∀ (_:l≠ .junk) (_: ∀x u,l≠ .at x u),v.oneCell'=true:=fun hj hat=>(Tr.one (c:=A6 P X ρ (cur S es.obs) μ w) hv hj (fun x u he=>absurd he (hat x u))).1
  cases l with
  | «at» x t1=>
   simp only [Aa,Ae] at h
   obtain ⟨_,_,_,_,⟨g0,rfl,rfl⟩,h,rfl⟩:=h
   have:t1=t0:=by simpa using g0
   subst this
   obtain ⟨iv,d1,d2⟩:=hv
   simp only [Gk] at h
   rcases h with ⟨ha,h⟩ | ⟨ha,h⟩
   ·rcases h with ⟨hc,h⟩ | ⟨hc,h⟩
    ·rw [Ac] at h
     obtain ⟨rfl,rfl,rfl⟩:=h
     simp only [Bool.and_eq_true,beq_iff_eq] at hc
     obtain ⟨rfl,rfl⟩:=hc
     refine ⟨⟨es.n,rfl⟩,?_,fun k hm=>by simp [Ap,As] at hm,fun _=>by omega,fun h=>by simp [ha] at h⟩
     have d2:Rel P w (fun b=>X b∨Wr (cur S es.obs) μ b) t iv v:=d2
     rw [Rel.Vb d2 hs]
     exact ⟨iv,d1,d2⟩
    ·simp only [Aa,Ae,Bb,Ac] at h
     obtain ⟨_,_,_,_,⟨g1,rfl,rfl⟩,⟨_,_,_,_,⟨rfl,rfl,rfl⟩,⟨rfl,rfl,rfl⟩,rfl⟩,rfl⟩:=h
     obtain ⟨vs,y,r1,r2,r3⟩:=LH.Bo hl.right.left hg
     obtain ⟨u,s1,rfl⟩:=Akr r1
     have d1':x.ev ρ=some iv:=d1
     rw [d1'] at s1;injection s1 with s1;subst s1
     obtain ⟨q1,q2,q3⟩:=Rel.Kq d2 ha g1 r2
     exact ⟨⟨es.n+1,rfl⟩,⟨y,r3,q1⟩,fun k hm=>by simp [Ap,As] at hm,fun _=>q3,fun _=>by
      have q2':0<Af P t:=q2
      have q3':off+Af P t≤v.cells.size:=q3
      omega⟩
   ·have ha':Ag P t1=false:=by simpa using ha
    simp only [Aa,Ae,Ac] at h
    obtain ⟨_,_,_,_,⟨g1,rfl,rfl⟩,⟨rfl,rfl,rfl⟩,rfl⟩:=h
    simp only [Bool.and_eq_true,beq_iff_eq] at g1
    obtain ⟨rfl,rfl⟩:=g1
    refine ⟨⟨es.n,rfl⟩,?_,fun k hm=>by simp [Ap,As] at hm,fun h=>by simp [ha'] at h,fun _=>by rw [(d2.one ha').2];simp⟩
    have d2:Rel P w (fun b=>X b∨Wr (cur S es.obs) μ b) t iv v:=d2
    rw [Rel.Vb d2 hs]
    exact ⟨iv,d1,d2⟩
  | junk=>simp [Ad] at h
  | nil t=>exact lone (.inl (by simp)) (by simp) h (hone (by simp) (by simp))
  | ref k t=>exact lone (.inl (by simp)) (by simp) h (hone (by simp) (by simp))
  | sub k lo hi t=>exact lone (.inl (by simp)) (by simp) h (hone (by simp) (by simp))
  | ptr p=>exact lone (.inl (by simp)) (by simp) h (hone (by simp) (by simp))
  | fn f ps=>exact lone (.inl (by simp)) (by simp) h (hone (by simp) (by simp))
  | mref k t=>exact lone (.inl (by simp)) (by simp) h (hone (by simp) (by simp))
  | hid k=>exact lone (.inl (by simp)) (by simp) h (hone (by simp) (by simp))
  | cl x t=>exact lone (.inl (by simp)) (by simp) h (hone (by simp) (by simp))
end
end Go.CT
namespace Go.CT
open EM
theorem Wt {w:World} {b:Nat} {v:Value} {t:TypeId} {fr:Nat × Nat} (h:w.heap[b]?=some (.cells v.cells t fr)):Dh w ⟨b,0,none⟩ v v.cells.size:=by
 refine ⟨rfl,fun i u hu=>?_⟩
 have hadd:(⟨b,0,none⟩:Addr).add i=⟨b,i,none⟩:=by unfold Addr.add;split<;>simp_all
 rw [hadd]
 simp [World.cell?,h,hu]
theorem Aci.at_ {P:Program} {w:World} {O:Nat→Prop} {e:TypeId} {xs:List IV} {A:Option Addr} {c:Nat} (h:Aci P w O e xs A c) {j:Nat} {x:IV} (hx:xs[j]?=some x):
  ∃ad v,A=some ad∧0<Af P e∧Dh w (ad.add (j * Af P e)) v (Af P e)∧Rel P w O e x v:=by
 obtain ⟨h1,h2,vs,h3,h4⟩:=h
 have hj:=(List.getElem?_eq_some_iff.1 hx).1
 obtain ⟨hs,ad,rfl,hc⟩:=h3 (by omega)
 exact ⟨ad,vs j,rfl,hs,hc j hj,h4 j x hx⟩
theorem Rel.Au3 {P:Program} {w:World} {O:Nat→Prop} {t:TypeId} {x:IV} {v:Value} (h:Rel P w O t x v):if Ag P t then ∃cs,v= .agg cs else v.oneCell'=true:=by
 by_cases ha:Ag P t=true
 ·simp only [ha,if_true]
  obtain ⟨_,_,cs,_,_,rfl,_⟩:=h.Iz ha
  exact ⟨cs,rfl⟩
 ·have ha':Ag P t=false:=by simpa using ha
  simp only [ha',Bool.false_eq_true,if_false]
  exact (h.one ha').1
theorem Q4 {ρ:List IV} {c i:Arg} {xs:List IV} {j:Int} {vs:List IV} {y:IV} (hc:c.ev ρ=some (.list xs)) (hi:i.ev ρ=some (.int j)) (hv:Arg.evs ρ [c,i]=some vs) (hy:Prim.ev .index vs=some y):
  0≤j∧xs[j.toNat]?=some y:=by
 obtain ⟨u,v,h1,h2,rfl⟩:=Aa9 hv
 rw [hc] at h1;rw [hi] at h2
 injection h1 with h1;injection h2 with h2
 subst h1;subst h2
 simp only [Prim.ev] at hy
 split at hy
 ·exact ⟨by assumption,hy⟩
 ·cases hy
section
variable {P:Program} {N:Nat} {X:Nat→Prop} {R:Job→List IV→Option (List IV)} {ρ:List IV} {K:Nat→Prop} {S:View} {μ:Nat→Value} {a:Act} {w:World} {es es':ES} {ls:List PLt} {sx:SX}
theorem Aec {p:PV} {t:TypeId} {r:VV} {v:Value} (G:Good P N X ρ K S.tm (cur S es.obs) μ a w) (h:Ev S (Ala P p t) es r es' ls) (hl:LH R ρ ls) (hg:holds ρ es.gs=some true)
  (hp:Xz (A6 P X ρ (cur S es.obs) μ w) p v):
  ∃u,(Instr.loadAt t v).run P w= .ok u w∧(∃n,es'= {es with n})∧Ki (A6 P X ρ (cur S es.obs) μ w) r u∧ ∀k∈Ap r,K k:=by
 unfold Ala at h
 rw [Aa] at h
 obtain ⟨_,_,_,_,h0,h,rfl⟩:=h
 rw [Ae] at h0
 obtain ⟨g0,rfl,rfl⟩:=h0
 have hl:=hl.right
 obtain ⟨d,hd⟩:=Option.isSome_iff_exists.1 g0
 -- the last step is alike
 have fin: ∀ {ad:Addr} {u:Value} {off sz:Nat} {t0:TypeId} {vv:VV} {e1:ES} {l1:List PLt},(∃n,e1= {es with n})→Dh w ad u sz→sz=Af P t0→v= .pointer (some (ad.add off))→
   Ev S (Aat P t0 vv off t) e1 r es' l1→LH R ρ l1→(∀k∈Ap vv,K k)→Ki (A6 P X ρ (cur S es.obs) μ w) vv u→(if Ag P t0 then ∃cs,u= .agg cs else u.oneCell'=true)→
   ∃u,(Instr.loadAt t v).run P w= .ok u w∧(∃n,es'= {es with n})∧Ki (A6 P X ρ (cur S es.obs) μ w) r u∧ ∀k∈Ap r,K k:=by
  intro ad u off sz t0 vv e1 l1 he hc hsz hv h hl hk hr ha
  obtain ⟨n,rfl⟩:=he
  obtain ⟨⟨n',hn⟩,q1,q2,q3,q4⟩:=Ae0 (es:= {es with n}) h hl hg hk hr (by rw [hc.1,hsz]) ha
  refine ⟨Kq P t u.cells off,?_,⟨n',hn⟩,q1,q2⟩
  subst hv
  unfold Instr.loadAt Instr.sureAddr
  simp only [Sem.run_bind,Sem.run_pure,Result.andThen_ok]
  exact Qp hd hc (by rw [←hc.1];exact q3) (by rw [←hc.1];exact q4)
 cases p with
 | p k off=>
  simp only [Aa,Be] at h
  obtain ⟨o,_,_,l2,⟨ho,rfl,rfl⟩,h,rfl⟩:=h
  cases o with
  | box t0 vv=>
   obtain ⟨b,u,h1,h2,h3,h4,h5,h6⟩:=G.obj k _ ho
   obtain ⟨b',p1,p2⟩:=hp
   have hb:b'=b:=by
    have h1':μ k= .pointer (some ⟨b,0,none⟩):=h1
    have p1':μ k= .pointer (some ⟨b',0,none⟩):=p1
    rw [h1'] at p1';injection p1' with p1';injection p1' with p1';injection p1' with p1';exact p1'.symm
   subst hb
   exact fin ⟨es.n,rfl⟩ (Wt h2) h3 p2 h hl ((G.ko k _ ho).2) h6 h4
  | arr=>simp [Ad] at h
  | frz=>simp [Ad] at h
  | iter=>simp [Ad] at h
  | mp=>simp [Ad] at h
 | el k e i off=>
  simp only [Aa,Be] at h
  obtain ⟨o,_,_,l2,⟨ho,rfl,rfl⟩,h,rfl⟩:=h
  cases o with
  | box=>simp [Ad] at h
  | arr e' tt c=>
   simp only [Aa,Ae,Bb] at h
   obtain ⟨_,_,_,_,⟨g1,rfl,rfl⟩,⟨_,_,_,_,⟨rfl,rfl,rfl⟩,h,rfl⟩,rfl⟩:=h
   have:e=e':=by simpa using g1
   subst this
   obtain ⟨ivs,A,cap,q1,q2,q3,q4,q5⟩:=G.Amr ho
   obtain ⟨g,n,cap',j,p1,p2,p3,p4⟩:=hp
   have p1':μ k= .slice (some ⟨g,0,none⟩) n cap':=p1
   rw [q2] at p1';injection p1' with i1 i2 i3
   subst i1;subst i2;subst i3
   obtain ⟨vs,y,r1,r2,r3⟩:=LH.Bo hl.right.left hg
   obtain ⟨_,s1⟩:=Q4 q1 p2 r1 r2
   obtain ⟨ad,u,t1,t2,t3,t4⟩:=q3.at_ s1
   injection t1 with t1;subst t1
   have t3':Dh w ((⟨g,0,none⟩:Addr).add (j * Af P e)) u (Af P e):=by simpa using t3
   refine fin (e1:= {es with n:=es.n+1}) ⟨es.n+1,rfl⟩ t3' rfl ?_ h hl.right.right (fun k hm=>by simp [Ap,As] at hm) ⟨y,r3,t4⟩ t4.Au3
   rw [C4];exact p4
  | frz=>simp [Ad] at h
  | iter=>simp [Ad] at h
  | mp=>simp [Ad] at h
 | im x t0 off=>
  obtain ⟨ad,u,⟨iv,d1,d2⟩,p2,p3,p4,p5⟩:=hp
  exact fin ⟨es.n,rfl⟩ p2 rfl p5 h hl (fun k hm=>by simp [Ap,As] at hm) ⟨iv,d1,d2⟩ d2.Au3
theorem Afl {vv:VV} {p:PV} (h:Ev S (Tq vv) es p es' ls):es=es'∧ls= []∧vv= .leaf (.ptr p):=by
 unfold Tq at h
 split at h
 ·rw [Ac] at h;obtain ⟨rfl,rfl,rfl⟩:=h;exact ⟨rfl,rfl,rfl⟩
 ·simp [Ad] at h
theorem Ox {x:Operand} {t:TypeId} {vv:VV} {p:PV} {e1 e2:ES} {l1 l2:List PLt} (G:Good P N X ρ K S.tm (cur S es.obs) μ a w) (h1:Ev S (rd1 P x t) es vv e1 l1) (h2:Ev S (Tq vv) e1 p e2 l2) (hg:holds ρ es.gs=some true):
  es=e2∧l1= []∧l2= []∧Xz (A6 P X ρ (cur S es.obs) μ w) p (a.eval x)∧ ∀k∈Cv p,K k:=by
 obtain ⟨rfl,rfl,h3,h4⟩:=Eu G h1 hg
 obtain ⟨rfl,rfl,rfl⟩:=Afl h2
 exact ⟨rfl,rfl,rfl,h3,h4⟩
theorem Am5 {t:TypeId} {x:Operand} (G:Good P N X ρ K S.tm (cur S es.obs) μ a w) (h:Ev S (do
   let p ←Tq (←rd1 P x 0)
   pure (.one (←Ala P p t)):EM SX) es sx es' ls) (hl:LH R ρ ls) (hg:holds ρ es.gs=some true):
  ∃v,(Instr.loadAt t (a.eval x)).run P w= .ok v w∧Out P N X ρ K S μ a w es es' sx μ w v:=by
 rw [Aa] at h
 obtain ⟨vv,e1,l1,_,h1,h,rfl⟩:=h
 rw [Aa] at h
 obtain ⟨p,e2,l2,_,h2,h,rfl⟩:=h
 obtain ⟨rfl,rfl,rfl,hp,hk⟩:=Ox G h1 h2 hg
 rw [Aa] at h
 obtain ⟨r,e3,l3,_,h3,h,rfl⟩:=h
 rw [Ac] at h
 obtain ⟨rfl,rfl,rfl⟩:=h
 obtain ⟨u,q1,⟨n,rfl⟩,q3,q4⟩:=Aec G h3 hl.right.right.left hg hp
 exact ⟨u,q1,Ph.out (es':= {es with n}) (.same G rfl rfl rfl) q3 q4⟩
theorem Xz.plus {c:Cx} {p:PV} {v:Value} {o:Nat} (h:Xz c p v): ∃ad,v= .pointer (some ad)∧Xz c (p.plus o) (.pointer (some (ad.add o))):=by
 cases p with
 | p k off=>
  obtain ⟨b,h1,rfl⟩:=h
  exact ⟨_,rfl,b,h1,by rw [C4]⟩
 | el k e i off=>
  obtain ⟨g,n,cap,j,h1,h2,h3,rfl⟩:=h
  exact ⟨_,rfl,g,n,cap,j,h1,h2,h3,by rw [C4,Nat.add_assoc]⟩
 | im x t off=>
  obtain ⟨ad,u,h1,h2,h3,h4,rfl⟩:=h
  exact ⟨_,rfl,ad,u,h1,h2,h3,h4,by rw [C4]⟩
theorem Z9 (p:PV) (o:Nat):Cv (p.plus o)=Cv p:=by cases p<;>rfl
theorem W9 {s:TypeId} {x:Operand} {f:Nat} (G:Good P N X ρ K S.tm (cur S es.obs) μ a w) (h:Ev S (do
   let p ←Tq (←rd1 P x 0)
   match P.underlying s with
   | some (.struct fs)=>do
    let fl ←ofOption fs[f]?
    EM.guard (decide (0<Af P fl.type))
    pure (one (.leaf (.ptr (p.plus fl.offset))))
   | _=>fail:EM SX) es sx es' ls) (hg:holds ρ es.gs=some true):
  ∃v,(Instr.fieldAt s (a.eval x) f).run P w= .ok v w∧Out P N X ρ K S μ a w es es' sx μ w v:=by
 rw [Aa] at h
 obtain ⟨vv,e1,l1,_,h1,h,rfl⟩:=h
 rw [Aa] at h
 obtain ⟨p,e2,l2,_,h2,h,rfl⟩:=h
 obtain ⟨rfl,rfl,rfl,hp,hk⟩:=Ox G h1 h2 hg
 split at h
 ·rename_i fs hs
  simp only [Aa,Ai,Ae,Ac] at h
  obtain ⟨fl,_,_,_,⟨g1,rfl,rfl⟩,⟨_,_,_,_,⟨g2,rfl,rfl⟩,⟨rfl,rfl,rfl⟩,rfl⟩,rfl⟩:=h
  simp only [decide_eq_true_eq] at g2
  obtain ⟨ad,hv,hpl⟩:=hp.plus (o:=fl.offset)
  obtain ⟨i,hi⟩:=D1 g2
  refine ⟨_,?_,Ph.out (.refl G) hpl (fun k hm=>hk k ?_)⟩
  ·rw [hv]
   have hne:Af P fl.type≠0:=by omega
   simp [Instr.fieldAt,underlying,hs,g1,Instr.sureAddr,fieldPlace,run_sizeOf hi,hne]
  ·simpa [Br,Ap,As,one,Z9] using hm
 ·simp [Ad] at h
theorem Dy.get {c:Cx} : ∀ {ls:List VV} {vs:List Value},Dy c ls vs→ ∀ (i:Nat) (l:VV),ls[i]?=some l→ ∃v,vs[i]?=some v∧Ki c l v
 | [],[],_=>by simp
 | l::ls,v::vs,h=>by
  intro i l' h1
  cases i with
  | zero=>simp at h1;subst h1;exact ⟨v,rfl,h.1⟩
  | succ i=>
   obtain ⟨v',h2,h3⟩:=Dy.get h.2 i l' (by simpa using h1)
   exact ⟨v',by simpa using h2,h3⟩
 | [],_::_,h=>h.elim
 | _::_,[],h=>h.elim
theorem Aal {x:Operand} {o:Oper} (ho:o.op= .nilCheck x) (G:Good P N X ρ K S.tm (cur S es.obs) μ a w) (h:Ev S (do
   match ←rd1 P x 0 with
   | .leaf (.ptr p)=>pure (one (.leaf (.ptr p)))
   | .leaf (.fn f c)=>pure (one (.leaf (.fn f c)))
   | _=>fail:EM SX) es sx es' ls) (hg:holds ρ es.gs=some true):
  ∃v,(execOp a.eval o).run P w= .ok (.value v) w∧Out P N X ρ K S μ a w es es' sx μ w v:=by
 rw [Aa] at h
 obtain ⟨vv,e1,l1,_,h1,h,rfl⟩:=h
 obtain ⟨rfl,rfl,h3,h4⟩:=Eu G h1 hg
 split at h
 ·rename_i p
  rw [Ac] at h
  obtain ⟨rfl,rfl,rfl⟩:=h
  refine ⟨a.eval x,?_,Ph.out (.refl G) h3 h4⟩
  obtain ⟨ad,hv,_⟩:=Xz.plus (o:=0) h3
  unfold execOp
  simp only [ho,hv]
  rfl
 ·rename_i f c
  rw [Ac] at h
  obtain ⟨rfl,rfl,rfl⟩:=h
  refine ⟨a.eval x,?_,Ph.out (.refl G) h3 h4⟩
  obtain ⟨vs,hv,_⟩:=h3
  unfold execOp
  simp only [ho,hv]
  rfl
 ·simp [Ad] at h
theorem Z3: ∀ {xs:List Operand} {es es':ES} {ps:List PV} {ls:List PLt},Good P N X ρ K S.tm (cur S es.obs) μ a w→Ev S (Uk P xs) es ps es' ls→holds ρ es.gs=some true→
  es=es'∧ls= []∧Kk (A6 P X ρ (cur S es.obs) μ w) ps (xs.map a.eval)∧ ∀k∈ps.flatMap Cv,K k
 | [],es,es',ps,ls,G,h,hg=>by
  unfold Uk at h
  rw [Ac] at h
  obtain ⟨rfl,rfl,rfl⟩:=h
  exact ⟨rfl,rfl,trivial,fun k hm=>by simp at hm⟩
 | x::xs,es,es',ps,ls,G,h,hg=>by
  unfold Uk at h
  rw [Aa] at h
  obtain ⟨vv,e1,l1,_,h1,h,rfl⟩:=h
  rw [Aa] at h
  obtain ⟨p,e2,l2,_,h2,h,rfl⟩:=h
  obtain ⟨rfl,rfl,rfl,hp,hk⟩:=Ox G h1 h2 hg
  simp only [Aa,Ac] at h
  obtain ⟨qs,e3,l3,_,h3,⟨rfl,rfl,rfl⟩,rfl⟩:=h
  obtain ⟨rfl,rfl,q1,q2⟩:=Z3 G h3 hg
  refine ⟨rfl,rfl,⟨hp,q1⟩,fun k hm=>?_⟩
  rw [List.flatMap_cons] at hm
  exact (List.mem_append.1 hm).elim (hk k) (q2 k)
theorem Zf {f:FuncId} {first caps:Array Operand} (G:Good P N X ρ K S.tm (cur S es.obs) μ a w) (h:Ev S (do
   EM.guard first.isEmpty
   pure (one (.leaf (.fn f (←Uk P caps.toList)))):EM SX) es sx es' ls) (hg:holds ρ es.gs=some true):
  ∃v,(Instr.makeFunc (.func f) (first.map a.eval) (caps.map a.eval)).run P w= .ok v w∧Out P N X ρ K S μ a w es es' sx μ w v:=by
 rw [Aa] at h
 obtain ⟨_,_,_,_,h0,h,rfl⟩:=h
 rw [Ae] at h0
 obtain ⟨g0,rfl,rfl⟩:=h0
 simp only [Aa,Ac] at h
 obtain ⟨ps,e3,l3,_,h3,⟨rfl,rfl,rfl⟩,rfl⟩:=h
 obtain ⟨rfl,rfl,q1,q2⟩:=Z3 G h3 hg
 have hf:first= #[]:=by simpa using g0
 subst hf
 exact ⟨.func (.func f) #[] (caps.map a.eval),by simp [Instr.makeFunc],Ph.out (.refl G) ⟨_,rfl,by simpa using q1⟩ (fun k hm=>q2 k (by simpa [Br,Ap,As,one] using hm))⟩
theorem Akz {s:TypeId} {x:Operand} {f:Nat} (G:Good P N X ρ K S.tm (cur S es.obs) μ a w) (h:Ev S (do
   let v ←rd1 P x s
   match P.underlying s with
   | some (.struct fs)=>do
    let fl ←ofOption fs[f]?
    EM.guard ((P.underlying fl.type).isSome &&Tp P s v)
    pure (.one (←Aat P s v fl.offset fl.type))
   | _=>fail:EM SX) es sx es' ls) (hl:LH R ρ ls) (hg:holds ρ es.gs=some true):
  ∃v,(Instr.field s (a.eval x) f).run P w= .ok v w∧Out P N X ρ K S μ a w es es' sx μ w v:=by
 rw [Aa] at h
 obtain ⟨vv,e1,l1,_,h1,h,rfl⟩:=h
 obtain ⟨rfl,rfl,h3,h4⟩:=Eu G h1 hg
 split at h
 ·rename_i fs hs
  rw [Aa] at h
  obtain ⟨fl,_,_,_,h0,h,rfl⟩:=h
  rw [Ai] at h0
  obtain ⟨g1,rfl,rfl⟩:=h0
  rw [Aa] at h
  obtain ⟨_,_,_,_,h0,h,rfl⟩:=h
  rw [Ae] at h0
  obtain ⟨g2,rfl,rfl⟩:=h0
  simp only [Bool.and_eq_true] at g2
  obtain ⟨d,hd⟩:=Option.isSome_iff_exists.1 g2.1
  simp only [Aa,Ac] at h
  obtain ⟨r,e2,l2,_,h2,⟨rfl,rfl,rfl⟩,rfl⟩:=h
  have hwhole:Ag P s=true∧ ∃cs,a.eval x= .agg cs∧cs.size=Af P s:=by
   have g:=g2.2
   cases vv with
   | agg t cs=>
    simp only [Tp,Bool.and_eq_true,beq_iff_eq] at g
    obtain ⟨us,hu,hr⟩:=h3
    have:=hr.len
    exact ⟨g.1,us,hu,by rw [←g.2,this];simp⟩
   | leaf l=>
    cases l with
    | «at» y t=>
     simp only [Tp,Bool.and_eq_true,beq_iff_eq] at g
     obtain ⟨⟨ga,rfl⟩,gl⟩:=g
     obtain ⟨iv,d1,d2⟩:=h3
     obtain ⟨ts,xs,cs,q1,_,hu,q2⟩:=d2.W1 ga
     have q1':leaves P s=some ts:=q1
     rw [q1'] at gl
     have:=q2.len.2
     simp only [beq_iff_eq] at gl
     exact ⟨ga,cs,hu,by rw [←gl,←this];simp⟩
    | _=>simp [Tp] at g
  obtain ⟨ha,cs,hcs,hsz⟩:=hwhole
  obtain ⟨⟨n,hn⟩,q1,q2,q3,q4⟩:=Ae0 h2 hl.right.right.right.left hg h4 h3 (by rw [hcs];exact hsz) (by simp only [ha,if_true];exact ⟨cs,hcs⟩)
  subst hn
  refine ⟨Kq P fl.type cs fl.offset,?_,Ph.out (es':= {es with n:=n}) (.same G rfl rfl rfl) (by rw [hcs] at q1;exact q1) q2⟩
  rw [hcs]
  rw [hcs] at q3 q4
  simp only [Instr.field,underlying,Sem.run_bind,run_program,Result.andThen_ok,hs,Sem.run_pure,g1,asAgg]
  unfold part Kq
  obtain ⟨i,hi⟩:=D3 hd
  by_cases hag:Ag P fl.type=true
  ·simp [Kn hd,hag,run_sizeOf hi]
  ·have hag':Ag P fl.type=false:=by simpa using hag
   have hlt:fl.offset<cs.size:=q4 hag'
   simp [Kn hd,hag',hlt,Array.getD]
 ·simp [Ad] at h
theorem Af4 {t rt:TypeId} {x i:Operand} (G:Good P N X ρ K S.tm (cur S es.obs) μ a w) (h:Ev S (do
   EM.guard (isStr P t&&Kl P rt == some .u8)
   let b ←Gq P x t
   let iv ←Zz P i
   pure (dat (←Bo .Ho [b,iv]) rt):EM SX) es sx es' ls) (hl:LH R ρ ls) (hg:holds ρ es.gs=some true):
  ∃v,(Instr.index t (a.eval x) (a.eval i)).run P w= .ok v w∧Out P N X ρ K S μ a w es es' sx μ w v:=by
 rw [Aa] at h
 obtain ⟨_,_,_,_,h0,h,rfl⟩:=h
 rw [Ae] at h0
 obtain ⟨g0,rfl,rfl⟩:=h0
 simp only [Bool.and_eq_true,beq_iff_eq] at g0
 rw [Aa] at h
 obtain ⟨b,e1,l1,_,h1,h,rfl⟩:=h
 obtain ⟨p,hb⟩:=Eg G h1 hl.right.left hg
 have hg2:holds ρ e1.gs=some true:=by rw [p.gs];exact hg
 have hl:=hl.right.right
 rw [Aa] at h
 obtain ⟨iv,e2,l2,_,h2,h,rfl⟩:=h
 obtain ⟨rfl,rfl,n,k,hn,hx⟩:=Oq p.Bu h2 hg2
 simp only [Aa,Bb,Ac] at h
 obtain ⟨_,_,_,_,⟨rfl,rfl,rfl⟩,⟨rfl,rfl,rfl⟩,rfl⟩:=h
 obtain ⟨s,hs,hsx⟩:=hb.str (Dl g0.1)
 have hs':b.ev ρ=some (.str s):=hs
 obtain ⟨vs,y,r1,r2,r3⟩:=LH.Bo hl.right.left hg2
 obtain ⟨u,v,s1,s2,rfl⟩:=Aa9 r1
 rw [hs'] at s1;rw [hn] at s2
 injection s1 with s1;injection s2 with s2;subst s1;subst s2
 simp only [Prim.ev] at r2
 split at r2
 ·rename_i h0
  simp only [Option.map_eq_some_iff] at r2
  obtain ⟨c,hc,rfl⟩:=r2
  refine ⟨_,?_,C3 p r3 (.int (Cl g0.2))⟩
  rw [hsx,hx]
  simp [Instr.index,asIntOf,underlying,Dl g0.1,h0,hc]
 ·cases r2
end
end Go.CT
namespace Go.CT
open EM
section
variable {P:Program} {w:World}
theorem run_sliceBound {k:IntKind} {n:Int} {y:Nat} {code:BoundsCode} (h0:0≤n) (h1:n≤y):(Instr.sliceBound (.int k n) y code).run P w= .ok n.toNat w:=by
 simp [Instr.sliceBound,asIntOf,h0,h1]
def I4 (o:Option Value) (d n:Nat):Prop:=(o=none∧n=d)∨ ∃k:IntKind,o=some (.int k n)
theorem Ux {isS:Bool} {len cap l h:Nat} {lo hi:Option Value} (hlo:I4 lo 0 l) (hhi:I4 hi len h) (hlh:l≤h) (hc:h≤cap):
  (Instr.sliceBounds isS len cap lo hi none).run P w= .ok (l,h,cap) w:=by
 unfold Instr.sliceBounds
 rcases hhi with ⟨rfl,rfl⟩ | ⟨k,rfl⟩
 ·rcases hlo with ⟨rfl,rfl⟩ | ⟨k',rfl⟩
  ·simp
  ·simp [run_sliceBound (P:=P) (w:=w) (k:=k') (n:=(l:Int)) (y:=h) (Int.natCast_nonneg _) (by omega)]
 ·rcases hlo with ⟨rfl,rfl⟩ | ⟨k',rfl⟩
  ·simp [run_sliceBound (P:=P) (w:=w) (k:=k) (n:=(h:Int)) (y:=cap) (Int.natCast_nonneg _) (by omega)]
  ·simp [run_sliceBound (P:=P) (w:=w) (k:=k) (n:=(h:Int)) (y:=cap) (Int.natCast_nonneg _) (by omega),
    run_sliceBound (P:=P) (w:=w) (k:=k') (n:=(l:Int)) (y:=h) (Int.natCast_nonneg _) (by omega)]
theorem Ic {t e:TypeId} {A:Option Addr} {n cap l h:Nat} {lo hi:Option Value} (ht:P.underlying t=some (.slice e)) (hs:0<Af P e) (hlo:I4 lo 0 l) (hhi:I4 hi n h) (hlh:l≤h) (hc:h≤cap):
  (Instr.sliceAt t (.slice A n cap) lo hi none).run P w= .ok (.slice (if cap=l then A else A.map (·.add (l * Af P e))) (h - l) (cap - l)) w:=by
 obtain ⟨i,hi'⟩:=D1 hs
 unfold Instr.sliceAt Instr.slice
 simp only [underlying,Sem.run_bind,run_program,Result.andThen_ok,ht,Sem.run_pure]
 rw [Ux hlo hhi hlh hc]
 simp [run_sizeOf hi']
theorem run_slice_string {t:TypeId} {s:ByteArray} {l h:Nat} {lo hi:Option Value} (ht:P.underlying t=some .string) (hlo:I4 lo 0 l) (hhi:I4 hi s.size h) (hlh:l≤h) (hc:h≤s.size):
  (Instr.sliceAt t (.string s) lo hi none).run P w= .ok (.string (s.extract l h)) w:=by
 unfold Instr.sliceAt Instr.slice
 simp only [underlying,Sem.run_bind,run_program,Result.andThen_ok,ht,Sem.run_pure]
 simp [Ux (P:=P) (w:=w) (isS:=false) hlo hhi hlh hc]
end
section
variable {P:Program} {N:Nat} {X:Nat→Prop} {R:Job→List IV→Option (List IV)} {ρ:List IV} {K:Nat→Prop} {S:View} {μ:Nat→Value} {a:Act} {w:World} {es es':ES} {ls:List PLt} {sx:SX}
theorem Row.im {e:TypeId} {_c x:Arg} {xs:List IV} {A:Option Addr} {cap j:Nat} {y:IV} {cx:Cx} (hr:Row cx.P cx.w cx.O e xs A cap) (hy:xs[j]?=some y) (hx:x.ev cx.ρ=some y) (hs:0<Af cx.P e) (hW: ∀b,cx.W b→cx.O b):
  ∃ad,A=some ad∧Xz cx (.im x e 0) (.pointer (some (ad.add (j * Af cx.P e)))):=by
 obtain ⟨ad,u,h1,h2,h3,h4⟩:=hr.at_ hy
 refine ⟨ad,h1,_,u,⟨y,hx,h4⟩,h3,hs,?_,by rw [Au]⟩
 rw [Cw]
 exact fun h=>h2 (hW _ h)
theorem run_indexAt_slice {t e:TypeId} {A:Option Addr} {ad:Addr} {n cap:Nat} {k:IntKind} {j:Int} (ht:P.underlying t=some (.slice e)) (hs:0<Af P e) (hA:A=some ad) (h0:0≤j) (hn:j<n):
  (Instr.indexAt t (.slice A n cap) (.int k j)).run P w= .ok (.pointer (some (ad.add (j.toNat * Af P e)))) w:=by
 obtain ⟨i,hi⟩:=D1 hs
 subst hA
 simp [Instr.indexAt,asIntOf,underlying,ht,h0,hn,run_sizeOf hi]
theorem toNat_lt {xs:List IV} {j:Int} {y:IV} (h0:0≤j) (h:xs[j.toNat]?=some y):j<xs.length:=by
 have:=(List.getElem?_eq_some_iff.1 h).1
 omega
theorem Xt {t:TypeId} {x i:Operand} (G:Good P N X ρ K S.tm (cur S es.obs) μ a w) (h:Ev S (Pg P t x i) es sx es' ls) (hl:LH R ρ ls) (hg:holds ρ es.gs=some true):
  ∃v,(Instr.indexAt t (a.eval x) (a.eval i)).run P w= .ok v w∧Out P N X ρ K S μ a w es es' sx μ w v:=by
 unfold Pg at h
 rw [Aa] at h
 obtain ⟨xv,e1,l1,_,h1,h,rfl⟩:=h
 obtain ⟨rfl,rfl,h3,h4⟩:=Eu G h1 hg
 have hl:=hl.right
 split at h
 ·rename_i e ht
  rw [Aa] at h
  obtain ⟨_,_,_,_,h0,h,rfl⟩:=h
  rw [Ae] at h0
  obtain ⟨g0,rfl,rfl⟩:=h0
  simp only [decide_eq_true_eq] at g0
  rw [Aa] at h
  obtain ⟨iv,e2,l2,_,h2,h,rfl⟩:=h
  obtain ⟨rfl,rfl,j,k,hj,hi⟩:=Oq G h2 hg
  have hl:=hl.right.right
  rw [hi]
  -- the arm for data
  have data: ∀ {l:LV} {e3:ES} {l3:List PLt} {c:Arg},Ki (A6 P X ρ (cur S es.obs) μ w) (.leaf l) (a.eval x)→Ev S (Cp P true t l) es c e3 l3→LH R ρ l3→
    ∀ {l4:List PLt},Ev S (do pure (one (.leaf (.ptr (.im (←Bo .index [c,iv]) e 0)))):EM SX) e3 sx es' l4→LH R ρ l4→
    ∃v,(Instr.indexAt t (a.eval x) (.int k j)).run P w= .ok v w∧Out P N X ρ K S μ a w es es' sx μ w v:=by
   intro l e3 l3 c hv hd hl3 l4 h hl4
   obtain ⟨p,_,hD⟩:=E2 G hd hl3 hg hv
   obtain ⟨z,d1,d2⟩:=hD rfl
   obtain ⟨xs,A,cap,rfl,hx,hrow⟩:=d2.Ca ht
   simp only [Aa,Bb,Ac] at h
   obtain ⟨_,_,_,_,⟨rfl,rfl,rfl⟩,⟨rfl,rfl,rfl⟩,rfl⟩:=h
   obtain ⟨vs,y,r1,r2,r3⟩:=LH.Bo hl4.left (by rw [p.gs];exact hg)
   obtain ⟨q1,q2⟩:=Q4 d1 hj r1 r2
   obtain ⟨ad,hA,hp⟩:=Row.im (_c:=c) (cx:=A6 P X ρ (cur S e3.obs) μ w) hrow q2 r3 g0 (fun b hb=> .inr hb)
   rw [hx]
   exact ⟨_,run_indexAt_slice ht g0 hA q1 (toNat_lt q1 q2),Ph.out (es':= {e3 with n:=e3.n+1}) ⟨p.Bu,p.Dc,p.m,p.gs⟩ hp (fun k hm=>by simp [Br,Ap,As,Cv,one] at hm)⟩
  split at h
  ·rename_i k0 t0
   obtain ⟨hv,_⟩:=h3
   have hv:a.eval x=μ k0:=hv
   rw [Aa] at h
   obtain ⟨o,_,_,l3,ho,h,rfl⟩:=h
   rw [Be] at ho
   obtain ⟨ho,rfl,rfl⟩:=ho
   have hl:=hl.right
   cases o with
   | box=>simp [Ad] at h
   | iter=>simp [Ad] at h
   | mp=>simp [Ad] at h
   | arr e' tt c=>
    simp only [Aa,Ae,Bb,Ac] at h
    obtain ⟨_,_,_,_,⟨g1,rfl,rfl⟩,⟨_,_,_,_,⟨rfl,rfl,rfl⟩,⟨rfl,rfl,rfl⟩,rfl⟩,rfl⟩:=h
    have:e=e':=by simpa using g1
    subst this
    obtain ⟨ivs,cs,q1,q2,q3,q4,q5,q6⟩:=G.obj k0 _ ho
    obtain ⟨vs,y,r1,r2,r3⟩:=LH.Bo hl.right.left hg
    obtain ⟨s1,s2⟩:=Q4 q1 hj r1 r2
    have hlt:=toNat_lt s1 s2
    obtain ⟨_,q4⟩:=q4
    rcases q4 with ⟨_,q4⟩ | ⟨g,cap,cu,e1,_⟩
    ·omega
    ·have e1':μ k0= .slice (some ⟨g,0,none⟩) ivs.length cap:=e1
     rw [hv,e1']
     refine ⟨_,run_indexAt_slice ht g0 rfl s1 hlt,Ph.out (es':= {es with n:=es.n+1}) (.same G rfl rfl rfl) ⟨g,ivs.length,cap,j.toNat,e1,?_,by omega,by rw [Nat.add_zero];rfl⟩ (fun k hm=>?_)⟩
     ·have:((j.toNat:Nat):Int)=j:=by omega
      rw [this];exact hj
     ·simp [Br,Ap,As,Cv,one] at hm
      subst hm
      exact h4 k (by simp [Ap,As])
   | frz e' tt c=>
    simp only [Aa,Ae,Bb,Ac] at h
    obtain ⟨_,_,_,_,⟨g1,rfl,rfl⟩,⟨_,_,_,_,⟨rfl,rfl,rfl⟩,⟨rfl,rfl,rfl⟩,rfl⟩,rfl⟩:=h
    have:e=e':=by simpa using g1
    subst this
    obtain ⟨g5,z,d1,d2⟩:=G.obj k0 _ ho
    obtain ⟨xs,A,cap,rfl,hx,hrow⟩:=d2.Ca g5
    obtain ⟨vs,y,r1,r2,r3⟩:=LH.Bo hl.right.left hg
    obtain ⟨q1,q2⟩:=Q4 d1 hj r1 r2
    obtain ⟨ad,hA,hp⟩:=Row.im (_c:=c) (cx:=A6 P X ρ (cur S es.obs) μ w) hrow q2 r3 g0 (fun b hb=> .inr hb)
    have hx':μ k0= .slice A xs.length cap:=hx
    rw [hv,hx']
    exact ⟨_,run_indexAt_slice ht g0 hA q1 (toNat_lt q1 q2),Ph.out (es':= {es with n:=es.n+1}) (.same G rfl rfl rfl) hp (fun k hm=>by simp [Br,Ap,As,Cv,one] at hm)⟩
  ·rename_i l _
   rw [Aa] at h
   obtain ⟨c,e3,l3,l4,hd,h,rfl⟩:=h
   exact data h3 hd hl.left h hl.right
  ·simp [Ad] at h
 ·rename_i n e ht
  rw [Aa] at h
  obtain ⟨p,e2,l2,_,h2,h,rfl⟩:=h
  obtain ⟨rfl,rfl,rfl⟩:=Afl h2
  split at h
  ·rename_i k j
   simp only [Aa,Ae,Ac] at h
   obtain ⟨_,_,_,_,⟨g1,rfl,rfl⟩,⟨rfl,rfl,rfl⟩,rfl⟩:=h
   simp only [Bool.and_eq_true,decide_eq_true_eq] at g1
   obtain ⟨⟨g1,g2⟩,g3⟩:=g1
   obtain ⟨ad,hv,hpl⟩:=Xz.plus (o:=j.toNat * Af P e) h3
   obtain ⟨i,hi⟩:=D1 g3
   refine ⟨_,?_,Ph.out (.refl G) hpl (fun k hm=>h4 k ?_)⟩
   ·rw [hv]
    simp [Instr.indexAt,asIntOf,underlying,ht,Instr.sureAddr,Act.eval,g1,g2,run_sizeOf hi]
   ·simpa [Br,Ap,As,one,Z9] using hm
  ·simp [Ad] at h
 ·simp [Ad] at h
theorem Y5 {o:Option Operand} {r:Option Arg} (G:Good P N X ρ K S.tm (cur S es.obs) μ a w) (h:Ev S (Adw P o) es r es' ls) (hg:holds ρ es.gs=some true):
  es=es'∧ls= []∧((o=none∧r=none)∨ ∃x y n k,o=some x∧r=some y∧y.ev ρ=some (.int n)∧a.eval x= .int k n):=by
 unfold Adw at h
 cases o with
 | none=>
  rw [Ac] at h
  obtain ⟨rfl,rfl,rfl⟩:=h
  exact ⟨rfl,rfl,.inl ⟨rfl,rfl⟩⟩
 | some x=>
  simp only [Aa,Ac] at h
  obtain ⟨y,e1,l1,_,h1,⟨rfl,rfl,rfl⟩,rfl⟩:=h
  obtain ⟨rfl,rfl,n,k,hn,hx⟩:=Oq G h1 hg
  exact ⟨rfl,rfl,.inr ⟨x,y,n,k,rfl,rfl,hn,hx⟩⟩
theorem Axk {o:Option Operand} {r:Option Arg} (h:(o=none∧r=none)∨ ∃x y n k,o=some x∧r=some y∧y.ev ρ=some (.int n)∧a.eval x= .int k n):
  ∃n,(r.getD (.k (.int 0))).ev ρ=some (.int n)∧(0≤n→I4 (o.map a.eval) 0 n.toNat):=by
 rcases h with ⟨rfl,rfl⟩ | ⟨x,y,n,k,rfl,rfl,hn,hx⟩
 ·exact ⟨0,rfl,fun _=> .inl ⟨rfl,rfl⟩⟩
 ·exact ⟨n,hn,fun h0=> .inr ⟨k,by rw [Option.map_some,hx];congr 2;omega⟩⟩
theorem Yg {c lo hi:Arg} {xs:List IV} {l h:Int} {vs:List IV} {y:IV} (hc:c.ev ρ=some (.list xs)) (hl:lo.ev ρ=some (.int l)) (hh:hi.ev ρ=some (.int h))
  (hv:Arg.evs ρ [c,lo,hi]=some vs) (hy:Prim.ev .slice vs=some y):y= .list ((xs.take h.toNat).drop l.toNat)∧0≤l∧l≤h∧h≤xs.length:=by
 obtain ⟨u,v,q,h1,h2,h3,rfl⟩:=Aq6 hv
 rw [hc] at h1;rw [hl] at h2;rw [hh] at h3
 injection h1 with h1;injection h2 with h2;injection h3 with h3
 subst h1;subst h2;subst h3
 simp only [Prim.ev] at hy
 split at hy
 ·injection hy with hy;exact ⟨hy.symm,by omega,by omega,by omega⟩
 ·cases hy
theorem Agy {c lo:Arg} {xs:List IV} {l:Int} {vs:List IV} {y:IV} (hc:c.ev ρ=some (.list xs)) (hl:lo.ev ρ=some (.int l))
  (hv:Arg.evs ρ [c,lo]=some vs) (hy:Prim.ev .Px vs=some y):y= .list ((xs.take xs.length).drop l.toNat)∧0≤l∧l≤xs.length:=by
 obtain ⟨u,v,h1,h2,rfl⟩:=Aa9 hv
 rw [hc] at h1;rw [hl] at h2
 injection h1 with h1;injection h2 with h2
 subst h1;subst h2
 simp only [Prim.ev] at hy
 split at hy
 ·injection hy with hy;exact ⟨by rw [List.take_length];exact hy.symm,by omega,by omega⟩
 ·cases hy
theorem Amf {t:TypeId} {x:Operand} {lo hi mx:Option Operand} (G:Good P N X ρ K S.tm (cur S es.obs) μ a w) (h:Ev S (Amd P t x lo hi mx) es sx es' ls) (hl:LH R ρ ls) (hg:holds ρ es.gs=some true):
  ∃v,(Instr.sliceAt t (a.eval x) (lo.map a.eval) (hi.map a.eval) (mx.map a.eval)).run P w= .ok v w∧Out P N X ρ K S μ a w es es' sx μ w v:=by
 unfold Amd at h
 rw [Aa] at h
 obtain ⟨_,_,_,_,h0,h,rfl⟩:=h
 rw [Ae] at h0
 obtain ⟨g0,rfl,rfl⟩:=h0
 have hmx:mx=none:=by simpa using g0
 subst hmx
 rw [Option.map_none]
 rw [Aa] at h
 obtain ⟨xv,e1,l1,_,h1,h,rfl⟩:=h
 obtain ⟨rfl,rfl,h3,h4⟩:=Eu G h1 hg
 rw [Aa] at h
 obtain ⟨l,e2,l2,_,h2,h,rfl⟩:=h
 obtain ⟨rfl,rfl,o1⟩:=Y5 G h2 hg
 rw [Aa] at h
 obtain ⟨hh,e3,l3,_,h5,h,rfl⟩:=h
 obtain ⟨rfl,rfl,o2⟩:=Y5 G h5 hg
 have hl:=hl.right.right.right.right
 obtain ⟨ln,hln,blo⟩:=Axk o1
 -- data, cut
 have cut: ∀ {e:TypeId} {c:Arg} {e4:ES} {v:Value} {xs:List IV} {A:Option Addr} {cap:Nat},P.underlying t=some (.slice e)→0<Af P e→Ph P N X ρ K S μ a w es e4→c.ev ρ=some (.list xs)→
   v= .slice A xs.length cap→Row P w (A6 P X ρ (cur S e4.obs) μ w).O e xs A cap→a.eval x=v→
   ∀ {l4:List PLt},Ev S (Awx c (l.getD (.k (.int 0))) hh t) e4 sx es' l4→LH R ρ l4→
   ∃v,(Instr.sliceAt t (a.eval x) (lo.map a.eval) (hi.map a.eval) none).run P w= .ok v w∧Out P N X ρ K S μ a w es es' sx μ w v:=by
  intro e c e4 v xs A cap ht hs p hc hv hrow hxv l4 h hl4
  have hg4:holds ρ e4.gs=some true:=by rw [p.gs];exact hg
  rw [hxv,hv]
  unfold Awx at h
  rcases o2 with ⟨rfl,rfl⟩ | ⟨hx,hy,hn,hk,rfl,rfl,hhn,hhx⟩
  ·simp only [Aa,Bb,Ac] at h
   obtain ⟨_,_,_,_,⟨rfl,rfl,rfl⟩,⟨rfl,rfl,rfl⟩,rfl⟩:=h
   obtain ⟨vs,y,r1,r2,r3⟩:=LH.Bo hl4.left hg4
   obtain ⟨rfl,q1,q2⟩:=Agy hc hln r1 r2
   refine ⟨_,Ic ht hs (blo q1) (.inl ⟨rfl,rfl⟩) (by omega) hrow.1,?_⟩
   have hr:=(hrow.part (l:=ln.toNat) (r:=xs.length) (by omega) (Nat.le_refl _)).rel ht
   have hlen:((xs.take xs.length).drop ln.toNat).length =xs.length - ln.toNat:=by simp
   rw [hlen] at hr
   exact C3 p r3 hr
  ·simp only [Aa,Bb,Ac] at h
   obtain ⟨_,_,_,_,⟨rfl,rfl,rfl⟩,⟨rfl,rfl,rfl⟩,rfl⟩:=h
   obtain ⟨vs,y,r1,r2,r3⟩:=LH.Bo hl4.left hg4
   obtain ⟨rfl,q1,q2,q3⟩:=Yg hc hln hhn r1 r2
   have hb:I4 (Option.map a.eval (some hx)) xs.length hn.toNat:= .inr ⟨hk,by rw [Option.map_some,hhx];congr 2;omega⟩
   refine ⟨_,Ic ht hs (blo q1) hb (by omega) (by have:=hrow.1;omega),?_⟩
   have hr:=(hrow.part (l:=ln.toNat) (r:=hn.toNat) (by omega) (by omega)).rel ht
   have hlen:((xs.take hn.toNat).drop ln.toNat).length =hn.toNat - ln.toNat:=by rw [List.length_drop,List.length_take];omega
   rw [hlen] at hr
   exact C3 p r3 hr
 cases ht:P.underlying t with
 | none=>simp [ht,Ad] at h
 | some d=>
 simp only [ht] at h
 cases d with
 | string=>
  rw [Aa] at h
  obtain ⟨c,e4,l4,l5,hd,h,rfl⟩:=h
  obtain ⟨p,hB,_⟩:=Dw G hd hl.left hg h4 h3
  have hg4:holds ρ e4.gs=some true:=by rw [p.gs];exact hg
  obtain ⟨s,hs,hsx⟩:=hB.str ht
  have hs':c.ev ρ=some (.str s):=hs
  rw [hsx]
  rcases o2 with ⟨rfl,rfl⟩ | ⟨hx,hy,hn,hk,rfl,rfl,hhn,hhx⟩
  ·simp only [Aa,Bb,Ac] at h
   obtain ⟨_,_,_,_,⟨rfl,rfl,rfl⟩,⟨rfl,rfl,rfl⟩,rfl⟩:=h
   obtain ⟨vs,y,r1,r2,r3⟩:=LH.Bo hl.right.left hg4
   obtain ⟨u,v,s1,s2,rfl⟩:=Aa9 r1
   rw [hs'] at s1;rw [hln] at s2
   injection s1 with s1;injection s2 with s2;subst s1;subst s2
   simp only [Prim.ev] at r2
   split at r2
   ·rename_i hc
    injection r2 with r2;subst r2
    exact ⟨_,run_slice_string ht (blo hc.1) (.inl ⟨rfl,rfl⟩) (by omega) (Nat.le_refl _),C3 p r3 (.str ht)⟩
   ·cases r2
  ·simp only [Aa,Bb,Ac] at h
   obtain ⟨_,_,_,_,⟨rfl,rfl,rfl⟩,⟨rfl,rfl,rfl⟩,rfl⟩:=h
   obtain ⟨vs,y,r1,r2,r3⟩:=LH.Bo hl.right.left hg4
   obtain ⟨u,v,q,s1,s2,s3,rfl⟩:=Aq6 r1
   rw [hs'] at s1;rw [hln] at s2;rw [hhn] at s3
   injection s1 with s1;injection s2 with s2;injection s3 with s3;subst s1;subst s2;subst s3
   simp only [Prim.ev] at r2
   split at r2
   ·rename_i hc
    injection r2 with r2;subst r2
    have hb:I4 (Option.map a.eval (some hx)) s.size hn.toNat:= .inr ⟨hk,by rw [Option.map_some,hhx];congr 2;omega⟩
    exact ⟨_,run_slice_string ht (blo hc.1) hb (by omega) (by omega),C3 p r3 (.str ht)⟩
   ·cases r2
 | slice e=>
  rw [Aa] at h
  obtain ⟨_,_,_,_,h0,h,rfl⟩:=h
  rw [Ae] at h0
  obtain ⟨g1,rfl,rfl⟩:=h0
  simp only [decide_eq_true_eq] at g1
  have hl:=hl.right
  have other: ∀ {lf:LV},Ki (A6 P X ρ (cur S es.obs) μ w) (.leaf lf) (a.eval x)→ ∀ {lx:List PLt},Ev S (do
    let c ←Cp P true t lf
    Awx c (l.getD (.k (.int 0))) hh t:EM SX) es sx es' lx→LH R ρ lx→
    ∃v,(Instr.sliceAt t (a.eval x) (lo.map a.eval) (hi.map a.eval) none).run P w= .ok v w∧Out P N X ρ K S μ a w es es' sx μ w v:=by
   intro lf h3 lx h hl
   rw [Aa] at h
   obtain ⟨c,e4,l4,l5,hd,h,rfl⟩:=h
   obtain ⟨p,_,hD⟩:=E2 G hd hl.left hg h3
   obtain ⟨z,d1,d2⟩:=hD rfl
   obtain ⟨xs,A,cap,rfl,hx,hrow⟩:=d2.Ca ht
   exact cut ht g1 p d1 hx hrow rfl h hl.right
  cases xv with
  | agg t' cs=>simp [Ad] at h
  | leaf lf=>
  cases lf with
  | ref k0 t0=>
   obtain ⟨hv,_⟩:=h3
   have hv:a.eval x=μ k0:=hv
   rw [Aa] at h
   obtain ⟨o,_,_,l3,ho,h,rfl⟩:=h
   rw [Be] at ho
   obtain ⟨ho,rfl,rfl⟩:=ho
   have hl:=hl.right
   cases o with
   | box=>simp [Ad] at h
   | iter=>simp [Ad] at h
   | mp=>simp [Ad] at h
   | arr e' tt c=>
    rw [Aa] at h
    obtain ⟨_,_,_,_,h0,h,rfl⟩:=h
    rw [Ae] at h0
    obtain ⟨g2,rfl,rfl⟩:=h0
    have:e=e':=by simpa using g2
    subst this
    obtain ⟨ivs,A,cap,q1,q2,q3,q4,q5⟩:=G.Amr ho
    have hl:=hl.right
    rw [hv,q2]
    have fin: ∀ {e5:ES} {l5:List PLt} {hiA:Arg} {hn:Int},(∃n,e5= {es with n})→hiA.ev ρ=some (.int hn)→(0≤hn→I4 (hi.map a.eval) ivs.length hn.toNat)→
      Ev S (do
       let _ ←Bo .slice [c,l.getD (.k (.int 0)),hiA]
       pure (one (.leaf (.sub k0 (l.getD (.k (.int 0))) hiA t))):EM SX) e5 sx es' l5→LH R ρ l5→
      ∃v,(Instr.sliceAt t (.slice A ivs.length cap) (lo.map a.eval) (hi.map a.eval) none).run P w= .ok v w∧Out P N X ρ K S μ a w es es' sx μ w v:=by
     intro e5 l5 hiA hn he hh' hb h hl5
     obtain ⟨n,rfl⟩:=he
     simp only [Aa,Bb,Ac] at h
     obtain ⟨_,_,_,_,⟨rfl,rfl,rfl⟩,⟨rfl,rfl,rfl⟩,rfl⟩:=h
     obtain ⟨vs,y,r1,r2,r3⟩:=LH.Bo hl5.left hg
     obtain ⟨rfl,p1,p2,p3⟩:=Yg q1 hln hh' r1 r2
     refine ⟨_,Ic ht g1 (blo p1) (hb (by omega)) (by omega) (by have:=q3.1;omega),Ph.out (es':= {es with n:=n+1}) (.same G rfl rfl rfl) ?_ (fun k hm=>?_)⟩
     ·refine ⟨A,ivs.length,cap,ln.toNat,hn.toNat,e,ht,q2,?_,?_,by omega,by omega,rfl⟩
      ·rw [show ((ln.toNat:Nat):Int)=ln by omega];exact hln
      ·rw [show ((hn.toNat:Nat):Int)=hn by omega];exact hh'
     ·simp [Br,Ap,As,one] at hm
      subst hm
      exact h4 k (by simp [Ap,As])
    rw [Aa] at h
    obtain ⟨hiA,e5,l5,_,h5',h,rfl⟩:=h
    rcases o2 with ⟨rfl,rfl⟩ | ⟨hx,hy,hn,hk,rfl,rfl,hhn,hhx⟩
    ·unfold Ax4 at h5'
     rw [Bb] at h5'
     obtain ⟨rfl,rfl,rfl⟩:=h5'
     obtain ⟨vs,y,r1,r2,r3⟩:=LH.Bo hl.left hg
     obtain ⟨u,s1,rfl⟩:=Akr r1
     have q1':c.ev ρ=some (.list ivs):=q1
     rw [q1'] at s1;injection s1 with s1;subst s1
     simp only [Prim.ev,Option.some.injEq] at r2;subst r2
     exact fin (e5:= {es with n:=es.n+1}) ⟨es.n+1,rfl⟩ r3 (fun _=> .inl ⟨rfl,by simp⟩) h hl.right
    ·unfold Ax4 at h5'
     rw [Ac] at h5'
     obtain ⟨rfl,rfl,rfl⟩:=h5'
     exact fin ⟨es.n,rfl⟩ hhn (fun h0=> .inr ⟨hk,by rw [Option.map_some,hhx];congr 2;omega⟩) h hl.right
   | frz e' tt c=>
    rw [Aa] at h
    obtain ⟨_,_,_,_,h0,h,rfl⟩:=h
    rw [Ae] at h0
    obtain ⟨g2,rfl,rfl⟩:=h0
    have:e=e':=by simpa using g2
    subst this
    obtain ⟨g5,z,d1,d2⟩:=G.obj k0 _ ho
    obtain ⟨xs,A,cap,rfl,hx,hrow⟩:=d2.Ca g5
    exact cut ht g1 (.refl G) d1 hx hrow hv h hl.right
  | «at» _ _=>exact other h3 h hl
  | nil _=>exact other h3 h hl
  | sub _ _ _ _=>exact other h3 h hl
  | ptr _=>exact other h3 h hl
  | fn _ _=>exact other h3 h hl
  | mref _ _=>exact other h3 h hl
  | hid _=>exact other h3 h hl
  | cl _ _=>exact other h3 h hl
  | junk=>exact other h3 h hl
 | _=>simp [Ad] at h
end
end Go.CT
namespace Go.CT
open EM
def Cu (μ:Nat→Value) (k:Nat) (v:Value):Nat→Value:=fun k'=>if k'=k then v else μ k'
section
variable {P:Program} {N:Nat} {X:Nat→Prop} {R:Job→List IV→Option (List IV)} {ρ:List IV} {K:Nat→Prop} {S:View} {tm:Nat→SV} {ob ob':Nat→Option Ob} {μ:Nat→Value} {a:Act} {w w':World} {es es':ES} {ls:List PLt} {sx:SX}
theorem Good.Kg (G:Good P N X ρ K tm ob μ a w) {k:Nat} {o:Ob} {b:Nat} (h:ob k=some o) (ho:o.Dn=true) (hb:blk (μ k)=some b):b<w.heap.size:=by
 have:=G.obj k o h
 cases o with
 | box t vv=>
  obtain ⟨b',v,h1,h2,_⟩:=this
  have h1':μ k= .pointer (some ⟨b',0,none⟩):=h1
  rw [h1'] at hb;simp [blk] at hb;subst hb
  exact (Array.getElem?_eq_some_iff.1 h2).1
 | arr e t c=>
  obtain ⟨ivs,cs,h1,h2,h3,⟨_,h4⟩,_⟩:=this
  rcases h4 with ⟨h4,_⟩ | ⟨g,cap,cu,e1,_,e3,_⟩
  ·have h4':μ k= .slice none 0 0:=h4
   rw [h4'] at hb;simp [blk] at hb
  ·have e1':μ k= .slice (some ⟨g,0,none⟩) ivs.length cap:=e1
   rw [e1'] at hb;simp [blk] at hb;subst hb
   exact (Array.getElem?_eq_some_iff.1 e3).1
 | frz=>simp [Ob.Dn] at ho
 | iter s p=>
  obtain ⟨b',n,bs,h1,h2,_⟩:=this
  have h1':μ k= .pointer (some ⟨b',0,none⟩):=h1
  rw [h1'] at hb;simp [blk] at hb;subst hb
  exact (Array.getElem?_eq_some_iff.1 h2).1
 | mp t kt vt c=>
  obtain ⟨r,cl,es,ivs,h1,h2,_⟩:=this
  have h1':μ k= .map (some r):=h1
  rw [h1'] at hb;simp [blk] at hb;subst hb
  exact (Array.getElem?_eq_some_iff.1 h2).1
structure Put (P:Program) (X:Nat→Prop) (ρ:List IV) (K:Nat→Prop) (ob ob':Nat→Option Ob) (μ:Nat→Value) (w w':World) (k:Nat) (o:Ob) (hdr:Value):Prop where
 other: ∀k' o',k'≠k→ob' k'=some o'→ob k'=some o'
 here:ob' k=some o
 same: ∀k',K k'→Cu μ k hdr k'=μ k'
 step:Gb (Wr ob μ) w w'
 rest: ∀k' o' b,k'≠k→ob' k'=some o'→o'.Dn=true→blk (μ k')=some b→w'.heap[b]?=w.heap[b]?
 new: ∀b,blk hdr=some b→(Wr ob μ b∧ ∀k' o',k'≠k→ob' k'=some o'→o'.Dn=true→blk (μ k')≠some b)∨w.heap.size≤b
 keys: ∀k'∈Ee o,K k'∨k'=k
theorem Cf {k k':Nat} {v:Value} (h:k'≠k):Cu μ k v k'=μ k':=by simp [Cu,h]
theorem A4 {k:Nat} {v:Value} :Cu μ k v k=v:=by simp [Cu]
theorem Put.later {k:Nat} {o:Ob} {hdr:Value} (p:Put P X ρ K ob ob' μ w w' k o hdr):C0 K (A6 P X ρ ob μ w) (A6 P X ρ ob' (Cu μ k hdr) w'):=by
 have hW: ∀b,b<w.heap.size→Wr ob' (Cu μ k hdr) b→Wr ob μ b:=by
  rintro b hb ⟨k',o',h1,h2,h3⟩
  by_cases hk:k'=k
  ·subst hk
   rw [A4] at h3
   rcases p.new b h3 with h | h
   ·exact h.1
   ·omega
  ·rw [Cf hk] at h3
   exact ⟨k',o',p.other k' o' hk h1,h2,h3⟩
 exact {P:=rfl,ρ:=fun _ _ h=>h,μ:=p.same,stays:=p.step.stays,O:=fun b hb h=>h.elim .inl fun h=> .inr (hW b hb h),W:=hW,WO:=fun b hb=> .inr hb}
theorem Put.Bu {k:Nat} {o:Ob} {hdr:Value} (G:Good P N X ρ K tm ob μ a w) (p:Put P X ρ K ob ob' μ w w' k o hdr) (hok:Y0 (A6 P X ρ ob' (Cu μ k hdr) w') k o) {K':Nat→Prop} (hK: ∀k',K k'∨k'=k→K' k'):
  Good P N X ρ K' tm ob' (Cu μ k hdr) a w':=by
 have L:=p.later
 have hlt: ∀ {k' o' b},k'≠k→ob' k'=some o'→o'.Dn=true→blk (Cu μ k hdr k')=some b→b<w.heap.size∧blk (μ k')=some b:=by
  intro k' o' b hk h1 h2 h3
  rw [Cf hk] at h3
  exact ⟨G.Kg (p.other k' o' hk h1) h2 h3,h3⟩
 have hnew: ∀ {k' o' b},k'≠k→ob' k'=some o'→o'.Dn=true→blk (Cu μ k hdr k')=some b→blk hdr=some b→False:=by
  intro k' o' b hk h1 h2 h3 h4
  have:=hlt hk h1 h2 h3
  rcases p.new b h4 with h | h
  ·exact h.2 k' o' hk h1 h2 this.2
  ·omega
 refine ⟨G.size,G.defers,fun s=>L.Ajn (G.kt s) (G.slot s),fun k' o' ho=>?_,?_,?_,fun b hb=>Nat.lt_of_lt_of_le (G.xlt b hb) p.step.size,fun s k' h=>hK k' (.inl (G.kt s k' h)),fun k' o' ho=>?_⟩
 ·by_cases hk:k'=k
  ·subst hk
   have:=p.here
   rw [this] at ho;injection ho with ho;subst ho
   exact hok
  ·have ho':=p.other k' o' hk ho
   exact L.Aa7 (G.ko k' o' ho').1 (G.ko k' o' ho').2 (fun hi b hb _=>p.rest k' o' b hk ho hi hb) (G.obj k' o' ho')
 ·intro k1 k2 o1 o2 b h1 h2 h3 h4 h5 h6
  by_cases hk1:k1=k
  ·by_cases hk2:k2=k
   ·rw [hk1,hk2]
   ·subst hk1
    rw [A4] at h5
    exact (hnew hk2 h2 h4 h6 h5).elim
  ·by_cases hk2:k2=k
   ·subst hk2
    rw [A4] at h6
    exact (hnew hk1 h1 h3 h5 h6).elim
   ·exact G.sep k1 k2 o1 o2 b (p.other k1 o1 hk1 h1) (p.other k2 o2 hk2 h2) h3 h4 (hlt hk1 h1 h3 h5).2 (hlt hk2 h2 h4 h6).2
 ·intro k' o' b h1 h2 h3
  by_cases hk:k'=k
  ·subst hk
   rw [A4] at h3
   rcases p.new b h3 with ⟨⟨k2,o2,q1,q2,q3⟩,_⟩ | h
   ·exact G.xsep k2 o2 b q1 q2 q3
   ·intro hx
    have:=G.xlt b hx
    omega
  ·exact G.xsep k' o' b (p.other k' o' hk h1) h2 (hlt hk h1 h2 h3).2
 ·by_cases hk:k'=k
  ·subst hk
   rw [p.here] at ho;injection ho with ho;subst ho
   exact ⟨hK _ (.inr rfl),fun k' h=>hK k' (p.keys k' h)⟩
  ·have:=G.ko k' o' (p.other k' o' hk ho)
   exact ⟨hK k' (.inl this.1),fun k2 h=>hK k2 (.inl (this.2 k2 h))⟩
theorem Put.own {k:Nat} {o:Ob} {hdr:Value} (_G:Good P N X ρ K tm ob μ a w) (p:Put P X ρ K ob ob' μ w w' k o hdr): ∀b,Wr ob' (Cu μ k hdr) b→Wr ob μ b∨w.heap.size≤b:=by
 rintro b ⟨k',o',h1,h2,h3⟩
 by_cases hk:k'=k
 ·subst hk
  rw [A4] at h3
  exact (p.new b h3).imp (·.1) id
 ·rw [Cf hk] at h3
  exact .inl ⟨k',o',p.other k' o' hk h1,h2,h3⟩
theorem D4 (W:Nat→Prop) (w:World) (o:Obj):Gb W w (w.alloc o):=
 ⟨rfl,rfl,rfl,by simp,fun b hb _=>Go.RowKit.Below.heap_alloc w o b hb⟩
theorem Y4 {t : TypeId} {vv : VV} {v : Value} {e1 : ES} (p : Ph P N X ρ K S μ a w es e1) (hfresh : ∀ k, es.m ≤ k → k < e1.m + 1 → ¬ K k)
    (hv : Ki (A6 P X ρ (cur S e1.obs) μ w) vv v) (hk : ∀ k ∈ Ap vv, K k) (hs : v.cells.size = Af P t) (hag : if Ag P t then ∃ cs, v = .agg cs else v.oneCell' = true) (h1 : ∀ u ∈ v.cells, u.oneCell' = true) :
    Out P N X ρ K S μ a w es { e1 with m := e1.m + 1, obs := (e1.m, some (.box t vv)) :: e1.obs } (one (.leaf (.ptr (.p e1.m 0)))) (Cu μ e1.m (.pointer (some ⟨w.heap.size, 0, none⟩))) (w.alloc (.cells v.cells t)) (.pointer (some ⟨w.heap.size, 0, none⟩)) := by
  have hm : ¬ K e1.m := hfresh e1.m (by rw [p.m]; exact Nat.le_refl _) (Nat.lt_succ_self _)
  have hP : Put P X ρ K (cur S e1.obs) (A9 (cur S e1.obs) e1.m (some (.box t vv))) μ w (w.alloc (.cells v.cells t)) e1.m (.box t vv) (.pointer (some ⟨w.heap.size, 0, none⟩)) :=
    { other := fun k' o' h ho => by simpa [A9, h] using ho
      here := by simp [A9]
      same := fun k' h => Cf (fun e => hm (e ▸ h))
      step := D4 _ _ _
      rest := fun k' o' b h ho hi hb => Go.RowKit.Below.heap_alloc _ _ _ (p.Bu.Kg (by simpa [A9, h] using ho) hi hb)
      new := fun b hb => .inr (by simp [blk] at hb; omega)
      keys := fun k' h => .inl (hk k' h) }
  have hok : Y0 (A6 P X ρ (A9 (cur S e1.obs) e1.m (some (.box t vv))) (Cu μ e1.m (.pointer (some ⟨w.heap.size, 0, none⟩))) (w.alloc (.cells v.cells t))) e1.m (.box t vv) :=
    ⟨w.heap.size, v, A4, heap_alloc_new w _, hs, hag, h1, hP.later.Ahm hk hv⟩
  have hK : ∀ k', K k' ∨ k' = e1.m → Al K es.m (e1.m + 1) k' := by
    rintro k' (h | rfl)
    · exact .inl h
    · exact .inr ⟨by rw [p.m]; exact Nat.le_refl _, Nat.lt_succ_self _⟩
  refine ⟨?_, ?_, ?_, ?_, ?_, hP.same⟩
  · rw [show ({ e1 with m := e1.m + 1, obs := (e1.m, some (.box t vv)) :: e1.obs } : ES).obs = (e1.m, some (.box t vv)) :: e1.obs from rfl, A7]
    exact hP.Bu p.Bu hok hK
  · exact ⟨w.heap.size, A4, by rw [Au]⟩
  · intro k h
    simp [Br, Ap, As, Cv, one] at h
    subst h
    exact hK _ (.inr rfl)
  · exact D4 _ _ _
  · intro b hb
    rw [show ({ e1 with m := e1.m + 1, obs := (e1.m, some (.box t vv)) :: e1.obs } : ES).obs = (e1.m, some (.box t vv)) :: e1.obs from rfl, A7] at hb
    exact (hP.own p.Bu b hb).imp p.Dc.wr id
theorem V7 {o : Ob} {obj : Obj} {hdr : Value} {e1 : ES} {nn : Nat} {sx : SX} (p : Ph P N X ρ K S μ a w es e1) (hfresh : ∀ k, es.m ≤ k → k < e1.m + 1 → ¬ K k) (hb : blk hdr = some w.heap.size) (hk : ∀ k ∈ Ee o, K k ∨ k = e1.m)
    (hok : C0 K (A6 P X ρ (cur S e1.obs) μ w) (A6 P X ρ (A9 (cur S e1.obs) e1.m (some o)) (Cu μ e1.m hdr) (w.alloc obj)) → Y0 (A6 P X ρ (A9 (cur S e1.obs) e1.m (some o)) (Cu μ e1.m hdr) (w.alloc obj)) e1.m o)
    (hx : Acn (A6 P X ρ (A9 (cur S e1.obs) e1.m (some o)) (Cu μ e1.m hdr) (w.alloc obj)) sx hdr) (hs : ∀ k ∈ Br sx, k = e1.m) :
    Out P N X ρ K S μ a w es { e1 with n := nn, m := e1.m + 1, obs := (e1.m, some o) :: e1.obs } sx (Cu μ e1.m hdr) (w.alloc obj) hdr := by
  have hm : ¬ K e1.m := hfresh e1.m (by rw [p.m]; exact Nat.le_refl _) (Nat.lt_succ_self _)
  have hP : Put P X ρ K (cur S e1.obs) (A9 (cur S e1.obs) e1.m (some o)) μ w (w.alloc obj) e1.m o hdr :=
    { other := fun k' o' h ho => by simpa [A9, h] using ho
      here := by simp [A9]
      same := fun k' h => Cf (fun e => hm (e ▸ h))
      step := D4 _ _ _
      rest := fun k' o' b h ho hi hb => Go.RowKit.Below.heap_alloc _ _ _ (p.Bu.Kg (by simpa [A9, h] using ho) hi hb)
      new := fun b hb' => .inr (by rw [hb] at hb'; injection hb' with hb'; omega)
      keys := hk }
  have hK : ∀ k', K k' ∨ k' = e1.m → Al K es.m (e1.m + 1) k' := by
    rintro k' (h | rfl)
    · exact .inl h
    · exact .inr ⟨by rw [p.m]; exact Nat.le_refl _, Nat.lt_succ_self _⟩
  refine ⟨?_, ?_, ?_, ?_, ?_, hP.same⟩
  · show Good P N X ρ (Al K es.m (e1.m + 1)) S.tm (cur S ((e1.m, some o) :: e1.obs)) _ a _
    rw [A7]
    exact hP.Bu p.Bu (hok hP.later) hK
  · show Acn (A6 P X ρ (cur S ((e1.m, some o) :: e1.obs)) _ _) _ _
    rw [A7]; exact hx
  · intro k h
    exact hK _ (.inr (hs k h))
  · exact D4 _ _ _
  · intro b hb
    have hb : Wr (cur S ((e1.m, some o) :: e1.obs)) _ b := hb
    rw [A7] at hb
    exact (hP.own p.Bu b hb).imp p.Dc.wr id
theorem Ve {e t : TypeId} {x : Arg} {ivs : List IV} {cs : Array Value} {n cap : Nat} {e1 : ES} (p : Ph P N X ρ K S μ a w es e1) (hfresh : ∀ k, es.m ≤ k → k < e1.m + 1 → ¬ K k)
    (hx : x.ev ρ = some (.list ivs)) (ht : P.underlying t = some (.slice e)) (hsz : 0 < Af P e) (hn : ivs.length = n) (hcap : n ≤ cap) (hmax : cap ≤ maxLen) (hcs : cs.size = cap * Af P e)
    (hel : Ik P w (A6 P X ρ (cur S e1.obs) μ w).O e ivs (cs.toList.take (n * Af P e))) (h1 : ∀ u ∈ cs.toList.take (n * Af P e), u.oneCell' = true) {rt : TypeId} {nn : Nat} :
    Out P N X ρ K S μ a w es { e1 with n := nn, m := e1.m + 1, obs := (e1.m, some (.arr e t x)) :: e1.obs } (one (.leaf (.ref e1.m rt))) (Cu μ e1.m (.slice (some ⟨w.heap.size, 0, none⟩) n cap)) (w.alloc (.cells cs e)) (.slice (some ⟨w.heap.size, 0, none⟩) n cap) := by
  have hm : ¬ K e1.m := hfresh e1.m (by rw [p.m]; exact Nat.le_refl _) (Nat.lt_succ_self _)
  have hP : Put P X ρ K (cur S e1.obs) (A9 (cur S e1.obs) e1.m (some (.arr e t x))) μ w (w.alloc (.cells cs e)) e1.m (.arr e t x) (.slice (some ⟨w.heap.size, 0, none⟩) n cap) :=
    { other := fun k' o' h ho => by simpa [A9, h] using ho
      here := by simp [A9]
      same := fun k' h => Cf (fun e => hm (e ▸ h))
      step := D4 _ _ _
      rest := fun k' o' b h ho hi hb => Go.RowKit.Below.heap_alloc _ _ _ (p.Bu.Kg (by simpa [A9, h] using ho) hi hb)
      new := fun b hb => .inr (by simp [blk] at hb; omega)
      keys := fun k' h => by simp [Ee] at h }
  have hok : Y0 (A6 P X ρ (A9 (cur S e1.obs) e1.m (some (.arr e t x))) (Cu μ e1.m (.slice (some ⟨w.heap.size, 0, none⟩) n cap)) (w.alloc (.cells cs e))) e1.m (.arr e t x) := by
    refine ⟨ivs, cs.toList.take (n * Af P e), hx, ht, hsz, ?_, hP.later.elems hel, h1⟩
    show World.ownsRow _ 0 e (Af P e) (Cu μ e1.m _ e1.m) ivs.length _
    rw [A4, hn]
    refine ⟨?_, .inr ⟨w.heap.size, cap, cs, rfl, Nat.zero_le _, heap_alloc_new w _, hcap, hmax, hcs, rfl⟩⟩
    rw [List.length_take, Array.length_toList, hcs]
    have := Nat.mul_le_mul_right (Af P e) hcap
    omega
  have hK : ∀ k', K k' ∨ k' = e1.m → Al K es.m (e1.m + 1) k' := by
    rintro k' (h | rfl)
    · exact .inl h
    · exact .inr ⟨by rw [p.m]; exact Nat.le_refl _, Nat.lt_succ_self _⟩
  refine ⟨?_, ?_, ?_, ?_, ?_, hP.same⟩
  · show Good P N X ρ (Al K es.m (e1.m + 1)) S.tm (cur S ((e1.m, some (.arr e t x)) :: e1.obs)) _ a _
    rw [A7]
    exact hP.Bu p.Bu hok hK
  · exact ⟨A4.symm, _, _, _, rfl⟩
  · intro k h
    simp [Br, Ap, As, one] at h
    subst h
    exact hK _ (.inr rfl)
  · exact D4 _ _ _
  · intro b hb
    have hb : Wr (cur S ((e1.m, some (.arr e t x)) :: e1.obs)) _ b := hb
    rw [A7] at hb
    exact (hP.own p.Bu b hb).imp p.Dc.wr id
theorem Aap {e t:TypeId} {x:Arg} {ivs:List IV} {cs:Array Value} {n cap:Nat} {e1:ES} (p:Ph P N X ρ K S μ a w es e1) (hfresh: ∀k,es.m≤k→k<e1.m+1→ ¬ K k)
  (hx:x.ev ρ=some (.list ivs)) (ht:P.underlying t=some (.slice e)) (hsz:0<Af P e) (hn:ivs.length=n) (hcap:n≤cap) (hmax:cap≤maxLen) (hcs:cs.size=cap * Af P e)
  (hel:Ik P w (A6 P X ρ (cur S e1.obs) μ w).O e ivs (cs.toList.take (n * Af P e))) (h1: ∀u∈cs,u.oneCell'=true) {rt:TypeId} {nn:Nat} :
  Out P N X ρ K S μ a w es {e1 with n:=nn,m:=e1.m+1,obs:=(e1.m,some (.arr e t x))::e1.obs} (one (.leaf (.ref e1.m rt))) (Cu μ e1.m (.slice (some ⟨w.heap.size,0,none⟩) n cap)) (w.alloc (.cells cs e)) (.slice (some ⟨w.heap.size,0,none⟩) n cap):=
 Ve p hfresh hx ht hsz hn hcap hmax hcs hel fun u hu=>h1 u (by simpa using List.mem_of_mem_take hu)
end
end Go.CT
namespace Go.CT
open EM
theorem Wh (off:Nat): ∀ (vs:List Value) (k:Nat) (cells:Array Value),off+k+vs.length≤cells.size→
  ((vs.zipIdx k).foldl (fun (cs:Array Value) (p:Value × Nat)=>cs.setIfInBounds (off+p.2) p.1) cells).toList =cells.toList.take (off+k)++vs++cells.toList.drop (off+k+vs.length)
 | [],k,cells,_=>by simp
 | v::vs,k,cells,h=>by
  simp only [List.length_cons] at h
  rw [List.zipIdx_cons,List.foldl_cons,Wh off vs (k+1) _ (by simpa using (by omega:off+(k+1)+vs.length≤cells.size))]
  have hlt:off+k<cells.toList.length:=by simp;omega
  apply List.ext_getElem?
  intro j
  simp only [Array.toList_setIfInBounds]
  simp only [List.getElem?_append,List.length_take,List.length_set,List.length_append,List.length_cons,List.getElem?_drop,List.getElem?_set,List.getElem?_take,List.getElem?_cons]
  have e1:min (off+(k+1)) cells.toList.length=off+(k+1):=by omega
  have e2:min (off+k) cells.toList.length=off+k:=by omega
  rw [e1,e2]
  by_cases h1:j<off+k
  ·have a1:j<off+(k+1):=by omega
   have a2: ¬ (off+k=j):=by omega
   simp [h1,a1,a2,show j<off+(k+1)+vs.length by omega,show j<off+k+(vs.length+1) by omega]
  ·by_cases h2:j=off+k
   ·subst h2
    simp [show off+k<off+(k+1) by omega,show off+k<off+(k+1)+vs.length by omega]
    omega
   ·by_cases h3:j<off+k+(vs.length+1)
    ·have a1: ¬ j<off+(k+1):=by omega
     have a3: ¬ (j - (off+k)=0):=by omega
     simp only [a1,if_false,h3,if_true,h1,show j<off+(k+1)+vs.length by omega,a3]
     congr 1<;>omega
    ·have a1: ¬ j<off+(k+1)+vs.length:=by omega
     simp only [a1,if_false,h3]
     have: ¬ (off+k=off+(k+1)+vs.length+(j - (off+(k+1)+vs.length))):=by omega
     simp only [this,if_false]
     congr 1;omega
def A8 (vs:List Value):List Value:=vs.flatMap fun v=>v.cells.toList
theorem Dx {vs:List Value} {sz:Nat} (h: ∀v∈vs,v.cells.size=sz):(A8 vs).length =vs.length * sz:=by
 induction vs with
 | nil=>simp [A8]
 | cons v vs ih=>
  have:=ih fun u hu=>h u (List.mem_cons_of_mem _ hu)
  have h0:=h v List.mem_cons_self
  simp only [A8,List.flatMap_cons,List.length_append,List.length_cons] at this ⊢
  rw [this,Array.length_toList,h0,Nat.add_mul,Nat.one_mul,Nat.add_comm]
theorem N2 {sz:Nat} : ∀ {vs:List Value},(∀v∈vs,v.cells.size=sz)→ ∀ (j:Nat) (v:Value),vs[j]?=some v→((A8 vs).drop (j * sz)).take sz=v.cells.toList
 | [],_,j,v,hj=>by simp at hj
 | u::vs,h,j,v,hj=>by
  have h0:=h u List.mem_cons_self
  have hl:u.cells.toList.length=sz:=by rw [Array.length_toList,h0]
  cases j with
  | zero=>
   simp at hj;subst hj
   simp only [A8,List.flatMap_cons,Nat.zero_mul,List.drop_zero]
   rw [List.take_append_of_le_length (by omega),←hl,List.take_length]
  | succ j=>
   have:=N2 (fun w hw=>h w (List.mem_cons_of_mem _ hw)) j v (by simpa using hj)
   rw [←this]
   simp only [A8,List.flatMap_cons]
   rw [Nat.succ_mul,Nat.add_comm,←List.drop_drop,List.drop_append_of_le_length (by omega),←hl,List.drop_length,List.nil_append]
theorem Ek (us vs:List Value):A8 (us++vs)=A8 us++A8 vs:=by simp [A8]
theorem Ex {vs:List Value} (h: ∀v∈vs,∀u∈v.cells,u.oneCell'=true): ∀u∈A8 vs,u.oneCell'=true:=by
 intro u hu
 simp only [A8,List.mem_flatMap] at hu
 obtain ⟨v,hv,hu⟩:=hu
 exact h v hv u (by simpa using hu)
def E0 (P:Program) (w:World) (O:Nat→Prop) (e:TypeId):List IV→List Value→Prop
 | [],[]=>True
 | x::xs,v::vs=>(Rel P w O e x v∧v.cells.size=Af P e)∧E0 P w O e xs vs
 | _,_=>False
section
variable {P:Program} {w:World} {O:Nat→Prop} {e:TypeId}
theorem E0.len: ∀ {xs:List IV} {vs:List Value},E0 P w O e xs vs→xs.length=vs.length
 | [],[],_=>rfl
 | _::_,_::_,h=>by simp [E0.len h.2]
 | [],_::_,h=>h.elim
 | _::_,[],h=>h.elim
theorem E0.size: ∀ {xs:List IV} {vs:List Value},E0 P w O e xs vs→ ∀v∈vs,v.cells.size=Af P e∧ ∀u∈v.cells,u.oneCell'=true
 | [],[],_=>by simp
 | _::_,_::_,h=>by
  intro v hv
  rcases List.mem_cons.1 hv with rfl | hv
  ·exact ⟨h.1.2,h.1.1.Nu⟩
  ·exact E0.size h.2 v hv
 | [],_::_,h=>h.elim
 | _::_,[],h=>h.elim
theorem E0.get: ∀ {xs:List IV} {vs:List Value},E0 P w O e xs vs→ ∀ (j:Nat) (x:IV),xs[j]?=some x→ ∃v,vs[j]?=some v∧Rel P w O e x v
 | [],[],_=>by simp
 | _::_,_::_,h=>by
  intro j x hx
  cases j with
  | zero=>simp at hx;subst hx;exact ⟨_,rfl,h.1.1⟩
  | succ j=>
   obtain ⟨v,h1,h2⟩:=E0.get h.2 j x (by simpa using hx)
   exact ⟨v,by simpa using h1,h2⟩
 | [],_::_,h=>h.elim
 | _::_,[],h=>h.elim
theorem E0.append: ∀ {xs:List IV} {vs:List Value} {ys:List IV} {us:List Value},E0 P w O e xs vs→E0 P w O e ys us→E0 P w O e (xs++ys) (vs++us)
 | [],[],_,_,_,h=>h
 | _::_,_::_,_,_,h,h'=>⟨h.1,E0.append h.2 h'⟩
 | [],_::_,_,_,h,_=>h.elim
 | _::_,[],_,_,h,_=>h.elim
theorem E0.Ja: ∀ {xs:List IV} {vs:List Value},xs.length=vs.length→(∀ (j:Nat) (x:IV) (v:Value),xs[j]?=some x→vs[j]?=some v→Rel P w O e x v∧v.cells.size=Af P e)→E0 P w O e xs vs
 | [],[],_,_=>trivial
 | _::_,_::_,h,hr=>⟨hr 0 _ _ rfl rfl,E0.Ja (by simpa using h) fun j x v a b=>hr (j+1) x v (by simpa using a) (by simpa using b)⟩
 | [],_::_,h,_=>by simp at h
 | _::_,[],h,_=>by simp at h
theorem E0.elems {xs:List IV} {vs:List Value} (h:E0 P w O e xs vs):Ik P w O e xs (A8 vs):=by
 intro j x hx
 obtain ⟨v,h1,h2⟩:=h.get j x hx
 have hs:=h.size v (List.mem_of_getElem? h1)
 exact ⟨v,h2,(N2 (fun u hu=>(h.size u hu).1) j v h1).symm,hs.1⟩
theorem Ik.Amt {xs:List IV} {cs:List Value} (h:Ik P w O e xs cs) (hl:cs.length=xs.length * Af P e): ∃vs,E0 P w O e xs vs∧cs=A8 vs:=by
 induction xs generalizing cs with
 | nil=>
  have:cs= []:=List.length_eq_zero_iff.1 (by simpa using hl)
  subst this
  exact ⟨[],trivial,rfl⟩
 | cons x xs ih=>
  obtain ⟨v,h1,h2,h3⟩:=h 0 x rfl
  simp only [Nat.zero_mul,List.drop_zero] at h2
  have htail:Ik P w O e xs (cs.drop (Af P e)):=by
   intro j y hy
   obtain ⟨u,q1,q2,q3⟩:=h (j+1) y (by simpa using hy)
   exact ⟨u,q1,by rw [q2,List.drop_drop,Nat.add_mul,Nat.one_mul,Nat.add_comm],q3⟩
  obtain ⟨vs,q1,q2⟩:=ih htail (by rw [List.length_drop,hl,List.length_cons,Nat.add_mul];omega)
  refine ⟨v::vs,⟨⟨h1,h3⟩,q1⟩,?_⟩
  show cs=v.cells.toList++A8 vs
  rw [h2,←q2,List.take_append_drop]
theorem Aci.Amt {xs:List IV} {A:Option Addr} {c:Nat} (h:Aci P w O e xs A c): ∃vs,E0 P w O e xs vs∧(0<xs.length→ ∃ad,A=some ad∧ ∀ (j:Nat) (u:Value),(A8 vs)[j]?=some u→w.cell? (ad.add j)=some u):=by
 obtain ⟨h1,h2,vs,h3,h4⟩:=h
 by_cases h0:0<xs.length
 ·obtain ⟨hs,ad,rfl,hc⟩:=h3 h0
  have hE:E0 P w O e xs ((List.range xs.length).map vs):=E0.Ja (by simp) fun j x v hx hv=>by
   have hj:=(List.getElem?_eq_some_iff.1 hx).1
   simp [hj] at hv
   subst hv
   exact ⟨h4 j x hx,(hc j hj).1⟩
  refine ⟨_,hE,fun _=>⟨ad,rfl,fun q u hu=>?_⟩⟩
  have hlen:=Dx (fun v hv=>(hE.size v hv).1)
  have hq:=(List.getElem?_eq_some_iff.1 hu).1
  rw [hlen,List.length_map,List.length_range] at hq
  have hj:q / Af P e<xs.length:=(Nat.div_lt_iff_lt_mul hs).2 hq
  have hr:q % Af P e<Af P e:=Nat.mod_lt _ hs
  have hat:=N2 (fun v hv=>(hE.size v hv).1) (q / Af P e) (vs (q / Af P e)) (by simp [hj])
  have hdm:q / Af P e * Af P e+q % Af P e=q:=by rw [Nat.mul_comm];exact Nat.div_add_mod q (Af P e)
  have hu':(vs (q / Af P e)).cells.toList[q % Af P e]?=some u:=by
   rw [←hat,List.getElem?_take,if_pos hr,List.getElem?_drop,hdm]
   exact hu
  have:=(hc _ hj).2 (q % Af P e) u (by simpa using hu')
  rwa [C4,hdm] at this
 ·have:xs= []:=List.length_eq_zero_iff.1 (by omega)
  subst this
  exact ⟨[],trivial,fun h=>absurd h h0⟩
theorem Ago {base size n cap h:Nat} {A:Option Addr} {xs:List Value} (ho:w.ownsRow base e size (.slice A n cap) n xs) (hh:h≤n):w.ownsRow base e size (.slice A h cap) h (xs.take (h * size)):=by
 obtain ⟨h1,h2⟩:=ho
 refine ⟨by rw [List.length_take,h1];have:=Nat.mul_le_mul_right size hh;omega,?_⟩
 rcases h2 with ⟨h2,h3⟩ | ⟨g,cap',cur,e1,e2,e3,e4,e5,e6,e7⟩
 ·injection h2 with a b c
  subst a;subst c
  have:h=0:=by omega
  subst this
  exact .inl ⟨rfl,rfl⟩
 ·injection e1 with a b c
  subst a;subst c
  refine .inr ⟨g,cap,cur,rfl,e2,e3,by omega,e5,e6,?_⟩
  rw [←e7,List.take_take]
  congr 1
  have:=Nat.mul_le_mul_right size hh
  omega
theorem Sb (base:Nat) {t ty:TypeId} {i:TypeInfo} {size:Nat} (ht:P.underlying t=some (.slice e)) (hi:P.info? e=some i)
  (v:Value) (n c:Nat) (xs:List Value) (hown:w.ownsRow base e size v n xs):(Builtin.append_ #[t,t] ty #[v,.slice none 0 c]).run P w= .ok v w:=by
 rcases hown.2 with ⟨rfl,rfl⟩ | ⟨g,cap,cur,rfl,_,_,hnc,_⟩
 ·simp [Builtin.append_,underlying,ht,sizeOf,typeInfo,hi,Builtin.lenOf,Builtin.firstCells]
 ·simp [Builtin.append_,underlying,ht,sizeOf,typeInfo,hi,Builtin.lenOf,Builtin.firstCells,hnc,storeCells]
end
end Go.CT
namespace Go.CT
open EM
section
variable {P:Program} {N:Nat} {X:Nat→Prop} {R:Job→List IV→Option (List IV)} {ρ:List IV} {K:Nat→Prop} {S:View} {μ:Nat→Value} {a:Act} {w:World} {es es':ES} {ls:List PLt} {sx:SX}
theorem Ew {v:Value} (h:v.oneCell'=true):v.cells= #[v]:=by cases v<;>simp_all [Value.cells,Value.oneCell']
theorem Rel.sized {O:Nat→Prop} {t:TypeId} {x:IV} {v:Value} (h:Rel P w O t x v) (hs:K8 P t=true):v.cells.size=Af P t:=by
 unfold K8 at hs
 cases hl:leaves P t with
 | none=>simp [hl] at hs
 | some ts=>
  simp only [hl,Bool.and_eq_true,beq_iff_eq,Bool.or_eq_true] at hs
  by_cases ha:Ag P t=true
  ·obtain ⟨ts',xs,cs,h1,_,rfl,h3⟩:=h.W1 ha
   rw [hl] at h1;injection h1 with h1;subst h1
   have:=h3.len.2
   simp only [Value.cells]
   rw [Array.length_toList] at this
   omega
  ·have ha':Ag P t=false:=by simpa using ha
   rw [(h.one ha').2]
   have:=hs.2.resolve_left (by simp [ha'])
   simp [this]
theorem W8 {c:Cx} {t:TypeId} {vv:VV} {v:Value} (h:Iy c.P t vv=true) (hv:Ki c vv v):
  v.cells.size=Af c.P t∧(if Ag c.P t then ∃cs,v= .agg cs else v.oneCell'=true)∧ ∀u∈v.cells,u.oneCell'=true:=by
 cases vv with
 | agg t' cs=>
  simp only [Iy,Bool.and_eq_true,beq_iff_eq] at h
  obtain ⟨⟨rfl,ha⟩,hs⟩:=h
  obtain ⟨us,rfl,hc⟩:=hv
  refine ⟨by rw [←hs,hc.len];simp [Value.cells],by simp only [ha,if_true];exact ⟨us,rfl⟩,fun u hu=>hc.one u (by simpa [Value.cells] using hu)⟩
 | leaf l=>
  have lone:l≠ .junk →(∀x u,l≠ .at x u)→(!Ag c.P t&&Af c.P t == 1)=true→v.cells.size=Af c.P t∧(if Ag c.P t then ∃cs,v= .agg cs else v.oneCell'=true)∧ ∀u∈v.cells,u.oneCell'=true:=by
   intro hj hat hs
   simp only [Bool.and_eq_true,Bool.not_eq_true',beq_iff_eq] at hs
   obtain ⟨h1,h2⟩:=Tr.one (c:=c) hv hj (fun x u he=>absurd he (hat x u))
   rw [h2]
   exact ⟨by simp [hs.2],by simp [hs.1,h1],fun u hu=>by simp at hu;subst hu;exact h1⟩
  cases l with
  | «at» x t'=>
   simp only [Iy,Bool.and_eq_true,beq_iff_eq] at h
   obtain ⟨rfl,hs⟩:=h
   obtain ⟨iv,_,d⟩:=hv
   exact ⟨d.sized hs,d.Au3,d.Nu⟩
  | junk=>simp [Iy] at h
  | nil t'=>exact lone (by simp) (by simp) h
  | ref k t'=>exact lone (by simp) (by simp) h
  | sub k lo hi t'=>exact lone (by simp) (by simp) h
  | ptr p=>exact lone (by simp) (by simp) h
  | fn f ps=>exact lone (by simp) (by simp) h
  | mref k t=>exact lone (by simp) (by simp) h
  | hid k=>exact lone (by simp) (by simp) h
  | cl x t=>exact lone (by simp) (by simp) h
theorem Atm {t:TypeId} {x:Operand} (G:Good P N X ρ K S.tm (cur S es.obs) μ a w) (h:Ev S (do
   bare
   let v ←rd1 P x t
   EM.guard (Iy P t v)
   let k ←Ej
   D5 k (some (.box t v))
   pure (one (.leaf (.ptr (.p k 0)))):EM SX) es sx es' ls) (hg:holds ρ es.gs=some true) (hfresh: ∀k,es.m≤k→k<es'.m→ ¬ K k):
  ∃v w' μ',(Instr.box t (a.eval x)).run P w= .ok v w'∧Out P N X ρ K S μ a w es es' sx μ' w' v:=by
 rw [Aa] at h
 obtain ⟨_,_,_,_,h0,h,rfl⟩:=h
 rw [Cy] at h0
 obtain ⟨_,rfl,rfl⟩:=h0
 rw [Aa] at h
 obtain ⟨vv,e1,l1,_,h1,h,rfl⟩:=h
 obtain ⟨rfl,rfl,h3,h4⟩:=Eu G h1 hg
 simp only [Aa,Ae,Bp,A5,Ac] at h
 obtain ⟨_,_,_,_,⟨g1,rfl,rfl⟩,⟨_,_,_,_,⟨rfl,rfl,rfl⟩,⟨_,_,_,_,⟨rfl,rfl⟩,⟨rfl,rfl,rfl⟩,rfl⟩,rfl⟩,rfl⟩:=h
 obtain ⟨f1,f2,f3⟩:=W8 (c:=A6 P X ρ (cur S es.obs) μ w) g1 h3
 refine ⟨_,_,_,?_,Y4 (.refl G) hfresh h3 h4 f1 f2 f3⟩
 simp [Instr.box,newVar,newRow]
theorem Aky {t:TypeId} (G:Good P N X ρ K S.tm (cur S es.obs) μ a w) (h:Ev S (do
   bare
   let v ←ofOption (Rk P t)
   EM.guard (V5 P t v)
   let k ←Ej
   D5 k (some (.box t v))
   pure (one (.leaf (.ptr (.p k 0)))):EM SX) es sx es' ls) (hfresh: ∀k,es.m≤k→k<es'.m→ ¬ K k):
  ∃v w' μ',(Instr.alloc t true (.tuple #[])).run P w= .ok v w'∧Out P N X ρ K S μ a w es es' sx μ' w' v:=by
 simp only [Aa,Cy,Ai,Ae,Bp,A5,Ac] at h
 obtain ⟨_,_,_,_,⟨_,rfl,rfl⟩,⟨vv,_,_,_,⟨g0,rfl,rfl⟩,⟨_,_,_,_,⟨g1,rfl,rfl⟩,⟨_,_,_,_,⟨rfl,rfl,rfl⟩,⟨_,_,_,_,⟨rfl,rfl⟩,⟨rfl,rfl,rfl⟩,rfl⟩,rfl⟩,rfl⟩,rfl⟩,rfl⟩:=h
 unfold Rk at g0
 simp only [Option.bind_eq_bind] at g0
 cases hi:P.info? t with
 | none=>simp [hi] at g0
 | some i=>
  cases hz:i.zero with
  | none=>simp [hi,hz] at g0
  | some z=>
   simp only [hi,hz,Option.bind_some] at g0
   obtain ⟨c1,c2,c3,c4,c5⟩:=Lm (c:=A6 P X ρ (cur S es.obs) μ w) g0
   have hf:z.cells.size=Af P t∧(if Ag P t then ∃cs,z= .agg cs else z.oneCell'=true):=by
    by_cases hj:vv= .leaf .junk
    ·subst hj
     simp only [V5,Bool.and_eq_true,Bool.not_eq_true',beq_iff_eq] at g1
     have ho:=c3 g1.1
     rw [Ew ho]
     exact ⟨by simp [g1.2],by simp [g1.1,ho]⟩
    ·have hb:Iy P t vv=true:=by
      unfold V5 at g1
      split at g1
      ·exact absurd rfl hj
      ·exact g1
     obtain ⟨f1,f2,_⟩:=W8 (c:=A6 P X ρ (cur S es.obs) μ w) hb c1
     exact ⟨f1,f2⟩
   refine ⟨_,_,_,?_,Y4 (.refl G) hfresh c1 (fun k hk=>by rw [c2] at hk;simp at hk) hf.1 hf.2 c4⟩
   simp [Instr.alloc,zeroValue,typeInfo,hi,hz,newVar,newRow]
theorem S7 {O:Nat→Prop} {t:TypeId} {v:Value} {l:LV} {x:IV} (h:Ju P t v=some l) (hx:Hh l=some x):Rel P w O t x v:=by
 unfold Ju at h
 split at h
 ·split at h
  ·rename_i hk;injection h with h;subst h;simp [Hh] at hx;subst hx;exact .int (Cl hk)
  ·cases h
 ·split at h
  ·rename_i hk;injection h with h;subst h;simp [Hh] at hx;subst hx;exact .bool (Bx hk)
  ·cases h
 ·split at h
  ·rename_i hk;injection h with h;subst h;simp [Hh] at hx;subst hx;exact .str (Dl hk)
  ·cases h
 ·split at h
  ·rename_i hk;injection h with h;subst h;simp [Hh] at hx;subst hx
   obtain ⟨e,he⟩:=Option.isSome_iff_exists.1 hk
   exact (Row.nil e none 0).rel (Ba he)
  ·cases h
 ·injection h with h;subst h;simp [Hh] at hx
 ·injection h with h;subst h;simp [Hh] at hx
 ·injection h with h;subst h;simp [Hh] at hx
 ·injection h with h;subst h;simp [Hh] at hx
 ·cases h
theorem P3 {O:Nat→Prop} : ∀ {ts:List TypeId} {vs:List Value} {ls:List LV} {xs:List IV},Dm P ts vs=some ls→Lx ls=some xs→Gn P w O ts xs vs
 | [],[],ls,xs,h,hx=>by simp [Dm] at h;subst h;simp [Lx] at hx;subst hx;trivial
 | t::ts,v::vs,ls,xs,h,hx=>by
  simp only [Dm,Option.pure_def,Option.bind_eq_bind] at h
  cases h1:Ju P t v with
  | none=>simp [h1] at h
  | some l=>
   cases h2:Dm P ts vs with
   | none=>simp [h1,h2] at h
   | some ls'=>
    simp [h1,h2] at h;subst h
    simp only [Lx,Option.pure_def,Option.bind_eq_bind] at hx
    cases h3:Hh l with
    | none=>simp [h3] at hx
    | some x=>
     cases h4:Lx ls' with
     | none=>simp [h3,h4] at hx
     | some xs'=>
      simp [h3,h4] at hx;subst hx
      exact ⟨S7 h1 h3,P3 h2 h4⟩
 | [],_::_,_,_,h,_=>by simp [Dm] at h
 | _::_,[],_,_,h,_=>by simp [Dm] at h
theorem Pv {O:Nat→Prop} {t:TypeId} {x:IV} (h:Yr P t=some x): ∃i z,P.info? t=some i∧i.zero=some z∧Rel P w O t x z:=by
 unfold Yr Rk at h
 simp only [Option.bind_eq_bind] at h
 cases hi:P.info? t with
 | none=>simp [hi] at h
 | some i=>
  cases hz:i.zero with
  | none=>simp [hi,hz] at h
  | some z=>
   simp only [hi,hz,Option.bind_some] at h
   cases hv:Km P t z with
   | none=>simp [hv] at h
   | some vv=>
    simp only [hv,Option.bind_some] at h
    refine ⟨i,z,rfl,hz,?_⟩
    unfold Km at hv
    split at hv
    ·rename_i cs
     split at hv
     ·rename_i ha
      simp only [Option.pure_def,Option.bind_eq_bind] at hv
      cases hts:leaves P t with
      | none=>simp [hts] at hv
      | some ts=>
       cases hl:Dm P ts cs.toList with
       | none=>simp [hts,hl] at hv
       | some ls=>
        simp [hts,hl] at hv;subst hv
        simp only [Option.map_eq_some_iff] at h
        obtain ⟨xs,h,rfl⟩:=h
        exact (P3 hl h).agg ha hts
     ·cases hv
    ·split at hv
     ·cases hv
     ·simp only [Option.map_eq_some_iff] at hv
      obtain ⟨l,hv,rfl⟩:=hv
      exact S7 hv h
theorem Mr {e:TypeId} (h:Mc P e=true): ∃i z,P.info? e=some i∧i.zero=some z∧z.cells.size=Af P e∧i.size=Af P e∧i.bytes=Is P e:=by
 unfold Mc at h
 cases hi:P.info? e with
 | none=>simp [hi] at h
 | some i=>
  cases hz:i.zero with
  | none=>simp [hi,hz] at h
  | some z=>
   simp only [hi,hz,beq_iff_eq] at h
   exact ⟨i,z,rfl,hz,by simp [Af,hi,h],by simp [Af,hi],by simp [Is,hi]⟩
theorem Aa4 (z:Array Value) (sz l c:Nat) (hz:z.size=sz) (hs:0<sz) (hl:l≤c):(madeCells z (c * sz)).toList.take (l * sz)=A8 (List.replicate l (.agg z)):=by
 have hlen:(A8 (List.replicate l (Value.agg z))).length =l * sz:=by
  rw [Dx (sz:=sz) (fun v hv=>by rw [(List.mem_replicate.1 hv).2];exact hz)]
  simp
 have hle:l * sz≤c * sz:=Nat.mul_le_mul_right _ hl
 apply List.ext_getElem?
 intro q
 by_cases hq:q<l * sz
 ·rw [List.getElem?_take,if_pos hq]
  have hj:q / sz<l:=(Nat.div_lt_iff_lt_mul hs).2 hq
  have hr:q % sz<sz:=Nat.mod_lt _ hs
  have hat:=N2 (sz:=sz) (vs:=List.replicate l (Value.agg z)) (fun v hv=>by rw [(List.mem_replicate.1 hv).2];exact hz) (q / sz) (.agg z) (by simp [hj])
  have hdm:q / sz * sz+q % sz=q:=by rw [Nat.mul_comm];exact Nat.div_add_mod q sz
  have:(A8 (List.replicate l (Value.agg z)))[q]?=z.toList[q % sz]?:=by
   have h1:(Value.agg z).cells.toList =z.toList:=rfl
   rw [←h1,←hat,List.getElem?_take,if_pos hr,List.getElem?_drop,hdm]
  rw [this]
  have hq2:q<c * sz:=by omega
  have hr':q % z.size<z.size:=by rw [hz];exact hr
  simp [madeCells,hq2,hz,hr]
 ·rw [List.getElem?_eq_none (by rw [List.length_take];omega),List.getElem?_eq_none (by omega)]
theorem V8 {t:TypeId} {x y:Operand} (G:Good P N X ρ K S.tm (cur S es.obs) μ a w) (h:Ev S (Ps P t x y) es sx es' ls) (hl:LH R ρ ls) (hg:holds ρ es.gs=some true) (hfresh: ∀k,es.m≤k→k<es'.m→ ¬ K k):
  ∃v w' μ',(Instr.makeSlice t (a.eval x) (a.eval y)).run P w= .ok v w'∧Out P N X ρ K S μ a w es es' sx μ' w' v:=by
 unfold Ps at h
 rw [Aa] at h
 obtain ⟨_,_,_,_,h0,h,rfl⟩:=h
 rw [Cy] at h0
 obtain ⟨_,rfl,rfl⟩:=h0
 rw [Aa] at h
 obtain ⟨e,_,_,_,h0,h,rfl⟩:=h
 rw [Ai] at h0
 obtain ⟨he,rfl,rfl⟩:=h0
 rw [Aa] at h
 obtain ⟨_,_,_,_,h0,h,rfl⟩:=h
 rw [Ae] at h0
 obtain ⟨g1,rfl,rfl⟩:=h0
 simp only [Bool.and_eq_true,decide_eq_true_eq] at g1
 obtain ⟨⟨g1,g2⟩,g3⟩:=g1
 rw [Aa] at h
 obtain ⟨lA,e2,l2,_,h2,h,rfl⟩:=h
 obtain ⟨rfl,rfl,l,kl,hlv,hlx⟩:=Oq G h2 hg
 rw [Aa] at h
 obtain ⟨cA,e3,l3,_,h3,h,rfl⟩:=h
 obtain ⟨rfl,rfl,c,kc,hcv,hcx⟩:=Oq G h3 hg
 simp only [Aa,Ai,Bb,Bp,A5,Ac] at h
 obtain ⟨zi,_,_,_,⟨hz,rfl,rfl⟩,⟨_,_,_,_,⟨rfl,rfl,rfl⟩,⟨_,_,_,_,⟨rfl,rfl,rfl⟩,⟨_,_,_,_,⟨rfl,rfl⟩,⟨rfl,rfl,rfl⟩,rfl⟩,rfl⟩,rfl⟩,rfl⟩:=h
 obtain ⟨vs,iv,r1,r2,r3⟩:=LH.Bo hl.right.right.right.right.right.right.left hg
 obtain ⟨u,v,s1,s2,rfl⟩:=Aa9 r1
 rw [hlv] at s1;rw [hcv] at s2
 injection s1 with s1;injection s2 with s2;subst s1;subst s2
 simp only [Prim.ev] at r2
 split at r2
 ·rename_i hc
  injection r2 with r2;subst r2
  obtain ⟨i,z,q1,q2,q3,q4,q5⟩:=Mr g3
  obtain ⟨i',z',q1',q2',hrel⟩:=Pv (w:=w) (O:=fun b=>X b∨Wr (cur S es.obs) μ b) hz
  rw [q1] at q1';injection q1' with q1';subst q1'
  rw [q2] at q2';injection q2' with q2';subst q2'
  have ht:=Ba he
  have hb:(Is P e:Int) * c≤140737488355328:=by
   have:Ax=140737488355328:=rfl
   have h3:=hc.2.2
   rw [this] at h3
   rw [Int.mul_comm];exact h3
  have hcb:c≤140737488355328:=by
   have h1:(1:Int)≤Is P e:=by omega
   have:(1:Int) * c≤Is P e * c:=Int.mul_le_mul_of_nonneg_right h1 (by omega)
   omega
  have hrun:=run_make (P:=P) w t e i z ht q1 q2 kl kc l c hc.1 hc.2.1 (by rw [q5];omega) (by omega)
  rw [hlx,hcx]
  refine ⟨_,_,Cu μ es.m (.slice (some ⟨w.heap.size,0,none⟩) l.toNat c.toNat),hrun,?_⟩
  rw [q4]
  have hrep:E0 P w (fun b=>X b∨Wr (cur S es.obs) μ b) e (List.replicate l.toNat zi) (List.replicate l.toNat z):=
   E0.Ja (by simp) fun j x v hx hv=>by
    simp [List.getElem?_replicate] at hx hv
    obtain ⟨_,rfl⟩:=hx
    obtain ⟨_,rfl⟩:=hv
    exact ⟨hrel,q3⟩
  refine Aap (es:=es) (e1:= {es with n:=es.n+1}) (ivs:=List.replicate l.toNat zi) (n:=l.toNat) (cap:=c.toNat) (cs:=madeCells z.cells (c.toNat * Af P e)) (.same G rfl rfl rfl) hfresh r3 ht g1 (by simp) (by omega) ?_ (size_madeCells _ _) ?_ ?_
  ·have:maxLen=9223372036854775807:=by decide
   omega
  ·rw [Aa4 z.cells (Af P e) l.toNat c.toNat q3 g1 (by omega)]
   have hh:A8 (List.replicate l.toNat (Value.agg z.cells))=A8 (List.replicate l.toNat z):=by
    simp only [A8,List.flatMap_replicate]
    rfl
   rw [hh]
   exact hrep.elems
  ·intro u hu
   obtain ⟨j,hj,rfl⟩:=Array.mem_iff_getElem.1 hu
   have hjs:j<c.toNat * Af P e:=by simpa [size_madeCells] using hj
   have hr:j % z.cells.size<z.cells.size:=Nat.mod_lt _ (by rw [q3];exact g1)
   have:(madeCells z.cells (c.toNat * Af P e))[j]=z.cells[j % z.cells.size]'hr:=by
    simp [madeCells,hr]
   rw [this]
   exact hrel.Nu _ (Array.getElem_mem hr)
 ·cases r2
end
end Go.CT
namespace Go.CT
open EM
def Ac0:Nat→List Value→List (Nat × Value)
 | _,[]=> []
 | j,v::vs=>(j,v)::Ac0 (j+1) vs
theorem S9 {sz:Nat} : ∀ (vs:List Value) (j:Nat) (cells:Array Value),(∀v∈vs,v.cells.size=sz)→(j+vs.length) * sz≤cells.size→
  ∃cells',Instr.fill (fun i=>some (i * sz,sz)) cells (Ac0 j vs)=some cells'∧cells'.toList=cells.toList.take (j * sz)++A8 vs++cells.toList.drop ((j+vs.length) * sz)
 | [],j,cells,_,_=>⟨cells,rfl,by simp [A8]⟩
 | v::vs,j,cells,hs,hl=>by
  have h0:=hs v List.mem_cons_self
  have hj:j * sz+sz≤cells.size:=by
   have:(j+1) * sz≤(j+(vs.length+1)) * sz:=Nat.mul_le_mul_right _ (by omega)
   simp only [List.length_cons] at hl
   rw [Nat.add_mul,Nat.one_mul] at this
   omega
  have hfs:=Wh (j * sz) v.cells.toList 0 cells (by simp [h0];omega)
  let cells1:=(v.cells.toList.zipIdx 0).foldl (fun (cs:Array Value) (p:Value × Nat)=>cs.setIfInBounds (j * sz+p.2) p.1) cells
  have hc1:cells1.toList=cells.toList.take (j * sz)++v.cells.toList++cells.toList.drop (j * sz+sz):=by
   have:=hfs
   simp only [Nat.add_zero,Array.length_toList,h0] at this
   exact this
  have hsz1:cells1.size=cells.size:=by
   have:=congrArg List.length hc1
   simp only [Array.length_toList,List.length_append,List.length_take,List.length_drop,h0] at this
   omega
  obtain ⟨cells',q1,q2⟩:=S9 vs (j+1) cells1 (fun u hu=>hs u (List.mem_cons_of_mem _ hu)) (by rw [hsz1];simp only [List.length_cons] at hl;rw [Nat.add_assoc,Nat.add_comm 1];exact hl)
  refine ⟨cells',?_,?_⟩
  ·simp only [Ac0,Instr.fill]
   have hcond:(decide (v.cells.size≠sz)||decide (j * sz+v.cells.size > cells.size))=false:=by simp [h0];omega
   rw [hcond]
   simp only [Bool.false_eq_true,if_false]
   have:v.cells.zipIdx.foldl (fun cs x=>match x with | (c,j_1)=>cs.setIfInBounds (j * sz+j_1) c) cells=cells1:=by
    show _=(v.cells.toList.zipIdx 0).foldl _ cells
    rw [←Array.foldl_toList]
    simp
   rw [this]
   exact q1
  ·rw [q2,hc1]
   have e1:(j+1) * sz=j * sz+sz:=by rw [Nat.add_mul,Nat.one_mul]
   have e2:(j+1+vs.length) * sz=j * sz+sz+vs.length * sz:=by rw [Nat.add_mul,e1]
   have e3:(j+(v::vs).length) * sz=j * sz+sz+vs.length * sz:=by rw [List.length_cons,←e2];congr 1;omega
   have l1:(cells.toList.take (j * sz)).length =j * sz:=by rw [List.length_take,Array.length_toList];omega
   have l2:v.cells.toList.length=sz:=by rw [Array.length_toList,h0]
   rw [e1,e2,e3]
   have t1:(cells.toList.take (j * sz)++v.cells.toList++cells.toList.drop (j * sz+sz)).take (j * sz+sz)=cells.toList.take (j * sz)++v.cells.toList:=by
    rw [List.take_append_of_le_length (by rw [List.length_append];omega),List.take_of_length_le (by rw [List.length_append];omega)]
   have t2:(cells.toList.take (j * sz)++v.cells.toList++cells.toList.drop (j * sz+sz)).drop (j * sz+sz+vs.length * sz)=cells.toList.drop (j * sz+sz+vs.length * sz):=by
    have hll:(cells.toList.take (j * sz)++v.cells.toList).length =j * sz+sz:=by rw [List.length_append];omega
    rw [←List.drop_drop,List.drop_left' hll,List.drop_drop]
   rw [t1,t2]
   simp [A8]
section
variable {P:Program} {N:Nat} {X:Nat→Prop} {R:Job→List IV→Option (List IV)} {ρ:List IV} {K:Nat→Prop} {S:View} {μ:Nat→Value} {a:Act} {w:World} {es es':ES} {ls:List PLt} {sx:SX}
theorem E0.later {c c':Cx} (L:C0 K c c') {e:TypeId} : ∀ {xs:List IV} {vs:List Value},E0 c.P c.w c.O e xs vs→E0 c'.P c'.w c'.O e xs vs
 | [],[],_=>trivial
 | _::_,_::_,h=>⟨⟨L.rel h.1.1,by rw [L.P];exact h.1.2⟩,E0.later L h.2⟩
 | [],_::_,h=>h.elim
 | _::_,[],h=>h.elim
theorem Kv {e:TypeId} (hse:K8 P e=true): ∀ {parts:List (Nat × Operand)} {j:Nat} {es es':ES} {as:List Arg} {ls:List PLt},Good P N X ρ K S.tm (cur S es.obs) μ a w→Ev S (I5 P e parts j) es as es' ls→LH R ρ ls→holds ρ es.gs=some true→
  Ph P N X ρ K S μ a w es es'∧ ∃xs,Arg.evs ρ as=some xs∧E0 P w (A6 P X ρ (cur S es'.obs) μ w).O e xs (parts.map fun p=>a.eval p.2)∧parts.map (fun p=>(p.1,a.eval p.2))=Ac0 j (parts.map fun p=>a.eval p.2)
 | [],j,es,es',as,ls,G,h,hl,hg=>by
  unfold I5 at h
  rw [Ac] at h
  obtain ⟨rfl,rfl,rfl⟩:=h
  exact ⟨.refl G,[],rfl,trivial,rfl⟩
 | (i,x)::ps,j,es,es',as,ls,G,h,hl,hg=>by
  unfold I5 at h
  rw [Aa] at h
  obtain ⟨_,_,_,_,h0,h,rfl⟩:=h
  rw [Ae] at h0
  obtain ⟨g0,rfl,rfl⟩:=h0
  have:i=j:=by simpa using g0
  subst this
  rw [Aa] at h
  obtain ⟨vv,e1,l1,_,h1,h,rfl⟩:=h
  obtain ⟨rfl,rfl,h3,h4⟩:=Eu G h1 hg
  rw [Aa] at h
  obtain ⟨y,e2,l2,_,h2,h,rfl⟩:=h
  have hl:=hl.right.right
  obtain ⟨p,_,hD⟩:=Dw G h2 hl.left hg h4 h3
  simp only [Aa,Ac] at h
  obtain ⟨r,e3,l3,_,h5,⟨rfl,rfl,rfl⟩,rfl⟩:=h
  obtain ⟨q,xs,q1,q2,q3⟩:=Kv hse p.Bu h5 hl.right.left (by rw [p.gs];exact hg)
  obtain ⟨z,d1,d2⟩:=q.later.Awr (hD rfl)
  exact ⟨p.trans q,z::xs,Ed d1 q1,⟨⟨d2,d2.sized hse⟩,q2⟩,by simp only [List.map_cons,Ac0,q3]⟩
theorem Tt {t:TypeId} {len:Nat} {parts:Array (Nat × Operand)} (G:Good P N X ρ K S.tm (cur S es.obs) μ a w) (h:Ev S (M6 P t len parts) es sx es' ls) (hl:LH R ρ ls) (hg:holds ρ es.gs=some true) (hfresh: ∀k,es.m≤k→k<es'.m→ ¬ K k):
  ∃v w' μ',(Instr.buildSlice t len (parts.map fun (i,x)=>(i,a.eval x))).run P w= .ok v w'∧Out P N X ρ K S μ a w es es' sx μ' w' v:=by
 unfold M6 at h
 rw [Aa] at h
 obtain ⟨_,_,_,_,h0,h,rfl⟩:=h
 rw [Cy] at h0
 obtain ⟨_,rfl,rfl⟩:=h0
 rw [Aa] at h
 obtain ⟨e,_,_,_,h0,h,rfl⟩:=h
 rw [Ai] at h0
 obtain ⟨he,rfl,rfl⟩:=h0
 rw [Aa] at h
 obtain ⟨_,_,_,_,h0,h,rfl⟩:=h
 rw [Ae] at h0
 obtain ⟨g1,rfl,rfl⟩:=h0
 simp only [Bool.and_eq_true,decide_eq_true_eq,beq_iff_eq] at g1
 obtain ⟨⟨⟨⟨g1,g2⟩,g3⟩,g4⟩,g5⟩:=g1
 rw [Aa] at h
 obtain ⟨as,e1,l1,_,h1,h,rfl⟩:=h
 have hl:=hl.right.right.right
 obtain ⟨p,xs,q1,q2,q3⟩:=Kv g5 G h1 hl.left hg
 simp only [Aa,Bb,Bp,A5,Ac] at h
 obtain ⟨_,_,_,_,⟨rfl,rfl,rfl⟩,⟨_,_,_,_,⟨rfl,rfl,rfl⟩,⟨_,_,_,_,⟨rfl,rfl⟩,⟨rfl,rfl,rfl⟩,rfl⟩,rfl⟩,rfl⟩:=h
 obtain ⟨vs,iv,r1,r2,r3⟩:=LH.Bo hl.right.left (by rw [p.gs];exact hg)
 rw [q1] at r1;injection r1 with r1;subst r1
 simp only [Prim.ev,Option.some.injEq] at r2;subst r2
 obtain ⟨i,z,z1,z2,z3,z4,z5⟩:=Mr g4
 have ht:=Ba he
 have hlen:(parts.toList.map fun p=>a.eval p.2).length =len:=by simp [g3]
 have hxs:=q2.len
 rw [hlen] at hxs
 let vs0:=parts.toList.map fun p=>a.eval p.2
 have hz0:(if len * Af P e=0 then (#[]:Array Value) else z.cells)=if len * Af P e=0 then #[] else z.cells:=rfl
 let cells0:Array Value:=(Array.range (len * Af P e)).map ((if len * Af P e=0 then (#[]:Array Value) else z.cells)[· % (if len * Af P e=0 then (#[]:Array Value) else z.cells).size]!)
 have hc0:cells0.size=len * Af P e:=by simp [cells0]
 obtain ⟨cells',f1,f2⟩:=S9 (sz:=Af P e) vs0 0 cells0 (fun v hv=>(q2.size v hv).1) (by rw [hc0,Nat.zero_add];exact Nat.mul_le_mul_right _ (by simp [vs0,g3]))
 have hvl:vs0.length=len:=hlen
 have f2':cells'.toList=A8 vs0:=by
  rw [f2,Nat.zero_mul,List.take_zero,List.nil_append,Nat.zero_add,hvl,List.drop_of_length_le (by rw [Array.length_toList,hc0];exact Nat.le_refl _),List.append_nil]
 have hcs:cells'.size=len * Af P e:=by
  rw [←Array.length_toList,f2',Dx (sz:=Af P e) (fun v hv=>(q2.size v hv).1),hvl]
 refine ⟨.slice (some ⟨w.heap.size,0,none⟩) len len,w.alloc (.cells cells' e),Cu μ e1.m (.slice (some ⟨w.heap.size,0,none⟩) len len),?_,?_⟩
 ·have hparts:(parts.map fun (x:Nat × Operand)=>match x with | (i,x)=>(i,a.eval x)).toList =Ac0 0 vs0:=by
   rw [Array.toList_map]
   have:(fun (x:Nat × Operand)=>match x with | (i,x)=>(i,a.eval x))=fun p=>(p.1,a.eval p.2):=by funext ⟨i,x⟩;rfl
   rw [this];exact q3
  unfold Instr.buildSlice
  have hn: ¬ (len * Af P e > 2 ^ 24):=by omega
  by_cases hzz:len * Af P e=0
  ·simp only [underlying,Sem.run_bind,run_program,Result.andThen_ok,ht,Sem.run_pure,run_sizeOf z1,if_neg hn,if_pos hzz,hparts]
   have f1':=f1
   simp only [cells0,if_pos hzz] at f1'
   rw [f1']
   simp [newRow]
  ·simp only [underlying,Sem.run_bind,run_program,Result.andThen_ok,ht,Sem.run_pure,run_sizeOf z1,if_neg hn,if_neg hzz,hparts,zeroValue,typeInfo,z1,z2]
   have f1':=f1
   simp only [cells0,if_neg hzz] at f1'
   rw [f1']
   simp [newRow]
 ·refine Aap (es:=es) (e1:= {e1 with n:=e1.n+1}) (ivs:=xs) (n:=len) (cap:=len) (cs:=cells') ⟨p.Bu,p.Dc,p.m,p.gs⟩ hfresh r3 ht g2 hxs (Nat.le_refl _) ?_ hcs ?_ ?_
  ·have:maxLen=9223372036854775807:=by decide
   have:=Nat.le_mul_of_pos_right len g2
   omega
  ·rw [List.take_of_length_le (by rw [Array.length_toList,hcs];exact Nat.le_refl _),f2']
   exact q2.elems
  ·intro u hu
   have:u∈cells'.toList:=by simpa using hu
   rw [f2'] at this
   exact Ex (fun v hv=>(q2.size v hv).2) u this
theorem Nt (A:Option Addr) (n c:Nat):blk (.slice A n c)=(Value.slice A n c).ownBlock :=by cases A<;>rfl
theorem Nh {e:TypeId} {sv:VV} {old:Option Nat} {c:Arg} {v:Value} (G:Good P N X ρ K S.tm (cur S es.obs) μ a w) (h:Ev S (Ou P e sv) es (old,c) es' ls) (hl:LH R ρ ls) (hg:holds ρ es.gs=some true)
  (hv:Ki (A6 P X ρ (cur S es.obs) μ w) sv v) (hs:0<Af P e):
  (∃n,es'= {es with n})∧ ∃ivs cs,c.ev ρ=some (.list ivs)∧w.ownsRow 0 e (Af P e) v ivs.length cs∧Ik P w (A6 P X ρ (cur S es.obs) μ w).O e ivs cs∧
   (old=none→v= .slice none 0 0)∧ ∀k,old=some k→(∃t c0,cur S es.obs k=some (.arr e t c0))∧v.ownBlock=blk (μ k):=by
 unfold Ou at h
 split at h
 ·rw [Ac] at h
  obtain ⟨h1,rfl,rfl⟩:=h
  injection h1 with h1 h2;subst h1;subst h2
  have hv:v= .slice none 0 0:=hv
  subst hv
  exact ⟨⟨es.n,rfl⟩,[],[],rfl,World.ownsRow_nil _ _ _ _,fun j x hx=>by simp at hx,fun _=>rfl,fun k hk=>by cases hk⟩
 ·rename_i k t
  obtain ⟨hv,_⟩:=hv
  have hv:v=μ k:=hv
  subst hv
  rw [Aa] at h
  obtain ⟨o,_,_,l2,h0,h,rfl⟩:=h
  rw [Be] at h0
  obtain ⟨ho,rfl,rfl⟩:=h0
  cases o with
  | box=>simp [Ad] at h
  | frz=>simp [Ad] at h
  | iter=>simp [Ad] at h
  | mp=>simp [Ad] at h
  | arr e' tt c0=>
   simp only [Aa,Ae,Ac] at h
   obtain ⟨_,_,_,_,⟨g1,rfl,rfl⟩,⟨h1,rfl,rfl⟩,rfl⟩:=h
   have:e=e':=by simpa using g1
   subst this
   injection h1 with h1 h2;subst h1;subst h2
   obtain ⟨ivs,cs,q1,q2,q3,q4,q5,q6⟩:=G.obj k _ ho
   refine ⟨⟨es.n,rfl⟩,ivs,cs,q1,q4,q5,(fun h=>by cases h),fun k' hk=>?_⟩
   injection hk with hk;subst hk
   refine ⟨⟨_,_,ho⟩,?_⟩
   obtain ⟨_,_,_,_,q2',_⟩:=G.Amr ho
   rw [q2',Nt]
 ·rename_i k hi t
  obtain ⟨A,n,cap,l,r,e0,p0,p1,p2,p3,p4,p5,p6⟩:=hv
  have p2':(Arg.k (.int 0)).ev ρ=some (.int l):=p2
  simp only [Arg.ev,Option.some.injEq,IV.int.injEq] at p2'
  have hl0:l=0:=by omega
  subst hl0
  rw [Aa] at h
  obtain ⟨o,_,_,l2,h0,h,rfl⟩:=h
  rw [Be] at h0
  obtain ⟨ho,rfl,rfl⟩:=h0
  cases o with
  | box=>simp [Ad] at h
  | frz=>simp [Ad] at h
  | iter=>simp [Ad] at h
  | mp=>simp [Ad] at h
  | arr e' tt c0=>
   simp only [Aa,Ae,Bb,Ac] at h
   obtain ⟨_,_,_,_,⟨g1,rfl,rfl⟩,⟨_,_,_,_,⟨rfl,rfl,rfl⟩,⟨h1,rfl,rfl⟩,rfl⟩,rfl⟩:=h
   simp only [Bool.and_eq_true,beq_iff_eq] at g1
   obtain ⟨rfl,g2⟩:=g1
   have hee:e0=e:=by
    have:=Ba g2
    have p0':P.underlying t=some (.slice e0):=p0
    rw [this] at p0';injection p0' with p0';injection p0' with p0';exact p0'.symm
   subst hee
   injection h1 with h1 h2;subst h1;subst h2
   obtain ⟨ivs,cs,q1,q2,q3,q4,q5,q6⟩:=G.obj k _ ho
   obtain ⟨_,A',cap',q1'',q2'',_⟩:=G.Amr ho
   have q1s:c0.ev ρ=some (.list ivs):=q1
   rw [q1s] at q1'';injection q1'' with q1'';injection q1'' with q1'';subst q1''
   have p1':μ k= .slice A n cap:=p1
   rw [q2''] at p1';injection p1' with i1 i2 i3
   subst i1;subst i2;subst i3
   obtain ⟨vs,y,r1,r2,r3⟩:=LH.Bo hl.right.right.left hg
   obtain ⟨rfl,_,p5'⟩:=Nx (l:=0) (_n:=0) q1 (by rfl) p3 r1 r2
   have hv:v= .slice A' r cap':=by
    rw [p6]
    simp only [Nat.zero_mul,Nat.sub_zero]
    split
    ·rfl
    ·congr 1
     cases A' with
     | none=>rfl
     | some ad=>simp [Au]
   subst hv
   rw [List.drop_zero] at r3
   have q4':w.ownsRow 0 e0 (Af P e0) (.slice A' ivs.length cap') ivs.length cs:=by
    have:w.ownsRow 0 e0 (Af P e0) (μ k) ivs.length cs:=q4
    rwa [q2''] at this
   have hr:(ivs.take r).length =r:=by rw [List.length_take];omega
   refine ⟨⟨es.n+1,rfl⟩,ivs.take r,cs.take (r * Af P e0),r3,by rw [hr];exact Ago q4' p5',?_,(fun h=>by cases h),fun k' hk=>?_⟩
   ·intro j x hx
    have hj:=(List.getElem?_eq_some_iff.1 hx).1
    rw [hr] at hj
    rw [List.getElem?_take,if_pos hj] at hx
    obtain ⟨u,t1,t2,t3⟩:=q5 j x hx
    refine ⟨u,t1,?_,t3⟩
    rw [t2,List.drop_take,List.take_take]
    congr 1
    have:j * Af P e0+Af P e0≤r * Af P e0:=by rw [←Nat.succ_mul];exact Nat.mul_le_mul_right _ hj
    show Af P e0=min (Af P e0) _
    omega
   ·injection hk with hk;subst hk
    exact ⟨⟨_,_,ho⟩,by rw [q2'',Nt];cases A'<;>rfl⟩
 ·simp [Ad] at h
end
end Go.CT
namespace Go.CT
open EM
section
variable {P:Program} {N:Nat} {X:Nat→Prop} {R:Job→List IV→Option (List IV)} {ρ:List IV} {K:Nat→Prop} {S:View} {μ:Nat→Value} {a:Act} {w:World} {es es':ES} {ls:List PLt} {sx:SX}
theorem Agf {st xt rt : TypeId} {s x : Operand} (G : Good P N X ρ K S.tm (cur S es.obs) μ a w) (h : Ev S (Ac4 P st xt s x rt) es sx es' ls) (hl : LH R ρ ls) (hg : holds ρ es.gs = some true) (hfresh : ∀ k, es.m ≤ k → k < es'.m → ¬ K k) :
    ∃ v w' μ', (Builtin.append_ #[st, xt] rt #[a.eval s, a.eval x]).run P w = .ok v w' ∧ Out P N X ρ K S μ a w es es' sx μ' w' v := by
  unfold Ac4 at h
  rw [Aa] at h
  obtain ⟨_, _, _, _, h0, h, rfl⟩ := h
  rw [Cy] at h0
  obtain ⟨_, rfl, rfl⟩ := h0
  rw [Aa] at h
  obtain ⟨e, _, _, _, h0, h, rfl⟩ := h
  rw [Ai] at h0
  obtain ⟨he, rfl, rfl⟩ := h0
  rw [Aa] at h
  obtain ⟨_, _, _, _, h0, h, rfl⟩ := h
  rw [Ae] at h0
  obtain ⟨g1, rfl, rfl⟩ := h0
  simp only [Bool.and_eq_true, decide_eq_true_eq, beq_iff_eq] at g1
  obtain ⟨⟨⟨g1, g2⟩, rfl⟩, g4⟩ := g1
  rw [Aa] at h
  obtain ⟨sv, e1, l1, _, h1, h, rfl⟩ := h
  obtain ⟨rfl, rfl, sv3, sv4⟩ := Eu G h1 hg
  rw [Aa] at h
  obtain ⟨xv, e1, l1, _, h1, h, rfl⟩ := h
  obtain ⟨rfl, rfl, xv3, xv4⟩ := Eu G h1 hg
  have hl := hl.right.right.right.right.right
  rw [Aa] at h
  obtain ⟨y, e2, l2, _, h2, h, rfl⟩ := h
  obtain ⟨p, hB, _⟩ := Dw G h2 hl.left hg xv4 xv3
  have hg2 : holds ρ e2.gs = some true := by rw [p.gs]; exact hg
  rw [Aa] at h
  obtain ⟨⟨old, c⟩, e3, l3, _, h3, h, rfl⟩ := h
  obtain ⟨⟨n3, rfl⟩, ivs, cs, q1, q2, q3, q4, q5⟩ := Nh p.Bu h3 hl.right.left hg2 (p.later.Ahm sv4 sv3) g1
  simp only [Aa, Bb, Bp, A5, Ac] at h
  obtain ⟨_, _, _, _, ⟨rfl, rfl, rfl⟩, ⟨_, e4, l4, _, h4, ⟨_, _, _, _, ⟨rfl, rfl, rfl⟩, ⟨_, _, _, _, ⟨rfl, rfl⟩, ⟨rfl, rfl, rfl⟩, rfl⟩, rfl⟩, rfl⟩, rfl⟩ := h
  obtain ⟨vs, iv, r1, r2, r3⟩ := LH.Bo hl.right.right.left hg2
  obtain ⟨u, v, s1, s2, rfl⟩ := Aa9 r1
  rw [q1] at s1; injection s1 with s1; subst s1
  have ht := Ba he
  obtain ⟨yiv, b1, b2, b3⟩ := hB
  obtain ⟨ys, A, cap, rfl, hx, hrow⟩ := b3 e ht
  have b1' : y.ev ρ = some (.list ys) := b1
  rw [b1'] at s2; injection s2 with s2; subst s2
  simp only [Prim.ev] at r2
  split at r2
  · rename_i hbytes
    injection r2 with r2; subst r2
    obtain ⟨i, z, z1, z2, z3, z4, z5⟩ := Mr g4
    have hmb : Ax = 140737488355328 := rfl
    have hmax : maxLen = 9223372036854775807 := by decide
    have hsum : ivs.length + ys.length ≤ maxLen := by
      have := Nat.le_mul_of_pos_right (ivs.length + ys.length) g2
      omega
    obtain ⟨us, e1', hcells⟩ := hrow.Amt
    have hul := e1'.len
    -- what the machine does
    have run : ∃ v' w', (Builtin.append_ #[st, st] rt #[a.eval s, a.eval x]).run P w = .ok v' w' ∧ w'.ownsRow 0 e (Af P e) v' (ivs.length + ys.length) (cs ++ A8 us) ∧ w.grownBy w' (a.eval s).ownBlock ∧
        (v'.ownBlock = (a.eval s).ownBlock ∨ v'.ownBlock = some w.heap.size) := by
      rw [hx]
      by_cases h0 : 0 < ys.length
      · obtain ⟨ad, rfl, hat⟩ := hcells h0
        obtain ⟨v', w', t1, t2, t3, _, t4⟩ := run_append_own_at (P := P) w 0 st rt e i z (Af P e) (Is P e) ht z1 z2 z4 z5 z3 g1 (a.eval s) ivs.length cs q2 ad ys.length cap (A8 us)
          (by have := Dx (sz := Af P e) (vs := us) (fun v hv => (e1'.size v hv).1); rw [this, ← hul]) hat (Ex fun v hv => (e1'.size v hv).2) hsum (by omega) (Nat.zero_le _)
        exact ⟨v', w', t1, t2, t3, t4⟩
      · have hy : ys = [] := List.length_eq_zero_iff.1 (by omega)
        subst hy
        have hu : us = [] := List.length_eq_zero_iff.1 (by rw [← hul]; rfl)
        subst hu
        cases A with
        | none =>
          refine ⟨a.eval s, w, Sb 0 ht z1 _ _ cap _ q2, ?_, ⟨rfl, rfl, rfl, Nat.le_refl _, fun _ _ _ => rfl⟩, .inl rfl⟩
          simpa [A8] using q2
        | some ad =>
          obtain ⟨v', w', t1, t2, t3, _, t4⟩ := run_append_own_at (P := P) w 0 st rt e i z (Af P e) (Is P e) ht z1 z2 z4 z5 z3 g1 (a.eval s) ivs.length cs q2 ad 0 cap []
            (by simp) (fun j u h => by simp at h) (fun u h => by simp at h) hsum (by rw [← hmb]; exact hbytes) (Nat.zero_le _)
          exact ⟨v', w', t1, by simpa [A8] using t2, t3, t4⟩
    obtain ⟨v', w', t1, t2, t3, t4⟩ := run
    -- what has become of the state
    obtain ⟨A', n', cap', hv'⟩ : ∃ A n c, v' = .slice A n c := by
      rcases t2.2 with ⟨h, _⟩ | ⟨g, cap, cu, h, _⟩
      · exact ⟨_, _, _, h⟩
      · exact ⟨_, _, _, h⟩
    have hblk' : blk v' = v'.ownBlock := by rw [hv', Nt]
    -- the old row's block is ours
    have hold : ∀ b, (a.eval s).ownBlock = some b → ∃ k t c0, old = some k ∧ cur S e2.obs k = some (.arr e t c0) ∧ blk (μ k) = some b := by
      intro b hb
      cases old with
      | none => rw [q4 rfl] at hb; simp [Value.ownBlock] at hb
      | some k =>
        obtain ⟨⟨t, c0, h1⟩, h2⟩ := q5 k rfl
        exact ⟨k, t, c0, rfl, h1, by rw [← h2]; exact hb⟩
    obtain ⟨hobs, hm4, hgs4⟩ : cur S e4.obs = (match old with | some k => A9 (cur S e2.obs) k none | none => cur S e2.obs) ∧ e4.m = e2.m ∧ e4.gs = e2.gs := by
      unfold Mp at h4
      cases old with
      | none => rw [Ac] at h4; obtain ⟨_, rfl, _⟩ := h4; exact ⟨rfl, rfl, rfl⟩
      | some k =>
        rw [A5] at h4
        obtain ⟨rfl, _⟩ := h4
        exact ⟨by rw [show ({ n := e2.n, m := e2.m, gs := e2.gs, obs := (k, none) :: e2.obs } : ES).obs = (k, none) :: e2.obs from rfl] <;> exact A7 .., rfl, rfl⟩
    have hm : ¬ K e4.m := hfresh e4.m (by rw [hm4, p.m]; exact Nat.le_refl _) (Nat.lt_succ_self _)
    have hsub : ∀ k o, cur S e4.obs k = some o → cur S e2.obs k = some o ∧ old ≠ some k := by
      intro k o ho
      rw [hobs] at ho
      cases old with
      | none => exact ⟨ho, by simp⟩
      | some k0 =>
        simp only [A9] at ho
        split at ho
        · cases ho
        · rename_i hne
          exact ⟨ho, by simpa using fun h => hne h.symm⟩
    have hP : Put P X ρ K (cur S e2.obs) (A9 (cur S e4.obs) e4.m (some (.arr e st (.v n3)))) μ w w' e4.m (.arr e st (.v n3)) v' :=
      { other := fun k' o' h ho => (hsub k' o' (by simpa [A9, h] using ho)).1
        here := by simp [A9]
        same := fun k' h => Cf (fun e => hm (e ▸ h))
        step := ⟨t3.os, t3.tape, t3.output, t3.size, fun b hb hW => t3.block b hb (fun h => by
          obtain ⟨k, t, c0, _, h2, h3⟩ := hold b h.symm
          exact hW ⟨k, _, h2, rfl, h3⟩)⟩
        rest := fun k' o' b h ho hi hb => by
          obtain ⟨h1, h2⟩ := hsub k' o' (by simpa [A9, h] using ho)
          refine t3.block b (p.Bu.Kg h1 hi hb) (fun hbo => ?_)
          obtain ⟨k, t, c0, h3, h4, h5⟩ := hold b hbo.symm
          have := p.Bu.sep k' k _ _ b h1 h4 hi rfl hb h5
          subst this
          exact h2 h3
        new := fun b hb => by
          rw [hblk'] at hb
          rcases t4 with h | h
          · rw [h] at hb
            obtain ⟨k, t, c0, h3, h4, h5⟩ := hold b hb
            refine .inl ⟨⟨k, _, h4, rfl, h5⟩, fun k' o' hne ho hi hb' => ?_⟩
            obtain ⟨h1, h2⟩ := hsub k' o' (by simpa [A9, hne] using ho)
            have := p.Bu.sep k' k _ _ b h1 h4 hi rfl hb' h5
            subst this
            exact h2 h3
          · rw [h] at hb; injection hb with hb; exact .inr (by omega)
        keys := fun k' h => by simp [Ee] at h }
    obtain ⟨vs0, w1, w2⟩ := q3.Amt (by
      have := q2.1
      omega)
    have hE : E0 P w (A6 P X ρ (cur S e2.obs) μ w).O e (ivs ++ ys) (vs0 ++ us) := w1.append e1'
    have hok : Y0 (A6 P X ρ (A9 (cur S e4.obs) e4.m (some (.arr e st (.v n3)))) (Cu μ e4.m v') w') e4.m (.arr e st (.v n3)) := by
      refine ⟨ivs ++ ys, cs ++ A8 us, r3, ht, g1, ?_, hP.later.elems ?_, ?_⟩
      · show World.ownsRow _ 0 e (Af P e) (Cu μ e4.m v' e4.m) _ _
        rw [A4, List.length_append]
        exact t2
      · rw [w2, ← Ek]
        exact hE.elems
      · rw [w2, ← Ek]
        exact Ex fun v hv => (hE.size v hv).2
    have hK : ∀ k', K k' ∨ k' = e4.m → Al K es.m (e4.m + 1) k' := by
      rintro k' (h | rfl)
      · exact .inl h
      · exact .inr ⟨by rw [hm4, p.m]; exact Nat.le_refl _, Nat.lt_succ_self _⟩
    refine ⟨v', w', Cu μ e4.m v', t1, ?_, ?_, ?_, ?_, ?_, hP.same⟩
    · show Good P N X ρ (Al K es.m (e4.m + 1)) S.tm (cur S ((e4.m, some (.arr e st (.v n3))) :: e4.obs)) _ a _
      rw [A7]
      exact hP.Bu p.Bu hok hK
    · exact ⟨A4.symm, _, _, _, hv'⟩
    · intro k h
      simp [Br, Ap, As, one] at h
      subst h
      exact hK _ (.inr rfl)
    · have := hP.step
      exact ⟨this.os, this.tape, this.output, this.size, fun b hb hW => this.stays b hb fun h => hW (p.Dc.wr h)⟩
    · intro b hb
      have hb : Wr (cur S ((e4.m, some (.arr e st (.v n3))) :: e4.obs)) _ b := hb
      rw [A7] at hb
      exact (hP.own p.Bu b hb).imp p.Dc.wr id
  · cases r2
theorem C6.Adr {c:Cx} {cs new:List LV} {vs us:List Value} (h:C6 c cs vs) (h':C6 c new us) (off:Nat):
  C6 c (cs.take off++new++cs.drop (off+new.length)) (vs.take off++us++vs.drop (off+us.length)):=by
 rw [h'.len]
 exact ((h.take off).append h').append (h.drop _)
theorem Kz {place:Nat→Option (Nat × TypeId)} {place':Nat→Option (Nat × Nat)} (hp: ∀i off t,place i=some (off,t)→place' i=some (off,Af P t)):
  ∀ {parts:List (Nat × Operand)} {cs r:List LV} {cells:Array Value} {es es':ES} {ls:List PLt},Good P N X ρ K S.tm (cur S es.obs) μ a w→Ev S (Jk P place parts cs) es r es' ls→LH R ρ ls→holds ρ es.gs=some true→
  C6 (A6 P X ρ (cur S es.obs) μ w) cs cells.toList→(∀k∈cs.flatMap As,K k)→
  (∃n,es'= {es with n})∧ ∃cells',Instr.fill place' cells (parts.map fun p=>(p.1,a.eval p.2))=some cells'∧C6 (A6 P X ρ (cur S es.obs) μ w) r cells'.toList∧ ∀k∈r.flatMap As,K k
 | [],cs,r,cells,es,es',ls,G,h,hl,hg,hc,hk=>by
  unfold Jk at h
  rw [Ac] at h
  obtain ⟨rfl,rfl,rfl⟩:=h
  exact ⟨⟨es.n,rfl⟩,cells,rfl,hc,hk⟩
 | (i,x)::ps,cs,r,cells,es,es',ls,G,h,hl,hg,hc,hk=>by
  unfold Jk at h
  rw [Aa] at h
  obtain ⟨⟨off,t⟩,_,_,_,h0,h,rfl⟩:=h
  rw [Ai] at h0
  obtain ⟨g0,rfl,rfl⟩:=h0
  rw [Aa] at h
  obtain ⟨vv,e1,l1,_,h1,h,rfl⟩:=h
  obtain ⟨rfl,rfl,h3,h4⟩:=Eu G h1 hg
  have hl:=hl.right.right
  rw [Aa] at h
  obtain ⟨new,e2,l2,_,h2,h,rfl⟩:=h
  obtain ⟨⟨n2,rfl⟩,q1,q2⟩:=H0 h2 hl.left hg h4 h3
  rw [Aa] at h
  obtain ⟨_,_,_,_,h0,h,rfl⟩:=h
  rw [Ae] at h0
  obtain ⟨g1,rfl,rfl⟩:=h0
  simp only [Bool.and_eq_true,beq_iff_eq,decide_eq_true_eq] at g1
  obtain ⟨g1,g2⟩:=g1
  have hn:(a.eval x).cells.size =Af P t:=by rw [←g1,q1.len,Array.length_toList]
  have hcl:cs.length=cells.size:=by rw [hc.len,Array.length_toList]
  let cells1:=((a.eval x).cells.toList.zipIdx 0).foldl (fun (cs:Array Value) (p:Value × Nat)=>cs.setIfInBounds (off+p.2) p.1) cells
  have hfs:=Wh off (a.eval x).cells.toList 0 cells (by simp only [Array.length_toList];omega)
  simp only [Nat.add_zero] at hfs
  have hc1:C6 (A6 P X ρ (cur S es.obs) μ w) (cs.take off++new++cs.drop (off+new.length)) cells1.toList:=by
   have:cells1.toList=_:=hfs
   rw [this]
   exact hc.Adr q1 off
  have hk1: ∀k∈(cs.take off++new++cs.drop (off+new.length)).flatMap As,K k:=by
   intro k hm
   simp only [List.flatMap_append,List.mem_append] at hm
   rcases hm with (hm | hm) | hm
   ·simp only [List.mem_flatMap] at hm ⊢
    obtain ⟨l,hm,hk'⟩:=hm
    exact hk k (List.mem_flatMap.2 ⟨l,List.mem_of_mem_take hm,hk'⟩)
   ·exact q2 k hm
   ·simp only [List.mem_flatMap] at hm ⊢
    obtain ⟨l,hm,hk'⟩:=hm
    exact hk k (List.mem_flatMap.2 ⟨l,List.mem_of_mem_drop hm,hk'⟩)
  obtain ⟨⟨n3,hn3⟩,cells',r1,r2,r3⟩:=Kz hp (es:= {es with n:=n2}) G h hl.right.right hg hc1 hk1
  refine ⟨⟨n3,hn3⟩,cells',?_,r2,r3⟩
  rw [List.map_cons]
  unfold Instr.fill
  rw [hp i off t g0]
  have hcond:(decide ((a.eval x).cells.size ≠Af P t)||decide (off+(a.eval x).cells.size > cells.size))=false:=by simp [hn];omega
  simp only [hcond,Bool.false_eq_true,if_false]
  have:(a.eval x).cells.zipIdx.foldl (fun cs x=>match x with | (c,j_1)=>cs.setIfInBounds (off+j_1) c) cells=cells1:=by
   show _=((a.eval x).cells.toList.zipIdx 0).foldl _ cells
   rw [←Array.foldl_toList]
   simp
  rw [this]
  exact r1
theorem Aao: ∀ (fs:List Field),(∀f∈fs,(P.info? f.type).isSome =true)→fs.mapM (fun f=>(P.info? f.type).map fun i=>(f.offset,i.size))=some (fs.map fun f=>(f.offset,Af P f.type))
 | [],_=>rfl
 | f::fs,h=>by
  obtain ⟨i,hi⟩:=Option.isSome_iff_exists.1 (h f List.mem_cons_self)
  rw [List.mapM_cons,Aao fs fun g hg=>h g (List.mem_cons_of_mem _ hg),hi]
  simp [Af,hi]
theorem Ajf {t:TypeId} {parts:Array (Nat × Operand)} (G:Good P N X ρ K S.tm (cur S es.obs) μ a w) (h:Ev S (Ajt P t parts) es sx es' ls) (hl:LH R ρ ls) (hg:holds ρ es.gs=some true):
  ∃v,(Instr.build t (parts.map fun (i,x)=>(i,a.eval x))).run P w= .ok v w∧Out P N X ρ K S μ a w es es' sx μ w v:=by
 unfold Ajt at h
 rw [Aa] at h
 obtain ⟨zv,_,_,_,h0,h,rfl⟩:=h
 rw [Ai] at h0
 obtain ⟨g0,rfl,rfl⟩:=h0
 have hl:=hl.right
 unfold Rk at g0
 simp only [Option.bind_eq_bind] at g0
 cases hi:P.info? t with
 | none=>simp [hi] at g0
 | some i=>
 cases hz:i.zero with
 | none=>simp [hi,hz] at g0
 | some z=>
 simp only [hi,hz,Option.bind_some] at g0
 obtain ⟨c1,c2,_⟩:=Lm (c:=A6 P X ρ (cur S es.obs) μ w) g0
 have hparts:(parts.map fun (x:Nat × Operand)=>match x with | (i,x)=>(i,a.eval x)).toList =parts.toList.map fun p=>(p.1,a.eval p.2):=by
  rw [Array.toList_map]
 cases zv with
 | leaf l=>simp [Ad] at h
 | agg t' cs=>
  obtain ⟨us,hzz,hcr⟩:=c1
  have hzc:z.cells=us:=by rw [hzz];rfl
  have hk0: ∀k∈cs.flatMap As,K k:=fun k hm=>by
   have c2':cs.flatMap As= []:=c2
   rw [c2'] at hm;simp at hm
  cases hu:P.underlying t with
  | none=>simp [hu,Ad] at h
  | some d=>
  simp only [hu] at h
  cases d with
  | struct fs=>
   simp only [Aa,Ae,Ac] at h
   obtain ⟨_,_,_,_,⟨g1,rfl,rfl⟩,⟨r,e2,l2,_,h2,⟨rfl,rfl,rfl⟩,rfl⟩,rfl⟩:=h
   obtain ⟨⟨n,rfl⟩,cells',f1,f2,f3⟩:=Kz (place':=((fs.toList.map fun f=>(f.offset,Af P f.type)).toArray[·]?)) (fun i off t h=>by
    simp only [Option.map_eq_some_iff] at h
    obtain ⟨f,hf,h⟩:=h
    injection h with h1 h2;subst h1;subst h2
    simp [hf]) (cells:=us) G h2 hl.right.left hg hcr hk0
   refine ⟨.agg cells',run_build w t _ cells' ?_,Ph.out (es':= {es with n}) (.same G rfl rfl rfl) ⟨cells',rfl,f2⟩ f3⟩
   unfold Program.built
   rw [hi,hu]
   simp only [hz,Aao fs.toList (fun f hf=>List.all_eq_true.1 g1 f hf),hparts,hzc]
   exact f1
  | array n0 e=>
   simp only [Aa,Ae,Ac] at h
   obtain ⟨_,_,_,_,⟨g1,rfl,rfl⟩,⟨r,e2,l2,_,h2,⟨rfl,rfl,rfl⟩,rfl⟩,rfl⟩:=h
   obtain ⟨ie,hie⟩:=Option.isSome_iff_exists.1 g1
   obtain ⟨⟨n,rfl⟩,cells',f1,f2,f3⟩:=Kz (place':=fun i=>some (i * ie.size,ie.size)) (fun i off t h=>by
    injection h with h;injection h with h1 h2;subst h1;subst h2
    simp [Af,hie]) (cells:=us) G h2 hl.right.left hg hcr hk0
   refine ⟨.agg cells',run_build w t _ cells' ?_,Ph.out (es':= {es with n}) (.same G rfl rfl rfl) ⟨cells',rfl,f2⟩ f3⟩
   unfold Program.built
   rw [hi,hu]
   simp only [hz,hie,hparts,hzc]
   exact f1
  | _=>simp [Ad] at h
end
end Go.CT
