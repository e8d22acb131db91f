import Derived.Orders
import Derived.Below
import Derived.Laws.AppendOwn
import Derived.Laws.Cells
import Derived.Laws.StructEq
import Derived.Laws.BytesString
import Derived.Laws.Small
import Derived.Maps.AppendAt
import Derived.Laws.OwnMore
import Derived.Laws.Build
import Derived.Laws.MakeOwn
set_option linter.unusedVariables false
set_option linter.unusedSimpArgs false
namespace Go.CT
inductive IV where
 | int (n : Int)
 | bool (b : Bool)
 | str (s : ByteArray)
 | agg (xs : List IV)
 | list (xs : List IV)
 | junk
 deriving Inhabited
inductive Arg where
 | v (n : Nat)
 | k (c : IV)
 deriving Inhabited
def IV.eqLeaf : IV → IV → Option Bool
 | .int a, .int b => some (a == b)
 | .bool a, .bool b => some (a == b)
 | .str a, .str b => some (a.toList == b.toList)
 | _, _ => none
def IV.eqLeaves : List IV → List IV → Option Bool
 | [], [] => some true
 | x :: xs, y :: ys => do
  let a ← x.eqLeaf y
  let b ← eqLeaves xs ys
  pure (a && b)
 | _, _ => none
inductive Prim where
 | arith (op : BinOp) (k : IntKind)      -- + - *
 | quo (k : IntKind) | rem (k : IntKind)
 | bits (op : BinOp) (k : IntKind)       -- & | ^ &^
 | shift (op : BinOp) (k : IntKind)
 | cmp (op : BinOp)                      -- integers
 | cmpS (op : BinOp)                     -- strings, comparisons
 | cat
 | eqB (neg : Bool)
 | eqA (neg : Bool)
 | not
 | neg (k : IntKind)
 | conv (k : IntKind)
 | len | slen
 | index | sindex
 | slice | sliceLo | sslice | ssliceLo
 | append (bytes : Nat)
 | appendN (bytes : Nat)                       -- of something
 | appendS
 | mkagg | mklist
 | proj (off n : Nat) (agg : Bool)
 | setAt (off n : Nat) (agg whole : Bool)
 | max | min
 | pick
 | zeros (bytes : Nat) (zero : IV)
 | bytesOf | strOf
 | clear (zero : IV)
 | copy
 | need
 | iterOk | runeAt | iterNext
 | mget (zero : IV) | mhas | mset
 deriving Inhabited
def maxBytes : Nat := 140737488355328   -- 2^47
def scalarCmp (op : BinOp) (x y : Int) : Option Bool :=
 match op with
 | .eql => some (x == y)
 | .neq => some (x != y)
 | .lss => some (decide (x < y))
 | .leq => some (decide (x ≤ y))
 | .gtr => some (decide (x > y))
 | .geq => some (decide (x ≥ y))
 | _ => none
def stringCmp (op : BinOp) (x y : ByteArray) : Option Bool :=
 let eq := x.toList == y.toList
 let lt := Op.bytesLess x.toList y.toList
 match op with
 | .eql => some eq
 | .neq => some !eq
 | .lss => some lt
 | .leq => some (lt || eq)
 | .gtr => some !(lt || eq)
 | .geq => some !lt
 | _ => none
def setCells (cs new : List IV) (off : Nat) : List IV := cs.take off ++ new ++ cs.drop (off + new.length)
def bytesIV (s : ByteArray) : List IV := s.data.toList.map fun b => .int b.toNat
def ivByte : IV → Option UInt8
 | .int n => if 0 ≤ n ∧ n < 256 then some n.toNat.toUInt8 else none
 | _ => none
def mfind (key : IV) : List IV → Option (Option IV)
 | [] => some none
 | .agg [k, v] :: r =>
  match key.eqLeaf k with
  | some true => some (some v)
  | some false => mfind key r
  | none => none
 | _ => none
def mput (key val : IV) : List IV → Option (List IV)
 | [] => some [.agg [key, val]]
 | .agg [k, v] :: r =>
  match key.eqLeaf k with
  | some true => some (.agg [key, val] :: r)
  | some false => (mput key val r).map (.agg [k, v] :: ·)
  | none => none
 | _ => none
def Prim.ev (p : Prim) (as : List IV) : Option IV :=
 match p, as with
 | .arith .add k, [.int a, .int b] => some (.int (k.wrap (a + b)))
 | .arith .sub k, [.int a, .int b] => some (.int (k.wrap (a - b)))
 | .arith .mul k, [.int a, .int b] => some (.int (k.wrap (a * b)))
 | .quo k, [.int a, .int b] => if b = 0 then none else some (.int (k.wrap (a.tdiv b)))
 | .rem _, [.int a, .int b] => if b = 0 then none else some (.int (a.tmod b))
 | .shift .shl k, [.int a, .int b] => if b < 0 then none else some (.int (k.wrap (a * 2 ^ (Nat.min b.toNat k.bits))))
 | .shift .shr k, [.int a, .int b] => if b < 0 then none else some (.int (a.fdiv (2 ^ (Nat.min b.toNat k.bits))))
 | .cmp op, [.int a, .int b] => (scalarCmp op a b).map .bool
 | .cmpS op, [.str a, .str b] => (stringCmp op a b).map .bool
 | .cat, [.str a, .str b] => if a.size + b.size ≤ maxBytes then some (.str (a ++ b)) else none
 | .eqB ng, [.bool a, .bool b] => some (.bool (if ng then a != b else a == b))
 | .eqA ng, [.agg a, .agg b] => (IV.eqLeaves a b).map fun r => .bool (if ng then !r else r)
 | .not, [.bool a] => some (.bool !a)
 | .neg k, [.int a] => some (.int (k.wrap (0 - a)))
 | .conv k, [.int a] => some (.int (k.wrap a))
 | .len, [.list xs] => some (.int xs.length)
 | .slen, [.str s] => some (.int s.size)
 | .index, [.list xs, .int i] => if 0 ≤ i then xs[i.toNat]? else none
 | .sindex, [.str s, .int i] => if 0 ≤ i then (s[i.toNat]?).map fun b => .int b.toNat else none
 | .slice, [.list xs, .int l, .int h] => if 0 ≤ l ∧ l ≤ h ∧ h ≤ xs.length then some (.list ((xs.take h.toNat).drop l.toNat)) else none
 | .sliceLo, [.list xs, .int l] => if 0 ≤ l ∧ l ≤ xs.length then some (.list (xs.drop l.toNat)) else none
 | .sslice, [.str s, .int l, .int h] => if 0 ≤ l ∧ l ≤ h ∧ h ≤ s.size then some (.str (s.extract l.toNat h.toNat)) else none
 | .ssliceLo, [.str s, .int l] => if 0 ≤ l ∧ l ≤ s.size then some (.str (s.extract l.toNat s.size)) else none
 | .append bytes, [.list xs, .list ys] => if (xs.length + ys.length) * bytes ≤ maxBytes then some (.list (xs ++ ys)) else none
 | .appendN bytes, [.list xs, .list ys] => if 0 < ys.length ∧ (xs.length + ys.length) * bytes ≤ maxBytes then some (.list (xs ++ ys)) else none
 | .appendS, [.list xs, .str s] => if xs.length + s.size ≤ maxBytes then some (.list (xs ++ bytesIV s)) else none
 | .mkagg, xs => some (.agg xs)
 | .mklist, xs => some (.list xs)
 | .proj off n isAgg, [.agg xs] => if isAgg then some (.agg ((xs.drop off).take n)) else xs[off]?
 | .setAt off n isAgg whole, [.list xs, .int i, x] =>
  if 0 ≤ i then
   match xs[i.toNat]? with
   | none => none
   | some old =>
    if whole then some (.list (xs.set i.toNat x))
    else match old with
     | .agg cs => match isAgg, x with
      | true, .agg new => if new.length = n then some (.list (xs.set i.toNat (.agg (setCells cs new off)))) else none
      | true, _ => none
      | false, x => some (.list (xs.set i.toNat (.agg (cs.set off x))))
     | _ => none
  else none
 | .max, [.int a, .int b] => some (.int (if a < b then b else a))
 | .min, [.int a, .int b] => some (.int (if b < a then b else a))
 | .pick, [.bool c, a, b] => some (if c then a else b)
 | .zeros bytes z, [.int l, .int c] => if 0 ≤ l ∧ l ≤ c ∧ c * bytes ≤ maxBytes then some (.list (List.replicate l.toNat z)) else none
 | .clear z, [.list xs, .int l, .int h] => if 0 < xs.length ∧ 0 ≤ l ∧ l ≤ h ∧ h ≤ xs.length then some (.list (xs.take l.toNat ++ List.replicate (h.toNat - l.toNat) z ++ xs.drop h.toNat)) else none
 | .copy, [.list xs, .int l, .list ys] => if 0 ≤ l ∧ l + ys.length ≤ xs.length then some (.list (xs.take l.toNat ++ ys ++ xs.drop (l.toNat + ys.length))) else none
 | .bytesOf, [.str s] => some (.list (bytesIV s))
 | .need, [.bool b] => if b then some (.bool true) else none
 | .iterOk, [.str s, .int p] => if 0 ≤ p then some (.bool (decide (p.toNat < s.size))) else none
 | .runeAt, [.str s, .int p] => if 0 ≤ p then some (.int (if p.toNat < s.size then (Utf8.decode s p.toNat).1 else 0)) else none
 | .iterNext, [.str s, .int p] => if 0 ≤ p then some (.int (if p.toNat < s.size then p.toNat + (Utf8.decode s p.toNat).2 else p.toNat)) else none
 | .mget z, [.list es, k] => (mfind k es).map fun r => r.getD z
 | .mhas, [.list es, k] => (mfind k es).map fun r => .bool r.isSome
 | .mset, [.list es, k, v] => (mput k v es).map .list
 | .strOf, [.list xs] => (xs.mapM ivByte).map fun l => .str ⟨l.toArray⟩
 | _, _ => none
structure Job where
 spec : Nat
 blk : Nat      -- block of the spec; 0: its entry
inductive PLet where
 | prim (p : Prim) (args : List Arg)
 | call (s : Nat) (args : List Arg) (n : Nat)    -- n results
structure GLet where
 gs : List (Arg × Bool)
 l : PLet
inductive PT where
 | lets (l : GLet) (k : PT)
 | ite (c : Arg) (p q : PT)
 | jump (b : Nat) (args : List Arg)
 | ret (args : List Arg)
 deriving Inhabited
def Arg.ev (ρ : List IV) : Arg → Option IV
 | .v n => ρ[n]?
 | .k c => some c
def Arg.evs (ρ : List IV) : List Arg → Option (List IV)
 | [] => some []
 | a :: as => do
  let x ← a.ev ρ
  let xs ← Arg.evs ρ as
  pure (x :: xs)
def holds (ρ : List IV) : List (Arg × Bool) → Option Bool
 | [] => some true
 | (a, want) :: gs =>
  match a.ev ρ with
  | some (.bool b) => if b = want then holds ρ gs else some false
  | _ => none
def PLet.ev (R : Job → List IV → Option (List IV)) (ρ : List IV) : PLet → Option (List IV)
 | .prim p as => ((Arg.evs ρ as).bind p.ev).map ([·])
 | .call s as n => ((Arg.evs ρ as).bind (R ⟨s, 0⟩)).bind fun rs => if rs.length = n then some rs else none
def PLet.arity : PLet → Nat
 | .prim _ _ => 1
 | .call _ _ n => n
def GLet.ev (R : Job → List IV → Option (List IV)) (ρ : List IV) (g : GLet) : Option (List IV) :=
 (holds ρ g.gs).bind fun b => if b then g.l.ev R ρ else some (List.replicate g.l.arity .junk)
def PT.den (R : Job → List IV → Option (List IV)) (s : Nat) : PT → List IV → Option (List IV)
 | .lets l k, ρ => (l.ev R ρ).bind fun xs => k.den R s (ρ ++ xs)
 | .ite c p q, ρ =>
  match c.ev ρ with
  | some (.bool true) => p.den R s ρ
  | some (.bool false) => q.den R s ρ
  | _ => none
 | .jump b as, ρ => (Arg.evs ρ as).bind (R ⟨s, b⟩)
 | .ret as, ρ => Arg.evs ρ as
inductive PV where
 | p (key off : Nat)                          -- into a box
 | el (key : Nat) (e : TypeId) (i : Arg) (off : Nat)       -- into an element (of type e) of an own array
 | im (x : Arg) (t : TypeId) (off : Nat)      -- into memory that nobody writes any more; x: all that lies there, of type t
 deriving Inhabited
inductive LV where
 | at (x : Arg) (t : TypeId)
 | nil (t : TypeId)
 | ref (key : Nat) (t : TypeId)
 | sub (key : Nat) (lo hi : Arg) (t : TypeId)   -- a part of a row of one's own
 | ptr (p : PV)
 | fn (f : FuncId) (caps : List PV)
 | mref (key : Nat) (t : TypeId)                -- a map of one's own
 | hid (key : Nat)                              -- nil, or the pointer to the variable 'key'
 | cl (x : Arg) (t : TypeId)                    -- data: a row without room
 | st (x : Arg) (t : TypeId)                    -- data: a row that is nil where it is empty
 | junk
 deriving Inhabited
inductive VV where
 | leaf (l : LV)
 | agg (t : TypeId) (cs : List LV)
 deriving Inhabited
inductive SX where
 | one (v : VV)
 | tup (vs : List VV)
 | nx (ok i r : Arg)                            -- what a step through a text gives
 deriving Inhabited
structure SV where
 gs : List (Arg × Bool)
 x : SX
 deriving Inhabited
inductive Ob where
 | box (t : TypeId) (v : VV)
 | arr (e : TypeId) (t : TypeId) (c : Arg)     -- own
 | frz (e : TypeId) (t : TypeId) (c : Arg)     -- not written any more
 | iter (s p : Arg)                            -- a walk through a text
 | mp (t kt vt : TypeId) (c : Arg)             -- a map
 deriving Inhabited
structure PLt where
 n : Nat
 l : GLet
inductive RM (α : Type) where
 | pure (a : α)
 | tm (s : Nat) (k : SV → RM α)
 | ob (key : Nat) (k : Option Ob → RM α)
 | emit (l : PLt) (k : RM α)
 | fail
def RM.bind {α β : Type} : RM α → (α → RM β) → RM β
 | .pure a, f => f a
 | .tm s k, f => .tm s fun v => (k v).bind f
 | .ob s k, f => .ob s fun v => (k v).bind f
 | .emit l k, f => .emit l (k.bind f)
 | .fail, _ => .fail
structure View where
 tm : Nat → SV
 ob : Nat → Option Ob
def RM.run {α : Type} (S : View) : RM α → Option (α × List PLt × List Nat × List Nat)
 | .pure a => some (a, [], [], [])
 | .tm s k => ((k (S.tm s)).run S).map fun (a, e, l, r) => (a, e, s :: l, r)
 | .ob s k => ((k (S.ob s)).run S).map fun (a, e, l, r) => (a, e, l, s :: r)
 | .emit t k => (k.run S).map fun (a, e, l, r) => (a, t :: e, l, r)
 | .fail => none
structure ES where
 n : Nat                              -- the next atom
 m : Nat                              -- the next key
 gs : List (Arg × Bool)               -- under which guard
 obs : List (Nat × Option Ob)         -- the first counts
def EM (α : Type) := ES → RM (α × ES)
instance : Monad EM where
 pure a := fun s => .pure (a, s)
 bind x f := fun s => (x s).bind fun (a, s') => f a s'
def lookOb (k : Nat) : List (Nat × Option Ob) → Option (Option Ob)
 | [] => none
 | (k', o) :: r => if k' == k then some o else lookOb k r
namespace EM
def fail {α : Type} : EM α := fun _ => .fail
def getTm (s : Nat) : EM SV := fun es => .tm s fun v => .pure (v, es)
def getOb (k : Nat) : EM Ob := fun es =>
 match lookOb k es.obs with
 | some (some o) => .pure (o, es)
 | some none => .fail
 | none => .ob k fun o => match o with
  | some o => .pure (o, es)
  | none => .fail
def ofOption {α : Type} (o : Option α) : EM α := fun es => match o with | some a => .pure (a, es) | none => .fail
def guard (b : Bool) : EM Unit := fun es => if b then .pure ((), es) else .fail
def emit (l : PLet) : EM Nat := fun es => .emit ⟨es.n, ⟨es.gs, l⟩⟩ (.pure (es.n, { es with n := es.n + l.arity }))
def prim (p : Prim) (as : List Arg) : EM Arg := do pure (.v (← emit (.prim p as)))
def setOb (k : Nat) (o : Option Ob) : EM Unit := fun es => .pure ((), { es with obs := (k, o) :: es.obs })
def newKey : EM Nat := fun es => .pure (es.m, { es with m := es.m + 1 })
def guards : EM (List (Arg × Bool)) := fun es => .pure (es.gs, es)
def bare : EM Unit := fun es => match es.gs with | [] => .pure ((), es) | _ => .fail
end EM
open EM
def Arg.same : Arg → Arg → Bool
 | .v a, .v b => a == b
 | .k (.bool a), .k (.bool b) => a == b
 | .k (.int a), .k (.int b) => a == b
 | _, _ => false
def guardIn (g : Arg × Bool) (gs : List (Arg × Bool)) : Bool := gs.any fun h => g.1.same h.1 && g.2 == h.2
def guardsIn (gs hs : List (Arg × Bool)) : Bool := gs.all fun g => guardIn g hs
section
variable (P : Program)
def isAggT (t : TypeId) : Bool := match P.underlying t with | some (.struct _) | some (.array _ _) => true | _ => false
def sizeT (t : TypeId) : Nat := match P.info? t with | some i => i.size | none => 0
def bytesT (t : TypeId) : Nat := match P.info? t with | some i => i.bytes | none => 0
def intK (t : TypeId) : Option IntKind := match P.underlying t with | some (.int k) => some k | _ => none
def isStr (t : TypeId) : Bool := match P.underlying t with | some .string => true | _ => false
def isBool (t : TypeId) : Bool := match P.underlying t with | some .bool => true | _ => false
def elemT (t : TypeId) : Option TypeId := match P.underlying t with | some (.slice e) => some e | _ => none
def leafTs : Nat → TypeId → Option (List TypeId)
 | 0, _ => none
 | d + 1, t =>
  match P.underlying t with
  | some (.struct fs) => (fs.toList.mapM fun f => leafTs d f.type).map List.flatten
  | some (.array n e) => (leafTs d e).map fun l => (List.replicate n l).flatten
  | some _ => some [t]
  | none => none
def leaves (t : TypeId) : Option (List TypeId) := leafTs P 12 t
def partOk (t0 : TypeId) (off : Nat) (t : TypeId) : Bool :=
 match leaves P t0, leaves P t with
 | some ts, some us => (ts.drop off).take us.length == us && us.length == sizeT P t && 0 < us.length
 | _, _ => false
def constLV (t : TypeId) : Value → Option LV
 | .int k n => if intK P t = some k then some (.at (.k (.int n)) t) else none
 | .bool b => if isBool P t then some (.at (.k (.bool b)) t) else none
 | .string s => if isStr P t then some (.at (.k (.str s)) t) else none
 | .slice none 0 0 => if (elemT P t).isSome then some (.nil t) else none
 | .nilFunc => some .junk
 | .pointer none => some .junk
 | .nilIface => some .junk
 | .map none => some .junk
 | _ => none
def constLVs : List TypeId → List Value → Option (List LV)
 | [], [] => some []
 | t :: ts, v :: vs => do
  let l ← constLV P t v
  let ls ← constLVs ts vs
  pure (l :: ls)
 | _, _ => none
def constVV (t : TypeId) (v : Value) : Option VV :=
 match v with
 | .agg cs => if isAggT P t then do pure (.agg t (← constLVs P (← leaves P t) cs.toList)) else none
 | v => if isAggT P t then none else (constLV P t v).map .leaf
def zeroVV (t : TypeId) : Option VV := do constVV P t (← (← P.info? t).zero)
def constIV : LV → Option IV
 | .at (.k c) _ => some c
 | .nil _ => some (.list [])
 | _ => none
def constIVs : List LV → Option (List IV)
 | [] => some []
 | l :: ls => do
  let x ← constIV l
  let xs ← constIVs ls
  pure (x :: xs)
def zeroIV (t : TypeId) : Option IV := do
 match ← zeroVV P t with
 | .leaf l => constIV l
 | .agg _ cs => (constIVs cs).map .agg
def rd (x : Operand) (t : TypeId) : EM SX := do
 match x with
 | .tmp s => do
  let v ← getTm s
  EM.guard (guardsIn v.gs (← guards))
  pure v.x
 | .const c => do pure (.one (← ofOption (constVV P t c)))
 | .func f => pure (.one (.leaf (.fn f [])))
 | .global _ => fail
def rd1 (x : Operand) (t : TypeId) : EM VV := do
 match ← rd P x t with
 | .one v => pure v
 | _ => fail
def sameT (t t' : TypeId) : Bool := t == t' || (match intK P t, intK P t' with | some a, some b => a == b | _, _ => false)
def leafData (fz : Bool) (t : TypeId) (l : LV) : EM Arg := do
 match l with
 | .at x t' => do
  EM.guard (sameT P t t')
  pure x
 | .cl x t' => do
  EM.guard (t == t')
  pure x
 | .st x t' => do
  EM.guard (t == t')
  pure x
 | .nil _ => do
  EM.guard (elemT P t).isSome
  pure (.k (.list []))
 | .ref k _ => do
  match ← getOb k with
  | .arr e tt c => do
   EM.guard (elemT P t == some e)
   if fz then setOb k (some (.frz e tt c))
   pure c
  | .frz e _ c => do
   EM.guard (elemT P t == some e)
   pure c
  | _ => fail
 | .sub k lo hi t' => do
  match ← getOb k with
  | .arr e tt c => do
   EM.guard (elemT P t == some e && elemT P t' == some e)
   let x ← prim .slice [c, lo, hi]
   if fz then setOb k (some (.frz e tt c))
   pure x
  | .frz e _ c => do
   EM.guard (elemT P t == some e && elemT P t' == some e)
   prim .slice [c, lo, hi]
  | _ => fail
 | _ => fail
def leavesData (fz : Bool) : List TypeId → List LV → EM (List Arg)
 | [], [] => pure []
 | t :: ts, l :: ls => do
  let a ← leafData P fz t l
  let as ← leavesData fz ts ls
  pure (a :: as)
 | _, _ => fail
def toData (fz : Bool) (t : TypeId) (v : VV) : EM Arg := do
 match v with
 | .leaf l => leafData P fz t l
 | .agg t' cs => do
  EM.guard (t == t' && isAggT P t)
  prim .mkagg (← leavesData P fz (← ofOption (leaves P t)) cs)
def rdData (x : Operand) (t : TypeId) : EM Arg := do toData P false t (← rd1 P x t)
def rdInt (x : Operand) : EM Arg := do
 match x with
 | .const (.int _ n) => pure (.k (.int n))
 | .tmp s => do
  let v ← getTm s
  EM.guard (guardsIn v.gs (← guards))
  match v.x with
  | .one (.leaf (.at a t)) => do
   EM.guard (intK P t).isSome
   pure a
  | _ => fail
 | _ => fail
def projs (x : Arg) : List TypeId → Nat → EM (List LV)
 | [], _ => pure []
 | t :: ts, i => do
  let a ← prim (.proj i 1 false) [x]
  let r ← projs x ts (i + 1)
  pure (.at a t :: r)
def explode (v : VV) : EM (List LV) := do
 match v with
 | .agg _ cs => pure cs
 | .leaf .junk => fail
 | .leaf (.at x t) =>
  if isAggT P t then do projs x (← ofOption (leaves P t)) 0 else pure [.at x t]
 | .leaf l => pure [l]
def subVV (t0 : TypeId) (v : VV) (off : Nat) (t : TypeId) : EM VV := do
 match v with
 | .agg _ cs =>
  if isAggT P t then do
   EM.guard (decide (off + sizeT P t ≤ cs.length))
   pure (.agg t ((cs.drop off).take (sizeT P t)))
  else do pure (.leaf (← ofOption cs[off]?))
 | .leaf (.at x t1) => do
  EM.guard (t1 == t0)
  if isAggT P t0 then
   if off == 0 && t == t0 then pure (.leaf (.at x t0))
   else do
    EM.guard (partOk P t0 off t)
    pure (.leaf (.at (← prim (.proj off (sizeT P t) (isAggT P t)) [x]) t))
  else do
   EM.guard (off == 0 && t == t0)
   pure (.leaf (.at x t0))
 | .leaf .junk => fail
 | .leaf l => do
  EM.guard (off == 0 && !isAggT P t)
  pure (.leaf l)
def loadP (p : PV) (t : TypeId) : EM VV := do
 EM.guard (P.underlying t).isSome
 match p with
 | .p k off => do
  match ← getOb k with
  | .box t0 v => subVV P t0 v off t
  | _ => fail
 | .el k e i off => do
  match ← getOb k with
  | .arr e' _ c => do
   EM.guard (e == e')
   let x ← prim .index [c, i]
   subVV P e (.leaf (.at x e)) off t
  | _ => fail
 | .im x t0 off => subVV P t0 (.leaf (.at x t0)) off t
def sizeOk (t : TypeId) : Bool :=
 match leaves P t with
 | some ts => ts.length == sizeT P t && (isAggT P t || sizeT P t == 1)
 | none => false
def zeroOk (t : TypeId) : Bool :=
 match P.info? t with
 | some i => (match i.zero with | some z => z.cells.size == i.size | none => false)
 | none => false
def fitsBox (t : TypeId) : VV → Bool
 | .agg t' cs => t == t' && isAggT P t && cs.length == sizeT P t
 | .leaf .junk => false
 | .leaf (.at _ t') => t == t' && sizeOk P t
 | .leaf _ => !isAggT P t && sizeT P t == 1
def fitsNew (t : TypeId) : VV → Bool
 | .leaf .junk => !isAggT P t && sizeT P t == 1
 | v => fitsBox P t v
def storeP (p : PV) (t : TypeId) (v : VV) : EM Unit := do
 bare
 match p with
 | .p k off => do
  match ← getOb k with
  | .box t0 old =>
   if off == 0 && t == t0 then do
    EM.guard (fitsBox P t v)
    setOb k (some (.box t0 v))
   else do
    EM.guard (isAggT P t0 && decide (0 < sizeT P t))
    let cs ← explode P old
    let new ← explode P v
    EM.guard (decide (off + new.length ≤ cs.length) && new.length == sizeT P t)
    setOb k (some (.box t0 (.agg t0 (cs.take off ++ new ++ cs.drop (off + new.length)))))
  | _ => fail
 | .el k e' i off => do
  let x ← toData P true t v
  match ← getOb k with
  | .arr e tt c => do
   EM.guard (e == e')
   EM.guard ((off == 0 && t == e && sizeOk P e) || (isAggT P e && partOk P e off t && sizeOk P e))
   let c' ← prim (.setAt off (sizeT P t) (isAggT P t) (off == 0 && t == e)) [c, i, x]
   setOb k (some (.arr e tt c'))
  | _ => fail
 | .im .. => fail
def wholeOk (t : TypeId) : VV → Bool
 | .agg _ cs => isAggT P t && cs.length == sizeT P t
 | .leaf (.at _ t') => isAggT P t && t == t' && (match leaves P t with | some ts => ts.length == sizeT P t | none => false)
 | _ => false
def asPtr (v : VV) : EM PV := do
 match v with
 | .leaf (.ptr p) => pure p
 | _ => fail
def PV.plus (p : PV) (o : Nat) : PV :=
 match p with
 | .p k off => .p k (off + o)
 | .el k e i off => .el k e i (off + o)
 | .im x t off => .im x t (off + o)
def one (v : VV) : SX := .one v
def dat (x : Arg) (t : TypeId) : SX := .one (.leaf (.at x t))
def plainT (t : TypeId) : Bool :=
 match P.underlying t with
 | some (.struct fs) =>
  fs.toList.zipIdx.all (fun (f, i) => f.offset == i && f.name != "_" && ((intK P f.type).isSome || isStr P f.type || isBool P f.type)) &&
  !P.stoodInHeld t && !P.eqGuardType P.depth t
 | _ => false
def yOk (op : BinOp) (yt : TypeId) (k : IntKind) : Bool :=
 match op with
 | .shl | .shr => (intK P yt).isSome
 | _ => intK P yt == some k
def xBin (op : BinOp) (xt : TypeId) (x y : Operand) (yt rt : TypeId) : EM SX := do
 let a ← rdData P x xt
 let b ← rdData P y yt
 match P.underlying xt with
 | some (.int k) => do
  EM.guard (yOk P op yt k)
  match op with
  | .add | .sub | .mul => do
   EM.guard (intK P rt == some k)
   pure (dat (← prim (.arith op k) [a, b]) rt)
  | .quo => do
   EM.guard (intK P rt == some k)
   pure (dat (← prim (.quo k) [a, b]) rt)
  | .rem => do
   EM.guard (intK P rt == some k)
   pure (dat (← prim (.rem k) [a, b]) rt)
  | .shl | .shr => do
   EM.guard (intK P rt == some k)
   pure (dat (← prim (.shift op k) [a, b]) rt)
  | .eql | .neq | .lss | .leq | .gtr | .geq => do
   EM.guard (isBool P rt)
   pure (dat (← prim (.cmp op) [a, b]) rt)
  | _ => fail
 | some .string => do
  EM.guard (isStr P yt)
  match op with
  | .add => do
   EM.guard (isStr P rt)
   pure (dat (← prim .cat [a, b]) rt)
  | .eql | .neq | .lss | .leq | .gtr | .geq => do
   EM.guard (isBool P rt)
   pure (dat (← prim (.cmpS op) [a, b]) rt)
  | _ => fail
 | some .bool => do
  EM.guard (isBool P yt && isBool P rt)
  match op with
  | .eql => do pure (dat (← prim (.eqB false) [a, b]) rt)
  | .neq => do pure (dat (← prim (.eqB true) [a, b]) rt)
  | _ => fail
 | some (.struct _) => do
  EM.guard (plainT P xt && xt == yt && isBool P rt)
  match op with
  | .eql => do pure (dat (← prim (.eqA false) [a, b]) rt)
  | .neq => do pure (dat (← prim (.eqA true) [a, b]) rt)
  | _ => fail
 | _ => fail
def xNil (ne : Bool) (xt : TypeId) (x : Operand) (rt : TypeId) : EM SX := do
 match ← rd1 P x xt with
 | .leaf (.st c t) => do
  EM.guard ((elemT P t).isSome && isBool P rt && (elemT P xt).isSome)
  let n ← prim .len [c]
  let b ← prim (.cmp (if ne then .neq else .eql)) [n, .k (.int 0)]
  pure (dat b rt)
 | _ => fail
def xBinAny (op : BinOp) (xt : TypeId) (x y : Operand) (yt rt : TypeId) : EM SX :=
 match op, y with
 | .eql, .const (.slice none 0 0) => xNil P false xt x rt
 | .neq, .const (.slice none 0 0) => xNil P true xt x rt
 | _, _ => xBin P op xt x y yt rt
def rtOf (op : BinOp) (xt rt : TypeId) : TypeId :=
 match op with
 | .eql | .neq | .lss | .leq | .gtr | .geq => if isBool P rt then rt else ((List.range 64).find? (isBool P ·)).getD rt
 | .add | .sub => if (intK P xt).isSome && intK P rt != intK P xt then xt else rt
 | _ => rt
def xUn (op : UnOp) (xt : TypeId) (x : Operand) (rt : TypeId) : EM SX := do
 let a ← rdData P x xt
 match op with
 | .not => do
  EM.guard (isBool P xt && isBool P rt)
  pure (dat (← prim .not [a]) rt)
 | .neg => do
  let k ← ofOption (intK P xt)
  EM.guard (intK P rt == some k)
  pure (dat (← prim (.neg k) [a]) rt)
 | _ => fail
def xConv (src dst : TypeId) (x : Operand) : EM SX := do
 let a ← rdData P x src
 match P.underlying src, P.underlying dst with
 | some (.int _), some (.int k) => do pure (dat (← prim (.conv k) [a]) dst)
 | some .string, some .string => pure (dat a dst)
 | some (.slice e), some .string => do
  EM.guard (intK P e == some .u8)
  pure (dat (← prim .strOf [a]) dst)
 | _, _ => fail
def xIndexAddr (t : TypeId) (x i : Operand) : EM SX := do
 let xv ← rd1 P x t
 match P.underlying t with
 | some (.slice e) => do
  EM.guard (decide (0 < sizeT P e))
  let iv ← rdInt P i
  match xv with
  | .leaf (.ref k _) => do
   match ← getOb k with
   | .arr e' _ c => do
    EM.guard (e == e')
    let _ ← prim .index [c, iv]
    pure (one (.leaf (.ptr (.el k e iv 0))))
   | .frz e' _ c => do
    EM.guard (e == e')
    pure (one (.leaf (.ptr (.im (← prim .index [c, iv]) e 0))))
   | _ => fail
  | .leaf l => do
   let c ← leafData P true t l
   pure (one (.leaf (.ptr (.im (← prim .index [c, iv]) e 0))))
  | _ => fail
 | some (.array n e) => do
  let p ← asPtr xv
  match i with
  | .const (.int _ j) => do
   EM.guard (decide (0 ≤ j) && decide (j < n) && decide (0 < sizeT P e))
   pure (one (.leaf (.ptr (p.plus (j.toNat * sizeT P e)))))
  | _ => fail
 | _ => fail
def optInt (x : Option Operand) : EM (Option Arg) := do
 match x with
 | none => pure none
 | some o => do pure (some (← rdInt P o))
def cutD (c l : Arg) (h : Option Arg) (t : TypeId) : EM SX :=
 match h with
 | some h => do pure (dat (← prim .slice [c, l, h]) t)
 | none => do pure (dat (← prim .sliceLo [c, l]) t)
def hiOr (c : Arg) (h : Option Arg) : EM Arg :=
 match h with
 | some h => pure h
 | none => prim .len [c]
def xSlice (t : TypeId) (x : Operand) (lo hi mx : Option Operand) : EM SX := do
 EM.guard mx.isNone
 let xv ← rd1 P x t
 let l ← optInt P lo
 let h ← optInt P hi
 match P.underlying t with
 | some .string => do
  let a ← toData P false t xv
  match h with
  | some h => do pure (dat (← prim .sslice [a, l.getD (.k (.int 0)), h]) t)
  | none => do pure (dat (← prim .ssliceLo [a, l.getD (.k (.int 0))]) t)
 | some (.slice e) => do
  EM.guard (decide (0 < sizeT P e))
  match xv with
  | .leaf (.ref k _) => do
   match ← getOb k with
   | .arr e' _ c => do
    EM.guard (e == e')
    let hi ← hiOr c h
    let _ ← prim .slice [c, l.getD (.k (.int 0)), hi]
    pure (one (.leaf (.sub k (l.getD (.k (.int 0))) hi t)))
   | .frz e' _ c => do
    EM.guard (e == e')
    cutD c (l.getD (.k (.int 0))) h t
   | _ => fail
  | .leaf lf => do
   let c ← leafData P true t lf
   cutD c (l.getD (.k (.int 0))) h t
  | _ => fail
 | _ => fail
def xSlice3 (t : TypeId) (x : Operand) (lo hi mx : Option Operand) : EM SX := do
 let xv ← rd1 P x t
 let l ← optInt P lo
 let h ← optInt P hi
 let m ← optInt P mx
 match P.underlying t with
 | some (.slice e) => do
  EM.guard (decide (0 < sizeT P e))
  match xv, h, m with
  | .leaf (.ref k _), some h, some m => do
   match ← getOb k with
   | .arr e' _ c => do
    EM.guard (e == e')
    let _ ← prim .slice [c, l.getD (.k (.int 0)), h]
    let _ ← prim .slice [c, h, m]
    pure (one (.leaf .junk))
   | _ => fail
  | _, _, _ => fail
 | _ => fail
def xSliceSub (t : TypeId) (k : Nat) (t' : TypeId) (lo hi : Option Operand) : EM SX := do
 let l ← optInt P lo
 let h ← optInt P hi
 match P.underlying t with
 | some (.slice e) => do
  EM.guard (decide (0 < sizeT P e) && elemT P t' == some e)
  match h with
  | some h => do
   match ← getOb k with
   | .arr e' _ c => do
    EM.guard (e == e')
    let _ ← prim .slice [c, l.getD (.k (.int 0)), h]
    pure (one (.leaf (.sub k (l.getD (.k (.int 0))) h t)))
   | _ => fail
  | none => fail
 | _ => fail
def xSliceAny (t : TypeId) (x : Operand) (lo hi mx : Option Operand) : EM SX :=
 match mx with
 | some m => xSlice3 P t x lo hi (some m)
 | none => do
  match ← rd1 P x t with
  | .leaf (.sub k (.k (.int 0)) _ t') => xSliceSub P t k t' lo hi
  | _ => xSlice P t x lo hi none
def partsData (e : TypeId) : List (Nat × Operand) → Nat → EM (List Arg)
 | [], _ => pure []
 | (i, x) :: ps, j => do
  EM.guard (i == j)
  let a ← toData P true e (← rd1 P x e)
  let r ← partsData e ps (j + 1)
  pure (a :: r)
def xBuildSlice (t : TypeId) (len : Nat) (parts : Array (Nat × Operand)) : EM SX := do
 bare
 let e ← ofOption (elemT P t)
 EM.guard (decide (len * sizeT P e ≤ 2 ^ 24) && decide (0 < sizeT P e) && parts.size == len && zeroOk P e && sizeOk P e)
 let args ← partsData P e parts.toList 0
 let c ← prim .mklist args
 let k ← newKey
 setOb k (some (.arr e t c))
 pure (one (.leaf (.ref k t)))
def xBuildSliceG (t : TypeId) (len : Nat) (parts : Array (Nat × Operand)) : EM SX := do
 let e ← ofOption (elemT P t)
 EM.guard (decide (len * sizeT P e ≤ 2 ^ 24) && decide (0 < sizeT P e) && parts.size == len && zeroOk P e && sizeOk P e)
 let args ← partsData P e parts.toList 0
 let c ← prim .mklist args
 pure (dat c t)
def fillParts (place : Nat → Option (Nat × TypeId)) : List (Nat × Operand) → List LV → EM (List LV)
 | [], cs => pure cs
 | (i, x) :: ps, cs => do
  let (off, t) ← ofOption (place i)
  let new ← explode P (← rd1 P x t)
  EM.guard (new.length == sizeT P t && decide (off + new.length ≤ cs.length))
  fillParts place ps (cs.take off ++ new ++ cs.drop (off + new.length))
def xBuild (t : TypeId) (parts : Array (Nat × Operand)) : EM SX := do
 match ← ofOption (zeroVV P t) with
 | .agg _ cs =>
  match P.underlying t with
  | some (.struct fs) => do
   EM.guard (fs.toList.all fun f => (P.info? f.type).isSome)
   pure (one (.agg t (← fillParts P (fun i => (fs[i]?).map fun f => (f.offset, f.type)) parts.toList cs)))
  | some (.array _ e) => do
   EM.guard (P.info? e).isSome
   pure (one (.agg t (← fillParts P (fun i => some (i * sizeT P e, e)) parts.toList cs)))
  | _ => fail
 | _ => fail
def xLen (t : TypeId) (x : Operand) (rt : TypeId) : EM SX := do
 EM.guard (intK P rt == some .i64)
 let a ← rdData P x t
 match P.underlying t with
 | some .string => do pure (dat (← prim .slen [a]) rt)
 | some (.slice _) => do pure (dat (← prim .len [a]) rt)
 | _ => fail
def appendTo (e : TypeId) (v : VV) : EM (Option Nat × Arg) := do
 match v with
 | .leaf (.nil _) => pure (none, .k (.list []))
 | .leaf (.ref k _) => do
  match ← getOb k with
  | .arr e' _ c => do
   EM.guard (e == e')
   pure (some k, c)
  | _ => fail
 | .leaf (.sub k (.k (.int 0)) hi t') => do
  match ← getOb k with
  | .arr e' _ c => do
   EM.guard (e == e' && elemT P t' == some e)
   pure (some k, ← prim .slice [c, .k (.int 0), hi])
  | _ => fail
 | _ => fail
def dropOld (old : Option Nat) : EM Unit :=
 match old with
 | some k => setOb k none
 | none => pure ()
def xAppend (st xt : TypeId) (s x : Operand) (rt : TypeId) : EM SX := do
 bare
 let e ← ofOption (elemT P st)
 EM.guard (decide (0 < sizeT P e) && decide (0 < bytesT P e) && st == xt && zeroOk P e)
 let sv ← rd1 P s st
 let xv ← rd1 P x xt
 let a ← toData P false xt xv
 let (old, c) ← appendTo P e sv
 let c' ← prim (.append (bytesT P e)) [c, a]
 dropOld old
 let k' ← newKey
 setOb k' (some (.arr e st c'))
 pure (one (.leaf (.ref k' rt)))
def xAppendC (st xt : TypeId) (c : Arg) (ct : TypeId) (x : Operand) (rt : TypeId) : EM SX := do
 bare
 let e ← ofOption (elemT P st)
 EM.guard (decide (0 < sizeT P e) && decide (0 < bytesT P e) && st == xt && ct == st && zeroOk P e)
 let xv ← rd1 P x xt
 let a ← toData P false xt xv
 let c' ← prim (.appendN (bytesT P e)) [c, a]
 let k' ← newKey
 setOb k' (some (.arr e st c'))
 pure (one (.leaf (.ref k' rt)))
def xAppendSelf (st xt : TypeId) (k : Nat) (hi : Arg) (t1 : TypeId) (lo hi2 : Arg) (t2 : TypeId) (rt : TypeId) : EM SX := do
 bare
 let e ← ofOption (elemT P st)
 EM.guard (decide (0 < sizeT P e) && decide (0 < bytesT P e) && st == xt && zeroOk P e && elemT P t1 == some e && elemT P t2 == some e && elemT P rt == some e)
 match ← getOb k with
 | .arr e' tt c => do
  EM.guard (e == e')
  let _ ← prim .index [c, .k (.int 0)]
  let _ ← prim .slice [c, hi, lo]
  let x ← prim .slice [c, .k (.int 0), hi]
  let y ← prim .slice [c, lo, hi2]
  let d ← prim (.append 0) [x, y]
  let m ← prim .len [d]
  let z ← prim .sliceLo [c, m]
  let c' ← prim (.append 0) [d, z]
  setOb k (some (.arr e tt c'))
  pure (one (.leaf (.sub k (.k (.int 0)) m rt)))
 | _ => fail
def selfSubs : VV → VV → Option (Nat × Arg × TypeId × Arg × Arg × TypeId)
 | .leaf (.sub k (.k (.int 0)) hi t1), .leaf (.sub k2 lo hi2 t2) => if k == k2 then some (k, hi, t1, lo, hi2, t2) else none
 | _, _ => none
def xAppendAny (st xt : TypeId) (s x : Operand) (rt : TypeId) : EM SX := do
 match ← rd1 P s st with
 | .leaf (.cl c ct) => xAppendC P st xt c ct x rt
 | sv => do
  match selfSubs sv (← rd1 P x xt) with
  | some (k, hi, t1, lo, hi2, t2) => xAppendSelf P st xt k hi t1 lo hi2 t2 rt
  | none => xAppend P st xt s x rt
def zeroByte (e : TypeId) : Bool :=
 match P.info? e with
 | some i => match i.zero with | some (.int .u8 0) => true | _ => false
 | none => false
def xAppendS (st xt : TypeId) (s x : Operand) (rt : TypeId) : EM SX := do
 bare
 let e ← ofOption (elemT P st)
 EM.guard (isStr P xt && intK P e == some .u8 && sizeT P e == 1 && bytesT P e == 1 && (zeroOk P e && zeroByte P e))
 let sv ← rd1 P s st
 let a ← rdData P x xt
 let (old, c) ← appendTo P e sv
 let c' ← prim .appendS [c, a]
 dropOld old
 let k' ← newKey
 setOb k' (some (.arr e st c'))
 pure (one (.leaf (.ref k' rt)))
def xMinMax (mx : Bool) (t : TypeId) (x y : Operand) (rt : TypeId) : EM SX := do
 let k ← ofOption (intK P t)
 EM.guard (intK P rt == some k)
 let a ← rdData P x t
 let b ← rdData P y t
 pure (dat (← prim (if mx then .max else .min) [a, b]) rt)
def xClear (t : TypeId) (x : Operand) : EM SX := do
 bare
 let e ← ofOption (elemT P t)
 EM.guard (decide (0 < sizeT P e) && zeroOk P e)
 let z ← ofOption (zeroIV P e)
 let xv ← rd1 P x t
 match xv with
 | .leaf (.sub k lo hi t') => do
  match ← getOb k with
  | .arr e' tt c => do
   EM.guard (e == e' && elemT P t' == some e)
   let c' ← prim (.clear z) [c, lo, hi]
   setOb k (some (.arr e tt c'))
   pure (one (.leaf .junk))
  | _ => fail
 | _ => fail
def xMakeSlice (t : TypeId) (len cap : Operand) : EM SX := do
 bare
 let e ← ofOption (elemT P t)
 EM.guard (decide (0 < sizeT P e) && decide (0 < bytesT P e) && zeroOk P e)
 let l ← rdInt P len
 let c ← rdInt P cap
 let x ← prim (.zeros (bytesT P e) (← ofOption (zeroIV P e))) [l, c]
 let k ← newKey
 setOb k (some (.arr e t x))
 pure (one (.leaf (.ref k t)))
def boolT : TypeId := ((List.range 64).find? (isBool P ·)).getD 0
def xRange (t : TypeId) (x : Operand) : EM SX := do
 bare
 EM.guard (isStr P t)
 let a ← rdData P x t
 let k ← newKey
 setOb k (some (.iter a (.k (.int 0))))
 pure (one (.leaf (.ptr (.p k 0))))
def xNextAt (p : PV) : EM SX := do
 match p with
 | .p k 0 => do
  match ← getOb k with
  | .iter s p => do
   let ok ← prim .iterOk [s, p]
   let r ← prim .runeAt [s, p]
   let p' ← prim .iterNext [s, p]
   setOb k (some (.iter s p'))
   pure (.nx ok p r)
  | _ => fail
 | _ => fail
def xNext (it : Operand) (isString : Bool) : EM SX := do
 bare
 EM.guard isString
 let p ← asPtr (← rd1 P it 0)
 xNextAt p
def xNx (ok p r : Arg) (i : Nat) (rt : TypeId) : EM SX := do
 match i with
 | 0 => do
  let bt := if isBool P rt then rt else boolT P
  EM.guard (isBool P bt)
  pure (dat ok bt)
 | 1 => do
  EM.guard (intK P rt == some .i64)
  let _ ← prim .need [ok]
  pure (dat p rt)
 | 2 => do
  EM.guard (intK P rt == some .i32)
  let _ ← prim .need [ok]
  pure (dat r rt)
 | _ => fail
def mapT (t : TypeId) : Option (TypeId × TypeId) := match P.underlying t with | some (.map k v) => some (k, v) | _ => none
def keyT (t : TypeId) : Bool := (intK P t).isSome || isStr P t
def xMakeMap (t : TypeId) (reserve : Option Operand) : EM SX := do
 bare
 EM.guard reserve.isNone
 let kv ← ofOption (mapT P t)
 EM.guard (keyT P kv.1)
 let k ← newKey
 setOb k (some (.mp t kv.1 kv.2 (.k (.list []))))
 pure (one (.leaf (.mref k t)))
def asMap (v : VV) : EM Nat := do
 match v with
 | .leaf (.mref k _) => pure k
 | _ => fail
def xLookup (t : TypeId) (x i : Operand) (ok : Bool) : EM SX := do
 let kv ← ofOption (mapT P t)
 EM.guard (keyT P kv.1 && zeroOk P kv.2)
 let z ← ofOption (zeroIV P kv.2)
 let k ← asMap (← rd1 P x t)
 let iv ← rdData P i kv.1
 match ← getOb k with
 | .mp _ kt vt c => do
  EM.guard (kv.1 == kt && kv.2 == vt && isBool P (boolT P))
  let v ← prim (.mget z) [c, iv]
  let h ← prim .mhas [c, iv]
  if ok then pure (.tup [.leaf (.at v vt), .leaf (.at h (boolT P))])
  else pure (dat v vt)
 | _ => fail
def xMapUpdate (t : TypeId) (m i x : Operand) : EM SX := do
 bare
 let kv ← ofOption (mapT P t)
 EM.guard (keyT P kv.1)
 let k ← asMap (← rd1 P m t)
 let iv ← rdData P i kv.1
 let xv ← toData P true kv.2 (← rd1 P x kv.2)
 match ← getOb k with
 | .mp t' kt vt c => do
  EM.guard (kv.1 == kt && kv.2 == vt)
  let c' ← prim .mset [c, iv, xv]
  setOb k (some (.mp t' kt vt c'))
  pure (one (.leaf .junk))
 | _ => fail
def bldT (t : TypeId) : Option (TypeId × TypeId) :=
 match leaves P t with
 | some [pt, st] =>
  match P.underlying pt, elemT P st with
  | some (.pointer t'), some e => if t' == t && intK P e == some .u8 && sizeT P e == 1 && isAggT P t && sizeT P t == 2 then some (st, e) else none
  | _, _ => none
 | _ => none
def zeroPtr (t : TypeId) : Bool :=
 match P.info? t with
 | some i =>
  match i.zero with
  | some (.agg cs) => match cs.toList with | [.pointer none, .slice none 0 0] => true | _ => false
  | _ => false
 | none => false
def xAllocB (t st : TypeId) : EM SX := do
 bare
 EM.guard (zeroPtr P t && isAggT P t && sizeT P t == 2)
 let k ← newKey
 setOb k (some (.box t (.agg t [.hid k, .nil st])))
 pure (one (.leaf (.ptr (.p k 0))))
end
def keysPV : PV → List Nat
 | .p k _ => [k]
 | .el k _ _ _ => [k]
 | .im .. => []
def keysLV : LV → List Nat
 | .ref k _ => [k]
 | .sub k _ _ _ => [k]
 | .ptr p => keysPV p
 | .fn _ ps => ps.flatMap keysPV
 | .mref k _ => [k]
 | .hid k => [k]
 | _ => []
def keysVV : VV → List Nat
 | .leaf l => keysLV l
 | .agg _ ls => ls.flatMap keysLV
def keysSX : SX → List Nat
 | .one v => keysVV v
 | .tup vs => vs.flatMap keysVV
 | .nx .. => []
def keysOb : Ob → List Nat
 | .box _ v => keysVV v
 | _ => []
inductive PS where
 | data (t : TypeId)
 | arr (t : TypeId)                                  -- a slice that the callee may write, as long as it is; it is handed back
 | own (t : TypeId)                                  -- a slice that is the callee's own from now on
 | box (t : TypeId) (own : List Bool)                -- a pointer to a variable that the callee may write; which of its cells are rows of its own
 | fn (f : FuncId) (caps : List TypeId)              -- a closure over variables of these types, which are only read
 | rd (t : TypeId)                                   -- a pointer to a variable that is only read
 | bld (t : TypeId) (back : Bool)                    -- a pointer to a strings.Builder; handed back, or gone
 | fnb (f : FuncId) (n : Nat)                        -- a closure; its n captured variables come as the next parameters
 deriving Inhabited
inductive Bk where
 | box (k : Nat) (t : TypeId) (own : List Bool)
 | arr (k : Nat) (e t : TypeId)
 | bld (k : Nat) (t e st : TypeId)
 deriving Inhabited
inductive RS where
 | whole (t : TypeId)                                -- data
 | cells (t : TypeId) (own : List Bool)              -- cell by cell: rows of the caller's own, or data
 | skip                                              -- what nobody looks at
 | clip (t : TypeId)                                 -- data: a row without room
 | strict (t : TypeId)                               -- data: a row that is nil where it is empty
 | nbox (t : TypeId) (own : List Bool)               -- a pointer to a new variable
 | clo (f : FuncId) (bxs : List (TypeId × List Bool))  -- a closure over new variables
 deriving Inhabited
structure Spec where
 fn : FuncId
 params : List PS
 results : List RS
 alias_ : Bool        -- may a result share memory with an argument?
 deriving Inhabited
section
variable (P : Program)
def takeRow (e : TypeId) (l : LV) : EM Arg := do
 EM.guard (decide (0 < sizeT P e))
 let r ← appendTo P e (.leaf l)
 dropOld r.1
 pure r.2
def takeMap (t : TypeId) (l : LV) : EM Arg := do
 match l with
 | .mref k _ => do
  match ← getOb k with
  | .mp _ kt vt c => do
   EM.guard (mapT P t == some (kt, vt))
   setOb k none
   pure c
  | _ => fail
 | _ => fail
def takeOwn (t : TypeId) (l : LV) : EM Arg :=
 match elemT P t with
 | some e => takeRow P e l
 | none => takeMap P t l
def getCell (fz o : Bool) (t : TypeId) (l : LV) : EM Arg := do
 if o then takeOwn P t l
 else leafData P fz t l
def getCells (fz : Bool) : List Bool → List TypeId → List LV → EM (List Arg)
 | [], [], [] => pure []
 | o :: bs, t :: ts, l :: ls => do
  let a ← getCell P fz o t l
  let as ← getCells fz bs ts ls
  pure (a :: as)
 | _, _, _ => fail
def capData (fz : Bool) (t : TypeId) (p : PV) : EM Arg := do
 match p with
 | .p k 0 => do
  match ← getOb k with
  | .box t0 v => do
   EM.guard (t == t0 && decide (0 < sizeT P t))
   toData P fz t v
  | _ => fail
 | .im x t0 0 => do
  EM.guard (t == t0)
  pure x
 | _ => fail
def capsData (fz : Bool) : List TypeId → List PV → EM (List Arg)
 | [], [] => pure []
 | t :: ts, p :: ps => do
  let a ← capData P fz t p
  let as ← capsData fz ts ps
  pure (a :: as)
 | _, _ => fail
def xArg (al : Bool) (p : PS) (v : VV) : EM (List Arg × List Bk) := do
 match p with
 | .data t => do pure ([← toData P al t v], [])
 | .arr t => do
  match v with
  | .leaf (.ref k _) => do
   match ← getOb k with
   | .arr e t' c => do
    EM.guard (elemT P t == some e)
    setOb k none
    pure ([c], [.arr k e t'])
   | _ => fail
  | _ => fail
 | .own t => do
  match v with
  | .leaf l => do pure ([← takeRow P (← ofOption (elemT P t)) l], [])
  | _ => fail
 | .box t own => do
  match v with
  | .leaf (.ptr (.p k 0)) => do
   match ← getOb k with
   | .box t0 v => do
    EM.guard (t == t0)
    let cs ← explode P v
    setOb k none
    let a ← getCells P al own (← ofOption (leaves P t)) cs
    pure (a, [.box k t own])
   | _ => fail
  | _ => fail
 | .fn f ts => do
  match v with
  | .leaf (.fn g caps) => do
   EM.guard (f == g)
   pure (← capsData P al ts caps, [])
  | _ => fail
 | .rd t => do
  match v with
  | .leaf (.ptr p) => do pure ([← capData P al t p], [])
  | _ => fail
 | .bld t back => do
  match v with
  | .leaf (.ptr (.p k 0)) => do
   match ← getOb k with
   | .box t0 (.agg _ [.hid k1, l]) => do
    let se ← ofOption (bldT P t)
    EM.guard (t == t0 && k1 == k)
    setOb k none
    let a ← takeRow P se.2 l
    pure ([a], if back then [.bld k t se.2 se.1] else [])
   | _ => fail
  | _ => fail
 | .fnb _ _ => pure ([], [])
def xArgs (al : Bool) : List PS → List VV → EM (List Arg × List Bk)
 | [], [] => pure ([], [])
 | p :: ps, v :: vs => do
  let a ← xArg P al p v
  let r ← xArgs al ps vs
  pure (a.1 ++ r.1, a.2 ++ r.2)
 | _, _ => fail
def mkCells : List Bool → List TypeId → Nat → EM (List LV)
 | [], [], _ => pure []
 | true :: bs, t :: ts, n =>
  match elemT P t with
  | some e => do
   if (← guards).isEmpty then do
    let k ← newKey
    setOb k (some (.arr e t (.v n)))
    let r ← mkCells bs ts (n + 1)
    pure (.ref k t :: r)
   else do
    let r ← mkCells bs ts (n + 1)
    pure (.at (.v n) t :: r)
  | none => do
   bare
   let kv ← ofOption (mapT P t)
   let k ← newKey
   setOb k (some (.mp t kv.1 kv.2 (.v n)))
   let r ← mkCells bs ts (n + 1)
   pure (.mref k t :: r)
 | false :: bs, t :: ts, n => do
  let r ← mkCells bs ts (n + 1)
  pure (.at (.v n) t :: r)
 | _, _, _ => fail
def mkVV (t : TypeId) (cs : List LV) : EM VV := do
 if isAggT P t then pure (.agg t cs)
 else match cs with
  | [c] => pure (.leaf c)
  | _ => fail
def mkBoxes : List (TypeId × List Bool) → Nat → EM (List PV × Nat)
 | [], n => pure ([], n)
 | b :: bs, n => do
  let ts ← ofOption (leaves P b.1)
  let cs ← mkCells P b.2 ts n
  let v ← mkVV P b.1 cs
  let k ← newKey
  setOb k (some (.box b.1 v))
  let r ← mkBoxes bs (n + b.2.length)
  pure (.p k 0 :: r.1, r.2)
def mkRes : List RS → Nat → EM (List VV × Nat)
 | [], n => pure ([], n)
 | .skip :: rs, n => do
  let r ← mkRes rs n
  pure (.leaf .junk :: r.1, r.2)
 | .clip t :: rs, n => do
  let r ← mkRes rs (n + 1)
  pure (.leaf (.cl (.v n) t) :: r.1, r.2)
 | .strict t :: rs, n => do
  let r ← mkRes rs (n + 1)
  pure (.leaf (.st (.v n) t) :: r.1, r.2)
 | .whole t :: rs, n => do
  let r ← mkRes rs (n + 1)
  pure (.leaf (.at (.v n) t) :: r.1, r.2)
 | .cells t own :: rs, n => do
  let ts ← ofOption (leaves P t)
  let cs ← mkCells P own ts n
  let v ← mkVV P t cs
  let r ← mkRes rs (n + own.length)
  pure (v :: r.1, r.2)
 | .nbox t own :: rs, n => do
  bare
  let b ← mkBoxes P [(t, own)] n
  let r ← mkRes rs b.2
  pure (b.1.map (fun p => .leaf (.ptr p)) ++ r.1, r.2)
 | .clo f bxs :: rs, n => do
  bare
  let b ← mkBoxes P bxs n
  let r ← mkRes rs b.2
  pure (.leaf (.fn f b.1) :: r.1, r.2)
def backBoxes : List Bk → Nat → EM Unit
 | [], _ => pure ()
 | .box k t own :: bs, n => do
  let ts ← ofOption (leaves P t)
  let cs ← mkCells P own ts n
  let v ← mkVV P t cs
  setOb k (some (.box t v))
  backBoxes bs (n + own.length)
 | .arr k e t :: bs, n => do
  setOb k (some (.arr e t (.v n)))
  backBoxes bs (n + 1)
 | .bld k t e st :: bs, n => do
  let k' ← newKey
  setOb k' (some (.arr e st (.v n)))
  setOb k (some (.box t (.agg t [.hid k, .ref k' st])))
  backBoxes bs (n + 1)
def RS.arity : RS → Nat
 | .skip => 0
 | .clip _ => 1
 | .strict _ => 1
 | .whole _ => 1
 | .cells _ o => o.length
 | .nbox _ o => o.length
 | .clo _ bxs => (bxs.flatMap (·.2)).length
def PS.back : PS → Nat
 | .bld _ b => if b then 1 else 0
 | .box _ o => o.length
 | .arr _ => 1
 | _ => 0
def sumL : List Nat → Nat
 | [] => 0
 | n :: ns => n + sumL ns
def Spec.arity (s : Spec) : Nat := sumL (s.results.map RS.arity) + sumL (s.params.map PS.back)
def PS.isPure : PS → Bool
 | .data _ | .fn _ _ | .rd _ | .fnb _ _ => true
 | _ => false
def flatT (t : TypeId) : Bool :=
 match leaves P t with
 | some ts => ts.all fun u => (elemT P u).isNone
 | none => false
def flatCells : List Bool → List TypeId → Bool
 | [], [] => true
 | true :: bs, t :: ts => (match elemT P t with | some e => flatT P e | none => match mapT P t with | some kv => flatT P kv.1 && flatT P kv.2 | none => false) && flatCells bs ts
 | false :: bs, t :: ts => (elemT P t).isNone && flatCells bs ts
 | _, _ => false
def RS.flat : RS → Bool
 | .skip => true
 | .clip t => flatT P t
 | .strict t => flatT P t
 | .whole t => flatT P t
 | .cells t own => match leaves P t with | some ts => flatCells P own ts | none => false
 | .nbox t own => match leaves P t with | some ts => flatCells P own ts | none => false
 | .clo _ bxs => bxs.all fun b => match leaves P b.1 with | some ts => flatCells P b.2 ts | none => false
def PS.safe (p : PS) : Bool :=
 match p with
 | .data _ | .fnb _ _ | .own _ | .bld _ _ => true
 | .fn _ ts => ts.isEmpty
 | .arr t => match elemT P t with | some e => flatT P e | none => false
 | .box t bs => match leaves P t with | some ts => flatCells P bs ts | none => false
 | .rd _ => false
def keysD : List PS → List VV → List Nat
 | .data _ :: ps, v :: vs => keysVV v ++ keysD ps vs
 | _ :: ps, _ :: vs => keysD ps vs
 | _, _ => []
def dataOk : List PS → List VV → Bool
 | .data _ :: ps, .leaf _ :: vs => dataOk ps vs
 | .data _ :: ps, v :: vs => (keysVV v).isEmpty && dataOk ps vs
 | _ :: ps, _ :: vs => dataOk ps vs
 | _, _ => true
def ownKeys : List Nat → EM (List Nat)
 | [] => pure []
 | k :: ks => do
  match ← getOb k with
  | .arr .. => do
   let r ← ownKeys ks
   pure (k :: r)
  | _ => ownKeys ks
def stillKeys : List Nat → EM Unit
 | [] => pure ()
 | k :: ks => do
  match ← getOb k with
  | .arr .. => stillKeys ks
  | _ => fail
def stillP (p : PV) : EM Unit := do
 match p with
 | .p k _ => do
  match ← getOb k with
  | .box .. => pure ()
  | _ => fail
 | .im .. => pure ()
 | .el .. => fail
def stillPs : List PV → EM Unit
 | [] => pure ()
 | p :: ps => do
  stillP p
  stillPs ps
def stillV (p : PS) (v : VV) : EM Unit := do
 match p with
 | .rd _ =>
  match v with
  | .leaf (.ptr p) => stillP p
  | _ => fail
 | .fn _ _ =>
  match v with
  | .leaf (.fn _ caps) => stillPs caps
  | _ => fail
 | _ => pure ()
def still : List PS → List VV → EM Unit
 | [], [] => pure ()
 | p :: ps, v :: vs => do
  stillV p v
  still ps vs
 | _, _ => fail
def rdAll : List Operand → List TypeId → EM (List VV)
 | [], _ => pure []
 | x :: xs, t :: ts => do
  let v ← rd1 P x t
  let vs ← rdAll xs ts
  pure (v :: vs)
 | _, [] => fail
def bareFor (b : Bool) : EM Unit := if b then pure () else bare
def packRes : List VV → SX
 | [v] => .one v
 | rs => .tup rs
def xCallSpec (i : Nat) (s : Spec) (vs : List VV) : EM SX := do
 EM.guard (s.alias_ || s.results.all (RS.flat P))
 bareFor (s.params.all PS.isPure)
 let lent := !s.alias_ && !s.params.all PS.isPure && s.params.all (PS.safe P) && dataOk s.params vs
 let ks ← ownKeys (if lent then keysD s.params vs else [])
 let ab ← xArgs P (!lent && (s.alias_ || !s.params.all PS.isPure)) s.params vs
 stillKeys ks
 still s.params vs
 let n ← emit (.call i ab.1 s.arity)
 let rm ← mkRes P s.results n
 backBoxes P ab.2 rm.2
 pure (packRes rm.1)
def fitsPS (p : PS) (v : VV) : EM Bool := do
 match p, v with
 | .fn f _, .leaf (.fn g _) => pure (f == g)
 | .fn .., _ => pure false
 | .fnb _ _, _ => pure true
 | .data _, .leaf (.ptr _) => pure false
 | .data _, .leaf (.fn ..) => pure false
 | .own _, .leaf (.ref k _) => do
  match ← getOb k with
  | .arr .. => pure true
  | _ => pure false
 | .own _, .leaf (.sub ..) => pure true
 | .own _, .leaf (.nil _) => pure true
 | .own _, _ => pure false
 | .arr _, .leaf (.ref k _) => do
  match ← getOb k with
  | .arr .. => pure true
  | _ => pure false
 | .arr _, _ => pure false
 | .box _ _, .leaf (.ptr (.p _ 0)) => pure true
 | .box _ _, _ => pure false
 | .rd _, .leaf (.ptr _) => pure true
 | .rd _, _ => pure false
 | .bld _ _, .leaf (.ptr (.p _ 0)) => pure true
 | .bld _ _, _ => pure false
 | _, _ => pure true
def fitsAll : List PS → List VV → EM Bool
 | [], [] => pure true
 | p :: ps, v :: vs => do
  if ← fitsPS p v then fitsAll ps vs else pure false
 | _, _ => pure false
def capVV (p : PV) : VV := .leaf (.ptr p)
def cloVV : VV → Option (FuncId × List PV)
 | .leaf (.fn g caps) => some (g, caps)
 | _ => none
def cloV : Value → Option (FuncId × List Value)
 | .func (.func g) first caps => if first.isEmpty then some (g, caps.toList) else none
 | _ => none
def fnbOf : PS → Option (FuncId × Nat)
 | .fnb f n => some (f, n)
 | _ => none
def flatVV : Nat → List PS → List VV → Option (List VV)
 | n + 1, _ :: ps, vs => flatVV n ps vs
 | _ + 1, [], _ => none
 | 0, [], [] => some []
 | 0, [], _ :: _ => none
 | 0, _ :: _, [] => none
 | 0, p :: ps, v :: vs =>
  match fnbOf p with
  | none => (flatVV 0 ps vs).map (v :: ·)
  | some fn =>
   match cloVV v with
   | some gc => if fn.1 == gc.1 && gc.2.length == fn.2 then (flatVV fn.2 ps vs).map fun r => .leaf .junk :: (gc.2.map capVV ++ r) else none
   | none => none
def flatV : Nat → List PS → List Value → Option (List Value)
 | n + 1, _ :: ps, vs => flatV n ps vs
 | _ + 1, [], _ => none
 | 0, [], [] => some []
 | 0, [], _ :: _ => none
 | 0, _ :: _, [] => none
 | 0, p :: ps, v :: vs =>
  match fnbOf p with
  | none => (flatV 0 ps vs).map (v :: ·)
  | some fn =>
   match cloV v with
   | some gc => if fn.1 == gc.1 && gc.2.length == fn.2 then (flatV fn.2 ps vs).map fun r => v :: (gc.2 ++ r) else none
   | none => none
def pickSpec (f : FuncId) (vs : List VV) : List (Nat × Spec) → EM (Nat × Spec)
 | [] => fail
 | (i, s) :: ss =>
  if s.fn == f then
   match flatVV 0 s.params vs with
   | some fl => do
    if ← fitsAll s.params fl then pure (i, s) else pickSpec f vs ss
   | none => pickSpec f vs ss
  else pickSpec f vs ss
variable (specs : List (Nat × Spec))
def xCall (c : Call) (rt : TypeId) : EM SX := do
 match c.callee with
 | .builtin b =>
  match b, c.args.toList, c.argTypes.toList with
  | .len, [x], [t] => xLen P t x rt
  | .append, [s, x], [st, xt] => if isStr P xt then xAppendS P st xt s x rt else xAppendAny P st xt s x rt
  | .clear, [x], [t] => xClear P t x
  | .max, [x, y], [t, u] => do
   EM.guard (t == u)
   xMinMax P true t x y rt
  | .min, [x, y], [t, u] => do
   EM.guard (t == u)
   xMinMax P false t x y rt
  | _, _, _ => fail
 | .value fo => do
  match ← rd1 P fo 0 with
  | .leaf (.fn f caps) => do
   let vs ← rdAll P c.args.toList c.argTypes.toList
   let all := vs ++ caps.map capVV
   let q ← pickSpec f all specs
   let fl ← ofOption (flatVV 0 q.2.params all)
   xCallSpec P q.1 q.2 fl
  | _ => fail
 | .invoke .. => fail
def pickSide (cv : Arg) (want : Bool) (x : Operand) (t : TypeId) : EM Arg := do
 match x with
 | .tmp s => do
  let v ← getTm s
  EM.guard (guardsIn v.gs ((cv, want) :: (← guards)))
  match v.x with
  | .one (.leaf (.at y t')) => do
   EM.guard (t == t')
   pure y
  | _ => fail
 | .const c => do
  match ← ofOption (constVV P t c) with
  | .leaf (.at y _) => pure y
  | _ => fail
 | _ => fail
def xPick (c a b : Operand) (rt : TypeId) : EM SX := do
 EM.guard (isBool P rt)
 let cv ← rdData P c rt
 let x ← pickSide P cv true a rt
 let y ← pickSide P cv false b rt
 pure (dat (← prim .pick [cv, x, y]) rt)
def capsOf : List Operand → EM (List PV)
 | [] => pure []
 | x :: xs => do
  let p ← asPtr (← rd1 P x 0)
  let ps ← capsOf xs
  pure (p :: ps)
def xOp (o : Oper) : EM SX := do
 match o.op with
 | .move x | .assign x => rd P x o.type
 | .pick c a b => xPick P c a b o.type
 | .box t x => do
  bare
  let v ← rd1 P x t
  EM.guard (fitsBox P t v)
  let k ← newKey
  setOb k (some (.box t v))
  pure (one (.leaf (.ptr (.p k 0))))
 | .alloc t =>
  match bldT P t with
  | some se => xAllocB P t se.1
  | none => do
   bare
   let v ← ofOption (zeroVV P t)
   EM.guard (fitsNew P t v)
   let k ← newKey
   setOb k (some (.box t v))
   pure (one (.leaf (.ptr (.p k 0))))
 | .load t a => do
  let p ← asPtr (← rd1 P a 0)
  pure (.one (← loadP P p t))
 | .store t a x => do
  let p ← asPtr (← rd1 P a 0)
  let v ← rd1 P x t
  storeP P p t v
  pure (one (.leaf .junk))
 | .fieldAddr s x f => do
  let p ← asPtr (← rd1 P x 0)
  match P.underlying s with
  | some (.struct fs) => do
   let fl ← ofOption fs[f]?
   EM.guard (decide (0 < sizeT P fl.type))
   pure (one (.leaf (.ptr (p.plus fl.offset))))
  | _ => fail
 | .field s x f => do
  let v ← rd1 P x s
  match P.underlying s with
  | some (.struct fs) => do
   let fl ← ofOption fs[f]?
   EM.guard ((P.underlying fl.type).isSome && wholeOk P s v)
   pure (.one (← subVV P s v fl.offset fl.type))
  | _ => fail
 | .indexAddr t x i => xIndexAddr P t x i
 | .index t x i => do
  EM.guard (isStr P t && intK P o.type == some .u8)
  let a ← rdData P x t
  let iv ← rdInt P i
  pure (dat (← prim .sindex [a, iv]) o.type)
 | .slice t x lo hi mx => xSliceAny P t x lo hi mx
 | .binOp op xt x y yt => xBinAny P op xt x y yt (rtOf P op xt o.type)
 | .unOp op xt x => xUn P op xt x o.type
 | .convert src dst x => xConv P src dst x
 | .nilCheck x => do
  match ← rd1 P x 0 with
  | .leaf (.ptr p) => pure (one (.leaf (.ptr p)))
  | .leaf (.fn f c) => pure (one (.leaf (.fn f c)))
  | _ => fail
 | .extract t i => do
  match ← rd P t 0 with
  | .tup vs => do pure (.one (← ofOption vs[i]?))
  | .nx ok p r => xNx P ok p r i o.type
  | _ => fail
 | .range t x => xRange P t x
 | .next it isString => xNext P it isString
 | .makeMap t r => xMakeMap P t r
 | .lookup t x i ok => xLookup P t x i ok
 | .mapUpdate t m i x => xMapUpdate P t m i x
 | .build t parts => xBuild P t parts
 | .buildSlice t len parts => do
  if (← guards).isEmpty then xBuildSlice P t len parts else xBuildSliceG P t len parts
 | .makeSlice t l c => xMakeSlice P t l c
 | .makeFunc (.func f) first caps => do
  EM.guard first.isEmpty
  pure (one (.leaf (.fn f (← capsOf P caps.toList))))
 | .call c => xCall P specs c o.type
 | _ => fail
end
structure St where
 n : Nat
 m : Nat
 tm : List (Nat × SV)
 ob : List (Nat × Ob)
 deriving Inhabited
def nothing : SV := ⟨[], .one (.leaf .junk)⟩
def lookTm (t : Nat) : List (Nat × SV) → SV
 | [] => nothing
 | (t', v) :: r => if t' == t then v else lookTm t r
def lookO (k : Nat) : List (Nat × Ob) → Option Ob
 | [] => none
 | (k', o) :: r => if k' == k then some o else lookO k r
def St.view (s : St) : View := ⟨fun t => lookTm t s.tm, fun k => lookO k s.ob⟩
def putTm (t : Nat) (v : SV) : List (Nat × SV) → List (Nat × SV)
 | [] => [(t, v)]
 | (t', v') :: r => if t' == t then (t, v) :: r else (t', v') :: putTm t v r
def dropO (k : Nat) : List (Nat × Ob) → List (Nat × Ob)
 | [] => []
 | (k', o) :: r => if k' == k then dropO k r else (k', o) :: dropO k r
def putOb (k : Nat) (o : Option Ob) (l : List (Nat × Ob)) : List (Nat × Ob) :=
 match o with
 | some o => (k, o) :: dropO k l
 | none => dropO k l
def putObs : List (Nat × Option Ob) → List (Nat × Ob) → List (Nat × Ob)
 | [], l => l
 | (k, o) :: r, l => putOb k o (putObs r l)
def opGuard (P : Program) (S : View) (ops : Array Oper) (o : Oper) : Option (List (Arg × Bool) × List Nat) :=
 match o.guard with
 | none => some ([], [])
 | some (j, want) =>
  match (ops[j]?).bind (·.dst) with
  | none => none
  | some d =>
   match (S.tm d).x with
   | .one (.leaf (.at x t)) => if isBool P t then some ((S.tm d).gs ++ [(x, want)], [d]) else none
   | _ => none
structure Done where
 gs : List (Arg × Bool)
 lets : List PLt
 dst : Option Nat
 v : SV
 obs : List (Nat × Option Ob)
 slots : List Nat
 keys : List Nat
 n : Nat
 m : Nat
def onlyFrozen (S : View) : List (Nat × Option Ob) → Bool
  | [] => true
  | (k, some (.frz e t c)) :: r =>
    (match S.ob k with
     | some (.arr e' t' c') => e == e' && t == t' && c.same c'
     | some (.frz e' t' c') => e == e' && t == t' && c.same c'
     | _ => false) && onlyFrozen S r
  | _ => false
def keysBelowPV (m0 : Nat) : PV → Bool
 | .p k _ => decide (k < m0)
 | .el k _ _ _ => decide (k < m0)
 | .im .. => true
def keysBelowLV (m0 : Nat) : LV → Bool
 | .ref k _ => decide (k < m0)
 | .sub k _ _ _ => decide (k < m0)
 | .ptr p => keysBelowPV m0 p
 | .fn _ ps => ps.all (keysBelowPV m0)
 | .mref k _ => decide (k < m0)
 | .hid k => decide (k < m0)
 | _ => true
def keysBelowVV (m0 : Nat) : VV → Bool
 | .leaf l => keysBelowLV m0 l
 | .agg _ ls => ls.all (keysBelowLV m0)
def keysBelow (m0 : Nat) : SX → Bool
 | .one v => keysBelowVV m0 v
 | .tup vs => vs.all (keysBelowVV m0)
 | .nx .. => true
def doOp (P : Program) (specs : List (Nat × Spec)) (N : Nat) (ops : Array Oper) (m0 : Nat) (S : View) (n m : Nat) (o : Oper) : Option Done :=
 match opGuard P S ops o with
 | none => none
 | some (gs, gk) =>
  match (xOp P specs o { n, m, gs, obs := [] }).run S with
  | none => none
  | some ((x, es), lets, slots, keys) =>
   if (gs.isEmpty || (onlyFrozen S es.obs && keysBelow m0 x)) && (match o.dst with | some d => decide (d < N) | none => true) && decide (m ≤ es.m) then
    some { gs, lets, dst := o.dst, v := ⟨gs, x⟩, obs := es.obs, slots := gk ++ slots, keys, n := es.n, m := es.m }
   else none
def St.after (s : St) (d : Done) : St :=
  { n := d.n, m := d.m,
    tm := match d.dst with | some t => putTm t d.v s.tm | none => s.tm,
    ob := putObs d.obs s.ob }
def doOps (P : Program) (specs : List (Nat × Spec)) (N : Nat) (ops : Array Oper) (m0 : Nat) : List Oper → St → Option (List Done × St)
 | [], s => some ([], s)
 | o :: os, s =>
  match doOp P specs N ops m0 s.view s.n s.m o with
  | none => none
  | some d =>
   match doOps P specs N ops m0 os (s.after d) with
   | none => none
   | some (ds, s') => some (d :: ds, s')
def ancOf (acc : List Nat) : List Edge → Nat
 | [] => 0
 | e :: es => (if Region.binds .any e then (1 <<< e.on) ||| acc.getD e.on 0 else 0) ||| ancOf acc es
def ancs : List Oper → List Nat → List Nat
 | [], acc => acc
 | o :: os, acc => ancs os (acc ++ [ancOf acc o.after.toList])
def Done.hits (x y : Done) : Bool :=
 (match y.dst with | some t => x.slots.contains t || x.dst == some t | none => false) || y.obs.any fun p => x.keys.contains p.1 || x.obs.any fun q => q.1 == p.1
def apartAll (anc : Nat) (x : Done) : List Done → Nat → Bool
 | [], _ => true
 | y :: ys, j => (anc.testBit j || !(x.hits y || y.hits x)) && apartAll anc x ys (j + 1)
def drawOkGo (before : List Done) : List Nat → List Done → Bool
 | a :: as, d :: ds => apartAll a d before 0 && drawOkGo (before ++ [d]) as ds
 | [], [] => true
 | _, _ => false
def backOk : List Oper → Nat → Bool
 | [], _ => true
 | o :: os, i => (o.after.toList.all fun e => !Region.binds .any e || decide (e.on < i)) && backOk os (i + 1)
def drawOk (ops : List Oper) (ds : List Done) : Bool := backOk ops 0 && drawOkGo [] (ancs ops []) ds
def doRegion (P : Program) (specs : List (Nat × Spec)) (N : Nat) (ops : Array Oper) (draw : Bool) (s : St) : Option (List PLt × St) :=
 match doOps P specs N ops s.m ops.toList s with
 | none => none
 | some (ds, s') => if !draw || drawOk ops.toList ds then some (ds.flatMap (·.lets), s') else none
end Go.CT
namespace Go.CT
open Go.RowKit
def CellsAt (w : World) (ad : Addr) (v : Value) (sz : Nat) : Prop :=
 v.cells.size = sz ∧ ∀ (i : Nat) (u : Value), v.cells[i]? = some u → w.cell? (ad.add i) = some u
inductive Rel (P : Program) (w : World) (O : Nat → Prop) : TypeId → IV → Value → Prop
 | int {t : TypeId} {k : IntKind} {n : Int} : P.underlying t = some (.int k) → Rel P w O t (.int n) (.int k n)
 | bool {t : TypeId} {b : Bool} : P.underlying t = some .bool → Rel P w O t (.bool b) (.bool b)
 | str {t : TypeId} {s : ByteArray} : P.underlying t = some .string → Rel P w O t (.str s) (.string s)
 | agg {t : TypeId} {ts : List TypeId} {xs : List IV} {cs : Array Value} : isAggT P t = true → leaves P t = some ts → xs.length = ts.length → cs.size = ts.length →
   (∀ (i : Nat) (u : TypeId), ts[i]? = some u → isAggT P u = false) →
   (∀ (i : Nat) (u : TypeId) (x : IV) (c : Value), ts[i]? = some u → xs[i]? = some x → cs[i]? = some c → Rel P w O u x c) →
   Rel P w O t (.agg xs) (.agg cs)
 | list {t e : TypeId} {xs : List IV} {A : Option Addr} {c : Nat} (vs : Nat → Value) : P.underlying t = some (.slice e) → xs.length ≤ c → xs.length ≤ maxLen →
   (0 < xs.length → 0 < sizeT P e ∧ ∃ ad, A = some ad ∧ ¬ O ad.block ∧ ∀ j, j < xs.length → CellsAt w (ad.add (j * sizeT P e)) (vs j) (sizeT P e)) →
   (∀ (j : Nat) (x : IV), xs[j]? = some x → Rel P w O e x (vs j)) →
   Rel P w O t (.list xs) (.slice A xs.length c)
theorem addr_block (ad : Addr) (n : Nat) : (ad.add n).block = ad.block := by unfold Addr.add; split <;> rfl
theorem addr_add_add (ad : Addr) (i j : Nat) : (ad.add i).add j = ad.add (i + j) := by
 unfold Addr.add
 by_cases hi : i = 0
 ·subst hi; simp
 ·by_cases hj : j = 0
  ·subst hj; simp [hi]
  ·have : ¬ (i + j = 0) := by omega
   simp [hi, hj, Nat.add_assoc]
theorem addr_add_zero (ad : Addr) : ad.add 0 = ad := by simp [Addr.add]
section
variable {P : Program} {w w' : World} {O O' : Nat → Prop} {t : TypeId} {x : IV} {v : Value}
theorem CellsAt.step {ad : Addr} {sz : Nat} (h : CellsAt w ad v sz) (hb : w'.heap[ad.block]? = w.heap[ad.block]?) : CellsAt w' ad v sz := by
 refine ⟨h.1, fun i u hu => ?_⟩
 rw [← h.2 i u hu]
 apply World.cell?_of_block
 rw [addr_block]
 exact hb
theorem CellsAt.lt {ad : Addr} {sz : Nat} (h : CellsAt w ad v sz) (h0 : 0 < sz) : ad.block < w.heap.size := by
 have h1 : 0 < v.cells.size := by rw [h.1]; exact h0
 have := World.block_lt_of_cell? w _ (h.2 0 _ (Array.getElem?_eq_getElem h1))
 rwa [addr_block] at this
def Stays (O : Nat → Prop) (w w' : World) : Prop := ∀ b, b < w.heap.size → ¬ O b → w'.heap[b]? = w.heap[b]?
theorem CellsAt.stays {ad : Addr} {sz : Nat} (h : CellsAt w ad v sz) (hw : Stays O w w') (ho : ¬ O ad.block) : CellsAt w' ad v sz := by
 by_cases hz : 0 < sz
 ·exact h.step (hw _ (h.lt hz) ho)
 ·refine ⟨h.1, fun i u hu => ?_⟩
  have := (Array.getElem?_eq_some_iff.1 hu).1
  have := h.1
  omega
theorem Rel.mono (h : Rel P w O t x v) (hO : ∀ b, b < w.heap.size → O' b → O b) (hw : Stays O w w') : Rel P w' O' t x v := by
 induction h with
 | int h => exact .int h
 | bool h => exact .bool h
 | str h => exact .str h
 | agg h1 h2 h3 h4 h5 _ ih => exact .agg h1 h2 h3 h4 h5 ih
 | list vs h1 h2 h3 h4 _ ih =>
  refine .list vs h1 h2 h3 (fun h0 => ?_) ih
  obtain ⟨hs, ad, rfl, ho, hc⟩ := h4 h0
  have hlt : ad.block < w.heap.size := by have := (hc 0 h0).lt hs; rwa [addr_block] at this
  exact ⟨hs, ad, rfl, fun h => ho (hO _ hlt h), fun j hj => (hc j hj).stays hw (by rwa [addr_block])⟩
theorem Stays.refl (O : Nat → Prop) (w : World) : Stays O w w := fun _ _ _ => rfl
theorem Rel.weaken (h : Rel P w O t x v) (hO : ∀ b, b < w.heap.size → O' b → O b) : Rel P w O' t x v := h.mono hO (Stays.refl _ _)
theorem intK_eq {k : IntKind} (h : intK P t = some k) : P.underlying t = some (.int k) := by
 unfold intK at h; split at h <;> simp_all
theorem isBool_eq (h : isBool P t = true) : P.underlying t = some .bool := by
 unfold isBool at h; split at h <;> simp_all
theorem isStr_eq (h : isStr P t = true) : P.underlying t = some .string := by
 unfold isStr at h; split at h <;> simp_all
theorem elemT_eq {e : TypeId} (h : elemT P t = some e) : P.underlying t = some (.slice e) := by
 unfold elemT at h; split at h <;> simp_all
theorem isAggT_of_int {k : IntKind} (h : P.underlying t = some (.int k)) : isAggT P t = false := by simp [isAggT, h]
theorem isAggT_of_bool (h : P.underlying t = some .bool) : isAggT P t = false := by simp [isAggT, h]
theorem isAggT_of_str (h : P.underlying t = some .string) : isAggT P t = false := by simp [isAggT, h]
theorem Rel.int_inv {k : IntKind} (h : Rel P w O t x v) (ht : P.underlying t = some (.int k)) : ∃ n, x = .int n ∧ v = .int k n := by
 cases h with
 | int h => rw [ht] at h; injection h with h; injection h with h; subst h; exact ⟨_, rfl, rfl⟩
 | bool h => rw [ht] at h; cases h
 | str h => rw [ht] at h; cases h
 | agg h => simp [isAggT, ht] at h
 | list _ h => rw [ht] at h; cases h
theorem Rel.bool_inv (h : Rel P w O t x v) (ht : P.underlying t = some .bool) : ∃ b, x = .bool b ∧ v = .bool b := by
 cases h with
 | int h => rw [ht] at h; cases h
 | bool h => exact ⟨_, rfl, rfl⟩
 | str h => rw [ht] at h; cases h
 | agg h => simp [isAggT, ht] at h
 | list _ h => rw [ht] at h; cases h
theorem Rel.str_inv (h : Rel P w O t x v) (ht : P.underlying t = some .string) : ∃ s, x = .str s ∧ v = .string s := by
 cases h with
 | int h => rw [ht] at h; cases h
 | bool h => rw [ht] at h; cases h
 | str h => exact ⟨_, rfl, rfl⟩
 | agg h => simp [isAggT, ht] at h
 | list _ h => rw [ht] at h; cases h
def Row (P : Program) (w : World) (O : Nat → Prop) (e : TypeId) (xs : List IV) (A : Option Addr) (c : Nat) : Prop :=
 xs.length ≤ c ∧ xs.length ≤ maxLen ∧ ∃ vs : Nat → Value,
  (0 < xs.length → 0 < sizeT P e ∧ ∃ ad, A = some ad ∧ ¬ O ad.block ∧ ∀ j, j < xs.length → CellsAt w (ad.add (j * sizeT P e)) (vs j) (sizeT P e)) ∧
  ∀ (j : Nat) (x : IV), xs[j]? = some x → Rel P w O e x (vs j)
theorem Rel.list_inv {e : TypeId} (h : Rel P w O t x v) (ht : P.underlying t = some (.slice e)) : ∃ xs A c, x = .list xs ∧ v = .slice A xs.length c ∧ Row P w O e xs A c := by
 cases h with
 | int h => rw [ht] at h; cases h
 | bool h => rw [ht] at h; cases h
 | str h => rw [ht] at h; cases h
 | agg h => simp [isAggT, ht] at h
 | list vs h h2 h3 h4 h5 =>
  rw [ht] at h; injection h with h; injection h with h; subst h
  exact ⟨_, _, _, rfl, rfl, h2, h3, vs, h4, h5⟩
theorem Row.rel {e : TypeId} {xs : List IV} {A : Option Addr} {c : Nat} (h : Row P w O e xs A c) (ht : P.underlying t = some (.slice e)) : Rel P w O t (.list xs) (.slice A xs.length c) := by
 obtain ⟨h1, h2, vs, h3, h4⟩ := h
 exact .list vs ht h1 h2 h3 h4
theorem Rel.agg_inv (h : Rel P w O t x v) (ht : isAggT P t = true) : ∃ ts xs cs, leaves P t = some ts ∧ x = .agg xs ∧ v = .agg cs ∧ xs.length = ts.length ∧ cs.size = ts.length ∧
  (∀ (i : Nat) (u : TypeId), ts[i]? = some u → isAggT P u = false) ∧
  ∀ (i : Nat) (u : TypeId) (x : IV) (c : Value), ts[i]? = some u → xs[i]? = some x → cs[i]? = some c → Rel P w O u x c := by
 cases h with
 | int h => simp [isAggT, h] at ht
 | bool h => simp [isAggT, h] at ht
 | str h => simp [isAggT, h] at ht
 | agg h1 h2 h3 h4 h5 h6 => exact ⟨_, _, _, h2, rfl, rfl, h3, h4, h5, h6⟩
 | list _ h => simp [isAggT, h] at ht
theorem Rel.one (h : Rel P w O t x v) (ht : isAggT P t = false) : v.oneCell' = true ∧ v.cells = #[v] := by
 cases h with
 | int h => exact ⟨rfl, rfl⟩
 | bool h => exact ⟨rfl, rfl⟩
 | str h => exact ⟨rfl, rfl⟩
 | agg h => simp [ht] at h
 | list _ h => exact ⟨rfl, rfl⟩
theorem Rel.cells_one (h : Rel P w O t x v) : ∀ u ∈ v.cells, u.oneCell' = true := by
 by_cases ht : isAggT P t = true
 ·obtain ⟨ts, xs, cs, h1, rfl, rfl, h3, h4, h5, h6⟩ := h.agg_inv ht
  intro u hu
  obtain ⟨i, hi, rfl⟩ := Array.mem_iff_getElem.1 hu
  have hi' : i < cs.size := hi
  have hx : i < xs.length := by omega
  have ht' : i < ts.length := by omega
  exact ((h6 i _ _ _ (List.getElem?_eq_getElem ht') (List.getElem?_eq_getElem hx) (Array.getElem?_eq_getElem hi')).one (h5 i _ (List.getElem?_eq_getElem ht'))).1
 ·have ht' : isAggT P t = false := by simpa using ht
  obtain ⟨h1, h2⟩ := h.one ht'
  intro u hu
  rw [h2] at hu
  simp at hu
  rw [hu]; exact h1
theorem Row.mono {e : TypeId} {xs : List IV} {A : Option Addr} {c : Nat} (h : Row P w O e xs A c) (hO : ∀ b, b < w.heap.size → O' b → O b) (hw : Stays O w w') : Row P w' O' e xs A c := by
 obtain ⟨h1, h2, vs, h3, h4⟩ := h
 refine ⟨h1, h2, vs, fun h0 => ?_, fun j x hx => (h4 j x hx).mono hO hw⟩
 obtain ⟨hs, ad, rfl, ho, hc⟩ := h3 h0
 have hlt : ad.block < w.heap.size := by have := (hc 0 h0).lt hs; rwa [addr_block] at this
 exact ⟨hs, ad, rfl, fun h => ho (hO _ hlt h), fun j hj => (hc j hj).stays hw (by rwa [addr_block])⟩
theorem Row.nil (e : TypeId) (A : Option Addr) (c : Nat) : Row P w O e [] A c := ⟨by simp, by simp, fun _ => .tuple #[], by simp, by simp⟩
theorem Row.at_ {e : TypeId} {xs : List IV} {A : Option Addr} {c : Nat} (h : Row P w O e xs A c) {j : Nat} {x : IV} (hx : xs[j]? = some x) :
  ∃ ad v, A = some ad ∧ ¬ O ad.block ∧ CellsAt w (ad.add (j * sizeT P e)) v (sizeT P e) ∧ Rel P w O e x v := by
 obtain ⟨h1, h2, vs, h3, h4⟩ := h
 have hj := (List.getElem?_eq_some_iff.1 hx).1
 obtain ⟨hs, ad, rfl, ho, hc⟩ := h3 (by omega)
 exact ⟨ad, vs j, rfl, ho, hc j hj, h4 j x hx⟩
theorem Row.part {e : TypeId} {xs : List IV} {A : Option Addr} {c : Nat} (h : Row P w O e xs A c) {l r : Nat} (hl : l ≤ r) (hr : r ≤ xs.length) :
  Row P w O e ((xs.take r).drop l) (if c = l then A else A.map (·.add (l * sizeT P e))) (c - l) := by
 obtain ⟨h1, h2, vs, h3, h4⟩ := h
 have hlen : ((xs.take r).drop l).length = r - l := by rw [List.length_drop, List.length_take]; omega
 refine ⟨by omega, by omega, fun j => vs (l + j), fun h0 => ?_, fun j x hx => ?_⟩
 ·obtain ⟨hs, ad, rfl, ho, hc⟩ := h3 (by omega)
  have hcl : c ≠ l := by omega
  refine ⟨hs, ad.add (l * sizeT P e), by simp [hcl], by rwa [addr_block], fun j hj => ?_⟩
  rw [addr_add_add, ← Nat.add_mul]
  exact hc (l + j) (by omega)
 ·have : xs[l + j]? = some x := by
   rw [List.getElem?_drop, List.getElem?_take] at hx
   split at hx <;> simp_all
  exact h4 _ _ this
def RowB (P : Program) (w : World) (O : Nat → Prop) (e : TypeId) (xs : List IV) (A : Option Addr) (c : Nat) : Prop :=
 xs.length ≤ c ∧ xs.length ≤ maxLen ∧ ∃ vs : Nat → Value,
  (0 < xs.length → 0 < sizeT P e ∧ ∃ ad, A = some ad ∧ ∀ j, j < xs.length → CellsAt w (ad.add (j * sizeT P e)) (vs j) (sizeT P e)) ∧
  ∀ (j : Nat) (x : IV), xs[j]? = some x → Rel P w O e x (vs j)
theorem Row.lent {e : TypeId} {xs : List IV} {A : Option Addr} {c : Nat} (h : Row P w O e xs A c) : RowB P w O e xs A c := by
 obtain ⟨h1, h2, vs, h3, h4⟩ := h
 exact ⟨h1, h2, vs, fun h0 => by obtain ⟨hs, ad, rfl, ho, hc⟩ := h3 h0; exact ⟨hs, ad, rfl, hc⟩, h4⟩
theorem RowB.row {e : TypeId} {xs : List IV} {A : Option Addr} {c : Nat} (h : RowB P w O e xs A c) (hO : ∀ b, b < w.heap.size → O' b → O b) (hA : ∀ ad, A = some ad → ¬ O' ad.block) : Row P w O' e xs A c := by
 obtain ⟨h1, h2, vs, h3, h4⟩ := h
 exact ⟨h1, h2, vs, fun h0 => by obtain ⟨hs, ad, rfl, hc⟩ := h3 h0; exact ⟨hs, ad, rfl, hA _ rfl, hc⟩, fun j x hx => (h4 j x hx).weaken hO⟩
theorem RowB.part {e : TypeId} {xs : List IV} {A : Option Addr} {c : Nat} (h : RowB P w O e xs A c) {l r : Nat} (hl : l ≤ r) (hr : r ≤ xs.length) :
  RowB P w O e ((xs.take r).drop l) (if c = l then A else A.map (·.add (l * sizeT P e))) (c - l) := by
 obtain ⟨h1, h2, vs, h3, h4⟩ := h
 have hlen : ((xs.take r).drop l).length = r - l := by rw [List.length_drop, List.length_take]; omega
 refine ⟨by omega, by omega, fun j => vs (l + j), fun h0 => ?_, fun j x hx => ?_⟩
 ·obtain ⟨hs, ad, rfl, hc⟩ := h3 (by omega)
  have hcl : c ≠ l := by omega
  refine ⟨hs, ad.add (l * sizeT P e), by simp [hcl], fun j hj => ?_⟩
  rw [addr_add_add, ← Nat.add_mul]
  exact hc (l + j) (by omega)
 ·have : xs[l + j]? = some x := by
   rw [List.getElem?_drop, List.getElem?_take] at hx
   split at hx <;> simp_all
  exact h4 _ _ this
theorem Row.nilB (e : TypeId) (A : Option Addr) (c : Nat) : RowB P w O e [] A c := (Row.nil (P := P) (w := w) (O := O) e A c).lent
def partV (P : Program) (t : TypeId) (cs : Array Value) (off : Nat) : Value :=
 if isAggT P t then .agg (cs.extract off (off + sizeT P t)) else cs.getD off undef
theorem run_isAgg {d : TypeDesc} (ht : P.underlying t = some d) : (isAgg t).run P w = .ok (isAggT P t) w := by
 unfold isAgg underlying isAggT
 simp [ht]
 cases d <;> rfl
theorem run_sizeOf {i : TypeInfo} (ht : P.info? t = some i) : (sizeOf t).run P w = .ok (sizeT P t) w := by
 unfold sizeOf typeInfo sizeT
 simp [ht]
theorem underlying_of_isAggT (h : isAggT P t = true) : ∃ d, P.underlying t = some d := by
 unfold isAggT at h
 cases hd : P.underlying t with
 | none => simp [hd] at h
 | some d => exact ⟨d, rfl⟩
theorem info_of_sizeT (h : 0 < sizeT P t) : ∃ i, P.info? t = some i := by
 unfold sizeT at h
 cases hd : P.info? t with
 | none => simp [hd] at h
 | some d => exact ⟨d, rfl⟩
theorem info_of_underlying' {d : TypeDesc} (h : P.underlying t = some d) : ∃ i, P.info? t = some i := by
 unfold Program.underlying at h
 cases hi : P.info? t with
 | none => simp [hi] at h
 | some i => exact ⟨i, rfl⟩
theorem run_loadVar_part {d : TypeDesc} {ad : Addr} {sz off : Nat} (hu : P.underlying t = some d) (h : CellsAt w ad v sz)
  (ha : isAggT P t = true → off + sizeT P t ≤ sz) (ho : isAggT P t = false → off < sz) :
  (loadVar t (ad.add off)).run P w = .ok (partV P t v.cells off) w := by
 unfold loadVar partV
 simp only [Sem.run_bind, run_isAgg hu, Result.andThen_ok]
 by_cases hagg : isAggT P t = true
 ·have hle := ha hagg
  obtain ⟨i, hi⟩ := info_of_underlying' hu
  simp only [hagg, if_true, Sem.run_bind, run_sizeOf hi, Result.andThen_ok]
  have hl := run_loadCells_list (P := P) w (ad.add off) ((v.cells.toList.drop off).take (sizeT P t)) (fun j u hj => by
   rw [List.getElem?_take] at hj
   split at hj
   ·rw [List.getElem?_drop] at hj
    rw [addr_add_add]
    exact h.2 _ _ (by simpa using hj)
   ·simp at hj)
  have hlen : ((v.cells.toList.drop off).take (sizeT P t)).length = sizeT P t := by
   rw [List.length_take, List.length_drop, Array.length_toList, h.1]; omega
  rw [hlen] at hl
  rw [hl]
  simp only [Result.andThen_ok, Sem.run_pure]
  congr 2
  apply Array.ext'
  simp [Array.toList_extract, List.extract]
 ·have hagg' : isAggT P t = false := by simpa using hagg
  have hlt := ho hagg'
  rw [← h.1] at hlt
  simp [hagg', h.2 off _ (Array.getElem?_eq_getElem hlt)]
  simp [hlt]
theorem Rel.partV_self (h : Rel P w O t x v) (hs : v.cells.size = sizeT P t) : partV P t v.cells 0 = v := by
 unfold partV
 by_cases ht : isAggT P t = true
 ·obtain ⟨ts, xs, cs, h1, rfl, rfl, h3, h4, h5, h6⟩ := h.agg_inv ht
  simp only [ht, if_true]
  congr 1
  have : cs.size = sizeT P t := hs
  simp [Value.cells, ← this]
 ·have ht' : isAggT P t = false := by simpa using ht
  rw [(h.one ht').2]
  simp [ht']
theorem Rel.partV {t0 : TypeId} {off : Nat} (h : Rel P w O t0 x v) (ht0 : isAggT P t0 = true) (hp : partOk P t0 off t = true) {y : IV}
  (hy : Prim.ev (.proj off (sizeT P t) (isAggT P t)) [x] = some y) : Rel P w O t y (partV P t v.cells off) ∧ 0 < sizeT P t ∧ off + sizeT P t ≤ v.cells.size := by
 obtain ⟨ts, xs, cs, h1, rfl, rfl, h3, h4, h5, h6⟩ := h.agg_inv ht0
 unfold partOk at hp
 rw [h1] at hp
 cases hus : leaves P t with
 | none => simp [hus] at hp
 | some us =>
  simp only [hus, Bool.and_eq_true, beq_iff_eq, decide_eq_true_eq] at hp
  obtain ⟨⟨hp1, hp2⟩, hp3⟩ := hp
  have hlen : off + us.length ≤ ts.length := by
   have := congrArg List.length hp1
   rw [List.length_take, List.length_drop] at this
   omega
  refine ⟨?_, by omega, by show off + _ ≤ cs.size; omega⟩
  have hget : ∀ (i : Nat) (u : TypeId), us[i]? = some u → ts[off + i]? = some u := by
   intro i u hu
   rw [← hp1, List.getElem?_take] at hu
   split at hu
   ·rwa [List.getElem?_drop] at hu
   ·simp at hu
  unfold CT.partV
  by_cases hagg : isAggT P t = true
  ·simp only [hagg, if_true, Prim.ev, Option.some.injEq] at hy ⊢
   subst hy
   refine .agg hagg hus ?_ ?_ (fun i u hu => h5 _ _ (hget i u hu)) (fun i u x c hu hx hc => ?_)
   ·rw [List.length_take, List.length_drop]; omega
   ·simp [Value.cells]; omega
   ·refine h6 (off + i) u x c (hget i u hu) ?_ ?_
    ·rw [List.getElem?_take] at hx
     split at hx
     ·rwa [List.getElem?_drop] at hx
     ·simp at hx
    ·rw [Array.getElem?_extract] at hc
     split at hc
     ·simpa [Value.cells] using hc
     ·simp at hc
  ·have hagg' : isAggT P t = false := by simpa using hagg
   simp only [hagg', Prim.ev, Bool.false_eq_true, if_false] at hy ⊢
   -- one cell
   have hu1 : us = [t] := by
    have hl : ∀ (d : Nat), leafTs P (d + 1) t = some us → us = [t] := by
     intro d hd
     unfold leafTs at hd
     cases hun : P.underlying t with
     | none => simp [hun] at hd
     | some de => cases de <;> simp_all [isAggT]
    exact hl 11 hus
   subst hu1
   have ht := hget 0 t rfl
   have hoff : off < cs.size := by simp at hlen; omega
   refine h6 off t y _ (by simpa using ht) hy ?_
   simp [Value.cells, Array.getD, hoff]
end
end Go.CT
namespace Go.CT
def cur (S : View) (obs : List (Nat × Option Ob)) (k : Nat) : Option Ob :=
 match lookOb k obs with
 | some o => o
 | none => S.ob k
def Ev {α : Type} (S : View) (f : EM α) (es : ES) (x : α) (es' : ES) (ls : List PLt) : Prop := ∃ sl ks, (f es).run S = some ((x, es'), ls, sl, ks)
section
variable {α β : Type} {S : View} {es es' : ES} {ls : List PLt}
theorem RM.run_bind (r : RM α) (f : α → RM β) : (r.bind f).run S = (r.run S).bind fun (a, e, l, k) => ((f a).run S).map fun (b, e', l', k') => (b, e ++ e', l ++ l', k ++ k') := by
 induction r with
 | pure a => simp [RM.bind, RM.run]
 | tm s k ih =>
  simp only [RM.bind, RM.run, ih]
  cases (k (S.tm s)).run S with
  | none => rfl
  | some r => obtain ⟨a, e, l, r⟩ := r; simp; cases (f a).run S <;> simp
 | ob s k ih =>
  simp only [RM.bind, RM.run, ih]
  cases (k (S.ob s)).run S with
  | none => rfl
  | some r => obtain ⟨a, e, l, r⟩ := r; simp; cases (f a).run S <;> simp
 | emit t k ih =>
  simp only [RM.bind, RM.run, ih]
  cases k.run S with
  | none => rfl
  | some r => obtain ⟨a, e, l, r⟩ := r; simp; cases (f a).run S <;> simp
 | fail => rfl
theorem Ev_pure {a x : α} : Ev S (pure a) es x es' ls ↔ x = a ∧ es = es' ∧ ls = [] := by
 show (∃ sl ks, some _ = some _) ↔ _
 constructor
 ·rintro ⟨sl, ks, h⟩
  simp only [Option.some.injEq, Prod.mk.injEq] at h
  exact ⟨h.1.1.symm, h.1.2, h.2.1.symm⟩
 ·rintro ⟨rfl, rfl, rfl⟩
  exact ⟨[], [], rfl⟩
theorem Ev_bind {x : EM α} {f : α → EM β} {r : β} : Ev S (x >>= f) es r es' ls ↔ ∃ a es1 l1 l2, Ev S x es a es1 l1 ∧ Ev S (f a) es1 r es' l2 ∧ ls = l1 ++ l2 := by
 unfold Ev
 have hb : (x >>= f) es = (x es).bind fun (a, s') => f a s' := rfl
 constructor
 ·rintro ⟨sl, ks, h⟩
  rw [hb, RM.run_bind] at h
  cases hx : (x es).run S with
  | none => simp [hx] at h
  | some y =>
   obtain ⟨⟨a, es1⟩, l1, s1, k1⟩ := y
   simp only [hx, Option.bind_some] at h
   cases hf : (f a es1).run S with
   | none => simp [hf] at h
   | some z =>
    obtain ⟨⟨b, es2⟩, l2, s2, k2⟩ := z
    simp only [hf, Option.map_some, Option.some.injEq, Prod.mk.injEq] at h
    obtain ⟨⟨rfl, rfl⟩, rfl, _, _⟩ := h
    exact ⟨a, es1, l1, l2, ⟨s1, k1, rfl⟩, ⟨s2, k2, hf⟩, rfl⟩
 ·rintro ⟨a, es1, l1, l2, ⟨s1, k1, h1⟩, ⟨s2, k2, h2⟩, rfl⟩
  refine ⟨s1 ++ s2, k1 ++ k2, ?_⟩
  rw [hb, RM.run_bind, h1]
  simp [h2]
theorem Ev_fail {x : α} : Ev S (EM.fail : EM α) es x es' ls ↔ False := by
 constructor
 ·rintro ⟨sl, ks, h⟩; simp [EM.fail, RM.run] at h
 ·exact False.elim
theorem Ev_getTm {s : Nat} {x : SV} : Ev S (EM.getTm s) es x es' ls ↔ x = S.tm s ∧ es = es' ∧ ls = [] := by
 constructor
 ·rintro ⟨sl, ks, h⟩
  simp only [EM.getTm, RM.run, Option.map_some, Option.some.injEq, Prod.mk.injEq] at h
  exact ⟨h.1.1.symm, h.1.2, h.2.1.symm⟩
 ·rintro ⟨rfl, rfl, rfl⟩
  exact ⟨[s], [], rfl⟩
theorem Ev_getOb {k : Nat} {x : Ob} : Ev S (EM.getOb k) es x es' ls ↔ cur S es.obs k = some x ∧ es = es' ∧ ls = [] := by
 unfold Ev EM.getOb cur
 cases h1 : lookOb k es.obs with
 | some o =>
  cases o with
  | some o =>
   simp only [RM.run, Option.some.injEq, Prod.mk.injEq]
   constructor
   ·rintro ⟨sl, ks, ⟨h, h'⟩, rfl, _⟩; simp_all
   ·rintro ⟨h, rfl, rfl⟩; exact ⟨[], [], by simp_all⟩
  | none => simp [RM.run]
 | none =>
  simp only [RM.run]
  cases h2 : S.ob k with
  | none => simp [RM.run]
  | some o =>
   simp only [RM.run, Option.map_some, Option.some.injEq, Prod.mk.injEq]
   constructor
   ·rintro ⟨sl, ks, ⟨h, h'⟩, rfl, _⟩; simp_all
   ·rintro ⟨h, rfl, rfl⟩; exact ⟨[], [k], by simp_all⟩
theorem Ev_ofOption {o : Option α} {x : α} : Ev S (EM.ofOption o) es x es' ls ↔ o = some x ∧ es = es' ∧ ls = [] := by
 unfold Ev EM.ofOption
 cases o with
 | none => simp [RM.run]
 | some o =>
  simp only [RM.run, Option.some.injEq, Prod.mk.injEq]
  constructor
  ·rintro ⟨sl, ks, ⟨h, h'⟩, rfl, _⟩; simp_all
  ·rintro ⟨h, rfl, rfl⟩; exact ⟨[], [], by simp_all⟩
theorem Ev_guard {b : Bool} {x : Unit} : Ev S (EM.guard b) es x es' ls ↔ b = true ∧ es = es' ∧ ls = [] := by
 unfold Ev EM.guard
 cases b with
 | false => simp [RM.run]
 | true =>
  simp only [RM.run, if_true, Option.some.injEq, Prod.mk.injEq]
  constructor
  ·rintro ⟨sl, ks, ⟨h, h'⟩, rfl, _⟩; simp_all
  ·rintro ⟨_, rfl, rfl⟩; exact ⟨[], [], by simp_all⟩
theorem Ev_emit {l : PLet} {x : Nat} : Ev S (EM.emit l) es x es' ls ↔ x = es.n ∧ es' = { es with n := es.n + l.arity } ∧ ls = [⟨es.n, ⟨es.gs, l⟩⟩] := by
 unfold Ev EM.emit
 simp only [RM.run, Option.map_some, Option.some.injEq, Prod.mk.injEq]
 constructor
 ·rintro ⟨sl, ks, ⟨h, h'⟩, rfl, _⟩; exact ⟨h.symm, h'.symm, rfl⟩
 ·rintro ⟨rfl, rfl, rfl⟩; exact ⟨[], [], ⟨rfl, rfl⟩, rfl, rfl, rfl⟩
theorem Ev_setOb {k : Nat} {o : Option Ob} {x : Unit} : Ev S (EM.setOb k o) es x es' ls ↔ es' = { es with obs := (k, o) :: es.obs } ∧ ls = [] := by
 unfold Ev EM.setOb
 simp only [RM.run, Option.some.injEq, Prod.mk.injEq]
 constructor
 ·rintro ⟨sl, ks, ⟨h, h'⟩, rfl, _⟩; simp_all
 ·rintro ⟨rfl, rfl⟩; exact ⟨[], [], by simp⟩
theorem Ev_newKey {x : Nat} : Ev S EM.newKey es x es' ls ↔ x = es.m ∧ es' = { es with m := es.m + 1 } ∧ ls = [] := by
 unfold Ev EM.newKey
 simp only [RM.run, Option.some.injEq, Prod.mk.injEq]
 constructor
 ·rintro ⟨sl, ks, ⟨h, h'⟩, rfl, _⟩; exact ⟨h.symm, h'.symm, rfl⟩
 ·rintro ⟨rfl, rfl, rfl⟩; exact ⟨[], [], ⟨rfl, rfl⟩, rfl, rfl, rfl⟩
theorem Ev_guards {x : List (Arg × Bool)} : Ev S EM.guards es x es' ls ↔ x = es.gs ∧ es = es' ∧ ls = [] := by
 unfold Ev EM.guards
 simp only [RM.run, Option.some.injEq, Prod.mk.injEq]
 constructor
 ·rintro ⟨sl, ks, ⟨h, h'⟩, rfl, _⟩; exact ⟨h.symm, h', rfl⟩
 ·rintro ⟨rfl, rfl, rfl⟩; exact ⟨[], [], ⟨rfl, rfl⟩, rfl, rfl, rfl⟩
theorem Ev_bare {x : Unit} : Ev S EM.bare es x es' ls ↔ es.gs = [] ∧ es = es' ∧ ls = [] := by
 unfold Ev EM.bare
 cases hg : es.gs with
 | nil =>
  simp only [RM.run, Option.some.injEq, Prod.mk.injEq]
  constructor
  ·rintro ⟨sl, ks, ⟨h, h'⟩, rfl, _⟩; simp_all
  ·rintro ⟨_, rfl, rfl⟩; exact ⟨[], [], by simp_all⟩
 | cons => simp [RM.run]
theorem Ev_prim {p : Prim} {as : List Arg} {x : Arg} : Ev S (EM.prim p as) es x es' ls ↔ x = .v es.n ∧ es' = { es with n := es.n + 1 } ∧ ls = [⟨es.n, ⟨es.gs, .prim p as⟩⟩] := by
 unfold EM.prim
 rw [Ev_bind]
 constructor
 ·rintro ⟨a, es1, l1, l2, h1, h2, rfl⟩
  rw [Ev_emit] at h1; rw [Ev_pure] at h2
  obtain ⟨rfl, rfl, rfl⟩ := h1
  obtain ⟨rfl, rfl, rfl⟩ := h2
  exact ⟨rfl, rfl, rfl⟩
 ·rintro ⟨rfl, rfl, rfl⟩
  exact ⟨_, _, _, _, Ev_emit.2 ⟨rfl, rfl, rfl⟩, Ev_pure.2 ⟨rfl, rfl, rfl⟩, rfl⟩
theorem Ev_ite {c : Prop} [Decidable c] {f g : EM α} {x : α} : Ev S (if c then f else g) es x es' ls ↔ (c ∧ Ev S f es x es' ls) ∨ (¬ c ∧ Ev S g es x es' ls) := by
 by_cases h : c <;> simp [h]
end
def LetOk (R : Job → List IV → Option (List IV)) (ρ : List IV) (l : PLt) : Prop :=
 ∃ xs, l.l.ev R ρ = some xs ∧ ∀ i, i < l.l.l.arity → ρ[l.n + i]? = xs[i]?
def LH (R : Job → List IV → Option (List IV)) (ρ : List IV) (ls : List PLt) : Prop := ∀ l ∈ ls, LetOk R ρ l
theorem LH.left {R : Job → List IV → Option (List IV)} {ρ : List IV} {l1 l2 : List PLt} (h : LH R ρ (l1 ++ l2)) : LH R ρ l1 := fun l hl => h l (List.mem_append_left _ hl)
theorem LH.right {R : Job → List IV → Option (List IV)} {ρ : List IV} {l1 l2 : List PLt} (h : LH R ρ (l1 ++ l2)) : LH R ρ l2 := fun l hl => h l (List.mem_append_right _ hl)
theorem LH.prim {R : Job → List IV → Option (List IV)} {ρ : List IV} {n : Nat} {gs : List (Arg × Bool)} {p : Prim} {as : List Arg} (h : LH R ρ [⟨n, ⟨gs, .prim p as⟩⟩]) (hg : holds ρ gs = some true) :
  ∃ vs y, Arg.evs ρ as = some vs ∧ p.ev vs = some y ∧ Arg.ev ρ (.v n) = some y := by
 obtain ⟨xs, h1, h2⟩ := h _ (List.mem_singleton.2 rfl)
 simp only [GLet.ev, hg, Option.bind_some, if_true, PLet.ev] at h1
 cases hv : Arg.evs ρ as with
 | none => simp [hv] at h1
 | some vs =>
  simp only [hv, Option.bind_some] at h1
  cases hy : p.ev vs with
  | none => simp [hy] at h1
  | some y =>
   simp only [hy, Option.map_some, Option.some.injEq] at h1
   subst h1
   have := h2 0 (by simp [PLet.arity])
   exact ⟨vs, y, rfl, hy, by simpa [Arg.ev] using this⟩
def blk : Value → Option Nat
 | .slice (some a) _ _ => some a.block
 | .pointer (some a) => some a.block
 | .map (some r) => some r
 | _ => none
def Ob.isOwn : Ob → Bool
 | .box _ _ => true
 | .arr .. => true
 | .frz .. => false
 | .iter .. => true
 | .mp .. => true
def Wr (ob : Nat → Option Ob) (μ : Nat → Value) (b : Nat) : Prop := ∃ k o, ob k = some o ∧ o.isOwn = true ∧ blk (μ k) = some b
structure Cx where
 P : Program
 ρ : List IV
 μ : Nat → Value
 w : World
 O : Nat → Prop     -- data lie outside
 W : Nat → Prop     -- what this call may write
def DRel (c : Cx) (x : Arg) (t : TypeId) (v : Value) : Prop := ∃ iv, x.ev c.ρ = some iv ∧ Rel c.P c.w c.O t iv v
def PRel (c : Cx) : PV → Value → Prop
 | .p k off, v => ∃ b, c.μ k = .pointer (some ⟨b, 0, none⟩) ∧ v = .pointer (some ((⟨b, 0, none⟩ : Addr).add off))
 | .el k e i off, v => ∃ g n cap j, c.μ k = .slice (some ⟨g, 0, none⟩) n cap ∧ i.ev c.ρ = some (.int (j : Nat)) ∧ j < n ∧
   v = .pointer (some ((⟨g, 0, none⟩ : Addr).add (j * sizeT c.P e + off)))
 | .im x t off, v => ∃ ad u, DRel c x t u ∧ CellsAt c.w ad u (sizeT c.P t) ∧ 0 < sizeT c.P t ∧ ¬ c.W ad.block ∧ v = .pointer (some (ad.add off))
def PRels (c : Cx) : List PV → List Value → Prop
 | [], [] => True
 | p :: ps, v :: vs => PRel c p v ∧ PRels c ps vs
 | _, _ => False
def LRel (c : Cx) : LV → Value → Prop
 | .at x t, v => DRel c x t v
 | .nil _, v => v = .slice none 0 0
 | .ref k _, v => v = c.μ k ∧ ∃ A n cap, v = .slice A n cap
 | .sub k lo hi t, v => ∃ (A : Option Addr) (n cap l h : Nat) (e : TypeId), c.P.underlying t = some (.slice e) ∧ c.μ k = .slice A n cap ∧ lo.ev c.ρ = some (.int l) ∧ hi.ev c.ρ = some (.int h) ∧ l ≤ h ∧ h ≤ n ∧
   v = .slice (if cap = l then A else A.map (·.add (l * sizeT c.P e))) (h - l) (cap - l)
 | .ptr p, v => PRel c p v
 | .fn f ps, v => ∃ vs : Array Value, v = .func (.func f) #[] vs ∧ PRels c ps vs.toList
 | .mref k _, v => v = c.μ k ∧ ∃ r, v = .map (some r)
 | .cl x t, v => DRel c x t v ∧ ∃ A n, v = .slice A n n
 | .st x t, v => DRel c x t v ∧ ∃ ys A cap, x.ev c.ρ = some (.list ys) ∧ v = .slice A ys.length cap ∧ (ys = [] → v = .slice none 0 0)
 | .hid k, v => v = .pointer none ∨ (v = c.μ k ∧ ∃ a, v = .pointer (some a))
 | .junk, _ => True
def CRel (c : Cx) (l : LV) (v : Value) : Prop := v.oneCell' = true ∧ LRel c l v
def CRels (c : Cx) : List LV → List Value → Prop
 | [], [] => True
 | l :: ls, v :: vs => CRel c l v ∧ CRels c ls vs
 | _, _ => False
def VRel (c : Cx) : VV → Value → Prop
 | .leaf l, v => LRel c l v
 | .agg _ ls, v => ∃ cs : Array Value, v = .agg cs ∧ CRels c ls cs.toList
def VRels (c : Cx) : List VV → List Value → Prop
 | [], [] => True
 | l :: ls, v :: vs => VRel c l v ∧ VRels c ls vs
 | _, _ => False
def XRel (c : Cx) : SX → Value → Prop
 | .one v, u => VRel c v u
 | .tup vs, u => ∃ us : Array Value, u = .tuple us ∧ VRels c vs us.toList
 | .nx ok i r, u => ∃ (b : Bool) (n m : Int), ok.ev c.ρ = some (.bool b) ∧ i.ev c.ρ = some (.int n) ∧ r.ev c.ρ = some (.int m) ∧ u = .tuple (if b then #[.bool true, .int .i64 n, .int .i32 m] else #[.bool false])
def SRel (c : Cx) (s : SV) (v : Value) : Prop := ∃ b, holds c.ρ s.gs = some b ∧ (b = true → XRel c s.x v) ∧ (b = false → v = undef)
def Elems (P : Program) (w : World) (O : Nat → Prop) (e : TypeId) (ivs : List IV) (cs : List Value) : Prop :=
 ∀ (j : Nat) (x : IV), ivs[j]? = some x → ∃ v : Value, Rel P w O e x v ∧ v.cells.toList = (cs.drop (j * sizeT P e)).take (sizeT P e) ∧ v.cells.size = sizeT P e
def MapsTo (P : Program) (w : World) (O : Nat → Prop) (kt vt : TypeId) : List IV → List MapEntry → Prop
 | [], [] => True
 | x :: xs, e :: es => (∃ a b, x = .agg [a, b] ∧ Rel P w O kt a e.key ∧ Rel P w O vt b e.val) ∧ MapsTo P w O kt vt xs es
 | _, _ => False
def ObOk (c : Cx) (k : Nat) : Ob → Prop
 | .box t vv => ∃ b v, c.μ k = .pointer (some ⟨b, 0, none⟩) ∧ c.w.heap[b]? = some (.cells v.cells t (0, 0)) ∧ v.cells.size = sizeT c.P t ∧
   (if isAggT c.P t then ∃ cs, v = .agg cs else v.oneCell' = true) ∧ (∀ u ∈ v.cells, u.oneCell' = true) ∧ VRel c vv v
 | .arr e t a => ∃ ivs cs, a.ev c.ρ = some (.list ivs) ∧ c.P.underlying t = some (.slice e) ∧ 0 < sizeT c.P e ∧ c.w.ownsRow 0 e (sizeT c.P e) (c.μ k) ivs.length cs ∧ Elems c.P c.w c.O e ivs cs ∧
   (∀ u ∈ cs, u.oneCell' = true)
 | .frz e t a => c.P.underlying t = some (.slice e) ∧ DRel c a t (c.μ k)
 | .iter s p => ∃ (b n : Nat) (bs : ByteArray), c.μ k = .pointer (some ⟨b, 0, none⟩) ∧ c.w.heap[b]? = some (.stringIter bs n) ∧ s.ev c.ρ = some (.str bs) ∧ p.ev c.ρ = some (.int n)
 | .mp t kt vt a => ∃ (r cl : Nat) (es : Array MapEntry) (ivs : List IV), c.μ k = .map (some r) ∧ c.w.heap[r]? = some (.map es cl) ∧ c.P.underlying t = some (.map kt vt) ∧ keyT c.P kt = true ∧ a.ev c.ρ = some (.list ivs) ∧ MapsTo c.P c.w c.O kt vt ivs es.toList
def cxOf (P : Program) (X : Nat → Prop) (ρ : List IV) (ob : Nat → Option Ob) (μ : Nat → Value) (w : World) : Cx :=
 { P, ρ, μ, w, O := fun b => X b ∨ Wr ob μ b, W := Wr ob μ }
structure Good (P : Program) (N : Nat) (X : Nat → Prop) (ρ : List IV) (K : Nat → Prop) (tm : Nat → SV) (ob : Nat → Option Ob) (μ : Nat → Value) (a : Act) (w : World) : Prop where
 size : a.tmps.size = N
 defers : a.defers = []
 slot : ∀ s, SRel (cxOf P X ρ ob μ w) (tm s) (a.tmps.getD s undef)
 obj : ∀ k o, ob k = some o → ObOk (cxOf P X ρ ob μ w) k o
 sep : ∀ k k' o o' b, ob k = some o → ob k' = some o' → o.isOwn = true → o'.isOwn = true → blk (μ k) = some b → blk (μ k') = some b → k = k'
 xsep : ∀ k o b, ob k = some o → o.isOwn = true → blk (μ k) = some b → ¬ X b
 xlt : ∀ b, X b → b < w.heap.size
 kt : ∀ s k, k ∈ keysSX (tm s).x → K k
 ko : ∀ k o, ob k = some o → K k ∧ ∀ k' ∈ keysOb o, K k'
end Go.CT
namespace Go.CT
structure Later (K : Nat → Prop) (c c' : Cx) : Prop where
 P : c'.P = c.P
 ρ : ∀ (n : Nat) (y : IV), c.ρ[n]? = some y → c'.ρ[n]? = some y
 μ : ∀ k, K k → c'.μ k = c.μ k
 stays : Stays c.W c.w c'.w
 O : ∀ b, b < c.w.heap.size → c'.O b → c.O b
 W : ∀ b, b < c.w.heap.size → c'.W b → c.W b
 WO : ∀ b, c.W b → c.O b
section
variable {K : Nat → Prop} {c c' : Cx}
theorem Arg.ev_later {ρ ρ' : List IV} (h : ∀ (n : Nat) (y : IV), ρ[n]? = some y → ρ'[n]? = some y) {x : Arg} {y : IV} (hx : x.ev ρ = some y) : x.ev ρ' = some y := by
 cases x with
 | v n => exact h n y hx
 | k c => exact hx
theorem holds_later {ρ ρ' : List IV} (h : ∀ (n : Nat) (y : IV), ρ[n]? = some y → ρ'[n]? = some y) : ∀ {gs : List (Arg × Bool)} {b : Bool}, holds ρ gs = some b → holds ρ' gs = some b
 | [], _, hx => hx
 | (a, want) :: gs, b, hx => by
  unfold holds at hx ⊢
  cases ha : a.ev ρ with
  | none => simp [ha] at hx
  | some y =>
   rw [Arg.ev_later h ha]
   simp only [ha] at hx
   cases y <;> simp_all
   split <;> simp_all
   exact holds_later h hx
theorem Later.rel (h : Later K c c') {t : TypeId} {x : IV} {v : Value} (hr : Rel c.P c.w c.O t x v) : Rel c'.P c'.w c'.O t x v := by
 rw [h.P]
 exact hr.mono h.O (fun b hb ho => h.stays b hb fun hw => ho (h.WO b hw))
theorem Later.drel (h : Later K c c') {x : Arg} {t : TypeId} {v : Value} (hr : DRel c x t v) : DRel c' x t v := by
 obtain ⟨iv, h1, h2⟩ := hr
 exact ⟨iv, Arg.ev_later h.ρ h1, h.rel h2⟩
theorem Later.prel (h : Later K c c') {p : PV} {v : Value} (hk : ∀ k ∈ keysPV p, K k) (hr : PRel c p v) : PRel c' p v := by
 cases p with
 | p k off =>
  obtain ⟨b, h1, h2⟩ := hr
  exact ⟨b, by rw [h.μ k (hk k (by simp [keysPV]))]; exact h1, h2⟩
 | el k e i off =>
  obtain ⟨g, n, cap, j, h1, h2, h3, h4⟩ := hr
  exact ⟨g, n, cap, j, by rw [h.μ k (hk k (by simp [keysPV]))]; exact h1, Arg.ev_later h.ρ h2, h3, by rw [h.P]; exact h4⟩
 | im x t off =>
  obtain ⟨ad, u, h1, h2, hs, h3, h4⟩ := hr
  have hlt := h2.lt hs
  exact ⟨ad, u, h.drel h1, by rw [h.P]; exact h2.stays h.stays h3, by rw [h.P]; exact hs, fun hw => h3 (h.W _ hlt hw), h4⟩
theorem Later.prels (h : Later K c c') : ∀ {ps : List PV} {vs : List Value}, (∀ k ∈ ps.flatMap keysPV, K k) → PRels c ps vs → PRels c' ps vs
 | [], [], _, _ => trivial
 | p :: ps, v :: vs, hk, hr => ⟨h.prel (fun k hm => hk k (by simp [hm])) hr.1, h.prels (fun k hm => hk k (by rw [List.flatMap_cons]; exact List.mem_append_right _ hm)) hr.2⟩
 | [], _ :: _, _, hr => hr.elim
 | _ :: _, [], _, hr => hr.elim
theorem Later.lrel (h : Later K c c') {l : LV} {v : Value} (hk : ∀ k ∈ keysLV l, K k) (hr : LRel c l v) : LRel c' l v := by
 cases l with
 | «at» x t => exact h.drel hr
 | nil t => exact hr
 | ref k t => exact ⟨by rw [h.μ k (hk k (by simp [keysLV]))]; exact hr.1, hr.2⟩
 | sub k lo hi t =>
  obtain ⟨A, n, cap, l, r, e, h0, h1, h2, h3, h4⟩ := hr
  exact ⟨A, n, cap, l, r, e, by rw [h.P]; exact h0, by rw [h.μ k (hk k (by simp [keysLV]))]; exact h1, Arg.ev_later h.ρ h2, Arg.ev_later h.ρ h3, by rw [h.P]; exact h4⟩
 | ptr p => exact h.prel hk hr
 | fn f ps =>
  obtain ⟨vs, h1, h2⟩ := hr
  exact ⟨vs, h1, h.prels hk h2⟩
 | mref k t => exact ⟨by rw [h.μ k (hk k (by simp [keysLV]))]; exact hr.1, hr.2⟩
 | cl x t => exact ⟨h.drel hr.1, hr.2⟩
 | st x t =>
  obtain ⟨h1, ys, A, cap, h2, h3, h4⟩ := hr
  exact ⟨h.drel h1, ys, A, cap, Arg.ev_later h.ρ h2, h3, h4⟩
 | hid k => exact hr.imp id fun hr => ⟨by rw [h.μ k (hk k (by simp [keysLV]))]; exact hr.1, hr.2⟩
 | junk => trivial
theorem Later.crels (h : Later K c c') : ∀ {ls : List LV} {vs : List Value}, (∀ k ∈ ls.flatMap keysLV, K k) → CRels c ls vs → CRels c' ls vs
 | [], [], _, _ => trivial
 | p :: ps, v :: vs, hk, hr => ⟨⟨hr.1.1, h.lrel (fun k hm => hk k (by simp [hm])) hr.1.2⟩, h.crels (fun k hm => hk k (by rw [List.flatMap_cons]; exact List.mem_append_right _ hm)) hr.2⟩
 | [], _ :: _, _, hr => hr.elim
 | _ :: _, [], _, hr => hr.elim
theorem Later.vrel (h : Later K c c') {x : VV} {v : Value} (hk : ∀ k ∈ keysVV x, K k) (hr : VRel c x v) : VRel c' x v := by
 cases x with
 | leaf l => exact h.lrel hk hr
 | agg t ls =>
  obtain ⟨cs, h1, h2⟩ := hr
  exact ⟨cs, h1, h.crels hk h2⟩
theorem Later.vrels (h : Later K c c') : ∀ {ls : List VV} {vs : List Value}, (∀ k ∈ ls.flatMap keysVV, K k) → VRels c ls vs → VRels c' ls vs
 | [], [], _, _ => trivial
 | p :: ps, v :: vs, hk, hr => ⟨h.vrel (fun k hm => hk k (by simp [hm])) hr.1, h.vrels (fun k hm => hk k (by rw [List.flatMap_cons]; exact List.mem_append_right _ hm)) hr.2⟩
 | [], _ :: _, _, hr => hr.elim
 | _ :: _, [], _, hr => hr.elim
theorem Later.xrel (h : Later K c c') {x : SX} {v : Value} (hk : ∀ k ∈ keysSX x, K k) (hr : XRel c x v) : XRel c' x v := by
 cases x with
 | one x => exact h.vrel hk hr
 | tup vs =>
  obtain ⟨us, h1, h2⟩ := hr
  exact ⟨us, h1, h.vrels hk h2⟩
 | nx ok i r =>
  obtain ⟨b, n, m, h1, h2, h3, h4⟩ := hr
  exact ⟨b, n, m, Arg.ev_later h.ρ h1, Arg.ev_later h.ρ h2, Arg.ev_later h.ρ h3, h4⟩
theorem Later.srel (h : Later K c c') {x : SV} {v : Value} (hk : ∀ k ∈ keysSX x.x, K k) (hr : SRel c x v) : SRel c' x v := by
 obtain ⟨b, h1, h2, h3⟩ := hr
 exact ⟨b, holds_later h.ρ h1, fun hb => h.xrel hk (h2 hb), h3⟩
theorem Later.elems (h : Later K c c') {e : TypeId} {ivs : List IV} {cs : List Value} (hr : Elems c.P c.w c.O e ivs cs) : Elems c'.P c'.w c'.O e ivs cs := by
 intro j x hx
 obtain ⟨v, h1, h2, h3⟩ := hr j x hx
 exact ⟨v, h.rel h1, by rw [h.P]; exact h2, by rw [h.P]; exact h3⟩
theorem MapsTo.imp {P P' : Program} {w w' : World} {O O' : Nat → Prop} {kt vt : TypeId} (h : ∀ (t : TypeId) (x : IV) (v : Value), Rel P w O t x v → Rel P' w' O' t x v) : ∀ {xs : List IV} {es : List MapEntry}, MapsTo P w O kt vt xs es → MapsTo P' w' O' kt vt xs es
 | [], [], _ => trivial
 | _ :: _, _ :: _, ⟨⟨a, b, h1, h2, h3⟩, hr⟩ => ⟨⟨a, b, h1, h _ _ _ h2, h _ _ _ h3⟩, hr.imp h⟩
 | [], _ :: _, hr => hr.elim
 | _ :: _, [], hr => hr.elim
theorem Later.obOk (h : Later K c c') {k : Nat} {o : Ob} (hK : K k) (hk : ∀ k' ∈ keysOb o, K k') (hb : o.isOwn = true → ∀ b, blk (c.μ k) = some b → b < c.w.heap.size → c'.w.heap[b]? = c.w.heap[b]?) (hr : ObOk c k o) : ObOk c' k o := by
 cases o with
 | box t vv =>
  obtain ⟨b, v, h1, h2, h3, h4, h5, h6⟩ := hr
  refine ⟨b, v, by rw [h.μ k hK]; exact h1, ?_, by rw [h.P]; exact h3, by rw [h.P]; exact h4, h5, h.vrel hk h6⟩
  rw [hb rfl b (by rw [h1]; rfl) (Array.getElem?_eq_some_iff.1 h2).1]
  exact h2
 | arr e t a =>
  obtain ⟨ivs, cs, h1, h2, h3, h4, h5, h6⟩ := hr
  refine ⟨ivs, cs, Arg.ev_later h.ρ h1, by rw [h.P]; exact h2, by rw [h.P]; exact h3, ?_, h.elems h5, h6⟩
  rw [h.P, h.μ k hK]
  obtain ⟨g1, g2⟩ := h4
  refine ⟨g1, ?_⟩
  rcases g2 with g2 | ⟨g, cap, cur, e1, e2, e3, e4⟩
  ·exact .inl g2
  ·refine .inr ⟨g, cap, cur, e1, e2, ?_, e4⟩
   rw [hb rfl g (by rw [e1]; rfl) (Array.getElem?_eq_some_iff.1 e3).1]
   exact e3
 | frz e t a =>
  obtain ⟨h1, h2⟩ := hr
  exact ⟨by rw [h.P]; exact h1, by rw [h.μ k hK]; exact h.drel h2⟩
 | iter s p =>
  obtain ⟨b, n, bs, h1, h2, h3, h4⟩ := hr
  refine ⟨b, n, bs, by rw [h.μ k hK]; exact h1, ?_, Arg.ev_later h.ρ h3, Arg.ev_later h.ρ h4⟩
  rw [hb rfl b (by rw [h1]; rfl) (Array.getElem?_eq_some_iff.1 h2).1]
  exact h2
 | mp t kt vt a =>
  obtain ⟨r, cl, es, ivs, h1, h2, h3, h4, h5, h6⟩ := hr
  refine ⟨r, cl, es, ivs, by rw [h.μ k hK]; exact h1, ?_, by rw [h.P]; exact h3, by rw [h.P]; exact h4, Arg.ev_later h.ρ h5, h6.imp fun _ _ _ h' => h.rel h'⟩
  rw [hb rfl r (by rw [h1]; rfl) (Array.getElem?_eq_some_iff.1 h2).1]
  exact h2
end
def updOb (ob : Nat → Option Ob) (k : Nat) (o : Option Ob) : Nat → Option Ob := fun k' => if k' = k then o else ob k'
theorem cur_cons (S : View) (k : Nat) (o : Option Ob) (obs : List (Nat × Option Ob)) : cur S ((k, o) :: obs) = updOb (cur S obs) k o := by
 funext k'
 by_cases h : k' = k
 ·subst h; simp [cur, updOb, lookOb]
 ·have : (k == k') = false := by simp; exact fun h' => h h'.symm
  have e : lookOb k' ((k, o) :: obs) = lookOb k' obs := by rw [lookOb]; simp [this]
  simp [cur, updOb, h, e]
theorem cur_nil (S : View) : cur S [] = S.ob := by funext k; rfl
def Fewer (ob ob' : Nat → Option Ob) : Prop := ∀ k o, ob' k = some o → o.isOwn = true → ob k = some o
theorem Fewer.refl (ob : Nat → Option Ob) : Fewer ob ob := fun _ _ h _ => h
theorem Fewer.trans {a b c : Nat → Option Ob} (h : Fewer a b) (h' : Fewer b c) : Fewer a c := fun k o ho hi => h k o (h' k o ho hi) hi
theorem Fewer.wr {ob ob' : Nat → Option Ob} (h : Fewer ob ob') {μ : Nat → Value} {b : Nat} (hb : Wr ob' μ b) : Wr ob μ b := by
 obtain ⟨k, o, h1, h2, h3⟩ := hb
 exact ⟨k, o, h k o h1 h2, h2, h3⟩
section
variable {P : Program} {N : Nat} {X : Nat → Prop} {ρ : List IV} {K : Nat → Prop} {tm : Nat → SV} {ob ob' : Nat → Option Ob} {μ : Nat → Value} {a : Act} {w : World}
theorem Fewer.later (h : Fewer ob ob') : Later K (cxOf P X ρ ob μ w) (cxOf P X ρ ob' μ w) :=
 { P := rfl, ρ := fun _ _ h => h, μ := fun _ _ => rfl, stays := Stays.refl _ _, O := fun _b _ hb => hb.elim .inl fun hb => .inr (h.wr hb), W := fun _b _ hb => h.wr hb, WO := fun _b hb => .inr hb }
theorem Good.fewer (G : Good P N X ρ K tm ob μ a w) (h : Fewer ob ob') (hobj : ∀ k o, ob' k = some o → o.isOwn = false → ObOk (cxOf P X ρ ob' μ w) k o ∧ K k ∧ ∀ k' ∈ keysOb o, K k') :
  Good P N X ρ K tm ob' μ a w := by
 have L : Later K (cxOf P X ρ ob μ w) (cxOf P X ρ ob' μ w) := h.later
 refine ⟨G.size, G.defers, fun s => L.srel (G.kt s) (G.slot s), fun k o ho => ?_, fun k k' o o' b h1 h2 h3 h4 h5 h6 => G.sep k k' o o' b (h k o h1 h3) (h k' o' h2 h4) h3 h4 h5 h6,
  fun k o b h1 h2 h3 => G.xsep k o b (h k o h1 h2) h2 h3, G.xlt, G.kt, fun k o ho => ?_⟩
 ·cases hi : o.isOwn with
  | true =>
   have := h k o ho hi
   exact L.obOk (G.ko k o this).1 (G.ko k o this).2 (fun _ b _ _ => rfl) (G.obj k o this)
  | false => exact (hobj k o ho hi).1
 ·cases hi : o.isOwn with
  | true => exact G.ko k o (h k o ho hi)
  | false => exact (hobj k o ho hi).2
theorem Good.rowB (G : Good P N X ρ K tm ob μ a w) {k : Nat} {e t : TypeId} {x : Arg} (h : ob k = some (.arr e t x)) :
  ∃ ivs A cap, x.ev ρ = some (.list ivs) ∧ μ k = .slice A ivs.length cap ∧ RowB P w (cxOf P X ρ ob μ w).O e ivs A cap ∧ 0 < sizeT P e ∧ P.underlying t = some (.slice e) := by
 obtain ⟨ivs, cs, h1, h2, h3, h4, h5, h6⟩ := G.obj k _ h
 obtain ⟨g1, g2⟩ := h4
 rcases g2 with ⟨g2, g3⟩ | ⟨g, cap, cu, e1, e2, e3, e4, e5, e6, e7⟩
 ·have : ivs = [] := by cases ivs with | nil => rfl | cons => simp at g3
  subst this
  exact ⟨[], none, 0, h1, g2, Row.nilB e none 0, h3, h2⟩
 ·refine ⟨ivs, _, cap, h1, e1, ⟨e4, Nat.le_trans e4 e5, ?_⟩, h3, h2⟩
  -- the elements' values
  have key : ∀ j : Nat, ∃ v : Value, j < ivs.length → (∀ x, ivs[j]? = some x → Rel P w (cxOf P X ρ ob μ w).O e x v) ∧ v.cells.toList = (cs.drop (j * sizeT P e)).take (sizeT P e) ∧ v.cells.size = sizeT P e := by
   intro j
   by_cases hj : j < ivs.length
   ·obtain ⟨v, q1, q2, q3⟩ := h5 j _ (List.getElem?_eq_getElem hj)
    exact ⟨v, fun _ => ⟨fun x hx => by rw [List.getElem?_eq_getElem hj] at hx; injection hx with hx; subst hx; exact q1, q2, q3⟩⟩
   ·exact ⟨.tuple #[], fun h => absurd h hj⟩
  obtain ⟨vs, hvs⟩ := Classical.axiomOfChoice key
  refine ⟨vs, fun h0 => ⟨h3, _, rfl, fun j hj => ⟨(hvs j hj).2.2, fun i u hu => ?_⟩⟩, fun j x hx => (hvs j (List.getElem?_eq_some_iff.1 hx).1).1 x hx⟩
  have hu' : (vs j).cells.toList[i]? = some u := by simpa using hu
  rw [(hvs j hj).2.1, List.getElem?_take] at hu'
  split at hu'
  ·rename_i hi
   rw [List.getElem?_drop] at hu'
   have e3' : w.heap[g]? = some (.cells cu e (0, 0)) := e3
   rw [addr_add_add, ← e7, List.getElem?_take] at *
   have hlt : j * sizeT P e + i < ivs.length * sizeT P e := by
    have : j * sizeT P e + sizeT P e ≤ ivs.length * sizeT P e := by rw [← Nat.succ_mul]; exact Nat.mul_le_mul_right _ hj
    have hi' : i < sizeT P e := hi
    omega
   have hu2 : cu.toList[j * sizeT P e + i]? = some u := by
    have := hu'
    rw [if_pos (by exact hlt)] at this
    exact this
   have hadd : (⟨g, 0, none⟩ : Addr).add (j * sizeT P e + i) = ⟨g, j * sizeT P e + i, none⟩ := by unfold Addr.add; split <;> simp_all
   rw [hadd]
   simp only [World.cell?, e3']
   simpa using hu2
  ·simp at hu'
end
end Go.CT
namespace Go.CT
open EM
def BRel (c : Cx) (x : Arg) (t : TypeId) (v : Value) : Prop :=
 ∃ iv, x.ev c.ρ = some iv ∧ Rel c.P c.w (fun _ => False) t iv v ∧
  ∀ e, c.P.underlying t = some (.slice e) → ∃ xs A cap, iv = .list xs ∧ v = .slice A xs.length cap ∧ RowB c.P c.w c.O e xs A cap
theorem DRel.lent {c : Cx} {x : Arg} {t : TypeId} {v : Value} (h : DRel c x t v) : BRel c x t v := by
 obtain ⟨iv, h1, h2⟩ := h
 refine ⟨iv, h1, h2.weaken (fun _ _ h => h.elim), fun e he => ?_⟩
 obtain ⟨xs, A, cap, rfl, rfl, hr⟩ := h2.list_inv he
 exact ⟨xs, A, cap, rfl, rfl, hr.lent⟩
theorem BRel.of_row {c : Cx} {x : Arg} {t e : TypeId} {xs : List IV} {A : Option Addr} {cap : Nat} (h : x.ev c.ρ = some (.list xs)) (ht : c.P.underlying t = some (.slice e)) (hr : RowB c.P c.w c.O e xs A cap) :
  BRel c x t (.slice A xs.length cap) := by
 refine ⟨_, h, (hr.row (fun _ _ h => h.elim) (fun _ _ h => h)).rel ht, fun e' he => ?_⟩
 rw [ht] at he; injection he with he; injection he with he; subst he
 exact ⟨xs, A, cap, rfl, rfl, hr⟩
theorem Later.brel {K : Nat → Prop} {c c' : Cx} (h : Later K c c') (hw : c'.w = c.w) {x : Arg} {t : TypeId} {v : Value} (hr : BRel c x t v) : BRel c' x t v := by
 obtain ⟨iv, h1, h2, h3⟩ := hr
 refine ⟨iv, Arg.ev_later h.ρ h1, by rw [h.P, hw]; exact h2, fun e he => ?_⟩
 rw [h.P] at he
 obtain ⟨xs, A, cap, e1, e2, g1, g2, vs, g3, g4⟩ := h3 e he
 exact ⟨xs, A, cap, e1, e2, g1, g2, vs, by rw [h.P, hw]; exact g3, fun j x hx => h.rel (g4 j x hx)⟩
section
variable {P : Program} {N : Nat} {X : Nat → Prop} {R : Job → List IV → Option (List IV)} {ρ : List IV} {K : Nat → Prop} {S : View} {μ : Nat → Value} {a : Act} {w : World}
theorem Good.freeze {tm : Nat → SV} {ob : Nat → Option Ob} (G : Good P N X ρ K tm ob μ a w) {k : Nat} {e t : TypeId} {c : Arg} (h : ob k = some (.arr e t c)) :
  Good P N X ρ K tm (updOb ob k (some (.frz e t c))) μ a w ∧ Fewer ob (updOb ob k (some (.frz e t c))) := by
 have F : Fewer ob (updOb ob k (some (.frz e t c))) := by
  intro k' o ho hi
  unfold updOb at ho
  split at ho
  ·injection ho with ho; subst ho; simp [Ob.isOwn] at hi
  ·exact ho
 refine ⟨G.fewer F (fun k' o ho hi => ?_), F⟩
 by_cases hk : k' = k
 ·subst hk
  simp only [updOb, if_true, Option.some.injEq] at ho
  subst ho
  obtain ⟨ivs, A, cap, h1, h2, h3, h4, h5⟩ := G.rowB h
  refine ⟨⟨h5, .list ivs, h1, ?_⟩, (G.ko k' _ h).1, fun _ h => by simp [keysOb] at h⟩
  show Rel P w _ t (.list ivs) (μ k')
  rw [h2]
  refine (h3.row (fun b _ hb => hb.elim .inl fun hb => .inr (F.wr hb)) (fun ad hA hO => ?_)).rel h5
  subst hA
  have hb : blk (μ k') = some ad.block := by rw [h2]; rfl
  rcases hO with hO | ⟨k2, o2, q1, q2, q3⟩
  ·exact G.xsep k' _ _ h rfl hb hO
  ·have : k2 = k' := G.sep k2 k' _ _ _ (F k2 o2 q1 q2) h q2 rfl q3 hb
   subst this
   simp only [updOb, if_true, Option.some.injEq] at q1
   subst q1
   simp [Ob.isOwn] at q2
 ·have ho' : ob k' = some o := by simpa [updOb, hk] using ho
  exact ⟨F.later.obOk (K := K) (G.ko k' o ho').1 (G.ko k' o ho').2 (fun _ _ _ _ => rfl) (G.obj k' o ho'), G.ko k' o ho'⟩
theorem Good.drop {tm : Nat → SV} {ob : Nat → Option Ob} (G : Good P N X ρ K tm ob μ a w) (k : Nat) :
  Good P N X ρ K tm (updOb ob k none) μ a w ∧ Fewer ob (updOb ob k none) := by
 have F : Fewer ob (updOb ob k none) := by
  intro k' o ho hi
  unfold updOb at ho
  split at ho
  ·cases ho
  ·exact ho
 refine ⟨G.fewer F (fun k' o ho hi => ?_), F⟩
 have hk : k' ≠ k := by rintro rfl; simp [updOb] at ho
 have ho' : ob k' = some o := by simpa [updOb, hk] using ho
 exact ⟨F.later.obOk (K := K) (G.ko k' o ho').1 (G.ko k' o ho').2 (fun _ _ _ _ => rfl) (G.obj k' o ho'), G.ko k' o ho'⟩
variable (P N X ρ K S μ a w) in
structure Ph (es es' : ES) : Prop where
 good : Good P N X ρ K S.tm (cur S es'.obs) μ a w
 fewer : Fewer (cur S es.obs) (cur S es'.obs)
 m : es'.m = es.m
 gs : es'.gs = es.gs
theorem Ph.refl {es : ES} (G : Good P N X ρ K S.tm (cur S es.obs) μ a w) : Ph P N X ρ K S μ a w es es := ⟨G, Fewer.refl _, rfl, rfl⟩
theorem Ph.same {es es' : ES} (G : Good P N X ρ K S.tm (cur S es.obs) μ a w) (ho : es'.obs = es.obs) (hm : es'.m = es.m) (hg : es'.gs = es.gs) : Ph P N X ρ K S μ a w es es' :=
 ⟨by rw [ho]; exact G, by rw [ho]; exact Fewer.refl _, hm, hg⟩
theorem Ph.trans {e1 e2 e3 : ES} (h : Ph P N X ρ K S μ a w e1 e2) (h' : Ph P N X ρ K S μ a w e2 e3) : Ph P N X ρ K S μ a w e1 e3 :=
 ⟨h'.good, h.fewer.trans h'.fewer, h'.m.trans h.m, h'.gs.trans h.gs⟩
theorem Ph.later {es es' : ES} (h : Ph P N X ρ K S μ a w es es') : Later K (cxOf P X ρ (cur S es.obs) μ w) (cxOf P X ρ (cur S es'.obs) μ w) := h.fewer.later
theorem Ph.upd {es : ES} {k : Nat} {o : Option Ob} {n : Nat} (h : Good P N X ρ K S.tm (updOb (cur S es.obs) k o) μ a w ∧ Fewer (cur S es.obs) (updOb (cur S es.obs) k o)) :
  Ph P N X ρ K S μ a w es { es with n, obs := (k, o) :: es.obs } :=
 ⟨by rw [cur_cons]; exact h.1, by rw [cur_cons]; exact h.2, rfl, rfl⟩
theorem evs1 {x : Arg} {vs : List IV} (h : Arg.evs ρ [x] = some vs) : ∃ y, x.ev ρ = some y ∧ vs = [y] := by
 unfold Arg.evs at h
 cases hx : x.ev ρ with
 | none => simp [hx] at h
 | some y => simp [hx, Arg.evs] at h; exact ⟨y, rfl, h.symm⟩
theorem evs2 {x y : Arg} {vs : List IV} (h : Arg.evs ρ [x, y] = some vs) : ∃ u v, x.ev ρ = some u ∧ y.ev ρ = some v ∧ vs = [u, v] := by
 unfold Arg.evs at h
 cases hx : x.ev ρ with
 | none => simp [hx] at h
 | some u =>
  cases hr : Arg.evs ρ [y] with
  | none => simp [hx, hr] at h
  | some r =>
   obtain ⟨v, hv, rfl⟩ := evs1 hr
   simp [hx, hr] at h
   exact ⟨u, v, rfl, hv, h.symm⟩
theorem evs3 {x y z : Arg} {vs : List IV} (h : Arg.evs ρ [x, y, z] = some vs) : ∃ u v q, x.ev ρ = some u ∧ y.ev ρ = some v ∧ z.ev ρ = some q ∧ vs = [u, v, q] := by
 unfold Arg.evs at h
 cases hx : x.ev ρ with
 | none => simp [hx] at h
 | some u =>
  cases hr : Arg.evs ρ [y, z] with
  | none => simp [hx, hr] at h
  | some r =>
   obtain ⟨v, q, hv, hq, rfl⟩ := evs2 hr
   simp [hx, hr] at h
   exact ⟨u, v, q, rfl, hv, hq, h.symm⟩
theorem slice_ev {c lo hi : Arg} {xs : List IV} {l h _n : Nat} {vs : List IV} {y : IV} (hc : c.ev ρ = some (.list xs)) (hl : lo.ev ρ = some (.int l)) (hh : hi.ev ρ = some (.int h))
  (hv : Arg.evs ρ [c, lo, hi] = some vs) (hy : Prim.ev .slice vs = some y) : y = .list ((xs.take h).drop l) ∧ l ≤ h ∧ h ≤ xs.length := by
 obtain ⟨u, v, q, h1, h2, h3, rfl⟩ := evs3 hv
 rw [hc] at h1; rw [hl] at h2; rw [hh] at h3
 injection h1 with h1; injection h2 with h2; injection h3 with h3
 subst h1; subst h2; subst h3
 simp only [Prim.ev] at hy
 split at hy
 ·rename_i hcond
  injection hy with hy
  refine ⟨by rw [← hy]; simp, by omega, by omega⟩
 ·cases hy
theorem sameT_rel {c : Cx} {x : Arg} {t t' : TypeId} {v : Value} (h : sameT c.P t t' = true) (hv : DRel c x t' v) : DRel c x t v := by
 unfold sameT at h
 rw [Bool.or_eq_true] at h
 rcases h with h | h
 ·have : t = t' := by simpa using h
  subst this; exact hv
 ·obtain ⟨iv, h1, h2⟩ := hv
  cases ha : intK c.P t with
  | none => rw [ha] at h; simp at h
  | some a =>
   cases hb : intK c.P t' with
   | none => rw [ha, hb] at h; simp at h
   | some b =>
    rw [ha, hb] at h
    have : a = b := by simpa using h
    subst this
    obtain ⟨n, rfl, rfl⟩ := h2.int_inv (intK_eq hb)
    exact ⟨_, h1, .int (intK_eq ha)⟩
theorem leafData_ok {fz : Bool} {t : TypeId} {l : LV} {es es' : ES} {x : Arg} {ls : List PLt} {v : Value} (G : Good P N X ρ K S.tm (cur S es.obs) μ a w) (h : Ev S (leafData P fz t l) es x es' ls) (hl : LH R ρ ls)
  (hg : holds ρ es.gs = some true) (hv : LRel (cxOf P X ρ (cur S es.obs) μ w) l v) :
  Ph P N X ρ K S μ a w es es' ∧ BRel (cxOf P X ρ (cur S es'.obs) μ w) x t v ∧ (fz = true → DRel (cxOf P X ρ (cur S es'.obs) μ w) x t v) := by
 unfold leafData at h
 cases l with
 | «at» x' t' =>
  simp only [Ev_bind, Ev_guard, Ev_pure] at h
  obtain ⟨_, _, _, _, ⟨h1, rfl, rfl⟩, ⟨rfl, rfl, rfl⟩, rfl⟩ := h
  have hv := sameT_rel h1 hv
  exact ⟨.refl G, DRel.lent hv, fun _ => hv⟩
 | cl x' t' =>
  simp only [Ev_bind, Ev_guard, Ev_pure] at h
  obtain ⟨_, _, _, _, ⟨h1, rfl, rfl⟩, ⟨rfl, rfl, rfl⟩, rfl⟩ := h
  have : t = t' := by simpa using h1
  subst this
  exact ⟨.refl G, DRel.lent hv.1, fun _ => hv.1⟩
 | st x' t' =>
  simp only [Ev_bind, Ev_guard, Ev_pure] at h
  obtain ⟨_, _, _, _, ⟨h1, rfl, rfl⟩, ⟨rfl, rfl, rfl⟩, rfl⟩ := h
  have : t = t' := by simpa using h1
  subst this
  exact ⟨.refl G, DRel.lent hv.1, fun _ => hv.1⟩
 | nil t' =>
  simp only [Ev_bind, Ev_guard, Ev_pure] at h
  obtain ⟨_, _, _, _, ⟨h1, rfl, rfl⟩, ⟨rfl, rfl, rfl⟩, rfl⟩ := h
  obtain ⟨e, he⟩ := Option.isSome_iff_exists.1 h1
  have hv' : v = .slice none 0 0 := hv
  subst hv'
  have D : DRel (cxOf P X ρ (cur S es.obs) μ w) (.k (.list [])) t (.slice none 0 0) := ⟨_, rfl, (Row.nil e none 0).rel (elemT_eq he)⟩
  exact ⟨.refl G, D.lent, fun _ => D⟩
 | ref k t' =>
  obtain ⟨hv, _⟩ := hv
  have hv : v = μ k := hv
  subst hv
  simp only [Ev_bind, Ev_getOb] at h
  obtain ⟨o, _, _, ls2, ⟨ho, rfl, rfl⟩, h, rfl⟩ := h
  cases o with
  | box => simp [Ev_fail] at h
  | iter => simp [Ev_fail] at h
  | mp => simp [Ev_fail] at h
  | arr e tt c =>
   simp only [Ev_bind, Ev_guard, Ev_ite, Ev_setOb, Ev_pure] at h
   obtain ⟨_, _, _, _, ⟨h1, rfl, rfl⟩, h2, rfl⟩ := h
   have he : elemT P t = some e := by simpa using h1
   obtain ⟨ivs, A, cap, g1, g2, g3, g4, g5⟩ := G.rowB ho
   rcases h2 with ⟨hf, _, _, _, _, ⟨rfl, rfl⟩, ⟨rfl, rfl, rfl⟩, rfl⟩ | ⟨hf, rfl, rfl, rfl⟩
   ·have F := G.freeze ho
    have ph : Ph P N X ρ K S μ a w es { es with obs := (k, some (.frz e tt x)) :: es.obs } := Ph.upd (n := es.n) F
    have D : DRel (cxOf P X ρ (cur S ((k, some (.frz e tt x)) :: es.obs)) μ w) x t (μ k) := by
     have := F.1.obj k (.frz e tt x) (by simp [updOb])
     obtain ⟨_, iv, d1, d2⟩ := this
     rw [cur_cons]
     refine ⟨iv, d1, ?_⟩
     obtain ⟨xs, A, cap, rfl, e2, hr⟩ := d2.list_inv g5
     show Rel P w _ t _ _
     have e2' : μ k = .slice A xs.length cap := e2
     rw [e2']
     exact hr.rel (elemT_eq he)
    exact ⟨ph, D.lent, fun _ => D⟩
   ·refine ⟨.refl G, ?_, fun hf' => absurd hf' hf⟩
    rw [g2]
    exact BRel.of_row g1 (elemT_eq he) g3
  | frz e tt c =>
   simp only [Ev_bind, Ev_guard, Ev_pure] at h
   obtain ⟨_, _, _, _, ⟨h1, rfl, rfl⟩, ⟨rfl, rfl, rfl⟩, rfl⟩ := h
   have he : elemT P t = some e := by simpa using h1
   obtain ⟨g5, iv, d1, d2⟩ := G.obj k _ ho
   obtain ⟨xs, A, cap, rfl, e2, hr⟩ := d2.list_inv g5
   have e2' : μ k = .slice A xs.length cap := e2
   have D : DRel (cxOf P X ρ (cur S es.obs) μ w) x t (μ k) := by
    rw [e2']
    exact ⟨_, d1, hr.rel (elemT_eq he)⟩
   exact ⟨.refl G, D.lent, fun _ => D⟩
 | sub k lo hi t' =>
  obtain ⟨A0, n0, cap0, l0, h0, e0, q0, q1, q2, q3, q4, q5, q6⟩ := hv
  subst q6
  simp only [Ev_bind, Ev_getOb] at h
  obtain ⟨o, _, _, ls2, ⟨ho, rfl, rfl⟩, h, rfl⟩ := h
  cases o with
  | box => simp [Ev_fail] at h
  | iter => simp [Ev_fail] at h
  | mp => simp [Ev_fail] at h
  | arr e tt c =>
   simp only [Ev_bind, Ev_guard, Ev_ite, Ev_setOb, Ev_pure, Ev_prim] at h
   obtain ⟨_, _, _, _, ⟨h1, rfl, rfl⟩, ⟨_, e2, l3, l4, ⟨rfl, rfl, rfl⟩, h2, rfl⟩, rfl⟩ := h
   simp only [Bool.and_eq_true, beq_iff_eq] at h1
   obtain ⟨he, he'⟩ := h1
   have hee : e0 = e := by
    have := elemT_eq he'
    have q0' : P.underlying t' = some (.slice e0) := q0
    rw [this] at q0'; injection q0' with q0'; injection q0' with q0'; exact q0'.symm
   subst hee
   obtain ⟨ivs, A, cap, g1, g2, g3, g4, g5⟩ := G.rowB ho
   have q1' : μ k = .slice A0 n0 cap0 := q1
   rw [g2] at q1'
   injection q1' with i1 i2 i3
   subst i1; subst i2; subst i3
   obtain ⟨vs, y, p1, p2, p3⟩ := LH.prim hl.right.left hg
   obtain ⟨rfl, p5, p6⟩ := slice_ev (_n := 0) g1 q2 q3 p1 p2
   have hlen : h0 - l0 = ((ivs.take h0).drop l0).length := by rw [List.length_drop, List.length_take]; omega
   rcases h2 with ⟨hf, _, _, _, _, ⟨rfl, rfl⟩, ⟨rfl, rfl, rfl⟩, rfl⟩ | ⟨hf, rfl, rfl, rfl⟩
   ·have F := G.freeze ho
    have ph : Ph P N X ρ K S μ a w es { es with n := es.n + 1, obs := (k, some (.frz e0 tt c)) :: es.obs } := Ph.upd F
    have D : DRel (cxOf P X ρ (cur S ((k, some (.frz e0 tt c)) :: es.obs)) μ w) (.v es.n) t (.slice (if cap = l0 then A else A.map (·.add (l0 * sizeT P e0))) (h0 - l0) (cap - l0)) := by
     have := F.1.obj k (.frz e0 tt c) (by simp [updOb])
     obtain ⟨_, iv, d1, d2⟩ := this
     rw [cur_cons]
     refine ⟨_, p3, ?_⟩
     have d2' : Rel P w _ tt iv (μ k) := d2
     rw [g2] at d2'
     have d1' : c.ev ρ = some iv := d1
     rw [g1] at d1'; injection d1' with d1'; subst d1'
     obtain ⟨xs, A2, cap2, e1, e2, hr⟩ := d2'.list_inv g5
     injection e1 with e1; injection e2 with e2 e3 e4
     subst e1; subst e2; subst e4
     rw [hlen]
     exact (hr.part p5 p6).rel (elemT_eq he)
    exact ⟨ph, D.lent, fun _ => D⟩
   ·refine ⟨.same G rfl rfl rfl, ?_, fun hf' => absurd hf' hf⟩
    rw [show (cxOf P X ρ (cur S es.obs) μ w).P = P from rfl, hlen]
    exact BRel.of_row p3 (elemT_eq he) (g3.part p5 p6)
  | frz e tt c =>
   simp only [Ev_bind, Ev_guard, Ev_prim] at h
   obtain ⟨_, _, _, _, ⟨h1, rfl, rfl⟩, ⟨rfl, rfl, rfl⟩, rfl⟩ := h
   simp only [Bool.and_eq_true, beq_iff_eq] at h1
   obtain ⟨he, he'⟩ := h1
   have hee : e0 = e := by
    have := elemT_eq he'
    have q0' : P.underlying t' = some (.slice e0) := q0
    rw [this] at q0'; injection q0' with q0'; injection q0' with q0'; exact q0'.symm
   subst hee
   obtain ⟨g5, iv, d1, d2⟩ := G.obj k _ ho
   obtain ⟨xs, A, cap, rfl, e2, hr⟩ := d2.list_inv g5
   have e2' : μ k = .slice A xs.length cap := e2
   have q1' : μ k = .slice A0 n0 cap0 := q1
   rw [e2'] at q1'
   injection q1' with i1 i2 i3
   subst i1; subst i2; subst i3
   obtain ⟨vs, y, p1, p2, p3⟩ := LH.prim hl hg
   obtain ⟨rfl, p5, p6⟩ := slice_ev (_n := 0) d1 q2 q3 p1 p2
   have hlen : h0 - l0 = ((xs.take h0).drop l0).length := by rw [List.length_drop, List.length_take]; omega
   have D : DRel (cxOf P X ρ (cur S es.obs) μ w) (.v es.n) t (.slice (if cap = l0 then A else A.map (·.add (l0 * sizeT P e0))) (h0 - l0) (cap - l0)) := by
    rw [hlen]
    exact ⟨_, p3, (hr.part p5 p6).rel (elemT_eq he)⟩
   exact ⟨.same G rfl rfl rfl, D.lent, fun _ => D⟩
 | ptr p => simp [Ev_fail] at h
 | fn f ps => simp [Ev_fail] at h
 | mref k t => simp [Ev_fail] at h
 | hid k => simp [Ev_fail] at h
 | junk => simp [Ev_fail] at h
end
end Go.CT
namespace Go.CT
open EM
theorem leafTs_flat {P : Program} : ∀ (d : Nat) (t : TypeId) (ts : List TypeId), leafTs P d t = some ts → ∀ u ∈ ts, isAggT P u = false
 | 0, _, _, h => by simp [leafTs] at h
 | d + 1, t, ts, h => by
  unfold leafTs at h
  cases hu : P.underlying t with
  | none => simp [hu] at h
  | some de =>
   simp only [hu] at h
   have hone : (∀ (_ : isAggT P t = false), some [t] = some ts → ∀ u ∈ ts, isAggT P u = false) := by
    intro ha h u hm
    injection h with h; subst h
    simp at hm; subst hm; exact ha
   cases de with
   | struct fs =>
    simp only [Option.map_eq_some_iff] at h
    obtain ⟨ls, h1, rfl⟩ := h
    have key : ∀ (l : List Field) (ls : List (List TypeId)), l.mapM (fun f => leafTs P d f.type) = some ls → ∀ u ∈ ls.flatten, isAggT P u = false := by
     intro l
     induction l with
     | nil => intro ls h u hm; simp at h; subst h; simp at hm
     | cons f l ih =>
      intro ls h u hm
      simp only [List.mapM_cons, Option.pure_def, Option.bind_eq_bind] at h
      cases h1 : leafTs P d f.type with
      | none => simp [h1] at h
      | some x =>
       simp only [h1, Option.bind_some] at h
       cases h2 : l.mapM (fun f => leafTs P d f.type) with
       | none => simp [h2] at h
       | some xs =>
        simp only [h2, Option.bind_some, Option.some.injEq] at h
        subst h
        simp only [List.flatten_cons, List.mem_append] at hm
        exact hm.elim (leafTs_flat d _ _ h1 u) (ih _ h2 u)
    exact key _ _ h1
   | array n e =>
    simp only [Option.map_eq_some_iff] at h
    obtain ⟨l, h1, rfl⟩ := h
    intro u hm
    simp only [List.mem_flatten, List.mem_replicate] at hm
    obtain ⟨l', ⟨_, rfl⟩, hm⟩ := hm
    exact leafTs_flat d _ _ h1 u hm
   | _ => exact hone (by simp [isAggT, hu]) h
theorem leaves_flat {P : Program} {t : TypeId} {ts : List TypeId} (h : leaves P t = some ts) : ∀ (i : Nat) (u : TypeId), ts[i]? = some u → isAggT P u = false :=
 fun _ _ hi => leafTs_flat _ _ _ h _ (List.mem_of_getElem? hi)
def RelsL (P : Program) (w : World) (O : Nat → Prop) : List TypeId → List IV → List Value → Prop
 | [], [], [] => True
 | t :: ts, x :: xs, v :: vs => Rel P w O t x v ∧ RelsL P w O ts xs vs
 | _, _, _ => False
section
variable {P : Program} {w : World} {O O' : Nat → Prop}
theorem RelsL.len : ∀ {ts : List TypeId} {xs : List IV} {vs : List Value}, RelsL P w O ts xs vs → xs.length = ts.length ∧ vs.length = ts.length
 | [], [], [], _ => ⟨rfl, rfl⟩
 | _ :: _, _ :: _, _ :: _, h => by have := RelsL.len h.2; simp [this.1, this.2]
 | [], [], _ :: _, h => h.elim
 | [], _ :: _, _, h => h.elim
 | _ :: _, [], _, h => h.elim
 | _ :: _, _ :: _, [], h => h.elim
theorem RelsL.get : ∀ {ts : List TypeId} {xs : List IV} {vs : List Value}, RelsL P w O ts xs vs → ∀ (i : Nat) (u : TypeId) (x : IV) (c : Value), ts[i]? = some u → xs[i]? = some x → vs[i]? = some c → Rel P w O u x c
 | [], [], [], _ => by simp
 | t :: _, y :: _, z :: _, h => by
  intro i u x c h1 h2 h3
  cases i with
  | zero => simp at h1 h2 h3; subst h1; subst h2; subst h3; exact h.1
  | succ i => simp at h1 h2 h3; exact RelsL.get h.2 i u x c h1 h2 h3
 | [], [], _ :: _, h => h.elim
 | [], _ :: _, _, h => h.elim
 | _ :: _, [], _, h => h.elim
 | _ :: _, _ :: _, [], h => h.elim
theorem RelsL.of_get : ∀ {ts : List TypeId} {xs : List IV} {vs : List Value}, xs.length = ts.length → vs.length = ts.length → (∀ (i : Nat) (u : TypeId) (x : IV) (c : Value), ts[i]? = some u → xs[i]? = some x → vs[i]? = some c → Rel P w O u x c) → RelsL P w O ts xs vs
 | [], [], [], _, _, _ => trivial
 | _ :: _, _ :: _, _ :: _, h1, h2, h => ⟨h 0 _ _ _ rfl rfl rfl, RelsL.of_get (by simpa using h1) (by simpa using h2) fun i u x c a b d => h (i + 1) u x c (by simpa using a) (by simpa using b) (by simpa using d)⟩
 | [], _ :: _, _, h1, _, _ => by simp at h1
 | [], [], _ :: _, _, h2, _ => by simp at h2
 | _ :: _, [], _, h1, _, _ => by simp at h1
 | _ :: _, _ :: _, [], _, h2, _ => by simp at h2
theorem RelsL.weaken : ∀ {ts : List TypeId} {xs : List IV} {vs : List Value}, RelsL P w O ts xs vs → (∀ b, b < w.heap.size → O' b → O b) → RelsL P w O' ts xs vs
 | [], [], [], _, _ => trivial
 | _ :: _, _ :: _, _ :: _, h, hO => ⟨h.1.weaken hO, RelsL.weaken h.2 hO⟩
 | [], [], _ :: _, h, _ => h.elim
 | [], _ :: _, _, h, _ => h.elim
 | _ :: _, [], _, h, _ => h.elim
 | _ :: _, _ :: _, [], h, _ => h.elim
theorem RelsL.agg {t : TypeId} {ts : List TypeId} {xs : List IV} {cs : Array Value} (h : RelsL P w O ts xs cs.toList) (ha : isAggT P t = true) (hl : leaves P t = some ts) : Rel P w O t (.agg xs) (.agg cs) :=
 .agg ha hl h.len.1 (by simpa using h.len.2) (leaves_flat hl) fun i u x c h1 h2 h3 => h.get i u x c h1 h2 (by simpa using h3)
theorem Rel.leafs {t : TypeId} {x : IV} {v : Value} (h : Rel P w O t x v) (ha : isAggT P t = true) : ∃ ts xs cs, leaves P t = some ts ∧ x = .agg xs ∧ v = .agg cs ∧ RelsL P w O ts xs cs.toList := by
 obtain ⟨ts, xs, cs, h1, rfl, rfl, h3, h4, h5, h6⟩ := h.agg_inv ha
 exact ⟨ts, xs, cs, h1, rfl, rfl, RelsL.of_get h3 (by simpa using h4) fun i u x c a b d => h6 i u x c a b (by simpa using d)⟩
end
section
variable {P : Program} {N : Nat} {X : Nat → Prop} {R : Job → List IV → Option (List IV)} {ρ : List IV} {K : Nat → Prop} {S : View} {μ : Nat → Value} {a : Act} {w : World}
theorem evs_cons {x : Arg} {xs : List Arg} {y : IV} {ys : List IV} (h1 : x.ev ρ = some y) (h2 : Arg.evs ρ xs = some ys) : Arg.evs ρ (x :: xs) = some (y :: ys) := by
 simp [Arg.evs, h1, h2]
theorem leavesData_ok {fz : Bool} : ∀ {ts : List TypeId} {lvs : List LV} {es es' : ES} {as : List Arg} {ls : List PLt} {vs : List Value} (_G : Good P N X ρ K S.tm (cur S es.obs) μ a w) (_h : Ev S (leavesData P fz ts lvs) es as es' ls) (_hl : LH R ρ ls)
  (_hg : holds ρ es.gs = some true) (_hk : ∀ k ∈ lvs.flatMap keysLV, K k) (_hv : CRels (cxOf P X ρ (cur S es.obs) μ w) lvs vs),
  Ph P N X ρ K S μ a w es es' ∧ ∃ xs, Arg.evs ρ as = some xs ∧ RelsL P w (fun _ => False) ts xs vs ∧ (fz = true → RelsL P w (cxOf P X ρ (cur S es'.obs) μ w).O ts xs vs)
 | [], [], es, es', as, ls, vs, G, h, hl, hg, hk, hv => by
  unfold leavesData at h
  rw [Ev_pure] at h
  obtain ⟨rfl, rfl, rfl⟩ := h
  cases vs with
  | nil => exact ⟨.refl G, [], rfl, trivial, fun _ => trivial⟩
  | cons => exact hv.elim
 | t :: ts, l :: lvs, es, es', as, ls, vs, G, h, hl, hg, hk, hv => by
  unfold leavesData at h
  simp only [Ev_bind, Ev_pure] at h
  obtain ⟨x, e1, l1, _, h1, ⟨xs, e2, l2, _, h2, ⟨rfl, rfl, rfl⟩, rfl⟩, rfl⟩ := h
  cases vs with
  | nil => exact hv.elim
  | cons v vs =>
   obtain ⟨p1, p2, p3⟩ := leafData_ok G h1 hl.left hg hv.1.2
   have hk2 : ∀ k ∈ lvs.flatMap keysLV, K k := fun k hm => hk k (by rw [List.flatMap_cons]; exact List.mem_append_right _ hm)
   obtain ⟨q1, ys, q2, q3, q4⟩ := leavesData_ok p1.good h2 hl.right.left (by rw [p1.gs]; exact hg) hk2 (p1.later.crels hk2 hv.2)
   obtain ⟨y, r1, r2, _⟩ := p2
   refine ⟨p1.trans q1, y :: ys, evs_cons r1 q2, ⟨r2, q3⟩, fun hf => ⟨?_, q4 hf⟩⟩
   obtain ⟨y', s1, s2⟩ := p3 hf
   have r1' : x.ev ρ = some y := r1
   have s1' : x.ev ρ = some y' := s1
   rw [r1'] at s1'; injection s1' with s1'; subst s1'
   exact q1.later.rel s2
 | [], _ :: _, _, _, _, _, _, _, h, _, _, _, _ => by simp [leavesData, Ev_fail] at h
 | _ :: _, [], _, _, _, _, _, _, h, _, _, _, _ => by simp [leavesData, Ev_fail] at h
theorem toData_ok {fz : Bool} {t : TypeId} {vv : VV} {es es' : ES} {x : Arg} {ls : List PLt} {v : Value} (G : Good P N X ρ K S.tm (cur S es.obs) μ a w) (h : Ev S (toData P fz t vv) es x es' ls) (hl : LH R ρ ls)
  (hg : holds ρ es.gs = some true) (hk : ∀ k ∈ keysVV vv, K k) (hv : VRel (cxOf P X ρ (cur S es.obs) μ w) vv v) :
  Ph P N X ρ K S μ a w es es' ∧ BRel (cxOf P X ρ (cur S es'.obs) μ w) x t v ∧ (fz = true → DRel (cxOf P X ρ (cur S es'.obs) μ w) x t v) := by
 unfold toData at h
 cases vv with
 | leaf l => exact leafData_ok G h hl hg hv
 | agg t' cs =>
  simp only [Ev_bind, Ev_guard, Ev_ofOption, Ev_prim] at h
  obtain ⟨_, _, _, _, ⟨h1, rfl, rfl⟩, ⟨ts, _, _, _, ⟨h2, rfl, rfl⟩, ⟨as, e1, l1, l2, h3, ⟨rfl, rfl, rfl⟩, rfl⟩, rfl⟩, rfl⟩ := h
  simp only [Bool.and_eq_true, beq_iff_eq] at h1
  obtain ⟨rfl, ha⟩ := h1
  obtain ⟨us, rfl, hc⟩ := hv
  obtain ⟨p1, xs, p2, p3, p4⟩ := leavesData_ok G h3 hl.right.right.left hg hk hc
  obtain ⟨vs, y, r1, r2, r3⟩ := LH.prim hl.right.right.right (by rw [p1.gs]; exact hg)
  rw [p2] at r1; injection r1 with r1; subst r1
  simp only [Prim.ev, Option.some.injEq] at r2; subst r2
  have hns : ∀ e, P.underlying t ≠ some (.slice e) := by
   intro e he; simp [isAggT, he] at ha
  refine ⟨p1.trans (.same p1.good rfl rfl rfl), ⟨_, r3, p3.agg ha h2, fun e he => absurd he (hns e)⟩, fun hf => ⟨_, r3, (p4 hf).agg ha h2⟩⟩
def ApartK (c : Cx) (KS : List Nat) (b : Nat) : Prop := c.O b ∧ ∀ k ∈ KS, blk (c.μ k) ≠ some b
theorem leafDataA_ok {t : TypeId} {l : LV} {es es' : ES} {x : Arg} {ls : List PLt} {v : Value} {KS : List Nat} (G : Good P N X ρ K S.tm (cur S es.obs) μ a w) (h : Ev S (leafData P false t l) es x es' ls) (hl : LH R ρ ls)
  (hg : holds ρ es.gs = some true) (hv : LRel (cxOf P X ρ (cur S es.obs) μ w) l v) (hKS : ∀ k ∈ keysLV l, ∀ e t c, cur S es.obs k = some (.arr e t c) → k ∈ KS) :
  ∃ iv, x.ev ρ = some iv ∧ Rel P w (ApartK (cxOf P X ρ (cur S es.obs) μ w) KS) t iv v := by
 have weak : ∀ {iv}, Rel P w (cxOf P X ρ (cur S es.obs) μ w).O t iv v → Rel P w (ApartK (cxOf P X ρ (cur S es.obs) μ w) KS) t iv v := fun h => h.weaken fun _ _ hb => hb.1
 unfold leafData at h
 cases l with
 | «at» x' t' =>
  simp only [Ev_bind, Ev_guard, Ev_pure] at h
  obtain ⟨_, _, _, _, ⟨h1, rfl, rfl⟩, ⟨rfl, rfl, rfl⟩, rfl⟩ := h
  obtain ⟨iv, d1, d2⟩ := sameT_rel h1 hv
  exact ⟨iv, d1, weak d2⟩
 | cl x' t' =>
  simp only [Ev_bind, Ev_guard, Ev_pure] at h
  obtain ⟨_, _, _, _, ⟨h1, rfl, rfl⟩, ⟨rfl, rfl, rfl⟩, rfl⟩ := h
  have : t = t' := by simpa using h1
  subst this
  obtain ⟨iv, d1, d2⟩ := hv.1
  exact ⟨iv, d1, weak d2⟩
 | st x' t' =>
  simp only [Ev_bind, Ev_guard, Ev_pure] at h
  obtain ⟨_, _, _, _, ⟨h1, rfl, rfl⟩, ⟨rfl, rfl, rfl⟩, rfl⟩ := h
  have : t = t' := by simpa using h1
  subst this
  obtain ⟨iv, d1, d2⟩ := hv.1
  exact ⟨iv, d1, weak d2⟩
 | nil t' =>
  simp only [Ev_bind, Ev_guard, Ev_pure] at h
  obtain ⟨_, _, _, _, ⟨h1, rfl, rfl⟩, ⟨rfl, rfl, rfl⟩, rfl⟩ := h
  obtain ⟨e, he⟩ := Option.isSome_iff_exists.1 h1
  have hv' : v = .slice none 0 0 := hv
  subst hv'
  exact ⟨_, rfl, (Row.nil e none 0).rel (elemT_eq he)⟩
 | ref k t' =>
  obtain ⟨hv, _⟩ := hv
  have hv : v = μ k := hv
  subst hv
  simp only [Ev_bind, Ev_getOb] at h
  obtain ⟨o, _, _, ls2, ⟨ho, rfl, rfl⟩, h, rfl⟩ := h
  cases o with
  | box => simp [Ev_fail] at h
  | iter => simp [Ev_fail] at h
  | mp => simp [Ev_fail] at h
  | arr e tt c =>
   simp only [Ev_bind, Ev_guard, Ev_ite, Ev_setOb, Ev_pure, Bool.false_eq_true, false_and, false_or, not_false_eq_true, true_and] at h
   obtain ⟨_, _, _, _, ⟨h1, rfl, rfl⟩, ⟨rfl, rfl, rfl⟩, rfl⟩ := h
   have he : elemT P t = some e := by simpa using h1
   obtain ⟨ivs, A, cap, g1, g2, g3, g4, g5⟩ := G.rowB ho
   rw [g2]
   refine ⟨_, g1, (g3.row (fun b _ hb => hb.1) fun ad hA hO => ?_).rel (elemT_eq he)⟩
   exact hO.2 k (hKS k (by simp [keysLV]) _ _ _ ho) (by show blk (μ k) = _; rw [g2, hA]; rfl)
  | frz e tt c =>
   simp only [Ev_bind, Ev_guard, Ev_pure] at h
   obtain ⟨_, _, _, _, ⟨h1, rfl, rfl⟩, ⟨rfl, rfl, rfl⟩, rfl⟩ := h
   have he : elemT P t = some e := by simpa using h1
   obtain ⟨g5, iv, d1, d2⟩ := G.obj k _ ho
   obtain ⟨xs, A, cap, rfl, e2, hr⟩ := d2.list_inv g5
   have e2' : μ k = .slice A xs.length cap := e2
   exact ⟨_, d1, weak (by rw [e2']; exact hr.rel (elemT_eq he))⟩
 | sub k lo hi t' =>
  obtain ⟨A0, n0, cap0, l0, h0, e0, q0, q1, q2, q3, q4, q5, q6⟩ := hv
  subst q6
  simp only [Ev_bind, Ev_getOb] at h
  obtain ⟨o, _, _, ls2, ⟨ho, rfl, rfl⟩, h, rfl⟩ := h
  cases o with
  | box => simp [Ev_fail] at h
  | iter => simp [Ev_fail] at h
  | mp => simp [Ev_fail] at h
  | arr e tt c =>
   simp only [Ev_bind, Ev_guard, Ev_ite, Ev_setOb, Ev_pure, Ev_prim, Bool.false_eq_true, false_and, false_or, not_false_eq_true, true_and] at h
   obtain ⟨_, _, _, _, ⟨h1, rfl, rfl⟩, ⟨_, e2, l3, l4, ⟨rfl, rfl, rfl⟩, ⟨rfl, rfl, rfl⟩, rfl⟩, rfl⟩ := h
   simp only [Bool.and_eq_true, beq_iff_eq] at h1
   obtain ⟨he, he'⟩ := h1
   have hee : e0 = e := by
    have := elemT_eq he'
    have q0' : P.underlying t' = some (.slice e0) := q0
    rw [this] at q0'; injection q0' with q0'; injection q0' with q0'; exact q0'.symm
   subst hee
   obtain ⟨ivs, A, cap, g1, g2, g3, g4, g5⟩ := G.rowB ho
   have q1' : μ k = .slice A0 n0 cap0 := q1
   rw [g2] at q1'
   injection q1' with i1 i2 i3
   subst i1; subst i2; subst i3
   obtain ⟨vs, y, p1, p2, p3⟩ := LH.prim hl.right.left hg
   obtain ⟨rfl, p5, p6⟩ := slice_ev (_n := 0) g1 q2 q3 p1 p2
   have hlen : h0 - l0 = ((ivs.take h0).drop l0).length := by rw [List.length_drop, List.length_take]; omega
   rw [show (cxOf P X ρ (cur S es.obs) μ w).P = P from rfl, hlen]
   refine ⟨_, p3, ((g3.part p5 p6).row (fun b _ hb => hb.1) fun ad hA hO => ?_).rel (elemT_eq he)⟩
   refine hO.2 k (hKS k (by simp [keysLV]) _ _ _ ho) ?_
   show blk (μ k) = _
   rw [g2]
   split at hA
   ·rw [hA]; rfl
   ·cases A with
    | none => cases hA
    | some ad0 =>
     simp only [Option.map_some, Option.some.injEq] at hA
     rw [← hA, addr_block]; rfl
  | frz e tt c =>
   simp only [Ev_bind, Ev_guard, Ev_prim] at h
   obtain ⟨_, _, _, _, ⟨h1, rfl, rfl⟩, ⟨rfl, rfl, rfl⟩, rfl⟩ := h
   simp only [Bool.and_eq_true, beq_iff_eq] at h1
   obtain ⟨he, he'⟩ := h1
   have hee : e0 = e := by
    have := elemT_eq he'
    have q0' : P.underlying t' = some (.slice e0) := q0
    rw [this] at q0'; injection q0' with q0'; injection q0' with q0'; exact q0'.symm
   subst hee
   obtain ⟨g5, iv, d1, d2⟩ := G.obj k _ ho
   obtain ⟨xs, A, cap, rfl, e2, hr⟩ := d2.list_inv g5
   have e2' : μ k = .slice A xs.length cap := e2
   have q1' : μ k = .slice A0 n0 cap0 := q1
   rw [e2'] at q1'
   injection q1' with i1 i2 i3
   subst i1; subst i2; subst i3
   obtain ⟨vs, y, p1, p2, p3⟩ := LH.prim hl hg
   obtain ⟨rfl, p5, p6⟩ := slice_ev (_n := 0) d1 q2 q3 p1 p2
   have hlen : h0 - l0 = ((xs.take h0).drop l0).length := by rw [List.length_drop, List.length_take]; omega
   refine ⟨_, p3, weak ?_⟩
   rw [show (cxOf P X ρ (cur S es.obs) μ w).P = P from rfl, hlen]
   exact (hr.part p5 p6).rel (elemT_eq he)
 | ptr p => simp [Ev_fail] at h
 | fn f ps => simp [Ev_fail] at h
 | mref k t => simp [Ev_fail] at h
 | hid k => simp [Ev_fail] at h
 | junk => simp [Ev_fail] at h
theorem leafData_nokey {t : TypeId} {l : LV} {es es' : ES} {x : Arg} {ls : List PLt} (h : Ev S (leafData P false t l) es x es' ls) (hk : keysLV l = []) : Ev S (leafData P true t l) es x es' ls ∧ es' = es := by
 unfold leafData at h ⊢
 cases l with
 | ref => simp [keysLV] at hk
 | sub => simp [keysLV] at hk
 | ptr p => simp [Ev_fail] at h
 | fn f ps => simp [Ev_fail] at h
 | mref k t => simp [Ev_fail] at h
 | hid k => simp [Ev_fail] at h
 | junk => simp [Ev_fail] at h
 | «at» x' t' => exact ⟨h, by simp only [Ev_bind, Ev_guard, Ev_pure] at h; obtain ⟨_, _, _, _, ⟨h1, rfl, rfl⟩, ⟨rfl, rfl, rfl⟩, rfl⟩ := h; rfl⟩
 | cl x' t' => exact ⟨h, by simp only [Ev_bind, Ev_guard, Ev_pure] at h; obtain ⟨_, _, _, _, ⟨h1, rfl, rfl⟩, ⟨rfl, rfl, rfl⟩, rfl⟩ := h; rfl⟩
 | st x' t' => exact ⟨h, by simp only [Ev_bind, Ev_guard, Ev_pure] at h; obtain ⟨_, _, _, _, ⟨h1, rfl, rfl⟩, ⟨rfl, rfl, rfl⟩, rfl⟩ := h; rfl⟩
 | nil t' => exact ⟨h, by simp only [Ev_bind, Ev_guard, Ev_pure] at h; obtain ⟨_, _, _, _, ⟨h1, rfl, rfl⟩, ⟨rfl, rfl, rfl⟩, rfl⟩ := h; rfl⟩
theorem leavesData_nokey : ∀ {ts : List TypeId} {lvs : List LV} {es es' : ES} {as : List Arg} {ls : List PLt}, Ev S (leavesData P false ts lvs) es as es' ls → lvs.flatMap keysLV = [] → Ev S (leavesData P true ts lvs) es as es' ls ∧ es' = es
 | [], [], es, es', as, ls, h, hk => by
  unfold leavesData at h ⊢
  exact ⟨h, (Ev_pure.1 h).2.1.symm⟩
 | t :: ts, l :: lvs, es, es', as, ls, h, hk => by
  rw [List.flatMap_cons, List.append_eq_nil_iff] at hk
  unfold leavesData at h ⊢
  rw [Ev_bind] at h ⊢
  obtain ⟨x, e1, l1, l2, h1, h2, rfl⟩ := h
  rw [Ev_bind] at h2
  obtain ⟨y, e2, l3, l4, h3, h4, rfl⟩ := h2
  obtain ⟨q1, rfl⟩ := leafData_nokey h1 hk.1
  obtain ⟨q2, rfl⟩ := leavesData_nokey h3 hk.2
  refine ⟨⟨x, _, l1, _, q1, Ev_bind.2 ⟨y, _, l3, l4, q2, h4, rfl⟩, rfl⟩, (Ev_pure.1 h4).2.1.symm⟩
 | [], _ :: _, _, _, _, _, h, _ => by simp [leavesData, Ev_fail] at h
 | _ :: _, [], _, _, _, _, h, _ => by simp [leavesData, Ev_fail] at h
theorem toDataA_ok {t : TypeId} {vv : VV} {es es' : ES} {x : Arg} {ls : List PLt} {v : Value} {KS : List Nat} (G : Good P N X ρ K S.tm (cur S es.obs) μ a w) (h : Ev S (toData P false t vv) es x es' ls) (hl : LH R ρ ls)
  (hg : holds ρ es.gs = some true) (hk : ∀ k ∈ keysVV vv, K k) (hv : VRel (cxOf P X ρ (cur S es.obs) μ w) vv v) (hKS : ∀ k ∈ keysVV vv, ∀ e t c, cur S es.obs k = some (.arr e t c) → k ∈ KS)
  (hd : (∃ l, vv = .leaf l) ∨ keysVV vv = []) :
  ∃ iv, x.ev ρ = some iv ∧ Rel P w (ApartK (cxOf P X ρ (cur S es.obs) μ w) KS) t iv v := by
 cases vv with
 | leaf l => exact leafDataA_ok G h hl hg hv hKS
 | agg t' cs =>
  have hkc : keysVV (.agg t' cs) = [] := hd.resolve_left (by simp)
  have h' : Ev S (toData P true t (.agg t' cs)) es x es' ls ∧ es'.obs = es.obs := by
   unfold toData at h ⊢
   rw [Ev_bind] at h ⊢
   obtain ⟨u, e1, l1, l2, h1, h2, rfl⟩ := h
   rw [Ev_bind] at h2
   obtain ⟨u2, e2, l3, l4, h3, h4, rfl⟩ := h2
   rw [Ev_bind] at h4
   obtain ⟨u3, e3, l5, l6, h5, h6, rfl⟩ := h4
   obtain ⟨q1, q2⟩ := leavesData_nokey h5 hkc
   refine ⟨⟨u, e1, l1, _, h1, Ev_bind.2 ⟨u2, e2, l3, _, h3, Ev_bind.2 ⟨u3, e3, l5, l6, q1, h6, rfl⟩, rfl⟩, rfl⟩, ?_⟩
   obtain ⟨_, rfl, _⟩ := Ev_guard.1 h1
   obtain ⟨_, rfl, _⟩ := Ev_ofOption.1 h3
   obtain ⟨_, rfl, _⟩ := Ev_prim.1 h6
   rw [q2]
  obtain ⟨h', ho⟩ := h'
  obtain ⟨p, _, hD⟩ := toData_ok G h' hl hg hk hv
  obtain ⟨iv, d1, d2⟩ := hD rfl
  rw [ho] at d2
  exact ⟨iv, d1, d2.weaken fun b _ hb => hb.1⟩
theorem Arg.same_ev {x y : Arg} (h : x.same y = true) : x.ev ρ = y.ev ρ := by
 cases x with
 | v n => cases y with
  | v m => simp [Arg.same] at h; subst h; rfl
  | k c => simp [Arg.same] at h
 | k c => cases y with
  | v m => cases c <;> simp [Arg.same] at h
  | k d => cases c <;> cases d <;> simp_all [Arg.same, Arg.ev]
theorem holds_mem {gs : List (Arg × Bool)} (h : holds ρ gs = some true) : ∀ g ∈ gs, g.1.ev ρ = some (.bool g.2) := by
 induction gs with
 | nil => simp
 | cons g gs ih =>
  obtain ⟨x, want⟩ := g
  unfold holds at h
  cases hx : x.ev ρ with
  | none => simp [hx] at h
  | some y =>
   cases y <;> simp_all
   rename_i b
   split at h
   ·rename_i hb; subst hb; exact ⟨rfl, ih h⟩
   ·simp at h
theorem holds_of {gs : List (Arg × Bool)} (h : ∀ g ∈ gs, g.1.ev ρ = some (.bool g.2)) : holds ρ gs = some true := by
 induction gs with
 | nil => rfl
 | cons g gs ih =>
  obtain ⟨x, want⟩ := g
  have h0 := h _ List.mem_cons_self
  unfold holds
  simp only [h0, if_true]
  exact ih fun g hg => h g (List.mem_cons_of_mem _ hg)
theorem guardsIn_holds {gs hs : List (Arg × Bool)} (h : guardsIn gs hs = true) (hh : holds ρ hs = some true) : holds ρ gs = some true := by
 refine holds_of fun g hg => ?_
 have := List.all_eq_true.1 h g hg
 obtain ⟨g', h1, h2⟩ := List.any_eq_true.1 this
 simp only [Bool.and_eq_true, beq_iff_eq] at h2
 rw [Arg.same_ev h2.1, h2.2]
 exact holds_mem hh g' h1
theorem SRel.use {c : Cx} {s : SV} {v : Value} (h : SRel c s v) (hh : holds c.ρ s.gs = some true) : XRel c s.x v := by
 obtain ⟨b, h1, h2, h3⟩ := h
 rw [hh] at h1; injection h1 with h1; exact h2 h1.symm
theorem constLV_ok {c : Cx} {t : TypeId} {v : Value} {l : LV} (h : constLV c.P t v = some l) : CRel c l v ∧ keysLV l = [] := by
 unfold constLV at h
 split at h
 ·split at h
  ·rename_i hk; injection h with h; subst h; exact ⟨⟨rfl, _, rfl, .int (intK_eq hk)⟩, rfl⟩
  ·cases h
 ·split at h
  ·rename_i hk; injection h with h; subst h; exact ⟨⟨rfl, _, rfl, .bool (isBool_eq hk)⟩, rfl⟩
  ·cases h
 ·split at h
  ·rename_i hk; injection h with h; subst h; exact ⟨⟨rfl, _, rfl, .str (isStr_eq hk)⟩, rfl⟩
  ·cases h
 ·split at h
  ·injection h with h; subst h; exact ⟨⟨rfl, rfl⟩, rfl⟩
  ·cases h
 ·injection h with h; subst h; exact ⟨⟨rfl, trivial⟩, rfl⟩
 ·injection h with h; subst h; exact ⟨⟨rfl, trivial⟩, rfl⟩
 ·injection h with h; subst h; exact ⟨⟨rfl, trivial⟩, rfl⟩
 ·injection h with h; subst h; exact ⟨⟨rfl, trivial⟩, rfl⟩
 ·cases h
theorem constLVs_ok {c : Cx} : ∀ {ts : List TypeId} {vs : List Value} {ls : List LV}, constLVs c.P ts vs = some ls → CRels c ls vs ∧ ls.flatMap keysLV = [] ∧ ls.length = ts.length
 | [], [], ls, h => by simp [constLVs] at h; subst h; exact ⟨trivial, rfl, rfl⟩
 | t :: ts, v :: vs, ls, h => by
  simp only [constLVs, Option.pure_def, Option.bind_eq_bind] at h
  cases h1 : constLV c.P t v with
  | none => simp [h1] at h
  | some l =>
   cases h2 : constLVs c.P ts vs with
   | none => simp [h1, h2] at h
   | some ls' =>
    simp [h1, h2] at h; subst h
    have := constLV_ok h1
    have ih := constLVs_ok h2
    exact ⟨⟨this.1, ih.1⟩, by rw [List.flatMap_cons, this.2, ih.2.1]; rfl, by simp [ih.2.2]⟩
 | [], _ :: _, _, h => by simp [constLVs] at h
 | _ :: _, [], _, h => by simp [constLVs] at h
theorem constVV_ok {c : Cx} {t : TypeId} {v : Value} {vv : VV} (h : constVV c.P t v = some vv) : VRel c vv v ∧ keysVV vv = [] ∧ (isAggT c.P t = false → v.oneCell' = true) ∧ (∀ u ∈ v.cells, u.oneCell' = true) ∧
  (isAggT c.P t = true → ∃ cs, v = .agg cs) := by
 unfold constVV at h
 split at h
 ·rename_i cs
  split at h
  ·rename_i ha
   simp only [Option.pure_def, Option.bind_eq_bind] at h
   cases hts : leaves c.P t with
   | none => simp [hts] at h
   | some ts =>
    cases hl : constLVs c.P ts cs.toList with
    | none => simp [hts, hl] at h
    | some ls =>
     simp [hts, hl] at h; subst h
     have := constLVs_ok hl
     refine ⟨⟨cs, rfl, this.1⟩, this.2.1, fun h => by simp [ha] at h, ?_, fun _ => ⟨cs, rfl⟩⟩
     intro u hu
     have hu' : u ∈ cs.toList := by simpa [Value.cells] using hu
     have key : ∀ (ls : List LV) (vs : List Value), CRels c ls vs → ∀ u ∈ vs, u.oneCell' = true := by
      intro ls
      induction ls with
      | nil => intro vs h u hu; cases vs with | nil => simp at hu | cons => exact h.elim
      | cons l ls ih =>
       intro vs h u hu
       cases vs with
       | nil => exact h.elim
       | cons v vs =>
        rcases List.mem_cons.1 hu with rfl | hu
        ·exact h.1.1
        ·exact ih vs h.2 u hu
     exact key _ _ this.1 u hu'
  ·cases h
 ·split at h
  ·cases h
  ·rename_i hne ha
   simp only [Option.map_eq_some_iff] at h
   obtain ⟨l, h, rfl⟩ := h
   have := constLV_ok h
   have ho : v.oneCell' = true := this.1.1
   refine ⟨this.1.2, this.2, fun _ => ho, ?_, fun h => absurd h ha⟩
   intro u hu
   have : v.cells = #[v] := by cases v <;> simp_all [Value.cells]
   rw [this] at hu; simp at hu; subst hu; exact ho
theorem rd_ok {t : TypeId} {x : Operand} {es es' : ES} {sx : SX} {ls : List PLt} (G : Good P N X ρ K S.tm (cur S es.obs) μ a w) (h : Ev S (rd P x t) es sx es' ls) (hg : holds ρ es.gs = some true) :
  es = es' ∧ ls = [] ∧ XRel (cxOf P X ρ (cur S es.obs) μ w) sx (a.eval x) ∧ ∀ k ∈ keysSX sx, K k := by
 unfold rd at h
 cases x with
 | tmp s =>
  simp only [Ev_bind, Ev_getTm, Ev_guards, Ev_guard, Ev_pure] at h
  obtain ⟨v, _, _, _, ⟨rfl, rfl, rfl⟩, ⟨gs, _, _, _, ⟨rfl, rfl, rfl⟩, ⟨_, _, _, _, ⟨h1, rfl, rfl⟩, ⟨rfl, rfl, rfl⟩, rfl⟩, rfl⟩, rfl⟩ := h
  exact ⟨rfl, rfl, (G.slot s).use (guardsIn_holds h1 hg), G.kt s⟩
 | const c =>
  simp only [Ev_bind, Ev_ofOption, Ev_pure] at h
  obtain ⟨v, _, _, _, ⟨h1, rfl, rfl⟩, ⟨rfl, rfl, rfl⟩, rfl⟩ := h
  have := constVV_ok (c := cxOf P X ρ (cur S es.obs) μ w) h1
  exact ⟨rfl, rfl, this.1, fun k hk => by rw [show keysSX (.one v) = keysVV v from rfl, this.2.1] at hk; simp at hk⟩
 | func f =>
  rw [Ev_pure] at h
  obtain ⟨rfl, rfl, rfl⟩ := h
  exact ⟨rfl, rfl, ⟨#[], rfl, trivial⟩, fun k hk => by simp [keysSX, keysVV, keysLV] at hk⟩
 | global g => simp [Ev_fail] at h
theorem rd1_ok {t : TypeId} {x : Operand} {es es' : ES} {vv : VV} {ls : List PLt} (G : Good P N X ρ K S.tm (cur S es.obs) μ a w) (h : Ev S (rd1 P x t) es vv es' ls) (hg : holds ρ es.gs = some true) :
  es = es' ∧ ls = [] ∧ VRel (cxOf P X ρ (cur S es.obs) μ w) vv (a.eval x) ∧ ∀ k ∈ keysVV vv, K k := by
 unfold rd1 at h
 rw [Ev_bind] at h
 obtain ⟨sx, e1, l1, l2, h1, h2, rfl⟩ := h
 obtain ⟨rfl, rfl, h3, h4⟩ := rd_ok G h1 hg
 cases sx with
 | one v =>
  rw [Ev_pure] at h2
  obtain ⟨rfl, rfl, rfl⟩ := h2
  exact ⟨rfl, rfl, h3, h4⟩
 | tup vs => simp [Ev_fail] at h2
 | nx ok i r => simp [Ev_fail] at h2
theorem rdData_ok {t : TypeId} {x : Operand} {es es' : ES} {y : Arg} {ls : List PLt} (G : Good P N X ρ K S.tm (cur S es.obs) μ a w) (h : Ev S (rdData P x t) es y es' ls) (hl : LH R ρ ls) (hg : holds ρ es.gs = some true) :
  Ph P N X ρ K S μ a w es es' ∧ BRel (cxOf P X ρ (cur S es'.obs) μ w) y t (a.eval x) := by
 unfold rdData at h
 rw [Ev_bind] at h
 obtain ⟨vv, e1, l1, l2, h1, h2, rfl⟩ := h
 obtain ⟨rfl, rfl, h3, h4⟩ := rd1_ok G h1 hg
 obtain ⟨p1, p2, _⟩ := toData_ok G h2 hl.right hg h4 h3
 exact ⟨p1, p2⟩
theorem rdInt_ok {x : Operand} {es es' : ES} {y : Arg} {ls : List PLt} (G : Good P N X ρ K S.tm (cur S es.obs) μ a w) (h : Ev S (rdInt P x) es y es' ls) (hg : holds ρ es.gs = some true) :
  es = es' ∧ ls = [] ∧ ∃ n k, y.ev ρ = some (.int n) ∧ a.eval x = .int k n := by
 unfold rdInt at h
 cases x with
 | tmp s =>
  simp only [Ev_bind, Ev_getTm, Ev_guards, Ev_guard] at h
  obtain ⟨v, _, _, _, ⟨rfl, rfl, rfl⟩, ⟨gs, _, _, _, ⟨rfl, rfl, rfl⟩, ⟨_, _, _, _, ⟨h1, rfl, rfl⟩, h2, rfl⟩, rfl⟩, rfl⟩ := h
  have hx := (G.slot s).use (guardsIn_holds h1 hg)
  split at h2
  ·rename_i b t hb
   rw [hb] at hx
   simp only [Ev_bind, Ev_guard, Ev_pure] at h2
   obtain ⟨_, _, _, _, ⟨h3, rfl, rfl⟩, ⟨rfl, rfl, rfl⟩, rfl⟩ := h2
   obtain ⟨k, hk⟩ := Option.isSome_iff_exists.1 h3
   obtain ⟨iv, d1, d2⟩ := hx
   obtain ⟨n, rfl, hv⟩ := d2.int_inv (intK_eq hk)
   exact ⟨rfl, rfl, n, k, d1, hv⟩
  ·simp [Ev_fail] at h2
 | const c =>
  cases c <;> simp [Ev_fail, Ev_pure] at h
  obtain ⟨rfl, rfl, rfl⟩ := h
  exact ⟨rfl, rfl, _, _, rfl, rfl⟩
 | func f => simp [Ev_fail] at h
 | global g => simp [Ev_fail] at h
end
end Go.CT
namespace Go.CT
open EM
structure WStep (W : Nat → Prop) (w w' : World) : Prop where
 os : w'.os = w.os
 tape : w'.tape = w.tape
 output : w'.output = w.output
 size : w.heap.size ≤ w'.heap.size
 stays : Stays W w w'
theorem WStep.refl (W : Nat → Prop) (w : World) : WStep W w w := ⟨rfl, rfl, rfl, Nat.le_refl _, Stays.refl _ _⟩
def withKeys (K : Nat → Prop) (m m' : Nat) (k : Nat) : Prop := K k ∨ (m ≤ k ∧ k < m')
structure Out (P : Program) (N : Nat) (X : Nat → Prop) (ρ : List IV) (K : Nat → Prop) (S : View) (μ : Nat → Value) (a : Act) (w : World) (es es' : ES) (sx : SX) (μ' : Nat → Value) (w' : World) (v : Value) : Prop where
 good : Good P N X ρ (withKeys K es.m es'.m) S.tm (cur S es'.obs) μ' a w'
 rel : XRel (cxOf P X ρ (cur S es'.obs) μ' w') sx v
 keys : ∀ k ∈ keysSX sx, withKeys K es.m es'.m k
 step : WStep (Wr (cur S es.obs) μ) w w'
 own : ∀ b, Wr (cur S es'.obs) μ' b → Wr (cur S es.obs) μ b ∨ w.heap.size ≤ b
 keep : ∀ k, K k → μ' k = μ k
theorem Good.mk_keys {P : Program} {N : Nat} {X : Nat → Prop} {ρ : List IV} {K K' : Nat → Prop} {tm : Nat → SV} {ob : Nat → Option Ob} {μ : Nat → Value} {a : Act} {w : World}
  (G : Good P N X ρ K tm ob μ a w) (h : ∀ k, K k → K' k) : Good P N X ρ K' tm ob μ a w :=
 ⟨G.size, G.defers, G.slot, G.obj, G.sep, G.xsep, G.xlt, fun s k hk => h k (G.kt s k hk), fun k o ho => ⟨h k (G.ko k o ho).1, fun k' hk => h k' ((G.ko k o ho).2 k' hk)⟩⟩
theorem wp_of_value {P : Program} {o : Oper} {a : Act} {w w' : World} {v : Value} {next : Act → World → Prop} {Q : Exit → Act → World → Prop} (h : (execOp a.eval o).run P w = .ok (.value v) w') (hn : next (a.put o.dst v) w') :
  o.wp P a w next Q := by
 unfold Oper.wp
 rw [h]; exact hn
section
variable {P : Program} {N : Nat} {X : Nat → Prop} {R : Job → List IV → Option (List IV)} {ρ : List IV} {K : Nat → Prop} {S : View} {μ : Nat → Value} {a : Act} {w : World} {es es' : ES} {ls : List PLt} {sx : SX}
theorem Ph.out {v : Value} (p : Ph P N X ρ K S μ a w es es') (hr : XRel (cxOf P X ρ (cur S es'.obs) μ w) sx v) (hk : ∀ k ∈ keysSX sx, K k) : Out P N X ρ K S μ a w es es' sx μ w v :=
 ⟨p.good.mk_keys fun _ h => .inl h, hr, fun k h => .inl (hk k h), .refl _ _, fun _b hb => .inl (p.fewer.wr hb), fun _ _ => rfl⟩
theorem keys_dat (x : Arg) (t : TypeId) : ∀ k ∈ keysSX (dat x t), K k := fun k h => by simp [dat, keysSX, keysVV, keysLV] at h
theorem BRel.int {c : Cx} {x : Arg} {t : TypeId} {v : Value} {k : IntKind} (h : BRel c x t v) (ht : c.P.underlying t = some (.int k)) : ∃ n, x.ev c.ρ = some (.int n) ∧ v = .int k n := by
 obtain ⟨iv, h1, h2, _⟩ := h
 obtain ⟨n, rfl, hv⟩ := h2.int_inv ht
 exact ⟨n, h1, hv⟩
theorem BRel.bool {c : Cx} {x : Arg} {t : TypeId} {v : Value} (h : BRel c x t v) (ht : c.P.underlying t = some .bool) : ∃ n, x.ev c.ρ = some (.bool n) ∧ v = .bool n := by
 obtain ⟨iv, h1, h2, _⟩ := h
 obtain ⟨n, rfl, hv⟩ := h2.bool_inv ht
 exact ⟨n, h1, hv⟩
theorem BRel.str {c : Cx} {x : Arg} {t : TypeId} {v : Value} (h : BRel c x t v) (ht : c.P.underlying t = some .string) : ∃ n, x.ev c.ρ = some (.str n) ∧ v = .string n := by
 obtain ⟨iv, h1, h2, _⟩ := h
 obtain ⟨n, rfl, hv⟩ := h2.str_inv ht
 exact ⟨n, h1, hv⟩
theorem two_ok {t u : TypeId} {x y : Operand} {e1 e2 : ES} {b c : Arg} {l1 l2 : List PLt} (G : Good P N X ρ K S.tm (cur S es.obs) μ a w) (h1 : Ev S (rdData P x t) es b e1 l1) (h2 : Ev S (rdData P y u) e1 c e2 l2)
  (hl1 : LH R ρ l1) (hl2 : LH R ρ l2) (hg : holds ρ es.gs = some true) :
  Ph P N X ρ K S μ a w es e2 ∧ BRel (cxOf P X ρ (cur S e2.obs) μ w) b t (a.eval x) ∧ BRel (cxOf P X ρ (cur S e2.obs) μ w) c u (a.eval y) := by
 obtain ⟨p1, p2⟩ := rdData_ok G h1 hl1 hg
 obtain ⟨q1, q2⟩ := rdData_ok p1.good h2 hl2 (by rw [p1.gs]; exact hg)
 exact ⟨p1.trans q1, q1.later.brel rfl p2, q2⟩
theorem dat_out {e1 : ES} {n : Nat} {rt : TypeId} {iv : IV} {v : Value} (p : Ph P N X ρ K S μ a w es e1) (h : Arg.ev ρ (.v n) = some iv) (hr : Rel P w (fun b => X b ∨ Wr (cur S e1.obs) μ b) rt iv v) {n' : Nat} :
  Out P N X ρ K S μ a w es { e1 with n := n' } (dat (.v n) rt) μ w v :=
 Ph.out (es' := { e1 with n := n' }) ⟨p.good, p.fewer, p.m, p.gs⟩ ⟨iv, h, hr⟩ (keys_dat _ _)
theorem yOk_eq {op : BinOp} {yt : TypeId} {k : IntKind} (h : yOk P op yt k = true) : ∃ k2, P.underlying yt = some (.int k2) ∧ ((match op with | .shl | .shr => true | _ => false) = false → k2 = k) := by
 have key : ∀ h2 : (intK P yt).isSome = true, ∃ k2, P.underlying yt = some (.int k2) := fun h2 => by
  obtain ⟨k2, hk⟩ := Option.isSome_iff_exists.1 h2
  exact ⟨k2, intK_eq hk⟩
 cases op <;> simp only [yOk] at h <;> first
  | exact ⟨k, intK_eq (by simpa using h), fun _ => rfl⟩
  | (obtain ⟨k2, hk⟩ := key h; exact ⟨k2, hk, fun h => by cases h⟩)
theorem binI_ok {op : BinOp} {xt yt rt : TypeId} {x y : Operand} {k : IntKind} {b c : Arg} {e2 : ES} (p : Ph P N X ρ K S μ a w es e2) (hk : P.underlying xt = some (.int k))
    (hb : BRel (cxOf P X ρ (cur S e2.obs) μ w) b xt (a.eval x)) (hc : BRel (cxOf P X ρ (cur S e2.obs) μ w) c yt (a.eval y)) (hg2 : holds ρ e2.gs = some true) (hl : LH R ρ ls)
    (h : Ev S (do
      EM.guard (yOk P op yt k)
      match op with
      | .add | .sub | .mul => do
        EM.guard (intK P rt == some k)
        pure (dat (← prim (.arith op k) [b, c]) rt)
      | .quo => do
        EM.guard (intK P rt == some k)
        pure (dat (← prim (.quo k) [b, c]) rt)
      | .rem => do
        EM.guard (intK P rt == some k)
        pure (dat (← prim (.rem k) [b, c]) rt)
      | .shl | .shr => do
        EM.guard (intK P rt == some k)
        pure (dat (← prim (.shift op k) [b, c]) rt)
      | .eql | .neq | .lss | .leq | .gtr | .geq => do
        EM.guard (isBool P rt)
        pure (dat (← prim (.cmp op) [b, c]) rt)
      | _ => fail : EM SX) e2 sx es' ls) :
    ∃ v, (do eqGuard op xt x y (a.eval x) (a.eval y); binOp op xt (a.eval x) (a.eval y) : Sem Value).run P w = .ok v w ∧ Out P N X ρ K S μ a w es es' sx μ w v := by
  simp only [Ev_bind, Ev_guard] at h
  obtain ⟨_, _, _, _, ⟨g1, rfl, rfl⟩, h, rfl⟩ := h
  obtain ⟨k2, hyk, hk2⟩ := yOk_eq g1
  obtain ⟨i, hi, hx⟩ := hb.int hk
  obtain ⟨j, hj, hy⟩ := hc.int hyk
  have hi' : b.ev ρ = some (.int i) := hi
  have hj' : c.ev ρ = some (.int j) := hj
  rw [hx, hy]
  cases op <;> simp only [Ev_fail] at h <;> simp only [Ev_bind, Ev_guard, Ev_prim, Ev_pure] at h <;> obtain ⟨_, _, _, _, ⟨g2, rfl, rfl⟩, ⟨_, _, _, _, ⟨rfl, rfl, rfl⟩, ⟨rfl, rfl, rfl⟩, rfl⟩, rfl⟩ := h <;>
    obtain ⟨vs, iv, r1, r2, r3⟩ := LH.prim hl.right.left hg2 <;> obtain ⟨u, v, s1, s2, rfl⟩ := evs2 r1 <;> rw [hi'] at s1 <;> rw [hj'] at s2 <;> injection s1 with s1 <;> injection s2 with s2 <;> subst s1 <;> subst s2 <;> (try (have e := hk2 rfl; subst e)) <;>
    first
      | (simp only [Prim.ev, Option.some.injEq] at r2
         subst r2
         refine ⟨_, ?_, dat_out p r3 (.int (intK_eq (by simpa using g2)))⟩
         simp [eqGuard, binOp, Op.intArith])
      | (simp only [Prim.ev, scalarCmp, Option.map_some, Option.some.injEq] at r2
         subst r2
         refine ⟨_, ?_, dat_out p r3 (.bool (isBool_eq g2))⟩
         simp [eqGuard, binOp, Op.intCmp])
      | (simp only [Prim.ev] at r2
         split at r2
         · cases r2
         · rename_i hz
           injection r2 with r2; subst r2
           refine ⟨_, ?_, dat_out p r3 (.int (intK_eq (by simpa using g2)))⟩
           first
             | (simp [eqGuard, binOp, Op.intDiv, hz]; done)
             | (simp [eqGuard, binOp, Op.shift, hz, Nat.min_def]; done))
theorem binS_ok {op : BinOp} {xt yt rt : TypeId} {x y : Operand} {b c : Arg} {e2 : ES} (p : Ph P N X ρ K S μ a w es e2) (hk : P.underlying xt = some .string)
  (hb : BRel (cxOf P X ρ (cur S e2.obs) μ w) b xt (a.eval x)) (hc : BRel (cxOf P X ρ (cur S e2.obs) μ w) c yt (a.eval y)) (hg2 : holds ρ e2.gs = some true) (hl : LH R ρ ls)
  (h : Ev S (do
   EM.guard (isStr P yt)
   match op with
   | .add => do
    EM.guard (isStr P rt)
    pure (dat (← prim .cat [b, c]) rt)
   | .eql | .neq | .lss | .leq | .gtr | .geq => do
    EM.guard (isBool P rt)
    pure (dat (← prim (.cmpS op) [b, c]) rt)
   | _ => fail : EM SX) e2 sx es' ls) :
  ∃ v, (do eqGuard op xt x y (a.eval x) (a.eval y); binOp op xt (a.eval x) (a.eval y) : Sem Value).run P w = .ok v w ∧ Out P N X ρ K S μ a w es es' sx μ w v := by
 simp only [Ev_bind, Ev_guard] at h
 obtain ⟨_, _, _, _, ⟨g1, rfl, rfl⟩, h, rfl⟩ := h
 obtain ⟨i, hi, hx⟩ := hb.str hk
 obtain ⟨j, hj, hy⟩ := hc.str (isStr_eq g1)
 have hi' : b.ev ρ = some (.str i) := hi
 have hj' : c.ev ρ = some (.str j) := hj
 rw [hx, hy]
 cases op <;> simp only [Ev_fail] at h <;> simp only [Ev_bind, Ev_guard, Ev_prim, Ev_pure] at h <;> obtain ⟨_, _, _, _, ⟨g2, rfl, rfl⟩, ⟨_, _, _, _, ⟨rfl, rfl, rfl⟩, ⟨rfl, rfl, rfl⟩, rfl⟩, rfl⟩ := h <;>
  obtain ⟨vs, iv, r1, r2, r3⟩ := LH.prim hl.right.left hg2 <;> obtain ⟨u, v, s1, s2, rfl⟩ := evs2 r1 <;> rw [hi'] at s1 <;> rw [hj'] at s2 <;> injection s1 with s1 <;> injection s2 with s2 <;> subst s1 <;> subst s2
 case add =>
  simp only [Prim.ev] at r2
  split at r2
  ·rename_i hz
   injection r2 with r2; subst r2
   refine ⟨_, ?_, dat_out p r3 (.str (isStr_eq g2))⟩
   have : ¬ (((i.size + j.size : Nat) : Int) > IntKind.i64.max) := by
    have : IntKind.i64.max = 9223372036854775807 := by decide
    have : maxBytes = 140737488355328 := rfl
    omega
   simp only [eqGuard, binOp, Op.stringOp, if_neg this]
   simp
  ·cases r2
 all_goals
  simp only [Prim.ev, stringCmp, Option.map_some, Option.some.injEq] at r2
  subst r2
  refine ⟨_, ?_, dat_out p r3 (.bool (isBool_eq g2))⟩
  simp [eqGuard, binOp, Op.stringOp]
theorem binB_ok {op : BinOp} {xt yt rt : TypeId} {x y : Operand} {b c : Arg} {e2 : ES} (p : Ph P N X ρ K S μ a w es e2) (hk : P.underlying xt = some .bool)
  (hb : BRel (cxOf P X ρ (cur S e2.obs) μ w) b xt (a.eval x)) (hc : BRel (cxOf P X ρ (cur S e2.obs) μ w) c yt (a.eval y)) (hg2 : holds ρ e2.gs = some true) (hl : LH R ρ ls)
  (h : Ev S (do
   EM.guard (isBool P yt && isBool P rt)
   match op with
   | .eql => do pure (dat (← prim (.eqB false) [b, c]) rt)
   | .neq => do pure (dat (← prim (.eqB true) [b, c]) rt)
   | _ => fail : EM SX) e2 sx es' ls) :
  ∃ v, (do eqGuard op xt x y (a.eval x) (a.eval y); binOp op xt (a.eval x) (a.eval y) : Sem Value).run P w = .ok v w ∧ Out P N X ρ K S μ a w es es' sx μ w v := by
 simp only [Ev_bind, Ev_guard] at h
 obtain ⟨_, _, _, _, ⟨g1, rfl, rfl⟩, h, rfl⟩ := h
 simp only [Bool.and_eq_true] at g1
 obtain ⟨i, hi, hx⟩ := hb.bool hk
 obtain ⟨j, hj, hy⟩ := hc.bool (isBool_eq g1.1)
 have hi' : b.ev ρ = some (.bool i) := hi
 have hj' : c.ev ρ = some (.bool j) := hj
 rw [hx, hy]
 cases op <;> simp only [Ev_fail] at h <;> simp only [Ev_bind, Ev_prim, Ev_pure] at h <;> obtain ⟨_, _, _, _, ⟨rfl, rfl, rfl⟩, ⟨rfl, rfl, rfl⟩, rfl⟩ := h <;>
  obtain ⟨vs, iv, r1, r2, r3⟩ := LH.prim hl.left hg2 <;> obtain ⟨u, v, s1, s2, rfl⟩ := evs2 r1 <;> rw [hi'] at s1 <;> rw [hj'] at s2 <;> injection s1 with s1 <;> injection s2 with s2 <;> subst s1 <;> subst s2
 ·simp only [Prim.ev, Option.some.injEq, Bool.false_eq_true, if_false] at r2
  subst r2
  refine ⟨_, ?_, dat_out p r3 (.bool (isBool_eq g1.2))⟩
  rw [Sem.run_bind, show (eqGuard .eql xt x y (.bool i) (.bool j)).run P w = .ok () w by simp [eqGuard], Result.andThen_ok, run_eql_bool w xt i j hk]
 ·simp only [Prim.ev, Option.some.injEq, if_true] at r2
  subst r2
  refine ⟨_, ?_, dat_out p r3 (.bool (isBool_eq g1.2))⟩
  rw [Sem.run_bind, show (eqGuard .neq xt x y (.bool i) (.bool j)).run P w = .ok () w by simp [eqGuard], Result.andThen_ok, run_neq_bool w xt i j hk]
  cases i <;> cases j <;> rfl
def scalarT (P : Program) (t : TypeId) : Bool := (intK P t).isSome || isStr P t || isBool P t
theorem scalar_eq {t : TypeId} {x y : IV} {u v : Value} {d : Nat} {O O' : Nat → Prop} (h : scalarT P t = true) (hx : Rel P w O t x u) (hy : Rel P w O' t y v) :
  ∃ r, IV.eqLeaf x y = some r ∧ (Op.equalIn (d + 1) t u v).run P w = .ok r w := by
 simp only [scalarT, Bool.or_eq_true, Option.isSome_iff_exists] at h
 rcases h with (⟨k, h⟩ | h) | h
 ·obtain ⟨n, rfl, rfl⟩ := hx.int_inv (intK_eq h)
  obtain ⟨m, rfl, rfl⟩ := hy.int_inv (intK_eq h)
  exact ⟨_, rfl, run_equalIn_int w d t k k n m (intK_eq h)⟩
 ·obtain ⟨n, rfl, rfl⟩ := hx.str_inv (isStr_eq h)
  obtain ⟨m, rfl, rfl⟩ := hy.str_inv (isStr_eq h)
  exact ⟨_, rfl, run_equalIn_string w d t n m (isStr_eq h)⟩
 ·obtain ⟨n, rfl, rfl⟩ := hx.bool_inv (isBool_eq h)
  obtain ⟨m, rfl, rfl⟩ := hy.bool_inv (isBool_eq h)
  exact ⟨_, rfl, run_equalIn_bool' w d t n m (isBool_eq h)⟩
theorem scalar_agg {t : TypeId} (h : scalarT P t = true) : isAggT P t = false ∧ ∃ d, P.underlying t = some d := by
 simp only [scalarT, Bool.or_eq_true, Option.isSome_iff_exists] at h
 rcases h with (⟨k, h⟩ | h) | h
 ·exact ⟨isAggT_of_int (intK_eq h), _, intK_eq h⟩
 ·exact ⟨isAggT_of_str (isStr_eq h), _, isStr_eq h⟩
 ·exact ⟨isAggT_of_bool (isBool_eq h), _, isBool_eq h⟩
theorem eqFields_ok {d : Nat} {cs ds : Array Value} {O O' : Nat → Prop} : ∀ (fs : List Field) (k : Nat) (xs ys : List IV), (∀ (j : Nat) (f : Field), fs[j]? = some f → f.offset = k + j ∧ (f.name != "_") = true ∧ scalarT P f.type = true) →
  RelsL P w O (fs.map (·.type)) xs (cs.toList.drop k) → RelsL P w O' (fs.map (·.type)) ys (ds.toList.drop k) →
  ∃ r, IV.eqLeaves xs ys = some r ∧ (Op.eqFields (d + 1) cs ds fs).run P w = .ok r w
 | [], k, xs, ys, _, hx, hy => by
  have h1 := hx.len.1
  have h2 := hy.len.1
  obtain rfl : xs = [] := List.length_eq_zero_iff.1 (by simpa using h1)
  obtain rfl : ys = [] := List.length_eq_zero_iff.1 (by simpa using h2)
  exact ⟨true, rfl, rfl⟩
 | f :: fs, k, xs, ys, hf, hx, hy => by
  obtain ⟨h1, h2, h3⟩ := hf 0 f rfl
  cases xs with
  | nil => exact absurd hx.len.1 (by simp)
  | cons x xs =>
   cases ys with
   | nil => exact absurd hy.len.1 (by simp)
   | cons y ys =>
    cases hcs : cs.toList.drop k with
    | nil => rw [hcs] at hx; exact hx.elim
    | cons u us =>
     cases hds : ds.toList.drop k with
     | nil => rw [hds] at hy; exact hy.elim
     | cons v vs =>
      rw [hcs] at hx; rw [hds] at hy
      obtain ⟨r1, e1, e2⟩ := scalar_eq (d := d) h3 hx.1 hy.1
      have hcs' : us = cs.toList.drop (k + 1) := by rw [← List.drop_drop, hcs]; rfl
      have hds' : vs = ds.toList.drop (k + 1) := by rw [← List.drop_drop, hds]; rfl
      obtain ⟨r2, e3, e4⟩ := eqFields_ok fs (k + 1) xs ys (fun j f h => by
       have := hf (j + 1) f (by simpa using h)
       exact ⟨by omega, this.2⟩) (by rw [← hcs']; exact hx.2) (by rw [← hds']; exact hy.2)
      refine ⟨r1 && r2, by simp [IV.eqLeaves, e1, e3], ?_⟩
      obtain ⟨ha, dd, hd⟩ := scalar_agg h3
      have hu : cs[k]? = some u := by
       have := congrArg (fun l => l[0]?) hcs
       simpa [List.getElem?_drop] using this
      have hv : ds[k]? = some v := by
       have := congrArg (fun l => l[0]?) hds
       simpa [List.getElem?_drop] using this
      have p1 : (part f.type cs f.offset).run P w = .ok u w := by
       simp [part, run_isAgg hd, ha, h1, hu]
      have p2 : (part f.type ds f.offset).run P w = .ok v w := by
       simp [part, run_isAgg hd, ha, h1, hv]
      have hn : f.name ≠ "_" := by simpa using h2
      simp only [Op.eqFields, hn, ne_eq, not_false_eq_true, if_true, Sem.run_bind, p1, p2, e2, Result.andThen_ok]
      cases r1
      ·simp
      ·simpa using e4
theorem leaves_plain {t : TypeId} {fs : Array Field} (hu : P.underlying t = some (.struct fs)) (h : ∀ f ∈ fs.toList, scalarT P f.type = true) : leaves P t = some (fs.toList.map (·.type)) := by
 have key : ∀ l : List Field, (∀ f ∈ l, scalarT P f.type = true) → l.mapM (fun f => leafTs P 11 f.type) = some (l.map fun f => [f.type]) := by
  intro l
  induction l with
  | nil => intro _; rfl
  | cons f l ih =>
   intro h
   have h0 : leafTs P 11 f.type = some [f.type] := by
    obtain ⟨ha, d, hd⟩ := scalar_agg (h f List.mem_cons_self)
    unfold leafTs
    rw [hd]
    cases d <;> simp_all [isAggT]
   rw [List.mapM_cons, h0, ih fun g hg => h g (List.mem_cons_of_mem _ hg)]
   rfl
 unfold leaves leafTs
 rw [hu]
 simp only [key _ h, Option.map_some]
 congr 1
 induction fs.toList with
 | nil => rfl
 | cons f l ih => simp [ih]
theorem plain_ok {t : TypeId} (h : plainT P t = true) : ∃ fs, P.underlying t = some (.struct fs) ∧ leaves P t = some (fs.toList.map (·.type)) ∧
  (∀ (j : Nat) (f : Field), fs.toList[j]? = some f → f.offset = 0 + j ∧ (f.name != "_") = true ∧ scalarT P f.type = true) ∧ P.stoodInHeld t = false ∧ P.eqGuardType P.depth t = false := by
 unfold plainT at h
 split at h
 ·rename_i fs hu
  simp only [Bool.and_eq_true, List.all_eq_true, Bool.not_eq_true'] at h
  obtain ⟨⟨h1, h2⟩, h3⟩ := h
  have hall : ∀ (j : Nat) (f : Field), fs.toList[j]? = some f → f.offset = 0 + j ∧ (f.name != "_") = true ∧ scalarT P f.type = true := by
   intro j f hf
   have := h1 (f, j) (by
    rw [List.mem_zipIdx_iff_getElem?]
    simpa using hf)
   simp only [beq_iff_eq] at this
   exact ⟨by omega, this.1.2, this.2⟩
  refine ⟨fs, hu, leaves_plain hu (fun f hf => ?_), hall, h2, h3⟩
  obtain ⟨j, hj⟩ := List.mem_iff_getElem?.1 hf
  exact (hall j f hj).2.2
 ·cases h
theorem binA_ok {op : BinOp} {xt yt rt : TypeId} {x y : Operand} {b c : Arg} {e2 : ES} (p : Ph P N X ρ K S μ a w es e2)
  (hb : BRel (cxOf P X ρ (cur S e2.obs) μ w) b xt (a.eval x)) (hc : BRel (cxOf P X ρ (cur S e2.obs) μ w) c yt (a.eval y)) (hg2 : holds ρ e2.gs = some true) (hl : LH R ρ ls)
  (h : Ev S (do
   EM.guard (plainT P xt && xt == yt && isBool P rt)
   match op with
   | .eql => do pure (dat (← prim (.eqA false) [b, c]) rt)
   | .neq => do pure (dat (← prim (.eqA true) [b, c]) rt)
   | _ => fail : EM SX) e2 sx es' ls) :
  ∃ v, (do eqGuard op xt x y (a.eval x) (a.eval y); binOp op xt (a.eval x) (a.eval y) : Sem Value).run P w = .ok v w ∧ Out P N X ρ K S μ a w es es' sx μ w v := by
 simp only [Ev_bind, Ev_guard] at h
 obtain ⟨_, _, _, _, ⟨g1, rfl, rfl⟩, h, rfl⟩ := h
 simp only [Bool.and_eq_true, beq_iff_eq] at g1
 obtain ⟨⟨g1, rfl⟩, g3⟩ := g1
 obtain ⟨fs, hu, hlv, hall, hst, heg⟩ := plain_ok g1
 have hagg : isAggT P xt = true := by simp [isAggT, hu]
 have hf : P.underlying xt = some (.struct (P.fieldsOf xt)) := by simp [Program.fieldsOf, hu]
 have hfs : P.fieldsOf xt = fs := by simp [Program.fieldsOf, hu]
 obtain ⟨i, hi, hbr, _⟩ := hb
 obtain ⟨j, hj, hcr, _⟩ := hc
 obtain ⟨ts, xs, cs, q1, rfl, hx, hrx⟩ := hbr.leafs hagg
 obtain ⟨ts', ys, ds, q2, rfl, hy, hry⟩ := hcr.leafs hagg
 have q1' : leaves P xt = some ts := q1
 have q2' : leaves P xt = some ts' := q2
 rw [hlv] at q1' q2'
 injection q1' with q1'; injection q2' with q2'
 subst q1'; subst q2'
 have hi' : b.ev ρ = some (.agg xs) := hi
 have hj' : c.ev ρ = some (.agg ys) := hj
 obtain ⟨r, e1, e2⟩ := eqFields_ok (d := 9998) fs.toList 0 xs ys hall (by rw [List.drop_zero]; exact hrx) (by rw [List.drop_zero]; exact hry)
 have heq : (Op.equalIn 10000 xt (.agg cs) (.agg ds)).run P w = .ok r w := by
  have := run_equalIn_agg w 9999 xt cs ds hf hst
  rw [this, hfs]; exact e2
 rw [hx, hy]
 cases op <;> simp only [Ev_fail] at h <;> simp only [Ev_bind, Ev_prim, Ev_pure] at h <;> obtain ⟨_, _, _, _, ⟨rfl, rfl, rfl⟩, ⟨rfl, rfl, rfl⟩, rfl⟩ := h <;>
  obtain ⟨vs, iv, r1, r2, r3⟩ := LH.prim hl.left hg2 <;> obtain ⟨u, v, s1, s2, rfl⟩ := evs2 r1 <;> rw [hi'] at s1 <;> rw [hj'] at s2 <;> injection s1 with s1 <;> injection s2 with s2 <;> subst s1 <;> subst s2
 ·simp only [Prim.ev, e1, Option.map_some, Option.some.injEq, Bool.false_eq_true, if_false] at r2
  subst r2
  refine ⟨_, ?_, dat_out p r3 (.bool (isBool_eq g3))⟩
  rw [Sem.run_bind, run_eqGuard_agg w .eql xt x y cs ds heg, Result.andThen_ok, run_eql_struct w xt cs ds, heq, Result.andThen_ok]
 ·simp only [Prim.ev, e1, Option.map_some, Option.some.injEq, if_true] at r2
  subst r2
  refine ⟨_, ?_, dat_out p r3 (.bool (isBool_eq g3))⟩
  rw [Sem.run_bind, run_eqGuard_agg w .neq xt x y cs ds heg, Result.andThen_ok, run_neq_struct w xt cs ds, heq, Result.andThen_ok]
theorem xBin_ok {op : BinOp} {xt yt rt : TypeId} {x y : Operand} (G : Good P N X ρ K S.tm (cur S es.obs) μ a w) (h : Ev S (xBin P op xt x y yt rt) es sx es' ls) (hl : LH R ρ ls) (hg : holds ρ es.gs = some true) :
  ∃ v, (do eqGuard op xt x y (a.eval x) (a.eval y); binOp op xt (a.eval x) (a.eval y) : Sem Value).run P w = .ok v w ∧ Out P N X ρ K S μ a w es es' sx μ w v := by
 unfold xBin at h
 rw [Ev_bind] at h
 obtain ⟨b, e1, l1, _, h1, h, rfl⟩ := h
 rw [Ev_bind] at h
 obtain ⟨c, e2, l2, l3, h2, h, rfl⟩ := h
 obtain ⟨p, hb, hc⟩ := two_ok G h1 h2 hl.left hl.right.left hg
 have hl := hl.right.right
 have hg2 : holds ρ e2.gs = some true := by rw [p.gs]; exact hg
 split at h
 ·rename_i k hk; exact binI_ok p hk hb hc hg2 hl h
 ·rename_i hk; exact binS_ok p hk hb hc hg2 hl h
 ·rename_i hk; exact binB_ok p hk hb hc hg2 hl h
 ·exact binA_ok p hb hc hg2 hl h
 ·simp [Ev_fail] at h
end
end Go.CT
namespace Go.CT
open EM
section
variable {P : Program} {N : Nat} {X : Nat → Prop} {R : Job → List IV → Option (List IV)} {ρ : List IV} {K : Nat → Prop} {S : View} {μ : Nat → Value} {a : Act} {w : World} {es es' : ES} {ls : List PLt} {sx : SX}
theorem xUn_ok {op : UnOp} {xt rt : TypeId} {x : Operand} (G : Good P N X ρ K S.tm (cur S es.obs) μ a w) (h : Ev S (xUn P op xt x rt) es sx es' ls) (hl : LH R ρ ls) (hg : holds ρ es.gs = some true) :
  ∃ v, (Op.unary op (a.eval x)).run P w = .ok v w ∧ Out P N X ρ K S μ a w es es' sx μ w v := by
 unfold xUn at h
 rw [Ev_bind] at h
 obtain ⟨b, e1, l1, l2, h1, h, rfl⟩ := h
 obtain ⟨p, hb⟩ := rdData_ok G h1 hl.left hg
 have hg2 : holds ρ e1.gs = some true := by rw [p.gs]; exact hg
 have hl := hl.right
 cases op with
 | not =>
  simp only [Ev_bind, Ev_guard, Ev_prim, Ev_pure] at h
  obtain ⟨_, _, _, _, ⟨g1, rfl, rfl⟩, ⟨_, _, _, _, ⟨rfl, rfl, rfl⟩, ⟨rfl, rfl, rfl⟩, rfl⟩, rfl⟩ := h
  simp only [Bool.and_eq_true] at g1
  obtain ⟨i, hi, hx⟩ := hb.bool (isBool_eq g1.1)
  have hi' : b.ev ρ = some (.bool i) := hi
  obtain ⟨vs, iv, r1, r2, r3⟩ := LH.prim hl.right.left hg2
  obtain ⟨u, s1, rfl⟩ := evs1 r1
  rw [hi'] at s1; injection s1 with s1; subst s1
  simp only [Prim.ev, Option.some.injEq] at r2; subst r2
  exact ⟨_, by rw [hx]; rfl, dat_out p r3 (.bool (isBool_eq g1.2))⟩
 | neg =>
  simp only [Ev_bind, Ev_ofOption, Ev_guard, Ev_prim, Ev_pure] at h
  obtain ⟨k, _, _, _, ⟨g0, rfl, rfl⟩, ⟨_, _, _, _, ⟨g1, rfl, rfl⟩, ⟨_, _, _, _, ⟨rfl, rfl, rfl⟩, ⟨rfl, rfl, rfl⟩, rfl⟩, rfl⟩, rfl⟩ := h
  obtain ⟨i, hi, hx⟩ := hb.int (intK_eq g0)
  have hi' : b.ev ρ = some (.int i) := hi
  obtain ⟨vs, iv, r1, r2, r3⟩ := LH.prim hl.right.right.left hg2
  obtain ⟨u, s1, rfl⟩ := evs1 r1
  rw [hi'] at s1; injection s1 with s1; subst s1
  simp only [Prim.ev, Option.some.injEq] at r2; subst r2
  exact ⟨_, by rw [hx]; rfl, dat_out p r3 (.int (intK_eq (by simpa using g1)))⟩
 | xor => simp [Ev_fail] at h
 | plus => simp [Ev_fail] at h
theorem bytes_fold : ∀ (ns : List Int) (l : List UInt8) (acc : ByteArray), (ns.map IV.int).mapM ivByte = some l → ns.foldl (fun r n => r.push (UInt8.ofNat n.toNat)) acc = ⟨(acc.data.toList ++ l).toArray⟩
 | [], l, acc, h => by
  simp at h; subst h
  simp
 | n :: ns, l, acc, h => by
  simp only [List.map_cons, List.mapM_cons, Option.pure_def, Option.bind_eq_bind] at h
  cases h1 : ivByte (.int n) with
  | none => simp [h1] at h
  | some b =>
   cases h2 : (ns.map IV.int).mapM ivByte with
   | none => simp [h1, h2] at h
   | some l' =>
    simp only [h1, h2, Option.bind_some, Option.some.injEq] at h
    subst h
    rw [List.foldl_cons, bytes_fold ns l' _ h2]
    have hb : b = UInt8.ofNat n.toNat := by
     simp only [ivByte] at h1
     split at h1
     ·injection h1 with h1; exact h1.symm
     ·cases h1
    subst hb
    simp [ByteArray.push]
theorem xConv_ok {src dst : TypeId} {x : Operand} (G : Good P N X ρ K S.tm (cur S es.obs) μ a w) (h : Ev S (xConv P src dst x) es sx es' ls) (hl : LH R ρ ls) (hg : holds ρ es.gs = some true) :
  ∃ v, (convert src dst (a.eval x)).run P w = .ok v w ∧ Out P N X ρ K S μ a w es es' sx μ w v := by
 unfold xConv at h
 rw [Ev_bind] at h
 obtain ⟨b, e1, l1, l2, h1, h, rfl⟩ := h
 obtain ⟨p, hb⟩ := rdData_ok G h1 hl.left hg
 have hg2 : holds ρ e1.gs = some true := by rw [p.gs]; exact hg
 have hl := hl.right
 split at h
 ·rename_i k k' hs hd
  simp only [Ev_bind, Ev_prim, Ev_pure] at h
  obtain ⟨_, _, _, _, ⟨rfl, rfl, rfl⟩, ⟨rfl, rfl, rfl⟩, rfl⟩ := h
  obtain ⟨i, hi, hx⟩ := hb.int hs
  have hi' : b.ev ρ = some (.int i) := hi
  obtain ⟨vs, iv, r1, r2, r3⟩ := LH.prim hl.left hg2
  obtain ⟨u, s1, rfl⟩ := evs1 r1
  rw [hi'] at s1; injection s1 with s1; subst s1
  simp only [Prim.ev, Option.some.injEq] at r2; subst r2
  refine ⟨_, ?_, dat_out p r3 (.int hd)⟩
  rw [hx]
  simp [convert, underlying, hs, hd, Conv.intToInt]
 ·rename_i hs hd
  rw [Ev_pure] at h
  obtain ⟨rfl, rfl, rfl⟩ := h
  obtain ⟨i, hi, hx⟩ := hb.str hs
  refine ⟨.string i, ?_, p.out ⟨_, hi, .str hd⟩ (keys_dat _ _)⟩
  rw [hx]
  simp [convert, underlying, hs, hd]
 ·rename_i e hs hd
  simp only [Ev_bind, Ev_guard, Ev_prim, Ev_pure] at h
  obtain ⟨_, _, _, _, ⟨g1, rfl, rfl⟩, ⟨_, _, _, _, ⟨rfl, rfl, rfl⟩, ⟨rfl, rfl, rfl⟩, rfl⟩, rfl⟩ := h
  have he : P.underlying e = some (.int .u8) := intK_eq (by simpa using g1)
  obtain ⟨iv0, hi, _, hrow⟩ := hb
  obtain ⟨xs, A, cap, rfl, hx, h1, h2, vs0, h3, h4⟩ := hrow e hs
  have hi' : b.ev ρ = some (.list xs) := hi
  obtain ⟨vs, iv, r1, r2, r3⟩ := LH.prim hl.right.left hg2
  obtain ⟨u, s1, rfl⟩ := evs1 r1
  rw [hi'] at s1; injection s1 with s1; subst s1
  simp only [Prim.ev, Option.map_eq_some_iff] at r2
  obtain ⟨l, r2, rfl⟩ := r2
  -- the numbers
  have hints : ∃ ns : List Int, xs = ns.map IV.int ∧ ∀ j n, ns[j]? = some n → vs0 j = .int .u8 n := by
   refine ⟨xs.map fun | .int n => n | _ => 0, ?_, ?_⟩
   ·apply List.ext_getElem?
    intro j
    simp only [List.getElem?_map]
    cases hj : xs[j]? with
    | none => rfl
    | some y =>
     obtain ⟨n, rfl, _⟩ := (h4 j y hj).int_inv he
     rfl
   ·intro j n hj
    simp only [List.getElem?_map] at hj
    cases hy : xs[j]? with
    | none => simp [hy] at hj
    | some y =>
     obtain ⟨m, rfl, hv⟩ := (h4 j y hy).int_inv he
     simp [hy] at hj; subst hj; exact hv
  obtain ⟨ns, rfl, hns⟩ := hints
  have hsz : 0 < ns.length → sizeT P e = 1 := by
   intro h0
   obtain ⟨hs0, ad, _, hc⟩ := h3 (by simpa using h0)
   have := (hc 0 (by simpa using h0)).1
   rw [hns 0 _ (List.getElem?_eq_getElem h0)] at this
   simp [Value.cells] at this
   exact this.symm
  refine ⟨.string ⟨l.toArray⟩, ?_, dat_out p r3 (.str hd)⟩
  rw [hx]
  have hconv : (convert src dst (.slice A (ns.map IV.int).length cap)).run P w = (Conv.bytesToString (.slice A (ns.map IV.int).length cap)).run P w := by
   simp [convert, underlying, hs, hd, he]
  rw [hconv]
  cases A with
  | none =>
   have hn : ns = [] := by
    cases ns with
    | nil => rfl
    | cons n ns => obtain ⟨_, ad, h, _⟩ := h3 (by simp); cases h
   subst hn
   simp at r2; subst r2
   rfl
  | some ad =>
   have hload : (loadCells ad (ns.map IV.int).length).run P w = .ok (ns.map (Value.int .u8)).toArray w := by
    have := run_loadCells_list (P := P) w ad (ns.map (Value.int .u8)) (fun j u hj => by
     simp only [List.getElem?_map] at hj
     cases hn : ns[j]? with
     | none => simp [hn] at hj
     | some n =>
      simp [hn] at hj; subst hj
      have hlt := (List.getElem?_eq_some_iff.1 hn).1
      obtain ⟨_, ad', hA, hc⟩ := h3 (by simp; omega)
      injection hA with hA; subst hA
      have hcj : CellsAt w (ad.add (j * sizeT P e)) (vs0 j) (sizeT P e) := hc j (by simpa using hlt)
      rw [hns j n hn, hsz (by omega), Nat.mul_one] at hcj
      have := hcj.2 0 (.int .u8 n) (by simp [Value.cells])
      rwa [addr_add_zero] at this)
    simpa using this
   rw [run_bytesToString w ad _ cap ns hload, bytes_fold ns l _ r2]
   simp
 ·simp [Ev_fail] at h
theorem xLen_ok {t rt : TypeId} {x : Operand} {ats : Array TypeId} (hat : ats = #[t]) (G : Good P N X ρ K S.tm (cur S es.obs) μ a w) (h : Ev S (xLen P t x rt) es sx es' ls) (hl : LH R ρ ls) (hg : holds ρ es.gs = some true) :
  ∃ v, (Builtin.len_ ats rt #[a.eval x]).run P w = .ok v w ∧ Out P N X ρ K S μ a w es es' sx μ w v := by
 subst hat
 unfold xLen at h
 rw [Ev_bind] at h
 obtain ⟨_, _, _, _, h0, h, rfl⟩ := h
 rw [Ev_guard] at h0
 obtain ⟨g0, rfl, rfl⟩ := h0
 rw [Ev_bind] at h
 obtain ⟨b, e1, l1, l2, h1, h, rfl⟩ := h
 obtain ⟨p, hb⟩ := rdData_ok G h1 hl.right.left hg
 have hg2 : holds ρ e1.gs = some true := by rw [p.gs]; exact hg
 have hl := hl.right.right
 have hrt : P.underlying rt = some (.int .i64) := intK_eq (by simpa using g0)
 split at h
 ·rename_i ht
  simp only [Ev_bind, Ev_prim, Ev_pure] at h
  obtain ⟨_, _, _, _, ⟨rfl, rfl, rfl⟩, ⟨rfl, rfl, rfl⟩, rfl⟩ := h
  obtain ⟨i, hi, hx⟩ := hb.str ht
  have hi' : b.ev ρ = some (.str i) := hi
  obtain ⟨vs, iv, r1, r2, r3⟩ := LH.prim hl.left hg2
  obtain ⟨u, s1, rfl⟩ := evs1 r1
  rw [hi'] at s1; injection s1 with s1; subst s1
  simp only [Prim.ev, Option.some.injEq] at r2; subst r2
  refine ⟨_, ?_, dat_out p r3 (.int hrt)⟩
  rw [hx]
  simp [Builtin.len_, underlying, ht, goInt]
 ·rename_i e ht
  simp only [Ev_bind, Ev_prim, Ev_pure] at h
  obtain ⟨_, _, _, _, ⟨rfl, rfl, rfl⟩, ⟨rfl, rfl, rfl⟩, rfl⟩ := h
  obtain ⟨iv0, hi, _, hrow⟩ := hb
  obtain ⟨xs, A, cap, rfl, hx, _⟩ := hrow e ht
  have hi' : b.ev ρ = some (.list xs) := hi
  obtain ⟨vs, iv, r1, r2, r3⟩ := LH.prim hl.left hg2
  obtain ⟨u, s1, rfl⟩ := evs1 r1
  rw [hi'] at s1; injection s1 with s1; subst s1
  simp only [Prim.ev, Option.some.injEq] at r2; subst r2
  refine ⟨_, ?_, dat_out p r3 (.int hrt)⟩
  rw [hx]
  simp [Builtin.len_, underlying, ht, goInt]
 ·simp [Ev_fail] at h
theorem xMinMax_ok {mx : Bool} {t rt : TypeId} {x y : Operand} {ats : Array TypeId} (G : Good P N X ρ K S.tm (cur S es.obs) μ a w) (h : Ev S (xMinMax P mx t x y rt) es sx es' ls) (hl : LH R ρ ls) (hg : holds ρ es.gs = some true) :
  ∃ v, (if mx then Builtin.max_ ats rt #[a.eval x, a.eval y] else Builtin.min_ ats rt #[a.eval x, a.eval y]).run P w = .ok v w ∧ Out P N X ρ K S μ a w es es' sx μ w v := by
 unfold xMinMax at h
 rw [Ev_bind] at h
 obtain ⟨k, _, _, _, h0, h, rfl⟩ := h
 rw [Ev_ofOption] at h0
 obtain ⟨g0, rfl, rfl⟩ := h0
 rw [Ev_bind] at h
 obtain ⟨_, _, _, _, h0, h, rfl⟩ := h
 rw [Ev_guard] at h0
 obtain ⟨g1, rfl, rfl⟩ := h0
 rw [Ev_bind] at h
 obtain ⟨b, e1, l1, _, h1, h, rfl⟩ := h
 rw [Ev_bind] at h
 obtain ⟨c, e2, l2, l3, h2, h, rfl⟩ := h
 have hl := hl.right.right
 obtain ⟨p, hb, hc⟩ := two_ok G h1 h2 hl.left hl.right.left hg
 have hg2 : holds ρ e2.gs = some true := by rw [p.gs]; exact hg
 have hl := hl.right.right
 have hrt : P.underlying rt = some (.int k) := intK_eq (by simpa using g1)
 obtain ⟨i, hi, hx⟩ := hb.int (intK_eq g0)
 obtain ⟨j, hj, hy⟩ := hc.int (intK_eq g0)
 have hi' : b.ev ρ = some (.int i) := hi
 have hj' : c.ev ρ = some (.int j) := hj
 simp only [Ev_bind, Ev_prim, Ev_pure] at h
 obtain ⟨_, _, _, _, ⟨rfl, rfl, rfl⟩, ⟨rfl, rfl, rfl⟩, rfl⟩ := h
 obtain ⟨vs, iv, r1, r2, r3⟩ := LH.prim hl.left hg2
 obtain ⟨u, v, s1, s2, rfl⟩ := evs2 r1
 rw [hi'] at s1; rw [hj'] at s2
 injection s1 with s1; injection s2 with s2; subst s1; subst s2
 rw [hx, hy]
 cases mx with
 | true =>
  simp only [if_true, Prim.ev, Option.some.injEq] at r2
  subst r2
  refine ⟨_, ?_, dat_out p r3 (.int hrt)⟩
  simp [Builtin.max_, Builtin.max2]
 | false =>
  simp only [Bool.false_eq_true, if_false, Prim.ev, Option.some.injEq] at r2
  subst r2
  refine ⟨_, ?_, dat_out p r3 (.int hrt)⟩
  simp [Builtin.min_, Builtin.min2]
theorem pickSide_ok {cv : Arg} {want : Bool} {x : Operand} {t : TypeId} {y : Arg} (G : Good P N X ρ K S.tm (cur S es.obs) μ a w) (h : Ev S (pickSide P cv want x t) es y es' ls) (hg : holds ρ es.gs = some true)
  (hc : cv.ev ρ = some (.bool want)) : DRel (cxOf P X ρ (cur S es.obs) μ w) y t (a.eval x) := by
 unfold pickSide at h
 cases x with
 | tmp s =>
  simp only [Ev_bind, Ev_getTm, Ev_guards, Ev_guard] at h
  obtain ⟨v, _, _, _, ⟨rfl, rfl, rfl⟩, ⟨gs, _, _, _, ⟨rfl, rfl, rfl⟩, ⟨_, _, _, _, ⟨h1, rfl, rfl⟩, h2, rfl⟩, rfl⟩, rfl⟩ := h
  have hgg : holds ρ ((cv, want) :: es.gs) = some true := by rw [holds, hc]; simpa using hg
  have hx := (G.slot s).use (guardsIn_holds h1 hgg)
  split at h2
  ·rename_i b u hb
   rw [hb] at hx
   simp only [Ev_bind, Ev_guard, Ev_pure] at h2
   obtain ⟨_, _, _, _, ⟨h3, rfl, rfl⟩, ⟨rfl, rfl, rfl⟩, rfl⟩ := h2
   have : t = u := by simpa using h3
   subst this
   exact hx
  ·simp [Ev_fail] at h2
 | const k =>
  simp only [Ev_bind, Ev_ofOption] at h
  obtain ⟨v, _, _, _, ⟨h1, rfl, rfl⟩, h2, rfl⟩ := h
  split at h2
  ·rename_i b u
   rw [Ev_pure] at h2
   obtain ⟨rfl, rfl, rfl⟩ := h2
   have hv := constVV_ok (c := cxOf P X ρ (cur S es.obs) μ w) h1
   obtain ⟨iv, d1, d2⟩ := hv.1
   refine ⟨iv, d1, ?_⟩
   -- its type is the wanted one
   have : u = t := by
    unfold constVV at h1
    split at h1
    ·split at h1
     ·simp only [Option.pure_def, Option.bind_eq_bind] at h1
      cases hts : leaves P t with
      | none => simp [hts] at h1
      | some ts => cases hcs : constLVs P ts (by assumption : Array Value).toList <;> simp [hts, hcs] at h1
     ·cases h1
    ·split at h1
     ·cases h1
     ·simp only [Option.map_eq_some_iff] at h1
      obtain ⟨l, h1, h2⟩ := h1
      injection h2 with h2; subst h2
      unfold constLV at h1
      split at h1 <;> (try split at h1) <;> simp_all
   subst this
   exact d2
  ·simp [Ev_fail] at h2
 | func f => simp [Ev_fail] at h
 | global g => simp [Ev_fail] at h
theorem pickSide_es {cv : Arg} {want : Bool} {x : Operand} {t : TypeId} {y : Arg} (h : Ev S (pickSide P cv want x t) es y es' ls) : es = es' ∧ ls = [] := by
 unfold pickSide at h
 cases x with
 | tmp s =>
  simp only [Ev_bind, Ev_getTm, Ev_guards, Ev_guard] at h
  obtain ⟨v, _, _, _, ⟨rfl, rfl, rfl⟩, ⟨gs, _, _, _, ⟨rfl, rfl, rfl⟩, ⟨_, _, _, _, ⟨h1, rfl, rfl⟩, h2, rfl⟩, rfl⟩, rfl⟩ := h
  split at h2
  ·simp only [Ev_bind, Ev_guard, Ev_pure] at h2
   obtain ⟨_, _, _, _, ⟨h3, rfl, rfl⟩, ⟨rfl, rfl, rfl⟩, rfl⟩ := h2
   exact ⟨rfl, rfl⟩
  ·simp [Ev_fail] at h2
 | const k =>
  simp only [Ev_bind, Ev_ofOption] at h
  obtain ⟨v, _, _, _, ⟨h1, rfl, rfl⟩, h2, rfl⟩ := h
  split at h2
  ·rw [Ev_pure] at h2
   obtain ⟨rfl, rfl, rfl⟩ := h2
   exact ⟨rfl, rfl⟩
  ·simp [Ev_fail] at h2
 | func f => simp [Ev_fail] at h
 | global g => simp [Ev_fail] at h
theorem xPick_ok {c x y : Operand} {rt : TypeId} (G : Good P N X ρ K S.tm (cur S es.obs) μ a w) (h : Ev S (xPick P c x y rt) es sx es' ls) (hl : LH R ρ ls) (hg : holds ρ es.gs = some true) :
  ∃ v, (do pure (if ← asBool (a.eval c) then a.eval x else a.eval y) : Sem Value).run P w = .ok v w ∧ Out P N X ρ K S μ a w es es' sx μ w v := by
 unfold xPick at h
 rw [Ev_bind] at h
 obtain ⟨_, _, _, _, h0, h, rfl⟩ := h
 rw [Ev_guard] at h0
 obtain ⟨g0, rfl, rfl⟩ := h0
 rw [Ev_bind] at h
 obtain ⟨cv, e1, l1, _, h1, h, rfl⟩ := h
 obtain ⟨p, hb⟩ := rdData_ok G h1 hl.right.left hg
 have hg2 : holds ρ e1.gs = some true := by rw [p.gs]; exact hg
 have hl := hl.right.right
 rw [Ev_bind] at h
 obtain ⟨xv, e2, l2, _, h2, h, rfl⟩ := h
 obtain ⟨rfl, rfl⟩ := pickSide_es h2
 rw [Ev_bind] at h
 obtain ⟨yv, e3, l3, _, h3, h, rfl⟩ := h
 obtain ⟨rfl, rfl⟩ := pickSide_es h3
 simp only [Ev_bind, Ev_prim, Ev_pure] at h
 obtain ⟨_, _, _, _, ⟨rfl, rfl, rfl⟩, ⟨rfl, rfl, rfl⟩, rfl⟩ := h
 obtain ⟨i, hi, hc⟩ := hb.bool (isBool_eq g0)
 have hi' : cv.ev ρ = some (.bool i) := hi
 obtain ⟨vs, iv, r1, r2, r3⟩ := LH.prim hl.right.right.left hg2
 obtain ⟨u, s, q, s1, s2, s3, rfl⟩ := evs3 r1
 rw [hi'] at s1; injection s1 with s1; subst s1
 simp only [Prim.ev, Option.some.injEq] at r2
 rw [hc]
 cases i with
 | true =>
  simp only [if_true] at r2; subst r2
  obtain ⟨iv, d1, d2⟩ := pickSide_ok p.good h2 hg2 hi'
  have d1' : xv.ev ρ = some iv := d1
  rw [s2] at d1'; injection d1' with d1'; subst d1'
  exact ⟨_, by simp [asBool], dat_out p r3 d2⟩
 | false =>
  simp only [Bool.false_eq_true, if_false] at r2; subst r2
  obtain ⟨iv, d1, d2⟩ := pickSide_ok p.good h3 hg2 hi'
  have d1' : yv.ev ρ = some iv := d1
  rw [s3] at d1'; injection d1' with d1'; subst d1'
  exact ⟨_, by simp [asBool], dat_out p r3 d2⟩
end
end Go.CT
namespace Go.CT
open EM
section
variable {P : Program} {N : Nat} {X : Nat → Prop} {R : Job → List IV → Option (List IV)} {ρ : List IV} {K : Nat → Prop} {S : View} {μ : Nat → Value} {a : Act} {w : World} {es es' : ES} {ls : List PLt} {sx : SX}
theorem CRels.len {c : Cx} : ∀ {ls : List LV} {vs : List Value}, CRels c ls vs → ls.length = vs.length
 | [], [], _ => rfl
 | _ :: _, _ :: _, h => by simp [CRels.len h.2]
 | [], _ :: _, h => h.elim
 | _ :: _, [], h => h.elim
theorem CRels.get {c : Cx} : ∀ {ls : List LV} {vs : List Value}, CRels c ls vs → ∀ (i : Nat) (l : LV) (v : Value), ls[i]? = some l → vs[i]? = some v → CRel c l v
 | [], [], _ => by simp
 | l :: ls, v :: vs, h => by
  intro i l' v' h1 h2
  cases i with
  | zero => simp at h1 h2; subst h1; subst h2; exact h.1
  | succ i => exact CRels.get h.2 i l' v' (by simpa using h1) (by simpa using h2)
 | [], _ :: _, h => h.elim
 | _ :: _, [], h => h.elim
theorem CRels.drop {c : Cx} : ∀ {ls : List LV} {vs : List Value} (n : Nat), CRels c ls vs → CRels c (ls.drop n) (vs.drop n)
 | [], [], n, _ => by simp [CRels]
 | l :: ls, v :: vs, 0, h => h
 | l :: ls, v :: vs, n + 1, h => by simpa using CRels.drop n h.2
 | [], _ :: _, _, h => h.elim
 | _ :: _, [], _, h => h.elim
theorem CRels.take {c : Cx} : ∀ {ls : List LV} {vs : List Value} (n : Nat), CRels c ls vs → CRels c (ls.take n) (vs.take n)
 | [], [], n, _ => by simp [CRels]
 | l :: ls, v :: vs, 0, h => by simp [CRels]
 | l :: ls, v :: vs, n + 1, h => ⟨h.1, CRels.take n h.2⟩
 | [], _ :: _, _, h => h.elim
 | _ :: _, [], _, h => h.elim
theorem CRels.append {c : Cx} : ∀ {ls : List LV} {vs : List Value} {ls' : List LV} {vs' : List Value}, CRels c ls vs → CRels c ls' vs' → CRels c (ls ++ ls') (vs ++ vs')
 | [], [], _, _, _, h' => h'
 | _ :: _, _ :: _, _, _, h, h' => ⟨h.1, CRels.append h.2 h'⟩
 | [], _ :: _, _, _, h, _ => h.elim
 | _ :: _, [], _, _, h, _ => h.elim
theorem CRels.one {c : Cx} : ∀ {ls : List LV} {vs : List Value}, CRels c ls vs → ∀ u ∈ vs, u.oneCell' = true
 | [], [], _ => by simp
 | _ :: _, _ :: _, h => by
  intro u hu
  rcases List.mem_cons.1 hu with rfl | hu
  ·exact h.1.1
  ·exact CRels.one h.2 u hu
 | [], _ :: _, h => h.elim
 | _ :: _, [], h => h.elim
theorem LRel.one {c : Cx} {l : LV} {v : Value} (h : LRel c l v) (hj : l ≠ .junk) (ha : ∀ x t, l = .at x t → isAggT c.P t = false) : v.oneCell' = true ∧ v.cells = #[v] := by
 cases l with
 | «at» x t => obtain ⟨iv, _, hr⟩ := h; exact hr.one (ha x t rfl)
 | nil t => have h : v = .slice none 0 0 := h; subst h; exact ⟨rfl, rfl⟩
 | ref k t => obtain ⟨_, A, n, cap, rfl⟩ := h; exact ⟨rfl, rfl⟩
 | sub k lo hi t => obtain ⟨A, n, cap, l, r, e, _, _, _, _, _, _, rfl⟩ := h; exact ⟨rfl, rfl⟩
 | ptr p =>
  cases p with
  | p k off => obtain ⟨b, _, rfl⟩ := h; exact ⟨rfl, rfl⟩
  | el k e i off => obtain ⟨g, n, cap, j, _, _, _, rfl⟩ := h; exact ⟨rfl, rfl⟩
  | im x t off => obtain ⟨ad, u, _, _, _, _, rfl⟩ := h; exact ⟨rfl, rfl⟩
 | fn f ps => obtain ⟨vs, rfl, _⟩ := h; exact ⟨rfl, rfl⟩
 | mref k t => obtain ⟨_, r, rfl⟩ := h; exact ⟨rfl, rfl⟩
 | hid k => rcases h with rfl | ⟨_, a, rfl⟩ <;> exact ⟨rfl, rfl⟩
 | cl x t => obtain ⟨_, A, n, rfl⟩ := h; exact ⟨rfl, rfl⟩
 | st x t => obtain ⟨_, ys, A, cap, _, rfl, _⟩ := h; exact ⟨rfl, rfl⟩
 | junk => exact absurd rfl hj
theorem projs_ok {x : Arg} : ∀ {ts : List TypeId} {i : Nat} {es es' : ES} {lvs : List LV} {ls : List PLt} {xs : List IV} {cs : List Value}, Ev S (projs x ts i) es lvs es' ls → LH R ρ ls → holds ρ es.gs = some true →
  x.ev ρ = some (.agg xs) → RelsL P w (cxOf P X ρ (cur S es.obs) μ w).O ts (xs.drop i) cs → (∀ u ∈ ts, isAggT P u = false) →
  (∃ n, es' = { es with n }) ∧ CRels (cxOf P X ρ (cur S es.obs) μ w) lvs cs ∧ lvs.flatMap keysLV = []
 | [], i, es, es', lvs, ls, xs, cs, h, _, _, _, hr, _ => by
  unfold projs at h
  rw [Ev_pure] at h
  obtain ⟨rfl, rfl, rfl⟩ := h
  have := hr.len
  have : cs = [] := List.length_eq_zero_iff.1 (by simpa using this.2)
  subst this
  exact ⟨⟨es.n, rfl⟩, trivial, rfl⟩
 | t :: ts, i, es, es', lvs, ls, xs, cs, h, hl, hg, hx, hr, ha => by
  unfold projs at h
  simp only [Ev_bind, Ev_prim, Ev_pure] at h
  obtain ⟨_, _, _, _, ⟨rfl, rfl, rfl⟩, ⟨r, e2, l2, _, h2, ⟨rfl, rfl, rfl⟩, rfl⟩, rfl⟩ := h
  cases hxs : xs.drop i with
  | nil => rw [hxs] at hr; exact hr.elim
  | cons y ys =>
   cases cs with
   | nil => rw [hxs] at hr; exact hr.elim
   | cons c cs =>
    rw [hxs] at hr
    obtain ⟨vs, iv, r1, r2, r3⟩ := LH.prim hl.left hg
    obtain ⟨u, s1, rfl⟩ := evs1 r1
    rw [hx] at s1; injection s1 with s1; subst s1
    have hy : xs[i]? = some y := by
     have := congrArg (fun l => l[0]?) hxs
     simpa [List.getElem?_drop] using this
    have hys : ys = xs.drop (i + 1) := by rw [← List.drop_drop, hxs]; rfl
    simp only [Prim.ev, Bool.false_eq_true, if_false] at r2
    rw [hy] at r2; injection r2 with r2; subst r2
    obtain ⟨⟨n, hn⟩, q1, q2⟩ := projs_ok (es := { es with n := es.n + 1 }) h2 hl.right.left hg hx (by rw [← hys]; exact hr.2) (fun u hu => ha u (List.mem_cons_of_mem _ hu))
    refine ⟨⟨n, hn⟩, ⟨⟨(hr.1.one (ha t List.mem_cons_self)).1, _, r3, hr.1⟩, q1⟩, ?_⟩
    rw [List.flatMap_cons, q2]; rfl
theorem explode_ok {vv : VV} {lvs : List LV} {v : Value} (h : Ev S (explode P vv) es lvs es' ls) (hl : LH R ρ ls) (hg : holds ρ es.gs = some true) (hk : ∀ k ∈ keysVV vv, K k)
  (hv : VRel (cxOf P X ρ (cur S es.obs) μ w) vv v) :
  (∃ n, es' = { es with n }) ∧ CRels (cxOf P X ρ (cur S es.obs) μ w) lvs v.cells.toList ∧ (∀ k ∈ lvs.flatMap keysLV, K k) := by
 unfold explode at h
 cases vv with
 | agg t cs =>
  rw [Ev_pure] at h
  obtain ⟨rfl, rfl, rfl⟩ := h
  obtain ⟨us, rfl, hc⟩ := hv
  exact ⟨⟨es.n, rfl⟩, hc, hk⟩
 | leaf l =>
  have lone : l ≠ .junk → (∀ x t, l = .at x t → isAggT P t = false) → Ev S (pure [l] : EM (List LV)) es lvs es' ls →
    (∃ n, es' = { es with n }) ∧ CRels (cxOf P X ρ (cur S es.obs) μ w) lvs v.cells.toList ∧ (∀ k ∈ lvs.flatMap keysLV, K k) := by
   intro hj ha h
   rw [Ev_pure] at h
   obtain ⟨rfl, rfl, rfl⟩ := h
   have h1 := LRel.one (c := cxOf P X ρ (cur S es.obs) μ w) hv hj ha
   refine ⟨⟨es.n, rfl⟩, ?_, fun k hm => hk k (by simpa [keysVV] using hm)⟩
   rw [h1.2]
   exact ⟨⟨h1.1, hv⟩, trivial⟩
  cases l with
  | «at» x t =>
   simp only [Ev_ite] at h
   rcases h with ⟨ha, h⟩ | ⟨ha, h⟩
   ·simp only [Ev_bind, Ev_ofOption] at h
    obtain ⟨ts, _, _, _, ⟨h1, rfl, rfl⟩, h2, rfl⟩ := h
    obtain ⟨iv, d1, d2⟩ := hv
    obtain ⟨ts', xs, cs, q1, rfl, rfl, q2⟩ := d2.leafs ha
    have q1' : leaves P t = some ts' := q1
    rw [h1] at q1'; injection q1' with q1'; subst q1'
    obtain ⟨hn, p1, p2⟩ := projs_ok (xs := xs) (cs := cs.toList) h2 hl hg d1 (by rw [List.drop_zero]; exact q2) (fun u hu => by
     obtain ⟨i, hi⟩ := List.mem_iff_getElem?.1 hu
     exact leaves_flat h1 i u hi)
    exact ⟨hn, p1, fun k hm => by rw [p2] at hm; simp at hm⟩
   ·exact lone (by simp) (fun x' t' he => by injection he with _ he; subst he; simpa using ha) h
  | junk => simp [Ev_fail] at h
  | nil t => exact lone (by simp) (by simp) h
  | ref k t => exact lone (by simp) (by simp) h
  | sub k lo hi t => exact lone (by simp) (by simp) h
  | ptr p => exact lone (by simp) (by simp) h
  | fn f ps => exact lone (by simp) (by simp) h
  | mref k t => exact lone (by simp) (by simp) h
  | hid k => exact lone (by simp) (by simp) h
  | cl x t => exact lone (by simp) (by simp) h
  | st x t => exact lone (by simp) (by simp) h
theorem extract_list (cs : Array Value) (i n : Nat) : (cs.extract i (i + n)).toList = (cs.toList.drop i).take n := by
 simp [Array.toList_extract, List.extract]
theorem subVV_ok {t0 t : TypeId} {vv r : VV} {off : Nat} {v : Value} (h : Ev S (subVV P t0 vv off t) es r es' ls) (hl : LH R ρ ls) (hg : holds ρ es.gs = some true) (hk : ∀ k ∈ keysVV vv, K k)
  (hv : VRel (cxOf P X ρ (cur S es.obs) μ w) vv v) (hs : v.cells.size = sizeT P t0) (ha0 : if isAggT P t0 then ∃ cs, v = .agg cs else v.oneCell' = true) :
  (∃ n, es' = { es with n }) ∧ VRel (cxOf P X ρ (cur S es.obs) μ w) r (partV P t v.cells off) ∧ (∀ k ∈ keysVV r, K k) ∧
   (isAggT P t = true → off + sizeT P t ≤ v.cells.size) ∧ (isAggT P t = false → off < v.cells.size) := by
 unfold subVV at h
 have onecells : v.oneCell' = true → v.cells = #[v] := by intro h; cases v <;> simp_all [Value.cells, Value.oneCell']
 cases vv with
 | agg t' cs =>
  obtain ⟨us, rfl, hc⟩ := hv
  simp only [Ev_ite] at h
  rcases h with ⟨ha, h⟩ | ⟨ha, h⟩
  ·simp only [Ev_bind, Ev_guard, Ev_pure] at h
   obtain ⟨_, _, _, _, ⟨g1, rfl, rfl⟩, ⟨rfl, rfl, rfl⟩, rfl⟩ := h
   simp only [decide_eq_true_eq] at g1
   have hlen := hc.len
   refine ⟨⟨es.n, rfl⟩, ⟨us.extract off (off + sizeT P t), by simp [partV, ha, Value.cells], ?_⟩, fun k hm => hk k ?_, fun _ => ?_, fun h => by simp [ha] at h⟩
   ·rw [extract_list]; exact (hc.drop off).take _
   ·simp only [keysVV, List.mem_flatMap] at hm ⊢
    obtain ⟨l, hm, hk⟩ := hm
    exact ⟨l, List.mem_of_mem_drop (List.mem_of_mem_take hm), hk⟩
   ·simp only [Value.cells]; rw [hlen] at g1; simpa using g1
  ·have ha' : isAggT P t = false := by simpa using ha
   simp only [Ev_bind, Ev_ofOption, Ev_pure] at h
   obtain ⟨l, _, _, _, ⟨g1, rfl, rfl⟩, ⟨rfl, rfl, rfl⟩, rfl⟩ := h
   have hlt := (List.getElem?_eq_some_iff.1 g1).1
   have hlen := hc.len
   have hus : off < us.size := by rw [hlen] at hlt; simpa using hlt
   refine ⟨⟨es.n, rfl⟩, ?_, fun k hm => hk k ?_, fun h => by simp [ha'] at h, fun _ => hus⟩
   ·have := (hc.get off l us[off] g1 (by simp [hus])).2
    show LRel _ l _
    simpa [partV, ha', Value.cells, Array.getD, hus] using this
   ·simp only [keysVV, List.mem_flatMap] at hm ⊢
    exact ⟨l, List.mem_of_getElem? g1, hm⟩
 | leaf l =>
  have lone : l ≠ .junk ∨ v.oneCell' = true → (∀ x u, l ≠ .at x u) → Ev S (do
    EM.guard (off == 0 && !isAggT P t)
    pure (.leaf l) : EM VV) es r es' ls → v.oneCell' = true →
    (∃ n, es' = { es with n }) ∧ VRel (cxOf P X ρ (cur S es.obs) μ w) r (partV P t v.cells off) ∧ (∀ k ∈ keysVV r, K k) ∧
     (isAggT P t = true → off + sizeT P t ≤ v.cells.size) ∧ (isAggT P t = false → off < v.cells.size) := by
   intro _ _ h ho
   simp only [Ev_bind, Ev_guard, Ev_pure] at h
   obtain ⟨_, _, _, _, ⟨g1, rfl, rfl⟩, ⟨rfl, rfl, rfl⟩, rfl⟩ := h
   simp only [Bool.and_eq_true, beq_iff_eq, Bool.not_eq_true'] at g1
   obtain ⟨rfl, ha'⟩ := g1
   have hc := onecells ho
   refine ⟨⟨es.n, rfl⟩, ?_, hk, fun h => by simp [ha'] at h, fun _ => by rw [hc]; simp⟩
   have : partV P t v.cells 0 = v := by rw [hc]; simp [partV, ha']
   rw [this]; exact hv
  have hone : ∀ (_ : l ≠ .junk) (_ : ∀ x u, l ≠ .at x u), v.oneCell' = true := fun hj hat => (LRel.one (c := cxOf P X ρ (cur S es.obs) μ w) hv hj (fun x u he => absurd he (hat x u))).1
  cases l with
  | «at» x t1 =>
   simp only [Ev_bind, Ev_guard] at h
   obtain ⟨_, _, _, _, ⟨g0, rfl, rfl⟩, h, rfl⟩ := h
   have : t1 = t0 := by simpa using g0
   subst this
   obtain ⟨iv, d1, d2⟩ := hv
   simp only [Ev_ite] at h
   rcases h with ⟨ha, h⟩ | ⟨ha, h⟩
   ·rcases h with ⟨hc, h⟩ | ⟨hc, h⟩
    ·rw [Ev_pure] at h
     obtain ⟨rfl, rfl, rfl⟩ := h
     simp only [Bool.and_eq_true, beq_iff_eq] at hc
     obtain ⟨rfl, rfl⟩ := hc
     refine ⟨⟨es.n, rfl⟩, ?_, fun k hm => by simp [keysVV, keysLV] at hm, fun _ => by omega, fun h => by simp [ha] at h⟩
     have d2 : Rel P w (fun b => X b ∨ Wr (cur S es.obs) μ b) t iv v := d2
     rw [Rel.partV_self d2 hs]
     exact ⟨iv, d1, d2⟩
    ·simp only [Ev_bind, Ev_guard, Ev_prim, Ev_pure] at h
     obtain ⟨_, _, _, _, ⟨g1, rfl, rfl⟩, ⟨_, _, _, _, ⟨rfl, rfl, rfl⟩, ⟨rfl, rfl, rfl⟩, rfl⟩, rfl⟩ := h
     obtain ⟨vs, y, r1, r2, r3⟩ := LH.prim hl.right.left hg
     obtain ⟨u, s1, rfl⟩ := evs1 r1
     have d1' : x.ev ρ = some iv := d1
     rw [d1'] at s1; injection s1 with s1; subst s1
     obtain ⟨q1, q2, q3⟩ := Rel.partV d2 ha g1 r2
     exact ⟨⟨es.n + 1, rfl⟩, ⟨y, r3, q1⟩, fun k hm => by simp [keysVV, keysLV] at hm, fun _ => q3, fun _ => by
      have q2' : 0 < sizeT P t := q2
      have q3' : off + sizeT P t ≤ v.cells.size := q3
      omega⟩
   ·have ha' : isAggT P t1 = false := by simpa using ha
    simp only [Ev_bind, Ev_guard, Ev_pure] at h
    obtain ⟨_, _, _, _, ⟨g1, rfl, rfl⟩, ⟨rfl, rfl, rfl⟩, rfl⟩ := h
    simp only [Bool.and_eq_true, beq_iff_eq] at g1
    obtain ⟨rfl, rfl⟩ := g1
    refine ⟨⟨es.n, rfl⟩, ?_, fun k hm => by simp [keysVV, keysLV] at hm, fun h => by simp [ha'] at h, fun _ => by rw [(d2.one ha').2]; simp⟩
    have d2 : Rel P w (fun b => X b ∨ Wr (cur S es.obs) μ b) t iv v := d2
    rw [Rel.partV_self d2 hs]
    exact ⟨iv, d1, d2⟩
  | junk => simp [Ev_fail] at h
  | nil t => exact lone (.inl (by simp)) (by simp) h (hone (by simp) (by simp))
  | ref k t => exact lone (.inl (by simp)) (by simp) h (hone (by simp) (by simp))
  | sub k lo hi t => exact lone (.inl (by simp)) (by simp) h (hone (by simp) (by simp))
  | ptr p => exact lone (.inl (by simp)) (by simp) h (hone (by simp) (by simp))
  | fn f ps => exact lone (.inl (by simp)) (by simp) h (hone (by simp) (by simp))
  | mref k t => exact lone (.inl (by simp)) (by simp) h (hone (by simp) (by simp))
  | hid k => exact lone (.inl (by simp)) (by simp) h (hone (by simp) (by simp))
  | cl x t => exact lone (.inl (by simp)) (by simp) h (hone (by simp) (by simp))
  | st x t => exact lone (.inl (by simp)) (by simp) h (hone (by simp) (by simp))
end
end Go.CT
namespace Go.CT
open EM
theorem cellsAt_block {w : World} {b : Nat} {v : Value} {t : TypeId} {fr : Nat × Nat} (h : w.heap[b]? = some (.cells v.cells t fr)) : CellsAt w ⟨b, 0, none⟩ v v.cells.size := by
 refine ⟨rfl, fun i u hu => ?_⟩
 have hadd : (⟨b, 0, none⟩ : Addr).add i = ⟨b, i, none⟩ := by unfold Addr.add; split <;> simp_all
 rw [hadd]
 simp [World.cell?, h, hu]
theorem RowB.at_ {P : Program} {w : World} {O : Nat → Prop} {e : TypeId} {xs : List IV} {A : Option Addr} {c : Nat} (h : RowB P w O e xs A c) {j : Nat} {x : IV} (hx : xs[j]? = some x) :
  ∃ ad v, A = some ad ∧ 0 < sizeT P e ∧ CellsAt w (ad.add (j * sizeT P e)) v (sizeT P e) ∧ Rel P w O e x v := by
 obtain ⟨h1, h2, vs, h3, h4⟩ := h
 have hj := (List.getElem?_eq_some_iff.1 hx).1
 obtain ⟨hs, ad, rfl, hc⟩ := h3 (by omega)
 exact ⟨ad, vs j, rfl, hs, hc j hj, h4 j x hx⟩
theorem Rel.isagg {P : Program} {w : World} {O : Nat → Prop} {t : TypeId} {x : IV} {v : Value} (h : Rel P w O t x v) : if isAggT P t then ∃ cs, v = .agg cs else v.oneCell' = true := by
 by_cases ha : isAggT P t = true
 ·simp only [ha, if_true]
  obtain ⟨_, _, cs, _, _, rfl, _⟩ := h.agg_inv ha
  exact ⟨cs, rfl⟩
 ·have ha' : isAggT P t = false := by simpa using ha
  simp only [ha', Bool.false_eq_true, if_false]
  exact (h.one ha').1
theorem index_ev {ρ : List IV} {c i : Arg} {xs : List IV} {j : Int} {vs : List IV} {y : IV} (hc : c.ev ρ = some (.list xs)) (hi : i.ev ρ = some (.int j)) (hv : Arg.evs ρ [c, i] = some vs) (hy : Prim.ev .index vs = some y) :
  0 ≤ j ∧ xs[j.toNat]? = some y := by
 obtain ⟨u, v, h1, h2, rfl⟩ := evs2 hv
 rw [hc] at h1; rw [hi] at h2
 injection h1 with h1; injection h2 with h2
 subst h1; subst h2
 simp only [Prim.ev] at hy
 split at hy
 ·exact ⟨by assumption, hy⟩
 ·cases hy
section
variable {P : Program} {N : Nat} {X : Nat → Prop} {R : Job → List IV → Option (List IV)} {ρ : List IV} {K : Nat → Prop} {S : View} {μ : Nat → Value} {a : Act} {w : World} {es es' : ES} {ls : List PLt} {sx : SX}
theorem loadP_ok {p : PV} {t : TypeId} {r : VV} {v : Value} (G : Good P N X ρ K S.tm (cur S es.obs) μ a w) (h : Ev S (loadP P p t) es r es' ls) (hl : LH R ρ ls) (hg : holds ρ es.gs = some true)
  (hp : PRel (cxOf P X ρ (cur S es.obs) μ w) p v) :
  ∃ u, (Instr.loadAt t v).run P w = .ok u w ∧ (∃ n, es' = { es with n }) ∧ VRel (cxOf P X ρ (cur S es.obs) μ w) r u ∧ ∀ k ∈ keysVV r, K k := by
 unfold loadP at h
 rw [Ev_bind] at h
 obtain ⟨_, _, _, _, h0, h, rfl⟩ := h
 rw [Ev_guard] at h0
 obtain ⟨g0, rfl, rfl⟩ := h0
 have hl := hl.right
 obtain ⟨d, hd⟩ := Option.isSome_iff_exists.1 g0
 -- the last step is alike
 have fin : ∀ {ad : Addr} {u : Value} {off sz : Nat} {t0 : TypeId} {vv : VV} {e1 : ES} {l1 : List PLt}, (∃ n, e1 = { es with n }) → CellsAt w ad u sz → sz = sizeT P t0 → v = .pointer (some (ad.add off)) →
   Ev S (subVV P t0 vv off t) e1 r es' l1 → LH R ρ l1 → (∀ k ∈ keysVV vv, K k) → VRel (cxOf P X ρ (cur S es.obs) μ w) vv u → (if isAggT P t0 then ∃ cs, u = .agg cs else u.oneCell' = true) →
   ∃ u, (Instr.loadAt t v).run P w = .ok u w ∧ (∃ n, es' = { es with n }) ∧ VRel (cxOf P X ρ (cur S es.obs) μ w) r u ∧ ∀ k ∈ keysVV r, K k := by
  intro ad u off sz t0 vv e1 l1 he hc hsz hv h hl hk hr ha
  obtain ⟨n, rfl⟩ := he
  obtain ⟨⟨n', hn⟩, q1, q2, q3, q4⟩ := subVV_ok (es := { es with n }) h hl hg hk hr (by rw [hc.1, hsz]) ha
  refine ⟨partV P t u.cells off, ?_, ⟨n', hn⟩, q1, q2⟩
  subst hv
  unfold Instr.loadAt Instr.sureAddr
  simp only [Sem.run_bind, Sem.run_pure, Result.andThen_ok]
  exact run_loadVar_part hd hc (by rw [← hc.1]; exact q3) (by rw [← hc.1]; exact q4)
 cases p with
 | p k off =>
  simp only [Ev_bind, Ev_getOb] at h
  obtain ⟨o, _, _, l2, ⟨ho, rfl, rfl⟩, h, rfl⟩ := h
  cases o with
  | box t0 vv =>
   obtain ⟨b, u, h1, h2, h3, h4, h5, h6⟩ := G.obj k _ ho
   obtain ⟨b', p1, p2⟩ := hp
   have hb : b' = b := by
    have h1' : μ k = .pointer (some ⟨b, 0, none⟩) := h1
    have p1' : μ k = .pointer (some ⟨b', 0, none⟩) := p1
    rw [h1'] at p1'; injection p1' with p1'; injection p1' with p1'; injection p1' with p1'; exact p1'.symm
   subst hb
   exact fin ⟨es.n, rfl⟩ (cellsAt_block h2) h3 p2 h hl ((G.ko k _ ho).2) h6 h4
  | arr => simp [Ev_fail] at h
  | frz => simp [Ev_fail] at h
  | iter => simp [Ev_fail] at h
  | mp => simp [Ev_fail] at h
 | el k e i off =>
  simp only [Ev_bind, Ev_getOb] at h
  obtain ⟨o, _, _, l2, ⟨ho, rfl, rfl⟩, h, rfl⟩ := h
  cases o with
  | box => simp [Ev_fail] at h
  | arr e' tt c =>
   simp only [Ev_bind, Ev_guard, Ev_prim] at h
   obtain ⟨_, _, _, _, ⟨g1, rfl, rfl⟩, ⟨_, _, _, _, ⟨rfl, rfl, rfl⟩, h, rfl⟩, rfl⟩ := h
   have : e = e' := by simpa using g1
   subst this
   obtain ⟨ivs, A, cap, q1, q2, q3, q4, q5⟩ := G.rowB ho
   obtain ⟨g, n, cap', j, p1, p2, p3, p4⟩ := hp
   have p1' : μ k = .slice (some ⟨g, 0, none⟩) n cap' := p1
   rw [q2] at p1'; injection p1' with i1 i2 i3
   subst i1; subst i2; subst i3
   obtain ⟨vs, y, r1, r2, r3⟩ := LH.prim hl.right.left hg
   obtain ⟨_, s1⟩ := index_ev q1 p2 r1 r2
   obtain ⟨ad, u, t1, t2, t3, t4⟩ := q3.at_ s1
   injection t1 with t1; subst t1
   have t3' : CellsAt w ((⟨g, 0, none⟩ : Addr).add (j * sizeT P e)) u (sizeT P e) := by simpa using t3
   refine fin (e1 := { es with n := es.n + 1 }) ⟨es.n + 1, rfl⟩ t3' rfl ?_ h hl.right.right (fun k hm => by simp [keysVV, keysLV] at hm) ⟨y, r3, t4⟩ t4.isagg
   rw [addr_add_add]; exact p4
  | frz => simp [Ev_fail] at h
  | iter => simp [Ev_fail] at h
  | mp => simp [Ev_fail] at h
 | im x t0 off =>
  obtain ⟨ad, u, ⟨iv, d1, d2⟩, p2, p3, p4, p5⟩ := hp
  exact fin ⟨es.n, rfl⟩ p2 rfl p5 h hl (fun k hm => by simp [keysVV, keysLV] at hm) ⟨iv, d1, d2⟩ d2.isagg
theorem asPtr_ok {vv : VV} {p : PV} (h : Ev S (asPtr vv) es p es' ls) : es = es' ∧ ls = [] ∧ vv = .leaf (.ptr p) := by
 unfold asPtr at h
 split at h
 ·rw [Ev_pure] at h; obtain ⟨rfl, rfl, rfl⟩ := h; exact ⟨rfl, rfl, rfl⟩
 ·simp [Ev_fail] at h
theorem rdPtr_ok {x : Operand} {t : TypeId} {vv : VV} {p : PV} {e1 e2 : ES} {l1 l2 : List PLt} (G : Good P N X ρ K S.tm (cur S es.obs) μ a w) (h1 : Ev S (rd1 P x t) es vv e1 l1) (h2 : Ev S (asPtr vv) e1 p e2 l2) (hg : holds ρ es.gs = some true) :
  es = e2 ∧ l1 = [] ∧ l2 = [] ∧ PRel (cxOf P X ρ (cur S es.obs) μ w) p (a.eval x) ∧ ∀ k ∈ keysPV p, K k := by
 obtain ⟨rfl, rfl, h3, h4⟩ := rd1_ok G h1 hg
 obtain ⟨rfl, rfl, rfl⟩ := asPtr_ok h2
 exact ⟨rfl, rfl, rfl, h3, h4⟩
theorem xLoad_ok {t : TypeId} {x : Operand} (G : Good P N X ρ K S.tm (cur S es.obs) μ a w) (h : Ev S (do
   let p ← asPtr (← rd1 P x 0)
   pure (.one (← loadP P p t)) : EM SX) es sx es' ls) (hl : LH R ρ ls) (hg : holds ρ es.gs = some true) :
  ∃ v, (Instr.loadAt t (a.eval x)).run P w = .ok v w ∧ Out P N X ρ K S μ a w es es' sx μ w v := by
 rw [Ev_bind] at h
 obtain ⟨vv, e1, l1, _, h1, h, rfl⟩ := h
 rw [Ev_bind] at h
 obtain ⟨p, e2, l2, _, h2, h, rfl⟩ := h
 obtain ⟨rfl, rfl, rfl, hp, hk⟩ := rdPtr_ok G h1 h2 hg
 rw [Ev_bind] at h
 obtain ⟨r, e3, l3, _, h3, h, rfl⟩ := h
 rw [Ev_pure] at h
 obtain ⟨rfl, rfl, rfl⟩ := h
 obtain ⟨u, q1, ⟨n, rfl⟩, q3, q4⟩ := loadP_ok G h3 hl.right.right.left hg hp
 exact ⟨u, q1, Ph.out (es' := { es with n }) (.same G rfl rfl rfl) q3 q4⟩
theorem PRel.plus {c : Cx} {p : PV} {v : Value} {o : Nat} (h : PRel c p v) : ∃ ad, v = .pointer (some ad) ∧ PRel c (p.plus o) (.pointer (some (ad.add o))) := by
 cases p with
 | p k off =>
  obtain ⟨b, h1, rfl⟩ := h
  exact ⟨_, rfl, b, h1, by rw [addr_add_add]⟩
 | el k e i off =>
  obtain ⟨g, n, cap, j, h1, h2, h3, rfl⟩ := h
  exact ⟨_, rfl, g, n, cap, j, h1, h2, h3, by rw [addr_add_add, Nat.add_assoc]⟩
 | im x t off =>
  obtain ⟨ad, u, h1, h2, h3, h4, rfl⟩ := h
  exact ⟨_, rfl, ad, u, h1, h2, h3, h4, by rw [addr_add_add]⟩
theorem keys_plus (p : PV) (o : Nat) : keysPV (p.plus o) = keysPV p := by cases p <;> rfl
theorem xFieldAddr_ok {s : TypeId} {x : Operand} {f : Nat} (G : Good P N X ρ K S.tm (cur S es.obs) μ a w) (h : Ev S (do
   let p ← asPtr (← rd1 P x 0)
   match P.underlying s with
   | some (.struct fs) => do
    let fl ← ofOption fs[f]?
    EM.guard (decide (0 < sizeT P fl.type))
    pure (one (.leaf (.ptr (p.plus fl.offset))))
   | _ => fail : EM SX) es sx es' ls) (hg : holds ρ es.gs = some true) :
  ∃ v, (Instr.fieldAt s (a.eval x) f).run P w = .ok v w ∧ Out P N X ρ K S μ a w es es' sx μ w v := by
 rw [Ev_bind] at h
 obtain ⟨vv, e1, l1, _, h1, h, rfl⟩ := h
 rw [Ev_bind] at h
 obtain ⟨p, e2, l2, _, h2, h, rfl⟩ := h
 obtain ⟨rfl, rfl, rfl, hp, hk⟩ := rdPtr_ok G h1 h2 hg
 split at h
 ·rename_i fs hs
  simp only [Ev_bind, Ev_ofOption, Ev_guard, Ev_pure] at h
  obtain ⟨fl, _, _, _, ⟨g1, rfl, rfl⟩, ⟨_, _, _, _, ⟨g2, rfl, rfl⟩, ⟨rfl, rfl, rfl⟩, rfl⟩, rfl⟩ := h
  simp only [decide_eq_true_eq] at g2
  obtain ⟨ad, hv, hpl⟩ := hp.plus (o := fl.offset)
  obtain ⟨i, hi⟩ := info_of_sizeT g2
  refine ⟨_, ?_, Ph.out (.refl G) hpl (fun k hm => hk k ?_)⟩
  ·rw [hv]
   have hne : sizeT P fl.type ≠ 0 := by omega
   simp [Instr.fieldAt, underlying, hs, g1, Instr.sureAddr, fieldPlace, run_sizeOf hi, hne]
  ·simpa [keysSX, keysVV, keysLV, one, keys_plus] using hm
 ·simp [Ev_fail] at h
theorem VRels.get {c : Cx} : ∀ {ls : List VV} {vs : List Value}, VRels c ls vs → ∀ (i : Nat) (l : VV), ls[i]? = some l → ∃ v, vs[i]? = some v ∧ VRel c l v
 | [], [], _ => by simp
 | l :: ls, v :: vs, h => by
  intro i l' h1
  cases i with
  | zero => simp at h1; subst h1; exact ⟨v, rfl, h.1⟩
  | succ i =>
   obtain ⟨v', h2, h3⟩ := VRels.get h.2 i l' (by simpa using h1)
   exact ⟨v', by simpa using h2, h3⟩
 | [], _ :: _, h => h.elim
 | _ :: _, [], h => h.elim
theorem xNilCheck_ok {x : Operand} {o : Oper} (ho : o.op = .nilCheck x) (G : Good P N X ρ K S.tm (cur S es.obs) μ a w) (h : Ev S (do
   match ← rd1 P x 0 with
   | .leaf (.ptr p) => pure (one (.leaf (.ptr p)))
   | .leaf (.fn f c) => pure (one (.leaf (.fn f c)))
   | _ => fail : EM SX) es sx es' ls) (hg : holds ρ es.gs = some true) :
  ∃ v, (execOp a.eval o).run P w = .ok (.value v) w ∧ Out P N X ρ K S μ a w es es' sx μ w v := by
 rw [Ev_bind] at h
 obtain ⟨vv, e1, l1, _, h1, h, rfl⟩ := h
 obtain ⟨rfl, rfl, h3, h4⟩ := rd1_ok G h1 hg
 split at h
 ·rename_i p
  rw [Ev_pure] at h
  obtain ⟨rfl, rfl, rfl⟩ := h
  refine ⟨a.eval x, ?_, Ph.out (.refl G) h3 h4⟩
  obtain ⟨ad, hv, _⟩ := PRel.plus (o := 0) h3
  unfold execOp
  simp only [ho, hv]
  rfl
 ·rename_i f c
  rw [Ev_pure] at h
  obtain ⟨rfl, rfl, rfl⟩ := h
  refine ⟨a.eval x, ?_, Ph.out (.refl G) h3 h4⟩
  obtain ⟨vs, hv, _⟩ := h3
  unfold execOp
  simp only [ho, hv]
  rfl
 ·simp [Ev_fail] at h
theorem capsOf_ok : ∀ {xs : List Operand} {es es' : ES} {ps : List PV} {ls : List PLt}, Good P N X ρ K S.tm (cur S es.obs) μ a w → Ev S (capsOf P xs) es ps es' ls → holds ρ es.gs = some true →
  es = es' ∧ ls = [] ∧ PRels (cxOf P X ρ (cur S es.obs) μ w) ps (xs.map a.eval) ∧ ∀ k ∈ ps.flatMap keysPV, K k
 | [], es, es', ps, ls, G, h, hg => by
  unfold capsOf at h
  rw [Ev_pure] at h
  obtain ⟨rfl, rfl, rfl⟩ := h
  exact ⟨rfl, rfl, trivial, fun k hm => by simp at hm⟩
 | x :: xs, es, es', ps, ls, G, h, hg => by
  unfold capsOf at h
  rw [Ev_bind] at h
  obtain ⟨vv, e1, l1, _, h1, h, rfl⟩ := h
  rw [Ev_bind] at h
  obtain ⟨p, e2, l2, _, h2, h, rfl⟩ := h
  obtain ⟨rfl, rfl, rfl, hp, hk⟩ := rdPtr_ok G h1 h2 hg
  simp only [Ev_bind, Ev_pure] at h
  obtain ⟨qs, e3, l3, _, h3, ⟨rfl, rfl, rfl⟩, rfl⟩ := h
  obtain ⟨rfl, rfl, q1, q2⟩ := capsOf_ok G h3 hg
  refine ⟨rfl, rfl, ⟨hp, q1⟩, fun k hm => ?_⟩
  rw [List.flatMap_cons] at hm
  exact (List.mem_append.1 hm).elim (hk k) (q2 k)
theorem xMakeFunc_ok {f : FuncId} {first caps : Array Operand} (G : Good P N X ρ K S.tm (cur S es.obs) μ a w) (h : Ev S (do
   EM.guard first.isEmpty
   pure (one (.leaf (.fn f (← capsOf P caps.toList)))) : EM SX) es sx es' ls) (hg : holds ρ es.gs = some true) :
  ∃ v, (Instr.makeFunc (.func f) (first.map a.eval) (caps.map a.eval)).run P w = .ok v w ∧ Out P N X ρ K S μ a w es es' sx μ w v := by
 rw [Ev_bind] at h
 obtain ⟨_, _, _, _, h0, h, rfl⟩ := h
 rw [Ev_guard] at h0
 obtain ⟨g0, rfl, rfl⟩ := h0
 simp only [Ev_bind, Ev_pure] at h
 obtain ⟨ps, e3, l3, _, h3, ⟨rfl, rfl, rfl⟩, rfl⟩ := h
 obtain ⟨rfl, rfl, q1, q2⟩ := capsOf_ok G h3 hg
 have hf : first = #[] := by simpa using g0
 subst hf
 exact ⟨.func (.func f) #[] (caps.map a.eval), by simp [Instr.makeFunc], Ph.out (.refl G) ⟨_, rfl, by simpa using q1⟩ (fun k hm => q2 k (by simpa [keysSX, keysVV, keysLV, one] using hm))⟩
theorem xField_ok {s : TypeId} {x : Operand} {f : Nat} (G : Good P N X ρ K S.tm (cur S es.obs) μ a w) (h : Ev S (do
   let v ← rd1 P x s
   match P.underlying s with
   | some (.struct fs) => do
    let fl ← ofOption fs[f]?
    EM.guard ((P.underlying fl.type).isSome && wholeOk P s v)
    pure (.one (← subVV P s v fl.offset fl.type))
   | _ => fail : EM SX) es sx es' ls) (hl : LH R ρ ls) (hg : holds ρ es.gs = some true) :
  ∃ v, (Instr.field s (a.eval x) f).run P w = .ok v w ∧ Out P N X ρ K S μ a w es es' sx μ w v := by
 rw [Ev_bind] at h
 obtain ⟨vv, e1, l1, _, h1, h, rfl⟩ := h
 obtain ⟨rfl, rfl, h3, h4⟩ := rd1_ok G h1 hg
 split at h
 ·rename_i fs hs
  rw [Ev_bind] at h
  obtain ⟨fl, _, _, _, h0, h, rfl⟩ := h
  rw [Ev_ofOption] at h0
  obtain ⟨g1, rfl, rfl⟩ := h0
  rw [Ev_bind] at h
  obtain ⟨_, _, _, _, h0, h, rfl⟩ := h
  rw [Ev_guard] at h0
  obtain ⟨g2, rfl, rfl⟩ := h0
  simp only [Bool.and_eq_true] at g2
  obtain ⟨d, hd⟩ := Option.isSome_iff_exists.1 g2.1
  simp only [Ev_bind, Ev_pure] at h
  obtain ⟨r, e2, l2, _, h2, ⟨rfl, rfl, rfl⟩, rfl⟩ := h
  have hwhole : isAggT P s = true ∧ ∃ cs, a.eval x = .agg cs ∧ cs.size = sizeT P s := by
   have g := g2.2
   cases vv with
   | agg t cs =>
    simp only [wholeOk, Bool.and_eq_true, beq_iff_eq] at g
    obtain ⟨us, hu, hr⟩ := h3
    have := hr.len
    exact ⟨g.1, us, hu, by rw [← g.2, this]; simp⟩
   | leaf l =>
    cases l with
    | «at» y t =>
     simp only [wholeOk, Bool.and_eq_true, beq_iff_eq] at g
     obtain ⟨⟨ga, rfl⟩, gl⟩ := g
     obtain ⟨iv, d1, d2⟩ := h3
     obtain ⟨ts, xs, cs, q1, _, hu, q2⟩ := d2.leafs ga
     have q1' : leaves P s = some ts := q1
     rw [q1'] at gl
     have := q2.len.2
     simp only [beq_iff_eq] at gl
     exact ⟨ga, cs, hu, by rw [← gl, ← this]; simp⟩
    | _ => simp [wholeOk] at g
  obtain ⟨ha, cs, hcs, hsz⟩ := hwhole
  obtain ⟨⟨n, hn⟩, q1, q2, q3, q4⟩ := subVV_ok h2 hl.right.right.right.left hg h4 h3 (by rw [hcs]; exact hsz) (by simp only [ha, if_true]; exact ⟨cs, hcs⟩)
  subst hn
  refine ⟨partV P fl.type cs fl.offset, ?_, Ph.out (es' := { es with n := n }) (.same G rfl rfl rfl) (by rw [hcs] at q1; exact q1) q2⟩
  rw [hcs]
  rw [hcs] at q3 q4
  simp only [Instr.field, underlying, Sem.run_bind, run_program, Result.andThen_ok, hs, Sem.run_pure, g1, asAgg]
  unfold part partV
  obtain ⟨i, hi⟩ := info_of_underlying' hd
  by_cases hag : isAggT P fl.type = true
  ·simp [run_isAgg hd, hag, run_sizeOf hi]
  ·have hag' : isAggT P fl.type = false := by simpa using hag
   have hlt : fl.offset < cs.size := q4 hag'
   simp [run_isAgg hd, hag', hlt, Array.getD]
 ·simp [Ev_fail] at h
theorem xIndexS_ok {t rt : TypeId} {x i : Operand} (G : Good P N X ρ K S.tm (cur S es.obs) μ a w) (h : Ev S (do
   EM.guard (isStr P t && intK P rt == some .u8)
   let b ← rdData P x t
   let iv ← rdInt P i
   pure (dat (← prim .sindex [b, iv]) rt) : EM SX) es sx es' ls) (hl : LH R ρ ls) (hg : holds ρ es.gs = some true) :
  ∃ v, (Instr.index t (a.eval x) (a.eval i)).run P w = .ok v w ∧ Out P N X ρ K S μ a w es es' sx μ w v := by
 rw [Ev_bind] at h
 obtain ⟨_, _, _, _, h0, h, rfl⟩ := h
 rw [Ev_guard] at h0
 obtain ⟨g0, rfl, rfl⟩ := h0
 simp only [Bool.and_eq_true, beq_iff_eq] at g0
 rw [Ev_bind] at h
 obtain ⟨b, e1, l1, _, h1, h, rfl⟩ := h
 obtain ⟨p, hb⟩ := rdData_ok G h1 hl.right.left hg
 have hg2 : holds ρ e1.gs = some true := by rw [p.gs]; exact hg
 have hl := hl.right.right
 rw [Ev_bind] at h
 obtain ⟨iv, e2, l2, _, h2, h, rfl⟩ := h
 obtain ⟨rfl, rfl, n, k, hn, hx⟩ := rdInt_ok p.good h2 hg2
 simp only [Ev_bind, Ev_prim, Ev_pure] at h
 obtain ⟨_, _, _, _, ⟨rfl, rfl, rfl⟩, ⟨rfl, rfl, rfl⟩, rfl⟩ := h
 obtain ⟨s, hs, hsx⟩ := hb.str (isStr_eq g0.1)
 have hs' : b.ev ρ = some (.str s) := hs
 obtain ⟨vs, y, r1, r2, r3⟩ := LH.prim hl.right.left hg2
 obtain ⟨u, v, s1, s2, rfl⟩ := evs2 r1
 rw [hs'] at s1; rw [hn] at s2
 injection s1 with s1; injection s2 with s2; subst s1; subst s2
 simp only [Prim.ev] at r2
 split at r2
 ·rename_i h0
  simp only [Option.map_eq_some_iff] at r2
  obtain ⟨c, hc, rfl⟩ := r2
  refine ⟨_, ?_, dat_out p r3 (.int (intK_eq g0.2))⟩
  rw [hsx, hx]
  simp [Instr.index, asIntOf, underlying, isStr_eq g0.1, h0, hc]
 ·cases r2
end
end Go.CT
namespace Go.CT
open EM
section
variable {P : Program} {w : World}
theorem run_sliceBound {k : IntKind} {n : Int} {y : Nat} {code : BoundsCode} (h0 : 0 ≤ n) (h1 : n ≤ y) : (Instr.sliceBound (.int k n) y code).run P w = .ok n.toNat w := by
 simp [Instr.sliceBound, asIntOf, h0, h1]
def BoundIs (o : Option Value) (d n : Nat) : Prop := (o = none ∧ n = d) ∨ ∃ k : IntKind, o = some (.int k n)
theorem run_bounds {isS : Bool} {len cap l h : Nat} {lo hi : Option Value} (hlo : BoundIs lo 0 l) (hhi : BoundIs hi len h) (hlh : l ≤ h) (hc : h ≤ cap) :
  (Instr.sliceBounds isS len cap lo hi none).run P w = .ok (l, h, cap) w := by
 unfold Instr.sliceBounds
 rcases hhi with ⟨rfl, rfl⟩ | ⟨k, rfl⟩
 ·rcases hlo with ⟨rfl, rfl⟩ | ⟨k', rfl⟩
  ·simp
  ·simp [run_sliceBound (P := P) (w := w) (k := k') (n := (l : Int)) (y := h) (Int.natCast_nonneg _) (by omega)]
 ·rcases hlo with ⟨rfl, rfl⟩ | ⟨k', rfl⟩
  ·simp [run_sliceBound (P := P) (w := w) (k := k) (n := (h : Int)) (y := cap) (Int.natCast_nonneg _) (by omega)]
  ·simp [run_sliceBound (P := P) (w := w) (k := k) (n := (h : Int)) (y := cap) (Int.natCast_nonneg _) (by omega),
    run_sliceBound (P := P) (w := w) (k := k') (n := (l : Int)) (y := h) (Int.natCast_nonneg _) (by omega)]
theorem run_slice_slice {t e : TypeId} {A : Option Addr} {n cap l h : Nat} {lo hi : Option Value} (ht : P.underlying t = some (.slice e)) (hs : 0 < sizeT P e) (hlo : BoundIs lo 0 l) (hhi : BoundIs hi n h) (hlh : l ≤ h) (hc : h ≤ cap) :
  (Instr.sliceAt t (.slice A n cap) lo hi none).run P w = .ok (.slice (if cap = l then A else A.map (·.add (l * sizeT P e))) (h - l) (cap - l)) w := by
 obtain ⟨i, hi'⟩ := info_of_sizeT hs
 unfold Instr.sliceAt Instr.slice
 simp only [underlying, Sem.run_bind, run_program, Result.andThen_ok, ht, Sem.run_pure]
 rw [run_bounds hlo hhi hlh hc]
 simp [run_sizeOf hi']
theorem run_slice_string {t : TypeId} {s : ByteArray} {l h : Nat} {lo hi : Option Value} (ht : P.underlying t = some .string) (hlo : BoundIs lo 0 l) (hhi : BoundIs hi s.size h) (hlh : l ≤ h) (hc : h ≤ s.size) :
  (Instr.sliceAt t (.string s) lo hi none).run P w = .ok (.string (s.extract l h)) w := by
 unfold Instr.sliceAt Instr.slice
 simp only [underlying, Sem.run_bind, run_program, Result.andThen_ok, ht, Sem.run_pure]
 simp [run_bounds (P := P) (w := w) (isS := false) hlo hhi hlh hc]
end
section
variable {P : Program} {N : Nat} {X : Nat → Prop} {R : Job → List IV → Option (List IV)} {ρ : List IV} {K : Nat → Prop} {S : View} {μ : Nat → Value} {a : Act} {w : World} {es es' : ES} {ls : List PLt} {sx : SX}
theorem Row.im {e : TypeId} {_c x : Arg} {xs : List IV} {A : Option Addr} {cap j : Nat} {y : IV} {cx : Cx} (hr : Row cx.P cx.w cx.O e xs A cap) (hy : xs[j]? = some y) (hx : x.ev cx.ρ = some y) (hs : 0 < sizeT cx.P e) (hW : ∀ b, cx.W b → cx.O b) :
  ∃ ad, A = some ad ∧ PRel cx (.im x e 0) (.pointer (some (ad.add (j * sizeT cx.P e)))) := by
 obtain ⟨ad, u, h1, h2, h3, h4⟩ := hr.at_ hy
 refine ⟨ad, h1, _, u, ⟨y, hx, h4⟩, h3, hs, ?_, by rw [addr_add_zero]⟩
 rw [addr_block]
 exact fun h => h2 (hW _ h)
theorem run_indexAt_slice {t e : TypeId} {A : Option Addr} {ad : Addr} {n cap : Nat} {k : IntKind} {j : Int} (ht : P.underlying t = some (.slice e)) (hs : 0 < sizeT P e) (hA : A = some ad) (h0 : 0 ≤ j) (hn : j < n) :
  (Instr.indexAt t (.slice A n cap) (.int k j)).run P w = .ok (.pointer (some (ad.add (j.toNat * sizeT P e)))) w := by
 obtain ⟨i, hi⟩ := info_of_sizeT hs
 subst hA
 simp [Instr.indexAt, asIntOf, underlying, ht, h0, hn, run_sizeOf hi]
theorem toNat_lt {xs : List IV} {j : Int} {y : IV} (h0 : 0 ≤ j) (h : xs[j.toNat]? = some y) : j < xs.length := by
 have := (List.getElem?_eq_some_iff.1 h).1
 omega
theorem xIndexAddr_ok {t : TypeId} {x i : Operand} (G : Good P N X ρ K S.tm (cur S es.obs) μ a w) (h : Ev S (xIndexAddr P t x i) es sx es' ls) (hl : LH R ρ ls) (hg : holds ρ es.gs = some true) :
  ∃ v, (Instr.indexAt t (a.eval x) (a.eval i)).run P w = .ok v w ∧ Out P N X ρ K S μ a w es es' sx μ w v := by
 unfold xIndexAddr at h
 rw [Ev_bind] at h
 obtain ⟨xv, e1, l1, _, h1, h, rfl⟩ := h
 obtain ⟨rfl, rfl, h3, h4⟩ := rd1_ok G h1 hg
 have hl := hl.right
 split at h
 ·rename_i e ht
  rw [Ev_bind] at h
  obtain ⟨_, _, _, _, h0, h, rfl⟩ := h
  rw [Ev_guard] at h0
  obtain ⟨g0, rfl, rfl⟩ := h0
  simp only [decide_eq_true_eq] at g0
  rw [Ev_bind] at h
  obtain ⟨iv, e2, l2, _, h2, h, rfl⟩ := h
  obtain ⟨rfl, rfl, j, k, hj, hi⟩ := rdInt_ok G h2 hg
  have hl := hl.right.right
  rw [hi]
  -- the arm for data
  have data : ∀ {l : LV} {e3 : ES} {l3 : List PLt} {c : Arg}, VRel (cxOf P X ρ (cur S es.obs) μ w) (.leaf l) (a.eval x) → Ev S (leafData P true t l) es c e3 l3 → LH R ρ l3 →
    ∀ {l4 : List PLt}, Ev S (do pure (one (.leaf (.ptr (.im (← prim .index [c, iv]) e 0)))) : EM SX) e3 sx es' l4 → LH R ρ l4 →
    ∃ v, (Instr.indexAt t (a.eval x) (.int k j)).run P w = .ok v w ∧ Out P N X ρ K S μ a w es es' sx μ w v := by
   intro l e3 l3 c hv hd hl3 l4 h hl4
   obtain ⟨p, _, hD⟩ := leafData_ok G hd hl3 hg hv
   obtain ⟨z, d1, d2⟩ := hD rfl
   obtain ⟨xs, A, cap, rfl, hx, hrow⟩ := d2.list_inv ht
   simp only [Ev_bind, Ev_prim, Ev_pure] at h
   obtain ⟨_, _, _, _, ⟨rfl, rfl, rfl⟩, ⟨rfl, rfl, rfl⟩, rfl⟩ := h
   obtain ⟨vs, y, r1, r2, r3⟩ := LH.prim hl4.left (by rw [p.gs]; exact hg)
   obtain ⟨q1, q2⟩ := index_ev d1 hj r1 r2
   obtain ⟨ad, hA, hp⟩ := Row.im (_c := c) (cx := cxOf P X ρ (cur S e3.obs) μ w) hrow q2 r3 g0 (fun b hb => .inr hb)
   rw [hx]
   exact ⟨_, run_indexAt_slice ht g0 hA q1 (toNat_lt q1 q2), Ph.out (es' := { e3 with n := e3.n + 1 }) ⟨p.good, p.fewer, p.m, p.gs⟩ hp (fun k hm => by simp [keysSX, keysVV, keysLV, keysPV, one] at hm)⟩
  split at h
  ·rename_i k0 t0
   obtain ⟨hv, _⟩ := h3
   have hv : a.eval x = μ k0 := hv
   rw [Ev_bind] at h
   obtain ⟨o, _, _, l3, ho, h, rfl⟩ := h
   rw [Ev_getOb] at ho
   obtain ⟨ho, rfl, rfl⟩ := ho
   have hl := hl.right
   cases o with
   | box => simp [Ev_fail] at h
   | iter => simp [Ev_fail] at h
   | mp => simp [Ev_fail] at h
   | arr e' tt c =>
    simp only [Ev_bind, Ev_guard, Ev_prim, Ev_pure] at h
    obtain ⟨_, _, _, _, ⟨g1, rfl, rfl⟩, ⟨_, _, _, _, ⟨rfl, rfl, rfl⟩, ⟨rfl, rfl, rfl⟩, rfl⟩, rfl⟩ := h
    have : e = e' := by simpa using g1
    subst this
    obtain ⟨ivs, cs, q1, q2, q3, q4, q5, q6⟩ := G.obj k0 _ ho
    obtain ⟨vs, y, r1, r2, r3⟩ := LH.prim hl.right.left hg
    obtain ⟨s1, s2⟩ := index_ev q1 hj r1 r2
    have hlt := toNat_lt s1 s2
    obtain ⟨_, q4⟩ := q4
    rcases q4 with ⟨_, q4⟩ | ⟨g, cap, cu, e1, _⟩
    ·omega
    ·have e1' : μ k0 = .slice (some ⟨g, 0, none⟩) ivs.length cap := e1
     rw [hv, e1']
     refine ⟨_, run_indexAt_slice ht g0 rfl s1 hlt, Ph.out (es' := { es with n := es.n + 1 }) (.same G rfl rfl rfl) ⟨g, ivs.length, cap, j.toNat, e1, ?_, by omega, by rw [Nat.add_zero]; rfl⟩ (fun k hm => ?_)⟩
     ·have : ((j.toNat : Nat) : Int) = j := by omega
      rw [this]; exact hj
     ·simp [keysSX, keysVV, keysLV, keysPV, one] at hm
      subst hm
      exact h4 k (by simp [keysVV, keysLV])
   | frz e' tt c =>
    simp only [Ev_bind, Ev_guard, Ev_prim, Ev_pure] at h
    obtain ⟨_, _, _, _, ⟨g1, rfl, rfl⟩, ⟨_, _, _, _, ⟨rfl, rfl, rfl⟩, ⟨rfl, rfl, rfl⟩, rfl⟩, rfl⟩ := h
    have : e = e' := by simpa using g1
    subst this
    obtain ⟨g5, z, d1, d2⟩ := G.obj k0 _ ho
    obtain ⟨xs, A, cap, rfl, hx, hrow⟩ := d2.list_inv g5
    obtain ⟨vs, y, r1, r2, r3⟩ := LH.prim hl.right.left hg
    obtain ⟨q1, q2⟩ := index_ev d1 hj r1 r2
    obtain ⟨ad, hA, hp⟩ := Row.im (_c := c) (cx := cxOf P X ρ (cur S es.obs) μ w) hrow q2 r3 g0 (fun b hb => .inr hb)
    have hx' : μ k0 = .slice A xs.length cap := hx
    rw [hv, hx']
    exact ⟨_, run_indexAt_slice ht g0 hA q1 (toNat_lt q1 q2), Ph.out (es' := { es with n := es.n + 1 }) (.same G rfl rfl rfl) hp (fun k hm => by simp [keysSX, keysVV, keysLV, keysPV, one] at hm)⟩
  ·rename_i l _
   rw [Ev_bind] at h
   obtain ⟨c, e3, l3, l4, hd, h, rfl⟩ := h
   exact data h3 hd hl.left h hl.right
  ·simp [Ev_fail] at h
 ·rename_i n e ht
  rw [Ev_bind] at h
  obtain ⟨p, e2, l2, _, h2, h, rfl⟩ := h
  obtain ⟨rfl, rfl, rfl⟩ := asPtr_ok h2
  split at h
  ·rename_i k j
   simp only [Ev_bind, Ev_guard, Ev_pure] at h
   obtain ⟨_, _, _, _, ⟨g1, rfl, rfl⟩, ⟨rfl, rfl, rfl⟩, rfl⟩ := h
   simp only [Bool.and_eq_true, decide_eq_true_eq] at g1
   obtain ⟨⟨g1, g2⟩, g3⟩ := g1
   obtain ⟨ad, hv, hpl⟩ := PRel.plus (o := j.toNat * sizeT P e) h3
   obtain ⟨i, hi⟩ := info_of_sizeT g3
   refine ⟨_, ?_, Ph.out (.refl G) hpl (fun k hm => h4 k ?_)⟩
   ·rw [hv]
    simp [Instr.indexAt, asIntOf, underlying, ht, Instr.sureAddr, Act.eval, g1, g2, run_sizeOf hi]
   ·simpa [keysSX, keysVV, keysLV, one, keys_plus] using hm
  ·simp [Ev_fail] at h
 ·simp [Ev_fail] at h
theorem optInt_ok {o : Option Operand} {r : Option Arg} (G : Good P N X ρ K S.tm (cur S es.obs) μ a w) (h : Ev S (optInt P o) es r es' ls) (hg : holds ρ es.gs = some true) :
  es = es' ∧ ls = [] ∧ ((o = none ∧ r = none) ∨ ∃ x y n k, o = some x ∧ r = some y ∧ y.ev ρ = some (.int n) ∧ a.eval x = .int k n) := by
 unfold optInt at h
 cases o with
 | none =>
  rw [Ev_pure] at h
  obtain ⟨rfl, rfl, rfl⟩ := h
  exact ⟨rfl, rfl, .inl ⟨rfl, rfl⟩⟩
 | some x =>
  simp only [Ev_bind, Ev_pure] at h
  obtain ⟨y, e1, l1, _, h1, ⟨rfl, rfl, rfl⟩, rfl⟩ := h
  obtain ⟨rfl, rfl, n, k, hn, hx⟩ := rdInt_ok G h1 hg
  exact ⟨rfl, rfl, .inr ⟨x, y, n, k, rfl, rfl, hn, hx⟩⟩
theorem optLo {o : Option Operand} {r : Option Arg} (h : (o = none ∧ r = none) ∨ ∃ x y n k, o = some x ∧ r = some y ∧ y.ev ρ = some (.int n) ∧ a.eval x = .int k n) :
  ∃ n, (r.getD (.k (.int 0))).ev ρ = some (.int n) ∧ (0 ≤ n → BoundIs (o.map a.eval) 0 n.toNat) := by
 rcases h with ⟨rfl, rfl⟩ | ⟨x, y, n, k, rfl, rfl, hn, hx⟩
 ·exact ⟨0, rfl, fun _ => .inl ⟨rfl, rfl⟩⟩
 ·exact ⟨n, hn, fun h0 => .inr ⟨k, by rw [Option.map_some, hx]; congr 2; omega⟩⟩
theorem slice_ev' {c lo hi : Arg} {xs : List IV} {l h : Int} {vs : List IV} {y : IV} (hc : c.ev ρ = some (.list xs)) (hl : lo.ev ρ = some (.int l)) (hh : hi.ev ρ = some (.int h))
  (hv : Arg.evs ρ [c, lo, hi] = some vs) (hy : Prim.ev .slice vs = some y) : y = .list ((xs.take h.toNat).drop l.toNat) ∧ 0 ≤ l ∧ l ≤ h ∧ h ≤ xs.length := by
 obtain ⟨u, v, q, h1, h2, h3, rfl⟩ := evs3 hv
 rw [hc] at h1; rw [hl] at h2; rw [hh] at h3
 injection h1 with h1; injection h2 with h2; injection h3 with h3
 subst h1; subst h2; subst h3
 simp only [Prim.ev] at hy
 split at hy
 ·injection hy with hy; exact ⟨hy.symm, by omega, by omega, by omega⟩
 ·cases hy
theorem sliceLo_ev {c lo : Arg} {xs : List IV} {l : Int} {vs : List IV} {y : IV} (hc : c.ev ρ = some (.list xs)) (hl : lo.ev ρ = some (.int l))
  (hv : Arg.evs ρ [c, lo] = some vs) (hy : Prim.ev .sliceLo vs = some y) : y = .list ((xs.take xs.length).drop l.toNat) ∧ 0 ≤ l ∧ l ≤ xs.length := by
 obtain ⟨u, v, h1, h2, rfl⟩ := evs2 hv
 rw [hc] at h1; rw [hl] at h2
 injection h1 with h1; injection h2 with h2
 subst h1; subst h2
 simp only [Prim.ev] at hy
 split at hy
 ·injection hy with hy; exact ⟨by rw [List.take_length]; exact hy.symm, by omega, by omega⟩
 ·cases hy
theorem xSlice_ok {t : TypeId} {x : Operand} {lo hi mx : Option Operand} (G : Good P N X ρ K S.tm (cur S es.obs) μ a w) (h : Ev S (xSlice P t x lo hi mx) es sx es' ls) (hl : LH R ρ ls) (hg : holds ρ es.gs = some true) :
  ∃ v, (Instr.sliceAt t (a.eval x) (lo.map a.eval) (hi.map a.eval) (mx.map a.eval)).run P w = .ok v w ∧ Out P N X ρ K S μ a w es es' sx μ w v := by
 unfold xSlice at h
 rw [Ev_bind] at h
 obtain ⟨_, _, _, _, h0, h, rfl⟩ := h
 rw [Ev_guard] at h0
 obtain ⟨g0, rfl, rfl⟩ := h0
 have hmx : mx = none := by simpa using g0
 subst hmx
 rw [Option.map_none]
 rw [Ev_bind] at h
 obtain ⟨xv, e1, l1, _, h1, h, rfl⟩ := h
 obtain ⟨rfl, rfl, h3, h4⟩ := rd1_ok G h1 hg
 rw [Ev_bind] at h
 obtain ⟨l, e2, l2, _, h2, h, rfl⟩ := h
 obtain ⟨rfl, rfl, o1⟩ := optInt_ok G h2 hg
 rw [Ev_bind] at h
 obtain ⟨hh, e3, l3, _, h5, h, rfl⟩ := h
 obtain ⟨rfl, rfl, o2⟩ := optInt_ok G h5 hg
 have hl := hl.right.right.right.right
 obtain ⟨ln, hln, blo⟩ := optLo o1
 -- data, cut
 have cut : ∀ {e : TypeId} {c : Arg} {e4 : ES} {v : Value} {xs : List IV} {A : Option Addr} {cap : Nat}, P.underlying t = some (.slice e) → 0 < sizeT P e → Ph P N X ρ K S μ a w es e4 → c.ev ρ = some (.list xs) →
   v = .slice A xs.length cap → Row P w (cxOf P X ρ (cur S e4.obs) μ w).O e xs A cap → a.eval x = v →
   ∀ {l4 : List PLt}, Ev S (cutD c (l.getD (.k (.int 0))) hh t) e4 sx es' l4 → LH R ρ l4 →
   ∃ v, (Instr.sliceAt t (a.eval x) (lo.map a.eval) (hi.map a.eval) none).run P w = .ok v w ∧ Out P N X ρ K S μ a w es es' sx μ w v := by
  intro e c e4 v xs A cap ht hs p hc hv hrow hxv l4 h hl4
  have hg4 : holds ρ e4.gs = some true := by rw [p.gs]; exact hg
  rw [hxv, hv]
  unfold cutD at h
  rcases o2 with ⟨rfl, rfl⟩ | ⟨hx, hy, hn, hk, rfl, rfl, hhn, hhx⟩
  ·simp only [Ev_bind, Ev_prim, Ev_pure] at h
   obtain ⟨_, _, _, _, ⟨rfl, rfl, rfl⟩, ⟨rfl, rfl, rfl⟩, rfl⟩ := h
   obtain ⟨vs, y, r1, r2, r3⟩ := LH.prim hl4.left hg4
   obtain ⟨rfl, q1, q2⟩ := sliceLo_ev hc hln r1 r2
   refine ⟨_, run_slice_slice ht hs (blo q1) (.inl ⟨rfl, rfl⟩) (by omega) hrow.1, ?_⟩
   have hr := (hrow.part (l := ln.toNat) (r := xs.length) (by omega) (Nat.le_refl _)).rel ht
   have hlen : ((xs.take xs.length).drop ln.toNat).length = xs.length - ln.toNat := by simp
   rw [hlen] at hr
   exact dat_out p r3 hr
  ·simp only [Ev_bind, Ev_prim, Ev_pure] at h
   obtain ⟨_, _, _, _, ⟨rfl, rfl, rfl⟩, ⟨rfl, rfl, rfl⟩, rfl⟩ := h
   obtain ⟨vs, y, r1, r2, r3⟩ := LH.prim hl4.left hg4
   obtain ⟨rfl, q1, q2, q3⟩ := slice_ev' hc hln hhn r1 r2
   have hb : BoundIs (Option.map a.eval (some hx)) xs.length hn.toNat := .inr ⟨hk, by rw [Option.map_some, hhx]; congr 2; omega⟩
   refine ⟨_, run_slice_slice ht hs (blo q1) hb (by omega) (by have := hrow.1; omega), ?_⟩
   have hr := (hrow.part (l := ln.toNat) (r := hn.toNat) (by omega) (by omega)).rel ht
   have hlen : ((xs.take hn.toNat).drop ln.toNat).length = hn.toNat - ln.toNat := by rw [List.length_drop, List.length_take]; omega
   rw [hlen] at hr
   exact dat_out p r3 hr
 cases ht : P.underlying t with
 | none => simp [ht, Ev_fail] at h
 | some d =>
 simp only [ht] at h
 cases d with
 | string =>
  rw [Ev_bind] at h
  obtain ⟨c, e4, l4, l5, hd, h, rfl⟩ := h
  obtain ⟨p, hB, _⟩ := toData_ok G hd hl.left hg h4 h3
  have hg4 : holds ρ e4.gs = some true := by rw [p.gs]; exact hg
  obtain ⟨s, hs, hsx⟩ := hB.str ht
  have hs' : c.ev ρ = some (.str s) := hs
  rw [hsx]
  rcases o2 with ⟨rfl, rfl⟩ | ⟨hx, hy, hn, hk, rfl, rfl, hhn, hhx⟩
  ·simp only [Ev_bind, Ev_prim, Ev_pure] at h
   obtain ⟨_, _, _, _, ⟨rfl, rfl, rfl⟩, ⟨rfl, rfl, rfl⟩, rfl⟩ := h
   obtain ⟨vs, y, r1, r2, r3⟩ := LH.prim hl.right.left hg4
   obtain ⟨u, v, s1, s2, rfl⟩ := evs2 r1
   rw [hs'] at s1; rw [hln] at s2
   injection s1 with s1; injection s2 with s2; subst s1; subst s2
   simp only [Prim.ev] at r2
   split at r2
   ·rename_i hc
    injection r2 with r2; subst r2
    exact ⟨_, run_slice_string ht (blo hc.1) (.inl ⟨rfl, rfl⟩) (by omega) (Nat.le_refl _), dat_out p r3 (.str ht)⟩
   ·cases r2
  ·simp only [Ev_bind, Ev_prim, Ev_pure] at h
   obtain ⟨_, _, _, _, ⟨rfl, rfl, rfl⟩, ⟨rfl, rfl, rfl⟩, rfl⟩ := h
   obtain ⟨vs, y, r1, r2, r3⟩ := LH.prim hl.right.left hg4
   obtain ⟨u, v, q, s1, s2, s3, rfl⟩ := evs3 r1
   rw [hs'] at s1; rw [hln] at s2; rw [hhn] at s3
   injection s1 with s1; injection s2 with s2; injection s3 with s3; subst s1; subst s2; subst s3
   simp only [Prim.ev] at r2
   split at r2
   ·rename_i hc
    injection r2 with r2; subst r2
    have hb : BoundIs (Option.map a.eval (some hx)) s.size hn.toNat := .inr ⟨hk, by rw [Option.map_some, hhx]; congr 2; omega⟩
    exact ⟨_, run_slice_string ht (blo hc.1) hb (by omega) (by omega), dat_out p r3 (.str ht)⟩
   ·cases r2
 | slice e =>
  rw [Ev_bind] at h
  obtain ⟨_, _, _, _, h0, h, rfl⟩ := h
  rw [Ev_guard] at h0
  obtain ⟨g1, rfl, rfl⟩ := h0
  simp only [decide_eq_true_eq] at g1
  have hl := hl.right
  have other : ∀ {lf : LV}, VRel (cxOf P X ρ (cur S es.obs) μ w) (.leaf lf) (a.eval x) → ∀ {lx : List PLt}, Ev S (do
    let c ← leafData P true t lf
    cutD c (l.getD (.k (.int 0))) hh t : EM SX) es sx es' lx → LH R ρ lx →
    ∃ v, (Instr.sliceAt t (a.eval x) (lo.map a.eval) (hi.map a.eval) none).run P w = .ok v w ∧ Out P N X ρ K S μ a w es es' sx μ w v := by
   intro lf h3 lx h hl
   rw [Ev_bind] at h
   obtain ⟨c, e4, l4, l5, hd, h, rfl⟩ := h
   obtain ⟨p, _, hD⟩ := leafData_ok G hd hl.left hg h3
   obtain ⟨z, d1, d2⟩ := hD rfl
   obtain ⟨xs, A, cap, rfl, hx, hrow⟩ := d2.list_inv ht
   exact cut ht g1 p d1 hx hrow rfl h hl.right
  cases xv with
  | agg t' cs => simp [Ev_fail] at h
  | leaf lf =>
  cases lf with
  | ref k0 t0 =>
   obtain ⟨hv, _⟩ := h3
   have hv : a.eval x = μ k0 := hv
   rw [Ev_bind] at h
   obtain ⟨o, _, _, l3, ho, h, rfl⟩ := h
   rw [Ev_getOb] at ho
   obtain ⟨ho, rfl, rfl⟩ := ho
   have hl := hl.right
   cases o with
   | box => simp [Ev_fail] at h
   | iter => simp [Ev_fail] at h
   | mp => simp [Ev_fail] at h
   | arr e' tt c =>
    rw [Ev_bind] at h
    obtain ⟨_, _, _, _, h0, h, rfl⟩ := h
    rw [Ev_guard] at h0
    obtain ⟨g2, rfl, rfl⟩ := h0
    have : e = e' := by simpa using g2
    subst this
    obtain ⟨ivs, A, cap, q1, q2, q3, q4, q5⟩ := G.rowB ho
    have hl := hl.right
    rw [hv, q2]
    have fin : ∀ {e5 : ES} {l5 : List PLt} {hiA : Arg} {hn : Int}, (∃ n, e5 = { es with n }) → hiA.ev ρ = some (.int hn) → (0 ≤ hn → BoundIs (hi.map a.eval) ivs.length hn.toNat) →
      Ev S (do
       let _ ← prim .slice [c, l.getD (.k (.int 0)), hiA]
       pure (one (.leaf (.sub k0 (l.getD (.k (.int 0))) hiA t))) : EM SX) e5 sx es' l5 → LH R ρ l5 →
      ∃ v, (Instr.sliceAt t (.slice A ivs.length cap) (lo.map a.eval) (hi.map a.eval) none).run P w = .ok v w ∧ Out P N X ρ K S μ a w es es' sx μ w v := by
     intro e5 l5 hiA hn he hh' hb h hl5
     obtain ⟨n, rfl⟩ := he
     simp only [Ev_bind, Ev_prim, Ev_pure] at h
     obtain ⟨_, _, _, _, ⟨rfl, rfl, rfl⟩, ⟨rfl, rfl, rfl⟩, rfl⟩ := h
     obtain ⟨vs, y, r1, r2, r3⟩ := LH.prim hl5.left hg
     obtain ⟨rfl, p1, p2, p3⟩ := slice_ev' q1 hln hh' r1 r2
     refine ⟨_, run_slice_slice ht g1 (blo p1) (hb (by omega)) (by omega) (by have := q3.1; omega), Ph.out (es' := { es with n := n + 1 }) (.same G rfl rfl rfl) ?_ (fun k hm => ?_)⟩
     ·refine ⟨A, ivs.length, cap, ln.toNat, hn.toNat, e, ht, q2, ?_, ?_, by omega, by omega, rfl⟩
      ·rw [show ((ln.toNat : Nat) : Int) = ln by omega]; exact hln
      ·rw [show ((hn.toNat : Nat) : Int) = hn by omega]; exact hh'
     ·simp [keysSX, keysVV, keysLV, one] at hm
      subst hm
      exact h4 k (by simp [keysVV, keysLV])
    rw [Ev_bind] at h
    obtain ⟨hiA, e5, l5, _, h5', h, rfl⟩ := h
    rcases o2 with ⟨rfl, rfl⟩ | ⟨hx, hy, hn, hk, rfl, rfl, hhn, hhx⟩
    ·unfold hiOr at h5'
     rw [Ev_prim] at h5'
     obtain ⟨rfl, rfl, rfl⟩ := h5'
     obtain ⟨vs, y, r1, r2, r3⟩ := LH.prim hl.left hg
     obtain ⟨u, s1, rfl⟩ := evs1 r1
     have q1' : c.ev ρ = some (.list ivs) := q1
     rw [q1'] at s1; injection s1 with s1; subst s1
     simp only [Prim.ev, Option.some.injEq] at r2; subst r2
     exact fin (e5 := { es with n := es.n + 1 }) ⟨es.n + 1, rfl⟩ r3 (fun _ => .inl ⟨rfl, by simp⟩) h hl.right
    ·unfold hiOr at h5'
     rw [Ev_pure] at h5'
     obtain ⟨rfl, rfl, rfl⟩ := h5'
     exact fin ⟨es.n, rfl⟩ hhn (fun h0 => .inr ⟨hk, by rw [Option.map_some, hhx]; congr 2; omega⟩) h hl.right
   | frz e' tt c =>
    rw [Ev_bind] at h
    obtain ⟨_, _, _, _, h0, h, rfl⟩ := h
    rw [Ev_guard] at h0
    obtain ⟨g2, rfl, rfl⟩ := h0
    have : e = e' := by simpa using g2
    subst this
    obtain ⟨g5, z, d1, d2⟩ := G.obj k0 _ ho
    obtain ⟨xs, A, cap, rfl, hx, hrow⟩ := d2.list_inv g5
    exact cut ht g1 (.refl G) d1 hx hrow hv h hl.right
  | «at» _ _ => exact other h3 h hl
  | nil _ => exact other h3 h hl
  | sub _ _ _ _ => exact other h3 h hl
  | ptr _ => exact other h3 h hl
  | fn _ _ => exact other h3 h hl
  | mref _ _ => exact other h3 h hl
  | hid _ => exact other h3 h hl
  | cl _ _ => exact other h3 h hl
  | st _ _ => exact other h3 h hl
  | junk => exact other h3 h hl
 | _ => simp [Ev_fail] at h
end
end Go.CT
namespace Go.CT
open EM
def updM (μ : Nat → Value) (k : Nat) (v : Value) : Nat → Value := fun k' => if k' = k then v else μ k'
section
variable {P : Program} {N : Nat} {X : Nat → Prop} {R : Job → List IV → Option (List IV)} {ρ : List IV} {K : Nat → Prop} {S : View} {tm : Nat → SV} {ob ob' : Nat → Option Ob} {μ : Nat → Value} {a : Act} {w w' : World} {es es' : ES} {ls : List PLt} {sx : SX}
theorem Good.blk_lt (G : Good P N X ρ K tm ob μ a w) {k : Nat} {o : Ob} {b : Nat} (h : ob k = some o) (ho : o.isOwn = true) (hb : blk (μ k) = some b) : b < w.heap.size := by
 have := G.obj k o h
 cases o with
 | box t vv =>
  obtain ⟨b', v, h1, h2, _⟩ := this
  have h1' : μ k = .pointer (some ⟨b', 0, none⟩) := h1
  rw [h1'] at hb; simp [blk] at hb; subst hb
  exact (Array.getElem?_eq_some_iff.1 h2).1
 | arr e t c =>
  obtain ⟨ivs, cs, h1, h2, h3, ⟨_, h4⟩, _⟩ := this
  rcases h4 with ⟨h4, _⟩ | ⟨g, cap, cu, e1, _, e3, _⟩
  ·have h4' : μ k = .slice none 0 0 := h4
   rw [h4'] at hb; simp [blk] at hb
  ·have e1' : μ k = .slice (some ⟨g, 0, none⟩) ivs.length cap := e1
   rw [e1'] at hb; simp [blk] at hb; subst hb
   exact (Array.getElem?_eq_some_iff.1 e3).1
 | frz => simp [Ob.isOwn] at ho
 | iter s p =>
  obtain ⟨b', n, bs, h1, h2, _⟩ := this
  have h1' : μ k = .pointer (some ⟨b', 0, none⟩) := h1
  rw [h1'] at hb; simp [blk] at hb; subst hb
  exact (Array.getElem?_eq_some_iff.1 h2).1
 | mp t kt vt c =>
  obtain ⟨r, cl, es, ivs, h1, h2, _⟩ := this
  have h1' : μ k = .map (some r) := h1
  rw [h1'] at hb; simp [blk] at hb; subst hb
  exact (Array.getElem?_eq_some_iff.1 h2).1
structure Put (P : Program) (X : Nat → Prop) (ρ : List IV) (K : Nat → Prop) (ob ob' : Nat → Option Ob) (μ : Nat → Value) (w w' : World) (k : Nat) (o : Ob) (hdr : Value) : Prop where
 other : ∀ k' o', k' ≠ k → ob' k' = some o' → ob k' = some o'
 here : ob' k = some o
 same : ∀ k', K k' → updM μ k hdr k' = μ k'
 step : WStep (Wr ob μ) w w'
 rest : ∀ k' o' b, k' ≠ k → ob' k' = some o' → o'.isOwn = true → blk (μ k') = some b → w'.heap[b]? = w.heap[b]?
 new : ∀ b, blk hdr = some b → (Wr ob μ b ∧ ∀ k' o', k' ≠ k → ob' k' = some o' → o'.isOwn = true → blk (μ k') ≠ some b) ∨ w.heap.size ≤ b
 keys : ∀ k' ∈ keysOb o, K k' ∨ k' = k
theorem updM_ne {k k' : Nat} {v : Value} (h : k' ≠ k) : updM μ k v k' = μ k' := by simp [updM, h]
theorem updM_eq {k : Nat} {v : Value} : updM μ k v k = v := by simp [updM]
theorem Put.later {k : Nat} {o : Ob} {hdr : Value} (p : Put P X ρ K ob ob' μ w w' k o hdr) : Later K (cxOf P X ρ ob μ w) (cxOf P X ρ ob' (updM μ k hdr) w') := by
 have hW : ∀ b, b < w.heap.size → Wr ob' (updM μ k hdr) b → Wr ob μ b := by
  rintro b hb ⟨k', o', h1, h2, h3⟩
  by_cases hk : k' = k
  ·subst hk
   rw [updM_eq] at h3
   rcases p.new b h3 with h | h
   ·exact h.1
   ·omega
  ·rw [updM_ne hk] at h3
   exact ⟨k', o', p.other k' o' hk h1, h2, h3⟩
 exact { P := rfl, ρ := fun _ _ h => h, μ := p.same, stays := p.step.stays, O := fun b hb h => h.elim .inl fun h => .inr (hW b hb h), W := hW, WO := fun b hb => .inr hb }
theorem Put.good {k : Nat} {o : Ob} {hdr : Value} (G : Good P N X ρ K tm ob μ a w) (p : Put P X ρ K ob ob' μ w w' k o hdr) (hok : ObOk (cxOf P X ρ ob' (updM μ k hdr) w') k o) {K' : Nat → Prop} (hK : ∀ k', K k' ∨ k' = k → K' k') :
  Good P N X ρ K' tm ob' (updM μ k hdr) a w' := by
 have L := p.later
 have hlt : ∀ {k' o' b}, k' ≠ k → ob' k' = some o' → o'.isOwn = true → blk (updM μ k hdr k') = some b → b < w.heap.size ∧ blk (μ k') = some b := by
  intro k' o' b hk h1 h2 h3
  rw [updM_ne hk] at h3
  exact ⟨G.blk_lt (p.other k' o' hk h1) h2 h3, h3⟩
 have hnew : ∀ {k' o' b}, k' ≠ k → ob' k' = some o' → o'.isOwn = true → blk (updM μ k hdr k') = some b → blk hdr = some b → False := by
  intro k' o' b hk h1 h2 h3 h4
  have := hlt hk h1 h2 h3
  rcases p.new b h4 with h | h
  ·exact h.2 k' o' hk h1 h2 this.2
  ·omega
 refine ⟨G.size, G.defers, fun s => L.srel (G.kt s) (G.slot s), fun k' o' ho => ?_, ?_, ?_, fun b hb => Nat.lt_of_lt_of_le (G.xlt b hb) p.step.size, fun s k' h => hK k' (.inl (G.kt s k' h)), fun k' o' ho => ?_⟩
 ·by_cases hk : k' = k
  ·subst hk
   have := p.here
   rw [this] at ho; injection ho with ho; subst ho
   exact hok
  ·have ho' := p.other k' o' hk ho
   exact L.obOk (G.ko k' o' ho').1 (G.ko k' o' ho').2 (fun hi b hb _ => p.rest k' o' b hk ho hi hb) (G.obj k' o' ho')
 ·intro k1 k2 o1 o2 b h1 h2 h3 h4 h5 h6
  by_cases hk1 : k1 = k
  ·by_cases hk2 : k2 = k
   ·rw [hk1, hk2]
   ·subst hk1
    rw [updM_eq] at h5
    exact (hnew hk2 h2 h4 h6 h5).elim
  ·by_cases hk2 : k2 = k
   ·subst hk2
    rw [updM_eq] at h6
    exact (hnew hk1 h1 h3 h5 h6).elim
   ·exact G.sep k1 k2 o1 o2 b (p.other k1 o1 hk1 h1) (p.other k2 o2 hk2 h2) h3 h4 (hlt hk1 h1 h3 h5).2 (hlt hk2 h2 h4 h6).2
 ·intro k' o' b h1 h2 h3
  by_cases hk : k' = k
  ·subst hk
   rw [updM_eq] at h3
   rcases p.new b h3 with ⟨⟨k2, o2, q1, q2, q3⟩, _⟩ | h
   ·exact G.xsep k2 o2 b q1 q2 q3
   ·intro hx
    have := G.xlt b hx
    omega
  ·exact G.xsep k' o' b (p.other k' o' hk h1) h2 (hlt hk h1 h2 h3).2
 ·by_cases hk : k' = k
  ·subst hk
   rw [p.here] at ho; injection ho with ho; subst ho
   exact ⟨hK _ (.inr rfl), fun k' h => hK k' (p.keys k' h)⟩
  ·have := G.ko k' o' (p.other k' o' hk ho)
   exact ⟨hK k' (.inl this.1), fun k2 h => hK k2 (.inl (this.2 k2 h))⟩
theorem Put.own {k : Nat} {o : Ob} {hdr : Value} (_G : Good P N X ρ K tm ob μ a w) (p : Put P X ρ K ob ob' μ w w' k o hdr) : ∀ b, Wr ob' (updM μ k hdr) b → Wr ob μ b ∨ w.heap.size ≤ b := by
 rintro b ⟨k', o', h1, h2, h3⟩
 by_cases hk : k' = k
 ·subst hk
  rw [updM_eq] at h3
  exact (p.new b h3).imp (·.1) id
 ·rw [updM_ne hk] at h3
  exact .inl ⟨k', o', p.other k' o' hk h1, h2, h3⟩
theorem wstep_alloc (W : Nat → Prop) (w : World) (o : Obj) : WStep W w (w.alloc o) :=
 ⟨rfl, rfl, rfl, by simp, fun b hb _ => Go.RowKit.Below.heap_alloc w o b hb⟩
theorem newBox_ok {t : TypeId} {vv : VV} {v : Value} {e1 : ES} (p : Ph P N X ρ K S μ a w es e1) (hfresh : ∀ k, es.m ≤ k → k < e1.m + 1 → ¬ K k)
    (hv : VRel (cxOf P X ρ (cur S e1.obs) μ w) vv v) (hk : ∀ k ∈ keysVV vv, K k) (hs : v.cells.size = sizeT P t) (hag : if isAggT P t then ∃ cs, v = .agg cs else v.oneCell' = true) (h1 : ∀ u ∈ v.cells, u.oneCell' = true) :
    Out P N X ρ K S μ a w es { e1 with m := e1.m + 1, obs := (e1.m, some (.box t vv)) :: e1.obs } (one (.leaf (.ptr (.p e1.m 0)))) (updM μ e1.m (.pointer (some ⟨w.heap.size, 0, none⟩))) (w.alloc (.cells v.cells t)) (.pointer (some ⟨w.heap.size, 0, none⟩)) := by
  have hm : ¬ K e1.m := hfresh e1.m (by rw [p.m]; exact Nat.le_refl _) (Nat.lt_succ_self _)
  have hP : Put P X ρ K (cur S e1.obs) (updOb (cur S e1.obs) e1.m (some (.box t vv))) μ w (w.alloc (.cells v.cells t)) e1.m (.box t vv) (.pointer (some ⟨w.heap.size, 0, none⟩)) :=
    { other := fun k' o' h ho => by simpa [updOb, h] using ho
      here := by simp [updOb]
      same := fun k' h => updM_ne (fun e => hm (e ▸ h))
      step := wstep_alloc _ _ _
      rest := fun k' o' b h ho hi hb => Go.RowKit.Below.heap_alloc _ _ _ (p.good.blk_lt (by simpa [updOb, h] using ho) hi hb)
      new := fun b hb => .inr (by simp [blk] at hb; omega)
      keys := fun k' h => .inl (hk k' h) }
  have hok : ObOk (cxOf P X ρ (updOb (cur S e1.obs) e1.m (some (.box t vv))) (updM μ e1.m (.pointer (some ⟨w.heap.size, 0, none⟩))) (w.alloc (.cells v.cells t))) e1.m (.box t vv) :=
    ⟨w.heap.size, v, updM_eq, heap_alloc_new w _, hs, hag, h1, hP.later.vrel hk hv⟩
  have hK : ∀ k', K k' ∨ k' = e1.m → withKeys K es.m (e1.m + 1) k' := by
    rintro k' (h | rfl)
    · exact .inl h
    · exact .inr ⟨by rw [p.m]; exact Nat.le_refl _, Nat.lt_succ_self _⟩
  refine ⟨?_, ?_, ?_, ?_, ?_, hP.same⟩
  · rw [show ({ e1 with m := e1.m + 1, obs := (e1.m, some (.box t vv)) :: e1.obs } : ES).obs = (e1.m, some (.box t vv)) :: e1.obs from rfl, cur_cons]
    exact hP.good p.good hok hK
  · exact ⟨w.heap.size, updM_eq, by rw [addr_add_zero]⟩
  · intro k h
    simp [keysSX, keysVV, keysLV, keysPV, one] at h
    subst h
    exact hK _ (.inr rfl)
  · exact wstep_alloc _ _ _
  · intro b hb
    rw [show ({ e1 with m := e1.m + 1, obs := (e1.m, some (.box t vv)) :: e1.obs } : ES).obs = (e1.m, some (.box t vv)) :: e1.obs from rfl, cur_cons] at hb
    exact (hP.own p.good b hb).imp p.fewer.wr id
theorem newOb_ok {o : Ob} {obj : Obj} {hdr : Value} {e1 : ES} {nn : Nat} {sx : SX} (p : Ph P N X ρ K S μ a w es e1) (hfresh : ∀ k, es.m ≤ k → k < e1.m + 1 → ¬ K k) (hb : blk hdr = some w.heap.size) (hk : ∀ k ∈ keysOb o, K k ∨ k = e1.m)
    (hok : Later K (cxOf P X ρ (cur S e1.obs) μ w) (cxOf P X ρ (updOb (cur S e1.obs) e1.m (some o)) (updM μ e1.m hdr) (w.alloc obj)) → ObOk (cxOf P X ρ (updOb (cur S e1.obs) e1.m (some o)) (updM μ e1.m hdr) (w.alloc obj)) e1.m o)
    (hx : XRel (cxOf P X ρ (updOb (cur S e1.obs) e1.m (some o)) (updM μ e1.m hdr) (w.alloc obj)) sx hdr) (hs : ∀ k ∈ keysSX sx, k = e1.m) :
    Out P N X ρ K S μ a w es { e1 with n := nn, m := e1.m + 1, obs := (e1.m, some o) :: e1.obs } sx (updM μ e1.m hdr) (w.alloc obj) hdr := by
  have hm : ¬ K e1.m := hfresh e1.m (by rw [p.m]; exact Nat.le_refl _) (Nat.lt_succ_self _)
  have hP : Put P X ρ K (cur S e1.obs) (updOb (cur S e1.obs) e1.m (some o)) μ w (w.alloc obj) e1.m o hdr :=
    { other := fun k' o' h ho => by simpa [updOb, h] using ho
      here := by simp [updOb]
      same := fun k' h => updM_ne (fun e => hm (e ▸ h))
      step := wstep_alloc _ _ _
      rest := fun k' o' b h ho hi hb => Go.RowKit.Below.heap_alloc _ _ _ (p.good.blk_lt (by simpa [updOb, h] using ho) hi hb)
      new := fun b hb' => .inr (by rw [hb] at hb'; injection hb' with hb'; omega)
      keys := hk }
  have hK : ∀ k', K k' ∨ k' = e1.m → withKeys K es.m (e1.m + 1) k' := by
    rintro k' (h | rfl)
    · exact .inl h
    · exact .inr ⟨by rw [p.m]; exact Nat.le_refl _, Nat.lt_succ_self _⟩
  refine ⟨?_, ?_, ?_, ?_, ?_, hP.same⟩
  · show Good P N X ρ (withKeys K es.m (e1.m + 1)) S.tm (cur S ((e1.m, some o) :: e1.obs)) _ a _
    rw [cur_cons]
    exact hP.good p.good (hok hP.later) hK
  · show XRel (cxOf P X ρ (cur S ((e1.m, some o) :: e1.obs)) _ _) _ _
    rw [cur_cons]; exact hx
  · intro k h
    exact hK _ (.inr (hs k h))
  · exact wstep_alloc _ _ _
  · intro b hb
    have hb : Wr (cur S ((e1.m, some o) :: e1.obs)) _ b := hb
    rw [cur_cons] at hb
    exact (hP.own p.good b hb).imp p.fewer.wr id
theorem newArr2_ok {e t : TypeId} {x : Arg} {ivs : List IV} {cs : Array Value} {n cap : Nat} {e1 : ES} (p : Ph P N X ρ K S μ a w es e1) (hfresh : ∀ k, es.m ≤ k → k < e1.m + 1 → ¬ K k)
    (hx : x.ev ρ = some (.list ivs)) (ht : P.underlying t = some (.slice e)) (hsz : 0 < sizeT P e) (hn : ivs.length = n) (hcap : n ≤ cap) (hmax : cap ≤ maxLen) (hcs : cs.size = cap * sizeT P e)
    (hel : Elems P w (cxOf P X ρ (cur S e1.obs) μ w).O e ivs (cs.toList.take (n * sizeT P e))) (h1 : ∀ u ∈ cs.toList.take (n * sizeT P e), u.oneCell' = true) {rt : TypeId} {nn : Nat} :
    Out P N X ρ K S μ a w es { e1 with n := nn, m := e1.m + 1, obs := (e1.m, some (.arr e t x)) :: e1.obs } (one (.leaf (.ref e1.m rt))) (updM μ e1.m (.slice (some ⟨w.heap.size, 0, none⟩) n cap)) (w.alloc (.cells cs e)) (.slice (some ⟨w.heap.size, 0, none⟩) n cap) := by
  have hm : ¬ K e1.m := hfresh e1.m (by rw [p.m]; exact Nat.le_refl _) (Nat.lt_succ_self _)
  have hP : Put P X ρ K (cur S e1.obs) (updOb (cur S e1.obs) e1.m (some (.arr e t x))) μ w (w.alloc (.cells cs e)) e1.m (.arr e t x) (.slice (some ⟨w.heap.size, 0, none⟩) n cap) :=
    { other := fun k' o' h ho => by simpa [updOb, h] using ho
      here := by simp [updOb]
      same := fun k' h => updM_ne (fun e => hm (e ▸ h))
      step := wstep_alloc _ _ _
      rest := fun k' o' b h ho hi hb => Go.RowKit.Below.heap_alloc _ _ _ (p.good.blk_lt (by simpa [updOb, h] using ho) hi hb)
      new := fun b hb => .inr (by simp [blk] at hb; omega)
      keys := fun k' h => by simp [keysOb] at h }
  have hok : ObOk (cxOf P X ρ (updOb (cur S e1.obs) e1.m (some (.arr e t x))) (updM μ e1.m (.slice (some ⟨w.heap.size, 0, none⟩) n cap)) (w.alloc (.cells cs e))) e1.m (.arr e t x) := by
    refine ⟨ivs, cs.toList.take (n * sizeT P e), hx, ht, hsz, ?_, hP.later.elems hel, h1⟩
    show World.ownsRow _ 0 e (sizeT P e) (updM μ e1.m _ e1.m) ivs.length _
    rw [updM_eq, hn]
    refine ⟨?_, .inr ⟨w.heap.size, cap, cs, rfl, Nat.zero_le _, heap_alloc_new w _, hcap, hmax, hcs, rfl⟩⟩
    rw [List.length_take, Array.length_toList, hcs]
    have := Nat.mul_le_mul_right (sizeT P e) hcap
    omega
  have hK : ∀ k', K k' ∨ k' = e1.m → withKeys K es.m (e1.m + 1) k' := by
    rintro k' (h | rfl)
    · exact .inl h
    · exact .inr ⟨by rw [p.m]; exact Nat.le_refl _, Nat.lt_succ_self _⟩
  refine ⟨?_, ?_, ?_, ?_, ?_, hP.same⟩
  · show Good P N X ρ (withKeys K es.m (e1.m + 1)) S.tm (cur S ((e1.m, some (.arr e t x)) :: e1.obs)) _ a _
    rw [cur_cons]
    exact hP.good p.good hok hK
  · exact ⟨updM_eq.symm, _, _, _, rfl⟩
  · intro k h
    simp [keysSX, keysVV, keysLV, one] at h
    subst h
    exact hK _ (.inr rfl)
  · exact wstep_alloc _ _ _
  · intro b hb
    have hb : Wr (cur S ((e1.m, some (.arr e t x)) :: e1.obs)) _ b := hb
    rw [cur_cons] at hb
    exact (hP.own p.good b hb).imp p.fewer.wr id
theorem newArr_ok {e t : TypeId} {x : Arg} {ivs : List IV} {cs : Array Value} {n cap : Nat} {e1 : ES} (p : Ph P N X ρ K S μ a w es e1) (hfresh : ∀ k, es.m ≤ k → k < e1.m + 1 → ¬ K k)
  (hx : x.ev ρ = some (.list ivs)) (ht : P.underlying t = some (.slice e)) (hsz : 0 < sizeT P e) (hn : ivs.length = n) (hcap : n ≤ cap) (hmax : cap ≤ maxLen) (hcs : cs.size = cap * sizeT P e)
  (hel : Elems P w (cxOf P X ρ (cur S e1.obs) μ w).O e ivs (cs.toList.take (n * sizeT P e))) (h1 : ∀ u ∈ cs, u.oneCell' = true) {rt : TypeId} {nn : Nat} :
  Out P N X ρ K S μ a w es { e1 with n := nn, m := e1.m + 1, obs := (e1.m, some (.arr e t x)) :: e1.obs } (one (.leaf (.ref e1.m rt))) (updM μ e1.m (.slice (some ⟨w.heap.size, 0, none⟩) n cap)) (w.alloc (.cells cs e)) (.slice (some ⟨w.heap.size, 0, none⟩) n cap) :=
 newArr2_ok p hfresh hx ht hsz hn hcap hmax hcs hel fun u hu => h1 u (by simpa using List.mem_of_mem_take hu)
end
end Go.CT
namespace Go.CT
open EM
theorem fold_set (off : Nat) : ∀ (vs : List Value) (k : Nat) (cells : Array Value), off + k + vs.length ≤ cells.size →
  ((vs.zipIdx k).foldl (fun (cs : Array Value) (p : Value × Nat) => cs.setIfInBounds (off + p.2) p.1) cells).toList = cells.toList.take (off + k) ++ vs ++ cells.toList.drop (off + k + vs.length)
 | [], k, cells, _ => by simp
 | v :: vs, k, cells, h => by
  simp only [List.length_cons] at h
  rw [List.zipIdx_cons, List.foldl_cons, fold_set off vs (k + 1) _ (by simpa using (by omega : off + (k + 1) + vs.length ≤ cells.size))]
  have hlt : off + k < cells.toList.length := by simp; omega
  apply List.ext_getElem?
  intro j
  simp only [Array.toList_setIfInBounds]
  simp only [List.getElem?_append, List.length_take, List.length_set, List.length_append, List.length_cons, List.getElem?_drop, List.getElem?_set, List.getElem?_take, List.getElem?_cons]
  have e1 : min (off + (k + 1)) cells.toList.length = off + (k + 1) := by omega
  have e2 : min (off + k) cells.toList.length = off + k := by omega
  rw [e1, e2]
  by_cases h1 : j < off + k
  ·have a1 : j < off + (k + 1) := by omega
   have a2 : ¬ (off + k = j) := by omega
   simp [h1, a1, a2, show j < off + (k + 1) + vs.length by omega, show j < off + k + (vs.length + 1) by omega]
  ·by_cases h2 : j = off + k
   ·subst h2
    simp [show off + k < off + (k + 1) by omega, show off + k < off + (k + 1) + vs.length by omega]
    omega
   ·by_cases h3 : j < off + k + (vs.length + 1)
    ·have a1 : ¬ j < off + (k + 1) := by omega
     have a3 : ¬ (j - (off + k) = 0) := by omega
     simp only [a1, if_false, h3, if_true, h1, show j < off + (k + 1) + vs.length by omega, a3]
     congr 1 <;> omega
    ·have a1 : ¬ j < off + (k + 1) + vs.length := by omega
     simp only [a1, if_false, h3]
     have : ¬ (off + k = off + (k + 1) + vs.length + (j - (off + (k + 1) + vs.length))) := by omega
     simp only [this, if_false]
     congr 1; omega
def flatC (vs : List Value) : List Value := vs.flatMap fun v => v.cells.toList
theorem flatC_len {vs : List Value} {sz : Nat} (h : ∀ v ∈ vs, v.cells.size = sz) : (flatC vs).length = vs.length * sz := by
 induction vs with
 | nil => simp [flatC]
 | cons v vs ih =>
  have := ih fun u hu => h u (List.mem_cons_of_mem _ hu)
  have h0 := h v List.mem_cons_self
  simp only [flatC, List.flatMap_cons, List.length_append, List.length_cons] at this ⊢
  rw [this, Array.length_toList, h0, Nat.add_mul, Nat.one_mul, Nat.add_comm]
theorem flatC_at {sz : Nat} : ∀ {vs : List Value}, (∀ v ∈ vs, v.cells.size = sz) → ∀ (j : Nat) (v : Value), vs[j]? = some v → ((flatC vs).drop (j * sz)).take sz = v.cells.toList
 | [], _, j, v, hj => by simp at hj
 | u :: vs, h, j, v, hj => by
  have h0 := h u List.mem_cons_self
  have hl : u.cells.toList.length = sz := by rw [Array.length_toList, h0]
  cases j with
  | zero =>
   simp at hj; subst hj
   simp only [flatC, List.flatMap_cons, Nat.zero_mul, List.drop_zero]
   rw [List.take_append_of_le_length (by omega), ← hl, List.take_length]
  | succ j =>
   have := flatC_at (fun w hw => h w (List.mem_cons_of_mem _ hw)) j v (by simpa using hj)
   rw [← this]
   simp only [flatC, List.flatMap_cons]
   rw [Nat.succ_mul, Nat.add_comm, ← List.drop_drop, List.drop_append_of_le_length (by omega), ← hl, List.drop_length, List.nil_append]
theorem flatC_append (us vs : List Value) : flatC (us ++ vs) = flatC us ++ flatC vs := by simp [flatC]
theorem flatC_one {vs : List Value} (h : ∀ v ∈ vs, ∀ u ∈ v.cells, u.oneCell' = true) : ∀ u ∈ flatC vs, u.oneCell' = true := by
 intro u hu
 simp only [flatC, List.mem_flatMap] at hu
 obtain ⟨v, hv, hu⟩ := hu
 exact h v hv u (by simpa using hu)
def RelE (P : Program) (w : World) (O : Nat → Prop) (e : TypeId) : List IV → List Value → Prop
 | [], [] => True
 | x :: xs, v :: vs => (Rel P w O e x v ∧ v.cells.size = sizeT P e) ∧ RelE P w O e xs vs
 | _, _ => False
section
variable {P : Program} {w : World} {O : Nat → Prop} {e : TypeId}
theorem RelE.len : ∀ {xs : List IV} {vs : List Value}, RelE P w O e xs vs → xs.length = vs.length
 | [], [], _ => rfl
 | _ :: _, _ :: _, h => by simp [RelE.len h.2]
 | [], _ :: _, h => h.elim
 | _ :: _, [], h => h.elim
theorem RelE.size : ∀ {xs : List IV} {vs : List Value}, RelE P w O e xs vs → ∀ v ∈ vs, v.cells.size = sizeT P e ∧ ∀ u ∈ v.cells, u.oneCell' = true
 | [], [], _ => by simp
 | _ :: _, _ :: _, h => by
  intro v hv
  rcases List.mem_cons.1 hv with rfl | hv
  ·exact ⟨h.1.2, h.1.1.cells_one⟩
  ·exact RelE.size h.2 v hv
 | [], _ :: _, h => h.elim
 | _ :: _, [], h => h.elim
theorem RelE.get : ∀ {xs : List IV} {vs : List Value}, RelE P w O e xs vs → ∀ (j : Nat) (x : IV), xs[j]? = some x → ∃ v, vs[j]? = some v ∧ Rel P w O e x v
 | [], [], _ => by simp
 | _ :: _, _ :: _, h => by
  intro j x hx
  cases j with
  | zero => simp at hx; subst hx; exact ⟨_, rfl, h.1.1⟩
  | succ j =>
   obtain ⟨v, h1, h2⟩ := RelE.get h.2 j x (by simpa using hx)
   exact ⟨v, by simpa using h1, h2⟩
 | [], _ :: _, h => h.elim
 | _ :: _, [], h => h.elim
theorem RelE.append : ∀ {xs : List IV} {vs : List Value} {ys : List IV} {us : List Value}, RelE P w O e xs vs → RelE P w O e ys us → RelE P w O e (xs ++ ys) (vs ++ us)
 | [], [], _, _, _, h => h
 | _ :: _, _ :: _, _, _, h, h' => ⟨h.1, RelE.append h.2 h'⟩
 | [], _ :: _, _, _, h, _ => h.elim
 | _ :: _, [], _, _, h, _ => h.elim
theorem RelE.of_get : ∀ {xs : List IV} {vs : List Value}, xs.length = vs.length → (∀ (j : Nat) (x : IV) (v : Value), xs[j]? = some x → vs[j]? = some v → Rel P w O e x v ∧ v.cells.size = sizeT P e) → RelE P w O e xs vs
 | [], [], _, _ => trivial
 | _ :: _, _ :: _, h, hr => ⟨hr 0 _ _ rfl rfl, RelE.of_get (by simpa using h) fun j x v a b => hr (j + 1) x v (by simpa using a) (by simpa using b)⟩
 | [], _ :: _, h, _ => by simp at h
 | _ :: _, [], h, _ => by simp at h
theorem RelE.elems {xs : List IV} {vs : List Value} (h : RelE P w O e xs vs) : Elems P w O e xs (flatC vs) := by
 intro j x hx
 obtain ⟨v, h1, h2⟩ := h.get j x hx
 have hs := h.size v (List.mem_of_getElem? h1)
 exact ⟨v, h2, (flatC_at (fun u hu => (h.size u hu).1) j v h1).symm, hs.1⟩
theorem Elems.relE {xs : List IV} {cs : List Value} (h : Elems P w O e xs cs) (hl : cs.length = xs.length * sizeT P e) : ∃ vs, RelE P w O e xs vs ∧ cs = flatC vs := by
 induction xs generalizing cs with
 | nil =>
  have : cs = [] := List.length_eq_zero_iff.1 (by simpa using hl)
  subst this
  exact ⟨[], trivial, rfl⟩
 | cons x xs ih =>
  obtain ⟨v, h1, h2, h3⟩ := h 0 x rfl
  simp only [Nat.zero_mul, List.drop_zero] at h2
  have htail : Elems P w O e xs (cs.drop (sizeT P e)) := by
   intro j y hy
   obtain ⟨u, q1, q2, q3⟩ := h (j + 1) y (by simpa using hy)
   exact ⟨u, q1, by rw [q2, List.drop_drop, Nat.add_mul, Nat.one_mul, Nat.add_comm], q3⟩
  obtain ⟨vs, q1, q2⟩ := ih htail (by rw [List.length_drop, hl, List.length_cons, Nat.add_mul]; omega)
  refine ⟨v :: vs, ⟨⟨h1, h3⟩, q1⟩, ?_⟩
  show cs = v.cells.toList ++ flatC vs
  rw [h2, ← q2, List.take_append_drop]
theorem RowB.relE {xs : List IV} {A : Option Addr} {c : Nat} (h : RowB P w O e xs A c) : ∃ vs, RelE P w O e xs vs ∧ (0 < xs.length → ∃ ad, A = some ad ∧ ∀ (j : Nat) (u : Value), (flatC vs)[j]? = some u → w.cell? (ad.add j) = some u) := by
 obtain ⟨h1, h2, vs, h3, h4⟩ := h
 by_cases h0 : 0 < xs.length
 ·obtain ⟨hs, ad, rfl, hc⟩ := h3 h0
  have hE : RelE P w O e xs ((List.range xs.length).map vs) := RelE.of_get (by simp) fun j x v hx hv => by
   have hj := (List.getElem?_eq_some_iff.1 hx).1
   simp [hj] at hv
   subst hv
   exact ⟨h4 j x hx, (hc j hj).1⟩
  refine ⟨_, hE, fun _ => ⟨ad, rfl, fun q u hu => ?_⟩⟩
  have hlen := flatC_len (fun v hv => (hE.size v hv).1)
  have hq := (List.getElem?_eq_some_iff.1 hu).1
  rw [hlen, List.length_map, List.length_range] at hq
  have hj : q / sizeT P e < xs.length := (Nat.div_lt_iff_lt_mul hs).2 hq
  have hr : q % sizeT P e < sizeT P e := Nat.mod_lt _ hs
  have hat := flatC_at (fun v hv => (hE.size v hv).1) (q / sizeT P e) (vs (q / sizeT P e)) (by simp [hj])
  have hdm : q / sizeT P e * sizeT P e + q % sizeT P e = q := by rw [Nat.mul_comm]; exact Nat.div_add_mod q (sizeT P e)
  have hu' : (vs (q / sizeT P e)).cells.toList[q % sizeT P e]? = some u := by
   rw [← hat, List.getElem?_take, if_pos hr, List.getElem?_drop, hdm]
   exact hu
  have := (hc _ hj).2 (q % sizeT P e) u (by simpa using hu')
  rwa [addr_add_add, hdm] at this
 ·have : xs = [] := List.length_eq_zero_iff.1 (by omega)
  subst this
  exact ⟨[], trivial, fun h => absurd h h0⟩
theorem own_prefix {base size n cap h : Nat} {A : Option Addr} {xs : List Value} (ho : w.ownsRow base e size (.slice A n cap) n xs) (hh : h ≤ n) : w.ownsRow base e size (.slice A h cap) h (xs.take (h * size)) := by
 obtain ⟨h1, h2⟩ := ho
 refine ⟨by rw [List.length_take, h1]; have := Nat.mul_le_mul_right size hh; omega, ?_⟩
 rcases h2 with ⟨h2, h3⟩ | ⟨g, cap', cur, e1, e2, e3, e4, e5, e6, e7⟩
 ·injection h2 with a b c
  subst a; subst c
  have : h = 0 := by omega
  subst this
  exact .inl ⟨rfl, rfl⟩
 ·injection e1 with a b c
  subst a; subst c
  refine .inr ⟨g, cap, cur, rfl, e2, e3, by omega, e5, e6, ?_⟩
  rw [← e7, List.take_take]
  congr 1
  have := Nat.mul_le_mul_right size hh
  omega
theorem run_append_none (base : Nat) {t ty : TypeId} {i : TypeInfo} {size : Nat} (ht : P.underlying t = some (.slice e)) (hi : P.info? e = some i)
  (v : Value) (n c : Nat) (xs : List Value) (hown : w.ownsRow base e size v n xs) : (Builtin.append_ #[t, t] ty #[v, .slice none 0 c]).run P w = .ok v w := by
 rcases hown.2 with ⟨rfl, rfl⟩ | ⟨g, cap, cur, rfl, _, _, hnc, _⟩
 ·simp [Builtin.append_, underlying, ht, sizeOf, typeInfo, hi, Builtin.lenOf, Builtin.firstCells]
 ·simp [Builtin.append_, underlying, ht, sizeOf, typeInfo, hi, Builtin.lenOf, Builtin.firstCells, hnc, storeCells]
end
end Go.CT
namespace Go.CT
open EM
section
variable {P : Program} {N : Nat} {X : Nat → Prop} {R : Job → List IV → Option (List IV)} {ρ : List IV} {K : Nat → Prop} {S : View} {μ : Nat → Value} {a : Act} {w : World} {es es' : ES} {ls : List PLt} {sx : SX}
theorem one_cells {v : Value} (h : v.oneCell' = true) : v.cells = #[v] := by cases v <;> simp_all [Value.cells, Value.oneCell']
theorem Rel.sized {O : Nat → Prop} {t : TypeId} {x : IV} {v : Value} (h : Rel P w O t x v) (hs : sizeOk P t = true) : v.cells.size = sizeT P t := by
 unfold sizeOk at hs
 cases hl : leaves P t with
 | none => simp [hl] at hs
 | some ts =>
  simp only [hl, Bool.and_eq_true, beq_iff_eq, Bool.or_eq_true] at hs
  by_cases ha : isAggT P t = true
  ·obtain ⟨ts', xs, cs, h1, _, rfl, h3⟩ := h.leafs ha
   rw [hl] at h1; injection h1 with h1; subst h1
   have := h3.len.2
   simp only [Value.cells]
   rw [Array.length_toList] at this
   omega
  ·have ha' : isAggT P t = false := by simpa using ha
   rw [(h.one ha').2]
   have := hs.2.resolve_left (by simp [ha'])
   simp [this]
theorem fits_ok {c : Cx} {t : TypeId} {vv : VV} {v : Value} (h : fitsBox c.P t vv = true) (hv : VRel c vv v) :
  v.cells.size = sizeT c.P t ∧ (if isAggT c.P t then ∃ cs, v = .agg cs else v.oneCell' = true) ∧ ∀ u ∈ v.cells, u.oneCell' = true := by
 cases vv with
 | agg t' cs =>
  simp only [fitsBox, Bool.and_eq_true, beq_iff_eq] at h
  obtain ⟨⟨rfl, ha⟩, hs⟩ := h
  obtain ⟨us, rfl, hc⟩ := hv
  refine ⟨by rw [← hs, hc.len]; simp [Value.cells], by simp only [ha, if_true]; exact ⟨us, rfl⟩, fun u hu => hc.one u (by simpa [Value.cells] using hu)⟩
 | leaf l =>
  have lone : l ≠ .junk → (∀ x u, l ≠ .at x u) → (!isAggT c.P t && sizeT c.P t == 1) = true → v.cells.size = sizeT c.P t ∧ (if isAggT c.P t then ∃ cs, v = .agg cs else v.oneCell' = true) ∧ ∀ u ∈ v.cells, u.oneCell' = true := by
   intro hj hat hs
   simp only [Bool.and_eq_true, Bool.not_eq_true', beq_iff_eq] at hs
   obtain ⟨h1, h2⟩ := LRel.one (c := c) hv hj (fun x u he => absurd he (hat x u))
   rw [h2]
   exact ⟨by simp [hs.2], by simp [hs.1, h1], fun u hu => by simp at hu; subst hu; exact h1⟩
  cases l with
  | «at» x t' =>
   simp only [fitsBox, Bool.and_eq_true, beq_iff_eq] at h
   obtain ⟨rfl, hs⟩ := h
   obtain ⟨iv, _, d⟩ := hv
   exact ⟨d.sized hs, d.isagg, d.cells_one⟩
  | junk => simp [fitsBox] at h
  | nil t' => exact lone (by simp) (by simp) h
  | ref k t' => exact lone (by simp) (by simp) h
  | sub k lo hi t' => exact lone (by simp) (by simp) h
  | ptr p => exact lone (by simp) (by simp) h
  | fn f ps => exact lone (by simp) (by simp) h
  | mref k t => exact lone (by simp) (by simp) h
  | hid k => exact lone (by simp) (by simp) h
  | cl x t => exact lone (by simp) (by simp) h
  | st x t => exact lone (by simp) (by simp) h
theorem xBox_ok {t : TypeId} {x : Operand} (G : Good P N X ρ K S.tm (cur S es.obs) μ a w) (h : Ev S (do
   bare
   let v ← rd1 P x t
   EM.guard (fitsBox P t v)
   let k ← newKey
   setOb k (some (.box t v))
   pure (one (.leaf (.ptr (.p k 0)))) : EM SX) es sx es' ls) (hg : holds ρ es.gs = some true) (hfresh : ∀ k, es.m ≤ k → k < es'.m → ¬ K k) :
  ∃ v w' μ', (Instr.box t (a.eval x)).run P w = .ok v w' ∧ Out P N X ρ K S μ a w es es' sx μ' w' v := by
 rw [Ev_bind] at h
 obtain ⟨_, _, _, _, h0, h, rfl⟩ := h
 rw [Ev_bare] at h0
 obtain ⟨_, rfl, rfl⟩ := h0
 rw [Ev_bind] at h
 obtain ⟨vv, e1, l1, _, h1, h, rfl⟩ := h
 obtain ⟨rfl, rfl, h3, h4⟩ := rd1_ok G h1 hg
 simp only [Ev_bind, Ev_guard, Ev_newKey, Ev_setOb, Ev_pure] at h
 obtain ⟨_, _, _, _, ⟨g1, rfl, rfl⟩, ⟨_, _, _, _, ⟨rfl, rfl, rfl⟩, ⟨_, _, _, _, ⟨rfl, rfl⟩, ⟨rfl, rfl, rfl⟩, rfl⟩, rfl⟩, rfl⟩ := h
 obtain ⟨f1, f2, f3⟩ := fits_ok (c := cxOf P X ρ (cur S es.obs) μ w) g1 h3
 refine ⟨_, _, _, ?_, newBox_ok (.refl G) hfresh h3 h4 f1 f2 f3⟩
 simp [Instr.box, newVar, newRow]
theorem xAlloc_ok {t : TypeId} (G : Good P N X ρ K S.tm (cur S es.obs) μ a w) (h : Ev S (do
   bare
   let v ← ofOption (zeroVV P t)
   EM.guard (fitsNew P t v)
   let k ← newKey
   setOb k (some (.box t v))
   pure (one (.leaf (.ptr (.p k 0)))) : EM SX) es sx es' ls) (hfresh : ∀ k, es.m ≤ k → k < es'.m → ¬ K k) :
  ∃ v w' μ', (Instr.alloc t true (.tuple #[])).run P w = .ok v w' ∧ Out P N X ρ K S μ a w es es' sx μ' w' v := by
 simp only [Ev_bind, Ev_bare, Ev_ofOption, Ev_guard, Ev_newKey, Ev_setOb, Ev_pure] at h
 obtain ⟨_, _, _, _, ⟨_, rfl, rfl⟩, ⟨vv, _, _, _, ⟨g0, rfl, rfl⟩, ⟨_, _, _, _, ⟨g1, rfl, rfl⟩, ⟨_, _, _, _, ⟨rfl, rfl, rfl⟩, ⟨_, _, _, _, ⟨rfl, rfl⟩, ⟨rfl, rfl, rfl⟩, rfl⟩, rfl⟩, rfl⟩, rfl⟩, rfl⟩ := h
 unfold zeroVV at g0
 simp only [Option.bind_eq_bind] at g0
 cases hi : P.info? t with
 | none => simp [hi] at g0
 | some i =>
  cases hz : i.zero with
  | none => simp [hi, hz] at g0
  | some z =>
   simp only [hi, hz, Option.bind_some] at g0
   obtain ⟨c1, c2, c3, c4, c5⟩ := constVV_ok (c := cxOf P X ρ (cur S es.obs) μ w) g0
   have hf : z.cells.size = sizeT P t ∧ (if isAggT P t then ∃ cs, z = .agg cs else z.oneCell' = true) := by
    by_cases hj : vv = .leaf .junk
    ·subst hj
     simp only [fitsNew, Bool.and_eq_true, Bool.not_eq_true', beq_iff_eq] at g1
     have ho := c3 g1.1
     rw [one_cells ho]
     exact ⟨by simp [g1.2], by simp [g1.1, ho]⟩
    ·have hb : fitsBox P t vv = true := by
      unfold fitsNew at g1
      split at g1
      ·exact absurd rfl hj
      ·exact g1
     obtain ⟨f1, f2, _⟩ := fits_ok (c := cxOf P X ρ (cur S es.obs) μ w) hb c1
     exact ⟨f1, f2⟩
   refine ⟨_, _, _, ?_, newBox_ok (.refl G) hfresh c1 (fun k hk => by rw [c2] at hk; simp at hk) hf.1 hf.2 c4⟩
   simp [Instr.alloc, zeroValue, typeInfo, hi, hz, newVar, newRow]
theorem constLV_rel {O : Nat → Prop} {t : TypeId} {v : Value} {l : LV} {x : IV} (h : constLV P t v = some l) (hx : constIV l = some x) : Rel P w O t x v := by
 unfold constLV at h
 split at h
 ·split at h
  ·rename_i hk; injection h with h; subst h; simp [constIV] at hx; subst hx; exact .int (intK_eq hk)
  ·cases h
 ·split at h
  ·rename_i hk; injection h with h; subst h; simp [constIV] at hx; subst hx; exact .bool (isBool_eq hk)
  ·cases h
 ·split at h
  ·rename_i hk; injection h with h; subst h; simp [constIV] at hx; subst hx; exact .str (isStr_eq hk)
  ·cases h
 ·split at h
  ·rename_i hk; injection h with h; subst h; simp [constIV] at hx; subst hx
   obtain ⟨e, he⟩ := Option.isSome_iff_exists.1 hk
   exact (Row.nil e none 0).rel (elemT_eq he)
  ·cases h
 ·injection h with h; subst h; simp [constIV] at hx
 ·injection h with h; subst h; simp [constIV] at hx
 ·injection h with h; subst h; simp [constIV] at hx
 ·injection h with h; subst h; simp [constIV] at hx
 ·cases h
theorem constLVs_rel {O : Nat → Prop} : ∀ {ts : List TypeId} {vs : List Value} {ls : List LV} {xs : List IV}, constLVs P ts vs = some ls → constIVs ls = some xs → RelsL P w O ts xs vs
 | [], [], ls, xs, h, hx => by simp [constLVs] at h; subst h; simp [constIVs] at hx; subst hx; trivial
 | t :: ts, v :: vs, ls, xs, h, hx => by
  simp only [constLVs, Option.pure_def, Option.bind_eq_bind] at h
  cases h1 : constLV P t v with
  | none => simp [h1] at h
  | some l =>
   cases h2 : constLVs P ts vs with
   | none => simp [h1, h2] at h
   | some ls' =>
    simp [h1, h2] at h; subst h
    simp only [constIVs, Option.pure_def, Option.bind_eq_bind] at hx
    cases h3 : constIV l with
    | none => simp [h3] at hx
    | some x =>
     cases h4 : constIVs ls' with
     | none => simp [h3, h4] at hx
     | some xs' =>
      simp [h3, h4] at hx; subst hx
      exact ⟨constLV_rel h1 h3, constLVs_rel h2 h4⟩
 | [], _ :: _, _, _, h, _ => by simp [constLVs] at h
 | _ :: _, [], _, _, h, _ => by simp [constLVs] at h
theorem zeroIV_rel {O : Nat → Prop} {t : TypeId} {x : IV} (h : zeroIV P t = some x) : ∃ i z, P.info? t = some i ∧ i.zero = some z ∧ Rel P w O t x z := by
 unfold zeroIV zeroVV at h
 simp only [Option.bind_eq_bind] at h
 cases hi : P.info? t with
 | none => simp [hi] at h
 | some i =>
  cases hz : i.zero with
  | none => simp [hi, hz] at h
  | some z =>
   simp only [hi, hz, Option.bind_some] at h
   cases hv : constVV P t z with
   | none => simp [hv] at h
   | some vv =>
    simp only [hv, Option.bind_some] at h
    refine ⟨i, z, rfl, hz, ?_⟩
    unfold constVV at hv
    split at hv
    ·rename_i cs
     split at hv
     ·rename_i ha
      simp only [Option.pure_def, Option.bind_eq_bind] at hv
      cases hts : leaves P t with
      | none => simp [hts] at hv
      | some ts =>
       cases hl : constLVs P ts cs.toList with
       | none => simp [hts, hl] at hv
       | some ls =>
        simp [hts, hl] at hv; subst hv
        simp only [Option.map_eq_some_iff] at h
        obtain ⟨xs, h, rfl⟩ := h
        exact (constLVs_rel hl h).agg ha hts
     ·cases hv
    ·split at hv
     ·cases hv
     ·simp only [Option.map_eq_some_iff] at hv
      obtain ⟨l, hv, rfl⟩ := hv
      exact constLV_rel hv h
theorem zero_of {e : TypeId} (h : zeroOk P e = true) : ∃ i z, P.info? e = some i ∧ i.zero = some z ∧ z.cells.size = sizeT P e ∧ i.size = sizeT P e ∧ i.bytes = bytesT P e := by
 unfold zeroOk at h
 cases hi : P.info? e with
 | none => simp [hi] at h
 | some i =>
  cases hz : i.zero with
  | none => simp [hi, hz] at h
  | some z =>
   simp only [hi, hz, beq_iff_eq] at h
   exact ⟨i, z, rfl, hz, by simp [sizeT, hi, h], by simp [sizeT, hi], by simp [bytesT, hi]⟩
theorem made_take (z : Array Value) (sz l c : Nat) (hz : z.size = sz) (hs : 0 < sz) (hl : l ≤ c) : (madeCells z (c * sz)).toList.take (l * sz) = flatC (List.replicate l (.agg z)) := by
 have hlen : (flatC (List.replicate l (Value.agg z))).length = l * sz := by
  rw [flatC_len (sz := sz) (fun v hv => by rw [(List.mem_replicate.1 hv).2]; exact hz)]
  simp
 have hle : l * sz ≤ c * sz := Nat.mul_le_mul_right _ hl
 apply List.ext_getElem?
 intro q
 by_cases hq : q < l * sz
 ·rw [List.getElem?_take, if_pos hq]
  have hj : q / sz < l := (Nat.div_lt_iff_lt_mul hs).2 hq
  have hr : q % sz < sz := Nat.mod_lt _ hs
  have hat := flatC_at (sz := sz) (vs := List.replicate l (Value.agg z)) (fun v hv => by rw [(List.mem_replicate.1 hv).2]; exact hz) (q / sz) (.agg z) (by simp [hj])
  have hdm : q / sz * sz + q % sz = q := by rw [Nat.mul_comm]; exact Nat.div_add_mod q sz
  have : (flatC (List.replicate l (Value.agg z)))[q]? = z.toList[q % sz]? := by
   have h1 : (Value.agg z).cells.toList = z.toList := rfl
   rw [← h1, ← hat, List.getElem?_take, if_pos hr, List.getElem?_drop, hdm]
  rw [this]
  have hq2 : q < c * sz := by omega
  have hr' : q % z.size < z.size := by rw [hz]; exact hr
  simp [madeCells, hq2, hz, hr]
 ·rw [List.getElem?_eq_none (by rw [List.length_take]; omega), List.getElem?_eq_none (by omega)]
theorem xMakeSlice_ok {t : TypeId} {x y : Operand} (G : Good P N X ρ K S.tm (cur S es.obs) μ a w) (h : Ev S (xMakeSlice P t x y) es sx es' ls) (hl : LH R ρ ls) (hg : holds ρ es.gs = some true) (hfresh : ∀ k, es.m ≤ k → k < es'.m → ¬ K k) :
  ∃ v w' μ', (Instr.makeSlice t (a.eval x) (a.eval y)).run P w = .ok v w' ∧ Out P N X ρ K S μ a w es es' sx μ' w' v := by
 unfold xMakeSlice at h
 rw [Ev_bind] at h
 obtain ⟨_, _, _, _, h0, h, rfl⟩ := h
 rw [Ev_bare] at h0
 obtain ⟨_, rfl, rfl⟩ := h0
 rw [Ev_bind] at h
 obtain ⟨e, _, _, _, h0, h, rfl⟩ := h
 rw [Ev_ofOption] at h0
 obtain ⟨he, rfl, rfl⟩ := h0
 rw [Ev_bind] at h
 obtain ⟨_, _, _, _, h0, h, rfl⟩ := h
 rw [Ev_guard] at h0
 obtain ⟨g1, rfl, rfl⟩ := h0
 simp only [Bool.and_eq_true, decide_eq_true_eq] at g1
 obtain ⟨⟨g1, g2⟩, g3⟩ := g1
 rw [Ev_bind] at h
 obtain ⟨lA, e2, l2, _, h2, h, rfl⟩ := h
 obtain ⟨rfl, rfl, l, kl, hlv, hlx⟩ := rdInt_ok G h2 hg
 rw [Ev_bind] at h
 obtain ⟨cA, e3, l3, _, h3, h, rfl⟩ := h
 obtain ⟨rfl, rfl, c, kc, hcv, hcx⟩ := rdInt_ok G h3 hg
 simp only [Ev_bind, Ev_ofOption, Ev_prim, Ev_newKey, Ev_setOb, Ev_pure] at h
 obtain ⟨zi, _, _, _, ⟨hz, rfl, rfl⟩, ⟨_, _, _, _, ⟨rfl, rfl, rfl⟩, ⟨_, _, _, _, ⟨rfl, rfl, rfl⟩, ⟨_, _, _, _, ⟨rfl, rfl⟩, ⟨rfl, rfl, rfl⟩, rfl⟩, rfl⟩, rfl⟩, rfl⟩ := h
 obtain ⟨vs, iv, r1, r2, r3⟩ := LH.prim hl.right.right.right.right.right.right.left hg
 obtain ⟨u, v, s1, s2, rfl⟩ := evs2 r1
 rw [hlv] at s1; rw [hcv] at s2
 injection s1 with s1; injection s2 with s2; subst s1; subst s2
 simp only [Prim.ev] at r2
 split at r2
 ·rename_i hc
  injection r2 with r2; subst r2
  obtain ⟨i, z, q1, q2, q3, q4, q5⟩ := zero_of g3
  obtain ⟨i', z', q1', q2', hrel⟩ := zeroIV_rel (w := w) (O := fun b => X b ∨ Wr (cur S es.obs) μ b) hz
  rw [q1] at q1'; injection q1' with q1'; subst q1'
  rw [q2] at q2'; injection q2' with q2'; subst q2'
  have ht := elemT_eq he
  have hb : (bytesT P e : Int) * c ≤ 140737488355328 := by
   have : maxBytes = 140737488355328 := rfl
   have h3 := hc.2.2
   rw [this] at h3
   rw [Int.mul_comm]; exact h3
  have hcb : c ≤ 140737488355328 := by
   have h1 : (1 : Int) ≤ bytesT P e := by omega
   have : (1 : Int) * c ≤ bytesT P e * c := Int.mul_le_mul_of_nonneg_right h1 (by omega)
   omega
  have hrun := run_make (P := P) w t e i z ht q1 q2 kl kc l c hc.1 hc.2.1 (by rw [q5]; omega) (by omega)
  rw [hlx, hcx]
  refine ⟨_, _, updM μ es.m (.slice (some ⟨w.heap.size, 0, none⟩) l.toNat c.toNat), hrun, ?_⟩
  rw [q4]
  have hrep : RelE P w (fun b => X b ∨ Wr (cur S es.obs) μ b) e (List.replicate l.toNat zi) (List.replicate l.toNat z) :=
   RelE.of_get (by simp) fun j x v hx hv => by
    simp [List.getElem?_replicate] at hx hv
    obtain ⟨_, rfl⟩ := hx
    obtain ⟨_, rfl⟩ := hv
    exact ⟨hrel, q3⟩
  refine newArr_ok (es := es) (e1 := { es with n := es.n + 1 }) (ivs := List.replicate l.toNat zi) (n := l.toNat) (cap := c.toNat) (cs := madeCells z.cells (c.toNat * sizeT P e)) (.same G rfl rfl rfl) hfresh r3 ht g1 (by simp) (by omega) ?_ (size_madeCells _ _) ?_ ?_
  ·have : maxLen = 9223372036854775807 := by decide
   omega
  ·rw [made_take z.cells (sizeT P e) l.toNat c.toNat q3 g1 (by omega)]
   have hh : flatC (List.replicate l.toNat (Value.agg z.cells)) = flatC (List.replicate l.toNat z) := by
    simp only [flatC, List.flatMap_replicate]
    rfl
   rw [hh]
   exact hrep.elems
  ·intro u hu
   obtain ⟨j, hj, rfl⟩ := Array.mem_iff_getElem.1 hu
   have hjs : j < c.toNat * sizeT P e := by simpa [size_madeCells] using hj
   have hr : j % z.cells.size < z.cells.size := Nat.mod_lt _ (by rw [q3]; exact g1)
   have : (madeCells z.cells (c.toNat * sizeT P e))[j] = z.cells[j % z.cells.size]'hr := by
    simp [madeCells, hr]
   rw [this]
   exact hrel.cells_one _ (Array.getElem_mem hr)
 ·cases r2
end
end Go.CT
