/- From Go's code,as the model holds it,to the resolved form. -/
import Derived.Test.YtpoofafddbcnpaaVLgCore
namespace Lg
open Go

def ofValueN : Nat → Value → Option LV
  | 0,_ => none
  | d + 1,v => match v with
    | .bool b => some (.bool b)
    | .int k n => some (.int k n)
    | .string s => some (.str s.data.toList)
    | .pointer none => some .nilptr
    | .slice none 0 0 => some .nilslice
    | .map none => some .nilmap
    | .nilFunc => some .nilfunc
    | .nilIface => some .nilif
    | .agg cs => match cs.toList.mapM (ofValueN d) with
      | some l => some (.agg l)
      | none => none
    | .tuple cs => match cs.toList.mapM (ofValueN d) with
      | some l => some (.tup l)
      | none => none
    | _ => none
def ofValue (v : Value) : Option LV := ofValueN 3 v

def preX : Operand → Option X
  | .tmp t => some (.t t)
  | .const v => (ofValue v).map .c
  | .func f => some (.c (.func f []))
  | .global _ => none

def preXs (xs : Array Operand) : Option (List X) := xs.toList.mapM preX

def preO : Option Operand → Option (Option X)
  | none => some none
  | some x => (preX x).map some

def isAggT (P : Program) (t : TypeId) : Option Bool :=
  match P.underlying t with
  | some (.struct _) | some (.array _ _) => some true
  | some _ => some false
  | none => none
def sizeT (P : Program) (t : TypeId) : Option Nat := (P.info? t).map (·.size)
def zeroT (P : Program) (t : TypeId) : Option (List LV) :=
  match ((P.info? t).bind (·.zero)).bind ofValue with
  | some z => some z.cells
  | none => none

def preParts (place : Nat → Option (Nat × Nat)) (ps : Array (Nat × Operand)) : Option (List (Nat × Nat × X)) :=
  ps.toList.mapM fun p => match place p.1,preX p.2 with
    | some (o,s),some x => some (o,s,x)
    | _,_ => none

/-- The kinds of its cells,if a type's == goes cell by cell. -/
def flatEq (P : Program) : Nat → TypeId → Option (List CK)
  | 0,_ => none
  | d + 1,t => match P.underlying t with
    | some .bool => some [.b]
    | some (.int _) => some [.i]
    | some .string => some [.s]
    | some (.struct fs) =>
      if P.stoodInHeld t then none else
      fs.toList.foldlM (init := []) fun ks f =>
        if f.name ≠ "_" ∧ f.offset = ks.length then
          match flatEq P d f.type,sizeT P f.type with
          | some k,some s => if k.length = s then some (ks ++ k) else none
          | _,_ => none
        else none
    | _ => none

def isConstB : Operand → Bool
  | .const _ => true
  | _ => false

def preEK (P : Program) (t : TypeId) (x y : Operand) : Option EK :=
  match P.underlying t with
  | some (.struct _) => match flatEq P 6 t,sizeT P t with
    | some ks,some s => if ks.length = s ∧ P.eqGuardType P.depth t = false then some (.struct ks) else none
    | _,_ => none
  | some .bool => some .bool
  | some (.slice _) => some .slice
  | some (.map _ _) => some .map
  | some (.func _ _ _) => some .func
  | some (.pointer _) => some .ptr
  | some (.interface _) => if isConstB x ∨ isConstB y then some .iface else none
  | _ => none

def preEq (P : Program) (neg : Bool) (t : TypeId) (x y : Operand) : Option LOp :=
  match preEK P t x y,preX x,preX y with
  | some k,some a,some b => some (.eqv neg k a b)
  | _,_,_ => none

def isInt (P : Program) (t : TypeId) : Bool := match P.underlying t with | some (.int _) => true | _ => false
def isStr (P : Program) (t : TypeId) : Bool := match P.underlying t with | some .string => true | _ => false

def preCall (P : Program) (c : Call) : Option LOp :=
  match c.callee with
  | .value (.func f) => match P.funcs[f]?,preXs c.args with
    | some fn,some xs => if fn.name ≠ "runtime.NumGoroutine" ∧ fn.body.isSome then some (.call false f xs) else none
    | _,_ => none
  | .value f => match preX f,preXs c.args with
    | some f,some xs => some (.callv f xs)
    | _,_ => none
  | .builtin .len => match c.argTypes[0]?,c.args.toList with
    | some t,[x] => match P.underlying t,preX x with
      | some .string,some x => some (.lenS x)
      | some (.slice _),some x => some (.lenL x)
      | some (.map _ _),some x => some (.lenM x)
      | some (.array n _),some _ => some (.lenC n)
      | some (.pointer arr),some _ => match P.underlying arr with
        | some (.array n _) => some (.lenC n)
        | _ => none
      | _,_ => none
    | _,_ => none
  | .builtin .min => (preXs c.args).map .min2
  | .builtin .max => (preXs c.args).map .max2
  | .builtin .append => match c.argTypes.toList,c.args.toList with
    | [t,u],[x,y] => match P.underlying t,P.underlying u,preX x,preX y with
      | some (.slice e),some ud,some x,some y => match P.info? e,ud with
        | some i,.slice _ | some i,.string => if i.bytes ≤ 1048576 ∧ i.bytes ≠ 0 ∧ i.size ≠ 0 ∧ i.zero.map (fun z => z.cells.size) = some i.size then some (.append false i.size i.bytes x y) else none
        | some i,.int _ => match zeroT P e with
          | some z => if i.bytes ≤ 1048576 ∧ i.bytes ≠ 0 ∧ i.size ≠ 0 ∧ z.length = i.size ∧ z.all LV.single = true then some (.appendZ i.size i.bytes z x y) else none
          | none => none
        | _,_ => none
      | _,_,_,_ => none
    | _,_ => none
  | .builtin .copy => match c.argTypes[0]?,c.args.toList with
    | some t,[x,y] => match P.underlying t,preX x,preX y with
      | some (.slice e),some x,some y => match sizeT P e with
        | some n => some (.copy n x y)
        | none => none
      | _,_,_ => none
    | _,_ => none
  | .builtin .cap => match c.argTypes[0]?,c.args.toList with
    | some t,[x] => match P.underlying t,preX x with
      | some (.slice _),some x => some (.capL x)
      | _,_ => none
    | _,_ => none
  | .builtin .clear => match c.argTypes[0]?,c.args.toList with
    | some t,[x] => match P.underlying t,preX x with
      | some (.slice e),some x => match sizeT P e,zeroT P e with
        | some n,some z => if z.length = n ∧ z.length ≠ 0 ∧ z.all LV.single = true then some (.rewr (.clear z) n 0 x (.c (.func 0 []))) else none
        | _,_ => none
      | _,_ => none
    | _,_ => none
  | _ => none

def preOp (P : Program) (o : Oper) : Option LOp :=
  match o.op with
  | .move x | .assign x => (preX x).map (.mv false)
  | .pick c a b => match preX c,preX a,preX b with
    | some c,some a,some b => some (.pick c a b)
    | _,_,_ => none
  | .alloc e => match zeroT P e with
    | some z => if z.all LV.single then some (.alloc z) else none
    | none => none
  | .box _ x => (preX x).map .box
  | .build t ps => match zeroT P t,P.underlying t with
    | some z,some (.struct fs) => match fs.toList.mapM (fun f => (P.info? f.type).map fun i => (f.offset,i.size)) with
      | some places => (preParts (places.toArray[·]?) ps).map (.build z)
      | none => none
    | some z,some (.array _ e) => match sizeT P e with
      | some s => (preParts (fun i => some (i * s,s)) ps).map (.build z)
      | none => none
    | _,_ => none
  | .buildSlice t len ps => match P.underlying t with
    | some (.slice e) => match sizeT P e,zeroT P e with
      | some s,some z => if s ≠ 0 ∧ z.length = s ∧ z.all LV.single ∧ len * s ≤ 16777216 then (preParts (fun i => some (i * s,s)) ps).map (.bslice false len s (rows z len)) else none
      | _,_ => none
    | _ => none
  | .load t a => match isAggT P t,sizeT P t,preX a with
    | some g,some n,some a => some (.load false g n a)
    | _,_,_ => none
  | .store t a x => match sizeT P t,preX a,preX x with
    | some n,some a,some x => some (.store n a x)
    | _,_,_ => none
  | .nilCheck x => (preX x).map .nilchk
  | .binOp op t x y _ =>
    if (op = .eql ∨ op = .neq) ∧ isInt P t = false ∧ isStr P t = false then preEq P (op == .neq) t x y
    else match preX x,preX y with
      | some a,some b => some (.bin op a b)
      | _,_ => none
  | .unOp op _ x => (preX x).map (.un op)
  | .convert s d x => match P.underlying s,P.underlying d,preX x with
    | some (.int _),some (.int k),some x => some (.conv k x)
    | some .string,some .string,some x => some (.mvs x)
    | some (.slice e),some .string,some x => match P.underlying e with
      | some (.int .u8) => some (.b2s x)
      | _ => none
    | some .string,some (.slice e),some x => match P.underlying e with
      | some (.int .u8) => some (.s2b x)
      | _ => none
    | _,_,_ => none
  | .makeFunc (.func f) first caps => if first.size = 0 then (preXs caps).map (.mkfunc f) else none
  | .makeSlice t l c => match P.underlying t,preX l,preX c with
    | some (.slice e),some l,some c => match P.info? e,zeroT P e with
      | some i,some z => if z.length = i.size ∧ i.size ≠ 0 ∧ z.all LV.single then some (.make true i.size i.bytes z l c) else none
      | _,_ => none
    | _,_,_ => none
  | .slice t x lo hi mx => match P.underlying t,preX x,preO lo,preO hi,preO mx with
    | some .string,some x,some l,some h,some m => if m.isNone then some (.slc 0 x l h none) else none
    | some (.slice e),some x,some l,some h,some m => match sizeT P e with
      | some s => if s ≠ 0 ∧ (m.isNone ∨ h.isSome) then some (.slc s x l h m) else none
      | none => none
    | some (.array n e),some x,some l,some h,some m => match sizeT P e with
      | some s => if s ≠ 0 ∧ m.isNone then some (.slcA n s x l h) else none
      | none => none
    | _,_,_,_,_ => none
  | .fieldAddr t x i => match P.underlying t,preX x with
    | some (.struct fs),some x => match fs[i]? with
      | some f => match sizeT P f.type with
        | some s => if s ≠ 0 then some (.fieldAddr f.offset x) else none
        | none => none
      | none => none
    | _,_ => none
  | .field t x i => match P.underlying t,preX x with
    | some (.struct fs),some x => match fs[i]? with
      | some f => match isAggT P f.type,sizeT P f.type with
        | some g,some s => some (.field g f.offset s x)
        | _,_ => none
      | none => none
    | _,_ => none
  | .indexAddr t x i => match P.underlying t,preX x,preX i with
    | some (.slice e),some x,some i => match sizeT P e with
      | some s => some (.indexAddr s x i)
      | none => none
    | some (.array n e),some x,some i => match sizeT P e with
      | some s => some (.indexAddrA n s x i)
      | none => none
    | _,_,_ => none
  | .index t x i => match P.underlying t,preX x,preX i with
    | some .string,some x,some i => some (.index x i)
    | some (.array n e),some x,some i => match isAggT P e,sizeT P e with
      | some g,some s => some (.indexA g n s x i)
      | _,_ => none
    | _,_,_ => none
  | .extract x i => (preX x).map (.extract i)
  | .makeMap _ r => if r.isNone then some .mkmap else none
  | .lookup t m k ok => match P.underlying t,preX m,preX k with
    | some (.map kt e),some m,some k => match P.underlying kt,(P.info? e).bind (·.zero) with
      | some (.int _),some zv => (ofValue zv).map fun z => .lookup z ok m k
      | _,_ => none
    | _,_,_ => none
  | .mapUpdate t m k v | .insert t m k v => match P.underlying t,preX m,preX k,preX v with
    | some (.map kt _),some m,some k,some v => match P.underlying kt with
      | some (.int _) => some (.update m k v)
      | _ => none
    | _,_,_,_ => none
  | .call c => preCall P c
  | _ => none

/-- Notes for the machine of values: what takes the room behind a list with it; which slices are written. -/
structure Hint where
  lin : List Nat
  wr : List Nat
  pu : List Nat
  deriving Inhabited
def LOp.note (H : Hint) (d : Option Nat) : LOp → LOp
  | .mv _ x => .mv ((d.map H.lin.contains).getD false) x
  | .load _ g n x => .load ((d.map H.lin.contains).getD false) g n x
  | .bslice _ len s zs ps => .bslice ((d.map H.wr.contains).getD false) len s zs ps
  | .append _ es b x y => .append (!(d.map H.wr.contains).getD false) es b x y
  | .make _ es b zs x y => .make (!(d.map H.pu.contains).getD false) es b zs x y
  | .call _ f xs => .call ((d.map H.pu.contains).getD false) f xs
  | o => o

def preOper (P : Program) (H : Hint) (ops : Array Oper) (o : Oper) : Option LOper :=
  let l := ((preOp P o).getD .stuck).note H o.dst
  match o.guard with
  | none => some { dst := o.dst,guard := none,op := l }
  | some (j,want) => match (ops[j]?).bind (·.dst) with
    | some t => some { dst := o.dst,guard := some (t,want),op := l }
    | none => none

def LOp.xs : LOp → List X
  | .alloc _ | .lenC _ | .mkmap | .stuck => []
  | .mv _ x | .mvs x | .box x | .load _ _ _ x | .nilchk x | .un _ x | .conv _ x | .b2s x | .s2b x | .fieldAddr _ x | .field _ _ _ x | .extract _ x | .lenS x | .lenL x | .lenM x => [x]
  | .pick a b c | .update a b c => [a,b,c]
  | .build _ ps | .bslice _ _ _ _ ps => ps.map (·.2.2)
  | .store _ x y | .bin _ x y | .eqv _ _ x y | .indexAddr _ x y | .indexAddrA _ _ x y | .index x y | .indexA _ _ _ x y | .append _ _ _ x y | .copy _ x y | .make _ _ _ _ x y | .lookup _ _ x y => [x,y]
  | .slc _ x l h m => x :: (l.toList ++ h.toList ++ m.toList)
  | .slcA _ _ x l h => x :: (l.toList ++ h.toList)
  | .min2 xs | .max2 xs | .mkfunc _ xs | .call _ _ xs | .ext _ xs => xs
  | .rewr _ _ _ x f => [x,f]
  | .appendZ _ _ _ x n => [x,n]
  | .concat _ _ x | .capL x => [x]
  | .callv f xs => f :: xs

def LOper.looksAt (o : LOper) : List Nat :=
  (o.op.xs.filterMap fun | .t n => some n | _ => none) ++ (match o.guard with | some (g,_) => [g] | none => [])

/-- What an operation waits for,and all that waits before it: a bit for each. -/
def mask (o : Oper) (acc : List Nat) : Nat :=
  o.after.toList.foldl (fun s e => if Region.binds .any e then s ||| (2 ^ e.on ||| acc.getD e.on 0) else s) 0
def befs : List Oper → List Nat → List Nat
  | [],acc => acc
  | o :: r,acc => befs r (acc ++ [mask o acc])

def cmpB (b : List Nat) (i j : Nat) : Bool := (b.getD i 0).testBit j || (b.getD j 0).testBit i

/-- Edges go to earlier operations. -/
def backB (ops : List Oper) : Bool := ops.zipIdx.all fun p => p.1.after.toList.all fun e => !Region.binds .any e || decide (e.on < p.2)

/-- The code; 'ks': for each loop what it keeps. -/
def preCode (P : Program) (H : Hint) : Code → List (List Nat) → Option (LCode × List (List Nat))
  | .skip,s => some (.skip,s)
  | .region _ ops draw,ks =>
    match ops.toList.mapM (preOper P H ops) with
    | none => none
    | some l =>
      if draw then
        if backB ops.toList && P.follows .mixedOrders then some (.dops (befs ops.toList []) l,ks) else none
      else some (.ops l,ks)
  | .seq a b,s => match preCode P H a s with
    | some (a,s) => match preCode P H b s with
      | some (b,s) => some (.seq a b,s)
      | none => none
    | none => none
  | .cond c a b,s => match preX c,preCode P H a s with
    | some c,some (a,s) => match preCode P H b s with
      | some (b,s) => some (.cond c a b,s)
      | none => none
    | _,_ => none
  | .block id c,s => match preCode P H c s with
    | some (c,s) => some (.block id c,s)
    | none => none
  | .loop c,k :: ks => match preCode P H c ks with
    | some (c,s) => some (.loop k c,s)
    | none => none
  | .exit id,s => some (.exit id,s)
  | .ret,s => some (.ret,s)
  | _,_ => none

def preRes (P : Program) : ResultVar → Option LRes
  | .tmp t => some (.tmp t)
  | .cell a t => match isAggT P t,sizeT P t with
    | some g,some n => some (.cell a g n)
    | _,_ => none

def preFunc (P : Program) (H : Hint) (f : Func) (ks : List (List Nat)) : Option LFunc :=
  if f.name = "runtime.NumGoroutine" then none else
  match f.body with
  | none => none
  | some c => match preCode P H c ks,f.results.toList.mapM (preRes P) with
    | some (lc,_),some rs => some { ntmps := f.ntmps,nargs := f.params.size + f.nfree,results := rs,body := lc }
    | _,_ => none

end Lg
