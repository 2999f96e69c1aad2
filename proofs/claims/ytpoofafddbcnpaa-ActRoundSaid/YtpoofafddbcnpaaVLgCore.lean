/- The logical machine: values,blocks,a resolved form of Go's code,and a deterministic evaluator over them. -/
import Derived.Calls
import Derived.Orders
import Derived.Below
import Derived.Lib.Bytealg
namespace Lg
open Go

/-- A logical value: addresses are (number of a logical block,offset in cells). -/
inductive LV where
  | undef
  | bool (b : Bool)
  | int (k : IntKind) (n : Int)
  | str (s : List UInt8)
  | ptr (n off : Nat)
  | nilptr
  | slice (n off len es : Nat) (full : Bool)
  | nilslice
  | map (n : Nat)
  | nilmap
  | func (f : FuncId) (caps : List LV)
  | nilfunc
  | iface (t : TypeId) (v : LV)
  | nilif
  | agg (cs : List LV)
  | tup (vs : List LV)
  deriving Inhabited

inductive LBlk where
  | cells (rw : Bool) (cs : List LV)
  | map (es : List (LV × LV))
  | dead
  | tok (m u : Nat)
  deriving Inhabited

abbrev Heap := List LBlk
abbrev Env := List LV

def LV.cells : LV → List LV
  | .agg cs => cs
  | v => [v]

/-- Fits one cell. -/
def LV.single : LV → Bool
  | .agg _ | .tup _ | .undef => false
  | _ => true

/-- An operand. -/
inductive X where
  | t (n : Nat)
  | c (v : LV)
  deriving Inhabited

def X.ev (env : Env) : X → LV
  | .t n => env.getD n .undef
  | .c v => v

/-- The kind of a cell that is compared. -/
inductive CK where
  | b | i | s
  deriving DecidableEq
/-- The kind of values that are compared. -/
inductive EK where
  | bool | ptr | slice | map | func | iface
  | struct (ks : List CK)

/-- What the library computes of scalars and of lists of scalars. -/
inductive ExtK where
  | index1 | count1 | join | cmp
  deriving DecidableEq,Inhabited

/-- How a row of cells is written anew: with a constant,or sorted by its numbers. -/
inductive RwK where
  | clear (zs : List LV)
  | sort (es : Nat)
  deriving Inhabited

inductive LOp where
  | mv (m : Bool) (x : X)
  | mvs (x : X)
  | pick (c a b : X)
  | alloc (zs : List LV)
  | box (x : X)
  | build (zs : List LV) (ps : List (Nat × Nat × X))
  | bslice (mt : Bool) (len es : Nat) (zs : List LV) (ps : List (Nat × Nat × X))
  | load (m : Bool) (agg : Bool) (n : Nat) (a : X)
  | store (n : Nat) (a x : X)
  | nilchk (x : X)
  | bin (op : BinOp) (x y : X)
  | eqv (neg : Bool) (k : EK) (x y : X)
  | un (op : UnOp) (x : X)
  | conv (k : IntKind) (x : X)
  | b2s (x : X)
  | s2b (x : X)
  | slc (es : Nat) (x : X) (lo hi mx : Option X)
  | slcA (len es : Nat) (x : X) (lo hi : Option X)
  | fieldAddr (off : Nat) (x : X)
  | field (agg : Bool) (off n : Nat) (x : X)
  | indexAddr (es : Nat) (x i : X)
  | indexAddrA (len es : Nat) (x i : X)
  | index (x i : X)
  | indexA (agg : Bool) (len es : Nat) (x i : X)
  | extract (i : Nat) (x : X)
  | lenS (x : X)
  | lenL (x : X)
  | lenM (x : X)
  | lenC (n : Nat)
  | min2 (xs : List X)
  | max2 (xs : List X)
  | append (ap : Bool) (es bytes : Nat) (x y : X)
  | copy (es : Nat) (x y : X)
  | make (mt : Bool) (es bytes : Nat) (zs : List LV) (l c : X)
  | mkmap
  | lookup (zero : LV) (commaOk : Bool) (m k : X)
  | update (m k v : X)
  | mkfunc (f : FuncId) (caps : List X)
  | call (pu : Bool) (f : FuncId) (args : List X)
  | callv (f : X) (args : List X)
  | ext (k : ExtK) (xs : List X)
  | rewr (k : RwK) (es : Nat) (g : FuncId) (x f : X)
  | concat (es bytes : Nat) (x : X)
  | capL (x : X)
  | appendZ (es bytes : Nat) (zs : List LV) (x n : X)
  | stuck
  deriving Inhabited

structure LOper where
  dst : Option Nat
  guard : Option (Nat × Bool)
  op : LOp
  deriving Inhabited

inductive LCode where
  | skip
  | ops (l : List LOper)
  | dops (bs : List Nat) (l : List LOper)
  | seq (a b : LCode)
  | cond (c : X) (a b : LCode)
  | block (id : Nat) (c : LCode)
  | loop (keep : List Nat) (c : LCode)
  | exit (id : Nat)
  | ret
  deriving Inhabited

inductive LRes where
  | tmp (t : Nat)
  | cell (a : Nat) (agg : Bool) (n : Nat)
  deriving Inhabited

structure LFunc where
  ntmps : Nat
  nargs : Nat
  results : List LRes
  body : LCode
  deriving Inhabited

/-! ### Values -/

def wrapB (k : IntKind) (r : BitVec k.bits) : LV := .int k (k.wrap r.toNat)

def binE (op : BinOp) : LV → LV → Option LV
  | .int k a,.int k' b =>
    match op with
    | .shl => if 0 ≤ b then some (.int k (k.wrap (a * 2 ^ (min b.toNat k.bits)))) else none
    | .shr => if 0 ≤ b then some (.int k (a.fdiv (2 ^ (min b.toNat k.bits)))) else none
    | .add => if k = k' then some (.int k (k.wrap (a + b))) else none
    | .sub => if k = k' then some (.int k (k.wrap (a - b))) else none
    | .mul => if k = k' then some (.int k (k.wrap (a * b))) else none
    | .quo => if k = k' then if b = 0 then none else some (.int k (k.wrap (a.tdiv b))) else none
    | .rem => if k = k' then if b = 0 then none else some (.int k (a.tmod b)) else none
    | .and => if k = k' then some (wrapB k (BitVec.ofInt k.bits a &&& BitVec.ofInt k.bits b)) else none
    | .or => if k = k' then some (wrapB k (BitVec.ofInt k.bits a ||| BitVec.ofInt k.bits b)) else none
    | .xor => if k = k' then some (wrapB k (BitVec.ofInt k.bits a ^^^ BitVec.ofInt k.bits b)) else none
    | .andNot => if k = k' then some (wrapB k (BitVec.ofInt k.bits a &&& ~~~ BitVec.ofInt k.bits b)) else none
    | .eql => if k = k' then some (.bool (a == b)) else none
    | .neq => if k = k' then some (.bool (a != b)) else none
    | .lss => if k = k' then some (.bool (decide (a < b))) else none
    | .leq => if k = k' then some (.bool (decide (a ≤ b))) else none
    | .gtr => if k = k' then some (.bool (decide (a > b))) else none
    | .geq => if k = k' then some (.bool (decide (a ≥ b))) else none
  | .str a,.str b =>
    match op with
    | .add => if a.length + b.length ≤ 4611686018427387904 then some (.str (a ++ b)) else none
    | .eql => some (.bool (a == b))
    | .neq => some (.bool !(a == b))
    | .lss => some (.bool (Op.bytesLess a b))
    | .leq => some (.bool (Op.bytesLess a b || a == b))
    | .gtr => some (.bool !(Op.bytesLess a b || a == b))
    | .geq => some (.bool !(Op.bytesLess a b))
    | _ => none
  | _,_ => none

def unE (op : UnOp) : LV → Option LV
  | .int k n => match op with
    | .neg => some (.int k (k.wrap (0 - n)))
    | .xor => some (wrapB k (BitVec.ofInt k.bits (if k.signed then -1 else k.max) ^^^ BitVec.ofInt k.bits n))
    | _ => none
  | .bool b => match op with
    | .not => some (.bool !b)
    | _ => none
  | _ => none

/-- Go's == of two structs' cells. -/
def eqL : List CK → List LV → List LV → Option Bool
  | [],[],[] => some true
  | .i :: ks,.int k a :: x,.int k' b :: y => if k = k' then (if a == b then eqL ks x y else some false) else none
  | .s :: ks,.str a :: x,.str b :: y => if a == b then eqL ks x y else some false
  | .b :: ks,.bool a :: x,.bool b :: y => if a == b then eqL ks x y else some false
  | _,_,_ => none

def eqE : EK → LV → LV → Option Bool
  | .struct ks,.agg a,.agg b => if a.length = ks.length ∧ b.length = ks.length then eqL ks a b else none
  | .bool,.bool a,.bool b => some (a == b)
  | .ptr,.nilptr,.nilptr => some true
  | .ptr,.nilptr,.ptr _ _ => some false
  | .ptr,.ptr _ _,.nilptr => some false
  | .slice,.nilslice,.nilslice => some true
  | .slice,.nilslice,.slice .. => some false
  | .slice,.slice ..,.nilslice => some false
  | .map,.nilmap,.nilmap => some true
  | .map,.nilmap,.map _ => some false
  | .map,.map _,.nilmap => some false
  | .func,.nilfunc,.nilfunc => some true
  | .func,.nilfunc,.func .. => some false
  | .func,.func ..,.nilfunc => some false
  | .iface,.nilif,.nilif => some true
  | .iface,.nilif,.iface .. => some false
  | .iface,.iface ..,.nilif => some false
  | _,_,_ => none

/-- Two keys of a map. -/
def keyEq : LV → LV → Option Bool
  | .int k a,.int k' b => if k = k' then some (a == b) else none
  | .str a,.str b => some (a == b)
  | .bool a,.bool b => some (a == b)
  | _,_ => none

/-- Puts cells into cells from a place on. -/
def splice (cs : List LV) (off : Nat) (vs : List LV) : List LV := cs.take off ++ vs ++ cs.drop (off + vs.length)

def fillE (env : Env) : List LV → List (Nat × Nat × X) → Option (List LV)
  | cs,[] => some cs
  | cs,(off,size,x) :: r =>
    let v := (x.ev env).cells
    if v.length = size ∧ off + size ≤ cs.length ∧ v.all LV.single then fillE env (splice cs off v) r else none

def bytesOf : List LV → Option (List UInt8)
  | [] => some []
  | .int .u8 n :: r => match bytesOf r with
    | some l => some (UInt8.ofNat n.toNat :: l)
    | none => none
  | _ => none

def asNat : LV → Option Nat
  | .int _ n => if 0 ≤ n then some n.toNat else none
  | _ => none

/-- A slice's bounds: low,high. -/
def bnds (env : Env) (len : Nat) (lo hi : Option X) : Option (Nat × Nat) :=
  let h := match hi with | some x => asNat (x.ev env) | none => some len
  let l := match lo with | some x => asNat (x.ev env) | none => some 0
  match l,h with
  | some l,some h => if l ≤ h ∧ h ≤ len then some (l,h) else none
  | _,_ => none

def rows (zs : List LV) : Nat → List LV
  | 0 => []
  | n + 1 => zs ++ rows zs n

def mmE (mx : Bool) : LV → List LV → Option LV
  | v,[] => some v
  | .int k a,.int _ b :: r => mmE mx (.int k (if mx then (if b > a then b else a) else (if b < a then b else a))) r
  | _,_ => none

/-- A slice's cells. -/
def cellsOf (h : Heap) : LV → Option (List LV)
  | .nilslice => some []
  | .slice n off len es _ => match h[n]? with
    | some (.cells _ cs) => if off + len * es ≤ cs.length then some ((cs.drop off).take (len * es)) else none
    | _ => none
  | _ => none

/-- How many elements. -/
def lenOf : LV → Option Nat
  | .nilslice => some 0
  | .slice _ _ len _ _ => some len
  | .str s => some s.length
  | _ => none

/-- What append or copy takes: cells,how many elements. -/
def srcOf (es : Nat) (h : Heap) : LV → Option (List LV × Nat)
  | .str s => if es = 1 then some (s.map (fun b => .int .u8 b.toNat),s.length) else none
  | .nilslice => some ([],0)
  | .slice n off len es' f => if len = 0 then some ([],0) else if es' = es then match cellsOf h (.slice n off len es' f) with
      | some cs => some (cs,len)
      | none => none
    else none
  | _ => none

/-- The blocks of what has grown: its cells,and,if these are only read from now on,the room behind them. -/
def grownE (ap : Bool) (n k es : Nat) (out : List LV) : List LBlk := if ap then [.cells false out,.tok n (k * es)] else [.cells true out]

def appendE (ap : Bool) (lo es bytes : Nat) (s y : LV) (h : Heap) : Option (LV × Heap) :=
  match srcOf es h y with
  | none => none
  | some (new,k) =>
    match s with
    | .nilslice =>
      if k = 0 then some (.nilslice,h)
      else if (k + 512) * bytes ≤ 140737488355328 then some (.slice h.length 0 k es false,h ++ grownE ap h.length k es new) else none
    | .slice n off len es' full =>
      if len = 0 ∧ full = true then
        if k = 0 then some (.slice n off len es' full,h)
        else if (k + 512) * bytes ≤ 140737488355328 then some (.slice h.length 0 k es false,h ++ grownE ap h.length k es new) else none
      else if es' ≠ es then none
      else if k = 0 then some (.slice n off len es' full,h)
      else if (len + k + 512) * bytes ≤ 140737488355328 then
        match h[n]? with
        | some (.cells rw cs) =>
          if off + len * es ≤ cs.length then
            let out := (cs.drop off).take (len * es) ++ new
            if full then some (.slice h.length 0 (len + k) es false,h ++ grownE ap h.length (len + k) es out)
            else if ap then
              (match h[n + 1]? with
              | some (.tok m u) => if m = n ∧ u = off + len * es ∧ lo ≤ n + 1 ∧ rw = false then some (.slice h.length 0 (len + k) es false,h.set (n + 1) .dead ++ grownE ap h.length (len + k) es out) else none
              | _ => none)
            else if rw ∧ lo ≤ n then some (.slice h.length 0 (len + k) es false,h.set n .dead ++ grownE ap h.length (len + k) es out)
            else none
          else none
        | _ => none
      else none
    | _ => none

def findE (k : LV) : List (LV × LV) → Option (Option LV)
  | [] => some none
  | (k',v) :: r => match keyEq k k' with
    | some true => some (some v)
    | some false => findE k r
    | none => none

def updE (k v : LV) : List (LV × LV) → Option (List (LV × LV))
  | [] => some [(k,v)]
  | (k',v') :: r => match keyEq k k' with
    | some true => some ((k',v) :: r)
    | some false => match updE k v r with
      | some r' => some ((k',v') :: r')
      | none => none
    | none => none

def simpleKey : LV → Bool
  | .int _ _ => true
  | _ => false

/-- What a function of the library takes: a slice's cells,or the value itself. -/
def argE (h : Heap) : LV → LV
  | .nilslice => .agg []
  | .slice n off len es f => if len = 0 then .agg [] else if es = 1 then match cellsOf h (.slice n off len es f) with
    | some cs => .agg cs
    | none => .undef
    else .undef
  | .bool b => .bool b
  | .int k n => .int k n
  | .str s => .str s
  | _ => .undef
def strsOf : List LV → Option (List (List UInt8))
  | [] => some []
  | .str s :: r => match strsOf r with
    | some l => some (s :: l)
    | none => none
  | _ => none
def extE : ExtK → List LV → Option LV
  | .index1,[.str s,.str [c]] => some (.int .i64 (Go.Lib.indexByte s c))
  | .count1,[.str s,.str [c]] => some (.int .i64 ((s.count c : Nat) : Int))
  | .join,[.agg xs,.str sep] => match strsOf xs with
    | some l => if (sep.intercalate l).length + l.length ≤ 140737488355328 then some (.str (sep.intercalate l)) else none
    | none => none
  | .cmp,[.str a,.str b] => some (.int .i64 (Go.Lib.compareBytes a b))
  | _,_ => none

def scLV : LV → Bool
  | .bool _ | .int _ _ | .str _ => true
  | _ => false
def intsOf : List LV → Option (List Int)
  | [] => some []
  | .int .i64 n :: r => match intsOf r with
    | some l => some (n :: l)
    | none => none
  | _ => none
/-- Lexicographic: -1,0,1. -/
def cmpI : List Int → List Int → Int
  | [],[] => 0
  | [],_ :: _ => -1
  | _ :: _,[] => 1
  | a :: x,b :: y => if a < b then -1 else if b < a then 1 else cmpI x y
def chunkI (es : Nat) : Nat → List Int → List (List Int)
  | 0,_ => []
  | n + 1,l => l.take es :: chunkI es n (l.drop es)
def sortI (rows : List (List Int)) : List (List Int) := rows.mergeSort fun x y => !decide (cmpI y x < 0)
def rwE : RwK → Nat → List LV → Option (List LV)
  | .clear zs,len,_ => some (rows zs len)
  | .sort es,len,cs => match intsOf cs with
    | some l => if len < 4611686018427387904 then some ((sortI (chunkI es len l)).flatten.map fun n => .int .i64 n) else none
    | none => none

abbrev CallF := Nat → FuncId → List LV → Heap → Option (LV × Heap)

/-- One operation. 'lo': no older block may be written. -/
def opE (cf : CallF) (lo : Nat) (o : LOp) (env : Env) (h : Heap) : Option (LV × Heap) :=
  match o with
  | .mv _ x => some (x.ev env,h)
  | .mvs x => match x.ev env with
    | .str s => some (.str s,h)
    | _ => none
  | .pick c a b => match c.ev env with
    | .bool t => some (if t then a.ev env else b.ev env,h)
    | _ => none
  | .alloc zs => some (.ptr h.length 0,h ++ [.cells true zs])
  | .box x => let cs := (x.ev env).cells
    if cs.all LV.single then some (.ptr h.length 0,h ++ [.cells true cs]) else none
  | .build zs ps => match fillE env zs ps with
    | some cs => some (.agg cs,h)
    | none => none
  | .bslice _ len es zs ps => match fillE env zs ps with
    | some cs => some (.slice h.length 0 len es true,h ++ [.cells true cs])
    | none => none
  | .load _ ag n a => match a.ev env with
    | .ptr b off => match h[b]? with
      | some (.cells _ cs) =>
        if ag then (if off + n ≤ cs.length then some (.agg ((cs.drop off).take n),h) else none)
        else match cs[off]? with
          | some v => some (v,h)
          | none => none
      | _ => none
    | _ => none
  | .store n a x => match a.ev env with
    | .ptr b off => match h[b]? with
      | some (.cells rw cs) =>
        let vs := (x.ev env).cells
        if rw ∧ lo ≤ b ∧ vs.length = n ∧ off + n ≤ cs.length ∧ vs.all LV.single then some (.tup [],h.set b (.cells rw (splice cs off vs))) else none
      | _ => none
    | _ => none
  | .nilchk x => match x.ev env with
    | .ptr b off => some (.ptr b off,h)
    | .func f caps => some (.func f caps,h)
    | _ => none
  | .bin op x y => match binE op (x.ev env) (y.ev env) with
    | some v => some (v,h)
    | none => none
  | .eqv ng k x y => match eqE k (x.ev env) (y.ev env) with
    | some b => some (.bool (if ng then !b else b),h)
    | none => none
  | .un op x => match unE op (x.ev env) with
    | some v => some (v,h)
    | none => none
  | .conv k x => match x.ev env with
    | .int _ n => some (.int k (k.wrap n),h)
    | _ => none
  | .b2s x => match x.ev env with
    | .nilslice => some (.str [],h)
    | .slice n off len es f => if len = 0 then some (.str [],h) else if es = 1 then match cellsOf h (.slice n off len es f) with
        | some cs => match bytesOf cs with
          | some l => some (.str l,h)
          | none => none
        | none => none
      else none
    | _ => none
  | .s2b x => match x.ev env with
    | .str s => some (.slice h.length 0 s.length 1 false,h ++ [.cells true (s.map (fun b => .int .u8 b.toNat))])
    | _ => none
  | .slc es x lo' hi mx => match x.ev env with
    | .str s => if es = 0 ∧ mx.isNone then match bnds env s.length lo' hi with
        | some (l,e) => some (.str ((s.take e).drop l),h)
        | none => none
      else none
    | .nilslice => if es = 0 then none else match bnds env 0 lo' hi with
      | some _ => match mx with
        | none => some (.nilslice,h)
        | some m => if asNat (m.ev env) = some 0 then some (.nilslice,h) else none
      | none => none
    | .slice n off len es' full => if es' = es ∧ es ≠ 0 then match bnds env len lo' hi with
        | some (l,e) => match mx with
          | none => some (.slice n (off + l * es) (e - l) es (full && e == len),h)
          | some m => match asNat (m.ev env) with
            | some m => if e ≤ m ∧ m ≤ len then some (.slice n (off + l * es) (e - l) es (e == m),h) else none
            | none => none
        | none => none
      else if es ≠ 0 ∧ len = 0 then match bnds env 0 lo' hi with
        | some _ => match mx with
          | none => some (.slice n off 0 es' full,h)
          | some m => if asNat (m.ev env) = some 0 then some (.slice n off 0 es' true,h) else none
        | none => none
      else none
    | _ => none
  | .slcA len es x lo' hi => match x.ev env with
    | .ptr n off => match bnds env len lo' hi with
      | some (l,e) => match h[n]? with
        | some (.cells _ cs) => if off + len * es ≤ cs.length then some (.slice n (off + l * es) (e - l) es (e == len),h) else none
        | _ => none
      | none => none
    | _ => none
  | .fieldAddr d x => match x.ev env with
    | .ptr n off => some (.ptr n (off + d),h)
    | _ => none
  | .field ag off n x => match x.ev env with
    | .agg cs => if ag then (if off + n ≤ cs.length then some (.agg ((cs.drop off).take n),h) else none)
      else match cs[off]? with
        | some v => some (v,h)
        | none => none
    | _ => none
  | .indexAddr es x i => match x.ev env,asNat (i.ev env) with
    | .slice n off len es' _,some j => if es' = es ∧ j < len then some (.ptr n (off + j * es),h) else none
    | _,_ => none
  | .indexAddrA len es x i => match x.ev env,asNat (i.ev env) with
    | .ptr n off,some j => if j < len then some (.ptr n (off + j * es),h) else none
    | _,_ => none
  | .index x i => match x.ev env,asNat (i.ev env) with
    | .str s,some j => match s[j]? with
      | some b => some (.int .u8 b.toNat,h)
      | none => none
    | _,_ => none
  | .indexA ag len es x i => match x.ev env,asNat (i.ev env) with
    | .agg cs,some j => if j < len then
        if ag then (if j * es + es ≤ cs.length then some (.agg ((cs.drop (j * es)).take es),h) else none)
        else match cs[j * es]? with
          | some v => some (v,h)
          | none => none
      else none
    | _,_ => none
  | .extract i x => match x.ev env with
    | .tup vs => match vs[i]? with
      | some v => some (v,h)
      | none => none
    | _ => none
  | .lenS x => match x.ev env with
    | .str s => some (.int .i64 s.length,h)
    | _ => none
  | .lenL x => match x.ev env with
    | .nilslice => some (.int .i64 0,h)
    | .slice _ _ len _ _ => some (.int .i64 len,h)
    | _ => none
  | .lenM x => match x.ev env with
    | .nilmap => some (.int .i64 0,h)
    | .map n => match h[n]? with
      | some (.map es) => some (.int .i64 es.length,h)
      | _ => none
    | _ => none
  | .lenC n => some (.int .i64 n,h)
  | .min2 xs => match xs.map (X.ev env) with
    | v :: r => match mmE false v r with
      | some v => some (v,h)
      | none => none
    | [] => none
  | .max2 xs => match xs.map (X.ev env) with
    | v :: r => match mmE true v r with
      | some v => some (v,h)
      | none => none
    | [] => none
  | .append ap es bytes x y => appendE ap lo es bytes (x.ev env) (y.ev env) h
  | .copy es x y => match srcOf es h (y.ev env) with
    | some (src,k) => match x.ev env with
      | .nilslice => some (.int .i64 0,h)
      | .slice n off len es' _ => if es' = es then match h[n]? with
          | some (.cells rw cs) =>
            let m := min k len
            if m = 0 then some (.int .i64 0,h)
            else if rw ∧ lo ≤ n ∧ off + len * es ≤ cs.length then some (.int .i64 m,h.set n (.cells rw (splice cs off (src.take (m * es))))) else none
          | _ => none
        else none
      | _ => none
    | none => none
  | .make _ es bytes zs l c => match l.ev env,c.ev env with
    | .int .i64 l,.int .i64 c =>
      if 0 ≤ l ∧ l = c ∧ c ≤ 281474976710656 ∧ bytes * c ≤ 281474976710656 then
        some (.slice h.length 0 l.toNat es true,h ++ [.cells true (rows zs l.toNat)]) else none
    | _,_ => none
  | .mkmap => some (.map h.length,h ++ [.map []])
  | .lookup zero ok m k => if simpleKey (k.ev env) then match m.ev env with
      | .nilmap => some (if ok then .tup [zero,.bool false] else zero,h)
      | .map n => match h[n]? with
        | some (.map es) => match findE (k.ev env) es with
          | some (some v) => some (if ok then .tup [v,.bool true] else v,h)
          | some none => some (if ok then .tup [zero,.bool false] else zero,h)
          | none => none
        | _ => none
      | _ => none
    else none
  | .update m k v => if simpleKey (k.ev env) then match m.ev env with
      | .map n => match h[n]? with
        | some (.map es) => if lo ≤ n then match updE (k.ev env) (v.ev env) es with
            | some es' => some (.tup [],h.set n (.map es'))
            | none => none
          else none
        | _ => none
      | _ => none
    else none
  | .mkfunc f caps => some (.func f (caps.map (X.ev env)),h)
  | .call _ f args => cf lo f (args.map (X.ev env)) h
  | .callv f args => match f.ev env with
    | .func g caps => cf lo g (args.map (X.ev env) ++ caps) h
    | _ => none
  | .ext k xs => match extE k (xs.map fun x => argE h (x.ev env)) with
    | some v => some (v,h)
    | none => none
  | .rewr k es g x f => match f.ev env with
    | .func g' [] => if g' = g then match x.ev env with
        | .nilslice => some (.tup [],h)
        | .slice n off len es' _ => if len = 0 then some (.tup [],h) else if es' = es then match h[n]? with
            | some (.cells rw cs) => if rw = true ∧ lo ≤ n ∧ off + len * es ≤ cs.length then match rwE k len ((cs.drop off).take (len * es)) with
                | some out => if out.length = len * es ∧ out.all scLV = true then some (.tup [],h.set n (.cells rw (splice cs off out))) else none
                | none => none
              else none
            | _ => none
          else none
        | _ => none
      else none
    | _ => none
  | .appendZ es bytes zs x n => match x.ev env,n.ev env with
    | .nilslice,.int .i64 n => if 0 < n ∧ (n.toNat + 512) * bytes ≤ 140737488355328 then some (.slice h.length 0 n.toNat es false,h ++ [.cells true (rows zs n.toNat)]) else none
    | _,_ => none
  | .capL x => match x.ev env with
    | .nilslice => some (.int .i64 0,h)
    | .slice _ _ len _ full => if full = true then some (.int .i64 len,h) else none
    | _ => none
  | .concat es bytes x => match x.ev env with
    | .slice n off 2 1 _ => match h[n]? with
      | some (.cells _ cs) => match cs[off]?,cs[off + 1]? with
        | some a,some b => match srcOf es h a,srcOf es h b with
          | some (ca,ka),some (cb,kb) => if ka + kb = 0 then some (.nilslice,h)
            else if (ka + kb + 512) * bytes ≤ 140737488355328 then some (.slice (h.length + if ka = 0 ∨ kb = 0 then 1 else 2) 0 (ka + kb) es false,h ++ (if ka = 0 ∨ kb = 0 then [.dead] else [.dead,.dead]) ++ [.cells true (ca ++ cb)]) else none
          | _,_ => none
        | _,_ => none
      | _ => none
    | _ => none
  | .stuck => none

def putE (env : Env) (d : Option Nat) (v : LV) : Env :=
  match d with
  | some d => env.set d v
  | none => env

inductive Out where
  | norm
  | exit (id : Nat)
  | ret
  deriving DecidableEq

def keepE (keep : List Nat) (env : Env) : Env := env.mapIdx fun i v => if keep.contains i then v else .undef

/-! ### what is said of all runs -/

/-- A call: every result of it is as Q says. -/
abbrev CallS := FuncId → List LV → Heap → (LV → Heap → Prop) → Prop

def noCall : CallF := fun _ _ _ _ => none

def opS (cs : CallS) (o : LOp) (env : Env) (h : Heap) (Q : LV → Heap → Prop) : Prop :=
  match o with
  | .call _ f args => cs f (args.map (X.ev env)) h Q
  | .callv f args => match f.ev env with
    | .func g caps => cs g (args.map (X.ev env) ++ caps) h Q
    | _ => False
  | o => ∃ v h',opE noCall 0 o env h = some (v,h') ∧ Q v h'

def operS (cs : CallS) (o : LOper) (env : Env) (h : Heap) (Q : Env → Heap → Prop) : Prop :=
  match o.guard with
  | none => opS cs o.op env h fun v h' => Q (putE env o.dst v) h'
  | some (g,want) => match env.getD g .undef with
    | .bool b => if b = want then opS cs o.op env h fun v h' => Q (putE env o.dst v) h' else Q (putE env o.dst (.tup [])) h
    | .tup _ => Q (putE env o.dst (.tup [])) h
    | _ => False

def opsS (cs : CallS) : List LOper → Env → Heap → (Env → Heap → Prop) → Prop
  | [],env,h,Q => Q env h
  | o :: r,env,h,Q => operS cs o env h fun env' h' => opsS cs r env' h' Q

/-- In every order that the masks allow; 'done': what is done. -/
def dopsS (cs : CallS) (bs : List Nat) (l : List LOper) (Q : Env → Heap → Prop) : Nat → (Nat → Bool) → Env → Heap → Prop
  | 0,done,env,h => (∀ i,i < l.length → done i = true) → Q env h
  | n + 1,done,env,h => ((∀ i,i < l.length → done i = true) → Q env h) ∧ ∀ (i : Nat) (o : LOper),l[i]? = some o → done i = false → (∀ j,(bs.getD i 0).testBit j = true → done j = true) →
      operS cs o env h fun env' h' => dopsS cs bs l Q n (fun j => done j || j == i) env' h'

def iterS (body : Env → Heap → (Out → Env → Heap → Prop) → Prop) : Nat → Env → Heap → (Out → Env → Heap → Prop) → Prop
  | 0,_,_,_ => False
  | k + 1,env,h,Q => body env h fun o env' h' => match o with
    | .norm => iterS body k env' h' Q
    | o => Q o env' h'

def codeS (cs : CallS) (K : Nat) : LCode → Env → Heap → (Out → Env → Heap → Prop) → Prop
  | .skip,env,h,Q => Q .norm env h
  | .ops l,env,h,Q => opsS cs l env h fun env' h' => Q .norm env' h'
  | .dops bs l,env,h,Q => dopsS cs bs l (fun env' h' => Q .norm env' h') l.length (fun _ => false) env h
  | .seq a b,env,h,Q => codeS cs K a env h fun o env' h' => match o with
    | .norm => codeS cs K b env' h' Q
    | o => Q o env' h'
  | .cond c a b,env,h,Q => match c.ev env with
    | .bool t => if t then codeS cs K a env h Q else codeS cs K b env h Q
    | _ => False
  | .block id c,env,h,Q => codeS cs K c env h fun o env' h' => match o with
    | .exit j => if j = id then Q .norm env' h' else Q (.exit j) env' h'
    | o => Q o env' h'
  | .loop keep c,env,h,Q => iterS (fun env h Q => codeS cs K c (keepE keep env) h Q) K env h Q
  | .exit id,env,h,Q => Q (.exit id) env h
  | .ret,env,h,Q => Q .ret env h

def resE (env : Env) (h : Heap) : LRes → Option LV
  | .tmp t => some (env.getD t .undef)
  | .cell a ag n => match env.getD a .undef with
    | .ptr b off => match h[b]? with
      | some (.cells _ cs) =>
        if ag then (if off + n ≤ cs.length then some (.agg ((cs.drop off).take n)) else none) else cs[off]?
      | _ => none
    | _ => none

def resultsE (env : Env) (h : Heap) : List LRes → Option (List LV)
  | [] => some []
  | r :: rs => match resE env h r,resultsE env h rs with
    | some v,some vs => some (v :: vs)
    | _,_ => none

def oneOf : List LV → LV
  | [v] => v
  | vs => .tup vs

def bodyS (cs : CallS) (K : Nat) (f : LFunc) (args : List LV) (h : Heap) (Q : LV → Heap → Prop) : Prop :=
  args.length = f.nargs ∧ codeS cs K f.body (args ++ List.replicate (f.ntmps - f.nargs) (.tup [])) h fun o env h' =>
    (o = .norm ∨ o = .ret) ∧ ∃ vs,resultsE env h' f.results = some vs ∧ Q (oneOf vs) h'

/-- A program: functions by number. -/
abbrev LProg := FuncId → Option LFunc

def callS (p : LProg) : Nat → CallS
  | 0,_,_,_,_ => False
  | K + 1,f,args,h,Q => match p f with
    | none => False
    | some fn => bodyS (callS p K) (K + 1) fn args h Q

end Lg
