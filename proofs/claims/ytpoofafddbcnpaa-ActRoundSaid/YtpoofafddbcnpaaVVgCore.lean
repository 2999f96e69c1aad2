/- The machine of values: slices that nobody writes are lists; what is written lies in blocks. -/
import Derived.Test.YtpoofafddbcnpaaVLgTop
namespace Vg
open Go Lg

/-- Who may append to a list: nobody else than a copy (s),anybody,for it is nil or full (f),its one holder (o). -/
inductive LMode where
  | s | f | o
  deriving DecidableEq

inductive VV where
  | undef
  | bool (b : Bool)
  | int (k : IntKind) (n : Int)
  | str (s : List UInt8)
  | ptr (n off : Nat)
  | cptr (cs : List VV) (off : Nat)
  | nilptr
  | list (m : LMode) (rows : List (List VV))
  | hs (n off len es : Nat)
  | map (n : Nat)
  | nilmap
  | func (f : FuncId) (caps : List VV)
  | nilfunc
  | iface (t : TypeId) (v : VV)
  | nilif
  | agg (cs : List VV)
  | tup (vs : List VV)
  deriving Inhabited

inductive VBlk where
  | cells (rw : Bool) (cs : List VV)
  | map (es : List (VV × VV))
  | dead
  deriving Inhabited

abbrev VHeap := List VBlk
abbrev VEnv := List VV

def VV.cells : VV → List VV
  | .agg cs => cs
  | v => [v]
def VV.single : VV → Bool
  | .agg _ | .tup _ | .undef => false
  | _ => true

mutual
/-- Its blocks lie below a mark. -/
def VV.low (k : Nat) : VV → Bool
  | .ptr n _ => decide (n < k)
  | .hs n _ _ _ => decide (n < k)
  | .map n => decide (n < k)
  | .func _ cs => lowL k cs
  | .agg cs => lowL k cs
  | .tup cs => lowL k cs
  | .iface _ v => v.low k
  | _ => true
def lowL (k : Nat) : List VV → Bool
  | [] => true
  | v :: r => v.low k && lowL k r
end
abbrev VV.free (v : VV) : Bool := v.low 0

mutual
/-- Of a constant. -/
def ofLV : LV → VV
  | .bool b => .bool b
  | .int k n => .int k n
  | .str s => .str s
  | .nilptr => .nilptr
  | .nilslice => .list .f []
  | .nilmap => .nilmap
  | .nilfunc => .nilfunc
  | .nilif => .nilif
  | .func f cs => match cs with
    | [] => .func f []
    | _ => .undef
  | .agg cs => .agg (ofLVs cs)
  | .tup cs => .tup (ofLVs cs)
  | _ => .undef
def ofLVs : List LV → List VV
  | [] => []
  | v :: r => ofLV v :: ofLVs r
end

/-- A scalar. -/
def VV.sc : VV → LV
  | .bool b => .bool b
  | .int k n => .int k n
  | .str s => .str s
  | _ => .undef

/-- Without the right to append. -/
def VV.sh : VV → VV
  | .list .o r => .list .s r
  | v => v
/-- With the right to append. -/
def VV.ow : VV → VV
  | .list .f r => .list .o r
  | v => v

mutual
/-- A list as others see it. -/
def nrm : VV → VV
  | .list _ r => .list .s r
  | .agg cs => .agg (nrmL cs)
  | .tup cs => .tup (nrmL cs)
  | v => v
def nrmL : List VV → List VV
  | [] => []
  | v :: r => nrm v :: nrmL r
end

def vr (env : VEnv) : X → VV
  | .t n => env.getD n .undef
  | .c v => ofLV v
def vs (env : VEnv) (x : X) : VV := (vr env x).sh

/-- As cells of a block. -/
def stV : VV → List VV
  | .agg cs => cs.map fun c => c.sh.ow
  | v => [v.ow]

def vsplice (cs : List VV) (off : Nat) (vs : List VV) : List VV := cs.take off ++ vs ++ cs.drop (off + vs.length)

def fillV (env : VEnv) : List VV → List (Nat × Nat × X) → Option (List VV)
  | cs,[] => some cs
  | cs,(off,size,x) :: r =>
    let v := (vs env x).cells
    if v.length = size ∧ off + size ≤ cs.length ∧ v.all VV.single then fillV env (vsplice cs off v) r else none

/-- Cells,so many to a row. -/
def chunk (es : Nat) : Nat → List VV → List (List VV)
  | 0,_ => []
  | n + 1,cs => cs.take es :: chunk es n (cs.drop es)

def nat? : VV → Option Nat
  | .int _ n => if 0 ≤ n then some n.toNat else none
  | _ => none
def vbnds (env : VEnv) (len : Nat) (lo hi : Option X) : Option (Nat × Nat) :=
  let h := match hi with | some x => nat? (vr env x) | none => some len
  let l := match lo with | some x => nat? (vr env x) | none => some 0
  match l,h with
  | some l,some h => if l ≤ h ∧ h ≤ len then some (l,h) else none
  | _,_ => none

/-- Rows of what is read whole: a list,a slice in a block,the bytes of a string. -/
def rowsOf (es : Nat) (h : VHeap) : VV → Option (List (List VV))
  | .list _ r => if r.all (fun x => x.length == es) then some r else none
  | .hs n off len es' => if es' = es then match h[n]? with
      | some (.cells _ cs) => if off + len * es ≤ cs.length ∧ lowL 0 cs then some (chunk es len (nrmL (cs.drop off))) else none
      | _ => none
    else none
  | .str s => if es = 1 then some (s.map fun b => [.int .u8 b.toNat]) else none
  | _ => none

def appendV (ap : Bool) (lo es bytes : Nat) (x y : VV) (h : VHeap) : Option (VV × VHeap) :=
  match rowsOf es h y with
  | none => none
  | some new =>
    match ap with
    | true => match x with
      | .list m r => if m ≠ .s ∧ r.all (fun x => x.length == es) ∧ (new = [] ∨ (r.length + new.length + 512) * bytes ≤ 140737488355328) then some (.list .o (r ++ new),h) else none
      | _ => none
    | false => match x with
      | .list .f r => if r.all (fun x => x.length == es) ∧ new ≠ [] ∧ (r.length + new.length + 512) * bytes ≤ 140737488355328 then
          some (.hs h.length 0 (r.length + new.length) es,h ++ [.cells true ((r.flatten ++ new.flatten).map fun c => c.sh.ow)]) else none
      | .hs n off len es' => if es' = es ∧ lo ≤ n ∧ new ≠ [] ∧ (len + new.length + 512) * bytes ≤ 140737488355328 then match h[n]? with
          | some (.cells true cs) => if off + len * es ≤ cs.length then
              some (.hs h.length 0 (len + new.length) es,h.set n .dead ++ [.cells true (((cs.drop off).take (len * es) ++ new.flatten).map fun c => c.sh.ow)]) else none
          | _ => none
        else none
      | _ => none

def isSl : VV → Bool
  | .list _ _ | .hs _ _ _ _ => true
  | _ => false

def keyV : VV → VV → Option Bool
  | .int k a,.int k' b => if k = k' then some (a == b) else none
  | .str a,.str b => some (a == b)
  | .bool a,.bool b => some (a == b)
  | _,_ => none
def findV (k : VV) : List (VV × VV) → Option (Option VV)
  | [] => some none
  | (k',v) :: r => match keyV k k' with
    | some true => some (some v)
    | some false => findV k r
    | none => none
def updV (k v : VV) : List (VV × VV) → Option (List (VV × VV))
  | [] => some [(k,v)]
  | (k',v') :: r => match keyV k k' with
    | some true => some ((k',v) :: r)
    | some false => match updV k v r with
      | some r' => some ((k',v') :: r')
      | none => none
    | none => none
def skey : VV → Bool
  | .int _ _ => true
  | _ => false

/-- For a comparison. -/
def cmpV : VV → LV
  | .bool b => .bool b
  | .int k n => .int k n
  | .str s => .str s
  | .ptr _ _ => .ptr 0 0
  | .cptr _ _ => .ptr 0 0
  | .nilptr => .nilptr
  | .list _ (_ :: _) => .slice 0 0 0 0 false
  | .map _ => .map 0
  | .nilmap => .nilmap
  | .func _ _ => .func 0 []
  | .nilfunc => .nilfunc
  | .iface t _ => .iface t .undef
  | .nilif => .nilif
  | .agg cs => .agg (cs.map VV.sc)
  | _ => .undef
def cmpX (env : VEnv) : X → LV
  | .t n => cmpV (env.getD n .undef)
  | .c v => v

/-- What a function of the library takes. -/
def argV : VV → LV
  | .list _ r => if r.all (fun x => x.length == 1) then .agg (r.flatten.map VV.sc) else .undef
  | .bool b => .bool b
  | .int k n => .int k n
  | .str s => .str s
  | _ => .undef

abbrev VCall := Nat → FuncId → List VV → VHeap → Option (VV × VHeap)

def opV (cf : VCall) (lo : Nat) (o : LOp) (env : VEnv) (h : VHeap) : Option (VV × VHeap) :=
  match o with
  | .mv m x => some (if m then (vr env x).ow else vs env x,h)
  | .mvs x => match vr env x with
    | .str s => some (.str s,h)
    | _ => none
  | .pick c a b => match vr env c with
    | .bool t => some (if t then vs env a else vs env b,h)
    | _ => none
  | .alloc zs => some (.ptr h.length 0,h ++ [.cells true ((ofLVs zs).map VV.ow)])
  | .box x => let cs := (vs env x).cells
    if cs.all VV.single then some (.ptr h.length 0,h ++ [.cells true (cs.map fun c => c.sh.ow)]) else none
  | .build zs ps => match fillV env (ofLVs zs) ps with
    | some cs => some (.agg cs,h)
    | none => none
  | .bslice mt len es zs ps => match fillV env (ofLVs zs) ps with
    | some cs =>
      if mt then some (.hs h.length 0 len es,h ++ [.cells true (cs.map fun c => c.sh.ow)])
      else if lowL 0 cs ∧ cs.length = len * es then some (.list .f (chunk es len (nrmL cs)),h) else none
    | none => none
  | .load m ag n a => match vr env a with
    | .ptr b off => match h[b]? with
      | some (.cells rw cs) =>
        if ag then (if off + n ≤ cs.length then some (.agg (((cs.drop off).take n).map VV.sh),h) else none)
        else match cs[off]? with
          | some v => if m then (if rw ∧ lo ≤ b then some (v.ow,h.set b (.cells rw (cs.set off v.sh))) else none) else some (v.sh,h)
          | none => none
      | _ => none
    | .cptr cs off =>
      if ag then (if off + n ≤ cs.length then some (.agg ((cs.drop off).take n),h) else none)
      else match cs[off]? with
        | some v => some (v.sh,h)
        | none => none
    | _ => none
  | .store n a x => match vr env a with
    | .ptr b off => match h[b]? with
      | some (.cells rw cs) =>
        let vs := stV (vr env x)
        if rw ∧ lo ≤ b ∧ vs.length = n ∧ off + n ≤ cs.length ∧ vs.all VV.single then
          if lowL (b + 1) vs then some (.tup [],h.set b (.cells rw (vsplice cs off vs)))
          else match a with
            | .t _ => some (.tup [],h.set b .dead ++ [.cells rw (vsplice cs off vs)])
            | .c _ => none
        else none
      | _ => none
    | _ => none
  | .nilchk x => match vr env x with
    | .ptr b off => some (.ptr b off,h)
    | .cptr cs off => some (.cptr cs off,h)
    | .func f caps => some (.func f caps,h)
    | _ => none
  | .bin op x y => match binE op (vr env x).sc (vr env y).sc with
    | some v => some (ofLV v,h)
    | none => none
  | .eqv ng k x y => match eqE k (cmpX env x) (cmpX env y) with
    | some b => some (.bool (if ng then !b else b),h)
    | none => none
  | .un op x => match unE op (vr env x).sc with
    | some v => some (ofLV v,h)
    | none => none
  | .conv k x => match vr env x with
    | .int _ n => some (.int k (k.wrap n),h)
    | _ => none
  | .b2s x => if isSl (vr env x) then match rowsOf 1 h (vr env x) with
    | some r => match bytesOf (r.flatten.map VV.sc) with
      | some l => some (.str l,h)
      | none => none
    | none => none
    else none
  | .s2b x => match vr env x with
    | .str s => some (.list .s (s.map fun b => [.int .u8 b.toNat]),h)
    | _ => none
  | .slc es x lo' hi mx => match vr env x with
    | .str s => if es = 0 ∧ mx.isNone then match vbnds env s.length lo' hi with
        | some (l,e) => some (.str ((s.take e).drop l),h)
        | none => none
      else none
    | .list m r => if es ≠ 0 ∧ r.all (fun x => x.length == es) then match vbnds env r.length lo' hi with
        | some (l,e) => match mx with
          | none => some (.list (if m = .f ∧ e = r.length then .f else .s) ((r.take e).drop l),h)
          | some c => match nat? (vr env c) with
            | some c => if e ≤ c ∧ c ≤ r.length then some (.list (if e = c then .f else .s) ((r.take e).drop l),h) else none
            | none => none
        | none => none
      else none
    | .hs n off len es' => if es' = es ∧ es ≠ 0 ∧ mx.isNone then match vbnds env len lo' hi with
        | some (l,e) => some (.hs n (off + l * es) (e - l) es,h)
        | none => none
      else none
    | _ => none
  | .slcA len es x lo' hi => match vr env x with
    | .ptr n off => match h[n]? with
      | some (.cells _ cs) => if off + len * es ≤ cs.length then match vbnds env len lo' hi with
          | some (l,e) => some (.hs n (off + l * es) (e - l) es,h)
          | none => none
        else none
      | _ => none
    | _ => none
  | .fieldAddr d x => match vr env x with
    | .ptr n off => some (.ptr n (off + d),h)
    | .cptr cs off => some (.cptr cs (off + d),h)
    | _ => none
  | .field ag off n x => match vr env x with
    | .agg cs => if ag then (if off + n ≤ cs.length then some (.agg ((cs.drop off).take n),h) else none)
      else match cs[off]? with
        | some v => some (v.sh,h)
        | none => none
    | _ => none
  | .indexAddr es x i => match nat? (vr env i) with
    | some j => match vr env x with
      | .list _ r => match r[j]? with
        | some row => if row.length = es then some (.cptr row 0,h) else none
        | none => none
      | .hs n off len es' => if es' = es ∧ j < len then some (.ptr n (off + j * es),h) else none
      | _ => none
    | none => none
  | .indexAddrA len es x i => match vr env x,nat? (vr env i) with
    | .ptr n off,some j => if j < len then some (.ptr n (off + j * es),h) else none
    | .cptr cs off,some j => if j < len then some (.cptr cs (off + j * es),h) else none
    | _,_ => none
  | .index x i => match vr env x,nat? (vr env i) with
    | .str s,some j => match s[j]? with
      | some b => some (.int .u8 b.toNat,h)
      | none => none
    | _,_ => none
  | .indexA ag len es x i => match vr env x,nat? (vr env i) with
    | .agg cs,some j => if j < len then
        if ag then (if j * es + es ≤ cs.length then some (.agg ((cs.drop (j * es)).take es),h) else none)
        else match cs[j * es]? with
          | some v => some (v.sh,h)
          | none => none
      else none
    | _,_ => none
  | .extract i x => match vr env x with
    | .tup vs => match vs[i]? with
      | some v => some (v.sh,h)
      | none => none
    | _ => none
  | .lenS x => match vr env x with
    | .str s => some (.int .i64 s.length,h)
    | _ => none
  | .lenL x => match vr env x with
    | .list _ r => some (.int .i64 r.length,h)
    | .hs _ _ len _ => some (.int .i64 len,h)
    | _ => none
  | .lenM x => match vr env x with
    | .nilmap => some (.int .i64 0,h)
    | .map n => match h[n]? with
      | some (.map es) => some (.int .i64 es.length,h)
      | _ => none
    | _ => none
  | .lenC n => some (.int .i64 n,h)
  | .min2 xs => match xs.map (fun x => (vr env x).sc) with
    | v :: r => match mmE false v r with
      | some v => some (ofLV v,h)
      | none => none
    | [] => none
  | .max2 xs => match xs.map (fun x => (vr env x).sc) with
    | v :: r => match mmE true v r with
      | some v => some (ofLV v,h)
      | none => none
    | [] => none
  | .append ap es bytes x y => appendV ap lo es bytes (vr env x) (vr env y) h
  | .copy es x y => match vr env x,rowsOf es h (vr env y) with
    | .hs n off len es',some new =>
      let m := min new.length len
      if es' = es then
        match h[n]? with
          | some (.cells rw cs) => if m = 0 then some (.int .i64 0,h)
            else if rw ∧ lo ≤ n ∧ off + len * es ≤ cs.length then some (.int .i64 m,h.set n (.cells rw (vsplice cs off ((new.take m).flatten.map fun c => c.sh.ow)))) else none
          | _ => none
      else none
    | _,_ => none
  | .make mt es bytes zs l c => match vr env l,vr env c with
    | .int .i64 l,.int .i64 c =>
      if 0 ≤ l ∧ l = c ∧ c ≤ 281474976710656 ∧ bytes * c ≤ 281474976710656 then
        if mt = false then (if zs.length = es then some (.list .f (List.replicate l.toNat (nrmL (ofLVs zs))),h) else none) else some (.hs h.length 0 l.toNat es,h ++ [.cells true ((ofLVs (rows zs l.toNat)).map VV.ow)]) else none
    | _,_ => none
  | .mkmap => some (.map h.length,h ++ [.map []])
  | .lookup zero ok m k => if skey (vr env k) then match vr env m with
      | .nilmap => some (if ok then .tup [ofLV zero,.bool false] else ofLV zero,h)
      | .map n => match h[n]? with
        | some (.map es) => match findV (vr env k) es with
          | some (some v) => some (if ok then .tup [v,.bool true] else v.sh,h)
          | some none => some (if ok then .tup [ofLV zero,.bool false] else ofLV zero,h)
          | none => none
        | _ => none
      | _ => none
    else none
  | .update m k v => if skey (vr env k) then match vr env m with
      | .map n => match h[n]? with
        | some (.map es) => if lo ≤ n ∧ (vs env v).free then match updV (vr env k) (vs env v) es with
            | some es' => some (.tup [],h.set n (.map es'))
            | none => none
          else none
        | _ => none
      | _ => none
    else none
  | .mkfunc f caps => some (.func f (caps.map (vs env)),h)
  | .call pu f args => if pu = true then
      (match cf 0 f (nrmL (args.map (vs env))) [] with
      | some (v,_) => if lowL 0 (nrmL (args.map (vs env))) ∧ v.low 0 then some (v,h) else none
      | none => none)
    else cf lo f (nrmL (args.map (vs env))) h
  | .callv f args => match vr env f with
    | .func g caps => cf lo g (nrmL (args.map (vs env) ++ caps)) h
    | _ => none
  | .ext k xs => match extE k (xs.map fun x => argV (vr env x)) with
    | some v => some (ofLV v,h)
    | none => none
  | .rewr k es g x f => match vr env f with
    | .func g' [] => if g' = g then match vr env x with
        | .list _ [] => some (.tup [],h)
        | .hs n off len es' => if len = 0 then some (.tup [],h) else if es' = es then match h[n]? with
            | some (.cells rw cs) => if rw = true ∧ lo ≤ n ∧ off + len * es ≤ cs.length then match rwE k len (((cs.drop off).take (len * es)).map VV.sc) with
                | some out => if out.length = len * es ∧ out.all scLV = true then some (.tup [],h.set n (.cells rw (vsplice cs off (ofLVs out)))) else none
                | none => none
              else none
            | _ => none
          else none
        | _ => none
      else none
    | _ => none
  | .appendZ _ _ _ _ _ => none
  | .capL x => match vr env x with
    | .list .f r => some (.int .i64 r.length,h)
    | _ => none
  | .concat es bytes x => match vr env x with
    | .list _ [[a],[b]] => match rowsOf es h a,rowsOf es h b with
      | some ra,some rb => if (ra.length + rb.length + 512) * bytes ≤ 140737488355328 then some (.list .s (ra ++ rb),h) else none
      | _,_ => none
    | _ => none
  | .stuck => none

/-- What an operand loses to an operation. -/
def loses : LOp → Option Nat
  | .mv true (.t n) => some n
  | .append _ _ _ (.t n) _ => some n
  | .store _ _ (.t n) => some n
  | _ => none
def strip (o : LOp) (env : VEnv) : VEnv :=
  match loses o with
  | some n => env.set n (env.getD n .undef).sh
  | none => env

/-- The slot whose pointer goes along when a block moves to the end of the heap. -/
def mvS : LOp → Option Nat
  | .store _ (.t a) _ => some a
  | _ => none
/-- A block in which a younger one is written moves to the end of the heap. -/
def mvF (env : VEnv) (h : VHeap) (a x : X) (e : VEnv) : VEnv :=
  match a with
  | .t a => match env.getD a .undef with
    | .ptr b off => if lowL (b + 1) (stV (vr env x)) then e else e.set a (.ptr h.length off)
    | _ => e
  | .c _ => e
def isStore : LOp → Bool
  | .store .. => true
  | _ => false
def post (o : LOp) (env : VEnv) (h : VHeap) : VEnv :=
  match o with
  | .store n a x => mvF env h a x (strip (.store n a x) env)
  | o => strip o env

def putV (env : VEnv) (d : Option Nat) (v : VV) : VEnv :=
  match d with
  | some d => env.set d v
  | none => env

def operV (cf : VCall) (lo : Nat) (o : LOper) (env : VEnv) (h : VHeap) : Option (VEnv × VHeap) :=
  match o.guard with
  | none => match opV cf lo o.op env h with
    | some (v,h') => some (putV (post o.op env h) o.dst v,h')
    | none => none
  | some (g,want) => match env.getD g .undef with
    | .bool b =>
      if b = want then match opV cf lo o.op env h with
        | some (v,h') => some (putV (post o.op env h) o.dst v,h')
        | none => none
      else some (putV env o.dst (.tup []),h)
    | .tup _ => some (putV env o.dst (.tup []),h)
    | _ => none

def opsV (cf : VCall) (lo : Nat) : List LOper → VEnv → VHeap → Option (VEnv × VHeap)
  | [],env,h => some (env,h)
  | o :: r,env,h => match operV cf lo o env h with
    | some (env',h') => opsV cf lo r env' h'
    | none => none

def keepV (keep : List Nat) (env : VEnv) : VEnv := env.mapIdx fun i v => if keep.contains i then v else .undef

/-- Blocks that nobody names any more are dropped. -/
def trim (k : Nat) (env : VEnv) (h : VHeap) : VHeap := if lowL k env then h.take k else h

def iterV (keep : List Nat) (body : VEnv → VHeap → Option (Out × VEnv × VHeap)) : Nat → VEnv → VHeap → Option (Out × VEnv × VHeap)
  | 0,_,_ => none
  | k + 1,env,h => match body (keepV keep env) h with
    | some (.norm,env',h') => iterV keep body k (keepV keep env') (trim h.length (keepV keep env') h')
    | r => r

/-- What an operation has to do with the blocks: nothing (0),it reads (1),it changes (2). -/
def touch : LOp → Nat
  | .alloc _ | .box _ | .store .. | .copy .. | .mkmap | .update .. | .callv .. | .rewr .. | .appendZ .. => 2
  | .bslice mt .. => if mt then 2 else 0
  | .append ap .. => if ap then 1 else 2
  | .make mt .. => if mt then 2 else 0
  | .call pu .. => if pu then 0 else 2
  | .load m .. => if m then 2 else 1
  | .b2s _ | .lenM _ | .slcA .. | .lookup .. | .ext .. | .concat .. => 1
  | _ => 0
/-- The slots that an operation changes. -/
def setsOf (o : LOper) : List Nat := o.dst.toList ++ (loses o.op).toList ++ (mvS o.op).toList
/-- Operations that have to do with one another are ordered. -/
def drawC (bs : List Nat) (l : List LOper) : Bool :=
  l.zipIdx.all fun p => decide (bs.getD p.2 0 < 2 ^ p.2) && l.zipIdx.all fun q => p.2 == q.2 || cmpB bs p.2 q.2 || (
    (setsOf p.1).all (fun t => !(setsOf q.1 ++ q.1.looksAt).contains t) && !(touch p.1.op == 2 && decide (1 ≤ touch q.1.op)))

/-- Loads that are not ordered with what changes other blocks: of blocks that the region leaves as they are. -/
def isLd : LOp → Bool
  | .load false _ _ _ => true
  | _ => false
def drawW (bs : List Nat) (l : List LOper) : Bool :=
  l.zipIdx.all fun p => decide (bs.getD p.2 0 < 2 ^ p.2) && l.zipIdx.all fun q => p.2 == q.2 || cmpB bs p.2 q.2 || (
    (setsOf p.1).all (fun t => !(setsOf q.1 ++ q.1.looksAt).contains t) && !(touch p.1.op == 2 && decide (1 ≤ touch q.1.op) && !isLd q.1.op))
def ptrB : VV → Option Nat
  | .ptr n _ => some n
  | _ => none
def ldX : LOp → Option X
  | .load false _ _ x => some x
  | _ => none
def ldTs : List LOper → List Nat
  | [] => []
  | o :: l => match o.op with
    | .load false _ _ (.t n) => n :: ldTs l
    | .fieldAddr _ (.t n) => if (o.dst.toList.all fun d => (ldTs l).contains d) = true then n :: ldTs l else ldTs l
    | _ => ldTs l
def consP : VV → List Nat → List Nat
  | .ptr n _,l => n :: l
  | _,l => l
/-- Where a region looks. -/
def rootsV (L : List Nat) (env : VEnv) : List LOper → List Nat
  | [] => []
  | o :: l => match o.op with
    | .fieldAddr _ x => if (o.dst.toList.all fun d => L.contains d) = true then consP (vr env x) (rootsV L env l) else rootsV L env l
    | .load false _ _ x => consP (vr env x) (rootsV L env l)
    | _ => rootsV L env l
def okLd (wl : List Nat) (env : VEnv) (o : LOp) : Prop := match (ldX o).bind fun x => ptrB (vr env x) with
  | some n => n ∈ wl
  | none => True
open Classical in
noncomputable def opsW (cf : VCall) (lo : Nat) (wl : List Nat) : List LOper → VEnv → VHeap → Option (VEnv × VHeap)
  | [],env,h => some (env,h)
  | o :: r,env,h => match operV cf lo o env h with
    | some (env',h') => if okLd wl env o.op ∧ ∀ b ∈ wl,h'[b]? = h[b]? then opsW cf lo wl r env' h' else none
    | none => none
/-- Two operations in either order: the states must be the same. -/
def edgeR (R : Nat → Nat → Bool) (a b : Nat) : Nat → Nat → Bool := fun j i => R j i || (j == a && i == b)
def moveTo (a b : Nat) (l : List LOper) : List LOper := l.take a ++ ((l.drop (a + 1)).take (b - a) ++ ((l.drop a).take 1 ++ l.drop (b + 1)))
def toN (a b i : Nat) : Nat := if i = a then b else if a < i ∧ i ≤ b then i - 1 else i
def ofN (a b k : Nat) : Nat := if k = b then a else if a ≤ k ∧ k < b then k + 1 else k
def chkR (R : Nat → Nat → Bool) (l : List LOper) : Bool :=
  l.zipIdx.all fun p => (l.zipIdx.all fun q => !R q.2 p.2 || decide (q.2 < p.2)) && l.zipIdx.all fun q => p.2 == q.2 || (R p.2 q.2 || R q.2 p.2) || (
    (setsOf p.1).all (fun t => !(setsOf q.1 ++ q.1.looksAt).contains t) && !(touch p.1.op == 2 && decide (1 ≤ touch q.1.op)))
def drawX (bs : List Nat) (l : List LOper) (a b : Nat) : Bool :=
  decide (a < b) && decide (b < l.length) && l.zipIdx.all (fun p => decide (bs.getD p.2 0 < 2 ^ p.2)) &&
  chkR (edgeR (fun j i => (bs.getD i 0).testBit j) a b) l && chkR (fun j i => edgeR (fun j i => (bs.getD i 0).testBit j) b a (ofN a b j) (ofN a b i)) (moveTo a b l)
/-- Two operations that no mask orders. -/
def badPair (bs : List Nat) (l : List LOper) : Option (Nat × Nat) :=
  (l.zipIdx.flatMap fun p => l.zipIdx.filterMap fun q => if p.2 < q.2 ∧ cmpB bs p.2 q.2 = false ∧ (touch p.1.op = 2 ∧ 1 ≤ touch q.1.op ∨ touch q.1.op = 2 ∧ 1 ≤ touch p.1.op) then some (p.2,q.2) else none).head?
open Classical in
noncomputable def opsX (cf : VCall) (lo : Nat) (l l' : List LOper) (env : VEnv) (h : VHeap) : Option (VEnv × VHeap) :=
  match opsV cf lo l env h with
  | some r => match opsV cf lo l' env h with
    | some r' => if r = r' then some r else none
    | none => none
  | none => none
/-- Two blocks made in either order: loads need not be ordered with that. -/
def chkW (R : Nat → Nat → Bool) (l : List LOper) : Bool :=
  l.zipIdx.all fun p => (l.zipIdx.all fun q => !R q.2 p.2 || decide (q.2 < p.2)) && l.zipIdx.all fun q => p.2 == q.2 || (R p.2 q.2 || R q.2 p.2) || (
    (setsOf p.1).all (fun t => !(setsOf q.1 ++ q.1.looksAt).contains t) && !(touch p.1.op == 2 && decide (1 ≤ touch q.1.op) && !isLd q.1.op))
def drawY (bs : List Nat) (l : List LOper) (a b : Nat) : Bool :=
  decide (a < b) && decide (b < l.length) && l.zipIdx.all (fun p => decide (bs.getD p.2 0 < 2 ^ p.2)) &&
  chkW (edgeR (fun j i => (bs.getD i 0).testBit j) a b) l && chkW (fun j i => edgeR (fun j i => (bs.getD i 0).testBit j) b a (ofN a b j) (ofN a b i)) (moveTo a b l)
def isAlloc : LOp → Bool
  | .alloc _ => true
  | _ => false
def allocPair (bs : List Nat) (l : List LOper) : Option (Nat × Nat) :=
  (l.zipIdx.flatMap fun p => l.zipIdx.filterMap fun q => if p.2 < q.2 ∧ cmpB bs p.2 q.2 = false ∧ isAlloc p.1.op = true ∧ isAlloc q.1.op = true then some (p.2,q.2) else none).head?
/-- A pointer to one of two blocks,to the other one. -/
def swp (n : Nat) : VV → VV
  | .ptr k o => .ptr (if k = n then n + 1 else if k = n + 1 then n else k) o
  | v => v
def okS (n : Nat) : VV → Bool
  | .ptr k _ => decide (k < n + 2)
  | v => v.low n
def scalB (v : VV) : Bool := match v with
  | .int _ _ | .str _ | .bool _ => true
  | .list .s _ => true
  | _ => false
/-- The last two blocks,exchanged. -/
def swH (a b : List VBlk) : Prop := match a,b with
  | [.cells true c1,.cells true c2],[.cells true d1,.cells true d2] => c1 = d2 ∧ c2 = d1 ∧ d1.all scalB = true ∧ d2.all scalB = true
  | _,_ => False
def swS (m : Nat) (r r' : VEnv × VHeap) : Prop :=
  m ≤ r'.2.length - 2 ∧ 2 ≤ r'.2.length ∧ r.1 = r'.1.map (swp (r'.2.length - 2)) ∧ r'.1.all (okS (r'.2.length - 2)) = true ∧ r.2.take (r'.2.length - 2) = r'.2.take (r'.2.length - 2) ∧ swH (r.2.drop (r'.2.length - 2)) (r'.2.drop (r'.2.length - 2))
open Classical in
noncomputable def opsY (cf : VCall) (lo : Nat) (l l' : List LOper) (env : VEnv) (h : VHeap) : Option (VEnv × VHeap) :=
  match opsW cf lo (rootsV (ldTs l) env l) l env h with
  | some r => match opsW cf lo (rootsV (ldTs l') env l') l' env h with
    | some r' => if swS h.length r r' then some r else none
    | none => none
  | none => none
/-- An operation moved ahead of another one. -/
def moveBk (a b : Nat) (l : List LOper) : List LOper := l.take a ++ ((l.drop b).take 1 ++ ((l.drop a).take (b - a) ++ l.drop (b + 1)))
def drawZ (bs : List Nat) (l : List LOper) (a b : Nat) : Bool :=
  decide (a < b) && decide (b < l.length) && l.zipIdx.all (fun p => decide (bs.getD p.2 0 < 2 ^ p.2)) &&
  chkW (edgeR (fun j i => (bs.getD i 0).testBit j) a b) l && chkW (fun j i => edgeR (fun j i => (bs.getD i 0).testBit j) b a (toN a b j) (toN a b i)) (moveBk a b l)
/-- Two operations that change blocks,and that no mask orders. -/
def wrPair (bs : List Nat) (l : List LOper) : Option (Nat × Nat) :=
  (l.zipIdx.flatMap fun p => l.zipIdx.filterMap fun q => if p.2 < q.2 ∧ cmpB bs p.2 q.2 = false ∧ touch p.1.op = 2 ∧ touch q.1.op = 2 then some (p.2,q.2) else none).head?
open Classical in
noncomputable def opsZ (cf : VCall) (lo : Nat) (l l' : List LOper) (env : VEnv) (h : VHeap) : Option (VEnv × VHeap) :=
  match opsW cf lo (rootsV (ldTs l) env l) l env h with
  | some r => match opsW cf lo (rootsV (ldTs l') env l') l' env h with
    | some r' => if r = r' then some r else none
    | none => none
  | none => none
noncomputable def opsZd (cf : VCall) (lo : Nat) (bs : List Nat) (l : List LOper) (env : VEnv) (h : VHeap) : Option (VEnv × VHeap) := match wrPair bs l with
  | some (a,b) => if drawZ bs l a b = true then opsZ cf lo l (moveBk a b l) env h else none
  | none => none
noncomputable def opsYd (cf : VCall) (lo : Nat) (bs : List Nat) (l : List LOper) (env : VEnv) (h : VHeap) : Option (VEnv × VHeap) := match allocPair bs l with
  | some (a,b) => if drawY bs l a b = true then opsY cf lo l (moveTo a b l) env h else none
  | none => opsZd cf lo bs l env h
noncomputable def dopsV (cf : VCall) (lo : Nat) (bs : List Nat) (l : List LOper) (env : VEnv) (h : VHeap) : Option (VEnv × VHeap) :=
  if drawC bs l = true then opsV cf lo l env h else if drawW bs l = true then opsW cf lo (rootsV (ldTs l) env l) l env h else match badPair bs l with
    | some (a,b) => if drawX bs l a b = true then opsX cf lo l (moveTo a b l) env h else opsYd cf lo bs l env h
    | none => opsYd cf lo bs l env h

noncomputable def codeV (cf : VCall) (lo K : Nat) : LCode → VEnv → VHeap → Option (Out × VEnv × VHeap)
  | .skip,env,h => some (.norm,env,h)
  | .ops l,env,h => match opsV cf lo l env h with
    | some (env',h') => some (.norm,env',h')
    | none => none
  | .dops bs l,env,h => match dopsV cf lo bs l env h with
    | some (env',h') => some (.norm,env',h')
    | none => none
  | .seq a b,env,h => match codeV cf lo K a env h with
    | some (.norm,env',h') => codeV cf lo K b env' h'
    | r => r
  | .cond c a b,env,h => match vr env c with
    | .bool t => if t then codeV cf lo K a env h else codeV cf lo K b env h
    | _ => none
  | .block id c,env,h => match codeV cf lo K c env h with
    | some (.exit j,env',h') => if j = id then some (.norm,env',h') else some (.exit j,env',h')
    | r => r
  | .loop keep c,env,h => iterV keep (fun env h => codeV cf lo K c env h) K env h
  | .exit id,env,h => some (.exit id,env,h)
  | .ret,env,h => some (.ret,env,h)

def resV (env : VEnv) (h : VHeap) : LRes → Option VV
  | .tmp t => some (env.getD t .undef)
  | .cell a ag n => match env.getD a .undef with
    | .ptr b off => match h[b]? with
      | some (.cells _ cs) =>
        if ag then (if off + n ≤ cs.length then some (.agg ((cs.drop off).take n)) else none) else cs[off]?
      | _ => none
    | _ => none
def ressV (env : VEnv) (h : VHeap) : List LRes → Option (List VV)
  | [] => some []
  | r :: rs => match resV env h r,ressV env h rs with
    | some v,some vs => some (v :: vs)
    | _,_ => none

/-- What a call hands back: blocks that the call made are only read from now on. -/
def fzN (h : VHeap) (base : Nat) : Nat → VV → Option VV
  | 0,_ => none
  | d + 1,v => match v with
    | .list _ r => some (.list .s r)
    | .hs n off len es => if base ≤ n then match h[n]? with
        | some (.cells true cs) => if off + len * es ≤ cs.length then match ((cs.drop off).take (len * es)).mapM (fzN h base d) with
            | some cs' => if lowL 0 cs' then some (.list .s (chunk es len cs')) else none
            | none => none
          else none
        | _ => none
      else none
    | .ptr n off => if base ≤ n then match h[n]? with
        | some (.cells true cs) => match cs.mapM (fzN h base d) with
          | some cs' => if lowL 0 cs' then some (.cptr cs' off) else none
          | none => none
        | _ => none
      else none
    | .agg cs => match cs.mapM (fzN h base d) with
      | some cs' => some (.agg cs')
      | none => none
    | .tup cs => match cs.mapM (fzN h base d) with
      | some cs' => some (.tup cs')
      | none => none
    | .func f cs => match cs with
      | [] => some (.func f [])
      | _ => none
    | .map _ | .undef | .iface _ _ => none
    | v => some v
def fz (h : VHeap) (base : Nat) (v : VV) : Option VV := fzN h base 6 v

/-- How a function of the machine of values is called: on an empty heap of its own,giving no block back (pure); its one result may be appended to (own); its result may name blocks (raw). -/
structure VFunc where
  fn : LFunc
  pure : Bool
  own : Bool
  raw : Bool
  deriving Inhabited

def oneV : List VV → VV
  | [v] => v
  | vs => .tup vs

/-- The end of a call. -/
def backV (f : VFunc) (base : Nat) (v : VV) (h : VHeap) : Option (VV × VHeap) :=
  if f.raw then some (v.sh,h)
  else if f.own then match f.fn.results,v with
    | [.tmp _],.list .o r => some (.list .o r,h.take base)
    | [.tmp _],.list .f r => some (.list .o r,h.take base)
    | _,_ => none
  else match fz h base v with
    | some v => some (v,h.take base)
    | none => none

noncomputable def bodyV (cf : VCall) (lo K : Nat) (f : VFunc) (args : List VV) (h : VHeap) : Option (VV × VHeap) :=
  if args.length = f.fn.nargs then
    match codeV cf lo K f.fn.body (args ++ List.replicate (f.fn.ntmps - f.fn.nargs) (.tup [])) h with
    | some (.norm,env,h') | some (.ret,env,h') => match ressV env h' f.fn.results with
      | some vs => backV f h.length (oneV vs) h'
      | none => none
    | _ => none
  else none

mutual
/-- An argument of a pure call: slices in blocks are read as lists. -/
def snap (h : VHeap) : VV → Option VV
  | .hs n off len es => match rowsOf es h (.hs n off len es) with
    | some r => some (.list .s r)
    | none => none
  | .list _ r => some (.list .s r)
  | .agg cs => match snapL h cs with
    | some cs => some (.agg cs)
    | none => none
  | .tup cs => match snapL h cs with
    | some cs => some (.tup cs)
    | none => none
  | v => some v
def snapL (h : VHeap) : List VV → Option (List VV)
  | [] => some []
  | v :: r => match snap h v,snapL h r with
    | some v,some r => some (v :: r)
    | _,_ => none
end
mutual
/-- Names no slice in a block. -/
def noHs : VV → Bool
  | .hs _ _ _ _ => false
  | .agg cs => noHsL cs
  | .tup cs => noHsL cs
  | _ => true
def noHsL : List VV → Bool
  | [] => true
  | v :: r => noHs v && noHsL r
end
mutual
/-- Names neither blocks nor lists. -/
def VV.plain : VV → Bool
  | .bool _ | .int _ _ | .str _ | .nilptr | .nilmap | .nilfunc | .nilif => true
  | .list _ [] => true
  | .agg cs => plainL cs
  | .tup cs => plainL cs
  | _ => false
def plainL : List VV → Bool
  | [] => true
  | v :: r => v.plain && plainL r
end
abbrev VProg := FuncId → Option VFunc

/-- A call,given how bodies run. -/
def callW (p : VProg) (b : Nat → VFunc → List VV → VHeap → Option (VV × VHeap)) : VCall := fun lo f args h => match p f with
  | none => none
  | some fn =>
    if fn.pure ∧ !fn.raw then
      match snapL h args with
      | some as => match (if lowL 0 as then b 0 fn as [] else b h.length fn as h) with
        | some (v,_) => if noHsL args ∨ v.plain then some (v,h) else none
        | none => none
      | none => none
    else b lo fn (nrmL args) h
noncomputable def callV (p : VProg) : Nat → VCall
  | 0 => fun _ _ _ _ => none
  | K + 1 => callW p fun lo fn args h => bodyV (callV p K) lo (K + 1) fn args h

/-- Cells that are scalars. -/
def scal (v : VV) : Bool := match v with
  | .int _ _ | .str _ | .bool _ => true
  | _ => false
theorem scal_low {k : Nat} {v : VV} (hs : scal v = true) : v.low k = true := by cases v <;> first | (simp [VV.low]; done) | cases hs
end Vg
