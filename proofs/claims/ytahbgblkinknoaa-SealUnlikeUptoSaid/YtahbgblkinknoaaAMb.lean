/- The abstract machine, part 2: what it computes. -/
import Derived.Test.YtahbgblkinknoaaAMa
namespace Go.AM

/-- An own block: its cells; kd 0: no address in them, 1: none of an own block, 2: any; fz: it is not written any more. -/
structure Blk where
  cs : List AV
  kd : Nat
  fz : Bool

def look : List (Nat × Blk) → Nat → Option Blk
  | [], _ => none
  | (k, B) :: r, b => if k == b then some B else look r b
def upd : List (Nat × Blk) → Nat → Blk → List (Nat × Blk)
  | [], _, _ => []
  | (k, B) :: r, b, B' => if k == b then (k, B') :: r else (k, B) :: upd r b B'
def del : List (Nat × Blk) → Nat → List (Nat × Blk)
  | [], _ => []
  | (k, B) :: r, b => if k == b then del r b else (k, B) :: del r b

/-- What the machine knows of the program: types; zero values' cells and a value's bytes; functions; temporaries that no loop's head needs; structs that are compared; functions that are told. -/
structure Tab where
  u : Nat → Option TypeDesc
  z : Nat → Option (List AV × Nat)
  f : Nat → Option Func
  dead : Nat → List Nat
  eqs : Nat → Option (List Nat)

def cst : Value → AV
  | .int k n => .int k n
  | .bool b => .bool b
  | .string s => .str s.data.toList
  | .pointer none => .nilp
  | .slice none 0 0 => .snil
  | _ => .any
def ev (t : List AV) : Operand → AV
  | .tmp i => t.getD i (.tup [])
  | .const v => cst v
  | .global _ => .any
  | .func f => .fn f []

def isAggD : TypeDesc → Bool
  | .struct _ | .array _ _ => true
  | _ => false

/-- A value's kind: 0 no address, 1 closed, 2 names own blocks. -/
def kdOf : AV → Nat
  | .int _ _ | .bool _ | .str _ | .nilp | .snil => 0
  | .sl _ _ _ | .rptr _ => 1
  | _ => 2
def kdL : List AV → Nat
  | [] => 0
  | c :: cs => max (kdOf c) (kdL cs)
def cellL : List AV → Bool
  | [] => true
  | c :: cs => cellish c && cellL cs
/-- The cells of a value. -/
def cellsOf : AV → Option (List AV)
  | .agg cs => if cellL cs then some cs else none
  | c => if cellish c then some [c] else none

/-- What an address reads: the cells from there on. -/
def reach (m : List (Nat × Blk)) : AV → Option (List AV)
  | .ptr b off => (look m b).map fun B => B.cs.drop off
  | .rptr cs => some cs
  | _ => none
def loadA (T : Tab) (m : List (Nat × Blk)) (ty : Nat) (a : AV) : Option AV :=
  match T.u ty, T.z ty, reach m a with
  | some d, some (z, _), some cs =>
    if isAggD d then (if z.length ≤ cs.length then some (.agg (cs.take z.length)) else none)
    else cs.head?
  | _, _, _ => none

def bitA (op : BinOp) (k : IntKind) (a b : Int) : Option AV :=
  match op with
  | .and => some (.int k (k.wrap (BitVec.ofInt k.bits a &&& BitVec.ofInt k.bits b).toNat))
  | .or => some (.int k (k.wrap (BitVec.ofInt k.bits a ||| BitVec.ofInt k.bits b).toNat))
  | .xor => some (.int k (k.wrap (BitVec.ofInt k.bits a ^^^ BitVec.ofInt k.bits b).toNat))
  | _ => none
def intA (op : BinOp) (k : IntKind) (a b : Int) : Option AV :=
  match op with
  | .add => some (.int k (k.wrap (a + b)))
  | .sub => some (.int k (k.wrap (a - b)))
  | .mul => some (.int k (k.wrap (a * b)))
  | .quo => if b = 0 then none else some (.int k (k.wrap (a.tdiv b)))
  | .rem => if b = 0 then none else some (.int k (a.tmod b))
  | .eql => some (.bool (a == b))
  | .neq => some (.bool (a != b))
  | .lss => some (.bool (decide (a < b)))
  | .leq => some (.bool (decide (a ≤ b)))
  | .gtr => some (.bool (decide (a > b)))
  | .geq => some (.bool (decide (a ≥ b)))
  | op => bitA op k a b
def shiftA (op : BinOp) (k : IntKind) (a b : Int) : Option AV :=
  if b < 0 then none else
  match op with
  | .shl => some (.int k (k.wrap (a * 2 ^ (min b.toNat k.bits))))
  | .shr => some (.int k (a.fdiv (2 ^ (min b.toNat k.bits))))
  | _ => none
def isShift : BinOp → Bool
  | .shl | .shr => true
  | _ => false
def strA (op : BinOp) (a b : List UInt8) : Option AV :=
  match op with
  | .add => if a.length + b.length ≤ 9223372036854775807 then some (.str (a ++ b)) else none
  | .eql => some (.bool (a == b))
  | .neq => some (.bool (!(a == b)))
  | _ => none
/-- Two values without an address, one by one: numbers (0), texts (1), truth values (2). -/
def eqCell : Nat → AV → AV → Option Bool
  | 0, .int k a, .int k' b => if k = k' then some (a == b) else none
  | 1, .str a, .str b => some (a == b)
  | 2, .bool a, .bool b => some (a == b)
  | _, _, _ => none
def eqCells : List Nat → List AV → List AV → Option Bool
  | [], [], [] => some true
  | k :: ks, a :: as, b :: bs => match eqCell k a b, eqCells ks as bs with
    | some x, some y => some (x && y)
    | _, _ => none
  | _, _, _ => none
def binA (T : Tab) (op : BinOp) (ty : Nat) (x y : AV) : Option AV :=
  match x, y with
  | .int k a, .int k' b => if isShift op then shiftA op k a b else if k = k' then intA op k a b else none
  | .str a, .str b => strA op a b
  | .bool a, .bool b => match T.u ty, op with
    | some .bool, .eql => some (.bool (a == b))
    | some .bool, .neq => some (.bool (!(a == b)))
    | _, _ => none
  | .agg as, .agg bs => match T.eqs ty with
    | some ks => (match op with
      | .eql => (eqCells ks as bs).map .bool
      | .neq => (eqCells ks as bs).map fun e => .bool (!e)
      | _ => none)
    | none => none
  | .nilp, .nilp => match T.u ty, op with
    | some (.pointer _), .eql => some (.bool true)
    | some (.pointer _), .neq => some (.bool false)
    | _, _ => none
  | .ptr _ _, .nilp => match T.u ty, op with
    | some (.pointer _), .eql => some (.bool false)
    | some (.pointer _), .neq => some (.bool true)
    | _, _ => none
  | _, _ => none
def unA (op : UnOp) (x : AV) : Option AV :=
  match op, x with
  | .neg, .int k n => some (.int k (k.wrap (0 - n)))
  | .xor, .int k n => bitA .xor k (if k.signed then -1 else k.max) n
  | .not, .bool b => some (.bool (!b))
  | _, _ => none

/-- A fresh result is given own blocks of the caller's: ids from q on. -/
def take1 (q : Nat) : AV → AV × List (Nat × Blk) × Nat
  | .fr kd cs len sz => (.ref q 0 len sz, [(q, ⟨cs, kd, false⟩)], q + 1)
  | .fp cs => (.ptr q 0, [(q, ⟨cs, 2, false⟩)], q + 1)
  | v => (v, [], q)
def takeL (q : Nat) : List AV → List AV × List (Nat × Blk) × Nat
  | [] => ([], [], q)
  | c :: cs => let (c', a, q') := take1 q c; let (cs', b, q'') := takeL q' cs; (c' :: cs', a ++ b, q'')
/-- One result: a value, a struct of cells; several: each of them so. -/
def take2 (q : Nat) : AV → AV × List (Nat × Blk) × Nat
  | .agg cs => let (cs', a, q') := takeL q cs; (.agg cs', a, q')
  | c => take1 q c
def take2L (q : Nat) : List AV → List AV × List (Nat × Blk) × Nat
  | [] => ([], [], q)
  | c :: cs => let (c', a, q') := take2 q c; let (cs', b, q'') := take2L q' cs; (c' :: cs', a ++ b, q'')
def adopt (q : Nat) : AV → AV × List (Nat × Blk) × Nat
  | .tup cs => let (cs', a, q') := take2L q cs; (.tup cs', a, q')
  | c => take2 q c

/-- What is handed to a call: no own block is named in it. -/
def exC (m : List (Nat × Blk)) : Nat → AV → Option AV
  | _, .int k n => some (.int k n)
  | _, .bool b => some (.bool b)
  | _, .str s => some (.str s)
  | _, .nilp => some .nilp
  | _, .snil => some .snil
  | _, .sl fl cs len => some (.sl fl cs len)
  | _, .rptr cs => some (.rptr cs)
  | 0, _ => none
  | n + 1, .ref b off len _ =>
    match look m b with
    | some B => if B.kd = 0 then some (.sl true (B.cs.drop off) len) else if B.kd = 1 then some (.sl false (B.cs.drop off) len) else ((B.cs.drop off).mapM (exC m n)).map fun cs => .sl false cs len
    | none => none
  | n + 1, .ptr b off =>
    match look m b with
    | some B => if B.kd ≤ 1 then some (.rptr (B.cs.drop off)) else ((B.cs.drop off).mapM (exC m n)).map .rptr
    | none => none
  | n + 1, .agg cs => (cs.mapM (exC m n)).map .agg
  | n + 1, .tup cs => (cs.mapM (exC m n)).map .tup
  | n + 1, .fn f cs => (cs.mapM (exC m n)).map (.fn f)
  | _, _ => none
/-- A result without an address of immutable memory. -/
def flat1 : AV → Bool
  | .int _ _ | .bool _ | .str _ | .nilp | .snil => true
  | .sl _ [] _ => true
  | .fr 0 _ _ _ => true
  | .fp cs => kdL cs == 0
  | _ => false
def flatL : List AV → Bool
  | [] => true
  | c :: cs => flat1 c && flatL cs
def flat2 : AV → Bool
  | .agg cs => flatL cs
  | c => flat1 c
def flat2L : List AV → Bool
  | [] => true
  | c :: cs => flat2 c && flat2L cs
def flatR : AV → Bool
  | .tup cs => flat2L cs
  | c => flat2 c

def optEv (t : List AV) : Option Operand → Option (Option Int)
  | none => some none
  | some x => match ev t x with
    | .int _ n => some (some n)
    | _ => none
/-- x[l:h:max]. -/
def sliceA (T : Tab) (m : List (Nat × Blk)) (ty : Nat) (x : AV) (lo hi mx : Option Int) : Option AV :=
  match T.u ty, x with
  | some .string, .str s =>
    let h := hi.getD s.length
    let l := lo.getD 0
    if mx.isSome then none else
    if 0 ≤ h ∧ h ≤ s.length ∧ 0 ≤ l ∧ l ≤ h then some (.str ((s.drop l.toNat).take (h.toNat - l.toNat))) else none
  | some (.slice e), .sl fl cs len =>
    match T.z e with
    | none => none
    | some (z, _) =>
      let h := hi.getD len
      let l := lo.getD 0
      if mx.isSome then none else
      if 0 ≤ h ∧ h ≤ len ∧ 0 ≤ l ∧ l ≤ h then
        (if l = h then some (.sl true [] 0) else some (.sl fl ((cs.take (h.toNat * z.length)).drop (l.toNat * z.length)) (h - l).toNat)) else none
  | some (.slice e), .ref _ off len sz =>
    match T.z e with
    | none => none
    | some (z, _) =>
      let h := hi.getD len
      let l := lo.getD 0
      if mx.isSome then none else
      if sz = z.length ∧ 0 ≤ h ∧ h ≤ len ∧ 0 ≤ l ∧ l ≤ h then
        (match x with
        | .ref b _ _ _ => if l = 0 then some (.ref b off h.toNat sz) else if l = h then some (.sl true [] 0) else some (.ref b (off + l.toNat * sz) (h - l).toNat sz)
        | _ => none) else none
  | some (.array n e), .ptr b off =>
    match T.z e, lo, hi, mx, look m b with
    | some (z, _), none, none, none, some B => if n ≠ 0 ∧ B.kd = 2 ∧ off + n * z.length = B.cs.length then some (.ref b off n z.length) else none
    | _, _, _, _, _ => none
  | _, _ => none
def fieldAddrA (T : Tab) (s : Nat) (x : AV) (f : Nat) : Option AV :=
  match T.u s with
  | some (.struct fs) =>
    match fs[f]? with
    | some fd => match T.z fd.type, x with
      | some (z, _), .ptr b off => if z.length = 0 then none else some (.ptr b (off + fd.offset))
      | some (z, _), .rptr cs => if z.length = 0 then none else some (.rptr (cs.drop fd.offset))
      | _, _ => none
    | none => none
  | _ => none
def indexAddrA (T : Tab) (ty : Nat) (x i : AV) : Option AV :=
  match T.u ty, x, i with
  | some (.array n e), x, .int _ i =>
    match T.z e with
    | none => none
    | some (z, _) => if 0 ≤ i ∧ i < n then (match x with
      | .ptr b off => some (.ptr b (off + i.toNat * z.length))
      | .rptr cs => some (.rptr (cs.drop (i.toNat * z.length)))
      | _ => none) else none
  | some (.slice e), x, .int _ i =>
    match T.z e, x with
    | some (z, _), .sl _ cs len => if 0 ≤ i ∧ i < len then some (.rptr (cs.drop (i.toNat * z.length))) else none
    | some (z, _), .ref b off len sz => if sz = z.length ∧ 0 ≤ i ∧ i < len then some (.ptr b (off + i.toNat * sz)) else none
    | _, _ => none
  | _, _, _ => none
/-- A part of a value. -/
def partA (T : Tab) (ty : Nat) (cs : List AV) (off : Nat) : Option AV :=
  match T.u ty, T.z ty with
  | some d, some (z, _) => if isAggD d then (if off + z.length ≤ cs.length then some (.agg ((cs.drop off).take z.length)) else none) else cs[off]?
  | _, _ => none
def indexA (T : Tab) (ty : Nat) (x i : AV) : Option AV :=
  match T.u ty, x, i with
  | some (.array n e), .agg cs, .int _ i =>
    match T.z e with
    | some (z, _) => if 0 ≤ i ∧ i < n then partA T e cs (i.toNat * z.length) else none
    | none => none
  | some .string, .str s, .int _ i => if 0 ≤ i then (s[i.toNat]?).map fun c => .int .u8 c.toNat else none
  | _, _, _ => none
def fieldA (T : Tab) (ty : Nat) (x : AV) (f : Nat) : Option AV :=
  match T.u ty, x with
  | some (.struct fs), .agg cs => match fs[f]? with
    | some fd => partA T fd.type cs fd.offset
    | none => none
  | _, _ => none
/-- Parts are laid into cells. -/
def fillA (place : Nat → Option (Nat × Nat)) (cells : List AV) : List (Nat × AV) → Option (List AV)
  | [] => some cells
  | (i, v) :: rest =>
    match place i, cellsOf v with
    | some (off, size), some cs => if cs.length = size ∧ off + size ≤ cells.length then fillA place (cells.take off ++ cs ++ cells.drop (off + size)) rest else none
    | _, _ => none
def placesA (T : Tab) (ty : Nat) : Option (Nat → Option (Nat × Nat)) :=
  match T.u ty with
  | some (.struct fs) => if (fs.toList.all fun fd => (T.z fd.type).isSome) then some fun i => match fs[i]? with
    | some fd => (T.z fd.type).map fun z => (fd.offset, z.1.length)
    | none => none else none
  | some (.array _ e) => match T.z e with
    | some (z, _) => some fun i => some (i * z.length, z.length)
    | none => none
  | _ => none
def buildA (T : Tab) (ty : Nat) (parts : List (Nat × AV)) : Option AV :=
  match T.z ty, placesA T ty with
  | some (z, _), some pl => (fillA pl z parts).map .agg
  | _, _ => none
def bytesOf : List AV → Option (List UInt8)
  | [] => some []
  | .int .u8 n :: cs => (bytesOf cs).map fun s => UInt8.ofNat n.toNat :: s
  | _ => none
def convA (T : Tab) (src dst : Nat) (m : List (Nat × Blk)) (q : Nat) (x : AV) : Option (AV × List (Nat × Blk)) :=
  match T.u src, T.u dst, x with
  | some (.int _), some (.int k), .int _ n => some (.int k (k.wrap n), [])
  | some .string, some .string, .str s => some (.str s, [])
  | some .string, some (.slice e), .str s => match T.u e with
    | some (.int .u8) => some (.ref q 0 s.length 1, [(q, ⟨s.map fun c => .int .u8 c.toNat, 0, false⟩)])
    | _ => none
  | some (.slice e), some .string, x => match T.u e with
    | some (.int .u8) =>
      (match x with
      | .snil => some (.str [], [])
      | .sl _ cs len => if len = 0 then some (.str [], []) else if len ≤ cs.length then (bytesOf (cs.take len)).map fun s => (.str s, []) else none
      | .ref b off len _ => (look m b).bind fun B => if len ≤ (B.cs.drop off).length then (bytesOf ((B.cs.drop off).take len)).map fun s => (.str s, []) else none
      | _ => none)
    | _ => none
  | _, _, _ => none
def builtinA (T : Tab) (b : Builtin) (tys : Array Nat) (xs : List AV) : Option AV :=
  match b, xs with
  | .len, [x] => match (tys[0]?).bind T.u, x with
    | some .string, .str s => some (.int .i64 s.length)
    | some (.slice _), .snil => some (.int .i64 0)
    | some (.slice _), .sl _ _ n => some (.int .i64 n)
    | some (.slice _), .ref _ _ n _ => some (.int .i64 n)
    | some (.array n _), _ => some (.int .i64 n)
    | _, _ => none
  | .min, [.int k a, .int _ b] => some (.int k (if b < a then b else a))
  | .max, [.int k a, .int _ b] => some (.int k (if b > a then b else a))
  | _, _ => none

def evs (t : List AV) (xs : Array Operand) : List AV := xs.toList.map (ev t)

/-- A call that writes nothing that was there. -/
def callA (call : Nat → List AV → Option AV) (m : List (Nat × Blk)) (q : Nat) (f : AV) (xs : List AV) : Option (AV × List (Nat × Blk)) :=
  match f with
  | .fn f caps =>
    match (xs ++ caps).mapM (exC m 4) with
    | none => none
    | some args =>
      match call f args with
      | none => none
      | some r =>
        if (adopt q r).2.2 ≤ q + 16 then
          (if flatR r then some ((adopt q r).1, (adopt q r).2.1)
          else if ((xs ++ caps).mapM (exC [] 4)).isSome then some ((adopt q r).1, (adopt q r).2.1) else none) else none
  | _ => none

/-- An operation that writes nothing that was there: its value, the blocks that it makes (numbered from q on, fewer than 16). -/
def qop (T : Tab) (call : Nat → List AV → Option AV) (q : Nat) (t : List AV) (m : List (Nat × Blk)) (o : Oper) : Option (AV × List (Nat × Blk)) :=
  match o.op with
  | .move x | .assign x =>
    match ev t x with
    | .snil => match T.u o.type with
      | some (.slice e) => (T.z e).map fun z => (.ref q 0 0 z.1.length, [(q, ⟨[], 0, false⟩)])
      | _ => some (.snil, [])
    | v => some (v, [])
  | .pick c a b => match ev t c with
    | .bool c => some (if c then ev t a else ev t b, [])
    | _ => none
  | .load ty a => (loadA T m ty (ev t a)).map (·, [])
  | .nilCheck x => match ev t x with
    | .ptr b off => some (.ptr b off, [])
    | .rptr cs => some (.rptr cs, [])
    | .fn f cs => some (.fn f cs, [])
    | _ => none
  | .binOp op ty x y _ => (binA T op ty (ev t x) (ev t y)).map (·, [])
  | .unOp op _ x => (unA op (ev t x)).map (·, [])
  | .convert src dst x => convA T src dst m q (ev t x)
  | .alloc ty => (T.z ty).map fun z => (.ptr q 0, [(q, ⟨z.1, 2, false⟩)])
  | .box ty x => match T.z ty, cellsOf (ev t x) with
    | some (z, _), some cs => if cs.length = z.length then some (.ptr q 0, [(q, ⟨cs, 2, false⟩)]) else none
    | _, _ => none
  | .build ty ps => (buildA T ty (ps.toList.map fun p => (p.1, ev t p.2))).map (·, [])
  | .buildSlice ty len ps => match T.u ty with
    | some (.slice e) => match T.z e with
      | some (z, _) => if len * z.length ≤ 16777216 then
          (fillA (fun i => some (i * z.length, z.length)) ((List.replicate len z).flatten) (ps.toList.map fun p => (p.1, ev t p.2))).map fun cs => (.ref q 0 len z.length, [(q, ⟨cs, kdL cs, false⟩)]) else none
      | none => none
    | _ => none
  | .makeSlice ty n c => match T.u ty, ev t n, ev t c with
    | some (.slice e), .int .i64 n, .int .i64 c => match T.z e with
      | some (z, by_) => if n = c ∧ 0 ≤ n ∧ n ≤ 1000000000 ∧ by_ ≤ 1000 then some (.ref q 0 n.toNat z.length, [(q, ⟨(List.replicate n.toNat z).flatten, kdL z, false⟩)]) else none
      | none => none
    | _, _, _ => none
  | .fieldAddr s x f => (fieldAddrA T s (ev t x) f).map (·, [])
  | .field s x f => (fieldA T s (ev t x) f).map (·, [])
  | .indexAddr ty x i => (indexAddrA T ty (ev t x) (ev t i)).map (·, [])
  | .index ty x i => (indexA T ty (ev t x) (ev t i)).map (·, [])
  | .slice ty x lo hi mx => match optEv t lo, optEv t hi, optEv t mx with
    | some lo, some hi, some mx => (sliceA T m ty (ev t x) lo hi mx).map (·, [])
    | _, _, _ => none
  | .extract x i => match ev t x with
    | .tup cs => (cs[i]?).map (·, [])
    | _ => none
  | .makeFunc (.func f) first caps => if first.size = 0 then some (.fn f (evs t caps), []) else none
  | .call c => match c.callee with
    | .builtin b => (builtinA T b c.argTypes (evs t c.args)).map (·, [])
    | .value f => callA call m q (ev t f) (evs t c.args)
    | _ => none
  | _ => none
end Go.AM
