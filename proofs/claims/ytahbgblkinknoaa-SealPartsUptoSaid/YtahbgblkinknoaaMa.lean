import Derived.Orders
import Derived.Tactics
import Derived.Laws.Cells
import Derived.Laws.World
import Derived.Laws.Slices
import Derived.Laws.Strings
import Derived.Lib.Strings
import Derived.Lib.ConvBytes
/- Several texts in one. -/
section
/- The abstract machine, part 1: deep values, own blocks, and how each value stands to the model's own. -/
namespace Go.AM

inductive AV where
  | any
  | int (k : IntKind) (n : Int)
  | bool (b : Bool)
  | str (s : List UInt8)
  | nilp
  | agg (cs : List AV)
  | tup (cs : List AV)
  | fn (f : FuncId) (caps : List AV)
  | snil
  | sl (flat : Bool) (cs : List AV) (len : Nat)
  | ref (b off len sz : Nat)
  | ptr (b off : Nat)
  | rptr (cs : List AV)
  | fr (kd : Nat) (cs : List AV) (len sz : Nat)
  | fp (cs : List AV)

instance : Inhabited AV := ⟨.any⟩

/-- Where an own block lies: its block, where in it, up to which cell it may grow in place; isNil: it has not been made yet. -/
structure Loc where
  blk : Nat
  base : Nat
  lim : Nat
  isNil : Bool

abbrev Locs := Nat → Option Loc
def noLocs : Locs := fun _ => none
def noImm : Nat → Prop := fun _ => False

/-- The cells from an address on hold these values. -/
def CellsAt (w : World) (ad : Addr) (vs : List Value) : Prop := ∀ (j : Nat) (x : Value), vs[j]? = some x → w.cell? (ad.add j) = some x

/-- A function with what goes with it: from 1000000000 on what it is bound to stands ahead of its arguments. -/
def low (f : Nat) : Bool := decide (f < 1000000000)
theorem low_add (f : Nat) : low (f + 1000000000) = false := by simp [low]
def unbind (f : Nat) : Nat := f - 1000000000
theorem unbind_add (f : Nat) : unbind (f + 1000000000) = f := Nat.add_sub_cancel ..
def mkFn (f : Nat) (vs : List Value) : Value := if low f then .func (.func f) #[] vs.toArray else .func (.func (unbind f)) vs.toArray #[]

mutual
def VR (w : World) : AV → Locs → (Nat → Prop) → Value → Prop
  | .any, _, _, _ => True
  | .int k n, _, _, v => v = .int k n
  | .bool b, _, _, v => v = .bool b
  | .str s, _, _, v => v = .string ⟨s.toArray⟩
  | .nilp, _, _, v => v = .pointer none
  | .agg cs, μ, I, v => ∃ vs, v = .agg (List.toArray vs) ∧ VRs w cs μ I vs
  | .tup cs, μ, I, v => ∃ vs, v = .tuple (List.toArray vs) ∧ VRs w cs μ I vs
  | .fn f cs, μ, I, v => ∃ vs, v = mkFn f vs ∧ VRs w cs μ I vs
  | .snil, _, _, v => ∃ a, v = .slice a 0 0
  | .sl fl cs len, _, I, v => ∃ a cap, v = .slice a len cap ∧ len ≤ cap ∧ (a = none → len = 0) ∧ (cs = [] ∨ ∃ ad vs, a = some ad ∧ I ad.block ∧ CellsAt w ad vs ∧ VRs w cs noLocs (if fl then noImm else I) vs)
  | .ref b off len sz, μ, _, v => ∃ l, μ b = some l ∧ ((l.isNil = true ∧ (∃ a, v = .slice a 0 0) ∧ off = 0 ∧ len = 0) ∨
      (l.isNil = false ∧ ∃ cap, v = .slice (some ⟨l.blk, l.base + off, none⟩) len cap ∧ len ≤ cap ∧ l.base + off + cap * sz = l.lim))
  | .ptr b off, μ, _, v => ∃ l, μ b = some l ∧ l.isNil = false ∧ v = .pointer (some ⟨l.blk, l.base + off, none⟩)
  | .rptr cs, _, I, v => ∃ ad, v = .pointer (some ad) ∧ (cs = [] ∨ ∃ vs, I ad.block ∧ CellsAt w ad vs ∧ VRs w cs noLocs I vs)
  | .fr _ _ _ _, _, _, _ => False
  | .fp _, _, _, _ => False
def VRs (w : World) : List AV → Locs → (Nat → Prop) → List Value → Prop
  | [], _, _, vs => vs = []
  | c :: cs, μ, I, vs => ∃ x xs, vs = x :: xs ∧ VR w c μ I x ∧ VRs w cs μ I xs
end

section
variable {μ μ' : Locs} {I I' : Nat → Prop} {w w' : World}

theorem VRs.length : ∀ {cs : List AV} {vs : List Value}, VRs w cs μ I vs → vs.length = cs.length
  | [], _, h => by simp only [VRs] at h; simp [h]
  | c :: cs, _, h => by
    simp only [VRs] at h
    obtain ⟨x, xs, rfl, _, h2⟩ := h
    simp [VRs.length h2]

theorem VRs.get : ∀ {cs : List AV} {vs : List Value}, VRs w cs μ I vs → ∀ {j : Nat} {c : AV}, cs[j]? = some c → ∃ x, vs[j]? = some x ∧ VR w c μ I x
  | [], _, _, j, c, hc => by simp at hc
  | c0 :: cs, _, h, j, c, hc => by
    simp only [VRs] at h
    obtain ⟨x, xs, rfl, h1, h2⟩ := h
    cases j with
    | zero => simp at hc; subst hc; exact ⟨x, rfl, h1⟩
    | succ j => simp at hc; simpa using VRs.get h2 hc

theorem VRs.of_get : ∀ {cs : List AV} {vs : List Value}, vs.length = cs.length → (∀ (j : Nat) (c : AV) (x : Value), cs[j]? = some c → vs[j]? = some x → VR w c μ I x) → VRs w cs μ I vs
  | [], vs, hl, _ => by simp at hl; simp [VRs, hl]
  | c :: cs, [], hl, _ => by simp at hl
  | c :: cs, x :: xs, hl, h => by
    simp only [VRs]
    refine ⟨x, xs, rfl, h 0 c x rfl rfl, VRs.of_get (by simpa using hl) fun j c' x' hc hx => h (j + 1) c' x' (by simpa using hc) (by simpa using hx)⟩

theorem VRs.nil : VRs w [] μ I [] := by simp [VRs]
theorem VRs.cons {c : AV} {cs : List AV} {x : Value} {xs : List Value} (h : VR w c μ I x) (h2 : VRs w cs μ I xs) : VRs w (c :: cs) μ I (x :: xs) := by
  simp only [VRs]; exact ⟨x, xs, rfl, h, h2⟩
theorem VRs.append {cs ds : List AV} {xs ys : List Value} (h : VRs w cs μ I xs) (h2 : VRs w ds μ I ys) : VRs w (cs ++ ds) μ I (xs ++ ys) := by
  induction cs generalizing xs with
  | nil => simp only [VRs] at h; subst h; simpa using h2
  | cons c cs ih =>
    simp only [VRs] at h
    obtain ⟨x, xs, rfl, h1, h3⟩ := h
    exact VRs.cons h1 (ih h3)
theorem VRs.take {cs : List AV} {xs : List Value} (h : VRs w cs μ I xs) (n : Nat) : VRs w (cs.take n) μ I (xs.take n) := by
  refine VRs.of_get (by simp [h.length]) fun j c x hc hx => ?_
  rw [List.getElem?_take] at hc hx
  split at hc
  · rename_i hj
    rw [if_pos hj] at hx
    obtain ⟨y, hy, hv⟩ := h.get hc
    rw [hy] at hx; injection hx with hx; subst hx; exact hv
  · simp at hc
theorem VRs.drop {cs : List AV} {xs : List Value} (h : VRs w cs μ I xs) (n : Nat) : VRs w (cs.drop n) μ I (xs.drop n) := by
  refine VRs.of_get (by simp [h.length]) fun j c x hc hx => ?_
  rw [List.getElem?_drop] at hc hx
  obtain ⟨y, hy, hv⟩ := h.get hc
  rw [hy] at hx; injection hx with hx; subst hx; exact hv
theorem VRs.set {cs : List AV} {xs : List Value} (h : VRs w cs μ I xs) (n : Nat) {c : AV} {x : Value} (hx : VR w c μ I x) : VRs w (cs.set n c) μ I (xs.set n x) := by
  refine VRs.of_get (by simp [h.length]) fun j c' x' hc hx' => ?_
  rw [List.getElem?_set] at hc hx'
  split at hc
  · rename_i hj
    rw [if_pos hj] at hx'
    split at hc <;> simp at hc
    split at hx' <;> simp at hx'
    subst hc; subst hx'; exact hx
  · rename_i hj
    rw [if_neg hj] at hx'
    obtain ⟨y, hy, hv⟩ := h.get hc
    rw [hy] at hx'; injection hx' with hx'; subst hx'; exact hv

/-- What a value means stays, if its own blocks stay where they are and immutable memory stays as it is. -/
structure Stays (μ μ' : Locs) (I I' : Nat → Prop) (w w' : World) : Prop where
  loc : ∀ b l, μ b = some l → μ' b = some l
  imm : ∀ k, I k → I' k
  heap : ∀ k, I k → w'.heap[k]? = w.heap[k]?
theorem Stays.refl (μ : Locs) (I : Nat → Prop) (w : World) : Stays μ μ I I w w := ⟨fun _ _ h => h, fun _ h => h, fun _ _ => rfl⟩
theorem Stays.trans {μ1 μ2 μ3 : Locs} {I1 I2 I3 : Nat → Prop} {w1 w2 w3 : World} (h : Stays μ1 μ2 I1 I2 w1 w2) (g : Stays μ2 μ3 I2 I3 w2 w3) : Stays μ1 μ3 I1 I3 w1 w3 :=
  ⟨fun b l hb => g.loc b l (h.loc b l hb), fun k hk => g.imm k (h.imm k hk), fun k hk => (g.heap k (h.imm k hk)).trans (h.heap k hk)⟩
theorem Stays.deep (S : Stays μ μ' I I' w w') : Stays noLocs noLocs I I' w w' := ⟨fun _ _ h => h, S.imm, S.heap⟩
theorem Stays.flat (w w' : World) : Stays noLocs noLocs noImm noImm w w' := ⟨fun _ _ h => h, fun _ h => h, fun _ h => h.elim⟩
theorem Stays.fl (S : Stays μ μ' I I' w w') (fl : Bool) : Stays noLocs noLocs (if fl then noImm else I) (if fl then noImm else I') w w' := by
  cases fl
  · exact S.deep
  · exact Stays.flat _ _

theorem cell_of_heap {k : Nat} (h : w'.heap[k]? = w.heap[k]?) (a : Addr) (ha : a.block = k) : w'.cell? a = w.cell? a := by
  unfold World.cell?; rw [ha, h]
theorem add_block (a : Addr) (j : Nat) : (a.add j).block = a.block := by unfold Addr.add; split <;> rfl
theorem add_add (a : Addr) (i j : Nat) : (a.add i).add j = a.add (i + j) := by
  unfold Addr.add
  by_cases hi : i = 0
  · subst hi; simp
  · by_cases hj : j = 0
    · subst hj; simp [hi]
    · simp [hi, hj, Nat.add_assoc]
theorem add_plain (g o j : Nat) : (⟨g, o, none⟩ : Addr).add j = ⟨g, o + j, none⟩ := by
  unfold Addr.add; split <;> simp_all
theorem CellsAt.stays (S : Stays μ μ' I I' w w') {ad : Addr} {vs : List Value} (hI : I ad.block) (h : CellsAt w ad vs) : CellsAt w' ad vs := by
  intro j x hx
  rw [cell_of_heap (S.heap _ hI) _ (add_block ad j)]; exact h j x hx
theorem CellsAt.drop {ad : Addr} {vs : List Value} (h : CellsAt w ad vs) (n : Nat) : CellsAt w (ad.add n) (vs.drop n) := by
  intro j x hx
  rw [add_add]
  rw [List.getElem?_drop] at hx
  exact h _ _ hx
theorem CellsAt.take {ad : Addr} {vs : List Value} (h : CellsAt w ad vs) (n : Nat) : CellsAt w ad (vs.take n) := by
  intro j x hx
  rw [List.getElem?_take] at hx
  split at hx
  · exact h _ _ hx
  · simp at hx

mutual
theorem VR.stays : ∀ (c : AV) {μ μ' : Locs} {I I' : Nat → Prop} (_ : Stays μ μ' I I' w w') (v : Value), VR w c μ I v → VR w' c μ' I' v
  | .any, _, _, _, _, _, _, _ => by simp [VR]
  | .int _ _, _, _, _, _, _, _, h => by simpa [VR] using h
  | .bool _, _, _, _, _, _, _, h => by simpa [VR] using h
  | .str _, _, _, _, _, _, _, h => by simpa [VR] using h
  | .nilp, _, _, _, _, _, _, h => by simpa [VR] using h
  | .agg cs, _, _, _, _, S, _, h => by
    simp only [VR] at h ⊢
    obtain ⟨vs, rfl, h⟩ := h
    exact ⟨vs, rfl, VRs.stays cs S vs h⟩
  | .tup cs, _, _, _, _, S, _, h => by
    simp only [VR] at h ⊢
    obtain ⟨vs, rfl, h⟩ := h
    exact ⟨vs, rfl, VRs.stays cs S vs h⟩
  | .fn f cs, _, _, _, _, S, _, h => by
    simp only [VR] at h ⊢
    obtain ⟨vs, rfl, h⟩ := h
    exact ⟨vs, rfl, VRs.stays cs S vs h⟩
  | .snil, _, _, _, _, _, _, h => by simpa [VR] using h
  | .sl fl cs len, _, _, _, _, S, _, h => by
    simp only [VR] at h ⊢
    obtain ⟨a, cap, rfl, hl, hn, h⟩ := h
    refine ⟨a, cap, rfl, hl, hn, ?_⟩
    rcases h with h | ⟨ad, vs, ha, hI, hc, hv⟩
    · exact .inl h
    · exact .inr ⟨ad, vs, ha, S.imm _ hI, hc.stays S hI, VRs.stays cs (S.fl fl) vs hv⟩
  | .ref b off len sz, _, _, _, _, S, _, h => by
    simp only [VR] at h ⊢
    obtain ⟨l, hl, h⟩ := h
    exact ⟨l, S.loc _ _ hl, h⟩
  | .ptr b off, _, _, _, _, S, _, h => by
    simp only [VR] at h ⊢
    obtain ⟨l, hl, h⟩ := h
    exact ⟨l, S.loc _ _ hl, h⟩
  | .rptr cs, _, _, _, _, S, _, h => by
    simp only [VR] at h ⊢
    obtain ⟨ad, rfl, h⟩ := h
    refine ⟨ad, rfl, ?_⟩
    rcases h with h | ⟨vs, hI, hc, hv⟩
    · exact .inl h
    · exact .inr ⟨vs, S.imm _ hI, hc.stays S hI, VRs.stays cs S.deep vs hv⟩
  | .fr _ _ _ _, _, _, _, _, _, _, h => by simp [VR] at h
  | .fp _, _, _, _, _, _, _, h => by simp [VR] at h
theorem VRs.stays : ∀ (cs : List AV) {μ μ' : Locs} {I I' : Nat → Prop} (_ : Stays μ μ' I I' w w') (vs : List Value), VRs w cs μ I vs → VRs w' cs μ' I' vs
  | [], _, _, _, _, _, _, h => by simpa [VRs] using h
  | c :: cs, _, _, _, _, S, _, h => by
    simp only [VRs] at h ⊢
    obtain ⟨x, xs, rfl, h1, h2⟩ := h
    exact ⟨x, xs, rfl, VR.stays c S x h1, VRs.stays cs S xs h2⟩
end
/-- A closed value stands under any names. -/
theorem Stays.locs (μ : Locs) (I : Nat → Prop) (w : World) : Stays noLocs μ I I w w := ⟨fun _ _ h => by simp [noLocs] at h, fun _ h => h, fun _ _ => rfl⟩
theorem Stays.imms (μ : Locs) (w : World) (h : ∀ k, I k → I' k) : Stays μ μ I I' w w := ⟨fun _ _ h => h, h, fun _ _ => rfl⟩

/-- A value of one cell. -/
def cellish : AV → Bool
  | .any | .agg _ | .tup _ | .fr _ _ _ _ | .fp _ => false
  | _ => true
theorem VR.oneCell {c : AV} {v : Value} (h : VR w c μ I v) (hc : cellish c = true) : v.oneCell' = true := by
  cases c <;> simp [cellish] at hc <;> simp only [VR] at h
  case int => subst h; rfl
  case bool => subst h; rfl
  case str => subst h; rfl
  case nilp => subst h; rfl
  case fn => obtain ⟨_, rfl, _⟩ := h; unfold mkFn; split <;> rfl
  case snil => obtain ⟨_, rfl⟩ := h; rfl
  case sl => obtain ⟨_, _, rfl, _⟩ := h; rfl
  case ref => obtain ⟨_, _, ⟨_, ⟨_, rfl⟩, _⟩ | ⟨_, _, rfl, _⟩⟩ := h <;> rfl
  case ptr => obtain ⟨_, _, _, rfl⟩ := h; rfl
  case rptr => obtain ⟨_, rfl, _⟩ := h; rfl
end
end Go.AM
end
section
/- The abstract machine, part 2: what it computes. -/
namespace Go.AM

/-- An own block: its cells; kd 0: no address in them, 1: none of an own block, 2: any; fz: it is not written any more. -/
structure Blk where
  cs : List AV
  kd : Nat
  fz : Bool

def look : List (Nat × Blk) → Nat → Option Blk
  | [], _ => none
  | (k, B) :: r, b => if k == b then some B else look r b
def upd : List (Nat × Blk) → Nat → Blk → List (Nat × Blk)
  | [], _, _ => []
  | (k, B) :: r, b, B' => if k == b then (k, B') :: r else (k, B) :: upd r b B'
def del : List (Nat × Blk) → Nat → List (Nat × Blk)
  | [], _ => []
  | (k, B) :: r, b => if k == b then del r b else (k, B) :: del r b

/-- What the machine knows of the program: types; zero values' cells and a value's bytes; functions; which arguments of a function go as they are (addresses of own memory); which cells of a block of so many cells stay own rows when it is handed on; structs that are compared; functions that are told. -/
structure Tab where
  u : Nat → Option TypeDesc
  z : Nat → Option (List AV × Nat)
  f : Nat → Option Func
  mt : Nat → List Bool
  cl : Nat → Option (List Nat)
  eqs : Nat → Option (List Nat)

def cst : Value → AV
  | .int k n => .int k n
  | .bool b => .bool b
  | .string s => .str s.data.toList
  | .pointer none => .nilp
  | .slice none 0 0 => .snil
  | _ => .any
def ev (t : List AV) : Operand → AV
  | .tmp i => t.getD i (.tup [])
  | .const v => cst v
  | .global _ => .any
  | .func f => if low f then .fn f [] else .any

def isAggD : TypeDesc → Bool
  | .struct _ | .array _ _ => true
  | _ => false

/-- A value's kind: 0 no address, 1 closed, 2 names own blocks. -/
def kdOf : AV → Nat
  | .int _ _ | .bool _ | .str _ | .nilp | .snil => 0
  | .sl _ _ _ | .rptr _ => 1
  | _ => 2
def kdL : List AV → Nat
  | [] => 0
  | c :: cs => max (kdOf c) (kdL cs)
def cellL : List AV → Bool
  | [] => true
  | c :: cs => cellish c && cellL cs
/-- The cells of a value. -/
def cellsOf : AV → Option (List AV)
  | .agg cs => if cellL cs then some cs else none
  | c => if cellish c then some [c] else none

/-- What an address reads: the cells from there on. -/
def reach (m : List (Nat × Blk)) : AV → Option (List AV)
  | .ptr b off => (look m b).map fun B => B.cs.drop off
  | .rptr cs => some cs
  | _ => none
def loadA (T : Tab) (m : List (Nat × Blk)) (ty : Nat) (a : AV) : Option AV :=
  match T.u ty, T.z ty, reach m a with
  | some d, some (z, _), some cs =>
    if isAggD d then (if z.length ≤ cs.length then some (.agg (cs.take z.length)) else none)
    else cs.head?
  | _, _, _ => none

def bitA (op : BinOp) (k : IntKind) (a b : Int) : Option AV :=
  match op with
  | .and => some (.int k (k.wrap (BitVec.ofInt k.bits a &&& BitVec.ofInt k.bits b).toNat))
  | .or => some (.int k (k.wrap (BitVec.ofInt k.bits a ||| BitVec.ofInt k.bits b).toNat))
  | .xor => some (.int k (k.wrap (BitVec.ofInt k.bits a ^^^ BitVec.ofInt k.bits b).toNat))
  | _ => none
def intA (op : BinOp) (k : IntKind) (a b : Int) : Option AV :=
  match op with
  | .add => some (.int k (k.wrap (a + b)))
  | .sub => some (.int k (k.wrap (a - b)))
  | .mul => some (.int k (k.wrap (a * b)))
  | .quo => if b = 0 then none else some (.int k (k.wrap (a.tdiv b)))
  | .rem => if b = 0 then none else some (.int k (a.tmod b))
  | .eql => some (.bool (a == b))
  | .neq => some (.bool (a != b))
  | .lss => some (.bool (decide (a < b)))
  | .leq => some (.bool (decide (a ≤ b)))
  | .gtr => some (.bool (decide (a > b)))
  | .geq => some (.bool (decide (a ≥ b)))
  | op => bitA op k a b
def shiftA (op : BinOp) (k : IntKind) (a b : Int) : Option AV :=
  if b < 0 then none else
  match op with
  | .shl => some (.int k (k.wrap (a * 2 ^ (min b.toNat k.bits))))
  | .shr => some (.int k (a.fdiv (2 ^ (min b.toNat k.bits))))
  | _ => none
def isShift : BinOp → Bool
  | .shl | .shr => true
  | _ => false
def strA (op : BinOp) (a b : List UInt8) : Option AV :=
  match op with
  | .add => if a.length + b.length ≤ 9223372036854775807 then some (.str (a ++ b)) else none
  | .eql => some (.bool (a == b))
  | .neq => some (.bool (!(a == b)))
  | _ => none
/-- Two values without an address, one by one: numbers (0), texts (1), truth values (2). -/
def eqCell : Nat → AV → AV → Option Bool
  | 0, .int k a, .int k' b => if k = k' then some (a == b) else none
  | 1, .str a, .str b => some (a == b)
  | 2, .bool a, .bool b => some (a == b)
  | _, _, _ => none
def eqCells : List Nat → List AV → List AV → Option Bool
  | [], [], [] => some true
  | k :: ks, a :: as, b :: bs => match eqCell k a b, eqCells ks as bs with
    | some x, some y => some (x && y)
    | _, _ => none
  | _, _, _ => none
def binA (T : Tab) (op : BinOp) (ty : Nat) (x y : AV) : Option AV :=
  match x, y with
  | .int k a, .int k' b => if isShift op then shiftA op k a b else if k = k' then intA op k a b else none
  | .str a, .str b => strA op a b
  | .bool a, .bool b => match T.u ty, op with
    | some .bool, .eql => some (.bool (a == b))
    | some .bool, .neq => some (.bool (!(a == b)))
    | _, _ => none
  | .agg as, .agg bs => match T.eqs ty with
    | some ks => (match op with
      | .eql => (eqCells ks as bs).map .bool
      | .neq => (eqCells ks as bs).map fun e => .bool (!e)
      | _ => none)
    | none => none
  | .nilp, .nilp => match T.u ty, op with
    | some (.pointer _), .eql => some (.bool true)
    | some (.pointer _), .neq => some (.bool false)
    | _, _ => none
  | .ptr _ _, .nilp => match T.u ty, op with
    | some (.pointer _), .eql => some (.bool false)
    | some (.pointer _), .neq => some (.bool true)
    | _, _ => none
  | _, _ => none
def unA (op : UnOp) (x : AV) : Option AV :=
  match op, x with
  | .neg, .int k n => some (.int k (k.wrap (0 - n)))
  | .xor, .int k n => bitA .xor k (if k.signed then -1 else k.max) n
  | .not, .bool b => some (.bool (!b))
  | _, _ => none

/-- A fresh result is given own blocks of the caller's: ids from q on. -/
def take1 (q : Nat) : AV → AV × List (Nat × Blk) × Nat
  | .fr kd cs len sz => (.ref q 0 len sz, [(q, ⟨cs, kd, false⟩)], q + 1)
  | .fp cs => (.ptr q 0, [(q, ⟨cs, 2, false⟩)], q + 1)
  | v => (v, [], q)
def takeL (q : Nat) : List AV → List AV × List (Nat × Blk) × Nat
  | [] => ([], [], q)
  | c :: cs => let (c', a, q') := take1 q c; let (cs', b, q'') := takeL q' cs; (c' :: cs', a ++ b, q'')
/-- One result: a value, a struct of cells; several: each of them so. -/
def take2 (q : Nat) : AV → AV × List (Nat × Blk) × Nat
  | .agg cs => let (cs', a, q') := takeL q cs; (.agg cs', a, q')
  | c => take1 q c
def take2L (q : Nat) : List AV → List AV × List (Nat × Blk) × Nat
  | [] => ([], [], q)
  | c :: cs => let (c', a, q') := take2 q c; let (cs', b, q'') := take2L q' cs; (c' :: cs', a ++ b, q'')
def adopt (q : Nat) : AV → AV × List (Nat × Blk) × Nat
  | .tup cs => let (cs', a, q') := take2L q cs; (.tup cs', a, q')
  | c => take2 q c

/-- What is handed to a call: no own block is named in it. -/
def exC (m : List (Nat × Blk)) : Nat → AV → Option AV
  | _, .int k n => some (.int k n)
  | _, .bool b => some (.bool b)
  | _, .str s => some (.str s)
  | _, .nilp => some .nilp
  | _, .snil => some .snil
  | _, .sl fl cs len => some (.sl fl cs len)
  | _, .rptr cs => some (.rptr cs)
  | 0, _ => none
  | n + 1, .ref b off len _ =>
    match look m b with
    | some B => if B.kd = 0 then some (.sl true (B.cs.drop off) len) else if B.kd = 1 then some (.sl false (B.cs.drop off) len) else ((B.cs.drop off).mapM (exC m n)).map fun cs => .sl false cs len
    | none => none
  | n + 1, .ptr b off =>
    match look m b with
    | some B => if B.kd ≤ 1 then some (.rptr (B.cs.drop off)) else ((B.cs.drop off).mapM (exC m n)).map .rptr
    | none => none
  | n + 1, .agg cs => (cs.mapM (exC m n)).map .agg
  | n + 1, .tup cs => (cs.mapM (exC m n)).map .tup
  | n + 1, .fn f cs => (cs.mapM (exC m n)).map (.fn f)
  | _, _ => none
/-- A result without an address of immutable memory. -/
def flat1 : AV → Bool
  | .int _ _ | .bool _ | .str _ | .nilp | .snil => true
  | .sl _ [] _ => true
  | .fr 0 _ _ _ => true
  | .fp cs => kdL cs == 0
  | _ => false
def flatL : List AV → Bool
  | [] => true
  | c :: cs => flat1 c && flatL cs
def flat2 : AV → Bool
  | .agg cs => flatL cs
  | c => flat1 c
def flat2L : List AV → Bool
  | [] => true
  | c :: cs => flat2 c && flat2L cs
def flatR : AV → Bool
  | .tup cs => flat2L cs
  | c => flat2 c

def optEv (t : List AV) : Option Operand → Option (Option Int)
  | none => some none
  | some x => match ev t x with
    | .int _ n => some (some n)
    | _ => none
/-- x[l:h:max]. -/
def sliceA (T : Tab) (m : List (Nat × Blk)) (ty : Nat) (x : AV) (lo hi mx : Option Int) : Option AV :=
  match T.u ty, x with
  | some .string, .str s =>
    let h := hi.getD s.length
    let l := lo.getD 0
    if mx.isSome then none else
    if 0 ≤ h ∧ h ≤ s.length ∧ 0 ≤ l ∧ l ≤ h then some (.str ((s.drop l.toNat).take (h.toNat - l.toNat))) else none
  | some (.slice e), .sl fl cs len =>
    match T.z e with
    | none => none
    | some (z, _) =>
      let h := hi.getD len
      let l := lo.getD 0
      if mx.isSome then none else
      if 0 ≤ h ∧ h ≤ len ∧ 0 ≤ l ∧ l ≤ h then
        (if l = h then some (.sl true [] 0) else some (.sl fl ((cs.take (h.toNat * z.length)).drop (l.toNat * z.length)) (h - l).toNat)) else none
  | some (.slice e), .ref _ off len sz =>
    match T.z e with
    | none => none
    | some (z, _) =>
      let h := hi.getD len
      let l := lo.getD 0
      if mx.isSome then none else
      if sz = z.length ∧ 0 ≤ h ∧ h ≤ len ∧ 0 ≤ l ∧ l ≤ h then
        (match x with
        | .ref b _ _ _ => if l = 0 then some (.ref b off h.toNat sz) else if l = h then some (.sl true [] 0) else some (.ref b (off + l.toNat * sz) (h - l).toNat sz)
        | _ => none) else none
  | some (.array n e), .ptr b off =>
    match T.z e, lo, hi, mx, look m b with
    | some (z, _), none, none, none, some B => if n ≠ 0 ∧ B.kd = 2 ∧ off + n * z.length = B.cs.length then some (.ref b off n z.length) else none
    | _, _, _, _, _ => none
  | _, _ => none
def fieldAddrA (T : Tab) (s : Nat) (x : AV) (f : Nat) : Option AV :=
  match T.u s with
  | some (.struct fs) =>
    match fs[f]? with
    | some fd => match T.z fd.type, x with
      | some (z, _), .ptr b off => if z.length = 0 then none else some (.ptr b (off + fd.offset))
      | some (z, _), .rptr cs => if z.length = 0 then none else some (.rptr (cs.drop fd.offset))
      | _, _ => none
    | none => none
  | _ => none
def indexAddrA (T : Tab) (ty : Nat) (x i : AV) : Option AV :=
  match T.u ty, x, i with
  | some (.array n e), x, .int _ i =>
    match T.z e with
    | none => none
    | some (z, _) => if 0 ≤ i ∧ i < n then (match x with
      | .ptr b off => some (.ptr b (off + i.toNat * z.length))
      | .rptr cs => some (.rptr (cs.drop (i.toNat * z.length)))
      | _ => none) else none
  | some (.slice e), x, .int _ i =>
    match T.z e, x with
    | some (z, _), .sl _ cs len => if 0 ≤ i ∧ i < len then some (.rptr (cs.drop (i.toNat * z.length))) else none
    | some (z, _), .ref b off len sz => if sz = z.length ∧ 0 ≤ i ∧ i < len then some (.ptr b (off + i.toNat * sz)) else none
    | _, _ => none
  | _, _, _ => none
/-- A part of a value. -/
def partA (T : Tab) (ty : Nat) (cs : List AV) (off : Nat) : Option AV :=
  match T.u ty, T.z ty with
  | some d, some (z, _) => if isAggD d then (if off + z.length ≤ cs.length then some (.agg ((cs.drop off).take z.length)) else none) else cs[off]?
  | _, _ => none
def indexA (T : Tab) (ty : Nat) (x i : AV) : Option AV :=
  match T.u ty, x, i with
  | some (.array n e), .agg cs, .int _ i =>
    match T.z e with
    | some (z, _) => if 0 ≤ i ∧ i < n then partA T e cs (i.toNat * z.length) else none
    | none => none
  | some .string, .str s, .int _ i => if 0 ≤ i then (s[i.toNat]?).map fun c => .int .u8 c.toNat else none
  | _, _, _ => none
def fieldA (T : Tab) (ty : Nat) (x : AV) (f : Nat) : Option AV :=
  match T.u ty, x with
  | some (.struct fs), .agg cs => match fs[f]? with
    | some fd => partA T fd.type cs fd.offset
    | none => none
  | _, _ => none
/-- Parts are laid into cells. -/
def fillA (place : Nat → Option (Nat × Nat)) (cells : List AV) : List (Nat × AV) → Option (List AV)
  | [] => some cells
  | (i, v) :: rest =>
    match place i, cellsOf v with
    | some (off, size), some cs => if cs.length = size ∧ off + size ≤ cells.length then fillA place (cells.take off ++ cs ++ cells.drop (off + size)) rest else none
    | _, _ => none
def placesA (T : Tab) (ty : Nat) : Option (Nat → Option (Nat × Nat)) :=
  match T.u ty with
  | some (.struct fs) => if (fs.toList.all fun fd => (T.z fd.type).isSome) then some fun i => match fs[i]? with
    | some fd => (T.z fd.type).map fun z => (fd.offset, z.1.length)
    | none => none else none
  | some (.array _ e) => match T.z e with
    | some (z, _) => some fun i => some (i * z.length, z.length)
    | none => none
  | _ => none
def buildA (T : Tab) (ty : Nat) (parts : List (Nat × AV)) : Option AV :=
  match T.z ty, placesA T ty with
  | some (z, _), some pl => (fillA pl z parts).map .agg
  | _, _ => none
def bytesOf : List AV → Option (List UInt8)
  | [] => some []
  | .int .u8 n :: cs => (bytesOf cs).map fun s => UInt8.ofNat n.toNat :: s
  | _ => none
def convA (T : Tab) (src dst : Nat) (m : List (Nat × Blk)) (q : Nat) (x : AV) : Option (AV × List (Nat × Blk)) :=
  match T.u src, T.u dst, x with
  | some (.int _), some (.int k), .int _ n => some (.int k (k.wrap n), [])
  | some .string, some .string, .str s => some (.str s, [])
  | some .string, some (.slice e), .str s => match T.u e with
    | some (.int .u8) => some (.ref q 0 s.length 1, [(q, ⟨s.map fun c => .int .u8 c.toNat, 0, false⟩)])
    | _ => none
  | some (.slice e), some .string, x => match T.u e with
    | some (.int .u8) =>
      (match x with
      | .snil => some (.str [], [])
      | .sl _ cs len => if len = 0 then some (.str [], []) else if len ≤ cs.length then (bytesOf (cs.take len)).map fun s => (.str s, []) else none
      | .ref b off len _ => (look m b).bind fun B => if len ≤ (B.cs.drop off).length then (bytesOf ((B.cs.drop off).take len)).map fun s => (.str s, []) else none
      | _ => none)
    | _ => none
  | _, _, _ => none
def builtinA (T : Tab) (b : Builtin) (tys : Array Nat) (xs : List AV) : Option AV :=
  match b, xs with
  | .len, [x] => match (tys[0]?).bind T.u, x with
    | some .string, .str s => some (.int .i64 s.length)
    | some (.slice _), .snil => some (.int .i64 0)
    | some (.slice _), .sl _ _ n => some (.int .i64 n)
    | some (.slice _), .ref _ _ n _ => some (.int .i64 n)
    | some (.array n _), _ => some (.int .i64 n)
    | _, _ => none
  | .min, [.int k a, .int _ b] => some (.int k (if b < a then b else a))
  | .max, [.int k a, .int _ b] => some (.int k (if b > a then b else a))
  | _, _ => none

def evs (t : List AV) (xs : Array Operand) : List AV := xs.toList.map (ev t)

/-- A call that writes nothing that was there. -/
def callA (call : Nat → List AV → Option AV) (m : List (Nat × Blk)) (q : Nat) (f : AV) (xs : List AV) : Option (AV × List (Nat × Blk)) :=
  match f with
  | .fn f caps => if low f then
      match (xs ++ caps).mapM (exC m 4) with
      | none => none
      | some args =>
        match call f args with
        | none => none
        | some r =>
          if (adopt q r).2.2 ≤ q + 16 then
            (if flatR r then some ((adopt q r).1, (adopt q r).2.1)
            else if ((xs ++ caps).mapM (exC [] 4)).isSome then some ((adopt q r).1, (adopt q r).2.1) else none) else none
    else none
  | _ => none

/-- What is known of functions: those that write nothing that was there; those that are handed own memory: what they leave. -/
structure Know where
  q : Nat → List AV → Option AV
  m : Nat → List AV → List (Nat × Blk) → Option (AV × List (Nat × Blk))

/-- An operation that writes nothing that was there: its value, the blocks that it makes (numbered from q on, fewer than 16). -/
def qop (T : Tab) (call : Nat → List AV → Option AV) (q : Nat) (t : List AV) (m : List (Nat × Blk)) (o : Oper) : Option (AV × List (Nat × Blk)) :=
  match o.op with
  | .move x | .assign x =>
    match ev t x with
    | .snil => match T.u o.type with
      | some (.slice e) => (T.z e).map fun z => (.ref q 0 0 z.1.length, [(q, ⟨[], 0, false⟩)])
      | _ => some (.snil, [])
    | v => some (v, [])
  | .pick c a b => match ev t c with
    | .bool c => some (if c then ev t a else ev t b, [])
    | _ => none
  | .load ty a => (loadA T m ty (ev t a)).map (·, [])
  | .nilCheck x => match ev t x with
    | .ptr b off => some (.ptr b off, [])
    | .rptr cs => some (.rptr cs, [])
    | .fn f cs => some (.fn f cs, [])
    | _ => none
  | .binOp op ty x y _ => (binA T op ty (ev t x) (ev t y)).map (·, [])
  | .unOp op _ x => (unA op (ev t x)).map (·, [])
  | .convert src dst x => convA T src dst m q (ev t x)
  | .alloc ty => (T.z ty).map fun z => (.ptr q 0, [(q, ⟨z.1, 2, false⟩)])
  | .box ty x => match T.z ty, cellsOf (ev t x) with
    | some (z, _), some cs => if cs.length = z.length then some (.ptr q 0, [(q, ⟨cs, 2, false⟩)]) else none
    | _, _ => none
  | .build ty ps => (buildA T ty (ps.toList.map fun p => (p.1, ev t p.2))).map (·, [])
  | .buildSlice ty len ps => match T.u ty with
    | some (.slice e) => match T.z e with
      | some (z, _) => if len * z.length ≤ 16777216 then
          (fillA (fun i => some (i * z.length, z.length)) ((List.replicate len z).flatten) (ps.toList.map fun p => (p.1, ev t p.2))).map fun cs => (.ref q 0 len z.length, [(q, ⟨cs, kdL cs, false⟩)]) else none
      | none => none
    | _ => none
  | .makeSlice ty n c => match T.u ty, ev t n, ev t c with
    | some (.slice e), .int .i64 n, .int .i64 c => match T.z e with
      | some (z, by_) => if n = c ∧ 0 ≤ n ∧ n ≤ 1000000000 ∧ by_ ≤ 1000 then some (.ref q 0 n.toNat z.length, [(q, ⟨(List.replicate n.toNat z).flatten, kdL z, false⟩)]) else none
      | none => none
    | _, _, _ => none
  | .fieldAddr s x f => (fieldAddrA T s (ev t x) f).map (·, [])
  | .field s x f => (fieldA T s (ev t x) f).map (·, [])
  | .indexAddr ty x i => (indexAddrA T ty (ev t x) (ev t i)).map (·, [])
  | .index ty x i => (indexA T ty (ev t x) (ev t i)).map (·, [])
  | .slice ty x lo hi mx => match optEv t lo, optEv t hi, optEv t mx with
    | some lo, some hi, some mx => (sliceA T m ty (ev t x) lo hi mx).map (·, [])
    | _, _, _ => none
  | .extract x i => match ev t x with
    | .tup cs => (cs[i]?).map (·, [])
    | _ => none
  | .makeFunc (.func f) first caps => if low f then (if first.size = 0 then some (.fn f (evs t caps), []) else if caps.size = 0 then some (.fn (f + 1000000000) (evs t first), []) else none) else none
  | .call c => match c.callee with
    | .builtin b => (builtinA T b c.argTypes (evs t c.args)).map (·, [])
    | .value f => callA call m q (ev t f) (evs t c.args)
    | _ => none
  | _ => none
end Go.AM
end
section
/- The abstract machine, part 3: what a state says of the memory; new blocks. -/
namespace Go.AM

def kμ (kd : Nat) (μ : Locs) : Locs := if kd ≤ 1 then noLocs else μ
def kI (kd : Nat) (I : Nat → Prop) : Nat → Prop := if kd = 0 then noImm else I

structure TabOK (P : Program) (T : Tab) : Prop where
  u : ∀ t d, T.u t = some d → P.underlying t = some d
  z : ∀ t cs b, T.z t = some (cs, b) → ∃ i zv, P.info? t = some i ∧ i.zero = some zv ∧ i.size = cs.length ∧ i.bytes = b ∧ (∀ w, VRs w cs noLocs noImm zv.cells.toList) ∧ cellL cs = true
  f : ∀ f fn, T.f f = some fn → P.funcs[f]? = some fn ∧ fn.body.isSome = true
  eqs : ∀ t ks, T.eqs t = some ks → ∀ (xs ys : Array Value) (as bs : List AV) (e : Bool) (w : World), eqCells ks as bs = some e →
    (∀ μ I, VRs w as μ I xs.toList → VRs w bs μ I ys.toList → (Op.equal t (.agg xs) (.agg ys)).run P w = .ok e w)
  guard : ∀ t ks, T.eqs t = some ks → P.eqGuardType P.depth t = false

/-- An own block in the memory. -/
def Held (w : World) (μ : Locs) (I : Nat → Prop) (B : Blk) (l : Loc) : Prop :=
  ∃ C T fr vs, w.heap[l.blk]? = some (.cells C T fr) ∧ l.lim ≤ C.size ∧ (fr = (0, 0) ∨ C.size ≤ fr.1) ∧ l.base + B.cs.length ≤ l.lim ∧ (B.kd = 2 → l.lim = l.base + B.cs.length) ∧
    VRs w B.cs (kμ B.kd μ) (kI B.kd I) vs ∧ ∀ (j : Nat) (x : Value), vs[j]? = some x → C[l.base + j]? = some x
def BOK (w : World) (μ : Locs) (I Mut : Nat → Prop) (B : Blk) (l : Loc) : Prop :=
  (l.isNil = true ∧ B.cs = []) ∨ (l.isNil = false ∧ Held w μ I B l ∧ (B.fz = true → I l.blk) ∧ (B.fz = false → ¬ I l.blk ∧ Mut l.blk))

/-- What was there when the call began is as it was, but for the blocks M0. -/
structure Keep (M0 : Nat → Prop) (w w' : World) : Prop where
  os : w'.os = w.os
  tape : w'.tape = w.tape
  output : w'.output = w.output
  size : w.heap.size ≤ w'.heap.size
  block : ∀ k, k < w.heap.size → ¬ M0 k → w'.heap[k]? = w.heap[k]?

structure SR (M0 A : Nat → Prop) (w0 w : World) (μ : Locs) (I : Nat → Prop) (m : List (Nat × Blk)) : Prop where
  blks : ∀ b B, look m b = some B → ∃ l, μ b = some l ∧ BOK w μ I (fun k => M0 k ∨ w0.heap.size ≤ k) B l
  inj : ∀ b b' B B' l l', look m b = some B → look m b' = some B' → b ≠ b' → B.fz = false → μ b = some l → μ b' = some l' → l.isNil = false → l'.isNil = false → l.blk ≠ l'.blk
  immLt : ∀ k, I k → k < w.heap.size
  immA : ∀ k, A k → I k
  immN : ∀ k, I k → A k ∨ M0 k ∨ w0.heap.size ≤ k
  keep : Keep M0 w0 w

/-- What an operation comes to: a value, or a call that hands one back. -/
def Upon (P : Program) (K : Value → World → Prop) : Result Next → Prop
  | .ok (.value v) w => K v w
  | .ok .skip w => K undef w
  | .ok (.enter f args) w => Calls P f args w fun e w' => ∃ v, e = .returned v ∧ K v w'
  | _ => False

section
variable {P : Program} {T : Tab} {M0 A : Nat → Prop} {w0 w w' : World} {μ μ' : Locs} {I I' : Nat → Prop} {m : List (Nat × Blk)}

theorem Upon.wp {o : Oper} {a : Act} {next : Act → World → Prop} {Q : Exit → Act → World → Prop}
    (h : Upon P (fun v w' => next (a.put o.dst v) w') ((execOp a.eval o).run P w)) : o.wp P a w next Q := by
  unfold Oper.wp
  generalize (execOp a.eval o).run P w = r at h
  cases r with
  | halt h' w' => exact h.elim
  | ok n w' =>
    cases n <;> simp only [Upon] at h <;> simp only [Oper.upon]
    case value v => exact h
    case skip => exact h
    case enter f args =>
      refine Calls.mono h fun e w'' he => ?_
      obtain ⟨v, rfl, hk⟩ := he
      exact hk

theorem Upon.mono {K K' : Value → World → Prop} {r : Result Next} (h : Upon P K r) (hk : ∀ v w, K v w → K' v w) : Upon P K' r := by
  cases r with
  | halt h' w' => exact h.elim
  | ok n w' =>
    cases n <;> simp only [Upon] at h ⊢
    case value v => exact hk _ _ h
    case skip => exact hk _ _ h
    case enter f args => exact Calls.mono h fun e w'' ⟨v, he, h2⟩ => ⟨v, he, hk _ _ h2⟩

theorem look_append (m n : List (Nat × Blk)) (b : Nat) : look (m ++ n) b = match look m b with | some B => some B | none => look n b := by
  induction m with
  | nil => simp [look]
  | cons x m ih =>
    obtain ⟨k, B⟩ := x
    simp only [List.cons_append, look]
    split
    · rfl
    · exact ih
theorem look_append_nil (m : List (Nat × Blk)) : m ++ [] = m := List.append_nil m

theorem kμ_stays (S : Stays μ μ' I I' w w') (kd : Nat) : Stays (kμ kd μ) (kμ kd μ') (kI kd I) (kI kd I') w w' := by
  refine ⟨fun b l h => ?_, fun k h => ?_, fun k h => ?_⟩
  · unfold kμ at h ⊢; split
    · rename_i hk; rw [if_pos hk] at h; exact h
    · rename_i hk; rw [if_neg hk] at h; exact S.loc b l h
  · unfold kI at h ⊢; split
    · rename_i hk; rw [if_pos hk] at h; exact h
    · rename_i hk; rw [if_neg hk] at h; exact S.imm k h
  · unfold kI at h; split at h
    · exact h.elim
    · exact S.heap k h
/-- A block is as it says, in a later world that left it alone. -/
theorem Held.stays {B : Blk} {l : Loc} (S : Stays μ μ' I I' w w') (hb : w'.heap[l.blk]? = w.heap[l.blk]?) (h : Held w μ I B l) : Held w' μ' I' B l := by
  obtain ⟨C, T, fr, vs, h1, h2, h3, h4, h5, h6, h7⟩ := h
  exact ⟨C, T, fr, vs, by rw [hb, h1], h2, h3, h4, h5, VRs.stays _ (kμ_stays S B.kd) vs h6, h7⟩

theorem Keep.refl (M0 : Nat → Prop) (w : World) : Keep M0 w w := ⟨rfl, rfl, rfl, Nat.le_refl _, fun _ _ _ => rfl⟩
theorem Keep.trans' {w1 : World} (h : Keep M0 w0 w) (g : Keep noImm w w1) : Keep M0 w0 w1 :=
  ⟨g.os.trans h.os, g.tape.trans h.tape, g.output.trans h.output, Nat.le_trans h.size g.size, fun k hk hM => (g.block k (Nat.lt_of_lt_of_le hk h.size) (fun x => x)).trans (h.block k hk hM)⟩
theorem Keep.alloc (w : World) (o : Obj) : Keep noImm w (w.alloc o) :=
  ⟨rfl, rfl, rfl, by simp, fun k hk _ => by
    show (w.heap.push o)[k]? = _
    rw [Array.getElem?_push, if_neg (by omega)]⟩
theorem Keep.drew (w : World) : Keep noImm w w.drew := ⟨rfl, rfl, rfl, Nat.le_refl _, fun _ _ _ => rfl⟩

theorem SR.lt {b : Nat} {B : Blk} {l : Loc} (h : SR M0 A w0 w μ I m) (hb : look m b = some B) (hl : μ b = some l) (hn : l.isNil = false) : l.blk < w.heap.size := by
  obtain ⟨l', hl', hB⟩ := h.blks b B hb
  rw [hl] at hl'; injection hl' with e; subst e
  rcases hB with ⟨h1, _⟩ | ⟨_, ⟨C, T, fr, vs, h1, _⟩, _⟩
  · rw [hn] at h1; cases h1
  · by_cases hlt : l.blk < w.heap.size
    · exact hlt
    · rw [Array.getElem?_eq_none (by omega)] at h1; cases h1

/-- The world went on and left all that was there as it was; no own block was added. -/
theorem SR.keeps (h : SR M0 A w0 w μ I m) (k : Keep noImm w w') : SR M0 A w0 w' μ I m := by
  have S : Stays μ μ I I w w' := ⟨fun _ _ h => h, fun _ h => h, fun j hj => k.block j (h.immLt j hj) (fun x => x)⟩
  refine ⟨fun b B hb => ?_, h.inj, fun j hj => Nat.lt_of_lt_of_le (h.immLt j hj) k.size, h.immA, h.immN, h.keep.trans' k⟩
  obtain ⟨l, hl, hB⟩ := h.blks b B hb
  refine ⟨l, hl, ?_⟩
  rcases hB with h1 | ⟨h1, h2, h3, h4⟩
  · exact .inl h1
  · exact .inr ⟨h1, h2.stays S (k.block _ (h.lt hb hl h1) (fun x => x)), h3, h4⟩
theorem SR.stays (h : SR M0 A w0 w μ I m) (k : Keep noImm w w') : Stays μ μ I I w w' :=
  ⟨fun _ _ h => h, fun _ h => h, fun j hj => k.block j (h.immLt j hj) (fun x => x)⟩

def setLoc (μ : Locs) (q : Nat) (l : Loc) : Locs := fun b => if b = q then some l else μ b
theorem setLoc_self (μ : Locs) (q : Nat) (l : Loc) : setLoc μ q l q = some l := by simp [setLoc]
theorem setLoc_ne (μ : Locs) {q b : Nat} (l : Loc) (h : b ≠ q) : setLoc μ q l b = μ b := by simp [setLoc, h]
theorem setLoc_stays {q : Nat} (l : Loc) (hq : μ q = none) (hk : Keep noImm w w') (himm : ∀ k, I k → k < w.heap.size) : Stays μ (setLoc μ q l) I I w w' :=
  ⟨fun b l' hb => by
    by_cases e : b = q
    · subst e; rw [hq] at hb; cases hb
    · rw [setLoc_ne μ l e]; exact hb, fun _ h => h, fun j hj => hk.block j (himm j hj) (fun x => x)⟩

/-- A new block: the call's own. -/
theorem SR.new {q kd : Nat} {cs : List AV} {C : Array Value} {vs : List Value} {t : TypeId} {fr : Nat × Nat} (h : SR M0 A w0 w μ I m) (hq : μ q = none) (wk : World)
    (hwk : wk.heap[w.heap.size]? = some (.cells C t fr)) (hfr : fr = (0, 0) ∨ C.size ≤ fr.1) (hk : Keep noImm w wk)
    (hv : VRs w cs (kμ kd μ) (kI kd I) vs) (hC : ∀ (j : Nat) (x : Value), vs[j]? = some x → C[j]? = some x) (lim : Nat) (hlim : cs.length ≤ lim) (hlim2 : lim ≤ C.size) (hkd : kd = 2 → lim = cs.length) :
    SR M0 A w0 wk (setLoc μ q ⟨w.heap.size, 0, lim, false⟩) I (m ++ [(q, ⟨cs, kd, false⟩)]) ∧ Stays μ (setLoc μ q ⟨w.heap.size, 0, lim, false⟩) I I w wk := by
  have S := setLoc_stays (μ := μ) (I := I) ⟨w.heap.size, 0, lim, false⟩ hq hk h.immLt
  have hm : ∀ b B, look (m ++ [(q, (⟨cs, kd, false⟩ : Blk))]) b = some B → (look m b = some B ∧ b ≠ q) ∨ (b = q ∧ B = ⟨cs, kd, false⟩) := by
    intro b B hb
    rw [look_append] at hb
    cases hl : look m b with
    | some B' =>
      rw [hl] at hb
      obtain ⟨l, hl2, _⟩ := h.blks b B' hl
      refine .inl ⟨hb, fun e => ?_⟩
      subst e; rw [hq] at hl2; cases hl2
    | none =>
      rw [hl] at hb
      simp only [look] at hb
      split at hb
      · rename_i e
        injection hb with hb
        exact .inr ⟨by simpa using (beq_iff_eq.1 e).symm, hb.symm⟩
      · cases hb
  refine ⟨⟨fun b B hb => ?_, fun b b' B B' l l' hb hb' hne hfz hl hl' hn hn' => ?_, fun k hk' => ?_, h.immA, h.immN, h.keep.trans' hk⟩, S⟩
  · rcases hm b B hb with ⟨hb, hne⟩ | ⟨rfl, rfl⟩
    · obtain ⟨l, hl, hB⟩ := h.blks b B hb
      refine ⟨l, by rw [setLoc_ne μ _ hne]; exact hl, ?_⟩
      rcases hB with h1 | ⟨h1, h2, h3, h4⟩
      · exact .inl h1
      · exact .inr ⟨h1, h2.stays S (hk.block _ (h.lt hb hl h1) (fun x => x)), h3, h4⟩
    · refine ⟨_, setLoc_self _ _ _, .inr ⟨rfl, ⟨C, t, fr, vs, hwk, hlim2, hfr, by simpa using hlim, by simpa using hkd, VRs.stays _ (kμ_stays S kd) vs hv, by simpa using hC⟩, (fun e => by cases e), fun _ => ⟨fun hI => ?_, .inr h.keep.size⟩⟩⟩
      exact absurd (h.immLt _ hI) (by simp)
  · rcases hm b B hb with ⟨hb1, hne1⟩ | ⟨rfl, rfl⟩ <;> rcases hm b' B' hb' with ⟨hb2, hne2⟩ | ⟨rfl, rfl⟩
    · rw [setLoc_ne μ _ hne1] at hl; rw [setLoc_ne μ _ hne2] at hl'
      exact h.inj b b' B B' l l' hb1 hb2 hne hfz hl hl' hn hn'
    · rw [setLoc_ne μ _ hne1] at hl; rw [setLoc_self] at hl'
      injection hl' with e; subst e
      have := h.lt hb1 hl hn
      simp; omega
    · rw [setLoc_ne μ _ hne2] at hl'; rw [setLoc_self] at hl
      injection hl with e; subst e
      have := h.lt hb2 hl' hn'
      simp; omega
    · exact absurd rfl hne
  · have := h.immLt k hk'
    have := hk.size
    omega

theorem VR.ev {t : List AV} {a : Act} (ht : VRs w t μ I a.tmps.toList) (x : Operand) : VR w (ev t x) μ I (a.eval x) := by
  cases x with
  | tmp i =>
    simp only [AM.ev, Act.eval]
    cases h : t[i]? with
    | some c =>
      obtain ⟨y, hy, hv⟩ := ht.get h
      have e1 : t.getD i (.tup []) = c := by simp [List.getD, h]
      have e2 : a.tmps.getD i undef = y := by
        simp only [Array.getElem?_toList] at hy
        simp [hy]
      rw [e1, e2]; exact hv
    | none =>
      have e1 : t.getD i (.tup []) = .tup [] := by simp [List.getD, h]
      have hlen := ht.length
      have : t.length ≤ i := by
        rcases Nat.lt_or_ge i t.length with h' | h'
        · rw [List.getElem?_eq_getElem h'] at h; cases h
        · exact h'
      have e2 : a.tmps.getD i undef = undef := by
        simp only [Array.length_toList] at hlen
        have : a.tmps[i]? = none := by rw [Array.getElem?_eq_none]; omega
        simp [this]
      rw [e1, e2]
      simp [VR, VRs, undef]
  | const v =>
    simp only [AM.ev, Act.eval]
    unfold cst
    split <;> simp [VR]
  | global g => simp [AM.ev, VR]
  | func f =>
    simp only [AM.ev]
    split
    · rename_i hf
      simp [Act.eval, VR, VRs, mkFn, hf]
    · simp [VR]
end
end Go.AM
end
section
/- The abstract machine, part 4: each operation that writes nothing that was there. -/
set_option linter.unusedVariables false
set_option linter.unusedSimpArgs false
set_option linter.unnecessarySimpa false
namespace Go.AM
section
variable {P : Program} {T : Tab} {M0 A : Nat → Prop} {w0 w : World} {μ : Locs} {I : Nat → Prop} {m mv : List (Nat × Blk)}

theorem run_und {t : Nat} {d : TypeDesc} (h : P.underlying t = some d) (w : World) : (underlying t).run P w = .ok d w := by
  simp [underlying, h]
theorem run_isAggD {t : Nat} {d : TypeDesc} (h : P.underlying t = some d) (w : World) : (isAgg t).run P w = .ok (isAggD d) w := by
  simp only [isAgg, Sem.run_bind, run_und h, Result.andThen_ok]
  cases d <;> rfl
theorem run_size {t : Nat} {i : TypeInfo} (h : P.info? t = some i) (w : World) : (sizeOf t).run P w = .ok i.size w := by
  simp [sizeOf, typeInfo, h]
theorem run_tinfo {t : Nat} {i : TypeInfo} (h : P.info? t = some i) (w : World) : (typeInfo t).run P w = .ok i w := by
  simp [typeInfo, h]
theorem run_zero {t : Nat} {i : TypeInfo} {v : Value} (h : P.info? t = some i) (hz : i.zero = some v) (w : World) : (zeroValue t).run P w = .ok v w := by
  simp [zeroValue, typeInfo, h, hz]
theorem TabOK.size (TO : TabOK P T) {t : Nat} {cs : List AV} {b : Nat} (h : T.z t = some (cs, b)) (w : World) : (sizeOf t).run P w = .ok cs.length w := by
  obtain ⟨i, zv, hi, _, hs, _⟩ := TO.z t cs b h
  rw [run_size hi, hs]

theorem reach_ok (hS : SR M0 A w0 w μ I m) (hsub : ∀ b B, look mv b = some B → look m b = some B) {av : AV} {cs : List AV} {x : Value}
    (h : reach mv av = some cs) (hx : VR w av μ I x) : ∃ ad vs, x = .pointer (some ad) ∧ CellsAt w ad vs ∧ VRs w cs μ I vs := by
  cases av <;> simp only [reach] at h <;> try (cases h; done)
  case ptr b off =>
    simp only [Option.map_eq_some_iff] at h
    obtain ⟨B, hB, rfl⟩ := h
    obtain ⟨l, hl, hn, rfl⟩ := (by simpa only [VR] using hx : ∃ l, μ b = some l ∧ l.isNil = false ∧ x = .pointer (some ⟨l.blk, l.base + off, none⟩))
    obtain ⟨l', hl', hBO⟩ := hS.blks b B (hsub b B hB)
    rw [hl] at hl'; injection hl' with e; subst e
    rcases hBO with ⟨h1, _⟩ | ⟨_, ⟨C, t, fr, vs, h1, _, _, _, _, h5, h6⟩, _⟩
    · rw [hn] at h1; cases h1
    · refine ⟨_, vs.drop off, rfl, ?_, ?_⟩
      · intro j y hy
        rw [add_plain]
        rw [List.getElem?_drop] at hy
        simp [World.cell?, h1, Nat.add_assoc, h6 _ _ hy]
      · refine VRs.drop ?_ off
        have S1 : Stays (kμ B.kd μ) μ (kI B.kd I) I w w := by
          refine ⟨fun b l h => ?_, fun k h => ?_, fun _ _ => rfl⟩
          · unfold kμ at h; split at h
            · simp [noLocs] at h
            · exact h
          · unfold kI at h; split at h
            · exact h.elim
            · exact h
        exact VRs.stays _ S1 vs h5
  case rptr cs' =>
    injection h with h; subst h
    simp only [VR] at hx
    obtain ⟨ad, rfl, h⟩ := hx
    rcases h with rfl | ⟨vs, hI, hc, hv⟩
    · exact ⟨ad, [], rfl, by intro j x hx; simp at hx, VRs.nil⟩
    · exact ⟨ad, vs, rfl, hc, VRs.stays _ (Stays.locs μ I w) vs hv⟩

theorem run_loadN {ad : Addr} {vs : List Value} (h : CellsAt w ad vs) (n : Nat) (hn : n ≤ vs.length) : (loadCells ad n).run P w = .ok (vs.take n).toArray w := by
  have := run_loadCells_list (P := P) w ad (vs.take n) (h.take n)
  rwa [List.length_take, Nat.min_eq_left hn] at this

theorem loadA_ok (TO : TabOK P T) (hS : SR M0 A w0 w μ I m) (hsub : ∀ b B, look mv b = some B → look m b = some B) {ty : Nat} {av v : AV} {x : Value}
    (h : loadA T mv ty av = some v) (hx : VR w av μ I x) : ∃ y, (Instr.loadAt ty x).run P w = .ok y w ∧ VR w v μ I y := by
  unfold loadA at h
  split at h
  · rename_i d z by_ cs hu hz hr
    obtain ⟨ad, vs, rfl, hc, hv⟩ := reach_ok hS hsub hr hx
    have hA := run_isAggD (TO.u _ _ hu) w
    split at h
    · rename_i hd
      split at h
      · rename_i hlen
        injection h with h; subst h
        refine ⟨.agg (vs.take z.length).toArray, ?_, ?_⟩
        · simp [Instr.loadAt, Instr.sureAddr, loadVar, hA, hd, TO.size hz, run_loadN hc z.length (by rw [hv.length]; exact hlen)]
        · simp only [VR]; exact ⟨_, rfl, hv.take _⟩
      · cases h
    · rename_i hd
      cases cs with
      | nil => simp at h
      | cons c cs =>
        simp at h; subst h
        simp only [VRs] at hv
        obtain ⟨y, ys, rfl, h1, h2⟩ := hv
        refine ⟨y, ?_, h1⟩
        have := hc 0 y rfl
        simp only [Addr.add, if_true] at this
        simp [Instr.loadAt, Instr.sureAddr, loadVar, hA, hd, this]
  · cases h

/-! ### numbers, strings, structs -/
theorem run_eqIn_bool {ty : Nat} (h : P.underlying ty = some .bool) (d : Nat) (a b : Bool) (w : World) : (Op.equalIn (d + 1) ty (.bool a) (.bool b)).run P w = .ok (a == b) w := by
  simp only [Op.equalIn, Sem.run_bind, run_und h, Result.andThen_ok]; rfl
theorem run_eq_bool {ty : Nat} (h : P.underlying ty = some .bool) (a b : Bool) (w : World) : (Op.equal ty (.bool a) (.bool b)).run P w = .ok (a == b) w := by
  unfold Op.equal Op.maxDepth; exact run_eqIn_bool h 9999 a b w
theorem run_eqIn_ptr {ty e : Nat} (h : P.underlying ty = some (.pointer e)) (d : Nat) (a : Option Addr) (w : World) : (Op.equalIn (d + 1) ty (.pointer a) (.pointer none)).run P w = .ok a.isNone w := by
  cases a <;> (simp only [Op.equalIn, Sem.run_bind, run_und h, Result.andThen_ok]; rfl)
theorem run_eq_ptr {ty e : Nat} (h : P.underlying ty = some (.pointer e)) (a : Option Addr) (w : World) : (Op.equal ty (.pointer a) (.pointer none)).run P w = .ok a.isNone w := by
  unfold Op.equal Op.maxDepth; exact run_eqIn_ptr h 9999 a w
theorem bitA_ok {op : BinOp} {k : IntKind} {a b : Int} {v : AV} (h : bitA op k a b = some v) : ∃ y, (Op.intBits op k a b).run P w = .ok y w ∧ VR w v μ I y := by
  cases op <;> simp only [bitA] at h <;> first
    | (cases h; done)
    | (injection h with h; subst h; simp only [VR, exists_eq_right]; rfl)
theorem binA_ok (TO : TabOK P T) {op : BinOp} {ty : Nat} {p q : Operand} {x y : AV} {a b : Value} {v : AV} (h : binA T op ty x y = some v) (hx : VR w x μ I a) (hy : VR w y μ I b) :
    ∃ z, (do eqGuard op ty p q a b; binOp op ty a b : Sem Value).run P w = .ok z w ∧ VR w v μ I z := by
  unfold binA at h
  split at h
  · rename_i k n k' n'
    simp only [VR] at hx hy; subst hx; subst hy
    have hg : (eqGuard op ty p q (.int k n) (.int k' n')).run P w = .ok () w := by
      unfold eqGuard; split <;> rfl
    rw [Sem.run_bind, hg, Result.andThen_ok]
    split at h
    · rename_i hs
      unfold shiftA at h
      split at h
      · cases h
      · rename_i hneg
        cases op <;> simp [isShift] at hs <;> simp only at h <;> (injection h with h; subst h; simp only [VR, exists_eq_right]; simp [binOp, Op.shift, hneg])
    · rename_i hs
      split at h
      · rename_i hk
        subst hk
        cases op <;> simp [isShift] at hs <;> simp only [intA] at h <;> first
          | (split at h
             · cases h
             · rename_i hb; injection h with h; subst h; simp only [VR, exists_eq_right]; simp [binOp, Op.intDiv, hb])
          | (injection h with h; subst h; simp only [VR, exists_eq_right]; simp [binOp, Op.intArith, Op.intCmp]; done)
          | (obtain ⟨z, hz, hv⟩ := bitA_ok (P := P) (w := w) (μ := μ) (I := I) h; exact ⟨z, by simpa [binOp] using hz, hv⟩)
      · cases h
  · rename_i s t
    simp only [VR] at hx hy; subst hx; subst hy
    have hg : (eqGuard op ty p q (.string ⟨s.toArray⟩) (.string ⟨t.toArray⟩)).run P w = .ok () w := by
      unfold eqGuard; split <;> rfl
    rw [Sem.run_bind, hg, Result.andThen_ok]
    cases op <;> simp only [strA] at h <;> try (cases h; done)
    case add =>
      split at h
      · rename_i hlen
        injection h with h; subst h
        refine ⟨.string ⟨(s ++ t).toArray⟩, ?_, by simp [VR]⟩
        have h1 : (⟨s.toArray⟩ : ByteArray).size = s.length := by simp [ByteArray.size]
        have h2 : (⟨t.toArray⟩ : ByteArray).size = t.length := by simp [ByteArray.size]
        have h3 : (⟨s.toArray⟩ ++ ⟨t.toArray⟩ : ByteArray) = ⟨(s ++ t).toArray⟩ := by
          apply ByteArray.ext
          simp
        have h4 : ¬ (((s.length + t.length : Nat) : Int) > IntKind.i64.max) := by
          have : IntKind.i64.max = 9223372036854775807 := by decide
          omega
        simp only [binOp, Op.stringOp, h1, h2, h3, if_neg h4]
        rfl
      · cases h
    case eql => injection h with h; subst h; simp only [VR, exists_eq_right]; simp [binOp, Op.stringOp, ByteArray.toList_mk]
    case neq => injection h with h; subst h; simp only [VR, exists_eq_right]; simp [binOp, Op.stringOp, ByteArray.toList_mk]
  · rename_i s t
    simp only [VR] at hx hy; subst hx; subst hy
    have hg : (eqGuard op ty p q (.bool s) (.bool t)).run P w = .ok () w := by
      unfold eqGuard; split <;> rfl
    rw [Sem.run_bind, hg, Result.andThen_ok]
    split at h
    · rename_i hu
      injection h with h; subst h
      refine ⟨.bool (s == t), ?_, by simp [VR]⟩
      simp only [binOp, Sem.run_bind, run_eq_bool (TO.u _ _ hu), Result.andThen_ok]; rfl
    · rename_i hu
      injection h with h; subst h
      refine ⟨.bool (!(s == t)), ?_, by simp [VR]⟩
      simp only [binOp, Sem.run_bind, run_eq_bool (TO.u _ _ hu), Result.andThen_ok]; rfl
    · cases h
  · rename_i as bs
    simp only [VR] at hx hy
    obtain ⟨xs, rfl, hx⟩ := hx
    obtain ⟨ys, rfl, hy⟩ := hy
    split at h
    · rename_i ks heq
      have hgd := TO.guard ty ks heq
      have hg : (eqGuard op ty p q (.agg xs.toArray) (.agg ys.toArray)).run P w = .ok () w := by
        cases op <;> simp [eqGuard, hgd]
      rw [Sem.run_bind, hg, Result.andThen_ok]
      have heqr := fun e he => TO.eqs ty ks heq xs.toArray ys.toArray as bs e w he μ I (by simpa using hx) (by simpa using hy)
      split at h
      · simp only [Option.map_eq_some_iff] at h
        obtain ⟨e, he, rfl⟩ := h
        refine ⟨.bool e, ?_, by simp [VR]⟩
        simp only [binOp, Sem.run_bind, heqr e he, Result.andThen_ok]; rfl
      · simp only [Option.map_eq_some_iff] at h
        obtain ⟨e, he, rfl⟩ := h
        refine ⟨.bool (!e), ?_, by simp [VR]⟩
        simp only [binOp, Sem.run_bind, heqr e he, Result.andThen_ok]; rfl
      · cases h
    · cases h
  · simp only [VR] at hx hy; subst hx; subst hy
    have hg : (eqGuard op ty p q (.pointer none) (.pointer none)).run P w = .ok () w := by
      unfold eqGuard; split <;> rfl
    rw [Sem.run_bind, hg, Result.andThen_ok]
    split at h
    · rename_i hu; injection h with h; subst h
      refine ⟨.bool true, ?_, by simp [VR]⟩
      simp only [binOp, Sem.run_bind, run_eq_ptr (TO.u _ _ hu), Result.andThen_ok]; rfl
    · rename_i hu; injection h with h; subst h
      refine ⟨.bool false, ?_, by simp [VR]⟩
      simp only [binOp, Sem.run_bind, run_eq_ptr (TO.u _ _ hu), Result.andThen_ok]; rfl
    · cases h
  · simp only [VR] at hx hy; subst hy
    obtain ⟨l, hl, hn, rfl⟩ := hx
    have hg : ∀ ad, (eqGuard op ty p q (.pointer (some ad)) (.pointer none)).run P w = .ok () w := by
      intro ad; unfold eqGuard; split <;> rfl
    rw [Sem.run_bind, hg, Result.andThen_ok]
    split at h
    · rename_i hu; injection h with h; subst h
      refine ⟨.bool false, ?_, by simp [VR]⟩
      simp only [binOp, Sem.run_bind, run_eq_ptr (TO.u _ _ hu), Result.andThen_ok]; rfl
    · rename_i hu; injection h with h; subst h
      refine ⟨.bool true, ?_, by simp [VR]⟩
      simp only [binOp, Sem.run_bind, run_eq_ptr (TO.u _ _ hu), Result.andThen_ok]; rfl
    · cases h
  · cases h

theorem unA_ok {op : UnOp} {x : AV} {a : Value} {v : AV} (h : unA op x = some v) (hx : VR w x μ I a) :
    ∃ z, (Op.unary op a).run P w = .ok z w ∧ VR w v μ I z := by
  unfold unA at h
  split at h
  · simp only [VR] at hx; subst hx
    injection h with h; subst h
    simp only [VR, exists_eq_right]; rfl
  · simp only [VR] at hx; subst hx
    exact bitA_ok h
  · simp only [VR] at hx; subst hx
    injection h with h; subst h
    simp only [VR, exists_eq_right]; rfl
  · cases h
end
end Go.AM
end
section
/- The abstract machine, part 5: parts, addresses, cuts, conversions, structs that are built. -/
set_option linter.unusedVariables false
set_option linter.unusedSimpArgs false
set_option linter.unnecessarySimpa false
namespace Go.AM
section
variable {P : Program} {T : Tab} {M0 A : Nat → Prop} {w0 w : World} {μ : Locs} {I : Nat → Prop} {m mv : List (Nat × Blk)}

theorem arr_get {xs : List Value} {i : Nat} : xs.toArray[i]? = xs[i]? := by simp

theorem partA_ok (TO : TabOK P T) {ty off : Nat} {cs : List AV} {vs : List Value} {v : AV} (h : partA T ty cs off = some v) (hv : VRs w cs μ I vs) :
    ∃ y, (part ty vs.toArray off).run P w = .ok y w ∧ VR w v μ I y := by
  unfold partA at h
  split at h
  · rename_i d z by_ hu hz
    have hA := run_isAggD (TO.u _ _ hu) w
    split at h
    · rename_i hd
      split at h
      · rename_i hlen
        injection h with h; subst h
        refine ⟨.agg ((vs.drop off).take z.length).toArray, ?_, ?_⟩
        · simp only [part, Sem.run_bind, hA, Result.andThen_ok, hd, if_true, TO.size hz, Sem.run_pure]
          congr 2
          apply Array.ext'
          simp [List.extract_eq_take_drop]
        · simp only [VR]; exact ⟨_, rfl, (hv.drop _).take _⟩
      · cases h
    · rename_i hd
      obtain ⟨y, hy, hvy⟩ := hv.get h
      refine ⟨y, ?_, hvy⟩
      simp [part, hA, hd, hy]
  · cases h

theorem indexA_ok (TO : TabOK P T) {ty : Nat} {x i v : AV} {a b : Value} (h : indexA T ty x i = some v) (hx : VR w x μ I a) (hi : VR w i μ I b) :
    ∃ y, (Instr.index ty a b).run P w = .ok y w ∧ VR w v μ I y := by
  unfold indexA at h
  split at h
  · rename_i n e cs k i' hu
    simp only [VR] at hx hi; subst hi
    obtain ⟨vs, rfl, hv⟩ := hx
    split at h
    · rename_i z by_ hz
      split at h
      · rename_i hb
        obtain ⟨y, hy, hvy⟩ := partA_ok TO h hv
        refine ⟨y, ?_, hvy⟩
        simp only [Instr.index, asIntOf, Sem.run_bind, Sem.run_pure, Result.andThen_ok, run_und (TO.u _ _ hu), if_pos hb, TO.size hz, hy]
      · cases h
    · cases h
  · rename_i s k i' hu
    simp only [VR] at hx hi; subst hi; subst hx
    split at h
    · rename_i hb
      simp only [Option.map_eq_some_iff] at h
      obtain ⟨c, hc, rfl⟩ := h
      refine ⟨.int .u8 c.toNat, ?_, by simp [VR]⟩
      have : (⟨s.toArray⟩ : ByteArray)[i'.toNat]? = some c := by
        have hlt : i'.toNat < s.length := by
          rcases Nat.lt_or_ge i'.toNat s.length with h' | h'
          · exact h'
          · rw [List.getElem?_eq_none h'] at hc; cases hc
        have hlt2 : i'.toNat < (⟨s.toArray⟩ : ByteArray).size := by simpa [ByteArray.size] using hlt
        rw [getElem?_pos (⟨s.toArray⟩ : ByteArray) i'.toNat hlt2]
        rw [List.getElem?_eq_getElem hlt] at hc
        injection hc with hc
        congr 1
      simp only [Instr.index, asIntOf, Sem.run_bind, Sem.run_pure, Result.andThen_ok, run_und (TO.u _ _ hu), if_pos hb, this]
    · cases h
  · cases h

theorem fieldA_ok (TO : TabOK P T) {ty f : Nat} {x v : AV} {a : Value} (h : fieldA T ty x f = some v) (hx : VR w x μ I a) :
    ∃ y, (Instr.field ty a f).run P w = .ok y w ∧ VR w v μ I y := by
  unfold fieldA at h
  split at h
  · rename_i fs cs hu
    simp only [VR] at hx
    obtain ⟨vs, rfl, hv⟩ := hx
    split at h
    · rename_i fd hf
      obtain ⟨y, hy, hvy⟩ := partA_ok TO h hv
      refine ⟨y, ?_, hvy⟩
      simp only [Instr.field, Sem.run_bind, run_und (TO.u _ _ hu), Result.andThen_ok, hf, asAgg, Sem.run_pure, hy]
    · cases h
  · cases h

theorem rptr_mono {cs ds : List AV} {ad : Addr} (n : Nat) (hd : ds = cs.drop n) (h : cs = [] ∨ ∃ vs, I ad.block ∧ CellsAt w ad vs ∧ VRs w cs noLocs I vs) : VR w (.rptr ds) μ I (.pointer (some (ad.add n))) := by
  subst hd
  simp only [VR]
  refine ⟨_, rfl, ?_⟩
  rcases h with rfl | ⟨vs, hI, hc, hv⟩
  · left; simp
  · exact .inr ⟨vs.drop n, by rw [add_block]; exact hI, hc.drop n, hv.drop n⟩

theorem ptr_add {b off n : Nat} {l : Loc} (hl : μ b = some l) (hn : l.isNil = false) : VR w (.ptr b (off + n)) μ I (.pointer (some ((⟨l.blk, l.base + off, none⟩ : Addr).add n))) := by
  simp only [VR]
  exact ⟨l, hl, hn, by rw [add_plain, Nat.add_assoc]⟩

theorem fieldAddrA_ok (TO : TabOK P T) {s f : Nat} {x v : AV} {a : Value} (h : fieldAddrA T s x f = some v) (hx : VR w x μ I a) :
    ∃ y, (Instr.fieldAt s a f).run P w = .ok y w ∧ VR w v μ I y := by
  unfold fieldAddrA at h
  split at h
  · rename_i fs hu
    split at h
    · rename_i fd hf
      have hfp : ∀ (ad : Addr) z by_, T.z fd.type = some (z, by_) → z.length ≠ 0 → (Instr.fieldAt s (.pointer (some ad)) f).run P w = .ok (.pointer (some (ad.add fd.offset))) w := by
        intro ad z by_ hz hne
        simp only [Instr.fieldAt, Sem.run_bind, run_und (TO.u _ _ hu), Result.andThen_ok, hf, Instr.sureAddr, Sem.run_pure, fieldPlace, TO.size hz, Sem.run_ite, if_neg hne]
      split at h
      · rename_i z by_ b off hz
        split at h
        · cases h
        · rename_i hne
          injection h with h; subst h
          simp only [VR] at hx
          obtain ⟨l, hl, hn, rfl⟩ := hx
          exact ⟨_, hfp _ z by_ hz hne, ptr_add hl hn⟩
      · rename_i z by_ cs hz
        split at h
        · cases h
        · rename_i hne
          injection h with h; subst h
          simp only [VR] at hx
          obtain ⟨ad, rfl, hx⟩ := hx
          exact ⟨_, hfp _ z by_ hz hne, rptr_mono _ rfl hx⟩
      · cases h
    · cases h
  · cases h

theorem indexAddrA_ok (TO : TabOK P T) {ty : Nat} {x i v : AV} {a b : Value} (h : indexAddrA T ty x i = some v) (hx : VR w x μ I a) (hi : VR w i μ I b) :
    ∃ y, (Instr.indexAt ty a b).run P w = .ok y w ∧ VR w v μ I y := by
  unfold indexAddrA at h
  split at h
  · rename_i n e k i' hu
    simp only [VR] at hi; subst hi
    split at h
    · cases h
    · rename_i z by_ hz
      split at h
      · rename_i hb
        have hrun : ∀ ad : Addr, (Instr.indexAt ty (.pointer (some ad)) (.int k i')).run P w = .ok (.pointer (some (ad.add (i'.toNat * z.length)))) w := by
          intro ad
          simp only [Instr.indexAt, asIntOf, Sem.run_bind, Sem.run_pure, Result.andThen_ok, run_und (TO.u _ _ hu), Instr.sureAddr, if_pos hb, TO.size hz]
        split at h
        · injection h with h; subst h
          simp only [VR] at hx
          obtain ⟨l, hl, hn, rfl⟩ := hx
          exact ⟨_, hrun _, ptr_add hl hn⟩
        · injection h with h; subst h
          simp only [VR] at hx
          obtain ⟨ad, rfl, hx⟩ := hx
          exact ⟨_, hrun _, rptr_mono _ rfl hx⟩
        · cases h
      · cases h
  · rename_i e k i' hu
    simp only [VR] at hi; subst hi
    split at h
    · rename_i z by_ fl cs len hz
      split at h
      · rename_i hb
        injection h with h; subst h
        simp only [VR] at hx
        obtain ⟨a0, cap, rfl, hl, hn, hx⟩ := hx
        cases a0 with
        | none => have := hn rfl; omega
        | some ad =>
          refine ⟨.pointer (some (ad.add (i'.toNat * z.length))), ?_, ?_⟩
          · simp only [Instr.indexAt, asIntOf, Sem.run_bind, Sem.run_pure, Result.andThen_ok, run_und (TO.u _ _ hu), if_pos hb, TO.size hz]
          · refine rptr_mono _ rfl ?_
            rcases hx with h | ⟨ad', vs, he, hI, hc, hv⟩
            · exact .inl h
            · injection he with he; subst he
              refine .inr ⟨vs, hI, hc, VRs.stays _ (Stays.imms _ _ fun k hk => ?_) vs hv⟩
              cases fl
              · exact hk
              · exact hk.elim
      · cases h
    · rename_i z by_ b off len sz hz
      split at h
      · rename_i hb
        injection h with h; subst h
        obtain ⟨rfl, hb⟩ := hb
        simp only [VR] at hx
        obtain ⟨l, hl, ⟨_, ⟨a', rfl⟩, _, h0⟩ | ⟨hn, cap, rfl, hcap, hlim⟩⟩ := hx
        · omega
        · refine ⟨_, ?_, ptr_add hl hn⟩
          simp only [Instr.indexAt, asIntOf, Sem.run_bind, Sem.run_pure, Result.andThen_ok, run_und (TO.u _ _ hu), if_pos hb, TO.size hz]
      · cases h
    · cases h
  · cases h

/-- A bound of a cut. -/
theorem run_bound {x : Value} {k : IntKind} {n : Int} {y : Nat} {code : BoundsCode} (hx : x = .int k n) (h0 : 0 ≤ n) (h1 : n ≤ y) : (Instr.sliceBound x y code).run P w = .ok n.toNat w := by
  subst hx
  simp [Instr.sliceBound, asIntOf, h0, h1]
def BoundIs (x : Option Value) (n : Option Int) : Prop := match x, n with
  | none, none => True
  | some v, some n => ∃ k, v = .int k n
  | _, _ => False
theorem optEv_ok {t : List AV} {a : Act} (ht : VRs w t μ I a.tmps.toList) {x : Option Operand} {n : Option Int} (h : optEv t x = some n) : BoundIs (x.map a.eval) n := by
  cases x with
  | none => simp only [optEv] at h; injection h with h; subst h; trivial
  | some x =>
    simp only [optEv] at h
    have := VR.ev ht x
    split at h
    · rename_i k n' he
      injection h with h; subst h
      rw [he] at this
      simp only [VR] at this
      exact ⟨k, this⟩
    · cases h
theorem run_bounds2 {isS : Bool} {len cap : Nat} {lo hi : Option Value} {l h : Option Int} (hl : BoundIs lo l) (hh : BoundIs hi h)
    (h1 : 0 ≤ h.getD len) (h2 : h.getD len ≤ cap) (h3 : 0 ≤ l.getD 0) (h4 : l.getD 0 ≤ h.getD len) :
    (Instr.sliceBounds isS len cap lo hi none).run P w = .ok ((l.getD 0).toNat, (h.getD len).toNat, cap) w := by
  have hH : ∀ v : Value, hi = some v → ∃ k n, v = .int k n ∧ h = some n := by
    intro v e; subst e
    cases h <;> simp only [BoundIs] at hh
    obtain ⟨k, rfl⟩ := hh
    exact ⟨k, _, rfl, rfl⟩
  have hL : ∀ v : Value, lo = some v → ∃ k n, v = .int k n ∧ l = some n := by
    intro v e; subst e
    cases l <;> simp only [BoundIs] at hl
    obtain ⟨k, rfl⟩ := hl
    exact ⟨k, _, rfl, rfl⟩
  have hH0 : hi = none → h = none := by
    intro e; subst e; cases h <;> simp only [BoundIs] at hh; rfl
  have hL0 : lo = none → l = none := by
    intro e; subst e; cases l <;> simp only [BoundIs] at hl; rfl
  cases hi with
  | none =>
    obtain rfl := hH0 rfl
    simp only [Option.getD_none] at h1 h2 h4
    cases lo with
    | none =>
      obtain rfl := hL0 rfl
      simp [Instr.sliceBounds]
    | some v =>
      obtain ⟨k, n, rfl, rfl⟩ := hL v rfl
      simp only [Option.getD_some] at h3 h4
      simp only [Instr.sliceBounds, Sem.run_bind, Sem.run_pure, Result.andThen_ok, Option.isSome_none, Bool.false_eq_true, if_false, run_bound (P := P) (w := w) (k := k) rfl h3 h4, Option.getD_some, Option.getD_none, Int.toNat_natCast]
  | some v =>
    obtain ⟨k, n, rfl, rfl⟩ := hH v rfl
    simp only [Option.getD_some] at h1 h2 h4
    cases lo with
    | none =>
      obtain rfl := hL0 rfl
      simp only [Instr.sliceBounds, Sem.run_bind, Sem.run_pure, Result.andThen_ok, run_bound (P := P) (w := w) (k := k) rfl h1 h2, Option.getD_some, Option.getD_none, Int.toNat_zero]
    | some v =>
      obtain ⟨k', n', rfl, rfl⟩ := hL v rfl
      simp only [Option.getD_some] at h3 h4
      have h4' : n' ≤ ((n.toNat : Nat) : Int) := by omega
      simp only [Instr.sliceBounds, Sem.run_bind, Sem.run_pure, Result.andThen_ok, Option.isSome_none, Bool.false_eq_true, if_false, run_bound (P := P) (w := w) (k := k) rfl h1 h2, run_bound (P := P) (w := w) (k := k') rfl h3 h4', Option.getD_some]

theorem sliceA_ok (TO : TabOK P T) (hS : SR M0 A w0 w μ I m) (hsub : ∀ b B, look mv b = some B → look m b = some B) {ty : Nat} {x v : AV} {a : Value} {lo hi mx : Option Value} {l h mm : Option Int} (hl : BoundIs lo l) (hh : BoundIs hi h) (hm : BoundIs mx mm)
    (hs : sliceA T mv ty x l h mm = some v) (hx : VR w x μ I a) : ∃ y, (Instr.sliceAt ty a lo hi mx).run P w = .ok y w ∧ VR w v μ I y := by
  have hmn : mm.isSome = false → mx = none := by
    intro e
    cases mx <;> cases mm <;> simp_all [BoundIs]
  unfold sliceA at hs
  split at hs
  · rename_i s hu
    simp only [VR] at hx; subst hx
    split at hs
    · cases hs
    · rename_i hmm
      obtain rfl := hmn (by simpa using hmm)
      simp only at hs
      split at hs
      · rename_i hb
        injection hs with hs; subst hs
        obtain ⟨h1, h2, h3, h4⟩ := hb
        have hsz : (⟨s.toArray⟩ : ByteArray).size = s.length := by simp [ByteArray.size]
        refine ⟨_, ?_, by simp only [VR]; rfl⟩
        simp only [Instr.sliceAt, Sem.run_bind, run_und (TO.u _ _ hu), Result.andThen_ok, Instr.slice, Option.isSome_none, Bool.false_eq_true, if_false, hsz,
          run_bounds2 (P := P) (w := w) (isS := false) (len := s.length) (cap := s.length) hl hh h1 h2 h3 h4, Sem.run_pure]
        rw [Lib.extract_eq]
      · cases hs
  · rename_i e fl cs len hu
    split at hs
    · cases hs
    · rename_i z by_ hz
      simp only at hs
      split at hs
      · cases hs
      · rename_i hmm
        obtain rfl := hmn (by simpa using hmm)
        split at hs
        · rename_i hb
          obtain ⟨h1, h2, h3, h4⟩ := hb
          simp only [VR] at hx
          obtain ⟨a0, cap, rfl, hcap, hnil, hx⟩ := hx
          have hrun : (Instr.sliceAt ty (.slice a0 len cap) lo hi none).run P w = .ok (.slice (if cap = (l.getD 0).toNat then a0 else a0.map (·.add ((l.getD 0).toNat * z.length))) ((h.getD len).toNat - (l.getD 0).toNat) (cap - (l.getD 0).toNat)) w := by
            simp only [Instr.sliceAt, Sem.run_bind, run_und (TO.u _ _ hu), Result.andThen_ok, Instr.slice,
              run_bounds2 (P := P) (w := w) (isS := true) (len := len) (cap := cap) hl hh h1 (by omega) h3 h4, Sem.run_pure, TO.size hz]
          refine ⟨_, hrun, ?_⟩
          split at hs
          · rename_i heq
            injection hs with hs; subst hs
            simp only [VR]
            exact ⟨_, _, by rw [show (h.getD len).toNat - (l.getD 0).toNat = 0 by omega], by omega, by simp, by simp⟩
          · rename_i hne
            injection hs with hs; subst hs
            have hlt : (l.getD 0).toNat ≠ cap := by omega
            rw [if_neg (Ne.symm hlt)]
            cases a0 with
            | none => have := hnil rfl; omega
            | some ad =>
              simp only [VR]
              refine ⟨_, _, by rw [show (h.getD len - l.getD 0).toNat = (h.getD len).toNat - (l.getD 0).toNat by omega], by omega, (fun e => by simp at e), ?_⟩
              rcases hx with rfl | ⟨ad', vs, he, hI, hc, hv⟩
              · left; simp
              · injection he with he; subst he
                exact .inr ⟨_, _, rfl, by rw [add_block]; exact hI, ((hc.take ((h.getD len).toNat * z.length)).drop _), (hv.take _).drop _⟩
        · cases hs
  · rename_i e b0 off len sz hu
    split at hs
    · cases hs
    · rename_i z by_ hz
      simp only at hs
      split at hs
      · cases hs
      · rename_i hmm
        obtain rfl := hmn (by simpa using hmm)
        split at hs
        · rename_i hb
          obtain ⟨rfl, h1, h2, h3, h4⟩ := hb
          have hrun : ∀ a0 cap, len ≤ cap → (Instr.sliceAt ty (.slice a0 len cap) lo hi none).run P w = .ok (.slice (if cap = (l.getD 0).toNat then a0 else a0.map (·.add ((l.getD 0).toNat * z.length))) ((h.getD len).toNat - (l.getD 0).toNat) (cap - (l.getD 0).toNat)) w := by
            intro a0 cap hcap
            simp only [Instr.sliceAt, Sem.run_bind, run_und (TO.u _ _ hu), Result.andThen_ok, Instr.slice,
              run_bounds2 (P := P) (w := w) (isS := true) (len := len) (cap := cap) hl hh h1 (by omega) h3 h4, Sem.run_pure, TO.size hz]
          simp only [VR] at hx
          obtain ⟨lc, hlc, ⟨hn, ⟨a', rfl⟩, rfl, rfl⟩ | ⟨hn, cap, rfl, hcap, hlim⟩⟩ := hx
          · refine ⟨_, hrun a' 0 (Nat.le_refl _), ?_⟩
            have hl0 : l.getD 0 = 0 := by omega
            have hh0 : (h.getD ((0 : Nat) : Int)).toNat = 0 := by omega
            rw [if_pos hl0] at hs
            injection hs with hs; subst hs
            simp only [hl0, hh0, Int.toNat_zero, if_true]
            simp only [VR]
            exact ⟨lc, hlc, .inl ⟨hn, ⟨_, rfl⟩, by simp, by simpa using hh0⟩⟩
          · refine ⟨_, hrun _ cap hcap, ?_⟩
            split at hs
            · rename_i hl0
              injection hs with hs; subst hs
              simp only [VR]
              refine ⟨lc, hlc, .inr ⟨hn, cap, ?_, by omega, hlim⟩⟩
              simp [hl0, Addr.add]
            · rename_i hl0
              split at hs
              · rename_i heq
                injection hs with hs; subst hs
                simp only [VR]
                exact ⟨_, _, by rw [show (h.getD len).toNat - (l.getD 0).toNat = 0 by omega], by omega, by simp, by simp⟩
              · rename_i hne
                injection hs with hs; subst hs
                have hlt : (l.getD 0).toNat ≠ cap := by omega
                rw [if_neg (Ne.symm hlt)]
                simp only [VR]
                refine ⟨lc, hlc, .inr ⟨hn, cap - (l.getD 0).toNat, ?_, by omega, ?_⟩⟩
                · simp only [Option.map_some, add_plain]
                  rw [show (h.getD len - l.getD 0).toNat = (h.getD len).toNat - (l.getD 0).toNat by omega, Nat.add_assoc]
                · have : (l.getD 0).toNat * z.length + (cap - (l.getD 0).toNat) * z.length = cap * z.length := by
                    rw [← Nat.add_mul]; congr 1; omega
                  omega
        · cases hs
  · rename_i n e b off hu
    split at hs
    · rename_i z by_ B hz hB
      split at hs
      · rename_i hb
        injection hs with hs; subst hs
        obtain ⟨hn0, hkd, hlen⟩ := hb
        have e1 : lo = none := by cases lo <;> simp_all [BoundIs]
        have e2 : hi = none := by cases hi <;> simp_all [BoundIs]
        have e3 : mx = none := by cases mx <;> simp_all [BoundIs]
        subst e1; subst e2; subst e3
        simp only [VR] at hx
        obtain ⟨lc, hlc, hn, rfl⟩ := hx
        obtain ⟨lc', hlc', hBO⟩ := hS.blks b B (hsub b B hB)
        rw [hlc] at hlc'; injection hlc' with e; subst e
        rcases hBO with ⟨h1, _⟩ | ⟨_, ⟨C, t, fr, vs, _, _, _, _, h5, _⟩, _⟩
        · rw [hn] at h1; cases h1
        · refine ⟨.slice (some ⟨lc.blk, lc.base + off, none⟩) n n, ?_, ?_⟩
          · simp [Instr.sliceAt, run_und (TO.u _ _ hu), Instr.sureAddr, Instr.sliceBounds, TO.size hz, hn0, Addr.add]
          · simp only [VR]
            have := h5 hkd
            exact ⟨lc, hlc, .inr ⟨hn, n, rfl, Nat.le_refl _, by omega⟩⟩
      · cases hs
    · cases hs
  · cases hs
end
end Go.AM
end
section
/- The abstract machine, part 6: structs and rows that are built, conversions, built-in functions. -/
set_option linter.unusedVariables false
set_option linter.unusedSimpArgs false
set_option linter.unnecessarySimpa false
namespace Go.AM
section
variable {P : Program} {T : Tab} {M0 A : Nat → Prop} {w0 w : World} {μ : Locs} {I : Nat → Prop} {m mv : List (Nat × Blk)}

theorem foldl_setL (off : Nat) : ∀ (l : List Value) (k : Nat) (cs : Array Value) (j : Nat),
    ((l.zipIdx k).foldl (fun cs (x : Value × Nat) => cs.setIfInBounds (off + x.2) x.1) cs)[j]? = if off + k ≤ j ∧ j < off + k + l.length ∧ j < cs.size then l[j - (off + k)]? else cs[j]?
  | [], k, cs, j => by simp; intro h1 h2; omega
  | x :: l, k, cs, j => by
    simp only [List.zipIdx_cons, List.foldl_cons]
    rw [foldl_setL off l (k + 1) _ j]
    simp only [Array.size_setIfInBounds, Array.getElem?_setIfInBounds, List.length_cons]
    by_cases h1 : j = off + k
    · subst h1
      by_cases h2 : off + k < cs.size
      · rw [if_neg (by omega)]
        simp [h2]
      · rw [if_neg (by omega)]
        simp [h2]
    · by_cases h3 : off + (k + 1) ≤ j ∧ j < off + (k + 1) + l.length ∧ j < cs.size
      · rw [if_pos h3, if_pos ⟨by omega, by omega, h3.2.2⟩]
        rw [show j - (off + k) = (j - (off + (k + 1))) + 1 by omega, List.getElem?_cons_succ]
      · rw [if_neg h3, if_neg (by omega), if_neg (by omega)]

theorem cellsOf_ok {c : AV} {cs : List AV} {v : Value} (h : cellsOf c = some cs) (hv : VR w c μ I v) : VRs w cs μ I v.cells.toList ∧ cellL cs = true := by
  have hc : ∀ c : AV, cellish c = true → ∀ v, VR w c μ I v → VRs w [c] μ I v.cells.toList ∧ cellL [c] = true := by
    intro c hc v hv
    have h1 := hv.oneCell hc
    have : v.cells = #[v] := by cases v <;> first | rfl | (simp [Value.oneCell'] at h1; done)
    rw [this]
    exact ⟨VRs.cons hv VRs.nil, by simp [cellL, hc]⟩
  unfold cellsOf at h
  split at h
  · rename_i ds
    split at h
    · rename_i hd
      injection h with h; subst h
      simp only [VR] at hv
      obtain ⟨vs, rfl, hv⟩ := hv
      exact ⟨by simpa [Value.cells] using hv, hd⟩
    · cases h
  · split at h
    · rename_i hd
      injection h with h; subst h
      exact hc _ hd v hv
    · cases h

theorem cellL_append {a b : List AV} (ha : cellL a = true) (hb : cellL b = true) : cellL (a ++ b) = true := by
  induction a with
  | nil => exact hb
  | cons c a ih => simp only [cellL, Bool.and_eq_true, List.cons_append] at ha ⊢; exact ⟨ha.1, ih ha.2⟩
theorem cellL_take {a : List AV} (n : Nat) (ha : cellL a = true) : cellL (a.take n) = true := by
  induction a generalizing n with
  | nil => simp [cellL]
  | cons c a ih =>
    cases n with
    | zero => simp [cellL]
    | succ n => simp only [cellL, Bool.and_eq_true, List.take_succ_cons] at ha ⊢; exact ⟨ha.1, ih n ha.2⟩
theorem cellL_drop {a : List AV} (n : Nat) (ha : cellL a = true) : cellL (a.drop n) = true := by
  induction a generalizing n with
  | nil => simp [cellL]
  | cons c a ih =>
    cases n with
    | zero => exact ha
    | succ n => simp only [cellL, Bool.and_eq_true, List.drop_succ_cons] at ha ⊢; exact ih n ha.2

theorem fill_ok {place : Nat → Option (Nat × Nat)} : ∀ (ps : List (Nat × AV)) (qs : List (Nat × Value)) (cells out : List AV) (cs : Array Value),
    VRs w cells μ I cs.toList → cellL cells = true → fillA place cells ps = some out → ps.length = qs.length → (∀ (j : Nat) (p : Nat × AV) (q : Nat × Value), ps[j]? = some p → qs[j]? = some q → p.1 = q.1 ∧ VR w p.2 μ I q.2) →
    ∃ cs', Instr.fill place cs qs = some cs' ∧ VRs w out μ I cs'.toList ∧ cellL out = true
  | [], qs, cells, out, cs, hv, hcl, h, hl, _ => by
    simp [fillA] at h; subst h
    simp at hl
    have : qs = [] := by cases qs <;> simp_all
    subst this
    exact ⟨cs, rfl, hv, hcl⟩
  | (i, p) :: ps, [], cells, out, cs, hv, hcl, h, hl, _ => by simp at hl
  | (i, p) :: ps, (i', q) :: qs, cells, out, cs, hv, hcl, h, hl, hps => by
    obtain ⟨rfl, hpq⟩ := hps 0 (i, p) (i', q) rfl rfl
    simp only [fillA] at h
    split at h
    · rename_i off size ds hpl hds
      split at h
      · rename_i hb
        obtain ⟨hsz, hbd⟩ := hb
        obtain ⟨hdv, hdc⟩ := cellsOf_ok hds hpq
        have hcs := hv.length
        have hqs := hdv.length
        simp only [Array.length_toList] at hcs hqs
        have hfold : (q.cells.zipIdx.foldl (fun cs (x : Value × Nat) => cs.setIfInBounds (off + x.2) x.1) cs).toList = cs.toList.take off ++ q.cells.toList ++ cs.toList.drop (off + size) := by
          apply List.ext_getElem?
          intro j
          rw [← Array.foldl_toList, Array.toList_zipIdx, Array.getElem?_toList, foldl_setL]
          simp only [List.getElem?_append, List.length_append, List.length_take, Array.length_toList, List.getElem?_take, List.getElem?_drop, Nat.add_zero]
          have hmin : min off cs.size = off := by omega
          rw [hmin]
          by_cases h1 : j < off
          · rw [if_neg (by omega), if_pos (by omega), if_pos (by omega), if_pos h1]; simp
          · by_cases h2 : j < off + q.cells.size
            · rw [if_pos ⟨by omega, h2, by omega⟩, if_pos (by omega), if_neg h1]
            · rw [if_neg (by omega), if_neg (by omega)]
              rw [show off + size + (j - (off + q.cells.size)) = j by omega]
              simp
        obtain ⟨cs', hf, hv', hc'⟩ := fill_ok ps qs _ out (q.cells.zipIdx.foldl (fun cs (x : Value × Nat) => cs.setIfInBounds (off + x.2) x.1) cs)
          (by rw [hfold]; exact ((hv.take off).append hdv).append (hv.drop _)) (cellL_append (cellL_append (cellL_take _ hcl) hdc) (cellL_drop _ hcl)) h (by simpa using hl) (fun j p q hp hq => hps (j + 1) p q (by simpa using hp) (by simpa using hq))
        refine ⟨cs', ?_, hv', hc'⟩
        simp only [Instr.fill, hpl]
        rw [if_neg (by simp; omega)]
        exact hf
      · cases h
    · cases h

theorem evparts {t : List AV} {a : Act} (ht : VRs w t μ I a.tmps.toList) (ps : Array (Nat × Operand)) :
    ∀ (j : Nat) (p : Nat × AV) (q : Nat × Value), (ps.toList.map fun p => (p.1, ev t p.2))[j]? = some p → (ps.map fun (i, x) => (i, a.eval x)).toList[j]? = some q → p.1 = q.1 ∧ VR w p.2 μ I q.2 := by
  intro j p q hp hq
  simp only [List.getElem?_map, Option.map_eq_some_iff] at hp
  obtain ⟨r, hr, rfl⟩ := hp
  simp only [Array.toList_map, List.getElem?_map, Option.map_eq_some_iff] at hq
  obtain ⟨r', hr', rfl⟩ := hq
  rw [hr] at hr'; injection hr' with e; subst e
  exact ⟨rfl, VR.ev ht _⟩

theorem zero_cells (TO : TabOK P T) {ty : Nat} {z : List AV} {by_ : Nat} (hz : T.z ty = some (z, by_)) :
    ∃ zv, (∀ w, (zeroValue ty).run P w = .ok zv w) ∧ (∀ w, VRs w z noLocs noImm zv.cells.toList) ∧ cellL z = true ∧ zv.cells.size = z.length := by
  obtain ⟨i, zv, hi, hzv, hs, hb, hv, hc⟩ := TO.z _ _ _ hz
  refine ⟨zv, fun w => run_zero hi hzv w, hv, hc, ?_⟩
  have := (hv default).length
  simpa using this
theorem VRs.flat_to {cs : List AV} {vs : List Value} (h : VRs w cs noLocs noImm vs) (μ : Locs) (I : Nat → Prop) : VRs w cs μ I vs :=
  VRs.stays _ ⟨fun b l h => by simp [noLocs] at h, fun k h => h.elim, fun _ _ => rfl⟩ vs h

theorem run_placesL (TO : TabOK P T) : ∀ (fs : List Field), (fs.all fun fd => (T.z fd.type).isSome) = true → ∀ w : World,
    ∃ places : List (Nat × Nat), (fs.mapM fun f => do pure (f.offset, ← sizeOf f.type) : Sem (List (Nat × Nat))).run P w = .ok places w ∧ ∀ i : Nat, places[i]? = (match fs[i]? with | some fd => (T.z fd.type).map fun z => (fd.offset, z.1.length) | none => none)
  | [], _, w => ⟨[], by simp, by simp⟩
  | fd :: fs, h, w => by
    simp only [List.all_cons, Bool.and_eq_true] at h
    obtain ⟨hz, hr⟩ := h
    obtain ⟨⟨z, b⟩, hz⟩ := Option.isSome_iff_exists.1 hz
    obtain ⟨pl, h1, h2⟩ := run_placesL TO fs hr w
    refine ⟨(fd.offset, z.length) :: pl, ?_, fun i => ?_⟩
    · simp only [List.mapM_cons, Sem.run_bind, TO.size hz, Result.andThen_ok, Sem.run_pure, h1]
    · cases i with
      | zero => simp [hz]
      | succ i => simpa using h2 i
theorem run_places (TO : TabOK P T) {fs : Array Field} (h : (fs.toList.all fun fd => (T.z fd.type).isSome) = true) (w : World) :
    ∃ places : Array (Nat × Nat), (fs.mapM fun f => do pure (f.offset, ← sizeOf f.type) : Sem (Array (Nat × Nat))).run P w = .ok places w ∧ ∀ i : Nat, places[i]? = (match fs[i]? with | some fd => (T.z fd.type).map fun z => (fd.offset, z.1.length) | none => none) := by
  obtain ⟨pl, h1, h2⟩ := run_placesL TO fs.toList h w
  refine ⟨pl.toArray, ?_, fun i => ?_⟩
  · rw [Array.mapM_eq_mapM_toList, Sem.run_map, h1]; rfl
  · have := h2 i
    simpa using this
theorem fill_congr {p q : Nat → Option (Nat × Nat)} {cs : Array Value} : ∀ (ps : List (Nat × Value)), (∀ i, p i = q i) → Instr.fill p cs ps = Instr.fill q cs ps := by
  intro ps h
  have : p = q := funext h
  rw [this]
theorem buildA_ok (TO : TabOK P T) {t : List AV} {a : Act} (ht : VRs w t μ I a.tmps.toList) {ty : Nat} {ps : Array (Nat × Operand)} {v : AV}
    (h : buildA T ty (ps.toList.map fun p => (p.1, ev t p.2)) = some v) : ∃ y, (Instr.build ty (ps.map fun (i, x) => (i, a.eval x))).run P w = .ok y w ∧ VR w v μ I y := by
  unfold buildA at h
  split at h
  · rename_i z by_ pl hz hpl
    simp only [Option.map_eq_some_iff] at h
    obtain ⟨out, hout, rfl⟩ := h
    obtain ⟨zv, hzr, hzv, hzc, hzs⟩ := zero_cells TO hz
    obtain ⟨cs', hf, hv', _⟩ := fill_ok (w := w) (μ := μ) (I := I) _ (ps.map fun (i, x) => (i, a.eval x)).toList z out zv.cells ((hzv w).flat_to μ I) hzc hout (by simp) (evparts ht ps)
    refine ⟨.agg cs', ?_, by simp only [VR]; exact ⟨cs'.toList, by simp, hv'⟩⟩
    unfold placesA at hpl
    split at hpl
    · rename_i fs hu
      split at hpl
      · rename_i hall
        injection hpl with hpl; subst hpl
        simp only [Instr.build, Sem.run_bind, hzr, Result.andThen_ok, run_und (TO.u _ _ hu)]
        obtain ⟨places, hp1, hp2⟩ := run_places TO hall w
        rw [hp1]
        simp only [Result.andThen_ok]
        have : Instr.fill (places[·]?) zv.cells (ps.map fun (i, x) => (i, a.eval x)).toList = some cs' := by
          rw [← hf]
          refine fill_congr _ fun i => ?_
          exact hp2 i
        simp only [this, Sem.run_pure]
      · cases hpl
    · rename_i n e hu
      split at hpl
      · rename_i z' by' hz'
        injection hpl with hpl; subst hpl
        simp only [Instr.build, Sem.run_bind, hzr, Result.andThen_ok, run_und (TO.u _ _ hu), TO.size hz', hf, Sem.run_pure]
      · cases hpl
    · cases hpl
  · cases h

theorem bytesOf_ok (P : Program) (g : Value → ByteArray → Sem (ForInStep ByteArray)) (hg : ∀ n r, g (.int .u8 n) r = pure (ForInStep.yield (r.push (UInt8.ofNat n.toNat)))) :
    ∀ {cs : List AV} {s : List UInt8} {vs : List Value}, bytesOf cs = some s → VRs w cs μ I vs →
    ∀ acc : ByteArray, (forIn vs acc g : Sem ByteArray).run P w = .ok ⟨(acc.data.toList ++ s).toArray⟩ w
  | [], s, vs, h, hv => by
    simp only [bytesOf] at h; injection h with h; subst h
    simp only [VRs] at hv; subst hv
    intro acc
    simp
  | c :: cs, s, vs, h, hv => by
    simp only [VRs] at hv
    obtain ⟨x, xs, rfl, h1, h2⟩ := hv
    unfold bytesOf at h
    split at h
    · cases ‹c :: cs = []›
    · rename_i n cs' e
      injection e with e1 e2; subst e1; subst e2
      simp only [VR] at h1; subst h1
      simp only [Option.map_eq_some_iff] at h
      obtain ⟨s', hs', rfl⟩ := h
      intro acc
      have ih := bytesOf_ok P g hg hs' h2 (acc.push (UInt8.ofNat n.toNat))
      simp only [List.forIn_cons, hg, Sem.run_bind, Sem.run_pure, Result.andThen_ok]
      rw [ih]
      congr 2
      simp [ByteArray.push]
    · cases h

theorem CellsAt.of_held {B : Blk} {l : Loc} (h : Held w μ I B l) (off : Nat) : ∃ vs, CellsAt w ⟨l.blk, l.base + off, none⟩ (vs.drop off) ∧ VRs w B.cs (kμ B.kd μ) (kI B.kd I) vs := by
  obtain ⟨C, t, fr, vs, h1, _, _, _, _, h5, h6⟩ := h
  refine ⟨vs, ?_, h5⟩
  intro j y hy
  rw [add_plain]
  rw [List.getElem?_drop] at hy
  simp [World.cell?, h1, Nat.add_assoc, h6 _ _ hy]

theorem run_toString (ad : Addr) (vs : List Value) (len cap : Nat) (hl : len ≤ vs.length) (hc : CellsAt w ad vs) {cs : List AV} {s : List UInt8} (hb : bytesOf cs = some s) (hv : VRs w cs μ I (vs.take len)) :
    (Conv.bytesToString (.slice (some ad) len cap)).run P w = .ok (.string ⟨s.toArray⟩) w := by
  simp only [Conv.bytesToString, Sem.run_bind, run_loadN hc len hl, Result.andThen_ok]
  simp only [List.forIn_toArray]
  rw [bytesOf_ok P _ (fun n r => rfl) hb hv ByteArray.empty]
  simp [ByteArray.empty, ByteArray.emptyWithCapacity]
  rfl
end
end Go.AM
end
section
/- The abstract machine, part 7: calls that write nothing; each quiet operation is what the machine says. -/
set_option linter.unusedVariables false
set_option linter.unusedSimpArgs false
set_option linter.unnecessarySimpa false
namespace Go.AM

/-- What a call hands back, in a world that left all that was there as it was. -/
def Fresh (w w' : World) (A : Nat → Prop) (q : Nat) (r : AV) (x : Value) : Prop :=
  ∃ μ I, SR noImm A w w' μ I (adopt q r).2.1 ∧ (∀ b, b < q ∨ (adopt q r).2.2 ≤ b → μ b = none) ∧ VR w' (adopt q r).1 μ I x
/-- What the machine says of a call holds of the call. -/
def Told (P : Program) (f : Nat) (args : List AV) (r : AV) : Prop :=
  ∀ (A : Nat → Prop) (w : World) (vals : List Value), (∀ k, A k → k < w.heap.size) → VRs w args noLocs A vals →
    Calls P f vals.toArray w fun e w' => ∃ x, e = .returned x ∧ ∀ q, Fresh w w' A q r x

/-- What a quiet operation leaves. -/
def QK (M0 A : Nat → Prop) (w0 w : World) (μ : Locs) (I : Nat → Prop) (m : List (Nat × Blk)) (q : Nat) (v : AV) (adds : List (Nat × Blk)) : Value → World → Prop := fun x w' =>
  ∃ μ' I', Stays μ μ' I I' w w' ∧ SR M0 A w0 w' μ' I' (m ++ adds) ∧ (∀ b, b < q ∨ q + 16 ≤ b → μ' b = μ b) ∧ VR w' v μ' I' x

section
variable {P : Program} {T : Tab} {M0 A : Nat → Prop} {w0 w : World} {μ : Locs} {I : Nat → Prop} {m mv : List (Nat × Blk)} {q : Nat}

theorem QK.same {v : AV} {x : Value} (hS : SR M0 A w0 w μ I m) (h : VR w v μ I x) : QK M0 A w0 w μ I m q v [] x w :=
  ⟨μ, I, Stays.refl _ _ _, by rw [List.append_nil]; exact hS, fun _ _ => rfl, h⟩

/-- The own block of one new variable or row. -/
theorem QK.new {kd : Nat} {cs : List AV} {C : Array Value} {vs : List Value} {t : TypeId} {fr : Nat × Nat} {v : AV} {x : Value} {wk : World} (hS : SR M0 A w0 w μ I m) (hq : μ q = none)
    (hwk : wk.heap[w.heap.size]? = some (.cells C t fr)) (hfr : fr = (0, 0) ∨ C.size ≤ fr.1) (hk : Keep noImm w wk)
    (hv : VRs w cs (kμ kd μ) (kI kd I) vs) (hC : ∀ (j : Nat) (x : Value), vs[j]? = some x → C[j]? = some x) (lim : Nat) (hlim : cs.length ≤ lim) (hlim2 : lim ≤ C.size) (hkd : kd = 2 → lim = cs.length)
    (hx : VR wk v (setLoc μ q ⟨w.heap.size, 0, lim, false⟩) I x) : QK M0 A w0 w μ I m q v [(q, ⟨cs, kd, false⟩)] x wk := by
  obtain ⟨h1, h2⟩ := hS.new hq wk hwk hfr hk hv hC lim hlim hlim2 hkd
  exact ⟨_, I, h2, h1, fun b hb => setLoc_ne _ _ (by omega), hx⟩

theorem kL_ok {cs : List AV} {vs : List Value} (h : VRs w cs μ I vs) : VRs w cs (kμ (kdL cs) μ) (kI (kdL cs) I) vs := by
  have key : ∀ (cs : List AV) (vs : List Value), VRs w cs μ I vs → ∀ k, kdL cs ≤ k → VRs w cs (kμ k μ) (kI k I) vs := by
    intro cs
    induction cs with
    | nil => intro vs h k hk; simpa [VRs] using h
    | cons c cs ih =>
      intro vs h k hk
      simp only [VRs] at h ⊢
      obtain ⟨x, xs, rfl, h1, h2⟩ := h
      simp only [kdL] at hk
      refine ⟨x, xs, rfl, ?_, ih xs h2 k (by omega)⟩
      have hc : kdOf c ≤ k := by omega
      unfold kμ kI
      cases c <;> simp only [kdOf] at hc <;> (try (simp only [VR] at h1 ⊢; exact h1)) <;> (try (rw [if_neg (by omega), if_neg (by omega)]; exact h1))
      case sl fl cs len =>
        rw [if_neg (by omega : ¬ k = 0)]
        simp only [VR] at h1 ⊢
        exact h1
      case rptr cs =>
        rw [if_neg (by omega : ¬ k = 0)]
        simp only [VR] at h1 ⊢
        exact h1
  exact key cs vs h _ (Nat.le_refl _)

/-! ### what is handed to a call -/
/-- Immutable memory, and the own blocks. -/
def Open (μ : Locs) (I : Nat → Prop) (m : List (Nat × Blk)) : Nat → Prop := fun k => I k ∨ ∃ b B l, look m b = some B ∧ μ b = some l ∧ l.isNil = false ∧ l.blk = k

theorem Open.lt (hS : SR M0 A w0 w μ I m) {k : Nat} (h : Open μ I m k) : k < w.heap.size := by
  rcases h with h | ⟨b, B, l, hb, hl, hn, rfl⟩
  · exact hS.immLt k h
  · exact hS.lt hb hl hn

theorem mapM_ok {f : AV → Option AV} {J : Nat → Prop} : ∀ {cs ds : List AV} {vs : List Value}, cs.mapM f = some ds → VRs w cs μ I vs → (∀ c ∈ cs, ∀ d x, f c = some d → VR w c μ I x → VR w d noLocs J x) → VRs w ds noLocs J vs
  | [], ds, vs, h, hv, _ => by
    simp at h; subst h
    simpa [VRs] using hv
  | c :: cs, ds, vs, h, hv, hf => by
    simp only [List.mapM_cons, Option.bind_eq_bind, Option.bind_eq_some_iff, Option.pure_def, Option.some.injEq] at h
    obtain ⟨d, hd, ds', hds, rfl⟩ := h
    simp only [VRs] at hv ⊢
    obtain ⟨x, xs, rfl, h1, h2⟩ := hv
    exact ⟨x, xs, rfl, hf c (by simp) d x hd h1, mapM_ok hds h2 fun c hc => hf c (by simp [hc])⟩

theorem exC_ok (hS : SR M0 A w0 w μ I m) (hsub : ∀ b B, look mv b = some B → look m b = some B) {J : Nat → Prop} (hJ : ∀ k, I k → J k) (hJ2 : ∀ b B l, look mv b = some B → μ b = some l → l.isNil = false → J l.blk) :
    ∀ (n : Nat) (c d : AV) (x : Value), exC mv n c = some d → VR w c μ I x → VR w d noLocs J x := by
  have hpl : ∀ c : AV, ∀ x, kdOf c ≤ 1 → VR w c μ I x → VR w c noLocs J x := by
    intro c x hc h
    have S : Stays noLocs noLocs I J w w := Stays.imms _ _ hJ
    cases c <;> simp [kdOf] at hc <;> simp only [VR] at h ⊢ <;> try exact h
    case sl fl cs len =>
      obtain ⟨a, cap, rfl, hl, hn, h⟩ := h
      refine ⟨a, cap, rfl, hl, hn, ?_⟩
      rcases h with h | ⟨ad, vs, ha, hI, hc, hv⟩
      · exact .inl h
      · exact .inr ⟨ad, vs, ha, hJ _ hI, hc, VRs.stays _ (S.fl fl) vs hv⟩
    case rptr cs =>
      obtain ⟨ad, rfl, h⟩ := h
      refine ⟨ad, rfl, ?_⟩
      rcases h with h | ⟨vs, hI, hc, hv⟩
      · exact .inl h
      · exact .inr ⟨vs, hJ _ hI, hc, VRs.stays _ S vs hv⟩
  have hkJ : ∀ kd, kd ≤ 1 → Stays (kμ kd μ) noLocs (kI kd I) J w w := by
    intro kd hk
    refine ⟨fun b l h => ?_, fun k h => ?_, fun _ _ => rfl⟩
    · unfold kμ at h; rw [if_pos hk] at h; exact h
    · unfold kI at h; split at h
      · exact h.elim
      · exact hJ k h
  have hkI : ∀ kd, Stays (kμ kd μ) μ (kI kd I) I w w := by
    intro kd
    refine ⟨fun b l h => ?_, fun k h => ?_, fun _ _ => rfl⟩
    · unfold kμ at h; split at h
      · simp [noLocs] at h
      · exact h
    · unfold kI at h; split at h
      · exact h.elim
      · exact h
  intro n
  induction n with
  | zero =>
    intro c d x h hv
    cases c <;> simp only [exC] at h <;> (try (cases h; done)) <;> (injection h with h; subst h; exact hpl _ x (by simp [kdOf]) hv)
  | succ n ih =>
    intro c d x h hv
    cases c <;> simp only [exC] at h <;> (try (cases h; done)) <;> (try (injection h with h; subst h; exact hpl _ x (by simp [kdOf]) hv))
    case agg cs =>
      simp only [Option.map_eq_some_iff] at h
      obtain ⟨ds, hds, rfl⟩ := h
      simp only [VR] at hv ⊢
      obtain ⟨vs, rfl, hv⟩ := hv
      exact ⟨vs, rfl, mapM_ok hds hv fun c _ d x hd hx => ih c d x hd hx⟩
    case tup cs =>
      simp only [Option.map_eq_some_iff] at h
      obtain ⟨ds, hds, rfl⟩ := h
      simp only [VR] at hv ⊢
      obtain ⟨vs, rfl, hv⟩ := hv
      exact ⟨vs, rfl, mapM_ok hds hv fun c _ d x hd hx => ih c d x hd hx⟩
    case fn f cs =>
      simp only [Option.map_eq_some_iff] at h
      obtain ⟨ds, hds, rfl⟩ := h
      simp only [VR] at hv ⊢
      obtain ⟨vs, rfl, hv⟩ := hv
      exact ⟨vs, rfl, mapM_ok hds hv fun c _ d x hd hx => ih c d x hd hx⟩
    case ref b off len sz =>
      split at h
      · rename_i B hB
        obtain ⟨l, hl, hBO⟩ := hS.blks b B (hsub b B hB)
        simp only [VR] at hv
        obtain ⟨l', hl', hv⟩ := hv
        rw [hl] at hl'; injection hl' with e; subst e
        rcases hv with ⟨hn, ⟨a, rfl⟩, rfl, rfl⟩ | ⟨hn, cap, rfl, hcap, hlim⟩
        · have hcs : B.cs = [] := by
            rcases hBO with ⟨_, h2⟩ | ⟨h1, _⟩
            · exact h2
            · rw [hn] at h1; cases h1
          have hsl : ∀ fl, VR w (.sl fl [] 0) noLocs J (.slice a 0 0) := by
            intro fl; simp [VR]
          split at h
          · injection h with h; subst h; simpa [hcs] using hsl true
          · split at h
            · injection h with h; subst h; simpa [hcs] using hsl false
            · simp [hcs] at h; subst h; exact hsl false
        · have hB2 : Held w μ I B l := by
            rcases hBO with ⟨h1, _⟩ | ⟨_, h2, _⟩
            · rw [hn] at h1; cases h1
            · exact h2
          obtain ⟨vs, hc, hvs⟩ := CellsAt.of_held hB2 off
          have hJl := hJ2 b B l hB hl hn
          split at h
          · rename_i hk
            injection h with h; subst h
            simp only [VR]
            refine ⟨_, cap, rfl, hcap, (fun e => by cases e), .inr ⟨_, vs.drop off, rfl, hJl, hc, VRs.drop ?_ off⟩⟩
            refine VRs.stays _ ⟨fun b l h => ?_, fun k h => ?_, fun _ _ => rfl⟩ vs hvs
            · unfold kμ at h; rw [if_pos (by omega)] at h; exact h
            · unfold kI at h; rw [if_pos hk] at h; exact h.elim
          · split at h
            · rename_i hk
              injection h with h; subst h
              simp only [VR]
              exact ⟨_, cap, rfl, hcap, (fun e => by cases e), .inr ⟨_, vs.drop off, rfl, hJl, hc, VRs.drop (VRs.stays _ (hkJ _ (by omega)) vs hvs) off⟩⟩
            · simp only [Option.map_eq_some_iff] at h
              obtain ⟨ds, hds, rfl⟩ := h
              simp only [VR]
              exact ⟨_, cap, rfl, hcap, (fun e => by cases e), .inr ⟨_, vs.drop off, rfl, hJl, hc, mapM_ok hds (VRs.drop (VRs.stays _ (hkI _) vs hvs) off) fun c _ d x hd hx => ih c d x hd hx⟩⟩
      · cases h
    case ptr b off =>
      split at h
      · rename_i B hB
        obtain ⟨l, hl, hBO⟩ := hS.blks b B (hsub b B hB)
        simp only [VR] at hv
        obtain ⟨l', hl', hn, rfl⟩ := hv
        rw [hl] at hl'; injection hl' with e; subst e
        have hB2 : Held w μ I B l := by
          rcases hBO with ⟨h1, _⟩ | ⟨_, h2, _⟩
          · rw [hn] at h1; cases h1
          · exact h2
        obtain ⟨vs, hc, hvs⟩ := CellsAt.of_held hB2 off
        have hJl := hJ2 b B l hB hl hn
        split at h
        · rename_i hk
          injection h with h; subst h
          simp only [VR]
          exact ⟨_, rfl, .inr ⟨vs.drop off, hJl, hc, VRs.drop (VRs.stays _ (hkJ _ hk) vs hvs) off⟩⟩
        · simp only [Option.map_eq_some_iff] at h
          obtain ⟨ds, hds, rfl⟩ := h
          simp only [VR]
          exact ⟨_, rfl, .inr ⟨vs.drop off, hJl, hc, mapM_ok hds (VRs.drop (VRs.stays _ (hkI _) vs hvs) off) fun c _ d x hd hx => ih c d x hd hx⟩⟩
      · cases h
end
end Go.AM
end
