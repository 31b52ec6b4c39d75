/- The abstract machine, part 1: deep values, own blocks, and how each value stands to the model's own. -/
import Derived.Orders
import Derived.Tactics
import Derived.Laws.Cells
import Derived.Laws.World
namespace Go.AM

inductive AV where
  | any
  | int (k : IntKind) (n : Int)
  | bool (b : Bool)
  | str (s : List UInt8)
  | nilp
  | agg (cs : List AV)
  | tup (cs : List AV)
  | fn (f : FuncId) (caps : List AV)
  | snil
  | sl (flat : Bool) (cs : List AV) (len : Nat)
  | ref (b off len sz : Nat)
  | ptr (b off : Nat)
  | rptr (cs : List AV)
  | fr (kd : Nat) (cs : List AV) (len sz : Nat)
  | fp (cs : List AV)

instance : Inhabited AV := ⟨.any⟩

/-- Where an own block lies: its block, where in it, up to which cell it may grow in place; isNil: it has not been made yet. -/
structure Loc where
  blk : Nat
  base : Nat
  lim : Nat
  isNil : Bool

abbrev Locs := Nat → Option Loc
def noLocs : Locs := fun _ => none
def noImm : Nat → Prop := fun _ => False

/-- The cells from an address on hold these values. -/
def CellsAt (w : World) (ad : Addr) (vs : List Value) : Prop := ∀ (j : Nat) (x : Value), vs[j]? = some x → w.cell? (ad.add j) = some x

mutual
def VR (w : World) : AV → Locs → (Nat → Prop) → Value → Prop
  | .any, _, _, _ => True
  | .int k n, _, _, v => v = .int k n
  | .bool b, _, _, v => v = .bool b
  | .str s, _, _, v => v = .string ⟨s.toArray⟩
  | .nilp, _, _, v => v = .pointer none
  | .agg cs, μ, I, v => ∃ vs, v = .agg (List.toArray vs) ∧ VRs w cs μ I vs
  | .tup cs, μ, I, v => ∃ vs, v = .tuple (List.toArray vs) ∧ VRs w cs μ I vs
  | .fn f cs, μ, I, v => ∃ vs, v = .func (.func f) #[] (List.toArray vs) ∧ VRs w cs μ I vs
  | .snil, _, _, v => ∃ a, v = .slice a 0 0
  | .sl fl cs len, _, I, v => ∃ a cap, v = .slice a len cap ∧ len ≤ cap ∧ (a = none → len = 0) ∧ (cs = [] ∨ ∃ ad vs, a = some ad ∧ I ad.block ∧ CellsAt w ad vs ∧ VRs w cs noLocs (if fl then noImm else I) vs)
  | .ref b off len sz, μ, _, v => ∃ l, μ b = some l ∧ ((l.isNil = true ∧ (∃ a, v = .slice a 0 0) ∧ off = 0 ∧ len = 0) ∨
      (l.isNil = false ∧ ∃ cap, v = .slice (some ⟨l.blk, l.base + off, none⟩) len cap ∧ len ≤ cap ∧ l.base + off + cap * sz = l.lim))
  | .ptr b off, μ, _, v => ∃ l, μ b = some l ∧ l.isNil = false ∧ v = .pointer (some ⟨l.blk, l.base + off, none⟩)
  | .rptr cs, _, I, v => ∃ ad, v = .pointer (some ad) ∧ (cs = [] ∨ ∃ vs, I ad.block ∧ CellsAt w ad vs ∧ VRs w cs noLocs I vs)
  | .fr _ _ _ _, _, _, _ => False
  | .fp _, _, _, _ => False
def VRs (w : World) : List AV → Locs → (Nat → Prop) → List Value → Prop
  | [], _, _, vs => vs = []
  | c :: cs, μ, I, vs => ∃ x xs, vs = x :: xs ∧ VR w c μ I x ∧ VRs w cs μ I xs
end

section
variable {μ μ' : Locs} {I I' : Nat → Prop} {w w' : World}

theorem VRs.length : ∀ {cs : List AV} {vs : List Value}, VRs w cs μ I vs → vs.length = cs.length
  | [], _, h => by simp only [VRs] at h; simp [h]
  | c :: cs, _, h => by
    simp only [VRs] at h
    obtain ⟨x, xs, rfl, _, h2⟩ := h
    simp [VRs.length h2]

theorem VRs.get : ∀ {cs : List AV} {vs : List Value}, VRs w cs μ I vs → ∀ {j : Nat} {c : AV}, cs[j]? = some c → ∃ x, vs[j]? = some x ∧ VR w c μ I x
  | [], _, _, j, c, hc => by simp at hc
  | c0 :: cs, _, h, j, c, hc => by
    simp only [VRs] at h
    obtain ⟨x, xs, rfl, h1, h2⟩ := h
    cases j with
    | zero => simp at hc; subst hc; exact ⟨x, rfl, h1⟩
    | succ j => simp at hc; simpa using VRs.get h2 hc

theorem VRs.of_get : ∀ {cs : List AV} {vs : List Value}, vs.length = cs.length → (∀ (j : Nat) (c : AV) (x : Value), cs[j]? = some c → vs[j]? = some x → VR w c μ I x) → VRs w cs μ I vs
  | [], vs, hl, _ => by simp at hl; simp [VRs, hl]
  | c :: cs, [], hl, _ => by simp at hl
  | c :: cs, x :: xs, hl, h => by
    simp only [VRs]
    refine ⟨x, xs, rfl, h 0 c x rfl rfl, VRs.of_get (by simpa using hl) fun j c' x' hc hx => h (j + 1) c' x' (by simpa using hc) (by simpa using hx)⟩

theorem VRs.nil : VRs w [] μ I [] := by simp [VRs]
theorem VRs.cons {c : AV} {cs : List AV} {x : Value} {xs : List Value} (h : VR w c μ I x) (h2 : VRs w cs μ I xs) : VRs w (c :: cs) μ I (x :: xs) := by
  simp only [VRs]; exact ⟨x, xs, rfl, h, h2⟩
theorem VRs.append {cs ds : List AV} {xs ys : List Value} (h : VRs w cs μ I xs) (h2 : VRs w ds μ I ys) : VRs w (cs ++ ds) μ I (xs ++ ys) := by
  induction cs generalizing xs with
  | nil => simp only [VRs] at h; subst h; simpa using h2
  | cons c cs ih =>
    simp only [VRs] at h
    obtain ⟨x, xs, rfl, h1, h3⟩ := h
    exact VRs.cons h1 (ih h3)
theorem VRs.take {cs : List AV} {xs : List Value} (h : VRs w cs μ I xs) (n : Nat) : VRs w (cs.take n) μ I (xs.take n) := by
  refine VRs.of_get (by simp [h.length]) fun j c x hc hx => ?_
  rw [List.getElem?_take] at hc hx
  split at hc
  · rename_i hj
    rw [if_pos hj] at hx
    obtain ⟨y, hy, hv⟩ := h.get hc
    rw [hy] at hx; injection hx with hx; subst hx; exact hv
  · simp at hc
theorem VRs.drop {cs : List AV} {xs : List Value} (h : VRs w cs μ I xs) (n : Nat) : VRs w (cs.drop n) μ I (xs.drop n) := by
  refine VRs.of_get (by simp [h.length]) fun j c x hc hx => ?_
  rw [List.getElem?_drop] at hc hx
  obtain ⟨y, hy, hv⟩ := h.get hc
  rw [hy] at hx; injection hx with hx; subst hx; exact hv
theorem VRs.set {cs : List AV} {xs : List Value} (h : VRs w cs μ I xs) (n : Nat) {c : AV} {x : Value} (hx : VR w c μ I x) : VRs w (cs.set n c) μ I (xs.set n x) := by
  refine VRs.of_get (by simp [h.length]) fun j c' x' hc hx' => ?_
  rw [List.getElem?_set] at hc hx'
  split at hc
  · rename_i hj
    rw [if_pos hj] at hx'
    split at hc <;> simp at hc
    split at hx' <;> simp at hx'
    subst hc; subst hx'; exact hx
  · rename_i hj
    rw [if_neg hj] at hx'
    obtain ⟨y, hy, hv⟩ := h.get hc
    rw [hy] at hx'; injection hx' with hx'; subst hx'; exact hv

/-- What a value means stays, if its own blocks stay where they are and immutable memory stays as it is. -/
structure Stays (μ μ' : Locs) (I I' : Nat → Prop) (w w' : World) : Prop where
  loc : ∀ b l, μ b = some l → μ' b = some l
  imm : ∀ k, I k → I' k
  heap : ∀ k, I k → w'.heap[k]? = w.heap[k]?
theorem Stays.refl (μ : Locs) (I : Nat → Prop) (w : World) : Stays μ μ I I w w := ⟨fun _ _ h => h, fun _ h => h, fun _ _ => rfl⟩
theorem Stays.trans {μ1 μ2 μ3 : Locs} {I1 I2 I3 : Nat → Prop} {w1 w2 w3 : World} (h : Stays μ1 μ2 I1 I2 w1 w2) (g : Stays μ2 μ3 I2 I3 w2 w3) : Stays μ1 μ3 I1 I3 w1 w3 :=
  ⟨fun b l hb => g.loc b l (h.loc b l hb), fun k hk => g.imm k (h.imm k hk), fun k hk => (g.heap k (h.imm k hk)).trans (h.heap k hk)⟩
theorem Stays.deep (S : Stays μ μ' I I' w w') : Stays noLocs noLocs I I' w w' := ⟨fun _ _ h => h, S.imm, S.heap⟩
theorem Stays.flat (w w' : World) : Stays noLocs noLocs noImm noImm w w' := ⟨fun _ _ h => h, fun _ h => h, fun _ h => h.elim⟩
theorem Stays.fl (S : Stays μ μ' I I' w w') (fl : Bool) : Stays noLocs noLocs (if fl then noImm else I) (if fl then noImm else I') w w' := by
  cases fl
  · exact S.deep
  · exact Stays.flat _ _

theorem cell_of_heap {k : Nat} (h : w'.heap[k]? = w.heap[k]?) (a : Addr) (ha : a.block = k) : w'.cell? a = w.cell? a := by
  unfold World.cell?; rw [ha, h]
theorem add_block (a : Addr) (j : Nat) : (a.add j).block = a.block := by unfold Addr.add; split <;> rfl
theorem add_add (a : Addr) (i j : Nat) : (a.add i).add j = a.add (i + j) := by
  unfold Addr.add
  by_cases hi : i = 0
  · subst hi; simp
  · by_cases hj : j = 0
    · subst hj; simp [hi]
    · simp [hi, hj, Nat.add_assoc]
theorem add_plain (g o j : Nat) : (⟨g, o, none⟩ : Addr).add j = ⟨g, o + j, none⟩ := by
  unfold Addr.add; split <;> simp_all
theorem CellsAt.stays (S : Stays μ μ' I I' w w') {ad : Addr} {vs : List Value} (hI : I ad.block) (h : CellsAt w ad vs) : CellsAt w' ad vs := by
  intro j x hx
  rw [cell_of_heap (S.heap _ hI) _ (add_block ad j)]; exact h j x hx
theorem CellsAt.drop {ad : Addr} {vs : List Value} (h : CellsAt w ad vs) (n : Nat) : CellsAt w (ad.add n) (vs.drop n) := by
  intro j x hx
  rw [add_add]
  rw [List.getElem?_drop] at hx
  exact h _ _ hx
theorem CellsAt.take {ad : Addr} {vs : List Value} (h : CellsAt w ad vs) (n : Nat) : CellsAt w ad (vs.take n) := by
  intro j x hx
  rw [List.getElem?_take] at hx
  split at hx
  · exact h _ _ hx
  · simp at hx

mutual
theorem VR.stays : ∀ (c : AV) {μ μ' : Locs} {I I' : Nat → Prop} (_ : Stays μ μ' I I' w w') (v : Value), VR w c μ I v → VR w' c μ' I' v
  | .any, _, _, _, _, _, _, _ => by simp [VR]
  | .int _ _, _, _, _, _, _, _, h => by simpa [VR] using h
  | .bool _, _, _, _, _, _, _, h => by simpa [VR] using h
  | .str _, _, _, _, _, _, _, h => by simpa [VR] using h
  | .nilp, _, _, _, _, _, _, h => by simpa [VR] using h
  | .agg cs, _, _, _, _, S, _, h => by
    simp only [VR] at h ⊢
    obtain ⟨vs, rfl, h⟩ := h
    exact ⟨vs, rfl, VRs.stays cs S vs h⟩
  | .tup cs, _, _, _, _, S, _, h => by
    simp only [VR] at h ⊢
    obtain ⟨vs, rfl, h⟩ := h
    exact ⟨vs, rfl, VRs.stays cs S vs h⟩
  | .fn f cs, _, _, _, _, S, _, h => by
    simp only [VR] at h ⊢
    obtain ⟨vs, rfl, h⟩ := h
    exact ⟨vs, rfl, VRs.stays cs S vs h⟩
  | .snil, _, _, _, _, _, _, h => by simpa [VR] using h
  | .sl fl cs len, _, _, _, _, S, _, h => by
    simp only [VR] at h ⊢
    obtain ⟨a, cap, rfl, hl, hn, h⟩ := h
    refine ⟨a, cap, rfl, hl, hn, ?_⟩
    rcases h with h | ⟨ad, vs, ha, hI, hc, hv⟩
    · exact .inl h
    · exact .inr ⟨ad, vs, ha, S.imm _ hI, hc.stays S hI, VRs.stays cs (S.fl fl) vs hv⟩
  | .ref b off len sz, _, _, _, _, S, _, h => by
    simp only [VR] at h ⊢
    obtain ⟨l, hl, h⟩ := h
    exact ⟨l, S.loc _ _ hl, h⟩
  | .ptr b off, _, _, _, _, S, _, h => by
    simp only [VR] at h ⊢
    obtain ⟨l, hl, h⟩ := h
    exact ⟨l, S.loc _ _ hl, h⟩
  | .rptr cs, _, _, _, _, S, _, h => by
    simp only [VR] at h ⊢
    obtain ⟨ad, rfl, h⟩ := h
    refine ⟨ad, rfl, ?_⟩
    rcases h with h | ⟨vs, hI, hc, hv⟩
    · exact .inl h
    · exact .inr ⟨vs, S.imm _ hI, hc.stays S hI, VRs.stays cs S.deep vs hv⟩
  | .fr _ _ _ _, _, _, _, _, _, _, h => by simp [VR] at h
  | .fp _, _, _, _, _, _, _, h => by simp [VR] at h
theorem VRs.stays : ∀ (cs : List AV) {μ μ' : Locs} {I I' : Nat → Prop} (_ : Stays μ μ' I I' w w') (vs : List Value), VRs w cs μ I vs → VRs w' cs μ' I' vs
  | [], _, _, _, _, _, _, h => by simpa [VRs] using h
  | c :: cs, _, _, _, _, S, _, h => by
    simp only [VRs] at h ⊢
    obtain ⟨x, xs, rfl, h1, h2⟩ := h
    exact ⟨x, xs, rfl, VR.stays c S x h1, VRs.stays cs S xs h2⟩
end
/-- A closed value stands under any names. -/
theorem Stays.locs (μ : Locs) (I : Nat → Prop) (w : World) : Stays noLocs μ I I w w := ⟨fun _ _ h => by simp [noLocs] at h, fun _ h => h, fun _ _ => rfl⟩
theorem Stays.imms (μ : Locs) (w : World) (h : ∀ k, I k → I' k) : Stays μ μ I I' w w := ⟨fun _ _ h => h, h, fun _ _ => rfl⟩

/-- A value of one cell. -/
def cellish : AV → Bool
  | .any | .agg _ | .tup _ | .fr _ _ _ _ | .fp _ => false
  | _ => true
theorem VR.oneCell {c : AV} {v : Value} (h : VR w c μ I v) (hc : cellish c = true) : v.oneCell' = true := by
  cases c <;> simp [cellish] at hc <;> simp only [VR] at h
  case int => subst h; rfl
  case bool => subst h; rfl
  case str => subst h; rfl
  case nilp => subst h; rfl
  case fn => obtain ⟨_, rfl, _⟩ := h; rfl
  case snil => obtain ⟨_, rfl⟩ := h; rfl
  case sl => obtain ⟨_, _, rfl, _⟩ := h; rfl
  case ref => obtain ⟨_, _, ⟨_, ⟨_, rfl⟩, _⟩ | ⟨_, _, rfl, _⟩⟩ := h <;> rfl
  case ptr => obtain ⟨_, _, _, rfl⟩ := h; rfl
  case rptr => obtain ⟨_, rfl, _⟩ := h; rfl
end
end Go.AM
