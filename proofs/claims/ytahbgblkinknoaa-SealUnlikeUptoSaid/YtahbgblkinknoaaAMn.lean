/- The abstract machine, part 14: operations in any order. -/
import Derived.Test.YtahbgblkinknoaaAMm
set_option linter.unusedVariables false
set_option linter.unusedSimpArgs false
set_option linter.unnecessarySimpa false
namespace Go.AM

/-- The operations that one stands behind, as bits. -/
def behind (anc : Nat → Nat) (es : List Edge) : Nat :=
  es.foldr (fun e acc => if Region.binds .any e then (1 <<< e.on ||| anc e.on) ||| acc else acc) 0
def dstOf (ops : Array Oper) (j : Nat) : Option Nat := (ops[j]?).bind (·.dst)
def listedP (n p : Nat) : Array Bool := ((List.range n).map fun i => decide (i < p)).toArray
/-- Behind the listed ones these come, in this order alone, and then none. -/
def tailOK (ops : Array Oper) : List Nat → Array Bool → Bool
  | [], l => (Region.ready .any ops l).isEmpty
  | i :: r, l => Region.ready .any ops l == [i] && tailOK ops r (l.setIfInBounds i true)
/-- The first p operations may come in any order: none looks at what an unordered one gives. All others stand behind them, in one order. -/
def planOK (ops : Array Oper) (p : Nat) (ancs tail : List Nat) : Bool :=
  let anc := fun i => ancs.getD i 0
  decide (p ≤ ops.size) && decide (tail.length ≤ ops.size - p) && tailOK ops tail (listedP ops.size p) &&
  (List.range p).all (fun i => match ops[i]? with
    | none => false
    | some o => behind anc o.after.toList == anc i && decide (anc i < 2 ^ i) &&
        (o.looksAt ops).all (fun d => (List.range p).all fun j => j == i || dstOf ops j != some d || (anc i).testBit j || (anc j).testBit i) &&
        (List.range p).all (fun j => j == i || dstOf ops i == none || dstOf ops j != dstOf ops i)) &&
  (List.range ops.size).all (fun i => decide (i < p) || (match ops[i]? with
    | none => false
    | some o => (List.range p).all fun j => (behind (fun k => if k < p then anc k else 0) (o.after.toList.filter fun e => decide (e.on < p))).testBit j))

def pickA (a : Nat) : List (Nat × List (Nat × Blk)) → List (Nat × Blk)
  | [] => []
  | (j, x) :: r => if a.testBit j then x ++ pickA a r else pickA a r
def allA : List (Nat × List (Nat × Blk)) → List (Nat × Blk)
  | [] => []
  | (_, x) :: r => x ++ allA r
def idsIn (q : Nat) : List (Nat × Blk) → Bool
  | [] => true
  | (k, _) :: r => decide (q ≤ k) && decide (k < q + 16) && idsIn q r
/-- What operation i gives. -/
def valP (T : Tab) (call : Nat → List AV → Option AV) (ops : Array Oper) (anc : Nat) (m : List (Nat × Blk)) (q : Nat) (o : Oper) (t : List AV) (ads : List (Nat × List (Nat × Blk))) : Option (AV × List (Nat × Blk)) :=
  match wantedA ops t o with
  | some true => match qop T call q t (m ++ pickA anc ads) o with
    | some (v, a) => if idsIn q a then some (v, a) else none
    | none => none
  | some false => some (.tup [], [])
  | none => none
def addA (i : Nat) (x : List (Nat × Blk)) (ads : List (Nat × List (Nat × Blk))) : List (Nat × List (Nat × Blk)) :=
  match x with
  | [] => ads
  | y :: r => (i, y :: r) :: ads
def preN (T : Tab) (call : Nat → List AV → Option AV) (ops : Array Oper) (ancs : List Nat) (s : St) : Nat → Option (List AV × List (Nat × List (Nat × Blk)))
  | 0 => some (s.t, [])
  | i + 1 => match preN T call ops ancs s i with
    | none => none
    | some (t, ads) => match ops[i]? with
      | none => none
      | some o => match valP T call ops (ancs.getD i 0) s.m (s.nx + 16 * i) o t ads with
        | none => none
        | some (v, a) => some (putA t o.dst v, addA i a ads)
def drawA (T : Tab) (call : Nat → List AV → Option AV) (ops : Array Oper) (p : Nat) (ancs tail : List Nat) (s : St) : Option St :=
  match preN T call ops ancs s p with
  | none => none
  | some (t, ads) => runL T call ops tail ⟨t, s.m ++ allA ads, s.nx + 16 * p⟩

section
variable {P : Program} {T : Tab} {M0 A : Nat → Prop} {w0 w w' : World} {μ μ' : Locs} {I I' : Nat → Prop} {m m' mv : List (Nat × Blk)} {q : Nat} {o : Oper} {a : Act} {t t' : List AV} {call : Nat → List AV → Option AV} {ops : Array Oper}

/-! ### an operation looks at its own operands alone -/
theorem ev_congr {x : Operand} (h : ∀ d, x = .tmp d → t[d]? = t'[d]?) : ev t x = ev t' x := by
  cases x with
  | tmp d => simp only [ev, List.getD_eq_getElem?_getD, h d rfl]
  | _ => rfl
theorem qop_congr (h : ∀ d, Operand.tmp d ∈ o.op.operands → t[d]? = t'[d]?) : qop T call q t m o = qop T call q t' m o := by
  have hx : ∀ x ∈ o.op.operands, ev t x = ev t' x := fun x hx => ev_congr fun d hd => h d (hd ▸ hx)
  have pairs : ∀ ps : Array (Nat × Operand), (∀ x ∈ (ps.toList.map (·.2)).toArray, ev t x = ev t' x) →
      (ps.toList.map fun p => (p.1, ev t p.2)) = (ps.toList.map fun p => (p.1, ev t' p.2)) := fun ps hp =>
    List.map_congr_left fun p hm => by
      rw [hp p.2 (by simp only [List.mem_toArray, List.mem_map]; exact ⟨p, hm, rfl⟩)]
  have args : ∀ xs : Array Operand, (∀ x ∈ xs, ev t x = ev t' x) → evs t xs = evs t' xs := fun xs hp =>
    List.map_congr_left fun x hm => hp x (by simpa using hm)
  have opt : ∀ x : Option Operand, (∀ y ∈ x.toArray, ev t y = ev t' y) → optEv t x = optEv t' x := fun x hp => by
    cases x with
    | none => rfl
    | some y => simp only [optEv, hp y (by simp)]
  obtain ⟨dst, op, type, pos, after, guard⟩ := o
  cases op <;> simp only [Op.operands] at hx <;> simp only [qop]
  case build ty ps => rw [pairs ps hx]
  case buildSlice ty n ps => rw [pairs ps hx]
  case makeFunc fn first caps =>
    have e := args caps (fun x hm => hx x (by simp [hm]))
    cases fn <;> simp only [qop, e]
  case call c =>
    have e := args c.args (fun x hm => hx x (by simp [Call.operands, hm]))
    cases hc : c.callee with
    | value f =>
      have hf : ev t f = ev t' f := hx f (by simp [Call.operands, hc])
      simp only [e, hf]
    | builtin b => simp only [e]
    | invoke r n => rfl
  case slice ty x lo hi mx =>
    rw [hx x (by simp), opt lo (fun y hy => hx y (by simp only [Array.mem_append]; exact .inl (.inl (.inr hy)))), opt hi (fun y hy => hx y (by simp only [Array.mem_append]; exact .inl (.inr hy))), opt mx (fun y hy => hx y (by simp only [Array.mem_append]; exact .inr hy))]
  all_goals (first | rfl | (simp_all; done))

theorem wantedA_congr (h : ∀ d, d ∈ o.looksAt ops → t[d]? = t'[d]?) : wantedA ops t o = wantedA ops t' o := by
  unfold wantedA
  cases hg : o.guard with
  | none => rfl
  | some gw =>
    obtain ⟨g, want⟩ := gw
    simp only
    cases hd : (ops[g]?).bind (·.dst) with
    | none => rfl
    | some d =>
      simp only
      rw [h d (by simp [Oper.looksAt, hg, hd])]

theorem looks_operand {d : Nat} (h : Operand.tmp d ∈ o.op.operands) : d ∈ o.looksAt ops :=
  List.mem_append_left _ (List.mem_filterMap.2 ⟨.tmp d, by simpa using h, rfl⟩)

theorem behind_testBit (anc : Nat → Nat) : ∀ (es : List Edge) (j : Nat), (behind anc es).testBit j = true ↔ ∃ e ∈ es, Region.binds .any e = true ∧ (j = e.on ∨ (anc e.on).testBit j = true)
  | [], j => by simp [behind]
  | e :: es, j => by
    have ih := behind_testBit anc es j
    have hb : (behind anc (e :: es)) = if Region.binds .any e then (1 <<< e.on ||| anc e.on) ||| behind anc es else behind anc es := rfl
    rw [hb]
    by_cases h : Region.binds .any e = true
    · rw [if_pos h, Nat.testBit_or, Nat.testBit_or, Bool.or_eq_true, Bool.or_eq_true, ih]
      have h1 : (1 <<< e.on).testBit j = true ↔ j = e.on := by
        rw [Nat.one_shiftLeft, Nat.testBit_two_pow]
        simp [eq_comm]
      rw [h1]
      constructor
      · rintro (h2 | ⟨e', he', h3⟩)
        · exact ⟨e, by simp, h, h2⟩
        · exact ⟨e', by simp [he'], h3⟩
      · rintro ⟨e', he', h3, h4⟩
        rcases List.mem_cons.1 he' with rfl | he'
        · exact .inl h4
        · exact .inr ⟨e', he', h3, h4⟩
    · rw [if_neg h, ih]
      constructor
      · rintro ⟨e', he', h3⟩
        exact ⟨e', by simp [he'], h3⟩
      · rintro ⟨e', he', h3, h4⟩
        rcases List.mem_cons.1 he' with rfl | he'
        · exact absurd h3 h
        · exact ⟨e', he', h3, h4⟩

/-- The plan, as propositions. -/
structure Plan (ops : Array Oper) (p : Nat) (anc : Nat → Nat) : Prop where
  size : p ≤ ops.size
  edge : ∀ i o, i < p → ops[i]? = some o → ∀ j, (anc i).testBit j = true ↔ ∃ e ∈ o.after.toList, Region.binds .any e = true ∧ (j = e.on ∨ (anc e.on).testBit j = true)
  low : ∀ i j, i < p → (anc i).testBit j = true → j < i
  looks : ∀ i o, i < p → ops[i]? = some o → ∀ d ∈ o.looksAt ops, ∀ j, j < p → j ≠ i → dstOf ops j = some d → (anc i).testBit j = true ∨ (anc j).testBit i = true
  apart : ∀ i j d, i < p → j < p → j ≠ i → dstOf ops i = some d → dstOf ops j ≠ some d
  rest : ∀ i o, p ≤ i → ops[i]? = some o → ∀ j, j < p → ∃ e ∈ o.after.toList, Region.binds .any e = true ∧ e.on < p ∧ (j = e.on ∨ (anc e.on).testBit j = true)

theorem planOK_plan {p : Nat} {ancs tail : List Nat} (h : planOK ops p ancs tail = true) : Plan ops p (fun i => ancs.getD i 0) ∧ tail.length ≤ ops.size - p ∧ tailOK ops tail (listedP ops.size p) = true := by
  simp only [planOK, Bool.and_eq_true, decide_eq_true_eq, List.all_eq_true, List.mem_range] at h
  obtain ⟨⟨⟨⟨h1, ht1⟩, ht2⟩, h2⟩, h3⟩ := h
  have key : ∀ i o, i < p → ops[i]? = some o → _ := fun i o hi ho => by
    have := h2 i hi
    rw [ho] at this
    simp only [Bool.and_eq_true, beq_iff_eq, decide_eq_true_eq, List.all_eq_true, List.mem_range, Bool.or_eq_true, bne_iff_ne] at this
    exact this
  have sm : ∀ i, i < p → ∃ o, ops[i]? = some o := fun i hi => ⟨_, Array.getElem?_eq_getElem (by omega)⟩
  refine ⟨?_, ht1, ht2⟩
  refine ⟨h1, fun i o hi ho j => ?_, fun i j hi hj => ?_, fun i o hi ho d hd j hj hne hjd => ?_, fun i j d hi hj hne hid hjd => ?_, fun i o hi ho j hj => ?_⟩
  · obtain ⟨⟨⟨g1, g2⟩, g3⟩, g4⟩ := key i o hi ho
    have := behind_testBit (fun i => ancs.getD i 0) o.after.toList j
    rw [g1] at this
    exact this
  · obtain ⟨o, ho⟩ := sm i hi
    obtain ⟨⟨⟨g1, g2⟩, g3⟩, g4⟩ := key i o hi ho
    rcases Nat.lt_or_ge j i with h' | h'
    · exact h'
    · have : (ancs.getD i 0).testBit j = false := Nat.testBit_lt_two_pow (Nat.lt_of_lt_of_le g2 (Nat.pow_le_pow_right (by omega) h'))
      rw [this] at hj; cases hj
  · obtain ⟨⟨⟨g1, g2⟩, g3⟩, g4⟩ := key i o hi ho
    rcases g3 d hd j hj with ((h5 | h5) | h5) | h5
    · exact absurd h5 hne
    · exact absurd hjd h5
    · exact .inl h5
    · exact .inr h5
  · obtain ⟨o, ho⟩ := sm i hi
    obtain ⟨⟨⟨g1, g2⟩, g3⟩, g4⟩ := key i o hi ho
    rcases g4 j hj with (h5 | h5) | h5
    · exact hne h5
    · rw [hid] at h5; cases h5
    · exact h5 (by rw [hid, hjd])
  · have hlt : i < ops.size := (Array.getElem?_eq_some_iff.1 ho).1
    have := h3 i hlt
    rw [ho] at this
    simp only [Bool.or_eq_true, decide_eq_true_eq, List.all_eq_true, List.mem_range] at this
    rcases this with h4 | h4
    · omega
    · obtain ⟨e, he, hb, hj2⟩ := (behind_testBit _ _ _).1 (h4 j hj)
      simp only [List.mem_filter, decide_eq_true_eq] at he
      rw [if_pos he.2] at hj2
      exact ⟨e, he.1, hb, he.2, hj2⟩
end
end Go.AM
