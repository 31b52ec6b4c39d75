/- The abstract machine, part 3: what a state says of the memory; new blocks. -/
import Derived.Test.YtahbgblkinknoaaAMb
import Derived.Laws.Slices
namespace Go.AM

def kμ (kd : Nat) (μ : Locs) : Locs := if kd ≤ 1 then noLocs else μ
def kI (kd : Nat) (I : Nat → Prop) : Nat → Prop := if kd = 0 then noImm else I

structure TabOK (P : Program) (T : Tab) : Prop where
  u : ∀ t d, T.u t = some d → P.underlying t = some d
  z : ∀ t cs b, T.z t = some (cs, b) → ∃ i zv, P.info? t = some i ∧ i.zero = some zv ∧ i.size = cs.length ∧ i.bytes = b ∧ (∀ w, VRs w cs noLocs noImm zv.cells.toList) ∧ cellL cs = true
  f : ∀ f fn, T.f f = some fn → P.funcs[f]? = some fn ∧ fn.body.isSome = true
  eqs : ∀ t ks, T.eqs t = some ks → ∀ (xs ys : Array Value) (as bs : List AV) (e : Bool) (w : World), eqCells ks as bs = some e →
    (∀ μ I, VRs w as μ I xs.toList → VRs w bs μ I ys.toList → (Op.equal t (.agg xs) (.agg ys)).run P w = .ok e w)
  guard : ∀ t ks, T.eqs t = some ks → P.eqGuardType P.depth t = false

/-- An own block in the memory. -/
def Held (w : World) (μ : Locs) (I : Nat → Prop) (B : Blk) (l : Loc) : Prop :=
  ∃ C T fr vs, w.heap[l.blk]? = some (.cells C T fr) ∧ l.lim ≤ C.size ∧ (fr = (0, 0) ∨ C.size ≤ fr.1) ∧ l.base + B.cs.length ≤ l.lim ∧ (B.kd = 2 → l.lim = l.base + B.cs.length) ∧
    VRs w B.cs (kμ B.kd μ) (kI B.kd I) vs ∧ ∀ (j : Nat) (x : Value), vs[j]? = some x → C[l.base + j]? = some x
def BOK (w : World) (μ : Locs) (I Mut : Nat → Prop) (B : Blk) (l : Loc) : Prop :=
  (l.isNil = true ∧ B.cs = []) ∨ (l.isNil = false ∧ Held w μ I B l ∧ (B.fz = true → I l.blk) ∧ (B.fz = false → ¬ I l.blk ∧ Mut l.blk))

/-- What was there when the call began is as it was, but for the blocks M0. -/
structure Keep (M0 : Nat → Prop) (w w' : World) : Prop where
  os : w'.os = w.os
  tape : w'.tape = w.tape
  output : w'.output = w.output
  size : w.heap.size ≤ w'.heap.size
  block : ∀ k, k < w.heap.size → ¬ M0 k → w'.heap[k]? = w.heap[k]?

structure SR (M0 A : Nat → Prop) (w0 w : World) (μ : Locs) (I : Nat → Prop) (m : List (Nat × Blk)) : Prop where
  blks : ∀ b B, look m b = some B → ∃ l, μ b = some l ∧ BOK w μ I (fun k => M0 k ∨ w0.heap.size ≤ k) B l
  inj : ∀ b b' B B' l l', look m b = some B → look m b' = some B' → b ≠ b' → B.fz = false → μ b = some l → μ b' = some l' → l.isNil = false → l'.isNil = false → l.blk ≠ l'.blk
  immLt : ∀ k, I k → k < w.heap.size
  immA : ∀ k, A k → I k
  immN : ∀ k, I k → A k ∨ w0.heap.size ≤ k
  keep : Keep M0 w0 w

/-- What an operation comes to: a value, or a call that hands one back. -/
def Upon (P : Program) (K : Value → World → Prop) : Result Next → Prop
  | .ok (.value v) w => K v w
  | .ok .skip w => K undef w
  | .ok (.enter f args) w => Calls P f args w fun e w' => ∃ v, e = .returned v ∧ K v w'
  | _ => False

section
variable {P : Program} {T : Tab} {M0 A : Nat → Prop} {w0 w w' : World} {μ μ' : Locs} {I I' : Nat → Prop} {m : List (Nat × Blk)}

theorem Upon.wp {o : Oper} {a : Act} {next : Act → World → Prop} {Q : Exit → Act → World → Prop}
    (h : Upon P (fun v w' => next (a.put o.dst v) w') ((execOp a.eval o).run P w)) : o.wp P a w next Q := by
  unfold Oper.wp
  generalize (execOp a.eval o).run P w = r at h
  cases r with
  | halt h' w' => exact h.elim
  | ok n w' =>
    cases n <;> simp only [Upon] at h <;> simp only [Oper.upon]
    case value v => exact h
    case skip => exact h
    case enter f args =>
      refine Calls.mono h fun e w'' he => ?_
      obtain ⟨v, rfl, hk⟩ := he
      exact hk

theorem Upon.mono {K K' : Value → World → Prop} {r : Result Next} (h : Upon P K r) (hk : ∀ v w, K v w → K' v w) : Upon P K' r := by
  cases r with
  | halt h' w' => exact h.elim
  | ok n w' =>
    cases n <;> simp only [Upon] at h ⊢
    case value v => exact hk _ _ h
    case skip => exact hk _ _ h
    case enter f args => exact Calls.mono h fun e w'' ⟨v, he, h2⟩ => ⟨v, he, hk _ _ h2⟩

theorem look_append (m n : List (Nat × Blk)) (b : Nat) : look (m ++ n) b = match look m b with | some B => some B | none => look n b := by
  induction m with
  | nil => simp [look]
  | cons x m ih =>
    obtain ⟨k, B⟩ := x
    simp only [List.cons_append, look]
    split
    · rfl
    · exact ih
theorem look_append_nil (m : List (Nat × Blk)) : m ++ [] = m := List.append_nil m

theorem kμ_stays (S : Stays μ μ' I I' w w') (kd : Nat) : Stays (kμ kd μ) (kμ kd μ') (kI kd I) (kI kd I') w w' := by
  refine ⟨fun b l h => ?_, fun k h => ?_, fun k h => ?_⟩
  · unfold kμ at h ⊢; split
    · rename_i hk; rw [if_pos hk] at h; exact h
    · rename_i hk; rw [if_neg hk] at h; exact S.loc b l h
  · unfold kI at h ⊢; split
    · rename_i hk; rw [if_pos hk] at h; exact h
    · rename_i hk; rw [if_neg hk] at h; exact S.imm k h
  · unfold kI at h; split at h
    · exact h.elim
    · exact S.heap k h
/-- A block is as it says, in a later world that left it alone. -/
theorem Held.stays {B : Blk} {l : Loc} (S : Stays μ μ' I I' w w') (hb : w'.heap[l.blk]? = w.heap[l.blk]?) (h : Held w μ I B l) : Held w' μ' I' B l := by
  obtain ⟨C, T, fr, vs, h1, h2, h3, h4, h5, h6, h7⟩ := h
  exact ⟨C, T, fr, vs, by rw [hb, h1], h2, h3, h4, h5, VRs.stays _ (kμ_stays S B.kd) vs h6, h7⟩

theorem Keep.refl (M0 : Nat → Prop) (w : World) : Keep M0 w w := ⟨rfl, rfl, rfl, Nat.le_refl _, fun _ _ _ => rfl⟩
theorem Keep.trans' {w1 : World} (h : Keep M0 w0 w) (g : Keep noImm w w1) : Keep M0 w0 w1 :=
  ⟨g.os.trans h.os, g.tape.trans h.tape, g.output.trans h.output, Nat.le_trans h.size g.size, fun k hk hM => (g.block k (Nat.lt_of_lt_of_le hk h.size) (fun x => x)).trans (h.block k hk hM)⟩
theorem Keep.alloc (w : World) (o : Obj) : Keep noImm w (w.alloc o) :=
  ⟨rfl, rfl, rfl, by simp, fun k hk _ => by
    show (w.heap.push o)[k]? = _
    rw [Array.getElem?_push, if_neg (by omega)]⟩
theorem Keep.drew (w : World) : Keep noImm w w.drew := ⟨rfl, rfl, rfl, Nat.le_refl _, fun _ _ _ => rfl⟩

theorem SR.lt {b : Nat} {B : Blk} {l : Loc} (h : SR M0 A w0 w μ I m) (hb : look m b = some B) (hl : μ b = some l) (hn : l.isNil = false) : l.blk < w.heap.size := by
  obtain ⟨l', hl', hB⟩ := h.blks b B hb
  rw [hl] at hl'; injection hl' with e; subst e
  rcases hB with ⟨h1, _⟩ | ⟨_, ⟨C, T, fr, vs, h1, _⟩, _⟩
  · rw [hn] at h1; cases h1
  · by_cases hlt : l.blk < w.heap.size
    · exact hlt
    · rw [Array.getElem?_eq_none (by omega)] at h1; cases h1

/-- The world went on and left all that was there as it was; no own block was added. -/
theorem SR.keeps (h : SR M0 A w0 w μ I m) (k : Keep noImm w w') : SR M0 A w0 w' μ I m := by
  have S : Stays μ μ I I w w' := ⟨fun _ _ h => h, fun _ h => h, fun j hj => k.block j (h.immLt j hj) (fun x => x)⟩
  refine ⟨fun b B hb => ?_, h.inj, fun j hj => Nat.lt_of_lt_of_le (h.immLt j hj) k.size, h.immA, h.immN, h.keep.trans' k⟩
  obtain ⟨l, hl, hB⟩ := h.blks b B hb
  refine ⟨l, hl, ?_⟩
  rcases hB with h1 | ⟨h1, h2, h3, h4⟩
  · exact .inl h1
  · exact .inr ⟨h1, h2.stays S (k.block _ (h.lt hb hl h1) (fun x => x)), h3, h4⟩
theorem SR.stays (h : SR M0 A w0 w μ I m) (k : Keep noImm w w') : Stays μ μ I I w w' :=
  ⟨fun _ _ h => h, fun _ h => h, fun j hj => k.block j (h.immLt j hj) (fun x => x)⟩

def setLoc (μ : Locs) (q : Nat) (l : Loc) : Locs := fun b => if b = q then some l else μ b
theorem setLoc_self (μ : Locs) (q : Nat) (l : Loc) : setLoc μ q l q = some l := by simp [setLoc]
theorem setLoc_ne (μ : Locs) {q b : Nat} (l : Loc) (h : b ≠ q) : setLoc μ q l b = μ b := by simp [setLoc, h]
theorem setLoc_stays {q : Nat} (l : Loc) (hq : μ q = none) (hk : Keep noImm w w') (himm : ∀ k, I k → k < w.heap.size) : Stays μ (setLoc μ q l) I I w w' :=
  ⟨fun b l' hb => by
    by_cases e : b = q
    · subst e; rw [hq] at hb; cases hb
    · rw [setLoc_ne μ l e]; exact hb, fun _ h => h, fun j hj => hk.block j (himm j hj) (fun x => x)⟩

/-- A new block: the call's own. -/
theorem SR.new {q kd : Nat} {cs : List AV} {C : Array Value} {vs : List Value} {t : TypeId} {fr : Nat × Nat} (h : SR M0 A w0 w μ I m) (hq : μ q = none) (wk : World)
    (hwk : wk.heap[w.heap.size]? = some (.cells C t fr)) (hfr : fr = (0, 0) ∨ C.size ≤ fr.1) (hk : Keep noImm w wk)
    (hv : VRs w cs (kμ kd μ) (kI kd I) vs) (hC : ∀ (j : Nat) (x : Value), vs[j]? = some x → C[j]? = some x) (lim : Nat) (hlim : cs.length ≤ lim) (hlim2 : lim ≤ C.size) (hkd : kd = 2 → lim = cs.length) :
    SR M0 A w0 wk (setLoc μ q ⟨w.heap.size, 0, lim, false⟩) I (m ++ [(q, ⟨cs, kd, false⟩)]) ∧ Stays μ (setLoc μ q ⟨w.heap.size, 0, lim, false⟩) I I w wk := by
  have S := setLoc_stays (μ := μ) (I := I) ⟨w.heap.size, 0, lim, false⟩ hq hk h.immLt
  have hm : ∀ b B, look (m ++ [(q, (⟨cs, kd, false⟩ : Blk))]) b = some B → (look m b = some B ∧ b ≠ q) ∨ (b = q ∧ B = ⟨cs, kd, false⟩) := by
    intro b B hb
    rw [look_append] at hb
    cases hl : look m b with
    | some B' =>
      rw [hl] at hb
      obtain ⟨l, hl2, _⟩ := h.blks b B' hl
      refine .inl ⟨hb, fun e => ?_⟩
      subst e; rw [hq] at hl2; cases hl2
    | none =>
      rw [hl] at hb
      simp only [look] at hb
      split at hb
      · rename_i e
        injection hb with hb
        exact .inr ⟨by simpa using (beq_iff_eq.1 e).symm, hb.symm⟩
      · cases hb
  refine ⟨⟨fun b B hb => ?_, fun b b' B B' l l' hb hb' hne hfz hl hl' hn hn' => ?_, fun k hk' => ?_, h.immA, h.immN, h.keep.trans' hk⟩, S⟩
  · rcases hm b B hb with ⟨hb, hne⟩ | ⟨rfl, rfl⟩
    · obtain ⟨l, hl, hB⟩ := h.blks b B hb
      refine ⟨l, by rw [setLoc_ne μ _ hne]; exact hl, ?_⟩
      rcases hB with h1 | ⟨h1, h2, h3, h4⟩
      · exact .inl h1
      · exact .inr ⟨h1, h2.stays S (hk.block _ (h.lt hb hl h1) (fun x => x)), h3, h4⟩
    · refine ⟨_, setLoc_self _ _ _, .inr ⟨rfl, ⟨C, t, fr, vs, hwk, hlim2, hfr, by simpa using hlim, by simpa using hkd, VRs.stays _ (kμ_stays S kd) vs hv, by simpa using hC⟩, (fun e => by cases e), fun _ => ⟨fun hI => ?_, .inr h.keep.size⟩⟩⟩
      exact absurd (h.immLt _ hI) (by simp)
  · rcases hm b B hb with ⟨hb1, hne1⟩ | ⟨rfl, rfl⟩ <;> rcases hm b' B' hb' with ⟨hb2, hne2⟩ | ⟨rfl, rfl⟩
    · rw [setLoc_ne μ _ hne1] at hl; rw [setLoc_ne μ _ hne2] at hl'
      exact h.inj b b' B B' l l' hb1 hb2 hne hfz hl hl' hn hn'
    · rw [setLoc_ne μ _ hne1] at hl; rw [setLoc_self] at hl'
      injection hl' with e; subst e
      have := h.lt hb1 hl hn
      simp; omega
    · rw [setLoc_ne μ _ hne2] at hl'; rw [setLoc_self] at hl
      injection hl with e; subst e
      have := h.lt hb2 hl' hn'
      simp; omega
    · exact absurd rfl hne
  · have := h.immLt k hk'
    have := hk.size
    omega

theorem VR.ev {t : List AV} {a : Act} (ht : VRs w t μ I a.tmps.toList) (x : Operand) : VR w (ev t x) μ I (a.eval x) := by
  cases x with
  | tmp i =>
    simp only [AM.ev, Act.eval]
    cases h : t[i]? with
    | some c =>
      obtain ⟨y, hy, hv⟩ := ht.get h
      have e1 : t.getD i (.tup []) = c := by simp [List.getD, h]
      have e2 : a.tmps.getD i undef = y := by
        simp only [Array.getElem?_toList] at hy
        simp [hy]
      rw [e1, e2]; exact hv
    | none =>
      have e1 : t.getD i (.tup []) = .tup [] := by simp [List.getD, h]
      have hlen := ht.length
      have : t.length ≤ i := by
        rcases Nat.lt_or_ge i t.length with h' | h'
        · rw [List.getElem?_eq_getElem h'] at h; cases h
        · exact h'
      have e2 : a.tmps.getD i undef = undef := by
        simp only [Array.length_toList] at hlen
        have : a.tmps[i]? = none := by rw [Array.getElem?_eq_none]; omega
        simp [this]
      rw [e1, e2]
      simp [VR, VRs, undef]
  | const v =>
    simp only [AM.ev, Act.eval]
    unfold cst
    split <;> simp [VR]
  | global g => simp [AM.ev, VR]
  | func f => simp [AM.ev, Act.eval, VR, VRs]
end
end Go.AM
