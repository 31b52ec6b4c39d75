/- The abstract machine, part 18: what is handed back; functions. -/
import Derived.Test.YtahbgblkinknoaaAMq
set_option linter.unusedVariables false
set_option linter.unusedSimpArgs false
set_option linter.unnecessarySimpa false
namespace Go.AM

def fzIds (m : List (Nat × Blk)) : List Nat := (m.map (·.1)).filter fun k => match look m k with
  | some B => B.fz
  | none => false
def onlyFz (m : List (Nat × Blk)) : List (Nat × Blk) := only (fzIds m) m
/-- One cell as it is handed back; which own blocks go with it, from which cell on. -/
def exp1 (m : List (Nat × Blk)) (c : AV) : Option (AV × List (Nat × Nat)) :=
  match c with
  | .ref b off len sz => match look m b with
    | some B => if B.fz then (exC (onlyFz m) 4 (.ref b off len sz)).map fun d => (d, [])
        else if B.kd ≤ 1 then some (.fr B.kd (B.cs.drop off) len sz, [(b, off)]) else none
    | none => none
  | .ptr b off => match look m b with
    | some B => if B.fz then (exC (onlyFz m) 4 (.ptr b off)).map fun d => (d, [])
        else if off = 0 ∧ B.kd = 2 ∧ kdL B.cs ≤ 1 then some (.fp B.cs, [(b, 0)]) else none
    | none => none
  | c => if kdOf c ≤ 1 then some (c, []) else none
def expL (m : List (Nat × Blk)) : List AV → Option (List AV × List (Nat × Nat))
  | [] => some ([], [])
  | c :: cs => match exp1 m c, expL m cs with
    | some (d, b), some (ds, bs) => some (d :: ds, b ++ bs)
    | _, _ => none
def exp2 (m : List (Nat × Blk)) : AV → Option (AV × List (Nat × Nat))
  | .agg cs => (expL m cs).map fun r => (.agg r.1, r.2)
  | c => exp1 m c
def exp2L (m : List (Nat × Blk)) : List AV → Option (List AV × List (Nat × Nat))
  | [] => some ([], [])
  | c :: cs => match exp2 m c, exp2L m cs with
    | some (d, b), some (ds, bs) => some (d :: ds, b ++ bs)
    | _, _ => none
def expR (m : List (Nat × Blk)) : AV → Option (AV × List (Nat × Nat))
  | .tup cs => (exp2L m cs).map fun r => (.tup r.1, r.2)
  | c => exp2 m c
def resA (T : Tab) (s : St) : ResultVar → Option AV
  | .tmp i => some (s.t.getD i (.tup []))
  | .cell i ty => loadA T s.m ty (s.t.getD i (.tup []))
def apartL : List (Nat × Nat) → Bool
  | [] => true
  | (b, _) :: r => (r.all fun x => x.1 != b) && apartL r
def oneA : List AV → AV
  | [v] => v
  | vs => .tup vs
def retA (T : Tab) (fn : Func) (s : St) : Option AV :=
  match fn.results.toList.mapM (resA T s) with
  | none => none
  | some vs => match expR s.m (oneA vs) with
    | none => none
    | some (r, bs) => if apartL bs then some r else none

/-- The blocks that go with a result, by their new names. -/
def mk (m : List (Nat × Blk)) : Nat → List (Nat × Nat) → List (Nat × Blk)
  | _, [] => []
  | q, (b, off) :: r => (q, match look m b with | some B => ⟨B.cs.drop off, B.kd, false⟩ | none => ⟨[], 0, false⟩) :: mk m (q + 1) r
def reb (μ : Locs) (p : Nat × Nat) : Option Loc := (μ p.1).map fun l => ⟨l.blk, l.base + p.2, l.lim, l.isNil⟩

section
variable {P : Program} {T : Tab} {M0 A : Nat → Prop} {w0 w w' : World} {μ μ' : Locs} {I I' : Nat → Prop} {m m' mv : List (Nat × Blk)} {q : Nat} {o : Oper} {a : Act} {t t' : List AV} {call : Nat → List AV → Option AV} {ops : Array Oper}

theorem mk_append (m : List (Nat × Blk)) : ∀ (q : Nat) (a b : List (Nat × Nat)), mk m q (a ++ b) = mk m q a ++ mk m (q + a.length) b
  | q, [], b => by simp [mk]
  | q, (x, off) :: a, b => by
    simp only [List.cons_append, mk, List.length_cons]
    rw [mk_append m (q + 1) a b, show q + 1 + a.length = q + (a.length + 1) by omega]
theorem look_mk : ∀ {q : Nat} {bs : List (Nat × Nat)} {n : Nat} {B' : Blk}, look (mk m q bs) n = some B' → ∃ i p, n = q + i ∧ bs[i]? = some p ∧ ∀ B, look m p.1 = some B → B' = ⟨B.cs.drop p.2, B.kd, false⟩
  | q, [], n, B', h => by simp [mk, look] at h
  | q, (b, off) :: r, n, B', h => by
    simp only [mk, look] at h
    split at h
    · rename_i e
      injection h with h
      refine ⟨0, (b, off), by simpa using (beq_iff_eq.1 e).symm, by simp, fun B hB => ?_⟩
      rw [← h]
      simp only at hB
      rw [hB]
    · obtain ⟨i, p, h1, h2, h3⟩ := look_mk h
      exact ⟨i + 1, p, by omega, by simpa using h2, h3⟩
theorem onlyFz_look {b : Nat} {B : Blk} (h : look (onlyFz m) b = some B) : look m b = some B ∧ B.fz = true := by
  obtain ⟨h1, h2⟩ := look_only _ _ _ _ h
  refine ⟨h1, ?_⟩
  simp only [fzIds, List.contains_iff_mem, List.mem_filter] at h2
  have := h2.2
  rw [h1] at this
  exact this

/-- What it means that a value can be handed back with these blocks. -/
structure Hands (w : World) (μ : Locs) (I : Nat → Prop) (m : List (Nat × Blk)) (bs : List (Nat × Nat)) : Prop where
  ok : ∀ p ∈ bs, ∃ B l, look m p.1 = some B ∧ B.fz = false ∧ μ p.1 = some l ∧ (¬ B.kd ≤ 1 → kdL B.cs ≤ 1 ∧ p.2 = 0) ∧ (l.isNil = false → l.base + p.2 ≤ l.lim)

theorem Hands.append {a b : List (Nat × Nat)} (h : Hands w μ I m a) (g : Hands w μ I m b) : Hands w μ I m (a ++ b) :=
  ⟨fun p hp => by
    rcases List.mem_append.1 hp with h1 | h1
    · exact h.ok p h1
    · exact g.ok p h1⟩

/-- d, taken by a caller at q, is x. -/
def Takes (take : Nat → AV → AV × List (Nat × Blk) × Nat) (w : World) (μ : Locs) (I : Nat → Prop) (m : List (Nat × Blk)) (d : AV) (bs : List (Nat × Nat)) (x : Value) : Prop :=
  Hands w μ I m bs ∧ ∀ q, (take q d).2.1 = mk m q bs ∧ (take q d).2.2 = q + bs.length ∧ ∀ μq : Locs, (∀ k p, bs[k]? = some p → μq (q + k) = reb μ p) → VR w (take q d).1 μq I x
def TakesL (take : Nat → List AV → List AV × List (Nat × Blk) × Nat) (w : World) (μ : Locs) (I : Nat → Prop) (m : List (Nat × Blk)) (d : List AV) (bs : List (Nat × Nat)) (x : List Value) : Prop :=
  Hands w μ I m bs ∧ ∀ q, (take q d).2.1 = mk m q bs ∧ (take q d).2.2 = q + bs.length ∧ ∀ μq : Locs, (∀ k p, bs[k]? = some p → μq (q + k) = reb μ p) → VRs w (take q d).1 μq I x

/-- No own block is named: nothing goes with it. -/
def plainC : AV → Bool
  | .int _ _ | .bool _ | .str _ | .nilp | .snil | .sl _ _ _ | .rptr _ => true
  | _ => false
theorem take1_plain {d : AV} (h : ∀ kd cs len sz, d ≠ .fr kd cs len sz) (h2 : ∀ cs, d ≠ .fp cs) (q : Nat) : take1 q d = (d, [], q) := by
  cases d <;> first | rfl | exact absurd rfl (h _ _ _ _) | exact absurd rfl (h2 _)
theorem Takes.plain {d : AV} {x : Value} (h : ∀ kd cs len sz, d ≠ .fr kd cs len sz) (h2 : ∀ cs, d ≠ .fp cs) (hv : VR w d noLocs I x) : Takes take1 w μ I m d [] x := by
  refine ⟨⟨fun p hp => by cases hp⟩, fun q => ?_⟩
  rw [take1_plain h h2]
  exact ⟨rfl, rfl, fun μq _ => VR.stays _ (Stays.locs μq I w) x hv⟩
theorem VR.closed {c : AV} {x : Value} (hc : kdOf c ≤ 1) (h : VR w c μ I x) : VR w c noLocs I x := by
  cases c <;> simp [kdOf] at hc <;> simp only [VR] at h ⊢ <;> exact h
theorem VR.notFr {d : AV} {x : Value} (h : VR w d μ I x) : (∀ kd cs len sz, d ≠ .fr kd cs len sz) ∧ (∀ cs, d ≠ .fp cs) := by
  constructor
  · rintro kd cs len sz rfl; simp [VR] at h
  · rintro cs rfl; simp [VR] at h

theorem exp1_ok (hS : SR M0 A w0 w μ I m) {c d : AV} {bs : List (Nat × Nat)} {x : Value} (h : exp1 m c = some (d, bs)) (hv : VR w c μ I x) : Takes take1 w μ I m d bs x := by
  have hfzs : ∀ (c d : AV), exC (onlyFz m) 4 c = some d → VR w c μ I x → Takes take1 w μ I m d [] x := by
    intro c d hd hv
    have := exC_ok hS (fun b B hb => (onlyFz_look hb).1) (J := I) (fun _ h => h) (fun b B l hb hl hn => by
      obtain ⟨hb1, hb2⟩ := onlyFz_look hb
      obtain ⟨l', hl', hBO⟩ := hS.blks b B hb1
      rw [hl] at hl'; injection hl' with e; subst e
      rcases hBO with ⟨h1, _⟩ | ⟨_, _, h3, _⟩
      · rw [hn] at h1; cases h1
      · exact h3 hb2) 4 c d x hd hv
    obtain ⟨h1, h2⟩ := this.notFr
    exact Takes.plain h1 h2 this
  unfold exp1 at h
  split at h
  · rename_i b off len sz
    split at h
    · rename_i B hB
      split at h
      · rename_i hf
        simp only [Option.map_eq_some_iff, Prod.mk.injEq] at h
        obtain ⟨d', hd, rfl, rfl⟩ := h
        exact hfzs _ _ hd hv
      · rename_i hf
        split at h
        · rename_i hk
          injection h with h; injection h with h1 h2; subst h1; subst h2
          simp only [VR] at hv
          obtain ⟨l, hl, hv⟩ := hv
          refine ⟨⟨fun p hp => ?_⟩, fun q => ⟨by simp [take1, mk, hB], by simp [take1], fun μq hμ => ?_⟩⟩
          · have : p = (b, off) := by simpa using hp
            subst this
            refine ⟨B, l, hB, by simpa using hf, hl, fun e => by omega, fun hn => ?_⟩
            rcases hv with ⟨h1, _⟩ | ⟨_, cap, _, _, h2⟩
            · rw [hn] at h1; cases h1
            · simp only; omega
          · have := hμ 0 (b, off) rfl
            simp only [Nat.add_zero, reb, hl, Option.map_some] at this
            simp only [take1, VR]
            refine ⟨_, this, ?_⟩
            rcases hv with ⟨h1, h2, h3, h4⟩ | ⟨h1, cap, h2, h3, h4⟩
            · exact .inl ⟨h1, h2, by simp, h4⟩
            · exact .inr ⟨h1, cap, h2, h3, h4⟩
        · cases h
    · cases h
  · rename_i b off
    split at h
    · rename_i B hB
      split at h
      · rename_i hf
        simp only [Option.map_eq_some_iff, Prod.mk.injEq] at h
        obtain ⟨d', hd, rfl, rfl⟩ := h
        exact hfzs _ _ hd hv
      · rename_i hf
        split at h
        · rename_i hk
          obtain ⟨rfl, hk1, hk2⟩ := hk
          injection h with h; injection h with h1 h2; subst h1; subst h2
          simp only [VR] at hv
          obtain ⟨l, hl, hn, hv⟩ := hv
          obtain ⟨l0, hl0, hBO⟩ := hS.blks b B hB
          rw [hl] at hl0; injection hl0 with e; subst e
          refine ⟨⟨fun p hp => ?_⟩, fun q => ⟨by simp [take1, mk, hB, hk1], by simp [take1], fun μq hμ => ?_⟩⟩
          · have : p = (b, 0) := by simpa using hp
            subst this
            refine ⟨B, l, hB, by simpa using hf, hl, fun e => ⟨hk2, rfl⟩, fun hn => ?_⟩
            rcases hBO with ⟨h1, _⟩ | ⟨_, ⟨C, ct, fr, vs, a1, a2, a3, a4, a5, a6, a7⟩, _, _⟩
            · rw [hn] at h1; cases h1
            · simp only; omega
          · have := hμ 0 (b, 0) rfl
            simp only [Nat.add_zero, reb, hl, Option.map_some] at this
            simp only [take1, VR]
            exact ⟨_, this, hn, hv⟩
        · cases h
    · cases h
  · split at h
    · rename_i hk
      injection h with h; injection h with h1 h2; subst h1; subst h2
      obtain ⟨h1, h2⟩ := hv.notFr
      exact Takes.plain h1 h2 (hv.closed hk)
    · cases h

theorem shift {a b : List (Nat × Nat)} {μq : Locs} (h : ∀ k p, (a ++ b)[k]? = some p → μq (q + k) = reb μ p) :
    (∀ k p, a[k]? = some p → μq (q + k) = reb μ p) ∧ ∀ k p, b[k]? = some p → μq (q + a.length + k) = reb μ p := by
  refine ⟨fun k p hk => h k p ?_, fun k p hk => ?_⟩
  · rw [List.getElem?_append, if_pos (List.getElem?_eq_some_iff.1 hk).1]; exact hk
  · rw [Nat.add_assoc]
    refine h _ p ?_
    rw [List.getElem?_append, if_neg (by omega), show a.length + k - a.length = k by omega]; exact hk

theorem expL_ok (hS : SR M0 A w0 w μ I m) : ∀ {cs ds : List AV} {bs : List (Nat × Nat)} {xs : List Value}, expL m cs = some (ds, bs) → VRs w cs μ I xs → TakesL takeL w μ I m ds bs xs
  | [], ds, bs, xs, h, hv => by
    simp only [expL] at h
    injection h with h; injection h with h1 h2; subst h1; subst h2
    refine ⟨⟨fun p hp => by cases hp⟩, fun q => ⟨rfl, rfl, fun μq _ => ?_⟩⟩
    simpa [VRs, takeL] using hv
  | c :: cs, ds, bs, xs, h, hv => by
    simp only [expL] at h
    split at h
    · rename_i d b ds' bs' h1 h2
      injection h with h; injection h with h3 h4; subst h3; subst h4
      simp only [VRs] at hv
      obtain ⟨x, xs, rfl, hx, hxs⟩ := hv
      obtain ⟨g1, g2⟩ := exp1_ok hS h1 hx
      obtain ⟨f1, f2⟩ := expL_ok hS h2 hxs
      refine ⟨g1.append f1, fun q => ?_⟩
      obtain ⟨e1, e2, e3⟩ := g2 q
      obtain ⟨k1, k2, k3⟩ := f2 (take1 q d).2.2
      simp only [takeL]
      rw [e2] at k1 k2 k3 ⊢
      refine ⟨by rw [e1, k1, mk_append], by rw [k2]; simp; omega, fun μq hμ => ?_⟩
      obtain ⟨s1, s2⟩ := shift hμ
      exact VRs.cons (e3 μq s1) (k3 μq s2)
    · cases h

theorem exp1_shape {c d : AV} {bs : List (Nat × Nat)} (h : exp1 m c = some (d, bs)) : (∀ ds, d ≠ .agg ds) ∧ ∀ ds, d ≠ .tup ds := by
  have hex : ∀ n c d, exC (onlyFz m) n c = some d → ((∃ cs, d = .agg cs) → ∃ cs, c = .agg cs) ∧ ((∃ cs, d = .tup cs) → ∃ cs, c = .tup cs) := by
    intro n c d h
    constructor
    all_goals
      rintro ⟨ds, rfl⟩
      cases n <;> cases c <;> simp only [exC] at h <;> first
        | exact ⟨_, rfl⟩
        | (cases h; done)
        | (simp only [Option.map_eq_some_iff] at h; obtain ⟨_, _, h⟩ := h; cases h; done)
        | (split at h
           · first
             | (split at h
                · cases h
                · first
                  | (split at h
                     · cases h
                     · simp only [Option.map_eq_some_iff] at h; obtain ⟨_, _, h⟩ := h; cases h)
                  | (simp only [Option.map_eq_some_iff] at h; obtain ⟨_, _, h⟩ := h; cases h))
           · cases h)
  have key : ∀ c d, exC (onlyFz m) 4 c = some d → (∀ cs, c ≠ .agg cs) → (∀ cs, c ≠ .tup cs) → (∀ ds, d ≠ .agg ds) ∧ ∀ ds, d ≠ .tup ds := by
    intro c d h h1 h2
    obtain ⟨g1, g2⟩ := hex 4 c d h
    refine ⟨fun ds e => ?_, fun ds e => ?_⟩
    · obtain ⟨cs, e'⟩ := g1 ⟨ds, e⟩; exact h1 cs e'
    · obtain ⟨cs, e'⟩ := g2 ⟨ds, e⟩; exact h2 cs e'
  unfold exp1 at h
  split at h
  · split at h
    · split at h
      · simp only [Option.map_eq_some_iff, Prod.mk.injEq] at h
        obtain ⟨d', hd, rfl, _⟩ := h
        exact key _ _ hd (fun _ e => by cases e) (fun _ e => by cases e)
      · split at h
        · injection h with h; injection h with h1 h2; subst h1
          exact ⟨fun _ e => (by cases e), fun _ e => by cases e⟩
        · cases h
    · cases h
  · split at h
    · split at h
      · simp only [Option.map_eq_some_iff, Prod.mk.injEq] at h
        obtain ⟨d', hd, rfl, _⟩ := h
        exact key _ _ hd (fun _ e => by cases e) (fun _ e => by cases e)
      · split at h
        · injection h with h; injection h with h1 h2; subst h1
          exact ⟨fun _ e => (by cases e), fun _ e => by cases e⟩
        · cases h
    · cases h
  · split at h
    · rename_i hk
      injection h with h; injection h with h1 h2
      subst h1
      exact ⟨fun _ e => (by subst e; simp [kdOf] at hk), fun _ e => by subst e; simp [kdOf] at hk⟩
    · cases h

theorem exp2_ok (hS : SR M0 A w0 w μ I m) {c d : AV} {bs : List (Nat × Nat)} {x : Value} (h : exp2 m c = some (d, bs)) (hv : VR w c μ I x) : Takes take2 w μ I m d bs x := by
  have hone : exp1 m c = some (d, bs) → Takes take2 w μ I m d bs x := by
    intro h
    obtain ⟨hna, _⟩ := exp1_shape h
    obtain ⟨g1, g2⟩ := exp1_ok hS h hv
    refine ⟨g1, fun q => ?_⟩
    have : take2 q d = take1 q d := by cases d <;> first | rfl | exact absurd rfl (hna _)
    rw [this]; exact g2 q
  cases c
  case agg cs =>
    simp only [exp2, Option.map_eq_some_iff, Prod.mk.injEq] at h
    obtain ⟨⟨ds, bs'⟩, h, rfl, rfl⟩ := h
    simp only [VR] at hv
    obtain ⟨vs, rfl, hv⟩ := hv
    obtain ⟨g1, g2⟩ := expL_ok hS h hv
    refine ⟨g1, fun q => ?_⟩
    obtain ⟨e1, e2, e3⟩ := g2 q
    simp only [take2]
    exact ⟨e1, e2, fun μq hμ => by simp only [VR]; exact ⟨vs, rfl, e3 μq hμ⟩⟩
  all_goals (simp only [exp2] at h; exact hone h)

theorem exp2L_ok (hS : SR M0 A w0 w μ I m) : ∀ {cs ds : List AV} {bs : List (Nat × Nat)} {xs : List Value}, exp2L m cs = some (ds, bs) → VRs w cs μ I xs → TakesL take2L w μ I m ds bs xs
  | [], ds, bs, xs, h, hv => by
    simp only [exp2L] at h
    injection h with h; injection h with h1 h2; subst h1; subst h2
    refine ⟨⟨fun p hp => by cases hp⟩, fun q => ⟨rfl, rfl, fun μq _ => ?_⟩⟩
    simpa [VRs, take2L] using hv
  | c :: cs, ds, bs, xs, h, hv => by
    simp only [exp2L] at h
    split at h
    · rename_i d b ds' bs' h1 h2
      injection h with h; injection h with h3 h4; subst h3; subst h4
      simp only [VRs] at hv
      obtain ⟨x, xs, rfl, hx, hxs⟩ := hv
      obtain ⟨g1, g2⟩ := exp2_ok hS h1 hx
      obtain ⟨f1, f2⟩ := exp2L_ok hS h2 hxs
      refine ⟨g1.append f1, fun q => ?_⟩
      obtain ⟨e1, e2, e3⟩ := g2 q
      obtain ⟨k1, k2, k3⟩ := f2 (take2 q d).2.2
      simp only [take2L]
      rw [e2] at k1 k2 k3 ⊢
      refine ⟨by rw [e1, k1, mk_append], by rw [k2]; simp; omega, fun μq hμ => ?_⟩
      obtain ⟨s1, s2⟩ := shift hμ
      exact VRs.cons (e3 μq s1) (k3 μq s2)
    · cases h

theorem expR_ok (hS : SR M0 A w0 w μ I m) {c d : AV} {bs : List (Nat × Nat)} {x : Value} (h : expR m c = some (d, bs)) (hv : VR w c μ I x) : Takes adopt w μ I m d bs x := by
  have hone : exp2 m c = some (d, bs) → (∀ cs, d ≠ .tup cs) → Takes adopt w μ I m d bs x := by
    intro h hna
    obtain ⟨g1, g2⟩ := exp2_ok hS h hv
    refine ⟨g1, fun q => ?_⟩
    have : adopt q d = take2 q d := by cases d <;> first | rfl | exact absurd rfl (hna _)
    rw [this]; exact g2 q
  cases c
  case tup cs =>
    simp only [expR, Option.map_eq_some_iff, Prod.mk.injEq] at h
    obtain ⟨⟨ds, bs'⟩, h, rfl, rfl⟩ := h
    simp only [VR] at hv
    obtain ⟨vs, rfl, hv⟩ := hv
    obtain ⟨g1, g2⟩ := exp2L_ok hS h hv
    refine ⟨g1, fun q => ?_⟩
    obtain ⟨e1, e2, e3⟩ := g2 q
    simp only [adopt]
    exact ⟨e1, e2, fun μq hμ => by simp only [VR]; exact ⟨vs, rfl, e3 μq hμ⟩⟩
  case agg cs =>
    simp only [expR] at h
    refine hone h ?_
    simp only [exp2, Option.map_eq_some_iff, Prod.mk.injEq] at h
    obtain ⟨_, _, rfl, _⟩ := h
    exact fun _ e => by cases e
  all_goals (simp only [expR] at h; exact hone h (by simp only [exp2] at h; exact (exp1_shape h).2))

theorem apartL_ne : ∀ {bs : List (Nat × Nat)}, apartL bs = true → ∀ (i j : Nat) (p p' : Nat × Nat), bs[i]? = some p → bs[j]? = some p' → i ≠ j → p.1 ≠ p'.1
  | [], _, i, j, p, p', hi, _, _ => by simp at hi
  | (b, o) :: r, h, i, j, p, p', hi, hj, hne => by
    simp only [apartL, Bool.and_eq_true, List.all_eq_true, bne_iff_ne] at h
    cases i with
    | zero =>
      cases j with
      | zero => exact absurd rfl hne
      | succ j =>
        simp at hi hj
        subst hi
        exact (Ne.symm (h.1 p' (List.mem_of_getElem? hj)))
    | succ i =>
      cases j with
      | zero =>
        simp at hi hj
        subst hj
        exact h.1 p (List.mem_of_getElem? hi)
      | succ j =>
        exact apartL_ne h.2 i j p p' (by simpa using hi) (by simpa using hj) (by omega)

/-- What goes with a result is the caller's from now on. -/
theorem fresh_ok (hS : SR noImm A w0 w μ I m) {c d : AV} {bs : List (Nat × Nat)} {x : Value} (h : expR m c = some (d, bs)) (hap : apartL bs = true) (hv : VR w c μ I x) (q : Nat) : Fresh w0 w A q d x := by
  obtain ⟨hH, hT⟩ := expR_ok hS h hv
  obtain ⟨e1, e2, e3⟩ := hT q
  have hμ : ∀ k p, bs[k]? = some p → (if q ≤ q + k then (bs[q + k - q]?).bind (reb μ) else none) = reb μ p := by
    intro k p hk
    simp only [Nat.le_add_right, if_true, show q + k - q = k by omega, hk, Option.bind_some]
  refine ⟨fun n => if q ≤ n then (bs[n - q]?).bind (reb μ) else none, I, ?_, fun b hb => ?_, e3 _ hμ⟩
  · rw [e1]
    have hlk : ∀ n B', look (mk m q bs) n = some B' → ∃ i p B l, n = q + i ∧ bs[i]? = some p ∧ look m p.1 = some B ∧ B.fz = false ∧ μ p.1 = some l ∧ (¬ B.kd ≤ 1 → kdL B.cs ≤ 1 ∧ p.2 = 0) ∧ (l.isNil = false → l.base + p.2 ≤ l.lim) ∧ B' = ⟨B.cs.drop p.2, B.kd, false⟩ := by
      intro n B' hn
      obtain ⟨i, p, h1, h2, h3⟩ := look_mk hn
      obtain ⟨B, l, g1, g2, g3, g4, g5⟩ := hH.ok p (List.mem_of_getElem? h2)
      exact ⟨i, p, B, l, h1, h2, g1, g2, g3, g4, g5, h3 B g1⟩
    refine ⟨fun n B' hn => ?_, fun n n' B' B'' l l' hn hn' hne hfz hl hl' hnn hnn' => ?_, hS.immLt, hS.immA, hS.immN, hS.keep⟩
    · obtain ⟨i, p, B, l, rfl, hi, hB, hf, hl, hk2, hlim, rfl⟩ := hlk n B' hn
      refine ⟨⟨l.blk, l.base + p.2, l.lim, l.isNil⟩, by rw [hμ i p hi]; simp only [reb, hl, Option.map_some], ?_⟩
      obtain ⟨l0, hl0, hBO⟩ := hS.blks p.1 B hB
      rw [hl] at hl0; injection hl0 with e; subst e
      rcases hBO with ⟨h1, h2⟩ | ⟨h1, ⟨C, ct, fr, vs, a1, a2, a3, a4, a5, a6, a7⟩, h3, h4⟩
      · exact .inl ⟨h1, by simp [h2]⟩
      · have hvl := a6.length
        refine .inr ⟨h1, ⟨C, ct, fr, vs.drop p.2, a1, a2, a3, ?_, fun e => ?_, ?_, fun j y hy => ?_⟩, (fun e => by cases e), fun _ => h4 hf⟩
        · have := hlim h1
          simp only [List.length_drop]; omega
        · obtain ⟨_, hz⟩ := hk2 (by have e' : B.kd = 2 := e; omega)
          have := a5 e
          simp only [hz, List.drop_zero, Nat.add_zero]; exact this
        · show VRs w (B.cs.drop p.2) (kμ B.kd _) (kI B.kd I) (vs.drop p.2)
          by_cases hk : B.kd ≤ 1
          · unfold kμ at a6 ⊢
            rw [if_pos hk] at a6 ⊢
            exact a6.drop _
          · have e1 : ∀ μ : Locs, kμ B.kd μ = μ := fun μ => by unfold kμ; rw [if_neg hk]
            have e2 : kI B.kd I = I := by unfold kI; rw [if_neg (by omega)]
            rw [e1, e2] at a6 ⊢
            have hkk : kdL B.cs ≤ 1 := (hk2 hk).1
            have h8 := kL_ok a6
            unfold kμ at h8
            rw [if_pos hkk] at h8
            refine VRs.drop (VRs.stays _ ⟨fun b l h => by simp [noLocs] at h, fun k h => ?_, fun _ _ => rfl⟩ vs h8) _
            unfold kI at h
            split at h
            · exact h.elim
            · exact h
        · rw [List.getElem?_drop] at hy
          have := a7 _ y hy
          rw [← this]
          show C[l.base + p.2 + j]? = _
          rw [Nat.add_assoc]
    · obtain ⟨i, p, B, l1, rfl, hi, hB, hf, hl1, _, _, rfl⟩ := hlk n B' hn
      obtain ⟨i', p', B2, l2, rfl, hi', hB2, hf2, hl2, _, _, rfl⟩ := hlk n' B'' hn'
      rw [hμ i p hi] at hl; rw [hμ i' p' hi'] at hl'
      simp only [reb, hl1, Option.map_some, Option.some.injEq] at hl
      simp only [reb, hl2, Option.map_some, Option.some.injEq] at hl'
      subst hl; subst hl'
      exact hS.inj p.1 p'.1 B B2 l1 l2 hB hB2 (apartL_ne hap i i' p p' hi hi' (by omega)) hf hl1 hl2 hnn hnn'
  · rw [e2] at hb
    show (if q ≤ b then (bs[b - q]?).bind (reb μ) else none) = none
    split
    · rw [List.getElem?_eq_none (by omega)]; rfl
    · rfl
end
end Go.AM
