/- The abstract machine, part 15: operations in any order come to the same. -/
import Derived.Test.YtahbgblkinknoaaAMn
set_option linter.unusedVariables false
set_option linter.unusedSimpArgs false
set_option linter.unnecessarySimpa false
namespace Go.AM
section
variable {P : Program} {T : Tab} {M0 A : Nat → Prop} {w0 w w' : World} {μ μ' : Locs} {I I' : Nat → Prop} {m m' mv : List (Nat × Blk)} {q : Nat} {o : Oper} {a : Act} {t t' : List AV} {call : Nat → List AV → Option AV} {ops : Array Oper}

theorem idsIn_look {adds : List (Nat × Blk)} (h : idsIn q adds = true) {b : Nat} {B : Blk} (hb : look adds b = some B) : q ≤ b ∧ b < q + 16 := by
  induction adds with
  | nil => simp [look] at hb
  | cons x r ih =>
    obtain ⟨k, C⟩ := x
    simp only [idsIn, Bool.and_eq_true, decide_eq_true_eq] at h
    simp only [look] at hb
    split at hb
    · rename_i e
      have : k = b := by simpa using e
      subst this; exact h.1
    · exact ih h.2 hb

theorem mem_ready {l : Array Bool} {i : Nat} (h : i ∈ Region.ready .any ops l) : i < ops.size ∧ l.getD i true = false ∧ ∃ o, ops[i]? = some o ∧ ∀ e ∈ o.after.toList, Region.binds .any e = true → l.getD e.on false = true := by
  unfold Region.ready at h
  simp only [List.mem_filter, List.mem_range, Bool.and_eq_true, Bool.not_eq_true'] at h
  obtain ⟨h1, h2, h3⟩ := h
  refine ⟨h1, h2, ops[i], Array.getElem?_eq_getElem h1, ?_⟩
  rw [Array.getElem?_eq_getElem h1] at h3
  simp only [Option.map_some, Option.getD_some, Array.all_eq_true_iff_forall_mem, Bool.or_eq_true, Bool.not_eq_true'] at h3
  intro e he hb
  rcases h3 e (by simpa using he) with h4 | h4
  · rw [hb] at h4; cases h4
  · exact h4

/-- The tail: one after the other. -/
theorem tail_ok (TO : TabOK P T) (CO : CallOK P call) (hM : ∀ k, ¬ M0 k) {Q : Exit → Act → World → Prop} : ∀ (tail : List Nat) {l : Array Bool} {s s' : St} {a : Act} {w : World} (f : Nat), tail.length ≤ f → tailOK ops tail l = true → Inv M0 A w0 s a w →
    runL T call ops tail s = some s' → (∀ a' w', Inv M0 A w0 s' a' w' → Q .normal a' w') → wpAny P .any ops Q f l a w
  | [], l, s, s', a, w, f, hf, ht, hI, h, hQ => by
    simp only [tailOK, List.isEmpty_iff] at ht
    injection h with h; subst h
    cases f with
    | zero => exact ⟨ht, hQ _ _ hI⟩
    | succ f => exact ⟨fun _ => hQ _ _ hI, fun i hi => by rw [ht] at hi; cases hi⟩
  | i :: r, l, s, s', a, w, f, hf, ht, hI, h, hQ => by
    simp only [tailOK, Bool.and_eq_true, beq_iff_eq] at ht
    obtain ⟨hr, ht⟩ := ht
    cases f with
    | zero => simp at hf
    | succ f =>
      refine ⟨fun e => (by rw [hr] at e; cases e), fun j hj => ?_⟩
      have hj' := hj
      rw [hr] at hj
      have : j = i := by simpa using hj
      subst this
      obtain ⟨_, _, o, ho, _⟩ := mem_ready hj'
      simp only [runL, ho] at h
      split at h
      · rename_i s1 hs
        unfold wpOp
        rw [ho]
        exact stepA_ok TO CO hM hI hs fun a' w' hI' => tail_ok TO CO hM r f (by simp at hf; omega) ht hI' h hQ
      · cases h

/-- Which temporaries hold what, after the operations L. -/
structure Tm (ops : Array Oper) (p : Nat) (V : Nat → AV) (t0 : List AV) (L : Nat → Prop) (t : List AV) : Prop where
  len : t.length = t0.length
  put : ∀ j d, j < p → L j → dstOf ops j = some d → d < t0.length → t[d]? = some (V j)
  old : ∀ d, (∀ j, j < p → L j → dstOf ops j ≠ some d) → t[d]? = t0[d]?

theorem Tm.step {p : Nat} {anc : Nat → Nat} (hp : Plan ops p anc) {V : Nat → AV} {t0 : List AV} {L L' : Nat → Prop} {i : Nat} (hi : i < p) (h : Tm ops p V t0 L t) (hn : ¬ L i) (hL : ∀ j, L' j ↔ L j ∨ j = i) :
    Tm ops p V t0 L' (putA t (dstOf ops i) (V i)) := by
  have hlen : (putA t (dstOf ops i) (V i)).length = t0.length := by
    unfold putA; split <;> simp [h.len]
  refine ⟨hlen, fun j d hj hLj hd hlt => ?_, fun d hd => ?_⟩
  · by_cases hji : j = i
    · subst hji
      rw [hd]
      simp [putA, h.len, hlt]
    · have hLj' : L j := ((hL j).1 hLj).resolve_right hji
      have := h.put j d hj hLj' hd hlt
      unfold putA
      split
      · rename_i d' hd'
        rw [List.getElem?_set_ne (fun e => hp.apart i j d' hi hj hji hd' (by rw [e]; exact hd))]
        exact this
      · exact this
  · have : t[d]? = t0[d]? := h.old d fun j hj hLj => hd j hj ((hL j).2 (.inl hLj))
    unfold putA
    split
    · rename_i d' hd'
      rw [List.getElem?_set_ne (fun e => hd i hi ((hL i).2 (.inr rfl)) (by rw [hd', e]))]
      exact this
    · exact this

theorem Tm.look {p : Nat} {V : Nat → AV} {t0 : List AV} {L L' : Nat → Prop} (h : Tm ops p V t0 L t) (h' : Tm ops p V t0 L' t') {d : Nat} (hd : ∀ j, j < p → dstOf ops j = some d → (L j ↔ L' j)) : t[d]? = t'[d]? := by
  by_cases hlt : d < t0.length
  · by_cases hj : ∃ j, j < p ∧ dstOf ops j = some d ∧ L j
    · obtain ⟨j, hj, hjd, hL⟩ := hj
      rw [h.put j d hj hL hjd hlt, h'.put j d hj ((hd j hj hjd).1 hL) hjd hlt]
    · rw [h.old d fun j hj' hL hjd => hj ⟨j, hj', hjd, hL⟩, h'.old d fun j hj' hL hjd => hj ⟨j, hj', hjd, (hd j hj' hjd).2 hL⟩]
  · rw [List.getElem?_eq_none (by rw [h.len]; omega), List.getElem?_eq_none (by rw [h'.len]; omega)]

theorem look_pickA {anc : Nat} {ads : List (Nat × List (Nat × Blk))} {b : Nat} {B : Blk} (h : look (pickA anc ads) b = some B) : ∃ j x, (j, x) ∈ ads ∧ anc.testBit j = true ∧ look x b = some B := by
  induction ads with
  | nil => simp [pickA, look] at h
  | cons y r ih =>
    obtain ⟨j, x⟩ := y
    simp only [pickA] at h
    split at h
    · rename_i hj
      rw [look_append] at h
      split at h
      · rename_i B' hB
        injection h with h; subst h
        exact ⟨j, x, by simp, hj, hB⟩
      · obtain ⟨j', x', h1, h2⟩ := ih h
        exact ⟨j', x', by simp [h1], h2⟩
    · obtain ⟨j', x', h1, h2⟩ := ih h
      exact ⟨j', x', by simp [h1], h2⟩
theorem look_allA {ads : List (Nat × List (Nat × Blk))} {b : Nat} {B : Blk} (h : look (allA ads) b = some B) : ∃ j x, (j, x) ∈ ads ∧ look x b = some B := by
  induction ads with
  | nil => simp [allA, look] at h
  | cons y r ih =>
    obtain ⟨j, x⟩ := y
    simp only [allA] at h
    rw [look_append] at h
    split at h
    · rename_i B' hB
      injection h with h; subst h
      exact ⟨j, x, by simp, hB⟩
    · obtain ⟨j', x', h1, h2⟩ := ih h
      exact ⟨j', x', by simp [h1], h2⟩
theorem mem_addA {i : Nat} {x : List (Nat × Blk)} {ads : List (Nat × List (Nat × Blk))} {j : Nat} {y : List (Nat × Blk)} (h : (j, y) ∈ addA i x ads) : (j = i ∧ y = x) ∨ (j, y) ∈ ads := by
  unfold addA at h
  split at h
  · exact .inr h
  · rcases List.mem_cons.1 h with h | h
    · injection h with h1 h2; exact .inl ⟨h1, h2⟩
    · exact .inr h

/-- What each of the first p operations gives. -/
structure Pre (T : Tab) (call : Nat → List AV → Option AV) (ops : Array Oper) (ancs : List Nat) (s : St) (p : Nat) (V : Nat → AV) (AD : Nat → List (Nat × Blk)) (tp : List AV) (adp : List (Nat × List (Nat × Blk))) : Prop where
  tm : Tm ops p V s.t (fun j => j < p) tp
  ads : ∀ j x, (j, x) ∈ adp → j < p ∧ x = AD j
  val : ∀ i, i < p → ∃ o ti adi, ops[i]? = some o ∧ Tm ops p V s.t (fun j => j < i) ti ∧ (∀ j x, (j, x) ∈ adi → j < i ∧ x = AD j) ∧ valP T call ops (ancs.getD i 0) s.m (s.nx + 16 * i) o ti adi = some (V i, AD i)

theorem preN_pre {ancs : List Nat} {s : St} {p : Nat} (hp : Plan ops p fun i => ancs.getD i 0) {tp : List AV} {adp : List (Nat × List (Nat × Blk))} (h : preN T call ops ancs s p = some (tp, adp)) :
    ∃ V AD, Pre T call ops ancs s p V AD tp adp := by
  -- all that came before is there
  have hdown : ∀ k i, i + k = p → ∃ ti adi, preN T call ops ancs s i = some (ti, adi) := by
    intro k
    induction k with
    | zero => intro i hi; exact ⟨tp, adp, by rw [show i = p by omega]; exact h⟩
    | succ k ih =>
      intro i hi
      obtain ⟨t1, ad1, h1⟩ := ih (i + 1) (by omega)
      simp only [preN] at h1
      split at h1
      · cases h1
      · rename_i ti adi hh; exact ⟨ti, adi, hh⟩
  have hstep : ∀ i, i < p → ∃ o ti adi v x, ops[i]? = some o ∧ preN T call ops ancs s i = some (ti, adi) ∧ valP T call ops (ancs.getD i 0) s.m (s.nx + 16 * i) o ti adi = some (v, x) ∧ preN T call ops ancs s (i + 1) = some (putA ti o.dst v, addA i x adi) := by
    intro i hi
    obtain ⟨t1, ad1, h1⟩ := hdown (p - (i + 1)) (i + 1) (by omega)
    obtain ⟨ti, adi, h2⟩ := hdown (p - i) i (by omega)
    have h3 := h1
    simp only [preN, h2] at h3
    split at h3
    · cases h3
    · rename_i o ho
      split at h3
      · cases h3
      · rename_i v x hv
        injection h3 with h3
        exact ⟨o, ti, adi, v, x, ho, h2, hv, by rw [h1, ← h3]⟩
  let VA : Nat → AV × List (Nat × Blk) := fun i => match ops[i]?, preN T call ops ancs s i with
    | some o, some (ti, adi) => (valP T call ops (ancs.getD i 0) s.m (s.nx + 16 * i) o ti adi).getD (.any, [])
    | _, _ => (.any, [])
  have hall : ∀ i, i ≤ p → ∀ ti adi, preN T call ops ancs s i = some (ti, adi) → Tm ops p (fun j => (VA j).1) s.t (fun j => j < i) ti ∧ ∀ j x, (j, x) ∈ adi → j < i ∧ x = (VA j).2 := by
    intro i
    induction i with
    | zero =>
      intro _ ti adi h0
      simp only [preN] at h0
      injection h0 with h0; injection h0 with h1 h2; subst h1; subst h2
      exact ⟨⟨rfl, fun j d _ hj => by omega, fun d _ => rfl⟩, fun j x hx => by cases hx⟩
    | succ i ih =>
      intro hi ti adi h0
      obtain ⟨o, t1, ad1, v, x, ho, h1, hv, h2⟩ := hstep i (by omega)
      rw [h2] at h0; injection h0 with h0; injection h0 with h3 h4; subst h3; subst h4
      obtain ⟨g1, g2⟩ := ih (by omega) t1 ad1 h1
      have hVA : VA i = (v, x) := by simp only [VA, ho, h1, hv, Option.getD_some]
      refine ⟨?_, fun j y hy => ?_⟩
      · have := Tm.step hp (i := i) (L' := fun j => j < i + 1) (by omega) g1 (Nat.lt_irrefl _) (fun j => by omega)
        simp only [dstOf, ho, Option.bind_some, hVA] at this
        exact this
      · rcases mem_addA hy with ⟨rfl, rfl⟩ | hy
        · exact ⟨by omega, by rw [hVA]⟩
        · obtain ⟨g3, g4⟩ := g2 j y hy
          exact ⟨by omega, g4⟩
  refine ⟨fun j => (VA j).1, fun j => (VA j).2, (hall p (Nat.le_refl _) tp adp h).1, (hall p (Nat.le_refl _) tp adp h).2, fun i hi => ?_⟩
  obtain ⟨o, ti, adi, v, x, ho, h1, hv, h2⟩ := hstep i hi
  obtain ⟨g1, g2⟩ := hall i (by omega) ti adi h1
  have hVA : VA i = (v, x) := by simp only [VA, ho, h1, hv, Option.getD_some]
  exact ⟨o, ti, adi, ho, g1, g2, by rw [hv, hVA]⟩

/-- How many of the first k are still to come. -/
def cnt (l : Array Bool) : Nat → Nat
  | 0 => 0
  | k + 1 => cnt l k + if l.getD k true then 0 else 1
theorem cnt_set {l : Array Bool} {i : Nat} (hi : i < l.size) (h0 : l.getD i true = false) : ∀ k, cnt (l.setIfInBounds i true) k + (if i < k then 1 else 0) = cnt l k
  | 0 => by simp [cnt]
  | k + 1 => by
    have ih := cnt_set hi h0 k
    simp only [cnt]
    by_cases hk : i = k
    · subst hk
      have : (l.setIfInBounds i true).getD i true = true := by simp [Array.getD, hi]
      rw [this, h0]
      simp at ih ⊢; omega
    · have : (l.setIfInBounds i true).getD k true = l.getD k true := by
        simp only [Array.getD_eq_getD_getElem?]
        rw [Array.getElem?_setIfInBounds_ne hk]
      rw [this]
      by_cases hlt : i < k
      · have h2 : i < k + 1 := by omega
        simp only [hlt, h2, if_true] at ih ⊢; omega
      · have h2 : ¬ i < k + 1 := by omega
        simp only [hlt, h2, if_false] at ih ⊢; omega
theorem cnt_pos {l : Array Bool} {j : Nat} (hj : l.getD j true = false) : ∀ k, j < k → 0 < cnt l k
  | 0, h => by omega
  | k + 1, h => by
    simp only [cnt]
    by_cases hk : j = k
    · subst hk; rw [hj]; simp
    · have := cnt_pos hj k (by omega); omega

theorem getD_set {l : Array Bool} {i j : Nat} (hi : i < l.size) (d : Bool) : (l.setIfInBounds i true).getD j d = if j = i then true else l.getD j d := by
  simp only [Array.getD_eq_getD_getElem?]
  by_cases h : j = i
  · subst h; rw [if_pos rfl]; simp [hi]
  · rw [if_neg h, Array.getElem?_setIfInBounds_ne (Ne.symm h)]

theorem drawA_ok (TO : TabOK P T) (CO : CallOK P call) (hM : ∀ k, ¬ M0 k) {Q : Exit → Act → World → Prop} {p : Nat} {ancs tail : List Nat} (hpl : planOK ops p ancs tail = true) {s s' : St} (hI : Inv M0 A w0 s a w)
    (h : drawA T call ops p ancs tail s = some s') (hQ : ∀ a' w', Inv M0 A w0 s' a' w' → Q .normal a' w') :
    wpAny P .any ops Q ops.size (Array.replicate ops.size false) a w := by
  obtain ⟨hp, htl, htok⟩ := planOK_plan hpl
  unfold drawA at h
  split at h
  · cases h
  rename_i tp adp hpre
  obtain ⟨V, AD, pr⟩ := preN_pre hp hpre
  have hgd : ∀ (l : Array Bool) (j : Nat), l.size = ops.size → j < ops.size → (l.getD j true = false ↔ ¬ l.getD j false = true) := by
    intro l j hl hj
    simp only [Array.getD_eq_getD_getElem?, Array.getElem?_eq_getElem (show j < l.size by omega), Option.getD_some]
    cases l[j] <;> simp
  -- all of the first p have been carried out
  have hdone : ∀ (f : Nat) (l : Array Bool) (a : Act) (w : World), l.size = ops.size → (∀ j, j < ops.size → (l.getD j false = true ↔ j < p)) → ops.size - p ≤ f →
      Inv M0 A w0 ⟨tp, s.m ++ allA adp, s.nx + 16 * p⟩ a w → wpAny P .any ops Q f l a w := by
    intro f l a w hl hlp hf hI'
    have hle : l = listedP ops.size p := by
      apply Array.ext
      · simp [listedP, hl]
      · intro j h1 h2
        have := hlp j (by omega)
        simp only [Array.getD_eq_getD_getElem?, Array.getElem?_eq_getElem h1, Option.getD_some] at this
        simp only [listedP, List.getElem_toArray, List.getElem_map, List.getElem_range]
        by_cases hj : j < p
        · rw [decide_eq_true hj]; exact this.2 hj
        · rw [decide_eq_false hj]
          cases hb : l[j]
          · rfl
          · exact absurd (this.1 hb) hj
    rw [hle]
    exact tail_ok TO CO hM tail f (by omega) htok hI' h hQ
  -- some of the first p are still to come
  have key : ∀ (f : Nat) (l : Array Bool) (a : Act) (w : World) (μ : Locs) (I : Nat → Prop) (mc : List (Nat × Blk)) (tL : List AV), l.size = ops.size → (∀ j, l.getD j false = true → j < p) →
      (∀ j, j < p → l.getD j false = true → ∀ j', (ancs.getD j 0).testBit j' = true → l.getD j' false = true) → cnt l p + (ops.size - p) ≤ f →
      SR M0 A w0 w μ I mc → VRs w tL μ I a.tmps.toList → a.defers = [] → Tm ops p V s.t (fun j => l.getD j false = true) tL →
      (∀ b B, look s.m b = some B → look mc b = some B) → (∀ j b B, l.getD j false = true → look (AD j) b = some B → look mc b = some B) →
      (∀ b, s.nx ≤ b → (∀ j, l.getD j false = true → b < s.nx + 16 * j ∨ s.nx + 16 * j + 16 ≤ b) → μ b = none) → wpAny P .any ops Q f l a w := by
    intro f
    induction f with
    | zero =>
      intro l a w μ I mc tL hl hlp hcl hf hS ht hd hTm hm1 hm2 hid
      refine hdone 0 l a w hl (fun j hj => ⟨hlp j, fun hjp => ?_⟩) (by omega) ?_
      · by_cases hc : l.getD j false = true
        · exact hc
        · have := cnt_pos ((hgd l j hl hj).2 hc) p hjp; omega
      · have hall : ∀ j, j < p → l.getD j false = true := fun j hjp => by
          by_cases hc : l.getD j false = true
          · exact hc
          · have := cnt_pos ((hgd l j hl (by have := hp.size; omega)).2 hc) p hjp; omega
        refine ⟨μ, I, hS.sub fun b B hb => ?_, ?_, fun b hb => ?_, hd⟩
        · rw [look_append] at hb
          split at hb
          · rename_i B' hB; injection hb with hb; subst hb; exact hm1 b _ hB
          · obtain ⟨j, x, h1, h2⟩ := look_allA hb
            obtain ⟨h3, h4⟩ := pr.ads j x h1
            exact hm2 j b B (hall j h3) (h4 ▸ h2)
        · have : tL = tp := by
            apply List.ext_getElem?
            intro d
            exact hTm.look pr.tm fun j hj _ => ⟨fun _ => hj, fun _ => hall j hj⟩
          rw [← this]; exact ht
        · have hb' : s.nx + 16 * p ≤ b := hb
          refine hid b (by omega) fun j hj => ?_
          have := hlp j hj; omega
    | succ f ih =>
      intro l a w μ I mc tL hl hlp hcl hf hS ht hd hTm hm1 hm2 hid
      by_cases hall : ∀ j, j < p → l.getD j false = true
      · refine hdone (f + 1) l a w hl (fun j hj => ⟨hlp j, fun hjp => hall j hjp⟩) (by omega) ?_
        refine ⟨μ, I, hS.sub fun b B hb => ?_, ?_, fun b hb => ?_, hd⟩
        · rw [look_append] at hb
          split at hb
          · rename_i B' hB; injection hb with hb; subst hb; exact hm1 b _ hB
          · obtain ⟨j, x, h1, h2⟩ := look_allA hb
            obtain ⟨h3, h4⟩ := pr.ads j x h1
            exact hm2 j b B (hall j h3) (h4 ▸ h2)
        · have : tL = tp := by
            apply List.ext_getElem?
            intro d
            exact hTm.look pr.tm fun j hj _ => ⟨fun _ => hj, fun _ => hall j hj⟩
          rw [← this]; exact ht
        · have hb' : s.nx + 16 * p ≤ b := hb
          refine hid b (by omega) fun j hj => ?_
          have := hlp j hj; omega
      · have hready : ∀ i, i ∈ Region.ready .any ops l → i < p := by
          intro i hi
          obtain ⟨h1, h2, o, ho, h3⟩ := mem_ready hi
          rcases Nat.lt_or_ge i p with h4 | h4
          · exact h4
          · exfalso
            apply hall
            intro j hj
            obtain ⟨e, he, hb, hlt, hor⟩ := hp.rest i o h4 ho j hj
            have h5 := h3 e he hb
            rcases hor with rfl | h6
            · exact h5
            · exact hcl e.on hlt h5 j h6
        refine ⟨fun hr => ?_, fun i hi => ?_⟩
        · -- the least of those to come is ready
          exfalso
          have hex : ∃ j, j < p ∧ l.getD j true = false := by
            apply Classical.byContradiction
            intro hno
            apply hall
            intro j hj
            by_cases hc : l.getD j false = true
            · exact hc
            · exact absurd ⟨j, hj, (hgd l j hl (by have := hp.size; omega)).2 hc⟩ hno
          have hleast : ∀ n, (∃ j, j < n ∧ j < p ∧ l.getD j true = false) → ∃ j, j < p ∧ l.getD j true = false ∧ ∀ k, k < j → l.getD k true = true := by
            intro n
            induction n with
            | zero => rintro ⟨j, h, _⟩; omega
            | succ n ihn =>
              rintro ⟨j, h1, h2, h3⟩
              by_cases hlow : ∃ k, k < j ∧ l.getD k true = false
              · obtain ⟨k, hk, hk2⟩ := hlow
                exact ihn ⟨k, by omega, by omega, hk2⟩
              · refine ⟨j, h2, h3, fun k hk => ?_⟩
                cases hb : l.getD k true
                · exact absurd ⟨k, hk, hb⟩ hlow
                · rfl
          obtain ⟨j0, hj0, hl0⟩ := hex
          obtain ⟨j, hj, hlj, hlow⟩ := hleast (j0 + 1) ⟨j0, by omega, hj0, hl0⟩
          have hjs : j < ops.size := by have := hp.size; omega
          have : j ∈ Region.ready .any ops l := by
            unfold Region.ready
            simp only [List.mem_filter, List.mem_range, Bool.and_eq_true, Bool.not_eq_true']
            refine ⟨hjs, hlj, ?_⟩
            rw [Array.getElem?_eq_getElem hjs]
            simp only [Option.map_some, Option.getD_some, Array.all_eq_true_iff_forall_mem, Bool.or_eq_true, Bool.not_eq_true']
            intro e he
            by_cases hb : Region.binds .any e = true
            · right
              have hon : e.on < j := hp.low j e.on hj ((hp.edge j ops[j] hj (Array.getElem?_eq_getElem hjs) e.on).2 ⟨e, by simpa using he, hb, .inl rfl⟩)
              have := hlow e.on hon
              have h9 : ¬ l.getD e.on true = false := by rw [this]; simp
              by_cases hc : l.getD e.on false = true
              · exact hc
              · exact absurd ((hgd l e.on hl (by omega)).2 hc) h9
            · left
              cases hx : Region.binds .any e
              · rfl
              · exact absurd hx hb
          rw [hr] at this; cases this
        · have hip := hready i hi
          obtain ⟨hin, hli, o, ho, hedges⟩ := mem_ready hi
          have hnot : ¬ l.getD i false = true := (hgd l i hl hin).1 hli
          obtain ⟨o', ti, adi, ho', htm, hadi, hval⟩ := pr.val i hip
          rw [ho] at ho'; injection ho' with e; subst e
          -- those ahead of it have been carried out
          have hanc : ∀ j, (ancs.getD i 0).testBit j = true → l.getD j false = true := by
            intro j hj
            obtain ⟨e, he, hb, hor⟩ := (hp.edge i o hip ho j).1 hj
            have h5 := hedges e he hb
            rcases hor with rfl | h6
            · exact h5
            · exact hcl e.on (hlp _ h5) h5 j h6
          have hlook : ∀ d, d ∈ o.looksAt ops → ti[d]? = tL[d]? := by
            intro d hdl
            refine htm.look hTm fun j hj hjd => ?_
            by_cases hji : j = i
            · subst hji
              exact ⟨fun hx => by omega, fun hx => absurd hx hnot⟩
            · rcases hp.looks i o hip ho d hdl j hj hji hjd with hb | hb
              · exact ⟨fun _ => hanc j hb, fun _ => hp.low i j hip hb⟩
              · have := hp.low j i hj hb
                exact ⟨fun _ => by omega, fun hlj => absurd (hcl j hj hlj i hb) hnot⟩
          have hidq : ∀ b, s.nx + 16 * i ≤ b → b < s.nx + 16 * i + 16 → μ b = none := by
            intro b h1 h2
            refine hid b (by omega) fun j hj => ?_
            by_cases hji : j = i
            · subst hji; exact absurd hj hnot
            · omega
          have hmv : ∀ b B, look (s.m ++ pickA (ancs.getD i 0) adi) b = some B → look mc b = some B := by
            intro b B hb
            rw [look_append] at hb
            split at hb
            · rename_i B' hB; injection hb with hb; subst hb; exact hm1 b _ hB
            · obtain ⟨j, x, h1, h2, h3⟩ := look_pickA hb
              obtain ⟨h4, h5⟩ := hadi j x h1
              exact hm2 j b B (hanc j h2) (h5 ▸ h3)
          -- what is left when it has been carried out
          have hnext : ∀ (a' : Act) (w' : World) (μ' : Locs) (I' : Nat → Prop) (x : Value), SR M0 A w0 w' μ' I' (mc ++ AD i) → Stays μ μ' I I' w w' → (∀ b, b < s.nx + 16 * i ∨ s.nx + 16 * i + 16 ≤ b → μ' b = μ b) → VR w' (V i) μ' I' x →
              idsIn (s.nx + 16 * i) (AD i) = true → wpAny P .any ops Q f (l.setIfInBounds i true) (a.put o.dst x) w' := by
            intro a' w' μ' I' x hS' hst hid' hv hids
            have hil : i < l.size := by omega
            refine ih (l.setIfInBounds i true) (a.put o.dst x) w' μ' I' (mc ++ AD i) (putA tL o.dst (V i)) (by simp [hl]) (fun j hj => ?_) (fun j hj hlj j' hj' => ?_) ?_ hS' (putA_ok (VRs.stays _ hst _ ht) hv _) (by rw [defers_put]; exact hd) ?_ (fun b B hb => ?_) (fun j b B hj hb => ?_) (fun b hb hbj => ?_)
            · rw [getD_set hil] at hj
              split at hj
              · omega
              · exact hlp j hj
            · rw [getD_set hil] at hlj ⊢
              split
              · rfl
              · split at hlj
                · rename_i e; subst e; exact hanc j' hj'
                · exact hcl j hj hlj j' hj'
            · have := cnt_set hil hli p
              rw [if_pos hip] at this
              omega
            · have := Tm.step hp (L' := fun j => (l.setIfInBounds i true).getD j false = true) hip hTm hnot (fun j => by
                rw [getD_set hil]
                split
                · rename_i e; simp [e]
                · rename_i e; simp [e])
              simp only [dstOf, ho, Option.bind_some] at this
              exact this
            · rw [look_append, hm1 b B hb]
            · rw [look_append]
              rw [getD_set hil] at hj
              split at hj
              · rename_i e; subst e
                cases hlk : look mc b with
                | none => simpa using hb
                | some B' =>
                  exfalso
                  obtain ⟨h1, h2⟩ := idsIn_look hids hb
                  obtain ⟨lx, hlx, _⟩ := hS.blks b B' hlk
                  rw [hidq b h1 h2] at hlx; cases hlx
              · rw [hm2 j b B hj hb]
            · have h1 := hbj i (by rw [getD_set hil]; simp)
              rw [hid' b h1]
              refine hid b hb fun j hj => ?_
              refine hbj j ?_
              rw [getD_set hil]
              split
              · rfl
              · exact hj
          unfold wpOp
          rw [ho]
          simp only
          unfold valP at hval
          split at hval
          · rename_i hw
            rw [wantedA_congr hlook] at hw
            rw [wantedA_ok ht hw, if_pos rfl]
            split at hval
            · rename_i v x hqop
              split at hval
              · rename_i hids
                injection hval with hval; injection hval with h1 h2
                subst h1
                have hqop' : qop T call (s.nx + 16 * i) tL (s.m ++ pickA (ancs.getD i 0) adi) o = some (V i, x) := by
                  rw [← hqop]
                  exact (qop_congr fun d hdm => hlook d (looks_operand hdm)).symm
                refine .inl (Upon.wp ?_)
                refine Upon.mono (qop_ok TO CO hS hmv hidq ht hqop') fun y w' hy => ?_
                obtain ⟨μ', I', hst, hsr, hid', hv⟩ := hy
                rw [h2] at hsr hids
                exact hnext a w' μ' I' y hsr hst hid' hv hids
              · cases hval
            · cases hval
          · rename_i hw
            rw [wantedA_congr hlook] at hw
            rw [wantedA_ok ht hw, if_neg (by simp)]
            injection hval with hval; injection hval with h1 h2
            refine hnext a w μ I undef (by rw [← h2, List.append_nil]; exact hS) (Stays.refl _ _ _) (fun _ _ => rfl) (by rw [← h1]; exact undef_ok) (by rw [← h2]; rfl)
          · cases hval
  obtain ⟨μ, I, hS, ht, hn, hd⟩ := hI
  have hrep : ∀ j, (Array.replicate ops.size false).getD j false = false := by
    intro j
    simp only [Array.getD_eq_getD_getElem?, Array.getElem?_replicate]
    split <;> rfl
  refine key ops.size (Array.replicate ops.size false) a w μ I s.m s.t (by simp) (fun j hj => by rw [hrep] at hj; cases hj) (fun j _ hj => by rw [hrep] at hj; cases hj) ?_ hS ht hd ⟨rfl, fun j d _ hj => (by rw [hrep] at hj; cases hj), fun _ _ => rfl⟩ (fun _ _ h => h) (fun j _ _ hj => by rw [hrep] at hj; cases hj) (fun b hb _ => hn b hb)
  have hc : ∀ k, cnt (Array.replicate ops.size false) k ≤ k := by
    intro k
    induction k with
    | zero => simp [cnt]
    | succ k ih =>
      simp only [cnt]
      split <;> omega
  have := hc p
  have := hp.size
  omega
end
end Go.AM
