/- The abstract machine, part 8: a call's results become the caller's own. -/
import Derived.Test.YtahbgblkinknoaaAMg
set_option linter.unusedVariables false
set_option linter.unusedSimpArgs false
set_option linter.unnecessarySimpa false
namespace Go.AM
section
variable {P : Program} {T : Tab} {M0 A : Nat → Prop} {w0 w w' : World} {μ μ' : Locs} {I I' : Nat → Prop} {m mv : List (Nat × Blk)} {q : Nat}

/-- Its meaning hangs on no memory but the own blocks' places. -/
def ind : AV → Bool
  | .int _ _ | .bool _ | .str _ | .nilp | .snil | .ref _ _ _ _ | .ptr _ _ => true
  | .sl _ [] _ => true
  | _ => false
def indL : List AV → Bool
  | [] => true
  | c :: cs => ind c && indL cs
theorem VR.ind {c : AV} {x : Value} (h : AM.ind c = true) (hm : ∀ b l, μ b = some l → μ' b = some l) (hv : VR w c μ I x) : VR w' c μ' I' x := by
  cases c <;> simp [AM.ind] at h <;> simp only [VR] at hv ⊢ <;> try exact hv
  case sl fl cs len =>
    cases cs with
    | nil => simpa using hv
    | cons c cs => simp [AM.ind] at h
  case ref b off len sz =>
    obtain ⟨l, hl, h⟩ := hv
    exact ⟨l, hm _ _ hl, h⟩
  case ptr b off =>
    obtain ⟨l, hl, h⟩ := hv
    exact ⟨l, hm _ _ hl, h⟩
theorem VRs.ind : ∀ {cs : List AV} {vs : List Value}, indL cs = true → (∀ b l, μ b = some l → μ' b = some l) → VRs w cs μ I vs → VRs w' cs μ' I' vs
  | [], _, _, _, hv => by simpa [VRs] using hv
  | c :: cs, _, h, hm, hv => by
    simp only [indL, Bool.and_eq_true] at h
    simp only [VRs] at hv ⊢
    obtain ⟨x, xs, rfl, h1, h2⟩ := hv
    exact ⟨x, xs, rfl, h1.ind h.1 hm, VRs.ind h.2 hm h2⟩
theorem indL_of_kd : ∀ {cs : List AV}, kdL cs = 0 → indL cs = true
  | [], _ => rfl
  | c :: cs, h => by
    simp only [kdL] at h
    simp only [indL, Bool.and_eq_true]
    refine ⟨?_, indL_of_kd (by omega)⟩
    have : kdOf c = 0 := by omega
    cases c <;> simp [kdOf] at this <;> rfl

/-- What the blocks of a result are. -/
def BlkGood (fl : Bool) (B : Blk) : Prop := B.fz = false ∧ (fl = true → B.kd = 0 ∨ indL B.cs = true)
theorem take1_good (q : Nat) (c : AV) : (∀ b B, look (take1 q c).2.1 b = some B → BlkGood (flat1 c) B) ∧ (flat1 c = true → ind (take1 q c).1 = true) ∧ q ≤ (take1 q c).2.2 := by
  cases c <;> simp only [take1] <;> first
    | (refine ⟨fun b B h => by simp [look] at h, fun h => ?_, Nat.le_refl _⟩; first | rfl | (simp [flat1] at h; done) | (rename_i fl cs len; cases cs <;> simp [flat1] at h <;> rfl))
    | (refine ⟨fun b B h => ?_, fun _ => rfl, by omega⟩
       simp only [look] at h
       split at h
       · injection h with h; subst h
         refine ⟨rfl, fun hf => ?_⟩
         first
           | (rename_i kd cs len sz _; left; cases kd <;> simp_all [flat1])
           | (right; simp only [flat1, beq_iff_eq] at hf; exact indL_of_kd hf)
       · cases h)
theorem takeL_good : ∀ (q : Nat) (cs : List AV), (∀ b B, look (takeL q cs).2.1 b = some B → BlkGood (flatL cs) B) ∧ (flatL cs = true → indL (takeL q cs).1 = true) ∧ q ≤ (takeL q cs).2.2
  | q, [] => ⟨fun b B h => by simp [takeL, look] at h, fun _ => rfl, Nat.le_refl _⟩
  | q, c :: cs => by
    obtain ⟨h1, h2, h3⟩ := take1_good q c
    obtain ⟨g1, g2, g3⟩ := takeL_good (take1 q c).2.2 cs
    simp only [takeL, flatL]
    refine ⟨fun b B h => ?_, fun h => ?_, Nat.le_trans h3 g3⟩
    · rw [look_append] at h
      split at h
      · rename_i B' hB
        injection h with h; subst h
        obtain ⟨e1, e2⟩ := h1 b _ hB
        exact ⟨e1, fun hf => e2 (by simp only [Bool.and_eq_true] at hf; exact hf.1)⟩
      · obtain ⟨e1, e2⟩ := g1 b B h
        exact ⟨e1, fun hf => e2 (by simp only [Bool.and_eq_true] at hf; exact hf.2)⟩
    · simp only [Bool.and_eq_true] at h
      simp only [indL, Bool.and_eq_true]
      exact ⟨h2 h.1, g2 h.2⟩
/-- A value, or a struct of such cells. -/
def ind2 : AV → Bool
  | .agg cs => indL cs
  | c => ind c
def ind2L : List AV → Bool
  | [] => true
  | c :: cs => ind2 c && ind2L cs
def indR : AV → Bool
  | .tup cs => ind2L cs
  | c => ind2 c
theorem take2_good (q : Nat) (c : AV) : (∀ b B, look (take2 q c).2.1 b = some B → BlkGood (flat2 c) B) ∧ (flat2 c = true → ind2 (take2 q c).1 = true) ∧ q ≤ (take2 q c).2.2 := by
  cases c
  case agg cs => exact takeL_good q cs
  all_goals
    obtain ⟨h1, h2, h3⟩ := take1_good q _
    refine ⟨h1, fun h => ?_, h3⟩
    have := h2 h
    simp only [take1, take2] at this ⊢
    first | exact this | (simp [AM.ind] at this)
theorem take2L_good : ∀ (q : Nat) (cs : List AV), (∀ b B, look (take2L q cs).2.1 b = some B → BlkGood (flat2L cs) B) ∧ (flat2L cs = true → ind2L (take2L q cs).1 = true) ∧ q ≤ (take2L q cs).2.2
  | q, [] => ⟨fun b B h => by simp [take2L, look] at h, fun _ => rfl, Nat.le_refl _⟩
  | q, c :: cs => by
    obtain ⟨h1, h2, h3⟩ := take2_good q c
    obtain ⟨g1, g2, g3⟩ := take2L_good (take2 q c).2.2 cs
    simp only [take2L, flat2L]
    refine ⟨fun b B h => ?_, fun h => ?_, Nat.le_trans h3 g3⟩
    · rw [look_append] at h
      split at h
      · rename_i B' hB
        injection h with h; subst h
        obtain ⟨e1, e2⟩ := h1 b _ hB
        exact ⟨e1, fun hf => e2 (by simp only [Bool.and_eq_true] at hf; exact hf.1)⟩
      · obtain ⟨e1, e2⟩ := g1 b B h
        exact ⟨e1, fun hf => e2 (by simp only [Bool.and_eq_true] at hf; exact hf.2)⟩
    · simp only [Bool.and_eq_true] at h
      simp only [ind2L, Bool.and_eq_true]
      exact ⟨h2 h.1, g2 h.2⟩
theorem adopt_good (q : Nat) (c : AV) : (∀ b B, look (adopt q c).2.1 b = some B → BlkGood (flatR c) B) ∧ (flatR c = true → indR (adopt q c).1 = true) ∧ q ≤ (adopt q c).2.2 := by
  cases c
  case tup cs => exact take2L_good q cs
  all_goals
    obtain ⟨h1, h2, h3⟩ := take2_good q _
    refine ⟨h1, fun h => ?_, h3⟩
    have := h2 h
    simp only [take1, take2, adopt] at this ⊢
    first | exact this | (simp [ind2, AM.ind] at this)
theorem VR.ind2 {c : AV} {x : Value} (h : AM.ind2 c = true) (hm : ∀ b l, μ b = some l → μ' b = some l) (hv : VR w c μ I x) : VR w' c μ' I' x := by
  cases c
  case agg cs =>
    simp only [VR] at hv ⊢
    obtain ⟨vs, rfl, hv⟩ := hv
    exact ⟨vs, rfl, VRs.ind h hm hv⟩
  all_goals exact VR.ind h hm hv
theorem VRs.ind2 : ∀ {cs : List AV} {vs : List Value}, ind2L cs = true → (∀ b l, μ b = some l → μ' b = some l) → VRs w cs μ I vs → VRs w' cs μ' I' vs
  | [], _, _, _, hv => by simpa [VRs] using hv
  | c :: cs, _, h, hm, hv => by
    simp only [ind2L, Bool.and_eq_true] at h
    simp only [VRs] at hv ⊢
    obtain ⟨x, xs, rfl, h1, h2⟩ := hv
    exact ⟨x, xs, rfl, h1.ind2 h.1 hm, VRs.ind2 h.2 hm h2⟩
theorem VR.indR {c : AV} {x : Value} (h : AM.indR c = true) (hm : ∀ b l, μ b = some l → μ' b = some l) (hv : VR w c μ I x) : VR w' c μ' I' x := by
  cases c
  case tup cs =>
    simp only [VR] at hv ⊢
    obtain ⟨vs, rfl, hv⟩ := hv
    exact ⟨vs, rfl, VRs.ind2 h hm hv⟩
  all_goals exact VR.ind2 h hm hv

/-- The caller's state behind a call. -/
theorem SR.call {r : AV} {x : Value} {J : Nat → Prop} (hS : SR M0 A w0 w μ I m) (hq : ∀ b, q ≤ b → b < q + 16 → μ b = none) (hq2 : (adopt q r).2.2 ≤ q + 16)
    (hF : Fresh w w' J q r x) (hJ : flatR r = true ∨ ∀ k, J k → I k) : QK M0 A w0 w μ I m q (adopt q r).1 (adopt q r).2.1 x w' := by
  obtain ⟨μc, Ic, hSc, hids, hv⟩ := hF
  obtain ⟨g1, g2, g3⟩ := adopt_good q r
  have hk : Keep noImm w w' := hSc.keep
  let μ' : Locs := fun b => if q ≤ b ∧ b < q + 16 then μc b else μ b
  have hin : ∀ b l, μc b = some l → μ' b = some l := by
    intro b l hb
    have : q ≤ b ∧ b < q + 16 := by
      by_cases h : q ≤ b ∧ b < q + 16
      · exact h
      · rw [hids b (by omega)] at hb; cases hb
    simp only [μ', if_pos this]; exact hb
  have hout : ∀ b l, μ b = some l → μ' b = some l := by
    intro b l hb
    have : ¬ (q ≤ b ∧ b < q + 16) := fun h => by rw [hq b h.1 h.2] at hb; cases hb
    simp only [μ', if_neg this]; exact hb
  let I' : Nat → Prop := fun k => I k ∨ (flatR r = false ∧ Ic k)
  have S : Stays μ μ' I I' w w' := ⟨hout, fun k h => .inl h, fun k h => hk.block k (hS.immLt k h) (fun x => x)⟩
  have hm : ∀ b B, look (m ++ (adopt q r).2.1) b = some B → look m b = some B ∨ (look m b = none ∧ look (adopt q r).2.1 b = some B) := by
    intro b B h
    rw [look_append] at h
    split at h
    · rename_i B' hB; injection h with h; subst h; exact .inl hB
    · rename_i hB; exact .inr ⟨hB, h⟩
  have hnew : ∀ b B l, look (adopt q r).2.1 b = some B → μc b = some l → l.isNil = false → w.heap.size ≤ l.blk ∧ ¬ Ic l.blk := by
    intro b B l hB hl hn
    obtain ⟨l', hl', hBO⟩ := hSc.blks b B hB
    rw [hl] at hl'; injection hl' with e; subst e
    rcases hBO with ⟨h1, _⟩ | ⟨_, _, _, h4⟩
    · rw [hn] at h1; cases h1
    · obtain ⟨h5, h6⟩ := h4 (g1 b B hB).1
      rcases h6 with h6 | h6
      · exact h6.elim
      · exact ⟨h6, h5⟩
  refine ⟨μ', I', S, ⟨fun b B hb => ?_, fun b b' B B' l l' hb hb' hne hfz hl hl' hn hn' => ?_, fun k hk' => ?_, fun k h => .inl (hS.immA k h), fun k h => ?_, hS.keep.trans' hk⟩, fun b hb => ?_, ?_⟩
  · rcases hm b B hb with hb | ⟨hb0, hb⟩
    · obtain ⟨l, hl, hBO⟩ := hS.blks b B hb
      refine ⟨l, hout b l hl, ?_⟩
      rcases hBO with h1 | ⟨h1, h2, h3, h4⟩
      · exact .inl h1
      · refine .inr ⟨h1, h2.stays S (hk.block _ (hS.lt hb hl h1) (fun x => x)), fun e => .inl (h3 e), fun e => ⟨fun hI => ?_, (h4 e).2⟩⟩
        rcases hI with hI | ⟨hf, hI⟩
        · exact (h4 e).1 hI
        · rcases hJ with hJ | hJ
          · rw [hJ] at hf; cases hf
          · rcases hSc.immN _ hI with h | h
            · exact (h4 e).1 (hJ _ h)
            · have := hS.lt hb hl h1; omega
    · obtain ⟨l, hl, hBO⟩ := hSc.blks b B hb
      obtain ⟨hfz, hgood⟩ := g1 b B hb
      refine ⟨l, hin b l hl, ?_⟩
      rcases hBO with h1 | ⟨h1, ⟨C, t, fr, vs, a1, a2, a3, a4, a5, a6, a7⟩, h3, h4⟩
      · exact .inl h1
      · obtain ⟨hge, hnI⟩ := hnew b B l hb hl h1
        refine .inr ⟨h1, ⟨C, t, fr, vs, a1, a2, a3, a4, a5, ?_, a7⟩, (fun e => by rw [hfz] at e; cases e), fun _ => ⟨fun hI => ?_, .inr (Nat.le_trans hS.keep.size hge)⟩⟩
        · cases hf : flatR r with
          | true =>
            rcases hgood hf with h0 | h0
            · unfold kμ kI at a6 ⊢
              rw [if_pos (by omega), if_pos h0] at a6 ⊢
              exact a6
            · refine VRs.ind h0 (fun b l h => ?_) a6
              unfold kμ at h ⊢; split at h
              · simp [noLocs] at h
              · rw [if_neg (by assumption)]; exact hin b l h
          | false =>
            refine VRs.stays _ ⟨fun b l h => ?_, fun k h => ?_, fun _ _ => rfl⟩ vs a6
            · unfold kμ at h ⊢; split at h
              · simp [noLocs] at h
              · rw [if_neg (by assumption)]; exact hin b l h
            · unfold kI at h ⊢; split at h
              · exact h.elim
              · rw [if_neg (by assumption)]; exact .inr ⟨hf, h⟩
        · rcases hI with hI | ⟨_, hI⟩
          · have := hS.immLt _ hI; omega
          · exact hnI hI
  · rcases hm b B hb with hb | ⟨hb0, hb⟩ <;> rcases hm b' B' hb' with hb' | ⟨hb0', hb'⟩
    · obtain ⟨l1, hl1, _⟩ := hS.blks b B hb
      obtain ⟨l2, hl2, _⟩ := hS.blks b' B' hb'
      rw [hout b l1 hl1] at hl; injection hl with e; subst e
      rw [hout b' l2 hl2] at hl'; injection hl' with e; subst e
      exact hS.inj b b' B B' _ _ hb hb' hne hfz hl1 hl2 hn hn'
    · obtain ⟨l1, hl1, _⟩ := hS.blks b B hb
      obtain ⟨l2, hl2, _⟩ := hSc.blks b' B' hb'
      rw [hout b l1 hl1] at hl; injection hl with e; subst e
      rw [hin b' l2 hl2] at hl'; injection hl' with e; subst e
      have := hS.lt hb hl1 hn
      have := (hnew b' B' _ hb' hl2 hn').1
      omega
    · obtain ⟨l1, hl1, _⟩ := hSc.blks b B hb
      obtain ⟨l2, hl2, _⟩ := hS.blks b' B' hb'
      rw [hin b l1 hl1] at hl; injection hl with e; subst e
      rw [hout b' l2 hl2] at hl'; injection hl' with e; subst e
      have := hS.lt hb' hl2 hn'
      have := (hnew b B _ hb hl1 hn).1
      omega
    · obtain ⟨l1, hl1, _⟩ := hSc.blks b B hb
      obtain ⟨l2, hl2, _⟩ := hSc.blks b' B' hb'
      rw [hin b l1 hl1] at hl; injection hl with e; subst e
      rw [hin b' l2 hl2] at hl'; injection hl' with e; subst e
      exact hSc.inj b b' B B' _ _ hb hb' hne hfz hl1 hl2 hn hn'
  · rcases hk' with h | ⟨_, h⟩
    · exact Nat.lt_of_lt_of_le (hS.immLt k h) hk.size
    · exact hSc.immLt k h
  · rcases h with h | ⟨hf, h⟩
    · exact hS.immN k h
    · rcases hSc.immN k h with h | h
      · rcases hJ with hJ | hJ
        · rw [hJ] at hf; cases hf
        · exact hS.immN k (hJ k h)
      · exact .inr (Nat.le_trans hS.keep.size h)
  · simp only [μ', if_neg (by omega : ¬ (q ≤ b ∧ b < q + 16))]
  · cases hf : flatR r with
    | true => exact VR.indR (g2 hf) hin hv
    | false => exact VR.stays _ ⟨hin, fun k h => .inr ⟨hf, h⟩, fun _ _ => rfl⟩ x hv
end
end Go.AM
