import Derived.Test.YtahbgblkinknoaaCk
/- Lsas of the program. -/
set_option linter.unusedSimpArgs false
set_option linter.unusedVariables false
set_option maxRecDepth 100000
set_option maxHeartbeats 4000000
namespace Go.AM.Try
open Go.Proofs.Try
attribute [-simp] strA
attribute [simp] strA_addc strA_eql strA_neq

theorem linkC_at {l : List Lk} {i : Nat} (hi : i < l.length) : (linkC l).drop (i * 2) = .int .i64 (lat l i).to :: .int .i64 (lat l i).cost :: linkC (l.drop (i + 1)) := by
  rw [linkC_drop hi]; simp [lat, hi]
theorem lsaC_at {l : List Lsa} {i : Nat} (hi : i < l.length) : (lsaC l).drop (i * 4) = .int .i64 (aat l i).router :: .int .i64 (aat l i).serial :: .int .i64 (aat l i).age :: linkV (aat l i).links :: lsaC (l.drop (i + 1)) := by
  rw [lsaC_drop hi]; simp [aat, hi]
theorem headC_at {l : List Hd} {i : Nat} (hi : i < l.length) : (headC l).drop (i * 4) = .int .i64 (hat l i).router :: .int .i64 (hat l i).serial :: .int .i64 (hat l i).age :: .int .i64 (hat l i).sum :: headC (l.drop (i + 1)) := by
  rw [headC_drop hi]; simp [hat, hi]
def clsa_Links (r : Int) (l : List Lk) (i : Nat) : St := ⟨[linkV l, .int .i64 r, .any, .any, .any, .any, .any, linkV l, .int .i64 l.length, .int .i64 i, .any, .any, .any, .any, .any, .any, .any, .any, .any, .any, .any, .any, .any, .any, .any, .any, .any, .any, .any, .any, .any, .any, .any, .any, .any, .any, .any, .any, .any, .any, .any, .any, .any, .any, .any, .any, .any, .any, .any, .any], [], 0⟩
open Classical in
noncomputable def g100 : List AV → Option AV
  | [v, .int .i64 r] => if okLinks v then some (.bool (linksMay r (unLinks v))) else none
  | _ => none
theorem t100 : ∀ args r, g100 args = some r → Told prog 100 args r := by
  intro args r h
  unfold g100 at h
  split at h <;> try (cases h; done)
  rename_i v r
  split at h <;> try (cases h; done)
  rename_i hcond
  injection h with h; subst h
  obtain ⟨hc, hb⟩ := hcond
  obtain ⟨l, hl⟩ : ∃ l, unLinks v = l := ⟨_, rfl⟩
  unfold isLinks at hc
  rw [hl] at hc hb ⊢
  refine Told.le (.cons hc (.cons (.refl _) .nil)) ?_
  refine told_fn (i := info 100) (n := (l.length + 1)) TTok L22ok mix fn100 po100 ?_
  obtain ⟨N, hN, hp, hend⟩ := scan (linkOk r l) l.length
  have ww : ∀ k : Nat, k ≤ 100000001 → IntKind.i64.wrap (k : Int) = (k : Int) := fun k hk => wi64 (by omega) (by omega)
  simp [f100, linkV]
  rw [iter_to (clsa_Links r l) N (by omega)]
  · rcases hend with ⟨h1, h2, h3⟩ | ⟨rfl, h3⟩
    · have hd := linkC_at h1
      cases hA : inR 1 4 (lat l N).to
      · simp [clsa_Links, linkV, g58, h1, hd, hA, linksMay, h3]
      · skip
        by_cases hB : (lat l N).to = r
        · subst hB; simp [clsa_Links, linkV, g58, h1, hd, hA, linksMay, h3]
        · skip
          by_cases hC : (lat l N).cost < 1
          · simp [clsa_Links, linkV, g58, h1, hd, hA, hB, hC, linksMay, h3]
          · skip
            by_cases hD : 65535 < (lat l N).cost
            · simp [clsa_Links, linkV, g58, h1, hd, hA, hB, hC, hD, linksMay, h3]
            · skip
              have h6 : 0 < N ∧ (lat l N).to ≤ (lat l (N - 1)).to := by
                apply Classical.byContradiction; intro hn
                have h7 : linkOk r l N = true := by
                  simp [linkOk, inR, hA, hB, hC, hD]; simp [inR] at *; omega
                rw [h7] at h2; cases h2
              obtain ⟨h5, h6⟩ := h6
              have q : (N : Int) - 1 = ((N - 1 : Nat) : Int) := by omega
              have hd1 := linkC_at (l := l) (i := N - 1) (by omega)
              have h7 : N - 1 < l.length := by omega
              simp [clsa_Links, linkV, g58, h1, hd, hA, hB, hC, hD, h5, q, ww (N - 1) (by omega), hd1, h6, h7, linksMay, h3]
    · simp [clsa_Links, linkV, g58, linksMay, h3]
  · simp [clsa_Links, linkV, g58]
  · intro i hi
    have w1 : IntKind.i64.wrap ((i : Int) + 1) = (i : Int) + 1 := wi64 (by omega) (by omega)
    have h1 : i < l.length := by omega
    have hd := linkC_at h1
    have h2 := hp i hi
    simp only [linkOk, Bool.and_eq_true, Bool.or_eq_true, decide_eq_true_eq, Bool.not_eq_true', decide_eq_false_iff_not] at h2
    obtain ⟨hA, hB, hCD, hE⟩ := h2
    have hC : ¬ (lat l i).cost < 1 := by simp [inR] at hCD; omega
    have hD : ¬ 65535 < (lat l i).cost := by simp [inR] at hCD; omega
    rcases Nat.eq_zero_or_pos i with h5 | h5
    · subst h5
      simp [clsa_Links, linkV, g58, h1, hd, hA, hB, hC, hD]
    · have h6 : ¬ (lat l i).to ≤ (lat l (i - 1)).to := by omega
      have q : (i : Int) - 1 = ((i - 1 : Nat) : Int) := by omega
      have hd1 := linkC_at (l := l) (i := i - 1) (by omega)
      have h7 : i - 1 < l.length := by omega
      simp [clsa_Links, linkV, g58, h1, hd, hA, hB, hC, hD, h5, q, w1, ww (i - 1) (by omega), hd1, h6, h7]
  · rcases hend with ⟨h1, h2, h3⟩ | ⟨rfl, h3⟩
    · have hd := linkC_at h1
      cases hA : inR 1 4 (lat l N).to
      · simp [clsa_Links, linkV, g58, h1, hd, hA, stops]
      · skip
        by_cases hB : (lat l N).to = r
        · subst hB; simp [clsa_Links, linkV, g58, h1, hd, hA, stops]
        · skip
          by_cases hC : (lat l N).cost < 1
          · simp [clsa_Links, linkV, g58, h1, hd, hA, hB, hC, stops]
          · skip
            by_cases hD : 65535 < (lat l N).cost
            · simp [clsa_Links, linkV, g58, h1, hd, hA, hB, hC, hD, stops]
            · skip
              have h6 : 0 < N ∧ (lat l N).to ≤ (lat l (N - 1)).to := by
                apply Classical.byContradiction; intro hn
                have h7 : linkOk r l N = true := by
                  simp [linkOk, inR, hA, hB, hC, hD]; simp [inR] at *; omega
                rw [h7] at h2; cases h2
              obtain ⟨h5, h6⟩ := h6
              have q : (N : Int) - 1 = ((N - 1 : Nat) : Int) := by omega
              have hd1 := linkC_at (l := l) (i := N - 1) (by omega)
              have h7 : N - 1 < l.length := by omega
              simp [clsa_Links, linkV, g58, h1, hd, hA, hB, hC, hD, h5, q, ww (N - 1) (by omega), hd1, h6, h7, stops]
    · simp [clsa_Links, linkV, g58, stops]
noncomputable abbrev L100 := AM.ext L22 100 g100
theorem L100ok : CallOK prog L100 := L22ok.ext fn100 (by kernel_rfl) t100
open Classical in
noncomputable def g87 : List AV → Option AV
  | [.agg [.int .i64 r, .int .i64 s, .int .i64 a, v]] => if okLinks v then some (.bool (lsaMay ⟨r, s, a, unLinks v⟩)) else none
  | _ => none
theorem t87 : ∀ args r, g87 args = some r → Told prog 87 args r := by
  intro args r h
  unfold g87 at h
  split at h <;> try (cases h; done)
  rename_i r s a v
  split at h <;> try (cases h; done)
  rename_i hcond
  injection h with h; subst h
  obtain ⟨hc, hb⟩ := hcond
  obtain ⟨l, hl⟩ : ∃ l, unLinks v = l := ⟨_, rfl⟩
  unfold isLinks at hc
  rw [hl] at hc hb ⊢
  refine Told.le (.cons (.agg (.cons (.refl _) (.cons (.refl _) (.cons (.refl _) (.cons hc .nil))))) .nil) ?_
  refine told_fn (i := info 87) (n := 5) TTok L100ok mix fn87 po87 ?_
  unfold lsaMay
  cases hc0 : inR 1 4 r
  · simp [f87, g58, g98, g99, g100, hb, linkV, hc0]
  cases hc1 : inR 1 2147483647 s
  · simp [f87, g58, g98, g99, g100, hb, linkV, hc0, hc1]
  cases hc2 : inR 0 60 a
  · simp [f87, g58, g98, g99, g100, hb, linkV, hc0, hc1, hc2]
  simp [f87, g58, g98, g99, g100, hb, linkV, hc0, hc1, hc2]
noncomputable abbrev L87 := AM.ext L100 87 g87
theorem L87ok : CallOK prog L87 := L100ok.ext fn87 (by kernel_rfl) t87
end Go.AM.Try

