import Derived.Test.YtahbgblkinknoaaCp
/- What may be, of the document's own answer. -/
set_option linter.unusedSimpArgs false
set_option linter.unusedVariables false
set_option maxRecDepth 100000
set_option maxHeartbeats 4000000
namespace Go.AM.Try
open Go.Proofs.Try
attribute [-simp] strA
attribute [simp] strA_addc strA_eql strA_neq

def cwatchwordref9_HeardMay (l : List Int) (i : Nat) : St := ⟨[intsV l, .any, .any, .int .i64 i, .any, .any, .any, .any, .any, .any, .any, .any, .any, .any, .any, .any, .any, .any, .any, .any, .any, .any, .any, .any, .any, .any, .any, .any, .any, .any, .any, .any, .any, .any, .any], [], 0⟩
open Classical in
noncomputable def g35 : List AV → Option AV
  | [v] => if okInts v then some (.bool (helloMay (unInts v))) else none
  | _ => none
theorem t35 : ∀ args r, g35 args = some r → Told prog 35 args r := by
  intro args r h
  unfold g35 at h
  split at h <;> try (cases h; done)
  rename_i v
  split at h <;> try (cases h; done)
  rename_i hcond
  injection h with h; subst h
  obtain ⟨hc, hb⟩ := hcond
  obtain ⟨l, hl⟩ : ∃ l, unInts v = l := ⟨_, rfl⟩
  unfold isInts at hc
  rw [hl] at hc hb ⊢
  refine Told.le (.cons hc .nil) ?_
  refine told_fn (i := info 35) (n := (l.length + 1)) TTok L56ok mix fn35 po35 ?_
  obtain ⟨N, hN, hp, hend⟩ := scan (helloOk l) l.length
  have ww : ∀ k : Nat, k ≤ 100000001 → IntKind.i64.wrap (k : Int) = (k : Int) := fun k hk => wi64 (by omega) (by omega)
  simp [f35, intsV]
  rw [iter_to (cwatchwordref9_HeardMay l) N (by omega)]
  · rcases hend with ⟨h1, h2, h3⟩ | ⟨rfl, h3⟩
    · have hd := intsC_at h1
      cases hA : inR 1 4 (iat l N)
      · simp [cwatchwordref9_HeardMay, intsV, g34, h1, hd, hA, helloMay, h3]
      · skip
        have h6 : 0 < N ∧ iat l N ≤ iat l (N - 1) := by
          apply Classical.byContradiction; intro hn
          have h7 : helloOk l N = true := by
            simp [helloOk, inR, hA]; simp [inR] at *; omega
          rw [h7] at h2; cases h2
        obtain ⟨h5, h6⟩ := h6
        have q : (N : Int) - 1 = ((N - 1 : Nat) : Int) := by omega
        have hd1 := intsC_at (l := l) (i := N - 1) (by omega)
        have h7 : N - 1 < l.length := by omega
        simp [cwatchwordref9_HeardMay, intsV, g34, h1, hd, hA, h5, q, ww (N - 1) (by omega), hd1, h6, h7, helloMay, h3]
    · have hlen0 := hello_len h3
      have hlen : (l.length : Int) ≤ 4 := by omega
      simp [cwatchwordref9_HeardMay, intsV, g34, helloMay, h3, hlen]
  · simp [cwatchwordref9_HeardMay, intsV, g34]
  · intro i hi
    have w1 : IntKind.i64.wrap ((i : Int) + 1) = (i : Int) + 1 := wi64 (by omega) (by omega)
    have h1 : i < l.length := by omega
    have hd := intsC_at h1
    have h2 := hp i hi
    simp only [helloOk, Bool.and_eq_true, Bool.or_eq_true, decide_eq_true_eq] at h2
    obtain ⟨hA, hE⟩ := h2
    rcases Nat.eq_zero_or_pos i with h5 | h5
    · subst h5
      simp [cwatchwordref9_HeardMay, intsV, g34, h1, hd, hA]
    · have h6 : ¬ iat l i ≤ iat l (i - 1) := by omega
      have q : (i : Int) - 1 = ((i - 1 : Nat) : Int) := by omega
      have hd1 := intsC_at (l := l) (i := i - 1) (by omega)
      have h7 : i - 1 < l.length := by omega
      simp [cwatchwordref9_HeardMay, intsV, g34, h1, hd, hA, h5, q, w1, ww (i - 1) (by omega), hd1, h6, h7]
  · rcases hend with ⟨h1, h2, h3⟩ | ⟨rfl, h3⟩
    · have hd := intsC_at h1
      cases hA : inR 1 4 (iat l N)
      · simp [cwatchwordref9_HeardMay, intsV, g34, h1, hd, hA, stops]
      · skip
        have h6 : 0 < N ∧ iat l N ≤ iat l (N - 1) := by
          apply Classical.byContradiction; intro hn
          have h7 : helloOk l N = true := by
            simp [helloOk, inR, hA]; simp [inR] at *; omega
          rw [h7] at h2; cases h2
        obtain ⟨h5, h6⟩ := h6
        have q : (N : Int) - 1 = ((N - 1 : Nat) : Int) := by omega
        have hd1 := intsC_at (l := l) (i := N - 1) (by omega)
        have h7 : N - 1 < l.length := by omega
        simp [cwatchwordref9_HeardMay, intsV, g34, h1, hd, hA, h5, q, ww (N - 1) (by omega), hd1, h6, h7, stops]
    · simp [cwatchwordref9_HeardMay, intsV, g34, stops]
noncomputable abbrev L35 := AM.ext L56 35 g35
theorem L35ok : CallOK prog L35 := L56ok.ext fn35 (by kernel_rfl) t35
def cwatchwordref1_LinksMay (r : Int) (l : List Lk) (i : Nat) : St := ⟨[.int .i64 r, linkV l, .any, .any, .any, .int .i64 i, .any, .any, .any, .any, .any, .any, .any, .any, .any, .any, .any, .any, .any, .any, .any, .any, .any, .any, .any, .any, .any, .any, .any, .any, .any, .any, .any, .any, .any, .any, .any, .any, .any, .any, .any, .any, .any, .any, .any, .any, .any, .any, .any, .any, .any, .any, .any, .any, .any, .any, .any, .any], [], 0⟩
open Classical in
noncomputable def g71 : List AV → Option AV
  | [.int .i64 r, v] => if okLinks v then some (.bool (linksMay r (unLinks v))) else none
  | _ => none
theorem t71 : ∀ args r, g71 args = some r → Told prog 71 args r := by
  intro args r h
  unfold g71 at h
  split at h <;> try (cases h; done)
  rename_i r v
  split at h <;> try (cases h; done)
  rename_i hcond
  injection h with h; subst h
  obtain ⟨hc, hb⟩ := hcond
  obtain ⟨l, hl⟩ : ∃ l, unLinks v = l := ⟨_, rfl⟩
  unfold isLinks at hc
  rw [hl] at hc hb ⊢
  refine Told.le (.cons (.refl _) (.cons hc .nil)) ?_
  refine told_fn (i := info 71) (n := (l.length + 1)) TTok L35ok mix fn71 po71 ?_
  obtain ⟨N, hN, hp, hend⟩ := scan (linkOk r l) l.length
  have ww : ∀ k : Nat, k ≤ 100000001 → IntKind.i64.wrap (k : Int) = (k : Int) := fun k hk => wi64 (by omega) (by omega)
  simp [f71, linkV]
  rw [iter_to (cwatchwordref1_LinksMay r l) N (by omega)]
  · rcases hend with ⟨h1, h2, h3⟩ | ⟨rfl, h3⟩
    · have hd := linkC_at h1
      cases hA : inR 1 4 (lat l N).to
      · simp [cwatchwordref1_LinksMay, linkV, g64, g65, h1, hd, hA, linksMay, h3]
      · skip
        by_cases hB : (lat l N).to = r
        · subst hB; simp [cwatchwordref1_LinksMay, linkV, g64, g65, h1, hd, hA, linksMay, h3]
        · skip
          cases hC : inR 1 65535 (lat l N).cost
          · simp [cwatchwordref1_LinksMay, linkV, g64, g65, h1, hd, hA, hB, hC, linksMay, h3]
          · skip
            have h6 : 0 < N ∧ (lat l N).to ≤ (lat l (N - 1)).to := by
              apply Classical.byContradiction; intro hn
              have h7 : linkOk r l N = true := by
                simp [linkOk, inR, hA, hB, hC]; simp [inR] at *; omega
              rw [h7] at h2; cases h2
            obtain ⟨h5, h6⟩ := h6
            have q : (N : Int) - 1 = ((N - 1 : Nat) : Int) := by omega
            have hd1 := linkC_at (l := l) (i := N - 1) (by omega)
            have h7 : N - 1 < l.length := by omega
            simp [cwatchwordref1_LinksMay, linkV, g64, g65, h1, hd, hA, hB, hC, h5, q, ww (N - 1) (by omega), hd1, h6, h7, linksMay, h3]
    · have hlen0 := links_len h3
      have hlen : (l.length : Int) ≤ 4 := by omega
      simp [cwatchwordref1_LinksMay, linkV, g64, g65, linksMay, h3, hlen]
  · simp [cwatchwordref1_LinksMay, linkV, g64, g65]
  · intro i hi
    have w1 : IntKind.i64.wrap ((i : Int) + 1) = (i : Int) + 1 := wi64 (by omega) (by omega)
    have h1 : i < l.length := by omega
    have hd := linkC_at h1
    have h2 := hp i hi
    simp only [linkOk, Bool.and_eq_true, Bool.or_eq_true, decide_eq_true_eq, Bool.not_eq_true', decide_eq_false_iff_not] at h2
    obtain ⟨hA, hB, hC, hE⟩ := h2
    rcases Nat.eq_zero_or_pos i with h5 | h5
    · subst h5
      simp [cwatchwordref1_LinksMay, linkV, g64, g65, h1, hd, hA, hB, hC]
    · have h6 : ¬ (lat l i).to ≤ (lat l (i - 1)).to := by omega
      have q : (i : Int) - 1 = ((i - 1 : Nat) : Int) := by omega
      have hd1 := linkC_at (l := l) (i := i - 1) (by omega)
      have h7 : i - 1 < l.length := by omega
      simp [cwatchwordref1_LinksMay, linkV, g64, g65, h1, hd, hA, hB, hC, h5, q, w1, ww (i - 1) (by omega), hd1, h6, h7]
  · rcases hend with ⟨h1, h2, h3⟩ | ⟨rfl, h3⟩
    · have hd := linkC_at h1
      cases hA : inR 1 4 (lat l N).to
      · simp [cwatchwordref1_LinksMay, linkV, g64, g65, h1, hd, hA, stops]
      · skip
        by_cases hB : (lat l N).to = r
        · subst hB; simp [cwatchwordref1_LinksMay, linkV, g64, g65, h1, hd, hA, stops]
        · skip
          cases hC : inR 1 65535 (lat l N).cost
          · simp [cwatchwordref1_LinksMay, linkV, g64, g65, h1, hd, hA, hB, hC, stops]
          · skip
            have h6 : 0 < N ∧ (lat l N).to ≤ (lat l (N - 1)).to := by
              apply Classical.byContradiction; intro hn
              have h7 : linkOk r l N = true := by
                simp [linkOk, inR, hA, hB, hC]; simp [inR] at *; omega
              rw [h7] at h2; cases h2
            obtain ⟨h5, h6⟩ := h6
            have q : (N : Int) - 1 = ((N - 1 : Nat) : Int) := by omega
            have hd1 := linkC_at (l := l) (i := N - 1) (by omega)
            have h7 : N - 1 < l.length := by omega
            simp [cwatchwordref1_LinksMay, linkV, g64, g65, h1, hd, hA, hB, hC, h5, q, ww (N - 1) (by omega), hd1, h6, h7, stops]
    · simp [cwatchwordref1_LinksMay, linkV, g64, g65, stops]
noncomputable abbrev L71 := AM.ext L35 71 g71
theorem L71ok : CallOK prog L71 := L35ok.ext fn71 (by kernel_rfl) t71
open Classical in
noncomputable def g52 : List AV → Option AV
  | [.agg [.int .i64 r, .int .i64 s, .int .i64 a, v]] => if okLinks v then some (.bool (lsaMay ⟨r, s, a, unLinks v⟩)) else none
  | _ => none
theorem t52 : ∀ args r, g52 args = some r → Told prog 52 args r := by
  intro args r h
  unfold g52 at h
  split at h <;> try (cases h; done)
  rename_i r s a v
  split at h <;> try (cases h; done)
  rename_i hcond
  injection h with h; subst h
  obtain ⟨hc, hb⟩ := hcond
  obtain ⟨l, hl⟩ : ∃ l, unLinks v = l := ⟨_, rfl⟩
  unfold isLinks at hc
  rw [hl] at hc hb ⊢
  refine Told.le (.cons (.agg (.cons (.refl _) (.cons (.refl _) (.cons (.refl _) (.cons hc .nil))))) .nil) ?_
  refine told_fn (i := info 52) (n := 5) TTok L71ok mix fn52 po52 ?_
  unfold lsaMay
  cases hc0 : inR 1 4 r
  · simp [f52, g64, g65, g71, hb, linkV, hc0]
  cases hc1 : inR 1 2147483647 s
  · simp [f52, g64, g65, g71, hb, linkV, hc0, hc1]
  cases hc2 : inR 0 60 a
  · simp [f52, g64, g65, g71, hb, linkV, hc0, hc1, hc2]
  simp [f52, g64, g65, g71, hb, linkV, hc0, hc1, hc2]
noncomputable abbrev L52 := AM.ext L71 52 g52
theorem L52ok : CallOK prog L52 := L71ok.ext fn52 (by kernel_rfl) t52
def cwatchwordref9_UpdateMay (l : List Lsa) (i : Nat) : St := ⟨[lsaV l, .any, .any, .int .i64 i, .any, .any, .any, .any, .any, .any, .any, .any, .any, .any, .any, .any, .any, .any, .any, .any, .any, .any, .any, .any, .any, .any, .any, .any, .any, .any, .any, .any, .any, .any, .any, .any, .any], [], 0⟩
open Classical in
noncomputable def g36 : List AV → Option AV
  | [v] => if okLsas v then some (.bool (updMay (unLsas v))) else none
  | _ => none
theorem t36 : ∀ args r, g36 args = some r → Told prog 36 args r := by
  intro args r h
  unfold g36 at h
  split at h <;> try (cases h; done)
  rename_i v
  split at h <;> try (cases h; done)
  rename_i hcond
  injection h with h; subst h
  obtain ⟨hc, hb, hsm⟩ := hcond
  obtain ⟨l, hl⟩ : ∃ l, unLsas v = l := ⟨_, rfl⟩
  unfold isLsas at hc
  rw [hl] at hc hb hsm ⊢
  refine Told.le (.cons hc .nil) ?_
  refine told_fn (i := info 36) (n := (l.length + 1)) TTok L52ok mix fn36 po36 ?_
  obtain ⟨N, hN, hp, hend⟩ := scan (updOk l) l.length
  have ww : ∀ k : Nat, k ≤ 100000001 → IntKind.i64.wrap (k : Int) = (k : Int) := fun k hk => wi64 (by omega) (by omega)
  simp [f36, lsaV]
  rw [iter_to (cwatchwordref9_UpdateMay l) N (by omega)]
  · rcases hend with ⟨h1, h2, h3⟩ | ⟨rfl, h3⟩
    · have hd := lsaC_at h1
      have hsi := aat_small hsm h1
      cases hA : lsaMay (aat l N)
      · simp [cwatchwordref9_UpdateMay, lsaV, linkV, g52, h1, hd, hsi, hA, updMay, h3]
      · skip
        have h6 : 0 < N ∧ (aat l N).router ≤ (aat l (N - 1)).router := by
          apply Classical.byContradiction; intro hn
          have h7 : updOk l N = true := by
            simp [updOk, inR, hA]; simp [inR] at *; omega
          rw [h7] at h2; cases h2
        obtain ⟨h5, h6⟩ := h6
        have q : (N : Int) - 1 = ((N - 1 : Nat) : Int) := by omega
        have hd1 := lsaC_at (l := l) (i := N - 1) (by omega)
        have h7 : N - 1 < l.length := by omega
        simp [cwatchwordref9_UpdateMay, lsaV, linkV, g52, h1, hd, hsi, hA, h5, q, ww (N - 1) (by omega), hd1, h6, h7, updMay, h3]
    · have hlen0 := upd_len h3
      have hlen : (l.length : Int) ≤ 4 := by omega
      simp [cwatchwordref9_UpdateMay, lsaV, linkV, g52, updMay, h3, hlen]
  · simp [cwatchwordref9_UpdateMay, lsaV, linkV, g52]
  · intro i hi
    have w1 : IntKind.i64.wrap ((i : Int) + 1) = (i : Int) + 1 := wi64 (by omega) (by omega)
    have h1 : i < l.length := by omega
    have hd := lsaC_at h1
    have h2 := hp i hi
    have hsi := aat_small hsm h1
    simp only [updOk, Bool.and_eq_true, Bool.or_eq_true, decide_eq_true_eq] at h2
    obtain ⟨hA, hE⟩ := h2
    rcases Nat.eq_zero_or_pos i with h5 | h5
    · subst h5
      simp [cwatchwordref9_UpdateMay, lsaV, linkV, g52, h1, hd, hsi, hA]
    · have h6 : ¬ (aat l i).router ≤ (aat l (i - 1)).router := by omega
      have q : (i : Int) - 1 = ((i - 1 : Nat) : Int) := by omega
      have hd1 := lsaC_at (l := l) (i := i - 1) (by omega)
      have h7 : i - 1 < l.length := by omega
      simp [cwatchwordref9_UpdateMay, lsaV, linkV, g52, h1, hd, hsi, hA, h5, q, w1, ww (i - 1) (by omega), hd1, h6, h7]
  · rcases hend with ⟨h1, h2, h3⟩ | ⟨rfl, h3⟩
    · have hd := lsaC_at h1
      have hsi := aat_small hsm h1
      cases hA : lsaMay (aat l N)
      · simp [cwatchwordref9_UpdateMay, lsaV, linkV, g52, h1, hd, hsi, hA, stops]
      · skip
        have h6 : 0 < N ∧ (aat l N).router ≤ (aat l (N - 1)).router := by
          apply Classical.byContradiction; intro hn
          have h7 : updOk l N = true := by
            simp [updOk, inR, hA]; simp [inR] at *; omega
          rw [h7] at h2; cases h2
        obtain ⟨h5, h6⟩ := h6
        have q : (N : Int) - 1 = ((N - 1 : Nat) : Int) := by omega
        have hd1 := lsaC_at (l := l) (i := N - 1) (by omega)
        have h7 : N - 1 < l.length := by omega
        simp [cwatchwordref9_UpdateMay, lsaV, linkV, g52, h1, hd, hsi, hA, h5, q, ww (N - 1) (by omega), hd1, h6, h7, stops]
    · simp [cwatchwordref9_UpdateMay, lsaV, linkV, g52, stops]
noncomputable abbrev L36 := AM.ext L52 36 g36
theorem L36ok : CallOK prog L36 := L52ok.ext fn36 (by kernel_rfl) t36
def g53 : List AV → Option AV
  | [.agg [.int .i64 r, .int .i64 s, .int .i64 a, .int .i64 c]] => some (.bool (hdMay ⟨r, s, a, c⟩))
  | _ => none
theorem t53 : ∀ args r, g53 args = some r → Told prog 53 args r := by
  intro args r h
  unfold g53 at h
  split at h <;> try (cases h; done)
  rename_i r s a c
  injection h with h; subst h
  refine told_fn (i := info 53) (n := 5) TTok L36ok mix fn53 po53 ?_
  unfold hdMay
  cases hc0 : inR 1 4 r
  · simp [f53, g34, g51, hc0]
  cases hc1 : inR 1 2147483647 s
  · simp [f53, g34, g51, hc0, hc1]
  cases hc2 : inR 0 60 a
  · simp [f53, g34, g51, hc0, hc1, hc2]
  simp [f53, g34, g51, hc0, hc1, hc2]
noncomputable abbrev L53 := AM.ext L36 53 g53
theorem L53ok : CallOK prog L53 := L36ok.ext fn53 (by kernel_rfl) t53
def cwatchwordref9_AckMay (l : List Hd) (i : Nat) : St := ⟨[headV l, .any, .any, .int .i64 i, .any, .any, .any, .any, .any, .any, .any, .any, .any, .any, .any, .any, .any, .any, .any, .any, .any, .any, .any, .any, .any, .any, .any, .any, .any, .any, .any, .any, .any, .any, .any, .any, .any], [], 0⟩
open Classical in
noncomputable def g37 : List AV → Option AV
  | [v] => if okHeads v then some (.bool (ackMay (unHeads v))) else none
  | _ => none
theorem t37 : ∀ args r, g37 args = some r → Told prog 37 args r := by
  intro args r h
  unfold g37 at h
  split at h <;> try (cases h; done)
  rename_i v
  split at h <;> try (cases h; done)
  rename_i hcond
  injection h with h; subst h
  obtain ⟨hc, hb⟩ := hcond
  obtain ⟨l, hl⟩ : ∃ l, unHeads v = l := ⟨_, rfl⟩
  unfold isHeads at hc
  rw [hl] at hc hb ⊢
  refine Told.le (.cons hc .nil) ?_
  refine told_fn (i := info 37) (n := (l.length + 1)) TTok L53ok mix fn37 po37 ?_
  obtain ⟨N, hN, hp, hend⟩ := scan (ackOk l) l.length
  have ww : ∀ k : Nat, k ≤ 100000001 → IntKind.i64.wrap (k : Int) = (k : Int) := fun k hk => wi64 (by omega) (by omega)
  simp [f37, headV]
  rw [iter_to (cwatchwordref9_AckMay l) N (by omega)]
  · rcases hend with ⟨h1, h2, h3⟩ | ⟨rfl, h3⟩
    · have hd := headC_at h1
      cases hA : hdMay (hat l N)
      · simp [cwatchwordref9_AckMay, headV, g53, h1, hd, hA, ackMay, h3]
      · skip
        have h6 : 0 < N ∧ (hat l N).router ≤ (hat l (N - 1)).router := by
          apply Classical.byContradiction; intro hn
          have h7 : ackOk l N = true := by
            simp [ackOk, inR, hA]; simp [inR] at *; omega
          rw [h7] at h2; cases h2
        obtain ⟨h5, h6⟩ := h6
        have q : (N : Int) - 1 = ((N - 1 : Nat) : Int) := by omega
        have hd1 := headC_at (l := l) (i := N - 1) (by omega)
        have h7 : N - 1 < l.length := by omega
        simp [cwatchwordref9_AckMay, headV, g53, h1, hd, hA, h5, q, ww (N - 1) (by omega), hd1, h6, h7, ackMay, h3]
    · have hlen0 := ack_len h3
      have hlen : (l.length : Int) ≤ 4 := by omega
      simp [cwatchwordref9_AckMay, headV, g53, ackMay, h3, hlen]
  · simp [cwatchwordref9_AckMay, headV, g53]
  · intro i hi
    have w1 : IntKind.i64.wrap ((i : Int) + 1) = (i : Int) + 1 := wi64 (by omega) (by omega)
    have h1 : i < l.length := by omega
    have hd := headC_at h1
    have h2 := hp i hi
    simp only [ackOk, Bool.and_eq_true, Bool.or_eq_true, decide_eq_true_eq] at h2
    obtain ⟨hA, hE⟩ := h2
    rcases Nat.eq_zero_or_pos i with h5 | h5
    · subst h5
      simp [cwatchwordref9_AckMay, headV, g53, h1, hd, hA]
    · have h6 : ¬ (hat l i).router ≤ (hat l (i - 1)).router := by omega
      have q : (i : Int) - 1 = ((i - 1 : Nat) : Int) := by omega
      have hd1 := headC_at (l := l) (i := i - 1) (by omega)
      have h7 : i - 1 < l.length := by omega
      simp [cwatchwordref9_AckMay, headV, g53, h1, hd, hA, h5, q, w1, ww (i - 1) (by omega), hd1, h6, h7]
  · rcases hend with ⟨h1, h2, h3⟩ | ⟨rfl, h3⟩
    · have hd := headC_at h1
      cases hA : hdMay (hat l N)
      · simp [cwatchwordref9_AckMay, headV, g53, h1, hd, hA, stops]
      · skip
        have h6 : 0 < N ∧ (hat l N).router ≤ (hat l (N - 1)).router := by
          apply Classical.byContradiction; intro hn
          have h7 : ackOk l N = true := by
            simp [ackOk, inR, hA]; simp [inR] at *; omega
          rw [h7] at h2; cases h2
        obtain ⟨h5, h6⟩ := h6
        have q : (N : Int) - 1 = ((N - 1 : Nat) : Int) := by omega
        have hd1 := headC_at (l := l) (i := N - 1) (by omega)
        have h7 : N - 1 < l.length := by omega
        simp [cwatchwordref9_AckMay, headV, g53, h1, hd, hA, h5, q, ww (N - 1) (by omega), hd1, h6, h7, stops]
    · simp [cwatchwordref9_AckMay, headV, g53, stops]
noncomputable abbrev L37 := AM.ext L53 37 g37
theorem L37ok : CallOK prog L37 := L53ok.ext fn37 (by kernel_rfl) t37
open Classical in
noncomputable def g16 : List AV → Option AV
  | [.agg [.int .i64 t, .int .i64 r, h, ls, hs]] => if okInts h ∧ okLsas ls ∧ okHeads hs then some (.bool (inR 1 4 r && listMay t (unInts h) (unLsas ls) (unHeads hs))) else none
  | _ => none
theorem t16 : ∀ args r, g16 args = some r → Told prog 16 args r := by
  intro args r h
  unfold g16 at h
  split at h <;> try (cases h; done)
  rename_i t r h ls hs
  split at h <;> try (cases h; done)
  rename_i hcond
  injection h with h; subst h
  obtain ⟨⟨hc, hb⟩, ⟨hc2, hb2, hsm⟩, hc3, hb3⟩ := hcond
  obtain ⟨l, hl⟩ : ∃ l, unInts h = l := ⟨_, rfl⟩
  obtain ⟨m, hm⟩ : ∃ l, unLsas ls = l := ⟨_, rfl⟩
  obtain ⟨n, hn⟩ : ∃ l, unHeads hs = l := ⟨_, rfl⟩
  unfold isInts at hc
  unfold isLsas at hc2
  unfold isHeads at hc3
  rw [hl] at hc hb ⊢
  rw [hm] at hc2 hb2 hsm ⊢
  rw [hn] at hc3 hb3 ⊢
  refine Told.le (.cons (.agg (.cons (.refl _) (.cons (.refl _) (.cons hc (.cons hc2 (.cons hc3 .nil)))))) .nil) ?_
  refine told_fn (i := info 16) (n := 5) TTok L37ok mix fn16 po16 ?_
  cases hr : inR 1 4 r
  · simp [f16, intsV, lsaV, headV, g34, hr]
  have w1 : IntKind.i64.wrap ((m.length : Int) + (n.length : Int)) = (m.length : Int) + (n.length : Int) := wi64 (by omega) (by omega)
  have w2 : IntKind.i64.wrap ((l.length : Int) + (n.length : Int)) = (l.length : Int) + (n.length : Int) := wi64 (by omega) (by omega)
  have w3 : IntKind.i64.wrap ((l.length : Int) + (m.length : Int)) = (l.length : Int) + (m.length : Int) := wi64 (by omega) (by omega)
  have d : ∀ a b : Nat, decide ((a : Int) + (b : Int) = 0) = decide (a + b = 0) := fun a b => by
    by_cases h : a + b = 0
    · have : (a : Int) + (b : Int) = 0 := by omega
      simp only [h, this]
    · have : ¬ (a : Int) + (b : Int) = 0 := by omega
      simp only [h, this]
  by_cases h1 : t = 1
  · subst h1
    cases hh : helloMay l <;> simp [f16, intsV, lsaV, headV, g34, hr, g35, hb, hh, listMay, w1, d, -Nat.add_eq_zero_iff, -List.length_eq_zero_iff]
  by_cases h4 : t = 4
  · subst h4
    cases hh : updMay m <;> simp [f16, intsV, lsaV, headV, g34, hr, g36, hb2, hsm, hh, listMay, w2, d, -Nat.add_eq_zero_iff, -List.length_eq_zero_iff]
  by_cases h5 : t = 5
  · subst h5
    cases hh : ackMay n <;> simp [f16, intsV, lsaV, headV, g34, hr, g37, hb3, hh, listMay, w3, d, -Nat.add_eq_zero_iff, -List.length_eq_zero_iff]
  · simp [f16, intsV, lsaV, headV, g34, hr, h1, h4, h5, listMay]
noncomputable abbrev L16 := AM.ext L37 16 g16
theorem L16ok : CallOK prog L16 := L37ok.ext fn16 (by kernel_rfl) t16
end Go.AM.Try

