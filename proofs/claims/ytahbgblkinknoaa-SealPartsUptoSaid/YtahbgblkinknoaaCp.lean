import Derived.Test.YtahbgblkinknoaaCo
/- Updates, acks. -/
set_option linter.unusedSimpArgs false
set_option linter.unusedVariables false
set_option maxRecDepth 100000
set_option maxHeartbeats 4000000
namespace Go.AM.Try
open Go.Proofs.Try
attribute [-simp] strA
attribute [simp] strA_addc strA_eql strA_neq

def cupdate_May (l : List Lsa) (i : Nat) : St := ⟨[lsaV l, .any, .any, .any, .any, lsaV l, .int .i64 l.length, .int .i64 i, .any, .any, .any, .any, .any, .any, .any, .any, .any, .any, .any, .any, .any, .any, .any, .any, .any, .any, .any, .any, .any, .any, .any], [], 0⟩
open Classical in
noncomputable def g73 : List AV → Option AV
  | [v] => if okLsas v then some (.bool (updMay (unLsas v))) else none
  | _ => none
theorem t73 : ∀ args r, g73 args = some r → Told prog 73 args r := by
  intro args r h
  unfold g73 at h
  split at h <;> try (cases h; done)
  rename_i v
  split at h <;> try (cases h; done)
  rename_i hcond
  injection h with h; subst h
  obtain ⟨hc, hb, hsm⟩ := hcond
  obtain ⟨l, hl⟩ : ∃ l, unLsas v = l := ⟨_, rfl⟩
  unfold isLsas at hc
  rw [hl] at hc hb hsm ⊢
  refine Told.le (.cons hc .nil) ?_
  refine told_fn (i := info 73) (n := (l.length + 1)) TTok L74ok mix fn73 po73 ?_
  obtain ⟨N, hN, hp, hend⟩ := scan (updOk l) l.length
  have ww : ∀ k : Nat, k ≤ 100000001 → IntKind.i64.wrap (k : Int) = (k : Int) := fun k hk => wi64 (by omega) (by omega)
  simp [f73, lsaV]
  rw [iter_to (cupdate_May l) N (by omega)]
  · rcases hend with ⟨h1, h2, h3⟩ | ⟨rfl, h3⟩
    · have hd := lsaC_at h1
      have hsi := aat_small hsm h1
      cases hA : lsaMay (aat l N)
      · simp [cupdate_May, lsaV, linkV, g87, h1, hd, hsi, hA, updMay, h3]
      · skip
        have h6 : 0 < N ∧ (aat l N).router ≤ (aat l (N - 1)).router := by
          apply Classical.byContradiction; intro hn
          have h7 : updOk l N = true := by
            simp [updOk, inR, hA]; simp [inR] at *; omega
          rw [h7] at h2; cases h2
        obtain ⟨h5, h6⟩ := h6
        have q : (N : Int) - 1 = ((N - 1 : Nat) : Int) := by omega
        have hd1 := lsaC_at (l := l) (i := N - 1) (by omega)
        have h7 : N - 1 < l.length := by omega
        simp [cupdate_May, lsaV, linkV, g87, h1, hd, hsi, hA, h5, q, ww (N - 1) (by omega), hd1, h6, h7, updMay, h3]
    · simp [cupdate_May, lsaV, linkV, g87, updMay, h3]
  · simp [cupdate_May, lsaV, linkV, g87]
  · intro i hi
    have w1 : IntKind.i64.wrap ((i : Int) + 1) = (i : Int) + 1 := wi64 (by omega) (by omega)
    have h1 : i < l.length := by omega
    have hd := lsaC_at h1
    have h2 := hp i hi
    have hsi := aat_small hsm h1
    simp only [updOk, Bool.and_eq_true, Bool.or_eq_true, decide_eq_true_eq] at h2
    obtain ⟨hA, hE⟩ := h2
    rcases Nat.eq_zero_or_pos i with h5 | h5
    · subst h5
      simp [cupdate_May, lsaV, linkV, g87, h1, hd, hsi, hA]
    · have h6 : ¬ (aat l i).router ≤ (aat l (i - 1)).router := by omega
      have q : (i : Int) - 1 = ((i - 1 : Nat) : Int) := by omega
      have hd1 := lsaC_at (l := l) (i := i - 1) (by omega)
      have h7 : i - 1 < l.length := by omega
      simp [cupdate_May, lsaV, linkV, g87, h1, hd, hsi, hA, h5, q, w1, ww (i - 1) (by omega), hd1, h6, h7]
  · rcases hend with ⟨h1, h2, h3⟩ | ⟨rfl, h3⟩
    · have hd := lsaC_at h1
      have hsi := aat_small hsm h1
      cases hA : lsaMay (aat l N)
      · simp [cupdate_May, lsaV, linkV, g87, h1, hd, hsi, hA, stops]
      · skip
        have h6 : 0 < N ∧ (aat l N).router ≤ (aat l (N - 1)).router := by
          apply Classical.byContradiction; intro hn
          have h7 : updOk l N = true := by
            simp [updOk, inR, hA]; simp [inR] at *; omega
          rw [h7] at h2; cases h2
        obtain ⟨h5, h6⟩ := h6
        have q : (N : Int) - 1 = ((N - 1 : Nat) : Int) := by omega
        have hd1 := lsaC_at (l := l) (i := N - 1) (by omega)
        have h7 : N - 1 < l.length := by omega
        simp [cupdate_May, lsaV, linkV, g87, h1, hd, hsi, hA, h5, q, ww (N - 1) (by omega), hd1, h6, h7, stops]
    · simp [cupdate_May, lsaV, linkV, g87, stops]
noncomputable abbrev L73 := AM.ext L74 73 g73
theorem L73ok : CallOK prog L73 := L74ok.ext fn73 (by kernel_rfl) t73
def upC (l : List Lsa) (i : Nat) : St := ⟨[.any, .any, .any, .any, .str (b8 l.length :: (l.take i).flatMap lsaB), .any, .any, .any, .any, .any, .any, .any, .any, .any, .any, lsaV l, .int .i64 l.length, .int .i64 i, .any, .any, .any, .any, .any, .any, .any, .any, .any, .any, .any, .any, .any], [], 0⟩
open Classical in
noncomputable def g55 : List AV → Option AV
  | [v] => if okLsas v then some (.tup (if updMay (unLsas v) then [.str (updB (unLsas v)), .int .i64 0] else [.str [], .int .i64 1000])) else none
  | _ => none
theorem t55 : ∀ args r, g55 args = some r → Told prog 55 args r := by
  intro args r h
  unfold g55 at h
  split at h <;> try (cases h; done)
  rename_i v
  split at h <;> try (cases h; done)
  rename_i hcond
  injection h with h; subst h
  obtain ⟨hc, hb, hsm⟩ := hcond
  obtain ⟨l, hl⟩ : ∃ l, unLsas v = l := ⟨_, rfl⟩
  unfold isLsas at hc
  rw [hl] at hc hb hsm ⊢
  refine Told.le (.cons hc .nil) ?_
  refine told_fn (i := info 55) (n := (l.length + 1)) TTok L73ok mix fn55 po55 ?_
  cases hm : updMay l
  · simp [f55, lsaV, g73, hm, hb, hsm]
  · simp [f55, lsaV, g73, hm, hb, hsm, g43]
    rw [iter_to (upC l) l.length (by omega)]
    · simp [upC, lsaV, updB]
    · simp [upC, lsaV]
    · intro i hi
      have w1 : IntKind.i64.wrap ((i : Int) + 1) = (i : Int) + 1 := wi64 (by omega) (by omega)
      have hd := lsaC_at hi
      have hs := lsaB_succ hi
      have hsi := aat_small hsm hi
      have hA := aat_may hm hi
      have hk := upd_take hm i
      have hk2 := lsaB_le hA
      simp (disch := first | assumption | (simp; done) | (simp [-List.length_flatMap]; done) | (simp [-List.length_flatMap]; omega) | omega) [upC, lsaV, linkV, hi, hd, hsi, hA, g74, w1, hs]
    · simp [upC, lsaV, stops]
noncomputable abbrev L55 := AM.ext L73 55 g55
theorem L55ok : CallOK prog L55 := L73ok.ext fn55 (by kernel_rfl) t55
def g90 : List AV → Option AV
  | [.agg [.int .i64 r, .int .i64 s, .int .i64 a, .int .i64 c]] => some (.bool (hdMay ⟨r, s, a, c⟩))
  | _ => none
theorem t90 : ∀ args r, g90 args = some r → Told prog 90 args r := by
  intro args r h
  unfold g90 at h
  split at h <;> try (cases h; done)
  rename_i r s a c
  injection h with h; subst h
  refine told_fn (i := info 90) (n := 5) TTok L55ok mix fn90 po90 ?_
  unfold hdMay
  cases h1 : inR 1 4 r
  · simp [f90, g58, h1]
  cases h2 : inR 1 2147483647 s
  · simp [f90, g58, g98, h1, h2]
  cases h3 : inR 0 60 a
  · simp [f90, g58, g98, g99, h1, h2, h3]
  by_cases h4 : 0 ≤ c
  · by_cases h5 : c ≤ 65535
    · have h6 : inR 0 65535 c = true := by simp [inR]; omega
      simp [f90, g58, g98, g99, h1, h2, h3, h4, h5, h6]
    · have h6 : inR 0 65535 c = false := by simp [inR]; omega
      simp [f90, g58, g98, g99, h1, h2, h3, h4, h5, h6]
  · have h6 : inR 0 65535 c = false := by simp [inR]; omega
    simp [f90, g58, g98, g99, h1, h2, h3, h4, h6]
noncomputable abbrev L90 := AM.ext L55 90 g90
theorem L90ok : CallOK prog L90 := L55ok.ext fn90 (by kernel_rfl) t90
def cack_May (l : List Hd) (i : Nat) : St := ⟨[headV l, .any, .any, .any, .any, headV l, .int .i64 l.length, .int .i64 i, .any, .any, .any, .any, .any, .any, .any, .any, .any, .any, .any, .any, .any, .any, .any, .any, .any, .any, .any, .any, .any, .any, .any], [], 0⟩
open Classical in
noncomputable def g75 : List AV → Option AV
  | [v] => if okHeads v then some (.bool (ackMay (unHeads v))) else none
  | _ => none
theorem t75 : ∀ args r, g75 args = some r → Told prog 75 args r := by
  intro args r h
  unfold g75 at h
  split at h <;> try (cases h; done)
  rename_i v
  split at h <;> try (cases h; done)
  rename_i hcond
  injection h with h; subst h
  obtain ⟨hc, hb⟩ := hcond
  obtain ⟨l, hl⟩ : ∃ l, unHeads v = l := ⟨_, rfl⟩
  unfold isHeads at hc
  rw [hl] at hc hb ⊢
  refine Told.le (.cons hc .nil) ?_
  refine told_fn (i := info 75) (n := (l.length + 1)) TTok L90ok mix fn75 po75 ?_
  obtain ⟨N, hN, hp, hend⟩ := scan (ackOk l) l.length
  have ww : ∀ k : Nat, k ≤ 100000001 → IntKind.i64.wrap (k : Int) = (k : Int) := fun k hk => wi64 (by omega) (by omega)
  simp [f75, headV]
  rw [iter_to (cack_May l) N (by omega)]
  · rcases hend with ⟨h1, h2, h3⟩ | ⟨rfl, h3⟩
    · have hd := headC_at h1
      cases hA : hdMay (hat l N)
      · simp [cack_May, headV, g90, h1, hd, hA, ackMay, h3]
      · skip
        have h6 : 0 < N ∧ (hat l N).router ≤ (hat l (N - 1)).router := by
          apply Classical.byContradiction; intro hn
          have h7 : ackOk l N = true := by
            simp [ackOk, inR, hA]; simp [inR] at *; omega
          rw [h7] at h2; cases h2
        obtain ⟨h5, h6⟩ := h6
        have q : (N : Int) - 1 = ((N - 1 : Nat) : Int) := by omega
        have hd1 := headC_at (l := l) (i := N - 1) (by omega)
        have h7 : N - 1 < l.length := by omega
        simp [cack_May, headV, g90, h1, hd, hA, h5, q, ww (N - 1) (by omega), hd1, h6, h7, ackMay, h3]
    · simp [cack_May, headV, g90, ackMay, h3]
  · simp [cack_May, headV, g90]
  · intro i hi
    have w1 : IntKind.i64.wrap ((i : Int) + 1) = (i : Int) + 1 := wi64 (by omega) (by omega)
    have h1 : i < l.length := by omega
    have hd := headC_at h1
    have h2 := hp i hi
    simp only [ackOk, Bool.and_eq_true, Bool.or_eq_true, decide_eq_true_eq] at h2
    obtain ⟨hA, hE⟩ := h2
    rcases Nat.eq_zero_or_pos i with h5 | h5
    · subst h5
      simp [cack_May, headV, g90, h1, hd, hA]
    · have h6 : ¬ (hat l i).router ≤ (hat l (i - 1)).router := by omega
      have q : (i : Int) - 1 = ((i - 1 : Nat) : Int) := by omega
      have hd1 := headC_at (l := l) (i := i - 1) (by omega)
      have h7 : i - 1 < l.length := by omega
      simp [cack_May, headV, g90, h1, hd, hA, h5, q, w1, ww (i - 1) (by omega), hd1, h6, h7]
  · rcases hend with ⟨h1, h2, h3⟩ | ⟨rfl, h3⟩
    · have hd := headC_at h1
      cases hA : hdMay (hat l N)
      · simp [cack_May, headV, g90, h1, hd, hA, stops]
      · skip
        have h6 : 0 < N ∧ (hat l N).router ≤ (hat l (N - 1)).router := by
          apply Classical.byContradiction; intro hn
          have h7 : ackOk l N = true := by
            simp [ackOk, inR, hA]; simp [inR] at *; omega
          rw [h7] at h2; cases h2
        obtain ⟨h5, h6⟩ := h6
        have q : (N : Int) - 1 = ((N - 1 : Nat) : Int) := by omega
        have hd1 := headC_at (l := l) (i := N - 1) (by omega)
        have h7 : N - 1 < l.length := by omega
        simp [cack_May, headV, g90, h1, hd, hA, h5, q, ww (N - 1) (by omega), hd1, h6, h7, stops]
    · simp [cack_May, headV, g90, stops]
noncomputable abbrev L75 := AM.ext L90 75 g75
theorem L75ok : CallOK prog L75 := L90ok.ext fn75 (by kernel_rfl) t75
def akC (l : List Hd) (i : Nat) : St := ⟨[.any, .any, .any, .any, .str (b8 l.length :: (l.take i).flatMap hdB), .any, .any, .any, .any, .any, .any, .any, .any, headV l, .int .i64 l.length, .int .i64 i, .any, .any, .any, .any, .any, .any, .any, .any, .any, .any, .any, .any, .any, .any, .any, .any, .any, .any, .any, .any, .any, .any], [], 0⟩
open Classical in
noncomputable def g56 : List AV → Option AV
  | [v] => if okHeads v then some (.tup (if ackMay (unHeads v) then [.str (ackB (unHeads v)), .int .i64 0] else [.str [], .int .i64 1100])) else none
  | _ => none
theorem t56 : ∀ args r, g56 args = some r → Told prog 56 args r := by
  intro args r h
  unfold g56 at h
  split at h <;> try (cases h; done)
  rename_i v
  split at h <;> try (cases h; done)
  rename_i hcond
  injection h with h; subst h
  obtain ⟨hc, hb⟩ := hcond
  obtain ⟨l, hl⟩ : ∃ l, unHeads v = l := ⟨_, rfl⟩
  unfold isHeads at hc
  rw [hl] at hc hb ⊢
  refine Told.le (.cons hc .nil) ?_
  refine told_fn (i := info 56) (n := (l.length + 1)) TTok L75ok mix fn56 po56 ?_
  cases hm : ackMay l
  · simp [f56, headV, g75, hm, hb]
  · simp [f56, headV, g75, hm, hb, g43]
    rw [iter_to (akC l) l.length (by omega)]
    · simp [akC, headV, ackB]
    · simp [akC, headV]
    · intro i hi
      have w1 : IntKind.i64.wrap ((i : Int) + 1) = (i : Int) + 1 := wi64 (by omega) (by omega)
      have hd := headC_at hi
      have hs := hdB_succ hi
      have hk : ((l.take i).flatMap hdB).length ≤ 800000000 := by
        have := length_flat' hdB 8 hdB_length (l.take i)
        rw [this]; simp; omega
      simp (disch := first | assumption | (simp; done) | (simp [two, four, -List.length_flatMap]; done) | (simp [two, four, -List.length_flatMap]; omega) | omega) [akC, headV, hi, hd, g43, g59, g44, w1, hs, hdB]
    · simp [akC, headV, stops]
noncomputable abbrev L56 := AM.ext L75 56 g56
theorem L56ok : CallOK prog L56 := L75ok.ext fn56 (by kernel_rfl) t56
end Go.AM.Try

