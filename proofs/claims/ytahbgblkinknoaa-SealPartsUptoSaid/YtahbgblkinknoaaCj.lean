import Derived.Test.YtahbgblkinknoaaCi
import Derived.Test.YtahbgblkinknoaaSq
/- Hellos, heads, what is sealed. -/
set_option linter.unusedSimpArgs false
set_option linter.unusedVariables false
set_option maxRecDepth 100000
set_option maxHeartbeats 4000000
namespace Go.AM.Try
open Go.Proofs.Try
attribute [-simp] strA
attribute [simp] strA_addc strA_eql strA_neq
def hmC (l : List Int) (i : Nat) : St := ⟨[intsV l, .any, .any, .any, .any, intsV l, .int .i64 l.length, .int .i64 i, .any, .any, .any, .any, .any, .any, .any, .any, .any, .any, .any, .any, .any, .any, .any, .any, .any, .any, .any, .any, .any], [], 0⟩
open Classical in
noncomputable def g72 : List AV → Option AV
  | [v] => if okInts v then some (.bool (helloMay (unInts v))) else none
  | _ => none
theorem t72 : ∀ args r, g72 args = some r → Told prog 72 args r := by
  intro args r h
  unfold g72 at h
  split at h <;> try (cases h; done)
  rename_i v
  split at h <;> try (cases h; done)
  rename_i hcond
  injection h with h; subst h
  obtain ⟨hc, hb⟩ := hcond
  obtain ⟨l, hl⟩ : ∃ l, unInts v = l := ⟨_, rfl⟩
  unfold isInts at hc
  rw [hl] at hc hb ⊢
  refine Told.le (.cons hc .nil) ?_
  refine told_fn (i := info 72) (n := (l.length + 1)) TTok L45ok mix fn72 po72 ?_
  obtain ⟨N, hN, hp, hend⟩ := scan (helloOk l) l.length
  have ww : ∀ k : Nat, k ≤ 100000000 → IntKind.i64.wrap (k : Int) = (k : Int) := fun k hk => wi64 (by omega) (by omega)
  simp [f72, intsV]
  rw [iter_to (hmC l) N (by omega)]
  · rcases hend with ⟨h1, h2, h3⟩ | ⟨rfl, h3⟩
    · have hd := intsC_at h1
      cases hA : inR 1 4 (iat l N)
      · simp [hmC, intsV, h1, hd, g58, hA, helloMay, h3]
      · have h5 : 0 < N := by
          rcases Nat.eq_zero_or_pos N with h | h
          · subst h; simp [helloOk, hA] at h2
          · exact h
        have h6 : iat l N ≤ iat l (N - 1) := by
          simp [helloOk, hA] at h2
          exact h2.2
        have q : (N : Int) - 1 = ((N - 1 : Nat) : Int) := by omega
        have hd1 := intsC_at (l := l) (i := N - 1) (by omega)
        have h7 : N - 1 < l.length := by omega
        simp [hmC, intsV, h1, hd, g58, hA, h5, q, ww (N - 1) (by omega), hd1, h6, h7, helloMay, h3]
    · simp [hmC, intsV, helloMay, h3]
  · simp [hmC, intsV]
  · intro i hi
    have w1 : IntKind.i64.wrap ((i : Int) + 1) = (i : Int) + 1 := wi64 (by omega) (by omega)
    have h1 : i < l.length := by omega
    have hd := intsC_at h1
    have h2 := hp i hi
    simp only [helloOk, Bool.and_eq_true, Bool.or_eq_true, decide_eq_true_eq] at h2
    obtain ⟨hA, hB⟩ := h2
    rcases Nat.eq_zero_or_pos i with h5 | h5
    · subst h5
      simp [hmC, intsV, h1, hd, g58, hA]
    · have h6 : ¬ iat l i ≤ iat l (i - 1) := by omega
      have q : (i : Int) - 1 = ((i - 1 : Nat) : Int) := by omega
      have hd1 := intsC_at (l := l) (i := i - 1) (by omega)
      have h7 : i - 1 < l.length := by omega
      simp [hmC, intsV, h1, hd, g58, hA, h5, q, w1, ww (i - 1) (by omega), hd1, h6, h7]
  · rcases hend with ⟨h1, h2, h3⟩ | ⟨rfl, h3⟩
    · have hd := intsC_at h1
      cases hA : inR 1 4 (iat l N)
      · simp [hmC, intsV, h1, hd, g58, hA, stops]
      · have h5 : 0 < N := by
          rcases Nat.eq_zero_or_pos N with h | h
          · subst h; simp [helloOk, hA] at h2
          · exact h
        have h6 : iat l N ≤ iat l (N - 1) := by
          simp [helloOk, hA] at h2
          exact h2.2
        have q : (N : Int) - 1 = ((N - 1 : Nat) : Int) := by omega
        have hd1 := intsC_at (l := l) (i := N - 1) (by omega)
        have h7 : N - 1 < l.length := by omega
        simp [hmC, intsV, h1, hd, g58, hA, h5, q, ww (N - 1) (by omega), hd1, h6, h7, stops]
    · simp [hmC, intsV, stops]
noncomputable abbrev L72 := AM.ext L45 72 g72
theorem L72ok : CallOK prog L72 := L45ok.ext fn72 (by kernel_rfl) t72
def hpC (l : List Int) (i : Nat) : St := ⟨[.any, .any, .any, .any, .str (b8 l.length :: (l.take i).map b8), .any, .any, .any, .any, .any, .any, .any, .any, intsV l, .int .i64 l.length, .int .i64 i, .any, .any, .any, .any, .any, .any, .any, .any, .any], [], 0⟩
open Classical in
noncomputable def g54 : List AV → Option AV
  | [v] => if okInts v then some (.tup (if helloMay (unInts v) then [.str (heardB (unInts v)), .int .i64 0] else [.str [], .int .i64 900])) else none
  | _ => none
theorem t54 : ∀ args r, g54 args = some r → Told prog 54 args r := by
  intro args r h
  unfold g54 at h
  split at h <;> try (cases h; done)
  rename_i v
  split at h <;> try (cases h; done)
  rename_i hcond
  injection h with h; subst h
  obtain ⟨hc, hb⟩ := hcond
  obtain ⟨l, hl⟩ : ∃ l, unInts v = l := ⟨_, rfl⟩
  unfold isInts at hc
  rw [hl] at hc hb ⊢
  refine Told.le (.cons hc .nil) ?_
  refine told_fn (i := info 54) (n := (l.length + 1)) TTok L72ok mix fn54 po54 ?_
  have hok : okInts (.sl true (intsC l) l.length) := (okInts_V l).2 hb
  have hun : unInts (.sl true (intsC l) l.length) = l := unInts_intsV l
  cases hm : helloMay l
  · simp [f54, intsV, hok, hun, g72, hm]
  · simp [f54, intsV, hok, hun, g72, hm, g43]
    rw [iter_to (hpC l) l.length (by omega)]
    · simp [hpC, intsV, heardB]
    · simp [hpC, intsV]
    · intro i hi
      have w1 : IntKind.i64.wrap ((i : Int) + 1) = (i : Int) + 1 := wi64 (by omega) (by omega)
      have hd := intsC_at hi
      have hs := heard_succ hi
      have hk : min i l.length = i := by omega
      simp (disch := first | assumption | (simp; done) | (simp [hk]; done) | (simp [hk]; omega) | omega) [hpC, intsV, hi, hd, g43, w1, hs]
    · simp [hpC, intsV, stops]
noncomputable abbrev L54 := AM.ext L72 54 g54
theorem L54ok : CallOK prog L54 := L72ok.ext fn54 (by kernel_rfl) t54
end Go.AM.Try

