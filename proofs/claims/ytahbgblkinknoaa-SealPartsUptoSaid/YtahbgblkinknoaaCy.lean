import Derived.Test.YtahbgblkinknoaaCx
import Derived.Test.YtahbgblkinknoaaDe
/- What the document's own answer reads: heads, trailers, hellos. -/
set_option linter.unusedSimpArgs false
set_option linter.unusedVariables false
set_option maxRecDepth 100000
set_option maxHeartbeats 4000000
namespace Go.AM.Try
open Go.Proofs.Try
attribute [-simp] strA
attribute [simp] strA_addc strA_eql strA_neq
open Classical in
noncomputable def g23 : List AV → Option AV
  | [.str s] => if s.length ≤ 1000000000 then some (.tup (if decide (12 ≤ s.length) && ghOk s then [.int .i64 (ghK s), .int .i64 (ghR s), .int .i64 (ghN s), .int .i64 0] else [.int .i64 0, .int .i64 0, .int .i64 0, .int .i64 800])) else none
  | _ => none
theorem t23 : ∀ args r, g23 args = some r → Told prog 23 args r := by
  intro args r h
  unfold g23 at h
  split at h <;> try (cases h; done)
  rename_i s
  split at h <;> try (cases h; done)
  rename_i hcond
  injection h with h; subst h
  refine told_fn (i := info 23) (n := 5) TTok L46ok mix fn23 po23 ?_
  by_cases hl : s.length < 12
  · have h1 : (s.length : Int) < 12 := by omega
    have h2 : ¬ 12 ≤ s.length := by omega
    simp [f23, h1, h2]
  · have h1 : ¬ (s.length : Int) < 12 := by omega
    have h2 : 12 ≤ s.length := by omega
    have c1 : (4 : Int) ≤ s.length := by omega
    have c2 : (8 : Int) ≤ s.length := by omega
    have c3 : (12 : Int) ≤ s.length := by omega
    have d1 : 4 ≤ s.length := by omega
    have d2 : 8 ≤ s.length := by omega
    have g1 : s[1]? = some s[1] := by first | (simp; done) | (simp; omega)
    have m1 : min 2 (s.length - 2) = 2 := by omega
    have m2 : min 4 (s.length - 4) = 4 := by omega
    have m3 : 2 ≤ s.length - 2 := by omega
    have m4 : 4 ≤ s.length - 4 := by omega
    have k1 : ((s[1]).toNat : Int) = ghK s := by simp [ghK, g1]
    have k2 : ofB (List.take 2 (List.drop 2 s)) 2 = ghN s := rfl
    have k3 : ofB (List.take 4 (List.drop 4 s)) 4 = ghR s := rfl
    have w1 : IntKind.i64.wrap (ghK s) = ghK s := by
      rw [← k1]
      have := (s[1]).toNat_lt
      exact wi64 (by omega) (by omega)
    unfold ghOk
    cases hm : headMay (ghK s) (ghR s) (ghN s)
    · simp (disch := first | assumption | (simp; done) | (simp [m1, m2]; done) | (simp [m1, m2]; omega) | omega) [f23, h1, h2, c1, c2, c3, d1, d2, g1, m1, m2, m3, m4, k1, k2, k3, w1, hm, g27, g46]
    · cases he : headB (ghK s) (ghR s) (ghN s) == s.take 12
      · have he' : ¬ headB (ghK s) (ghR s) (ghN s) = s.take 12 := by simpa using he
        simp (disch := first | assumption | (simp; done) | (simp [m1, m2]; done) | (simp [m1, m2]; omega) | omega) [f23, h1, h2, c1, c2, c3, d1, d2, g1, m1, m2, m3, m4, k1, k2, k3, w1, hm, he, he', g27, g46]
      · have he' : headB (ghK s) (ghR s) (ghN s) = s.take 12 := by simpa using he
        simp (disch := first | assumption | (simp; done) | (simp [m1, m2]; done) | (simp [m1, m2]; omega) | omega) [f23, h1, h2, c1, c2, c3, d1, d2, g1, m1, m2, m3, m4, k1, k2, k3, w1, hm, he, he', g27, g46]
noncomputable abbrev L23 := AM.ext L46 23 g23
theorem L23ok : CallOK prog L23 := L46ok.ext fn23 (by kernel_rfl) t23
def g48 : List AV → Option AV
  | [.agg [.int .i64 k, .int .i64 b, .int .i64 c, .str t]] => some (.bool (trMay k b c t))
  | _ => none
theorem t48 : ∀ args r, g48 args = some r → Told prog 48 args r := by
  intro args r h
  unfold g48 at h
  split at h <;> try (cases h; done)
  rename_i k b c t
  injection h with h; subst h
  refine told_fn (i := info 48) (n := 5) TTok L23ok mix fn48 po48 ?_
  unfold trMay
  cases h1 : inR 0 255 k
  · simp [f48, g51, h1]
  cases h2 : inR 1 4294967295 b && inR 1 4294967295 c
  · simp [f48, g51, g67, h1, h2]
  · by_cases h3 : t.length = 32
    · have h4 : (t.length : Int) = 32 := by omega
      simp [f48, g51, g67, h1, h2, h3, h4]
    · have h4 : ¬ (t.length : Int) = 32 := by omega
      simp [f48, g51, g67, h1, h2, h3, h4]
noncomputable abbrev L48 := AM.ext L23 48 g48
theorem L48ok : CallOK prog L48 := L23ok.ext fn48 (by kernel_rfl) t48
def g28 : List AV → Option AV
  | [.agg [.int .i64 k, .int .i64 b, .int .i64 c, .str t]] => some (.tup (if trMay k b c t then [.str (trB k b c t), .int .i64 0] else [.str [], .int .i64 1300]))
  | _ => none
theorem t28 : ∀ args r, g28 args = some r → Told prog 28 args r := by
  intro args r h
  unfold g28 at h
  split at h <;> try (cases h; done)
  rename_i k b c t
  injection h with h; subst h
  refine told_fn (i := info 28) (n := 5) TTok L48ok mix fn28 po28 ?_
  cases hm : trMay k b c t
  · simp [f28, g48, hm]
  · have ht : t.length = 32 := by simp [trMay] at hm; exact hm.2.2
    simp (disch := first | assumption | (simp; done) | (simp [two, four, ht]; done) | (simp [two, four, ht]; omega) | omega) [f28, g48, hm, gNum, g13, numB1, numB3z, numB4, trB, numsB]
noncomputable abbrev L28 := AM.ext L48 28 g28
theorem L28ok : CallOK prog L28 := L48ok.ext fn28 (by kernel_rfl) t28
def g11 : List AV → Option AV
  | [.str s] => some (.tup (if decide (s.length = 44) && gtOk s then [.agg [.int .i64 (gtK s), .int .i64 (gtB s), .int .i64 (gtC s), .str (gtT s)], .int .i64 0] else [.agg [.int .i64 0, .int .i64 0, .int .i64 0, .str []], .int .i64 1300]))
  | _ => none
theorem t11 : ∀ args r, g11 args = some r → Told prog 11 args r := by
  intro args r h
  unfold g11 at h
  split at h <;> try (cases h; done)
  rename_i s
  injection h with h; subst h
  refine told_fn (i := info 11) (n := 5) TTok L28ok mix fn11 po11 ?_
  by_cases hl : s.length = 44
  · have h1 : (s.length : Int) = 44 := by omega
    have g1 : s[0]? = some s[0] := by first | (simp; done) | (simp; omega)
    have k1 : ((s[0]).toNat : Int) = gtK s := by simp [gtK, g1]
    have k2 : ofB (List.take 4 (List.drop 4 s)) 4 = gtB s := rfl
    have k3 : ofB (List.take 4 (List.drop 8 s)) 4 = gtC s := rfl
    have k4 : List.take 32 (List.drop 12 s) = gtT s := List.take_of_length_le (by simp; omega)
    have w1 : IntKind.i64.wrap (gtK s) = gtK s := by
      rw [← k1]
      have := (s[0]).toNat_lt
      exact wi64 (by omega) (by omega)
    unfold gtOk
    cases hm : trMay (gtK s) (gtB s) (gtC s) (gtT s)
    · simp (disch := first | assumption | (simp; done) | (simp [hl]; done) | (simp [hl]; omega) | omega) [f11, hl, h1, g1, k1, k2, k3, k4, w1, hm, g27, g28]
    · cases he : trB (gtK s) (gtB s) (gtC s) (gtT s) == s
      · have he' : ¬ trB (gtK s) (gtB s) (gtC s) (gtT s) = s := by simpa using he
        simp (disch := first | assumption | (simp; done) | (simp [hl]; done) | (simp [hl]; omega) | omega) [f11, hl, h1, g1, k1, k2, k3, k4, w1, hm, he, he', g27, g28]
      · have he' : trB (gtK s) (gtB s) (gtC s) (gtT s) = s := by simpa using he
        simp (disch := first | assumption | (simp; done) | (simp [hl]; done) | (simp [hl]; omega) | omega) [f11, hl, h1, g1, k1, k2, k3, k4, w1, hm, he, he', g27, g28]
  · have h1 : ¬ (s.length : Int) = 44 := by omega
    simp [f11, hl, h1]
noncomputable abbrev L11 := AM.ext L28 11 g11
theorem L11ok : CallOK prog L11 := L28ok.ext fn11 (by kernel_rfl) t11
end Go.AM.Try

