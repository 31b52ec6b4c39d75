import Derived.Test.YtahbgblkinknoaaCj
/- Packets' bytes; what is sealed. -/
set_option linter.unusedSimpArgs false
set_option linter.unusedVariables false
set_option maxRecDepth 100000
set_option maxHeartbeats 4000000
namespace Go.AM.Try
open Go.Proofs.Try
attribute [-simp] strA
attribute [simp] strA_addc strA_eql strA_neq
def g39 : List AV → Option AV
  | [.int .i64 t, .int .i64 r, .int .i64 n] => some (.tup (if headMay t r n then [.str (headB t r n), .int .i64 0] else [.str [], .int .i64 800]))
  | _ => none
theorem t39 : ∀ args r, g39 args = some r → Told prog 39 args r := by
  intro args r h
  unfold g39 at h
  split at h <;> try (cases h; done)
  rename_i t r n
  injection h with h; subst h
  refine told_fn (i := info 39) (n := 5) TTok L54ok mix fn39 po39 ?_
  unfold headMay
  cases h1 : isType t
  · simp [f39, g57, h1]
  cases h2 : inR 1 4 r
  · simp [f39, g57, g58, h1, h2]
  by_cases h3 : n < 12
  · have h4 : inR 12 512 n = false := by simp [inR]; omega
    simp [f39, g57, g58, h1, h2, h3, h4]
  by_cases h5 : n > 512
  · have h4 : inR 12 512 n = false := by simp [inR]; omega
    simp [f39, g57, g58, h1, h2, h3, h4, h5]
  · have h4 : inR 12 512 n = true := by simp [inR]; omega
    simp (disch := first | assumption | (simp; done) | (simp [two, four]; done) | (simp [two, four]; omega) | omega) [f39, g57, g58, h1, h2, h3, h4, h5, g43, g59, g44, headB]
noncomputable abbrev L39 := AM.ext L54 39 g39
theorem L39ok : CallOK prog L39 := L54ok.ext fn39 (by kernel_rfl) t39
def g21 : List AV → Option AV
  | [.int .i64 k, .int .i64 b, .int .i64 c] => some (.str (numsB k b c))
  | _ => none
theorem t21 : ∀ args r, g21 args = some r → Told prog 21 args r := by
  intro args r h
  unfold g21 at h
  split at h <;> try (cases h; done)
  rename_i k b c
  injection h with h; subst h
  refine told_fn (i := info 21) (n := 5) TTok L39ok mix fn21 po21 ?_
  simp (disch := first | assumption | (simp; done) | (simp [two, four]; done) | (simp [two, four]; omega) | omega) [f21, g43, g44, numsB]
noncomputable abbrev L21 := AM.ext L39 21 g21
theorem L21ok : CallOK prog L21 := L39ok.ext fn21 (by kernel_rfl) t21
open Classical in
noncomputable def g22 : List AV → Option AV
  | [.str k, .str s, .int .i64 r] => if s.length ≤ 1000000 then some (.str (signB k s r)) else none
  | _ => none
theorem t22 : ∀ args r, g22 args = some r → Told prog 22 args r := by
  intro args r h
  unfold g22 at h
  split at h <;> try (cases h; done)
  rename_i k s r
  split at h <;> try (cases h; done)
  rename_i hcond
  injection h with h; subst h
  refine told_fn (i := info 22) (n := 5) TTok L21ok mix fn22 po22 ?_
  have hf : (four r).length = 4 := rfl
  have h4 : s.length + 4 ≤ 10000000 := by omega
  cases hk : inL 1 32 k <;> simp (disch := first | assumption | (simp; done) | (simp [hf]; done) | (simp [hf]; omega) | omega) [f22, g44, g45, hf, h4, signB, hk]
noncomputable abbrev L22 := AM.ext L21 22 g22
theorem L22ok : CallOK prog L22 := L21ok.ext fn22 (by kernel_rfl) t22
end Go.AM.Try

