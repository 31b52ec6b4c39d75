import Derived.Test.YtahbgblkinknoaaCl
import Derived.Test.YtahbgblkinknoaaWk
/- The law on forms that may not be. -/
set_option linter.unusedSimpArgs false
set_option linter.unusedVariables false
set_option maxRecDepth 100000
set_option maxHeartbeats 4000000
namespace Go.AM.Try
open Go.Proofs.Try
attribute [-simp] strA
attribute [simp] strA_addc strA_eql strA_neq
def secB : List UInt8 := [115, 101, 99, 114, 101, 116]
def g15 : List AV → Option AV
  | [] => some (.agg [.int .i64 7, .str secB, .int .i64 0, .int .i64 99, .int .i64 0, .int .i64 99])
  | _ => none
theorem t15 : ∀ args r, g15 args = some r → Told prog 15 args r := by
  intro args r h
  unfold g15 at h
  split at h <;> try (cases h; done)
  injection h with h; subst h
  refine told_fn (i := info 15) (n := 5) TTok L8ok mix fn15 po15 ?_
  simp [f15, secB]
noncomputable abbrev L15 := AM.ext L8 15 g15
theorem L15ok : CallOK prog L15 := L8ok.ext fn15 (by kernel_rfl) t15
theorem aw1 : sealMay 1 2 [1] [] [] 7 secB 0 99 0 99 3 4 = true := by decide +kernel
theorem aw2 : sealMay 1 2 [1] [] [] 7 secB 0 99 0 99 0 4 = false := by decide +kernel
theorem aw3 : sealMay 0 0 [] [] [] 7 secB 0 99 0 99 3 4 = false := by decide +kernel
theorem aw4 : (sealB 1 2 [1] [] [] 7 secB 3 4).length = 58 := by
  have h : inL 1 32 secB = true := by decide
  have h1 : (unB 1 2 [1] [] [] 7 3 4).length = 26 := by decide +kernel
  simp [sealB, signB, h, tagW_length, h1]
theorem ok1 : okInts (.sl true [.int .i64 1] 1) := (okInts_V [1]).2 (by simp)
theorem un1 : unInts (.sl true [.int .i64 1] 1) = [1] := rfl
def g7 : List AV → Option AV
  | [] => some (.bool true)
  | _ => none
theorem t7 : ∀ args r, g7 args = some r → Told prog 7 args r := by
  intro args r h
  unfold g7 at h
  split at h <;> try (cases h; done)
  injection h with h; subst h
  refine told_fn (i := info 7) (n := 5) TTok L15ok mix fn7 po7 ?_
  simp [f7, g15, g8, g9, ok1, un1, aw1, aw2, aw3, aw4]
noncomputable abbrev L7 := AM.ext L15 7 g7
theorem L7ok : CallOK prog L7 := L15ok.ext fn7 (by kernel_rfl) t7
def g4 : List AV → Option AV
  | [.int .i64 w, .int .i64 x] => some (.bool true)
  | _ => none
theorem t4 : ∀ args r, g4 args = some r → Told prog 4 args r := by
  intro args r h
  unfold g4 at h
  split at h <;> try (cases h; done)
  rename_i w x
  injection h with h; subst h
  refine told_fn (i := info 4) (n := 5) TTok L7ok mix fn4 po4 ?_
  obtain ⟨d, hd⟩ : ∃ d, 1 + x % 1024 = d := ⟨_, rfl⟩
  have hd1 : 1 ≤ d ∧ d ≤ 1024 := by omega
  have w0 : IntKind.i64.wrap (1 + x % 1024) = d := by rw [hd]; exact wi64 (by omega) (by omega)
  have ww : ∀ n : Int, -4294967296 ≤ n → n ≤ 8589934592 → IntKind.i64.wrap n = n := fun n h1 h2 => wi64 (by omega) (by omega)
  obtain ⟨r, hr⟩ : ∃ r, (w % 18446744073709551616).tmod 8 = r := ⟨_, rfl⟩
  have hr1 : 0 ≤ r ∧ r < 8 := by rw [← hr, tmod_pos (by omega)]; omega
  have hh : unInts .snil = [] := rfl
  obtain rfl | rfl | rfl | rfl | rfl | rfl | rfl | rfl : r = 0 ∨ r = 1 ∨ r = 2 ∨ r = 3 ∨ r = 4 ∨ r = 5 ∨ r = 6 ∨ r = 7 := by omega
  · have s : sealMay 1 (4 + d) [] [] [] 7 secB 0 99 0 99 1 1 = false := by
      have : inR 1 4 (4 + d) = false := by simp [inR]; omega
      simp [sealMay, pkMay, headMay, this]
    simp [f4, g7, g15, g8, g9, ii_1023, -intA_and_i64, w0, hr, ww (4 + d) (by omega) (by omega), s]
  · have s : sealMay 2 2 [] [] [] 7 secB 0 99 0 99 1 1 = false := by decide +kernel
    simp [f4, g7, g15, g8, g9, ii_1023, -intA_and_i64, w0, hr, s]
  · have s : sealMay 1 2 [] [] [] 7 [] 0 99 0 99 1 1 = false := by decide +kernel
    simp [f4, g7, g15, g8, g9, ii_1023, -intA_and_i64, w0, hr, s]
  · have s : sealMay 1 2 [] [] [] (255 + d) secB 0 99 0 99 1 1 = false := by
      have : inR 0 255 (255 + d) = false := by simp [inR]; omega
      simp [sealMay, keyMay, this]
    simp [f4, g7, g15, g8, g9, ii_1023, -intA_and_i64, w0, hr, ww (255 + d) (by omega) (by omega), s]
  · have s : sealMay 1 2 [] [] [] 7 secB 0 99 0 99 (1 - d) 1 = false := by
      have : inR 1 4294967295 (1 - d) = false := by simp [inR]; omega
      simp [sealMay, this]
    simp [f4, g7, g15, g8, g9, ii_1023, -intA_and_i64, w0, hr, ww (1 - d) (by omega) (by omega), s]
  · have s : sealMay 1 2 [] [] [] 7 secB 0 99 0 99 (4294967295 + d) 1 = false := by
      have : inR 1 4294967295 (4294967295 + d) = false := by simp [inR]; omega
      simp [sealMay, this]
    simp [f4, g7, g15, g8, g9, ii_1023, -intA_and_i64, w0, hr, ww (4294967295 + d) (by omega) (by omega), s]
  · have s : sealMay 1 2 [] [] [] 7 secB 0 99 0 99 1 (1 - d) = false := by
      have : inR 1 4294967295 (1 - d) = false := by simp [inR]; omega
      simp [sealMay, this]
    simp [f4, g7, g15, g8, g9, ii_1023, -intA_and_i64, w0, hr, ww (1 - d) (by omega) (by omega), s]
  · have s : sealMay 1 2 [] [] [] 7 secB 0 99 0 99 1 (4294967295 + d) = false := by
      have : inR 1 4294967295 (4294967295 + d) = false := by simp [inR]; omega
      simp [sealMay, this]
    simp [f4, g7, g15, g8, g9, ii_1023, -intA_and_i64, w0, hr, ww (4294967295 + d) (by omega) (by omega), s]
noncomputable abbrev L4 := AM.ext L7 4 g4
theorem L4ok : CallOK prog L4 := L7ok.ext fn4 (by kernel_rfl) t4
end Go.AM.Try

