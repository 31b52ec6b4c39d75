import Derived.Test.YtahbgblkinknoaaCa
/- Numbers of bytes, bytes of numbers. -/
set_option linter.unusedSimpArgs false
set_option linter.unusedVariables false
set_option maxRecDepth 100000
namespace Go.AM.Try
open Go.Proofs.Try
def ofC (s : List UInt8) (j : Nat) : St := ⟨[.str s, .any, .any, .int .i64 (ofB s j), .int .i64 j, .any, .any, .any, .any, .any, .any, .any, .any, .any, .any, .any, .any, .any, .any], [], 0⟩
open Classical in
noncomputable def g27 : List AV → Option AV
  | [.str s] => if s.length ≤ 1000000 then some (.int .i64 (ofB s s.length)) else none
  | _ => none
theorem t27 : ∀ args r, g27 args = some r → Told prog 27 args r := by
  intro args r h
  unfold g27 at h
  split at h <;> try (cases h; done)
  rename_i s
  split at h <;> try (cases h; done)
  rename_i hcond
  injection h with h; subst h
  refine told_fn (i := info 27) (n := (s.length + 1)) TTok L18ok mix fn27 po27 ?_
  simp [f27]
  rw [iter_to (ofC s) s.length (by omega)]
  · simp [ofC]
  · simp [ofC, ofB]
  · intro i hi
    have hc : s[i]? = some s[i] := by simp [hi]
    simp [ofC, hi, hc, ofB_succ hi, ofStep]
    exact wi64 (by omega) (by omega)
  · simp [ofC, stops]
noncomputable abbrev L27 := AM.ext L18 27 g27
theorem L27ok : CallOK prog L27 := L18ok.ext fn27 (by kernel_rfl) t27

open Classical in
noncomputable def g13 : List AV → Option AV
  | [.int .i64 x, .int .i64 k] => if 1 ≤ k ∧ k ≤ 4 then some (.str (numB x k.toNat)) else none
  | _ => none
theorem t13 : ∀ args r, g13 args = some r → Told prog 13 args r := by
  intro args r h
  unfold g13 at h
  split at h <;> try (cases h; done)
  rename_i x k
  split at h <;> try (cases h; done)
  rename_i hcond
  injection h with h; subst h
  refine told_fn (i := info 13) (n := 12) TTok L27ok mix fn13 po13 ?_
  obtain rfl | rfl | rfl | rfl : k = 1 ∨ k = 2 ∨ k = 3 ∨ k = 4 := by omega
  · simp [f13, iter, numB, b8, IntKind.bits]
    trace_state
  · simp [f13, iter, numB, b8, IntKind.bits]
    trace_state
  · simp [f13, iter, numB, b8, IntKind.bits]
  · simp [f13, iter, numB, b8, IntKind.bits]
noncomputable abbrev L13 := AM.ext L27 13 g13
theorem L13ok : CallOK prog L13 := L27ok.ext fn13 (by kernel_rfl) t13
end Go.AM.Try

