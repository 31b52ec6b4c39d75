import Derived.Test.YtahbgblkinknoaaCf
import Derived.Test.YtahbgblkinknoaaRp
/- The sum: what stands behind a text. -/
set_option linter.unusedSimpArgs false
set_option linter.unusedVariables false
set_option maxRecDepth 100000
set_option maxHeartbeats 4000000
namespace Go.AM.Try
open Go.Proofs.Try
attribute [-simp] UInt8.toNat_toUInt32 UInt32.toNat_toUInt8 UInt32.toNat_or UInt32.toNat_and UInt32.toNat_xor UInt32.toNat_shiftLeft UInt32.toNat_shiftRight UInt32.toNat_add UInt32.toNat_not
attribute [-simp] z126 strA
attribute [simp] strA_addc strA_eql strA_neq
open Classical in
noncomputable def g60 : List AV → Option AV
  | [.str s, .int .i64 n] => if s.length = 1 ∧ 0 ≤ n ∧ n ≤ 64 then some (.str (List.replicate n.toNat (s.getD 0 0))) else none
  | _ => none
theorem t60 : ∀ args r, g60 args = some r → Told prog 60 args r := by
  intro args r h
  unfold g60 at h
  split at h <;> try (cases h; done)
  rename_i s n
  split at h <;> try (cases h; done)
  rename_i hc
  obtain ⟨h1, h2, h3⟩ := hc
  injection h with h; subst h
  obtain ⟨m, rfl⟩ : ∃ m : Nat, n = m := ⟨n.toNat, by omega⟩
  match s, h1 with
  | [c], _ => exact tRep c m (by omega)
noncomputable abbrev L60 := AM.ext L82 60 g60
theorem L60ok : CallOK prog L60 := L82ok.ext fn60 (by kernel_rfl) t60
def pdC (s : List UInt8) (z x : Int) (j : Nat) : St := ⟨[.str s, .any, .any, .int .i64 z, .int .u64 x, .ptr 0 0, .any, .any, .any, .any, .any, .any, .any, .any, .any, .any, .int .i64 j, .any, .any, .any, .any, .any, .any, .any, .any, .any, .any, .any, .any, .any, .any, .any, .any, .any, .any, .any], [(0, ⟨(List.range 8).map fun k => if k < j then .int .u8 (IntKind.u8.wrap (x.fdiv (2 ^ (8 * (7 - k))))) else .int .u8 0, 2, false⟩)], 1⟩
open Classical in
noncomputable def g83 : List AV → Option AV
  | [.str s] => if s.length ≤ 1000000000 then some (.str (padW s)) else none
  | _ => none
theorem t83 : ∀ args r, g83 args = some r → Told prog 83 args r := by
  intro args r h
  unfold g83 at h
  split at h <;> try (cases h; done)
  rename_i s
  split at h <;> try (cases h; done)
  rename_i hcond
  injection h with h; subst h
  refine told_fn (i := info 83) (n := 12) TTok L60ok mix fn83 po83 ?_
  obtain ⟨z, hz⟩ : ∃ z : Nat, (119 - s.length % 64) % 64 = z := ⟨_, rfl⟩
  have hz2 : z < 64 := by omega
  have e1 : ((s.length : Int)).tmod 64 = (s.length : Int) % 64 := tmod_pos (by omega)
  have e2 : IntKind.i64.wrap (119 - (s.length : Int) % 64) = 119 - (s.length : Int) % 64 := wi64 (by omega) (by omega)
  have e3 : (119 - (s.length : Int) % 64).tmod 64 = (z : Int) := by rw [tmod_pos (by omega)]; omega
  have e4 : (s.length : Int) % 18446744073709551616 = s.length := by omega
  have e5 : ((s.length : Int) * 8) % 18446744073709551616 = s.length * 8 := by omega
  simp [f83, e1, e2, e3, e4, e5]
  rw [iter_to (pdC s z (s.length * 8)) 8 (by omega)]
  · have f1 : s.length + 1 ≤ 9223372036854775807 := by omega
    have f2 : s.length + 1 + z ≤ 9223372036854775807 := by omega
    have f3 : s.length + (z + 1) + 8 ≤ 9223372036854775807 := by omega
    have f4 : (z : Int) ≤ 64 := by omega
    simp (disch := first | assumption | (simp; done) | (simp; omega)) [pdC, List.range, List.range.loop, g60, f4, padW, lenB, numB, b8, hz]
    simp [Int.mul_comm 8 (s.length : Int)]
  · simp [pdC, List.range, List.range.loop]
  · intro i hi
    obtain rfl | rfl | rfl | rfl | rfl | rfl | rfl | rfl : i = 0 ∨ i = 1 ∨ i = 2 ∨ i = 3 ∨ i = 4 ∨ i = 5 ∨ i = 6 ∨ i = 7 := by omega
    all_goals simp [pdC, List.range, List.range.loop]
  · simp [pdC, stops]
noncomputable abbrev L83 := AM.ext L60 83 g83
theorem L83ok : CallOK prog L83 := L60ok.ext fn83 (by kernel_rfl) t83
end Go.AM.Try

