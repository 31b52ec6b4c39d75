import Derived.Test.YtahbgblkinknoaaCb
import Derived.Test.YtahbgblkinknoaaPl
/- Words turned. -/
set_option linter.unusedSimpArgs false
set_option linter.unusedVariables false
set_option maxRecDepth 100000
namespace Go.AM.Try
open Go.Proofs.Try
attribute [-simp] UInt8.toNat_toUInt32 UInt32.toNat_toUInt8 UInt32.toNat_or UInt32.toNat_and UInt32.toNat_xor UInt32.toNat_shiftLeft UInt32.toNat_shiftRight UInt32.toNat_add UInt32.toNat_not
theorem iu64_and31 {a : Int} (h0 : 0 ≤ a) (h1 : a < 18446744073709551616) : intA .and .u64 a 31 = some (.int .u64 (a % 32)) := by
  obtain ⟨n, rfl⟩ : ∃ n : Nat, a = n := ⟨a.toNat, by omega⟩
  rw [intA_and]
  have e : (BitVec.ofInt IntKind.u64.bits (n : Int) &&& BitVec.ofInt IntKind.u64.bits 31).toNat = n % 32 := by
    rw [BitVec.toNat_and]
    have e1 : (BitVec.ofInt IntKind.u64.bits (n : Int)).toNat = n := by
      show (BitVec.ofInt 64 (n : Int)).toNat = n
      rw [BitVec.ofInt_natCast, BitVec.toNat_ofNat]
      omega
    have e2 : (BitVec.ofInt IntKind.u64.bits 31).toNat = 2 ^ 5 - 1 := by decide
    rw [e1, e2, Nat.and_two_pow_sub_one_eq_mod]
  rw [e, u64_wrap]
  congr 2
  omega
def U32ok (x : Int) : Prop := ∃ v : UInt32, x = (v.toNat : Int)
@[simp] theorem U32ok_toNat (v : UInt32) : U32ok (v.toNat : Int) := ⟨v, rfl⟩
def K31 (k : Int) : Prop := 1 ≤ k ∧ k ≤ 31
open Classical in
noncomputable def g104 : List AV → Option AV
  | [.int .u32 x, .int .i64 k] => if U32ok x ∧ K31 (-k) then some (.int .u32 (rotr (u32 x) (-k).toNat).toNat) else none
  | _ => none
theorem t104 : ∀ args r, g104 args = some r → Told prog 104 args r := by
  intro args r h
  unfold g104 at h
  split at h <;> try (cases h; done)
  rename_i x k
  split at h <;> try (cases h; done)
  rename_i hcond
  injection h with h; subst h
  refine told_fn (i := info 104) (n := 5) TTok L13ok mix fn104 po104 ?_
  obtain ⟨⟨v, rfl⟩, hk⟩ := hcond
  unfold K31 at hk
  have e0 : IntKind.u64.wrap k = 18446744073709551616 + k := by rw [u64_wrap]; omega
  have e1 : intA .and .u64 (18446744073709551616 + k) 31 = some (.int .u64 (32 + k)) := by
    rw [iu64_and31 (by omega) (by omega)]
    congr 2; omega
  have e2 : intA .sub .u64 32 (32 + k) = some (.int .u64 (-k)) := by
    rw [intA_sub, u64_wrap]
    congr 2; omega
  have e3 := iu_shl v (32 + k) (by omega) (by omega)
  have e4 := iu_shr v (-k) (by omega) (by omega)
  have e5 : (32 + k).toNat = 32 - (-k).toNat := by omega
  simp [f104, rotr, e0, e1, e2, e3, e4, e5, -u64_wrap, -intA_and_u64, -intA_sub_u64, -shiftA_shl_u32, -shiftA_shr_u32]
noncomputable abbrev L104 := AM.ext L13 104 g104
theorem L104ok : CallOK prog L104 := L13ok.ext fn104 (by kernel_rfl) t104
open Classical in
noncomputable def g68 : List AV → Option AV
  | [.int .u32 x, .int .i64 k] => if U32ok x ∧ K31 k then some (.int .u32 (rotr (u32 x) k.toNat).toNat) else none
  | _ => none
theorem t68 : ∀ args r, g68 args = some r → Told prog 68 args r := by
  intro args r h
  unfold g68 at h
  split at h <;> try (cases h; done)
  rename_i x k
  split at h <;> try (cases h; done)
  rename_i hcond
  injection h with h; subst h
  refine told_fn (i := info 68) (n := 5) TTok L104ok mix fn68 po68 ?_
  obtain ⟨⟨v, rfl⟩, hk⟩ := hcond
  unfold K31 at hk
  have e2 : intA .sub .i64 32 k = some (.int .i64 (32 - k)) := by
    rw [intA_sub, wi64 (by omega) (by omega)]
  have e3 := iu_shl v (32 - k) (by omega) (by omega)
  have e4 := iu_shr v k (by omega) (by omega)
  have e5 : (32 - k).toNat = 32 - k.toNat := by omega
  simp [f68, rotr, e2, e3, e4, e5, UInt32.or_comm, -intA_sub_i64, -shiftA_shl_u32, -shiftA_shr_u32]
noncomputable abbrev L68 := AM.ext L104 68 g68
theorem L68ok : CallOK prog L68 := L104ok.ext fn68 (by kernel_rfl) t68
end Go.AM.Try

