import Derived.Test.YtahbgblkinknoaaCd
/- The sum: a block's words. -/
set_option linter.unusedSimpArgs false
set_option linter.unusedVariables false
set_option maxRecDepth 100000
namespace Go.AM.Try
open Go.Proofs.Try
attribute [-simp] UInt8.toNat_toUInt32 UInt32.toNat_toUInt8 UInt32.toNat_or UInt32.toNat_and UInt32.toNat_xor UInt32.toNat_shiftLeft UInt32.toNat_shiftRight UInt32.toNat_add UInt32.toNat_not
attribute [-simp] z126
@[simp] theorem z126w : TT.z 126 = some (wds (zw 64), 256) := z126
def spC (s : List UInt8) (i : Nat) : St := ⟨[.str s, .any, .ptr 0 0, .ptr 1 0, .any, .any, .any, .any, .any, .int .i64 i, .any, .any, .any, .any, .any, .any, .any, .any, .any, .any, .any, .any, .any, .any, .any, .any, .any, .any, .any, .any, .any, .any, .any, .any, .any, .any, .any, .any, .any, .any, .any, .any, .any, .any, .any, .any, .any, .any, .any, .any, .any, .any, .any, .any, .any, .any, .any, .any, .any, .any, .any], [(0, ⟨wds (zw 64), 2, false⟩), (1, ⟨wds (wA s i), 2, false⟩)], 2⟩
open Classical in
noncomputable def g96 : List AV → Option AV
  | [.str s] => if s.length = 64 then some (.agg (wds (wl s 64))) else none
  | _ => none
theorem t96 : ∀ args r, g96 args = some r → Told prog 96 args r := by
  intro args r h
  unfold g96 at h
  split at h <;> try (cases h; done)
  rename_i s
  split at h <;> try (cases h; done)
  rename_i hcond
  injection h with h; subst h
  refine told_fn (i := info 96) (n := 70) TTok L97ok mix fn96 po96 ?_
  simp [f96]
  rw [iter_to (spC s) 64 (by omega)]
  · have e1 : (wA s 64).length = 64 := wA_length s (by omega)
    have e2 : wA s 64 = wl s 64 := by simp [wA, zw]
    have e3 : List.take 64 (wds (wl s 64)) = wds (wl s 64) := List.take_of_length_le (by simp)
    simp [spC, e1, e2, e3]
  · simp [spC, wA, wl]
  · intro i hi
    have hl : (wA s i).length = 64 := wA_length s (by omega)
    have w1 : IntKind.i64.wrap ((i : Int) + 1) = (i : Int) + 1 := wi64 (by omega) (by omega)
    have hi' : (i : Int) < 64 := by omega
    by_cases h : i < 16
    · have h' : (i : Int) < 16 := by omega
      have w4 : IntKind.i64.wrap (4 * (i : Int)) = 4 * (i : Int) := wi64 (by omega) (by omega)
      have f4 : fourOk s (4 * (i : Int)) := by unfold fourOk; omega
      have t4 : (4 * (i : Int)).toNat = 4 * i := by omega
      have st := wds_set (wA s i) i (fourAt s (4 * i)) (by omega)
      have st2 := wA_set s hi
      have nx : nextW s (wl s i) i = fourAt s (4 * i) := by simp [nextW, h]
      rw [nx] at st2
      have hk : i + 1 ≤ 64 := by omega
      simp [spC, hi, hi', h, h', w1, w4, f4, t4, g103, hl, st, st2, hk]
    · have h' : ¬ (i : Int) < 16 := by omega
      have q15 : (i : Int) - 15 = ((i - 15 : Nat) : Int) := by omega
      have q2 : (i : Int) - 2 = ((i - 2 : Nat) : Int) := by omega
      have q16 : (i : Int) - 16 = ((i - 16 : Nat) : Int) := by omega
      have q7 : (i : Int) - 7 = ((i - 7 : Nat) : Int) := by omega
      have ww : ∀ k : Nat, IntKind.i64.wrap ((i - k : Nat) : Int) = ((i - k : Nat) : Int) := fun k => wi64 (by omega) (by omega)
      have hk : ∀ k : Nat, ((i - k : Nat) : Int) < 64 := fun k => by omega
      have hg : ∀ k : Nat, 0 < k → k ≤ 16 → (wds (wA s i))[i - k]? = some (.int .u32 ((wat (wl s i) (i - k)).toNat : Int)) := fun k h1 h2 => wA_at s (by omega) (by omega)
      have g15 := hg 15 (by omega) (by omega)
      have g2 := hg 2 (by omega) (by omega)
      have g16 := hg 16 (by omega) (by omega)
      have g7 := hg 7 (by omega) (by omega)
      have st := wds_set (wA s i) i (nextW s (wl s i) i) (by omega)
      have st2 := wA_set s hi
      have nx : nextW s (wl s i) i = ((wat (wl s i) (i - 16) + sg (wat (wl s i) (i - 15)) 7 18 3) + wat (wl s i) (i - 7)) + sg (wat (wl s i) (i - 2)) 17 19 10 := by simp [nextW, h]
      rw [nx] at st st2
      have hk1 : i + 1 ≤ 64 := by omega
      have k31 : K31 7 ∧ K31 18 ∧ K31 17 ∧ K31 19 := by unfold K31; omega
      have sg1 : ∀ x : UInt32, rotr x 7 ^^^ rotr x 18 ^^^ x >>> 3 = sg x 7 18 3 := fun x => rfl
      have sg2 : ∀ x : UInt32, rotr x 17 ^^^ rotr x 19 ^^^ x >>> 10 = sg x 17 19 10 := fun x => rfl
      simp [spC, hi, hi', h, h', w1, q15, q2, q16, q7, ww, hk, g15, g2, g16, g7, hl, k31.1, k31.2.1, k31.2.2.1, k31.2.2.2, g104, sg1, sg2, st, st2, hk1]
  · simp [spC, stops]
noncomputable abbrev L96 := AM.ext L97 96 g96
theorem L96ok : CallOK prog L96 := L97ok.ext fn96 (by kernel_rfl) t96
end Go.AM.Try

