import Derived.Test.YtahbgblkinknoaaCg
/- The sum. -/
set_option linter.unusedSimpArgs false
set_option linter.unusedVariables false
set_option maxRecDepth 100000
set_option maxHeartbeats 4000000
namespace Go.AM.Try
open Go.Proofs.Try
attribute [-simp] UInt8.toNat_toUInt32 UInt32.toNat_toUInt8 UInt32.toNat_or UInt32.toNat_and UInt32.toNat_xor UInt32.toNat_shiftLeft UInt32.toNat_shiftRight UInt32.toNat_add UInt32.toNat_not
attribute [-simp] z126 strA
attribute [simp] strA_addc strA_eql strA_neq
def suC (T : List UInt8) (j : Nat) : St := ⟨[.any, .any, .any, .ptr 0 0, .ptr 1 0, .str (T.drop (64 * j)), .any, .any, .any, .any, .any, .any, .any, .any, .any, .any, .any, .any, .any, .any, .any, .any, .any, .any, .any, .any, .any, .any, .any, .any, .any, .any, .any, .any, .any, .any, .any, .any, .any, .any, .any, .any, .any, .any, .any, .any, .any, .any], [(0, ⟨wds allW, 2, false⟩), (1, ⟨(blocksW T j).cells, 2, false⟩)], 2⟩
def suD (x : W8) (j : Nat) : St := ⟨[.any, .any, .any, .any, .any, .any, .ref 0 0 (4 * j) 1, .any, .any, .any, .any, .any, .any, .any, .any, .any, .any, .any, .any, .any, .any, .any, .any, .any, .any, .any, .any, .agg x.cells, .int .i64 j, .any, .any, .any, .any, .any, .any, .any, .any, .any, .any, .any, .any, .any, .any, .any, .any, .any, .any, .any], [(0, ⟨((outW x).take (4 * j)).map fun c => .int .u8 c.toNat, 0, false⟩)], 1⟩
theorem allW_drop : List.drop 8 (wds allW) = wds Kt := rfl
theorem allW_take : List.take 8 (wds allW) = first8.cells := rfl
theorem zw_ne : (wds (zw 64) = []) = False := by simp [wds, zw]
theorem zw_len : (wds (zw 64)).length = 64 := by simp
theorem allW_length : (wds allW).length = 72 := by rw [wds_length]; rfl
open Classical in
noncomputable def g61 : List AV → Option AV
  | [.str s] => if s.length ≤ 1000000000 then some (.str (shaW s)) else none
  | _ => none
theorem t61 : ∀ args r, g61 args = some r → Told prog 61 args r := by
  intro args r h
  unfold g61 at h
  split at h <;> try (cases h; done)
  rename_i s
  split at h <;> try (cases h; done)
  rename_i hcond
  injection h with h; subst h
  refine told_fn (i := info 61) (n := 20000000) TTok L83ok mix fn61 po61 ?_
  obtain ⟨T, hT⟩ : ∃ T, padW s = T := ⟨_, rfl⟩
  have hN := padW_length s
  have hM : (padW s).length ≤ 1000001000 := by
    simp only [padW, lenB, List.length_append, List.length_cons, List.length_nil, List.length_replicate, numB_length]
    omega
  have hsha : shaW s = outW (blocksW T (T.length / 64)) := by rw [shaW, hT]
  rw [hT] at hN hM
  obtain ⟨N, hNe⟩ : ∃ N, T.length / 64 = N := ⟨_, rfl⟩
  rw [hNe] at hN hsha
  rw [hsha]
  simp [f61, g82, g83, hcond, hT, allW_drop, allW_take, allW_length, zw_ne, zw_len, -wds_length, W8.cells]
  rw [iter_to (suC T) N (by omega)]
  · have hr : T.drop (64 * N) = [] := by rw [← hN]; simp
    obtain ⟨x, hx⟩ : ∃ x, blocksW T N = x := ⟨_, rfl⟩
    simp [suC, hr, hx, W8.cells]
    rw [iter_to (suD x) 8 (by omega)]
    · simp [suD, W8.cells, outW, wordB]
    · simp [suD, W8.cells, outW, wordB]
    · intro i hi
      obtain rfl | rfl | rfl | rfl | rfl | rfl | rfl | rfl : i = 0 ∨ i = 1 ∨ i = 2 ∨ i = 3 ∨ i = 4 ∨ i = 5 ∨ i = 6 ∨ i = 7 := by omega
      all_goals simp [suD, W8.cells, outW, wordB]
    · simp [suD, stops]
  · simp [suC, blocksW, W8.cells]
  · intro j hj
    obtain ⟨r, hr⟩ : ∃ r, T.drop (64 * j) = r := ⟨_, rfl⟩
    have hl : r.length = 64 * (N - j) := by rw [← hr, List.length_drop, hN]; omega
    have hr2 : List.drop (64 * (j + 1)) T = List.drop 64 r := by rw [← hr, List.drop_drop]; rfl
    have hb : blocksW T (j + 1) = mixW (blocksW T j) (r.take 64) := by rw [blocksW, hr]
    have h1 : 64 ≤ r.length := by omega
    have h2 : (64 : Int) ≤ r.length := by omega
    have h3 : r.isEmpty = false := by cases r with
      | nil => simp at h1
      | cons => rfl
    have h4 : List.take (r.length - 64) (List.drop 64 r) = List.drop 64 r := List.take_of_length_le (by simp)
    simp [suC, hr, hr2, hb, h1, h2, h3, h4, g84, allW_drop, allW_take, allW_length, zw_ne, zw_len, -wds_length, W8.cells]
  · have hr : T.drop (64 * N) = [] := by rw [← hN]; simp
    simp [suC, stops, hr]
noncomputable abbrev L61 := AM.ext L83 61 g61
theorem L61ok : CallOK prog L61 := L83ok.ext fn61 (by kernel_rfl) t61
end Go.AM.Try

