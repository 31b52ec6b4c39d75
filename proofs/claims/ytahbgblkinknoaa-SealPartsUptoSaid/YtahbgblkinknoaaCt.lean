import Derived.Test.YtahbgblkinknoaaCs
/- The sum and the tag, the document's own. -/
set_option linter.unusedSimpArgs false
set_option linter.unusedVariables false
set_option maxRecDepth 100000
set_option maxHeartbeats 4000000
namespace Go.AM.Try
open Go.Proofs.Try
attribute [-simp] UInt8.toNat_toUInt32 UInt32.toNat_toUInt8 UInt32.toNat_or UInt32.toNat_and UInt32.toNat_xor UInt32.toNat_shiftLeft UInt32.toNat_shiftRight UInt32.toNat_add UInt32.toNat_not
attribute [-simp] strA UInt8.toNat_xor UInt8.toNat_and UInt8.toNat_or
attribute [simp] strA_addc strA_eql strA_neq
open Classical in
noncomputable def gNum : List AV → Option AV
  | [.int .i64 x, .int .i64 k] => if k = 8 then some (.str (numB x 8)) else g13 [.int .i64 x, .int .i64 k]
  | _ => none
theorem tNum : ∀ args r, gNum args = some r → Told prog 13 args r := by
  intro args r h
  unfold gNum at h
  split at h <;> try (cases h; done)
  rename_i x k
  split at h
  · rename_i hk
    subst hk
    injection h with h; subst h
    refine told_fn (i := info 13) (n := 12) TTok L49ok mix fn13 po13 ?_
    simp [f13, iter, numB, b8, IntKind.bits]
  · exact t13 _ _ h
noncomputable abbrev LNum := AM.ext L49 13 gNum
theorem LNumok : CallOK prog LNum := L49ok.ext fn13 (by kernel_rfl) tNum
theorem b8_shr (x : UInt32) (k : Nat) (h : k < 32) : b8 ((x.toNat : Int).fdiv (2 ^ k)) = (x >>> UInt32.ofNat k).toUInt8 := by
  have e : (x.toNat : Int).fdiv (2 ^ k) = ((x >>> UInt32.ofNat k).toNat : Int) := by
    rw [UInt32.toNat_shiftRight]
    have e2 : (UInt32.ofNat k).toNat % 32 = k := by rw [u32_ofNat]; omega
    rw [e2, Nat.shiftRight_eq_div_pow, Int.fdiv_eq_ediv_of_nonneg _ (Int.pow_nonneg (by omega))]
    simp
  rw [b8, e, u8_u32]
  simp
theorem wordB_num (x : UInt32) : wordB x = numB (x.toNat : Int) 4 := by
  have h0 := b8_shr x 0 (by omega)
  have h1 := b8_shr x 8 (by omega)
  have h2 := b8_shr x 16 (by omega)
  have h3 := b8_shr x 24 (by omega)
  have e0 : x >>> UInt32.ofNat 0 = x := by simp
  rw [e0] at h0
  simp only [numB, wordB]
  rw [show (2 : Int) ^ (8 * 3) = 2 ^ 24 from rfl, show (2 : Int) ^ (8 * 2) = 2 ^ 16 from rfl, show (2 : Int) ^ (8 * 1) = 2 ^ 8 from rfl, show (2 : Int) ^ (8 * 0) = 2 ^ 0 from rfl, h0, h1, h2, h3]
  rfl
theorem bytes_rep (n : Nat) : bytesOf (List.replicate n (.int .u8 0)) = some (List.replicate n 0) := by
  induction n with
  | zero => rfl
  | succ n ih => rw [List.replicate_succ, bytesOf, ih]; rfl
@[simp] theorem i64_u32 (x : UInt32) : IntKind.i64.wrap (x.toNat : Int) = (x.toNat : Int) := by
  have := u32_lt x
  exact wi64 (by omega) (by omega)
def shC (T : List UInt8) (j : Nat) : St := ⟨[.any, .any, .any, .str T, .ref 0 0 8 1, .int .i64 ((64 * j : Nat) : Int), .any, .any, .any, .any, .any, .any, .any, .any, .any, .any, .any, .any, .any, .any, .any, .any, .any, .any, .any, .any, .any, .any, .any, .any, .any, .any, .any, .any, .any, .any, .any, .any, .any, .any, .any, .any, .any, .any, .any, .any, .any, .any, .any, .any], [(0, ⟨(blocksW T j).cells, 0, false⟩)], 1⟩
def outR (x : W8) : List UInt8 := numB (x.a.toNat : Int) 4 ++ numB (x.b.toNat : Int) 4 ++ numB (x.c.toNat : Int) 4 ++ numB (x.d.toNat : Int) 4 ++ numB (x.e.toNat : Int) 4 ++ numB (x.f.toNat : Int) 4 ++ numB (x.g.toNat : Int) 4 ++ numB (x.h.toNat : Int) 4
theorem outR_W (x : W8) : outW x = outR x := by simp only [outW, outR, wordB_num]
def shD (x : W8) (i : Nat) : St := ⟨[.any, .any, .any, .any, .ref 0 0 8 1, .any, .str ((outR x).take (4 * i)), .int .i64 i, .any, .any, .any, .any, .any, .any, .any, .any, .any, .any, .any, .any, .any, .any, .any, .any, .any, .any, .any, .any, .any, .any, .any, .any, .any, .any, .any, .any, .any, .any, .any, .any, .any, .any, .any, .any, .any, .any, .any, .any, .any, .any], [(0, ⟨x.cells, 0, false⟩)], 1⟩
open Classical in
noncomputable def g29 : List AV → Option AV
  | [.str s] => if s.length ≤ 1000000000 then some (.str (shaW s)) else none
  | _ => none
theorem t29 : ∀ args r, g29 args = some r → Told prog 29 args r := by
  intro args r h
  unfold g29 at h
  split at h <;> try (cases h; done)
  rename_i s
  split at h <;> try (cases h; done)
  rename_i hcond
  injection h with h; subst h
  refine told_fn (i := info 29) (n := 20000000) TTok LNumok mix fn29 po29 ?_
  obtain ⟨z, hz⟩ : ∃ z : Nat, (119 - s.length % 64) % 64 = z := ⟨_, rfl⟩
  have hz2 : z < 64 := by omega
  have e1 : ((s.length : Int)).tmod 64 = (s.length : Int) % 64 := tmod_pos (by omega)
  have e2 : IntKind.i64.wrap (119 - (s.length : Int) % 64) = 119 - (s.length : Int) % 64 := wi64 (by omega) (by omega)
  have e3 : (119 - (s.length : Int) % 64).tmod 64 = (z : Int) := by rw [tmod_pos (by omega)]; omega
  have e5 : IntKind.i64.wrap (8 * (s.length : Int)) = 8 * (s.length : Int) := wi64 (by omega) (by omega)
  have e6 : (z : Int) ≤ 1000000000 := by omega
  obtain ⟨T, hT⟩ : ∃ T, padW s = T := ⟨_, rfl⟩
  have hT2 : s ++ 128 :: (List.replicate z 0 ++ numB (8 * (s.length : Int)) 8) = T := by rw [← hT, padW, hz, lenB]; simp
  have hN := padW_length s
  have hM : (padW s).length ≤ 1000001000 := by
    simp only [padW, lenB, List.length_append, List.length_cons, List.length_nil, List.length_replicate, numB_length]
    omega
  have hsha : shaW s = outW (blocksW T (T.length / 64)) := by rw [shaW, hT]
  rw [hT] at hN hM
  obtain ⟨N, hNe⟩ : ∃ N, T.length / 64 = N := ⟨_, rfl⟩
  rw [hNe] at hN hsha
  rw [hsha]
  simp (config := {maxSteps := 10000000}) (disch := first | assumption | (simp; done) | (simp [numB_length]; done) | (simp [numB_length]; omega) | omega) [f29, Nat.testBit, e1, e2, e3, e5, e6, bytes_rep, gNum, hT2]
  rw [iter_to (shC T) N (by omega)]
  · have hr : ¬ (64 * (N : Int)) < T.length := by omega
    obtain ⟨x, hx⟩ : ∃ x, blocksW T N = x := ⟨_, rfl⟩
    simp [shC, hr, hx, W8.cells]
    rw [iter_to (shD x) 8 (by omega)]
    · have e : List.take 32 (outR x) = outR x := List.take_of_length_le (by simp [outR, numB_length])
      simp [shD, e, outR_W]
    · simp [shD, W8.cells]
    · intro i hi
      obtain rfl | rfl | rfl | rfl | rfl | rfl | rfl | rfl : i = 0 ∨ i = 1 ∨ i = 2 ∨ i = 3 ∨ i = 4 ∨ i = 5 ∨ i = 6 ∨ i = 7 := by omega
      all_goals simp [shD, W8.cells, outR, numB, gNum, g13]
    · simp [shD, stops]
  · simp [shC, blocksW, W8.cells, first8]
  · intro j hj
    obtain ⟨p, hp⟩ : ∃ p, 64 * j = p := ⟨_, rfl⟩
    have hp2 : 64 * (j + 1) = p + 64 := by omega
    have hb : blocksW T (j + 1) = mixW (blocksW T j) ((T.drop p).take 64) := by rw [blocksW, hp]
    have h1 : (p : Int) < T.length := by omega
    have h2 : (p : Int) + 64 ≤ T.length := by omega
    have h3 : (0 : Int) ≤ (p : Int) + 64 := by omega
    have h4 : (p : Int) ≤ (p : Int) + 64 := by omega
    have h5 : ((p : Int) + 64).toNat = p + 64 := by omega
    have h6 : 64 ≤ T.length - p := by omega
    have w1 : IntKind.i64.wrap ((p : Int) + 64) = (p : Int) + 64 := wi64 (by omega) (by omega)
    have r8 : ∀ x : W8, ∀ s, ref8 x.a.toNat x.b.toNat x.c.toNat x.d.toNat x.e.toNat x.f.toNat x.g.toNat x.h.toNat s = mixW x s := fun x s => by rw [ref8, w8_ok]
    have h7 : p < T.length := by omega
    have h8 : p + 64 ≤ T.length := by omega
    simp [shC, hp, hp2, hb, h1, h2, h3, h4, h5, h6, h7, h8, w1, r8, g49, W8.cells, W8.row, wds, wd]
  · have hr : ¬ (64 * (N : Int)) < T.length := by omega
    simp [shC, stops, hr]
noncomputable abbrev L29 := AM.ext LNum 29 g29
theorem L29ok : CallOK prog L29 := LNumok.ext fn29 (by kernel_rfl) t29
def tvC (k : List UInt8) (b : UInt8) (i : Nat) : St := ⟨[.str k, .int .u8 b.toNat, .any, .any, .any, .ref 0 0 64 1, .int .i64 i, .any, .any, .any, .any, .any, .any, .any, .any, .any, .any, .any, .any, .any, .any, .any, .any, .any, .any, .any, .any, .any, .any, .any], [(0, ⟨byC ((keyB k b).take i ++ List.replicate (64 - i) 0), 0, false⟩)], 1⟩
theorem keyB_length {k : List UInt8} (h : k.length ≤ 64) (b : UInt8) : (keyB k b).length = 64 := by simp [keyB]; omega
theorem keyB_get {k : List UInt8} (h : k.length ≤ 64) (b : UInt8) {i : Nat} (hi : i < 64) : (keyB k b)[i]? = some (if h : i < k.length then b ^^^ k[i] else b) := by
  simp only [keyB, List.getElem?_map]
  by_cases hk : i < k.length
  · simp [hk, List.getElem?_append, UInt8.xor_comm]
  · have : i - k.length < 64 - k.length := by omega
    simp [hk, List.getElem?_append, List.getElem?_replicate, this]
open Classical in
noncomputable def g30 : List AV → Option AV
  | [.str k, .int .u8 x] => if U8ok x ∧ k.length ≤ 32 then some (.str (keyB k (u8 x))) else none
  | _ => none
theorem t30 : ∀ args r, g30 args = some r → Told prog 30 args r := by
  intro args r h
  unfold g30 at h
  split at h <;> try (cases h; done)
  rename_i k x
  split at h <;> try (cases h; done)
  rename_i hcond
  injection h with h; subst h
  refine told_fn (i := info 30) (n := 70) TTok L29ok mix fn30 po30 ?_
  obtain ⟨⟨b, rfl⟩, hl⟩ := hcond
  simp [f30]
  rw [iter_to (tvC k b) 64 (by omega)]
  · have h1 := keyB_length (k := k) (by omega) b
    have e : List.take 64 (keyB k b) = keyB k b := List.take_of_length_le (by omega)
    have e2 : List.take 64 (byC (keyB k b)) = byC (keyB k b) := List.take_of_length_le (by simp [h1])
    simp [tvC, e, e2, h1]
  · simp [tvC, byC]
  · intro i hi
    have hi' : (i : Int) < 64 := by omega
    have w1 : IntKind.i64.wrap ((i : Int) + 1) = (i : Int) + 1 := wi64 (by omega) (by omega)
    have hK := keyB_length (k := k) (by omega) b
    obtain ⟨L, hL⟩ : ∃ L, (keyB k b).take i ++ List.replicate (64 - i) 0 = L := ⟨_, rfl⟩
    have hLl : L.length = 64 := by rw [← hL]; simp [hK]; omega
    have hLl2 : (L.set i b).length = 64 := by simp [hLl]
    have st1 := byC_set L i b (by omega)
    have hset : ∀ v, (keyB k b)[i]? = some v → L.set i v = (keyB k b).take (i + 1) ++ List.replicate (64 - (i + 1)) 0 := fun v hv => by
      rw [← hL, List.set_append_right _ _ (by simp only [List.length_take]; exact Nat.min_le_left _ _)]
      simp only [List.length_take, hK, Nat.min_eq_left (Nat.le_of_lt hi), Nat.sub_self]
      rw [show 64 - i = (64 - (i + 1)) + 1 by omega, List.replicate_succ, List.set_cons_zero]
      have hi2 : i < (keyB k b).length := by omega
      rw [List.take_succ_eq_append_getElem hi2]
      rw [List.getElem?_eq_getElem hi2] at hv
      rw [Option.some.inj hv]; simp
    have hg := keyB_get (k := k) (by omega) b hi
    by_cases hk : i < k.length
    · have hk' : (i : Int) < k.length := by omega
      rw [dif_pos hk] at hg
      have st2 := byC_set (L.set i b) i (b ^^^ k[i]) (by omega)
      rw [List.set_set, hset _ hg] at st2
      have hc : k[i]? = some k[i] := by simp [hk]
      have hk1 : i + 1 ≤ 64 := by omega
      simp [tvC, hL, hi, hi', w1, hLl, hLl2, st1, st2, hk, hk', hc, hk1]
    · have hk' : ¬ (i : Int) < k.length := by omega
      rw [dif_neg hk] at hg
      rw [hset _ hg] at st1
      have hk1 : i + 1 ≤ 64 := by omega
      simp [tvC, hL, hi, hi', w1, hLl, st1, hk, hk', hk1]
  · simp [tvC, stops]
noncomputable abbrev L30 := AM.ext L29 30 g30
theorem L30ok : CallOK prog L30 := L29ok.ext fn30 (by kernel_rfl) t30
open Classical in
noncomputable def g12 : List AV → Option AV
  | [.str k, .str s] => if s.length ≤ 10000000 then some (.tup (if inL 1 32 k then [.str (tagW k s), .int .i64 0] else [.str [], .int .i64 200])) else none
  | _ => none
theorem t12 : ∀ args r, g12 args = some r → Told prog 12 args r := by
  intro args r h
  unfold g12 at h
  split at h <;> try (cases h; done)
  rename_i k s
  split at h <;> try (cases h; done)
  rename_i hcond
  injection h with h; subst h
  refine told_fn (i := info 12) (n := 5) TTok L30ok mix fn12 po12 ?_
  have hcond' := hcond
  cases hk : inL 1 32 k
  · by_cases h1 : (k.length : Int) < 1
    · simp [f12, h1]
    · have h2 : (k.length : Int) > 32 := by
        simp [inL] at hk
        omega
      have h3 : 32 < k.length := by omega
      simp [f12, h1, h2, h3]
  · have h1 : 1 ≤ k.length ∧ k.length ≤ 32 := by simpa [inL] using hk
    have h2 : ¬ (k.length : Int) < 1 := by omega
    have h3 : ¬ (k.length : Int) > 32 := by omega
    have h4 : ¬ 32 < k.length := by omega
    have e3 : ∀ b, (keyB k b).length = 64 := fun b => keyB_length (by omega) b
    have f1 : 64 + s.length ≤ 1000000000 := by omega
    have f2 : (shaW (keyB k 54 ++ s)).length = 32 := shaW_length _
    simp (disch := first | assumption | (simp; done) | (simp [e3, f2]; done) | (simp [e3, f2]; omega) | omega) [f12, h1.1, h1.2, h2, h3, h4, g30, g29, e3, f1, f2, tagW]
noncomputable abbrev L12 := AM.ext L30 12 g12
theorem L12ok : CallOK prog L12 := L30ok.ext fn12 (by kernel_rfl) t12
end Go.AM.Try

