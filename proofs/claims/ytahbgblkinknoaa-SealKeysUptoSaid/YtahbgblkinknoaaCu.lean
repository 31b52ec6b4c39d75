/- The law on another secret. -/
import Derived.Test.YtahbgblkinknoaaCm
import Derived.Test.YtahbgblkinknoaaCt
set_option linter.unusedSimpArgs false
set_option linter.unusedVariables false
set_option maxRecDepth 100000
set_option maxHeartbeats 4000000
namespace Go.AM.Try
open Go.Proofs.Try
attribute [-simp] strA
attribute [simp] strA_addc strA_eql strA_neq
theorem ii_255 (x : Int) : intA .and .i64 x 255 = some (.int .i64 (x % 256)) := ii_and x 8 (by omega)
theorem fdd (x : Int) (a b : Nat) (ha : 0 < a) (hb : 0 < b) : (x.fdiv (a : Int)).fdiv (b : Int) = x.fdiv ((a * b : Nat) : Int) := by
  rw [Int.fdiv_eq_ediv_of_nonneg _ (by omega), Int.fdiv_eq_ediv_of_nonneg _ (by omega), Int.fdiv_eq_ediv_of_nonneg _ (by omega), Int.ediv_ediv_of_nonneg (by omega)]
  simp
theorem numB4 (x : Int) : numB x 4 = four x := by
  have h1 : (x.fdiv 65536).fdiv 256 = x.fdiv 16777216 := fdd x 65536 256 (by omega) (by omega)
  have h0 : x.fdiv 1 = x := by rw [Int.fdiv_eq_ediv_of_nonneg _ (by omega)]; simp
  simp [numB, four, two, h1, h0]
theorem unB_ge (t r : Int) (h : List Int) (ls : List Lsa) (hs : List Hd) (k b c : Int) : 24 ≤ (unB t r h ls hs k b c).length ∧ (unB t r h ls hs k b c).length ≤ 109 := by
  have hh : (headB t r (12 + ((listB t h ls hs).length : Int))).length = 12 := rfl
  have hn : (numsB k b c).length = 12 := rfl
  have := listB_le t h ls hs
  unfold unB pkB
  rw [List.length_append, List.length_append, hh, hn]
  omega
noncomputable abbrev X13_26 := AM.ext L4 13 gNum
theorem X13_26ok : CallOK prog X13_26 := L4ok.ext fn13 (by kernel_rfl) tNum
noncomputable abbrev X12_27 := AM.ext X13_26 12 g12
theorem X12_27ok : CallOK prog X12_27 := X13_26ok.ext fn12 (by kernel_rfl) t12
theorem sealMay_key (t r : Int) (h : List Int) (ls : List Lsa) (hs : List Hd) (s : List UInt8) (b : Int) (hb : 1 ≤ b ∧ b ≤ 4294967295) : sealMay t r h ls hs 7 s 0 99 0 99 b 1 = (pkMay t r h ls hs && inL 1 32 s) := by
  have h1 : inR 1 4294967295 b = true := by simp [inR, hb.1, hb.2]
  have h2 : inR 0 255 7 = true := by decide
  have h3 : inR 0 1048576 0 = true := by decide
  have h4 : inR 0 1048576 99 = true := by decide
  have h5 : inR 1 4294967295 1 = true := by decide
  simp [sealMay, keyMay, h1, h2, h3, h4, h5]
open Classical in
noncomputable def g6 : List AV → Option AV
  | [.agg [.int .i64 t, .int .i64 r, h, ls, hs], .str s, .int .i64 x] => if okInts h ∧ okLsas ls ∧ okHeads hs then some (.bool true) else none
  | _ => none
theorem t6 : ∀ args r, g6 args = some r → Told prog 6 args r := by
  intro args r h
  unfold g6 at h
  split at h <;> try (cases h; done)
  rename_i t r h ls hs s x
  split at h <;> try (cases h; done)
  rename_i hcond
  injection h with h; subst h
  obtain ⟨⟨hc, hb⟩, ⟨hc2, hb2, hsm⟩, hc3, hb3⟩ := hcond
  obtain ⟨l, hl⟩ : ∃ l, unInts h = l := ⟨_, rfl⟩
  obtain ⟨m, hm⟩ : ∃ l, unLsas ls = l := ⟨_, rfl⟩
  obtain ⟨n, hn⟩ : ∃ l, unHeads hs = l := ⟨_, rfl⟩
  unfold isInts at hc
  unfold isLsas at hc2
  unfold isHeads at hc3
  rw [hl] at hc hb
  rw [hm] at hc2 hb2 hsm
  rw [hn] at hc3 hb3
  refine Told.le (.cons (.agg (.cons (.refl _) (.cons (.refl _) (.cons hc (.cons hc2 (.cons hc3 .nil)))))) (.cons (.refl _) (.cons (.refl _) .nil))) ?_
  refine told_fn (i := info 6) (n := 5) TTok X12_27ok mix fn6 po6 ?_
  obtain ⟨b, hbe⟩ : ∃ b, 1 + x % 256 = b := ⟨_, rfl⟩
  have hb1 : 1 ≤ b ∧ b ≤ 4294967295 := by omega
  have w0 : IntKind.i64.wrap (1 + x % 256) = b := by rw [hbe]; exact wi64 (by omega) (by omega)
  have k0 : inL 1 32 secB = true := by decide
  have s1 := sealMay_key t r l m n secB b hb1
  have s2 := sealMay_key t r l m n s b hb1
  rw [k0] at s1
  cases hp : pkMay t r l m n
  · have hp2 := pkMay_eq t r l m n
    rw [hp] at hp2
    rw [hp] at s1 s2
    simp only [Bool.false_and] at s1 s2
    simp [f6, intsV, lsaV, headV, hb, hb2, hsm, hb3, g7, g15, g8, g9, g16, ii_255, -intA_and_i64, w0, s1, s2, ← hp2]
  rw [hp] at s1 s2
  simp only [Bool.true_and] at s1 s2
  have hp2 := pkMay_eq t r l m n
  rw [hp] at hp2
  cases hs : inL 1 32 s
  · rw [hs] at s2
    by_cases h1 : (s.length : Int) < 1
    · simp [f6, intsV, lsaV, headV, hb, hb2, hsm, hb3, g7, g15, g8, g9, g16, ii_255, -intA_and_i64, w0, s1, s2, ← hp2, h1]
    · have h2 : (s.length : Int) > 32 := by
        simp [inL] at hs
        omega
      have h3 : 32 < s.length := by omega
      simp [f6, intsV, lsaV, headV, hb, hb2, hsm, hb3, g7, g15, g8, g9, g16, ii_255, -intA_and_i64, w0, s1, s2, ← hp2, h1, h2, h3]
  rw [hs] at s2
  obtain ⟨U, hU⟩ : ∃ U, unB t r l m n 7 b 1 = U := ⟨_, rfl⟩
  have hUl := unB_ge t r l m n 7 b 1
  rw [hU] at hUl
  have e1 : sealB t r l m n 7 secB b 1 = U ++ tagW secB (U ++ four r) := by rw [sealB, hU, signB, if_pos k0]
  have e2 : sealB t r l m n 7 s b 1 = U ++ tagW s (U ++ four r) := by rw [sealB, hU, signB, if_pos hs]
  have hf : (four r).length = 4 := rfl
  obtain ⟨V1, hV1⟩ : ∃ V, tagW secB (U ++ four r) = V := ⟨_, rfl⟩
  obtain ⟨V2, hV2⟩ : ∃ V, tagW s (U ++ four r) = V := ⟨_, rfl⟩
  have l1 : V1.length = 32 := by rw [← hV1]; exact tagW_length _ _
  have l2 : V2.length = 32 := by rw [← hV2]; exact tagW_length _ _
  rw [hV1] at e1
  rw [hV2] at e2
  have c1 : ¬ (U.length : Int) + 32 < 44 := by omega
  have c2 : U.length + 4 ≤ 10000000 := by omega
  have c3 : (U.length : Int) ≤ (U.length : Int) + 32 := by omega
  have c4 : (0 : Int) ≤ (U.length : Int) + 32 := by omega
  have c5 : ((U.length : Int) + 32).toNat = U.length + 32 := by omega
  have c6 : List.take 32 V2 = V2 := List.take_of_length_le (by omega)
  have w2 : IntKind.i64.wrap (U.length : Int) = (U.length : Int) := wi64 (by omega) (by omega)
  simp (disch := first | assumption | (simp; done) | (simp [l1, l2, hf]; done) | (simp [l1, l2, hf]; omega) | omega) [f6, intsV, lsaV, headV, hb, hb2, hsm, hb3, g7, g15, g8, g9, ii_255, -intA_and_i64, w0, s1, s2, e1, e2, l1, l2, c1, c2, c3, c4, c5, c6, w2, gNum, g13, numB4, hf, g12, hs, hV2]
noncomputable abbrev L6 := AM.ext X12_27 6 g6
theorem L6ok : CallOK prog L6 := X12_27ok.ext fn6 (by kernel_rfl) t6
end Go.AM.Try

