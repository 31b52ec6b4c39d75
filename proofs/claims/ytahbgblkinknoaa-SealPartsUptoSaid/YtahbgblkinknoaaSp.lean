import Derived.Test.YtahbgblkinknoaaCm
import Derived.Test.YtahbgblkinknoaaSm
import Derived.Test.YtahbgblkinknoaaDi
import Derived.Test.YtahbgblkinknoaaDp
/- The law on what is sealed. -/
set_option linter.unusedSimpArgs false
set_option linter.unusedVariables false
set_option maxRecDepth 100000
set_option maxHeartbeats 4000000
namespace Go.AM.Try
open Go.Proofs.Try
attribute [-simp] strA
attribute [simp] strA_addc strA_eql strA_neq
noncomputable abbrev X14_13 := AM.ext known0 14 g14
theorem X14_13ok : CallOK prog X14_13 := (known0_ok _).ext fn14 (by kernel_rfl) t14
noncomputable abbrev X12_14 := AM.ext X14_13 12 g12
theorem X12_14ok : CallOK prog X12_14 := X14_13ok.ext fn12 (by kernel_rfl) t12
noncomputable abbrev X13_15 := AM.ext X12_14 13 gNum
theorem X13_15ok : CallOK prog X13_15 := X12_14ok.ext fn13 (by kernel_rfl) tNum
noncomputable abbrev X11_16 := AM.ext X13_15 11 g11
theorem X11_16ok : CallOK prog X11_16 := X13_15ok.ext fn11 (by kernel_rfl) t11
noncomputable abbrev X10_17 := AM.ext X11_16 10 gGetPacket
theorem X10_17ok : CallOK prog X10_17 := X11_16ok.ext fn10 (by kernel_rfl) tGetPacket
noncomputable abbrev X9_18 := AM.ext X10_17 9 g9
theorem X9_18ok : CallOK prog X9_18 := X10_17ok.ext fn9 (by kernel_rfl) t9
noncomputable abbrev X8_19 := AM.ext X9_18 8 g8
theorem X8_19ok : CallOK prog X8_19 := X9_18ok.ext fn8 (by kernel_rfl) t8
noncomputable abbrev X7_20 := AM.ext X8_19 7 g7
theorem X7_20ok : CallOK prog X7_20 := X8_19ok.ext fn7 (by kernel_rfl) t7
open Classical in
noncomputable def g3 : List AV → Option AV
  | [.agg [.int .i64 t, .int .i64 r, h, ls, hs], .agg [.int .i64 ka, .str ks, .int .i64 kb, .int .i64 kc, .int .i64 kd, .int .i64 ke], .int .i64 b, .int .i64 c] => if okInts h ∧ okLsas ls ∧ okHeads hs then some (.bool true) else none
  | _ => none
theorem t3 : ∀ args r, g3 args = some r → Told prog 3 args r := by
  intro args r h
  unfold g3 at h
  split at h <;> try (cases h; done)
  rename_i t r h ls hs ka ks kb kc kd ke b c
  split at h <;> try (cases h; done)
  rename_i hcond
  injection h with h; subst h
  obtain ⟨⟨hc, hb⟩, ⟨hc2, hb2, hsm⟩, hc3, hb3⟩ := hcond
  obtain ⟨l, hl⟩ : ∃ l, unInts h = l := ⟨_, rfl⟩
  obtain ⟨m, hm⟩ : ∃ l, unLsas ls = l := ⟨_, rfl⟩
  obtain ⟨n, hn⟩ : ∃ l, unHeads hs = l := ⟨_, rfl⟩
  unfold isInts at hc
  unfold isLsas at hc2
  unfold isHeads at hc3
  rw [hl] at hc hb
  rw [hm] at hc2 hb2 hsm
  rw [hn] at hc3 hb3
  refine Told.le (.cons (.agg (.cons (.refl _) (.cons (.refl _) (.cons hc (.cons hc2 (.cons hc3 .nil)))))) (AVles.refl _)) ?_
  refine told_fn (i := info 3) (n := 5) TTok X7_20ok mix fn3 po3 ?_
  cases hs : sealMay t r l m n ka ks kb kc kd ke b c
  · simp [f3, intsV, lsaV, headV, hb, hb2, hsm, hb3, g7, g8, g9, hs]
  have hs' := hs
  simp only [sealMay, Bool.and_eq_true, keyMay] at hs'
  obtain ⟨hp, ⟨hka, hks, _⟩, hbb, hcc⟩ := hs'
  obtain ⟨q1, q2, q3, q4, q5, q6⟩ := packet_of hp
  obtain ⟨U, hU⟩ : ∃ U, pkB t r l m n = U := ⟨_, rfl⟩
  rw [hU] at q1 q2 q3 q4 q5 q6
  have hUl : 12 ≤ U.length ∧ U.length ≤ 97 := by
    rw [← hU]
    have hh : (headB t r (12 + ((listB t l m n).length : Int))).length = 12 := rfl
    have := listB_le t l m n
    unfold pkB
    rw [List.length_append, hh]
    omega
  obtain ⟨T0, hT⟩ : ∃ T0, tagW ks (U ++ numsB ka b c ++ four r) = T0 := ⟨_, rfl⟩
  have hT32 : T0.length = 32 := by rw [← hT]; exact tagW_length _ _
  have hn12 : (numsB ka b c).length = 12 := rfl
  have htm : trMay ka b c T0 = true := by
    unfold trMay
    rw [hka, hbb, hcc, hT32]; rfl
  obtain ⟨g1, g2, g3, g4, g5⟩ := trail_of htm
  obtain ⟨Y, hY⟩ : ∃ Y, trB ka b c T0 = Y := ⟨_, rfl⟩
  rw [hY] at g1 g2 g3 g4 g5
  have hYl : Y.length = 44 := by rw [← hY, trB, List.length_append, hn12, hT32]
  have e1 : sealB t r l m n ka ks b c = U ++ Y := by
    rw [sealB, unB, hU, signB, if_pos hks, hT, ← hY, trB, List.append_assoc]
  have e2 : List.take (U.length + 12) (U ++ Y) = U ++ numsB ka b c := by
    rw [← hY, trB, ← List.append_assoc]
    exact List.take_left' (by rw [List.length_append, hn12])
  have f1 : (four r).length = 4 := rfl
  have c0 : ¬ (U.length : Int) + 44 < 44 := by omega
  have w0 : IntKind.i64.wrap (U.length : Int) = (U.length : Int) := wi64 (by omega) (by omega)
  have w1 : IntKind.i64.wrap ((U.length : Int) + 44 - 44) = (U.length : Int) := (wi64 (by omega) (by omega)).trans (by omega)
  have w2 : IntKind.i64.wrap ((U.length : Int) + 44 - 32) = (U.length : Int) + 12 := (wi64 (by omega) (by omega)).trans (by omega)
  have w3 : IntKind.i64.wrap ((U.length : Int) + 12) = (U.length : Int) + 12 := wi64 (by omega) (by omega)
  have c1 : (U.length : Int) ≤ (U.length : Int) + 44 := by omega
  have c2 : (0 : Int) ≤ (U.length : Int) + 12 := by omega
  have c3 : (U.length : Int) + 12 ≤ (U.length : Int) + 44 := by omega
  have c4 : ((U.length : Int) + 12).toNat = U.length + 12 := by omega
  have c5 : U.length + 12 + 4 ≤ 10000000 := by omega
  have c6 : U.length ≤ 10000000 := by omega
  have c7 : ((U.length : Int) + 44).toNat - U.length = 44 := by omega
  have c8 : (0 : Int) ≤ (U.length : Int) + 44 := by omega
  have c9 : List.take 44 Y = Y := List.take_of_length_le (by omega)
  have sA : strA .add (U ++ numsB ka b c) (four r) = some (.str (U ++ numsB ka b c ++ four r)) := strA_addc (by rw [List.length_append, hn12, f1]; omega)
  have hT' : tagW ks (U ++ (numsB ka b c ++ four r)) = T0 := by rw [← List.append_assoc]; exact hT
  have c10 : U.length + (12 + 4) ≤ 10000000 := by omega
  have sm := (samePk_iff t r l m n t r l m n).2 ⟨rfl, rfl, rfl, rfl, rfl⟩
  simp (maxSteps := 1000000) [f3, intsV, lsaV, headV, hb, hb2, hsm, hb3, g7, g8, g9, hs, e1, c0, w0, w1, w2, w3, c1, c2, c3, c4, c5, c6, c7, c8, c9, c10, sA, hT', gGetPacket, q1, q2, q3, q4, q5, q6, g11, hYl, g1, g2, g3, g4, g5, e2, hn12, gNum, g13, numB4, f1, g12, hks, hT, g14, sm]
noncomputable abbrev L3 := AM.ext X7_20 3 g3
theorem L3ok : CallOK prog L3 := X7_20ok.ext fn3 (by kernel_rfl) t3
end Go.AM.Try

