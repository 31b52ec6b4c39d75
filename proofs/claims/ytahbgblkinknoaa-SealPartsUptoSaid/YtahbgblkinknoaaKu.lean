import Derived.Test.YtahbgblkinknoaaCl
import Derived.Test.YtahbgblkinknoaaWk
import Derived.Test.YtahbgblkinknoaaCt
/- What both laws and the gate stand on: bytes of numbers; numbers and tags of the document's own answer are known too. -/
set_option linter.unusedSimpArgs false
set_option linter.unusedVariables false
set_option maxRecDepth 100000
set_option maxHeartbeats 4000000
namespace Go.AM.Try
open Go.Proofs.Try
attribute [-simp] strA
attribute [simp] strA_addc strA_eql strA_neq
theorem fdd (x : Int) (a b : Nat) (ha : 0 < a) (hb : 0 < b) : (x.fdiv (a : Int)).fdiv (b : Int) = x.fdiv ((a * b : Nat) : Int) := by
  rw [Int.fdiv_eq_ediv_of_nonneg _ (by omega), Int.fdiv_eq_ediv_of_nonneg _ (by omega), Int.fdiv_eq_ediv_of_nonneg _ (by omega), Int.ediv_ediv_of_nonneg (by omega)]
  simp
theorem numB4 (x : Int) : numB x 4 = four x := by
  have h1 : (x.fdiv 65536).fdiv 256 = x.fdiv 16777216 := fdd x 65536 256 (by omega) (by omega)
  have h0 : x.fdiv 1 = x := by rw [Int.fdiv_eq_ediv_of_nonneg _ (by omega)]; simp
  simp [numB, four, two, h1, h0]
theorem unB_ge (t r : Int) (h : List Int) (ls : List Lsa) (hs : List Hd) (k b c : Int) : 24 ≤ (unB t r h ls hs k b c).length ∧ (unB t r h ls hs k b c).length ≤ 109 := by
  have hh : (headB t r (12 + ((listB t h ls hs).length : Int))).length = 12 := rfl
  have hn : (numsB k b c).length = 12 := rfl
  have := listB_le t h ls hs
  unfold unB pkB
  rw [List.length_append, List.length_append, hh, hn]
  omega
noncomputable abbrev X13_26 := AM.ext L8 13 gNum
theorem X13_26ok : CallOK prog X13_26 := L8ok.ext fn13 (by kernel_rfl) tNum
noncomputable abbrev X12_27 := AM.ext X13_26 12 g12
theorem X12_27ok : CallOK prog X12_27 := X13_26ok.ext fn12 (by kernel_rfl) t12
noncomputable abbrev LK0 : Know := X12_27
theorem LK0ok : CallOK prog LK0 := X12_27ok
end Go.AM.Try

