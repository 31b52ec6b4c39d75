import Derived.Test.YtahbgblkinknoaaCv
import Derived.Test.YtahbgblkinknoaaIn
/- The same is the same. -/
set_option linter.unusedSimpArgs false
set_option linter.unusedVariables false
set_option maxRecDepth 100000
set_option maxHeartbeats 4000000
namespace Go.AM.Try
open Go.Proofs.Try
attribute [-simp] strA
attribute [simp] strA_addc strA_eql strA_neq
theorem sameI_iff (a b : List Int) : sameI a b = true ↔ a = b := by
  simp only [sameI, Bool.and_eq_true, decide_eq_true_eq]
  constructor
  · rintro ⟨h1, h2⟩
    refine List.ext_getElem h1 fun i hi hj => ?_
    have := allTo_iff.1 h2 i hi
    simpa [eqI, iat, hi, hj] using this
  · rintro rfl
    exact ⟨rfl, allTo_iff.2 fun i _ => by simp [eqI]⟩
theorem Lk.ext' : ∀ x y : Lk, x.to = y.to → x.cost = y.cost → x = y := fun x y h1 h2 => by cases x; cases y; simp only at h1 h2; rw [h1, h2]
theorem Hd.ext' : ∀ x y : Hd, x.router = y.router → x.serial = y.serial → x.age = y.age → x.sum = y.sum → x = y := fun x y h1 h2 h3 h4 => by cases x; cases y; simp only at h1 h2 h3 h4; rw [h1, h2, h3, h4]
theorem sameL_iff (a b : List Lk) : sameL a b = true ↔ a = b := by
  simp only [sameL, Bool.and_eq_true, decide_eq_true_eq]
  constructor
  · rintro ⟨h1, h2⟩
    refine List.ext_getElem h1 fun i hi hj => ?_
    have := allTo_iff.1 h2 i hi
    simp only [eqL, Bool.and_eq_true, decide_eq_true_eq] at this
    have e := Lk.ext' _ _ this.1 this.2
    simpa [lat, hi, hj] using e
  · rintro rfl
    exact ⟨rfl, allTo_iff.2 fun i _ => by simp [eqL]⟩
theorem sameH_iff (a b : List Hd) : sameH a b = true ↔ a = b := by
  simp only [sameH, Bool.and_eq_true, decide_eq_true_eq]
  constructor
  · rintro ⟨h1, h2⟩
    refine List.ext_getElem h1 fun i hi hj => ?_
    have := allTo_iff.1 h2 i hi
    simp only [eqH, Bool.and_eq_true, decide_eq_true_eq] at this
    have e := Hd.ext' _ _ this.1 this.2.1 this.2.2.1 this.2.2.2
    simpa [hat, hi, hj] using e
  · rintro rfl
    exact ⟨rfl, allTo_iff.2 fun i _ => by simp [eqH]⟩
theorem same1_iff (a b : Lsa) : same1 a b = true ↔ a = b := by
  simp only [same1, Bool.and_eq_true, decide_eq_true_eq, sameL_iff]
  constructor
  · rintro ⟨h1, h2, h3, h4⟩
    cases a; cases b
    simp only at h1 h2 h3 h4
    rw [h1, h2, h3, h4]
  · rintro rfl
    exact ⟨rfl, rfl, rfl, rfl⟩
theorem sameA_iff (a b : List Lsa) : sameA a b = true ↔ a = b := by
  simp only [sameA, Bool.and_eq_true, decide_eq_true_eq]
  constructor
  · rintro ⟨h1, h2⟩
    refine List.ext_getElem h1 fun i hi hj => ?_
    have := allTo_iff.1 h2 i hi
    have e := (same1_iff _ _).1 this
    simpa [aat, hi, hj] using e
  · rintro rfl
    exact ⟨rfl, allTo_iff.2 fun i _ => (same1_iff _ _).2 rfl⟩
theorem samePk_iff (t r : Int) (l : List Int) (m : List Lsa) (n : List Hd) (t2 r2 : Int) (l2 : List Int) (m2 : List Lsa) (n2 : List Hd) :
    samePk t r l m n t2 r2 l2 m2 n2 = true ↔ t = t2 ∧ r = r2 ∧ l = l2 ∧ m = m2 ∧ n = n2 := by
  simp only [samePk, Bool.and_eq_true, decide_eq_true_eq, sameI_iff, sameA_iff, sameH_iff]
end Go.AM.Try

