/- The law on unlike packets. -/
import Derived.Test.YtahbgblkinknoaaCv
import Derived.Test.YtahbgblkinknoaaIn
set_option linter.unusedSimpArgs false
set_option linter.unusedVariables false
set_option maxRecDepth 100000
set_option maxHeartbeats 4000000
namespace Go.AM.Try
open Go.Proofs.Try
attribute [-simp] strA
attribute [simp] strA_addc strA_eql strA_neq
theorem sameI_iff (a b : List Int) : sameI a b = true ↔ a = b := by
  simp only [sameI, Bool.and_eq_true, decide_eq_true_eq]
  constructor
  · rintro ⟨h1, h2⟩
    refine List.ext_getElem h1 fun i hi hj => ?_
    have := allTo_iff.1 h2 i hi
    simpa [eqI, iat, hi, hj] using this
  · rintro rfl
    exact ⟨rfl, allTo_iff.2 fun i _ => by simp [eqI]⟩
theorem Lk.ext' : ∀ x y : Lk, x.to = y.to → x.cost = y.cost → x = y := fun x y h1 h2 => by cases x; cases y; simp only at h1 h2; rw [h1, h2]
theorem Hd.ext' : ∀ x y : Hd, x.router = y.router → x.serial = y.serial → x.age = y.age → x.sum = y.sum → x = y := fun x y h1 h2 h3 h4 => by cases x; cases y; simp only at h1 h2 h3 h4; rw [h1, h2, h3, h4]
theorem sameL_iff (a b : List Lk) : sameL a b = true ↔ a = b := by
  simp only [sameL, Bool.and_eq_true, decide_eq_true_eq]
  constructor
  · rintro ⟨h1, h2⟩
    refine List.ext_getElem h1 fun i hi hj => ?_
    have := allTo_iff.1 h2 i hi
    simp only [eqL, Bool.and_eq_true, decide_eq_true_eq] at this
    have e := Lk.ext' _ _ this.1 this.2
    simpa [lat, hi, hj] using e
  · rintro rfl
    exact ⟨rfl, allTo_iff.2 fun i _ => by simp [eqL]⟩
theorem sameH_iff (a b : List Hd) : sameH a b = true ↔ a = b := by
  simp only [sameH, Bool.and_eq_true, decide_eq_true_eq]
  constructor
  · rintro ⟨h1, h2⟩
    refine List.ext_getElem h1 fun i hi hj => ?_
    have := allTo_iff.1 h2 i hi
    simp only [eqH, Bool.and_eq_true, decide_eq_true_eq] at this
    have e := Hd.ext' _ _ this.1 this.2.1 this.2.2.1 this.2.2.2
    simpa [hat, hi, hj] using e
  · rintro rfl
    exact ⟨rfl, allTo_iff.2 fun i _ => by simp [eqH]⟩
theorem same1_iff (a b : Lsa) : same1 a b = true ↔ a = b := by
  simp only [same1, Bool.and_eq_true, decide_eq_true_eq, sameL_iff]
  constructor
  · rintro ⟨h1, h2, h3, h4⟩
    cases a; cases b
    simp only at h1 h2 h3 h4
    rw [h1, h2, h3, h4]
  · rintro rfl
    exact ⟨rfl, rfl, rfl, rfl⟩
theorem sameA_iff (a b : List Lsa) : sameA a b = true ↔ a = b := by
  simp only [sameA, Bool.and_eq_true, decide_eq_true_eq]
  constructor
  · rintro ⟨h1, h2⟩
    refine List.ext_getElem h1 fun i hi hj => ?_
    have := allTo_iff.1 h2 i hi
    have e := (same1_iff _ _).1 this
    simpa [aat, hi, hj] using e
  · rintro rfl
    exact ⟨rfl, allTo_iff.2 fun i _ => (same1_iff _ _).2 rfl⟩
theorem samePk_iff (t r : Int) (l : List Int) (m : List Lsa) (n : List Hd) (t2 r2 : Int) (l2 : List Int) (m2 : List Lsa) (n2 : List Hd) :
    samePk t r l m n t2 r2 l2 m2 n2 = true ↔ t = t2 ∧ r = r2 ∧ l = l2 ∧ m = m2 ∧ n = n2 := by
  simp only [samePk, Bool.and_eq_true, decide_eq_true_eq, sameI_iff, sameA_iff, sameH_iff]
theorem sealMay_two (t r : Int) (h : List Int) (ls : List Lsa) (hs : List Hd) (b c : Int) (hb : 1 ≤ b ∧ b ≤ 1024) (hc : 1 ≤ c ∧ c ≤ 1024) : sealMay t r h ls hs 7 secB 0 99 0 99 b c = pkMay t r h ls hs := by
  have h1 : inR 1 4294967295 b = true := by simp [inR]; omega
  have h2 : inR 1 4294967295 c = true := by simp [inR]; omega
  have h3 : keyMay 7 secB 0 99 0 99 = true := by decide
  simp [sealMay, h1, h2, h3]
theorem unB_le (t r : Int) (h : List Int) (ls : List Lsa) (hs : List Hd) (k b c : Int) : 24 ≤ (unB t r h ls hs k b c).length ∧ (unB t r h ls hs k b c).length ≤ 109 := by
  have hh : (headB t r (12 + ((listB t h ls hs).length : Int))).length = 12 := rfl
  have hn : (numsB k b c).length = 12 := rfl
  have := listB_le t h ls hs
  unfold unB pkB
  rw [List.length_append, List.length_append, hh, hn]
  omega
open Classical in
noncomputable def g5 : List AV → Option AV
  | [.agg [.int .i64 t, .int .i64 r, h, ls, hs], .agg [.int .i64 t2, .int .i64 r2, h2, ls2, hs2], .int .i64 a, .int .i64 b] => if (okInts h ∧ okLsas ls ∧ okHeads hs) ∧ okInts h2 ∧ okLsas ls2 ∧ okHeads hs2 then some (.bool true) else none
  | _ => none
theorem t5 : ∀ args r, g5 args = some r → Told prog 5 args r := by
  intro args r h
  unfold g5 at h
  split at h <;> try (cases h; done)
  rename_i t r h ls hs t2 r2 h2 ls2 hs2 a b
  split at h <;> try (cases h; done)
  rename_i hcond
  injection h with h; subst h
  obtain ⟨⟨⟨hc, hb⟩, ⟨hc2, hb2, hsm⟩, hc3, hb3⟩, ⟨kc, kb⟩, ⟨kc2, kb2, ksm⟩, kc3, kb3⟩ := hcond
  obtain ⟨l, hl⟩ : ∃ l, unInts h = l := ⟨_, rfl⟩
  obtain ⟨m, hm⟩ : ∃ l, unLsas ls = l := ⟨_, rfl⟩
  obtain ⟨n, hn⟩ : ∃ l, unHeads hs = l := ⟨_, rfl⟩
  obtain ⟨l2, kl⟩ : ∃ l, unInts h2 = l := ⟨_, rfl⟩
  obtain ⟨m2, km⟩ : ∃ l, unLsas ls2 = l := ⟨_, rfl⟩
  obtain ⟨n2, kn⟩ : ∃ l, unHeads hs2 = l := ⟨_, rfl⟩
  unfold isInts at hc kc
  unfold isLsas at hc2 kc2
  unfold isHeads at hc3 kc3
  rw [hl] at hc hb
  rw [hm] at hc2 hb2 hsm
  rw [hn] at hc3 hb3
  rw [kl] at kc kb
  rw [km] at kc2 kb2 ksm
  rw [kn] at kc3 kb3
  refine Told.le (.cons (.agg (.cons (.refl _) (.cons (.refl _) (.cons hc (.cons hc2 (.cons hc3 .nil)))))) (.cons (.agg (.cons (.refl _) (.cons (.refl _) (.cons kc (.cons kc2 (.cons kc3 .nil)))))) (.cons (.refl _) (.cons (.refl _) .nil)))) ?_
  refine told_fn (i := info 5) (n := 5) TTok L14ok mix fn5 po5 ?_
  obtain ⟨x, hxe⟩ : ∃ x, 1 + a % 1024 = x := ⟨_, rfl⟩
  obtain ⟨y, hye⟩ : ∃ y, 1 + b % 1024 = y := ⟨_, rfl⟩
  have hx : 1 ≤ x ∧ x ≤ 1024 := by omega
  have hy : 1 ≤ y ∧ y ≤ 1024 := by omega
  have w1 : IntKind.i64.wrap (1 + a % 1024) = x := by rw [hxe]; exact wi64 (by omega) (by omega)
  have w2 : IntKind.i64.wrap (1 + b % 1024) = y := by rw [hye]; exact wi64 (by omega) (by omega)
  have s1 := sealMay_two t r l m n x y hx hy
  have s2 := sealMay_two t2 r2 l2 m2 n2 y x hy hx
  have q1 := pkMay_eq t r l m n
  obtain ⟨U1, hU1⟩ : ∃ U, unB t r l m n 7 x y = U := ⟨_, rfl⟩
  obtain ⟨U2, hU2⟩ : ∃ U, unB t2 r2 l2 m2 n2 7 y x = U := ⟨_, rfl⟩
  have g1 := unB_le t r l m n 7 x y
  have g2 := unB_le t2 r2 l2 m2 n2 7 y x
  rw [hU1] at g1
  rw [hU2] at g2
  have k0 : inL 1 32 secB = true := by decide
  obtain ⟨V1, hV1⟩ : ∃ V, tagW secB (U1 ++ four r) = V := ⟨_, rfl⟩
  obtain ⟨V2, hV2⟩ : ∃ V, tagW secB (U2 ++ four r2) = V := ⟨_, rfl⟩
  have l1 : V1.length = 32 := by rw [← hV1]; exact tagW_length _ _
  have l2' : V2.length = 32 := by rw [← hV2]; exact tagW_length _ _
  have e1 : sealB t r l m n 7 secB x y = U1 ++ V1 := by rw [sealB, hU1, signB, if_pos k0, hV1]
  have e2 : sealB t2 r2 l2 m2 n2 7 secB y x = U2 ++ V2 := by rw [sealB, hU2, signB, if_pos k0, hV2]
  have n1 : U1 ≠ [] := by intro e; rw [e] at g1; simp at g1
  have n2' : U2 ≠ [] := by intro e; rw [e] at g2; simp at g2
  have p1 : ¬ (U1.length : Int) + 32 < 44 := by omega
  have p2 : ¬ (U2.length : Int) + 32 < 44 := by omega
  have c1 : (U1.length : Int) ≤ (U1.length : Int) + 32 := by omega
  have c2 : (U2.length : Int) ≤ (U2.length : Int) + 32 := by omega
  cases hp : pkMay t r l m n
  · cases hq : pkMay t2 r2 l2 m2 n2
    · rw [hp] at s1; rw [hq] at s2
      simp (config := {maxSteps := 10000000}) [f5, intsV, lsaV, headV, hb, hb2, hsm, hb3, kb, kb2, ksm, kb3, g7, g15, g8, g9, ii_1023, -intA_and_i64, w1, w2, s1, s2]
    · rw [hp] at s1; rw [hq] at s2
      simp (config := {maxSteps := 10000000}) [f5, intsV, lsaV, headV, hb, hb2, hsm, hb3, kb, kb2, ksm, kb3, g7, g15, g8, g9, ii_1023, -intA_and_i64, w1, w2, s1, s2, e2]
  · cases hq : pkMay t2 r2 l2 m2 n2
    · rw [hp] at s1; rw [hq] at s2
      simp (config := {maxSteps := 10000000}) [f5, intsV, lsaV, headV, hb, hb2, hsm, hb3, kb, kb2, ksm, kb3, g7, g15, g8, g9, ii_1023, -intA_and_i64, w1, w2, s1, s2, e1]
    · rw [hp] at s1 q1; rw [hq] at s2
      have inj := un_inj (t := t) (r := r) (l := l) (m := m) (n := n) (t2 := t2) (r2 := r2) (l2 := l2) (m2 := m2) (n2 := n2) hx hy hp hq
      rw [hU1, hU2] at inj
      have key : (U1 == U2) = (samePk t r l m n t2 r2 l2 m2 n2 && decide (x = y)) := by
        by_cases hE : U1 = U2
        · obtain ⟨h1, h2⟩ := inj hE
          have := (samePk_iff t r l m n t2 r2 l2 m2 n2).2 h1
          simp [hE, this, h2]
        · have hne : (U1 == U2) = false := by simp [hE]
          rw [hne]
          cases hs : samePk t r l m n t2 r2 l2 m2 n2
          · rfl
          · by_cases hxy : x = y
            · exfalso
              apply hE
              obtain ⟨a1, a2, a3, a4, a5⟩ := (samePk_iff t r l m n t2 r2 l2 m2 n2).1 hs
              rw [← hU1, ← hU2, a1, a2, a3, a4, a5, hxy]
            · simp [hxy]
      cases hs : samePk t r l m n t2 r2 l2 m2 n2
      · rw [hs] at key
        have hne : U1 ≠ U2 := by simpa using key
        simp (config := {maxSteps := 10000000}) (disch := first | assumption | (simp; done) | (simp [l1, l2']; done) | (simp [l1, l2']; omega) | omega) [f5, intsV, lsaV, headV, hb, hb2, hsm, hb3, kb, kb2, ksm, kb3, g7, g15, g8, g9, ii_1023, -intA_and_i64, w1, w2, s1, s2, e1, e2, l1, l2', p1, p2, c1, c2, g16, ← q1, g14, hs, hne]
      · rw [hs] at key
        by_cases hxy : x = y
        · have hE : U1 = U2 := by simpa [hxy] using key
          subst hxy
          subst hE
          simp (config := {maxSteps := 10000000}) (disch := first | assumption | (simp; done) | (simp [l1, l2']; done) | (simp [l1, l2']; omega) | omega) [f5, intsV, lsaV, headV, hb, hb2, hsm, hb3, kb, kb2, ksm, kb3, g7, g15, g8, g9, ii_1023, -intA_and_i64, w1, w2, s1, s2, e1, e2, l1, l2', p1, p2, c1, c2, g16, ← q1, g14, hs]
        · have hE : U1 ≠ U2 := by simpa [hxy] using key
          simp (config := {maxSteps := 10000000}) (disch := first | assumption | (simp; done) | (simp [l1, l2']; done) | (simp [l1, l2']; omega) | omega) [f5, intsV, lsaV, headV, hb, hb2, hsm, hb3, kb, kb2, ksm, kb3, g7, g15, g8, g9, ii_1023, -intA_and_i64, w1, w2, s1, s2, e1, e2, l1, l2', p1, p2, c1, c2, g16, ← q1, g14, hs, hE, hxy]
noncomputable abbrev L5 := AM.ext L14 5 g5
theorem L5ok : CallOK prog L5 := L14ok.ext fn5 (by kernel_rfl) t5
end Go.AM.Try

