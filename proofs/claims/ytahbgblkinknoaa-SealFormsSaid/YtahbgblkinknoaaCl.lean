/- Packets' bytes; what is sealed. -/
import Derived.Test.YtahbgblkinknoaaCk
set_option linter.unusedSimpArgs false
set_option linter.unusedVariables false
set_option maxRecDepth 100000
set_option maxHeartbeats 4000000
namespace Go.AM.Try
open Go.Proofs.Try
attribute [-simp] strA
attribute [simp] strA_addc strA_eql strA_neq
theorem hello_len {l : List Int} (h : helloMay l = true) : l.length ≤ 4 := by
  have key : ∀ i, i < l.length → (i : Int) + 1 ≤ iat l i ∧ iat l i ≤ 4 := by
    intro i
    induction i with
    | zero =>
      intro hi
      have := allTo_iff.1 h 0 hi
      simp [helloOk, inR] at this
      omega
    | succ i ih =>
      intro hi
      have h1 := ih (by omega)
      have := allTo_iff.1 h (i + 1) hi
      simp [helloOk, inR] at this
      omega
  rcases Nat.lt_or_ge 4 l.length with h4 | h4
  · have := key 4 h4
    omega
  · exact h4
theorem heardB_length (l : List Int) : (heardB l).length = l.length + 1 := by simp [heardB]
open Classical in
noncomputable def g38 : List AV → Option AV
  | [.rptr [.int .i64 t, .int .i64 r, h, .snil, .snil]] => if okInts h ∧ t ≠ 4 ∧ t ≠ 5 then some (.tup [.str (listB t (unInts h) [] []), .bool (listMay t (unInts h) [] [])]) else none
  | _ => none
theorem t38 : ∀ args r, g38 args = some r → Told prog 38 args r := by
  intro args r h
  unfold g38 at h
  split at h <;> try (cases h; done)
  rename_i t r h
  split at h <;> try (cases h; done)
  rename_i hcond
  injection h with h; subst h
  obtain ⟨⟨hc, hb⟩, n4, n5⟩ := hcond
  obtain ⟨l, hl⟩ : ∃ l, unInts h = l := ⟨_, rfl⟩
  unfold isInts at hc
  rw [hl] at hc hb ⊢
  refine Told.le (.cons (.rptr (.cons (.refl _) (.cons (.refl _) (.cons hc (.cons (.refl _) (.cons (.refl _) .nil)))))) .nil) ?_
  refine told_fn (i := info 38) (n := 5) TTok L22ok mix fn38 po38 ?_
  have hok : okInts (.sl true (intsC l) l.length) := (okInts_V l).2 hb
  have hun : unInts (.sl true (intsC l) l.length) = l := unInts_intsV l
  have w1 : IntKind.i64.wrap (l.length : Int) = (l.length : Int) := wi64 (by omega) (by omega)
  by_cases h1 : t = 1
  · subst h1
    cases hm : helloMay l <;> simp [f38, intsV, hok, hun, g54, listB, listMay, hm, w1]
  · simp [f38, intsV, hok, hun, g54, listB, listMay, h1, n4, n5, w1]
noncomputable abbrev L38 := AM.ext L22 38 g38
theorem L38ok : CallOK prog L38 := L22ok.ext fn38 (by kernel_rfl) t38
open Classical in
noncomputable def g17 : List AV → Option AV
  | [.agg [.int .i64 t, .int .i64 r, h, .snil, .snil]] => if okInts h ∧ t ≠ 4 ∧ t ≠ 5 then some (.tup (if pkMay t r (unInts h) [] [] then [.str (pkB t r (unInts h) [] []), .int .i64 0] else [.str [], .int .i64 1200])) else none
  | _ => none
theorem t17 : ∀ args r, g17 args = some r → Told prog 17 args r := by
  intro args r h
  unfold g17 at h
  split at h <;> try (cases h; done)
  rename_i t r h
  split at h <;> try (cases h; done)
  rename_i hcond
  injection h with h; subst h
  obtain ⟨⟨hc, hb⟩, n4, n5⟩ := hcond
  obtain ⟨l, hl⟩ : ∃ l, unInts h = l := ⟨_, rfl⟩
  unfold isInts at hc
  rw [hl] at hc hb ⊢
  refine Told.le (.cons (.agg (.cons (.refl _) (.cons (.refl _) (.cons hc (.cons (.refl _) (.cons (.refl _) .nil)))))) .nil) ?_
  refine told_fn (i := info 17) (n := 5) TTok L38ok mix fn17 po17 ?_
  have hok : okInts (.sl true (intsC l) l.length) := (okInts_V l).2 hb
  have hun : unInts (.sl true (intsC l) l.length) = l := unInts_intsV l
  have hlen : (listB t l [] []).length ≤ 100000001 := by
    by_cases h1 : t = 1
    · subst h1
      cases hm : helloMay l
      · simp [listB, hm]
      · have := heardB_length l
        simp [listB, hm, this]
        omega
    · simp [listB, h1, n4, n5]
  have w1 : IntKind.i64.wrap (12 + ((listB t l [] []).length : Int)) = 12 + ((listB t l [] []).length : Int) := wi64 (by omega) (by omega)
  have hh : (headB t r (12 + ((listB t l [] []).length : Int))).length = 12 := rfl
  unfold pkMay
  cases hm : listMay t l [] []
  · cases he : headMay t r (12 + ((listB t l [] []).length : Int)) <;> simp [f17, intsV, hok, hun, n4, n5, g38, g39, w1, hm, he]
  · cases he : headMay t r (12 + ((listB t l [] []).length : Int)) <;> simp (disch := first | assumption | (simp; done) | (simp [hh]; done) | (simp [hh]; omega) | omega) [f17, intsV, hok, hun, n4, n5, g38, g39, w1, hm, he, pkB]
noncomputable abbrev L17 := AM.ext L38 17 g17
theorem L17ok : CallOK prog L17 := L38ok.ext fn17 (by kernel_rfl) t17
open Classical in
noncomputable def g8 : List AV → Option AV
  | [.agg [.int .i64 t, .int .i64 r, h, .snil, .snil], .agg [.int .i64 ka, .str ks, .int .i64 kb, .int .i64 kc, .int .i64 kd, .int .i64 ke], .int .i64 b, .int .i64 c] => if okInts h ∧ t ≠ 4 ∧ t ≠ 5 then some (.tup (if sealMay t r (unInts h) [] [] ka ks kb kc kd ke b c then [.str (sealB t r (unInts h) [] [] ka ks b c), .int .i64 0] else [.str [], .int .i64 1500])) else none
  | _ => none
theorem t8 : ∀ args r, g8 args = some r → Told prog 8 args r := by
  intro args r h
  unfold g8 at h
  split at h <;> try (cases h; done)
  rename_i t r h ka ks kb kc kd ke b c
  split at h <;> try (cases h; done)
  rename_i hcond
  injection h with h; subst h
  obtain ⟨⟨hc, hb⟩, n4, n5⟩ := hcond
  obtain ⟨l, hl⟩ : ∃ l, unInts h = l := ⟨_, rfl⟩
  unfold isInts at hc
  rw [hl] at hc hb ⊢
  refine Told.le (.cons (.agg (.cons (.refl _) (.cons (.refl _) (.cons hc (.cons (.refl _) (.cons (.refl _) .nil)))))) (.cons (.refl _) (.cons (.refl _) (.cons (.refl _) .nil)))) ?_
  refine told_fn (i := info 8) (n := 5) TTok L17ok mix fn8 po8 ?_
  have hok : okInts (.sl true (intsC l) l.length) := (okInts_V l).2 hb
  have hun : unInts (.sl true (intsC l) l.length) = l := unInts_intsV l
  unfold sealMay
  cases hp : pkMay t r l [] []
  · simp [f8, intsV, hok, hun, n4, n5, g17, hp]
  cases hk : keyMay ka ks kb kc kd ke
  · simp [f8, intsV, hok, hun, n4, n5, g17, hp, g18, hk]
  cases hbo : inR 1 4294967295 b
  · simp [f8, intsV, hok, hun, n4, n5, g17, hp, g18, hk, g19, hbo]
  cases hco : inR 1 4294967295 c
  · simp [f8, intsV, hok, hun, n4, n5, g17, hp, g18, hk, g19, hbo, g20, hco]
  have hs : (pkB t r l [] []).length ≤ 512 := by
    unfold pkMay at hp
    have hh : (headB t r (12 + ((listB t l [] []).length : Int))).length = 12 := rfl
    simp only [Bool.and_eq_true, headMay, inR, decide_eq_true_eq] at hp
    unfold pkB
    rw [List.length_append, hh]
    omega
  have hn : (numsB ka b c).length = 12 := rfl
  have hsg : ∀ x, (signB ks x r).length ≤ 32 := fun x => by
    unfold signB
    split
    · rw [tagW_length]; omega
    · simp
  have hx := hsg (pkB t r l [] [] ++ numsB ka b c)
  have h6 : (pkB t r l [] []).length + 12 ≤ 1000000 := by omega
  simp (disch := first | assumption | (simp; done) | (simp [hn]; done) | (simp [hn]; omega) | omega) [f8, intsV, hok, hun, n4, n5, g17, hp, g18, hk, g19, hbo, g20, hco, g21, g22, hn, h6, sealB, unB]
noncomputable abbrev L8 := AM.ext L17 8 g8
theorem L8ok : CallOK prog L8 := L17ok.ext fn8 (by kernel_rfl) t8
end Go.AM.Try

