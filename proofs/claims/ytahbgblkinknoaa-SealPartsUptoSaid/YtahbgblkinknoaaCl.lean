import Derived.Test.YtahbgblkinknoaaCq
/- Packets' bytes; what is sealed. -/
set_option linter.unusedSimpArgs false
set_option linter.unusedVariables false
set_option maxRecDepth 100000
set_option maxHeartbeats 4000000
namespace Go.AM.Try
open Go.Proofs.Try
attribute [-simp] strA
attribute [simp] strA_addc strA_eql strA_neq
theorem dec3 (a b c : Nat) : decide ((a : Int) + (b : Int) + (c : Int) - (a : Int) = 0) = decide (b + c = 0) ∧ decide ((a : Int) + (b : Int) + (c : Int) - (b : Int) = 0) = decide (a + c = 0) ∧ decide ((a : Int) + (b : Int) = 0) = decide (a + b = 0) := by
  refine ⟨?_, ?_, ?_⟩ <;> (apply decide_eq_decide.2; omega)
open Classical in
noncomputable def g38 : List AV → Option AV
  | [.rptr [.int .i64 t, .int .i64 r, h, ls, hs]] => if okInts h ∧ okLsas ls ∧ okHeads hs then some (.tup [.str (listB t (unInts h) (unLsas ls) (unHeads hs)), .bool (listMay t (unInts h) (unLsas ls) (unHeads hs))]) else none
  | _ => none
theorem t38 : ∀ args r, g38 args = some r → Told prog 38 args r := by
  intro args r h
  unfold g38 at h
  split at h <;> try (cases h; done)
  rename_i t r h ls hs
  split at h <;> try (cases h; done)
  rename_i hcond
  injection h with h; subst h
  obtain ⟨⟨hc, hb⟩, ⟨hc2, hb2, hsm⟩, hc3, hb3⟩ := hcond
  obtain ⟨l, hl⟩ : ∃ l, unInts h = l := ⟨_, rfl⟩
  obtain ⟨m, hm⟩ : ∃ l, unLsas ls = l := ⟨_, rfl⟩
  obtain ⟨n, hn⟩ : ∃ l, unHeads hs = l := ⟨_, rfl⟩
  unfold isInts at hc
  unfold isLsas at hc2
  unfold isHeads at hc3
  rw [hl] at hc hb ⊢
  rw [hm] at hc2 hb2 hsm ⊢
  rw [hn] at hc3 hb3 ⊢
  refine Told.le (.cons (.rptr (.cons (.refl _) (.cons (.refl _) (.cons hc (.cons hc2 (.cons hc3 .nil)))))) .nil) ?_
  refine told_fn (i := info 38) (n := 5) TTok L16ok mix fn38 po38 ?_
  have w1 : IntKind.i64.wrap ((l.length : Int) + (m.length : Int)) = (l.length : Int) + (m.length : Int) := wi64 (by omega) (by omega)
  have w2 : IntKind.i64.wrap ((l.length : Int) + (m.length : Int) + (n.length : Int)) = (l.length : Int) + (m.length : Int) + (n.length : Int) := wi64 (by omega) (by omega)
  have w3 : IntKind.i64.wrap ((l.length : Int) + (m.length : Int) + (n.length : Int) - (l.length : Int)) = (l.length : Int) + (m.length : Int) + (n.length : Int) - (l.length : Int) := wi64 (by omega) (by omega)
  have w4 : IntKind.i64.wrap ((l.length : Int) + (m.length : Int) + (n.length : Int) - (m.length : Int)) = (l.length : Int) + (m.length : Int) + (n.length : Int) - (m.length : Int) := wi64 (by omega) (by omega)
  obtain ⟨d1, d2, d3⟩ := dec3 l.length m.length n.length
  by_cases h1 : t = 1
  · subst h1
    cases hh : helloMay l <;> simp [f38, intsV, lsaV, headV, g54, hb, listB, listMay, hh, w1, w2, w3, d1, -Nat.add_eq_zero_iff, -List.length_eq_zero_iff]
  by_cases h4 : t = 4
  · subst h4
    cases hh : updMay m <;> simp [f38, intsV, lsaV, headV, g55, hb2, hsm, listB, listMay, hh, w1, w2, w4, d2, -Nat.add_eq_zero_iff, -List.length_eq_zero_iff]
  by_cases h5 : t = 5
  · subst h5
    cases hh : ackMay n <;> simp [f38, intsV, lsaV, headV, g56, hb3, listB, listMay, hh, w1, w2, d3, -Nat.add_eq_zero_iff, -List.length_eq_zero_iff]
  · simp [f38, intsV, lsaV, headV, listB, listMay, h1, h4, h5, w1, w2]
noncomputable abbrev L38 := AM.ext L16 38 g38
theorem L38ok : CallOK prog L38 := L16ok.ext fn38 (by kernel_rfl) t38
open Classical in
noncomputable def g17 : List AV → Option AV
  | [.agg [.int .i64 t, .int .i64 r, h, ls, hs]] => if okInts h ∧ okLsas ls ∧ okHeads hs then some (.tup (if pkMay t r (unInts h) (unLsas ls) (unHeads hs) then [.str (pkB t r (unInts h) (unLsas ls) (unHeads hs)), .int .i64 0] else [.str [], .int .i64 1200])) else none
  | _ => none
theorem t17 : ∀ args r, g17 args = some r → Told prog 17 args r := by
  intro args r h
  unfold g17 at h
  split at h <;> try (cases h; done)
  rename_i t r h ls hs
  split at h <;> try (cases h; done)
  rename_i hcond
  injection h with h; subst h
  obtain ⟨⟨hc, hb⟩, ⟨hc2, hb2, hsm⟩, hc3, hb3⟩ := hcond
  obtain ⟨l, hl⟩ : ∃ l, unInts h = l := ⟨_, rfl⟩
  obtain ⟨m, hm⟩ : ∃ l, unLsas ls = l := ⟨_, rfl⟩
  obtain ⟨n, hn⟩ : ∃ l, unHeads hs = l := ⟨_, rfl⟩
  unfold isInts at hc
  unfold isLsas at hc2
  unfold isHeads at hc3
  rw [hl] at hc hb ⊢
  rw [hm] at hc2 hb2 hsm ⊢
  rw [hn] at hc3 hb3 ⊢
  refine Told.le (.cons (.agg (.cons (.refl _) (.cons (.refl _) (.cons hc (.cons hc2 (.cons hc3 .nil)))))) .nil) ?_
  refine told_fn (i := info 17) (n := 5) TTok L38ok mix fn17 po17 ?_
  have hlen := listB_le t l m n
  have w1 : IntKind.i64.wrap (12 + ((listB t l m n).length : Int)) = 12 + ((listB t l m n).length : Int) := wi64 (by omega) (by omega)
  have hh : (headB t r (12 + ((listB t l m n).length : Int))).length = 12 := rfl
  unfold pkMay
  cases hm : listMay t l m n
  · cases he : headMay t r (12 + ((listB t l m n).length : Int)) <;> simp [f17, intsV, lsaV, headV, hb, hb2, hsm, hb3, g38, g39, w1, hm, he]
  · cases he : headMay t r (12 + ((listB t l m n).length : Int)) <;> simp (disch := first | assumption | (simp; done) | (simp [hh]; done) | (simp [hh]; omega) | omega) [f17, intsV, lsaV, headV, hb, hb2, hsm, hb3, g38, g39, w1, hm, he, pkB]
noncomputable abbrev L17 := AM.ext L38 17 g17
theorem L17ok : CallOK prog L17 := L38ok.ext fn17 (by kernel_rfl) t17
open Classical in
noncomputable def g8 : List AV → Option AV
  | [.agg [.int .i64 t, .int .i64 r, h, ls, hs], .agg [.int .i64 ka, .str ks, .int .i64 kb, .int .i64 kc, .int .i64 kd, .int .i64 ke], .int .i64 b, .int .i64 c] => if okInts h ∧ okLsas ls ∧ okHeads hs then some (.tup (if sealMay t r (unInts h) (unLsas ls) (unHeads hs) ka ks kb kc kd ke b c then [.str (sealB t r (unInts h) (unLsas ls) (unHeads hs) ka ks b c), .int .i64 0] else [.str [], .int .i64 1500])) else none
  | _ => none
theorem t8 : ∀ args r, g8 args = some r → Told prog 8 args r := by
  intro args r h
  unfold g8 at h
  split at h <;> try (cases h; done)
  rename_i t r h ls hs ka ks kb kc kd ke b c
  split at h <;> try (cases h; done)
  rename_i hcond
  injection h with h; subst h
  obtain ⟨⟨hc, hb⟩, ⟨hc2, hb2, hsm⟩, hc3, hb3⟩ := hcond
  obtain ⟨l, hl⟩ : ∃ l, unInts h = l := ⟨_, rfl⟩
  obtain ⟨m, hm⟩ : ∃ l, unLsas ls = l := ⟨_, rfl⟩
  obtain ⟨n, hn⟩ : ∃ l, unHeads hs = l := ⟨_, rfl⟩
  unfold isInts at hc
  unfold isLsas at hc2
  unfold isHeads at hc3
  rw [hl] at hc hb ⊢
  rw [hm] at hc2 hb2 hsm ⊢
  rw [hn] at hc3 hb3 ⊢
  refine Told.le (.cons (.agg (.cons (.refl _) (.cons (.refl _) (.cons hc (.cons hc2 (.cons hc3 .nil)))))) (.cons (.refl _) (.cons (.refl _) (.cons (.refl _) .nil)))) ?_
  refine told_fn (i := info 8) (n := 5) TTok L17ok mix fn8 po8 ?_
  unfold sealMay
  cases hp : pkMay t r l m n
  · simp [f8, intsV, lsaV, headV, hb, hb2, hsm, hb3, g17, hp]
  cases hk : keyMay ka ks kb kc kd ke
  · simp [f8, intsV, lsaV, headV, hb, hb2, hsm, hb3, g17, hp, g18, hk]
  cases hbo : inR 1 4294967295 b
  · simp [f8, intsV, lsaV, headV, hb, hb2, hsm, hb3, g17, hp, g18, hk, g19, hbo]
  cases hco : inR 1 4294967295 c
  · simp [f8, intsV, lsaV, headV, hb, hb2, hsm, hb3, g17, hp, g18, hk, g19, hbo, g20, hco]
  have hs : (pkB t r l m n).length ≤ 97 := by
    have hh : (headB t r (12 + ((listB t l m n).length : Int))).length = 12 := rfl
    have := listB_le t l m n
    unfold pkB
    rw [List.length_append, hh]
    omega
  have hn : (numsB ka b c).length = 12 := rfl
  have hsg : ∀ x, (signB ks x r).length ≤ 32 := fun x => by
    unfold signB
    split
    · rw [tagW_length]; omega
    · simp
  have hx := hsg (pkB t r l m n ++ numsB ka b c)
  have h6 : (pkB t r l m n).length + 12 ≤ 1000000 := by omega
  simp (disch := first | assumption | (simp; done) | (simp [hn]; done) | (simp [hn]; omega) | omega) [f8, intsV, lsaV, headV, hb, hb2, hsm, hb3, g17, hp, g18, hk, g19, hbo, g20, hco, g21, g22, hn, h6, sealB, unB]
noncomputable abbrev L8 := AM.ext L17 8 g8
theorem L8ok : CallOK prog L8 := L17ok.ext fn8 (by kernel_rfl) t8
end Go.AM.Try

