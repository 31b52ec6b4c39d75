import Derived.Test.YtahbgblkinknoaaKu
/- Are two the same? -/
set_option linter.unusedSimpArgs false
set_option linter.unusedVariables false
set_option maxRecDepth 100000
set_option maxHeartbeats 4000000
namespace Go.AM.Try
open Go.Proofs.Try
attribute [-simp] strA
attribute [simp] strA_addc strA_eql strA_neq

def eqI (a b : List Int) (i : Nat) : Bool := decide (iat a i = iat b i)
def eqL (a b : List Lk) (i : Nat) : Bool := decide ((lat a i).to = (lat b i).to) && decide ((lat a i).cost = (lat b i).cost)
def eqH (a b : List Hd) (i : Nat) : Bool := decide ((hat a i).router = (hat b i).router) && (decide ((hat a i).serial = (hat b i).serial) && (decide ((hat a i).age = (hat b i).age) && decide ((hat a i).sum = (hat b i).sum)))
def sameI (a b : List Int) : Bool := decide (a.length = b.length) && allTo (eqI a b) a.length
def sameL (a b : List Lk) : Bool := decide (a.length = b.length) && allTo (eqL a b) a.length
def sameH (a b : List Hd) : Bool := decide (a.length = b.length) && allTo (eqH a b) a.length
def same1 (a b : Lsa) : Bool := decide (a.router = b.router) && (decide (a.serial = b.serial) && (decide (a.age = b.age) && sameL a.links b.links))
def eqA (a b : List Lsa) (i : Nat) : Bool := same1 (aat a i) (aat b i)
def sameA (a b : List Lsa) : Bool := decide (a.length = b.length) && allTo (eqA a b) a.length
def cwatchwordlaw0_SameInts (a b : List Int) (i : Nat) : St := ⟨[intsV a, intsV b, .any, .any, .any, .int .i64 i, .any, .any, .any, .any, .any, .any, .any, .any, .any, .any, .any, .any, .any, .any, .any, .any, .any, .any, .any, .any], [], 0⟩
open Classical in
noncomputable def g31 : List AV → Option AV
  | [u, v] => if okInts u ∧ okInts v then some (.bool (sameI (unInts u) (unInts v))) else none
  | _ => none
theorem t31 : ∀ args r, g31 args = some r → Told prog 31 args r := by
  intro args r h
  unfold g31 at h
  split at h <;> try (cases h; done)
  rename_i u v
  split at h <;> try (cases h; done)
  rename_i hcond
  injection h with h; subst h
  obtain ⟨⟨hc, hb⟩, hc2, hb2⟩ := hcond
  obtain ⟨a, hl⟩ : ∃ l, unInts u = l := ⟨_, rfl⟩
  obtain ⟨b, hm⟩ : ∃ l, unInts v = l := ⟨_, rfl⟩
  unfold isInts at hc hc2
  rw [hl] at hc hb ⊢
  rw [hm] at hc2 hb2 ⊢
  refine Told.le (.cons hc (.cons hc2 .nil)) ?_
  refine told_fn (i := info 31) (n := (a.length + 1)) TTok LK0ok mix fn31 po31 ?_
  by_cases hlen : a.length = b.length
  · obtain ⟨N, hN, hp, hend⟩ := scan (eqI a b) a.length
    have hlen' : (a.length : Int) = (b.length : Int) := by omega
    simp [f31, intsV, hlen]
    rw [iter_to (cwatchwordlaw0_SameInts a b) N (by omega)]
    · rcases hend with ⟨h1, h2, h3⟩ | ⟨rfl, h3⟩
      · have h1' : N < b.length := by omega
        have hd := intsC_at h1
        have hd2 := intsC_at h1'
        have _ := hb
        unfold eqI at h2
        simp [cwatchwordlaw0_SameInts, intsV, h1, h1', hd, hd2, sameI, hlen, hlen ▸ h3, h2, decide_eq_true_eq]
      · simp [cwatchwordlaw0_SameInts, intsV, sameI, hlen, hlen ▸ h3]
    · simp [cwatchwordlaw0_SameInts, intsV, hlen]
    · intro i hi
      have w1 : IntKind.i64.wrap ((i : Int) + 1) = (i : Int) + 1 := wi64 (by omega) (by omega)
      have h1 : i < a.length := by omega
      have h1' : i < b.length := by omega
      have hd := intsC_at h1
      have hd2 := intsC_at h1'
      have _ := hb
      have h2 := hp i hi
      unfold eqI at h2
      simp [cwatchwordlaw0_SameInts, intsV, h1, h1', hd, hd2, h2, w1, decide_eq_true_eq]
    · rcases hend with ⟨h1, h2, h3⟩ | ⟨rfl, h3⟩
      · have h1' : N < b.length := by omega
        have hd := intsC_at h1
        have hd2 := intsC_at h1'
        have _ := hb
        unfold eqI at h2
        simp [cwatchwordlaw0_SameInts, intsV, h1, h1', hd, hd2, h2, stops, decide_eq_true_eq]
      · simp [cwatchwordlaw0_SameInts, intsV, stops, hlen]
  · have hlen' : ¬ (a.length : Int) = (b.length : Int) := by omega
    simp [f31, intsV, hlen, hlen', sameI]
noncomputable abbrev L31 := AM.ext LK0 31 g31
theorem L31ok : CallOK prog L31 := LK0ok.ext fn31 (by kernel_rfl) t31
def cwatchwordlaw0_SameLinks (a b : List Lk) (i : Nat) : St := ⟨[linkV a, linkV b, .any, .any, .any, .int .i64 i, .any, .any, .any, .any, .any, .any, .any, .any, .any, .any, .any, .any, .any, .any, .any, .any, .any, .any, .any, .any], [], 0⟩
open Classical in
noncomputable def g70 : List AV → Option AV
  | [u, v] => if okLinks u ∧ okLinks v then some (.bool (sameL (unLinks u) (unLinks v))) else none
  | _ => none
theorem t70 : ∀ args r, g70 args = some r → Told prog 70 args r := by
  intro args r h
  unfold g70 at h
  split at h <;> try (cases h; done)
  rename_i u v
  split at h <;> try (cases h; done)
  rename_i hcond
  injection h with h; subst h
  obtain ⟨⟨hc, hb⟩, hc2, hb2⟩ := hcond
  obtain ⟨a, hl⟩ : ∃ l, unLinks u = l := ⟨_, rfl⟩
  obtain ⟨b, hm⟩ : ∃ l, unLinks v = l := ⟨_, rfl⟩
  unfold isLinks at hc hc2
  rw [hl] at hc hb ⊢
  rw [hm] at hc2 hb2 ⊢
  refine Told.le (.cons hc (.cons hc2 .nil)) ?_
  refine told_fn (i := info 70) (n := (a.length + 1)) TTok L31ok mix fn70 po70 ?_
  by_cases hlen : a.length = b.length
  · obtain ⟨N, hN, hp, hend⟩ := scan (eqL a b) a.length
    have hlen' : (a.length : Int) = (b.length : Int) := by omega
    simp [f70, linkV, hlen]
    rw [iter_to (cwatchwordlaw0_SameLinks a b) N (by omega)]
    · rcases hend with ⟨h1, h2, h3⟩ | ⟨rfl, h3⟩
      · have h1' : N < b.length := by omega
        have hd := linkC_at h1
        have hd2 := linkC_at h1'
        have _ := hb
        unfold eqL at h2
        simp [cwatchwordlaw0_SameLinks, linkV, h1, h1', hd, hd2, sameL, hlen, hlen ▸ h3, h2, decide_eq_true_eq]
      · simp [cwatchwordlaw0_SameLinks, linkV, sameL, hlen, hlen ▸ h3]
    · simp [cwatchwordlaw0_SameLinks, linkV, hlen]
    · intro i hi
      have w1 : IntKind.i64.wrap ((i : Int) + 1) = (i : Int) + 1 := wi64 (by omega) (by omega)
      have h1 : i < a.length := by omega
      have h1' : i < b.length := by omega
      have hd := linkC_at h1
      have hd2 := linkC_at h1'
      have _ := hb
      have h2 := hp i hi
      unfold eqL at h2
      simp [cwatchwordlaw0_SameLinks, linkV, h1, h1', hd, hd2, h2, w1, decide_eq_true_eq]
    · rcases hend with ⟨h1, h2, h3⟩ | ⟨rfl, h3⟩
      · have h1' : N < b.length := by omega
        have hd := linkC_at h1
        have hd2 := linkC_at h1'
        have _ := hb
        unfold eqL at h2
        simp [cwatchwordlaw0_SameLinks, linkV, h1, h1', hd, hd2, h2, stops, decide_eq_true_eq]
      · simp [cwatchwordlaw0_SameLinks, linkV, stops, hlen]
  · have hlen' : ¬ (a.length : Int) = (b.length : Int) := by omega
    simp [f70, linkV, hlen, hlen', sameL]
noncomputable abbrev L70 := AM.ext L31 70 g70
theorem L70ok : CallOK prog L70 := L31ok.ext fn70 (by kernel_rfl) t70
def cwatchwordlaw0_SameLsaHeads (a b : List Hd) (i : Nat) : St := ⟨[headV a, headV b, .any, .any, .any, .int .i64 i, .any, .any, .any, .any, .any, .any, .any, .any, .any, .any, .any, .any, .any, .any, .any, .any, .any, .any, .any, .any], [], 0⟩
open Classical in
noncomputable def g33 : List AV → Option AV
  | [u, v] => if okHeads u ∧ okHeads v then some (.bool (sameH (unHeads u) (unHeads v))) else none
  | _ => none
theorem t33 : ∀ args r, g33 args = some r → Told prog 33 args r := by
  intro args r h
  unfold g33 at h
  split at h <;> try (cases h; done)
  rename_i u v
  split at h <;> try (cases h; done)
  rename_i hcond
  injection h with h; subst h
  obtain ⟨⟨hc, hb⟩, hc2, hb2⟩ := hcond
  obtain ⟨a, hl⟩ : ∃ l, unHeads u = l := ⟨_, rfl⟩
  obtain ⟨b, hm⟩ : ∃ l, unHeads v = l := ⟨_, rfl⟩
  unfold isHeads at hc hc2
  rw [hl] at hc hb ⊢
  rw [hm] at hc2 hb2 ⊢
  refine Told.le (.cons hc (.cons hc2 .nil)) ?_
  refine told_fn (i := info 33) (n := (a.length + 1)) TTok L70ok mix fn33 po33 ?_
  by_cases hlen : a.length = b.length
  · obtain ⟨N, hN, hp, hend⟩ := scan (eqH a b) a.length
    have hlen' : (a.length : Int) = (b.length : Int) := by omega
    simp [f33, headV, hlen]
    rw [iter_to (cwatchwordlaw0_SameLsaHeads a b) N (by omega)]
    · rcases hend with ⟨h1, h2, h3⟩ | ⟨rfl, h3⟩
      · have h1' : N < b.length := by omega
        have hd := headC_at h1
        have hd2 := headC_at h1'
        have _ := hb
        unfold eqH at h2
        simp [cwatchwordlaw0_SameLsaHeads, headV, h1, h1', hd, hd2, sameH, hlen, hlen ▸ h3, h2, decide_eq_true_eq]
      · simp [cwatchwordlaw0_SameLsaHeads, headV, sameH, hlen, hlen ▸ h3]
    · simp [cwatchwordlaw0_SameLsaHeads, headV, hlen]
    · intro i hi
      have w1 : IntKind.i64.wrap ((i : Int) + 1) = (i : Int) + 1 := wi64 (by omega) (by omega)
      have h1 : i < a.length := by omega
      have h1' : i < b.length := by omega
      have hd := headC_at h1
      have hd2 := headC_at h1'
      have _ := hb
      have h2 := hp i hi
      unfold eqH at h2
      simp [cwatchwordlaw0_SameLsaHeads, headV, h1, h1', hd, hd2, h2, w1, decide_eq_true_eq]
    · rcases hend with ⟨h1, h2, h3⟩ | ⟨rfl, h3⟩
      · have h1' : N < b.length := by omega
        have hd := headC_at h1
        have hd2 := headC_at h1'
        have _ := hb
        unfold eqH at h2
        simp [cwatchwordlaw0_SameLsaHeads, headV, h1, h1', hd, hd2, h2, stops, decide_eq_true_eq]
      · simp [cwatchwordlaw0_SameLsaHeads, headV, stops, hlen]
  · have hlen' : ¬ (a.length : Int) = (b.length : Int) := by omega
    simp [f33, headV, hlen, hlen', sameH]
noncomputable abbrev L33 := AM.ext L70 33 g33
theorem L33ok : CallOK prog L33 := L70ok.ext fn33 (by kernel_rfl) t33
open Classical in
noncomputable def g50 : List AV → Option AV
  | [.agg [.int .i64 r, .int .i64 s, .int .i64 a, v], .agg [.int .i64 r2, .int .i64 s2, .int .i64 a2, v2]] => if okLinks v ∧ okLinks v2 then some (.bool (same1 ⟨r, s, a, unLinks v⟩ ⟨r2, s2, a2, unLinks v2⟩)) else none
  | _ => none
theorem t50 : ∀ args r, g50 args = some r → Told prog 50 args r := by
  intro args r h
  unfold g50 at h
  split at h <;> try (cases h; done)
  rename_i r s a v r2 s2 a2 v2
  split at h <;> try (cases h; done)
  rename_i hcond
  injection h with h; subst h
  obtain ⟨⟨hc, hb⟩, hc2, hb2⟩ := hcond
  obtain ⟨l, hl⟩ : ∃ l, unLinks v = l := ⟨_, rfl⟩
  obtain ⟨m, hm⟩ : ∃ l, unLinks v2 = l := ⟨_, rfl⟩
  unfold isLinks at hc hc2
  rw [hl] at hc hb ⊢
  rw [hm] at hc2 hb2 ⊢
  refine Told.le (.cons (.agg (.cons (.refl _) (.cons (.refl _) (.cons (.refl _) (.cons hc .nil))))) (.cons (.agg (.cons (.refl _) (.cons (.refl _) (.cons (.refl _) (.cons hc2 .nil))))) .nil)) ?_
  refine told_fn (i := info 50) (n := 5) TTok L33ok mix fn50 po50 ?_
  by_cases h1 : r = r2
  · by_cases h2 : s = s2
    · by_cases h3 : a = a2
      · simp [f50, linkV, h1, h2, h3, hb, hb2, g70, same1]
      · simp [f50, linkV, h1, h2, h3, same1]
    · simp [f50, linkV, h1, h2, same1]
  · simp [f50, linkV, h1, same1]
noncomputable abbrev L50 := AM.ext L33 50 g50
theorem L50ok : CallOK prog L50 := L33ok.ext fn50 (by kernel_rfl) t50
def cwatchwordlaw0_SameLsas (a b : List Lsa) (i : Nat) : St := ⟨[lsaV a, lsaV b, .any, .any, .any, .int .i64 i, .any, .any, .any, .any, .any, .any, .any, .any, .any, .any, .any, .any, .any, .any, .any, .any, .any, .any, .any, .any, .any], [], 0⟩
open Classical in
noncomputable def g32 : List AV → Option AV
  | [u, v] => if okLsas u ∧ okLsas v then some (.bool (sameA (unLsas u) (unLsas v))) else none
  | _ => none
theorem t32 : ∀ args r, g32 args = some r → Told prog 32 args r := by
  intro args r h
  unfold g32 at h
  split at h <;> try (cases h; done)
  rename_i u v
  split at h <;> try (cases h; done)
  rename_i hcond
  injection h with h; subst h
  obtain ⟨⟨hc, hb, hs1⟩, hc2, hb2, hs2⟩ := hcond
  obtain ⟨a, hl⟩ : ∃ l, unLsas u = l := ⟨_, rfl⟩
  obtain ⟨b, hm⟩ : ∃ l, unLsas v = l := ⟨_, rfl⟩
  unfold isLsas at hc hc2
  rw [hl] at hc hb hs1 ⊢
  rw [hm] at hc2 hb2 hs2 ⊢
  refine Told.le (.cons hc (.cons hc2 .nil)) ?_
  refine told_fn (i := info 32) (n := (a.length + 1)) TTok L50ok mix fn32 po32 ?_
  by_cases hlen : a.length = b.length
  · obtain ⟨N, hN, hp, hend⟩ := scan (eqA a b) a.length
    have hlen' : (a.length : Int) = (b.length : Int) := by omega
    simp [f32, lsaV, hlen]
    rw [iter_to (cwatchwordlaw0_SameLsas a b) N (by omega)]
    · rcases hend with ⟨h1, h2, h3⟩ | ⟨rfl, h3⟩
      · have h1' : N < b.length := by omega
        have hd := lsaC_at h1
        have hd2 := lsaC_at h1'
        have hsi := aat_small hs1 h1
        have hsj := aat_small hs2 h1'
        unfold eqA at h2
        simp [cwatchwordlaw0_SameLsas, lsaV, h1, h1', hd, hd2, sameA, hlen, hlen ▸ h3, h2, hsi, hsj, linkV, g50]
      · simp [cwatchwordlaw0_SameLsas, lsaV, sameA, hlen, hlen ▸ h3]
    · simp [cwatchwordlaw0_SameLsas, lsaV, hlen]
    · intro i hi
      have w1 : IntKind.i64.wrap ((i : Int) + 1) = (i : Int) + 1 := wi64 (by omega) (by omega)
      have h1 : i < a.length := by omega
      have h1' : i < b.length := by omega
      have hd := lsaC_at h1
      have hd2 := lsaC_at h1'
      have hsi := aat_small hs1 h1
      have hsj := aat_small hs2 h1'
      have h2 := hp i hi
      unfold eqA at h2
      simp [cwatchwordlaw0_SameLsas, lsaV, h1, h1', hd, hd2, h2, w1, hsi, hsj, linkV, g50]
    · rcases hend with ⟨h1, h2, h3⟩ | ⟨rfl, h3⟩
      · have h1' : N < b.length := by omega
        have hd := lsaC_at h1
        have hd2 := lsaC_at h1'
        have hsi := aat_small hs1 h1
        have hsj := aat_small hs2 h1'
        unfold eqA at h2
        simp [cwatchwordlaw0_SameLsas, lsaV, h1, h1', hd, hd2, h2, stops, hsi, hsj, linkV, g50]
      · simp [cwatchwordlaw0_SameLsas, lsaV, stops, hlen]
  · have hlen' : ¬ (a.length : Int) = (b.length : Int) := by omega
    simp [f32, lsaV, hlen, hlen', sameA]
noncomputable abbrev L32 := AM.ext L50 32 g32
theorem L32ok : CallOK prog L32 := L50ok.ext fn32 (by kernel_rfl) t32
def samePk (t r : Int) (l : List Int) (m : List Lsa) (n : List Hd) (t2 r2 : Int) (l2 : List Int) (m2 : List Lsa) (n2 : List Hd) : Bool :=
  decide (t = t2) && (decide (r = r2) && (sameI l l2 && (sameA m m2 && sameH n n2)))
open Classical in
noncomputable def g14 : List AV → Option AV
  | [.agg [.int .i64 t, .int .i64 r, h, ls, hs], .agg [.int .i64 t2, .int .i64 r2, h2, ls2, hs2]] => if (okInts h ∧ okLsas ls ∧ okHeads hs) ∧ okInts h2 ∧ okLsas ls2 ∧ okHeads hs2 then some (.bool (samePk t r (unInts h) (unLsas ls) (unHeads hs) t2 r2 (unInts h2) (unLsas ls2) (unHeads hs2))) else none
  | _ => none
theorem t14 : ∀ args r, g14 args = some r → Told prog 14 args r := by
  intro args r h
  unfold g14 at h
  split at h <;> try (cases h; done)
  rename_i t r h ls hs t2 r2 h2 ls2 hs2
  split at h <;> try (cases h; done)
  rename_i hcond
  injection h with h; subst h
  obtain ⟨⟨⟨hc, hb⟩, ⟨hc2, hb2, hsm⟩, hc3, hb3⟩, ⟨kc, kb⟩, ⟨kc2, kb2, ksm⟩, kc3, kb3⟩ := hcond
  obtain ⟨l, hl⟩ : ∃ l, unInts h = l := ⟨_, rfl⟩
  obtain ⟨m, hm⟩ : ∃ l, unLsas ls = l := ⟨_, rfl⟩
  obtain ⟨n, hn⟩ : ∃ l, unHeads hs = l := ⟨_, rfl⟩
  obtain ⟨l2, kl⟩ : ∃ l, unInts h2 = l := ⟨_, rfl⟩
  obtain ⟨m2, km⟩ : ∃ l, unLsas ls2 = l := ⟨_, rfl⟩
  obtain ⟨n2, kn⟩ : ∃ l, unHeads hs2 = l := ⟨_, rfl⟩
  unfold isInts at hc kc
  unfold isLsas at hc2 kc2
  unfold isHeads at hc3 kc3
  rw [hl] at hc hb ⊢
  rw [hm] at hc2 hb2 hsm ⊢
  rw [hn] at hc3 hb3 ⊢
  rw [kl] at kc kb ⊢
  rw [km] at kc2 kb2 ksm ⊢
  rw [kn] at kc3 kb3 ⊢
  refine Told.le (.cons (.agg (.cons (.refl _) (.cons (.refl _) (.cons hc (.cons hc2 (.cons hc3 .nil)))))) (.cons (.agg (.cons (.refl _) (.cons (.refl _) (.cons kc (.cons kc2 (.cons kc3 .nil)))))) .nil)) ?_
  refine told_fn (i := info 14) (n := 5) TTok L32ok mix fn14 po14 ?_
  unfold samePk
  by_cases h1 : t = t2
  · by_cases h2 : r = r2
    · cases h3 : sameI l l2
      · simp [f14, intsV, lsaV, headV, h1, h2, h3, hb, kb, g31]
      · cases h4 : sameA m m2
        · simp [f14, intsV, lsaV, headV, h1, h2, h3, h4, hb, kb, hb2, kb2, hsm, ksm, g31, g32]
        · simp [f14, intsV, lsaV, headV, h1, h2, h3, h4, hb, kb, hb2, kb2, hsm, ksm, hb3, kb3, g31, g32, g33]
    · simp [f14, intsV, lsaV, headV, h1, h2]
  · simp [f14, intsV, lsaV, headV, h1]
noncomputable abbrev L14 := AM.ext L32 14 g14
theorem L14ok : CallOK prog L14 := L32ok.ext fn14 (by kernel_rfl) t14
end Go.AM.Try

