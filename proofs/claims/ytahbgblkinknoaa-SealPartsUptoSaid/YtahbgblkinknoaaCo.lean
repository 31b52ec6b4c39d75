import Derived.Test.YtahbgblkinknoaaCn
/- Lsas' bytes. -/
set_option linter.unusedSimpArgs false
set_option linter.unusedVariables false
set_option maxRecDepth 100000
set_option maxHeartbeats 4000000
namespace Go.AM.Try
open Go.Proofs.Try
attribute [-simp] strA
attribute [simp] strA_addc strA_eql strA_neq
def fsC (s : List UInt8) (i : Nat) : St := ⟨[.str s, .any, .any, .int .i64 (flB s i).1, .int .i64 (flB s i).2, .any, .any, .int .i64 s.length, .int .i64 i, .any, .any, .any, .any, .any, .any, .any, .any, .any, .any, .any, .any, .any, .any, .any, .any, .any, .any], [], 0⟩
open Classical in
noncomputable def g89 : List AV → Option AV
  | [.str s] => if s.length ≤ 1000000000 then some (.int .i64 (fletchB s)) else none
  | _ => none
theorem t89 : ∀ args r, g89 args = some r → Told prog 89 args r := by
  intro args r h
  unfold g89 at h
  split at h <;> try (cases h; done)
  rename_i s
  split at h <;> try (cases h; done)
  rename_i hcond
  injection h with h; subst h
  refine told_fn (i := info 89) (n := (s.length + 1)) TTok L87ok mix fn89 po89 ?_
  simp [f89]
  rw [iter_to (fsC s) s.length (by omega)]
  · have hb := flB_bd s s.length (by omega)
    have e1 : IntKind.i64.wrap (256 * (flB s s.length).2) = 256 * (flB s s.length).2 := wi64 (by omega) (by omega)
    have e2 : IntKind.i64.wrap (256 * (flB s s.length).2 + (flB s s.length).1) = 256 * (flB s s.length).2 + (flB s s.length).1 := wi64 (by omega) (by omega)
    simp [fsC, e1, e2, fletchB]
  · simp [fsC, flB]
  · intro i hi
    have hc : s[i]? = some s[i] := by simp [hi]
    obtain ⟨p, hp⟩ : ∃ p, flB s i = p := ⟨_, rfl⟩
    have hb := flB_bd s i (by omega)
    rw [hp] at hb
    have hs := flB_succ hi
    rw [hp] at hs
    have h8 := (s[i]).toNat_lt
    have w1 : IntKind.i64.wrap ((i : Int) + 1) = (i : Int) + 1 := wi64 (by omega) (by omega)
    have w2 : IntKind.i64.wrap ((s[i]).toNat : Int) = ((s[i]).toNat : Int) := wi64 (by omega) (by omega)
    have w3 : IntKind.i64.wrap (p.1 + ((s[i]).toNat : Int)) = p.1 + ((s[i]).toNat : Int) := wi64 (by omega) (by omega)
    have e3 : (p.1 + ((s[i]).toNat : Int)).tmod 255 = fl1 p.1 s[i] := tmod_pos (by omega)
    have b3 : 0 ≤ fl1 p.1 s[i] ∧ fl1 p.1 s[i] < 255 := by unfold fl1; omega
    have w4 : IntKind.i64.wrap (p.2 + fl1 p.1 s[i]) = p.2 + fl1 p.1 s[i] := wi64 (by omega) (by omega)
    have e4 : (p.2 + fl1 p.1 s[i]).tmod 255 = (p.2 + fl1 p.1 s[i]) % 255 := tmod_pos (by omega)
    simp [fsC, hi, hc, hp, hs, w1, w2, w3, e3, w4, e4, flStep]
  · simp [fsC, stops]
noncomputable abbrev L89 := AM.ext L87 89 g89
theorem L89ok : CallOK prog L89 := L87ok.ext fn89 (by kernel_rfl) t89
def bdC (a : Lsa) (i : Nat) : St := ⟨[.any, .any, .any, .str ([b8 a.router] ++ four a.serial ++ [b8 a.links.length] ++ (a.links.take i).flatMap linkB), .any, .any, .any, .any, .any, .any, .any, .any, .any, .any, .any, .any, .any, .any, .any, .any, .any, .any, .any, .any, .any, .any, .any, linkV a.links, .int .i64 a.links.length, .int .i64 i, .any, .any, .any, .any, .any, .any, .any, .any, .any, .any, .any, .any, .any, .any], [], 0⟩
open Classical in
noncomputable def g88 : List AV → Option AV
  | [.rptr [.int .i64 r, .int .i64 s, .int .i64 a, v]] => if okLinks v then some (.str (bodyB ⟨r, s, a, unLinks v⟩)) else none
  | _ => none
theorem t88 : ∀ args r, g88 args = some r → Told prog 88 args r := by
  intro args r h
  unfold g88 at h
  split at h <;> try (cases h; done)
  rename_i r s a v
  split at h <;> try (cases h; done)
  rename_i hcond
  injection h with h; subst h
  obtain ⟨hc, hb⟩ := hcond
  obtain ⟨l, hl⟩ : ∃ l, unLinks v = l := ⟨_, rfl⟩
  unfold isLinks at hc
  rw [hl] at hc hb ⊢
  refine Told.le (.cons (.rptr (.cons (.refl _) (.cons (.refl _) (.cons (.refl _) (.cons hc .nil))))) .nil) ?_
  refine told_fn (i := info 88) (n := (l.length + 1)) TTok L89ok mix fn88 po88 ?_
  have hf : (four s).length = 4 := rfl
  simp (disch := first | assumption | (simp; done) | (simp [hf]; done) | (simp [hf]; omega) | omega) [f88, linkV, g43, g44]
  rw [iter_to (bdC ⟨r, s, a, l⟩) l.length (by omega)]
  · simp [bdC, linkV, bodyB]
  · simp [bdC, linkV]
  · intro i hi
    have w1 : IntKind.i64.wrap ((i : Int) + 1) = (i : Int) + 1 := wi64 (by omega) (by omega)
    have hd := linkC_at hi
    have hs := link_succ hi
    have hk : ((l.take i).flatMap linkB).length ≤ 300000000 := by
      have := length_flat' linkB 3 linkB_length (l.take i)
      rw [this]; simp; omega
    simp (disch := first | assumption | (simp; done) | (simp [hf, two, -List.length_flatMap]; done) | (simp [hf, two, -List.length_flatMap]; omega) | omega) [bdC, linkV, hi, hd, g43, g59, w1, hs, linkB]
  · simp [bdC, linkV, stops]
noncomputable abbrev L88 := AM.ext L89 88 g88
theorem L88ok : CallOK prog L88 := L89ok.ext fn88 (by kernel_rfl) t88
open Classical in
noncomputable def g74 : List AV → Option AV
  | [.agg [.int .i64 r, .int .i64 s, .int .i64 a, v]] => if okLinks v then some (.tup (if lsaMay ⟨r, s, a, unLinks v⟩ then [.str (lsaB ⟨r, s, a, unLinks v⟩), .int .i64 0] else [.str [], .int .i64 700])) else none
  | _ => none
theorem t74 : ∀ args r, g74 args = some r → Told prog 74 args r := by
  intro args r h
  unfold g74 at h
  split at h <;> try (cases h; done)
  rename_i r s a v
  split at h <;> try (cases h; done)
  rename_i hcond
  injection h with h; subst h
  obtain ⟨hc, hb⟩ := hcond
  obtain ⟨l, hl⟩ : ∃ l, unLinks v = l := ⟨_, rfl⟩
  unfold isLinks at hc
  rw [hl] at hc hb ⊢
  refine Told.le (.cons (.agg (.cons (.refl _) (.cons (.refl _) (.cons (.refl _) (.cons hc .nil))))) .nil) ?_
  refine told_fn (i := info 74) (n := 5) TTok L88ok mix fn74 po74 ?_
  have hok : okLinks (.sl true (linkC l) l.length) := (okLinks_V l).2 hb
  have hun : unLinks (.sl true (linkC l) l.length) = l := unLinks_linkV l
  cases hm : lsaMay ⟨r, s, a, l⟩
  · simp [f74, linkV, hok, hun, g87, hm]
  · have hbl : (bodyB ⟨r, s, a, l⟩).length ≤ 300000006 := by rw [bodyB_length]; simp only; omega
    have hbl2 : (bodyB ⟨r, s, a, l⟩).length ≤ 1000000000 := by omega
    have ht : ∀ x, (two x).length = 2 := fun _ => rfl
    simp (disch := first | assumption | (simp; done) | (simp [ht]; done) | (simp [ht]; omega) | omega) [f74, linkV, hok, hun, g87, hm, g88, g43, g59, g89, hbl2, lsaB]
noncomputable abbrev L74 := AM.ext L88 74 g74
theorem L74ok : CallOK prog L74 := L88ok.ext fn74 (by kernel_rfl) t74
end Go.AM.Try

