import Derived.Test.YtahbgblkinknoaaCc
/- The sum: its words. -/
set_option linter.unusedSimpArgs false
set_option linter.unusedVariables false
set_option maxRecDepth 100000
namespace Go.AM.Try
open Go.Proofs.Try
attribute [-simp] UInt8.toNat_toUInt32 UInt32.toNat_toUInt8 UInt32.toNat_or UInt32.toNat_and UInt32.toNat_xor UInt32.toNat_shiftLeft UInt32.toNat_shiftRight UInt32.toNat_add UInt32.toNat_not
theorem get_some {s : List UInt8} {i : Nat} (h : i < s.length) : s[i]? = some s[i] := by simp [h]
def fourOk (s : List UInt8) (a : Int) : Prop := (0 ≤ a ∧ a + 3 < s.length) ∧ s.length ≤ 1000000000
open Classical in
noncomputable def g103 : List AV → Option AV
  | [.str s, .int .i64 a] => if fourOk s a then some (.int .u32 (fourAt s a.toNat).toNat) else none
  | _ => none
theorem t103 : ∀ args r, g103 args = some r → Told prog 103 args r := by
  intro args r h
  unfold g103 at h
  split at h <;> try (cases h; done)
  rename_i s a
  split at h <;> try (cases h; done)
  rename_i hcond
  injection h with h; subst h
  refine told_fn (i := info 103) (n := 5) TTok L68ok mix fn103 po103 ?_
  obtain ⟨⟨h0, h1⟩, h2⟩ := hcond
  obtain ⟨i, rfl⟩ : ∃ i : Nat, a = i := ⟨a.toNat, by omega⟩
  have w1 : IntKind.i64.wrap ((i : Int) + 1) = (i : Int) + 1 := wi64 (by omega) (by omega)
  have w2 : IntKind.i64.wrap ((i : Int) + 2) = (i : Int) + 2 := wi64 (by omega) (by omega)
  have w3 : IntKind.i64.wrap ((i : Int) + 3) = (i : Int) + 3 := wi64 (by omega) (by omega)
  have p1 : (0 : Int) ≤ (i : Int) + 1 := by omega
  have p2 : (0 : Int) ≤ (i : Int) + 2 := by omega
  have p3 : (0 : Int) ≤ (i : Int) + 3 := by omega
  have t1 : ((i : Int) + 1).toNat = i + 1 := by omega
  have t2 : ((i : Int) + 2).toNat = i + 2 := by omega
  have t3 : ((i : Int) + 3).toNat = i + 3 := by omega
  have g0 := get_some (s := s) (i := i) (by omega)
  have g1 := get_some (s := s) (i := i + 1) (by omega)
  have g2 := get_some (s := s) (i := i + 2) (by omega)
  have g3 := get_some (s := s) (i := i + 3) (by omega)
  simp [f103, w1, w2, w3, p1, p2, p3, t1, t2, t3, g0, g1, g2, g3, fourAt, be4]
noncomputable abbrev L103 := AM.ext L68 103 g103
theorem L103ok : CallOK prog L103 := L68ok.ext fn103 (by kernel_rfl) t103
open Classical in
noncomputable def g97 : List AV → Option AV
  | [.int .u32 x, .int .i64 a, .int .i64 b, .int .i64 c] => if U32ok x ∧ K31 a ∧ K31 b ∧ K31 c then some (.int .u32 (turn3 (u32 x) a.toNat b.toNat c.toNat).toNat) else none
  | _ => none
theorem t97 : ∀ args r, g97 args = some r → Told prog 97 args r := by
  intro args r h
  unfold g97 at h
  split at h <;> try (cases h; done)
  rename_i x a b c
  split at h <;> try (cases h; done)
  rename_i hcond
  injection h with h; subst h
  refine told_fn (i := info 97) (n := 5) TTok L103ok mix fn97 po97 ?_
  obtain ⟨⟨v, rfl⟩, ha, hb, hc⟩ := hcond
  have w : ∀ a, K31 a → IntKind.i64.wrap (-a) = -a := fun a h => by unfold K31 at h; exact wi64 (by omega) (by omega)
  simp [f97, w a ha, w b hb, w c hc, ha, hb, hc, g104, turn3]
noncomputable abbrev L97 := AM.ext L103 97 g97
theorem L97ok : CallOK prog L97 := L103ok.ext fn97 (by kernel_rfl) t97
end Go.AM.Try

