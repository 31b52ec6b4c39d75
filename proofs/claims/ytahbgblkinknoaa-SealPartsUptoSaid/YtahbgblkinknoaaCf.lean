import Derived.Test.YtahbgblkinknoaaCe
/- The sum: a block mixed in. -/
set_option linter.unusedSimpArgs false
set_option linter.unusedVariables false
set_option maxRecDepth 100000
set_option maxHeartbeats 4000000
namespace Go.AM.Try
open Go.Proofs.Try
attribute [-simp] UInt8.toNat_toUInt32 UInt32.toNat_toUInt8 UInt32.toNat_or UInt32.toNat_and UInt32.toNat_xor UInt32.toNat_shiftLeft UInt32.toNat_shiftRight UInt32.toNat_add UInt32.toNat_not
attribute [-simp] z126
def is8 (a b c d e f g h : Int) : Prop := ∃ x : W8, a = x.a.toNat ∧ b = x.b.toNat ∧ c = x.c.toNat ∧ d = x.d.toNat ∧ e = x.e.toNat ∧ f = x.f.toNat ∧ g = x.g.toNat ∧ h = x.h.toNat
def w8 (a b c d e f g h : Int) : W8 := ⟨u32 a, u32 b, u32 c, u32 d, u32 e, u32 f, u32 g, u32 h⟩
@[simp] theorem is8_ok (x : W8) : is8 x.a.toNat x.b.toNat x.c.toNat x.d.toNat x.e.toNat x.f.toNat x.g.toNat x.h.toNat := ⟨x, rfl, rfl, rfl, rfl, rfl, rfl, rfl, rfl⟩
@[simp] theorem w8_ok (x : W8) : w8 x.a.toNat x.b.toNat x.c.toNat x.d.toNat x.e.toNat x.f.toNat x.g.toNat x.h.toNat = x := by simp [w8]
def mxC (s : List UInt8) (x : W8) (i : Nat) : St := ⟨[.any, .any, .rptr (wds Kt), .ptr 0 0, .any, .any, .ptr 1 0, .ptr 2 0, .any, .any, .any, .any, .any, .any, .any, .any, .any, .any, .any, .any, .any, .agg (wds (wl s 64)), .int .i64 i, .any, .any, .any, .any, .any, .any, .any, .any, .any, .any, .any, .any, .any, .any, .any, .any, .any, .any, .any, .any, .any, .any, .any, .any, .any, .any, .any, .any, .any, .any, .any, .any, .any, .any, .any, .any, .any, .any, .any, .any, .any, .any, .any, .any, .any, .any, .any, .any, .any, .any, .any, .any, .any, .any, .any, .any, .any, .any, .any, .any, .any, .any, .any, .any, .any, .any, .any, .any, .any, .any, .any, .any, .any, .any, .any, .any, .any, .any, .any], [(0, ⟨x.cells, 2, false⟩), (1, ⟨[.int .u32 0, .int .u32 0, .int .u32 0, .int .u32 0, .int .u32 0, .int .u32 0, .int .u32 0, .int .u32 0], 2, false⟩), (2, ⟨(roundsW s x i).cells, 2, false⟩)], 3⟩
theorem K31s : K31 6 ∧ K31 11 ∧ K31 25 ∧ K31 2 ∧ K31 13 ∧ K31 22 := by unfold K31; omega
def mxD (s : List UInt8) (x y : W8) (j : Nat) : St := ⟨[.any, .any, .any, .ptr 0 0, .any, .any, .ptr 1 0, .ptr 2 0, .any, .any, .any, .any, .any, .any, .any, .any, .any, .any, .any, .any, .any, .any, .any, .any, .any, .any, .any, .any, .any, .any, .any, .any, .any, .any, .any, .any, .any, .any, .any, .any, .any, .any, .any, .any, .any, .any, .any, .any, .any, .any, .any, .any, .any, .any, .any, .any, .any, .any, .any, .any, .any, .any, .any, .any, .any, .any, .any, .any, .any, .any, .any, .any, .any, .any, .any, .any, .any, .any, .any, .any, .any, .any, .any, .any, .any, .any, .any, .any, .any, .int .i64 j, .any, .any, .any, .any, .any, .any, .any, .any, .any, .any, .any, .any], [(0, ⟨wds (part8 x y j), 2, false⟩), (1, ⟨[.int .u32 0, .int .u32 0, .int .u32 0, .int .u32 0, .int .u32 0, .int .u32 0, .int .u32 0, .int .u32 0], 2, false⟩), (2, ⟨wds y.row, 2, false⟩)], 3⟩
open Classical in
noncomputable def g84 : List AV → Option AV
  | [.agg [.int .u32 a, .int .u32 b, .int .u32 c, .int .u32 d, .int .u32 e, .int .u32 f, .int .u32 g, .int .u32 h], .str s, .rptr rs] => if is8 a b c d e f g h ∧ s.length = 64 ∧ rs = wds Kt then some (.agg (mixW (w8 a b c d e f g h) s).cells) else none
  | _ => none
theorem t84 : ∀ args r, g84 args = some r → Told prog 84 args r := by
  intro args r h
  unfold g84 at h
  split at h <;> try (cases h; done)
  rename_i a b c d e f g h s rs
  split at h <;> try (cases h; done)
  rename_i hcond
  injection h with h; subst h
  refine told_fn (i := info 84) (n := 70) TTok L96ok mix fn84 po84 ?_
  obtain ⟨⟨x, rfl, rfl, rfl, rfl, rfl, rfl, rfl, rfl⟩, hs, rfl⟩ := hcond
  simp [f84, g96, hs]
  rw [iter_to (mxC s x) 64 (by omega)]
  · simp [mxC]
    obtain ⟨y, hy⟩ : ∃ y, roundsW s x 64 = y := ⟨_, rfl⟩
    rw [iter_to (mxD s x y) 8 (by omega)]
    · have e1 := part8_length x y (j := 8) (by omega)
      have e2 : List.take 8 (wds (part8 x y 8)) = (add8 x y).cells := rfl
      simp [mxD, e1, e2, mixW, hy]
      have e3 : List.take 8 (wds (add8 x y).row) = wds (add8 x y).row := rfl
      simp [W8.cells_row, e3]
    · simp [mxD, hy, part8, W8.cells_row]
    · intro i hi
      have w1 : IntKind.i64.wrap ((i : Int) + 1) = (i : Int) + 1 := wi64 (by omega) (by omega)
      have hi' : (i : Int) < 8 := by omega
      have hl := part8_length x y (j := i) (by omega)
      have st := wds_set (part8 x y i) i (wat (part8 x y i) i + wat y.row i) (by omega)
      rw [part8_set x y i hi] at st
      have hk : i + 1 ≤ 8 := by omega
      have g1 : (wds (part8 x y i))[i]? = some (.int .u32 ((wat (part8 x y i) i).toNat : Int)) := wds_at (by omega)
      have g2 : (wds y.row)[i]? = some (.int .u32 ((wat y.row i).toNat : Int)) := wds_at (by simpa using hi)
      simp [mxD, hi, hi', w1, hl, st, hk, g1, g2]
    · simp [mxD, stops]
  · simp [mxC, roundsW, W8.cells]
  · intro i hi
    have w1 : IntKind.i64.wrap ((i : Int) + 1) = (i : Int) + 1 := wi64 (by omega) (by omega)
    have hi' : (i : Int) < 64 := by omega
    have hk : (wds Kt)[i]? = some (.int .u32 ((wat Kt i).toNat : Int)) := wds_at (by rw [Kt_length]; exact hi)
    have hw : (wds (wl s 64))[i]? = some (.int .u32 ((wat (wl s 64) i).toNat : Int)) := wds_at (by simpa using hi)
    obtain ⟨y, hy⟩ : ∃ y, roundsW s x i = y := ⟨_, rfl⟩
    have e : roundsW s x (i + 1) = round1 y (wat Kt i) (wat (wl s 64) i) := by rw [roundsW, hy]
    simp (config := {maxSteps := 10000000}) [mxC, hi, hi', w1, hk, hw, hy, e, W8.cells, K31s.1, K31s.2.1, K31s.2.2.1, K31s.2.2.2.1, K31s.2.2.2.2.1, K31s.2.2.2.2.2, g97, round1, t1of, t2of]
  · simp [mxC, stops]
noncomputable abbrev L84 := AM.ext L96 84 g84
theorem L84ok : CallOK prog L84 := L96ok.ext fn84 (by kernel_rfl) t84
def allW : List UInt32 := first8.row ++ Kt
def g82 : List AV → Option AV
  | [] => some (.fp (wds allW))
  | _ => none
theorem t82 : ∀ args r, g82 args = some r → Told prog 82 args r := by
  intro args r h
  unfold g82 at h
  split at h <;> try (cases h; done)
  injection h with h; subst h
  refine told_fn (i := info 82) (n := 5) TTok L84ok mix fn82 po82 ?_
  kernel_rfl
noncomputable abbrev L82 := AM.ext L84 82 g82
theorem L82ok : CallOK prog L82 := L84ok.ext fn82 (by kernel_rfl) t82
end Go.AM.Try

