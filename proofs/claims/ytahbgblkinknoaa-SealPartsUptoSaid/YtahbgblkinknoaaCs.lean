import Derived.Test.YtahbgblkinknoaaCi
/- The sum, the document's own: a block. -/
set_option linter.unusedSimpArgs false
set_option linter.unusedVariables false
set_option maxRecDepth 100000
set_option maxHeartbeats 4000000
namespace Go.AM.Try
open Go.Proofs.Try
attribute [-simp] UInt8.toNat_toUInt32 UInt32.toNat_toUInt8 UInt32.toNat_or UInt32.toNat_and UInt32.toNat_xor UInt32.toNat_shiftLeft UInt32.toNat_shiftRight UInt32.toNat_add UInt32.toNat_not
def g69 : List AV → Option AV
  | [] => some (.fr 0 (wds Kt) 64 1)
  | _ => none
theorem t69 : ∀ args r, g69 args = some r → Told prog 69 args r := by
  intro args r h
  unfold g69 at h
  split at h <;> try (cases h; done)
  injection h with h; subst h
  refine told_fn (i := info 69) (n := 5) TTok L68ok mix fn69 po69 ?_
  kernel_rfl
noncomputable abbrev L69 := AM.ext L68 69 g69
theorem L69ok : CallOK prog L69 := L68ok.ext fn69 (by kernel_rfl) t69
def blA (x : W8) (s : List UInt8) (i : Nat) : St := ⟨[.sl true x.cells 8, .str s, .any, .any, .any, .ref 0 0 64 1, .int .i64 i, .any, .any, .any, .any, .any, .any, .any, .any, .any, .any, .any, .any, .any, .any, .any, .any, .any, .any, .any, .any, .any, .any, .any, .any, .any, .any, .any, .any, .any, .any, .any, .any, .any, .any, .any, .any, .any, .any, .any, .any, .any, .any, .any, .any, .any, .any, .any, .any, .any, .any, .any, .any, .any, .any, .any, .any, .any, .any, .any, .any, .any, .any, .any, .any, .any, .any, .any, .any, .any, .any, .any, .any, .any, .any, .any, .any, .any, .any, .any, .any, .any, .any, .any, .any, .any, .any, .any, .any, .any, .any, .any, .any, .any, .any, .any, .any, .any, .any, .any, .any, .any, .any, .any, .any, .any, .any, .any, .any, .any, .any, .any, .any, .any, .any, .any, .any, .any, .any, .any, .any, .any, .any, .any, .any, .any, .any, .any, .any, .any, .any, .any, .any, .any, .any, .any, .any, .any, .any, .any, .any, .any, .any, .any, .any, .any, .any, .any, .any, .any, .any, .any, .any, .any, .any, .any, .any, .any, .any, .any, .any, .any, .any, .any, .any, .any, .any, .any, .any, .any, .any, .any, .any, .any, .any, .any, .any, .any, .any, .any, .any, .any, .any, .any, .any, .any, .any, .any, .any, .any, .any, .any, .any, .any, .any, .any, .any, .any, .any, .any, .any, .any, .any, .any, .any, .any, .any, .any, .any, .any, .any, .any, .any, .any, .any, .any, .any, .any, .any, .any, .any, .any, .any, .any, .any, .any, .any, .any, .any, .any, .any, .any, .any, .any, .any, .any, .any, .any, .any, .any, .any, .any, .any, .any, .any, .any, .any, .any, .any], [(0, ⟨wds (wA s i), 0, false⟩)], 1⟩
def blB (x : W8) (s : List UInt8) (i : Nat) : St := ⟨[.sl true x.cells 8, .any, .any, .any, .any, .ref 0 0 64 1, .any, .int .i64 i, .any, .any, .any, .any, .any, .any, .any, .any, .any, .any, .any, .any, .any, .any, .any, .any, .any, .any, .any, .any, .any, .any, .any, .any, .any, .any, .any, .any, .any, .any, .any, .any, .any, .any, .any, .any, .any, .any, .any, .any, .any, .any, .any, .any, .any, .any, .any, .any, .any, .any, .any, .any, .any, .any, .any, .any, .any, .any, .any, .any, .any, .any, .any, .any, .any, .any, .any, .any, .any, .any, .any, .any, .any, .any, .any, .any, .any, .any, .any, .any, .any, .any, .any, .any, .any, .any, .any, .any, .any, .any, .any, .any, .any, .any, .any, .any, .any, .any, .any, .any, .any, .any, .any, .any, .any, .any, .any, .any, .any, .any, .any, .any, .any, .any, .any, .any, .any, .any, .any, .any, .any, .any, .any, .any, .any, .any, .any, .any, .any, .any, .any, .any, .any, .any, .any, .any, .any, .any, .any, .any, .any, .any, .any, .any, .any, .any, .any, .any, .any, .any, .any, .any, .any, .any, .any, .any, .any, .any, .any, .any, .any, .any, .any, .any, .any, .any, .any, .any, .any, .any, .any, .any, .any, .any, .any, .any, .any, .any, .any, .any, .any, .any, .any, .any, .any, .any, .any, .any, .any, .any, .any, .any, .any, .any, .any, .any, .any, .any, .any, .any, .any, .any, .any, .any, .any, .any, .any, .any, .any, .any, .any, .any, .any, .any, .any, .any, .any, .any, .any, .any, .any, .any, .any, .any, .any, .any, .any, .any, .any, .any, .any, .any, .any, .any, .any, .any, .any, .any, .any, .any, .any, .any, .any, .any, .any, .any, .any], [(0, ⟨wds (wA s i), 0, false⟩)], 1⟩
def blC (x : W8) (s : List UInt8) (i : Nat) : St := ⟨[.sl true x.cells 8, .any, .any, .any, .any, .ref 0 0 64 1, .any, .any, .any, .any, .ref 1 0 64 1, .ref 2 0 8 1, .int .i64 i, .any, .any, .any, .any, .any, .any, .any, .any, .any, .any, .any, .any, .any, .any, .any, .any, .any, .any, .any, .any, .any, .any, .any, .any, .any, .any, .any, .any, .any, .any, .any, .any, .any, .any, .any, .any, .any, .any, .any, .any, .any, .any, .any, .any, .any, .any, .any, .any, .any, .any, .any, .any, .any, .any, .any, .any, .any, .any, .any, .any, .any, .any, .any, .any, .any, .any, .any, .any, .any, .any, .any, .any, .any, .any, .any, .any, .any, .any, .any, .any, .any, .any, .any, .any, .any, .any, .any, .any, .any, .any, .any, .any, .any, .any, .any, .any, .any, .any, .any, .any, .any, .any, .any, .any, .any, .any, .any, .any, .any, .any, .any, .any, .any, .any, .any, .any, .any, .any, .any, .any, .any, .any, .any, .any, .any, .any, .any, .any, .any, .any, .any, .any, .any, .any, .any, .any, .any, .any, .any, .any, .any, .any, .any, .any, .any, .any, .any, .any, .any, .any, .any, .any, .any, .any, .any, .any, .any, .any, .any, .any, .any, .any, .any, .any, .any, .any, .any, .any, .any, .any, .any, .any, .any, .any, .any, .any, .any, .any, .any, .any, .any, .any, .any, .any, .any, .any, .any, .any, .any, .any, .any, .any, .any, .any, .any, .any, .any, .any, .any, .any, .any, .any, .any, .any, .any, .any, .any, .any, .any, .any, .any, .any, .any, .any, .any, .any, .any, .any, .any, .any, .any, .any, .any, .any, .any, .any, .any, .any, .any, .any, .any, .any, .any, .any, .any, .any, .any, .any, .any, .any, .any, .any], [(0, ⟨wds (wl s 64), 0, false⟩), (1, ⟨wds Kt, 0, false⟩), (2, ⟨(roundsW s x i).cells, 0, false⟩)], 3⟩
def blD (x y : W8) (i : Nat) : St := ⟨[.sl true x.cells 8, .any, .any, .any, .any, .any, .any, .any, .any, .any, .any, .ref 0 0 8 1, .any, .any, .any, .any, .any, .ref 1 0 i 1, .int .i64 i, .any, .any, .any, .any, .any, .any, .any, .any, .any, .any, .any, .any, .any, .any, .any, .any, .any, .any, .any, .any, .any, .any, .any, .any, .any, .any, .any, .any, .any, .any, .any, .any, .any, .any, .any, .any, .any, .any, .any, .any, .any, .any, .any, .any, .any, .any, .any, .any, .any, .any, .any, .any, .any, .any, .any, .any, .any, .any, .any, .any, .any, .any, .any, .any, .any, .any, .any, .any, .any, .any, .any, .any, .any, .any, .any, .any, .any, .any, .any, .any, .any, .any, .any, .any, .any, .any, .any, .any, .any, .any, .any, .any, .any, .any, .any, .any, .any, .any, .any, .any, .any, .any, .any, .any, .any, .any, .any, .any, .any, .any, .any, .any, .any, .any, .any, .any, .any, .any, .any, .any, .any, .any, .any, .any, .any, .any, .any, .any, .any, .any, .any, .any, .any, .any, .any, .any, .any, .any, .any, .any, .any, .any, .any, .any, .any, .any, .any, .any, .any, .any, .any, .any, .any, .any, .any, .any, .any, .any, .any, .any, .any, .any, .any, .any, .any, .any, .any, .any, .any, .any, .any, .any, .any, .any, .any, .any, .any, .any, .any, .any, .any, .any, .any, .any, .any, .any, .any, .any, .any, .any, .any, .any, .any, .any, .any, .any, .any, .any, .any, .any, .any, .any, .any, .any, .any, .any, .any, .any, .any, .any, .any, .any, .any, .any, .any, .any, .any, .any, .any, .any, .any, .any, .any, .any, .any, .any, .any, .any, .any, .any, .any, .any, .any, .any, .any, .any], [(0, ⟨y.cells, 0, false⟩), (1, ⟨wds ((add8 x y).row.take i), 0, false⟩)], 2⟩
theorem blA_zero (s : List UInt8) : wds (wA s 0) = List.replicate 64 (.int .u32 0) := rfl
def ref8 (a b c d e f g h : Int) (s : List UInt8) : W8 := mixW (w8 a b c d e f g h) s
open Classical in
noncomputable def g49 : List AV → Option AV
  | [.sl true [.int .u32 a, .int .u32 b, .int .u32 c, .int .u32 d, .int .u32 e, .int .u32 f, .int .u32 g, .int .u32 h] 8, .str s] => if is8 a b c d e f g h ∧ s.length = 64 then some (.fr 0 (wds (ref8 a b c d e f g h s).row) 8 1) else none
  | _ => none
theorem t49 : ∀ args r, g49 args = some r → Told prog 49 args r := by
  intro args r h
  unfold g49 at h
  split at h <;> try (cases h; done)
  rename_i a b c d e f g h s
  split at h <;> try (cases h; done)
  rename_i hcond
  injection h with h; subst h
  refine told_fn (i := info 49) (n := 70) TTok L69ok mix fn49 po49 ?_
  obtain ⟨⟨x, rfl, rfl, rfl, rfl, rfl, rfl, rfl, rfl⟩, hs⟩ := hcond
  have hx : ref8 x.a.toNat x.b.toNat x.c.toNat x.d.toNat x.e.toNat x.f.toNat x.g.toNat x.h.toNat s = mixW x s := by rw [ref8, w8_ok]
  rw [hx]
  simp (config := {maxSteps := 10000000}) [f49]
  rw [iter_to (blA x s) 16 (by omega)]
  · simp (config := {maxSteps := 10000000}) [blA]
    rw [iter_to (fun j => blB x s (16 + j)) 48 (by omega)]
    · have e2 : wA s 64 = wl s 64 := by simp (config := {maxSteps := 10000000}) [wA, zw]
      simp (config := {maxSteps := 10000000}) [blB, e2, g69, W8.cells]
      rw [iter_to (blC x s) 64 (by omega)]
      · obtain ⟨y, hy⟩ : ∃ y, roundsW s x 64 = y := ⟨_, rfl⟩
        simp (config := {maxSteps := 10000000}) [blC, hy]
        rw [iter_to (blD x y) 8 (by omega)]
        · have e3 : List.take 8 (wds (add8 x y).row) = wds (add8 x y).row := rfl
          have e4 : mixW x s = add8 x y := by rw [mixW, hy]
          have e5 : List.take 8 (add8 x y).row = (add8 x y).row := rfl
          simp (config := {maxSteps := 10000000}) [blD, e3, e4, e5]
        · simp (config := {maxSteps := 10000000}) [blD, W8.cells]; rfl
        · intro i hi
          obtain rfl | rfl | rfl | rfl | rfl | rfl | rfl | rfl : i = 0 ∨ i = 1 ∨ i = 2 ∨ i = 3 ∨ i = 4 ∨ i = 5 ∨ i = 6 ∨ i = 7 := by omega
          all_goals simp (config := {maxSteps := 10000000}) [blD, W8.cells, W8.row, wds, wd, add8]
        · simp (config := {maxSteps := 10000000}) [blD, stops]
      · simp (config := {maxSteps := 10000000}) [blC, roundsW, W8.cells]
      · intro i hi
        have w1 : IntKind.i64.wrap ((i : Int) + 1) = (i : Int) + 1 := wi64 (by omega) (by omega)
        have hi' : (i : Int) < 64 := by omega
        have hk : (wds Kt)[i]? = some (.int .u32 ((wat Kt i).toNat : Int)) := wds_at (by rw [Kt_length]; exact hi)
        have hw : (wds (wl s 64))[i]? = some (.int .u32 ((wat (wl s 64) i).toNat : Int)) := wds_at (by simpa using hi)
        obtain ⟨y, hy⟩ : ∃ y, roundsW s x i = y := ⟨_, rfl⟩
        have e : roundsW s x (i + 1) = round1 y (wat Kt i) (wat (wl s 64) i) := by rw [roundsW, hy]
        simp (config := {maxSteps := 10000000}) [blC, hi, hi', w1, hk, hw, hy, e, W8.cells, K31s.1, K31s.2.1, K31s.2.2.1, K31s.2.2.2.1, K31s.2.2.2.2.1, K31s.2.2.2.2.2, g68, round1, t1of, t2of, turn3]
      · simp (config := {maxSteps := 10000000}) [blC, stops]
    · simp (config := {maxSteps := 10000000}) [blB]
    · intro j hj
      obtain ⟨i, hij⟩ : ∃ i, 16 + j = i := ⟨_, rfl⟩
      have hij2 : 16 + (j + 1) = i + 1 := by omega
      have hi : i < 64 := by omega
      have h : ¬ i < 16 := by omega
      have hi' : (i : Int) < 64 := by omega
      have hl : (wA s i).length = 64 := wA_length s (by omega)
      have w1 : IntKind.i64.wrap ((i : Int) + 1) = (i : Int) + 1 := wi64 (by omega) (by omega)
      have q15 : (i : Int) - 15 = ((i - 15 : Nat) : Int) := by omega
      have q2 : (i : Int) - 2 = ((i - 2 : Nat) : Int) := by omega
      have q16 : (i : Int) - 16 = ((i - 16 : Nat) : Int) := by omega
      have q7 : (i : Int) - 7 = ((i - 7 : Nat) : Int) := by omega
      have ww : ∀ k : Nat, IntKind.i64.wrap ((i - k : Nat) : Int) = ((i - k : Nat) : Int) := fun k => wi64 (by omega) (by omega)
      have hk : ∀ k : Nat, ((i - k : Nat) : Int) < 64 := fun k => by omega
      have hg : ∀ k : Nat, 0 < k → k ≤ 16 → (wds (wA s i))[i - k]? = some (.int .u32 ((wat (wl s i) (i - k)).toNat : Int)) := fun k h1 h2 => wA_at s (by omega) (by omega)
      have hg' : ∀ k : Nat, 0 < k → k ≤ 16 → wat (wA s i) (i - k) = wat (wl s i) (i - k) := fun k h1 h2 => by
        have hlt : i - k < i := by omega
        simp (config := {maxSteps := 10000000}) [wat, wA, zw, List.getElem?_append, hlt]
      have g15 := hg 15 (by omega) (by omega)
      have g2 := hg 2 (by omega) (by omega)
      have g16 := hg 16 (by omega) (by omega)
      have g7 := hg 7 (by omega) (by omega)
      have st := wds_set (wA s i) i (nextW s (wl s i) i) (by omega)
      have st2 := wA_set s hi
      have nx : nextW s (wl s i) i = ((wat (wl s i) (i - 16) + sg (wat (wl s i) (i - 15)) 7 18 3) + wat (wl s i) (i - 7)) + sg (wat (wl s i) (i - 2)) 17 19 10 := by simp (config := {maxSteps := 10000000}) [nextW, h]
      rw [nx] at st st2
      have hk1 : i + 1 ≤ 64 := by omega
      have k31 : K31 7 ∧ K31 18 ∧ K31 17 ∧ K31 19 := by unfold K31; omega
      have sg1 : ∀ x : UInt32, rotr x 7 ^^^ rotr x 18 ^^^ x >>> 3 = sg x 7 18 3 := fun x => rfl
      have sg2 : ∀ x : UInt32, rotr x 17 ^^^ rotr x 19 ^^^ x >>> 10 = sg x 17 19 10 := fun x => rfl
      simp (config := {maxSteps := 10000000}) [blB, hij, hij2, hi, hi', w1, q15, q2, q16, q7, ww, hk, g15, g2, g16, g7, hg' 15, hg' 2, hg' 16, hg' 7, hl, k31.1, k31.2.1, k31.2.2.1, k31.2.2.2, g68, sg1, sg2, st, st2, hk1]
    · simp (config := {maxSteps := 10000000}) [blB, stops]
  · simp (config := {maxSteps := 10000000}) [blA, blA_zero, W8.cells]
  · intro i hi
    have hi' : (i : Int) < 16 := by omega
    have hi2 : (i : Int) < 64 := by omega
    have hl : (wA s i).length = 64 := wA_length s (by omega)
    have w1 : IntKind.i64.wrap ((i : Int) + 1) = (i : Int) + 1 := wi64 (by omega) (by omega)
    have w4 : ∀ k : Int, 0 ≤ k → k ≤ 3 → IntKind.i64.wrap (4 * (i : Int) + k) = 4 * (i : Int) + k := fun k h1 h2 => wi64 (by omega) (by omega)
    have w40 : IntKind.i64.wrap (4 * (i : Int)) = 4 * (i : Int) := wi64 (by omega) (by omega)
    have p0 : (0 : Int) ≤ 4 * (i : Int) := by omega
    have p1 : (0 : Int) ≤ 4 * (i : Int) + 1 := by omega
    have p2 : (0 : Int) ≤ 4 * (i : Int) + 2 := by omega
    have p3 : (0 : Int) ≤ 4 * (i : Int) + 3 := by omega
    have t0 : (4 * (i : Int)).toNat = 4 * i := by omega
    have t1 : (4 * (i : Int) + 1).toNat = 4 * i + 1 := by omega
    have t2 : (4 * (i : Int) + 2).toNat = 4 * i + 2 := by omega
    have t3 : (4 * (i : Int) + 3).toNat = 4 * i + 3 := by omega
    have g0 := get_some (s := s) (i := 4 * i) (by omega)
    have g1 := get_some (s := s) (i := 4 * i + 1) (by omega)
    have g2 := get_some (s := s) (i := 4 * i + 2) (by omega)
    have g3 := get_some (s := s) (i := 4 * i + 3) (by omega)
    have st := wds_set (wA s i) i (fourAt s (4 * i)) (by omega)
    have st2 := wA_set s (i := i) (by omega)
    have nx : nextW s (wl s i) i = fourAt s (4 * i) := by simp (config := {maxSteps := 10000000}) [nextW, hi]
    rw [nx] at st2
    have hv : fourAt s (4 * i) = be4 (s[4 * i]'(by omega)) (s[4 * i + 1]'(by omega)) (s[4 * i + 2]'(by omega)) (s[4 * i + 3]'(by omega)) := by simp (config := {maxSteps := 10000000}) [fourAt, g0, g1, g2, g3]
    rw [hv] at st st2
    unfold be4 at st st2
    have hk : i + 1 ≤ 64 := by omega
    simp (config := {maxSteps := 10000000}) [blA, hi, hi', hi2, hl, w1, w40, w4 1 (by omega) (by omega), w4 2 (by omega) (by omega), w4 3 (by omega) (by omega), p0, p1, p2, p3, t0, t1, t2, t3, g0, g1, g2, g3, st, st2, hk]
  · simp (config := {maxSteps := 10000000}) [blA, stops]
noncomputable abbrev L49 := AM.ext L69 49 g49
theorem L49ok : CallOK prog L49 := L69ok.ext fn49 (by kernel_rfl) t49
end Go.AM.Try

