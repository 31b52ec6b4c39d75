import Derived.Test.YtahbgblkinknoaaIn
import Derived.Test.YtahbgblkinknoaaWk
/- Bytes, read: plain words. -/
set_option linter.unusedSimpArgs false
set_option linter.unusedVariables false
namespace Go.AM
def ghK (s : List UInt8) : Int := ((s.getD 1 0).toNat : Int)
def ghN (s : List UInt8) : Int := ofB ((s.drop 2).take 2) 2
def ghR (s : List UInt8) : Int := ofB ((s.drop 4).take 4) 4
def ghOk (s : List UInt8) : Bool := headMay (ghK s) (ghR s) (ghN s) && (headB (ghK s) (ghR s) (ghN s) == s.take 12)
def trMay (k b c : Int) (t : List UInt8) : Bool := inR 0 255 k && ((inR 1 4294967295 b && inR 1 4294967295 c) && decide (t.length = 32))
def trB (k b c : Int) (t : List UInt8) : List UInt8 := numsB k b c ++ t
def gtK (s : List UInt8) : Int := ((s.getD 0 0).toNat : Int)
def gtB (s : List UInt8) : Int := ofB ((s.drop 4).take 4) 4
def gtC (s : List UInt8) : Int := ofB ((s.drop 8).take 4) 4
def gtT (s : List UInt8) : List UInt8 := s.drop 12
def gtOk (s : List UInt8) : Bool := trMay (gtK s) (gtB s) (gtC s) (gtT s) && (trB (gtK s) (gtB s) (gtC s) (gtT s) == s)
def heL (r : List UInt8) : List Int := r.map fun c => (c.toNat : Int)
def heOk : List UInt8 → Bool
  | [] => false
  | c :: r => decide ((c.toNat : Int) = (r.length : Int)) && helloMay (heL r)
/-- The head at a place. -/
def hdAt (r : List UInt8) (j : Nat) : Hd := ⟨((r.getD (8 * j) 0).toNat : Int), ofB ((r.drop (8 * j + 2)).take 4) 4, ((r.getD (8 * j + 1) 0).toNat : Int), ofB ((r.drop (8 * j + 6)).take 2) 2⟩
def akL (r : List UInt8) : Nat → List Hd
  | 0 => []
  | k + 1 => akL r k ++ [hdAt r k]
@[simp] theorem akL_length (r : List UInt8) : ∀ k, (akL r k).length = k
  | 0 => rfl
  | k + 1 => by simp [akL, akL_length r k]
theorem headC_append (a b : List Hd) : headC (a ++ b) = headC a ++ headC b := by simp [headC]
def akOk : List UInt8 → Bool
  | [] => false
  | c :: r => decide (r.length = 8 * c.toNat) && ackMay (akL r c.toNat)
/-- The links that stand in bytes. -/
def lkAt (s : List UInt8) (p i : Nat) : Lk := ⟨((s.getD (p + 7 + 3 * i) 0).toNat : Int), ofB ((s.drop (p + 8 + 3 * i)).take 2) 2⟩
def lkL (s : List UInt8) (p : Nat) : Nat → List Lk
  | 0 => []
  | k + 1 => lkL s p k ++ [lkAt s p k]
@[simp] theorem lkL_length (s : List UInt8) (p : Nat) : ∀ k, (lkL s p k).length = k
  | 0 => rfl
  | k + 1 => by simp [lkL, lkL_length s p k]
def glK (s : List UInt8) (p : Nat) : Nat := (s.getD (p + 6) 0).toNat
def glR (s : List UInt8) (p : Nat) : Int := ((s.getD (p + 1) 0).toNat : Int)
def glS (s : List UInt8) (p : Nat) : Int := ofB ((s.drop (p + 2)).take 4) 4
def glG (s : List UInt8) (p : Nat) : Int := ((s.getD p 0).toNat : Int)
def glA (s : List UInt8) (p : Nat) : Lsa := ⟨glR s p, glS s p, glG s p, lkL s p (glK s p)⟩
def glE (s : List UInt8) (p : Nat) : Nat := p + 9 + 3 * glK s p
def glOk (s : List UInt8) (p : Nat) : Bool := decide (p + 7 ≤ s.length) && (decide (glE s p ≤ s.length) && (decide (glK s p ≤ 4) && (lsaMay (glA s p) && (lsaB (glA s p) == (s.drop p).take (glE s p - p)))))
theorem linkC_append (a b : List Lk) : linkC (a ++ b) = linkC a ++ linkC b := by simp [linkC]
/-- So many Lsas, one behind the other; where the last one ends. -/
def gu (s : List UInt8) : Nat → Option (List Lsa × Nat)
  | 0 => some ([], 1)
  | j + 1 => match gu s j with
    | some (l, p) => if glOk s p then some (l ++ [glA s p], glE s p) else none
    | none => none
theorem gu_some {s : List UInt8} : ∀ {N : Nat} {l : List Lsa} {p : Nat}, gu s N = some (l, p) → ∀ i, i < N → ∃ m q, gu s i = some (m, q) ∧ glOk s q = true ∧ gu s (i + 1) = some (m ++ [glA s q], glE s q)
  | 0, _, _, _, i, hi => by omega
  | N + 1, l, p, h, i, hi => by
    have h0 := h
    simp only [gu] at h
    split at h
    · rename_i m q hm
      split at h
      · rename_i hok
        rcases Nat.lt_or_ge i N with h1 | h1
        · exact gu_some hm i h1
        · have : i = N := by omega
          subst this
          exact ⟨m, q, hm, hok, by rw [gu, hm]; simp [hok]⟩
      · cases h
    · cases h
theorem gu_len {s : List UInt8} : ∀ {N : Nat} {l : List Lsa} {p : Nat}, gu s N = some (l, p) → l.length = N ∧ 1 ≤ p ∧ (s ≠ [] → p ≤ s.length) ∧ ∀ a ∈ l, a.links.length ≤ 4
  | 0, l, p, h => by
    simp only [gu, Option.some.injEq, Prod.mk.injEq] at h
    obtain ⟨rfl, rfl⟩ := h
    refine ⟨rfl, Nat.le_refl 1, fun h => ?_, by simp⟩
    cases s with
    | nil => exact absurd rfl h
    | cons c r => simp
  | N + 1, l, p, h => by
    simp only [gu] at h
    split at h
    · rename_i m q hm
      obtain ⟨h1, h2, h3, h4⟩ := gu_len hm
      split at h
      · rename_i hok
        simp only [Option.some.injEq, Prod.mk.injEq] at h
        obtain ⟨rfl, rfl⟩ := h
        simp only [glOk, Bool.and_eq_true, decide_eq_true_eq] at hok
        refine ⟨by simp [h1], by unfold glE; omega, fun _ => hok.2.1, fun a ha => ?_⟩
        rcases List.mem_append.1 ha with ha | ha
        · exact h4 a ha
        · simp only [List.mem_singleton] at ha
          subst ha
          simp [glA]
          exact hok.2.2.1
      · cases h
    · cases h
theorem gu_stop (s : List UInt8) : ∀ n : Nat, ∃ N l p, N ≤ n ∧ gu s N = some (l, p) ∧ ((N = n) ∨ (N < n ∧ glOk s p = false ∧ gu s n = none))
  | 0 => ⟨0, [], 1, Nat.le_refl 0, rfl, .inl rfl⟩
  | n + 1 => by
    obtain ⟨N, l, p, h1, h2, h3⟩ := gu_stop s n
    rcases h3 with rfl | ⟨h3, h4, h5⟩
    · cases hk : glOk s p
      · exact ⟨N, l, p, by omega, h2, .inr ⟨by omega, hk, by rw [gu, h2]; simp [hk]⟩⟩
      · exact ⟨N + 1, l ++ [glA s p], glE s p, Nat.le_refl _, by rw [gu, h2]; simp [hk], .inl rfl⟩
    · exact ⟨N, l, p, by omega, h2, .inr ⟨by omega, h4, by rw [gu, h5]⟩⟩
def guOk (s : List UInt8) : Bool := match s with
  | [] => false
  | c :: _ => match gu s c.toNat with
    | some (l, p) => decide (p = s.length) && updMay l
    | none => false
def guV (s : List UInt8) : List Lsa := match gu s (s.getD 0 0).toNat with
  | some (l, _) => l
  | none => []
/-- A packet's bytes, read. -/
def gpOk (s : List UInt8) : Bool := decide (12 ≤ s.length) && (ghOk s && (decide (ghN s = s.length) && (if ghK s = 1 then heOk (s.drop 12) else if ghK s = 4 then guOk (s.drop 12) else akOk (s.drop 12))))
def gpHe (s : List UInt8) : List Int := if ghK s = 1 then heL (s.drop 12).tail else []
def gpLs (s : List UInt8) : List Lsa := if ghK s = 1 then [] else if ghK s = 4 then guV (s.drop 12) else []
def gpHs (s : List UInt8) : List Hd := if ghK s = 1 then [] else if ghK s = 4 then [] else akL (s.drop 12).tail ((s.drop 12).getD 0 0).toNat
end Go.AM
