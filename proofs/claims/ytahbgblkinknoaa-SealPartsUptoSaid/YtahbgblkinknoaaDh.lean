import Derived.Test.YtahbgblkinknoaaDg
/- What the document's own answer reads: an update. -/
set_option linter.unusedSimpArgs false
set_option linter.unusedVariables false
set_option maxRecDepth 100000
set_option maxHeartbeats 4000000
namespace Go.AM.Try
open Go.Proofs.Try
attribute [-simp] strA
attribute [simp] strA_addc strA_eql strA_neq
def kd1 (j : Nat) : Nat := if j = 0 then 0 else 1
def guSt (s : List UInt8) (l : List Lsa) (p j : Nat) : St := ⟨[.str s, .any, .any, .any, .ref 0 0 j 4, .int .i64 (p : Int), .any, .any, .any, .any, .any, .any, .any, .any, .any, .any, .any, .any, .any, .any, .any, .any, .any, .any, .any, .any, .any, .any, .any, .any, .any, .any, .any, .any, .any, .any, .any, .any, .any, .any, .any, .any, .any], [(0, ⟨lsaC l, kd1 j, false⟩)], 1⟩
def guC (s : List UInt8) (j : Nat) : St := match gu s j with
  | some (l, p) => guSt s l p j
  | none => ⟨[], [], 0⟩
theorem guC_some {s : List UInt8} {j : Nat} {l : List Lsa} {p : Nat} (h : gu s j = some (l, p)) : guC s j = guSt s l p j := by rw [guC, h]
theorem lsaC_snoc (m : List Lsa) (s : List UInt8) (q : Nat) : lsaC (m ++ [glA s q]) = lsaC m ++ [.int .i64 (glR s q), .int .i64 (glS s q), .int .i64 (glG s q), .sl true (linkC (lkL s q (glK s q))) (glK s q)] := by
  simp [lsaC, Lsa.cells, glA, linkV]
@[simp] theorem lsaC_len (l : List Lsa) : (lsaC l).length = l.length * 4 := length_flat Lsa.cells 4 (fun _ => rfl) l
open Classical in
noncomputable def g25 : List AV → Option AV
  | [.str s] => if s.length ≤ 10000000 then some (.tup (if guOk s then [.fr (kd1 (guV s).length) (lsaC (guV s)) (guV s).length 4, .int .i64 0] else [.fr 0 [] 0 4, .int .i64 1000])) else none
  | _ => none
theorem t25 : ∀ args r, g25 args = some r → Told prog 25 args r := by
  intro args r h
  unfold g25 at h
  split at h <;> try (cases h; done)
  rename_i s
  split at h <;> try (cases h; done)
  rename_i hcond
  injection h with h; subst h
  refine told_fn (i := info 25) (n := 300) TTok LK1ok mix fn25 po25 ?_
  obtain hs | ⟨c, r, hs⟩ : s = [] ∨ ∃ c r, s = c :: r := by cases s <;> simp
  · subst hs
    simp [f25, iter, guOk]
  obtain ⟨N, l, p, hN, hg, hend⟩ := gu_stop s c.toNat
  have hc8 := c.toNat_lt
  have e0 : s.isEmpty = false := by rw [hs]; rfl
  have e1 : s[0]? = some c := by rw [hs]; rfl
  have e2 : s ≠ [] := by rw [hs]; simp
  have e3 : s.getD 0 0 = c := by rw [hs]; rfl
  have hV : ∀ l p, gu s c.toNat = some (l, p) → guV s = l ∧ guOk s = (decide (p = s.length) && updMay l) := fun l p h => by
    refine ⟨by unfold guV; rw [e3, h], ?_⟩
    subst hs
    unfold guOk
    simp only [h]
  have hF : gu s c.toNat = none → guOk s = false := fun h => by
    subst hs
    unfold guOk
    simp only [h]
  have hcond' : s.length ≤ 10000000 := hcond
  have wc : IntKind.i64.wrap (c.toNat : Int) = (c.toNat : Int) := wi64 (by omega) (by omega)
  have gl : ∀ i l p, gu s i = some (l, p) → l.length = i ∧ 1 ≤ p ∧ p ≤ s.length ∧ smallL l := fun i l p h => by
    obtain ⟨g1, g2, g3, g4⟩ := gu_len h
    exact ⟨g1, g2, g3 e2, fun a ha => by have := g4 a ha; omega⟩
  have wl : (s.length : Int) ≤ 10000000 := by omega
  have hl8 : s.length ≤ 100000000 := by omega
  simp [f25]
  rw [iter_to (guC s) N (by omega)]
  · rw [guC_some hg]
    obtain ⟨hlen, hp1, hp2, hsm⟩ := gl N l p hg
    have hp3 : (p : Int) ≤ 100000000 := by omega
    rcases hend with rfl | ⟨h1, h2, h3⟩
    · obtain ⟨v1, v2⟩ := hV l p hg
      rw [v2, v1]
      have hlt : ¬ ((c.toNat : Int) < (c.toNat : Int)) := by omega
      have hok : okLsas (.sl false (lsaC l) c.toNat) := by
        have := (okLsas_sl l).2 ⟨by omega, hsm⟩
        rw [hlen] at this; exact this
      have hun : unLsas (.sl false (lsaC l) c.toNat) = l := by
        have := unLsas_sl l
        rw [hlen] at this; exact this
      by_cases hp : p = s.length
      · have hpi : (p : Int) = (s.length : Int) := by omega
        rcases Nat.eq_zero_or_pos c.toNat with h5 | h5
        · have hl0 : l = [] := List.eq_nil_of_length_eq_zero (by omega)
          subst hl0
          have ok0 : okLsas (.sl true [] 0) := ⟨AVle.sl (.inl rfl) 0 .nil, by simp [unLsas, unAC], by simp [unLsas, unAC, smallL]⟩
          have un0 : unLsas (.sl true [] 0) = [] := rfl
          have ln : lsaC [] = [] := rfl
          have um : updMay [] = true := rfl
          simp [guSt, kd1, h5, e0, e1, e2, wc, hp, hpi, ln, ok0, un0, um, g36]
        · have h6 : ¬ c.toNat = 0 := by omega
          have h7 : ¬ l = [] := by intro e; rw [e] at hlen; simp at hlen; omega
          cases hu : updMay l
          · simp [guSt, kd1, h6, e0, e1, e2, wc, hp, hpi, hok, hun, hu, g36]
          · simp [guSt, kd1, h6, h7, e0, e1, e2, wc, hp, hpi, hok, hun, hu, hlen, g36]
      · have hpi : ¬ (p : Int) = (s.length : Int) := by omega
        simp [guSt, e0, e1, e2, wc, hp, hpi]
    · have hlt : ((N : Int) < (c.toNat : Int)) := by omega
      have hNc : N < c.toNat := h1
      rw [hF h3]
      simp [guSt, e0, e1, e2, wc, hlt, hNc, h2, hp3, hl8, gGetLsa]
  · rw [guC]; simp [gu, guSt, lsaC, kd1]
  · intro i hi
    obtain ⟨m, q, g1, g2, g3⟩ := gu_some hg i hi
    rw [guC_some g1, guC_some g3]
    obtain ⟨hlen, hp1, hp2, hsm⟩ := gl i m q g1
    have hp3 : (q : Int) ≤ 100000000 := by omega
    have hlt : ((i : Int) < (c.toNat : Int)) := by omega
    have hlt' : i < c.toNat := by omega
    have hb : i + 1 ≤ 1000000000 := by omega
    rcases Nat.eq_zero_or_pos i with h5 | h5
    · subst h5
      have hm0 : m = [] := List.eq_nil_of_length_eq_zero hlen
      subst hm0
      simp [guSt, kd1, e0, e1, e2, wc, hlt', g2, hp3, hl8, gGetLsa, lsaC_snoc]
      simp [lsaC, Lsa.cells, glA, linkV]
    · have h6 : ¬ i = 0 := by omega
      simp [guSt, kd1, h6, e0, e1, e2, wc, hlt, hlt', g2, hp3, hl8, hb, hlen, gGetLsa, lsaC_snoc]
  · rw [guC_some hg]
    obtain ⟨hlen, hp1, hp2, hsm⟩ := gl N l p hg
    have hp3 : (p : Int) ≤ 100000000 := by omega
    rcases hend with rfl | ⟨h1, h2, h3⟩
    · simp [guSt, e0, e1, e2, wc, stops]
    · have hlt : ((N : Int) < (c.toNat : Int)) := by omega
      have hNc : N < c.toNat := h1
      simp [guSt, e0, e1, e2, wc, hlt, hNc, h2, hp3, hl8, gGetLsa, stops]
noncomputable abbrev L25 := AM.ext LK1 25 g25
theorem L25ok : CallOK prog L25 := LK1ok.ext fn25 (by kernel_rfl) t25
end Go.AM.Try

