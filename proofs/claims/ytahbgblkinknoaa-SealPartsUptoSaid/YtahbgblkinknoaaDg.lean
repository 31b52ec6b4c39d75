import Derived.Test.YtahbgblkinknoaaCz
/- What the document's own answer reads: an Lsa. -/
set_option linter.unusedSimpArgs false
set_option linter.unusedVariables false
set_option maxRecDepth 100000
set_option maxHeartbeats 40000000
namespace Go.AM.Try
open Go.Proofs.Try
attribute [-simp] strA
attribute [simp] strA_addc strA_eql strA_neq
def lkV (l : List Lk) (k : Nat) : AV := if k = 0 then .snil else .fr 0 (linkC l) k 2
def glC (s : List UInt8) (p : Nat) (r sr g : Int) (K E j : Nat) : St :=
  ⟨[.str s, .int .i64 p, .any, .any, .ptr 0 0, .any, .any, .ptr 1 0, .int .i64 K, .int .i64 E, .int .i64 j, .any, .any, .any, .any, .any, .any, .any, .any, .any, .any, .any, .any, .any, .any, .any, .any, .any, .any, .any, .any, .any, .any, .any, .any, .any, .any, .any, .any, .any, .any, .any, .any, .any, .any, .any, .any, .any, .any, .any, .any, .any, .any, .any, .any, .any, .any, .any, .any, .any, .any, .any, .any, .any, .any, .any, .any, .any, .any, .any, .any, .any, .any, .any, .any, .any, .any, .any, .any, .any, .any, .any, .any, .any, .any, .any, .any, .any, .any, .any, .any, .any, .any, .any, .any, .any, .any, .any, .any, .any, .any, .any, .any, .any, .any],
   [(0, ⟨[.int .i64 0, .int .i64 0, .int .i64 0, .snil], 2, false⟩), (1, ⟨[.int .i64 r, .int .i64 sr, .int .i64 g, if j = 0 then .snil else .ref 2 0 j 2], 2, false⟩)] ++ (if j = 0 then [] else [(2, ⟨linkC (lkL s p j), 0, false⟩)]), if j = 0 then 2 else 3⟩
open Classical in
noncomputable def g47 : List AV → Option AV
  | [.str s, .int .i64 a] => if s.length ≤ 100000000 ∧ 0 ≤ a ∧ a ≤ 100000000 then some (.tup (if glOk s a.toNat then [.agg [.int .i64 (glR s a.toNat), .int .i64 (glS s a.toNat), .int .i64 (glG s a.toNat), lkV (lkL s a.toNat (glK s a.toNat)) (glK s a.toNat)], .int .i64 (glE s a.toNat), .int .i64 0] else [.agg [.int .i64 0, .int .i64 0, .int .i64 0, .snil], .int .i64 0, .int .i64 700])) else none
  | _ => none
theorem t47 : ∀ args r, g47 args = some r → Told prog 47 args r := by
  intro args r h
  unfold g47 at h
  split at h <;> try (cases h; done)
  rename_i s a
  split at h <;> try (cases h; done)
  rename_i hcond
  injection h with h; subst h
  refine told_fn (i := info 47) (n := 300) TTok L26ok mix fn47 po47 ?_
  obtain ⟨hl, ha, ha2⟩ := hcond
  obtain ⟨p, rfl⟩ : ∃ p : Nat, a = p := ⟨a.toNat, by omega⟩
  have w0 : IntKind.i64.wrap ((s.length : Int) - 7) = (s.length : Int) - 7 := wi64 (by omega) (by omega)
  have z0 : ¬ (p : Int) < 0 := by omega
  rw [Int.toNat_natCast]
  by_cases h1 : p + 7 ≤ s.length
  · have h1i : ¬ (s.length : Int) - 7 < (p : Int) := by omega
    have g0 : s[p]? = some (s[p]'(by omega)) := by first | (simp; done) | (simp; omega)
    have g1 : s[p + 1]? = some (s[p + 1]'(by omega)) := by first | (simp; done) | (simp; omega)
    have g6 : s[p + 6]? = some (s[p + 6]'(by omega)) := by first | (simp; done) | (simp; omega)
    obtain ⟨K, hK⟩ : ∃ K, glK s p = K := ⟨_, rfl⟩
    have hK6 : (s[p + 6]'(by omega)).toNat = K := by rw [← hK]; simp [glK, g6]
    have hK8 : K < 256 := by rw [← hK6]; exact (s[p + 6]'(by omega)).toNat_lt
    obtain ⟨E, hE⟩ : ∃ E, glE s p = E := ⟨_, rfl⟩
    have hE2 : p + 9 + 3 * K = E := by rw [← hE, glE, hK]
    have hEi : (p : Int) + 9 + 3 * (K : Int) = (E : Int) := by omega
    have t1 : ((p : Int) + 1).toNat = p + 1 := by omega
    have t2 : ((p : Int) + 2).toNat = p + 2 := by omega
    have t6 : ((p : Int) + 6).toNat = p + 6 := by omega
    have n1 : (0 : Int) ≤ (p : Int) + 1 := by omega
    have n2 : (0 : Int) ≤ (p : Int) + 2 := by omega
    have n6 : (0 : Int) ≤ (p : Int) + 6 := by omega
    have q6 : (p : Int) + 6 ≤ s.length := by omega
    have l6 : (p : Int) + 2 ≤ (p : Int) + 6 := by omega
    have d6 : p + 6 - (p + 2) = 4 := by omega
    have m4 : min 4 (s.length - (p + 2)) = 4 := by omega
    have m5 : 4 ≤ s.length - (p + 2) := by omega
    have k0 : ((s[p]'(by omega)).toNat : Int) = glG s p := by simp [glG, g0]
    have k1 : ((s[p + 1]'(by omega)).toNat : Int) = glR s p := by simp [glR, g1]
    have k2 : ofB (List.take 4 (List.drop (p + 2) s)) 4 = glS s p := rfl
    have u0 : IntKind.i64.wrap (glG s p) = glG s p := by rw [← k0]; exact i64_u8 _
    have u1 : IntKind.i64.wrap (glR s p) = glR s p := by rw [← k1]; exact i64_u8 _
    have u6 : IntKind.i64.wrap (K : Int) = (K : Int) := wi64 (by omega) (by omega)
    obtain ⟨R, hR⟩ : ∃ R, glR s p = R := ⟨_, rfl⟩
    obtain ⟨S, hS⟩ : ∃ S, glS s p = S := ⟨_, rfl⟩
    obtain ⟨G, hG⟩ : ∃ G, glG s p = G := ⟨_, rfl⟩
    have hA : glA s p = ⟨R, S, G, lkL s p K⟩ := by rw [glA, hR, hS, hG, hK]
    rw [hG] at k0 u0
    rw [hR] at k1 u1
    rw [hS] at k2
    have v1 : IntKind.i64.wrap ((p : Int) + 1) = (p : Int) + 1 := wi64 (by omega) (by omega)
    have v2 : IntKind.i64.wrap ((p : Int) + 2) = (p : Int) + 2 := wi64 (by omega) (by omega)
    have v6 : IntKind.i64.wrap ((p : Int) + 6) = (p : Int) + 6 := wi64 (by omega) (by omega)
    have v9 : IntKind.i64.wrap ((p : Int) + 9) = (p : Int) + 9 := wi64 (by omega) (by omega)
    have v3 : IntKind.i64.wrap (3 * (K : Int)) = 3 * (K : Int) := wi64 (by omega) (by omega)
    have vE : IntKind.i64.wrap (E : Int) = (E : Int) := wi64 (by omega) (by omega)
    have m4' : (List.take 4 (List.drop (p + 2) s)).length = 4 := by simp; omega
    have okE : glOk s p = (decide (E ≤ s.length) && (decide (K ≤ 4) && (lsaMay (glA s p) && (lsaB (glA s p) == (s.drop p).take (E - p))))) := by
      simp [glOk, h1, hE, hK]
    by_cases h2 : E ≤ s.length
    · have h2i : ¬ (s.length : Int) < (E : Int) := by omega
      by_cases h3 : K ≤ 4
      · have h3i : ¬ 4 < (K : Int) := by omega
        simp [f47, hl, w0, z0, h1i, g0, g1, g6, hK6, hEi, t1, t2, t6, n1, n2, n6, q6, l6, d6, m4, m5, k0, k1, k2, u0, u1, u6, v1, v2, v6, v9, v3, vE, g27, h2i, h3i]
        rw [iter_to (glC s p R S G K E) K (by omega)]
        · have okE2 : glOk s p = (lsaMay ⟨R, S, G, lkL s p K⟩ && (lsaB ⟨R, S, G, lkL s p K⟩ == (s.drop p).take (E - p))) := by rw [okE, hA]; simp [h2, h3]
          have hok : okLinks (.sl true (linkC (lkL s p K)) K) := by
            have := (okLinks_V (lkL s p K)).2 (by simp; omega)
            simpa [linkV] using this
          have hun : unLinks (.sl true (linkC (lkL s p K)) K) = lkL s p K := by
            have := unLinks_linkV (lkL s p K)
            simpa [linkV] using this
          have e1 : (E : Int) ≤ s.length := by omega
          have e2 : (p : Int) ≤ E := by omega
          have e3 : p ≤ E := by omega
          rw [okE2]
          rcases Nat.eq_zero_or_pos K with h5 | h5
          · subst h5
            cases hm : lsaMay ⟨R, S, G, lkL s p 0⟩
            · simp only [lkL] at hm
              simp [glC, lkL, lkV, hm, h2, e1, e2, e3, g66]
            · cases he : lsaB ⟨R, S, G, lkL s p 0⟩ == (s.drop p).take (E - p)
              · have he' : ¬ lsaB ⟨R, S, G, lkL s p 0⟩ = (s.drop p).take (E - p) := by simpa using he
                simp only [lkL] at hm he he'
                simp [glC, lkL, lkV, hm, he, he', h2, e1, e2, e3, hR, hS, hG, hK, hE, g66]
              · have he' : lsaB ⟨R, S, G, lkL s p 0⟩ = (s.drop p).take (E - p) := by simpa using he
                simp only [lkL] at hm he he'
                simp [glC, lkL, lkV, hm, he, he', h2, e1, e2, e3, hR, hS, hG, hK, hE, g66]
          · have h6 : ¬ K = 0 := by omega
            cases hm : lsaMay ⟨R, S, G, lkL s p K⟩
            · simp [glC, lkV, h6, hm, hok, hun, h2, e1, e2, e3, g66]
            · cases he : lsaB ⟨R, S, G, lkL s p K⟩ == (s.drop p).take (E - p)
              · have he' : ¬ lsaB ⟨R, S, G, lkL s p K⟩ = (s.drop p).take (E - p) := by simpa using he
                simp [glC, lkV, h6, hm, hok, hun, he, he', h2, e1, e2, e3, hR, hS, hG, hK, hE, g66]
              · have he' : lsaB ⟨R, S, G, lkL s p K⟩ = (s.drop p).take (E - p) := by simpa using he
                simp [glC, lkV, h6, hm, hok, hun, he, he', h2, e1, e2, e3, hR, hS, hG, hK, hE, g66]
        · simp [glC]
        · intro j hj
          clear m4 m5 d6 m4' l6 q6 n1 n2 n6 t1 t2 t6 okE w0 u0 u1 u6 v1 v2 v6 v9 v3 vE k0 k1 k2 g0 g1 g6 hK6 hK hE hR hS hG hA
          obtain ⟨Q, hQ⟩ : ∃ Q, p + 7 + 3 * j = Q := ⟨_, rfl⟩
          have hQi : (p : Int) + 7 + 3 * (j : Int) = (Q : Int) := by omega
          have hQ3 : Q + 3 ≤ s.length := by omega
          have x0 : IntKind.i64.wrap ((p : Int) + 7) = (p : Int) + 7 := wi64 (by omega) (by omega)
          have x1 : IntKind.i64.wrap (3 * (j : Int)) = 3 * (j : Int) := wi64 (by omega) (by omega)
          have x2 : IntKind.i64.wrap (Q : Int) = (Q : Int) := wi64 (by omega) (by omega)
          have x3 : IntKind.i64.wrap ((Q : Int) + 1) = (Q : Int) + 1 := wi64 (by omega) (by omega)
          have x4 : IntKind.i64.wrap ((Q : Int) + 3) = (Q : Int) + 3 := wi64 (by omega) (by omega)
          have x5 : IntKind.i64.wrap ((j : Int) + 1) = (j : Int) + 1 := wi64 (by omega) (by omega)
          have y0 : s[Q]? = some (s[Q]'(by omega)) := by first | (simp; done) | (simp; omega)
          have y1 : ((Q : Int) + 1).toNat = Q + 1 := by omega
          have y3 : ((Q : Int) + 3).toNat = Q + 3 := by omega
          have y4 : (0 : Int) ≤ (Q : Int) + 1 := by omega
          have y5 : (0 : Int) ≤ (Q : Int) + 3 := by omega
          have y6 : (Q : Int) + 3 ≤ s.length := by omega
          have y7 : (Q : Int) + 1 ≤ (Q : Int) + 3 := by omega
          have jb : (j : Int) < (K : Int) := by omega
          have jc : j + 1 ≤ 1000000000 := by omega
          have hs : linkC (lkL s p (j + 1)) = linkC (lkL s p j) ++ [.int .i64 ((s[Q]'(by omega)).toNat : Int), .int .i64 (ofB ((s.drop (Q + 1)).take 2) 2)] := by
            rw [lkL, linkC_append]
            have : p + 8 + 3 * j = Q + 1 := by omega
            simp [linkC, Lk.cells, lkAt, hQ, this, y0]
          have y8 : Q + 3 - (Q + 1) = 2 := by omega
          have y9 : (List.take 2 (List.drop (Q + 1) s)).length = 2 := by simp; omega
          have ya : min 2 (s.length - (Q + 1)) = 2 := by omega
          have yb : 2 ≤ s.length - (Q + 1) := by omega
          rcases Nat.eq_zero_or_pos j with h5 | h5
          · subst h5
            have hQ0 : (p : Int) + 7 = (Q : Int) := by omega
            rw [show linkC (lkL s p 0) = [] from rfl, List.nil_append, Nat.zero_add] at hs
            simp [glC, hj, jb, hQ0, x2, x3, x4, y0, y1, y3, y4, y5, y6, y7, y8, y9, ya, yb, hs, g27]
          · have h6 : ¬ j = 0 := by omega
            simp [glC, h6, hj, jb, jc, x0, x1, hQi, x2, x3, x4, x5, y0, y1, y3, y4, y5, y6, y7, y8, y9, ya, yb, hs, g27]
        · simp [glC, stops]
      · have h3i : 4 < (K : Int) := by omega
        have ok2 : glOk s p = false := by rw [okE]; simp [h3]
        simp [f47, hl, w0, z0, h1i, g0, g1, g6, hK6, hEi, t1, t2, t6, n1, n2, n6, q6, l6, d6, m4, m5, k0, k1, k2, u0, u1, u6, v1, v2, v6, v9, v3, vE, g27, h2i, h3i, ok2]
    · have h2i : (s.length : Int) < (E : Int) := by omega
      have ok2 : glOk s p = false := by rw [okE]; simp [h2]
      simp [f47, hl, w0, z0, h1i, g0, g1, g6, hK6, hEi, t1, t2, t6, n1, n2, n6, q6, l6, d6, m4, m5, k0, k1, k2, u0, u1, u6, v1, v2, v6, v9, v3, vE, g27, h2i, ok2]
  · have h1i : (s.length : Int) - 7 < (p : Int) := by omega
    have ok2 : glOk s p = false := by simp [glOk, h1]
    simp [f47, hl, w0, z0, h1i, ok2]
noncomputable abbrev L47 := AM.ext L26 47 g47
theorem L47ok : CallOK prog L47 := L26ok.ext fn47 (by kernel_rfl) t47
open Classical in
noncomputable def gGetLsa : List AV → Option AV
  | [.str s, .int .i64 a] => if s.length ≤ 100000000 ∧ 0 ≤ a ∧ a ≤ 100000000 then some (.tup (if glOk s a.toNat then [.agg [.int .i64 (glR s a.toNat), .int .i64 (glS s a.toNat), .int .i64 (glG s a.toNat), .sl true (linkC (lkL s a.toNat (glK s a.toNat))) (glK s a.toNat)], .int .i64 (glE s a.toNat), .int .i64 0] else [.agg [.int .i64 0, .int .i64 0, .int .i64 0, .sl true [] 0], .int .i64 0, .int .i64 700])) else none
  | _ => none
theorem tGetLsa : ∀ args r, gGetLsa args = some r → Told prog 47 args r := by
  intro args r h
  unfold gGetLsa at h
  split at h <;> try (cases h; done)
  rename_i s a
  split at h <;> try (cases h; done)
  rename_i hcond
  injection h with h; subst h
  have ht := t47 [.str s, .int .i64 a] _ (by simp only [g47]; rw [if_pos hcond])
  cases hok : glOk s a.toNat
  · rw [hok] at ht
    refine ht.can (c := .tup [.agg [.int .i64 0, .int .i64 0, .int .i64 0, .snil], .int .i64 0, .int .i64 700]) (by simp) ?_ (fun q => by simp)
    exact AVle.tup (.cons (AVle.agg (.cons (AVle.refl _) (.cons (AVle.refl _) (.cons (AVle.refl _) (.cons (AVle.snil true) .nil))))) (AVles.refl _))
  · rw [hok] at ht
    generalize hK : glK s a.toNat = K at *
    cases K with
    | zero =>
      refine ht.can (c := .tup [.agg [.int .i64 (glR s a.toNat), .int .i64 (glS s a.toNat), .int .i64 (glG s a.toNat), .snil], .int .i64 (glE s a.toNat), .int .i64 0]) (by simp [lkV]) ?_ (fun q => by simp)
      exact AVle.tup (.cons (AVle.agg (.cons (AVle.refl _) (.cons (AVle.refl _) (.cons (AVle.refl _) (.cons (AVle.snil true) .nil))))) (AVles.refl _))
    | succ K =>
      exact ht.can (c := .tup [.agg [.int .i64 (glR s a.toNat), .int .i64 (glS s a.toNat), .int .i64 (glG s a.toNat), .sl true (linkC (lkL s a.toNat (K + 1))) (K + 1)], .int .i64 (glE s a.toNat), .int .i64 0]) (by simp [lkV]) (AVle.refl _) (fun q => by simp)
noncomputable abbrev X47_178 := AM.ext L26 47 gGetLsa
theorem X47_178ok : CallOK prog X47_178 := L26ok.ext fn47 (by kernel_rfl) tGetLsa
noncomputable abbrev LK1 : Know := X47_178
theorem LK1ok : CallOK prog LK1 := X47_178ok
end Go.AM.Try

