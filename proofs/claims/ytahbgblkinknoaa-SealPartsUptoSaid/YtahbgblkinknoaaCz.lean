import Derived.Test.YtahbgblkinknoaaCy
/- What the document's own answer reads: hellos, acks. -/
set_option linter.unusedSimpArgs false
set_option linter.unusedVariables false
set_option maxRecDepth 100000
set_option maxHeartbeats 4000000
namespace Go.AM.Try
open Go.Proofs.Try
attribute [-simp] strA
attribute [simp] strA_addc strA_eql strA_neq
theorem heL_succ {r : List UInt8} {j : Nat} (h : j < r.length) : intsC ((heL r).take (j + 1)) = intsC ((heL r).take j) ++ [.int .i64 ((r[j]).toNat : Int)] := by
  have hj : j < (heL r).length := by simpa [heL] using h
  rw [List.take_succ_eq_append_getElem hj]
  simp [intsC, heL]
def ghC (s r : List UInt8) (j : Nat) : St := ⟨[.str s, .any, .any, .any, .ref 0 0 j 1, .int .i64 ((j : Int) + 1), .any, .any, .any, .any, .any, .any, .any, .any, .any, .any, .any, .any, .any, .any, .any, .any, .any, .any, .any, .any, .any, .any, .any, .any, .any, .any, .any, .any, .any], [(0, ⟨intsC ((heL r).take j), 0, false⟩)], 1⟩
open Classical in
noncomputable def g24 : List AV → Option AV
  | [.str s] => if s.length ≤ 100000000 then some (.tup (if heOk s then [.fr 0 (intsC (heL s.tail)) s.tail.length 1, .int .i64 0] else [.fr 0 [] 0 1, .int .i64 900])) else none
  | _ => none
theorem t24 : ∀ args r, g24 args = some r → Told prog 24 args r := by
  intro args r h
  unfold g24 at h
  split at h <;> try (cases h; done)
  rename_i s
  split at h <;> try (cases h; done)
  rename_i hcond
  injection h with h; subst h
  refine told_fn (i := info 24) (n := (s.length + 1)) TTok L11ok mix fn24 po24 ?_
  cases s with
  | nil => simp [f24, iter, heOk]
  | cons c r =>
    have hr : r.length + 1 ≤ 100000000 := hcond
    simp [f24]
    rw [iter_to (ghC (c :: r) r) r.length (by first | omega | (simp; omega) | simp)]
    · have e : List.take r.length (heL r) = heL r := List.take_of_length_le (by simp [heL])
      have hl : (heL r).length = r.length := by simp [heL]
      have hok : okInts (.sl true (intsC (heL r)) r.length) := by rw [← hl]; exact (okInts_V (heL r)).2 (by omega)
      have hun : unInts (.sl true (intsC (heL r)) r.length) = heL r := by rw [← hl]; exact unInts_intsV (heL r)
      have w1 : IntKind.i64.wrap (c.toNat : Int) = (c.toNat : Int) := by
        have := c.toNat_lt
        exact wi64 (by omega) (by omega)
      have wr : IntKind.i64.wrap (r.length : Int) = (r.length : Int) := wi64 (by omega) (by omega)
      by_cases h1 : (c.toNat : Int) = (r.length : Int)
      · have h1' : c.toNat = r.length := by omega
        cases h2 : helloMay (heL r) <;> simp [ghC, e, hl, hok, hun, w1, wr, h1, h1', h2, heOk, g35]
      · have h1' : ¬ c.toNat = r.length := by omega
        simp [ghC, e, hl, hok, hun, w1, h1, h1', heOk]
    · simp [ghC, intsC]
    · intro j hj
      have hc : r[j]? = some r[j] := by simp [hj]
      have hs := heL_succ hj
      have t1 : ((j : Int) + 1).toNat = j + 1 := by omega
      have p1 : (0 : Int) ≤ (j : Int) + 1 := by omega
      have p2 : (j : Int) + 1 < (r.length : Int) + 1 := by omega
      have w1 : IntKind.i64.wrap ((j : Int) + 1 + 1) = (j : Int) + 1 + 1 := wi64 (by omega) (by omega)
      have w2 : IntKind.i64.wrap ((r[j]).toNat : Int) = ((r[j]).toNat : Int) := by
        have := (r[j]).toNat_lt
        exact wi64 (by omega) (by omega)
      have hm : min j (heL r).length = j := by simp [heL]; omega
      have hb : j + 1 ≤ 1000000000 := by omega
      simp [ghC, hc, hs, t1, p1, p2, w1, w2, hm, hb, hj]
    · simp [ghC, stops]
noncomputable abbrev L24 := AM.ext L11 24 g24
theorem L24ok : CallOK prog L24 := L11ok.ext fn24 (by kernel_rfl) t24
@[simp] theorem i64_u8 (x : UInt8) : IntKind.i64.wrap (x.toNat : Int) = (x.toNat : Int) := by
  have := x.toNat_lt
  exact wi64 (by omega) (by omega)
def gaC (s r : List UInt8) (j : Nat) : St := ⟨[.str s, .any, .any, .any, .ref 0 0 j 4, .int .i64 (8 * (j : Int) + 1), .any, .any, .any, .any, .any, .any, .any, .any, .any, .any, .any, .any, .any, .any, .any, .any, .any, .any, .any, .any, .any, .any, .any, .any, .any, .any, .any, .any, .any, .any, .any, .any, .any, .any, .any, .any, .any, .any, .any, .any, .any, .any, .any, .any, .any, .any, .any, .any, .any], [(0, ⟨headC (akL r j), 0, false⟩)], 1⟩
open Classical in
noncomputable def g26 : List AV → Option AV
  | [.str s] => if s.length ≤ 100000000 then some (.tup (if akOk s then [.fr 0 (headC (akL s.tail (s.getD 0 0).toNat)) (s.getD 0 0).toNat 4, .int .i64 0] else [.fr 0 [] 0 4, .int .i64 1100])) else none
  | _ => none
theorem t26 : ∀ args r, g26 args = some r → Told prog 26 args r := by
  intro args r h
  unfold g26 at h
  split at h <;> try (cases h; done)
  rename_i s
  split at h <;> try (cases h; done)
  rename_i hcond
  injection h with h; subst h
  refine told_fn (i := info 26) (n := (s.length + 1)) TTok L24ok mix fn26 po26 ?_
  cases s with
  | nil => simp [f26, iter, akOk]
  | cons c r =>
    have hr : r.length + 1 ≤ 100000000 := hcond
    have hc8 := c.toNat_lt
    have w8 : IntKind.i64.wrap (8 * (c.toNat : Int)) = 8 * (c.toNat : Int) := wi64 (by omega) (by omega)
    have w9 : IntKind.i64.wrap (1 + 8 * (c.toNat : Int)) = 1 + 8 * (c.toNat : Int) := wi64 (by omega) (by omega)
    by_cases h1 : r.length = 8 * c.toNat
    · have h2 : (r.length : Int) + 1 = 1 + 8 * (c.toNat : Int) := by omega
      simp [f26, w8, w9, h2]
      rw [iter_to (gaC (c :: r) r) c.toNat (by first | omega | (simp; omega) | simp)]
      · have h3 : ¬ 8 * (c.toNat : Int) + 1 < 1 + 8 * (c.toNat : Int) := by omega
        have h4 : ¬ 8 * (c.toNat : Int) + 1 < (r.length : Int) + 1 := by omega
        have hok : okHeads (.sl true (headC (akL r c.toNat)) c.toNat) := by
          have := (okHeads_V (akL r c.toNat)).2 (by simp; omega)
          simpa [headV] using this
        have hun : unHeads (.sl true (headC (akL r c.toNat)) c.toNat) = akL r c.toNat := by
          have := unHeads_headV (akL r c.toNat)
          simpa [headV] using this
        cases h5 : ackMay (akL r c.toNat) <;> simp [gaC, h1, h2, h3, h4, hok, hun, h5, akOk, g37]
      · simp [gaC, akL, headC]
      · intro j hj
        have b0 : 8 * j + 8 ≤ r.length := by omega
        have g0 : r[8 * j]? = some (r[8 * j]'(by omega)) := by first | (simp; done) | (simp; omega)
        have g1 : r[8 * j + 1]? = some (r[8 * j + 1]'(by omega)) := by first | (simp; done) | (simp; omega)
        have hs : headC (akL r (j + 1)) = headC (akL r j) ++ [.int .i64 ((r[8 * j]'(by omega)).toNat : Int), .int .i64 (ofB ((r.drop (8 * j + 2)).take 4) 4), .int .i64 ((r[8 * j + 1]'(by omega)).toNat : Int), .int .i64 (ofB ((r.drop (8 * j + 6)).take 2) 2)] := by
          rw [akL, headC_append]
          simp [headC, Hd.cells, hdAt, g0, g1]
        have m1 : min 4 (r.length - (8 * j + 2)) = 4 := by omega
        have m2 : min 2 (r.length - (8 * j + 6)) = 2 := by omega
        have m3 : 4 ≤ r.length - (8 * j + 2) := by omega
        have m4 : 2 ≤ r.length - (8 * j + 6) := by omega
        have t1 : (8 * (j : Int) + 1).toNat = 8 * j + 1 := by omega
        have t2 : (8 * (j : Int) + 2).toNat = 8 * j + 2 := by omega
        have t3 : (8 * (j : Int) + 3).toNat = 8 * j + 3 := by omega
        have t7 : (8 * (j : Int) + 7).toNat = 8 * j + 7 := by omega
        have t9 : (8 * (j : Int) + 9).toNat = 8 * j + 9 := by omega
        have p1 : (0 : Int) ≤ 8 * (j : Int) + 1 := by omega
        have p2 : (0 : Int) ≤ 8 * (j : Int) + 2 := by omega
        have p3 : (0 : Int) ≤ 8 * (j : Int) + 3 := by omega
        have p7 : (0 : Int) ≤ 8 * (j : Int) + 7 := by omega
        have p9 : (0 : Int) ≤ 8 * (j : Int) + 9 := by omega
        have a2 : 8 * (j : Int) + 1 + 1 = 8 * (j : Int) + 2 := by omega
        have a3 : 8 * (j : Int) + 1 + 2 = 8 * (j : Int) + 3 := by omega
        have a7 : 8 * (j : Int) + 1 + 6 = 8 * (j : Int) + 7 := by omega
        have a9 : 8 * (j : Int) + 1 + 8 = 8 * (j : Int) + 9 := by omega
        have aj : 8 * ((j : Int) + 1) + 1 = 8 * (j : Int) + 9 := by omega
        have q0 : 8 * (j : Int) + 1 < (r.length : Int) + 1 := by omega
        have q7 : 8 * (j : Int) + 7 ≤ (r.length : Int) + 1 := by omega
        have q9 : 8 * (j : Int) + 9 ≤ (r.length : Int) + 1 := by omega
        have l1 : 8 * (j : Int) + 3 ≤ 8 * (j : Int) + 7 := by omega
        have l2 : 8 * (j : Int) + 7 ≤ 8 * (j : Int) + 9 := by omega
        have s1 : 8 * j + 7 - (8 * j + 3) = 4 := by omega
        have s2 : 8 * j + 9 - (8 * j + 7) = 2 := by omega
        have hb : j + 1 ≤ 1000000000 := by omega
        simp (disch := first | assumption | (simp; done) | (simp [m1, m2]; done) | (simp [m1, m2]; omega) | omega) [gaC, g0, g1, hs, m1, m2, m3, m4, t1, t2, t3, t7, t9, p1, p2, p3, p7, p9, a2, a3, a7, a9, aj, q0, q7, q9, l1, l2, s1, s2, hb, g27]
      · have h3 : ¬ 8 * (c.toNat : Int) + 1 < 1 + 8 * (c.toNat : Int) := by omega
        have h4 : ¬ 8 * (c.toNat : Int) + 1 < (r.length : Int) + 1 := by omega
        simp [gaC, stops, h2, h3, h4]
    · have h2 : ¬ (r.length : Int) + 1 = 1 + 8 * (c.toNat : Int) := by omega
      simp [f26, w8, w9, h2, h1, akOk]
noncomputable abbrev L26 := AM.ext L24 26 g26
theorem L26ok : CallOK prog L26 := L24ok.ext fn26 (by kernel_rfl) t26
end Go.AM.Try

