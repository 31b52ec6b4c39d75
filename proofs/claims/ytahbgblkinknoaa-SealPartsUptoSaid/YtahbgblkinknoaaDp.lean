import Derived.Test.YtahbgblkinknoaaDe
/- What is written is read again: plain words. -/
set_option linter.unusedSimpArgs false
set_option linter.unusedVariables false
namespace Go.AM
theorem b8_toNat (z : Int) : ((b8 z).toNat : Int) = z % 256 := by
  unfold b8
  rw [u8_wrap]
  have h1 : 0 ≤ z % 256 ∧ z % 256 < 256 := by omega
  have : (UInt8.ofNat (z % 256).toNat).toNat = (z % 256).toNat := by
    show (BitVec.ofNat 8 _).toNat = _
    rw [BitVec.toNat_ofNat]; omega
  rw [this]; omega
theorem ofStep_eq {x : Int} {c : UInt8} (h0 : 0 ≤ x) (h1 : x < 1099511627776) : ofStep x c = x * 256 + c.toNat := by
  have hc := c.toNat_lt
  have hb : IntKind.i64.bits = 64 := rfl
  unfold ofStep
  rw [hb]
  have e1 : IntKind.i64.wrap (x * 2 ^ min 8 64) = x * 256 := wi64 (by simp; omega) (by simp; omega)
  have e2 : IntKind.i64.wrap (c.toNat : Int) = c.toNat := wi64 (by omega) (by omega)
  rw [e1, e2]
  have e3 : (x * 256 % 2 ^ 64).toNat = 2 ^ 8 * x.toNat := by
    rw [Int.emod_eq_of_lt (by omega) (by simp; omega)]; simp; omega
  have e4 : ((c.toNat : Int) % 2 ^ 64).toNat = c.toNat := by
    rw [Int.emod_eq_of_lt (by omega) (by simp; omega)]; simp
  rw [e3, e4, ← Nat.two_pow_add_eq_or_of_lt (by simpa using hc)]
  rw [wi64 (by simp; omega) (by simp; omega)]
  simp; omega
theorem of_two {x : Int} (h : 0 ≤ x ∧ x < 65536) : ofB (two x) 2 = x := by
  have h1 := b8_toNat (x.fdiv 256)
  have h2 := b8_toNat x
  rw [show (256 : Int) = ((256 : Nat) : Int) from rfl, fd] at h1
  simp only [Int.cast_ofNat_Int] at h1
  have n1 := (b8 (x / 256)).toNat_lt
  have e0 : ofB (two x) 2 = ofStep (ofStep 0 (b8 (x.fdiv 256))) (b8 x) := rfl
  rw [e0, show (256 : Int) = ((256 : Nat) : Int) from rfl, fd]
  simp only [Int.cast_ofNat_Int]
  have s1 : ofStep 0 (b8 (x / 256)) = ((b8 (x / 256)).toNat : Int) := by rw [ofStep_eq (by omega) (by omega)]; omega
  rw [s1, ofStep_eq (by omega) (by omega)]
  omega
theorem of_four {x : Int} (h : 0 ≤ x ∧ x < 4294967296) : ofB (four x) 4 = x := by
  have e0 : ofB (four x) 4 = ofStep (ofStep (ofStep (ofStep 0 (b8 ((x.fdiv 65536).fdiv 256))) (b8 (x.fdiv 65536))) (b8 (x.fdiv 256))) (b8 x) := rfl
  rw [e0, show (65536 : Int) = ((65536 : Nat) : Int) from rfl, fd, show (256 : Int) = ((256 : Nat) : Int) from rfl, fd, fd]
  simp only [Int.cast_ofNat_Int]
  have h1 := b8_toNat (x / 65536 / 256)
  have h2 := b8_toNat (x / 65536)
  have h3 := b8_toNat (x / 256)
  have h4 := b8_toNat x
  have s1 : ofStep 0 (b8 (x / 65536 / 256)) = ((b8 (x / 65536 / 256)).toNat : Int) := by rw [ofStep_eq (by omega) (by omega)]; omega
  have n1 := (b8 (x / 65536 / 256)).toNat_lt
  have n2 := (b8 (x / 65536)).toNat_lt
  have n3 := (b8 (x / 256)).toNat_lt
  have s2 : ofStep ((b8 (x / 65536 / 256)).toNat : Int) (b8 (x / 65536)) = ((b8 (x / 65536 / 256)).toNat : Int) * 256 + ((b8 (x / 65536)).toNat : Int) := ofStep_eq (by omega) (by omega)
  have s3 : ofStep (((b8 (x / 65536 / 256)).toNat : Int) * 256 + ((b8 (x / 65536)).toNat : Int)) (b8 (x / 256)) = (((b8 (x / 65536 / 256)).toNat : Int) * 256 + ((b8 (x / 65536)).toNat : Int)) * 256 + ((b8 (x / 256)).toNat : Int) := ofStep_eq (by omega) (by omega)
  rw [s1, s2, s3, ofStep_eq (by omega) (by omega)]
  omega
theorem inR_iff {a b x : Int} : inR a b x = true ↔ a ≤ x ∧ x ≤ b := by simp [inR]
theorem b8_val {x : Int} (h : 0 ≤ x ∧ x ≤ 255) : ((b8 x).toNat : Int) = x := by
  rw [b8_toNat]; omega
theorem drop_flatG {α β : Type} (f : α → List β) (k : Nat) (hk : ∀ a, (f a).length = k) : ∀ (l : List α) (i : Nat) (hi : i < l.length), (l.flatMap f).drop (k * i) = f l[i] ++ (l.drop (i + 1)).flatMap f
  | a :: l, 0, _ => by simp
  | a :: l, i + 1, hi => by
    have hi' : i < l.length := by simpa using hi
    have := drop_flatG f k hk l i hi'
    rw [List.flatMap_cons, List.drop_append, List.drop_eq_nil_of_le (by rw [hk, Nat.mul_succ]; omega), List.nil_append, hk]
    rw [show k * (i + 1) - k = k * i by rw [Nat.mul_succ]; omega]
    simpa using this
theorem getD_drop (s : List UInt8) (p k : Nat) (d : UInt8) : s.getD (p + k) d = (s.drop p).getD k d := by
  simp [List.getD_eq_getElem?_getD, List.getElem?_drop]

/-! ### Lsas -/
theorem gl_of {s : List UInt8} {p : Nat} {a : Lsa} {r : List UInt8} (hs : s.drop p = lsaB a ++ r) (hm : lsaMay a = true) : glOk s p = true ∧ glA s p = a ∧ glE s p = p + (lsaB a).length := by
  obtain ⟨m1, m2, m3, m4⟩ := lsaMay_iff hm
  have hl := links_len m4
  have hlen := lsaB_length a
  have hD : s.drop p = [b8 a.age, b8 a.router] ++ (four a.serial ++ (b8 a.links.length :: (a.links.flatMap linkB ++ (two (fletchB (bodyB a)) ++ r)))) := by
    rw [hs]; simp [lsaB, bodyB]
  have k0 : (s.drop p).getD 0 0 = b8 a.age := by rw [hD]; rfl
  have k1 : (s.drop p).getD 1 0 = b8 a.router := by rw [hD]; rfl
  have k2 : ((s.drop p).drop 2).take 4 = four a.serial := by rw [hD]; rfl
  have k6 : (s.drop p).getD 6 0 = b8 a.links.length := by rw [hD]; rfl
  have k7 : (s.drop p).drop 7 = a.links.flatMap linkB ++ (two (fletchB (bodyB a)) ++ r) := by rw [hD]; rfl
  have eK : glK s p = a.links.length := by
    unfold glK
    rw [getD_drop, k6]
    have := b8_val (x := a.links.length) (by omega)
    omega
  have eG : glG s p = a.age := by
    unfold glG
    rw [show p = p + 0 from rfl, getD_drop, k0]
    exact b8_val (by omega)
  have eR : glR s p = a.router := by
    unfold glR
    rw [getD_drop, k1]
    exact b8_val (by omega)
  have eS : glS s p = a.serial := by
    unfold glS
    rw [← List.drop_drop, k2]
    exact of_four (by omega)
  have eL : ∀ k, k ≤ a.links.length → lkL s p k = a.links.take k := by
    intro k
    induction k with
    | zero => intro _; simp [lkL]
    | succ k ih =>
      intro hk
      rw [lkL, ih (by omega), List.take_succ_eq_append_getElem (by omega)]
      congr 1
      have hd := drop_flatG linkB 3 linkB_length a.links k (by omega)
      have hD2 : s.drop (p + 7 + 3 * k) = linkB a.links[k] ++ ((a.links.drop (k + 1)).flatMap linkB ++ (two (fletchB (bodyB a)) ++ r)) := by
        rw [← List.drop_drop, ← List.drop_drop, k7, List.drop_append_of_le_length (by rw [length_flat' linkB 3 linkB_length]; omega), hd, List.append_assoc]
      have hin := link_in m4 (List.getElem_mem (show k < a.links.length by omega))
      have q1 : s.getD (p + 7 + 3 * k) 0 = b8 a.links[k].to := by
        rw [show p + 7 + 3 * k = p + 7 + 3 * k + 0 from rfl, getD_drop, hD2]; rfl
      have q2 : (s.drop (p + 8 + 3 * k)).take 2 = two a.links[k].cost := by
        rw [show p + 8 + 3 * k = p + 7 + 3 * k + 1 by omega, ← List.drop_drop, hD2]; rfl
      unfold lkAt
      rw [q1, q2, b8_val (by omega), of_two (by omega)]
  have eA : glA s p = a := by
    unfold glA
    rw [eR, eS, eG, eK, eL _ (Nat.le_refl _), List.take_length]
  have eE : glE s p = p + (lsaB a).length := by
    unfold glE
    rw [eK, hlen]; omega
  refine ⟨?_, eA, eE⟩
  have hsl : p + (lsaB a).length ≤ s.length := by
    have := congrArg List.length hs
    simp only [List.length_drop, List.length_append] at this
    have h9 : 9 ≤ (lsaB a).length := by omega
    omega
  unfold glOk
  rw [eA, eE, eK, hm, hs]
  simp only [Bool.and_eq_true, decide_eq_true_eq, beq_iff_eq]
  refine ⟨by omega, by omega, hl, trivial, ?_⟩
  rw [Nat.add_sub_cancel_left, List.take_left]
theorem gu_of {ls : List Lsa} (hm : updMay ls = true) : ∀ i, i ≤ ls.length → gu (updB ls) i = some (ls.take i, 1 + ((ls.take i).flatMap lsaB).length)
  | 0, _ => by simp [gu]
  | i + 1, h => by
    have hi : i < ls.length := by omega
    have hd : (updB ls).drop (1 + ((ls.take i).flatMap lsaB).length) = lsaB ls[i] ++ (ls.drop (i + 1)).flatMap lsaB := by
      unfold updB
      rw [Nat.add_comm, List.drop_succ_cons]
      have e : ls.flatMap lsaB = (ls.take i).flatMap lsaB ++ (ls.drop i).flatMap lsaB := by rw [← List.flatMap_append, List.take_append_drop]
      rw [e, List.drop_left, List.drop_eq_getElem_cons hi, List.flatMap_cons]
    have hma : lsaMay ls[i] = true := upd_in hm (List.getElem_mem hi)
    obtain ⟨g1, g2, g3⟩ := gl_of hd hma
    rw [gu, gu_of hm i (by omega)]
    simp only [g1, if_true, g2, g3]
    rw [List.take_succ_eq_append_getElem hi, List.flatMap_append]
    simp; omega
theorem upd_of {ls : List Lsa} (hm : updMay ls = true) : guOk (updB ls) = true ∧ guV (updB ls) = ls := by
  have hl := upd_len hm
  have h1 : (b8 (ls.length : Int)).toNat = ls.length := by
    have := b8_val (x := ls.length) (by omega)
    omega
  have h2 := gu_of hm ls.length (Nat.le_refl _)
  rw [List.take_length] at h2
  constructor
  · have : updB ls = b8 ls.length :: ls.flatMap lsaB := rfl
    unfold guOk
    rw [this]
    simp only
    rw [h1, ← this, h2]
    simp only [hm, Bool.and_true, decide_eq_true_eq]
    rw [this]; simp; omega
  · unfold guV
    have : (updB ls).getD 0 0 = b8 ls.length := rfl
    rw [this, h1, h2]
theorem he_of {h : List Int} (hm : helloMay h = true) : heOk (heardB h) = true ∧ heL (heardB h).tail = h := by
  have hl := hello_len hm
  have e : heL (h.map b8) = h := by
    unfold heL
    rw [List.map_map]
    refine (List.map_congr_left (g := id) fun a ha => ?_).trans (by simp)
    have := hello_in hm ha
    exact b8_val (by omega)
  refine ⟨?_, e⟩
  have : heardB h = b8 h.length :: h.map b8 := rfl
  unfold heOk
  rw [this]
  simp only [e, hm, Bool.and_true, decide_eq_true_eq, List.length_map]
  exact b8_val (by omega)
theorem hd_in {hs : List Hd} (hm : ackMay hs = true) {a : Hd} (ha : a ∈ hs) : (1 ≤ a.router ∧ a.router ≤ 4) ∧ (1 ≤ a.serial ∧ a.serial ≤ 2147483647) ∧ (0 ≤ a.age ∧ a.age ≤ 60) ∧ 0 ≤ a.sum ∧ a.sum ≤ 65535 := by
  obtain ⟨i, hi, rfl⟩ := List.mem_iff_getElem.1 ha
  have := allTo_iff.1 hm i hi
  simp [ackOk, hdMay, inR, hat, hi] at this
  exact this.1
theorem ack_of {hs : List Hd} (hm : ackMay hs = true) : akOk (ackB hs) = true ∧ akL (ackB hs).tail ((ackB hs).getD 0 0).toNat = hs := by
  have hl := ack_len hm
  have h1 : (b8 (hs.length : Int)).toNat = hs.length := by
    have := b8_val (x := hs.length) (by omega)
    omega
  have e : ∀ k, k ≤ hs.length → akL (hs.flatMap hdB) k = hs.take k := by
    intro k
    induction k with
    | zero => intro _; simp [akL]
    | succ k ih =>
      intro hk
      rw [akL, ih (by omega), List.take_succ_eq_append_getElem (by omega)]
      congr 1
      have hd := drop_flatG hdB 8 hdB_length hs k (by omega)
      have hin := hd_in hm (List.getElem_mem (show k < hs.length by omega))
      unfold hdAt
      have q0 : (hs.flatMap hdB).getD (8 * k) 0 = b8 hs[k].router := by
        rw [show 8 * k = 8 * k + 0 from rfl, getD_drop, hd]; rfl
      have q1 : (hs.flatMap hdB).getD (8 * k + 1) 0 = b8 hs[k].age := by
        rw [getD_drop, hd]; rfl
      have q2 : ((hs.flatMap hdB).drop (8 * k + 2)).take 4 = four hs[k].serial := by
        rw [← List.drop_drop, hd]; rfl
      have q6 : ((hs.flatMap hdB).drop (8 * k + 6)).take 2 = two hs[k].sum := by
        rw [← List.drop_drop, hd]; rfl
      rw [q0, q1, q2, q6, b8_val (by omega), b8_val (by omega), of_four (by omega), of_two (by omega)]
  have e2 := e hs.length (Nat.le_refl _)
  rw [List.take_length] at e2
  have e3 : ackB hs = b8 hs.length :: hs.flatMap hdB := rfl
  have e4 : (ackB hs).tail = hs.flatMap hdB := rfl
  have e5 : (ackB hs).getD 0 0 = b8 hs.length := rfl
  refine ⟨?_, by rw [e4, e5, h1, e2]⟩
  unfold akOk
  rw [e3]
  simp only [h1, e2, hm, Bool.and_true, decide_eq_true_eq]
  rw [length_flat' hdB 8 hdB_length]; omega
theorem head_of {t r n : Int} {b : List UInt8} (hm : headMay t r n = true) : ghOk (headB t r n ++ b) = true ∧ ghK (headB t r n ++ b) = t ∧ ghR (headB t r n ++ b) = r ∧ ghN (headB t r n ++ b) = n := by
  have hm' := hm
  simp only [headMay, Bool.and_eq_true, inR_iff, isType, Bool.or_eq_true, decide_eq_true_eq] at hm'
  have h1 : ghK (headB t r n ++ b) = t := by
    show ((b8 t).toNat : Int) = t
    exact b8_val (by omega)
  have h2 : ghR (headB t r n ++ b) = r := by
    show ofB (four r) 4 = r
    exact of_four (by omega)
  have h3 : ghN (headB t r n ++ b) = n := by
    show ofB (two n) 2 = n
    exact of_two (by omega)
  refine ⟨?_, h1, h2, h3⟩
  unfold ghOk
  rw [h1, h2, h3, hm]
  simp only [Bool.true_and, beq_iff_eq]
  rfl
theorem trail_of {k b c : Int} {t : List UInt8} (hm : trMay k b c t = true) : gtOk (trB k b c t) = true ∧ gtK (trB k b c t) = k ∧ gtB (trB k b c t) = b ∧ gtC (trB k b c t) = c ∧ gtT (trB k b c t) = t := by
  have hm' := hm
  simp only [trMay, Bool.and_eq_true, inR_iff, decide_eq_true_eq] at hm'
  have h1 : gtK (trB k b c t) = k := by
    show ((b8 k).toNat : Int) = k
    exact b8_val (by omega)
  have h2 : gtB (trB k b c t) = b := by
    show ofB (four b) 4 = b
    exact of_four (by omega)
  have h3 : gtC (trB k b c t) = c := by
    show ofB (four c) 4 = c
    exact of_four (by omega)
  have h4 : gtT (trB k b c t) = t := rfl
  refine ⟨?_, h1, h2, h3, h4⟩
  unfold gtOk
  rw [h1, h2, h3, h4, hm]
  simp
/-- A packet that may be is read from its bytes. -/
theorem packet_of {t r : Int} {h : List Int} {ls : List Lsa} {hs : List Hd} (hm : pkMay t r h ls hs = true) :
    gpOk (pkB t r h ls hs) = true ∧ ghK (pkB t r h ls hs) = t ∧ ghR (pkB t r h ls hs) = r ∧ gpHe (pkB t r h ls hs) = h ∧ gpLs (pkB t r h ls hs) = ls ∧ gpHs (pkB t r h ls hs) = hs := by
  simp only [pkMay, Bool.and_eq_true] at hm
  obtain ⟨hl, hh⟩ := hm
  obtain ⟨g1, g2, g3, g4⟩ := head_of (b := listB t h ls hs) hh
  have e : pkB t r h ls hs = headB t r (12 + (listB t h ls hs).length) ++ listB t h ls hs := rfl
  have e12 : (pkB t r h ls hs).drop 12 = listB t h ls hs := rfl
  have elen : (pkB t r h ls hs).length = 12 + (listB t h ls hs).length := by
    rw [e, List.length_append]; rfl
  rw [← e] at g1 g2 g3 g4
  unfold gpOk gpHe gpLs gpHs
  rw [g1, g2, g4, e12, elen]
  unfold listMay at hl
  have hlen : decide (12 ≤ 12 + (listB t h ls hs).length) = true := by simp
  have hlen2 : decide ((12 : Int) + ((listB t h ls hs).length : Int) = ((12 + (listB t h ls hs).length : Nat) : Int)) = true := by simp
  rw [hlen, hlen2, Bool.true_and, Bool.true_and, Bool.true_and]
  by_cases t1 : t = 1
  · subst t1
    simp only [if_true, Bool.and_eq_true, decide_eq_true_eq] at hl ⊢
    obtain ⟨m1, m2⟩ := hl
    have hlb : listB 1 h ls hs = heardB h := by simp [listB, m1]
    obtain ⟨p1, p2⟩ := he_of m1
    rw [hlb]
    refine ⟨p1, trivial, g3, p2, ?_, ?_⟩
    · exact (List.eq_nil_of_length_eq_zero (by omega)).symm
    · exact (List.eq_nil_of_length_eq_zero (by omega)).symm
  · by_cases t4 : t = 4
    · subst t4
      have n1 : ¬ ((4 : Int) = 1) := by omega
      simp only [n1, if_false, if_true, Bool.and_eq_true, decide_eq_true_eq] at hl ⊢
      obtain ⟨m1, m2⟩ := hl
      have hlb : listB 4 h ls hs = updB ls := by simp [listB, m1]
      obtain ⟨p1, p2⟩ := upd_of m1
      rw [hlb]
      refine ⟨p1, trivial, g3, ?_, p2, ?_⟩
      · exact (List.eq_nil_of_length_eq_zero (by omega)).symm
      · exact (List.eq_nil_of_length_eq_zero (by omega)).symm
    · by_cases t5 : t = 5
      · subst t5
        have n1 : ¬ ((5 : Int) = 1) := by omega
        have n4 : ¬ ((5 : Int) = 4) := by omega
        simp only [n1, n4, if_false, if_true, Bool.and_eq_true, decide_eq_true_eq] at hl ⊢
        obtain ⟨m1, m2⟩ := hl
        have hlb : listB 5 h ls hs = ackB hs := by simp [listB, m1]
        obtain ⟨p1, p2⟩ := ack_of m1
        rw [hlb]
        refine ⟨p1, trivial, g3, ?_, ?_, p2⟩
        · exact (List.eq_nil_of_length_eq_zero (by omega)).symm
        · exact (List.eq_nil_of_length_eq_zero (by omega)).symm
      · simp only [t1, t4, t5, if_false] at hl
        cases hl
end Go.AM
