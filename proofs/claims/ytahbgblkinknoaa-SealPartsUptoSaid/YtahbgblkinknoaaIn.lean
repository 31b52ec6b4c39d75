import Derived.Test.YtahbgblkinknoaaSq
/- Unlike packets have unlike bytes. -/
set_option linter.unusedSimpArgs false
set_option linter.unusedVariables false
namespace Go.AM
theorem b8_eq {x y : Int} (h : b8 x = b8 y) : x % 256 = y % 256 := by
  have e : ∀ z : Int, ((b8 z).toNat : Int) = z % 256 := fun z => by
    unfold b8
    rw [u8_wrap]
    have h1 : 0 ≤ z % 256 ∧ z % 256 < 256 := by omega
    have : (UInt8.ofNat (z % 256).toNat).toNat = (z % 256).toNat := by
      show (BitVec.ofNat 8 _).toNat = _
      rw [BitVec.toNat_ofNat]; omega
    rw [this]; omega
  rw [← e x, ← e y, h]
theorem b8_inj {x y : Int} (hx : 0 ≤ x ∧ x ≤ 255) (hy : 0 ≤ y ∧ y ≤ 255) (h : b8 x = b8 y) : x = y := by
  have := b8_eq h
  omega
theorem fd (x : Int) (k : Nat) : x.fdiv (k : Int) = x / (k : Int) := Int.fdiv_eq_ediv_of_nonneg _ (by omega)
theorem two_eq {x y : Int} (h : two x = two y) : x % 65536 = y % 65536 := by
  unfold two at h
  injection h with h1 h2
  injection h2 with h2 _
  have h1 := b8_eq h1
  have h2 := b8_eq h2
  rw [show (256 : Int) = ((256 : Nat) : Int) from rfl, fd, fd] at h1
  simp only [Int.cast_ofNat_Int] at h1
  omega
theorem four_eq {x y : Int} (h : four x = four y) : x % 4294967296 = y % 4294967296 := by
  unfold four at h
  obtain ⟨h1, h2⟩ := List.append_inj h rfl
  have h1 := two_eq h1
  have h2 := two_eq h2
  rw [show (65536 : Int) = ((65536 : Nat) : Int) from rfl, fd, fd] at h1
  simp only [Int.cast_ofNat_Int] at h1
  omega
theorem flat_inj {α : Type} (f : α → List UInt8) : ∀ (l m : List α), l.length = m.length → (∀ a ∈ l, ∀ b ∈ m, ∀ u v, f a ++ u = f b ++ v → a = b ∧ u = v) → ∀ u v, l.flatMap f ++ u = m.flatMap f ++ v → l = m ∧ u = v
  | [], [], _, _, u, v, h => ⟨rfl, by simpa using h⟩
  | [], b :: m, hl, _, _, _, _ => by simp at hl
  | a :: l, [], hl, _, _, _, _ => by simp at hl
  | a :: l, b :: m, hl, hi, u, v, h => by
    simp only [List.flatMap_cons, List.append_assoc] at h
    obtain ⟨rfl, h2⟩ := hi a (by simp) b (by simp) _ _ h
    obtain ⟨rfl, h3⟩ := flat_inj f l m (by simpa using hl) (fun x hx y hy => hi x (by simp [hx]) y (by simp [hy])) u v h2
    exact ⟨rfl, h3⟩
theorem hello_in {l : List Int} (h : helloMay l = true) {a : Int} (ha : a ∈ l) : 1 ≤ a ∧ a ≤ 4 := by
  obtain ⟨i, hi, rfl⟩ := List.mem_iff_getElem.1 ha
  have := allTo_iff.1 h i hi
  simp [helloOk, inR, iat, hi] at this
  exact this.1
theorem heard_inj {l m : List Int} (hl : helloMay l = true) (hm : helloMay m = true) (h : heardB l = heardB m) : l = m := by
  unfold heardB at h
  injection h with _ h
  have e : ∀ l : List Int, l.map b8 = l.flatMap fun x => [b8 x] := fun l => by induction l with
    | nil => rfl
    | cons a l ih => simp [ih]
  have hlen : l.length = m.length := by have := congrArg List.length h; simpa using this
  rw [e, e] at h
  have h' : (l.flatMap fun x => [b8 x]) ++ [] = (m.flatMap fun x => [b8 x]) ++ [] := by simpa using h
  refine (flat_inj _ l m hlen (fun a ha b hb u v hh => ?_) [] [] h').1
  simp only [List.cons_append, List.nil_append] at hh
  injection hh with h1 h2
  have g1 := hello_in hl ha
  have g2 := hello_in hm hb
  exact ⟨b8_inj (by omega) (by omega) h1, h2⟩
theorem link_in {r : Int} {l : List Lk} (h : linksMay r l = true) {a : Lk} (ha : a ∈ l) : (1 ≤ a.to ∧ a.to ≤ 4) ∧ 1 ≤ a.cost ∧ a.cost ≤ 65535 := by
  obtain ⟨i, hi, rfl⟩ := List.mem_iff_getElem.1 ha
  have := allTo_iff.1 h i hi
  simp [linkOk, inR, lat, hi] at this
  exact ⟨this.1, this.2.2.1⟩
theorem linkB_inj {a b : Lk} (ha : (1 ≤ a.to ∧ a.to ≤ 4) ∧ 1 ≤ a.cost ∧ a.cost ≤ 65535) (hb : (1 ≤ b.to ∧ b.to ≤ 4) ∧ 1 ≤ b.cost ∧ b.cost ≤ 65535) (u v : List UInt8) (h : linkB a ++ u = linkB b ++ v) : a = b ∧ u = v := by
  obtain ⟨h1, h2⟩ := List.append_inj h rfl
  unfold linkB at h1
  obtain ⟨h3, h4⟩ := List.append_inj h1 rfl
  injection h3 with h3 _
  have e1 := b8_inj (by omega) (by omega) h3
  have e2 := two_eq h4
  have e3 : a.cost = b.cost := by omega
  cases a; cases b
  simp only at e1 e3
  exact ⟨by rw [e1, e3], h2⟩
theorem lsaMay_iff {a : Lsa} (h : lsaMay a = true) : (1 ≤ a.router ∧ a.router ≤ 4) ∧ (1 ≤ a.serial ∧ a.serial ≤ 2147483647) ∧ (0 ≤ a.age ∧ a.age ≤ 60) ∧ linksMay a.router a.links = true := by
  simpa [lsaMay, inR] using h
theorem lsaB_inj {a b : Lsa} (ha : lsaMay a = true) (hb : lsaMay b = true) (u v : List UInt8) (h : lsaB a ++ u = lsaB b ++ v) : a = b ∧ u = v := by
  obtain ⟨a1, a2, a3, a4⟩ := lsaMay_iff ha
  obtain ⟨b1, b2, b3, b4⟩ := lsaMay_iff hb
  have la := links_len a4
  have lb := links_len b4
  unfold lsaB bodyB at h
  simp only [List.append_assoc] at h
  obtain ⟨h1, h⟩ := List.append_inj h rfl
  obtain ⟨h2, h⟩ := List.append_inj h rfl
  obtain ⟨h3, h⟩ := List.append_inj h rfl
  obtain ⟨h4, h⟩ := List.append_inj h rfl
  injection h1 with h1 _
  injection h2 with h2 _
  injection h4 with h4 _
  have e1 := b8_inj (by omega) (by omega) h1
  have e2 := b8_inj (by omega) (by omega) h2
  have e3 := four_eq h3
  have e4 := b8_inj (by omega) (by omega) h4
  have e5 : a.links.length = b.links.length := by omega
  obtain ⟨e6, h⟩ := flat_inj linkB a.links b.links e5 (fun x hx y hy u v => linkB_inj (link_in a4 hx) (link_in b4 hy) u v) _ _ h
  have e7 : a.serial = b.serial := by omega
  have e : a = b := by
    cases a; cases b
    simp only at e1 e2 e6 e7
    rw [e1, e2, e6, e7]
  subst e
  exact ⟨rfl, List.append_cancel_left h⟩
theorem upd_in {l : List Lsa} (h : updMay l = true) {a : Lsa} (ha : a ∈ l) : lsaMay a = true := by
  obtain ⟨i, hi, rfl⟩ := List.mem_iff_getElem.1 ha
  have := aat_may h hi
  simpa [aat, hi] using this
theorem upd_inj {l m : List Lsa} (hl : updMay l = true) (hm : updMay m = true) (h : updB l = updB m) : l = m := by
  have l1 := upd_len hl
  have l2 := upd_len hm
  unfold updB at h
  injection h with h1 h2
  have e := b8_inj (by omega) (by omega) h1
  have h' : l.flatMap lsaB ++ [] = m.flatMap lsaB ++ [] := by simpa using h2
  exact (flat_inj lsaB l m (by omega) (fun a ha b hb u v => lsaB_inj (upd_in hl ha) (upd_in hm hb) u v) [] [] h').1
theorem ack_in {l : List Hd} (h : ackMay l = true) {a : Hd} (ha : a ∈ l) : (1 ≤ a.router ∧ a.router ≤ 4) ∧ (1 ≤ a.serial ∧ a.serial ≤ 2147483647) ∧ (0 ≤ a.age ∧ a.age ≤ 60) ∧ 0 ≤ a.sum ∧ a.sum ≤ 65535 := by
  obtain ⟨i, hi, rfl⟩ := List.mem_iff_getElem.1 ha
  have := allTo_iff.1 h i hi
  simp [ackOk, hdMay, inR, hat, hi] at this
  exact this.1
theorem ack_inj {l m : List Hd} (hl : ackMay l = true) (hm : ackMay m = true) (h : ackB l = ackB m) : l = m := by
  have l1 := ack_len hl
  have l2 := ack_len hm
  unfold ackB at h
  injection h with h1 h2
  have e := b8_inj (by omega) (by omega) h1
  have h' : l.flatMap hdB ++ [] = m.flatMap hdB ++ [] := by simpa using h2
  refine (flat_inj hdB l m (by omega) (fun a ha b hb u v hh => ?_) [] [] h').1
  obtain ⟨a1, a2, a3, a4⟩ := ack_in hl ha
  obtain ⟨b1, b2, b3, b4⟩ := ack_in hm hb
  unfold hdB at hh
  simp only [List.append_assoc] at hh
  obtain ⟨g1, hh⟩ := List.append_inj hh rfl
  obtain ⟨g2, hh⟩ := List.append_inj hh rfl
  obtain ⟨g3, hh⟩ := List.append_inj hh rfl
  obtain ⟨g4, hh⟩ := List.append_inj hh rfl
  injection g1 with g1 _
  injection g2 with g2 _
  have e1 := b8_inj (by omega) (by omega) g1
  have e2 := b8_inj (by omega) (by omega) g2
  have e3 := four_eq g3
  have e4 := two_eq g4
  have e5 : a.serial = b.serial := by omega
  have e6 : a.sum = b.sum := by omega
  refine ⟨?_, hh⟩
  cases a; cases b
  simp only at e1 e2 e5 e6
  rw [e1, e2, e5, e6]
theorem type_in {t : Int} {l : List Int} {m : List Lsa} {n : List Hd} (h : listMay t l m n = true) : t = 1 ∨ t = 4 ∨ t = 5 := by
  unfold listMay at h
  split at h
  · exact .inl (by assumption)
  · split at h
    · exact .inr (.inl (by assumption))
    · split at h
      · exact .inr (.inr (by assumption))
      · cases h
theorem list_inj {t : Int} {l l2 : List Int} {m m2 : List Lsa} {n n2 : List Hd} (h1 : listMay t l m n = true) (h2 : listMay t l2 m2 n2 = true) (h : listB t l m n = listB t l2 m2 n2) : l = l2 ∧ m = m2 ∧ n = n2 := by
  rcases type_in h1 with rfl | rfl | rfl
  · simp [listMay] at h1 h2
    obtain ⟨a1, a2, a3⟩ := h1
    obtain ⟨b1, b2, b3⟩ := h2
    simp [listB, a1, b1] at h
    exact ⟨heard_inj a1 b1 h, by rw [a2, b2], by rw [a3, b3]⟩
  · simp [listMay] at h1 h2
    obtain ⟨a1, a2, a3⟩ := h1
    obtain ⟨b1, b2, b3⟩ := h2
    simp [listB, a1, b1] at h
    exact ⟨by rw [a2, b2], upd_inj a1 b1 h, by rw [a3, b3]⟩
  · simp [listMay] at h1 h2
    obtain ⟨a1, a2, a3⟩ := h1
    obtain ⟨b1, b2, b3⟩ := h2
    simp [listB, a1, b1] at h
    exact ⟨by rw [a2, b2], by rw [a3, b3], ack_inj a1 b1 h⟩
theorem un_inj {t r t2 r2 : Int} {l l2 : List Int} {m m2 : List Lsa} {n n2 : List Hd} {x y : Int} (hx : 1 ≤ x ∧ x ≤ 1024) (hy : 1 ≤ y ∧ y ≤ 1024) (h1 : pkMay t r l m n = true) (h2 : pkMay t2 r2 l2 m2 n2 = true)
    (h : unB t r l m n 7 x y = unB t2 r2 l2 m2 n2 7 y x) : (t = t2 ∧ r = r2 ∧ l = l2 ∧ m = m2 ∧ n = n2) ∧ x = y := by
  rw [pkMay_eq] at h1 h2
  simp only [Bool.and_eq_true, inR, decide_eq_true_eq] at h1 h2
  obtain ⟨r1, m1⟩ := h1
  obtain ⟨r3, m3⟩ := h2
  unfold unB pkB at h
  have hn : ∀ a b c, (numsB a b c).length = 12 := fun _ _ _ => rfl
  have hh : ∀ a b c, (headB a b c).length = 12 := fun _ _ _ => rfl
  obtain ⟨h3, h4⟩ := List.append_inj' h rfl
  obtain ⟨h5, h6⟩ := List.append_inj h3 rfl
  have ht : t = t2 := by
    unfold headB at h5
    simp only [List.append_assoc] at h5
    obtain ⟨_, h5⟩ := List.append_inj h5 rfl
    obtain ⟨h7, _⟩ := List.append_inj h5 rfl
    injection h7 with h7 _
    have a := type_in m1
    have b := type_in m3
    exact b8_inj (by omega) (by omega) h7
  have hr : r = r2 := by
    unfold headB at h5
    simp only [List.append_assoc] at h5
    obtain ⟨_, h5⟩ := List.append_inj h5 rfl
    obtain ⟨_, h5⟩ := List.append_inj h5 rfl
    obtain ⟨_, h5⟩ := List.append_inj h5 rfl
    obtain ⟨h7, _⟩ := List.append_inj h5 rfl
    have := four_eq h7
    omega
  subst ht
  obtain ⟨e1, e2, e3⟩ := list_inj m1 m3 h6
  refine ⟨⟨rfl, hr, e1, e2, e3⟩, ?_⟩
  unfold numsB at h4
  simp only [List.append_assoc] at h4
  obtain ⟨_, h4⟩ := List.append_inj h4 rfl
  obtain ⟨_, h4⟩ := List.append_inj h4 rfl
  obtain ⟨h7, _⟩ := List.append_inj h4 rfl
  have := four_eq h7
  omega
end Go.AM
