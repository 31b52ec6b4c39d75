import Derived.Test.YtahbgblkinknoaaPl
/- What the program's layers from 9 on say, in plain words. -/
namespace Go.AM
def okInts (v : AV) : Prop := isInts v ∧ (unInts v).length ≤ 100000000
def okLinks (v : AV) : Prop := isLinks v ∧ (unLinks v).length ≤ 100000000
/-- No row in it is huge. -/
def smallL (l : List Lsa) : Prop := ∀ a ∈ l, a.links.length ≤ 100000000
def okLsas (v : AV) : Prop := isLsas v ∧ (unLsas v).length ≤ 100000000 ∧ smallL (unLsas v)
def okHeads (v : AV) : Prop := isHeads v ∧ (unHeads v).length ≤ 100000000
@[simp] theorem okInts_V (l : List Int) : okInts (intsV l) ↔ l.length ≤ 100000000 := by simp [okInts]
@[simp] theorem okLinks_V (l : List Lk) : okLinks (linkV l) ↔ l.length ≤ 100000000 := by simp [okLinks]
@[simp] theorem okLsas_V (l : List Lsa) : okLsas (lsaV l) ↔ (l.length ≤ 100000000 ∧ smallL l) := by simp [okLsas]
@[simp] theorem okInts_sl (l : List Int) : okInts (.sl true (intsC l) l.length) ↔ l.length ≤ 100000000 := okInts_V l
@[simp] theorem okLinks_sl (l : List Lk) : okLinks (.sl true (linkC l) l.length) ↔ l.length ≤ 100000000 := okLinks_V l
@[simp] theorem okLsas_sl (l : List Lsa) : okLsas (.sl false (lsaC l) l.length) ↔ (l.length ≤ 100000000 ∧ smallL l) := okLsas_V l
@[simp] theorem okHeads_sl (l : List Hd) : okHeads (.sl true (headC l) l.length) ↔ l.length ≤ 100000000 := by show okHeads (headV l) ↔ _; simp [okHeads]
@[simp] theorem unInts_sl (l : List Int) : unInts (.sl true (intsC l) l.length) = l := unInts_intsV l
@[simp] theorem unLinks_sl (l : List Lk) : unLinks (.sl true (linkC l) l.length) = l := unLinks_linkV l
@[simp] theorem unLsas_sl (l : List Lsa) : unLsas (.sl false (lsaC l) l.length) = l := unLsas_lsaV l
@[simp] theorem unHeads_sl (l : List Hd) : unHeads (.sl true (headC l) l.length) = l := unHeads_headV l
@[simp] theorem Lsa.eta (a : Lsa) : Lsa.mk a.router a.serial a.age a.links = a := rfl
@[simp] theorem Hd.eta (a : Hd) : Hd.mk a.router a.serial a.age a.sum = a := rfl
@[simp] theorem Lk.eta (a : Lk) : Lk.mk a.to a.cost = a := rfl
@[simp] theorem okHeads_V (l : List Hd) : okHeads (headV l) ↔ l.length ≤ 100000000 := by simp [okHeads]
@[simp] theorem okInts_snil : okInts .snil := by simp [okInts]
@[simp] theorem okLinks_snil : okLinks .snil := by simp [okLinks]
@[simp] theorem okLsas_snil : okLsas .snil := by simp [okLsas, smallL]
@[simp] theorem okHeads_snil : okHeads .snil := by simp [okHeads]
/-- A row's number. -/
def iat (l : List Int) (i : Nat) : Int := l.getD i 0
theorem intsC_at {l : List Int} {i : Nat} (hi : i < l.length) : (intsC l).drop i = .int .i64 (iat l i) :: intsC (l.drop (i + 1)) := by
  rw [intsC_drop hi]; simp [iat, hi]
def helloOk (l : List Int) (i : Nat) : Bool := inR 1 4 (iat l i) && (decide (i = 0) || decide (iat l (i - 1) < iat l i))
def helloMay (l : List Int) : Bool := allTo (helloOk l) l.length
def heardB (l : List Int) : List UInt8 := b8 l.length :: l.map b8
theorem map_take_succ {α β : Type} (f : α → β) {l : List α} {j : Nat} (h : j < l.length) : (l.take (j + 1)).map f = (l.take j).map f ++ [f l[j]] := by
  rw [List.take_succ_eq_append_getElem h, List.map_append]; rfl
theorem heard_succ {l : List Int} {j : Nat} (h : j < l.length) : (l.take (j + 1)).map b8 = (l.take j).map b8 ++ [b8 (iat l j)] := by
  rw [map_take_succ b8 h]; simp [iat, h]
def headMay (t r n : Int) : Bool := isType t && (inR 1 4 r && inR 12 512 n)
def headB (t r n : Int) : List UInt8 := [b8 2] ++ [b8 t] ++ two n ++ four r ++ four 0
def numsB (k b c : Int) : List UInt8 := [b8 k] ++ [0, 0, 0] ++ four b ++ four c
def signB (k s : List UInt8) (r : Int) : List UInt8 := if inL 1 32 k then tagW k (s ++ four r) else []

instance : Inhabited Lk := ⟨⟨0, 0⟩⟩
instance : Inhabited Lsa := ⟨⟨0, 0, 0, []⟩⟩
instance : Inhabited Hd := ⟨⟨0, 0, 0, 0⟩⟩
def lat (l : List Lk) (i : Nat) : Lk := l.getD i default
def aat (l : List Lsa) (i : Nat) : Lsa := l.getD i default
def hat (l : List Hd) (i : Nat) : Hd := l.getD i default
def linkOk (r : Int) (l : List Lk) (i : Nat) : Bool :=
  inR 1 4 (lat l i).to && (!decide ((lat l i).to = r) && (inR 1 65535 (lat l i).cost && (decide (i = 0) || decide ((lat l (i - 1)).to < (lat l i).to))))
def linksMay (r : Int) (l : List Lk) : Bool := allTo (linkOk r l) l.length
def lsaMay (a : Lsa) : Bool := inR 1 4 a.router && (inR 1 2147483647 a.serial && (inR 0 60 a.age && linksMay a.router a.links))
def linkB (x : Lk) : List UInt8 := [b8 x.to] ++ two x.cost
def bodyB (a : Lsa) : List UInt8 := [b8 a.router] ++ four a.serial ++ [b8 a.links.length] ++ a.links.flatMap linkB
def fl1 (a : Int) (c : UInt8) : Int := (a + c.toNat) % 255
def flStep (p : Int × Int) (c : UInt8) : Int × Int := (fl1 p.1 c, (p.2 + fl1 p.1 c) % 255)
def flB (s : List UInt8) (j : Nat) : Int × Int := (s.take j).foldl flStep (0, 0)
def fletchB (s : List UInt8) : Int := 256 * (flB s s.length).2 + (flB s s.length).1
def lsaB (a : Lsa) : List UInt8 := [b8 a.age] ++ bodyB a ++ two (fletchB (bodyB a))
def updOk (l : List Lsa) (i : Nat) : Bool := lsaMay (aat l i) && (decide (i = 0) || decide ((aat l (i - 1)).router < (aat l i).router))
def updMay (l : List Lsa) : Bool := allTo (updOk l) l.length
def updB (l : List Lsa) : List UInt8 := b8 l.length :: l.flatMap lsaB
def hdMay (h : Hd) : Bool := inR 1 4 h.router && (inR 1 2147483647 h.serial && (inR 0 60 h.age && inR 0 65535 h.sum))
def ackOk (l : List Hd) (i : Nat) : Bool := hdMay (hat l i) && (decide (i = 0) || decide ((hat l (i - 1)).router < (hat l i).router))
def ackMay (l : List Hd) : Bool := allTo (ackOk l) l.length
def hdB (h : Hd) : List UInt8 := [b8 h.router] ++ [b8 h.age] ++ four h.serial ++ two h.sum
def ackB (l : List Hd) : List UInt8 := b8 l.length :: l.flatMap hdB
/-- A packet's list's bytes; may it be? -/
def listB (t : Int) (h : List Int) (ls : List Lsa) (hs : List Hd) : List UInt8 :=
  if t = 1 then (if helloMay h then heardB h else []) else if t = 4 then (if updMay ls then updB ls else []) else if t = 5 then (if ackMay hs then ackB hs else []) else []
def listMay (t : Int) (h : List Int) (ls : List Lsa) (hs : List Hd) : Bool :=
  if t = 1 then helloMay h && decide (ls.length + hs.length = 0) else if t = 4 then updMay ls && decide (h.length + hs.length = 0) else if t = 5 then ackMay hs && decide (h.length + ls.length = 0) else false
def pkMay (t r : Int) (h : List Int) (ls : List Lsa) (hs : List Hd) : Bool := listMay t h ls hs && headMay t r (12 + (listB t h ls hs).length)
def pkB (t r : Int) (h : List Int) (ls : List Lsa) (hs : List Hd) : List UInt8 := headB t r (12 + (listB t h ls hs).length) ++ listB t h ls hs
def sealMay (t r : Int) (h : List Int) (ls : List Lsa) (hs : List Hd) (ka : Int) (ks : List UInt8) (kb kc kd ke : Int) (b c : Int) : Bool :=
  pkMay t r h ls hs && (keyMay ka ks kb kc kd ke && (inR 1 4294967295 b && inR 1 4294967295 c))
def unB (t r : Int) (h : List Int) (ls : List Lsa) (hs : List Hd) (ka b c : Int) : List UInt8 := pkB t r h ls hs ++ numsB ka b c
def sealB (t r : Int) (h : List Int) (ls : List Lsa) (hs : List Hd) (ka : Int) (ks : List UInt8) (b c : Int) : List UInt8 := unB t r h ls hs ka b c ++ signB ks (unB t r h ls hs ka b c) r

theorem flat_take_succ {α β : Type} (f : α → List β) {l : List α} {j : Nat} (h : j < l.length) : (l.take (j + 1)).flatMap f = (l.take j).flatMap f ++ f l[j] := by
  rw [List.take_succ_eq_append_getElem h, List.flatMap_append]; simp
theorem link_succ {l : List Lk} {j : Nat} (h : j < l.length) : (l.take (j + 1)).flatMap linkB = (l.take j).flatMap linkB ++ linkB (lat l j) := by
  rw [flat_take_succ linkB h]; simp [lat, h]
theorem lsaB_succ {l : List Lsa} {j : Nat} (h : j < l.length) : (l.take (j + 1)).flatMap lsaB = (l.take j).flatMap lsaB ++ lsaB (aat l j) := by
  rw [flat_take_succ lsaB h]; simp [aat, h]
theorem hdB_succ {l : List Hd} {j : Nat} (h : j < l.length) : (l.take (j + 1)).flatMap hdB = (l.take j).flatMap hdB ++ hdB (hat l j) := by
  rw [flat_take_succ hdB h]; simp [hat, h]
theorem flat_le {α β : Type} (f : α → List β) (k : Nat) : ∀ (l : List α), (∀ a ∈ l, (f a).length ≤ k) → (l.flatMap f).length ≤ l.length * k
  | [], _ => by simp
  | a :: l, h => by
    have h1 := h a (by simp)
    have h2 := flat_le f k l fun b hb => h b (by simp [hb])
    simp only [List.flatMap_cons, List.length_append, List.length_cons, Nat.succ_mul]
    omega
theorem length_flat' {α β : Type} (f : α → List β) (k : Nat) (hk : ∀ a, (f a).length = k) : ∀ (l : List α), (l.flatMap f).length = l.length * k
  | [] => by simp
  | a :: l => by simp [hk, length_flat' f k hk l, Nat.succ_mul]; omega
theorem linkB_length (x : Lk) : (linkB x).length = 3 := rfl
theorem hdB_length (x : Hd) : (hdB x).length = 8 := rfl
theorem links_len {r : Int} {l : List Lk} (h : linksMay r l = true) : l.length ≤ 4 := by
  have key : ∀ i, i < l.length → (i : Int) + 1 ≤ (lat l i).to ∧ (lat l i).to ≤ 4 := by
    intro i
    induction i with
    | zero =>
      intro hi
      have := allTo_iff.1 h 0 hi
      simp [linkOk, inR] at this
      omega
    | succ i ih =>
      intro hi
      have h1 := ih (by omega)
      have := allTo_iff.1 h (i + 1) hi
      simp [linkOk, inR] at this
      omega
  rcases Nat.lt_or_ge 4 l.length with h4 | h4
  · have := key 4 h4
    omega
  · exact h4
theorem upd_len {l : List Lsa} (h : updMay l = true) : l.length ≤ 4 := by
  have key : ∀ i, i < l.length → (i : Int) + 1 ≤ (aat l i).router ∧ (aat l i).router ≤ 4 := by
    intro i
    induction i with
    | zero =>
      intro hi
      have := allTo_iff.1 h 0 hi
      simp [updOk, lsaMay, inR] at this
      omega
    | succ i ih =>
      intro hi
      have h1 := ih (by omega)
      have := allTo_iff.1 h (i + 1) hi
      simp [updOk, lsaMay, inR] at this
      omega
  rcases Nat.lt_or_ge 4 l.length with h4 | h4
  · have := key 4 h4
    omega
  · exact h4
theorem ack_len {l : List Hd} (h : ackMay l = true) : l.length ≤ 4 := by
  have key : ∀ i, i < l.length → (i : Int) + 1 ≤ (hat l i).router ∧ (hat l i).router ≤ 4 := by
    intro i
    induction i with
    | zero =>
      intro hi
      have := allTo_iff.1 h 0 hi
      simp [ackOk, hdMay, inR] at this
      omega
    | succ i ih =>
      intro hi
      have h1 := ih (by omega)
      have := allTo_iff.1 h (i + 1) hi
      simp [ackOk, hdMay, inR] at this
      omega
  rcases Nat.lt_or_ge 4 l.length with h4 | h4
  · have := key 4 h4
    omega
  · exact h4
theorem bodyB_length (a : Lsa) : (bodyB a).length = 6 + a.links.length * 3 := by
  have h := length_flat' linkB 3 linkB_length a.links
  simp only [bodyB, List.length_append, h]
  rfl
theorem lsaB_length (a : Lsa) : (lsaB a).length = 9 + a.links.length * 3 := by
  have : (two (fletchB (bodyB a))).length = 2 := rfl
  simp only [lsaB, List.length_append, bodyB_length, this, List.length_cons, List.length_nil]
  omega
theorem lsaB_le {a : Lsa} (h : lsaMay a = true) : (lsaB a).length ≤ 21 := by
  simp only [lsaMay, Bool.and_eq_true] at h
  have := links_len h.2.2.2
  rw [lsaB_length]; omega
theorem aat_may {l : List Lsa} (h : updMay l = true) {i : Nat} (hi : i < l.length) : lsaMay (aat l i) = true := by
  have := allTo_iff.1 h i hi
  simp only [updOk, Bool.and_eq_true] at this
  exact this.1
theorem aat_small {l : List Lsa} (h : smallL l) {i : Nat} (hi : i < l.length) : (aat l i).links.length ≤ 100000000 := by
  have := h l[i] (by simp)
  simpa [aat, hi] using this
theorem upd_take {l : List Lsa} (h : updMay l = true) (i : Nat) : ((l.take i).flatMap lsaB).length ≤ 84 := by
  have hl := upd_len h
  have := flat_le lsaB 21 (l.take i) fun a ha => by
    obtain ⟨j, hj, rfl⟩ := List.mem_iff_getElem.1 (List.mem_of_mem_take ha)
    have := aat_may h hj
    simp [aat, hj] at this
    exact lsaB_le this
  have h2 : (l.take i).length ≤ l.length := by simp; omega
  omega
theorem flB_succ {s : List UInt8} {j : Nat} (h : j < s.length) : flB s (j + 1) = flStep (flB s j) s[j] := by
  unfold flB
  rw [List.take_succ_eq_append_getElem h, List.foldl_append]
  rfl
theorem flB_bd (s : List UInt8) : ∀ j, j ≤ s.length → (0 ≤ (flB s j).1 ∧ (flB s j).1 < 255) ∧ 0 ≤ (flB s j).2 ∧ (flB s j).2 < 255
  | 0, _ => by simp [flB]
  | j + 1, h => by
    rw [flB_succ (by omega)]
    simp only [flStep, fl1]
    omega
theorem hello_len {l : List Int} (h : helloMay l = true) : l.length ≤ 4 := by
  have key : ∀ i, i < l.length → (i : Int) + 1 ≤ iat l i ∧ iat l i ≤ 4 := by
    intro i
    induction i with
    | zero =>
      intro hi
      have := allTo_iff.1 h 0 hi
      simp [helloOk, inR] at this
      omega
    | succ i ih =>
      intro hi
      have h1 := ih (by omega)
      have := allTo_iff.1 h (i + 1) hi
      simp [helloOk, inR] at this
      omega
  rcases Nat.lt_or_ge 4 l.length with h4 | h4
  · have := key 4 h4
    omega
  · exact h4
theorem heardB_length (l : List Int) : (heardB l).length = l.length + 1 := by simp [heardB]
theorem updB_le {l : List Lsa} (h : updMay l = true) : (updB l).length ≤ 85 := by
  have := upd_take h l.length
  rw [List.take_length] at this
  simp only [updB, List.length_cons]
  omega
theorem ackB_le {l : List Hd} (h : ackMay l = true) : (ackB l).length ≤ 33 := by
  have h1 := ack_len h
  have h2 := length_flat' hdB 8 hdB_length l
  simp only [ackB, List.length_cons, h2]
  omega
theorem listB_le (t : Int) (h : List Int) (ls : List Lsa) (hs : List Hd) : (listB t h ls hs).length ≤ 85 := by
  unfold listB
  split
  · split
    · rename_i hm
      have := hello_len hm
      rw [heardB_length]; omega
    · simp
  · split
    · split
      · rename_i hm
        exact updB_le hm
      · simp
    · split
      · split
        · rename_i hm
          have := ackB_le hm
          omega
        · simp
      · simp
theorem pkMay_eq (t r : Int) (h : List Int) (ls : List Lsa) (hs : List Hd) : pkMay t r h ls hs = (inR 1 4 r && listMay t h ls hs) := by
  unfold pkMay headMay
  have hb := listB_le t h ls hs
  have h1 : inR 12 512 (12 + ((listB t h ls hs).length : Int)) = true := by simp [inR]; omega
  rw [h1]
  cases hl : listMay t h ls hs
  · simp
  · have ht : isType t = true := by
      unfold listMay at hl
      split at hl
      · rename_i e; simp [isType, e]
      · split at hl
        · rename_i e; simp [isType, e]
        · split at hl
          · rename_i e; simp [isType, e]
          · cases hl
    rw [ht]; simp
end Go.AM
