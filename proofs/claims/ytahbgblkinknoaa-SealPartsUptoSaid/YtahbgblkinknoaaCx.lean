import Derived.Test.YtahbgblkinknoaaCv
import Derived.Test.YtahbgblkinknoaaIn
/- What the document's own answer writes. -/
set_option linter.unusedSimpArgs false
set_option linter.unusedVariables false
set_option maxRecDepth 100000
set_option maxHeartbeats 4000000
namespace Go.AM.Try
open Go.Proofs.Try
attribute [-simp] strA
attribute [simp] strA_addc strA_eql strA_neq
theorem fd1 (x : Int) : x.fdiv 1 = x := by rw [Int.fdiv_eq_ediv_of_nonneg _ (by omega)]; simp
theorem numB1 (x : Int) : numB x 1 = [b8 x] := by simp [numB, fd1]
theorem numB2 (x : Int) : numB x 2 = two x := by simp [numB, two, fd1]
theorem numB3z : numB 0 3 = [0, 0, 0] := by decide
theorem numB_len (x : Int) (k : Nat) : (numB x k).length = k := numB_length x k
def rfC (s : List UInt8) (i : Nat) : St := ⟨[.str s, .any, .any, .int .i64 (flB s i).1, .int .i64 (flB s i).2, .int .i64 i, .any, .any, .any, .any, .any, .any, .any, .any, .any, .any, .any, .any, .any, .any, .any, .any, .any, .any, .any, .any, .any], [], 0⟩
open Classical in
noncomputable def g86 : List AV → Option AV
  | [.str s] => if s.length ≤ 1000000000 then some (.int .i64 (fletchB s)) else none
  | _ => none
theorem t86 : ∀ args r, g86 args = some r → Told prog 86 args r := by
  intro args r h
  unfold g86 at h
  split at h <;> try (cases h; done)
  rename_i s
  split at h <;> try (cases h; done)
  rename_i hcond
  injection h with h; subst h
  refine told_fn (i := info 86) (n := (s.length + 1)) TTok L14ok mix fn86 po86 ?_
  simp [f86]
  rw [iter_to (rfC s) s.length (by omega)]
  · have hb := flB_bd s s.length (by omega)
    have e1 : IntKind.i64.wrap (256 * (flB s s.length).2) = 256 * (flB s s.length).2 := wi64 (by omega) (by omega)
    have e2 : IntKind.i64.wrap (256 * (flB s s.length).2 + (flB s s.length).1) = 256 * (flB s s.length).2 + (flB s s.length).1 := wi64 (by omega) (by omega)
    simp [rfC, e1, e2, fletchB]
  · simp [rfC, flB]
  · intro i hi
    have hc : s[i]? = some s[i] := by simp [hi]
    obtain ⟨p, hp⟩ : ∃ p, flB s i = p := ⟨_, rfl⟩
    have hb := flB_bd s i (by omega)
    rw [hp] at hb
    have hs := flB_succ hi
    rw [hp] at hs
    have h8 := (s[i]).toNat_lt
    have w1 : IntKind.i64.wrap ((i : Int) + 1) = (i : Int) + 1 := wi64 (by omega) (by omega)
    have w2 : IntKind.i64.wrap ((s[i]).toNat : Int) = ((s[i]).toNat : Int) := wi64 (by omega) (by omega)
    have w3 : IntKind.i64.wrap (p.1 + ((s[i]).toNat : Int)) = p.1 + ((s[i]).toNat : Int) := wi64 (by omega) (by omega)
    have e3 : (p.1 + ((s[i]).toNat : Int)).tmod 255 = fl1 p.1 s[i] := tmod_pos (by omega)
    have b3 : 0 ≤ fl1 p.1 s[i] ∧ fl1 p.1 s[i] < 255 := by unfold fl1; omega
    have w4 : IntKind.i64.wrap (p.2 + fl1 p.1 s[i]) = p.2 + fl1 p.1 s[i] := wi64 (by omega) (by omega)
    have e4 : (p.2 + fl1 p.1 s[i]).tmod 255 = (p.2 + fl1 p.1 s[i]) % 255 := tmod_pos (by omega)
    simp [rfC, hi, hc, hp, hs, w1, w2, w3, e3, w4, e4, flStep]
  · simp [rfC, stops]
noncomputable abbrev L86 := AM.ext L14 86 g86
theorem L86ok : CallOK prog L86 := L14ok.ext fn86 (by kernel_rfl) t86
def rbC (a : Lsa) (i : Nat) : St := ⟨[.any, .ptr 0 0, .any, .str ([b8 a.router] ++ four a.serial ++ [b8 a.links.length] ++ (a.links.take i).flatMap linkB), .int .i64 i, .any, .any, .any, .any, .any, .any, .any, .any, .any, .any, .any, .any, .any, .any, .any, .any, .any, .any, .any, .any, .any, .any, .any, .any, .any, .any, .any, .any, .any, .any, .any, .any, .any, .any, .any, .any, .any], [(0, ⟨[.int .i64 a.router, .int .i64 a.serial, .int .i64 a.age, linkV a.links], 2, false⟩)], 1⟩
open Classical in
noncomputable def g85 : List AV → Option AV
  | [.agg [.int .i64 r, .int .i64 s, .int .i64 a, v]] => if okLinks v then some (.str (bodyB ⟨r, s, a, unLinks v⟩)) else none
  | _ => none
theorem t85 : ∀ args r, g85 args = some r → Told prog 85 args r := by
  intro args r h
  unfold g85 at h
  split at h <;> try (cases h; done)
  rename_i r s a v
  split at h <;> try (cases h; done)
  rename_i hcond
  injection h with h; subst h
  obtain ⟨hc, hb⟩ := hcond
  obtain ⟨l, hl⟩ : ∃ l, unLinks v = l := ⟨_, rfl⟩
  unfold isLinks at hc
  rw [hl] at hc hb ⊢
  refine Told.le (.cons (.agg (.cons (.refl _) (.cons (.refl _) (.cons (.refl _) (.cons hc .nil))))) .nil) ?_
  refine told_fn (i := info 85) (n := (l.length + 1)) TTok L86ok mix fn85 po85 ?_
  have hf : (four s).length = 4 := rfl
  simp (disch := first | assumption | (simp; done) | (simp [hf]; done) | (simp [hf]; omega) | omega) [f85, linkV, gNum, g13, numB1, numB4]
  rw [iter_to (rbC ⟨r, s, a, l⟩) l.length (by omega)]
  · simp [rbC, linkV, bodyB]
  · simp [rbC, linkV]
  · intro i hi
    have w1 : IntKind.i64.wrap ((i : Int) + 1) = (i : Int) + 1 := wi64 (by omega) (by omega)
    have hd := linkC_at hi
    have hs := link_succ hi
    have hk : ((l.take i).flatMap linkB).length ≤ 300000000 := by
      have := length_flat' linkB 3 linkB_length (l.take i)
      rw [this]; simp; omega
    simp (disch := first | assumption | (simp; done) | (simp [hf, two, -List.length_flatMap]; done) | (simp [hf, two, -List.length_flatMap]; omega) | omega) [rbC, linkV, hi, hd, gNum, g13, numB1, numB2, w1, hs, linkB]
  · simp [rbC, linkV, stops]
noncomputable abbrev L85 := AM.ext L86 85 g85
theorem L85ok : CallOK prog L85 := L86ok.ext fn85 (by kernel_rfl) t85
open Classical in
noncomputable def g66 : List AV → Option AV
  | [.agg [.int .i64 r, .int .i64 s, .int .i64 a, v]] => if okLinks v then some (.tup (if lsaMay ⟨r, s, a, unLinks v⟩ then [.str (lsaB ⟨r, s, a, unLinks v⟩), .int .i64 0] else [.str [], .int .i64 700])) else none
  | _ => none
theorem t66 : ∀ args r, g66 args = some r → Told prog 66 args r := by
  intro args r h
  unfold g66 at h
  split at h <;> try (cases h; done)
  rename_i r s a v
  split at h <;> try (cases h; done)
  rename_i hcond
  injection h with h; subst h
  obtain ⟨hc, hb⟩ := hcond
  obtain ⟨l, hl⟩ : ∃ l, unLinks v = l := ⟨_, rfl⟩
  unfold isLinks at hc
  rw [hl] at hc hb ⊢
  refine Told.le (.cons (.agg (.cons (.refl _) (.cons (.refl _) (.cons (.refl _) (.cons hc .nil))))) .nil) ?_
  refine told_fn (i := info 66) (n := 5) TTok L85ok mix fn66 po66 ?_
  cases hm : lsaMay ⟨r, s, a, l⟩
  · simp [f66, linkV, hb, g52, hm]
  · have hbl : (bodyB ⟨r, s, a, l⟩).length ≤ 300000006 := by rw [bodyB_length]; simp only; omega
    have hbl2 : (bodyB ⟨r, s, a, l⟩).length ≤ 1000000000 := by omega
    have ht : ∀ x, (two x).length = 2 := fun _ => rfl
    simp (disch := first | assumption | (simp; done) | (simp [ht]; done) | (simp [ht]; omega) | omega) [f66, linkV, hb, g52, hm, g85, gNum, g13, numB1, numB2, g86, hbl2, lsaB]
noncomputable abbrev L66 := AM.ext L85 66 g66
theorem L66ok : CallOK prog L66 := L85ok.ext fn66 (by kernel_rfl) t66
def g46 : List AV → Option AV
  | [.int .i64 t, .int .i64 r, .int .i64 n] => some (.tup (if headMay t r n then [.str (headB t r n), .int .i64 0] else [.str [], .int .i64 800]))
  | _ => none
theorem t46 : ∀ args r, g46 args = some r → Told prog 46 args r := by
  intro args r h
  unfold g46 at h
  split at h <;> try (cases h; done)
  rename_i t r n
  injection h with h; subst h
  refine told_fn (i := info 46) (n := 5) TTok L66ok mix fn46 po46 ?_
  unfold headMay
  cases h1 : isType t
  · simp [f46, g63, h1]
  cases h2 : inR 1 4 r
  · simp [f46, g63, g64, h1, h2]
  cases h3 : inR 12 512 n
  · simp [f46, g63, g64, g65, h1, h2, h3]
  · have e2 : b8 2 = 2 := rfl
    simp (disch := first | assumption | (simp; done) | (simp [two, four]; done) | (simp [two, four]; omega) | omega) [f46, g63, g64, g65, h1, h2, h3, gNum, g13, numB1, numB2, numB4, headB, e2]
noncomputable abbrev L46 := AM.ext L66 46 g46
theorem L46ok : CallOK prog L46 := L66ok.ext fn46 (by kernel_rfl) t46
theorem ofStep_eq {x : Int} (c : UInt8) (h0 : 0 ≤ x) (h1 : x < 1099511627776) : ofStep x c = x * 256 + c.toNat := by
  obtain ⟨n, rfl⟩ : ∃ n : Nat, x = n := ⟨x.toNat, by omega⟩
  have hc := c.toNat_lt
  unfold ofStep
  have e1 : IntKind.i64.wrap ((n : Int) * 2 ^ min 8 IntKind.i64.bits) = (n : Int) * 256 := by
    rw [show (2 : Int) ^ min 8 IntKind.i64.bits = 256 from rfl]
    exact wi64 (by omega) (by omega)
  have e2 : IntKind.i64.wrap (c.toNat : Int) = (c.toNat : Int) := wi64 (by omega) (by omega)
  rw [e1, e2, show (2 : Int) ^ IntKind.i64.bits = 18446744073709551616 from rfl]
  have e3 : ((n : Int) * 256 % 18446744073709551616).toNat = n * 2 ^ 8 := by omega
  have e4 : ((c.toNat : Int) % 18446744073709551616).toNat = c.toNat := by omega
  rw [e3, e4]
  have e5 : n * 2 ^ 8 ||| c.toNat = n * 2 ^ 8 + c.toNat := by
    rw [Nat.mul_comm]
    exact (Nat.two_pow_add_eq_or_of_lt (by omega) n).symm
  rw [e5]
  have := wi64 (n := ((n * 2 ^ 8 + c.toNat : Nat) : Int)) (by omega) (by omega)
  rw [this]
  omega
theorem b8_nat (x : Int) : ((b8 x).toNat : Int) = x % 256 := by
  unfold b8
  rw [u8_wrap]
  have h1 : 0 ≤ x % 256 ∧ x % 256 < 256 := by omega
  have : (UInt8.ofNat (x % 256).toNat).toNat = (x % 256).toNat := by
    show (BitVec.ofNat 8 _).toNat = _
    rw [BitVec.toNat_ofNat]; omega
  rw [this]; omega
theorem ofStep_b8 {x : Int} (y : Int) (h0 : 0 ≤ x) (h1 : x < 1099511627776) : ofStep x (b8 y) = x * 256 + y % 256 := by rw [ofStep_eq _ h0 h1, b8_nat]
theorem ofB_two {x : Int} (h : 0 ≤ x ∧ x < 65536) : ofB (two x) 2 = x := by
  have e : ofB (two x) 2 = ofStep (ofStep 0 (b8 (x.fdiv 256))) (b8 x) := rfl
  have d : x.fdiv 256 = x / 256 := fd x 256
  have s1 := ofStep_b8 (x := 0) (x / 256) (by omega) (by omega)
  rw [e, d, s1, ofStep_b8 _ (by omega) (by omega)]
  omega
theorem ofB_four {x : Int} (h : 0 ≤ x ∧ x < 4294967296) : ofB (four x) 4 = x := by
  have e : ofB (four x) 4 = ofStep (ofStep (ofStep (ofStep 0 (b8 ((x.fdiv 65536).fdiv 256))) (b8 (x.fdiv 65536))) (b8 (x.fdiv 256))) (b8 x) := rfl
  have d1 : x.fdiv 65536 = x / 65536 := fd x 65536
  have d2 : (x / 65536).fdiv 256 = x / 65536 / 256 := fd _ 256
  have d3 : x.fdiv 256 = x / 256 := fd x 256
  have s1 := ofStep_b8 (x := 0) (x / 65536 / 256) (by omega) (by omega)
  have s2 := ofStep_b8 (x := 0 * 256 + x / 65536 / 256 % 256) (x / 65536) (by omega) (by omega)
  have s3 := ofStep_b8 (x := (0 * 256 + x / 65536 / 256 % 256) * 256 + x / 65536 % 256) (x / 256) (by omega) (by omega)
  rw [e, d1, d2, d3, s1, s2, s3, ofStep_b8 _ (by omega) (by omega)]
  omega
end Go.AM.Try

