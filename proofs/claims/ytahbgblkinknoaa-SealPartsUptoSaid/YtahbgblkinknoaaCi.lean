import Derived.Test.YtahbgblkinknoaaCh
/- The tag. -/
set_option linter.unusedSimpArgs false
set_option linter.unusedVariables false
set_option maxRecDepth 100000
set_option maxHeartbeats 4000000
namespace Go.AM.Try
open Go.Proofs.Try
attribute [-simp] UInt8.toNat_toUInt32 UInt32.toNat_toUInt8 UInt32.toNat_or UInt32.toNat_and UInt32.toNat_xor UInt32.toNat_shiftLeft UInt32.toNat_shiftRight UInt32.toNat_add UInt32.toNat_not
attribute [-simp] z126 strA UInt8.toNat_xor UInt8.toNat_and UInt8.toNat_or
attribute [simp] strA_addc strA_eql strA_neq
theorem u8_bv (x : UInt8) : BitVec.ofInt 8 (x.toNat : Int) = x.toBitVec := by
  apply BitVec.eq_of_toNat_eq
  rw [BitVec.ofInt_natCast, BitVec.toNat_ofNat]
  have := x.toNat_lt
  rw [Nat.mod_eq_of_lt this]; rfl
@[simp high] theorem ib_xor (x y : UInt8) : intA .xor .u8 x.toNat y.toNat = some (.int .u8 ((x ^^^ y).toNat : Int)) := by
  show some (AV.int .u8 (IntKind.u8.wrap ((BitVec.ofInt 8 (x.toNat : Int) ^^^ BitVec.ofInt 8 (y.toNat : Int)).toNat : Int))) = _
  rw [u8_bv, u8_bv, u8_wrap]
  have : ((x.toBitVec ^^^ y.toBitVec).toNat : Int) % 256 = ((x ^^^ y).toNat : Int) := by
    have h := (x ^^^ y).toNat_lt
    show (((x ^^^ y).toNat : Nat) : Int) % 256 = _
    omega
  rw [this]
/-- Bytes as cells. -/
def byC (s : List UInt8) : List AV := s.map fun c => .int .u8 c.toNat
@[simp] theorem byC_length (s : List UInt8) : (byC s).length = s.length := by simp [byC]
theorem byC_at {s : List UInt8} {i : Nat} (h : i < s.length) : (byC s)[i]? = some (.int .u8 ((s[i]).toNat : Int)) := by simp [byC, h]
@[simp] theorem bytesOf_byC (s : List UInt8) : bytesOf (byC s) = some s := by
  induction s with
  | nil => rfl
  | cons c s ih =>
    have : byC (c :: s) = .int .u8 (c.toNat : Int) :: byC s := rfl
    rw [this, bytesOf, ih]
    simp
theorem byC_set (l : List UInt8) (i : Nat) (x : UInt8) (h : i < l.length) : (byC l).take i ++ .int .u8 (x.toNat : Int) :: (byC l).drop (i + 1) = byC (l.set i x) := by
  have : (byC l).set i (.int .u8 (x.toNat : Int)) = byC (l.set i x) := by simp [byC, List.map_set]
  rw [← this, List.set_eq_take_append_cons_drop, if_pos (by simpa using h)]
theorem byC_map (s : List UInt8) : (s.map fun c => AV.int .u8 (c.toNat : Int)) = byC s := rfl
/-- The first some are turned in. -/
def tu (s : List UInt8) (b : UInt8) (i : Nat) : List UInt8 := (s.take i).map (· ^^^ b) ++ s.drop i
theorem tu_length (s : List UInt8) (b : UInt8) (i : Nat) : (tu s b i).length = s.length := by simp [tu]; omega
theorem tu_get {s : List UInt8} (b : UInt8) {i : Nat} (h : i < s.length) : (tu s b i)[i]? = some s[i] := by
  simp [tu, List.getElem?_append, h, Nat.min_eq_left (Nat.le_of_lt h)]
theorem tu_set {s : List UInt8} (b : UInt8) {i : Nat} (h : i < s.length) : (tu s b i).set i (s[i] ^^^ b) = tu s b (i + 1) := by
  unfold tu
  rw [List.set_append_right _ _ (by simp; omega)]
  simp only [List.length_map, List.length_take, Nat.min_eq_left (Nat.le_of_lt h), Nat.sub_self]
  rw [List.drop_eq_getElem_cons h, List.set_cons_zero, List.take_succ_eq_append_getElem h]
  simp only [List.map_append, List.map_cons, List.map_nil, List.append_assoc, List.cons_append, List.nil_append]
def muC (s : List UInt8) (b : UInt8) (i : Nat) : St := ⟨[.any, .int .u8 b.toNat, .any, .any, .any, .ref 0 0 s.length 1, .any, .any, .any, .any, .int .i64 s.length, .int .i64 i, .any, .any, .any, .any, .any, .any, .any, .any, .any, .any, .any, .any], [(0, ⟨byC (tu s b i), 0, false⟩)], 1⟩
def U8ok (x : Int) : Prop := ∃ v : UInt8, x = (v.toNat : Int)
def u8 (x : Int) : UInt8 := UInt8.ofNat x.toNat
@[simp] theorem u8_toNat (x : UInt8) : u8 (x.toNat : Int) = x := by simp [u8]
open Classical in
noncomputable def g62 : List AV → Option AV
  | [.str s, .int .u8 x] => if U8ok x ∧ s.length ≤ 1000000 then some (.str (s.map (· ^^^ u8 x))) else none
  | _ => none
theorem t62 : ∀ args r, g62 args = some r → Told prog 62 args r := by
  intro args r h
  unfold g62 at h
  split at h <;> try (cases h; done)
  rename_i s x
  split at h <;> try (cases h; done)
  rename_i hcond
  injection h with h; subst h
  refine told_fn (i := info 62) (n := 1000002) TTok L61ok mix fn62 po62 ?_
  obtain ⟨⟨b, rfl⟩, hl⟩ := hcond
  simp [f62, byC_map]
  rw [iter_to (muC s b) s.length (by omega)]
  · have e : tu s b s.length = s.map (· ^^^ b) := by simp [tu]
    have e2 : List.take s.length (byC (s.map (· ^^^ b))) = byC (s.map (· ^^^ b)) := List.take_of_length_le (by simp)
    simp [muC, e, e2]
  · simp [muC, tu, byC_map]
  · intro i hi
    have w1 : IntKind.i64.wrap ((i : Int) + 1) = (i : Int) + 1 := wi64 (by omega) (by omega)
    have hl2 := tu_length s b i
    have hg : (byC (tu s b i))[i]? = some (.int .u8 ((s[i]).toNat : Int)) := by
      have h2 := tu_get b hi
      have h3 : i < (tu s b i).length := by rw [hl2]; exact hi
      rw [byC_at h3]
      rw [List.getElem?_eq_getElem h3] at h2
      rw [Option.some.inj h2]
    have hg' : ∀ h, (byC (tu s b i))[i]'h = .int .u8 ((s[i]).toNat : Int) := fun h => by
      rw [List.getElem?_eq_getElem h] at hg
      exact Option.some.inj hg
    have st := byC_set (tu s b i) i (s[i] ^^^ b) (by rw [hl2]; exact hi)
    rw [tu_set b hi] at st
    have hk : i + 1 ≤ s.length := by omega
    simp [muC, hi, w1, hg, hg', st, hl2, hk]
  · simp [muC, stops]
noncomputable abbrev L62 := AM.ext L61 62 g62
theorem L62ok : CallOK prog L62 := L61ok.ext fn62 (by kernel_rfl) t62
@[simp] theorem U8ok_toNat (v : UInt8) : U8ok (v.toNat : Int) := ⟨v, rfl⟩
@[simp] theorem U8ok_92 : U8ok 92 := ⟨92, rfl⟩
@[simp] theorem U8ok_54 : U8ok 54 := ⟨54, rfl⟩
@[simp] theorem u8_92 : u8 92 = 92 := rfl
@[simp] theorem u8_54 : u8 54 = 54 := rfl
open Classical in
noncomputable def g45 : List AV → Option AV
  | [.str k, .str s] => if s.length ≤ 10000000 then some (.tup (if inL 1 32 k then [.str (tagW k s), .int .i64 0] else [.str [], .int .i64 200])) else none
  | _ => none
theorem t45 : ∀ args r, g45 args = some r → Told prog 45 args r := by
  intro args r h
  unfold g45 at h
  split at h <;> try (cases h; done)
  rename_i k s
  split at h <;> try (cases h; done)
  rename_i hcond
  injection h with h; subst h
  refine told_fn (i := info 45) (n := 5) TTok L62ok mix fn45 po45 ?_
  cases hk : inL 1 32 k
  · simp [f45, g41, hk]
  · have h1 : 1 ≤ k.length ∧ k.length ≤ 32 := by simpa [inL] using hk
    have w1 : IntKind.i64.wrap (64 - (k.length : Int)) = ((64 - k.length : Nat) : Int) := by rw [wi64 (by omega) (by omega)]; omega
    have h2 : ((64 - k.length : Nat) : Int) ≤ 64 := by omega
    have e1 : ∀ b, List.map (· ^^^ b) (k ++ List.replicate (64 - k.length) 0) = keyB k b := fun b => rfl
    have e2 : k.length + (64 - k.length) = 64 := by omega
    have e3 : ∀ b, (keyB k b).length = 64 := fun b => by simp [keyB, e2]
    have e4 : s.length ≤ 10000000 := hcond
    have f1 : 64 + s.length ≤ 1000000000 := by omega
    have f2 : (shaW (keyB k 54 ++ s)).length = 32 := shaW_length _
    simp (disch := first | assumption | (simp; done) | (simp [e2, e3, f2]; done) | (simp [e2, e3, f2]; omega) | omega) [f45, g41, hk, w1, h2, g60, g62, g61, e1, e2, e3, f1, f2, tagW, -List.map_append]
noncomputable abbrev L45 := AM.ext L62 45 g45
theorem L45ok : CallOK prog L45 := L62ok.ext fn45 (by kernel_rfl) t45
end Go.AM.Try

