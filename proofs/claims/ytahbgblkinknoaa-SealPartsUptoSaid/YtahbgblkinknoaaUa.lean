import Derived.Test.YtahbgblkinknoaaSpa
/- Words of 32 bits as the machine counts with them. -/
namespace Go.AM
theorem u32_wrap (n : Int) : IntKind.u32.wrap n = n % 4294967296 := by
  simp [IntKind.wrap, IntKind.signed, IntKind.bits]
theorem u8_wrap (n : Int) : IntKind.u8.wrap n = n % 256 := by
  simp [IntKind.wrap, IntKind.signed, IntKind.bits]
theorem u32_lt (x : UInt32) : x.toNat < 4294967296 := x.toNat_lt
theorem u32_ofNat (n : Nat) : (UInt32.ofNat n).toNat = n % 4294967296 := by
  show (BitVec.ofNat 32 n).toNat = _
  rw [BitVec.toNat_ofNat]
theorem u32_bv (x : UInt32) : BitVec.ofInt 32 (x.toNat : Int) = x.toBitVec := by
  apply BitVec.eq_of_toNat_eq
  rw [BitVec.ofInt_natCast, BitVec.toNat_ofNat]
  have := u32_lt x
  rw [Nat.mod_eq_of_lt this]; rfl
theorem u32_of_bv (b : BitVec 32) : IntKind.u32.wrap (b.toNat : Int) = ((UInt32.ofBitVec b).toNat : Int) := by
  rw [u32_wrap]
  have := b.isLt
  show (b.toNat : Int) % 4294967296 = (b.toNat : Int)
  omega
@[simp high] theorem iu_and (x y : UInt32) : intA .and .u32 x.toNat y.toNat = some (.int .u32 ((x &&& y).toNat : Int)) := by
  show some (AV.int .u32 (IntKind.u32.wrap ((BitVec.ofInt 32 (x.toNat : Int) &&& BitVec.ofInt 32 (y.toNat : Int)).toNat : Int))) = _
  rw [u32_bv, u32_bv, u32_of_bv]; rfl
@[simp high] theorem iu_or (x y : UInt32) : intA .or .u32 x.toNat y.toNat = some (.int .u32 ((x ||| y).toNat : Int)) := by
  show some (AV.int .u32 (IntKind.u32.wrap ((BitVec.ofInt 32 (x.toNat : Int) ||| BitVec.ofInt 32 (y.toNat : Int)).toNat : Int))) = _
  rw [u32_bv, u32_bv, u32_of_bv]; rfl
@[simp high] theorem iu_xor (x y : UInt32) : intA .xor .u32 x.toNat y.toNat = some (.int .u32 ((x ^^^ y).toNat : Int)) := by
  show some (AV.int .u32 (IntKind.u32.wrap ((BitVec.ofInt 32 (x.toNat : Int) ^^^ BitVec.ofInt 32 (y.toNat : Int)).toNat : Int))) = _
  rw [u32_bv, u32_bv, u32_of_bv]; rfl
@[simp high] theorem iu_add (x y : UInt32) : intA .add .u32 x.toNat y.toNat = some (.int .u32 ((x + y).toNat : Int)) := by
  show some (AV.int .u32 (IntKind.u32.wrap ((x.toNat : Int) + y.toNat))) = _
  rw [u32_wrap, UInt32.toNat_add]
  congr 2
  try omega
@[simp high] theorem iu_not (x : UInt32) : unA .xor (.int .u32 x.toNat) = some (.int .u32 ((~~~ x).toNat : Int)) := by
  show some (AV.int .u32 (IntKind.u32.wrap ((BitVec.ofInt 32 (IntKind.u32.max) ^^^ BitVec.ofInt 32 (x.toNat : Int)).toNat : Int))) = _
  rw [u32_bv, u32_of_bv]
  congr 3
@[simp high] theorem iu_shl (x : UInt32) (b : Int) (h0 : 0 ≤ b) (h1 : b < 32) : shiftA .shl .u32 x.toNat b = some (.int .u32 ((x <<< UInt32.ofNat b.toNat).toNat : Int)) := by
  obtain ⟨n, rfl⟩ : ∃ n : Nat, b = n := ⟨b.toNat, by omega⟩
  have hn : n < 32 := by omega
  have e : shiftA .shl .u32 x.toNat (n : Int) = some (.int .u32 (IntKind.u32.wrap ((x.toNat : Int) * 2 ^ (min n 32)))) := by
    unfold shiftA
    rw [if_neg (by omega)]
    rfl
  rw [e, u32_wrap, Nat.min_eq_left (by omega), UInt32.toNat_shiftLeft]
  have e2 : (UInt32.ofNat n).toNat % 32 = n := by
    rw [u32_ofNat]; omega
  simp only [Int.toNat_natCast, e2, Nat.shiftLeft_eq]
  congr 2
@[simp high] theorem iu_shr (x : UInt32) (b : Int) (h0 : 0 ≤ b) (h1 : b < 32) : shiftA .shr .u32 x.toNat b = some (.int .u32 ((x >>> UInt32.ofNat b.toNat).toNat : Int)) := by
  obtain ⟨n, rfl⟩ : ∃ n : Nat, b = n := ⟨b.toNat, by omega⟩
  have hn : n < 32 := by omega
  have e : shiftA .shr .u32 x.toNat (n : Int) = some (.int .u32 ((x.toNat : Int).fdiv (2 ^ (min n 32)))) := by
    unfold shiftA
    rw [if_neg (by omega)]
    rfl
  rw [e, Nat.min_eq_left (by omega), UInt32.toNat_shiftRight]
  have e2 : (UInt32.ofNat n).toNat % 32 = n := by
    rw [u32_ofNat]; omega
  simp only [Int.toNat_natCast, e2, Nat.shiftRight_eq_div_pow]
  congr 2
  rw [Int.fdiv_eq_ediv_of_nonneg _ (by exact Int.pow_nonneg (by omega))]
  simp
@[simp high] theorem u32_u8 (c : UInt8) : IntKind.u32.wrap (c.toNat : Int) = (c.toUInt32.toNat : Int) := by
  rw [u32_wrap, UInt8.toNat_toUInt32]
  have := c.toNat_lt
  omega
@[simp high] theorem u8_u32 (x : UInt32) : IntKind.u8.wrap (x.toNat : Int) = (x.toUInt8.toNat : Int) := by
  rw [u8_wrap, UInt32.toNat_toUInt8]
  omega
@[simp] theorem u64_wrap (n : Int) : IntKind.u64.wrap n = n % 18446744073709551616 := by
  simp [IntKind.wrap, IntKind.signed, IntKind.bits]
@[simp] theorem u64_bits : IntKind.u64.bits = 64 := rfl
/-- Turned to the right. -/
def rotr (x : UInt32) (n : Nat) : UInt32 := (x <<< UInt32.ofNat (32 - n)) ||| (x >>> UInt32.ofNat n)
def u32 (x : Int) : UInt32 := UInt32.ofNat x.toNat
@[simp] theorem u32_toNat (x : UInt32) : u32 (x.toNat : Int) = x := by simp [u32]
theorem u32_mk {x : Int} (h0 : 0 ≤ x) (h1 : x < 4294967296) : ∃ v : UInt32, x = (v.toNat : Int) := ⟨u32 x, by
  unfold u32
  rw [u32_ofNat]; omega⟩
@[simp] theorem u32_lt' (x : UInt32) : (x.toNat : Int) < 4294967296 := by have := u32_lt x; omega
end Go.AM
