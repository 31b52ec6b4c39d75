import Derived.Test.YtahbgblkinknoaaMd
/- What the program's small functions answer, in plain words. -/
namespace Go.AM
/-- From a least to a most. -/
def inR (a b x : Int) : Bool := decide (a ≤ x) && decide (x ≤ b)
def inL (a b : Nat) (s : List UInt8) : Bool := decide (a ≤ s.length) && decide (s.length ≤ b)
def isType (x : Int) : Bool := decide (x = 1) || decide (x = 4) || decide (x = 5)
/-- A number's last byte. -/
def b8 (x : Int) : UInt8 := UInt8.ofNat (IntKind.u8.wrap x).toNat
def two (x : Int) : List UInt8 := [b8 (x.fdiv 256), b8 x]
def four (x : Int) : List UInt8 := two (x.fdiv 65536) ++ two x
def keyMay (a : Int) (s : List UInt8) (b c d e : Int) : Bool := inR 0 255 a && (inL 1 32 s && (inR 0 1048576 b && (inR 0 1048576 c && (inR 0 1048576 d && inR 0 1048576 e))))
end Go.AM
namespace Go.AM
/-- Bytes' number, one byte more. -/
def ofStep (x : Int) (c : UInt8) : Int :=
  IntKind.i64.wrap ↑((IntKind.i64.wrap (x * 2 ^ min 8 IntKind.i64.bits) % 2 ^ IntKind.i64.bits).toNat ||| (IntKind.i64.wrap ↑c.toNat % 2 ^ IntKind.i64.bits).toNat)
def ofB (s : List UInt8) (j : Nat) : Int := (s.take j).foldl ofStep 0
theorem ofB_succ {s : List UInt8} {j : Nat} (h : j < s.length) : ofB s (j + 1) = ofStep (ofB s j) s[j] := by
  unfold ofB
  rw [List.take_succ_eq_append_getElem h, List.foldl_append]
  rfl
/-- So many of a number's bytes, the highest first. -/
def numB (x : Int) : Nat → List UInt8
  | 0 => []
  | k + 1 => b8 (x.fdiv (2 ^ (8 * k))) :: numB x k
end Go.AM
