import Derived.Test.YtahbgblkinknoaaUa
/- The sum of chapter 1, in plain words. -/
set_option linter.unusedSimpArgs false
set_option linter.unusedVariables false
namespace Go.AM
attribute [-simp] UInt32.toNat_or UInt32.toNat_and UInt32.toNat_xor UInt32.toNat_shiftLeft UInt32.toNat_shiftRight UInt32.toNat_add UInt32.toNat_not

/-- A word as the machine holds it. -/
def wd (x : UInt32) : AV := .int .u32 (x.toNat : Int)
def wds (l : List UInt32) : List AV := l.map wd
def unw : AV → UInt32
  | .int _ x => u32 x
  | _ => 0
def unws (cs : List AV) : List UInt32 := cs.map unw
@[simp] theorem unws_wds (l : List UInt32) : unws (wds l) = l := by
  simp only [unws, wds, List.map_map]
  exact List.map_congr_left (f := unw ∘ wd) (g := id) (fun x _ => u32_toNat x) |>.trans (by simp)
@[simp] theorem wds_length (l : List UInt32) : (wds l).length = l.length := by simp [wds]
theorem wds_get {l : List UInt32} {i : Nat} (h : i < l.length) : (wds l)[i]? = some (.int .u32 ((l.getD i 0).toNat : Int)) := by
  simp [wds, wd, h]
theorem wds_append (a b : List UInt32) : wds (a ++ b) = wds a ++ wds b := by simp [wds]
def isWs (n : Nat) (cs : List AV) : Prop := ∃ l : List UInt32, l.length = n ∧ cs = wds l

/-- A row's word. -/
def wat (l : List UInt32) (i : Nat) : UInt32 := l.getD i 0
theorem wds_at {l : List UInt32} {i : Nat} (h : i < l.length) : (wds l)[i]? = some (.int .u32 ((wat l i).toNat : Int)) := wds_get h
@[simp] theorem wds_getElem (l : List UInt32) (i : Nat) (h : i < (wds l).length) : (wds l)[i] = .int .u32 ((wat l i).toNat : Int) := by
  have h' : i < l.length := by simpa using h
  have := wds_at h'
  rw [List.getElem?_eq_getElem h] at this
  exact Option.some.inj this
/-- The rounds' words. -/
def Kt : List UInt32 := [
  0x428a2f98, 0x71374491, 0xb5c0fbcf, 0xe9b5dba5, 0x3956c25b, 0x59f111f1, 0x923f82a4, 0xab1c5ed5,
  0xd807aa98, 0x12835b01, 0x243185be, 0x550c7dc3, 0x72be5d74, 0x80deb1fe, 0x9bdc06a7, 0xc19bf174,
  0xe49b69c1, 0xefbe4786, 0x0fc19dc6, 0x240ca1cc, 0x2de92c6f, 0x4a7484aa, 0x5cb0a9dc, 0x76f988da,
  0x983e5152, 0xa831c66d, 0xb00327c8, 0xbf597fc7, 0xc6e00bf3, 0xd5a79147, 0x06ca6351, 0x14292967,
  0x27b70a85, 0x2e1b2138, 0x4d2c6dfc, 0x53380d13, 0x650a7354, 0x766a0abb, 0x81c2c92e, 0x92722c85,
  0xa2bfe8a1, 0xa81a664b, 0xc24b8b70, 0xc76c51a3, 0xd192e819, 0xd6990624, 0xf40e3585, 0x106aa070,
  0x19a4c116, 0x1e376c08, 0x2748774c, 0x34b0bcb5, 0x391c0cb3, 0x4ed8aa4a, 0x5b9cca4f, 0x682e6ff3,
  0x748f82ee, 0x78a5636f, 0x84c87814, 0x8cc70208, 0x90befffa, 0xa4506ceb, 0xbef9a3f7, 0xc67178f2]
theorem Kt_length : Kt.length = 64 := by decide

def be4 (a b c d : UInt8) : UInt32 := (((a.toUInt32 <<< 24) ||| (b.toUInt32 <<< 16)) ||| (c.toUInt32 <<< 8)) ||| d.toUInt32
def fourAt (s : List UInt8) (i : Nat) : UInt32 := be4 (s.getD i 0) (s.getD (i + 1) 0) (s.getD (i + 2) 0) (s.getD (i + 3) 0)
def turn3 (x : UInt32) (a b c : Nat) : UInt32 := (rotr x a ^^^ rotr x b) ^^^ rotr x c
def sg (x : UInt32) (a b c : Nat) : UInt32 := (rotr x a ^^^ rotr x b) ^^^ (x >>> UInt32.ofNat c)
/-- A block's next word. -/
def nextW (s : List UInt8) (l : List UInt32) (i : Nat) : UInt32 :=
  if i < 16 then fourAt s (4 * i) else ((wat l (i - 16) + sg (wat l (i - 15)) 7 18 3) + wat l (i - 7)) + sg (wat l (i - 2)) 17 19 10
def wl (s : List UInt8) : Nat → List UInt32
  | 0 => []
  | i + 1 => wl s i ++ [nextW s (wl s i) i]
@[simp] theorem wl_length (s : List UInt8) : ∀ i, (wl s i).length = i
  | 0 => rfl
  | i + 1 => by simp [wl, wl_length s i]
def zw (n : Nat) : List UInt32 := List.replicate n 0
@[simp] theorem zw_length (n : Nat) : (zw n).length = n := by simp [zw]
/-- The words so far, and the row behind them. -/
def wA (s : List UInt8) (i : Nat) : List UInt32 := wl s i ++ zw (64 - i)
theorem wA_length (s : List UInt8) {i : Nat} (h : i ≤ 64) : (wA s i).length = 64 := by simp [wA]; omega
theorem wA_at (s : List UInt8) {i j : Nat} (h : j < i) (hi : i ≤ 64) : (wds (wA s i))[j]? = some (.int .u32 ((wat (wl s i) j).toNat : Int)) := by
  rw [wds_at (by rw [wA_length s hi]; omega)]
  simp [wat, wA, zw, List.getElem?_append, h]
theorem wA_set (s : List UInt8) {i : Nat} (h : i < 64) : (wA s i).set i (nextW s (wl s i) i) = wA s (i + 1) := by
  unfold wA zw
  rw [List.set_append_right _ _ (by simp), wl_length, Nat.sub_self, show 64 - i = (64 - (i + 1)) + 1 by omega, List.replicate_succ, List.set_cons_zero]
  simp [wl]
theorem wds_set (l : List UInt32) (i : Nat) (x : UInt32) (h : i < l.length) : (wds l).take i ++ .int .u32 (x.toNat : Int) :: (wds l).drop (i + 1) = wds (l.set i x) := by
  have : (wds l).set i (wd x) = wds (l.set i x) := by simp [wds, List.map_set]
  rw [← this, List.set_eq_take_append_cons_drop, if_pos (by simpa using h)]; rfl
/-- Eight words. -/
structure W8 where
  (a b c d e f g h : UInt32)
def W8.cells (x : W8) : List AV := [.int .u32 x.a.toNat, .int .u32 x.b.toNat, .int .u32 x.c.toNat, .int .u32 x.d.toNat, .int .u32 x.e.toNat, .int .u32 x.f.toNat, .int .u32 x.g.toNat, .int .u32 x.h.toNat]
def first8 : W8 := ⟨0x6a09e667, 0xbb67ae85, 0x3c6ef372, 0xa54ff53a, 0x510e527f, 0x9b05688c, 0x1f83d9ab, 0x5be0cd19⟩
def t1of (x : W8) (k w : UInt32) : UInt32 := (((x.h + turn3 x.e 6 11 25) + ((x.e &&& x.f) ^^^ ((~~~ x.e) &&& x.g))) + k) + w
def t2of (x : W8) : UInt32 := turn3 x.a 2 13 22 + (((x.a &&& x.b) ^^^ (x.a &&& x.c)) ^^^ (x.b &&& x.c))
def round1 (x : W8) (k w : UInt32) : W8 := ⟨t1of x k w + t2of x, x.a, x.b, x.c, x.d + t1of x k w, x.e, x.f, x.g⟩
def roundsW (s : List UInt8) (x : W8) : Nat → W8
  | 0 => x
  | i + 1 => round1 (roundsW s x i) (wat Kt i) (wat (wl s 64) i)
def add8 (x y : W8) : W8 := ⟨x.a + y.a, x.b + y.b, x.c + y.c, x.d + y.d, x.e + y.e, x.f + y.f, x.g + y.g, x.h + y.h⟩
def mixW (x : W8) (s : List UInt8) : W8 := add8 x (roundsW s x 64)
def W8.row (x : W8) : List UInt32 := [x.a, x.b, x.c, x.d, x.e, x.f, x.g, x.h]
theorem W8.cells_row (x : W8) : x.cells = wds x.row := rfl
@[simp] theorem W8.row_length (x : W8) : x.row.length = 8 := rfl
def part8 (x y : W8) (j : Nat) : List UInt32 := (add8 x y).row.take j ++ x.row.drop j
theorem part8_length (x y : W8) {j : Nat} (h : j ≤ 8) : (part8 x y j).length = 8 := by simp [part8]; omega
theorem part8_set (x y : W8) : ∀ j, j < 8 → (part8 x y j).set j (wat (part8 x y j) j + wat y.row j) = part8 x y (j + 1)
  | 0, _ | 1, _ | 2, _ | 3, _ | 4, _ | 5, _ | 6, _ | 7, _ => rfl
  | n + 8, h => by omega
/-- A text with what stands behind it. -/
def lenB (n : Nat) : List UInt8 := numB (n : Int) 8
def padW (s : List UInt8) : List UInt8 := s ++ [128] ++ List.replicate ((119 - s.length % 64) % 64) 0 ++ lenB (8 * s.length)
def blocksW (t : List UInt8) : Nat → W8
  | 0 => first8
  | j + 1 => mixW (blocksW t j) ((t.drop (64 * j)).take 64)
def wordB (x : UInt32) : List UInt8 := [(x >>> 24).toUInt8, (x >>> 16).toUInt8, (x >>> 8).toUInt8, x.toUInt8]
def outW (x : W8) : List UInt8 := wordB x.a ++ wordB x.b ++ wordB x.c ++ wordB x.d ++ wordB x.e ++ wordB x.f ++ wordB x.g ++ wordB x.h
def shaW (s : List UInt8) : List UInt8 := outW (blocksW (padW s) ((padW s).length / 64))
theorem numB_length (x : Int) : ∀ k, (numB x k).length = k
  | 0 => rfl
  | k + 1 => by simp [numB, numB_length x k]
theorem padW_length (s : List UInt8) : (padW s).length = 64 * ((padW s).length / 64) := by
  simp only [padW, lenB, List.length_append, List.length_cons, List.length_nil, List.length_replicate, numB_length]
  omega
theorem shaW_length (s : List UInt8) : (shaW s).length = 32 := by simp [shaW, outW, wordB]
/-- A secret, to a block's length, turned in. -/
def keyB (k : List UInt8) (by_ : UInt8) : List UInt8 := (k ++ List.replicate (64 - k.length) 0).map fun c => c ^^^ by_
def tagW (k s : List UInt8) : List UInt8 := shaW (keyB k 92 ++ shaW (keyB k 54 ++ s))
theorem tagW_length (k s : List UInt8) : (tagW k s).length = 32 := shaW_length _
end Go.AM
