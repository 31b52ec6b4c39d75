import Derived.Test.YtahbgblkinknoaaMd
import Derived.Test.YtahbgblkinknoaaProg
import Derived.KernelRfl
/- The table of this seat: its types, the orders of its regions, its functions. Written by a program of the author's. -/
namespace Go.AM.Try
noncomputable def TT : Tab := tabOf Go.Proofs.Try.prog
theorem TTok : TabOK Go.Proofs.Try.prog TT := tabOf_ok _
@[simp] theorem TT_mt (f : Nat) : TT.mt f = [] := rfl
@[simp] theorem TT_cl (n : Nat) : TT.cl n = none := rfl
theorem mix : Go.Proofs.Try.prog.follows .mixedOrders = true := by kernel_rfl
@[simp] theorem u0 : TT.u 0 = some (.tuple #[]) := by kernel_rfl
@[simp] theorem u3 : TT.u 3 = some (.int .i64) := by kernel_rfl
@[simp] theorem z3 : TT.z 3 = some ([.int .i64 0], 8) := by kernel_rfl
@[simp] theorem u4 : TT.u 4 = some (.bool) := by kernel_rfl
@[simp] theorem z4 : TT.z 4 = some ([.bool false], 1) := by kernel_rfl
@[simp] theorem u5 : TT.u 5 = some (.int .u8) := by kernel_rfl
@[simp] theorem z5 : TT.z 5 = some ([.int .u8 0], 1) := by kernel_rfl
@[simp] theorem u9 : TT.u 9 = some (.string) := by kernel_rfl
@[simp] theorem z9 : TT.z 9 = some ([.str []], 16) := by kernel_rfl
@[simp] theorem u20 : TT.u 20 = some (.interface #[]) := by kernel_rfl
@[simp] theorem u22 : TT.u 22 = some (.slice 3) := by kernel_rfl
@[simp] theorem z22 : TT.z 22 = some ([.snil], 24) := by kernel_rfl
@[simp] theorem u23 : TT.u 23 = some (.slice 85) := by kernel_rfl
@[simp] theorem z23 : TT.z 23 = some ([.snil], 24) := by kernel_rfl
@[simp] theorem u24 : TT.u 24 = some (.slice 89) := by kernel_rfl
@[simp] theorem z24 : TT.z 24 = some ([.snil], 24) := by kernel_rfl
@[simp] theorem u26 : TT.u 26 = some (.struct #[{ name := "Type", type := 3, offset := 0, embedded := false, tag := "", pkgPath := "", byteOffset := 0 }, { name := "Router", type := 3, offset := 1, embedded := false, tag := "", pkgPath := "", byteOffset := 8 }, { name := "Heard", type := 22, offset := 2, embedded := false, tag := "", pkgPath := "", byteOffset := 16 }, { name := "Lsas", type := 23, offset := 3, embedded := false, tag := "", pkgPath := "", byteOffset := 40 }, { name := "Heads", type := 24, offset := 4, embedded := false, tag := "", pkgPath := "", byteOffset := 64 }]) := by kernel_rfl
@[simp] theorem z26 : TT.z 26 = some ([.int .i64 0, .int .i64 0, .snil, .snil, .snil], 88) := by kernel_rfl
@[simp] theorem u28 : TT.u 28 = some (.struct #[{ name := "Id", type := 3, offset := 0, embedded := false, tag := "", pkgPath := "", byteOffset := 0 }, { name := "Secret", type := 9, offset := 1, embedded := false, tag := "", pkgPath := "", byteOffset := 8 }, { name := "SendFrom", type := 3, offset := 2, embedded := false, tag := "", pkgPath := "", byteOffset := 24 }, { name := "SendTo", type := 3, offset := 3, embedded := false, tag := "", pkgPath := "", byteOffset := 32 }, { name := "AcceptFrom", type := 3, offset := 4, embedded := false, tag := "", pkgPath := "", byteOffset := 40 }, { name := "AcceptTo", type := 3, offset := 5, embedded := false, tag := "", pkgPath := "", byteOffset := 48 }]) := by kernel_rfl
@[simp] theorem z28 : TT.z 28 = some ([.int .i64 0, .str [], .int .i64 0, .int .i64 0, .int .i64 0, .int .i64 0], 56) := by kernel_rfl
@[simp] theorem u30 : TT.u 30 = some (.int .i64) := by kernel_rfl
@[simp] theorem z30 : TT.z 30 = some ([.int .i64 0], 8) := by kernel_rfl
@[simp] theorem u31 : TT.u 31 = some (.tuple #[9, 30]) := by kernel_rfl
@[simp] theorem u34 : TT.u 34 = some (.tuple #[26, 3]) := by kernel_rfl
@[simp] theorem u37 : TT.u 37 = some (.struct #[{ name := "Key", type := 3, offset := 0, embedded := false, tag := "", pkgPath := "", byteOffset := 0 }, { name := "Boot", type := 3, offset := 1, embedded := false, tag := "", pkgPath := "", byteOffset := 8 }, { name := "Count", type := 3, offset := 2, embedded := false, tag := "", pkgPath := "", byteOffset := 16 }, { name := "Tag", type := 9, offset := 3, embedded := false, tag := "", pkgPath := "", byteOffset := 24 }]) := by kernel_rfl
@[simp] theorem z37 : TT.z 37 = some ([.int .i64 0, .int .i64 0, .int .i64 0, .str []], 40) := by kernel_rfl
@[simp] theorem u38 : TT.u 38 = some (.tuple #[37, 3]) := by kernel_rfl
@[simp] theorem u40 : TT.u 40 = some (.tuple #[9, 3]) := by kernel_rfl
@[simp] theorem u46 : TT.u 46 = some (.int .u64) := by kernel_rfl
@[simp] theorem z46 : TT.z 46 = some ([.int .u64 0], 8) := by kernel_rfl
@[simp] theorem u56 : TT.u 56 = some (.tuple #[3, 3, 3, 3]) := by kernel_rfl
@[simp] theorem u58 : TT.u 58 = some (.tuple #[22, 3]) := by kernel_rfl
@[simp] theorem u60 : TT.u 60 = some (.tuple #[23, 3]) := by kernel_rfl
@[simp] theorem u62 : TT.u 62 = some (.tuple #[24, 3]) := by kernel_rfl
@[simp] theorem u68 : TT.u 68 = some (.slice 5) := by kernel_rfl
@[simp] theorem z68 : TT.z 68 = some ([.snil], 24) := by kernel_rfl
@[simp] theorem u75 : TT.u 75 = some (.tuple #[9, 4]) := by kernel_rfl
@[simp] theorem u77 : TT.u 77 = some (.pointer 26) := by kernel_rfl
@[simp] theorem z77 : TT.z 77 = some ([.nilp], 8) := by kernel_rfl
@[simp] theorem u83 : TT.u 83 = some (.slice 103) := by kernel_rfl
@[simp] theorem z83 : TT.z 83 = some ([.snil], 24) := by kernel_rfl
@[simp] theorem u85 : TT.u 85 = some (.struct #[{ name := "Router", type := 3, offset := 0, embedded := false, tag := "", pkgPath := "", byteOffset := 0 }, { name := "Serial", type := 3, offset := 1, embedded := false, tag := "", pkgPath := "", byteOffset := 8 }, { name := "Age", type := 3, offset := 2, embedded := false, tag := "", pkgPath := "", byteOffset := 16 }, { name := "Links", type := 83, offset := 3, embedded := false, tag := "", pkgPath := "", byteOffset := 24 }]) := by kernel_rfl
@[simp] theorem z85 : TT.z 85 = some ([.int .i64 0, .int .i64 0, .int .i64 0, .snil], 48) := by kernel_rfl
@[simp] theorem u86 : TT.u 86 = some (.tuple #[85, 3, 3]) := by kernel_rfl
@[simp] theorem u89 : TT.u 89 = some (.struct #[{ name := "Router", type := 3, offset := 0, embedded := false, tag := "", pkgPath := "", byteOffset := 0 }, { name := "Serial", type := 3, offset := 1, embedded := false, tag := "", pkgPath := "", byteOffset := 8 }, { name := "Age", type := 3, offset := 2, embedded := false, tag := "", pkgPath := "", byteOffset := 16 }, { name := "Sum", type := 3, offset := 3, embedded := false, tag := "", pkgPath := "", byteOffset := 24 }]) := by kernel_rfl
@[simp] theorem z89 : TT.z 89 = some ([.int .i64 0, .int .i64 0, .int .i64 0, .int .i64 0], 32) := by kernel_rfl
@[simp] theorem u91 : TT.u 91 = some (.int .u32) := by kernel_rfl
@[simp] theorem z91 : TT.z 91 = some ([.int .u32 0], 4) := by kernel_rfl
@[simp] theorem u92 : TT.u 92 = some (.slice 91) := by kernel_rfl
@[simp] theorem z92 : TT.z 92 = some ([.snil], 24) := by kernel_rfl
@[simp] theorem u103 : TT.u 103 = some (.struct #[{ name := "To", type := 3, offset := 0, embedded := false, tag := "", pkgPath := "", byteOffset := 0 }, { name := "Cost", type := 3, offset := 1, embedded := false, tag := "", pkgPath := "", byteOffset := 8 }]) := by kernel_rfl
@[simp] theorem z103 : TT.z 103 = some ([.int .i64 0, .int .i64 0], 16) := by kernel_rfl
@[simp] theorem u110 : TT.u 110 = some (.tuple #[46, 46]) := by kernel_rfl
@[simp] theorem u113 : TT.u 113 = some (.pointer 115) := by kernel_rfl
@[simp] theorem z113 : TT.z 113 = some ([.nilp], 8) := by kernel_rfl
@[simp] theorem u115 : TT.u 115 = some (.struct #[{ name := "addr", type := 113, offset := 0, embedded := false, tag := "", pkgPath := "strings", byteOffset := 0 }, { name := "buf", type := 68, offset := 1, embedded := false, tag := "", pkgPath := "strings", byteOffset := 8 }]) := by kernel_rfl
@[simp] theorem z115 : TT.z 115 = some ([.nilp, .snil], 32) := by kernel_rfl
@[simp] theorem u118 : TT.u 118 = some (.interface #[("Error", 122)]) := by kernel_rfl
@[simp] theorem u119 : TT.u 119 = some (.tuple #[3, 118]) := by kernel_rfl
@[simp] theorem u123 : TT.u 123 = some (.pointer 128) := by kernel_rfl
@[simp] theorem z123 : TT.z 123 = some ([.nilp], 8) := by kernel_rfl
@[simp] theorem u125 : TT.u 125 = some (.array 8 91) := by kernel_rfl
@[simp] theorem z125 : TT.z 125 = some ([.int .u32 0, .int .u32 0, .int .u32 0, .int .u32 0, .int .u32 0, .int .u32 0, .int .u32 0, .int .u32 0], 32) := by kernel_rfl
@[simp] theorem u126 : TT.u 126 = some (.array 64 91) := by kernel_rfl
@[simp] theorem z126 : TT.z 126 = some (List.replicate 64 (.int .u32 0), 256) := by kernel_rfl
@[simp] theorem u128 : TT.u 128 = some (.struct #[{ name := "first", type := 125, offset := 0, embedded := false, tag := "", pkgPath := "watchword/sha", byteOffset := 0 }, { name := "round", type := 126, offset := 8, embedded := false, tag := "", pkgPath := "watchword/sha", byteOffset := 32 }]) := by kernel_rfl
@[simp] theorem z128 : TT.z 128 = some (List.replicate 72 (.int .u32 0), 288) := by kernel_rfl
@[simp] theorem u130 : TT.u 130 = some (.pointer 126) := by kernel_rfl
@[simp] theorem z130 : TT.z 130 = some ([.nilp], 8) := by kernel_rfl
@[simp] theorem u133 : TT.u 133 = some (.pointer 85) := by kernel_rfl
@[simp] theorem z133 : TT.z 133 = some ([.nilp], 8) := by kernel_rfl
@[simp] theorem u134 : TT.u 134 = some (.tuple #[91, 91]) := by kernel_rfl
@[simp] theorem u136 : TT.u 136 = some (.int .u64) := by kernel_rfl
@[simp] theorem z136 : TT.z 136 = some ([.int .u64 0], 8) := by kernel_rfl
@[simp] theorem u137 : TT.u 137 = some (.tuple #[136, 136]) := by kernel_rfl
@[simp] theorem u139 : TT.u 139 = some (.pointer 5) := by kernel_rfl
@[simp] theorem z139 : TT.z 139 = some ([.nilp], 8) := by kernel_rfl
@[simp] theorem u140 : TT.u 140 = some (.array 8 5) := by kernel_rfl
@[simp] theorem z140 : TT.z 140 = some ([.int .u8 0, .int .u8 0, .int .u8 0, .int .u8 0, .int .u8 0, .int .u8 0, .int .u8 0, .int .u8 0], 8) := by kernel_rfl
@[simp] theorem u144 : TT.u 144 = some (.unsafePointer) := by kernel_rfl
@[simp] theorem z144 : TT.z 144 = some ([.nilp], 8) := by kernel_rfl
@[simp] theorem e37 : TT.eqs 37 = some [0, 0, 0, 1] := by kernel_rfl
@[simp] theorem e89 : TT.eqs 89 = some [0, 0, 0, 0] := by kernel_rfl
@[simp] theorem e103 : TT.eqs 103 = some [0, 0] := by kernel_rfl
def plans : Nat → Nat → Option (Nat × List Nat × List Nat)
  | 3, 9 => some (17, [0, 1, 0, 0, 8, 24, 60, 0, 128, 384, 1020, 2047, 4095, 8191, 8191, 16383, 65535], [])
  | 5, 4 => some (10, [0, 0, 0, 0, 15, 31, 63, 63, 127, 511], [])
  | 5, 5 => some (10, [0, 0, 0, 0, 15, 31, 63, 63, 127, 511], [])
  | 5, 10 => some (21, [0, 0, 2, 6, 15, 0, 0, 64, 192, 480, 1023, 0, 0, 6144, 14336, 30720, 30720, 129024, 260096, 524287, 1048575], [])
  | 6, 6 => some (9, [0, 0, 0, 7, 15, 31, 31, 63, 255], [])
  | 6, 13 => some (14, [0, 0, 0, 6, 0, 16, 48, 126, 255, 511, 1023, 1023, 2047, 8191], [])
  | 6, 14 => some (19, [0, 0, 3, 0, 0, 24, 63, 127, 255, 511, 1023, 2047, 4095, 4095, 16383, 4095, 65535, 131071, 262143], [])
  | 7, 2 => some (8, [0, 0, 3, 7, 15, 15, 31, 127], [])
  | 7, 3 => some (8, [0, 0, 3, 7, 15, 15, 31, 127], [])
  | 11, 3 => some (13, [0, 1, 3, 0, 8, 24, 0, 64, 248, 0, 512, 2047, 0], [13])
  | 23, 3 => some (12, [0, 1, 3, 0, 8, 24, 0, 64, 248, 511, 1023, 2047], [])
  | 26, 7 => some (26, [0, 0, 0, 6, 14, 0, 0, 64, 224, 480, 0, 0, 2048, 0, 8192, 31744, 64512, 0, 0, 262144, 0, 1048576, 4063232, 8387584, 16777214, 33554430], [26, 27])
  | 28, 3 => some (18, [0, 1, 3, 7, 15, 0, 32, 111, 255, 0, 512, 1775, 4095, 0, 8192, 32767, 65535, 131071], [])
  | 29, 1 => some (16, [0, 1, 0, 4, 12, 28, 60, 124, 252, 511, 0, 1024, 3072, 7168, 16383, 32767], [])
  | 31, 6 => some (9, [0, 0, 3, 7, 0, 0, 48, 112, 255], [])
  | 32, 6 => some (10, [0, 0, 3, 7, 0, 0, 48, 112, 255, 511], [])
  | 33, 6 => some (9, [0, 0, 3, 7, 0, 0, 48, 112, 255], [])
  | 35, 4 => some (22, [0, 0, 3, 7, 15, 31, 63, 127, 255, 511, 1023, 1023, 4095, 8191, 1023, 1023, 33791, 115711, 246783, 524287, 1048575, 2097151], [])
  | 36, 4 => some (24, [0, 0, 3, 7, 15, 31, 63, 127, 255, 511, 1023, 1023, 4095, 8191, 16383, 1023, 1023, 66559, 230399, 492543, 1016831, 2097151, 4194303, 8388607], [])
  | 37, 4 => some (24, [0, 0, 3, 7, 15, 31, 63, 127, 255, 511, 1023, 1023, 4095, 8191, 16383, 1023, 1023, 66559, 230399, 492543, 1016831, 2097151, 4194303, 8388607], [])
  | 38, 1 => some (18, [0, 1, 3, 7, 15, 0, 32, 96, 224, 480, 1023, 0, 2048, 6144, 14336, 30720, 65535, 131071], [])
  | 47, 3 => some (18, [0, 0, 3, 7, 0, 0, 32, 112, 240, 0, 0, 1024, 0, 4096, 15872, 32256, 65535, 0], [18])
  | 47, 12 => some (15, [0, 1, 0, 0, 12, 28, 0, 0, 128, 0, 512, 1984, 4032, 8188, 16380], [15, 16, 17])
  | 49, 5 => some (32, [0, 0, 0, 0, 8, 28, 60, 124, 0, 0, 512, 1536, 3840, 7936, 16128, 32764, 0, 0, 131072, 393216, 983040, 2031616, 4128768, 8388604, 0, 0, 33554432, 100663296, 251658240, 520093696, 1073741820, 2147483647], [32])
  | 49, 9 => some (21, [0, 0, 2, 7, 15, 31, 0, 0, 128, 448, 960, 2047, 4095, 0, 0, 16384, 57344, 122880, 253952, 524287, 1048575], [])
  | 49, 10 => some (21, [0, 0, 2, 7, 15, 31, 0, 0, 128, 448, 960, 2047, 4095, 0, 0, 16384, 57344, 122880, 253952, 524287, 1048575], [])
  | 49, 11 => some (18, [0, 0, 0, 0, 8, 28, 60, 0, 252, 0, 0, 1024, 3584, 7680, 16380, 0, 65532, 131071], [18])
  | 49, 17 => some (15, [0, 1, 3, 7, 0, 16, 48, 127, 255, 0, 512, 1536, 3839, 8191, 16383], [])
  | 49, 18 => some (33, [0, 1, 3, 0, 15, 0, 32, 96, 0, 256, 768, 2016, 0, 4096, 12288, 28672, 0, 65536, 196608, 520192, 1048544, 2097151, 0, 0, 12582912, 29360128, 67108863, 0, 0, 402653184, 939524096, 2147483647, 4294967295], [])
  | 49, 19 => some (15, [0, 1, 3, 7, 0, 16, 48, 127, 255, 0, 512, 1536, 3839, 8191, 16383], [])
  | 49, 20 => some (26, [0, 0, 2, 6, 0, 16, 48, 126, 0, 256, 768, 0, 2048, 6144, 16128, 32766, 0, 65536, 196608, 0, 524288, 1572864, 4128768, 8388606, 16777215, 33554431], [])
  | 49, 21 => some (28, [0, 0, 3, 0, 8, 24, 0, 64, 192, 0, 512, 1536, 0, 4096, 12288, 0, 61440, 0, 131072, 393216, 0, 1048576, 3145728, 0, 8388608, 25165824, 67108863, 134217727], [])
  | 49, 26 => some (11, [0, 0, 0, 6, 14, 0, 0, 96, 224, 510, 1022], [11, 12])
  | 56, 7 => some (18, [0, 0, 2, 6, 0, 16, 62, 126, 0, 256, 894, 2046, 0, 4096, 14206, 32766, 65535, 131071], [])
  | 61, 6 => some (7, [0, 0, 2, 0, 8, 24, 63], [7])
  | 68, 1 => some (9, [0, 0, 3, 0, 0, 16, 56, 127, 255], [])
  | 70, 6 => some (9, [0, 0, 3, 7, 0, 0, 48, 112, 255], [])
  | 71, 4 => some (43, [0, 0, 3, 7, 15, 31, 63, 127, 255, 255, 1023, 2047, 4095, 255, 16383, 32767, 65535, 131071, 131071, 524287, 1048575, 2097151, 4194303, 8388607, 16777215, 33554431, 67108863, 134217727, 268435455, 536870911, 536870911, 2147483647, 4294967295, 8589934591, 536870911, 536870911, 34896609279, 120795955199, 258234908671, 533112815615, 1099511627775, 2199023255551, 4398046511103], [])
  | 73, 4 => some (18, [0, 1, 3, 7, 15, 31, 63, 127, 127, 383, 1023, 2047, 4095, 127, 8319, 32767, 65535, 131071], [])
  | 75, 4 => some (18, [0, 1, 3, 7, 15, 31, 63, 127, 127, 383, 1023, 2047, 4095, 127, 8319, 32767, 65535, 131071], [])
  | 78, 3 => some (13, [0, 1, 3, 7, 15, 0, 32, 96, 224, 480, 1023, 0, 4095], [])
  | 81, 1 => some (12, [0, 1, 3, 7, 15, 0, 32, 96, 224, 480, 1023, 2047], [])
  | 83, 9 => some (9, [0, 1, 0, 4, 15, 0, 32, 127, 255], [])
  | 84, 5 => some (18, [0, 1, 0, 4, 0, 16, 0, 64, 0, 256, 0, 1024, 3, 4111, 12351, 28927, 62463, 131071], [])
  | 84, 6 => some (23, [0, 1, 0, 4, 15, 0, 0, 96, 0, 256, 0, 1792, 4064, 8191, 0, 0, 16384, 114688, 245760, 524287, 0, 2097151, 4194303], [])
  | 84, 13 => some (8, [0, 1, 3, 0, 8, 24, 63, 127], [8])
  | 85, 1 => some (13, [0, 1, 3, 0, 8, 31, 63, 0, 128, 384, 959, 2047, 4095], [])
  | 85, 5 => some (18, [0, 0, 2, 0, 14, 30, 62, 126, 255, 0, 512, 0, 3584, 7680, 15872, 32510, 65535, 131071], [])
  | 88, 1 => some (19, [0, 1, 3, 7, 15, 0, 32, 96, 224, 511, 1023, 0, 2048, 6144, 14336, 30720, 64511, 131071, 262143], [])
  | 88, 5 => some (10, [0, 0, 2, 6, 0, 16, 62, 126, 255, 511], [])
  | 95, 0 => some (16, [0, 1, 3, 7, 15, 31, 0, 127, 255, 0, 512, 1536, 3584, 7680, 16383, 32767], [])
  | 96, 7 => some (10, [0, 1, 3, 7, 0, 16, 48, 112, 15, 511], [])
  | 96, 10 => some (15, [0, 0, 2, 6, 14, 0, 62, 0, 128, 384, 896, 2046, 0, 8190, 16383], [15])
  | 100, 4 => some (35, [0, 1, 3, 7, 15, 31, 63, 31, 255, 511, 1023, 2047, 4095, 8191, 16383, 32767, 65535, 131071, 262143, 524287, 1048575, 2097151, 4194303, 8388607, 16777215, 16777215, 50331647, 134217727, 268435455, 536870911, 16777215, 1090519039, 4294967295, 8589934591, 17179869183], [])
  | 103, 1 => some (26, [0, 0, 3, 7, 15, 0, 0, 64, 224, 480, 992, 2047, 0, 0, 8192, 28672, 61440, 126976, 262143, 0, 0, 1048576, 3670016, 7864320, 16777215, 33554431], [])
  | _, _ => none
def keeps : Nat → Nat → Nat
  | 13, 3 => 97
  | 24, 3 => 49
  | 25, 3 => 49
  | 26, 5 => 49
  | 27, 3 => 25
  | 29, 4 => 56
  | 29, 9 => 208
  | 30, 3 => 99
  | 31, 4 => 35
  | 32, 4 => 35
  | 33, 4 => 35
  | 35, 2 => 9
  | 36, 2 => 9
  | 37, 2 => 9
  | 47, 9 => 1939
  | 49, 3 => 99
  | 49, 7 => 161
  | 49, 15 => 7201
  | 49, 24 => 395265
  | 54, 5 => 57360
  | 55, 5 => 229392
  | 56, 5 => 57360
  | 60, 38 => 896
  | 61, 4 => 56
  | 61, 9 => 402653248
  | 62, 3 => 3106
  | 70, 4 => 35
  | 71, 2 => 35
  | 72, 2 => 225
  | 73, 2 => 225
  | 75, 2 => 225
  | 83, 5 => 65593
  | 84, 3 => 6291660
  | 84, 11 => 618970019642690137449562312
  | 85, 3 => 26
  | 86, 3 => 57
  | 88, 3 => 939524104
  | 89, 3 => 409
  | 96, 3 => 525
  | 100, 2 => 899
  | _, _ => 0
def flos : Nat → Nat → List Nat × List Nat
  | _, _ => ([], [])
def info (f : Nat) : Info := ⟨plans f, keeps f, flos f⟩
@[simp] theorem info_flo (f i : Nat) : (info f).flo i = flos f i := rfl
@[simp] theorem info_plan (f i : Nat) : (info f).plan i = plans f i := rfl
@[simp] theorem info_keep (f i : Nat) : (info f).keep i = keeps f i := rfl
@[simp] theorem pl3_9 : plans 3 9 = some (17, [0, 1, 0, 0, 8, 24, 60, 0, 128, 384, 1020, 2047, 4095, 8191, 8191, 16383, 65535], []) := by kernel_rfl
@[simp] theorem fo3_9 : flos 3 9 = ([], []) := by kernel_rfl
@[simp] theorem pl5_4 : plans 5 4 = some (10, [0, 0, 0, 0, 15, 31, 63, 63, 127, 511], []) := by kernel_rfl
@[simp] theorem pl5_5 : plans 5 5 = some (10, [0, 0, 0, 0, 15, 31, 63, 63, 127, 511], []) := by kernel_rfl
@[simp] theorem pl5_10 : plans 5 10 = some (21, [0, 0, 2, 6, 15, 0, 0, 64, 192, 480, 1023, 0, 0, 6144, 14336, 30720, 30720, 129024, 260096, 524287, 1048575], []) := by kernel_rfl
@[simp] theorem fo5_4 : flos 5 4 = ([], []) := by kernel_rfl
@[simp] theorem fo5_5 : flos 5 5 = ([], []) := by kernel_rfl
@[simp] theorem fo5_10 : flos 5 10 = ([], []) := by kernel_rfl
@[simp] theorem pl6_6 : plans 6 6 = some (9, [0, 0, 0, 7, 15, 31, 31, 63, 255], []) := by kernel_rfl
@[simp] theorem pl6_13 : plans 6 13 = some (14, [0, 0, 0, 6, 0, 16, 48, 126, 255, 511, 1023, 1023, 2047, 8191], []) := by kernel_rfl
@[simp] theorem pl6_14 : plans 6 14 = some (19, [0, 0, 3, 0, 0, 24, 63, 127, 255, 511, 1023, 2047, 4095, 4095, 16383, 4095, 65535, 131071, 262143], []) := by kernel_rfl
@[simp] theorem fo6_6 : flos 6 6 = ([], []) := by kernel_rfl
@[simp] theorem fo6_13 : flos 6 13 = ([], []) := by kernel_rfl
@[simp] theorem fo6_14 : flos 6 14 = ([], []) := by kernel_rfl
@[simp] theorem pl7_2 : plans 7 2 = some (8, [0, 0, 3, 7, 15, 15, 31, 127], []) := by kernel_rfl
@[simp] theorem pl7_3 : plans 7 3 = some (8, [0, 0, 3, 7, 15, 15, 31, 127], []) := by kernel_rfl
@[simp] theorem fo7_2 : flos 7 2 = ([], []) := by kernel_rfl
@[simp] theorem fo7_3 : flos 7 3 = ([], []) := by kernel_rfl
@[simp] theorem pl11_3 : plans 11 3 = some (13, [0, 1, 3, 0, 8, 24, 0, 64, 248, 0, 512, 2047, 0], [13]) := by kernel_rfl
@[simp] theorem fo11_3 : flos 11 3 = ([], []) := by kernel_rfl
@[simp] theorem ke13_3 : keeps 13 3 = 97 := by kernel_rfl
@[simp] theorem pl23_3 : plans 23 3 = some (12, [0, 1, 3, 0, 8, 24, 0, 64, 248, 511, 1023, 2047], []) := by kernel_rfl
@[simp] theorem fo23_3 : flos 23 3 = ([], []) := by kernel_rfl
@[simp] theorem ke24_3 : keeps 24 3 = 49 := by kernel_rfl
@[simp] theorem ke25_3 : keeps 25 3 = 49 := by kernel_rfl
@[simp] theorem pl26_7 : plans 26 7 = some (26, [0, 0, 0, 6, 14, 0, 0, 64, 224, 480, 0, 0, 2048, 0, 8192, 31744, 64512, 0, 0, 262144, 0, 1048576, 4063232, 8387584, 16777214, 33554430], [26, 27]) := by kernel_rfl
@[simp] theorem fo26_7 : flos 26 7 = ([], []) := by kernel_rfl
@[simp] theorem ke26_5 : keeps 26 5 = 49 := by kernel_rfl
@[simp] theorem ke27_3 : keeps 27 3 = 25 := by kernel_rfl
@[simp] theorem pl28_3 : plans 28 3 = some (18, [0, 1, 3, 7, 15, 0, 32, 111, 255, 0, 512, 1775, 4095, 0, 8192, 32767, 65535, 131071], []) := by kernel_rfl
@[simp] theorem fo28_3 : flos 28 3 = ([], []) := by kernel_rfl
@[simp] theorem pl29_1 : plans 29 1 = some (16, [0, 1, 0, 4, 12, 28, 60, 124, 252, 511, 0, 1024, 3072, 7168, 16383, 32767], []) := by kernel_rfl
@[simp] theorem fo29_1 : flos 29 1 = ([], []) := by kernel_rfl
@[simp] theorem ke29_4 : keeps 29 4 = 56 := by kernel_rfl
@[simp] theorem ke29_9 : keeps 29 9 = 208 := by kernel_rfl
@[simp] theorem ke30_3 : keeps 30 3 = 99 := by kernel_rfl
@[simp] theorem pl31_6 : plans 31 6 = some (9, [0, 0, 3, 7, 0, 0, 48, 112, 255], []) := by kernel_rfl
@[simp] theorem fo31_6 : flos 31 6 = ([], []) := by kernel_rfl
@[simp] theorem ke31_4 : keeps 31 4 = 35 := by kernel_rfl
@[simp] theorem pl32_6 : plans 32 6 = some (10, [0, 0, 3, 7, 0, 0, 48, 112, 255, 511], []) := by kernel_rfl
@[simp] theorem fo32_6 : flos 32 6 = ([], []) := by kernel_rfl
@[simp] theorem ke32_4 : keeps 32 4 = 35 := by kernel_rfl
@[simp] theorem pl33_6 : plans 33 6 = some (9, [0, 0, 3, 7, 0, 0, 48, 112, 255], []) := by kernel_rfl
@[simp] theorem fo33_6 : flos 33 6 = ([], []) := by kernel_rfl
@[simp] theorem ke33_4 : keeps 33 4 = 35 := by kernel_rfl
@[simp] theorem pl35_4 : plans 35 4 = some (22, [0, 0, 3, 7, 15, 31, 63, 127, 255, 511, 1023, 1023, 4095, 8191, 1023, 1023, 33791, 115711, 246783, 524287, 1048575, 2097151], []) := by kernel_rfl
@[simp] theorem fo35_4 : flos 35 4 = ([], []) := by kernel_rfl
@[simp] theorem ke35_2 : keeps 35 2 = 9 := by kernel_rfl
@[simp] theorem pl36_4 : plans 36 4 = some (24, [0, 0, 3, 7, 15, 31, 63, 127, 255, 511, 1023, 1023, 4095, 8191, 16383, 1023, 1023, 66559, 230399, 492543, 1016831, 2097151, 4194303, 8388607], []) := by kernel_rfl
@[simp] theorem fo36_4 : flos 36 4 = ([], []) := by kernel_rfl
@[simp] theorem ke36_2 : keeps 36 2 = 9 := by kernel_rfl
@[simp] theorem pl37_4 : plans 37 4 = some (24, [0, 0, 3, 7, 15, 31, 63, 127, 255, 511, 1023, 1023, 4095, 8191, 16383, 1023, 1023, 66559, 230399, 492543, 1016831, 2097151, 4194303, 8388607], []) := by kernel_rfl
@[simp] theorem fo37_4 : flos 37 4 = ([], []) := by kernel_rfl
@[simp] theorem ke37_2 : keeps 37 2 = 9 := by kernel_rfl
@[simp] theorem pl38_1 : plans 38 1 = some (18, [0, 1, 3, 7, 15, 0, 32, 96, 224, 480, 1023, 0, 2048, 6144, 14336, 30720, 65535, 131071], []) := by kernel_rfl
@[simp] theorem fo38_1 : flos 38 1 = ([], []) := by kernel_rfl
@[simp] theorem pl47_3 : plans 47 3 = some (18, [0, 0, 3, 7, 0, 0, 32, 112, 240, 0, 0, 1024, 0, 4096, 15872, 32256, 65535, 0], [18]) := by kernel_rfl
@[simp] theorem pl47_12 : plans 47 12 = some (15, [0, 1, 0, 0, 12, 28, 0, 0, 128, 0, 512, 1984, 4032, 8188, 16380], [15, 16, 17]) := by kernel_rfl
@[simp] theorem fo47_3 : flos 47 3 = ([], []) := by kernel_rfl
@[simp] theorem fo47_12 : flos 47 12 = ([], []) := by kernel_rfl
@[simp] theorem ke47_9 : keeps 47 9 = 1939 := by kernel_rfl
@[simp] theorem pl49_5 : plans 49 5 = some (32, [0, 0, 0, 0, 8, 28, 60, 124, 0, 0, 512, 1536, 3840, 7936, 16128, 32764, 0, 0, 131072, 393216, 983040, 2031616, 4128768, 8388604, 0, 0, 33554432, 100663296, 251658240, 520093696, 1073741820, 2147483647], [32]) := by kernel_rfl
@[simp] theorem pl49_9 : plans 49 9 = some (21, [0, 0, 2, 7, 15, 31, 0, 0, 128, 448, 960, 2047, 4095, 0, 0, 16384, 57344, 122880, 253952, 524287, 1048575], []) := by kernel_rfl
@[simp] theorem pl49_10 : plans 49 10 = some (21, [0, 0, 2, 7, 15, 31, 0, 0, 128, 448, 960, 2047, 4095, 0, 0, 16384, 57344, 122880, 253952, 524287, 1048575], []) := by kernel_rfl
@[simp] theorem pl49_11 : plans 49 11 = some (18, [0, 0, 0, 0, 8, 28, 60, 0, 252, 0, 0, 1024, 3584, 7680, 16380, 0, 65532, 131071], [18]) := by kernel_rfl
@[simp] theorem pl49_17 : plans 49 17 = some (15, [0, 1, 3, 7, 0, 16, 48, 127, 255, 0, 512, 1536, 3839, 8191, 16383], []) := by kernel_rfl
@[simp] theorem pl49_18 : plans 49 18 = some (33, [0, 1, 3, 0, 15, 0, 32, 96, 0, 256, 768, 2016, 0, 4096, 12288, 28672, 0, 65536, 196608, 520192, 1048544, 2097151, 0, 0, 12582912, 29360128, 67108863, 0, 0, 402653184, 939524096, 2147483647, 4294967295], []) := by kernel_rfl
@[simp] theorem pl49_19 : plans 49 19 = some (15, [0, 1, 3, 7, 0, 16, 48, 127, 255, 0, 512, 1536, 3839, 8191, 16383], []) := by kernel_rfl
@[simp] theorem pl49_20 : plans 49 20 = some (26, [0, 0, 2, 6, 0, 16, 48, 126, 0, 256, 768, 0, 2048, 6144, 16128, 32766, 0, 65536, 196608, 0, 524288, 1572864, 4128768, 8388606, 16777215, 33554431], []) := by kernel_rfl
@[simp] theorem pl49_21 : plans 49 21 = some (28, [0, 0, 3, 0, 8, 24, 0, 64, 192, 0, 512, 1536, 0, 4096, 12288, 0, 61440, 0, 131072, 393216, 0, 1048576, 3145728, 0, 8388608, 25165824, 67108863, 134217727], []) := by kernel_rfl
@[simp] theorem pl49_26 : plans 49 26 = some (11, [0, 0, 0, 6, 14, 0, 0, 96, 224, 510, 1022], [11, 12]) := by kernel_rfl
@[simp] theorem fo49_5 : flos 49 5 = ([], []) := by kernel_rfl
@[simp] theorem fo49_9 : flos 49 9 = ([], []) := by kernel_rfl
@[simp] theorem fo49_10 : flos 49 10 = ([], []) := by kernel_rfl
@[simp] theorem fo49_11 : flos 49 11 = ([], []) := by kernel_rfl
@[simp] theorem fo49_17 : flos 49 17 = ([], []) := by kernel_rfl
@[simp] theorem fo49_18 : flos 49 18 = ([], []) := by kernel_rfl
@[simp] theorem fo49_19 : flos 49 19 = ([], []) := by kernel_rfl
@[simp] theorem fo49_20 : flos 49 20 = ([], []) := by kernel_rfl
@[simp] theorem fo49_21 : flos 49 21 = ([], []) := by kernel_rfl
@[simp] theorem fo49_26 : flos 49 26 = ([], []) := by kernel_rfl
@[simp] theorem ke49_3 : keeps 49 3 = 99 := by kernel_rfl
@[simp] theorem ke49_7 : keeps 49 7 = 161 := by kernel_rfl
@[simp] theorem ke49_15 : keeps 49 15 = 7201 := by kernel_rfl
@[simp] theorem ke49_24 : keeps 49 24 = 395265 := by kernel_rfl
@[simp] theorem ke54_5 : keeps 54 5 = 57360 := by kernel_rfl
@[simp] theorem ke55_5 : keeps 55 5 = 229392 := by kernel_rfl
@[simp] theorem pl56_7 : plans 56 7 = some (18, [0, 0, 2, 6, 0, 16, 62, 126, 0, 256, 894, 2046, 0, 4096, 14206, 32766, 65535, 131071], []) := by kernel_rfl
@[simp] theorem fo56_7 : flos 56 7 = ([], []) := by kernel_rfl
@[simp] theorem ke56_5 : keeps 56 5 = 57360 := by kernel_rfl
@[simp] theorem ke60_38 : keeps 60 38 = 896 := by kernel_rfl
@[simp] theorem pl61_6 : plans 61 6 = some (7, [0, 0, 2, 0, 8, 24, 63], [7]) := by kernel_rfl
@[simp] theorem fo61_6 : flos 61 6 = ([], []) := by kernel_rfl
@[simp] theorem ke61_4 : keeps 61 4 = 56 := by kernel_rfl
@[simp] theorem ke61_9 : keeps 61 9 = 402653248 := by kernel_rfl
@[simp] theorem ke62_3 : keeps 62 3 = 3106 := by kernel_rfl
@[simp] theorem pl68_1 : plans 68 1 = some (9, [0, 0, 3, 0, 0, 16, 56, 127, 255], []) := by kernel_rfl
@[simp] theorem fo68_1 : flos 68 1 = ([], []) := by kernel_rfl
@[simp] theorem pl70_6 : plans 70 6 = some (9, [0, 0, 3, 7, 0, 0, 48, 112, 255], []) := by kernel_rfl
@[simp] theorem fo70_6 : flos 70 6 = ([], []) := by kernel_rfl
@[simp] theorem ke70_4 : keeps 70 4 = 35 := by kernel_rfl
@[simp] theorem pl71_4 : plans 71 4 = some (43, [0, 0, 3, 7, 15, 31, 63, 127, 255, 255, 1023, 2047, 4095, 255, 16383, 32767, 65535, 131071, 131071, 524287, 1048575, 2097151, 4194303, 8388607, 16777215, 33554431, 67108863, 134217727, 268435455, 536870911, 536870911, 2147483647, 4294967295, 8589934591, 536870911, 536870911, 34896609279, 120795955199, 258234908671, 533112815615, 1099511627775, 2199023255551, 4398046511103], []) := by kernel_rfl
@[simp] theorem fo71_4 : flos 71 4 = ([], []) := by kernel_rfl
@[simp] theorem ke71_2 : keeps 71 2 = 35 := by kernel_rfl
@[simp] theorem ke72_2 : keeps 72 2 = 225 := by kernel_rfl
@[simp] theorem pl73_4 : plans 73 4 = some (18, [0, 1, 3, 7, 15, 31, 63, 127, 127, 383, 1023, 2047, 4095, 127, 8319, 32767, 65535, 131071], []) := by kernel_rfl
@[simp] theorem fo73_4 : flos 73 4 = ([], []) := by kernel_rfl
@[simp] theorem ke73_2 : keeps 73 2 = 225 := by kernel_rfl
@[simp] theorem pl75_4 : plans 75 4 = some (18, [0, 1, 3, 7, 15, 31, 63, 127, 127, 383, 1023, 2047, 4095, 127, 8319, 32767, 65535, 131071], []) := by kernel_rfl
@[simp] theorem fo75_4 : flos 75 4 = ([], []) := by kernel_rfl
@[simp] theorem ke75_2 : keeps 75 2 = 225 := by kernel_rfl
@[simp] theorem pl78_3 : plans 78 3 = some (13, [0, 1, 3, 7, 15, 0, 32, 96, 224, 480, 1023, 0, 4095], []) := by kernel_rfl
@[simp] theorem fo78_3 : flos 78 3 = ([], []) := by kernel_rfl
@[simp] theorem pl81_1 : plans 81 1 = some (12, [0, 1, 3, 7, 15, 0, 32, 96, 224, 480, 1023, 2047], []) := by kernel_rfl
@[simp] theorem fo81_1 : flos 81 1 = ([], []) := by kernel_rfl
@[simp] theorem pl83_9 : plans 83 9 = some (9, [0, 1, 0, 4, 15, 0, 32, 127, 255], []) := by kernel_rfl
@[simp] theorem fo83_9 : flos 83 9 = ([], []) := by kernel_rfl
@[simp] theorem ke83_5 : keeps 83 5 = 65593 := by kernel_rfl
@[simp] theorem pl84_5 : plans 84 5 = some (18, [0, 1, 0, 4, 0, 16, 0, 64, 0, 256, 0, 1024, 3, 4111, 12351, 28927, 62463, 131071], []) := by kernel_rfl
@[simp] theorem pl84_6 : plans 84 6 = some (23, [0, 1, 0, 4, 15, 0, 0, 96, 0, 256, 0, 1792, 4064, 8191, 0, 0, 16384, 114688, 245760, 524287, 0, 2097151, 4194303], []) := by kernel_rfl
@[simp] theorem pl84_13 : plans 84 13 = some (8, [0, 1, 3, 0, 8, 24, 63, 127], [8]) := by kernel_rfl
@[simp] theorem fo84_5 : flos 84 5 = ([], []) := by kernel_rfl
@[simp] theorem fo84_6 : flos 84 6 = ([], []) := by kernel_rfl
@[simp] theorem fo84_13 : flos 84 13 = ([], []) := by kernel_rfl
@[simp] theorem ke84_3 : keeps 84 3 = 6291660 := by kernel_rfl
@[simp] theorem ke84_11 : keeps 84 11 = 618970019642690137449562312 := by kernel_rfl
@[simp] theorem pl85_1 : plans 85 1 = some (13, [0, 1, 3, 0, 8, 31, 63, 0, 128, 384, 959, 2047, 4095], []) := by kernel_rfl
@[simp] theorem pl85_5 : plans 85 5 = some (18, [0, 0, 2, 0, 14, 30, 62, 126, 255, 0, 512, 0, 3584, 7680, 15872, 32510, 65535, 131071], []) := by kernel_rfl
@[simp] theorem fo85_1 : flos 85 1 = ([], []) := by kernel_rfl
@[simp] theorem fo85_5 : flos 85 5 = ([], []) := by kernel_rfl
@[simp] theorem ke85_3 : keeps 85 3 = 26 := by kernel_rfl
@[simp] theorem ke86_3 : keeps 86 3 = 57 := by kernel_rfl
@[simp] theorem pl88_1 : plans 88 1 = some (19, [0, 1, 3, 7, 15, 0, 32, 96, 224, 511, 1023, 0, 2048, 6144, 14336, 30720, 64511, 131071, 262143], []) := by kernel_rfl
@[simp] theorem pl88_5 : plans 88 5 = some (10, [0, 0, 2, 6, 0, 16, 62, 126, 255, 511], []) := by kernel_rfl
@[simp] theorem fo88_1 : flos 88 1 = ([], []) := by kernel_rfl
@[simp] theorem fo88_5 : flos 88 5 = ([], []) := by kernel_rfl
@[simp] theorem ke88_3 : keeps 88 3 = 939524104 := by kernel_rfl
@[simp] theorem ke89_3 : keeps 89 3 = 409 := by kernel_rfl
@[simp] theorem pl95_0 : plans 95 0 = some (16, [0, 1, 3, 7, 15, 31, 0, 127, 255, 0, 512, 1536, 3584, 7680, 16383, 32767], []) := by kernel_rfl
@[simp] theorem fo95_0 : flos 95 0 = ([], []) := by kernel_rfl
@[simp] theorem pl96_7 : plans 96 7 = some (10, [0, 1, 3, 7, 0, 16, 48, 112, 15, 511], []) := by kernel_rfl
@[simp] theorem pl96_10 : plans 96 10 = some (15, [0, 0, 2, 6, 14, 0, 62, 0, 128, 384, 896, 2046, 0, 8190, 16383], [15]) := by kernel_rfl
@[simp] theorem fo96_7 : flos 96 7 = ([], []) := by kernel_rfl
@[simp] theorem fo96_10 : flos 96 10 = ([], []) := by kernel_rfl
@[simp] theorem ke96_3 : keeps 96 3 = 525 := by kernel_rfl
@[simp] theorem pl100_4 : plans 100 4 = some (35, [0, 1, 3, 7, 15, 31, 63, 31, 255, 511, 1023, 2047, 4095, 8191, 16383, 32767, 65535, 131071, 262143, 524287, 1048575, 2097151, 4194303, 8388607, 16777215, 16777215, 50331647, 134217727, 268435455, 536870911, 16777215, 1090519039, 4294967295, 8589934591, 17179869183], []) := by kernel_rfl
@[simp] theorem fo100_4 : flos 100 4 = ([], []) := by kernel_rfl
@[simp] theorem ke100_2 : keeps 100 2 = 899 := by kernel_rfl
@[simp] theorem pl103_1 : plans 103 1 = some (26, [0, 0, 3, 7, 15, 0, 0, 64, 224, 480, 992, 2047, 0, 0, 8192, 28672, 61440, 126976, 262143, 0, 0, 1048576, 3670016, 7864320, 16777215, 33554431], []) := by kernel_rfl
@[simp] theorem fo103_1 : flos 103 1 = ([], []) := by kernel_rfl
theorem fn3 : Go.Proofs.Try.prog.funcs[3]? = some Go.Proofs.Try.f3 := by kernel_rfl
theorem po3 : (Go.Proofs.Try.f3.body.map (plansOK (info 3))).getD true = true := by kernel_rfl
theorem fn4 : Go.Proofs.Try.prog.funcs[4]? = some Go.Proofs.Try.f4 := by kernel_rfl
theorem po4 : (Go.Proofs.Try.f4.body.map (plansOK (info 4))).getD true = true := by kernel_rfl
theorem fn5 : Go.Proofs.Try.prog.funcs[5]? = some Go.Proofs.Try.f5 := by kernel_rfl
theorem po5 : (Go.Proofs.Try.f5.body.map (plansOK (info 5))).getD true = true := by kernel_rfl
theorem fn6 : Go.Proofs.Try.prog.funcs[6]? = some Go.Proofs.Try.f6 := by kernel_rfl
theorem po6 : (Go.Proofs.Try.f6.body.map (plansOK (info 6))).getD true = true := by kernel_rfl
theorem fn7 : Go.Proofs.Try.prog.funcs[7]? = some Go.Proofs.Try.f7 := by kernel_rfl
theorem po7 : (Go.Proofs.Try.f7.body.map (plansOK (info 7))).getD true = true := by kernel_rfl
theorem fn8 : Go.Proofs.Try.prog.funcs[8]? = some Go.Proofs.Try.f8 := by kernel_rfl
theorem po8 : (Go.Proofs.Try.f8.body.map (plansOK (info 8))).getD true = true := by kernel_rfl
theorem fn9 : Go.Proofs.Try.prog.funcs[9]? = some Go.Proofs.Try.f9 := by kernel_rfl
theorem po9 : (Go.Proofs.Try.f9.body.map (plansOK (info 9))).getD true = true := by kernel_rfl
theorem fn10 : Go.Proofs.Try.prog.funcs[10]? = some Go.Proofs.Try.f10 := by kernel_rfl
theorem po10 : (Go.Proofs.Try.f10.body.map (plansOK (info 10))).getD true = true := by kernel_rfl
theorem fn11 : Go.Proofs.Try.prog.funcs[11]? = some Go.Proofs.Try.f11 := by kernel_rfl
theorem po11 : (Go.Proofs.Try.f11.body.map (plansOK (info 11))).getD true = true := by kernel_rfl
theorem fn12 : Go.Proofs.Try.prog.funcs[12]? = some Go.Proofs.Try.f12 := by kernel_rfl
theorem po12 : (Go.Proofs.Try.f12.body.map (plansOK (info 12))).getD true = true := by kernel_rfl
theorem fn13 : Go.Proofs.Try.prog.funcs[13]? = some Go.Proofs.Try.f13 := by kernel_rfl
theorem po13 : (Go.Proofs.Try.f13.body.map (plansOK (info 13))).getD true = true := by kernel_rfl
theorem fn14 : Go.Proofs.Try.prog.funcs[14]? = some Go.Proofs.Try.f14 := by kernel_rfl
theorem po14 : (Go.Proofs.Try.f14.body.map (plansOK (info 14))).getD true = true := by kernel_rfl
theorem fn15 : Go.Proofs.Try.prog.funcs[15]? = some Go.Proofs.Try.f15 := by kernel_rfl
theorem po15 : (Go.Proofs.Try.f15.body.map (plansOK (info 15))).getD true = true := by kernel_rfl
theorem fn16 : Go.Proofs.Try.prog.funcs[16]? = some Go.Proofs.Try.f16 := by kernel_rfl
theorem po16 : (Go.Proofs.Try.f16.body.map (plansOK (info 16))).getD true = true := by kernel_rfl
theorem fn17 : Go.Proofs.Try.prog.funcs[17]? = some Go.Proofs.Try.f17 := by kernel_rfl
theorem po17 : (Go.Proofs.Try.f17.body.map (plansOK (info 17))).getD true = true := by kernel_rfl
theorem fn18 : Go.Proofs.Try.prog.funcs[18]? = some Go.Proofs.Try.f18 := by kernel_rfl
theorem po18 : (Go.Proofs.Try.f18.body.map (plansOK (info 18))).getD true = true := by kernel_rfl
theorem fn19 : Go.Proofs.Try.prog.funcs[19]? = some Go.Proofs.Try.f19 := by kernel_rfl
theorem po19 : (Go.Proofs.Try.f19.body.map (plansOK (info 19))).getD true = true := by kernel_rfl
theorem fn20 : Go.Proofs.Try.prog.funcs[20]? = some Go.Proofs.Try.f20 := by kernel_rfl
theorem po20 : (Go.Proofs.Try.f20.body.map (plansOK (info 20))).getD true = true := by kernel_rfl
theorem fn21 : Go.Proofs.Try.prog.funcs[21]? = some Go.Proofs.Try.f21 := by kernel_rfl
theorem po21 : (Go.Proofs.Try.f21.body.map (plansOK (info 21))).getD true = true := by kernel_rfl
theorem fn22 : Go.Proofs.Try.prog.funcs[22]? = some Go.Proofs.Try.f22 := by kernel_rfl
theorem po22 : (Go.Proofs.Try.f22.body.map (plansOK (info 22))).getD true = true := by kernel_rfl
theorem fn23 : Go.Proofs.Try.prog.funcs[23]? = some Go.Proofs.Try.f23 := by kernel_rfl
theorem po23 : (Go.Proofs.Try.f23.body.map (plansOK (info 23))).getD true = true := by kernel_rfl
theorem fn24 : Go.Proofs.Try.prog.funcs[24]? = some Go.Proofs.Try.f24 := by kernel_rfl
theorem po24 : (Go.Proofs.Try.f24.body.map (plansOK (info 24))).getD true = true := by kernel_rfl
theorem fn25 : Go.Proofs.Try.prog.funcs[25]? = some Go.Proofs.Try.f25 := by kernel_rfl
theorem po25 : (Go.Proofs.Try.f25.body.map (plansOK (info 25))).getD true = true := by kernel_rfl
theorem fn26 : Go.Proofs.Try.prog.funcs[26]? = some Go.Proofs.Try.f26 := by kernel_rfl
theorem po26 : (Go.Proofs.Try.f26.body.map (plansOK (info 26))).getD true = true := by kernel_rfl
theorem fn27 : Go.Proofs.Try.prog.funcs[27]? = some Go.Proofs.Try.f27 := by kernel_rfl
theorem po27 : (Go.Proofs.Try.f27.body.map (plansOK (info 27))).getD true = true := by kernel_rfl
theorem fn28 : Go.Proofs.Try.prog.funcs[28]? = some Go.Proofs.Try.f28 := by kernel_rfl
theorem po28 : (Go.Proofs.Try.f28.body.map (plansOK (info 28))).getD true = true := by kernel_rfl
theorem fn29 : Go.Proofs.Try.prog.funcs[29]? = some Go.Proofs.Try.f29 := by kernel_rfl
theorem po29 : (Go.Proofs.Try.f29.body.map (plansOK (info 29))).getD true = true := by kernel_rfl
theorem fn30 : Go.Proofs.Try.prog.funcs[30]? = some Go.Proofs.Try.f30 := by kernel_rfl
theorem po30 : (Go.Proofs.Try.f30.body.map (plansOK (info 30))).getD true = true := by kernel_rfl
theorem fn31 : Go.Proofs.Try.prog.funcs[31]? = some Go.Proofs.Try.f31 := by kernel_rfl
theorem po31 : (Go.Proofs.Try.f31.body.map (plansOK (info 31))).getD true = true := by kernel_rfl
theorem fn32 : Go.Proofs.Try.prog.funcs[32]? = some Go.Proofs.Try.f32 := by kernel_rfl
theorem po32 : (Go.Proofs.Try.f32.body.map (plansOK (info 32))).getD true = true := by kernel_rfl
theorem fn33 : Go.Proofs.Try.prog.funcs[33]? = some Go.Proofs.Try.f33 := by kernel_rfl
theorem po33 : (Go.Proofs.Try.f33.body.map (plansOK (info 33))).getD true = true := by kernel_rfl
theorem fn34 : Go.Proofs.Try.prog.funcs[34]? = some Go.Proofs.Try.f34 := by kernel_rfl
theorem po34 : (Go.Proofs.Try.f34.body.map (plansOK (info 34))).getD true = true := by kernel_rfl
theorem fn35 : Go.Proofs.Try.prog.funcs[35]? = some Go.Proofs.Try.f35 := by kernel_rfl
theorem po35 : (Go.Proofs.Try.f35.body.map (plansOK (info 35))).getD true = true := by kernel_rfl
theorem fn36 : Go.Proofs.Try.prog.funcs[36]? = some Go.Proofs.Try.f36 := by kernel_rfl
theorem po36 : (Go.Proofs.Try.f36.body.map (plansOK (info 36))).getD true = true := by kernel_rfl
theorem fn37 : Go.Proofs.Try.prog.funcs[37]? = some Go.Proofs.Try.f37 := by kernel_rfl
theorem po37 : (Go.Proofs.Try.f37.body.map (plansOK (info 37))).getD true = true := by kernel_rfl
theorem fn38 : Go.Proofs.Try.prog.funcs[38]? = some Go.Proofs.Try.f38 := by kernel_rfl
theorem po38 : (Go.Proofs.Try.f38.body.map (plansOK (info 38))).getD true = true := by kernel_rfl
theorem fn39 : Go.Proofs.Try.prog.funcs[39]? = some Go.Proofs.Try.f39 := by kernel_rfl
theorem po39 : (Go.Proofs.Try.f39.body.map (plansOK (info 39))).getD true = true := by kernel_rfl
theorem fn40 : Go.Proofs.Try.prog.funcs[40]? = some Go.Proofs.Try.f40 := by kernel_rfl
theorem po40 : (Go.Proofs.Try.f40.body.map (plansOK (info 40))).getD true = true := by kernel_rfl
theorem fn41 : Go.Proofs.Try.prog.funcs[41]? = some Go.Proofs.Try.f41 := by kernel_rfl
theorem po41 : (Go.Proofs.Try.f41.body.map (plansOK (info 41))).getD true = true := by kernel_rfl
theorem fn42 : Go.Proofs.Try.prog.funcs[42]? = some Go.Proofs.Try.f42 := by kernel_rfl
theorem po42 : (Go.Proofs.Try.f42.body.map (plansOK (info 42))).getD true = true := by kernel_rfl
theorem fn43 : Go.Proofs.Try.prog.funcs[43]? = some Go.Proofs.Try.f43 := by kernel_rfl
theorem po43 : (Go.Proofs.Try.f43.body.map (plansOK (info 43))).getD true = true := by kernel_rfl
theorem fn44 : Go.Proofs.Try.prog.funcs[44]? = some Go.Proofs.Try.f44 := by kernel_rfl
theorem po44 : (Go.Proofs.Try.f44.body.map (plansOK (info 44))).getD true = true := by kernel_rfl
theorem fn45 : Go.Proofs.Try.prog.funcs[45]? = some Go.Proofs.Try.f45 := by kernel_rfl
theorem po45 : (Go.Proofs.Try.f45.body.map (plansOK (info 45))).getD true = true := by kernel_rfl
theorem fn46 : Go.Proofs.Try.prog.funcs[46]? = some Go.Proofs.Try.f46 := by kernel_rfl
theorem po46 : (Go.Proofs.Try.f46.body.map (plansOK (info 46))).getD true = true := by kernel_rfl
theorem fn47 : Go.Proofs.Try.prog.funcs[47]? = some Go.Proofs.Try.f47 := by kernel_rfl
theorem po47 : (Go.Proofs.Try.f47.body.map (plansOK (info 47))).getD true = true := by kernel_rfl
theorem fn48 : Go.Proofs.Try.prog.funcs[48]? = some Go.Proofs.Try.f48 := by kernel_rfl
theorem po48 : (Go.Proofs.Try.f48.body.map (plansOK (info 48))).getD true = true := by kernel_rfl
theorem fn49 : Go.Proofs.Try.prog.funcs[49]? = some Go.Proofs.Try.f49 := by kernel_rfl
theorem po49 : (Go.Proofs.Try.f49.body.map (plansOK (info 49))).getD true = true := by kernel_rfl
theorem fn50 : Go.Proofs.Try.prog.funcs[50]? = some Go.Proofs.Try.f50 := by kernel_rfl
theorem po50 : (Go.Proofs.Try.f50.body.map (plansOK (info 50))).getD true = true := by kernel_rfl
theorem fn51 : Go.Proofs.Try.prog.funcs[51]? = some Go.Proofs.Try.f51 := by kernel_rfl
theorem po51 : (Go.Proofs.Try.f51.body.map (plansOK (info 51))).getD true = true := by kernel_rfl
theorem fn52 : Go.Proofs.Try.prog.funcs[52]? = some Go.Proofs.Try.f52 := by kernel_rfl
theorem po52 : (Go.Proofs.Try.f52.body.map (plansOK (info 52))).getD true = true := by kernel_rfl
theorem fn53 : Go.Proofs.Try.prog.funcs[53]? = some Go.Proofs.Try.f53 := by kernel_rfl
theorem po53 : (Go.Proofs.Try.f53.body.map (plansOK (info 53))).getD true = true := by kernel_rfl
theorem fn54 : Go.Proofs.Try.prog.funcs[54]? = some Go.Proofs.Try.f54 := by kernel_rfl
theorem po54 : (Go.Proofs.Try.f54.body.map (plansOK (info 54))).getD true = true := by kernel_rfl
theorem fn55 : Go.Proofs.Try.prog.funcs[55]? = some Go.Proofs.Try.f55 := by kernel_rfl
theorem po55 : (Go.Proofs.Try.f55.body.map (plansOK (info 55))).getD true = true := by kernel_rfl
theorem fn56 : Go.Proofs.Try.prog.funcs[56]? = some Go.Proofs.Try.f56 := by kernel_rfl
theorem po56 : (Go.Proofs.Try.f56.body.map (plansOK (info 56))).getD true = true := by kernel_rfl
theorem fn57 : Go.Proofs.Try.prog.funcs[57]? = some Go.Proofs.Try.f57 := by kernel_rfl
theorem po57 : (Go.Proofs.Try.f57.body.map (plansOK (info 57))).getD true = true := by kernel_rfl
theorem fn58 : Go.Proofs.Try.prog.funcs[58]? = some Go.Proofs.Try.f58 := by kernel_rfl
theorem po58 : (Go.Proofs.Try.f58.body.map (plansOK (info 58))).getD true = true := by kernel_rfl
theorem fn59 : Go.Proofs.Try.prog.funcs[59]? = some Go.Proofs.Try.f59 := by kernel_rfl
theorem po59 : (Go.Proofs.Try.f59.body.map (plansOK (info 59))).getD true = true := by kernel_rfl
theorem fn60 : Go.Proofs.Try.prog.funcs[60]? = some Go.Proofs.Try.f60 := by kernel_rfl
theorem po60 : (Go.Proofs.Try.f60.body.map (plansOK (info 60))).getD true = true := by kernel_rfl
theorem fn61 : Go.Proofs.Try.prog.funcs[61]? = some Go.Proofs.Try.f61 := by kernel_rfl
theorem po61 : (Go.Proofs.Try.f61.body.map (plansOK (info 61))).getD true = true := by kernel_rfl
theorem fn62 : Go.Proofs.Try.prog.funcs[62]? = some Go.Proofs.Try.f62 := by kernel_rfl
theorem po62 : (Go.Proofs.Try.f62.body.map (plansOK (info 62))).getD true = true := by kernel_rfl
theorem fn63 : Go.Proofs.Try.prog.funcs[63]? = some Go.Proofs.Try.f63 := by kernel_rfl
theorem po63 : (Go.Proofs.Try.f63.body.map (plansOK (info 63))).getD true = true := by kernel_rfl
theorem fn64 : Go.Proofs.Try.prog.funcs[64]? = some Go.Proofs.Try.f64 := by kernel_rfl
theorem po64 : (Go.Proofs.Try.f64.body.map (plansOK (info 64))).getD true = true := by kernel_rfl
theorem fn65 : Go.Proofs.Try.prog.funcs[65]? = some Go.Proofs.Try.f65 := by kernel_rfl
theorem po65 : (Go.Proofs.Try.f65.body.map (plansOK (info 65))).getD true = true := by kernel_rfl
theorem fn66 : Go.Proofs.Try.prog.funcs[66]? = some Go.Proofs.Try.f66 := by kernel_rfl
theorem po66 : (Go.Proofs.Try.f66.body.map (plansOK (info 66))).getD true = true := by kernel_rfl
theorem fn67 : Go.Proofs.Try.prog.funcs[67]? = some Go.Proofs.Try.f67 := by kernel_rfl
theorem po67 : (Go.Proofs.Try.f67.body.map (plansOK (info 67))).getD true = true := by kernel_rfl
theorem fn68 : Go.Proofs.Try.prog.funcs[68]? = some Go.Proofs.Try.f68 := by kernel_rfl
theorem po68 : (Go.Proofs.Try.f68.body.map (plansOK (info 68))).getD true = true := by kernel_rfl
theorem fn69 : Go.Proofs.Try.prog.funcs[69]? = some Go.Proofs.Try.f69 := by kernel_rfl
theorem po69 : (Go.Proofs.Try.f69.body.map (plansOK (info 69))).getD true = true := by kernel_rfl
theorem fn70 : Go.Proofs.Try.prog.funcs[70]? = some Go.Proofs.Try.f70 := by kernel_rfl
theorem po70 : (Go.Proofs.Try.f70.body.map (plansOK (info 70))).getD true = true := by kernel_rfl
theorem fn71 : Go.Proofs.Try.prog.funcs[71]? = some Go.Proofs.Try.f71 := by kernel_rfl
theorem po71 : (Go.Proofs.Try.f71.body.map (plansOK (info 71))).getD true = true := by kernel_rfl
theorem fn72 : Go.Proofs.Try.prog.funcs[72]? = some Go.Proofs.Try.f72 := by kernel_rfl
theorem po72 : (Go.Proofs.Try.f72.body.map (plansOK (info 72))).getD true = true := by kernel_rfl
theorem fn73 : Go.Proofs.Try.prog.funcs[73]? = some Go.Proofs.Try.f73 := by kernel_rfl
theorem po73 : (Go.Proofs.Try.f73.body.map (plansOK (info 73))).getD true = true := by kernel_rfl
theorem fn74 : Go.Proofs.Try.prog.funcs[74]? = some Go.Proofs.Try.f74 := by kernel_rfl
theorem po74 : (Go.Proofs.Try.f74.body.map (plansOK (info 74))).getD true = true := by kernel_rfl
theorem fn75 : Go.Proofs.Try.prog.funcs[75]? = some Go.Proofs.Try.f75 := by kernel_rfl
theorem po75 : (Go.Proofs.Try.f75.body.map (plansOK (info 75))).getD true = true := by kernel_rfl
theorem fn76 : Go.Proofs.Try.prog.funcs[76]? = some Go.Proofs.Try.f76 := by kernel_rfl
theorem po76 : (Go.Proofs.Try.f76.body.map (plansOK (info 76))).getD true = true := by kernel_rfl
theorem fn77 : Go.Proofs.Try.prog.funcs[77]? = some Go.Proofs.Try.f77 := by kernel_rfl
theorem po77 : (Go.Proofs.Try.f77.body.map (plansOK (info 77))).getD true = true := by kernel_rfl
theorem fn78 : Go.Proofs.Try.prog.funcs[78]? = some Go.Proofs.Try.f78 := by kernel_rfl
theorem po78 : (Go.Proofs.Try.f78.body.map (plansOK (info 78))).getD true = true := by kernel_rfl
theorem fn79 : Go.Proofs.Try.prog.funcs[79]? = some Go.Proofs.Try.f79 := by kernel_rfl
theorem po79 : (Go.Proofs.Try.f79.body.map (plansOK (info 79))).getD true = true := by kernel_rfl
theorem fn80 : Go.Proofs.Try.prog.funcs[80]? = some Go.Proofs.Try.f80 := by kernel_rfl
theorem po80 : (Go.Proofs.Try.f80.body.map (plansOK (info 80))).getD true = true := by kernel_rfl
theorem fn81 : Go.Proofs.Try.prog.funcs[81]? = some Go.Proofs.Try.f81 := by kernel_rfl
theorem po81 : (Go.Proofs.Try.f81.body.map (plansOK (info 81))).getD true = true := by kernel_rfl
theorem fn82 : Go.Proofs.Try.prog.funcs[82]? = some Go.Proofs.Try.f82 := by kernel_rfl
theorem po82 : (Go.Proofs.Try.f82.body.map (plansOK (info 82))).getD true = true := by kernel_rfl
theorem fn83 : Go.Proofs.Try.prog.funcs[83]? = some Go.Proofs.Try.f83 := by kernel_rfl
theorem po83 : (Go.Proofs.Try.f83.body.map (plansOK (info 83))).getD true = true := by kernel_rfl
theorem fn84 : Go.Proofs.Try.prog.funcs[84]? = some Go.Proofs.Try.f84 := by kernel_rfl
theorem po84 : (Go.Proofs.Try.f84.body.map (plansOK (info 84))).getD true = true := by kernel_rfl
theorem fn85 : Go.Proofs.Try.prog.funcs[85]? = some Go.Proofs.Try.f85 := by kernel_rfl
theorem po85 : (Go.Proofs.Try.f85.body.map (plansOK (info 85))).getD true = true := by kernel_rfl
theorem fn86 : Go.Proofs.Try.prog.funcs[86]? = some Go.Proofs.Try.f86 := by kernel_rfl
theorem po86 : (Go.Proofs.Try.f86.body.map (plansOK (info 86))).getD true = true := by kernel_rfl
theorem fn87 : Go.Proofs.Try.prog.funcs[87]? = some Go.Proofs.Try.f87 := by kernel_rfl
theorem po87 : (Go.Proofs.Try.f87.body.map (plansOK (info 87))).getD true = true := by kernel_rfl
theorem fn88 : Go.Proofs.Try.prog.funcs[88]? = some Go.Proofs.Try.f88 := by kernel_rfl
theorem po88 : (Go.Proofs.Try.f88.body.map (plansOK (info 88))).getD true = true := by kernel_rfl
theorem fn89 : Go.Proofs.Try.prog.funcs[89]? = some Go.Proofs.Try.f89 := by kernel_rfl
theorem po89 : (Go.Proofs.Try.f89.body.map (plansOK (info 89))).getD true = true := by kernel_rfl
theorem fn90 : Go.Proofs.Try.prog.funcs[90]? = some Go.Proofs.Try.f90 := by kernel_rfl
theorem po90 : (Go.Proofs.Try.f90.body.map (plansOK (info 90))).getD true = true := by kernel_rfl
theorem fn91 : Go.Proofs.Try.prog.funcs[91]? = some Go.Proofs.Try.f91 := by kernel_rfl
theorem po91 : (Go.Proofs.Try.f91.body.map (plansOK (info 91))).getD true = true := by kernel_rfl
theorem fn92 : Go.Proofs.Try.prog.funcs[92]? = some Go.Proofs.Try.f92 := by kernel_rfl
theorem po92 : (Go.Proofs.Try.f92.body.map (plansOK (info 92))).getD true = true := by kernel_rfl
theorem fn93 : Go.Proofs.Try.prog.funcs[93]? = some Go.Proofs.Try.f93 := by kernel_rfl
theorem po93 : (Go.Proofs.Try.f93.body.map (plansOK (info 93))).getD true = true := by kernel_rfl
theorem fn94 : Go.Proofs.Try.prog.funcs[94]? = some Go.Proofs.Try.f94 := by kernel_rfl
theorem po94 : (Go.Proofs.Try.f94.body.map (plansOK (info 94))).getD true = true := by kernel_rfl
theorem fn95 : Go.Proofs.Try.prog.funcs[95]? = some Go.Proofs.Try.f95 := by kernel_rfl
theorem po95 : (Go.Proofs.Try.f95.body.map (plansOK (info 95))).getD true = true := by kernel_rfl
theorem fn96 : Go.Proofs.Try.prog.funcs[96]? = some Go.Proofs.Try.f96 := by kernel_rfl
theorem po96 : (Go.Proofs.Try.f96.body.map (plansOK (info 96))).getD true = true := by kernel_rfl
theorem fn97 : Go.Proofs.Try.prog.funcs[97]? = some Go.Proofs.Try.f97 := by kernel_rfl
theorem po97 : (Go.Proofs.Try.f97.body.map (plansOK (info 97))).getD true = true := by kernel_rfl
theorem fn98 : Go.Proofs.Try.prog.funcs[98]? = some Go.Proofs.Try.f98 := by kernel_rfl
theorem po98 : (Go.Proofs.Try.f98.body.map (plansOK (info 98))).getD true = true := by kernel_rfl
theorem fn99 : Go.Proofs.Try.prog.funcs[99]? = some Go.Proofs.Try.f99 := by kernel_rfl
theorem po99 : (Go.Proofs.Try.f99.body.map (plansOK (info 99))).getD true = true := by kernel_rfl
theorem fn100 : Go.Proofs.Try.prog.funcs[100]? = some Go.Proofs.Try.f100 := by kernel_rfl
theorem po100 : (Go.Proofs.Try.f100.body.map (plansOK (info 100))).getD true = true := by kernel_rfl
theorem fn103 : Go.Proofs.Try.prog.funcs[103]? = some Go.Proofs.Try.f103 := by kernel_rfl
theorem po103 : (Go.Proofs.Try.f103.body.map (plansOK (info 103))).getD true = true := by kernel_rfl
theorem fn104 : Go.Proofs.Try.prog.funcs[104]? = some Go.Proofs.Try.f104 := by kernel_rfl
theorem po104 : (Go.Proofs.Try.f104.body.map (plansOK (info 104))).getD true = true := by kernel_rfl
end Go.AM.Try
