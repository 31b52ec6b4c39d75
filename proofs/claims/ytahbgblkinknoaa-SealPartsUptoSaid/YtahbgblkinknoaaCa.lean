import Derived.Test.YtahbgblkinknoaaSpa
import Derived.Test.YtahbgblkinknoaaTab
/- What the small functions hand back. -/
set_option linter.unusedSimpArgs false
set_option linter.unusedVariables false
set_option maxRecDepth 100000
namespace Go.AM.Try
open Go.Proofs.Try

def g51 : List AV → Option AV
  | [.int .i64 x, .int .i64 a, .int .i64 b] => some (.bool (inR a b x))
  | _ => none
theorem t51 : ∀ args r, g51 args = some r → Told prog 51 args r := by
  intro args r h
  unfold g51 at h
  split at h <;> try (cases h; done)
  rename_i x a b
  injection h with h; subst h
  refine told_fn (i := info 51) (n := 5) TTok (known0_ok _) mix fn51 po51 ?_
  by_cases h : x ≥ a <;> simp [f51, h, inR]
noncomputable abbrev L51 := AM.ext known0 51 g51
theorem L51ok : CallOK prog L51 := (known0_ok _).ext fn51 (by kernel_rfl) t51
def g65 : List AV → Option AV
  | [.int .i64 x, .int .i64 a, .int .i64 b] => some (.bool (inR a b x))
  | _ => none
theorem t65 : ∀ args r, g65 args = some r → Told prog 65 args r := by
  intro args r h
  unfold g65 at h
  split at h <;> try (cases h; done)
  rename_i x a b
  injection h with h; subst h
  refine told_fn (i := info 65) (n := 5) TTok L51ok mix fn65 po65 ?_
  by_cases h : x ≥ a <;> simp [f65, h, inR]
noncomputable abbrev L65 := AM.ext L51 65 g65
theorem L65ok : CallOK prog L65 := L51ok.ext fn65 (by kernel_rfl) t65
def g34 : List AV → Option AV
  | [.int .i64 x] => some (.bool (inR 1 4 x))
  | _ => none
theorem t34 : ∀ args r, g34 args = some r → Told prog 34 args r := by
  intro args r h
  unfold g34 at h
  split at h <;> try (cases h; done)
  rename_i x
  injection h with h; subst h
  refine told_fn (i := info 34) (n := 5) TTok L65ok mix fn34 po34 ?_
  simp [f34, g51]
noncomputable abbrev L34 := AM.ext L65 34 g34
theorem L34ok : CallOK prog L34 := L65ok.ext fn34 (by kernel_rfl) t34
def g64 : List AV → Option AV
  | [.int .i64 x] => some (.bool (inR 1 4 x))
  | _ => none
theorem t64 : ∀ args r, g64 args = some r → Told prog 64 args r := by
  intro args r h
  unfold g64 at h
  split at h <;> try (cases h; done)
  rename_i x
  injection h with h; subst h
  refine told_fn (i := info 64) (n := 5) TTok L34ok mix fn64 po64 ?_
  simp [f64, g65]
noncomputable abbrev L64 := AM.ext L34 64 g64
theorem L64ok : CallOK prog L64 := L34ok.ext fn64 (by kernel_rfl) t64
def g58 : List AV → Option AV
  | [.int .i64 x] => some (.bool (inR 1 4 x))
  | _ => none
theorem t58 : ∀ args r, g58 args = some r → Told prog 58 args r := by
  intro args r h
  unfold g58 at h
  split at h <;> try (cases h; done)
  rename_i x
  injection h with h; subst h
  refine told_fn (i := info 58) (n := 5) TTok L64ok mix fn58 po58 ?_
  by_cases h : x ≥ 1 <;> simp [f58, h, inR]
noncomputable abbrev L58 := AM.ext L64 58 g58
theorem L58ok : CallOK prog L58 := L64ok.ext fn58 (by kernel_rfl) t58
def g98 : List AV → Option AV
  | [.int .i64 x] => some (.bool (inR 1 2147483647 x))
  | _ => none
theorem t98 : ∀ args r, g98 args = some r → Told prog 98 args r := by
  intro args r h
  unfold g98 at h
  split at h <;> try (cases h; done)
  rename_i x
  injection h with h; subst h
  refine told_fn (i := info 98) (n := 5) TTok L58ok mix fn98 po98 ?_
  by_cases h : x ≥ 1 <;> simp [f98, h, inR]
noncomputable abbrev L98 := AM.ext L58 98 g98
theorem L98ok : CallOK prog L98 := L58ok.ext fn98 (by kernel_rfl) t98
def g99 : List AV → Option AV
  | [.int .i64 x] => some (.bool (inR 0 60 x))
  | _ => none
theorem t99 : ∀ args r, g99 args = some r → Told prog 99 args r := by
  intro args r h
  unfold g99 at h
  split at h <;> try (cases h; done)
  rename_i x
  injection h with h; subst h
  refine told_fn (i := info 99) (n := 5) TTok L98ok mix fn99 po99 ?_
  by_cases h : x ≥ 0 <;> simp [f99, h, inR]
noncomputable abbrev L99 := AM.ext L98 99 g99
theorem L99ok : CallOK prog L99 := L98ok.ext fn99 (by kernel_rfl) t99
def g42 : List AV → Option AV
  | [.int .i64 x] => some (.bool (inR 0 1048576 x))
  | _ => none
theorem t42 : ∀ args r, g42 args = some r → Told prog 42 args r := by
  intro args r h
  unfold g42 at h
  split at h <;> try (cases h; done)
  rename_i x
  injection h with h; subst h
  refine told_fn (i := info 42) (n := 5) TTok L99ok mix fn42 po42 ?_
  by_cases h : x ≥ 0 <;> simp [f42, h, inR]
noncomputable abbrev L42 := AM.ext L99 42 g42
theorem L42ok : CallOK prog L42 := L99ok.ext fn42 (by kernel_rfl) t42
def g40 : List AV → Option AV
  | [.int .i64 x] => some (.bool (inR 0 255 x))
  | _ => none
theorem t40 : ∀ args r, g40 args = some r → Told prog 40 args r := by
  intro args r h
  unfold g40 at h
  split at h <;> try (cases h; done)
  rename_i x
  injection h with h; subst h
  refine told_fn (i := info 40) (n := 5) TTok L42ok mix fn40 po40 ?_
  by_cases h : x ≥ 0 <;> simp [f40, h, inR]
noncomputable abbrev L40 := AM.ext L42 40 g40
theorem L40ok : CallOK prog L40 := L42ok.ext fn40 (by kernel_rfl) t40
def g19 : List AV → Option AV
  | [.int .i64 x] => some (.bool (inR 1 4294967295 x))
  | _ => none
theorem t19 : ∀ args r, g19 args = some r → Told prog 19 args r := by
  intro args r h
  unfold g19 at h
  split at h <;> try (cases h; done)
  rename_i x
  injection h with h; subst h
  refine told_fn (i := info 19) (n := 5) TTok L40ok mix fn19 po19 ?_
  by_cases h : x ≥ 1 <;> simp [f19, h, inR]
noncomputable abbrev L19 := AM.ext L40 19 g19
theorem L19ok : CallOK prog L19 := L40ok.ext fn19 (by kernel_rfl) t19
def g20 : List AV → Option AV
  | [.int .i64 x] => some (.bool (inR 1 4294967295 x))
  | _ => none
theorem t20 : ∀ args r, g20 args = some r → Told prog 20 args r := by
  intro args r h
  unfold g20 at h
  split at h <;> try (cases h; done)
  rename_i x
  injection h with h; subst h
  refine told_fn (i := info 20) (n := 5) TTok L19ok mix fn20 po20 ?_
  by_cases h : x ≥ 1 <;> simp [f20, h, inR]
noncomputable abbrev L20 := AM.ext L19 20 g20
theorem L20ok : CallOK prog L20 := L19ok.ext fn20 (by kernel_rfl) t20
def g67 : List AV → Option AV
  | [.int .i64 x, .int .i64 y] => some (.bool (inR 1 4294967295 x && inR 1 4294967295 y))
  | _ => none
theorem t67 : ∀ args r, g67 args = some r → Told prog 67 args r := by
  intro args r h
  unfold g67 at h
  split at h <;> try (cases h; done)
  rename_i x y
  injection h with h; subst h
  refine told_fn (i := info 67) (n := 5) TTok L20ok mix fn67 po67 ?_
  cases h : inR 1 4294967295 x <;> simp [f67, g51, h]
noncomputable abbrev L67 := AM.ext L20 67 g67
theorem L67ok : CallOK prog L67 := L20ok.ext fn67 (by kernel_rfl) t67
def g57 : List AV → Option AV
  | [.int .i64 x] => some (.bool (isType x))
  | _ => none
theorem t57 : ∀ args r, g57 args = some r → Told prog 57 args r := by
  intro args r h
  unfold g57 at h
  split at h <;> try (cases h; done)
  rename_i x
  injection h with h; subst h
  refine told_fn (i := info 57) (n := 5) TTok L67ok mix fn57 po57 ?_
  by_cases h : x = 1 <;> by_cases h' : x = 4 <;> simp [f57, h, h', isType]
noncomputable abbrev L57 := AM.ext L67 57 g57
theorem L57ok : CallOK prog L57 := L67ok.ext fn57 (by kernel_rfl) t57
def g63 : List AV → Option AV
  | [.int .i64 x] => some (.bool (isType x))
  | _ => none
theorem t63 : ∀ args r, g63 args = some r → Told prog 63 args r := by
  intro args r h
  unfold g63 at h
  split at h <;> try (cases h; done)
  rename_i x
  injection h with h; subst h
  refine told_fn (i := info 63) (n := 5) TTok L57ok mix fn63 po63 ?_
  by_cases h : x = 1 <;> by_cases h' : x = 4 <;> simp [f63, h, h', isType]
noncomputable abbrev L63 := AM.ext L57 63 g63
theorem L63ok : CallOK prog L63 := L57ok.ext fn63 (by kernel_rfl) t63
def g9 : List AV → Option AV
  | [.int .i64 x] => some (.int .i64 x)
  | _ => none
theorem t9 : ∀ args r, g9 args = some r → Told prog 9 args r := by
  intro args r h
  unfold g9 at h
  split at h <;> try (cases h; done)
  rename_i x
  injection h with h; subst h
  refine told_fn (i := info 9) (n := 5) TTok L63ok mix fn9 po9 ?_
  simp [f9]
noncomputable abbrev L9 := AM.ext L63 9 g9
theorem L9ok : CallOK prog L9 := L63ok.ext fn9 (by kernel_rfl) t9
def g41 : List AV → Option AV
  | [.str s] => some (.bool (inL 1 32 s))
  | _ => none
theorem t41 : ∀ args r, g41 args = some r → Told prog 41 args r := by
  intro args r h
  unfold g41 at h
  split at h <;> try (cases h; done)
  rename_i s
  injection h with h; subst h
  refine told_fn (i := info 41) (n := 5) TTok L9ok mix fn41 po41 ?_
  have e : decide ((s.length : Int) ≤ 32) = decide (s.length ≤ 32) := by simp; omega
  by_cases h : 1 ≤ s.length
  · have h' : (s.length : Int) ≥ 1 := by omega
    simp [f41, h', inL, h, e]
  · have h' : ¬ (s.length : Int) ≥ 1 := by omega
    simp [f41, h', inL, h]
noncomputable abbrev L41 := AM.ext L9 41 g41
theorem L41ok : CallOK prog L41 := L9ok.ext fn41 (by kernel_rfl) t41
def g43 : List AV → Option AV
  | [.int .i64 x] => some (.str [b8 x])
  | _ => none
theorem t43 : ∀ args r, g43 args = some r → Told prog 43 args r := by
  intro args r h
  unfold g43 at h
  split at h <;> try (cases h; done)
  rename_i x
  injection h with h; subst h
  refine told_fn (i := info 43) (n := 5) TTok L41ok mix fn43 po43 ?_
  simp [f43, b8]
noncomputable abbrev L43 := AM.ext L41 43 g43
theorem L43ok : CallOK prog L43 := L41ok.ext fn43 (by kernel_rfl) t43
def g59 : List AV → Option AV
  | [.int .i64 x] => some (.str (two x))
  | _ => none
theorem t59 : ∀ args r, g59 args = some r → Told prog 59 args r := by
  intro args r h
  unfold g59 at h
  split at h <;> try (cases h; done)
  rename_i x
  injection h with h; subst h
  refine told_fn (i := info 59) (n := 5) TTok L43ok mix fn59 po59 ?_
  simp [f59, IntKind.bits, b8, two]
noncomputable abbrev L59 := AM.ext L43 59 g59
theorem L59ok : CallOK prog L59 := L43ok.ext fn59 (by kernel_rfl) t59
def g44 : List AV → Option AV
  | [.int .i64 x] => some (.str (four x))
  | _ => none
theorem t44 : ∀ args r, g44 args = some r → Told prog 44 args r := by
  intro args r h
  unfold g44 at h
  split at h <;> try (cases h; done)
  rename_i x
  injection h with h; subst h
  refine told_fn (i := info 44) (n := 5) TTok L59ok mix fn44 po44 ?_
  simp [f44, IntKind.bits, g59, four, two]
noncomputable abbrev L44 := AM.ext L59 44 g44
theorem L44ok : CallOK prog L44 := L59ok.ext fn44 (by kernel_rfl) t44
def g18 : List AV → Option AV
  | [.agg [.int .i64 a, .str s, .int .i64 b, .int .i64 c, .int .i64 d, .int .i64 e]] => some (.bool (keyMay a s b c d e))
  | _ => none
theorem t18 : ∀ args r, g18 args = some r → Told prog 18 args r := by
  intro args r h
  unfold g18 at h
  split at h <;> try (cases h; done)
  rename_i a s b c d e
  injection h with h; subst h
  refine told_fn (i := info 18) (n := 5) TTok L44ok mix fn18 po18 ?_
  unfold keyMay
  cases hc0 : inR 0 255 a
  · simp [f18, g40, g41, g42, hc0]
  cases hc1 : inL 1 32 s
  · simp [f18, g40, g41, g42, hc0, hc1]
  cases hc2 : inR 0 1048576 b
  · simp [f18, g40, g41, g42, hc0, hc1, hc2]
  cases hc3 : inR 0 1048576 c
  · simp [f18, g40, g41, g42, hc0, hc1, hc2, hc3]
  cases hc4 : inR 0 1048576 d
  · simp [f18, g40, g41, g42, hc0, hc1, hc2, hc3, hc4]
  simp [f18, g40, g41, g42, hc0, hc1, hc2, hc3, hc4]
noncomputable abbrev L18 := AM.ext L44 18 g18
theorem L18ok : CallOK prog L18 := L44ok.ext fn18 (by kernel_rfl) t18
end Go.AM.Try

