import Derived.Test.YtahbgblkinknoaaDa
import Derived.WalkKit
import Derived.ProofKit
import Derived.OpenShut
import Derived.ShutString
import Derived.ChangeOld
import Derived.ChangeArms
import Derived.Below
/- How the arguments of a law are read as the machine's values. -/
namespace Go.AM
open Go.WideShapes Go.ChangeShapes Go.RowKit
section
variable {H : Type} {enc : TypeId × Value → H} {P : Program} {w : World} {spare : Nat → Bool} {held : Bool}
/-- Blocks that are there. -/
def There (w : World) : Nat → Prop := fun k => k < w.heap.size
theorem there_of_cell {a : Addr} {x : Value} (h : w.cell? a = some x) : There w a.block := by
  unfold World.cell? at h
  unfold There
  rcases Nat.lt_or_ge a.block w.heap.size with h1 | h1
  · exact h1
  · have : w.heap[a.block]? = none := Array.getElem?_eq_none h1
    rw [this] at h
    cases h
theorem cells_get {a : Addr} {n : Nat} {cs : List Value} (h : w.cells? 0 a n = some cs) : cs.length = n ∧ CellsAt w a cs := by
  unfold World.cells? at h
  rw [if_pos (Nat.zero_le _)] at h
  refine ⟨by simpa using mapM_some_length h, fun j x hx => ?_⟩
  have hj : j < n := by
    have h1 := mapM_some_length h
    have h2 := (List.getElem?_eq_some_iff.1 hx).1
    simp at h1
    omega
  have := mapM_some_get h j j (by simp [hj])
  rw [this, hx]
/-- A row of elements, each some cells. -/
theorem row_read {α : Type} (f : α → List AV) (I : Nat → Prop) (k : Nat) (Q : α → Nat → Prop) (a : Addr) : ∀ (len : Nat),
    (∀ i, i < len → ∃ (y : α) (vs : List Value), vs.length = k ∧ CellsAt w (a.add (i * k)) vs ∧ VRs w (f y) noLocs I vs ∧ Q y i) →
    ∃ (l : List α) (vs : List Value), l.length = len ∧ vs.length = len * k ∧ CellsAt w a vs ∧ VRs w (l.flatMap f) noLocs I vs ∧ ∀ i (h : i < l.length), Q l[i] i
  | 0, _ => ⟨[], [], rfl, by simp, fun j x h => by simp at h, by simp [VRs], fun i h => by simp at h⟩
  | n + 1, h => by
    obtain ⟨l, vs, h1, h2, h3, h4, h5⟩ := row_read f I k Q a n fun i hi => h i (by omega)
    obtain ⟨y, us, g1, g2, g3, g4⟩ := h n (by omega)
    refine ⟨l ++ [y], vs ++ us, by simp [h1], by simp [h2, g1, Nat.succ_mul], fun j x hx => ?_, ?_, fun i hi => ?_⟩
    · rw [List.getElem?_append] at hx
      split at hx
      · exact h3 j x hx
      · have := g2 (j - vs.length) x hx
        rw [add_add, h2] at this
        rw [← this]
        congr 2
        rename_i hj
        omega
    · rw [List.flatMap_append]
      simp only [List.flatMap_cons, List.flatMap_nil, List.append_nil]
      exact VRs.append h4 g3
    · rcases Nat.lt_or_ge i l.length with hl | hl
      · rw [List.getElem_append_left hl]
        exact h5 i hl
      · have : i = n := by simp at hi; omega
        subst this
        have e : (l ++ [y])[i] = y := by
          rw [List.getElem_append_right (by omega)]
          simp [h1]
        rw [e]; exact g4
theorem VRs.imm {I I' : Nat → Prop} (h : ∀ k, I k → I' k) {cs : List AV} {vs : List Value} (hv : VRs w cs noLocs I vs) : VRs w cs noLocs I' vs :=
  VRs.stays cs (Stays.imms noLocs w h) vs hv
/-- A slice, read. -/
theorem slice_read {α : Type} (f : α → List AV) (fl : Bool) (k : Nat) (Q : α → DataW H → Prop) {t e : TypeId} (ht : P.underlying t = some (.slice e)) (hk : P.cellsOf e = k) (hk0 : 0 < k)
    (one : ∀ (n : Nat) (cs : List Value) (x : DataW H × List MemPlace), DataW.trod enc P w 0 spare held n e cs = some x → ∃ y, VRs w (f y) noLocs (if fl then noImm else There w) cs ∧ Q y x.1)
    {fuel : Nat} {cs : List Value} {x : DataW H × List MemPlace} (h : DataW.trod enc P w 0 spare held fuel t cs = some x) :
    ∃ (v : Value) (l : List α), cs = [v] ∧ VR w (.sl fl (l.flatMap f) l.length) noLocs (There w) v ∧
      ((l = [] ∧ x.1 = .nil) ∨ ∃ es rs, x.1 = .slice es rs ∧ es.length = l.length ∧ ∀ i (h : i < l.length) (h' : i < es.length), Q l[i] es[i]) := by
  rcases DataW.trod_slice ht h with ⟨rfl, rfl⟩ | ⟨a, len, cap, elems, rest, n, rfl, rfl, rfl, _, hlc, _, hel, hget, _⟩
  · refine ⟨_, [], rfl, ?_, .inl ⟨rfl, rfl⟩⟩
    simp only [VR]
    exact ⟨none, 0, rfl, Nat.le_refl 0, fun _ => rfl, .inl rfl⟩
  · have key : ∀ i, i < len → ∃ (y : α) (vs : List Value), vs.length = k ∧ CellsAt w (a.add (i * k)) vs ∧ VRs w (f y) noLocs (if fl then noImm else There w) vs ∧ ∀ d, (elems.map (·.1))[i]? = some d → Q y d := by
      intro i hi
      have h1 := hget i hi
      rw [hk] at h1
      have hi2 : i < elems.length := by omega
      rw [List.getElem?_eq_getElem hi2, Option.bind_eq_some_iff] at h1
      obtain ⟨vs, h2, h3⟩ := h1
      obtain ⟨h4, h5⟩ := cells_get h2
      obtain ⟨y, h6, h7⟩ := one n vs _ h3
      refine ⟨y, vs, h4, h5, h6, fun d hd => ?_⟩
      rw [List.getElem?_map, List.getElem?_eq_getElem hi2] at hd
      simp only [Option.map_some, Option.some.injEq] at hd
      rw [← hd]; exact h7
    obtain ⟨l, vs, g1, g2, g3, g4, g5⟩ := row_read (w := w) f (if fl then noImm else There w) k (fun y i => ∀ d, (elems.map (·.1))[i]? = some d → Q y d) a len key
    refine ⟨_, l, rfl, ?_, .inr ⟨_, _, rfl, by simp [hel, g1], fun i h h' => g5 i h _ (by rw [List.getElem?_eq_getElem h'])⟩⟩
    simp only [VR]
    refine ⟨some a, cap, by rw [g1], by omega, fun e => (by cases e), ?_⟩
    cases l with
    | nil => exact .inl rfl
    | cons y l =>
      refine .inr ⟨a, vs, rfl, ?_, g3, g4⟩
      have hp : 0 < vs.length := by
        rw [g2, ← g1]
        exact Nat.mul_pos (by simp) hk0
      have := g3 0 vs[0] (by simp [hp])
      have h2 := there_of_cell this
      rwa [add_block] at h2
end
end Go.AM

