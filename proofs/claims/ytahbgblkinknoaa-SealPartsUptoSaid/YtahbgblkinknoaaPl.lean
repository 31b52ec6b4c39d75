import Derived.Test.YtahbgblkinknoaaDa
import Derived.Test.YtahbgblkinknoaaSh
/- Rows of plain cells. -/
namespace Go.AM
def pl1 : AV → Bool
  | .int _ _ | .bool _ | .str _ | .nilp | .snil => true
  | _ => false
def Pl (cs : List AV) : Prop := ∀ c ∈ cs, pl1 c = true
theorem Pl.cons {c : AV} {cs : List AV} (h : Pl (c :: cs)) : pl1 c = true ∧ Pl cs := ⟨h c (by simp), fun x hx => h x (by simp [hx])⟩
section
variable {cs : List AV} (m : List (Nat × Blk)) (ρ : Nat → Option Nat) (n q : Nat)
theorem Pl.refs (h : Pl cs) : cs.flatMap (AM.refs m n) = [] := by
  induction cs with
  | nil => rfl
  | cons c cs ih =>
    obtain ⟨h1, h2⟩ := h.cons
    rw [List.flatMap_cons, ih h2]
    cases c <;> simp [pl1] at h1 <;> cases n <;> rfl
theorem Pl.ren (h : Pl cs) : cs.map (renC ρ n) = cs := by
  induction cs with
  | nil => rfl
  | cons c cs ih =>
    obtain ⟨h1, h2⟩ := h.cons
    rw [List.map_cons, ih h2]
    cases c <;> simp [pl1] at h1 <;> cases n <;> rfl
theorem Pl.exC (h : Pl cs) : cs.mapM (AM.exC m n) = some cs := by
  induction cs with
  | nil => rfl
  | cons c cs ih =>
    obtain ⟨h1, h2⟩ := h.cons
    rw [List.mapM_cons, ih h2]
    cases c <;> simp [pl1] at h1 <;> cases n <;> rfl
theorem Pl.cellL (h : Pl cs) : AM.cellL cs = true := by
  induction cs with
  | nil => rfl
  | cons c cs ih =>
    obtain ⟨h1, h2⟩ := h.cons
    rw [AM.cellL, ih h2]
    cases c <;> simp [pl1] at h1 <;> rfl
theorem Pl.kdL (h : Pl cs) : AM.kdL cs = 0 := by
  induction cs with
  | nil => rfl
  | cons c cs ih =>
    obtain ⟨h1, h2⟩ := h.cons
    rw [AM.kdL, ih h2]
    cases c <;> simp [pl1] at h1 <;> rfl
theorem Pl.expL (h : Pl cs) : AM.expL m cs = some (cs, []) := by
  induction cs with
  | nil => rfl
  | cons c cs ih =>
    obtain ⟨h1, h2⟩ := h.cons
    rw [AM.expL, ih h2]
    cases c <;> simp [pl1] at h1 <;> rfl
theorem Pl.flatL (h : Pl cs) : AM.flatL cs = true := by
  induction cs with
  | nil => rfl
  | cons c cs ih =>
    obtain ⟨h1, h2⟩ := h.cons
    rw [AM.flatL, ih h2]
    cases c <;> simp [pl1] at h1 <;> rfl
theorem Pl.takeL (h : Pl cs) : AM.takeL q cs = (cs, [], q) := by
  induction cs generalizing q with
  | nil => rfl
  | cons c cs ih =>
    obtain ⟨h1, h2⟩ := h.cons
    rw [AM.takeL]
    have e : take1 q c = (c, [], q) := by cases c <;> simp [pl1] at h1 <;> rfl
    rw [e]
    simp only [ih q h2, List.append_nil]
theorem Pl.flat {α : Type} (f : α → List AV) (h : ∀ a, Pl (f a)) (l : List α) : Pl (l.flatMap f) := by
  intro c hc
  obtain ⟨a, _, ha⟩ := List.mem_flatMap.1 hc
  exact h a c ha
theorem Pl.wds (l : List UInt32) : Pl (AM.wds l) := by
  intro c hc
  obtain ⟨a, _, rfl⟩ := List.mem_map.1 hc
  rfl
theorem Pl.intsC (l : List Int) : Pl (AM.intsC l) := by
  intro c hc
  obtain ⟨a, _, rfl⟩ := List.mem_map.1 hc
  rfl
theorem Pl.linkC (l : List Lk) : Pl (AM.linkC l) := Pl.flat _ (fun a c hc => by
  simp only [Lk.cells, List.mem_cons, List.not_mem_nil, or_false] at hc
  rcases hc with rfl | rfl <;> rfl) l
theorem Pl.headC (l : List Hd) : Pl (AM.headC l) := Pl.flat _ (fun a c hc => by
  simp only [Hd.cells, List.mem_cons, List.not_mem_nil, or_false] at hc
  rcases hc with rfl | rfl | rfl | rfl <;> rfl) l
section
variable (l : List UInt32)
@[simp] theorem wds_refs : (AM.wds l).flatMap (AM.refs m n) = [] := (Pl.wds l).refs m n
@[simp] theorem wds_ren : (AM.wds l).map (renC ρ n) = (AM.wds l) := (Pl.wds l).ren ρ n
@[simp] theorem wds_exC : (AM.wds l).mapM (AM.exC m n) = some (AM.wds l) := (Pl.wds l).exC m n
@[simp] theorem wds_cellL : AM.cellL (AM.wds l) = true := (Pl.wds l).cellL
@[simp] theorem wds_kdL : AM.kdL (AM.wds l) = 0 := (Pl.wds l).kdL
@[simp] theorem wds_expL : AM.expL m (AM.wds l) = some ((AM.wds l), []) := (Pl.wds l).expL m
@[simp] theorem wds_flatL : AM.flatL (AM.wds l) = true := (Pl.wds l).flatL
@[simp] theorem wds_takeL : AM.takeL q (AM.wds l) = ((AM.wds l), [], q) := (Pl.wds l).takeL q
end
section
variable (l : List Int)
@[simp] theorem intsC_refs : (AM.intsC l).flatMap (AM.refs m n) = [] := (Pl.intsC l).refs m n
@[simp] theorem intsC_ren : (AM.intsC l).map (renC ρ n) = (AM.intsC l) := (Pl.intsC l).ren ρ n
@[simp] theorem intsC_exC : (AM.intsC l).mapM (AM.exC m n) = some (AM.intsC l) := (Pl.intsC l).exC m n
@[simp] theorem intsC_cellL : AM.cellL (AM.intsC l) = true := (Pl.intsC l).cellL
@[simp] theorem intsC_kdL : AM.kdL (AM.intsC l) = 0 := (Pl.intsC l).kdL
@[simp] theorem intsC_expL : AM.expL m (AM.intsC l) = some ((AM.intsC l), []) := (Pl.intsC l).expL m
@[simp] theorem intsC_flatL : AM.flatL (AM.intsC l) = true := (Pl.intsC l).flatL
@[simp] theorem intsC_takeL : AM.takeL q (AM.intsC l) = ((AM.intsC l), [], q) := (Pl.intsC l).takeL q
end
section
variable (l : List Lk)
@[simp] theorem linkC_refs : (AM.linkC l).flatMap (AM.refs m n) = [] := (Pl.linkC l).refs m n
@[simp] theorem linkC_ren : (AM.linkC l).map (renC ρ n) = (AM.linkC l) := (Pl.linkC l).ren ρ n
@[simp] theorem linkC_exC : (AM.linkC l).mapM (AM.exC m n) = some (AM.linkC l) := (Pl.linkC l).exC m n
@[simp] theorem linkC_cellL : AM.cellL (AM.linkC l) = true := (Pl.linkC l).cellL
@[simp] theorem linkC_kdL : AM.kdL (AM.linkC l) = 0 := (Pl.linkC l).kdL
@[simp] theorem linkC_expL : AM.expL m (AM.linkC l) = some ((AM.linkC l), []) := (Pl.linkC l).expL m
@[simp] theorem linkC_flatL : AM.flatL (AM.linkC l) = true := (Pl.linkC l).flatL
@[simp] theorem linkC_takeL : AM.takeL q (AM.linkC l) = ((AM.linkC l), [], q) := (Pl.linkC l).takeL q
end
section
variable (l : List Hd)
@[simp] theorem headC_refs : (AM.headC l).flatMap (AM.refs m n) = [] := (Pl.headC l).refs m n
@[simp] theorem headC_ren : (AM.headC l).map (renC ρ n) = (AM.headC l) := (Pl.headC l).ren ρ n
@[simp] theorem headC_exC : (AM.headC l).mapM (AM.exC m n) = some (AM.headC l) := (Pl.headC l).exC m n
@[simp] theorem headC_cellL : AM.cellL (AM.headC l) = true := (Pl.headC l).cellL
@[simp] theorem headC_kdL : AM.kdL (AM.headC l) = 0 := (Pl.headC l).kdL
@[simp] theorem headC_expL : AM.expL m (AM.headC l) = some ((AM.headC l), []) := (Pl.headC l).expL m
@[simp] theorem headC_flatL : AM.flatL (AM.headC l) = true := (Pl.headC l).flatL
@[simp] theorem headC_takeL : AM.takeL q (AM.headC l) = ((AM.headC l), [], q) := (Pl.headC l).takeL q
end
end
@[simp] theorem intsC_length (l : List Int) : (intsC l).length = l.length := by simp [intsC]
@[simp] theorem linkC_length (l : List Lk) : (linkC l).length = l.length * 2 := length_flat Lk.cells 2 (fun _ => rfl) l
@[simp] theorem headC_length (l : List Hd) : (headC l).length = l.length * 4 := length_flat Hd.cells 4 (fun _ => rfl) l
@[simp] theorem lsaC_length (l : List Lsa) : (lsaC l).length = l.length * 4 := length_flat Lsa.cells 4 (fun _ => rfl) l

/-- Texts that are joined. -/
theorem strA_addc {a b : List UInt8} (h : a.length + b.length ≤ 9223372036854775807) : strA .add a b = some (.str (a ++ b)) := if_pos h
theorem strA_eql (a b : List UInt8) : strA .eql a b = some (.bool (a == b)) := rfl
theorem strA_neq (a b : List UInt8) : strA .neq a b = some (.bool (!(a == b))) := rfl
theorem tmod_pos {a b : Int} (h : 0 ≤ a) : a.tmod b = a % b := Int.tmod_eq_emod_of_nonneg h
end Go.AM
