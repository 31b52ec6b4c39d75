import Derived.Test.YtahbgblkinknoaaRows
import Derived.Test.YtahbgblkinknoaaEn
/- Packets and keys, read. -/
namespace Go.AM.TryE
open Go.Proofs Go.Proofs.Ytahbgblkinknoaa Go.WideShapes Go.ChangeShapes Go.RowKit
section
variable {H : Type}
theorem bulk_one (d : DataW H) : 1 ≤ Rows.uptoBulk d := by
  cases d with
  | lit l => cases l <;> simp [Rows.uptoBulk]
  | _ => simp [Rows.uptoBulk]
theorem bulk_len : ∀ (l : List (DataW H)), l.length ≤ Rows.uptoBulkAll l
  | [] => by simp
  | d :: l => by
    have h1 := bulk_one d
    have h2 := bulk_len l
    simp only [Rows.uptoBulkAll, List.length_cons]
    omega
theorem bulk_mem {d : DataW H} : ∀ {l : List (DataW H)}, d ∈ l → Rows.uptoBulk d ≤ Rows.uptoBulkAll l
  | [], h => by cases h
  | e :: l, h => by
    simp only [Rows.uptoBulkAll]
    rcases List.mem_cons.1 h with rfl | h
    · omega
    · have := bulk_mem h
      omega
theorem bulk_slice (es rs : List (DataW H)) : Rows.uptoBulkAll es + Rows.uptoBulkAll rs + 1 = Rows.uptoBulk (.slice es rs) := by simp only [Rows.uptoBulk]
theorem bulk_agg (es : List (DataW H)) : Rows.uptoBulkAll es + 1 = Rows.uptoBulk (.agg es) := by simp only [Rows.uptoBulk]
variable {enc : TypeId × Value → H} {w : World} {spare : Nat → Bool} {held : Bool}
noncomputable abbrev rd (enc : TypeId × Value → H) (w : World) (spare : Nat → Bool) (held : Bool) (n : Nat) (t : TypeId) (cs : List Value) := DataW.trod enc Try.prog w 0 spare held n t cs
theorem intsC_flat : ∀ l : List Int, intsC l = l.flatMap fun y => [.int .i64 y]
  | [] => rfl
  | a :: l => by
    have := intsC_flat l
    simp only [intsC, List.map_cons, List.flatMap_cons, List.cons_append, List.nil_append] at this ⊢
    rw [this]
theorem int_read {n : Nat} {cs : List Value} {x : DataW H × List MemPlace} (h : rd enc w spare held n 3 cs = some x) : ∃ y : Int, cs = [.int .i64 y] := by
  obtain ⟨y, h1, _⟩ := DataW.trod_int Try.underlying3 h
  exact ⟨y, h1⟩
theorem str_read {n : Nat} {cs : List Value} {x : DataW H × List MemPlace} (h : rd enc w spare held n 9 cs = some x) : ∃ s : List UInt8, cs = [.string ⟨s.toArray⟩] ∧ s.length + 1 = Rows.uptoBulk x.1 := by
  obtain ⟨s, h1, h2, _⟩ := DataW.trod_string Try.underlying9 h
  refine ⟨s.data.toList, by simpa using h1, ?_⟩
  rw [h2]; simp [Rows.uptoBulk]
theorem ints_read {n : Nat} {cs : List Value} {x : DataW H × List MemPlace} (h : rd enc w spare held n 22 cs = some x) :
    ∃ (v : Value) (l : List Int), cs = [v] ∧ VR w (intsV l) noLocs (There w) v ∧ l.length ≤ Rows.uptoBulk x.1 := by
  obtain ⟨v, l, h1, h2, h3⟩ := slice_read (fun y : Int => [.int .i64 y]) true 1 (fun _ _ => True) Try.underlying22 (by kernel_rfl) (by omega) (fun n cs x h => by
    obtain ⟨y, rfl⟩ := int_read h
    exact ⟨y, by simp [VRs, VR], trivial⟩) h
  refine ⟨v, l, h1, ?_, ?_⟩
  · rw [intsV, intsC_flat]; exact h2
  · rcases h3 with ⟨rfl, _⟩ | ⟨es, rs, h4, h5, _⟩
    · simp
    · rw [h4, ← bulk_slice]
      have := bulk_len es
      omega
theorem two_cells {cs : List Value} (h : cs.length = 2) : ∃ a b, cs = [a, b] := by
  match cs, h with
  | [a, b], _ => exact ⟨a, b, rfl⟩
theorem four_cells {cs : List Value} (h : cs.length = 4) : ∃ a b c d, cs = [a, b, c, d] := by
  match cs, h with
  | [a, b, c, d], _ => exact ⟨a, b, c, d, rfl⟩
theorem five_cells {cs : List Value} (h : cs.length = 5) : ∃ a b c d e, cs = [a, b, c, d, e] := by
  match cs, h with
  | [a, b, c, d, e], _ => exact ⟨a, b, c, d, e, rfl⟩
theorem six_cells {cs : List Value} (h : cs.length = 6) : ∃ a b c d e f, cs = [a, b, c, d, e, f] := by
  match cs, h with
  | [a, b, c, d, e, f], _ => exact ⟨a, b, c, d, e, f, rfl⟩
theorem link_read {n : Nat} {cs : List Value} {x : DataW H × List MemPlace} (h : rd enc w spare held n 103 cs = some x) :
    ∃ y : Lk, VRs w y.cells noLocs noImm cs := by
  obtain ⟨xs, m, rfl, rfl, h1, h2, h3⟩ := DataW.trod_struct Try.underlying103 h
  rw [show Try.prog.cellsOf 103 = 2 from by kernel_rfl] at h1
  obtain ⟨a, b, rfl⟩ := two_cells h1
  have h2' : xs.length = 2 := h2
  have f0 := h3 0 _ rfl
  have f1 := h3 1 _ rfl
  rw [List.getElem?_eq_getElem (by omega)] at f0 f1
  obtain ⟨i, e0⟩ := int_read (n := m) (cs := [a]) (by simpa [rd, show Try.prog.cellsOf 3 = 1 from by kernel_rfl] using f0)
  obtain ⟨j, e1⟩ := int_read (n := m) (cs := [b]) (by simpa [rd, show Try.prog.cellsOf 3 = 1 from by kernel_rfl] using f1)
  injection e0 with e0; injection e1 with e1; subst e0; subst e1
  exact ⟨⟨i, j⟩, by simp [Lk.cells, VRs, VR]⟩
theorem links_read {n : Nat} {cs : List Value} {x : DataW H × List MemPlace} (h : rd enc w spare held n 83 cs = some x) :
    ∃ (v : Value) (l : List Lk), cs = [v] ∧ VR w (linkV l) noLocs (There w) v ∧ l.length ≤ Rows.uptoBulk x.1 := by
  obtain ⟨v, l, h1, h2, h3⟩ := slice_read Lk.cells true 2 (fun _ _ => True) Try.underlying83 (by kernel_rfl) (by omega) (fun n cs x h => by
    obtain ⟨y, hy⟩ := link_read h
    exact ⟨y, hy, trivial⟩) h
  refine ⟨v, l, h1, h2, ?_⟩
  rcases h3 with ⟨rfl, _⟩ | ⟨es, rs, h4, h5, _⟩
  · simp
  · rw [h4, ← bulk_slice]
    have := bulk_len es
    omega
theorem lsa_read {n : Nat} {cs : List Value} {x : DataW H × List MemPlace} (h : rd enc w spare held n 85 cs = some x) :
    ∃ y : Lsa, VRs w y.cells noLocs (There w) cs ∧ y.links.length ≤ Rows.uptoBulk x.1 := by
  obtain ⟨xs, m, rfl, rfl, h1, h2, h3⟩ := DataW.trod_struct Try.underlying85 h
  rw [show Try.prog.cellsOf 85 = 4 from by kernel_rfl] at h1
  obtain ⟨a, b, c, d, rfl⟩ := four_cells h1
  have h2' : xs.length = 4 := h2
  have f0 := h3 0 _ rfl
  have f1 := h3 1 _ rfl
  have f2 := h3 2 _ rfl
  have f3 := h3 3 _ rfl
  rw [List.getElem?_eq_getElem (by omega)] at f0 f1 f2 f3
  obtain ⟨i, e0⟩ := int_read (n := m) (cs := [a]) (by simpa [rd, show Try.prog.cellsOf 3 = 1 from by kernel_rfl] using f0)
  obtain ⟨j, e1⟩ := int_read (n := m) (cs := [b]) (by simpa [rd, show Try.prog.cellsOf 3 = 1 from by kernel_rfl] using f1)
  obtain ⟨k, e2⟩ := int_read (n := m) (cs := [c]) (by simpa [rd, show Try.prog.cellsOf 3 = 1 from by kernel_rfl] using f2)
  obtain ⟨v, l, e3, hv, hl⟩ := links_read (n := m) (cs := [d]) (by simpa [rd, show Try.prog.cellsOf 83 = 1 from by kernel_rfl] using f3)
  injection e0 with e0; injection e1 with e1; injection e2 with e2; injection e3 with e3; subst e0; subst e1; subst e2; subst e3
  refine ⟨⟨i, j, k, l⟩, ?_, ?_⟩
  · refine VRs.cons (by simp [VR]) (VRs.cons (by simp [VR]) (VRs.cons (by simp [VR]) (VRs.cons hv VRs.nil)))
  · simp only [← bulk_agg]
    have : Rows.uptoBulk (xs[3]'(by omega)).1 ≤ Rows.uptoBulkAll (xs.map (·.1)) := bulk_mem (List.mem_map.2 ⟨_, List.getElem_mem _, rfl⟩)
    omega
theorem lsas_read {n : Nat} {cs : List Value} {x : DataW H × List MemPlace} (h : rd enc w spare held n 23 cs = some x) :
    ∃ (v : Value) (l : List Lsa), cs = [v] ∧ VR w (lsaV l) noLocs (There w) v ∧ l.length ≤ Rows.uptoBulk x.1 ∧ ∀ a ∈ l, a.links.length ≤ Rows.uptoBulk x.1 := by
  obtain ⟨v, l, h1, h2, h3⟩ := slice_read Lsa.cells false 4 (fun y d => y.links.length ≤ Rows.uptoBulk d) Try.underlying23 (by kernel_rfl) (by omega) (fun n cs x h => by
    obtain ⟨y, hy, hz⟩ := lsa_read h
    exact ⟨y, hy, hz⟩) h
  refine ⟨v, l, h1, h2, ?_⟩
  rcases h3 with ⟨rfl, _⟩ | ⟨es, rs, h4, h5, h6⟩
  · simp
  · rw [h4, ← bulk_slice]
    have := bulk_len es
    refine ⟨by omega, fun a ha => ?_⟩
    obtain ⟨i, hi, rfl⟩ := List.mem_iff_getElem.1 ha
    have h7 := h6 i hi (by omega)
    have h8 := bulk_mem (List.getElem_mem (l := es) (n := i) (by omega))
    omega
theorem head_read {n : Nat} {cs : List Value} {x : DataW H × List MemPlace} (h : rd enc w spare held n 89 cs = some x) :
    ∃ y : Hd, VRs w y.cells noLocs noImm cs := by
  obtain ⟨xs, m, rfl, rfl, h1, h2, h3⟩ := DataW.trod_struct Try.underlying89 h
  rw [show Try.prog.cellsOf 89 = 4 from by kernel_rfl] at h1
  obtain ⟨a, b, c, d, rfl⟩ := four_cells h1
  have h2' : xs.length = 4 := h2
  have f0 := h3 0 _ rfl
  have f1 := h3 1 _ rfl
  have f2 := h3 2 _ rfl
  have f3 := h3 3 _ rfl
  rw [List.getElem?_eq_getElem (by omega)] at f0 f1 f2 f3
  obtain ⟨i, e0⟩ := int_read (n := m) (cs := [a]) (by simpa [rd, show Try.prog.cellsOf 3 = 1 from by kernel_rfl] using f0)
  obtain ⟨j, e1⟩ := int_read (n := m) (cs := [b]) (by simpa [rd, show Try.prog.cellsOf 3 = 1 from by kernel_rfl] using f1)
  obtain ⟨k, e2⟩ := int_read (n := m) (cs := [c]) (by simpa [rd, show Try.prog.cellsOf 3 = 1 from by kernel_rfl] using f2)
  obtain ⟨l, e3⟩ := int_read (n := m) (cs := [d]) (by simpa [rd, show Try.prog.cellsOf 3 = 1 from by kernel_rfl] using f3)
  injection e0 with e0; injection e1 with e1; injection e2 with e2; injection e3 with e3; subst e0; subst e1; subst e2; subst e3
  exact ⟨⟨i, j, k, l⟩, by simp [Hd.cells, VRs, VR]⟩
theorem heads_read {n : Nat} {cs : List Value} {x : DataW H × List MemPlace} (h : rd enc w spare held n 24 cs = some x) :
    ∃ (v : Value) (l : List Hd), cs = [v] ∧ VR w (headV l) noLocs (There w) v ∧ l.length ≤ Rows.uptoBulk x.1 := by
  obtain ⟨v, l, h1, h2, h3⟩ := slice_read Hd.cells true 4 (fun _ _ => True) Try.underlying24 (by kernel_rfl) (by omega) (fun n cs x h => by
    obtain ⟨y, hy⟩ := head_read h
    exact ⟨y, hy, trivial⟩) h
  refine ⟨v, l, h1, h2, ?_⟩
  rcases h3 with ⟨rfl, _⟩ | ⟨es, rs, h4, h5, _⟩
  · simp
  · rw [h4, ← bulk_slice]
    have := bulk_len es
    omega
theorem pk_read {v : Value} {d : DataW H} {ps : List MemPlace} (hv : ∃ cs, v = .agg cs ∧ cs.size = Try.prog.cellsOf 26) (h : DataW.Trod enc Try.prog w 0 spare held 26 v d ps) :
    ∃ (t r : Int) (l : List Int) (m : List Lsa) (n : List Hd), VR w (.agg [.int .i64 t, .int .i64 r, intsV l, lsaV m, headV n]) noLocs (There w) v ∧
      l.length ≤ Rows.uptoBulk d ∧ m.length ≤ Rows.uptoBulk d ∧ n.length ≤ Rows.uptoBulk d ∧ ∀ a ∈ m, a.links.length ≤ Rows.uptoBulk d := by
  obtain ⟨fuel, h⟩ := h
  obtain ⟨cs, rfl, hcs⟩ := hv
  obtain ⟨xs, m, _, hd, h1, h2, h3⟩ := DataW.trod_struct Try.underlying26 h
  rw [show Try.prog.cellsOf 26 = 5 from by kernel_rfl] at h1
  obtain ⟨a, b, c, e, f, hcells⟩ := five_cells h1
  have h2' : xs.length = 5 := h2
  have f0 := h3 0 _ rfl
  have f1 := h3 1 _ rfl
  have f2 := h3 2 _ rfl
  have f3 := h3 3 _ rfl
  have f4 := h3 4 _ rfl
  rw [hcells] at f0 f1 f2 f3 f4
  rw [List.getElem?_eq_getElem (by omega)] at f0 f1 f2 f3 f4
  obtain ⟨t, e0⟩ := int_read (n := m) (cs := [a]) (by simpa [rd, show Try.prog.cellsOf 3 = 1 from by kernel_rfl] using f0)
  obtain ⟨r, e1⟩ := int_read (n := m) (cs := [b]) (by simpa [rd, show Try.prog.cellsOf 3 = 1 from by kernel_rfl] using f1)
  obtain ⟨v2, l, e2, hv2, hl2⟩ := ints_read (n := m) (cs := [c]) (by simpa [rd, show Try.prog.cellsOf 22 = 1 from by kernel_rfl] using f2)
  obtain ⟨v3, m3, e3, hv3, hl3, hs3⟩ := lsas_read (n := m) (cs := [e]) (by simpa [rd, show Try.prog.cellsOf 23 = 1 from by kernel_rfl] using f3)
  obtain ⟨v4, n4, e4, hv4, hl4⟩ := heads_read (n := m) (cs := [f]) (by simpa [rd, show Try.prog.cellsOf 24 = 1 from by kernel_rfl] using f4)
  injection e0 with e0; injection e1 with e1; injection e2 with e2; injection e3 with e3; injection e4 with e4
  subst e0; subst e1; subst e2; subst e3; subst e4
  injection hd with hd _
  subst hd
  have hb : ∀ i (hi : i < xs.length), Rows.uptoBulk (xs[i]).1 ≤ Rows.uptoBulk (DataW.agg (xs.map (·.1))) := fun i hi => by
    rw [← bulk_agg]
    have : Rows.uptoBulk (xs[i]).1 ≤ Rows.uptoBulkAll (xs.map (·.1)) := bulk_mem (List.mem_map.2 ⟨_, List.getElem_mem _, rfl⟩)
    omega
  have b2 := hb 2 (by omega)
  have b3 := hb 3 (by omega)
  have b4 := hb 4 (by omega)
  refine ⟨t, r, l, m3, n4, ?_, by omega, by omega, by omega, fun x hx => Nat.le_trans (hs3 x hx) (by omega)⟩
  simp only [VR]
  refine ⟨cs.toList, by simp, ?_⟩
  have hc : cs.toList = [.int .i64 t, .int .i64 r, c, e, f] := hcells
  rw [hc]
  exact VRs.cons (by simp [VR]) (VRs.cons (by simp [VR]) (VRs.cons hv2 (VRs.cons hv3 (VRs.cons hv4 VRs.nil))))
theorem key_read {v : Value} {d : DataW H} {ps : List MemPlace} (hv : ∃ cs, v = .agg cs ∧ cs.size = Try.prog.cellsOf 28) (h : DataW.Trod enc Try.prog w 0 spare held 28 v d ps) :
    ∃ (ka : Int) (ks : List UInt8) (kb kc kd ke : Int), VR w (.agg [.int .i64 ka, .str ks, .int .i64 kb, .int .i64 kc, .int .i64 kd, .int .i64 ke]) noLocs (There w) v := by
  obtain ⟨fuel, h⟩ := h
  obtain ⟨cs, rfl, hcs⟩ := hv
  obtain ⟨xs, m, _, hd, h1, h2, h3⟩ := DataW.trod_struct Try.underlying28 h
  rw [show Try.prog.cellsOf 28 = 6 from by kernel_rfl] at h1
  obtain ⟨a, b, c, e, f, g, hcells⟩ := six_cells h1
  have h2' : xs.length = 6 := h2
  have f0 := h3 0 _ rfl
  have f1 := h3 1 _ rfl
  have f2 := h3 2 _ rfl
  have f3 := h3 3 _ rfl
  have f4 := h3 4 _ rfl
  have f5 := h3 5 _ rfl
  rw [hcells] at f0 f1 f2 f3 f4 f5
  rw [List.getElem?_eq_getElem (by omega)] at f0 f1 f2 f3 f4 f5
  obtain ⟨k0, e0⟩ := int_read (n := m) (cs := [a]) (by simpa [rd, show Try.prog.cellsOf 3 = 1 from by kernel_rfl] using f0)
  obtain ⟨k1, e1, _⟩ := str_read (n := m) (cs := [b]) (by simpa [rd, show Try.prog.cellsOf 9 = 1 from by kernel_rfl] using f1)
  obtain ⟨k2, e2⟩ := int_read (n := m) (cs := [c]) (by simpa [rd, show Try.prog.cellsOf 3 = 1 from by kernel_rfl] using f2)
  obtain ⟨k3, e3⟩ := int_read (n := m) (cs := [e]) (by simpa [rd, show Try.prog.cellsOf 3 = 1 from by kernel_rfl] using f3)
  obtain ⟨k4, e4⟩ := int_read (n := m) (cs := [f]) (by simpa [rd, show Try.prog.cellsOf 3 = 1 from by kernel_rfl] using f4)
  obtain ⟨k5, e5⟩ := int_read (n := m) (cs := [g]) (by simpa [rd, show Try.prog.cellsOf 3 = 1 from by kernel_rfl] using f5)
  injection e0 with e0; injection e1 with e1; injection e2 with e2; injection e3 with e3; injection e4 with e4; injection e5 with e5
  subst e0; subst e1; subst e2; subst e3; subst e4; subst e5
  refine ⟨k0, k1, k2, k3, k4, k5, ?_⟩
  simp only [VR]
  refine ⟨cs.toList, by simp, ?_⟩
  have hc : cs.toList = [.int .i64 k0, .string ⟨k1.toArray⟩, .int .i64 k2, .int .i64 k3, .int .i64 k4, .int .i64 k5] := hcells
  rw [hc]
  simp [VRs, VR]
end
end Go.AM.TryE

