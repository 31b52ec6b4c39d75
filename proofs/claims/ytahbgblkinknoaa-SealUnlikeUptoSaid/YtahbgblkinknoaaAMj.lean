/- The abstract machine, part 10: every quiet operation. -/
import Derived.Test.YtahbgblkinknoaaAMi
import Derived.Laws.AppendOwn
import Derived.Laws.BitsLemmas
set_option linter.unusedVariables false
set_option linter.unusedSimpArgs false
set_option linter.unnecessarySimpa false
namespace Go.AM
section
variable {P : Program} {T : Tab} {M0 A : Nat → Prop} {w0 w : World} {μ : Locs} {I : Nat → Prop} {m mv : List (Nat × Blk)} {q : Nat} {o : Oper} {a : Act} {t : List AV} {call : Nat → List AV → Option AV}

theorem kμ2 (μ : Locs) : kμ 2 μ = μ := by unfold kμ; simp
theorem kI2 (I : Nat → Prop) : kI 2 I = I := by unfold kI; simp

/-- An operation that only reads. -/
theorem Upon.pure {s : Sem Value} (hS : SR M0 A w0 w μ I m) {v : AV} (he : execOp a.eval o = (do pure (.value (← s)))) (h : ∃ y, s.run P w = .ok y w ∧ VR w v μ I y) :
    Upon P (QK M0 A w0 w μ I m q v []) ((execOp a.eval o).run P w) := by
  obtain ⟨y, hy, hv⟩ := h
  rw [he]
  simp only [Sem.run_bind, hy, Result.andThen_ok, Sem.run_pure]
  exact QK.same hS hv

theorem move_ok (hS : SR M0 A w0 w μ I m) (hq : ∀ b, q ≤ b → b < q + 16 → μ b = none) (ht : VRs w t μ I a.tmps.toList) {x : Operand} {v : AV} {adds : List (Nat × Blk)}
    (he : execOp a.eval o = pure (.value (a.eval x)))
    (h : (match ev t x with
      | .snil => match T.u o.type with
        | some (.slice e) => (T.z e).map fun z => (.ref q 0 0 z.1.length, [(q, ⟨[], 0, false⟩)])
        | _ => some (.snil, [])
      | v => some (v, []) : Option (AV × List (Nat × Blk))) = some (v, adds)) : Upon P (QK M0 A w0 w μ I m q v adds) ((execOp a.eval o).run P w) := by
  have hx := VR.ev ht x
  rw [he]
  simp only [Sem.run_pure]
  show QK M0 A w0 w μ I m q v adds (a.eval x) w
  split at h
  · rename_i hs
    rw [hs] at hx
    simp only [VR] at hx
    split at h
    · rename_i e hu
      simp only [Option.map_eq_some_iff, Prod.mk.injEq] at h
      obtain ⟨z, hz, h1, h2⟩ := h
      subst h1; subst h2
      have hqn := hq q (Nat.le_refl _) (by omega)
      have S : Stays μ (setLoc μ q ⟨0, 0, 0, true⟩) I I w w := setLoc_stays _ hqn (Keep.refl _ _) hS.immLt
      refine ⟨setLoc μ q ⟨0, 0, 0, true⟩, I, S, ⟨fun b B hb => ?_, fun b b' B B' l l' hb hb' hne hfz hl hl' hn hn' => ?_, hS.immLt, hS.immA, hS.immN, hS.keep⟩, fun b hb => setLoc_ne _ _ (by omega), ?_⟩
      · rw [look_append] at hb
        split at hb
        · rename_i B' hB
          injection hb with hb; subst hb
          obtain ⟨l, hl, hBO⟩ := hS.blks b _ hB
          refine ⟨l, S.loc _ _ hl, ?_⟩
          rcases hBO with h1 | ⟨h1, h2, h3, h4⟩
          · exact .inl h1
          · exact .inr ⟨h1, h2.stays S rfl, h3, h4⟩
        · simp only [look] at hb
          split at hb
          · rename_i e'
            injection hb with hb; subst hb
            have : b = q := by simpa using (beq_iff_eq.1 e').symm
            subst this
            exact ⟨_, setLoc_self _ _ _, .inl ⟨rfl, rfl⟩⟩
          · cases hb
      · have key : ∀ b B l, look (m ++ [(q, (⟨[], 0, false⟩ : Blk))]) b = some B → setLoc μ q ⟨0, 0, 0, true⟩ b = some l → l.isNil = false → look m b = some B ∧ μ b = some l := by
          intro b B l hb hl hn
          by_cases e' : b = q
          · subst e'; rw [setLoc_self] at hl; injection hl with hl; subst hl; cases hn
          · rw [setLoc_ne _ _ e'] at hl
            rw [look_append] at hb
            split at hb
            · rename_i B' hB; injection hb with hb; subst hb; exact ⟨hB, hl⟩
            · simp only [look] at hb
              split at hb
              · rename_i e''; exact absurd (by simpa using (beq_iff_eq.1 e'').symm) e'
              · cases hb
        obtain ⟨h1, h2⟩ := key b B l hb hl hn
        obtain ⟨h3, h4⟩ := key b' B' l' hb' hl' hn'
        exact hS.inj b b' B B' l l' h1 h3 hne hfz h2 h4 hn hn'
      · simp only [VR]
        exact ⟨_, setLoc_self _ _ _, .inl ⟨rfl, hx, by simp, by simp⟩⟩
    · injection h with h; injection h with h1 h2; subst h1; subst h2
      exact QK.same hS (by simpa only [VR] using hx)
  · injection h with h; injection h with h1 h2; subst h1; subst h2
    exact QK.same hS hx

theorem new_row {e : Nat} {w : World} {C : Array Value} : (newRow e C).run P w = .ok ⟨w.heap.size, 0, none⟩ (w.alloc (.cells C e)) := by
  simp [newRow]
theorem alloc_at (w : World) (o : Obj) : (w.alloc o).heap[w.heap.size]? = some o := by
  show (w.heap.push o)[w.heap.size]? = some o
  simp

theorem replicate_cells {z : List AV} {zv : List Value} (h : VRs w z μ I zv) : ∀ n, VRs w (List.replicate n z).flatten μ I (List.replicate n zv).flatten
  | 0 => by simp [VRs]
  | n + 1 => by simp only [List.replicate_succ, List.flatten_cons]; exact h.append (replicate_cells h n)
theorem range_map_mod (zv : Array Value) (n : Nat) : ((Array.range (n * zv.size)).map (zv[· % zv.size]!)).toList = (List.replicate n zv.toList).flatten := by
  apply List.ext_getElem?
  intro j
  simp only [Array.toList_map, Array.toList_range, List.getElem?_map]
  by_cases hj : j < n * zv.size
  · have hpos : 0 < zv.size := by
      rcases Nat.eq_zero_or_pos zv.size with h | h
      · rw [h] at hj; omega
      · exact h
    have hmod : j % zv.size < zv.size := Nat.mod_lt _ hpos
    rw [List.getElem?_range hj]
    simp only [Option.map_some]
    have key : ∀ n j, j < n * zv.size → (List.replicate n zv.toList).flatten[j]? = zv[j % zv.size]? := by
      intro n
      induction n with
      | zero => intro j hj; omega
      | succ n ih =>
        intro j hj
        rw [List.replicate_succ, List.flatten_cons, List.getElem?_append]
        split
        · rename_i h
          simp only [Array.length_toList] at h
          rw [Nat.mod_eq_of_lt h]; simp
        · rename_i h
          simp only [Array.length_toList] at h ⊢
          rw [ih (j - zv.size) (by rw [Nat.add_mul] at hj; omega)]
          congr 1
          exact (Nat.mod_eq_sub_mod (Nat.le_of_not_lt h)).symm
    rw [key n j hj]
    simp [hmod]
  · rw [List.getElem?_eq_none (by simp; omega), List.getElem?_eq_none (by simp; omega)]
    rfl

theorem Keep.bytesWorld (w : World) (e : TypeId) (s : ByteArray) : Keep noImm w (Lib.bytesWorld w e s) :=
  ⟨rfl, rfl, rfl, by rw [Lib.bytesWorld_size]; omega, fun k hk _ => Lib.bytesWorld_at_old w e s k hk⟩

theorem convA_ok (TO : TabOK P T) (hS : SR M0 A w0 w μ I m) (hsub : ∀ b B, look mv b = some B → look m b = some B) (hqn : μ q = none) {src dst : Nat} {x v : AV} {xv : Value} {adds : List (Nat × Blk)}
    (h : convA T src dst mv q x = some (v, adds)) (hx : VR w x μ I xv) : ∃ y w', (convert src dst xv).run P w = .ok y w' ∧ QK M0 A w0 w μ I m q v adds y w' := by
  unfold convA at h
  split at h <;> try (cases h; done)
  · rename_i k0 k k1 n hu1 hu2
    injection h with h; injection h with h1 h2; subst h1; subst h2
    simp only [VR] at hx; subst hx
    refine ⟨.int k (k.wrap n), w, ?_, QK.same hS (by simp [VR])⟩
    simp [convert, run_und (TO.u _ _ hu1), run_und (TO.u _ _ hu2), Conv.intToInt]
  · rename_i s hu1 hu2
    injection h with h; injection h with h1 h2; subst h1; subst h2
    have hx' := hx
    simp only [VR] at hx; subst hx
    refine ⟨_, w, ?_, QK.same hS hx'⟩
    simp [convert, run_und (TO.u _ _ hu1), run_und (TO.u _ _ hu2)]
  · rename_i e s hu1 hu2
    split at h
    · rename_i hu3
      injection h with h; injection h with h1 h2; subst h1; subst h2
      simp only [VR] at hx; subst hx
      have hsz : (⟨s.toArray⟩ : ByteArray).size = s.length := by simp [ByteArray.size]
      have hcap := grownCap_ge w (⟨s.toArray⟩ : ByteArray).size 0 e
      have hC : (Lib.bytesCells w e ⟨s.toArray⟩).size = grownCap w (⟨s.toArray⟩ : ByteArray).size 0 e := by
        simp only [Lib.bytesCells, Array.size_append, Array.size_map, Array.size_replicate]
        have : (⟨s.toArray⟩ : ByteArray).data.size = (⟨s.toArray⟩ : ByteArray).size := rfl
        rw [this]; omega
      refine ⟨_, _, Lib.run_convert_string_bytes w src dst e ⟨s.toArray⟩ (TO.u _ _ hu1) (TO.u _ _ hu2) (TO.u _ _ hu3), ?_⟩
      refine QK.new (vs := s.map fun c => .int .u8 c.toNat) hS hqn (Lib.bytesWorld_at_new w e ⟨s.toArray⟩) (.inr (Nat.le_refl _)) (Keep.bytesWorld w e _) ?_ ?_ (grownCap w (⟨s.toArray⟩ : ByteArray).size 0 e) (by simp; omega) (by omega) (by intro h; omega) ?_
      · refine VRs.of_get (by simp) fun j c x hc hx => ?_
        simp only [List.getElem?_map, Option.map_eq_some_iff] at hc hx
        obtain ⟨b, hb, rfl⟩ := hc
        obtain ⟨b', hb', rfl⟩ := hx
        rw [hb] at hb'; injection hb' with hb'; subst hb'
        simp [VR]
      · intro j x hx
        simp only [List.getElem?_map, Option.map_eq_some_iff] at hx
        obtain ⟨b, hb, rfl⟩ := hx
        have hlt : j < s.length := by
          rcases Nat.lt_or_ge j s.length with h | h
          · exact h
          · rw [List.getElem?_eq_none h] at hb; cases hb
        simp only [Lib.bytesCells]
        rw [Array.getElem?_append_left (by simp; exact hlt)]
        simp [hb]
      · simp only [VR]
        exact ⟨_, setLoc_self _ _ _, .inr ⟨rfl, grownCap w (⟨s.toArray⟩ : ByteArray).size 0 e, by simp [hsz], by omega, by simp⟩⟩
    · cases h
  · rename_i e hu1 hu2
    split at h
    · rename_i hu3
      have hrun : ∀ a l c, (convert src dst (.slice a l c)).run P w = (Conv.bytesToString (.slice a l c)).run P w := by
        intro a l c
        simp [convert, run_und (TO.u _ _ hu1), run_und (TO.u _ _ hu2), run_und (TO.u _ _ hu3)]
      split at h
      · injection h with h; injection h with h1 h2; subst h1; subst h2
        simp only [VR] at hx; obtain ⟨a, rfl⟩ := hx
        refine ⟨.string ⟨#[]⟩, w, ?_, QK.same hS (by simp [VR])⟩
        rw [hrun]
        cases a with
        | none => simp [Conv.bytesToString]; rfl
        | some a => simp [Conv.bytesToString, loadCells, loadCellsFrom]; rfl
      · rename_i fl cs len
        simp only [VR] at hx
        obtain ⟨a, cap, rfl, hcap, hn, hx⟩ := hx
        split at h
        · rename_i h0
          injection h with h; injection h with h1 h2; subst h1; subst h2
          refine ⟨.string ⟨#[]⟩, w, ?_, QK.same hS (by simp [VR])⟩
          rw [hrun]
          subst h0
          cases a with
          | none => simp [Conv.bytesToString]; rfl
          | some a => simp [Conv.bytesToString, loadCells, loadCellsFrom]; rfl
        · rename_i h0
          split at h
          · rename_i hlen
            simp only [Option.map_eq_some_iff, Prod.mk.injEq] at h
            obtain ⟨s, hs, h1, h2⟩ := h
            subst h1; subst h2
            rcases hx with rfl | ⟨ad, vs, rfl, hI, hc, hv⟩
            · simp at hlen; exact absurd hlen h0
            · refine ⟨.string ⟨s.toArray⟩, w, ?_, QK.same hS (by simp [VR])⟩
              rw [hrun]; exact run_toString ad vs len cap (by rw [hv.length]; exact hlen) hc hs (hv.take len)
          · cases h
      · rename_i b off len sz
        simp only [Option.bind_eq_some_iff] at h
        obtain ⟨B, hB, h⟩ := h
        split at h
        · rename_i hlen
          simp only [Option.map_eq_some_iff, Prod.mk.injEq] at h
          obtain ⟨s, hs, h1, h2⟩ := h
          subst h1; subst h2
          obtain ⟨l, hl, hBO⟩ := hS.blks b B (hsub b B hB)
          simp only [VR] at hx
          obtain ⟨l', hl', hx⟩ := hx
          rw [hl] at hl'; injection hl' with e'; subst e'
          rcases hx with ⟨hnil, ⟨a, rfl⟩, rfl, rfl⟩ | ⟨hnil, cap, rfl, hcap, hlim⟩
          · simp [bytesOf] at hs; subst hs
            refine ⟨.string ⟨#[]⟩, w, ?_, QK.same hS (by simp [VR])⟩
            rw [hrun]
            cases a with
            | none => simp [Conv.bytesToString]; rfl
            | some a => simp [Conv.bytesToString, loadCells, loadCellsFrom]; rfl
          · have hB2 : Held w μ I B l := by
              rcases hBO with ⟨h1, _⟩ | ⟨_, h2, _⟩
              · rw [hnil] at h1; cases h1
              · exact h2
            obtain ⟨vs, hc, hvs⟩ := CellsAt.of_held hB2 off
            refine ⟨.string ⟨s.toArray⟩, w, ?_, QK.same hS (by simp [VR])⟩
            rw [hrun]; exact run_toString _ (vs.drop off) len cap (by have := (hvs.drop off).length; omega) hc hs ((hvs.drop off).take len)
        · cases h
      · cases h
    · cases h

theorem qop_ok (TO : TabOK P T) (CO : CallOK P call) (hS : SR M0 A w0 w μ I m) (hsub : ∀ b B, look mv b = some B → look m b = some B)
    (hq : ∀ b, q ≤ b → b < q + 16 → μ b = none) (ht : VRs w t μ I a.tmps.toList) {v : AV} {adds : List (Nat × Blk)}
    (h : qop T call q t mv o = some (v, adds)) : Upon P (QK M0 A w0 w μ I m q v adds) ((execOp a.eval o).run P w) := by
  have hqn := hq q (Nat.le_refl _) (by omega)
  have hpure : ∀ {s : Sem Value} {r : Option AV}, execOp a.eval o = (do pure (.value (← s))) → r.map (fun x => (x, ([] : List (Nat × Blk)))) = some (v, adds) →
      (∀ v', r = some v' → ∃ y, s.run P w = .ok y w ∧ VR w v' μ I y) → Upon P (QK M0 A w0 w μ I m q v adds) ((execOp a.eval o).run P w) := by
    intro s r he hr hy
    simp only [Option.map_eq_some_iff, Prod.mk.injEq] at hr
    obtain ⟨v', rfl, rfl, rfl⟩ := hr
    exact Upon.pure hS he (hy _ rfl)
  have ho := o.op
  unfold qop at h
  split at h <;> rename_i heq
  · exact move_ok hS hq ht (by unfold execOp; rw [heq]) h
  · exact move_ok hS hq ht (by unfold execOp; rw [heq]) h
  · rename_i c x y
    have hc := VR.ev ht c
    split at h
    · rename_i b hb
      rw [hb] at hc; simp only [VR] at hc
      injection h with h; injection h with h1 h2; subst h1; subst h2
      have : (execOp a.eval o).run P w = .ok (.value (if b then a.eval x else a.eval y)) w := by
        unfold execOp; rw [heq]; simp [hc, asBool]
      rw [this]
      refine QK.same hS ?_
      cases b
      · exact VR.ev ht y
      · exact VR.ev ht x
    · cases h
  · exact hpure (by unfold execOp; rw [heq]) h fun v' hv' => loadA_ok TO hS hsub hv' (VR.ev ht _)
  · rename_i x
    have hx := VR.ev ht x
    split at h
    · rename_i b off hb
      injection h with h; injection h with h1 h2; subst h1; subst h2
      rw [hb] at hx
      have hx' := hx
      simp only [VR] at hx
      obtain ⟨l, _, _, hx⟩ := hx
      have : (execOp a.eval o).run P w = .ok (.value (a.eval x)) w := by
        unfold execOp; rw [heq]; simp [hx]
      rw [this]
      exact QK.same hS hx'
    · rename_i cs hb
      injection h with h; injection h with h1 h2; subst h1; subst h2
      rw [hb] at hx
      have hx' := hx
      simp only [VR] at hx
      obtain ⟨ad, hx, _⟩ := hx
      have : (execOp a.eval o).run P w = .ok (.value (a.eval x)) w := by
        unfold execOp; rw [heq]; simp [hx]
      rw [this]
      exact QK.same hS hx'
    · rename_i f cs hb
      injection h with h; injection h with h1 h2; subst h1; subst h2
      rw [hb] at hx
      have hx' := hx
      simp only [VR] at hx
      obtain ⟨vs, hx, _⟩ := hx
      have : (execOp a.eval o).run P w = .ok (.value (a.eval x)) w := by
        unfold execOp; rw [heq]; simp [hx]
      rw [this]
      exact QK.same hS hx'
    · cases h
  · rename_i op ty x y yt
    exact hpure (s := do eqGuard op ty x y (a.eval x) (a.eval y); binOp op ty (a.eval x) (a.eval y)) (by unfold execOp; rw [heq]) h fun v' hv' => binA_ok TO hv' (VR.ev ht _) (VR.ev ht _)
  · exact hpure (by unfold execOp; rw [heq]) h fun v' hv' => unA_ok hv' (VR.ev ht _)
  · rename_i src dst x
    obtain ⟨y, w', hy, hk⟩ := convA_ok TO hS hsub hqn h (VR.ev ht x)
    have : (execOp a.eval o).run P w = .ok (.value y) w' := by
      unfold execOp; rw [heq]; simp [hy]
    rw [this]
    exact hk
  · rename_i ty
    simp only [Option.map_eq_some_iff, Prod.mk.injEq] at h
    obtain ⟨⟨z, by_⟩, hz, h1, h2⟩ := h
    subst h1; subst h2
    obtain ⟨zv, hzr, hzv, hzc, hzs⟩ := zero_cells TO hz
    have : (execOp a.eval o).run P w = .ok (.value (.pointer (some ⟨w.heap.size, 0, none⟩))) (w.alloc (.cells zv.cells ty)) := by
      unfold execOp; rw [heq]; simp [Instr.alloc, hzr, newVar, newRow]
    rw [this]
    exact QK.new (vs := zv.cells.toList) hS hqn (alloc_at _ _) (.inl rfl) (Keep.alloc _ _) ((hzv w).flat_to _ _) (fun j x hx => by simpa using hx) z.length (Nat.le_refl _) (by omega) (fun _ => rfl)
      (by simp only [VR]; exact ⟨_, setLoc_self _ _ _, rfl, by simp⟩)
  · rename_i ty x
    split at h
    · rename_i z by_ cs hz hcs
      split at h
      · rename_i hlen
        injection h with h; injection h with h1 h2; subst h1; subst h2
        obtain ⟨hv, hc⟩ := cellsOf_ok hcs (VR.ev ht x)
        have : (execOp a.eval o).run P w = .ok (.value (.pointer (some ⟨w.heap.size, 0, none⟩))) (w.alloc (.cells (a.eval x).cells ty)) := by
          unfold execOp; rw [heq]; simp [Instr.box, newVar, newRow]
        rw [this]
        have hl := hv.length
        simp only [Array.length_toList] at hl
        exact QK.new (vs := (a.eval x).cells.toList) hS hqn (alloc_at _ _) (.inl rfl) (Keep.alloc _ _) (by rw [kμ2, kI2]; exact hv) (fun j x hx => by simpa using hx) cs.length (Nat.le_refl _) (by omega) (fun _ => rfl)
          (by simp only [VR]; exact ⟨_, setLoc_self _ _ _, rfl, by simp⟩)
      · cases h
    · cases h
  · exact hpure (by unfold execOp; rw [heq]) h fun v' hv' => buildA_ok TO ht hv'
  · rename_i ty len ps
    split at h
    · rename_i e hu
      split at h
      · rename_i z by_ hz
        split at h
        · rename_i hlen
          simp only [Option.map_eq_some_iff, Prod.mk.injEq] at h
          obtain ⟨cs, hcs, h1, h2⟩ := h
          subst h1; subst h2
          obtain ⟨zv, hzr, hzv, hzc, hzs⟩ := zero_cells TO hz
          have hrep : ∀ n, cellL (List.replicate n z).flatten = true := by
            intro n
            induction n with
            | zero => rfl
            | succ n ih => rw [List.replicate_succ, List.flatten_cons]; exact cellL_append hzc ih
          have hcells : (zz : Array Value) → (zz = if len * z.length = 0 then #[] else zv.cells) → ((Array.range (len * z.length)).map (zz[· % zz.size]!)).toList = (List.replicate len zv.cells.toList).flatten := by
            intro zz hzz
            split at hzz
            · rename_i h0
              subst hzz
              rw [h0]
              have : (List.replicate len zv.cells.toList).flatten = [] := by
                rw [List.eq_nil_iff_length_eq_zero]
                simp [hzs, h0]
              simp [this]
            · subst hzz
              rw [← hzs]; exact range_map_mod _ _
          obtain ⟨cs', hf, hv', hc'⟩ := fill_ok (w := w) (μ := μ) (I := I) _ (ps.map fun (i, x) => (i, a.eval x)).toList _ cs ((Array.range (len * z.length)).map ((if len * z.length = 0 then #[] else zv.cells : Array Value)[· % (if len * z.length = 0 then #[] else zv.cells : Array Value).size]!)) (by rw [hcells _ rfl]; exact replicate_cells ((hzv w).flat_to μ I) len) (hrep len) hcs (by simp) (evparts ht ps)
          have hl := hv'.length
          simp only [Array.length_toList] at hl
          have hcsl : cs.length = len * z.length := by
            have key : ∀ (ps : List (Nat × AV)) (cells out : List AV) pl, fillA pl cells ps = some out → out.length = cells.length := by
              intro ps
              induction ps with
              | nil => intro cells out pl h; simp [fillA] at h; subst h; rfl
              | cons p ps ih =>
                intro cells out pl h
                obtain ⟨i, p⟩ := p
                simp only [fillA] at h
                split at h
                · split at h
                  · rename_i hb
                    rw [ih _ _ _ h]
                    simp; omega
                  · cases h
                · cases h
            rw [key _ _ _ _ hcs]; simp
          have : (execOp a.eval o).run P w = .ok (.value (.slice (some ⟨w.heap.size, 0, none⟩) len len)) (w.alloc (.cells cs' e)) := by
            unfold execOp; rw [heq]
            have h24 : ¬ (len * z.length > 2 ^ 24) := by omega
            have hf' : Instr.fill (fun i => some (i * z.length, z.length)) ((Array.range (len * z.length)).map ((if len * z.length = 0 then #[] else zv.cells : Array Value)[· % (if len * z.length = 0 then #[] else zv.cells : Array Value).size]!)) (Array.map (fun x => (x.fst, a.eval x.snd)) ps).toList = some cs' := hf
            by_cases h0 : len * z.length = 0
            · simp only [h0, if_true] at hf'
              simp only [Instr.buildSlice, Sem.run_bind, run_und (TO.u _ _ hu), TO.size hz, Result.andThen_ok, Sem.run_pure, h0, if_true, if_neg (show ¬ (0 > 2 ^ 24) by decide)]
              rw [hf']
              simp [newRow]
            · simp only [h0, if_false] at hf'
              simp only [Instr.buildSlice, Sem.run_bind, run_und (TO.u _ _ hu), TO.size hz, Result.andThen_ok, if_neg h24, Sem.run_pure, h0, if_false, hzr]
              rw [hf']
              simp [newRow]
          rw [this]
          exact QK.new (vs := cs'.toList) hS hqn (alloc_at _ _) (.inl rfl) (Keep.alloc _ _) (kL_ok hv') (fun j x hx => by simpa using hx) cs.length (Nat.le_refl _) (by omega) (fun _ => rfl)
            (by simp only [VR]; exact ⟨_, setLoc_self _ _ _, .inr ⟨rfl, len, by simp, Nat.le_refl _, by simp [hcsl]⟩⟩)
        · cases h
      · cases h
    · cases h
  · rename_i ty n c
    have hn := VR.ev ht n
    have hc := VR.ev ht c
    split at h
    · rename_i e n' c' hu h1 h2
      rw [h1] at hn; rw [h2] at hc
      simp only [VR] at hn hc
      split at h
      · rename_i z by_ hz
        split at h
        · rename_i hb
          obtain ⟨rfl, hb1, hb2, hb3⟩ := hb
          injection h with h; injection h with e1 e2; subst e1; subst e2
          obtain ⟨zv, hzr, hzv, hzc, hzs⟩ := zero_cells TO hz
          obtain ⟨i, zv', hi, _, hsz, hby, _⟩ := TO.z _ _ _ hz
          have hw : IntKind.i64.wrap n' = n' := by rw [IntKind.wrap_i64]; omega
          have hbig : (by_ : Int) * n' ≤ 1000000000000 := by
            have : by_ * n'.toNat ≤ 1000 * 1000000000 := Nat.mul_le_mul hb3 (by omega)
            have e : ((by_ * n'.toNat : Nat) : Int) = (by_ : Int) * n' := by
              rw [Int.natCast_mul]; congr 1; omega
            omega
          have hcells : (zz : Array Value) → (zz = if n'.toNat * z.length = 0 then #[] else zv.cells) → ((Array.range (n'.toNat * z.length)).map (zz[· % zz.size]!)).toList = (List.replicate n'.toNat zv.cells.toList).flatten := by
            intro zz hzz
            split at hzz
            · rename_i h0
              subst hzz
              rw [h0]
              have : (List.replicate n'.toNat zv.cells.toList).flatten = [] := by
                rw [List.eq_nil_iff_length_eq_zero]
                simp [hzs, h0]
              simp [this]
            · subst hzz
              rw [← hzs]; exact range_map_mod _ _
          have hr : ∃ C : Array Value, (execOp a.eval o).run P w = .ok (.value (.slice (some ⟨w.heap.size, 0, none⟩) n'.toNat n'.toNat)) (w.alloc (.cells C e)) ∧ C.toList = (List.replicate n'.toNat zv.cells.toList).flatten := by
            refine ⟨(Array.range (n'.toNat * z.length)).map ((if n'.toNat * z.length = 0 then #[] else zv.cells : Array Value)[· % (if n'.toNat * z.length = 0 then #[] else zv.cells : Array Value).size]!), ?_, hcells _ rfl⟩
            unfold execOp; rw [heq]
            have t1 : ¬ (n' < 0 ∨ 281474976710656 < (i.bytes : Int) * n') := by rw [hby]; omega
            have t2 : ¬ n' < 0 := by omega
            have t3 : ¬ (281474976710656 < (i.bytes : Int) * n') := fun hh => t1 (.inr hh)
            by_cases h0 : n'.toNat * z.length = 0
            · simp [Instr.makeSlice, run_und (TO.u _ _ hu), hn, hc, asInt, asIntOf, run_tinfo hi, hw, t1, t2, t3, TO.size hz, h0, newRow]
            · simp [Instr.makeSlice, run_und (TO.u _ _ hu), hn, hc, asInt, asIntOf, run_tinfo hi, hw, t1, t2, t3, TO.size hz, h0, hzr, newRow]
          obtain ⟨C, hrun, hCl⟩ := hr
          rw [hrun]
          have hlen : (List.replicate n'.toNat z).flatten.length = n'.toNat * z.length := by simp
          have hkz : kdL z = kdL z := rfl
          have hkd0 : VRs w (List.replicate n'.toNat z).flatten (kμ (kdL z) μ) (kI (kdL z) I) C.toList := by
            rw [hCl]; exact replicate_cells ((hzv w).flat_to _ _) _
          have hl := hkd0.length
          simp only [Array.length_toList] at hl
          exact QK.new (vs := C.toList) hS hqn (alloc_at _ _) (.inl rfl) (Keep.alloc _ _) hkd0 (fun j x hx => by simpa using hx) _ (Nat.le_refl _) (by omega) (fun _ => rfl)
            (by simp only [VR]; exact ⟨_, setLoc_self _ _ _, .inr ⟨rfl, n'.toNat, by simp, Nat.le_refl _, by simp [hlen]⟩⟩)
        · cases h
      · cases h
    · cases h
  · exact hpure (by unfold execOp; rw [heq]) h fun v' hv' => fieldAddrA_ok TO hv' (VR.ev ht _)
  · exact hpure (by unfold execOp; rw [heq]) h fun v' hv' => fieldA_ok TO hv' (VR.ev ht _)
  · exact hpure (by unfold execOp; rw [heq]) h fun v' hv' => indexAddrA_ok TO hv' (VR.ev ht _) (VR.ev ht _)
  · exact hpure (by unfold execOp; rw [heq]) h fun v' hv' => indexA_ok TO hv' (VR.ev ht _) (VR.ev ht _)
  · rename_i ty x lo hi mx
    split at h
    · rename_i l' h' m' e1 e2 e3
      exact hpure (by unfold execOp; rw [heq]) h fun v' hv' => sliceA_ok TO hS hsub (optEv_ok ht e1) (optEv_ok ht e2) (optEv_ok ht e3) hv' (VR.ev ht _)
    · cases h
  · rename_i x i
    have hx := VR.ev ht x
    split at h
    · rename_i cs hcs
      rw [hcs] at hx
      simp only [VR] at hx
      obtain ⟨vs, hx, hv⟩ := hx
      refine hpure (s := Instr.extract (a.eval x) i) (by unfold execOp; rw [heq]) h fun v' hv' => ?_
      obtain ⟨y, hy, hvy⟩ := hv.get hv'
      exact ⟨y, by simp [Instr.extract, hx, hy], hvy⟩
    · cases h
  · rename_i f first caps
    split at h
    · rename_i hf
      injection h with h; injection h with h1 h2; subst h1; subst h2
      have : (execOp a.eval o).run P w = .ok (.value (.func (.func f) #[] (caps.map a.eval))) w := by
        unfold execOp; rw [heq]
        have : first = #[] := by simpa using hf
        simp [Instr.makeFunc, this]
      rw [this]
      refine QK.same hS ?_
      simp only [VR]
      exact ⟨(caps.map a.eval).toList, by rw [Array.toArray_toList], evs_ok ht caps⟩
    · cases h
  · rename_i c
    split at h
    · rename_i b hb
      have he : execOp a.eval o = (do let d ← resolve a.eval c o.type; invoke d.target d.args) := by unfold execOp; rw [heq]
      simp only [Option.map_eq_some_iff, Prod.mk.injEq] at h
      obtain ⟨v', hv', rfl, rfl⟩ := h
      have hb2 : ∀ cs, Upon P (QK M0 A w0 w μ I m q v' []) ((builtin b c.argTypes o.type cs (c.args.map a.eval)).run P w) := by
        intro cs
        obtain ⟨y, hy, hvy⟩ := builtinA_ok (P := P) (w := w) TO hv' (evs_ok ht c.args) o.type cs
        rw [Array.toArray_toList] at hy
        rw [hy]
        exact QK.same hS hvy
      rw [he]
      simp only [resolve, hb, Sem.run_bind, Sem.run_pure, Result.andThen_ok, invoke]
      exact hb2 _
    · rename_i f hf
      have he : execOp a.eval o = (do let d ← resolve a.eval c o.type; invoke d.target d.args) := by unfold execOp; rw [heq]
      obtain ⟨g, caps, hfv, ⟨fn, h1, h2, h3⟩, hC⟩ := callA_ok CO hS hsub hq h (VR.ev ht f) (evs_ok ht c.args)
      rw [he]
      simp only [resolve, hf, hfv, Deferred.ofValue, Sem.run_bind, Sem.run_pure, Result.andThen_ok, invoke]
      rw [Array.toArray_toList] at hC
      rw [show (#[] ++ c.args.map a.eval ++ caps) = c.args.map a.eval ++ caps by simp, run_callFunc h1 h2 h3]
      exact hC
    · cases h
  · cases h
end
end Go.AM
