/- The abstract machine, part 6: structs and rows that are built, conversions, built-in functions. -/
import Derived.Test.YtahbgblkinknoaaAMe
set_option linter.unusedVariables false
set_option linter.unusedSimpArgs false
set_option linter.unnecessarySimpa false
namespace Go.AM
section
variable {P : Program} {T : Tab} {M0 A : Nat → Prop} {w0 w : World} {μ : Locs} {I : Nat → Prop} {m mv : List (Nat × Blk)}

theorem foldl_setL (off : Nat) : ∀ (l : List Value) (k : Nat) (cs : Array Value) (j : Nat),
    ((l.zipIdx k).foldl (fun cs (x : Value × Nat) => cs.setIfInBounds (off + x.2) x.1) cs)[j]? = if off + k ≤ j ∧ j < off + k + l.length ∧ j < cs.size then l[j - (off + k)]? else cs[j]?
  | [], k, cs, j => by simp; intro h1 h2; omega
  | x :: l, k, cs, j => by
    simp only [List.zipIdx_cons, List.foldl_cons]
    rw [foldl_setL off l (k + 1) _ j]
    simp only [Array.size_setIfInBounds, Array.getElem?_setIfInBounds, List.length_cons]
    by_cases h1 : j = off + k
    · subst h1
      by_cases h2 : off + k < cs.size
      · rw [if_neg (by omega)]
        simp [h2]
      · rw [if_neg (by omega)]
        simp [h2]
    · by_cases h3 : off + (k + 1) ≤ j ∧ j < off + (k + 1) + l.length ∧ j < cs.size
      · rw [if_pos h3, if_pos ⟨by omega, by omega, h3.2.2⟩]
        rw [show j - (off + k) = (j - (off + (k + 1))) + 1 by omega, List.getElem?_cons_succ]
      · rw [if_neg h3, if_neg (by omega), if_neg (by omega)]

theorem cellsOf_ok {c : AV} {cs : List AV} {v : Value} (h : cellsOf c = some cs) (hv : VR w c μ I v) : VRs w cs μ I v.cells.toList ∧ cellL cs = true := by
  have hc : ∀ c : AV, cellish c = true → ∀ v, VR w c μ I v → VRs w [c] μ I v.cells.toList ∧ cellL [c] = true := by
    intro c hc v hv
    have h1 := hv.oneCell hc
    have : v.cells = #[v] := by cases v <;> first | rfl | (simp [Value.oneCell'] at h1; done)
    rw [this]
    exact ⟨VRs.cons hv VRs.nil, by simp [cellL, hc]⟩
  unfold cellsOf at h
  split at h
  · rename_i ds
    split at h
    · rename_i hd
      injection h with h; subst h
      simp only [VR] at hv
      obtain ⟨vs, rfl, hv⟩ := hv
      exact ⟨by simpa [Value.cells] using hv, hd⟩
    · cases h
  · split at h
    · rename_i hd
      injection h with h; subst h
      exact hc _ hd v hv
    · cases h

theorem cellL_append {a b : List AV} (ha : cellL a = true) (hb : cellL b = true) : cellL (a ++ b) = true := by
  induction a with
  | nil => exact hb
  | cons c a ih => simp only [cellL, Bool.and_eq_true, List.cons_append] at ha ⊢; exact ⟨ha.1, ih ha.2⟩
theorem cellL_take {a : List AV} (n : Nat) (ha : cellL a = true) : cellL (a.take n) = true := by
  induction a generalizing n with
  | nil => simp [cellL]
  | cons c a ih =>
    cases n with
    | zero => simp [cellL]
    | succ n => simp only [cellL, Bool.and_eq_true, List.take_succ_cons] at ha ⊢; exact ⟨ha.1, ih n ha.2⟩
theorem cellL_drop {a : List AV} (n : Nat) (ha : cellL a = true) : cellL (a.drop n) = true := by
  induction a generalizing n with
  | nil => simp [cellL]
  | cons c a ih =>
    cases n with
    | zero => exact ha
    | succ n => simp only [cellL, Bool.and_eq_true, List.drop_succ_cons] at ha ⊢; exact ih n ha.2

theorem fill_ok {place : Nat → Option (Nat × Nat)} : ∀ (ps : List (Nat × AV)) (qs : List (Nat × Value)) (cells out : List AV) (cs : Array Value),
    VRs w cells μ I cs.toList → cellL cells = true → fillA place cells ps = some out → ps.length = qs.length → (∀ (j : Nat) (p : Nat × AV) (q : Nat × Value), ps[j]? = some p → qs[j]? = some q → p.1 = q.1 ∧ VR w p.2 μ I q.2) →
    ∃ cs', Instr.fill place cs qs = some cs' ∧ VRs w out μ I cs'.toList ∧ cellL out = true
  | [], qs, cells, out, cs, hv, hcl, h, hl, _ => by
    simp [fillA] at h; subst h
    simp at hl
    have : qs = [] := by cases qs <;> simp_all
    subst this
    exact ⟨cs, rfl, hv, hcl⟩
  | (i, p) :: ps, [], cells, out, cs, hv, hcl, h, hl, _ => by simp at hl
  | (i, p) :: ps, (i', q) :: qs, cells, out, cs, hv, hcl, h, hl, hps => by
    obtain ⟨rfl, hpq⟩ := hps 0 (i, p) (i', q) rfl rfl
    simp only [fillA] at h
    split at h
    · rename_i off size ds hpl hds
      split at h
      · rename_i hb
        obtain ⟨hsz, hbd⟩ := hb
        obtain ⟨hdv, hdc⟩ := cellsOf_ok hds hpq
        have hcs := hv.length
        have hqs := hdv.length
        simp only [Array.length_toList] at hcs hqs
        have hfold : (q.cells.zipIdx.foldl (fun cs (x : Value × Nat) => cs.setIfInBounds (off + x.2) x.1) cs).toList = cs.toList.take off ++ q.cells.toList ++ cs.toList.drop (off + size) := by
          apply List.ext_getElem?
          intro j
          rw [← Array.foldl_toList, Array.toList_zipIdx, Array.getElem?_toList, foldl_setL]
          simp only [List.getElem?_append, List.length_append, List.length_take, Array.length_toList, List.getElem?_take, List.getElem?_drop, Nat.add_zero]
          have hmin : min off cs.size = off := by omega
          rw [hmin]
          by_cases h1 : j < off
          · rw [if_neg (by omega), if_pos (by omega), if_pos (by omega), if_pos h1]; simp
          · by_cases h2 : j < off + q.cells.size
            · rw [if_pos ⟨by omega, h2, by omega⟩, if_pos (by omega), if_neg h1]
            · rw [if_neg (by omega), if_neg (by omega)]
              rw [show off + size + (j - (off + q.cells.size)) = j by omega]
              simp
        obtain ⟨cs', hf, hv', hc'⟩ := fill_ok ps qs _ out (q.cells.zipIdx.foldl (fun cs (x : Value × Nat) => cs.setIfInBounds (off + x.2) x.1) cs)
          (by rw [hfold]; exact ((hv.take off).append hdv).append (hv.drop _)) (cellL_append (cellL_append (cellL_take _ hcl) hdc) (cellL_drop _ hcl)) h (by simpa using hl) (fun j p q hp hq => hps (j + 1) p q (by simpa using hp) (by simpa using hq))
        refine ⟨cs', ?_, hv', hc'⟩
        simp only [Instr.fill, hpl]
        rw [if_neg (by simp; omega)]
        exact hf
      · cases h
    · cases h

theorem evparts {t : List AV} {a : Act} (ht : VRs w t μ I a.tmps.toList) (ps : Array (Nat × Operand)) :
    ∀ (j : Nat) (p : Nat × AV) (q : Nat × Value), (ps.toList.map fun p => (p.1, ev t p.2))[j]? = some p → (ps.map fun (i, x) => (i, a.eval x)).toList[j]? = some q → p.1 = q.1 ∧ VR w p.2 μ I q.2 := by
  intro j p q hp hq
  simp only [List.getElem?_map, Option.map_eq_some_iff] at hp
  obtain ⟨r, hr, rfl⟩ := hp
  simp only [Array.toList_map, List.getElem?_map, Option.map_eq_some_iff] at hq
  obtain ⟨r', hr', rfl⟩ := hq
  rw [hr] at hr'; injection hr' with e; subst e
  exact ⟨rfl, VR.ev ht _⟩

theorem zero_cells (TO : TabOK P T) {ty : Nat} {z : List AV} {by_ : Nat} (hz : T.z ty = some (z, by_)) :
    ∃ zv, (∀ w, (zeroValue ty).run P w = .ok zv w) ∧ (∀ w, VRs w z noLocs noImm zv.cells.toList) ∧ cellL z = true ∧ zv.cells.size = z.length := by
  obtain ⟨i, zv, hi, hzv, hs, hb, hv, hc⟩ := TO.z _ _ _ hz
  refine ⟨zv, fun w => run_zero hi hzv w, hv, hc, ?_⟩
  have := (hv default).length
  simpa using this
theorem VRs.flat_to {cs : List AV} {vs : List Value} (h : VRs w cs noLocs noImm vs) (μ : Locs) (I : Nat → Prop) : VRs w cs μ I vs :=
  VRs.stays _ ⟨fun b l h => by simp [noLocs] at h, fun k h => h.elim, fun _ _ => rfl⟩ vs h

theorem run_placesL (TO : TabOK P T) : ∀ (fs : List Field), (fs.all fun fd => (T.z fd.type).isSome) = true → ∀ w : World,
    ∃ places : List (Nat × Nat), (fs.mapM fun f => do pure (f.offset, ← sizeOf f.type) : Sem (List (Nat × Nat))).run P w = .ok places w ∧ ∀ i : Nat, places[i]? = (match fs[i]? with | some fd => (T.z fd.type).map fun z => (fd.offset, z.1.length) | none => none)
  | [], _, w => ⟨[], by simp, by simp⟩
  | fd :: fs, h, w => by
    simp only [List.all_cons, Bool.and_eq_true] at h
    obtain ⟨hz, hr⟩ := h
    obtain ⟨⟨z, b⟩, hz⟩ := Option.isSome_iff_exists.1 hz
    obtain ⟨pl, h1, h2⟩ := run_placesL TO fs hr w
    refine ⟨(fd.offset, z.length) :: pl, ?_, fun i => ?_⟩
    · simp only [List.mapM_cons, Sem.run_bind, TO.size hz, Result.andThen_ok, Sem.run_pure, h1]
    · cases i with
      | zero => simp [hz]
      | succ i => simpa using h2 i
theorem run_places (TO : TabOK P T) {fs : Array Field} (h : (fs.toList.all fun fd => (T.z fd.type).isSome) = true) (w : World) :
    ∃ places : Array (Nat × Nat), (fs.mapM fun f => do pure (f.offset, ← sizeOf f.type) : Sem (Array (Nat × Nat))).run P w = .ok places w ∧ ∀ i : Nat, places[i]? = (match fs[i]? with | some fd => (T.z fd.type).map fun z => (fd.offset, z.1.length) | none => none) := by
  obtain ⟨pl, h1, h2⟩ := run_placesL TO fs.toList h w
  refine ⟨pl.toArray, ?_, fun i => ?_⟩
  · rw [Array.mapM_eq_mapM_toList, Sem.run_map, h1]; rfl
  · have := h2 i
    simpa using this
theorem fill_congr {p q : Nat → Option (Nat × Nat)} {cs : Array Value} : ∀ (ps : List (Nat × Value)), (∀ i, p i = q i) → Instr.fill p cs ps = Instr.fill q cs ps := by
  intro ps h
  have : p = q := funext h
  rw [this]
theorem buildA_ok (TO : TabOK P T) {t : List AV} {a : Act} (ht : VRs w t μ I a.tmps.toList) {ty : Nat} {ps : Array (Nat × Operand)} {v : AV}
    (h : buildA T ty (ps.toList.map fun p => (p.1, ev t p.2)) = some v) : ∃ y, (Instr.build ty (ps.map fun (i, x) => (i, a.eval x))).run P w = .ok y w ∧ VR w v μ I y := by
  unfold buildA at h
  split at h
  · rename_i z by_ pl hz hpl
    simp only [Option.map_eq_some_iff] at h
    obtain ⟨out, hout, rfl⟩ := h
    obtain ⟨zv, hzr, hzv, hzc, hzs⟩ := zero_cells TO hz
    obtain ⟨cs', hf, hv', _⟩ := fill_ok (w := w) (μ := μ) (I := I) _ (ps.map fun (i, x) => (i, a.eval x)).toList z out zv.cells ((hzv w).flat_to μ I) hzc hout (by simp) (evparts ht ps)
    refine ⟨.agg cs', ?_, by simp only [VR]; exact ⟨cs'.toList, by simp, hv'⟩⟩
    unfold placesA at hpl
    split at hpl
    · rename_i fs hu
      split at hpl
      · rename_i hall
        injection hpl with hpl; subst hpl
        simp only [Instr.build, Sem.run_bind, hzr, Result.andThen_ok, run_und (TO.u _ _ hu)]
        obtain ⟨places, hp1, hp2⟩ := run_places TO hall w
        rw [hp1]
        simp only [Result.andThen_ok]
        have : Instr.fill (places[·]?) zv.cells (ps.map fun (i, x) => (i, a.eval x)).toList = some cs' := by
          rw [← hf]
          refine fill_congr _ fun i => ?_
          exact hp2 i
        simp only [this, Sem.run_pure]
      · cases hpl
    · rename_i n e hu
      split at hpl
      · rename_i z' by' hz'
        injection hpl with hpl; subst hpl
        simp only [Instr.build, Sem.run_bind, hzr, Result.andThen_ok, run_und (TO.u _ _ hu), TO.size hz', hf, Sem.run_pure]
      · cases hpl
    · cases hpl
  · cases h

theorem bytesOf_ok (P : Program) (g : Value → ByteArray → Sem (ForInStep ByteArray)) (hg : ∀ n r, g (.int .u8 n) r = pure (ForInStep.yield (r.push (UInt8.ofNat n.toNat)))) :
    ∀ {cs : List AV} {s : List UInt8} {vs : List Value}, bytesOf cs = some s → VRs w cs μ I vs →
    ∀ acc : ByteArray, (forIn vs acc g : Sem ByteArray).run P w = .ok ⟨(acc.data.toList ++ s).toArray⟩ w
  | [], s, vs, h, hv => by
    simp only [bytesOf] at h; injection h with h; subst h
    simp only [VRs] at hv; subst hv
    intro acc
    simp
  | c :: cs, s, vs, h, hv => by
    simp only [VRs] at hv
    obtain ⟨x, xs, rfl, h1, h2⟩ := hv
    unfold bytesOf at h
    split at h
    · cases ‹c :: cs = []›
    · rename_i n cs' e
      injection e with e1 e2; subst e1; subst e2
      simp only [VR] at h1; subst h1
      simp only [Option.map_eq_some_iff] at h
      obtain ⟨s', hs', rfl⟩ := h
      intro acc
      have ih := bytesOf_ok P g hg hs' h2 (acc.push (UInt8.ofNat n.toNat))
      simp only [List.forIn_cons, hg, Sem.run_bind, Sem.run_pure, Result.andThen_ok]
      rw [ih]
      congr 2
      simp [ByteArray.push]
    · cases h

theorem CellsAt.of_held {B : Blk} {l : Loc} (h : Held w μ I B l) (off : Nat) : ∃ vs, CellsAt w ⟨l.blk, l.base + off, none⟩ (vs.drop off) ∧ VRs w B.cs (kμ B.kd μ) (kI B.kd I) vs := by
  obtain ⟨C, t, fr, vs, h1, _, _, _, _, h5, h6⟩ := h
  refine ⟨vs, ?_, h5⟩
  intro j y hy
  rw [add_plain]
  rw [List.getElem?_drop] at hy
  simp [World.cell?, h1, Nat.add_assoc, h6 _ _ hy]

theorem run_toString (ad : Addr) (vs : List Value) (len cap : Nat) (hl : len ≤ vs.length) (hc : CellsAt w ad vs) {cs : List AV} {s : List UInt8} (hb : bytesOf cs = some s) (hv : VRs w cs μ I (vs.take len)) :
    (Conv.bytesToString (.slice (some ad) len cap)).run P w = .ok (.string ⟨s.toArray⟩) w := by
  simp only [Conv.bytesToString, Sem.run_bind, run_loadN hc len hl, Result.andThen_ok]
  simp only [List.forIn_toArray]
  rw [bytesOf_ok P _ (fun n r => rfl) hb hv ByteArray.empty]
  simp [ByteArray.empty, ByteArray.emptyWithCapacity]
  rfl
end
end Go.AM
