/- The abstract machine, part 5: parts, addresses, cuts, conversions, structs that are built. -/
import Derived.Test.YtahbgblkinknoaaAMd
set_option linter.unusedVariables false
set_option linter.unusedSimpArgs false
set_option linter.unnecessarySimpa false
namespace Go.AM
section
variable {P : Program} {T : Tab} {M0 A : Nat → Prop} {w0 w : World} {μ : Locs} {I : Nat → Prop} {m mv : List (Nat × Blk)}

theorem arr_get {xs : List Value} {i : Nat} : xs.toArray[i]? = xs[i]? := by simp

theorem partA_ok (TO : TabOK P T) {ty off : Nat} {cs : List AV} {vs : List Value} {v : AV} (h : partA T ty cs off = some v) (hv : VRs w cs μ I vs) :
    ∃ y, (part ty vs.toArray off).run P w = .ok y w ∧ VR w v μ I y := by
  unfold partA at h
  split at h
  · rename_i d z by_ hu hz
    have hA := run_isAggD (TO.u _ _ hu) w
    split at h
    · rename_i hd
      split at h
      · rename_i hlen
        injection h with h; subst h
        refine ⟨.agg ((vs.drop off).take z.length).toArray, ?_, ?_⟩
        · simp only [part, Sem.run_bind, hA, Result.andThen_ok, hd, if_true, TO.size hz, Sem.run_pure]
          congr 2
          apply Array.ext'
          simp [List.extract_eq_take_drop]
        · simp only [VR]; exact ⟨_, rfl, (hv.drop _).take _⟩
      · cases h
    · rename_i hd
      obtain ⟨y, hy, hvy⟩ := hv.get h
      refine ⟨y, ?_, hvy⟩
      simp [part, hA, hd, hy]
  · cases h

theorem indexA_ok (TO : TabOK P T) {ty : Nat} {x i v : AV} {a b : Value} (h : indexA T ty x i = some v) (hx : VR w x μ I a) (hi : VR w i μ I b) :
    ∃ y, (Instr.index ty a b).run P w = .ok y w ∧ VR w v μ I y := by
  unfold indexA at h
  split at h
  · rename_i n e cs k i' hu
    simp only [VR] at hx hi; subst hi
    obtain ⟨vs, rfl, hv⟩ := hx
    split at h
    · rename_i z by_ hz
      split at h
      · rename_i hb
        obtain ⟨y, hy, hvy⟩ := partA_ok TO h hv
        refine ⟨y, ?_, hvy⟩
        simp only [Instr.index, asIntOf, Sem.run_bind, Sem.run_pure, Result.andThen_ok, run_und (TO.u _ _ hu), if_pos hb, TO.size hz, hy]
      · cases h
    · cases h
  · rename_i s k i' hu
    simp only [VR] at hx hi; subst hi; subst hx
    split at h
    · rename_i hb
      simp only [Option.map_eq_some_iff] at h
      obtain ⟨c, hc, rfl⟩ := h
      refine ⟨.int .u8 c.toNat, ?_, by simp [VR]⟩
      have : (⟨s.toArray⟩ : ByteArray)[i'.toNat]? = some c := by
        have hlt : i'.toNat < s.length := by
          rcases Nat.lt_or_ge i'.toNat s.length with h' | h'
          · exact h'
          · rw [List.getElem?_eq_none h'] at hc; cases hc
        have hlt2 : i'.toNat < (⟨s.toArray⟩ : ByteArray).size := by simpa [ByteArray.size] using hlt
        rw [getElem?_pos (⟨s.toArray⟩ : ByteArray) i'.toNat hlt2]
        rw [List.getElem?_eq_getElem hlt] at hc
        injection hc with hc
        congr 1
      simp only [Instr.index, asIntOf, Sem.run_bind, Sem.run_pure, Result.andThen_ok, run_und (TO.u _ _ hu), if_pos hb, this]
    · cases h
  · cases h

theorem fieldA_ok (TO : TabOK P T) {ty f : Nat} {x v : AV} {a : Value} (h : fieldA T ty x f = some v) (hx : VR w x μ I a) :
    ∃ y, (Instr.field ty a f).run P w = .ok y w ∧ VR w v μ I y := by
  unfold fieldA at h
  split at h
  · rename_i fs cs hu
    simp only [VR] at hx
    obtain ⟨vs, rfl, hv⟩ := hx
    split at h
    · rename_i fd hf
      obtain ⟨y, hy, hvy⟩ := partA_ok TO h hv
      refine ⟨y, ?_, hvy⟩
      simp only [Instr.field, Sem.run_bind, run_und (TO.u _ _ hu), Result.andThen_ok, hf, asAgg, Sem.run_pure, hy]
    · cases h
  · cases h

theorem rptr_mono {cs ds : List AV} {ad : Addr} (n : Nat) (hd : ds = cs.drop n) (h : cs = [] ∨ ∃ vs, I ad.block ∧ CellsAt w ad vs ∧ VRs w cs noLocs I vs) : VR w (.rptr ds) μ I (.pointer (some (ad.add n))) := by
  subst hd
  simp only [VR]
  refine ⟨_, rfl, ?_⟩
  rcases h with rfl | ⟨vs, hI, hc, hv⟩
  · left; simp
  · exact .inr ⟨vs.drop n, by rw [add_block]; exact hI, hc.drop n, hv.drop n⟩

theorem ptr_add {b off n : Nat} {l : Loc} (hl : μ b = some l) (hn : l.isNil = false) : VR w (.ptr b (off + n)) μ I (.pointer (some ((⟨l.blk, l.base + off, none⟩ : Addr).add n))) := by
  simp only [VR]
  exact ⟨l, hl, hn, by rw [add_plain, Nat.add_assoc]⟩

theorem fieldAddrA_ok (TO : TabOK P T) {s f : Nat} {x v : AV} {a : Value} (h : fieldAddrA T s x f = some v) (hx : VR w x μ I a) :
    ∃ y, (Instr.fieldAt s a f).run P w = .ok y w ∧ VR w v μ I y := by
  unfold fieldAddrA at h
  split at h
  · rename_i fs hu
    split at h
    · rename_i fd hf
      have hfp : ∀ (ad : Addr) z by_, T.z fd.type = some (z, by_) → z.length ≠ 0 → (Instr.fieldAt s (.pointer (some ad)) f).run P w = .ok (.pointer (some (ad.add fd.offset))) w := by
        intro ad z by_ hz hne
        simp only [Instr.fieldAt, Sem.run_bind, run_und (TO.u _ _ hu), Result.andThen_ok, hf, Instr.sureAddr, Sem.run_pure, fieldPlace, TO.size hz, Sem.run_ite, if_neg hne]
      split at h
      · rename_i z by_ b off hz
        split at h
        · cases h
        · rename_i hne
          injection h with h; subst h
          simp only [VR] at hx
          obtain ⟨l, hl, hn, rfl⟩ := hx
          exact ⟨_, hfp _ z by_ hz hne, ptr_add hl hn⟩
      · rename_i z by_ cs hz
        split at h
        · cases h
        · rename_i hne
          injection h with h; subst h
          simp only [VR] at hx
          obtain ⟨ad, rfl, hx⟩ := hx
          exact ⟨_, hfp _ z by_ hz hne, rptr_mono _ rfl hx⟩
      · cases h
    · cases h
  · cases h

theorem indexAddrA_ok (TO : TabOK P T) {ty : Nat} {x i v : AV} {a b : Value} (h : indexAddrA T ty x i = some v) (hx : VR w x μ I a) (hi : VR w i μ I b) :
    ∃ y, (Instr.indexAt ty a b).run P w = .ok y w ∧ VR w v μ I y := by
  unfold indexAddrA at h
  split at h
  · rename_i n e k i' hu
    simp only [VR] at hi; subst hi
    split at h
    · cases h
    · rename_i z by_ hz
      split at h
      · rename_i hb
        have hrun : ∀ ad : Addr, (Instr.indexAt ty (.pointer (some ad)) (.int k i')).run P w = .ok (.pointer (some (ad.add (i'.toNat * z.length)))) w := by
          intro ad
          simp only [Instr.indexAt, asIntOf, Sem.run_bind, Sem.run_pure, Result.andThen_ok, run_und (TO.u _ _ hu), Instr.sureAddr, if_pos hb, TO.size hz]
        split at h
        · injection h with h; subst h
          simp only [VR] at hx
          obtain ⟨l, hl, hn, rfl⟩ := hx
          exact ⟨_, hrun _, ptr_add hl hn⟩
        · injection h with h; subst h
          simp only [VR] at hx
          obtain ⟨ad, rfl, hx⟩ := hx
          exact ⟨_, hrun _, rptr_mono _ rfl hx⟩
        · cases h
      · cases h
  · rename_i e k i' hu
    simp only [VR] at hi; subst hi
    split at h
    · rename_i z by_ fl cs len hz
      split at h
      · rename_i hb
        injection h with h; subst h
        simp only [VR] at hx
        obtain ⟨a0, cap, rfl, hl, hn, hx⟩ := hx
        cases a0 with
        | none => have := hn rfl; omega
        | some ad =>
          refine ⟨.pointer (some (ad.add (i'.toNat * z.length))), ?_, ?_⟩
          · simp only [Instr.indexAt, asIntOf, Sem.run_bind, Sem.run_pure, Result.andThen_ok, run_und (TO.u _ _ hu), if_pos hb, TO.size hz]
          · refine rptr_mono _ rfl ?_
            rcases hx with h | ⟨ad', vs, he, hI, hc, hv⟩
            · exact .inl h
            · injection he with he; subst he
              refine .inr ⟨vs, hI, hc, VRs.stays _ (Stays.imms _ _ fun k hk => ?_) vs hv⟩
              cases fl
              · exact hk
              · exact hk.elim
      · cases h
    · rename_i z by_ b off len sz hz
      split at h
      · rename_i hb
        injection h with h; subst h
        obtain ⟨rfl, hb⟩ := hb
        simp only [VR] at hx
        obtain ⟨l, hl, ⟨_, ⟨a', rfl⟩, _, h0⟩ | ⟨hn, cap, rfl, hcap, hlim⟩⟩ := hx
        · omega
        · refine ⟨_, ?_, ptr_add hl hn⟩
          simp only [Instr.indexAt, asIntOf, Sem.run_bind, Sem.run_pure, Result.andThen_ok, run_und (TO.u _ _ hu), if_pos hb, TO.size hz]
      · cases h
    · cases h
  · cases h

/-- A bound of a cut. -/
theorem run_bound {x : Value} {k : IntKind} {n : Int} {y : Nat} {code : BoundsCode} (hx : x = .int k n) (h0 : 0 ≤ n) (h1 : n ≤ y) : (Instr.sliceBound x y code).run P w = .ok n.toNat w := by
  subst hx
  simp [Instr.sliceBound, asIntOf, h0, h1]
def BoundIs (x : Option Value) (n : Option Int) : Prop := match x, n with
  | none, none => True
  | some v, some n => ∃ k, v = .int k n
  | _, _ => False
theorem optEv_ok {t : List AV} {a : Act} (ht : VRs w t μ I a.tmps.toList) {x : Option Operand} {n : Option Int} (h : optEv t x = some n) : BoundIs (x.map a.eval) n := by
  cases x with
  | none => simp only [optEv] at h; injection h with h; subst h; trivial
  | some x =>
    simp only [optEv] at h
    have := VR.ev ht x
    split at h
    · rename_i k n' he
      injection h with h; subst h
      rw [he] at this
      simp only [VR] at this
      exact ⟨k, this⟩
    · cases h
theorem run_bounds2 {isS : Bool} {len cap : Nat} {lo hi : Option Value} {l h : Option Int} (hl : BoundIs lo l) (hh : BoundIs hi h)
    (h1 : 0 ≤ h.getD len) (h2 : h.getD len ≤ cap) (h3 : 0 ≤ l.getD 0) (h4 : l.getD 0 ≤ h.getD len) :
    (Instr.sliceBounds isS len cap lo hi none).run P w = .ok ((l.getD 0).toNat, (h.getD len).toNat, cap) w := by
  have hH : ∀ v : Value, hi = some v → ∃ k n, v = .int k n ∧ h = some n := by
    intro v e; subst e
    cases h <;> simp only [BoundIs] at hh
    obtain ⟨k, rfl⟩ := hh
    exact ⟨k, _, rfl, rfl⟩
  have hL : ∀ v : Value, lo = some v → ∃ k n, v = .int k n ∧ l = some n := by
    intro v e; subst e
    cases l <;> simp only [BoundIs] at hl
    obtain ⟨k, rfl⟩ := hl
    exact ⟨k, _, rfl, rfl⟩
  have hH0 : hi = none → h = none := by
    intro e; subst e; cases h <;> simp only [BoundIs] at hh; rfl
  have hL0 : lo = none → l = none := by
    intro e; subst e; cases l <;> simp only [BoundIs] at hl; rfl
  cases hi with
  | none =>
    obtain rfl := hH0 rfl
    simp only [Option.getD_none] at h1 h2 h4
    cases lo with
    | none =>
      obtain rfl := hL0 rfl
      simp [Instr.sliceBounds]
    | some v =>
      obtain ⟨k, n, rfl, rfl⟩ := hL v rfl
      simp only [Option.getD_some] at h3 h4
      simp only [Instr.sliceBounds, Sem.run_bind, Sem.run_pure, Result.andThen_ok, Option.isSome_none, Bool.false_eq_true, if_false, run_bound (P := P) (w := w) (k := k) rfl h3 h4, Option.getD_some, Option.getD_none, Int.toNat_natCast]
  | some v =>
    obtain ⟨k, n, rfl, rfl⟩ := hH v rfl
    simp only [Option.getD_some] at h1 h2 h4
    cases lo with
    | none =>
      obtain rfl := hL0 rfl
      simp only [Instr.sliceBounds, Sem.run_bind, Sem.run_pure, Result.andThen_ok, run_bound (P := P) (w := w) (k := k) rfl h1 h2, Option.getD_some, Option.getD_none, Int.toNat_zero]
    | some v =>
      obtain ⟨k', n', rfl, rfl⟩ := hL v rfl
      simp only [Option.getD_some] at h3 h4
      have h4' : n' ≤ ((n.toNat : Nat) : Int) := by omega
      simp only [Instr.sliceBounds, Sem.run_bind, Sem.run_pure, Result.andThen_ok, Option.isSome_none, Bool.false_eq_true, if_false, run_bound (P := P) (w := w) (k := k) rfl h1 h2, run_bound (P := P) (w := w) (k := k') rfl h3 h4', Option.getD_some]

theorem sliceA_ok (TO : TabOK P T) (hS : SR M0 A w0 w μ I m) (hsub : ∀ b B, look mv b = some B → look m b = some B) {ty : Nat} {x v : AV} {a : Value} {lo hi mx : Option Value} {l h mm : Option Int} (hl : BoundIs lo l) (hh : BoundIs hi h) (hm : BoundIs mx mm)
    (hs : sliceA T mv ty x l h mm = some v) (hx : VR w x μ I a) : ∃ y, (Instr.sliceAt ty a lo hi mx).run P w = .ok y w ∧ VR w v μ I y := by
  have hmn : mm.isSome = false → mx = none := by
    intro e
    cases mx <;> cases mm <;> simp_all [BoundIs]
  unfold sliceA at hs
  split at hs
  · rename_i s hu
    simp only [VR] at hx; subst hx
    split at hs
    · cases hs
    · rename_i hmm
      obtain rfl := hmn (by simpa using hmm)
      simp only at hs
      split at hs
      · rename_i hb
        injection hs with hs; subst hs
        obtain ⟨h1, h2, h3, h4⟩ := hb
        have hsz : (⟨s.toArray⟩ : ByteArray).size = s.length := by simp [ByteArray.size]
        refine ⟨_, ?_, by simp only [VR]; rfl⟩
        simp only [Instr.sliceAt, Sem.run_bind, run_und (TO.u _ _ hu), Result.andThen_ok, Instr.slice, Option.isSome_none, Bool.false_eq_true, if_false, hsz,
          run_bounds2 (P := P) (w := w) (isS := false) (len := s.length) (cap := s.length) hl hh h1 h2 h3 h4, Sem.run_pure]
        rw [Lib.extract_eq]
      · cases hs
  · rename_i e fl cs len hu
    split at hs
    · cases hs
    · rename_i z by_ hz
      simp only at hs
      split at hs
      · cases hs
      · rename_i hmm
        obtain rfl := hmn (by simpa using hmm)
        split at hs
        · rename_i hb
          obtain ⟨h1, h2, h3, h4⟩ := hb
          simp only [VR] at hx
          obtain ⟨a0, cap, rfl, hcap, hnil, hx⟩ := hx
          have hrun : (Instr.sliceAt ty (.slice a0 len cap) lo hi none).run P w = .ok (.slice (if cap = (l.getD 0).toNat then a0 else a0.map (·.add ((l.getD 0).toNat * z.length))) ((h.getD len).toNat - (l.getD 0).toNat) (cap - (l.getD 0).toNat)) w := by
            simp only [Instr.sliceAt, Sem.run_bind, run_und (TO.u _ _ hu), Result.andThen_ok, Instr.slice,
              run_bounds2 (P := P) (w := w) (isS := true) (len := len) (cap := cap) hl hh h1 (by omega) h3 h4, Sem.run_pure, TO.size hz]
          refine ⟨_, hrun, ?_⟩
          split at hs
          · rename_i heq
            injection hs with hs; subst hs
            simp only [VR]
            exact ⟨_, _, by rw [show (h.getD len).toNat - (l.getD 0).toNat = 0 by omega], by omega, by simp, by simp⟩
          · rename_i hne
            injection hs with hs; subst hs
            have hlt : (l.getD 0).toNat ≠ cap := by omega
            rw [if_neg (Ne.symm hlt)]
            cases a0 with
            | none => have := hnil rfl; omega
            | some ad =>
              simp only [VR]
              refine ⟨_, _, by rw [show (h.getD len - l.getD 0).toNat = (h.getD len).toNat - (l.getD 0).toNat by omega], by omega, (fun e => by simp at e), ?_⟩
              rcases hx with rfl | ⟨ad', vs, he, hI, hc, hv⟩
              · left; simp
              · injection he with he; subst he
                exact .inr ⟨_, _, rfl, by rw [add_block]; exact hI, ((hc.take ((h.getD len).toNat * z.length)).drop _), (hv.take _).drop _⟩
        · cases hs
  · rename_i e b0 off len sz hu
    split at hs
    · cases hs
    · rename_i z by_ hz
      simp only at hs
      split at hs
      · cases hs
      · rename_i hmm
        obtain rfl := hmn (by simpa using hmm)
        split at hs
        · rename_i hb
          obtain ⟨rfl, h1, h2, h3, h4⟩ := hb
          have hrun : ∀ a0 cap, len ≤ cap → (Instr.sliceAt ty (.slice a0 len cap) lo hi none).run P w = .ok (.slice (if cap = (l.getD 0).toNat then a0 else a0.map (·.add ((l.getD 0).toNat * z.length))) ((h.getD len).toNat - (l.getD 0).toNat) (cap - (l.getD 0).toNat)) w := by
            intro a0 cap hcap
            simp only [Instr.sliceAt, Sem.run_bind, run_und (TO.u _ _ hu), Result.andThen_ok, Instr.slice,
              run_bounds2 (P := P) (w := w) (isS := true) (len := len) (cap := cap) hl hh h1 (by omega) h3 h4, Sem.run_pure, TO.size hz]
          simp only [VR] at hx
          obtain ⟨lc, hlc, ⟨hn, ⟨a', rfl⟩, rfl, rfl⟩ | ⟨hn, cap, rfl, hcap, hlim⟩⟩ := hx
          · refine ⟨_, hrun a' 0 (Nat.le_refl _), ?_⟩
            have hl0 : l.getD 0 = 0 := by omega
            have hh0 : (h.getD ((0 : Nat) : Int)).toNat = 0 := by omega
            rw [if_pos hl0] at hs
            injection hs with hs; subst hs
            simp only [hl0, hh0, Int.toNat_zero, if_true]
            simp only [VR]
            exact ⟨lc, hlc, .inl ⟨hn, ⟨_, rfl⟩, by simp, by simpa using hh0⟩⟩
          · refine ⟨_, hrun _ cap hcap, ?_⟩
            split at hs
            · rename_i hl0
              injection hs with hs; subst hs
              simp only [VR]
              refine ⟨lc, hlc, .inr ⟨hn, cap, ?_, by omega, hlim⟩⟩
              simp [hl0, Addr.add]
            · rename_i hl0
              split at hs
              · rename_i heq
                injection hs with hs; subst hs
                simp only [VR]
                exact ⟨_, _, by rw [show (h.getD len).toNat - (l.getD 0).toNat = 0 by omega], by omega, by simp, by simp⟩
              · rename_i hne
                injection hs with hs; subst hs
                have hlt : (l.getD 0).toNat ≠ cap := by omega
                rw [if_neg (Ne.symm hlt)]
                simp only [VR]
                refine ⟨lc, hlc, .inr ⟨hn, cap - (l.getD 0).toNat, ?_, by omega, ?_⟩⟩
                · simp only [Option.map_some, add_plain]
                  rw [show (h.getD len - l.getD 0).toNat = (h.getD len).toNat - (l.getD 0).toNat by omega, Nat.add_assoc]
                · have : (l.getD 0).toNat * z.length + (cap - (l.getD 0).toNat) * z.length = cap * z.length := by
                    rw [← Nat.add_mul]; congr 1; omega
                  omega
        · cases hs
  · rename_i n e b off hu
    split at hs
    · rename_i z by_ B hz hB
      split at hs
      · rename_i hb
        injection hs with hs; subst hs
        obtain ⟨hn0, hkd, hlen⟩ := hb
        have e1 : lo = none := by cases lo <;> simp_all [BoundIs]
        have e2 : hi = none := by cases hi <;> simp_all [BoundIs]
        have e3 : mx = none := by cases mx <;> simp_all [BoundIs]
        subst e1; subst e2; subst e3
        simp only [VR] at hx
        obtain ⟨lc, hlc, hn, rfl⟩ := hx
        obtain ⟨lc', hlc', hBO⟩ := hS.blks b B (hsub b B hB)
        rw [hlc] at hlc'; injection hlc' with e; subst e
        rcases hBO with ⟨h1, _⟩ | ⟨_, ⟨C, t, fr, vs, _, _, _, _, h5, _⟩, _⟩
        · rw [hn] at h1; cases h1
        · refine ⟨.slice (some ⟨lc.blk, lc.base + off, none⟩) n n, ?_, ?_⟩
          · simp [Instr.sliceAt, run_und (TO.u _ _ hu), Instr.sureAddr, Instr.sliceBounds, TO.size hz, hn0, Addr.add]
          · simp only [VR]
            have := h5 hkd
            exact ⟨lc, hlc, .inr ⟨hn, n, rfl, Nat.le_refl _, by omega⟩⟩
      · cases hs
    · cases hs
  · cases hs
end
end Go.AM
