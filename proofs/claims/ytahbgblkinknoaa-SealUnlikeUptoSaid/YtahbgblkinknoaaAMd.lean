/- The abstract machine, part 4: each operation that writes nothing that was there. -/
import Derived.Test.YtahbgblkinknoaaAMc
import Derived.Laws.Strings
import Derived.Lib.Strings
import Derived.Lib.ConvBytes
set_option linter.unusedVariables false
set_option linter.unusedSimpArgs false
set_option linter.unnecessarySimpa false
namespace Go.AM
section
variable {P : Program} {T : Tab} {M0 A : Nat → Prop} {w0 w : World} {μ : Locs} {I : Nat → Prop} {m mv : List (Nat × Blk)}

theorem run_und {t : Nat} {d : TypeDesc} (h : P.underlying t = some d) (w : World) : (underlying t).run P w = .ok d w := by
  simp [underlying, h]
theorem run_isAggD {t : Nat} {d : TypeDesc} (h : P.underlying t = some d) (w : World) : (isAgg t).run P w = .ok (isAggD d) w := by
  simp only [isAgg, Sem.run_bind, run_und h, Result.andThen_ok]
  cases d <;> rfl
theorem run_size {t : Nat} {i : TypeInfo} (h : P.info? t = some i) (w : World) : (sizeOf t).run P w = .ok i.size w := by
  simp [sizeOf, typeInfo, h]
theorem run_tinfo {t : Nat} {i : TypeInfo} (h : P.info? t = some i) (w : World) : (typeInfo t).run P w = .ok i w := by
  simp [typeInfo, h]
theorem run_zero {t : Nat} {i : TypeInfo} {v : Value} (h : P.info? t = some i) (hz : i.zero = some v) (w : World) : (zeroValue t).run P w = .ok v w := by
  simp [zeroValue, typeInfo, h, hz]
theorem TabOK.size (TO : TabOK P T) {t : Nat} {cs : List AV} {b : Nat} (h : T.z t = some (cs, b)) (w : World) : (sizeOf t).run P w = .ok cs.length w := by
  obtain ⟨i, zv, hi, _, hs, _⟩ := TO.z t cs b h
  rw [run_size hi, hs]

theorem reach_ok (hS : SR M0 A w0 w μ I m) (hsub : ∀ b B, look mv b = some B → look m b = some B) {av : AV} {cs : List AV} {x : Value}
    (h : reach mv av = some cs) (hx : VR w av μ I x) : ∃ ad vs, x = .pointer (some ad) ∧ CellsAt w ad vs ∧ VRs w cs μ I vs := by
  cases av <;> simp only [reach] at h <;> try (cases h; done)
  case ptr b off =>
    simp only [Option.map_eq_some_iff] at h
    obtain ⟨B, hB, rfl⟩ := h
    obtain ⟨l, hl, hn, rfl⟩ := (by simpa only [VR] using hx : ∃ l, μ b = some l ∧ l.isNil = false ∧ x = .pointer (some ⟨l.blk, l.base + off, none⟩))
    obtain ⟨l', hl', hBO⟩ := hS.blks b B (hsub b B hB)
    rw [hl] at hl'; injection hl' with e; subst e
    rcases hBO with ⟨h1, _⟩ | ⟨_, ⟨C, t, fr, vs, h1, _, _, _, _, h5, h6⟩, _⟩
    · rw [hn] at h1; cases h1
    · refine ⟨_, vs.drop off, rfl, ?_, ?_⟩
      · intro j y hy
        rw [add_plain]
        rw [List.getElem?_drop] at hy
        simp [World.cell?, h1, Nat.add_assoc, h6 _ _ hy]
      · refine VRs.drop ?_ off
        have S1 : Stays (kμ B.kd μ) μ (kI B.kd I) I w w := by
          refine ⟨fun b l h => ?_, fun k h => ?_, fun _ _ => rfl⟩
          · unfold kμ at h; split at h
            · simp [noLocs] at h
            · exact h
          · unfold kI at h; split at h
            · exact h.elim
            · exact h
        exact VRs.stays _ S1 vs h5
  case rptr cs' =>
    injection h with h; subst h
    simp only [VR] at hx
    obtain ⟨ad, rfl, h⟩ := hx
    rcases h with rfl | ⟨vs, hI, hc, hv⟩
    · exact ⟨ad, [], rfl, by intro j x hx; simp at hx, VRs.nil⟩
    · exact ⟨ad, vs, rfl, hc, VRs.stays _ (Stays.locs μ I w) vs hv⟩

theorem run_loadN {ad : Addr} {vs : List Value} (h : CellsAt w ad vs) (n : Nat) (hn : n ≤ vs.length) : (loadCells ad n).run P w = .ok (vs.take n).toArray w := by
  have := run_loadCells_list (P := P) w ad (vs.take n) (h.take n)
  rwa [List.length_take, Nat.min_eq_left hn] at this

theorem loadA_ok (TO : TabOK P T) (hS : SR M0 A w0 w μ I m) (hsub : ∀ b B, look mv b = some B → look m b = some B) {ty : Nat} {av v : AV} {x : Value}
    (h : loadA T mv ty av = some v) (hx : VR w av μ I x) : ∃ y, (Instr.loadAt ty x).run P w = .ok y w ∧ VR w v μ I y := by
  unfold loadA at h
  split at h
  · rename_i d z by_ cs hu hz hr
    obtain ⟨ad, vs, rfl, hc, hv⟩ := reach_ok hS hsub hr hx
    have hA := run_isAggD (TO.u _ _ hu) w
    split at h
    · rename_i hd
      split at h
      · rename_i hlen
        injection h with h; subst h
        refine ⟨.agg (vs.take z.length).toArray, ?_, ?_⟩
        · simp [Instr.loadAt, Instr.sureAddr, loadVar, hA, hd, TO.size hz, run_loadN hc z.length (by rw [hv.length]; exact hlen)]
        · simp only [VR]; exact ⟨_, rfl, hv.take _⟩
      · cases h
    · rename_i hd
      cases cs with
      | nil => simp at h
      | cons c cs =>
        simp at h; subst h
        simp only [VRs] at hv
        obtain ⟨y, ys, rfl, h1, h2⟩ := hv
        refine ⟨y, ?_, h1⟩
        have := hc 0 y rfl
        simp only [Addr.add, if_true] at this
        simp [Instr.loadAt, Instr.sureAddr, loadVar, hA, hd, this]
  · cases h

/-! ### numbers, strings, structs -/
theorem run_eqIn_bool {ty : Nat} (h : P.underlying ty = some .bool) (d : Nat) (a b : Bool) (w : World) : (Op.equalIn (d + 1) ty (.bool a) (.bool b)).run P w = .ok (a == b) w := by
  simp only [Op.equalIn, Sem.run_bind, run_und h, Result.andThen_ok]; rfl
theorem run_eq_bool {ty : Nat} (h : P.underlying ty = some .bool) (a b : Bool) (w : World) : (Op.equal ty (.bool a) (.bool b)).run P w = .ok (a == b) w := by
  unfold Op.equal Op.maxDepth; exact run_eqIn_bool h 9999 a b w
theorem run_eqIn_ptr {ty e : Nat} (h : P.underlying ty = some (.pointer e)) (d : Nat) (a : Option Addr) (w : World) : (Op.equalIn (d + 1) ty (.pointer a) (.pointer none)).run P w = .ok a.isNone w := by
  cases a <;> (simp only [Op.equalIn, Sem.run_bind, run_und h, Result.andThen_ok]; rfl)
theorem run_eq_ptr {ty e : Nat} (h : P.underlying ty = some (.pointer e)) (a : Option Addr) (w : World) : (Op.equal ty (.pointer a) (.pointer none)).run P w = .ok a.isNone w := by
  unfold Op.equal Op.maxDepth; exact run_eqIn_ptr h 9999 a w
theorem bitA_ok {op : BinOp} {k : IntKind} {a b : Int} {v : AV} (h : bitA op k a b = some v) : ∃ y, (Op.intBits op k a b).run P w = .ok y w ∧ VR w v μ I y := by
  cases op <;> simp only [bitA] at h <;> first
    | (cases h; done)
    | (injection h with h; subst h; simp only [VR, exists_eq_right]; rfl)
theorem binA_ok (TO : TabOK P T) {op : BinOp} {ty : Nat} {p q : Operand} {x y : AV} {a b : Value} {v : AV} (h : binA T op ty x y = some v) (hx : VR w x μ I a) (hy : VR w y μ I b) :
    ∃ z, (do eqGuard op ty p q a b; binOp op ty a b : Sem Value).run P w = .ok z w ∧ VR w v μ I z := by
  unfold binA at h
  split at h
  · rename_i k n k' n'
    simp only [VR] at hx hy; subst hx; subst hy
    have hg : (eqGuard op ty p q (.int k n) (.int k' n')).run P w = .ok () w := by
      unfold eqGuard; split <;> rfl
    rw [Sem.run_bind, hg, Result.andThen_ok]
    split at h
    · rename_i hs
      unfold shiftA at h
      split at h
      · cases h
      · rename_i hneg
        cases op <;> simp [isShift] at hs <;> simp only at h <;> (injection h with h; subst h; simp only [VR, exists_eq_right]; simp [binOp, Op.shift, hneg])
    · rename_i hs
      split at h
      · rename_i hk
        subst hk
        cases op <;> simp [isShift] at hs <;> simp only [intA] at h <;> first
          | (split at h
             · cases h
             · rename_i hb; injection h with h; subst h; simp only [VR, exists_eq_right]; simp [binOp, Op.intDiv, hb])
          | (injection h with h; subst h; simp only [VR, exists_eq_right]; simp [binOp, Op.intArith, Op.intCmp]; done)
          | (obtain ⟨z, hz, hv⟩ := bitA_ok (P := P) (w := w) (μ := μ) (I := I) h; exact ⟨z, by simpa [binOp] using hz, hv⟩)
      · cases h
  · rename_i s t
    simp only [VR] at hx hy; subst hx; subst hy
    have hg : (eqGuard op ty p q (.string ⟨s.toArray⟩) (.string ⟨t.toArray⟩)).run P w = .ok () w := by
      unfold eqGuard; split <;> rfl
    rw [Sem.run_bind, hg, Result.andThen_ok]
    cases op <;> simp only [strA] at h <;> try (cases h; done)
    case add =>
      split at h
      · rename_i hlen
        injection h with h; subst h
        refine ⟨.string ⟨(s ++ t).toArray⟩, ?_, by simp [VR]⟩
        have h1 : (⟨s.toArray⟩ : ByteArray).size = s.length := by simp [ByteArray.size]
        have h2 : (⟨t.toArray⟩ : ByteArray).size = t.length := by simp [ByteArray.size]
        have h3 : (⟨s.toArray⟩ ++ ⟨t.toArray⟩ : ByteArray) = ⟨(s ++ t).toArray⟩ := by
          apply ByteArray.ext
          simp
        have h4 : ¬ (((s.length + t.length : Nat) : Int) > IntKind.i64.max) := by
          have : IntKind.i64.max = 9223372036854775807 := by decide
          omega
        simp only [binOp, Op.stringOp, h1, h2, h3, if_neg h4]
        rfl
      · cases h
    case eql => injection h with h; subst h; simp only [VR, exists_eq_right]; simp [binOp, Op.stringOp, ByteArray.toList_mk]
    case neq => injection h with h; subst h; simp only [VR, exists_eq_right]; simp [binOp, Op.stringOp, ByteArray.toList_mk]
  · rename_i s t
    simp only [VR] at hx hy; subst hx; subst hy
    have hg : (eqGuard op ty p q (.bool s) (.bool t)).run P w = .ok () w := by
      unfold eqGuard; split <;> rfl
    rw [Sem.run_bind, hg, Result.andThen_ok]
    split at h
    · rename_i hu
      injection h with h; subst h
      refine ⟨.bool (s == t), ?_, by simp [VR]⟩
      simp only [binOp, Sem.run_bind, run_eq_bool (TO.u _ _ hu), Result.andThen_ok]; rfl
    · rename_i hu
      injection h with h; subst h
      refine ⟨.bool (!(s == t)), ?_, by simp [VR]⟩
      simp only [binOp, Sem.run_bind, run_eq_bool (TO.u _ _ hu), Result.andThen_ok]; rfl
    · cases h
  · rename_i as bs
    simp only [VR] at hx hy
    obtain ⟨xs, rfl, hx⟩ := hx
    obtain ⟨ys, rfl, hy⟩ := hy
    split at h
    · rename_i ks heq
      have hgd := TO.guard ty ks heq
      have hg : (eqGuard op ty p q (.agg xs.toArray) (.agg ys.toArray)).run P w = .ok () w := by
        cases op <;> simp [eqGuard, hgd]
      rw [Sem.run_bind, hg, Result.andThen_ok]
      have heqr := fun e he => TO.eqs ty ks heq xs.toArray ys.toArray as bs e w he μ I (by simpa using hx) (by simpa using hy)
      split at h
      · simp only [Option.map_eq_some_iff] at h
        obtain ⟨e, he, rfl⟩ := h
        refine ⟨.bool e, ?_, by simp [VR]⟩
        simp only [binOp, Sem.run_bind, heqr e he, Result.andThen_ok]; rfl
      · simp only [Option.map_eq_some_iff] at h
        obtain ⟨e, he, rfl⟩ := h
        refine ⟨.bool (!e), ?_, by simp [VR]⟩
        simp only [binOp, Sem.run_bind, heqr e he, Result.andThen_ok]; rfl
      · cases h
    · cases h
  · simp only [VR] at hx hy; subst hx; subst hy
    have hg : (eqGuard op ty p q (.pointer none) (.pointer none)).run P w = .ok () w := by
      unfold eqGuard; split <;> rfl
    rw [Sem.run_bind, hg, Result.andThen_ok]
    split at h
    · rename_i hu; injection h with h; subst h
      refine ⟨.bool true, ?_, by simp [VR]⟩
      simp only [binOp, Sem.run_bind, run_eq_ptr (TO.u _ _ hu), Result.andThen_ok]; rfl
    · rename_i hu; injection h with h; subst h
      refine ⟨.bool false, ?_, by simp [VR]⟩
      simp only [binOp, Sem.run_bind, run_eq_ptr (TO.u _ _ hu), Result.andThen_ok]; rfl
    · cases h
  · simp only [VR] at hx hy; subst hy
    obtain ⟨l, hl, hn, rfl⟩ := hx
    have hg : ∀ ad, (eqGuard op ty p q (.pointer (some ad)) (.pointer none)).run P w = .ok () w := by
      intro ad; unfold eqGuard; split <;> rfl
    rw [Sem.run_bind, hg, Result.andThen_ok]
    split at h
    · rename_i hu; injection h with h; subst h
      refine ⟨.bool false, ?_, by simp [VR]⟩
      simp only [binOp, Sem.run_bind, run_eq_ptr (TO.u _ _ hu), Result.andThen_ok]; rfl
    · rename_i hu; injection h with h; subst h
      refine ⟨.bool true, ?_, by simp [VR]⟩
      simp only [binOp, Sem.run_bind, run_eq_ptr (TO.u _ _ hu), Result.andThen_ok]; rfl
    · cases h
  · cases h

theorem unA_ok {op : UnOp} {x : AV} {a : Value} {v : AV} (h : unA op x = some v) (hx : VR w x μ I a) :
    ∃ z, (Op.unary op a).run P w = .ok z w ∧ VR w v μ I z := by
  unfold unA at h
  split at h
  · simp only [VR] at hx; subst hx
    injection h with h; subst h
    simp only [VR, exists_eq_right]; rfl
  · simp only [VR] at hx; subst hx
    exact bitA_ok h
  · simp only [VR] at hx; subst hx
    injection h with h; subst h
    simp only [VR, exists_eq_right]; rfl
  · cases h
end
end Go.AM
