/- The abstract machine, part 7: calls that write nothing; each quiet operation is what the machine says. -/
import Derived.Test.YtahbgblkinknoaaAMf
set_option linter.unusedVariables false
set_option linter.unusedSimpArgs false
set_option linter.unnecessarySimpa false
namespace Go.AM

/-- What a call hands back, in a world that left all that was there as it was. -/
def Fresh (w w' : World) (A : Nat → Prop) (q : Nat) (r : AV) (x : Value) : Prop :=
  ∃ μ I, SR noImm A w w' μ I (adopt q r).2.1 ∧ (∀ b, b < q ∨ (adopt q r).2.2 ≤ b → μ b = none) ∧ VR w' (adopt q r).1 μ I x
/-- What the machine says of a call holds of the call. -/
def Told (P : Program) (f : Nat) (args : List AV) (r : AV) : Prop :=
  ∀ (A : Nat → Prop) (w : World) (vals : List Value), (∀ k, A k → k < w.heap.size) → VRs w args noLocs A vals →
    Calls P f vals.toArray w fun e w' => ∃ x, e = .returned x ∧ ∀ q, Fresh w w' A q r x

/-- What a quiet operation leaves. -/
def QK (M0 A : Nat → Prop) (w0 w : World) (μ : Locs) (I : Nat → Prop) (m : List (Nat × Blk)) (q : Nat) (v : AV) (adds : List (Nat × Blk)) : Value → World → Prop := fun x w' =>
  ∃ μ' I', Stays μ μ' I I' w w' ∧ SR M0 A w0 w' μ' I' (m ++ adds) ∧ (∀ b, b < q ∨ q + 16 ≤ b → μ' b = μ b) ∧ VR w' v μ' I' x

section
variable {P : Program} {T : Tab} {M0 A : Nat → Prop} {w0 w : World} {μ : Locs} {I : Nat → Prop} {m mv : List (Nat × Blk)} {q : Nat}

theorem QK.same {v : AV} {x : Value} (hS : SR M0 A w0 w μ I m) (h : VR w v μ I x) : QK M0 A w0 w μ I m q v [] x w :=
  ⟨μ, I, Stays.refl _ _ _, by rw [List.append_nil]; exact hS, fun _ _ => rfl, h⟩

/-- The own block of one new variable or row. -/
theorem QK.new {kd : Nat} {cs : List AV} {C : Array Value} {vs : List Value} {t : TypeId} {fr : Nat × Nat} {v : AV} {x : Value} {wk : World} (hS : SR M0 A w0 w μ I m) (hq : μ q = none)
    (hwk : wk.heap[w.heap.size]? = some (.cells C t fr)) (hfr : fr = (0, 0) ∨ C.size ≤ fr.1) (hk : Keep noImm w wk)
    (hv : VRs w cs (kμ kd μ) (kI kd I) vs) (hC : ∀ (j : Nat) (x : Value), vs[j]? = some x → C[j]? = some x) (lim : Nat) (hlim : cs.length ≤ lim) (hlim2 : lim ≤ C.size) (hkd : kd = 2 → lim = cs.length)
    (hx : VR wk v (setLoc μ q ⟨w.heap.size, 0, lim, false⟩) I x) : QK M0 A w0 w μ I m q v [(q, ⟨cs, kd, false⟩)] x wk := by
  obtain ⟨h1, h2⟩ := hS.new hq wk hwk hfr hk hv hC lim hlim hlim2 hkd
  exact ⟨_, I, h2, h1, fun b hb => setLoc_ne _ _ (by omega), hx⟩

theorem kL_ok {cs : List AV} {vs : List Value} (h : VRs w cs μ I vs) : VRs w cs (kμ (kdL cs) μ) (kI (kdL cs) I) vs := by
  have key : ∀ (cs : List AV) (vs : List Value), VRs w cs μ I vs → ∀ k, kdL cs ≤ k → VRs w cs (kμ k μ) (kI k I) vs := by
    intro cs
    induction cs with
    | nil => intro vs h k hk; simpa [VRs] using h
    | cons c cs ih =>
      intro vs h k hk
      simp only [VRs] at h ⊢
      obtain ⟨x, xs, rfl, h1, h2⟩ := h
      simp only [kdL] at hk
      refine ⟨x, xs, rfl, ?_, ih xs h2 k (by omega)⟩
      have hc : kdOf c ≤ k := by omega
      unfold kμ kI
      cases c <;> simp only [kdOf] at hc <;> (try (simp only [VR] at h1 ⊢; exact h1)) <;> (try (rw [if_neg (by omega), if_neg (by omega)]; exact h1))
      case sl fl cs len =>
        rw [if_neg (by omega : ¬ k = 0)]
        simp only [VR] at h1 ⊢
        exact h1
      case rptr cs =>
        rw [if_neg (by omega : ¬ k = 0)]
        simp only [VR] at h1 ⊢
        exact h1
  exact key cs vs h _ (Nat.le_refl _)

/-! ### what is handed to a call -/
/-- Immutable memory, and the own blocks. -/
def Open (μ : Locs) (I : Nat → Prop) (m : List (Nat × Blk)) : Nat → Prop := fun k => I k ∨ ∃ b B l, look m b = some B ∧ μ b = some l ∧ l.isNil = false ∧ l.blk = k

theorem Open.lt (hS : SR M0 A w0 w μ I m) {k : Nat} (h : Open μ I m k) : k < w.heap.size := by
  rcases h with h | ⟨b, B, l, hb, hl, hn, rfl⟩
  · exact hS.immLt k h
  · exact hS.lt hb hl hn

theorem mapM_ok {f : AV → Option AV} {J : Nat → Prop} : ∀ {cs ds : List AV} {vs : List Value}, cs.mapM f = some ds → VRs w cs μ I vs → (∀ c ∈ cs, ∀ d x, f c = some d → VR w c μ I x → VR w d noLocs J x) → VRs w ds noLocs J vs
  | [], ds, vs, h, hv, _ => by
    simp at h; subst h
    simpa [VRs] using hv
  | c :: cs, ds, vs, h, hv, hf => by
    simp only [List.mapM_cons, Option.bind_eq_bind, Option.bind_eq_some_iff, Option.pure_def, Option.some.injEq] at h
    obtain ⟨d, hd, ds', hds, rfl⟩ := h
    simp only [VRs] at hv ⊢
    obtain ⟨x, xs, rfl, h1, h2⟩ := hv
    exact ⟨x, xs, rfl, hf c (by simp) d x hd h1, mapM_ok hds h2 fun c hc => hf c (by simp [hc])⟩

theorem exC_ok (hS : SR M0 A w0 w μ I m) (hsub : ∀ b B, look mv b = some B → look m b = some B) {J : Nat → Prop} (hJ : ∀ k, I k → J k) (hJ2 : ∀ b B l, look mv b = some B → μ b = some l → l.isNil = false → J l.blk) :
    ∀ (n : Nat) (c d : AV) (x : Value), exC mv n c = some d → VR w c μ I x → VR w d noLocs J x := by
  have hpl : ∀ c : AV, ∀ x, kdOf c ≤ 1 → VR w c μ I x → VR w c noLocs J x := by
    intro c x hc h
    have S : Stays noLocs noLocs I J w w := Stays.imms _ _ hJ
    cases c <;> simp [kdOf] at hc <;> simp only [VR] at h ⊢ <;> try exact h
    case sl fl cs len =>
      obtain ⟨a, cap, rfl, hl, hn, h⟩ := h
      refine ⟨a, cap, rfl, hl, hn, ?_⟩
      rcases h with h | ⟨ad, vs, ha, hI, hc, hv⟩
      · exact .inl h
      · exact .inr ⟨ad, vs, ha, hJ _ hI, hc, VRs.stays _ (S.fl fl) vs hv⟩
    case rptr cs =>
      obtain ⟨ad, rfl, h⟩ := h
      refine ⟨ad, rfl, ?_⟩
      rcases h with h | ⟨vs, hI, hc, hv⟩
      · exact .inl h
      · exact .inr ⟨vs, hJ _ hI, hc, VRs.stays _ S vs hv⟩
  have hkJ : ∀ kd, kd ≤ 1 → Stays (kμ kd μ) noLocs (kI kd I) J w w := by
    intro kd hk
    refine ⟨fun b l h => ?_, fun k h => ?_, fun _ _ => rfl⟩
    · unfold kμ at h; rw [if_pos hk] at h; exact h
    · unfold kI at h; split at h
      · exact h.elim
      · exact hJ k h
  have hkI : ∀ kd, Stays (kμ kd μ) μ (kI kd I) I w w := by
    intro kd
    refine ⟨fun b l h => ?_, fun k h => ?_, fun _ _ => rfl⟩
    · unfold kμ at h; split at h
      · simp [noLocs] at h
      · exact h
    · unfold kI at h; split at h
      · exact h.elim
      · exact h
  intro n
  induction n with
  | zero =>
    intro c d x h hv
    cases c <;> simp only [exC] at h <;> (try (cases h; done)) <;> (injection h with h; subst h; exact hpl _ x (by simp [kdOf]) hv)
  | succ n ih =>
    intro c d x h hv
    cases c <;> simp only [exC] at h <;> (try (cases h; done)) <;> (try (injection h with h; subst h; exact hpl _ x (by simp [kdOf]) hv))
    case agg cs =>
      simp only [Option.map_eq_some_iff] at h
      obtain ⟨ds, hds, rfl⟩ := h
      simp only [VR] at hv ⊢
      obtain ⟨vs, rfl, hv⟩ := hv
      exact ⟨vs, rfl, mapM_ok hds hv fun c _ d x hd hx => ih c d x hd hx⟩
    case tup cs =>
      simp only [Option.map_eq_some_iff] at h
      obtain ⟨ds, hds, rfl⟩ := h
      simp only [VR] at hv ⊢
      obtain ⟨vs, rfl, hv⟩ := hv
      exact ⟨vs, rfl, mapM_ok hds hv fun c _ d x hd hx => ih c d x hd hx⟩
    case fn f cs =>
      simp only [Option.map_eq_some_iff] at h
      obtain ⟨ds, hds, rfl⟩ := h
      simp only [VR] at hv ⊢
      obtain ⟨vs, rfl, hv⟩ := hv
      exact ⟨vs, rfl, mapM_ok hds hv fun c _ d x hd hx => ih c d x hd hx⟩
    case ref b off len sz =>
      split at h
      · rename_i B hB
        obtain ⟨l, hl, hBO⟩ := hS.blks b B (hsub b B hB)
        simp only [VR] at hv
        obtain ⟨l', hl', hv⟩ := hv
        rw [hl] at hl'; injection hl' with e; subst e
        rcases hv with ⟨hn, ⟨a, rfl⟩, rfl, rfl⟩ | ⟨hn, cap, rfl, hcap, hlim⟩
        · have hcs : B.cs = [] := by
            rcases hBO with ⟨_, h2⟩ | ⟨h1, _⟩
            · exact h2
            · rw [hn] at h1; cases h1
          have hsl : ∀ fl, VR w (.sl fl [] 0) noLocs J (.slice a 0 0) := by
            intro fl; simp [VR]
          split at h
          · injection h with h; subst h; simpa [hcs] using hsl true
          · split at h
            · injection h with h; subst h; simpa [hcs] using hsl false
            · simp [hcs] at h; subst h; exact hsl false
        · have hB2 : Held w μ I B l := by
            rcases hBO with ⟨h1, _⟩ | ⟨_, h2, _⟩
            · rw [hn] at h1; cases h1
            · exact h2
          obtain ⟨vs, hc, hvs⟩ := CellsAt.of_held hB2 off
          have hJl := hJ2 b B l hB hl hn
          split at h
          · rename_i hk
            injection h with h; subst h
            simp only [VR]
            refine ⟨_, cap, rfl, hcap, (fun e => by cases e), .inr ⟨_, vs.drop off, rfl, hJl, hc, VRs.drop ?_ off⟩⟩
            refine VRs.stays _ ⟨fun b l h => ?_, fun k h => ?_, fun _ _ => rfl⟩ vs hvs
            · unfold kμ at h; rw [if_pos (by omega)] at h; exact h
            · unfold kI at h; rw [if_pos hk] at h; exact h.elim
          · split at h
            · rename_i hk
              injection h with h; subst h
              simp only [VR]
              exact ⟨_, cap, rfl, hcap, (fun e => by cases e), .inr ⟨_, vs.drop off, rfl, hJl, hc, VRs.drop (VRs.stays _ (hkJ _ (by omega)) vs hvs) off⟩⟩
            · simp only [Option.map_eq_some_iff] at h
              obtain ⟨ds, hds, rfl⟩ := h
              simp only [VR]
              exact ⟨_, cap, rfl, hcap, (fun e => by cases e), .inr ⟨_, vs.drop off, rfl, hJl, hc, mapM_ok hds (VRs.drop (VRs.stays _ (hkI _) vs hvs) off) fun c _ d x hd hx => ih c d x hd hx⟩⟩
      · cases h
    case ptr b off =>
      split at h
      · rename_i B hB
        obtain ⟨l, hl, hBO⟩ := hS.blks b B (hsub b B hB)
        simp only [VR] at hv
        obtain ⟨l', hl', hn, rfl⟩ := hv
        rw [hl] at hl'; injection hl' with e; subst e
        have hB2 : Held w μ I B l := by
          rcases hBO with ⟨h1, _⟩ | ⟨_, h2, _⟩
          · rw [hn] at h1; cases h1
          · exact h2
        obtain ⟨vs, hc, hvs⟩ := CellsAt.of_held hB2 off
        have hJl := hJ2 b B l hB hl hn
        split at h
        · rename_i hk
          injection h with h; subst h
          simp only [VR]
          exact ⟨_, rfl, .inr ⟨vs.drop off, hJl, hc, VRs.drop (VRs.stays _ (hkJ _ hk) vs hvs) off⟩⟩
        · simp only [Option.map_eq_some_iff] at h
          obtain ⟨ds, hds, rfl⟩ := h
          simp only [VR]
          exact ⟨_, rfl, .inr ⟨vs.drop off, hJl, hc, mapM_ok hds (VRs.drop (VRs.stays _ (hkI _) vs hvs) off) fun c _ d x hd hx => ih c d x hd hx⟩⟩
      · cases h
end
end Go.AM
