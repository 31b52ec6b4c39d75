import Derived.Test.YtahbgblkinknoaaMa
import Derived.Laws.AppendOwn
import Derived.Laws.BitsLemmas
import Derived.Laws.CopyRow
/- Several texts in one. -/
section
/- The abstract machine, part 8: a call's results become the caller's own. -/
set_option linter.unusedVariables false
set_option linter.unusedSimpArgs false
set_option linter.unnecessarySimpa false
namespace Go.AM
section
variable {P : Program} {T : Tab} {M0 A : Nat → Prop} {w0 w w' : World} {μ μ' : Locs} {I I' : Nat → Prop} {m mv : List (Nat × Blk)} {q : Nat}

/-- Its meaning hangs on no memory but the own blocks' places. -/
def ind : AV → Bool
  | .int _ _ | .bool _ | .str _ | .nilp | .snil | .ref _ _ _ _ | .ptr _ _ => true
  | .sl _ [] _ => true
  | _ => false
def indL : List AV → Bool
  | [] => true
  | c :: cs => ind c && indL cs
theorem VR.ind {c : AV} {x : Value} (h : AM.ind c = true) (hm : ∀ b l, μ b = some l → μ' b = some l) (hv : VR w c μ I x) : VR w' c μ' I' x := by
  cases c <;> simp [AM.ind] at h <;> simp only [VR] at hv ⊢ <;> try exact hv
  case sl fl cs len =>
    cases cs with
    | nil => simpa using hv
    | cons c cs => simp [AM.ind] at h
  case ref b off len sz =>
    obtain ⟨l, hl, h⟩ := hv
    exact ⟨l, hm _ _ hl, h⟩
  case ptr b off =>
    obtain ⟨l, hl, h⟩ := hv
    exact ⟨l, hm _ _ hl, h⟩
theorem VRs.ind : ∀ {cs : List AV} {vs : List Value}, indL cs = true → (∀ b l, μ b = some l → μ' b = some l) → VRs w cs μ I vs → VRs w' cs μ' I' vs
  | [], _, _, _, hv => by simpa [VRs] using hv
  | c :: cs, _, h, hm, hv => by
    simp only [indL, Bool.and_eq_true] at h
    simp only [VRs] at hv ⊢
    obtain ⟨x, xs, rfl, h1, h2⟩ := hv
    exact ⟨x, xs, rfl, h1.ind h.1 hm, VRs.ind h.2 hm h2⟩
theorem indL_of_kd : ∀ {cs : List AV}, kdL cs = 0 → indL cs = true
  | [], _ => rfl
  | c :: cs, h => by
    simp only [kdL] at h
    simp only [indL, Bool.and_eq_true]
    refine ⟨?_, indL_of_kd (by omega)⟩
    have : kdOf c = 0 := by omega
    cases c <;> simp [kdOf] at this <;> rfl

/-- What the blocks of a result are. -/
def BlkGood (fl : Bool) (B : Blk) : Prop := B.fz = false ∧ (fl = true → B.kd = 0 ∨ indL B.cs = true)
theorem take1_good (q : Nat) (c : AV) : (∀ b B, look (take1 q c).2.1 b = some B → BlkGood (flat1 c) B) ∧ (flat1 c = true → ind (take1 q c).1 = true) ∧ q ≤ (take1 q c).2.2 := by
  cases c <;> simp only [take1] <;> first
    | (refine ⟨fun b B h => by simp [look] at h, fun h => ?_, Nat.le_refl _⟩; first | rfl | (simp [flat1] at h; done) | (rename_i fl cs len; cases cs <;> simp [flat1] at h <;> rfl))
    | (refine ⟨fun b B h => ?_, fun _ => rfl, by omega⟩
       simp only [look] at h
       split at h
       · injection h with h; subst h
         refine ⟨rfl, fun hf => ?_⟩
         first
           | (rename_i kd cs len sz _; left; cases kd <;> simp_all [flat1])
           | (right; simp only [flat1, beq_iff_eq] at hf; exact indL_of_kd hf)
       · cases h)
theorem takeL_good : ∀ (q : Nat) (cs : List AV), (∀ b B, look (takeL q cs).2.1 b = some B → BlkGood (flatL cs) B) ∧ (flatL cs = true → indL (takeL q cs).1 = true) ∧ q ≤ (takeL q cs).2.2
  | q, [] => ⟨fun b B h => by simp [takeL, look] at h, fun _ => rfl, Nat.le_refl _⟩
  | q, c :: cs => by
    obtain ⟨h1, h2, h3⟩ := take1_good q c
    obtain ⟨g1, g2, g3⟩ := takeL_good (take1 q c).2.2 cs
    simp only [takeL, flatL]
    refine ⟨fun b B h => ?_, fun h => ?_, Nat.le_trans h3 g3⟩
    · rw [look_append] at h
      split at h
      · rename_i B' hB
        injection h with h; subst h
        obtain ⟨e1, e2⟩ := h1 b _ hB
        exact ⟨e1, fun hf => e2 (by simp only [Bool.and_eq_true] at hf; exact hf.1)⟩
      · obtain ⟨e1, e2⟩ := g1 b B h
        exact ⟨e1, fun hf => e2 (by simp only [Bool.and_eq_true] at hf; exact hf.2)⟩
    · simp only [Bool.and_eq_true] at h
      simp only [indL, Bool.and_eq_true]
      exact ⟨h2 h.1, g2 h.2⟩
/-- A value, or a struct of such cells. -/
def ind2 : AV → Bool
  | .agg cs => indL cs
  | c => ind c
def ind2L : List AV → Bool
  | [] => true
  | c :: cs => ind2 c && ind2L cs
def indR : AV → Bool
  | .tup cs => ind2L cs
  | c => ind2 c
theorem take2_good (q : Nat) (c : AV) : (∀ b B, look (take2 q c).2.1 b = some B → BlkGood (flat2 c) B) ∧ (flat2 c = true → ind2 (take2 q c).1 = true) ∧ q ≤ (take2 q c).2.2 := by
  cases c
  case agg cs => exact takeL_good q cs
  all_goals
    obtain ⟨h1, h2, h3⟩ := take1_good q _
    refine ⟨h1, fun h => ?_, h3⟩
    have := h2 h
    simp only [take1, take2] at this ⊢
    first | exact this | (simp [AM.ind] at this)
theorem take2L_good : ∀ (q : Nat) (cs : List AV), (∀ b B, look (take2L q cs).2.1 b = some B → BlkGood (flat2L cs) B) ∧ (flat2L cs = true → ind2L (take2L q cs).1 = true) ∧ q ≤ (take2L q cs).2.2
  | q, [] => ⟨fun b B h => by simp [take2L, look] at h, fun _ => rfl, Nat.le_refl _⟩
  | q, c :: cs => by
    obtain ⟨h1, h2, h3⟩ := take2_good q c
    obtain ⟨g1, g2, g3⟩ := take2L_good (take2 q c).2.2 cs
    simp only [take2L, flat2L]
    refine ⟨fun b B h => ?_, fun h => ?_, Nat.le_trans h3 g3⟩
    · rw [look_append] at h
      split at h
      · rename_i B' hB
        injection h with h; subst h
        obtain ⟨e1, e2⟩ := h1 b _ hB
        exact ⟨e1, fun hf => e2 (by simp only [Bool.and_eq_true] at hf; exact hf.1)⟩
      · obtain ⟨e1, e2⟩ := g1 b B h
        exact ⟨e1, fun hf => e2 (by simp only [Bool.and_eq_true] at hf; exact hf.2)⟩
    · simp only [Bool.and_eq_true] at h
      simp only [ind2L, Bool.and_eq_true]
      exact ⟨h2 h.1, g2 h.2⟩
theorem adopt_good (q : Nat) (c : AV) : (∀ b B, look (adopt q c).2.1 b = some B → BlkGood (flatR c) B) ∧ (flatR c = true → indR (adopt q c).1 = true) ∧ q ≤ (adopt q c).2.2 := by
  cases c
  case tup cs => exact take2L_good q cs
  all_goals
    obtain ⟨h1, h2, h3⟩ := take2_good q _
    refine ⟨h1, fun h => ?_, h3⟩
    have := h2 h
    simp only [take1, take2, adopt] at this ⊢
    first | exact this | (simp [ind2, AM.ind] at this)
theorem VR.ind2 {c : AV} {x : Value} (h : AM.ind2 c = true) (hm : ∀ b l, μ b = some l → μ' b = some l) (hv : VR w c μ I x) : VR w' c μ' I' x := by
  cases c
  case agg cs =>
    simp only [VR] at hv ⊢
    obtain ⟨vs, rfl, hv⟩ := hv
    exact ⟨vs, rfl, VRs.ind h hm hv⟩
  all_goals exact VR.ind h hm hv
theorem VRs.ind2 : ∀ {cs : List AV} {vs : List Value}, ind2L cs = true → (∀ b l, μ b = some l → μ' b = some l) → VRs w cs μ I vs → VRs w' cs μ' I' vs
  | [], _, _, _, hv => by simpa [VRs] using hv
  | c :: cs, _, h, hm, hv => by
    simp only [ind2L, Bool.and_eq_true] at h
    simp only [VRs] at hv ⊢
    obtain ⟨x, xs, rfl, h1, h2⟩ := hv
    exact ⟨x, xs, rfl, h1.ind2 h.1 hm, VRs.ind2 h.2 hm h2⟩
theorem VR.indR {c : AV} {x : Value} (h : AM.indR c = true) (hm : ∀ b l, μ b = some l → μ' b = some l) (hv : VR w c μ I x) : VR w' c μ' I' x := by
  cases c
  case tup cs =>
    simp only [VR] at hv ⊢
    obtain ⟨vs, rfl, hv⟩ := hv
    exact ⟨vs, rfl, VRs.ind2 h hm hv⟩
  all_goals exact VR.ind2 h hm hv

/-- The caller's state behind a call. -/
theorem SR.call {r : AV} {x : Value} {J : Nat → Prop} (hS : SR M0 A w0 w μ I m) (hq : ∀ b, q ≤ b → b < q + 16 → μ b = none) (hq2 : (adopt q r).2.2 ≤ q + 16)
    (hF : Fresh w w' J q r x) (hJ : flatR r = true ∨ ∀ k, J k → I k) : QK M0 A w0 w μ I m q (adopt q r).1 (adopt q r).2.1 x w' := by
  obtain ⟨μc, Ic, hSc, hids, hv⟩ := hF
  obtain ⟨g1, g2, g3⟩ := adopt_good q r
  have hk : Keep noImm w w' := hSc.keep
  let μ' : Locs := fun b => if q ≤ b ∧ b < q + 16 then μc b else μ b
  have hin : ∀ b l, μc b = some l → μ' b = some l := by
    intro b l hb
    have : q ≤ b ∧ b < q + 16 := by
      by_cases h : q ≤ b ∧ b < q + 16
      · exact h
      · rw [hids b (by omega)] at hb; cases hb
    simp only [μ', if_pos this]; exact hb
  have hout : ∀ b l, μ b = some l → μ' b = some l := by
    intro b l hb
    have : ¬ (q ≤ b ∧ b < q + 16) := fun h => by rw [hq b h.1 h.2] at hb; cases hb
    simp only [μ', if_neg this]; exact hb
  let I' : Nat → Prop := fun k => I k ∨ (flatR r = false ∧ Ic k)
  have S : Stays μ μ' I I' w w' := ⟨hout, fun k h => .inl h, fun k h => hk.block k (hS.immLt k h) (fun x => x)⟩
  have hm : ∀ b B, look (m ++ (adopt q r).2.1) b = some B → look m b = some B ∨ (look m b = none ∧ look (adopt q r).2.1 b = some B) := by
    intro b B h
    rw [look_append] at h
    split at h
    · rename_i B' hB; injection h with h; subst h; exact .inl hB
    · rename_i hB; exact .inr ⟨hB, h⟩
  have hnew : ∀ b B l, look (adopt q r).2.1 b = some B → μc b = some l → l.isNil = false → w.heap.size ≤ l.blk ∧ ¬ Ic l.blk := by
    intro b B l hB hl hn
    obtain ⟨l', hl', hBO⟩ := hSc.blks b B hB
    rw [hl] at hl'; injection hl' with e; subst e
    rcases hBO with ⟨h1, _⟩ | ⟨_, _, _, h4⟩
    · rw [hn] at h1; cases h1
    · obtain ⟨h5, h6⟩ := h4 (g1 b B hB).1
      rcases h6 with h6 | h6
      · exact h6.elim
      · exact ⟨h6, h5⟩
  refine ⟨μ', I', S, ⟨fun b B hb => ?_, fun b b' B B' l l' hb hb' hne hfz hl hl' hn hn' => ?_, fun k hk' => ?_, fun k h => .inl (hS.immA k h), fun k h => ?_, hS.keep.trans' hk⟩, fun b hb => ?_, ?_⟩
  · rcases hm b B hb with hb | ⟨hb0, hb⟩
    · obtain ⟨l, hl, hBO⟩ := hS.blks b B hb
      refine ⟨l, hout b l hl, ?_⟩
      rcases hBO with h1 | ⟨h1, h2, h3, h4⟩
      · exact .inl h1
      · refine .inr ⟨h1, h2.stays S (hk.block _ (hS.lt hb hl h1) (fun x => x)), fun e => .inl (h3 e), fun e => ⟨fun hI => ?_, (h4 e).2⟩⟩
        rcases hI with hI | ⟨hf, hI⟩
        · exact (h4 e).1 hI
        · rcases hJ with hJ | hJ
          · rw [hJ] at hf; cases hf
          · rcases hSc.immN _ hI with h | h | h
            · exact (h4 e).1 (hJ _ h)
            · exact h.elim
            · have := hS.lt hb hl h1; omega
    · obtain ⟨l, hl, hBO⟩ := hSc.blks b B hb
      obtain ⟨hfz, hgood⟩ := g1 b B hb
      refine ⟨l, hin b l hl, ?_⟩
      rcases hBO with h1 | ⟨h1, ⟨C, t, fr, vs, a1, a2, a3, a4, a5, a6, a7⟩, h3, h4⟩
      · exact .inl h1
      · obtain ⟨hge, hnI⟩ := hnew b B l hb hl h1
        refine .inr ⟨h1, ⟨C, t, fr, vs, a1, a2, a3, a4, a5, ?_, a7⟩, (fun e => by rw [hfz] at e; cases e), fun _ => ⟨fun hI => ?_, .inr (Nat.le_trans hS.keep.size hge)⟩⟩
        · cases hf : flatR r with
          | true =>
            rcases hgood hf with h0 | h0
            · unfold kμ kI at a6 ⊢
              rw [if_pos (by omega), if_pos h0] at a6 ⊢
              exact a6
            · refine VRs.ind h0 (fun b l h => ?_) a6
              unfold kμ at h ⊢; split at h
              · simp [noLocs] at h
              · rw [if_neg (by assumption)]; exact hin b l h
          | false =>
            refine VRs.stays _ ⟨fun b l h => ?_, fun k h => ?_, fun _ _ => rfl⟩ vs a6
            · unfold kμ at h ⊢; split at h
              · simp [noLocs] at h
              · rw [if_neg (by assumption)]; exact hin b l h
            · unfold kI at h ⊢; split at h
              · exact h.elim
              · rw [if_neg (by assumption)]; exact .inr ⟨hf, h⟩
        · rcases hI with hI | ⟨_, hI⟩
          · have := hS.immLt _ hI; omega
          · exact hnI hI
  · rcases hm b B hb with hb | ⟨hb0, hb⟩ <;> rcases hm b' B' hb' with hb' | ⟨hb0', hb'⟩
    · obtain ⟨l1, hl1, _⟩ := hS.blks b B hb
      obtain ⟨l2, hl2, _⟩ := hS.blks b' B' hb'
      rw [hout b l1 hl1] at hl; injection hl with e; subst e
      rw [hout b' l2 hl2] at hl'; injection hl' with e; subst e
      exact hS.inj b b' B B' _ _ hb hb' hne hfz hl1 hl2 hn hn'
    · obtain ⟨l1, hl1, _⟩ := hS.blks b B hb
      obtain ⟨l2, hl2, _⟩ := hSc.blks b' B' hb'
      rw [hout b l1 hl1] at hl; injection hl with e; subst e
      rw [hin b' l2 hl2] at hl'; injection hl' with e; subst e
      have := hS.lt hb hl1 hn
      have := (hnew b' B' _ hb' hl2 hn').1
      omega
    · obtain ⟨l1, hl1, _⟩ := hSc.blks b B hb
      obtain ⟨l2, hl2, _⟩ := hS.blks b' B' hb'
      rw [hin b l1 hl1] at hl; injection hl with e; subst e
      rw [hout b' l2 hl2] at hl'; injection hl' with e; subst e
      have := hS.lt hb' hl2 hn'
      have := (hnew b B _ hb hl1 hn).1
      omega
    · obtain ⟨l1, hl1, _⟩ := hSc.blks b B hb
      obtain ⟨l2, hl2, _⟩ := hSc.blks b' B' hb'
      rw [hin b l1 hl1] at hl; injection hl with e; subst e
      rw [hin b' l2 hl2] at hl'; injection hl' with e; subst e
      exact hSc.inj b b' B B' _ _ hb hb' hne hfz hl1 hl2 hn hn'
  · rcases hk' with h | ⟨_, h⟩
    · exact Nat.lt_of_lt_of_le (hS.immLt k h) hk.size
    · exact hSc.immLt k h
  · rcases h with h | ⟨hf, h⟩
    · exact hS.immN k h
    · rcases hSc.immN k h with h | h | h
      · rcases hJ with hJ | hJ
        · rw [hJ] at hf; cases hf
        · exact hS.immN k (hJ k h)
      · exact h.elim
      · exact .inr (.inr (Nat.le_trans hS.keep.size h))
  · simp only [μ', if_neg (by omega : ¬ (q ≤ b ∧ b < q + 16))]
  · cases hf : flatR r with
    | true => exact VR.indR (g2 hf) hin hv
    | false => exact VR.stays _ ⟨hin, fun k h => .inr ⟨hf, h⟩, fun _ _ => rfl⟩ x hv
end
end Go.AM
end
section
/- The abstract machine, part 9: every quiet operation. -/
set_option linter.unusedVariables false
set_option linter.unusedSimpArgs false
set_option linter.unnecessarySimpa false
namespace Go.AM
/-- What is known of the machine's calls. -/
def QOK (P : Program) (call : Nat → List AV → Option AV) : Prop :=
  ∀ f args r, call f args = some r → Told P f args r ∧ ∃ fn, P.funcs[f]? = some fn ∧ fn.body.isSome = true ∧ (fn.name == "runtime.NumGoroutine") = false

section
variable {P : Program} {T : Tab} {M0 A : Nat → Prop} {w0 w : World} {μ : Locs} {I : Nat → Prop} {m mv : List (Nat × Blk)} {q : Nat}

theorem mapM_append' {f : AV → Option AV} {a b ds : List AV} (h : (a ++ b).mapM f = some ds) : ∃ d e, a.mapM f = some d ∧ b.mapM f = some e ∧ ds = d ++ e := by
  rw [List.mapM_append] at h
  simp only [Option.bind_eq_bind, Option.bind_eq_some_iff, Option.pure_def, Option.some.injEq] at h
  obtain ⟨d, hd, e, he, rfl⟩ := h
  exact ⟨d, e, hd, he, rfl⟩

theorem evs_ok {t : List AV} {a : Act} (ht : VRs w t μ I a.tmps.toList) (xs : Array Operand) : VRs w (evs t xs) μ I (xs.map a.eval).toList := by
  refine VRs.of_get (by simp [evs]) fun j c x hc hx => ?_
  simp only [evs, List.getElem?_map, Option.map_eq_some_iff] at hc
  obtain ⟨r, hr, rfl⟩ := hc
  simp only [Array.toList_map, List.getElem?_map, Option.map_eq_some_iff] at hx
  obtain ⟨r', hr', rfl⟩ := hx
  rw [hr] at hr'; injection hr' with e; subst e
  exact VR.ev ht _

theorem run_callFunc {f : Nat} {fn : Func} (hf : P.funcs[f]? = some fn) (hb : fn.body.isSome = true) (hn : (fn.name == "runtime.NumGoroutine") = false) (args : Array Value) (w : World) :
    (callFunc f args).run P w = .ok (.enter f args) w := by
  have hnn : fn.body.isNone = false := by cases h : fn.body <;> simp_all
  simp only [callFunc, Sem.run_bind, run_program, Result.andThen_ok, hf, hn, Bool.false_eq_true, if_false, hnn, Sem.run_pure]

theorem callA_ok {call : Nat → List AV → Option AV} (CO : QOK P call) (hS : SR M0 A w0 w μ I m) (hsub : ∀ b B, look mv b = some B → look m b = some B)
    (hq : ∀ b, q ≤ b → b < q + 16 → μ b = none) {f : AV} {xs : List AV} {v : AV} {adds : List (Nat × Blk)} (h : callA call mv q f xs = some (v, adds)) {fv : Value} {vals : List Value} (hf : VR w f μ I fv) (hx : VRs w xs μ I vals) :
    ∃ g caps, fv = .func (.func g) #[] caps ∧ (∃ fn, P.funcs[g]? = some fn ∧ fn.body.isSome = true ∧ (fn.name == "runtime.NumGoroutine") = false) ∧
      Calls P g (vals.toArray ++ caps) w fun e w' => ∃ x, e = .returned x ∧ QK M0 A w0 w μ I m q v adds x w' := by
  unfold callA at h
  split at h <;> try (cases h; done)
  rename_i g caps
  split at h <;> try (cases h; done)
  rename_i hg9
  simp only [VR] at hf
  obtain ⟨cvs, hfv, hcv⟩ := hf
  unfold mkFn at hfv
  rw [if_pos hg9] at hfv
  subst hfv
  split at h
  · cases h
  · rename_i args hargs
    split at h
    · cases h
    · rename_i r hr
      obtain ⟨hT, hfn⟩ := CO g args r hr
      refine ⟨g, _, rfl, hfn, ?_⟩
      have hall := hx.append hcv
      split at h
      · rename_i hq2
        split at h
        · rename_i hfl
          injection h with h; injection h with h1 h2; subst h1; subst h2
          have hVR : VRs w args noLocs (Open μ I m) (vals ++ cvs) :=
            mapM_ok hargs hall fun c _ d x hd hxv => exC_ok hS hsub (fun k hk => .inl hk) (fun b B l hb hl hn => .inr ⟨b, B, l, hsub b B hb, hl, hn, rfl⟩) 4 c d x hd hxv
          have hC := hT (Open μ I m) w (vals ++ cvs) (fun k hk => hk.lt hS) hVR
          rw [show vals.toArray ++ cvs.toArray = (vals ++ cvs).toArray by simp]
          refine hC.mono fun e w' ⟨x, he, hF⟩ => ⟨x, he, ?_⟩
          exact hS.call hq hq2 (hF q) (.inl hfl)
        · split at h
          · rename_i hno
            injection h with h; injection h with h1 h2; subst h1; subst h2
            obtain ⟨args2, hargs2⟩ := Option.isSome_iff_exists.1 hno
            have hsub0 : ∀ b B, look ([] : List (Nat × Blk)) b = some B → look m b = some B := fun b B h => by simp [look] at h
            have he : args2 = args := by
              have key : ∀ (n : Nat) (c d : AV), exC [] n c = some d → ∀ m', exC m' n c = some d := by
                intro n
                induction n with
                | zero => intro c d h m'; cases c <;> simp only [exC] at h ⊢ <;> first | exact h | (cases h; done)
                | succ n ih =>
                  have hL : ∀ (cs ds : List AV) (m' : List (Nat × Blk)), cs.mapM (exC [] n) = some ds → cs.mapM (exC m' n) = some ds := by
                    intro cs
                    induction cs with
                    | nil => intro ds m' h; simpa using h
                    | cons c cs ihc =>
                      intro ds m' h
                      simp only [List.mapM_cons, Option.bind_eq_bind, Option.bind_eq_some_iff, Option.pure_def, Option.some.injEq] at h ⊢
                      obtain ⟨d, hd, ds', hds, rfl⟩ := h
                      exact ⟨d, ih c d hd m', ds', ihc ds' m' hds, rfl⟩
                  intro c d h m'
                  cases c <;> simp only [exC] at h ⊢ <;> try exact h
                  case agg cs =>
                    simp only [Option.map_eq_some_iff] at h ⊢
                    obtain ⟨ds, hds, rfl⟩ := h
                    exact ⟨ds, hL _ _ _ hds, rfl⟩
                  case tup cs =>
                    simp only [Option.map_eq_some_iff] at h ⊢
                    obtain ⟨ds, hds, rfl⟩ := h
                    exact ⟨ds, hL _ _ _ hds, rfl⟩
                  case fn f cs =>
                    simp only [Option.map_eq_some_iff] at h ⊢
                    obtain ⟨ds, hds, rfl⟩ := h
                    exact ⟨ds, hL _ _ _ hds, rfl⟩
                  case ref => simp [look] at h
                  case ptr => simp [look] at h
              have hL : ∀ (cs ds : List AV), cs.mapM (exC [] 4) = some ds → cs.mapM (exC mv 4) = some ds := by
                intro cs
                induction cs with
                | nil => intro ds h; simpa using h
                | cons c cs ihc =>
                  intro ds h
                  simp only [List.mapM_cons, Option.bind_eq_bind, Option.bind_eq_some_iff, Option.pure_def, Option.some.injEq] at h ⊢
                  obtain ⟨d, hd, ds', hds, rfl⟩ := h
                  exact ⟨d, key 4 c d hd mv, ds', ihc ds' hds, rfl⟩
              have := hL _ _ hargs2
              rw [hargs] at this; injection this with this; exact this.symm
            subst he
            have hVR : VRs w args2 noLocs I (vals ++ cvs) :=
              mapM_ok hargs2 hall fun c _ d x hd hxv => exC_ok hS hsub0 (fun k hk => hk) (fun b B l hb hl hn => by simp [look] at hb) 4 c d x hd hxv
            have hC := hT I w (vals ++ cvs) hS.immLt hVR
            rw [show vals.toArray ++ cvs.toArray = (vals ++ cvs).toArray by simp]
            refine hC.mono fun e w' ⟨x, he, hF⟩ => ⟨x, he, ?_⟩
            exact hS.call hq hq2 (hF q) (.inr fun k hk => hk)
          · cases h
      · cases h

theorem builtinA_ok (TO : TabOK P T) {b : Builtin} {tys : Array Nat} {xs : List AV} {vals : List Value} {v : AV} (h : builtinA T b tys xs = some v) (hx : VRs w xs μ I vals) (ty : Nat) (cs : Array Bool) :
    ∃ y, (builtin b tys ty cs vals.toArray).run P w = .ok (.value y) w ∧ VR w v μ I y := by
  unfold builtinA at h
  split at h <;> try (cases h; done)
  · rename_i x
    simp only [VRs] at hx
    obtain ⟨y, ys, rfl, hy, rfl⟩ := hx
    cases ht : tys[0]? with
    | none => rw [ht] at h; simp at h
    | some t0 =>
      rw [ht] at h
      simp only [Option.bind_some] at h
      have hlen : ∀ d, T.u t0 = some d → (underlying t0).run P w = .ok d w := fun d hd => run_und (TO.u _ _ hd) w
      split at h <;> try (cases h; done)
      · rename_i s hu
        injection h with h; subst h
        simp only [VR] at hy; subst hy
        refine ⟨_, ?_, by simp only [VR]; rfl⟩
        have hsz : (⟨s.toArray⟩ : ByteArray).size = s.length := by simp [ByteArray.size]
        simp [builtin, Builtin.len_, ht, hlen _ hu, goInt, hsz]
      · rename_i hu
        injection h with h; subst h
        simp only [VR] at hy; obtain ⟨a, rfl⟩ := hy
        refine ⟨_, ?_, by simp only [VR]; rfl⟩
        simp [builtin, Builtin.len_, ht, hlen _ hu, goInt]
      · rename_i hu
        injection h with h; subst h
        simp only [VR] at hy; obtain ⟨a, cap, rfl, _⟩ := hy
        refine ⟨_, ?_, by simp only [VR]; rfl⟩
        simp [builtin, Builtin.len_, ht, hlen _ hu, goInt]
      · rename_i hu
        injection h with h; subst h
        simp only [VR] at hy
        obtain ⟨l, hl, ⟨_, ⟨a, rfl⟩, _, rfl⟩ | ⟨_, cap, rfl, _⟩⟩ := hy
        · refine ⟨_, ?_, by simp only [VR]; rfl⟩
          simp [builtin, Builtin.len_, ht, hlen _ hu, goInt]
        · refine ⟨_, ?_, by simp only [VR]; rfl⟩
          simp [builtin, Builtin.len_, ht, hlen _ hu, goInt]
      · rename_i n e hu
        injection h with h; subst h
        refine ⟨_, ?_, by simp only [VR]; rfl⟩
        simp [builtin, Builtin.len_, ht, hlen _ hu, goInt]
  · rename_i k a k' b'
    simp only [VRs] at hx
    obtain ⟨y, ys, rfl, hy, z, zs, rfl, hz, rfl⟩ := hx
    injection h with h; subst h
    simp only [VR] at hy hz; subst hy; subst hz
    refine ⟨_, ?_, by simp only [VR]; rfl⟩
    simp [builtin, Builtin.min_, Builtin.min2]
  · rename_i k a k' b'
    simp only [VRs] at hx
    obtain ⟨y, ys, rfl, hy, z, zs, rfl, hz, rfl⟩ := hx
    injection h with h; subst h
    simp only [VR] at hy hz; subst hy; subst hz
    refine ⟨_, ?_, by simp only [VR]; rfl⟩
    simp [builtin, Builtin.max_, Builtin.max2]
end
end Go.AM
end
section
/- The abstract machine, part 10: every quiet operation. -/
set_option linter.unusedVariables false
set_option linter.unusedSimpArgs false
set_option linter.unnecessarySimpa false
namespace Go.AM
section
variable {P : Program} {T : Tab} {M0 A : Nat → Prop} {w0 w : World} {μ : Locs} {I : Nat → Prop} {m mv : List (Nat × Blk)} {q : Nat} {o : Oper} {a : Act} {t : List AV} {call : Nat → List AV → Option AV}

theorem kμ2 (μ : Locs) : kμ 2 μ = μ := by unfold kμ; simp
theorem kI2 (I : Nat → Prop) : kI 2 I = I := by unfold kI; simp

/-- An operation that only reads. -/
theorem Upon.pure {s : Sem Value} (hS : SR M0 A w0 w μ I m) {v : AV} (he : execOp a.eval o = (do pure (.value (← s)))) (h : ∃ y, s.run P w = .ok y w ∧ VR w v μ I y) :
    Upon P (QK M0 A w0 w μ I m q v []) ((execOp a.eval o).run P w) := by
  obtain ⟨y, hy, hv⟩ := h
  rw [he]
  simp only [Sem.run_bind, hy, Result.andThen_ok, Sem.run_pure]
  exact QK.same hS hv

theorem move_ok (hS : SR M0 A w0 w μ I m) (hq : ∀ b, q ≤ b → b < q + 16 → μ b = none) (ht : VRs w t μ I a.tmps.toList) {x : Operand} {v : AV} {adds : List (Nat × Blk)}
    (he : execOp a.eval o = pure (.value (a.eval x)))
    (h : (match ev t x with
      | .snil => match T.u o.type with
        | some (.slice e) => (T.z e).map fun z => (.ref q 0 0 z.1.length, [(q, ⟨[], 0, false⟩)])
        | _ => some (.snil, [])
      | v => some (v, []) : Option (AV × List (Nat × Blk))) = some (v, adds)) : Upon P (QK M0 A w0 w μ I m q v adds) ((execOp a.eval o).run P w) := by
  have hx := VR.ev ht x
  rw [he]
  simp only [Sem.run_pure]
  show QK M0 A w0 w μ I m q v adds (a.eval x) w
  split at h
  · rename_i hs
    rw [hs] at hx
    simp only [VR] at hx
    split at h
    · rename_i e hu
      simp only [Option.map_eq_some_iff, Prod.mk.injEq] at h
      obtain ⟨z, hz, h1, h2⟩ := h
      subst h1; subst h2
      have hqn := hq q (Nat.le_refl _) (by omega)
      have S : Stays μ (setLoc μ q ⟨0, 0, 0, true⟩) I I w w := setLoc_stays _ hqn (Keep.refl _ _) hS.immLt
      refine ⟨setLoc μ q ⟨0, 0, 0, true⟩, I, S, ⟨fun b B hb => ?_, fun b b' B B' l l' hb hb' hne hfz hl hl' hn hn' => ?_, hS.immLt, hS.immA, hS.immN, hS.keep⟩, fun b hb => setLoc_ne _ _ (by omega), ?_⟩
      · rw [look_append] at hb
        split at hb
        · rename_i B' hB
          injection hb with hb; subst hb
          obtain ⟨l, hl, hBO⟩ := hS.blks b _ hB
          refine ⟨l, S.loc _ _ hl, ?_⟩
          rcases hBO with h1 | ⟨h1, h2, h3, h4⟩
          · exact .inl h1
          · exact .inr ⟨h1, h2.stays S rfl, h3, h4⟩
        · simp only [look] at hb
          split at hb
          · rename_i e'
            injection hb with hb; subst hb
            have : b = q := by simpa using (beq_iff_eq.1 e').symm
            subst this
            exact ⟨_, setLoc_self _ _ _, .inl ⟨rfl, rfl⟩⟩
          · cases hb
      · have key : ∀ b B l, look (m ++ [(q, (⟨[], 0, false⟩ : Blk))]) b = some B → setLoc μ q ⟨0, 0, 0, true⟩ b = some l → l.isNil = false → look m b = some B ∧ μ b = some l := by
          intro b B l hb hl hn
          by_cases e' : b = q
          · subst e'; rw [setLoc_self] at hl; injection hl with hl; subst hl; cases hn
          · rw [setLoc_ne _ _ e'] at hl
            rw [look_append] at hb
            split at hb
            · rename_i B' hB; injection hb with hb; subst hb; exact ⟨hB, hl⟩
            · simp only [look] at hb
              split at hb
              · rename_i e''; exact absurd (by simpa using (beq_iff_eq.1 e'').symm) e'
              · cases hb
        obtain ⟨h1, h2⟩ := key b B l hb hl hn
        obtain ⟨h3, h4⟩ := key b' B' l' hb' hl' hn'
        exact hS.inj b b' B B' l l' h1 h3 hne hfz h2 h4 hn hn'
      · simp only [VR]
        exact ⟨_, setLoc_self _ _ _, .inl ⟨rfl, hx, by simp, by simp⟩⟩
    · injection h with h; injection h with h1 h2; subst h1; subst h2
      exact QK.same hS (by simpa only [VR] using hx)
  · injection h with h; injection h with h1 h2; subst h1; subst h2
    exact QK.same hS hx

theorem new_row {e : Nat} {w : World} {C : Array Value} : (newRow e C).run P w = .ok ⟨w.heap.size, 0, none⟩ (w.alloc (.cells C e)) := by
  simp [newRow]
theorem alloc_at (w : World) (o : Obj) : (w.alloc o).heap[w.heap.size]? = some o := by
  show (w.heap.push o)[w.heap.size]? = some o
  simp

theorem replicate_cells {z : List AV} {zv : List Value} (h : VRs w z μ I zv) : ∀ n, VRs w (List.replicate n z).flatten μ I (List.replicate n zv).flatten
  | 0 => by simp [VRs]
  | n + 1 => by simp only [List.replicate_succ, List.flatten_cons]; exact h.append (replicate_cells h n)
theorem range_map_mod (zv : Array Value) (n : Nat) : ((Array.range (n * zv.size)).map (zv[· % zv.size]!)).toList = (List.replicate n zv.toList).flatten := by
  apply List.ext_getElem?
  intro j
  simp only [Array.toList_map, Array.toList_range, List.getElem?_map]
  by_cases hj : j < n * zv.size
  · have hpos : 0 < zv.size := by
      rcases Nat.eq_zero_or_pos zv.size with h | h
      · rw [h] at hj; omega
      · exact h
    have hmod : j % zv.size < zv.size := Nat.mod_lt _ hpos
    rw [List.getElem?_range hj]
    simp only [Option.map_some]
    have key : ∀ n j, j < n * zv.size → (List.replicate n zv.toList).flatten[j]? = zv[j % zv.size]? := by
      intro n
      induction n with
      | zero => intro j hj; omega
      | succ n ih =>
        intro j hj
        rw [List.replicate_succ, List.flatten_cons, List.getElem?_append]
        split
        · rename_i h
          simp only [Array.length_toList] at h
          rw [Nat.mod_eq_of_lt h]; simp
        · rename_i h
          simp only [Array.length_toList] at h ⊢
          rw [ih (j - zv.size) (by rw [Nat.add_mul] at hj; omega)]
          congr 1
          exact (Nat.mod_eq_sub_mod (Nat.le_of_not_lt h)).symm
    rw [key n j hj]
    simp [hmod]
  · rw [List.getElem?_eq_none (by simp; omega), List.getElem?_eq_none (by simp; omega)]
    rfl

theorem Keep.bytesWorld (w : World) (e : TypeId) (s : ByteArray) : Keep noImm w (Lib.bytesWorld w e s) :=
  ⟨rfl, rfl, rfl, by rw [Lib.bytesWorld_size]; omega, fun k hk _ => Lib.bytesWorld_at_old w e s k hk⟩

theorem convA_ok (TO : TabOK P T) (hS : SR M0 A w0 w μ I m) (hsub : ∀ b B, look mv b = some B → look m b = some B) (hqn : μ q = none) {src dst : Nat} {x v : AV} {xv : Value} {adds : List (Nat × Blk)}
    (h : convA T src dst mv q x = some (v, adds)) (hx : VR w x μ I xv) : ∃ y w', (convert src dst xv).run P w = .ok y w' ∧ QK M0 A w0 w μ I m q v adds y w' := by
  unfold convA at h
  split at h <;> try (cases h; done)
  · rename_i k0 k k1 n hu1 hu2
    injection h with h; injection h with h1 h2; subst h1; subst h2
    simp only [VR] at hx; subst hx
    refine ⟨.int k (k.wrap n), w, ?_, QK.same hS (by simp [VR])⟩
    simp [convert, run_und (TO.u _ _ hu1), run_und (TO.u _ _ hu2), Conv.intToInt]
  · rename_i s hu1 hu2
    injection h with h; injection h with h1 h2; subst h1; subst h2
    have hx' := hx
    simp only [VR] at hx; subst hx
    refine ⟨_, w, ?_, QK.same hS hx'⟩
    simp [convert, run_und (TO.u _ _ hu1), run_und (TO.u _ _ hu2)]
  · rename_i e s hu1 hu2
    split at h
    · rename_i hu3
      injection h with h; injection h with h1 h2; subst h1; subst h2
      simp only [VR] at hx; subst hx
      have hsz : (⟨s.toArray⟩ : ByteArray).size = s.length := by simp [ByteArray.size]
      have hcap := grownCap_ge w (⟨s.toArray⟩ : ByteArray).size 0 e
      have hC : (Lib.bytesCells w e ⟨s.toArray⟩).size = grownCap w (⟨s.toArray⟩ : ByteArray).size 0 e := by
        simp only [Lib.bytesCells, Array.size_append, Array.size_map, Array.size_replicate]
        have : (⟨s.toArray⟩ : ByteArray).data.size = (⟨s.toArray⟩ : ByteArray).size := rfl
        rw [this]; omega
      refine ⟨_, _, Lib.run_convert_string_bytes w src dst e ⟨s.toArray⟩ (TO.u _ _ hu1) (TO.u _ _ hu2) (TO.u _ _ hu3), ?_⟩
      refine QK.new (vs := s.map fun c => .int .u8 c.toNat) hS hqn (Lib.bytesWorld_at_new w e ⟨s.toArray⟩) (.inr (Nat.le_refl _)) (Keep.bytesWorld w e _) ?_ ?_ (grownCap w (⟨s.toArray⟩ : ByteArray).size 0 e) (by simp; omega) (by omega) (by intro h; omega) ?_
      · refine VRs.of_get (by simp) fun j c x hc hx => ?_
        simp only [List.getElem?_map, Option.map_eq_some_iff] at hc hx
        obtain ⟨b, hb, rfl⟩ := hc
        obtain ⟨b', hb', rfl⟩ := hx
        rw [hb] at hb'; injection hb' with hb'; subst hb'
        simp [VR]
      · intro j x hx
        simp only [List.getElem?_map, Option.map_eq_some_iff] at hx
        obtain ⟨b, hb, rfl⟩ := hx
        have hlt : j < s.length := by
          rcases Nat.lt_or_ge j s.length with h | h
          · exact h
          · rw [List.getElem?_eq_none h] at hb; cases hb
        simp only [Lib.bytesCells]
        rw [Array.getElem?_append_left (by simp; exact hlt)]
        simp [hb]
      · simp only [VR]
        exact ⟨_, setLoc_self _ _ _, .inr ⟨rfl, grownCap w (⟨s.toArray⟩ : ByteArray).size 0 e, by simp [hsz], by omega, by simp⟩⟩
    · cases h
  · rename_i e hu1 hu2
    split at h
    · rename_i hu3
      have hrun : ∀ a l c, (convert src dst (.slice a l c)).run P w = (Conv.bytesToString (.slice a l c)).run P w := by
        intro a l c
        simp [convert, run_und (TO.u _ _ hu1), run_und (TO.u _ _ hu2), run_und (TO.u _ _ hu3)]
      split at h
      · injection h with h; injection h with h1 h2; subst h1; subst h2
        simp only [VR] at hx; obtain ⟨a, rfl⟩ := hx
        refine ⟨.string ⟨#[]⟩, w, ?_, QK.same hS (by simp [VR])⟩
        rw [hrun]
        cases a with
        | none => simp [Conv.bytesToString]; rfl
        | some a => simp [Conv.bytesToString, loadCells, loadCellsFrom]; rfl
      · rename_i fl cs len
        simp only [VR] at hx
        obtain ⟨a, cap, rfl, hcap, hn, hx⟩ := hx
        split at h
        · rename_i h0
          injection h with h; injection h with h1 h2; subst h1; subst h2
          refine ⟨.string ⟨#[]⟩, w, ?_, QK.same hS (by simp [VR])⟩
          rw [hrun]
          subst h0
          cases a with
          | none => simp [Conv.bytesToString]; rfl
          | some a => simp [Conv.bytesToString, loadCells, loadCellsFrom]; rfl
        · rename_i h0
          split at h
          · rename_i hlen
            simp only [Option.map_eq_some_iff, Prod.mk.injEq] at h
            obtain ⟨s, hs, h1, h2⟩ := h
            subst h1; subst h2
            rcases hx with rfl | ⟨ad, vs, rfl, hI, hc, hv⟩
            · simp at hlen; exact absurd hlen h0
            · refine ⟨.string ⟨s.toArray⟩, w, ?_, QK.same hS (by simp [VR])⟩
              rw [hrun]; exact run_toString ad vs len cap (by rw [hv.length]; exact hlen) hc hs (hv.take len)
          · cases h
      · rename_i b off len sz
        simp only [Option.bind_eq_some_iff] at h
        obtain ⟨B, hB, h⟩ := h
        split at h
        · rename_i hlen
          simp only [Option.map_eq_some_iff, Prod.mk.injEq] at h
          obtain ⟨s, hs, h1, h2⟩ := h
          subst h1; subst h2
          obtain ⟨l, hl, hBO⟩ := hS.blks b B (hsub b B hB)
          simp only [VR] at hx
          obtain ⟨l', hl', hx⟩ := hx
          rw [hl] at hl'; injection hl' with e'; subst e'
          rcases hx with ⟨hnil, ⟨a, rfl⟩, rfl, rfl⟩ | ⟨hnil, cap, rfl, hcap, hlim⟩
          · simp [bytesOf] at hs; subst hs
            refine ⟨.string ⟨#[]⟩, w, ?_, QK.same hS (by simp [VR])⟩
            rw [hrun]
            cases a with
            | none => simp [Conv.bytesToString]; rfl
            | some a => simp [Conv.bytesToString, loadCells, loadCellsFrom]; rfl
          · have hB2 : Held w μ I B l := by
              rcases hBO with ⟨h1, _⟩ | ⟨_, h2, _⟩
              · rw [hnil] at h1; cases h1
              · exact h2
            obtain ⟨vs, hc, hvs⟩ := CellsAt.of_held hB2 off
            refine ⟨.string ⟨s.toArray⟩, w, ?_, QK.same hS (by simp [VR])⟩
            rw [hrun]; exact run_toString _ (vs.drop off) len cap (by have := (hvs.drop off).length; omega) hc hs ((hvs.drop off).take len)
        · cases h
      · cases h
    · cases h

theorem qop_ok (TO : TabOK P T) (CO : QOK P call) (hS : SR M0 A w0 w μ I m) (hsub : ∀ b B, look mv b = some B → look m b = some B)
    (hq : ∀ b, q ≤ b → b < q + 16 → μ b = none) (ht : VRs w t μ I a.tmps.toList) {v : AV} {adds : List (Nat × Blk)}
    (h : qop T call q t mv o = some (v, adds)) : Upon P (QK M0 A w0 w μ I m q v adds) ((execOp a.eval o).run P w) := by
  have hqn := hq q (Nat.le_refl _) (by omega)
  have hpure : ∀ {s : Sem Value} {r : Option AV}, execOp a.eval o = (do pure (.value (← s))) → r.map (fun x => (x, ([] : List (Nat × Blk)))) = some (v, adds) →
      (∀ v', r = some v' → ∃ y, s.run P w = .ok y w ∧ VR w v' μ I y) → Upon P (QK M0 A w0 w μ I m q v adds) ((execOp a.eval o).run P w) := by
    intro s r he hr hy
    simp only [Option.map_eq_some_iff, Prod.mk.injEq] at hr
    obtain ⟨v', rfl, rfl, rfl⟩ := hr
    exact Upon.pure hS he (hy _ rfl)
  have ho := o.op
  unfold qop at h
  split at h <;> rename_i heq
  · exact move_ok hS hq ht (by unfold execOp; rw [heq]) h
  · exact move_ok hS hq ht (by unfold execOp; rw [heq]) h
  · rename_i c x y
    have hc := VR.ev ht c
    split at h
    · rename_i b hb
      rw [hb] at hc; simp only [VR] at hc
      injection h with h; injection h with h1 h2; subst h1; subst h2
      have : (execOp a.eval o).run P w = .ok (.value (if b then a.eval x else a.eval y)) w := by
        unfold execOp; rw [heq]; simp [hc, asBool]
      rw [this]
      refine QK.same hS ?_
      cases b
      · exact VR.ev ht y
      · exact VR.ev ht x
    · cases h
  · exact hpure (by unfold execOp; rw [heq]) h fun v' hv' => loadA_ok TO hS hsub hv' (VR.ev ht _)
  · rename_i x
    have hx := VR.ev ht x
    split at h
    · rename_i b off hb
      injection h with h; injection h with h1 h2; subst h1; subst h2
      rw [hb] at hx
      have hx' := hx
      simp only [VR] at hx
      obtain ⟨l, _, _, hx⟩ := hx
      have : (execOp a.eval o).run P w = .ok (.value (a.eval x)) w := by
        unfold execOp; rw [heq]; simp [hx]
      rw [this]
      exact QK.same hS hx'
    · rename_i cs hb
      injection h with h; injection h with h1 h2; subst h1; subst h2
      rw [hb] at hx
      have hx' := hx
      simp only [VR] at hx
      obtain ⟨ad, hx, _⟩ := hx
      have : (execOp a.eval o).run P w = .ok (.value (a.eval x)) w := by
        unfold execOp; rw [heq]; simp [hx]
      rw [this]
      exact QK.same hS hx'
    · rename_i f cs hb
      injection h with h; injection h with h1 h2; subst h1; subst h2
      rw [hb] at hx
      have hx' := hx
      simp only [VR] at hx
      obtain ⟨vs, hx, _⟩ := hx
      have : (execOp a.eval o).run P w = .ok (.value (a.eval x)) w := by
        unfold execOp; rw [heq]; unfold mkFn at hx
        split at hx <;> simp [hx]
      rw [this]
      exact QK.same hS hx'
    · cases h
  · rename_i op ty x y yt
    exact hpure (s := do eqGuard op ty x y (a.eval x) (a.eval y); binOp op ty (a.eval x) (a.eval y)) (by unfold execOp; rw [heq]) h fun v' hv' => binA_ok TO hv' (VR.ev ht _) (VR.ev ht _)
  · exact hpure (by unfold execOp; rw [heq]) h fun v' hv' => unA_ok hv' (VR.ev ht _)
  · rename_i src dst x
    obtain ⟨y, w', hy, hk⟩ := convA_ok TO hS hsub hqn h (VR.ev ht x)
    have : (execOp a.eval o).run P w = .ok (.value y) w' := by
      unfold execOp; rw [heq]; simp [hy]
    rw [this]
    exact hk
  · rename_i ty
    simp only [Option.map_eq_some_iff, Prod.mk.injEq] at h
    obtain ⟨⟨z, by_⟩, hz, h1, h2⟩ := h
    subst h1; subst h2
    obtain ⟨zv, hzr, hzv, hzc, hzs⟩ := zero_cells TO hz
    have : (execOp a.eval o).run P w = .ok (.value (.pointer (some ⟨w.heap.size, 0, none⟩))) (w.alloc (.cells zv.cells ty)) := by
      unfold execOp; rw [heq]; simp [Instr.alloc, hzr, newVar, newRow]
    rw [this]
    exact QK.new (vs := zv.cells.toList) hS hqn (alloc_at _ _) (.inl rfl) (Keep.alloc _ _) ((hzv w).flat_to _ _) (fun j x hx => by simpa using hx) z.length (Nat.le_refl _) (by omega) (fun _ => rfl)
      (by simp only [VR]; exact ⟨_, setLoc_self _ _ _, rfl, by simp⟩)
  · rename_i ty x
    split at h
    · rename_i z by_ cs hz hcs
      split at h
      · rename_i hlen
        injection h with h; injection h with h1 h2; subst h1; subst h2
        obtain ⟨hv, hc⟩ := cellsOf_ok hcs (VR.ev ht x)
        have : (execOp a.eval o).run P w = .ok (.value (.pointer (some ⟨w.heap.size, 0, none⟩))) (w.alloc (.cells (a.eval x).cells ty)) := by
          unfold execOp; rw [heq]; simp [Instr.box, newVar, newRow]
        rw [this]
        have hl := hv.length
        simp only [Array.length_toList] at hl
        exact QK.new (vs := (a.eval x).cells.toList) hS hqn (alloc_at _ _) (.inl rfl) (Keep.alloc _ _) (by rw [kμ2, kI2]; exact hv) (fun j x hx => by simpa using hx) cs.length (Nat.le_refl _) (by omega) (fun _ => rfl)
          (by simp only [VR]; exact ⟨_, setLoc_self _ _ _, rfl, by simp⟩)
      · cases h
    · cases h
  · exact hpure (by unfold execOp; rw [heq]) h fun v' hv' => buildA_ok TO ht hv'
  · rename_i ty len ps
    split at h
    · rename_i e hu
      split at h
      · rename_i z by_ hz
        split at h
        · rename_i hlen
          simp only [Option.map_eq_some_iff, Prod.mk.injEq] at h
          obtain ⟨cs, hcs, h1, h2⟩ := h
          subst h1; subst h2
          obtain ⟨zv, hzr, hzv, hzc, hzs⟩ := zero_cells TO hz
          have hrep : ∀ n, cellL (List.replicate n z).flatten = true := by
            intro n
            induction n with
            | zero => rfl
            | succ n ih => rw [List.replicate_succ, List.flatten_cons]; exact cellL_append hzc ih
          have hcells : (zz : Array Value) → (zz = if len * z.length = 0 then #[] else zv.cells) → ((Array.range (len * z.length)).map (zz[· % zz.size]!)).toList = (List.replicate len zv.cells.toList).flatten := by
            intro zz hzz
            split at hzz
            · rename_i h0
              subst hzz
              rw [h0]
              have : (List.replicate len zv.cells.toList).flatten = [] := by
                rw [List.eq_nil_iff_length_eq_zero]
                simp [hzs, h0]
              simp [this]
            · subst hzz
              rw [← hzs]; exact range_map_mod _ _
          obtain ⟨cs', hf, hv', hc'⟩ := fill_ok (w := w) (μ := μ) (I := I) _ (ps.map fun (i, x) => (i, a.eval x)).toList _ cs ((Array.range (len * z.length)).map ((if len * z.length = 0 then #[] else zv.cells : Array Value)[· % (if len * z.length = 0 then #[] else zv.cells : Array Value).size]!)) (by rw [hcells _ rfl]; exact replicate_cells ((hzv w).flat_to μ I) len) (hrep len) hcs (by simp) (evparts ht ps)
          have hl := hv'.length
          simp only [Array.length_toList] at hl
          have hcsl : cs.length = len * z.length := by
            have key : ∀ (ps : List (Nat × AV)) (cells out : List AV) pl, fillA pl cells ps = some out → out.length = cells.length := by
              intro ps
              induction ps with
              | nil => intro cells out pl h; simp [fillA] at h; subst h; rfl
              | cons p ps ih =>
                intro cells out pl h
                obtain ⟨i, p⟩ := p
                simp only [fillA] at h
                split at h
                · split at h
                  · rename_i hb
                    rw [ih _ _ _ h]
                    simp; omega
                  · cases h
                · cases h
            rw [key _ _ _ _ hcs]; simp
          have : (execOp a.eval o).run P w = .ok (.value (.slice (some ⟨w.heap.size, 0, none⟩) len len)) (w.alloc (.cells cs' e)) := by
            unfold execOp; rw [heq]
            have h24 : ¬ (len * z.length > 2 ^ 24) := by omega
            have hf' : Instr.fill (fun i => some (i * z.length, z.length)) ((Array.range (len * z.length)).map ((if len * z.length = 0 then #[] else zv.cells : Array Value)[· % (if len * z.length = 0 then #[] else zv.cells : Array Value).size]!)) (Array.map (fun x => (x.fst, a.eval x.snd)) ps).toList = some cs' := hf
            by_cases h0 : len * z.length = 0
            · simp only [h0, if_true] at hf'
              simp only [Instr.buildSlice, Sem.run_bind, run_und (TO.u _ _ hu), TO.size hz, Result.andThen_ok, Sem.run_pure, h0, if_true, if_neg (show ¬ (0 > 2 ^ 24) by decide)]
              rw [hf']
              simp [newRow]
            · simp only [h0, if_false] at hf'
              simp only [Instr.buildSlice, Sem.run_bind, run_und (TO.u _ _ hu), TO.size hz, Result.andThen_ok, if_neg h24, Sem.run_pure, h0, if_false, hzr]
              rw [hf']
              simp [newRow]
          rw [this]
          exact QK.new (vs := cs'.toList) hS hqn (alloc_at _ _) (.inl rfl) (Keep.alloc _ _) (kL_ok hv') (fun j x hx => by simpa using hx) cs.length (Nat.le_refl _) (by omega) (fun _ => rfl)
            (by simp only [VR]; exact ⟨_, setLoc_self _ _ _, .inr ⟨rfl, len, by simp, Nat.le_refl _, by simp [hcsl]⟩⟩)
        · cases h
      · cases h
    · cases h
  · rename_i ty n c
    have hn := VR.ev ht n
    have hc := VR.ev ht c
    split at h
    · rename_i e n' c' hu h1 h2
      rw [h1] at hn; rw [h2] at hc
      simp only [VR] at hn hc
      split at h
      · rename_i z by_ hz
        split at h
        · rename_i hb
          obtain ⟨rfl, hb1, hb2, hb3⟩ := hb
          injection h with h; injection h with e1 e2; subst e1; subst e2
          obtain ⟨zv, hzr, hzv, hzc, hzs⟩ := zero_cells TO hz
          obtain ⟨i, zv', hi, _, hsz, hby, _⟩ := TO.z _ _ _ hz
          have hw : IntKind.i64.wrap n' = n' := by rw [IntKind.wrap_i64]; omega
          have hbig : (by_ : Int) * n' ≤ 1000000000000 := by
            have : by_ * n'.toNat ≤ 1000 * 1000000000 := Nat.mul_le_mul hb3 (by omega)
            have e : ((by_ * n'.toNat : Nat) : Int) = (by_ : Int) * n' := by
              rw [Int.natCast_mul]; congr 1; omega
            omega
          have hcells : (zz : Array Value) → (zz = if n'.toNat * z.length = 0 then #[] else zv.cells) → ((Array.range (n'.toNat * z.length)).map (zz[· % zz.size]!)).toList = (List.replicate n'.toNat zv.cells.toList).flatten := by
            intro zz hzz
            split at hzz
            · rename_i h0
              subst hzz
              rw [h0]
              have : (List.replicate n'.toNat zv.cells.toList).flatten = [] := by
                rw [List.eq_nil_iff_length_eq_zero]
                simp [hzs, h0]
              simp [this]
            · subst hzz
              rw [← hzs]; exact range_map_mod _ _
          have hr : ∃ C : Array Value, (execOp a.eval o).run P w = .ok (.value (.slice (some ⟨w.heap.size, 0, none⟩) n'.toNat n'.toNat)) (w.alloc (.cells C e)) ∧ C.toList = (List.replicate n'.toNat zv.cells.toList).flatten := by
            refine ⟨(Array.range (n'.toNat * z.length)).map ((if n'.toNat * z.length = 0 then #[] else zv.cells : Array Value)[· % (if n'.toNat * z.length = 0 then #[] else zv.cells : Array Value).size]!), ?_, hcells _ rfl⟩
            unfold execOp; rw [heq]
            have t1 : ¬ (n' < 0 ∨ 281474976710656 < (i.bytes : Int) * n') := by rw [hby]; omega
            have t2 : ¬ n' < 0 := by omega
            have t3 : ¬ (281474976710656 < (i.bytes : Int) * n') := fun hh => t1 (.inr hh)
            by_cases h0 : n'.toNat * z.length = 0
            · simp [Instr.makeSlice, run_und (TO.u _ _ hu), hn, hc, asInt, asIntOf, run_tinfo hi, hw, t1, t2, t3, TO.size hz, h0, newRow]
            · simp [Instr.makeSlice, run_und (TO.u _ _ hu), hn, hc, asInt, asIntOf, run_tinfo hi, hw, t1, t2, t3, TO.size hz, h0, hzr, newRow]
          obtain ⟨C, hrun, hCl⟩ := hr
          rw [hrun]
          have hlen : (List.replicate n'.toNat z).flatten.length = n'.toNat * z.length := by simp
          have hkz : kdL z = kdL z := rfl
          have hkd0 : VRs w (List.replicate n'.toNat z).flatten (kμ (kdL z) μ) (kI (kdL z) I) C.toList := by
            rw [hCl]; exact replicate_cells ((hzv w).flat_to _ _) _
          have hl := hkd0.length
          simp only [Array.length_toList] at hl
          exact QK.new (vs := C.toList) hS hqn (alloc_at _ _) (.inl rfl) (Keep.alloc _ _) hkd0 (fun j x hx => by simpa using hx) _ (Nat.le_refl _) (by omega) (fun _ => rfl)
            (by simp only [VR]; exact ⟨_, setLoc_self _ _ _, .inr ⟨rfl, n'.toNat, by simp, Nat.le_refl _, by simp [hlen]⟩⟩)
        · cases h
      · cases h
    · cases h
  · exact hpure (by unfold execOp; rw [heq]) h fun v' hv' => fieldAddrA_ok TO hv' (VR.ev ht _)
  · exact hpure (by unfold execOp; rw [heq]) h fun v' hv' => fieldA_ok TO hv' (VR.ev ht _)
  · exact hpure (by unfold execOp; rw [heq]) h fun v' hv' => indexAddrA_ok TO hv' (VR.ev ht _) (VR.ev ht _)
  · exact hpure (by unfold execOp; rw [heq]) h fun v' hv' => indexA_ok TO hv' (VR.ev ht _) (VR.ev ht _)
  · rename_i ty x lo hi mx
    split at h
    · rename_i l' h' m' e1 e2 e3
      exact hpure (by unfold execOp; rw [heq]) h fun v' hv' => sliceA_ok TO hS hsub (optEv_ok ht e1) (optEv_ok ht e2) (optEv_ok ht e3) hv' (VR.ev ht _)
    · cases h
  · rename_i x i
    have hx := VR.ev ht x
    split at h
    · rename_i cs hcs
      rw [hcs] at hx
      simp only [VR] at hx
      obtain ⟨vs, hx, hv⟩ := hx
      refine hpure (s := Instr.extract (a.eval x) i) (by unfold execOp; rw [heq]) h fun v' hv' => ?_
      obtain ⟨y, hy, hvy⟩ := hv.get hv'
      exact ⟨y, by simp [Instr.extract, hx, hy], hvy⟩
    · cases h
  · rename_i f first caps
    split at h <;> try (cases h; done)
    rename_i hf9
    have hrun : (execOp a.eval o).run P w = .ok (.value (.func (.func f) (first.map a.eval) (caps.map a.eval))) w := by
      unfold execOp; rw [heq]
      simp [Instr.makeFunc]
    rw [hrun]
    split at h
    · rename_i hf
      injection h with h; injection h with h1 h2; subst h1; subst h2
      have hfe : first = #[] := by simpa using hf
      subst hfe
      have mk1 : (Value.func (.func f) ((#[] : Array Operand).map a.eval) (caps.map a.eval)) = mkFn f (caps.map a.eval).toList := by
        unfold mkFn; rw [if_pos hf9]; generalize caps.map a.eval = c; cases c; simp
      refine QK.same hS ?_
      simp only [VR]
      exact ⟨(caps.map a.eval).toList, mk1, evs_ok ht caps⟩
    · split at h <;> try (cases h; done)
      rename_i hc
      injection h with h; injection h with h1 h2; subst h1; subst h2
      have hce : caps = #[] := by simpa using hc
      subst hce
      have mk2 : (Value.func (.func f) (first.map a.eval) ((#[] : Array Operand).map a.eval)) = mkFn (f + 1000000000) (first.map a.eval).toList := by
        unfold mkFn; rw [low_add, if_neg (by simp), unbind_add]; generalize first.map a.eval = c; cases c; simp
      refine QK.same hS ?_
      simp only [VR]
      exact ⟨(first.map a.eval).toList, mk2, evs_ok ht first⟩
  · rename_i c
    split at h
    · rename_i b hb
      have he : execOp a.eval o = (do let d ← resolve a.eval c o.type; invoke d.target d.args) := by unfold execOp; rw [heq]
      simp only [Option.map_eq_some_iff, Prod.mk.injEq] at h
      obtain ⟨v', hv', rfl, rfl⟩ := h
      have hb2 : ∀ cs, Upon P (QK M0 A w0 w μ I m q v' []) ((builtin b c.argTypes o.type cs (c.args.map a.eval)).run P w) := by
        intro cs
        obtain ⟨y, hy, hvy⟩ := builtinA_ok (P := P) (w := w) TO hv' (evs_ok ht c.args) o.type cs
        rw [Array.toArray_toList] at hy
        rw [hy]
        exact QK.same hS hvy
      rw [he]
      simp only [resolve, hb, Sem.run_bind, Sem.run_pure, Result.andThen_ok, invoke]
      exact hb2 _
    · rename_i f hf
      have he : execOp a.eval o = (do let d ← resolve a.eval c o.type; invoke d.target d.args) := by unfold execOp; rw [heq]
      obtain ⟨g, caps, hfv, ⟨fn, h1, h2, h3⟩, hC⟩ := callA_ok CO hS hsub hq h (VR.ev ht f) (evs_ok ht c.args)
      rw [he]
      simp only [resolve, hf, hfv, Deferred.ofValue, Sem.run_bind, Sem.run_pure, Result.andThen_ok, invoke]
      rw [Array.toArray_toList] at hC
      rw [show (#[] ++ c.args.map a.eval ++ caps) = c.args.map a.eval ++ caps by simp, run_callFunc h1 h2 h3]
      exact hC
    · cases h
  · cases h
end
end Go.AM
end
section
/- The abstract machine, part 11: what is written. -/
set_option linter.unusedVariables false
set_option linter.unusedSimpArgs false
set_option linter.unnecessarySimpa false
namespace Go.AM

def frz (ids : List Nat) : List (Nat × Blk) → List (Nat × Blk)
  | [] => []
  | (k, B) :: r => (k, if ids.contains k then ⟨B.cs, B.kd, true⟩ else B) :: frz ids r
def only (ids : List Nat) : List (Nat × Blk) → List (Nat × Blk)
  | [] => []
  | (k, B) :: r => if ids.contains k then (k, B) :: only ids r else only ids r
/-- The own blocks that a value names. -/
def refs (m : List (Nat × Blk)) : Nat → AV → List Nat
  | n + 1, .ref b _ _ _ => b :: (match look m b with | some B => if B.kd ≤ 1 then [] else B.cs.flatMap (refs m n) | none => [])
  | n + 1, .ptr b _ => b :: (match look m b with | some B => if B.kd ≤ 1 then [] else B.cs.flatMap (refs m n) | none => [])
  | n + 1, .agg cs => cs.flatMap (refs m n)
  | n + 1, .tup cs => cs.flatMap (refs m n)
  | n + 1, .fn _ cs => cs.flatMap (refs m n)
  | _, _ => []

/-- A cell is written, or some that lie side by side. -/
def storeA (T : Tab) (m : List (Nat × Blk)) (ty : Nat) (a v : AV) : Option (List (Nat × Blk)) :=
  match a, T.z ty, cellsOf v with
  | .ptr b off, some (z, _), some cs =>
    match look m b with
    | some B => if B.fz = false ∧ cs.length = z.length ∧ off + cs.length ≤ B.cs.length ∧ kdL cs ≤ B.kd then
        some (upd m b ⟨B.cs.take off ++ cs ++ B.cs.drop (off + cs.length), B.kd, false⟩) else none
    | none => none
  | _, _, _ => none

/-- What is appended: cells, how many, their kind. -/
def newsA (m : List (Nat × Blk)) (y : AV) (sz : Nat) : Option (List AV × Nat × Nat) :=
  match y with
  | .snil => some ([], 0, 0)
  | .sl fl cs len => if len * sz ≤ cs.length ∧ cellL (cs.take (len * sz)) = true then some (cs.take (len * sz), len, if fl then 0 else 1) else none
  | .ref b off len sz' => if sz' = sz then (match look m b with
      | some B => if off + len * sz ≤ B.cs.length ∧ cellL ((B.cs.drop off).take (len * sz)) = true then some ((B.cs.drop off).take (len * sz), len, B.kd) else none
      | none => none) else none
  | .str s => if sz = 1 then some (s.map fun c => .int .u8 c.toNat, s.length, 0) else none
  | _ => none
def seqD : TypeDesc → Bool
  | .slice _ | .string => true
  | _ => false
/-- The cells as they may lie in a row: closed; which own blocks they name. -/
def deepA (m : List (Nat × Blk)) (raw : List AV) (kd : Nat) : Option (List AV × Nat × List Nat) :=
  if kd ≤ 1 then some (raw, kd, [])
  else match raw.mapM (exC (only (raw.flatMap (refs m 4)) m) 4) with
    | some news => if kdL news ≤ 1 then some (news, kdL news, raw.flatMap (refs m 4)) else none
    | none => none
def appA (T : Tab) (m : List (Nat × Blk)) (q : Nat) (tys : Array Nat) (x y : AV) : Option (AV × List (Nat × Blk)) :=
  match (tys[0]?).bind T.u, (tys[1]?).bind T.u with
  | some (.slice e), some d =>
    if seqD d then
      match T.z e with
      | some (z, by_) =>
        match newsA m y z.length with
        | some (raw, n, kd) =>
          match deepA m raw kd with
          | some (news, kd', ids) =>
            if by_ ≤ 1000 then
              match x with
              | .snil => if n = 0 then some (.snil, m) else if n ≤ 1000000000 then some (.ref q 0 n z.length, frz ids m ++ [(q, ⟨news, kd', false⟩)]) else none
              | .ref b off len sz =>
                match look (frz ids m) b with
                | some B => if B.fz = false ∧ B.kd ≤ 1 ∧ sz = z.length ∧ off + len * sz = B.cs.length ∧ len + n ≤ 1000000000 then
                    some (.ref q 0 (len + n) sz, del (frz ids m) b ++ [(q, ⟨B.cs.drop off ++ news, max B.kd kd', false⟩)]) else none
                | none => none
              | _ => none
            else none
          | none => none
        | none => none
      | none => none
    else none
  | _, _ => none

/-- What any operation leaves. -/
def EK (M0 A : Nat → Prop) (w0 w : World) (μ : Locs) (I : Nat → Prop) (q : Nat) (v : AV) (m' : List (Nat × Blk)) : Value → World → Prop := fun x w' =>
  ∃ μ' I', Stays μ μ' I I' w w' ∧ SR M0 A w0 w' μ' I' m' ∧ (∀ b, b < q ∨ q + 16 ≤ b → μ' b = μ b) ∧ VR w' v μ' I' x

section
variable {P : Program} {T : Tab} {M0 A : Nat → Prop} {w0 w w' : World} {μ : Locs} {I : Nat → Prop} {m m' mv : List (Nat × Blk)} {q : Nat} {o : Oper} {a : Act} {t : List AV} {call : Nat → List AV → Option AV}

theorem look_frz (ids : List Nat) (m : List (Nat × Blk)) (b : Nat) : look (frz ids m) b = (look m b).map fun B => if ids.contains b then ⟨B.cs, B.kd, true⟩ else B := by
  induction m with
  | nil => rfl
  | cons x m ih =>
    obtain ⟨k, B⟩ := x
    simp only [frz, look]
    by_cases h : (k == b) = true
    · rw [if_pos h, if_pos h]
      have : k = b := by simpa using h
      subst this; rfl
    · rw [if_neg h, if_neg h]; exact ih
theorem look_only (ids : List Nat) (m : List (Nat × Blk)) (b : Nat) (B : Blk) (h : look (only ids m) b = some B) : look m b = some B ∧ ids.contains b = true := by
  induction m with
  | nil => simp [only, look] at h
  | cons x m ih =>
    obtain ⟨k, C⟩ := x
    simp only [only] at h
    simp only [look]
    by_cases hk : (k == b) = true
    · have : k = b := by simpa using hk
      subst this
      rw [if_pos hk]
      split at h
      · rename_i hc
        simp only [look, hk, if_true] at h
        exact ⟨h, hc⟩
      · rename_i hc
        exact absurd (ih h).2 hc
    · rw [if_neg hk]
      split at h
      · simp only [look, hk] at h; exact ih (by simpa using h)
      · exact ih h
theorem look_del (m : List (Nat × Blk)) (b x : Nat) : look (del m b) x = if x = b then none else look m x := by
  induction m with
  | nil => simp [del, look]
  | cons y m ih =>
    obtain ⟨k, C⟩ := y
    simp only [del]
    by_cases hk : (k == b) = true
    · have : k = b := by simpa using hk
      subst this
      rw [if_pos hk, ih]
      split
      · rfl
      · rename_i hx
        simp only [look]
        rw [if_neg (by simpa using fun e => hx e.symm)]
    · rw [if_neg hk]
      simp only [look]
      by_cases hx : (k == x) = true
      · rw [if_pos hx, if_pos hx]
        have : k = x := by simpa using hx
        subst this
        rw [if_neg (by simpa using hk)]
      · rw [if_neg hx, if_neg hx, ih]
theorem look_upd {m : List (Nat × Blk)} {b : Nat} {B B' : Blk} (hb : look m b = some B) (x : Nat) : look (upd m b B') x = if x = b then some B' else look m x := by
  induction m with
  | nil => simp [look] at hb
  | cons y m ih =>
    obtain ⟨k, C⟩ := y
    simp only [upd]
    by_cases hk : (k == b) = true
    · have : k = b := by simpa using hk
      subst this
      rw [if_pos hk]
      simp only [look]
      by_cases hx : (k == x) = true
      · have : k = x := by simpa using hx
        subst this; simp
      · rw [if_neg hx, if_neg hx, if_neg (by simpa using fun e => hx (by simp [e]))]
    · rw [if_neg hk]
      simp only [look] at hb ⊢
      rw [if_neg hk] at hb
      by_cases hx : (k == x) = true
      · have : k = x := by simpa using hx
        subst this
        rw [if_pos hx, if_pos hx, if_neg (by simpa using hk)]
      · rw [if_neg hx, if_neg hx, ih hb]

/-- Fewer blocks. -/
theorem SR.sub (hS : SR M0 A w0 w μ I m) (h : ∀ b B, look m' b = some B → look m b = some B) : SR M0 A w0 w μ I m' :=
  ⟨fun b B hb => hS.blks b B (h b B hb), fun b b' B B' l l' hb hb' => hS.inj b b' B B' l l' (h b B hb) (h b' B' hb'), hS.immLt, hS.immA, hS.immN, hS.keep⟩

/-- One own block is written; it may go by another name from now on. -/
theorem SR.wrote {b : Nat} {B B' : Blk} {l l' : Loc} (hS : SR M0 A w0 w μ I m) (hb : look m b = some B) (hl : μ b = some l) (hn : l.isNil = false) (hfz : B.fz = false) (hfz' : B'.fz = false)
    (hq : (q = b ∧ l' = l) ∨ μ q = none) (hl' : l'.blk = l.blk) (hn' : l'.isNil = false)
    (hm : ∀ x X, look m' x = some X → (x = q ∧ X = B') ∨ (x ≠ q ∧ x ≠ b ∧ look m x = some X))
    (hold : ∀ k, k ≠ l.blk → w'.heap[k]? = w.heap[k]?) (hsz : w.heap.size = w'.heap.size) (hos : w'.os = w.os) (htp : w'.tape = w.tape) (hout : w'.output = w.output)
    (hH : ∀ (S : Stays μ (setLoc μ q l') I I w w'), Held w' (setLoc μ q l') I B' l') :
    Stays μ (setLoc μ q l') I I w w' ∧ SR M0 A w0 w' (setLoc μ q l') I m' := by
  obtain ⟨l0, hl0, hBO⟩ := hS.blks b B hb
  rw [hl] at hl0; injection hl0 with e; subst e
  obtain ⟨hnI, hmut⟩ : ¬ I l.blk ∧ (M0 l.blk ∨ w0.heap.size ≤ l.blk) := by
    rcases hBO with ⟨h1, _⟩ | ⟨_, _, _, h4⟩
    · rw [hn] at h1; cases h1
    · exact h4 hfz
  have S : Stays μ (setLoc μ q l') I I w w' := by
    refine ⟨fun x lx hx => ?_, fun _ h => h, fun k hk => hold k fun e => hnI (e ▸ hk)⟩
    by_cases e : x = q
    · subst e
      rw [setLoc_self]
      rcases hq with ⟨h1, h2⟩ | h1
      · subst h1; rw [hl] at hx; injection hx with hx; subst hx; rw [h2]
      · rw [h1] at hx; cases hx
    · rw [setLoc_ne _ _ e]; exact hx
  have hin := hS.lt hb hl hn
  have hother : ∀ x X lx, look m x = some X → x ≠ b → μ x = some lx → lx.isNil = false → lx.blk ≠ l.blk := fun x X lx hx hxb hlx hnx e =>
    hS.inj b x B X l lx hb hx (Ne.symm hxb) hfz hl hlx hn hnx e.symm
  refine ⟨S, ⟨fun x X hx => ?_, fun x y X Y lx ly hx hy hne hfx hlx hly hnx hny => ?_, fun k hk => hsz ▸ hS.immLt k hk, hS.immA, hS.immN, ?_⟩⟩
  · rcases hm x X hx with ⟨rfl, rfl⟩ | ⟨h1, h2, h3⟩
    · exact ⟨l', setLoc_self _ _ _, .inr ⟨hn', hH S, (fun e => by rw [hfz'] at e; cases e), fun _ => by rw [hl']; exact ⟨hnI, hmut⟩⟩⟩
    · obtain ⟨lx, hlx, hBx⟩ := hS.blks x X h3
      refine ⟨lx, by rw [setLoc_ne _ _ h1]; exact hlx, ?_⟩
      rcases hBx with h4 | ⟨h4, h5, h6, h7⟩
      · exact .inl h4
      · exact .inr ⟨h4, h5.stays S (hold _ (hother x X lx h3 h2 hlx h4)), h6, h7⟩
  · rcases hm x X hx with ⟨rfl, rfl⟩ | ⟨h1, h2, h3⟩ <;> rcases hm y Y hy with ⟨rfl, rfl⟩ | ⟨g1, g2, g3⟩
    · exact absurd rfl hne
    · rw [setLoc_self] at hlx; injection hlx with e; subst e
      rw [setLoc_ne _ _ g1] at hly
      rw [hl']; exact Ne.symm (hother y Y ly g3 g2 hly hny)
    · rw [setLoc_self] at hly; injection hly with e; subst e
      rw [setLoc_ne _ _ h1] at hlx
      rw [hl']; exact hother x X lx h3 h2 hlx hnx
    · rw [setLoc_ne _ _ h1] at hlx; rw [setLoc_ne _ _ g1] at hly
      exact hS.inj x y X Y lx ly h3 g3 hne hfx hlx hly hnx hny
  · refine ⟨hos.trans hS.keep.os, htp.trans hS.keep.tape, hout.trans hS.keep.output, hsz ▸ hS.keep.size, fun k hk hM => ?_⟩
    rw [hold k ?_, hS.keep.block k hk hM]
    intro e; subst e
    rcases hmut with h | h
    · exact hM h
    · omega

/-- Own blocks are never written again: they are immutable memory. -/
theorem SR.freeze (hS : SR M0 A w0 w μ I m) (ids : List Nat) :
    ∃ I', Stays μ μ I I' w w ∧ SR M0 A w0 w μ I' (frz ids m) ∧ ∀ b B l, look (only ids m) b = some B → μ b = some l → l.isNil = false → I' l.blk := by
  refine ⟨fun k => I k ∨ ∃ b B l, look m b = some B ∧ ids.contains b = true ∧ μ b = some l ∧ l.isNil = false ∧ l.blk = k, ⟨fun _ _ h => h, fun _ h => .inl h, fun _ _ => rfl⟩, ⟨fun b B hb => ?_, fun b b' B B' l l' hb hb' hne hfz hl hl' hn hn' => ?_, fun k hk => ?_, fun k hk => .inl (hS.immA k hk), fun k hk => ?_, hS.keep⟩, fun b B l hb hl hn => ?_⟩
  · rw [look_frz] at hb
    simp only [Option.map_eq_some_iff] at hb
    obtain ⟨B0, hB0, hb⟩ := hb
    obtain ⟨l, hl, hBO⟩ := hS.blks b B0 hB0
    refine ⟨l, hl, ?_⟩
    have S : Stays μ μ I (fun k => I k ∨ ∃ b B l, look m b = some B ∧ ids.contains b = true ∧ μ b = some l ∧ l.isNil = false ∧ l.blk = k) w w := ⟨fun _ _ h => h, fun _ h => .inl h, fun _ _ => rfl⟩
    by_cases hc : ids.contains b = true
    · rw [if_pos hc] at hb; subst hb
      rcases hBO with h1 | ⟨h1, h2, h3, h4⟩
      · exact .inl h1
      · exact .inr ⟨h1, h2.stays S rfl, fun _ => .inr ⟨b, B0, l, hB0, hc, hl, h1, rfl⟩, fun e => by cases e⟩
    · rw [if_neg hc] at hb; subst hb
      rcases hBO with h1 | ⟨h1, h2, h3, h4⟩
      · exact .inl h1
      · refine .inr ⟨h1, h2.stays S rfl, fun e => .inl (h3 e), fun e => ⟨fun hI => ?_, (h4 e).2⟩⟩
        rcases hI with hI | ⟨x, X, lx, hx, hxc, hlx, hnx, he⟩
        · exact (h4 e).1 hI
        · by_cases hxb : x = b
          · subst hxb; exact hc hxc
          · exact hS.inj b x B0 X l lx hB0 hx (Ne.symm hxb) e hl hlx h1 hnx he.symm
  · rw [look_frz] at hb hb'
    simp only [Option.map_eq_some_iff] at hb hb'
    obtain ⟨B0, hB0, hb⟩ := hb
    obtain ⟨B1, hB1, hb'⟩ := hb'
    have : B0.fz = false := by
      split at hb
      · subst hb; cases hfz
      · subst hb; exact hfz
    exact hS.inj b b' B0 B1 l l' hB0 hB1 hne this hl hl' hn hn'
  · rcases hk with hk | ⟨b, B, l, hb, _, hl, hn, rfl⟩
    · exact hS.immLt k hk
    · exact hS.lt hb hl hn
  · rcases hk with hk | ⟨b, B, l, hb, _, hl, hn, rfl⟩
    · exact hS.immN k hk
    · obtain ⟨l0, hl0, hBO⟩ := hS.blks b B hb
      rw [hl] at hl0; injection hl0 with e; subst e
      rcases hBO with ⟨h1, _⟩ | ⟨_, _, h3, h4⟩
      · rw [hn] at h1; cases h1
      · cases hf : B.fz with
        | true => exact hS.immN _ (h3 hf)
        | false =>
          exact .inr (h4 hf).2
  · obtain ⟨h1, h2⟩ := look_only ids m b B hb
    exact .inr ⟨b, B, l, h1, h2, hl, hn, rfl⟩

theorem run_storeCells_fr (g o : Nat) (t : TypeId) (fr : Nat × Nat) : ∀ (vs : List Value) (i : Nat) (cur : Array Value) (w : World), w.heap[g]? = some (.cells cur t fr) → (fr = (0, 0) ∨ cur.size ≤ fr.1) → o + i + vs.length ≤ cur.size → (∀ v ∈ vs, v.oneCell' = true) →
    (storeCells ⟨g, o, none⟩ vs i).run P w = .ok () (w.setRow g (cur.toList.take (o + i) ++ vs ++ cur.toList.drop (o + i + vs.length)).toArray)
  | [], i, cur, w, hg, _, _, _ => by
    simp only [storeCells, List.append_nil, List.length_nil, Nat.add_zero, List.take_append_drop, Array.toArray_toList]
    rw [setRow_self w g cur t fr hg]
    rfl
  | v :: rest, i, cur, w, hg, hfr, hl, h1 => by
    have hi : o + i < cur.size := by simp at hl; omega
    have hadd : (⟨g, o, none⟩ : Addr).add i = ⟨g, o + i, none⟩ := by unfold Addr.add; split <;> simp_all
    have hcell : w.cell? ⟨g, o + i, none⟩ = some cur[o + i] := by simp [World.cell?, hg, hi]
    have hfro : w.frozen? ⟨g, o + i, none⟩ = false := by
      obtain ⟨f1, f2⟩ := fr
      simp only [World.frozen?, hg]
      rcases hfr with h | h
      · injection h with h1 h2; subst h1; subst h2; simp
      · simp at h; simp; omega
    have hst : (store ((⟨g, o, none⟩ : Addr).add i) v).run P w = .ok () (w.setRow g (cur.setIfInBounds (o + i) v)) := by
      rw [hadd, run_store P w _ v _ (h1 v (by simp)), hcell]
      simp [hfro, setCell_eq_setRow w g (o + i) cur t fr v hg]
    have ih := run_storeCells_fr g o t fr rest (i + 1) (cur.setIfInBounds (o + i) v) (w.setRow g (cur.setIfInBounds (o + i) v)) (setRow_heap w g cur _ t _ hg) (by simpa using hfr) (by simp at hl ⊢; omega) (fun x hx => h1 x (by simp [hx]))
    simp only [storeCells, Sem.run_bind, hst, Result.andThen_ok, ih, setRow_setRow]
    congr 3
    have e := list_seg_step cur.toList (o + i) v rest (by simp at hl ⊢; omega)
    simpa [Array.toList_setIfInBounds, Nat.add_assoc] using e

theorem VRs.oneCells {cs : List AV} {vs : List Value} (h : VRs w cs μ I vs) (hc : cellL cs = true) : ∀ v ∈ vs, v.oneCell' = true := by
  induction cs generalizing vs with
  | nil => simp only [VRs] at h; subst h; simp
  | cons c cs ih =>
    simp only [VRs] at h
    obtain ⟨x, xs, rfl, h1, h2⟩ := h
    simp only [cellL, Bool.and_eq_true] at hc
    intro v hv
    rcases List.mem_cons.1 hv with rfl | hv
    · exact h1.oneCell hc.1
    · exact ih h2 hc.2 v hv

/-- Cells are laid over a row's cells. -/
theorem laid {vs nv : List Value} {C : Array Value} {base off : Nat} (h : ∀ (j : Nat) (x : Value), vs[j]? = some x → C[base + j]? = some x) (hf : base + off + nv.length ≤ C.size) (hoff : off ≤ vs.length) :
    ∀ (j : Nat) (x : Value), (vs.take off ++ nv ++ vs.drop (off + nv.length))[j]? = some x → ((C.toList.take (base + off) ++ nv ++ C.toList.drop (base + off + nv.length)).toArray)[base + j]? = some x := by
  intro j x hx
  rw [List.getElem?_toArray]
  have l1 : (C.toList.take (base + off)).length = base + off := by simp; omega
  have l2 : (vs.take off).length = off := by simp; omega
  rw [List.append_assoc, List.getElem?_append] at hx
  rw [List.append_assoc, List.getElem?_append, l1]
  rw [l2] at hx
  by_cases hj : j < off
  · rw [if_pos hj, List.getElem?_take, if_pos hj] at hx
    rw [if_pos (by omega), List.getElem?_take, if_pos (by omega)]
    have := h j x hx
    simpa using this
  · rw [if_neg hj] at hx
    rw [if_neg (by omega)]
    rw [List.getElem?_append] at hx ⊢
    rw [show base + j - (base + off) = j - off by omega]
    by_cases hj2 : j - off < nv.length
    · rw [if_pos hj2] at hx ⊢; exact hx
    · rw [if_neg hj2] at hx ⊢
      rw [List.getElem?_drop] at hx ⊢
      have := h _ x hx
      rw [← this]
      simp only [Array.getElem?_toList]
      congr 1
      omega

theorem setRow_keeps (w : World) (g : Nat) (C : Array Value) : (w.setRow g C).heap.size = w.heap.size ∧ (w.setRow g C).os = w.os ∧ (w.setRow g C).tape = w.tape ∧ (w.setRow g C).output = w.output := by
  simp [World.setRow]

theorem storeA_ok (TO : TabOK P T) (hS : SR M0 A w0 w μ I m) {ty : Nat} {x v : AV} {xv vv : Value} (h : storeA T m ty x v = some m') (hx : VR w x μ I xv) (hv : VR w v μ I vv) :
    ∃ w', (Instr.storeAt ty xv vv).run P w = .ok () w' ∧ Stays μ μ I I w w' ∧ SR M0 A w0 w' μ I m' := by
  unfold storeA at h
  split at h <;> try (cases h; done)
  rename_i b off z by_ cs hz hcs
  split at h <;> try (cases h; done)
  rename_i B hB
  split at h <;> try (cases h; done)
  rename_i hc
  obtain ⟨hfz, hlen, hfit, hkd⟩ := hc
  injection h with h; subst h
  simp only [VR] at hx
  obtain ⟨l, hl, hn, rfl⟩ := hx
  obtain ⟨hvs, hcell⟩ := cellsOf_ok hcs hv
  obtain ⟨l0, hl0, hBO⟩ := hS.blks b B hB
  rw [hl] at hl0; injection hl0 with e; subst e
  rcases hBO with ⟨h1, _⟩ | ⟨_, hHd, _, _⟩
  · rw [hn] at h1; cases h1
  obtain ⟨C, t, fr, vs, h1, h2, h3, h4, h5, h6, h7⟩ := hHd
  have hvl := h6.length
  have hnl := hvs.length
  have hst := run_storeCells_fr (P := P) l.blk (l.base + off) t fr vv.cells.toList 0 C w h1 h3 (by omega) (hvs.oneCells hcell)
  simp only [Nat.add_zero] at hst
  have hrun : (Instr.storeAt ty (.pointer (some ⟨l.blk, l.base + off, none⟩)) vv).run P w = .ok () (w.setRow l.blk (C.toList.take (l.base + off) ++ vv.cells.toList ++ C.toList.drop (l.base + off + vv.cells.toList.length)).toArray) := by
    have hs : vv.cells.size = z.length := by rw [← hlen, ← hnl]; simp
    have hs' : ¬ (vv.cells.size ≠ z.length) := by simpa using hs
    simp only [Instr.storeAt, Instr.sureAddr, storeVar, Sem.run_bind, Sem.run_pure, Result.andThen_ok, TO.size hz]
    rw [if_neg hs']
    simpa only [Sem.run_bind, Sem.run_pure, Result.andThen_ok] using hst
  refine ⟨_, hrun, ?_⟩
  obtain ⟨k1, k2, k3, k4⟩ := setRow_keeps w l.blk (C.toList.take (l.base + off) ++ vv.cells.toList ++ C.toList.drop (l.base + off + vv.cells.toList.length)).toArray
  have hset : setLoc μ b l = μ := by
    funext x
    unfold setLoc
    split
    · rename_i e; subst e; exact hl.symm
    · rfl
  have := SR.wrote (q := b) (l' := l) (m' := upd m b ⟨B.cs.take off ++ cs ++ B.cs.drop (off + cs.length), B.kd, false⟩) (B' := ⟨B.cs.take off ++ cs ++ B.cs.drop (off + cs.length), B.kd, false⟩)
    hS hB hl hn hfz rfl (.inl ⟨rfl, rfl⟩) rfl hn (fun x X hx => by
      rw [look_upd hB] at hx
      split at hx
      · rename_i e; injection hx with hx; exact .inl ⟨e, hx.symm⟩
      · rename_i e; exact .inr ⟨e, e, hx⟩) (fun k hk => setRow_other w _ k _ hk) k1.symm k2 k3 k4 (fun S => by
      refine ⟨_, t, fr, vs.take off ++ vv.cells.toList ++ vs.drop (off + vv.cells.toList.length), setRow_heap w l.blk C _ t fr h1, ?_, ?_, ?_, ?_, ?_, laid h7 (by omega) (by omega)⟩
      · simp at hnl ⊢; omega
      · rcases h3 with h3 | h3
        · exact .inl h3
        · refine .inr ?_
          simp at hnl ⊢; omega
      · simp at hnl ⊢; omega
      · intro hk
        have := h5 hk
        simp at hnl ⊢; omega
      · rw [hset] at S ⊢
        have h6' := VRs.stays _ (kμ_stays S B.kd) vs h6
        have hn' : VRs (w.setRow l.blk (C.toList.take (l.base + off) ++ vv.cells.toList ++ C.toList.drop (l.base + off + vv.cells.toList.length)).toArray) cs (kμ B.kd μ) (kI B.kd I) vv.cells.toList := by
          have h8 := kL_ok hvs
          have h9 := VRs.stays _ (kμ_stays S (kdL cs)) _ h8
          refine VRs.stays _ ⟨fun x lx hx => ?_, fun k hk => ?_, fun _ _ => rfl⟩ _ h9
          · unfold kμ at hx ⊢
            split
            · rw [if_pos (by omega)] at hx; exact hx
            · split at hx
              · simp [noLocs] at hx
              · exact hx
          · unfold kI at hk ⊢
            split
            · rw [if_pos (by omega)] at hk; exact hk
            · split at hk
              · exact hk.elim
              · exact hk
        have e : (cs : List AV).length = vv.cells.toList.length := hnl.symm
        rw [← hnl]
        exact ((h6'.take off).append hn').append (h6'.drop _))
  rw [hset] at this
  exact this
end
end Go.AM
end
section
/- The abstract machine, part 12: append. -/
set_option linter.unusedVariables false
set_option linter.unusedSimpArgs false
set_option linter.unnecessarySimpa false
namespace Go.AM
section
variable {P : Program} {T : Tab} {M0 A : Nat → Prop} {w0 w w' : World} {μ : Locs} {I : Nat → Prop} {m m' mv : List (Nat × Blk)} {q : Nat} {o : Oper} {a : Act} {t : List AV} {call : Nat → List AV → Option AV}

theorem run_append_room' {t0 t1 ty e : TypeId} {d : TypeDesc} {i : TypeInfo} (ht : P.underlying t0 = some (.slice e)) (h1 : P.underlying t1 = some d) (hd : seqD d = true) (hi : P.info? e = some i)
    {base : Option Addr} {sLen sCap n : Nat} {x : Value} {nv : List Value} (hn : (Builtin.lenOf x).run P w = .ok n w) (hf : (Builtin.firstCells i.size n x).run P w = .ok nv.toArray w) (hroom : sLen + n ≤ sCap)
    (hst : ∀ a, base = some a → (storeCells (a.add (sLen * i.size)) nv).run P w = .ok () w') (hno : base = none → w' = w) :
    (Builtin.append_ #[t0, t1] ty #[.slice base sLen sCap, x]).run P w = .ok (.slice base (sLen + n) sCap) w' := by
  have hz : (d matches .int _) = false := by cases d <;> simp [seqD] at hd <;> rfl
  cases base with
  | none =>
    have := hno rfl; subst this
    cases d <;> simp [seqD] at hd <;> simp [Builtin.append_, run_underlying ht, run_underlying h1, sizeOf, typeInfo, hi, hn, hf, hroom]
  | some a =>
    have := hst a rfl
    cases d <;> simp [seqD] at hd <;> simp [Builtin.append_, run_underlying ht, run_underlying h1, sizeOf, typeInfo, hi, hn, hf, hroom, this]

theorem run_append_grow' {t0 t1 ty e : TypeId} {d : TypeDesc} {i : TypeInfo} {z : Value} (ht : P.underlying t0 = some (.slice e)) (h1 : P.underlying t1 = some d) (hd : seqD d = true) (hi : P.info? e = some i) (hz : i.zero = some z)
    {base : Option Addr} {sLen sCap n : Nat} {x : Value} {ov nv : List Value} (hn : (Builtin.lenOf x).run P w = .ok n w) (hf : (Builtin.firstCells i.size n x).run P w.drew = .ok nv.toArray w.drew)
    (ho : (Builtin.firstCells i.size sLen (.slice base sLen sCap)).run P w.drew = .ok ov.toArray w.drew)
    (hg : sCap < sLen + n) (hb : i.bytes ≤ 1000) (hl : sLen + n ≤ 1000000000) :
    (Builtin.append_ #[t0, t1] ty #[.slice base sLen sCap, x]).run P w =
      .ok (.slice (some ⟨w.heap.size, 0, none⟩) (sLen + n) (grownCap w (sLen + n) sCap e))
        (w.drew.alloc (.cells (ov ++ nv ++ (Builtin.zeroCells z.cells (grownCap w (sLen + n) sCap e - (sLen + n))).toList).toArray e)) := by
  have hroom : ¬ (sLen + n ≤ sCap) := by omega
  have h63' : ¬ (9223372036854775807 < ((sLen : Int) + (n : Int))) := by omega
  have hfit : Builtin.nextslicecap (sLen + n) sCap * i.bytes ≤ 281474976710656 := by
    refine growslice_fits hg ?_
    have : (sLen + n) * i.bytes ≤ 1000000000 * 1000 := Nat.mul_le_mul hl hb
    omega
  have h48' : ¬ (281474976710656 < Builtin.nextslicecap (sLen + n) sCap * i.bytes) := by omega
  cases d <;> simp [seqD] at hd <;>
    (simp [Builtin.append_, run_underlying ht, run_underlying h1, sizeOf, typeInfo, zeroValue, hi, hz, hn, hroom, h63', h48', Question.forced, hf, ho, newRow, grownCap]
     try (congr 2; apply Array.ext'; simp [List.append_assoc]))

theorem CellsAt.heap {ad : Addr} {vs : List Value} (h : CellsAt w ad vs) (e : w'.heap = w.heap) : CellsAt w' ad vs := by
  intro j x hx
  have := h j x hx
  unfold World.cell? at this ⊢
  rw [e]; exact this

theorem newsA_ok (hS : SR M0 A w0 w μ I m) {y : AV} {sz n kd : Nat} {raw : List AV} {yv : Value} (h : newsA m y sz = some (raw, n, kd)) (hy : VR w y μ I yv) :
    ∃ nv, VRs w raw (kμ kd μ) (kI kd I) nv ∧ nv.length = n * sz ∧ (∀ v ∈ nv, v.oneCell' = true) ∧ (Builtin.lenOf yv).run P w = .ok n w ∧ ∀ w' : World, w'.heap = w.heap → (Builtin.firstCells sz n yv).run P w' = .ok nv.toArray w' := by
  have hnone : ∀ (a : Option Addr) (len cap : Nat) (w' : World), len * sz = 0 → (Builtin.firstCells sz len (.slice a len cap)).run P w' = .ok #[] w' := by
    intro a len cap w' h0
    cases a with
    | none => simp [Builtin.firstCells]
    | some ad =>
      have := run_loadN (P := P) (w := w') (ad := ad) (vs := []) (fun j x hx => by simp at hx) 0 (Nat.le_refl _)
      simp only [Builtin.firstCells, h0]
      simpa using this
  unfold newsA at h
  split at h <;> try (cases h; done)
  · injection h with h; injection h with h1 h2; injection h2 with h2 h3; subst h1; subst h2; subst h3
    simp only [VR] at hy
    obtain ⟨a, rfl⟩ := hy
    exact ⟨[], by simp [VRs], by simp, by simp, by simp [Builtin.lenOf], fun w' _ => hnone a 0 0 w' (by simp)⟩
  · rename_i fl cs len
    split at h <;> try (cases h; done)
    rename_i hc
    injection h with h; injection h with h1 h2; injection h2 with h2 h3; subst h1; subst h2; subst h3
    simp only [VR] at hy
    obtain ⟨a, cap, rfl, hl, hn, hy⟩ := hy
    rcases hy with rfl | ⟨ad, vs, rfl, hI, hca, hv⟩
    · have h0 : len * sz = 0 := by simpa using hc.1
      exact ⟨[], by simp [VRs], by simp [h0], by simp, by simp [Builtin.lenOf], fun w' _ => hnone a len cap w' h0⟩
    · have hvl := hv.length
      have hvt := hv.take (len * sz)
      refine ⟨vs.take (len * sz), ?_, by simp; omega, hvt.oneCells hc.2, by simp [Builtin.lenOf], fun w' e => ?_⟩
      · cases fl
        · exact hvt
        · exact hvt
      · have := run_loadN (P := P) (hca.heap e) (len * sz) (by omega)
        simp only [Builtin.firstCells]
        exact this
  · rename_i b off len sz'
    split at h <;> try (cases h; done)
    rename_i hsz; subst hsz
    split at h <;> try (cases h; done)
    rename_i B hB
    split at h <;> try (cases h; done)
    rename_i hc
    injection h with h; injection h with h1 h2; injection h2 with h2 h3; subst h1; subst h2; subst h3
    simp only [VR] at hy
    obtain ⟨l, hl, hy⟩ := hy
    rcases hy with ⟨hn, ⟨a, rfl⟩, rfl, rfl⟩ | ⟨hn, cap, rfl, hcap, hlim⟩
    · exact ⟨[], by simp [VRs], by simp, by simp, by simp [Builtin.lenOf], fun w' _ => hnone a 0 0 w' (by simp)⟩
    · obtain ⟨l0, hl0, hBO⟩ := hS.blks b B hB
      rw [hl] at hl0; injection hl0 with e; subst e
      rcases hBO with ⟨h1, _⟩ | ⟨_, hHd, _, _⟩
      · rw [hn] at h1; cases h1
      obtain ⟨vs, hca, hv⟩ := CellsAt.of_held hHd off
      have hvl := hv.length
      have hvt := (hv.drop off).take (len * sz')
      refine ⟨(vs.drop off).take (len * sz'), hvt, by simp; omega, hvt.oneCells hc.2, by simp [Builtin.lenOf], fun w' e => ?_⟩
      have := run_loadN (P := P) (hca.heap e) (len * sz') (by simp; omega)
      simp only [Builtin.firstCells]
      exact this
  · rename_i s
    split at h <;> try (cases h; done)
    rename_i hsz; subst hsz
    injection h with h; injection h with h1 h2; injection h2 with h2 h3; subst h1; subst h2; subst h3
    simp only [VR] at hy
    subst hy
    have hsz2 : (⟨s.toArray⟩ : ByteArray).size = s.length := by simp [ByteArray.size]
    refine ⟨s.map fun c => .int .u8 c.toNat, ?_, by simp, ?_, by simp [Builtin.lenOf, hsz2], fun w' _ => ?_⟩
    · refine VRs.of_get (by simp) fun j c x hc hx => ?_
      simp only [List.getElem?_map, Option.map_eq_some_iff] at hc hx
      obtain ⟨u, hu, rfl⟩ := hc
      obtain ⟨u', hu', rfl⟩ := hx
      rw [hu] at hu'; injection hu' with hu'; subst hu'
      simp only [VR]
    · intro v hv
      simp only [List.mem_map] at hv
      obtain ⟨u, _, rfl⟩ := hv
      rfl
    · simp only [Builtin.firstCells, Sem.run_pure]
      congr 1
      have : ((⟨s.toArray⟩ : ByteArray).extract 0 s.length) = ⟨s.toArray⟩ := by
        rw [← hsz2]; exact ByteArray.extract_zero_size
      rw [this]
      simp

theorem deepA_ok (hS : SR M0 A w0 w μ I m) {raw news : List AV} {kd kd' : Nat} {ids : List Nat} {nv : List Value} (h : deepA m raw kd = some (news, kd', ids)) (hv : VRs w raw (kμ kd μ) (kI kd I) nv) :
    ∃ I', Stays μ μ I I' w w ∧ SR M0 A w0 w μ I' (frz ids m) ∧ VRs w news noLocs (kI kd' I') nv ∧ kd' ≤ 1 := by
  unfold deepA at h
  split at h
  · rename_i hk
    injection h with h; injection h with h1 h2; injection h2 with h2 h3; subst h1; subst h2; subst h3
    obtain ⟨I', S, h1, h2⟩ := hS.freeze []
    refine ⟨I', S, h1, ?_, hk⟩
    have := VRs.stays _ (kμ_stays S kd) nv hv
    unfold kμ at this
    rw [if_pos hk] at this
    exact this
  · rename_i hk
    split at h <;> try (cases h; done)
    rename_i news' hm
    split at h <;> try (cases h; done)
    rename_i hk2
    injection h with h; injection h with h1 h2; injection h2 with h2 h3; subst h1; subst h2; subst h3
    obtain ⟨I', S, h1, h2⟩ := hS.freeze (raw.flatMap (refs m 4))
    refine ⟨I', S, h1, ?_, hk2⟩
    have e1 : kμ kd μ = μ := by unfold kμ; rw [if_neg hk]
    have e2 : kI kd I = I := by unfold kI; rw [if_neg (by omega)]
    rw [e1, e2] at hv
    have h3 : VRs w news' noLocs I' nv := mapM_ok hm hv fun c _ d x hd hx =>
      exC_ok hS (fun b B hb => (look_only _ m b B hb).1) (fun k hk => S.imm k hk) h2 4 c d x hd hx
    have h4 := kL_ok h3
    unfold kμ at h4
    rw [if_pos hk2] at h4
    exact h4

theorem kI_mono {kd kd' : Nat} (h : kd ≤ kd') {k : Nat} (hk : kI kd I k) : kI kd' I k := by
  unfold kI at hk ⊢
  split at hk
  · exact hk.elim
  · rw [if_neg (by omega)]; exact hk

theorem appA_ok (TO : TabOK P T) (hS : SR M0 A w0 w μ I m) (hq : ∀ b, q ≤ b → b < q + 16 → μ b = none) {tys : Array Nat} {ty : Nat} {x y v : AV} {xv yv : Value} (h : appA T m q tys x y = some (v, m'))
    (hx : VR w x μ I xv) (hy : VR w y μ I yv) (hty : tys.size = 2) :
    ∃ r w', (Builtin.append_ tys ty #[xv, yv]).run P w = .ok r w' ∧ EK M0 A w0 w μ I q v m' r w' := by
  have hqn := hq q (Nat.le_refl _) (by omega)
  unfold appA at h
  split at h <;> try (cases h; done)
  rename_i e d hu0 hu1
  split at h <;> try (cases h; done)
  rename_i hd
  split at h <;> try (cases h; done)
  rename_i z by_ hz
  split at h <;> try (cases h; done)
  rename_i raw n kd hnews
  split at h <;> try (cases h; done)
  rename_i news kd' ids hdeep
  split at h <;> try (cases h; done)
  rename_i hby
  obtain ⟨t0, t1, rfl⟩ : ∃ t0 t1, tys = #[t0, t1] := by
    obtain ⟨l⟩ := tys
    match l, hty with
    | [t0, t1], _ => exact ⟨t0, t1, rfl⟩
  simp only [List.getElem?_toArray, List.getElem?_cons_zero, List.getElem?_cons_succ, Option.bind_some] at hu0 hu1
  have hu0 := TO.u _ _ hu0
  have hu1 := TO.u _ _ hu1
  obtain ⟨i, zv, hi, hzero, hsize, hbytes, hzv, hzc⟩ := TO.z _ _ _ hz
  obtain ⟨nv, hnv, hnl, hone, hlen, hfirst⟩ := newsA_ok (P := P) hS hnews hy
  obtain ⟨I', S, hS', hnv', hkd'⟩ := deepA_ok hS hdeep hnv
  rw [← hsize] at hnl hfirst
  have hfr := look_frz ids m
  split at h <;> try (cases h; done)
  · -- nothing was there
    simp only [VR] at hx
    obtain ⟨b0, rfl⟩ := hx
    split at h
    · rename_i hn0
      injection h with h; injection h with h1 h2; subst h1; subst h2; subst hn0
      have hnv0 : nv = [] := List.eq_nil_of_length_eq_zero (by simpa using hnl)
      subst hnv0
      have hrun := run_append_room' (P := P) (w := w) (w' := w) (ty := ty) hu0 hu1 hd hi (base := b0) (sLen := 0) (sCap := 0) hlen (hfirst w rfl) (Nat.le_refl _) (fun a _ => by simp [storeCells]) (fun _ => rfl)
      exact ⟨_, _, hrun, μ, I, Stays.refl _ _ _, hS, fun _ _ => rfl, by simp [VR]⟩
    · split at h <;> try (cases h; done)
      rename_i hn0 hn1
      injection h with h; injection h with h1 h2; subst h1; subst h2
      have ho : (Builtin.firstCells i.size 0 (.slice b0 0 0)).run P w.drew = .ok ([] : List Value).toArray w.drew := by
        cases b0 with
        | none => simp [Builtin.firstCells]
        | some ad =>
          have := run_loadN (P := P) (w := w.drew) (ad := ad) (vs := []) (fun j x hx => by simp at hx) 0 (Nat.le_refl _)
          simp only [Builtin.firstCells, Nat.zero_mul]
          simpa using this
      have hrun := run_append_grow' (P := P) (w := w) (ty := ty) (base := b0) (sLen := 0) (sCap := 0) hu0 hu1 hd hi hzero hlen (hfirst w.drew rfl) ho (by omega) (by omega) (by omega)
      refine ⟨_, _, hrun, ?_⟩
      simp only [Nat.zero_add, List.nil_append] at *
      have hge := grownCap_ge w n 0 e
      have hS2 := hS'.keeps (Keep.drew w)
      have hnew := hS2.new (q := q) (kd := kd') (cs := news) (C := (nv ++ (Builtin.zeroCells zv.cells (grownCap w n 0 e - n)).toList).toArray) (vs := nv) (t := e) (fr := (0, 0)) hqn
        (w.drew.alloc (.cells (nv ++ (Builtin.zeroCells zv.cells (grownCap w n 0 e - n)).toList).toArray e)) (alloc_at _ _) (.inl rfl) (Keep.alloc _ _)
        (by unfold kμ; rw [if_pos hkd']; exact VRs.stays (w := w) (w' := w.drew) _ ⟨fun _ _ h => h, fun _ h => h, fun _ _ => rfl⟩ _ hnv') (fun j x hx => by
          rw [List.getElem?_toArray, List.getElem?_append, if_pos (by
            rcases Nat.lt_or_ge j nv.length with h' | h'
            · exact h'
            · rw [List.getElem?_eq_none h'] at hx; cases hx)]
          exact hx) (grownCap w n 0 e * i.size) (by
            have := hnv'.length; rw [← this, hnl]; exact Nat.mul_le_mul_right _ hge) (by
            have hzs : zv.cells.size = i.size := by
              have := (hzv w).length; simp only [Array.length_toList] at this; omega
            simp [size_zeroCells, hnl, hzs, ← Nat.add_mul]
            exact Nat.mul_le_mul_right _ (by omega)) (by omega)
      obtain ⟨hSn, hStn⟩ := hnew
      refine ⟨_, I', ?_, hSn, fun b hb => setLoc_ne _ _ (by omega), ?_⟩
      · exact S.trans (Stays.trans (hS'.stays (Keep.drew w)) hStn)
      · simp only [VR]
        refine ⟨_, setLoc_self _ _ _, .inr ⟨rfl, _, rfl, hge, ?_⟩⟩
        simp [hsize]
  · -- an own row
    rename_i b off len sz
    split at h <;> try (cases h; done)
    rename_i B hB
    split at h <;> try (cases h; done)
    rename_i hc
    obtain ⟨hfz, hBkd, hsz, hfull, hsmall⟩ := hc
    injection h with h; injection h with h1 h2; subst h1; subst h2
    rw [hsz, ← hsize] at hfull
    have hx' := VR.stays _ S _ hx
    simp only [VR] at hx'
    obtain ⟨l, hl, hx'⟩ := hx'
    obtain ⟨l0, hl0, hBO⟩ := hS'.blks b B hB
    rw [hl] at hl0; injection hl0 with e0; subst e0
    have hqb : b ≠ q := fun e => by subst e; rw [hqn] at hl; cases hl
    have hm' : ∀ (B' : Blk) x X, look (del (frz ids m) b ++ [(q, B')]) x = some X → (x = q ∧ X = B') ∨ (x ≠ q ∧ x ≠ b ∧ look (frz ids m) x = some X) := by
      intro B' x X hX
      rw [look_append, look_del] at hX
      by_cases hxb : x = b
      · subst hxb
        rw [if_pos rfl] at hX
        simp only [look] at hX
        rw [if_neg (by simpa using fun e => hqb e.symm)] at hX
        cases hX
      · rw [if_neg hxb] at hX
        cases hlk : look (frz ids m) x with
        | some X' =>
          rw [hlk] at hX
          injection hX with hX; subst hX
          refine .inr ⟨fun e => ?_, hxb, rfl⟩
          subst e
          obtain ⟨lx, hlx, _⟩ := hS'.blks _ _ hlk
          rw [hqn] at hlx; cases hlx
        | none =>
          rw [hlk] at hX
          simp only [look] at hX
          split at hX
          · rename_i e; injection hX with hX
            exact .inl ⟨by simpa using (beq_iff_eq.1 e).symm, hX.symm⟩
          · cases hX
    have hmax : max B.kd kd' ≤ 1 := by omega
    -- a new row
    have grow : ∀ (base : Option Addr) (cap : Nat) (ov : List Value), xv = .slice base len cap → VRs w (B.cs.drop off) noLocs (kI B.kd I') ov → ov.length = len * i.size →
        (Builtin.firstCells i.size len (.slice base len cap)).run P w.drew = .ok ov.toArray w.drew → cap < len + n →
        ∃ r w', (Builtin.append_ #[t0, t1] ty #[xv, yv]).run P w = .ok r w' ∧ EK M0 A w0 w μ I q (.ref q 0 (len + n) sz) (del (frz ids m) b ++ [(q, ⟨B.cs.drop off ++ news, max B.kd kd', false⟩)]) r w' := by
      intro base cap ov hxe hov hol ho hg
      subst hxe
      have hrun := run_append_grow' (P := P) (w := w) (ty := ty) (base := base) (sLen := len) (sCap := cap) hu0 hu1 hd hi hzero hlen (hfirst w.drew rfl) ho hg (by omega) (by omega)
      refine ⟨_, _, hrun, ?_⟩
      have hge := grownCap_ge w (len + n) cap e
      have hS2 := (hS'.keeps (Keep.drew w)).sub (m' := del (frz ids m) b) (fun x X hX => by
        rw [look_del] at hX; split at hX
        · cases hX
        · exact hX)
      have hall : VRs w (B.cs.drop off ++ news) noLocs (kI (max B.kd kd') I') (ov ++ nv) := by
        refine VRs.append ?_ ?_
        · exact VRs.stays _ ⟨fun _ _ h => h, fun k h => kI_mono (by omega) h, fun _ _ => rfl⟩ _ hov
        · exact VRs.stays _ ⟨fun _ _ h => h, fun k h => kI_mono (by omega) h, fun _ _ => rfl⟩ _ hnv'
      have hnew := hS2.new (q := q) (kd := max B.kd kd') (cs := B.cs.drop off ++ news) (C := (ov ++ nv ++ (Builtin.zeroCells zv.cells (grownCap w (len + n) cap e - (len + n))).toList).toArray) (vs := ov ++ nv) (t := e) (fr := (0, 0)) hqn
        (w.drew.alloc (.cells (ov ++ nv ++ (Builtin.zeroCells zv.cells (grownCap w (len + n) cap e - (len + n))).toList).toArray e)) (alloc_at _ _) (.inl rfl) (Keep.alloc _ _)
        (by unfold kμ; rw [if_pos hmax]; exact VRs.stays (w := w) (w' := w.drew) _ ⟨fun _ _ h => h, fun _ h => h, fun _ _ => rfl⟩ _ hall) (fun j x hx => by
          rw [List.getElem?_toArray, List.getElem?_append, if_pos (by
            rcases Nat.lt_or_ge j (ov ++ nv).length with h' | h'
            · exact h'
            · rw [List.getElem?_eq_none h'] at hx; cases hx)]
          exact hx) (grownCap w (len + n) cap e * i.size) (by
            have := hall.length; rw [← this]; simp [hnl, hol, ← Nat.add_mul]; exact Nat.mul_le_mul_right _ hge) (by
            have hzs : zv.cells.size = i.size := by
              have := (hzv w).length; simp only [Array.length_toList] at this; omega
            simp [size_zeroCells, hnl, hol, hzs, ← Nat.add_mul]
            exact Nat.mul_le_mul_right _ (by omega)) (by omega)
      obtain ⟨hSn, hStn⟩ := hnew
      refine ⟨_, I', ?_, hSn, fun b hb => setLoc_ne _ _ (by omega), ?_⟩
      · exact S.trans (Stays.trans (hS'.stays (Keep.drew w)) hStn)
      · simp only [VR]
        refine ⟨_, setLoc_self _ _ _, .inr ⟨rfl, _, rfl, hge, ?_⟩⟩
        simp [hsize, hsz]
    rcases hx' with ⟨hn, ⟨a0, rfl⟩, rfl, rfl⟩ | ⟨hn, cap, rfl, hcap, hlim⟩
    · -- a variable that holds none yet
      have hcs : B.cs = [] := by
        rcases hBO with ⟨_, h2⟩ | ⟨h1, _⟩
        · exact h2
        · rw [hn] at h1; cases h1
      by_cases hn0 : n = 0
      · subst hn0
        have hnv0 : nv = [] := List.eq_nil_of_length_eq_zero (by simpa using hnl)
        subst hnv0
        have hnw : news = [] := by
          have := hnv'.length; simp at this; exact List.eq_nil_of_length_eq_zero (by omega)
        have hrun := run_append_room' (P := P) (w := w) (w' := w) (ty := ty) hu0 hu1 hd hi (base := a0) (sLen := 0) (sCap := 0) hlen (hfirst w rfl) (Nat.le_refl _) (fun a _ => by simp [storeCells]) (fun _ => rfl)
        refine ⟨_, _, hrun, setLoc μ q ⟨0, 0, 0, true⟩, I', S.trans (setLoc_stays _ hqn (Keep.refl _ _) hS'.immLt), ⟨fun x X hX => ?_, fun x y X Y lx ly hX hY hne hfx hlx hly hnx hny => ?_, hS'.immLt, hS'.immA, hS'.immN, hS'.keep⟩, fun b hb => setLoc_ne _ _ (by omega), ?_⟩
        · rcases hm' _ x X hX with ⟨rfl, rfl⟩ | ⟨g1, g2, g3⟩
          · exact ⟨_, setLoc_self _ _ _, .inl ⟨rfl, by simp [hcs, hnw]⟩⟩
          · obtain ⟨lx, hlx, hBx⟩ := hS'.blks x X g3
            refine ⟨lx, by rw [setLoc_ne _ _ g1]; exact hlx, ?_⟩
            rcases hBx with h4 | ⟨h4, h5, h6, h7⟩
            · exact .inl h4
            · exact .inr ⟨h4, h5.stays (setLoc_stays _ hqn (Keep.refl _ _) hS'.immLt) rfl, h6, h7⟩
        · rcases hm' _ x X hX with ⟨rfl, rfl⟩ | ⟨g1, g2, g3⟩
          · rw [setLoc_self] at hlx; injection hlx with e; subst e; cases hnx
          · rcases hm' _ y Y hY with ⟨rfl, rfl⟩ | ⟨f1, f2, f3⟩
            · rw [setLoc_self] at hly; injection hly with e; subst e; cases hny
            · rw [setLoc_ne _ _ g1] at hlx; rw [setLoc_ne _ _ f1] at hly
              exact hS'.inj x y X Y lx ly g3 f3 hne hfx hlx hly hnx hny
        · simp only [VR]
          exact ⟨_, setLoc_self _ _ _, .inl ⟨by simp, ⟨a0, by simp⟩, by simp, by simp⟩⟩
      · refine grow a0 0 [] rfl (by simp [hcs, VRs]) (by simp) ?_ (by omega)
        cases a0 with
        | none => simp [Builtin.firstCells]
        | some ad =>
          have := run_loadN (P := P) (w := w.drew) (ad := ad) (vs := []) (fun j x hx => by simp at hx) 0 (Nat.le_refl _)
          simp only [Builtin.firstCells, Nat.zero_mul]
          simpa using this
    · rcases hBO with ⟨h1, _⟩ | ⟨_, hHd, _, hmut⟩
      · rw [hn] at h1; cases h1
      have hHd' := hHd
      obtain ⟨C, ct, fr, vs, h1, h2, h3, h4, h5, h6, h7⟩ := hHd
      have hvl := h6.length
      by_cases hroom : len + n ≤ cap
      · -- in place
        have hcapz : (len + n) * i.size ≤ cap * i.size := Nat.mul_le_mul_right _ hroom
        have hfit : l.base + off + len * i.size + nv.length ≤ l.lim := by
          rw [hsz, ← hsize] at hlim
          rw [hnl, Nat.add_assoc, ← Nat.add_mul]; omega
        have hst := run_storeCells_fr (P := P) l.blk (l.base + off + len * i.size) ct fr nv 0 C w h1 h3 (by omega) hone
        simp only [Nat.add_zero] at hst
        have hrun := run_append_room' (P := P) (w := w) (ty := ty) hu0 hu1 hd hi (base := some ⟨l.blk, l.base + off, none⟩) (sLen := len) (sCap := cap) hlen (hfirst w rfl) hroom (fun a ha => by
          injection ha with ha; subst ha
          rw [add_plain]; exact hst) (fun e => by cases e)
        refine ⟨_, _, hrun, ?_⟩
        obtain ⟨k1, k2, k3, k4⟩ := setRow_keeps w l.blk (C.toList.take (l.base + off + len * i.size) ++ nv ++ C.toList.drop (l.base + off + len * i.size + nv.length)).toArray
        have hwr := SR.wrote (q := q) (l' := ⟨l.blk, l.base + off, l.lim, false⟩) (m' := del (frz ids m) b ++ [(q, ⟨B.cs.drop off ++ news, max B.kd kd', false⟩)]) (B' := ⟨B.cs.drop off ++ news, max B.kd kd', false⟩)
          hS' hB hl hn hfz rfl (.inr hqn) rfl rfl (hm' _) (fun k hk => setRow_other w _ k _ hk) k1.symm k2 k3 k4 (fun S2 => by
          refine ⟨_, ct, fr, vs.drop off ++ nv, setRow_heap w l.blk C _ ct fr h1, ?_, ?_, ?_, fun e => ?_, ?_, ?_⟩
          · simp; omega
          · rcases h3 with h3 | h3
            · exact .inl h3
            · refine .inr ?_
              simp; omega
          · have := hnv'.length
            simp; omega
          · simp only at e; omega
          · have S3 : Stays noLocs noLocs (kI B.kd I') (kI (max B.kd kd') I') w (w.setRow l.blk (C.toList.take (l.base + off + len * i.size) ++ nv ++ C.toList.drop (l.base + off + len * i.size + nv.length)).toArray) :=
              ⟨fun _ _ h => h, fun k h => kI_mono (by omega) h, fun k h => S2.heap k (by unfold kI at h; split at h <;> first | exact h.elim | exact h)⟩
            have S4 : Stays noLocs noLocs (kI kd' I') (kI (max B.kd kd') I') w (w.setRow l.blk (C.toList.take (l.base + off + len * i.size) ++ nv ++ C.toList.drop (l.base + off + len * i.size + nv.length)).toArray) :=
              ⟨fun _ _ h => h, fun k h => kI_mono (by omega) h, fun k h => S2.heap k (by unfold kI at h; split at h <;> first | exact h.elim | exact h)⟩
            have e1 : kμ (max B.kd kd') (setLoc μ q ⟨l.blk, l.base + off, l.lim, false⟩) = noLocs := by unfold kμ; rw [if_pos hmax]
            have e2 : kμ B.kd μ = noLocs := by unfold kμ; rw [if_pos hBkd]
            show VRs _ (B.cs.drop off ++ news) (kμ (max B.kd kd') (setLoc μ q ⟨l.blk, l.base + off, l.lim, false⟩)) _ _
            rw [e1]
            rw [e2] at h6
            exact (VRs.stays _ S3 _ (h6.drop off)).append (VRs.stays _ S4 _ hnv')
          · have hla := laid (vs := vs) (nv := nv) (C := C) (base := l.base) (off := off + len * i.size) h7 (by omega) (by omega)
            intro j x hx
            have := hla (off + j) x (by
              rw [List.append_assoc, List.getElem?_append]
              rw [List.getElem?_append] at hx
              have l1 : (vs.take (off + len * i.size)).length = off + len * i.size := by simp; omega
              rw [l1]
              split at hx
              · rename_i hj
                simp at hj
                rw [if_pos (by omega), List.getElem?_take, if_pos (by omega)]
                rw [List.getElem?_drop] at hx; exact hx
              · rename_i hj
                simp at hj
                rw [if_neg (by omega), List.getElem?_append, if_pos (by
                  rcases Nat.lt_or_ge (j - (vs.drop off).length) nv.length with h' | h'
                  · simp at h'; omega
                  · rw [List.getElem?_eq_none h'] at hx; cases hx)]
                rw [← hx]
                congr 1
                simp; omega)
            rw [← this]
            show (_ : Array Value)[l.base + off + j]? = _
            rw [show l.base + off + j = l.base + (off + j) by omega, show l.base + (off + len * i.size) = l.base + off + len * i.size by omega])
        refine ⟨_, I', S.trans hwr.1, hwr.2, fun b hb => setLoc_ne _ _ (by omega), ?_⟩
        simp only [VR]
        exact ⟨_, setLoc_self _ _ _, .inr ⟨by simp, cap, by simp, hroom, by simpa using hlim⟩⟩
      · obtain ⟨vs', hca, hv'⟩ := CellsAt.of_held hHd' off
        have hvl' := hv'.length
        have e2 : kμ B.kd μ = noLocs := by unfold kμ; rw [if_pos hBkd]
        rw [e2] at hv'
        refine grow _ cap (vs'.drop off) rfl (hv'.drop off) (by simp; omega) ?_ (by omega)
        have := run_loadN (P := P) (hca.heap (w' := w.drew) rfl) (len * i.size) (by simp; omega)
        simp only [Builtin.firstCells]
        rw [this, List.take_of_length_le (by simp; omega)]
end
end Go.AM
end
section
/- The abstract machine, part 13: calls that are handed own memory. -/
set_option linter.unusedVariables false
set_option linter.unusedSimpArgs false
set_option linter.unnecessarySimpa false
namespace Go.AM

def pos : List Nat → Nat → Option Nat
  | [], _ => none
  | k :: r, b => if k == b then some 0 else (pos r b).map (· + 1)
def renC (ρ : Nat → Option Nat) : Nat → AV → AV
  | _, .int k n => .int k n
  | _, .bool b => .bool b
  | _, .str s => .str s
  | _, .nilp => .nilp
  | _, .snil => .snil
  | _, .sl fl cs len => .sl fl cs len
  | _, .rptr cs => .rptr cs
  | n + 1, .ref b off len sz => match ρ b with
    | some b' => .ref b' off len sz
    | none => .any
  | n + 1, .ptr b off => match ρ b with
    | some b' => .ptr b' off
    | none => .any
  | n + 1, .agg cs => .agg (cs.map (renC ρ n))
  | n + 1, .tup cs => .tup (cs.map (renC ρ n))
  | n + 1, .fn f cs => .fn f (cs.map (renC ρ n))
  | _, _ => .any
def ded : List Nat → List Nat
  | [] => []
  | k :: r => k :: (ded r).filter (· != k)
def renM (ρ : Nat → Option Nat) (m : List (Nat × Blk)) : Nat → List Nat → List (Nat × Blk)
  | _, [] => []
  | n, b :: r => match look m b with
    | some B => (n, ⟨if B.kd ≤ 1 then B.cs else B.cs.map (renC ρ 4), B.kd, B.fz⟩) :: renM ρ m (n + 1) r
    | none => renM ρ m (n + 1) r
/-- The cells of a block, its own rows closed but for some; what they name. -/
def clC (m : List (Nat × Blk)) (keep : List Nat) : Nat → List AV → Option (List AV × List Nat)
  | _, [] => some ([], [])
  | j, c :: cs => match clC m keep (j + 1) cs with
    | none => none
    | some (ds, is) => match c with
      | .ref b off len sz => if keep.contains j then some (.ref b off len sz :: ds, is) else
          (exC (only (refs m 4 (.ref b off len sz)) m) 4 (.ref b off len sz)).map fun d => (d :: ds, refs m 4 (.ref b off len sz) ++ is)
      | c => some (c :: ds, is)
def clB (m : List (Nat × Blk)) (keep : List Nat) (b : Nat) : Option (List (Nat × Blk)) :=
  match look m b with
  | none => some m
  | some B => if B.kd ≤ 1 then some m else
    match clC m keep 0 B.cs with
    | some (ds, ids) => if ids.contains b then none else some (upd (frz ids m) b ⟨ds, B.kd, B.fz⟩)
    | none => none
/-- The blocks of some sizes are closed so. -/
def clM (cl : Nat → Option (List Nat)) : List Nat → List (Nat × Blk) → Option (List (Nat × Blk))
  | [], m => some m
  | b :: r, m => match look m b with
    | none => clM cl r m
    | some B => if B.kd ≤ 1 then clM cl r m else
      match cl B.cs.length with
      | some keep => match clB m keep b with
        | some m' => clM cl r m'
        | none => none
      | none => clM cl r m
/-- What is handed on: what is marked as it is, all else closed; what is frozen by that. -/
def passA (m : List (Nat × Blk)) : List Bool → List AV → Option (List AV × List Nat)
  | _, [] => some ([], [])
  | [], _ :: _ => none
  | b :: bs, c :: cs => match passA m bs cs with
    | none => none
    | some (ds, is) => if b then some (c :: ds, is) else (exC (only (refs m 4 c) m) 4 c).map fun d => (d :: ds, refs m 4 c ++ is)
def rts (m : List (Nat × Blk)) (ds : List AV) : List Nat := ded ((ds.flatMap (refs m 5)).filter fun b => (look m b).isSome)
def outM (R : List Nat) : List (Nat × Blk) → List (Nat × Blk)
  | [] => []
  | (k, B) :: r => if R.contains k then outM R r else (k, B) :: outM R r
def back (R : List Nat) (q : Nat) (b : Nat) : Option Nat := if b < R.length then R[b]? else if b < R.length + 16 then some (q + (b - R.length)) else none
def renB (ρ : Nat → Option Nat) : List (Nat × Blk) → List (Nat × Blk)
  | [] => []
  | (k, B) :: r => match ρ k with
    | some k' => (k', ⟨if B.kd ≤ 1 then B.cs else B.cs.map (renC ρ 4), B.kd, B.fz⟩) :: renB ρ r
    | none => renB ρ r
/-- A call that is handed own memory. -/
def callM (T : Tab) (K : Know) (q : Nat) (m : List (Nat × Blk)) (g : Nat) (args : List AV) : Option (AV × List (Nat × Blk)) :=
  match passA m (T.mt g) args with
  | none => none
  | some (ds, fz) =>
    match clM T.cl (rts (frz fz m) ds) (frz fz m) with
    | none => none
    | some m1 =>
      match K.m g (ds.map (renC (pos (rts m1 ds)) 4)) (renM (pos (rts m1 ds)) m1 0 (rts m1 ds)) with
      | none => none
      | some (r, m') => some (renC (back (rts m1 ds) q) 4 r, outM (rts m1 ds) m1 ++ renB (back (rts m1 ds) q) m')

/-- Any operation. -/
def eop (T : Tab) (K : Know) (q : Nat) (t : List AV) (m : List (Nat × Blk)) (o : Oper) : Option (AV × List (Nat × Blk)) :=
  match o.op with
  | .store ty a v => (storeA T m ty (ev t a) (ev t v)).map fun m' => (.tup [], m')
  | .call c => match c.callee with
    | .builtin .append => match evs t c.args with
      | [x, y] => appA T m q c.argTypes x y
      | _ => none
    | .value f => match ev t f with
      | .fn g caps => if low g then
          match T.mt g with
          | [] => (qop T K.q q t m o).map fun r => (r.1, m ++ r.2)
          | _ => callM T K q m g (evs t c.args ++ caps)
        else callM T K q m (unbind g) (caps ++ evs t c.args)
      | _ => none
    | _ => (qop T K.q q t m o).map fun r => (r.1, m ++ r.2)
  | _ => (qop T K.q q t m o).map fun r => (r.1, m ++ r.2)

/-- The own memory that may be written. -/
def own0 (μ : Locs) (m : List (Nat × Blk)) : Nat → Prop := fun j => ∃ b B l, look m b = some B ∧ B.fz = false ∧ μ b = some l ∧ l.isNil = false ∧ l.blk = j
/-- What the machine says of a call that is handed own memory holds of the call. -/
def ToldM (P : Program) (f : Nat) (args : List AV) (m : List (Nat × Blk)) (r : AV) (m' : List (Nat × Blk)) : Prop :=
  ∀ (k : Nat) (A : Nat → Prop) (w : World) (μ : Locs) (vals : List Value), SR (own0 μ m) A w w μ A m → VRs w args μ A vals → (∀ b, k ≤ b → μ b = none) → m.length = k →
    Calls P f vals.toArray w fun e w' => ∃ x μ' I', e = .returned x ∧ SR (own0 μ m) A w w' μ' I' m' ∧ VR w' r μ' I' x ∧ ∀ b l, b < k → μ b = some l → μ' b = some l
/-- What is known holds. -/
structure CallOK (P : Program) (K : Know) : Prop where
  q : QOK P K.q
  m : ∀ g args m r m', K.m g args m = some (r, m') → ToldM P g args m r m' ∧ ∃ fn, P.funcs[g]? = some fn ∧ fn.body.isSome = true ∧ (fn.name == "runtime.NumGoroutine") = false

section
variable {P : Program} {T : Tab} {M0 A : Nat → Prop} {w0 w w' : World} {μ μ' : Locs} {I I' : Nat → Prop} {m m' mv : List (Nat × Blk)} {q : Nat} {o : Oper} {a : Act} {t t' : List AV}

theorem pos_get : ∀ {ids : List Nat} {b n : Nat}, pos ids b = some n → ids[n]? = some b
  | [], b, n, h => by cases h
  | k :: r, b, n, h => by
    simp only [pos] at h
    split at h
    · rename_i e
      injection h with h; subst h
      simpa using e
    · simp only [Option.map_eq_some_iff] at h
      obtain ⟨n', h, rfl⟩ := h
      simpa using pos_get h

/-- Own blocks go by other names. -/
theorem renG_ok {ρ : Nat → Option Nat} {μ2 : Locs} (hρ : ∀ b b', ρ b = some b' → ∀ l, μ b = some l → μ2 b' = some l) : ∀ (n : Nat) (c : AV) (x : Value), VR w c μ I x → VR w (renC ρ n c) μ2 I x := by
  have hpl : ∀ c : AV, ∀ x, kdOf c ≤ 1 → VR w c μ I x → VR w c μ2 I x := by
    intro c x hc h
    cases c <;> simp [kdOf] at hc <;> simp only [VR] at h ⊢ <;> exact h
  intro n
  induction n with
  | zero => intro c x h; cases c <;> simp only [renC] <;> first | (simp only [VR]; done) | exact hpl _ x (by simp [kdOf]) h
  | succ n ih =>
    have hL : ∀ (cs : List AV) (vs : List Value), VRs w cs μ I vs → VRs w (cs.map (renC ρ n)) μ2 I vs := by
      intro cs
      induction cs with
      | nil => intro vs h; simpa [VRs] using h
      | cons c cs ihc =>
        intro vs h
        simp only [VRs] at h
        obtain ⟨x, xs, rfl, h1, h2⟩ := h
        exact VRs.cons (ih c x h1) (ihc xs h2)
    intro c x h
    cases c <;> simp only [renC] <;> try (first | (simp only [VR]; done) | exact hpl _ x (by simp [kdOf]) h)
    case agg cs =>
      simp only [VR] at h ⊢
      obtain ⟨vs, rfl, h⟩ := h
      exact ⟨vs, rfl, hL cs vs h⟩
    case tup cs =>
      simp only [VR] at h ⊢
      obtain ⟨vs, rfl, h⟩ := h
      exact ⟨vs, rfl, hL cs vs h⟩
    case fn f cs =>
      simp only [VR] at h ⊢
      obtain ⟨vs, rfl, h⟩ := h
      exact ⟨vs, rfl, hL cs vs h⟩
    case ref b off len sz =>
      split
      · rename_i b' hb
        simp only [VR] at h ⊢
        obtain ⟨l, hl, h⟩ := h
        exact ⟨l, hρ _ _ hb _ hl, h⟩
      · simp only [VR]
    case ptr b off =>
      split
      · rename_i b' hb
        simp only [VR] at h ⊢
        obtain ⟨l, hl, h⟩ := h
        exact ⟨l, hρ _ _ hb _ hl, h⟩
      · simp only [VR]
theorem renGL_ok {ρ : Nat → Option Nat} {μ2 : Locs} (hρ : ∀ b b', ρ b = some b' → ∀ l, μ b = some l → μ2 b' = some l) (n : Nat) : ∀ (cs : List AV) (vs : List Value), VRs w cs μ I vs → VRs w (cs.map (renC ρ n)) μ2 I vs
  | [], vs, h => by simpa [VRs] using h
  | c :: cs, vs, h => by
    simp only [VRs] at h
    obtain ⟨x, xs, rfl, h1, h2⟩ := h
    exact VRs.cons (renG_ok hρ n c x h1) (renGL_ok hρ n cs xs h2)
theorem renC_ok {ids : List Nat} (n : Nat) (c : AV) (x : Value) (h : VR w c μ I x) : VR w (renC (pos ids) n c) (fun n => (ids[n]?).bind μ) I x :=
  renG_ok (fun b b' hb l hl => by simp only [pos_get hb, Option.bind_some]; exact hl) n c x h
theorem renL_ok {ids : List Nat} (n : Nat) (cs : List AV) (vs : List Value) (h : VRs w cs μ I vs) : VRs w (cs.map (renC (pos ids) n)) (fun n => (ids[n]?).bind μ) I vs :=
  renGL_ok (fun b b' hb l hl => by simp only [pos_get hb, Option.bind_some]; exact hl) n cs vs h

theorem ded_nodup : ∀ l : List Nat, (ded l).Nodup
  | [] => List.nodup_nil
  | k :: r => by
    simp only [ded]
    refine List.nodup_cons.2 ⟨by simp, ?_⟩
    exact (ded_nodup r).filter _

theorem look_renM {ρ : Nat → Option Nat} : ∀ {ids : List Nat} {n k : Nat} {B' : Blk}, look (renM ρ m n ids) k = some B' →
    ∃ i b B, k = n + i ∧ ids[i]? = some b ∧ look m b = some B ∧ B' = ⟨if B.kd ≤ 1 then B.cs else B.cs.map (renC ρ 4), B.kd, B.fz⟩
  | [], n, k, B', h => by simp [renM, look] at h
  | b :: r, n, k, B', h => by
    simp only [renM] at h
    have hrest : look (renM ρ m (n + 1) r) k = some B' → ∃ i b' B, k = n + i ∧ (b :: r)[i]? = some b' ∧ look m b' = some B ∧ B' = ⟨if B.kd ≤ 1 then B.cs else B.cs.map (renC ρ 4), B.kd, B.fz⟩ := by
      intro h
      obtain ⟨i, b', B, h1, h2, h3, h4⟩ := look_renM h
      exact ⟨i + 1, b', B, by omega, by simpa using h2, h3, h4⟩
    split at h
    · rename_i B hB
      simp only [look] at h
      split at h
      · rename_i e
        injection h with h
        exact ⟨0, b, B, by simpa using (beq_iff_eq.1 e).symm, by simp, hB, h.symm⟩
      · exact hrest h
    · exact hrest h

theorem SR.swap {b : Nat} {B B' : Blk} (hS : SR M0 A w0 w μ I m) (hb : look m b = some B) (hfz : B'.fz = B.fz) (hnil : B.cs = [] → B'.cs = []) (hH : ∀ l, μ b = some l → Held w μ I B l → Held w μ I B' l) :
    SR M0 A w0 w μ I (upd m b B') := by
  have key : ∀ x X, look (upd m b B') x = some X → ∃ X0, look m x = some X0 ∧ X.fz = X0.fz ∧ ((x = b ∧ X = B') ∨ X = X0) := by
    intro x X hx
    rw [look_upd hb] at hx
    split at hx
    · rename_i e; injection hx with hx; subst hx; subst e; exact ⟨B, hb, hfz, .inl ⟨rfl, rfl⟩⟩
    · exact ⟨X, hx, rfl, .inr rfl⟩
  refine ⟨fun x X hx => ?_, fun x y X Y lx ly hx hy hne hf hlx hly hnx hny => ?_, hS.immLt, hS.immA, hS.immN, hS.keep⟩
  · obtain ⟨X0, h0, hf, h1⟩ := key x X hx
    obtain ⟨l, hl, hBO⟩ := hS.blks x X0 h0
    refine ⟨l, hl, ?_⟩
    rcases h1 with ⟨rfl, rfl⟩ | rfl
    · rw [hb] at h0; injection h0 with h0; subst h0
      rcases hBO with ⟨h1, h2⟩ | ⟨h1, h2, h3, h4⟩
      · exact .inl ⟨h1, hnil h2⟩
      · exact .inr ⟨h1, hH l hl h2, fun e => h3 (hf ▸ e), fun e => h4 (hf ▸ e)⟩
    · exact hBO
  · obtain ⟨X0, h0, hf0, _⟩ := key x X hx
    obtain ⟨Y0, g0, _, _⟩ := key y Y hy
    exact hS.inj x y X0 Y0 lx ly h0 g0 hne (hf0 ▸ hf) hlx hly hnx hny

theorem look_only_of {ids : List Nat} {b : Nat} {B : Blk} (h : look m b = some B) (hc : ids.contains b = true) : look (only ids m) b = some B := by
  induction m with
  | nil => simp [look] at h
  | cons x m ih =>
    obtain ⟨k, C⟩ := x
    simp only [look] at h
    simp only [only]
    by_cases hk : (k == b) = true
    · have : k = b := by simpa using hk
      subst this
      rw [if_pos hk] at h
      rw [if_pos hc]
      simp only [look]
      rw [if_pos hk]; exact h
    · rw [if_neg hk] at h
      split
      · simp only [look]; rw [if_neg hk]; exact ih h
      · exact ih h
theorem ded_mem : ∀ {l : List Nat} {b : Nat}, b ∈ ded l → b ∈ l
  | k :: r, b, h => by
    simp only [ded, List.mem_cons, List.mem_filter] at h
    rcases h with rfl | ⟨h, _⟩
    · exact List.mem_cons_self
    · exact List.mem_cons_of_mem _ (ded_mem h)
theorem renM_length {ρ : Nat → Option Nat} : ∀ {ids : List Nat}, (∀ b, b ∈ ids → ∃ B, look m b = some B) → ∀ n, (renM ρ m n ids).length = ids.length
  | [], _, n => rfl
  | b :: r, h, n => by
    obtain ⟨B, hB⟩ := h b List.mem_cons_self
    simp only [renM, hB, List.length_cons, renM_length (fun b hb => h b (List.mem_cons_of_mem _ hb)) (n + 1)]
theorem renM_look {ρ : Nat → Option Nat} : ∀ {ids : List Nat} {n k b : Nat} {B : Blk}, ids[k]? = some b → look m b = some B →
    (look (renM ρ m n ids) (n + k)) = some ⟨if B.kd ≤ 1 then B.cs else B.cs.map (renC ρ 4), B.kd, B.fz⟩
  | [], n, k, b, B, h, _ => by simp at h
  | b0 :: r, n, k, b, B, h, hB => by
    cases k with
    | zero =>
      simp only [List.getElem?_cons_zero, Option.some.injEq] at h; subst h
      simp [renM, hB, look]
    | succ k =>
      simp only [List.getElem?_cons_succ] at h
      have ih := renM_look (ρ := ρ) (n := n + 1) h hB
      rw [show n + 1 + k = n + (k + 1) by omega] at ih
      simp only [renM]
      split
      · simp only [look]
        rw [if_neg (by simp)]
        exact ih
      · exact ih

theorem clC_ok (hS : SR M0 A w0 w μ I m) {J : Nat → Prop} (hJ : ∀ k, I k → J k) {keep : List Nat} : ∀ (cs ds : List AV) (ids : List Nat) (j : Nat) (vs : List Value), clC m keep j cs = some (ds, ids) →
    (∀ b B l, b ∈ ids → look m b = some B → μ b = some l → l.isNil = false → J l.blk) → VRs w cs μ I vs → VRs w ds μ J vs
  | [], ds, ids, j, vs, h, _, hv => by
    simp only [clC, Option.some.injEq, Prod.mk.injEq] at h
    obtain ⟨rfl, rfl⟩ := h
    simpa [VRs] using hv
  | c :: cs, ds, ids, j, vs, h, hi, hv => by
    simp only [VRs] at hv
    obtain ⟨x, xs, rfl, h1, h2⟩ := hv
    simp only [clC] at h
    split at h
    · cases h
    · rename_i ds0 is0 hr
      have hsame : ∀ c : AV, VR w c μ I x → VR w c μ J x := fun c hc => VR.stays _ (Stays.imms _ _ hJ) _ hc
      split at h
      · rename_i b off len sz
        split at h
        · simp only [Option.some.injEq, Prod.mk.injEq] at h
          obtain ⟨rfl, rfl⟩ := h
          exact VRs.cons (hsame _ h1) (clC_ok hS hJ cs _ _ _ xs hr hi h2)
        · simp only [Option.map_eq_some_iff, Prod.mk.injEq] at h
          obtain ⟨d, hd, rfl, rfl⟩ := h
          refine VRs.cons ?_ (clC_ok hS hJ cs _ _ _ xs hr (fun b B l hb => hi b B l (List.mem_append_right _ hb)) h2)
          have hx := exC_ok hS (fun b B hb => (look_only _ _ b B hb).1) (J := J) hJ (fun b B l hb hl hn => by
            obtain ⟨g1, g2⟩ := look_only _ _ b B hb
            exact hi b B l (List.mem_append_left _ (by simpa using g2)) g1 hl hn) 4 _ d x hd h1
          exact VR.stays _ (Stays.locs _ _ _) _ hx
      · simp only [Option.some.injEq, Prod.mk.injEq] at h
        obtain ⟨rfl, rfl⟩ := h
        exact VRs.cons (hsame _ h1) (clC_ok hS hJ cs _ _ _ xs hr hi h2)
theorem clC_nil {keep : List Nat} {cs ds : List AV} {ids : List Nat} {j : Nat} (h : clC m keep j cs = some (ds, ids)) (hc : cs = []) : ds = [] := by
  subst hc
  simp only [clC, Option.some.injEq, Prod.mk.injEq] at h
  exact h.1.symm

theorem clB_ok (hS : SR M0 A w0 w μ I m) {keep : List Nat} {b : Nat} (h : clB m keep b = some m') : ∃ I', Stays μ μ I I' w w ∧ SR M0 A w0 w μ I' m' := by
  unfold clB at h
  split at h
  · injection h with h; subst h
    exact ⟨I, Stays.refl _ _ _, hS⟩
  · rename_i B hB
    split at h
    · injection h with h; subst h
      exact ⟨I, Stays.refl _ _ _, hS⟩
    · rename_i hk
      split at h
      · rename_i ds ids hcl
        split at h
        · cases h
        · rename_i hc
          injection h with h; subst h
          obtain ⟨I', S, hS', hI'⟩ := hS.freeze ids
          have hB2 : look (frz ids m) b = some B := by rw [look_frz, hB]; simp only [Option.map_some]; rw [if_neg hc]
          refine ⟨I', S, hS'.swap hB2 rfl (fun e => clC_nil hcl e) (fun l hl hH => ?_)⟩
          obtain ⟨C, ct, fr, vs, a1, a2, a3, a4, a5, a6, a7⟩ := hH
          obtain ⟨l0, hl0, hBO⟩ := hS.blks b B hB
          rw [hl] at hl0; injection hl0 with e; subst e
          rcases hBO with ⟨h1, h2⟩ | ⟨h1, ⟨C2, ct2, fr2, vs2, b1, b2, b3, b4, b5, b6, b7⟩, h3, h4⟩
          · have hd := clC_nil hcl h2
            subst hd
            rw [h2] at a4 a5
            exact ⟨C, ct, fr, [], a1, a2, a3, a4, a5, (by simp [VRs]), (fun j x hx => by simp at hx)⟩
          · have e1 : ∀ μ : Locs, kμ B.kd μ = μ := fun μ => by unfold kμ; rw [if_neg hk]
            have e2 : ∀ I : Nat → Prop, kI B.kd I = I := fun I => by unfold kI; rw [if_neg (by omega)]
            rw [e1, e2] at b6
            have hv := clC_ok hS S.imm B.cs ds ids 0 vs2 hcl (fun x X lx hx hX hlx hnx => hI' x X lx (by
              have hx' : ids.contains x = true := by simpa using hx
              exact look_only_of hX hx') hlx hnx) b6
            have hlen : ds.length = B.cs.length := by rw [← hv.length, b6.length]
            refine ⟨C2, ct2, fr2, vs2, b1, b2, b3, by show l.base + ds.length ≤ l.lim; omega, fun e => by show l.lim = l.base + ds.length; rw [hlen]; exact b5 e, ?_, b7⟩
            show VRs w ds (kμ B.kd μ) (kI B.kd I') vs2
            rw [e1, e2]; exact hv
      · cases h

theorem clM_ok {cl : Nat → Option (List Nat)} : ∀ (R : List Nat) {I : Nat → Prop} {m m' : List (Nat × Blk)}, SR M0 A w0 w μ I m → clM cl R m = some m' → ∃ I', Stays μ μ I I' w w ∧ SR M0 A w0 w μ I' m'
  | [], I, m, m', hS, h => by
    simp only [clM, Option.some.injEq] at h; subst h
    exact ⟨I, Stays.refl _ _ _, hS⟩
  | b :: r, I, m, m', hS, h => by
    simp only [clM] at h
    split at h
    · exact clM_ok r hS h
    · split at h
      · exact clM_ok r hS h
      · split at h
        · split at h
          · rename_i m1 hm1
            obtain ⟨I1, S1, h1⟩ := clB_ok hS hm1
            obtain ⟨I2, S2, h2⟩ := clM_ok r h1 h
            exact ⟨I2, S1.trans S2, h2⟩
          · cases h
        · exact clM_ok r hS h

theorem passA_ok (hS : SR M0 A w0 w μ I m) {J : Nat → Prop} (hJ : ∀ k, I k → J k) : ∀ (bs : List Bool) (cs ds : List AV) (ids : List Nat) (vs : List Value), passA m bs cs = some (ds, ids) →
    (∀ b B l, b ∈ ids → look m b = some B → μ b = some l → l.isNil = false → J l.blk) → VRs w cs μ I vs → VRs w ds μ J vs
  | bs, [], ds, ids, vs, h, _, hv => by
    cases bs <;> (simp only [passA, Option.some.injEq, Prod.mk.injEq] at h; obtain ⟨rfl, rfl⟩ := h; simpa [VRs] using hv)
  | [], c :: cs, ds, ids, vs, h, hi, hv => by simp [passA] at h
  | b :: bs, c :: cs, ds, ids, vs, h, hi, hv => by
    simp only [VRs] at hv
    obtain ⟨x, xs, rfl, h1, h2⟩ := hv
    simp only [passA] at h
    split at h
    · cases h
    · rename_i ds0 is0 hr
      split at h
      · simp only [Option.some.injEq, Prod.mk.injEq] at h
        obtain ⟨rfl, rfl⟩ := h
        exact VRs.cons (VR.stays _ (Stays.imms _ _ hJ) _ h1) (passA_ok hS hJ bs cs _ _ xs hr hi h2)
      · simp only [Option.map_eq_some_iff, Prod.mk.injEq] at h
        obtain ⟨d, hd, rfl, rfl⟩ := h
        refine VRs.cons ?_ (passA_ok hS hJ bs cs _ _ xs hr (fun b B l hb => hi b B l (List.mem_append_right _ hb)) h2)
        have hx := exC_ok hS (fun b B hb => (look_only _ _ b B hb).1) (J := J) hJ (fun b B l hb hl hn => by
          obtain ⟨g1, g2⟩ := look_only _ _ b B hb
          exact hi b B l (List.mem_append_left _ (by simpa using g2)) g1 hl hn) 4 _ d x hd h1
        exact VR.stays _ (Stays.locs _ _ _) _ hx

theorem look_outM {R : List Nat} (b : Nat) : look (outM R m) b = if R.contains b then none else look m b := by
  induction m with
  | nil => simp [outM, look]
  | cons x m ih =>
    obtain ⟨k, B⟩ := x
    simp only [outM]
    by_cases hk : R.contains k = true
    · rw [if_pos hk, ih]
      by_cases hb : (k == b) = true
      · have : k = b := by simpa using hb
        subst this
        rw [if_pos hk, if_pos hk]
      · simp only [look, hb, Bool.false_eq_true, if_false]
    · rw [if_neg hk]
      simp only [look]
      by_cases hb : (k == b) = true
      · have : k = b := by simpa using hb
        subst this
        rw [if_neg hk, if_pos hb, if_pos hb]
      · simp only [hb, Bool.false_eq_true, if_false, ih]
theorem look_renB {ρ : Nat → Option Nat} : ∀ {m : List (Nat × Blk)} {x : Nat} {X : Blk}, (∀ k k' x, ρ k = some x → ρ k' = some x → k = k') → look (renB ρ m) x = some X →
    ∃ k B, look m k = some B ∧ ρ k = some x ∧ X = ⟨if B.kd ≤ 1 then B.cs else B.cs.map (renC ρ 4), B.kd, B.fz⟩
  | [], x, X, _, h => by simp [renB, look] at h
  | (k0, B0) :: r, x, X, hi, h => by
    simp only [renB] at h
    have hrec : look (renB ρ r) x = some X → ρ k0 ≠ some x → ∃ k B, look ((k0, B0) :: r) k = some B ∧ ρ k = some x ∧ X = ⟨if B.kd ≤ 1 then B.cs else B.cs.map (renC ρ 4), B.kd, B.fz⟩ := by
      intro h hne
      obtain ⟨k, B, h1, h2, h3⟩ := look_renB hi h
      refine ⟨k, B, ?_, h2, h3⟩
      simp only [look]
      rw [if_neg]
      · exact h1
      · intro e
        have : k0 = k := by simpa using e
        subst this
        exact hne h2
    split at h
    · rename_i k' hk'
      simp only [look] at h
      split at h
      · rename_i e
        have : k' = x := by simpa using e
        subst this
        injection h with h
        exact ⟨k0, B0, by simp [look], hk', h.symm⟩
      · rename_i e
        exact hrec h (fun e2 => by rw [hk'] at e2; injection e2 with e2; subst e2; simp at e)
    · rename_i hk'
      exact hrec h (fun e2 => by rw [hk'] at e2; cases e2)

theorem callM_ok {K : Know} (CO : CallOK P K) (hS : SR M0 A w0 w μ I m) (hq : ∀ b, q ≤ b → b < q + 16 → μ b = none) {g : Nat} {args : List AV} {v : AV} (h : callM T K q m g args = some (v, m')) {vals : List Value} (hv : VRs w args μ I vals) :
    (∃ fn, P.funcs[g]? = some fn ∧ fn.body.isSome = true ∧ (fn.name == "runtime.NumGoroutine") = false) ∧ Calls P g vals.toArray w fun e w' => ∃ x, e = .returned x ∧ EK M0 A w0 w μ I q v m' x w' := by
  unfold callM at h
  split at h
  · cases h
  rename_i ds fz hpass
  split at h
  · cases h
  rename_i m1 hm1
  split at h
  · cases h
  rename_i r mr hK
  injection h with h; injection h with e1 e2; subst e1; subst e2
  -- the arguments, closed
  obtain ⟨I0, S0, hS0, hI0⟩ := hS.freeze fz
  obtain ⟨I1, S1, hS1⟩ := clM_ok _ hS0 hm1
  have hds : VRs w ds μ I0 vals := passA_ok hS S0.imm _ _ _ _ _ hpass (fun b B l hb hB hl hn => hI0 b B l (look_only_of hB (by simpa using hb)) hl hn) hv
  have hds1 : VRs w ds μ I1 vals := VRs.stays _ S1 _ hds
  obtain ⟨R, hR⟩ : ∃ R, rts m1 ds = R := ⟨_, rfl⟩
  rw [hR] at hK ⊢
  have hnd : R.Nodup := by rw [← hR]; exact ded_nodup _
  have hRl : ∀ b, b ∈ R → ∃ B l, look m1 b = some B ∧ μ b = some l := by
    intro b hb
    rw [← hR] at hb
    have := ded_mem hb
    simp only [List.mem_filter] at this
    obtain ⟨B, hB⟩ := Option.isSome_iff_exists.1 this.2
    obtain ⟨l, hl, _⟩ := hS1.blks b B hB
    exact ⟨B, l, hB, hl⟩
  have hRq : ∀ b, b ∈ R → ¬ (q ≤ b ∧ b < q + 16) := fun b hb hw => by
    obtain ⟨B, l, _, hl⟩ := hRl b hb
    rw [hq b hw.1 hw.2] at hl; cases hl
  let μ0 : Locs := fun n => (R[n]?).bind μ
  have hlook : ∀ {k B'}, look (renM (pos R) m1 0 R) k = some B' → ∃ b B, R[k]? = some b ∧ look m1 b = some B ∧ B' = ⟨if B.kd ≤ 1 then B.cs else B.cs.map (renC (pos R) 4), B.kd, B.fz⟩ := by
    intro k B' hk
    obtain ⟨i, b, B, rfl, h2, h3, h4⟩ := look_renM hk
    exact ⟨b, B, by simpa using h2, h3, h4⟩
  have hfull : ∀ k b, R[k]? = some b → ∃ B, look m1 b = some B ∧ look (renM (pos R) m1 0 R) k = some ⟨if B.kd ≤ 1 then B.cs else B.cs.map (renC (pos R) 4), B.kd, B.fz⟩ := by
    intro k b hk
    obtain ⟨B, _, hB, _⟩ := hRl b (List.mem_of_getElem? hk)
    refine ⟨B, hB, ?_⟩
    have := renM_look (ρ := pos R) (m := m1) (n := 0) hk hB
    simpa using this
  have hlen : (renM (pos R) m1 0 R).length = R.length := renM_length (fun b hb => by obtain ⟨B, _, hB, _⟩ := hRl b hb; exact ⟨B, hB⟩) 0
  have hSc : SR (own0 μ0 (renM (pos R) m1 0 R)) I1 w w μ0 I1 (renM (pos R) m1 0 R) := by
    refine ⟨fun k B' hk => ?_, fun k k' B' B'' l l' hk hk' hne hfz hl hl' hn hn' => ?_, hS1.immLt, fun _ h => h, fun _ h => .inl h, Keep.refl _ _⟩
    · obtain ⟨b, B, hb, hB, rfl⟩ := hlook hk
      obtain ⟨l, hl, hBO⟩ := hS1.blks b B hB
      have hl0 : μ0 k = some l := by simp only [μ0, hb, Option.bind_some]; exact hl
      refine ⟨l, hl0, ?_⟩
      rcases hBO with ⟨h1, h2⟩ | ⟨h1, ⟨C, ct, fr, vs, a1, a2, a3, a4, a5, a6, a7⟩, h3, h4⟩
      · exact .inl ⟨h1, by simp [h2]⟩
      · have hlen : (if B.kd ≤ 1 then B.cs else B.cs.map (renC (pos R) 4)).length = B.cs.length := by split <;> simp
        refine .inr ⟨h1, ⟨C, ct, fr, vs, a1, a2, a3, by simp only [hlen]; exact a4, by simp only [hlen]; exact a5, ?_, a7⟩, h3, fun e => ⟨(h4 e).1, .inl ⟨k, _, l, hk, e, hl0, h1, rfl⟩⟩⟩
        by_cases hkd : B.kd ≤ 1
        · simp only [hkd, if_true]
          unfold kμ at a6 ⊢
          rw [if_pos hkd] at a6 ⊢
          exact a6
        · simp only [hkd, if_false]
          have e1 : ∀ μ : Locs, kμ B.kd μ = μ := fun μ => by unfold kμ; rw [if_neg hkd]
          rw [e1] at a6 ⊢
          exact renL_ok 4 _ _ a6
    · obtain ⟨b, B, hb, hB, rfl⟩ := hlook hk
      obtain ⟨b', B2, hb', hB2, rfl⟩ := hlook hk'
      simp only [μ0, hb, hb', Option.bind_some] at hl hl'
      refine hS1.inj b b' B B2 l l' hB hB2 (fun e => ?_) hfz hl hl' hn hn'
      subst e
      apply hne
      have h1 : k < R.length := (List.getElem?_eq_some_iff.1 hb).1
      exact (List.getElem?_inj h1 hnd).1 (hb.trans hb'.symm)
  obtain ⟨hT, hfn⟩ := CO.m _ _ _ _ _ hK
  refine ⟨hfn, (hT R.length I1 w μ0 vals hSc (renL_ok 4 _ _ hds1) (fun b hb => by simp [μ0, List.getElem?_eq_none hb]) hlen).mono fun e w' ⟨x, μ', I', he, hS', hx, hpin⟩ => ⟨x, he, ?_⟩⟩
  let μ2 : Locs := fun b => if q ≤ b ∧ b < q + 16 then μ' (b - q + R.length) else μ b
  have hk := hS'.keep
  -- what the callee may have written
  have hM : ∀ k, own0 μ0 (renM (pos R) m1 0 R) k → ∃ b B l, look m1 b = some B ∧ b ∈ R ∧ B.fz = false ∧ μ b = some l ∧ l.isNil = false ∧ l.blk = k := by
    rintro k ⟨i, B', l, hi, hf, hl, hn, rfl⟩
    obtain ⟨b, B, hb, hB, rfl⟩ := hlook hi
    simp only [μ0, hb, Option.bind_some] at hl
    exact ⟨b, B, l, hB, List.mem_of_getElem? hb, hf, hl, hn, rfl⟩
  have hM2 : ∀ k, own0 μ0 (renM (pos R) m1 0 R) k → ¬ I1 k ∧ (M0 k ∨ w0.heap.size ≤ k) ∧ k < w.heap.size := by
    intro k hk
    obtain ⟨b, B, l, hB, _, hf, hl, hn, rfl⟩ := hM k hk
    obtain ⟨l0, hl0, hBO⟩ := hS1.blks b B hB
    rw [hl] at hl0; injection hl0 with e; subst e
    rcases hBO with ⟨h1, _⟩ | ⟨_, _, _, h4⟩
    · rw [hn] at h1; cases h1
    · exact ⟨(h4 hf).1, (h4 hf).2, hS1.lt hB hl hn⟩
  have hMout : ∀ b B l, b ∉ R → look m1 b = some B → μ b = some l → l.isNil = false → ¬ own0 μ0 (renM (pos R) m1 0 R) l.blk := by
    intro b B l hbR hB hl hn hm
    obtain ⟨b2, B2, l2, hB2, hb2, hf2, hl2, hn2, he⟩ := hM _ hm
    exact hS1.inj b2 b B2 B l2 l hB2 hB (fun e => hbR (e ▸ hb2)) hf2 hl2 hl hn2 hn he
  have h2 : ∀ b l, μ b = some l → μ2 b = some l := by
    intro b l hb
    have : ¬ (q ≤ b ∧ b < q + 16) := fun h => by rw [hq b h.1 h.2] at hb; cases hb
    simp only [μ2, if_neg this]; exact hb
  have S2 : Stays μ μ2 I1 I' w w' := ⟨h2, hS'.immA, fun k hk1 => hk.block k (hS1.immLt k hk1) (fun hm => (hM2 k hm).1 hk1)⟩
  have hL : ∀ b b', back R q b = some b' → ∀ l, μ' b = some l → μ2 b' = some l := by
    intro b b' hb l hl
    unfold back at hb
    split at hb
    · rename_i hlt
      have hmem := List.mem_of_getElem? hb
      obtain ⟨B, l0, hB, hl0⟩ := hRl b' hmem
      have : μ' b = some l0 := hpin b l0 hlt (by simp only [μ0, hb, Option.bind_some]; exact hl0)
      rw [this] at hl; injection hl with hl; subst hl
      exact h2 b' _ hl0
    · split at hb
      · injection hb with hb; subst hb
        simp only [μ2]
        rw [if_pos (by omega), show q + (b - R.length) - q + R.length = b by omega]
        exact hl
      · cases hb
  have hinj : ∀ k k' x, back R q k = some x → back R q k' = some x → k = k' := by
    intro k k' x hk1 hk2
    have hw1 : ∀ k, k < R.length → back R q k = some x → x ∈ R ∧ R[k]? = some x := by
      intro k hlt h
      unfold back at h
      rw [if_pos hlt] at h
      exact ⟨List.mem_of_getElem? h, h⟩
    have hw2 : ∀ k, ¬ k < R.length → back R q k = some x → x = q + (k - R.length) ∧ k < R.length + 16 := by
      intro k hlt h
      unfold back at h
      rw [if_neg hlt] at h
      split at h
      · injection h with h; exact ⟨h.symm, by assumption⟩
      · cases h
    by_cases h1 : k < R.length <;> by_cases h2 : k' < R.length
    · exact (List.getElem?_inj h1 hnd).1 ((hw1 k h1 hk1).2.trans (hw1 k' h2 hk2).2.symm)
    · have := hRq x (hw1 k h1 hk1).1
      have := hw2 k' h2 hk2
      omega
    · have := hRq x (hw1 k' h2 hk2).1
      have := hw2 k h1 hk1
      omega
    · have := hw2 k h1 hk1
      have := hw2 k' h2 hk2
      omega
  -- blocks behind the call
  have hm : ∀ b B, look (outM R m1 ++ renB (back R q) mr) b = some B → (b ∉ R ∧ look m1 b = some B) ∨ (∃ k B0, look mr k = some B0 ∧ back R q k = some b ∧ B = ⟨if B0.kd ≤ 1 then B0.cs else B0.cs.map (renC (back R q) 4), B0.kd, B0.fz⟩) := by
    intro b B hb
    rw [look_append] at hb
    split at hb
    · rename_i B1 hB1
      injection hb with hb; subst hb
      rw [look_outM] at hB1
      split at hB1
      · cases hB1
      · rename_i hc
        exact .inl ⟨by simpa using hc, hB1⟩
    · exact .inr (look_renB hinj hb)
  have hIout : ∀ b B l, b ∉ R → look m1 b = some B → μ b = some l → l.isNil = false → B.fz = false → ¬ I' l.blk := by
    intro b B l hbR hB hl hn hf hI
    obtain ⟨l0, hl0, hBO⟩ := hS1.blks b B hB
    rw [hl] at hl0; injection hl0 with e; subst e
    rcases hBO with ⟨h1, _⟩ | ⟨_, _, _, h4⟩
    · rw [hn] at h1; cases h1
    · rcases hS'.immN _ hI with h | h | h
      · exact (h4 hf).1 h
      · exact hMout b B l hbR hB hl hn h
      · have := hS1.lt hB hl hn; omega
  refine ⟨μ2, I', (S0.trans S1).trans S2, ⟨fun b B hb => ?_, fun b b' B B' l l' hb hb' hne hfz hl hl' hn hn' => ?_, hS'.immLt, fun k h => hS'.immA k (hS1.immA k h), fun k h => ?_, ?_⟩, fun b hb => ?_, renG_ok hL 4 r x hx⟩
  · rcases hm b B hb with ⟨hbR, hB⟩ | ⟨k, B0, hk0, hbk, rfl⟩
    · obtain ⟨l, hl, hBO⟩ := hS1.blks b B hB
      refine ⟨l, h2 b l hl, ?_⟩
      rcases hBO with h1 | ⟨h1, h5, h3, h4⟩
      · exact .inl h1
      · exact .inr ⟨h1, h5.stays S2 (hk.block _ (hS1.lt hB hl h1) (hMout b B l hbR hB hl h1)), fun e => hS'.immA _ (h3 e), fun e => ⟨hIout b B l hbR hB hl h1 e, (h4 e).2⟩⟩
    · obtain ⟨l, hl, hBO⟩ := hS'.blks k B0 hk0
      refine ⟨l, hL _ _ hbk _ hl, ?_⟩
      rcases hBO with ⟨h1, h3⟩ | ⟨h1, ⟨C, ct, fr, vs, a1, a2, a3, a4, a5, a6, a7⟩, h3, h4⟩
      · exact .inl ⟨h1, by simp [h3]⟩
      · have hlen : (if B0.kd ≤ 1 then B0.cs else B0.cs.map (renC (back R q) 4)).length = B0.cs.length := by split <;> simp
        refine .inr ⟨h1, ⟨C, ct, fr, vs, a1, a2, a3, by simp only [hlen]; exact a4, by simp only [hlen]; exact a5, ?_, a7⟩, h3, fun e => ⟨(h4 e).1, ?_⟩⟩
        · by_cases hkd : B0.kd ≤ 1
          · simp only [hkd, if_true]
            unfold kμ at a6 ⊢
            rw [if_pos hkd] at a6 ⊢
            exact a6
          · simp only [hkd, if_false]
            have e1 : ∀ μ : Locs, kμ B0.kd μ = μ := fun μ => by unfold kμ; rw [if_neg hkd]
            rw [e1] at a6 ⊢
            exact renGL_ok hL 4 _ _ a6
        · rcases (h4 e).2 with h | h
          · exact (hM2 _ h).2.1
          · exact .inr (Nat.le_trans hS1.keep.size h)
  · have hyz : ∀ k B0 l, look mr k = some B0 → μ' k = some l → l.isNil = false → B0.fz = false → own0 μ0 (renM (pos R) m1 0 R) l.blk ∨ w.heap.size ≤ l.blk := by
      intro k B0 l hk0 hl hn hf
      obtain ⟨l0, hl0, hBO⟩ := hS'.blks k B0 hk0
      rw [hl] at hl0; injection hl0 with e; subst e
      rcases hBO with ⟨h1, _⟩ | ⟨_, _, _, h4⟩
      · rw [hn] at h1; cases h1
      · exact (h4 hf).2
    have hyI : ∀ k B0 l, look mr k = some B0 → μ' k = some l → l.isNil = false → B0.fz = true → I' l.blk := by
      intro k B0 l hk0 hl hn hf
      obtain ⟨l0, hl0, hBO⟩ := hS'.blks k B0 hk0
      rw [hl] at hl0; injection hl0 with e; subst e
      rcases hBO with ⟨h1, _⟩ | ⟨_, _, h3, _⟩
      · rw [hn] at h1; cases h1
      · exact h3 hf
    rcases hm b B hb with ⟨hbR, hB⟩ | ⟨k, B0, hk0, hbk, rfl⟩ <;> rcases hm b' B' hb' with ⟨hbR', hB'⟩ | ⟨k', B0', hk0', hbk', rfl⟩
    · obtain ⟨l1, hl1, _⟩ := hS1.blks b B hB
      obtain ⟨l2, hl2, _⟩ := hS1.blks b' B' hB'
      rw [h2 b l1 hl1] at hl; injection hl with e; subst e
      rw [h2 b' l2 hl2] at hl'; injection hl' with e; subst e
      exact hS1.inj b b' B B' _ _ hB hB' hne hfz hl1 hl2 hn hn'
    · obtain ⟨l1, hl1, _⟩ := hS1.blks b B hB
      obtain ⟨l2, hl2, _⟩ := hS'.blks k' B0' hk0'
      rw [h2 b l1 hl1] at hl; injection hl with e; subst e
      rw [hL _ _ hbk' _ hl2] at hl'; injection hl' with e; subst e
      intro e
      cases hf : B0'.fz with
      | true => exact hIout b B _ hbR hB hl1 hn hfz (e ▸ hyI k' B0' _ hk0' hl2 hn' hf)
      | false =>
        rcases hyz k' B0' _ hk0' hl2 hn' hf with h | h
        · exact hMout b B _ hbR hB hl1 hn (e ▸ h)
        · have := hS1.lt hB hl1 hn; omega
    · obtain ⟨l1, hl1, _⟩ := hS'.blks k B0 hk0
      obtain ⟨l2, hl2, _⟩ := hS1.blks b' B' hB'
      rw [hL _ _ hbk _ hl1] at hl; injection hl with e; subst e
      rw [h2 b' l2 hl2] at hl'; injection hl' with e; subst e
      intro e
      rcases hyz k B0 _ hk0 hl1 hn hfz with h | h
      · exact hMout b' B' _ hbR' hB' hl2 hn' (e ▸ h)
      · have := hS1.lt hB' hl2 hn'; omega
    · obtain ⟨l1, hl1, _⟩ := hS'.blks k B0 hk0
      obtain ⟨l2, hl2, _⟩ := hS'.blks k' B0' hk0'
      rw [hL _ _ hbk _ hl1] at hl; injection hl with e; subst e
      rw [hL _ _ hbk' _ hl2] at hl'; injection hl' with e; subst e
      refine hS'.inj k k' B0 B0' _ _ hk0 hk0' (fun e => ?_) hfz hl1 hl2 hn hn'
      subst e
      rw [hbk] at hbk'; injection hbk' with e; exact hne e
  · rcases hS'.immN k h with h | h | h
    · exact hS1.immN k h
    · exact .inr (hM2 k h).2.1
    · exact .inr (.inr (Nat.le_trans hS1.keep.size h))
  · refine ⟨hk.os.trans hS.keep.os, hk.tape.trans hS.keep.tape, hk.output.trans hS.keep.output, Nat.le_trans hS.keep.size hk.size, fun k hlt hnm => ?_⟩
    rw [hk.block k (Nat.lt_of_lt_of_le hlt hS.keep.size) (fun hmm => ?_), hS.keep.block k hlt hnm]
    rcases (hM2 k hmm).2.1 with h | h
    · exact hnm h
    · omega
  · simp only [μ2, if_neg (by omega : ¬ (q ≤ b ∧ b < q + 16))]
end
end Go.AM
end
