/- The abstract machine, part 9: every quiet operation. -/
import Derived.Test.YtahbgblkinknoaaAMh
set_option linter.unusedVariables false
set_option linter.unusedSimpArgs false
set_option linter.unnecessarySimpa false
namespace Go.AM
/-- What is known of the machine's calls. -/
def CallOK (P : Program) (call : Nat → List AV → Option AV) : Prop :=
  ∀ f args r, call f args = some r → Told P f args r ∧ ∃ fn, P.funcs[f]? = some fn ∧ fn.body.isSome = true ∧ (fn.name == "runtime.NumGoroutine") = false

section
variable {P : Program} {T : Tab} {M0 A : Nat → Prop} {w0 w : World} {μ : Locs} {I : Nat → Prop} {m mv : List (Nat × Blk)} {q : Nat}

theorem mapM_append' {f : AV → Option AV} {a b ds : List AV} (h : (a ++ b).mapM f = some ds) : ∃ d e, a.mapM f = some d ∧ b.mapM f = some e ∧ ds = d ++ e := by
  rw [List.mapM_append] at h
  simp only [Option.bind_eq_bind, Option.bind_eq_some_iff, Option.pure_def, Option.some.injEq] at h
  obtain ⟨d, hd, e, he, rfl⟩ := h
  exact ⟨d, e, hd, he, rfl⟩

theorem evs_ok {t : List AV} {a : Act} (ht : VRs w t μ I a.tmps.toList) (xs : Array Operand) : VRs w (evs t xs) μ I (xs.map a.eval).toList := by
  refine VRs.of_get (by simp [evs]) fun j c x hc hx => ?_
  simp only [evs, List.getElem?_map, Option.map_eq_some_iff] at hc
  obtain ⟨r, hr, rfl⟩ := hc
  simp only [Array.toList_map, List.getElem?_map, Option.map_eq_some_iff] at hx
  obtain ⟨r', hr', rfl⟩ := hx
  rw [hr] at hr'; injection hr' with e; subst e
  exact VR.ev ht _

theorem run_callFunc {f : Nat} {fn : Func} (hf : P.funcs[f]? = some fn) (hb : fn.body.isSome = true) (hn : (fn.name == "runtime.NumGoroutine") = false) (args : Array Value) (w : World) :
    (callFunc f args).run P w = .ok (.enter f args) w := by
  have hnn : fn.body.isNone = false := by cases h : fn.body <;> simp_all
  simp only [callFunc, Sem.run_bind, run_program, Result.andThen_ok, hf, hn, Bool.false_eq_true, if_false, hnn, Sem.run_pure]

theorem callA_ok {call : Nat → List AV → Option AV} (CO : CallOK P call) (hS : SR M0 A w0 w μ I m) (hsub : ∀ b B, look mv b = some B → look m b = some B)
    (hq : ∀ b, q ≤ b → b < q + 16 → μ b = none) {f : AV} {xs : List AV} {v : AV} {adds : List (Nat × Blk)} (h : callA call mv q f xs = some (v, adds)) {fv : Value} {vals : List Value} (hf : VR w f μ I fv) (hx : VRs w xs μ I vals) :
    ∃ g caps, fv = .func (.func g) #[] caps ∧ (∃ fn, P.funcs[g]? = some fn ∧ fn.body.isSome = true ∧ (fn.name == "runtime.NumGoroutine") = false) ∧
      Calls P g (vals.toArray ++ caps) w fun e w' => ∃ x, e = .returned x ∧ QK M0 A w0 w μ I m q v adds x w' := by
  unfold callA at h
  split at h <;> try (cases h; done)
  rename_i g caps
  simp only [VR] at hf
  obtain ⟨cvs, rfl, hcv⟩ := hf
  split at h
  · cases h
  · rename_i args hargs
    split at h
    · cases h
    · rename_i r hr
      obtain ⟨hT, hfn⟩ := CO g args r hr
      refine ⟨g, _, rfl, hfn, ?_⟩
      have hall := hx.append hcv
      split at h
      · rename_i hq2
        split at h
        · rename_i hfl
          injection h with h; injection h with h1 h2; subst h1; subst h2
          have hVR : VRs w args noLocs (Open μ I m) (vals ++ cvs) :=
            mapM_ok hargs hall fun c _ d x hd hxv => exC_ok hS hsub (fun k hk => .inl hk) (fun b B l hb hl hn => .inr ⟨b, B, l, hsub b B hb, hl, hn, rfl⟩) 4 c d x hd hxv
          have hC := hT (Open μ I m) w (vals ++ cvs) (fun k hk => hk.lt hS) hVR
          rw [show vals.toArray ++ cvs.toArray = (vals ++ cvs).toArray by simp]
          refine hC.mono fun e w' ⟨x, he, hF⟩ => ⟨x, he, ?_⟩
          exact hS.call hq hq2 (hF q) (.inl hfl)
        · split at h
          · rename_i hno
            injection h with h; injection h with h1 h2; subst h1; subst h2
            obtain ⟨args2, hargs2⟩ := Option.isSome_iff_exists.1 hno
            have hsub0 : ∀ b B, look ([] : List (Nat × Blk)) b = some B → look m b = some B := fun b B h => by simp [look] at h
            have he : args2 = args := by
              have key : ∀ (n : Nat) (c d : AV), exC [] n c = some d → ∀ m', exC m' n c = some d := by
                intro n
                induction n with
                | zero => intro c d h m'; cases c <;> simp only [exC] at h ⊢ <;> first | exact h | (cases h; done)
                | succ n ih =>
                  have hL : ∀ (cs ds : List AV) (m' : List (Nat × Blk)), cs.mapM (exC [] n) = some ds → cs.mapM (exC m' n) = some ds := by
                    intro cs
                    induction cs with
                    | nil => intro ds m' h; simpa using h
                    | cons c cs ihc =>
                      intro ds m' h
                      simp only [List.mapM_cons, Option.bind_eq_bind, Option.bind_eq_some_iff, Option.pure_def, Option.some.injEq] at h ⊢
                      obtain ⟨d, hd, ds', hds, rfl⟩ := h
                      exact ⟨d, ih c d hd m', ds', ihc ds' m' hds, rfl⟩
                  intro c d h m'
                  cases c <;> simp only [exC] at h ⊢ <;> try exact h
                  case agg cs =>
                    simp only [Option.map_eq_some_iff] at h ⊢
                    obtain ⟨ds, hds, rfl⟩ := h
                    exact ⟨ds, hL _ _ _ hds, rfl⟩
                  case tup cs =>
                    simp only [Option.map_eq_some_iff] at h ⊢
                    obtain ⟨ds, hds, rfl⟩ := h
                    exact ⟨ds, hL _ _ _ hds, rfl⟩
                  case fn f cs =>
                    simp only [Option.map_eq_some_iff] at h ⊢
                    obtain ⟨ds, hds, rfl⟩ := h
                    exact ⟨ds, hL _ _ _ hds, rfl⟩
                  case ref => simp [look] at h
                  case ptr => simp [look] at h
              have hL : ∀ (cs ds : List AV), cs.mapM (exC [] 4) = some ds → cs.mapM (exC mv 4) = some ds := by
                intro cs
                induction cs with
                | nil => intro ds h; simpa using h
                | cons c cs ihc =>
                  intro ds h
                  simp only [List.mapM_cons, Option.bind_eq_bind, Option.bind_eq_some_iff, Option.pure_def, Option.some.injEq] at h ⊢
                  obtain ⟨d, hd, ds', hds, rfl⟩ := h
                  exact ⟨d, key 4 c d hd mv, ds', ihc ds' hds, rfl⟩
              have := hL _ _ hargs2
              rw [hargs] at this; injection this with this; exact this.symm
            subst he
            have hVR : VRs w args2 noLocs I (vals ++ cvs) :=
              mapM_ok hargs2 hall fun c _ d x hd hxv => exC_ok hS hsub0 (fun k hk => hk) (fun b B l hb hl hn => by simp [look] at hb) 4 c d x hd hxv
            have hC := hT I w (vals ++ cvs) hS.immLt hVR
            rw [show vals.toArray ++ cvs.toArray = (vals ++ cvs).toArray by simp]
            refine hC.mono fun e w' ⟨x, he, hF⟩ => ⟨x, he, ?_⟩
            exact hS.call hq hq2 (hF q) (.inr fun k hk => hk)
          · cases h
      · cases h

theorem builtinA_ok (TO : TabOK P T) {b : Builtin} {tys : Array Nat} {xs : List AV} {vals : List Value} {v : AV} (h : builtinA T b tys xs = some v) (hx : VRs w xs μ I vals) (ty : Nat) (cs : Array Bool) :
    ∃ y, (builtin b tys ty cs vals.toArray).run P w = .ok (.value y) w ∧ VR w v μ I y := by
  unfold builtinA at h
  split at h <;> try (cases h; done)
  · rename_i x
    simp only [VRs] at hx
    obtain ⟨y, ys, rfl, hy, rfl⟩ := hx
    cases ht : tys[0]? with
    | none => rw [ht] at h; simp at h
    | some t0 =>
      rw [ht] at h
      simp only [Option.bind_some] at h
      have hlen : ∀ d, T.u t0 = some d → (underlying t0).run P w = .ok d w := fun d hd => run_und (TO.u _ _ hd) w
      split at h <;> try (cases h; done)
      · rename_i s hu
        injection h with h; subst h
        simp only [VR] at hy; subst hy
        refine ⟨_, ?_, by simp only [VR]; rfl⟩
        have hsz : (⟨s.toArray⟩ : ByteArray).size = s.length := by simp [ByteArray.size]
        simp [builtin, Builtin.len_, ht, hlen _ hu, goInt, hsz]
      · rename_i hu
        injection h with h; subst h
        simp only [VR] at hy; obtain ⟨a, rfl⟩ := hy
        refine ⟨_, ?_, by simp only [VR]; rfl⟩
        simp [builtin, Builtin.len_, ht, hlen _ hu, goInt]
      · rename_i hu
        injection h with h; subst h
        simp only [VR] at hy; obtain ⟨a, cap, rfl, _⟩ := hy
        refine ⟨_, ?_, by simp only [VR]; rfl⟩
        simp [builtin, Builtin.len_, ht, hlen _ hu, goInt]
      · rename_i hu
        injection h with h; subst h
        simp only [VR] at hy
        obtain ⟨l, hl, ⟨_, ⟨a, rfl⟩, _, rfl⟩ | ⟨_, cap, rfl, _⟩⟩ := hy
        · refine ⟨_, ?_, by simp only [VR]; rfl⟩
          simp [builtin, Builtin.len_, ht, hlen _ hu, goInt]
        · refine ⟨_, ?_, by simp only [VR]; rfl⟩
          simp [builtin, Builtin.len_, ht, hlen _ hu, goInt]
      · rename_i n e hu
        injection h with h; subst h
        refine ⟨_, ?_, by simp only [VR]; rfl⟩
        simp [builtin, Builtin.len_, ht, hlen _ hu, goInt]
  · rename_i k a k' b'
    simp only [VRs] at hx
    obtain ⟨y, ys, rfl, hy, z, zs, rfl, hz, rfl⟩ := hx
    injection h with h; subst h
    simp only [VR] at hy hz; subst hy; subst hz
    refine ⟨_, ?_, by simp only [VR]; rfl⟩
    simp [builtin, Builtin.min_, Builtin.min2]
  · rename_i k a k' b'
    simp only [VRs] at hx
    obtain ⟨y, ys, rfl, hy, z, zs, rfl, hz, rfl⟩ := hx
    injection h with h; subst h
    simp only [VR] at hy hz; subst hy; subst hz
    refine ⟨_, ?_, by simp only [VR]; rfl⟩
    simp [builtin, Builtin.max_, Builtin.max2]
end
end Go.AM
