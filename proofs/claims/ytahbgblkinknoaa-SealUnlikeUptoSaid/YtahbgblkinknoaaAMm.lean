/- The abstract machine, part 13: any operation; operations one after the other. -/
import Derived.Test.YtahbgblkinknoaaAMl
set_option linter.unusedVariables false
set_option linter.unusedSimpArgs false
set_option linter.unnecessarySimpa false
namespace Go.AM

/-- A state: temporaries, own blocks, the next number. -/
structure St where
  t : List AV
  m : List (Nat × Blk)
  nx : Nat

def putA (t : List AV) (d : Option Nat) (v : AV) : List AV :=
  match d with
  | some d => t.set d v
  | none => t
/-- Is the operation carried out? -/
def wantedA (ops : Array Oper) (t : List AV) (o : Oper) : Option Bool :=
  match o.guard with
  | none => some true
  | some (g, want) => match (ops[g]?).bind (·.dst) with
    | none => some false
    | some d => match t[d]? with
      | some (.bool b) => some (b == want)
      | some (.tup []) => some false
      | _ => none
def stepA (T : Tab) (call : Nat → List AV → Option AV) (ops : Array Oper) (o : Oper) (s : St) : Option St :=
  match wantedA ops s.t o with
  | some true => (eop T call s.nx s.t s.m o).map fun r => ⟨putA s.t o.dst r.1, r.2, s.nx + 16⟩
  | some false => some ⟨putA s.t o.dst (.tup []), s.m, s.nx⟩
  | none => none
def runL (T : Tab) (call : Nat → List AV → Option AV) (ops : Array Oper) : List Nat → St → Option St
  | [], s => some s
  | i :: r, s => match ops[i]? with
    | none => runL T call ops r s
    | some o => match stepA T call ops o s with
      | some s' => runL T call ops r s'
      | none => none

/-- The state holds of the activation. -/
def Inv (M0 A : Nat → Prop) (w0 : World) (s : St) (a : Act) (w : World) : Prop :=
  ∃ μ I, SR M0 A w0 w μ I s.m ∧ VRs w s.t μ I a.tmps.toList ∧ (∀ b, s.nx ≤ b → μ b = none) ∧ a.defers = []

section
variable {P : Program} {T : Tab} {M0 A : Nat → Prop} {w0 w w' : World} {μ μ' : Locs} {I I' : Nat → Prop} {m m' mv : List (Nat × Blk)} {q : Nat} {o : Oper} {a : Act} {t : List AV} {call : Nat → List AV → Option AV}

theorem QK.eK {v : AV} {adds : List (Nat × Blk)} {x : Value} (h : QK M0 A w0 w μ I m q v adds x w') : EK M0 A w0 w μ I q v (m ++ adds) x w' := h

theorem eop_ok (TO : TabOK P T) (CO : CallOK P call) (hM : ∀ k, ¬ M0 k) (hS : SR M0 A w0 w μ I m) (hq : ∀ b, q ≤ b → b < q + 16 → μ b = none) (ht : VRs w t μ I a.tmps.toList) {v : AV}
    (h : eop T call q t m o = some (v, m')) : Upon P (EK M0 A w0 w μ I q v m') ((execOp a.eval o).run P w) := by
  have hquiet : (qop T call q t m o).map (fun r => (r.1, m ++ r.2)) = some (v, m') → Upon P (EK M0 A w0 w μ I q v m') ((execOp a.eval o).run P w) := by
    intro h
    simp only [Option.map_eq_some_iff, Prod.mk.injEq] at h
    obtain ⟨⟨v', adds⟩, hv, rfl, rfl⟩ := h
    exact qop_ok TO CO hS (fun _ _ h => h) hq ht hv
  unfold eop at h
  split at h
  · rename_i ty x y heq
    simp only [Option.map_eq_some_iff, Prod.mk.injEq] at h
    obtain ⟨m1, hm, rfl, rfl⟩ := h
    obtain ⟨w', hrun, hst, hsr⟩ := storeA_ok (P := P) TO hS hm (VR.ev ht x) (VR.ev ht y)
    have : (execOp a.eval o).run P w = .ok .skip w' := by
      unfold execOp; rw [heq]
      simp only [Sem.run_bind, hrun, Result.andThen_ok, Sem.run_pure]
    rw [this]
    exact ⟨μ, I, hst, hsr, fun _ _ => rfl, by simp [VR, VRs, undef]⟩
  · rename_i c heq
    split at h
    · rename_i hb
      split at h
      · rename_i x y hxy
        have hev := evs_ok ht c.args
        rw [hxy] at hev
        simp only [VRs] at hev
        obtain ⟨xv, _, he, hx, yv, _, rfl, hy, rfl⟩ := hev
        have hargs : c.args.map a.eval = #[xv, yv] := by
          apply Array.toList_inj.1
          simpa using he
        have hty : ∃ t0 t1, c.argTypes[0]? = some t0 ∧ c.argTypes[1]? = some t1 := by
          unfold appA at h
          split at h <;> try (cases h; done)
          rename_i h0 h1
          simp only [Option.bind_eq_some_iff] at h0 h1
          obtain ⟨t0, h0, _⟩ := h0
          obtain ⟨t1, h1, _⟩ := h1
          exact ⟨t0, t1, h0, h1⟩
        obtain ⟨t0, t1, ht0, ht1⟩ := hty
        have h' : appA T m q #[t0, t1] x y = some (v, m') := by
          rw [← h]; unfold appA; rw [ht0, ht1]; rfl
        obtain ⟨r, w', hrun, hk⟩ := appA_ok (P := P) (ty := o.type) TO hS hM hq h' hx hy rfl
        have hrun' : (Builtin.append_ c.argTypes o.type #[xv, yv]).run P w = .ok r w' := by
          rw [← hrun]
          simp only [Builtin.append_, ht0, ht1]
          rfl
        have : (execOp a.eval o).run P w = .ok (.value r) w' := by
          unfold execOp; rw [heq]
          simp only [resolve, hb, Sem.run_bind, Sem.run_pure, Result.andThen_ok, invoke, hargs, builtin, hrun']
        rw [this]
        exact hk
      · cases h
    · exact hquiet h
  · exact hquiet h

theorem undef_ok : VR w (.tup []) μ I undef := by simp [VR, VRs, undef]

theorem putA_ok (ht : VRs w t μ I a.tmps.toList) {v : AV} {x : Value} (hv : VR w v μ I x) (d : Option Nat) : VRs w (putA t d v) μ I (a.put d x).tmps.toList := by
  cases d with
  | none => exact ht
  | some d => simp only [putA, Act.put, Array.toList_setIfInBounds]; exact ht.set d hv

theorem wantedA_ok {ops : Array Oper} {b : Bool} (ht : VRs w t μ I a.tmps.toList) (h : wantedA ops t o = some b) : Region.wanted o (yielded ops a.tmps) = b := by
  unfold wantedA at h
  unfold Region.wanted
  split at h
  · rename_i hg; rw [hg]; injection h
  · rename_i g want hg
    rw [hg]
    simp only [yielded]
    split at h
    · rename_i hd
      rw [hd]
      injection h with h
    · rename_i d hd
      rw [hd]
      simp only [Option.bind_some]
      split at h
      · rename_i c hc
        injection h with h; subst h
        obtain ⟨y, hy, hv⟩ := ht.get hc
        simp only [VR] at hv; subst hv
        simp only [Array.getElem?_toList] at hy
        rw [hy]
        cases c <;> cases want <;> rfl
      · rename_i hc
        injection h with h; subst h
        obtain ⟨y, hy, hv⟩ := ht.get hc
        simp only [VR, VRs] at hv
        obtain ⟨vs, rfl, rfl⟩ := hv
        simp only [Array.getElem?_toList] at hy
        rw [hy]
        rfl
      · cases h

theorem defers_put (d : Option Nat) (x : Value) : (a.put d x).defers = a.defers := by cases d <;> rfl

theorem stepA_ok {ops : Array Oper} {s s' : St} (TO : TabOK P T) (CO : CallOK P call) (hM : ∀ k, ¬ M0 k) (hI : Inv M0 A w0 s a w) (h : stepA T call ops o s = some s') {K : Act → World → Prop} {Q : Exit → Act → World → Prop}
    (hK : ∀ a' w', Inv M0 A w0 s' a' w' → K a' w') : if Region.wanted o (yielded ops a.tmps) then o.wp P a w K Q ∨ (o.asks P a w ∧ LetsOut Q) else K (a.put o.dst undef) w := by
  obtain ⟨μ, I, hS, ht, hn, hd⟩ := hI
  unfold stepA at h
  split at h
  · rename_i hw
    rw [wantedA_ok ht hw, if_pos rfl]
    simp only [Option.map_eq_some_iff] at h
    obtain ⟨⟨v, m'⟩, he, rfl⟩ := h
    refine .inl (Upon.wp ?_)
    refine Upon.mono (eop_ok TO CO hM hS (fun b h1 _ => hn b h1) ht he) fun x w' hx => ?_
    obtain ⟨μ', I', hst, hsr, hid, hv⟩ := hx
    refine hK _ _ ⟨μ', I', hsr, putA_ok (VRs.stays _ hst _ ht) hv _, fun b hb => ?_, by rw [defers_put]; exact hd⟩
    have hb' : s.nx + 16 ≤ b := hb
    rw [hid b (.inr hb')]
    exact hn b (by omega)
  · rename_i hw
    rw [wantedA_ok ht hw, if_neg (by simp)]
    injection h with h; subst h
    exact hK _ _ ⟨μ, I, hS, putA_ok ht undef_ok _, hn, by rw [defers_put]; exact hd⟩
  · cases h

theorem runL_ok {ops : Array Oper} (TO : TabOK P T) (CO : CallOK P call) (hM : ∀ k, ¬ M0 k) {Q : Exit → Act → World → Prop} : ∀ (l : List Nat) {s s' : St} {a : Act} {w : World}, Inv M0 A w0 s a w → runL T call ops l s = some s' →
    (∀ a' w', Inv M0 A w0 s' a' w' → Q .normal a' w') → wpOps P ops Q l a w
  | [], s, s', a, w, hI, h, hQ => by
    injection h with h; subst h
    exact hQ _ _ hI
  | i :: r, s, s', a, w, hI, h, hQ => by
    simp only [runL] at h
    simp only [wpOps]
    split at h
    · rename_i ho
      rw [ho]
      exact runL_ok TO CO hM r hI h hQ
    · rename_i o ho
      rw [ho]
      simp only
      split at h
      · rename_i s1 hs
        exact stepA_ok TO CO hM hI hs fun a' w' hI' => runL_ok TO CO hM r hI' h hQ
      · cases h
end
end Go.AM
