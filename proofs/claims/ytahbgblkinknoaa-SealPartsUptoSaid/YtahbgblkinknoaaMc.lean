import Derived.Test.YtahbgblkinknoaaMb
/- Several texts in one. -/
section
/- The abstract machine, part 13: any operation; operations one after the other. -/
set_option linter.unusedVariables false
set_option linter.unusedSimpArgs false
set_option linter.unnecessarySimpa false
namespace Go.AM

/-- A state: temporaries, own blocks, the next number. -/
structure St where
  t : List AV
  m : List (Nat × Blk)
  nx : Nat

def putA (t : List AV) (d : Option Nat) (v : AV) : List AV :=
  match d with
  | some d => t.set d v
  | none => t
/-- Is the operation carried out? -/
def wantedA (ops : Array Oper) (t : List AV) (o : Oper) : Option Bool :=
  match o.guard with
  | none => some true
  | some (g, want) => match (ops[g]?).bind (·.dst) with
    | none => some false
    | some d => match t[d]? with
      | some (.bool b) => some (b == want)
      | some (.tup []) => some false
      | _ => none
def stepA (T : Tab) (call : Know) (ops : Array Oper) (o : Oper) (s : St) : Option St :=
  match wantedA ops s.t o with
  | some true => (eop T call s.nx s.t s.m o).map fun r => ⟨putA s.t o.dst r.1, r.2, s.nx + 16⟩
  | some false => some ⟨putA s.t o.dst (.tup []), s.m, s.nx⟩
  | none => none
def runL (T : Tab) (call : Know) (ops : Array Oper) : List Nat → St → Option St
  | [], s => some s
  | i :: r, s => match ops[i]? with
    | none => runL T call ops r s
    | some o => match stepA T call ops o s with
      | some s' => runL T call ops r s'
      | none => none

/-- Names that stand for the same memory throughout: those of what was handed in. -/
structure Pin where
  k : Nat
  μ : Locs
def nopin : Pin := ⟨0, noLocs⟩
def PinOK (κ : Pin) (μ : Locs) : Prop := ∀ b l, b < κ.k → κ.μ b = some l → μ b = some l
theorem PinOK.stays {κ : Pin} {μ μ' : Locs} {I I' : Nat → Prop} {w w' : World} (h : PinOK κ μ) (S : Stays μ μ' I I' w w') : PinOK κ μ' := fun b l hb hl => S.loc b l (h b l hb hl)
theorem PinOK.none (μ : Locs) : PinOK nopin μ := fun b l hb => by simp [nopin] at hb
/-- The state holds of the activation. -/
def Inv (κ : Pin) (M0 A : Nat → Prop) (w0 : World) (s : St) (a : Act) (w : World) : Prop :=
  ∃ μ I, SR M0 A w0 w μ I s.m ∧ VRs w s.t μ I a.tmps.toList ∧ (∀ b, s.nx ≤ b → μ b = none) ∧ (a.defers = [] ∧ PinOK κ μ)

section
variable {κ : Pin} {P : Program} {T : Tab} {M0 A : Nat → Prop} {w0 w w' : World} {μ μ' : Locs} {I I' : Nat → Prop} {m m' mv : List (Nat × Blk)} {q : Nat} {o : Oper} {a : Act} {t : List AV} {call : Know}

theorem QK.eK {v : AV} {adds : List (Nat × Blk)} {x : Value} (h : QK M0 A w0 w μ I m q v adds x w') : EK M0 A w0 w μ I q v (m ++ adds) x w' := h

theorem run_bnd {f : Operand} {c : Call} {ty g : Nat} {vs : List Value} (hc : c.callee = .value f) (hv : a.eval f = .func (.func g) (List.toArray vs) #[]) :
    (do let d ← resolve a.eval c ty; invoke d.target d.args : Sem Next).run P w = (callFunc g (vs ++ (c.args.map a.eval).toList).toArray).run P w := by
  simp only [resolve, hc, hv, Deferred.ofValue, Sem.run_bind, Sem.run_pure, Result.andThen_ok, invoke]
  rw [show (List.toArray vs ++ c.args.map a.eval ++ #[]) = (vs ++ (c.args.map a.eval).toList).toArray by simp]

theorem eop_ok (TO : TabOK P T) (CO : CallOK P call) (hS : SR M0 A w0 w μ I m) (hq : ∀ b, q ≤ b → b < q + 16 → μ b = none) (ht : VRs w t μ I a.tmps.toList) {v : AV}
    (h : eop T call q t m o = some (v, m')) : Upon P (EK M0 A w0 w μ I q v m') ((execOp a.eval o).run P w) := by
  have hquiet : (qop T call.q q t m o).map (fun r => (r.1, m ++ r.2)) = some (v, m') → Upon P (EK M0 A w0 w μ I q v m') ((execOp a.eval o).run P w) := by
    intro h
    simp only [Option.map_eq_some_iff, Prod.mk.injEq] at h
    obtain ⟨⟨v', adds⟩, hv, rfl, rfl⟩ := h
    exact qop_ok TO CO.q hS (fun _ _ h => h) hq ht hv
  unfold eop at h
  split at h
  · rename_i ty x y heq
    simp only [Option.map_eq_some_iff, Prod.mk.injEq] at h
    obtain ⟨m1, hm, rfl, rfl⟩ := h
    obtain ⟨w', hrun, hst, hsr⟩ := storeA_ok (P := P) TO hS hm (VR.ev ht x) (VR.ev ht y)
    have : (execOp a.eval o).run P w = .ok .skip w' := by
      unfold execOp; rw [heq]
      simp only [Sem.run_bind, hrun, Result.andThen_ok, Sem.run_pure]
    rw [this]
    exact ⟨μ, I, hst, hsr, fun _ _ => rfl, by simp [VR, VRs, undef]⟩
  · rename_i c heq
    split at h
    · rename_i hb
      split at h
      · rename_i x y hxy
        have hev := evs_ok ht c.args
        rw [hxy] at hev
        simp only [VRs] at hev
        obtain ⟨xv, _, he, hx, yv, _, rfl, hy, rfl⟩ := hev
        have hargs : c.args.map a.eval = #[xv, yv] := by
          apply Array.toList_inj.1
          simpa using he
        have hty : ∃ t0 t1, c.argTypes[0]? = some t0 ∧ c.argTypes[1]? = some t1 := by
          unfold appA at h
          split at h <;> try (cases h; done)
          rename_i h0 h1
          simp only [Option.bind_eq_some_iff] at h0 h1
          obtain ⟨t0, h0, _⟩ := h0
          obtain ⟨t1, h1, _⟩ := h1
          exact ⟨t0, t1, h0, h1⟩
        obtain ⟨t0, t1, ht0, ht1⟩ := hty
        have h' : appA T m q #[t0, t1] x y = some (v, m') := by
          rw [← h]; unfold appA; rw [ht0, ht1]; rfl
        obtain ⟨r, w', hrun, hk⟩ := appA_ok (P := P) (ty := o.type) TO hS hq h' hx hy rfl
        have hrun' : (Builtin.append_ c.argTypes o.type #[xv, yv]).run P w = .ok r w' := by
          rw [← hrun]
          simp only [Builtin.append_, ht0, ht1]
          rfl
        have : (execOp a.eval o).run P w = .ok (.value r) w' := by
          unfold execOp; rw [heq]
          simp only [resolve, hb, Sem.run_bind, Sem.run_pure, Result.andThen_ok, invoke, hargs, builtin, hrun']
        rw [this]
        exact hk
      · cases h
    · rename_i f hf
      split at h
      · rename_i g caps hg
        have hgv := VR.ev ht f
        rw [hg] at hgv
        simp only [VR] at hgv
        obtain ⟨cvs, hfv, hcv⟩ := hgv
        have he : execOp a.eval o = (do let d ← resolve a.eval c o.type; invoke d.target d.args) := by unfold execOp; rw [heq]
        unfold mkFn at hfv
        split at h
        · rename_i hg9
          rw [if_pos hg9] at hfv
          split at h
          · exact hquiet h
          · obtain ⟨⟨fn, h1, h2, h3⟩, hC⟩ := callM_ok CO hS hq h ((evs_ok ht c.args).append hcv)
            rw [he]
            simp only [resolve, hf, hfv, Deferred.ofValue, Sem.run_bind, Sem.run_pure, Result.andThen_ok, invoke]
            rw [show (#[] ++ c.args.map a.eval ++ List.toArray cvs) = ((c.args.map a.eval).toList ++ cvs).toArray by simp, run_callFunc h1 h2 h3]
            exact hC
        · rename_i hg9
          rw [if_neg hg9] at hfv
          generalize unbind g = g' at hfv h
          obtain ⟨⟨fn, h1, h2, h3⟩, hC⟩ := callM_ok CO hS hq h (hcv.append (evs_ok ht c.args))
          rw [he, run_bnd hf hfv, run_callFunc h1 h2 h3]
          exact hC
      · cases h
    · exact hquiet h
  · exact hquiet h

theorem undef_ok : VR w (.tup []) μ I undef := by simp [VR, VRs, undef]

theorem putA_ok (ht : VRs w t μ I a.tmps.toList) {v : AV} {x : Value} (hv : VR w v μ I x) (d : Option Nat) : VRs w (putA t d v) μ I (a.put d x).tmps.toList := by
  cases d with
  | none => exact ht
  | some d => simp only [putA, Act.put, Array.toList_setIfInBounds]; exact ht.set d hv

theorem wantedA_ok {ops : Array Oper} {b : Bool} (ht : VRs w t μ I a.tmps.toList) (h : wantedA ops t o = some b) : Region.wanted o (yielded ops a.tmps) = b := by
  unfold wantedA at h
  unfold Region.wanted
  split at h
  · rename_i hg; rw [hg]; injection h
  · rename_i g want hg
    rw [hg]
    simp only [yielded]
    split at h
    · rename_i hd
      rw [hd]
      injection h with h
    · rename_i d hd
      rw [hd]
      simp only [Option.bind_some]
      split at h
      · rename_i c hc
        injection h with h; subst h
        obtain ⟨y, hy, hv⟩ := ht.get hc
        simp only [VR] at hv; subst hv
        simp only [Array.getElem?_toList] at hy
        rw [hy]
        cases c <;> cases want <;> rfl
      · rename_i hc
        injection h with h; subst h
        obtain ⟨y, hy, hv⟩ := ht.get hc
        simp only [VR, VRs] at hv
        obtain ⟨vs, rfl, rfl⟩ := hv
        simp only [Array.getElem?_toList] at hy
        rw [hy]
        rfl
      · cases h

theorem defers_put (d : Option Nat) (x : Value) : (a.put d x).defers = a.defers := by cases d <;> rfl

theorem stepA_ok {ops : Array Oper} {s s' : St} (TO : TabOK P T) (CO : CallOK P call) (hI : Inv κ M0 A w0 s a w) (h : stepA T call ops o s = some s') {K : Act → World → Prop} {Q : Exit → Act → World → Prop}
    (hK : ∀ a' w', Inv κ M0 A w0 s' a' w' → K a' w') : if Region.wanted o (yielded ops a.tmps) then o.wp P a w K Q ∨ (o.asks P a w ∧ LetsOut Q) else K (a.put o.dst undef) w := by
  obtain ⟨μ, I, hS, ht, hn, hd⟩ := hI
  unfold stepA at h
  split at h
  · rename_i hw
    rw [wantedA_ok ht hw, if_pos rfl]
    simp only [Option.map_eq_some_iff] at h
    obtain ⟨⟨v, m'⟩, he, rfl⟩ := h
    refine .inl (Upon.wp ?_)
    refine Upon.mono (eop_ok TO CO hS (fun b h1 _ => hn b h1) ht he) fun x w' hx => ?_
    obtain ⟨μ', I', hst, hsr, hid, hv⟩ := hx
    refine hK _ _ ⟨μ', I', hsr, putA_ok (VRs.stays _ hst _ ht) hv _, fun b hb => ?_, by rw [defers_put]; exact hd.1, hd.2.stays hst⟩
    have hb' : s.nx + 16 ≤ b := hb
    rw [hid b (.inr hb')]
    exact hn b (by omega)
  · rename_i hw
    rw [wantedA_ok ht hw, if_neg (by simp)]
    injection h with h; subst h
    exact hK _ _ ⟨μ, I, hS, putA_ok ht undef_ok _, hn, by rw [defers_put]; exact hd.1, hd.2⟩
  · cases h

theorem runL_ok {ops : Array Oper} (TO : TabOK P T) (CO : CallOK P call) {Q : Exit → Act → World → Prop} : ∀ (l : List Nat) {s s' : St} {a : Act} {w : World}, Inv κ M0 A w0 s a w → runL T call ops l s = some s' →
    (∀ a' w', Inv κ M0 A w0 s' a' w' → Q .normal a' w') → wpOps P ops Q l a w
  | [], s, s', a, w, hI, h, hQ => by
    injection h with h; subst h
    exact hQ _ _ hI
  | i :: r, s, s', a, w, hI, h, hQ => by
    simp only [runL] at h
    simp only [wpOps]
    split at h
    · rename_i ho
      rw [ho]
      exact runL_ok TO CO r hI h hQ
    · rename_i o ho
      rw [ho]
      simp only
      split at h
      · rename_i s1 hs
        exact stepA_ok TO CO hI hs fun a' w' hI' => runL_ok TO CO r hI' h hQ
      · cases h
end
end Go.AM
end
section
/- The abstract machine, part 14: operations in any order. -/
set_option linter.unusedVariables false
set_option linter.unusedSimpArgs false
set_option linter.unnecessarySimpa false
namespace Go.AM

/-- The operations that one stands behind, as bits. -/
def behind (anc : Nat → Nat) (es : List Edge) : Nat :=
  es.foldr (fun e acc => if Region.binds .any e then (1 <<< e.on ||| anc e.on) ||| acc else acc) 0
def dstOf (ops : Array Oper) (j : Nat) : Option Nat := (ops[j]?).bind (·.dst)
def listedP (n p : Nat) : Array Bool := ((List.range n).map fun i => decide (i < p)).toArray
/-- Behind the listed ones these come, in this order alone, and then none. -/
def tailOK (ops : Array Oper) : List Nat → Array Bool → Bool
  | [], l => (Region.ready .any ops l).isEmpty
  | i :: r, l => Region.ready .any ops l == [i] && tailOK ops r (l.setIfInBounds i true)
/-- The first p operations may come in any order: none looks at what an unordered one gives. All others stand behind them, in one order. -/
def planOK (ops : Array Oper) (p : Nat) (ancs tail : List Nat) : Bool :=
  let anc := fun i => ancs.getD i 0
  decide (p ≤ ops.size) && decide (tail.length ≤ ops.size - p) && tailOK ops tail (listedP ops.size p) &&
  (List.range p).all (fun i => match ops[i]? with
    | none => false
    | some o => behind anc o.after.toList == anc i && decide (anc i < 2 ^ i) &&
        (o.looksAt ops).all (fun d => (List.range p).all fun j => j == i || dstOf ops j != some d || (anc i).testBit j || (anc j).testBit i) &&
        (List.range p).all (fun j => j == i || dstOf ops i == none || dstOf ops j != dstOf ops i)) &&
  (List.range ops.size).all (fun i => decide (i < p) || (match ops[i]? with
    | none => false
    | some o => (List.range p).all fun j => (behind (fun k => if k < p then anc k else 0) (o.after.toList.filter fun e => decide (e.on < p))).testBit j))

def pickA (a : Nat) : List (Nat × List (Nat × Blk)) → List (Nat × Blk)
  | [] => []
  | (j, x) :: r => if a.testBit j then x ++ pickA a r else pickA a r
def allA : List (Nat × List (Nat × Blk)) → List (Nat × Blk)
  | [] => []
  | (_, x) :: r => x ++ allA r
def idsIn (q : Nat) : List (Nat × Blk) → Bool
  | [] => true
  | (k, _) :: r => decide (q ≤ k) && decide (k < q + 16) && idsIn q r
/-- What operation i gives. -/
def valP (T : Tab) (call : Nat → List AV → Option AV) (ops : Array Oper) (anc : Nat) (m : List (Nat × Blk)) (q : Nat) (o : Oper) (t : List AV) (ads : List (Nat × List (Nat × Blk))) : Option (AV × List (Nat × Blk)) :=
  match wantedA ops t o with
  | some true => match qop T call q t (m ++ pickA anc ads) o with
    | some (v, a) => if idsIn q a then some (v, a) else none
    | none => none
  | some false => some (.tup [], [])
  | none => none
def addA (i : Nat) (x : List (Nat × Blk)) (ads : List (Nat × List (Nat × Blk))) : List (Nat × List (Nat × Blk)) :=
  match x with
  | [] => ads
  | y :: r => (i, y :: r) :: ads
def preN (T : Tab) (call : Nat → List AV → Option AV) (ops : Array Oper) (ancs : List Nat) (s : St) : Nat → Option (List AV × List (Nat × List (Nat × Blk)))
  | 0 => some (s.t, [])
  | i + 1 => match preN T call ops ancs s i with
    | none => none
    | some (t, ads) => match ops[i]? with
      | none => none
      | some o => match valP T call ops (ancs.getD i 0) s.m (s.nx + 16 * i) o t ads with
        | none => none
        | some (v, a) => some (putA t o.dst v, addA i a ads)
def drawA (T : Tab) (call : Know) (ops : Array Oper) (p : Nat) (ancs tail : List Nat) (s : St) : Option St :=
  match preN T call.q ops ancs s p with
  | none => none
  | some (t, ads) => runL T call ops tail ⟨t, s.m ++ allA ads, s.nx + 16 * p⟩

section
variable {P : Program} {T : Tab} {M0 A : Nat → Prop} {w0 w w' : World} {μ μ' : Locs} {I I' : Nat → Prop} {m m' mv : List (Nat × Blk)} {q : Nat} {o : Oper} {a : Act} {t t' : List AV} {call : Nat → List AV → Option AV} {ops : Array Oper}

/-! ### an operation looks at its own operands alone -/
theorem ev_congr {x : Operand} (h : ∀ d, x = .tmp d → t[d]? = t'[d]?) : ev t x = ev t' x := by
  cases x with
  | tmp d => simp only [ev, List.getD_eq_getElem?_getD, h d rfl]
  | _ => rfl
theorem qop_congr (h : ∀ d, Operand.tmp d ∈ o.op.operands → t[d]? = t'[d]?) : qop T call q t m o = qop T call q t' m o := by
  have hx : ∀ x ∈ o.op.operands, ev t x = ev t' x := fun x hx => ev_congr fun d hd => h d (hd ▸ hx)
  have pairs : ∀ ps : Array (Nat × Operand), (∀ x ∈ (ps.toList.map (·.2)).toArray, ev t x = ev t' x) →
      (ps.toList.map fun p => (p.1, ev t p.2)) = (ps.toList.map fun p => (p.1, ev t' p.2)) := fun ps hp =>
    List.map_congr_left fun p hm => by
      rw [hp p.2 (by simp only [List.mem_toArray, List.mem_map]; exact ⟨p, hm, rfl⟩)]
  have args : ∀ xs : Array Operand, (∀ x ∈ xs, ev t x = ev t' x) → evs t xs = evs t' xs := fun xs hp =>
    List.map_congr_left fun x hm => hp x (by simpa using hm)
  have opt : ∀ x : Option Operand, (∀ y ∈ x.toArray, ev t y = ev t' y) → optEv t x = optEv t' x := fun x hp => by
    cases x with
    | none => rfl
    | some y => simp only [optEv, hp y (by simp)]
  obtain ⟨dst, op, type, pos, after, guard⟩ := o
  cases op <;> simp only [Op.operands] at hx <;> simp only [qop]
  case build ty ps => rw [pairs ps hx]
  case buildSlice ty n ps => rw [pairs ps hx]
  case makeFunc fn first caps =>
    have e := args caps (fun x hm => hx x (by simp [hm]))
    have e2 := args first (fun x hm => hx x (by simp [hm]))
    cases fn <;> simp only [qop, e, e2]
  case call c =>
    have e := args c.args (fun x hm => hx x (by simp [Call.operands, hm]))
    cases hc : c.callee with
    | value f =>
      have hf : ev t f = ev t' f := hx f (by simp [Call.operands, hc])
      simp only [e, hf]
    | builtin b => simp only [e]
    | invoke r n => rfl
  case slice ty x lo hi mx =>
    rw [hx x (by simp), opt lo (fun y hy => hx y (by simp only [Array.mem_append]; exact .inl (.inl (.inr hy)))), opt hi (fun y hy => hx y (by simp only [Array.mem_append]; exact .inl (.inr hy))), opt mx (fun y hy => hx y (by simp only [Array.mem_append]; exact .inr hy))]
  all_goals (first | rfl | (simp_all; done))

theorem wantedA_congr (h : ∀ d, d ∈ o.looksAt ops → t[d]? = t'[d]?) : wantedA ops t o = wantedA ops t' o := by
  unfold wantedA
  cases hg : o.guard with
  | none => rfl
  | some gw =>
    obtain ⟨g, want⟩ := gw
    simp only
    cases hd : (ops[g]?).bind (·.dst) with
    | none => rfl
    | some d =>
      simp only
      rw [h d (by simp [Oper.looksAt, hg, hd])]

theorem looks_operand {d : Nat} (h : Operand.tmp d ∈ o.op.operands) : d ∈ o.looksAt ops :=
  List.mem_append_left _ (List.mem_filterMap.2 ⟨.tmp d, by simpa using h, rfl⟩)

theorem behind_testBit (anc : Nat → Nat) : ∀ (es : List Edge) (j : Nat), (behind anc es).testBit j = true ↔ ∃ e ∈ es, Region.binds .any e = true ∧ (j = e.on ∨ (anc e.on).testBit j = true)
  | [], j => by simp [behind]
  | e :: es, j => by
    have ih := behind_testBit anc es j
    have hb : (behind anc (e :: es)) = if Region.binds .any e then (1 <<< e.on ||| anc e.on) ||| behind anc es else behind anc es := rfl
    rw [hb]
    by_cases h : Region.binds .any e = true
    · rw [if_pos h, Nat.testBit_or, Nat.testBit_or, Bool.or_eq_true, Bool.or_eq_true, ih]
      have h1 : (1 <<< e.on).testBit j = true ↔ j = e.on := by
        rw [Nat.one_shiftLeft, Nat.testBit_two_pow]
        simp [eq_comm]
      rw [h1]
      constructor
      · rintro (h2 | ⟨e', he', h3⟩)
        · exact ⟨e, by simp, h, h2⟩
        · exact ⟨e', by simp [he'], h3⟩
      · rintro ⟨e', he', h3, h4⟩
        rcases List.mem_cons.1 he' with rfl | he'
        · exact .inl h4
        · exact .inr ⟨e', he', h3, h4⟩
    · rw [if_neg h, ih]
      constructor
      · rintro ⟨e', he', h3⟩
        exact ⟨e', by simp [he'], h3⟩
      · rintro ⟨e', he', h3, h4⟩
        rcases List.mem_cons.1 he' with rfl | he'
        · exact absurd h3 h
        · exact ⟨e', he', h3, h4⟩

/-- The plan's first operations, as propositions. -/
structure Plan0 (ops : Array Oper) (p : Nat) (anc : Nat → Nat) : Prop where
  size : p ≤ ops.size
  edge : ∀ i o, i < p → ops[i]? = some o → ∀ j, (anc i).testBit j = true ↔ ∃ e ∈ o.after.toList, Region.binds .any e = true ∧ (j = e.on ∨ (anc e.on).testBit j = true)
  low : ∀ i j, i < p → (anc i).testBit j = true → j < i
  looks : ∀ i o, i < p → ops[i]? = some o → ∀ d ∈ o.looksAt ops, ∀ j, j < p → j ≠ i → dstOf ops j = some d → (anc i).testBit j = true ∨ (anc j).testBit i = true
  apart : ∀ i j d, i < p → j < p → j ≠ i → dstOf ops i = some d → dstOf ops j ≠ some d
/-- The plan, as propositions. -/
structure Plan (ops : Array Oper) (p : Nat) (anc : Nat → Nat) : Prop extends Plan0 ops p anc where
  rest : ∀ i o, p ≤ i → ops[i]? = some o → ∀ j, j < p → ∃ e ∈ o.after.toList, Region.binds .any e = true ∧ e.on < p ∧ (j = e.on ∨ (anc e.on).testBit j = true)

theorem planOK_plan {p : Nat} {ancs tail : List Nat} (h : planOK ops p ancs tail = true) : Plan ops p (fun i => ancs.getD i 0) ∧ tail.length ≤ ops.size - p ∧ tailOK ops tail (listedP ops.size p) = true := by
  simp only [planOK, Bool.and_eq_true, decide_eq_true_eq, List.all_eq_true, List.mem_range] at h
  obtain ⟨⟨⟨⟨h1, ht1⟩, ht2⟩, h2⟩, h3⟩ := h
  have key : ∀ i o, i < p → ops[i]? = some o → _ := fun i o hi ho => by
    have := h2 i hi
    rw [ho] at this
    simp only [Bool.and_eq_true, beq_iff_eq, decide_eq_true_eq, List.all_eq_true, List.mem_range, Bool.or_eq_true, bne_iff_ne] at this
    exact this
  have sm : ∀ i, i < p → ∃ o, ops[i]? = some o := fun i hi => ⟨_, Array.getElem?_eq_getElem (by omega)⟩
  refine ⟨?_, ht1, ht2⟩
  refine ⟨⟨h1, fun i o hi ho j => ?_, fun i j hi hj => ?_, fun i o hi ho d hd j hj hne hjd => ?_, fun i j d hi hj hne hid hjd => ?_⟩, fun i o hi ho j hj => ?_⟩
  · obtain ⟨⟨⟨g1, g2⟩, g3⟩, g4⟩ := key i o hi ho
    have := behind_testBit (fun i => ancs.getD i 0) o.after.toList j
    rw [g1] at this
    exact this
  · obtain ⟨o, ho⟩ := sm i hi
    obtain ⟨⟨⟨g1, g2⟩, g3⟩, g4⟩ := key i o hi ho
    rcases Nat.lt_or_ge j i with h' | h'
    · exact h'
    · have : (ancs.getD i 0).testBit j = false := Nat.testBit_lt_two_pow (Nat.lt_of_lt_of_le g2 (Nat.pow_le_pow_right (by omega) h'))
      rw [this] at hj; cases hj
  · obtain ⟨⟨⟨g1, g2⟩, g3⟩, g4⟩ := key i o hi ho
    rcases g3 d hd j hj with ((h5 | h5) | h5) | h5
    · exact absurd h5 hne
    · exact absurd hjd h5
    · exact .inl h5
    · exact .inr h5
  · obtain ⟨o, ho⟩ := sm i hi
    obtain ⟨⟨⟨g1, g2⟩, g3⟩, g4⟩ := key i o hi ho
    rcases g4 j hj with (h5 | h5) | h5
    · exact hne h5
    · rw [hid] at h5; cases h5
    · exact h5 (by rw [hid, hjd])
  · have hlt : i < ops.size := (Array.getElem?_eq_some_iff.1 ho).1
    have := h3 i hlt
    rw [ho] at this
    simp only [Bool.or_eq_true, decide_eq_true_eq, List.all_eq_true, List.mem_range] at this
    rcases this with h4 | h4
    · omega
    · obtain ⟨e, he, hb, hj2⟩ := (behind_testBit _ _ _).1 (h4 j hj)
      simp only [List.mem_filter, decide_eq_true_eq] at he
      rw [if_pos he.2] at hj2
      exact ⟨e, he.1, hb, he.2, hj2⟩
end
end Go.AM
end
section
/- The abstract machine, part 15: operations in any order come to the same. -/
set_option linter.unusedVariables false
set_option linter.unusedSimpArgs false
set_option linter.unnecessarySimpa false
namespace Go.AM
section
variable {κ : Pin} {P : Program} {T : Tab} {M0 A : Nat → Prop} {w0 w w' : World} {μ μ' : Locs} {I I' : Nat → Prop} {m m' mv : List (Nat × Blk)} {q : Nat} {o : Oper} {a : Act} {t t' : List AV} {call : Know} {ops : Array Oper}

theorem idsIn_look {adds : List (Nat × Blk)} (h : idsIn q adds = true) {b : Nat} {B : Blk} (hb : look adds b = some B) : q ≤ b ∧ b < q + 16 := by
  induction adds with
  | nil => simp [look] at hb
  | cons x r ih =>
    obtain ⟨k, C⟩ := x
    simp only [idsIn, Bool.and_eq_true, decide_eq_true_eq] at h
    simp only [look] at hb
    split at hb
    · rename_i e
      have : k = b := by simpa using e
      subst this; exact h.1
    · exact ih h.2 hb

theorem mem_ready {l : Array Bool} {i : Nat} (h : i ∈ Region.ready .any ops l) : i < ops.size ∧ l.getD i true = false ∧ ∃ o, ops[i]? = some o ∧ ∀ e ∈ o.after.toList, Region.binds .any e = true → l.getD e.on false = true := by
  unfold Region.ready at h
  simp only [List.mem_filter, List.mem_range, Bool.and_eq_true, Bool.not_eq_true'] at h
  obtain ⟨h1, h2, h3⟩ := h
  refine ⟨h1, h2, ops[i], Array.getElem?_eq_getElem h1, ?_⟩
  rw [Array.getElem?_eq_getElem h1] at h3
  simp only [Option.map_some, Option.getD_some, Array.all_eq_true_iff_forall_mem, Bool.or_eq_true, Bool.not_eq_true'] at h3
  intro e he hb
  rcases h3 e (by simpa using he) with h4 | h4
  · rw [hb] at h4; cases h4
  · exact h4

/-- The tail: one after the other. -/
theorem tail_ok (TO : TabOK P T) (CO : CallOK P call) {Q : Exit → Act → World → Prop} : ∀ (tail : List Nat) {l : Array Bool} {s s' : St} {a : Act} {w : World} (f : Nat), tail.length ≤ f → tailOK ops tail l = true → Inv κ M0 A w0 s a w →
    runL T call ops tail s = some s' → (∀ a' w', Inv κ M0 A w0 s' a' w' → Q .normal a' w') → wpAny P .any ops Q f l a w
  | [], l, s, s', a, w, f, hf, ht, hI, h, hQ => by
    simp only [tailOK, List.isEmpty_iff] at ht
    injection h with h; subst h
    cases f with
    | zero => exact ⟨ht, hQ _ _ hI⟩
    | succ f => exact ⟨fun _ => hQ _ _ hI, fun i hi => by rw [ht] at hi; cases hi⟩
  | i :: r, l, s, s', a, w, f, hf, ht, hI, h, hQ => by
    simp only [tailOK, Bool.and_eq_true, beq_iff_eq] at ht
    obtain ⟨hr, ht⟩ := ht
    cases f with
    | zero => simp at hf
    | succ f =>
      refine ⟨fun e => (by rw [hr] at e; cases e), fun j hj => ?_⟩
      have hj' := hj
      rw [hr] at hj
      have : j = i := by simpa using hj
      subst this
      obtain ⟨_, _, o, ho, _⟩ := mem_ready hj'
      simp only [runL, ho] at h
      split at h
      · rename_i s1 hs
        unfold wpOp
        rw [ho]
        exact stepA_ok TO CO hI hs fun a' w' hI' => tail_ok TO CO r f (by simp at hf; omega) ht hI' h hQ
      · cases h

/-- Which temporaries hold what, after the operations L. -/
structure Tm (ops : Array Oper) (p : Nat) (V : Nat → AV) (t0 : List AV) (L : Nat → Prop) (t : List AV) : Prop where
  len : t.length = t0.length
  put : ∀ j d, j < p → L j → dstOf ops j = some d → d < t0.length → t[d]? = some (V j)
  old : ∀ d, (∀ j, j < p → L j → dstOf ops j ≠ some d) → t[d]? = t0[d]?

theorem Tm.step {p : Nat} {anc : Nat → Nat} (hp : Plan0 ops p anc) {V : Nat → AV} {t0 : List AV} {L L' : Nat → Prop} {i : Nat} (hi : i < p) (h : Tm ops p V t0 L t) (hn : ¬ L i) (hL : ∀ j, L' j ↔ L j ∨ j = i) :
    Tm ops p V t0 L' (putA t (dstOf ops i) (V i)) := by
  have hlen : (putA t (dstOf ops i) (V i)).length = t0.length := by
    unfold putA; split <;> simp [h.len]
  refine ⟨hlen, fun j d hj hLj hd hlt => ?_, fun d hd => ?_⟩
  · by_cases hji : j = i
    · subst hji
      rw [hd]
      simp [putA, h.len, hlt]
    · have hLj' : L j := ((hL j).1 hLj).resolve_right hji
      have := h.put j d hj hLj' hd hlt
      unfold putA
      split
      · rename_i d' hd'
        rw [List.getElem?_set_ne (fun e => hp.apart i j d' hi hj hji hd' (by rw [e]; exact hd))]
        exact this
      · exact this
  · have : t[d]? = t0[d]? := h.old d fun j hj hLj => hd j hj ((hL j).2 (.inl hLj))
    unfold putA
    split
    · rename_i d' hd'
      rw [List.getElem?_set_ne (fun e => hd i hi ((hL i).2 (.inr rfl)) (by rw [hd', e]))]
      exact this
    · exact this

theorem Tm.look {p : Nat} {V : Nat → AV} {t0 : List AV} {L L' : Nat → Prop} (h : Tm ops p V t0 L t) (h' : Tm ops p V t0 L' t') {d : Nat} (hd : ∀ j, j < p → dstOf ops j = some d → (L j ↔ L' j)) : t[d]? = t'[d]? := by
  by_cases hlt : d < t0.length
  · by_cases hj : ∃ j, j < p ∧ dstOf ops j = some d ∧ L j
    · obtain ⟨j, hj, hjd, hL⟩ := hj
      rw [h.put j d hj hL hjd hlt, h'.put j d hj ((hd j hj hjd).1 hL) hjd hlt]
    · rw [h.old d fun j hj' hL hjd => hj ⟨j, hj', hjd, hL⟩, h'.old d fun j hj' hL hjd => hj ⟨j, hj', hjd, (hd j hj' hjd).2 hL⟩]
  · rw [List.getElem?_eq_none (by rw [h.len]; omega), List.getElem?_eq_none (by rw [h'.len]; omega)]

theorem look_pickA {anc : Nat} {ads : List (Nat × List (Nat × Blk))} {b : Nat} {B : Blk} (h : look (pickA anc ads) b = some B) : ∃ j x, (j, x) ∈ ads ∧ anc.testBit j = true ∧ look x b = some B := by
  induction ads with
  | nil => simp [pickA, look] at h
  | cons y r ih =>
    obtain ⟨j, x⟩ := y
    simp only [pickA] at h
    split at h
    · rename_i hj
      rw [look_append] at h
      split at h
      · rename_i B' hB
        injection h with h; subst h
        exact ⟨j, x, by simp, hj, hB⟩
      · obtain ⟨j', x', h1, h2⟩ := ih h
        exact ⟨j', x', by simp [h1], h2⟩
    · obtain ⟨j', x', h1, h2⟩ := ih h
      exact ⟨j', x', by simp [h1], h2⟩
theorem look_allA {ads : List (Nat × List (Nat × Blk))} {b : Nat} {B : Blk} (h : look (allA ads) b = some B) : ∃ j x, (j, x) ∈ ads ∧ look x b = some B := by
  induction ads with
  | nil => simp [allA, look] at h
  | cons y r ih =>
    obtain ⟨j, x⟩ := y
    simp only [allA] at h
    rw [look_append] at h
    split at h
    · rename_i B' hB
      injection h with h; subst h
      exact ⟨j, x, by simp, hB⟩
    · obtain ⟨j', x', h1, h2⟩ := ih h
      exact ⟨j', x', by simp [h1], h2⟩
theorem mem_addA {i : Nat} {x : List (Nat × Blk)} {ads : List (Nat × List (Nat × Blk))} {j : Nat} {y : List (Nat × Blk)} (h : (j, y) ∈ addA i x ads) : (j = i ∧ y = x) ∨ (j, y) ∈ ads := by
  unfold addA at h
  split at h
  · exact .inr h
  · rcases List.mem_cons.1 h with h | h
    · injection h with h1 h2; exact .inl ⟨h1, h2⟩
    · exact .inr h

/-- What each of the first p operations gives. -/
structure Pre (T : Tab) (call : Nat → List AV → Option AV) (ops : Array Oper) (ancs : List Nat) (s : St) (p : Nat) (V : Nat → AV) (AD : Nat → List (Nat × Blk)) (tp : List AV) (adp : List (Nat × List (Nat × Blk))) : Prop where
  tm : Tm ops p V s.t (fun j => j < p) tp
  ads : ∀ j x, (j, x) ∈ adp → j < p ∧ x = AD j
  val : ∀ i, i < p → ∃ o ti adi, ops[i]? = some o ∧ Tm ops p V s.t (fun j => j < i) ti ∧ (∀ j x, (j, x) ∈ adi → j < i ∧ x = AD j) ∧ valP T call ops (ancs.getD i 0) s.m (s.nx + 16 * i) o ti adi = some (V i, AD i)

theorem preN_pre {call : Nat → List AV → Option AV} {ancs : List Nat} {s : St} {p : Nat} (hp : Plan0 ops p fun i => ancs.getD i 0) {tp : List AV} {adp : List (Nat × List (Nat × Blk))} (h : preN T call ops ancs s p = some (tp, adp)) :
    ∃ V AD, Pre T call ops ancs s p V AD tp adp := by
  -- all that came before is there
  have hdown : ∀ k i, i + k = p → ∃ ti adi, preN T call ops ancs s i = some (ti, adi) := by
    intro k
    induction k with
    | zero => intro i hi; exact ⟨tp, adp, by rw [show i = p by omega]; exact h⟩
    | succ k ih =>
      intro i hi
      obtain ⟨t1, ad1, h1⟩ := ih (i + 1) (by omega)
      simp only [preN] at h1
      split at h1
      · cases h1
      · rename_i ti adi hh; exact ⟨ti, adi, hh⟩
  have hstep : ∀ i, i < p → ∃ o ti adi v x, ops[i]? = some o ∧ preN T call ops ancs s i = some (ti, adi) ∧ valP T call ops (ancs.getD i 0) s.m (s.nx + 16 * i) o ti adi = some (v, x) ∧ preN T call ops ancs s (i + 1) = some (putA ti o.dst v, addA i x adi) := by
    intro i hi
    obtain ⟨t1, ad1, h1⟩ := hdown (p - (i + 1)) (i + 1) (by omega)
    obtain ⟨ti, adi, h2⟩ := hdown (p - i) i (by omega)
    have h3 := h1
    simp only [preN, h2] at h3
    split at h3
    · cases h3
    · rename_i o ho
      split at h3
      · cases h3
      · rename_i v x hv
        injection h3 with h3
        exact ⟨o, ti, adi, v, x, ho, h2, hv, by rw [h1, ← h3]⟩
  let VA : Nat → AV × List (Nat × Blk) := fun i => match ops[i]?, preN T call ops ancs s i with
    | some o, some (ti, adi) => (valP T call ops (ancs.getD i 0) s.m (s.nx + 16 * i) o ti adi).getD (.any, [])
    | _, _ => (.any, [])
  have hall : ∀ i, i ≤ p → ∀ ti adi, preN T call ops ancs s i = some (ti, adi) → Tm ops p (fun j => (VA j).1) s.t (fun j => j < i) ti ∧ ∀ j x, (j, x) ∈ adi → j < i ∧ x = (VA j).2 := by
    intro i
    induction i with
    | zero =>
      intro _ ti adi h0
      simp only [preN] at h0
      injection h0 with h0; injection h0 with h1 h2; subst h1; subst h2
      exact ⟨⟨rfl, fun j d _ hj => by omega, fun d _ => rfl⟩, fun j x hx => by cases hx⟩
    | succ i ih =>
      intro hi ti adi h0
      obtain ⟨o, t1, ad1, v, x, ho, h1, hv, h2⟩ := hstep i (by omega)
      rw [h2] at h0; injection h0 with h0; injection h0 with h3 h4; subst h3; subst h4
      obtain ⟨g1, g2⟩ := ih (by omega) t1 ad1 h1
      have hVA : VA i = (v, x) := by simp only [VA, ho, h1, hv, Option.getD_some]
      refine ⟨?_, fun j y hy => ?_⟩
      · have := Tm.step hp (i := i) (L' := fun j => j < i + 1) (by omega) g1 (Nat.lt_irrefl _) (fun j => by omega)
        simp only [dstOf, ho, Option.bind_some, hVA] at this
        exact this
      · rcases mem_addA hy with ⟨rfl, rfl⟩ | hy
        · exact ⟨by omega, by rw [hVA]⟩
        · obtain ⟨g3, g4⟩ := g2 j y hy
          exact ⟨by omega, g4⟩
  refine ⟨fun j => (VA j).1, fun j => (VA j).2, (hall p (Nat.le_refl _) tp adp h).1, (hall p (Nat.le_refl _) tp adp h).2, fun i hi => ?_⟩
  obtain ⟨o, ti, adi, v, x, ho, h1, hv, h2⟩ := hstep i hi
  obtain ⟨g1, g2⟩ := hall i (by omega) ti adi h1
  have hVA : VA i = (v, x) := by simp only [VA, ho, h1, hv, Option.getD_some]
  exact ⟨o, ti, adi, ho, g1, g2, by rw [hv, hVA]⟩

/-- How many of the first k are still to come. -/
def cnt (l : Array Bool) : Nat → Nat
  | 0 => 0
  | k + 1 => cnt l k + if l.getD k true then 0 else 1
theorem cnt_set {l : Array Bool} {i : Nat} (hi : i < l.size) (h0 : l.getD i true = false) : ∀ k, cnt (l.setIfInBounds i true) k + (if i < k then 1 else 0) = cnt l k
  | 0 => by simp [cnt]
  | k + 1 => by
    have ih := cnt_set hi h0 k
    simp only [cnt]
    by_cases hk : i = k
    · subst hk
      have : (l.setIfInBounds i true).getD i true = true := by simp [Array.getD, hi]
      rw [this, h0]
      simp at ih ⊢; omega
    · have : (l.setIfInBounds i true).getD k true = l.getD k true := by
        simp only [Array.getD_eq_getD_getElem?]
        rw [Array.getElem?_setIfInBounds_ne hk]
      rw [this]
      by_cases hlt : i < k
      · have h2 : i < k + 1 := by omega
        simp only [hlt, h2, if_true] at ih ⊢; omega
      · have h2 : ¬ i < k + 1 := by omega
        simp only [hlt, h2, if_false] at ih ⊢; omega
theorem cnt_pos {l : Array Bool} {j : Nat} (hj : l.getD j true = false) : ∀ k, j < k → 0 < cnt l k
  | 0, h => by omega
  | k + 1, h => by
    simp only [cnt]
    by_cases hk : j = k
    · subst hk; rw [hj]; simp
    · have := cnt_pos hj k (by omega); omega

theorem getD_set {l : Array Bool} {i j : Nat} (hi : i < l.size) (d : Bool) : (l.setIfInBounds i true).getD j d = if j = i then true else l.getD j d := by
  simp only [Array.getD_eq_getD_getElem?]
  by_cases h : j = i
  · subst h; rw [if_pos rfl]; simp [hi]
  · rw [if_neg h, Array.getElem?_setIfInBounds_ne (Ne.symm h)]

theorem drawA_ok (TO : TabOK P T) (CO : CallOK P call) {Q : Exit → Act → World → Prop} {p : Nat} {ancs tail : List Nat} (hpl : planOK ops p ancs tail = true) {s s' : St} (hI : Inv κ M0 A w0 s a w)
    (h : drawA T call ops p ancs tail s = some s') (hQ : ∀ a' w', Inv κ M0 A w0 s' a' w' → Q .normal a' w') :
    wpAny P .any ops Q ops.size (Array.replicate ops.size false) a w := by
  obtain ⟨hp, htl, htok⟩ := planOK_plan hpl
  unfold drawA at h
  split at h
  · cases h
  rename_i tp adp hpre
  obtain ⟨V, AD, pr⟩ := preN_pre hp.toPlan0 hpre
  have hgd : ∀ (l : Array Bool) (j : Nat), l.size = ops.size → j < ops.size → (l.getD j true = false ↔ ¬ l.getD j false = true) := by
    intro l j hl hj
    simp only [Array.getD_eq_getD_getElem?, Array.getElem?_eq_getElem (show j < l.size by omega), Option.getD_some]
    cases l[j] <;> simp
  -- all of the first p have been carried out
  have hdone : ∀ (f : Nat) (l : Array Bool) (a : Act) (w : World), l.size = ops.size → (∀ j, j < ops.size → (l.getD j false = true ↔ j < p)) → ops.size - p ≤ f →
      Inv κ M0 A w0 ⟨tp, s.m ++ allA adp, s.nx + 16 * p⟩ a w → wpAny P .any ops Q f l a w := by
    intro f l a w hl hlp hf hI'
    have hle : l = listedP ops.size p := by
      apply Array.ext
      · simp [listedP, hl]
      · intro j h1 h2
        have := hlp j (by omega)
        simp only [Array.getD_eq_getD_getElem?, Array.getElem?_eq_getElem h1, Option.getD_some] at this
        simp only [listedP, List.getElem_toArray, List.getElem_map, List.getElem_range]
        by_cases hj : j < p
        · rw [decide_eq_true hj]; exact this.2 hj
        · rw [decide_eq_false hj]
          cases hb : l[j]
          · rfl
          · exact absurd (this.1 hb) hj
    rw [hle]
    exact tail_ok TO CO tail f (by omega) htok hI' h hQ
  -- some of the first p are still to come
  have key : ∀ (f : Nat) (l : Array Bool) (a : Act) (w : World) (μ : Locs) (I : Nat → Prop) (mc : List (Nat × Blk)) (tL : List AV), l.size = ops.size → (∀ j, l.getD j false = true → j < p) →
      (∀ j, j < p → l.getD j false = true → ∀ j', (ancs.getD j 0).testBit j' = true → l.getD j' false = true) → cnt l p + (ops.size - p) ≤ f →
      SR M0 A w0 w μ I mc → VRs w tL μ I a.tmps.toList → (a.defers = [] ∧ PinOK κ μ) → Tm ops p V s.t (fun j => l.getD j false = true) tL →
      (∀ b B, look s.m b = some B → look mc b = some B) → (∀ j b B, l.getD j false = true → look (AD j) b = some B → look mc b = some B) →
      (∀ b, s.nx ≤ b → (∀ j, l.getD j false = true → b < s.nx + 16 * j ∨ s.nx + 16 * j + 16 ≤ b) → μ b = none) → wpAny P .any ops Q f l a w := by
    intro f
    induction f with
    | zero =>
      intro l a w μ I mc tL hl hlp hcl hf hS ht hd hTm hm1 hm2 hid
      refine hdone 0 l a w hl (fun j hj => ⟨hlp j, fun hjp => ?_⟩) (by omega) ?_
      · by_cases hc : l.getD j false = true
        · exact hc
        · have := cnt_pos ((hgd l j hl hj).2 hc) p hjp; omega
      · have hall : ∀ j, j < p → l.getD j false = true := fun j hjp => by
          by_cases hc : l.getD j false = true
          · exact hc
          · have := cnt_pos ((hgd l j hl (by have := hp.size; omega)).2 hc) p hjp; omega
        refine ⟨μ, I, hS.sub fun b B hb => ?_, ?_, fun b hb => ?_, hd⟩
        · rw [look_append] at hb
          split at hb
          · rename_i B' hB; injection hb with hb; subst hb; exact hm1 b _ hB
          · obtain ⟨j, x, h1, h2⟩ := look_allA hb
            obtain ⟨h3, h4⟩ := pr.ads j x h1
            exact hm2 j b B (hall j h3) (h4 ▸ h2)
        · have : tL = tp := by
            apply List.ext_getElem?
            intro d
            exact hTm.look pr.tm fun j hj _ => ⟨fun _ => hj, fun _ => hall j hj⟩
          rw [← this]; exact ht
        · have hb' : s.nx + 16 * p ≤ b := hb
          refine hid b (by omega) fun j hj => ?_
          have := hlp j hj; omega
    | succ f ih =>
      intro l a w μ I mc tL hl hlp hcl hf hS ht hd hTm hm1 hm2 hid
      by_cases hall : ∀ j, j < p → l.getD j false = true
      · refine hdone (f + 1) l a w hl (fun j hj => ⟨hlp j, fun hjp => hall j hjp⟩) (by omega) ?_
        refine ⟨μ, I, hS.sub fun b B hb => ?_, ?_, fun b hb => ?_, hd⟩
        · rw [look_append] at hb
          split at hb
          · rename_i B' hB; injection hb with hb; subst hb; exact hm1 b _ hB
          · obtain ⟨j, x, h1, h2⟩ := look_allA hb
            obtain ⟨h3, h4⟩ := pr.ads j x h1
            exact hm2 j b B (hall j h3) (h4 ▸ h2)
        · have : tL = tp := by
            apply List.ext_getElem?
            intro d
            exact hTm.look pr.tm fun j hj _ => ⟨fun _ => hj, fun _ => hall j hj⟩
          rw [← this]; exact ht
        · have hb' : s.nx + 16 * p ≤ b := hb
          refine hid b (by omega) fun j hj => ?_
          have := hlp j hj; omega
      · have hready : ∀ i, i ∈ Region.ready .any ops l → i < p := by
          intro i hi
          obtain ⟨h1, h2, o, ho, h3⟩ := mem_ready hi
          rcases Nat.lt_or_ge i p with h4 | h4
          · exact h4
          · exfalso
            apply hall
            intro j hj
            obtain ⟨e, he, hb, hlt, hor⟩ := hp.rest i o h4 ho j hj
            have h5 := h3 e he hb
            rcases hor with rfl | h6
            · exact h5
            · exact hcl e.on hlt h5 j h6
        refine ⟨fun hr => ?_, fun i hi => ?_⟩
        · -- the least of those to come is ready
          exfalso
          have hex : ∃ j, j < p ∧ l.getD j true = false := by
            apply Classical.byContradiction
            intro hno
            apply hall
            intro j hj
            by_cases hc : l.getD j false = true
            · exact hc
            · exact absurd ⟨j, hj, (hgd l j hl (by have := hp.size; omega)).2 hc⟩ hno
          have hleast : ∀ n, (∃ j, j < n ∧ j < p ∧ l.getD j true = false) → ∃ j, j < p ∧ l.getD j true = false ∧ ∀ k, k < j → l.getD k true = true := by
            intro n
            induction n with
            | zero => rintro ⟨j, h, _⟩; omega
            | succ n ihn =>
              rintro ⟨j, h1, h2, h3⟩
              by_cases hlow : ∃ k, k < j ∧ l.getD k true = false
              · obtain ⟨k, hk, hk2⟩ := hlow
                exact ihn ⟨k, by omega, by omega, hk2⟩
              · refine ⟨j, h2, h3, fun k hk => ?_⟩
                cases hb : l.getD k true
                · exact absurd ⟨k, hk, hb⟩ hlow
                · rfl
          obtain ⟨j0, hj0, hl0⟩ := hex
          obtain ⟨j, hj, hlj, hlow⟩ := hleast (j0 + 1) ⟨j0, by omega, hj0, hl0⟩
          have hjs : j < ops.size := by have := hp.size; omega
          have : j ∈ Region.ready .any ops l := by
            unfold Region.ready
            simp only [List.mem_filter, List.mem_range, Bool.and_eq_true, Bool.not_eq_true']
            refine ⟨hjs, hlj, ?_⟩
            rw [Array.getElem?_eq_getElem hjs]
            simp only [Option.map_some, Option.getD_some, Array.all_eq_true_iff_forall_mem, Bool.or_eq_true, Bool.not_eq_true']
            intro e he
            by_cases hb : Region.binds .any e = true
            · right
              have hon : e.on < j := hp.low j e.on hj ((hp.edge j ops[j] hj (Array.getElem?_eq_getElem hjs) e.on).2 ⟨e, by simpa using he, hb, .inl rfl⟩)
              have := hlow e.on hon
              have h9 : ¬ l.getD e.on true = false := by rw [this]; simp
              by_cases hc : l.getD e.on false = true
              · exact hc
              · exact absurd ((hgd l e.on hl (by omega)).2 hc) h9
            · left
              cases hx : Region.binds .any e
              · rfl
              · exact absurd hx hb
          rw [hr] at this; cases this
        · have hip := hready i hi
          obtain ⟨hin, hli, o, ho, hedges⟩ := mem_ready hi
          have hnot : ¬ l.getD i false = true := (hgd l i hl hin).1 hli
          obtain ⟨o', ti, adi, ho', htm, hadi, hval⟩ := pr.val i hip
          rw [ho] at ho'; injection ho' with e; subst e
          -- those ahead of it have been carried out
          have hanc : ∀ j, (ancs.getD i 0).testBit j = true → l.getD j false = true := by
            intro j hj
            obtain ⟨e, he, hb, hor⟩ := (hp.edge i o hip ho j).1 hj
            have h5 := hedges e he hb
            rcases hor with rfl | h6
            · exact h5
            · exact hcl e.on (hlp _ h5) h5 j h6
          have hlook : ∀ d, d ∈ o.looksAt ops → ti[d]? = tL[d]? := by
            intro d hdl
            refine htm.look hTm fun j hj hjd => ?_
            by_cases hji : j = i
            · subst hji
              exact ⟨fun hx => by omega, fun hx => absurd hx hnot⟩
            · rcases hp.looks i o hip ho d hdl j hj hji hjd with hb | hb
              · exact ⟨fun _ => hanc j hb, fun _ => hp.low i j hip hb⟩
              · have := hp.low j i hj hb
                exact ⟨fun _ => by omega, fun hlj => absurd (hcl j hj hlj i hb) hnot⟩
          have hidq : ∀ b, s.nx + 16 * i ≤ b → b < s.nx + 16 * i + 16 → μ b = none := by
            intro b h1 h2
            refine hid b (by omega) fun j hj => ?_
            by_cases hji : j = i
            · subst hji; exact absurd hj hnot
            · omega
          have hmv : ∀ b B, look (s.m ++ pickA (ancs.getD i 0) adi) b = some B → look mc b = some B := by
            intro b B hb
            rw [look_append] at hb
            split at hb
            · rename_i B' hB; injection hb with hb; subst hb; exact hm1 b _ hB
            · obtain ⟨j, x, h1, h2, h3⟩ := look_pickA hb
              obtain ⟨h4, h5⟩ := hadi j x h1
              exact hm2 j b B (hanc j h2) (h5 ▸ h3)
          -- what is left when it has been carried out
          have hnext : ∀ (a' : Act) (w' : World) (μ' : Locs) (I' : Nat → Prop) (x : Value), SR M0 A w0 w' μ' I' (mc ++ AD i) → Stays μ μ' I I' w w' → (∀ b, b < s.nx + 16 * i ∨ s.nx + 16 * i + 16 ≤ b → μ' b = μ b) → VR w' (V i) μ' I' x →
              idsIn (s.nx + 16 * i) (AD i) = true → wpAny P .any ops Q f (l.setIfInBounds i true) (a.put o.dst x) w' := by
            intro a' w' μ' I' x hS' hst hid' hv hids
            have hil : i < l.size := by omega
            refine ih (l.setIfInBounds i true) (a.put o.dst x) w' μ' I' (mc ++ AD i) (putA tL o.dst (V i)) (by simp [hl]) (fun j hj => ?_) (fun j hj hlj j' hj' => ?_) ?_ hS' (putA_ok (VRs.stays _ hst _ ht) hv _) (by rw [defers_put]; exact ⟨hd.1, hd.2.stays hst⟩) ?_ (fun b B hb => ?_) (fun j b B hj hb => ?_) (fun b hb hbj => ?_)
            · rw [getD_set hil] at hj
              split at hj
              · omega
              · exact hlp j hj
            · rw [getD_set hil] at hlj ⊢
              split
              · rfl
              · split at hlj
                · rename_i e; subst e; exact hanc j' hj'
                · exact hcl j hj hlj j' hj'
            · have := cnt_set hil hli p
              rw [if_pos hip] at this
              omega
            · have := Tm.step hp.toPlan0 (L' := fun j => (l.setIfInBounds i true).getD j false = true) hip hTm hnot (fun j => by
                rw [getD_set hil]
                split
                · rename_i e; simp [e]
                · rename_i e; simp [e])
              simp only [dstOf, ho, Option.bind_some] at this
              exact this
            · rw [look_append, hm1 b B hb]
            · rw [look_append]
              rw [getD_set hil] at hj
              split at hj
              · rename_i e; subst e
                cases hlk : look mc b with
                | none => simpa using hb
                | some B' =>
                  exfalso
                  obtain ⟨h1, h2⟩ := idsIn_look hids hb
                  obtain ⟨lx, hlx, _⟩ := hS.blks b B' hlk
                  rw [hidq b h1 h2] at hlx; cases hlx
              · rw [hm2 j b B hj hb]
            · have h1 := hbj i (by rw [getD_set hil]; simp)
              rw [hid' b h1]
              refine hid b hb fun j hj => ?_
              refine hbj j ?_
              rw [getD_set hil]
              split
              · rfl
              · exact hj
          unfold wpOp
          rw [ho]
          simp only
          unfold valP at hval
          split at hval
          · rename_i hw
            rw [wantedA_congr hlook] at hw
            rw [wantedA_ok ht hw, if_pos rfl]
            split at hval
            · rename_i v x hqop
              split at hval
              · rename_i hids
                injection hval with hval; injection hval with h1 h2
                subst h1
                have hqop' : qop T call.q (s.nx + 16 * i) tL (s.m ++ pickA (ancs.getD i 0) adi) o = some (V i, x) := by
                  rw [← hqop]
                  exact (qop_congr fun d hdm => hlook d (looks_operand hdm)).symm
                refine .inl (Upon.wp ?_)
                refine Upon.mono (qop_ok TO CO.q hS hmv hidq ht hqop') fun y w' hy => ?_
                obtain ⟨μ', I', hst, hsr, hid', hv⟩ := hy
                rw [h2] at hsr hids
                exact hnext a w' μ' I' y hsr hst hid' hv hids
              · cases hval
            · cases hval
          · rename_i hw
            rw [wantedA_congr hlook] at hw
            rw [wantedA_ok ht hw, if_neg (by simp)]
            injection hval with hval; injection hval with h1 h2
            refine hnext a w μ I undef (by rw [← h2, List.append_nil]; exact hS) (Stays.refl _ _ _) (fun _ _ => rfl) (by rw [← h1]; exact undef_ok) (by rw [← h2]; rfl)
          · cases hval
  obtain ⟨μ, I, hS, ht, hn, hd⟩ := hI
  have hrep : ∀ j, (Array.replicate ops.size false).getD j false = false := by
    intro j
    simp only [Array.getD_eq_getD_getElem?, Array.getElem?_replicate]
    split <;> rfl
  refine key ops.size (Array.replicate ops.size false) a w μ I s.m s.t (by simp) (fun j hj => by rw [hrep] at hj; cases hj) (fun j _ hj => by rw [hrep] at hj; cases hj) ?_ hS ht hd ⟨rfl, fun j d _ hj => (by rw [hrep] at hj; cases hj), fun _ _ => rfl⟩ (fun _ _ h => h) (fun j _ _ hj => by rw [hrep] at hj; cases hj) (fun b hb _ => hn b hb)
  have hc : ∀ k, cnt (Array.replicate ops.size false) k ≤ k := by
    intro k
    induction k with
    | zero => simp [cnt]
    | succ k ih =>
      simp only [cnt]
      split <;> omega
  have := hc p
  have := hp.size
  omega
end
end Go.AM
end
section
/- The abstract machine, part 15b: regions in which some reads may also come late. -/
set_option linter.unusedVariables false
set_option linter.unusedSimpArgs false
set_option linter.unnecessarySimpa false
namespace Go.AM

def preOK (ops : Array Oper) (p : Nat) (ancs : List Nat) : Bool :=
  decide (p ≤ ops.size) && (List.range p).all (fun i => match ops[i]? with
    | none => false
    | some o => behind (fun i => ancs.getD i 0) o.after.toList == ancs.getD i 0 && decide (ancs.getD i 0 < 2 ^ i) &&
        (o.looksAt ops).all (fun d => (List.range p).all fun j => j == i || dstOf ops j != some d || (ancs.getD i 0).testBit j || (ancs.getD j 0).testBit i) &&
        (List.range p).all (fun j => j == i || dstOf ops i == none || dstOf ops j != dstOf ops i))
/-- What an operation behind the first p asks for among them. -/
def asksB (p : Nat) (ancs : List Nat) (o : Oper) : Nat := behind (fun k => if k < p then ancs.getD k 0 else 0) (o.after.toList.filter fun e => decide (e.on < p))
/-- The first p operations in any order, some of them (fl) also late; the others one behind the other (tail); what must have come by then (reqs). -/
def planB (ops : Array Oper) (p : Nat) (ancs fl tail reqs : List Nat) : Bool :=
  preOK ops p ancs && decide (tail.length = reqs.length) && fl.all (fun i => decide (i < p)) &&
  (List.range ops.size).all (fun i => decide (i < p) || tail.contains i) &&
  (List.range tail.length).all (fun k => match tail[k]? with
    | none => false
    | some e => (match ops[e]? with
      | none => false
      | some o => decide (p ≤ e) && !(tail.take k).contains e &&
         (k == 0 || (o.after.toList.any fun ed => Region.binds .any ed && (tail[k - 1]? == some ed.on))) &&
         (o.after.toList.all fun ed => !Region.binds .any ed || decide (ed.on < p) || (tail.take k).contains ed.on) &&
         (List.range p).all (fun j => (!(reqs.getD k 0).testBit j) || (asksB p ancs o).testBit j || (k != 0 && (reqs.getD (k - 1) 0).testBit j)) &&
         (k != 0 || (List.range p).all (fun j => fl.contains j || (asksB p ancs o).testBit j)) &&
         (o.looksAt ops).all (fun d => fl.all fun j => dstOf ops j != some d || (reqs.getD k 0).testBit j) &&
         fl.all (fun j => dstOf ops j == none || dstOf ops j != o.dst))) &&
  fl.all (fun i => match ops[i]? with
    | none => false
    | some o => (o.looksAt ops).all fun d => (List.range p).all (fun j => dstOf ops j != some d || (ancs.getD i 0).testBit j) && tail.all (fun e => dstOf ops e != some d))

/-- What may come late gives late what it gives first. -/
def floOK (T : Tab) (call : Nat → List AV → Option AV) (ops : Array Oper) (nx : Nat) (t0 : List AV) (s : St) : List Nat → Prop
  | [] => True
  | i :: r => (match ops[i]? with
    | none => False
    | some o => match wantedA ops t0 o, o.dst with
      | some false, _ => True
      | some true, some d => qop T call (nx + 16 * i) s.t s.m o = some (t0.getD d (.tup []), [])
      | _, _ => False) ∧ floOK T call ops nx t0 s r
open Classical in
noncomputable def tailB (T : Tab) (call : Know) (ops : Array Oper) (nx : Nat) (t0 : List AV) (fl : List Nat) : List Nat → List Nat → St → Option St
  | [], _, s => some s
  | e :: r, R, s => match ops[e]? with
    | none => none
    | some o => match stepA T call ops o s with
      | none => none
      | some s' => if floOK T call.q ops nx t0 s' (fl.filter fun i => !(R.headD 0).testBit i) then tailB T call ops nx t0 fl r R.tail s' else none
def noFl (fl : List Nat) : List (Nat × List (Nat × Blk)) → Bool
  | [] => true
  | (i, _) :: r => !fl.contains i && noFl fl r
open Classical in
noncomputable def drawB (T : Tab) (call : Know) (ops : Array Oper) (p : Nat) (ancs fl tail reqs : List Nat) (s : St) : Option St :=
  match preN T call.q ops ancs s p with
  | none => none
  | some (t, ads) => if noFl fl ads = true then
      (if floOK T call.q ops s.nx t ⟨t, s.m ++ allA ads, s.nx + 16 * p⟩ fl then tailB T call ops s.nx t fl tail reqs ⟨t, s.m ++ allA ads, s.nx + 16 * p⟩ else none) else none

section
variable {κ : Pin} {P : Program} {T : Tab} {M0 A : Nat → Prop} {w0 w w' : World} {μ μ' : Locs} {I I' : Nat → Prop} {m m' mv : List (Nat × Blk)} {q : Nat} {o : Oper} {a : Act} {t t' : List AV} {call : Know} {ops : Array Oper}

theorem preOK_plan {p : Nat} {ancs : List Nat} (h : preOK ops p ancs = true) : Plan0 ops p (fun i => ancs.getD i 0) := by
  simp only [preOK, Bool.and_eq_true, decide_eq_true_eq, List.all_eq_true, List.mem_range] at h
  obtain ⟨h1, h2⟩ := h
  have key : ∀ i o, i < p → ops[i]? = some o → _ := fun i o hi ho => by
    have := h2 i hi
    rw [ho] at this
    simp only [Bool.and_eq_true, beq_iff_eq, decide_eq_true_eq, List.all_eq_true, List.mem_range, Bool.or_eq_true, bne_iff_ne] at this
    exact this
  have sm : ∀ i, i < p → ∃ o, ops[i]? = some o := fun i hi => ⟨_, Array.getElem?_eq_getElem (by omega)⟩
  refine ⟨h1, fun i o hi ho j => ?_, fun i j hi hj => ?_, fun i o hi ho d hd j hj hne hjd => ?_, fun i j d hi hj hne hid hjd => ?_⟩
  · obtain ⟨⟨⟨g1, g2⟩, g3⟩, g4⟩ := key i o hi ho
    have := behind_testBit (fun i => ancs.getD i 0) o.after.toList j
    rw [g1] at this
    exact this
  · obtain ⟨o, ho⟩ := sm i hi
    obtain ⟨⟨⟨g1, g2⟩, g3⟩, g4⟩ := key i o hi ho
    rcases Nat.lt_or_ge j i with h' | h'
    · exact h'
    · have : (ancs.getD i 0).testBit j = false := Nat.testBit_lt_two_pow (Nat.lt_of_lt_of_le g2 (Nat.pow_le_pow_right (by omega) h'))
      rw [this] at hj; cases hj
  · obtain ⟨⟨⟨g1, g2⟩, g3⟩, g4⟩ := key i o hi ho
    rcases g3 d hd j hj with ((h5 | h5) | h5) | h5
    · exact absurd h5 hne
    · exact absurd hjd h5
    · exact .inl h5
    · exact .inr h5
  · obtain ⟨o, ho⟩ := sm i hi
    obtain ⟨⟨⟨g1, g2⟩, g3⟩, g4⟩ := key i o hi ho
    rcases g4 j hj with (h5 | h5) | h5
    · exact hne h5
    · rw [hid] at h5; cases h5
    · rw [hid, hjd] at h5; exact h5 rfl

structure PlanB (ops : Array Oper) (p : Nat) (ancs fl tail reqs : List Nat) : Prop where
  pre : Plan0 ops p (fun i => ancs.getD i 0)
  low : ∀ i ∈ fl, i < p
  all : ∀ i, i < ops.size → p ≤ i → i ∈ tail
  op : ∀ k e : Nat, tail[k]? = some e → ∃ o, ops[e]? = some o ∧ p ≤ e ∧ e ∉ tail.take k
  next : ∀ (k e : Nat) o, tail[k + 1]? = some e → ops[e]? = some o → ∃ ed ∈ o.after.toList, Region.binds .any ed = true ∧ tail[k]? = some ed.on
  edges : ∀ (k e : Nat) o, tail[k]? = some e → ops[e]? = some o → ∀ ed ∈ o.after.toList, Region.binds .any ed = true → ed.on < p ∨ ed.on ∈ tail.take k
  req0 : ∀ (e : Nat) o, tail[0]? = some e → ops[e]? = some o → ∀ j, j < p → (reqs.getD 0 0).testBit j = true → (asksB p ancs o).testBit j = true
  req : ∀ (k e : Nat) o, tail[k + 1]? = some e → ops[e]? = some o → ∀ j, j < p → (reqs.getD (k + 1) 0).testBit j = true → (asksB p ancs o).testBit j = true ∨ (reqs.getD k 0).testBit j = true
  firm : ∀ (e : Nat) o, tail[0]? = some e → ops[e]? = some o → ∀ j, j < p → j ∉ fl → (asksB p ancs o).testBit j = true
  look : ∀ (k e : Nat) o, tail[k]? = some e → ops[e]? = some o → ∀ d ∈ o.looksAt ops, ∀ j ∈ fl, dstOf ops j = some d → (reqs.getD k 0).testBit j = true
  dst : ∀ (k e : Nat) o, tail[k]? = some e → ops[e]? = some o → ∀ j ∈ fl, ∀ d, dstOf ops j = some d → o.dst ≠ some d
  flo : ∀ i ∈ fl, ∀ o, ops[i]? = some o → ∀ d ∈ o.looksAt ops, (∀ j, j < p → dstOf ops j = some d → (ancs.getD i 0).testBit j = true) ∧ ∀ e ∈ tail, dstOf ops e ≠ some d

theorem planB_plan {p : Nat} {ancs fl tail reqs : List Nat} (h : planB ops p ancs fl tail reqs = true) : PlanB ops p ancs fl tail reqs := by
  simp only [planB, Bool.and_eq_true, decide_eq_true_eq, List.all_eq_true, List.mem_range, Bool.or_eq_true, List.contains_iff_mem] at h
  obtain ⟨⟨⟨⟨⟨h1, h2⟩, h3⟩, h4⟩, h5⟩, h6⟩ := h
  have ex : ∀ (k e : Nat), tail[k]? = some e → ∃ o, ops[e]? = some o := fun k e hk => by
    have hlt : k < tail.length := (List.getElem?_eq_some_iff.1 hk).1
    have := h5 k hlt
    rw [hk] at this
    simp only at this
    cases ho : ops[e]? with
    | none => rw [ho] at this; cases this
    | some o => exact ⟨o, rfl⟩
  have key2 : ∀ (k e : Nat) o, tail[k]? = some e → ops[e]? = some o → _ := fun k e o hk ho => by
    have hlt : k < tail.length := (List.getElem?_eq_some_iff.1 hk).1
    have := h5 k hlt
    rw [hk] at this
    simp only at this
    rw [ho] at this
    simp only [Bool.and_eq_true, beq_iff_eq, decide_eq_true_eq, List.all_eq_true, List.mem_range, Bool.or_eq_true, bne_iff_ne, Bool.not_eq_true', List.any_eq_true, List.contains_iff_mem] at this
    exact this
  refine ⟨preOK_plan h1, h3, fun i hi hp => ?_, fun k e hk => ?_, fun k e o hk ho => ?_, fun k e o hk ho ed hed hb => ?_, fun e o hk ho j hj hr => ?_, fun k e o hk ho j hj hr => ?_, fun e o hk ho j hj hf => ?_, fun k e o hk ho d hd j hj hjd => ?_, fun k e o hk ho j hj d hjd hod => ?_, fun i hi o ho d hd => ?_⟩
  · rcases h4 i hi with h | h
    · omega
    · exact h
  · obtain ⟨o, ho⟩ := ex k e hk
    obtain ⟨⟨⟨⟨⟨⟨⟨g1, g2⟩, g3⟩, g4⟩, g5⟩, g6⟩, g7⟩, g8⟩ := key2 k e o hk ho
    refine ⟨o, ho, g1, fun hm => ?_⟩
    have : (tail.take k).contains e = true := by simpa using hm
    rw [this] at g2; cases g2
  · obtain ⟨⟨⟨⟨⟨⟨⟨g1, g2⟩, g3⟩, g4⟩, g5⟩, g6⟩, g7⟩, g8⟩ := key2 (k + 1) e o hk ho
    rcases g3 with g3 | ⟨ed, hed, hb, he⟩
    · cases g3
    · exact ⟨ed, hed, hb, he⟩
  · obtain ⟨⟨⟨⟨⟨⟨⟨g1, g2⟩, g3⟩, g4⟩, g5⟩, g6⟩, g7⟩, g8⟩ := key2 k e o hk ho
    rcases g4 ed hed with (g | g) | g
    · rw [hb] at g; cases g
    · exact .inl g
    · exact .inr g
  · obtain ⟨⟨⟨⟨⟨⟨⟨g1, g2⟩, g3⟩, g4⟩, g5⟩, g6⟩, g7⟩, g8⟩ := key2 0 e o hk ho
    rcases g5 j hj with (g | g) | g
    · rw [hr] at g; cases g
    · exact g
    · exact absurd rfl g.1
  · obtain ⟨⟨⟨⟨⟨⟨⟨g1, g2⟩, g3⟩, g4⟩, g5⟩, g6⟩, g7⟩, g8⟩ := key2 (k + 1) e o hk ho
    rcases g5 j hj with (g | g) | g
    · rw [hr] at g; cases g
    · exact .inl g
    · exact .inr g.2
  · obtain ⟨⟨⟨⟨⟨⟨⟨g1, g2⟩, g3⟩, g4⟩, g5⟩, g6⟩, g7⟩, g8⟩ := key2 0 e o hk ho
    rcases g6 with g | g
    · exact absurd rfl g
    · rcases g j hj with g | g
      · exact absurd g hf
      · exact g
  · obtain ⟨⟨⟨⟨⟨⟨⟨g1, g2⟩, g3⟩, g4⟩, g5⟩, g6⟩, g7⟩, g8⟩ := key2 k e o hk ho
    rcases g7 d hd j hj with g | g
    · exact absurd hjd g
    · exact g
  · obtain ⟨⟨⟨⟨⟨⟨⟨g1, g2⟩, g3⟩, g4⟩, g5⟩, g6⟩, g7⟩, g8⟩ := key2 k e o hk ho
    rcases g8 j hj with g | g
    · rw [hjd] at g; cases g
    · rw [hjd, hod] at g; exact g rfl
  · have := h6 i hi
    rw [ho] at this
    simp only [Bool.and_eq_true, beq_iff_eq, decide_eq_true_eq, List.all_eq_true, List.mem_range, Bool.or_eq_true, bne_iff_ne] at this
    obtain ⟨g1, g2⟩ := this d hd
    refine ⟨fun j hj hjd => ?_, g2⟩
    rcases g1 j hj with g | g
    · exact absurd hjd g
    · exact g

theorem asksB_bit {p : Nat} {ancs : List Nat} (o : Oper) (j : Nat) : (asksB p ancs o).testBit j = true ↔ ∃ e ∈ o.after.toList, Region.binds .any e = true ∧ e.on < p ∧ (j = e.on ∨ (ancs.getD e.on 0).testBit j = true) := by
  unfold asksB
  rw [behind_testBit]
  constructor
  · rintro ⟨e, he, hb, h⟩
    simp only [List.mem_filter, decide_eq_true_eq] at he
    rw [if_pos he.2] at h
    exact ⟨e, he.1, hb, he.2, h⟩
  · rintro ⟨e, he, hb, hp, h⟩
    refine ⟨e, by simp only [List.mem_filter, decide_eq_true_eq]; exact ⟨he, hp⟩, hb, ?_⟩
    rw [if_pos hp]; exact h

theorem optEvs_congr {x : Operand} (h : ∀ d, x = .tmp d → t[d]? = t'[d]?) : ev t x = ev t' x := ev_congr h
theorem eop_congr (h : ∀ d, Operand.tmp d ∈ o.op.operands → t[d]? = t'[d]?) : eop T call q t m o = eop T call q t' m o := by
  have hq := qop_congr (T := T) (call := call.q) (q := q) (m := m) h
  have hx : ∀ x ∈ o.op.operands, ev t x = ev t' x := fun x hx => ev_congr fun d hd => h d (hd ▸ hx)
  have args : ∀ xs : Array Operand, (∀ x ∈ xs, ev t x = ev t' x) → evs t xs = evs t' xs := fun xs hp =>
    List.map_congr_left fun x hm => hp x (by simpa using hm)
  unfold eop
  rw [hq]
  obtain ⟨dst, op, type, pos, after, guard⟩ := o
  cases op <;> simp only [Op.operands] at hx <;> try rfl
  case store ty a v => simp only; rw [hx a (by simp), hx v (by simp)]
  case call c =>
    have e := args c.args (fun x hm => hx x (by simp [Call.operands, hm]))
    simp only
    cases hc : c.callee with
    | value f =>
      have hf : ev t f = ev t' f := hx f (by simp [Call.operands, hc])
      simp only [e, hf]
    | builtin b => cases b <;> simp only [e]
    | invoke r n => rfl

/-- The tail's states. -/
theorem tailB_states {nx : Nat} {t0 : List AV} {fl : List Nat} : ∀ {tail R : List Nat} {s s' : St}, tailB T call ops nx t0 fl tail R s = some s' →
    ∃ S : Nat → St, S 0 = s ∧ S tail.length = s' ∧ ∀ k e : Nat, tail[k]? = some e → ∃ o, ops[e]? = some o ∧ stepA T call ops o (S k) = some (S (k + 1)) ∧ floOK T call.q ops nx t0 (S (k + 1)) (fl.filter fun i => !(R.getD k 0).testBit i)
  | [], R, s, s', h => by
    simp only [tailB, Option.some.injEq] at h
    exact ⟨fun _ => s, rfl, h, fun k e hk => by simp at hk⟩
  | e0 :: r, R, s, s', h => by
    simp only [tailB] at h
    split at h
    · cases h
    · rename_i o ho
      split at h
      · cases h
      · rename_i s1 hs1
        split at h
        · rename_i hfl
          obtain ⟨S, h0, h1, h2⟩ := tailB_states h
          refine ⟨fun k => match k with | 0 => s | k + 1 => S k, rfl, by simpa using h1, fun k e hk => ?_⟩
          cases k with
          | zero =>
            simp only [List.getElem?_cons_zero, Option.some.injEq] at hk; subst hk
            refine ⟨o, ho, ?_, ?_⟩
            · show stepA T call ops o s = some (S 0)
              rw [h0]; exact hs1
            · show floOK T call.q ops nx t0 (S 0) _
              rw [h0]
              cases R <;> exact hfl
          | succ k =>
            simp only [List.getElem?_cons_succ] at hk
            obtain ⟨o', ho', hs', hf'⟩ := h2 k e hk
            refine ⟨o', ho', hs', ?_⟩
            cases R with
            | nil => simpa using hf'
            | cons r0 R => simpa using hf'
        · cases h

theorem floOK_mem {cq : Nat → List AV → Option AV} {nx : Nat} {t0 : List AV} {s : St} : ∀ {fl : List Nat}, floOK T cq ops nx t0 s fl → ∀ i ∈ fl, ∃ o, ops[i]? = some o ∧
    (wantedA ops t0 o = some false ∨ (wantedA ops t0 o = some true ∧ ∃ d, o.dst = some d ∧ qop T cq (nx + 16 * i) s.t s.m o = some (t0.getD d (.tup []), [])))
  | j :: r, h, i, hi => by
    simp only [floOK] at h
    obtain ⟨h1, h2⟩ := h
    rcases List.mem_cons.1 hi with rfl | hi
    · split at h1
      · exact h1.elim
      · rename_i o ho
        refine ⟨o, ho, ?_⟩
        split at h1
        · exact .inl (by assumption)
        · rename_i d hw hd
          exact .inr ⟨hw, d, hd, h1⟩
        · exact h1.elim
    · exact floOK_mem h2 i hi
theorem noFl_mem {fl : List Nat} : ∀ {ads : List (Nat × List (Nat × Blk))}, noFl fl ads = true → ∀ j x, (j, x) ∈ ads → j ∉ fl
  | (i, y) :: r, h, j, x, hm => by
    simp only [noFl, Bool.and_eq_true, Bool.not_eq_true'] at h
    rcases List.mem_cons.1 hm with e | hm
    · injection e with e1 e2; subst e1
      intro hj
      have : fl.contains j = true := by simpa using hj
      rw [this] at h; exact absurd h.1 (by simp)
    · exact noFl_mem h.2 j x hm
theorem cnt_all {l : Array Bool} : ∀ k, (∀ j, j < k → l.getD j true = true) → cnt l k = 0
  | 0, _ => rfl
  | k + 1, h => by simp [cnt, cnt_all k fun j hj => h j (by omega), h k (by omega)]
theorem cnt_zero {l : Array Bool} : ∀ k, cnt l k = 0 → ∀ j, j < k → l.getD j true = true
  | k + 1, h, j, hj => by
    cases hb : l.getD j true
    · have := cnt_pos hb (k + 1) hj; omega
    · rfl
theorem stepA_nx {s s' : St} (h : stepA T call ops o s = some s') : s.nx ≤ s'.nx ∧ ∃ v, s'.t = putA s.t o.dst v := by
  unfold stepA at h
  split at h
  · simp only [Option.map_eq_some_iff] at h
    obtain ⟨r, hr, rfl⟩ := h
    exact ⟨by simp, r.1, rfl⟩
  · injection h with h; subst h
    exact ⟨by simp, _, rfl⟩
  · cases h

theorem ready_iff {l : Array Bool} {i : Nat} {o : Oper} (ho : ops[i]? = some o) (hl : l.getD i true = false) (h : ∀ e ∈ o.after.toList, Region.binds .any e = true → l.getD e.on false = true) : i ∈ Region.ready .any ops l := by
  have hi : i < ops.size := (Array.getElem?_eq_some_iff.1 ho).1
  unfold Region.ready
  simp only [List.mem_filter, List.mem_range, Bool.and_eq_true, Bool.not_eq_true']
  refine ⟨hi, hl, ?_⟩
  rw [ho]
  simp only [Option.map_some, Option.getD_some, Array.all_eq_true_iff_forall_mem, Bool.or_eq_true, Bool.not_eq_true']
  intro e he
  by_cases hb : Region.binds .any e = true
  · exact .inr (h e (by simpa using he) hb)
  · left
    cases hx : Region.binds .any e
    · rfl
    · exact absurd hx hb

/-- From where on all that must come first has come. -/
theorem lateB (TO : TabOK P T) (CO : CallOK P call) {Q : Exit → Act → World → Prop} {p : Nat} {ancs fl tail reqs : List Nat} (hp : PlanB ops p ancs fl tail reqs) {s : St} {V : Nat → AV} {AD : Nat → List (Nat × Blk)} {tp : List AV} {adp : List (Nat × List (Nat × Blk))} (pr : Pre T call.q ops ancs s p V AD tp adp)
    (S : Nat → St) (hS0 : S 0 = ⟨tp, s.m ++ allA adp, s.nx + 16 * p⟩)
    (hS : ∀ k e : Nat, tail[k]? = some e → ∃ o, ops[e]? = some o ∧ stepA T call ops o (S k) = some (S (k + 1)) ∧ floOK T call.q ops s.nx tp (S (k + 1)) (fl.filter fun i => !(reqs.getD k 0).testBit i))
    (hF0 : floOK T call.q ops s.nx tp (S 0) fl) (hQ : ∀ a' w', Inv κ M0 A w0 (S tail.length) a' w' → Q .normal a' w') :
    ∀ (f : Nat) (l : Array Bool) (τ : Nat) (a : Act) (w : World) (μ : Locs) (I : Nat → Prop) (tL : List AV), l.size = ops.size → (∀ j, j < p → j ∉ fl → l.getD j false = true) →
      (∀ k e : Nat, tail[k]? = some e → (l.getD e false = true ↔ k < τ)) → τ ≤ tail.length →
      (∀ j, j < p → l.getD j false = true → ∀ j', (ancs.getD j 0).testBit j' = true → l.getD j' false = true) →
      (∀ k, k < τ → ∀ j, j < p → (reqs.getD k 0).testBit j = true → l.getD j false = true) → cnt l ops.size ≤ f →
      SR M0 A w0 w μ I (S τ).m → VRs w tL μ I a.tmps.toList → (a.defers = [] ∧ PinOK κ μ) → tL.length = (S τ).t.length →
      (∀ d, (∀ j, j < p → dstOf ops j = some d → l.getD j false = true) → tL[d]? = (S τ).t[d]?) →
      (∀ b, (S τ).nx ≤ b → μ b = none) → (∀ j, j < p → l.getD j false = false → ∀ b, s.nx + 16 * j ≤ b → b < s.nx + 16 * j + 16 → μ b = none) → wpAny P .any ops Q f l a w := by
  have hgd : ∀ (l : Array Bool) (j : Nat), l.size = ops.size → j < ops.size → (l.getD j true = false ↔ ¬ l.getD j false = true) := by
    intro l j hl hj
    simp only [Array.getD_eq_getD_getElem?, Array.getElem?_eq_getElem (show j < l.size by omega), Option.getD_some]
    cases l[j] <;> simp
  have hps := hp.pre.size
  -- what the tail leaves alone
  have hTk : ∀ k, k ≤ tail.length → (S k).t.length = tp.length ∧ s.nx + 16 * p ≤ (S k).nx ∧ ∀ d, (∀ e ∈ tail, dstOf ops e ≠ some d) → (S k).t[d]? = tp[d]? := by
    intro k
    induction k with
    | zero => intro _; rw [hS0]; exact ⟨rfl, Nat.le_refl _, fun d _ => rfl⟩
    | succ k ih =>
      intro hk
      obtain ⟨h1, h2, h3⟩ := ih (by omega)
      have hke := List.getElem?_eq_getElem (show k < tail.length by omega)
      obtain ⟨o, ho, hst, _⟩ := hS k _ hke
      obtain ⟨hn, v, hv⟩ := stepA_nx hst
      refine ⟨?_, by omega, fun d hd => ?_⟩
      · rw [hv]; unfold putA; split <;> simp [h1]
      · rw [hv, ← h3 d hd]
        unfold putA
        split
        · rename_i d' hd'
          rw [List.getElem?_set_ne]
          intro e
          subst e
          exact hd _ (List.getElem_mem (show k < tail.length by omega)) (by simp only [dstOf, ho, Option.bind_some]; exact hd')
        · rfl
  have htd : ∀ i ∈ fl, ∀ d, dstOf ops i = some d → ∀ e ∈ tail, dstOf ops e ≠ some d := by
    intro i hi d hd e he hed
    obtain ⟨k, hk⟩ := List.getElem?_of_mem he
    obtain ⟨o, ho, _⟩ := hp.op k e hk
    exact hp.dst k e o hk ho i hi d hd (by simpa only [dstOf, ho, Option.bind_some] using hed)
  have hfirst : ∀ i, i < p → i ∈ fl → ∃ o, ops[i]? = some o ∧ (wantedA ops tp o = some false → V i = .tup []) := by
    intro i hi hf
    obtain ⟨o, ti, adi, ho, htm, hadi, hval⟩ := pr.val i hi
    refine ⟨o, ho, fun hw => ?_⟩
    have hlook : ∀ d, d ∈ o.looksAt ops → ti[d]? = tp[d]? := by
      intro d hdl
      refine htm.look pr.tm fun j hj hjd => ?_
      have := (hp.flo i hf o ho d hdl).1 j hj hjd
      exact ⟨fun _ => hj, fun _ => hp.pre.low i j hi this⟩
    unfold valP at hval
    rw [wantedA_congr hlook, hw] at hval
    injection hval with hval; injection hval with h1 h2
    exact h1.symm
  intro f
  induction f with
  | zero =>
    intro l τ a w μ I tL hl hfirm htl hτ hcl hrq hf hSR ht hd hlen htm hid hidf
    have hall : ∀ j, j < ops.size → l.getD j true = true := cnt_zero _ (by omega)
    have hall' : ∀ j, j < ops.size → l.getD j false = true := fun j hj => by
      have := hall j hj
      apply Classical.byContradiction
      intro hc
      rw [(hgd l j hl hj).2 hc] at this; cases this
    have hτe : τ = tail.length := by
      rcases Nat.lt_or_ge τ tail.length with h | h
      · have hke := List.getElem?_eq_getElem h
        obtain ⟨o, ho, _⟩ := hp.op τ _ hke
        have hlt : tail[τ] < ops.size := (Array.getElem?_eq_some_iff.1 ho).1
        have := (htl τ _ hke).1 (hall' _ hlt)
        omega
      · omega
    refine ⟨?_, hQ _ _ ⟨μ, I, hτe ▸ hSR, ?_, hτe ▸ hid, hd⟩⟩
    · apply List.eq_nil_iff_forall_not_mem.2
      intro i hi
      obtain ⟨h1, h2, _⟩ := mem_ready hi
      rw [hall i h1] at h2; cases h2
    · have : tL = (S tail.length).t := by
        apply List.ext_getElem?
        intro d
        rw [← hτe]
        exact htm d fun j hj _ => hall' j (by omega)
      rw [← this]; exact ht
  | succ f ih =>
    intro l τ a w μ I tL hl hfirm htl hτ hcl hrq hf hSR ht hd hlen htm hid hidf
    refine ⟨fun hr => ?_, fun i hi => ?_⟩
    · -- none is left
      have hno : ∀ i, i < ops.size → l.getD i true = false → ∀ o, ops[i]? = some o → ¬ ∀ e ∈ o.after.toList, Region.binds .any e = true → l.getD e.on false = true := by
        intro i hi h1 o ho h2
        have := ready_iff ho h1 h2
        rw [hr] at this; cases this
      have hpre : ∀ n, ∀ j, j < n → j < p → l.getD j false = true := by
        intro n
        induction n with
        | zero => intro j h; omega
        | succ n ihn =>
          intro j h1 h2
          apply Classical.byContradiction
          intro hc
          have hjs : j < ops.size := by omega
          refine hno j hjs ((hgd l j hl hjs).2 hc) ops[j] (Array.getElem?_eq_getElem hjs) fun e he hb => ?_
          have hon : e.on < j := hp.pre.low j e.on h2 ((hp.pre.edge j ops[j] h2 (Array.getElem?_eq_getElem hjs) e.on).2 ⟨e, he, hb, .inl rfl⟩)
          exact ihn e.on (by omega) (by omega)
      have hτe : τ = tail.length := by
        rcases Nat.lt_or_ge τ tail.length with h | h
        · exfalso
          have hke := List.getElem?_eq_getElem h
          obtain ⟨o, ho, _⟩ := hp.op τ _ hke
          have hlt : tail[τ] < ops.size := (Array.getElem?_eq_some_iff.1 ho).1
          refine hno _ hlt ((hgd l _ hl hlt).2 fun hc => ?_) o ho fun e he hb => ?_
          · have := (htl τ _ hke).1 hc; omega
          · rcases hp.edges τ _ o hke ho e he hb with h1 | h1
            · exact hpre (e.on + 1) e.on (by omega) h1
            · obtain ⟨k, hk⟩ := List.getElem?_of_mem h1
              rw [List.getElem?_take] at hk
              split at hk
              · exact (htl k _ hk).2 (by omega)
              · cases hk
        · omega
      refine hQ _ _ ⟨μ, I, hτe ▸ hSR, ?_, hτe ▸ hid, hd⟩
      have : tL = (S tail.length).t := by
        apply List.ext_getElem?
        intro d
        rw [← hτe]
        exact htm d fun j hj _ => hpre (j + 1) j (by omega) hj
      rw [← this]; exact ht
    · obtain ⟨hin, hli, o, ho, hedges⟩ := mem_ready hi
      have hnot : ¬ l.getD i false = true := (hgd l i hl hin).1 hli
      have hil : i < l.size := by omega
      have hcnt : cnt (l.setIfInBounds i true) ops.size ≤ f := by
        have := cnt_set hil hli ops.size
        rw [if_pos hin] at this
        omega
      unfold wpOp
      rw [ho]
      simp only
      rcases Nat.lt_or_ge i p with hip | hip
      · -- one that may come late
        have hf : i ∈ fl := by
          apply Classical.byContradiction
          intro hc
          exact hnot (hfirm i hip hc)
        have hanc : ∀ j, (ancs.getD i 0).testBit j = true → l.getD j false = true := by
          intro j hj
          obtain ⟨e, he, hb, hor⟩ := (hp.pre.edge i o hip ho j).1 hj
          have h5 := hedges e he hb
          rcases hor with rfl | h6
          · exact h5
          · have : e.on < i := hp.pre.low i e.on hip ((hp.pre.edge i o hip ho e.on).2 ⟨e, he, hb, .inl rfl⟩)
            exact hcl e.on (by omega) h5 j h6
        obtain ⟨hTl, hTn, hTd⟩ := hTk τ hτ
        have hlook : ∀ d, d ∈ o.looksAt ops → (S τ).t[d]? = tL[d]? := by
          intro d hdl
          exact (htm d fun j hj hjd => hanc j ((hp.flo i hf o ho d hdl).1 j hj hjd)).symm
        have hlookp : ∀ d, d ∈ o.looksAt ops → tp[d]? = tL[d]? := by
          intro d hdl
          rw [← hlook d hdl]
          exact (hTd d fun e he => (hp.flo i hf o ho d hdl).2 e he).symm
        have hfact : wantedA ops tp o = some false ∨ (wantedA ops tp o = some true ∧ ∃ d, o.dst = some d ∧ qop T call.q (s.nx + 16 * i) (S τ).t (S τ).m o = some (tp.getD d (.tup []), [])) := by
          cases τ with
          | zero =>
            obtain ⟨o', ho', hh⟩ := floOK_mem hF0 i hf
            rw [ho] at ho'; injection ho' with e; subst e
            exact hh
          | succ k =>
            have hke := List.getElem?_eq_getElem (show k < tail.length by omega)
            obtain ⟨_, _, _, hfl⟩ := hS k _ hke
            have hmem : i ∈ fl.filter fun i => !(reqs.getD k 0).testBit i := by
              simp only [List.mem_filter, Bool.not_eq_true']
              refine ⟨hf, ?_⟩
              cases hb : (reqs.getD k 0).testBit i
              · rfl
              · exact absurd (hrq k (by omega) i hip hb) hnot
            obtain ⟨o', ho', hh⟩ := floOK_mem hfl i hmem
            rw [ho] at ho'; injection ho' with e; subst e
            exact hh
        have hidq : ∀ b, s.nx + 16 * i ≤ b → b < s.nx + 16 * i + 16 → μ b = none := by
          refine hidf i hip ?_
          cases hb : l.getD i false
          · rfl
          · exact absurd hb hnot
        obtain ⟨o1, ho1, hV⟩ := hfirst i hip hf
        rw [ho] at ho1; injection ho1 with e1; subst e1
        have hnext : ∀ (w' : World) (μ' : Locs) (I' : Nat → Prop) (x : Value) (v : AV), SR M0 A w0 w' μ' I' (S τ).m → Stays μ μ' I I' w w' → (∀ b, b < s.nx + 16 * i ∨ s.nx + 16 * i + 16 ≤ b → μ' b = μ b) → VR w' v μ' I' x →
            (∀ d, o.dst = some d → d < tp.length → v = V i) → wpAny P .any ops Q f (l.setIfInBounds i true) (a.put o.dst x) w' := by
          intro w' μ' I' x v hS' hst hid' hv hvi
          refine ih (l.setIfInBounds i true) τ (a.put o.dst x) w' μ' I' (putA tL o.dst v) (by simp [hl]) (fun j hj hjf => ?_) (fun k e hk => ?_) hτ (fun j hj hlj j' hj' => ?_) (fun k hk j hj hr => ?_) hcnt hS' (putA_ok (VRs.stays _ hst _ ht) hv _) (by rw [defers_put]; exact ⟨hd.1, hd.2.stays hst⟩) ?_ (fun d hdl => ?_) (fun b hb => ?_) (fun j hj hlj b h1 h2 => ?_)
          · rw [getD_set hil]; split
            · rfl
            · exact hfirm j hj hjf
          · rw [getD_set hil]
            obtain ⟨_, _, hpe, _⟩ := hp.op k e hk
            rw [if_neg (by omega)]
            exact htl k e hk
          · rw [getD_set hil] at hlj ⊢
            split
            · rfl
            · split at hlj
              · rename_i e; subst e; exact hanc j' hj'
              · exact hcl j hj hlj j' hj'
          · rw [getD_set hil]; split
            · rfl
            · exact hrq k hk j hj hr
          · unfold putA; split <;> simp [hlen]
          · by_cases hdd : o.dst = some d
            · rw [hdd]
              simp only [putA]
              have hdi : dstOf ops i = some d := by simp only [dstOf, ho, Option.bind_some]; exact hdd
              rw [hTd d (htd i hf d hdi)]
              by_cases hlt : d < tp.length
              · rw [List.getElem?_set_self (by omega), hvi d hdd hlt]
                exact (pr.tm.put i d hip hip hdi (by rw [← pr.tm.len]; exact hlt)).symm
              · rw [List.getElem?_eq_none (by simp; omega), List.getElem?_eq_none (by omega)]
            · have : (putA tL o.dst v)[d]? = tL[d]? := by
                unfold putA; split
                · rename_i d' hd'
                  rw [List.getElem?_set_ne (fun e => hdd (by rw [hd', e]))]
                · rfl
              rw [this]
              refine htm d fun j hj hjd => ?_
              have := hdl j hj hjd
              rw [getD_set hil] at this
              split at this
              · rename_i e; subst e
                exfalso
                simp only [dstOf, ho, Option.bind_some] at hjd
                exact hdd hjd
              · exact this
          · rw [hid' b (.inr (by omega))]; exact hid b hb
          · rw [getD_set hil] at hlj
            split at hlj
            · cases hlj
            · rename_i hne
              rw [hid' b (by omega)]; exact hidf j hj hlj b h1 h2
        rcases hfact with hw | ⟨hw, d, hdst, hq⟩
        · have hw' := hw
          rw [wantedA_congr hlookp] at hw
          rw [wantedA_ok ht hw, if_neg (by simp)]
          exact hnext w μ I undef (.tup []) hSR (Stays.refl _ _ _) (fun _ _ => rfl) undef_ok (fun _ _ _ => (hV hw').symm)
        · rw [wantedA_congr hlookp] at hw
          rw [wantedA_ok ht hw, if_pos rfl]
          have hqop' : qop T call.q (s.nx + 16 * i) tL (S τ).m o = some (tp.getD d (.tup []), []) := by
            rw [← hq]
            exact (qop_congr fun d hdm => hlook d (looks_operand hdm)).symm
          refine .inl (Upon.wp ?_)
          refine Upon.mono (qop_ok TO CO.q hSR (fun _ _ h => h) hidq ht hqop') fun y w' hy => ?_
          obtain ⟨μ', I', hst, hsr, hid', hv⟩ := hy
          rw [List.append_nil] at hsr
          refine hnext w' μ' I' y _ hsr hst hid' hv fun d' hd' hlt => ?_
          rw [hdst] at hd'; injection hd' with hd'; subst hd'
          have := pr.tm.put i d hip hip (by simp only [dstOf, ho, Option.bind_some]; exact hdst) (by rw [← pr.tm.len]; exact hlt)
          rw [List.getD_eq_getElem?_getD, this]; rfl
      · -- the tail's next one
        obtain ⟨k, hk⟩ := List.getElem?_of_mem (hp.all i hin hip)
        have hkτ : k = τ := by
          have h1 : ¬ k < τ := fun h => hnot ((htl k i hk).2 h)
          cases k with
          | zero => omega
          | succ k =>
            obtain ⟨ed, hed, hb, he⟩ := hp.next k i o hk ho
            have h2 := (htl k _ he).1 (hedges ed hed hb)
            omega
        subst hkτ
        have hklt : k < tail.length := (List.getElem?_eq_some_iff.1 hk).1
        obtain ⟨o', ho', hstep, _⟩ := hS k i hk
        rw [ho] at ho'; injection ho' with e; subst e
        have hasks : ∀ j, (asksB p ancs o).testBit j = true → l.getD j false = true := by
          intro j hj
          obtain ⟨e, he, hb, hlt, hor⟩ := (asksB_bit o j).1 hj
          have h5 := hedges e he hb
          rcases hor with rfl | h6
          · exact h5
          · exact hcl e.on hlt h5 j h6
        have hreq : ∀ j, j < p → (reqs.getD k 0).testBit j = true → l.getD j false = true := by
          intro j hj hr
          cases k with
          | zero => exact hasks j (hp.req0 i o hk ho j hj hr)
          | succ k =>
            rcases hp.req k i o hk ho j hj hr with h | h
            · exact hasks j h
            · exact hrq k (by omega) j hj h
        have hlook : ∀ d, d ∈ o.looksAt ops → (S k).t[d]? = tL[d]? := by
          intro d hdl
          refine (htm d fun j hj hjd => ?_).symm
          by_cases hjf : j ∈ fl
          · exact hreq j hj (hp.look k i o hk ho d hdl j hjf hjd)
          · exact hfirm j hj hjf
        have hnext : ∀ (w' : World) (μ' : Locs) (I' : Nat → Prop) (x : Value) (v : AV), (S (k + 1)).t = putA (S k).t o.dst v → SR M0 A w0 w' μ' I' (S (k + 1)).m → Stays μ μ' I I' w w' → (∀ b, b < (S k).nx ∨ (S (k + 1)).nx ≤ b → μ' b = μ b) → VR w' v μ' I' x →
            (S k).nx ≤ (S (k + 1)).nx → wpAny P .any ops Q f (l.setIfInBounds i true) (a.put o.dst x) w' := by
          intro w' μ' I' x v hst' hS' hst hid' hv hnx
          refine ih (l.setIfInBounds i true) (k + 1) (a.put o.dst x) w' μ' I' (putA tL o.dst v) (by simp [hl]) (fun j hj hjf => ?_) (fun k' e hk' => ?_) (by omega) (fun j hj hlj j' hj' => ?_) (fun k' hk' j hj hr => ?_) hcnt hS' (putA_ok (VRs.stays _ hst _ ht) hv _) (by rw [defers_put]; exact ⟨hd.1, hd.2.stays hst⟩) ?_ (fun d hdl => ?_) (fun b hb => ?_) (fun j hj hlj b h1 h2 => ?_)
          · rw [getD_set hil]; split
            · rfl
            · exact hfirm j hj hjf
          · rw [getD_set hil]
            by_cases he : e = i
            · subst he
              rw [if_pos rfl]
              refine ⟨fun _ => ?_, fun _ => rfl⟩
              -- the same place
              rcases Nat.lt_trichotomy k' k with h | h | h
              · omega
              · omega
              · exfalso
                obtain ⟨_, _, _, hn⟩ := hp.op k' e hk'
                apply hn
                refine List.mem_iff_getElem?.2 ⟨k, ?_⟩
                rw [List.getElem?_take, if_pos h]; exact hk
            · rw [if_neg he]
              rw [htl k' e hk']
              refine ⟨fun h => by omega, fun h => ?_⟩
              rcases Nat.lt_or_ge k' k with h' | h'
              · exact h'
              · exfalso
                have : k' = k := by omega
                subst this
                rw [hk] at hk'; injection hk' with hk'
                exact he hk'.symm
          · rw [getD_set hil] at hlj ⊢
            split
            · rfl
            · rw [if_neg (by omega)] at hlj
              exact hcl j hj hlj j' hj'
          · rw [getD_set hil, if_neg (by omega)]
            rcases Nat.lt_or_ge k' k with h' | h'
            · exact hrq k' h' j hj hr
            · have : k' = k := by omega
              subst this
              exact hreq j hj hr
          · rw [hst']; unfold putA; split <;> simp [hlen]
          · rw [hst']
            have hold : tL[d]? = (S k).t[d]? := htm d fun j hj hjd => by
              have := hdl j hj hjd
              rw [getD_set hil, if_neg (by omega)] at this
              exact this
            unfold putA; split
            · rename_i d' hd'
              by_cases e : d' = d
              · subst e
                by_cases hlt : d' < tL.length
                · rw [List.getElem?_set_self hlt, List.getElem?_set_self (by omega)]
                · rw [List.getElem?_eq_none (by simp; omega), List.getElem?_eq_none (by simp; omega)]
              · rw [List.getElem?_set_ne e, List.getElem?_set_ne e]; exact hold
            · exact hold
          · rw [hid' b (.inr hb)]; exact hid b (by omega)
          · rw [getD_set hil, if_neg (by omega)] at hlj
            have := (hTk k hτ).2.1
            rw [hid' b (.inl (by omega))]; exact hidf j hj hlj b h1 h2
        unfold stepA at hstep
        split at hstep
        · rename_i hw
          rw [wantedA_congr hlook] at hw
          rw [wantedA_ok ht hw, if_pos rfl]
          simp only [Option.map_eq_some_iff] at hstep
          obtain ⟨⟨v, m'⟩, he, hst⟩ := hstep
          have he' : eop T call (S k).nx tL (S k).m o = some (v, m') := by
            rw [← he]
            exact (eop_congr fun d hdm => hlook d (looks_operand hdm)).symm
          refine .inl (Upon.wp ?_)
          refine Upon.mono (eop_ok TO CO hSR (fun b h1 _ => hid b h1) ht he') fun x w' hx => ?_
          obtain ⟨μ', I', hst2, hsr, hid', hv⟩ := hx
          have e1 : (S (k + 1)).t = putA (S k).t o.dst v := by rw [← hst]
          have e2 : (S (k + 1)).m = m' := by rw [← hst]
          have e3 : (S (k + 1)).nx = (S k).nx + 16 := by rw [← hst]
          exact hnext w' μ' I' x v e1 (e2 ▸ hsr) hst2 (by rw [e3]; exact hid') hv (by omega)
        · rename_i hw
          rw [wantedA_congr hlook] at hw
          rw [wantedA_ok ht hw, if_neg (by simp)]
          injection hstep with hst
          have e1 : (S (k + 1)).t = putA (S k).t o.dst (.tup []) := by rw [← hst]
          have e2 : (S (k + 1)).m = (S k).m := by rw [← hst]
          have e3 : (S (k + 1)).nx = (S k).nx := by rw [← hst]
          exact hnext w μ I undef (.tup []) e1 (e2 ▸ hSR) (Stays.refl _ _ _) (fun _ _ => rfl) undef_ok (by omega)
        · cases hstep

theorem drawB_ok (TO : TabOK P T) (CO : CallOK P call) {Q : Exit → Act → World → Prop} {p : Nat} {ancs fl tail reqs : List Nat} (hpl : planB ops p ancs fl tail reqs = true) {s s' : St} (hI : Inv κ M0 A w0 s a w)
    (h : drawB T call ops p ancs fl tail reqs s = some s') (hQ : ∀ a' w', Inv κ M0 A w0 s' a' w' → Q .normal a' w') :
    wpAny P .any ops Q ops.size (Array.replicate ops.size false) a w := by
  have hp := planB_plan hpl
  unfold drawB at h
  split at h
  · cases h
  rename_i tp adp hpre
  split at h <;> try (cases h; done)
  rename_i hno
  split at h <;> try (cases h; done)
  rename_i hF0
  obtain ⟨V, AD, pr⟩ := preN_pre hp.pre hpre
  obtain ⟨S, hS0, hSe, hSt⟩ := tailB_states h
  have hQ' : ∀ a' w', Inv κ M0 A w0 (S tail.length) a' w' → Q .normal a' w' := by rw [hSe]; exact hQ
  have hF0' : floOK T call.q ops s.nx tp (S 0) fl := by rw [hS0]; exact hF0
  have late := lateB TO CO hp pr S hS0 hSt hF0' hQ'
  have hgd : ∀ (l : Array Bool) (j : Nat), l.size = ops.size → j < ops.size → (l.getD j true = false ↔ ¬ l.getD j false = true) := by
    intro l j hl hj
    simp only [Array.getD_eq_getD_getElem?, Array.getElem?_eq_getElem (show j < l.size by omega), Option.getD_some]
    cases l[j] <;> simp
  have hps := hp.pre.size
  have key : ∀ (f : Nat) (l : Array Bool) (a : Act) (w : World) (μ : Locs) (I : Nat → Prop) (mc : List (Nat × Blk)) (tL : List AV), l.size = ops.size → (∀ j, l.getD j false = true → j < p) →
      (∀ j, j < p → l.getD j false = true → ∀ j', (ancs.getD j 0).testBit j' = true → l.getD j' false = true) → cnt l ops.size ≤ f →
      SR M0 A w0 w μ I mc → VRs w tL μ I a.tmps.toList → (a.defers = [] ∧ PinOK κ μ) → Tm ops p V s.t (fun j => l.getD j false = true) tL →
      (∀ b B, look s.m b = some B → look mc b = some B) → (∀ j b B, l.getD j false = true → look (AD j) b = some B → look mc b = some B) →
      (∀ b, s.nx ≤ b → (∀ j, l.getD j false = true → b < s.nx + 16 * j ∨ s.nx + 16 * j + 16 ≤ b) → μ b = none) → wpAny P .any ops Q f l a w := by
    intro f
    have hall' : ∀ (f : Nat) (l : Array Bool) (a : Act) (w : World) (μ : Locs) (I : Nat → Prop) (mc : List (Nat × Blk)) (tL : List AV), l.size = ops.size → (∀ j, l.getD j false = true → j < p) →
      (∀ j, j < p → l.getD j false = true → ∀ j', (ancs.getD j 0).testBit j' = true → l.getD j' false = true) → cnt l ops.size ≤ f →
      SR M0 A w0 w μ I mc → VRs w tL μ I a.tmps.toList → (a.defers = [] ∧ PinOK κ μ) → Tm ops p V s.t (fun j => l.getD j false = true) tL →
      (∀ b B, look s.m b = some B → look mc b = some B) → (∀ j b B, l.getD j false = true → look (AD j) b = some B → look mc b = some B) →
      (∀ b, s.nx ≤ b → (∀ j, l.getD j false = true → b < s.nx + 16 * j ∨ s.nx + 16 * j + 16 ≤ b) → μ b = none) → (∀ j, j < p → j ∉ fl → l.getD j false = true) → wpAny P .any ops Q f l a w := by
      intro f l a w μ I mc tL hl hlp hcl hf hS ht hd hTm hm1 hm2 hid hall
      have h0 : (S 0).t = tp ∧ (S 0).nx = s.nx + 16 * p ∧ (S 0).m = s.m ++ allA adp := by rw [hS0]; exact ⟨rfl, rfl, rfl⟩
      refine late f l 0 a w μ I tL hl hall (fun k e hk => ⟨fun hc => ?_, fun hc => by omega⟩) (Nat.zero_le _) hcl (fun k hk => by omega) hf ?_ ht hd ?_ (fun d hdl => ?_) (fun b hb => ?_) (fun j hj hlj b h1 h2 => ?_)
      · obtain ⟨_, _, hpe, _⟩ := hp.op k e hk
        have := hlp e hc; omega
      · rw [h0.2.2]
        refine hS.sub fun b B hb => ?_
        rw [look_append] at hb
        split at hb
        · rename_i B' hB; injection hb with hb; subst hb; exact hm1 b _ hB
        · obtain ⟨j, x, h1, h2⟩ := look_allA hb
          obtain ⟨h3, h4⟩ := pr.ads j x h1
          exact hm2 j b B (hall j h3 (noFl_mem hno j x h1)) (h4 ▸ h2)
      · rw [h0.1, hTm.len, pr.tm.len]
      · rw [h0.1]
        exact hTm.look pr.tm fun j hj hjd => ⟨fun _ => hj, fun _ => hdl j hj hjd⟩
      · rw [h0.2.1] at hb
        refine hid b (by omega) fun j hj => ?_
        have := hlp j hj; omega
      · refine hid b (by omega) fun j' hj' => ?_
        by_cases e : j' = j
        · subst e; rw [hj'] at hlj; cases hlj
        · omega
    induction f with
    | zero =>
      intro l a w μ I mc tL hl hlp hcl hf hS ht hd hTm hm1 hm2 hid
      refine hall' 0 l a w μ I mc tL hl hlp hcl hf hS ht hd hTm hm1 hm2 hid fun j hj _ => ?_
      have := cnt_zero (l := l) ops.size (by omega) j (by omega)
      apply Classical.byContradiction
      intro hc
      rw [(hgd l j hl (by omega)).2 hc] at this; cases this
    | succ f ih =>
      intro l a w μ I mc tL hl hlp hcl hf hS ht hd hTm hm1 hm2 hid
      by_cases hall : ∀ j, j < p → j ∉ fl → l.getD j false = true
      · exact hall' (f + 1) l a w μ I mc tL hl hlp hcl hf hS ht hd hTm hm1 hm2 hid hall
      · have hready : ∀ i, i ∈ Region.ready .any ops l → i < p := by
          intro i hi
          obtain ⟨h1, h2, o, ho, h3⟩ := mem_ready hi
          rcases Nat.lt_or_ge i p with h4 | h4
          · exact h4
          · exfalso
            obtain ⟨k, hk⟩ := List.getElem?_of_mem (hp.all i h1 h4)
            cases k with
            | zero =>
              apply hall
              intro j hj hjf
              obtain ⟨e, he, hb, hlt, hor⟩ := (asksB_bit o j).1 (hp.firm i o hk ho j hj hjf)
              have h5 := h3 e he hb
              rcases hor with rfl | h6
              · exact h5
              · exact hcl e.on hlt h5 j h6
            | succ k =>
              obtain ⟨ed, hed, hb, he⟩ := hp.next k i o hk ho
              obtain ⟨_, _, hpe, _⟩ := hp.op k _ he
              have := hlp _ (h3 ed hed hb)
              omega
        refine ⟨fun hr => ?_, fun i hi => ?_⟩
        · exfalso
          have hno' : ∀ i, i < ops.size → l.getD i true = false → ∀ o, ops[i]? = some o → ¬ ∀ e ∈ o.after.toList, Region.binds .any e = true → l.getD e.on false = true := by
            intro i hi h1 o ho h2
            have := ready_iff ho h1 h2
            rw [hr] at this; cases this
          have hpre' : ∀ n, ∀ j, j < n → j < p → l.getD j false = true := by
            intro n
            induction n with
            | zero => intro j h; omega
            | succ n ihn =>
              intro j h1 h2
              apply Classical.byContradiction
              intro hc
              have hjs : j < ops.size := by omega
              refine hno' j hjs ((hgd l j hl hjs).2 hc) ops[j] (Array.getElem?_eq_getElem hjs) fun e he hb => ?_
              have hon : e.on < j := hp.pre.low j e.on h2 ((hp.pre.edge j ops[j] h2 (Array.getElem?_eq_getElem hjs) e.on).2 ⟨e, he, hb, .inl rfl⟩)
              exact ihn e.on (by omega) (by omega)
          exact hall fun j hj _ => hpre' (j + 1) j (by omega) hj
        · have hip := hready i hi
          obtain ⟨hin, hli, o, ho, hedges⟩ := mem_ready hi
          have hnot : ¬ l.getD i false = true := (hgd l i hl hin).1 hli
          obtain ⟨o', ti, adi, ho', htm, hadi, hval⟩ := pr.val i hip
          rw [ho] at ho'; injection ho' with e; subst e
          -- those ahead of it have been carried out
          have hanc : ∀ j, (ancs.getD i 0).testBit j = true → l.getD j false = true := by
            intro j hj
            obtain ⟨e, he, hb, hor⟩ := (hp.pre.edge i o hip ho j).1 hj
            have h5 := hedges e he hb
            rcases hor with rfl | h6
            · exact h5
            · exact hcl e.on (hlp _ h5) h5 j h6
          have hlook : ∀ d, d ∈ o.looksAt ops → ti[d]? = tL[d]? := by
            intro d hdl
            refine htm.look hTm fun j hj hjd => ?_
            by_cases hji : j = i
            · subst hji
              exact ⟨fun hx => by omega, fun hx => absurd hx hnot⟩
            · rcases hp.pre.looks i o hip ho d hdl j hj hji hjd with hb | hb
              · exact ⟨fun _ => hanc j hb, fun _ => hp.pre.low i j hip hb⟩
              · have := hp.pre.low j i hj hb
                exact ⟨fun _ => by omega, fun hlj => absurd (hcl j hj hlj i hb) hnot⟩
          have hidq : ∀ b, s.nx + 16 * i ≤ b → b < s.nx + 16 * i + 16 → μ b = none := by
            intro b h1 h2
            refine hid b (by omega) fun j hj => ?_
            by_cases hji : j = i
            · subst hji; exact absurd hj hnot
            · omega
          have hmv : ∀ b B, look (s.m ++ pickA (ancs.getD i 0) adi) b = some B → look mc b = some B := by
            intro b B hb
            rw [look_append] at hb
            split at hb
            · rename_i B' hB; injection hb with hb; subst hb; exact hm1 b _ hB
            · obtain ⟨j, x, h1, h2, h3⟩ := look_pickA hb
              obtain ⟨h4, h5⟩ := hadi j x h1
              exact hm2 j b B (hanc j h2) (h5 ▸ h3)
          -- what is left when it has been carried out
          have hnext : ∀ (a' : Act) (w' : World) (μ' : Locs) (I' : Nat → Prop) (x : Value), SR M0 A w0 w' μ' I' (mc ++ AD i) → Stays μ μ' I I' w w' → (∀ b, b < s.nx + 16 * i ∨ s.nx + 16 * i + 16 ≤ b → μ' b = μ b) → VR w' (V i) μ' I' x →
              idsIn (s.nx + 16 * i) (AD i) = true → wpAny P .any ops Q f (l.setIfInBounds i true) (a.put o.dst x) w' := by
            intro a' w' μ' I' x hS' hst hid' hv hids
            have hil : i < l.size := by omega
            refine ih (l.setIfInBounds i true) (a.put o.dst x) w' μ' I' (mc ++ AD i) (putA tL o.dst (V i)) (by simp [hl]) (fun j hj => ?_) (fun j hj hlj j' hj' => ?_) ?_ hS' (putA_ok (VRs.stays _ hst _ ht) hv _) (by rw [defers_put]; exact ⟨hd.1, hd.2.stays hst⟩) ?_ (fun b B hb => ?_) (fun j b B hj hb => ?_) (fun b hb hbj => ?_)
            · rw [getD_set hil] at hj
              split at hj
              · omega
              · exact hlp j hj
            · rw [getD_set hil] at hlj ⊢
              split
              · rfl
              · split at hlj
                · rename_i e; subst e; exact hanc j' hj'
                · exact hcl j hj hlj j' hj'
            · have := cnt_set hil hli ops.size
              rw [if_pos hin] at this
              omega
            · have := Tm.step hp.pre (L' := fun j => (l.setIfInBounds i true).getD j false = true) hip hTm hnot (fun j => by
                rw [getD_set hil]
                split
                · rename_i e; simp [e]
                · rename_i e; simp [e])
              simp only [dstOf, ho, Option.bind_some] at this
              exact this
            · rw [look_append, hm1 b B hb]
            · rw [look_append]
              rw [getD_set hil] at hj
              split at hj
              · rename_i e; subst e
                cases hlk : look mc b with
                | none => simpa using hb
                | some B' =>
                  exfalso
                  obtain ⟨h1, h2⟩ := idsIn_look hids hb
                  obtain ⟨lx, hlx, _⟩ := hS.blks b B' hlk
                  rw [hidq b h1 h2] at hlx; cases hlx
              · rw [hm2 j b B hj hb]
            · have h1 := hbj i (by rw [getD_set hil]; simp)
              rw [hid' b h1]
              refine hid b hb fun j hj => ?_
              refine hbj j ?_
              rw [getD_set hil]
              split
              · rfl
              · exact hj
          unfold wpOp
          rw [ho]
          simp only
          unfold valP at hval
          split at hval
          · rename_i hw
            rw [wantedA_congr hlook] at hw
            rw [wantedA_ok ht hw, if_pos rfl]
            split at hval
            · rename_i v x hqop
              split at hval
              · rename_i hids
                injection hval with hval; injection hval with h1 h2
                subst h1
                have hqop' : qop T call.q (s.nx + 16 * i) tL (s.m ++ pickA (ancs.getD i 0) adi) o = some (V i, x) := by
                  rw [← hqop]
                  exact (qop_congr fun d hdm => hlook d (looks_operand hdm)).symm
                refine .inl (Upon.wp ?_)
                refine Upon.mono (qop_ok TO CO.q hS hmv hidq ht hqop') fun y w' hy => ?_
                obtain ⟨μ', I', hst, hsr, hid', hv⟩ := hy
                rw [h2] at hsr hids
                exact hnext a w' μ' I' y hsr hst hid' hv hids
              · cases hval
            · cases hval
          · rename_i hw
            rw [wantedA_congr hlook] at hw
            rw [wantedA_ok ht hw, if_neg (by simp)]
            injection hval with hval; injection hval with h1 h2
            refine hnext a w μ I undef (by rw [← h2, List.append_nil]; exact hS) (Stays.refl _ _ _) (fun _ _ => rfl) (by rw [← h1]; exact undef_ok) (by rw [← h2]; rfl)
          · cases hval
  obtain ⟨μ, I, hS, ht, hn, hd⟩ := hI
  have hrep : ∀ j, (Array.replicate ops.size false).getD j false = false := by
    intro j
    simp only [Array.getD_eq_getD_getElem?, Array.getElem?_replicate]
    split <;> rfl
  refine key ops.size (Array.replicate ops.size false) a w μ I s.m s.t (by simp) (fun j hj => by rw [hrep] at hj; cases hj) (fun j _ hj => by rw [hrep] at hj; cases hj) ?_ hS ht hd ⟨rfl, fun j d _ hj => (by rw [hrep] at hj; cases hj), fun _ _ => rfl⟩ (fun _ _ h => h) (fun j _ _ hj => by rw [hrep] at hj; cases hj) (fun b hb _ => hn b hb)
  have hc : ∀ k, cnt (Array.replicate ops.size false) k ≤ k := by
    intro k
    induction k with
    | zero => simp [cnt]
    | succ k ih =>
      simp only [cnt]
      split <;> omega
  exact hc _
end
end Go.AM
end
