/- The abstract machine, part 19: functions; what is computed outright. -/
import Derived.Test.YtahbgblkinknoaaAMr
set_option linter.unusedVariables false
set_option linter.unusedSimpArgs false
set_option linter.unnecessarySimpa false
namespace Go.AM

/-- The state in which a call begins. -/
def start (fn : Func) (args : List AV) : St := ⟨args ++ List.replicate (fn.ntmps - args.length) (.tup []), [], 0⟩

/-- What is known of a function's regions and loops: in which order operations may come; which temporaries a loop needs (by the id of its first region). -/
structure Info where
  plan : Nat → Option (Nat × List Nat × List Nat)
  keep : Nat → Nat

def firstId : Code → Nat
  | .region id _ _ => id
  | .seq a _ => firstId a
  | .block _ c => firstId c
  | .loop c => firstId c
  | _ => 0
def iter (f : St → Option (Out × St)) (keep : Nat) : Nat → St → Option (Out × St)
  | 0, _ => none
  | n + 1, s => match f s with
    | some (.normal, s') => iter f keep n (canon keep s')
    | r => r
/-- So many numbers, from one on. -/
def up : Nat → Nat → List Nat
  | _, 0 => []
  | i, k + 1 => i :: up (i + 1) k
theorem up_range' : ∀ k i, up i k = List.range' i k
  | 0, i => rfl
  | k + 1, i => by simp only [up, up_range' k (i + 1)]; rfl
theorem up_range (n : Nat) : up 0 n = List.range n := by rw [up_range', List.range_eq_range']
def codeA (T : Tab) (call : Nat → List AV → Option AV) (i : Info) (n : Nat) : Code → St → Option (Out × St)
  | .skip, s => some (.normal, s)
  | .region _ ops false, s => (runL T call ops (up 0 ops.size) s).map fun s' => (.normal, s')
  | .region id ops true, s => match i.plan id with
    | some (p, ancs, tail) => (drawA T call ops p ancs tail s).map fun s' => (.normal, s')
    | none => none
  | .seq a b, s => match codeA T call i n a s with
    | some (.normal, s') => codeA T call i n b s'
    | r => r
  | .cond c a b, s => match ev s.t c with
    | .bool true => codeA T call i n a s
    | .bool false => codeA T call i n b s
    | _ => none
  | .block id c, s => match codeA T call i n c s with
    | some (.exit id', s') => if id' = id then some (.normal, s') else some (.exit id', s')
    | r => r
  | .loop c, s => iter (codeA T call i n c) (i.keep (firstId c)) n (canon (i.keep (firstId c)) s)
  | .exit id, s => some (.exit id, s)
  | .ret, s => some (.ret, s)
  | _, _ => none

/-- Every drawn region's plan is sound. -/
def plansOK (i : Info) : Code → Bool
  | .region id ops true => match i.plan id with
    | some (p, ancs, tail) => planOK ops p ancs tail
    | none => true
  | .seq a b => plansOK i a && plansOK i b
  | .cond _ a b => plansOK i a && plansOK i b
  | .block _ c => plansOK i c
  | .loop c => plansOK i c
  | _ => true

def isEnd : Out → Bool
  | .normal | .ret => true
  | _ => false
/-- A function's body, with these arguments. -/
def fnA (T : Tab) (call : Nat → List AV → Option AV) (i : Info) (n : Nat) (fn : Func) (args : List AV) : Option AV :=
  match fn.body with
  | some c => match codeA T call i n c (start fn args) with
    | some (o, s) => if isEnd o then retA T fn s else none
    | none => none
  | none => none
/-- A call, outright: fuel for calls in calls, for a loop's rounds. -/
def callN (T : Tab) (hook : Nat → List AV → Option AV) (info : Nat → Info) (n : Nat) : Nat → Nat → List AV → Option AV
  | 0, f, args => hook f args
  | k + 1, f, args => match hook f args with
    | some r => some r
    | none => match T.f f with
      | some fn => if fn.name == "runtime.NumGoroutine" then none else fnA T (callN T hook info n k) (info f) n fn args
      | none => none

section
variable {P : Program} {T : Tab} {M0 A : Nat → Prop} {w0 w w' : World} {call : Nat → List AV → Option AV}

theorem start_inv {fn : Func} {args : List AV} {vals : List Value} (hA : ∀ k, A k → k < w.heap.size) (hv : VRs w args noLocs A vals) :
    Inv noImm A w (start fn args) { tmps := vals.toArray ++ Array.replicate (fn.ntmps - vals.toArray.size) undef, defers := [] } w := by
  refine ⟨noLocs, A, ⟨fun b B h => by simp [start, look] at h, fun b b' B B' l l' h => by simp [start, look] at h, hA, fun _ h => h, fun _ h => .inl h, Keep.refl _ _⟩, ?_, fun _ _ => rfl, rfl⟩
  have hl := hv.length
  simp only [start, Array.toList_append, List.toList_toArray, Array.toList_replicate, List.size_toArray, hl]
  refine hv.append ?_
  refine VRs.of_get (by simp) fun j c x hc hx => ?_
  rw [List.getElem?_replicate] at hc hx
  split at hc
  · rename_i h
    rw [if_pos h] at hx
    injection hc with hc; injection hx with hx
    subst hc; subst hx
    exact undef_ok
  · cases hc

def resF (tmps : Array Value) : ResultVar → Sem Value
  | .tmp t => pure (tmps.getD t undef)
  | .cell a t => do loadVar t (← asAddr (tmps.getD a undef))
def oneV : List Value → Value
  | [v] => v
  | vs => .tuple vs.toArray

theorem resA_ok (TO : TabOK P T) {s : St} {a : Act} {μ : Locs} {I : Nat → Prop} (hS : SR M0 A w0 w μ I s.m) (ht : VRs w s.t μ I a.tmps.toList) : ∀ {rs : List ResultVar} {vs : List AV}, rs.mapM (resA T s) = some vs →
    ∃ xs, (rs.mapM (resF a.tmps)).run P w = .ok xs w ∧ VRs w vs μ I xs := by
  intro rs
  induction rs with
  | nil =>
    intro vs h
    simp at h
    subst h
    exact ⟨[], by simp, by simp [VRs]⟩
  | cons r rs ih =>
    intro vs h
    simp only [List.mapM_cons, Option.bind_eq_bind, Option.bind_eq_some_iff, Option.pure_def, Option.some.injEq] at h
    obtain ⟨v, hv, vs', hvs, rfl⟩ := h
    obtain ⟨xs, hx, hxs⟩ := ih hvs
    have htmp : ∀ t, VR w (s.t.getD t (.tup [])) μ I (a.tmps.getD t undef) := fun t => VR.ev ht (.tmp t)
    cases r with
    | tmp t =>
      simp only [resA] at hv
      injection hv with hv; subst hv
      refine ⟨a.tmps.getD t undef :: xs, ?_, VRs.cons (htmp t) hxs⟩
      simp only [List.mapM_cons, resF, Sem.run_bind, Sem.run_pure, Result.andThen_ok, hx]
    | cell ad ty =>
      simp only [resA] at hv
      obtain ⟨y, hy, hvy⟩ := loadA_ok (P := P) TO hS (fun _ _ h => h) hv (htmp ad)
      refine ⟨y :: xs, ?_, VRs.cons hvy hxs⟩
      obtain ⟨adr, hadr⟩ : ∃ adr, a.tmps.getD ad undef = .pointer (some adr) := by
        have hv' := hv
        unfold loadA at hv'
        split at hv'
        · rename_i d z by_ cs hu hz hr
          obtain ⟨adr, vs, hxe, _⟩ := reach_ok hS (fun _ _ h => h) hr (htmp ad)
          exact ⟨adr, hxe⟩
        · cases hv'
      rw [hadr] at hy
      simp only [Instr.loadAt, Instr.sureAddr, Sem.run_bind, Sem.run_pure, Result.andThen_ok] at hy
      have ha : (asAddr (a.tmps.getD ad undef)).run P w = .ok adr w := by rw [hadr]; simp [asAddr]
      have hr : (resF a.tmps (.cell ad ty)).run P w = .ok y w := by simp only [resF, Sem.run_bind, ha, Result.andThen_ok, hy]
      simp only [List.mapM_cons, Sem.run_bind, Sem.run_pure, Result.andThen_ok, hx, hr]

theorem retA_ok (TO : TabOK P T) {fn : Func} {s : St} {a : Act} {r : AV} (hI : Inv noImm A w0 s a w) (h : retA T fn s = some r) : ∃ x, (results fn a.tmps).run P w = .ok x w ∧ ∀ q, Fresh w0 w A q r x := by
  obtain ⟨μ, I, hS, ht, hn, hd⟩ := hI
  unfold retA at h
  split at h
  · cases h
  · rename_i vs hvs
    split at h
    · cases h
    · rename_i d bs hexp
      split at h
      · rename_i hap
        injection h with h; subst h
        obtain ⟨xs, hrun, hv⟩ := resA_ok (P := P) TO hS ht hvs
        have hl := hv.length
        have e : results fn a.tmps = (do let vs ← fn.results.mapM (resF a.tmps); pure (if h : vs.size = 1 then vs[0] else .tuple vs)) := rfl
        have hres : (results fn a.tmps).run P w = .ok (oneV xs) w := by
          rw [e]
          simp only [Array.mapM_eq_mapM_toList, Sem.run_bind, Sem.run_map, hrun, Result.andThen_ok, Sem.run_pure]
          match xs with
          | [] => rfl
          | [x] => rfl
          | x :: y :: r => simp [oneV]
        refine ⟨_, hres, fun q => ?_⟩
        have hvr : VR w (oneA vs) μ I (oneV xs) := by
          match vs, xs, hv with
          | [], xs, hv =>
            simp only [VRs] at hv; subst hv
            simp [VR, VRs, oneA, oneV]
          | [v], xs, hv =>
            simp only [VRs] at hv
            obtain ⟨x, _, rfl, hx, rfl⟩ := hv
            exact hx
          | v :: v' :: r, xs, hv =>
            have hv0 := hv
            simp only [VRs] at hv
            obtain ⟨x, _, rfl, hx, y, ys, rfl, _⟩ := hv
            simp only [VR, oneA, oneV]
            exact ⟨_, rfl, hv0⟩
        exact fresh_ok hS hexp hap hvr q
      · cases h

/-- A function is what the machine says of its body. -/
theorem told (TO : TabOK P T) (CO : CallOK P call) (hmix : P.follows .mixedOrders = true) {f : Nat} {fn : Func} {c : Code} (hf : P.funcs[f]? = some fn) (hb : fn.body = some c) {args : List AV} {o : Out} {s : St} {r : AV}
    (hev : Ev T call c (start fn args) o s) (ho : isEnd o = true) (hr : retA T fn s = some r) : Told P f args r := by
  intro A w vals hA hv
  refine calls_of_wp hf hb ((Ev_ok TO CO hmix (fun k hk => hk) hev).1 _ _ _ (start_inv hA hv) fun a' w' hI => ?_)
  obtain ⟨x, hx, hF⟩ := retA_ok TO hI hr
  have hd : a'.defers = [] := by obtain ⟨_, _, _, _, _, hd⟩ := hI; exact hd
  cases o with
  | normal => exact ⟨hd, x, hx, x, rfl, hF⟩
  | ret => exact ⟨hd, x, hx, x, rfl, hF⟩
  | exit id => cases ho

theorem iter_ev {f : St → Option (Out × St)} {keep : Nat} {c : Code} (hf : ∀ s o s', f s = some (o, s') → Ev T call c s o s') : ∀ n s o s', iter f keep n s = some (o, s') → Ev T call (.loop c) s o s'
  | 0, s, o, s', h => by cases h
  | n + 1, s, o, s', h => by
    simp only [iter] at h
    split at h
    · rename_i s1 h1
      exact .again (.then (hf _ _ _ h1) (canon_weak keep s1)) (iter_ev hf n _ _ _ h)
    · rename_i h1
      refine .done (fun e => ?_) (hf _ _ _ h)
      subst e
      exact h1 s' h

/-- A loop that goes round N times and then ends. -/
theorem iter_rounds {f : St → Option (Out × St)} {keep : Nat} (C : Nat → St) {o : Out} {E : St} (ho : o ≠ .normal) : ∀ (N j : Nat), (∀ i, i < N → (f (C (j + i))).map (fun r => (r.1, canon keep r.2)) = some (.normal, C (j + i + 1))) → f (C (j + N)) = some (o, E) →
    ∀ k, iter f keep (N + k + 1) (C j) = some (o, E)
  | 0, j, _, h, k => by
    have h' : f (C j) = some (o, E) := h
    rw [show 0 + k + 1 = k + 1 by omega]
    simp only [iter, h']
    cases o with
    | normal => exact absurd rfl ho
    | _ => rfl
  | N + 1, j, hs, h, k => by
    have h0 := hs 0 (by omega)
    simp only [Nat.add_zero, Option.map_eq_some_iff, Prod.mk.injEq] at h0
    obtain ⟨⟨o', s'⟩, h1, h2, h3⟩ := h0
    simp only at h2 h3
    subst h2
    rw [show N + 1 + k + 1 = (N + k + 1) + 1 by omega]
    rw [iter]
    simp only [h1, h3]
    refine iter_rounds C ho N (j + 1) (fun i hi => ?_) ?_ k
    · have := hs (i + 1) (by omega)
      rw [show j + 1 + i = j + (i + 1) by omega]; exact this
    · rw [show j + 1 + N = j + (N + 1) by omega]; exact h

theorem codeA_ev {i : Info} {n : Nat} : ∀ (c : Code) (s : St) (o : Out) (s' : St), plansOK i c = true → codeA T call i n c s = some (o, s') → Ev T call c s o s' := by
  intro c
  induction c <;> intro s o s' hp h
  case skip => simp only [codeA] at h; injection h with h; injection h with h1 h2; subst h1; subst h2; exact .skip
  case region id ops d =>
    cases d
    · simp only [codeA, Option.map_eq_some_iff, Prod.mk.injEq] at h
      obtain ⟨s1, h, rfl, rfl⟩ := h
      rw [up_range] at h
      exact .line h
    · simp only [codeA] at h
      simp only [plansOK] at hp
      split at h
      · rename_i p ancs tail hpl
        rw [hpl] at hp
        simp only [Option.map_eq_some_iff, Prod.mk.injEq] at h
        obtain ⟨s1, h, rfl, rfl⟩ := h
        exact .draw p ancs tail hp h
      · cases h
  case seq a b iha ihb =>
    simp only [plansOK, Bool.and_eq_true] at hp
    simp only [codeA] at h
    split at h
    · rename_i s1 h1
      exact .seq (iha _ _ _ hp.1 h1) (ihb _ _ _ hp.2 h)
    · rename_i h1
      exact .cut (fun e => by subst e; exact h1 s' h) (iha _ _ _ hp.1 h)
  case cond c a b iha ihb =>
    simp only [plansOK, Bool.and_eq_true] at hp
    simp only [codeA] at h
    split at h
    · rename_i hc; exact .yes hc (iha _ _ _ hp.1 h)
    · rename_i hc; exact .no hc (ihb _ _ _ hp.2 h)
    · cases h
  case block id c ih =>
    simp only [plansOK] at hp
    simp only [codeA] at h
    split at h
    · rename_i id' s1 h1
      split at h
      · rename_i e; subst e
        injection h with h; injection h with h2 h3; subst h2; subst h3
        exact .out (ih _ _ _ hp h1)
      · rename_i hne
        injection h with h; injection h with h2 h3; subst h2; subst h3
        exact .block (fun e => by injection e with e; exact hne e) (ih _ _ _ hp h1)
    · rename_i h1
      exact .block (fun e => by subst e; exact h1 _ _ h) (ih _ _ _ hp h)
  case loop c ih =>
    simp only [plansOK] at hp
    simp only [codeA] at h
    exact .weak (canon_weak _ s) (iter_ev (fun s o s' h => ih s o s' hp h) n _ o s' h)
  case exit id => simp only [codeA] at h; injection h with h; injection h with h1 h2; subst h1; subst h2; exact .exit
  case ret => simp only [codeA] at h; injection h with h; injection h with h1 h2; subst h1; subst h2; exact .ret
  all_goals (simp only [codeA] at h; cases h)

/-- A function, told. -/
theorem told_fn (TO : TabOK P T) (CO : CallOK P call) (hmix : P.follows .mixedOrders = true) {f : Nat} {fn : Func} {i : Info} {n : Nat} {args : List AV} {r : AV} (hf : P.funcs[f]? = some fn)
    (hp : (fn.body.map (plansOK i)).getD true = true) (h : fnA T call i n fn args = some r) : Told P f args r := by
  unfold fnA at h
  split at h
  · rename_i c hc
    rw [hc] at hp
    split at h
    · rename_i o s hs
      split at h
      · rename_i ho
        exact told TO CO hmix hf hc (codeA_ev c _ _ _ hp hs) ho h
      · cases h
    · cases h
  · cases h

theorem callN_ok {hook : Nat → List AV → Option AV} {info : Nat → Info} (TO : TabOK P T) (HO : CallOK P hook) (hmix : P.follows .mixedOrders = true)
    (hpl : ∀ f fn, T.f f = some fn → (fn.body.map (plansOK (info f))).getD true = true) (n : Nat) : ∀ k, CallOK P (callN T hook info n k)
  | 0 => HO
  | k + 1 => by
    intro f args r h
    simp only [callN] at h
    split at h
    · rename_i r' hr
      injection h with h; subst h
      exact HO f args _ hr
    · split at h
      · rename_i fn hfn
        split at h
        · cases h
        · rename_i hnm
          obtain ⟨hf, hb⟩ := TO.f f fn hfn
          exact ⟨told_fn TO (callN_ok TO HO hmix hpl n k) hmix hf (hpl f fn hfn) h, fn, hf, hb, by simpa using hnm⟩
      · cases h
end
end Go.AM
