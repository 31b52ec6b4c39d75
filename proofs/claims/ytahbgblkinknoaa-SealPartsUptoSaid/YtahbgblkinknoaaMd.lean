import Derived.Test.YtahbgblkinknoaaMc
import Derived.LoopN
import Derived.Laws.StructEq
/- Several texts in one. -/
section
/- The abstract machine, part 16: code. -/
set_option linter.unusedVariables false
set_option linter.unusedSimpArgs false
set_option linter.unnecessarySimpa false
namespace Go.AM

inductive Out where
  | normal
  | ret
  | exit (id : Nat)
def Out.to : Out → Exit
  | .normal => .normal
  | .ret => .ret
  | .exit id => .exit id

/-- What holds of a state holds of the other. -/
def Weak (k : Nat) (s s1 : St) : Prop := ∀ (κ : Pin) (M0 A : Nat → Prop) (w0 : World) (a : Act) (w : World), κ.k = k → Inv κ M0 A w0 s a w → Inv κ M0 A w0 s1 a w

section
variable (T : Tab) (call : Know) (k : Nat)
/-- Code comes from a state to another. -/
inductive Ev : Code → St → Out → St → Prop
  | skip {s} : Ev .skip s .normal s
  | line {id ops s s'} : runL T call ops (List.range ops.size) s = some s' → Ev (.region id ops false) s .normal s'
  | draw {id ops s s'} (p : Nat) (ancs tail : List Nat) : planOK ops p ancs tail = true → drawA T call ops p ancs tail s = some s' → Ev (.region id ops true) s .normal s'
  | late {id ops s s'} (p : Nat) (ancs fl tail reqs : List Nat) : planB ops p ancs fl tail reqs = true → drawB T call ops p ancs fl tail reqs s = some s' → Ev (.region id ops true) s .normal s'
  | seq {a b s s1 o s2} : Ev a s .normal s1 → Ev b s1 o s2 → Ev (.seq a b) s o s2
  | cut {a b s o s1} : o ≠ .normal → Ev a s o s1 → Ev (.seq a b) s o s1
  | yes {c a b s o s1} : ev s.t c = .bool true → Ev a s o s1 → Ev (.cond c a b) s o s1
  | no {c a b s o s1} : ev s.t c = .bool false → Ev b s o s1 → Ev (.cond c a b) s o s1
  | out {id c s s1} : Ev c s (.exit id) s1 → Ev (.block id c) s .normal s1
  | block {id c s o s1} : o ≠ .exit id → Ev c s o s1 → Ev (.block id c) s o s1
  | again {c s s1 o s2} : Ev c s .normal s1 → Ev (.loop c) s1 o s2 → Ev (.loop c) s o s2
  | done {c s o s1} : o ≠ .normal → Ev c s o s1 → Ev (.loop c) s o s1
  | exit {id s} : Ev (.exit id) s (.exit id) s
  | ret {s} : Ev .ret s .ret s
  | weak {c s s1 o s2} : Weak k s s1 → Ev c s1 o s2 → Ev c s o s2
  | then {c s o s1 s2} : Ev c s o s1 → Weak k s1 s2 → Ev c s o s2
end

section
variable {κ : Pin} {P : Program} {T : Tab} {M0 A : Nat → Prop} {w0 w w' : World} {call : Know}

theorem Inv.drew {s : St} {a : Act} (h : Inv κ M0 A w0 s a w) : Inv κ M0 A w0 s a { w with drawn := w.drawn + 1 } := by
  obtain ⟨μ, I, hS, ht, hn, hd⟩ := h
  have hk : Keep noImm w w.drew := Keep.drew w
  exact ⟨μ, I, hS.keeps hk, VRs.stays _ (hS.stays hk) _ ht, hn, hd⟩

theorem rounds_mono {c : Code} {Q Q' : Exit → Act → World → Prop} (hq : ∀ e a w, Q e a w → Q' e a w) : ∀ n a w, Code.rounds P c Q n a w → Code.rounds P c Q' n a w
  | 0, _, _, h => h.elim
  | n + 1, a, w, h => wp_mono h fun e a w he => by
    cases e with
    | normal => exact rounds_mono hq n a w he
    | _ => exact hq _ _ _ he

def LoopOf : Code → Option Code
  | .loop c => some c
  | _ => none

theorem Ev_ok (TO : TabOK P T) (CO : CallOK P call) (hmix : P.follows .mixedOrders = true) {c : Code} {s s' : St} {o : Out} (h : Ev T call κ.k c s o s') :
    (∀ (Q : Exit → Act → World → Prop) (a : Act) (w : World), Inv κ M0 A w0 s a w → (∀ a' w', Inv κ M0 A w0 s' a' w' → Q o.to a' w') → c.wp P Q a w) ∧
    (∀ b, LoopOf c = some b → ∃ n, ∀ (Q : Exit → Act → World → Prop) (a : Act) (w : World), Inv κ M0 A w0 s a w → (∀ a' w', Inv κ M0 A w0 s' a' w' → Q o.to a' w') → Code.rounds P b Q n a w) := by
  induction h with
  | skip => exact ⟨fun Q a w hI hQ => wp_skip (hQ _ _ hI), fun b hb => by cases hb⟩
  | line h =>
    exact ⟨fun Q a w hI hQ => wp_region (runL_ok TO CO _ hI h hQ), fun b hb => by cases hb⟩
  | draw p ancs tail hp h =>
    exact ⟨fun Q a w hI hQ => wp_region_any hmix (drawA_ok TO CO hp hI.drew h hQ), fun b hb => by cases hb⟩
  | late p ancs fl tail reqs hp h =>
    exact ⟨fun Q a w hI hQ => wp_region_any hmix (drawB_ok TO CO hp hI.drew h hQ), fun b hb => by cases hb⟩
  | seq _ _ iha ihb =>
    exact ⟨fun Q a w hI hQ => wp_seq (iha.1 _ a w hI fun a' w' hI' => ihb.1 Q a' w' hI' hQ), fun b hb => by cases hb⟩
  | @cut ca cb s o s1 hne _ iha =>
    refine ⟨fun Q a w hI hQ => wp_seq (iha.1 _ a w hI fun a' w' hI' => ?_), fun b hb => by cases hb⟩
    cases o with
    | normal => exact absurd rfl hne
    | ret => exact hQ _ _ hI'
    | exit id => exact hQ _ _ hI'
  | @yes x ca cb s o s1 hc _ iha =>
    refine ⟨fun Q a w hI hQ => wp_cond_true ?_ (iha.1 Q a w hI hQ), fun b hb => by cases hb⟩
    obtain ⟨μ, I, hS, ht, hn, hd⟩ := hI
    have := VR.ev ht x
    rw [hc] at this
    simpa only [VR] using this
  | @no x ca cb s o s1 hc _ iha =>
    refine ⟨fun Q a w hI hQ => wp_cond_false ?_ (iha.1 Q a w hI hQ), fun b hb => by cases hb⟩
    obtain ⟨μ, I, hS, ht, hn, hd⟩ := hI
    have := VR.ev ht x
    rw [hc] at this
    simpa only [VR] using this
  | out _ iha =>
    refine ⟨fun Q a w hI hQ => wp_block (iha.1 _ a w hI fun a' w' hI' => ?_), fun b hb => by cases hb⟩
    simp only [Out.to, Exit.inBlock, if_true]
    exact hQ _ _ hI'
  | @block id c s o s1 hne _ iha =>
    refine ⟨fun Q a w hI hQ => wp_block (iha.1 _ a w hI fun a' w' hI' => ?_), fun b hb => by cases hb⟩
    cases o with
    | normal => exact hQ _ _ hI'
    | ret => exact hQ _ _ hI'
    | exit id' =>
      simp only [Out.to, Exit.inBlock]
      rw [if_neg (fun e => hne (by rw [e]))]
      exact hQ _ _ hI'
  | again _ _ iha ihb =>
    obtain ⟨n, hn⟩ := ihb.2 _ rfl
    have key : ∀ (Q : Exit → Act → World → Prop) (a : Act) (w : World), Inv κ M0 A w0 _ a w → _ → Code.rounds P _ Q (n + 1) a w :=
      fun Q a w hI hQ => iha.1 _ a w hI fun a' w' hI' => hn Q a' w' hI' hQ
    exact ⟨fun Q a w hI hQ => wp_loop_rounds (n + 1) (key Q a w hI hQ), fun b hb => by injection hb with hb; subst hb; exact ⟨n + 1, key⟩⟩
  | @done c s o s1 hne _ iha =>
    have key : ∀ (Q : Exit → Act → World → Prop) (a : Act) (w : World), Inv κ M0 A w0 s a w → (∀ a' w', Inv κ M0 A w0 s1 a' w' → Q o.to a' w') → Code.rounds P c Q 1 a w :=
      fun Q a w hI hQ => iha.1 _ a w hI fun a' w' hI' => by
        cases o with
        | normal => exact absurd rfl hne
        | ret => exact hQ _ _ hI'
        | exit id => exact hQ _ _ hI'
    exact ⟨fun Q a w hI hQ => wp_loop_rounds 1 (key Q a w hI hQ), fun b hb => by injection hb with hb; subst hb; exact ⟨1, key⟩⟩
  | exit => exact ⟨fun Q a w hI hQ => wp_exit (hQ _ _ hI), fun b hb => by cases hb⟩
  | ret => exact ⟨fun Q a w hI hQ => wp_ret (hQ _ _ hI), fun b hb => by cases hb⟩
  | weak hw _ ih =>
    refine ⟨fun Q a w hI hQ => ih.1 Q a w (hw _ _ _ _ _ _ rfl hI) hQ, fun b hb => ?_⟩
    obtain ⟨n, hn⟩ := ih.2 b hb
    exact ⟨n, fun Q a w hI hQ => hn Q a w (hw _ _ _ _ _ _ rfl hI) hQ⟩
  | «then» _ hw ih =>
    refine ⟨fun Q a w hI hQ => ih.1 Q a w hI fun a' w' hI' => hQ a' w' (hw _ _ _ _ _ _ rfl hI'), fun b hb => ?_⟩
    obtain ⟨n, hn⟩ := ih.2 b hb
    exact ⟨n, fun Q a w hI hQ => hn Q a w hI fun a' w' hI' => hQ a' w' (hw _ _ _ _ _ _ rfl hI')⟩
end
end Go.AM
end
section
/- The abstract machine, part 17: states that say less; what is handed back; functions. -/
set_option linter.unusedVariables false
set_option linter.unusedSimpArgs false
set_option linter.unnecessarySimpa false
namespace Go.AM

def mask : Nat → List AV → List AV
  | _, [] => []
  | keep, c :: cs => (if keep % 2 = 1 then c else .any) :: mask (keep / 2) cs
/-- So many numbers, from one on. -/
def up : Nat → Nat → List Nat
  | _, 0 => []
  | i, k + 1 => i :: up (i + 1) k
theorem up_range' : ∀ k i, up i k = List.range' i k
  | 0, i => rfl
  | k + 1, i => by simp only [up, up_range' k (i + 1)]; rfl
theorem up_range (n : Nat) : up 0 n = List.range n := by rw [up_range', List.range_eq_range']
def idsOf (k : Nat) (m : List (Nat × Blk)) (t : List AV) : List Nat :=
  match k with
  | 0 => ded ((t.flatMap (refs m 4)).filter fun b => (look m b).isSome)
  | k => up 0 k ++ (ded ((t.flatMap (refs m 4) ++ ((up 0 k).flatMap fun b => refs m 5 (.ptr b 0))).filter fun b => (look m b).isSome)).filter fun b => decide (k ≤ b)
/-- Some temporaries are forgotten, the own blocks that are left are numbered anew; the first k keep their names. -/
def canon (k keep : Nat) (s : St) : St :=
  let t := mask keep s.t
  let ids := idsOf k s.m t
  ⟨t.map (renC (pos ids) 4), renM (pos ids) s.m 0 ids, ids.length⟩
theorem idsOf_nodup (k : Nat) (m : List (Nat × Blk)) (t : List AV) : (idsOf k m t).Nodup := by
  unfold idsOf
  split
  · exact ded_nodup _
  · rw [up_range]
    refine List.nodup_append.2 ⟨List.nodup_range, (ded_nodup _).filter _, fun a ha b hb e => ?_⟩
    subst e
    simp only [List.mem_range] at ha
    simp only [List.mem_filter, decide_eq_true_eq] at hb
    omega
theorem idsOf_pin {k : Nat} {m : List (Nat × Blk)} {t : List AV} {b : Nat} (h : b < k) : (idsOf k m t)[b]? = some b := by
  unfold idsOf
  split
  · omega
  · rw [up_range, List.getElem?_append_left (by simpa using h)]
    simp [h]

/-- A row's cells are closed: what they name is frozen. -/
def closeB (b : Nat) (m : List (Nat × Blk)) : Option (List (Nat × Blk)) :=
  match look m b with
  | some B => if B.kd ≤ 1 then some m else match deepA m B.cs B.kd with
    | some (news, kd', ids) => if ids.contains b then none else some (upd (frz ids m) b ⟨news, kd', B.fz⟩)
    | none => none
  | none => none

section
variable {P : Program} {T : Tab} {M0 A : Nat → Prop} {w0 w w' : World} {μ μ' : Locs} {I I' : Nat → Prop} {m m' mv : List (Nat × Blk)} {q : Nat} {o : Oper} {a : Act} {t t' : List AV} {call : Know} {ops : Array Oper}

theorem mask_ok : ∀ (keep : Nat) (cs : List AV) (vs : List Value), VRs w cs μ I vs → VRs w (mask keep cs) μ I vs
  | _, [], vs, h => h
  | keep, c :: cs, vs, h => by
    simp only [VRs] at h
    obtain ⟨x, xs, rfl, h1, h2⟩ := h
    simp only [mask]
    refine VRs.cons ?_ (mask_ok (keep / 2) cs xs h2)
    split
    · exact h1
    · simp only [VR]

theorem canon_weak (k keep : Nat) (s : St) : Weak k s (canon k keep s) := by
  intro κ M0 A w0 a w hκ ⟨μ, I, hS, ht, hn, hd⟩
  have hnd : (idsOf k s.m (mask keep s.t)).Nodup := idsOf_nodup _ _ _
  refine ⟨fun n => ((idsOf k s.m (mask keep s.t))[n]?).bind μ, I, ⟨fun j B' hb => ?_, fun j j' B' B'' l l' hb hb' hne hfz hl hl' hn hn' => ?_, hS.immLt, hS.immA, hS.immN, hS.keep⟩, ?_, fun b hb => ?_, hd.1, fun b l hb hl => by
    show ((idsOf k s.m (mask keep s.t))[b]?).bind μ = some l
    rw [idsOf_pin (hκ ▸ hb)]; exact hd.2 b l hb hl⟩
  · obtain ⟨i, b, B, rfl, hi, hB, rfl⟩ := look_renM hb
    obtain ⟨l, hl, hBO⟩ := hS.blks b B hB
    refine ⟨l, by simp only [Nat.zero_add, hi, Option.bind_some]; exact hl, ?_⟩
    rcases hBO with ⟨h1, h2⟩ | ⟨h1, ⟨C, ct, fr, vs, a1, a2, a3, a4, a5, a6, a7⟩, h3, h4⟩
    · refine .inl ⟨h1, ?_⟩
      simp [h2]
    · have hlen : (if B.kd ≤ 1 then B.cs else B.cs.map (renC (pos (idsOf k s.m (mask keep s.t))) 4)).length = B.cs.length := by split <;> simp
      refine .inr ⟨h1, ⟨C, ct, fr, vs, a1, a2, a3, by simp only [hlen]; exact a4, by simp only [hlen]; exact a5, ?_, a7⟩, h3, h4⟩
      by_cases hk : B.kd ≤ 1
      · simp only [hk, if_true]
        unfold kμ at a6 ⊢
        rw [if_pos hk] at a6 ⊢
        exact a6
      · simp only [hk, if_false]
        have e1 : ∀ μ : Locs, kμ B.kd μ = μ := fun μ => by unfold kμ; rw [if_neg hk]
        rw [e1] at a6 ⊢
        exact renL_ok 4 _ _ a6
  · obtain ⟨i, b, B, rfl, hi, hB, rfl⟩ := look_renM hb
    obtain ⟨i', b', B2, rfl, hi', hB2, rfl⟩ := look_renM hb'
    simp only [Nat.zero_add, hi, hi', Option.bind_some] at hl hl'
    refine hS.inj b b' B B2 l l' hB hB2 (fun e => ?_) hfz hl hl' hn hn'
    subst e
    apply hne
    have h1 : i < (idsOf k s.m (mask keep s.t)).length := (List.getElem?_eq_some_iff.1 hi).1
    have := (List.getElem?_inj h1 hnd).1 (hi.trans hi'.symm)
    omega
  · exact renL_ok 4 _ _ (mask_ok keep _ _ ht)
  · have hb' : (idsOf k s.m (mask keep s.t)).length ≤ b := hb
    simp only [List.getElem?_eq_none hb', Option.bind_none]

theorem closeB_weak {k b : Nat} {s : St} {m' : List (Nat × Blk)} (h : closeB b s.m = some m') : Weak k s ⟨s.t, m', s.nx⟩ := by
  intro κ M0 A w0 a w hκ ⟨μ, I, hS, ht, hn, hd⟩
  unfold closeB at h
  split at h
  · rename_i B hB
    split at h
    · injection h with h; subst h
      exact ⟨μ, I, hS, ht, hn, hd⟩
    · rename_i hk
      split at h
      · rename_i news kd' ids hdeep
        split at h
        · cases h
        · rename_i hc
          injection h with h; subst h
          -- the cells, as they are in memory
          obtain ⟨l, hl, hBO⟩ := hS.blks b B hB
          rcases hBO with ⟨h1, h2⟩ | ⟨h1, ⟨C, ct, fr, vs, a1, a2, a3, a4, a5, a6, a7⟩, h3, h4⟩
          · have hd0 : deepA s.m B.cs B.kd = some ([], 0, []) := by
              unfold deepA
              rw [if_neg hk, h2]
              simp [kdL]
            rw [hd0] at hdeep
            injection hdeep with e; injection e with e1 e2; injection e2 with e2 e3
            subst e1; subst e2; subst e3
            obtain ⟨I', S, hS', _⟩ := hS.freeze []
            have hB2 : look (frz [] s.m) b = some B := by rw [look_frz, hB]; simp
            refine ⟨μ, I', hS'.swap hB2 rfl (fun _ => rfl) (fun l' hl' hH => ?_), VRs.stays _ S _ ht, hn, hd⟩
            rw [hl] at hl'; injection hl' with e; subst e
            obtain ⟨C, ct, fr, vs, a1, a2, a3, a4, a5, a6, a7⟩ := hH
            refine ⟨C, ct, fr, [], a1, a2, a3, (by simp; omega), (fun e => by cases e), (by simp [VRs]), (fun j x hx => by simp at hx)⟩
          · obtain ⟨I', S, hS', hnv, hkd'⟩ := deepA_ok hS hdeep a6
            have hB2 : look (frz ids s.m) b = some B := by rw [look_frz, hB]; simp only [Option.map_some]; rw [if_neg hc]
            have hnl := hnv.length
            have hvl := a6.length
            refine ⟨μ, I', hS'.swap hB2 rfl (fun e => ?_) (fun l' hl' hH => ?_), VRs.stays _ S _ ht, hn, hd⟩
            · have : news.length = 0 := by rw [← hnl, hvl, e]; rfl
              exact List.eq_nil_of_length_eq_zero this
            · rw [hl] at hl'; injection hl' with e; subst e
              refine ⟨C, ct, fr, vs, a1, a2, a3, by show l.base + news.length ≤ l.lim; omega, fun e => ?_, ?_, a7⟩
              · have e' : kd' = 2 := e
                omega
              · show VRs w news (kμ kd' μ) (kI kd' I') vs
                unfold kμ; rw [if_pos hkd']; exact hnv
      · cases h
  · cases h
end
end Go.AM
end
section
/- The abstract machine, part 18: what is handed back; functions. -/
set_option linter.unusedVariables false
set_option linter.unusedSimpArgs false
set_option linter.unnecessarySimpa false
namespace Go.AM

def fzIds (m : List (Nat × Blk)) : List Nat := (m.map (·.1)).filter fun k => match look m k with
  | some B => B.fz
  | none => false
def onlyFz (m : List (Nat × Blk)) : List (Nat × Blk) := only (fzIds m) m
/-- One cell as it is handed back; which own blocks go with it, from which cell on. -/
def exp1 (m : List (Nat × Blk)) (c : AV) : Option (AV × List (Nat × Nat)) :=
  match c with
  | .ref b off len sz => match look m b with
    | some B => if B.fz then (exC (onlyFz m) 4 (.ref b off len sz)).map fun d => (d, [])
        else if B.kd ≤ 1 then some (.fr B.kd (B.cs.drop off) len sz, [(b, off)]) else none
    | none => none
  | .ptr b off => match look m b with
    | some B => if B.fz then (exC (onlyFz m) 4 (.ptr b off)).map fun d => (d, [])
        else if off = 0 ∧ B.kd = 2 ∧ kdL B.cs ≤ 1 then some (.fp B.cs, [(b, 0)]) else none
    | none => none
  | c => if kdOf c ≤ 1 then some (c, []) else none
def expL (m : List (Nat × Blk)) : List AV → Option (List AV × List (Nat × Nat))
  | [] => some ([], [])
  | c :: cs => match exp1 m c, expL m cs with
    | some (d, b), some (ds, bs) => some (d :: ds, b ++ bs)
    | _, _ => none
def exp2 (m : List (Nat × Blk)) : AV → Option (AV × List (Nat × Nat))
  | .agg cs => (expL m cs).map fun r => (.agg r.1, r.2)
  | c => exp1 m c
def exp2L (m : List (Nat × Blk)) : List AV → Option (List AV × List (Nat × Nat))
  | [] => some ([], [])
  | c :: cs => match exp2 m c, exp2L m cs with
    | some (d, b), some (ds, bs) => some (d :: ds, b ++ bs)
    | _, _ => none
def expR (m : List (Nat × Blk)) : AV → Option (AV × List (Nat × Nat))
  | .tup cs => (exp2L m cs).map fun r => (.tup r.1, r.2)
  | c => exp2 m c
def resA (T : Tab) (s : St) : ResultVar → Option AV
  | .tmp i => some (s.t.getD i (.tup []))
  | .cell i ty => loadA T s.m ty (s.t.getD i (.tup []))
def apartL : List (Nat × Nat) → Bool
  | [] => true
  | (b, _) :: r => (r.all fun x => x.1 != b) && apartL r
def oneA : List AV → AV
  | [v] => v
  | vs => .tup vs
def retA (T : Tab) (fn : Func) (s : St) : Option AV :=
  match fn.results.toList.mapM (resA T s) with
  | none => none
  | some vs => match expR s.m (oneA vs) with
    | none => none
    | some (r, bs) => if apartL bs then some r else none

/-- The blocks that go with a result, by their new names. -/
def mk (m : List (Nat × Blk)) : Nat → List (Nat × Nat) → List (Nat × Blk)
  | _, [] => []
  | q, (b, off) :: r => (q, match look m b with | some B => ⟨B.cs.drop off, B.kd, false⟩ | none => ⟨[], 0, false⟩) :: mk m (q + 1) r
def reb (μ : Locs) (p : Nat × Nat) : Option Loc := (μ p.1).map fun l => ⟨l.blk, l.base + p.2, l.lim, l.isNil⟩

section
variable {P : Program} {T : Tab} {M0 A : Nat → Prop} {w0 w w' : World} {μ μ' : Locs} {I I' : Nat → Prop} {m m' mv : List (Nat × Blk)} {q : Nat} {o : Oper} {a : Act} {t t' : List AV} {call : Know} {ops : Array Oper}

theorem mk_append (m : List (Nat × Blk)) : ∀ (q : Nat) (a b : List (Nat × Nat)), mk m q (a ++ b) = mk m q a ++ mk m (q + a.length) b
  | q, [], b => by simp [mk]
  | q, (x, off) :: a, b => by
    simp only [List.cons_append, mk, List.length_cons]
    rw [mk_append m (q + 1) a b, show q + 1 + a.length = q + (a.length + 1) by omega]
theorem look_mk : ∀ {q : Nat} {bs : List (Nat × Nat)} {n : Nat} {B' : Blk}, look (mk m q bs) n = some B' → ∃ i p, n = q + i ∧ bs[i]? = some p ∧ ∀ B, look m p.1 = some B → B' = ⟨B.cs.drop p.2, B.kd, false⟩
  | q, [], n, B', h => by simp [mk, look] at h
  | q, (b, off) :: r, n, B', h => by
    simp only [mk, look] at h
    split at h
    · rename_i e
      injection h with h
      refine ⟨0, (b, off), by simpa using (beq_iff_eq.1 e).symm, by simp, fun B hB => ?_⟩
      rw [← h]
      simp only at hB
      rw [hB]
    · obtain ⟨i, p, h1, h2, h3⟩ := look_mk h
      exact ⟨i + 1, p, by omega, by simpa using h2, h3⟩
theorem onlyFz_look {b : Nat} {B : Blk} (h : look (onlyFz m) b = some B) : look m b = some B ∧ B.fz = true := by
  obtain ⟨h1, h2⟩ := look_only _ _ _ _ h
  refine ⟨h1, ?_⟩
  simp only [fzIds, List.contains_iff_mem, List.mem_filter] at h2
  have := h2.2
  rw [h1] at this
  exact this

/-- What it means that a value can be handed back with these blocks. -/
structure Hands (w : World) (μ : Locs) (I : Nat → Prop) (m : List (Nat × Blk)) (bs : List (Nat × Nat)) : Prop where
  ok : ∀ p ∈ bs, ∃ B l, look m p.1 = some B ∧ B.fz = false ∧ μ p.1 = some l ∧ (¬ B.kd ≤ 1 → kdL B.cs ≤ 1 ∧ p.2 = 0) ∧ (l.isNil = false → l.base + p.2 ≤ l.lim)

theorem Hands.append {a b : List (Nat × Nat)} (h : Hands w μ I m a) (g : Hands w μ I m b) : Hands w μ I m (a ++ b) :=
  ⟨fun p hp => by
    rcases List.mem_append.1 hp with h1 | h1
    · exact h.ok p h1
    · exact g.ok p h1⟩

/-- d, taken by a caller at q, is x. -/
def Takes (take : Nat → AV → AV × List (Nat × Blk) × Nat) (w : World) (μ : Locs) (I : Nat → Prop) (m : List (Nat × Blk)) (d : AV) (bs : List (Nat × Nat)) (x : Value) : Prop :=
  Hands w μ I m bs ∧ ∀ q, (take q d).2.1 = mk m q bs ∧ (take q d).2.2 = q + bs.length ∧ ∀ μq : Locs, (∀ k p, bs[k]? = some p → μq (q + k) = reb μ p) → VR w (take q d).1 μq I x
def TakesL (take : Nat → List AV → List AV × List (Nat × Blk) × Nat) (w : World) (μ : Locs) (I : Nat → Prop) (m : List (Nat × Blk)) (d : List AV) (bs : List (Nat × Nat)) (x : List Value) : Prop :=
  Hands w μ I m bs ∧ ∀ q, (take q d).2.1 = mk m q bs ∧ (take q d).2.2 = q + bs.length ∧ ∀ μq : Locs, (∀ k p, bs[k]? = some p → μq (q + k) = reb μ p) → VRs w (take q d).1 μq I x

/-- No own block is named: nothing goes with it. -/
def plainC : AV → Bool
  | .int _ _ | .bool _ | .str _ | .nilp | .snil | .sl _ _ _ | .rptr _ => true
  | _ => false
theorem take1_plain {d : AV} (h : ∀ kd cs len sz, d ≠ .fr kd cs len sz) (h2 : ∀ cs, d ≠ .fp cs) (q : Nat) : take1 q d = (d, [], q) := by
  cases d <;> first | rfl | exact absurd rfl (h _ _ _ _) | exact absurd rfl (h2 _)
theorem Takes.plain {d : AV} {x : Value} (h : ∀ kd cs len sz, d ≠ .fr kd cs len sz) (h2 : ∀ cs, d ≠ .fp cs) (hv : VR w d noLocs I x) : Takes take1 w μ I m d [] x := by
  refine ⟨⟨fun p hp => by cases hp⟩, fun q => ?_⟩
  rw [take1_plain h h2]
  exact ⟨rfl, rfl, fun μq _ => VR.stays _ (Stays.locs μq I w) x hv⟩
theorem VR.closed {c : AV} {x : Value} (hc : kdOf c ≤ 1) (h : VR w c μ I x) : VR w c noLocs I x := by
  cases c <;> simp [kdOf] at hc <;> simp only [VR] at h ⊢ <;> exact h
theorem VR.notFr {d : AV} {x : Value} (h : VR w d μ I x) : (∀ kd cs len sz, d ≠ .fr kd cs len sz) ∧ (∀ cs, d ≠ .fp cs) := by
  constructor
  · rintro kd cs len sz rfl; simp [VR] at h
  · rintro cs rfl; simp [VR] at h

theorem exp1_ok (hS : SR M0 A w0 w μ I m) {c d : AV} {bs : List (Nat × Nat)} {x : Value} (h : exp1 m c = some (d, bs)) (hv : VR w c μ I x) : Takes take1 w μ I m d bs x := by
  have hfzs : ∀ (c d : AV), exC (onlyFz m) 4 c = some d → VR w c μ I x → Takes take1 w μ I m d [] x := by
    intro c d hd hv
    have := exC_ok hS (fun b B hb => (onlyFz_look hb).1) (J := I) (fun _ h => h) (fun b B l hb hl hn => by
      obtain ⟨hb1, hb2⟩ := onlyFz_look hb
      obtain ⟨l', hl', hBO⟩ := hS.blks b B hb1
      rw [hl] at hl'; injection hl' with e; subst e
      rcases hBO with ⟨h1, _⟩ | ⟨_, _, h3, _⟩
      · rw [hn] at h1; cases h1
      · exact h3 hb2) 4 c d x hd hv
    obtain ⟨h1, h2⟩ := this.notFr
    exact Takes.plain h1 h2 this
  unfold exp1 at h
  split at h
  · rename_i b off len sz
    split at h
    · rename_i B hB
      split at h
      · rename_i hf
        simp only [Option.map_eq_some_iff, Prod.mk.injEq] at h
        obtain ⟨d', hd, rfl, rfl⟩ := h
        exact hfzs _ _ hd hv
      · rename_i hf
        split at h
        · rename_i hk
          injection h with h; injection h with h1 h2; subst h1; subst h2
          simp only [VR] at hv
          obtain ⟨l, hl, hv⟩ := hv
          refine ⟨⟨fun p hp => ?_⟩, fun q => ⟨by simp [take1, mk, hB], by simp [take1], fun μq hμ => ?_⟩⟩
          · have : p = (b, off) := by simpa using hp
            subst this
            refine ⟨B, l, hB, by simpa using hf, hl, fun e => by omega, fun hn => ?_⟩
            rcases hv with ⟨h1, _⟩ | ⟨_, cap, _, _, h2⟩
            · rw [hn] at h1; cases h1
            · simp only; omega
          · have := hμ 0 (b, off) rfl
            simp only [Nat.add_zero, reb, hl, Option.map_some] at this
            simp only [take1, VR]
            refine ⟨_, this, ?_⟩
            rcases hv with ⟨h1, h2, h3, h4⟩ | ⟨h1, cap, h2, h3, h4⟩
            · exact .inl ⟨h1, h2, by simp, h4⟩
            · exact .inr ⟨h1, cap, h2, h3, h4⟩
        · cases h
    · cases h
  · rename_i b off
    split at h
    · rename_i B hB
      split at h
      · rename_i hf
        simp only [Option.map_eq_some_iff, Prod.mk.injEq] at h
        obtain ⟨d', hd, rfl, rfl⟩ := h
        exact hfzs _ _ hd hv
      · rename_i hf
        split at h
        · rename_i hk
          obtain ⟨rfl, hk1, hk2⟩ := hk
          injection h with h; injection h with h1 h2; subst h1; subst h2
          simp only [VR] at hv
          obtain ⟨l, hl, hn, hv⟩ := hv
          obtain ⟨l0, hl0, hBO⟩ := hS.blks b B hB
          rw [hl] at hl0; injection hl0 with e; subst e
          refine ⟨⟨fun p hp => ?_⟩, fun q => ⟨by simp [take1, mk, hB, hk1], by simp [take1], fun μq hμ => ?_⟩⟩
          · have : p = (b, 0) := by simpa using hp
            subst this
            refine ⟨B, l, hB, by simpa using hf, hl, fun e => ⟨hk2, rfl⟩, fun hn => ?_⟩
            rcases hBO with ⟨h1, _⟩ | ⟨_, ⟨C, ct, fr, vs, a1, a2, a3, a4, a5, a6, a7⟩, _, _⟩
            · rw [hn] at h1; cases h1
            · simp only; omega
          · have := hμ 0 (b, 0) rfl
            simp only [Nat.add_zero, reb, hl, Option.map_some] at this
            simp only [take1, VR]
            exact ⟨_, this, hn, hv⟩
        · cases h
    · cases h
  · split at h
    · rename_i hk
      injection h with h; injection h with h1 h2; subst h1; subst h2
      obtain ⟨h1, h2⟩ := hv.notFr
      exact Takes.plain h1 h2 (hv.closed hk)
    · cases h

theorem shift {a b : List (Nat × Nat)} {μq : Locs} (h : ∀ k p, (a ++ b)[k]? = some p → μq (q + k) = reb μ p) :
    (∀ k p, a[k]? = some p → μq (q + k) = reb μ p) ∧ ∀ k p, b[k]? = some p → μq (q + a.length + k) = reb μ p := by
  refine ⟨fun k p hk => h k p ?_, fun k p hk => ?_⟩
  · rw [List.getElem?_append, if_pos (List.getElem?_eq_some_iff.1 hk).1]; exact hk
  · rw [Nat.add_assoc]
    refine h _ p ?_
    rw [List.getElem?_append, if_neg (by omega), show a.length + k - a.length = k by omega]; exact hk

theorem expL_ok (hS : SR M0 A w0 w μ I m) : ∀ {cs ds : List AV} {bs : List (Nat × Nat)} {xs : List Value}, expL m cs = some (ds, bs) → VRs w cs μ I xs → TakesL takeL w μ I m ds bs xs
  | [], ds, bs, xs, h, hv => by
    simp only [expL] at h
    injection h with h; injection h with h1 h2; subst h1; subst h2
    refine ⟨⟨fun p hp => by cases hp⟩, fun q => ⟨rfl, rfl, fun μq _ => ?_⟩⟩
    simpa [VRs, takeL] using hv
  | c :: cs, ds, bs, xs, h, hv => by
    simp only [expL] at h
    split at h
    · rename_i d b ds' bs' h1 h2
      injection h with h; injection h with h3 h4; subst h3; subst h4
      simp only [VRs] at hv
      obtain ⟨x, xs, rfl, hx, hxs⟩ := hv
      obtain ⟨g1, g2⟩ := exp1_ok hS h1 hx
      obtain ⟨f1, f2⟩ := expL_ok hS h2 hxs
      refine ⟨g1.append f1, fun q => ?_⟩
      obtain ⟨e1, e2, e3⟩ := g2 q
      obtain ⟨k1, k2, k3⟩ := f2 (take1 q d).2.2
      simp only [takeL]
      rw [e2] at k1 k2 k3 ⊢
      refine ⟨by rw [e1, k1, mk_append], by rw [k2]; simp; omega, fun μq hμ => ?_⟩
      obtain ⟨s1, s2⟩ := shift hμ
      exact VRs.cons (e3 μq s1) (k3 μq s2)
    · cases h

theorem exp1_shape {c d : AV} {bs : List (Nat × Nat)} (h : exp1 m c = some (d, bs)) : (∀ ds, d ≠ .agg ds) ∧ ∀ ds, d ≠ .tup ds := by
  have hex : ∀ n c d, exC (onlyFz m) n c = some d → ((∃ cs, d = .agg cs) → ∃ cs, c = .agg cs) ∧ ((∃ cs, d = .tup cs) → ∃ cs, c = .tup cs) := by
    intro n c d h
    constructor
    all_goals
      rintro ⟨ds, rfl⟩
      cases n <;> cases c <;> simp only [exC] at h <;> first
        | exact ⟨_, rfl⟩
        | (cases h; done)
        | (simp only [Option.map_eq_some_iff] at h; obtain ⟨_, _, h⟩ := h; cases h; done)
        | (split at h
           · first
             | (split at h
                · cases h
                · first
                  | (split at h
                     · cases h
                     · simp only [Option.map_eq_some_iff] at h; obtain ⟨_, _, h⟩ := h; cases h)
                  | (simp only [Option.map_eq_some_iff] at h; obtain ⟨_, _, h⟩ := h; cases h))
           · cases h)
  have key : ∀ c d, exC (onlyFz m) 4 c = some d → (∀ cs, c ≠ .agg cs) → (∀ cs, c ≠ .tup cs) → (∀ ds, d ≠ .agg ds) ∧ ∀ ds, d ≠ .tup ds := by
    intro c d h h1 h2
    obtain ⟨g1, g2⟩ := hex 4 c d h
    refine ⟨fun ds e => ?_, fun ds e => ?_⟩
    · obtain ⟨cs, e'⟩ := g1 ⟨ds, e⟩; exact h1 cs e'
    · obtain ⟨cs, e'⟩ := g2 ⟨ds, e⟩; exact h2 cs e'
  unfold exp1 at h
  split at h
  · split at h
    · split at h
      · simp only [Option.map_eq_some_iff, Prod.mk.injEq] at h
        obtain ⟨d', hd, rfl, _⟩ := h
        exact key _ _ hd (fun _ e => by cases e) (fun _ e => by cases e)
      · split at h
        · injection h with h; injection h with h1 h2; subst h1
          exact ⟨fun _ e => (by cases e), fun _ e => by cases e⟩
        · cases h
    · cases h
  · split at h
    · split at h
      · simp only [Option.map_eq_some_iff, Prod.mk.injEq] at h
        obtain ⟨d', hd, rfl, _⟩ := h
        exact key _ _ hd (fun _ e => by cases e) (fun _ e => by cases e)
      · split at h
        · injection h with h; injection h with h1 h2; subst h1
          exact ⟨fun _ e => (by cases e), fun _ e => by cases e⟩
        · cases h
    · cases h
  · split at h
    · rename_i hk
      injection h with h; injection h with h1 h2
      subst h1
      exact ⟨fun _ e => (by subst e; simp [kdOf] at hk), fun _ e => by subst e; simp [kdOf] at hk⟩
    · cases h

theorem exp2_ok (hS : SR M0 A w0 w μ I m) {c d : AV} {bs : List (Nat × Nat)} {x : Value} (h : exp2 m c = some (d, bs)) (hv : VR w c μ I x) : Takes take2 w μ I m d bs x := by
  have hone : exp1 m c = some (d, bs) → Takes take2 w μ I m d bs x := by
    intro h
    obtain ⟨hna, _⟩ := exp1_shape h
    obtain ⟨g1, g2⟩ := exp1_ok hS h hv
    refine ⟨g1, fun q => ?_⟩
    have : take2 q d = take1 q d := by cases d <;> first | rfl | exact absurd rfl (hna _)
    rw [this]; exact g2 q
  cases c
  case agg cs =>
    simp only [exp2, Option.map_eq_some_iff, Prod.mk.injEq] at h
    obtain ⟨⟨ds, bs'⟩, h, rfl, rfl⟩ := h
    simp only [VR] at hv
    obtain ⟨vs, rfl, hv⟩ := hv
    obtain ⟨g1, g2⟩ := expL_ok hS h hv
    refine ⟨g1, fun q => ?_⟩
    obtain ⟨e1, e2, e3⟩ := g2 q
    simp only [take2]
    exact ⟨e1, e2, fun μq hμ => by simp only [VR]; exact ⟨vs, rfl, e3 μq hμ⟩⟩
  all_goals (simp only [exp2] at h; exact hone h)

theorem exp2L_ok (hS : SR M0 A w0 w μ I m) : ∀ {cs ds : List AV} {bs : List (Nat × Nat)} {xs : List Value}, exp2L m cs = some (ds, bs) → VRs w cs μ I xs → TakesL take2L w μ I m ds bs xs
  | [], ds, bs, xs, h, hv => by
    simp only [exp2L] at h
    injection h with h; injection h with h1 h2; subst h1; subst h2
    refine ⟨⟨fun p hp => by cases hp⟩, fun q => ⟨rfl, rfl, fun μq _ => ?_⟩⟩
    simpa [VRs, take2L] using hv
  | c :: cs, ds, bs, xs, h, hv => by
    simp only [exp2L] at h
    split at h
    · rename_i d b ds' bs' h1 h2
      injection h with h; injection h with h3 h4; subst h3; subst h4
      simp only [VRs] at hv
      obtain ⟨x, xs, rfl, hx, hxs⟩ := hv
      obtain ⟨g1, g2⟩ := exp2_ok hS h1 hx
      obtain ⟨f1, f2⟩ := exp2L_ok hS h2 hxs
      refine ⟨g1.append f1, fun q => ?_⟩
      obtain ⟨e1, e2, e3⟩ := g2 q
      obtain ⟨k1, k2, k3⟩ := f2 (take2 q d).2.2
      simp only [take2L]
      rw [e2] at k1 k2 k3 ⊢
      refine ⟨by rw [e1, k1, mk_append], by rw [k2]; simp; omega, fun μq hμ => ?_⟩
      obtain ⟨s1, s2⟩ := shift hμ
      exact VRs.cons (e3 μq s1) (k3 μq s2)
    · cases h

theorem expR_ok (hS : SR M0 A w0 w μ I m) {c d : AV} {bs : List (Nat × Nat)} {x : Value} (h : expR m c = some (d, bs)) (hv : VR w c μ I x) : Takes adopt w μ I m d bs x := by
  have hone : exp2 m c = some (d, bs) → (∀ cs, d ≠ .tup cs) → Takes adopt w μ I m d bs x := by
    intro h hna
    obtain ⟨g1, g2⟩ := exp2_ok hS h hv
    refine ⟨g1, fun q => ?_⟩
    have : adopt q d = take2 q d := by cases d <;> first | rfl | exact absurd rfl (hna _)
    rw [this]; exact g2 q
  cases c
  case tup cs =>
    simp only [expR, Option.map_eq_some_iff, Prod.mk.injEq] at h
    obtain ⟨⟨ds, bs'⟩, h, rfl, rfl⟩ := h
    simp only [VR] at hv
    obtain ⟨vs, rfl, hv⟩ := hv
    obtain ⟨g1, g2⟩ := exp2L_ok hS h hv
    refine ⟨g1, fun q => ?_⟩
    obtain ⟨e1, e2, e3⟩ := g2 q
    simp only [adopt]
    exact ⟨e1, e2, fun μq hμ => by simp only [VR]; exact ⟨vs, rfl, e3 μq hμ⟩⟩
  case agg cs =>
    simp only [expR] at h
    refine hone h ?_
    simp only [exp2, Option.map_eq_some_iff, Prod.mk.injEq] at h
    obtain ⟨_, _, rfl, _⟩ := h
    exact fun _ e => by cases e
  all_goals (simp only [expR] at h; exact hone h (by simp only [exp2] at h; exact (exp1_shape h).2))

theorem apartL_ne : ∀ {bs : List (Nat × Nat)}, apartL bs = true → ∀ (i j : Nat) (p p' : Nat × Nat), bs[i]? = some p → bs[j]? = some p' → i ≠ j → p.1 ≠ p'.1
  | [], _, i, j, p, p', hi, _, _ => by simp at hi
  | (b, o) :: r, h, i, j, p, p', hi, hj, hne => by
    simp only [apartL, Bool.and_eq_true, List.all_eq_true, bne_iff_ne] at h
    cases i with
    | zero =>
      cases j with
      | zero => exact absurd rfl hne
      | succ j =>
        simp at hi hj
        subst hi
        exact (Ne.symm (h.1 p' (List.mem_of_getElem? hj)))
    | succ i =>
      cases j with
      | zero =>
        simp at hi hj
        subst hj
        exact h.1 p (List.mem_of_getElem? hi)
      | succ j =>
        exact apartL_ne h.2 i j p p' (by simpa using hi) (by simpa using hj) (by omega)

/-- What goes with a result is the caller's from now on. -/
theorem fresh_ok (hS : SR noImm A w0 w μ I m) {c d : AV} {bs : List (Nat × Nat)} {x : Value} (h : expR m c = some (d, bs)) (hap : apartL bs = true) (hv : VR w c μ I x) (q : Nat) : Fresh w0 w A q d x := by
  obtain ⟨hH, hT⟩ := expR_ok hS h hv
  obtain ⟨e1, e2, e3⟩ := hT q
  have hμ : ∀ k p, bs[k]? = some p → (if q ≤ q + k then (bs[q + k - q]?).bind (reb μ) else none) = reb μ p := by
    intro k p hk
    simp only [Nat.le_add_right, if_true, show q + k - q = k by omega, hk, Option.bind_some]
  refine ⟨fun n => if q ≤ n then (bs[n - q]?).bind (reb μ) else none, I, ?_, fun b hb => ?_, e3 _ hμ⟩
  · rw [e1]
    have hlk : ∀ n B', look (mk m q bs) n = some B' → ∃ i p B l, n = q + i ∧ bs[i]? = some p ∧ look m p.1 = some B ∧ B.fz = false ∧ μ p.1 = some l ∧ (¬ B.kd ≤ 1 → kdL B.cs ≤ 1 ∧ p.2 = 0) ∧ (l.isNil = false → l.base + p.2 ≤ l.lim) ∧ B' = ⟨B.cs.drop p.2, B.kd, false⟩ := by
      intro n B' hn
      obtain ⟨i, p, h1, h2, h3⟩ := look_mk hn
      obtain ⟨B, l, g1, g2, g3, g4, g5⟩ := hH.ok p (List.mem_of_getElem? h2)
      exact ⟨i, p, B, l, h1, h2, g1, g2, g3, g4, g5, h3 B g1⟩
    refine ⟨fun n B' hn => ?_, fun n n' B' B'' l l' hn hn' hne hfz hl hl' hnn hnn' => ?_, hS.immLt, hS.immA, hS.immN, hS.keep⟩
    · obtain ⟨i, p, B, l, rfl, hi, hB, hf, hl, hk2, hlim, rfl⟩ := hlk n B' hn
      refine ⟨⟨l.blk, l.base + p.2, l.lim, l.isNil⟩, by rw [hμ i p hi]; simp only [reb, hl, Option.map_some], ?_⟩
      obtain ⟨l0, hl0, hBO⟩ := hS.blks p.1 B hB
      rw [hl] at hl0; injection hl0 with e; subst e
      rcases hBO with ⟨h1, h2⟩ | ⟨h1, ⟨C, ct, fr, vs, a1, a2, a3, a4, a5, a6, a7⟩, h3, h4⟩
      · exact .inl ⟨h1, by simp [h2]⟩
      · have hvl := a6.length
        refine .inr ⟨h1, ⟨C, ct, fr, vs.drop p.2, a1, a2, a3, ?_, fun e => ?_, ?_, fun j y hy => ?_⟩, (fun e => by cases e), fun _ => h4 hf⟩
        · have := hlim h1
          simp only [List.length_drop]; omega
        · obtain ⟨_, hz⟩ := hk2 (by have e' : B.kd = 2 := e; omega)
          have := a5 e
          simp only [hz, List.drop_zero, Nat.add_zero]; exact this
        · show VRs w (B.cs.drop p.2) (kμ B.kd _) (kI B.kd I) (vs.drop p.2)
          by_cases hk : B.kd ≤ 1
          · unfold kμ at a6 ⊢
            rw [if_pos hk] at a6 ⊢
            exact a6.drop _
          · have e1 : ∀ μ : Locs, kμ B.kd μ = μ := fun μ => by unfold kμ; rw [if_neg hk]
            have e2 : kI B.kd I = I := by unfold kI; rw [if_neg (by omega)]
            rw [e1, e2] at a6 ⊢
            have hkk : kdL B.cs ≤ 1 := (hk2 hk).1
            have h8 := kL_ok a6
            unfold kμ at h8
            rw [if_pos hkk] at h8
            refine VRs.drop (VRs.stays _ ⟨fun b l h => by simp [noLocs] at h, fun k h => ?_, fun _ _ => rfl⟩ vs h8) _
            unfold kI at h
            split at h
            · exact h.elim
            · exact h
        · rw [List.getElem?_drop] at hy
          have := a7 _ y hy
          rw [← this]
          show C[l.base + p.2 + j]? = _
          rw [Nat.add_assoc]
    · obtain ⟨i, p, B, l1, rfl, hi, hB, hf, hl1, _, _, rfl⟩ := hlk n B' hn
      obtain ⟨i', p', B2, l2, rfl, hi', hB2, hf2, hl2, _, _, rfl⟩ := hlk n' B'' hn'
      rw [hμ i p hi] at hl; rw [hμ i' p' hi'] at hl'
      simp only [reb, hl1, Option.map_some, Option.some.injEq] at hl
      simp only [reb, hl2, Option.map_some, Option.some.injEq] at hl'
      subst hl; subst hl'
      exact hS.inj p.1 p'.1 B B2 l1 l2 hB hB2 (apartL_ne hap i i' p p' hi hi' (by omega)) hf hl1 hl2 hnn hnn'
  · rw [e2] at hb
    show (if q ≤ b then (bs[b - q]?).bind (reb μ) else none) = none
    split
    · rw [List.getElem?_eq_none (by omega)]; rfl
    · rfl
end
end Go.AM
end
section
/- The abstract machine, part 19: functions; what is computed outright. -/
set_option linter.unusedVariables false
set_option linter.unusedSimpArgs false
set_option linter.unnecessarySimpa false
namespace Go.AM

/-- The state in which a call begins. -/
def start (fn : Func) (args : List AV) : St := ⟨args ++ List.replicate (fn.ntmps - args.length) (.tup []), [], 0⟩

/-- What is known of a function's regions and loops: in which order operations may come; which temporaries a loop needs (by the id of its first region). -/
structure Info where
  plan : Nat → Option (Nat × List Nat × List Nat)
  keep : Nat → Nat
  flo : Nat → List Nat × List Nat

def firstId : Code → Nat
  | .region id _ _ => id
  | .seq a _ => firstId a
  | .block _ c => firstId c
  | .loop c => firstId c
  | _ => 0
def iter (f : St → Option (Out × St)) (k keep : Nat) : Nat → St → Option (Out × St)
  | 0, _ => none
  | n + 1, s => match f s with
    | some (.normal, s') => iter f k keep n (canon k keep s')
    | r => r
noncomputable def codeA (T : Tab) (call : Know) (i : Info) (n k : Nat) : Code → St → Option (Out × St)
  | .skip, s => some (.normal, s)
  | .region _ ops false, s => (runL T call ops (up 0 ops.size) s).map fun s' => (.normal, s')
  | .region id ops true, s => match i.plan id with
    | some (p, ancs, tail) => match i.flo id with
      | ([], _) => (drawA T call ops p ancs tail s).map fun s' => (.normal, s')
      | (x :: fl, reqs) => (drawB T call ops p ancs (x :: fl) tail reqs s).map fun s' => (.normal, s')
    | none => none
  | .seq a b, s => match codeA T call i n k a s with
    | some (.normal, s') => codeA T call i n k b s'
    | r => r
  | .cond c a b, s => match ev s.t c with
    | .bool true => codeA T call i n k a s
    | .bool false => codeA T call i n k b s
    | _ => none
  | .block id c, s => match codeA T call i n k c s with
    | some (.exit id', s') => if id' = id then some (.normal, s') else some (.exit id', s')
    | r => r
  | .loop c, s => iter (codeA T call i n k c) k (i.keep (firstId c)) n (canon k (i.keep (firstId c)) s)
  | .exit id, s => some (.exit id, s)
  | .ret, s => some (.ret, s)
  | _, _ => none

/-- Every drawn region's plan is sound. -/
def plansOK (i : Info) : Code → Bool
  | .region id ops true => match i.plan id with
    | some (p, ancs, tail) => match i.flo id with
      | ([], _) => planOK ops p ancs tail
      | (x :: fl, reqs) => planB ops p ancs (x :: fl) tail reqs
    | none => true
  | .seq a b => plansOK i a && plansOK i b
  | .cond _ a b => plansOK i a && plansOK i b
  | .block _ c => plansOK i c
  | .loop c => plansOK i c
  | _ => true

def isEnd : Out → Bool
  | .normal | .ret => true
  | _ => false
/-- A function's body, with these arguments. -/
noncomputable def fnA (T : Tab) (call : Know) (i : Info) (n : Nat) (fn : Func) (args : List AV) : Option AV :=
  match fn.body with
  | some c => match codeA T call i n 0 c (start fn args) with
    | some (o, s) => if isEnd o then retA T fn s else none
    | none => none
  | none => none
def startM (fn : Func) (args : List AV) (m : List (Nat × Blk)) : St := ⟨args ++ List.replicate (fn.ntmps - args.length) (.tup []), m, m.length⟩
/-- A function's body, with these arguments and what they name. -/
noncomputable def fnM (T : Tab) (call : Know) (i : Info) (n : Nat) (fn : Func) (args : List AV) (m : List (Nat × Blk)) : Option (AV × List (Nat × Blk)) :=
  match fn.body with
  | none => none
  | some c => match codeA T call i n m.length c (startM fn args m) with
    | none => none
    | some (o, s) => if isEnd o then
        match fn.results.toList.mapM (resA T s) with
        | none => none
        | some vs => match clM T.cl (up 0 m.length) s.m with
          | none => none
          | some m1 => match (canon m.length 1 ⟨[oneA vs], m1, s.nx⟩).t with
            | [r] => some (r, (canon m.length 1 ⟨[oneA vs], m1, s.nx⟩).m)
            | _ => none
      else none

section
variable {P : Program} {T : Tab} {M0 A : Nat → Prop} {w0 w w' : World} {call : Know}

theorem start_inv {fn : Func} {args : List AV} {vals : List Value} (hA : ∀ k, A k → k < w.heap.size) (hv : VRs w args noLocs A vals) :
    Inv nopin noImm A w (start fn args) { tmps := vals.toArray ++ Array.replicate (fn.ntmps - vals.toArray.size) undef, defers := [] } w := by
  refine ⟨noLocs, A, ⟨fun b B h => by simp [start, look] at h, fun b b' B B' l l' h => by simp [start, look] at h, hA, fun _ h => h, fun _ h => .inl h, Keep.refl _ _⟩, ?_, fun _ _ => rfl, rfl, PinOK.none _⟩
  have hl := hv.length
  simp only [start, Array.toList_append, List.toList_toArray, Array.toList_replicate, List.size_toArray, hl]
  refine hv.append ?_
  refine VRs.of_get (by simp) fun j c x hc hx => ?_
  rw [List.getElem?_replicate] at hc hx
  split at hc
  · rename_i h
    rw [if_pos h] at hx
    injection hc with hc; injection hx with hx
    subst hc; subst hx
    exact undef_ok
  · cases hc

def resF (tmps : Array Value) : ResultVar → Sem Value
  | .tmp t => pure (tmps.getD t undef)
  | .cell a t => do loadVar t (← asAddr (tmps.getD a undef))
def oneV : List Value → Value
  | [v] => v
  | vs => .tuple vs.toArray

theorem resA_ok (TO : TabOK P T) {s : St} {a : Act} {μ : Locs} {I : Nat → Prop} (hS : SR M0 A w0 w μ I s.m) (ht : VRs w s.t μ I a.tmps.toList) : ∀ {rs : List ResultVar} {vs : List AV}, rs.mapM (resA T s) = some vs →
    ∃ xs, (rs.mapM (resF a.tmps)).run P w = .ok xs w ∧ VRs w vs μ I xs := by
  intro rs
  induction rs with
  | nil =>
    intro vs h
    simp at h
    subst h
    exact ⟨[], by simp, by simp [VRs]⟩
  | cons r rs ih =>
    intro vs h
    simp only [List.mapM_cons, Option.bind_eq_bind, Option.bind_eq_some_iff, Option.pure_def, Option.some.injEq] at h
    obtain ⟨v, hv, vs', hvs, rfl⟩ := h
    obtain ⟨xs, hx, hxs⟩ := ih hvs
    have htmp : ∀ t, VR w (s.t.getD t (.tup [])) μ I (a.tmps.getD t undef) := fun t => VR.ev ht (.tmp t)
    cases r with
    | tmp t =>
      simp only [resA] at hv
      injection hv with hv; subst hv
      refine ⟨a.tmps.getD t undef :: xs, ?_, VRs.cons (htmp t) hxs⟩
      simp only [List.mapM_cons, resF, Sem.run_bind, Sem.run_pure, Result.andThen_ok, hx]
    | cell ad ty =>
      simp only [resA] at hv
      obtain ⟨y, hy, hvy⟩ := loadA_ok (P := P) TO hS (fun _ _ h => h) hv (htmp ad)
      refine ⟨y :: xs, ?_, VRs.cons hvy hxs⟩
      obtain ⟨adr, hadr⟩ : ∃ adr, a.tmps.getD ad undef = .pointer (some adr) := by
        have hv' := hv
        unfold loadA at hv'
        split at hv'
        · rename_i d z by_ cs hu hz hr
          obtain ⟨adr, vs, hxe, _⟩ := reach_ok hS (fun _ _ h => h) hr (htmp ad)
          exact ⟨adr, hxe⟩
        · cases hv'
      rw [hadr] at hy
      simp only [Instr.loadAt, Instr.sureAddr, Sem.run_bind, Sem.run_pure, Result.andThen_ok] at hy
      have ha : (asAddr (a.tmps.getD ad undef)).run P w = .ok adr w := by rw [hadr]; simp [asAddr]
      have hr : (resF a.tmps (.cell ad ty)).run P w = .ok y w := by simp only [resF, Sem.run_bind, ha, Result.andThen_ok, hy]
      simp only [List.mapM_cons, Sem.run_bind, Sem.run_pure, Result.andThen_ok, hx, hr]

theorem results_ok {fn : Func} {tmps : Array Value} {vs : List AV} {xs : List Value} {μ : Locs} {I : Nat → Prop} (hrun : (fn.results.toList.mapM (resF tmps)).run P w = .ok xs w) (hv : VRs w vs μ I xs) :
    (results fn tmps).run P w = .ok (oneV xs) w ∧ VR w (oneA vs) μ I (oneV xs) := by
  have e : results fn tmps = (do let vs ← fn.results.mapM (resF tmps); pure (if h : vs.size = 1 then vs[0] else .tuple vs)) := rfl
  refine ⟨?_, ?_⟩
  · rw [e]
    simp only [Array.mapM_eq_mapM_toList, Sem.run_bind, Sem.run_map, hrun, Result.andThen_ok, Sem.run_pure]
    match xs with
    | [] => rfl
    | [x] => rfl
    | x :: y :: r => simp [oneV]
  · match vs, xs, hv with
    | [], xs, hv =>
      simp only [VRs] at hv; subst hv
      simp [VR, VRs, oneA, oneV]
    | [v], xs, hv =>
      simp only [VRs] at hv
      obtain ⟨x, _, rfl, hx, rfl⟩ := hv
      exact hx
    | v :: v' :: r, xs, hv =>
      have hv0 := hv
      simp only [VRs] at hv
      obtain ⟨x, _, rfl, hx, y, ys, rfl, _⟩ := hv
      simp only [VR, oneA, oneV]
      exact ⟨_, rfl, hv0⟩

theorem retA_ok (TO : TabOK P T) {fn : Func} {s : St} {a : Act} {r : AV} (hI : Inv nopin noImm A w0 s a w) (h : retA T fn s = some r) : ∃ x, (results fn a.tmps).run P w = .ok x w ∧ ∀ q, Fresh w0 w A q r x := by
  obtain ⟨μ, I, hS, ht, hn, hd⟩ := hI
  unfold retA at h
  split at h
  · cases h
  · rename_i vs hvs
    split at h
    · cases h
    · rename_i d bs hexp
      split at h
      · rename_i hap
        injection h with h; subst h
        obtain ⟨xs, hrun, hv⟩ := resA_ok (P := P) TO hS ht hvs
        have hl := hv.length
        have e : results fn a.tmps = (do let vs ← fn.results.mapM (resF a.tmps); pure (if h : vs.size = 1 then vs[0] else .tuple vs)) := rfl
        have hres : (results fn a.tmps).run P w = .ok (oneV xs) w := by
          rw [e]
          simp only [Array.mapM_eq_mapM_toList, Sem.run_bind, Sem.run_map, hrun, Result.andThen_ok, Sem.run_pure]
          match xs with
          | [] => rfl
          | [x] => rfl
          | x :: y :: r => simp [oneV]
        refine ⟨_, hres, fun q => ?_⟩
        have hvr : VR w (oneA vs) μ I (oneV xs) := by
          match vs, xs, hv with
          | [], xs, hv =>
            simp only [VRs] at hv; subst hv
            simp [VR, VRs, oneA, oneV]
          | [v], xs, hv =>
            simp only [VRs] at hv
            obtain ⟨x, _, rfl, hx, rfl⟩ := hv
            exact hx
          | v :: v' :: r, xs, hv =>
            have hv0 := hv
            simp only [VRs] at hv
            obtain ⟨x, _, rfl, hx, y, ys, rfl, _⟩ := hv
            simp only [VR, oneA, oneV]
            exact ⟨_, rfl, hv0⟩
        exact fresh_ok hS hexp hap hvr q
      · cases h

/-- A function is what the machine says of its body. -/
theorem told (TO : TabOK P T) (CO : CallOK P call) (hmix : P.follows .mixedOrders = true) {f : Nat} {fn : Func} {c : Code} (hf : P.funcs[f]? = some fn) (hb : fn.body = some c) {args : List AV} {o : Out} {s : St} {r : AV}
    (hev : Ev T call 0 c (start fn args) o s) (ho : isEnd o = true) (hr : retA T fn s = some r) : Told P f args r := by
  intro A w vals hA hv
  refine calls_of_wp hf hb ((Ev_ok (κ := nopin) TO CO hmix hev).1 _ _ _ (start_inv hA hv) fun a' w' hI => ?_)
  obtain ⟨x, hx, hF⟩ := retA_ok TO hI hr
  have hd : a'.defers = [] := by obtain ⟨_, _, _, _, _, hd⟩ := hI; exact hd.1
  cases o with
  | normal => exact ⟨hd, x, hx, x, rfl, hF⟩
  | ret => exact ⟨hd, x, hx, x, rfl, hF⟩
  | exit id => cases ho

theorem iter_ev {f : St → Option (Out × St)} {k keep : Nat} {c : Code} (hf : ∀ s o s', f s = some (o, s') → Ev T call k c s o s') : ∀ n s o s', iter f k keep n s = some (o, s') → Ev T call k (.loop c) s o s'
  | 0, s, o, s', h => by cases h
  | n + 1, s, o, s', h => by
    simp only [iter] at h
    split at h
    · rename_i s1 h1
      exact .again (.then (hf _ _ _ h1) (canon_weak k keep s1)) (iter_ev hf n _ _ _ h)
    · rename_i h1
      refine .done (fun e => ?_) (hf _ _ _ h)
      subst e
      exact h1 s' h

/-- A loop that goes round N times and then ends. -/
theorem iter_rounds {f : St → Option (Out × St)} {p keep : Nat} (C : Nat → St) {o : Out} {E : St} (ho : o ≠ .normal) : ∀ (N j : Nat), (∀ i, i < N → (f (C (j + i))).map (fun r => (r.1, canon p keep r.2)) = some (.normal, C (j + i + 1))) → f (C (j + N)) = some (o, E) →
    ∀ k, iter f p keep (N + k + 1) (C j) = some (o, E)
  | 0, j, _, h, k => by
    have h' : f (C j) = some (o, E) := h
    rw [show 0 + k + 1 = k + 1 by omega]
    simp only [iter, h']
    cases o with
    | normal => exact absurd rfl ho
    | _ => rfl
  | N + 1, j, hs, h, k => by
    have h0 := hs 0 (by omega)
    simp only [Nat.add_zero, Option.map_eq_some_iff, Prod.mk.injEq] at h0
    obtain ⟨⟨o', s'⟩, h1, h2, h3⟩ := h0
    simp only at h2 h3
    subst h2
    rw [show N + 1 + k + 1 = (N + k + 1) + 1 by omega]
    rw [iter]
    simp only [h1, h3]
    refine iter_rounds C ho N (j + 1) (fun i hi => ?_) ?_ k
    · have := hs (i + 1) (by omega)
      rw [show j + 1 + i = j + (i + 1) by omega]; exact this
    · rw [show j + 1 + N = j + (N + 1) by omega]; exact h

theorem codeA_ev {i : Info} {n k : Nat} : ∀ (c : Code) (s : St) (o : Out) (s' : St), plansOK i c = true → codeA T call i n k c s = some (o, s') → Ev T call k c s o s' := by
  intro c
  induction c <;> intro s o s' hp h
  case skip => simp only [codeA] at h; injection h with h; injection h with h1 h2; subst h1; subst h2; exact .skip
  case region id ops d =>
    cases d
    · simp only [codeA, Option.map_eq_some_iff, Prod.mk.injEq] at h
      obtain ⟨s1, h, rfl, rfl⟩ := h
      rw [up_range] at h
      exact .line h
    · simp only [codeA] at h
      simp only [plansOK] at hp
      split at h
      · rename_i p ancs tail hpl
        rw [hpl] at hp
        simp only at hp
        split at h
        · rename_i hfl
          rw [hfl] at hp
          simp only [Option.map_eq_some_iff, Prod.mk.injEq] at h
          obtain ⟨s1, h, rfl, rfl⟩ := h
          exact .draw p ancs tail hp h
        · rename_i x fl reqs hfl
          rw [hfl] at hp
          simp only [Option.map_eq_some_iff, Prod.mk.injEq] at h
          obtain ⟨s1, h, rfl, rfl⟩ := h
          exact .late p ancs (x :: fl) tail reqs hp h
      · cases h
  case seq a b iha ihb =>
    simp only [plansOK, Bool.and_eq_true] at hp
    simp only [codeA] at h
    split at h
    · rename_i s1 h1
      exact .seq (iha _ _ _ hp.1 h1) (ihb _ _ _ hp.2 h)
    · rename_i h1
      exact .cut (fun e => by subst e; exact h1 s' h) (iha _ _ _ hp.1 h)
  case cond c a b iha ihb =>
    simp only [plansOK, Bool.and_eq_true] at hp
    simp only [codeA] at h
    split at h
    · rename_i hc; exact .yes hc (iha _ _ _ hp.1 h)
    · rename_i hc; exact .no hc (ihb _ _ _ hp.2 h)
    · cases h
  case block id c ih =>
    simp only [plansOK] at hp
    simp only [codeA] at h
    split at h
    · rename_i id' s1 h1
      split at h
      · rename_i e; subst e
        injection h with h; injection h with h2 h3; subst h2; subst h3
        exact .out (ih _ _ _ hp h1)
      · rename_i hne
        injection h with h; injection h with h2 h3; subst h2; subst h3
        exact .block (fun e => by injection e with e; exact hne e) (ih _ _ _ hp h1)
    · rename_i h1
      exact .block (fun e => by subst e; exact h1 _ _ h) (ih _ _ _ hp h)
  case loop c ih =>
    simp only [plansOK] at hp
    simp only [codeA] at h
    exact .weak (canon_weak _ _ s) (iter_ev (fun s o s' h => ih s o s' hp h) n _ o s' h)
  case exit id => simp only [codeA] at h; injection h with h; injection h with h1 h2; subst h1; subst h2; exact .exit
  case ret => simp only [codeA] at h; injection h with h; injection h with h1 h2; subst h1; subst h2; exact .ret
  all_goals (simp only [codeA] at h; cases h)

/-- A function, told. -/
theorem told_fn (TO : TabOK P T) (CO : CallOK P call) (hmix : P.follows .mixedOrders = true) {f : Nat} {fn : Func} {i : Info} {n : Nat} {args : List AV} {r : AV} (hf : P.funcs[f]? = some fn)
    (hp : (fn.body.map (plansOK i)).getD true = true) (h : fnA T call i n fn args = some r) : Told P f args r := by
  unfold fnA at h
  split at h
  · rename_i c hc
    rw [hc] at hp
    split at h
    · rename_i o s hs
      split at h
      · rename_i ho
        exact told TO CO hmix hf hc (codeA_ev c _ _ _ hp hs) ho h
      · cases h
    · cases h
  · cases h

/-- A function that is handed own memory, told. -/
theorem toldM_fn (TO : TabOK P T) (CO : CallOK P call) (hmix : P.follows .mixedOrders = true) {f : Nat} {fn : Func} {i : Info} {n : Nat} {args : List AV} {m m' : List (Nat × Blk)} {r : AV} (hf : P.funcs[f]? = some fn)
    (hp : (fn.body.map (plansOK i)).getD true = true) (h : fnM T call i n fn args m = some (r, m')) : ToldM P f args m r m' := by
  unfold fnM at h
  split at h
  · cases h
  rename_i c hc
  rw [hc] at hp
  split at h
  · cases h
  rename_i o s hs
  split at h
  rotate_left
  · cases h
  rename_i ho
  split at h
  · cases h
  rename_i vs hvs
  split at h
  · cases h
  rename_i m1 hm1
  split at h
  rotate_left
  · cases h
  rename_i r' hr
  injection h with h; injection h with e1 e2; subst e1; subst e2
  intro k A w μ vals hS hv hnone hk
  subst hk
  have hev := codeA_ev c _ _ _ hp hs
  have hl := hv.length
  have hst : Inv ⟨m.length, μ⟩ (own0 μ m) A w (startM fn args m) { tmps := vals.toArray ++ Array.replicate (fn.ntmps - vals.toArray.size) undef, defers := [] } w := by
    refine ⟨μ, A, hS, ?_, hnone, rfl, fun b l _ h => h⟩
    simp only [startM, Array.toList_append, List.toList_toArray, Array.toList_replicate, List.size_toArray, hl]
    refine hv.append ?_
    refine VRs.of_get (by simp) fun j c x hc hx => ?_
    rw [List.getElem?_replicate] at hc hx
    split at hc
    · rename_i h
      rw [if_pos h] at hx
      injection hc with hc; injection hx with hx
      subst hc; subst hx
      exact undef_ok
    · cases hc
  refine calls_of_wp hf hc ((Ev_ok (κ := ⟨m.length, μ⟩) TO CO hmix hev).1 _ _ _ hst fun a' w' hI => ?_)
  obtain ⟨μ1, I1, hS1, ht1, hn1, hd1, hp1⟩ := hI
  obtain ⟨xs, hrun, hxs⟩ := resA_ok (P := P) TO hS1 ht1 hvs
  obtain ⟨hres, hvr⟩ := results_ok hrun hxs
  obtain ⟨I2, S2, hS2⟩ := clM_ok _ hS1 hm1
  have hI2 : Inv ⟨m.length, μ⟩ (own0 μ m) A w ⟨[oneA vs], m1, s.nx⟩ { tmps := #[oneV xs], defers := [] } w' :=
    ⟨μ1, I2, hS2, VRs.cons (VR.stays _ S2 _ hvr) VRs.nil, hn1, rfl, hp1⟩
  obtain ⟨μ3, I3, hS3, ht3, hn3, hd3, hp3⟩ := canon_weak m.length 1 _ _ _ _ _ _ _ rfl hI2
  rw [hr] at ht3
  have hx : VR w' r' μ3 I3 (oneV xs) := by
    simp only [VRs] at ht3
    obtain ⟨x, ys, he, hx, rfl⟩ := ht3
    simp only [List.cons.injEq] at he
    rw [he.1]; exact hx
  cases o with
  | normal => exact ⟨hd1, _, hres, _, μ3, I3, rfl, hS3, hx, fun b l hb hl => hp3 b l hb hl⟩
  | ret => exact ⟨hd1, _, hres, _, μ3, I3, rfl, hS3, hx, fun b l hb hl => hp3 b l hb hl⟩
  | exit id => cases ho

end
end Go.AM
end
section
/- The abstract machine, part 20: a program's table. -/
namespace Go.AM

def zOf (P : Program) (t : Nat) : Option (List AV × Nat) :=
  match P.info? t with
  | some i => match i.zero with
    | some zv => if cellL (zv.cells.toList.map cst) && i.size == zv.cells.toList.length then some (zv.cells.toList.map cst, i.bytes) else none
    | none => none
  | none => none
def fOf (P : Program) (f : Nat) : Option Func :=
  match P.funcs[f]? with
  | some fn => if fn.body.isSome then some fn else none
  | none => none
def kindsOf (P : Program) : Nat → List Field → Option (List Nat)
  | _, [] => some []
  | n, f :: r => if f.offset == n && f.name != "_" then
      (match P.underlying f.type, kindsOf P (n + 1) r with
      | some (.int _), some ks => some (0 :: ks)
      | some .string, some ks => some (1 :: ks)
      | some .bool, some ks => some (2 :: ks)
      | _, _ => none) else none
def eqsOf (P : Program) (t : Nat) : Option (List Nat) :=
  match P.underlying t with
  | some (.struct fs) => if P.stoodInHeld t then none else kindsOf P 0 fs.toList
  | _ => none
def tabM (P : Program) (mt : Nat → List Bool) (cl : Nat → Option (List Nat)) : Tab := ⟨P.underlying, zOf P, fOf P, mt, cl, eqsOf P⟩
def tabOf (P : Program) : Tab := tabM P (fun _ => []) (fun _ => none)

theorem cst_ok {w : World} {μ : Locs} {I : Nat → Prop} (v : Value) : VR w (cst v) μ I v := by
  unfold cst
  split <;> simp [VR]
theorem csts_ok {w : World} {μ : Locs} {I : Nat → Prop} : ∀ vs : List Value, VRs w (vs.map cst) μ I vs
  | [] => by simp [VRs]
  | v :: vs => VRs.cons (cst_ok v) (csts_ok vs)

theorem kindsOf_guard {P : Program} {d : Nat} : ∀ {fs : List Field} {n : Nat} {ks : List Nat}, kindsOf P n fs = some ks → fs.any (fun f => f.name != "_" && P.eqGuardType (d + 1) f.type) = false
  | [], _, _, _ => rfl
  | f :: r, n, ks, h => by
    simp only [kindsOf] at h
    split at h
    · have key : ∀ ks', kindsOf P (n + 1) r = some ks' → (∃ k, P.underlying f.type = some (.int k)) ∨ P.underlying f.type = some .string ∨ P.underlying f.type = some .bool →
          (f :: r).any (fun f => f.name != "_" && P.eqGuardType (d + 1) f.type) = false := by
        intro ks' hk hu
        simp only [List.any_cons, kindsOf_guard hk, Bool.or_false]
        rcases hu with ⟨k, hu⟩ | hu | hu <;> simp [Program.eqGuardType, hu]
      split at h
      · rename_i hu hk; exact key _ hk (.inl ⟨_, hu⟩)
      · rename_i hu hk; exact key _ hk (.inr (.inl hu))
      · rename_i hu hk; exact key _ hk (.inr (.inr hu))
      · cases h
    · cases h

theorem eqFields_ok {P : Program} {d : Nat} {xs ys : Array Value} {w : World} {μ : Locs} {I : Nat → Prop} : ∀ {fs : List Field} {n : Nat} {ks : List Nat} {as bs : List AV} {e : Bool}, kindsOf P n fs = some ks → eqCells ks as bs = some e →
    VRs w as μ I (xs.toList.drop n) → VRs w bs μ I (ys.toList.drop n) → (Op.eqFields (d + 1) xs ys fs).run P w = .ok e w
  | [], n, ks, as, bs, e, hk, he, _, _ => by
    simp only [kindsOf] at hk
    injection hk with hk; subst hk
    cases as <;> cases bs <;> simp [eqCells] at he
    subst he
    simp [Op.eqFields]
  | f :: r, n, ks, as, bs, e, hk, he, hx, hy => by
    simp only [kindsOf] at hk
    split at hk
    · rename_i hc
      simp only [Bool.and_eq_true, beq_iff_eq, bne_iff_ne] at hc
      obtain ⟨hoff, hname⟩ := hc
      have key : ∀ (k : Nat) (ks' : List Nat) (desc : TypeDesc), ks = k :: ks' → kindsOf P (n + 1) r = some ks' → P.underlying f.type = some desc → (∀ fs, desc ≠ .struct fs) → (∀ m t, desc ≠ .array m t) →
          (∀ (a b : AV) (x y : Value) (v : Bool), eqCell k a b = some v → VR w a μ I x → VR w b μ I y → (Op.equalIn (d + 1) f.type x y).run P w = .ok v w) → (Op.eqFields (d + 1) xs ys (f :: r)).run P w = .ok e w := by
        intro k ks' desc hks hk' hu hns hna hone
        subst hks
        cases as with
        | nil => cases bs <;> simp [eqCells] at he
        | cons a as =>
          cases bs with
          | nil => simp [eqCells] at he
          | cons b bs =>
            simp only [eqCells] at he
            split at he
            · rename_i v1 v2 h1 h2
              injection he with he
              simp only [VRs] at hx hy
              obtain ⟨x, xr, hxe, hxa, hxr⟩ := hx
              obtain ⟨y, yr, hye, hyb, hyr⟩ := hy
              have hx0 : xs[n]? = some x := by
                have := congrArg (fun l => l[0]?) hxe
                simpa using this
              have hy0 : ys[n]? = some y := by
                have := congrArg (fun l => l[0]?) hye
                simpa using this
              have hag : (isAgg f.type).run P w = .ok false w := by
                rw [run_isAggD hu]
                cases desc <;> first | rfl | exact absurd rfl (hns _) | exact absurd rfl (hna _ _)
              have hpx : (part f.type xs f.offset).run P w = .ok x w := by
                simp only [part, Sem.run_bind, hag, Result.andThen_ok, hoff, hx0]; simp
              have hpy : (part f.type ys f.offset).run P w = .ok y w := by
                simp only [part, Sem.run_bind, hag, Result.andThen_ok, hoff, hy0]; simp
              have hr : (Op.eqFields (d + 1) xs ys r).run P w = .ok v2 w := by
                refine eqFields_ok (μ := μ) (I := I) hk' h2 ?_ ?_
                · have : xs.toList.drop (n + 1) = xr := by rw [← List.drop_drop, hxe]; rfl
                  rw [this]; exact hxr
                · have : ys.toList.drop (n + 1) = yr := by rw [← List.drop_drop, hye]; rfl
                  rw [this]; exact hyr
              have ho := hone a b x y v1 h1 hxa hyb
              rw [Op.eqFields]
              simp only [if_pos hname, Sem.run_bind, hpx, hpy, ho, Result.andThen_ok]
              cases v1
              · simp [← he]
              · simp [← he, hr]
            · cases he
      split at hk
      · rename_i k ks' hu hk'
        injection hk with hk
        refine key 0 ks' _ hk.symm hk' hu (fun _ h => by cases h) (fun _ _ h => by cases h) fun a b x y v hv ha hb => ?_
        cases a <;> cases b <;> simp [eqCell] at hv
        simp only [VR] at ha hb
        subst ha; subst hb
        obtain ⟨hv1, hv2⟩ := hv
        simp only [Op.equalIn, Sem.run_bind, run_underlying hu, Result.andThen_ok, hv1, if_true, Sem.run_pure, ← hv2]
      · rename_i ks' hu hk'
        injection hk with hk
        refine key 1 ks' _ hk.symm hk' hu (fun _ h => by cases h) (fun _ _ h => by cases h) fun a b x y v hv ha hb => ?_
        cases a <;> cases b <;> simp [eqCell] at hv
        simp only [VR] at ha hb
        subst ha; subst hb
        simp only [Op.equalIn, Sem.run_bind, run_underlying hu, Result.andThen_ok, Sem.run_pure, ← hv]
        rename_i s s'
        congr 1
        show ((⟨s.toArray⟩ : ByteArray) == ⟨s'.toArray⟩) = (s == s')
        rw [beq_toListBytes, ByteArray.toList_eq, ByteArray.toList_eq]
      · rename_i ks' hu hk'
        injection hk with hk
        refine key 2 ks' _ hk.symm hk' hu (fun _ h => by cases h) (fun _ _ h => by cases h) fun a b x y v hv ha hb => ?_
        cases a <;> cases b <;> simp [eqCell] at hv
        simp only [VR] at ha hb
        subst ha; subst hb
        simp only [Op.equalIn, Sem.run_bind, run_underlying hu, Result.andThen_ok, Sem.run_pure, ← hv]
      · cases hk
    · cases hk

theorem tabM_ok (P : Program) (mt : Nat → List Bool) (cl : Nat → Option (List Nat)) : TabOK P (tabM P mt cl) := by
  refine ⟨fun t d h => h, fun t cs b h => ?_, fun f fn h => ?_, fun t ks h xs ys as bs e w he μ I hx hy => ?_, fun t ks h => ?_⟩
  · simp only [tabM, zOf] at h
    split at h
    · rename_i i hi
      split at h
      · rename_i zv hz
        split at h
        · rename_i hc
          simp only [Bool.and_eq_true, beq_iff_eq] at hc
          injection h with h; injection h with h1 h2; subst h1; subst h2
          exact ⟨i, zv, hi, hz, by rw [hc.2]; simp, rfl, fun w => csts_ok _, hc.1⟩
        · cases h
      · cases h
    · cases h
  · simp only [tabM, fOf] at h
    split at h
    · rename_i fn' hf
      split at h
      · rename_i hb
        injection h with h; subst h
        exact ⟨hf, hb⟩
      · cases h
    · cases h
  · simp only [tabM, eqsOf] at h
    split at h
    · rename_i fs hu
      split at h
      · cases h
      · rename_i hst
        have hf : P.fieldsOf t = fs := by simp [Program.fieldsOf, hu]
        show (Op.equalIn (9999 + 1) t (.agg xs) (.agg ys)).run P w = .ok e w
        rw [run_equalIn_struct (P := P) w 9999 t xs ys (by rw [hf]; exact hu) (by simpa using hst), hf]
        exact eqFields_ok (d := 9998) h he (by simpa using hx) (by simpa using hy)
    · cases h
  · simp only [tabM, eqsOf] at h
    split at h
    · rename_i fs hu
      split at h
      · cases h
      · have := kindsOf_guard (d := 2 * (P.types.size + Made.depth)) h
        simp only [Program.depth, Program.eqGuardType, hu]
        rw [← Array.any_toList]
        exact this
    · cases h
theorem tabOf_ok (P : Program) : TabOK P (tabOf P) := tabM_ok P _ _
end Go.AM
end
section
/- The abstract machine, part 21: what is told of some functions serves the next. -/
namespace Go.AM

/-- Nothing is known yet. -/
def known0 : Know := ⟨fun _ _ => none, fun _ _ _ => none⟩
/-- One function more is known. -/
def ext (K : Know) (f : Nat) (g : List AV → Option AV) : Know := ⟨fun f' args => if f' = f then g args else K.q f' args, K.m⟩
/-- One function more that is handed own memory is known. -/
def extM (K : Know) (f : Nat) (g : List AV → List (Nat × Blk) → Option (AV × List (Nat × Blk))) : Know :=
  ⟨K.q, fun f' args m => if f' = f then g args m else K.m f' args m⟩
section
variable (K : Know) (f f' : Nat) (g : List AV → Option AV) (gm : List AV → List (Nat × Blk) → Option (AV × List (Nat × Blk))) (args : List AV) (m : List (Nat × Blk))
@[simp] theorem ext_q : (ext K f g).q f' args = if f' = f then g args else K.q f' args := rfl
@[simp] theorem ext_m : (ext K f g).m f' args m = K.m f' args m := rfl
@[simp] theorem extM_q : (extM K f gm).q f' args = K.q f' args := rfl
@[simp] theorem extM_m : (extM K f gm).m f' args m = if f' = f then gm args m else K.m f' args m := rfl
@[simp] theorem known0_q : known0.q f args = none := rfl
@[simp] theorem known0_m : known0.m f args m = none := rfl
end

theorem known0_ok (P : Program) : CallOK P known0 := ⟨(fun _ _ _ h => (by cases h)), (fun _ _ _ _ _ h => (by cases h))⟩
theorem CallOK.ext {P : Program} {K : Know} (h : CallOK P K) {f : Nat} {fn : Func} {g : List AV → Option AV} (hf : P.funcs[f]? = some fn)
    (hn : (fn.body.isSome && !(fn.name == "runtime.NumGoroutine")) = true) (hT : ∀ args r, g args = some r → Told P f args r) : CallOK P (ext K f g) := by
  refine ⟨?_, h.m⟩
  intro f' args r hr
  simp only [AM.ext] at hr
  simp only [Bool.and_eq_true, Bool.not_eq_true'] at hn
  split at hr
  · rename_i e; subst e
    exact ⟨hT args r hr, fn, hf, hn.1, hn.2⟩
  · exact h.q f' args r hr
theorem CallOK.extM {P : Program} {K : Know} (h : CallOK P K) {f : Nat} {fn : Func} {g : List AV → List (Nat × Blk) → Option (AV × List (Nat × Blk))} (hf : P.funcs[f]? = some fn)
    (hn : (fn.body.isSome && !(fn.name == "runtime.NumGoroutine")) = true) (hT : ∀ args m r m', g args m = some (r, m') → ToldM P f args m r m') : CallOK P (extM K f g) := by
  refine ⟨h.q, ?_⟩
  intro f' args m r m' hr
  simp only [AM.extM] at hr
  simp only [Bool.and_eq_true, Bool.not_eq_true'] at hn
  split at hr
  · rename_i e; subst e
    exact ⟨hT args m r m' hr, fn, hf, hn.1, hn.2⟩
  · exact h.m f' args m r m' hr

theorem wi64 {n : Int} (h : -9223372036854775808 ≤ n) (h2 : n ≤ 9223372036854775807) : IntKind.i64.wrap n = n := by
  simp [IntKind.wrap, IntKind.signed, IntKind.bits]; omega

/-- The code ends otherwise than at its end. -/
def stops : Option (Out × St) → Bool
  | some (.normal, _) => false
  | _ => true
/-- A loop goes round N times, from one state to the next, and then ends. -/
theorem iter_to {f : St → Option (Out × St)} {p keep n : Nat} {s0 : St} (C : Nat → St) (N : Nat) (hn : N < n) (hC : s0 = C 0) (hs : ∀ i, i < N → (f (C i)).map (fun r => (r.1, canon p keep r.2)) = some (.normal, C (i + 1)))
    (he : stops (f (C N)) = true) : iter f p keep n s0 = f (C N) := by
  subst hC
  have key : ∀ k j n, j + k = N → k < n → iter f p keep n (C j) = f (C N) := by
    intro k
    induction k with
    | zero =>
      intro j n hj hn
      have : j = N := by omega
      subst this
      cases n with
      | zero => omega
      | succ n =>
        simp only [iter]
        generalize f (C j) = r at he
        match r, he with
        | none, _ => rfl
        | some (.ret, _), _ => rfl
        | some (.exit _, _), _ => rfl
    | succ k ih =>
      intro j n hj hn
      cases n with
      | zero => omega
      | succ n =>
        have h0 := hs j (by omega)
        simp only [Option.map_eq_some_iff, Prod.mk.injEq] at h0
        obtain ⟨⟨o', s'⟩, h1, h2, h3⟩ := h0
        simp only at h2 h3
        subst h2
        simp only [iter, h1, h3]
        exact ih (j + 1) n (by omega) (by omega)
  exact key N 0 n (by omega) hn
@[simp] theorem beq_dec (a b : Int) : (a == b) = decide (a = b) := by cases h : (a == b) <;> simp_all
@[simp] theorem bne_dec (a b : Int) : (a != b) = !decide (a = b) := by simp [bne]
section
variable (k : IntKind) (a b : Int)
theorem intA_add : intA .add k a b = some (.int k (k.wrap (a + b))) := by cases k <;> rfl
theorem intA_sub : intA .sub k a b = some (.int k (k.wrap (a - b))) := by cases k <;> rfl
theorem intA_mul : intA .mul k a b = some (.int k (k.wrap (a * b))) := by cases k <;> rfl
theorem intA_quo : intA .quo k a b = if b = 0 then none else some (.int k (k.wrap (a.tdiv b))) := rfl
theorem intA_rem : intA .rem k a b = if b = 0 then none else some (.int k (a.tmod b)) := rfl
@[simp] theorem intA_eql : intA .eql k a b = some (.bool (decide (a = b))) := by simp [intA]
@[simp] theorem intA_neq : intA .neq k a b = some (.bool (!decide (a = b))) := by simp [intA]
@[simp] theorem intA_lss : intA .lss k a b = some (.bool (decide (a < b))) := rfl
@[simp] theorem intA_leq : intA .leq k a b = some (.bool (decide (a ≤ b))) := rfl
@[simp] theorem intA_gtr : intA .gtr k a b = some (.bool (decide (a > b))) := rfl
@[simp] theorem intA_geq : intA .geq k a b = some (.bool (decide (a ≥ b))) := rfl
theorem intA_and : intA .and k a b = some (.int k (k.wrap (BitVec.ofInt k.bits a &&& BitVec.ofInt k.bits b).toNat)) := by cases k <;> rfl
theorem intA_or : intA .or k a b = some (.int k (k.wrap (BitVec.ofInt k.bits a ||| BitVec.ofInt k.bits b).toNat)) := by cases k <;> rfl
theorem intA_xor : intA .xor k a b = some (.int k (k.wrap (BitVec.ofInt k.bits a ^^^ BitVec.ofInt k.bits b).toNat)) := by cases k <;> rfl
theorem shiftA_shl : shiftA .shl k a b = if b < 0 then none else some (.int k (k.wrap (a * 2 ^ (min b.toNat k.bits)))) := by cases k <;> rfl
theorem shiftA_shr : shiftA .shr k a b = if b < 0 then none else some (.int k (a.fdiv (2 ^ (min b.toNat k.bits)))) := by cases k <;> rfl
theorem unA_neg : unA .neg (.int k a) = some (.int k (k.wrap (0 - a))) := by cases k <;> rfl
theorem unA_xor : unA .xor (.int k a) = some (.int k (k.wrap (BitVec.ofInt k.bits (if k.signed then -1 else k.max) ^^^ BitVec.ofInt k.bits a).toNat)) := by cases k <;> rfl
@[simp] theorem unA_not (c : Bool) : unA .not (.bool c) = some (.bool (!c)) := rfl
end
@[simp] theorem intA_add_i64 (a b : Int) : intA .add .i64 a b = some (.int .i64 (IntKind.i64.wrap (a + b))) := intA_add .i64 a b
@[simp] theorem intA_sub_i64 (a b : Int) : intA .sub .i64 a b = some (.int .i64 (IntKind.i64.wrap (a - b))) := intA_sub .i64 a b
@[simp] theorem intA_mul_i64 (a b : Int) : intA .mul .i64 a b = some (.int .i64 (IntKind.i64.wrap (a * b))) := intA_mul .i64 a b
@[simp] theorem intA_quo_i64 (a b : Int) : intA .quo .i64 a b = if b = 0 then none else some (.int .i64 (IntKind.i64.wrap (a.tdiv b))) := intA_quo .i64 a b
@[simp] theorem intA_rem_i64 (a b : Int) : intA .rem .i64 a b = if b = 0 then none else some (.int .i64 (a.tmod b)) := intA_rem .i64 a b
@[simp] theorem intA_and_i64 (a b : Int) : intA .and .i64 a b = some (.int .i64 (IntKind.i64.wrap (BitVec.ofInt IntKind.i64.bits a &&& BitVec.ofInt IntKind.i64.bits b).toNat)) := intA_and .i64 a b
@[simp] theorem intA_or_i64 (a b : Int) : intA .or .i64 a b = some (.int .i64 (IntKind.i64.wrap (BitVec.ofInt IntKind.i64.bits a ||| BitVec.ofInt IntKind.i64.bits b).toNat)) := intA_or .i64 a b
@[simp] theorem intA_xor_i64 (a b : Int) : intA .xor .i64 a b = some (.int .i64 (IntKind.i64.wrap (BitVec.ofInt IntKind.i64.bits a ^^^ BitVec.ofInt IntKind.i64.bits b).toNat)) := intA_xor .i64 a b
@[simp] theorem shiftA_shl_i64 (a b : Int) : shiftA .shl .i64 a b = if b < 0 then none else some (.int .i64 (IntKind.i64.wrap (a * 2 ^ (min b.toNat IntKind.i64.bits)))) := shiftA_shl .i64 a b
@[simp] theorem shiftA_shr_i64 (a b : Int) : shiftA .shr .i64 a b = if b < 0 then none else some (.int .i64 (a.fdiv (2 ^ (min b.toNat IntKind.i64.bits)))) := shiftA_shr .i64 a b
@[simp] theorem unA_neg_i64 (a : Int) : unA .neg (.int .i64 a) = some (.int .i64 (IntKind.i64.wrap (0 - a))) := unA_neg .i64 a
@[simp] theorem unA_xor_i64 (a : Int) : unA .xor (.int .i64 a) = some (.int .i64 (IntKind.i64.wrap (BitVec.ofInt IntKind.i64.bits (if IntKind.i64.signed then -1 else IntKind.i64.max) ^^^ BitVec.ofInt IntKind.i64.bits a).toNat)) := unA_xor .i64 a
@[simp] theorem intA_add_u64 (a b : Int) : intA .add .u64 a b = some (.int .u64 (IntKind.u64.wrap (a + b))) := intA_add .u64 a b
@[simp] theorem intA_sub_u64 (a b : Int) : intA .sub .u64 a b = some (.int .u64 (IntKind.u64.wrap (a - b))) := intA_sub .u64 a b
@[simp] theorem intA_mul_u64 (a b : Int) : intA .mul .u64 a b = some (.int .u64 (IntKind.u64.wrap (a * b))) := intA_mul .u64 a b
@[simp] theorem intA_quo_u64 (a b : Int) : intA .quo .u64 a b = if b = 0 then none else some (.int .u64 (IntKind.u64.wrap (a.tdiv b))) := intA_quo .u64 a b
@[simp] theorem intA_rem_u64 (a b : Int) : intA .rem .u64 a b = if b = 0 then none else some (.int .u64 (a.tmod b)) := intA_rem .u64 a b
@[simp] theorem intA_and_u64 (a b : Int) : intA .and .u64 a b = some (.int .u64 (IntKind.u64.wrap (BitVec.ofInt IntKind.u64.bits a &&& BitVec.ofInt IntKind.u64.bits b).toNat)) := intA_and .u64 a b
@[simp] theorem intA_or_u64 (a b : Int) : intA .or .u64 a b = some (.int .u64 (IntKind.u64.wrap (BitVec.ofInt IntKind.u64.bits a ||| BitVec.ofInt IntKind.u64.bits b).toNat)) := intA_or .u64 a b
@[simp] theorem intA_xor_u64 (a b : Int) : intA .xor .u64 a b = some (.int .u64 (IntKind.u64.wrap (BitVec.ofInt IntKind.u64.bits a ^^^ BitVec.ofInt IntKind.u64.bits b).toNat)) := intA_xor .u64 a b
@[simp] theorem shiftA_shl_u64 (a b : Int) : shiftA .shl .u64 a b = if b < 0 then none else some (.int .u64 (IntKind.u64.wrap (a * 2 ^ (min b.toNat IntKind.u64.bits)))) := shiftA_shl .u64 a b
@[simp] theorem shiftA_shr_u64 (a b : Int) : shiftA .shr .u64 a b = if b < 0 then none else some (.int .u64 (a.fdiv (2 ^ (min b.toNat IntKind.u64.bits)))) := shiftA_shr .u64 a b
@[simp] theorem unA_neg_u64 (a : Int) : unA .neg (.int .u64 a) = some (.int .u64 (IntKind.u64.wrap (0 - a))) := unA_neg .u64 a
@[simp] theorem unA_xor_u64 (a : Int) : unA .xor (.int .u64 a) = some (.int .u64 (IntKind.u64.wrap (BitVec.ofInt IntKind.u64.bits (if IntKind.u64.signed then -1 else IntKind.u64.max) ^^^ BitVec.ofInt IntKind.u64.bits a).toNat)) := unA_xor .u64 a
@[simp] theorem intA_add_u8 (a b : Int) : intA .add .u8 a b = some (.int .u8 (IntKind.u8.wrap (a + b))) := intA_add .u8 a b
@[simp] theorem intA_sub_u8 (a b : Int) : intA .sub .u8 a b = some (.int .u8 (IntKind.u8.wrap (a - b))) := intA_sub .u8 a b
@[simp] theorem intA_mul_u8 (a b : Int) : intA .mul .u8 a b = some (.int .u8 (IntKind.u8.wrap (a * b))) := intA_mul .u8 a b
@[simp] theorem intA_quo_u8 (a b : Int) : intA .quo .u8 a b = if b = 0 then none else some (.int .u8 (IntKind.u8.wrap (a.tdiv b))) := intA_quo .u8 a b
@[simp] theorem intA_rem_u8 (a b : Int) : intA .rem .u8 a b = if b = 0 then none else some (.int .u8 (a.tmod b)) := intA_rem .u8 a b
@[simp] theorem intA_and_u8 (a b : Int) : intA .and .u8 a b = some (.int .u8 (IntKind.u8.wrap (BitVec.ofInt IntKind.u8.bits a &&& BitVec.ofInt IntKind.u8.bits b).toNat)) := intA_and .u8 a b
@[simp] theorem intA_or_u8 (a b : Int) : intA .or .u8 a b = some (.int .u8 (IntKind.u8.wrap (BitVec.ofInt IntKind.u8.bits a ||| BitVec.ofInt IntKind.u8.bits b).toNat)) := intA_or .u8 a b
@[simp] theorem intA_xor_u8 (a b : Int) : intA .xor .u8 a b = some (.int .u8 (IntKind.u8.wrap (BitVec.ofInt IntKind.u8.bits a ^^^ BitVec.ofInt IntKind.u8.bits b).toNat)) := intA_xor .u8 a b
@[simp] theorem shiftA_shl_u8 (a b : Int) : shiftA .shl .u8 a b = if b < 0 then none else some (.int .u8 (IntKind.u8.wrap (a * 2 ^ (min b.toNat IntKind.u8.bits)))) := shiftA_shl .u8 a b
@[simp] theorem shiftA_shr_u8 (a b : Int) : shiftA .shr .u8 a b = if b < 0 then none else some (.int .u8 (a.fdiv (2 ^ (min b.toNat IntKind.u8.bits)))) := shiftA_shr .u8 a b
@[simp] theorem unA_neg_u8 (a : Int) : unA .neg (.int .u8 a) = some (.int .u8 (IntKind.u8.wrap (0 - a))) := unA_neg .u8 a
@[simp] theorem unA_xor_u8 (a : Int) : unA .xor (.int .u8 a) = some (.int .u8 (IntKind.u8.wrap (BitVec.ofInt IntKind.u8.bits (if IntKind.u8.signed then -1 else IntKind.u8.max) ^^^ BitVec.ofInt IntKind.u8.bits a).toNat)) := unA_xor .u8 a
@[simp] theorem intA_add_u32 (a b : Int) : intA .add .u32 a b = some (.int .u32 (IntKind.u32.wrap (a + b))) := intA_add .u32 a b
@[simp] theorem intA_sub_u32 (a b : Int) : intA .sub .u32 a b = some (.int .u32 (IntKind.u32.wrap (a - b))) := intA_sub .u32 a b
@[simp] theorem intA_mul_u32 (a b : Int) : intA .mul .u32 a b = some (.int .u32 (IntKind.u32.wrap (a * b))) := intA_mul .u32 a b
@[simp] theorem intA_quo_u32 (a b : Int) : intA .quo .u32 a b = if b = 0 then none else some (.int .u32 (IntKind.u32.wrap (a.tdiv b))) := intA_quo .u32 a b
@[simp] theorem intA_rem_u32 (a b : Int) : intA .rem .u32 a b = if b = 0 then none else some (.int .u32 (a.tmod b)) := intA_rem .u32 a b
@[simp] theorem intA_and_u32 (a b : Int) : intA .and .u32 a b = some (.int .u32 (IntKind.u32.wrap (BitVec.ofInt IntKind.u32.bits a &&& BitVec.ofInt IntKind.u32.bits b).toNat)) := intA_and .u32 a b
@[simp] theorem intA_or_u32 (a b : Int) : intA .or .u32 a b = some (.int .u32 (IntKind.u32.wrap (BitVec.ofInt IntKind.u32.bits a ||| BitVec.ofInt IntKind.u32.bits b).toNat)) := intA_or .u32 a b
@[simp] theorem intA_xor_u32 (a b : Int) : intA .xor .u32 a b = some (.int .u32 (IntKind.u32.wrap (BitVec.ofInt IntKind.u32.bits a ^^^ BitVec.ofInt IntKind.u32.bits b).toNat)) := intA_xor .u32 a b
@[simp] theorem shiftA_shl_u32 (a b : Int) : shiftA .shl .u32 a b = if b < 0 then none else some (.int .u32 (IntKind.u32.wrap (a * 2 ^ (min b.toNat IntKind.u32.bits)))) := shiftA_shl .u32 a b
@[simp] theorem shiftA_shr_u32 (a b : Int) : shiftA .shr .u32 a b = if b < 0 then none else some (.int .u32 (a.fdiv (2 ^ (min b.toNat IntKind.u32.bits)))) := shiftA_shr .u32 a b
@[simp] theorem unA_neg_u32 (a : Int) : unA .neg (.int .u32 a) = some (.int .u32 (IntKind.u32.wrap (0 - a))) := unA_neg .u32 a
@[simp] theorem unA_xor_u32 (a : Int) : unA .xor (.int .u32 a) = some (.int .u32 (IntKind.u32.wrap (BitVec.ofInt IntKind.u32.bits (if IntKind.u32.signed then -1 else IntKind.u32.max) ^^^ BitVec.ofInt IntKind.u32.bits a).toNat)) := unA_xor .u32 a
attribute [simp] wi64
example : IntKind.i64.wrap 24 = 24 := by simp
example : IntKind.i64.wrap (-24) = -24 := by simp
theorem opt_map_some {α β : Type} (f : α → β) (a : α) : (some a).map f = some (f a) := rfl
attribute [simp] codeA up runL stepA wantedA eop qop ev evs optEv putA drawA preN valP idsIn addA allA pickA cst convA binA isShift strA start fnA isEnd retA resA oneA expR exp2 exp2L expL exp1 apartL
attribute [simp] look upd del frz only storeA newsA appA deepA seqD loadA reach isAggD cellsOf cellL cellish kdL kdOf callA exC adopt take2 take2L takeL take1 flatR flat2 flat2L flat1 flatL
attribute [simp] sliceA fieldAddrA indexAddrA partA indexA fieldA fillA placesA buildA builtinA eqCell eqCells bytesOf
attribute [simp] canon mask renC renM pos ded idsOf refs firstId
@[simp] theorem low_def (f : Nat) : low f = decide (f < 1000000000) := by unfold low; rfl
@[simp] theorem unbind_def (f : Nat) : unbind f = f - 1000000000 := by unfold unbind; rfl
attribute [simp] drawB tailB floOK noFl
attribute [simp] passA clC clB clM rts outM back renB callM startM fnM
example : low 69 = true := by simp
example : unbind 1000000069 = 69 := by simp

/-- A loop that a measure ends: an invariant, and where it stops. -/
theorem iter_meas {σ : Type} {f : St → Option (Out × St)} {p keep : Nat} (S : σ → St) (Inv : σ → Prop) (go : σ → Bool) (step : σ → σ) (μ : σ → Nat)
    (hs : ∀ x, Inv x → go x = true → (f (S x)).map (fun r => (r.1, canon p keep r.2)) = some (.normal, S (step x)) ∧ Inv (step x) ∧ μ (step x) < μ x)
    (he : ∀ x, Inv x → go x = false → stops (f (S x)) = true) : ∀ (n : Nat) (x : σ), Inv x → μ x < n → ∃ y, Inv y ∧ go y = false ∧ iter f p keep n (S x) = f (S y) := by
  intro n
  induction n with
  | zero => intro x _ h; omega
  | succ n ih =>
    intro x hI hn
    cases hg : go x
    · refine ⟨x, hI, hg, ?_⟩
      have := he x hI hg
      simp only [iter]
      generalize f (S x) = r at this
      match r, this with
      | none, _ => rfl
      | some (.ret, _), _ => rfl
      | some (.exit _, _), _ => rfl
    · obtain ⟨h1, h2, h3⟩ := hs x hI hg
      simp only [Option.map_eq_some_iff, Prod.mk.injEq] at h1
      obtain ⟨⟨o', s'⟩, h4, h5, h6⟩ := h1
      simp only at h5 h6
      subst h5
      obtain ⟨y, g1, g2, g3⟩ := ih (step x) h2 (by omega)
      refine ⟨y, g1, g2, ?_⟩
      simp only [iter, h4, h6]
      exact g3
end Go.AM
end
