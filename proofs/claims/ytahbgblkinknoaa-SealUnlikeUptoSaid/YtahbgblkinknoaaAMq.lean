/- The abstract machine, part 17: states that say less; what is handed back; functions. -/
import Derived.Test.YtahbgblkinknoaaAMp
set_option linter.unusedVariables false
set_option linter.unusedSimpArgs false
set_option linter.unnecessarySimpa false
namespace Go.AM

def pos : List Nat → Nat → Option Nat
  | [], _ => none
  | k :: r, b => if k == b then some 0 else (pos r b).map (· + 1)
def renC (ρ : Nat → Option Nat) : Nat → AV → AV
  | _, .int k n => .int k n
  | _, .bool b => .bool b
  | _, .str s => .str s
  | _, .nilp => .nilp
  | _, .snil => .snil
  | _, .sl fl cs len => .sl fl cs len
  | _, .rptr cs => .rptr cs
  | n + 1, .ref b off len sz => match ρ b with
    | some b' => .ref b' off len sz
    | none => .any
  | n + 1, .ptr b off => match ρ b with
    | some b' => .ptr b' off
    | none => .any
  | n + 1, .agg cs => .agg (cs.map (renC ρ n))
  | n + 1, .tup cs => .tup (cs.map (renC ρ n))
  | n + 1, .fn f cs => .fn f (cs.map (renC ρ n))
  | _, _ => .any
def mask : Nat → List AV → List AV
  | _, [] => []
  | keep, c :: cs => (if keep % 2 = 1 then c else .any) :: mask (keep / 2) cs
def ded : List Nat → List Nat
  | [] => []
  | k :: r => k :: (ded r).filter (· != k)
def renM (ρ : Nat → Option Nat) (m : List (Nat × Blk)) : Nat → List Nat → List (Nat × Blk)
  | _, [] => []
  | n, b :: r => match look m b with
    | some B => (n, ⟨if B.kd ≤ 1 then B.cs else B.cs.map (renC ρ 4), B.kd, B.fz⟩) :: renM ρ m (n + 1) r
    | none => renM ρ m (n + 1) r
def idsOf (m : List (Nat × Blk)) (t : List AV) : List Nat := ded ((t.flatMap (refs m 4)).filter fun b => (look m b).isSome)
/-- Some temporaries are forgotten, the own blocks that are left are numbered anew. -/
def canon (keep : Nat) (s : St) : St :=
  let t := mask keep s.t
  let ids := idsOf s.m t
  ⟨t.map (renC (pos ids) 4), renM (pos ids) s.m 0 ids, ids.length⟩

/-- A row's cells are closed: what they name is frozen. -/
def closeB (b : Nat) (m : List (Nat × Blk)) : Option (List (Nat × Blk)) :=
  match look m b with
  | some B => if B.kd ≤ 1 then some m else match deepA m B.cs B.kd with
    | some (news, kd', ids) => if ids.contains b then none else some (upd (frz ids m) b ⟨news, kd', B.fz⟩)
    | none => none
  | none => none

section
variable {P : Program} {T : Tab} {M0 A : Nat → Prop} {w0 w w' : World} {μ μ' : Locs} {I I' : Nat → Prop} {m m' mv : List (Nat × Blk)} {q : Nat} {o : Oper} {a : Act} {t t' : List AV} {call : Nat → List AV → Option AV} {ops : Array Oper}

theorem pos_get : ∀ {ids : List Nat} {b n : Nat}, pos ids b = some n → ids[n]? = some b
  | [], b, n, h => by cases h
  | k :: r, b, n, h => by
    simp only [pos] at h
    split at h
    · rename_i e
      injection h with h; subst h
      simpa using e
    · simp only [Option.map_eq_some_iff] at h
      obtain ⟨n', h, rfl⟩ := h
      simpa using pos_get h

theorem renC_ok {ids : List Nat} : ∀ (n : Nat) (c : AV) (x : Value), VR w c μ I x → VR w (renC (pos ids) n c) (fun n => (ids[n]?).bind μ) I x := by
  have hpl : ∀ c : AV, ∀ x, kdOf c ≤ 1 → VR w c μ I x → VR w c (fun n => (ids[n]?).bind μ) I x := by
    intro c x hc h
    cases c <;> simp [kdOf] at hc <;> simp only [VR] at h ⊢ <;> exact h
  intro n
  induction n with
  | zero => intro c x h; cases c <;> simp only [renC] <;> first | (simp only [VR]; done) | exact hpl _ x (by simp [kdOf]) h
  | succ n ih =>
    have hL : ∀ (cs : List AV) (vs : List Value), VRs w cs μ I vs → VRs w (cs.map (renC (pos ids) n)) (fun n => (ids[n]?).bind μ) I vs := by
      intro cs
      induction cs with
      | nil => intro vs h; simpa [VRs] using h
      | cons c cs ihc =>
        intro vs h
        simp only [VRs] at h
        obtain ⟨x, xs, rfl, h1, h2⟩ := h
        exact VRs.cons (ih c x h1) (ihc xs h2)
    intro c x h
    cases c <;> simp only [renC] <;> try (first | (simp only [VR]; done) | exact hpl _ x (by simp [kdOf]) h)
    case agg cs =>
      simp only [VR] at h ⊢
      obtain ⟨vs, rfl, h⟩ := h
      exact ⟨vs, rfl, hL cs vs h⟩
    case tup cs =>
      simp only [VR] at h ⊢
      obtain ⟨vs, rfl, h⟩ := h
      exact ⟨vs, rfl, hL cs vs h⟩
    case fn f cs =>
      simp only [VR] at h ⊢
      obtain ⟨vs, rfl, h⟩ := h
      exact ⟨vs, rfl, hL cs vs h⟩
    case ref b off len sz =>
      split
      · rename_i b' hb
        simp only [VR] at h ⊢
        obtain ⟨l, hl, h⟩ := h
        exact ⟨l, by rw [pos_get hb]; exact hl, h⟩
      · simp only [VR]
    case ptr b off =>
      split
      · rename_i b' hb
        simp only [VR] at h ⊢
        obtain ⟨l, hl, h⟩ := h
        exact ⟨l, by rw [pos_get hb]; exact hl, h⟩
      · simp only [VR]
theorem renL_ok {ids : List Nat} (n : Nat) : ∀ (cs : List AV) (vs : List Value), VRs w cs μ I vs → VRs w (cs.map (renC (pos ids) n)) (fun n => (ids[n]?).bind μ) I vs
  | [], vs, h => by simpa [VRs] using h
  | c :: cs, vs, h => by
    simp only [VRs] at h
    obtain ⟨x, xs, rfl, h1, h2⟩ := h
    exact VRs.cons (renC_ok n c x h1) (renL_ok n cs xs h2)

theorem mask_ok : ∀ (keep : Nat) (cs : List AV) (vs : List Value), VRs w cs μ I vs → VRs w (mask keep cs) μ I vs
  | _, [], vs, h => h
  | keep, c :: cs, vs, h => by
    simp only [VRs] at h
    obtain ⟨x, xs, rfl, h1, h2⟩ := h
    simp only [mask]
    refine VRs.cons ?_ (mask_ok (keep / 2) cs xs h2)
    split
    · exact h1
    · simp only [VR]

theorem ded_nodup : ∀ l : List Nat, (ded l).Nodup
  | [] => List.nodup_nil
  | k :: r => by
    simp only [ded]
    refine List.nodup_cons.2 ⟨by simp, ?_⟩
    exact (ded_nodup r).filter _

theorem look_renM {ρ : Nat → Option Nat} : ∀ {ids : List Nat} {n k : Nat} {B' : Blk}, look (renM ρ m n ids) k = some B' →
    ∃ i b B, k = n + i ∧ ids[i]? = some b ∧ look m b = some B ∧ B' = ⟨if B.kd ≤ 1 then B.cs else B.cs.map (renC ρ 4), B.kd, B.fz⟩
  | [], n, k, B', h => by simp [renM, look] at h
  | b :: r, n, k, B', h => by
    simp only [renM] at h
    have hrest : look (renM ρ m (n + 1) r) k = some B' → ∃ i b' B, k = n + i ∧ (b :: r)[i]? = some b' ∧ look m b' = some B ∧ B' = ⟨if B.kd ≤ 1 then B.cs else B.cs.map (renC ρ 4), B.kd, B.fz⟩ := by
      intro h
      obtain ⟨i, b', B, h1, h2, h3, h4⟩ := look_renM h
      exact ⟨i + 1, b', B, by omega, by simpa using h2, h3, h4⟩
    split at h
    · rename_i B hB
      simp only [look] at h
      split at h
      · rename_i e
        injection h with h
        exact ⟨0, b, B, by simpa using (beq_iff_eq.1 e).symm, by simp, hB, h.symm⟩
      · exact hrest h
    · exact hrest h

theorem canon_weak (keep : Nat) (s : St) : Weak s (canon keep s) := by
  intro M0 A w0 a w hM ⟨μ, I, hS, ht, hn, hd⟩
  have hnd : (idsOf s.m (mask keep s.t)).Nodup := ded_nodup _
  refine ⟨fun n => ((idsOf s.m (mask keep s.t))[n]?).bind μ, I, ⟨fun k B' hb => ?_, fun k k' B' B'' l l' hb hb' hne hfz hl hl' hn hn' => ?_, hS.immLt, hS.immA, hS.immN, hS.keep⟩, ?_, fun b hb => ?_, hd⟩
  · obtain ⟨i, b, B, rfl, hi, hB, rfl⟩ := look_renM hb
    obtain ⟨l, hl, hBO⟩ := hS.blks b B hB
    refine ⟨l, by simp only [Nat.zero_add, hi, Option.bind_some]; exact hl, ?_⟩
    rcases hBO with ⟨h1, h2⟩ | ⟨h1, ⟨C, ct, fr, vs, a1, a2, a3, a4, a5, a6, a7⟩, h3, h4⟩
    · refine .inl ⟨h1, ?_⟩
      simp [h2]
    · have hlen : (if B.kd ≤ 1 then B.cs else B.cs.map (renC (pos (idsOf s.m (mask keep s.t))) 4)).length = B.cs.length := by split <;> simp
      refine .inr ⟨h1, ⟨C, ct, fr, vs, a1, a2, a3, by simp only [hlen]; exact a4, by simp only [hlen]; exact a5, ?_, a7⟩, h3, h4⟩
      by_cases hk : B.kd ≤ 1
      · simp only [hk, if_true]
        unfold kμ at a6 ⊢
        rw [if_pos hk] at a6 ⊢
        exact a6
      · simp only [hk, if_false]
        have e1 : ∀ μ : Locs, kμ B.kd μ = μ := fun μ => by unfold kμ; rw [if_neg hk]
        rw [e1] at a6 ⊢
        exact renL_ok 4 _ _ a6
  · obtain ⟨i, b, B, rfl, hi, hB, rfl⟩ := look_renM hb
    obtain ⟨i', b', B2, rfl, hi', hB2, rfl⟩ := look_renM hb'
    simp only [Nat.zero_add, hi, hi', Option.bind_some] at hl hl'
    refine hS.inj b b' B B2 l l' hB hB2 (fun e => ?_) hfz hl hl' hn hn'
    subst e
    apply hne
    have h1 : i < (idsOf s.m (mask keep s.t)).length := (List.getElem?_eq_some_iff.1 hi).1
    have := (List.getElem?_inj h1 hnd).1 (hi.trans hi'.symm)
    omega
  · exact renL_ok 4 _ _ (mask_ok keep _ _ ht)
  · have hb' : (idsOf s.m (mask keep s.t)).length ≤ b := hb
    simp only [List.getElem?_eq_none hb', Option.bind_none]

theorem SR.swap {b : Nat} {B B' : Blk} (hS : SR M0 A w0 w μ I m) (hb : look m b = some B) (hfz : B'.fz = B.fz) (hnil : B.cs = [] → B'.cs = []) (hH : ∀ l, μ b = some l → Held w μ I B l → Held w μ I B' l) :
    SR M0 A w0 w μ I (upd m b B') := by
  have key : ∀ x X, look (upd m b B') x = some X → ∃ X0, look m x = some X0 ∧ X.fz = X0.fz ∧ ((x = b ∧ X = B') ∨ X = X0) := by
    intro x X hx
    rw [look_upd hb] at hx
    split at hx
    · rename_i e; injection hx with hx; subst hx; subst e; exact ⟨B, hb, hfz, .inl ⟨rfl, rfl⟩⟩
    · exact ⟨X, hx, rfl, .inr rfl⟩
  refine ⟨fun x X hx => ?_, fun x y X Y lx ly hx hy hne hf hlx hly hnx hny => ?_, hS.immLt, hS.immA, hS.immN, hS.keep⟩
  · obtain ⟨X0, h0, hf, h1⟩ := key x X hx
    obtain ⟨l, hl, hBO⟩ := hS.blks x X0 h0
    refine ⟨l, hl, ?_⟩
    rcases h1 with ⟨rfl, rfl⟩ | rfl
    · rw [hb] at h0; injection h0 with h0; subst h0
      rcases hBO with ⟨h1, h2⟩ | ⟨h1, h2, h3, h4⟩
      · exact .inl ⟨h1, hnil h2⟩
      · exact .inr ⟨h1, hH l hl h2, fun e => h3 (hf ▸ e), fun e => h4 (hf ▸ e)⟩
    · exact hBO
  · obtain ⟨X0, h0, hf0, _⟩ := key x X hx
    obtain ⟨Y0, g0, _, _⟩ := key y Y hy
    exact hS.inj x y X0 Y0 lx ly h0 g0 hne (hf0 ▸ hf) hlx hly hnx hny

theorem closeB_weak {b : Nat} {s : St} {m' : List (Nat × Blk)} (h : closeB b s.m = some m') : Weak s ⟨s.t, m', s.nx⟩ := by
  intro M0 A w0 a w hM ⟨μ, I, hS, ht, hn, hd⟩
  unfold closeB at h
  split at h
  · rename_i B hB
    split at h
    · injection h with h; subst h
      exact ⟨μ, I, hS, ht, hn, hd⟩
    · rename_i hk
      split at h
      · rename_i news kd' ids hdeep
        split at h
        · cases h
        · rename_i hc
          injection h with h; subst h
          -- the cells, as they are in memory
          obtain ⟨l, hl, hBO⟩ := hS.blks b B hB
          rcases hBO with ⟨h1, h2⟩ | ⟨h1, ⟨C, ct, fr, vs, a1, a2, a3, a4, a5, a6, a7⟩, h3, h4⟩
          · have hd0 : deepA s.m B.cs B.kd = some ([], 0, []) := by
              unfold deepA
              rw [if_neg hk, h2]
              simp [kdL]
            rw [hd0] at hdeep
            injection hdeep with e; injection e with e1 e2; injection e2 with e2 e3
            subst e1; subst e2; subst e3
            obtain ⟨I', S, hS', _⟩ := hS.freeze hM []
            have hB2 : look (frz [] s.m) b = some B := by rw [look_frz, hB]; simp
            refine ⟨μ, I', hS'.swap hB2 rfl (fun _ => rfl) (fun l' hl' hH => ?_), VRs.stays _ S _ ht, hn, hd⟩
            rw [hl] at hl'; injection hl' with e; subst e
            obtain ⟨C, ct, fr, vs, a1, a2, a3, a4, a5, a6, a7⟩ := hH
            refine ⟨C, ct, fr, [], a1, a2, a3, (by simp; omega), (fun e => by cases e), (by simp [VRs]), (fun j x hx => by simp at hx)⟩
          · obtain ⟨I', S, hS', hnv, hkd'⟩ := deepA_ok hS hM hdeep a6
            have hB2 : look (frz ids s.m) b = some B := by rw [look_frz, hB]; simp only [Option.map_some]; rw [if_neg hc]
            have hnl := hnv.length
            have hvl := a6.length
            refine ⟨μ, I', hS'.swap hB2 rfl (fun e => ?_) (fun l' hl' hH => ?_), VRs.stays _ S _ ht, hn, hd⟩
            · have : news.length = 0 := by rw [← hnl, hvl, e]; rfl
              exact List.eq_nil_of_length_eq_zero this
            · rw [hl] at hl'; injection hl' with e; subst e
              refine ⟨C, ct, fr, vs, a1, a2, a3, by show l.base + news.length ≤ l.lim; omega, fun e => ?_, ?_, a7⟩
              · have e' : kd' = 2 := e
                omega
              · show VRs w news (kμ kd' μ) (kI kd' I') vs
                unfold kμ; rw [if_pos hkd']; exact hnv
      · cases h
  · cases h
end
end Go.AM
