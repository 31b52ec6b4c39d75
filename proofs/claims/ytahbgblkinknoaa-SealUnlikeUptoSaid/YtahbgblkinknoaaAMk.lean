/- The abstract machine, part 11: what is written. -/
import Derived.Test.YtahbgblkinknoaaAMj
import Derived.Laws.CopyRow
set_option linter.unusedVariables false
set_option linter.unusedSimpArgs false
set_option linter.unnecessarySimpa false
namespace Go.AM

def frz (ids : List Nat) : List (Nat × Blk) → List (Nat × Blk)
  | [] => []
  | (k, B) :: r => (k, if ids.contains k then ⟨B.cs, B.kd, true⟩ else B) :: frz ids r
def only (ids : List Nat) : List (Nat × Blk) → List (Nat × Blk)
  | [] => []
  | (k, B) :: r => if ids.contains k then (k, B) :: only ids r else only ids r
/-- The own blocks that a value names. -/
def refs (m : List (Nat × Blk)) : Nat → AV → List Nat
  | n + 1, .ref b _ _ _ => b :: (match look m b with | some B => if B.kd ≤ 1 then [] else B.cs.flatMap (refs m n) | none => [])
  | n + 1, .ptr b _ => b :: (match look m b with | some B => if B.kd ≤ 1 then [] else B.cs.flatMap (refs m n) | none => [])
  | n + 1, .agg cs => cs.flatMap (refs m n)
  | n + 1, .tup cs => cs.flatMap (refs m n)
  | n + 1, .fn _ cs => cs.flatMap (refs m n)
  | _, _ => []

/-- A cell is written, or some that lie side by side. -/
def storeA (T : Tab) (m : List (Nat × Blk)) (ty : Nat) (a v : AV) : Option (List (Nat × Blk)) :=
  match a, T.z ty, cellsOf v with
  | .ptr b off, some (z, _), some cs =>
    match look m b with
    | some B => if B.fz = false ∧ cs.length = z.length ∧ off + cs.length ≤ B.cs.length ∧ kdL cs ≤ B.kd then
        some (upd m b ⟨B.cs.take off ++ cs ++ B.cs.drop (off + cs.length), B.kd, false⟩) else none
    | none => none
  | _, _, _ => none

/-- What is appended: cells, how many, their kind. -/
def newsA (m : List (Nat × Blk)) (y : AV) (sz : Nat) : Option (List AV × Nat × Nat) :=
  match y with
  | .snil => some ([], 0, 0)
  | .sl fl cs len => if len * sz ≤ cs.length ∧ cellL (cs.take (len * sz)) = true then some (cs.take (len * sz), len, if fl then 0 else 1) else none
  | .ref b off len sz' => if sz' = sz then (match look m b with
      | some B => if off + len * sz ≤ B.cs.length ∧ cellL ((B.cs.drop off).take (len * sz)) = true then some ((B.cs.drop off).take (len * sz), len, B.kd) else none
      | none => none) else none
  | .str s => if sz = 1 then some (s.map fun c => .int .u8 c.toNat, s.length, 0) else none
  | _ => none
def seqD : TypeDesc → Bool
  | .slice _ | .string => true
  | _ => false
/-- The cells as they may lie in a row: closed; which own blocks they name. -/
def deepA (m : List (Nat × Blk)) (raw : List AV) (kd : Nat) : Option (List AV × Nat × List Nat) :=
  if kd ≤ 1 then some (raw, kd, [])
  else match raw.mapM (exC (only (raw.flatMap (refs m 4)) m) 4) with
    | some news => if kdL news ≤ 1 then some (news, kdL news, raw.flatMap (refs m 4)) else none
    | none => none
def appA (T : Tab) (m : List (Nat × Blk)) (q : Nat) (tys : Array Nat) (x y : AV) : Option (AV × List (Nat × Blk)) :=
  match (tys[0]?).bind T.u, (tys[1]?).bind T.u with
  | some (.slice e), some d =>
    if seqD d then
      match T.z e with
      | some (z, by_) =>
        match newsA m y z.length with
        | some (raw, n, kd) =>
          match deepA m raw kd with
          | some (news, kd', ids) =>
            if by_ ≤ 1000 then
              match x with
              | .snil => if n = 0 then some (.snil, m) else if n ≤ 1000000000 then some (.ref q 0 n z.length, frz ids m ++ [(q, ⟨news, kd', false⟩)]) else none
              | .ref b off len sz =>
                match look (frz ids m) b with
                | some B => if B.fz = false ∧ B.kd ≤ 1 ∧ sz = z.length ∧ off + len * sz = B.cs.length ∧ len + n ≤ 1000000000 then
                    some (.ref q 0 (len + n) sz, del (frz ids m) b ++ [(q, ⟨B.cs.drop off ++ news, max B.kd kd', false⟩)]) else none
                | none => none
              | _ => none
            else none
          | none => none
        | none => none
      | none => none
    else none
  | _, _ => none

/-- Any operation. -/
def eop (T : Tab) (call : Nat → List AV → Option AV) (q : Nat) (t : List AV) (m : List (Nat × Blk)) (o : Oper) : Option (AV × List (Nat × Blk)) :=
  match o.op with
  | .store ty a v => (storeA T m ty (ev t a) (ev t v)).map fun m' => (.tup [], m')
  | .call c => match c.callee with
    | .builtin .append => match evs t c.args with
      | [x, y] => appA T m q c.argTypes x y
      | _ => none
    | _ => (qop T call q t m o).map fun r => (r.1, m ++ r.2)
  | _ => (qop T call q t m o).map fun r => (r.1, m ++ r.2)

/-- What any operation leaves. -/
def EK (M0 A : Nat → Prop) (w0 w : World) (μ : Locs) (I : Nat → Prop) (q : Nat) (v : AV) (m' : List (Nat × Blk)) : Value → World → Prop := fun x w' =>
  ∃ μ' I', Stays μ μ' I I' w w' ∧ SR M0 A w0 w' μ' I' m' ∧ (∀ b, b < q ∨ q + 16 ≤ b → μ' b = μ b) ∧ VR w' v μ' I' x

section
variable {P : Program} {T : Tab} {M0 A : Nat → Prop} {w0 w w' : World} {μ : Locs} {I : Nat → Prop} {m m' mv : List (Nat × Blk)} {q : Nat} {o : Oper} {a : Act} {t : List AV} {call : Nat → List AV → Option AV}

theorem look_frz (ids : List Nat) (m : List (Nat × Blk)) (b : Nat) : look (frz ids m) b = (look m b).map fun B => if ids.contains b then ⟨B.cs, B.kd, true⟩ else B := by
  induction m with
  | nil => rfl
  | cons x m ih =>
    obtain ⟨k, B⟩ := x
    simp only [frz, look]
    by_cases h : (k == b) = true
    · rw [if_pos h, if_pos h]
      have : k = b := by simpa using h
      subst this; rfl
    · rw [if_neg h, if_neg h]; exact ih
theorem look_only (ids : List Nat) (m : List (Nat × Blk)) (b : Nat) (B : Blk) (h : look (only ids m) b = some B) : look m b = some B ∧ ids.contains b = true := by
  induction m with
  | nil => simp [only, look] at h
  | cons x m ih =>
    obtain ⟨k, C⟩ := x
    simp only [only] at h
    simp only [look]
    by_cases hk : (k == b) = true
    · have : k = b := by simpa using hk
      subst this
      rw [if_pos hk]
      split at h
      · rename_i hc
        simp only [look, hk, if_true] at h
        exact ⟨h, hc⟩
      · rename_i hc
        exact absurd (ih h).2 hc
    · rw [if_neg hk]
      split at h
      · simp only [look, hk] at h; exact ih (by simpa using h)
      · exact ih h
theorem look_del (m : List (Nat × Blk)) (b x : Nat) : look (del m b) x = if x = b then none else look m x := by
  induction m with
  | nil => simp [del, look]
  | cons y m ih =>
    obtain ⟨k, C⟩ := y
    simp only [del]
    by_cases hk : (k == b) = true
    · have : k = b := by simpa using hk
      subst this
      rw [if_pos hk, ih]
      split
      · rfl
      · rename_i hx
        simp only [look]
        rw [if_neg (by simpa using fun e => hx e.symm)]
    · rw [if_neg hk]
      simp only [look]
      by_cases hx : (k == x) = true
      · rw [if_pos hx, if_pos hx]
        have : k = x := by simpa using hx
        subst this
        rw [if_neg (by simpa using hk)]
      · rw [if_neg hx, if_neg hx, ih]
theorem look_upd {m : List (Nat × Blk)} {b : Nat} {B B' : Blk} (hb : look m b = some B) (x : Nat) : look (upd m b B') x = if x = b then some B' else look m x := by
  induction m with
  | nil => simp [look] at hb
  | cons y m ih =>
    obtain ⟨k, C⟩ := y
    simp only [upd]
    by_cases hk : (k == b) = true
    · have : k = b := by simpa using hk
      subst this
      rw [if_pos hk]
      simp only [look]
      by_cases hx : (k == x) = true
      · have : k = x := by simpa using hx
        subst this; simp
      · rw [if_neg hx, if_neg hx, if_neg (by simpa using fun e => hx (by simp [e]))]
    · rw [if_neg hk]
      simp only [look] at hb ⊢
      rw [if_neg hk] at hb
      by_cases hx : (k == x) = true
      · have : k = x := by simpa using hx
        subst this
        rw [if_pos hx, if_pos hx, if_neg (by simpa using hk)]
      · rw [if_neg hx, if_neg hx, ih hb]

/-- Fewer blocks. -/
theorem SR.sub (hS : SR M0 A w0 w μ I m) (h : ∀ b B, look m' b = some B → look m b = some B) : SR M0 A w0 w μ I m' :=
  ⟨fun b B hb => hS.blks b B (h b B hb), fun b b' B B' l l' hb hb' => hS.inj b b' B B' l l' (h b B hb) (h b' B' hb'), hS.immLt, hS.immA, hS.immN, hS.keep⟩

/-- One own block is written; it may go by another name from now on. -/
theorem SR.wrote {b : Nat} {B B' : Blk} {l l' : Loc} (hS : SR M0 A w0 w μ I m) (hb : look m b = some B) (hl : μ b = some l) (hn : l.isNil = false) (hfz : B.fz = false) (hfz' : B'.fz = false)
    (hq : (q = b ∧ l' = l) ∨ μ q = none) (hl' : l'.blk = l.blk) (hn' : l'.isNil = false)
    (hm : ∀ x X, look m' x = some X → (x = q ∧ X = B') ∨ (x ≠ q ∧ x ≠ b ∧ look m x = some X))
    (hold : ∀ k, k ≠ l.blk → w'.heap[k]? = w.heap[k]?) (hsz : w.heap.size = w'.heap.size) (hos : w'.os = w.os) (htp : w'.tape = w.tape) (hout : w'.output = w.output)
    (hH : ∀ (S : Stays μ (setLoc μ q l') I I w w'), Held w' (setLoc μ q l') I B' l') :
    Stays μ (setLoc μ q l') I I w w' ∧ SR M0 A w0 w' (setLoc μ q l') I m' := by
  obtain ⟨l0, hl0, hBO⟩ := hS.blks b B hb
  rw [hl] at hl0; injection hl0 with e; subst e
  obtain ⟨hnI, hmut⟩ : ¬ I l.blk ∧ (M0 l.blk ∨ w0.heap.size ≤ l.blk) := by
    rcases hBO with ⟨h1, _⟩ | ⟨_, _, _, h4⟩
    · rw [hn] at h1; cases h1
    · exact h4 hfz
  have S : Stays μ (setLoc μ q l') I I w w' := by
    refine ⟨fun x lx hx => ?_, fun _ h => h, fun k hk => hold k fun e => hnI (e ▸ hk)⟩
    by_cases e : x = q
    · subst e
      rw [setLoc_self]
      rcases hq with ⟨h1, h2⟩ | h1
      · subst h1; rw [hl] at hx; injection hx with hx; subst hx; rw [h2]
      · rw [h1] at hx; cases hx
    · rw [setLoc_ne _ _ e]; exact hx
  have hin := hS.lt hb hl hn
  have hother : ∀ x X lx, look m x = some X → x ≠ b → μ x = some lx → lx.isNil = false → lx.blk ≠ l.blk := fun x X lx hx hxb hlx hnx e =>
    hS.inj b x B X l lx hb hx (Ne.symm hxb) hfz hl hlx hn hnx e.symm
  refine ⟨S, ⟨fun x X hx => ?_, fun x y X Y lx ly hx hy hne hfx hlx hly hnx hny => ?_, fun k hk => hsz ▸ hS.immLt k hk, hS.immA, hS.immN, ?_⟩⟩
  · rcases hm x X hx with ⟨rfl, rfl⟩ | ⟨h1, h2, h3⟩
    · exact ⟨l', setLoc_self _ _ _, .inr ⟨hn', hH S, (fun e => by rw [hfz'] at e; cases e), fun _ => by rw [hl']; exact ⟨hnI, hmut⟩⟩⟩
    · obtain ⟨lx, hlx, hBx⟩ := hS.blks x X h3
      refine ⟨lx, by rw [setLoc_ne _ _ h1]; exact hlx, ?_⟩
      rcases hBx with h4 | ⟨h4, h5, h6, h7⟩
      · exact .inl h4
      · exact .inr ⟨h4, h5.stays S (hold _ (hother x X lx h3 h2 hlx h4)), h6, h7⟩
  · rcases hm x X hx with ⟨rfl, rfl⟩ | ⟨h1, h2, h3⟩ <;> rcases hm y Y hy with ⟨rfl, rfl⟩ | ⟨g1, g2, g3⟩
    · exact absurd rfl hne
    · rw [setLoc_self] at hlx; injection hlx with e; subst e
      rw [setLoc_ne _ _ g1] at hly
      rw [hl']; exact Ne.symm (hother y Y ly g3 g2 hly hny)
    · rw [setLoc_self] at hly; injection hly with e; subst e
      rw [setLoc_ne _ _ h1] at hlx
      rw [hl']; exact hother x X lx h3 h2 hlx hnx
    · rw [setLoc_ne _ _ h1] at hlx; rw [setLoc_ne _ _ g1] at hly
      exact hS.inj x y X Y lx ly h3 g3 hne hfx hlx hly hnx hny
  · refine ⟨hos.trans hS.keep.os, htp.trans hS.keep.tape, hout.trans hS.keep.output, hsz ▸ hS.keep.size, fun k hk hM => ?_⟩
    rw [hold k ?_, hS.keep.block k hk hM]
    intro e; subst e
    rcases hmut with h | h
    · exact hM h
    · omega

/-- Own blocks are never written again: they are immutable memory. -/
theorem SR.freeze (hS : SR M0 A w0 w μ I m) (hM : ∀ k, ¬ M0 k) (ids : List Nat) :
    ∃ I', Stays μ μ I I' w w ∧ SR M0 A w0 w μ I' (frz ids m) ∧ ∀ b B l, look (only ids m) b = some B → μ b = some l → l.isNil = false → I' l.blk := by
  refine ⟨fun k => I k ∨ ∃ b B l, look m b = some B ∧ ids.contains b = true ∧ μ b = some l ∧ l.isNil = false ∧ l.blk = k, ⟨fun _ _ h => h, fun _ h => .inl h, fun _ _ => rfl⟩, ⟨fun b B hb => ?_, fun b b' B B' l l' hb hb' hne hfz hl hl' hn hn' => ?_, fun k hk => ?_, fun k hk => .inl (hS.immA k hk), fun k hk => ?_, hS.keep⟩, fun b B l hb hl hn => ?_⟩
  · rw [look_frz] at hb
    simp only [Option.map_eq_some_iff] at hb
    obtain ⟨B0, hB0, hb⟩ := hb
    obtain ⟨l, hl, hBO⟩ := hS.blks b B0 hB0
    refine ⟨l, hl, ?_⟩
    have S : Stays μ μ I (fun k => I k ∨ ∃ b B l, look m b = some B ∧ ids.contains b = true ∧ μ b = some l ∧ l.isNil = false ∧ l.blk = k) w w := ⟨fun _ _ h => h, fun _ h => .inl h, fun _ _ => rfl⟩
    by_cases hc : ids.contains b = true
    · rw [if_pos hc] at hb; subst hb
      rcases hBO with h1 | ⟨h1, h2, h3, h4⟩
      · exact .inl h1
      · exact .inr ⟨h1, h2.stays S rfl, fun _ => .inr ⟨b, B0, l, hB0, hc, hl, h1, rfl⟩, fun e => by cases e⟩
    · rw [if_neg hc] at hb; subst hb
      rcases hBO with h1 | ⟨h1, h2, h3, h4⟩
      · exact .inl h1
      · refine .inr ⟨h1, h2.stays S rfl, fun e => .inl (h3 e), fun e => ⟨fun hI => ?_, (h4 e).2⟩⟩
        rcases hI with hI | ⟨x, X, lx, hx, hxc, hlx, hnx, he⟩
        · exact (h4 e).1 hI
        · by_cases hxb : x = b
          · subst hxb; exact hc hxc
          · exact hS.inj b x B0 X l lx hB0 hx (Ne.symm hxb) e hl hlx h1 hnx he.symm
  · rw [look_frz] at hb hb'
    simp only [Option.map_eq_some_iff] at hb hb'
    obtain ⟨B0, hB0, hb⟩ := hb
    obtain ⟨B1, hB1, hb'⟩ := hb'
    have : B0.fz = false := by
      split at hb
      · subst hb; cases hfz
      · subst hb; exact hfz
    exact hS.inj b b' B0 B1 l l' hB0 hB1 hne this hl hl' hn hn'
  · rcases hk with hk | ⟨b, B, l, hb, _, hl, hn, rfl⟩
    · exact hS.immLt k hk
    · exact hS.lt hb hl hn
  · rcases hk with hk | ⟨b, B, l, hb, _, hl, hn, rfl⟩
    · exact hS.immN k hk
    · obtain ⟨l0, hl0, hBO⟩ := hS.blks b B hb
      rw [hl] at hl0; injection hl0 with e; subst e
      rcases hBO with ⟨h1, _⟩ | ⟨_, _, h3, h4⟩
      · rw [hn] at h1; cases h1
      · cases hf : B.fz with
        | true => exact hS.immN _ (h3 hf)
        | false =>
          rcases (h4 hf).2 with h | h
          · exact absurd h (hM _)
          · exact .inr h
  · obtain ⟨h1, h2⟩ := look_only ids m b B hb
    exact .inr ⟨b, B, l, h1, h2, hl, hn, rfl⟩

theorem run_storeCells_fr (g o : Nat) (t : TypeId) (fr : Nat × Nat) : ∀ (vs : List Value) (i : Nat) (cur : Array Value) (w : World), w.heap[g]? = some (.cells cur t fr) → (fr = (0, 0) ∨ cur.size ≤ fr.1) → o + i + vs.length ≤ cur.size → (∀ v ∈ vs, v.oneCell' = true) →
    (storeCells ⟨g, o, none⟩ vs i).run P w = .ok () (w.setRow g (cur.toList.take (o + i) ++ vs ++ cur.toList.drop (o + i + vs.length)).toArray)
  | [], i, cur, w, hg, _, _, _ => by
    simp only [storeCells, List.append_nil, List.length_nil, Nat.add_zero, List.take_append_drop, Array.toArray_toList]
    rw [setRow_self w g cur t fr hg]
    rfl
  | v :: rest, i, cur, w, hg, hfr, hl, h1 => by
    have hi : o + i < cur.size := by simp at hl; omega
    have hadd : (⟨g, o, none⟩ : Addr).add i = ⟨g, o + i, none⟩ := by unfold Addr.add; split <;> simp_all
    have hcell : w.cell? ⟨g, o + i, none⟩ = some cur[o + i] := by simp [World.cell?, hg, hi]
    have hfro : w.frozen? ⟨g, o + i, none⟩ = false := by
      obtain ⟨f1, f2⟩ := fr
      simp only [World.frozen?, hg]
      rcases hfr with h | h
      · injection h with h1 h2; subst h1; subst h2; simp
      · simp at h; simp; omega
    have hst : (store ((⟨g, o, none⟩ : Addr).add i) v).run P w = .ok () (w.setRow g (cur.setIfInBounds (o + i) v)) := by
      rw [hadd, run_store P w _ v _ (h1 v (by simp)), hcell]
      simp [hfro, setCell_eq_setRow w g (o + i) cur t fr v hg]
    have ih := run_storeCells_fr g o t fr rest (i + 1) (cur.setIfInBounds (o + i) v) (w.setRow g (cur.setIfInBounds (o + i) v)) (setRow_heap w g cur _ t _ hg) (by simpa using hfr) (by simp at hl ⊢; omega) (fun x hx => h1 x (by simp [hx]))
    simp only [storeCells, Sem.run_bind, hst, Result.andThen_ok, ih, setRow_setRow]
    congr 3
    have e := list_seg_step cur.toList (o + i) v rest (by simp at hl ⊢; omega)
    simpa [Array.toList_setIfInBounds, Nat.add_assoc] using e

theorem VRs.oneCells {cs : List AV} {vs : List Value} (h : VRs w cs μ I vs) (hc : cellL cs = true) : ∀ v ∈ vs, v.oneCell' = true := by
  induction cs generalizing vs with
  | nil => simp only [VRs] at h; subst h; simp
  | cons c cs ih =>
    simp only [VRs] at h
    obtain ⟨x, xs, rfl, h1, h2⟩ := h
    simp only [cellL, Bool.and_eq_true] at hc
    intro v hv
    rcases List.mem_cons.1 hv with rfl | hv
    · exact h1.oneCell hc.1
    · exact ih h2 hc.2 v hv

/-- Cells are laid over a row's cells. -/
theorem laid {vs nv : List Value} {C : Array Value} {base off : Nat} (h : ∀ (j : Nat) (x : Value), vs[j]? = some x → C[base + j]? = some x) (hf : base + off + nv.length ≤ C.size) (hoff : off ≤ vs.length) :
    ∀ (j : Nat) (x : Value), (vs.take off ++ nv ++ vs.drop (off + nv.length))[j]? = some x → ((C.toList.take (base + off) ++ nv ++ C.toList.drop (base + off + nv.length)).toArray)[base + j]? = some x := by
  intro j x hx
  rw [List.getElem?_toArray]
  have l1 : (C.toList.take (base + off)).length = base + off := by simp; omega
  have l2 : (vs.take off).length = off := by simp; omega
  rw [List.append_assoc, List.getElem?_append] at hx
  rw [List.append_assoc, List.getElem?_append, l1]
  rw [l2] at hx
  by_cases hj : j < off
  · rw [if_pos hj, List.getElem?_take, if_pos hj] at hx
    rw [if_pos (by omega), List.getElem?_take, if_pos (by omega)]
    have := h j x hx
    simpa using this
  · rw [if_neg hj] at hx
    rw [if_neg (by omega)]
    rw [List.getElem?_append] at hx ⊢
    rw [show base + j - (base + off) = j - off by omega]
    by_cases hj2 : j - off < nv.length
    · rw [if_pos hj2] at hx ⊢; exact hx
    · rw [if_neg hj2] at hx ⊢
      rw [List.getElem?_drop] at hx ⊢
      have := h _ x hx
      rw [← this]
      simp only [Array.getElem?_toList]
      congr 1
      omega

theorem setRow_keeps (w : World) (g : Nat) (C : Array Value) : (w.setRow g C).heap.size = w.heap.size ∧ (w.setRow g C).os = w.os ∧ (w.setRow g C).tape = w.tape ∧ (w.setRow g C).output = w.output := by
  simp [World.setRow]

theorem storeA_ok (TO : TabOK P T) (hS : SR M0 A w0 w μ I m) {ty : Nat} {x v : AV} {xv vv : Value} (h : storeA T m ty x v = some m') (hx : VR w x μ I xv) (hv : VR w v μ I vv) :
    ∃ w', (Instr.storeAt ty xv vv).run P w = .ok () w' ∧ Stays μ μ I I w w' ∧ SR M0 A w0 w' μ I m' := by
  unfold storeA at h
  split at h <;> try (cases h; done)
  rename_i b off z by_ cs hz hcs
  split at h <;> try (cases h; done)
  rename_i B hB
  split at h <;> try (cases h; done)
  rename_i hc
  obtain ⟨hfz, hlen, hfit, hkd⟩ := hc
  injection h with h; subst h
  simp only [VR] at hx
  obtain ⟨l, hl, hn, rfl⟩ := hx
  obtain ⟨hvs, hcell⟩ := cellsOf_ok hcs hv
  obtain ⟨l0, hl0, hBO⟩ := hS.blks b B hB
  rw [hl] at hl0; injection hl0 with e; subst e
  rcases hBO with ⟨h1, _⟩ | ⟨_, hHd, _, _⟩
  · rw [hn] at h1; cases h1
  obtain ⟨C, t, fr, vs, h1, h2, h3, h4, h5, h6, h7⟩ := hHd
  have hvl := h6.length
  have hnl := hvs.length
  have hst := run_storeCells_fr (P := P) l.blk (l.base + off) t fr vv.cells.toList 0 C w h1 h3 (by omega) (hvs.oneCells hcell)
  simp only [Nat.add_zero] at hst
  have hrun : (Instr.storeAt ty (.pointer (some ⟨l.blk, l.base + off, none⟩)) vv).run P w = .ok () (w.setRow l.blk (C.toList.take (l.base + off) ++ vv.cells.toList ++ C.toList.drop (l.base + off + vv.cells.toList.length)).toArray) := by
    have hs : vv.cells.size = z.length := by rw [← hlen, ← hnl]; simp
    have hs' : ¬ (vv.cells.size ≠ z.length) := by simpa using hs
    simp only [Instr.storeAt, Instr.sureAddr, storeVar, Sem.run_bind, Sem.run_pure, Result.andThen_ok, TO.size hz]
    rw [if_neg hs']
    simpa only [Sem.run_bind, Sem.run_pure, Result.andThen_ok] using hst
  refine ⟨_, hrun, ?_⟩
  obtain ⟨k1, k2, k3, k4⟩ := setRow_keeps w l.blk (C.toList.take (l.base + off) ++ vv.cells.toList ++ C.toList.drop (l.base + off + vv.cells.toList.length)).toArray
  have hset : setLoc μ b l = μ := by
    funext x
    unfold setLoc
    split
    · rename_i e; subst e; exact hl.symm
    · rfl
  have := SR.wrote (q := b) (l' := l) (m' := upd m b ⟨B.cs.take off ++ cs ++ B.cs.drop (off + cs.length), B.kd, false⟩) (B' := ⟨B.cs.take off ++ cs ++ B.cs.drop (off + cs.length), B.kd, false⟩)
    hS hB hl hn hfz rfl (.inl ⟨rfl, rfl⟩) rfl hn (fun x X hx => by
      rw [look_upd hB] at hx
      split at hx
      · rename_i e; injection hx with hx; exact .inl ⟨e, hx.symm⟩
      · rename_i e; exact .inr ⟨e, e, hx⟩) (fun k hk => setRow_other w _ k _ hk) k1.symm k2 k3 k4 (fun S => by
      refine ⟨_, t, fr, vs.take off ++ vv.cells.toList ++ vs.drop (off + vv.cells.toList.length), setRow_heap w l.blk C _ t fr h1, ?_, ?_, ?_, ?_, ?_, laid h7 (by omega) (by omega)⟩
      · simp at hnl ⊢; omega
      · rcases h3 with h3 | h3
        · exact .inl h3
        · refine .inr ?_
          simp at hnl ⊢; omega
      · simp at hnl ⊢; omega
      · intro hk
        have := h5 hk
        simp at hnl ⊢; omega
      · rw [hset] at S ⊢
        have h6' := VRs.stays _ (kμ_stays S B.kd) vs h6
        have hn' : VRs (w.setRow l.blk (C.toList.take (l.base + off) ++ vv.cells.toList ++ C.toList.drop (l.base + off + vv.cells.toList.length)).toArray) cs (kμ B.kd μ) (kI B.kd I) vv.cells.toList := by
          have h8 := kL_ok hvs
          have h9 := VRs.stays _ (kμ_stays S (kdL cs)) _ h8
          refine VRs.stays _ ⟨fun x lx hx => ?_, fun k hk => ?_, fun _ _ => rfl⟩ _ h9
          · unfold kμ at hx ⊢
            split
            · rw [if_pos (by omega)] at hx; exact hx
            · split at hx
              · simp [noLocs] at hx
              · exact hx
          · unfold kI at hk ⊢
            split
            · rw [if_pos (by omega)] at hk; exact hk
            · split at hk
              · exact hk.elim
              · exact hk
        have e : (cs : List AV).length = vv.cells.toList.length := hnl.symm
        rw [← hnl]
        exact ((h6'.take off).append hn').append (h6'.drop _))
  rw [hset] at this
  exact this
end
end Go.AM
