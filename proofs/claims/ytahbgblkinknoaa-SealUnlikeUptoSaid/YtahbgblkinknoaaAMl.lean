/- The abstract machine, part 12: append. -/
import Derived.Test.YtahbgblkinknoaaAMk
import Derived.Laws.AppendOwn
set_option linter.unusedVariables false
set_option linter.unusedSimpArgs false
set_option linter.unnecessarySimpa false
namespace Go.AM
section
variable {P : Program} {T : Tab} {M0 A : Nat → Prop} {w0 w w' : World} {μ : Locs} {I : Nat → Prop} {m m' mv : List (Nat × Blk)} {q : Nat} {o : Oper} {a : Act} {t : List AV} {call : Nat → List AV → Option AV}

theorem run_append_room' {t0 t1 ty e : TypeId} {d : TypeDesc} {i : TypeInfo} (ht : P.underlying t0 = some (.slice e)) (h1 : P.underlying t1 = some d) (hd : seqD d = true) (hi : P.info? e = some i)
    {base : Option Addr} {sLen sCap n : Nat} {x : Value} {nv : List Value} (hn : (Builtin.lenOf x).run P w = .ok n w) (hf : (Builtin.firstCells i.size n x).run P w = .ok nv.toArray w) (hroom : sLen + n ≤ sCap)
    (hst : ∀ a, base = some a → (storeCells (a.add (sLen * i.size)) nv).run P w = .ok () w') (hno : base = none → w' = w) :
    (Builtin.append_ #[t0, t1] ty #[.slice base sLen sCap, x]).run P w = .ok (.slice base (sLen + n) sCap) w' := by
  have hz : (d matches .int _) = false := by cases d <;> simp [seqD] at hd <;> rfl
  cases base with
  | none =>
    have := hno rfl; subst this
    cases d <;> simp [seqD] at hd <;> simp [Builtin.append_, run_underlying ht, run_underlying h1, sizeOf, typeInfo, hi, hn, hf, hroom]
  | some a =>
    have := hst a rfl
    cases d <;> simp [seqD] at hd <;> simp [Builtin.append_, run_underlying ht, run_underlying h1, sizeOf, typeInfo, hi, hn, hf, hroom, this]

theorem run_append_grow' {t0 t1 ty e : TypeId} {d : TypeDesc} {i : TypeInfo} {z : Value} (ht : P.underlying t0 = some (.slice e)) (h1 : P.underlying t1 = some d) (hd : seqD d = true) (hi : P.info? e = some i) (hz : i.zero = some z)
    {base : Option Addr} {sLen sCap n : Nat} {x : Value} {ov nv : List Value} (hn : (Builtin.lenOf x).run P w = .ok n w) (hf : (Builtin.firstCells i.size n x).run P w.drew = .ok nv.toArray w.drew)
    (ho : (Builtin.firstCells i.size sLen (.slice base sLen sCap)).run P w.drew = .ok ov.toArray w.drew)
    (hg : sCap < sLen + n) (hb : i.bytes ≤ 1000) (hl : sLen + n ≤ 1000000000) :
    (Builtin.append_ #[t0, t1] ty #[.slice base sLen sCap, x]).run P w =
      .ok (.slice (some ⟨w.heap.size, 0, none⟩) (sLen + n) (grownCap w (sLen + n) sCap e))
        (w.drew.alloc (.cells (ov ++ nv ++ (Builtin.zeroCells z.cells (grownCap w (sLen + n) sCap e - (sLen + n))).toList).toArray e)) := by
  have hroom : ¬ (sLen + n ≤ sCap) := by omega
  have h63' : ¬ (9223372036854775807 < ((sLen : Int) + (n : Int))) := by omega
  have hfit : Builtin.nextslicecap (sLen + n) sCap * i.bytes ≤ 281474976710656 := by
    refine growslice_fits hg ?_
    have : (sLen + n) * i.bytes ≤ 1000000000 * 1000 := Nat.mul_le_mul hl hb
    omega
  have h48' : ¬ (281474976710656 < Builtin.nextslicecap (sLen + n) sCap * i.bytes) := by omega
  cases d <;> simp [seqD] at hd <;>
    (simp [Builtin.append_, run_underlying ht, run_underlying h1, sizeOf, typeInfo, zeroValue, hi, hz, hn, hroom, h63', h48', Question.forced, hf, ho, newRow, grownCap]
     try (congr 2; apply Array.ext'; simp [List.append_assoc]))

theorem CellsAt.heap {ad : Addr} {vs : List Value} (h : CellsAt w ad vs) (e : w'.heap = w.heap) : CellsAt w' ad vs := by
  intro j x hx
  have := h j x hx
  unfold World.cell? at this ⊢
  rw [e]; exact this

theorem newsA_ok (hS : SR M0 A w0 w μ I m) {y : AV} {sz n kd : Nat} {raw : List AV} {yv : Value} (h : newsA m y sz = some (raw, n, kd)) (hy : VR w y μ I yv) :
    ∃ nv, VRs w raw (kμ kd μ) (kI kd I) nv ∧ nv.length = n * sz ∧ (∀ v ∈ nv, v.oneCell' = true) ∧ (Builtin.lenOf yv).run P w = .ok n w ∧ ∀ w' : World, w'.heap = w.heap → (Builtin.firstCells sz n yv).run P w' = .ok nv.toArray w' := by
  have hnone : ∀ (a : Option Addr) (len cap : Nat) (w' : World), len * sz = 0 → (Builtin.firstCells sz len (.slice a len cap)).run P w' = .ok #[] w' := by
    intro a len cap w' h0
    cases a with
    | none => simp [Builtin.firstCells]
    | some ad =>
      have := run_loadN (P := P) (w := w') (ad := ad) (vs := []) (fun j x hx => by simp at hx) 0 (Nat.le_refl _)
      simp only [Builtin.firstCells, h0]
      simpa using this
  unfold newsA at h
  split at h <;> try (cases h; done)
  · injection h with h; injection h with h1 h2; injection h2 with h2 h3; subst h1; subst h2; subst h3
    simp only [VR] at hy
    obtain ⟨a, rfl⟩ := hy
    exact ⟨[], by simp [VRs], by simp, by simp, by simp [Builtin.lenOf], fun w' _ => hnone a 0 0 w' (by simp)⟩
  · rename_i fl cs len
    split at h <;> try (cases h; done)
    rename_i hc
    injection h with h; injection h with h1 h2; injection h2 with h2 h3; subst h1; subst h2; subst h3
    simp only [VR] at hy
    obtain ⟨a, cap, rfl, hl, hn, hy⟩ := hy
    rcases hy with rfl | ⟨ad, vs, rfl, hI, hca, hv⟩
    · have h0 : len * sz = 0 := by simpa using hc.1
      exact ⟨[], by simp [VRs], by simp [h0], by simp, by simp [Builtin.lenOf], fun w' _ => hnone a len cap w' h0⟩
    · have hvl := hv.length
      have hvt := hv.take (len * sz)
      refine ⟨vs.take (len * sz), ?_, by simp; omega, hvt.oneCells hc.2, by simp [Builtin.lenOf], fun w' e => ?_⟩
      · cases fl
        · exact hvt
        · exact hvt
      · have := run_loadN (P := P) (hca.heap e) (len * sz) (by omega)
        simp only [Builtin.firstCells]
        exact this
  · rename_i b off len sz'
    split at h <;> try (cases h; done)
    rename_i hsz; subst hsz
    split at h <;> try (cases h; done)
    rename_i B hB
    split at h <;> try (cases h; done)
    rename_i hc
    injection h with h; injection h with h1 h2; injection h2 with h2 h3; subst h1; subst h2; subst h3
    simp only [VR] at hy
    obtain ⟨l, hl, hy⟩ := hy
    rcases hy with ⟨hn, ⟨a, rfl⟩, rfl, rfl⟩ | ⟨hn, cap, rfl, hcap, hlim⟩
    · exact ⟨[], by simp [VRs], by simp, by simp, by simp [Builtin.lenOf], fun w' _ => hnone a 0 0 w' (by simp)⟩
    · obtain ⟨l0, hl0, hBO⟩ := hS.blks b B hB
      rw [hl] at hl0; injection hl0 with e; subst e
      rcases hBO with ⟨h1, _⟩ | ⟨_, hHd, _, _⟩
      · rw [hn] at h1; cases h1
      obtain ⟨vs, hca, hv⟩ := CellsAt.of_held hHd off
      have hvl := hv.length
      have hvt := (hv.drop off).take (len * sz')
      refine ⟨(vs.drop off).take (len * sz'), hvt, by simp; omega, hvt.oneCells hc.2, by simp [Builtin.lenOf], fun w' e => ?_⟩
      have := run_loadN (P := P) (hca.heap e) (len * sz') (by simp; omega)
      simp only [Builtin.firstCells]
      exact this
  · rename_i s
    split at h <;> try (cases h; done)
    rename_i hsz; subst hsz
    injection h with h; injection h with h1 h2; injection h2 with h2 h3; subst h1; subst h2; subst h3
    simp only [VR] at hy
    subst hy
    have hsz2 : (⟨s.toArray⟩ : ByteArray).size = s.length := by simp [ByteArray.size]
    refine ⟨s.map fun c => .int .u8 c.toNat, ?_, by simp, ?_, by simp [Builtin.lenOf, hsz2], fun w' _ => ?_⟩
    · refine VRs.of_get (by simp) fun j c x hc hx => ?_
      simp only [List.getElem?_map, Option.map_eq_some_iff] at hc hx
      obtain ⟨u, hu, rfl⟩ := hc
      obtain ⟨u', hu', rfl⟩ := hx
      rw [hu] at hu'; injection hu' with hu'; subst hu'
      simp only [VR]
    · intro v hv
      simp only [List.mem_map] at hv
      obtain ⟨u, _, rfl⟩ := hv
      rfl
    · simp only [Builtin.firstCells, Sem.run_pure]
      congr 1
      have : ((⟨s.toArray⟩ : ByteArray).extract 0 s.length) = ⟨s.toArray⟩ := by
        rw [← hsz2]; exact ByteArray.extract_zero_size
      rw [this]
      simp

theorem deepA_ok (hS : SR M0 A w0 w μ I m) (hM : ∀ k, ¬ M0 k) {raw news : List AV} {kd kd' : Nat} {ids : List Nat} {nv : List Value} (h : deepA m raw kd = some (news, kd', ids)) (hv : VRs w raw (kμ kd μ) (kI kd I) nv) :
    ∃ I', Stays μ μ I I' w w ∧ SR M0 A w0 w μ I' (frz ids m) ∧ VRs w news noLocs (kI kd' I') nv ∧ kd' ≤ 1 := by
  unfold deepA at h
  split at h
  · rename_i hk
    injection h with h; injection h with h1 h2; injection h2 with h2 h3; subst h1; subst h2; subst h3
    obtain ⟨I', S, h1, h2⟩ := hS.freeze hM []
    refine ⟨I', S, h1, ?_, hk⟩
    have := VRs.stays _ (kμ_stays S kd) nv hv
    unfold kμ at this
    rw [if_pos hk] at this
    exact this
  · rename_i hk
    split at h <;> try (cases h; done)
    rename_i news' hm
    split at h <;> try (cases h; done)
    rename_i hk2
    injection h with h; injection h with h1 h2; injection h2 with h2 h3; subst h1; subst h2; subst h3
    obtain ⟨I', S, h1, h2⟩ := hS.freeze hM (raw.flatMap (refs m 4))
    refine ⟨I', S, h1, ?_, hk2⟩
    have e1 : kμ kd μ = μ := by unfold kμ; rw [if_neg hk]
    have e2 : kI kd I = I := by unfold kI; rw [if_neg (by omega)]
    rw [e1, e2] at hv
    have h3 : VRs w news' noLocs I' nv := mapM_ok hm hv fun c _ d x hd hx =>
      exC_ok hS (fun b B hb => (look_only _ m b B hb).1) (fun k hk => S.imm k hk) h2 4 c d x hd hx
    have h4 := kL_ok h3
    unfold kμ at h4
    rw [if_pos hk2] at h4
    exact h4

theorem kI_mono {kd kd' : Nat} (h : kd ≤ kd') {k : Nat} (hk : kI kd I k) : kI kd' I k := by
  unfold kI at hk ⊢
  split at hk
  · exact hk.elim
  · rw [if_neg (by omega)]; exact hk

theorem appA_ok (TO : TabOK P T) (hS : SR M0 A w0 w μ I m) (hM : ∀ k, ¬ M0 k) (hq : ∀ b, q ≤ b → b < q + 16 → μ b = none) {tys : Array Nat} {ty : Nat} {x y v : AV} {xv yv : Value} (h : appA T m q tys x y = some (v, m'))
    (hx : VR w x μ I xv) (hy : VR w y μ I yv) (hty : tys.size = 2) :
    ∃ r w', (Builtin.append_ tys ty #[xv, yv]).run P w = .ok r w' ∧ EK M0 A w0 w μ I q v m' r w' := by
  have hqn := hq q (Nat.le_refl _) (by omega)
  unfold appA at h
  split at h <;> try (cases h; done)
  rename_i e d hu0 hu1
  split at h <;> try (cases h; done)
  rename_i hd
  split at h <;> try (cases h; done)
  rename_i z by_ hz
  split at h <;> try (cases h; done)
  rename_i raw n kd hnews
  split at h <;> try (cases h; done)
  rename_i news kd' ids hdeep
  split at h <;> try (cases h; done)
  rename_i hby
  obtain ⟨t0, t1, rfl⟩ : ∃ t0 t1, tys = #[t0, t1] := by
    obtain ⟨l⟩ := tys
    match l, hty with
    | [t0, t1], _ => exact ⟨t0, t1, rfl⟩
  simp only [List.getElem?_toArray, List.getElem?_cons_zero, List.getElem?_cons_succ, Option.bind_some] at hu0 hu1
  have hu0 := TO.u _ _ hu0
  have hu1 := TO.u _ _ hu1
  obtain ⟨i, zv, hi, hzero, hsize, hbytes, hzv, hzc⟩ := TO.z _ _ _ hz
  obtain ⟨nv, hnv, hnl, hone, hlen, hfirst⟩ := newsA_ok (P := P) hS hnews hy
  obtain ⟨I', S, hS', hnv', hkd'⟩ := deepA_ok hS hM hdeep hnv
  rw [← hsize] at hnl hfirst
  have hfr := look_frz ids m
  split at h <;> try (cases h; done)
  · -- nothing was there
    simp only [VR] at hx
    obtain ⟨b0, rfl⟩ := hx
    split at h
    · rename_i hn0
      injection h with h; injection h with h1 h2; subst h1; subst h2; subst hn0
      have hnv0 : nv = [] := List.eq_nil_of_length_eq_zero (by simpa using hnl)
      subst hnv0
      have hrun := run_append_room' (P := P) (w := w) (w' := w) (ty := ty) hu0 hu1 hd hi (base := b0) (sLen := 0) (sCap := 0) hlen (hfirst w rfl) (Nat.le_refl _) (fun a _ => by simp [storeCells]) (fun _ => rfl)
      exact ⟨_, _, hrun, μ, I, Stays.refl _ _ _, hS, fun _ _ => rfl, by simp [VR]⟩
    · split at h <;> try (cases h; done)
      rename_i hn0 hn1
      injection h with h; injection h with h1 h2; subst h1; subst h2
      have ho : (Builtin.firstCells i.size 0 (.slice b0 0 0)).run P w.drew = .ok ([] : List Value).toArray w.drew := by
        cases b0 with
        | none => simp [Builtin.firstCells]
        | some ad =>
          have := run_loadN (P := P) (w := w.drew) (ad := ad) (vs := []) (fun j x hx => by simp at hx) 0 (Nat.le_refl _)
          simp only [Builtin.firstCells, Nat.zero_mul]
          simpa using this
      have hrun := run_append_grow' (P := P) (w := w) (ty := ty) (base := b0) (sLen := 0) (sCap := 0) hu0 hu1 hd hi hzero hlen (hfirst w.drew rfl) ho (by omega) (by omega) (by omega)
      refine ⟨_, _, hrun, ?_⟩
      simp only [Nat.zero_add, List.nil_append] at *
      have hge := grownCap_ge w n 0 e
      have hS2 := hS'.keeps (Keep.drew w)
      have hnew := hS2.new (q := q) (kd := kd') (cs := news) (C := (nv ++ (Builtin.zeroCells zv.cells (grownCap w n 0 e - n)).toList).toArray) (vs := nv) (t := e) (fr := (0, 0)) hqn
        (w.drew.alloc (.cells (nv ++ (Builtin.zeroCells zv.cells (grownCap w n 0 e - n)).toList).toArray e)) (alloc_at _ _) (.inl rfl) (Keep.alloc _ _)
        (by unfold kμ; rw [if_pos hkd']; exact VRs.stays (w := w) (w' := w.drew) _ ⟨fun _ _ h => h, fun _ h => h, fun _ _ => rfl⟩ _ hnv') (fun j x hx => by
          rw [List.getElem?_toArray, List.getElem?_append, if_pos (by
            rcases Nat.lt_or_ge j nv.length with h' | h'
            · exact h'
            · rw [List.getElem?_eq_none h'] at hx; cases hx)]
          exact hx) (grownCap w n 0 e * i.size) (by
            have := hnv'.length; rw [← this, hnl]; exact Nat.mul_le_mul_right _ hge) (by
            have hzs : zv.cells.size = i.size := by
              have := (hzv w).length; simp only [Array.length_toList] at this; omega
            simp [size_zeroCells, hnl, hzs, ← Nat.add_mul]
            exact Nat.mul_le_mul_right _ (by omega)) (by omega)
      obtain ⟨hSn, hStn⟩ := hnew
      refine ⟨_, I', ?_, hSn, fun b hb => setLoc_ne _ _ (by omega), ?_⟩
      · exact S.trans (Stays.trans (hS'.stays (Keep.drew w)) hStn)
      · simp only [VR]
        refine ⟨_, setLoc_self _ _ _, .inr ⟨rfl, _, rfl, hge, ?_⟩⟩
        simp [hsize]
  · -- an own row
    rename_i b off len sz
    split at h <;> try (cases h; done)
    rename_i B hB
    split at h <;> try (cases h; done)
    rename_i hc
    obtain ⟨hfz, hBkd, hsz, hfull, hsmall⟩ := hc
    injection h with h; injection h with h1 h2; subst h1; subst h2
    rw [hsz, ← hsize] at hfull
    have hx' := VR.stays _ S _ hx
    simp only [VR] at hx'
    obtain ⟨l, hl, hx'⟩ := hx'
    obtain ⟨l0, hl0, hBO⟩ := hS'.blks b B hB
    rw [hl] at hl0; injection hl0 with e0; subst e0
    have hqb : b ≠ q := fun e => by subst e; rw [hqn] at hl; cases hl
    have hm' : ∀ (B' : Blk) x X, look (del (frz ids m) b ++ [(q, B')]) x = some X → (x = q ∧ X = B') ∨ (x ≠ q ∧ x ≠ b ∧ look (frz ids m) x = some X) := by
      intro B' x X hX
      rw [look_append, look_del] at hX
      by_cases hxb : x = b
      · subst hxb
        rw [if_pos rfl] at hX
        simp only [look] at hX
        rw [if_neg (by simpa using fun e => hqb e.symm)] at hX
        cases hX
      · rw [if_neg hxb] at hX
        cases hlk : look (frz ids m) x with
        | some X' =>
          rw [hlk] at hX
          injection hX with hX; subst hX
          refine .inr ⟨fun e => ?_, hxb, rfl⟩
          subst e
          obtain ⟨lx, hlx, _⟩ := hS'.blks _ _ hlk
          rw [hqn] at hlx; cases hlx
        | none =>
          rw [hlk] at hX
          simp only [look] at hX
          split at hX
          · rename_i e; injection hX with hX
            exact .inl ⟨by simpa using (beq_iff_eq.1 e).symm, hX.symm⟩
          · cases hX
    have hmax : max B.kd kd' ≤ 1 := by omega
    -- a new row
    have grow : ∀ (base : Option Addr) (cap : Nat) (ov : List Value), xv = .slice base len cap → VRs w (B.cs.drop off) noLocs (kI B.kd I') ov → ov.length = len * i.size →
        (Builtin.firstCells i.size len (.slice base len cap)).run P w.drew = .ok ov.toArray w.drew → cap < len + n →
        ∃ r w', (Builtin.append_ #[t0, t1] ty #[xv, yv]).run P w = .ok r w' ∧ EK M0 A w0 w μ I q (.ref q 0 (len + n) sz) (del (frz ids m) b ++ [(q, ⟨B.cs.drop off ++ news, max B.kd kd', false⟩)]) r w' := by
      intro base cap ov hxe hov hol ho hg
      subst hxe
      have hrun := run_append_grow' (P := P) (w := w) (ty := ty) (base := base) (sLen := len) (sCap := cap) hu0 hu1 hd hi hzero hlen (hfirst w.drew rfl) ho hg (by omega) (by omega)
      refine ⟨_, _, hrun, ?_⟩
      have hge := grownCap_ge w (len + n) cap e
      have hS2 := (hS'.keeps (Keep.drew w)).sub (m' := del (frz ids m) b) (fun x X hX => by
        rw [look_del] at hX; split at hX
        · cases hX
        · exact hX)
      have hall : VRs w (B.cs.drop off ++ news) noLocs (kI (max B.kd kd') I') (ov ++ nv) := by
        refine VRs.append ?_ ?_
        · exact VRs.stays _ ⟨fun _ _ h => h, fun k h => kI_mono (by omega) h, fun _ _ => rfl⟩ _ hov
        · exact VRs.stays _ ⟨fun _ _ h => h, fun k h => kI_mono (by omega) h, fun _ _ => rfl⟩ _ hnv'
      have hnew := hS2.new (q := q) (kd := max B.kd kd') (cs := B.cs.drop off ++ news) (C := (ov ++ nv ++ (Builtin.zeroCells zv.cells (grownCap w (len + n) cap e - (len + n))).toList).toArray) (vs := ov ++ nv) (t := e) (fr := (0, 0)) hqn
        (w.drew.alloc (.cells (ov ++ nv ++ (Builtin.zeroCells zv.cells (grownCap w (len + n) cap e - (len + n))).toList).toArray e)) (alloc_at _ _) (.inl rfl) (Keep.alloc _ _)
        (by unfold kμ; rw [if_pos hmax]; exact VRs.stays (w := w) (w' := w.drew) _ ⟨fun _ _ h => h, fun _ h => h, fun _ _ => rfl⟩ _ hall) (fun j x hx => by
          rw [List.getElem?_toArray, List.getElem?_append, if_pos (by
            rcases Nat.lt_or_ge j (ov ++ nv).length with h' | h'
            · exact h'
            · rw [List.getElem?_eq_none h'] at hx; cases hx)]
          exact hx) (grownCap w (len + n) cap e * i.size) (by
            have := hall.length; rw [← this]; simp [hnl, hol, ← Nat.add_mul]; exact Nat.mul_le_mul_right _ hge) (by
            have hzs : zv.cells.size = i.size := by
              have := (hzv w).length; simp only [Array.length_toList] at this; omega
            simp [size_zeroCells, hnl, hol, hzs, ← Nat.add_mul]
            exact Nat.mul_le_mul_right _ (by omega)) (by omega)
      obtain ⟨hSn, hStn⟩ := hnew
      refine ⟨_, I', ?_, hSn, fun b hb => setLoc_ne _ _ (by omega), ?_⟩
      · exact S.trans (Stays.trans (hS'.stays (Keep.drew w)) hStn)
      · simp only [VR]
        refine ⟨_, setLoc_self _ _ _, .inr ⟨rfl, _, rfl, hge, ?_⟩⟩
        simp [hsize, hsz]
    rcases hx' with ⟨hn, ⟨a0, rfl⟩, rfl, rfl⟩ | ⟨hn, cap, rfl, hcap, hlim⟩
    · -- a variable that holds none yet
      have hcs : B.cs = [] := by
        rcases hBO with ⟨_, h2⟩ | ⟨h1, _⟩
        · exact h2
        · rw [hn] at h1; cases h1
      by_cases hn0 : n = 0
      · subst hn0
        have hnv0 : nv = [] := List.eq_nil_of_length_eq_zero (by simpa using hnl)
        subst hnv0
        have hnw : news = [] := by
          have := hnv'.length; simp at this; exact List.eq_nil_of_length_eq_zero (by omega)
        have hrun := run_append_room' (P := P) (w := w) (w' := w) (ty := ty) hu0 hu1 hd hi (base := a0) (sLen := 0) (sCap := 0) hlen (hfirst w rfl) (Nat.le_refl _) (fun a _ => by simp [storeCells]) (fun _ => rfl)
        refine ⟨_, _, hrun, setLoc μ q ⟨0, 0, 0, true⟩, I', S.trans (setLoc_stays _ hqn (Keep.refl _ _) hS'.immLt), ⟨fun x X hX => ?_, fun x y X Y lx ly hX hY hne hfx hlx hly hnx hny => ?_, hS'.immLt, hS'.immA, hS'.immN, hS'.keep⟩, fun b hb => setLoc_ne _ _ (by omega), ?_⟩
        · rcases hm' _ x X hX with ⟨rfl, rfl⟩ | ⟨g1, g2, g3⟩
          · exact ⟨_, setLoc_self _ _ _, .inl ⟨rfl, by simp [hcs, hnw]⟩⟩
          · obtain ⟨lx, hlx, hBx⟩ := hS'.blks x X g3
            refine ⟨lx, by rw [setLoc_ne _ _ g1]; exact hlx, ?_⟩
            rcases hBx with h4 | ⟨h4, h5, h6, h7⟩
            · exact .inl h4
            · exact .inr ⟨h4, h5.stays (setLoc_stays _ hqn (Keep.refl _ _) hS'.immLt) rfl, h6, h7⟩
        · rcases hm' _ x X hX with ⟨rfl, rfl⟩ | ⟨g1, g2, g3⟩
          · rw [setLoc_self] at hlx; injection hlx with e; subst e; cases hnx
          · rcases hm' _ y Y hY with ⟨rfl, rfl⟩ | ⟨f1, f2, f3⟩
            · rw [setLoc_self] at hly; injection hly with e; subst e; cases hny
            · rw [setLoc_ne _ _ g1] at hlx; rw [setLoc_ne _ _ f1] at hly
              exact hS'.inj x y X Y lx ly g3 f3 hne hfx hlx hly hnx hny
        · simp only [VR]
          exact ⟨_, setLoc_self _ _ _, .inl ⟨by simp, ⟨a0, by simp⟩, by simp, by simp⟩⟩
      · refine grow a0 0 [] rfl (by simp [hcs, VRs]) (by simp) ?_ (by omega)
        cases a0 with
        | none => simp [Builtin.firstCells]
        | some ad =>
          have := run_loadN (P := P) (w := w.drew) (ad := ad) (vs := []) (fun j x hx => by simp at hx) 0 (Nat.le_refl _)
          simp only [Builtin.firstCells, Nat.zero_mul]
          simpa using this
    · rcases hBO with ⟨h1, _⟩ | ⟨_, hHd, _, hmut⟩
      · rw [hn] at h1; cases h1
      have hHd' := hHd
      obtain ⟨C, ct, fr, vs, h1, h2, h3, h4, h5, h6, h7⟩ := hHd
      have hvl := h6.length
      by_cases hroom : len + n ≤ cap
      · -- in place
        have hcapz : (len + n) * i.size ≤ cap * i.size := Nat.mul_le_mul_right _ hroom
        have hfit : l.base + off + len * i.size + nv.length ≤ l.lim := by
          rw [hsz, ← hsize] at hlim
          rw [hnl, Nat.add_assoc, ← Nat.add_mul]; omega
        have hst := run_storeCells_fr (P := P) l.blk (l.base + off + len * i.size) ct fr nv 0 C w h1 h3 (by omega) hone
        simp only [Nat.add_zero] at hst
        have hrun := run_append_room' (P := P) (w := w) (ty := ty) hu0 hu1 hd hi (base := some ⟨l.blk, l.base + off, none⟩) (sLen := len) (sCap := cap) hlen (hfirst w rfl) hroom (fun a ha => by
          injection ha with ha; subst ha
          rw [add_plain]; exact hst) (fun e => by cases e)
        refine ⟨_, _, hrun, ?_⟩
        obtain ⟨k1, k2, k3, k4⟩ := setRow_keeps w l.blk (C.toList.take (l.base + off + len * i.size) ++ nv ++ C.toList.drop (l.base + off + len * i.size + nv.length)).toArray
        have hwr := SR.wrote (q := q) (l' := ⟨l.blk, l.base + off, l.lim, false⟩) (m' := del (frz ids m) b ++ [(q, ⟨B.cs.drop off ++ news, max B.kd kd', false⟩)]) (B' := ⟨B.cs.drop off ++ news, max B.kd kd', false⟩)
          hS' hB hl hn hfz rfl (.inr hqn) rfl rfl (hm' _) (fun k hk => setRow_other w _ k _ hk) k1.symm k2 k3 k4 (fun S2 => by
          refine ⟨_, ct, fr, vs.drop off ++ nv, setRow_heap w l.blk C _ ct fr h1, ?_, ?_, ?_, fun e => ?_, ?_, ?_⟩
          · simp; omega
          · rcases h3 with h3 | h3
            · exact .inl h3
            · refine .inr ?_
              simp; omega
          · have := hnv'.length
            simp; omega
          · simp only at e; omega
          · have S3 : Stays noLocs noLocs (kI B.kd I') (kI (max B.kd kd') I') w (w.setRow l.blk (C.toList.take (l.base + off + len * i.size) ++ nv ++ C.toList.drop (l.base + off + len * i.size + nv.length)).toArray) :=
              ⟨fun _ _ h => h, fun k h => kI_mono (by omega) h, fun k h => S2.heap k (by unfold kI at h; split at h <;> first | exact h.elim | exact h)⟩
            have S4 : Stays noLocs noLocs (kI kd' I') (kI (max B.kd kd') I') w (w.setRow l.blk (C.toList.take (l.base + off + len * i.size) ++ nv ++ C.toList.drop (l.base + off + len * i.size + nv.length)).toArray) :=
              ⟨fun _ _ h => h, fun k h => kI_mono (by omega) h, fun k h => S2.heap k (by unfold kI at h; split at h <;> first | exact h.elim | exact h)⟩
            have e1 : kμ (max B.kd kd') (setLoc μ q ⟨l.blk, l.base + off, l.lim, false⟩) = noLocs := by unfold kμ; rw [if_pos hmax]
            have e2 : kμ B.kd μ = noLocs := by unfold kμ; rw [if_pos hBkd]
            show VRs _ (B.cs.drop off ++ news) (kμ (max B.kd kd') (setLoc μ q ⟨l.blk, l.base + off, l.lim, false⟩)) _ _
            rw [e1]
            rw [e2] at h6
            exact (VRs.stays _ S3 _ (h6.drop off)).append (VRs.stays _ S4 _ hnv')
          · have hla := laid (vs := vs) (nv := nv) (C := C) (base := l.base) (off := off + len * i.size) h7 (by omega) (by omega)
            intro j x hx
            have := hla (off + j) x (by
              rw [List.append_assoc, List.getElem?_append]
              rw [List.getElem?_append] at hx
              have l1 : (vs.take (off + len * i.size)).length = off + len * i.size := by simp; omega
              rw [l1]
              split at hx
              · rename_i hj
                simp at hj
                rw [if_pos (by omega), List.getElem?_take, if_pos (by omega)]
                rw [List.getElem?_drop] at hx; exact hx
              · rename_i hj
                simp at hj
                rw [if_neg (by omega), List.getElem?_append, if_pos (by
                  rcases Nat.lt_or_ge (j - (vs.drop off).length) nv.length with h' | h'
                  · simp at h'; omega
                  · rw [List.getElem?_eq_none h'] at hx; cases hx)]
                rw [← hx]
                congr 1
                simp; omega)
            rw [← this]
            show (_ : Array Value)[l.base + off + j]? = _
            rw [show l.base + off + j = l.base + (off + j) by omega, show l.base + (off + len * i.size) = l.base + off + len * i.size by omega])
        refine ⟨_, I', S.trans hwr.1, hwr.2, fun b hb => setLoc_ne _ _ (by omega), ?_⟩
        simp only [VR]
        exact ⟨_, setLoc_self _ _ _, .inr ⟨by simp, cap, by simp, hroom, by simpa using hlim⟩⟩
      · obtain ⟨vs', hca, hv'⟩ := CellsAt.of_held hHd' off
        have hvl' := hv'.length
        have e2 : kμ B.kd μ = noLocs := by unfold kμ; rw [if_pos hBkd]
        rw [e2] at hv'
        refine grow _ cap (vs'.drop off) rfl (hv'.drop off) (by simp; omega) ?_ (by omega)
        have := run_loadN (P := P) (hca.heap (w' := w.drew) rfl) (len * i.size) (by simp; omega)
        simp only [Builtin.firstCells]
        rw [this, List.take_of_length_le (by simp; omega)]
end
end Go.AM
