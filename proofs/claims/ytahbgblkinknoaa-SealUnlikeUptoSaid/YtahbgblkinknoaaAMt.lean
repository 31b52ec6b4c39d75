/- The abstract machine, part 20: a program's table. -/
import Derived.Test.YtahbgblkinknoaaAMs
import Derived.Laws.StructEq
namespace Go.AM

def zOf (P : Program) (t : Nat) : Option (List AV × Nat) :=
  match P.info? t with
  | some i => match i.zero with
    | some zv => if cellL (zv.cells.toList.map cst) && i.size == zv.cells.toList.length then some (zv.cells.toList.map cst, i.bytes) else none
    | none => none
  | none => none
def fOf (P : Program) (f : Nat) : Option Func :=
  match P.funcs[f]? with
  | some fn => if fn.body.isSome then some fn else none
  | none => none
def kindsOf (P : Program) : Nat → List Field → Option (List Nat)
  | _, [] => some []
  | n, f :: r => if f.offset == n && f.name != "_" then
      (match P.underlying f.type, kindsOf P (n + 1) r with
      | some (.int _), some ks => some (0 :: ks)
      | some .string, some ks => some (1 :: ks)
      | some .bool, some ks => some (2 :: ks)
      | _, _ => none) else none
def eqsOf (P : Program) (t : Nat) : Option (List Nat) :=
  match P.underlying t with
  | some (.struct fs) => if P.stoodInHeld t then none else kindsOf P 0 fs.toList
  | _ => none
def tabOf (P : Program) : Tab := ⟨P.underlying, zOf P, fOf P, fun _ => [], eqsOf P⟩

theorem cst_ok {w : World} {μ : Locs} {I : Nat → Prop} (v : Value) : VR w (cst v) μ I v := by
  unfold cst
  split <;> simp [VR]
theorem csts_ok {w : World} {μ : Locs} {I : Nat → Prop} : ∀ vs : List Value, VRs w (vs.map cst) μ I vs
  | [] => by simp [VRs]
  | v :: vs => VRs.cons (cst_ok v) (csts_ok vs)

theorem kindsOf_guard {P : Program} {d : Nat} : ∀ {fs : List Field} {n : Nat} {ks : List Nat}, kindsOf P n fs = some ks → fs.any (fun f => f.name != "_" && P.eqGuardType (d + 1) f.type) = false
  | [], _, _, _ => rfl
  | f :: r, n, ks, h => by
    simp only [kindsOf] at h
    split at h
    · have key : ∀ ks', kindsOf P (n + 1) r = some ks' → (∃ k, P.underlying f.type = some (.int k)) ∨ P.underlying f.type = some .string ∨ P.underlying f.type = some .bool →
          (f :: r).any (fun f => f.name != "_" && P.eqGuardType (d + 1) f.type) = false := by
        intro ks' hk hu
        simp only [List.any_cons, kindsOf_guard hk, Bool.or_false]
        rcases hu with ⟨k, hu⟩ | hu | hu <;> simp [Program.eqGuardType, hu]
      split at h
      · rename_i hu hk; exact key _ hk (.inl ⟨_, hu⟩)
      · rename_i hu hk; exact key _ hk (.inr (.inl hu))
      · rename_i hu hk; exact key _ hk (.inr (.inr hu))
      · cases h
    · cases h

theorem eqFields_ok {P : Program} {d : Nat} {xs ys : Array Value} {w : World} {μ : Locs} {I : Nat → Prop} : ∀ {fs : List Field} {n : Nat} {ks : List Nat} {as bs : List AV} {e : Bool}, kindsOf P n fs = some ks → eqCells ks as bs = some e →
    VRs w as μ I (xs.toList.drop n) → VRs w bs μ I (ys.toList.drop n) → (Op.eqFields (d + 1) xs ys fs).run P w = .ok e w
  | [], n, ks, as, bs, e, hk, he, _, _ => by
    simp only [kindsOf] at hk
    injection hk with hk; subst hk
    cases as <;> cases bs <;> simp [eqCells] at he
    subst he
    simp [Op.eqFields]
  | f :: r, n, ks, as, bs, e, hk, he, hx, hy => by
    simp only [kindsOf] at hk
    split at hk
    · rename_i hc
      simp only [Bool.and_eq_true, beq_iff_eq, bne_iff_ne] at hc
      obtain ⟨hoff, hname⟩ := hc
      have key : ∀ (k : Nat) (ks' : List Nat) (desc : TypeDesc), ks = k :: ks' → kindsOf P (n + 1) r = some ks' → P.underlying f.type = some desc → (∀ fs, desc ≠ .struct fs) → (∀ m t, desc ≠ .array m t) →
          (∀ (a b : AV) (x y : Value) (v : Bool), eqCell k a b = some v → VR w a μ I x → VR w b μ I y → (Op.equalIn (d + 1) f.type x y).run P w = .ok v w) → (Op.eqFields (d + 1) xs ys (f :: r)).run P w = .ok e w := by
        intro k ks' desc hks hk' hu hns hna hone
        subst hks
        cases as with
        | nil => cases bs <;> simp [eqCells] at he
        | cons a as =>
          cases bs with
          | nil => simp [eqCells] at he
          | cons b bs =>
            simp only [eqCells] at he
            split at he
            · rename_i v1 v2 h1 h2
              injection he with he
              simp only [VRs] at hx hy
              obtain ⟨x, xr, hxe, hxa, hxr⟩ := hx
              obtain ⟨y, yr, hye, hyb, hyr⟩ := hy
              have hx0 : xs[n]? = some x := by
                have := congrArg (fun l => l[0]?) hxe
                simpa using this
              have hy0 : ys[n]? = some y := by
                have := congrArg (fun l => l[0]?) hye
                simpa using this
              have hag : (isAgg f.type).run P w = .ok false w := by
                rw [run_isAggD hu]
                cases desc <;> first | rfl | exact absurd rfl (hns _) | exact absurd rfl (hna _ _)
              have hpx : (part f.type xs f.offset).run P w = .ok x w := by
                simp only [part, Sem.run_bind, hag, Result.andThen_ok, hoff, hx0]; simp
              have hpy : (part f.type ys f.offset).run P w = .ok y w := by
                simp only [part, Sem.run_bind, hag, Result.andThen_ok, hoff, hy0]; simp
              have hr : (Op.eqFields (d + 1) xs ys r).run P w = .ok v2 w := by
                refine eqFields_ok (μ := μ) (I := I) hk' h2 ?_ ?_
                · have : xs.toList.drop (n + 1) = xr := by rw [← List.drop_drop, hxe]; rfl
                  rw [this]; exact hxr
                · have : ys.toList.drop (n + 1) = yr := by rw [← List.drop_drop, hye]; rfl
                  rw [this]; exact hyr
              have ho := hone a b x y v1 h1 hxa hyb
              rw [Op.eqFields]
              simp only [if_pos hname, Sem.run_bind, hpx, hpy, ho, Result.andThen_ok]
              cases v1
              · simp [← he]
              · simp [← he, hr]
            · cases he
      split at hk
      · rename_i k ks' hu hk'
        injection hk with hk
        refine key 0 ks' _ hk.symm hk' hu (fun _ h => by cases h) (fun _ _ h => by cases h) fun a b x y v hv ha hb => ?_
        cases a <;> cases b <;> simp [eqCell] at hv
        simp only [VR] at ha hb
        subst ha; subst hb
        obtain ⟨hv1, hv2⟩ := hv
        simp only [Op.equalIn, Sem.run_bind, run_underlying hu, Result.andThen_ok, hv1, if_true, Sem.run_pure, ← hv2]
      · rename_i ks' hu hk'
        injection hk with hk
        refine key 1 ks' _ hk.symm hk' hu (fun _ h => by cases h) (fun _ _ h => by cases h) fun a b x y v hv ha hb => ?_
        cases a <;> cases b <;> simp [eqCell] at hv
        simp only [VR] at ha hb
        subst ha; subst hb
        simp only [Op.equalIn, Sem.run_bind, run_underlying hu, Result.andThen_ok, Sem.run_pure, ← hv]
        rename_i s s'
        congr 1
        show ((⟨s.toArray⟩ : ByteArray) == ⟨s'.toArray⟩) = (s == s')
        rw [beq_toListBytes, ByteArray.toList_eq, ByteArray.toList_eq]
      · rename_i ks' hu hk'
        injection hk with hk
        refine key 2 ks' _ hk.symm hk' hu (fun _ h => by cases h) (fun _ _ h => by cases h) fun a b x y v hv ha hb => ?_
        cases a <;> cases b <;> simp [eqCell] at hv
        simp only [VR] at ha hb
        subst ha; subst hb
        simp only [Op.equalIn, Sem.run_bind, run_underlying hu, Result.andThen_ok, Sem.run_pure, ← hv]
      · cases hk
    · cases hk

theorem tabOf_ok (P : Program) : TabOK P (tabOf P) := by
  refine ⟨fun t d h => h, fun t cs b h => ?_, fun f fn h => ?_, fun t ks h xs ys as bs e w he μ I hx hy => ?_, fun t ks h => ?_⟩
  · simp only [tabOf, zOf] at h
    split at h
    · rename_i i hi
      split at h
      · rename_i zv hz
        split at h
        · rename_i hc
          simp only [Bool.and_eq_true, beq_iff_eq] at hc
          injection h with h; injection h with h1 h2; subst h1; subst h2
          exact ⟨i, zv, hi, hz, by rw [hc.2]; simp, rfl, fun w => csts_ok _, hc.1⟩
        · cases h
      · cases h
    · cases h
  · simp only [tabOf, fOf] at h
    split at h
    · rename_i fn' hf
      split at h
      · rename_i hb
        injection h with h; subst h
        exact ⟨hf, hb⟩
      · cases h
    · cases h
  · simp only [tabOf, eqsOf] at h
    split at h
    · rename_i fs hu
      split at h
      · cases h
      · rename_i hst
        have hf : P.fieldsOf t = fs := by simp [Program.fieldsOf, hu]
        show (Op.equalIn (9999 + 1) t (.agg xs) (.agg ys)).run P w = .ok e w
        rw [run_equalIn_struct (P := P) w 9999 t xs ys (by rw [hf]; exact hu) (by simpa using hst), hf]
        exact eqFields_ok (d := 9998) h he (by simpa using hx) (by simpa using hy)
    · cases h
  · simp only [tabOf, eqsOf] at h
    split at h
    · rename_i fs hu
      split at h
      · cases h
      · have := kindsOf_guard (d := 2 * (P.types.size + Made.depth)) h
        simp only [Program.depth, Program.eqGuardType, hu]
        rw [← Array.any_toList]
        exact this
    · cases h
end Go.AM
