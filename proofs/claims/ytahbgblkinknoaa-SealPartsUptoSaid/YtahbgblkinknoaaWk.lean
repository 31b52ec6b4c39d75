import Derived.Test.YtahbgblkinknoaaSq
/- What a call hands back may be told less of: rows that are closed. -/
set_option linter.unusedSimpArgs false
set_option linter.unusedVariables false
namespace Go.AM
theorem AVle.trans {a b c : AV} (h : AVle a b) (g : AVle b c) : AVle a c := fun w μ I x hx => g w μ I x (h w μ I x hx)
theorem AVle.tup {as bs : List AV} (h : AVles as bs) : AVle (.tup as) (.tup bs) := by
  intro w μ I x hx
  simp only [VR] at hx ⊢
  obtain ⟨vs, rfl, hv⟩ := hx
  exact ⟨vs, rfl, h.vrs hv⟩
theorem Told.can {P : Program} {f : Nat} {args : List AV} {r c r' : AV} (h : Told P f args r) (h1 : exC (adopt 0 r).2.1 4 (adopt 0 r).1 = some c) (h2 : AVle c r') (h3 : ∀ q, adopt q r' = (r', [], q)) : Told P f args r' := by
  intro A w vals hA hv
  refine (h A w vals hA hv).mono fun e w' ⟨x, he, hF⟩ => ⟨x, he, fun q => ?_⟩
  obtain ⟨μ, I, hS, hno, hV⟩ := hF 0
  obtain ⟨I', S, hS', hI'⟩ := hS.freeze ((adopt 0 r).2.1.map (·.1))
  have hall : ∀ (m : List (Nat × Blk)) b B, look m b = some B → (m.map (·.1)).contains b = true := by
    intro m
    induction m with
    | nil => intro b B h; simp [look] at h
    | cons y m ih =>
      intro b B h
      obtain ⟨k, C⟩ := y
      simp only [look] at h
      split at h
      · rename_i e
        have : k = b := by simpa using e
        subst this; simp
      · have := ih b B h
        simp only [List.map_cons, List.contains_cons, this, Bool.or_true]
  have hc : VR w' c noLocs I' x := exC_ok hS (fun _ _ h => h) (J := I') S.imm (fun b B l hb hl hn => hI' b B l (look_only_of hb (hall _ b B hb)) hl hn) 4 _ c x h1 hV
  unfold Fresh
  rw [h3 q]
  exact ⟨noLocs, I', ⟨fun b B hb => by simp [look] at hb, fun b b' B B' l l' hb => by simp [look] at hb, hS'.immLt, hS'.immA, hS'.immN, hS'.keep⟩, fun _ _ => rfl, h2 w' noLocs I' x hc⟩
theorem ii_and (x : Int) (k : Nat) (hk : k ≤ 62) : intA .and .i64 x ((2 ^ k - 1 : Nat) : Int) = some (.int .i64 (x % ((2 ^ k : Nat) : Int))) := by
  rw [intA_and]
  have hp : 2 ^ k ≤ 2 ^ 62 := Nat.pow_le_pow_right (by omega) hk
  have hpos : 0 < 2 ^ k := Nat.pow_pos (by omega)
  have hd : 2 ^ k ∣ 2 ^ 64 := Nat.pow_dvd_pow 2 (by omega)
  have e1 : (BitVec.ofInt IntKind.i64.bits x).toNat = (x % (2 ^ 64 : Nat)).toNat := by
    show (BitVec.ofInt 64 x).toNat = _
    rw [BitVec.toNat_ofInt]
  have e2 : (BitVec.ofInt IntKind.i64.bits ((2 ^ k - 1 : Nat) : Int)).toNat = 2 ^ k - 1 := by
    show (BitVec.ofInt 64 ((2 ^ k - 1 : Nat) : Int)).toNat = _
    rw [BitVec.ofInt_natCast, BitVec.toNat_ofNat, Nat.mod_eq_of_lt (by omega)]
  have e3 : (BitVec.ofInt IntKind.i64.bits x &&& BitVec.ofInt IntKind.i64.bits ((2 ^ k - 1 : Nat) : Int)).toNat = (x % (2 ^ 64 : Nat)).toNat % 2 ^ k := by
    rw [BitVec.toNat_and, e1, e2, Nat.and_two_pow_sub_one_eq_mod]
  rw [e3]
  have e4 : (((x % (2 ^ 64 : Nat)).toNat % 2 ^ k : Nat) : Int) = x % ((2 ^ k : Nat) : Int) := by
    rw [Int.natCast_emod, Int.toNat_of_nonneg (Int.emod_nonneg _ (by decide))]
    exact Int.emod_emod_of_dvd x (Int.natCast_dvd_natCast.2 hd)
  rw [e4]
  have h1 : 0 ≤ x % ((2 ^ k : Nat) : Int) := Int.emod_nonneg _ (by omega)
  have h2 : x % ((2 ^ k : Nat) : Int) < ((2 ^ k : Nat) : Int) := Int.emod_lt_of_pos _ (by omega)
  have hp' : 2 ^ k ≤ 4611686018427387904 := hp
  have h3 : ((2 ^ k : Nat) : Int) ≤ 4611686018427387904 := Int.ofNat_le.2 hp'
  rw [wi64 (by omega) (by omega)]
theorem ii_1023 (x : Int) : intA .and .i64 x 1023 = some (.int .i64 (x % 1024)) := ii_and x 10 (by omega)
theorem ii_255 (x : Int) : intA .and .i64 x 255 = some (.int .i64 (x % 256)) := ii_and x 8 (by omega)
theorem ii_127 (x : Int) : intA .and .i64 x 127 = some (.int .i64 (x % 128)) := ii_and x 7 (by omega)
theorem ii_31 (x : Int) : intA .and .i64 x 31 = some (.int .i64 (x % 32)) := ii_and x 5 (by omega)
theorem ii_15 (x : Int) : intA .and .i64 x 15 = some (.int .i64 (x % 16)) := ii_and x 4 (by omega)
theorem ii_63 (x : Int) : intA .and .i64 x 63 = some (.int .i64 (x % 64)) := ii_and x 6 (by omega)
theorem ii_7 (x : Int) : intA .and .i64 x 7 = some (.int .i64 (x % 8)) := ii_and x 3 (by omega)
end Go.AM
