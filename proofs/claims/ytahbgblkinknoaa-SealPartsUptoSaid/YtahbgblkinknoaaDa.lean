import Derived.Test.YtahbgblkinknoaaSpa
/- The data of packets, as the machine holds them. -/
set_option linter.unusedSimpArgs false
set_option linter.unusedVariables false
namespace Go.AM
/-- One value says no more than another. -/
def AVle (a b : AV) : Prop := ∀ (w : World) (μ : Locs) (I : Nat → Prop) (x : Value), VR w a μ I x → VR w b μ I x
theorem AVle.refl (a : AV) : AVle a a := fun _ _ _ _ h => h
theorem AVle.snil (fl : Bool) : AVle .snil (.sl fl [] 0) := by
  intro w μ I x h
  simp only [VR] at h ⊢
  obtain ⟨a, rfl⟩ := h
  refine ⟨a, 0, rfl, Nat.le_refl 0, ?_, ?_⟩ <;> simp
inductive AVles : List AV → List AV → Prop
  | nil : AVles [] []
  | cons {a b : AV} {as bs : List AV} : AVle a b → AVles as bs → AVles (a :: as) (b :: bs)
theorem AVles.vrs {as bs : List AV} (h : AVles as bs) : ∀ {w : World} {μ : Locs} {I : Nat → Prop} {xs : List Value}, VRs w as μ I xs → VRs w bs μ I xs := by
  induction h with
  | nil => intro w μ I xs h; exact h
  | cons h _ ih =>
    intro w μ I xs hv
    simp only [VRs] at hv ⊢
    obtain ⟨x, xs, rfl, h1, h2⟩ := hv
    exact ⟨x, xs, rfl, h w μ I x h1, ih h2⟩
theorem AVle.agg {as bs : List AV} (h : AVles as bs) : AVle (.agg as) (.agg bs) := by
  intro w μ I x hx
  simp only [VR] at hx ⊢
  obtain ⟨vs, rfl, hv⟩ := hx
  exact ⟨vs, rfl, h.vrs hv⟩
theorem AVle.rptr {as bs : List AV} (h : AVles as bs) : AVle (.rptr as) (.rptr bs) := by
  intro w μ I x hx
  simp only [VR] at hx ⊢
  obtain ⟨ad, rfl, hv⟩ := hx
  refine ⟨ad, rfl, ?_⟩
  rcases hv with hv | ⟨vs, h1, h2, h3⟩
  · subst hv; cases h; exact .inl rfl
  · exact .inr ⟨vs, h1, h2, h.vrs h3⟩
theorem Told.le {P : Program} {f : Nat} {as bs : List AV} {r : AV} (h : AVles as bs) (ht : Told P f bs r) : Told P f as r :=
  fun A w vals hA hv => ht A w vals hA (h.vrs hv)

/-- All up to a number. -/
def allTo (p : Nat → Bool) : Nat → Bool
  | 0 => true
  | n + 1 => allTo p n && p n
theorem allTo_iff {p : Nat → Bool} : ∀ {n : Nat}, allTo p n = true ↔ ∀ i, i < n → p i = true
  | 0 => by simp [allTo]
  | n + 1 => by
    simp only [allTo, Bool.and_eq_true, allTo_iff (n := n)]
    constructor
    · rintro ⟨h1, h2⟩ i hi
      rcases Nat.lt_or_ge i n with h | h
      · exact h1 i h
      · rw [show i = n by omega]; exact h2
    · exact fun h => ⟨fun i hi => h i (by omega), h n (by omega)⟩
/-- A look from the first on ends at the first that is not, or at the end. -/
theorem scan (p : Nat → Bool) : ∀ n : Nat, ∃ N, N ≤ n ∧ (∀ i, i < N → p i = true) ∧ ((N < n ∧ p N = false ∧ allTo p n = false) ∨ (N = n ∧ allTo p n = true))
  | 0 => ⟨0, Nat.le_refl 0, fun i h => by omega, .inr ⟨rfl, rfl⟩⟩
  | n + 1 => by
    obtain ⟨N, h1, h2, h3⟩ := scan p n
    rcases h3 with ⟨h3, h4, h5⟩ | ⟨rfl, h5⟩
    · exact ⟨N, by omega, h2, .inl ⟨by omega, h4, by simp [allTo, h5]⟩⟩
    · cases hp : p N
      · exact ⟨N, by omega, h2, .inl ⟨by omega, hp, by simp [allTo, hp]⟩⟩
      · refine ⟨N + 1, Nat.le_refl _, fun i hi => ?_, .inr ⟨rfl, by simp [allTo, h5, hp]⟩⟩
        rcases Nat.lt_or_ge i N with h | h
        · exact h2 i h
        · rw [show i = N by omega]; exact hp

/-- Rows: each element some cells. -/
theorem drop_flat {α : Type} (f : α → List AV) (k : Nat) (hk : ∀ a, (f a).length = k) : ∀ (l : List α) (i : Nat) (hi : i < l.length), (l.flatMap f).drop (i * k) = f l[i] ++ (l.drop (i + 1)).flatMap f
  | a :: l, 0, _ => by simp
  | a :: l, i + 1, hi => by
    have hi' : i < l.length := by simpa using hi
    have := drop_flat f k hk l i hi'
    rw [List.flatMap_cons, List.drop_append, List.drop_eq_nil_of_le (by rw [hk, Nat.succ_mul]; omega), List.nil_append, hk]
    rw [show (i + 1) * k - k = i * k by rw [Nat.succ_mul]; omega]
    simpa using this
theorem length_flat {α : Type} (f : α → List AV) (k : Nat) (hk : ∀ a, (f a).length = k) : ∀ (l : List α), (l.flatMap f).length = l.length * k
  | [] => by simp
  | a :: l => by simp [hk, length_flat f k hk l, Nat.succ_mul]; omega

def intsC (l : List Int) : List AV := l.map fun n => .int .i64 n
def intsV (l : List Int) : AV := .sl true (intsC l) l.length
theorem intsC_drop {l : List Int} {i : Nat} (hi : i < l.length) : (intsC l).drop i = .int .i64 l[i] :: intsC (l.drop (i + 1)) := by
  unfold intsC
  rw [← List.map_drop, List.drop_eq_getElem_cons hi]; rfl
structure Lk where
  (to cost : Int)
def Lk.cells (x : Lk) : List AV := [.int .i64 x.to, .int .i64 x.cost]
def linkC (l : List Lk) : List AV := l.flatMap Lk.cells
def linkV (l : List Lk) : AV := .sl true (linkC l) l.length
theorem linkC_drop {l : List Lk} {i : Nat} (hi : i < l.length) : (linkC l).drop (i * 2) = .int .i64 l[i].to :: .int .i64 l[i].cost :: linkC (l.drop (i + 1)) :=
  drop_flat Lk.cells 2 (fun _ => rfl) l i hi
structure Lsa where
  (router serial age : Int)
  links : List Lk
def Lsa.cells (x : Lsa) : List AV := [.int .i64 x.router, .int .i64 x.serial, .int .i64 x.age, linkV x.links]
def lsaC (l : List Lsa) : List AV := l.flatMap Lsa.cells
def lsaV (l : List Lsa) : AV := .sl false (lsaC l) l.length
theorem lsaC_drop {l : List Lsa} {i : Nat} (hi : i < l.length) : (lsaC l).drop (i * 4) = .int .i64 l[i].router :: .int .i64 l[i].serial :: .int .i64 l[i].age :: linkV l[i].links :: lsaC (l.drop (i + 1)) :=
  drop_flat Lsa.cells 4 (fun _ => rfl) l i hi
structure Hd where
  (router serial age sum : Int)
def Hd.cells (x : Hd) : List AV := [.int .i64 x.router, .int .i64 x.serial, .int .i64 x.age, .int .i64 x.sum]
def headC (l : List Hd) : List AV := l.flatMap Hd.cells
def headV (l : List Hd) : AV := .sl true (headC l) l.length
theorem headC_drop {l : List Hd} {i : Nat} (hi : i < l.length) : (headC l).drop (i * 4) = .int .i64 l[i].router :: .int .i64 l[i].serial :: .int .i64 l[i].age :: .int .i64 l[i].sum :: headC (l.drop (i + 1)) :=
  drop_flat Hd.cells 4 (fun _ => rfl) l i hi
structure Pk where
  (type router : Int)
  heard : List Int
  lsas : List Lsa
  heads : List Hd
def Pk.cells (p : Pk) : List AV := [.int .i64 p.type, .int .i64 p.router, intsV p.heard, lsaV p.lsas, headV p.heads]

theorem AVle.sl {fl fl' : Bool} (hf : fl = true ∨ fl' = false) {as bs : List AV} (n : Nat) (h : AVles as bs) : AVle (.sl fl as n) (.sl fl' bs n) := by
  intro w μ I x hx
  simp only [VR] at hx ⊢
  obtain ⟨a, cap, rfl, h1, h2, h3⟩ := hx
  refine ⟨a, cap, rfl, h1, h2, ?_⟩
  rcases h3 with h3 | ⟨ad, vs, e, hI, hc, hv⟩
  · subst h3; cases h; exact .inl rfl
  · refine .inr ⟨ad, vs, e, hI, hc, h.vrs ?_⟩
    cases fl with
    | true => cases fl' with
      | true => exact hv
      | false => exact VRs.stays _ (Stays.imms noLocs w fun k hk => hk.elim) _ hv
    | false => rcases hf with hf | hf
               · cases hf
               · subst hf; exact hv
theorem AVles.refl : ∀ (as : List AV), AVles as as
  | [] => .nil
  | a :: as => .cons (AVle.refl a) (AVles.refl as)
@[simp] theorem AVle_rfl (a : AV) : AVle a a ↔ True := ⟨fun _ => trivial, fun _ => AVle.refl a⟩

/-- What a value of the machine tells. -/
def unI : AV → Int
  | .int _ n => n
  | _ => 0
def unIC (cs : List AV) : List Int := cs.map unI
def unInts : AV → List Int
  | .sl _ cs _ => unIC cs
  | _ => []
@[simp] theorem unIC_intsC (l : List Int) : unIC (intsC l) = l := by
  simp only [unIC, intsC, List.map_map]
  exact (List.map_congr_left (g := id) (fun _ _ => rfl)).trans (by simp)
@[simp] theorem unInts_intsV (l : List Int) : unInts (intsV l) = l := unIC_intsC l
def unLC : List AV → List Lk
  | a :: b :: cs => ⟨unI a, unI b⟩ :: unLC cs
  | _ => []
def unLinks : AV → List Lk
  | .sl _ cs _ => unLC cs
  | _ => []
@[simp] theorem unLC_linkC : ∀ (l : List Lk), unLC (linkC l) = l
  | [] => rfl
  | x :: l => by
    have := unLC_linkC l
    simp only [linkC, List.flatMap_cons, Lk.cells, List.cons_append, List.nil_append, unLC, unI]
    exact congrArg _ this
@[simp] theorem unLinks_linkV (l : List Lk) : unLinks (linkV l) = l := unLC_linkC l
def unAC : List AV → List Lsa
  | a :: b :: c :: d :: cs => ⟨unI a, unI b, unI c, unLinks d⟩ :: unAC cs
  | _ => []
def unLsas : AV → List Lsa
  | .sl _ cs _ => unAC cs
  | _ => []
@[simp] theorem unAC_lsaC : ∀ (l : List Lsa), unAC (lsaC l) = l
  | [] => rfl
  | x :: l => by
    have := unAC_lsaC l
    simp only [lsaC, List.flatMap_cons, Lsa.cells, List.cons_append, List.nil_append, unAC, unI, unLinks_linkV]
    exact congrArg _ this
@[simp] theorem unLsas_lsaV (l : List Lsa) : unLsas (lsaV l) = l := unAC_lsaC l
def unHC : List AV → List Hd
  | a :: b :: c :: d :: cs => ⟨unI a, unI b, unI c, unI d⟩ :: unHC cs
  | _ => []
def unHeads : AV → List Hd
  | .sl _ cs _ => unHC cs
  | _ => []
@[simp] theorem unHC_headC : ∀ (l : List Hd), unHC (headC l) = l
  | [] => rfl
  | x :: l => by
    have := unHC_headC l
    simp only [headC, List.flatMap_cons, Hd.cells, List.cons_append, List.nil_append, unHC, unI]
    exact congrArg _ this
@[simp] theorem unHeads_headV (l : List Hd) : unHeads (headV l) = l := unHC_headC l
/-- They are such as they tell. -/
def isInts (v : AV) : Prop := AVle v (intsV (unInts v))
def isLinks (v : AV) : Prop := AVle v (linkV (unLinks v))
def isLsas (v : AV) : Prop := AVle v (lsaV (unLsas v))
def isHeads (v : AV) : Prop := AVle v (headV (unHeads v))
@[simp] theorem isInts_intsV (l : List Int) : isInts (intsV l) := by simp [isInts]
@[simp] theorem isLinks_linkV (l : List Lk) : isLinks (linkV l) := by simp [isLinks]
@[simp] theorem isLsas_lsaV (l : List Lsa) : isLsas (lsaV l) := by simp [isLsas]
@[simp] theorem isHeads_headV (l : List Hd) : isHeads (headV l) := by simp [isHeads]
@[simp] theorem isInts_snil : isInts .snil := AVle.snil true
@[simp] theorem isLinks_snil : isLinks .snil := AVle.snil true
@[simp] theorem isLsas_snil : isLsas .snil := AVle.snil false
@[simp] theorem isHeads_snil : isHeads .snil := AVle.snil true
@[simp] theorem unInts_snil : unInts .snil = [] := rfl
@[simp] theorem unLinks_snil : unLinks .snil = [] := rfl
@[simp] theorem unLsas_snil : unLsas .snil = [] := rfl
@[simp] theorem unHeads_snil : unHeads .snil = [] := rfl
theorem isInts_cells {cs : List AV} {l : List Int} {n : Nat} (h : cs = intsC l) (hn : n = l.length) : .sl true cs n = intsV l := by subst h; subst hn; rfl
end Go.AM
