/- The abstract machine, part 21: what is told of some functions serves the next. -/
import Derived.Test.YtahbgblkinknoaaAMt
namespace Go.AM

/-- Nothing is known yet. -/
def known0 : Nat → List AV → Option AV := fun _ _ => none
/-- One function more is known. -/
def ext (call : Nat → List AV → Option AV) (f : Nat) (g : List AV → Option AV) : Nat → List AV → Option AV := fun f' args => if f' = f then g args else call f' args

theorem known0_ok (P : Program) : CallOK P known0 := fun _ _ _ h => by cases h
theorem CallOK.ext {P : Program} {call : Nat → List AV → Option AV} (h : CallOK P call) {f : Nat} {fn : Func} {g : List AV → Option AV} (hf : P.funcs[f]? = some fn)
    (hn : (fn.body.isSome && !(fn.name == "runtime.NumGoroutine")) = true) (hT : ∀ args r, g args = some r → Told P f args r) : CallOK P (ext call f g) := by
  intro f' args r hr
  unfold AM.ext at hr
  simp only [Bool.and_eq_true, Bool.not_eq_true'] at hn
  split at hr
  · rename_i e; subst e
    exact ⟨hT args r hr, fn, hf, hn.1, hn.2⟩
  · exact h f' args r hr

theorem wi64 {n : Int} (h : -9223372036854775808 ≤ n) (h2 : n ≤ 9223372036854775807) : IntKind.i64.wrap n = n := by
  simp [IntKind.wrap, IntKind.signed, IntKind.bits]; omega

/-- The code ends otherwise than at its end. -/
def stops : Option (Out × St) → Bool
  | some (.normal, _) => false
  | _ => true
/-- A loop goes round N times, from one state to the next, and then ends. -/
theorem iter_to {f : St → Option (Out × St)} {keep n : Nat} {s0 : St} (C : Nat → St) (N : Nat) (hn : N < n) (hC : s0 = C 0) (hs : ∀ i, i < N → (f (C i)).map (fun r => (r.1, canon keep r.2)) = some (.normal, C (i + 1)))
    (he : stops (f (C N)) = true) : iter f keep n s0 = f (C N) := by
  subst hC
  have key : ∀ k j n, j + k = N → k < n → iter f keep n (C j) = f (C N) := by
    intro k
    induction k with
    | zero =>
      intro j n hj hn
      have : j = N := by omega
      subst this
      cases n with
      | zero => omega
      | succ n =>
        simp only [iter]
        generalize f (C j) = r at he
        match r, he with
        | none, _ => rfl
        | some (.ret, _), _ => rfl
        | some (.exit _, _), _ => rfl
    | succ k ih =>
      intro j n hj hn
      cases n with
      | zero => omega
      | succ n =>
        have h0 := hs j (by omega)
        simp only [Option.map_eq_some_iff, Prod.mk.injEq] at h0
        obtain ⟨⟨o', s'⟩, h1, h2, h3⟩ := h0
        simp only at h2 h3
        subst h2
        simp only [iter, h1, h3]
        exact ih (j + 1) n (by omega) (by omega)
  exact key N 0 n (by omega) hn
@[simp] theorem beq_dec (a b : Int) : (a == b) = decide (a = b) := by cases h : (a == b) <;> simp_all
@[simp] theorem bne_dec (a b : Int) : (a != b) = !decide (a = b) := by simp [bne]
section
variable (k : IntKind) (a b : Int)
theorem intA_add : intA .add k a b = some (.int k (k.wrap (a + b))) := by cases k <;> rfl
theorem intA_sub : intA .sub k a b = some (.int k (k.wrap (a - b))) := by cases k <;> rfl
theorem intA_mul : intA .mul k a b = some (.int k (k.wrap (a * b))) := by cases k <;> rfl
theorem intA_quo : intA .quo k a b = if b = 0 then none else some (.int k (k.wrap (a.tdiv b))) := rfl
theorem intA_rem : intA .rem k a b = if b = 0 then none else some (.int k (a.tmod b)) := rfl
@[simp] theorem intA_eql : intA .eql k a b = some (.bool (decide (a = b))) := by simp [intA]
@[simp] theorem intA_neq : intA .neq k a b = some (.bool (!decide (a = b))) := by simp [intA]
@[simp] theorem intA_lss : intA .lss k a b = some (.bool (decide (a < b))) := rfl
@[simp] theorem intA_leq : intA .leq k a b = some (.bool (decide (a ≤ b))) := rfl
@[simp] theorem intA_gtr : intA .gtr k a b = some (.bool (decide (a > b))) := rfl
@[simp] theorem intA_geq : intA .geq k a b = some (.bool (decide (a ≥ b))) := rfl
theorem intA_and : intA .and k a b = some (.int k (k.wrap (BitVec.ofInt k.bits a &&& BitVec.ofInt k.bits b).toNat)) := by cases k <;> rfl
theorem intA_or : intA .or k a b = some (.int k (k.wrap (BitVec.ofInt k.bits a ||| BitVec.ofInt k.bits b).toNat)) := by cases k <;> rfl
theorem intA_xor : intA .xor k a b = some (.int k (k.wrap (BitVec.ofInt k.bits a ^^^ BitVec.ofInt k.bits b).toNat)) := by cases k <;> rfl
theorem shiftA_shl : shiftA .shl k a b = if b < 0 then none else some (.int k (k.wrap (a * 2 ^ (min b.toNat k.bits)))) := by cases k <;> rfl
theorem shiftA_shr : shiftA .shr k a b = if b < 0 then none else some (.int k (a.fdiv (2 ^ (min b.toNat k.bits)))) := by cases k <;> rfl
theorem unA_neg : unA .neg (.int k a) = some (.int k (k.wrap (0 - a))) := by cases k <;> rfl
theorem unA_xor : unA .xor (.int k a) = some (.int k (k.wrap (BitVec.ofInt k.bits (if k.signed then -1 else k.max) ^^^ BitVec.ofInt k.bits a).toNat)) := by cases k <;> rfl
@[simp] theorem unA_not (c : Bool) : unA .not (.bool c) = some (.bool (!c)) := rfl
end
@[simp] theorem intA_add_i64 (a b : Int) : intA .add .i64 a b = some (.int .i64 (IntKind.i64.wrap (a + b))) := intA_add .i64 a b
@[simp] theorem intA_sub_i64 (a b : Int) : intA .sub .i64 a b = some (.int .i64 (IntKind.i64.wrap (a - b))) := intA_sub .i64 a b
@[simp] theorem intA_mul_i64 (a b : Int) : intA .mul .i64 a b = some (.int .i64 (IntKind.i64.wrap (a * b))) := intA_mul .i64 a b
@[simp] theorem intA_quo_i64 (a b : Int) : intA .quo .i64 a b = if b = 0 then none else some (.int .i64 (IntKind.i64.wrap (a.tdiv b))) := intA_quo .i64 a b
@[simp] theorem intA_rem_i64 (a b : Int) : intA .rem .i64 a b = if b = 0 then none else some (.int .i64 (a.tmod b)) := intA_rem .i64 a b
@[simp] theorem intA_and_i64 (a b : Int) : intA .and .i64 a b = some (.int .i64 (IntKind.i64.wrap (BitVec.ofInt IntKind.i64.bits a &&& BitVec.ofInt IntKind.i64.bits b).toNat)) := intA_and .i64 a b
@[simp] theorem intA_or_i64 (a b : Int) : intA .or .i64 a b = some (.int .i64 (IntKind.i64.wrap (BitVec.ofInt IntKind.i64.bits a ||| BitVec.ofInt IntKind.i64.bits b).toNat)) := intA_or .i64 a b
@[simp] theorem intA_xor_i64 (a b : Int) : intA .xor .i64 a b = some (.int .i64 (IntKind.i64.wrap (BitVec.ofInt IntKind.i64.bits a ^^^ BitVec.ofInt IntKind.i64.bits b).toNat)) := intA_xor .i64 a b
@[simp] theorem shiftA_shl_i64 (a b : Int) : shiftA .shl .i64 a b = if b < 0 then none else some (.int .i64 (IntKind.i64.wrap (a * 2 ^ (min b.toNat IntKind.i64.bits)))) := shiftA_shl .i64 a b
@[simp] theorem shiftA_shr_i64 (a b : Int) : shiftA .shr .i64 a b = if b < 0 then none else some (.int .i64 (a.fdiv (2 ^ (min b.toNat IntKind.i64.bits)))) := shiftA_shr .i64 a b
@[simp] theorem unA_neg_i64 (a : Int) : unA .neg (.int .i64 a) = some (.int .i64 (IntKind.i64.wrap (0 - a))) := unA_neg .i64 a
@[simp] theorem unA_xor_i64 (a : Int) : unA .xor (.int .i64 a) = some (.int .i64 (IntKind.i64.wrap (BitVec.ofInt IntKind.i64.bits (if IntKind.i64.signed then -1 else IntKind.i64.max) ^^^ BitVec.ofInt IntKind.i64.bits a).toNat)) := unA_xor .i64 a
@[simp] theorem intA_add_u64 (a b : Int) : intA .add .u64 a b = some (.int .u64 (IntKind.u64.wrap (a + b))) := intA_add .u64 a b
@[simp] theorem intA_sub_u64 (a b : Int) : intA .sub .u64 a b = some (.int .u64 (IntKind.u64.wrap (a - b))) := intA_sub .u64 a b
@[simp] theorem intA_mul_u64 (a b : Int) : intA .mul .u64 a b = some (.int .u64 (IntKind.u64.wrap (a * b))) := intA_mul .u64 a b
@[simp] theorem intA_quo_u64 (a b : Int) : intA .quo .u64 a b = if b = 0 then none else some (.int .u64 (IntKind.u64.wrap (a.tdiv b))) := intA_quo .u64 a b
@[simp] theorem intA_rem_u64 (a b : Int) : intA .rem .u64 a b = if b = 0 then none else some (.int .u64 (a.tmod b)) := intA_rem .u64 a b
@[simp] theorem intA_and_u64 (a b : Int) : intA .and .u64 a b = some (.int .u64 (IntKind.u64.wrap (BitVec.ofInt IntKind.u64.bits a &&& BitVec.ofInt IntKind.u64.bits b).toNat)) := intA_and .u64 a b
@[simp] theorem intA_or_u64 (a b : Int) : intA .or .u64 a b = some (.int .u64 (IntKind.u64.wrap (BitVec.ofInt IntKind.u64.bits a ||| BitVec.ofInt IntKind.u64.bits b).toNat)) := intA_or .u64 a b
@[simp] theorem intA_xor_u64 (a b : Int) : intA .xor .u64 a b = some (.int .u64 (IntKind.u64.wrap (BitVec.ofInt IntKind.u64.bits a ^^^ BitVec.ofInt IntKind.u64.bits b).toNat)) := intA_xor .u64 a b
@[simp] theorem shiftA_shl_u64 (a b : Int) : shiftA .shl .u64 a b = if b < 0 then none else some (.int .u64 (IntKind.u64.wrap (a * 2 ^ (min b.toNat IntKind.u64.bits)))) := shiftA_shl .u64 a b
@[simp] theorem shiftA_shr_u64 (a b : Int) : shiftA .shr .u64 a b = if b < 0 then none else some (.int .u64 (a.fdiv (2 ^ (min b.toNat IntKind.u64.bits)))) := shiftA_shr .u64 a b
@[simp] theorem unA_neg_u64 (a : Int) : unA .neg (.int .u64 a) = some (.int .u64 (IntKind.u64.wrap (0 - a))) := unA_neg .u64 a
@[simp] theorem unA_xor_u64 (a : Int) : unA .xor (.int .u64 a) = some (.int .u64 (IntKind.u64.wrap (BitVec.ofInt IntKind.u64.bits (if IntKind.u64.signed then -1 else IntKind.u64.max) ^^^ BitVec.ofInt IntKind.u64.bits a).toNat)) := unA_xor .u64 a
@[simp] theorem intA_add_u8 (a b : Int) : intA .add .u8 a b = some (.int .u8 (IntKind.u8.wrap (a + b))) := intA_add .u8 a b
@[simp] theorem intA_sub_u8 (a b : Int) : intA .sub .u8 a b = some (.int .u8 (IntKind.u8.wrap (a - b))) := intA_sub .u8 a b
@[simp] theorem intA_mul_u8 (a b : Int) : intA .mul .u8 a b = some (.int .u8 (IntKind.u8.wrap (a * b))) := intA_mul .u8 a b
@[simp] theorem intA_quo_u8 (a b : Int) : intA .quo .u8 a b = if b = 0 then none else some (.int .u8 (IntKind.u8.wrap (a.tdiv b))) := intA_quo .u8 a b
@[simp] theorem intA_rem_u8 (a b : Int) : intA .rem .u8 a b = if b = 0 then none else some (.int .u8 (a.tmod b)) := intA_rem .u8 a b
@[simp] theorem intA_and_u8 (a b : Int) : intA .and .u8 a b = some (.int .u8 (IntKind.u8.wrap (BitVec.ofInt IntKind.u8.bits a &&& BitVec.ofInt IntKind.u8.bits b).toNat)) := intA_and .u8 a b
@[simp] theorem intA_or_u8 (a b : Int) : intA .or .u8 a b = some (.int .u8 (IntKind.u8.wrap (BitVec.ofInt IntKind.u8.bits a ||| BitVec.ofInt IntKind.u8.bits b).toNat)) := intA_or .u8 a b
@[simp] theorem intA_xor_u8 (a b : Int) : intA .xor .u8 a b = some (.int .u8 (IntKind.u8.wrap (BitVec.ofInt IntKind.u8.bits a ^^^ BitVec.ofInt IntKind.u8.bits b).toNat)) := intA_xor .u8 a b
@[simp] theorem shiftA_shl_u8 (a b : Int) : shiftA .shl .u8 a b = if b < 0 then none else some (.int .u8 (IntKind.u8.wrap (a * 2 ^ (min b.toNat IntKind.u8.bits)))) := shiftA_shl .u8 a b
@[simp] theorem shiftA_shr_u8 (a b : Int) : shiftA .shr .u8 a b = if b < 0 then none else some (.int .u8 (a.fdiv (2 ^ (min b.toNat IntKind.u8.bits)))) := shiftA_shr .u8 a b
@[simp] theorem unA_neg_u8 (a : Int) : unA .neg (.int .u8 a) = some (.int .u8 (IntKind.u8.wrap (0 - a))) := unA_neg .u8 a
@[simp] theorem unA_xor_u8 (a : Int) : unA .xor (.int .u8 a) = some (.int .u8 (IntKind.u8.wrap (BitVec.ofInt IntKind.u8.bits (if IntKind.u8.signed then -1 else IntKind.u8.max) ^^^ BitVec.ofInt IntKind.u8.bits a).toNat)) := unA_xor .u8 a
@[simp] theorem intA_add_u32 (a b : Int) : intA .add .u32 a b = some (.int .u32 (IntKind.u32.wrap (a + b))) := intA_add .u32 a b
@[simp] theorem intA_sub_u32 (a b : Int) : intA .sub .u32 a b = some (.int .u32 (IntKind.u32.wrap (a - b))) := intA_sub .u32 a b
@[simp] theorem intA_mul_u32 (a b : Int) : intA .mul .u32 a b = some (.int .u32 (IntKind.u32.wrap (a * b))) := intA_mul .u32 a b
@[simp] theorem intA_quo_u32 (a b : Int) : intA .quo .u32 a b = if b = 0 then none else some (.int .u32 (IntKind.u32.wrap (a.tdiv b))) := intA_quo .u32 a b
@[simp] theorem intA_rem_u32 (a b : Int) : intA .rem .u32 a b = if b = 0 then none else some (.int .u32 (a.tmod b)) := intA_rem .u32 a b
@[simp] theorem intA_and_u32 (a b : Int) : intA .and .u32 a b = some (.int .u32 (IntKind.u32.wrap (BitVec.ofInt IntKind.u32.bits a &&& BitVec.ofInt IntKind.u32.bits b).toNat)) := intA_and .u32 a b
@[simp] theorem intA_or_u32 (a b : Int) : intA .or .u32 a b = some (.int .u32 (IntKind.u32.wrap (BitVec.ofInt IntKind.u32.bits a ||| BitVec.ofInt IntKind.u32.bits b).toNat)) := intA_or .u32 a b
@[simp] theorem intA_xor_u32 (a b : Int) : intA .xor .u32 a b = some (.int .u32 (IntKind.u32.wrap (BitVec.ofInt IntKind.u32.bits a ^^^ BitVec.ofInt IntKind.u32.bits b).toNat)) := intA_xor .u32 a b
@[simp] theorem shiftA_shl_u32 (a b : Int) : shiftA .shl .u32 a b = if b < 0 then none else some (.int .u32 (IntKind.u32.wrap (a * 2 ^ (min b.toNat IntKind.u32.bits)))) := shiftA_shl .u32 a b
@[simp] theorem shiftA_shr_u32 (a b : Int) : shiftA .shr .u32 a b = if b < 0 then none else some (.int .u32 (a.fdiv (2 ^ (min b.toNat IntKind.u32.bits)))) := shiftA_shr .u32 a b
@[simp] theorem unA_neg_u32 (a : Int) : unA .neg (.int .u32 a) = some (.int .u32 (IntKind.u32.wrap (0 - a))) := unA_neg .u32 a
@[simp] theorem unA_xor_u32 (a : Int) : unA .xor (.int .u32 a) = some (.int .u32 (IntKind.u32.wrap (BitVec.ofInt IntKind.u32.bits (if IntKind.u32.signed then -1 else IntKind.u32.max) ^^^ BitVec.ofInt IntKind.u32.bits a).toNat)) := unA_xor .u32 a
attribute [simp] wi64
example : IntKind.i64.wrap 24 = 24 := by simp
example : IntKind.i64.wrap (-24) = -24 := by simp
theorem opt_map_some {α β : Type} (f : α → β) (a : α) : (some a).map f = some (f a) := rfl
attribute [simp] codeA up runL stepA wantedA eop qop ev evs optEv putA drawA preN valP idsIn addA allA pickA cst convA binA isShift strA start fnA isEnd retA resA oneA expR exp2 exp2L expL exp1 apartL
attribute [simp] look upd del frz only storeA newsA appA deepA seqD loadA reach isAggD cellsOf cellL cellish kdL kdOf callA exC adopt take2 take2L takeL take1 flatR flat2 flat2L flat1 flatL
attribute [simp] sliceA fieldAddrA indexAddrA partA indexA fieldA fillA placesA buildA builtinA eqCell eqCells bytesOf
attribute [simp] canon mask renC renM pos ded idsOf refs firstId
attribute [simp] AM.ext known0
end Go.AM
