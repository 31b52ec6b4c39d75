/- The abstract machine, part 16: code. -/
import Derived.Test.YtahbgblkinknoaaAMo
import Derived.LoopN
set_option linter.unusedVariables false
set_option linter.unusedSimpArgs false
set_option linter.unnecessarySimpa false
namespace Go.AM

inductive Out where
  | normal
  | ret
  | exit (id : Nat)
def Out.to : Out → Exit
  | .normal => .normal
  | .ret => .ret
  | .exit id => .exit id

/-- What holds of a state holds of the other. -/
def Weak (s s1 : St) : Prop := ∀ (M0 A : Nat → Prop) (w0 : World) (a : Act) (w : World), (∀ k, ¬ M0 k) → Inv M0 A w0 s a w → Inv M0 A w0 s1 a w

section
variable (T : Tab) (call : Nat → List AV → Option AV)
/-- Code comes from a state to another. -/
inductive Ev : Code → St → Out → St → Prop
  | skip {s} : Ev .skip s .normal s
  | line {id ops s s'} : runL T call ops (List.range ops.size) s = some s' → Ev (.region id ops false) s .normal s'
  | draw {id ops s s'} (p : Nat) (ancs tail : List Nat) : planOK ops p ancs tail = true → drawA T call ops p ancs tail s = some s' → Ev (.region id ops true) s .normal s'
  | seq {a b s s1 o s2} : Ev a s .normal s1 → Ev b s1 o s2 → Ev (.seq a b) s o s2
  | cut {a b s o s1} : o ≠ .normal → Ev a s o s1 → Ev (.seq a b) s o s1
  | yes {c a b s o s1} : ev s.t c = .bool true → Ev a s o s1 → Ev (.cond c a b) s o s1
  | no {c a b s o s1} : ev s.t c = .bool false → Ev b s o s1 → Ev (.cond c a b) s o s1
  | out {id c s s1} : Ev c s (.exit id) s1 → Ev (.block id c) s .normal s1
  | block {id c s o s1} : o ≠ .exit id → Ev c s o s1 → Ev (.block id c) s o s1
  | again {c s s1 o s2} : Ev c s .normal s1 → Ev (.loop c) s1 o s2 → Ev (.loop c) s o s2
  | done {c s o s1} : o ≠ .normal → Ev c s o s1 → Ev (.loop c) s o s1
  | exit {id s} : Ev (.exit id) s (.exit id) s
  | ret {s} : Ev .ret s .ret s
  | weak {c s s1 o s2} : Weak s s1 → Ev c s1 o s2 → Ev c s o s2
  | then {c s o s1 s2} : Ev c s o s1 → Weak s1 s2 → Ev c s o s2
end

section
variable {P : Program} {T : Tab} {M0 A : Nat → Prop} {w0 w w' : World} {call : Nat → List AV → Option AV}

theorem Inv.drew {s : St} {a : Act} (h : Inv M0 A w0 s a w) : Inv M0 A w0 s a { w with drawn := w.drawn + 1 } := by
  obtain ⟨μ, I, hS, ht, hn, hd⟩ := h
  have hk : Keep noImm w w.drew := Keep.drew w
  exact ⟨μ, I, hS.keeps hk, VRs.stays _ (hS.stays hk) _ ht, hn, hd⟩

theorem rounds_mono {c : Code} {Q Q' : Exit → Act → World → Prop} (hq : ∀ e a w, Q e a w → Q' e a w) : ∀ n a w, Code.rounds P c Q n a w → Code.rounds P c Q' n a w
  | 0, _, _, h => h.elim
  | n + 1, a, w, h => wp_mono h fun e a w he => by
    cases e with
    | normal => exact rounds_mono hq n a w he
    | _ => exact hq _ _ _ he

def LoopOf : Code → Option Code
  | .loop c => some c
  | _ => none

theorem Ev_ok (TO : TabOK P T) (CO : CallOK P call) (hmix : P.follows .mixedOrders = true) (hM : ∀ k, ¬ M0 k) {c : Code} {s s' : St} {o : Out} (h : Ev T call c s o s') :
    (∀ (Q : Exit → Act → World → Prop) (a : Act) (w : World), Inv M0 A w0 s a w → (∀ a' w', Inv M0 A w0 s' a' w' → Q o.to a' w') → c.wp P Q a w) ∧
    (∀ b, LoopOf c = some b → ∃ n, ∀ (Q : Exit → Act → World → Prop) (a : Act) (w : World), Inv M0 A w0 s a w → (∀ a' w', Inv M0 A w0 s' a' w' → Q o.to a' w') → Code.rounds P b Q n a w) := by
  induction h with
  | skip => exact ⟨fun Q a w hI hQ => wp_skip (hQ _ _ hI), fun b hb => by cases hb⟩
  | line h =>
    exact ⟨fun Q a w hI hQ => wp_region (runL_ok TO CO hM _ hI h hQ), fun b hb => by cases hb⟩
  | draw p ancs tail hp h =>
    exact ⟨fun Q a w hI hQ => wp_region_any hmix (drawA_ok TO CO hM hp hI.drew h hQ), fun b hb => by cases hb⟩
  | seq _ _ iha ihb =>
    exact ⟨fun Q a w hI hQ => wp_seq (iha.1 _ a w hI fun a' w' hI' => ihb.1 Q a' w' hI' hQ), fun b hb => by cases hb⟩
  | @cut ca cb s o s1 hne _ iha =>
    refine ⟨fun Q a w hI hQ => wp_seq (iha.1 _ a w hI fun a' w' hI' => ?_), fun b hb => by cases hb⟩
    cases o with
    | normal => exact absurd rfl hne
    | ret => exact hQ _ _ hI'
    | exit id => exact hQ _ _ hI'
  | @yes x ca cb s o s1 hc _ iha =>
    refine ⟨fun Q a w hI hQ => wp_cond_true ?_ (iha.1 Q a w hI hQ), fun b hb => by cases hb⟩
    obtain ⟨μ, I, hS, ht, hn, hd⟩ := hI
    have := VR.ev ht x
    rw [hc] at this
    simpa only [VR] using this
  | @no x ca cb s o s1 hc _ iha =>
    refine ⟨fun Q a w hI hQ => wp_cond_false ?_ (iha.1 Q a w hI hQ), fun b hb => by cases hb⟩
    obtain ⟨μ, I, hS, ht, hn, hd⟩ := hI
    have := VR.ev ht x
    rw [hc] at this
    simpa only [VR] using this
  | out _ iha =>
    refine ⟨fun Q a w hI hQ => wp_block (iha.1 _ a w hI fun a' w' hI' => ?_), fun b hb => by cases hb⟩
    simp only [Out.to, Exit.inBlock, if_true]
    exact hQ _ _ hI'
  | @block id c s o s1 hne _ iha =>
    refine ⟨fun Q a w hI hQ => wp_block (iha.1 _ a w hI fun a' w' hI' => ?_), fun b hb => by cases hb⟩
    cases o with
    | normal => exact hQ _ _ hI'
    | ret => exact hQ _ _ hI'
    | exit id' =>
      simp only [Out.to, Exit.inBlock]
      rw [if_neg (fun e => hne (by rw [e]))]
      exact hQ _ _ hI'
  | again _ _ iha ihb =>
    obtain ⟨n, hn⟩ := ihb.2 _ rfl
    have key : ∀ (Q : Exit → Act → World → Prop) (a : Act) (w : World), Inv M0 A w0 _ a w → _ → Code.rounds P _ Q (n + 1) a w :=
      fun Q a w hI hQ => iha.1 _ a w hI fun a' w' hI' => hn Q a' w' hI' hQ
    exact ⟨fun Q a w hI hQ => wp_loop_rounds (n + 1) (key Q a w hI hQ), fun b hb => by injection hb with hb; subst hb; exact ⟨n + 1, key⟩⟩
  | @done c s o s1 hne _ iha =>
    have key : ∀ (Q : Exit → Act → World → Prop) (a : Act) (w : World), Inv M0 A w0 s a w → (∀ a' w', Inv M0 A w0 s1 a' w' → Q o.to a' w') → Code.rounds P c Q 1 a w :=
      fun Q a w hI hQ => iha.1 _ a w hI fun a' w' hI' => by
        cases o with
        | normal => exact absurd rfl hne
        | ret => exact hQ _ _ hI'
        | exit id => exact hQ _ _ hI'
    exact ⟨fun Q a w hI hQ => wp_loop_rounds 1 (key Q a w hI hQ), fun b hb => by injection hb with hb; subst hb; exact ⟨1, key⟩⟩
  | exit => exact ⟨fun Q a w hI hQ => wp_exit (hQ _ _ hI), fun b hb => by cases hb⟩
  | ret => exact ⟨fun Q a w hI hQ => wp_ret (hQ _ _ hI), fun b hb => by cases hb⟩
  | weak hw _ ih =>
    refine ⟨fun Q a w hI hQ => ih.1 Q a w (hw _ _ _ _ _ hM hI) hQ, fun b hb => ?_⟩
    obtain ⟨n, hn⟩ := ih.2 b hb
    exact ⟨n, fun Q a w hI hQ => hn Q a w (hw _ _ _ _ _ hM hI) hQ⟩
  | «then» _ hw ih =>
    refine ⟨fun Q a w hI hQ => ih.1 Q a w hI fun a' w' hI' => hQ a' w' (hw _ _ _ _ _ hM hI'), fun b hb => ?_⟩
    obtain ⟨n, hn⟩ := ih.2 b hb
    exact ⟨n, fun Q a w hI hQ => hn Q a w hI fun a' w' hI' => hQ a' w' (hw _ _ _ _ _ hM hI')⟩
end
end Go.AM
