import Derived.Test.YtahbgblkinknoaaMd
import Derived.Below
/- What is told of a law's function, as its row asks for it. -/
namespace Go.AM
open Go.RowKit in
theorem told_true {P : Program} {f : Nat} {args : List AV} (h : Told P f args (.bool true)) {w : World} {vals : List Value} {A : Nat → Prop} (hA : ∀ k, A k → k < w.heap.size) (hv : VRs w args noLocs A vals) :
    Calls P f vals.toArray w fun e w' => e = .returned (.bool true) ∧ Below w.heap.size w w' := by
  refine (h A w vals hA hv).mono fun e w' he => ?_
  obtain ⟨x, rfl, hF⟩ := he
  obtain ⟨μ, I, hS, _, hx⟩ := hF 0
  simp only [adopt, take2, take1, VR] at hx
  subst hx
  have k := hS.keep
  exact ⟨rfl, ⟨k.os, k.tape, k.output, k.size, fun j hj => k.block j hj (fun h => h.elim)⟩⟩
end Go.AM

