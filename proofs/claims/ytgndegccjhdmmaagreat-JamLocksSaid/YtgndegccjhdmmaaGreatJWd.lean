/- Jams with more logs than a statement takes. -/
import Derived.Test.YtgndegccjhdmmaaGreatJL
set_option linter.unusedVariables false
set_option linter.unusedSimpArgs false
set_option maxHeartbeats 4000000
set_option maxRecDepth 100000
namespace Go.Ab
open Go Go.Proofs

def wideB (J : List Lg) : Bool := decide (checkJ J = 0) && decide (8 < J.length)
theorem wide28 {J : List Lg} {f : Bool} {σ : List O} (hJ : J.length ≤ 1000000) (hl : ∀ x ∈ J, (x.2.1.length : Int) < 1000000000) : FSpec Tryz.prog 28 [jamV J f] σ (.b (wideB J)) σ := by
  refine FSpec.frame (σ := σ) ?_ (by simp) rfl
  refine fn28.spec0 mixed noIt_ok ?_
  rw [ic28]
  refine ab_seq_k fun K1 h1 => ?_
  simp
  refine h1 _ _ _ ?_
  clear h1 K1
  refine ab_seq_k fun K2 h2 => ?_
  simp
  refine callK_of (refCheck24 hJ hl) ?_
  by_cases hc : checkJ J = 0
  · simp [hc]
    refine h2 _ _ _ ?_
    simp
    refine fin_of 1 ?_
    simp [rs28, wideB, hc]
    try omega
  · simp [hc]
    refine h2 _ _ _ ?_
    simp
    refine fin_of 1 ?_
    simp [rs28, wideB, hc]
end Go.Ab
