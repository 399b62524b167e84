/- The reference's CheckList. -/
import Derived.Test.YtgndegccjhdmmaaGreatJQ
set_option linter.unusedVariables false
set_option linter.unusedSimpArgs false
set_option maxHeartbeats 4000000
set_option maxRecDepth 100000
namespace Go.Ab
open Go Go.Proofs

def listE (J : List Lg) (l : List Int) : Int := if checkJ J ≠ 0 then checkJ J else if isL J.length l = false then 2 else 0
theorem refList65 {J : List Lg} {f fl : Bool} {l : List Int} {σ : List O} (hJ : J.length ≤ 1000000) (hl : ∀ x ∈ J, (x.2.1.length : Int) < 1000000000) (hk : (l.length : Int) < 1000000000) : FSpec Tryz.prog 65 [jamV J f, sl l fl] σ (.i .i64 (listE J l)) σ := by
  refine FSpec.frame (σ := σ) ?_ (by simp) rfl
  refine fn65.spec0 mixed noIt_ok ?_
  rw [ic65]
  have h24 := fun σ => refCheck24 (f := f) (σ := σ) hJ hl
  refine ab_seq_k fun K1 h1 => ?_
  simp
  refine h1 _ _ _ ?_
  clear h1 K1
  refine ab_seq_k fun K2 h2 => ?_
  refine ab_seq_k fun K3 h3 => ?_
  simp
  refine callK_of (h24 _) ?_
  simp
  refine h3 _ _ _ ?_
  clear h3 K3
  by_cases hc : checkJ J = 0
  · refine ab_cond_of rfl (fun h => by simp [hc] at h) (fun _ => ?_)
    simp
    refine h2 _ _ _ ?_
    clear h2 K2
    refine ab_seq_k fun K4 h4 => ?_
    refine ab_seq_k fun K5 h5 => ?_
    simp
    refine callK_of (refIsList57 (by omega) hk) ?_
    simp
    refine h5 _ _ _ ?_
    clear h5 K5
    cases hi : isL J.length l with
    | false =>
      refine ab_cond_of rfl (fun _ => ?_) (fun h => by cases h)
      refine ab_seq_k fun K6 h6 => ?_
      simp
      refine h6 _ _ _ ?_
      clear h6 K6
      simp
      refine fin_of 1 ?_
      simp [rs65, listE, hc, hi]
    | true =>
      refine ab_cond_of rfl (fun h => by cases h) (fun _ => ?_)
      simp
      refine h4 _ _ _ ?_
      refine ab_seq_k fun K7 h7 => ?_
      simp
      refine h7 _ _ _ ?_
      clear h7 K7
      simp
      refine fin_of 1 ?_
      simp [rs65, listE, hc, hi]
  · refine ab_cond_of rfl (fun _ => ?_) (fun h => by simp [hc] at h)
    refine ab_seq_k fun K8 h8 => ?_
    simp
    refine callK_of (h24 _) ?_
    simp
    refine h8 _ _ _ ?_
    clear h8 K8
    simp
    refine fin_of 1 ?_
    simp [rs65, listE, hc]
end Go.Ab
