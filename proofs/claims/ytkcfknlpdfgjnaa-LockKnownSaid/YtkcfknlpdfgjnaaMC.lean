/- The law LockKnown. -/
import Derived.Test.YtkcfknlpdfgjnaaMB
set_option linter.unusedVariables false
set_option linter.unusedSimpArgs false
set_option maxHeartbeats 4000000
set_option maxRecDepth 100000
namespace Go.Ab
open Go Go.Proofs

theorem k1 : bestP tw0 4 = (15, 0) := by decide +kernel
theorem k2 : bestO tw0 4 = [0, 1, 2, 3] := by decide +kernel
theorem k3 : boundP tw0 4 1 2 = (11, 0) := by decide +kernel
theorem k4 : boundP tw0 4 3 1 = (0, 2) := by decide +kernel
theorem lockKnown : FSpec Try.prog 14 [] [] (.b true) [] := by
  refine fn14.spec0 mixed noIt_ok ?_
  rw [ic14]
  have h48 := fun r σ => FSpec.frame (σ := σ) (tow48 (r := r)) (by simp) (by simp)
  have hl4' : ((tw0.length : Nat) : Int) < 1000000000 := by decide
  have h25 := fun r σ => FSpec.frame (σ := σ) (prgBest (T := tw0) (ft := true) (room := r) hl4') (by simp) (by simp [pairV])
  have h27 := fun σ => FSpec.frame (σ := σ) (prgOrder (T := tw0) (ft := true) (room := 4) hl4') (by simp) (by simp [orderP, w8])
  have h34 := fun k t σ => FSpec.frame (σ := σ) (prgBound (T := tw0) (ft := true) (room := 4) (lock := k) (t := t) hl4') (by simp) (by simp [pairV])
  simp only [orderP, w8, k2, if_true] at h27
  have h25a := h25 4
  have h34a := h34 1 2
  have h34b := h34 3 1
  rw [k1] at h25a
  rw [k3] at h34a
  rw [k4] at h34b
  have hI := fun (a b c d a' b' c' d' : Int) f f' σ => FSpec.frame (σ := σ) (ints_ok (a := [a, b, c, d]) (b := [a', b', c', d']) (fa := f) (fb := f') (by simp)) (by simp) rfl
  refine ab_seq_k fun K1 h1 => ?_
  simp
  refine h1 _ _ _ ?_
  clear h1 K1
  refine ab_seq_k fun K2 h2 => ?_
  simp [take_towC]
  refine callK_of (h48 _ _) ?_
  simp [take_towC]
  refine h2 _ _ _ ?_
  clear h2 K2
  refine ab_seq_k fun K3 h3 => ?_
  simp [take_towC, pairV]
  refine callK_of (h25a _) ?_
  simp [take_towC, pairV]
  refine h3 _ _ _ ?_
  clear h3 K3
  refine ab_seq_k fun K4 h4 => ?_
  simp [take_towC]
  refine callK_of (h27 _) ?_
  simp [take_towC]
  refine h4 _ _ _ ?_
  clear h4 K4
  refine ab_seq_k fun K5 h5 => ?_
  simp [take_towC, pairV]
  refine callK_of (h34a _) ?_
  simp [take_towC, pairV]
  refine h5 _ _ _ ?_
  clear h5 K5
  refine ab_seq_k fun K6 h6 => ?_
  simp [take_towC, pairV]
  refine callK_of (h34b _) ?_
  simp [take_towC, pairV]
  refine h6 _ _ _ ?_
  clear h6 K6
  refine ab_seq_k fun K7 h7 => ?_
  simp
  refine callK_of (hI 0 1 2 3 0 1 2 3 false true _) ?_
  simp
  refine callK_of (wk _) ?_
  simp
  refine h7 _ _ _ ?_
  simp
  exact fin_of 1 (by simp [rs14])
end Go.Ab
