/- Works. -/
import Derived.Test.YtkcfknlpdfgjnaaLY
set_option linter.unusedVariables false
set_option linter.unusedSimpArgs false
set_option maxHeartbeats 4000000
set_option maxRecDepth 100000
namespace Go.Ab
open Go Go.Proofs

def tw0 : Tw := [(1, 5), (2, 6), (6, 1), (5, 1)]
theorem w1 : timeP tw0 4 [0, 1, 2, 3] = (15, 0) := by decide +kernel
theorem w2 : timeP tw0 0 [0, 1, 2, 3] = (18, 0) := by decide +kernel
theorem w3 : timeP tw0 4 [0, 0, 1, 2] = (0, 16) := by decide +kernel
theorem w4 : thrL tw0 1 [0, 1, 2, 3] = [6, 12, 13, 15] ∧ ordE tw0 1 [0, 1, 2, 3] = 0 := by decide +kernel
theorem w5 : thrL tw0 0 [0, 3, 1, 2] = [6, 14, 15, 7] ∧ ordE tw0 0 [0, 3, 1, 2] = 0 := by decide +kernel
theorem w6 : bestP tw0 0 = (15, 0) := by decide +kernel
theorem w7 : bestO tw0 0 = [0, 3, 1, 2] ∧ checkTow tw0 0 = 0 := by decide +kernel
theorem w8 : firstsL tw0 4 = [0, 1] ∧ checkTow tw0 4 = 0 := by decide +kernel
theorem w9 : ruleO tw0 = [0, 1, 2, 3] := by decide +kernel
theorem wa : boundP tw0 4 2 1 = (15, 0) := by decide +kernel
theorem wb : boundP tw0 4 1 7 = (0, 5) := by decide +kernel
theorem wc : proofS tw0 = (2, 1) := by decide +kernel
theorem wd : enoughP tw0 4 = (0, 0) := by decide +kernel

theorem tow48 {r : Int} : FSpec Try.prog 48 [.i .i64 r] [] (towV tw0 true r) [] := by
  refine fn48.spec0 mixed noIt_ok ?_
  rw [ic48]
  refine ab_seq_k fun K1 h1 => ?_
  simp
  refine h1 _ _ _ ?_
  clear h1 K1
  refine ab_seq_k fun K2 h2 => ?_
  simp
  refine h2 _ _ _ ?_
  clear h2 K2
  simp
  exact fin_of 1 (by simp [rs48, towC, tw0, slL, lsV])

def sl4 (a b c d : Int) (f : Bool) : V := sl [a, b, c, d] f
theorem works16 : FSpec Try.prog 16 [] [] (.b true) [] := by
  refine fn16.spec0 mixed noIt_ok ?_
  rw [ic16]
  have h48 := fun r σ => FSpec.frame (σ := σ) (tow48 (r := r)) (by simp) (by simp)
  have hl4 : ((tw0.length : Nat) : Int) < 1000000 := by decide
  have hl4' : ((tw0.length : Nat) : Int) < 1000000000 := by decide
  have h19 := fun r (a b c d : Int) f σ => FSpec.frame (σ := σ) (time_ok (T := tw0) (ft := true) (fo := f) (room := r) (o := [a, b, c, d]) hl4' (by simp)) (by simp) (by simp [pairV])
  have h17 := fun r (a b c d : Int) f σ => FSpec.frame (σ := σ) (through_ok (T := tw0) (ft := true) (fo := f) (room := r) (o := [a, b, c, d]) hl4' (by simp)) (by simp) (by simp [thrV])
  have h25 := fun r σ => FSpec.frame (σ := σ) (prgBest (T := tw0) (ft := true) (room := r) hl4') (by simp) (by simp [pairV])
  have h27 := fun σ => FSpec.frame (σ := σ) (prgOrder (T := tw0) (ft := true) (room := 0) hl4') (by simp) (by simp [orderP, w7])
  have h29 := fun σ => FSpec.frame (σ := σ) (prgFirsts (T := tw0) (ft := true) (room := 4) hl4') (by simp) (by simp [firstsP, w8])
  have h32 := fun σ => FSpec.frame (σ := σ) (prgRule (T := tw0) (ft := true) (room := 4) hl4') (by simp) (by simp [ruleP, w8])
  have h34 := fun k t σ => FSpec.frame (σ := σ) (prgBound (T := tw0) (ft := true) (room := 4) (lock := k) (t := t) hl4') (by simp) (by simp [pairV])
  have h36 := fun σ => FSpec.frame (σ := σ) (prgProof (T := tw0) (ft := true) (room := 4) hl4') (by simp) (by simp [proofP, w8])
  have h38 := fun σ => FSpec.frame (σ := σ) (prgEnough (T := tw0) (ft := true) (room := 4) hl4') (by simp) (by simp [pairV])
  simp only [orderP, w7, if_true] at h27
  simp only [firstsP, w8, if_true] at h29
  simp only [ruleP, w8, w9, if_true] at h32
  simp only [proofP, w8, wc, if_true] at h36
  simp only [wd] at h38
  have h19a := h19 4 0 1 2 3
  have h19b := h19 0 0 1 2 3
  have h19c := h19 4 0 0 1 2
  have h17a := h17 1 0 1 2 3
  have h17b := h17 0 0 3 1 2
  have h25a := h25 0
  have h34a := h34 2 1
  have h34b := h34 1 7
  rw [w1] at h19a
  rw [w2] at h19b
  rw [w3] at h19c
  simp only [thrV, w4] at h17a
  simp only [thrV, w5] at h17b
  rw [w6] at h25a
  rw [wa] at h34a
  rw [wb] at h34b
  clear h19 h17 h25 h34
  have hL := fun (a b c d a' b' c' d' : Int) f f' σ => FSpec.frame (σ := σ) (longs_ok (a := [a, b, c, d]) (b := [a', b', c', d']) (fa := f) (fb := f') (by simp)) (by simp) rfl
  have hI := fun (a b c d a' b' c' d' : Int) f f' σ => FSpec.frame (σ := σ) (ints_ok (a := [a, b, c, d]) (b := [a', b', c', d']) (fa := f) (fb := f') (by simp)) (by simp) rfl
  have hI2 := fun (a b a' b' : Int) f f' σ => FSpec.frame (σ := σ) (ints_ok (a := [a, b]) (b := [a', b']) (fa := f) (fb := f') (by simp)) (by simp) rfl
  refine ab_seq_k fun K1 h1 => ?_
  simp
  refine h1 _ _ _ ?_
  clear h1 K1
  refine ab_seq_k fun K2 h2 => ?_
  simp [take_towC]
  refine callK_of (h48 _ _) ?_
  simp [take_towC]
  refine callK_of (h48 _ _) ?_
  simp [take_towC]
  refine callK_of (h48 _ _) ?_
  simp [take_towC]
  refine h2 _ _ _ ?_
  clear h2 K2
  refine ab_seq_k fun K3 h3 => ?_
  simp
  refine h3 _ _ _ ?_
  clear h3 K3
  refine ab_seq_k fun K4 h4 => ?_
  simp [take_towC, pairV]
  refine callK_of (h19a _ _) ?_
  simp [take_towC, pairV]
  refine h4 _ _ _ ?_
  clear h4 K4
  refine ab_seq_k fun K5 h5 => ?_
  simp [take_towC, pairV]
  refine callK_of (h19b _ _) ?_
  simp [take_towC, pairV]
  refine h5 _ _ _ ?_
  clear h5 K5
  refine ab_seq_k fun K6 h6 => ?_
  simp [take_towC, pairV]
  refine callK_of (h19c _ _) ?_
  simp [take_towC, pairV]
  refine h6 _ _ _ ?_
  clear h6 K6
  refine ab_seq_k fun K7 h7 => ?_
  simp [take_towC]
  refine callK_of (h17a _ _) ?_
  simp [take_towC]
  refine h7 _ _ _ ?_
  clear h7 K7
  refine ab_seq_k fun K8 h8 => ?_
  simp [take_towC]
  refine callK_of (h17b _ _) ?_
  simp [take_towC]
  refine h8 _ _ _ ?_
  clear h8 K8
  refine ab_seq_k fun K9 h9 => ?_
  simp [take_towC, pairV]
  refine callK_of (h25a _) ?_
  simp [take_towC, pairV]
  refine h9 _ _ _ ?_
  clear h9 K9
  refine ab_seq_k fun K10 h10 => ?_
  simp [take_towC]
  refine callK_of (h27 _) ?_
  simp [take_towC]
  refine h10 _ _ _ ?_
  clear h10 K10
  refine ab_seq_k fun K11 h11 => ?_
  simp [take_towC]
  refine callK_of (h29 _) ?_
  simp [take_towC]
  refine h11 _ _ _ ?_
  clear h11 K11
  refine ab_seq_k fun K12 h12 => ?_
  simp [take_towC]
  refine callK_of (h32 _) ?_
  simp [take_towC]
  refine h12 _ _ _ ?_
  clear h12 K12
  refine ab_seq_k fun K13 h13 => ?_
  simp [take_towC, pairV]
  refine callK_of (h34a _) ?_
  simp [take_towC, pairV]
  refine h13 _ _ _ ?_
  clear h13 K13
  refine ab_seq_k fun K14 h14 => ?_
  simp [take_towC, pairV]
  refine callK_of (h34b _) ?_
  simp [take_towC, pairV]
  refine h14 _ _ _ ?_
  clear h14 K14
  refine ab_seq_k fun K15 h15 => ?_
  simp [take_towC]
  refine callK_of (h36 _) ?_
  simp [take_towC]
  refine h15 _ _ _ ?_
  clear h15 K15
  refine ab_seq_k fun K16 h16 => ?_
  simp [take_towC, pairV]
  refine callK_of (h38 _) ?_
  simp [take_towC, pairV]
  refine h16 _ _ _ ?_
  clear h16 K16
  refine ab_seq_k fun K17 h17 => ?_
  refine ab_seq_k fun K18 h18 => ?_
  simp
  refine h18 _ _ _ ?_
  clear h18 K18
  refine ab_cond_of rfl (fun h => by cases h) (fun _ => ?_)
  simp
  refine h17 _ _ _ ?_
  clear h17 K17
  refine ab_seq_k fun K19 h19 => ?_
  simp
  refine callK_of (hL 6 12 13 15 6 12 13 15 false true _) ?_
  simp
  refine callK_of (hL 6 14 15 7 6 14 15 7 false true _) ?_
  simp
  refine callK_of (hI 0 3 1 2 0 3 1 2 false true _) ?_
  simp
  refine callK_of (hI2 0 1 0 1 false true _) ?_
  simp
  refine callK_of (hI 0 1 2 3 0 1 2 3 false true _) ?_
  simp
  refine h19 _ _ _ ?_
  simp
  exact fin_of 1 (by simp [rs16])
end Go.Ab
