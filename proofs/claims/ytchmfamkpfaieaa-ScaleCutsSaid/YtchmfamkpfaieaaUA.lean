/- Feet, of the program and of the reference: both are the same plain function. -/
import Derived.Test.YtchmfamkpfaieaaU9
set_option linter.unusedVariables false
set_option linter.unusedSimpArgs false
set_option maxHeartbeats 4000000
namespace Go.Ab
open Go Go.Proofs

theorem openE_one {t b : List Int} {r : Ru} : (if checkStem t b = 0 then r.check else checkStem t b) = openE t b [r] := by simp [openE, Ru.check]
theorem openE_stem {t b : List Int} {rs : List Ru} (h : openE t b rs = 0) : checkStem t b = 0 ∧ rs.all Ru.ok = true := by
  unfold openE at h
  split at h
  · rename_i h1
    split at h
    · rename_i h2; exact ⟨h1, h2⟩
    · cases h
  · rename_i h1; exact absurd h h1

theorem scaleP_nonneg {t b : List Int} {r : Ru} {x y : Int} (hr : RuB r) : 0 ≤ scaleP t b r x y := by
  have := hr.l1
  have := hr.d1
  unfold scaleP
  split
  · omega
  · split
    · omega
    · rename_i h
      refine Int.ediv_nonneg (Int.mul_nonneg (Int.mul_nonneg (by omega) (by omega)) ?_) (by omega)
      have : ¬ (y - x - r.trim < r.least) := fun h' => h (.inl h')
      omega

def feetP (t b : List Int) (r : Ru) (x y : Int) : Int × Int :=
  if openE t b [r] ≠ 0 then (0, openE t b [r]) else if isLog t.length x y = false then (0, 2) else if scaleP t b r x y = 0 then (0, 18) else (scaleP t b r x y, 0)
def pairV (p : Int × Int) : V := .tup [.i .i64 p.1, .i .i64 p.2]

theorem isLog_iff {n : Nat} {x y : Int} : isLog n x y = true ↔ 0 ≤ x ∧ x < y ∧ y < n := by
  simp only [isLog, Bool.and_eq_true, decide_eq_true_eq]
  omega

theorem feet_ok {t b : List Int} {ft fb : Bool} {r : Ru} {x y : Int} (hsz : Sz t b) :
    FSpec Try.prog 18 [.agg [sl t ft, sl b fb], .agg r.cells, .agg [.i .i64 x, .i .i64 y]] [] (pairV (feetP t b r x y)) [] := by
  refine fn18.spec0 mixed noIt_ok ?_
  rw [ic18]
  refine ab_seq_k fun K1 h1 => ?_
  simp
  refine h1 _ _ _ ?_
  clear h1 K1
  refine ab_seq_k fun K2 h2 => ?_
  have h7 : List.take 7 r.cells = r.cells := rfl
  have hrv : r.cells = rulesV [r] := by simp [rulesV]
  simp [h7]
  refine callK_of (FSpec.frame (args := [.agg [sl t ft, sl b fb], .ss r.cells 1 true]) (by rw [hrv]; exact open_ok (rs := [r]) hsz (by simp) (by simp)) (by simp) ?_) ?_
  · simp [openV]; split <;> simp
  simp
  refine h2 _ _ _ ?_
  clear h2 K2
  refine ab_seq_k fun K3 h3 => ?_
  refine ab_block_k fun K4 h4 => ?_
  refine ab_seq_k fun K5 h5 => ?_
  simp
  refine h5 _ _ _ ?_
  clear h5 K5
  refine ab_cond_of rfl (fun hc => ?_) (fun hc => ?_)
  · simp at hc
    refine ab_seq_k fun K6 h6 => ?_
    simp
    refine h6 _ _ _ ?_
    simp
    exact fin_of 1 (by simp [rs18, feetP, hc, pairV])
  · simp at hc
    obtain ⟨hs, hok⟩ := openE_stem hc
    obtain ⟨s1, s2, s3, s4, s5⟩ := stem_ok hs
    have hrok : r.ok = true := by simpa using hok
    have hr := Ru.bounds hrok
    have hov : openV t ft b fb [r] = yardV t ft b fb (knownK t b r) := by simp [openV, hc]
    simp only [hov]
    refine ab_seq_k fun K7 h7 => ?_
    simp
    refine callK_of (FSpec.frame (isLog_ok (t := t) (b := b) (ft := ft) (fb := fb) (kn := knownK t b r) (x := x) (y := y) hsz.t1) (by simp) rfl) ?_
    simp
    refine h7 _ _ _ ?_
    clear h7 K7
    refine ab_cond_of rfl (fun hc2 => ?_) (fun hc2 => ?_)
    · simp at hc2
      refine ab_seq_k fun K8 h8 => ?_
      simp
      refine h8 _ _ _ ?_
      simp
      exact fin_of 1 (by simp [rs18, feetP, hc, hc2, pairV])
    · simp at hc2
      obtain ⟨x1, x2, x3⟩ := isLog_iff.1 hc2
      have hlk := look_known (t := t) (b := b) hr x1 x2 x3
      simp
      refine h4 _ _ _ ?_
      refine h3 _ _ _ ?_
      clear h3 h4
      refine ab_seq_k fun K9 h9 => ?_
      simp
      refine callK_of (FSpec.frame (scale_ok (t := t) (ft := ft) (b := b) (fb := fb) (kn := knownK t b r) (x := x) (y := y)) (by simp) rfl) ?_
      rw [hlk]
      simp
      refine h9 _ _ _ ?_
      clear h9 K9
      refine ab_seq_k fun K10 h10 => ?_
      refine ab_seq_k fun K11 h11 => ?_
      simp
      refine h11 _ _ _ ?_
      refine ab_cond_of rfl (fun hc3 => ?_) (fun hc3 => ?_)
      · simp at hc3
        refine ab_seq_k fun K8 h8 => ?_
        simp
        refine h8 _ _ _ ?_
        simp
        exact fin_of 1 (by simp [rs18, feetP, hc, hc2, hc3, pairV])
      · simp at hc3
        simp
        refine h10 _ _ _ ?_
        refine ab_seq_k fun K12 h12 => ?_
        simp
        refine h12 _ _ _ ?_
        simp
        exact fin_of 1 (by simp [rs18, feetP, hc, hc2, hc3, pairV])

theorem refFeet {t b : List Int} {ft fb : Bool} {r : Ru} {x y : Int} (hsz : Sz t b) :
    FSpec Try.prog 19 [.agg [sl t ft, sl b fb], .agg r.cells, .agg [.i .i64 x, .i .i64 y]] [] (pairV (feetP t b r x y)) [] := by
  refine fn19.spec0 mixed noIt_ok ?_
  rw [ic19]
  have hchk := refCheck (t := t) (b := b) (ft := ft) (fb := fb) (r := r) hsz.t1 hsz.b1 hsz.bb
  rw [openE_one] at hchk
  have h7 : List.take 7 r.cells = r.cells := rfl
  refine ab_seq_k fun K1 h1 => ?_
  simp
  refine h1 _ _ _ ?_
  clear h1 K1
  refine ab_seq_k fun K2 h2 => ?_
  refine ab_seq_k fun K3 h3 => ?_
  simp [h7]
  refine callK_of (FSpec.frame hchk (by simp) rfl) ?_
  simp
  refine h3 _ _ _ ?_
  clear h3 K3
  refine ab_cond_of rfl (fun hc => ?_) (fun hc => ?_)
  · simp at hc
    refine ab_seq_k fun K4 h4 => ?_
    simp [h7]
    refine callK_of (FSpec.frame hchk (by simp) rfl) ?_
    simp
    refine h4 _ _ _ ?_
    simp
    exact fin_of 1 (by simp [rs19, feetP, hc, pairV])
  · simp at hc
    obtain ⟨hs, hok⟩ := openE_stem hc
    obtain ⟨s1, s2, s3, s4, s5⟩ := stem_ok hs
    have hrok : r.ok = true := by simpa using hok
    have hr := Ru.bounds hrok
    have hnn := scaleP_nonneg (t := t) (b := b) (x := x) (y := y) hr
    simp
    refine h2 _ _ _ ?_
    clear h2
    refine ab_seq_k fun K5 h5 => ?_
    refine ab_seq_k fun K6 h6 => ?_
    simp
    refine callK_of (FSpec.frame (refIsLog (t := t) (b := b) (ft := ft) (fb := fb) (x := x) (y := y) hsz.t1) (by simp) rfl) ?_
    simp
    refine h6 _ _ _ ?_
    clear h6 K6
    refine ab_cond_of rfl (fun hc2 => ?_) (fun hc2 => ?_)
    · simp at hc2
      refine ab_seq_k fun K7 h7' => ?_
      simp
      refine h7' _ _ _ ?_
      simp
      exact fin_of 1 (by simp [rs19, feetP, hc, hc2, pairV])
    · simp at hc2
      obtain ⟨x1, x2, x3⟩ := isLog_iff.1 hc2
      simp
      refine h5 _ _ _ ?_
      clear h5
      refine ab_seq_k fun K8 h8 => ?_
      simp [h7]
      refine callK_of (FSpec.frame (refScale (t := t) (b := b) (ft := ft) (fb := fb) (r := r) s2 s3 hsz.b1 hr x1 x2 x3) (by simp) rfl) ?_
      simp
      refine h8 _ _ _ ?_
      clear h8 K8
      refine ab_seq_k fun K9 h9 => ?_
      refine ab_seq_k fun K10 h10 => ?_
      simp
      refine h10 _ _ _ ?_
      refine ab_cond_of rfl (fun hc3 => ?_) (fun hc3 => ?_)
      · have hc3 : scaleP t b r x y = 0 := by simp at hc3; omega
        refine ab_seq_k fun K11 h11 => ?_
        simp
        refine h11 _ _ _ ?_
        simp
        exact fin_of 1 (by simp [rs19, feetP, hc, hc2, hc3, pairV])
      · have hc3 : scaleP t b r x y ≠ 0 := by simp at hc3; omega
        simp
        refine h9 _ _ _ ?_
        refine ab_seq_k fun K12 h12 => ?_
        simp
        refine h12 _ _ _ ?_
        simp
        exact fin_of 1 (by simp [rs19, feetP, hc, hc2, hc3, pairV])

theorem great_ok {t b : List Int} {ft fb : Bool} {n m : Nat} {ts bs : List V} (hn : (n : Int) < 9223372036854775808) (hm : (m : Int) < 9223372036854775808) : FSpec Try.prog 16 [.agg [.ss ts n ft, .ss bs m fb]] [] (.b (decide (70 < n) || decide (70 < m))) [] := by
  refine fn16.spec0 mixed noIt_ok ?_
  rw [ic16]
  refine ab_seq_k fun K1 h1 => ?_
  simp
  refine h1 _ _ _ ?_
  clear h1 K1
  refine ab_seq_k fun K2 h2 => ?_
  have c1 : ∀ {env σ v}, v = (decide (70 < n) || decide (70 < m)) → get env 2 = .b v → K2 (some 0) env σ := by
    intro env σ v hv e1
    refine h2 _ _ _ ?_
    simp
    exact fin_of 1 (by simp [rs16, e1, hv])
  by_cases e1 : (70 : Int) < n
  · simp [e1]
    exact c1 (v := true) (by simp; omega) rfl
  · simp [e1]
    exact c1 (v := decide ((70 : Int) < m)) (by rw [Bool.eq_iff_iff]; simp; omega) rfl
end Go.Ab
