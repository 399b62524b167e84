/- The law ScaleStems: it returns true. -/
import Derived.Test.YtchmfamkpfaieaaUA
import Derived.Test.YtchmfamkpfaieaaW1
set_option linter.unusedVariables false
set_option linter.unusedSimpArgs false
set_option maxHeartbeats 4000000
namespace Go.Ab
open Go Go.Proofs

theorem works0 {σ : List O} : FSpec Try.prog 17 [] σ (.b true) σ := FSpec.frame works_ok rfl rfl

theorem scaleStems {t b : List Int} {ft fb : Bool} {r : Ru} {x y : Int} (ht : (t.length : Int) < 9223372036854775808) (hb : (b.length : Int) < 9223372036854775808) (hbb : ∀ x ∈ b, -9223372036854775808 ≤ x ∧ x < 9223372036854775808) :
    FSpec Try.prog 3 [.agg [sl t ft, sl b fb], .agg r.cells, .agg [.i .i64 x, .i .i64 y]] [] (.b true) [] := by
  refine fn3.spec0 mixed noIt_ok ?_
  rw [ic3]
  have h7 : List.take 7 r.cells = r.cells := rfl
  refine ab_seq_k fun K1 h1 => ?_
  simp
  refine h1 _ _ _ ?_
  clear h1 K1
  refine ab_seq_k fun K2 h2 => ?_
  refine ab_seq_k fun K3 h3 => ?_
  simp
  refine callK_of (FSpec.frame (great_ok (t := t) (b := b) ht hb) (by simp) rfl) ?_
  simp
  refine h3 _ _ _ ?_
  clear h3 K3
  refine ab_cond_of rfl (fun hc => ?_) (fun hc => ?_)
  · refine ab_seq_k fun K4 h4 => ?_
    simp
    refine callK_of works0 ?_
    simp
    refine h4 _ _ _ ?_
    simp
    exact fin_of 1 (by simp [rs3])
  · simp at hc
    have hsz : Sz t b := ⟨by omega, by omega, hbb⟩
    simp
    refine h2 _ _ _ ?_
    clear h2
    refine ab_seq_k fun K5 h5 => ?_
    simp [h7]
    refine callK_of (FSpec.frame (feet_ok (ft := ft) (fb := fb) (r := r) (x := x) (y := y) hsz) (by simp) (by simp [pairV])) ?_
    simp [pairV]
    refine h5 _ _ _ ?_
    clear h5 K5
    refine ab_seq_k fun K6 h6 => ?_
    simp [h7]
    refine callK_of (FSpec.frame (refFeet (ft := ft) (fb := fb) (r := r) (x := x) (y := y) hsz) (by simp) (by simp [pairV])) ?_
    simp [pairV]
    refine h6 _ _ _ ?_
    clear h6 K6
    refine ab_seq_k fun K7 h7' => ?_
    simp
    refine callK_of (FSpec.frame (checkStem_ok hsz.t1 hsz.b1) (by simp) rfl) ?_
    simp
    refine callK_of (FSpec.frame (refStem hsz.t1 hsz.b1 hsz.bb) (by simp) rfl) ?_
    simp [h7]
    refine callK_of (FSpec.frame (checkRule_ok (r := r)) (by simp) rfl) ?_
    simp [h7]
    refine callK_of (FSpec.frame (refRule (r := r)) (by simp) rfl) ?_
    simp
    refine callK_of works0 ?_
    simp
    refine h7' _ _ _ ?_
    simp
    exact fin_of 1 (by simp [rs3])
end Go.Ab
