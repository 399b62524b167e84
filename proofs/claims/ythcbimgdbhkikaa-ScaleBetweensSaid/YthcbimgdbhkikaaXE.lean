/- The law ScaleBetweens: it returns true. -/
import Derived.Test.YthcbimgdbhkikaaXD
set_option linter.unusedVariables false
set_option linter.unusedSimpArgs false
set_option maxHeartbeats 4000000
namespace Go.Ab
open Go Go.Proofs

theorem scaleBetweens {t b : List Int} {ft fb : Bool} {r o : Ru} (ht : (t.length : Int) < 9223372036854775808) (hb : (b.length : Int) < 9223372036854775808) (hbb : ∀ x ∈ b, -9223372036854775808 ≤ x ∧ x < 9223372036854775808) :
    FSpec Try.prog 7 [.agg [sl t ft, sl b fb], .agg r.cells, .agg o.cells] [] (.b true) [] := by
  refine fn7.spec0 mixed noIt_ok ?_
  rw [ic7]
  have h7 : List.take 7 r.cells = r.cells := rfl
  have h7o : List.take 7 o.cells = o.cells := rfl
  refine ab_seq_k fun K1 h1 => ?_
  simp
  refine h1 _ _ _ ?_
  clear h1 K1
  refine ab_seq_k fun K2 h2 => ?_
  refine ab_seq_k fun K3 h3 => ?_
  simp
  refine callK_of (FSpec.frame (great_ok (t := t) (b := b) ht hb) (by simp) rfl) ?_
  simp
  refine h3 _ _ _ ?_
  clear h3 K3
  refine ab_cond_of rfl (fun hc => ?_) (fun hc => ?_)
  · refine ab_seq_k fun K4 h4 => ?_
    simp
    refine callK_of works0 ?_
    simp
    refine h4 _ _ _ ?_
    simp
    exact fin_of 1 (by simp [rs7])
  · have hsz : Sz t b := ⟨by simp at hc; omega, by simp at hc; omega, hbb⟩
    simp
    refine h2 _ _ _ ?_
    clear h2 hc
    refine ab_seq_k fun K5 h5 => ?_
    simp [h7, h7o]
    refine callK_of (FSpec.frame (between38 (ft := ft) (fb := fb) (r := r) (o := o) hsz) (by simp) (by simp [btwR, rangeV])) ?_
    simp [btwR, rangeV]
    refine h5 _ _ _ ?_
    clear h5 K5
    refine ab_seq_k fun K6 h6 => ?_
    simp [h7, h7o]
    refine callK_of (FSpec.frame (refBetween (ft := ft) (fb := fb) (r := r) (o := o) hsz) (by simp) (by simp [btwR, rangeV])) ?_
    simp [btwR, rangeV]
    refine h6 _ _ _ ?_
    clear h6 K6
    refine ab_seq_k fun K11 h11 => ?_
    simp
    refine callK_of works0 ?_
    simp
    refine h11 _ _ _ ?_
    simp
    exact fin_of 1 (by simp [rs7])
end Go.Ab
