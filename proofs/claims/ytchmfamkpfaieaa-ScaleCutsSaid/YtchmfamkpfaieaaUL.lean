/- The law ScaleCuts: it returns true. -/
import Derived.Test.YtchmfamkpfaieaaUK
import Derived.Test.YtchmfamkpfaieaaUB
set_option linter.unusedVariables false
set_option linter.unusedSimpArgs false
set_option maxHeartbeats 4000000
namespace Go.Ab
open Go Go.Proofs

theorem scaleCuts {t b : List Int} {ft fb : Bool} {r : Ru} {l : List (Int × Int)} {fl : Bool} (ht : (t.length : Int) < 9223372036854775808) (hb : (b.length : Int) < 9223372036854775808) (hl : (l.length : Int) < 9223372036854775808) (hbb : ∀ x ∈ b, -9223372036854775808 ≤ x ∧ x < 9223372036854775808) :
    FSpec Try.prog 4 [.agg [sl t ft, sl b fb], .agg r.cells, slL l fl] [] (.b true) [] := by
  refine fn4.spec0 mixed noIt_ok ?_
  rw [ic4]
  have h7 : List.take 7 r.cells = r.cells := rfl
  have finish : ∀ {env σ K E}, ab Try.prog noY noIt 0 ((IC.reg [IS.call (some 26) none 17 [], IS.op (some 6) none (IOp.mov (Od.t 26))] (some [6])).seq IC.ret) K E (finK rs4 [] (V.b true) []) (some 0) env σ := by
    intro env σ K E
    refine ab_seq_k fun K1 h1 => ?_
    simp
    refine callK_of works0 ?_
    simp
    refine h1 _ _ _ ?_
    simp
    exact fin_of 1 (by simp [rs4])
  refine ab_seq_k fun K1 h1 => ?_
  simp
  refine h1 _ _ _ ?_
  clear h1 K1
  refine ab_seq_k fun K2 h2 => ?_
  refine ab_seq_k fun K3 h3 => ?_
  simp
  refine callK_of (FSpec.frame (great_ok (t := t) (b := b) ht hb) (by simp) rfl) ?_
  simp
  have c1 : ∀ {env v}, get env 25 = .b v → get env 2 = slL l fl → get env 3 = .p 0 0 0 → get env 4 = .p 1 0 0 → v = (decide (70 < t.length) || decide (70 < b.length) || decide (70 < l.length)) → K3 (some 0) env (hpB t b ft fb r) := by
    intro env v e1 e2 e3 e4 hv
    refine h3 _ _ _ ?_
    refine ab_cond_of e1 (fun hc => finish) (fun hc => ?_)
    rw [hc] at hv
    have hv := hv.symm
    simp only [Bool.or_eq_false_iff, decide_eq_false_iff_not] at hv
    have hsz : Sz t b := ⟨by omega, by omega, hbb⟩
    have hl2 : (l.length : Int) < 1000000000 := by omega
    simp
    refine h2 _ _ _ ?_
    clear h2 h3
    refine ab_seq_k fun K5 h5 => ?_
    simp [e2, e3, e4, hpB, h7]
    refine callK_of (FSpec.frame (checkCut_ok (ft := ft) (fb := fb) (r := r) (l := l) (fl := fl) hsz hl2) (by simp) (by simp [pairV])) ?_
    simp [pairV]
    refine h5 _ _ _ ?_
    clear h5 K5
    refine ab_seq_k fun K6 h6 => ?_
    simp [e2, e3, e4, h7]
    refine callK_of (FSpec.frame (refCut (ft := ft) (fb := fb) (r := r) (l := l) (fl := fl) hsz hl2) (by simp) (by simp [pairV])) ?_
    simp [pairV]
    refine h6 _ _ _ ?_
    clear h6 K6
    refine ab_seq_k fun K7 h7' => ?_
    simp [e3, e4, h7]
    refine callK_of (FSpec.frame (best_ok (ft := ft) (fb := fb) (r := r) hsz) (by simp) (by simp [pairV])) ?_
    simp [pairV]
    refine h7' _ _ _ ?_
    clear h7' K7
    refine ab_seq_k fun K8 h8 => ?_
    simp [e3, e4, h7]
    refine callK_of (FSpec.frame (refBest (ft := ft) (fb := fb) (r := r) hsz) (by simp) (by simp [pairV])) ?_
    simp [pairV]
    refine h8 _ _ _ ?_
    clear h8 K8
    refine ab_seq_k fun K9 h9 => ?_
    simp [e3, e4, h7]
    refine callK_of (FSpec.frame (cut_ok (ft := ft) (fb := fb) (r := r) hsz) (by simp) (by simp)) ?_
    simp
    refine h9 _ _ _ ?_
    clear h9 K9
    have hbs : (bestP t b r).2 = openE t b [r] := by
      unfold bestP
      split
      · rfl
      · rename_i h; exact (Classical.not_not.1 h).symm
    refine ab_seq_k fun K10 h10 => ?_
    refine ab_seq_k fun K11 h11 => ?_
    simp [hbs]
    refine h11 _ _ _ ?_
    clear h11 K11
    refine ab_cond_of rfl (fun hc => by cases hc) (fun _ => ?_)
    simp
    refine h10 _ _ _ ?_
    clear h10
    refine ab_seq_k fun K13 h13 => ?_
    refine ab_seq_k fun K14 h14 => ?_
    simp
    refine h14 _ _ _ ?_
    clear h14 K14
    refine ab_cond_of rfl (fun hc2 => ?_) (fun hc2 => ?_)
    · have hE : openE t b [r] ≠ 0 := by simpa using hc2
      have hR : cutR t b r = [] := by simp [cutR, hE]
      rw [hR]
      refine ab_seq_k fun K15 h15 => ?_
      simp [slL, lsV]
      refine callK_of works0 ?_
      simp
      refine h15 _ _ _ ?_
      simp
      exact fin_of 1 (by simp [rs4])
    · have hE : openE t b [r] = 0 := by simpa using hc2
      obtain ⟨ok, -⟩ := open_some (ft := ft) (fb := fb) hsz hE
      have hR : cutR t b r = cutL t b r := by simp [cutR, hE]
      have hbest := cutL_best ok hE
      have hb1 : (bestP t b r).1 = restN t b r allL 0 := by simp [bestP, hE]
      have hlc : ((cutL t b r).length : Int) < 1000000000 := by
        obtain ⟨-, -, -, q4⟩ := cutG_ok ok (k := t.length - 1) (a := 0) (by omega) (by omega)
        unfold cutL; omega
      rw [hR]
      simp
      refine h13 _ _ _ ?_
      clear h13
      refine ab_seq_k fun K16 h16 => ?_
      simp [h7]
      refine callK_of (FSpec.frame (refCut (ft := ft) (fb := fb) (r := r) (l := cutL t b r) (fl := (cutL t b r).isEmpty) hsz hlc) (by simp) (by simp [pairV])) ?_
      simp [pairV, hbest]
      refine h16 _ _ _ ?_
      clear h16 K16
      refine ab_seq_k fun K17 h17 => ?_
      simp [hb1]
      refine callK_of works0 ?_
      simp
      refine h17 _ _ _ ?_
      simp
      exact fin_of 1 (by simp [rs4])
  by_cases hg : 70 < t.length ∨ 70 < b.length
  · have hg' : (decide (70 < t.length) || decide (70 < b.length)) = true := by simpa using hg
    simp [hg']
    refine c1 (v := true) rfl rfl rfl rfl ?_
    rw [hg']; rfl
  · have hg' : (decide (70 < t.length) || decide (70 < b.length)) = false := by simpa using hg
    simp [hg']
    refine c1 (v := decide (70 < (l.length : Int))) rfl rfl rfl rfl ?_
    rw [hg', Bool.false_or, Bool.eq_iff_iff]
    simp
    omega
end Go.Ab
