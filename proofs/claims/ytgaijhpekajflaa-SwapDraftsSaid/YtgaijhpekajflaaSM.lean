/- The laws SwapBooks, SwapKnown. -/
import Derived.Test.YtgaijhpekajflaaSW
set_option linter.unusedVariables false
set_option linter.unusedSimpArgs false
set_option maxHeartbeats 4000000
set_option maxRecDepth 100000
namespace Go.Ab
open Go Go.Proofs

theorem balP_pure {n D} : (balP n D).pure = true := by
  unfold balP
  split
  · simp
  · rfl
theorem swapBooks {n : Int} {D L : List Db} {f fl : Bool} (hl : (D.length : Int) < 9223372036854775808) (hL : (L.length : Int) < 9223372036854775808) :
    FSpec Try.prog 3 [bookV n D f, slD L fl] [] (.b true) [] := by
  refine fn3.spec0 mixed noIt_ok ?_
  rw [ic3]
  have G1 := fun σ => FSpec.frame (σ := σ) (great17 (n := n) (D := D) (f := f)) (by simp) rfl
  have G2 := fun σ => FSpec.frame (σ := σ) (prgBal (n := n) (D := D) (f := f) hl) (by simp) balP_pure
  have G3 := fun σ => FSpec.frame (σ := σ) (refBal (n := n) (D := D) (f := f) hl) (by simp) balP_pure
  have G4 := fun σ => FSpec.frame (σ := σ) (checkBook_ok (n := n) (D := D) (f := f) hl) (by simp) rfl
  have G5 := fun σ => FSpec.frame (σ := σ) (refBook (n := n) (D := D) (f := f) hl) (by simp) rfl
  have G6 := fun σ => FSpec.frame (σ := σ) (prgDrafts (n := n) (D := D) (L := L) (f := f) (fl := fl) hl hL) (by simp) rfl
  have G7 := fun σ => FSpec.frame (σ := σ) (refDrafts (n := n) (D := D) (L := L) (f := f) (fl := fl) hl hL) (by simp) rfl
  refine ab_seq_k fun K1 h1 => ?_
  simp
  refine h1 _ _ _ ?_
  clear h1 K1
  refine ab_seq_k fun K2 h2 => ?_
  refine ab_seq_k fun K3 h3 => ?_
  simp [take_bookC]
  refine callK_of (G1 _) ?_
  have hret : ∀ env σ, get env 15 = .b true → K3 (some 0) env σ := by
    intro env σ w
    refine h3 _ _ _ ?_
    refine ab_cond_of w (fun _ => ?_) (fun h => by cases h)
    refine ab_seq_k fun K4 h4 => ?_
    simp
    refine callK_of (wk _) ?_
    simp
    refine h4 _ _ _ ?_
    clear h4 K4
    simp
    exact fin_of 1 (by simp [rs3])
  by_cases g1 : (50 : Int) < D.length
  · simp [g1]
    exact hret _ _ rfl
  by_cases g2 : (20 : Int) < L.length
  · simp [g1, g2]
    exact hret _ _ rfl
  simp [g1, g2]
  refine h3 _ _ _ ?_
  clear h3 hret K3
  refine ab_cond_of rfl (fun h => by cases h) (fun _ => ?_)
  simp
  refine h2 _ _ _ ?_
  clear h2 K2
  obtain ⟨l, fb, e, hb, hle⟩ : ∃ (l : List Int) (fb : Bool) (e : Int), balP n D = .tup [sl l fb, .i .i64 e] ∧ l.length ≤ 1000 := by
    unfold balP
    split
    · rename_i hc
      obtain ⟨⟨n1, n2⟩, -⟩ := book_ok hc
      exact ⟨_, _, _, rfl, by simp; omega⟩
    · exact ⟨[], true, _, rfl, by simp⟩
  rw [hb] at G2 G3
  have G8 := fun σ => FSpec.frame (σ := σ) (longs23 (a := l) (b := l) (fa := fb) (fb := fb) (by omega)) (by simp) rfl
  refine ab_seq_k fun K5 h5 => ?_
  simp [take_bookC]
  refine callK_of (G2 _) ?_
  simp [take_bookC]
  refine h5 _ _ _ ?_
  clear h5 K5
  refine ab_seq_k fun K6 h6 => ?_
  simp [take_bookC]
  refine callK_of (G3 _) ?_
  simp [take_bookC]
  refine h6 _ _ _ ?_
  clear h6 K6
  refine ab_seq_k fun K7 h7 => ?_
  simp [abDs_consU, drU, recheck_cons, recheck_nil, rcK, IS.dst, take_bookC]
  refine callK_of (G4 _) ?_
  simp [abDs_consU, drU, recheck_cons, recheck_nil, rcK, IS.dst, take_bookC]
  refine callK_of (G5 _) ?_
  simp [abDs_consU, drU, recheck_cons, recheck_nil, rcK, IS.dst, take_bookC]
  refine callK_of (G8 _) ?_
  simp [abDs_consU, drU, recheck_cons, recheck_nil, rcK, IS.dst, take_bookC]
  refine callK_of (G6 _) ?_
  simp [abDs_consU, drU, recheck_cons, recheck_nil, rcK, IS.dst, take_bookC]
  refine callK_of (G7 _) ?_
  simp [abDs_consU, drU, recheck_cons, recheck_nil, rcK, IS.dst, take_bookC]
  refine callK_of (wk _) ?_
  simp [abDs_consU, drU, recheck_cons, recheck_nil, rcK, IS.dst, take_bookC]
  refine h7 _ _ _ ?_
  simp
  exact fin_of 1 (by simp [rs3])
end Go.Ab
