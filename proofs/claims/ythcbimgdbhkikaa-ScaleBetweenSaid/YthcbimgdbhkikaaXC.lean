/- Between of the program. -/
import Derived.Test.YthcbimgdbhkikaaXB
set_option linter.unusedVariables false
set_option linter.unusedSimpArgs false
set_option maxHeartbeats 4000000
namespace Go.Ab
open Go Go.Proofs

theorem open2 {t b : List Int} {ft fb : Bool} {r o : Ru} (hsz : Sz t b) {σ : List O} : FSpec Try.prog 50 [.agg [sl t ft, sl b fb], .ss (r.cells ++ o.cells) 2 true] σ (.tup [openV t ft b fb [r, o], .i .i64 (openE t b [r, o])]) σ := by
  have hrv : r.cells ++ o.cells = rulesV [r, o] := by simp [rulesV]
  refine FSpec.frame (args := [.agg [sl t ft, sl b fb], .ss (r.cells ++ o.cells) 2 true]) (by rw [hrv]; exact open_ok (rs := [r, o]) hsz (by simp) (by simp)) (by simp [Ru.cells]) ?_
  simp [openV]; split <;> simp
theorem open_two {t b : List Int} {ft fb : Bool} {r o : Ru} (hsz : Sz t b) (h : openE t b [r, o] = 0) : Ok t b r ∧ Ok t b o ∧ openV t ft b fb [r, o] = yardV t ft b fb (knownK t b r) := by
  obtain ⟨hs, hok⟩ := openE_stem h
  obtain ⟨s1, s2, s3, s4, s5⟩ := stem_ok hs
  simp at hok
  exact ⟨⟨s1, s2, s3, hsz.b1, Ru.bounds hok.1⟩, ⟨s1, s2, s3, hsz.b1, Ru.bounds hok.2⟩, by simp [openV, h]⟩

def rangeV (p : Int × Int) : V := .agg [.i .i64 p.1, .i .i64 p.2]
def btwR (t b : List Int) (r o : Ru) : V := .tup [rangeV (if openE t b [r, o] = 0 then btw t b r o 0 else (0, 0)), .i .i64 (openE t b [r, o])]

theorem between38 {t b : List Int} {ft fb : Bool} {r o : Ru} (hsz : Sz t b) : FSpec Try.prog 38 [.agg [sl t ft, sl b fb], .agg r.cells, .agg o.cells] [] (btwR t b r o) [] := by
  refine fn38.spec0 mixed noIt_ok ?_
  rw [ic38]
  have h7 : List.take 7 r.cells = r.cells := rfl
  have h7o : List.take 7 o.cells = o.cells := rfl
  refine ab_seq_k fun K1 h1 => ?_
  simp
  refine h1 _ _ _ ?_
  clear h1 K1
  refine ab_seq_k fun K2 h2 => ?_
  have t7 : ∀ zs, List.take 7 (r.cells ++ zs) = r.cells := fun _ => rfl
  have t14 : List.drop 14 (r.cells ++ [V.i IntKind.i64 0, V.i IntKind.i64 0, V.i IntKind.i64 0, V.i IntKind.i64 0, V.i IntKind.i64 0, V.i IntKind.i64 0, V.i IntKind.i64 0]) = [] := rfl
  simp [h7, h7o, t7, t14]
  refine callK_of (open2 hsz) ?_
  simp
  refine h2 _ _ _ ?_
  clear h2 K2
  refine ab_seq_k fun K3 h3 => ?_
  refine ab_seq_k fun K4 h4 => ?_
  simp
  refine h4 _ _ _ ?_
  clear h4 K4
  refine ab_cond_of rfl (fun hc => ?_) (fun hc => ?_)
  · simp at hc
    refine ab_seq_k fun K5 h5 => ?_
    simp
    refine h5 _ _ _ ?_
    simp
    exact fin_of 3 (by simp [rs38, btwR, rangeV, hc])
  · simp at hc
    obtain ⟨ok1, ok2, hov⟩ := open_two (ft := ft) (fb := fb) hsz hc
    have hny := fun σ => FSpec.frame (σ := σ) (newYard_ok (ft := ft) (fb := fb) (r := o) ok2.n2 ok2.n61 ok2.tv ok2.bl ok2.r) (by simp) (by simp)
    have hbt := fun σ => FSpec.frame (σ := σ) (between_ok (ft := ft) (fb := fb) ok1 ok2) (by simp) (by simp)
    rw [hov]
    simp
    refine h3 _ _ _ ?_
    refine ab_seq_k fun K6 h6 => ?_
    simp [h7, h7o]
    refine callK_of (hny _) ?_
    simp
    refine callK_of (hbt _) ?_
    simp
    refine h6 _ _ _ ?_
    simp
    exact fin_of 3 (by simp [rs38, btwR, rangeV, hc])
end Go.Ab
