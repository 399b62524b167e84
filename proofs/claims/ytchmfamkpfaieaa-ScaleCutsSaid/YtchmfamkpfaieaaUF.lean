/- Best, of the program and of the reference. -/
import Derived.Test.YtchmfamkpfaieaaUE
set_option linter.unusedVariables false
set_option linter.unusedSimpArgs false
set_option maxHeartbeats 4000000
namespace Go.Ab
open Go Go.Proofs

theorem open1 {t b : List Int} {ft fb : Bool} {r : Ru} (hsz : Sz t b) {σ : List O} : FSpec Try.prog 50 [.agg [sl t ft, sl b fb], .ss r.cells 1 true] σ (.tup [openV t ft b fb [r], .i .i64 (openE t b [r])]) σ := by
  have hrv : r.cells = rulesV [r] := by simp [rulesV]
  refine FSpec.frame (args := [.agg [sl t ft, sl b fb], .ss r.cells 1 true]) (by rw [hrv]; exact open_ok (rs := [r]) hsz (by simp) (by simp)) (by simp) ?_
  simp [openV]; split <;> simp

theorem open_some {t b : List Int} {ft fb : Bool} {r : Ru} (hsz : Sz t b) (h : openE t b [r] = 0) : Ok t b r ∧ openV t ft b fb [r] = yardV t ft b fb (knownK t b r) := by
  obtain ⟨hs, hok⟩ := openE_stem h
  obtain ⟨s1, s2, s3, s4, s5⟩ := stem_ok hs
  exact ⟨⟨s1, s2, s3, hsz.b1, Ru.bounds (by simpa using hok)⟩, by simp [openV, h]⟩

theorem every_ok {x y : Int} : FSpec Try.prog 63 [.agg [.i .i64 x, .i .i64 y]] [] (.b true) [] := by
  refine fn63.spec0 mixed noIt_ok ?_
  rw [ic63]
  refine ab_seq_k fun K1 h1 => ?_
  simp
  refine h1 _ _ _ ?_
  refine ab_seq_k fun K2 h2 => ?_
  simp
  refine h2 _ _ _ ?_
  simp
  exact fin_of 1 (by simp [rs63])

theorem all_ok : FSpec Try.prog 65 [] [] (.agg [.i .i64 (-1), .i .i64 (-1)]) [] := by
  refine fn65.spec0 mixed noIt_ok ?_
  rw [ic65]
  refine ab_seq_k fun K1 h1 => ?_
  simp
  refine h1 _ _ _ ?_
  refine ab_seq_k fun K2 h2 => ?_
  simp
  refine h2 _ _ _ ?_
  simp
  exact fin_of 3 (by simp [rs65])

theorem letsAll : allL.letsN = fun _ _ => true := by
  funext i j
  exact allL_lets

theorem valP_all {t b : List Int} {r : Ru} {i : Nat} (h : i ≤ t.length - 1) : valP t b r (fun _ _ => true) i = restN t b r allL i := by
  unfold valP restN
  rw [if_pos h, letsAll]

theorem pricesAll {t b : List Int} {ft fb : Bool} {r : Ru} (ok : Ok t b r) {σ : List O} :
    FSpec Try.prog 62 [yardV t ft b fb (knownK t b r), .f (.func 63) [] []] σ (.agg (ints (outA 61 (valP t b r (fun _ _ => true)) 0))) σ :=
  FSpec.frame (prices_ok (g := 63) (first := []) (cap := []) (lt := fun _ _ => true) ok rfl rfl (fun i j => by simpa using every_ok)) (by simp) (by simp)

def bestP (t b : List Int) (r : Ru) : Int × Int := if openE t b [r] ≠ 0 then (0, openE t b [r]) else (restN t b r allL 0, 0)

theorem best_ok {t b : List Int} {ft fb : Bool} {r : Ru} (hsz : Sz t b) : FSpec Try.prog 26 [.agg [sl t ft, sl b fb], .agg r.cells] [] (pairV (bestP t b r)) [] := by
  refine fn26.spec0 mixed noIt_ok ?_
  rw [ic26]
  have h7 : List.take 7 r.cells = r.cells := rfl
  refine ab_seq_k fun K1 h1 => ?_
  simp
  refine h1 _ _ _ ?_
  clear h1 K1
  refine ab_seq_k fun K2 h2 => ?_
  simp [h7]
  refine callK_of (open1 hsz) ?_
  simp
  refine h2 _ _ _ ?_
  clear h2 K2
  refine ab_seq_k fun K3 h3 => ?_
  refine ab_seq_k fun K4 h4 => ?_
  simp
  refine h4 _ _ _ ?_
  clear h4 K4
  refine ab_cond_of rfl (fun hc => ?_) (fun hc => ?_)
  · simp at hc
    refine ab_seq_k fun K5 h5 => ?_
    simp
    refine h5 _ _ _ ?_
    simp
    exact fin_of 1 (by simp [rs26, bestP, hc, pairV])
  · simp at hc
    obtain ⟨ok, hov⟩ := open_some (ft := ft) (fb := fb) hsz hc
    rw [hov]
    simp
    refine h3 _ _ _ ?_
    refine ab_seq_k fun K6 h6 => ?_
    simp
    refine callK_of (pricesAll ok) ?_
    have g1 := outA_get (n := 61) (f := valP t b r (fun _ _ => true)) (lo := 0) (i := 0) (by omega)
    simp only [Nat.le_refl, if_true] at g1
    rw [valP_all (Nat.zero_le _)] at g1
    generalize hout : outA 61 (valP t b r (fun _ _ => true)) 0 = out at *
    have hol : out.length = 61 := by rw [← hout]; simp
    obtain ⟨hh, hel⟩ := List.getElem?_eq_some_iff.1 g1
    simp [hol, g1, hel]
    refine h6 _ _ _ ?_
    simp
    exact fin_of 1 (by simp [rs26, bestP, hc, pairV])

theorem refRestAll {t b : List Int} {ft fb : Bool} {r : Ru} (ok : Ok t b r) {σ : List O} :
    FSpec Try.prog 64 [.agg [sl t ft, sl b fb], .agg r.cells, .agg [.i .i64 (-1), .i .i64 (-1)]] σ (.ss (ints ((List.range t.length).map (restN t b r allL))) t.length false) σ :=
  FSpec.frame (refRest (l := allL) ok) (by simp) (by simp)

theorem rest_get {t b : List Int} {r : Ru} {l : Lt2} {i : Nat} (h : i < t.length) : ((List.range t.length).map (restN t b r l))[i]? = some (restN t b r l i) := by simp [h]

theorem refBest {t b : List Int} {ft fb : Bool} {r : Ru} (hsz : Sz t b) : FSpec Try.prog 27 [.agg [sl t ft, sl b fb], .agg r.cells] [] (pairV (bestP t b r)) [] := by
  refine fn27.spec0 mixed noIt_ok ?_
  rw [ic27]
  have hchk := refCheck (t := t) (b := b) (ft := ft) (fb := fb) (r := r) hsz.t1 hsz.b1 hsz.bb
  rw [openE_one] at hchk
  have h7 : List.take 7 r.cells = r.cells := rfl
  refine ab_seq_k fun K1 h1 => ?_
  simp
  refine h1 _ _ _ ?_
  clear h1 K1
  refine ab_seq_k fun K2 h2 => ?_
  refine ab_seq_k fun K3 h3 => ?_
  simp [h7]
  refine callK_of (FSpec.frame hchk (by simp) rfl) ?_
  simp
  refine h3 _ _ _ ?_
  clear h3 K3
  refine ab_cond_of rfl (fun hc => ?_) (fun hc => ?_)
  · simp at hc
    refine ab_seq_k fun K4 h4 => ?_
    simp [h7]
    refine callK_of (FSpec.frame hchk (by simp) rfl) ?_
    simp
    refine h4 _ _ _ ?_
    simp
    exact fin_of 1 (by simp [rs27, bestP, hc, pairV])
  · simp at hc
    obtain ⟨ok, -⟩ := open_some (ft := ft) (fb := fb) hsz hc
    have n2 := ok.n2
    simp
    refine h2 _ _ _ ?_
    refine ab_seq_k fun K5 h5 => ?_
    simp [h7]
    refine callK_of (FSpec.frame all_ok rfl rfl) ?_
    simp
    refine callK_of (refRestAll ok) ?_
    have g1 := rest_get (t := t) (b := b) (r := r) (l := allL) (i := 0) (by omega)
    generalize hL : (List.range t.length).map (restN t b r allL) = L at *
    obtain ⟨hh, hel⟩ := List.getElem?_eq_some_iff.1 g1
    have n0 : 0 < t.length := by omega
    simp [g1, hel, n0]
    refine h5 _ _ _ ?_
    simp
    exact fin_of 1 (by simp [rs27, bestP, hc, pairV])
end Go.Ab
