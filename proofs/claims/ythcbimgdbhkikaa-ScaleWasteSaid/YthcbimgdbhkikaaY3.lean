/- The law ScaleProved: it returns true. -/
import Derived.Test.YthcbimgdbhkikaaY2
set_option linter.unusedVariables false
set_option linter.unusedSimpArgs false
set_option maxHeartbeats 4000000
namespace Go.Ab
open Go Go.Proofs

/-- What is known of a valid stem and rule. -/
structure Fine (t b : List Int) (ft fb : Bool) (r : Ru) (n : Int) : Prop where
  ok : Ok t b r
  sz : Sz t b
  E : openE t b [r] = 0
  en : n = restN t b r allL 0
  n0 : 0 ≤ n
  n1 : n ≤ 12960000
  best : ∀ σ, FSpec Try.prog 26 [.agg [sl t ft, sl b fb], .agg r.cells] σ (.tup [.i .i64 n, .i .i64 0]) σ
  cut : ∀ σ, FSpec Try.prog 28 [.agg [sl t ft, sl b fb], .agg r.cells] σ (.tup [slL (cutL t b r) (cutL t b r).isEmpty, .i .i64 0]) σ
  prices : ∀ σ, FSpec Try.prog 31 [.agg [sl t ft, sl b fb], .agg r.cells] σ (.tup [.ss (ints (pricesL t b r)) (pricesL t b r).length (pricesL t b r).isEmpty, .i .i64 0]) σ
  chk : ∀ l fl σ, (l.length : Int) < 1000000000 → FSpec Try.prog 24 [.agg [sl t ft, sl b fb], .agg r.cells, slL l fl] σ (.tup [.i .i64 (cutP t b r l).1, .i .i64 (cutP t b r l).2]) σ
  rchk : ∀ l fl σ, (l.length : Int) < 1000000000 → FSpec Try.prog 25 [.agg [sl t ft, sl b fb], .agg r.cells, slL l fl] σ (.tup [.i .i64 (cutP t b r l).1, .i .i64 (cutP t b r l).2]) σ
  good : GoodC t b r (cutL t b r)
  sum : sumOf t b r (cutL t b r) = n

theorem fine_of {t b : List Int} {r : Ru} (ft fb : Bool) (h : fineP t b r = true) (hbb : ∀ x ∈ b, -9223372036854775808 ≤ x ∧ x < 9223372036854775808) : ∃ n, Fine t b ft fb r n := by
  obtain ⟨hsz, hE⟩ := fineP_ok h hbb
  obtain ⟨ok, -⟩ := open_some (ft := ft) (fb := fb) hsz hE
  have hn := restN_le (t := t) (b := b) (l := allL) ok.r ok.tv ok.n61 (i := 0) (Nat.zero_le _)
  obtain ⟨hg, hs⟩ := cutL_good ok hE
  refine ⟨_, ok, hsz, hE, rfl, hn.1, hn.2, fun σ => ?_, fun σ => ?_, fun σ => ?_, fun l fl σ hl => ?_, fun l fl σ hl => ?_, hg, hs⟩
  · have := FSpec.frame (σ := σ) (best_ok (ft := ft) (fb := fb) (r := r) hsz) (by simp) (by simp [pairV])
    simpa [bestP, hE, pairV] using this
  · have := FSpec.frame (σ := σ) (cut_ok (ft := ft) (fb := fb) (r := r) hsz) (by simp) (by simp)
    simpa [cutR, hE] using this
  · have := FSpec.frame (σ := σ) (prices31 (ft := ft) (fb := fb) (r := r) hsz) (by simp) (by simp)
    simpa [hE] using this
  · exact FSpec.frame (σ := σ) (checkCut_ok (ft := ft) (fb := fb) (r := r) (l := l) (fl := fl) hsz hl) (by simp) (by simp [pairV])
  · exact FSpec.frame (σ := σ) (refCut (ft := ft) (fb := fb) (r := r) (l := l) (fl := fl) hsz hl) (by simp) (by simp [pairV])

theorem scaleProved {t b by_ ps : List Int} {ft fb fy fp : Bool} {r : Ru} (ht : (t.length : Int) < 9223372036854775808) (hb : (b.length : Int) < 9223372036854775808) (hbb : ∀ x ∈ b, -9223372036854775808 ≤ x ∧ x < 9223372036854775808) (hy : ∀ x ∈ by_, 0 ≤ x ∧ x < 256)
    (hyl : (by_.length : Int) < 9223372036854775808) (hpl : (ps.length : Int) < 9223372036854775808) :
    FSpec Try.prog 8 [.agg [sl t ft, sl b fb], .agg r.cells, slB by_ fy, sl ps fp] [] (.b true) [] := by
  refine fn8.spec0 mixed noIt_ok ?_
  rw [ic8]
  have h7 : List.take 7 r.cells = r.cells := rfl
  have l7 : r.cells.length = 7 := rfl
  refine ab_seq_k fun K1 h1 => ?_
  simp
  refine h1 _ _ _ ?_
  clear h1 K1
  refine ab_seq_k fun K2 h2 => ?_
  refine ab_seq_k fun K3 h3 => ?_
  simp [h7, l7]
  refine callK_of (FSpec.frame (fine_ok (t := t) (b := b) (ft := ft) (fb := fb) (r := r) ht hb hbb) (by simp) rfl) ?_
  have hw : ∀ env σ, get env 38 = .b true → K3 (some 0) env σ := by
    intro env σ w
    refine h3 _ _ _ ?_
    refine ab_cond_of w (fun _ => ?_) (fun h => by cases h)
    refine ab_seq_k fun K4 h4 => ?_
    simp
    refine callK_of (works0) ?_
    simp
    refine h4 _ _ _ ?_
    clear h4 K4
    simp
    exact fin_of 1 (by simp [rs8])
  by_cases hf : fineP t b r = true
  · by_cases h60 : (60 : Int) < by_.length
    · simp [hf, h60]
      exact hw _ _ rfl
    · by_cases h70 : (70 : Int) < ps.length
      · simp [hf, h60, h70]
        exact hw _ _ rfl
      · clear hw
        simp [hf, h60, h70]
        refine h3 _ _ _ ?_
        clear h3
        refine ab_cond_of rfl (fun h => by cases h) (fun _ => ?_)
        simp
        refine h2 _ _ _ ?_
        clear h2 K2 K3
        obtain ⟨n, F⟩ := fine_of ft fb hf hbb
        have ok := F.ok
        have hcl : cutP t b r (cutL t b r) = (n, 0) := by rw [F.good.cutP F.E, F.sum]
        have hcc := fun σ => F.chk (cutL t b r) (cutL t b r).isEmpty σ (by have := F.good.len; omega)
        have hcr := fun σ => F.rchk (cutL t b r) (cutL t b r).isEmpty σ (by have := F.good.len; omega)
        rw [hcl] at hcc hcr
        have hpr : checkPricesP t b r (pricesL t b r) = (n, 0) := by rw [prices_right ok F.E, F.en]
        have hpll : (pricesL t b r).length = t.length := by simp [pricesL, F.E]
        have hpc := fun σ => FSpec.frame (σ := σ) (checkPrices_ok (ft := ft) (fb := fb) (r := r) (ps := pricesL t b r) (fp := (pricesL t b r).isEmpty) F.sz (by rw [hpll]; exact F.sz.t1)) (by simp) (by simp [pairV])
        have hrp := fun σ => FSpec.frame (σ := σ) (refCheckPrices (ft := ft) (fb := fb) (r := r) (ps := pricesL t b r) (fp := (pricesL t b r).isEmpty) F.sz (by rw [hpll]; exact F.sz.t1)) (by simp) (by simp [pairV])
        rw [hpr] at hpc hrp
        simp only [pairV] at hpc hrp
        have hgood : GoodC t b r (cuttingP t b r by_) := cutBy_good ok.r (Int.le_refl _) (Int.le_refl _) goodC_nil
        have hle := good_le ok hgood
        rw [← F.en] at hle
        have hoc := fun σ => F.chk (cuttingP t b r by_) ((cuttingP t b r by_).length == 0) σ (by have := hgood.len; omega)
        have hor := fun σ => F.rchk (cuttingP t b r by_) ((cuttingP t b r by_).length == 0) σ (by have := hgood.len; omega)
        rw [hgood.cutP F.E] at hoc hor
        have hcg := fun σ => FSpec.frame (σ := σ) (cutting_ok (ft := ft) (fb := fb) (fy := fy) ok hy (by omega)) (by simp) (by simp)
        have hps := fun σ => FSpec.frame (σ := σ) (checkPrices_ok (ft := ft) (fb := fb) (r := r) (ps := ps) (fp := fp) F.sz (by omega)) (by simp) (by simp [pairV])
        simp only [pairV] at hps
        have hge := right_ge (ps := ps) ok F.E
        rw [← F.en] at hge
        generalize cuttingP t b r by_ = own at *
        generalize sumOf t b r own = k at *
        generalize checkPricesP t b r ps = m at *
        refine ab_seq_k fun K5 h5 => ?_
        simp [h7, l7]
        refine callK_of (F.best _) ?_
        simp [h7, l7]
        refine h5 _ _ _ ?_
        clear h5 K5
        refine ab_seq_k fun K6 h6 => ?_
        simp [h7, l7]
        refine callK_of (F.cut _) ?_
        simp [h7, l7]
        refine h6 _ _ _ ?_
        clear h6 K6
        refine ab_seq_k fun K7 h7 => ?_
        simp [h7, l7]
        refine callK_of (F.prices _) ?_
        simp [h7, l7]
        refine h7 _ _ _ ?_
        clear h7 K7
        refine ab_seq_k fun K8 h8 => ?_
        refine ab_seq_k fun K9 h9 => ?_
        simp
        refine h9 _ _ _ ?_
        clear h9 K9
        refine ab_cond_of rfl (fun h => by cases h) (fun _ => ?_)
        simp
        refine h8 _ _ _ ?_
        clear h8 K8
        refine ab_seq_k fun K10 h10 => ?_
        simp [h7, l7]
        refine callK_of (hcc _) ?_
        simp [h7, l7]
        refine h10 _ _ _ ?_
        clear h10 K10
        refine ab_seq_k fun K11 h11 => ?_
        simp [h7, l7]
        refine callK_of (hpc _) ?_
        simp [h7, l7]
        refine h11 _ _ _ ?_
        clear h11 K11
        refine ab_seq_k fun K12 h12 => ?_
        simp [h7, l7]
        refine callK_of (hcr _) ?_
        simp [h7, l7]
        refine h12 _ _ _ ?_
        clear h12 K12
        refine ab_seq_k fun K13 h13 => ?_
        simp [h7, l7]
        refine callK_of (hrp _) ?_
        simp [h7, l7]
        refine h13 _ _ _ ?_
        clear h13 K13
        refine ab_seq_k fun K14 h14 => ?_
        refine ab_seq_k fun K15 h15 => ?_
        simp
        refine h15 _ _ _ ?_
        clear h15 K15
        refine ab_cond_of rfl (fun h => by cases h) (fun _ => ?_)
        simp
        refine h14 _ _ _ ?_
        clear h14 K14
        refine ab_seq_k fun K16 h16 => ?_
        simp [h7, l7]
        refine callK_of (hcg _) ?_
        simp [h7, l7]
        refine h16 _ _ _ ?_
        clear h16 K16
        refine ab_seq_k fun K17 h17 => ?_
        simp [h7, l7]
        refine callK_of (hoc _) ?_
        simp [h7, l7]
        refine h17 _ _ _ ?_
        clear h17 K17
        refine ab_seq_k fun K18 h18 => ?_
        simp [h7, l7]
        refine callK_of (hps _) ?_
        simp [h7, l7]
        refine h18 _ _ _ ?_
        clear h18 K18
        refine ab_seq_k fun K19 h19 => ?_
        simp [h7, l7]
        refine callK_of (hor _) ?_
        simp [h7, l7]
        refine h19 _ _ _ ?_
        clear h19 K19
        refine ab_seq_k fun K20 h20 => ?_
        by_cases he : m.2 = 0
        · have hm1 := hge he
          have hm2 : k ≤ m.1 := by omega
          simp [he, hle, hm1, hm2]
          refine callK_of works0 ?_
          simp
          refine h20 _ _ _ ?_
          simp
          exact fin_of 1 (by simp [rs8])
        · simp [he, hle]
          refine callK_of works0 ?_
          simp
          refine h20 _ _ _ ?_
          simp
          exact fin_of 1 (by simp [rs8])
  · have hf' : fineP t b r = false := by simpa using hf
    simp [hf']
    exact hw _ _ rfl
end Go.Ab
