/- The law ScaleBetween: it returns true. -/
import Derived.Test.YthcbimgdbhkikaaYA
import Derived.Test.YthcbimgdbhkikaaY3
set_option linter.unusedVariables false
set_option linter.unusedSimpArgs false
set_option maxHeartbeats 4000000
namespace Go.Ab
open Go Go.Proofs

theorem scaleBetween {t b by_ : List Int} {ft fb fy : Bool} {r o : Ru} (ht : (t.length : Int) < 9223372036854775808) (hb : (b.length : Int) < 9223372036854775808) (hbb : ∀ x ∈ b, -9223372036854775808 ≤ x ∧ x < 9223372036854775808)
    (hy : ∀ x ∈ by_, 0 ≤ x ∧ x < 256) (hyl : (by_.length : Int) < 9223372036854775808) :
    FSpec Try.prog 13 [.agg [sl t ft, sl b fb], .agg r.cells, .agg o.cells, slB by_ fy] [] (.b true) [] := by
  refine fn13.spec0 mixed noIt_ok ?_
  rw [ic13]
  have h7 : List.take 7 r.cells = r.cells := rfl
  have l7 : r.cells.length = 7 := rfl
  have h7o : List.take 7 o.cells = o.cells := rfl
  have l7o : o.cells.length = 7 := rfl
  refine ab_seq_k fun K1 h1 => ?_
  simp
  refine h1 _ _ _ ?_
  clear h1 K1
  refine ab_seq_k fun K2 h2 => ?_
  refine ab_seq_k fun K3 h3 => ?_
  simp [h7, l7]
  refine callK_of (FSpec.frame (fine_ok (t := t) (b := b) (ft := ft) (fb := fb) (r := r) ht hb hbb) (by simp) rfl) ?_
  have hw : ∀ env σ, get env 37 = .b true → K3 (some 0) env σ := by
    intro env σ w
    refine h3 _ _ _ ?_
    refine ab_cond_of w (fun _ => ?_) (fun h => by cases h)
    refine ab_seq_k fun K4 h4 => ?_
    simp
    refine callK_of (works0) ?_
    simp
    refine h4 _ _ _ ?_
    clear h4 K4
    simp
    exact fin_of 1 (by simp [rs13])
  by_cases hf : fineP t b r = true
  · simp [hf, h7o, l7o]
    refine callK_of (FSpec.frame (refRule (r := o)) (by simp) rfl) ?_
    by_cases hoc : o.ok = true
    · have hoc' : o.check = 0 := by simp [Ru.check, hoc]
      by_cases h60 : (60 : Int) < by_.length
      · simp [hoc', h60]
        exact hw _ _ rfl
      · clear hw
        simp [hoc', h60]
        refine h3 _ _ _ ?_
        clear h3
        refine ab_cond_of rfl (fun h => by cases h) (fun _ => ?_)
        simp
        refine h2 _ _ _ ?_
        clear h2 K2 K3
        obtain ⟨n, F⟩ := fine_of ft fb hf hbb
        have ok := F.ok
        have hE2 : openE t b [r, o] = 0 := by
          obtain ⟨a1, a2⟩ := openE_iff.1 F.E
          simp [openE, a1, a2, hoc]
        have hEr : openE t b [r, r] = 0 := by
          obtain ⟨a1, a2⟩ := openE_iff.1 F.E
          simp [openE, a1, a2]
        have hEo : openE t b [o] = 0 := openE_iff.2 ⟨(openE_iff.1 F.E).1, hoc⟩
        obtain ⟨-, ok2, -⟩ := open_two (ft := ft) (fb := fb) F.sz hE2
        obtain ⟨lo, hi, B⟩ := btw_is ok ok2
        have hbtw : ∀ σ, FSpec Try.prog 38 [.agg [sl t ft, sl b fb], .agg r.cells, .agg o.cells] σ (.tup [.agg [.i .i64 lo, .i .i64 hi], .i .i64 0]) σ := fun σ => by
          have := FSpec.frame (σ := σ) (between38 (ft := ft) (fb := fb) (r := r) (o := o) F.sz) (by simp) (by simp [btwR, rangeV])
          simpa [btwR, rangeV, hE2, B.e] using this
        have hbtr : ∀ σ, FSpec Try.prog 38 [.agg [sl t ft, sl b fb], .agg r.cells, .agg r.cells] σ (.tup [.agg [.i .i64 n, .i .i64 n], .i .i64 0]) σ := fun σ => by
          have := FSpec.frame (σ := σ) (between38 (ft := ft) (fb := fb) (r := r) (o := r) F.sz) (by simp) (by simp [btwR, rangeV])
          simpa [btwR, rangeV, hEr, btw_same, ← F.en] using this
        have hbo : ∀ σ, FSpec Try.prog 26 [.agg [sl t ft, sl b fb], .agg o.cells] σ (.tup [.i .i64 (restN t b o allL 0), .i .i64 0]) σ := fun σ => by
          have := FSpec.frame (σ := σ) (best_ok (ft := ft) (fb := fb) (r := o) F.sz) (by simp) (by simp [pairV])
          simpa [bestP, hEo, pairV] using this
        have hlo := B.lo0
        have hle := B.le
        have htop := B.top
        have hbc := B.cut
        rw [← F.en] at hbc
        generalize restN t b o allL 0 = mo at *
        have hFc := F.cut
        have hgc := F.good
        have hsc := F.sum
        generalize hct : cutL t b r = c at *
        have hgood : GoodC t b r (cuttingP t b r by_) := cutBy_good ok.r (Int.le_refl _) (Int.le_refl _) goodC_nil
        have hoc := fun σ => F.rchk (cuttingP t b r by_) ((cuttingP t b r by_).length == 0) σ (by have := hgood.len; omega)
        rw [hgood.cutP F.E] at hoc
        have hcg := fun σ => FSpec.frame (σ := σ) (cutting_ok (ft := ft) (fb := fb) (fy := fy) ok hy (by omega)) (by simp) (by simp)
        generalize cuttingP t b r by_ = own0 at *
        generalize hso : sumOf t b r own0 = k0 at *
        have g1 : ¬ lo < 0 := by omega
        have g2 : ¬ hi < lo := by omega
        have g3 : ¬ mo < hi := by omega
        refine ab_seq_k fun K5 h5 => ?_
        simp [h7, l7, h7o, l7o]
        refine callK_of (hbtw _) ?_
        simp [h7, l7, h7o, l7o]
        refine h5 _ _ _ ?_
        clear h5 K5
        refine ab_seq_k fun K6 h6 => ?_
        simp [h7, l7, h7o, l7o]
        refine callK_of (hbtr _) ?_
        simp [h7, l7, h7o, l7o]
        refine h6 _ _ _ ?_
        clear h6 K6
        refine ab_seq_k fun K7 h7 => ?_
        simp [h7, l7]
        refine callK_of (F.best _) ?_
        simp [h7, l7]
        refine h7 _ _ _ ?_
        clear h7 K7
        refine ab_seq_k fun K8 h8 => ?_
        simp [h7o, l7o]
        refine callK_of (hbo _) ?_
        simp [h7o, l7o]
        refine h8 _ _ _ ?_
        clear h8 K8
        refine ab_seq_k fun K9 h9 => ?_
        simp [h7, l7]
        refine callK_of (hFc _) ?_
        simp [h7, l7]
        refine h9 _ _ _ ?_
        clear h9 K9
        refine ab_seq_k fun K12 h12 => ?_
        refine ab_seq_k fun K13 h13 => ?_
        simp [g1, g2, g3]
        refine h13 _ _ _ ?_
        clear h13 K13
        refine ab_cond_of rfl (fun h => by cases h) (fun _ => ?_)
        simp
        refine h12 _ _ _ ?_
        clear h12 K12
        refine ab_seq_k fun K14 h14 => ?_
        simp [h7, l7]
        refine callK_of (hcg _) ?_
        simp [h7, l7]
        refine h14 _ _ _ ?_
        clear h14 K14
        refine ab_seq_k fun K15 h15 => ?_
        simp [h7, l7]
        refine callK_of (hoc _) ?_
        simp [h7, l7]
        refine h15 _ _ _ ?_
        clear h15 K15
        refine ab_seq_k fun K16 h16 => ?_
        refine ab_seq_k fun K17 h17 => ?_
        have fin : ∀ env own fo, get env 4 = .p 0 0 0 → get env 5 = .p 1 0 0 → get env 6 = .p 2 0 0 → get env 9 = .p 3 0 0 → get env 13 = .i .i64 n → get env 19 = slL own fo → GoodC t b r own → sumOf t b r own = n →
            K16 (some 0) env [.row 0 [sl t ft, sl b fb], .row 0 r.cells, .row 0 o.cells, .row 0 [.i .i64 lo, .i .i64 hi], .row 0 [.i .i64 n, .i .i64 n]] := by
          intro env own fo w4 w5 w6 w9 w13 w19 hown hsn
          refine h16 _ _ _ ?_
          have hlen := hown.len
          have hch := fun σ => F.rchk own fo σ (by omega)
          rw [hown.cutP F.E, hsn] at hch
          obtain ⟨hc0, hc2⟩ := hbc own hown hsn
          refine ab_seq_k fun K18 h18 => ?_
          simp [h7, l7, w4, w5, w6, w9, w13, w19]
          refine callK_of (hch _) ?_
          simp [h7, l7, w4, w5, w6, w9, w13, w19]
          refine h18 _ _ _ ?_
          clear h18 K18
          refine ab_seq_k fun K19 h19 => ?_
          refine ab_seq_k fun K20 h20 => ?_
          simp
          refine h20 _ _ _ ?_
          clear h20 K20
          refine ab_cond_of rfl (fun h => by cases h) (fun _ => ?_)
          simp
          refine h19 _ _ _ ?_
          clear h19 K19
          refine ab_seq_k fun K21 h21 => ?_
          simp
          refine h21 _ _ _ ?_
          clear h21 K21
          refine ab_seq_k fun K22 h22 => ?_
          refine ab_seq_k fun K23 h23 => ?_
          simp
          refine h23 _ _ _ ?_
          clear h23 K23
          refine ab_block_k fun K24 h24 => ?_
          refine ab_loop_k (fun m env σ => ∃ i : Nat, i + m = own.length ∧ env = [(4, .p 0 0 0), (6, .p 2 0 0), (9, .p 3 0 0), (19, slL own fo), (22, .i .i64 (sumOf t b o (own.take i))), (23, .i .i64 i)] ∧
              σ = [.row 0 [sl t ft, sl b fb], .row 0 r.cells, .row 0 o.cells, .row 0 [.i .i64 lo, .i .i64 hi], .row 0 [.i .i64 n, .i .i64 n]]) own.length ⟨0, by omega, by simp [sumOf], rfl⟩ ?_
          rintro m env σ ⟨i, hi, rfl, rfl⟩ K25 h25
          rw [ic13_0]
          refine ab_seq_k fun K26 h26 => ?_
          refine ab_seq_k fun K27 h27 => ?_
          simp
          refine h27 _ _ _ ?_
          clear h27 K27
          refine ab_cond_of rfl (fun hc => ?_) (fun hc => ?_)
          · have hil : i < own.length := by simpa using hc
            obtain ⟨q, hq⟩ : ∃ q, own[i]? = some q := ⟨_, List.getElem?_eq_getElem hil⟩
            obtain ⟨y1, y2, y3⟩ := lsV_get hq
            obtain ⟨hy2, y2'⟩ := List.getElem?_eq_some_iff.1 y2
            obtain ⟨hy3, y3'⟩ := List.getElem?_eq_some_iff.1 y3
            obtain ⟨hq1, hq2⟩ := hown.log q (List.mem_of_getElem? hq)
            obtain ⟨a1, a2, a3⟩ := isLog_iff.1 hq1
            have hscale : ∀ σ, FSpec Try.prog 45 [.agg [sl t ft, sl b fb], .agg o.cells, .i .i64 q.1, .i .i64 q.2] σ (.i .i64 (scaleP t b o q.1 q.2)) σ := fun σ =>
              FSpec.frame (refScale (t := t) (b := b) (ft := ft) (fb := fb) (r := o) (x := q.1) (y := q.2) ok.n61 ok.tv ok.bl ok2.r a1 a2 a3) (by simp) rfl
            have hstep : sumOf t b o (own.take (i + 1)) = sumOf t b o (own.take i) + scaleP t b o q.1 q.2 := by
              rw [List.take_add_one, hq, sumOf_append]; simp [sumOf]
            have hbd := sumOf_le (b := b) ok2.r ok.tv (l := own.take (i + 1)) (fun q hq => (hown.log q (List.mem_of_mem_take hq)).1)
            rw [hstep] at hbd
            have htl : (own.take (i + 1)).length ≤ 60 := by rw [List.length_take]; omega
            have hwr := wrap64 (x := sumOf t b o (own.take i) + scaleP t b o q.1 q.2) (by omega) (by omega)
            simp
            refine h26 _ _ _ ?_
            clear h26 K26
            refine ab_seq_k fun K28 h28 => ?_
            refine ab_block_k fun K29 h29 => ?_
            simp [hil, y2, y2', y3, y3', h7o, l7o]
            refine callK_of (hscale _) ?_
            simp [hwr]
            refine h29 _ _ _ ?_
            refine h28 _ _ _ ?_
            simp [wrap64 (x := (i : Int) + 1) (by omega) (by omega)]
            exact h25 _ _ _ (again (m - 1) (by omega) ⟨i + 1, by omega, by simp [hstep], rfl⟩)
          · have hil : i = own.length := by simp at hc; omega
            subst hil
            rw [List.take_length]
            simp
            refine h24 _ _ _ ?_
            refine h22 _ _ _ ?_
            refine ab_seq_k fun K31 h31 => ?_
            simp [hc0, hc2]
            refine callK_of (works0) ?_
            simp [hc0, hc2]
            refine h31 _ _ _ ?_
            clear h31 K31
            simp
            exact fin_of 1 (by simp [rs13])
        by_cases hkn : k0 = n
        · simp [hkn]
          refine h17 _ _ _ ?_
          refine ab_cond_of rfl (fun h => by cases h) (fun _ => ?_)
          simp
          exact fin _ own0 _ rfl rfl rfl rfl rfl rfl hgood (by rw [hso, hkn])
        · simp [hkn]
          refine h17 _ _ _ ?_
          refine ab_cond_of rfl (fun _ => ?_) (fun h => by cases h)
          simp
          exact fin _ c _ rfl rfl rfl rfl rfl rfl hgc hsc
    · have hoc' : ¬ o.check = 0 := by simp [Ru.check, hoc]
      simp [hoc']
      exact hw _ _ rfl
  · have hf' : fineP t b r = false := by simpa using hf
    simp [hf']
    exact hw _ _ rfl
end Go.Ab
