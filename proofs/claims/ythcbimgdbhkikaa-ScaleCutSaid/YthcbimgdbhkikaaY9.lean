/- The law ScaleCut: it returns true. -/
import Derived.Test.YthcbimgdbhkikaaY8
import Derived.Test.YthcbimgdbhkikaaY3
set_option linter.unusedVariables false
set_option linter.unusedSimpArgs false
set_option maxHeartbeats 4000000
namespace Go.Ab
open Go Go.Proofs

theorem scaleCut {t b by_ : List Int} {ft fb fy : Bool} {r : Ru} {x : Int} (ht : (t.length : Int) < 9223372036854775808) (hb : (b.length : Int) < 9223372036854775808) (hbb : ∀ x ∈ b, -9223372036854775808 ≤ x ∧ x < 9223372036854775808) (hx : 0 ≤ x) (hx2 : x < 256)
    (hy : ∀ x ∈ by_, 0 ≤ x ∧ x < 256) (hyl : (by_.length : Int) < 9223372036854775808) :
    FSpec Try.prog 12 [.agg [sl t ft, sl b fb], .agg r.cells, .i .u8 x, slB by_ fy] [] (.b true) [] := by
  refine fn12.spec0 mixed noIt_ok ?_
  rw [ic12]
  have h7 : List.take 7 r.cells = r.cells := rfl
  have l7 : r.cells.length = 7 := rfl
  refine ab_seq_k fun K1 h1 => ?_
  simp
  refine h1 _ _ _ ?_
  clear h1 K1
  refine ab_seq_k fun K2 h2 => ?_
  refine ab_seq_k fun K3 h3 => ?_
  simp [h7, l7]
  refine callK_of (FSpec.frame (fine_ok (t := t) (b := b) (ft := ft) (fb := fb) (r := r) ht hb hbb) (by simp) rfl) ?_
  have hw : ∀ env σ, get env 33 = .b true → K3 (some 0) env σ := by
    intro env σ w
    refine h3 _ _ _ ?_
    refine ab_cond_of w (fun _ => ?_) (fun h => by cases h)
    refine ab_seq_k fun K4 h4 => ?_
    simp
    refine callK_of (works0) ?_
    simp
    refine h4 _ _ _ ?_
    clear h4 K4
    simp
    exact fin_of 1 (by simp [rs12])
  by_cases hf : fineP t b r = true
  · by_cases h60 : (60 : Int) < by_.length
    · simp [hf, h60]
      exact hw _ _ rfl
    · clear hw
      simp [hf, h60]
      refine h3 _ _ _ ?_
      clear h3
      refine ab_cond_of rfl (fun h => by cases h) (fun _ => ?_)
      simp
      refine h2 _ _ _ ?_
      clear h2 K2 K3
      obtain ⟨n, F⟩ := fine_of ft fb hf hbb
      have ok := F.ok
      have n61 := ok.n61
      have n2 := ok.n2
      have m1 := Int.emod_nonneg x (show (t.length : Int) ≠ 0 by omega)
      have m2 := Int.emod_lt_of_pos x (show (0 : Int) < (t.length : Int) by omega)
      have tx : Int.tmod x (t.length : Int) = x % (t.length : Int) := Int.tmod_eq_emod_of_nonneg hx
      obtain ⟨p, hp⟩ : ∃ p : Nat, (p : Int) = x % (t.length : Int) := ⟨(x % (t.length : Int)).toNat, by omega⟩
      have hp2 : p ≤ t.length - 1 := by omega
      have hne : ¬ t = [] := by intro h; rw [h] at n2; simp at n2
      refine ab_seq_k fun K5 h5 => ?_
      simp [tx, hne, wrap64 (x := x) (by omega) (by omega)]
      refine h5 _ _ _ ?_
      clear h5 K5
      rw [← hp]
      obtain ⟨k, l, H⟩ := kind_is ok F.E hp2
      have hkind : ∀ σ, FSpec Try.prog 34 [.agg [sl t ft, sl b fb], .agg r.cells, .i .i64 p] σ (.tup [.i .i64 k, .i .i64 0]) σ := fun σ => by
        have := FSpec.frame (σ := σ) (kind_ok (ft := ft) (fb := fb) (r := r) (p := p) F.sz) (by simp) (by simp [pairV])
        simpa [H.ek, pairV] using this
      have hloss : ∀ σ, FSpec Try.prog 36 [.agg [sl t ft, sl b fb], .agg r.cells, .i .i64 p] σ (.tup [.i .i64 l, .i .i64 0]) σ := fun σ => by
        have := FSpec.frame (σ := σ) (loss_ok (ft := ft) (fb := fb) (r := r) (p := p) F.sz) (by simp) (by simp [pairV])
        simpa [H.el, pairV] using this
      have hcount := fun σ => FSpec.frame (σ := σ) (count32 (ft := ft) (fb := fb) (r := r) F.sz) (by simp) (by simp [pairV])
      have hci := count_is ok F.E
      have hk0 := H.k0
      have hk2 := H.k2
      have hl0 := H.l0
      have hkl := H.kl
      have hcutk := H.cut
      rw [← F.en] at hcutk
      have hFc := F.cut
      have hgc := F.good
      have hsc := F.sum
      generalize hct : cutL t b r = c at *
      have hgood : GoodC t b r (cuttingP t b r by_) := cutBy_good ok.r (Int.le_refl _) (Int.le_refl _) goodC_nil
      have hoc := fun σ => F.rchk (cuttingP t b r by_) ((cuttingP t b r by_).length == 0) σ (by have := hgood.len; omega)
      rw [hgood.cutP F.E] at hoc
      have hcg := fun σ => FSpec.frame (σ := σ) (cutting_ok (ft := ft) (fb := fb) (fy := fy) ok hy (by omega)) (by simp) (by simp)
      generalize cuttingP t b r by_ = own0 at *
      generalize hso : sumOf t b r own0 = k0 at *
      generalize countP t b r = cp at *
      refine ab_seq_k fun K6 h6 => ?_
      simp [h7, l7]
      refine callK_of (hkind _) ?_
      simp [h7, l7]
      refine h6 _ _ _ ?_
      clear h6 K6
      refine ab_seq_k fun K7 h7 => ?_
      simp [h7, l7]
      refine callK_of (hloss _) ?_
      simp [h7, l7]
      refine h7 _ _ _ ?_
      clear h7 K7
      refine ab_seq_k fun K8 h8 => ?_
      simp [h7, l7]
      refine callK_of (F.best _) ?_
      simp [h7, l7]
      refine h8 _ _ _ ?_
      clear h8 K8
      refine ab_seq_k fun K9 h9 => ?_
      simp [h7, l7]
      refine callK_of (hFc _) ?_
      simp [h7, l7]
      refine h9 _ _ _ ?_
      clear h9 K9
      refine ab_seq_k fun K10 h10 => ?_
      simp [h7, l7, pairV]
      refine callK_of (hcount _) ?_
      simp [h7, l7, pairV]
      refine h10 _ _ _ ?_
      clear h10 K10
      refine ab_seq_k fun K12 h12 => ?_
      refine ab_seq_k fun K13 h13 => ?_
      have g1 : ¬ k < 0 := by omega
      have g2 : ¬ 2 < k := by omega
      have g3 : ¬ l < 0 := by omega
      have hK13 : ∀ env σ, get env 122 = .b false → get env 3 = slB by_ fy → get env 4 = .p 0 0 0 → get env 5 = .p 1 0 0 → get env 9 = .i .i64 p → get env 10 = .i .i64 k → get env 14 = .i .i64 n → get env 16 = slL c c.isEmpty → σ = [.row 0 [sl t ft, sl b fb], .row 0 r.cells] → K13 (some 0) env σ := by
        rintro env σ w w3 w4 w5 w9 w10 w14 w16 rfl
        refine h13 _ _ _ ?_
        refine ab_cond_of w (fun h => by cases h) (fun _ => ?_)
        simp
        refine h12 _ _ _ ?_
        clear h12 K12 h13 K13
        refine ab_seq_k fun K14 h14 => ?_
        simp [h7, l7, w3, w4, w5, w9, w10, w14, w16]
        refine callK_of (hcg _) ?_
        simp [h7, l7, w3, w4, w5, w9, w10, w14, w16]
        refine h14 _ _ _ ?_
        clear h14 K14
        refine ab_seq_k fun K15 h15 => ?_
        simp [h7, l7]
        refine callK_of (hoc _) ?_
        simp [h7, l7]
        refine h15 _ _ _ ?_
        clear h15 K15
        refine ab_seq_k fun K16 h16 => ?_
        refine ab_seq_k fun K17 h17 => ?_
        have fin : ∀ env own fo, get env 4 = .p 0 0 0 → get env 5 = .p 1 0 0 → get env 9 = .i .i64 p → get env 10 = .i .i64 k → get env 14 = .i .i64 n → get env 20 = slL own fo → GoodC t b r own → sumOf t b r own = n → K16 (some 0) env [.row 0 [sl t ft, sl b fb], .row 0 r.cells] := by
          intro env own fo w4 w5 w9 w10 w14 w20 hown hsn
          refine h16 _ _ _ ?_
          have hlen := hown.len
          have hch := fun σ => F.rchk own fo σ (by omega)
          rw [hown.cutP F.E, hsn] at hch
          obtain ⟨hc0, hc2⟩ := hcutk own hown hsn
          refine ab_seq_k fun K18 h18 => ?_
          simp [h7, l7, w4, w5, w9, w10, w14, w20]
          refine callK_of (hch _) ?_
          simp [h7, l7, w4, w5, w9, w10, w14, w20]
          refine h18 _ _ _ ?_
          clear h18 K18
          refine ab_seq_k fun K19 h19 => ?_
          refine ab_seq_k fun K20 h20 => ?_
          simp
          refine h20 _ _ _ ?_
          clear h20 K20
          refine ab_cond_of rfl (fun h => by cases h) (fun _ => ?_)
          simp
          refine h19 _ _ _ ?_
          clear h19 K19
          refine ab_seq_k fun K21 h21 => ?_
          simp
          refine h21 _ _ _ ?_
          clear h21 K21
          refine ab_seq_k fun K22 h22 => ?_
          refine ab_seq_k fun K23 h23 => ?_
          simp
          refine h23 _ _ _ ?_
          clear h23 K23
          refine ab_block_k fun K24 h24 => ?_
          refine ab_loop_k (fun m env σ => ∃ i : Nat, i + m = own.length ∧ env = [(9, .i .i64 p), (10, .i .i64 k), (20, slL own fo), (23, .b (cutAt p (own.take i))), (24, .i .i64 i)]) own.length ⟨0, by omega, by simp [cutAt]⟩ ?_
          rintro m env σ ⟨i, hi, rfl⟩ K25 h25
          rw [ic12_0]
          refine ab_seq_k fun K26 h26 => ?_
          refine ab_seq_k fun K27 h27 => ?_
          simp
          refine h27 _ _ _ ?_
          clear h27 K27
          refine ab_cond_of rfl (fun hc => ?_) (fun hc => ?_)
          · have hil : i < own.length := by simpa using hc
            obtain ⟨q, hq⟩ : ∃ q, own[i]? = some q := ⟨_, List.getElem?_eq_getElem hil⟩
            obtain ⟨y1, y2, y3⟩ := lsV_get hq
            obtain ⟨hy2, y2'⟩ := List.getElem?_eq_some_iff.1 y2
            obtain ⟨hy3, y3'⟩ := List.getElem?_eq_some_iff.1 y3
            have hstep : cutAt p (own.take (i + 1)) = (cutAt p (own.take i) || (decide (q.1 = (p : Int)) || decide (q.2 = (p : Int)))) := by
              rw [List.take_add_one, hq]; simp [cutAt]
            simp
            refine h26 _ _ _ ?_
            clear h26 K26
            refine ab_seq_k fun K28 h28 => ?_
            refine ab_block_k fun K29 h29 => ?_
            have c1 : ∀ env v, get env 9 = .i .i64 p → get env 10 = .i .i64 k → get env 20 = slL own fo → get env 23 = .b v → get env 24 = .i .i64 i → v = cutAt p (own.take (i + 1)) → K29 (some 0) env σ := by
              intro env v w9 w10 w20 w23 w24 hv
              refine h29 _ _ _ ?_
              refine h28 _ _ _ ?_
              simp [w9, w10, w20, w23, w24, wrap64 (x := (i : Int) + 1) (by omega) (by omega)]
              exact h25 _ _ _ (again (m - 1) (by omega) ⟨i + 1, by omega, by simp [hv]⟩)
            cases hb0 : cutAt p (own.take i) with
            | true =>
              simp [hil]
              exact c1 _ true rfl rfl rfl rfl rfl (by rw [hstep, hb0]; rfl)
            | false =>
              by_cases he1 : q.1 = (p : Int)
              · simp [hil, y2, y2', y3, y3', he1]
                exact c1 _ true rfl rfl rfl rfl rfl (by rw [hstep, hb0]; simp [he1])
              · simp [hil, y2, y2', y3, y3', he1]
                exact c1 _ _ rfl rfl rfl rfl rfl (by rw [hstep, hb0]; simp [he1])
          · have hil : i = own.length := by simp at hc; omega
            subst hil
            rw [List.take_length]
            simp
            refine h24 _ _ _ ?_
            refine h22 _ _ _ ?_
            refine ab_seq_k fun K30 h30 => ?_
            have hfin : ∀ env σ, get env 8 = .b true → K30 (some 0) env σ := by
              intro env σ w
              refine h30 _ _ _ ?_
              simp
              exact fin_of 1 (by simp [rs12, w])
            by_cases hk0 : k = 0
            · have := hc0 hk0
              simp [hk0, this]
              refine callK_of works0 ?_
              simp
              exact hfin _ _ rfl
            · by_cases hk2 : k = 2
              · have := hc2 hk2
                simp [hk2, this]
                refine callK_of works0 ?_
                simp
                exact hfin _ _ rfl
              · simp [hk0, hk2]
                refine callK_of works0 ?_
                simp
                exact hfin _ _ rfl
        by_cases hkn : k0 = n
        · simp [hkn]
          refine h17 _ _ _ ?_
          refine ab_cond_of rfl (fun h => by cases h) (fun _ => ?_)
          simp
          exact fin _ own0 _ rfl rfl rfl rfl rfl rfl hgood (by rw [hso, hkn])
        · simp [hkn]
          refine h17 _ _ _ ?_
          refine ab_cond_of rfl (fun _ => ?_) (fun h => by cases h)
          simp
          exact fin _ c _ rfl rfl rfl rfl rfl rfl hgc hsc
      have hklb : k = 0 ∨ l = 0 := by by_cases h : k = 0; exact .inl h; exact .inr (hkl h)
      rcases hci with ⟨m, rfl, hm⟩ | rfl
      · have g4 : ¬ m < 1 := by omega
        rcases hklb with h | h
        · simp [g3, g4, h]
          exact hK13 _ _ rfl rfl rfl rfl rfl (by rw [h]; rfl) rfl rfl rfl
        · by_cases hk : k = 0
          · simp [g3, g4, hk]
            exact hK13 _ _ rfl rfl rfl rfl rfl (by rw [hk]; rfl) rfl rfl rfl
          · simp [g1, g2, g4, h, hk]
            exact hK13 _ _ rfl rfl rfl rfl rfl rfl rfl rfl rfl
      · rcases hklb with h | h
        · simp [g3, h]
          exact hK13 _ _ rfl rfl rfl rfl rfl (by rw [h]; rfl) rfl rfl rfl
        · by_cases hk : k = 0
          · simp [g3, hk]
            exact hK13 _ _ rfl rfl rfl rfl rfl (by rw [hk]; rfl) rfl rfl rfl
          · simp [g1, g2, h, hk]
            exact hK13 _ _ rfl rfl rfl rfl rfl rfl rfl rfl rfl
  · have hf' : fineP t b r = false := by simpa using hf
    simp [hf']
    exact hw _ _ rfl
end Go.Ab
