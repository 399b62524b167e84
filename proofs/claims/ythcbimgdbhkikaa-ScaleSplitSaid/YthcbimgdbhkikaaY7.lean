/- The law ScaleSplit: it returns true. -/
import Derived.Test.YthcbimgdbhkikaaY6
set_option linter.unusedVariables false
set_option linter.unusedSimpArgs false
set_option maxHeartbeats 4000000
namespace Go.Ab
open Go Go.Proofs

theorem scaleSplit {t b : List Int} {ft fb : Bool} {r : Ru} {x : Int} (ht : (t.length : Int) < 9223372036854775808) (hb : (b.length : Int) < 9223372036854775808) (hbb : ∀ x ∈ b, -9223372036854775808 ≤ x ∧ x < 9223372036854775808) (hx : 0 ≤ x) (hx2 : x < 256) :
    FSpec Try.prog 9 [.agg [sl t ft, sl b fb], .agg r.cells, .i .u8 x] [] (.b true) [] := by
  refine fn9.spec0 mixed noIt_ok ?_
  rw [ic9]
  have h7 : List.take 7 r.cells = r.cells := rfl
  have l7 : r.cells.length = 7 := rfl
  refine ab_seq_k fun K1 h1 => ?_
  simp
  refine h1 _ _ _ ?_
  clear h1 K1
  refine ab_seq_k fun K2 h2 => ?_
  refine ab_seq_k fun K3 h3 => ?_
  simp [h7, l7]
  refine callK_of (FSpec.frame (fine_ok (t := t) (b := b) (ft := ft) (fb := fb) (r := r) ht hb hbb) (by simp) rfl) ?_
  have hw : ∀ env σ, get env 28 = .b true → K3 (some 0) env σ := by
    intro env σ w
    refine h3 _ _ _ ?_
    refine ab_cond_of w (fun _ => ?_) (fun h => by cases h)
    refine ab_seq_k fun K4 h4 => ?_
    simp
    refine callK_of (works0) ?_
    simp
    refine h4 _ _ _ ?_
    clear h4 K4
    simp
    exact fin_of 1 (by simp [rs9])
  by_cases hf : fineP t b r = true
  · by_cases h3l : (t.length : Int) < 3
    · simp [hf, h3l]
      exact hw _ _ rfl
    · clear hw
      simp [hf, h3l]
      refine h3 _ _ _ ?_
      clear h3
      refine ab_cond_of rfl (fun h => by cases h) (fun _ => ?_)
      simp
      refine h2 _ _ _ ?_
      clear h2 K2 K3
      obtain ⟨n, F⟩ := fine_of ft fb hf hbb
      have ok := F.ok
      have n61 := ok.n61
      have hchk := (openE_iff.1 F.E).1
      have hrok := (openE_iff.1 F.E).2
      have m1 := Int.emod_nonneg x (show ((t.length : Int) - 2) ≠ 0 by omega)
      have m2 := Int.emod_lt_of_pos x (show (0 : Int) < (t.length : Int) - 2 by omega)
      have tx : Int.tmod x ((t.length : Int) - 2) = x % ((t.length : Int) - 2) := Int.tmod_eq_emod_of_nonneg hx
      obtain ⟨p, hp⟩ : ∃ p : Nat, (p : Int) = 1 + x % ((t.length : Int) - 2) := ⟨(1 + x % ((t.length : Int) - 2)).toNat, by omega⟩
      have hp1 : 0 < p := by omega
      have hp2 : p < t.length - 1 := by omega
      have hne : ¬ (t.length : Int) - 2 = 0 := by omega
      refine ab_seq_k fun K5 h5 => ?_
      simp [tx, hne, wrap64 (x := x) (by omega) (by omega), wrap64 (x := (t.length : Int) - 2) (by omega) (by omega), wrap64 (x := 1 + x % ((t.length : Int) - 2)) (by omega) (by omega)]
      refine h5 _ _ _ ?_
      clear h5 K5
      rw [← hp]
      have hfu := Fu_nonneg (sc := scN t b r) (L := t.length - 1) (j := p)
      have hpr := Pr_nonneg (sc := scN t b r) (L := t.length - 1) (i := p) (by omega)
      have hfp := Fu_Pr (sc := scN t b r) (L := t.length - 1) (i := p) (by omega)
      have hn := F.en
      rw [rest_Pr (Nat.zero_le _)] at hn
      rw [← hn] at hfp
      have hn1 := F.n1
      have hcut : (∀ q ∈ cutL t b r, ¬ (q.1 < p ∧ (p : Int) < q.2)) → n ≤ Fu (scN t b r) (t.length - 1) p + Pr (scN t b r) (t.length - 1) p := by
        intro h
        have := beside_cut (p := p) (by omega) (F.good.of ok.r ok.n2) h
        rw [sumS_of (fun q hq => (F.good.log q hq).1), F.sum] at this
        exact this
      -- both parts
      have hc1 := part_check (f := 0) (e := p) hchk hp1 (by omega)
      have hc2 := part_check (f := p) (e := t.length - 1) hchk hp2 (by omega)
      have hE1 : openE (partT t 0 p) (partB b 0 p) [r] = 0 := openE_iff.2 ⟨hc1, hrok⟩
      have hE2 : openE (partT t p (t.length - 1)) (partB b p (t.length - 1)) [r] = 0 := openE_iff.2 ⟨hc2, hrok⟩
      have hl1 := partT_len (t := t) (f := 0) (e := p) (by omega) (by omega)
      have hl2 := partT_len (t := t) (f := p) (e := t.length - 1) (by omega) (by omega)
      have hbl : ∀ f e, (partB b f e).length ≤ b.length := fun f e => by
        unfold partB
        rw [List.length_map]
        exact List.length_filter_le _ _
      have hs1 : Sz (partT t 0 p) (partB b 0 p) := ⟨by omega, by have := hbl 0 p; have := F.sz.b1; omega, fun x hx => by obtain ⟨a1, a2, a3⟩ := partB_mem.1 hx; omega⟩
      have hs2 : Sz (partT t p (t.length - 1)) (partB b p (t.length - 1)) := ⟨by omega, by have := hbl p (t.length - 1); have := F.sz.b1; omega, fun x hx => by obtain ⟨a1, a2, a3⟩ := partB_mem.1 hx; omega⟩
      have hb1 : ∀ f1 f2 σ, FSpec Try.prog 26 [.agg [sl (partT t 0 p) f1, sl (partB b 0 p) f2], .agg r.cells] σ (.tup [.i .i64 (Fu (scN t b r) (t.length - 1) p), .i .i64 0]) σ := fun f1 f2 σ => by
        have := FSpec.frame (σ := σ) (best_ok (ft := f1) (fb := f2) (r := r) hs1) (by simp) (by simp [pairV])
        simpa [bestP, hE1, pairV, part_up (t := t) (b := b) (r := r) (p := p) (by omega) hp1] using this
      have hb2 : ∀ f1 f2 σ, FSpec Try.prog 26 [.agg [sl (partT t p (t.length - 1)) f1, sl (partB b p (t.length - 1)) f2], .agg r.cells] σ (.tup [.i .i64 (Pr (scN t b r) (t.length - 1) p), .i .i64 0]) σ := fun f1 f2 σ => by
        have := FSpec.frame (σ := σ) (best_ok (ft := f1) (fb := f2) (r := r) hs2) (by simp) (by simp [pairV])
        simpa [bestP, hE2, pairV, part_from (t := t) (b := b) (r := r) (p := p) hp2] using this
      have hq1 : ∀ σ, FSpec Try.prog 42 [.agg [sl t ft, sl b fb], .i .i64 0, .i .i64 p] σ (.agg [sl (partT t 0 p) false, sl (partB b 0 p) ((partB b 0 p).length == 0)]) σ := fun σ => by
        have := FSpec.frame (σ := σ) (part_ok (ft := ft) (fb := fb) (f := 0) (e := p) n61 F.sz.b1 hbb hp1 (by omega)) (by simp) (by simp)
        simpa using this
      have hq2 : ∀ σ, FSpec Try.prog 42 [.agg [sl t ft, sl b fb], .i .i64 p, .i .i64 ((t.length : Int) - 1)] σ (.agg [sl (partT t p (t.length - 1)) false, sl (partB b p (t.length - 1)) ((partB b p (t.length - 1)).length == 0)]) σ := fun σ => by
        have := FSpec.frame (σ := σ) (part_ok (ft := ft) (fb := fb) (f := p) (e := t.length - 1) n61 F.sz.b1 hbb hp2 (by omega)) (by simp) (by simp)
        rw [show ((t.length - 1 : Nat) : Int) = (t.length : Int) - 1 by omega] at this
        exact this
      have hlong : ∀ σ, FSpec Try.prog 43 [.agg [sl t ft, sl b fb]] σ (.i .i64 ((t.length : Int) - 1)) σ := fun σ =>
        FSpec.frame (refLong (ts := ints t) (n := t.length) (ft := ft) (x := sl b fb) (by omega)) (by simp) rfl
      have hpe : placeE t b r p = 0 := by
        have : fit 0 ((t.length : Int) - 1) p = true := by simp only [fit, Bool.and_eq_true, decide_eq_true_eq]; omega
        simp [placeE, F.E, this]
      have hloss : ∀ σ, FSpec Try.prog 36 [.agg [sl t ft, sl b fb], .agg r.cells, .i .i64 p] σ (.tup [.i .i64 (n - (Fu (scN t b r) (t.length - 1) p + Pr (scN t b r) (t.length - 1) p)), .i .i64 0]) σ := fun σ => by
        have := FSpec.frame (σ := σ) (loss_ok (ft := ft) (fb := fb) (r := r) (p := p) F.sz) (by simp) (by simp [pairV])
        simpa [lossP, hpe, pairV, loss_split (t := t) (b := b) (r := r) (p := p) (by omega), ← F.en] using this
      generalize Fu (scN t b r) (t.length - 1) p = a1 at *
      generalize Pr (scN t b r) (t.length - 1) p = a2 at *
      generalize hct : cutL t b r = c at *
      have hclen : c.length ≤ 60 := by rw [← hct]; exact F.good.len
      have hFc := F.cut
      rw [hct] at hFc
      refine ab_seq_k fun K6 h6 => ?_
      simp [h7, l7]
      refine callK_of (F.best _) ?_
      simp [h7, l7]
      refine h6 _ _ _ ?_
      clear h6 K6
      refine ab_seq_k fun K8 h8 => ?_
      simp [h7, l7]
      refine callK_of (hq1 _) ?_
      simp [h7, l7]
      refine callK_of (hb1 _ _ _) ?_
      simp [h7, l7]
      refine h8 _ _ _ ?_
      clear h8 K8
      refine ab_seq_k fun K9 h9 => ?_
      simp [h7, l7]
      refine callK_of (hlong _) ?_
      simp [h7, l7]
      refine callK_of (hq2 _) ?_
      simp [h7, l7]
      refine callK_of (hb2 _ _ _) ?_
      simp [h7, l7]
      refine h9 _ _ _ ?_
      clear h9 K9
      refine ab_seq_k fun K10 h10 => ?_
      simp [h7, l7]
      refine callK_of (hloss _) ?_
      simp [h7, l7]
      refine h10 _ _ _ ?_
      clear h10 K10
      refine ab_seq_k fun K11 h11 => ?_
      simp [h7, l7]
      refine callK_of (hFc _) ?_
      simp [h7, l7]
      refine h11 _ _ _ ?_
      clear h11 K11
      refine ab_seq_k fun K12 h12 => ?_
      have g1 : ¬ n - (a1 + a2) < 0 := by omega
      have g2 : ¬ a1 < 0 := by omega
      have g3 : ¬ a2 < 0 := by omega
      have g4 : ¬ 1099511627776 < n := by omega
      have g5 : a1 + a2 + (n - (a1 + a2)) = n := by omega
      refine ab_seq_k fun K13 h13 => ?_
      simp [g1, g2, g3, g4, wrap64 (x := a1 + a2) (by omega) (by omega), wrap64 (x := n) (by omega) (by omega), g5]
      refine h13 _ _ _ ?_
      clear h13 K13
      refine ab_cond_of rfl (fun h => by cases h) (fun _ => ?_)
      simp
      refine h12 _ _ _ ?_
      clear h12 K12
      refine ab_seq_k fun K14 h14 => ?_
      refine ab_seq_k fun K15 h15 => ?_
      simp
      refine h15 _ _ _ ?_
      clear h15 K15
      refine ab_cond_of rfl (fun hz => ?_) (fun hz => ?_)
      · refine ab_seq_k fun K16 h16 => ?_
        simp
        refine callK_of (works0) ?_
        simp
        refine h16 _ _ _ ?_
        clear h16 K16
        simp
        exact fin_of 1 (by simp [rs9])
      have hz' : ¬ n - (a1 + a2) = 0 := by simpa using hz
      simp
      refine h14 _ _ _ ?_
      clear h14 K14
      refine ab_seq_k fun K17 h17 => ?_
      refine ab_seq_k fun K18 h18 => ?_
      simp
      refine h18 _ _ _ ?_
      clear h18 K18
      refine ab_block_k fun K19 h19 => ?_
      refine ab_loop_k (fun m env σ => ∃ i : Nat, i + m = c.length ∧ env = [(7, .i .i64 p), (16, slL c c.isEmpty), (18, .i .i64 i)] ∧ ∀ q ∈ c.take i, ¬ (q.1 < p ∧ (p : Int) < q.2)) c.length ⟨0, by omega, by simp, by simp⟩ ?_
      rintro m env σ ⟨i, hi, rfl, hall⟩ K20 h20
      rw [ic9_0]
      refine ab_seq_k fun K21 h21 => ?_
      refine ab_seq_k fun K22 h22 => ?_
      simp
      refine h22 _ _ _ ?_
      clear h22 K22
      refine ab_cond_of rfl (fun hc => ?_) (fun hc => ?_)
      · have hil : i < c.length := by simpa using hc
        obtain ⟨q, hq⟩ : ∃ q, c[i]? = some q := ⟨_, List.getElem?_eq_getElem hil⟩
        obtain ⟨y1, y2, y3⟩ := lsV_get hq
        obtain ⟨hy2, y2'⟩ := List.getElem?_eq_some_iff.1 y2
        obtain ⟨hy3, y3'⟩ := List.getElem?_eq_some_iff.1 y3
        simp
        refine h21 _ _ _ ?_
        clear h21 K21
        refine ab_seq_k fun K23 h23 => ?_
        refine ab_block_k fun K24 h24 => ?_
        have c1 : ∀ env, get env 7 = .i .i64 p → get env 16 = slL c c.isEmpty → get env 18 = .i .i64 i → get env 142 = .b (decide (q.1 < p) && decide ((p : Int) < q.2)) →
            ab Try.prog noY noIt 0 (.cond (.t 142) (.seq (.reg [.call (some 143) none 17 [], .op (some 6) none (.mov (.t 143))] (some [6])) .ret) .skip) K24 ((1, K24) :: (0, K19) :: []) (finK rs9 [] (V.b true) []) (some 0) env σ := by
          intro env w7 w16 w18 w
          refine ab_cond_of w (fun hc2 => ?_) (fun hc2 => ?_)
          · refine ab_seq_k fun K25 h25 => ?_
            simp
            refine callK_of (works0) ?_
            simp
            refine h25 _ _ _ ?_
            clear h25 K25
            simp
            exact fin_of 1 (by simp [rs9])
          · simp
            refine h24 _ _ _ ?_
            refine h23 _ _ _ ?_
            simp [w7, w16, w18, wrap64 (x := (i : Int) + 1) (by omega) (by omega)]
            refine h20 _ _ _ (again (m - 1) (by omega) ⟨i + 1, by omega, by simp, fun q' hq' => ?_⟩)
            rw [List.take_add_one, hq] at hq'
            rcases List.mem_append.1 hq' with h | h
            · exact hall q' h
            · simp only [Option.toList, List.mem_singleton] at h
              subst h
              simp at hc2
              omega
        refine ab_seq_k fun K26 h26 => ?_
        by_cases hq1 : q.1 < p
        · simp [hil, y2, y2', y3, y3', hq1]
          refine h26 _ _ _ ?_
          exact c1 _ rfl rfl rfl (by simp [hq1])
        · simp [hil, y2, y2', y3, y3', hq1]
          refine h26 _ _ _ ?_
          exact c1 _ rfl rfl rfl (by simp [hq1])
      · have hil : i = c.length := by simp at hc; omega
        subst hil
        rw [List.take_length] at hall
        have := hcut hall
        omega
  · have hf' : fineP t b r = false := by simpa using hf
    simp [hf']
    exact hw _ _ rfl
end Go.Ab
