/- The reference's IsLock; CheckLock of both. -/
import Derived.Test.YtgndegccjhdmmaaGreatML
set_option linter.unusedVariables false
set_option linter.unusedSimpArgs false
set_option maxHeartbeats 4000000
set_option maxRecDepth 100000
namespace Go.Ab
open Go Go.Proofs

theorem refIsLock85 {J : List Lg} {f fl : Bool} {l : List Int} {σ : List O} (hJ : JOK J) (hc : ∀ p ∈ J, isL J.length p.2.1 = true ∧ (p.1 = 0 ∨ p.1 = 1)) (hl : ∀ x ∈ l, 0 ≤ x ∧ x < J.length) (hll : l.length ≤ 1000000) : FSpec Tryz.prog 85 [jamV J f, sl l fl] σ (.b (lockR J l)) σ := by
  refine FSpec.frame (σ := σ) ?_ (by simp) rfl
  have hN := hJ.2.1
  refine fn85.spec0 mixed noIt_ok ?_
  rw [ic85]
  refine ab_seq_k fun K1 h1 => ?_
  simp
  refine h1 _ _ _ ?_
  clear h1 K1
  refine ab_seq_k fun K2 h2 => ?_
  refine ab_seq_k fun K3 h3 => ?_
  simp
  refine h3 _ _ _ ?_
  clear h3 K3
  refine ab_block_k fun K4 h4 => ?_
  refine ab_loop_k (fun m env σ => ∃ i : Nat, i + m = l.length ∧ l.any (badR J l) = (l.drop i).any (badR J l) ∧ env = [(1, sl l fl), (2, .p 0 0 0), (5, .i .i64 i)] ∧ σ[0]? = some (.row 0 [slJ J f])) l.length ⟨0, by omega, by simp, by simp, rfl⟩ ?_
  rintro m env σ ⟨i, hi, hd, rfl, s0⟩ K5 h5
  obtain ⟨hs0, s0'⟩ := List.getElem?_eq_some_iff.1 s0
  rw [ic85_1]
  refine ab_seq_k fun K6 h6 => ?_
  refine ab_seq_k fun K7 h7 => ?_
  simp
  refine h7 _ _ _ ?_
  clear h7 K7
  refine ab_cond_of rfl (fun hc1 => ?_) (fun hc1 => ?_)
  · have hil : i < l.length := by simpa using hc1
    obtain ⟨b1, b2, bm⟩ := getD_get hil
    rw [List.drop_eq_getElem_cons hil, b2, List.any_cons] at hd
    obtain ⟨hx0, hxN⟩ := hl _ bm
    generalize l.getD i 0 = x at *
    obtain ⟨xn, rfl⟩ : ∃ xn : Nat, x = xn := ⟨x.toNat, by omega⟩
    have hxn : xn < J.length := by omega
    obtain ⟨p, hpi, hpm, hle, g1, g2⟩ := lg_at hxn
    obtain ⟨e1, -, -⟩ := lgV_get hpi
    obtain ⟨hpL, hpk⟩ := hc p hpm
    have hpl := (hJ.2.2 p hpm).2
    have hgD : J.getD xn (0, [], true) = p := by rw [List.getD_eq_getElem?_getD, hpi]; rfl
    have hkd : kd J xn = p.1 := by unfold kd; rw [hgD]
    have hbad : badR J l xn = ((decide (p.1 = 0) && decide (cntIn l p.2.1 = 0)) || (decide (p.1 = 1) && decide (cntIn l p.2.1 < p.2.1.length))) := by unfold badR; rw [Int.toNat_natCast, hgD, hkd]
    simp
    refine h6 _ _ _ ?_
    clear h6 K6
    refine ab_seq_k fun K8 h8 => ?_
    refine ab_block_k fun K9 h9 => ?_
    have hm2 : min 2 (J.length * 2 - xn * 2) = 2 := by omega
    have happ : ∀ g, (σ ++ [g])[0]? = some (.row 0 [slJ J f]) := fun g => app_get s0
    have hlast : (σ ++ [O.row 0 [V.i .i64 p.1, sl p.2.1 p.2.2]])[σ.length]? = some (O.row 0 [V.i .i64 p.1, sl p.2.1 p.2.2]) := by simp
    have happ' : ∀ (g : O) (h : 0 < (σ ++ [g]).length), (σ ++ [g])[0]'h = .row 0 [slJ J f] := fun g h => (List.getElem?_eq_some_iff.1 (happ g)).2
    refine ab_seq_k fun K10 h10 => ?_
    simp [abDs_consU, drU, recheck_cons, recheck_nil, rcK, IS.dst, s0, s0', hil, b1, b2, hxn, hle, e1, hm2, happ, happ']
    refine h10 _ _ _ ?_
    clear h10 K10 happ happ'
    have q0 := app_get (g := [O.row 0 [V.i .i64 p.1, sl p.2.1 p.2.2]]) s0
    clear s0' s0 hs0
    generalize σ ++ [O.row 0 [V.i .i64 p.1, sl p.2.1 p.2.2]] = U at *
    generalize σ.length = L at *
    obtain ⟨hq0, q0'⟩ := List.getElem?_eq_some_iff.1 q0
    obtain ⟨hqL, qL'⟩ := List.getElem?_eq_some_iff.1 hlast
    refine ab_seq_k fun K11 h11 => ?_
    simp
    refine h11 _ _ _ ?_
    clear h11 K11
    refine ab_seq_k fun K12 h12 => ?_
    refine ab_seq_k fun K13 h13 => ?_
    simp
    refine h13 _ _ _ ?_
    clear h13 K13
    refine ab_block_k fun K14 h14 => ?_
    refine ab_loop_k (fun m env σ => ∃ n : Nat, n + m = p.2.1.length ∧ env = [(1, sl l fl), (2, .p 0 0 0), (5, .i .i64 i), (6, .p L 0 0), (7, .i .i64 (cntIn l (p.2.1.take n))), (8, .i .i64 n)] ∧ σ = U) p.2.1.length ⟨0, by omega, by simp [cntIn], rfl⟩ ?_
    rintro m2 env σ2 ⟨n, hn, rfl, rfl⟩ K15 h15
    rw [ic85_0]
    refine ab_seq_k fun K16 h16 => ?_
    refine ab_seq_k fun K17 h17 => ?_
    simp [hlast, qL']
    refine h17 _ _ _ ?_
    clear h17 K17
    refine ab_cond_of rfl (fun hc2 => ?_) (fun hc2 => ?_)
    · have hnl : n < p.2.1.length := by simpa using hc2
      obtain ⟨d1, d2, dm⟩ := getD_get hnl
      have hcs := cntIn_snoc (l := l) d1
      have hcl := List.countP_le_length (p := fun x => decide (x ∈ l)) (l := p.2.1.take n)
      rw [List.length_take] at hcl
      generalize p.2.1.getD n 0 = y at *
      simp
      refine h16 _ _ _ ?_
      clear h16 K16
      refine ab_seq_k fun K18 h18 => ?_
      refine ab_block_k fun K19 h19 => ?_
      refine ab_seq_k fun K20 h20 => ?_
      simp [hlast, qL', hnl, d1, d2]
      refine callK_of (has53 (by omega)) ?_
      simp
      refine h20 _ _ _ ?_
      have hcq : p.2.1.countP (fun _ => true) = p.2.1.length := by simp
      have hcu : cntIn l (p.2.1.take n) ≤ p.2.1.length := by unfold cntIn; omega
      generalize hq : cntIn l (p.2.1.take n) = q at *
      by_cases hy : y ∈ l
      · rw [if_pos hy] at hcs
        refine ab_cond_of rfl (fun _ => ?_) (fun h => by simp [hy] at h)
        simp [wrap64 (x := (q : Int) + 1) (by omega) (by omega)]
        refine h19 _ _ _ (h18 _ _ _ ?_)
        simp [wrap64 (x := (n : Int) + 1) (by omega) (by omega)]
        exact h15 _ _ _ (again (m2 - 1) (by omega) ⟨n + 1, by omega, by simp [hcs], rfl⟩)
      · rw [if_neg hy, Nat.add_zero] at hcs
        refine ab_cond_of rfl (fun h => by simp [hy] at h) (fun _ => ?_)
        simp
        refine h19 _ _ _ (h18 _ _ _ ?_)
        simp [wrap64 (x := (n : Int) + 1) (by omega) (by omega)]
        exact h15 _ _ _ (again (m2 - 1) (by omega) ⟨n + 1, by omega, by simp [hcs], rfl⟩)
    · have hnl : p.2.1.length ≤ n := by simp at hc2; omega
      rw [List.take_of_length_le hnl]
      simp
      refine h14 _ _ _ (h12 _ _ _ ?_)
      clear h14 h12 h15 h16
      have hcu : cntIn l p.2.1 ≤ p.2.1.length := by unfold cntIn; exact List.countP_le_length
      generalize cntIn l p.2.1 = q at *
      refine ab_seq_k fun K30 h30 => ?_
      have hK30 : ∀ env c, get env 1 = sl l fl → get env 2 = .p 0 0 0 → get env 5 = .i .i64 i → get env 57 = .b c → c = badR J l xn → K30 (some 0) env σ2 := by
        intro env c w1 w2 w5 w57 hcv
        refine h30 _ _ _ ?_
        clear h30
        rw [← hcv] at hd
        cases c with
        | true =>
          refine ab_cond_of w57 (fun _ => ?_) (fun h => by cases h)
          refine ab_seq_k fun K31 h31 => ?_
          simp
          refine h31 _ _ _ ?_
          clear h31 K31
          simp
          refine fin_of 1 ?_
          have : lockR J l = false := by unfold lockR; rw [hd]; simp
          simp [rs85, this]
        | false =>
          refine ab_cond_of w57 (fun h => by cases h) (fun _ => ?_)
          simp [w1, w2, w5]
          refine h9 _ _ _ (h8 _ _ _ ?_)
          simp [w1, w2, w5, wrap64 (x := (i : Int) + 1) (by omega) (by omega)]
          exact h5 _ _ _ (again (m - 1) (by omega) ⟨i + 1, by omega, by simpa using hd, by simp, q0⟩)
      clear h30
      rcases hpk with h0 | h1
      · rw [h0] at hlast qL' hbad
        by_cases hq0 : q = 0
        · simp [hlast, qL', hq0]
          exact hK30 _ _ rfl rfl rfl rfl (by rw [hbad, hq0]; rfl)
        · simp [hlast, qL', hq0]
          exact hK30 _ _ rfl rfl rfl rfl (by rw [hbad]; simp [hq0])
      · rw [h1] at hlast qL' hbad
        simp [hlast, qL']
        refine hK30 _ _ rfl rfl rfl rfl ?_
        rw [hbad]
        simp
        try omega
  · have hil : l.length ≤ i := by simp at hc1; omega
    rw [List.drop_of_length_le hil, List.any_nil] at hd
    simp
    refine h4 _ _ _ (h2 _ _ _ ?_)
    refine ab_seq_k fun K40 h40 => ?_
    simp
    refine h40 _ _ _ ?_
    clear h40 K40
    simp
    refine fin_of 1 ?_
    have : lockR J l = decide (l ≠ []) := by unfold lockR; rw [hd]; simp
    by_cases hl0 : l = []
    · have hlr : lockR J ([] : List Int) = false := by simp [lockR]
      simp [rs85, hl0, hlr]
    · have : 0 < l.length := Nat.pos_of_ne_zero fun h => hl0 (List.length_eq_zero_iff.1 h)
      simp [rs85, *]
def lockE (J : List Lg) (k : List Int) : Int := if checkJ J ≠ 0 then checkJ J else if isL J.length k = false then 2 else if lockB J (setB k) = false then 21 else 0
theorem check38 {J : List Lg} {f fk : Bool} {k : List Int} {σ : List O} (hJ : J.length ≤ 1000000) (hl : ∀ x ∈ J, x.2.1.length ≤ 1000000) (hk : k.length ≤ 1000000) : FSpec Tryz.prog 38 [jamV J f, sl k fk] σ (.i .i64 (lockE J k)) σ := by
  refine FSpec.frame (σ := σ) ?_ (by simp) rfl
  refine fn38.spec0 mixed noIt_ok ?_
  rw [ic38]
  refine ab_seq_k fun K1 h1 => ?_
  simp
  refine h1 _ _ _ ?_
  clear h1 K1
  refine ab_seq_k fun K2 h2 => ?_
  simp
  refine callK_of (open62 hJ hl hk) ?_
  unfold openV
  by_cases hc : checkJ J = 0
  · rw [if_neg (fun h => h hc)]
    have hJO := check_ok hl hc
    cases hi : isL J.length k with
    | false =>
      rw [if_pos rfl]
      simp
      refine h2 _ _ _ ?_
      clear h2 K2
      refine ab_seq_k fun K3 h3 => ?_
      refine ab_block_k fun K4 h4 => ?_
      refine ab_seq_k fun K5 h5 => ?_
      simp
      refine h5 _ _ _ ?_
      clear h5 K5
      refine ab_cond_of rfl (fun _ => ?_) (fun h => by cases h)
      refine ab_seq_k fun K6 h6 => ?_
      simp
      refine h6 _ _ _ ?_
      clear h6 K6
      simp
      refine fin_of 1 ?_
      simp [rs38, lockE, hc, hi]
    | true =>
      rw [if_neg (by simp)]
      obtain ⟨hs, hm⟩ := isL_set hJO hi
      have hset := fun σ => FSpec.frame (σ := σ) (setOf64 (l := k) (f := fk) hm hk) (by simp) rfl
      have hlk := fun σ => isLock89 (f := f) (σ := σ) hJO (setB_N hi)
      simp
      refine h2 _ _ _ ?_
      clear h2 K2
      refine ab_seq_k fun K3 h3 => ?_
      refine ab_block_k fun K4 h4 => ?_
      refine ab_seq_k fun K5 h5 => ?_
      simp
      refine h5 _ _ _ ?_
      clear h5 K5
      refine ab_cond_of rfl (fun h => by cases h) (fun _ => ?_)
      refine ab_seq_k fun K7 h7 => ?_
      simp
      refine callK_of (hset _) ?_
      simp
      refine callK_of (hlk _) ?_
      simp
      refine h7 _ _ _ ?_
      clear h7 K7
      cases hb : lockB J (setB k) with
      | true =>
        refine ab_cond_of rfl (fun h => by cases h) (fun _ => ?_)
        simp
        refine h4 _ _ _ (h3 _ _ _ ?_)
        refine ab_seq_k fun K8 h8 => ?_
        simp
        refine h8 _ _ _ ?_
        clear h8 K8
        simp
        refine fin_of 1 ?_
        simp [rs38, lockE, hc, hi, hb]
      | false =>
        refine ab_cond_of rfl (fun _ => ?_) (fun h => by cases h)
        refine ab_seq_k fun K9 h9 => ?_
        simp
        refine h9 _ _ _ ?_
        clear h9 K9
        simp
        refine fin_of 1 ?_
        simp [rs38, lockE, hc, hi, hb]
  · rw [if_pos hc]
    simp
    refine h2 _ _ _ ?_
    clear h2 K2
    refine ab_seq_k fun K3 h3 => ?_
    refine ab_block_k fun K4 h4 => ?_
    refine ab_seq_k fun K5 h5 => ?_
    simp
    refine h5 _ _ _ ?_
    clear h5 K5
    refine ab_cond_of rfl (fun _ => ?_) (fun h => by simp [hc] at h)
    refine ab_seq_k fun K6 h6 => ?_
    simp
    refine h6 _ _ _ ?_
    clear h6 K6
    simp
    refine fin_of 1 ?_
    simp [rs38, lockE, hc]
theorem check39 {J : List Lg} {f fk : Bool} {k : List Int} {σ : List O} (hJ : J.length ≤ 1000000) (hl : ∀ x ∈ J, x.2.1.length ≤ 1000000) (hk : k.length ≤ 1000000) : FSpec Tryz.prog 39 [jamV J f, sl k fk] σ (.i .i64 (lockE J k)) σ := by
  refine FSpec.frame (σ := σ) ?_ (by simp) rfl
  have h65 := fun σ => refList65 (J := J) (f := f) (fl := fk) (l := k) (σ := σ) hJ (fun x hx => by have := hl x hx; omega) (by omega)
  have hcs := list_cases (k := k) hl
  have hv : lockE J k = if listE J k ≠ 0 then listE J k else if lockB J (setB k) = false then 21 else 0 := by
    unfold lockE listE
    by_cases hc : checkJ J = 0
    · cases hi : isL J.length k <;> simp [hc]
    · simp [hc]
  rw [hv]
  refine fn39.spec0 mixed noIt_ok ?_
  rw [ic39]
  refine ab_seq_k fun K1 h1 => ?_
  simp
  refine h1 _ _ _ ?_
  clear h1 K1
  refine ab_seq_k fun K2 h2 => ?_
  refine ab_seq_k fun K3 h3 => ?_
  simp
  refine callK_of (h65 _) ?_
  simp
  refine h3 _ _ _ ?_
  clear h3 K3
  rcases hcs with ⟨he, -⟩ | ⟨he, hc, hi, hJO⟩
  · refine ab_cond_of rfl (fun _ => ?_) (fun h => by simp at h; omega)
    refine ab_seq_k fun K4 h4 => ?_
    simp
    refine callK_of (h65 _) ?_
    simp
    refine h4 _ _ _ ?_
    clear h4 K4
    simp
    refine fin_of 1 ?_
    simp [rs39, he]
  · refine ab_cond_of rfl (fun h => by simp [he] at h) (fun _ => ?_)
    simp
    refine h2 _ _ _ ?_
    clear h2 K2
    have hm := isLF_mem hi
    have h85 := fun σ => refIsLock85 (f := f) (fl := fk) (l := k) (σ := σ) hJO (check_parts hc) hm hk
    rw [lockR_eq hJO (check_parts hc) hi] at h85
    refine ab_seq_k fun K5 h5 => ?_
    refine ab_seq_k fun K6 h6 => ?_
    simp
    refine callK_of (h85 _) ?_
    simp
    refine h6 _ _ _ ?_
    clear h6 K6
    cases hb : lockB J (setB k) with
    | true =>
      refine ab_cond_of rfl (fun h => by cases h) (fun _ => ?_)
      simp
      refine h5 _ _ _ ?_
      refine ab_seq_k fun K7 h7 => ?_
      simp
      refine h7 _ _ _ ?_
      clear h7 K7
      simp
      refine fin_of 1 ?_
      simp [rs39, he, hb]
    | false =>
      refine ab_cond_of rfl (fun _ => ?_) (fun h => by cases h)
      refine ab_seq_k fun K8 h8 => ?_
      simp
      refine h8 _ _ _ ?_
      clear h8 K8
      simp
      refine fin_of 1 ?_
      simp [rs39, he, hb]
end Go.Ab
