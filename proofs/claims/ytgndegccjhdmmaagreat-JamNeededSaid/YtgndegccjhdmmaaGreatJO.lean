/- Which waves are no later than others: plain; the walk of later. -/
import Derived.Test.YtgndegccjhdmmaaGreatJN
set_option linter.unusedVariables false
set_option linter.unusedSimpArgs false
set_option maxHeartbeats 4000000
set_option maxRecDepth 100000
namespace Go.Ab
open Go Go.Proofs

def laterB (a b : List Int) : Bool := decide (a.length = b.length) && (a.zip b).all fun p => !(decide (0 ≤ p.1) && (decide (p.2 < 0) || decide (p.1 < p.2)))
theorem gk_le {J1 J2 : List Lg} {B1 B2 : List Nat} (hl : J1.length = J2.length) (hfr : ∀ n, n < J1.length → ∀ g g' : Nat, (∀ j, g.testBit j = true → g'.testBit j = true) → frB J1 B1 n g = true → frB J2 B2 n g' = true) {s1 s2 : Nat} (hs : ∀ j, s1.testBit j = true → s2.testBit j = true) :
    ∀ r j, (gk J1 B1 s1 r).testBit j = true → (gk J2 B2 s2 r).testBit j = true
  | 0, j => hs j
  | r + 1, j => by
    have ih := gk_le hl hfr hs r
    rw [gk_step, gk_step, Bool.or_eq_true, Bool.or_eq_true]
    rintro (h | h)
    · exact .inl (ih j h)
    · rw [Bool.and_eq_true, decide_eq_true_eq] at h
      refine .inr ?_
      rw [Bool.and_eq_true, decide_eq_true_eq]
      exact ⟨by omega, hfr j h.1 _ _ ih h.2⟩
theorem later_of {J1 J2 : List Lg} {s1 s2 : Nat} (hl : J1.length = J2.length) (h : ∀ r j, (gk J1 (byB J1) s1 r).testBit j = true → (gk J2 (byB J2) s2 r).testBit j = true) : laterB (wavL J1 s1) (wavL J2 s2) = true := by
  unfold laterB
  rw [Bool.and_eq_true, decide_eq_true_eq, List.all_eq_true]
  refine ⟨by unfold wavL; rw [rowF_len, rowF_len, hl], fun p hp => ?_⟩
  obtain ⟨i, hi⟩ := List.mem_iff_getElem?.1 hp
  rw [List.getElem?_zip_eq_some] at hi
  obtain ⟨h1, h2⟩ := hi
  have hil : i < J1.length := by
    have := (List.getElem?_eq_some_iff.1 h1).1
    unfold wavL at this
    rwa [rowF_len] at this
  unfold wavL at h1 h2
  rw [rowF_get hil] at h1
  rw [rowF_get (by omega)] at h2
  have e1 := Option.some.inj h1
  have e2 := Option.some.inj h2
  rw [← e1, ← e2]
  by_cases h0 : 0 ≤ wr J1 (byB J1) s1 J1.length i
  · have h3 := (wave_in (J := J1) (B := byB J1) (s := s1) hil (wr J1 (byB J1) s1 J1.length i).toNat).1 (by omega)
    have h4 := (wave_in (J := J2) (B := byB J2) (s := s2) (by omega : i < J2.length) (wr J1 (byB J1) s1 J1.length i).toNat).2 (h _ _ h3)
    have h5 : ¬ wr J2 (byB J2) s2 J2.length i < 0 := by omega
    have h6 : ¬ wr J1 (byB J1) s1 J1.length i < wr J2 (byB J2) s2 J2.length i := by omega
    simp [h5, h6]
  · simp [h0]

theorem later52 {a b : List Int} {fa fb : Bool} {σ : List O} (ha : (a.length : Int) < 1000000000) : FSpec Tryz.prog 52 [sl a fa, sl b fb] σ (.b (laterB a b)) σ := by
  refine FSpec.frame (σ := σ) ?_ (by simp) rfl
  refine fn52.spec0 mixed noIt_ok ?_
  rw [ic52]
  refine ab_seq_k fun K1 h1 => ?_
  simp
  refine h1 _ _ _ ?_
  clear h1 K1
  refine ab_seq_k fun K2 h2 => ?_
  refine ab_seq_k fun K3 h3 => ?_
  simp
  refine h3 _ _ _ ?_
  clear h3 K3
  by_cases hl : a.length = b.length
  · refine ab_cond_of rfl (fun h => by simp [hl] at h) (fun _ => ?_)
    simp
    refine h2 _ _ _ ?_
    clear h2 K2
    refine ab_seq_k fun K4 h4 => ?_
    refine ab_seq_k fun K5 h5 => ?_
    simp
    refine h5 _ _ _ ?_
    clear h5 K5
    refine ab_block_k fun K6 h6 => ?_
    refine ab_loop_k (fun m env σ => ∃ i : Nat, i + m = a.length ∧ laterB a b = (((a.zip b).drop i).all fun p => !(decide (0 ≤ p.1) && (decide (p.2 < 0) || decide (p.1 < p.2)))) ∧ env = [(0, sl a fa), (1, sl b fb), (5, .i .i64 i)] ∧ σ = []) a.length ⟨0, by omega, by simp [laterB, hl], by simp, rfl⟩ ?_
    rintro m env σ ⟨i, hi, hd, rfl, rfl⟩ K7 h7
    rw [ic52_0]
    refine ab_seq_k fun K8 h8 => ?_
    refine ab_seq_k fun K9 h9 => ?_
    simp
    refine h9 _ _ _ ?_
    clear h9 K9
    refine ab_cond_of rfl (fun hc => ?_) (fun hc => ?_)
    · have hil : i < a.length := by simpa using hc
      have hib : i < b.length := by omega
      obtain ⟨a1, a2, -⟩ := getD_get hil
      obtain ⟨b1, b2, -⟩ := getD_get hib
      have hz : (a.zip b)[i]? = some (a.getD i 0, b.getD i 0) := by rw [List.getElem?_zip_eq_some]; exact ⟨a1, b1⟩
      have hdr : ((a.zip b).drop i) = (a.getD i 0, b.getD i 0) :: (a.zip b).drop (i + 1) := by
        obtain ⟨z1, z2⟩ := List.getElem?_eq_some_iff.1 hz
        rw [List.drop_eq_getElem_cons z1, z2]
      rw [hdr, List.all_cons] at hd
      generalize a.getD i 0 = x at *
      generalize b.getD i 0 = y at *
      simp
      refine h8 _ _ _ ?_
      clear h8 K8
      refine ab_seq_k fun K10 h10 => ?_
      refine ab_block_k fun K11 h11 => ?_
      refine ab_seq_k fun K12 h12 => ?_
      have hK12 : ∀ env c, get env 39 = .b c → get env 0 = sl a fa → get env 1 = sl b fb → get env 5 = .i .i64 i → c = (decide (0 ≤ x) && (decide (y < 0) || decide (x < y))) → K12 (some 0) env [] := by
        intro env c w w0 w1 w5 hc
        refine h12 _ _ _ ?_
        clear h12 K12
        rw [← hc] at hd
        cases c with
        | true =>
          refine ab_cond_of w (fun _ => ?_) (fun h => by cases h)
          refine ab_seq_k fun K13 h13 => ?_
          simp
          refine h13 _ _ _ ?_
          clear h13 K13
          simp
          refine fin_of 1 ?_
          simp [rs52, hd]
        | false =>
          refine ab_cond_of w (fun h => by cases h) (fun _ => ?_)
          simp [w0, w1, w5]
          refine h11 _ _ _ (h10 _ _ _ ?_)
          simp [w0, w1, w5, wrap64 (x := (i : Int) + 1) (by omega) (by omega)]
          exact h7 _ _ _ (again (m - 1) (by omega) ⟨i + 1, by omega, by simpa using hd, by simp, rfl⟩)
      clear h10 h11 h12 h7
      by_cases c1 : 0 ≤ x
      · by_cases c2 : y < 0
        · simp [abDs_consU, drU, recheck_cons, recheck_nil, rcK, IS.dst, hil, hib, a2, b2, c1, c2]
          exact hK12 _ _ rfl rfl rfl rfl (by simp [c1, c2])
        · simp [abDs_consU, drU, recheck_cons, recheck_nil, rcK, IS.dst, hil, hib, a2, b2, c1, c2]
          exact hK12 _ _ rfl rfl rfl rfl (by simp [c1, c2])
      · simp [abDs_consU, drU, recheck_cons, recheck_nil, rcK, IS.dst, hil, hib, a2, b2, c1]
        exact hK12 _ _ rfl rfl rfl rfl (by simp [c1])
    · have hil : a.length ≤ i := by simp at hc; omega
      rw [List.drop_of_length_le (by rw [List.length_zip]; omega), List.all_nil] at hd
      simp
      refine h6 _ _ _ (h4 _ _ _ ?_)
      refine ab_seq_k fun K14 h14 => ?_
      simp
      refine h14 _ _ _ ?_
      clear h14 K14
      simp
      refine fin_of 1 ?_
      simp [rs52, hd]
  · refine ab_cond_of rfl (fun _ => ?_) (fun h => by simp at h; omega)
    refine ab_seq_k fun K15 h15 => ?_
    simp
    refine h15 _ _ _ ?_
    clear h15 K15
    simp
    refine fin_of 1 ?_
    simp [rs52, laterB, hl]
end Go.Ab
