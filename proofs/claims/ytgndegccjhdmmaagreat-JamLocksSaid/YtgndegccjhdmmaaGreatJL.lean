/- The reference: lists, which jams are valid; opening a jam. -/
import Derived.Test.YtgndegccjhdmmaaGreatJJ
set_option linter.unusedVariables false
set_option linter.unusedSimpArgs false
set_option maxHeartbeats 4000000
set_option maxRecDepth 100000
namespace Go.Ab
open Go Go.Proofs

theorem has53 {l : List Int} {f : Bool} {n : Int} {σ : List O} (hl : (l.length : Int) < 1000000000) : FSpec Tryz.prog 53 [sl l f, .i .i64 n] σ (.b (decide (n ∈ l))) σ := by
  refine FSpec.frame (σ := σ) ?_ (by simp) rfl
  refine fn53.spec0 mixed noIt_ok ?_
  rw [ic53]
  refine ab_seq_k fun K1 h1 => ?_
  simp
  refine h1 _ _ _ ?_
  clear h1 K1
  refine ab_seq_k fun K2 h2 => ?_
  refine ab_seq_k fun K3 h3 => ?_
  simp
  refine h3 _ _ _ ?_
  clear h3 K3
  refine ab_block_k fun K4 h4 => ?_
  refine ab_loop_k (fun m env σ => ∃ i : Nat, i + m = l.length ∧ (n ∈ l ↔ n ∈ l.drop i) ∧ env = [(0, sl l f), (1, .i .i64 n), (5, .i .i64 i)] ∧ σ = []) l.length ⟨0, by omega, by simp, by simp, rfl⟩ ?_
  rintro m env σ ⟨i, hi, hd, rfl, rfl⟩ K5 h5
  rw [ic53_0]
  refine ab_seq_k fun K6 h6 => ?_
  refine ab_seq_k fun K7 h7 => ?_
  simp
  refine h7 _ _ _ ?_
  clear h7 K7
  refine ab_cond_of rfl (fun hc => ?_) (fun hc => ?_)
  · have hil : i < l.length := by simpa using hc
    obtain ⟨e1, e2, hm⟩ := getD_get hil
    rw [List.drop_eq_getElem_cons hil, e2] at hd
    generalize l.getD i 0 = x at *
    simp
    refine h6 _ _ _ ?_
    clear h6 K6
    refine ab_seq_k fun K8 h8 => ?_
    refine ab_block_k fun K9 h9 => ?_
    refine ab_seq_k fun K10 h10 => ?_
    simp [hil, e2]
    refine h10 _ _ _ ?_
    clear h10 K10
    by_cases hx : x = n
    · refine ab_cond_of rfl (fun _ => ?_) (fun h => by simp [hx] at h)
      refine ab_seq_k fun K11 h11 => ?_
      simp
      refine h11 _ _ _ ?_
      clear h11 K11
      simp
      refine fin_of 1 ?_
      simp [rs53, ← hx, hm]
    · refine ab_cond_of rfl (fun h => by simp [hx] at h) (fun _ => ?_)
      simp
      refine h9 _ _ _ (h8 _ _ _ ?_)
      simp [wrap64 (x := (i : Int) + 1) (by omega) (by omega)]
      refine h5 _ _ _ (again (m - 1) (by omega) ⟨i + 1, by omega, ?_, by simp, rfl⟩)
      rw [hd, List.mem_cons]
      exact ⟨fun h => h.resolve_left (fun e => hx e.symm), .inr⟩
  · have hil : l.length ≤ i := by simp at hc; omega
    rw [List.drop_of_length_le hil] at hd
    simp
    refine h4 _ _ _ (h2 _ _ _ ?_)
    refine ab_seq_k fun K12 h12 => ?_
    simp
    refine h12 _ _ _ ?_
    clear h12 K12
    simp
    refine fin_of 1 ?_
    have : n ∉ l := fun h => by have := hd.1 h; cases this
    simp [rs53, this]

theorem refIsList57 {l : List Int} {f : Bool} {N : Int} {σ : List O} (hN : 0 ≤ N ∧ N ≤ 1000000) (hl : (l.length : Int) < 1000000000) : FSpec Tryz.prog 57 [sl l f, .i .i64 N] σ (.b (isL N l)) σ := by
  refine FSpec.frame (σ := σ) ?_ (by simp) rfl
  refine fn57.spec0 mixed noIt_ok ?_
  rw [ic57]
  refine ab_seq_k fun K1 h1 => ?_
  simp
  refine h1 _ _ _ ?_
  clear h1 K1
  refine ab_seq_k fun K2 h2 => ?_
  refine ab_seq_k fun K3 h3 => ?_
  simp
  refine h3 _ _ _ ?_
  clear h3 K3
  refine ab_block_k fun K4 h4 => ?_
  refine ab_loop_k (fun m env σ => ∃ (i : Nat) (nx : Int), i + m = l.length ∧ isL N l = isLF N nx (l.drop i) ∧ 0 ≤ nx ∧ (nx = if i = 0 then 0 else l.getD (i - 1) 0 + 1) ∧ env = [(0, sl l f), (1, .i .i64 N), (5, .i .i64 i)] ∧ σ = []) l.length ⟨0, 0, by omega, rfl, by omega, rfl, by simp, rfl⟩ ?_
  rintro m env σ ⟨i, nx, hi, hd, hn0, hnx, rfl, rfl⟩ K5 h5
  rw [ic57_0]
  refine ab_seq_k fun K6 h6 => ?_
  refine ab_seq_k fun K7 h7 => ?_
  simp
  refine h7 _ _ _ ?_
  clear h7 K7
  refine ab_cond_of rfl (fun hc => ?_) (fun hc => ?_)
  · have hil : i < l.length := by simpa using hc
    obtain ⟨e1, e2, hm⟩ := getD_get hil
    rw [List.drop_eq_getElem_cons hil, e2] at hd
    have hgx : l.getD (i + 1 - 1) 0 = l.getD i 0 := by rw [Nat.add_sub_cancel]
    generalize l.getD i 0 = x at *
    simp only [isLF] at hd
    simp
    refine h6 _ _ _ ?_
    clear h6 K6
    refine ab_seq_k fun K8 h8 => ?_
    refine ab_block_k fun K9 h9 => ?_
    refine ab_seq_k fun K10 h10 => ?_
    have hbad : ∀ env, get env 40 = .b (!fit nx (N - 1) x) → get env 0 = sl l f → get env 1 = .i .i64 N → get env 5 = .i .i64 i → K10 (some 0) env [] := by
      intro env w40 w0 w1 w5
      refine h10 _ _ _ ?_
      clear h10 K10
      cases hf : fit nx (N - 1) x with
      | false =>
        rw [hf] at hd w40
        refine ab_cond_of w40 (fun _ => ?_) (fun h => by cases h)
        refine ab_seq_k fun K11 h11 => ?_
        simp
        refine h11 _ _ _ ?_
        clear h11 K11
        simp
        refine fin_of 1 ?_
        simp [rs57, hd]
      | true =>
        rw [hf] at hd w40
        refine ab_cond_of w40 (fun h => by cases h) (fun _ => ?_)
        simp only [fit, Bool.and_eq_true, decide_eq_true_eq] at hf
        simp [w0, w1, w5]
        refine h9 _ _ _ (h8 _ _ _ ?_)
        simp [w0, w1, w5, wrap64 (x := (i : Int) + 1) (by omega) (by omega)]
        exact h5 _ _ _ (again (m - 1) (by omega) ⟨i + 1, x + 1, by omega, by simpa using hd, by omega, by rw [if_neg (by omega), hgx], by simp, rfl⟩)
    clear h8 h9 h5 h10
    by_cases c1 : x < 0
    · have hf : fit nx (N - 1) x = false := by simp [fit]; omega
      rw [hf] at hbad
      simp [abDs_consU, drU, recheck_cons, recheck_nil, rcK, IS.dst, hil, e2, c1]
      exact hbad _ rfl rfl rfl rfl
    · by_cases c2 : N ≤ x
      · have hf : fit nx (N - 1) x = false := by simp [fit]; omega
        rw [hf] at hbad
        simp [abDs_consU, drU, recheck_cons, recheck_nil, rcK, IS.dst, hil, e2, c1, c2]
        exact hbad _ rfl rfl rfl rfl
      · by_cases c3 : i = 0
        · have hf : fit nx (N - 1) x = true := by simp [fit]; rw [if_pos c3] at hnx; omega
          rw [hf] at hbad
          subst c3
          simp [abDs_consU, drU, recheck_cons, recheck_nil, rcK, IS.dst, hil, e2, c1, c2]
          exact hbad _ rfl rfl rfl rfl
        · have hil2 : i - 1 < l.length := by omega
          obtain ⟨f1, f2, -⟩ := getD_get hil2
          rw [if_neg c3] at hnx
          generalize l.getD (i - 1) 0 = y at *
          have hi0 : 0 < i := by omega
          have hwi := wrap64 (x := (i : Int) - 1) (by omega) (by omega)
          have hci : (i : Int) - 1 = ((i - 1 : Nat) : Int) := by omega
          rw [hci] at hwi
          have hf : fit nx (N - 1) x = !decide (x ≤ y) := by
            unfold fit
            by_cases h : x ≤ y
            · simp [h]; omega
            · simp [h]; omega
          rw [hf] at hbad
          by_cases c4 : x ≤ y <;> simp [c4] at hbad <;>
            (simp [abDs_consU, drU, recheck_cons, recheck_nil, rcK, IS.dst, hil, e2, c1, c2, hi0, hci, hwi, hil2, f2, c4]
             exact hbad _ rfl rfl rfl rfl)
  · have hil : l.length ≤ i := by simp at hc; omega
    rw [List.drop_of_length_le hil] at hd
    simp
    refine h4 _ _ _ (h2 _ _ _ ?_)
    refine ab_seq_k fun K12 h12 => ?_
    simp
    refine h12 _ _ _ ?_
    clear h12 K12
    simp
    refine fin_of 1 ?_
    simp [rs57, hd, isLF]
theorem any_drop {α : Type} {p : α → Bool} {l : List α} {i : Nat} {x : α} (h : l[i]? = some x) : (l.drop i).any p = (p x || (l.drop (i + 1)).any p) := by
  have hlt := (List.getElem?_eq_some_iff.1 h).1
  rw [List.drop_eq_getElem_cons hlt]
  obtain ⟨h1, h2⟩ := List.getElem?_eq_some_iff.1 h
  rw [h2]; rfl
theorem lg_at {J : List Lg} {i : Nat} (h : i < J.length) : ∃ p, J[i]? = some p ∧ p ∈ J ∧ i * 2 + 2 ≤ J.length * 2 ∧ (lgV J)[i * 2]? = some (.i .i64 p.1) ∧ (lgV J)[i * 2 + 1]? = some (sl p.2.1 p.2.2) := by
  have e := List.getElem?_eq_getElem h
  obtain ⟨-, e2, e3⟩ := lgV_get e
  exact ⟨J[i], e, List.getElem_mem h, by omega, e2, e3⟩

theorem refCheck24 {J : List Lg} {f : Bool} {σ : List O} (hJ : J.length ≤ 1000000) (hl : ∀ x ∈ J, (x.2.1.length : Int) < 1000000000) : FSpec Tryz.prog 24 [jamV J f] σ (.i .i64 (checkJ J)) σ := by
  refine FSpec.frame (σ := σ) ?_ (by simp) rfl
  refine fn24.spec0 mixed noIt_ok ?_
  rw [ic24]
  refine ab_seq_k fun K1 h1 => ?_
  simp
  refine h1 _ _ _ ?_
  clear h1 K1
  refine ab_seq_k fun K2 h2 => ?_
  refine ab_seq_k fun K3 h3 => ?_
  have hK3 : ∀ env c, get env 14 = .b c → get env 1 = .p 0 0 0 → c = decide (J.length < 1 ∨ 12 < J.length) → K3 (some 0) env [.row 0 [slJ J f]] := by
    intro env c w w1 hc
    refine h3 _ _ _ ?_
    clear h3 K3
    refine ab_cond_of w (fun hb => ?_) (fun hb => ?_)
    · rw [hc] at hb
      have hb := of_decide_eq_true hb
      refine ab_seq_k fun K4 h4 => ?_
      simp
      refine h4 _ _ _ ?_
      clear h4 K4
      simp
      refine fin_of 1 ?_
      have hv : checkJ J = 6 := by unfold checkJ; rw [if_pos hb]
      simp [rs24, hv]
    · rw [hc] at hb
      have hb := of_decide_eq_false hb
      simp [w1]
      refine h2 _ _ _ ?_
      clear h2 K2
      refine ab_seq_k fun K5 h5 => ?_
      refine ab_seq_k fun K6 h6 => ?_
      simp [w1]
      refine h6 _ _ _ ?_
      clear h6 K6
      refine ab_block_k fun K7 h7 => ?_
      refine ab_loop_k (fun m env σ => ∃ i : Nat, i + m = J.length ∧ (J.any fun l => !fit 0 1 l.1) = ((J.drop i).any fun l => !fit 0 1 l.1) ∧ env = [(1, .p 0 0 0), (3, .i .i64 i)] ∧ σ = [.row 0 [slJ J f]]) J.length ⟨0, by omega, by simp, by simp, rfl⟩ ?_
      rintro m env σ ⟨i, hi, hd, rfl, rfl⟩ K8 h8
      rw [ic24_0]
      refine ab_seq_k fun K9 h9 => ?_
      refine ab_seq_k fun K10 h10 => ?_
      simp
      refine h10 _ _ _ ?_
      clear h10 K10
      refine ab_cond_of rfl (fun hc => ?_) (fun hc => ?_)
      · have hil : i < J.length := by simpa using hc
        obtain ⟨p, hp, hpm, hle, g1, -⟩ := lg_at hil
        obtain ⟨hg1, g1'⟩ := List.getElem?_eq_some_iff.1 g1
        rw [any_drop hp] at hd
        simp
        refine h9 _ _ _ ?_
        clear h9 K9
        refine ab_seq_k fun K11 h11 => ?_
        refine ab_block_k fun K12 h12 => ?_
        refine ab_seq_k fun K13 h13 => ?_
        have hK13 : ∀ env, get env 37 = .b (!fit 0 1 p.1) → get env 1 = .p 0 0 0 → get env 3 = .i .i64 i → K13 (some 0) env [.row 0 [slJ J f]] := by
          intro env w w1 w3
          refine h13 _ _ _ ?_
          clear h13 K13
          cases hf : fit 0 1 p.1 with
          | false =>
            rw [hf] at w hd
            refine ab_cond_of w (fun _ => ?_) (fun h => by cases h)
            refine ab_seq_k fun K14 h14 => ?_
            simp
            refine h14 _ _ _ ?_
            clear h14 K14
            simp
            refine fin_of 1 ?_
            have hv : checkJ J = 3 := by unfold checkJ; rw [if_neg hb, hd]; rfl
            simp [rs24, hv]
          | true =>
            rw [hf] at w hd
            refine ab_cond_of w (fun h => by cases h) (fun _ => ?_)
            simp [w1, w3]
            refine h12 _ _ _ (h11 _ _ _ ?_)
            simp [w1, w3, wrap64 (x := (i : Int) + 1) (by omega) (by omega)]
            exact h8 _ _ _ (again (m - 1) (by omega) ⟨i + 1, by omega, by simpa using hd, by simp, rfl⟩)
        by_cases c0 : p.1 = 0
        · have hf : fit 0 1 p.1 = true := by rw [c0]; rfl
          rw [hf] at hK13
          rw [c0] at g1 g1'
          simp [hil, hle, g1, g1']
          exact hK13 _ rfl rfl rfl
        · by_cases c1 : p.1 = 1
          · have hf : fit 0 1 p.1 = true := by rw [c1]; rfl
            rw [hf] at hK13
            rw [c1] at g1 g1'
            simp [hil, hle, g1, g1']
            exact hK13 _ rfl rfl rfl
          · have hf : fit 0 1 p.1 = false := by simp [fit]; omega
            rw [hf] at hK13
            simp [hil, hle, g1, g1', c0, c1]
            exact hK13 _ rfl rfl rfl
      · have hil : J.length ≤ i := by simp at hc; omega
        rw [List.drop_of_length_le hil, List.any_nil] at hd
        simp
        refine h7 _ _ _ (h5 _ _ _ ?_)
        clear h5 h7 h8 h9
        refine ab_seq_k fun K20 h20 => ?_
        refine ab_seq_k fun K21 h21 => ?_
        simp
        refine h21 _ _ _ ?_
        clear h21 K21
        refine ab_block_k fun K22 h22 => ?_
        refine ab_loop_k (fun m env σ => ∃ i : Nat, i + m = J.length ∧ (J.any fun l => !isL J.length l.2.1) = ((J.drop i).any fun l => !isL J.length l.2.1) ∧ env = [(1, .p 0 0 0), (4, .i .i64 i)] ∧ σ = [.row 0 [slJ J f]]) J.length ⟨0, by omega, by simp, by simp, rfl⟩ ?_
        rintro m env σ ⟨i, hi, hd2, rfl, rfl⟩ K23 h23
        rw [ic24_1]
        refine ab_seq_k fun K24 h24 => ?_
        refine ab_seq_k fun K25 h25 => ?_
        simp
        refine h25 _ _ _ ?_
        clear h25 K25
        refine ab_cond_of rfl (fun hc => ?_) (fun hc => ?_)
        · have hil : i < J.length := by simpa using hc
          obtain ⟨p, hp, hpm, hle, -, g2⟩ := lg_at hil
          obtain ⟨hg2, g2'⟩ := List.getElem?_eq_some_iff.1 g2
          rw [any_drop hp] at hd2
          simp
          refine h24 _ _ _ ?_
          clear h24 K24
          refine ab_seq_k fun K26 h26 => ?_
          refine ab_block_k fun K27 h27 => ?_
          refine ab_seq_k fun K28 h28 => ?_
          simp [abDs_consU, drU, recheck_cons, recheck_nil, rcK, IS.dst, hil, hle, g2, g2']
          refine callK_of (refIsList57 (by omega) (hl p hpm)) ?_
          simp [abDs_consU, drU, recheck_cons, recheck_nil, rcK, IS.dst]
          refine h28 _ _ _ ?_
          clear h28 K28
          cases hf : isL J.length p.2.1 with
          | false =>
            rw [hf] at hd2
            refine ab_cond_of rfl (fun _ => ?_) (fun h => by cases h)
            refine ab_seq_k fun K29 h29 => ?_
            simp
            refine h29 _ _ _ ?_
            clear h29 K29
            simp
            refine fin_of 1 ?_
            have hv : checkJ J = 2 := by unfold checkJ; rw [if_neg hb, hd, hd2]; rfl
            simp [rs24, hv]
          | true =>
            rw [hf] at hd2
            refine ab_cond_of rfl (fun h => by cases h) (fun _ => ?_)
            simp
            refine h27 _ _ _ (h26 _ _ _ ?_)
            simp [wrap64 (x := (i : Int) + 1) (by omega) (by omega)]
            exact h23 _ _ _ (again (m - 1) (by omega) ⟨i + 1, by omega, by simpa using hd2, by simp, rfl⟩)
        · have hil : J.length ≤ i := by simp at hc; omega
          rw [List.drop_of_length_le hil, List.any_nil] at hd2
          simp
          refine h22 _ _ _ (h20 _ _ _ ?_)
          refine ab_seq_k fun K30 h30 => ?_
          simp
          refine h30 _ _ _ ?_
          clear h30 K30
          simp
          refine fin_of 1 ?_
          have hv : checkJ J = 0 := by unfold checkJ; rw [if_neg hb, hd, hd2]; rfl
          simp [rs24, hv]
  by_cases c1 : J.length < 1
  · have : J.length = 0 := by omega
    simp [c1, this]
    exact hK3 _ true rfl rfl (by simp [c1])
  · have h1 : ¬ J.length = 0 := by omega
    have h2 : ¬ (J.length : Int) < 1 := by omega
    simp [h2]
    refine hK3 _ _ rfl rfl ?_
    have h3 : J ≠ [] := by rintro rfl; exact h1 rfl
    by_cases h12 : 12 < J.length
    · have h4 : (12 : Int) < J.length := by omega
      simp [h12, h4]
    · have h4 : ¬ (12 : Int) < J.length := by omega
      simp [h12, h4, h3]
      try omega

def grB (J : List Lg) : Bool := decide (16 < J.length) || J.any fun l => decide (16 < l.2.1.length)
def fineB (J : List Lg) : Bool := !grB J && decide (checkJ J = 0)
theorem great17 {J : List Lg} {f : Bool} {σ : List O} : FSpec Tryz.prog 17 [jamV J f] σ (.b (grB J)) σ := by
  refine FSpec.frame (σ := σ) ?_ (by simp) rfl
  refine fn17.spec0 mixed noIt_ok ?_
  rw [ic17]
  refine ab_seq_k fun K1 h1 => ?_
  simp
  refine h1 _ _ _ ?_
  clear h1 K1
  refine ab_seq_k fun K2 h2 => ?_
  refine ab_seq_k fun K3 h3 => ?_
  simp
  refine h3 _ _ _ ?_
  clear h3 K3
  refine ab_cond_of rfl (fun hb => ?_) (fun hb => ?_)
  · refine ab_seq_k fun K4 h4 => ?_
    simp
    refine h4 _ _ _ ?_
    clear h4 K4
    simp
    refine fin_of 1 ?_
    have h : 16 < J.length := by have := of_decide_eq_true hb; omega
    simp [rs17, grB, h]
  · have hJ : J.length ≤ 16 := by have := of_decide_eq_false hb; omega
    simp
    refine h2 _ _ _ ?_
    clear h2 K2
    refine ab_seq_k fun K5 h5 => ?_
    refine ab_seq_k fun K6 h6 => ?_
    simp
    refine h6 _ _ _ ?_
    clear h6 K6
    refine ab_block_k fun K7 h7 => ?_
    refine ab_loop_k (fun m env σ => ∃ i : Nat, i + m = J.length ∧ (J.any fun l => decide (16 < l.2.1.length)) = ((J.drop i).any fun l => decide (16 < l.2.1.length)) ∧ env = [(1, .p 0 0 0), (3, .i .i64 i)] ∧ σ = [.row 0 [slJ J f]]) J.length ⟨0, by omega, by simp, by simp, rfl⟩ ?_
    rintro m env σ ⟨i, hi, hd, rfl, rfl⟩ K8 h8
    rw [ic17_0]
    refine ab_seq_k fun K9 h9 => ?_
    refine ab_seq_k fun K10 h10 => ?_
    simp
    refine h10 _ _ _ ?_
    clear h10 K10
    refine ab_cond_of rfl (fun hc => ?_) (fun hc => ?_)
    · have hil : i < J.length := by simpa using hc
      obtain ⟨p, hp, hpm, hle, -, g2⟩ := lg_at hil
      obtain ⟨hg2, g2'⟩ := List.getElem?_eq_some_iff.1 g2
      rw [any_drop hp] at hd
      simp
      refine h9 _ _ _ ?_
      clear h9 K9
      refine ab_seq_k fun K11 h11 => ?_
      refine ab_block_k fun K12 h12 => ?_
      refine ab_seq_k fun K13 h13 => ?_
      simp [hil, hle, g2, g2']
      refine h13 _ _ _ ?_
      clear h13 K13
      by_cases hg : 16 < p.2.1.length
      · refine ab_cond_of rfl (fun _ => ?_) (fun h => by simp at h; omega)
        refine ab_seq_k fun K14 h14 => ?_
        simp
        refine h14 _ _ _ ?_
        clear h14 K14
        simp
        refine fin_of 1 ?_
        simp [rs17, grB, hd, hg]
      · refine ab_cond_of rfl (fun h => by simp at h; omega) (fun _ => ?_)
        simp
        refine h12 _ _ _ (h11 _ _ _ ?_)
        simp [wrap64 (x := (i : Int) + 1) (by omega) (by omega)]
        exact h8 _ _ _ (again (m - 1) (by omega) ⟨i + 1, by omega, by simpa [hg] using hd, by simp, rfl⟩)
    · have hil : J.length ≤ i := by simp at hc; omega
      rw [List.drop_of_length_le hil, List.any_nil] at hd
      simp
      refine h7 _ _ _ (h5 _ _ _ ?_)
      refine ab_seq_k fun K15 h15 => ?_
      simp
      refine h15 _ _ _ ?_
      clear h15 K15
      simp
      refine fin_of 1 ?_
      simp [rs17, grB, hd]
      omega
theorem gr_small {J : List Lg} (h : grB J = false) : J.length ≤ 16 ∧ ∀ p ∈ J, p.2.1.length ≤ 16 := by
  unfold grB at h
  simp only [Bool.or_eq_false_iff, decide_eq_false_iff_not, List.any_eq_false, decide_eq_true_eq] at h
  exact ⟨by omega, fun p hp => by have := h.2 p hp; omega⟩
theorem fine47 {J : List Lg} {f : Bool} {σ : List O} : FSpec Tryz.prog 47 [jamV J f] σ (.b (fineB J)) σ := by
  refine FSpec.frame (σ := σ) ?_ (by simp) rfl
  refine fn47.spec0 mixed noIt_ok ?_
  rw [ic47]
  refine ab_seq_k fun K1 h1 => ?_
  simp
  refine h1 _ _ _ ?_
  clear h1 K1
  refine ab_seq_k fun K2 h2 => ?_
  simp
  refine callK_of great17 ?_
  cases hg : grB J with
  | true =>
    simp
    refine h2 _ _ _ ?_
    simp
    refine fin_of 1 ?_
    simp [rs47, fineB, hg]
  | false =>
    obtain ⟨hJ, hl⟩ := gr_small hg
    simp
    refine callK_of (refCheck24 (by omega) (fun x hx => by have := hl x hx; omega)) ?_
    simp
    refine h2 _ _ _ ?_
    simp
    refine fin_of 1 ?_
    simp [rs47, fineB, hg]
theorem fine_ok {J : List Lg} (h : fineB J = true) : JOK J ∧ checkJ J = 0 ∧ (∀ p ∈ J, isL J.length p.2.1 = true ∧ (p.1 = 0 ∨ p.1 = 1) ∧ p.2.1.length ≤ 16) := by
  unfold fineB at h
  simp only [Bool.and_eq_true, Bool.not_eq_true', decide_eq_true_eq] at h
  obtain ⟨h1, h2⟩ := h
  obtain ⟨h3, h4⟩ := gr_small h1
  have h2' := h2
  unfold checkJ at h2
  split at h2
  · cases h2
  · rename_i c1
    split at h2
    · cases h2
    · rename_i c2
      split at h2
      · cases h2
      · rename_i c3
        simp only [List.any_eq_true, not_exists, not_and, Bool.not_eq_true, Bool.not_eq_false', fit, Bool.and_eq_true, decide_eq_true_eq] at c2 c3
        refine ⟨⟨by omega, by omega, fun p hp => ⟨fun x hx => ?_, by have := h4 p hp; omega⟩⟩, h2', fun p hp => ⟨c3 p hp, by have := c2 p hp; omega, h4 p hp⟩⟩
        have := isLF_mem (c3 p hp) x hx
        omega

def openV (J : List Lg) (f : Bool) (l : List Int) : V := if checkJ J ≠ 0 then .tup [.np, .i .i64 (checkJ J)] else if isL J.length l = false then .tup [.np, .i .i64 2] else .tup [heapV J f, .i .i64 0]
theorem check_ok {J : List Lg} (hl : ∀ x ∈ J, x.2.1.length ≤ 1000000) (h : checkJ J = 0) : JOK J := by
  unfold checkJ at h
  split at h
  · cases h
  · rename_i c1
    split at h
    · cases h
    · rename_i c2
      split at h
      · cases h
      · rename_i c3
        simp only [List.any_eq_true, not_exists, not_and, Bool.not_eq_true, Bool.not_eq_false'] at c3
        refine ⟨by omega, by omega, fun p hp => ⟨fun x hx => ?_, hl p hp⟩⟩
        have := isLF_mem (c3 p hp) x hx
        omega
theorem openV_pure {J : List Lg} {f : Bool} {l : List Int} : (openV J f l).pure = true := by
  unfold openV
  split
  · rfl
  · split
    · rfl
    · simp
theorem open62 {J : List Lg} {f : Bool} {l : List Int} {fl : Bool} {σ : List O} (hJ : J.length ≤ 1000000) (hl : ∀ x ∈ J, x.2.1.length ≤ 1000000) (hk : l.length ≤ 1000000) : FSpec Tryz.prog 62 [jamV J f, sl l fl] σ (openV J f l) σ := by
  refine FSpec.frame (σ := σ) ?_ (by simp) openV_pure
  refine fn62.spec0 mixed noIt_ok ?_
  rw [ic62]
  refine ab_seq_k fun K1 h1 => ?_
  simp
  refine h1 _ _ _ ?_
  clear h1 K1
  refine ab_seq_k fun K2 h2 => ?_
  simp
  refine callK_of (check23 hJ (fun x hx => by have := hl x hx; omega)) ?_
  simp
  refine h2 _ _ _ ?_
  clear h2 K2
  refine ab_seq_k fun K3 h3 => ?_
  refine ab_block_k fun K4 h4 => ?_
  refine ab_seq_k fun K5 h5 => ?_
  simp
  refine h5 _ _ _ ?_
  clear h5 K5
  by_cases hc : checkJ J = 0
  · refine ab_cond_of rfl (fun h => by simp [hc] at h) (fun _ => ?_)
    refine ab_seq_k fun K6 h6 => ?_
    simp
    refine callK_of (isList73 hJ (by omega)) ?_
    simp
    refine h6 _ _ _ ?_
    clear h6 K6
    cases hi : isL J.length l with
    | false =>
      refine ab_cond_of rfl (fun _ => ?_) (fun h => by cases h)
      refine ab_seq_k fun K7 h7 => ?_
      simp
      refine h7 _ _ _ ?_
      clear h7 K7
      simp
      refine fin_of 3 ?_
      simp [rs62, openV, hc, hi]
    | true =>
      refine ab_cond_of rfl (fun h => by cases h) (fun _ => ?_)
      simp
      refine h4 _ _ _ (h3 _ _ _ ?_)
      have hn := fun σ => FSpec.frame (σ := σ) (newHeap96 (f := f) (check_ok hl hc) rfl) (by simp) (by simp)
      refine ab_seq_k fun K8 h8 => ?_
      simp
      refine callK_of (hn _) ?_
      simp
      refine h8 _ _ _ ?_
      simp
      refine fin_of 3 ?_
      simp [rs62, openV, hc, hi]
  · refine ab_cond_of rfl (fun _ => ?_) (fun h => by simp [hc] at h)
    refine ab_seq_k fun K9 h9 => ?_
    simp
    refine h9 _ _ _ ?_
    clear h9 K9
    simp
    refine fin_of 3 ?_
    simp [rs62, openV, hc]
end Go.Ab
