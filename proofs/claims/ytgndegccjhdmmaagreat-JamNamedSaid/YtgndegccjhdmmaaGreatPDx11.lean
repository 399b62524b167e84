import Derived.Test.YtgndegccjhdmmaaGreatPDx10
/- Part 11 of what the theorem in TC rests on: an abstract layer over the calculus, contracts of the functions of the program, and plain facts. -/
set_option linter.unusedVariables false
set_option linter.unusedSimpArgs false
set_option linter.constructorNameAsVariable false
set_option maxHeartbeats 4000000
set_option maxRecDepth 100000
section
namespace Go.Ab
open Go Go.Proofs
theorem refIsList57 {l : List Int} {f : Bool} {N : Int} {σ : List O} (hN : 0 ≤ N ∧ N ≤ 1000000) (hl : (l.length : Int) < 1000000000) : FSpec Tryz.prog 57 [sl l f, .i .i64 N] σ (.b (isL N l)) σ := by
 refine FSpec.frame (σ := σ) ?_ (by simp) rfl
 refine fn57.spec0 mixed noIt_ok ?_
 rw [ic57]
 refine ab_seq_k fun K1 h1 => ?_
 simp
 refine h1 _ _ _ ?_
 clear h1 K1
 refine ab_seq_k fun K2 h2 => ?_
 refine ab_seq_k fun K3 h3 => ?_
 simp
 refine h3 _ _ _ ?_
 clear h3 K3
 refine ab_block_k fun K4 h4 => ?_
 refine ab_loop_k (fun m env σ => ∃ (i : Nat) (nx : Int), i + m = l.length ∧ isL N l = isLF N nx (l.drop i) ∧ 0 ≤ nx ∧ (nx = if i = 0 then 0 else l.getD (i - 1) 0 + 1) ∧ env = [(0, sl l f), (1, .i .i64 N), (5, .i .i64 i)] ∧ σ = []) l.length ⟨0, 0, by omega, rfl, by omega, rfl, by simp, rfl⟩ ?_
 rintro m env σ ⟨i, nx, hi, hd, hn0, hnx, rfl, rfl⟩ K5 h5
 rw [ic57_0]
 refine ab_seq_k fun K6 h6 => ?_
 refine ab_seq_k fun K7 h7 => ?_
 simp
 refine h7 _ _ _ ?_
 clear h7 K7
 refine ab_cond_of rfl (fun hc => ?_) (fun hc => ?_)
 ·have hil : i < l.length := by simpa using hc
  obtain ⟨e1, e2, hm⟩ := getD_get hil
  rw [List.drop_eq_getElem_cons hil, e2] at hd
  have hgx : l.getD (i + 1 - 1) 0 = l.getD i 0 := by rw [Nat.add_sub_cancel]
  generalize l.getD i 0 = x at *
  simp only [isLF] at hd
  simp
  refine h6 _ _ _ ?_
  clear h6 K6
  refine ab_seq_k fun K8 h8 => ?_
  refine ab_block_k fun K9 h9 => ?_
  refine ab_seq_k fun K10 h10 => ?_
  have hbad : ∀ env, get env 40 = .b (!fit nx (N - 1) x) → get env 0 = sl l f → get env 1 = .i .i64 N → get env 5 = .i .i64 i → K10 (some 0) env [] := by
   intro env w40 w0 w1 w5
   refine h10 _ _ _ ?_
   clear h10 K10
   cases hf : fit nx (N - 1) x with
   | false =>
    rw [hf] at hd w40
    refine ab_cond_of w40 (fun _ => ?_) (fun h => by cases h)
    refine ab_seq_k fun K11 h11 => ?_
    simp
    refine h11 _ _ _ ?_
    clear h11 K11
    simp
    refine fin_of 1 ?_
    simp [rs57, hd]
   | true =>
    rw [hf] at hd w40
    refine ab_cond_of w40 (fun h => by cases h) (fun _ => ?_)
    simp only [fit, Bool.and_eq_true, decide_eq_true_eq] at hf
    simp [w0, w1, w5]
    refine h9 _ _ _ (h8 _ _ _ ?_)
    simp [w0, w1, w5, wrap64 (x := (i : Int) + 1) (by omega) (by omega)]
    exact h5 _ _ _ (again (m - 1) (by omega) ⟨i + 1, x + 1, by omega, by simpa using hd, by omega, by rw [if_neg (by omega), hgx], by simp, rfl⟩)
  clear h8 h9 h5 h10
  by_cases c1 : x < 0
  ·have hf : fit nx (N - 1) x = false := by simp [fit]; omega
   rw [hf] at hbad
   simp [abDs_consU, drU, recheck_cons, recheck_nil, rcK, IS.dst, hil, e2, c1]
   exact hbad _ rfl rfl rfl rfl
  ·by_cases c2 : N ≤ x
   ·have hf : fit nx (N - 1) x = false := by simp [fit]; omega
    rw [hf] at hbad
    simp [abDs_consU, drU, recheck_cons, recheck_nil, rcK, IS.dst, hil, e2, c1, c2]
    exact hbad _ rfl rfl rfl rfl
   ·by_cases c3 : i = 0
    ·have hf : fit nx (N - 1) x = true := by simp [fit]; rw [if_pos c3] at hnx; omega
     rw [hf] at hbad
     subst c3
     simp [abDs_consU, drU, recheck_cons, recheck_nil, rcK, IS.dst, hil, e2, c1, c2]
     exact hbad _ rfl rfl rfl rfl
    ·have hil2 : i - 1 < l.length := by omega
     obtain ⟨f1, f2, -⟩ := getD_get hil2
     rw [if_neg c3] at hnx
     generalize l.getD (i - 1) 0 = y at *
     have hi0 : 0 < i := by omega
     have hwi := wrap64 (x := (i : Int) - 1) (by omega) (by omega)
     have hci : (i : Int) - 1 = ((i - 1 : Nat) : Int) := by omega
     rw [hci] at hwi
     have hf : fit nx (N - 1) x = !decide (x ≤ y) := by
      unfold fit
      by_cases h : x ≤ y
      ·simp [h]; omega
      ·simp [h]; omega
     rw [hf] at hbad
     by_cases c4 : x ≤ y <;> simp [c4] at hbad <;>
      (simp [abDs_consU, drU, recheck_cons, recheck_nil, rcK, IS.dst, hil, e2, c1, c2, hi0, hci, hwi, hil2, f2, c4]
       exact hbad _ rfl rfl rfl rfl)
 ·have hil : l.length ≤ i := by simp at hc; omega
  rw [List.drop_of_length_le hil] at hd
  simp
  refine h4 _ _ _ (h2 _ _ _ ?_)
  refine ab_seq_k fun K12 h12 => ?_
  simp
  refine h12 _ _ _ ?_
  clear h12 K12
  simp
  refine fin_of 1 ?_
  simp [rs57, hd, isLF]
theorem any_drop {α : Type} {p : α → Bool} {l : List α} {i : Nat} {x : α} (h : l[i]? = some x) : (l.drop i).any p = (p x || (l.drop (i + 1)).any p) := by
 have hlt := (List.getElem?_eq_some_iff.1 h).1
 rw [List.drop_eq_getElem_cons hlt]
 obtain ⟨h1, h2⟩ := List.getElem?_eq_some_iff.1 h
 rw [h2]; rfl
theorem lg_at {J : List Lg} {i : Nat} (h : i < J.length) : ∃ p, J[i]? = some p ∧ p ∈ J ∧ i * 2 + 2 ≤ J.length * 2 ∧ (lgV J)[i * 2]? = some (.i .i64 p.1) ∧ (lgV J)[i * 2 + 1]? = some (sl p.2.1 p.2.2) := by
 have e := List.getElem?_eq_getElem h
 obtain ⟨-, e2, e3⟩ := lgV_get e
 exact ⟨J[i], e, List.getElem_mem h, by omega, e2, e3⟩
theorem refCheck24 {J : List Lg} {f : Bool} {σ : List O} (hJ : J.length ≤ 1000000) (hl : ∀ x ∈ J, (x.2.1.length : Int) < 1000000000) : FSpec Tryz.prog 24 [jamV J f] σ (.i .i64 (checkJ J)) σ := by
 refine FSpec.frame (σ := σ) ?_ (by simp) rfl
 refine fn24.spec0 mixed noIt_ok ?_
 rw [ic24]
 refine ab_seq_k fun K1 h1 => ?_
 simp
 refine h1 _ _ _ ?_
 clear h1 K1
 refine ab_seq_k fun K2 h2 => ?_
 refine ab_seq_k fun K3 h3 => ?_
 have hK3 : ∀ env c, get env 14 = .b c → get env 1 = .p 0 0 0 → c = decide (J.length < 1 ∨ 12 < J.length) → K3 (some 0) env [.row 0 [slJ J f]] := by
  intro env c w w1 hc
  refine h3 _ _ _ ?_
  clear h3 K3
  refine ab_cond_of w (fun hb => ?_) (fun hb => ?_)
  ·rw [hc] at hb
   have hb := of_decide_eq_true hb
   refine ab_seq_k fun K4 h4 => ?_
   simp
   refine h4 _ _ _ ?_
   clear h4 K4
   simp
   refine fin_of 1 ?_
   have hv : checkJ J = 6 := by unfold checkJ; rw [if_pos hb]
   simp [rs24, hv]
  ·rw [hc] at hb
   have hb := of_decide_eq_false hb
   simp [w1]
   refine h2 _ _ _ ?_
   clear h2 K2
   refine ab_seq_k fun K5 h5 => ?_
   refine ab_seq_k fun K6 h6 => ?_
   simp [w1]
   refine h6 _ _ _ ?_
   clear h6 K6
   refine ab_block_k fun K7 h7 => ?_
   refine ab_loop_k (fun m env σ => ∃ i : Nat, i + m = J.length ∧ (J.any fun l => !fit 0 1 l.1) = ((J.drop i).any fun l => !fit 0 1 l.1) ∧ env = [(1, .p 0 0 0), (3, .i .i64 i)] ∧ σ = [.row 0 [slJ J f]]) J.length ⟨0, by omega, by simp, by simp, rfl⟩ ?_
   rintro m env σ ⟨i, hi, hd, rfl, rfl⟩ K8 h8
   rw [ic24_0]
   refine ab_seq_k fun K9 h9 => ?_
   refine ab_seq_k fun K10 h10 => ?_
   simp
   refine h10 _ _ _ ?_
   clear h10 K10
   refine ab_cond_of rfl (fun hc => ?_) (fun hc => ?_)
   ·have hil : i < J.length := by simpa using hc
    obtain ⟨p, hp, hpm, hle, g1, -⟩ := lg_at hil
    obtain ⟨hg1, g1'⟩ := List.getElem?_eq_some_iff.1 g1
    rw [any_drop hp] at hd
    simp
    refine h9 _ _ _ ?_
    clear h9 K9
    refine ab_seq_k fun K11 h11 => ?_
    refine ab_block_k fun K12 h12 => ?_
    refine ab_seq_k fun K13 h13 => ?_
    have hK13 : ∀ env, get env 37 = .b (!fit 0 1 p.1) → get env 1 = .p 0 0 0 → get env 3 = .i .i64 i → K13 (some 0) env [.row 0 [slJ J f]] := by
     intro env w w1 w3
     refine h13 _ _ _ ?_
     clear h13 K13
     cases hf : fit 0 1 p.1 with
     | false =>
      rw [hf] at w hd
      refine ab_cond_of w (fun _ => ?_) (fun h => by cases h)
      refine ab_seq_k fun K14 h14 => ?_
      simp
      refine h14 _ _ _ ?_
      clear h14 K14
      simp
      refine fin_of 1 ?_
      have hv : checkJ J = 3 := by unfold checkJ; rw [if_neg hb, hd]; rfl
      simp [rs24, hv]
     | true =>
      rw [hf] at w hd
      refine ab_cond_of w (fun h => by cases h) (fun _ => ?_)
      simp [w1, w3]
      refine h12 _ _ _ (h11 _ _ _ ?_)
      simp [w1, w3, wrap64 (x := (i : Int) + 1) (by omega) (by omega)]
      exact h8 _ _ _ (again (m - 1) (by omega) ⟨i + 1, by omega, by simpa using hd, by simp, rfl⟩)
    by_cases c0 : p.1 = 0
    ·have hf : fit 0 1 p.1 = true := by rw [c0]; rfl
     rw [hf] at hK13
     rw [c0] at g1 g1'
     simp [hil, hle, g1, g1']
     exact hK13 _ rfl rfl rfl
    ·by_cases c1 : p.1 = 1
     ·have hf : fit 0 1 p.1 = true := by rw [c1]; rfl
      rw [hf] at hK13
      rw [c1] at g1 g1'
      simp [hil, hle, g1, g1']
      exact hK13 _ rfl rfl rfl
     ·have hf : fit 0 1 p.1 = false := by simp [fit]; omega
      rw [hf] at hK13
      simp [hil, hle, g1, g1', c0, c1]
      exact hK13 _ rfl rfl rfl
   ·have hil : J.length ≤ i := by simp at hc; omega
    rw [List.drop_of_length_le hil, List.any_nil] at hd
    simp
    refine h7 _ _ _ (h5 _ _ _ ?_)
    clear h5 h7 h8 h9
    refine ab_seq_k fun K20 h20 => ?_
    refine ab_seq_k fun K21 h21 => ?_
    simp
    refine h21 _ _ _ ?_
    clear h21 K21
    refine ab_block_k fun K22 h22 => ?_
    refine ab_loop_k (fun m env σ => ∃ i : Nat, i + m = J.length ∧ (J.any fun l => !isL J.length l.2.1) = ((J.drop i).any fun l => !isL J.length l.2.1) ∧ env = [(1, .p 0 0 0), (4, .i .i64 i)] ∧ σ = [.row 0 [slJ J f]]) J.length ⟨0, by omega, by simp, by simp, rfl⟩ ?_
    rintro m env σ ⟨i, hi, hd2, rfl, rfl⟩ K23 h23
    rw [ic24_1]
    refine ab_seq_k fun K24 h24 => ?_
    refine ab_seq_k fun K25 h25 => ?_
    simp
    refine h25 _ _ _ ?_
    clear h25 K25
    refine ab_cond_of rfl (fun hc => ?_) (fun hc => ?_)
    ·have hil : i < J.length := by simpa using hc
     obtain ⟨p, hp, hpm, hle, -, g2⟩ := lg_at hil
     obtain ⟨hg2, g2'⟩ := List.getElem?_eq_some_iff.1 g2
     rw [any_drop hp] at hd2
     simp
     refine h24 _ _ _ ?_
     clear h24 K24
     refine ab_seq_k fun K26 h26 => ?_
     refine ab_block_k fun K27 h27 => ?_
     refine ab_seq_k fun K28 h28 => ?_
     simp [abDs_consU, drU, recheck_cons, recheck_nil, rcK, IS.dst, hil, hle, g2, g2']
     refine callK_of (refIsList57 (by omega) (hl p hpm)) ?_
     simp [abDs_consU, drU, recheck_cons, recheck_nil, rcK, IS.dst]
     refine h28 _ _ _ ?_
     clear h28 K28
     cases hf : isL J.length p.2.1 with
     | false =>
      rw [hf] at hd2
      refine ab_cond_of rfl (fun _ => ?_) (fun h => by cases h)
      refine ab_seq_k fun K29 h29 => ?_
      simp
      refine h29 _ _ _ ?_
      clear h29 K29
      simp
      refine fin_of 1 ?_
      have hv : checkJ J = 2 := by unfold checkJ; rw [if_neg hb, hd, hd2]; rfl
      simp [rs24, hv]
     | true =>
      rw [hf] at hd2
      refine ab_cond_of rfl (fun h => by cases h) (fun _ => ?_)
      simp
      refine h27 _ _ _ (h26 _ _ _ ?_)
      simp [wrap64 (x := (i : Int) + 1) (by omega) (by omega)]
      exact h23 _ _ _ (again (m - 1) (by omega) ⟨i + 1, by omega, by simpa using hd2, by simp, rfl⟩)
    ·have hil : J.length ≤ i := by simp at hc; omega
     rw [List.drop_of_length_le hil, List.any_nil] at hd2
     simp
     refine h22 _ _ _ (h20 _ _ _ ?_)
     refine ab_seq_k fun K30 h30 => ?_
     simp
     refine h30 _ _ _ ?_
     clear h30 K30
     simp
     refine fin_of 1 ?_
     have hv : checkJ J = 0 := by unfold checkJ; rw [if_neg hb, hd, hd2]; rfl
     simp [rs24, hv]
 by_cases c1 : J.length < 1
 ·have : J.length = 0 := by omega
  simp [c1, this]
  exact hK3 _ true rfl rfl (by simp [c1])
 ·have h1 : ¬ J.length = 0 := by omega
  have h2 : ¬ (J.length : Int) < 1 := by omega
  simp [h2]
  refine hK3 _ _ rfl rfl ?_
  have h3 : J ≠ [] := by rintro rfl; exact h1 rfl
  by_cases h12 : 12 < J.length
  ·have h4 : (12 : Int) < J.length := by omega
   simp [h12, h4]
  ·have h4 : ¬ (12 : Int) < J.length := by omega
   simp [h12, h4, h3]
   try omega
def grB (J : List Lg) : Bool := decide (16 < J.length) || J.any fun l => decide (16 < l.2.1.length)
def fineB (J : List Lg) : Bool := !grB J && decide (checkJ J = 0)
theorem great17 {J : List Lg} {f : Bool} {σ : List O} : FSpec Tryz.prog 17 [jamV J f] σ (.b (grB J)) σ := by
 refine FSpec.frame (σ := σ) ?_ (by simp) rfl
 refine fn17.spec0 mixed noIt_ok ?_
 rw [ic17]
 refine ab_seq_k fun K1 h1 => ?_
 simp
 refine h1 _ _ _ ?_
 clear h1 K1
 refine ab_seq_k fun K2 h2 => ?_
 refine ab_seq_k fun K3 h3 => ?_
 simp
 refine h3 _ _ _ ?_
 clear h3 K3
 refine ab_cond_of rfl (fun hb => ?_) (fun hb => ?_)
 ·refine ab_seq_k fun K4 h4 => ?_
  simp
  refine h4 _ _ _ ?_
  clear h4 K4
  simp
  refine fin_of 1 ?_
  have h : 16 < J.length := by have := of_decide_eq_true hb; omega
  simp [rs17, grB, h]
 ·have hJ : J.length ≤ 16 := by have := of_decide_eq_false hb; omega
  simp
  refine h2 _ _ _ ?_
  clear h2 K2
  refine ab_seq_k fun K5 h5 => ?_
  refine ab_seq_k fun K6 h6 => ?_
  simp
  refine h6 _ _ _ ?_
  clear h6 K6
  refine ab_block_k fun K7 h7 => ?_
  refine ab_loop_k (fun m env σ => ∃ i : Nat, i + m = J.length ∧ (J.any fun l => decide (16 < l.2.1.length)) = ((J.drop i).any fun l => decide (16 < l.2.1.length)) ∧ env = [(1, .p 0 0 0), (3, .i .i64 i)] ∧ σ = [.row 0 [slJ J f]]) J.length ⟨0, by omega, by simp, by simp, rfl⟩ ?_
  rintro m env σ ⟨i, hi, hd, rfl, rfl⟩ K8 h8
  rw [ic17_0]
  refine ab_seq_k fun K9 h9 => ?_
  refine ab_seq_k fun K10 h10 => ?_
  simp
  refine h10 _ _ _ ?_
  clear h10 K10
  refine ab_cond_of rfl (fun hc => ?_) (fun hc => ?_)
  ·have hil : i < J.length := by simpa using hc
   obtain ⟨p, hp, hpm, hle, -, g2⟩ := lg_at hil
   obtain ⟨hg2, g2'⟩ := List.getElem?_eq_some_iff.1 g2
   rw [any_drop hp] at hd
   simp
   refine h9 _ _ _ ?_
   clear h9 K9
   refine ab_seq_k fun K11 h11 => ?_
   refine ab_block_k fun K12 h12 => ?_
   refine ab_seq_k fun K13 h13 => ?_
   simp [hil, hle, g2, g2']
   refine h13 _ _ _ ?_
   clear h13 K13
   by_cases hg : 16 < p.2.1.length
   ·refine ab_cond_of rfl (fun _ => ?_) (fun h => by simp at h; omega)
    refine ab_seq_k fun K14 h14 => ?_
    simp
    refine h14 _ _ _ ?_
    clear h14 K14
    simp
    refine fin_of 1 ?_
    simp [rs17, grB, hd, hg]
   ·refine ab_cond_of rfl (fun h => by simp at h; omega) (fun _ => ?_)
    simp
    refine h12 _ _ _ (h11 _ _ _ ?_)
    simp [wrap64 (x := (i : Int) + 1) (by omega) (by omega)]
    exact h8 _ _ _ (again (m - 1) (by omega) ⟨i + 1, by omega, by simpa [hg] using hd, by simp, rfl⟩)
  ·have hil : J.length ≤ i := by simp at hc; omega
   rw [List.drop_of_length_le hil, List.any_nil] at hd
   simp
   refine h7 _ _ _ (h5 _ _ _ ?_)
   refine ab_seq_k fun K15 h15 => ?_
   simp
   refine h15 _ _ _ ?_
   clear h15 K15
   simp
   refine fin_of 1 ?_
   simp [rs17, grB, hd]
   omega
theorem gr_small {J : List Lg} (h : grB J = false) : J.length ≤ 16 ∧ ∀ p ∈ J, p.2.1.length ≤ 16 := by
 unfold grB at h
 simp only [Bool.or_eq_false_iff, decide_eq_false_iff_not, List.any_eq_false, decide_eq_true_eq] at h
 exact ⟨by omega, fun p hp => by have := h.2 p hp; omega⟩
theorem fine47 {J : List Lg} {f : Bool} {σ : List O} : FSpec Tryz.prog 47 [jamV J f] σ (.b (fineB J)) σ := by
 refine FSpec.frame (σ := σ) ?_ (by simp) rfl
 refine fn47.spec0 mixed noIt_ok ?_
 rw [ic47]
 refine ab_seq_k fun K1 h1 => ?_
 simp
 refine h1 _ _ _ ?_
 clear h1 K1
 refine ab_seq_k fun K2 h2 => ?_
 simp
 refine callK_of great17 ?_
 cases hg : grB J with
 | true =>
  simp
  refine h2 _ _ _ ?_
  simp
  refine fin_of 1 ?_
  simp [rs47, fineB, hg]
 | false =>
  obtain ⟨hJ, hl⟩ := gr_small hg
  simp
  refine callK_of (refCheck24 (by omega) (fun x hx => by have := hl x hx; omega)) ?_
  simp
  refine h2 _ _ _ ?_
  simp
  refine fin_of 1 ?_
  simp [rs47, fineB, hg]
theorem fine_ok {J : List Lg} (h : fineB J = true) : JOK J ∧ checkJ J = 0 ∧ (∀ p ∈ J, isL J.length p.2.1 = true ∧ (p.1 = 0 ∨ p.1 = 1) ∧ p.2.1.length ≤ 16) := by
 unfold fineB at h
 simp only [Bool.and_eq_true, Bool.not_eq_true', decide_eq_true_eq] at h
 obtain ⟨h1, h2⟩ := h
 obtain ⟨h3, h4⟩ := gr_small h1
 have h2' := h2
 unfold checkJ at h2
 split at h2
 ·cases h2
 ·rename_i c1
  split at h2
  ·cases h2
  ·rename_i c2
   split at h2
   ·cases h2
   ·rename_i c3
    simp only [List.any_eq_true, not_exists, not_and, Bool.not_eq_true, Bool.not_eq_false', fit, Bool.and_eq_true, decide_eq_true_eq] at c2 c3
    refine ⟨⟨by omega, by omega, fun p hp => ⟨fun x hx => ?_, by have := h4 p hp; omega⟩⟩, h2', fun p hp => ⟨c3 p hp, by have := c2 p hp; omega, h4 p hp⟩⟩
    have := isLF_mem (c3 p hp) x hx
    omega
def openV (J : List Lg) (f : Bool) (l : List Int) : V := if checkJ J ≠ 0 then .tup [.np, .i .i64 (checkJ J)] else if isL J.length l = false then .tup [.np, .i .i64 2] else .tup [heapV J f, .i .i64 0]
theorem check_ok {J : List Lg} (hl : ∀ x ∈ J, x.2.1.length ≤ 1000000) (h : checkJ J = 0) : JOK J := by
 unfold checkJ at h
 split at h
 ·cases h
 ·rename_i c1
  split at h
  ·cases h
  ·rename_i c2
   split at h
   ·cases h
   ·rename_i c3
    simp only [List.any_eq_true, not_exists, not_and, Bool.not_eq_true, Bool.not_eq_false'] at c3
    refine ⟨by omega, by omega, fun p hp => ⟨fun x hx => ?_, hl p hp⟩⟩
    have := isLF_mem (c3 p hp) x hx
    omega
theorem openV_pure {J : List Lg} {f : Bool} {l : List Int} : (openV J f l).pure = true := by
 unfold openV
 split
 ·rfl
 ·split
  ·rfl
  ·simp
theorem open62 {J : List Lg} {f : Bool} {l : List Int} {fl : Bool} {σ : List O} (hJ : J.length ≤ 1000000) (hl : ∀ x ∈ J, x.2.1.length ≤ 1000000) (hk : l.length ≤ 1000000) : FSpec Tryz.prog 62 [jamV J f, sl l fl] σ (openV J f l) σ := by
 refine FSpec.frame (σ := σ) ?_ (by simp) openV_pure
 refine fn62.spec0 mixed noIt_ok ?_
 rw [ic62]
 refine ab_seq_k fun K1 h1 => ?_
 simp
 refine h1 _ _ _ ?_
 clear h1 K1
 refine ab_seq_k fun K2 h2 => ?_
 simp
 refine callK_of (check23 hJ (fun x hx => by have := hl x hx; omega)) ?_
 simp
 refine h2 _ _ _ ?_
 clear h2 K2
 refine ab_seq_k fun K3 h3 => ?_
 refine ab_block_k fun K4 h4 => ?_
 refine ab_seq_k fun K5 h5 => ?_
 simp
 refine h5 _ _ _ ?_
 clear h5 K5
 by_cases hc : checkJ J = 0
 ·refine ab_cond_of rfl (fun h => by simp [hc] at h) (fun _ => ?_)
  refine ab_seq_k fun K6 h6 => ?_
  simp
  refine callK_of (isList73 hJ (by omega)) ?_
  simp
  refine h6 _ _ _ ?_
  clear h6 K6
  cases hi : isL J.length l with
  | false =>
   refine ab_cond_of rfl (fun _ => ?_) (fun h => by cases h)
   refine ab_seq_k fun K7 h7 => ?_
   simp
   refine h7 _ _ _ ?_
   clear h7 K7
   simp
   refine fin_of 3 ?_
   simp [rs62, openV, hc, hi]
  | true =>
   refine ab_cond_of rfl (fun h => by cases h) (fun _ => ?_)
   simp
   refine h4 _ _ _ (h3 _ _ _ ?_)
   have hn := fun σ => FSpec.frame (σ := σ) (newHeap96 (f := f) (check_ok hl hc) rfl) (by simp) (by simp)
   refine ab_seq_k fun K8 h8 => ?_
   simp
   refine callK_of (hn _) ?_
   simp
   refine h8 _ _ _ ?_
   simp
   refine fin_of 3 ?_
   simp [rs62, openV, hc, hi]
 ·refine ab_cond_of rfl (fun _ => ?_) (fun h => by simp [hc] at h)
  refine ab_seq_k fun K9 h9 => ?_
  simp
  refine h9 _ _ _ ?_
  clear h9 K9
  simp
  refine fin_of 3 ?_
  simp [rs62, openV, hc]
end Go.Ab
end
section
namespace Go.Ab
open Go Go.Proofs
@[simp] theorem bits64 : IntKind.i64.bits = 64 := rfl
end Go.Ab
end
section
namespace Go.Ab
open Go Go.Proofs
theorem less_zero {b g : Nat} : less b g = 0 ↔ ∀ j, b.testBit j = true → g.testBit j = true := by
 constructor
 ·intro h j hb
  have := less_bit (a := b) (b := g) (i := j)
  rw [h, Nat.zero_testBit, hb] at this
  cases hg : g.testBit j with
  | true => rfl
  | false => rw [hg] at this; cases this
 ·intro h
  apply Nat.eq_of_testBit_eq
  intro j
  rw [less_bit, Nat.zero_testBit]
  cases hb : b.testBit j with
  | false => rfl
  | true => rw [h j hb]; rfl
theorem and_ne {b g : Nat} : b &&& g ≠ 0 ↔ ∃ j, b.testBit j = true ∧ g.testBit j = true := by
 constructor
 ·intro h
  false_or_by_contra
  rename_i hno
  refine h (Nat.eq_of_testBit_eq fun j => ?_)
  rw [Nat.testBit_and, Nat.zero_testBit]
  cases hb : b.testBit j with
  | false => rfl
  | true => cases hg : g.testBit j with
   | false => rfl
   | true => exact absurd ⟨j, hb, hg⟩ hno
 ·rintro ⟨j, hb, hg⟩ h
  have := Nat.testBit_and b g j
  rw [h, Nat.zero_testBit, hb, hg] at this
  cases this
theorem setB_bit {l : List Int} (h : ∀ x ∈ l, 0 ≤ x) {j : Nat} : (setB l).testBit j = true ↔ (j : Int) ∈ l := by
 have : ∀ (l : List Int) (s : Nat), (∀ x ∈ l, 0 ≤ x) → ((l.foldl (fun s x => s ||| 2 ^ x.toNat) s).testBit j = true ↔ s.testBit j = true ∨ (j : Int) ∈ l) := by
  intro l
  induction l with
  | nil => intro s _; simp
  | cons x l ih =>
   intro s hx
   have h0 := hx x (List.mem_cons_self ..)
   rw [List.foldl_cons, ih _ (fun y hy => hx y (List.mem_cons_of_mem _ hy)), Nat.testBit_or, Bool.or_eq_true, Nat.testBit_two_pow, decide_eq_true_eq, List.mem_cons]
   constructor
   ·rintro ((h1 | h1) | h1)
    ·exact .inl h1
    ·exact .inr (.inl (by omega))
    ·exact .inr (.inr h1)
   ·rintro (h1 | h1 | h1)
    ·exact .inl (.inl h1)
    ·exact .inl (.inr (by omega))
    ·exact .inr h1
 rw [setB, this l 0 h]
 simp
section
variable {J : List Lg} {B : List Nat} {s : Nat}
theorem gk_step {r j : Nat} : (gk J B s (r + 1)).testBit j = ((gk J B s r).testBit j || (decide (j < J.length) && frB J B j (gk J B s r))) := newTo_bit
theorem gk_up {r j : Nat} (h : (gk J B s r).testBit j = true) : ∀ {d}, (gk J B s (r + d)).testBit j = true
 | 0 => h
 | d + 1 => by
  rw [show r + (d + 1) = r + d + 1 by omega, gk_step, gk_up h (d := d)]
  rfl
theorem wr_in {j : Nat} (hj : j < J.length) : ∀ r r' : Nat, r' ≤ r → ((0 ≤ wr J B s r j ∧ wr J B s r j ≤ r') ↔ (gk J B s r').testBit j = true)
 | 0, r', h => by
  have : r' = 0 := by omega
  subst this
  simp only [wr, gk]
  cases hk : s.testBit j <;> simp [hj]
 | r + 1, r', h => by
  have ih := wr_in hj r
  have hb := wr_b (J := J) (B := B) (keys := s) (r := r) (n := j)
  have hst := gk_step (J := J) (B := B) (s := s) (r := r) (j := j)
  rw [wr_step]
  by_cases hc : j < J.length ∧ (!(gk J B s r).testBit j && frB J B j (gk J B s r)) = true
  ·rw [if_pos hc]
   obtain ⟨-, h2⟩ := hc
   simp at h2
   by_cases he : r' = r + 1
   ·subst he
    rw [hst, h2.2]
    simp [hj]
    omega
   ·constructor
    ·intro h3; omega
    ·intro h3
     have := gk_up h3 (d := r - r')
     rw [show r' + (r - r') = r by omega, h2.1] at this
     cases this
  ·rw [if_neg hc]
   by_cases he : r' = r + 1
   ·subst he
    have hnew : (gk J B s (r + 1)).testBit j = (gk J B s r).testBit j := by
     rw [hst]
     cases hg : (gk J B s r).testBit j with
     | true => rfl
     | false =>
      cases hf : frB J B j (gk J B s r) with
      | false => simp
      | true => exact absurd ⟨hj, by rw [hg, hf]; rfl⟩ hc
    rw [hnew, ← ih r (Nat.le_refl _)]
    omega
   ·exact ih r' (by omega)
theorem gk_move {r : Nat} : gk J B s (r + 1) = gk J B s r ∨ cntN (gk J B s (r + 1)) J.length < cntN (gk J B s r) J.length := by
 by_cases h : ∃ n, n < J.length ∧ (!(gk J B s r).testBit n && frB J B n (gk J B s r)) = true
 ·obtain ⟨n, h1, h2⟩ := h
  refine .inr (cntN_lt (fun j hj => gk_up hj (d := 1)) ⟨n, h1, ?_, ?_⟩)
  ·simp at h2; exact h2.1
  ·rw [gk_step]
   simp at h2
   simp [h1, h2]
 ·refine .inl (gk_done fun n hn => ?_)
  cases hc : (!(gk J B s r).testBit n && frB J B n (gk J B s r)) with
  | false => rfl
  | true => exact absurd ⟨n, hn, hc⟩ h
theorem gk_stable : gk J B s (J.length + 1) = gk J B s J.length := by
 have : ∀ r, gk J B s (r + 1) = gk J B s r ∨ cntN (gk J B s (r + 1)) J.length + (r + 1) ≤ J.length := by
  intro r
  induction r with
  | zero =>
   rcases gk_move (J := J) (B := B) (s := s) (r := 0) with h | h
   ·exact .inl h
   ·have := cntN_le (s := gk J B s 0) (n := J.length)
    exact .inr (by omega)
  | succ r ih =>
   rcases ih with ih | ih
   ·exact .inl (by
     have := gk_same ih 1
     have h2 := gk_same ih 2
     rw [show r + 1 + 1 = r + 2 from rfl, h2, this])
   ·rcases gk_move (J := J) (B := B) (s := s) (r := r + 1) with h | h
    ·exact .inl h
    ·exact .inr (by omega)
 rcases this J.length with h | h
 ·exact h
 ·omega
theorem wave_in {j : Nat} (hj : j < J.length) (r : Nat) : (0 ≤ wr J B s J.length j ∧ wr J B s J.length j ≤ r) ↔ (gk J B s r).testBit j = true := by
 by_cases h : r ≤ J.length
 ·exact wr_in hj _ r h
 ·have hb := wr_b (J := J) (B := B) (keys := s) (r := J.length) (n := j)
  have := gk_same gk_stable (r - J.length) (J := J) (B := B) (keys := s)
  rw [show J.length + (r - J.length) = r by omega] at this
  rw [this, ← wr_in hj _ J.length (Nat.le_refl _)]
  omega
theorem wave_key {j : Nat} (hj : j < J.length) (hk : s.testBit j = true) : wr J B s J.length j = 0 := by
 have := (wave_in (J := J) (B := B) (s := s) hj 0).2 hk
 omega
end
def wantA (w : Int → Int) (a b : Int) : Int := if 0 ≤ a then (if w b < 0 then -1 else max a (w b + 1)) else a
def wantS (w : Int → Int) (a b : Int) : Int := if 0 ≤ w b ∧ (a < 0 ∨ w b + 1 < a) then w b + 1 else a
def want (J : List Lg) (w : Int → Int) (i : Nat) : Int := if kd J i = 0 then (J.getD i (0, [], true)).2.1.foldl (wantA w) 1 else (J.getD i (0, [], true)).2.1.foldl (wantS w) (-1)
end Go.Ab
end
section
namespace Go.Ab
open Go Go.Proofs
theorem stays67 {J : List Lg} {f : Bool} {s : Nat} {σ : List O} (hN : J.length ≤ 12) (hs : s < 2 ^ J.length) : FSpec Tryz.prog 67 [heapV J f, .i .u16 s] σ (.i .u16 (left J s)) σ := by
 refine FSpec.frame (σ := σ) ?_ (by simp) rfl
 refine fn67.spec0 mixed noIt_ok ?_
 rw [ic67]
 have hst := stuck_is (F := left J) hs
 have hlen := stuckE_len (F := left J) (W := 2 ^ J.length)
 unfold heapV stV
 generalize stuckE (left J) (2 ^ J.length) = E at *
 refine ab_seq_k fun K1 h1 => ?_
 simp
 refine h1 _ _ _ ?_
 clear h1 K1
 refine ab_seq_k fun K2 h2 => ?_
 simp
 refine lkpC_sm (k := [(s : Int)]) (by omega) hlen ?_ rfl
 simp
 have hK : ∀ v, v = V.i .u16 (left J s) → K2 (some 0) [(4, v)] [] := by
  rintro v rfl
  refine h2 _ _ _ ?_
  simp
  exact fin_of 1 (by simp [rs67])
 cases hl : lk E [(s : Int)] with
 | none => rw [hl] at hst; exact hK _ hst
 | some v => rw [hl] at hst; exact hK _ hst
theorem setB_N {J : List Lg} {k : List Int} (h : isL J.length k = true) : setB k < 2 ^ J.length := setB_lt (isLF_mem h)
end Go.Ab
end
section
namespace Go.Ab
open Go Go.Proofs
def tr : Tr := (.node (.node (.node (.node (.node (.node (.node .leaf 17 ⟨ic17, rs17, 0⟩ .leaf) 18 ⟨ic18, rs18, 0⟩ (.node .leaf 19 ⟨ic19, rs19, 0⟩ .leaf)) 20 ⟨ic20, rs20, 0⟩ (.node (.node .leaf 21 ⟨ic21, rs21, 0⟩ .leaf) 22 ⟨ic22, rs22, 0⟩ (.node .leaf 23 ⟨ic23, rs23, 0⟩ .leaf))) 24 ⟨ic24, rs24, 0⟩ (.node (.node (.node .leaf 25 ⟨ic25, rs25, 0⟩ .leaf) 26 ⟨ic26, rs26, 0⟩ (.node .leaf 27 ⟨ic27, rs27, 0⟩ .leaf)) 28 ⟨ic28, rs28, 0⟩ (.node (.node .leaf 29 ⟨ic29, rs29, 0⟩ .leaf) 30 ⟨ic30, rs30, 0⟩ (.node .leaf 31 ⟨ic31, rs31, 0⟩ .leaf)))) 32 ⟨ic32, rs32, 0⟩ (.node (.node (.node (.node .leaf 33 ⟨ic33, rs33, 0⟩ .leaf) 34 ⟨ic34, rs34, 0⟩ (.node .leaf 35 ⟨ic35, rs35, 0⟩ .leaf)) 36 ⟨ic36, rs36, 0⟩ (.node (.node .leaf 37 ⟨ic37, rs37, 0⟩ .leaf) 38 ⟨ic38, rs38, 0⟩ (.node .leaf 39 ⟨ic39, rs39, 0⟩ .leaf))) 40 ⟨ic40, rs40, 0⟩ (.node (.node (.node .leaf 41 ⟨ic41, rs41, 0⟩ .leaf) 42 ⟨ic42, rs42, 0⟩ (.node .leaf 43 ⟨ic43, rs43, 0⟩ .leaf)) 44 ⟨ic44, rs44, 0⟩ (.node (.node .leaf 45 ⟨ic45, rs45, 0⟩ .leaf) 46 ⟨ic46, rs46, 0⟩ (.node .leaf 47 ⟨ic47, rs47, 0⟩ .leaf))))) 48 ⟨ic48, rs48, 0⟩ (.node (.node (.node (.node (.node .leaf 49 ⟨ic49, rs49, 0⟩ .leaf) 53 ⟨ic53, rs53, 0⟩ (.node .leaf 54 ⟨ic54, rs54, 0⟩ .leaf)) 56 ⟨ic56, rs56, 0⟩ (.node (.node .leaf 57 ⟨ic57, rs57, 0⟩ .leaf) 59 ⟨ic59, rs59, 0⟩ (.node .leaf 60 ⟨ic60, rs60, 0⟩ .leaf))) 61 ⟨ic61, rs61, 0⟩ (.node (.node (.node .leaf 62 ⟨ic62, rs62, 0⟩ .leaf) 63 ⟨ic63, rs63, 0⟩ (.node .leaf 64 ⟨ic64, rs64, 0⟩ .leaf)) 65 ⟨ic65, rs65, 0⟩ (.node (.node .leaf 66 ⟨ic66, rs66, 0⟩ .leaf) 67 ⟨ic67, rs67, 0⟩ (.node .leaf 68 ⟨ic68, rs68, 0⟩ .leaf)))) 69 ⟨ic69, rs69, 0⟩ (.node (.node (.node (.node .leaf 70 ⟨ic70, rs70, 0⟩ .leaf) 71 ⟨ic71, rs71, 0⟩ (.node .leaf 72 ⟨ic72, rs72, 0⟩ .leaf)) 73 ⟨ic73, rs73, 0⟩ (.node (.node .leaf 74 ⟨ic74, rs74, 0⟩ .leaf) 75 ⟨ic75, rs75, 0⟩ (.node .leaf 76 ⟨ic76, rs76, 1⟩ .leaf))) 77 ⟨ic77, rs77, 2⟩ (.node (.node (.node .leaf 78 ⟨ic78, rs78, 0⟩ .leaf) 79 ⟨ic79, rs79, 0⟩ (.node .leaf 80 ⟨ic80, rs80, 1⟩ .leaf)) 81 ⟨ic81, rs81, 2⟩ (.node (.node .leaf 82 ⟨ic82, rs82, 0⟩ .leaf) 83 ⟨ic83, rs83, 0⟩ (.node .leaf 84 ⟨ic84, rs84, 0⟩ .leaf)))))) 85 ⟨ic85, rs85, 0⟩ (.node (.node (.node (.node (.node (.node .leaf 86 ⟨ic86, rs86, 0⟩ .leaf) 87 ⟨ic87, rs87, 0⟩ (.node .leaf 88 ⟨ic88, rs88, 0⟩ .leaf)) 89 ⟨ic89, rs89, 0⟩ (.node (.node .leaf 90 ⟨ic90, rs90, 0⟩ .leaf) 91 ⟨ic91, rs91, 0⟩ (.node .leaf 92 ⟨ic92, rs92, 0⟩ .leaf))) 94 ⟨ic94, rs94, 0⟩ (.node (.node (.node .leaf 95 ⟨ic95, rs95, 0⟩ .leaf) 96 ⟨ic96, rs96, 0⟩ (.node .leaf 97 ⟨ic97, rs97, 0⟩ .leaf)) 98 ⟨ic98, rs98, 0⟩ (.node (.node .leaf 99 ⟨ic99, rs99, 0⟩ .leaf) 100 ⟨ic100, rs100, 0⟩ (.node .leaf 101 ⟨ic101, rs101, 0⟩ .leaf)))) 102 ⟨ic102, rs102, 1⟩ (.node (.node (.node (.node .leaf 103 ⟨ic103, rs103, 0⟩ .leaf) 104 ⟨ic104, rs104, 0⟩ (.node .leaf 105 ⟨ic105, rs105, 0⟩ .leaf)) 106 ⟨ic106, rs106, 0⟩ (.node (.node .leaf 107 ⟨ic107, rs107, 0⟩ .leaf) 108 ⟨ic108, rs108, 1⟩ (.node .leaf 109 ⟨ic109, rs109, 0⟩ .leaf))) 110 ⟨ic110, rs110, 0⟩ (.node (.node (.node .leaf 111 ⟨ic111, rs111, 0⟩ .leaf) 112 ⟨ic112, rs112, 0⟩ (.node .leaf 113 ⟨ic113, rs113, 1⟩ .leaf)) 114 ⟨ic114, rs114, 0⟩ (.node (.node .leaf 115 ⟨ic115, rs115, 0⟩ .leaf) 116 ⟨ic116, rs116, 0⟩ (.node .leaf 117 ⟨ic117, rs117, 0⟩ .leaf))))) 118 ⟨ic118, rs118, 1⟩ (.node (.node (.node (.node (.node .leaf 119 ⟨ic119, rs119, 0⟩ .leaf) 120 ⟨ic120, rs120, 0⟩ (.node .leaf 121 ⟨ic121, rs121, 1⟩ .leaf)) 122 ⟨ic122, rs122, 1⟩ (.node (.node .leaf 123 ⟨ic123, rs123, 1⟩ .leaf) 124 ⟨ic124, rs124, 1⟩ (.node .leaf 125 ⟨ic125, rs125, 1⟩ .leaf))) 126 ⟨ic126, rs126, 1⟩ (.node (.node (.node .leaf 127 ⟨ic127, rs127, 1⟩ .leaf) 128 ⟨ic128, rs128, 1⟩ (.node .leaf 129 ⟨ic129, rs129, 1⟩ .leaf)) 130 ⟨ic130, rs130, 0⟩ (.node (.node .leaf 131 ⟨ic131, rs131, 0⟩ .leaf) 132 ⟨ic132, rs132, 1⟩ (.node .leaf 133 ⟨ic133, rs133, 1⟩ .leaf)))) 134 ⟨ic134, rs134, 1⟩ (.node (.node (.node (.node .leaf 135 ⟨ic135, rs135, 1⟩ .leaf) 136 ⟨ic136, rs136, 1⟩ (.node .leaf 137 ⟨ic137, rs137, 1⟩ .leaf)) 138 ⟨ic138, rs138, 1⟩ (.node (.node .leaf 139 ⟨ic139, rs139, 1⟩ .leaf) 140 ⟨ic140, rs140, 1⟩ (.node .leaf 141 ⟨ic141, rs141, 1⟩ .leaf))) 142 ⟨ic142, rs142, 1⟩ (.node (.node (.node .leaf 143 ⟨ic143, rs143, 1⟩ .leaf) 144 ⟨ic144, rs144, 1⟩ (.node .leaf 145 ⟨ic145, rs145, 1⟩ .leaf)) 146 ⟨ic146, rs146, 1⟩ (.node (.node .leaf 147 ⟨ic147, rs147, 1⟩ .leaf) 148 ⟨ic148, rs148, 1⟩ (.node .leaf 149 ⟨ic149, rs149, 1⟩ .leaf)))))))
theorem tr_ok : TOK Tryz.prog tr.get := Tr.ok ⟨⟨⟨⟨⟨⟨⟨trivial, ⟨_, _, fn17⟩, trivial⟩, ⟨_, _, fn18⟩, ⟨trivial, ⟨_, _, fn19⟩, trivial⟩⟩, ⟨_, _, fn20⟩, ⟨⟨trivial, ⟨_, _, fn21⟩, trivial⟩, ⟨_, _, fn22⟩, ⟨trivial, ⟨_, _, fn23⟩, trivial⟩⟩⟩, ⟨_, _, fn24⟩, ⟨⟨⟨trivial, ⟨_, _, fn25⟩, trivial⟩, ⟨_, _, fn26⟩, ⟨trivial, ⟨_, _, fn27⟩, trivial⟩⟩, ⟨_, _, fn28⟩, ⟨⟨trivial, ⟨_, _, fn29⟩, trivial⟩, ⟨_, _, fn30⟩, ⟨trivial, ⟨_, _, fn31⟩, trivial⟩⟩⟩⟩, ⟨_, _, fn32⟩, ⟨⟨⟨⟨trivial, ⟨_, _, fn33⟩, trivial⟩, ⟨_, _, fn34⟩, ⟨trivial, ⟨_, _, fn35⟩, trivial⟩⟩, ⟨_, _, fn36⟩, ⟨⟨trivial, ⟨_, _, fn37⟩, trivial⟩, ⟨_, _, fn38⟩, ⟨trivial, ⟨_, _, fn39⟩, trivial⟩⟩⟩, ⟨_, _, fn40⟩, ⟨⟨⟨trivial, ⟨_, _, fn41⟩, trivial⟩, ⟨_, _, fn42⟩, ⟨trivial, ⟨_, _, fn43⟩, trivial⟩⟩, ⟨_, _, fn44⟩, ⟨⟨trivial, ⟨_, _, fn45⟩, trivial⟩, ⟨_, _, fn46⟩, ⟨trivial, ⟨_, _, fn47⟩, trivial⟩⟩⟩⟩⟩, ⟨_, _, fn48⟩, ⟨⟨⟨⟨⟨trivial, ⟨_, _, fn49⟩, trivial⟩, ⟨_, _, fn53⟩, ⟨trivial, ⟨_, _, fn54⟩, trivial⟩⟩, ⟨_, _, fn56⟩, ⟨⟨trivial, ⟨_, _, fn57⟩, trivial⟩, ⟨_, _, fn59⟩, ⟨trivial, ⟨_, _, fn60⟩, trivial⟩⟩⟩, ⟨_, _, fn61⟩, ⟨⟨⟨trivial, ⟨_, _, fn62⟩, trivial⟩, ⟨_, _, fn63⟩, ⟨trivial, ⟨_, _, fn64⟩, trivial⟩⟩, ⟨_, _, fn65⟩, ⟨⟨trivial, ⟨_, _, fn66⟩, trivial⟩, ⟨_, _, fn67⟩, ⟨trivial, ⟨_, _, fn68⟩, trivial⟩⟩⟩⟩, ⟨_, _, fn69⟩, ⟨⟨⟨⟨trivial, ⟨_, _, fn70⟩, trivial⟩, ⟨_, _, fn71⟩, ⟨trivial, ⟨_, _, fn72⟩, trivial⟩⟩, ⟨_, _, fn73⟩, ⟨⟨trivial, ⟨_, _, fn74⟩, trivial⟩, ⟨_, _, fn75⟩, ⟨trivial, ⟨_, _, fn76⟩, trivial⟩⟩⟩, ⟨_, _, fn77⟩, ⟨⟨⟨trivial, ⟨_, _, fn78⟩, trivial⟩, ⟨_, _, fn79⟩, ⟨trivial, ⟨_, _, fn80⟩, trivial⟩⟩, ⟨_, _, fn81⟩, ⟨⟨trivial, ⟨_, _, fn82⟩, trivial⟩, ⟨_, _, fn83⟩, ⟨trivial, ⟨_, _, fn84⟩, trivial⟩⟩⟩⟩⟩⟩, ⟨_, _, fn85⟩, ⟨⟨⟨⟨⟨⟨trivial, ⟨_, _, fn86⟩, trivial⟩, ⟨_, _, fn87⟩, ⟨trivial, ⟨_, _, fn88⟩, trivial⟩⟩, ⟨_, _, fn89⟩, ⟨⟨trivial, ⟨_, _, fn90⟩, trivial⟩, ⟨_, _, fn91⟩, ⟨trivial, ⟨_, _, fn92⟩, trivial⟩⟩⟩, ⟨_, _, fn94⟩, ⟨⟨⟨trivial, ⟨_, _, fn95⟩, trivial⟩, ⟨_, _, fn96⟩, ⟨trivial, ⟨_, _, fn97⟩, trivial⟩⟩, ⟨_, _, fn98⟩, ⟨⟨trivial, ⟨_, _, fn99⟩, trivial⟩, ⟨_, _, fn100⟩, ⟨trivial, ⟨_, _, fn101⟩, trivial⟩⟩⟩⟩, ⟨_, _, fn102⟩, ⟨⟨⟨⟨trivial, ⟨_, _, fn103⟩, trivial⟩, ⟨_, _, fn104⟩, ⟨trivial, ⟨_, _, fn105⟩, trivial⟩⟩, ⟨_, _, fn106⟩, ⟨⟨trivial, ⟨_, _, fn107⟩, trivial⟩, ⟨_, _, fn108⟩, ⟨trivial, ⟨_, _, fn109⟩, trivial⟩⟩⟩, ⟨_, _, fn110⟩, ⟨⟨⟨trivial, ⟨_, _, fn111⟩, trivial⟩, ⟨_, _, fn112⟩, ⟨trivial, ⟨_, _, fn113⟩, trivial⟩⟩, ⟨_, _, fn114⟩, ⟨⟨trivial, ⟨_, _, fn115⟩, trivial⟩, ⟨_, _, fn116⟩, ⟨trivial, ⟨_, _, fn117⟩, trivial⟩⟩⟩⟩⟩, ⟨_, _, fn118⟩, ⟨⟨⟨⟨⟨trivial, ⟨_, _, fn119⟩, trivial⟩, ⟨_, _, fn120⟩, ⟨trivial, ⟨_, _, fn121⟩, trivial⟩⟩, ⟨_, _, fn122⟩, ⟨⟨trivial, ⟨_, _, fn123⟩, trivial⟩, ⟨_, _, fn124⟩, ⟨trivial, ⟨_, _, fn125⟩, trivial⟩⟩⟩, ⟨_, _, fn126⟩, ⟨⟨⟨trivial, ⟨_, _, fn127⟩, trivial⟩, ⟨_, _, fn128⟩, ⟨trivial, ⟨_, _, fn129⟩, trivial⟩⟩, ⟨_, _, fn130⟩, ⟨⟨trivial, ⟨_, _, fn131⟩, trivial⟩, ⟨_, _, fn132⟩, ⟨trivial, ⟨_, _, fn133⟩, trivial⟩⟩⟩⟩, ⟨_, _, fn134⟩, ⟨⟨⟨⟨trivial, ⟨_, _, fn135⟩, trivial⟩, ⟨_, _, fn136⟩, ⟨trivial, ⟨_, _, fn137⟩, trivial⟩⟩, ⟨_, _, fn138⟩, ⟨⟨trivial, ⟨_, _, fn139⟩, trivial⟩, ⟨_, _, fn140⟩, ⟨trivial, ⟨_, _, fn141⟩, trivial⟩⟩⟩, ⟨_, _, fn142⟩, ⟨⟨⟨trivial, ⟨_, _, fn143⟩, trivial⟩, ⟨_, _, fn144⟩, ⟨trivial, ⟨_, _, fn145⟩, trivial⟩⟩, ⟨_, _, fn146⟩, ⟨⟨trivial, ⟨_, _, fn147⟩, trivial⟩, ⟨_, _, fn148⟩, ⟨trivial, ⟨_, _, fn149⟩, trivial⟩⟩⟩⟩⟩⟩⟩
def fxB (k : Int) (b now : Nat) : Bool := if k = 0 then decide (less b now = 0) else decide (b &&& now ≠ 0)
def goX : List (Int × Nat) → Nat → Nat → Nat → Nat
 | [], _, _, acc => acc
 | x :: r, i, now, acc => fN (if !now.testBit i && fxB x.1 x.2 now then acc ||| 2 ^ i else acc) fun acc => goX r (i + 1) now acc
def kbs (J : List Lg) : List (Int × Nat) := J.map fun p => (p.1, setB p.2.1)
theorem kbs_drop {J : List Lg} {i : Nat} (h : i < J.length) : (kbs J).drop i = (kd J i, (byB J).getD i 0) :: (kbs J).drop (i + 1) := by
 have h1 : i < (kbs J).length := by simpa [kbs] using h
 have hk : (kbs J)[i]? = some (kd J i, (byB J).getD i 0) := by
  unfold kbs kd byB
  simp [List.getD_eq_getElem?_getD, h]
 obtain ⟨h2, h3⟩ := List.getElem?_eq_some_iff.1 hk
 rw [List.drop_eq_getElem_cons h1, h3]
theorem goX_eq {J : List Lg} {now : Nat} : ∀ {n i : Nat}, i + n = J.length → goX ((kbs J).drop i) i now (newTo J (byB J) now i) = newTo J (byB J) now J.length
 | 0, i, h => by
  have : (kbs J).drop i = [] := by rw [List.drop_eq_nil_iff]; simp [kbs]; omega
  rw [this, show i = J.length by omega]
  rfl
 | n + 1, i, h => by
  rw [kbs_drop (by omega), goX, fN_eq]
  have e : (if !now.testBit i && fxB (kd J i) ((byB J).getD i 0) now then newTo J (byB J) now i ||| 2 ^ i else newTo J (byB J) now i) = newTo J (byB J) now (i + 1) := rfl
  rw [e]
  exact goX_eq (n := n) (by omega)
def rX (L : List (Int × Nat)) : Nat → Nat → Nat
 | 0, g => g
 | r + 1, g => fN (goX L 0 g g) fun g => rX L r g
theorem rX_eq {J : List Lg} {s : Nat} : ∀ {n r : Nat}, rX (kbs J) n (gk J (byB J) s r) = gk J (byB J) s (r + n)
 | 0, r => rfl
 | n + 1, r => by
  rw [rX, fN_eq]
  have h := goX_eq (J := J) (now := gk J (byB J) s r) (n := J.length) (i := 0) (by omega)
  rw [List.drop_zero] at h
  have e : newTo J (byB J) (gk J (byB J) s r) 0 = gk J (byB J) s r := rfl
  rw [e] at h
  rw [h]
  have := rX_eq (J := J) (s := s) (n := n) (r := r + 1)
  rw [show r + (n + 1) = r + 1 + n by omega]
  exact this
theorem wr_neg {J : List Lg} {B : List Nat} {keys j : Nat} : ∀ {r : Nat}, wr J B keys r j < 0 ↔ j < J.length ∧ (gk J B keys r).testBit j = false
 | 0 => by
  simp only [wr, gk]
  split
  ·rename_i h; simp [h]
  ·rename_i h; simp at h ⊢; intro h1 ; simp [h h1]
 | r + 1 => by
  have ih := wr_neg (J := J) (B := B) (keys := keys) (j := j) (r := r)
  have hb : (gk J B keys (r + 1)).testBit j = ((gk J B keys r).testBit j || (decide (j < J.length) && frB J B j (gk J B keys r))) := newTo_bit
  rw [hb]
  simp only [wr]
  split
  ·rename_i h
   obtain ⟨h1, h2⟩ := h
   simp at h2
   simp [h1, h2]
   omega
  ·rename_i h
   rw [ih]
   constructor
   ·rintro ⟨h1, h2⟩
    refine ⟨h1, ?_⟩
    simp [h1, h2] at h ⊢
    exact h
   ·rintro ⟨h1, h2⟩
    simp at h2
    exact ⟨h1, h2.1⟩
theorem left_eq {J : List Lg} {s : Nat} : left J s = less (2 ^ J.length - 1) (gk J (byB J) s J.length) := by
 apply Nat.eq_of_testBit_eq
 intro j
 unfold left
 rw [leftTo_bit, less_bit, Nat.testBit_two_pow_sub_one]
 by_cases h : j < J.length
 ·cases hg : (gk J (byB J) s J.length).testBit j with
  | false => simp [h, wr_neg, hg]
  | true => simp [h, wr_neg, hg]
 ·simp [h]
def goE (L : List (Int × Nat)) (N full : Nat) : Nat → Nat → List (V × V)
 | 0, _ => []
 | n + 1, s => fN (less full (rX L N s)) fun l => match l with | 0 => goE L N full n (s + 1) | l + 1 => (.agg [.i .u16 s], .i .u16 (l + 1 : Nat)) :: goE L N full n (s + 1)
theorem goE_eq {J : List Lg} : ∀ {n s : Nat}, goE (kbs J) J.length (2 ^ J.length - 1) n s = (mpV (((List.range' s n).map (entS (left J))).filter (goodE (left J)))).map (·.2)
 | 0, s => rfl
 | n + 1, s => by
  rw [goE, fN_eq]
  have h := rX_eq (J := J) (s := s) (n := J.length) (r := 0)
  have e : gk J (byB J) s 0 = s := rfl
  rw [e, Nat.zero_add] at h
  rw [h, ← left_eq, List.range'_succ, List.map_cons]
  have ih := goE_eq (J := J) (n := n) (s := s + 1)
  cases hl : left J s with
  | zero =>
   rw [List.filter_cons_of_neg (by simp [goodE, entS, hl])]
   exact ih
  | succ l =>
   rw [List.filter_cons_of_pos (by simp [goodE, entS, hl])]
   simp only [mpV, List.map_cons] at ih ⊢
   rw [ih]
   simp [entS, hl]
def decI : List V → Option (List Int)
 | [] => some []
 | .i .i64 a :: r => match decI r with
  | some l => fI a fun a => some (a :: l)
  | none => none
 | _ => none
theorem decI_ok : ∀ {l : List V} {D : List Int}, decI l = some D → l = ints D
 | [], D, h => by simp only [decI, Option.some.injEq] at h; subst h; rfl
 | x :: r, D, h => by
  unfold decI at h
  split at h
  ·cases h; simp_all
  ·rename_i a r' he
   cases he
   split at h
   ·rename_i l hl
    simp only [fI_eq, Option.some.injEq] at h
    subst h
    rw [decI_ok hl]; rfl
   ·cases h
  ·cases h
def decJ : List V → Option (List Lg)
 | [] => some []
 | .i .i64 a :: .ss b n f :: r => match decJ r, decI b with
  | some l, some b => if n = b.length then fI a fun a => some ((a, b, f) :: l) else none
  | _, _ => none
 | _ => none
theorem decJ_ok : ∀ {l : List V} {J : List Lg}, decJ l = some J → l = lgV J
 | [], D, h => by simp only [decJ, Option.some.injEq] at h; subst h; rfl
 | x :: r, D, h => by
  unfold decJ at h
  split at h
  ·cases h; simp_all
  ·rename_i a b n f r' he
   cases he
   split at h
   ·rename_i l b' hl hb
    split at h
    ·rename_i hn
     simp only [fI_eq, Option.some.injEq] at h
     subst h
     rw [decJ_ok hl, decI_ok hb, hn]; rfl
    ·cases h
   ·cases h
  ·cases h
def okJ (J : List Lg) : Bool := decide (1 ≤ J.length) && decide (J.length ≤ 12) && J.all fun p => (p.2.1.all fun x => decide (0 ≤ x) && decide (x < 12)) && decide (p.2.1.length ≤ 1000000)
theorem okJ_ok {J : List Lg} (h : okJ J = true) : JOK J := by
 unfold okJ at h
 simp only [Bool.and_eq_true, decide_eq_true_eq, List.all_eq_true] at h
 exact ⟨h.1.1, h.1.2, fun p hp => ⟨fun x hx => (h.2 p hp).1 x hx, (h.2 p hp).2⟩⟩
def orcS : FuncId → List V → Option V := fun f args =>
 match Nat.beq f 96 with
 | true => match args with
  | [.agg [.ss d m fb]] => match decJ d with
   | some J => match m == J.length && okJ J with
    | true => fV (hpV J fb (byB J) (J.length == 0) (.sm (goE (kbs J) J.length (2 ^ J.length - 1) (2 ^ J.length) 0))) fun v => some v
    | false => none
   | none => none
  | _ => none
 | false => none
theorem orcS_ok : OrcOK Tryz.prog orcS := by
 intro f args v h
 unfold orcS at h
 split at h
 ·rename_i hf
  have := Nat.eq_of_beq_eq_true hf
  subst this
  split at h
  ·rename_i d m fb
   split at h
   ·rename_i J h1
    split at h
    ·rename_i hc
     simp only [Bool.and_eq_true, beq_iff_eq] at hc
     obtain ⟨rfl, c2⟩ := hc
     have e := decJ_ok h1
     subst e
     have hr := goE_eq (J := J) (n := 2 ^ J.length) (s := 0)
     rw [← List.range_eq_range'] at hr
     rw [fV_eq, hr] at h
     cases h
     exact newHeap96 (okJ_ok c2) rfl
    ·cases h
   ·cases h
  ·cases h
 ·cases h
def oiS : Oi := fun f first cap _ =>
 match Nat.beq f 115 with
 | true => match first, cap with
  | [], [.sp [.sp [.ss d m fb, b, st] 0] 0] => match decJ d with
   | some J => match m == J.length && Nat.ble m 12 with
    | true => some ((List.range (2 ^ J.length)).map fun (i : Nat) => [V.i .u16 (i : Int)], fun _ => true)
    | false => none
   | none => none
  | _, _ => none
 | false => none
theorem oiS_ok : ∀ f a b σ xs pre, oiS f a b σ = some (xs, pre) → ItT f a b xs.length (fun i x _ g => xs[i]? = some x ∧ g = []) (fun σ => pre σ = true) := by
 intro f a b σ xs pre h
 unfold oiS at h
 split at h
 ·rename_i hf
  have := Nat.eq_of_beq_eq_true hf
  subst this
  split at h
  ·rename_i d m fb b st
   split at h
   ·rename_i J h1
    split at h
    ·rename_i hc
     simp only [Bool.and_eq_true, beq_iff_eq, Nat.ble_eq] at hc
     obtain ⟨rfl, c2⟩ := hc
     have e := decJ_ok h1
     subst e
     cases h
     have := sets_itF (J := J) (f := fb) (b := b) (st := st) c2 rfl
     rw [show ((List.range (2 ^ J.length)).map fun (i : Nat) => [V.i .u16 (i : Int)]).length = 2 ^ J.length by simp]
     refine this.imp (fun i x σ g hi hx => ?_) (fun _ _ => trivial)
     obtain ⟨rfl, rfl⟩ := hx
     refine ⟨?_, rfl⟩
     simp [hi]
    ·cases h
   ·cases h
  ·cases h
 ·cases h
def runY (f : FuncId) (args : List V) : Option (V × List O) := (callsX tr.get orcS oiS 3000 20).1 f args []
theorem runY_ok {f : FuncId} {args : List V} {v : V} (h : runY f args = some (v, [])) : FSpec Tryz.prog f args [] v [] := run_sound tr_ok orcS_ok mixed itT_ok oiS_ok h
end Go.Ab
end
section
namespace Go.Ab
open Go Go.Proofs
theorem left_N {J : List Lg} {s : Nat} : left J s < 2 ^ J.length := by
 refine Nat.lt_pow_two_of_testBit _ fun i hi => ?_
 unfold left
 rw [leftTo_bit]
 simp
 intro h
 omega
theorem bl_sh {s : Nat} : ∀ {k j : Nat}, s < 2 ^ k → bl s (k + j) = bl s k
 | k, 0, _ => rfl
 | k, j + 1, h => by
  have : s.testBit (k + j) = false := Nat.testBit_lt_two_pow (Nat.lt_of_lt_of_le h (Nat.pow_le_pow_right (by omega) (by omega)))
  rw [show k + (j + 1) = (k + j) + 1 by omega, bl, this]
  exact bl_sh h
theorem left_bit {J : List Lg} {s j : Nat} (hj : j < J.length) : (left J s).testBit j = decide (wr J (byB J) s J.length j < 0) := by
 unfold left
 rw [leftTo_bit]
 simp [hj]
section
variable {J : List Lg} {f fk : Bool} {k : List Int} {σ : List O}
end
end Go.Ab
end
section
namespace Go.Ab
open Go Go.Proofs
theorem isLF_iff {N : Int} : ∀ {l : List Int} {nx : Int}, isLF N nx l = true ↔ l.Pairwise (· < ·) ∧ ∀ x ∈ l, nx ≤ x ∧ x < N
 | [], nx => by simp [isLF]
 | y :: r, nx => by
  have ih := isLF_iff (N := N) (l := r) (nx := y + 1)
  simp only [isLF, fit, Bool.and_eq_true, decide_eq_true_eq]
  rw [ih, List.pairwise_cons]
  constructor
  ·rintro ⟨⟨h1, h2⟩, h3, h4⟩
   refine ⟨⟨fun x hx => by have := h4 x hx; omega, h3⟩, fun x hx => ?_⟩
   rcases List.mem_cons.1 hx with rfl | hx
   ·omega
   ·have := h4 x hx; omega
  ·rintro ⟨⟨h1, h2⟩, h3⟩
   have h4 := h3 y (List.mem_cons_self ..)
   exact ⟨⟨h4.1, by omega⟩, h2, fun x hx => ⟨by have := h1 x hx; omega, (h3 x (List.mem_cons_of_mem _ hx)).2⟩⟩
theorem bl_mem {s : Nat} {x : Int} : ∀ {k : Nat}, x ∈ bl s k ↔ ∃ j : Nat, j < k ∧ x = j ∧ s.testBit j = true
 | 0 => by simp [bl]
 | k + 1 => by
  have ih := bl_mem (s := s) (x := x) (k := k)
  simp only [bl]
  split
  ·rename_i h
   rw [List.mem_append, ih, List.mem_singleton]
   constructor
   ·rintro (⟨j, h1, h2, h3⟩ | rfl)
    ·exact ⟨j, by omega, h2, h3⟩
    ·exact ⟨k, by omega, rfl, h⟩
   ·rintro ⟨j, h1, h2, h3⟩
    by_cases hj : j = k
    ·exact .inr (by rw [h2, hj])
    ·exact .inl ⟨j, by omega, h2, h3⟩
  ·rename_i h
   rw [ih]
   constructor
   ·rintro ⟨j, h1, h2, h3⟩; exact ⟨j, by omega, h2, h3⟩
   ·rintro ⟨j, h1, h2, h3⟩
    by_cases hj : j = k
    ·rw [hj] at h3; exact absurd h3 h
    ·exact ⟨j, by omega, h2, h3⟩
theorem bl_sorted {s : Nat} : ∀ {k : Nat}, (bl s k).Pairwise (· < ·)
 | 0 => by simp [bl]
 | k + 1 => by
  have ih := bl_sorted (s := s) (k := k)
  simp only [bl]
  split
  ·rw [List.pairwise_append]
   refine ⟨ih, by simp, fun a ha b hb => ?_⟩
   rw [List.mem_singleton] at hb
   obtain ⟨j, h1, h2, -⟩ := bl_mem.1 ha
   omega
  ·exact ih
theorem bit_small {s N j : Nat} (h : s < 2 ^ N) (hj : s.testBit j = true) : j < N := by
 false_or_by_contra
 rename_i hn
 have := Nat.testBit_lt_two_pow (Nat.lt_of_lt_of_le h (Nat.pow_le_pow_right (n := 2) (by omega) (by omega : N ≤ j)))
 rw [hj] at this; cases this
theorem isL_bl {s N k : Nat} (h : s < 2 ^ N) : isL N (bl s k) = true := by
 unfold isL
 rw [isLF_iff]
 refine ⟨bl_sorted, fun x hx => ?_⟩
 obtain ⟨j, h1, h2, h3⟩ := bl_mem.1 hx
 have := bit_small h h3
 omega
theorem setB_bl {s k : Nat} (h : s < 2 ^ k) : setB (bl s k) = s := by
 apply Nat.eq_of_testBit_eq
 intro j
 have hb := setB_bit (l := bl s k) (fun x hx => by obtain ⟨j, -, h2, -⟩ := bl_mem.1 hx; omega) (j := j)
 rw [Bool.eq_iff_iff, hb, bl_mem]
 constructor
 ·rintro ⟨i, h1, h2, h3⟩
  have : i = j := by omega
  rw [← this]; exact h3
 ·intro h1
  exact ⟨j, bit_small h h1, rfl, h1⟩
theorem ssort_eq : ∀ {a b : List Int}, a.Pairwise (· < ·) → b.Pairwise (· < ·) → (∀ x, x ∈ a ↔ x ∈ b) → a = b
 | [], [], _, _, _ => rfl
 | [], y :: b, _, _, h => by have := (h y).2 (List.mem_cons_self ..); cases this
 | x :: a, [], _, _, h => by have := (h x).1 (List.mem_cons_self ..); cases this
 | x :: a, y :: b, ha, hb, h => by
  rw [List.pairwise_cons] at ha hb
  have hxy : x = y := by
   have h1 := (h x).1 (List.mem_cons_self ..)
   have h2 := (h y).2 (List.mem_cons_self ..)
   rw [List.mem_cons] at h1 h2
   rcases h1 with h1 | h1
   ·exact h1
   ·rcases h2 with h2 | h2
    ·exact h2.symm
    ·have := hb.1 x h1
     have := ha.1 y h2
     omega
  subst hxy
  congr 1
  refine ssort_eq ha.2 hb.2 fun z => ?_
  have := h z
  rw [List.mem_cons, List.mem_cons] at this
  constructor
  ·intro hz
   rcases this.1 (.inr hz) with h1 | h1
   ·have := ha.1 z hz; omega
   ·exact h1
  ·intro hz
   rcases this.2 (.inr hz) with h1 | h1
   ·have := hb.1 z hz; omega
   ·exact h1
theorem bl_setB {l : List Int} {N k : Nat} (h : isL N l = true) (hk : N ≤ k) : bl (setB l) k = l := by
 have hm := isLF_mem h
 refine ssort_eq bl_sorted (isLF_iff.1 h).1 fun x => ?_
 rw [bl_mem]
 constructor
 ·rintro ⟨j, -, rfl, hj⟩
  exact (setB_bit (fun x hx => (hm x hx).1)).1 hj
 ·intro hx
  have := hm x hx
  refine ⟨x.toNat, by omega, by omega, (setB_bit (fun x hx => (hm x hx).1)).2 ?_⟩
  rw [show ((x.toNat : Nat) : Int) = x by omega]
  exact hx
end Go.Ab
end
section
namespace Go.Ab
open Go Go.Proofs
def cmpl (s : Nat) : Nat := 65535 ^^^ s
theorem cmpl_bit {s j : Nat} (hs : s < 65536) : (cmpl s).testBit j = (decide (j < 16) && !s.testBit j) := by
 unfold cmpl
 rw [Nat.testBit_xor, show 65535 = 2 ^ 16 - 1 from rfl, Nat.testBit_two_pow_sub_one]
 by_cases h : j < 16
 ·simp [h]
 ·have : s.testBit j = false := Nat.testBit_lt_two_pow (Nat.lt_of_lt_of_le (show s < 2 ^ 16 from hs) (Nat.pow_le_pow_right (by omega) (by omega)))
  simp [h, this]
theorem cmpl_lt {s : Nat} (hs : s < 65536) : cmpl s < 65536 := Nat.xor_lt_two_pow (n := 16) (by omega) hs
theorem com_nat {s : Nat} (hs : s < 65536) : bitop .xor .u16 65535 (s : Int) = ((cmpl s : Nat) : Int) := by
 unfold bitop cmpl
 simp only
 have e1 : (BitVec.ofInt IntKind.u16.bits 65535).toNat = 65535 := by decide
 have e2 : (BitVec.ofInt IntKind.u16.bits (s : Int)).toNat = s := ofInt_nat hs
 rw [BitVec.toNat_xor, e1, e2]
 have := cmpl_lt hs
 unfold cmpl at this
 exact wrapu (by omega) (by omega)
def freeAny (J : List Lg) (s : Nat) (l : List Int) : Bool := l.any fun n => frB J (byB J) n.toNat (cmpl s)
def lockB (J : List Lg) (s : Nat) : Bool := decide (s ≠ 0) && !freeAny J s (bl s 12)
theorem isLock89 {J : List Lg} {f : Bool} {s : Nat} {σ : List O} (hJ : JOK J) (hs : s < 2 ^ J.length) : FSpec Tryz.prog 89 [heapV J f, .i .u16 s] σ (.b (lockB J s)) σ := by
 refine FSpec.frame (σ := σ) ?_ (by simp) rfl
 have hN := hJ.2.1
 have hpw := pow12 hN
 have hs16 : s < 65536 := by omega
 have hfr := fun σ n hn => free97 (fJ := f) (fb := J.length == 0) (st := stV (left J) (2 ^ J.length)) (n := n) (now := cmpl s) (σ := σ) hJ.small hn (by omega) (cmpl_lt hs16) pure_stV
 have hbl := bl_len (s := s) (k := 12)
 refine fn89.spec0 mixed noIt_ok ?_
 rw [ic89]
 have hcom := com_nat hs16
 generalize hH : heapV J f = H at *
 have hHe : hpV J f (byB J) (J.length == 0) (stV (left J) (2 ^ J.length)) = H := hH
 rw [hHe] at hfr
 refine ab_seq_k fun K1 h1 => ?_
 simp
 refine h1 _ _ _ ?_
 clear h1 K1
 refine ab_seq_k fun K2 h2 => ?_
 refine ab_seq_k fun K3 h3 => ?_
 simp
 refine callK_of (list68 hs16) ?_
 simp
 refine h3 _ _ _ ?_
 clear h3 K3
 refine ab_block_k fun K4 h4 => ?_
 refine ab_loop_k (fun m env σ => ∃ i : Nat, i + m = (bl s 12).length ∧ freeAny J s (bl s 12) = freeAny J s ((bl s 12).drop i) ∧ env = [(0, H), (1, .i .u16 s), (8, sl (bl s 12) ((bl s 12).length == 0)), (9, .i .i64 (bl s 12).length), (10, .i .i64 i)] ∧ σ = []) (bl s 12).length ⟨0, by omega, by simp, by simp, rfl⟩ ?_
 rintro m env σ ⟨i, hi, hd, rfl, rfl⟩ K5 h5
 rw [ic89_0]
 refine ab_seq_k fun K6 h6 => ?_
 simp
 refine h6 _ _ _ ?_
 clear h6 K6
 refine ab_seq_k fun K7 h7 => ?_
 refine ab_cond_of rfl (fun hc => ?_) (fun hc => ?_)
 ·have hil : i < (bl s 12).length := by simpa using hc
  obtain ⟨b1, b2, bm⟩ := getD_get hil
  rw [List.drop_eq_getElem_cons hil, b2] at hd
  obtain ⟨x, hx12, hxe, hxb⟩ := bl_mem.1 bm
  generalize (bl s 12).getD i 0 = y at *
  subst hxe
  have hxN : x < J.length := bit_small hs hxb
  simp only [freeAny, List.any_cons, Int.toNat_natCast] at hd
  simp
  refine h7 _ _ _ ?_
  clear h7 K7
  refine ab_seq_k fun K8 h8 => ?_
  refine ab_block_k fun K9 h9 => ?_
  refine ab_seq_k fun K10 h10 => ?_
  simp [hil, b1, b2]
  refine h10 _ _ _ ?_
  clear h10 K10
  refine ab_seq_k fun K11 h11 => ?_
  have hmx : IntKind.u16.max = 65535 := rfl
  have hsg : IntKind.u16.signed = false := rfl
  simp [hmx, hsg]
  rw [hcom]
  refine callK_of (hfr _ x hxN) ?_
  simp
  refine h11 _ _ _ ?_
  clear h11 K11
  cases hf : frB J (byB J) x (cmpl s) with
  | true =>
   rw [hf] at hd
   refine ab_cond_of rfl (fun _ => ?_) (fun h => by cases h)
   refine ab_seq_k fun K12 h12 => ?_
   simp
   refine h12 _ _ _ ?_
   clear h12 K12
   simp
   refine fin_of 1 ?_
   have : lockB J s = false := by unfold lockB freeAny; rw [hd]; simp
   simp [rs89, this]
  | false =>
   rw [hf, Bool.false_or] at hd
   refine ab_cond_of rfl (fun h => by cases h) (fun _ => ?_)
   simp
   refine h9 _ _ _ (h8 _ _ _ ?_)
   simp [wrap64 (x := (i : Int) + 1) (by omega) (by omega)]
   exact h5 _ _ _ (again (m - 1) (by omega) ⟨i + 1, by omega, hd, by simp, rfl⟩)
 ·have hil : (bl s 12).length ≤ i := by simp at hc; omega
  rw [List.drop_of_length_le hil] at hd
  simp
  refine h4 _ _ _ (h2 _ _ _ ?_)
  refine ab_seq_k fun K12 h12 => ?_
  simp
  refine h12 _ _ _ ?_
  clear h12 K12
  simp
  refine fin_of 1 ?_
  have : lockB J s = decide (s ≠ 0) := by unfold lockB; rw [hd]; simp [freeAny]
  simp [rs89, this]
end Go.Ab
end
section
section
namespace Go.Ab
open Go Go.Proofs
def rowV (n : Nat) (F : Nat → V) : List V := (List.range n).map F
@[simp] theorem rowV_len {n F} : (rowV n F).length = n := by simp [rowV]
theorem rowV_get {n : Nat} {F : Nat → V} {k : Nat} (h : k < n) : (rowV n F)[k]? = some (F k) := by simp [rowV, h]
@[simp] theorem rowV_at {n : Nat} {F : Nat → V} {k : Nat} {h : k < (rowV n F).length} : (rowV n F)[k] = F k := by simp [rowV]
def updV (F : Nat → V) (k : Nat) (x : V) : Nat → V := fun i => if i = k then x else F i
theorem rowV_set {n : Nat} {F : Nat → V} {k : Nat} {x : V} : (rowV n F).set k x = rowV n (updV F k x) := by
 apply List.ext_getElem?
 intro i
 by_cases hi : i < n
 ·rw [rowV_get hi]
  unfold updV
  by_cases hk : i = k
  ·subst hk
   rw [if_pos rfl, List.getElem?_set_self (by simpa using hi)]
  ·rw [if_neg hk, List.getElem?_set_ne (fun e => hk e.symm), rowV_get hi]
 ·rw [List.getElem?_eq_none (by simpa using hi), List.getElem?_eq_none (by simpa using hi)]
def swp (F : Nat → V) (i j : Nat) : Nat → V := updV (updV F i (F j)) j (F i)
theorem swp_at {F : Nat → V} {i j k : Nat} : swp F i j k = if k = j then F i else if k = i then F j else F k := rfl
theorem rowV_swp {n : Nat} {F : Nat → V} {i j : Nat} : ((rowV n F).set i (F j)).set j (F i) = rowV n (swp F i j) := by
 rw [rowV_set, rowV_set]; rfl
theorem rowV_perm {n : Nat} {F : Nat → V} {i j : Nat} (hi : i < n) (hj : j < n) : (rowV n (swp F i j)).Perm (rowV n F) := by
 rw [← rowV_swp]
 have := @List.set_set_perm _ (rowV n F) i j (by simpa using hi) (by simpa using hj)
 simpa using this
inductive Sw (a b : Nat) : (Nat → V) → (Nat → V) → Prop where
 | refl (F : Nat → V) : Sw a b F F
 | step {F G : Nat → V} (i j : Nat) (h : Sw a b F G) (h1 : a ≤ i) (h2 : i < b) (h3 : a ≤ j) (h4 : j < b) : Sw a b F (swp G i j)
theorem Sw.trans {a b : Nat} {F G H : Nat → V} (h1 : Sw a b F G) (h2 : Sw a b G H) : Sw a b F H := by
 induction h2 with
 | refl => exact h1
 | step i j _ a1 a2 a3 a4 ih => exact .step i j ih a1 a2 a3 a4
theorem Sw.mono {a b a' b' : Nat} {F G : Nat → V} (h : Sw a b F G) (ha : a' ≤ a) (hb : b ≤ b') : Sw a' b' F G := by
 induction h with
 | refl => exact .refl _
 | step i j _ a1 a2 a3 a4 ih => exact .step i j ih (by omega) (by omega) (by omega) (by omega)
theorem Sw.out {a b : Nat} {F G : Nat → V} (h : Sw a b F G) {k : Nat} (hk : k < a ∨ b ≤ k) : G k = F k := by
 induction h with
 | refl => rfl
 | step i j _ a1 a2 a3 a4 ih => rw [swp_at, if_neg (by omega), if_neg (by omega), ih]
theorem Sw.src {a b : Nat} {F G : Nat → V} (h : Sw a b F G) : ∀ {k : Nat}, a ≤ k → k < b → ∃ k', a ≤ k' ∧ k' < b ∧ G k = F k' := by
 induction h with
 | refl => intro k h1 h2; exact ⟨k, h1, h2, rfl⟩
 | step i j _ a1 a2 a3 a4 ih =>
  intro k h1 h2
  rw [swp_at]
  split
  ·exact ih a1 a2
  ·split
   ·exact ih a3 a4
   ·exact ih h1 h2
theorem Sw.all {a b : Nat} {F G : Nat → V} (h : Sw a b F G) {p : V → Prop} (hp : ∀ k, a ≤ k → k < b → p (F k)) {k : Nat} (h1 : a ≤ k) (h2 : k < b) : p (G k) := by
 obtain ⟨k', h3, h4, e⟩ := h.src h1 h2
 rw [e]; exact hp k' h3 h4
theorem Sw.alln {a b n : Nat} {F G : Nat → V} (h : Sw a b F G) (hb : b ≤ n) {p : V → Prop} (hp : ∀ k, k < n → p (F k)) {k : Nat} (hk : k < n) : p (G k) := by
 by_cases h1 : a ≤ k ∧ k < b
 ·exact h.all (fun k _ h3 => hp k (by omega)) h1.1 h1.2
 ·rw [h.out (by omega)]; exact hp k hk
theorem Sw.perm {a b n : Nat} {F G : Nat → V} (h : Sw a b F G) (hb : b ≤ n) : (rowV n G).Perm (rowV n F) := by
 induction h with
 | refl => exact List.Perm.refl _
 | step i j _ a1 a2 a3 a4 ih => exact (rowV_perm (by omega) (by omega)).trans ih
theorem Sw.one {a b : Nat} {F : Nat → V} {i j : Nat} (h1 : a ≤ i) (h2 : i < b) (h3 : a ≤ j) (h4 : j < b) : Sw a b F (swp F i j) := .step i j (.refl F) h1 h2 h3 h4
structure CmpOK (cv : V) (D : V → Prop) (lt : V → V → Bool) : Prop where
 call : ∃ fc first cap, cv = .f (.func fc) first cap ∧ ∀ x y (σ : List O), D x → D y → ∃ c, FSpec Tryz.prog fc (first ++ [x, y] ++ cap) σ (.i .i64 c) σ ∧ decide (c < 0) = lt x y
 asym : ∀ x y, D x → D y → lt x y = true → lt y x = false
 ntr : ∀ x y z, D x → D y → D z → lt x y = false → lt y z = false → lt x z = false
 one : ∀ x, D x → cellsOf x = some [x]
 pure : ∀ x, D x → x.pure = true
theorem CmpOK.irr {cv D lt} (h : CmpOK cv D lt) {x : V} (hx : D x) : lt x x = false := by
 cases hl : lt x x with
 | false => rfl
 | true => have := h.asym x x hx hx hl; rw [hl] at this; cases this
theorem CmpOK.tr {cv D lt} (h : CmpOK cv D lt) {x y z : V} (hx : D x) (hy : D y) (hz : D z) (h1 : lt x y = true) (h2 : lt y z = true) : lt x z = true := by
 cases hl : lt x z with
 | true => rfl
 | false =>
  have := h.ntr x z y hx hz hy hl (h.asym y z hy hz h2)
  rw [h1] at this; cases this
theorem callv_cmp {cv D lt} (h : CmpOK cv D lt) {x y : V} (hx : D x) (hy : D y) {Y : Yield} {n0 : Nat} {md : Md} {env : Env} {σ : List O} {dst : Option Nat} {K : Kt} (hk : ∀ c, decide (c < 0) = lt x y → K md (put env dst (.i .i64 c)) σ) : callvK Tryz.prog Y n0 cv md env [x, y] σ dst K := by
 obtain ⟨fc, first, cap, rfl, hc⟩ := h.call
 obtain ⟨c, h1, h2⟩ := hc x y σ hx hy
 exact ⟨_, _, h1, hk c h2⟩
structure DA (σ0 : List O) (id ver n : Nat) (G : Nat → V) (σ : List O) : Prop where
 at_ : σ[id]? = some (.row ver (rowV n G))
 is_ : σ = σ0.set id (.row ver (rowV n G))
theorem DA.mk0 {σ : List O} {id ver n : Nat} {G : Nat → V} (h : σ[id]? = some (.row ver (rowV n G))) : DA σ id ver n G σ := by
 refine ⟨h, ?_⟩
 apply List.ext_getElem?
 intro j
 by_cases hj : j = id
 ·subst hj; rw [List.getElem?_set_self (List.getElem?_eq_some_iff.1 h).1, h]
 ·rw [List.getElem?_set_ne (fun e => hj e.symm)]
theorem DA.put {σ0 σ : List O} {id ver n : Nat} {G H : Nat → V} (h : DA σ0 id ver n G σ) : DA σ0 id ver n H (σ.set id (.row ver (rowV n H))) := by
 obtain ⟨h1, h2⟩ := h
 have hlt := (List.getElem?_eq_some_iff.1 h1).1
 refine ⟨List.getElem?_set_self hlt, ?_⟩
 rw [h2, List.set_set]
def SwQ (σ : List O) (id ver n a b : Nat) (F : Nat → V) (X : (Nat → V) → Prop) (w : V) : V → List O → Prop := fun v σ' => v = w ∧ ∃ G, Sw a b F G ∧ X G ∧ DA σ id ver n G σ'
theorem fin_Q {rs : List IRes} {σ0 σ : List O} {Q : V → List O → Prop} {md : Md} {env : Env} (h : resK rs env σ fun vs => Q (retV vs) σ) : finQ rs σ0 Q md env σ :=
 fun _ => resK_mono h fun vs h => ⟨_, _, h, .inr ⟨rfl, rfl⟩⟩
def Srt (lt : V → V → Bool) (a b : Nat) (F : Nat → V) : Prop := ∀ i j, a ≤ i → i < j → j < b → lt (F j) (F i) = false
abbrev slV (id ver n : Nat) : V := .s id ver 0 n 1
theorem rev_ok {f : FuncId} {fn : Func} {ex : List Nat} (hf : Fn_ Tryz.prog f fn ex grev grrev) {cv : V} {D : V → Prop} {lt : V → V → Bool} (hcmp : CmpOK cv D lt) {σ : List O} {id ver n a b : Nat} {F : Nat → V} (hD : ∀ k, k < n → D (F k)) (hab : a < b) (hbn : b ≤ n) (hn : n ≤ 1000000) (hσ : σ[id]? = some (.row ver (rowV n F))) :
  FSpecQ Tryz.prog f [slV id ver n, .i .i64 a, .i .i64 b, cv] σ (SwQ σ id ver n a b F (fun _ => True) (.tup [])) := by
 refine hf.specQ mixed noIt_ok ?_
 rw [grev]
 refine ab_seq_k fun K1 h1 => ?_
 simp
 refine h1 _ _ _ ?_
 clear h1 K1
 refine ab_seq_k fun K2 h2 => ?_
 simp [wrap64 (x := (b : Int) - 1) (by omega) (by omega)]
 refine h2 _ _ _ ?_
 clear h2 K2
 refine ab_block_k fun K5 h5 => ?_
 refine ab_loop_k (fun m env σ' => ∃ (i : Nat) (j : Int) (G : Nat → V), (j + 1 - i).toNat = m ∧ a ≤ i ∧ i ≤ b ∧ -1 ≤ j ∧ j < b ∧ env = [(0, slV id ver n), (8, .i .i64 i), (9, .i .i64 j)] ∧ Sw a b F G ∧ DA σ id ver n G σ') _ ⟨a, (b : Int) - 1, F, rfl, by omega, by omega, by omega, by omega, by simp, .refl F, DA.mk0 hσ⟩ ?_
 rintro m env σ' ⟨i, j, G, hm, h1, h2, h3, h4, rfl, hsw, hda⟩ K6 h6
 have hat := hda.at_
 obtain ⟨hat1, hat'⟩ := List.getElem?_eq_some_iff.1 hat
 rw [grev_0]
 refine ab_seq_k fun K7 h7 => ?_
 refine ab_seq_k fun K8 h8 => ?_
 simp
 refine h8 _ _ _ ?_
 clear h8 K8
 refine ab_cond_of rfl (fun hc => ?_) (fun hc => ?_)
 ·have hij : (i : Int) < j := by simpa using hc
  obtain ⟨jn, rfl⟩ : ∃ jn : Nat, j = jn := ⟨j.toNat, by omega⟩
  have hin : i < n := by omega
  have hjn : jn < n := by omega
  have hGD := fun k hk => hsw.alln hbn hD (k := k) hk
  have c1 := hcmp.one _ (hGD i hin)
  have c2 := hcmp.one _ (hGD jn hjn)
  simp
  refine h7 _ _ _ ?_
  clear h7 K7
  refine ab_block_k fun K9 h9 => ?_
  refine ab_seq_k fun K10 h10 => ?_
  have hs1 : ∀ c, (σ'.set id c)[id]? = some c := fun c => List.getElem?_set_self hat1
  simp [abDs_consU, drU, recheck_cons, recheck_nil, rcK, IS.dst, hat, hat', hin, hjn, rowV_get, hs1, c1, c2]
  rw [rowV_swp]
  refine h10 _ _ _ ?_
  clear h10 K10
  refine ab_seq_k fun K11 h11 => ?_
  simp [wrap64 (x := (i : Int) + 1) (by omega) (by omega)]
  refine h11 _ _ _ ?_
  clear h11 K11
  simp [wrap64 (x := (jn : Int) - 1) (by omega) (by omega)]
  refine h9 _ _ _ ?_
  exact h6 _ _ _ (again _ (by omega) ⟨i + 1, (jn : Int) - 1, swp G i jn, rfl, by omega, by omega, by omega, by omega, by simp, .step i jn hsw (by omega) (by omega) (by omega) (by omega), hda.put⟩)
 ·simp
  refine h5 _ _ _ (fin_Q ?_)
  simp [grrev]
  exact ⟨rfl, G, hsw, trivial, hda⟩
end Go.Ab
end
section
namespace Go.Ab
open Go Go.Proofs
section
variable {cv : V} {D : V → Prop} {lt : V → V → Bool}
def InsI (lt : V → V → Bool) (a i j : Nat) (G : Nat → V) : Prop := ∀ p q, a ≤ p → p < q → q ≤ i → q ≠ j → lt (G q) (G p) = false
theorem ins_step (hcmp : CmpOK cv D lt) {a i j : Nat} {G : Nat → V} (hD : ∀ k, k ≤ i → D (G k)) (h : InsI lt a i (j + 1) G) (haj : a ≤ j) (hji : j + 1 ≤ i) (hl : lt (G (j + 1)) (G j) = true) : InsI lt a i j (swp G (j + 1) j) := by
 have has := hcmp.asym _ _ (hD (j + 1) (by omega)) (hD j (by omega)) hl
 intro p q h1 h2 h3 h4
 rw [swp_at, swp_at]
 rw [if_neg h4]
 by_cases q1 : q = j + 1
 ·rw [if_pos q1]
  by_cases p1 : p = j
  ·rw [if_pos p1]; exact has
  ·rw [if_neg p1, if_neg (by omega)]
   exact h p j h1 (by omega) (by omega) (by omega)
 ·rw [if_neg q1]
  by_cases p1 : p = j
  ·rw [if_pos p1]
   exact h (j + 1) q (by omega) (by omega) h3 q1
  ·rw [if_neg p1]
   by_cases p2 : p = j + 1
   ·rw [if_pos p2]
    exact h j q haj (by omega) h3 q1
   ·rw [if_neg p2]
    exact h p q h1 h2 h3 q1
theorem ins_done (hcmp : CmpOK cv D lt) {a i j : Nat} {G : Nat → V} (hD : ∀ k, k ≤ i → D (G k)) (h : InsI lt a i j G) (hji : j ≤ i) (hl : a < j → lt (G j) (G (j - 1)) = false) : Srt lt a (i + 1) G := by
 intro p q h1 h2 h3
 by_cases hq : q = j
 ·subst hq
  have h4 := hl (by omega)
  by_cases hp : p = q - 1
  ·rw [hp]; exact h4
  ·exact hcmp.ntr _ (G (q - 1)) _ (hD q (by omega)) (hD (q - 1) (by omega)) (hD p (by omega)) h4 (h p (q - 1) h1 (by omega) (by omega) (by omega))
 ·exact h p q h1 h2 (by omega) hq
theorem ins_ok {f : FuncId} {fn : Func} {ex : List Nat} (hf : Fn_ Tryz.prog f fn ex gins grins) (hcmp : CmpOK cv D lt) {σ : List O} {id ver n a b : Nat} {F : Nat → V} (hD : ∀ k, k < n → D (F k)) (hab : a ≤ b) (hbn : b ≤ n) (hn : n ≤ 1000000) (hσ : σ[id]? = some (.row ver (rowV n F))) :
  FSpecQ Tryz.prog f [slV id ver n, .i .i64 a, .i .i64 b, cv] σ (SwQ σ id ver n a b F (Srt lt a b) (.tup [])) := by
 refine hf.specQ mixed noIt_ok ?_
 rw [gins]
 refine ab_seq_k fun K1 h1 => ?_
 simp [wrap64 (x := (a : Int) + 1) (by omega) (by omega)]
 refine h1 _ _ _ ?_
 clear h1 K1
 refine ab_block_k fun K2 h2 => ?_
 refine ab_loop_k (fun m env σ' => ∃ (i : Nat) (G : Nat → V), b - i = m ∧ a + 1 ≤ i ∧ (i ≤ b ∨ a = b) ∧ env = [(0, slV id ver n), (1, .i .i64 a), (2, .i .i64 b), (3, cv), (8, .i .i64 i)] ∧ Sw a b F G ∧ Srt lt a i G ∧ DA σ id ver n G σ') _ ⟨a + 1, F, rfl, by omega, by omega, by simp, .refl F, fun p q _ _ _ => by omega, DA.mk0 hσ⟩ ?_
 rintro m env σ' ⟨i, G, hm, g1, g2, rfl, hsw, hso, hda⟩ K3 h3
 rw [gins_1]
 refine ab_seq_k fun K4 h4 => ?_
 refine ab_seq_k fun K5 h5 => ?_
 simp
 refine h5 _ _ _ ?_
 clear h5 K5
 refine ab_cond_of rfl (fun hc => ?_) (fun hc => ?_)
 ·have hib : i < b := by simpa using hc
  simp
  refine h4 _ _ _ ?_
  clear h4 K4
  refine ab_seq_k fun K6 h6 => ?_
  refine ab_block_k fun K7 h7 => ?_
  refine ab_seq_k fun K8 h8 => ?_
  simp
  refine h8 _ _ _ ?_
  clear h8 K8
  have hend : ∀ env G σ', get env 0 = slV id ver n → get env 1 = .i .i64 a → get env 2 = .i .i64 b → get env 3 = cv → get env 8 = .i .i64 i → Sw a b F G → Srt lt a (i + 1) G → DA σ id ver n G σ' → K7 (some 0) env σ' := by
   intro env G σ' w0 w1 w2 w3 w8 s1 s2 s3
   refine h7 _ _ _ (h6 _ _ _ ?_)
   simp [w0, w1, w2, w3, w8, wrap64 (x := (i : Int) + 1) (by omega) (by omega)]
   exact h3 _ _ _ (again _ (by omega) ⟨i + 1, G, rfl, by omega, by omega, by simp, s1, s2, s3⟩)
  clear h6 h7 h3
  refine ab_block_k fun K9 h9 => ?_
  refine ab_loop_k (fun m env σ' => ∃ (j : Nat) (G : Nat → V), j = m ∧ a ≤ j ∧ j ≤ i ∧ env = [(0, slV id ver n), (1, .i .i64 a), (2, .i .i64 b), (3, cv), (8, .i .i64 i), (9, .i .i64 j)] ∧ Sw a b F G ∧ InsI lt a i j G ∧ DA σ id ver n G σ') i ⟨i, G, rfl, by omega, Nat.le_refl _, by simp, hsw, fun p q h1 h2 h3 h4 => hso p q h1 h2 (by omega), hda⟩ ?_
  clear hsw hso hda hm G σ'
  rintro m2 env σ' ⟨j, G, rfl, j1, j2, rfl, hsw, hin, hda⟩ K10 h10
  have hat := hda.at_
  obtain ⟨hat1, hat'⟩ := List.getElem?_eq_some_iff.1 hat
  have hGD := fun k hk => hsw.alln hbn hD (k := k) hk
  rw [gins_0]
  refine ab_seq_k fun K11 h11 => ?_
  refine ab_seq_k fun K12 h12 => ?_
  by_cases hja : a < j
  ·obtain ⟨j, rfl⟩ : ∃ j', j = j' + 1 := ⟨j - 1, by omega⟩
   have hjn : j + 1 < n := by omega
   have hjn' : j < n := by omega
   have c1 := hcmp.one _ (hGD _ hjn)
   have c2 := hcmp.one _ (hGD _ hjn')
   have hpos : (a : Int) < (j : Int) + 1 := by omega
   have z1 : (0 : Int) ≤ (j : Int) + 1 := by omega
   have z2 : (j : Int) + 1 < n := by omega
   have z3 : (j : Int) < n := by omega
   have zj := wrap64 (x := (j : Int)) (by omega) (by omega)
   have hs1 : ∀ c, (σ'.set id c)[id]? = some c := fun c => List.getElem?_set_self hat1
   simp [abDs_consU, drU, recheck_cons, recheck_nil, rcK, IS.dst, hpos, z1, z2, z3, zj, hat, hat', hjn, hjn', rowV_get]
   refine callv_cmp hcmp (hGD _ hjn) (hGD _ hjn') fun c hcc => ?_
   simp [abDs_consU, drU, recheck_cons, recheck_nil, rcK, IS.dst, hcc]
   refine h12 _ _ _ ?_
   clear h12 K12
   cases hl : lt (G (j + 1)) (G j) with
   | true =>
    refine ab_cond_of rfl (fun _ => ?_) (fun h => by cases h)
    simp
    refine h11 _ _ _ ?_
    clear h11 K11
    refine ab_seq_k fun K13 h13 => ?_
    refine ab_block_k fun K14 h14 => ?_
    simp [abDs_consU, drU, recheck_cons, recheck_nil, rcK, IS.dst, hpos, z1, z2, z3, zj, hat, hat', hjn, hjn', rowV_get, hs1, c1, c2]
    rw [rowV_swp]
    refine h14 _ _ _ (h13 _ _ _ ?_)
    simp [zj]
    refine h10 _ _ _ (again j (by omega) ⟨j, swp G (j + 1) j, rfl, by omega, by omega, by simp [zj], .step _ _ hsw (by omega) (by omega) (by omega) (by omega), ins_step hcmp (fun k hk => hGD k (by omega)) hin (by omega) (by omega) hl, hda.put⟩)
   | false =>
    refine ab_cond_of rfl (fun h => by cases h) (fun _ => ?_)
    simp
    refine h9 _ _ _ ?_
    exact hend _ G _ rfl rfl rfl rfl rfl hsw (ins_done hcmp (fun k hk => hGD k (by omega)) hin (by omega) (fun _ => hl)) hda
  ·have hje : j = a := by omega
   simp [abDs_consU, drU, recheck_cons, recheck_nil, rcK, IS.dst, hje]
   refine h12 _ _ _ ?_
   refine ab_cond_of rfl (fun h => by cases h) (fun _ => ?_)
   simp
   refine h9 _ _ _ ?_
   exact hend _ G _ rfl rfl rfl rfl rfl hsw (ins_done hcmp (fun k hk => hGD k (by omega)) hin (by omega) (fun h => by omega)) hda
 ·have hib : b ≤ i := by simp at hc; omega
  simp
  refine h2 _ _ _ (fin_Q ?_)
  simp [grins]
  exact ⟨rfl, G, hsw, fun p q h1 h2 h3 => hso p q h1 h2 (by omega), hda⟩
end
end Go.Ab
end
end
section
section
namespace Go.Ab
open Go Go.Proofs
structure PIg (good : V → Bool) (a b i j : Nat) (G : Nat → V) : Prop where
 p1 : a + 1 ≤ i
 p2 : i ≤ j + 1
 p3 : j < b
 lo : ∀ k, a + 1 ≤ k → k < i → good (G k) = true
 hi : ∀ k, j < k → k < b → good (G k) = false
theorem id_ {p : Prop} (h : p) : p := h
theorem PIg.up {good : V → Bool} {a b i j : Nat} {G : Nat → V} (h : PIg good a b i j G) (hij : i ≤ j) (hg : good (G i) = true) : PIg good a b (i + 1) j G :=
 ⟨by have := h.p1; omega, by omega, h.p3, fun k h1 h2 => by
  by_cases hk : k = i
  ·rw [hk]; exact hg
  ·exact h.lo k h1 (by omega), h.hi⟩
theorem PIg.down {good : V → Bool} {a b i j : Nat} {G : Nat → V} (h : PIg good a b i (j + 1) G) (hij : i ≤ j + 1) (hg : good (G (j + 1)) = false) : PIg good a b i j G :=
 ⟨h.p1, hij, by have := h.p3; omega, h.lo, fun k h1 h2 => by
  by_cases hk : k = j + 1
  ·rw [hk]; exact hg
  ·exact h.hi k (by omega) h2⟩
section
variable {cv : V} {D : V → Prop} {lt : V → V → Bool}
theorem par_up0 (hcmp : CmpOK cv D lt) {K : Kt} {E : List (Nat × Kt)} {Rt : Kt} {n0 : Nat} {env : Env} {σ : List O} {id ver n a b i j : Nat} {G : Nat → V} (hD : ∀ k, k < n → D (G k)) (hbn : b ≤ n) (hn : n ≤ 1000000) (hat : σ[id]? = some (.row ver (rowV n G))) (w0 : get env 0 = slV id ver n) (w1 : get env 1 = .i .i64 a) (w4 : get env 4 = cv) (wi : get env 12 = .i .i64 i) (wj : get env 13 = .i .i64 j) (hpi : PIg (fun x => lt x (G a)) a b i j G)
  (hK : ∀ i2, i ≤ i2 → PIg (fun x => lt x (G a)) a b i2 j G → (j < i2 ∨ (fun x => lt x (G a)) (G i2) = false) → K (some 0) [(0, slV id ver n), (1, .i .i64 a), (4, cv), (12, .i .i64 (i2 : Nat)), (13, .i .i64 (j : Nat)), (47, .b false)] σ) :
  ab Tryz.prog noY noIt n0 (.block 0 (.loop (some [0, 1, 4, 12, 13]) gpar_0)) K E Rt (some 0) env σ := by
 obtain ⟨hat1, hat'⟩ := List.getElem?_eq_some_iff.1 hat
 refine ab_block_k fun K1 h1 => ?_
 obtain ⟨i0, hi0⟩ : ∃ i0, i0 = i := ⟨_, rfl⟩
 rw [← hi0] at hK
 refine ab_loop_k (fun m env σ' => ∃ i : Nat, j + 1 - i = m ∧ i0 ≤ i ∧ PIg (fun x => lt x (G a)) a b i j G ∧ env = [(0, slV id ver n), (1, .i .i64 a), (4, cv), (12, .i .i64 (i : Nat)), (13, .i .i64 (j : Nat))] ∧ σ' = σ) _ ⟨i, rfl, by omega, hpi, by simp [w0, w1, w4, wi, wj], rfl⟩ ?_
 clear hpi hi0 w0 w1 w4 wi wj env
 rintro m env σ' ⟨i, hm, hge, hpi, rfl, rfl⟩ K2 h2
 obtain ⟨p1, p2, p3, plo, phi⟩ := id_ hpi
 rw [gpar_0]
 refine ab_seq_k fun K3 h3 => ?_
 refine ab_seq_k fun K4 h4 => ?_
 have han : a < n := by omega
 have hjn : j < n := by omega
 by_cases hij : i ≤ j
 ·have hin : i < n := by omega
  simp [abDs_consU, drU, recheck_cons, recheck_nil, rcK, IS.dst, hij, hat, hat', hin, hjn, han, rowV_get]
  refine callv_cmp hcmp (hD _ (by omega)) (hD _ (by omega)) fun c hcc => ?_
  simp [abDs_consU, drU, recheck_cons, recheck_nil, rcK, IS.dst, hcc]
  refine h4 _ _ _ ?_
  clear h4
  cases hl : lt (G i) (G a) with
  | true =>
   refine ab_cond_of rfl (fun _ => ?_) (fun h => by cases h)
   simp
   refine h3 _ _ _ ?_
   refine ab_block_k fun K5 h5 => ?_
   simp [wrap64 (x := (i : Int) + 1) (by omega) (by omega)]
   refine h5 _ _ _ (h2 _ _ _ (again _ (by omega) ⟨i + 1, rfl, by omega, hpi.up (by omega) (by simp [hl]), by simp, rfl⟩))
  | false =>
   refine ab_cond_of rfl (fun h => by cases h) (fun _ => ?_)
   simp
   refine h1 _ _ _ ?_
   exact hK i hge hpi (.inr (by simp [hl]))
 ·have hij2 : j < i := by omega
  simp [abDs_consU, drU, recheck_cons, recheck_nil, rcK, IS.dst, hij, hij2]
  refine h4 _ _ _ ?_
  refine ab_cond_of rfl (fun h => by cases h) (fun _ => ?_)
  simp
  refine h1 _ _ _ ?_
  exact hK i hge hpi (.inl (by omega))
theorem par_dn1 (hcmp : CmpOK cv D lt) {K : Kt} {E : List (Nat × Kt)} {Rt : Kt} {n0 : Nat} {env : Env} {σ : List O} {id ver n a b i j : Nat} {G : Nat → V} (hD : ∀ k, k < n → D (G k)) (hbn : b ≤ n) (hn : n ≤ 1000000) (hat : σ[id]? = some (.row ver (rowV n G))) (w0 : get env 0 = slV id ver n) (w1 : get env 1 = .i .i64 a) (w4 : get env 4 = cv) (wi : get env 12 = .i .i64 i) (wj : get env 13 = .i .i64 j) (hpi : PIg (fun x => lt x (G a)) a b i j G)
  (hK : ∀ j2, j2 ≤ j → PIg (fun x => lt x (G a)) a b i j2 G → (j2 < i ∨ (fun x => lt x (G a)) (G j2) = true) → K (some 0) [(0, slV id ver n), (1, .i .i64 a), (4, cv), (12, .i .i64 (i : Nat)), (13, .i .i64 (j2 : Nat)), (66, .b false)] σ) :
  ab Tryz.prog noY noIt n0 (.block 2 (.loop (some [0, 1, 4, 12, 13]) gpar_1)) K E Rt (some 0) env σ := by
 obtain ⟨hat1, hat'⟩ := List.getElem?_eq_some_iff.1 hat
 refine ab_block_k fun K1 h1 => ?_
 obtain ⟨j0, hj0⟩ : ∃ j0, j0 = j := ⟨_, rfl⟩
 rw [← hj0] at hK
 refine ab_loop_k (fun m env σ' => ∃ j : Nat, j + 1 - i = m ∧ j ≤ j0 ∧ PIg (fun x => lt x (G a)) a b i j G ∧ env = [(0, slV id ver n), (1, .i .i64 a), (4, cv), (12, .i .i64 (i : Nat)), (13, .i .i64 (j : Nat))] ∧ σ' = σ) _ ⟨j, rfl, by omega, hpi, by simp [w0, w1, w4, wi, wj], rfl⟩ ?_
 clear hpi hj0 w0 w1 w4 wi wj env
 rintro m env σ' ⟨j, hm, hge, hpi, rfl, rfl⟩ K2 h2
 obtain ⟨p1, p2, p3, plo, phi⟩ := id_ hpi
 rw [gpar_1]
 refine ab_seq_k fun K3 h3 => ?_
 refine ab_seq_k fun K4 h4 => ?_
 have han : a < n := by omega
 have hjn : j < n := by omega
 by_cases hij : i ≤ j
 ·have hin : i < n := by omega
  simp [abDs_consU, drU, recheck_cons, recheck_nil, rcK, IS.dst, hij, hat, hat', hin, hjn, han, rowV_get]
  refine callv_cmp hcmp (hD _ (by omega)) (hD _ (by omega)) fun c hcc => ?_
  simp [abDs_consU, drU, recheck_cons, recheck_nil, rcK, IS.dst, hcc]
  refine h4 _ _ _ ?_
  clear h4
  cases hl : lt (G j) (G a) with
  | true =>
   refine ab_cond_of rfl (fun h => by cases h) (fun _ => ?_)
   simp
   refine h1 _ _ _ ?_
   exact hK j hge hpi (.inr (by simp [hl]))
  | false =>
   refine ab_cond_of rfl (fun _ => ?_) (fun h => by cases h)
   simp
   refine h3 _ _ _ ?_
   refine ab_block_k fun K5 h5 => ?_
   obtain ⟨j, rfl⟩ : ∃ j2, j = j2 + 1 := ⟨j - 1, by omega⟩
   simp [wrap64 (x := (j : Int)) (by omega) (by omega)]
   refine h5 _ _ _ (h2 _ _ _ (again _ (by omega) ⟨j, rfl, by omega, hpi.down (by omega) (by simp [hl]), by simp, rfl⟩))
 ·have hij2 : j < i := by omega
  simp [abDs_consU, drU, recheck_cons, recheck_nil, rcK, IS.dst, hij, hij2]
  refine h4 _ _ _ ?_
  refine ab_cond_of rfl (fun h => by cases h) (fun _ => ?_)
  simp
  refine h1 _ _ _ ?_
  exact hK j hge hpi (.inl (by omega))
theorem par_up2 (hcmp : CmpOK cv D lt) {K : Kt} {E : List (Nat × Kt)} {Rt : Kt} {n0 : Nat} {env : Env} {σ : List O} {id ver n a b i j : Nat} {G : Nat → V} (hD : ∀ k, k < n → D (G k)) (hbn : b ≤ n) (hn : n ≤ 1000000) (hat : σ[id]? = some (.row ver (rowV n G))) (w0 : get env 0 = slV id ver n) (w1 : get env 1 = .i .i64 a) (w4 : get env 4 = cv) (wi : get env 12 = .i .i64 i) (wj : get env 13 = .i .i64 j) (hpi : PIg (fun x => lt x (G a)) a b i j G)
  (hK : ∀ i2, i ≤ i2 → PIg (fun x => lt x (G a)) a b i2 j G → (j < i2 ∨ (fun x => lt x (G a)) (G i2) = false) → K (some 0) [(0, slV id ver n), (1, .i .i64 a), (4, cv), (12, .i .i64 (i2 : Nat)), (13, .i .i64 (j : Nat)), (120, .b false)] σ) :
  ab Tryz.prog noY noIt n0 (.block 6 (.loop (some [0, 1, 4, 12, 13]) gpar_2)) K E Rt (some 0) env σ := by
 obtain ⟨hat1, hat'⟩ := List.getElem?_eq_some_iff.1 hat
 refine ab_block_k fun K1 h1 => ?_
 obtain ⟨i0, hi0⟩ : ∃ i0, i0 = i := ⟨_, rfl⟩
 rw [← hi0] at hK
 refine ab_loop_k (fun m env σ' => ∃ i : Nat, j + 1 - i = m ∧ i0 ≤ i ∧ PIg (fun x => lt x (G a)) a b i j G ∧ env = [(0, slV id ver n), (1, .i .i64 a), (4, cv), (12, .i .i64 (i : Nat)), (13, .i .i64 (j : Nat))] ∧ σ' = σ) _ ⟨i, rfl, by omega, hpi, by simp [w0, w1, w4, wi, wj], rfl⟩ ?_
 clear hpi hi0 w0 w1 w4 wi wj env
 rintro m env σ' ⟨i, hm, hge, hpi, rfl, rfl⟩ K2 h2
 obtain ⟨p1, p2, p3, plo, phi⟩ := id_ hpi
 rw [gpar_2]
 refine ab_seq_k fun K3 h3 => ?_
 refine ab_seq_k fun K4 h4 => ?_
 have han : a < n := by omega
 have hjn : j < n := by omega
 by_cases hij : i ≤ j
 ·have hin : i < n := by omega
  simp [abDs_consU, drU, recheck_cons, recheck_nil, rcK, IS.dst, hij, hat, hat', hin, hjn, han, rowV_get]
  refine callv_cmp hcmp (hD _ (by omega)) (hD _ (by omega)) fun c hcc => ?_
  simp [abDs_consU, drU, recheck_cons, recheck_nil, rcK, IS.dst, hcc]
  refine h4 _ _ _ ?_
  clear h4
  cases hl : lt (G i) (G a) with
  | true =>
   refine ab_cond_of rfl (fun _ => ?_) (fun h => by cases h)
   simp
   refine h3 _ _ _ ?_
   refine ab_block_k fun K5 h5 => ?_
   simp [wrap64 (x := (i : Int) + 1) (by omega) (by omega)]
   refine h5 _ _ _ (h2 _ _ _ (again _ (by omega) ⟨i + 1, rfl, by omega, hpi.up (by omega) (by simp [hl]), by simp, rfl⟩))
  | false =>
   refine ab_cond_of rfl (fun h => by cases h) (fun _ => ?_)
   simp
   refine h1 _ _ _ ?_
   exact hK i hge hpi (.inr (by simp [hl]))
 ·have hij2 : j < i := by omega
  simp [abDs_consU, drU, recheck_cons, recheck_nil, rcK, IS.dst, hij, hij2]
  refine h4 _ _ _ ?_
  refine ab_cond_of rfl (fun h => by cases h) (fun _ => ?_)
  simp
  refine h1 _ _ _ ?_
  exact hK i hge hpi (.inl (by omega))
theorem par_dn3 (hcmp : CmpOK cv D lt) {K : Kt} {E : List (Nat × Kt)} {Rt : Kt} {n0 : Nat} {env : Env} {σ : List O} {id ver n a b i j : Nat} {G : Nat → V} (hD : ∀ k, k < n → D (G k)) (hbn : b ≤ n) (hn : n ≤ 1000000) (hat : σ[id]? = some (.row ver (rowV n G))) (w0 : get env 0 = slV id ver n) (w1 : get env 1 = .i .i64 a) (w4 : get env 4 = cv) (wi : get env 12 = .i .i64 i) (wj : get env 13 = .i .i64 j) (hpi : PIg (fun x => lt x (G a)) a b i j G)
  (hK : ∀ j2, j2 ≤ j → PIg (fun x => lt x (G a)) a b i j2 G → (j2 < i ∨ (fun x => lt x (G a)) (G j2) = true) → K (some 0) [(0, slV id ver n), (1, .i .i64 a), (4, cv), (12, .i .i64 (i : Nat)), (13, .i .i64 (j2 : Nat)), (139, .b false)] σ) :
  ab Tryz.prog noY noIt n0 (.block 8 (.loop (some [0, 1, 4, 12, 13]) gpar_3)) K E Rt (some 0) env σ := by
 obtain ⟨hat1, hat'⟩ := List.getElem?_eq_some_iff.1 hat
 refine ab_block_k fun K1 h1 => ?_
 obtain ⟨j0, hj0⟩ : ∃ j0, j0 = j := ⟨_, rfl⟩
 rw [← hj0] at hK
 refine ab_loop_k (fun m env σ' => ∃ j : Nat, j + 1 - i = m ∧ j ≤ j0 ∧ PIg (fun x => lt x (G a)) a b i j G ∧ env = [(0, slV id ver n), (1, .i .i64 a), (4, cv), (12, .i .i64 (i : Nat)), (13, .i .i64 (j : Nat))] ∧ σ' = σ) _ ⟨j, rfl, by omega, hpi, by simp [w0, w1, w4, wi, wj], rfl⟩ ?_
 clear hpi hj0 w0 w1 w4 wi wj env
 rintro m env σ' ⟨j, hm, hge, hpi, rfl, rfl⟩ K2 h2
 obtain ⟨p1, p2, p3, plo, phi⟩ := id_ hpi
 rw [gpar_3]
 refine ab_seq_k fun K3 h3 => ?_
 refine ab_seq_k fun K4 h4 => ?_
 have han : a < n := by omega
 have hjn : j < n := by omega
 by_cases hij : i ≤ j
 ·have hin : i < n := by omega
  simp [abDs_consU, drU, recheck_cons, recheck_nil, rcK, IS.dst, hij, hat, hat', hin, hjn, han, rowV_get]
  refine callv_cmp hcmp (hD _ (by omega)) (hD _ (by omega)) fun c hcc => ?_
  simp [abDs_consU, drU, recheck_cons, recheck_nil, rcK, IS.dst, hcc]
  refine h4 _ _ _ ?_
  clear h4
  cases hl : lt (G j) (G a) with
  | true =>
   refine ab_cond_of rfl (fun h => by cases h) (fun _ => ?_)
   simp
   refine h1 _ _ _ ?_
   exact hK j hge hpi (.inr (by simp [hl]))
  | false =>
   refine ab_cond_of rfl (fun _ => ?_) (fun h => by cases h)
   simp
   refine h3 _ _ _ ?_
   refine ab_block_k fun K5 h5 => ?_
   obtain ⟨j, rfl⟩ : ∃ j2, j = j2 + 1 := ⟨j - 1, by omega⟩
   simp [wrap64 (x := (j : Int)) (by omega) (by omega)]
   refine h5 _ _ _ (h2 _ _ _ (again _ (by omega) ⟨j, rfl, by omega, hpi.down (by omega) (by simp [hl]), by simp, rfl⟩))
 ·have hij2 : j < i := by omega
  simp [abDs_consU, drU, recheck_cons, recheck_nil, rcK, IS.dst, hij, hij2]
  refine h4 _ _ _ ?_
  refine ab_cond_of rfl (fun h => by cases h) (fun _ => ?_)
  simp
  refine h1 _ _ _ ?_
  exact hK j hge hpi (.inl (by omega))
theorem peq_up0 (hcmp : CmpOK cv D lt) {K : Kt} {E : List (Nat × Kt)} {Rt : Kt} {n0 : Nat} {env : Env} {σ : List O} {id ver n a b i j : Nat} {G : Nat → V} (hD : ∀ k, k < n → D (G k)) (hbn : b ≤ n) (hn : n ≤ 1000000) (hat : σ[id]? = some (.row ver (rowV n G))) (w0 : get env 0 = slV id ver n) (w1 : get env 1 = .i .i64 a) (w4 : get env 4 = cv) (wi : get env 11 = .i .i64 i) (wj : get env 12 = .i .i64 j) (hpi : PIg (fun x => !lt (G a) x) a b i j G)
  (hK : ∀ i2, i ≤ i2 → PIg (fun x => !lt (G a) x) a b i2 j G → (j < i2 ∨ (fun x => !lt (G a) x) (G i2) = false) → K (some 0) [(0, slV id ver n), (1, .i .i64 a), (4, cv), (11, .i .i64 (i2 : Nat)), (12, .i .i64 (j : Nat)), (47, .b false)] σ) :
  ab Tryz.prog noY noIt n0 (.block 2 (.loop (some [0, 1, 4, 11, 12]) gpeq_0)) K E Rt (some 0) env σ := by
 obtain ⟨hat1, hat'⟩ := List.getElem?_eq_some_iff.1 hat
 refine ab_block_k fun K1 h1 => ?_
 obtain ⟨i0, hi0⟩ : ∃ i0, i0 = i := ⟨_, rfl⟩
 rw [← hi0] at hK
 refine ab_loop_k (fun m env σ' => ∃ i : Nat, j + 1 - i = m ∧ i0 ≤ i ∧ PIg (fun x => !lt (G a) x) a b i j G ∧ env = [(0, slV id ver n), (1, .i .i64 a), (4, cv), (11, .i .i64 (i : Nat)), (12, .i .i64 (j : Nat))] ∧ σ' = σ) _ ⟨i, rfl, by omega, hpi, by simp [w0, w1, w4, wi, wj], rfl⟩ ?_
 clear hpi hi0 w0 w1 w4 wi wj env
 rintro m env σ' ⟨i, hm, hge, hpi, rfl, rfl⟩ K2 h2
 obtain ⟨p1, p2, p3, plo, phi⟩ := id_ hpi
 rw [gpeq_0]
 refine ab_seq_k fun K3 h3 => ?_
 refine ab_seq_k fun K4 h4 => ?_
 have han : a < n := by omega
 have hjn : j < n := by omega
 by_cases hij : i ≤ j
 ·have hin : i < n := by omega
  simp [abDs_consU, drU, recheck_cons, recheck_nil, rcK, IS.dst, hij, hat, hat', hin, hjn, han, rowV_get]
  refine callv_cmp hcmp (hD _ (by omega)) (hD _ (by omega)) fun c hcc => ?_
  simp [abDs_consU, drU, recheck_cons, recheck_nil, rcK, IS.dst, hcc]
  refine h4 _ _ _ ?_
  clear h4
  cases hl : lt (G a) (G i) with
  | true =>
   refine ab_cond_of rfl (fun h => by cases h) (fun _ => ?_)
   simp
   refine h1 _ _ _ ?_
   exact hK i hge hpi (.inr (by simp [hl]))
  | false =>
   refine ab_cond_of rfl (fun _ => ?_) (fun h => by cases h)
   simp
   refine h3 _ _ _ ?_
   refine ab_block_k fun K5 h5 => ?_
   simp [wrap64 (x := (i : Int) + 1) (by omega) (by omega)]
   refine h5 _ _ _ (h2 _ _ _ (again _ (by omega) ⟨i + 1, rfl, by omega, hpi.up (by omega) (by simp [hl]), by simp, rfl⟩))
 ·have hij2 : j < i := by omega
  simp [abDs_consU, drU, recheck_cons, recheck_nil, rcK, IS.dst, hij, hij2]
  refine h4 _ _ _ ?_
  refine ab_cond_of rfl (fun h => by cases h) (fun _ => ?_)
  simp
  refine h1 _ _ _ ?_
  exact hK i hge hpi (.inl (by omega))
theorem peq_dn1 (hcmp : CmpOK cv D lt) {K : Kt} {E : List (Nat × Kt)} {Rt : Kt} {n0 : Nat} {env : Env} {σ : List O} {id ver n a b i j : Nat} {G : Nat → V} (hD : ∀ k, k < n → D (G k)) (hbn : b ≤ n) (hn : n ≤ 1000000) (hat : σ[id]? = some (.row ver (rowV n G))) (w0 : get env 0 = slV id ver n) (w1 : get env 1 = .i .i64 a) (w4 : get env 4 = cv) (wi : get env 11 = .i .i64 i) (wj : get env 12 = .i .i64 j) (hpi : PIg (fun x => !lt (G a) x) a b i j G)
  (hK : ∀ j2, j2 ≤ j → PIg (fun x => !lt (G a) x) a b i j2 G → (j2 < i ∨ (fun x => !lt (G a) x) (G j2) = true) → K (some 0) [(0, slV id ver n), (1, .i .i64 a), (4, cv), (11, .i .i64 (i : Nat)), (12, .i .i64 (j2 : Nat)), (65, .b false)] σ) :
  ab Tryz.prog noY noIt n0 (.block 4 (.loop (some [0, 1, 4, 11, 12]) gpeq_1)) K E Rt (some 0) env σ := by
 obtain ⟨hat1, hat'⟩ := List.getElem?_eq_some_iff.1 hat
 refine ab_block_k fun K1 h1 => ?_
 obtain ⟨j0, hj0⟩ : ∃ j0, j0 = j := ⟨_, rfl⟩
 rw [← hj0] at hK
 refine ab_loop_k (fun m env σ' => ∃ j : Nat, j + 1 - i = m ∧ j ≤ j0 ∧ PIg (fun x => !lt (G a) x) a b i j G ∧ env = [(0, slV id ver n), (1, .i .i64 a), (4, cv), (11, .i .i64 (i : Nat)), (12, .i .i64 (j : Nat))] ∧ σ' = σ) _ ⟨j, rfl, by omega, hpi, by simp [w0, w1, w4, wi, wj], rfl⟩ ?_
 clear hpi hj0 w0 w1 w4 wi wj env
 rintro m env σ' ⟨j, hm, hge, hpi, rfl, rfl⟩ K2 h2
 obtain ⟨p1, p2, p3, plo, phi⟩ := id_ hpi
 rw [gpeq_1]
 refine ab_seq_k fun K3 h3 => ?_
 refine ab_seq_k fun K4 h4 => ?_
 have han : a < n := by omega
 have hjn : j < n := by omega
 by_cases hij : i ≤ j
 ·have hin : i < n := by omega
  simp [abDs_consU, drU, recheck_cons, recheck_nil, rcK, IS.dst, hij, hat, hat', hin, hjn, han, rowV_get]
  refine callv_cmp hcmp (hD _ (by omega)) (hD _ (by omega)) fun c hcc => ?_
  simp [abDs_consU, drU, recheck_cons, recheck_nil, rcK, IS.dst, hcc]
  refine h4 _ _ _ ?_
  clear h4
  cases hl : lt (G a) (G j) with
  | true =>
   refine ab_cond_of rfl (fun _ => ?_) (fun h => by cases h)
   simp
   refine h3 _ _ _ ?_
   refine ab_block_k fun K5 h5 => ?_
   obtain ⟨j, rfl⟩ : ∃ j2, j = j2 + 1 := ⟨j - 1, by omega⟩
   simp [wrap64 (x := (j : Int)) (by omega) (by omega)]
   refine h5 _ _ _ (h2 _ _ _ (again _ (by omega) ⟨j, rfl, by omega, hpi.down (by omega) (by simp [hl]), by simp, rfl⟩))
  | false =>
   refine ab_cond_of rfl (fun h => by cases h) (fun _ => ?_)
   simp
   refine h1 _ _ _ ?_
   exact hK j hge hpi (.inr (by simp [hl]))
 ·have hij2 : j < i := by omega
  simp [abDs_consU, drU, recheck_cons, recheck_nil, rcK, IS.dst, hij, hij2]
  refine h4 _ _ _ ?_
  refine ab_cond_of rfl (fun h => by cases h) (fun _ => ?_)
  simp
  refine h1 _ _ _ ?_
  exact hK j hge hpi (.inl (by omega))
end
end Go.Ab
end
section
namespace Go.Ab
open Go Go.Proofs
section
variable {cv : V} {D : V → Prop} {lt : V → V → Bool}
theorem PIg.swap {good : V → Bool} {a b i j : Nat} {G : Nat → V} (h : PIg good a b i j G) (hij : i ≤ j) (hi : good (G i) = false) (hj : good (G j) = true) : i < j ∧ PIg good a b (i + 1) (j - 1) (swp G i j) := by
 obtain ⟨p1, p2, p3, lo, hi2⟩ := h
 have hne : i ≠ j := by
  intro e; rw [e, hj] at hi; cases hi
 refine ⟨by omega, by omega, by omega, by omega, fun k h1 h2 => ?_, fun k h1 h2 => ?_⟩
 ·rw [swp_at, if_neg (by omega)]
  by_cases hk : k = i
  ·rw [if_pos hk]; exact hj
  ·rw [if_neg hk]; exact lo k h1 (by omega)
 ·rw [swp_at]
  by_cases hk : k = j
  ·rw [if_pos hk]; exact hi
  ·rw [if_neg hk, if_neg (by omega)]; exact hi2 k (by omega) h2
theorem swp_off {G : Nat → V} {i j k : Nat} (h1 : k ≠ i) (h2 : k ≠ j) : swp G i j k = G k := by rw [swp_at, if_neg h2, if_neg h1]
def ParP (lt : V → V → Bool) (a b mid : Nat) (G : Nat → V) : Prop := a ≤ mid ∧ mid < b ∧ (∀ k, a ≤ k → k < mid → lt (G k) (G mid) = true) ∧ (∀ k, mid < k → k < b → lt (G k) (G mid) = false)
theorem par_end {a b i j : Nat} {G : Nat → V} (h : PIg (fun x => lt x (G a)) a b i j G) (hij : j < i) : ParP lt a b j (swp G j a) := by
 obtain ⟨p1, p2, p3, lo, hi⟩ := h
 have e : swp G j a j = G a := by
  rw [swp_at]
  by_cases hja : j = a
  ·rw [if_pos hja, hja]
  ·rw [if_neg hja, if_pos rfl]
 refine ⟨by omega, by omega, fun k h1 h2 => ?_, fun k h1 h2 => ?_⟩
 ·rw [e, swp_at]
  by_cases hk : k = a
  ·rw [if_pos hk]; exact lo j (by omega) (by omega)
  ·rw [if_neg hk, if_neg (by omega)]; exact lo k (by omega) (by omega)
 ·rw [e, swp_off (by omega) (by omega)]; exact hi k h1 h2
theorem par_ok {f : FuncId} {fn : Func} {ex : List Nat} (hf : Fn_ Tryz.prog f fn ex gpar grpar) (hcmp : CmpOK cv D lt) {σ : List O} {id ver n a b pv : Nat} {F : Nat → V} (hD : ∀ k, k < n → D (F k)) (hap : a ≤ pv) (hpb : pv < b) (hbn : b ≤ n) (hn : n ≤ 1000000) (hσ : σ[id]? = some (.row ver (rowV n F))) :
  FSpecQ Tryz.prog f [slV id ver n, .i .i64 a, .i .i64 b, .i .i64 pv, cv] σ (fun v σ' => ∃ (mid : Nat) (al : Bool) (G : Nat → V), v = .tup [.i .i64 mid, .b al] ∧ Sw a b F G ∧ ParP lt a b mid G ∧ DA σ id ver n G σ') := by
 obtain ⟨b, rfl⟩ : ∃ b1, b = b1 + 1 := ⟨b - 1, by omega⟩
 refine hf.specQ mixed noIt_ok ?_
 rw [gpar]
 refine ab_seq_k fun K1 h1 => ?_
 simp
 refine h1 _ _ _ ?_
 clear h1 K1
 have hat1 := (List.getElem?_eq_some_iff.1 hσ).1
 have hat' := (List.getElem?_eq_some_iff.1 hσ).2
 have han : a < n := by omega
 have hpn : pv < n := by omega
 have hs1 : ∀ c, (σ.set id c)[id]? = some c := fun c => List.getElem?_set_self hat1
 have c1 := hcmp.one _ (hD a han)
 have c2 := hcmp.one _ (hD pv hpn)
 refine ab_seq_k fun K2 h2 => ?_
 simp [abDs_consU, drU, recheck_cons, recheck_nil, rcK, IS.dst, hσ, hat', han, hpn, rowV_get, hs1, c1, c2]
 rw [rowV_swp]
 refine h2 _ _ _ ?_
 clear h2 K2
 have hsw : Sw a (b + 1) F (swp F a pv) := .one (by omega) (by omega) hap hpb
 have hda : DA σ id ver n (swp F a pv) (σ.set id (.row ver (rowV n (swp F a pv)))) := (DA.mk0 hσ).put
 refine ab_seq_k fun K3 h3 => ?_
 simp [wrap64 (x := (a : Int) + 1) (by omega) (by omega), wrap64 (x := (b : Int)) (by omega) (by omega)]
 refine h3 _ _ _ ?_
 clear h3 K3
 generalize swp F a pv = G at *
 generalize σ.set id (.row ver (rowV n G)) = σ' at *
 clear hs1 hat' hat1 c1 c2
 have hpi : PIg (fun x => lt x (G a)) a (b + 1) (a + 1) b G := ⟨by omega, by omega, by omega, fun k h1 h2 => by omega, fun k h1 h2 => by omega⟩
 have hgd : ∀ {G : Nat → V}, Sw a (b + 1) F G → ∀ k, k < n → D (G k) := fun h k hk => h.alln hbn hD hk
 refine ab_seq_k fun K4 h4 => ?_
 refine par_up0 (i := a + 1) (j := b) hcmp (hgd hsw) hbn hn hda.at_ rfl rfl rfl rfl rfl hpi ?_
 intro i hi0 hpi hup
 refine h4 _ _ _ ?_
 clear h4 K4
 refine ab_seq_k fun K5 h5 => ?_
 refine par_dn1 (i := i) (j := b) hcmp (hgd hsw) hbn hn hda.at_ rfl rfl rfl rfl rfl hpi ?_
 intro j hj0 hpi hdn
 refine h5 _ _ _ ?_
 clear h5 K5
 have hend : ∀ (G : Nat → V) σ', DA σ id ver n G σ' → ∀ j : Nat, a ≤ j → j < n → j < b + 1 → Sw a (b + 1) F G → Sw a (b + 1) F (swp G j a) := fun G σ' _ j h1 _ h3 hs => .step _ _ hs h1 h3 (Nat.le_refl _) (by omega)
 refine ab_seq_k fun K6 h6 => ?_
 refine ab_seq_k fun K7 h7 => ?_
 simp
 refine h7 _ _ _ ?_
 clear h7 K7
 have hat := hda.at_
 obtain ⟨hat1, hat'⟩ := List.getElem?_eq_some_iff.1 hat
 have hs1 : ∀ c, (σ'.set id c)[id]? = some c := fun c => List.getElem?_set_self hat1
 have hjn : j < n := by have := hpi.p3; omega
 have hja : a ≤ j := by have := hpi.p1; have := hpi.p2; omega
 have c1 := hcmp.one _ (hgd hsw a han)
 have c2 := hcmp.one _ (hgd hsw j hjn)
 by_cases hij : j < i
 ·have hij' : (j : Int) < i := by omega
  refine ab_cond_of rfl (fun _ => ?_) (fun h => by simp [hij] at h)
  refine ab_seq_k fun K8 h8 => ?_
  simp [abDs_consU, drU, recheck_cons, recheck_nil, rcK, IS.dst, hat, hat', han, hjn, rowV_get, hs1, c1, c2]
  rw [rowV_swp]
  refine h8 _ _ _ ?_
  refine ab_seq_k fun K9 h9 => ?_
  simp
  refine h9 _ _ _ ?_
  clear h9 K9
  simp
  refine fin_Q ?_
  simp [grpar]
  exact ⟨j, rfl, swp G j a, hend G σ' hda j hja hjn (by have := hpi.p3; omega) hsw, par_end hpi hij, hda.put⟩
 ·refine ab_cond_of rfl (fun h => by simp at h; omega) (fun _ => ?_)
  simp
  refine h6 _ _ _ ?_
  clear h6 K6
  have hgi : (fun x => lt x (G a)) (G i) = false := hup.resolve_left (by omega)
  have hgj : (fun x => lt x (G a)) (G j) = true := hdn.resolve_left hij
  obtain ⟨hlt, hpi2⟩ := hpi.swap (by omega) hgi hgj
  have hin : i < n := by omega
  have c3 := hcmp.one _ (hgd hsw i hin)
  have hia : a + 1 ≤ i := hpi.p1
  have hjb : j < b + 1 := hpi.p3
  have ea : swp G i j a = G a := swp_off (by omega) (by omega)
  rw [← ea] at hpi2
  refine ab_seq_k fun K8 h8 => ?_
  simp [abDs_consU, drU, recheck_cons, recheck_nil, rcK, IS.dst, hat, hat', hin, hjn, rowV_get, hs1, c3, c2]
  rw [rowV_swp]
  refine h8 _ _ _ ?_
  clear h8 K8
  have hsw2 : Sw a (b + 1) F (swp G i j) := .step _ _ hsw (by omega) (by omega) hja hjb
  have hda2 : DA σ id ver n (swp G i j) (σ'.set id (.row ver (rowV n (swp G i j)))) := hda.put
  generalize swp G i j = H at *
  generalize σ'.set id (.row ver (rowV n H)) = σ2 at *
  obtain ⟨j, rfl⟩ : ∃ j2, j = j2 + 1 := ⟨j - 1, by omega⟩
  simp only [Nat.add_sub_cancel] at hpi2
  refine ab_seq_k fun K9 h9 => ?_
  simp [wrap64 (x := (i : Int) + 1) (by omega) (by omega)]
  refine h9 _ _ _ ?_
  clear h9 K9
  refine ab_seq_k fun K10 h10 => ?_
  simp [wrap64 (x := (j : Int)) (by omega) (by omega)]
  refine h10 _ _ _ ?_
  clear h10 K10
  clear hs1 hat' hat1 hat hda hsw hpi hup hdn c1 c2 c3 hgi hgj ea hend hij
  refine ab_seq_k fun K11 h11 => ?_
  refine ab_block_k fun K12 h12 => ?_
  refine ab_loop_k (fun m env σ' => ∃ (i j : Nat) (G : Nat → V), j + 1 - i = m ∧ env = [(0, slV id ver n), (1, .i .i64 a), (4, cv), (12, .i .i64 i), (13, .i .i64 j)] ∧ PIg (fun x => lt x (G a)) a (b + 1) i j G ∧ Sw a (b + 1) F G ∧ DA σ id ver n G σ') _ ⟨i + 1, j, H, rfl, by simp, hpi2, hsw2, hda2⟩ ?_
  clear hpi2 hsw2 hda2 hin hjn hja hia hjb hlt
  rintro m env σ' ⟨i, j, G, hm, rfl, hpi, hsw, hda⟩ K13 h13
  rw [gpar_4]
  refine ab_block_k fun K14 h14 => ?_
  refine ab_seq_k fun K15 h15 => ?_
  refine par_up2 (i := i) (j := j) hcmp (hgd hsw) hbn hn hda.at_ rfl rfl rfl rfl rfl hpi ?_
  intro i1 hi0 hpi hup
  refine h15 _ _ _ ?_
  clear h15 K15
  refine ab_seq_k fun K16 h16 => ?_
  refine par_dn3 (i := i1) (j := j) hcmp (hgd hsw) hbn hn hda.at_ rfl rfl rfl rfl rfl hpi ?_
  intro j1 hj0 hpi hdn
  refine h16 _ _ _ ?_
  clear h16 K16
  refine ab_seq_k fun K17 h17 => ?_
  refine ab_seq_k fun K18 h18 => ?_
  simp
  refine h18 _ _ _ ?_
  clear h18 K18
  have hat := hda.at_
  obtain ⟨hat1, hat'⟩ := List.getElem?_eq_some_iff.1 hat
  have hs1 : ∀ c, (σ'.set id c)[id]? = some c := fun c => List.getElem?_set_self hat1
  have hjn : j1 < n := by have := hpi.p3; omega
  have hja : a ≤ j1 := by have := hpi.p1; have := hpi.p2; omega
  have hjb : j1 < b + 1 := hpi.p3
  have hia : a + 1 ≤ i1 := hpi.p1
  have c1 := hcmp.one _ (hgd hsw a han)
  have c2 := hcmp.one _ (hgd hsw j1 hjn)
  by_cases hij : j1 < i1
  ·have hij' : (j1 : Int) < i1 := by omega
   refine ab_cond_of rfl (fun _ => ?_) (fun h => by simp [hij] at h)
   simp
   refine h12 _ _ _ (h11 _ _ _ ?_)
   refine ab_seq_k fun K8 h8 => ?_
   simp [abDs_consU, drU, recheck_cons, recheck_nil, rcK, IS.dst, hat, hat', han, hjn, rowV_get, hs1, c1, c2]
   rw [rowV_swp]
   refine h8 _ _ _ ?_
   refine ab_seq_k fun K9 h9 => ?_
   simp
   refine h9 _ _ _ ?_
   clear h9 K9
   simp
   refine fin_Q ?_
   simp [grpar]
   exact ⟨j1, rfl, swp G j1 a, .step _ _ hsw hja hjb (Nat.le_refl _) (by omega), par_end hpi hij, hda.put⟩
  ·refine ab_cond_of rfl (fun h => by simp at h; omega) (fun _ => ?_)
   simp
   refine h17 _ _ _ ?_
   clear h17 K17
   have hgi : (fun x => lt x (G a)) (G i1) = false := hup.resolve_left (by omega)
   have hgj : (fun x => lt x (G a)) (G j1) = true := hdn.resolve_left hij
   obtain ⟨hlt, hpi2⟩ := hpi.swap (by omega) hgi hgj
   have hin : i1 < n := by omega
   have c3 := hcmp.one _ (hgd hsw i1 hin)
   have ea : swp G i1 j1 a = G a := swp_off (by omega) (by omega)
   rw [← ea] at hpi2
   refine ab_seq_k fun K8 h8 => ?_
   simp [abDs_consU, drU, recheck_cons, recheck_nil, rcK, IS.dst, hat, hat', hin, hjn, rowV_get, hs1, c3, c2]
   rw [rowV_swp]
   refine h8 _ _ _ ?_
   clear h8 K8
   obtain ⟨j1, rfl⟩ : ∃ j2, j1 = j2 + 1 := ⟨j1 - 1, by omega⟩
   simp only [Nat.add_sub_cancel] at hpi2
   refine ab_seq_k fun K9 h9 => ?_
   simp [wrap64 (x := (i1 : Int) + 1) (by omega) (by omega)]
   refine h9 _ _ _ ?_
   clear h9 K9
   simp [wrap64 (x := (j1 : Int)) (by omega) (by omega)]
   refine h14 _ _ _ (h13 _ _ _ (again _ ?_ ⟨i1 + 1, j1, swp G i1 (j1 + 1), rfl, by simp, hpi2, .step _ _ hsw (by omega) (by omega) hja hjb, hda.put⟩))
   omega
end
end Go.Ab
end
section
namespace Go.Ab
open Go Go.Proofs
section
variable {cv : V} {D : V → Prop} {lt : V → V → Bool}
theorem peq_ok {f : FuncId} {fn : Func} {ex : List Nat} (hf : Fn_ Tryz.prog f fn ex gpeq grpeq) (hcmp : CmpOK cv D lt) {σ : List O} {id ver n a b pv : Nat} {F : Nat → V} (hD : ∀ k, k < n → D (F k)) (hap : a ≤ pv) (hpb : pv < b) (hbn : b ≤ n) (hn : n ≤ 1000000) (hσ : σ[id]? = some (.row ver (rowV n F))) :
  FSpecQ Tryz.prog f [slV id ver n, .i .i64 a, .i .i64 b, .i .i64 pv, cv] σ (fun v σ' => ∃ (mid : Nat) (G : Nat → V), v = .i .i64 mid ∧ Sw a b F G ∧ G a = F pv ∧ a < mid ∧ mid ≤ b ∧ (∀ k, a < k → k < mid → lt (G a) (G k) = false) ∧ (∀ k, mid ≤ k → k < b → lt (G a) (G k) = true) ∧ DA σ id ver n G σ') := by
 obtain ⟨b, rfl⟩ : ∃ b1, b = b1 + 1 := ⟨b - 1, by omega⟩
 refine hf.specQ mixed noIt_ok ?_
 rw [gpeq]
 refine ab_seq_k fun K1 h1 => ?_
 simp
 refine h1 _ _ _ ?_
 clear h1 K1
 have hat1 := (List.getElem?_eq_some_iff.1 hσ).1
 have hat' := (List.getElem?_eq_some_iff.1 hσ).2
 have han : a < n := by omega
 have hpn : pv < n := by omega
 have hs1 : ∀ c, (σ.set id c)[id]? = some c := fun c => List.getElem?_set_self hat1
 have c1 := hcmp.one _ (hD a han)
 have c2 := hcmp.one _ (hD pv hpn)
 refine ab_seq_k fun K2 h2 => ?_
 simp [abDs_consU, drU, recheck_cons, recheck_nil, rcK, IS.dst, hσ, hat', han, hpn, rowV_get, hs1, c1, c2]
 rw [rowV_swp]
 refine h2 _ _ _ ?_
 clear h2 K2
 have hsw : Sw a (b + 1) F (swp F a pv) := .one (by omega) (by omega) hap hpb
 have hda : DA σ id ver n (swp F a pv) (σ.set id (.row ver (rowV n (swp F a pv)))) := (DA.mk0 hσ).put
 have hga : swp F a pv a = F pv := by
  rw [swp_at]
  by_cases h : a = pv
  ·rw [if_pos h, h]
  ·rw [if_neg h, if_pos rfl]
 refine ab_seq_k fun K3 h3 => ?_
 simp [wrap64 (x := (a : Int) + 1) (by omega) (by omega), wrap64 (x := (b : Int)) (by omega) (by omega)]
 refine h3 _ _ _ ?_
 clear h3 K3
 generalize swp F a pv = G at *
 generalize σ.set id (.row ver (rowV n G)) = σ' at *
 clear hs1 hat' hat1 c1 c2
 have hpi : PIg (fun x => !lt (G a) x) a (b + 1) (a + 1) b G := ⟨by omega, by omega, by omega, fun k h1 h2 => by omega, fun k h1 h2 => by omega⟩
 have hgd : ∀ {G : Nat → V}, Sw a (b + 1) F G → ∀ k, k < n → D (G k) := fun h k hk => h.alln hbn hD hk
 refine ab_seq_k fun K11 h11 => ?_
 refine ab_block_k fun K12 h12 => ?_
 refine ab_loop_k (fun m env σ' => ∃ (i j : Nat) (G : Nat → V), j + 1 - i = m ∧ env = [(0, slV id ver n), (1, .i .i64 a), (4, cv), (11, .i .i64 i), (12, .i .i64 j)] ∧ PIg (fun x => !lt (G a) x) a (b + 1) i j G ∧ Sw a (b + 1) F G ∧ G a = F pv ∧ DA σ id ver n G σ') _ ⟨a + 1, b, G, rfl, by simp, hpi, hsw, hga, hda⟩ ?_
 clear hpi hsw hda hga
 rintro m env σ' ⟨i, j, G, hm, rfl, hpi, hsw, hga, hda⟩ K13 h13
 rw [gpeq_2]
 refine ab_block_k fun K14 h14 => ?_
 refine ab_seq_k fun K15 h15 => ?_
 refine peq_up0 (i := i) (j := j) hcmp (hgd hsw) hbn hn hda.at_ rfl rfl rfl rfl rfl hpi ?_
 intro i1 hi0 hpi hup
 refine h15 _ _ _ ?_
 clear h15 K15
 refine ab_seq_k fun K16 h16 => ?_
 refine peq_dn1 (i := i1) (j := j) hcmp (hgd hsw) hbn hn hda.at_ rfl rfl rfl rfl rfl hpi ?_
 intro j1 hj0 hpi hdn
 refine h16 _ _ _ ?_
 clear h16 K16
 refine ab_seq_k fun K17 h17 => ?_
 refine ab_seq_k fun K18 h18 => ?_
 simp
 refine h18 _ _ _ ?_
 clear h18 K18
 have hat := hda.at_
 obtain ⟨hat1, hat'⟩ := List.getElem?_eq_some_iff.1 hat
 have hs1 : ∀ c, (σ'.set id c)[id]? = some c := fun c => List.getElem?_set_self hat1
 have hjn : j1 < n := by have := hpi.p3; omega
 have hja : a ≤ j1 := by have := hpi.p1; have := hpi.p2; omega
 have hjb : j1 < b + 1 := hpi.p3
 have hia : a + 1 ≤ i1 := hpi.p1
 have c2 := hcmp.one _ (hgd hsw j1 hjn)
 by_cases hij : j1 < i1
 ·have hij' : (j1 : Int) < i1 := by omega
  refine ab_cond_of rfl (fun _ => ?_) (fun h => by simp [hij] at h)
  simp
  refine h12 _ _ _ (h11 _ _ _ ?_)
  refine ab_seq_k fun K9 h9 => ?_
  simp
  refine h9 _ _ _ ?_
  clear h9 K9
  simp
  refine fin_Q ?_
  simp [grpeq]
  exact ⟨i1, rfl, G, hsw, hga, by omega, by have := hpi.p2; omega, fun k h1 h2 => by have := hpi.lo k (by omega) h2; simpa using this, fun k h1 h2 => by have := hpi.hi k (by omega) h2; simpa using this, hda⟩
 ·refine ab_cond_of rfl (fun h => by simp at h; omega) (fun _ => ?_)
  simp
  refine h17 _ _ _ ?_
  clear h17 K17
  have hgi : (fun x => !lt (G a) x) (G i1) = false := hup.resolve_left (by omega)
  have hgj : (fun x => !lt (G a) x) (G j1) = true := hdn.resolve_left hij
  obtain ⟨hlt, hpi2⟩ := hpi.swap (by omega) hgi hgj
  have hin : i1 < n := by omega
  have c3 := hcmp.one _ (hgd hsw i1 hin)
  have ea : swp G i1 j1 a = G a := swp_off (by omega) (by omega)
  have hga2 : swp G i1 j1 a = F pv := ea.trans hga
  rw [← ea] at hpi2
  refine ab_seq_k fun K8 h8 => ?_
  simp [abDs_consU, drU, recheck_cons, recheck_nil, rcK, IS.dst, hat, hat', hin, hjn, rowV_get, hs1, c3, c2]
  rw [rowV_swp]
  refine h8 _ _ _ ?_
  clear h8 K8
  obtain ⟨j1, rfl⟩ : ∃ j2, j1 = j2 + 1 := ⟨j1 - 1, by omega⟩
  simp only [Nat.add_sub_cancel] at hpi2
  refine ab_seq_k fun K9 h9 => ?_
  simp [wrap64 (x := (i1 : Int) + 1) (by omega) (by omega)]
  refine h9 _ _ _ ?_
  clear h9 K9
  simp [wrap64 (x := (j1 : Int)) (by omega) (by omega)]
  refine h14 _ _ _ (h13 _ _ _ (again _ ?_ ⟨i1 + 1, j1, swp G i1 (j1 + 1), rfl, by simp, hpi2, .step _ _ hsw (by omega) (by omega) hja hjb, hga2, hda.put⟩))
  omega
end
end Go.Ab
end
end
