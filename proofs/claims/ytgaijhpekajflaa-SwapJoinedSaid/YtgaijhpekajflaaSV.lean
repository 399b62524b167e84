/- The definition of groups. -/
import Derived.Test.YtgaijhpekajflaaSU
set_option linter.unusedVariables false
set_option linter.unusedSimpArgs false
set_option maxHeartbeats 4000000
set_option maxRecDepth 100000
namespace Go.Ab
open Go Go.Proofs

theorem cntB_le {m : Nat} {G : List Nat} : cntB m G ≤ G.length := List.countP_le_length
theorem checkG30 {n : Int} {D : List Db} {P : List Int} {f fp : Bool} (hl : (D.length : Int) < 9223372036854775808) (hP : (P.length : Int) < 9223372036854775808) : FSpec Try.prog 30 [bookV n D f, sl P fp] [] (pairV (chkG n D P)) [] := by
  refine fn30.spec0 mixed noIt_ok ?_
  rw [ic30]
  have hB := fun σ => FSpec.frame (σ := σ) (refBook (n := n) (D := D) (f := f) hl) (by simp) rfl
  refine ab_seq_k fun K1 h1 => ?_
  simp
  refine h1 _ _ _ ?_
  clear h1 K1
  refine ab_seq_k fun K2 h2 => ?_
  refine ab_seq_k fun K3 h3 => ?_
  simp [take_bookC]
  refine callK_of (hB _) ?_
  simp [take_bookC]
  refine h3 _ _ _ ?_
  clear h3 K3
  by_cases hc : checkBook n D = 0
  case neg =>
    refine ab_cond_of rfl (fun _ => ?_) (fun h => by simp [hc] at h)
    refine ab_seq_k fun K5 h5 => ?_
    simp [take_bookC]
    refine callK_of (hB _) ?_
    simp [take_bookC]
    refine h5 _ _ _ ?_
    clear h5 K5
    simp
    exact fin_of 1 (by simp [rs30, pairV, chkG, hc])
  refine ab_cond_of rfl (fun h => by simp [hc] at h) (fun _ => ?_)
  obtain ⟨N, rfl, hN1, hN, hlen, hD⟩ := book_nat hc
  simp
  refine h2 _ _ _ ?_
  clear h2 K2
  have hp := pow_small hN
  have hA := fun σ => FSpec.frame (σ := σ) (all33 (D := D) (f := f) hN rfl) (by simp) rfl
  have hS := fun (s : Nat) (hs : s < 9223372036854775808) σ => FSpec.frame (σ := σ) (sum50 (f := f) (s := s) hN hD hlen hs) (by simp) rfl
  have hchk : chkG N D P = if (N : Int) < P.length then (0, 6) else if (P.any fun x => !fit 1 (((2 ^ N : Nat) : Int) - 1) x) = true then (0, 3)
      else if oneB N (nats P) = false then (0, 16) else if (P.any fun x => !decide (sumF (balF D) x.toNat N = 0)) = true then (0, 14) else ((P.length : Int), 0) := by
    unfold chkG
    rw [if_neg (by simp [hc])]
    rfl
  generalize hF : balF D = F at *
  generalize hW : 2 ^ N = W at *
  clear hF
  refine ab_seq_k fun K4 h4 => ?_
  refine ab_seq_k fun K5 h5 => ?_
  simp [get0_bookC]
  refine h5 _ _ _ ?_
  clear h5 K5
  by_cases hlN : (N : Int) < P.length
  · refine ab_cond_of rfl (fun _ => ?_) (fun h => by simp at h; omega)
    refine ab_seq_k fun K7 h7 => ?_
    simp
    refine h7 _ _ _ ?_
    clear h7 K7
    simp
    exact fin_of 1 (by simp only [hchk]; simp [rs30, pairV, hlN])
  refine ab_cond_of rfl (fun h => by simp at h; omega) (fun _ => ?_)
  simp
  refine h4 _ _ _ ?_
  clear h4 K4
  refine ab_seq_k fun K6 h6 => ?_
  refine ab_seq_k fun K7 h7 => ?_
  simp
  refine h7 _ _ _ ?_
  clear h7 K7
  refine ab_block_k fun K8 h8 => ?_
  have hPs : ∀ s, s < P.length → P[s]? = some (gL P s) := fun s hs => o_some (o := P) (j := s) (by omega)
  refine ab_loop_k (fun m env σ => ∃ i : Nat, i + m = P.length ∧ env = [(1, sl P fp), (2, .p 0 0 0), (6, .i .i64 i)] ∧ (∀ j, j < i → fit 1 ((W : Int) - 1) (gL P j) = true) ∧ σ = [O.row 0 (bookC N D f)]) P.length ⟨0, by omega, by simp, by intro j h; omega, rfl⟩ ?_
  rintro m env σ ⟨i, hi, rfl, hok, rfl⟩ K9 h9
  rw [ic30_0]
  refine ab_seq_k fun K10 h10 => ?_
  refine ab_seq_k fun K11 h11 => ?_
  simp
  refine h11 _ _ _ ?_
  clear h11 K11
  refine ab_cond_of rfl (fun hc2 => ?_) (fun hc2 => ?_)
  · have hiW : i < P.length := by simpa using hc2
    have q1 := hPs i hiW
    obtain ⟨q1l, q1'⟩ := List.getElem?_eq_some_iff.1 q1
    simp
    refine h10 _ _ _ ?_
    clear h10 K10
    refine ab_seq_k fun K12 h12 => ?_
    refine ab_block_k fun K13 h13 => ?_
    refine ab_seq_k fun K14 h14 => ?_
    have hK : ∀ env c, get env 1 = sl P fp → get env 2 = .p 0 0 0 → get env 6 = .i .i64 i → get env 40 = .b c → (c = !fit 1 ((W : Int) - 1) (gL P i)) → K14 (some 0) env [O.row 0 (bookC N D f)] := by
      intro env c w1 w2 w6 w40 hcv
      refine h14 _ _ _ ?_
      refine ab_cond_of w40 (fun hc => ?_) (fun hc => ?_)
      · have hany : (P.any fun x => !fit 1 ((W : Int) - 1) x) = true := List.any_eq_true.2 ⟨_, List.mem_of_getElem? q1, by rw [← hcv]; exact hc⟩
        refine ab_seq_k fun K40 h40 => ?_
        simp
        refine h40 _ _ _ ?_
        clear h40 K40
        simp
        exact fin_of 1 (by simp only [hchk]; simp [rs30, pairV, hlN, hany])
      · simp [w1, w2, w6]
        refine h13 _ _ _ ?_
        refine h12 _ _ _ ?_
        simp [w1, w2, w6, wrap64 (x := (i : Int) + 1) (by omega) (by omega)]
        refine h9 _ _ _ (again (m - 1) (by omega) ⟨i + 1, by omega, by simp, ?_, rfl⟩)
        intro j hj
        by_cases h : j = i
        · subst h; rw [hc] at hcv; simpa using hcv.symm
        · exact hok j (by omega)
    generalize gL P i = x at *
    by_cases c1 : x < 1
    · simp [abDs_consU, drU, recheck_cons, recheck_nil, rcK, IS.dst, q1l, q1, q1', c1]
      exact hK _ _ rfl rfl rfl rfl (by rw [fit_not]; simp [c1])
    · simp [abDs_consU, drU, recheck_cons, recheck_nil, rcK, IS.dst, q1l, q1, q1', c1, take_bookC]
      refine callK_of (hA _) ?_
      simp [abDs_consU, drU, recheck_cons, recheck_nil, rcK, IS.dst, q1l, q1, q1', c1, take_bookC]
      exact hK _ _ rfl rfl rfl rfl (by rw [fit_not]; simp [c1])
  have hil : i = P.length := by simp at hc2; omega
  subst hil
  simp
  refine h8 _ _ _ ?_
  refine h6 _ _ _ ?_
  clear h6 h8 h9 h10 K6 K8 K9 K10 hc2 hi m
  have hfit : ¬ (P.any fun x => !fit 1 ((W : Int) - 1) x) = true := fun h => by
    obtain ⟨x, hx, hxf⟩ := List.any_eq_true.1 h
    obtain ⟨j, hj⟩ := List.mem_iff_getElem?.1 hx
    have hjl := (List.getElem?_eq_some_iff.1 hj).1
    have := hok j (by omega)
    rw [hPs j (by omega)] at hj
    cases hj
    rw [this] at hxf
    cases hxf
  have hPg : ∀ i x, P[i]? = some x → (nats P)[i]? = some x.toNat ∧ x = (x.toNat : Int) ∧ 1 ≤ x.toNat ∧ x.toNat < W := fun i x hx => by
    have hm := List.mem_of_getElem? hx
    have hf : fit 1 ((W : Int) - 1) x = true := by
      cases hq : fit 1 ((W : Int) - 1) x with
      | true => rfl
      | false => exact absurd (List.any_eq_true.2 ⟨_, hm, by rw [hq]; rfl⟩) hfit
    unfold fit at hf
    simp only [Bool.and_eq_true, decide_eq_true_eq] at hf
    exact ⟨nats_get hx, by omega, by omega, by omega⟩
  clear hok hPs
  refine ab_seq_k fun K15 h15 => ?_
  refine ab_seq_k fun K16 h16 => ?_
  simp
  refine h16 _ _ _ ?_
  clear h16 K16
  refine ab_block_k fun K17 h17 => ?_
  refine ab_loop_k (fun m env σ => ∃ k : Nat, k + m = N ∧ env = [(1, sl P fp), (2, .p 0 0 0), (7, .i .i64 k)] ∧ (∀ j, j < k → cntB j (nats P) = 1) ∧ σ = [O.row 0 (bookC N D f)]) N ⟨0, by omega, by simp, by intro j h; omega, rfl⟩ ?_
  rintro m env σ ⟨k, hk, rfl, hok, rfl⟩ K18 h18
  rw [ic30_2]
  refine ab_seq_k fun K19 h19 => ?_
  refine ab_seq_k fun K20 h20 => ?_
  simp [get0_bookC]
  refine h20 _ _ _ ?_
  clear h20 K20
  refine ab_cond_of rfl (fun hc2 => ?_) (fun hc2 => ?_)
  · have hkN : k < N := by simpa using hc2
    simp
    refine h19 _ _ _ ?_
    clear h19 K19
    refine ab_seq_k fun K21 h21 => ?_
    refine ab_block_k fun K22 h22 => ?_
    refine ab_seq_k fun K23 h23 => ?_
    simp
    refine h23 _ _ _ ?_
    clear h23 K23
    refine ab_seq_k fun K24 h24 => ?_
    refine ab_seq_k fun K25 h25 => ?_
    simp
    refine h25 _ _ _ ?_
    clear h25 K25
    refine ab_block_k fun K26 h26 => ?_
    refine ab_loop_k (fun m2 env σ => ∃ i : Nat, i + m2 = P.length ∧ env = [(1, sl P fp), (2, .p 0 0 0), (7, .i .i64 k), (8, .i .i64 (cntB k ((nats P).take i))), (9, .i .i64 i)] ∧ σ = [O.row 0 (bookC N D f)]) P.length ⟨0, by omega, by simp [cntB], rfl⟩ ?_
    rintro m2 env σ ⟨i, hi, rfl, rfl⟩ K27 h27
    rw [ic30_1]
    refine ab_seq_k fun K28 h28 => ?_
    refine ab_seq_k fun K29 h29 => ?_
    simp
    refine h29 _ _ _ ?_
    clear h29 K29
    refine ab_cond_of rfl (fun hc3 => ?_) (fun hc3 => ?_)
    · have hil : i < P.length := by simpa using hc3
      obtain ⟨x, hx⟩ : ∃ x, P[i]? = some x := ⟨_, List.getElem?_eq_getElem hil⟩
      obtain ⟨q1, q2, q3, q4⟩ := hPg i x hx
      obtain ⟨hxl, hx'⟩ := List.getElem?_eq_some_iff.1 hx
      generalize x.toNat = g at *
      subst q2
      have hbk := bit_is (s := g) (m := k) (by omega) (by omega)
      have hst := cntB_take (m := k) q1
      have hcl := cntB_mono (m := k) (i := i) (G := nats P)
      have hcl2 := cntB_le (m := k) (G := nats P)
      rw [nats_len] at hcl2
      simp
      refine h28 _ _ _ ?_
      clear h28 K28
      refine ab_seq_k fun K30 h30 => ?_
      refine ab_block_k fun K31 h31 => ?_
      simp [hxl, hx, hx', hbk]
      have hy : (0 : Int) ≤ (if g.testBit k then (1 : Int) else 0) ∧ (if g.testBit k then (1 : Int) else 0) ≤ 1 := by split <;> omega
      rw [wrap64 (by omega) (by omega)]
      refine h31 _ _ _ ?_
      refine h30 _ _ _ ?_
      simp [wrap64 (x := (i : Int) + 1) (by omega) (by omega)]
      refine h27 _ _ _ (again (m2 - 1) (by omega) ⟨i + 1, by omega, ?_, rfl⟩)
      rw [hst]
      simp
      split <;> simp
    · have hil : i = P.length := by simp at hc3; omega
      subst hil
      have htl : (nats P).take P.length = nats P := by
        rw [← nats_len (P := P), List.take_length]
      rw [htl]
      simp
      refine h26 _ _ _ ?_
      refine h24 _ _ _ ?_
      clear h24 h26 h27 h28
      refine ab_seq_k fun K33 h33 => ?_
      simp
      refine h33 _ _ _ ?_
      clear h33 K33
      by_cases h1 : cntB k (nats P) = 1
      · refine ab_cond_of rfl (fun h => by simp [h1] at h) (fun _ => ?_)
        simp
        refine h22 _ _ _ ?_
        refine h21 _ _ _ ?_
        simp [wrap64 (x := (k : Int) + 1) (by omega) (by omega)]
        refine h18 _ _ _ (again (m - 1) (by omega) ⟨k + 1, by omega, by simp, ?_, rfl⟩)
        intro j hj
        by_cases h : j = k
        · subst h; exact h1
        · exact hok j (by omega)
      · refine ab_cond_of rfl (fun _ => ?_) (fun h => by simp at h; omega)
        have hone : oneB N (nats P) = false := by
          cases hq : oneB N (nats P) with
          | false => rfl
          | true => exact absurd (oneB_iff.1 hq k hkN) h1
        refine ab_seq_k fun K34 h34 => ?_
        simp
        refine h34 _ _ _ ?_
        clear h34 K34
        simp
        exact fin_of 1 (by simp only [hchk]; simp [rs30, pairV, hlN, hfit, hone])
  have hkN : k = N := by simp at hc2; omega
  subst hkN
  have hone : oneB k (nats P) = true := oneB_iff.2 hok
  simp
  refine h17 _ _ _ ?_
  refine h15 _ _ _ ?_
  clear h15 h17 h18 h19 K15 K17 K18 K19 hc2 hk m hok
  refine ab_seq_k fun K35 h35 => ?_
  refine ab_seq_k fun K36 h36 => ?_
  simp
  refine h36 _ _ _ ?_
  clear h36 K36
  refine ab_block_k fun K37 h37 => ?_
  refine ab_loop_k (fun m env σ => ∃ i : Nat, i + m = P.length ∧ env = [(1, sl P fp), (2, .p 0 0 0), (10, .i .i64 i)] ∧ (∀ j x, j < i → P[j]? = some x → sumF F x.toNat k = 0) ∧ σ = [O.row 0 (bookC k D f)]) P.length ⟨0, by omega, by simp, by intro j x h; omega, rfl⟩ ?_
  rintro m env σ ⟨i, hi, rfl, hok, rfl⟩ K38 h38
  rw [ic30_3]
  refine ab_seq_k fun K39 h39 => ?_
  refine ab_seq_k fun K40 h40 => ?_
  simp
  refine h40 _ _ _ ?_
  clear h40 K40
  refine ab_cond_of rfl (fun hc2 => ?_) (fun hc2 => ?_)
  · have hil : i < P.length := by simpa using hc2
    obtain ⟨x, hx⟩ : ∃ x, P[i]? = some x := ⟨_, List.getElem?_eq_getElem hil⟩
    obtain ⟨q1, q2, q3, q4⟩ := hPg i x hx
    obtain ⟨hxl, hx'⟩ := List.getElem?_eq_some_iff.1 hx
    have hSx := hS x.toNat (by omega)
    rw [← q2] at hSx
    simp
    refine h39 _ _ _ ?_
    clear h39 K39
    refine ab_seq_k fun K41 h41 => ?_
    refine ab_block_k fun K42 h42 => ?_
    refine ab_seq_k fun K43 h43 => ?_
    simp [abDs_consU, drU, recheck_cons, recheck_nil, rcK, IS.dst, hxl, hx, hx', take_bookC]
    refine callK_of (hSx _) ?_
    simp [abDs_consU, drU, recheck_cons, recheck_nil, rcK, IS.dst, take_bookC]
    refine h43 _ _ _ ?_
    by_cases hz : sumF F x.toNat k = 0
    · refine ab_cond_of rfl (fun h => by simp [hz] at h) (fun _ => ?_)
      simp
      refine h42 _ _ _ ?_
      refine h41 _ _ _ ?_
      simp [wrap64 (x := (i : Int) + 1) (by omega) (by omega)]
      refine h38 _ _ _ (again (m - 1) (by omega) ⟨i + 1, by omega, by simp, ?_, rfl⟩)
      intro j y hj hy
      by_cases h : j = i
      · subst h; rw [hx] at hy; cases hy; exact hz
      · exact hok j y (by omega) hy
    · refine ab_cond_of rfl (fun _ => ?_) (fun h => by simp [hz] at h)
      have hbs : (P.any fun x => !decide (sumF F x.toNat k = 0)) = true := List.any_eq_true.2 ⟨x, List.mem_of_getElem? hx, by simp [hz]⟩
      refine ab_seq_k fun K44 h44 => ?_
      simp
      refine h44 _ _ _ ?_
      clear h44 K44
      simp
      exact fin_of 1 (by simp only [hchk]; simp only [hlN, hfit, hone, hbs]; simp [rs30, pairV])
  · have hil : i = P.length := by simp at hc2; omega
    subst hil
    have hbs : ¬ (P.any fun x => !decide (sumF F x.toNat k = 0)) = true := fun h => by
      obtain ⟨x, hx, hxf⟩ := List.any_eq_true.1 h
      obtain ⟨j, hj⟩ := List.mem_iff_getElem?.1 hx
      have := hok j x (List.getElem?_eq_some_iff.1 hj).1 hj
      simp [this] at hxf
    simp
    refine h37 _ _ _ ?_
    refine h35 _ _ _ ?_
    refine ab_seq_k fun K45 h45 => ?_
    simp
    refine h45 _ _ _ ?_
    clear h45 K45
    simp
    exact fin_of 1 (by simp only [hchk]; simp only [hlN, hfit, hone, hbs]; simp [rs30, pairV])
end Go.Ab
