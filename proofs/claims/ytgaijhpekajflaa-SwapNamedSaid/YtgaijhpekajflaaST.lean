/- The definition of right prices, the law SwapPrices. -/
import Derived.Test.YtgaijhpekajflaaSQ
import Derived.Test.YtgaijhpekajflaaSM
set_option linter.unusedVariables false
set_option linter.unusedSimpArgs false
set_option maxHeartbeats 4000000
set_option maxRecDepth 100000
namespace Go.Ab
open Go Go.Proofs

theorem drop1_is {s k : Nat} (h : s.testBit k = true) : drop1 s k = s - 2 ^ k ∧ 2 ^ k ≤ s := by
  have hs : Sub (2 ^ k) s := sub_iff.2 fun i hi => by
    rw [Nat.testBit_two_pow] at hi
    simp at hi
    subst hi; exact h
  exact ⟨less_sub hs, hs.le⟩
theorem checkP35 {n : Int} {D : List Db} {P : List Int} {f fp : Bool} (hl : (D.length : Int) < 9223372036854775808) (hP : (P.length : Int) < 9223372036854775808) : FSpec Try.prog 35 [bookV n D f, sl P fp] [] (pairV (chkP n D P)) [] := by
  refine fn35.spec0 mixed noIt_ok ?_
  rw [ic35]
  have hB := fun σ => FSpec.frame (σ := σ) (refBook (n := n) (D := D) (f := f) hl) (by simp) rfl
  refine ab_seq_k fun K1 h1 => ?_
  simp
  refine h1 _ _ _ ?_
  clear h1 K1
  refine ab_seq_k fun K2 h2 => ?_
  refine ab_seq_k fun K3 h3 => ?_
  simp [take_bookC]
  refine callK_of (hB _) ?_
  simp [take_bookC]
  refine h3 _ _ _ ?_
  clear h3 K3
  by_cases hc : checkBook n D = 0
  case neg =>
    refine ab_cond_of rfl (fun _ => ?_) (fun h => by simp [hc] at h)
    refine ab_seq_k fun K5 h5 => ?_
    simp [take_bookC]
    refine callK_of (hB _) ?_
    simp [take_bookC]
    refine h5 _ _ _ ?_
    clear h5 K5
    simp
    exact fin_of 1 (by simp [rs35, pairV, chkP, hc])
  refine ab_cond_of rfl (fun h => by simp [hc] at h) (fun _ => ?_)
  obtain ⟨N, rfl, hN1, hN, hlen, hD⟩ := book_nat hc
  simp
  refine h2 _ _ _ ?_
  clear h2 K2
  have hp := pow_small hN
  have e1 := shl_nat (m := N) (by omega)
  have e2 := shl_nat' (m := N) (by omega)
  have hA := fun σ => FSpec.frame (σ := σ) (all33 (D := D) (f := f) hN rfl) (by simp) rfl
  have hE := fun σ => FSpec.frame (σ := σ) (evens70 (f := f) hN rfl hD hlen) (by simp) (by simp)
  have hAll : allPrB (balF D) N P = true ↔ ∀ s, s < 2 ^ N → OkPr (balF D) N P s := allPrB_iff
  have hchk : chkP N D P = if P.length ≠ 2 ^ N then (0, 15) else if (P.any fun x => !fit 0 10 x) = true then (0, 3) else if gL P 0 ≠ 0 then (0, 14) else if allPrB (balF D) N P then (gL P (2 ^ N - 1), 0) else (0, 14) := by simp [chkP, hc]
  generalize hF : balF D = F at *
  generalize hW : 2 ^ N = W at *
  clear hF hW
  refine ab_seq_k fun K4 h4 => ?_
  refine ab_seq_k fun K5 h5 => ?_
  simp [get0_bookC, e1, e2]
  refine h5 _ _ _ ?_
  clear h5 K5
  by_cases hlW : P.length = W
  case neg =>
    refine ab_cond_of rfl (fun _ => ?_) (fun h => by simp at h; omega)
    refine ab_seq_k fun K7 h7 => ?_
    simp
    refine h7 _ _ _ ?_
    clear h7 K7
    simp
    exact fin_of 1 (by simp [rs35, pairV, hchk, hlW])
  refine ab_cond_of rfl (fun h => by simp at h; omega) (fun _ => ?_)
  simp
  refine h4 _ _ _ ?_
  clear h4 K4
  refine ab_seq_k fun K6 h6 => ?_
  refine ab_seq_k fun K7 h7 => ?_
  simp
  refine h7 _ _ _ ?_
  clear h7 K7
  refine ab_block_k fun K8 h8 => ?_
  have hPs : ∀ s, s < W → P[s]? = some (gL P s) := fun s hs => o_some (o := P) (j := s) (by omega)
  refine ab_loop_k (fun m env σ => ∃ i : Nat, i + m = W ∧ env = [(1, sl P fp), (2, .p 0 0 0), (6, .i .i64 i)] ∧ (∀ j, j < i → fit 0 10 (gL P j) = true) ∧ σ = [O.row 0 (bookC N D f)]) W ⟨0, by omega, by simp, by intro j h; omega, rfl⟩ ?_
  · rintro m env σ ⟨i, hi, rfl, hok, rfl⟩ K9 h9
    rw [ic35_0]
    refine ab_seq_k fun K10 h10 => ?_
    refine ab_seq_k fun K11 h11 => ?_
    simp
    refine h11 _ _ _ ?_
    clear h11 K11
    refine ab_cond_of rfl (fun hc2 => ?_) (fun hc2 => ?_)
    · have hiW : i < W := by simp at hc2; omega
      have q1 := hPs i hiW
      obtain ⟨q1l, q1'⟩ := List.getElem?_eq_some_iff.1 q1
      simp
      refine h10 _ _ _ ?_
      clear h10 K10
      refine ab_seq_k fun K12 h12 => ?_
      refine ab_block_k fun K13 h13 => ?_
      refine ab_seq_k fun K14 h14 => ?_
      have hK : ∀ env c, get env 1 = sl P fp → get env 2 = .p 0 0 0 → get env 6 = .i .i64 i → get env 38 = .b c → (c = !fit 0 10 (gL P i)) → K14 (some 0) env [O.row 0 (bookC N D f)] := by
        intro env c w1 w2 w6 w38 hcv
        refine h14 _ _ _ ?_
        refine ab_cond_of w38 (fun hc => ?_) (fun hc => ?_)
        · have hany : (P.any fun x => !fit 0 10 x) = true := List.any_eq_true.2 ⟨_, List.mem_of_getElem? q1, by rw [← hcv]; exact hc⟩
          refine ab_seq_k fun K40 h40 => ?_
          simp
          refine h40 _ _ _ ?_
          clear h40 K40
          simp
          exact fin_of 1 (by simp only [hchk]; simp [rs35, pairV, hlW, hany])
        · simp [w1, w2, w6]
          refine h13 _ _ _ ?_
          refine h12 _ _ _ ?_
          simp [w1, w2, w6, wrap64 (x := (i : Int) + 1) (by omega) (by omega)]
          refine h9 _ _ _ (again (m - 1) (by omega) ⟨i + 1, by omega, by simp, ?_, rfl⟩)
          intro j hj
          by_cases h : j = i
          · subst h; rw [hc] at hcv; simpa using hcv.symm
          · exact hok j (by omega)
      generalize gL P i = x at *
      by_cases c1 : x < 0
      · simp [q1l, q1, q1', c1]
        exact hK _ _ rfl rfl rfl rfl (by rw [fit_not]; simp [c1])
      · simp [q1l, q1, q1', c1]
        exact hK _ _ rfl rfl rfl rfl (by rw [fit_not]; simp [c1])
    · have hiW : W = i := by simp at hc2; omega
      subst hiW
      simp
      refine h8 _ _ _ ?_
      refine h6 _ _ _ ?_
      clear h6 h8 h9 h10
      have hfit : ¬ (P.any fun x => !fit 0 10 x) = true := fun h => by
        obtain ⟨x, hx, hxf⟩ := List.any_eq_true.1 h
        obtain ⟨j, hj⟩ := List.mem_iff_getElem?.1 hx
        have hjl := (List.getElem?_eq_some_iff.1 hj).1
        have := hok j (by omega)
        rw [hPs j (by omega)] at hj
        cases hj
        rw [this] at hxf
        cases hxf
      have hPg : ∀ s, s < W → P[s]? = some (gL P s) ∧ 0 ≤ gL P s ∧ gL P s ≤ 10 := fun s hs => by
        refine ⟨hPs s hs, ?_⟩
        have hf := hok s hs
        unfold fit at hf
        simp only [Bool.and_eq_true, decide_eq_true_eq] at hf
        exact hf
      clear hok hPs
      have hp0 := (hPg 0 (by omega)).1
      obtain ⟨hp0l, hp0'⟩ := List.getElem?_eq_some_iff.1 hp0
      have hP0 : 0 < P.length := by omega
      refine ab_seq_k fun K15 h15 => ?_
      refine ab_seq_k fun K16 h16 => ?_
      simp [hP0, hp0, hp0']
      refine h16 _ _ _ ?_
      clear h16 K16
      by_cases hz : gL P 0 = 0
      case neg =>
        refine ab_cond_of rfl (fun _ => ?_) (fun h => by simp [hz] at h)
        refine ab_seq_k fun K17 h17 => ?_
        simp
        refine h17 _ _ _ ?_
        clear h17 K17
        simp
        exact fin_of 1 (by simp only [hchk]; simp [rs35, pairV, hlW, hfit, hz])
      refine ab_cond_of rfl (fun h => by simp [hz] at h) (fun _ => ?_)
      simp
      refine h15 _ _ _ ?_
      clear h15 K15
      have hbad : ∀ s, s < W → ¬ OkPr F N P s → chkP N D P = (0, 14) := fun s hs hn => by
        have : allPrB F N P = false := by
          cases hq : allPrB F N P with
          | false => rfl
          | true => exact absurd (hAll.1 hq s hs) hn
        rw [hchk]; simp only [hlW, hfit, hz, this]; simp
      clear hc2 hi m
      refine ab_seq_k fun K18 h18 => ?_
      simp [take_bookC]
      refine callK_of (hE _) ?_
      simp [take_bookC]
      refine h18 _ _ _ ?_
      clear h18 K18
      refine ab_seq_k fun K19 h19 => ?_
      refine ab_seq_k fun K20 h20 => ?_
      simp
      refine h20 _ _ _ ?_
      clear h20 K20
      refine ab_block_k fun K21 h21 => ?_
      refine ab_loop_k (fun m env σ => ∃ s : Nat, s + m = W ∧ env = [(1, sl P fp), (2, .p 0 0 0), (7, sl (evL (evF F N) W) false), (8, .i .i64 s)] ∧ (∀ s', s' < s → OkPr F N P s') ∧ σ = [O.row 0 (bookC N D f)]) W ⟨0, by omega, by simp, by intro s' h; omega, rfl⟩ ?_
      rintro m env σ ⟨s, hs, rfl, hok, rfl⟩ K22 h22
      rw [ic35_2]
      refine ab_seq_k fun K23 h23 => ?_
      refine ab_seq_k fun K24 h24 => ?_
      simp [take_bookC]
      refine callK_of (hA _) ?_
      simp [take_bookC]
      refine h24 _ _ _ ?_
      clear h24 K24
      refine ab_cond_of rfl (fun hc2 => ?_) (fun hc2 => ?_)
      · have hsW : s < W := by simp at hc2; omega
        obtain ⟨q1, q2, q3⟩ := hPg s hsW
        obtain ⟨q1l, q1'⟩ := List.getElem?_eq_some_iff.1 q1
        simp
        refine h23 _ _ _ ?_
        clear h23 K23
        refine ab_seq_k fun K25 h25 => ?_
        refine ab_block_k fun K26 h26 => ?_
        refine ab_seq_k fun K27 h27 => ?_
        simp
        refine h27 _ _ _ ?_
        clear h27 K27
        refine ab_block_k fun K28 h28 => ?_
        refine ab_loop_k (fun m2 env σ => ∃ k : Nat, k + m2 = N ∧ env = [(1, sl P fp), (2, .p 0 0 0), (7, sl (evL (evF F N) W) false), (8, .i .i64 s), (9, .i .i64 k)] ∧
          (∀ j, j < k → s.testBit j = true → gL P (drop1 s j) + (if evF F N s then 1 else 0) ≤ gL P s) ∧ σ = [O.row 0 (bookC N D f)]) N ⟨0, by omega, by simp, by intro j h; omega, rfl⟩ ?_
        rintro m2 env σ ⟨k, hk, rfl, hok2, rfl⟩ K29 h29
        rw [ic35_1]
        refine ab_seq_k fun K30 h30 => ?_
        refine ab_seq_k fun K31 h31 => ?_
        simp [get0_bookC]
        refine h31 _ _ _ ?_
        clear h31 K31
        refine ab_cond_of rfl (fun hc3 => ?_) (fun hc3 => ?_)
        · have hkN : k < N := by simpa using hc3
          have hbk := bit_eq (s := s) (m := k) (by omega) (by omega)
          simp
          refine h30 _ _ _ ?_
          clear h30 K30
          refine ab_seq_k fun K32 h32 => ?_
          refine ab_block_k fun K33 h33 => ?_
          refine ab_seq_k fun K34 h34 => ?_
          have hK : ∀ env c, get env 1 = sl P fp → get env 2 = .p 0 0 0 → get env 7 = sl (evL (evF F N) W) false → get env 8 = .i .i64 s → get env 9 = .i .i64 k → get env 80 = .b c →
              (c = false ↔ (s.testBit k = true → gL P (drop1 s k) + (if evF F N s then 1 else 0) ≤ gL P s)) → K34 (some 0) env [O.row 0 (bookC N D f)] := by
            intro env c w1 w2 w7 w8 w9 w80 hcv
            refine h34 _ _ _ ?_
            refine ab_cond_of w80 (fun hc => ?_) (fun hc => ?_)
            · have hno : ¬ OkPr F N P s := fun ho => by have := hcv.2 (fun hb => ho k hkN hb); rw [hc] at this; cases this
              refine ab_seq_k fun K40 h40 => ?_
              simp
              refine h40 _ _ _ ?_
              clear h40 K40
              simp
              exact fin_of 1 (by rw [hbad s hsW hno]; simp [rs35, pairV])
            · simp [w1, w2, w7, w8, w9]
              refine h33 _ _ _ ?_
              refine h32 _ _ _ ?_
              simp [w1, w2, w7, w8, w9, wrap64 (x := (k : Int) + 1) (by omega) (by omega)]
              refine h29 _ _ _ (again (m2 - 1) (by omega) ⟨k + 1, by omega, by simp, ?_, rfl⟩)
              intro j hj hb
              by_cases hjk : j = k
              · subst hjk; exact hcv.1 hc hb
              · exact hok2 j (by omega) hb
          cases hb : s.testBit k with
          | false =>
            simp [abDs_consU, drU, recheck_cons, recheck_nil, rcK, IS.dst, hbk, hb]
            exact hK _ _ rfl rfl rfl rfl rfl rfl ⟨fun _ h => (by rw [hb] at h; cases h), fun _ => rfl⟩
          | true =>
            have hd1 := drop1_lt hb
            obtain ⟨hd2, hd3⟩ := drop1_is hb
            have e2 := shl_nat' (m := k) (by omega)
            have hp1 : 2 ^ k ≤ 1024 := (pow_small (by omega)).2
            generalize 2 ^ k = pk at *
            have hw : (((s : Int) - pk).toNat) = drop1 s k := by omega
            obtain ⟨r1, r2, r3⟩ := hPg (drop1 s k) (by omega)
            obtain ⟨r1l, r1'⟩ := List.getElem?_eq_some_iff.1 r1
            have hy : -1 ≤ (if evF F N s then (1 : Int) else 0) ∧ (if evF F N s then (1 : Int) else 0) ≤ 1 := by split <;> omega
            simp [abDs_consU, drU, recheck_cons, recheck_nil, rcK, IS.dst, hbk, hb, e2, q1l, q1, q1', wrap64 (x := (s : Int) - pk) (by omega) (by omega), hw, r1, r1', hsW, evL_at, evL_get hsW]
            rw [wrap64 (by omega) (by omega)]
            refine ⟨by omega, by omega, ?_⟩
            exact hK _ _ rfl rfl rfl rfl rfl rfl ⟨fun h _ => by have := of_decide_eq_false h; omega, fun h => decide_eq_false (by have := h hb; omega)⟩
        · have hkN : k = N := by simp at hc3; omega
          subst hkN
          simp
          refine h28 _ _ _ ?_
          refine h26 _ _ _ ?_
          refine h25 _ _ _ ?_
          simp [wrap64 (x := (s : Int) + 1) (by omega) (by omega)]
          refine h22 _ _ _ (again (m - 1) (by omega) ⟨s + 1, by omega, by simp, ?_, rfl⟩)
          intro s' hs'
          by_cases h : s' = s
          · subst h; exact hok2
          · exact hok s' (by omega)
      · have hsW : s = W := by simp at hc2; omega
        subst hsW
        simp
        refine h21 _ _ _ ?_
        refine h19 _ _ _ ?_
        obtain ⟨q1, q2, q3⟩ := hPg (s - 1) (by omega)
        obtain ⟨q1l, q1'⟩ := List.getElem?_eq_some_iff.1 q1
        have hw : (((s : Int) - 1).toNat) = s - 1 := by omega
        refine ab_seq_k fun K41 h41 => ?_
        simp [take_bookC]
        refine callK_of (hA _) ?_
        simp [hw, q1, q1']
        refine ⟨by omega, by omega, ?_⟩
        refine h41 _ _ _ ?_
        simp
        have hall : allPrB F N P = true := hAll.2 hok
        exact fin_of 1 (by simp only [hchk]; simp [rs35, pairV, hlW, hfit, hz, hall])
theorem chkP_own {N : Nat} {D : List Db} (hc : checkBook N D = 0) (hN : N ≤ 10) : chkP N D (prcL N D) = (topP N D, 0) := by
  have hg : ∀ s, gL (prcL N D) s = prP (balF D) N s := fun s => rfl
  have hpos := Nat.two_pow_pos N
  have h1 : ((prcL N D).any fun x => !fit 0 10 x) = false := by
    rw [List.any_eq_false]
    intro x hx
    obtain ⟨j, hj⟩ := List.mem_iff_getElem?.1 hx
    have hjl := (List.getElem?_eq_some_iff.1 hj).1
    have hjW : j < 2 ^ N := by rw [prcL_len] at hjl; exact hjl
    have e := o_some hjl
    rw [hj] at e
    have e2 : x = prP (balF D) N j := by rw [← hg]; exact Option.some.inj e
    have a := prP_nn (F := balF D) (N := N) (s := j)
    have b := prP_le (F := balF D) hjW
    rw [e2]
    unfold fit
    simp
    exact ⟨a, by omega⟩
  have h2 : allPrB (balF D) N (prcL N D) = true := allPrB_iff.2 fun s hs m hm hb => by rw [hg, hg]; exact prP_up hs hb
  have h3 : gL (prcL N D) 0 = 0 := by rw [hg]; exact prP_zero
  unfold chkP
  simp [hc, prcL_len, h1, h2, h3]
  rfl
end Go.Ab
