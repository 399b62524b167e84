/- Right prices, both. -/
import Derived.Test.YtgaijhpekajflaaSP
set_option linter.unusedVariables false
set_option linter.unusedSimpArgs false
set_option maxHeartbeats 4000000
set_option maxRecDepth 100000
namespace Go.Ab
open Go Go.Proofs

theorem clone72 {P : List Int} (h : P ≠ []) (hl : P.length ≤ 1000000) : FSpec Try.prog 72 [sl P false] [] (sl P false) [] := by
  refine fn72.spec0 mixed noIt_ok ?_
  rw [ic72]
  refine ab_seq_k fun K1 h1 => ?_
  simp
  refine h1 _ _ _ ?_
  clear h1 K1
  refine ab_seq_k fun K2 h2 => ?_
  refine ab_seq_k fun K3 h3 => ?_
  simp [snilK]
  refine ⟨h, ?_⟩
  refine h3 _ _ _ ?_
  clear h3 K3
  refine ab_cond_of rfl (fun h => by cases h) (fun _ => ?_)
  simp
  refine h2 _ _ _ ?_
  clear h2 K2
  refine ab_seq_k fun K4 h4 => ?_
  simp
  have hne : P.length ≠ 0 := fun hz => h (List.length_eq_zero_iff.1 hz)
  refine ⟨by omega, ?_⟩
  rw [if_neg h]
  refine h4 _ _ _ ?_
  simp
  refine fin_of 2 ?_
  simp [-frz, rs72]
  have hz := frz_ints (k := 0) (n := 0) (id := 0) (ver := 0) (σ := [O.row 0 (ints P)]) (l := P) rfl (Nat.zero_le _)
  rw [hz]
/-- The prices of a book. -/
def prcL (N : Nat) (D : List Db) : List Int := prL (evF (balF D) N) N (2 ^ N)
theorem prcL_len {N D} : (prcL N D).length = 2 ^ N := prL_len
theorem prcL_gL {N D s} : gL (prcL N D) s = prP (balF D) N s := rfl
def prcV (n : Int) (D : List Db) : V := if checkBook n D = 0 then .tup [sl (prcL n.toNat D) false, .i .i64 0] else .tup [.ss [] 0 true, .i .i64 (checkBook n D)]
theorem prcV_pure {n D} : (prcV n D).pure = true := by
  unfold prcV
  split
  · simp
  · rfl
theorem prices36 {n : Int} {D : List Db} {f : Bool} (hl : (D.length : Int) < 9223372036854775808) : FSpec Try.prog 36 [bookV n D f] [] (prcV n D) [] := by
  refine fn36.spec0 mixed noIt_ok ?_
  rw [ic36]
  have hO := fun σ => FSpec.frame (σ := σ) (open61 (n := n) (D := D) (f := f) hl) (by simp) openV_pure
  refine ab_seq_k fun K1 h1 => ?_
  simp
  refine h1 _ _ _ ?_
  clear h1 K1
  by_cases hc : checkBook n D = 0
  case neg =>
    have e : openV n D f = .tup [.np, .i .i64 (checkBook n D)] := by simp [openV, hc]
    rw [e] at hO
    refine ab_seq_k fun K2 h2 => ?_
    simp [take_bookC]
    refine callK_of (hO _) ?_
    simp [take_bookC]
    refine h2 _ _ _ ?_
    clear h2 K2
    refine ab_seq_k fun K3 h3 => ?_
    refine ab_seq_k fun K4 h4 => ?_
    simp
    refine h4 _ _ _ ?_
    clear h4 K4
    refine ab_cond_of rfl (fun _ => ?_) (fun h => by simp [hc] at h)
    refine ab_seq_k fun K5 h5 => ?_
    simp
    refine h5 _ _ _ ?_
    clear h5 K5
    simp
    exact fin_of 1 (by simp [rs36, prcV, hc])
  obtain ⟨N, rfl, hN1, hN, hlen, hD⟩ := book_nat hc
  have e : openV N D f = .tup [ledT N D f, .i .i64 0] := by simp [openV, hc]
  rw [e] at hO
  have hp := pow_small hN
  have hC := fun σ => FSpec.frame (σ := σ) (clone72 (P := prcL N D) (fun h => by have := prcL_len (N := N) (D := D); rw [h] at this; simp at this; omega) (by rw [prcL_len]; omega)) (by simp) (by simp)
  refine ab_seq_k fun K2 h2 => ?_
  simp [take_bookC]
  refine callK_of (hO _) ?_
  simp [take_bookC]
  refine h2 _ _ _ ?_
  clear h2 K2
  refine ab_seq_k fun K3 h3 => ?_
  refine ab_seq_k fun K4 h4 => ?_
  simp
  refine h4 _ _ _ ?_
  clear h4 K4
  refine ab_cond_of rfl (fun h => by cases h) (fun _ => ?_)
  simp
  refine h3 _ _ _ ?_
  clear h3 K3
  have h13 : (ledC N D f (balF D) (.sm ((mpV (evens (balF D) N)).map (·.2))) (sl (prL (evF (balF D) N) N (2 ^ N)) false))[13]? = some (sl (prcL N D) false) := rfl
  refine ab_seq_k fun K5 h5 => ?_
  simp [ledT, h13]
  refine callK_of (hC _) ?_
  simp
  refine h5 _ _ _ ?_
  simp
  exact fin_of 1 (by simp [rs36, prcV, hc])

/-- Prices are right. -/
def OkPr (F : Nat → Int) (N : Nat) (P : List Int) (s : Nat) : Prop := ∀ m, m < N → s.testBit m = true → gL P (drop1 s m) + (if evF F N s then 1 else 0) ≤ gL P s
def AllPr (F : Nat → Int) (N : Nat) (P : List Int) : Prop := ∀ s, s < 2 ^ N → OkPr F N P s
noncomputable def allPrB (F : Nat → Int) (N : Nat) (P : List Int) : Bool := @decide (AllPr F N P) (Classical.propDecidable _)
theorem allPrB_iff {F N P} : allPrB F N P = true ↔ AllPr F N P := by unfold allPrB; exact @decide_eq_true_iff _ (Classical.propDecidable _)
noncomputable def chkP (n : Int) (D : List Db) (P : List Int) : Int × Int :=
  if checkBook n D ≠ 0 then (0, checkBook n D) else if P.length ≠ 2 ^ n.toNat then (0, 15) else if (P.any fun x => !fit 0 10 x) = true then (0, 3) else if gL P 0 ≠ 0 then (0, 14)
  else if allPrB (balF D) n.toNat P then (gL P (2 ^ n.toNat - 1), 0) else (0, 14)
theorem within71 {x : Int} : FSpec Try.prog 71 [.i .i64 x] [] (.b (!fit 0 10 x)) [] := by
  refine fn71.spec0 mixed noIt_ok ?_
  rw [ic71]
  refine ab_seq_k fun K1 h1 => ?_
  simp
  refine h1 _ _ _ ?_
  clear h1 K1
  refine ab_seq_k fun K2 h2 => ?_
  simp
  refine callK_of (within0) ?_
  simp
  refine h2 _ _ _ ?_
  clear h2 K2
  simp
  exact fin_of 1 (by simp [rs71])
theorem checkP34 {n : Int} {D : List Db} {P : List Int} {f fp : Bool} (hl : (D.length : Int) < 9223372036854775808) (hP : (P.length : Int) < 9223372036854775808) : FSpec Try.prog 34 [bookV n D f, sl P fp] [] (pairV (chkP n D P)) [] := by
  refine fn34.spec0 mixed noIt_ok ?_
  rw [ic34]
  have hO := fun σ => FSpec.frame (σ := σ) (open61 (n := n) (D := D) (f := f) hl) (by simp) openV_pure
  refine ab_seq_k fun K1 h1 => ?_
  simp
  refine h1 _ _ _ ?_
  clear h1 K1
  by_cases hc : checkBook n D = 0
  case neg =>
    have e : openV n D f = .tup [.np, .i .i64 (checkBook n D)] := by simp [openV, hc]
    rw [e] at hO
    refine ab_seq_k fun K2 h2 => ?_
    simp [take_bookC]
    refine callK_of (hO _) ?_
    simp [take_bookC]
    refine h2 _ _ _ ?_
    clear h2 K2
    refine ab_seq_k fun K3 h3 => ?_
    refine ab_block_k fun K4 h4 => ?_
    refine ab_seq_k fun K5 h5 => ?_
    simp
    refine h5 _ _ _ ?_
    clear h5 K5
    refine ab_cond_of rfl (fun _ => ?_) (fun h => by simp [hc] at h)
    refine ab_seq_k fun K6 h6 => ?_
    simp
    refine h6 _ _ _ ?_
    clear h6 K6
    simp
    exact fin_of 1 (by simp [rs34, pairV, chkP, hc])
  obtain ⟨N, rfl, hN1, hN, hlen, hD⟩ := book_nat hc
  have e : openV N D f = .tup [ledT N D f, .i .i64 0] := by simp [openV, hc]
  rw [e] at hO
  have hp := pow_small hN
  have e1 := shl_nat (m := N) (by omega)
  have e2 := shl_nat' (m := N) (by omega)
  have hev : ∀ s : Nat, s < 2 ^ N → ∀ σ, FSpec Try.prog 69 [ledT N D f, .i .i64 s] σ (.b (evF (balF D) N s)) σ := fun s hs σ => by
    have := even69 (n := N) (D := D) (f := f) (F := balF D) (prs := sl (prL (evF (balF D) N) N (2 ^ N)) false) (E := evens (balF D) N) (s := s) (σ := σ) evens_len (by simp)
    rw [evB_is hs] at this
    exact this
  have hA : ∀ σ, FSpec Try.prog 63 [ledT N D f] σ (.i .i64 (((2 ^ N : Nat) : Int) - 1)) σ := fun σ => all63 hN rfl
  have hAll : allPrB (balF D) N P = true ↔ ∀ s, s < 2 ^ N → OkPr (balF D) N P s := allPrB_iff
  have hchk : chkP N D P = if P.length ≠ 2 ^ N then (0, 15) else if (P.any fun x => !fit 0 10 x) = true then (0, 3) else if gL P 0 ≠ 0 then (0, 14) else if allPrB (balF D) N P then (gL P (2 ^ N - 1), 0) else (0, 14) := by simp [chkP, hc]
  generalize hF : balF D = F at *
  generalize hW : 2 ^ N = W at *
  clear hF hW e
  have hpt : (ledT N D f).pure = true := pure_ledT
  generalize ledT N D f = lt at *
  refine ab_seq_k fun K2 h2 => ?_
  simp [take_bookC]
  refine callK_of (hO _) ?_
  simp [take_bookC]
  refine h2 _ _ _ ?_
  clear h2 K2
  refine ab_seq_k fun K3 h3 => ?_
  refine ab_block_k fun K4 h4 => ?_
  refine ab_seq_k fun K5 h5 => ?_
  simp
  refine h5 _ _ _ ?_
  clear h5 K5
  refine ab_cond_of rfl (fun h => by cases h) (fun _ => ?_)
  refine ab_seq_k fun K6 h6 => ?_
  simp [get0_bookC, e1, e2]
  refine h6 _ _ _ ?_
  clear h6 K6
  by_cases hlW : P.length = W
  case neg =>
    refine ab_cond_of rfl (fun _ => ?_) (fun h => by simp at h; omega)
    refine ab_seq_k fun K7 h7 => ?_
    simp
    refine h7 _ _ _ ?_
    clear h7 K7
    simp
    exact fin_of 1 (by simp [rs34, pairV, hchk, hlW])
  refine ab_cond_of rfl (fun h => by simp at h; omega) (fun _ => ?_)
  have hcf := fun σ => FSpec.frame (σ := σ) (containsFuncI (l := P) (full := fp) (g := 71) (first := []) (cap := []) (p := fun x => !fit 0 10 x) (fun x _ => within71) (by omega)) (by simp) rfl
  refine ab_seq_k fun K8 h8 => ?_
  simp
  refine callK_of (hcf _) ?_
  simp
  refine h8 _ _ _ ?_
  clear h8 K8
  by_cases hfit : (P.any fun x => !fit 0 10 x) = true
  · refine ab_cond_of rfl (fun _ => ?_) (fun h => by rw [hfit] at h; cases h)
    refine ab_seq_k fun K9 h9 => ?_
    simp
    refine h9 _ _ _ ?_
    clear h9 K9
    simp
    exact fin_of 1 (by simp only [hchk]; simp [rs34, pairV, hlW, hfit])
  refine ab_cond_of rfl (fun h => absurd h hfit) (fun _ => ?_)
  have hPg : ∀ s, s < W → P[s]? = some (gL P s) ∧ 0 ≤ gL P s ∧ gL P s ≤ 10 := fun s hs => by
    have := o_some (o := P) (j := s) (by omega)
    refine ⟨this, ?_⟩
    have hm := List.mem_of_getElem? this
    have hf : fit 0 10 (P.getD s 0) = true := by
      cases hq : fit 0 10 (P.getD s 0) with
      | true => rfl
      | false => exact absurd (List.any_eq_true.2 ⟨_, hm, by rw [hq]; rfl⟩) hfit
    unfold fit at hf
    simp only [Bool.and_eq_true, decide_eq_true_eq] at hf
    exact hf
  have hp0 := (hPg 0 (by omega)).1
  obtain ⟨hp0l, hp0'⟩ := List.getElem?_eq_some_iff.1 hp0
  have hP0 : 0 < P.length := by omega
  refine ab_seq_k fun K10 h10 => ?_
  simp [hP0, hp0, hp0']
  refine h10 _ _ _ ?_
  clear h10 K10
  by_cases hz : gL P 0 = 0
  case neg =>
    refine ab_cond_of rfl (fun _ => ?_) (fun h => by simp [hz] at h)
    refine ab_seq_k fun K11 h11 => ?_
    simp
    refine h11 _ _ _ ?_
    clear h11 K11
    simp
    exact fin_of 1 (by simp only [hchk]; simp [rs34, pairV, hlW, hfit, hz])
  refine ab_cond_of rfl (fun h => by simp [hz] at h) (fun _ => ?_)
  simp
  refine h4 _ _ _ ?_
  refine h3 _ _ _ ?_
  clear h3 h4 K3 K4
  have hbad : ∀ s, s < W → ¬ OkPr F N P s → chkP N D P = (0, 14) := fun s hs hn => by
    have : allPrB F N P = false := by
      cases hq : allPrB F N P with
      | false => rfl
      | true => exact absurd (hAll.1 hq s hs) hn
    rw [hchk]; simp only [hlW, hfit, hz, this]; simp
  refine ab_seq_k fun K12 h12 => ?_
  refine ab_seq_k fun K13 h13 => ?_
  simp
  refine h13 _ _ _ ?_
  clear h13 K13
  refine ab_block_k fun K14 h14 => ?_
  refine ab_loop_k (fun m env σ => ∃ s : Nat, s + m = W ∧ env = [(1, sl P fp), (2, .p 0 0 0), (6, lt), (36, sl P fp), (37, .i .i64 P.length), (38, .i .i64 s)] ∧ (∀ s', s' < s → OkPr F N P s') ∧ σ = [O.row 0 (bookC N D f)]) W ⟨0, by omega, by simp, by intro s' h; omega, rfl⟩ ?_
  rintro m env σ ⟨s, hs, rfl, hok, rfl⟩ K15 h15
  rw [ic34_1]
  refine ab_seq_k fun K16 h16 => ?_
  simp
  refine h16 _ _ _ ?_
  clear h16 K16
  refine ab_seq_k fun K17 h17 => ?_
  refine ab_cond_of rfl (fun hc2 => ?_) (fun hc2 => ?_)
  · have hsW : s < W := by simp at hc2; omega
    obtain ⟨q1, q2, q3⟩ := hPg s hsW
    obtain ⟨q1l, q1'⟩ := List.getElem?_eq_some_iff.1 q1
    simp
    refine h17 _ _ _ ?_
    clear h17 K17
    refine ab_seq_k fun K18 h18 => ?_
    refine ab_block_k fun K19 h19 => ?_
    refine ab_seq_k fun K20 h20 => ?_
    simp [q1l, q1, q1']
    refine h20 _ _ _ ?_
    clear h20 K20
    refine ab_seq_k fun K21 h21 => ?_
    simp [get0_bookC]
    refine h21 _ _ _ ?_
    clear h21 K21
    refine ab_block_k fun K22 h22 => ?_
    refine ab_loop_k (fun m2 env σ => ∃ k : Nat, k + m2 = N ∧ env = [(1, sl P fp), (2, .p 0 0 0), (6, lt), (8, .i .i64 s), (9, .i .i64 (gL P s)), (36, sl P fp), (37, .i .i64 P.length), (38, .i .i64 s), (44, .i .i64 N), (45, .i .i64 k)] ∧
      (∀ j, j < k → s.testBit j = true → gL P (drop1 s j) + (if evF F N s then 1 else 0) ≤ gL P s) ∧ σ = [O.row 0 (bookC N D f)]) N ⟨0, by omega, by simp, by intro j h; omega, rfl⟩ ?_
    rintro m2 env σ ⟨k, hk, rfl, hok2, rfl⟩ K23 h23
    rw [ic34_0]
    refine ab_seq_k fun K24 h24 => ?_
    simp
    refine h24 _ _ _ ?_
    clear h24 K24
    refine ab_seq_k fun K25 h25 => ?_
    refine ab_cond_of rfl (fun hc3 => ?_) (fun hc3 => ?_)
    · have hkN : k < N := by simpa using hc3
      have hbk := bit_is (s := s) (m := k) (by omega) (by omega)
      simp
      refine h25 _ _ _ ?_
      clear h25 K25
      refine ab_seq_k fun K26 h26 => ?_
      refine ab_block_k fun K27 h27 => ?_
      refine ab_seq_k fun K28 h28 => ?_
      simp
      refine h28 _ _ _ ?_
      clear h28 K28
      refine ab_seq_k fun K29 h29 => ?_
      have hend : ∀ env, get env 1 = sl P fp → get env 2 = .p 0 0 0 → get env 6 = lt → get env 8 = .i .i64 s → get env 9 = .i .i64 (gL P s) → get env 36 = sl P fp → get env 37 = .i .i64 P.length → get env 38 = .i .i64 s → get env 44 = .i .i64 N → get env 45 = .i .i64 k →
          (s.testBit k = true → gL P (drop1 s k) + (if evF F N s then 1 else 0) ≤ gL P s) → K27 (some 0) env [O.row 0 (bookC N D f)] := by
        intro env w1 w2 w6 w8 w9 w36 w37 w38 w44 w45 hgood
        refine h27 _ _ _ ?_
        refine h26 _ _ _ ?_
        simp [w1, w2, w6, w8, w9, w36, w37, w38, w44, w45, wrap64 (x := (k : Int) + 1) (by omega) (by omega)]
        refine h23 _ _ _ (again (m2 - 1) (by omega) ⟨k + 1, by omega, by simp, ?_, rfl⟩)
        intro j hj hb
        by_cases hjk : j = k
        · subst hjk; exact hgood hb
        · exact hok2 j (by omega) hb
      refine ab_seq_k fun K31 h31 => ?_
      cases hb : s.testBit k with
      | false =>
        rw [hb] at hbk
        simp [hbk]
        refine h31 _ _ _ ?_
        refine ab_cond_of rfl (fun _ => ?_) (fun h => by cases h)
        simp
        exact hend _ rfl rfl rfl rfl rfl rfl rfl rfl rfl rfl (fun h => by rw [hb] at h; cases h)
      | true =>
        rw [hb] at hbk
        simp [hbk]
        refine h31 _ _ _ ?_
        refine ab_cond_of rfl (fun h => by cases h) (fun _ => ?_)
        simp
        refine h29 _ _ _ ?_
        clear h29 h31 K29 K31
        have hd1 := drop1_lt hb
        have e2 := shl_nat' (m := k) (by omega)
        have e3 : less s (2 ^ k) = drop1 s k := rfl
        have hp1 : 2 ^ k ≤ 1024 := (pow_small (by omega)).2
        generalize 2 ^ k = pk at *
        have e4 := andNot_nat (a := s) (b := pk) (by omega) (by omega)
        rw [e3] at e4
        obtain ⟨r1, r2, r3⟩ := hPg (drop1 s k) (by omega)
        obtain ⟨r1l, r1'⟩ := List.getElem?_eq_some_iff.1 r1
        refine ab_seq_k fun K32 h32 => ?_
        simp [e2, e4, r1l, r1, r1']
        refine h32 _ _ _ ?_
        clear h32 K32
        refine ab_seq_k fun K33 h33 => ?_
        have hK : ∀ env c, get env 1 = sl P fp → get env 2 = .p 0 0 0 → get env 6 = lt → get env 8 = .i .i64 s → get env 9 = .i .i64 (gL P s) → get env 36 = sl P fp → get env 37 = .i .i64 P.length → get env 38 = .i .i64 s → get env 44 = .i .i64 N → get env 45 = .i .i64 k → get env 72 = .b c →
            (c = false ↔ gL P (drop1 s k) + (if evF F N s then 1 else 0) ≤ gL P s) → K33 (some 0) env [O.row 0 (bookC N D f)] := by
          intro env c w1 w2 w6 w8 w9 w36 w37 w38 w44 w45 w72 hcv
          refine h33 _ _ _ ?_
          refine ab_cond_of w72 (fun hc => ?_) (fun hc => ?_)
          · have hno : ¬ OkPr F N P s := fun ho => by have := hcv.2 (ho k hkN hb); rw [hc] at this; cases this
            refine ab_seq_k fun K40 h40 => ?_
            simp
            refine h40 _ _ _ ?_
            clear h40 K40
            simp
            exact fin_of 1 (by rw [hbad s hsW hno]; simp [rs34, pairV])
          · simp [w1, w2, w6, w8, w9, w36, w37, w38, w44, w45]
            exact hend _ (by simp [w1]) (by simp [w2]) (by simp [w6]) (by simp [w8]) (by simp [w9]) (by simp [w36]) (by simp [w37]) (by simp [w38]) (by simp [w44]) (by simp [w45]) (fun _ => hcv.1 hc)
        by_cases hlt : gL P s < gL P (drop1 s k)
        · simp [hlt]
          exact hK _ _ rfl rfl rfl rfl rfl rfl rfl rfl rfl rfl rfl ⟨fun h => (by cases h), fun h => by split at h <;> omega⟩
        by_cases heq : gL P s = gL P (drop1 s k)
        · simp [heq.symm]
          refine callK_of (hev s hsW _) ?_
          simp [heq.symm]
          refine hK _ (evF F N s) rfl rfl rfl rfl rfl rfl rfl rfl rfl rfl rfl ⟨fun h => ?_, fun h => ?_⟩
          · rw [h]; simp; omega
          · cases hq : evF F N s with
            | false => rfl
            | true => rw [hq, if_pos rfl] at h; omega
        · simp [hlt, heq]
          exact hK _ _ rfl rfl rfl rfl rfl rfl rfl rfl rfl rfl rfl ⟨fun h => by split <;> omega, fun _ => rfl⟩
    · have hkN : k = N := by simp at hc3; omega
      subst hkN
      simp
      refine h22 _ _ _ ?_
      refine h19 _ _ _ ?_
      refine h18 _ _ _ ?_
      simp [wrap64 (x := (s : Int) + 1) (by omega) (by omega)]
      refine h15 _ _ _ (again (m - 1) (by omega) ⟨s + 1, by omega, by simp, ?_, rfl⟩)
      intro s' hs'
      by_cases h : s' = s
      · subst h; exact hok2
      · exact hok s' (by omega)
  · have hsW : s = W := by simp at hc2; omega
    subst hsW
    simp
    refine h14 _ _ _ ?_
    refine h12 _ _ _ ?_
    obtain ⟨q1, q2, q3⟩ := hPg (s - 1) (by omega)
    obtain ⟨q1l, q1'⟩ := List.getElem?_eq_some_iff.1 q1
    have hw : (((s : Int) - 1).toNat) = s - 1 := by omega
    refine ab_seq_k fun K30 h30 => ?_
    simp
    refine callK_of (hA _) ?_
    simp [hw, q1, q1']
    refine ⟨by omega, by omega, ?_⟩
    refine h30 _ _ _ ?_
    simp
    have hall : allPrB F N P = true := hAll.2 hok
    exact fin_of 1 (by simp only [hchk]; simp [rs34, pairV, hlW, hfit, hz, hall])
end Go.Ab
