/- The law of function 10; its control form is made by program. -/
import Derived.Test.YtgaijhpekajflaaUI
set_option linter.unusedVariables false
set_option linter.unusedSimpArgs false
set_option maxHeartbeats 4000000
set_option maxRecDepth 100000
namespace Go.Ab
open Go Go.Proofs

def ic10_0 : IC := (.seq (.seq (.reg [.op (some 52) none (.mov (.t 11)), .op (some 53) none (.bin .add (.t 52) (.c (.i .i64 1))), .op (some 54) none (.fad 0 (.t 2)), .op (some 55) none (.load1 (.t 54)), .op (some 56) none (.bin .lss (.t 53) (.t 55))] (some [1, 2, 5, 7, 9, 10, 11, 56])) (.cond (.t 56) .skip (.exit 0))) (.seq (.block 1 (.seq (.drw [(.op (some 59) none (.mov (.t 1)), []), (.op (some 60) none (.conv .i64 (.t 59)), []), (.op (some 61) none (.fad 0 (.t 2)), []), (.op (some 62) none (.load1 (.t 61)), []), (.op (some 63) none (.bin .rem (.t 60) (.t 62)), []), (.op (some 64) none (.mov (.t 11)), []), (.op (some 65) none (.bin .add (.t 63) (.t 64)), []), (.op (some 66) none (.fad 0 (.t 2)), []), (.op (some 67) none (.load1 (.t 66)), []), (.op (some 68) none (.bin .rem (.t 65) (.t 67)), []), (.op (some 12) none (.mov (.t 68)), [])] (some [1, 2, 5, 7, 9, 10, 11, 12])) (.seq (.reg [.op (some 69) none (.mov (.t 12)), .op (some 70) none (.bin .add (.t 69) (.c (.i .i64 1))), .op (some 71) none (.fad 0 (.t 2)), .op (some 72) none (.load1 (.t 71)), .op (some 73) none (.bin .rem (.t 70) (.t 72)), .op (some 13) none (.mov (.t 73))] (some [1, 2, 5, 7, 9, 10, 11, 12, 13])) (.seq (.reg [.op (some 74) none (.mov (.t 10)), .op (some 75) none (.mov (.t 5)), .op (some 76) none (.mov (.t 12)), .op (some 77) none (.ixs 1 (.t 75) (.t 76)), .op (some 78) none (.load1 (.t 77)), .op (some 79) none (.bin .add (.t 74) (.t 78)), .op (some 10) none (.mov (.t 79))] (some [1, 2, 5, 7, 9, 10, 11, 12, 13])) (.seq (.reg [.op (some 80) none (.mov (.t 10)), .op (some 81) none (.bin .gtr (.t 80) (.c (.i .i64 0)))] (some [1, 2, 5, 7, 9, 10, 11, 12, 13, 81])) (.cond (.t 81) (.reg [.op (some 82) none (.mov (.t 9)), .op (some 83) none (.mov (.t 13)), .op (some 84) none (.mov (.t 12)), .op (some 85) none (.mov (.t 10)), .call (some 86) none 48 [(.t 83), (.t 84), (.t 85)], .op (some 87) none (.bsl true 3 1 [(.i .i64 0), (.i .i64 0), (.i .i64 0)] [(0, 3, (.t 86))]), .op (some 88) none (.app 3 24 (.t 82) (.t 87)), .op (some 9) none (.mov (.t 88))] (some [1, 2, 5, 7, 9, 10, 11])) (.seq (.reg [.op (some 89) none (.mov (.t 10)), .op (some 90) none (.bin .lss (.t 89) (.c (.i .i64 0)))] (some [1, 2, 5, 7, 9, 10, 11, 12, 13, 90])) (.cond (.t 90) (.reg [.op (some 91) none (.mov (.t 9)), .op (some 92) none (.mov (.t 12)), .op (some 93) none (.mov (.t 13)), .op (some 94) none (.mov (.t 10)), .op (some 95) none (.neg (.t 94)), .call (some 96) none 48 [(.t 92), (.t 93), (.t 95)], .op (some 97) none (.bsl true 3 1 [(.i .i64 0), (.i .i64 0), (.i .i64 0)] [(0, 3, (.t 96))]), .op (some 98) none (.app 3 24 (.t 91) (.t 97)), .op (some 9) none (.mov (.t 98))] (some [1, 2, 5, 7, 9, 10, 11])) .skip)))))))) (.reg [.op (some 57) none (.mov (.t 11)), .op (some 58) none (.bin .add (.t 57) (.c (.i .i64 1))), .op (some 11) none (.mov (.t 58))] (some [1, 2, 5, 7, 9, 10, 11]))))
def ic10 : IC := (.seq (.reg [.op (some 2) none (.box (.t 0)), .op (some 4) none (.mov (.c (.b false)))] (some [1, 2])) (.seq (.seq (.reg [.op (some 14) none (.loadA 2 (.t 2)), .call (some 15) none 45 [(.t 14)], .op (some 16) none (.not (.t 15))] (some [1, 2, 16])) (.cond (.t 16) (.seq (.reg [.call (some 17) none 18 [], .op (some 4) none (.mov (.t 17))] (some [4])) .ret) .skip)) (.seq (.reg [.op (some 19) none (.loadA 2 (.t 2)), .call (some 20) none 19 [(.t 19)], .op (some 18) none (.mov (.t 20)), .op (some 21) none (.ext 0 (.t 18)), .op (some 22) none (.ext 1 (.t 18)), .op (some 5) none (.mov (.t 21)), .op (some 6) none (.mov (.t 22))] (some [1, 2, 5, 6])) (.seq (.reg [.op (some 24) none (.loadA 2 (.t 2)), .call (some 25) none 26 [(.t 24)], .op (some 23) none (.mov (.t 25)), .op (some 26) none (.ext 0 (.t 23)), .op (some 27) none (.ext 1 (.t 23)), .op (some 7) none (.mov (.t 26)), .op (some 8) none (.mov (.t 27))] (some [1, 2, 5, 6, 7, 8])) (.seq (.seq (.reg [.op (some 28) none (.mov (.t 6)), .op (some 29) none (.bin .neq (.t 28) (.c (.i .i64 0))), .op (some 30) none (.mov (.t 29)), .op (some 31) (some (30, false)) (.mov (.t 8)), .op (some 32) (some (30, false)) (.bin .neq (.t 31) (.c (.i .i64 0))), .op (some 33) none (.pick (.t 30) (.c (.b true)) (.t 32)), .op (some 34) none (.mov (.t 33)), .op (some 35) (some (34, false)) (.mov (.t 5)), .op (some 36) (some (34, false)) (.loadA 2 (.t 2)), .call (some 37) (some (34, false)) 47 [(.t 36)], .call (some 38) (some (34, false)) 23 [(.t 35), (.t 37)], .op (some 39) (some (34, false)) (.not (.t 38)), .op (some 40) none (.pick (.t 34) (.c (.b true)) (.t 39)), .op (some 41) none (.mov (.t 40)), .op (some 42) (some (41, false)) (.mov (.t 7)), .op (some 43) (some (41, false)) (.bin .lss (.t 42) (.c (.i .i64 0))), .op (some 44) none (.pick (.t 41) (.c (.b true)) (.t 43)), .op (some 45) none (.mov (.t 44)), .op (some 46) (some (45, false)) (.mov (.t 7)), .op (some 47) (some (45, false)) (.fad 0 (.t 2)), .op (some 48) (some (45, false)) (.load1 (.t 47)), .op (some 49) (some (45, false)) (.bin .sub (.t 48) (.c (.i .i64 1))), .op (some 50) (some (45, false)) (.bin .gtr (.t 46) (.t 49)), .op (some 51) none (.pick (.t 45) (.c (.b true)) (.t 50))] (some [1, 2, 5, 7, 51])) (.cond (.t 51) (.seq (.reg [.op (some 4) none (.mov (.c (.b false)))] (some [4])) .ret) .skip)) (.seq (.reg [.op (some 9) none (.mov (.c (.ss [] 0 true)))] (some [1, 2, 5, 7, 9])) (.seq (.reg [.op (some 10) none (.mov (.c (.i .i64 0)))] (some [1, 2, 5, 7, 9, 10])) (.seq (.seq (.reg [.op (some 11) none (.mov (.c (.i .i64 0)))] (some [1, 2, 5, 7, 9, 10, 11])) (.block 0 (.loop (some [1, 2, 5, 7, 9, 10, 11]) ic10_0))) (.seq (.reg [.op (some 99) none (.loadA 2 (.t 2)), .op (some 100) none (.mov (.t 9)), .call (some 101) none 24 [(.t 99), (.t 100)], .op (some 102) none (.bin .eql (.t 101) (.c (.i .i64 0))), .op (some 103) none (.mov (.t 102)), .op (some 104) (some (103, true)) (.mov (.t 9)), .op (some 105) (some (103, true)) (.len (.t 104)), .op (some 106) (some (103, true)) (.mov (.t 7)), .op (some 107) (some (103, true)) (.bin .geq (.t 105) (.t 106)), .op (some 108) none (.pick (.t 103) (.t 107) (.c (.b false))), .op (some 109) none (.mov (.t 108)), .call (some 110) (some (109, true)) 18 [], .op (some 111) none (.pick (.t 109) (.t 110) (.c (.b false))), .op (some 4) none (.mov (.t 111))] (some [4])) .ret)))))))))
def rs10 : List IRes := [.tmp 4]
theorem fn10 : Fn_ Try.prog 10 Try.f10 [] ic10 rs10 := ⟨by kernel_rfl, by decide, by kernel_rfl, by kernel_rfl⟩

theorem swapChained {n x : Int} {D : List Db} {f : Bool} (hl : (D.length : Int) < 9223372036854775808) (hx : 0 ≤ x ∧ x < 256) :
    FSpec Try.prog 10 [bookV n D f, .i .u8 x] [] (.b true) [] := by
  refine fn10.spec0 mixed noIt_ok ?_
  rw [ic10]
  have G1 := fun σ => FSpec.frame (σ := σ) (fine45 (n := n) (D := D) (f := f) hl) (by simp) rfl
  refine ab_seq_k fun K1 h1 => ?_
  simp
  refine h1 _ _ _ ?_
  clear h1 K1
  refine ab_seq_k fun K2 h2 => ?_
  refine ab_seq_k fun K3 h3 => ?_
  simp [take_bookC]
  refine callK_of (G1 _) ?_
  simp [take_bookC]
  refine h3 _ _ _ ?_
  clear h3 K3
  by_cases hc : checkBook n D = 0
  case neg =>
    refine ab_cond_of rfl (fun _ => ?_) (fun h => by simp [fineB, hc] at h)
    refine ab_seq_k fun K4 h4 => ?_
    simp
    refine callK_of (wk _) ?_
    simp
    refine h4 _ _ _ ?_
    clear h4 K4
    simp
    exact fin_of 1 (by simp [rs10])
  refine ab_cond_of rfl (fun h => by simp [fineB, hc] at h) (fun _ => ?_)
  simp
  refine h2 _ _ _ ?_
  clear h2 K2
  obtain ⟨N, rfl, hN1, hN, hlen, hD⟩ := book_nat hc
  have hp := pow_small hN
  have hbp : balP N D = .tup [sl (rowF N (balF D)) false, .i .i64 0] := by unfold balP; rw [if_pos hc, Int.toNat_natCast]
  have G2 := fun σ => FSpec.frame (σ := σ) (prgBal (n := N) (D := D) (f := f) hl) (by simp) balP_pure
  rw [hbp] at G2
  have G3 := fun σ => FSpec.frame (σ := σ) (fewest26 (n := N) (D := D) (f := f) hl) (by simp) rfl
  rw [fewP_ok hc] at G3
  simp only [pairV] at G3
  have G4 := fun σ => FSpec.frame (σ := σ) (bal47 (f := f) (M := 1000000) (by omega) (by omega) hD (by omega) rfl hN) (by simp) (by simp)
  have G5 := fun σ => FSpec.frame (σ := σ) (longs23 (a := rowF N (balF D)) (b := rowF N (balF D)) (fa := false) (fb := false) (by simp; omega)) (by simp) rfl
  have htb := topP_b (N := N) (D := D)
  have htp := topP_pos hN1 hD
  have hF := bal_small hD hlen
  obtain ⟨c, hcx, hcN⟩ : ∃ c : Nat, x.tmod (N : Int) = (c : Int) ∧ c < N := by
    refine ⟨(x % (N : Int)).toNat, ?_, ?_⟩
    · rw [Int.tmod_eq_emod_of_nonneg (by omega)]
      have := Int.emod_nonneg x (show (N : Int) ≠ 0 by omega)
      omega
    · have := Int.emod_nonneg x (show (N : Int) ≠ 0 by omega)
      have := Int.emod_lt_of_pos x (show (0 : Int) < N by omega)
      omega
  obtain ⟨hch, hcl⟩ := chain_ok (c := c) hc hN hD hlen
  have hle := drafts_least hc hN hch
  have G6 := fun fl σ => FSpec.frame (σ := σ) (prgDrafts (n := N) (D := D) (L := chainL (balF D) N c) (f := f) (fl := fl) hl (by omega)) (by simp) rfl
  rw [hch] at G6
  have hpre := fun i => preS_abs (i := i) (rotL_nodup (N := N) (c := c)) (fun m hm => rotL_mem.1 hm) hD
  have hrl := rotL_len (N := N) (c := c)
  have hget := fun i (hi : i < N) => rotL_get hcN hi
  clear hch hbp
  generalize hT : topP N D = T at *
  generalize balF D = F at *
  have hchd : chainL F N c = ((settleL F (rotL N c)).take (N - 1)).filter nzD := by
    unfold chainL
    rw [List.take_of_length_le (by rw [settleL_len, hrl]; omega)]
  refine ab_seq_k fun K5 h5 => ?_
  simp [take_bookC]
  refine callK_of (G2 _) ?_
  simp [take_bookC]
  refine h5 _ _ _ ?_
  clear h5 K5
  refine ab_seq_k fun K6 h6 => ?_
  simp [take_bookC]
  refine callK_of (G3 _) ?_
  simp [take_bookC]
  refine h6 _ _ _ ?_
  clear h6 K6
  refine ab_seq_k fun K7 h7 => ?_
  refine ab_seq_k fun K8 h8 => ?_
  simp [take_bookC]
  refine callK_of (G4 _) ?_
  simp
  refine callK_of (G5 _) ?_
  have hT1 : ¬ (N : Int) - T < 0 := by omega
  have hT2 : ¬ (N : Int) - 1 < (N : Int) - T := by omega
  simp [hT1, get0_bookC, wrap64 (x := (N : Int) - 1) (by omega) (by omega), hT2]
  refine h8 _ _ _ ?_
  refine ab_cond_of rfl (fun h => by cases h) (fun _ => ?_)
  simp
  refine h7 _ _ _ ?_
  clear h7 h8 K7 K8
  refine ab_seq_k fun K9 h9 => ?_
  simp
  refine h9 _ _ _ ?_
  clear h9 K9
  refine ab_seq_k fun K10 h10 => ?_
  simp
  refine h10 _ _ _ ?_
  clear h10 K10
  refine ab_seq_k fun K11 h11 => ?_
  refine ab_seq_k fun K12 h12 => ?_
  simp
  refine h12 _ _ _ ?_
  clear h12 K12
  refine ab_block_k fun K13 h13 => ?_
  refine ab_loop_k (fun m env σ => ∃ (i : Nat) (v : V), i + m = N - 1 ∧ env = [(1, .i .u8 x), (2, .p 0 0 0), (5, sl (rowF N F) false), (7, .i .i64 ((N : Int) - T)), (9, v), (10, .i .i64 (preS F (rotL N c) i)), (11, .i .i64 i)] ∧ σ[0]? = some (.row 0 (bookC N D f)) ∧
      Gr 1 3 σ v (((settleL F (rotL N c)).take i).filter nzD).length (lsD (((settleL F (rotL N c)).take i).filter nzD))) (N - 1)
    ⟨0, .ss [] 0 true, by omega, by simp [preS], rfl, by simpa [lsD] using Gr.nil⟩ ?_
  rintro m env σ ⟨i, v, hi, rfl, hσ0, hv⟩ K14 h14
  obtain ⟨hs0, s0'⟩ := List.getElem?_eq_some_iff.1 hσ0
  rw [ic10_0]
  refine ab_seq_k fun K15 h15 => ?_
  refine ab_seq_k fun K16 h16 => ?_
  simp [hσ0, s0', get0_bookC, wrap64 (x := (i : Int) + 1) (by omega) (by omega)]
  refine h16 _ _ _ ?_
  clear h16 K16
  refine ab_cond_of rfl (fun hc2 => ?_) (fun hc2 => ?_)
  · have hil : i + 1 < N := by simp at hc2; omega
    have q1 := hget i (by omega)
    have q2 := hget (i + 1) hil
    have hst := chain_take (F := F) q1 q2
    have hps := preS_succ (F := F) q1
    have hb1 := hpre (i + 1)
    have hb0 := hpre i
    have hmN : (c + i) % N < N := Nat.mod_lt _ (by omega)
    have e1 : ((c : Int) + i).tmod N = (((c + i) % N : Nat) : Int) := by rw [Int.tmod_eq_emod_of_nonneg (by omega), Int.natCast_emod, Int.natCast_add]
    have e2 : ((((c + i) % N : Nat) : Int) + 1).tmod N = (((c + (i + 1)) % N : Nat) : Int) := by
      rw [Int.tmod_eq_emod_of_nonneg (by omega)]
      have : ((c + i) % N + 1) % N = (c + (i + 1)) % N := by rw [Nat.mod_add_mod, Nat.add_assoc]
      rw [← this, Int.natCast_emod]
      rfl
    have hcl2 : (((settleL F (rotL N c)).take i).filter nzD).length ≤ 10 := by
      have a := List.length_filter_le nzD ((settleL F (rotL N c)).take i)
      rw [List.length_take, settleL_len, hrl] at a
      omega
    have hFm := hF ((c + i) % N)
    have hnz : ¬ (N = 0) := by omega
    generalize (c + i) % N = p at *
    generalize (c + (i + 1)) % N = q at *
    simp
    refine h15 _ _ _ ?_
    clear h15 K15
    refine ab_seq_k fun K17 h17 => ?_
    refine ab_block_k fun K18 h18 => ?_
    refine ab_seq_k fun K19 h19 => ?_
    simp [abDs_consU, drU, recheck_cons, recheck_nil, rcK, IS.dst, hσ0, s0', get0_bookC, wrap64 (x := x) (by omega) (by omega), hnz, hcx, wrap64 (x := (c : Int) + i) (by omega) (by omega), e1]
    refine h19 _ _ _ ?_
    clear h19 K19
    refine ab_seq_k fun K20 h20 => ?_
    simp [hσ0, s0', get0_bookC, hnz, wrap64 (x := (p : Int) + 1) (by omega) (by omega), e2]
    refine h20 _ _ _ ?_
    clear h20 K20
    refine ab_seq_k fun K21 h21 => ?_
    simp [hmN, rowF_get hmN]
    rw [wrap64 (by omega) (by omega), ← hps]
    refine h21 _ _ _ ?_
    clear h21 K21
    have hend : ∀ env σ v', get env 1 = .i .u8 x → get env 2 = .p 0 0 0 → get env 5 = sl (rowF N F) false → get env 7 = .i .i64 ((N : Int) - T) → get env 9 = v' → get env 10 = .i .i64 (preS F (rotL N c) (i + 1)) → get env 11 = .i .i64 i → σ[0]? = some (.row 0 (bookC N D f)) →
        Gr 1 3 σ v' (((settleL F (rotL N c)).take (i + 1)).filter nzD).length (lsD (((settleL F (rotL N c)).take (i + 1)).filter nzD)) → K18 (some 0) env σ := by
      intro env σ v' w1 w2 w5 w7 w9 w10 w11 a1 a2
      refine h18 _ _ _ ?_
      refine h17 _ _ _ ?_
      simp [w1, w2, w5, w7, w9, w10, w11, wrap64 (x := (i : Int) + 1) (by omega) (by omega)]
      exact h14 _ _ _ (again (m - 1) (by omega) ⟨i + 1, v', by omega, by simp, a1, a2⟩)
    generalize preS F (rotL N c) (i + 1) = l at *
    refine ab_seq_k fun K22 h22 => ?_
    simp
    refine h22 _ _ _ ?_
    clear h22 K22
    by_cases hpos : 0 < l
    · have hd : mkD l p q = ((q : Int), (p : Int), l) := by unfold mkD; rw [if_neg (by omega)]
      rw [if_neg (by omega), hd] at hst
      refine ab_cond_of rfl (fun _ => ?_) (fun h => by simp at h; omega)
      simp
      refine callK_of (FSpec.frame debt48 (by simp) (by simp)) ?_
      simp
      refine appG hv (by omega) (by omega) (by simp) rfl ?_
      intro v2 σ3 hv2 hg2
      simp
      refine hend _ _ _ rfl rfl rfl rfl rfl rfl rfl ?_ ?_
      · rw [hg2.lt hv (by omega) (by omega)]; exact hσ0
      · rw [hst, lsD_append, List.length_append]; exact hv2
    · refine ab_cond_of rfl (fun h => by simp at h; omega) (fun _ => ?_)
      refine ab_seq_k fun K23 h23 => ?_
      simp
      refine h23 _ _ _ ?_
      clear h23 K23
      by_cases hneg : l < 0
      · have hd : mkD l p q = ((p : Int), (q : Int), -l) := by unfold mkD; rw [if_pos hneg]
        rw [if_neg (by omega), hd] at hst
        refine ab_cond_of rfl (fun _ => ?_) (fun h => by simp at h; omega)
        simp [wrap64 (x := -l) (by omega) (by omega)]
        refine callK_of (FSpec.frame debt48 (by simp) (by simp)) ?_
        simp
        refine appG hv (by omega) (by omega) (by simp) rfl ?_
        intro v2 σ3 hv2 hg2
        simp
        refine hend _ _ _ rfl rfl rfl rfl rfl rfl rfl ?_ ?_
        · rw [hg2.lt hv (by omega) (by omega)]; exact hσ0
        · rw [hst, lsD_append, List.length_append]; exact hv2
      · have hz : l = 0 := by omega
        rw [if_pos hz, List.append_nil] at hst
        refine ab_cond_of rfl (fun h => by simp at h; omega) (fun _ => ?_)
        simp
        refine hend _ _ _ rfl rfl rfl rfl rfl rfl rfl hσ0 (by rw [hst]; exact hv)
  · have hil : i = N - 1 := by simp at hc2; omega
    subst hil
    rw [← hchd] at hv
    simp
    refine h13 _ _ _ ?_
    refine h11 _ _ _ ?_
    have hge : (N : Int) - T ≤ (chainL F N c).length := hle
    have hcall : FSpec Try.prog 24 [bookV N D f, v] σ (.i .i64 0) σ := by
      refine FSpec.frozen 2 ?_ rfl
      rw [List.map_cons, List.map_cons, List.map_nil, frz_pure (by simp), frz_G hv (by simp)]
      exact G6 _ []
    refine ab_seq_k fun K30 h30 => ?_
    simp [hσ0, s0', take_bookC]
    refine callK_of hcall ?_
    simp
    refine lenG hv ?_
    simp [hge]
    refine callK_of (wk _) ?_
    simp
    refine h30 _ _ _ ?_
    simp
    exact fin_of 1 (by simp [rs10])
end Go.Ab
