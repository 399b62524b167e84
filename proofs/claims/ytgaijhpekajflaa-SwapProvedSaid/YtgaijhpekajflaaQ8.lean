/- The law of function 8; its control form is made by program. -/
import Derived.Test.YtgaijhpekajflaaUH
set_option linter.unusedVariables false
set_option linter.unusedSimpArgs false
set_option maxHeartbeats 4000000
set_option maxRecDepth 100000
namespace Go.Ab
open Go Go.Proofs

def ic8 : IC := (.seq (.reg [.op (some 3) none (.box (.t 0)), .op (some 6) none (.mov (.c (.b false)))] (some [1, 2, 3])) (.seq (.seq (.reg [.op (some 22) none (.loadA 2 (.t 3)), .call (some 23) none 45 [(.t 22)], .op (some 24) none (.not (.t 23)), .op (some 25) none (.mov (.t 24)), .op (some 26) (some (25, false)) (.mov (.t 1)), .op (some 27) (some (25, false)) (.len (.t 26)), .op (some 28) (some (25, false)) (.bin .gtr (.t 27) (.c (.i .i64 20))), .op (some 29) none (.pick (.t 25) (.c (.b true)) (.t 28)), .op (some 30) none (.mov (.t 29)), .op (some 31) (some (30, false)) (.mov (.t 2)), .op (some 32) (some (30, false)) (.len (.t 31)), .op (some 33) (some (30, false)) (.bin .gtr (.t 32) (.c (.i .i64 1024))), .op (some 34) none (.pick (.t 30) (.c (.b true)) (.t 33))] (some [1, 2, 3, 34])) (.cond (.t 34) (.seq (.reg [.call (some 35) none 18 [], .op (some 6) none (.mov (.t 35))] (some [6])) .ret) .skip)) (.seq (.reg [.op (some 37) none (.loadA 2 (.t 3)), .call (some 38) none 31 [(.t 37)], .op (some 36) none (.mov (.t 38)), .op (some 39) none (.ext 0 (.t 36)), .op (some 40) none (.ext 1 (.t 36)), .op (some 7) none (.mov (.t 39)), .op (some 8) none (.mov (.t 40))] (some [1, 2, 3, 7, 8])) (.seq (.reg [.op (some 42) none (.loadA 2 (.t 3)), .call (some 43) none 36 [(.t 42)], .op (some 41) none (.mov (.t 43)), .op (some 44) none (.ext 0 (.t 41)), .op (some 45) none (.ext 1 (.t 41)), .op (some 9) none (.mov (.t 44)), .op (some 10) none (.mov (.t 45))] (some [1, 2, 3, 7, 8, 9, 10])) (.seq (.seq (.reg [.op (some 46) none (.mov (.t 8)), .op (some 47) none (.bin .neq (.t 46) (.c (.i .i64 0))), .op (some 48) none (.mov (.t 47)), .op (some 49) (some (48, false)) (.mov (.t 10)), .op (some 50) (some (48, false)) (.bin .neq (.t 49) (.c (.i .i64 0))), .op (some 51) none (.pick (.t 48) (.c (.b true)) (.t 50))] (some [1, 2, 3, 7, 9, 51])) (.cond (.t 51) (.seq (.reg [.op (some 6) none (.mov (.c (.b false)))] (some [6])) .ret) .skip)) (.seq (.reg [.op (some 53) none (.loadA 2 (.t 3)), .op (some 54) none (.mov (.t 7)), .call (some 55) none 29 [(.t 53), (.t 54)], .op (some 52) none (.mov (.t 55)), .op (some 56) none (.ext 0 (.t 52)), .op (some 57) none (.ext 1 (.t 52)), .op (some 11) none (.mov (.t 56)), .op (some 8) none (.mov (.t 57))] (some [1, 2, 3, 7, 8, 9, 11])) (.seq (.reg [.op (some 59) none (.loadA 2 (.t 3)), .op (some 60) none (.mov (.t 9)), .call (some 61) none 34 [(.t 59), (.t 60)], .op (some 58) none (.mov (.t 61)), .op (some 62) none (.ext 0 (.t 58)), .op (some 63) none (.ext 1 (.t 58)), .op (some 12) none (.mov (.t 62)), .op (some 10) none (.mov (.t 63))] (some [1, 2, 3, 7, 8, 9, 10, 11, 12])) (.seq (.reg [.op (some 65) none (.loadA 2 (.t 3)), .op (some 66) none (.mov (.t 7)), .call (some 67) none 30 [(.t 65), (.t 66)], .op (some 64) none (.mov (.t 67)), .op (some 68) none (.ext 0 (.t 64)), .op (some 69) none (.ext 1 (.t 64)), .op (some 13) none (.mov (.t 68)), .op (some 14) none (.mov (.t 69))] (some [1, 2, 3, 8, 9, 10, 11, 12, 13, 14])) (.seq (.reg [.op (some 71) none (.loadA 2 (.t 3)), .op (some 72) none (.mov (.t 9)), .call (some 73) none 35 [(.t 71), (.t 72)], .op (some 70) none (.mov (.t 73)), .op (some 74) none (.ext 0 (.t 70)), .op (some 75) none (.ext 1 (.t 70)), .op (some 15) none (.mov (.t 74)), .op (some 16) none (.mov (.t 75))] (some [1, 2, 3, 8, 10, 11, 12, 13, 14, 15, 16])) (.seq (.seq (.reg [.op (some 76) none (.mov (.t 8)), .op (some 77) none (.bin .neq (.t 76) (.c (.i .i64 0))), .op (some 78) none (.mov (.t 77)), .op (some 79) (some (78, false)) (.mov (.t 10)), .op (some 80) (some (78, false)) (.bin .neq (.t 79) (.c (.i .i64 0))), .op (some 81) none (.pick (.t 78) (.c (.b true)) (.t 80)), .op (some 82) none (.mov (.t 81)), .op (some 83) (some (82, false)) (.mov (.t 14)), .op (some 84) (some (82, false)) (.bin .neq (.t 83) (.c (.i .i64 0))), .op (some 85) none (.pick (.t 82) (.c (.b true)) (.t 84)), .op (some 86) none (.mov (.t 85)), .op (some 87) (some (86, false)) (.mov (.t 16)), .op (some 88) (some (86, false)) (.bin .neq (.t 87) (.c (.i .i64 0))), .op (some 89) none (.pick (.t 86) (.c (.b true)) (.t 88)), .op (some 90) none (.mov (.t 89)), .op (some 91) (some (90, false)) (.mov (.t 11)), .op (some 92) (some (90, false)) (.mov (.t 12)), .op (some 93) (some (90, false)) (.bin .neq (.t 91) (.t 92)), .op (some 94) none (.pick (.t 90) (.c (.b true)) (.t 93)), .op (some 95) none (.mov (.t 94)), .op (some 96) (some (95, false)) (.mov (.t 13)), .op (some 97) (some (95, false)) (.mov (.t 11)), .op (some 98) (some (95, false)) (.bin .neq (.t 96) (.t 97)), .op (some 99) none (.pick (.t 95) (.c (.b true)) (.t 98)), .op (some 100) none (.mov (.t 99)), .op (some 101) (some (100, false)) (.mov (.t 15)), .op (some 102) (some (100, false)) (.mov (.t 11)), .op (some 103) (some (100, false)) (.bin .neq (.t 101) (.t 102)), .op (some 104) none (.pick (.t 100) (.c (.b true)) (.t 103))] (some [1, 2, 3, 11, 104])) (.cond (.t 104) (.seq (.reg [.op (some 6) none (.mov (.c (.b false)))] (some [6])) .ret) .skip)) (.seq (.reg [.op (some 105) none (.loadA 2 (.t 3)), .op (some 106) none (.mov (.t 1)), .call (some 107) none 46 [(.t 105), (.t 106)], .op (some 17) none (.mov (.t 107))] (some [2, 3, 11, 17])) (.seq (.reg [.op (some 109) none (.loadA 2 (.t 3)), .op (some 110) none (.mov (.t 17)), .call (some 111) none 29 [(.t 109), (.t 110)], .op (some 108) none (.mov (.t 111)), .op (some 112) none (.ext 0 (.t 108)), .op (some 113) none (.ext 1 (.t 108)), .op (some 18) none (.mov (.t 112)), .op (some 8) none (.mov (.t 113))] (some [2, 3, 8, 11, 17, 18])) (.seq (.reg [.op (some 115) none (.loadA 2 (.t 3)), .op (some 116) none (.mov (.t 2)), .call (some 117) none 34 [(.t 115), (.t 116)], .op (some 114) none (.mov (.t 117)), .op (some 118) none (.ext 0 (.t 114)), .op (some 119) none (.ext 1 (.t 114)), .op (some 19) none (.mov (.t 118)), .op (some 10) none (.mov (.t 119))] (some [3, 8, 10, 11, 17, 18, 19])) (.seq (.reg [.op (some 121) none (.loadA 2 (.t 3)), .op (some 122) none (.mov (.t 17)), .call (some 123) none 30 [(.t 121), (.t 122)], .op (some 120) none (.mov (.t 123)), .op (some 124) none (.ext 0 (.t 120)), .op (some 125) none (.ext 1 (.t 120)), .op (some 20) none (.mov (.t 124)), .op (some 21) none (.mov (.t 125))] (some [8, 10, 11, 18, 19, 21])) (.seq (.seq (.reg [.op (some 126) none (.mov (.t 8)), .op (some 127) none (.mov (.t 21)), .op (some 128) none (.bin .neq (.t 126) (.t 127)), .op (some 129) none (.mov (.t 128)), .op (some 130) (some (129, false)) (.mov (.t 8)), .op (some 131) (some (129, false)) (.bin .eql (.t 130) (.c (.i .i64 0))), .op (some 132) (some (129, false)) (.mov (.t 131)), .op (some 133) (some (132, true)) (.mov (.t 18)), .op (some 134) (some (132, true)) (.mov (.t 11)), .op (some 135) (some (132, true)) (.bin .gtr (.t 133) (.t 134)), .op (some 136) (some (129, false)) (.pick (.t 132) (.t 135) (.c (.b false))), .op (some 137) none (.pick (.t 129) (.c (.b true)) (.t 136)), .op (some 138) none (.mov (.t 137)), .op (some 139) (some (138, false)) (.mov (.t 10)), .op (some 140) (some (138, false)) (.bin .eql (.t 139) (.c (.i .i64 0))), .op (some 141) (some (138, false)) (.mov (.t 140)), .op (some 142) (some (141, true)) (.mov (.t 19)), .op (some 143) (some (141, true)) (.mov (.t 11)), .op (some 144) (some (141, true)) (.bin .lss (.t 142) (.t 143)), .op (some 145) (some (138, false)) (.pick (.t 141) (.t 144) (.c (.b false))), .op (some 146) none (.pick (.t 138) (.c (.b true)) (.t 145))] (some [8, 10, 18, 19, 146])) (.cond (.t 146) (.seq (.reg [.op (some 6) none (.mov (.c (.b false)))] (some [6])) .ret) .skip)) (.seq (.reg [.op (some 147) none (.mov (.t 8)), .op (some 148) none (.bin .neq (.t 147) (.c (.i .i64 0))), .op (some 149) none (.mov (.t 148)), .op (some 150) (some (149, false)) (.mov (.t 10)), .op (some 151) (some (149, false)) (.bin .neq (.t 150) (.c (.i .i64 0))), .op (some 152) none (.pick (.t 149) (.c (.b true)) (.t 151)), .op (some 153) none (.mov (.t 152)), .op (some 154) (some (153, false)) (.mov (.t 18)), .op (some 155) (some (153, false)) (.mov (.t 19)), .op (some 156) (some (153, false)) (.bin .leq (.t 154) (.t 155)), .op (some 157) none (.pick (.t 153) (.c (.b true)) (.t 156)), .op (some 158) none (.mov (.t 157)), .call (some 159) (some (158, true)) 18 [], .op (some 160) none (.pick (.t 158) (.t 159) (.c (.b false))), .op (some 6) none (.mov (.t 160))] (some [6])) .ret))))))))))))))))
def rs8 : List IRes := [.tmp 6]
theorem fn8 : Fn_ Try.prog 8 Try.f8 [] ic8 rs8 := ⟨by kernel_rfl, by decide, by kernel_rfl, by kernel_rfl⟩

theorem swapProved {n : Int} {D : List Db} {P by_ : List Int} {f fp fb : Bool} (hl : (D.length : Int) < 9223372036854775808) (hbl : (by_.length : Int) < 9223372036854775808) (hb2 : ∀ x ∈ by_, 0 ≤ x ∧ x < 256) (hP : (P.length : Int) < 9223372036854775808) :
    FSpec Try.prog 8 [bookV n D f, slB by_ fb, sl P fp] [] (.b true) [] := by
  refine fn8.spec0 mixed noIt_ok ?_
  rw [ic8]
  have G1 := fun σ => FSpec.frame (σ := σ) (fine45 (n := n) (D := D) (f := f) hl) (by simp) rfl
  refine ab_seq_k fun K1 h1 => ?_
  simp
  refine h1 _ _ _ ?_
  clear h1 K1
  refine ab_seq_k fun K2 h2 => ?_
  refine ab_seq_k fun K3 h3 => ?_
  simp [take_bookC]
  refine callK_of (G1 _) ?_
  have hret : ∀ env σ, get env 34 = .b true → K3 (some 0) env σ := by
    intro env σ w
    refine h3 _ _ _ ?_
    refine ab_cond_of w (fun _ => ?_) (fun h => by cases h)
    refine ab_seq_k fun K4 h4 => ?_
    simp
    refine callK_of (wk _) ?_
    simp
    refine h4 _ _ _ ?_
    clear h4 K4
    simp
    exact fin_of 1 (by simp [rs8])
  by_cases hc : checkBook n D = 0
  case neg =>
    simp [fineB, hc]
    exact hret _ _ rfl
  by_cases g2 : (20 : Int) < by_.length
  · simp [fineB, hc, g2]
    exact hret _ _ rfl
  by_cases g3 : (1024 : Int) < P.length
  · simp [fineB, hc, g2, g3]
    exact hret _ _ rfl
  simp [fineB, hc, g2, g3]
  refine h3 _ _ _ ?_
  clear h3 hret K3
  refine ab_cond_of rfl (fun h => by cases h) (fun _ => ?_)
  simp
  refine h2 _ _ _ ?_
  clear h2 K2
  obtain ⟨N, rfl, hN1, hN, hlen, hD⟩ := book_nat hc
  have hp := pow_small hN
  obtain ⟨o, hch, -, hG31⟩ := groups31 hl hc hN1 hN hD
  have G2 := fun σ => FSpec.frame (σ := σ) (hG31 f) (by simp) (by simp)
  have hol := hch.len
  have e : prcV N D = .tup [sl (prcL N D) false, .i .i64 0] := by simp [prcV, hc]
  have G3 := fun σ => FSpec.frame (σ := σ) (prices36 (n := N) (D := D) (f := f) hl) (by simp) prcV_pure
  rw [e] at G3
  have G4 := fun σ => FSpec.frame (σ := σ) (checkG29 (n := N) (D := D) (P := grpL o) (f := f) (fp := false) hl (by rw [grpL_len]; omega)) (by simp) rfl
  have G5 := fun σ => FSpec.frame (σ := σ) (checkP34 (n := N) (D := D) (P := prcL N D) (f := f) (fp := false) hl (by rw [prcL_len]; omega)) (by simp) rfl
  have G6 := fun σ => FSpec.frame (σ := σ) (checkG30 (n := N) (D := D) (P := grpL o) (f := f) (fp := false) hl (by rw [grpL_len]; omega)) (by simp) rfl
  have G7 := fun σ => FSpec.frame (σ := σ) (checkP35 (n := N) (D := D) (P := prcL N D) (f := f) (fp := false) hl (by rw [prcL_len]; omega)) (by simp) rfl
  rw [chkG_own hc hch] at G4 G6
  rw [chkP_own hc hN] at G5 G7
  have G8 := fun σ => FSpec.frame (σ := σ) (parted46 (N := N) (D := D) (f := f) (fb := fb) (by_ := by_) hN1 hN (by omega) (fun x hx => by have := hb2 x hx; omega)) (by simp) (by simp)
  have hOl := partsL_len (by_ := by_) (N := N) (k := N)
  obtain ⟨Ow, fo, hO⟩ : ∃ Ow fo, sl (ofN (partsL by_ N N)) ((partsL by_ N N).length == 0) = sl Ow fo ∧ Ow.length ≤ 10 := ⟨_, _, rfl, by rw [ofN_len]; omega⟩
  rw [hO.1] at G8
  have G9 := fun σ => FSpec.frame (σ := σ) (checkG29 (n := N) (D := D) (P := Ow) (f := f) (fp := fo) hl (by omega)) (by simp) rfl
  have G10 := fun σ => FSpec.frame (σ := σ) (checkP34 (n := N) (D := D) (P := P) (f := f) (fp := fp) hl hP) (by simp) rfl
  have G11 := fun σ => FSpec.frame (σ := σ) (checkG30 (n := N) (D := D) (P := Ow) (f := f) (fp := fo) hl (by omega)) (by simp) rfl
  have ha : ∀ a, chkG N D Ow = (a, 0) → a ≤ topP N D := fun a h => chkG_le h hc
  have hcc : ∀ c, chkP N D P = (c, 0) → topP N D ≤ c := fun c h => chkP_ge h hc
  obtain ⟨a, e1, he1⟩ : ∃ a e, chkG N D Ow = (a, e) := ⟨_, _, rfl⟩
  obtain ⟨c, e2, he2⟩ : ∃ a e, chkP N D P = (a, e) := ⟨_, _, rfl⟩
  rw [he1] at G9 G11 ha
  rw [he2] at G10 hcc
  simp only [pairV] at G4 G5 G6 G7 G9 G10 G11
  clear hG31 hch e hO hOl
  generalize grpL o = Q at *
  generalize prcL N D = R at *
  generalize topP N D = T at *
  refine ab_seq_k fun K5 h5 => ?_
  simp [take_bookC]
  refine callK_of (G2 _) ?_
  simp [take_bookC]
  refine h5 _ _ _ ?_
  clear h5 K5
  refine ab_seq_k fun K6 h6 => ?_
  simp [take_bookC]
  refine callK_of (G3 _) ?_
  simp [take_bookC]
  refine h6 _ _ _ ?_
  clear h6 K6
  refine ab_seq_k fun K7 h7 => ?_
  refine ab_seq_k fun K8 h8 => ?_
  simp
  refine h8 _ _ _ ?_
  clear h8 K8
  refine ab_cond_of rfl (fun h => by cases h) (fun _ => ?_)
  simp
  refine h7 _ _ _ ?_
  clear h7 K7
  refine ab_seq_k fun K9 h9 => ?_
  simp [take_bookC]
  refine callK_of (G4 _) ?_
  simp [take_bookC]
  refine h9 _ _ _ ?_
  clear h9 K9
  refine ab_seq_k fun K10 h10 => ?_
  simp [take_bookC]
  refine callK_of (G5 _) ?_
  simp [take_bookC]
  refine h10 _ _ _ ?_
  clear h10 K10
  refine ab_seq_k fun K11 h11 => ?_
  simp [take_bookC]
  refine callK_of (G6 _) ?_
  simp [take_bookC]
  refine h11 _ _ _ ?_
  clear h11 K11
  refine ab_seq_k fun K12 h12 => ?_
  simp [take_bookC]
  refine callK_of (G7 _) ?_
  simp [take_bookC]
  refine h12 _ _ _ ?_
  clear h12 K12
  refine ab_seq_k fun K13 h13 => ?_
  refine ab_seq_k fun K14 h14 => ?_
  simp
  refine h14 _ _ _ ?_
  clear h14 K14
  refine ab_cond_of rfl (fun h => by simp at h) (fun _ => ?_)
  simp
  refine h13 _ _ _ ?_
  clear h13 K13
  refine ab_seq_k fun K15 h15 => ?_
  simp [take_bookC]
  refine callK_of (G8 _) ?_
  simp [take_bookC]
  refine h15 _ _ _ ?_
  clear h15 K15
  refine ab_seq_k fun K16 h16 => ?_
  simp [take_bookC]
  refine callK_of (G9 _) ?_
  simp [take_bookC]
  refine h16 _ _ _ ?_
  clear h16 K16
  refine ab_seq_k fun K17 h17 => ?_
  simp [take_bookC]
  refine callK_of (G10 _) ?_
  simp [take_bookC]
  refine h17 _ _ _ ?_
  clear h17 K17
  refine ab_seq_k fun K18 h18 => ?_
  simp [take_bookC]
  refine callK_of (G11 _) ?_
  simp [take_bookC]
  refine h18 _ _ _ ?_
  clear h18 K18
  refine ab_seq_k fun K19 h19 => ?_
  have hfin : ∀ env σ, get env 8 = .i .i64 e1 → get env 10 = .i .i64 e2 → get env 18 = .i .i64 a → get env 19 = .i .i64 c → K19 (some 0) env σ := by
    intro env σ w8 w10 w18 w19
    refine h19 _ _ _ ?_
    by_cases h1 : e1 = 0
    · have haT := ha a (by rw [h1])
      by_cases h2 : e2 = 0
      · have hcT := hcc c (by rw [h2])
        have hac : a ≤ c := by omega
        refine ab_seq_k fun K20 h20 => ?_
        simp [w8, w10, w18, w19, h1, h2, hac]
        refine callK_of (wk _) ?_
        simp [w8, w10, w18, w19, h1, h2, hac]
        refine h20 _ _ _ ?_
        clear h20 K20
        simp
        exact fin_of 1 (by simp [rs8])
      · refine ab_seq_k fun K20 h20 => ?_
        simp [w8, w10, w18, w19, h1, h2]
        refine callK_of (wk _) ?_
        simp [w8, w10, w18, w19, h1, h2]
        refine h20 _ _ _ ?_
        clear h20 K20
        simp
        exact fin_of 1 (by simp [rs8])
    · refine ab_seq_k fun K20 h20 => ?_
      simp [w8, w10, w18, w19, h1]
      refine callK_of (wk _) ?_
      simp [w8, w10, w18, w19, h1]
      refine h20 _ _ _ ?_
      clear h20 K20
      simp
      exact fin_of 1 (by simp [rs8])
  refine ab_seq_k fun K21 h21 => ?_
  have hK : ∀ env x1 x2, get env 8 = .i .i64 x1 → get env 10 = .i .i64 x2 → x1 = e1 → x2 = e2 → get env 18 = .i .i64 a → get env 19 = .i .i64 c → get env 146 = .b false → K21 (some 0) env [O.row 0 (bookC N D f)] := by
    rintro env x1 x2 w8 w10 rfl rfl w18 w19 w
    refine h21 _ _ _ ?_
    refine ab_cond_of w (fun h => by cases h) (fun _ => ?_)
    simp
    exact hfin _ _ w8 w10 w18 w19
  by_cases h1 : e1 = 0
  · have haT := ha a (by rw [h1])
    have haT2 : ¬ T < a := by omega
    by_cases h2 : e2 = 0
    · have hcT := hcc c (by rw [h2])
      have hcT2 : ¬ c < T := by omega
      simp [h1, h2, haT2, hcT2]
      exact hK _ _ _ rfl rfl h1.symm h2.symm rfl rfl rfl
    · simp [h1, h2, haT2]
      exact hK _ _ _ rfl rfl h1.symm rfl rfl rfl rfl
  · by_cases h2 : e2 = 0
    · have hcT := hcc c (by rw [h2])
      have hcT2 : ¬ c < T := by omega
      simp [h1, h2, hcT2]
      exact hK _ _ _ rfl rfl rfl h2.symm rfl rfl rfl
    · simp [h1, h2]
      exact hK _ _ _ rfl rfl rfl rfl rfl rfl rfl
end Go.Ab
