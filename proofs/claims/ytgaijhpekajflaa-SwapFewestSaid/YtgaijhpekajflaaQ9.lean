/- The law of function 9; its control form is made by program. -/
import Derived.Test.YtgaijhpekajflaaUE
set_option linter.unusedVariables false
set_option linter.unusedSimpArgs false
set_option maxHeartbeats 4000000
set_option maxRecDepth 100000
namespace Go.Ab
open Go Go.Proofs

def ic9 : IC := (.seq (.reg [.op (some 2) none (.box (.t 0)), .op (some 4) none (.mov (.c (.b false)))] (some [1, 2])) (.seq (.seq (.reg [.op (some 12) none (.loadA 2 (.t 2)), .call (some 13) none 45 [(.t 12)], .op (some 14) none (.not (.t 13)), .op (some 15) none (.mov (.t 14)), .op (some 16) (some (15, false)) (.mov (.t 1)), .op (some 17) (some (15, false)) (.len (.t 16)), .op (some 18) (some (15, false)) (.bin .gtr (.t 17) (.c (.i .i64 20))), .op (some 19) none (.pick (.t 15) (.c (.b true)) (.t 18))] (some [1, 2, 19])) (.cond (.t 19) (.seq (.reg [.call (some 20) none 18 [], .op (some 4) none (.mov (.t 20))] (some [4])) .ret) .skip)) (.seq (.reg [.op (some 22) none (.loadA 2 (.t 2)), .call (some 23) none 26 [(.t 22)], .op (some 21) none (.mov (.t 23)), .op (some 24) none (.ext 0 (.t 21)), .op (some 25) none (.ext 1 (.t 21)), .op (some 5) none (.mov (.t 24)), .op (some 6) none (.mov (.t 25))] (some [1, 2, 5, 6])) (.seq (.reg [.op (some 27) none (.loadA 2 (.t 2)), .call (some 28) none 28 [(.t 27)], .op (some 26) none (.mov (.t 28)), .op (some 29) none (.ext 0 (.t 26)), .op (some 30) none (.ext 1 (.t 26)), .op (some 7) none (.mov (.t 29)), .op (some 8) none (.mov (.t 30))] (some [1, 2, 5, 6, 7, 8])) (.seq (.reg [.op (some 32) none (.loadA 2 (.t 2)), .call (some 33) none 31 [(.t 32)], .op (some 31) none (.mov (.t 33)), .op (some 34) none (.ext 0 (.t 31)), .op (some 35) none (.ext 1 (.t 31)), .op (some 9) none (.mov (.t 34)), .op (some 10) none (.mov (.t 35))] (some [1, 2, 5, 6, 7, 8, 9, 10])) (.seq (.seq (.reg [.op (some 36) none (.mov (.t 6)), .op (some 37) none (.bin .neq (.t 36) (.c (.i .i64 0))), .op (some 38) none (.mov (.t 37)), .op (some 39) (some (38, false)) (.mov (.t 8)), .op (some 40) (some (38, false)) (.bin .neq (.t 39) (.c (.i .i64 0))), .op (some 41) none (.pick (.t 38) (.c (.b true)) (.t 40)), .op (some 42) none (.mov (.t 41)), .op (some 43) (some (42, false)) (.mov (.t 10)), .op (some 44) (some (42, false)) (.bin .neq (.t 43) (.c (.i .i64 0))), .op (some 45) none (.pick (.t 42) (.c (.b true)) (.t 44)), .op (some 46) none (.mov (.t 45)), .op (some 47) (some (46, false)) (.mov (.t 5)), .op (some 48) (some (46, false)) (.fad 0 (.t 2)), .op (some 49) (some (46, false)) (.load1 (.t 48)), .op (some 50) (some (46, false)) (.mov (.t 9)), .op (some 51) (some (46, false)) (.len (.t 50)), .op (some 52) (some (46, false)) (.bin .sub (.t 49) (.t 51)), .op (some 53) (some (46, false)) (.bin .neq (.t 47) (.t 52)), .op (some 54) none (.pick (.t 46) (.c (.b true)) (.t 53)), .op (some 55) none (.mov (.t 54)), .op (some 56) (some (55, false)) (.mov (.t 7)), .op (some 57) (some (55, false)) (.len (.t 56)), .op (some 58) (some (55, false)) (.mov (.t 5)), .op (some 59) (some (55, false)) (.bin .neq (.t 57) (.t 58)), .op (some 60) none (.pick (.t 55) (.c (.b true)) (.t 59)), .op (some 61) none (.mov (.t 60)), .op (some 62) (some (61, false)) (.loadA 2 (.t 2)), .op (some 63) (some (61, false)) (.mov (.t 7)), .call (some 64) (some (61, false)) 24 [(.t 62), (.t 63)], .op (some 65) (some (61, false)) (.bin .neq (.t 64) (.c (.i .i64 0))), .op (some 66) none (.pick (.t 61) (.c (.b true)) (.t 65)), .op (some 67) none (.mov (.t 66)), .op (some 68) (some (67, false)) (.loadA 2 (.t 2)), .op (some 69) (some (67, false)) (.mov (.t 7)), .call (some 70) (some (67, false)) 25 [(.t 68), (.t 69)], .op (some 71) (some (67, false)) (.bin .neq (.t 70) (.c (.i .i64 0))), .op (some 72) none (.pick (.t 67) (.c (.b true)) (.t 71))] (some [1, 2, 5, 72])) (.cond (.t 72) (.seq (.reg [.op (some 4) none (.mov (.c (.b false)))] (some [4])) .ret) .skip)) (.seq (.reg [.op (some 73) none (.loadA 2 (.t 2)), .op (some 74) none (.mov (.t 1)), .call (some 75) none 24 [(.t 73), (.t 74)], .op (some 11) none (.mov (.t 75))] (some [1, 2, 5, 11])) (.seq (.reg [.op (some 76) none (.mov (.t 11)), .op (some 77) none (.loadA 2 (.t 2)), .op (some 78) none (.mov (.t 1)), .call (some 79) none 25 [(.t 77), (.t 78)], .op (some 80) none (.bin .eql (.t 76) (.t 79)), .op (some 81) none (.mov (.t 80)), .op (some 82) (some (81, true)) (.mov (.t 11)), .op (some 83) (some (81, true)) (.bin .neq (.t 82) (.c (.i .i64 0))), .op (some 84) (some (81, true)) (.mov (.t 83)), .op (some 85) (some (84, false)) (.mov (.t 1)), .op (some 86) (some (84, false)) (.len (.t 85)), .op (some 87) (some (84, false)) (.mov (.t 5)), .op (some 88) (some (84, false)) (.bin .geq (.t 86) (.t 87)), .op (some 89) (some (81, true)) (.pick (.t 84) (.c (.b true)) (.t 88)), .op (some 90) none (.pick (.t 81) (.t 89) (.c (.b false))), .op (some 91) none (.mov (.t 90)), .call (some 92) (some (91, true)) 18 [], .op (some 93) none (.pick (.t 91) (.t 92) (.c (.b false))), .op (some 4) none (.mov (.t 93))] (some [4])) .ret))))))))
def rs9 : List IRes := [.tmp 4]
theorem fn9 : Fn_ Try.prog 9 Try.f9 [] ic9 rs9 := ⟨by kernel_rfl, by decide, by kernel_rfl, by kernel_rfl⟩

theorem swapFewest {n : Int} {D L : List Db} {f fl : Bool} (hl : (D.length : Int) < 9223372036854775808) (hL : (L.length : Int) < 9223372036854775808) :
    FSpec Try.prog 9 [bookV n D f, slD L fl] [] (.b true) [] := by
  refine fn9.spec0 mixed noIt_ok ?_
  rw [ic9]
  have G1 := fun σ => FSpec.frame (σ := σ) (fine45 (n := n) (D := D) (f := f) hl) (by simp) rfl
  refine ab_seq_k fun K1 h1 => ?_
  simp
  refine h1 _ _ _ ?_
  clear h1 K1
  refine ab_seq_k fun K2 h2 => ?_
  refine ab_seq_k fun K3 h3 => ?_
  simp [take_bookC]
  refine callK_of (G1 _) ?_
  have hret : ∀ env σ, get env 19 = .b true → K3 (some 0) env σ := by
    intro env σ w
    refine h3 _ _ _ ?_
    refine ab_cond_of w (fun _ => ?_) (fun h => by cases h)
    refine ab_seq_k fun K4 h4 => ?_
    simp
    refine callK_of (wk _) ?_
    simp
    refine h4 _ _ _ ?_
    clear h4 K4
    simp
    exact fin_of 1 (by simp [rs9])
  by_cases hc : checkBook n D = 0
  case neg =>
    simp [fineB, hc]
    exact hret _ _ rfl
  by_cases g2 : (20 : Int) < L.length
  · simp [fineB, hc, g2]
    exact hret _ _ rfl
  simp [fineB, hc, g2]
  refine h3 _ _ _ ?_
  clear h3 hret K3
  refine ab_cond_of rfl (fun h => by cases h) (fun _ => ?_)
  simp
  refine h2 _ _ _ ?_
  clear h2 K2
  obtain ⟨N, rfl, hN1, hN, hlen, hD⟩ := book_nat hc
  have G2 := fun σ => FSpec.frame (σ := σ) (fewest26 (n := N) (D := D) (f := f) hl) (by simp) rfl
  obtain ⟨L0, hL1, hL2, hL3⟩ := drafts28 hl hc hN1 hN hD hlen
  have G3 := fun σ => FSpec.frame (σ := σ) (hL3 f) (by simp) (by simp)
  obtain ⟨o, hch, -, hG31⟩ := groups31 hl hc hN1 hN hD
  have G4 := fun σ => FSpec.frame (σ := σ) (hG31 f) (by simp) (by simp)
  have htb := topP_b (N := N) (D := D)
  have G5 := fun σ => FSpec.frame (σ := σ) (prgDrafts (n := N) (D := D) (L := L0) (f := f) (fl := (L0.length == 0)) hl (by omega)) (by simp) rfl
  have G6 := fun σ => FSpec.frame (σ := σ) (refDrafts (n := N) (D := D) (L := L0) (f := f) (fl := (L0.length == 0)) hl (by omega)) (by simp) rfl
  rw [hL1] at G5 G6
  have G7 := fun σ => FSpec.frame (σ := σ) (prgDrafts (n := N) (D := D) (L := L) (f := f) (fl := fl) hl hL) (by simp) rfl
  have G8 := fun σ => FSpec.frame (σ := σ) (refDrafts (n := N) (D := D) (L := L) (f := f) (fl := fl) hl hL) (by simp) rfl
  have hle := fun h => drafts_least (L := L) hc hN h
  have hol : ((grpL o).length : Int) = topP N D := by rw [grpL_len]; exact chain_top hch
  rw [fewP_ok hc] at G2
  simp only [pairV] at G2
  clear hL3 hG31 hch
  generalize grpL o = Q at *
  generalize topP N D = T at *
  generalize draftE N D L = E at *
  refine ab_seq_k fun K5 h5 => ?_
  simp [take_bookC]
  refine callK_of (G2 _) ?_
  simp [take_bookC]
  refine h5 _ _ _ ?_
  clear h5 K5
  refine ab_seq_k fun K6 h6 => ?_
  simp [take_bookC]
  refine callK_of (G3 _) ?_
  simp [take_bookC]
  refine h6 _ _ _ ?_
  clear h6 K6
  refine ab_seq_k fun K7 h7 => ?_
  simp [take_bookC]
  refine callK_of (G4 _) ?_
  simp [take_bookC]
  refine h7 _ _ _ ?_
  clear h7 K7
  refine ab_seq_k fun K9 h9 => ?_
  refine ab_seq_k fun K10 h10 => ?_
  simp [get0_bookC, hol, hL2, take_bookC, wrap64 (x := (N : Int) - T) (by omega) (by omega)]
  refine callK_of (G5 _) ?_
  simp [take_bookC]
  refine callK_of (G6 _) ?_
  simp
  refine h10 _ _ _ ?_
  refine ab_cond_of rfl (fun h => by cases h) (fun _ => ?_)
  simp
  refine h9 _ _ _ ?_
  refine ab_seq_k fun K11 h11 => ?_
  simp [take_bookC]
  refine callK_of (G7 _) ?_
  simp [take_bookC]
  refine h11 _ _ _ ?_
  clear h11 K11
  refine ab_seq_k fun K12 h12 => ?_
  by_cases hE : E = 0
  · have := hle hE
    simp [take_bookC]
    refine callK_of (G8 _) ?_
    simp [hE, this]
    refine callK_of (wk _) ?_
    simp
    refine h12 _ _ _ ?_
    simp
    exact fin_of 1 (by simp [rs9])
  · simp [take_bookC]
    refine callK_of (G8 _) ?_
    simp [hE]
    refine callK_of (wk _) ?_
    simp
    refine h12 _ _ _ ?_
    simp
    exact fin_of 1 (by simp [rs9])
end Go.Ab
