/- The law SwapCircles; its control form is made by program. -/
import Derived.Test.YtgaijhpekajflaaUT
import Derived.Test.YtgaijhpekajflaaUF
set_option linter.unusedVariables false
set_option linter.unusedSimpArgs false
set_option maxHeartbeats 4000000
set_option maxRecDepth 100000
namespace Go.Ab
open Go Go.Proofs


def ic7 : IC := (.seq (.reg [.op (some 2) none (.box (.t 0)), .op (some 4) none (.mov (.c (.b false)))] (some [1, 2])) (.seq (.seq (.reg [.op (some 14) none (.loadA 2 (.t 2)), .call (some 15) none 17 [(.t 14)]] (some [1, 2, 15])) (.cond (.t 15) (.seq (.reg [.call (some 16) none 18 [], .op (some 4) none (.mov (.t 16))] (some [4])) .ret) .skip)) (.seq (.reg [.op (some 18) none (.loadA 2 (.t 2)), .op (some 19) none (.mov (.t 1)), .call (some 20) none 37 [(.t 18), (.t 19)], .op (some 17) none (.mov (.t 20)), .op (some 21) none (.ext 0 (.t 17)), .op (some 22) none (.ext 1 (.t 17)), .op (some 5) none (.mov (.t 21)), .op (some 6) none (.mov (.t 22))] (some [1, 2, 5, 6])) (.seq (.reg [.op (some 24) none (.loadA 2 (.t 2)), .op (some 25) none (.mov (.t 1)), .call (some 26) none 38 [(.t 24), (.t 25)], .op (some 23) none (.mov (.t 26)), .op (some 27) none (.ext 0 (.t 23)), .op (some 28) none (.ext 1 (.t 23)), .op (some 7) none (.mov (.t 27)), .op (some 8) none (.mov (.t 28))] (some [2, 5, 6, 7, 8])) (.seq (.reg [.op (some 30) none (.loadA 2 (.t 2)), .call (some 31) none 39 [(.t 30)], .op (some 29) none (.mov (.t 31)), .op (some 32) none (.ext 0 (.t 29)), .op (some 33) none (.ext 1 (.t 29)), .op (some 9) none (.mov (.t 32)), .op (some 10) none (.mov (.t 33))] (some [2, 5, 6, 7, 8, 9, 10])) (.seq (.reg [.op (some 34) none (.loadA 2 (.t 2)), .call (some 35) none 40 [(.t 34)], .op (some 11) none (.mov (.t 35))] (some [2, 5, 6, 7, 8, 9, 10, 11])) (.seq (.reg [.op (some 37) none (.loadA 2 (.t 2)), .call (some 38) none 41 [(.t 37)], .op (some 36) none (.mov (.t 38)), .op (some 39) none (.ext 0 (.t 36)), .op (some 40) none (.ext 1 (.t 36)), .op (some 12) none (.alloc [(.i .i64 0), (.ss [] 0 true)]), .op none none (.storeA 2 (.t 12) (.t 39)), .op (some 13) none (.mov (.t 40))] (some [2, 5, 6, 7, 8, 9, 10, 11, 12, 13])) (.seq (.seq (.reg [.op (some 41) none (.mov (.t 5)), .op (some 42) none (.mov (.t 7)), .op (some 43) none (.bin .neq (.t 41) (.t 42)), .op (some 44) none (.mov (.t 43)), .op (some 45) (some (44, false)) (.mov (.t 6)), .op (some 46) (some (44, false)) (.mov (.t 8)), .op (some 47) (some (44, false)) (.bin .neq (.t 45) (.t 46)), .op (some 48) none (.pick (.t 44) (.c (.b true)) (.t 47)), .op (some 49) none (.mov (.t 48)), .op (some 50) (some (49, false)) (.mov (.t 10)), .op (some 51) (some (49, false)) (.mov (.t 11)), .op (some 52) (some (49, false)) (.bin .neq (.t 50) (.t 51)), .op (some 53) none (.pick (.t 49) (.c (.b true)) (.t 52)), .op (some 54) none (.mov (.t 53)), .op (some 55) (some (54, false)) (.mov (.t 13)), .op (some 56) (some (54, false)) (.loadA 2 (.t 2)), .call (some 57) (some (54, false)) 22 [(.t 56)], .op (some 58) (some (54, false)) (.bin .neq (.t 55) (.t 57)), .op (some 59) none (.pick (.t 54) (.c (.b true)) (.t 58))] (some [2, 9, 11, 12, 13, 59])) (.cond (.t 59) (.seq (.reg [.op (some 4) none (.mov (.c (.b false)))] (some [4])) .ret) .skip)) (.seq (.seq (.reg [.op (some 60) none (.mov (.t 13)), .op (some 61) none (.bin .neq (.t 60) (.c (.i .i64 0)))] (some [2, 9, 11, 12, 61])) (.cond (.t 61) (.seq (.reg [.op (some 62) none (.mov (.t 9)), .op (some 63) none (.len (.t 62)), .op (some 64) none (.bin .eql (.t 63) (.c (.i .i64 0))), .op (some 65) none (.mov (.t 64)), .op (some 66) (some (65, true)) (.fad 0 (.t 12)), .op (some 67) (some (65, true)) (.load1 (.t 66)), .op (some 68) (some (65, true)) (.bin .eql (.t 67) (.c (.i .i64 0))), .op (some 69) none (.pick (.t 65) (.t 68) (.c (.b false))), .op (some 70) none (.mov (.t 69)), .op (some 71) (some (70, true)) (.fad 1 (.t 12)), .op (some 72) (some (70, true)) (.load1 (.t 71)), .op (some 73) (some (70, true)) (.len (.t 72)), .op (some 74) (some (70, true)) (.bin .eql (.t 73) (.c (.i .i64 0))), .op (some 75) none (.pick (.t 70) (.t 74) (.c (.b false))), .op (some 76) none (.mov (.t 75)), .call (some 77) (some (76, true)) 18 [], .op (some 78) none (.pick (.t 76) (.t 77) (.c (.b false))), .op (some 4) none (.mov (.t 78))] (some [4])) .ret) .skip)) (.seq (.seq (.reg [.op (some 79) none (.mov (.t 11)), .op (some 80) none (.bin .neq (.t 79) (.c (.i .i64 0))), .op (some 81) none (.mov (.t 80)), .op (some 82) (some (81, true)) (.mov (.t 9)), .op (some 83) (some (81, true)) (.len (.t 82)), .op (some 84) (some (81, true)) (.bin .neq (.t 83) (.c (.i .i64 0))), .op (some 85) none (.pick (.t 81) (.t 84) (.c (.b false))), .op (some 86) none (.mov (.t 85)), .op (some 87) (some (86, false)) (.mov (.t 11)), .op (some 88) (some (86, false)) (.bin .eql (.t 87) (.c (.i .i64 0))), .op (some 89) (some (86, false)) (.mov (.t 88)), .op (some 90) (some (89, true)) (.mov (.t 9)), .op (some 91) (some (89, true)) (.len (.t 90)), .op (some 92) (some (89, true)) (.loadA 2 (.t 2)), .call (some 93) (some (89, true)) 42 [(.t 92)], .op (some 94) (some (89, true)) (.bin .neq (.t 91) (.t 93)), .op (some 95) (some (89, true)) (.mov (.t 94)), .op (some 96) (some (95, false)) (.loadA 2 (.t 2)), .op (some 97) (some (95, false)) (.mov (.t 9)), .call (some 98) (some (95, false)) 43 [(.t 96), (.t 97)], .op (some 99) (some (95, false)) (.not (.t 98)), .op (some 100) (some (89, true)) (.pick (.t 95) (.c (.b true)) (.t 99)), .op (some 101) (some (86, false)) (.pick (.t 89) (.t 100) (.c (.b false))), .op (some 102) none (.pick (.t 86) (.c (.b true)) (.t 101))] (some [2, 12, 102])) (.cond (.t 102) (.seq (.reg [.op (some 4) none (.mov (.c (.b false)))] (some [4])) .ret) .skip)) (.seq (.reg [.op (some 103) none (.loadA 2 (.t 2)), .op (some 104) none (.loadA 2 (.t 12)), .call (some 105) none 44 [(.t 103), (.t 104)], .op (some 106) none (.mov (.t 105)), .call (some 107) (some (106, true)) 18 [], .op (some 108) none (.pick (.t 106) (.t 107) (.c (.b false))), .op (some 4) none (.mov (.t 108))] (some [4])) .ret)))))))))))
def rs7 : List IRes := [.tmp 4]
theorem fn7 : Fn_ Try.prog 7 Try.f7 [] ic7 rs7 := ⟨by kernel_rfl, by decide, by kernel_rfl, by kernel_rfl⟩

theorem swapCircles {n s : Int} {D : List Db} {f : Bool} (hl : (D.length : Int) < 9223372036854775808) : FSpec Try.prog 7 [bookV n D f, .i .i64 s] [] (.b true) [] := by
  refine fn7.spec0 mixed noIt_ok ?_
  rw [ic7]
  have G17 := fun σ => FSpec.frame (σ := σ) (great17 (n := n) (D := D) (f := f)) (by simp) rfl
  have G37 := fun σ => FSpec.frame (σ := σ) (apart37 (n := n) (D := D) (f := f) (s := s) hl) (by simp) rfl
  have G38 := fun σ => FSpec.frame (σ := σ) (apart38 (n := n) (D := D) (f := f) (s := s) hl) (by simp) rfl
  have G39 := fun σ => FSpec.frame (σ := σ) (circle39 (n := n) (D := D) (f := f) hl) (by simp) (by unfold circV; split <;> simp [resV])
  have G40 := fun σ => FSpec.frame (σ := σ) (err40 (n := n) (D := D) (f := f) hl) (by simp) rfl
  have G41 := fun σ => FSpec.frame (σ := σ) (plain41 (n := n) (D := D) (f := f) hl) (by simp) (by unfold plainV; split <;> simp)
  have G22 := fun σ => FSpec.frame (σ := σ) (refBook (n := n) (D := D) (f := f) hl) (by simp) rfl
  refine ab_seq_k fun K1 h1 => ?_
  simp
  refine h1 _ _ _ ?_
  clear h1 K1
  refine ab_seq_k fun K2 h2 => ?_
  refine ab_seq_k fun K3 h3 => ?_
  simp [take_bookC]
  refine callK_of (G17 _) ?_
  simp [take_bookC]
  refine h3 _ _ _ ?_
  clear h3 K3
  by_cases hg : (50 : Int) < D.length
  · refine ab_cond_of rfl (fun _ => ?_) (fun h => by simp [hg] at h)
    refine ab_seq_k fun K4 h4 => ?_
    simp
    refine callK_of (wk _) ?_
    simp
    refine h4 _ _ _ ?_
    clear h4 K4
    simp
    exact fin_of 1 (by simp [rs7])
  refine ab_cond_of rfl (fun h => by simp [hg] at h) (fun _ => ?_)
  simp
  refine h2 _ _ _ ?_
  clear h2 K2
  generalize hap : apP n D s = ap at *
  obtain ⟨a1, a2⟩ := ap
  simp only [pairV] at G37 G38
  refine ab_seq_k fun K5 h5 => ?_
  simp [take_bookC]
  refine callK_of (G37 _) ?_
  simp [take_bookC]
  refine h5 _ _ _ ?_
  clear h5 K5
  refine ab_seq_k fun K6 h6 => ?_
  simp [take_bookC]
  refine callK_of (G38 _) ?_
  simp [take_bookC]
  refine h6 _ _ _ ?_
  clear h6 K6
  by_cases hc : checkBook n D = 0
  case neg =>
    have e39 : circV n D = .tup [.ss [] 0 true, .i .i64 (checkBook n D)] := by unfold circV; rw [if_pos hc]
    have e40 : circE n D = checkBook n D := by unfold circE; rw [if_pos hc]
    have e41 : plainV n D = .tup [bookV 0 [] true, .i .i64 (checkBook n D)] := by unfold plainV; rw [if_pos hc]
    rw [e39] at G39
    rw [e40] at G40
    rw [e41] at G41
    refine ab_seq_k fun K7 h7 => ?_
    simp [take_bookC]
    refine callK_of (G39 _) ?_
    simp [take_bookC]
    refine h7 _ _ _ ?_
    clear h7 K7
    refine ab_seq_k fun K8 h8 => ?_
    simp [take_bookC]
    refine callK_of (G40 _) ?_
    simp [take_bookC]
    refine h8 _ _ _ ?_
    clear h8 K8
    refine ab_seq_k fun K9 h9 => ?_
    simp [take_bookC]
    refine callK_of (G41 _) ?_
    simp [bookC]
    refine h9 _ _ _ ?_
    clear h9 K9
    refine ab_seq_k fun K10 h10 => ?_
    refine ab_seq_k fun K11 h11 => ?_
    simp
    refine callK_of (G22 _) ?_
    simp
    refine h11 _ _ _ ?_
    refine ab_cond_of rfl (fun h => by simp at h) (fun _ => ?_)
    simp
    refine h10 _ _ _ ?_
    refine ab_seq_k fun K12 h12 => ?_
    refine ab_seq_k fun K13 h13 => ?_
    simp
    refine h13 _ _ _ ?_
    clear h13 K13
    refine ab_cond_of rfl (fun _ => ?_) (fun h => by simp [hc] at h)
    refine ab_seq_k fun K14 h14 => ?_
    simp [slD, lsD]
    refine callK_of (wk _) ?_
    simp
    refine h14 _ _ _ ?_
    simp
    exact fin_of 1 (by simp [rs7])
  obtain ⟨N, rfl, hN1, hN, hlen, hD⟩ := book_nat hc
  obtain ⟨-, -, -, hnd⟩ := book_ok hc
  have hP := plainB_ok hc
  have hcs := circ_spec (ed := owB D) (N := N) (owB_lt hD)
  have hirr : ∀ x, owB D x x = false := fun x => by
    cases h : owB D x x with
    | false => rfl
    | true =>
      obtain ⟨d, hd, h1, h2⟩ := owB_iff.1 h
      have := hD d hd
      omega
  have e39 : circV N D = .tup [resV (circF (owB D) N), .i .i64 (if circF (owB D) N = [] then 5 else 0)] := by unfold circV; rw [if_neg (by simp [hc]), Int.toNat_natCast, edF_owB hD hnd]
  have e40 : circE N D = if (circF (owB D) N).length = 0 then 5 else 0 := by unfold circE; rw [if_neg (by simp [hc]), Int.toNat_natCast]; rfl
  have e41 : plainV N D = .tup [bookV N (plainD N D) ((plainD N D).length == 0), .i .i64 0] := by unfold plainV; rw [if_neg (by simp [hc]), Int.toNat_natCast]
  rw [e39] at G39
  rw [e40] at G40
  rw [e41] at G41
  rw [hc] at G22
  have G42 := fun σ => FSpec.frame (σ := σ) (short42 (N := N) (D := D) (f := f) hN hD (by omega)) (by simp) rfl
  have G44 := fun σ => FSpec.frame (σ := σ) (isPlain44 (N := N) (D := D) (X := plainD N D) (f := f) (g := ((plainD N D).length == 0)) hc hP) (by simp) rfl
  have hsn : shortN (owB D) N = (circF (owB D) N).length := rfl
  rw [hsn] at G42
  have G43 := fun h0 σ => FSpec.frame (σ := σ) (isCirc43 (N := N) (D := D) (f := f) (fl := (circF (owB D) N).isEmpty) (c := circF (owB D) N) hN (by omega) hcs.ok (hcs.ok.two hirr h0)) (by simp) rfl
  generalize circF (owB D) N = c at *
  generalize plainD N D = X at *
  refine ab_seq_k fun K7 h7 => ?_
  simp [take_bookC]
  refine callK_of (G39 _) ?_
  simp [take_bookC]
  refine h7 _ _ _ ?_
  clear h7 K7
  refine ab_seq_k fun K8 h8 => ?_
  simp [take_bookC]
  refine callK_of (G40 _) ?_
  simp [take_bookC]
  refine h8 _ _ _ ?_
  clear h8 K8
  refine ab_seq_k fun K9 h9 => ?_
  simp [take_bookC]
  refine callK_of (G41 _) ?_
  simp [take_bookC]
  refine h9 _ _ _ ?_
  clear h9 K9
  refine ab_seq_k fun K10 h10 => ?_
  refine ab_seq_k fun K11 h11 => ?_
  have hee : (if c = [] then (5 : Int) else 0) = (if c.length = 0 then (5 : Int) else 0) := by simp
  simp [take_bookC]
  refine callK_of (G22 _) ?_
  simp
  refine h11 _ _ _ ?_
  refine ab_cond_of rfl (fun h => by simp at h) (fun _ => ?_)
  simp
  refine h10 _ _ _ ?_
  clear h10 h11 K10 K11
  refine ab_seq_k fun K12 h12 => ?_
  refine ab_seq_k fun K13 h13 => ?_
  simp
  refine h13 _ _ _ ?_
  clear h13 K13
  refine ab_cond_of rfl (fun h => by simp at h) (fun _ => ?_)
  simp
  refine h12 _ _ _ ?_
  clear h12 K12
  refine ab_seq_k fun K14 h14 => ?_
  refine ab_seq_k fun K15 h15 => ?_
  have hgo : ∀ env, get env 102 = .b false → get env 2 = .p 0 0 0 → get env 12 = .p 1 0 0 → K15 (some 0) env [O.row 0 (bookC N D f), O.row 0 (bookC N X (X.length == 0))] := by
    intro env w w2 w12
    refine h15 _ _ _ ?_
    refine ab_cond_of (by rw [ev_t]; exact w) (fun h => by cases h) (fun _ => ?_)
    simp
    refine h14 _ _ _ ?_
    clear h14 h15 K14 K15
    refine ab_seq_k fun K16 h16 => ?_
    simp [w2, w12, take_bookC]
    refine callK_of (G44 _) ?_
    simp
    refine callK_of (wk _) ?_
    simp
    refine h16 _ _ _ ?_
    simp
    exact fin_of 1 (by simp [rs7])
  by_cases h0 : c = []
  · subst h0
    simp [resV, wI, ints]
    exact hgo _ rfl rfl rfl
  · have h0l : c.length ≠ 0 := fun h => h0 (List.length_eq_zero_iff.1 h)
    simp [h0, resV, take_bookC]
    refine callK_of (G42 _) ?_
    simp [h0, resV, take_bookC]
    refine callK_of (G43 h0 _) ?_
    simp
    exact hgo _ rfl rfl rfl
end Go.Ab
