/- The law SwapPlain; its control form is made by program. -/
import Derived.Test.YtgaijhpekajflaaUT
set_option linter.unusedVariables false
set_option linter.unusedSimpArgs false
set_option maxHeartbeats 4000000
set_option maxRecDepth 100000
namespace Go.Ab
open Go Go.Proofs

theorem sum_nn {M : Int} {D : List Db} {n : Int} : DbOK n M D → 0 ≤ (D.map (·.2.2)).sum := by
  refine snoc_ind (P := fun D => DbOK n M D → 0 ≤ (D.map (·.2.2)).sum) (fun _ => by simp) ?_ D
  intro D d ih hD
  have := ih (fun x hx => hD x (List.mem_append_left _ hx))
  have := hD d (by simp)
  rw [List.map_append, List.sum_append]
  simp
  omega


/-- The sums of so many. -/
def sumTo (D : List Db) (i : Nat) : Int := ((D.take i).map (·.2.2)).sum
theorem sumTo_zero {D : List Db} : sumTo D 0 = 0 := by simp [sumTo]
theorem sumTo_all {D : List Db} : sumTo D D.length = (D.map (·.2.2)).sum := by unfold sumTo; rw [List.take_length]
theorem sumTo_succ {D : List Db} {i : Nat} {d : Db} (h : D[i]? = some d) : sumTo D (i + 1) = sumTo D i + d.2.2 := by
  unfold sumTo
  rw [List.take_add_one, h, List.map_append, List.sum_append]
  simp
def ic15_0 : IC := (.seq (.seq (.reg [.op (some 111) none (.mov (.t 14)), .op (some 112) none (.fad 1 (.t 1)), .op (some 113) none (.load1 (.t 112)), .op (some 114) none (.len (.t 113)), .op (some 115) none (.bin .lss (.t 111) (.t 114))] (some [1, 3, 6, 10, 12, 13, 14, 115])) (.cond (.t 115) .skip (.exit 0))) (.seq (.block 1 (.reg [.op (some 118) none (.mov (.t 12)), .op (some 119) none (.fad 1 (.t 1)), .op (some 120) none (.load1 (.t 119)), .op (some 121) none (.mov (.t 14)), .op (some 122) none (.ixs 3 (.t 120) (.t 121)), .op (some 123) none (.fad 2 (.t 122)), .op (some 124) none (.load1 (.t 123)), .op (some 125) none (.bin .add (.t 118) (.t 124)), .op (some 12) none (.mov (.t 125))] (some [1, 3, 6, 10, 12, 13, 14]))) (.reg [.op (some 116) none (.mov (.t 14)), .op (some 117) none (.bin .add (.t 116) (.c (.i .i64 1))), .op (some 14) none (.mov (.t 117))] (some [1, 3, 6, 10, 12, 13, 14]))))
def ic15_1 : IC := (.seq (.seq (.reg [.op (some 126) none (.mov (.t 15)), .op (some 127) none (.fad 1 (.t 3)), .op (some 128) none (.load1 (.t 127)), .op (some 129) none (.len (.t 128)), .op (some 130) none (.bin .lss (.t 126) (.t 129))] (some [3, 6, 10, 12, 13, 15, 130])) (.cond (.t 130) .skip (.exit 2))) (.seq (.block 3 (.seq (.seq (.drw [(.op (some 133) none (.fad 1 (.t 3)), []), (.op (some 134) none (.load1 (.t 133)), []), (.op (some 135) none (.mov (.t 15)), []), (.op (some 136) none (.ixs 3 (.t 134) (.t 135)), []), (.op (some 137) none (.loadA 3 (.t 136)), []), (.op (some 138) none (.fad 1 (.t 10)), []), (.op (some 139) none (.load1 (.t 138)), []), (.op (some 140) none (.mov (.t 15)), []), (.op (some 141) none (.ixs 3 (.t 139) (.t 140)), []), (.op (some 142) none (.loadA 3 (.t 141)), []), (.op (some 143) none (.eqv .i64 3 true (.t 137) (.t 142)), [])] (some [3, 6, 10, 12, 13, 15, 143])) (.cond (.t 143) (.seq (.reg [.op (some 2) none (.mov (.c (.b false)))] (some [2])) .ret) .skip)) (.reg [.op (some 144) none (.mov (.t 13)), .op (some 145) none (.fad 1 (.t 3)), .op (some 146) none (.load1 (.t 145)), .op (some 147) none (.mov (.t 15)), .op (some 148) none (.ixs 3 (.t 146) (.t 147)), .op (some 149) none (.fad 2 (.t 148)), .op (some 150) none (.load1 (.t 149)), .op (some 151) none (.bin .add (.t 144) (.t 150)), .op (some 13) none (.mov (.t 151))] (some [3, 6, 10, 12, 13, 15])))) (.reg [.op (some 131) none (.mov (.t 15)), .op (some 132) none (.bin .add (.t 131) (.c (.i .i64 1))), .op (some 15) none (.mov (.t 132))] (some [3, 6, 10, 12, 13, 15]))))
def ic15 : IC := (.seq (.reg [.op (some 1) none (.box (.t 0)), .op (some 2) none (.mov (.c (.b false)))] (some [1])) (.seq (.seq (.reg [.op (some 16) none (.loadA 2 (.t 1)), .call (some 17) none 45 [(.t 16)], .op (some 18) none (.not (.t 17))] (some [1, 18])) (.cond (.t 18) (.seq (.reg [.call (some 19) none 18 [], .op (some 2) none (.mov (.t 19))] (some [2])) .ret) .skip)) (.seq (.reg [.op (some 21) none (.loadA 2 (.t 1)), .call (some 22) none 41 [(.t 21)], .op (some 20) none (.mov (.t 22)), .op (some 23) none (.ext 0 (.t 20)), .op (some 24) none (.ext 1 (.t 20)), .op (some 3) none (.alloc [(.i .i64 0), (.ss [] 0 true)]), .op none none (.storeA 2 (.t 3) (.t 23)), .op (some 4) none (.mov (.t 24))] (some [1, 3, 4])) (.seq (.reg [.op (some 26) none (.loadA 2 (.t 1)), .call (some 27) none 39 [(.t 26)], .op (some 25) none (.mov (.t 27)), .op (some 28) none (.ext 0 (.t 25)), .op (some 29) none (.ext 1 (.t 25)), .op (some 5) none (.mov (.t 28)), .op (some 6) none (.mov (.t 29))] (some [1, 3, 4, 5, 6])) (.seq (.seq (.reg [.op (some 30) none (.mov (.t 4)), .op (some 31) none (.bin .neq (.t 30) (.c (.i .i64 0))), .op (some 32) none (.mov (.t 31)), .op (some 33) (some (32, false)) (.mov (.t 6)), .op (some 34) (some (32, false)) (.bin .neq (.t 33) (.c (.i .i64 0))), .op (some 35) (some (32, false)) (.mov (.t 34)), .op (some 36) (some (35, true)) (.mov (.t 6)), .op (some 37) (some (35, true)) (.bin .neq (.t 36) (.c (.i .i64 5))), .op (some 38) (some (32, false)) (.pick (.t 35) (.t 37) (.c (.b false))), .op (some 39) none (.pick (.t 32) (.c (.b true)) (.t 38)), .op (some 40) none (.mov (.t 39)), .op (some 41) (some (40, false)) (.loadA 2 (.t 1)), .op (some 42) (some (40, false)) (.loadA 2 (.t 3)), .call (some 43) (some (40, false)) 44 [(.t 41), (.t 42)], .op (some 44) (some (40, false)) (.not (.t 43)), .op (some 45) none (.pick (.t 40) (.c (.b true)) (.t 44)), .op (some 46) none (.mov (.t 45)), .op (some 47) (some (46, false)) (.mov (.t 6)), .op (some 48) (some (46, false)) (.bin .eql (.t 47) (.c (.i .i64 0))), .op (some 49) (some (46, false)) (.mov (.t 5)), .op (some 50) (some (46, false)) (.len (.t 49)), .op (some 51) (some (46, false)) (.bin .gtr (.t 50) (.c (.i .i64 0))), .op (some 52) (some (46, false)) (.eqb true (.t 48) (.t 51)), .op (some 53) none (.pick (.t 46) (.c (.b true)) (.t 52))] (some [1, 3, 6, 53])) (.cond (.t 53) (.seq (.reg [.op (some 2) none (.mov (.c (.b false)))] (some [2])) .ret) .skip)) (.seq (.reg [.op (some 55) none (.loadA 2 (.t 3)), .call (some 56) none 19 [(.t 55)], .op (some 54) none (.mov (.t 56)), .op (some 57) none (.ext 0 (.t 54)), .op (some 58) none (.ext 1 (.t 54)), .op (some 7) none (.mov (.t 57)), .op (some 4) none (.mov (.t 58))] (some [1, 3, 4, 6, 7])) (.seq (.reg [.op (some 60) none (.loadA 2 (.t 3)), .call (some 61) none 39 [(.t 60)], .op (some 59) none (.mov (.t 61)), .op (some 62) none (.ext 0 (.t 59)), .op (some 63) none (.ext 1 (.t 59)), .op (some 8) none (.mov (.t 62)), .op (some 9) none (.mov (.t 63))] (some [1, 3, 4, 6, 7, 9])) (.seq (.reg [.op (some 65) none (.loadA 2 (.t 3)), .call (some 66) none 41 [(.t 65)], .op (some 64) none (.mov (.t 66)), .op (some 67) none (.ext 0 (.t 64)), .op (some 68) none (.ext 1 (.t 64)), .op (some 10) none (.alloc [(.i .i64 0), (.ss [] 0 true)]), .op none none (.storeA 2 (.t 10) (.t 67)), .op (some 11) none (.mov (.t 68))] (some [1, 3, 4, 6, 7, 9, 10, 11])) (.seq (.seq (.reg [.op (some 69) none (.mov (.t 4)), .op (some 70) none (.bin .neq (.t 69) (.c (.i .i64 0))), .op (some 71) none (.mov (.t 70)), .op (some 72) (some (71, false)) (.mov (.t 7)), .op (some 73) (some (71, false)) (.loadA 2 (.t 1)), .call (some 74) (some (71, false)) 47 [(.t 73)], .call (some 75) (some (71, false)) 23 [(.t 72), (.t 74)], .op (some 76) (some (71, false)) (.not (.t 75)), .op (some 77) none (.pick (.t 71) (.c (.b true)) (.t 76)), .op (some 78) none (.mov (.t 77)), .op (some 79) (some (78, false)) (.mov (.t 9)), .op (some 80) (some (78, false)) (.bin .neq (.t 79) (.c (.i .i64 5))), .op (some 81) none (.pick (.t 78) (.c (.b true)) (.t 80)), .op (some 82) none (.mov (.t 81)), .op (some 83) (some (82, false)) (.mov (.t 11)), .op (some 84) (some (82, false)) (.bin .neq (.t 83) (.c (.i .i64 0))), .op (some 85) none (.pick (.t 82) (.c (.b true)) (.t 84)), .op (some 86) none (.mov (.t 85)), .op (some 87) (some (86, false)) (.fad 0 (.t 10)), .op (some 88) (some (86, false)) (.load1 (.t 87)), .op (some 89) (some (86, false)) (.fad 0 (.t 3)), .op (some 90) (some (86, false)) (.load1 (.t 89)), .op (some 91) (some (86, false)) (.bin .neq (.t 88) (.t 90)), .op (some 92) none (.pick (.t 86) (.c (.b true)) (.t 91)), .op (some 93) none (.mov (.t 92)), .op (some 94) (some (93, false)) (.fad 1 (.t 10)), .op (some 95) (some (93, false)) (.load1 (.t 94)), .op (some 96) (some (93, false)) (.len (.t 95)), .op (some 97) (some (93, false)) (.fad 1 (.t 3)), .op (some 98) (some (93, false)) (.load1 (.t 97)), .op (some 99) (some (93, false)) (.len (.t 98)), .op (some 100) (some (93, false)) (.bin .neq (.t 96) (.t 99)), .op (some 101) none (.pick (.t 93) (.c (.b true)) (.t 100)), .op (some 102) none (.mov (.t 101)), .op (some 103) (some (102, false)) (.fad 1 (.t 3)), .op (some 104) (some (102, false)) (.load1 (.t 103)), .op (some 105) (some (102, false)) (.len (.t 104)), .op (some 106) (some (102, false)) (.fad 1 (.t 1)), .op (some 107) (some (102, false)) (.load1 (.t 106)), .op (some 108) (some (102, false)) (.len (.t 107)), .op (some 109) (some (102, false)) (.bin .gtr (.t 105) (.t 108)), .op (some 110) none (.pick (.t 102) (.c (.b true)) (.t 109))] (some [1, 3, 6, 10, 110])) (.cond (.t 110) (.seq (.reg [.op (some 2) none (.mov (.c (.b false)))] (some [2])) .ret) .skip)) (.seq (.reg [.op (some 12) none (.mov (.c (.i .i64 0))), .op (some 13) none (.mov (.c (.i .i64 0)))] (some [1, 3, 6, 10, 12, 13])) (.seq (.seq (.reg [.op (some 14) none (.mov (.c (.i .i64 0)))] (some [1, 3, 6, 10, 12, 13, 14])) (.block 0 (.loop (some [1, 3, 6, 10, 12, 13, 14]) ic15_0))) (.seq (.seq (.reg [.op (some 15) none (.mov (.c (.i .i64 0)))] (some [3, 6, 10, 12, 13, 15])) (.block 2 (.loop (some [3, 6, 10, 12, 13, 15]) ic15_1))) (.seq (.reg [.op (some 152) none (.mov (.t 13)), .op (some 153) none (.mov (.t 12)), .op (some 154) none (.bin .leq (.t 152) (.t 153)), .op (some 155) none (.mov (.t 154)), .op (some 156) (some (155, true)) (.mov (.t 13)), .op (some 157) (some (155, true)) (.mov (.t 12)), .op (some 158) (some (155, true)) (.bin .lss (.t 156) (.t 157)), .op (some 159) (some (155, true)) (.mov (.t 6)), .op (some 160) (some (155, true)) (.bin .eql (.t 159) (.c (.i .i64 0))), .op (some 161) (some (155, true)) (.eqb false (.t 158) (.t 160)), .op (some 162) none (.pick (.t 155) (.t 161) (.c (.b false))), .op (some 163) none (.mov (.t 162)), .call (some 164) (some (163, true)) 18 [], .op (some 165) none (.pick (.t 163) (.t 164) (.c (.b false))), .op (some 2) none (.mov (.t 165))] (some [2])) .ret)))))))))))))
def rs15 : List IRes := [.tmp 2]
theorem fn15 : Fn_ Try.prog 15 Try.f15 [] ic15 rs15 := ⟨by kernel_rfl, by decide, by kernel_rfl, by kernel_rfl⟩

theorem swapPlain {n : Int} {D : List Db} {f : Bool} (hl : (D.length : Int) < 9223372036854775808) : FSpec Try.prog 15 [bookV n D f] [] (.b true) [] := by
  refine fn15.spec0 mixed noIt_ok ?_
  rw [ic15]
  have G45 := fun σ => FSpec.frame (σ := σ) (fine45 (n := n) (D := D) (f := f) hl) (by simp) rfl
  refine ab_seq_k fun K1 h1 => ?_
  simp
  refine h1 _ _ _ ?_
  clear h1 K1
  refine ab_seq_k fun K2 h2 => ?_
  refine ab_seq_k fun K3 h3 => ?_
  simp [take_bookC]
  refine callK_of (G45 _) ?_
  simp [take_bookC]
  refine h3 _ _ _ ?_
  clear h3 K3
  by_cases hc : checkBook n D = 0
  case neg =>
    refine ab_cond_of rfl (fun _ => ?_) (fun h => by simp [fineB, hc] at h)
    refine ab_seq_k fun K4 h4 => ?_
    simp
    refine callK_of (wk _) ?_
    simp
    refine h4 _ _ _ ?_
    clear h4 K4
    simp
    exact fin_of 1 (by simp [rs15])
  refine ab_cond_of rfl (fun h => by simp [fineB, hc] at h) (fun _ => ?_)
  simp
  refine h2 _ _ _ ?_
  clear h2 K2
  obtain ⟨N, rfl, hN1, hN, hlen, hD⟩ := book_nat hc
  obtain ⟨-, -, -, hnd⟩ := book_ok hc
  have hP := plainB_ok hc
  have hagain := plain_again hc
  have e39 : circV N D = .tup [resV (circF (owB D) N), .i .i64 (if circF (owB D) N = [] then 5 else 0)] := by unfold circV; rw [if_neg (by simp [hc]), Int.toNat_natCast, edF_owB hD hnd]
  have e41 : plainV N D = .tup [bookV N (plainD N D) ((plainD N D).length == 0), .i .i64 0] := by unfold plainV; rw [if_neg (by simp [hc]), Int.toNat_natCast]
  have e41b : plainV N (plainD N D) = .tup [bookV N (plainD N D) ((plainD N D).length == 0), .i .i64 0] := by unfold plainV; rw [if_neg (by simp [hP.ok]), Int.toNat_natCast, hagain]
  generalize plainD N D = X at *
  obtain ⟨-, hlenX, hX, hndX⟩ := book_ok hP.ok
  have e39b : circV N X = .tup [resV [], .i .i64 5] := by unfold circV; rw [if_neg (by simp [hP.ok]), Int.toNat_natCast, edF_owB hX hndX, hP.no]; rfl
  obtain ⟨fx, hfx⟩ : ∃ fx, (X.length == 0) = fx := ⟨_, rfl⟩
  have G39 := fun σ => FSpec.frame (σ := σ) (circle39 (n := N) (D := D) (f := f) hl) (by simp) (by unfold circV; split <;> simp [resV])
  have G39b := fun σ => FSpec.frame (σ := σ) (circle39 (n := N) (D := X) (f := fx) (by omega)) (by simp) (by unfold circV; split <;> simp [resV])
  have G41 := fun σ => FSpec.frame (σ := σ) (plain41 (n := N) (D := D) (f := f) hl) (by simp) (by unfold plainV; split <;> simp)
  have G41b := fun σ => FSpec.frame (σ := σ) (plain41 (n := N) (D := X) (f := fx) (by omega)) (by simp) (by unfold plainV; split <;> simp)
  have G44 := fun σ => FSpec.frame (σ := σ) (isPlain44 (N := N) (D := D) (X := X) (f := f) (g := fx) hc hP) (by simp) rfl
  have G19 := fun σ => FSpec.frame (σ := σ) (prgBal (n := N) (D := X) (f := fx) (by omega)) (by simp) balP_pure
  have hrow : rowF N (balF X) = rowF N (balF D) := by
    apply List.ext_getElem?
    intro k
    by_cases hk : k < N
    · rw [rowF_get hk, rowF_get hk, hP.bal k hk]
    · rw [List.getElem?_eq_none (by simp; omega), List.getElem?_eq_none (by simp; omega)]
  have hb1 : balP N X = .tup [sl (rowF N (balF D)) false, .i .i64 0] := by unfold balP; rw [if_pos hP.ok, Int.toNat_natCast, hrow]
  have G47 := fun σ => FSpec.frame (σ := σ) (bal47 (n := (N : Int)) (M := 1000000) (D := D) (f := f) (by omega) (by omega) hD (by omega) rfl hN) (by simp) (by simp)
  have hrl : (rowF N (balF D)).length = N := by simp
  have G23 := fun σ => FSpec.frame (σ := σ) (longs23 (a := rowF N (balF D)) (b := rowF N (balF D)) (fa := false) (fb := false) (by rw [hrl]; omega)) (by simp) rfl
  rw [e39] at G39
  rw [e39b] at G39b
  rw [e41, hfx] at G41
  rw [e41b, hfx] at G41b
  rw [hb1] at G19
  have hsumD : ∀ i, i ≤ D.length → 0 ≤ sumTo D i ∧ sumTo D i ≤ 1000000 * i := fun i hi => by
    have h1 := sum_b (n := (N : Int)) (M := 1000000) (D := D.take i) (by omega) (fun x hx => hD x (List.mem_of_mem_take hx))
    have h2 := sum_nn (n := (N : Int)) (M := 1000000) (D := D.take i) (fun x hx => hD x (List.mem_of_mem_take hx))
    rw [List.length_take, Nat.min_eq_left hi] at h1
    unfold sumTo
    exact ⟨h2, h1⟩
  have hsumX : ∀ i, i ≤ X.length → 0 ≤ sumTo X i ∧ sumTo X i ≤ 1000000 * i := fun i hi => by
    have h1 := sum_b (n := (N : Int)) (M := 1000000) (D := X.take i) (by omega) (fun x hx => hX x (List.mem_of_mem_take hx))
    have h2 := sum_nn (n := (N : Int)) (M := 1000000) (D := X.take i) (fun x hx => hX x (List.mem_of_mem_take hx))
    rw [List.length_take, Nat.min_eq_left hi] at h1
    unfold sumTo
    exact ⟨h2, h1⟩
  have hle := hP.sum
  have hlt := hP.less
  have hlenXD := hP.len
  generalize circF (owB D) N = c at *
  refine ab_seq_k fun K5 h5 => ?_
  simp [take_bookC]
  refine callK_of (G41 _) ?_
  simp [take_bookC]
  refine h5 _ _ _ ?_
  clear h5 K5
  refine ab_seq_k fun K6 h6 => ?_
  simp [take_bookC]
  refine callK_of (G39 _) ?_
  simp [take_bookC]
  refine h6 _ _ _ ?_
  clear h6 K6
  refine ab_seq_k fun K7 h7 => ?_
  refine ab_seq_k fun K8 h8 => ?_
  have hgo8 : ∀ env, get env 53 = .b false → get env 1 = .p 0 0 0 → get env 3 = .p 1 0 0 → get env 6 = .i .i64 (if c = [] then 5 else 0) → K8 (some 0) env [O.row 0 (bookC N D f), O.row 0 (bookC N X fx)] := by
    intro env w53 w1 w3 w6
    refine h8 _ _ _ ?_
    refine ab_cond_of (by rw [ev_t]; exact w53) (fun h => by cases h) (fun _ => ?_)
    simp
    refine h7 _ _ _ ?_
    clear h7 h8 K7 K8
    refine ab_seq_k fun K9 h9 => ?_
    simp [w1, w3, w6, take_bookC]
    refine callK_of (G19 _) ?_
    simp [w1, w3, w6, take_bookC]
    refine h9 _ _ _ ?_
    clear h9 K9
    refine ab_seq_k fun K10 h10 => ?_
    simp [take_bookC]
    refine callK_of (G39b _) ?_
    simp [take_bookC]
    refine h10 _ _ _ ?_
    clear h10 K10
    refine ab_seq_k fun K11 h11 => ?_
    simp [take_bookC]
    refine callK_of (G41b _) ?_
    simp [take_bookC]
    refine h11 _ _ _ ?_
    clear h11 K11
    refine ab_seq_k fun K12 h12 => ?_
    refine ab_seq_k fun K13 h13 => ?_
    have hnl : ¬ (D.length : Int) < X.length := by omega
    simp [take_bookC]
    refine callK_of (G47 _) ?_
    simp [take_bookC]
    refine callK_of (G23 _) ?_
    simp [take_bookC, get0_bookC, get1_bookC, hnl]
    refine h13 _ _ _ ?_
    refine ab_cond_of rfl (fun h => by simp at h) (fun _ => ?_)
    simp
    refine h12 _ _ _ ?_
    clear h12 h13 K12 K13
    refine ab_seq_k fun K14 h14 => ?_
    simp
    refine h14 _ _ _ ?_
    clear h14 K14
    refine ab_seq_k fun K15 h15 => ?_
    refine ab_seq_k fun K16 h16 => ?_
    simp
    refine h16 _ _ _ ?_
    refine ab_block_k fun K17 h17 => ?_
    refine ab_loop_k (fun m env σ => ∃ i : Nat, i + m = D.length ∧ env = [(1, .p 0 0 0), (3, .p 1 0 0), (6, .i .i64 (if c = [] then 5 else 0)), (10, .p 2 0 0), (12, .i .i64 (sumTo D i)), (13, .i .i64 0), (14, .i .i64 i)] ∧ σ = [O.row 0 (bookC N D f), O.row 0 (bookC N X fx), O.row 0 (bookC N X fx)]) D.length ⟨0, by omega, by simp [sumTo_zero], rfl⟩ ?_
    rintro m env σ ⟨i, hi, rfl, rfl⟩ K18 h18
    rw [ic15_0]
    refine ab_seq_k fun K19 h19 => ?_
    refine ab_seq_k fun K20 h20 => ?_
    simp [get1_bookC]
    refine h20 _ _ _ ?_
    clear h20 K20
    refine ab_cond_of rfl (fun hci => ?_) (fun hci => ?_)
    · have hil : i < D.length := by simpa using hci
      obtain ⟨d, hd⟩ : ∃ d, D[i]? = some d := ⟨_, List.getElem?_eq_getElem hil⟩
      obtain ⟨z1, z2, z3, z4⟩ := lsD_get hd
      obtain ⟨z4l, z4'⟩ := List.getElem?_eq_some_iff.1 z4
      have hdm := hD d (List.mem_of_getElem? hd)
      have hs0 := hsumD i (by omega)
      have hst : sumTo D (i + 1) = sumTo D i + d.2.2 := sumTo_succ hd
      generalize sumTo D i = S at *
      simp
      refine h19 _ _ _ ?_
      clear h19 K19
      refine ab_seq_k fun K21 h21 => ?_
      refine ab_block_k fun K22 h22 => ?_
      simp [get1_bookC, hil, z4, z4', wrap64 (x := S + d.2.2) (by omega) (by omega)]
      refine h22 _ _ _ ?_
      refine h21 _ _ _ ?_
      simp [wrap64 (x := (i : Int) + 1) (by omega) (by omega)]
      exact h18 _ _ _ (again (m - 1) (by omega) ⟨i + 1, by omega, by simp [hst], rfl⟩)
    have hil : i = D.length := by simp at hci; omega
    rw [hil, sumTo_all]
    simp
    refine h17 _ _ _ ?_
    refine h15 _ _ _ ?_
    clear h15 h16 h17 h18 h19 hci
    have hsD := hsumD D.length (Nat.le_refl _)
    rw [sumTo_all] at hsD
    generalize (D.map (·.2.2)).sum = T at *
    refine ab_seq_k fun K23 h23 => ?_
    refine ab_seq_k fun K24 h24 => ?_
    simp
    refine h24 _ _ _ ?_
    refine ab_block_k fun K25 h25 => ?_
    refine ab_loop_k (fun m env σ => ∃ i : Nat, i + m = X.length ∧ env = [(3, .p 1 0 0), (6, .i .i64 (if c = [] then 5 else 0)), (10, .p 2 0 0), (12, .i .i64 T), (13, .i .i64 (sumTo X i)), (15, .i .i64 i)] ∧ σ = [O.row 0 (bookC N D f), O.row 0 (bookC N X fx), O.row 0 (bookC N X fx)]) X.length ⟨0, by omega, by simp [sumTo_zero], rfl⟩ ?_
    rintro m1 env σ ⟨i, hi, rfl, rfl⟩ K26 h26
    rw [ic15_1]
    refine ab_seq_k fun K27 h27 => ?_
    refine ab_seq_k fun K28 h28 => ?_
    simp [get1_bookC]
    refine h28 _ _ _ ?_
    clear h28 K28
    refine ab_cond_of rfl (fun hci => ?_) (fun hci => ?_)
    · have hil : i < X.length := by simpa using hci
      obtain ⟨d, hd⟩ : ∃ d, X[i]? = some d := ⟨_, List.getElem?_eq_getElem hil⟩
      obtain ⟨z1, z2, z3, z4⟩ := lsD_get hd
      obtain ⟨z4l, z4'⟩ := List.getElem?_eq_some_iff.1 z4
      have hdm := hX d (List.mem_of_getElem? hd)
      have hs0 := hsumX i (by omega)
      have hm3 : min 3 (X.length * 3 - i * 3) = 3 := by omega
      have hle3 : i * 3 + 3 ≤ X.length * 3 := by omega
      have hst : sumTo X (i + 1) = sumTo X i + d.2.2 := sumTo_succ hd
      generalize sumTo X i = S at *
      simp
      refine h27 _ _ _ ?_
      clear h27 K27
      refine ab_seq_k fun K29 h29 => ?_
      refine ab_block_k fun K30 h30 => ?_
      refine ab_seq_k fun K31 h31 => ?_
      refine ab_seq_k fun K32 h32 => ?_
      simp [abDs_consU, drU, recheck_cons, recheck_nil, rcK, IS.dst, get1_bookC, hil, z1, hm3, hle3]
      refine h32 _ _ _ ?_
      refine ab_cond_of rfl (fun h => by simp at h) (fun _ => ?_)
      simp
      refine h31 _ _ _ ?_
      simp [get1_bookC, hil, z4, z4', wrap64 (x := S + d.2.2) (by omega) (by omega)]
      refine h30 _ _ _ ?_
      refine h29 _ _ _ ?_
      simp [wrap64 (x := (i : Int) + 1) (by omega) (by omega)]
      exact h26 _ _ _ (again (m1 - 1) (by omega) ⟨i + 1, by omega, by simp [hst], rfl⟩)
    have hil : i = X.length := by simp at hci; omega
    rw [hil, sumTo_all]
    simp
    refine h25 _ _ _ ?_
    refine h23 _ _ _ ?_
    clear h23 h24 h25 h26 h27 hci
    refine ab_seq_k fun K33 h33 => ?_
    by_cases h0 : c = []
    · have hnlt : ¬ (X.map (·.2.2)).sum < T := fun h => (hlt.1 h) h0
      simp [h0, hle, hnlt]
      refine callK_of (wk _) ?_
      simp
      refine h33 _ _ _ ?_
      simp
      exact fin_of 1 (by simp [rs15])
    · have hylt : (X.map (·.2.2)).sum < T := hlt.2 h0
      simp [h0, hle, hylt]
      refine callK_of (wk _) ?_
      simp
      refine h33 _ _ _ ?_
      simp
      exact fin_of 1 (by simp [rs15])
  clear h7 h8
  by_cases h0 : c = []
  · subst h0
    simp [take_bookC]
    refine callK_of (G44 _) ?_
    simp [resV, wI, ints]
    exact hgo8 _ rfl rfl rfl (by simp)
  · have h0l : 0 < c.length := List.length_pos_iff.2 h0
    simp [h0, take_bookC]
    refine callK_of (G44 _) ?_
    simp [resV, h0, h0l]
    exact hgo8 _ rfl rfl rfl (by simp [h0])
end Go.Ab
