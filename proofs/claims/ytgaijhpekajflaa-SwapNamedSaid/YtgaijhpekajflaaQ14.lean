/- The law SwapNamed; its control form is made by program. -/
import Derived.Test.YtgaijhpekajflaaUV
set_option linter.unusedVariables false
set_option linter.unusedSimpArgs false
set_option maxHeartbeats 8000000
set_option maxRecDepth 100000
namespace Go.Ab
open Go Go.Proofs


def ic14_0 : IC := (.seq (.seq (.reg [.op (some 34) none (.mov (.t 6)), .op (some 35) none (.fad 0 (.t 2)), .op (some 36) none (.load1 (.t 35)), .op (some 37) none (.bin .lss (.t 34) (.t 36))] (some [1, 2, 5, 6, 37])) (.cond (.t 37) .skip (.exit 0))) (.seq (.block 1 (.reg [.op (some 40) none (.mov (.t 5)), .op (some 41) none (.mov (.t 6)), .op (some 42) none (.bsl true 1 1 [(.i .i64 0)] [(0, 1, (.t 41))]), .op (some 43) none (.app 1 8 (.t 40) (.t 42)), .op (some 5) none (.mov (.t 43))] (some [1, 2, 5, 6]))) (.reg [.op (some 38) none (.mov (.t 6)), .op (some 39) none (.bin .add (.t 38) (.c (.i .i64 1))), .op (some 6) none (.mov (.t 39))] (some [1, 2, 5, 6]))))
def ic14_1 : IC := (.seq (.seq (.reg [.op (some 44) none (.mov (.t 7)), .op (some 45) none (.mov (.t 1)), .op (some 46) none (.len (.t 45)), .op (some 47) none (.bin .lss (.t 44) (.t 46))] (some [1, 2, 5, 7, 47])) (.cond (.t 47) .skip (.exit 2))) (.seq (.block 3 (.seq (.drw [(.op (some 50) none (.mov (.t 7)), []), (.op (some 51) none (.fad 0 (.t 2)), []), (.op (some 52) none (.load1 (.t 51)), []), (.op (some 53) none (.bin .rem (.t 50) (.t 52)), []), (.op (some 54) none (.mov (.t 1)), []), (.op (some 55) none (.mov (.t 7)), []), (.op (some 56) none (.ixs 1 (.t 54) (.t 55)), []), (.op (some 57) none (.load1 (.t 56)), []), (.op (some 58) none (.conv .i64 (.t 57)), []), (.op (some 59) none (.fad 0 (.t 2)), []), (.op (some 60) none (.load1 (.t 59)), []), (.op (some 61) none (.bin .rem (.t 58) (.t 60)), []), (.op (some 8) none (.mov (.t 53)), []), (.op (some 9) none (.mov (.t 61)), [])] (some [1, 2, 5, 7, 8, 9])) (.drw [(.op (some 62) none (.mov (.t 5)), []), (.op (some 63) none (.mov (.t 8)), []), (.op (some 64) none (.mov (.t 5)), [13]), (.op (some 65) none (.mov (.t 9)), [13]), (.op (some 66) none (.mov (.t 5)), []), (.op (some 67) none (.mov (.t 9)), []), (.op (some 68) none (.ixs 1 (.t 66) (.t 67)), []), (.op (some 69) none (.load1 (.t 68)), []), (.op (some 70) none (.mov (.t 5)), []), (.op (some 71) none (.mov (.t 8)), []), (.op (some 72) none (.ixs 1 (.t 70) (.t 71)), []), (.op (some 73) none (.load1 (.t 72)), []), (.op (some 74) none (.ixs 1 (.t 62) (.t 63)), []), (.op none none (.store1 (.t 74) (.t 69)), []), (.op (some 75) none (.ixs 1 (.t 64) (.t 65)), []), (.op none none (.store1 (.t 75) (.t 73)), [])] (some [1, 2, 5, 7])))) (.reg [.op (some 48) none (.mov (.t 7)), .op (some 49) none (.bin .add (.t 48) (.c (.i .i64 1))), .op (some 7) none (.mov (.t 49))] (some [1, 2, 5, 7]))))
def ic14_2 : IC := (.seq (.seq (.reg [.op (some 83) none (.mov (.t 11)), .op (some 84) none (.bin .geq (.t 83) (.c (.i .i64 0)))] (some [2, 5, 10, 11, 84])) (.cond (.t 84) .skip (.exit 4))) (.seq (.block 5 (.drw [(.op (some 87) none (.fad 1 (.t 10)), []), (.op (some 88) none (.load1 (.t 87)), []), (.op (some 89) none (.mov (.t 5)), []), (.op (some 90) none (.fad 1 (.t 2)), []), (.op (some 91) none (.load1 (.t 90)), []), (.op (some 92) none (.mov (.t 11)), []), (.op (some 93) none (.ixs 3 (.t 91) (.t 92)), []), (.op (some 94) none (.fad 0 (.t 93)), []), (.op (some 95) none (.load1 (.t 94)), []), (.op (some 96) none (.ixs 1 (.t 89) (.t 95)), []), (.op (some 97) none (.load1 (.t 96)), []), (.op (some 98) none (.mov (.t 5)), []), (.op (some 99) none (.fad 1 (.t 2)), []), (.op (some 100) none (.load1 (.t 99)), []), (.op (some 101) none (.mov (.t 11)), []), (.op (some 102) none (.ixs 3 (.t 100) (.t 101)), []), (.op (some 103) none (.fad 1 (.t 102)), []), (.op (some 104) none (.load1 (.t 103)), []), (.op (some 105) none (.ixs 1 (.t 98) (.t 104)), []), (.op (some 106) none (.load1 (.t 105)), []), (.op (some 107) none (.fad 1 (.t 2)), []), (.op (some 108) none (.load1 (.t 107)), []), (.op (some 109) none (.mov (.t 11)), []), (.op (some 110) none (.ixs 3 (.t 108) (.t 109)), []), (.op (some 111) none (.fad 2 (.t 110)), []), (.op (some 112) none (.load1 (.t 111)), []), (.call (some 113) none 48 [(.t 97), (.t 106), (.t 112)], []), (.op (some 114) none (.bsl true 3 1 [(.i .i64 0), (.i .i64 0), (.i .i64 0)] [(0, 3, (.t 113))]), []), (.op (some 115) none (.app 3 24 (.t 88) (.t 114)), []), (.op (some 116) none (.fad 1 (.t 10)), []), (.op none none (.store1 (.t 116) (.t 115)), [])] (some [2, 5, 10, 11]))) (.reg [.op (some 85) none (.mov (.t 11)), .op (some 86) none (.bin .sub (.t 85) (.c (.i .i64 1))), .op (some 11) none (.mov (.t 86))] (some [2, 5, 10, 11]))))
def ic14_3 : IC := (.seq (.seq (.reg [.op (some 192) none (.mov (.t 24)), .op (some 193) none (.fad 0 (.t 2)), .op (some 194) none (.load1 (.t 193)), .op (some 195) none (.bin .lss (.t 192) (.t 194))] (some [2, 5, 16, 18, 24, 195])) (.cond (.t 195) .skip (.exit 6))) (.seq (.block 7 (.seq (.drw [(.op (some 198) none (.mov (.t 16)), []), (.op (some 199) none (.mov (.t 24)), []), (.op (some 200) none (.ixs 1 (.t 198) (.t 199)), []), (.op (some 201) none (.load1 (.t 200)), []), (.op (some 202) none (.mov (.t 18)), []), (.op (some 203) none (.mov (.t 5)), []), (.op (some 204) none (.mov (.t 24)), []), (.op (some 205) none (.ixs 1 (.t 203) (.t 204)), []), (.op (some 206) none (.load1 (.t 205)), []), (.op (some 207) none (.ixs 1 (.t 202) (.t 206)), []), (.op (some 208) none (.load1 (.t 207)), []), (.op (some 209) none (.bin .neq (.t 201) (.t 208)), [])] (some [2, 5, 16, 18, 24, 209])) (.cond (.t 209) (.seq (.reg [.op (some 4) none (.mov (.c (.b false)))] (some [4])) .ret) .skip))) (.reg [.op (some 196) none (.mov (.t 24)), .op (some 197) none (.bin .add (.t 196) (.c (.i .i64 1))), .op (some 24) none (.mov (.t 197))] (some [2, 5, 16, 18, 24]))))
def ic14 : IC := (.seq (.reg [.op (some 2) none (.box (.t 0)), .op (some 4) none (.mov (.c (.b false)))] (some [1, 2])) (.seq (.seq (.reg [.op (some 25) none (.loadA 2 (.t 2)), .call (some 26) none 45 [(.t 25)], .op (some 27) none (.not (.t 26)), .op (some 28) none (.mov (.t 27)), .op (some 29) (some (28, false)) (.mov (.t 1)), .op (some 30) (some (28, false)) (.len (.t 29)), .op (some 31) (some (28, false)) (.bin .gtr (.t 30) (.c (.i .i64 20))), .op (some 32) none (.pick (.t 28) (.c (.b true)) (.t 31))] (some [1, 2, 32])) (.cond (.t 32) (.seq (.reg [.call (some 33) none 18 [], .op (some 4) none (.mov (.t 33))] (some [4])) .ret) .skip)) (.seq (.reg [.op (some 5) none (.mov (.c (.ss [] 0 true)))] (some [1, 2, 5])) (.seq (.seq (.reg [.op (some 6) none (.mov (.c (.i .i64 0)))] (some [1, 2, 5, 6])) (.block 0 (.loop (some [1, 2, 5, 6]) ic14_0))) (.seq (.seq (.reg [.op (some 7) none (.mov (.c (.i .i64 0)))] (some [1, 2, 5, 7])) (.block 2 (.loop (some [1, 2, 5, 7]) ic14_1))) (.seq (.reg [.op (some 76) none (.fad 0 (.t 2)), .op (some 77) none (.load1 (.t 76)), .call (some 78) none 49 [(.t 77), (.c (.ss [] 0 true))], .op (some 10) none (.alloc [(.i .i64 0), (.ss [] 0 true)]), .op none none (.storeA 2 (.t 10) (.t 78))] (some [2, 5, 10])) (.seq (.seq (.reg [.op (some 79) none (.fad 1 (.t 2)), .op (some 80) none (.load1 (.t 79)), .op (some 81) none (.len (.t 80)), .op (some 82) none (.bin .sub (.t 81) (.c (.i .i64 1))), .op (some 11) none (.mov (.t 82))] (some [2, 5, 10, 11])) (.block 4 (.loop (some [2, 5, 10, 11]) ic14_2))) (.seq (.reg [.op (some 118) none (.loadA 2 (.t 2)), .call (some 119) none 26 [(.t 118)], .op (some 117) none (.mov (.t 119)), .op (some 120) none (.ext 0 (.t 117)), .op (some 121) none (.ext 1 (.t 117)), .op (some 12) none (.mov (.t 120)), .op (some 13) none (.mov (.t 121))] (some [2, 5, 10, 12, 13])) (.seq (.reg [.op (some 123) none (.loadA 2 (.t 10)), .call (some 124) none 26 [(.t 123)], .op (some 122) none (.mov (.t 124)), .op (some 125) none (.ext 0 (.t 122)), .op (some 126) none (.ext 1 (.t 122)), .op (some 14) none (.mov (.t 125)), .op (some 15) none (.mov (.t 126))] (some [2, 5, 10, 12, 13, 14, 15])) (.seq (.reg [.op (some 128) none (.loadA 2 (.t 2)), .call (some 129) none 19 [(.t 128)], .op (some 127) none (.mov (.t 129)), .op (some 130) none (.ext 0 (.t 127)), .op (some 131) none (.ext 1 (.t 127)), .op (some 16) none (.mov (.t 130)), .op (some 17) none (.mov (.t 131))] (some [2, 5, 10, 12, 13, 14, 15, 16, 17])) (.seq (.reg [.op (some 133) none (.loadA 2 (.t 10)), .call (some 134) none 19 [(.t 133)], .op (some 132) none (.mov (.t 134)), .op (some 135) none (.ext 0 (.t 132)), .op (some 136) none (.ext 1 (.t 132)), .op (some 18) none (.mov (.t 135)), .op (some 19) none (.mov (.t 136))] (some [2, 5, 10, 12, 13, 14, 15, 16, 17, 18, 19])) (.seq (.reg [.op (some 138) none (.loadA 2 (.t 2)), .call (some 139) none 39 [(.t 138)], .op (some 137) none (.mov (.t 139)), .op (some 140) none (.ext 0 (.t 137)), .op (some 141) none (.ext 1 (.t 137)), .op (some 20) none (.mov (.t 140)), .op (some 21) none (.mov (.t 141))] (some [2, 5, 10, 12, 13, 14, 15, 16, 17, 18, 19, 20, 21])) (.seq (.reg [.op (some 143) none (.loadA 2 (.t 10)), .call (some 144) none 39 [(.t 143)], .op (some 142) none (.mov (.t 144)), .op (some 145) none (.ext 0 (.t 142)), .op (some 146) none (.ext 1 (.t 142)), .op (some 22) none (.mov (.t 145)), .op (some 23) none (.mov (.t 146))] (some [2, 5, 12, 13, 14, 15, 16, 17, 18, 19, 20, 21, 22, 23])) (.seq (.seq (.reg [.op (some 147) none (.mov (.t 13)), .op (some 148) none (.bin .neq (.t 147) (.c (.i .i64 0))), .op (some 149) none (.mov (.t 148)), .op (some 150) (some (149, false)) (.mov (.t 15)), .op (some 151) (some (149, false)) (.bin .neq (.t 150) (.c (.i .i64 0))), .op (some 152) none (.pick (.t 149) (.c (.b true)) (.t 151)), .op (some 153) none (.mov (.t 152)), .op (some 154) (some (153, false)) (.mov (.t 17)), .op (some 155) (some (153, false)) (.bin .neq (.t 154) (.c (.i .i64 0))), .op (some 156) none (.pick (.t 153) (.c (.b true)) (.t 155)), .op (some 157) none (.mov (.t 156)), .op (some 158) (some (157, false)) (.mov (.t 19)), .op (some 159) (some (157, false)) (.bin .neq (.t 158) (.c (.i .i64 0))), .op (some 160) none (.pick (.t 157) (.c (.b true)) (.t 159)), .op (some 161) none (.mov (.t 160)), .op (some 162) (some (161, false)) (.mov (.t 12)), .op (some 163) (some (161, false)) (.mov (.t 14)), .op (some 164) (some (161, false)) (.bin .neq (.t 162) (.t 163)), .op (some 165) none (.pick (.t 161) (.c (.b true)) (.t 164)), .op (some 166) none (.mov (.t 165)), .op (some 167) (some (166, false)) (.mov (.t 16)), .op (some 168) (some (166, false)) (.len (.t 167)), .op (some 169) (some (166, false)) (.fad 0 (.t 2)), .op (some 170) (some (166, false)) (.load1 (.t 169)), .op (some 171) (some (166, false)) (.bin .neq (.t 168) (.t 170)), .op (some 172) none (.pick (.t 166) (.c (.b true)) (.t 171)), .op (some 173) none (.mov (.t 172)), .op (some 174) (some (173, false)) (.mov (.t 18)), .op (some 175) (some (173, false)) (.len (.t 174)), .op (some 176) (some (173, false)) (.fad 0 (.t 2)), .op (some 177) (some (173, false)) (.load1 (.t 176)), .op (some 178) (some (173, false)) (.bin .neq (.t 175) (.t 177)), .op (some 179) none (.pick (.t 173) (.c (.b true)) (.t 178)), .op (some 180) none (.mov (.t 179)), .op (some 181) (some (180, false)) (.mov (.t 21)), .op (some 182) (some (180, false)) (.mov (.t 23)), .op (some 183) (some (180, false)) (.bin .neq (.t 181) (.t 182)), .op (some 184) none (.pick (.t 180) (.c (.b true)) (.t 183)), .op (some 185) none (.mov (.t 184)), .op (some 186) (some (185, false)) (.mov (.t 20)), .op (some 187) (some (185, false)) (.len (.t 186)), .op (some 188) (some (185, false)) (.mov (.t 22)), .op (some 189) (some (185, false)) (.len (.t 188)), .op (some 190) (some (185, false)) (.bin .neq (.t 187) (.t 189)), .op (some 191) none (.pick (.t 185) (.c (.b true)) (.t 190))] (some [2, 5, 16, 18, 191])) (.cond (.t 191) (.seq (.reg [.op (some 4) none (.mov (.c (.b false)))] (some [4])) .ret) .skip)) (.seq (.seq (.reg [.op (some 24) none (.mov (.c (.i .i64 0)))] (some [2, 5, 16, 18, 24])) (.block 6 (.loop (some [2, 5, 16, 18, 24]) ic14_3))) (.seq (.reg [.call (some 210) none 18 [], .op (some 4) none (.mov (.t 210))] (some [4])) .ret))))))))))))))))
def rs14 : List IRes := [.tmp 4]
theorem fn14 : Fn_ Try.prog 14 Try.f14 [] ic14 rs14 := ⟨by kernel_rfl, by decide, by kernel_rfl, by kernel_rfl⟩

theorem range_pure {n : Nat} : pureL (ints (wI (List.range n))) = true := by simp
def swapL (l : List Nat) (c d : Nat) : List Nat := (l.set c (l.getD d 0)).set d (l.getD c 0)
theorem wI_set {l : List Nat} {i x : Nat} : wI (l.set i x) = (wI l).set i (x : Int) := by simp [wI, List.map_set]
theorem renD_drop {l : List Nat} {D : List Db} {i : Nat} {d : Db} (h : D[i]? = some d) : (renD l (D.drop i)).reverse = (renD l (D.drop (i + 1))).reverse ++ [(nmI l d.1, nmI l d.2.1, d.2.2)] := by
  have hl := (List.getElem?_eq_some_iff.1 h).1
  rw [List.drop_eq_getElem_cons hl]
  have e : D[i] = d := (List.getElem?_eq_some_iff.1 h).2
  rw [e]
  simp [renD]
theorem frz_G3 {σ : List O} {v : V} {n : Nat} {cs : List V} (h : Gr 3 3 σ v n cs) (hn : n ≠ 0) (hp : pureL cs = true) : frz 3 3 σ v = .ss cs n false := by
  rcases h.cases with ⟨h0, -, -⟩ | ⟨id, ver, -, hid, rfl, hs, hl⟩
  · exact absurd h0 hn
  · exact frz_row (k := 1) (n := 3) hs hid h.1 hp
theorem frzS_at3 {k n j : Nat} {σ : List O} {o : O} (hj : j < n) (h : σ[j]? = some o) : (frzS k n σ)[j]? = some (frzO k n σ o) := by
  unfold frzS
  rw [List.getElem?_map, List.getElem?_take, if_pos hj, h]
  rfl
theorem debt48' {a b c : Int} : FSpec Try.prog 48 [.i .i64 a, .i .i64 b, .i .i64 c] [] (.agg [.i .i64 a, .i .i64 b, .i .i64 c]) [] := by
  refine fn48.spec0 mixed noIt_ok ?_
  rw [ic48]
  refine ab_seq_k fun K1 h1 => ?_
  simp
  refine h1 _ _ _ ?_
  clear h1 K1
  refine ab_seq_k fun K2 h2 => ?_
  simp
  refine h2 _ _ _ ?_
  clear h2 K2
  simp
  exact fin_of 1 (by simp [rs48])
theorem book49' {n : Int} : FSpec Try.prog 49 [.i .i64 n, .ss [] 0 true] [] (.agg [.i .i64 n, .ss [] 0 true]) [] := by
  refine fn49.spec0 mixed noIt_ok ?_
  rw [ic49]
  refine ab_seq_k fun K1 h1 => ?_
  simp
  refine h1 _ _ _ ?_
  clear h1 K1
  refine ab_seq_k fun K2 h2 => ?_
  simp
  refine h2 _ _ _ ?_
  clear h2 K2
  simp
  exact fin_of 1 (by simp [rs49])
theorem swapNamed {n : Int} {D : List Db} {f fs : Bool} {by_ : List Int} (hl : (D.length : Int) < 9223372036854775808) (hbl : (by_.length : Int) < 9223372036854775808) (hb : ∀ x ∈ by_, 0 ≤ x ∧ x < 256) :
    FSpec Try.prog 14 [bookV n D f, .ss (by_.map (V.i .u8)) by_.length fs] [] (.b true) [] := by
  refine fn14.spec0 mixed noIt_ok ?_
  rw [ic14]
  have G45 := fun σ => FSpec.frame (σ := σ) (fine45 (n := n) (D := D) (f := f) hl) (by simp) rfl
  refine ab_seq_k fun K1 h1 => ?_
  simp
  refine h1 _ _ _ ?_
  clear h1 K1
  refine ab_seq_k fun K2 h2 => ?_
  refine ab_seq_k fun K3 h3 => ?_
  simp [take_bookC]
  refine callK_of (G45 _) ?_
  have hret : ∀ env σ, get env 32 = .b true → K3 (some 0) env σ := by
    intro env σ w
    refine h3 _ _ _ ?_
    refine ab_cond_of (by rw [ev_t]; exact w) (fun _ => ?_) (fun h => by cases h)
    refine ab_seq_k fun K4 h4 => ?_
    simp
    refine callK_of (wk _) ?_
    simp
    refine h4 _ _ _ ?_
    clear h4 K4
    simp
    exact fin_of 1 (by simp [rs14])
  by_cases hc : checkBook n D = 0
  case neg =>
    simp [fineB, hc]
    exact hret _ _ rfl
  by_cases hb20 : (20 : Int) < by_.length
  · simp [fineB, hc, hb20]
    exact hret _ _ rfl
  simp [fineB, hc, hb20]
  clear hret
  refine h3 _ _ _ ?_
  refine ab_cond_of rfl (fun h => by simp at h) (fun _ => ?_)
  simp
  refine h2 _ _ _ ?_
  clear h2 h3 K2 K3
  obtain ⟨N, rfl, hN1, hN, hlen, hD⟩ := book_nat hc
  have hbl20 : by_.length ≤ 20 := by omega
  have hbg : ∀ {i : Nat}, i < by_.length → ∃ x : Nat, by_[i]? = some (x : Int) ∧ x < 256 := fun {i} hi => by
    have h1 := hb _ (List.getElem_mem hi)
    exact ⟨(by_[i]).toNat, by rw [List.getElem?_eq_getElem hi]; congr 1; omega, by omega⟩
  refine ab_seq_k fun K5 h5 => ?_
  simp
  refine h5 _ _ _ ?_
  clear h5 K5
  refine ab_seq_k fun K6 h6 => ?_
  refine ab_seq_k fun K7 h7 => ?_
  simp
  refine h7 _ _ _ ?_
  clear h7 K7
  refine ab_block_k fun K8 h8 => ?_
  refine ab_loop_k (fun m env σ => ∃ i : Nat, i + m = N ∧ ((i = 0 ∧ env = [(1, .ss (by_.map (V.i .u8)) by_.length fs), (2, .p 0 0 0), (5, .ss [] 0 true), (6, .i .i64 0)] ∧ σ = [O.row 0 (bookC N D f)]) ∨
    (∃ ver, 1 ≤ i ∧ env = [(1, .ss (by_.map (V.i .u8)) by_.length fs), (2, .p 0 0 0), (5, .s 1 ver 0 i 1), (6, .i .i64 i)] ∧ σ = [O.row 0 (bookC N D f), O.row ver (ints (wI (List.range i)))]))) N ⟨0, by omega, .inl ⟨rfl, by simp, rfl⟩⟩ ?_
  rintro m env σ ⟨i, hi, hcase⟩ K9 h9
  rw [ic14_0]
  refine ab_seq_k fun K10 h10 => ?_
  have hnx : ints (wI (List.range i)) ++ [V.i .i64 (i : Int)] = ints (wI (List.range (i + 1))) := by rw [List.range_succ]; simp [ints, wI]
  rcases hcase with ⟨rfl, rfl, rfl⟩ | ⟨ver, hi1, rfl, rfl⟩
  · refine ab_seq_k fun K11 h11 => ?_
    simp [get0_bookC]
    refine h11 _ _ _ ?_
    clear h11 K11
    refine ab_cond_of rfl (fun _ => ?_) (fun h => by simp at h; omega)
    simp
    refine h10 _ _ _ ?_
    refine ab_seq_k fun K12 h12 => ?_
    refine ab_block_k fun K13 h13 => ?_
    simp
    refine h13 _ _ _ ?_
    refine h12 _ _ _ ?_
    simp [wrap64 (x := 1) (by omega) (by omega)]
    exact h9 _ _ _ (again (m - 1) (by omega) ⟨1, by omega, .inr ⟨0, by omega, by simp, by simp [wI, ints, List.range_succ]⟩⟩)
  refine ab_seq_k fun K11 h11 => ?_
  simp [get0_bookC]
  refine h11 _ _ _ ?_
  clear h11 K11
  refine ab_cond_of rfl (fun hci => ?_) (fun hci => ?_)
  · have hiN : i < N := by simpa using hci
    simp
    refine h10 _ _ _ ?_
    refine ab_seq_k fun K12 h12 => ?_
    refine ab_block_k fun K13 h13 => ?_
    simp
    refine ⟨by omega, ?_⟩
    rw [hnx]
    refine h13 _ _ _ ?_
    refine h12 _ _ _ ?_
    simp [wrap64 (x := (i : Int) + 1) (by omega) (by omega)]
    exact h9 _ _ _ (again (m - 1) (by omega) ⟨i + 1, by omega, .inr ⟨ver + 1, by omega, by simp, rfl⟩⟩)
  have hiN : N = i := by simp at hci; omega
  subst hiN
  simp
  refine h8 _ _ _ ?_
  refine h6 _ _ _ ?_
  clear h6 h8 h9 h10 hci hnx hi
  -- the swaps
  refine ab_seq_k fun K14 h14 => ?_
  refine ab_seq_k fun K15 h15 => ?_
  simp
  refine h15 _ _ _ ?_
  clear h15 K15
  refine ab_block_k fun K16 h16 => ?_
  refine ab_loop_k (fun m env σ => ∃ (i : Nat) (l : List Nat), i + m = by_.length ∧ Names N l ∧ env = [(1, .ss (by_.map (V.i .u8)) by_.length fs), (2, .p 0 0 0), (5, .s 1 ver 0 N 1), (7, .i .i64 i)] ∧ σ = [O.row 0 (bookC N D f), O.row ver (ints (wI l))]) by_.length ⟨0, List.range N, by omega, .range, by simp, rfl⟩ ?_
  rintro m1 env σ ⟨i, l, hi, hnm, rfl, rfl⟩ K17 h17
  rw [ic14_1]
  refine ab_seq_k fun K18 h18 => ?_
  refine ab_seq_k fun K19 h19 => ?_
  simp
  refine h19 _ _ _ ?_
  clear h19 K19
  refine ab_cond_of rfl (fun hci => ?_) (fun hci => ?_)
  · have hil : i < by_.length := by simpa using hci
    obtain ⟨x, hx, hx256⟩ := hbg hil
    obtain ⟨hxl, hx'⟩ := List.getElem?_eq_some_iff.1 hx
    have hc1 : i % N < N := Nat.mod_lt _ (by omega)
    have hd1 : x % N < N := Nat.mod_lt _ (by omega)
    have k1 : (i : Int).tmod N = ((i % N : Nat) : Int) := by rw [Int.tmod_eq_emod_of_nonneg (by omega), Int.natCast_emod]
    have k2 : (x : Int).tmod N = ((x % N : Nat) : Int) := by rw [Int.tmod_eq_emod_of_nonneg (by omega), Int.natCast_emod]
    have hN0 : ¬ ((N : Int) = 0) := by omega
    have hN0' : ¬ (N = 0) := by omega
    have hsw := hnm.swap hc1 hd1
    obtain ⟨g1, -⟩ := hnm.get hc1
    obtain ⟨g2, -⟩ := hnm.get hd1
    have q1 : (wI l)[i % N]? = some ((l.getD (i % N) 0 : Nat) : Int) := by simp only [wI, List.getElem?_map]; rw [g1]; rfl
    have q2 : (wI l)[x % N]? = some ((l.getD (x % N) 0 : Nat) : Int) := by simp only [wI, List.getElem?_map]; rw [g2]; rfl
    have qs : ((wI l).set (i % N) ((l.getD (x % N) 0 : Nat) : Int)).set (x % N) ((l.getD (i % N) 0 : Nat) : Int) = wI ((l.set (i % N) (l.getD (x % N) 0)).set (x % N) (l.getD (i % N) 0)) := by rw [wI_set, wI_set]
    have hwl : (wI l).length = N := by rw [wI_len]; exact hnm.len
    have kw1 := wrap64 (x := ((i % N : Nat) : Int)) (by omega) (by omega)
    have kw2 := wrap64 (x := ((x % N : Nat) : Int)) (by omega) (by omega)
    have kwx := wrap64 (x := (x : Int)) (by omega) (by omega)
    generalize (l.set (i % N) (l.getD (x % N) 0)).set (x % N) (l.getD (i % N) 0) = l2 at *
    generalize l.getD (i % N) 0 = a at *
    generalize l.getD (x % N) 0 = b at *
    generalize i % N = c at *
    generalize x % N = d at *
    generalize wI l = W at *
    obtain ⟨q1l, q1'⟩ := List.getElem?_eq_some_iff.1 q1
    obtain ⟨q2l, q2'⟩ := List.getElem?_eq_some_iff.1 q2
    simp
    refine h18 _ _ _ ?_
    clear h18 K18
    refine ab_seq_k fun K20 h20 => ?_
    refine ab_block_k fun K21 h21 => ?_
    refine ab_seq_k fun K22 h22 => ?_
    simp [abDs_consU, drU, recheck_cons, recheck_nil, rcK, IS.dst, get0_bookC, hil, hx, hx', k1, k2, kw1, kw2, kwx, hN0, hN0']
    refine h22 _ _ _ ?_
    simp [abDs_consU, drU, recheck_cons, recheck_nil, rcK, IS.dst, q1, q1', q2, q2', hc1, hd1, hwl]
    rw [ints_set, ints_set, qs]
    refine h21 _ _ _ ?_
    refine h20 _ _ _ ?_
    simp [wrap64 (x := (i : Int) + 1) (by omega) (by omega)]
    exact h17 _ _ _ (again (m1 - 1) (by omega) ⟨i + 1, l2, by omega, hsw, by simp, rfl⟩)
  simp
  refine h16 _ _ _ ?_
  refine h14 _ _ _ ?_
  clear h14 h16 h17 h18 hci hi
  obtain ⟨hcX, htX, hbX, hsX⟩ := ren_all hc hnm
  have hgl := fun {i : Nat} (hi : i < N) => hnm.get hi
  have hll := hnm.len
  have G49 := fun σ => FSpec.frame (σ := σ) (book49' (n := N)) (by simp) rfl
  have G48 := fun (a b c : Int) σ => FSpec.frame (σ := σ) (debt48' (a := a) (b := b) (c := c)) (by simp) (by simp)
  refine ab_seq_k fun K23 h23 => ?_
  simp [get0_bookC]
  refine callK_of (G49 _) ?_
  simp [get0_bookC]
  refine h23 _ _ _ ?_
  clear h23 K23
  refine ab_seq_k fun K24 h24 => ?_
  refine ab_seq_k fun K25 h25 => ?_
  simp [get1_bookC, wrap64 (x := (D.length : Int) - 1) (by omega) (by omega)]
  refine h25 _ _ _ ?_
  clear h25 K25
  refine ab_block_k fun K26 h26 => ?_
  refine ab_loop_k (fun m env σ => ∃ j : Nat, j = m ∧ j ≤ D.length ∧ env = [(2, .p 0 0 0), (5, .s 1 ver 0 N 1), (10, .p 2 0 0), (11, .i .i64 ((j : Int) - 1))] ∧ σ[0]? = some (.row 0 (bookC N D f)) ∧ σ[1]? = some (.row ver (ints (wI l))) ∧
      ((1 ≤ j ∧ ∃ v, σ[2]? = some (.row 0 [.i .i64 N, v]) ∧ Gr 3 3 σ v (D.length - j) (lsD (renD l (D.drop j)).reverse) ∧ 3 ≤ σ.length) ∨
       (j = 0 ∧ ∃ fx, σ[2]? = some (.row 0 [.i .i64 N, slD (renD l D).reverse fx])))) D.length ⟨D.length, rfl, Nat.le_refl _, by simp, rfl, rfl, ?_⟩ ?_
  · by_cases h0 : D.length = 0
    · have hD0 : D = [] := List.length_eq_zero_iff.1 h0
      subst hD0
      exact .inr ⟨rfl, true, rfl⟩
    · refine .inl ⟨by omega, .ss [] 0 true, rfl, ?_, by simp⟩
      rw [Nat.sub_self, List.drop_length]
      exact Gr.nil
  rintro m2 env σ ⟨j, rfl, hjl, rfl, s0, s1, hcase⟩ K27 h27
  obtain ⟨s0l, s0'⟩ := List.getElem?_eq_some_iff.1 s0
  obtain ⟨s1l, s1'⟩ := List.getElem?_eq_some_iff.1 s1
  rw [ic14_2]
  refine ab_seq_k fun K28 h28 => ?_
  refine ab_seq_k fun K29 h29 => ?_
  simp
  refine h29 _ _ _ ?_
  clear h29 K29
  refine ab_cond_of rfl (fun hcj => ?_) (fun hcj => ?_)
  · have hj1 : 1 ≤ j := by have := of_decide_eq_true hcj; omega
    obtain ⟨i, rfl⟩ : ∃ i, j = i + 1 := ⟨j - 1, by omega⟩
    obtain ⟨-, v, s2, hv, hσ3⟩ := hcase.resolve_right (fun h => by omega)
    obtain ⟨s2l, s2'⟩ := List.getElem?_eq_some_iff.1 s2
    have hil : i < D.length := by omega
    obtain ⟨d, hd⟩ : ∃ d, D[i]? = some d := ⟨_, List.getElem?_eq_getElem hil⟩
    obtain ⟨z1, z2, z3, z4⟩ := lsD_get hd
    have hdm := hD d (List.mem_of_getElem? hd)
    have hst := renD_drop (l := l) hd
    obtain ⟨p, hp⟩ : ∃ p : Nat, d.1 = (p : Int) := ⟨d.1.toNat, by omega⟩
    obtain ⟨q, hq⟩ : ∃ q : Nat, d.2.1 = (q : Int) := ⟨d.2.1.toNat, by omega⟩
    have hpN : p < N := by omega
    have hqN : q < N := by omega
    have n1 : nmI l d.1 = ((l.getD p 0 : Nat) : Int) := by rw [hp]; rfl
    have n2 : nmI l d.2.1 = ((l.getD q 0 : Nat) : Int) := by rw [hq]; rfl
    rw [n1, n2] at hst
    rw [hp] at z2
    rw [hq] at z3
    obtain ⟨z2l, z2'⟩ := List.getElem?_eq_some_iff.1 z2
    obtain ⟨z3l, z3'⟩ := List.getElem?_eq_some_iff.1 z3
    obtain ⟨z4l, z4'⟩ := List.getElem?_eq_some_iff.1 z4
    have y1 : (wI l)[p]? = some ((l.getD p 0 : Nat) : Int) := by simp only [wI, List.getElem?_map]; rw [(hgl hpN).1]; rfl
    have y2 : (wI l)[q]? = some ((l.getD q 0 : Nat) : Int) := by simp only [wI, List.getElem?_map]; rw [(hgl hqN).1]; rfl
    generalize l.getD p 0 = a at *
    generalize l.getD q 0 = b at *
    have hwl : (wI l).length = N := by rw [wI_len]; exact hll
    obtain ⟨y1l, y1'⟩ := List.getElem?_eq_some_iff.1 y1
    obtain ⟨y2l, y2'⟩ := List.getElem?_eq_some_iff.1 y2
    have w1 : ((i + 1 : Nat) : Int) - 1 = (i : Int) := by omega
    have w1' : (i : Int) + 1 - 1 = (i : Int) := by omega
    simp
    refine h28 _ _ _ ?_
    clear h28 K28
    refine ab_seq_k fun K30 h30 => ?_
    refine ab_block_k fun K31 h31 => ?_
    simp [abDs_consU, drU, recheck_cons, recheck_nil, rcK, IS.dst, s0, s0', s1, s1', s2, s2', get1_bookC, hil, z2, z2', z3, z3', z4, z4', y1, y1', y2, y2', hpN, hqN, hwl, hll]
    refine callK_of (G48 _ _ _ _) ?_
    simp [abDs_consU, drU, recheck_cons, recheck_nil, rcK, IS.dst]
    refine appG hv hσ3 (by omega) (by simp) rfl ?_
    intro v' σ2 gx gg
    have t0 := gg.lt hv (j := 0) (by omega) hσ3
    have t1 := gg.lt hv (j := 1) (by omega) hσ3
    have t2 := gg.lt hv (j := 2) (by omega) hσ3
    rw [s0] at t0
    rw [s1] at t1
    rw [s2] at t2
    have hσ23 : 3 ≤ σ2.length := by have := gg.len; omega
    clear gg
    obtain ⟨t2l, t2'⟩ := List.getElem?_eq_some_iff.1 t2
    simp [abDs_consU, drU, recheck_cons, recheck_nil, rcK, IS.dst, t2, t2']
    refine ⟨gx.one, h31 _ _ _ ?_⟩
    refine h30 _ _ _ ?_
    simp [wrap64 (x := (i : Int) - 1) (by omega) (by omega)]
    have u0 : (σ2.set 2 (O.row 0 [.i .i64 N, v']))[0]? = some (.row 0 (bookC N D f)) := by rw [List.getElem?_set_ne (by omega)]; exact t0
    have u1 : (σ2.set 2 (O.row 0 [.i .i64 N, v']))[1]? = some (.row ver (ints (wI l))) := by rw [List.getElem?_set_ne (by omega)]; exact t1
    have u2 : (σ2.set 2 (O.row 0 [.i .i64 N, v']))[2]? = some (O.row 0 [.i .i64 N, v']) := List.getElem?_set_self t2l
    have uv := gx.setlt (i := 2) (o := O.row 0 [.i .i64 N, v']) (by omega)
    have hl3 : 3 ≤ (σ2.set 2 (O.row 0 [.i .i64 N, v'])).length := by rw [List.length_set]; exact hσ23
    have ex : lsD (renD l (D.drop (i + 1))).reverse ++ [V.i IntKind.i64 (a : Int), V.i IntKind.i64 (b : Int), V.i IntKind.i64 d.2.2] = lsD (renD l (D.drop i)).reverse := by rw [hst, lsD_append]; rfl
    rw [ex, show D.length - (i + 1) + 1 = D.length - i by omega] at uv
    generalize σ2.set 2 (O.row 0 [.i .i64 N, v']) = U at *
    by_cases hend : 1 ≤ i
    · exact h27 _ _ _ (again i (by omega) ⟨i, rfl, by omega, by simp, u0, u1, .inl ⟨hend, v', u2, uv, hl3⟩⟩)
    · have hi0 : i = 0 := by omega
      subst hi0
      rw [List.drop_zero, Nat.sub_zero] at uv
      have fx := frz_G3 uv (by omega) (by simp)
      have v0 := frzS_at3 (k := 3) (n := 3) (by omega) u0
      have v1 := frzS_at3 (k := 3) (n := 3) (by omega) u1
      have v2 := frzS_at3 (k := 3) (n := 3) (by omega) u2
      refine h27 _ _ _ (againF 0 3 3 (by omega) (by omega) hl3 ⟨0, rfl, by omega, by simp [frzE], ?_, ?_, .inr ⟨rfl, false, ?_⟩⟩)
      · rw [v0, frzO_pure (by simp)]
      · rw [v1, frzO_pure (by simp)]
      · rw [v2]
        show some (O.row 0 [frz 3 3 U (.i .i64 N), frz 3 3 U v']) = _
        rw [fx, frz_pure rfl]
        have hrl : (renD l D).reverse.length = D.length := by simp [renD]
        unfold slD
        rw [hrl]
  have hj0 : j = 0 := by have := of_decide_eq_false hcj; omega
  obtain ⟨-, fx, s2⟩ := hcase.resolve_left (fun h => by omega)
  obtain ⟨s2l, s2'⟩ := List.getElem?_eq_some_iff.1 s2
  simp
  refine h26 _ _ _ ?_
  refine h24 _ _ _ ?_
  clear h24 h26 h27 h28 hcase hcj
  have hXl : (renD l D).reverse.length = D.length := by simp [renD]
  have hbx : ([V.i .i64 (N : Int), slD (renD l D).reverse fx] : List V) = bookC N (renD l D).reverse fx := rfl
  rw [hbx] at s2 s2'
  generalize hX : (renD l D).reverse = X at *
  obtain ⟨-, hlenX, hDX, hndX⟩ := book_ok hcX
  obtain ⟨-, -, -, hnd⟩ := book_ok hc
  have F1 := fun σ => FSpec.frame (σ := σ) (fewest26 (n := N) (D := D) (f := f) hl) (by simp) rfl
  have F2 := fun σ => FSpec.frame (σ := σ) (fewest26 (n := N) (D := X) (f := fx) (by omega)) (by simp) rfl
  have F3 := fun σ => FSpec.frame (σ := σ) (prgBal (n := N) (D := D) (f := f) hl) (by simp) balP_pure
  have F4 := fun σ => FSpec.frame (σ := σ) (prgBal (n := N) (D := X) (f := fx) (by omega)) (by simp) balP_pure
  have F5 := fun σ => FSpec.frame (σ := σ) (circle39 (n := N) (D := D) (f := f) hl) (by simp) (by unfold circV; split <;> simp [resV])
  have F6 := fun σ => FSpec.frame (σ := σ) (circle39 (n := N) (D := X) (f := fx) (by omega)) (by simp) (by unfold circV; split <;> simp [resV])
  have e1 : fewP N D = (N - topP N D, 0) := by unfold fewP; rw [if_pos hc, Int.toNat_natCast]
  have e2 : fewP N X = (N - topP N D, 0) := by unfold fewP; rw [if_pos hcX, Int.toNat_natCast, htX]
  have e3 : balP N D = .tup [sl (rowF N (balF D)) false, .i .i64 0] := by unfold balP; rw [if_pos hc, Int.toNat_natCast]
  have e4 : balP N X = .tup [sl (rowF N (balF X)) false, .i .i64 0] := by unfold balP; rw [if_pos hcX, Int.toNat_natCast]
  have e5 : circV N D = .tup [resV (circF (owB D) N), .i .i64 (if circF (owB D) N = [] then 5 else 0)] := by unfold circV; rw [if_neg (by simp [hc]), Int.toNat_natCast, edF_owB hD hnd]
  have e6 : circV N X = .tup [resV (circF (owB X) N), .i .i64 (if circF (owB X) N = [] then 5 else 0)] := by unfold circV; rw [if_neg (by simp [hcX]), Int.toNat_natCast, edF_owB hDX hndX]
  rw [e1] at F1
  rw [e2] at F2
  rw [e3] at F3
  rw [e4] at F4
  rw [e5] at F5
  rw [e6] at F6
  simp only [pairV] at F1 F2
  have hci : (if circF (owB X) N = [] then (5 : Int) else 0) = (if circF (owB D) N = [] then 5 else 0) := by
    have : circF (owB X) N = [] ↔ circF (owB D) N = [] := by rw [← List.length_eq_zero_iff, ← List.length_eq_zero_iff, hsX]
    simp only [this]
  rw [hci] at F6
  generalize circF (owB X) N = cX at *
  generalize circF (owB D) N = cD at *
  generalize topP N D = T at *
  refine ab_seq_k fun K40 h40 => ?_
  simp [s0, s0', take_bookC]
  refine callK_of (F1 _) ?_
  simp [s0, s0', take_bookC]
  refine h40 _ _ _ ?_
  clear h40 K40
  refine ab_seq_k fun K41 h41 => ?_
  simp [s2, s2', take_bookC]
  refine callK_of (F2 _) ?_
  simp [s2, s2', take_bookC]
  refine h41 _ _ _ ?_
  clear h41 K41
  refine ab_seq_k fun K42 h42 => ?_
  simp [s0, s0', take_bookC]
  refine callK_of (F3 _) ?_
  simp [s0, s0', take_bookC]
  refine h42 _ _ _ ?_
  clear h42 K42
  refine ab_seq_k fun K43 h43 => ?_
  simp [s2, s2', take_bookC]
  refine callK_of (F4 _) ?_
  simp [s2, s2', take_bookC]
  refine h43 _ _ _ ?_
  clear h43 K43
  refine ab_seq_k fun K44 h44 => ?_
  simp [s0, s0', take_bookC]
  refine callK_of (F5 _) ?_
  simp [s0, s0', take_bookC]
  refine h44 _ _ _ ?_
  clear h44 K44
  refine ab_seq_k fun K45 h45 => ?_
  simp [s2, s2', take_bookC]
  refine callK_of (F6 _) ?_
  simp [s2, s2', take_bookC]
  refine h45 _ _ _ ?_
  clear h45 K45
  refine ab_seq_k fun K46 h46 => ?_
  refine ab_seq_k fun K47 h47 => ?_
  simp [s0, s0', get0_bookC, resV, hsX]
  refine h47 _ _ _ ?_
  refine ab_cond_of rfl (fun h => by simp at h) (fun _ => ?_)
  simp
  refine h46 _ _ _ ?_
  clear h46 h47 K46 K47
  refine ab_seq_k fun K48 h48 => ?_
  refine ab_seq_k fun K49 h49 => ?_
  simp
  refine h49 _ _ _ ?_
  clear h49 K49
  refine ab_block_k fun K50 h50 => ?_
  refine ab_loop_k (fun m env σ' => ∃ i : Nat, i + m = N ∧ env = [(2, .p 0 0 0), (5, .s 1 ver 0 N 1), (16, sl (rowF N (balF D)) false), (18, sl (rowF N (balF X)) false), (24, .i .i64 i)] ∧ σ' = σ) N ⟨0, by omega, by simp, rfl⟩ ?_
  rintro m3 env σ' ⟨i, hi, rfl, hσ'⟩ K51 h51
  rw [hσ']
  clear hσ' σ'
  rw [ic14_3]
  refine ab_seq_k fun K52 h52 => ?_
  refine ab_seq_k fun K53 h53 => ?_
  simp [s0, s0', get0_bookC]
  refine h53 _ _ _ ?_
  clear h53 K53
  refine ab_cond_of rfl (fun hc3 => ?_) (fun hc3 => ?_)
  · have hiN : i < N := by simpa using hc3
    obtain ⟨g1, g2⟩ := hgl hiN
    have y1 : (wI l)[i]? = some ((l.getD i 0 : Nat) : Int) := by simp only [wI, List.getElem?_map]; rw [g1]; rfl
    obtain ⟨y1l, y1'⟩ := List.getElem?_eq_some_iff.1 y1
    have hbi := hbX i hiN
    have hwl : (wI l).length = N := by rw [wI_len]; exact hll
    generalize l.getD i 0 = a at *
    simp
    refine h52 _ _ _ ?_
    clear h52 K52
    refine ab_seq_k fun K54 h54 => ?_
    refine ab_block_k fun K55 h55 => ?_
    refine ab_seq_k fun K56 h56 => ?_
    simp [abDs_consU, drU, recheck_cons, recheck_nil, rcK, IS.dst, s1, s1', hiN, y1, y1', g2, rowF_get hiN, rowF_get g2, hbi, hwl, hll]
    refine h56 _ _ _ ?_
    refine ab_cond_of rfl (fun h => by simp at h) (fun _ => ?_)
    simp
    refine h55 _ _ _ ?_
    refine h54 _ _ _ ?_
    simp [wrap64 (x := (i : Int) + 1) (by omega) (by omega)]
    exact h51 _ _ _ (again (m3 - 1) (by omega) ⟨i + 1, by omega, by simp, rfl⟩)
  simp
  refine h50 _ _ _ ?_
  refine h48 _ _ _ ?_
  refine ab_seq_k fun K60 h60 => ?_
  simp
  refine callK_of (wk _) ?_
  simp
  refine h60 _ _ _ ?_
  clear h60 K60
  simp
  exact fin_of 1 (by simp [rs14])
end Go.Ab
