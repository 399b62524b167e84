/- The law ScaleThicker; its control form is made by program. -/
import Derived.Test.YthcbimgdbhkikaaP0
set_option linter.unusedVariables false
set_option linter.unusedSimpArgs false
set_option maxHeartbeats 8000000
set_option maxRecDepth 100000
namespace Go.Ab
open Go Go.Proofs

def ic10_0 : IC := (.seq (.seq (.reg [.op (some 48) none (.mov (.t 11)), .op (some 49) none (.bin .geq (.t 48) (.c (.i .i64 0)))] (some [2, 3, 4, 5, 9, 10, 11, 49])) (.cond (.t 49) .skip (.exit 0))) (.seq (.block 1 (.seq (.seq (.reg [.op (some 52) none (.mov (.t 11)), .op (some 53) none (.mov (.t 2)), .op (some 54) none (.len (.t 53)), .op (some 55) none (.bin .lss (.t 52) (.t 54))] (some [2, 3, 4, 5, 9, 10, 11, 55])) (.cond (.t 55) (.reg [.op (some 56) none (.mov (.t 10)), .op (some 57) none (.mov (.t 2)), .op (some 58) none (.mov (.t 11)), .op (some 59) none (.ixs 1 (.t 57) (.t 58)), .op (some 60) none (.load1 (.t 59)), .op (some 61) none (.bin .rem (.t 60) (.c (.i .u8 3))), .op (some 62) none (.conv .i64 (.t 61)), .op (some 63) none (.bin .add (.t 56) (.t 62)), .op (some 10) none (.mov (.t 63))] (some [2, 3, 4, 5, 9, 10, 11])) .skip)) (.drw [(.op (some 64) none (.fad 0 (.t 9)), []), (.op (some 65) none (.load1 (.t 64)), []), (.op (some 66) none (.mov (.t 11)), []), (.op (some 67) none (.fad 0 (.t 9)), []), (.op (some 68) none (.load1 (.t 67)), []), (.op (some 69) none (.mov (.t 11)), []), (.op (some 70) none (.ixs 1 (.t 68) (.t 69)), []), (.op (some 71) none (.load1 (.t 70)), []), (.op (some 72) none (.mov (.t 10)), []), (.op (some 73) none (.bin .add (.t 71) (.t 72)), []), (.op (some 74) none (.mn [(.c (.i .i64 60)), (.t 73)]), []), (.op (some 75) none (.ixs 1 (.t 65) (.t 66)), []), (.op none none (.store1 (.t 75) (.t 74)), [])] (some [2, 3, 4, 5, 9, 10, 11])))) (.reg [.op (some 50) none (.mov (.t 11)), .op (some 51) none (.bin .sub (.t 50) (.c (.i .i64 1))), .op (some 11) none (.mov (.t 51))] (some [2, 3, 4, 5, 9, 10, 11]))))
def ic10_1 : IC := (.seq (.seq (.reg [.op (some 93) none (.mov (.t 16)), .op (some 94) none (.fad 1 (.t 4)), .op (some 95) none (.load1 (.t 94)), .op (some 96) none (.len (.t 95)), .op (some 97) none (.bin .lss (.t 93) (.t 96))] (some [4, 5, 9, 12, 13, 14, 15, 16, 97])) (.cond (.t 97) .skip (.exit 4))) (.seq (.block 5 (.reg [.op (some 100) none (.mov (.t 15)), .op (some 101) none (.mov (.t 100)), .op (some 102) (some (101, false)) (.fad 1 (.t 4)), .op (some 103) (some (101, false)) (.load1 (.t 102)), .op (some 104) (some (101, false)) (.mov (.t 16)), .op (some 105) (some (101, false)) (.ixs 1 (.t 103) (.t 104)), .op (some 106) (some (101, false)) (.load1 (.t 105)), .op (some 107) (some (101, false)) (.mov (.t 14)), .op (some 108) (some (101, false)) (.bin .eql (.t 106) (.t 107)), .op (some 109) none (.pick (.t 101) (.c (.b true)) (.t 108)), .op (some 15) none (.mov (.t 109))] (some [4, 5, 9, 12, 13, 14, 15, 16]))) (.reg [.op (some 98) none (.mov (.t 16)), .op (some 99) none (.bin .add (.t 98) (.c (.i .i64 1))), .op (some 16) none (.mov (.t 99))] (some [4, 5, 9, 12, 13, 14, 15, 16]))))
def ic10_2 : IC := (.seq (.seq (.reg [.op (some 84) none (.mov (.t 14)), .op (some 85) none (.loadA 2 (.t 4)), .call (some 86) none 43 [(.t 85)], .op (some 87) none (.bin .lss (.t 84) (.t 86))] (some [4, 5, 9, 12, 13, 14, 87])) (.cond (.t 87) .skip (.exit 2))) (.seq (.block 3 (.seq (.reg [.op (some 90) none (.mov (.t 14)), .op (some 91) none (.mov (.t 13)), .op (some 92) none (.bin .eql (.t 90) (.t 91)), .op (some 15) none (.mov (.t 92))] (some [4, 5, 9, 12, 13, 14, 15])) (.seq (.seq (.reg [.op (some 16) none (.mov (.c (.i .i64 0)))] (some [4, 5, 9, 12, 13, 14, 15, 16])) (.block 4 (.loop (some [4, 5, 9, 12, 13, 14, 15, 16]) ic10_1))) (.seq (.reg [.op (some 110) none (.mov (.t 15))] (some [4, 5, 9, 12, 13, 14, 110])) (.cond (.t 110) (.reg [.op (some 111) none (.fad 1 (.t 12)), .op (some 112) none (.load1 (.t 111)), .op (some 113) none (.mov (.t 14)), .op (some 114) none (.bsl true 1 1 [(.i .i64 0)] [(0, 1, (.t 113))]), .op (some 115) none (.app 1 8 (.t 112) (.t 114)), .op (some 116) none (.fad 1 (.t 12)), .op none none (.store1 (.t 116) (.t 115))] (some [4, 5, 9, 12, 13, 14])) .skip))))) (.reg [.op (some 88) none (.mov (.t 14)), .op (some 89) none (.bin .add (.t 88) (.c (.i .i64 1))), .op (some 14) none (.mov (.t 89))] (some [4, 5, 9, 12, 13, 14]))))
def ic10_3 : IC := (.seq (.seq (.reg [.op (some 169) none (.mov (.t 24)), .op (some 170) none (.fad 1 (.t 4)), .op (some 171) none (.load1 (.t 170)), .op (some 172) none (.len (.t 171)), .op (some 173) none (.bin .lss (.t 169) (.t 172))] (some [4, 5, 17, 23, 24, 173])) (.cond (.t 173) .skip (.exit 6))) (.seq (.block 7 (.drw [(.op (some 176) none (.fad 1 (.t 23)), []), (.op (some 177) none (.load1 (.t 176)), []), (.op (some 178) none (.fad 1 (.t 4)), []), (.op (some 179) none (.load1 (.t 178)), []), (.op (some 180) none (.mov (.t 24)), []), (.op (some 181) none (.ixs 1 (.t 179) (.t 180)), []), (.op (some 182) none (.load1 (.t 181)), []), (.op (some 183) none (.bin .add (.t 182) (.c (.i .i64 1))), []), (.op (some 184) none (.bsl true 1 1 [(.i .i64 0)] [(0, 1, (.t 183))]), []), (.op (some 185) none (.app 1 8 (.t 177) (.t 184)), []), (.op (some 186) none (.fad 1 (.t 23)), []), (.op none none (.store1 (.t 186) (.t 185)), [])] (some [4, 5, 17, 23, 24]))) (.reg [.op (some 174) none (.mov (.t 24)), .op (some 175) none (.bin .add (.t 174) (.c (.i .i64 1))), .op (some 24) none (.mov (.t 175))] (some [4, 5, 17, 23, 24]))))
def ic10 : IC := (.seq (.reg [.op (some 4) none (.box (.t 0)), .op (some 5) none (.box (.t 1)), .op (some 8) none (.mov (.c (.b false)))] (some [2, 3, 4, 5])) (.seq (.seq (.reg [.op (some 27) none (.loadA 2 (.t 4)), .op (some 28) none (.loadA 7 (.t 5)), .call (some 29) none 40 [(.t 27), (.t 28)], .op (some 30) none (.not (.t 29)), .op (some 31) none (.mov (.t 30)), .op (some 32) (some (31, false)) (.mov (.t 2)), .op (some 33) (some (31, false)) (.len (.t 32)), .op (some 34) (some (31, false)) (.bin .gtr (.t 33) (.c (.i .i64 70))), .op (some 35) none (.pick (.t 31) (.c (.b true)) (.t 34))] (some [2, 3, 4, 5, 35])) (.cond (.t 35) (.seq (.reg [.call (some 36) none 17 [], .op (some 8) none (.mov (.t 36))] (some [8])) .ret) .skip)) (.seq (.alt [[(.op (some 37) none (.bsl true 1 0 [] []), []), (.op (some 38) none (.fad 0 (.t 4)), []), (.op (some 39) none (.load1 (.t 38)), []), (.op (some 41) none (.fad 1 (.t 4)), [5, 7]), (.op (some 42) none (.load1 (.t 41)), [5, 7]), (.op (some 40) none (.app 1 8 (.t 37) (.t 39)), []), (.op (some 43) none (.build [(.ss [] 0 true), (.ss [] 0 true)] [(0, 1, (.t 40)), (1, 1, (.t 42))]), [7]), (.op (some 9) none (.alloc [(.ss [] 0 true), (.ss [] 0 true)]), []), (.op none none (.storeA 2 (.t 9) (.t 43)), [])], [(.op (some 37) none (.bsl true 1 0 [] []), [5]), (.op (some 38) none (.fad 0 (.t 4)), [5]), (.op (some 39) none (.load1 (.t 38)), [5]), (.op (some 41) none (.fad 1 (.t 4)), [5, 6]), (.op (some 42) none (.load1 (.t 41)), [5, 6]), (.op (some 9) none (.alloc [(.ss [] 0 true), (.ss [] 0 true)]), []), (.op (some 40) none (.app 1 8 (.t 37) (.t 39)), []), (.op (some 43) none (.build [(.ss [] 0 true), (.ss [] 0 true)] [(0, 1, (.t 40)), (1, 1, (.t 42))]), []), (.op none none (.storeA 2 (.t 9) (.t 43)), [])]] (some [2, 3, 4, 5, 9])) (.seq (.reg [.op (some 10) none (.mov (.c (.i .i64 0)))] (some [2, 3, 4, 5, 9, 10])) (.seq (.seq (.reg [.op (some 44) none (.fad 0 (.t 9)), .op (some 45) none (.load1 (.t 44)), .op (some 46) none (.len (.t 45)), .op (some 47) none (.bin .sub (.t 46) (.c (.i .i64 1))), .op (some 11) none (.mov (.t 47))] (some [2, 3, 4, 5, 9, 10, 11])) (.block 0 (.loop (some [2, 3, 4, 5, 9, 10, 11]) ic10_0))) (.seq (.reg [.op (some 76) none (.fad 0 (.t 4)), .op (some 77) none (.load1 (.t 76)), .op (some 78) none (.build [(.ss [] 0 true), (.ss [] 0 true)] [(0, 1, (.t 77))]), .op (some 12) none (.alloc [(.ss [] 0 true), (.ss [] 0 true)]), .op none none (.storeA 2 (.t 12) (.t 78))] (some [3, 4, 5, 9, 12])) (.seq (.reg [.op (some 79) none (.mov (.t 3)), .op (some 80) none (.conv .i64 (.t 79)), .op (some 81) none (.loadA 2 (.t 4)), .call (some 82) none 43 [(.t 81)], .op (some 83) none (.bin .rem (.t 80) (.t 82)), .op (some 13) none (.mov (.t 83))] (some [4, 5, 9, 12, 13])) (.seq (.seq (.reg [.op (some 14) none (.mov (.c (.i .i64 0)))] (some [4, 5, 9, 12, 13, 14])) (.block 2 (.loop (some [4, 5, 9, 12, 13, 14]) ic10_2))) (.seq (.reg [.op (some 118) none (.loadA 2 (.t 4)), .op (some 119) none (.loadA 7 (.t 5)), .call (some 120) none 26 [(.t 118), (.t 119)], .op (some 117) none (.mov (.t 120)), .op (some 121) none (.ext 0 (.t 117)), .op (some 122) none (.ext 1 (.t 117)), .op (some 17) none (.mov (.t 121)), .op (some 18) none (.mov (.t 122))] (some [4, 5, 9, 12, 17, 18])) (.seq (.reg [.op (some 124) none (.loadA 2 (.t 9)), .op (some 125) none (.loadA 7 (.t 5)), .call (some 126) none 26 [(.t 124), (.t 125)], .op (some 123) none (.mov (.t 126)), .op (some 127) none (.ext 0 (.t 123)), .op (some 128) none (.ext 1 (.t 123)), .op (some 19) none (.mov (.t 127)), .op (some 20) none (.mov (.t 128))] (some [4, 5, 12, 17, 18, 19, 20])) (.seq (.reg [.op (some 130) none (.loadA 2 (.t 12)), .op (some 131) none (.loadA 7 (.t 5)), .call (some 132) none 26 [(.t 130), (.t 131)], .op (some 129) none (.mov (.t 132)), .op (some 133) none (.ext 0 (.t 129)), .op (some 134) none (.ext 1 (.t 129)), .op (some 21) none (.mov (.t 133)), .op (some 22) none (.mov (.t 134))] (some [4, 5, 17, 18, 19, 20, 21, 22])) (.seq (.seq (.reg [.op (some 135) none (.mov (.t 18)), .op (some 136) none (.bin .neq (.t 135) (.c (.i .i64 0))), .op (some 137) none (.mov (.t 136)), .op (some 138) (some (137, false)) (.mov (.t 20)), .op (some 139) (some (137, false)) (.bin .neq (.t 138) (.c (.i .i64 0))), .op (some 140) none (.pick (.t 137) (.c (.b true)) (.t 139)), .op (some 141) none (.mov (.t 140)), .op (some 142) (some (141, false)) (.mov (.t 22)), .op (some 143) (some (141, false)) (.bin .neq (.t 142) (.c (.i .i64 0))), .op (some 144) none (.pick (.t 141) (.c (.b true)) (.t 143)), .op (some 145) none (.mov (.t 144)), .op (some 146) (some (145, false)) (.mov (.t 19)), .op (some 147) (some (145, false)) (.mov (.t 17)), .op (some 148) (some (145, false)) (.bin .lss (.t 146) (.t 147)), .op (some 149) none (.pick (.t 145) (.c (.b true)) (.t 148)), .op (some 150) none (.mov (.t 149)), .op (some 151) (some (150, false)) (.mov (.t 21)), .op (some 152) (some (150, false)) (.mov (.t 17)), .op (some 153) (some (150, false)) (.bin .gtr (.t 151) (.t 152)), .op (some 154) none (.pick (.t 150) (.c (.b true)) (.t 153))] (some [4, 5, 17, 154])) (.cond (.t 154) (.seq (.reg [.op (some 8) none (.mov (.c (.b false)))] (some [8])) .ret) .skip)) (.seq (.seq (.reg [.op (some 155) none (.fad 0 (.t 4)), .op (some 156) none (.load1 (.t 155)), .op (some 157) none (.len (.t 156)), .op (some 158) none (.bin .eql (.t 157) (.c (.i .i64 61)))] (some [4, 5, 17, 158])) (.cond (.t 158) (.seq (.reg [.call (some 159) none 17 [], .op (some 8) none (.mov (.t 159))] (some [8])) .ret) .skip)) (.seq (.alt [[(.op (some 160) none (.fad 0 (.t 4)), []), (.op (some 161) none (.load1 (.t 160)), []), (.op (some 162) none (.ixs 1 (.t 161) (.c (.i .i64 0))), []), (.op (some 163) none (.load1 (.t 162)), []), (.op (some 164) none (.bsl true 1 1 [(.i .i64 0)] [(0, 1, (.t 163))]), []), (.op (some 165) none (.fad 0 (.t 4)), []), (.op (some 166) none (.load1 (.t 165)), []), (.op (some 167) none (.app 1 8 (.t 164) (.t 166)), []), (.call (some 168) none 44 [(.t 167)], [9]), (.op (some 23) none (.alloc [(.ss [] 0 true), (.ss [] 0 true)]), []), (.op none none (.storeA 2 (.t 23) (.t 168)), [])], [(.op (some 160) none (.fad 0 (.t 4)), [7]), (.op (some 161) none (.load1 (.t 160)), [7]), (.op (some 162) none (.ixs 1 (.t 161) (.c (.i .i64 0))), [7]), (.op (some 163) none (.load1 (.t 162)), [7]), (.op (some 164) none (.bsl true 1 1 [(.i .i64 0)] [(0, 1, (.t 163))]), [7]), (.op (some 165) none (.fad 0 (.t 4)), [7]), (.op (some 166) none (.load1 (.t 165)), [7]), (.op (some 23) none (.alloc [(.ss [] 0 true), (.ss [] 0 true)]), []), (.op (some 167) none (.app 1 8 (.t 164) (.t 166)), []), (.call (some 168) none 44 [(.t 167)], []), (.op none none (.storeA 2 (.t 23) (.t 168)), [])]] (some [4, 5, 17, 23])) (.seq (.seq (.reg [.op (some 24) none (.mov (.c (.i .i64 0)))] (some [4, 5, 17, 23, 24])) (.block 6 (.loop (some [4, 5, 17, 23, 24]) ic10_3))) (.seq (.reg [.op (some 188) none (.loadA 2 (.t 23)), .op (some 189) none (.loadA 7 (.t 5)), .call (some 190) none 26 [(.t 188), (.t 189)], .op (some 187) none (.mov (.t 190)), .op (some 191) none (.ext 0 (.t 187)), .op (some 192) none (.ext 1 (.t 187)), .op (some 25) none (.mov (.t 191)), .op (some 26) none (.mov (.t 192))] (some [17, 25, 26])) (.seq (.reg [.op (some 193) none (.mov (.t 26)), .op (some 194) none (.bin .eql (.t 193) (.c (.i .i64 0))), .op (some 195) none (.mov (.t 194)), .op (some 196) (some (195, true)) (.mov (.t 25)), .op (some 197) (some (195, true)) (.mov (.t 17)), .op (some 198) (some (195, true)) (.bin .geq (.t 196) (.t 197)), .op (some 199) none (.pick (.t 195) (.t 198) (.c (.b false))), .op (some 200) none (.mov (.t 199)), .call (some 201) (some (200, true)) 17 [], .op (some 202) none (.pick (.t 200) (.t 201) (.c (.b false))), .op (some 8) none (.mov (.t 202))] (some [8])) .ret)))))))))))))))))
def rs10 : List IRes := [.tmp 8]
theorem fn10 : Fn_ Try.prog 10 Try.f10 [] ic10 rs10 := ⟨by kernel_rfl, by decide, by kernel_rfl, by kernel_rfl⟩

/-! ### Plain -/
theorem scaleN_pos {t b : List Int} {r : Ru} {i j : Nat} (h : 0 < scN t b r i j) : hasBad b i j = false ∧ ¬ ((j : Int) - i - r.trim < r.least ∨ r.most < (j : Int) - i - r.trim ∨ ((j : Int) - i - r.trim).tmod r.step ≠ 0 ∨ t.getD (j : Int).toNat 0 < r.thin) ∧ scN t b r i j = scaleN t r j ((j : Int) - i - r.trim) := by
  unfold scN scaleP at h ⊢
  by_cases hb : hasBad b i j = true
  · rw [if_pos hb] at h; omega
  · rw [if_neg hb] at h ⊢
    by_cases hc : (j : Int) - i - r.trim < r.least ∨ r.most < (j : Int) - i - r.trim ∨ ((j : Int) - i - r.trim).tmod r.step ≠ 0 ∨ t.getD (j : Int).toNat 0 < r.thin
    · rw [if_pos hc] at h; omega
    · rw [if_neg hc]
      exact ⟨by simpa using hb, hc, rfl⟩
theorem scaleN_is {t b : List Int} {r : Ru} {i j : Nat} (hb : hasBad b i j = false) (hc : ¬ ((j : Int) - i - r.trim < r.least ∨ r.most < (j : Int) - i - r.trim ∨ ((j : Int) - i - r.trim).tmod r.step ≠ 0 ∨ t.getD (j : Int).toNat 0 < r.thin)) : scN t b r i j = scaleN t r j ((j : Int) - i - r.trim) := by
  unfold scN scaleP
  rw [if_neg (by rw [hb]; simp), if_neg hc]
theorem Ru.ok_of {r : Ru} (h : RuB r) : r.ok = true := by
  obtain ⟨h1, h2, h3, h4, h5, h6, h7, h8, h9, h10, h11, h12, h13⟩ := h
  simp only [Ru.ok, fit, Bool.and_eq_true, decide_eq_true_eq]
  omega
def ovF (more : List Int) (i : Nat) : Int := ((more.drop i).map (· % 3)).sum
theorem ovF_out {more : List Int} {i : Nat} (h : more.length ≤ i) : ovF more i = 0 := by unfold ovF; rw [List.drop_of_length_le h]; rfl
theorem ovF_step {more : List Int} {i : Nat} {x : Int} (h : more[i]? = some x) : ovF more i = x % 3 + ovF more (i + 1) := by
  obtain ⟨hl, hx⟩ := List.getElem?_eq_some_iff.1 h
  unfold ovF
  rw [List.drop_eq_getElem_cons hl, hx]
  simp
theorem ovF_mono {more : List Int} {i : Nat} : ovF more (i + 1) ≤ ovF more i := by
  by_cases h : i < more.length
  · rw [ovF_step (List.getElem?_eq_getElem h)]
    omega
  · rw [ovF_out (by omega), ovF_out (by omega)]
    exact Int.le_refl _
theorem ovF_b {more : List Int} (hl : more.length ≤ 70) : ∀ (k i : Nat), more.length ≤ i + k → 0 ≤ ovF more i ∧ ovF more i ≤ 2 * k
  | 0, i, h => by rw [ovF_out (by omega)]; simp
  | k + 1, i, h => by
    have ih := ovF_b hl k (i + 1) (by omega)
    by_cases h2 : i < more.length
    · rw [ovF_step (List.getElem?_eq_getElem h2)]
      omega
    · rw [ovF_out (by omega)]
      omega
/-- The thicker stem. -/
def thick (t more : List Int) : List Int := t.mapIdx fun i x => min 60 (x + ovF more i)
@[simp] theorem thick_len {t more : List Int} : (thick t more).length = t.length := by simp [thick]
theorem thick_get {t more : List Int} {i : Nat} {x : Int} (h : t[i]? = some x) : (thick t more)[i]? = some (min 60 (x + ovF more i)) := by
  unfold thick
  rw [List.getElem?_mapIdx, h]; rfl
theorem getD_some {t : List Int} {i : Nat} (h : i < t.length) : t[i]? = some (t.getD i 0) := by rw [List.getD_eq_getElem?_getD, List.getElem?_eq_getElem h]; rfl
theorem thick_getD {t more : List Int} {i : Nat} (h : i < t.length) : (thick t more).getD i 0 = min 60 (t.getD i 0 + ovF more i) := by
  have := thick_get (more := more) (getD_some h)
  rw [List.getD_eq_getElem?_getD, this]; rfl
theorem thick_check {t b more : List Int} (hm : more.length ≤ 70) (h : checkStem t b = 0) : checkStem (thick t more) b = 0 := by
  obtain ⟨a1, a2, a3, a4, a5⟩ := checkStem_iff.1 h
  rw [checkStem_iff]
  refine ⟨by simpa using a1, by simpa using a2, fun x hx => ?_, fun i hi => ?_, by simpa using a5⟩
  · obtain ⟨i, hi⟩ := List.mem_iff_getElem?.1 hx
    have hl : i < t.length := by have := (List.getElem?_eq_some_iff.1 hi).1; simpa using this
    rw [thick_get (getD_some hl)] at hi
    have hi := Option.some.inj hi
    have h1 := a3 _ (List.mem_of_getElem? (getD_some hl))
    have h2 := (ovF_b hm 70 i (by omega)).1
    omega
  · simp only [thick_len] at hi
    rw [thick_getD (by omega), thick_getD (by omega)]
    have h1 := a4 i hi
    have h2 := ovF_mono (more := more) (i := i)
    omega
theorem scaleN_mono {t t' : List Int} {r : Ru} {to to' lo : Int} (hd : 0 < r.div) (hl : 0 ≤ lo) (h : t.getD to.toNat 0 ≤ t'.getD to'.toNat 0) : scaleN t r to lo ≤ scaleN t' r to' lo := by
  unfold scaleN
  have u0 : 0 ≤ max 0 (t.getD to.toNat 0 - r.off) := by omega
  have u1 : max 0 (t.getD to.toNat 0 - r.off) ≤ max 0 (t'.getD to'.toNat 0 - r.off) := by omega
  generalize max 0 (t.getD to.toNat 0 - r.off) = u at *
  generalize max 0 (t'.getD to'.toNat 0 - r.off) = w at *
  have v1 : u * u ≤ w * w := Int.mul_le_mul u1 u1 u0 (by omega)
  exact Int.ediv_le_ediv hd (Int.mul_le_mul_of_nonneg_right v1 hl)
theorem thick_le {t b more : List Int} {r : Ru} (hm : more.length ≤ 70) (hr : RuB r) (h : checkStem t b = 0) : restN t b r allL 0 ≤ restN (thick t more) b r allL 0 := by
  obtain ⟨a1, a2, a3, a4, a5⟩ := checkStem_iff.1 h
  have hb := rest_best (t := thick t more) (b := b) (r := r)
  rw [thick_len] at hb
  refine rest_best.le hb (fun i j hij hj hp => ?_) rfl (Nat.zero_le _)
  obtain ⟨h1, h2, h3⟩ := scaleN_pos hp
  have hjl : j < t.length := by omega
  have h4 : t.getD (j : Int).toNat 0 ≤ (thick t more).getD (j : Int).toNat 0 := by
    rw [Int.toNat_natCast, thick_getD hjl]
    have h5 := a3 _ (List.mem_of_getElem? (getD_some hjl))
    have h6 := (ovF_b hm 70 j (by omega)).1
    omega
  have hl := hr.l1
  have hd := hr.d1
  have e : scN (thick t more) b r i j = scaleN (thick t more) r j ((j : Int) - i - r.trim) := scaleN_is h1 (by omega)
  have := scaleN_mono (t := t) (t' := thick t more) (r := r) (to := j) (to' := j) (lo := (j : Int) - i - r.trim) (by omega) (by omega) h4
  rw [e]
  omega
/-- A foot more at the stump. -/
def upB (b : List Int) : List Int := b.map (· + 1)
theorem long_check {t b : List Int} (h : checkStem t b = 0) (hl : t.length ≠ 61) : checkStem (t.getD 0 0 :: t) (upB b) = 0 := by
  obtain ⟨a1, a2, a3, a4, a5⟩ := checkStem_iff.1 h
  obtain ⟨b1, b2⟩ := badFrom_iff.1 a5
  rw [checkStem_iff]
  refine ⟨by simp; omega, by simp; omega, fun x hx => ?_, fun i hi => ?_, badFrom_iff.2 ⟨fun x hx => ?_, ?_⟩⟩
  · rcases List.mem_cons.1 hx with rfl | hx
    · exact a3 _ (List.mem_of_getElem? (getD_some (by omega)))
    · exact a3 x hx
  · cases i with
    | zero => simp
    | succ i =>
      simp only [List.length_cons, Nat.add_sub_cancel] at hi
      have := a4 i (by omega)
      simpa using this
  · obtain ⟨y, hy, rfl⟩ := List.mem_map.1 hx
    have := b1 y hy
    simp only [List.length_cons]
    omega
  · unfold upB
    rw [List.pairwise_map]
    exact b2.imp fun {x y} h => by omega
theorem hasBad_up {b : List Int} {x y : Int} : hasBad (upB b) (x + 1) (y + 1) = hasBad b x y := by
  rw [Bool.eq_iff_iff, hasBad_iff, hasBad_iff]
  constructor
  · rintro ⟨f, h1, h2, h3⟩
    obtain ⟨g, hg, rfl⟩ := List.mem_map.1 h1
    exact ⟨g, hg, by omega, by omega⟩
  · rintro ⟨f, h1, h2, h3⟩
    exact ⟨f + 1, List.mem_map.2 ⟨f, h1, rfl⟩, by omega, by omega⟩
theorem long_le {t b : List Int} {r : Ru} (hr : RuB r) (h : checkStem t b = 0) : restN t b r allL 0 ≤ restN (t.getD 0 0 :: t) (upB b) r allL 0 := by
  obtain ⟨a1, a2, a3, a4, a5⟩ := checkStem_iff.1 h
  have hb := rest_best (t := t.getD 0 0 :: t) (b := upB b) (r := r)
  have hL : (t.getD 0 0 :: t).length - 1 = t.length - 1 + 1 := by simp; omega
  rw [hL] at hb
  have hs : BestV (fun i j => 0 < scN (t.getD 0 0 :: t) (upB b) r (i + 1) (j + 1)) (fun i j => scN (t.getD 0 0 :: t) (upB b) r (i + 1) (j + 1)) (t.length - 1) (fun i => restN (t.getD 0 0 :: t) (upB b) r allL (i + 1)) := by
    refine ⟨hb.last, fun i hi => hb.step (i + 1) (by omega), fun i j h1 h2 h3 => hb.log (i + 1) (j + 1) (by omega) (by omega) h3, fun i hi => ?_⟩
    rcases hb.at_ (i + 1) (by omega) with e | ⟨j, q1, q2, q3, e⟩
    · exact .inl e
    · obtain ⟨j, rfl⟩ : ∃ k, j = k + 1 := ⟨j - 1, by omega⟩
      exact .inr ⟨j, by omega, by omega, q3, e⟩
  have h1 : restN t b r allL 0 ≤ restN (t.getD 0 0 :: t) (upB b) r allL (0 + 1) := by
    refine rest_best.le hs (fun i j hij hj hp => ?_) rfl (Nat.zero_le _)
    obtain ⟨g1, g2, g3⟩ := scaleN_pos hp
    have hl := hr.l1
    have hd := hr.d1
    have c1 : (((j + 1 : Nat) : Int)) - ((i + 1 : Nat) : Int) - r.trim = (j : Int) - i - r.trim := by omega
    have c2 : (t.getD 0 0 :: t).getD (((j + 1 : Nat) : Int)).toNat 0 = t.getD (j : Int).toNat 0 := by rw [Int.toNat_natCast, Int.toNat_natCast]; rfl
    have e : scN (t.getD 0 0 :: t) (upB b) r (i + 1) (j + 1) = scaleN (t.getD 0 0 :: t) r ((j + 1 : Nat) : Int) ((j : Int) - i - r.trim) := by
      rw [← c1]
      refine scaleN_is ?_ ?_
      · have := hasBad_up (b := b) (x := i) (y := j)
        rw [Int.natCast_add, Int.natCast_add]
        rw [← g1]; exact this
      · rw [c1, c2]; exact g2
    have := scaleN_mono (t := t) (t' := t.getD 0 0 :: t) (r := r) (to := j) (to' := ((j + 1 : Nat) : Int)) (lo := (j : Int) - i - r.trim) (by omega) (by omega) (by rw [c2]; exact Int.le_refl _)
    rw [e]
    omega
  have h2 := hb.step 0 (by omega)
  omega
/-! ### The walk -/
theorem app_get {σ g : List O} {i : Nat} {o : O} (h : σ[i]? = some o) : (σ ++ g)[i]? = some o := by
  rw [List.getElem?_append_left (List.getElem?_eq_some_iff.1 h).1]; exact h
theorem frz_agg2 {σ : List O} {a b a' b' : V} (h1 : frz 2 0 σ a = a') (h2 : frz 2 0 σ b = b') : frz 3 0 σ (.agg [a, b]) = .agg [a', b'] := by
  rw [frz]
  split
  · rename_i hp
    simp only [V.pure, pureL, Bool.and_eq_true] at hp
    have e1 : frz 2 0 σ a = a := frz_pure hp.1
    have e2 : frz 2 0 σ b = b := frz_pure hp.2.1
    rw [← h1, ← h2, e1, e2]
  · simp only [List.map_cons, List.map_nil, h1, h2]
theorem frz_row1 {σ : List O} {id ver : Nat} {l : List Int} (h : σ[id]? = some (.row ver (ints l))) : frz 2 0 σ (.s id ver 0 l.length 1) = sl l false := by
  rw [frz]
  simp only [V.pure, Bool.false_eq_true, if_false, Nat.not_lt_zero, h]
  rw [if_pos ⟨trivial, by simp⟩]
  have e : List.take (l.length * 1) (List.drop 0 (ints l)) = ints l := by rw [List.drop_zero]; exact List.take_of_length_le (by simp)
  rw [e, map_frz pure_ints]
theorem best_frz {t b : List Int} {r : Ru} {σ : List O} {a c : V} {ft fb : Bool} (ha : frz 2 0 σ a = sl t ft) (hb : frz 2 0 σ c = sl b fb) (hsz : Sz t b) (hE : openE t b [r] = 0) :
    FSpec Try.prog 26 [.agg [a, c], .agg r.cells] σ (.tup [.i .i64 (restN t b r allL 0), .i .i64 0]) σ := by
  refine FSpec.frozen 3 ?_ rfl
  have e1 : frz 3 0 σ (.agg [a, c]) = .agg [sl t ft, sl b fb] := frz_agg2 ha hb
  have e2 : frz 3 0 σ (.agg r.cells) = .agg r.cells := frz_pure (by simp)
  simp only [List.map_cons, List.map_nil, e1, e2]
  have := best_ok (t := t) (b := b) (ft := ft) (fb := fb) (r := r) hsz
  simpa [bestP, hE, pairV] using this
theorem stem44 {σ : List O} {id ver n : Nat} (hid : id < σ.length) : FSpec Try.prog 44 [.s id ver 0 n 1] σ (.agg [.s id ver 0 n 1, .ss [] 0 true]) σ := by
  refine fn44.spec mixed noIt_ok ?_
  rw [ic44]
  refine ab_seq_k fun K1 h1 => ?_
  simp
  refine h1 _ _ _ ?_
  clear h1 K1
  refine ab_seq_k fun K2 h2 => ?_
  simp
  refine h2 _ _ _ ?_
  clear h2 K2
  simp
  unfold finK
  simp [rs44]
  refine ⟨3, σ.length, Nat.le_refl _, by omega, ?_, .inr rfl⟩
  rw [frz]
  split
  · rfl
  · simp [hid]
theorem mix_set {t T : List Int} (hl : t.length = T.length) {i : Nat} (hi : i < t.length) {x : Int} (hx : T[i]? = some x) : (t.take (i + 1) ++ T.drop (i + 1)).set i x = t.take i ++ T.drop i := by
  have h1 : t.take (i + 1) = t.take i ++ [t[i]] := by rw [List.take_add_one, List.getElem?_eq_getElem hi]; rfl
  have h2 : T.drop i = x :: T.drop (i + 1) := by
    rw [List.drop_eq_getElem_cons (by omega)]
    rw [(List.getElem?_eq_some_iff.1 hx).2]
  have h3 : (t.take i).length = i := by rw [List.length_take]; omega
  rw [h1, h2, List.append_assoc, List.set_append_right (h := by omega), h3, Nat.sub_self]
  rfl
theorem mix_get {t T : List Int} {i : Nat} (hi : i < t.length) : (t.take (i + 1) ++ T.drop (i + 1))[i]? = some (t.getD i 0) := by
  rw [List.getElem?_append_left (by rw [List.length_take]; omega), List.getElem?_take, if_pos (by omega)]
  exact getD_some hi
theorem scaleThicker {t b more : List Int} {ft fb fm : Bool} {r : Ru} {foot : Int} (ht : (t.length : Int) < 9223372036854775808) (hb : (b.length : Int) < 9223372036854775808) (hbb : ∀ x ∈ b, -9223372036854775808 ≤ x ∧ x < 9223372036854775808)
    (hml : (more.length : Int) < 9223372036854775808) (hm : ∀ x ∈ more, 0 ≤ x ∧ x < 256) (hft : 0 ≤ foot ∧ foot < 256) :
    FSpec Try.prog 10 [.agg [sl t ft, sl b fb], .agg r.cells, slB more fm, .i .u8 foot] [] (.b true) [] := by
  refine fn10.spec0 mixed noIt_ok ?_
  rw [ic10]
  have h7 : List.take 7 r.cells = r.cells := rfl
  have l7 : r.cells.length = 7 := rfl
  refine ab_seq_k fun K1 h1 => ?_
  simp
  refine h1 _ _ _ ?_
  clear h1 K1
  refine ab_seq_k fun K2 h2 => ?_
  refine ab_seq_k fun K3 h3 => ?_
  simp [h7, l7]
  refine callK_of (FSpec.frame (fine_ok (t := t) (b := b) (ft := ft) (fb := fb) (r := r) ht hb hbb) (by simp) rfl) ?_
  have hret : ∀ env σ, get env 35 = .b true → K3 (some 0) env σ := by
    intro env σ w
    refine h3 _ _ _ ?_
    refine ab_cond_of (by rw [ev_t]; exact w) (fun _ => ?_) (fun h => by cases h)
    refine ab_seq_k fun K4 h4 => ?_
    simp
    refine callK_of (wk _) ?_
    simp
    refine h4 _ _ _ ?_
    clear h4 K4
    simp
    exact fin_of 1 (by simp [rs10])
  by_cases hf : fineP t b r = true
  case neg =>
    simp [hf]
    exact hret _ _ rfl
  by_cases hm70 : (70 : Int) < more.length
  · simp [hf, hm70]
    exact hret _ _ rfl
  simp [hf, hm70]
  clear hret
  refine h3 _ _ _ ?_
  refine ab_cond_of rfl (fun h => by simp at h) (fun _ => ?_)
  simp
  refine h2 _ _ _ ?_
  clear h2 h3 K2 K3
  have hm7 : more.length ≤ 70 := by omega
  obtain ⟨n, F⟩ := fine_of ft fb hf hbb
  have ok := F.ok
  have n61 := ok.n61
  have n2 := ok.n2
  have hR := ok.r
  have hsb := F.sz.b1
  have hchk : checkStem t b = 0 := (openE_stem F.E).1
  have hok : r.ok = true := Ru.ok_of hR
  have hE0 : ∀ {t' b' : List Int}, checkStem t' b' = 0 → openE t' b' [r] = 0 := fun {t' b'} h => by unfold openE; rw [if_pos h]; simp [hok]
  have hb70 : b.length ≤ 70 := by
    simp [fineP] at hf
    omega
  obtain ⟨mo, hmo⟩ : ∃ mo, mo = more.take t.length := ⟨_, rfl⟩
  have hmol : mo.length ≤ 70 := by rw [hmo, List.length_take]; omega
  have hmog : ∀ i, i < t.length → mo[i]? = more[i]? := fun i hi => by rw [hmo, List.getElem?_take, if_pos hi]
  have hmon : ovF mo t.length = 0 := ovF_out (by rw [hmo, List.length_take]; omega)
  have tch := thick_check (more := mo) hmol hchk
  have tle := thick_le (more := mo) hmol hR hchk
  have htv := (checkStem_iff.1 hchk).2.2.1
  have hov := fun i => ovF_b hmol 70 i (by omega)
  have B1 := F.best
  have hnE := F.en
  have hlong : ∀ σ, FSpec Try.prog 43 [.agg [sl t ft, sl b fb]] σ (.i .i64 ((t.length : Int) - 1)) σ := fun σ =>
    FSpec.frame (refLong (ts := ints t) (n := t.length) (ft := ft) (x := sl b fb) (by omega)) (by simp) rfl
  refine ab_seq_k fun K5 h5 => ?_
  have hK1 : ∀ ix it, ix ≠ it → 2 ≤ ix → 2 ≤ it → ix ≤ 3 → it ≤ 3 → ∀ env σ, get env 2 = slB more fm → get env 3 = .i .u8 foot → get env 4 = .p 0 0 0 → get env 5 = .p 1 0 0 → get env 9 = .p ix 0 0 → σ.length = 4 → σ[0]? = some (O.row 0 [sl t ft, sl b fb]) → σ[1]? = some (O.row 0 r.cells) →
      σ[ix]? = some (O.row 0 [.s it 0 0 t.length 1, sl b fb]) → σ[it]? = some (O.row 0 (ints t)) → K5 (some 0) env σ := by
    intro ix it hne hx1 ht1 hx2 ht2 env σ w2 w3 w4 w5 w9 hσ4 s0 s1 sx st
    refine h5 _ _ _ ?_
    clear h5 K5
    refine ab_seq_k fun K6 h6 => ?_
    simp [w2, w3, w4, w5, w9]
    refine h6 _ _ _ ?_
    clear h6 K6
    obtain ⟨sxl, sx'⟩ := List.getElem?_eq_some_iff.1 sx
    obtain ⟨stl, st'⟩ := List.getElem?_eq_some_iff.1 st
    refine ab_seq_k fun K7 h7' => ?_
    refine ab_seq_k fun K8 h8 => ?_
    simp [sx, sx', st, st', wrap64 (x := (t.length : Int) - 1) (by omega) (by omega)]
    refine h8 _ _ _ ?_
    clear h8 K8
    refine ab_block_k fun K9 h9 => ?_
    have hTl : t.length = (thick t mo).length := by simp
    refine ab_loop_k (fun m env σ' => ∃ j : Nat, j = m ∧ j ≤ t.length ∧ env = [(2, slB more fm), (3, .i .u8 foot), (4, .p 0 0 0), (5, .p 1 0 0), (9, .p ix 0 0), (10, .i .i64 (ovF mo j)), (11, .i .i64 ((j : Int) - 1))] ∧ σ' = σ.set it (O.row 0 (ints (t.take j ++ (thick t mo).drop j)))) t.length ⟨t.length, rfl, Nat.le_refl _, by simp [hmon], ?_⟩ ?_
    · rw [List.take_length, List.drop_of_length_le (by simp), List.append_nil]
      apply List.ext_getElem?
      intro q
      by_cases hq : q = it
      · subst hq; rw [List.getElem?_set_self stl, st]
      · rw [List.getElem?_set_ne (Ne.symm hq)]
    rintro m1 env σ' ⟨j, rfl, hjl, rfl, hσ'⟩ K10 h10
    have u0 : σ'[0]? = some (O.row 0 [sl t ft, sl b fb]) := by rw [hσ', List.getElem?_set_ne (by omega)]; exact s0
    have u1 : σ'[1]? = some (O.row 0 r.cells) := by rw [hσ', List.getElem?_set_ne (by omega)]; exact s1
    have ux : σ'[ix]? = some (O.row 0 [.s it 0 0 t.length 1, sl b fb]) := by rw [hσ', List.getElem?_set_ne (Ne.symm hne)]; exact sx
    have ut : σ'[it]? = some (O.row 0 (ints (t.take j ++ (thick t mo).drop j))) := by rw [hσ']; exact List.getElem?_set_self stl
    have hss : ∀ c, σ'.set it c = σ.set it c := fun c => by rw [hσ']; simp
    have hσ'4 : σ'.length = 4 := by rw [hσ']; simpa using hσ4
    clear hσ'
    obtain ⟨uxl, ux'⟩ := List.getElem?_eq_some_iff.1 ux
    obtain ⟨utl, ut'⟩ := List.getElem?_eq_some_iff.1 ut
    rw [ic10_0]
    refine ab_seq_k fun K11 h11 => ?_
    refine ab_seq_k fun K12 h12 => ?_
    simp
    refine h12 _ _ _ ?_
    clear h12 K12
    refine ab_cond_of rfl (fun hcj => ?_) (fun hcj => ?_)
    · obtain ⟨i, rfl⟩ : ∃ i, j = i + 1 := ⟨j - 1, by have := of_decide_eq_true hcj; omega⟩
      have hil : i < t.length := by omega
      have hti := getD_some hil
      have htb := htv _ (List.mem_of_getElem? hti)
      have hTi := thick_get (more := mo) hti
      have hoi := hov i
      have hoi1 := hov (i + 1)
      have hset := mix_set hTl hil hTi
      have hget := mix_get (t := t) (T := thick t mo) hil
      have hAl : (t.take (i + 1) ++ (thick t mo).drop (i + 1)).length = t.length := by simp; omega
      generalize t.take (i + 1) ++ (thick t mo).drop (i + 1) = A at *
      generalize t.getD i 0 = x at *
      obtain ⟨hgl, hget'⟩ := List.getElem?_eq_some_iff.1 hget
      have e1 : ((i + 1 : Nat) : Int) - 1 = (i : Int) := by omega
      simp
      refine h11 _ _ _ ?_
      clear h11 K11
      refine ab_seq_k fun K13 h13 => ?_
      refine ab_block_k fun K14 h14 => ?_
      refine ab_seq_k fun K15 h15 => ?_
      have hstore : ∀ env, get env 2 = slB more fm → get env 3 = .i .u8 foot → get env 4 = .p 0 0 0 → get env 5 = .p 1 0 0 → get env 9 = .p ix 0 0 → get env 10 = .i .i64 (ovF mo i) → get env 11 = .i .i64 i → K15 (some 0) env σ' := by
        intro env w2 w3 w4 w5 w9 w10 w11
        refine h15 _ _ _ ?_
        simp [abDs_consU, drU, recheck_cons, recheck_nil, rcK, IS.dst, w2, w3, w4, w5, w9, w10, w11, ux, ux', ut, ut', hil, hget, hget', hAl, wrap64 (x := x + ovF mo i) (by omega) (by omega)]
        rw [ints_set, hset, hss]
        refine h14 _ _ _ ?_
        refine h13 _ _ _ ?_
        simp [w2, w3, w4, w5, w9, w10, w11, wrap64 (x := (i : Int) - 1) (by omega) (by omega)]
        exact h10 _ _ _ (again i (by omega) ⟨i, rfl, by omega, by simp, rfl⟩)
      refine ab_seq_k fun K16 h16 => ?_
      simp
      refine h16 _ _ _ ?_
      clear h16 K16
      by_cases him : i < more.length
      · obtain ⟨y, hy⟩ : ∃ y, more[i]? = some y := ⟨_, List.getElem?_eq_getElem him⟩
        obtain ⟨hyl, hy'⟩ := List.getElem?_eq_some_iff.1 hy
        have hyb := hm y (List.mem_of_getElem? hy)
        have zg : (u8s more)[i]? = some (.i .u8 y) := by simp [hy]
        obtain ⟨zgl, zg'⟩ := List.getElem?_eq_some_iff.1 zg
        have hos := ovF_step (more := mo) (by rw [hmog i hil]; exact hy)
        have ty : y.tmod 3 = y % 3 := Int.tmod_eq_emod_of_nonneg hyb.1
        have wu : IntKind.u8.wrap (y % 3) = y % 3 := by
          simp only [IntKind.wrap, IntKind.bits, IntKind.signed]
          simp
          omega
        refine ab_cond_of rfl (fun _ => ?_) (fun h => by simp at h; omega)
        simp [him, zg, zg', ty, wu, wrap64 (x := y % 3) (by omega) (by omega), wrap64 (x := ovF mo (i + 1) + y % 3) (by omega) (by omega)]
        exact hstore _ rfl rfl rfl rfl rfl (by rw [hos, Int.add_comm]; rfl) rfl
      · have hos : ovF mo i = ovF mo (i + 1) := by
          have hml2 : mo.length ≤ i := by rw [hmo, List.length_take]; omega
          rw [ovF_out hml2, ovF_out (by omega)]
        refine ab_cond_of rfl (fun h => by simp at h; omega) (fun _ => ?_)
        simp
        exact hstore _ rfl rfl rfl rfl rfl (by simp [hos]) (by simp)
    have hj0 : j = 0 := by have := of_decide_eq_false hcj; omega
    subst hj0
    simp only [List.take_zero, List.nil_append, List.drop_zero] at ut ut'
    simp
    refine h9 _ _ _ ?_
    refine h7' _ _ _ ?_
    clear h7' h9 h10 h11 hcj hss s0 s1 sx st sx' st'
    obtain ⟨u0l, u0'⟩ := List.getElem?_eq_some_iff.1 u0
    refine ab_seq_k fun K20 h20 => ?_
    simp [u0, u0', hσ'4]
    refine h20 _ _ _ ?_
    clear h20 K20
    have y0 := app_get (g := [O.row 0 [sl t ft, .ss [] 0 true]]) u0
    have y1 := app_get (g := [O.row 0 [sl t ft, .ss [] 0 true]]) u1
    have yx := app_get (g := [O.row 0 [sl t ft, .ss [] 0 true]]) ux
    have yt := app_get (g := [O.row 0 [sl t ft, .ss [] 0 true]]) ut
    have yy : (σ' ++ [O.row 0 [sl t ft, .ss [] 0 true]])[4]? = some (O.row 0 [sl t ft, .ss [] 0 true]) := by rw [← hσ'4]; simp
    have hy5 : (σ' ++ [O.row 0 [sl t ft, .ss [] 0 true]]).length = 5 := by simp [hσ'4]
    generalize σ' ++ [O.row 0 [sl t ft, .ss [] 0 true]] = U at *
    clear u0 u1 ux ut ux' ut' u0' uxl utl u0l hσ'4 σ'
    obtain ⟨y0l, y0'⟩ := List.getElem?_eq_some_iff.1 y0
    have m1 := Int.emod_nonneg foot (show (t.length : Int) - 1 ≠ 0 by omega)
    have m2 := Int.emod_lt_of_pos foot (show (0 : Int) < (t.length : Int) - 1 by omega)
    have tx : Int.tmod foot ((t.length : Int) - 1) = foot % ((t.length : Int) - 1) := Int.tmod_eq_emod_of_nonneg hft.1
    obtain ⟨a, ha⟩ : ∃ a : Nat, (a : Int) = foot % ((t.length : Int) - 1) := ⟨(foot % ((t.length : Int) - 1)).toNat, by omega⟩
    have ha2 : a < t.length - 1 := by omega
    have hne1 : ¬ (t.length : Int) - 1 = 0 := by omega
    refine ab_seq_k fun K21 h21 => ?_
    simp [y0, y0', tx, hne1, wrap64 (x := foot) (by omega) (by omega)]
    refine callK_of (hlong _) ?_
    simp [tx, hne1, wrap64 (x := foot) (by omega) (by omega)]
    rw [← ha]
    refine h21 _ _ _ ?_
    clear h21 K21
    have hle := add_le (t := t) (b := b) (r := r) (a := a)
    have hcheck : checkStem t (addB b a (t.length - 1)) = 0 := addB_check hchk
    obtain ⟨L, hL⟩ : ∃ L, L = t.length - 1 := ⟨_, rfl⟩
    rw [← hL] at hle hcheck
    have hLi : (t.length : Int) - 1 = L := by omega
    rw [hLi] at hlong
    refine ab_seq_k fun K26 h26 => ?_
    refine ab_seq_k fun K27 h27 => ?_
    simp
    refine h27 _ _ _ ?_
    clear h27 K27
    refine ab_block_k fun K28 h28 => ?_
    refine ab_loop_k (fun m env σ => ∃ (i : Nat) (v : V), i + m = L ∧ env = [(4, .p 0 0 0), (5, .p 1 0 0), (9, .p ix 0 0), (12, .p 4 0 0), (13, .i .i64 a), (14, .i .i64 i)] ∧ σ[0]? = some (O.row 0 [sl t ft, sl b fb]) ∧ σ[1]? = some (O.row 0 r.cells) ∧ σ[ix]? = some (O.row 0 [.s it 0 0 t.length 1, sl b fb]) ∧ σ[it]? = some (O.row 0 (ints (thick t mo))) ∧
      σ[4]? = some (O.row 0 [sl t ft, v]) ∧ Gr 5 1 σ v (addB b a i).length (ints (addB b a i))) L
      ⟨0, .ss [] 0 true, by omega, by simp, y0, y1, yx, yt, yy, by simpa [addB, ints] using Gr.nil⟩ ?_
    clear y0 y1 yx yt yy y0l y0' hy5 U
    rintro m env σ ⟨i, v, hi, rfl, p0, p1, px, pt, p4, hv⟩ K29 h29
    rw [ic10_2]
    obtain ⟨p0l, p0'⟩ := List.getElem?_eq_some_iff.1 p0
    obtain ⟨p4l, p4'⟩ := List.getElem?_eq_some_iff.1 p4
    refine ab_seq_k fun K30 h30 => ?_
    refine ab_seq_k fun K31 h31 => ?_
    simp [p0, p0']
    refine callK_of (hlong _) ?_
    simp [p0, p0']
    refine h31 _ _ _ ?_
    clear h31 K31
    refine ab_cond_of rfl (fun hc => ?_) (fun hc => ?_)
    · have hiL : i < L := by simpa using hc
      simp
      refine h30 _ _ _ ?_
      clear h30 K30
      refine ab_seq_k fun K32 h32 => ?_
      refine ab_block_k fun K33 h33 => ?_
      refine ab_seq_k fun K34 h34 => ?_
      simp
      refine h34 _ _ _ ?_
      clear h34 K34
      refine ab_seq_k fun K35 h35 => ?_
      refine ab_seq_k fun K36 h36 => ?_
      simp
      refine h36 _ _ _ ?_
      clear h36 K36
      refine ab_block_k fun K37 h37 => ?_
      refine ab_loop_k (fun m env σ' => ∃ (k : Nat), k + m = b.length ∧ env = [(4, .p 0 0 0), (5, .p 1 0 0), (9, .p ix 0 0), (12, .p 4 0 0), (13, .i .i64 a), (14, .i .i64 i), (15, .b (decide ((i : Int) = a) || (b.take k).any fun f => decide (f = (i : Int)))), (16, .i .i64 k)] ∧ σ' = σ) b.length ⟨0, by omega, by simp, rfl⟩ ?_
      rintro m2 env σ' ⟨k, hk, rfl, hσ'⟩ K38 h38
      rw [hσ']
      clear hσ' σ'
      rw [ic10_1]
      refine ab_seq_k fun K39 h39 => ?_
      refine ab_seq_k fun K40 h40 => ?_
      simp [p0, p0']
      refine h40 _ _ _ ?_
      clear h40 K40
      refine ab_cond_of rfl (fun hc2 => ?_) (fun hc2 => ?_)
      · have hkb : k < b.length := by simpa using hc2
        obtain ⟨y, hy⟩ : ∃ y, b[k]? = some y := ⟨_, List.getElem?_eq_getElem hkb⟩
        obtain ⟨hy1, hy2⟩ := List.getElem?_eq_some_iff.1 hy
        have hstep : (decide ((i : Int) = a) || (b.take (k + 1)).any fun f => decide (f = (i : Int))) = (decide ((i : Int) = a) || ((b.take k).any fun f => decide (f = (i : Int)))|| decide (y = (i : Int))) := by
          rw [List.take_add_one, hy]; simp [Bool.or_assoc]
        simp
        refine h39 _ _ _ ?_
        clear h39 K39
        refine ab_seq_k fun K41 h41 => ?_
        refine ab_block_k fun K42 h42 => ?_
        have c1 : ∀ env w, get env 4 = .p 0 0 0 → get env 5 = .p 1 0 0 → get env 9 = .p ix 0 0 → get env 12 = .p 4 0 0 → get env 13 = .i .i64 a → get env 14 = .i .i64 i → get env 15 = .b w → get env 16 = .i .i64 k → w = (decide ((i : Int) = a) || (b.take (k + 1)).any fun f => decide (f = (i : Int))) → K42 (some 0) env σ := by
          rintro env w w4 w5 w9 w12 w13 w14 w15 w16 hw
          refine h42 _ _ _ ?_
          refine h41 _ _ _ ?_
          simp [w4, w5, w9, w12, w13, w14, w15, w16, wrap64 (x := (k : Int) + 1) (by omega) (by omega)]
          exact h38 _ _ _ (again (m2 - 1) (by omega) ⟨k + 1, by omega, by simp [hw], rfl⟩)
        cases hu : (decide ((i : Int) = a) || (b.take k).any fun f => decide (f = (i : Int))) with
        | true =>
          simp
          exact c1 _ true rfl rfl rfl rfl rfl rfl rfl rfl (by rw [hstep, hu]; rfl)
        | false =>
          simp [p0, p0', hkb, hy, hy2]
          exact c1 _ _ rfl rfl rfl rfl rfl rfl rfl rfl (by rw [hstep, hu]; rfl)
      · have hkb : k = b.length := by simp at hc2; omega
        rw [hkb, List.take_length]
        simp
        refine h37 _ _ _ ?_
        refine h35 _ _ _ ?_
        refine ab_seq_k fun K43 h43 => ?_
        simp
        refine h43 _ _ _ ?_
        clear h43 K43
        have hsucc := addB_succ (b := b) (a := (a : Int)) (k := i)
        have hnext : ∀ env σ2 v2, get env 4 = .p 0 0 0 → get env 5 = .p 1 0 0 → get env 9 = .p ix 0 0 → get env 12 = .p 4 0 0 → get env 13 = .i .i64 a → get env 14 = .i .i64 i → σ2[0]? = some (O.row 0 [sl t ft, sl b fb]) → σ2[1]? = some (O.row 0 r.cells) → σ2[ix]? = some (O.row 0 [.s it 0 0 t.length 1, sl b fb]) → σ2[it]? = some (O.row 0 (ints (thick t mo))) → σ2[4]? = some (O.row 0 [sl t ft, v2]) →
            Gr 5 1 σ2 v2 (addB b a (i + 1)).length (ints (addB b a (i + 1))) → K33 (some 0) env σ2 := by
          intro env σ2 v2 w4 w5 w9 w12 w13 w14 q0 q1 qx qt q4 hv2
          refine h33 _ _ _ ?_
          refine h32 _ _ _ ?_
          simp [w4, w5, w9, w12, w13, w14, wrap64 (x := (i : Int) + 1) (by omega) (by omega)]
          exact h29 _ _ _ (again (m - 1) (by omega) ⟨i + 1, v2, by omega, by simp, q0, q1, qx, qt, q4, hv2⟩)
        refine ab_cond_of rfl (fun hc3 => ?_) (fun hc3 => ?_)
        · have hc4 : (decide ((i : Int) = a) || b.any fun f => decide (f = (i : Int))) = true := by simpa using hc3
          rw [if_pos hc4] at hsucc
          have hbl : (addB b a i).length ≤ i := addB_len
          simp [p4, p4']
          refine appG hv (by omega) (by omega) (by simp) (by simp) ?_
          intro v' σ2 hv' hg
          have r0 := (hg.lt hv (j := 0) (by omega) (by omega)).trans p0
          have r1 := (hg.lt hv (j := 1) (by omega) (by omega)).trans p1
          have rx := (hg.lt hv (j := ix) (by omega) (by omega)).trans px
          have rt := (hg.lt hv (j := it) (by omega) (by omega)).trans pt
          have r4 := (hg.lt hv (j := 4) (by omega) (by omega)).trans p4
          have hone := hv'.one
          obtain ⟨r4l, r4'⟩ := List.getElem?_eq_some_iff.1 r4
          simp [r4, r4', hone]
          refine hnext _ _ v' rfl rfl rfl rfl rfl rfl ?_ ?_ ?_ ?_ (List.getElem?_set_self r4l) ?_
          · rw [List.getElem?_set_ne (by omega)]; exact r0
          · rw [List.getElem?_set_ne (by omega)]; exact r1
          · rw [List.getElem?_set_ne (by omega)]; exact rx
          · rw [List.getElem?_set_ne (by omega)]; exact rt
          · rw [hsucc, List.length_append]
            have : ints (addB b a i ++ [(i : Int)]) = ints (addB b a i) ++ [.i .i64 i] := by simp [ints]
            rw [this]
            exact hv'.setlt (by omega)
        · have hc4 : (decide ((i : Int) = a) || b.any fun f => decide (f = (i : Int))) = false := by simpa using hc3
          rw [hc4, if_neg (by simp), List.append_nil] at hsucc
          simp
          exact hnext _ _ v rfl rfl rfl rfl rfl rfl p0 p1 px pt p4 (by rw [hsucc]; exact hv)
    have hiL : i = L := by simp at hc; omega
    rw [hiL] at hv
    simp
    refine h28 _ _ _ ?_
    refine h26 _ _ _ ?_
    clear h26 h28 h29 h30 hc
    obtain ⟨p1l, p1'⟩ := List.getElem?_eq_some_iff.1 p1
    obtain ⟨pxl, px'⟩ := List.getElem?_eq_some_iff.1 px
    have hszx : Sz (thick t mo) b := ⟨by simp; omega, hsb, hbb⟩
    have hszy : Sz t (addB b a L) := ⟨by omega, by have := addB_len (b := b) (a := (a : Int)) (k := L); omega, fun x hx => by obtain ⟨a1, a2, a3⟩ := addB_mem.1 hx; omega⟩
    have ft2 : frz 2 0 σ (.s it 0 0 t.length 1) = sl (thick t mo) false := by
      have := frz_row1 pt
      rw [thick_len] at this
      exact this
    have C2 := best_frz (r := r) (fb := fb) ft2 (frz_pure (by simp)) hszx (hE0 tch)
    have C3 := best_frz (r := r) (ft := ft) (fb := ((addB b a L).length == 0)) (t := t) (b := addB b a L) (σ := σ) (a := sl t ft) (c := v) (frz_pure (by simp)) (frz_G hv (by simp)) hszy (hE0 hcheck)
    rw [← hnE] at tle hle
    generalize restN (thick t mo) b r allL 0 = N2 at *
    generalize restN t (addB b a L) r allL 0 = N3 at *
    refine ab_seq_k fun K50 h50 => ?_
    simp [p0, p0', p1, p1', h7, l7]
    refine callK_of (B1 _) ?_
    simp [p0, p0', p1, p1', h7, l7]
    refine h50 _ _ _ ?_
    clear h50 K50
    refine ab_seq_k fun K51 h51 => ?_
    simp [px, px', p1, p1', h7, l7]
    refine callK_of (C2) ?_
    simp [px, px', p1, p1', h7, l7]
    refine h51 _ _ _ ?_
    clear h51 K51
    refine ab_seq_k fun K52 h52 => ?_
    simp [p4, p4', p1, p1', h7, l7]
    refine callK_of (C3) ?_
    simp [p4, p4', p1, p1', h7, l7]
    refine h52 _ _ _ ?_
    clear h52 K52
    refine ab_seq_k fun K53 h53 => ?_
    refine ab_seq_k fun K54 h54 => ?_
    have g1 : ¬ N2 < n := by omega
    have g2 : ¬ n < N3 := by omega
    simp [g1, g2]
    refine h54 _ _ _ ?_
    refine ab_cond_of rfl (fun h => by simp at h) (fun _ => ?_)
    simp
    refine h53 _ _ _ ?_
    clear h53 h54 K53 K54
    refine ab_seq_k fun K55 h55 => ?_
    refine ab_seq_k fun K56 h56 => ?_
    simp [p0, p0']
    refine h56 _ _ _ ?_
    clear h56 K56
    by_cases h61 : t.length = 61
    · refine ab_cond_of rfl (fun _ => ?_) (fun h => by simp at h; omega)
      refine ab_seq_k fun K57 h57 => ?_
      simp
      refine callK_of (wk _) ?_
      simp
      refine h57 _ _ _ ?_
      clear h57 K57
      simp
      exact fin_of 1 (by simp [rs10])
    refine ab_cond_of rfl (fun h => by simp at h; omega) (fun _ => ?_)
    simp
    refine h55 _ _ _ ?_
    clear h55 K55
    refine ab_seq_k fun K58 h58 => ?_
    have zch := long_check hchk h61
    have zle := long_le hR hchk
    rw [← hnE] at zle
    have hzl : (t.getD 0 0 :: t).length = t.length + 1 := rfl
    have hK2 : ∀ (iz jt k : Nat) env σ', jt < k → iz < k → 2 ≤ iz → k = σ'.length → get env 4 = .p 0 0 0 → get env 5 = .p 1 0 0 → get env 17 = .i .i64 n → get env 23 = .p iz 0 0 → σ'[0]? = some (O.row 0 [sl t ft, sl b fb]) → σ'[1]? = some (O.row 0 r.cells) →
        σ'[iz]? = some (O.row 0 [.s jt 0 0 (t.length + 1) 1, .ss [] 0 true]) → σ'[jt]? = some (O.row 0 (ints (t.getD 0 0 :: t))) → K58 (some 0) env σ' := by
      intro iz jt k env σ' hjk hzk hz2 hkl w4 w5 w17 w23 z0 z1 zz zt
      refine h58 _ _ _ ?_
      clear h58 K58
      refine ab_seq_k fun K60 h60 => ?_
      refine ab_seq_k fun K61 h61 => ?_
      simp [w4, w5, w17, w23]
      refine h61 _ _ _ ?_
      clear h61 K61
      refine ab_block_k fun K62 h62 => ?_
      refine ab_loop_k (fun m env σ => ∃ (i : Nat) (v : V), i + m = b.length ∧ env = [(4, .p 0 0 0), (5, .p 1 0 0), (17, .i .i64 n), (23, .p iz 0 0), (24, .i .i64 i)] ∧ k ≤ σ.length ∧ σ[0]? = some (O.row 0 [sl t ft, sl b fb]) ∧ σ[1]? = some (O.row 0 r.cells) ∧
        σ[iz]? = some (O.row 0 [.s jt 0 0 (t.length + 1) 1, v]) ∧ σ[jt]? = some (O.row 0 (ints (t.getD 0 0 :: t))) ∧ Gr k 1 σ v i (ints (upB (b.take i)))) b.length
        ⟨0, .ss [] 0 true, by omega, by simp [w4, w5, w17, w23], by omega, z0, z1, zz, zt, by simpa [upB, ints] using Gr.nil⟩ ?_
      clear z0 z1 zz zt w4 w5 w17 w23
      rintro m3 env σ ⟨i, v, hi, rfl, hk, z0, z1, zz, zt, hv⟩ K63 h63
      obtain ⟨z0l, z0'⟩ := List.getElem?_eq_some_iff.1 z0
      obtain ⟨z1l, z1'⟩ := List.getElem?_eq_some_iff.1 z1
      obtain ⟨zzl, zz'⟩ := List.getElem?_eq_some_iff.1 zz
      rw [ic10_3]
      refine ab_seq_k fun K64 h64 => ?_
      refine ab_seq_k fun K65 h65 => ?_
      simp [z0, z0']
      refine h65 _ _ _ ?_
      clear h65 K65
      refine ab_cond_of rfl (fun hci => ?_) (fun hci => ?_)
      · have hib : i < b.length := by simpa using hci
        obtain ⟨y, hy⟩ : ∃ y, b[i]? = some y := ⟨_, List.getElem?_eq_getElem hib⟩
        obtain ⟨hy1, hy2⟩ := List.getElem?_eq_some_iff.1 hy
        have hyb : 0 ≤ y ∧ y ≤ 60 := by
          obtain ⟨a1, a2, a3, a4, a5⟩ := checkStem_iff.1 hchk
          have := (badFrom_iff.1 a5).1 y (List.mem_of_getElem? hy)
          omega
        have hst : ints (upB (b.take (i + 1))) = ints (upB (b.take i)) ++ [.i .i64 (y + 1)] := by
          rw [List.take_add_one, hy]; simp [upB, ints]
        simp
        refine h64 _ _ _ ?_
        clear h64 K64
        refine ab_seq_k fun K66 h66 => ?_
        refine ab_block_k fun K67 h67 => ?_
        simp [abDs_consU, drU, recheck_cons, recheck_nil, rcK, IS.dst, z0, z0', zz, zz', hib, hy, hy2, wrap64 (x := y + 1) (by omega) (by omega)]
        refine appG hv hk (by omega) (by simp) (by simp) ?_
        intro v' σ2 hv' hg
        have r0 := (hg.lt hv (j := 0) (by omega) hk).trans z0
        have r1 := (hg.lt hv (j := 1) (by omega) hk).trans z1
        have rz := (hg.lt hv (j := iz) (by omega) hk).trans zz
        have rt := (hg.lt hv (j := jt) (by omega) hk).trans zt
        obtain ⟨rzl, rz'⟩ := List.getElem?_eq_some_iff.1 rz
        simp [abDs_consU, drU, recheck_cons, recheck_nil, rcK, IS.dst, rz, rz', hv'.one]
        refine h67 _ _ _ ?_
        refine h66 _ _ _ ?_
        simp [wrap64 (x := (i : Int) + 1) (by omega) (by omega)]
        have hjz : jt ≠ iz := fun h => by subst h; rw [zt] at zz; simp [ints] at zz
        refine h63 _ _ _ (again (m3 - 1) (by omega) ⟨i + 1, v', by omega, by simp, by rw [List.length_set]; have := hg.len; omega, ?_, ?_, List.getElem?_set_self rzl, ?_, ?_⟩)
        · rw [List.getElem?_set_ne (by omega)]; exact r0
        · rw [List.getElem?_set_ne (by omega)]; exact r1
        · rw [List.getElem?_set_ne (Ne.symm hjz)]; exact rt
        · rw [hst]; exact hv'.setlt (by omega)
      have hib : i = b.length := by simp at hci; omega
      rw [hib, List.take_length] at hv
      simp
      refine h62 _ _ _ ?_
      refine h60 _ _ _ ?_
      clear h60 h62 h63 h64 hci
      have hszz : Sz (t.getD 0 0 :: t) (upB b) := ⟨by simp; omega, by simp [upB]; omega, fun x hx => by
        obtain ⟨y, hy, rfl⟩ := List.mem_map.1 hx
        obtain ⟨a1, a2, a3, a4, a5⟩ := checkStem_iff.1 hchk
        have := (badFrom_iff.1 a5).1 y hy
        omega⟩
      have fz : frz 2 0 σ (.s jt 0 0 (t.length + 1) 1) = sl (t.getD 0 0 :: t) false := frz_row1 (l := t.getD 0 0 :: t) zt
      have hul : (upB b).length = b.length := by simp [upB]
      have fv : frz 2 0 σ v = sl (upB b) (b.length == 0) := by
        rw [frz_G hv (by simp)]
        simp only [sl]
        rw [hul]
      have C4 := best_frz (r := r) fz fv hszz (hE0 zch)
      generalize restN (t.getD 0 0 :: t) (upB b) r allL 0 = N4 at *
      refine ab_seq_k fun K70 h70 => ?_
      simp [zz, zz', z1, z1', h7, l7]
      refine callK_of (C4) ?_
      simp [zz, zz', z1, z1', h7, l7]
      refine h70 _ _ _ ?_
      clear h70 K70
      refine ab_seq_k fun K71 h71 => ?_
      simp [zle]
      refine callK_of (wk _) ?_
      simp
      refine h71 _ _ _ ?_
      simp
      exact fin_of 1 (by simp [rs10])
    clear h58
    have ht0 : t[0]? = some (t.getD 0 0) := getD_some (by omega)
    generalize t.getD 0 0 = x0 at *
    obtain ⟨ht0l, ht0'⟩ := List.getElem?_eq_some_iff.1 ht0
    have hne0 : t ≠ [] := fun h => by rw [h] at n2; simp at n2
    have hcons : ints (x0 :: t) = V.i .i64 x0 :: ints t := rfl
    simp only [ab_alt_two, ab_alt_one]
    have hn1 : 1 + t.length = t.length + 1 := by omega
    refine ⟨?_, ?_⟩
    · simp [abDs_consU, drU, recheck_cons, recheck_nil, rcK, IS.dst, p0, p0', ht0, ht0', ht0l, n2]
      rw [if_neg hne0, hn1]
      refine ⟨by omega, callK_of (stem44 (by simp)) ?_⟩
      simp [abDs_consU, drU, recheck_cons, recheck_nil, rcK, IS.dst]
      refine ⟨callK_of (stem44 (by simp)) (by simp [rcK]), ?_⟩
      exact hK2 (σ.length + 1) σ.length (σ.length + 2) _ _ (by omega) (by omega) (by omega) (by simp) rfl rfl rfl rfl (app_get p0) (app_get p1) (by simp) (by simp [ints])
    · have z0 := app_get (g := [O.row 0 [V.ss [] 0 true, V.ss [] 0 true]]) p0
      have z1 := app_get (g := [O.row 0 [V.ss [] 0 true, V.ss [] 0 true]]) p1
      obtain ⟨z0l, z0'⟩ := List.getElem?_eq_some_iff.1 z0
      simp [abDs_consU, drU, recheck_cons, recheck_nil, rcK, IS.dst, p0, p0', z0, z0', ht0, ht0', ht0l, n2]
      rw [if_neg hne0, hn1]
      refine ⟨by omega, callK_of (stem44 (by simp)) ?_⟩
      simp [abDs_consU, drU, recheck_cons, recheck_nil, rcK, IS.dst]
      exact hK2 σ.length (σ.length + 1) (σ.length + 2) _ _ (by omega) (by omega) (by omega) (by simp) rfl rfl rfl rfl (app_get p0) (app_get p1) (by simp) (by simp [ints])
  clear h5
  simp only [ab_alt_two, ab_alt_one]
  have hne0 : t ≠ [] := fun h => by rw [h] at n2; simp at n2
  refine ⟨?_, ?_⟩
  · simp [abDs_consU, drU, recheck_cons, recheck_nil, rcK, IS.dst]
    rw [if_neg hne0]
    exact ⟨by omega, hK1 3 2 (by omega) (by omega) (by omega) (by omega) (by omega) _ _ rfl rfl rfl rfl rfl rfl rfl rfl rfl rfl⟩
  · simp [abDs_consU, drU, recheck_cons, recheck_nil, rcK, IS.dst]
    rw [if_neg hne0]
    exact ⟨by omega, hK1 2 3 (by omega) (by omega) (by omega) (by omega) (by omega) _ _ rfl rfl rfl rfl rfl rfl rfl rfl rfl rfl⟩
end Go.Ab
