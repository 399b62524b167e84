/- The law SwapScaled; its control form is made by program. -/
import Derived.Test.YtgaijhpekajflaaUJ
set_option linter.unusedVariables false
set_option linter.unusedSimpArgs false
set_option maxHeartbeats 4000000
set_option maxRecDepth 100000
namespace Go.Ab
open Go Go.Proofs

def ic13_0 : IC := (.seq (.seq (.reg [.op (some 35) none (.mov (.t 8)), .op (some 36) none (.fad 1 (.t 2)), .op (some 37) none (.load1 (.t 36)), .op (some 38) none (.len (.t 37)), .op (some 39) none (.bin .lss (.t 35) (.t 38))] (some [2, 5, 6, 7, 8, 39])) (.cond (.t 39) .skip (.exit 0))) (.seq (.block 1 (.seq (.reg [.op (some 42) none (.fad 1 (.t 2)), .op (some 43) none (.load1 (.t 42)), .op (some 44) none (.mov (.t 8)), .op (some 45) none (.ixs 3 (.t 43) (.t 44)), .op (some 46) none (.loadA 3 (.t 45)), .op (some 9) none (.alloc [(.i .i64 0), (.i .i64 0), (.i .i64 0)]), .op none none (.storeA 3 (.t 9) (.t 46))] (some [2, 5, 6, 7, 8, 9])) (.seq (.drw [(.op (some 47) none (.fad 1 (.t 6)), []), (.op (some 48) none (.load1 (.t 47)), []), (.op (some 49) none (.fad 0 (.t 9)), []), (.op (some 50) none (.load1 (.t 49)), []), (.op (some 51) none (.fad 1 (.t 9)), []), (.op (some 52) none (.load1 (.t 51)), []), (.op (some 53) none (.mov (.t 5)), []), (.op (some 54) none (.fad 2 (.t 9)), []), (.op (some 55) none (.load1 (.t 54)), []), (.op (some 56) none (.bin .mul (.t 53) (.t 55)), []), (.call (some 57) none 48 [(.t 50), (.t 52), (.t 56)], []), (.op (some 58) none (.bsl true 3 1 [(.i .i64 0), (.i .i64 0), (.i .i64 0)] [(0, 3, (.t 57))]), []), (.op (some 59) none (.app 3 24 (.t 48) (.t 58)), []), (.op (some 60) none (.fad 1 (.t 6)), []), (.op none none (.store1 (.t 60) (.t 59)), [])] (some [2, 5, 6, 7, 8, 9])) (.drw [(.op (some 61) none (.fad 1 (.t 7)), []), (.op (some 62) none (.load1 (.t 61)), []), (.op (some 63) none (.fad 1 (.t 9)), []), (.op (some 64) none (.load1 (.t 63)), []), (.op (some 65) none (.fad 0 (.t 9)), []), (.op (some 66) none (.load1 (.t 65)), []), (.op (some 67) none (.fad 2 (.t 9)), []), (.op (some 68) none (.load1 (.t 67)), []), (.call (some 69) none 48 [(.t 64), (.t 66), (.t 68)], []), (.op (some 70) none (.bsl true 3 1 [(.i .i64 0), (.i .i64 0), (.i .i64 0)] [(0, 3, (.t 69))]), []), (.op (some 71) none (.app 3 24 (.t 62) (.t 70)), []), (.op (some 72) none (.fad 1 (.t 7)), []), (.op none none (.store1 (.t 72) (.t 71)), [])] (some [2, 5, 6, 7, 8]))))) (.reg [.op (some 40) none (.mov (.t 8)), .op (some 41) none (.bin .add (.t 40) (.c (.i .i64 1))), .op (some 8) none (.mov (.t 41))] (some [2, 5, 6, 7, 8]))))
def ic13_1 : IC := (.seq (.seq (.reg [.op (some 126) none (.mov (.t 18)), .op (some 127) none (.mov (.t 14)), .op (some 128) none (.len (.t 127)), .op (some 129) none (.bin .lss (.t 126) (.t 128))] (some [6, 10, 14, 16, 18, 129])) (.cond (.t 129) .skip (.exit 2))) (.seq (.block 3 (.seq (.drw [(.op (some 132) none (.mov (.t 14)), []), (.op (some 133) none (.mov (.t 18)), []), (.op (some 134) none (.ixs 1 (.t 132) (.t 133)), []), (.op (some 135) none (.load1 (.t 134)), []), (.op (some 136) none (.mov (.t 16)), []), (.op (some 137) none (.mov (.t 18)), []), (.op (some 138) none (.ixs 1 (.t 136) (.t 137)), []), (.op (some 139) none (.load1 (.t 138)), []), (.op (some 140) none (.neg (.t 139)), []), (.op (some 141) none (.bin .neq (.t 135) (.t 140)), [])] (some [6, 10, 14, 16, 18, 141])) (.cond (.t 141) (.seq (.reg [.op (some 4) none (.mov (.c (.b false)))] (some [4])) .ret) .skip))) (.reg [.op (some 130) none (.mov (.t 18)), .op (some 131) none (.bin .add (.t 130) (.c (.i .i64 1))), .op (some 18) none (.mov (.t 131))] (some [6, 10, 14, 16, 18]))))
def ic13 : IC := (.seq (.reg [.op (some 2) none (.box (.t 0)), .op (some 4) none (.mov (.c (.b false)))] (some [1, 2])) (.seq (.seq (.reg [.op (some 21) none (.loadA 2 (.t 2)), .call (some 22) none 45 [(.t 21)], .op (some 23) none (.not (.t 22))] (some [1, 2, 23])) (.cond (.t 23) (.seq (.reg [.call (some 24) none 18 [], .op (some 4) none (.mov (.t 24))] (some [4])) .ret) .skip)) (.seq (.reg [.op (some 25) none (.mov (.t 1)), .op (some 26) none (.conv .i64 (.t 25)), .op (some 27) none (.bin .rem (.t 26) (.c (.i .i64 20))), .op (some 28) none (.bin .add (.c (.i .i64 1)) (.t 27)), .op (some 5) none (.mov (.t 28))] (some [2, 5])) (.seq (.alt [[(.op (some 29) none (.fad 0 (.t 2)), [6, 7]), (.op (some 30) none (.load1 (.t 29)), [6, 7]), (.call (some 31) none 49 [(.t 30), (.c (.ss [] 0 true))], [6, 7]), (.op (some 32) none (.fad 0 (.t 2)), [6, 7]), (.op (some 33) none (.load1 (.t 32)), [6, 7]), (.call (some 34) none 49 [(.t 33), (.c (.ss [] 0 true))], [6, 7]), (.op (some 6) none (.alloc [(.i .i64 0), (.ss [] 0 true)]), []), (.op (some 7) none (.alloc [(.i .i64 0), (.ss [] 0 true)]), []), (.op none none (.storeA 2 (.t 6) (.t 31)), []), (.op none none (.storeA 2 (.t 7) (.t 34)), [])], [(.op (some 29) none (.fad 0 (.t 2)), [6, 7]), (.op (some 30) none (.load1 (.t 29)), [6, 7]), (.call (some 31) none 49 [(.t 30), (.c (.ss [] 0 true))], [6, 7]), (.op (some 32) none (.fad 0 (.t 2)), [6, 7]), (.op (some 33) none (.load1 (.t 32)), [6, 7]), (.call (some 34) none 49 [(.t 33), (.c (.ss [] 0 true))], [6, 7]), (.op (some 7) none (.alloc [(.i .i64 0), (.ss [] 0 true)]), []), (.op (some 6) none (.alloc [(.i .i64 0), (.ss [] 0 true)]), []), (.op none none (.storeA 2 (.t 6) (.t 31)), []), (.op none none (.storeA 2 (.t 7) (.t 34)), [])]] (some [2, 5, 6, 7])) (.seq (.seq (.reg [.op (some 8) none (.mov (.c (.i .i64 0)))] (some [2, 5, 6, 7, 8])) (.block 0 (.loop (some [2, 5, 6, 7, 8]) ic13_0))) (.seq (.reg [.op (some 74) none (.loadA 2 (.t 2)), .call (some 75) none 26 [(.t 74)], .op (some 73) none (.mov (.t 75)), .op (some 76) none (.ext 0 (.t 73)), .op (some 77) none (.ext 1 (.t 73)), .op (some 10) none (.mov (.t 76)), .op (some 11) none (.mov (.t 77))] (some [2, 6, 7, 10, 11])) (.seq (.reg [.op (some 79) none (.loadA 2 (.t 7)), .call (some 80) none 26 [(.t 79)], .op (some 78) none (.mov (.t 80)), .op (some 81) none (.ext 0 (.t 78)), .op (some 82) none (.ext 1 (.t 78)), .op (some 12) none (.mov (.t 81)), .op (some 13) none (.mov (.t 82))] (some [2, 6, 7, 10, 11, 12, 13])) (.seq (.reg [.op (some 84) none (.loadA 2 (.t 2)), .call (some 85) none 19 [(.t 84)], .op (some 83) none (.mov (.t 85)), .op (some 86) none (.ext 0 (.t 83)), .op (some 87) none (.ext 1 (.t 83)), .op (some 14) none (.mov (.t 86)), .op (some 15) none (.mov (.t 87))] (some [2, 6, 7, 10, 11, 12, 13, 14, 15])) (.seq (.reg [.op (some 89) none (.loadA 2 (.t 7)), .call (some 90) none 19 [(.t 89)], .op (some 88) none (.mov (.t 90)), .op (some 91) none (.ext 0 (.t 88)), .op (some 92) none (.ext 1 (.t 88)), .op (some 16) none (.mov (.t 91)), .op (some 17) none (.mov (.t 92))] (some [2, 6, 10, 11, 12, 13, 14, 15, 16, 17])) (.seq (.seq (.reg [.op (some 93) none (.mov (.t 11)), .op (some 94) none (.bin .neq (.t 93) (.c (.i .i64 0))), .op (some 95) none (.mov (.t 94)), .op (some 96) (some (95, false)) (.mov (.t 13)), .op (some 97) (some (95, false)) (.bin .neq (.t 96) (.c (.i .i64 0))), .op (some 98) none (.pick (.t 95) (.c (.b true)) (.t 97)), .op (some 99) none (.mov (.t 98)), .op (some 100) (some (99, false)) (.mov (.t 15)), .op (some 101) (some (99, false)) (.bin .neq (.t 100) (.c (.i .i64 0))), .op (some 102) none (.pick (.t 99) (.c (.b true)) (.t 101)), .op (some 103) none (.mov (.t 102)), .op (some 104) (some (103, false)) (.mov (.t 17)), .op (some 105) (some (103, false)) (.bin .neq (.t 104) (.c (.i .i64 0))), .op (some 106) none (.pick (.t 103) (.c (.b true)) (.t 105)), .op (some 107) none (.mov (.t 106)), .op (some 108) (some (107, false)) (.mov (.t 10)), .op (some 109) (some (107, false)) (.mov (.t 12)), .op (some 110) (some (107, false)) (.bin .neq (.t 108) (.t 109)), .op (some 111) none (.pick (.t 107) (.c (.b true)) (.t 110)), .op (some 112) none (.mov (.t 111)), .op (some 113) (some (112, false)) (.mov (.t 14)), .op (some 114) (some (112, false)) (.len (.t 113)), .op (some 115) (some (112, false)) (.fad 0 (.t 2)), .op (some 116) (some (112, false)) (.load1 (.t 115)), .op (some 117) (some (112, false)) (.bin .neq (.t 114) (.t 116)), .op (some 118) none (.pick (.t 112) (.c (.b true)) (.t 117)), .op (some 119) none (.mov (.t 118)), .op (some 120) (some (119, false)) (.mov (.t 16)), .op (some 121) (some (119, false)) (.len (.t 120)), .op (some 122) (some (119, false)) (.fad 0 (.t 2)), .op (some 123) (some (119, false)) (.load1 (.t 122)), .op (some 124) (some (119, false)) (.bin .neq (.t 121) (.t 123)), .op (some 125) none (.pick (.t 119) (.c (.b true)) (.t 124))] (some [6, 10, 14, 16, 125])) (.cond (.t 125) (.seq (.reg [.op (some 4) none (.mov (.c (.b false)))] (some [4])) .ret) .skip)) (.seq (.seq (.reg [.op (some 18) none (.mov (.c (.i .i64 0)))] (some [6, 10, 14, 16, 18])) (.block 2 (.loop (some [6, 10, 14, 16, 18]) ic13_1))) (.seq (.seq (.reg [.op (some 142) none (.loadA 2 (.t 6)), .call (some 143) none 22 [(.t 142)], .op (some 144) none (.bin .neq (.t 143) (.c (.i .i64 0)))] (some [6, 10, 144])) (.cond (.t 144) (.seq (.reg [.call (some 145) none 18 [], .op (some 4) none (.mov (.t 145))] (some [4])) .ret) .skip)) (.seq (.reg [.op (some 147) none (.loadA 2 (.t 6)), .call (some 148) none 26 [(.t 147)], .op (some 146) none (.mov (.t 148)), .op (some 149) none (.ext 0 (.t 146)), .op (some 150) none (.ext 1 (.t 146)), .op (some 19) none (.mov (.t 149)), .op (some 20) none (.mov (.t 150))] (some [10, 19, 20])) (.seq (.reg [.op (some 151) none (.mov (.t 20)), .op (some 152) none (.bin .eql (.t 151) (.c (.i .i64 0))), .op (some 153) none (.mov (.t 152)), .op (some 154) (some (153, true)) (.mov (.t 19)), .op (some 155) (some (153, true)) (.mov (.t 10)), .op (some 156) (some (153, true)) (.bin .eql (.t 154) (.t 155)), .op (some 157) none (.pick (.t 153) (.t 156) (.c (.b false))), .op (some 158) none (.mov (.t 157)), .call (some 159) (some (158, true)) 18 [], .op (some 160) none (.pick (.t 158) (.t 159) (.c (.b false))), .op (some 4) none (.mov (.t 160))] (some [4])) .ret))))))))))))))
def rs13 : List IRes := [.tmp 4]
theorem fn13 : Fn_ Try.prog 13 Try.f13 [] ic13 rs13 := ⟨by kernel_rfl, by decide, by kernel_rfl, by kernel_rfl⟩

theorem book49 {n : Int} : FSpec Try.prog 49 [.i .i64 n, .ss [] 0 true] [] (.agg [.i .i64 n, .ss [] 0 true]) [] := by
  refine fn49.spec0 mixed noIt_ok ?_
  rw [ic49]
  refine ab_seq_k fun K1 h1 => ?_
  simp
  refine h1 _ _ _ ?_
  clear h1 K1
  refine ab_seq_k fun K2 h2 => ?_
  simp
  refine h2 _ _ _ ?_
  clear h2 K2
  simp
  exact fin_of 1 (by simp [rs49])
theorem frz_Gd {σ : List O} {v : V} {n : Nat} {cs : List V} (h : Gr 3 3 σ v n cs) (hn : n ≠ 0) (hp : pureL cs = true) : frz 3 3 σ v = .ss cs n false := by
  rcases h.cases with ⟨h0, -, -⟩ | ⟨id, ver, -, hid, rfl, hs, hl⟩
  · exact absurd h0 hn
  · exact frz_row (k := 1) (n := 3) hs hid h.1 hp
theorem frzS_at {k n j : Nat} {σ : List O} {o : O} (hj : j < n) (h : σ[j]? = some o) : (frzS k n σ)[j]? = some (frzO k n σ o) := by
  unfold frzS
  rw [List.getElem?_map, List.getElem?_take, if_pos hj, h]
  rfl
theorem swapScaled {n t : Int} {D : List Db} {f : Bool} (hl : (D.length : Int) < 9223372036854775808) (ht : 0 ≤ t ∧ t < 256) :
    FSpec Try.prog 13 [bookV n D f, .i .u8 t] [] (.b true) [] := by
  refine fn13.spec0 mixed noIt_ok ?_
  rw [ic13]
  have G1 := fun σ => FSpec.frame (σ := σ) (fine45 (n := n) (D := D) (f := f) hl) (by simp) rfl
  refine ab_seq_k fun K1 h1 => ?_
  simp
  refine h1 _ _ _ ?_
  clear h1 K1
  refine ab_seq_k fun K2 h2 => ?_
  refine ab_seq_k fun K3 h3 => ?_
  simp [take_bookC]
  refine callK_of (G1 _) ?_
  simp [take_bookC]
  refine h3 _ _ _ ?_
  clear h3 K3
  by_cases hc : checkBook n D = 0
  case neg =>
    refine ab_cond_of rfl (fun _ => ?_) (fun h => by simp [fineB, hc] at h)
    refine ab_seq_k fun K4 h4 => ?_
    simp
    refine callK_of (wk _) ?_
    simp
    refine h4 _ _ _ ?_
    clear h4 K4
    simp
    exact fin_of 1 (by simp [rs13])
  refine ab_cond_of rfl (fun h => by simp [fineB, hc] at h) (fun _ => ?_)
  simp
  refine h2 _ _ _ ?_
  clear h2 K2
  obtain ⟨N, rfl, hN1, hN, hlen, hD⟩ := book_nat hc
  have hct := turn_ok hc
  have htb := topP_b (N := N) (D := D)
  have G49 := fun σ => FSpec.frame (σ := σ) (book49 (n := N)) (by simp) rfl
  have G48 := fun (a b c : Int) σ => FSpec.frame (σ := σ) (debt48 (a := a) (b := b) (c := c)) (by simp) (by simp)
  have kt : (t.tmod 20) = t % 20 := Int.tmod_eq_emod_of_nonneg ht.1
  obtain ⟨k, hk, hk1, hk2⟩ : ∃ k, 1 + t % 20 = k ∧ 1 ≤ k ∧ k ≤ 20 := ⟨_, rfl, by omega, by omega⟩
  refine ab_seq_k fun K5 h5 => ?_
  simp [wrap64 (x := t) (by omega) (by omega), kt, hk, wrap64 (x := k) (by omega) (by omega)]
  refine h5 _ _ _ ?_
  clear h5 K5
  clear hk kt
  refine ab_seq_k fun K6 h6 => ?_
  have hK : ∀ ix iy, ix ≠ iy → 1 ≤ ix → 1 ≤ iy → ix ≤ 2 → iy ≤ 2 → ∀ env σ, get env 2 = .p 0 0 0 → get env 5 = .i .i64 k → get env 6 = .p ix 0 0 → get env 7 = .p iy 0 0 → σ = [O.row 0 (bookC N D f), O.row 0 [.i .i64 N, .ss [] 0 true], O.row 0 [.i .i64 N, .ss [] 0 true]] → K6 (some 0) env σ := by
    intro ix iy hne hx1 hy1 hx2 hy2 env σ w2 w5 w6 w7 hσ
    refine h6 _ _ _ ?_
    clear h6 K6
    have b0 : σ[0]? = some (.row 0 (bookC N D f)) := by rw [hσ]; rfl
    have bx : σ[ix]? = some (.row 0 [.i .i64 N, .ss [] 0 true]) := by
      have : ix = 1 ∨ ix = 2 := by omega
      rcases this with rfl | rfl <;> rw [hσ] <;> rfl
    have bY : σ[iy]? = some (.row 0 [.i .i64 N, .ss [] 0 true]) := by
      have : iy = 1 ∨ iy = 2 := by omega
      rcases this with rfl | rfl <;> rw [hσ] <;> rfl
    clear hσ
    refine ab_seq_k fun K7 h7 => ?_
    refine ab_seq_k fun K8 h8 => ?_
    simp [w2, w5, w6, w7]
    refine h8 _ _ _ ?_
    clear h8 K8
    refine ab_block_k fun K9 h9 => ?_
    refine ab_loop_k (fun m env σ => ∃ i : Nat, i + m = D.length ∧ env = [(2, .p 0 0 0), (5, .i .i64 k), (6, .p ix 0 0), (7, .p iy 0 0), (8, .i .i64 i)] ∧ σ[0]? = some (.row 0 (bookC N D f)) ∧
      ((i < D.length ∧ ∃ vx vy, σ[ix]? = some (.row 0 [.i .i64 N, vx]) ∧ σ[iy]? = some (.row 0 [.i .i64 N, vy]) ∧ Gr 3 3 σ vx i (lsD (timesD k (D.take i))) ∧ Gr 3 3 σ vy i (lsD (turnD (D.take i))) ∧ Dj vx vy ∧ 3 ≤ σ.length) ∨
       (i = D.length ∧ ∃ fx fy, σ[ix]? = some (.row 0 [.i .i64 N, slD (timesD k D) fx]) ∧ σ[iy]? = some (.row 0 [.i .i64 N, slD (turnD D) fy])))) D.length ⟨0, by omega, by simp [w2, w5, w6, w7], b0, ?_⟩ ?_
    · by_cases h0 : D.length = 0
      · have hD0 : D = [] := List.length_eq_zero_iff.1 h0
        subst hD0
        exact .inr ⟨rfl, true, true, bx, bY⟩
      · have hσl : 3 ≤ σ.length := by
          have h1 := (List.getElem?_eq_some_iff.1 bx).1
          have h2 := (List.getElem?_eq_some_iff.1 bY).1
          omega
        exact .inl ⟨by omega, .ss [] 0 true, .ss [] 0 true, bx, bY, by simpa [timesD, lsD] using Gr.nil, by simpa [turnD, lsD] using Gr.nil, fun j h => (by cases h), hσl⟩
    clear b0 bx bY w2 w5 w6 w7
    rintro m env σ ⟨i, hi, rfl, s0, hcase⟩ K10 h10
    obtain ⟨hs0, s0'⟩ := List.getElem?_eq_some_iff.1 s0
    rw [ic13_0]
    refine ab_seq_k fun K11 h11 => ?_
    refine ab_seq_k fun K12 h12 => ?_
    simp [s0, s0', get1_bookC]
    refine h12 _ _ _ ?_
    clear h12 K12
    refine ab_cond_of rfl (fun hc2 => ?_) (fun hc2 => ?_)
    · have hil : i < D.length := by simpa using hc2
      obtain ⟨-, vx, vy, sx, sy, hvx, hvy, hdj, hσ3⟩ := hcase.resolve_right (fun h => by omega)
      obtain ⟨d, hd⟩ : ∃ d, D[i]? = some d := ⟨_, List.getElem?_eq_getElem hil⟩
      obtain ⟨z1, z2, z3, z4⟩ := lsD_get hd
      have hdm := hD d (List.mem_of_getElem? hd)
      have hkm : 0 ≤ k * d.2.2 ∧ k * d.2.2 ≤ 20000000 := by
        have a := Int.mul_nonneg (show 0 ≤ k by omega) (show 0 ≤ d.2.2 by omega)
        have b := Int.mul_le_mul hk2 hdm.2.2.2.2 (by omega) (by decide)
        omega
      have hstx := timesD_take (k := k) hd
      have hsty := turnD_take hd
      simp
      refine h11 _ _ _ ?_
      clear h11 K11
      refine ab_seq_k fun K13 h13 => ?_
      refine ab_block_k fun K14 h14 => ?_
      refine ab_seq_k fun K15 h15 => ?_
      simp [s0, s0', get1_bookC, hil, z1]
      refine ⟨by omega, ?_⟩
      refine h15 _ _ _ ?_
      clear h15 K15
      have r0 := app_get (g := [O.row 0 [V.i IntKind.i64 d.fst, V.i IntKind.i64 d.snd.fst, V.i IntKind.i64 d.snd.snd]]) s0
      have rx := app_get (g := [O.row 0 [V.i IntKind.i64 d.fst, V.i IntKind.i64 d.snd.fst, V.i IntKind.i64 d.snd.snd]]) sx
      have ry := app_get (g := [O.row 0 [V.i IntKind.i64 d.fst, V.i IntKind.i64 d.snd.fst, V.i IntKind.i64 d.snd.snd]]) sy
      have rd : (σ ++ [O.row 0 [V.i IntKind.i64 d.fst, V.i IntKind.i64 d.snd.fst, V.i IntKind.i64 d.snd.snd]])[σ.length]? = some (O.row 0 [V.i IntKind.i64 d.fst, V.i IntKind.i64 d.snd.fst, V.i IntKind.i64 d.snd.snd]) := by simp
      have rvx := hvx.app (g := [O.row 0 [V.i IntKind.i64 d.fst, V.i IntKind.i64 d.snd.fst, V.i IntKind.i64 d.snd.snd]])
      have rvy := hvy.app (g := [O.row 0 [V.i IntKind.i64 d.fst, V.i IntKind.i64 d.snd.fst, V.i IntKind.i64 d.snd.snd]])
      have hidx : idOf vx ≠ some σ.length := fun h => by have := (hvx.id_ge h).2; omega
      have hidy : idOf vy ≠ some σ.length := fun h => by have := (hvy.id_ge h).2; omega
      generalize σ ++ [O.row 0 [V.i IntKind.i64 d.fst, V.i IntKind.i64 d.snd.fst, V.i IntKind.i64 d.snd.snd]] = σ1 at *
      clear hcase s0' hs0 s0 sx sy hvx hvy
      generalize hdi : σ.length = di at *
      obtain ⟨r0l, r0'⟩ := List.getElem?_eq_some_iff.1 r0
      obtain ⟨rxl, rx'⟩ := List.getElem?_eq_some_iff.1 rx
      obtain ⟨rdl, rd'⟩ := List.getElem?_eq_some_iff.1 rd
      have hσ13 : 3 ≤ σ1.length := by omega
      refine ab_seq_k fun K16 h16 => ?_
      simp [abDs_consU, drU, recheck_cons, recheck_nil, rcK, IS.dst, rx, rx', rd, rd', wrap64 (x := k * d.2.2) (by omega) (by omega)]
      refine callK_of (G48 _ _ _ _) ?_
      simp [abDs_consU, drU, recheck_cons, recheck_nil, rcK, IS.dst]
      refine appG rvx hσ13 (by omega) (by simp) rfl ?_
      intro vx' σ2 gx gg
      have t0 := gg.lt rvx (j := 0) (by omega) hσ13
      have tx := gg.lt rvx (j := ix) (by omega) hσ13
      have ty := gg.lt rvx (j := iy) (by omega) hσ13
      rw [r0] at t0
      rw [rx] at tx
      rw [ry] at ty
      have td := gg.get hidx rd
      have tvy := gg.other rvy hdj
      have hdj2 := gg.dj rvy hdj
      have hσ23 : 3 ≤ σ2.length := by have := gg.len; omega
      clear gg rvx rvy r0 rx ry rd r0' rx' rd' r0l rxl rdl hσ13
      obtain ⟨txl, tx'⟩ := List.getElem?_eq_some_iff.1 tx
      simp [abDs_consU, drU, recheck_cons, recheck_nil, rcK, IS.dst, tx, tx']
      refine ⟨gx.one, h16 _ _ _ ?_⟩
      clear h16 K16
      have u0 : (σ2.set ix (O.row 0 [.i .i64 N, vx']))[0]? = some (.row 0 (bookC N D f)) := by rw [List.getElem?_set_ne (by omega)]; exact t0
      have ux : (σ2.set ix (O.row 0 [.i .i64 N, vx']))[ix]? = some (O.row 0 [.i .i64 N, vx']) := List.getElem?_set_self txl
      have uy : (σ2.set ix (O.row 0 [.i .i64 N, vx']))[iy]? = some (O.row 0 [.i .i64 N, vy]) := by rw [List.getElem?_set_ne hne]; exact ty
      have ud := td
      rw [← List.getElem?_set_ne (i := ix) (a := O.row 0 [.i .i64 N, vx']) (by omega)] at ud
      have uvx := gx.setlt (i := ix) (o := O.row 0 [.i .i64 N, vx']) (by omega)
      have uvy := tvy.setlt (i := ix) (o := O.row 0 [.i .i64 N, vx']) (by omega)
      have hl3 : 3 ≤ (σ2.set ix (O.row 0 [.i .i64 N, vx'])).length := by rw [List.length_set]; exact hσ23
      generalize σ2.set ix (O.row 0 [.i .i64 N, vx']) = U at *
      clear t0 tx ty td tvy gx hσ23 txl tx'
      obtain ⟨uyl, uy'⟩ := List.getElem?_eq_some_iff.1 uy
      obtain ⟨udl, ud'⟩ := List.getElem?_eq_some_iff.1 ud
      simp [abDs_consU, drU, recheck_cons, recheck_nil, rcK, IS.dst, uy, uy', ud, ud']
      refine callK_of (G48 _ _ _ _) ?_
      simp [abDs_consU, drU, recheck_cons, recheck_nil, rcK, IS.dst]
      refine appG uvy hl3 (by omega) (by simp) rfl ?_
      intro vy' σ3 gy gg
      have t0 := gg.lt uvy (j := 0) (by omega) hl3
      have tx := gg.lt uvy (j := ix) (by omega) hl3
      have ty := gg.lt uvy (j := iy) (by omega) hl3
      rw [u0] at t0
      rw [ux] at tx
      rw [uy] at ty
      have tvx := gg.other uvx hdj2.symm
      have hdj3 := gg.dj uvx hdj2.symm
      have hσ33 : 3 ≤ σ3.length := by have := gg.len; omega
      clear gg uvx uvy u0 ux uy ud uy' ud' uyl udl hl3
      obtain ⟨tyl, ty'⟩ := List.getElem?_eq_some_iff.1 ty
      simp [abDs_consU, drU, recheck_cons, recheck_nil, rcK, IS.dst, ty, ty']
      refine ⟨gy.one, h14 _ _ _ ?_⟩
      refine h13 _ _ _ ?_
      simp [wrap64 (x := (i : Int) + 1) (by omega) (by omega)]
      have u0 : (σ3.set iy (O.row 0 [.i .i64 N, vy']))[0]? = some (.row 0 (bookC N D f)) := by rw [List.getElem?_set_ne (by omega)]; exact t0
      have uy : (σ3.set iy (O.row 0 [.i .i64 N, vy']))[iy]? = some (O.row 0 [.i .i64 N, vy']) := List.getElem?_set_self tyl
      have ux : (σ3.set iy (O.row 0 [.i .i64 N, vy']))[ix]? = some (O.row 0 [.i .i64 N, vx']) := by rw [List.getElem?_set_ne (Ne.symm hne)]; exact tx
      have uvy := gy.setlt (i := iy) (o := O.row 0 [.i .i64 N, vy']) (by omega)
      have uvx := tvx.setlt (i := iy) (o := O.row 0 [.i .i64 N, vy']) (by omega)
      have hl3 : 3 ≤ (σ3.set iy (O.row 0 [.i .i64 N, vy'])).length := by rw [List.length_set]; exact hσ33
      generalize σ3.set iy (O.row 0 [.i .i64 N, vy']) = U at *
      clear t0 tx ty tvx gy hσ33 tyl ty'
      have ex : lsD (timesD k (D.take i)) ++ [V.i IntKind.i64 d.fst, V.i IntKind.i64 d.snd.fst, V.i IntKind.i64 (k * d.snd.snd)] = lsD (timesD k (D.take (i + 1))) := by rw [hstx, lsD_append]; rfl
      have ey : lsD (turnD (D.take i)) ++ [V.i IntKind.i64 d.snd.fst, V.i IntKind.i64 d.fst, V.i IntKind.i64 d.snd.snd] = lsD (turnD (D.take (i + 1))) := by rw [hsty, lsD_append]; rfl
      rw [ex] at uvx
      rw [ey] at uvy
      by_cases hend : i + 1 < D.length
      · exact h10 _ _ _ (again (m - 1) (by omega) ⟨i + 1, by omega, by simp, u0, .inl ⟨hend, vx', vy', ux, uy, uvx, uvy, hdj3.symm, hl3⟩⟩)
      · have hil2 : i + 1 = D.length := by omega
        rw [hil2, List.take_length] at uvx uvy
        have fx := frz_Gd uvx (by omega) (by simp)
        have fy := frz_Gd uvy (by omega) (by simp)
        have v0 := frzS_at (k := 3) (n := 3) (by omega) u0
        have vx3 := frzS_at (k := 3) (n := 3) (by omega) ux
        have vy3 := frzS_at (k := 3) (n := 3) (by omega) uy
        refine h10 _ _ _ (againF (m - 1) 3 3 (by omega) (by omega) hl3 ⟨i + 1, by omega, ?_, ?_, .inr ⟨hil2, false, false, ?_, ?_⟩⟩)
        · simp [frzE, show ix < 3 by omega, show iy < 3 by omega]
        · rw [v0, frzO_pure (by simp)]
        · rw [vx3]
          show some (O.row 0 [frz 3 3 U (.i .i64 N), frz 3 3 U vx']) = _
          rw [fx, frz_pure rfl, ← timesD_len (k := k)]
        · rw [vy3]
          show some (O.row 0 [frz 3 3 U (.i .i64 N), frz 3 3 U vy']) = _
          rw [fy, frz_pure rfl, ← turnD_len]
    · have hil : i = D.length := by simp at hc2; omega
      obtain ⟨-, fx, fy, sx, sy⟩ := hcase.resolve_left (fun h => by omega)
      obtain ⟨sxl, sx'⟩ := List.getElem?_eq_some_iff.1 sx
      obtain ⟨syl, sy'⟩ := List.getElem?_eq_some_iff.1 sy
      simp
      refine h9 _ _ _ ?_
      refine h7 _ _ _ ?_
      clear h7 h9 h10 h11 K7 K9 K10 K11 hcase hc2
      have F1 := fun σ => FSpec.frame (σ := σ) (fewest26 (n := N) (D := D) (f := f) hl) (by simp) rfl
      have F2 := fun σ => FSpec.frame (σ := σ) (fewest26 (n := N) (D := turnD D) (f := fy) (by rw [turnD_len]; exact hl)) (by simp) rfl
      have F3 := fun σ => FSpec.frame (σ := σ) (prgBal (n := N) (D := D) (f := f) hl) (by simp) balP_pure
      have F4 := fun σ => FSpec.frame (σ := σ) (prgBal (n := N) (D := turnD D) (f := fy) (by rw [turnD_len]; exact hl)) (by simp) balP_pure
      have F5 := fun σ => FSpec.frame (σ := σ) (refBook (n := N) (D := timesD k D) (f := fx) (by rw [timesD_len]; exact hl)) (by simp) rfl
      have F6 := fun σ => FSpec.frame (σ := σ) (fewest26 (n := N) (D := timesD k D) (f := fx) (by rw [timesD_len]; exact hl)) (by simp) rfl
      have hb1 : balP N D = .tup [sl (rowF N (balF D)) false, .i .i64 0] := by unfold balP; rw [if_pos hc, Int.toNat_natCast]
      have hb2 : balP N (turnD D) = .tup [sl (rowF N (balF (turnD D))) false, .i .i64 0] := by unfold balP; rw [if_pos hct, Int.toNat_natCast]
      rw [fewP_ok hc] at F1
      rw [fewP_ok hct, top_turn] at F2
      rw [hb1] at F3
      rw [hb2] at F4
      simp only [pairV] at F1 F2
      have hneg := fun i => balF_turn (D := D) (i := i)
      have hF := bal_small hD hlen
      replace F2 : ∀ σ, FSpec Try.prog 26 [V.agg [.i .i64 N, slD (turnD D) fy]] σ (.tup [.i .i64 ((N : Int) - topP N D), .i .i64 0]) σ := F2
      replace F4 : ∀ σ, FSpec Try.prog 19 [V.agg [.i .i64 N, slD (turnD D) fy]] σ (.tup [sl (rowF N (balF (turnD D))) false, .i .i64 0]) σ := F4
      replace F5 : ∀ σ, FSpec Try.prog 22 [V.agg [.i .i64 N, slD (timesD k D) fx]] σ (.i .i64 (checkBook N (timesD k D))) σ := F5
      replace F6 : ∀ σ, FSpec Try.prog 26 [V.agg [.i .i64 N, slD (timesD k D) fx]] σ (pairV (fewP N (timesD k D))) σ := F6
      refine ab_seq_k fun K20 h20 => ?_
      simp [s0, s0', take_bookC]
      refine callK_of (F1 _) ?_
      simp [s0, s0', take_bookC]
      refine h20 _ _ _ ?_
      clear h20 K20
      refine ab_seq_k fun K21 h21 => ?_
      simp [sy, sy']
      refine callK_of (F2 _) ?_
      simp [sy, sy']
      refine h21 _ _ _ ?_
      clear h21 K21
      refine ab_seq_k fun K22 h22 => ?_
      simp [s0, s0', take_bookC]
      refine callK_of (F3 _) ?_
      simp [s0, s0', take_bookC]
      refine h22 _ _ _ ?_
      clear h22 K22
      refine ab_seq_k fun K23 h23 => ?_
      simp [sy, sy']
      refine callK_of (F4 _) ?_
      simp [sy, sy']
      refine h23 _ _ _ ?_
      clear h23 K23
      have htt : topP N (timesD k D) = topP N D := top_times hk1
      have hnw : ∀ j, -2000000000 ≤ balF D j ∧ balF D j ≤ 2000000000 := hF
      generalize balF D = F at *
      generalize balF (turnD D) = F' at *
      generalize topP N D = T at *
      refine ab_seq_k fun K24 h24 => ?_
      refine ab_seq_k fun K25 h25 => ?_
      simp [s0, s0', get0_bookC]
      refine h25 _ _ _ ?_
      refine ab_cond_of rfl (fun h => by simp at h) (fun _ => ?_)
      simp
      refine h24 _ _ _ ?_
      clear h24 h25 K24 K25
      refine ab_seq_k fun K26 h26 => ?_
      refine ab_seq_k fun K27 h27 => ?_
      simp
      refine h27 _ _ _ ?_
      clear h27 K27
      refine ab_block_k fun K28 h28 => ?_
      refine ab_loop_k (fun m env σ' => ∃ i : Nat, i + m = N ∧ env = [(6, .p ix 0 0), (10, .i .i64 ((N : Int) - T)), (14, sl (rowF N F) false), (16, sl (rowF N F') false), (18, .i .i64 i)] ∧ σ' = σ) N ⟨0, by omega, by simp, rfl⟩ ?_
      rintro m2 env σ' ⟨i, hi, rfl, rfl⟩ K29 h29
      rw [ic13_1]
      refine ab_seq_k fun K30 h30 => ?_
      refine ab_seq_k fun K31 h31 => ?_
      simp
      refine h31 _ _ _ ?_
      clear h31 K31
      refine ab_cond_of rfl (fun hc3 => ?_) (fun hc3 => ?_)
      · have hiN : i < N := by simpa using hc3
        have hbi := hnw i
        have hni := hneg i
        simp
        refine h30 _ _ _ ?_
        clear h30 K30
        refine ab_seq_k fun K32 h32 => ?_
        refine ab_block_k fun K33 h33 => ?_
        refine ab_seq_k fun K34 h34 => ?_
        simp [abDs_consU, drU, recheck_cons, recheck_nil, rcK, IS.dst, hiN, rowF_get hiN, hni, wrap64 (x := F i) (by omega) (by omega)]
        refine h34 _ _ _ ?_
        refine ab_cond_of rfl (fun h => by simp at h) (fun _ => ?_)
        simp
        refine h33 _ _ _ ?_
        refine h32 _ _ _ ?_
        simp [wrap64 (x := (i : Int) + 1) (by omega) (by omega)]
        exact h29 _ _ _ (again (m2 - 1) (by omega) ⟨i + 1, by omega, by simp, rfl⟩)
      simp
      refine h28 _ _ _ ?_
      refine h26 _ _ _ ?_
      clear h26 h28 h29 h30 hc3
      refine ab_seq_k fun K40 h40 => ?_
      refine ab_seq_k fun K41 h41 => ?_
      simp [sx, sx']
      refine callK_of (F5 _) ?_
      simp [sx, sx']
      refine h41 _ _ _ ?_
      clear h41 K41
      by_cases hcx : checkBook N (timesD k D) = 0
      · refine ab_cond_of rfl (fun h => by simp [hcx] at h) (fun _ => ?_)
        simp
        refine h40 _ _ _ ?_
        rw [fewP_ok hcx] at F6
        simp only [pairV] at F6
        rw [htt] at F6
        refine ab_seq_k fun K43 h43 => ?_
        simp [sx, sx']
        refine callK_of (F6 _) ?_
        simp [sx, sx']
        refine h43 _ _ _ ?_
        clear h43 K43
        refine ab_seq_k fun K44 h44 => ?_
        simp
        refine callK_of (wk _) ?_
        simp
        refine h44 _ _ _ ?_
        clear h44 K44
        simp
        exact fin_of 1 (by simp [rs13])
      · refine ab_cond_of rfl (fun _ => ?_) (fun h => by simp [hcx] at h)
        refine ab_seq_k fun K42 h42 => ?_
        simp
        refine callK_of (wk _) ?_
        simp
        refine h42 _ _ _ ?_
        clear h42 K42
        simp
        exact fin_of 1 (by simp [rs13])
  clear h6
  simp only [ab_alt_two, ab_alt_one]
  refine ⟨?_, ?_⟩
  · simp [abDs_consU, drU, recheck_cons, recheck_nil, rcK, IS.dst, get0_bookC]
    refine callK_of (G49 _) ?_
    simp [abDs_consU, drU, recheck_cons, recheck_nil, rcK, IS.dst, get0_bookC]
    refine callK_of (G49 _) ?_
    simp [abDs_consU, drU, recheck_cons, recheck_nil, rcK, IS.dst, get0_bookC]
    refine ⟨⟨callK_of (G49 _) (by simp [rcK]), callK_of (G49 _) (by simp [rcK])⟩, ⟨callK_of (G49 _) (by simp [rcK]), callK_of (G49 _) (by simp [rcK])⟩, ?_⟩
    exact hK 1 2 (by omega) (by omega) (by omega) (by omega) (by omega) _ _ rfl rfl rfl rfl rfl
  · simp [abDs_consU, drU, recheck_cons, recheck_nil, rcK, IS.dst, get0_bookC]
    refine callK_of (G49 _) ?_
    simp [abDs_consU, drU, recheck_cons, recheck_nil, rcK, IS.dst, get0_bookC]
    refine callK_of (G49 _) ?_
    simp [abDs_consU, drU, recheck_cons, recheck_nil, rcK, IS.dst, get0_bookC]
    refine ⟨⟨callK_of (G49 _) (by simp [rcK]), callK_of (G49 _) (by simp [rcK])⟩, ⟨callK_of (G49 _) (by simp [rcK]), callK_of (G49 _) (by simp [rcK])⟩, ?_⟩
    exact hK 2 1 (by omega) (by omega) (by omega) (by omega) (by omega) _ _ rfl rfl rfl rfl rfl
end Go.Ab
