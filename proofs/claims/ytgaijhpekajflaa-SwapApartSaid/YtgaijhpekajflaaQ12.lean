/- The law of function 12; its control form is made by program. -/
import Derived.Test.YtgaijhpekajflaaUG
set_option linter.unusedVariables false
set_option linter.unusedSimpArgs false
set_option maxHeartbeats 4000000
set_option maxRecDepth 100000
namespace Go.Ab
open Go Go.Proofs

def ic12_0 : IC := (.seq (.seq (.reg [.op (some 41) none (.mov (.t 12)), .op (some 42) none (.mov (.t 7)), .op (some 43) none (.len (.t 42)), .op (some 44) none (.bin .lss (.t 41) (.t 43))] (some [1, 2, 3, 7, 11, 12, 44])) (.cond (.t 44) .skip (.exit 0))) (.seq (.block 1 (.seq (.reg [.op (some 47) none (.mov (.t 1)), .op (some 48) none (.mov (.t 12)), .op (some 49) none (.bin .shr (.t 47) (.t 48)), .op (some 50) none (.bin .and (.t 49) (.c (.i .u16 1))), .op (some 51) none (.bin .eql (.t 50) (.c (.i .u16 1)))] (some [1, 2, 3, 7, 11, 12, 51])) (.cond (.t 51) (.reg [.op (some 52) none (.mov (.t 11)), .op (some 53) none (.mov (.t 7)), .op (some 54) none (.mov (.t 12)), .op (some 55) none (.ixs 1 (.t 53) (.t 54)), .op (some 56) none (.load1 (.t 55)), .op (some 57) none (.bin .add (.t 52) (.t 56)), .op (some 11) none (.mov (.t 57))] (some [1, 2, 3, 7, 11, 12])) .skip))) (.reg [.op (some 45) none (.mov (.t 12)), .op (some 46) none (.bin .add (.t 45) (.c (.i .i64 1))), .op (some 12) none (.mov (.t 46))] (some [1, 2, 3, 7, 11, 12]))))
def ic12 : IC := (.seq (.reg [.op (some 3) none (.box (.t 0)), .op (some 6) none (.mov (.c (.b false)))] (some [1, 2, 3])) (.seq (.seq (.reg [.op (some 22) none (.loadA 2 (.t 3)), .call (some 23) none 45 [(.t 22)], .op (some 24) none (.not (.t 23))] (some [1, 2, 3, 24])) (.cond (.t 24) (.seq (.reg [.call (some 25) none 18 [], .op (some 6) none (.mov (.t 25))] (some [6])) .ret) .skip)) (.seq (.reg [.op (some 27) none (.loadA 2 (.t 3)), .call (some 28) none 31 [(.t 27)], .op (some 26) none (.mov (.t 28)), .op (some 29) none (.ext 0 (.t 26)), .op (some 30) none (.ext 1 (.t 26)), .op (some 7) none (.mov (.t 29)), .op (some 8) none (.mov (.t 30))] (some [1, 2, 3, 7, 8])) (.seq (.seq (.reg [.op (some 31) none (.mov (.t 8)), .op (some 32) none (.bin .neq (.t 31) (.c (.i .i64 0)))] (some [1, 2, 3, 7, 32])) (.cond (.t 32) (.seq (.reg [.op (some 6) none (.mov (.c (.b false)))] (some [6])) .ret) .skip)) (.seq (.seq (.reg [.op (some 34) none (.loadA 2 (.t 3)), .op (some 35) none (.mov (.t 7)), .call (some 36) none 30 [(.t 34), (.t 35)], .op (some 33) none (.mov (.t 36)), .op (some 37) none (.ext 0 (.t 33)), .op (some 38) none (.ext 1 (.t 33)), .op (some 9) none (.mov (.t 37)), .op (some 10) none (.mov (.t 38))] (some [1, 2, 3, 7, 10])) (.seq (.reg [.op (some 39) none (.mov (.t 10)), .op (some 40) none (.bin .neq (.t 39) (.c (.i .i64 0)))] (some [1, 2, 3, 7, 40])) (.cond (.t 40) (.seq (.reg [.op (some 6) none (.mov (.c (.b false)))] (some [6])) .ret) .skip))) (.seq (.reg [.op (some 11) none (.mov (.c (.i .i64 0)))] (some [1, 2, 3, 7, 11])) (.seq (.seq (.reg [.op (some 12) none (.mov (.c (.i .i64 0)))] (some [1, 2, 3, 7, 11, 12])) (.block 0 (.loop (some [1, 2, 3, 7, 11, 12]) ic12_0))) (.seq (.reg [.op (some 58) none (.loadA 2 (.t 3)), .call (some 59) none 33 [(.t 58)], .op (some 13) none (.mov (.t 59))] (some [2, 3, 11, 13])) (.seq (.seq (.reg [.op (some 60) none (.mov (.t 11)), .op (some 61) none (.bin .gtr (.t 60) (.c (.i .i64 0)))] (some [2, 3, 11, 13, 61])) (.cond (.t 61) (.seq (.reg [.op (some 63) none (.loadA 2 (.t 3)), .op (some 64) none (.mov (.t 11)), .call (some 65) none 37 [(.t 63), (.t 64)], .op (some 62) none (.mov (.t 65)), .op (some 66) none (.ext 0 (.t 62)), .op (some 67) none (.ext 1 (.t 62)), .op (some 14) none (.mov (.t 66)), .op (some 15) none (.mov (.t 67))] (some [2, 3, 13, 14, 15])) (.seq (.reg [.op (some 68) none (.mov (.t 15)), .op (some 69) none (.bin .neq (.t 68) (.c (.i .i64 0))), .op (some 70) none (.mov (.t 69)), .op (some 71) (some (70, false)) (.mov (.t 14)), .op (some 72) (some (70, false)) (.bin .neq (.t 71) (.c (.i .i64 0))), .op (some 73) none (.pick (.t 70) (.c (.b true)) (.t 72))] (some [2, 3, 13, 73])) (.cond (.t 73) (.seq (.reg [.op (some 6) none (.mov (.c (.b false)))] (some [6])) .ret) .skip))) .skip)) (.seq (.reg [.op (some 75) none (.loadA 2 (.t 3)), .op (some 76) none (.mov (.t 13)), .call (some 77) none 37 [(.t 75), (.t 76)], .op (some 74) none (.mov (.t 77)), .op (some 78) none (.ext 0 (.t 74)), .op (some 79) none (.ext 1 (.t 74)), .op (some 16) none (.mov (.t 78)), .op (some 8) none (.mov (.t 79))] (some [2, 3, 8, 13, 16])) (.seq (.seq (.reg [.op (some 80) none (.mov (.t 8)), .op (some 81) none (.bin .neq (.t 80) (.c (.i .i64 0))), .op (some 82) none (.mov (.t 81)), .op (some 83) (some (82, false)) (.mov (.t 16)), .op (some 84) (some (82, false)) (.bin .neq (.t 83) (.c (.i .i64 0))), .op (some 85) none (.pick (.t 82) (.c (.b true)) (.t 84))] (some [2, 3, 13, 85])) (.cond (.t 85) (.seq (.reg [.op (some 6) none (.mov (.c (.b false)))] (some [6])) .ret) .skip)) (.seq (.reg [.op (some 86) none (.mov (.t 2)), .op (some 87) none (.conv .i64 (.t 86)), .op (some 88) none (.mov (.t 13)), .op (some 89) none (.bin .and (.t 87) (.t 88)), .op (some 17) none (.mov (.t 89))] (some [3, 13, 17])) (.seq (.seq (.reg [.op (some 90) none (.mov (.t 17)), .op (some 91) none (.bin .eql (.t 90) (.c (.i .i64 0))), .op (some 92) none (.mov (.t 91)), .op (some 93) (some (92, false)) (.mov (.t 17)), .op (some 94) (some (92, false)) (.mov (.t 13)), .op (some 95) (some (92, false)) (.bin .eql (.t 93) (.t 94)), .op (some 96) none (.pick (.t 92) (.c (.b true)) (.t 95))] (some [3, 13, 17, 96])) (.cond (.t 96) (.seq (.reg [.call (some 97) none 18 [], .op (some 6) none (.mov (.t 97))] (some [6])) .ret) .skip)) (.seq (.reg [.op (some 99) none (.loadA 2 (.t 3)), .op (some 100) none (.mov (.t 17)), .call (some 101) none 37 [(.t 99), (.t 100)], .op (some 98) none (.mov (.t 101)), .op (some 102) none (.ext 0 (.t 98)), .op (some 103) none (.ext 1 (.t 98)), .op (some 18) none (.mov (.t 102)), .op (some 19) none (.mov (.t 103))] (some [3, 13, 17, 18, 19])) (.seq (.reg [.op (some 105) none (.loadA 2 (.t 3)), .op (some 106) none (.mov (.t 13)), .op (some 107) none (.mov (.t 17)), .op (some 108) none (.bin .sub (.t 106) (.t 107)), .call (some 109) none 37 [(.t 105), (.t 108)], .op (some 104) none (.mov (.t 109)), .op (some 110) none (.ext 0 (.t 104)), .op (some 111) none (.ext 1 (.t 104)), .op (some 20) none (.mov (.t 110)), .op (some 21) none (.mov (.t 111))] (some [3, 17, 18, 19, 20, 21])) (.seq (.reg [.op (some 112) none (.mov (.t 19)), .op (some 113) none (.mov (.t 21)), .op (some 114) none (.bin .eql (.t 112) (.t 113)), .op (some 115) none (.mov (.t 114)), .op (some 116) (some (115, true)) (.mov (.t 18)), .op (some 117) (some (115, true)) (.mov (.t 20)), .op (some 118) (some (115, true)) (.bin .eql (.t 116) (.t 117)), .op (some 119) none (.pick (.t 115) (.t 118) (.c (.b false))), .op (some 120) none (.mov (.t 119)), .op (some 121) (some (120, true)) (.mov (.t 18)), .op (some 122) (some (120, true)) (.bin .geq (.t 121) (.c (.i .i64 0))), .op (some 123) none (.pick (.t 120) (.t 122) (.c (.b false))), .op (some 124) none (.mov (.t 123)), .op (some 125) (some (124, true)) (.mov (.t 19)), .op (some 126) (some (124, true)) (.bin .eql (.t 125) (.c (.i .i64 0))), .op (some 127) (some (124, true)) (.mov (.t 126)), .op (some 128) (some (127, false)) (.mov (.t 19)), .op (some 129) (some (127, false)) (.bin .eql (.t 128) (.c (.i .i64 14))), .op (some 130) (some (124, true)) (.pick (.t 127) (.c (.b true)) (.t 129)), .op (some 131) none (.pick (.t 124) (.t 130) (.c (.b false))), .op (some 132) none (.mov (.t 131)), .op (some 133) (some (132, true)) (.mov (.t 19)), .op (some 134) (some (132, true)) (.bin .eql (.t 133) (.c (.i .i64 0))), .op (some 135) (some (132, true)) (.loadA 2 (.t 3)), .op (some 136) (some (132, true)) (.mov (.t 17)), .call (some 137) (some (132, true)) 50 [(.t 135), (.t 136)], .op (some 138) (some (132, true)) (.bin .eql (.t 137) (.c (.i .i64 0))), .op (some 139) (some (132, true)) (.eqb false (.t 134) (.t 138)), .op (some 140) none (.pick (.t 132) (.t 139) (.c (.b false))), .op (some 141) none (.mov (.t 140)), .call (some 142) (some (141, true)) 18 [], .op (some 143) none (.pick (.t 141) (.t 142) (.c (.b false))), .op (some 6) none (.mov (.t 143))] (some [6])) .ret))))))))))))))))
def rs12 : List IRes := [.tmp 6]
theorem fn12 : Fn_ Try.prog 12 Try.f12 [] ic12 rs12 := ⟨by kernel_rfl, by decide, by kernel_rfl, by kernel_rfl⟩

theorem swapApart {n x y : Int} {D : List Db} {f : Bool} (hl : (D.length : Int) < 9223372036854775808) (hx : 0 ≤ x ∧ x < 65536) (hy : 0 ≤ y ∧ y < 65536) :
    FSpec Try.prog 12 [bookV n D f, .i .u16 x, .i .u16 y] [] (.b true) [] := by
  refine fn12.spec0 mixed noIt_ok ?_
  rw [ic12]
  have G1 := fun σ => FSpec.frame (σ := σ) (fine45 (n := n) (D := D) (f := f) hl) (by simp) rfl
  refine ab_seq_k fun K1 h1 => ?_
  simp
  refine h1 _ _ _ ?_
  clear h1 K1
  refine ab_seq_k fun K2 h2 => ?_
  refine ab_seq_k fun K3 h3 => ?_
  simp [take_bookC]
  refine callK_of (G1 _) ?_
  simp [take_bookC]
  refine h3 _ _ _ ?_
  clear h3 K3
  by_cases hc : checkBook n D = 0
  case neg =>
    refine ab_cond_of rfl (fun _ => ?_) (fun h => by simp [fineB, hc] at h)
    refine ab_seq_k fun K4 h4 => ?_
    simp
    refine callK_of (wk _) ?_
    simp
    refine h4 _ _ _ ?_
    clear h4 K4
    simp
    exact fin_of 1 (by simp [rs12])
  refine ab_cond_of rfl (fun h => by simp [fineB, hc] at h) (fun _ => ?_)
  simp
  refine h2 _ _ _ ?_
  clear h2 K2
  obtain ⟨N, rfl, hN1, hN, hlen, hD⟩ := book_nat hc
  have hp := pow_small hN
  obtain ⟨o, hch, -, hG31⟩ := groups31 hl hc hN1 hN hD
  have G4 := fun σ => FSpec.frame (σ := σ) (hG31 f) (by simp) (by simp)
  have hol := hch.len
  obtain ⟨hgp, hge⟩ := grp_nats (o := o)
  have G6 := fun σ => FSpec.frame (σ := σ) (checkG30 (n := N) (D := D) (P := grpL o) (f := f) (fp := false) hl (by rw [grpL_len]; omega)) (by simp) rfl
  rw [chkG_own hc hch] at G6
  simp only [pairV] at G6
  have hGe : ∀ g ∈ nats (grpL o), g < 2 ^ N ∧ evF (balF D) N g = true := fun g hg => by
    have := hch.og g (hgp.mem_iff.1 hg)
    exact ⟨this.2.1, ev_iff.2 ⟨by omega, this.2.2⟩⟩
  have hone : ∀ m, m < N → cntB m (nats (grpL o)) = 1 := fun m hm => by rw [cntB_perm hgp, hch.one m hm]; simp
  have hle1 : ∀ m, cntB m (nats (grpL o)) ≤ 1 := fun m => by
    by_cases h : m < N
    · rw [hone m h]; omega
    · rw [cntB_out (fun g hg => (hGe g hg).1) (by omega)]; omega
  have htop : ((nats (grpL o)).length : Int) = prP (balF D) N (2 ^ N - 1) := by rw [nats_len, grpL_len]; exact chain_top hch
  have hQl : (nats (grpL o)).length ≤ 10 := by rw [nats_len, grpL_len]; omega
  rw [hge] at G4 G6
  have hgl : (ofN (nats (grpL o))).length ≤ 10 := by rw [ofN_len]; exact hQl
  have hall0 : sumF (balF D) (2 ^ N - 1) N = 0 := bal_all hD rfl
  have hA := fun σ => FSpec.frame (σ := σ) (all33 (D := D) (f := f) hN rfl) (by simp) rfl
  have hS := fun (s : Nat) (hs : s < 9223372036854775808) σ => FSpec.frame (σ := σ) (sum50 (f := f) (s := s) hN hD hlen hs) (by simp) rfl
  have hap := fun (s : Nat) (h1 : 1 ≤ s) (h2 : s < 2 ^ N) (σ : List O) => FSpec.frame (σ := σ) (apart37 (n := N) (D := D) (f := f) (s := s) hl) (by simp) rfl
  have hape := fun (s : Nat) (h1 : 1 ≤ s) (h2 : s < 2 ^ N) => apP_at hc h1 h2
  have hnn := fun (s : Nat) (hs : s < 2 ^ N) (he : sumF (balF D) s N = 0) => ap_nn hN hs hall0 he
  clear hG31 hch hgp
  have hape0 : prP (balF D) N (2 ^ N - 1) - prP (balF D) N (2 ^ N - 1) - prP (balF D) N (2 ^ N - 1 - (2 ^ N - 1)) = 0 := by
    rw [Nat.sub_self, prP_zero]; omega
  have hW2 : 2 ≤ 2 ^ N := by
    have := Nat.pow_le_pow_right (n := 2) (by omega) hN1
    omega
  generalize hQ : nats (grpL o) = Q at *
  generalize balF D = F at *
  generalize hW : 2 ^ N = W at *
  refine ab_seq_k fun K5 h5 => ?_
  simp [take_bookC]
  refine callK_of (G4 _) ?_
  simp [take_bookC]
  refine h5 _ _ _ ?_
  clear h5 K5
  refine ab_seq_k fun K6 h6 => ?_
  refine ab_seq_k fun K7 h7 => ?_
  simp
  refine h7 _ _ _ ?_
  clear h7 K7
  refine ab_cond_of rfl (fun h => by cases h) (fun _ => ?_)
  simp
  refine h6 _ _ _ ?_
  clear h6 K6
  refine ab_seq_k fun K8 h8 => ?_
  refine ab_seq_k fun K9 h9 => ?_
  simp [take_bookC]
  refine callK_of (G6 _) ?_
  simp [take_bookC]
  refine h9 _ _ _ ?_
  clear h9 K9
  refine ab_seq_k fun K10 h10 => ?_
  simp
  refine h10 _ _ _ ?_
  clear h10 K10
  refine ab_cond_of rfl (fun h => by cases h) (fun _ => ?_)
  simp
  refine h8 _ _ _ ?_
  clear h8 K8
  refine ab_seq_k fun K11 h11 => ?_
  simp
  refine h11 _ _ _ ?_
  clear h11 K11
  refine ab_seq_k fun K12 h12 => ?_
  refine ab_seq_k fun K13 h13 => ?_
  simp
  refine h13 _ _ _ ?_
  clear h13 K13
  refine ab_block_k fun K14 h14 => ?_
  refine ab_loop_k (fun m env σ => ∃ (i U V : Nat), i + m = Q.length ∧ Two F N Q i U V ∧ env = [(1, .i .u16 x), (2, .i .u16 y), (3, .p 0 0 0), (7, sl (ofN Q) false), (11, .i .i64 U), (12, .i .i64 i)] ∧ σ = [O.row 0 (bookC N D f)]) Q.length
    ⟨0, 0, 0, by omega, Two.start, by simp, rfl⟩ ?_
  rintro m env σ ⟨i, U, V, hi, hT, rfl, rfl⟩ K15 h15
  have hU := hT.u
  rw [hW] at hU
  rw [ic12_0]
  refine ab_seq_k fun K16 h16 => ?_
  refine ab_seq_k fun K17 h17 => ?_
  simp
  refine h17 _ _ _ ?_
  clear h17 K17
  refine ab_cond_of rfl (fun hc2 => ?_) (fun hc2 => ?_)
  · have hil : i < Q.length := by simpa using hc2
    obtain ⟨g, hg⟩ : ∃ g, Q[i]? = some g := ⟨_, List.getElem?_eq_getElem hil⟩
    have q := ofN_get hg
    obtain ⟨ql, q'⟩ := List.getElem?_eq_some_iff.1 q
    obtain ⟨hgN, hge2⟩ := hGe g (List.mem_of_getElem? hg)
    obtain ⟨hT1, hT2, hadd⟩ := hT.step' hW hg hgN hge2 hle1
    simp
    refine h16 _ _ _ ?_
    clear h16 K16
    refine ab_seq_k fun K18 h18 => ?_
    refine ab_block_k fun K19 h19 => ?_
    refine ab_seq_k fun K20 h20 => ?_
    simp
    generalize hbv : bitop .and .u16 _ _ = bv
    refine h20 _ _ _ ?_
    clear h20 K20
    have hend : ∀ env (U V : Nat), get env 1 = .i .u16 x → get env 2 = .i .u16 y → get env 3 = .p 0 0 0 → get env 7 = sl (ofN Q) false → get env 11 = .i .i64 U → get env 12 = .i .i64 i → Two F N Q (i + 1) U V → K19 (some 0) env [O.row 0 (bookC N D f)] := by
      intro env U V w1 w2 w3 w7 w11 w12 a
      refine h19 _ _ _ ?_
      refine h18 _ _ _ ?_
      simp [w1, w2, w3, w7, w11, w12, wrap64 (x := (i : Int) + 1) (by omega) (by omega)]
      exact h15 _ _ _ (again (m - 1) (by omega) ⟨i + 1, U, V, by omega, a, by simp, rfl⟩)
    by_cases hb : bv = 1
    · refine ab_cond_of rfl (fun _ => ?_) (fun h => by simp [hb] at h)
      simp [hil, q, q', wrap64 (x := (U : Int) + g) (by omega) (by omega)]
      refine hend _ (U ||| g) V rfl rfl rfl rfl ?_ rfl hT1
      rw [hadd]; rfl
    · refine ab_cond_of rfl (fun h => by simp [hb] at h) (fun _ => ?_)
      simp
      exact hend _ U _ rfl rfl rfl rfl rfl rfl hT2
  have hil : i = Q.length := by simp at hc2; omega
  subst hil
  obtain ⟨hzero, hUN⟩ := hT.done' hW hN hone htop
  have hUe := hT.eu
  simp
  refine h14 _ _ _ ?_
  refine h12 _ _ _ ?_
  clear h12 h14 h15 h16 K12 K14 K15 K16 hT hc2
  refine ab_seq_k fun K21 h21 => ?_
  simp [take_bookC]
  refine callK_of (hA _) ?_
  simp [take_bookC]
  refine h21 _ _ _ ?_
  clear h21 K21
  refine ab_seq_k fun K22 h22 => ?_
  have hK : ∀ env, get env 2 = .i .u16 y → get env 3 = .p 0 0 0 → get env 13 = .i .i64 ((W : Int) - 1) → K22 (some 0) env [O.row 0 (bookC N D f)] := by
    intro env w2 w3 w13
    refine h22 _ _ _ ?_
    clear h22 K22
    have a1 := hap (W - 1) (by omega) (by omega)
    rw [hape (W - 1) (by omega) (by omega), if_neg (by simp [hall0]), hape0, show (((W - 1 : Nat) : Int)) = (W : Int) - 1 by omega] at a1
    simp only [pairV] at a1
    refine ab_seq_k fun K23 h23 => ?_
    simp [w2, w3, w13, take_bookC]
    refine callK_of (a1 _) ?_
    simp [w2, w3, w13]
    refine h23 _ _ _ ?_
    clear h23 K23
    refine ab_seq_k fun K24 h24 => ?_
    refine ab_seq_k fun K25 h25 => ?_
    simp
    refine h25 _ _ _ ?_
    clear h25 K25
    refine ab_cond_of rfl (fun h => by cases h) (fun _ => ?_)
    simp
    refine h24 _ _ _ ?_
    clear h24 K24
    obtain ⟨y, rfl⟩ : ∃ t : Nat, y = (t : Int) := ⟨y.toNat, by omega⟩
    have ea := and_nat (a := y) (b := W - 1) (by omega) (by omega)
    rw [show (((W - 1 : Nat) : Int)) = (W : Int) - 1 by omega] at ea
    have hsW : y &&& (W - 1) ≤ W - 1 := Nat.and_le_right
    generalize y &&& (W - 1) = s at *
    refine ab_seq_k fun K26 h26 => ?_
    simp [wrap64 (x := (y : Int)) (by omega) (by omega), ea]
    refine h26 _ _ _ ?_
    clear h26 K26
    refine ab_seq_k fun K27 h27 => ?_
    refine ab_seq_k fun K28 h28 => ?_
    have hret : ∀ env, get env 96 = .b true → K28 (some 0) env [O.row 0 (bookC N D f)] := by
      intro env w
      refine h28 _ _ _ ?_
      refine ab_cond_of w (fun _ => ?_) (fun h => by cases h)
      refine ab_seq_k fun K29 h29 => ?_
      simp
      refine callK_of (wk _) ?_
      simp
      refine h29 _ _ _ ?_
      clear h29 K29
      simp
      exact fin_of 1 (by simp [rs12])
    by_cases hs0 : s = 0
    · simp [hs0]
      exact hret _ rfl
    by_cases hs1 : (s : Int) = (W : Int) - 1
    · simp [hs0, hs1.symm]
      exact hret _ rfl
    simp [hs0, hs1]
    refine h28 _ _ _ ?_
    clear h28 hret K28
    refine ab_cond_of rfl (fun h => by cases h) (fun _ => ?_)
    simp
    refine h27 _ _ _ ?_
    clear h27 K27
    have b1 := hap s (by omega) (by omega)
    have b2 := hap (W - 1 - s) (by omega) (by omega)
    rw [hape s (by omega) (by omega)] at b1
    rw [hape (W - 1 - s) (by omega) (by omega), show W - 1 - (W - 1 - s) = s by omega, show (((W - 1 - s : Nat) : Int)) = (W : Int) - 1 - s by omega] at b2
    by_cases hz : sumF F s N = 0
    · obtain ⟨c1, c2⟩ := hnn s (by omega) hz
      rw [if_neg (by simp [hz])] at b1
      rw [if_neg (by simp [c2])] at b2
      rw [show prP F N (W - 1) - prP F N (W - 1 - s) - prP F N s = prP F N (W - 1) - prP F N s - prP F N (W - 1 - s) by omega] at b2
      generalize prP F N (W - 1) - prP F N s - prP F N (W - 1 - s) = k at *
      simp only [pairV] at b1 b2
      refine ab_seq_k fun K30 h30 => ?_
      simp [take_bookC]
      refine callK_of (b1 _) ?_
      simp [take_bookC]
      refine h30 _ _ _ ?_
      clear h30 K30
      refine ab_seq_k fun K31 h31 => ?_
      simp [take_bookC, wrap64 (x := (W : Int) - 1 - s) (by omega) (by omega)]
      refine callK_of (b2 _) ?_
      simp
      refine h31 _ _ _ ?_
      clear h31 K31
      refine ab_seq_k fun K32 h32 => ?_
      simp [c1, take_bookC]
      refine callK_of (hS s (by omega) _) ?_
      simp [hz]
      refine callK_of (wk _) ?_
      simp
      refine h32 _ _ _ ?_
      simp
      exact fin_of 1 (by simp [rs12])
    · have c2 : ¬ sumF F (W - 1 - s) N = 0 := fun h => by
        have := (hnn (W - 1 - s) (by omega) h).2
        rw [show W - 1 - (W - 1 - s) = s by omega] at this
        exact hz this
      rw [if_pos hz] at b1
      rw [if_pos c2] at b2
      simp only [pairV] at b1 b2
      refine ab_seq_k fun K30 h30 => ?_
      simp [take_bookC]
      refine callK_of (b1 _) ?_
      simp [take_bookC]
      refine h30 _ _ _ ?_
      clear h30 K30
      refine ab_seq_k fun K31 h31 => ?_
      simp [take_bookC, wrap64 (x := (W : Int) - 1 - s) (by omega) (by omega)]
      refine callK_of (b2 _) ?_
      simp
      refine h31 _ _ _ ?_
      clear h31 K31
      refine ab_seq_k fun K32 h32 => ?_
      simp [take_bookC]
      refine callK_of (hS s (by omega) _) ?_
      simp [hz]
      refine callK_of (wk _) ?_
      simp
      refine h32 _ _ _ ?_
      simp
      exact fin_of 1 (by simp [rs12])
  refine ab_seq_k fun K40 h40 => ?_
  simp
  refine h40 _ _ _ ?_
  clear h40 K40
  by_cases hU0 : U = 0
  · refine ab_cond_of rfl (fun h => by simp at h; omega) (fun _ => ?_)
    simp
    exact hK _ rfl rfl rfl
  · refine ab_cond_of rfl (fun _ => ?_) (fun h => by simp at h; omega)
    have a1 := hap U (by omega) hUN
    rw [hape U (by omega) hUN, if_neg (by simp [hUe]), hzero] at a1
    simp only [pairV] at a1
    refine ab_seq_k fun K41 h41 => ?_
    simp [take_bookC]
    refine callK_of (a1 _) ?_
    simp [take_bookC]
    refine h41 _ _ _ ?_
    clear h41 K41
    refine ab_seq_k fun K42 h42 => ?_
    simp
    refine h42 _ _ _ ?_
    clear h42 K42
    refine ab_cond_of rfl (fun h => by cases h) (fun _ => ?_)
    simp
    exact hK _ rfl rfl rfl
end Go.Ab
