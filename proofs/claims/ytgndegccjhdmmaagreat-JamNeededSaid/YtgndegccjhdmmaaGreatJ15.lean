/- The law JamNeeded: how many keys a log needs, and by which it goes. -/
import Derived.Test.YtgndegccjhdmmaaGreatJNa
import Derived.Test.YtgndegccjhdmmaaGreatJW
set_option linter.unusedVariables false
set_option linter.unusedSimpArgs false
set_option maxHeartbeats 4000000
set_option maxRecDepth 100000
namespace Go.Ab
open Go Go.Proofs

def ic15 : IC := (.seq (.reg [.op (some 3) none (.box (.t 0)), .op (some 6) none (.mov (.c (.b false)))] (some [1, 2, 3])) (.seq (.seq (.reg [.op (some 17) none (.loadA 1 (.t 3)), .call (some 18) none 47 [(.t 17)], .op (some 19) none (.not (.t 18))] (some [1, 2, 3, 19])) (.cond (.t 19) (.seq (.reg [.call (some 20) none 18 [], .op (some 6) none (.mov (.t 20))] (some [6])) .ret) .skip)) (.seq (.reg [.op (some 21) none (.mov (.t 1)), .op (some 22) none (.conv .i64 (.t 21)), .op (some 23) none (.fad 0 (.t 3)), .op (some 24) none (.load1 (.t 23)), .op (some 25) none (.len (.t 24)), .op (some 26) none (.bin .rem (.t 22) (.t 25)), .op (some 7) none (.mov (.t 26))] (some [2, 3, 7])) (.seq (.reg [.op (some 28) none (.loadA 1 (.t 3)), .op (some 29) none (.mov (.t 7)), .call (some 30) none 45 [(.t 28), (.t 29)], .op (some 27) none (.mov (.t 30)), .op (some 31) none (.ext 0 (.t 27)), .op (some 32) none (.ext 1 (.t 27)), .op (some 8) none (.mov (.t 31)), .op (some 9) none (.mov (.t 32))] (some [2, 3, 7, 8, 9])) (.seq (.reg [.op (some 34) none (.loadA 1 (.t 3)), .call (some 35) none 19 [(.t 34), (.c (.ss [] 0 true))], .op (some 33) none (.mov (.t 35)), .op (some 36) none (.ext 0 (.t 33)), .op (some 37) none (.ext 1 (.t 33)), .op (some 10) none (.mov (.t 36)), .op (some 11) none (.mov (.t 37))] (some [2, 3, 7, 8, 9, 10, 11])) (.seq (.drw [(.op (some 38) none (.loadA 1 (.t 3)), []), (.op (some 39) none (.mov (.t 2)), []), (.op (some 40) none (.mov (.t 7)), []), (.op (some 41) none (.bin .shl (.c (.i .u16 1)) (.t 40)), []), (.op (some 42) none (.bin .andNot (.t 39) (.t 41)), []), (.call (some 43) none 48 [(.t 38), (.t 42)], []), (.op (some 12) none (.mov (.t 43)), [])] (some [3, 7, 8, 9, 10, 11, 12])) (.seq (.reg [.op (some 45) none (.loadA 1 (.t 3)), .op (some 46) none (.mov (.t 12)), .call (some 47) none 19 [(.t 45), (.t 46)], .op (some 44) none (.mov (.t 47)), .op (some 48) none (.ext 0 (.t 44)), .op (some 49) none (.ext 1 (.t 44)), .op (some 13) none (.mov (.t 48)), .op (some 14) none (.mov (.t 49))] (some [3, 7, 8, 9, 10, 11, 12, 13, 14])) (.seq (.seq (.reg [.op (some 50) none (.mov (.t 9)), .op (some 51) none (.bin .neq (.t 50) (.c (.i .i64 0))), .op (some 52) none (.mov (.t 51)), .op (some 53) (some (52, true)) (.mov (.t 9)), .op (some 54) (some (52, true)) (.bin .neq (.t 53) (.c (.i .i64 5))), .op (some 55) none (.pick (.t 52) (.t 54) (.c (.b false))), .op (some 56) none (.mov (.t 55)), .op (some 57) (some (56, false)) (.mov (.t 11)), .op (some 58) (some (56, false)) (.bin .neq (.t 57) (.c (.i .i64 0))), .op (some 59) none (.pick (.t 56) (.c (.b true)) (.t 58)), .op (some 60) none (.mov (.t 59)), .op (some 61) (some (60, false)) (.mov (.t 14)), .op (some 62) (some (60, false)) (.bin .neq (.t 61) (.c (.i .i64 0))), .op (some 63) none (.pick (.t 60) (.c (.b true)) (.t 62)), .op (some 64) none (.mov (.t 63)), .op (some 65) (some (64, false)) (.mov (.t 10)), .op (some 66) (some (64, false)) (.len (.t 65)), .op (some 67) (some (64, false)) (.fad 0 (.t 3)), .op (some 68) (some (64, false)) (.load1 (.t 67)), .op (some 69) (some (64, false)) (.len (.t 68)), .op (some 70) (some (64, false)) (.bin .neq (.t 66) (.t 69)), .op (some 71) none (.pick (.t 64) (.c (.b true)) (.t 70)), .op (some 72) none (.mov (.t 71)), .op (some 73) (some (72, false)) (.mov (.t 13)), .op (some 74) (some (72, false)) (.len (.t 73)), .op (some 75) (some (72, false)) (.fad 0 (.t 3)), .op (some 76) (some (72, false)) (.load1 (.t 75)), .op (some 77) (some (72, false)) (.len (.t 76)), .op (some 78) (some (72, false)) (.bin .neq (.t 74) (.t 77)), .op (some 79) none (.pick (.t 72) (.c (.b true)) (.t 78)), .op (some 80) none (.mov (.t 79)), .op (some 81) (some (80, false)) (.mov (.t 8)), .op (some 82) (some (80, false)) (.bin .lss (.t 81) (.c (.i .i64 0))), .op (some 83) none (.pick (.t 80) (.c (.b true)) (.t 82)), .op (some 84) none (.mov (.t 83)), .op (some 85) (some (84, false)) (.mov (.t 9)), .op (some 86) (some (84, false)) (.bin .eql (.t 85) (.c (.i .i64 0))), .op (some 87) (some (84, false)) (.mov (.t 86)), .op (some 88) (some (87, true)) (.mov (.t 8)), .op (some 89) (some (87, true)) (.bin .eql (.t 88) (.c (.i .i64 0))), .op (some 90) (some (84, false)) (.pick (.t 87) (.t 89) (.c (.b false))), .op (some 91) (some (84, false)) (.mov (.t 10)), .op (some 92) (some (84, false)) (.mov (.t 7)), .op (some 93) (some (84, false)) (.ixs 1 (.t 91) (.t 92)), .op (some 94) (some (84, false)) (.load1 (.t 93)), .op (some 95) (some (84, false)) (.bin .geq (.t 94) (.c (.i .i64 0))), .op (some 96) (some (84, false)) (.eqb true (.t 90) (.t 95)), .op (some 97) none (.pick (.t 84) (.c (.b true)) (.t 96))] (some [3, 7, 8, 9, 12, 13, 97])) (.cond (.t 97) (.seq (.reg [.op (some 6) none (.mov (.c (.b false)))] (some [6])) .ret) .skip)) (.seq (.seq (.reg [.op (some 98) none (.mov (.t 13)), .op (some 99) none (.mov (.t 7)), .op (some 100) none (.ixs 1 (.t 98) (.t 99)), .op (some 101) none (.load1 (.t 100)), .op (some 102) none (.bin .geq (.t 101) (.c (.i .i64 0))), .op (some 103) none (.mov (.t 102)), .op (some 104) (some (103, true)) (.mov (.t 9)), .op (some 105) (some (103, true)) (.bin .neq (.t 104) (.c (.i .i64 0))), .op (some 106) (some (103, true)) (.mov (.t 105)), .op (some 107) (some (106, false)) (.mov (.t 12)), .op (some 108) (some (106, false)) (.len (.t 107)), .op (some 109) (some (106, false)) (.mov (.t 8)), .op (some 110) (some (106, false)) (.bin .lss (.t 108) (.t 109)), .op (some 111) (some (103, true)) (.pick (.t 106) (.c (.b true)) (.t 110)), .op (some 112) none (.pick (.t 103) (.t 111) (.c (.b false)))] (some [3, 7, 8, 9, 112])) (.cond (.t 112) (.seq (.reg [.op (some 6) none (.mov (.c (.b false)))] (some [6])) .ret) .skip)) (.seq (.reg [.op (some 113) none (.fad 0 (.t 3)), .op (some 114) none (.load1 (.t 113)), .op (some 115) none (.mov (.t 7)), .op (some 116) none (.ixs 2 (.t 114) (.t 115)), .op (some 117) none (.fad 1 (.t 116)), .op (some 118) none (.load1 (.t 117)), .op (some 15) none (.mov (.t 118))] (some [3, 7, 8, 9, 15])) (.seq (.seq (.reg [.op (some 119) none (.mov (.t 15)), .op (some 120) none (.mov (.t 7)), .call (some 121) none 53 [(.t 119), (.t 120)], .op (some 122) none (.mov (.t 121)), .op (some 123) (some (122, false)) (.fad 0 (.t 3)), .op (some 124) (some (122, false)) (.load1 (.t 123)), .op (some 125) (some (122, false)) (.mov (.t 7)), .op (some 126) (some (122, false)) (.ixs 2 (.t 124) (.t 125)), .op (some 127) (some (122, false)) (.fad 0 (.t 126)), .op (some 128) (some (122, false)) (.load1 (.t 127)), .op (some 129) (some (122, false)) (.bin .eql (.t 128) (.c (.i .i64 1))), .op (some 130) (some (122, false)) (.mov (.t 129)), .op (some 131) (some (130, true)) (.mov (.t 15)), .op (some 132) (some (130, true)) (.len (.t 131)), .op (some 133) (some (130, true)) (.bin .eql (.t 132) (.c (.i .i64 0))), .op (some 134) (some (122, false)) (.pick (.t 130) (.t 133) (.c (.b false))), .op (some 135) none (.pick (.t 122) (.c (.b true)) (.t 134))] (some [3, 7, 8, 9, 15, 135])) (.cond (.t 135) (.seq (.reg [.call (some 136) none 18 [], .op (some 6) none (.mov (.t 136))] (some [6])) .ret) .skip)) (.seq (.reg [.op (some 137) none (.mov (.t 15)), .op (some 138) none (.len (.t 137)), .op (some 16) none (.mov (.t 138))] (some [3, 7, 8, 9, 16])) (.seq (.seq (.reg [.op (some 139) none (.fad 0 (.t 3)), .op (some 140) none (.load1 (.t 139)), .op (some 141) none (.mov (.t 7)), .op (some 142) none (.ixs 2 (.t 140) (.t 141)), .op (some 143) none (.fad 0 (.t 142)), .op (some 144) none (.load1 (.t 143)), .op (some 145) none (.bin .eql (.t 144) (.c (.i .i64 1)))] (some [8, 9, 16, 145])) (.cond (.t 145) (.reg [.op (some 16) none (.mov (.c (.i .i64 1)))] (some [8, 9, 16])) .skip)) (.seq (.reg [.op (some 146) none (.mov (.t 9)), .op (some 147) none (.bin .eql (.t 146) (.c (.i .i64 0))), .op (some 148) none (.mov (.t 147)), .op (some 149) (some (148, true)) (.mov (.t 8)), .op (some 150) (some (148, true)) (.mov (.t 16)), .op (some 151) (some (148, true)) (.bin .leq (.t 149) (.t 150)), .op (some 152) none (.pick (.t 148) (.t 151) (.c (.b false))), .op (some 153) none (.mov (.t 152)), .call (some 154) (some (153, true)) 18 [], .op (some 155) none (.pick (.t 153) (.t 154) (.c (.b false))), .op (some 6) none (.mov (.t 155))] (some [6])) .ret))))))))))))))
def rs15 : List IRes := [.tmp 6]
theorem fn15 : Fn_ Tryz.prog 15 Tryz.f15 [] ic15 rs15 := ⟨by kernel_rfl, by decide, by kernel_rfl, by kernel_rfl⟩

theorem ssort_eq : ∀ {a b : List Int}, a.Pairwise (· < ·) → b.Pairwise (· < ·) → (∀ x, x ∈ a ↔ x ∈ b) → a = b
  | [], [], _, _, _ => rfl
  | [], y :: b, _, _, h => by have := (h y).2 (List.mem_cons_self ..); cases this
  | x :: a, [], _, _, h => by have := (h x).1 (List.mem_cons_self ..); cases this
  | x :: a, y :: b, ha, hb, h => by
    rw [List.pairwise_cons] at ha hb
    have hxy : x = y := by
      have h1 := (h x).1 (List.mem_cons_self ..)
      have h2 := (h y).2 (List.mem_cons_self ..)
      rw [List.mem_cons] at h1 h2
      rcases h1 with h1 | h1
      · exact h1
      · rcases h2 with h2 | h2
        · exact h2.symm
        · have := hb.1 x h1
          have := ha.1 y h2
          omega
    subst hxy
    congr 1
    refine ssort_eq ha.2 hb.2 fun z => ?_
    have := h z
    rw [List.mem_cons, List.mem_cons] at this
    constructor
    · intro hz
      rcases this.1 (.inr hz) with h1 | h1
      · have := ha.1 z hz; omega
      · exact h1
    · intro hz
      rcases this.2 (.inr hz) with h1 | h1
      · have := hb.1 z hz; omega
      · exact h1
theorem bl_setB {l : List Int} {N k : Nat} (h : isL N l = true) (hk : N ≤ k) : bl (setB l) k = l := by
  have hm := isLF_mem h
  refine ssort_eq bl_sorted (isLF_iff.1 h).1 fun x => ?_
  rw [bl_mem]
  constructor
  · rintro ⟨j, -, rfl, hj⟩
    exact (setB_bit (fun x hx => (hm x hx).1)).1 hj
  · intro hx
    have := hm x hx
    refine ⟨x.toNat, by omega, by omega, (setB_bit (fun x hx => (hm x hx).1)).2 ?_⟩
    rw [show ((x.toNat : Nat) : Int) = x by omega]
    exact hx
theorem bl_one {b k : Nat} (h : b < k) : bl (2 ^ b) k = [(b : Int)] := by
  refine ssort_eq bl_sorted (by simp) fun x => ?_
  rw [bl_mem, List.mem_singleton]
  constructor
  · rintro ⟨j, -, rfl, hj⟩
    rw [Nat.testBit_two_pow, decide_eq_true_eq] at hj
    rw [hj]
  · rintro rfl
    exact ⟨b, h, rfl, Nat.testBit_two_pow_self⟩
theorem goes_q {J : List Lg} {s i : Nat} (hi : i < J.length) (hb : s.testBit i = false) (h : 0 ≤ wr J (byB J) s J.length i) : qN J i s = true := by
  unfold qN
  rw [left_bit hi, hb]
  simp
  exact h
section
variable {J : List Lg} {i : Nat}
theorem need_zero (hN : 1 ≤ J.length ∧ J.length ≤ 12) (hi : i < J.length) : (needF (qN J i) J.length (2 ^ J.length) ≠ J.length ∧ needF (qN J i) J.length (2 ^ J.length) = 0) ↔ 0 ≤ wr J (byB J) 0 J.length i := by
  obtain ⟨h1, h2⟩ := needF_spec (q := qN J i) (N := J.length) (i := 2 ^ J.length)
  have hp0 : pc 0 = 0 := by decide
  constructor
  · rintro ⟨ha, hb⟩
    rcases h2 with h2 | ⟨s, hs, hq, hp, -⟩
    · exact absurd h2 ha
    · rw [hb, pc_N hs (by omega)] at hp
      have hs0 : s = 0 := (bl_nil hs).1 (List.length_eq_zero_iff.1 hp)
      subst hs0
      unfold qN at hq
      rw [left_bit hi] at hq
      simp at hq
      exact hq
  · intro h
    have := h1 0 (Nat.two_pow_pos _) (goes_q hi (by simp) h) (by omega)
    omega
theorem need_le {s : Nat} (hN : J.length ≤ 12) (hi : i < J.length) (hs : s < 2 ^ J.length) (hb : s.testBit i = false) (h : 0 ≤ wr J (byB J) s J.length i) :
    needF (qN J i) J.length (2 ^ J.length) ≠ J.length ∧ needF (qN J i) J.length (2 ^ J.length) ≤ pc s := by
  obtain ⟨h1, -⟩ := needF_spec (q := qN J i) (N := J.length) (i := 2 ^ J.length)
  have hp := pc_lt hs (by omega) hi hb
  have := h1 s hs (goes_q hi hb h) hp
  omega
theorem need_most {p : Lg} (hJ : JOK J) (hc : ∀ p ∈ J, isL J.length p.2.1 = true ∧ (p.1 = 0 ∨ p.1 = 1)) (hp : J[i]? = some p) (hno : ¬ (i : Int) ∈ p.2.1) (hne : ¬ (p.1 = 1 ∧ p.2.1 = [])) :
    needF (qN J i) J.length (2 ^ J.length) ≠ J.length ∧ needF (qN J i) J.length (2 ^ J.length) ≤ if p.1 = 1 then 1 else p.2.1.length := by
  have hi : i < J.length := (List.getElem?_eq_some_iff.1 hp).1
  have hN := hJ.2.1
  obtain ⟨hL, hk⟩ := hc p (List.mem_of_getElem? hp)
  have hm := isLF_mem hL
  have hB : (byB J).getD i 0 = setB p.2.1 := by
    unfold byB
    rw [List.getD_eq_getElem?_getD, List.getElem?_map, hp]; rfl
  have hkd : kd J i = p.1 := by unfold kd; rw [List.getD_eq_getElem?_getD, hp]; rfl
  have hbit := fun j => setB_bit (l := p.2.1) (fun x hx => (hm x hx).1) (j := j)
  have hgo : ∀ s, s.testBit i = false → frB J (byB J) i s = true → 0 ≤ wr J (byB J) s J.length i := by
    intro s hb hf
    have := (wave_fr (J := J) (B := byB J) (s := s) hi hb 0).2 hf
    exact this.1
  by_cases h1 : p.1 = 1
  · rw [if_pos h1]
    obtain ⟨b, hb⟩ : ∃ b, b ∈ p.2.1 := by
      cases hl : p.2.1 with
      | nil => exact absurd ⟨h1, hl⟩ hne
      | cons b r => exact ⟨b, List.mem_cons_self ..⟩
    have hbN := hm b hb
    obtain ⟨bn, rfl⟩ : ∃ bn : Nat, b = bn := ⟨b.toNat, by omega⟩
    have hbi : (2 ^ bn).testBit i = false := by
      rw [Nat.testBit_two_pow]
      refine decide_eq_false fun e => hno ?_
      rw [← e]; exact hb
    have hlt : 2 ^ bn < 2 ^ J.length := Nat.pow_lt_pow_right (by omega) (by omega)
    have hf : frB J (byB J) i (2 ^ bn) = true := by
      unfold frB
      rw [hkd, hB, if_neg (by omega), decide_eq_true_eq, and_ne]
      exact ⟨bn, (hbit bn).2 hb, Nat.testBit_two_pow_self⟩
    have := need_le hN hi hlt hbi (hgo _ hbi hf)
    have hp1 : pc (2 ^ bn) = 1 := by unfold pc; rw [bl_one (by omega)]; rfl
    omega
  · rw [if_neg h1]
    have hbi : (setB p.2.1).testBit i = false := by
      cases h : (setB p.2.1).testBit i with
      | false => rfl
      | true => exact absurd ((hbit i).1 h) hno
    have hf : frB J (byB J) i (setB p.2.1) = true := by
      unfold frB
      rw [hkd, hB, if_pos (by omega), decide_eq_true_eq, less_zero]
      exact fun j hj => hj
    have := need_le hN hi (setB_N hL) hbi (hgo _ hbi hf)
    have hp1 : pc (setB p.2.1) = p.2.1.length := by unfold pc; rw [bl_setB hL (by omega)]
    omega
end

theorem jamNeeded {J : List Lg} {f : Bool} {a b : Nat} (ha : a < 256) (hb : b < 65536) {σ : List O} : FSpec Tryz.prog 15 [jamV J f, .i .u8 a, .i .u16 b] σ (.b true) σ := by
  refine FSpec.frame (σ := σ) ?_ (by simp) rfl
  refine fn15.spec0 mixed noIt_ok ?_
  rw [ic15]
  refine ab_seq_k fun K1 h1 => ?_
  simp
  refine h1 _ _ _ ?_
  clear h1 K1
  refine ab_seq_k fun K2 h2 => ?_
  refine ab_seq_k fun K3 h3 => ?_
  simp
  refine callK_of fine47 ?_
  simp
  refine h3 _ _ _ ?_
  clear h3 K3
  cases hf : fineB J with
  | false =>
    refine ab_cond_of rfl (fun _ => ?_) (fun h => by cases h)
    refine ab_seq_k fun K4 h4 => ?_
    simp
    refine callK_of (wk _) ?_
    simp
    refine h4 _ _ _ ?_
    clear h4 K4
    simp
    exact fin_of 1 (by simp [rs15])
  | true =>
    refine ab_cond_of rfl (fun h => by cases h) (fun _ => ?_)
    obtain ⟨hJ, hc, hp⟩ := fine_ok hf
    have hN := hJ.2.1
    have hN1 := hJ.1
    have hl1 : ∀ x ∈ J, x.2.1.length ≤ 1000000 := fun x hx => by have := (hp x hx).2.2; omega
    have hne : J ≠ [] := by rintro rfl; simp at hN1
    simp
    refine h2 _ _ _ ?_
    clear h2 K2
    have hrem : (a : Int).tmod J.length = ((a % J.length : Nat) : Int) := rfl
    have hi : a % J.length < J.length := Nat.mod_lt _ (by omega)
    refine ab_seq_k fun K5 h5 => ?_
    simp [wrap64 (x := (a : Int)) (by omega) (by omega), hne]
    rw [hrem]
    clear hrem
    generalize a % J.length = i at *
    refine h5 _ _ _ ?_
    clear h5 K5
    have hfit : fit 0 (J.length - 1) (i : Int) = true := by simp [fit]; omega
    have hv : needV J i = if needF (qN J i) J.length (2 ^ J.length) = J.length then ((0 : Int), (5 : Int)) else (((needF (qN J i) J.length (2 ^ J.length) : Nat) : Int), (0 : Int)) := by
      unfold needV
      rw [if_neg (by simp [hc]), hfit, if_neg (by simp), Int.toNat_natCast]
    have q45 := fun σ => need45 (f := f) (log := (i : Int)) (σ := σ) (by omega) hl1
    have hz := need_zero ⟨hN1, hN⟩ hi
    have hle := fun s => need_le (s := s) hN hi
    obtain ⟨p, hpi, hpm, hpl2, g1, g2⟩ := lg_at hi
    obtain ⟨hg1, g1'⟩ := List.getElem?_eq_some_iff.1 g1
    obtain ⟨hg2, g2'⟩ := List.getElem?_eq_some_iff.1 g2
    have hmost := need_most hJ (fun p hq => ⟨(hp p hq).1, (hp p hq).2.1⟩) hpi
    obtain ⟨hpL, hpk, hpl⟩ := hp p hpm
    have hnb := needF_le (q := qN J i) (N := J.length) (i := 2 ^ J.length)
    generalize hnn : needF (qN J i) J.length (2 ^ J.length) = nb at *
    clear hnn
    -- the waves without keys, and by the keys
    have w0 := fun σ => waves19 (J := J) (f := f) (fk := true) (k := []) (σ := σ) (by omega) hl1 (by simp)
    have hw0 : wavV J [] = .tup [sl (wavL J 0) false, .i .i64 0] := by
      have := wav_bits (s := 0) hJ hc (Nat.two_pow_pos _)
      have e : bl 0 16 = [] := by decide
      rwa [e] at this
    rw [hw0] at w0
    have hb2 : less b (2 ^ i) < 65536 := Nat.lt_of_le_of_lt less_le hb
    have hs := keysS_lt (J := J) (b := less b (2 ^ i))
    have hsi : (keysS J (less b (2 ^ i))).testBit i = false := by
      unfold keysS
      rw [Nat.testBit_mod_two_pow, less_bit, Nat.testBit_two_pow_self]
      simp
    have hwb := wav_bits hJ hc hs
    have hbl16 := bl_len (s := keysS J (less b (2 ^ i))) (k := 16)
    have hw19 := fun σ fk => waves19 (J := J) (f := f) (fk := fk) (k := bl (keysS J (less b (2 ^ i))) 16) (σ := σ) (by omega) hl1 (by omega)
    rw [hwb] at hw19
    have hk48 := fun σ => keys48 (f := f) (b := less b (2 ^ i)) (σ := σ) hJ hb2
    replace hle := hle _ hs hsi
    have hp2 : 2 ^ i < 65536 := by
      have : 2 ^ i < 2 ^ 16 := Nat.pow_lt_pow_right (by omega) (by omega)
      omega
    have e3 := shl_nat' (m := i) (by omega)
    have e4 := andNot_nat (a := b) (b := 2 ^ i) hb hp2
    generalize hsk : keysS J (less b (2 ^ i)) = s at *
    clear hsk
    generalize 2 ^ i = pw at *
    have hWat : ∀ s, (wavL J s)[i]? = some (wr J (byB J) s J.length i) := fun s => rowF_get hi
    have hWl : ∀ s, (wavL J s).length = J.length := fun s => rowF_len
    have hpcs : (bl s 16).length = pc s := rfl
    have hWa := hWat 0
    have hWb := hWat s
    have hWla := hWl 0
    have hWlb := hWl s
    generalize wr J (byB J) 0 J.length i = x at *
    generalize wr J (byB J) s J.length i = y at *
    generalize wavL J 0 = X at *
    generalize wavL J s = Yw at *
    generalize bl s 16 = kl at *
    clear hWat hWl hwb hw0
    obtain ⟨hWa1, hWa'⟩ := List.getElem?_eq_some_iff.1 hWa
    obtain ⟨hWb1, hWb'⟩ := List.getElem?_eq_some_iff.1 hWb
    refine ab_seq_k fun K6 h6 => ?_
    simp
    refine callK_of (q45 _) ?_
    simp
    refine h6 _ _ _ ?_
    clear h6 K6
    refine ab_seq_k fun K7 h7 => ?_
    simp
    refine callK_of (w0 _) ?_
    simp
    refine h7 _ _ _ ?_
    clear h7 K7
    refine ab_seq_k fun K8 h8 => ?_
    simp [abDs_consU, drU, recheck_cons, recheck_nil, rcK, IS.dst, e3]
    rw [e4]
    refine callK_of (hk48 _) ?_
    simp [abDs_consU, drU, recheck_cons, recheck_nil, rcK, IS.dst]
    refine h8 _ _ _ ?_
    clear h8 K8
    generalize (kl.length == 0) = fk at *
    refine ab_seq_k fun K9 h9 => ?_
    simp
    refine callK_of (hw19 _ _) ?_
    simp
    refine h9 _ _ _ ?_
    clear h9 K9
    obtain ⟨n, e, hv2, he, hn0, hx, hy, hm⟩ : ∃ n e : Int, needV J i = (n, e) ∧ (e = 0 ∨ e = 5) ∧ 0 ≤ n ∧ ((e = 0 ∧ n = 0) ↔ 0 ≤ x) ∧ (0 ≤ y → e = 0 ∧ n ≤ pc s) ∧ (¬ (i : Int) ∈ p.2.1 → ¬ (p.1 = 1 ∧ p.2.1 = []) → e = 0 ∧ n ≤ if p.1 = 1 then (1 : Int) else (p.2.1.length : Int)) := by
      by_cases hnN : nb = J.length
      · rw [if_pos hnN] at hv
        refine ⟨0, 5, hv, .inr rfl, by omega, ⟨fun h => by omega, fun h => absurd hnN (hz.2 h).1⟩, fun h => absurd hnN (hle h).1, fun h1 h2 => absurd hnN (hmost h1 h2).1⟩
      · rw [if_neg hnN] at hv
        refine ⟨nb, 0, hv, .inl rfl, by omega, ?_, fun h => ⟨rfl, by have := (hle h).2; omega⟩, fun h1 h2 => ⟨rfl, by have := (hmost h1 h2).2; split at this <;> rename_i h3 <;> simp [h3] <;> omega⟩⟩
        rw [← hz]
        exact ⟨fun h => ⟨hnN, by omega⟩, fun h => ⟨rfl, by omega⟩⟩
    rw [hv2]
    clear hv hv2 hz hle hmost hnb q45 w0 hw19 hk48
    refine ab_seq_k fun K10 h10 => ?_
    refine ab_seq_k fun K11 h11 => ?_
    have hK11 : ∀ env, get env 3 = .p 0 0 0 → get env 7 = .i .i64 i → get env 8 = .i .i64 n → get env 9 = .i .i64 e → get env 12 = sl kl fk → get env 13 = sl Yw false → get env 97 = .b false → K11 (some 0) env [.row 0 [slJ J f]] := by
      intro env w3 w7 w8 w9 w12 w13 w97
      refine h11 _ _ _ ?_
      clear h11 K11
      refine ab_cond_of w97 (fun h => by cases h) (fun _ => ?_)
      simp [w3, w7, w8, w9, w12, w13]
      refine h10 _ _ _ ?_
      clear h10 K10
      refine ab_seq_k fun K12 h12 => ?_
      refine ab_seq_k fun K13 h13 => ?_
      have hK13 : ∀ env, get env 3 = .p 0 0 0 → get env 7 = .i .i64 i → get env 8 = .i .i64 n → get env 9 = .i .i64 e → get env 112 = .b false → K13 (some 0) env [.row 0 [slJ J f]] := by
        intro env w3 w7 w8 w9 w112
        refine h13 _ _ _ ?_
        clear h13 K13
        refine ab_cond_of w112 (fun h => by cases h) (fun _ => ?_)
        simp [w3, w7, w8, w9]
        refine h12 _ _ _ ?_
        clear h12 K12
        refine ab_seq_k fun K14 h14 => ?_
        simp [w3, w7, w8, w9, hi, hpl2, g2, g2']
        refine h14 _ _ _ ?_
        clear h14 K14
        refine ab_seq_k fun K15 h15 => ?_
        refine ab_seq_k fun K16 h16 => ?_
        simp
        refine callK_of (has53 (by omega)) ?_
        have hK16 : ∀ env c, get env 135 = .b c → c = true → K16 (some 0) env [.row 0 [slJ J f]] := by
          rintro env c w rfl
          refine h16 _ _ _ ?_
          refine ab_cond_of w (fun _ => ?_) (fun h => by cases h)
          refine ab_seq_k fun K17 h17 => ?_
          simp
          refine callK_of (wk _) ?_
          simp
          refine h17 _ _ _ ?_
          clear h17 K17
          simp
          exact fin_of 1 (by simp [rs15])
        have hK16n : ∀ env c, get env 3 = .p 0 0 0 → get env 7 = .i .i64 i → get env 8 = .i .i64 n → get env 9 = .i .i64 e → get env 15 = sl p.2.1 p.2.2 → get env 135 = .b c → c = false → (e = 0 ∧ n ≤ if p.1 = 1 then (1 : Int) else (p.2.1.length : Int)) → K16 (some 0) env [.row 0 [slJ J f]] := by
          rintro env c w3 w7 w8 w9 w15 w rfl ⟨he0, hnm⟩
          refine h16 _ _ _ ?_
          clear h16
          refine ab_cond_of w (fun h => by cases h) (fun _ => ?_)
          simp [w3, w7, w8, w9, w15]
          refine h15 _ _ _ ?_
          clear h15
          refine ab_seq_k fun K18 h18 => ?_
          simp [w3, w7, w8, w9, w15]
          refine h18 _ _ _ ?_
          clear h18 K18
          refine ab_seq_k fun K19 h19 => ?_
          refine ab_seq_k fun K20 h20 => ?_
          simp [hi, hpl2, g1, g1']
          refine h20 _ _ _ ?_
          clear h20 K20
          by_cases hp1 : p.1 = 1
          · rw [if_pos hp1] at hnm
            refine ab_cond_of rfl (fun _ => ?_) (fun h => by simp [hp1] at h)
            simp
            refine h19 _ _ _ ?_
            refine ab_seq_k fun K21 h21 => ?_
            simp [he0, hnm]
            refine callK_of (wk _) ?_
            simp
            refine h21 _ _ _ ?_
            simp
            exact fin_of 1 (by simp [rs15])
          · rw [if_neg hp1] at hnm
            refine ab_cond_of rfl (fun h => by simp [hp1] at h) (fun _ => ?_)
            simp
            refine h19 _ _ _ ?_
            refine ab_seq_k fun K21 h21 => ?_
            simp [he0, hnm]
            refine callK_of (wk _) ?_
            simp
            refine h21 _ _ _ ?_
            simp
            exact fin_of 1 (by simp [rs15])
        clear h16 h15
        by_cases hin : (i : Int) ∈ p.2.1
        · simp [hin]
          exact hK16 _ _ rfl rfl
        · by_cases h1 : p.1 = 1
          · rw [h1] at g1 g1'
            by_cases h2 : p.2.1 = []
            · simp [hin, hi, hpl2, g1, g1', h2]
              exact hK16 _ _ rfl rfl
            · simp [hin, hi, hpl2, g1, g1', h2]
              exact hK16n _ _ rfl rfl rfl rfl rfl rfl rfl (hm hin (fun h => h2 h.2))
          · simp [hin, hi, hpl2, g1, g1', h1]
            exact hK16n _ _ rfl rfl rfl rfl rfl rfl rfl (hm hin (fun h => h1 h.1))
      clear h13 h12
      by_cases hy0 : 0 ≤ y
      · obtain ⟨he0, hnp⟩ := hy hy0
        have hnp2 : ¬ (kl.length : Int) < n := by rw [hpcs]; omega
        simp [w3, w7, w8, w9, w12, w13, hWlb, hi, hWb, hWb', hy0, he0, hnp2]
        exact hK13 _ rfl rfl rfl (by rw [← he0]; rfl) rfl
      · simp [w3, w7, w8, w9, w12, w13, hWlb, hi, hWb, hWb', hy0]
        exact hK13 _ rfl rfl rfl rfl rfl
    clear h11 h10
    have hn1 : ¬ n < 0 := by omega
    rcases he with he | he
    · subst he
      by_cases hx0 : 0 ≤ x
      · have hn2 : n = 0 := (hx.2 hx0).2
        subst hn2
        simp [hWla, hWlb, hi, hWa, hWa', hx0]
        exact hK11 _ rfl rfl rfl rfl rfl rfl rfl
      · have hn2 : ¬ n = 0 := fun h => hx0 (hx.1 ⟨rfl, h⟩)
        simp [hWla, hWlb, hi, hWa, hWa', hx0, hn1, hn2]
        exact hK11 _ rfl rfl rfl rfl rfl rfl rfl
    · subst he
      have hx0 : ¬ 0 ≤ x := fun h => by have := hx.2 h; omega
      simp [hWla, hWlb, hi, hWa, hWa', hx0, hn1]
      exact hK11 _ rfl rfl rfl rfl rfl rfl rfl
end Go.Ab
