/- The law JamWaves. -/
import Derived.Test.YtgndegccjhdmmaaGreatJN
import Derived.Test.YtgndegccjhdmmaaGreatJW
set_option linter.unusedVariables false
set_option linter.unusedSimpArgs false
set_option maxHeartbeats 4000000
set_option maxRecDepth 100000
namespace Go.Ab
open Go Go.Proofs

def ic12_0 : IC := (.seq (.seq (.reg [.op (some 56) none (.mov (.t 10)), .op (some 57) none (.fad 0 (.t 2)), .op (some 58) none (.load1 (.t 57)), .op (some 59) none (.mov (.t 8)), .op (some 60) none (.ixs 2 (.t 58) (.t 59)), .op (some 61) none (.fad 1 (.t 60)), .op (some 62) none (.load1 (.t 61)), .op (some 63) none (.len (.t 62)), .op (some 64) none (.bin .lss (.t 56) (.t 63))] (some [2, 5, 6, 8, 9, 10, 64])) (.cond (.t 64) .skip (.exit 2))) (.seq (.block 3 (.seq (.reg [.op (some 67) none (.mov (.t 6)), .op (some 68) none (.fad 0 (.t 2)), .op (some 69) none (.load1 (.t 68)), .op (some 70) none (.mov (.t 8)), .op (some 71) none (.ixs 2 (.t 69) (.t 70)), .op (some 72) none (.fad 1 (.t 71)), .op (some 73) none (.load1 (.t 72)), .op (some 74) none (.mov (.t 10)), .op (some 75) none (.ixs 1 (.t 73) (.t 74)), .op (some 76) none (.load1 (.t 75)), .op (some 77) none (.ixs 1 (.t 67) (.t 76)), .op (some 78) none (.load1 (.t 77)), .op (some 11) none (.mov (.t 78))] (some [2, 5, 6, 8, 9, 10, 11])) (.seq (.seq (.reg [.op (some 79) none (.fad 0 (.t 2)), .op (some 80) none (.load1 (.t 79)), .op (some 81) none (.mov (.t 8)), .op (some 82) none (.ixs 2 (.t 80) (.t 81)), .op (some 83) none (.fad 0 (.t 82)), .op (some 84) none (.load1 (.t 83)), .op (some 85) none (.bin .eql (.t 84) (.c (.i .i64 0))), .op (some 86) none (.mov (.t 85)), .op (some 87) (some (86, true)) (.mov (.t 9)), .op (some 88) (some (86, true)) (.bin .geq (.t 87) (.c (.i .i64 0))), .op (some 89) none (.pick (.t 86) (.t 88) (.c (.b false)))] (some [2, 5, 6, 8, 9, 10, 11, 89])) (.cond (.t 89) (.seq (.reg [.op (some 90) none (.mov (.t 9)), .op (some 91) none (.mov (.t 11)), .op (some 92) none (.bin .add (.t 91) (.c (.i .i64 1))), .op (some 93) none (.mx [(.t 90), (.t 92)]), .op (some 9) none (.mov (.t 93))] (some [2, 5, 6, 8, 9, 10, 11])) (.seq (.reg [.op (some 94) none (.mov (.t 11)), .op (some 95) none (.bin .lss (.t 94) (.c (.i .i64 0)))] (some [2, 5, 6, 8, 9, 10, 11, 95])) (.cond (.t 95) (.reg [.op (some 9) none (.mov (.c (.i .i64 (-1))))] (some [2, 5, 6, 8, 9, 10, 11])) .skip))) .skip)) (.seq (.reg [.op (some 96) none (.fad 0 (.t 2)), .op (some 97) none (.load1 (.t 96)), .op (some 98) none (.mov (.t 8)), .op (some 99) none (.ixs 2 (.t 97) (.t 98)), .op (some 100) none (.fad 0 (.t 99)), .op (some 101) none (.load1 (.t 100)), .op (some 102) none (.bin .eql (.t 101) (.c (.i .i64 1))), .op (some 103) none (.mov (.t 102)), .op (some 104) (some (103, true)) (.mov (.t 11)), .op (some 105) (some (103, true)) (.bin .geq (.t 104) (.c (.i .i64 0))), .op (some 106) none (.pick (.t 103) (.t 105) (.c (.b false))), .op (some 107) none (.mov (.t 106)), .op (some 108) (some (107, true)) (.mov (.t 9)), .op (some 109) (some (107, true)) (.bin .lss (.t 108) (.c (.i .i64 0))), .op (some 110) (some (107, true)) (.mov (.t 109)), .op (some 111) (some (110, false)) (.mov (.t 11)), .op (some 112) (some (110, false)) (.bin .add (.t 111) (.c (.i .i64 1))), .op (some 113) (some (110, false)) (.mov (.t 9)), .op (some 114) (some (110, false)) (.bin .lss (.t 112) (.t 113)), .op (some 115) (some (107, true)) (.pick (.t 110) (.c (.b true)) (.t 114)), .op (some 116) none (.pick (.t 107) (.t 115) (.c (.b false)))] (some [2, 5, 6, 8, 9, 10, 11, 116])) (.cond (.t 116) (.reg [.op (some 117) none (.mov (.t 11)), .op (some 118) none (.bin .add (.t 117) (.c (.i .i64 1))), .op (some 9) none (.mov (.t 118))] (some [2, 5, 6, 8, 9, 10])) .skip))))) (.reg [.op (some 65) none (.mov (.t 10)), .op (some 66) none (.bin .add (.t 65) (.c (.i .i64 1))), .op (some 10) none (.mov (.t 66))] (some [2, 5, 6, 8, 9, 10]))))
def ic12_1 : IC := (.seq (.seq (.reg [.op (some 35) none (.mov (.t 8)), .op (some 36) none (.mov (.t 6)), .op (some 37) none (.len (.t 36)), .op (some 38) none (.bin .lss (.t 35) (.t 37))] (some [2, 5, 6, 8, 38])) (.cond (.t 38) .skip (.exit 0))) (.seq (.block 1 (.seq (.seq (.reg [.op (some 41) none (.mov (.t 5)), .op (some 42) none (.mov (.t 8)), .call (some 43) none 53 [(.t 41), (.t 42)]] (some [2, 5, 6, 8, 43])) (.cond (.t 43) (.seq (.seq (.reg [.op (some 44) none (.mov (.t 6)), .op (some 45) none (.mov (.t 8)), .op (some 46) none (.ixs 1 (.t 44) (.t 45)), .op (some 47) none (.load1 (.t 46)), .op (some 48) none (.bin .neq (.t 47) (.c (.i .i64 0)))] (some [2, 5, 6, 8, 48])) (.cond (.t 48) (.seq (.reg [.op (some 4) none (.mov (.c (.b false)))] (some [4])) .ret) .skip)) (.exit 1)) .skip)) (.seq (.reg [.op (some 9) none (.mov (.c (.i .i64 1)))] (some [2, 5, 6, 8, 9])) (.seq (.seq (.reg [.op (some 49) none (.fad 0 (.t 2)), .op (some 50) none (.load1 (.t 49)), .op (some 51) none (.mov (.t 8)), .op (some 52) none (.ixs 2 (.t 50) (.t 51)), .op (some 53) none (.fad 0 (.t 52)), .op (some 54) none (.load1 (.t 53)), .op (some 55) none (.bin .eql (.t 54) (.c (.i .i64 1)))] (some [2, 5, 6, 8, 9, 55])) (.cond (.t 55) (.reg [.op (some 9) none (.mov (.c (.i .i64 (-1))))] (some [2, 5, 6, 8, 9])) .skip)) (.seq (.seq (.reg [.op (some 10) none (.mov (.c (.i .i64 0)))] (some [2, 5, 6, 8, 9, 10])) (.block 2 (.loop (some [2, 5, 6, 8, 9, 10]) ic12_0))) (.seq (.reg [.op (some 119) none (.mov (.t 6)), .op (some 120) none (.mov (.t 8)), .op (some 121) none (.ixs 1 (.t 119) (.t 120)), .op (some 122) none (.load1 (.t 121)), .op (some 123) none (.mov (.t 9)), .op (some 124) none (.bin .neq (.t 122) (.t 123))] (some [2, 5, 6, 8, 124])) (.cond (.t 124) (.seq (.reg [.op (some 4) none (.mov (.c (.b false)))] (some [4])) .ret) .skip))))))) (.reg [.op (some 39) none (.mov (.t 8)), .op (some 40) none (.bin .add (.t 39) (.c (.i .i64 1))), .op (some 8) none (.mov (.t 40))] (some [2, 5, 6, 8]))))
def ic12 : IC := (.seq (.reg [.op (some 2) none (.box (.t 0)), .op (some 4) none (.mov (.c (.b false)))] (some [1, 2])) (.seq (.seq (.reg [.op (some 12) none (.loadA 1 (.t 2)), .call (some 13) none 47 [(.t 12)], .op (some 14) none (.not (.t 13))] (some [1, 2, 14])) (.cond (.t 14) (.seq (.reg [.call (some 15) none 18 [], .op (some 4) none (.mov (.t 15))] (some [4])) .ret) .skip)) (.seq (.reg [.op (some 16) none (.loadA 1 (.t 2)), .op (some 17) none (.mov (.t 1)), .call (some 18) none 48 [(.t 16), (.t 17)], .op (some 5) none (.mov (.t 18))] (some [2, 5])) (.seq (.reg [.op (some 20) none (.loadA 1 (.t 2)), .op (some 21) none (.mov (.t 5)), .call (some 22) none 19 [(.t 20), (.t 21)], .op (some 19) none (.mov (.t 22)), .op (some 23) none (.ext 0 (.t 19)), .op (some 24) none (.ext 1 (.t 19)), .op (some 6) none (.mov (.t 23)), .op (some 7) none (.mov (.t 24))] (some [2, 5, 6, 7])) (.seq (.seq (.reg [.op (some 25) none (.mov (.t 7)), .op (some 26) none (.bin .neq (.t 25) (.c (.i .i64 0))), .op (some 27) none (.mov (.t 26)), .op (some 28) (some (27, false)) (.mov (.t 6)), .op (some 29) (some (27, false)) (.len (.t 28)), .op (some 30) (some (27, false)) (.fad 0 (.t 2)), .op (some 31) (some (27, false)) (.load1 (.t 30)), .op (some 32) (some (27, false)) (.len (.t 31)), .op (some 33) (some (27, false)) (.bin .neq (.t 29) (.t 32)), .op (some 34) none (.pick (.t 27) (.c (.b true)) (.t 33))] (some [2, 5, 6, 34])) (.cond (.t 34) (.seq (.reg [.op (some 4) none (.mov (.c (.b false)))] (some [4])) .ret) .skip)) (.seq (.seq (.reg [.op (some 8) none (.mov (.c (.i .i64 0)))] (some [2, 5, 6, 8])) (.block 0 (.loop (some [2, 5, 6, 8]) ic12_1))) (.seq (.reg [.call (some 125) none 18 [], .op (some 4) none (.mov (.t 125))] (some [4])) .ret)))))))
def rs12 : List IRes := [.tmp 4]
theorem fn12 : Fn_ Tryz.prog 12 Tryz.f12 [] ic12 rs12 := ⟨by kernel_rfl, by decide, by kernel_rfl, by kernel_rfl⟩

theorem isLF_iff {N : Int} : ∀ {l : List Int} {nx : Int}, isLF N nx l = true ↔ l.Pairwise (· < ·) ∧ ∀ x ∈ l, nx ≤ x ∧ x < N
  | [], nx => by simp [isLF]
  | y :: r, nx => by
    have ih := isLF_iff (N := N) (l := r) (nx := y + 1)
    simp only [isLF, fit, Bool.and_eq_true, decide_eq_true_eq]
    rw [ih, List.pairwise_cons]
    constructor
    · rintro ⟨⟨h1, h2⟩, h3, h4⟩
      refine ⟨⟨fun x hx => by have := h4 x hx; omega, h3⟩, fun x hx => ?_⟩
      rcases List.mem_cons.1 hx with rfl | hx
      · omega
      · have := h4 x hx; omega
    · rintro ⟨⟨h1, h2⟩, h3⟩
      have h4 := h3 y (List.mem_cons_self ..)
      exact ⟨⟨h4.1, by omega⟩, h2, fun x hx => ⟨by have := h1 x hx; omega, (h3 x (List.mem_cons_of_mem _ hx)).2⟩⟩
theorem bl_mem {s : Nat} {x : Int} : ∀ {k : Nat}, x ∈ bl s k ↔ ∃ j : Nat, j < k ∧ x = j ∧ s.testBit j = true
  | 0 => by simp [bl]
  | k + 1 => by
    have ih := bl_mem (s := s) (x := x) (k := k)
    simp only [bl]
    split
    · rename_i h
      rw [List.mem_append, ih, List.mem_singleton]
      constructor
      · rintro (⟨j, h1, h2, h3⟩ | rfl)
        · exact ⟨j, by omega, h2, h3⟩
        · exact ⟨k, by omega, rfl, h⟩
      · rintro ⟨j, h1, h2, h3⟩
        by_cases hj : j = k
        · exact .inr (by rw [h2, hj])
        · exact .inl ⟨j, by omega, h2, h3⟩
    · rename_i h
      rw [ih]
      constructor
      · rintro ⟨j, h1, h2, h3⟩; exact ⟨j, by omega, h2, h3⟩
      · rintro ⟨j, h1, h2, h3⟩
        by_cases hj : j = k
        · rw [hj] at h3; exact absurd h3 h
        · exact ⟨j, by omega, h2, h3⟩
theorem bl_sorted {s : Nat} : ∀ {k : Nat}, (bl s k).Pairwise (· < ·)
  | 0 => by simp [bl]
  | k + 1 => by
    have ih := bl_sorted (s := s) (k := k)
    simp only [bl]
    split
    · rw [List.pairwise_append]
      refine ⟨ih, by simp, fun a ha b hb => ?_⟩
      rw [List.mem_singleton] at hb
      obtain ⟨j, h1, h2, -⟩ := bl_mem.1 ha
      omega
    · exact ih
theorem bit_small {s N j : Nat} (h : s < 2 ^ N) (hj : s.testBit j = true) : j < N := by
  false_or_by_contra
  rename_i hn
  have := Nat.testBit_lt_two_pow (Nat.lt_of_lt_of_le h (Nat.pow_le_pow_right (n := 2) (by omega) (by omega : N ≤ j)))
  rw [hj] at this; cases this
theorem isL_bl {s N k : Nat} (h : s < 2 ^ N) : isL N (bl s k) = true := by
  unfold isL
  rw [isLF_iff]
  refine ⟨bl_sorted, fun x hx => ?_⟩
  obtain ⟨j, h1, h2, h3⟩ := bl_mem.1 hx
  have := bit_small h h3
  omega
theorem setB_bl {s k : Nat} (h : s < 2 ^ k) : setB (bl s k) = s := by
  apply Nat.eq_of_testBit_eq
  intro j
  have hb := setB_bit (l := bl s k) (fun x hx => by obtain ⟨j, -, h2, -⟩ := bl_mem.1 hx; omega) (j := j)
  rw [Bool.eq_iff_iff, hb, bl_mem]
  constructor
  · rintro ⟨i, h1, h2, h3⟩
    have : i = j := by omega
    rw [← this]; exact h3
  · intro h1
    exact ⟨j, bit_small h h1, rfl, h1⟩
theorem keysS_lt {J : List Lg} {b : Nat} : keysS J b < 2 ^ J.length := Nat.mod_lt _ (Nat.two_pow_pos _)
/-- Waves by bits. -/
theorem wav_bits {J : List Lg} {s : Nat} (hJ : JOK J) (hc : checkJ J = 0) (hs : s < 2 ^ J.length) : wavV J (bl s 16) = .tup [sl (wavL J s) false, .i .i64 0] := by
  have hN := hJ.2.1
  unfold wavV
  rw [if_neg (fun h => h hc), isL_bl hs, setB_bl (Nat.lt_of_lt_of_le hs (Nat.pow_le_pow_right (n := 2) (by omega) (by omega)))]
  rfl
def stepW (k : Int) (w : Int → Int) (a b : Int) : Int := if k = 0 then wantA w a b else wantS w a b
theorem want_step {J : List Lg} {w : Int → Int} {i : Nat} {p : Lg} (hp : J[i]? = some p) : want J w i = p.2.1.foldl (stepW p.1 w) (if p.1 = 0 then 1 else -1) := by
  have hg : J.getD i (0, [], true) = p := by rw [List.getD_eq_getElem?_getD, hp]; rfl
  unfold want kd
  rw [hg]
  by_cases h : p.1 = 0
  · rw [if_pos h, if_pos h]
    congr 1
    funext a b
    unfold stepW
    rw [if_pos h]
  · rw [if_neg h, if_neg h]
    congr 1
    funext a b
    unfold stepW
    rw [if_neg h]
theorem fold_take {l : List Int} {f : Int → Int → Int} {a : Int} {n : Nat} {x : Int} (h : l[n]? = some x) : (l.take (n + 1)).foldl f a = f ((l.take n).foldl f a) x := by
  rw [List.take_add_one, h]
  simp [List.foldl_append]
theorem step_b {k : Int} {w : Int → Int} {a b : Int} (ha : -1 ≤ a ∧ a ≤ 100) (hb : -1 ≤ w b ∧ w b ≤ 12) : -1 ≤ stepW k w a b ∧ stepW k w a b ≤ 100 := by
  unfold stepW wantA wantS
  repeat' split
  all_goals omega
theorem fold_b {k : Int} {w : Int → Int} : ∀ {l : List Int} {a : Int}, (-1 ≤ a ∧ a ≤ 100) → (∀ b ∈ l, -1 ≤ w b ∧ w b ≤ 12) → -1 ≤ l.foldl (stepW k w) a ∧ l.foldl (stepW k w) a ≤ 100
  | [], a, h, _ => h
  | b :: l, a, h, hw => fold_b (l := l) (step_b h (hw b (List.mem_cons_self ..))) (fun x hx => hw x (List.mem_cons_of_mem _ hx))

theorem jamWaves {J : List Lg} {f : Bool} {b : Nat} {σ : List O} (hb : b < 65536) : FSpec Tryz.prog 12 [jamV J f, .i .u16 b] σ (.b true) σ := by
  refine FSpec.frame (σ := σ) ?_ (by simp) rfl
  refine fn12.spec0 mixed noIt_ok ?_
  rw [ic12]
  refine ab_seq_k fun K1 h1 => ?_
  simp
  refine h1 _ _ _ ?_
  clear h1 K1
  refine ab_seq_k fun K2 h2 => ?_
  refine ab_seq_k fun K3 h3 => ?_
  simp
  refine callK_of fine47 ?_
  simp
  refine h3 _ _ _ ?_
  clear h3 K3
  cases hf : fineB J with
  | false =>
    refine ab_cond_of rfl (fun _ => ?_) (fun h => by cases h)
    refine ab_seq_k fun K4 h4 => ?_
    simp
    refine callK_of (wk _) ?_
    simp
    refine h4 _ _ _ ?_
    clear h4 K4
    simp
    exact fin_of 1 (by simp [rs12])
  | true =>
    refine ab_cond_of rfl (fun h => by cases h) (fun _ => ?_)
    obtain ⟨hJ, hc, hp⟩ := fine_ok hf
    have hN := hJ.2.1
    have hs := keysS_lt (J := J) (b := b)
    have hwb := wav_bits hJ hc hs
    have hs16 : keysS J b < 2 ^ 16 := Nat.lt_of_lt_of_le hs (Nat.pow_le_pow_right (n := 2) (by omega) (by omega))
    have hk48 := fun σ => keys48 (f := f) (b := b) (σ := σ) hJ hb
    have hbm : ∀ i : Nat, i < J.length → decide ((i : Int) ∈ bl (keysS J b) 16) = (keysS J b).testBit i := fun i hi => by
      rw [Bool.eq_iff_iff, decide_eq_true_eq, bl_mem]
      constructor
      · rintro ⟨j, h1, h2, h3⟩
        have : j = i := by omega
        rw [← this]; exact h3
      · intro h; exact ⟨i, by omega, rfl, h⟩
    have hbl16 := bl_len (s := keysS J b) (k := 16)
    have hw19 := fun σ fk => waves19 (J := J) (f := f) (fk := fk) (k := bl (keysS J b) 16) (σ := σ) (by omega) (fun x hx => by have := (hp x hx).2.2; omega) (by omega)
    rw [hwb] at hw19
    have hWlen : (wavL J (keysS J b)).length = J.length := rowF_len
    have hWat : ∀ j : Nat, j < J.length → (wavL J (keysS J b))[j]? = some (wr J (byB J) (keysS J b) J.length j) := fun j hj => rowF_get hj
    have hkey : ∀ j : Nat, j < J.length → (keysS J b).testBit j = true → wr J (byB J) (keysS J b) J.length j = 0 := fun j hj h => wave_key hj h
    have hwant : ∀ j : Nat, j < J.length → (keysS J b).testBit j = false → wr J (byB J) (keysS J b) J.length j = want J (fun b' => wr J (byB J) (keysS J b) J.length b'.toNat) j := fun j hj h => wave_want hJ (fun p hpm => (hp p hpm).1) hj h
    have hwbd : ∀ j : Nat, -1 ≤ wr J (byB J) (keysS J b) J.length j ∧ wr J (byB J) (keysS J b) J.length j ≤ 12 := fun j => by have := wr_b (J := J) (B := byB J) (keys := keysS J b) (r := J.length) (n := j); omega
    generalize wr J (byB J) (keysS J b) J.length = w at *
    generalize wavL J (keysS J b) = WL at *
    generalize hkl : bl (keysS J b) 16 = kl at *
    generalize keysS J b = s at *
    clear hwb hs16 hs
    simp
    refine h2 _ _ _ ?_
    clear h2 K2
    refine ab_seq_k fun K4 h4 => ?_
    simp
    refine callK_of (hk48 _) ?_
    simp
    refine h4 _ _ _ ?_
    clear h4 K4
    generalize hfl : (kl.length == 0) = fl at *
    refine ab_seq_k fun K5 h5 => ?_
    simp
    refine callK_of (hw19 _ _) ?_
    simp
    refine h5 _ _ _ ?_
    clear h5 K5
    refine ab_seq_k fun K6 h6 => ?_
    refine ab_seq_k fun K7 h7 => ?_
    simp [hWlen]
    refine h7 _ _ _ ?_
    clear h7 K7
    refine ab_cond_of rfl (fun h => by cases h) (fun _ => ?_)
    simp
    refine h6 _ _ _ ?_
    clear h6 K6
    refine ab_seq_k fun K8 h8 => ?_
    refine ab_seq_k fun K9 h9 => ?_
    simp
    refine h9 _ _ _ ?_
    clear h9 K9
    refine ab_block_k fun K10 h10 => ?_
    refine ab_loop_k (fun m env σ => ∃ i : Nat, i + m = J.length ∧ env = [(2, .p 0 0 0), (5, sl kl fl), (6, sl WL false), (8, .i .i64 i)] ∧ σ = [.row 0 [slJ J f]]) J.length ⟨0, by omega, by simp, rfl⟩ ?_
    rintro m env σ ⟨i, hi, rfl, rfl⟩ K11 h11
    rw [ic12_1]
    refine ab_seq_k fun K12 h12 => ?_
    refine ab_seq_k fun K13 h13 => ?_
    simp [hWlen]
    refine h13 _ _ _ ?_
    clear h13 K13
    refine ab_cond_of rfl (fun hc2 => ?_) (fun hc2 => ?_)
    · have hil : i < J.length := by simpa using hc2
      have hWi := hWat i hil
      obtain ⟨hWi1, hWi'⟩ := List.getElem?_eq_some_iff.1 hWi
      obtain ⟨p, hpi, hpm, hle, g1, g2⟩ := lg_at hil
      obtain ⟨hg1, g1'⟩ := List.getElem?_eq_some_iff.1 g1
      obtain ⟨hg2, g2'⟩ := List.getElem?_eq_some_iff.1 g2
      obtain ⟨hpL, hpk, hpl⟩ := hp p hpm
      have hmem := isLF_mem hpL
      simp
      refine h12 _ _ _ ?_
      clear h12 K12
      refine ab_seq_k fun K14 h14 => ?_
      refine ab_block_k fun K15 h15 => ?_
      have hend : ∀ env, get env 2 = .p 0 0 0 → get env 5 = sl kl fl → get env 6 = sl WL false → get env 8 = .i .i64 i → K15 (some 0) env [.row 0 [slJ J f]] := by
        intro env w2 w5 w6 w8
        refine h15 _ _ _ (h14 _ _ _ ?_)
        simp [w2, w5, w6, w8, wrap64 (x := (i : Int) + 1) (by omega) (by omega)]
        exact h11 _ _ _ (again (m - 1) (by omega) ⟨i + 1, by omega, by simp, rfl⟩)
      clear h15 h14 h11
      refine ab_seq_k fun K16 h16 => ?_
      refine ab_seq_k fun K17 h17 => ?_
      simp
      refine callK_of (has53 (by omega)) ?_
      rw [hbm i hil]
      simp
      refine h17 _ _ _ ?_
      clear h17 K17
      cases hbit : s.testBit i with
      | true =>
        have hw0 := hkey i hil hbit
        rw [hw0] at hWi hWi'
        refine ab_cond_of rfl (fun _ => ?_) (fun h => by cases h)
        refine ab_seq_k fun K18 h18 => ?_
        refine ab_seq_k fun K19 h19 => ?_
        simp [hWlen, hil, hWi, hWi']
        refine h19 _ _ _ ?_
        refine ab_cond_of rfl (fun h => by cases h) (fun _ => ?_)
        simp
        refine h18 _ _ _ ?_
        simp
        exact hend _ rfl rfl rfl rfl
      | false =>
        have hwi := hwant i hil hbit
        rw [want_step hpi] at hwi
        refine ab_cond_of rfl (fun h => by cases h) (fun _ => ?_)
        simp
        refine h16 _ _ _ ?_
        clear h16 K16
        refine ab_seq_k fun K20 h20 => ?_
        simp
        refine h20 _ _ _ ?_
        clear h20 K20
        have hwa : ∀ x ∈ p.2.1, -1 ≤ w x.toNat ∧ w x.toNat ≤ 12 := fun x _ => hwbd x.toNat
        generalize ha0 : (if p.1 = 0 then (1 : Int) else -1) = a0 at hwi
        have ha0b : -1 ≤ a0 ∧ a0 ≤ 100 := by rw [← ha0]; split <;> omega
        refine ab_seq_k fun K21 h21 => ?_
        have hK21 : ∀ env, get env 2 = .p 0 0 0 → get env 5 = sl kl fl → get env 6 = sl WL false → get env 8 = .i .i64 i → get env 9 = .i .i64 a0 → K21 (some 0) env [.row 0 [slJ J f]] := by
          intro env w2 w5 w6 w8 w9
          refine h21 _ _ _ ?_
          clear h21 K21
          refine ab_seq_k fun K23 h23 => ?_
          refine ab_seq_k fun K24 h24 => ?_
          simp [w2, w5, w6, w8, w9]
          refine h24 _ _ _ ?_
          clear h24 K24
          refine ab_block_k fun K25 h25 => ?_
          refine ab_loop_k (fun m env σ => ∃ n : Nat, n + m = p.2.1.length ∧ env = [(2, .p 0 0 0), (5, sl kl fl), (6, sl WL false), (8, .i .i64 i), (9, .i .i64 ((p.2.1.take n).foldl (stepW p.1 fun b' => w b'.toNat) a0)), (10, .i .i64 n)] ∧ σ = [.row 0 [slJ J f]]) p.2.1.length ⟨0, by omega, by simp, rfl⟩ ?_
          rintro m2 env2 σ2 ⟨n, hn, rfl, rfl⟩ K26 h26
          have hcur := fold_b (k := p.1) (w := fun b' => w b'.toNat) (l := p.2.1.take n) (a := a0) ha0b (fun x hx => hwa x (List.mem_of_mem_take hx))
          rw [ic12_0]
          refine ab_seq_k fun K27 h27 => ?_
          refine ab_seq_k fun K28 h28 => ?_
          simp [hil, hle, g2, g2']
          refine h28 _ _ _ ?_
          clear h28 K28
          refine ab_cond_of rfl (fun hc3 => ?_) (fun hc3 => ?_)
          · have hnl : n < p.2.1.length := by simpa using hc3
            obtain ⟨b1, b2, bm⟩ := getD_get hnl
            have hft := fold_take (f := stepW p.1 fun b' => w b'.toNat) (a := a0) b1
            generalize p.2.1.getD n 0 = x at *
            obtain ⟨x1, x2⟩ := hmem x bm
            obtain ⟨xn, rfl⟩ : ∃ xn : Nat, x = xn := ⟨x.toNat, by omega⟩
            have hxn : xn < J.length := by omega
            have hWx := hWat xn hxn
            have hwx := hwbd xn
            obtain ⟨hWx1, hWx'⟩ := List.getElem?_eq_some_iff.1 hWx
            generalize (p.2.1.take n).foldl (stepW p.1 fun b' => w b'.toNat) a0 = cur at *
            have hsx : stepW p.1 (fun b' => w b'.toNat) cur xn = stepW p.1 (fun _ => w xn) cur xn := by unfold stepW wantA wantS; simp
            rw [hsx] at hft
            clear hsx
            generalize w xn = y at *
            simp
            refine h27 _ _ _ ?_
            clear h27 K27
            refine ab_seq_k fun K29 h29 => ?_
            refine ab_block_k fun K30 h30 => ?_
            have hend2 : ∀ env, get env 2 = .p 0 0 0 → get env 5 = sl kl fl → get env 6 = sl WL false → get env 8 = .i .i64 i → get env 9 = .i .i64 (stepW p.1 (fun _ => y) cur xn) → get env 10 = .i .i64 n → K30 (some 0) env [.row 0 [slJ J f]] := by
              intro env w2 w5 w6 w8 w9 w10
              refine h30 _ _ _ (h29 _ _ _ ?_)
              simp [w2, w5, w6, w8, w9, w10, wrap64 (x := (n : Int) + 1) (by omega) (by omega)]
              exact h26 _ _ _ (again (m2 - 1) (by omega) ⟨n + 1, by omega, by simp [hft], rfl⟩)
            clear h29 h30 h26
            refine ab_seq_k fun K31 h31 => ?_
            simp [hil, hle, g2, g2', hnl, b1, b2, hWlen, hxn, hWx, hWx']
            refine h31 _ _ _ ?_
            clear h31 K31
            refine ab_seq_k fun K32 h32 => ?_
            refine ab_seq_k fun K33 h33 => ?_
            have hy1 := wrap64 (x := y + 1) (by omega) (by omega)
            rcases hpk with hp0 | hp1
            · have hst : stepW p.1 (fun _ => y) cur xn = if 0 ≤ cur then (if y < 0 then -1 else max cur (y + 1)) else cur := by unfold stepW wantA; rw [if_pos hp0]
              rw [hst] at hend2
              rw [hp0] at g1 g1'
              have hK32 : ∀ env v, get env 2 = .p 0 0 0 → get env 5 = sl kl fl → get env 6 = sl WL false → get env 8 = .i .i64 i → get env 9 = .i .i64 v → v = (if 0 ≤ cur then (if y < 0 then -1 else max cur (y + 1)) else cur) → get env 10 = .i .i64 n → get env 11 = .i .i64 y → K32 (some 0) env [.row 0 [slJ J f]] := by
                intro env v w2 w5 w6 w8 w9 hv w10 w11
                refine h32 _ _ _ ?_
                refine ab_seq_k fun K34 h34 => ?_
                simp [w2, w5, w6, w8, w9, w10, w11, hil, hle, g1, g1']
                refine h34 _ _ _ ?_
                refine ab_cond_of rfl (fun h => by cases h) (fun _ => ?_)
                simp
                exact hend2 _ rfl rfl rfl rfl (by rw [← hv]; rfl) rfl
              clear h32
              by_cases hcp : 0 ≤ cur
              · rw [if_pos hcp] at hK32
                simp [hil, hle, g1, g1', hcp]
                refine h33 _ _ _ ?_
                clear h33 K33
                refine ab_cond_of rfl (fun _ => ?_) (fun h => by cases h)
                refine ab_seq_k fun K35 h35 => ?_
                simp [hy1]
                refine h35 _ _ _ ?_
                clear h35 K35
                refine ab_seq_k fun K36 h36 => ?_
                simp
                refine h36 _ _ _ ?_
                clear h36 K36
                by_cases hyn : y < 0
                · rw [if_pos hyn] at hK32
                  refine ab_cond_of rfl (fun _ => ?_) (fun h => by simp [hyn] at h)
                  simp
                  exact hK32 _ _ rfl rfl rfl rfl rfl rfl rfl rfl
                · rw [if_neg hyn] at hK32
                  refine ab_cond_of rfl (fun h => by simp [hyn] at h) (fun _ => ?_)
                  simp
                  exact hK32 _ _ rfl rfl rfl rfl rfl rfl rfl rfl
              · rw [if_neg hcp] at hK32
                simp [hil, hle, g1, g1', hcp]
                refine h33 _ _ _ ?_
                clear h33 K33
                refine ab_cond_of rfl (fun h => by cases h) (fun _ => ?_)
                simp
                exact hK32 _ _ rfl rfl rfl rfl rfl rfl rfl rfl
            · have hst : stepW p.1 (fun _ => y) cur xn = if 0 ≤ y ∧ (cur < 0 ∨ y + 1 < cur) then y + 1 else cur := by unfold stepW wantS; rw [if_neg (by omega)]
              rw [hst] at hend2
              rw [hp1] at g1 g1'
              simp [hil, hle, g1, g1']
              refine h33 _ _ _ ?_
              clear h33 K33
              refine ab_cond_of rfl (fun h => by cases h) (fun _ => ?_)
              simp
              refine h32 _ _ _ ?_
              clear h32 K32
              refine ab_seq_k fun K34 h34 => ?_
              have hK34 : ∀ env c, get env 2 = .p 0 0 0 → get env 5 = sl kl fl → get env 6 = sl WL false → get env 8 = .i .i64 i → get env 9 = .i .i64 cur → get env 10 = .i .i64 n → get env 11 = .i .i64 y → get env 116 = .b c → c = decide (0 ≤ y ∧ (cur < 0 ∨ y + 1 < cur)) → K34 (some 0) env [.row 0 [slJ J f]] := by
                intro env c w2 w5 w6 w8 w9 w10 w11 w hc4
                refine h34 _ _ _ ?_
                refine ab_cond_of w (fun hb4 => ?_) (fun hb4 => ?_)
                · rw [hc4] at hb4
                  rw [if_pos (of_decide_eq_true hb4)] at hend2
                  simp [w2, w5, w6, w8, w9, w10, w11, hy1]
                  exact hend2 _ rfl rfl rfl rfl rfl rfl
                · rw [hc4] at hb4
                  rw [if_neg (of_decide_eq_false hb4)] at hend2
                  simp [w2, w5, w6, w8, w9, w10, w11]
                  exact hend2 _ w2 w5 w6 w8 w9 w10
              clear h34 hend2
              by_cases d1 : 0 ≤ y
              · by_cases d2 : cur < 0
                · simp [hil, hle, g1, g1', d1, d2]
                  exact hK34 _ _ rfl rfl rfl rfl rfl rfl rfl rfl (by simp [d1, d2])
                · simp [hil, hle, g1, g1', d1, d2, hy1]
                  exact hK34 _ _ rfl rfl rfl rfl rfl rfl rfl rfl (by simp [d1, d2])
              · simp [hil, hle, g1, g1', d1]
                exact hK34 _ _ rfl rfl rfl rfl rfl rfl rfl rfl (by simp [d1])
          · have hnl : p.2.1.length ≤ n := by simp at hc3; omega
            rw [List.take_of_length_le hnl, ← hwi]
            simp
            refine h25 _ _ _ (h23 _ _ _ ?_)
            refine ab_seq_k fun K40 h40 => ?_
            simp [hWlen, hil, hWi, hWi']
            refine h40 _ _ _ ?_
            refine ab_cond_of rfl (fun h => by cases h) (fun _ => ?_)
            simp
            exact hend _ rfl rfl rfl rfl
        clear h21 hend
        refine ab_seq_k fun K22 h22 => ?_
        simp [hil, hle, g1, g1']
        refine h22 _ _ _ ?_
        clear h22 K22
        rcases hpk with hp0 | hp1
        · rw [if_pos hp0] at ha0
          refine ab_cond_of rfl (fun h => by simp [hp0] at h) (fun _ => ?_)
          simp
          exact hK21 _ rfl rfl rfl rfl (by rw [← ha0]; rfl)
        · rw [if_neg (by omega)] at ha0
          refine ab_cond_of rfl (fun _ => ?_) (fun h => by simp [hp1] at h)
          simp
          exact hK21 _ rfl rfl rfl rfl (by rw [← ha0]; rfl)
    · have hil : i = J.length := by simp at hc2; omega
      simp
      refine h10 _ _ _ (h8 _ _ _ ?_)
      refine ab_seq_k fun K30 h30 => ?_
      simp
      refine callK_of (wk _) ?_
      simp
      refine h30 _ _ _ ?_
      clear h30 K30
      simp
      exact fin_of 1 (by simp [rs12])
end Go.Ab
