/- The law JamKeys: the fewest keys, all tight keys, the kind of a log are what the definitions say. -/
import Derived.Test.YtgndegccjhdmmaaGreatMH
import Derived.Test.YtgndegccjhdmmaaGreatMI
import Derived.Test.YtgndegccjhdmmaaGreatJWd
import Derived.Test.YtgndegccjhdmmaaGreatJW
set_option linter.unusedVariables false
set_option linter.unusedSimpArgs false
set_option maxHeartbeats 4000000
set_option maxRecDepth 100000
namespace Go.Ab
open Go Go.Proofs

def ic4 : IC := (.seq (.reg [.op (some 2) none (.box (.t 0)), .op (some 4) none (.mov (.c (.b false)))] (some [1, 2])) (.seq (.seq (.reg [.op (some 17) none (.loadA 1 (.t 2)), .call (some 18) none 17 [(.t 17)], .op (some 19) none (.mov (.t 18)), .op (some 20) (some (19, false)) (.loadA 1 (.t 2)), .call (some 21) (some (19, false)) 28 [(.t 20)], .op (some 22) none (.pick (.t 19) (.c (.b true)) (.t 21))] (some [1, 2, 22])) (.cond (.t 22) (.seq (.reg [.call (some 23) none 18 [], .op (some 4) none (.mov (.t 23))] (some [4])) .ret) .skip)) (.seq (.reg [.op (some 25) none (.loadA 1 (.t 2)), .call (some 26) none 29 [(.t 25)], .op (some 24) none (.mov (.t 26)), .op (some 27) none (.ext 0 (.t 24)), .op (some 28) none (.ext 1 (.t 24)), .op (some 5) none (.mov (.t 27)), .op (some 6) none (.mov (.t 28))] (some [1, 2, 5, 6])) (.seq (.reg [.op (some 30) none (.loadA 1 (.t 2)), .call (some 31) none 30 [(.t 30)], .op (some 29) none (.mov (.t 31)), .op (some 32) none (.ext 0 (.t 29)), .op (some 33) none (.ext 1 (.t 29)), .op (some 7) none (.mov (.t 32)), .op (some 8) none (.mov (.t 33))] (some [1, 2, 5, 6, 7, 8])) (.seq (.reg [.op (some 35) none (.loadA 1 (.t 2)), .call (some 36) none 31 [(.t 35)], .op (some 34) none (.mov (.t 36)), .op (some 37) none (.ext 0 (.t 34)), .op (some 38) none (.ext 1 (.t 34)), .op (some 9) none (.mov (.t 37)), .op (some 10) none (.mov (.t 38))] (some [1, 2, 5, 6, 7, 8, 9, 10])) (.seq (.reg [.op (some 40) none (.loadA 1 (.t 2)), .call (some 41) none 32 [(.t 40)], .op (some 39) none (.mov (.t 41)), .op (some 42) none (.ext 0 (.t 39)), .op (some 43) none (.ext 1 (.t 39)), .op (some 11) none (.mov (.t 42)), .op (some 12) none (.mov (.t 43))] (some [1, 2, 5, 6, 7, 8, 9, 10, 11, 12])) (.seq (.reg [.op (some 45) none (.loadA 1 (.t 2)), .op (some 46) none (.mov (.t 1)), .call (some 47) none 33 [(.t 45), (.t 46)], .op (some 44) none (.mov (.t 47)), .op (some 48) none (.ext 0 (.t 44)), .op (some 49) none (.ext 1 (.t 44)), .op (some 13) none (.mov (.t 48)), .op (some 14) none (.mov (.t 49))] (some [1, 2, 5, 6, 7, 8, 9, 10, 11, 12, 13, 14])) (.seq (.reg [.op (some 51) none (.loadA 1 (.t 2)), .op (some 52) none (.mov (.t 1)), .call (some 53) none 34 [(.t 51), (.t 52)], .op (some 50) none (.mov (.t 53)), .op (some 54) none (.ext 0 (.t 50)), .op (some 55) none (.ext 1 (.t 50)), .op (some 15) none (.mov (.t 54)), .op (some 16) none (.mov (.t 55))] (some [5, 6, 7, 8, 9, 10, 11, 12, 13, 14, 15, 16])) (.seq (.reg [.op (some 56) none (.mov (.t 5)), .op (some 57) none (.mov (.t 7)), .call (some 58) none 25 [(.t 56), (.t 57)], .op (some 59) none (.mov (.t 58)), .op (some 60) (some (59, true)) (.mov (.t 6)), .op (some 61) (some (59, true)) (.mov (.t 8)), .op (some 62) (some (59, true)) (.bin .eql (.t 60) (.t 61)), .op (some 63) none (.pick (.t 59) (.t 62) (.c (.b false))), .op (some 64) none (.mov (.t 63)), .op (some 65) (some (64, true)) (.mov (.t 9)), .op (some 66) (some (64, true)) (.mov (.t 11)), .call (some 67) (some (64, true)) 35 [(.t 65), (.t 66)], .op (some 68) none (.pick (.t 64) (.t 67) (.c (.b false))), .op (some 69) none (.mov (.t 68)), .op (some 70) (some (69, true)) (.mov (.t 10)), .op (some 71) (some (69, true)) (.mov (.t 12)), .op (some 72) (some (69, true)) (.bin .eql (.t 70) (.t 71)), .op (some 73) none (.pick (.t 69) (.t 72) (.c (.b false))), .op (some 74) none (.mov (.t 73)), .op (some 75) (some (74, true)) (.mov (.t 13)), .op (some 76) (some (74, true)) (.mov (.t 15)), .op (some 77) (some (74, true)) (.bin .eql (.t 75) (.t 76)), .op (some 78) none (.pick (.t 74) (.t 77) (.c (.b false))), .op (some 79) none (.mov (.t 78)), .op (some 80) (some (79, true)) (.mov (.t 14)), .op (some 81) (some (79, true)) (.mov (.t 16)), .op (some 82) (some (79, true)) (.bin .eql (.t 80) (.t 81)), .op (some 83) none (.pick (.t 79) (.t 82) (.c (.b false))), .op (some 84) none (.mov (.t 83)), .call (some 85) (some (84, true)) 18 [], .op (some 86) none (.pick (.t 84) (.t 85) (.c (.b false))), .op (some 4) none (.mov (.t 86))] (some [4])) .ret)))))))))
def rs4 : List IRes := [.tmp 4]
theorem fn4 : Fn_ Tryz.prog 4 Tryz.f4 [] ic4 rs4 := ⟨by kernel_rfl, by decide, by kernel_rfl, by kernel_rfl⟩

theorem fewV_form {J} : ∃ (l : List Int) (f : Bool) (e : Int), fewV J = .tup [sl l f, .i .i64 e] ∧ l.length ≤ 12 := by
  unfold fewV
  split
  · exact ⟨[], true, _, rfl, by simp⟩
  · exact ⟨_, _, _, rfl, bl_len⟩
theorem keysV_form {J : List Lg} (hl : ∀ x ∈ J, x.2.1.length ≤ 1000000) : ∃ (L : List Nat) (f : Bool) (e : Int), keysV J = .tup [.ss (lv L) L.length f, .i .i64 e] ∧ L.length ≤ 60000 := by
  unfold keysV
  by_cases hc : checkJ J = 0
  · rw [if_neg (by simp [hc])]
    have hN := (check_ok hl hc).2.1
    have hpw := pow12 hN
    have h1 := keysTo_len (J := J) (i := 2 ^ J.length)
    exact ⟨lexS (keysTo J (2 ^ J.length)), _, _, by rw [lexS_len], by rw [lexS_len]; omega⟩
  · rw [if_pos hc]
    exact ⟨[], true, _, rfl, by simp⟩
theorem jamKeys {J : List Lg} {f : Bool} {log : Int} {σ : List O} : FSpec Tryz.prog 4 [jamV J f, .i .i64 log] σ (.b true) σ := by
  refine FSpec.frame (σ := σ) ?_ (by simp) rfl
  refine fn4.spec0 mixed noIt_ok ?_
  rw [ic4]
  refine ab_seq_k fun K1 h1 => ?_
  simp
  refine h1 _ _ _ ?_
  clear h1 K1
  refine ab_seq_k fun K2 h2 => ?_
  refine ab_seq_k fun K3 h3 => ?_
  simp
  refine callK_of great17 ?_
  have hK3 : ∀ env c, get env 1 = .i .i64 log → get env 2 = .p 0 0 0 → get env 22 = .b c → c = (grB J || wideB J) → K3 (some 0) env [.row 0 [slJ J f]] := by
    intro env c w1 w2 w22 hc
    refine h3 _ _ _ ?_
    clear h3 K3
    cases c with
    | true =>
      refine ab_cond_of w22 (fun _ => ?_) (fun h => by cases h)
      refine ab_seq_k fun K4 h4 => ?_
      simp
      refine callK_of (wk _) ?_
      simp
      refine h4 _ _ _ ?_
      clear h4 K4
      simp
      exact fin_of 1 (by simp [rs4])
    | false =>
      refine ab_cond_of w22 (fun h => by cases h) (fun _ => ?_)
      simp only [Bool.false_eq, Bool.or_eq_false_iff] at hc
      obtain ⟨hgr, -⟩ := hc
      obtain ⟨hJ, hl⟩ := gr_small hgr
      have hJ1 : J.length ≤ 1000000 := by omega
      have hl1 : ∀ x ∈ J, x.2.1.length ≤ 1000000 := fun x hx => by have := hl x hx; omega
      simp [w1, w2]
      refine h2 _ _ _ ?_
      clear h2 K2
      have q29 := fun σ => fewest29 (f := f) (σ := σ) hJ1 hl1
      have q30 := fun σ => rfewest30 (f := f) (σ := σ) hJ1 hl1
      have q31 := fun σ => keys31 (f := f) (σ := σ) hJ1 hl1
      have q32 := fun σ => keys32 (f := f) (σ := σ) hJ1 hl1
      have q33 := fun σ => kind33 (f := f) (log := log) (σ := σ) hJ1 hl1
      have q34 := fun σ => rkind34 (f := f) (log := log) (σ := σ) hJ1 hl1
      obtain ⟨l, fl, e, hF, hFl⟩ := fewV_form (J := J)
      obtain ⟨L, fL, e2, hK, hKl⟩ := keysV_form (J := J) hl1
      rw [hF] at q29 q30
      rw [hK] at q31 q32
      generalize kindV J log = r at *
      refine ab_seq_k fun K5 h5 => ?_
      simp [w1, w2]
      refine callK_of (q29 _) ?_
      simp [w1, w2]
      refine h5 _ _ _ ?_
      clear h5 K5
      refine ab_seq_k fun K6 h6 => ?_
      simp
      refine callK_of (q30 _) ?_
      simp
      refine h6 _ _ _ ?_
      clear h6 K6
      refine ab_seq_k fun K7 h7 => ?_
      simp
      refine callK_of (q31 _) ?_
      simp
      refine h7 _ _ _ ?_
      clear h7 K7
      refine ab_seq_k fun K8 h8 => ?_
      simp
      refine callK_of (q32 _) ?_
      simp
      refine h8 _ _ _ ?_
      clear h8 K8
      refine ab_seq_k fun K9 h9 => ?_
      simp
      refine callK_of (q33 _) ?_
      simp
      refine h9 _ _ _ ?_
      clear h9 K9
      refine ab_seq_k fun K10 h10 => ?_
      simp
      refine callK_of (q34 _) ?_
      simp
      refine h10 _ _ _ ?_
      clear h10 K10
      refine ab_seq_k fun K11 h11 => ?_
      simp
      refine callK_of (ints25F (by omega)) ?_
      simp
      refine callK_of (lists35 hKl) ?_
      simp
      refine callK_of (wk _) ?_
      simp
      refine h11 _ _ _ ?_
      simp
      exact fin_of 1 (by simp [rs4])
  clear h2 h3
  cases hg : grB J with
  | true =>
    simp
    exact hK3 _ true rfl rfl rfl (by simp [hg])
  | false =>
    obtain ⟨hJ, hl⟩ := gr_small hg
    simp
    refine callK_of (wide28 (by omega) (fun x hx => by have := hl x hx; omega)) ?_
    simp
    exact hK3 _ _ rfl rfl rfl (by rw [hg]; rfl)
end Go.Ab
