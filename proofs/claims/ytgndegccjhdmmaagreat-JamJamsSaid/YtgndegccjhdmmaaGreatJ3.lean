/- The law JamJams: waves, and what stays, are what the definitions say. -/
import Derived.Test.YtgndegccjhdmmaaGreatJY
import Derived.Test.YtgndegccjhdmmaaGreatJT
import Derived.Test.YtgndegccjhdmmaaGreatJW
set_option linter.unusedVariables false
set_option linter.unusedSimpArgs false
set_option maxHeartbeats 4000000
set_option maxRecDepth 100000
namespace Go.Ab
open Go Go.Proofs

theorem wavV_form {J k} : ∃ (W : List Int) (fW : Bool) (e : Int), wavV J k = .tup [sl W fW, .i .i64 e] ∧ W.length ≤ J.length := by
  unfold wavV
  split
  · exact ⟨[], true, _, rfl, by simp⟩
  · split
    · exact ⟨[], true, _, rfl, by simp⟩
    · exact ⟨_, _, _, rfl, by unfold wavL; rw [rowF_len]; omega⟩
theorem staysV_form {J k} : ∃ (W : List Int) (fW : Bool) (e : Int), staysV J k = .tup [sl W fW, .i .i64 e] ∧ W.length ≤ 12 := by
  unfold staysV
  split
  · exact ⟨[], true, _, rfl, by simp⟩
  · split
    · exact ⟨[], true, _, rfl, by simp⟩
    · split
      · exact ⟨[], true, _, rfl, by simp⟩
      · exact ⟨_, _, _, rfl, bl_len⟩
def ic3 : IC := (.seq (.reg [.op (some 2) none (.box (.t 0)), .op (some 4) none (.mov (.c (.b false)))] (some [1, 2])) (.seq (.seq (.reg [.op (some 13) none (.loadA 1 (.t 2)), .call (some 14) none 17 [(.t 13)], .op (some 15) none (.mov (.t 14)), .op (some 16) (some (15, false)) (.mov (.t 1)), .op (some 17) (some (15, false)) (.len (.t 16)), .op (some 18) (some (15, false)) (.bin .gtr (.t 17) (.c (.i .i64 16))), .op (some 19) none (.pick (.t 15) (.c (.b true)) (.t 18))] (some [1, 2, 19])) (.cond (.t 19) (.seq (.reg [.call (some 20) none 18 [], .op (some 4) none (.mov (.t 20))] (some [4])) .ret) .skip)) (.seq (.reg [.op (some 22) none (.loadA 1 (.t 2)), .op (some 23) none (.mov (.t 1)), .call (some 24) none 19 [(.t 22), (.t 23)], .op (some 21) none (.mov (.t 24)), .op (some 25) none (.ext 0 (.t 21)), .op (some 26) none (.ext 1 (.t 21)), .op (some 5) none (.mov (.t 25)), .op (some 6) none (.mov (.t 26))] (some [1, 2, 5, 6])) (.seq (.reg [.op (some 28) none (.loadA 1 (.t 2)), .op (some 29) none (.mov (.t 1)), .call (some 30) none 20 [(.t 28), (.t 29)], .op (some 27) none (.mov (.t 30)), .op (some 31) none (.ext 0 (.t 27)), .op (some 32) none (.ext 1 (.t 27)), .op (some 7) none (.mov (.t 31)), .op (some 8) none (.mov (.t 32))] (some [1, 2, 5, 6, 7, 8])) (.seq (.reg [.op (some 34) none (.loadA 1 (.t 2)), .op (some 35) none (.mov (.t 1)), .call (some 36) none 21 [(.t 34), (.t 35)], .op (some 33) none (.mov (.t 36)), .op (some 37) none (.ext 0 (.t 33)), .op (some 38) none (.ext 1 (.t 33)), .op (some 9) none (.mov (.t 37)), .op (some 10) none (.mov (.t 38))] (some [1, 2, 5, 6, 7, 8, 9, 10])) (.seq (.reg [.op (some 40) none (.loadA 1 (.t 2)), .op (some 41) none (.mov (.t 1)), .call (some 42) none 22 [(.t 40), (.t 41)], .op (some 39) none (.mov (.t 42)), .op (some 43) none (.ext 0 (.t 39)), .op (some 44) none (.ext 1 (.t 39)), .op (some 11) none (.mov (.t 43)), .op (some 12) none (.mov (.t 44))] (some [1, 2, 5, 6, 7, 8, 9, 10, 11, 12])) (.seq (.drw [(.op (some 45) none (.loadA 1 (.t 2)), []), (.call (some 46) none 23 [(.t 45)], []), (.op (some 47) none (.loadA 1 (.t 2)), []), (.call (some 48) none 24 [(.t 47)], []), (.op (some 49) none (.bin .eql (.t 46) (.t 48)), []), (.op (some 50) none (.mov (.t 49)), []), (.op (some 51) (some (50, true)) (.mov (.t 5)), []), (.op (some 52) (some (50, true)) (.mov (.t 7)), []), (.call (some 53) (some (50, true)) 25 [(.t 51), (.t 52)], []), (.op (some 54) none (.pick (.t 50) (.t 53) (.c (.b false))), []), (.op (some 55) none (.mov (.t 54)), []), (.op (some 56) (some (55, true)) (.mov (.t 6)), []), (.op (some 57) (some (55, true)) (.mov (.t 8)), []), (.op (some 58) (some (55, true)) (.bin .eql (.t 56) (.t 57)), []), (.op (some 59) none (.pick (.t 55) (.t 58) (.c (.b false))), []), (.op (some 60) none (.mov (.t 59)), []), (.op (some 61) (some (60, true)) (.loadA 1 (.t 2)), []), (.op (some 62) (some (60, true)) (.mov (.t 1)), []), (.call (some 63) (some (60, true)) 26 [(.t 61), (.t 62)], []), (.op (some 64) (some (60, true)) (.loadA 1 (.t 2)), []), (.op (some 65) (some (60, true)) (.mov (.t 1)), []), (.call (some 66) (some (60, true)) 27 [(.t 64), (.t 65)], []), (.op (some 67) (some (60, true)) (.bin .eql (.t 63) (.t 66)), []), (.op (some 68) none (.pick (.t 60) (.t 67) (.c (.b false))), []), (.op (some 69) none (.mov (.t 68)), []), (.op (some 70) (some (69, true)) (.mov (.t 9)), []), (.op (some 71) (some (69, true)) (.mov (.t 11)), []), (.call (some 72) (some (69, true)) 25 [(.t 70), (.t 71)], []), (.op (some 73) none (.pick (.t 69) (.t 72) (.c (.b false))), []), (.op (some 74) none (.mov (.t 73)), []), (.op (some 75) (some (74, true)) (.mov (.t 10)), []), (.op (some 76) (some (74, true)) (.mov (.t 12)), []), (.op (some 77) (some (74, true)) (.bin .eql (.t 75) (.t 76)), []), (.op (some 78) none (.pick (.t 74) (.t 77) (.c (.b false))), []), (.op (some 79) none (.mov (.t 78)), []), (.call (some 80) (some (79, true)) 18 [], []), (.op (some 81) none (.pick (.t 79) (.t 80) (.c (.b false))), []), (.op (some 4) none (.mov (.t 81)), [])] (some [4])) .ret)))))))
def rs3 : List IRes := [.tmp 4]
theorem fn3 : Fn_ Tryz.prog 3 Tryz.f3 [] ic3 rs3 := ⟨by kernel_rfl, by decide, by kernel_rfl, by kernel_rfl⟩

theorem ints25f {a b : List Int} {fa fb : Bool} {σ : List O} (ha : (a.length : Int) < 1000000000) : FSpec Tryz.prog 25 [sl a fa, sl b fb] σ (.b (decide (a = b))) σ := FSpec.frame (σ := σ) (ints25 ha) (by simp) rfl
theorem jamJams {J : List Lg} {f fk : Bool} {k : List Int} (hk0 : (k.length : Int) < 9223372036854775808) {σ : List O} : FSpec Tryz.prog 3 [jamV J f, sl k fk] σ (.b true) σ := by
  refine FSpec.frame (σ := σ) ?_ (by simp) rfl
  refine fn3.spec0 mixed noIt_ok ?_
  rw [ic3]
  refine ab_seq_k fun K1 h1 => ?_
  simp
  refine h1 _ _ _ ?_
  clear h1 K1
  refine ab_seq_k fun K2 h2 => ?_
  refine ab_seq_k fun K3 h3 => ?_
  simp
  refine callK_of great17 ?_
  have hK3 : ∀ env c, get env 1 = sl k fk → get env 2 = .p 0 0 0 → get env 19 = .b c → c = (grB J || decide (16 < k.length)) → K3 (some 0) env [.row 0 [slJ J f]] := by
    intro env c w1 w2 w19 hc
    refine h3 _ _ _ ?_
    clear h3 K3
    cases c with
    | true =>
      refine ab_cond_of w19 (fun _ => ?_) (fun h => by cases h)
      refine ab_seq_k fun K4 h4 => ?_
      simp
      refine callK_of (wk _) ?_
      simp
      refine h4 _ _ _ ?_
      clear h4 K4
      simp
      exact fin_of 1 (by simp [rs3])
    | false =>
      refine ab_cond_of w19 (fun h => by cases h) (fun _ => ?_)
      simp only [Bool.false_eq, Bool.or_eq_false_iff, decide_eq_false_iff_not] at hc
      obtain ⟨hgr, hk⟩ := hc
      obtain ⟨hJ, hl⟩ := gr_small hgr
      have hl1 : ∀ x ∈ J, x.2.1.length ≤ 1000000 := fun x hx => by have := hl x hx; omega
      have hl2 : ∀ x ∈ J, (x.2.1.length : Int) < 1000000000 := fun x hx => by have := hl x hx; omega
      simp [w1, w2]
      refine h2 _ _ _ ?_
      clear h2 K2
      have q19 := fun σ => waves19 (f := f) (fk := fk) (σ := σ) (by omega) hl1 (by omega : k.length ≤ 1000000)
      have q20 := fun σ => waves20 (f := f) (fk := fk) (σ := σ) (by omega) hl1 (by omega : k.length ≤ 1000000)
      have q21 := fun σ => stays21 (f := f) (fk := fk) (σ := σ) (by omega) hl1 (by omega : k.length ≤ 1000000)
      have q22 := fun σ => stays22 (f := f) (fk := fk) (σ := σ) (by omega) hl1 (by omega : k.length ≤ 1000000)
      obtain ⟨W, fW, e, hW, hWl⟩ := wavV_form (J := J) (k := k)
      obtain ⟨S, fS, e2, hS, hSl⟩ := staysV_form (J := J) (k := k)
      rw [hW] at q19 q20
      rw [hS] at q21 q22
      refine ab_seq_k fun K5 h5 => ?_
      simp [w1, w2]
      refine callK_of (q19 _) ?_
      simp [w1, w2]
      refine h5 _ _ _ ?_
      clear h5 K5
      refine ab_seq_k fun K6 h6 => ?_
      simp
      refine callK_of (q20 _) ?_
      simp
      refine h6 _ _ _ ?_
      clear h6 K6
      refine ab_seq_k fun K7 h7 => ?_
      simp
      refine callK_of (q21 _) ?_
      simp
      refine h7 _ _ _ ?_
      clear h7 K7
      refine ab_seq_k fun K8 h8 => ?_
      simp
      refine callK_of (q22 _) ?_
      simp
      refine h8 _ _ _ ?_
      clear h8 K8
      refine ab_seq_k fun K9 h9 => ?_
      simp [abDs_consU, drU, recheck_cons, recheck_nil, rcK, IS.dst]
      refine callK_of (check23 (by omega) hl2) ?_
      simp [abDs_consU, drU, recheck_cons, recheck_nil, rcK, IS.dst]
      refine callK_of (refCheck24 (by omega) hl2) ?_
      simp [abDs_consU, drU, recheck_cons, recheck_nil, rcK, IS.dst]
      refine callK_of (ints25f (by omega)) ?_
      simp [abDs_consU, drU, recheck_cons, recheck_nil, rcK, IS.dst]
      refine callK_of (checkKeys26 (by omega) hl1 (by omega)) ?_
      simp [abDs_consU, drU, recheck_cons, recheck_nil, rcK, IS.dst]
      refine callK_of (checkKeys27 (by omega) hl1 (by omega)) ?_
      simp [abDs_consU, drU, recheck_cons, recheck_nil, rcK, IS.dst]
      refine callK_of (ints25f (by omega)) ?_
      simp [abDs_consU, drU, recheck_cons, recheck_nil, rcK, IS.dst]
      refine callK_of (wk _) ?_
      simp [abDs_consU, drU, recheck_cons, recheck_nil, rcK, IS.dst]
      refine h9 _ _ _ ?_
      simp
      exact fin_of 1 (by simp [rs3])
  clear h2 h3
  cases hg : grB J with
  | true =>
    simp
    exact hK3 _ true rfl rfl rfl (by simp [hg])
  | false =>
    simp
    refine hK3 _ _ rfl rfl rfl ?_
    rw [hg]
    simp
    omega
end Go.Ab
