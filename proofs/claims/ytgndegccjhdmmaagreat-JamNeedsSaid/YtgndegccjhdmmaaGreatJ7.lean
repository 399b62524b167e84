/- The law JamNeeds: how many keys a log needs is what the definition says. -/
import Derived.Test.YtgndegccjhdmmaaGreatJNa
import Derived.Test.YtgndegccjhdmmaaGreatJWd
import Derived.Test.YtgndegccjhdmmaaGreatJW
set_option linter.unusedVariables false
set_option linter.unusedSimpArgs false
set_option maxHeartbeats 4000000
set_option maxRecDepth 100000
namespace Go.Ab
open Go Go.Proofs

def ic7 : IC := (.seq (.reg [.op (some 2) none (.box (.t 0)), .op (some 4) none (.mov (.c (.b false)))] (some [1, 2])) (.seq (.seq (.reg [.op (some 9) none (.loadA 1 (.t 2)), .call (some 10) none 17 [(.t 9)], .op (some 11) none (.mov (.t 10)), .op (some 12) (some (11, false)) (.loadA 1 (.t 2)), .call (some 13) (some (11, false)) 28 [(.t 12)], .op (some 14) none (.pick (.t 11) (.c (.b true)) (.t 13))] (some [1, 2, 14])) (.cond (.t 14) (.seq (.reg [.call (some 15) none 18 [], .op (some 4) none (.mov (.t 15))] (some [4])) .ret) .skip)) (.seq (.reg [.op (some 17) none (.loadA 1 (.t 2)), .op (some 18) none (.mov (.t 1)), .call (some 19) none 45 [(.t 17), (.t 18)], .op (some 16) none (.mov (.t 19)), .op (some 20) none (.ext 0 (.t 16)), .op (some 21) none (.ext 1 (.t 16)), .op (some 5) none (.mov (.t 20)), .op (some 6) none (.mov (.t 21))] (some [1, 2, 5, 6])) (.seq (.reg [.op (some 23) none (.loadA 1 (.t 2)), .op (some 24) none (.mov (.t 1)), .call (some 25) none 46 [(.t 23), (.t 24)], .op (some 22) none (.mov (.t 25)), .op (some 26) none (.ext 0 (.t 22)), .op (some 27) none (.ext 1 (.t 22)), .op (some 7) none (.mov (.t 26)), .op (some 8) none (.mov (.t 27))] (some [5, 6, 7, 8])) (.seq (.reg [.op (some 28) none (.mov (.t 5)), .op (some 29) none (.mov (.t 7)), .op (some 30) none (.bin .eql (.t 28) (.t 29)), .op (some 31) none (.mov (.t 30)), .op (some 32) (some (31, true)) (.mov (.t 6)), .op (some 33) (some (31, true)) (.mov (.t 8)), .op (some 34) (some (31, true)) (.bin .eql (.t 32) (.t 33)), .op (some 35) none (.pick (.t 31) (.t 34) (.c (.b false))), .op (some 36) none (.mov (.t 35)), .call (some 37) (some (36, true)) 18 [], .op (some 38) none (.pick (.t 36) (.t 37) (.c (.b false))), .op (some 4) none (.mov (.t 38))] (some [4])) .ret)))))
def rs7 : List IRes := [.tmp 4]
theorem fn7 : Fn_ Tryz.prog 7 Tryz.f7 [] ic7 rs7 := ⟨by kernel_rfl, by decide, by kernel_rfl, by kernel_rfl⟩

theorem jamNeeds {J : List Lg} {f : Bool} {log : Int} {σ : List O} : FSpec Tryz.prog 7 [jamV J f, .i .i64 log] σ (.b true) σ := by
  refine FSpec.frame (σ := σ) ?_ (by simp) rfl
  refine fn7.spec0 mixed noIt_ok ?_
  rw [ic7]
  refine ab_seq_k fun K1 h1 => ?_
  simp
  refine h1 _ _ _ ?_
  clear h1 K1
  refine ab_seq_k fun K2 h2 => ?_
  refine ab_seq_k fun K3 h3 => ?_
  simp
  refine callK_of great17 ?_
  have hK3 : ∀ env c, get env 1 = .i .i64 log → get env 2 = .p 0 0 0 → get env 14 = .b c → c = (grB J || wideB J) → K3 (some 0) env [.row 0 [slJ J f]] := by
    intro env c w1 w2 w14 hc
    refine h3 _ _ _ ?_
    clear h3 K3
    cases c with
    | true =>
      refine ab_cond_of w14 (fun _ => ?_) (fun h => by cases h)
      refine ab_seq_k fun K4 h4 => ?_
      simp
      refine callK_of (wk _) ?_
      simp
      refine h4 _ _ _ ?_
      clear h4 K4
      simp
      exact fin_of 1 (by simp [rs7])
    | false =>
      refine ab_cond_of w14 (fun h => by cases h) (fun _ => ?_)
      simp only [Bool.false_eq, Bool.or_eq_false_iff] at hc
      obtain ⟨hgr, -⟩ := hc
      obtain ⟨hJ, hl⟩ := gr_small hgr
      have hl1 : ∀ x ∈ J, x.2.1.length ≤ 1000000 := fun x hx => by have := hl x hx; omega
      simp [w1, w2]
      refine h2 _ _ _ ?_
      clear h2 K2
      have q45 := fun σ => need45 (f := f) (log := log) (σ := σ) (by omega) hl1
      have q46 := fun σ => ref_need46 (f := f) (log := log) (σ := σ) (by omega) hl1
      generalize needV J log = r at *
      refine ab_seq_k fun K5 h5 => ?_
      simp [w1, w2]
      refine callK_of (q45 _) ?_
      simp [w1, w2]
      refine h5 _ _ _ ?_
      clear h5 K5
      refine ab_seq_k fun K6 h6 => ?_
      simp
      refine callK_of (q46 _) ?_
      simp
      refine h6 _ _ _ ?_
      clear h6 K6
      refine ab_seq_k fun K9 h9 => ?_
      simp
      refine callK_of (wk _) ?_
      simp
      refine h9 _ _ _ ?_
      simp
      exact fin_of 1 (by simp [rs7])
  clear h2 h3
  cases hg : grB J with
  | true =>
    simp
    exact hK3 _ true rfl rfl rfl (by simp [hg])
  | false =>
    obtain ⟨hJ, hl⟩ := gr_small hg
    simp
    refine callK_of (wide28 (by omega) (fun x hx => by have := hl x hx; omega)) ?_
    simp
    exact hK3 _ _ rfl rfl rfl (by rw [hg]; rfl)
end Go.Ab
