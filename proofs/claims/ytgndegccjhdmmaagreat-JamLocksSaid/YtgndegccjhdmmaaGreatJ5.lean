/- The law JamLocks: the tight locks, and which logs are a lock, are what the definitions say. -/
import Derived.Test.YtgndegccjhdmmaaGreatMP
import Derived.Test.YtgndegccjhdmmaaGreatMI
import Derived.Test.YtgndegccjhdmmaaGreatJWd
import Derived.Test.YtgndegccjhdmmaaGreatJW
set_option linter.unusedVariables false
set_option linter.unusedSimpArgs false
set_option maxHeartbeats 4000000
set_option maxRecDepth 100000
namespace Go.Ab
open Go Go.Proofs

def ic5 : IC := (.seq (.reg [.op (some 2) none (.box (.t 0)), .op (some 4) none (.mov (.c (.b false)))] (some [1, 2])) (.seq (.seq (.reg [.op (some 9) none (.loadA 1 (.t 2)), .call (some 10) none 17 [(.t 9)], .op (some 11) none (.mov (.t 10)), .op (some 12) (some (11, false)) (.loadA 1 (.t 2)), .call (some 13) (some (11, false)) 28 [(.t 12)], .op (some 14) none (.pick (.t 11) (.c (.b true)) (.t 13)), .op (some 15) none (.mov (.t 14)), .op (some 16) (some (15, false)) (.mov (.t 1)), .op (some 17) (some (15, false)) (.len (.t 16)), .op (some 18) (some (15, false)) (.bin .gtr (.t 17) (.c (.i .i64 16))), .op (some 19) none (.pick (.t 15) (.c (.b true)) (.t 18))] (some [1, 2, 19])) (.cond (.t 19) (.seq (.reg [.call (some 20) none 18 [], .op (some 4) none (.mov (.t 20))] (some [4])) .ret) .skip)) (.seq (.reg [.op (some 22) none (.loadA 1 (.t 2)), .call (some 23) none 36 [(.t 22)], .op (some 21) none (.mov (.t 23)), .op (some 24) none (.ext 0 (.t 21)), .op (some 25) none (.ext 1 (.t 21)), .op (some 5) none (.mov (.t 24)), .op (some 6) none (.mov (.t 25))] (some [1, 2, 5, 6])) (.seq (.reg [.op (some 27) none (.loadA 1 (.t 2)), .call (some 28) none 37 [(.t 27)], .op (some 26) none (.mov (.t 28)), .op (some 29) none (.ext 0 (.t 26)), .op (some 30) none (.ext 1 (.t 26)), .op (some 7) none (.mov (.t 29)), .op (some 8) none (.mov (.t 30))] (some [1, 2, 5, 6, 7, 8])) (.seq (.drw [(.op (some 31) none (.loadA 1 (.t 2)), []), (.op (some 32) none (.mov (.t 1)), []), (.call (some 33) none 38 [(.t 31), (.t 32)], []), (.op (some 34) none (.loadA 1 (.t 2)), []), (.op (some 35) none (.mov (.t 1)), []), (.call (some 36) none 39 [(.t 34), (.t 35)], []), (.op (some 37) none (.bin .eql (.t 33) (.t 36)), []), (.op (some 38) none (.mov (.t 37)), []), (.op (some 39) (some (38, true)) (.mov (.t 5)), []), (.op (some 40) (some (38, true)) (.mov (.t 7)), []), (.call (some 41) (some (38, true)) 35 [(.t 39), (.t 40)], []), (.op (some 42) none (.pick (.t 38) (.t 41) (.c (.b false))), []), (.op (some 43) none (.mov (.t 42)), []), (.op (some 44) (some (43, true)) (.mov (.t 6)), []), (.op (some 45) (some (43, true)) (.mov (.t 8)), []), (.op (some 46) (some (43, true)) (.bin .eql (.t 44) (.t 45)), []), (.op (some 47) none (.pick (.t 43) (.t 46) (.c (.b false))), []), (.op (some 48) none (.mov (.t 47)), []), (.call (some 49) (some (48, true)) 18 [], []), (.op (some 50) none (.pick (.t 48) (.t 49) (.c (.b false))), []), (.op (some 4) none (.mov (.t 50)), [])] (some [4])) .ret)))))
def rs5 : List IRes := [.tmp 4]
theorem fn5 : Fn_ Tryz.prog 5 Tryz.f5 [] ic5 rs5 := ⟨by kernel_rfl, by decide, by kernel_rfl, by kernel_rfl⟩

theorem locksV_form {J : List Lg} (hl : ∀ x ∈ J, x.2.1.length ≤ 1000000) : ∃ (L : List Nat) (f : Bool) (e : Int), locksV J = .tup [.ss (lv L) L.length f, .i .i64 e] ∧ L.length ≤ 60000 := by
  unfold locksV
  by_cases hc : checkJ J = 0
  · rw [if_neg (by simp [hc])]
    have hN := (check_ok hl hc).2.1
    have hpw := pow12 hN
    have h1 := locksTo_len (J := J) (i := 2 ^ J.length)
    exact ⟨lexS (locksTo J (2 ^ J.length)), _, _, by rw [lexS_len], by rw [lexS_len]; omega⟩
  · rw [if_pos hc]
    exact ⟨[], true, _, rfl, by simp⟩
theorem jamLocks {J : List Lg} {f fk : Bool} {k : List Int} (hk0 : (k.length : Int) < 9223372036854775808) {σ : List O} : FSpec Tryz.prog 5 [jamV J f, sl k fk] σ (.b true) σ := by
  refine FSpec.frame (σ := σ) ?_ (by simp) rfl
  refine fn5.spec0 mixed noIt_ok ?_
  rw [ic5]
  refine ab_seq_k fun K1 h1 => ?_
  simp
  refine h1 _ _ _ ?_
  clear h1 K1
  refine ab_seq_k fun K2 h2 => ?_
  refine ab_seq_k fun K3 h3 => ?_
  simp
  refine callK_of great17 ?_
  have hK3 : ∀ env c, get env 1 = sl k fk → get env 2 = .p 0 0 0 → get env 19 = .b c → c = (grB J || wideB J || decide (16 < k.length)) → K3 (some 0) env [.row 0 [slJ J f]] := by
    intro env c w1 w2 w19 hc
    refine h3 _ _ _ ?_
    clear h3 K3
    cases c with
    | true =>
      refine ab_cond_of w19 (fun _ => ?_) (fun h => by cases h)
      refine ab_seq_k fun K4 h4 => ?_
      simp
      refine callK_of (wk _) ?_
      simp
      refine h4 _ _ _ ?_
      clear h4 K4
      simp
      exact fin_of 1 (by simp [rs5])
    | false =>
      refine ab_cond_of w19 (fun h => by cases h) (fun _ => ?_)
      have hc' := hc.symm
      rw [Bool.or_eq_false_iff, Bool.or_eq_false_iff, decide_eq_false_iff_not] at hc'
      obtain ⟨⟨hgr, -⟩, hk⟩ := hc'
      obtain ⟨hJ, hl⟩ := gr_small hgr
      have hJ1 : J.length ≤ 1000000 := by omega
      have hl1 : ∀ x ∈ J, x.2.1.length ≤ 1000000 := fun x hx => by have := hl x hx; omega
      simp [w1, w2]
      refine h2 _ _ _ ?_
      clear h2 K2
      have q36 := fun σ => locks36 (f := f) (σ := σ) hJ1 hl1
      have q37 := fun σ => locks37 (f := f) (σ := σ) hJ1 hl1
      have q38 := fun σ => check38 (f := f) (k := k) (fk := fk) (σ := σ) hJ1 hl1 (by omega)
      have q39 := fun σ => check39 (f := f) (k := k) (fk := fk) (σ := σ) hJ1 hl1 (by omega)
      obtain ⟨L, fL, e2, hK, hKl⟩ := locksV_form (J := J) hl1
      rw [hK] at q36 q37
      generalize lockE J k = r at *
      refine ab_seq_k fun K5 h5 => ?_
      simp [w1, w2]
      refine callK_of (q36 _) ?_
      simp [w1, w2]
      refine h5 _ _ _ ?_
      clear h5 K5
      refine ab_seq_k fun K6 h6 => ?_
      simp
      refine callK_of (q37 _) ?_
      simp
      refine h6 _ _ _ ?_
      clear h6 K6
      refine ab_seq_k fun K11 h11 => ?_
      simp [abDs_consU, drU, recheck_cons, recheck_nil, rcK, IS.dst]
      refine callK_of (q38 _) ?_
      simp [abDs_consU, drU, recheck_cons, recheck_nil, rcK, IS.dst]
      refine callK_of (q39 _) ?_
      simp [abDs_consU, drU, recheck_cons, recheck_nil, rcK, IS.dst]
      refine callK_of (lists35 hKl) ?_
      simp [abDs_consU, drU, recheck_cons, recheck_nil, rcK, IS.dst]
      refine callK_of (wk _) ?_
      simp [abDs_consU, drU, recheck_cons, recheck_nil, rcK, IS.dst]
      refine h11 _ _ _ ?_
      simp
      exact fin_of 1 (by simp [rs5])
  clear h2 h3
  cases hg : grB J with
  | true =>
    simp
    exact hK3 _ true rfl rfl rfl (by simp [hg])
  | false =>
    obtain ⟨hJ, hl⟩ := gr_small hg
    simp
    refine callK_of (wide28 (by omega) (fun x hx => by have := hl x hx; omega)) ?_
    cases hw : wideB J with
    | true =>
      simp
      exact hK3 _ true rfl rfl rfl (by rw [hg, hw]; rfl)
    | false =>
      simp
      exact hK3 _ _ rfl rfl rfl (by rw [hg, hw]; simp; omega)
end Go.Ab
