/- What a yard knows of a log is what it scales (plain). -/
import Derived.Test.YtchmfamkpfaieaaU8
set_option linter.unusedVariables false
set_option linter.unusedSimpArgs false
set_option maxHeartbeats 4000000
namespace Go.Ab
open Go Go.Proofs

theorem find_key {kn : Kn} (hn : (kn.map (·.1)).Nodup) {k : Int × Int} {v : Int} (h : (k, v) ∈ kn) : kn.find? (fun e => e.1 == k) = some (k, v) := by
  cases hf : kn.find? (fun e => e.1 == k) with
  | none =>
    rw [List.find?_eq_none] at hf
    exact absurd (by simp) (hf _ h)
  | some e =>
    have h1 := List.mem_of_find?_eq_some hf
    have h2 := List.find?_some hf
    simp only [beq_iff_eq] at h2
    rw [nodup_inj hn h1 h h2]

theorem knownK_nodup {t b : List Int} {r : Ru} : ((knownK t b r).map (·.1)).Nodup := (allK_nodup (t := t) (r := r)).sublist ((List.filter_sublist).map _)

theorem allK_of {t : List Int} {r : Ru} (hr : RuB r) {x y : Int} (hx : 0 ≤ x) (hy : y < t.length) (h1 : r.least ≤ y - x - r.trim) (h2 : y - x - r.trim ≤ r.most) (h3 : (y - x - r.trim) % r.step = 0) :
    ((x, y), scaleN t r y (y - x - r.trim)) ∈ allK t r (t.length - 1) := by
  have a1 := hr.l1
  have a2 := hr.t1
  simp only [allK, List.mem_flatMap, List.mem_range]
  refine ⟨x.toNat, by omega, ?_⟩
  simp only [rowK, List.mem_flatMap, List.mem_range]
  refine ⟨(y - x - r.trim - r.least).toNat, by unfold cntK; omega, ?_⟩
  have e1 : (x.toNat : Int) = x := by omega
  have e2 : r.least + ((y - x - r.trim - r.least).toNat : Int) = y - x - r.trim := by omega
  rw [e1, e2]
  have e3 : x + (y - x - r.trim) + r.trim = y := by omega
  simp only [ent1, e3]
  rw [if_pos ⟨by omega, h3⟩]
  simp

theorem allK_inv {t : List Int} {r : Ru} {k : Nat} {x y v : Int} (h : ((x, y), v) ∈ allK t r k) (hr : RuB r) :
    r.least ≤ y - x - r.trim ∧ y - x - r.trim ≤ r.most ∧ (y - x - r.trim) % r.step = 0 ∧ v = scaleN t r y (y - x - r.trim) ∧ 0 ≤ x ∧ x < y ∧ y ≤ (t.length : Int) - 1 := by
  have a1 := hr.l1
  have a2 := hr.t1
  obtain ⟨i, hi, h⟩ := allK_mem h
  obtain ⟨j, hj, h⟩ := rowK_mem h
  obtain ⟨h1, h2, h3⟩ := ent1_mem h
  simp only [Prod.mk.injEq] at h1
  obtain ⟨⟨rfl, rfl⟩, rfl⟩ := h1
  have e : (i : Int) + (r.least + j) + r.trim - i - r.trim = r.least + j := by omega
  rw [e]
  unfold cntK at hj
  exact ⟨by omega, by omega, h3, rfl, by omega, by omega, h2⟩

theorem look_known {t b : List Int} {r : Ru} (hr : RuB r) {x y : Int} (hx : 0 ≤ x) (hxy : x < y) (hy : y < t.length) : look (knownK t b r) (x, y) = scaleP t b r x y := by
  have a1 := hr.l1
  have a2 := hr.t1
  have a3 := hr.s1
  by_cases hin : ∃ v, ((x, y), v) ∈ knownK t b r
  · obtain ⟨v, hv⟩ := hin
    simp only [look, find_key knownK_nodup hv, Option.map_some, Option.getD_some]
    simp only [knownK, List.mem_filter] at hv
    obtain ⟨hv, hbad⟩ := hv
    obtain ⟨h1, h2, h3, h4, -⟩ := allK_inv hv hr
    simp only [badK, Bool.not_eq_true', Bool.or_eq_false_iff, decide_eq_false_iff_not] at hbad
    obtain ⟨⟨b1, b2⟩, b3⟩ := hbad
    simp only [scaleP, b3, Bool.false_eq_true, if_false]
    rw [if_neg]
    · exact h4
    · rintro (h | h | h | h)
      · omega
      · omega
      · exact h (by rw [Int.tmod_eq_emod_of_nonneg (by omega)]; exact h3)
      · exact b2 h
  · have hnone : (knownK t b r).find? (fun e => e.1 == (x, y)) = none := by
      rw [List.find?_eq_none]
      rintro ⟨k, v⟩ he hk
      simp only [beq_iff_eq] at hk
      subst hk
      exact hin ⟨v, he⟩
    simp only [look, hnone, Option.map_none, Option.getD_none]
    unfold scaleP
    split
    · rfl
    · rename_i hb
      split
      · rfl
      · rename_i hc
        by_cases hz : scaleN t r y (y - x - r.trim) = 0
        · exact hz.symm
        · exfalso
          have c1 : ¬ (y - x - r.trim < r.least) := fun h => hc (.inl h)
          have c2 : ¬ (r.most < y - x - r.trim) := fun h => hc (.inr (.inl h))
          have c3 : (y - x - r.trim).tmod r.step = 0 := Classical.byContradiction fun h => hc (.inr (.inr (.inl h)))
          have c4 : ¬ t.getD y.toNat 0 < r.thin := fun h => hc (.inr (.inr (.inr h)))
          rw [Int.tmod_eq_emod_of_nonneg (by omega)] at c3
          refine hin ⟨scaleN t r y (y - x - r.trim), ?_⟩
          simp only [knownK, List.mem_filter]
          refine ⟨allK_of hr hx hy (by omega) (by omega) c3, ?_⟩
          simp only [badK, Bool.not_eq_true', Bool.or_eq_false_iff, decide_eq_false_iff_not]
          exact ⟨⟨hz, c4⟩, by simpa using hb⟩
end Go.Ab
