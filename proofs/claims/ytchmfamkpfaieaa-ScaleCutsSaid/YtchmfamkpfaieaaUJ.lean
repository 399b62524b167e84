/- A best cutting (plain). -/
import Derived.Test.YtchmfamkpfaieaaUI
set_option linter.unusedVariables false
set_option linter.unusedSimpArgs false
namespace Go.Ab
open Go Go.Proofs

theorem acc_cases {sc : Nat → Nat → Int} {lt : Nat → Nat → Bool} {vn : Nat → Int} {i : Nat} : ∀ {j : Nat}, acc sc lt vn i j = vn (i + 1) ∨ ∃ j', j' < j ∧ 0 < sc i (i + 1 + j') ∧ lt i (i + 1 + j') = true ∧ acc sc lt vn i j = sc i (i + 1 + j') + vn (i + 1 + j')
  | 0 => .inl rfl
  | j + 1 => by
    simp only [acc]
    split
    · rename_i hc
      by_cases hm : acc sc lt vn i j ≤ sc i (i + 1 + j) + vn (i + 1 + j)
      · exact .inr ⟨j, by omega, hc.1, hc.2, by omega⟩
      · have e : max (acc sc lt vn i j) (sc i (i + 1 + j) + vn (i + 1 + j)) = acc sc lt vn i j := by omega
        rw [e]
        rcases acc_cases (sc := sc) (lt := lt) (vn := vn) (i := i) (j := j) with h | ⟨j', h1, h2, h3, h4⟩
        · exact .inl h
        · exact .inr ⟨j', by omega, h2, h3, h4⟩
    · rcases acc_cases (sc := sc) (lt := lt) (vn := vn) (i := i) (j := j) with h | ⟨j', h1, h2, h3, h4⟩
      · exact .inl h
      · exact .inr ⟨j', by omega, h2, h3, h4⟩

theorem logsUp_of {kn : Kn} {a : Nat} : ∀ {j i : Nat}, i < j → 0 < look kn (a, (a : Int) + 1 + i) → ((a : Int) + 1 + i, look kn (a, (a : Int) + 1 + i)) ∈ logsUp kn a j
  | 0, i, h, _ => by omega
  | j + 1, i, h, hp => by
    simp only [logsUp, List.mem_append]
    by_cases hi : i = j
    · subst hi; right; rw [if_pos hp]; simp
    · left; exact logsUp_of (by omega) hp

def cutG (v : Nat → Int) (kn : Kn) (L : Nat) : Nat → Nat → List (Int × Int)
  | 0, _ => []
  | k + 1, a => if a < L then (if v a = v (a + 1) then cutG v kn L k (a + 1) else
      match (logsUp kn a (L - a)).find? (fun p => decide (v a = p.2 + v p.1.toNat)) with
      | some p => ((a : Int), p.1) :: cutG v kn L k p.1.toNat
      | none => []) else []

theorem cutG_end {v : Nat → Int} {kn : Kn} {L : Nat} : ∀ {k a : Nat}, L ≤ a → cutG v kn L k a = []
  | 0, _, _ => rfl
  | k + 1, a, h => by simp only [cutG]; rw [if_neg (by omega)]

theorem cutG_ok {t b : List Int} {r : Ru} (ok : Ok t b r) : ∀ {k a : Nat}, t.length - 1 - a ≤ k → a ≤ t.length - 1 →
    ordered a (cutG (restN t b r allL) (knownK t b r) (t.length - 1) k a) = true ∧ (∀ p ∈ cutG (restN t b r allL) (knownK t b r) (t.length - 1) k a, isLog t.length p.1 p.2 = true ∧ scaleP t b r p.1 p.2 ≠ 0) ∧
    sumOf t b r (cutG (restN t b r allL) (knownK t b r) (t.length - 1) k a) = restN t b r allL a ∧ (cutG (restN t b r allL) (knownK t b r) (t.length - 1) k a).length ≤ t.length - 1 - a := by
  obtain ⟨n2, n61, tv, bl, hr⟩ := ok
  intro k
  induction k with
  | zero =>
    intro a h1 h2
    have : a = t.length - 1 := by omega
    subst this
    refine ⟨rfl, by simp [cutG], ?_, by simp [cutG]⟩
    simp only [cutG, sumOf]
    exact val_last.symm
  | succ k ih =>
    intro a h1 h2
    by_cases hlt : a < t.length - 1
    · simp only [cutG]
      rw [if_pos hlt]
      have ordm : ∀ (n m : Int) (l : List (Int × Int)), n ≤ m → ordered m l = true → ordered n l = true := by
        intro n m l hnm h
        cases l with
        | nil => rfl
        | cons p l => simp only [ordered, Bool.and_eq_true, decide_eq_true_eq] at h ⊢; exact ⟨by omega, h.2⟩
      split
      · rename_i he
        obtain ⟨q1, q2, q3, q4⟩ := ih (a := a + 1) (by omega) (by omega)
        exact ⟨ordm _ _ _ (by omega) q1, q2, by rw [q3, he], by omega⟩
      · rename_i he
        have hrec : restN t b r allL a = acc (scN t b r) allL.letsN (restN t b r allL) a (t.length - 1 - a) := val_rec hlt
        rcases acc_cases (sc := scN t b r) (lt := allL.letsN) (vn := restN t b r allL) (i := a) (j := t.length - 1 - a) with h | ⟨j, hj, hp, -, hv⟩
        · exact absurd (hrec.trans h) he
        · have hlk : look (knownK t b r) (a, (a : Int) + 1 + j) = scN t b r a (a + 1 + j) := by
            rw [look_known hr (by omega) (by omega) (by omega)]
            unfold scN
            congr 1
          have hmem := logsUp_of (kn := knownK t b r) (a := a) (j := t.length - 1 - a) (i := j) hj (by rw [hlk]; exact hp)
          split
          · rename_i p hf
            have hpm := List.mem_of_find?_eq_some hf
            have hpd := List.find?_some hf
            obtain ⟨i, hi, hpe, hpos⟩ := logsUp_mem hpm
            obtain ⟨to, sv⟩ := p
            simp only [Prod.mk.injEq] at hpe
            obtain ⟨hto, hsv⟩ := hpe
            simp only [decide_eq_true_eq] at hpd hpos
            have htoN : to.toNat = a + 1 + i := by omega
            have hlk2 : look (knownK t b r) (a, (a : Int) + 1 + i) = scaleP t b r a to := by
              rw [look_known hr (by omega) (by omega) (by omega), hto]
            obtain ⟨q1, q2, q3, q4⟩ := ih (a := to.toNat) (by omega) (by omega)
            have etn : ((to.toNat : Nat) : Int) = to := by omega
            rw [etn] at q1
            refine ⟨?_, ?_, ?_, ?_⟩
            · simp only [ordered, Int.le_refl, decide_true, Bool.true_and]
              exact q1
            · intro q hq
              rcases List.mem_cons.1 hq with rfl | hq
              · refine ⟨isLog_iff.2 ⟨by simp, by simp; omega, by simp; omega⟩, ?_⟩
                simp only
                rw [← hlk2, ← hsv]
                omega
              · exact q2 q hq
            · simp only [sumOf]
              rw [q3, ← hlk2, ← hsv]
              exact hpd.symm
            · simp only [List.length_cons]
              omega
          · rename_i hf
            rw [List.find?_eq_none] at hf
            have := hf _ hmem
            simp only [decide_eq_true_eq] at this
            exfalso
            apply this
            rw [hlk, show ((a : Int) + 1 + j).toNat = a + 1 + j by omega]
            exact hrec.trans hv
    · rw [cutG_end (by omega)]
      have : a = t.length - 1 := by omega
      subst this
      refine ⟨rfl, by simp, ?_, by simp⟩
      simp only [sumOf]
      exact val_last.symm

def cutL (t b : List Int) (r : Ru) : List (Int × Int) := cutG (restN t b r allL) (knownK t b r) (t.length - 1) (t.length - 1) 0

theorem cutL_best {t b : List Int} {r : Ru} (ok : Ok t b r) (h : openE t b [r] = 0) : cutP t b r (cutL t b r) = (restN t b r allL 0, 0) := by
  obtain ⟨q1, q2, q3, q4⟩ := cutG_ok ok (k := t.length - 1) (a := 0) (by omega) (by omega)
  have n61 := ok.n61
  have h1 : ¬ 60 < (cutL t b r).length := by unfold cutL; omega
  have h2 : (cutL t b r).all (fun p => isLog t.length p.1 p.2) = true := by rw [List.all_eq_true]; intro p hp; exact (q2 p hp).1
  have h3 : (cutL t b r).any (fun p => decide (scaleP t b r p.1 p.2 = 0)) = false := by
    rw [List.any_eq_false]; intro p hp; simpa using (q2 p hp).2
  have h4 : ordered 0 (cutL t b r) = true := q1
  simp only [cutP, h, h1, h2, h3, h4, if_true, if_false, ne_eq, not_true_eq_false, Bool.true_eq_false, Bool.false_eq_true]
  exact congrArg (·, (0 : Int)) q3
end Go.Ab
