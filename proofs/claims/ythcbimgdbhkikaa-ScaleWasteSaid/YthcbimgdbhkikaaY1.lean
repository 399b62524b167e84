/- Valid cuttings and right prices (plain). -/
import Derived.Test.YthcbimgdbhkikaaS6
set_option linter.unusedVariables false
set_option linter.unusedSimpArgs false
set_option maxHeartbeats 4000000
namespace Go.Ab
open Go Go.Proofs

section
variable {sc : Nat → Nat → Int} {L : Nat}
theorem Pr_mono {i j : Nat} (h : i ≤ j) (hj : j ≤ L) : Pr sc L j ≤ Pr sc L i := by
  obtain ⟨d, rfl⟩ : ∃ d, j = i + d := ⟨j - i, by omega⟩
  clear h
  induction d with
  | zero => simp
  | succ d ih =>
    have h1 := ih (by omega)
    have h2 := Pr_step (sc := sc) (L := L) (i := i + d) (by omega)
    rw [show i + (d + 1) = i + d + 1 by omega]
    omega
/-- Right prices are no less than what best cuttings scale. -/
theorem price_ge {p : Nat → Int} (h0 : 0 ≤ p L) (h1 : ∀ i, i < L → p (i + 1) ≤ p i) (h2 : ∀ i j, i < j → j ≤ L → 0 < sc i j → sc i j + p j ≤ p i) : ∀ {k i : Nat}, L - i = k → i ≤ L → Pr sc L i ≤ p i := by
  intro k
  induction k using Nat.strongRecOn with
  | ind k ih =>
    intro i hk hi
    by_cases h : i < L
    · rcases Bv_cases (sc := sc) (L := L) (j := L) h with e | ⟨to, a1, a2, a3, a4, e⟩
      · have := ih (L - (i + 1)) (by omega) rfl (by omega)
        have := h1 i h
        have e' : Pr sc L i = Pr sc L (i + 1) := e
        omega
      · have := ih (L - to) (by omega) rfl (by omega)
        have := h2 i to a1 a3 a4
        have e' : Pr sc L i = sc i to + Pr sc L to := e
        omega
    · have : i = L := by omega
      subst this
      have : Pr sc i i = 0 := Bv_end rfl (Nat.le_refl _) (Nat.le_refl _)
      omega
end

/-- A valid cutting. -/
structure GoodC (t b : List Int) (r : Ru) (l : List (Int × Int)) : Prop where
  len : l.length ≤ 60
  log : ∀ p ∈ l, isLog t.length p.1 p.2 = true ∧ scaleP t b r p.1 p.2 ≠ 0
  ord : ordered 0 l = true
theorem GoodC.cutP {t b : List Int} {r : Ru} {l : List (Int × Int)} (h : GoodC t b r l) (hE : openE t b [r] = 0) : cutP t b r l = (sumOf t b r l, 0) := by
  have h1 : ¬ 60 < l.length := by have := h.len; omega
  have h2 : l.all (fun p => isLog t.length p.1 p.2) = true := by rw [List.all_eq_true]; intro p hp; exact (h.log p hp).1
  have h3 : l.any (fun p => decide (scaleP t b r p.1 p.2 = 0)) = false := by
    rw [List.any_eq_false]; intro p hp; simpa using (h.log p hp).2
  have h4 := h.ord
  simp only [Go.Ab.cutP, hE, h1, h2, h3, h4, if_true, if_false, ne_eq, not_true_eq_false, Bool.true_eq_false, Bool.false_eq_true]
theorem cutP_good {t b : List Int} {r : Ru} {l : List (Int × Int)} (hE : openE t b [r] = 0) (h : (cutP t b r l).2 = 0) : GoodC t b r l ∧ (cutP t b r l).1 = sumOf t b r l := by
  unfold cutP at h ⊢
  rw [if_neg (by simp [hE])] at h ⊢
  split at h
  · simp at h
  · rename_i h1
    split at h
    · simp at h
    · rename_i h2
      split at h
      · simp at h
      · rename_i h3
        split at h
        · simp at h
        · rename_i h4
          rw [if_neg h1, if_neg h2, if_neg h3, if_neg h4]
          refine ⟨⟨by omega, fun p hp => ⟨?_, ?_⟩, by simpa using h3⟩, rfl⟩
          · have : l.all (fun p => isLog t.length p.1 p.2) = true := by simpa using h2
            exact List.all_eq_true.1 this p hp
          · intro he
            exact h4 (List.any_eq_true.2 ⟨p, hp, by simpa using he⟩)

theorem sum_le_Pr {t b : List Int} {r : Ru} (hr : RuB r) (n2 : 2 ≤ t.length) : ∀ {l : List (Int × Int)} {a : Nat}, (∀ p ∈ l, isLog t.length p.1 p.2 = true ∧ scaleP t b r p.1 p.2 ≠ 0) → ordered a l = true → a ≤ t.length - 1 →
    sumOf t b r l ≤ Pr (scN t b r) (t.length - 1) a
  | [], a, _, _, ha => Pr_nonneg ha
  | p :: l, a, h, ho, ha => by
    obtain ⟨h1, h2⟩ := h p (List.mem_cons_self ..)
    obtain ⟨a1, a2, a3⟩ := isLog_iff.1 h1
    simp only [ordered, Bool.and_eq_true, decide_eq_true_eq] at ho
    have e1 : ((p.1.toNat : Nat) : Int) = p.1 := by omega
    have e2 : ((p.2.toNat : Nat) : Int) = p.2 := by omega
    have ho2 := ho.2
    rw [← e2] at ho2
    have ih := sum_le_Pr hr n2 (a := p.2.toNat) (fun q hq => h q (List.mem_cons_of_mem _ hq)) ho2 (by omega)
    have hs : scN t b r p.1.toNat p.2.toNat = scaleP t b r p.1 p.2 := by unfold scN; rw [e1, e2]
    have hpos := scaleP_nonneg (t := t) (b := b) (x := p.1) (y := p.2) hr
    have hlog := Pr_log (sc := scN t b r) (L := t.length - 1) (i := p.1.toNat) (j := p.2.toNat) (by omega) (by omega) (by rw [hs]; omega)
    have hm := Pr_mono (sc := scN t b r) (L := t.length - 1) (i := a) (j := p.1.toNat) (by omega) (by omega)
    rw [hs] at hlog
    simp only [sumOf]
    omega
/-- No valid cutting scales more than a best one. -/
theorem good_le {t b : List Int} {r : Ru} {l : List (Int × Int)} (ok : Ok t b r) (h : GoodC t b r l) : sumOf t b r l ≤ restN t b r allL 0 := by
  rw [rest_Pr (Nat.zero_le _)]
  exact sum_le_Pr ok.r ok.n2 (a := 0) h.log h.ord (Nat.zero_le _)
theorem cutL_good {t b : List Int} {r : Ru} (ok : Ok t b r) (h : openE t b [r] = 0) : GoodC t b r (cutL t b r) ∧ sumOf t b r (cutL t b r) = restN t b r allL 0 := by
  have e := cutL_best ok h
  obtain ⟨h1, h2⟩ := cutP_good (l := cutL t b r) h (by rw [e])
  rw [e] at h2
  exact ⟨h1, h2.symm⟩

theorem badLogs_no {kn : Kn} {ps : List Int} {i j k : Nat} (h : badLogs kn ps i j = false) (hk : k < j) (hp : 0 < look kn (i, (i : Int) + 1 + k)) : look kn (i, (i : Int) + 1 + k) + pvN ps (i + 1 + k) ≤ pvN ps i := by
  unfold badLogs at h
  rw [List.any_eq_false] at h
  have := h _ (logsUp_of hk hp)
  simp only [decide_eq_true_eq] at this
  rw [show ((i : Int) + 1 + k).toNat = i + 1 + k by omega] at this
  omega
/-- The first one of right prices is no less than what a best cutting scales. -/
theorem right_ge {t b : List Int} {r : Ru} {ps : List Int} (ok : Ok t b r) (hE : openE t b [r] = 0) (h : (checkPricesP t b r ps).2 = 0) : restN t b r allL 0 ≤ (checkPricesP t b r ps).1 := by
  unfold checkPricesP at h ⊢
  rw [if_neg (by simp [hE])] at h ⊢
  split at h
  · simp at h
  · rename_i h1
    split at h
    · simp at h
    · rename_i h2
      split at h
      · simp at h
      · rename_i h3
        rw [if_neg h1, if_neg h2, if_neg h3]
        obtain ⟨n2, n61, tv, bl, hr⟩ := ok
        have hl : ps.length = t.length := by omega
        have hbad : ∀ i, i < t.length - 1 → badAt (knownK t b r) ps t.length i = false := by
          intro i hi
          have h3' : (List.range (t.length - 1)).any (badAt (knownK t b r) ps t.length) = false := by simpa using h3
          rw [List.any_eq_false] at h3'
          simpa using h3' i (List.mem_range.2 hi)
        rw [rest_Pr (Nat.zero_le _)]
        refine price_ge (p := pvN ps) ?_ ?_ ?_ rfl (Nat.zero_le _)
        · have hall : ps.all inGrid = true := by simpa using h2
          have := getD_get (l := ps) (i := t.length - 1) (by omega)
          have hin := List.all_eq_true.1 hall _ this.2.2
          simp only [inGrid, Bool.and_eq_true, decide_eq_true_eq] at hin
          exact hin.1
        · intro i hi
          have := hbad i hi
          simp only [badAt, Bool.or_eq_false_iff, decide_eq_false_iff_not] at this
          omega
        · intro i j hij hj hp
          have := hbad i (by omega)
          simp only [badAt, Bool.or_eq_false_iff] at this
          obtain ⟨k, rfl⟩ : ∃ k, j = i + 1 + k := ⟨j - (i + 1), by omega⟩
          have hlk : look (knownK t b r) (i, (i : Int) + 1 + k) = scN t b r i (i + 1 + k) := by
            rw [look_known hr (by omega) (by omega) (by omega)]
            unfold scN
            congr 1
          have := badLogs_no (k := k) this.2 (by omega) (by rw [hlk]; exact hp)
          rw [hlk] at this
          exact this

/-! ### A cutting by numbers -/
def cutBy (t b : List Int) (r : Ru) : List Int → Int → List (Int × Int) → List (Int × Int)
  | x :: y :: l, a, out => if out.length < 60 then
      (if (t.length : Int) - 1 < a + x % 4 + r.trim + r.least + y % 8 * r.step then out else
       if 0 < scaleP t b r (a + x % 4) (a + x % 4 + r.trim + r.least + y % 8 * r.step) then cutBy t b r l (a + x % 4 + r.trim + r.least + y % 8 * r.step) (out ++ [(a + x % 4, a + x % 4 + r.trim + r.least + y % 8 * r.step)])
       else cutBy t b r l (a + x % 4) out) else out
  | _, _, out => out

theorem endOf_snoc {l : List (Int × Int)} {p : Int × Int} : endOf (l ++ [p]) = p.2 := by simp [endOf]
theorem cutBy_good {t b : List Int} {r : Ru} (hr : RuB r) : ∀ {by_ : List Int} {a : Int} {out : List (Int × Int)}, 0 ≤ a → endOf out ≤ a → GoodC t b r out → GoodC t b r (cutBy t b r by_ a out)
  | [], a, out, _, _, h => h
  | [_], a, out, _, _, h => h
  | x :: y :: l, a, out, h0, he, h => by
    rw [cutBy]
    have m1 := Int.emod_nonneg x (show (4 : Int) ≠ 0 by omega)
    have m2 := Int.emod_nonneg y (show (8 : Int) ≠ 0 by omega)
    have m3 : 0 ≤ y % 8 * r.step := Int.mul_nonneg m2 (by have := hr.s1; omega)
    have := hr.t1
    have := hr.l1
    split
    · rename_i hl
      split
      · exact h
      · rename_i hto
        generalize hm : y % 8 * r.step = ys at *
        generalize hx : x % 4 = xs at *
        split
        · rename_i hp
          refine cutBy_good hr (by omega) (by rw [endOf_snoc]; simp) ⟨by simp; omega, fun p hp' => ?_, ?_⟩
          · rcases List.mem_append.1 hp' with h1 | h1
            · exact h.log p h1
            · simp only [List.mem_singleton] at h1
              subst h1
              exact ⟨isLog_iff.2 ⟨by simp; omega, by simp; omega, by simp; omega⟩, by simp; omega⟩
          · rw [ordered_append, h.ord, Bool.true_and, decide_eq_true_eq]
            have : endOf out ≤ a + xs := by omega
            exact this
        · exact cutBy_good hr (by omega) (by omega) h
    · exact h
theorem goodC_nil {t b : List Int} {r : Ru} : GoodC t b r [] := ⟨by simp, by simp, rfl⟩
end Go.Ab
