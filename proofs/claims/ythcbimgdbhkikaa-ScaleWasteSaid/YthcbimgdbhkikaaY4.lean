/- What best cuttings scale, told by what it is (plain). -/
import Derived.Test.YthcbimgdbhkikaaY1
set_option linter.unusedVariables false
set_option linter.unusedSimpArgs false
set_option maxHeartbeats 4000000
namespace Go.Ab
open Go Go.Proofs

/-- The greatest sum of logs that are let, from each place on. -/
structure BestV (ok : Nat → Nat → Prop) (sc : Nat → Nat → Int) (L : Nat) (v : Nat → Int) : Prop where
  last : v L = 0
  step : ∀ i, i < L → v (i + 1) ≤ v i
  log : ∀ i j, i < j → j ≤ L → ok i j → sc i j + v j ≤ v i
  at_ : ∀ i, i < L → v i = v (i + 1) ∨ ∃ j, i < j ∧ j ≤ L ∧ ok i j ∧ v i = sc i j + v j

section
variable {ok ok' : Nat → Nat → Prop} {sc sc' : Nat → Nat → Int} {L : Nat} {v v' : Nat → Int}
theorem BestV.le (h : BestV ok sc L v) (h' : BestV ok' sc' L v') (hs : ∀ i j, i < j → j ≤ L → ok i j → ok' i j ∧ sc i j ≤ sc' i j) : ∀ {k i : Nat}, L - i = k → i ≤ L → v i ≤ v' i := by
  intro k
  induction k using Nat.strongRecOn with
  | ind k ih =>
    intro i hk hi
    by_cases hl : i < L
    · rcases h.at_ i hl with e | ⟨j, h1, h2, h3, e⟩
      · have := ih (L - (i + 1)) (by omega) rfl (by omega)
        have := h'.step i hl
        omega
      · have := ih (L - j) (by omega) rfl (by omega)
        obtain ⟨g1, g2⟩ := hs i j h1 h2 h3
        have := h'.log i j h1 h2 g1
        omega
    · have : i = L := by omega
      subst this
      rw [h.last, h'.last]
      exact Int.le_refl _
theorem BestV.eq (h : BestV ok sc L v) (h' : BestV ok' sc' L v') (hs : ∀ i j, i < j → j ≤ L → ((ok i j ↔ ok' i j) ∧ (ok i j → sc i j = sc' i j))) {i : Nat} (hi : i ≤ L) : v i = v' i := by
  have h1 := h.le h' (fun i j a b c => ⟨((hs i j a b).1).1 c, by rw [(hs i j a b).2 c]; exact Int.le_refl _⟩) rfl hi
  have h2 := h'.le h (fun i j a b c => ⟨((hs i j a b).1).2 c, by rw [(hs i j a b).2 (((hs i j a b).1).2 c)]; exact Int.le_refl _⟩) rfl hi
  omega
theorem BestV.mono (h : BestV ok sc L v) {i j : Nat} (hij : i ≤ j) (hj : j ≤ L) : v j ≤ v i := by
  obtain ⟨d, rfl⟩ : ∃ d, j = i + d := ⟨j - i, by omega⟩
  clear hij
  induction d with
  | zero => simp
  | succ d ih =>
    have h1 := ih (by omega)
    have h2 := h.step (i + d) (by omega)
    rw [show i + (d + 1) = i + d + 1 by omega]
    omega
end

theorem val_best {sc : Nat → Nat → Int} {lt : Nat → Nat → Bool} {L : Nat} : BestV (fun i j => 0 < sc i j ∧ lt i j = true) sc L (val sc lt L) where
  last := val_last
  step i h := by rw [val_rec h]; exact acc_base
  log i j h1 h2 h3 := by
    rw [val_rec (i := i) (by omega)]
    have := acc_ge (sc := sc) (lt := lt) (vn := val sc lt L) (i := i) (k := j - (i + 1)) (j := L - i) (by omega)
      (by rw [show i + 1 + (j - (i + 1)) = j by omega]; exact h3.1) (by rw [show i + 1 + (j - (i + 1)) = j by omega]; exact h3.2)
    rwa [show i + 1 + (j - (i + 1)) = j by omega] at this
  at_ i h := by
    rw [val_rec h]
    rcases acc_cases2 (sc := sc) (lt := lt) (vn := val sc lt L) (i := i) (j := L - i) with h' | ⟨k, h1, h2, h3, h4⟩
    · exact .inl h'
    · exact .inr ⟨i + 1 + k, by omega, by omega, ⟨h2, h3⟩, h4⟩
theorem Pr_best {sc : Nat → Nat → Int} {L : Nat} : BestV (fun i j => 0 < sc i j) sc L (Pr sc L) where
  last := Bv_end rfl (Nat.le_refl _) (Nat.le_refl _)
  step i h := Pr_step h
  log i j h1 h2 h3 := Pr_log h1 h2 h3
  at_ i h := by
    rcases Bv_cases (sc := sc) (L := L) (j := L) h with e | ⟨to, a1, a2, a3, a4, e⟩
    · exact .inl e
    · exact .inr ⟨to, a1, a3, a4, e⟩
/-- Up to p. -/
theorem Bv_best {sc : Nat → Nat → Int} {L p : Nat} (hp : p ≤ L) : BestV (fun i j => 0 < sc i j) sc p (Bv sc L p) where
  last := Bv_end rfl hp (Nat.le_refl _)
  step i h := Bv_step (by omega)
  log i j h1 h2 h3 := Bv_log h1 h2 hp h3
  at_ i h := by
    rcases Bv_cases (sc := sc) (L := L) (j := p) (i := i) (by omega) with e | ⟨to, a1, a2, a3, a4, e⟩
    · exact .inl e
    · exact .inr ⟨to, a1, a2, a4, e⟩
/-- From p on. -/
theorem Pr_from {sc : Nat → Nat → Int} {L p : Nat} (hp : p ≤ L) : BestV (fun i j => 0 < sc (p + i) (p + j)) (fun i j => sc (p + i) (p + j)) (L - p) (fun i => Pr sc L (p + i)) where
  last := by rw [show p + (L - p) = L by omega]; exact Pr_best.last
  step i h := by
    show Pr sc L (p + (i + 1)) ≤ Pr sc L (p + i)
    rw [← Nat.add_assoc]
    exact Pr_step (by omega)
  log i j h1 h2 h3 := Pr_log (by omega) (by omega) h3
  at_ i h := by
    rcases Pr_best.at_ (sc := sc) (L := L) (p + i) (by omega) with e | ⟨to, a1, a2, a3, e⟩
    · exact .inl e
    · refine .inr ⟨to - p, by omega, by omega, ?_, ?_⟩
      · rw [show p + (to - p) = to by omega]; exact a3
      · rw [show p + (to - p) = to by omega]; exact e
theorem rest_best {t b : List Int} {r : Ru} : BestV (fun i j => 0 < scN t b r i j) (scN t b r) (t.length - 1) (restN t b r allL) := by
  have h := val_best (sc := scN t b r) (lt := allL.letsN) (L := t.length - 1)
  refine ⟨h.last, h.step, fun i j h1 h2 h3 => h.log i j h1 h2 ⟨h3, allL_lets⟩, fun i hi => ?_⟩
  rcases h.at_ i hi with e | ⟨j, a1, a2, a3, e⟩
  · exact .inl e
  · exact .inr ⟨j, a1, a2, a3.1, e⟩

/-- No log over p: as if the stem ended there, and another began. -/
theorem beside_split {sc : Nat → Nat → Int} {L p : Nat} (hp : p ≤ L) : val sc (beside (p : Int)) L 0 = Fu sc L p + Pr sc L p := by
  have h := val_best (sc := sc) (lt := beside (p : Int)) (L := L)
  have h2 : BestV (fun i j => 0 < sc i j ∧ beside (p : Int) i j = true) sc L (fun i => if i ≤ p then Bv sc L p i + Pr sc L p else Pr sc L i) := by
    refine ⟨?_, fun i hi => ?_, fun i j h1 h2 h3 => ?_, fun i hi => ?_⟩
    · by_cases h : L ≤ p
      · have : p = L := by omega
        subst this
        simp only [Nat.le_refl, if_true]
        rw [(Bv_best (sc := sc) (Nat.le_refl p)).last, Pr_best.last]; rfl
      · simp only [h, if_false]; exact Pr_best.last
    · by_cases h1 : i + 1 ≤ p
      · have := (Bv_best (sc := sc) (L := L) hp).step i (by omega)
        simp only [h1, show i ≤ p by omega, if_true]
        omega
      · by_cases h2 : i ≤ p
        · have : i = p := by omega
          subst this
          have := (Bv_best (sc := sc) (L := L) hp).last
          have := Pr_step (sc := sc) (L := L) hi
          simp only [h1, Nat.le_refl, if_true, if_false]
          omega
        · simp only [h1, h2, if_false]
          exact Pr_step hi
    · obtain ⟨h3, h4⟩ := h3
      simp only [beside, Bool.or_eq_true, decide_eq_true_eq] at h4
      by_cases g1 : j ≤ p
      · have := (Bv_best (sc := sc) (L := L) hp).log i j h1 g1 h3
        simp only [g1, show i ≤ p by omega, if_true]
        omega
      · have hpi : p ≤ i := by omega
        have := Pr_log (sc := sc) h1 h2 h3
        by_cases g2 : i ≤ p
        · have : i = p := by omega
          subst this
          have := (Bv_best (sc := sc) (L := L) hp).last
          simp only [g1, Nat.le_refl, if_true, if_false]
          omega
        · simp only [g1, g2, if_false]
          exact this
    · by_cases h1 : i < p
      · rcases (Bv_best (sc := sc) (L := L) hp).at_ i h1 with e | ⟨j, a1, a2, a3, e⟩
        · left
          simp only [show i ≤ p by omega, show i + 1 ≤ p by omega, if_true]
          omega
        · right
          refine ⟨j, a1, by omega, ⟨a3, by simp only [beside, Bool.or_eq_true, decide_eq_true_eq]; omega⟩, ?_⟩
          simp only [show i ≤ p by omega, a2, if_true]
          omega
      · have hv : (if i ≤ p then Bv sc L p i + Pr sc L p else Pr sc L i) = Pr sc L i := by
          split
          · have : i = p := by omega
            subst this
            rw [(Bv_best (sc := sc) (L := L) hp).last]; omega
          · rfl
        simp only [hv, show ¬ i + 1 ≤ p by omega, if_false]
        rcases Pr_best.at_ (sc := sc) i hi with e | ⟨j, a1, a2, a3, e⟩
        · exact .inl e
        · refine .inr ⟨j, a1, a2, ⟨a3, by simp only [beside, Bool.or_eq_true, decide_eq_true_eq]; omega⟩, ?_⟩
          simp only [show ¬ j ≤ p by omega, if_false]
          exact e
  have := h.eq h2 (fun i j _ _ => ⟨Iff.rfl, fun _ => rfl⟩) (i := 0) (Nat.zero_le _)
  simpa [Fu] using this

/-! ### Sums of cuttings -/
def sumS (sc : Nat → Nat → Int) : List (Int × Int) → Int
  | [] => 0
  | p :: l => sc p.1.toNat p.2.toNat + sumS sc l
theorem sumS_of {t b : List Int} {r : Ru} : ∀ {l : List (Int × Int)}, (∀ p ∈ l, isLog t.length p.1 p.2 = true) → sumS (scN t b r) l = sumOf t b r l
  | [], _ => rfl
  | p :: l, h => by
    have := sumS_of (b := b) (r := r) (l := l) (fun q hq => h q (List.mem_cons_of_mem _ hq))
    obtain ⟨a1, a2, a3⟩ := isLog_iff.1 (h p (List.mem_cons_self ..))
    simp only [sumS, sumOf, this]
    unfold scN
    rw [show ((p.1.toNat : Nat) : Int) = p.1 by omega, show ((p.2.toNat : Nat) : Int) = p.2 by omega]
theorem sumS_append {sc : Nat → Nat → Int} {l m : List (Int × Int)} : sumS sc (l ++ m) = sumS sc l + sumS sc m := by
  induction l with
  | nil => simp [sumS]
  | cons p l ih => simp [sumS, ih]; omega

/-- A cutting from a on, of logs that are let. -/
structure CutOf (ok : Nat → Nat → Prop) (L : Nat) (a : Nat) (l : List (Int × Int)) : Prop where
  ord : ordered a l = true
  log : ∀ p ∈ l, 0 ≤ p.1 ∧ p.1 < p.2 ∧ p.2 ≤ L ∧ ok p.1.toNat p.2.toNat
theorem CutOf.tail {ok : Nat → Nat → Prop} {L a : Nat} {p : Int × Int} {l : List (Int × Int)} (h : CutOf ok L a (p :: l)) : a ≤ p.1.toNat ∧ p.1.toNat < p.2.toNat ∧ p.2.toNat ≤ L ∧ ok p.1.toNat p.2.toNat ∧ CutOf ok L p.2.toNat l := by
  have h1 := h.ord
  simp only [ordered, Bool.and_eq_true, decide_eq_true_eq] at h1
  obtain ⟨a1, a2, a3, a4⟩ := h.log p (List.mem_cons_self ..)
  refine ⟨by omega, by omega, by omega, a4, ?_, fun q hq => h.log q (List.mem_cons_of_mem _ hq)⟩
  rw [show ((p.2.toNat : Nat) : Int) = p.2 by omega]
  exact h1.2
theorem GoodC.of {t b : List Int} {r : Ru} {l : List (Int × Int)} (h : GoodC t b r l) (hr : RuB r) (n2 : 2 ≤ t.length) : CutOf (fun i j => 0 < scN t b r i j) (t.length - 1) 0 l := by
  refine ⟨h.ord, fun p hp => ?_⟩
  obtain ⟨h1, h2⟩ := h.log p hp
  obtain ⟨a1, a2, a3⟩ := isLog_iff.1 h1
  have h0 := scaleP_nonneg (t := t) (b := b) (x := p.1) (y := p.2) hr
  refine ⟨a1, a2, by omega, ?_⟩
  unfold scN
  rw [show ((p.1.toNat : Nat) : Int) = p.1 by omega, show ((p.2.toNat : Nat) : Int) = p.2 by omega]
  omega
theorem sum_le_best {ok : Nat → Nat → Prop} {sc : Nat → Nat → Int} {L : Nat} {v : Nat → Int} (B : BestV ok sc L v) : ∀ {l : List (Int × Int)} {a : Nat}, CutOf ok L a l → a ≤ L → sumS sc l ≤ v a
  | [], a, _, ha => by
    have := B.mono ha (Nat.le_refl _)
    rw [B.last] at this
    exact this
  | p :: l, a, h, ha => by
    obtain ⟨h1, h2, h3, h4, h5⟩ := h.tail
    have ih := sum_le_best B h5 h3
    have := B.log _ _ h2 h3 h4
    have := B.mono h1 (by omega)
    simp only [sumS]
    omega
end Go.Ab
