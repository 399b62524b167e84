/- Best cuttings, their counts, and places that they cut (plain). -/
import Derived.Test.YthcbimgdbhkikaaY5
set_option linter.unusedVariables false
set_option linter.unusedSimpArgs false
set_option maxHeartbeats 4000000
namespace Go.Ab
open Go Go.Proofs

section
variable {rest : Nat → Int} {sc : Nat → Nat → Int} {lt : Nat → Nat → Bool} {cn : Nat → Int} {i L : Nat}
theorem cacc_nn (hv : ∀ m, i < m → m ≤ L → 0 ≤ cn m ∧ cn m ≤ Many) {j : Nat} (h1 : i + j ≤ L) (h2 : i < L) : 0 ≤ cacc rest sc lt cn i j := (cacc_le hv h1 h2).1
theorem cacc_up (hv : ∀ m, i < m → m ≤ L → 0 ≤ cn m ∧ cn m ≤ Many) : ∀ {d j : Nat}, i + (j + d) ≤ L → i < L → 1 ≤ cacc rest sc lt cn i j → 1 ≤ cacc rest sc lt cn i (j + d)
  | 0, _, _, _, h => h
  | d + 1, j, h1, h2, h => by
    have ih := cacc_up hv (d := d) (j := j) (by omega) h2 h
    rw [← Nat.add_assoc, cacc]
    have hm : (1 : Int) ≤ Many := by unfold Many; omega
    split
    · have := (hv (i + 1 + (j + d)) (by omega) (by omega)).1
      omega
    · exact ih
end

theorem cval_pos {sc : Nat → Nat → Int} {lt : Nat → Nat → Bool} {L : Nat} {v : Nat → Int} (B : BestV (fun i j => 0 < sc i j) sc L v) : ∀ {k a : Nat} {l : List (Int × Int)}, L - a = k → a ≤ L → CutOf (fun i j => 0 < sc i j ∧ lt i j = true) L a l → sumS sc l = v a → 1 ≤ cval v sc lt L a := by
  intro k
  induction k using Nat.strongRecOn with
  | ind k ih =>
    intro a l hk ha hc hs
    have hle : ∀ {a' : Nat} {l' : List (Int × Int)}, CutOf (fun i j => 0 < sc i j ∧ lt i j = true) L a' l' → a' ≤ L → sumS sc l' ≤ v a' := fun {a' l'} h h' =>
      sum_le_best B (l := l') (a := a') ⟨h.ord, fun p hp => by obtain ⟨x1, x2, x3, x4⟩ := h.log p hp; exact ⟨x1, x2, x3, x4.1⟩⟩ h'
    by_cases hl : a < L
    · have hv : ∀ m, a < m → m ≤ L → 0 ≤ cval v sc lt L m ∧ cval v sc lt L m ≤ Many := fun m _ h => cval_le rfl h
      rw [cval_rec hl]
      have hnext : CutOf (fun i j => 0 < sc i j ∧ lt i j = true) L (a + 1) l → 1 ≤ cacc v sc lt (cval v sc lt L) a (L - a) := by
        intro h
        have h1 := hle h (by omega)
        have h2 := B.step a hl
        have h3 := ih (L - (a + 1)) (by omega) rfl (by omega) h (by omega)
        have h0 : 1 ≤ cacc v sc lt (cval v sc lt L) a 0 := by
          rw [cacc, if_pos (by omega)]; exact h3
        have := cacc_up hv (d := L - a) (j := 0) (by omega) hl h0
        rwa [Nat.zero_add] at this
      cases l with
      | nil => exact hnext ⟨rfl, by simp⟩
      | cons p l =>
        obtain ⟨h1, h2, h3, h4, h5⟩ := hc.tail
        by_cases he : p.1.toNat = a
        · have h6 := hle h5 h3
          have h7 := B.log _ _ h2 h3 h4.1
          simp only [sumS] at hs
          rw [he] at hs h7 h4 h2
          have h8 := ih (L - p.2.toNat) (by omega) rfl h3 h5 (by omega)
          obtain ⟨d, hd⟩ : ∃ d, p.2.toNat = a + 1 + d := ⟨p.2.toNat - (a + 1), by omega⟩
          rw [hd] at hs h6 h7 h8 h4 h3
          have h9 : 1 ≤ cacc v sc lt (cval v sc lt L) a (d + 1) := by
            rw [cacc, if_pos ⟨h4.1, h4.2, by omega⟩]
            have := cacc_nn (rest := v) (sc := sc) (lt := lt) hv (j := d) (by omega) hl
            have hm : (1 : Int) ≤ Many := by unfold Many; omega
            omega
          have := cacc_up hv (d := L - a - (d + 1)) (j := d + 1) (by omega) hl h9
          rwa [show d + 1 + (L - a - (d + 1)) = L - a by omega] at this
        · refine hnext ⟨?_, hc.log⟩
          have := hc.ord
          simp only [ordered, Bool.and_eq_true, decide_eq_true_eq] at this ⊢
          exact ⟨by omega, this.2⟩
    · have : a = L := by omega
      subst this
      rw [cval_last]
      exact Int.le_refl _

section
variable {sc : Nat → Nat → Int} {L : Nat}
theorem Fu_mono {i j : Nat} (h : i ≤ j) (hj : j ≤ L) : Fu sc L i ≤ Fu sc L j := by
  obtain ⟨d, rfl⟩ : ∃ d, j = i + d := ⟨j - i, by omega⟩
  clear h
  induction d with
  | zero => simp
  | succ d ih =>
    have h1 := ih (by omega)
    have h2 := Fu_step (sc := sc) (L := L) (j := i + d) (by omega)
    rw [show i + (d + 1) = i + d + 1 by omega]
    omega
/-- Each log of a best cutting is one of a best cutting. -/
theorem cut_hits : ∀ {l : List (Int × Int)} {a : Nat} {c : Int}, CutOf (fun i j => 0 < sc i j) L a l → a ≤ L → c ≤ Fu sc L a → c + sumS sc l = Pr sc L 0 → ∀ p ∈ l, Fu sc L p.1.toNat + sc p.1.toNat p.2.toNat + Pr sc L p.2.toNat = Pr sc L 0
  | [], _, _, _, _, _, _ => by simp
  | q :: l, a, c, h, ha, hc, hs => by
    obtain ⟨h1, h2, h3, h4, h5⟩ := h.tail
    have e1 := Fu_mono (sc := sc) (L := L) h1 (by omega)
    have e2 := sum_le_best Pr_best h5 h3
    have e3 := Fu_log (sc := sc) (L := L) h2 h3 h4
    have e4 := Fu_Pr (sc := sc) (L := L) h3
    simp only [sumS] at hs
    intro p hp
    rcases List.mem_cons.1 hp with rfl | hp
    · omega
    · exact cut_hits h5 h3 (c := c + sc q.1.toNat q.2.toNat) (by omega) (by omega) p hp
theorem hit_place {p a j : Nat} (h : Hit sc L p a j) : Fu sc L p + Pr sc L p = Pr sc L 0 ∧ p ≤ L := by
  obtain ⟨h1, h2, h3, h4, h5⟩ := h
  have e3 := Fu_log (sc := sc) (L := L) h1 h2 h3
  have e4 := Pr_log (sc := sc) (L := L) h1 h2 h3
  rcases h4 with h4 | h4
  · have : a = p := by omega
    subst this
    have := Fu_Pr (sc := sc) (L := L) (i := a) (by omega)
    exact ⟨by omega, by omega⟩
  · have : j = p := by omega
    subst this
    have := Fu_Pr (sc := sc) (L := L) (i := j) (by omega)
    exact ⟨by omega, by omega⟩
end

/-- A best cutting, and how often a place is cut. -/
def cutAt (p : Nat) (l : List (Int × Int)) : Bool := l.any fun q => decide (q.1 = (p : Int)) || decide (q.2 = (p : Int))
theorem hit_of {t b : List Int} {r : Ru} {l : List (Int × Int)} {p : Nat} (ok : Ok t b r) (h : GoodC t b r l) (hs : sumOf t b r l = restN t b r allL 0) (hc : cutAt p l = true) : cutsP t b r p = true := by
  unfold cutAt at hc
  rw [List.any_eq_true] at hc
  obtain ⟨q, hq, hqe⟩ := hc
  simp only [Bool.or_eq_true, decide_eq_true_eq] at hqe
  have hC := h.of ok.r ok.n2
  have hsum := sumS_of (b := b) (r := r) (fun q hq => (h.log q hq).1)
  rw [rest_Pr (Nat.zero_le _)] at hs
  have := cut_hits hC (Nat.zero_le _) (c := 0) (by rw [Fu_zero]; exact Int.le_refl _) (by omega) q hq
  obtain ⟨a1, a2, a3, a4⟩ := hC.log q hq
  exact cutsB_yes (a := q.1.toNat) (j := q.2.toNat) ⟨by omega, by omega, a4, by omega, this⟩
theorem cnt_pos {t b : List Int} {r : Ru} {l : List (Int × Int)} {lt : Nat → Nat → Bool} (ok : Ok t b r) (h : GoodC t b r l) (hs : sumOf t b r l = restN t b r allL 0) (hlt : ∀ q ∈ l, lt q.1.toNat q.2.toNat = true) : 1 ≤ cntN t b r lt 0 := by
  have hC := h.of ok.r ok.n2
  have hsum := sumS_of (b := b) (r := r) (fun q hq => (h.log q hq).1)
  exact cval_pos rest_best rfl (Nat.zero_le _) (l := l) ⟨hC.ord, fun q hq => by
    obtain ⟨a1, a2, a3, a4⟩ := hC.log q hq
    exact ⟨a1, a2, a3, a4, hlt q hq⟩⟩ (by rw [hsum]; exact hs)
theorem cnt_others {t b : List Int} {r : Ru} {l : List (Int × Int)} {p : Nat} (ok : Ok t b r) (h : GoodC t b r l) (hs : sumOf t b r l = restN t b r allL 0) (hc : cutAt p l = false) : 1 ≤ cntN t b r (others p) 0 := by
  refine cnt_pos ok h hs fun q hq => ?_
  unfold cutAt at hc
  rw [List.any_eq_false] at hc
  have := hc q hq
  obtain ⟨h1, h2⟩ := h.log q hq
  obtain ⟨a1, a2, a3⟩ := isLog_iff.1 h1
  simp only [Bool.or_eq_true, decide_eq_true_eq, not_or] at this
  simp only [others, Bool.and_eq_true, decide_eq_true_eq]
  omega

structure KindIs (t b : List Int) (r : Ru) (p : Nat) (k l : Int) : Prop where
  ek : kindP t b r p = (k, 0)
  el : lossP t b r p = (l, 0)
  k0 : 0 ≤ k
  k2 : k ≤ 2
  l0 : 0 ≤ l
  kl : k ≠ 0 → l = 0
  cut : ∀ c, GoodC t b r c → sumOf t b r c = restN t b r allL 0 → (k = 0 → cutAt p c = false) ∧ (k = 2 → cutAt p c = true)
theorem kind_is {t b : List Int} {r : Ru} {p : Nat} (ok : Ok t b r) (hE : openE t b [r] = 0) (hp : p ≤ t.length - 1) : ∃ k l, KindIs t b r p k l := by
  have hpe : placeE t b r p = 0 := by
    have n2 := ok.n2
    have : fit 0 ((t.length : Int) - 1) p = true := by simp only [fit, Bool.and_eq_true, decide_eq_true_eq]; omega
    simp [placeE, hE, this]
  obtain ⟨hg, hs⟩ := cutL_good ok hE
  have hall : 1 ≤ cntN t b r allB 0 := cnt_pos ok hg hs (fun _ _ => rfl)
  have hloss : lossP t b r p = (restN t b r allL 0 - (Fu (scN t b r) (t.length - 1) p + Pr (scN t b r) (t.length - 1) p), 0) := by
    simp [lossP, hpe, loss_split hp]
  have hfp := Fu_Pr (sc := scN t b r) (L := t.length - 1) (i := p) hp
  rw [← rest_Pr (Nat.zero_le _)] at hfp
  have hno : cutsP t b r p = true → restN t b r allL 0 - (Fu (scN t b r) (t.length - 1) p + Pr (scN t b r) (t.length - 1) p) = 0 := by
    intro h
    unfold cutsP cutsB at h
    simp only [decide_eq_true_eq] at h
    obtain ⟨a, j, hh⟩ := h
    have := (hit_place hh).1
    rw [← rest_Pr (Nat.zero_le _)] at this
    omega
  by_cases h1 : cntN t b r (others p) 0 = 0
  · have hmay := kind_may (t := t) (b := b) (r := r) (place := p) (by omega)
    exact ⟨2, _, by simp [kindP, hpe, h1], hloss, by omega, by omega, by omega, fun _ => hno hmay, fun c hc hcs => ⟨fun h => by omega, fun _ => by
      cases hx : cutAt p c with
      | true => rfl
      | false => have := cnt_others ok hc hcs hx; omega⟩⟩
  · cases h2 : cutsP t b r p with
    | true => exact ⟨1, _, by simp [kindP, hpe, h1, h2], hloss, by omega, by omega, by omega, fun _ => hno h2, fun c hc hcs => ⟨fun h => by omega, fun h => by omega⟩⟩
    | false => exact ⟨0, _, by simp [kindP, hpe, h1, h2], hloss, by omega, by omega, by omega, fun h => absurd rfl h, fun c hc hcs => ⟨fun _ => by
        cases hx : cutAt p c with
        | true => have := hit_of ok hc hcs hx; rw [h2] at this; cases this
        | false => rfl, fun h => by omega⟩⟩
theorem count_is {t b : List Int} {r : Ru} (ok : Ok t b r) (hE : openE t b [r] = 0) : (∃ m, countP t b r = (m, 0) ∧ 1 ≤ m) ∨ countP t b r = (0, 4) := by
  obtain ⟨hg, hs⟩ := cutL_good ok hE
  have hall : 1 ≤ cntN t b r allB 0 := cnt_pos ok hg hs (fun _ _ => rfl)
  unfold countP
  rw [if_neg (by simp [hE])]
  split
  · exact .inr rfl
  · exact .inl ⟨_, rfl, hall⟩
end Go.Ab
