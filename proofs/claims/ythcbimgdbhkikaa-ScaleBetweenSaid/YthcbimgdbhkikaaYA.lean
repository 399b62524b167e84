/- Between which ends best cuttings scale (plain). -/
import Derived.Test.YthcbimgdbhkikaaY8
import Derived.Test.YthcbimgdbhkikaaXC
set_option linter.unusedVariables false
set_option linter.unusedSimpArgs false
set_option maxHeartbeats 4000000
namespace Go.Ab
open Go Go.Proofs

section
variable {rest : Nat → Int} {sc so : Nat → Nat → Int} {bn : Nat → Int × Int} {i : Nat}
theorem bacc_all {P : Int × Int → Prop} (hm : ∀ p q, P p → P q → P (meet p q)) (h0 : rest i = rest (i + 1) → P (bn (i + 1))) : ∀ {j : Nat}, (∀ k, k < j → 0 < sc i (i + 1 + k) → rest i = sc i (i + 1 + k) + rest (i + 1 + k) → P (shift (so i (i + 1 + k)) (bn (i + 1 + k)))) →
    ∀ p, bacc rest sc so bn i j = some p → P p
  | 0, _, p, h => by
    simp only [bacc] at h
    split at h
    · simp only [Option.some.injEq] at h
      subst h
      exact h0 (by assumption)
    · cases h
  | j + 1, hs, p, h => by
    have ih := bacc_all hm h0 (j := j) (fun k hk => hs k (by omega))
    simp only [bacc] at h
    split at h
    · rename_i hc
      have hj := hs j (by omega) hc.1 hc.2
      cases hb : bacc rest sc so bn i j with
      | none => rw [hb] at h; simp only [joinR, Option.some.injEq] at h; subst h; exact hj
      | some q => rw [hb] at h; simp only [joinR, Option.some.injEq] at h; subst h; exact hm _ _ (ih q hb) hj
    · exact ih p h
def Wide (p q : Int × Int) : Prop := q.1 ≤ p.1 ∧ p.2 ≤ q.2
theorem bacc_wide {p : Int × Int} : ∀ {d j : Nat}, bacc rest sc so bn i j = some p → ∃ q, bacc rest sc so bn i (j + d) = some q ∧ Wide p q
  | 0, j, h => ⟨p, h, Int.le_refl _, Int.le_refl _⟩
  | d + 1, j, h => by
    obtain ⟨q, h1, h2, h3⟩ := bacc_wide (d := d) h
    rw [← Nat.add_assoc, bacc]
    split
    · rw [h1]
      refine ⟨_, rfl, ?_, ?_⟩ <;> simp only [meet] <;> omega
    · exact ⟨q, h1, h2, h3⟩
theorem bacc_has {k j : Nat} (hk : k < j) (h1 : 0 < sc i (i + 1 + k)) (h2 : rest i = sc i (i + 1 + k) + rest (i + 1 + k)) : ∃ q, bacc rest sc so bn i j = some q ∧ Wide (shift (so i (i + 1 + k)) (bn (i + 1 + k))) q := by
  have : ∃ q, bacc rest sc so bn i (k + 1) = some q ∧ Wide (shift (so i (i + 1 + k)) (bn (i + 1 + k))) q := by
    rw [bacc, if_pos ⟨h1, h2⟩]
    cases bacc rest sc so bn i k with
    | none => exact ⟨_, rfl, Int.le_refl _, Int.le_refl _⟩
    | some p => refine ⟨_, rfl, ?_, ?_⟩ <;> simp only [meet] <;> omega
  obtain ⟨q, g1, g2, g3⟩ := this
  obtain ⟨q', e1, e2, e3⟩ := bacc_wide (d := j - (k + 1)) g1
  rw [show k + 1 + (j - (k + 1)) = j by omega] at e1
  exact ⟨q', e1, by omega, by omega⟩
theorem bacc_base {j : Nat} (h : rest i = rest (i + 1)) : ∃ q, bacc rest sc so bn i j = some q ∧ Wide (bn (i + 1)) q := by
  have : bacc rest sc so bn i 0 = some (bn (i + 1)) := by rw [bacc, if_pos h]
  have := bacc_wide (d := j) this
  rwa [Nat.zero_add] at this
end

section
variable {sc so : Nat → Nat → Int} {L : Nat}
theorem bval_some {i : Nat} (h : i < L) : bacc (Pr sc L) sc so (bval (Pr sc L) sc so L) i (L - i) = some (bval (Pr sc L) sc so L i) := by
  have hs := bacc_some (sc := sc) (sc2 := so) (bn := bval (Pr sc L) sc so L) h
  have hrec : bval (Pr sc L) sc so L i = _ := bval_rec h
  cases hb : bacc (Pr sc L) sc so (bval (Pr sc L) sc so L) i (L - i) with
  | none => rw [hb] at hs; cases hs
  | some p => rw [hb] at hrec; rw [hrec]; rfl
/-- What holds of all ends. -/
theorem bval_all {P : Nat → Int × Int → Prop} (hm : ∀ i p q, P i p → P i q → P i (meet p q)) (hl : P L (0, 0)) (h0 : ∀ i p, i < L → Pr sc L i = Pr sc L (i + 1) → P (i + 1) p → P i p)
    (hs : ∀ i j p, i < j → j ≤ L → 0 < sc i j → Pr sc L i = sc i j + Pr sc L j → P j p → P i (shift (so i j) p)) : ∀ {k i : Nat}, L - i = k → i ≤ L → P i (bval (Pr sc L) sc so L i) := by
  intro k
  induction k using Nat.strongRecOn with
  | ind k ih =>
    intro i hk hi
    by_cases h : i < L
    · exact bacc_all (P := P i) (hm i) (fun e => h0 i _ h e (ih (L - (i + 1)) (by omega) rfl (by omega))) (fun k hk h1 h2 => hs i _ _ (by omega) (by omega) h1 h2 (ih (L - (i + 1 + k)) (by omega) rfl (by omega))) _ (bval_some h)
    · have : i = L := by omega
      subst this
      rw [bval_last]
      exact hl
/-- By the same rule. -/
theorem bval_same {i : Nat} (hi : i ≤ L) : bval (Pr sc L) sc sc L i = (Pr sc L i, Pr sc L i) := by
  have := bval_all (sc := sc) (so := sc) (L := L) (P := fun i p => p = (Pr sc L i, Pr sc L i)) (fun i p q h1 h2 => by rw [h1, h2]; exact meet_self) (by rw [Pr_best.last])
    (fun i p hi e h => by rw [h, e]) (fun i j p h1 h2 h3 h4 h5 => by rw [h5, h4]; rfl) rfl hi
  exact this
theorem bval_order {i : Nat} (hi : i ≤ L) : (bval (Pr sc L) sc so L i).1 ≤ (bval (Pr sc L) sc so L i).2 :=
  bval_all (sc := sc) (so := so) (L := L) (P := fun i p => p.1 ≤ p.2) (fun i p q h1 h2 => by simp only [meet]; omega) (Int.le_refl _) (fun i p hi e h => h) (fun i j p h1 h2 h3 h4 h5 => by simp only [shift]; omega) rfl hi
theorem bval_top (h0 : ∀ i j, 0 ≤ so i j) {i : Nat} (hi : i ≤ L) : (bval (Pr sc L) sc so L i).2 ≤ Pr so L i :=
  bval_all (sc := sc) (so := so) (L := L) (P := fun i p => p.2 ≤ Pr so L i) (fun i p q h1 h2 => by simp only [meet]; omega) (by rw [Pr_best.last]; exact Int.le_refl _)
    (fun i p hi e h => by have := Pr_step (sc := so) hi; omega) (fun i j p h1 h2 h3 h4 h5 => by
      simp only [shift]
      have := h0 i j
      by_cases hp : 0 < so i j
      · have := Pr_log (sc := so) h1 h2 hp; omega
      · have := Pr_mono (sc := so) (L := L) (i := i) (j := j) (by omega) h2; omega) rfl hi
/-- A best cutting is between the ends. -/
theorem bval_cut : ∀ {k a : Nat} {l : List (Int × Int)}, L - a = k → a ≤ L → CutOf (fun i j => 0 < sc i j) L a l → sumS sc l = Pr sc L a → (bval (Pr sc L) sc so L a).1 ≤ sumS so l ∧ sumS so l ≤ (bval (Pr sc L) sc so L a).2 := by
  intro k
  induction k using Nat.strongRecOn with
  | ind k ih =>
    intro a l hk ha hc hs
    by_cases hl : a < L
    · have hrec := bval_some (sc := sc) (so := so) hl
      have hnext : CutOf (fun i j => 0 < sc i j) L (a + 1) l → (bval (Pr sc L) sc so L a).1 ≤ sumS so l ∧ sumS so l ≤ (bval (Pr sc L) sc so L a).2 := by
        intro h
        have h1 := sum_le_best Pr_best h (by omega)
        have h2 := Pr_step (sc := sc) (L := L) hl
        obtain ⟨h3, h4⟩ := ih (L - (a + 1)) (by omega) rfl (by omega) h (by omega)
        obtain ⟨q, g1, g2, g3⟩ := bacc_base (rest := Pr sc L) (sc := sc) (so := so) (bn := bval (Pr sc L) sc so L) (i := a) (j := L - a) (by omega)
        rw [hrec] at g1
        simp only [Option.some.injEq] at g1
        subst g1
        omega
      cases l with
      | nil => exact hnext ⟨rfl, by simp⟩
      | cons p l =>
        obtain ⟨h1, h2, h3, h4, h5⟩ := hc.tail
        by_cases he : p.1.toNat = a
        · have h6 := sum_le_best Pr_best h5 h3
          have h7 := Pr_log (sc := sc) h2 h3 h4
          simp only [sumS] at hs ⊢
          rw [he] at hs h7 h4 h2 ⊢
          obtain ⟨h8, h9⟩ := ih (L - p.2.toNat) (by omega) rfl h3 h5 (by omega)
          obtain ⟨d, hd⟩ : ∃ d, p.2.toNat = a + 1 + d := ⟨p.2.toNat - (a + 1), by omega⟩
          rw [hd] at hs h6 h7 h8 h9 h4 h3 ⊢
          obtain ⟨q, g1, g2, g3⟩ := bacc_has (rest := Pr sc L) (sc := sc) (so := so) (bn := bval (Pr sc L) sc so L) (i := a) (k := d) (j := L - a) (by omega) h4 (by omega)
          rw [hrec] at g1
          simp only [Option.some.injEq] at g1
          subst g1
          simp only [shift] at g2 g3
          omega
        · refine hnext ⟨?_, hc.log⟩
          have := hc.ord
          simp only [ordered, Bool.and_eq_true, decide_eq_true_eq] at this ⊢
          exact ⟨by omega, this.2⟩
    · have : a = L := by omega
      subst this
      rw [bval_last]
      cases l with
      | nil => exact ⟨Int.le_refl _, Int.le_refl _⟩
      | cons p l => obtain ⟨h1, h2, h3, h4, h5⟩ := hc.tail; omega
end

structure BtwIs (t b : List Int) (r o : Ru) (lo hi : Int) : Prop where
  e : btw t b r o 0 = (lo, hi)
  lo0 : 0 ≤ lo
  le : lo ≤ hi
  top : hi ≤ restN t b o allL 0
  cut : ∀ c, GoodC t b r c → sumOf t b r c = restN t b r allL 0 → lo ≤ sumOf t b o c ∧ sumOf t b o c ≤ hi
theorem btw_is {t b : List Int} {r o : Ru} (ok : Ok t b r) (ok2 : Ok t b o) : ∃ lo hi, BtwIs t b r o lo hi := by
  have hso := fun i j => scN_bounds (t := t) (b := b) ok2.r ok.tv (i := i) (j := j)
  refine ⟨(btw t b r o 0).1, (btw t b r o 0).2, rfl, ?_, bval_order (Nat.zero_le _), ?_, fun c hc hs => ?_⟩
  · exact (bval_in (rest := Pr (scN t b r) (t.length - 1)) (sc := scN t b r) (sc2 := scN t b o) (L := t.length - 1) hso rfl (Nat.zero_le _)).1.1
  · rw [rest_Pr (Nat.zero_le _)]
    exact bval_top (fun i j => (hso i j).1) (Nat.zero_le _)
  · have hC := hc.of ok.r ok.n2
    have h1 := sumS_of (b := b) (r := r) (fun q hq => (hc.log q hq).1)
    have h2 := sumS_of (b := b) (r := o) (fun q hq => (hc.log q hq).1)
    rw [← h2]
    refine bval_cut rfl (Nat.zero_le _) hC ?_
    rw [h1, hs, rest_Pr (Nat.zero_le _)]
theorem btw_same {t b : List Int} {r : Ru} : btw t b r r 0 = (restN t b r allL 0, restN t b r allL 0) := by
  rw [rest_Pr (Nat.zero_le _)]
  exact bval_same (Nat.zero_le _)
end Go.Ab
