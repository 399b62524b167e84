/- Parts of stems (plain). -/
import Derived.Test.YthcbimgdbhkikaaY4
set_option linter.unusedVariables false
set_option linter.unusedSimpArgs false
set_option maxHeartbeats 4000000
namespace Go.Ab
open Go Go.Proofs

theorem badFrom_iff {n : Int} : ∀ {b : List Int} {next : Int}, badFrom n next b = true ↔ (∀ x ∈ b, next ≤ x ∧ x ≤ n - 2) ∧ b.Pairwise (· < ·)
  | [], next => by simp [badFrom]
  | f :: b, next => by
    simp only [badFrom, Bool.and_eq_true, badFrom_iff (b := b), fit, decide_eq_true_eq, List.mem_cons, forall_eq_or_imp, List.pairwise_cons]
    constructor
    · rintro ⟨⟨h1, h2⟩, h3, h4⟩
      refine ⟨⟨⟨h1, h2⟩, fun x hx => ?_⟩, fun x hx => ?_, h4⟩
      · have := h3 x hx; omega
      · have := h3 x hx; omega
    · rintro ⟨⟨⟨h1, h2⟩, h3⟩, h4, h5⟩
      refine ⟨⟨h1, h2⟩, fun x hx => ?_, h5⟩
      have := h3 x hx
      have := h4 x hx
      omega
theorem checkStem_iff {t b : List Int} : checkStem t b = 0 ↔ 2 ≤ t.length ∧ t.length ≤ 61 ∧ (∀ x ∈ t, 0 ≤ x ∧ x ≤ 60) ∧ falling t ∧ badFrom t.length 0 b = true := by
  refine ⟨stem_ok, fun ⟨h1, h2, h3, h4, h5⟩ => ?_⟩
  have e1 : fit 2 61 t.length = true := by simp only [fit, Bool.and_eq_true, decide_eq_true_eq]; omega
  have e2 : t.all (fit 0 60) = true := by
    rw [List.all_eq_true]
    intro x hx
    have := h3 x hx
    simp only [fit, Bool.and_eq_true, decide_eq_true_eq]
    exact this
  simp [checkStem, e1, e2, h4, h5]
theorem openE_iff {t b : List Int} {r : Ru} : openE t b [r] = 0 ↔ checkStem t b = 0 ∧ r.ok = true := by
  unfold openE
  constructor
  · intro h
    split at h
    · rename_i h1
      split at h
      · rename_i h2; simp at h2; exact ⟨h1, h2⟩
      · cases h
    · rename_i h1; exact absurd h h1
  · rintro ⟨h1, h2⟩
    simp [h1, h2]

def partT (t : List Int) (f e : Nat) : List Int := (t.drop f).take (e + 1 - f)
def partB (b : List Int) (f e : Nat) : List Int := (b.filter fun x => decide ((f : Int) ≤ x) && decide (x < e)).map (· - (f : Int))
theorem partT_len {t : List Int} {f e : Nat} (h1 : f ≤ e) (h2 : e < t.length) : (partT t f e).length = e + 1 - f := by
  unfold partT
  rw [List.length_take, List.length_drop]
  omega
theorem partT_get {t : List Int} {f e i : Nat} (h1 : f + i ≤ e) (h2 : e < t.length) : (partT t f e).getD i 0 = t.getD (f + i) 0 := by
  simp only [partT, List.getD_eq_getElem?_getD, List.getElem?_take, List.getElem?_drop]
  rw [if_pos (by omega)]
theorem partB_mem {b : List Int} {f e : Nat} {x : Int} : x ∈ partB b f e ↔ 0 ≤ x ∧ x + f < e ∧ x + f ∈ b := by
  simp only [partB, List.mem_map, List.mem_filter, Bool.and_eq_true, decide_eq_true_eq]
  constructor
  · rintro ⟨y, ⟨h1, h2, h3⟩, rfl⟩
    refine ⟨by omega, by omega, ?_⟩
    rwa [show y - (f : Int) + f = y by omega]
  · rintro ⟨h1, h2, h3⟩
    exact ⟨x + f, ⟨h3, by omega, by omega⟩, by omega⟩
theorem part_check {t b : List Int} {f e : Nat} (h : checkStem t b = 0) (h1 : f < e) (h2 : e < t.length) : checkStem (partT t f e) (partB b f e) = 0 := by
  obtain ⟨a1, a2, a3, a4, a5⟩ := stem_ok h
  have hl := partT_len (t := t) (f := f) (e := e) (by omega) h2
  rw [checkStem_iff, hl]
  refine ⟨by omega, by omega, fun x hx => a3 x (List.mem_of_mem_drop (List.mem_of_mem_take hx)), fun i hi => ?_, ?_⟩
  · rw [hl] at hi
    rw [partT_get (by omega) h2, partT_get (by omega) h2, ← Nat.add_assoc]
    exact a4 (f + i) (by omega)
  · rw [badFrom_iff] at a5 ⊢
    refine ⟨fun x hx => ?_, ?_⟩
    · obtain ⟨g1, g2, g3⟩ := partB_mem.1 hx
      omega
    · unfold partB
      rw [List.pairwise_map]
      refine (a5.2.filter _).imp ?_
      intro x y hxy
      omega
theorem part_sc {t b : List Int} {r : Ru} {f e i j : Nat} (h1 : f + j ≤ e) (h2 : e < t.length) (hij : i < j) : scN (partT t f e) (partB b f e) r i j = scN t b r (f + i) (f + j) := by
  unfold scN scaleP scaleN
  have hb : hasBad (partB b f e) i j = hasBad b (f + i : Nat) (f + j : Nat) := by
    rw [Bool.eq_iff_iff, hasBad_iff, hasBad_iff]
    constructor
    · rintro ⟨x, hx, g1, g2⟩
      obtain ⟨a1, a2, a3⟩ := partB_mem.1 hx
      exact ⟨x + f, a3, by omega, by omega⟩
    · rintro ⟨x, hx, g1, g2⟩
      exact ⟨x - f, partB_mem.2 ⟨by omega, by omega, by rwa [show x - (f : Int) + f = x by omega]⟩, by omega, by omega⟩
  have ht : (partT t f e).getD (j : Int).toNat 0 = t.getD ((f + j : Nat) : Int).toNat 0 := by
    rw [show (j : Int).toNat = j by omega, show ((f + j : Nat) : Int).toNat = f + j by omega]
    exact partT_get h1 h2
  have hd : ((f + j : Nat) : Int) - (f + i : Nat) = (j : Int) - i := by omega
  rw [hb, ht, hd]
/-- What the part up to p scales, and the part behind it. -/
theorem part_up {t b : List Int} {r : Ru} {p : Nat} (hp : p ≤ t.length - 1) (hp0 : 0 < p) : restN (partT t 0 p) (partB b 0 p) r allL 0 = Fu (scN t b r) (t.length - 1) p := by
  have hl : (partT t 0 p).length - 1 = p := by rw [partT_len (by omega) (by omega)]; omega
  have h1 := rest_best (t := partT t 0 p) (b := partB b 0 p) (r := r)
  rw [hl] at h1
  have e : ∀ i j, i < j → j ≤ p → scN (partT t 0 p) (partB b 0 p) r i j = scN t b r i j := fun i j hij hj => by
    rw [part_sc (by omega) (by omega) hij, Nat.zero_add, Nat.zero_add]
  exact h1.eq (Bv_best (sc := scN t b r) (L := t.length - 1) hp) (fun i j hij hj => ⟨by rw [e i j hij hj], fun _ => e i j hij hj⟩) (Nat.zero_le _)
theorem part_from {t b : List Int} {r : Ru} {p : Nat} (hp : p < t.length - 1) : restN (partT t p (t.length - 1)) (partB b p (t.length - 1)) r allL 0 = Pr (scN t b r) (t.length - 1) p := by
  have hl : (partT t p (t.length - 1)).length - 1 = t.length - 1 - p := by rw [partT_len (by omega) (by omega)]; omega
  have h1 := rest_best (t := partT t p (t.length - 1)) (b := partB b p (t.length - 1)) (r := r)
  rw [hl] at h1
  have e : ∀ i j, i < j → j ≤ t.length - 1 - p → scN (partT t p (t.length - 1)) (partB b p (t.length - 1)) r i j = scN t b r (p + i) (p + j) := fun i j hij hj => by
    rw [part_sc (by omega) (by omega) hij]
  have := h1.eq (Pr_from (sc := scN t b r) (L := t.length - 1) (p := p) (by omega)) (fun i j hij hj => ⟨by rw [e i j hij hj], fun _ => e i j hij hj⟩) (i := 0) (Nat.zero_le _)
  simpa using this
theorem loss_split {t b : List Int} {r : Ru} {p : Nat} (hp : p ≤ t.length - 1) : restN t b r ⟨p, -1⟩ 0 = Fu (scN t b r) (t.length - 1) p + Pr (scN t b r) (t.length - 1) p := by
  unfold restN
  rw [lets_beside]
  exact beside_split hp
/-- If no log is over p, the loss of p takes nothing. -/
theorem beside_cut {t b : List Int} {r : Ru} {l : List (Int × Int)} {p : Nat} (hp : p ≤ t.length - 1) (h : CutOf (fun i j => 0 < scN t b r i j) (t.length - 1) 0 l) (hb : ∀ q ∈ l, ¬ (q.1 < p ∧ (p : Int) < q.2)) :
    sumS (scN t b r) l ≤ Fu (scN t b r) (t.length - 1) p + Pr (scN t b r) (t.length - 1) p := by
  have h1 := val_best (sc := scN t b r) (lt := beside (p : Int)) (L := t.length - 1)
  rw [← beside_split hp]
  refine sum_le_best h1 (l := l) (a := 0) ⟨h.ord, fun q hq => ?_⟩ (Nat.zero_le _)
  obtain ⟨a1, a2, a3, a4⟩ := h.log q hq
  have := hb q hq
  exact ⟨a1, a2, a3, a4, by simp only [beside, Bool.or_eq_true, decide_eq_true_eq]; omega⟩
end Go.Ab
