/- One more bad foot (plain). -/
import Derived.Test.YthcbimgdbhkikaaY5
set_option linter.unusedVariables false
set_option linter.unusedSimpArgs false
set_option maxHeartbeats 4000000
namespace Go.Ab
open Go Go.Proofs

/-- The bad feet, and the foot a, of the first k. -/
def addB (b : List Int) (a : Int) (k : Nat) : List Int := ((List.range k).map Int.ofNat).filter fun i => decide (i = a) || b.any fun f => decide (f = i)
theorem addB_succ {b : List Int} {a : Int} {k : Nat} : addB b a (k + 1) = addB b a k ++ if (decide ((k : Int) = a) || b.any fun f => decide (f = (k : Int))) = true then [(k : Int)] else [] := by
  unfold addB
  rw [List.range_succ, List.map_append, List.filter_append]
  congr 1
  simp only [List.map_cons, List.map_nil, List.filter_cons, List.filter_nil]
  rfl
theorem addB_mem {b : List Int} {a x : Int} {k : Nat} : x ∈ addB b a k ↔ 0 ≤ x ∧ x < k ∧ (x = a ∨ x ∈ b) := by
  simp only [addB, List.mem_filter, List.mem_map, List.mem_range, Bool.or_eq_true, decide_eq_true_eq, List.any_eq_true]
  constructor
  · rintro ⟨⟨y, h1, rfl⟩, h2⟩
    refine ⟨by simp, by simp; omega, ?_⟩
    rcases h2 with h2 | ⟨f, h2, h3⟩
    · exact .inl h2
    · right; rw [← h3]; exact h2
  · rintro ⟨h1, h2, h3⟩
    refine ⟨⟨x.toNat, by omega, by show ((x.toNat : Nat) : Int) = x; omega⟩, ?_⟩
    rcases h3 with h3 | h3
    · exact .inl h3
    · exact .inr ⟨x, h3, rfl⟩
theorem addB_len {b : List Int} {a : Int} {k : Nat} : (addB b a k).length ≤ k := by
  unfold addB
  have := List.length_filter_le (fun i => decide (i = a) || b.any fun f => decide (f = i)) ((List.range k).map Int.ofNat)
  simpa using this
theorem addB_check {t b : List Int} {a : Nat} (h : checkStem t b = 0) : checkStem t (addB b a (t.length - 1)) = 0 := by
  obtain ⟨a1, a2, a3, a4, a5⟩ := stem_ok h
  rw [checkStem_iff]
  refine ⟨a1, a2, a3, a4, badFrom_iff.2 ⟨fun x hx => ?_, ?_⟩⟩
  · obtain ⟨h1, h2, h3⟩ := addB_mem.1 hx
    omega
  · unfold addB
    refine List.Pairwise.filter _ ?_
    rw [List.pairwise_map]
    refine List.pairwise_lt_range.imp ?_
    intro x y hxy
    simp only [Int.ofNat_eq_natCast]
    omega
theorem scN_add {t b : List Int} {r : Ru} {a i j : Nat} (hij : i < j) (hj : j ≤ t.length - 1) : scN t (addB b a (t.length - 1)) r i j = if i ≤ a ∧ a < j then 0 else scN t b r i j := by
  unfold scN scaleP
  by_cases hp : i ≤ a ∧ a < j
  · have : hasBad (addB b a (t.length - 1)) i j = true := by
      rw [hasBad_iff]
      exact ⟨a, addB_mem.2 ⟨by omega, by omega, .inl rfl⟩, by omega, by omega⟩
    rw [this, if_pos hp]
    rfl
  · have : hasBad (addB b a (t.length - 1)) i j = hasBad b i j := by
      rw [Bool.eq_iff_iff, hasBad_iff, hasBad_iff]
      constructor
      · rintro ⟨f, h1, h2, h3⟩
        obtain ⟨g1, g2, g3⟩ := addB_mem.1 h1
        rcases g3 with g3 | g3
        · omega
        · exact ⟨f, g3, h2, h3⟩
      · rintro ⟨f, h1, h2, h3⟩
        exact ⟨f, addB_mem.2 ⟨by omega, by omega, .inr h1⟩, h2, h3⟩
    rw [this, if_neg hp]
theorem add_le {t b : List Int} {r : Ru} {a : Nat} : restN t (addB b a (t.length - 1)) r allL 0 ≤ restN t b r allL 0 := by
  refine rest_best.le rest_best (fun i j hij hj h => ?_) rfl (Nat.zero_le _)
  rw [scN_add hij hj] at h ⊢
  split
  · rename_i h1; rw [if_pos h1] at h; omega
  · rename_i h1; rw [if_neg h1] at h; exact ⟨h, Int.le_refl _⟩

/-! ### Whether a foot is in a right log -/
def usedR (sc : Nat → Nat → Int) (a f k : Nat) : Bool := (List.range k).any fun d => decide (0 < sc f (a + 1 + d))
def usedA (sc : Nat → Nat → Int) (a L F : Nat) : Bool := (List.range F).any fun f => usedR sc a f (L - a)
theorem usedR_succ {sc : Nat → Nat → Int} {a f k : Nat} : usedR sc a f (k + 1) = (usedR sc a f k || decide (0 < sc f (a + 1 + k))) := by simp [usedR, List.range_succ]
theorem usedA_succ {sc : Nat → Nat → Int} {a L F : Nat} : usedA sc a L (F + 1) = (usedA sc a L F || usedR sc a F (L - a)) := by simp [usedA, List.range_succ]
theorem usedA_iff {sc : Nat → Nat → Int} {a L : Nat} : usedA sc a L (a + 1) = true ↔ ∃ f j, f ≤ a ∧ a < j ∧ j ≤ L ∧ 0 < sc f j := by
  simp only [usedA, usedR, List.any_eq_true, List.mem_range, decide_eq_true_eq]
  constructor
  · rintro ⟨f, h1, d, h2, h3⟩
    exact ⟨f, a + 1 + d, by omega, by omega, by omega, h3⟩
  · rintro ⟨f, j, h1, h2, h3, h4⟩
    refine ⟨f, by omega, j - (a + 1), by omega, ?_⟩
    rwa [show a + 1 + (j - (a + 1)) = j by omega]

theorem cacc_congr4 {rest : Nat → Int} {sc sc' : Nat → Nat → Int} {lt : Nat → Nat → Bool} {cn cn' : Nat → Int} {L i : Nat} (hs : ∀ m, i < m → m ≤ L → sc i m = sc' i m) (hc : ∀ m, i < m → m ≤ L → cn m = cn' m) (hi : i < L) : ∀ {j : Nat}, i + j ≤ L → cacc rest sc lt cn i j = cacc rest sc' lt cn' i j
  | 0, _ => by simp only [cacc, hc (i + 1) (by omega) (by omega)]
  | j + 1, hj => by
    have := cacc_congr4 hs hc hi (j := j) (by omega) (rest := rest) (lt := lt)
    simp only [cacc, this, hs (i + 1 + j) (by omega) (by omega), hc (i + 1 + j) (by omega) (by omega)]
theorem cval_congr4 {rest : Nat → Int} {sc sc' : Nat → Nat → Int} {lt : Nat → Nat → Bool} {L : Nat} (hs : ∀ i m, i < m → m ≤ L → sc i m = sc' i m) : ∀ {k i : Nat}, L - i = k → i ≤ L → cval rest sc lt L i = cval rest sc' lt L i := by
  intro k
  induction k using Nat.strongRecOn with
  | ind k ih =>
    intro i hk hi
    by_cases h : i < L
    · rw [cval_rec h, cval_rec h]
      exact cacc_congr4 (fun m h1 h2 => hs i m h1 h2) (fun m h1 h2 => ih (L - m) (by omega) rfl h2) h (by omega)
    · have : i = L := by omega
      subst this
      rw [cval_last, cval_last]
/-- A foot that is in no right log. -/
theorem waste_same {t b : List Int} {r : Ru} {a : Nat} (ok : Ok t b r) (h : usedA (scN t b r) a (t.length - 1) (a + 1) = false) :
    restN t (addB b a (t.length - 1)) r allL 0 = restN t b r allL 0 ∧ cntN t (addB b a (t.length - 1)) r allB 0 = cntN t b r allB 0 := by
  have hs : ∀ i j, i < j → j ≤ t.length - 1 → scN t (addB b a (t.length - 1)) r i j = scN t b r i j := by
    intro i j hij hj
    rw [scN_add hij hj]
    split
    · rename_i hp
      have h0 := (scN_bounds (t := t) (b := b) ok.r ok.tv (i := i) (j := j)).1
      by_cases hpos : 0 < scN t b r i j
      · have : usedA (scN t b r) a (t.length - 1) (a + 1) = true := usedA_iff.2 ⟨i, j, hp.1, hp.2, hj, hpos⟩
        rw [h] at this; cases this
      · omega
    · rfl
  have hrest : ∀ i, i ≤ t.length - 1 → restN t (addB b a (t.length - 1)) r allL i = restN t b r allL i := fun i hi =>
    rest_best.eq rest_best (fun i j hij hj => by
      rw [hs i j hij hj]
      exact ⟨Iff.rfl, fun _ => rfl⟩) hi
  refine ⟨hrest 0 (Nat.zero_le _), ?_⟩
  unfold cntN
  rw [cval_congr4 hs rfl (Nat.zero_le _), cval_congr hrest rfl (Nat.zero_le _)]
end Go.Ab
