/- What best cuttings scale from each place on (plain). -/
import Derived.Test.YtchmfamkpfaieaaUA
set_option linter.unusedVariables false
set_option linter.unusedSimpArgs false
namespace Go.Ab
open Go Go.Proofs

section
variable (sc : Nat → Nat → Int) (lt : Nat → Nat → Bool)
/-- The greatest one, of logs from i that end at one of the first j places behind. -/
def acc (vn : Nat → Int) (i : Nat) : Nat → Int
  | 0 => vn (i + 1)
  | j + 1 => if 0 < sc i (i + 1 + j) ∧ lt i (i + 1 + j) = true then max (acc vn i j) (sc i (i + 1 + j) + vn (i + 1 + j)) else acc vn i j
def vals (L : Nat) : Nat → List Int
  | 0 => [0]
  | k + 1 => acc sc lt (fun m => (vals L k).getD (m - (L - k)) 0) (L - (k + 1)) (k + 1) :: vals L k
def val (L i : Nat) : Int := (vals sc lt L L).getD i 0
end

section
variable {sc : Nat → Nat → Int} {lt : Nat → Nat → Bool}
theorem vals_len {L : Nat} : ∀ {k : Nat}, (vals sc lt L k).length = k + 1
  | 0 => rfl
  | k + 1 => by simp [vals, vals_len (k := k)]
theorem vals_drop {L k : Nat} : ∀ {j : Nat}, (vals sc lt L (k + j)).drop j = vals sc lt L k
  | 0 => rfl
  | j + 1 => by rw [show k + (j + 1) = (k + j) + 1 by omega, vals, List.drop_succ_cons, vals_drop]
theorem vals_get {L k j : Nat} (h : k ≤ L) : (vals sc lt L k).getD j 0 = val sc lt L (L - k + j) := by
  have h1 := vals_drop (sc := sc) (lt := lt) (L := L) (k := k) (j := L - k)
  rw [show k + (L - k) = L by omega] at h1
  rw [← h1, val]
  simp only [List.getD_eq_getElem?_getD, List.getElem?_drop]
theorem acc_congr {vn vn' : Nat → Int} {i : Nat} : ∀ {j : Nat}, vn (i + 1) = vn' (i + 1) → (∀ m, i < m → m ≤ i + j → vn m = vn' m) → acc sc lt vn i j = acc sc lt vn' i j
  | 0, h, _ => h
  | j + 1, h0, h => by
    have := acc_congr (j := j) h0 (fun m h1 h2 => h m h1 (by omega))
    simp only [acc, this, h (i + 1 + j) (by omega) (by omega)]
theorem val_last {L : Nat} : val sc lt L L = 0 := by
  have := vals_get (sc := sc) (lt := lt) (L := L) (k := 0) (j := 0) (by omega)
  simpa [vals] using this.symm
theorem val_rec {L i : Nat} (h : i < L) : val sc lt L i = acc sc lt (val sc lt L) i (L - i) := by
  have h1 := vals_get (sc := sc) (lt := lt) (L := L) (k := L - i) (j := 0) (by omega)
  rw [show L - (L - i) + 0 = i by omega] at h1
  rw [← h1]
  obtain ⟨k, hk⟩ : ∃ k, L - i = k + 1 := ⟨L - i - 1, by omega⟩
  rw [hk, vals]
  simp only [List.getD_cons_zero]
  rw [show L - (k + 1) = i by omega]
  have e : ∀ m, i < m → m ≤ i + (k + 1) → (vals sc lt L k).getD (m - (L - k)) 0 = val sc lt L m := by
    intro m h1 h2
    rw [vals_get (by omega)]
    congr 1
    omega
  refine acc_congr (e _ (by omega) (by omega)) e

theorem acc_le {vn : Nat → Int} {i L : Nat} {M : Int} (hM : 0 ≤ M) (hs : ∀ a b, sc a b ≤ M) (hv : ∀ m, i < m → m ≤ L → 0 ≤ vn m ∧ vn m ≤ ((L - m : Nat) : Int) * M) : ∀ {j : Nat}, i + j ≤ L → i < L → 0 ≤ acc sc lt vn i j ∧ acc sc lt vn i j ≤ ((L - i : Nat) : Int) * M
  | 0, _, h => by
    obtain ⟨h1, h2⟩ := hv (i + 1) (by omega) (by omega)
    refine ⟨h1, Int.le_trans h2 (Int.mul_le_mul_of_nonneg_right (by omega) hM)⟩
  | j + 1, hj, h => by
    obtain ⟨h1, h2⟩ := acc_le hM hs hv (j := j) (by omega) h
    simp only [acc]
    split
    · rename_i hc
      obtain ⟨h3, h4⟩ := hv (i + 1 + j) (by omega) (by omega)
      have h5 := hs i (i + 1 + j)
      have h6 : ((L - (i + 1 + j) : Nat) : Int) * M ≤ ((L - (i + 1) : Nat) : Int) * M := Int.mul_le_mul_of_nonneg_right (by omega) hM
      have h7 : ((L - i : Nat) : Int) * M = ((L - (i + 1) : Nat) : Int) * M + M := by
        rw [show ((L - i : Nat) : Int) = ((L - (i + 1) : Nat) : Int) + 1 by omega, Int.add_mul, Int.one_mul]
      omega
    · exact ⟨h1, h2⟩

theorem val_le {L : Nat} {M : Int} (hM : 0 ≤ M) (hs : ∀ a b, sc a b ≤ M) : ∀ {k i : Nat}, L - i = k → i ≤ L → 0 ≤ val sc lt L i ∧ val sc lt L i ≤ ((L - i : Nat) : Int) * M := by
  intro k
  induction k using Nat.strongRecOn with
  | ind k ih =>
    intro i hk hi
    by_cases h : i < L
    · rw [val_rec h]
      exact acc_le hM hs (fun m h1 h2 => ih (L - m) (by omega) rfl h2) (by omega) h
    · have : i = L := by omega
      subst this
      rw [val_last]
      simp
end

/-! ### Logs that are let -/
def scN (t b : List Int) (r : Ru) (i j : Nat) : Int := scaleP t b r i j
theorem scN_bounds {t b : List Int} {r : Ru} (hr : RuB r) (hv : ∀ x ∈ t, 0 ≤ x ∧ x ≤ 60) {i j : Nat} : 0 ≤ scN t b r i j ∧ scN t b r i j ≤ 216000 := by
  have h0 := scaleP_nonneg (t := t) (b := b) (x := i) (y := j) hr
  refine ⟨h0, ?_⟩
  have := hr.l1
  have := hr.m
  have := hr.d1
  have := hr.o1
  unfold scN scaleP
  split
  · omega
  · split
    · omega
    · rename_i h
      have h1 : ¬ ((j : Int) - i - r.trim < r.least) := fun h' => h (.inl h')
      have h2 : ¬ (r.most < (j : Int) - i - r.trim) := fun h' => h (.inr (.inl h'))
      have hx : 0 ≤ t.getD (j : Int).toNat 0 ∧ t.getD (j : Int).toNat 0 ≤ 60 := by
        by_cases hl : (j : Int).toNat < t.length
        · exact hv _ (getD_get hl).2.2
        · rw [List.getD_eq_getElem?_getD, List.getElem?_eq_none (by omega)]; simp
      obtain ⟨b1, b2, b3, b4⟩ := over_bound (lo := (j : Int) - i - r.trim) (d := 0) hx.1 hx.2 this (by omega) (by omega)
      refine Int.le_trans (Int.ediv_le_self _ b3) b4

/-- Which logs are let. -/
structure Lt2 where
  over : Int
  at_ : Int
def Lt2.lets (l : Lt2) (x y : Int) : Bool := !(decide (x < l.over) && decide (l.over < y)) && decide (x ≠ l.at_) && decide (y ≠ l.at_)
def Lt2.letsN (l : Lt2) (i j : Nat) : Bool := l.lets i j
def allL : Lt2 := ⟨-1, -1⟩
theorem allL_lets {i j : Nat} : allL.letsN i j = true := by
  have h1 : ¬ (i : Int) < -1 := by omega
  have h2 : (i : Int) ≠ -1 := by omega
  have h3 : (j : Int) ≠ -1 := by omega
  simp only [Lt2.letsN, Lt2.lets, allL, h1, h2, h3, decide_false, Bool.false_and, Bool.not_false, Bool.true_and, ne_eq, not_false_eq_true, decide_true]

/-- What a best cutting of logs that are let scales from a place on. -/
def restN (t b : List Int) (r : Ru) (l : Lt2) (i : Nat) : Int := val (scN t b r) l.letsN (t.length - 1) i
theorem restN_le {t b : List Int} {r : Ru} {l : Lt2} (hr : RuB r) (hv : ∀ x ∈ t, 0 ≤ x ∧ x ≤ 60) (h61 : t.length ≤ 61) {i : Nat} (hi : i ≤ t.length - 1) : 0 ≤ restN t b r l i ∧ restN t b r l i ≤ 12960000 := by
  obtain ⟨h1, h2⟩ := val_le (sc := scN t b r) (lt := l.letsN) (L := t.length - 1) (M := 216000) (by omega) (fun a c => (scN_bounds hr hv).2) rfl hi
  refine ⟨h1, Int.le_trans h2 ?_⟩
  have : ((t.length - 1 - i : Nat) : Int) ≤ 60 := by omega
  omega

/-- Numbers of places from lo on. -/
def outA (n : Nat) (f : Nat → Int) (lo : Nat) : List Int := (List.range n).map fun i => if lo ≤ i then f i else 0
@[simp] theorem outA_len {n f lo} : (outA n f lo).length = n := by simp [outA]
theorem outA_get {n f lo i} (h : i < n) : (outA n f lo)[i]? = some (if lo ≤ i then f i else 0) := by
  simp [outA, h]
theorem outA_set {n f lo} (h : lo < n) : (outA n f (lo + 1)).set lo (f lo) = outA n f lo := by
  apply List.ext_getElem?
  intro i
  by_cases hi : i < n
  · by_cases hl : i = lo
    · subst hl
      rw [List.getElem?_set_self (by simpa using hi), outA_get hi, if_pos (Nat.le_refl _)]
    · rw [List.getElem?_set_ne (fun hE => hl hE.symm), outA_get hi, outA_get hi]
      have : (lo + 1 ≤ i) ↔ (lo ≤ i) := by omega
      simp only [this]
  · rw [List.getElem?_eq_none (by simp; omega), List.getElem?_eq_none (by simp; omega)]
theorem outA_last {n f} (h : 1 ≤ n) (hf : f (n - 1) = 0) : outA n f (n - 1) = List.replicate n 0 := by
  apply List.ext_getElem?
  intro i
  by_cases hi : i < n
  · rw [outA_get hi, List.getElem?_replicate, if_pos hi]
    split
    · rw [show i = n - 1 by omega, hf]
    · rfl
  · rw [List.getElem?_eq_none (by simp; omega), List.getElem?_eq_none (by simp; omega)]
theorem outA_zero {n f} : outA n f 0 = (List.range n).map f := by simp [outA]
end Go.Ab
