import Derived.Test.YthcbimgdbhkikaaS5
/-! S6: made of VA VC VD VE VB VF VG VH VI VJ VK VL -/
section
/- How many cuttings scale as much as a best cutting (plain). -/
set_option linter.unusedVariables false
set_option linter.unusedSimpArgs false
set_option maxHeartbeats 4000000
namespace Go.Ab
open Go Go.Proofs

def Many : Int := 1099511627777

section
variable (rest : Nat → Int) (sc : Nat → Nat → Int) (lt : Nat → Nat → Bool)
def cacc (cn : Nat → Int) (i : Nat) : Nat → Int
  | 0 => if rest i = rest (i + 1) then cn (i + 1) else 0
  | j + 1 => if 0 < sc i (i + 1 + j) ∧ lt i (i + 1 + j) = true ∧ rest i = sc i (i + 1 + j) + rest (i + 1 + j) then min Many (cacc cn i j + cn (i + 1 + j)) else cacc cn i j
def cvals (L : Nat) : Nat → List Int
  | 0 => [1]
  | k + 1 => cacc rest sc lt (fun m => (cvals L k).getD (m - (L - k)) 0) (L - (k + 1)) (k + 1) :: cvals L k
def cval (L i : Nat) : Int := (cvals rest sc lt L L).getD i 0
end

section
variable {rest : Nat → Int} {sc : Nat → Nat → Int} {lt : Nat → Nat → Bool}
theorem cvals_drop {L k : Nat} : ∀ {j : Nat}, (cvals rest sc lt L (k + j)).drop j = cvals rest sc lt L k
  | 0 => rfl
  | j + 1 => by rw [show k + (j + 1) = (k + j) + 1 by omega, cvals, List.drop_succ_cons, cvals_drop]
theorem cvals_get {L k j : Nat} (h : k ≤ L) : (cvals rest sc lt L k).getD j 0 = cval rest sc lt L (L - k + j) := by
  have h1 := cvals_drop (rest := rest) (sc := sc) (lt := lt) (L := L) (k := k) (j := L - k)
  rw [show k + (L - k) = L by omega] at h1
  rw [← h1, cval]
  simp only [List.getD_eq_getElem?_getD, List.getElem?_drop]
theorem cacc_congr {cn cn' : Nat → Int} {i : Nat} : ∀ {j : Nat}, cn (i + 1) = cn' (i + 1) → (∀ m, i < m → m ≤ i + j → cn m = cn' m) → cacc rest sc lt cn i j = cacc rest sc lt cn' i j
  | 0, h, _ => by simp only [cacc, h]
  | j + 1, h0, h => by
    have := cacc_congr (j := j) h0 (fun m h1 h2 => h m h1 (by omega))
    simp only [cacc, this, h (i + 1 + j) (by omega) (by omega)]
theorem cval_last {L : Nat} : cval rest sc lt L L = 1 := by
  have := cvals_get (rest := rest) (sc := sc) (lt := lt) (L := L) (k := 0) (j := 0) (by omega)
  simpa [cvals] using this.symm
theorem cval_rec {L i : Nat} (h : i < L) : cval rest sc lt L i = cacc rest sc lt (cval rest sc lt L) i (L - i) := by
  have h1 := cvals_get (rest := rest) (sc := sc) (lt := lt) (L := L) (k := L - i) (j := 0) (by omega)
  rw [show L - (L - i) + 0 = i by omega] at h1
  rw [← h1]
  obtain ⟨k, hk⟩ : ∃ k, L - i = k + 1 := ⟨L - i - 1, by omega⟩
  rw [hk, cvals]
  simp only [List.getD_cons_zero]
  rw [show L - (k + 1) = i by omega]
  have e : ∀ m, i < m → m ≤ i + (k + 1) → (cvals rest sc lt L k).getD (m - (L - k)) 0 = cval rest sc lt L m := by
    intro m h1 h2
    rw [cvals_get (by omega)]
    congr 1
    omega
  refine cacc_congr (e _ (by omega) (by omega)) e

theorem cacc_le {cn : Nat → Int} {i L : Nat} (hv : ∀ m, i < m → m ≤ L → 0 ≤ cn m ∧ cn m ≤ Many) : ∀ {j : Nat}, i + j ≤ L → i < L → 0 ≤ cacc rest sc lt cn i j ∧ cacc rest sc lt cn i j ≤ Many
  | 0, _, h => by
    have := hv (i + 1) (by omega) (by omega)
    simp only [cacc]
    split
    · exact this
    · simp [Many]
  | j + 1, hj, h => by
    have h1 := cacc_le hv (j := j) (by omega) h
    simp only [cacc]
    split
    · have := hv (i + 1 + j) (by omega) (by omega)
      have : (0 : Int) ≤ Many := by simp [Many]
      omega
    · exact h1
theorem cval_le {L : Nat} : ∀ {k i : Nat}, L - i = k → i ≤ L → 0 ≤ cval rest sc lt L i ∧ cval rest sc lt L i ≤ Many := by
  intro k
  induction k using Nat.strongRecOn with
  | ind k ih =>
    intro i hk hi
    by_cases h : i < L
    · rw [cval_rec h]
      exact cacc_le (fun m h1 h2 => ih (L - m) (by omega) rfl h2) (by omega) h
    · have : i = L := by omega
      subst this
      rw [cval_last]
      simp [Many]
end

/-- Over logs, one after another. -/
def cfold (rest : Nat → Int) (lt : Nat → Nat → Bool) (cn : Nat → Int) (a : Nat) (x : Int) (l : List (Int × Int)) : Int :=
  l.foldl (fun x p => if lt a p.1.toNat = true ∧ rest a = p.2 + rest p.1.toNat then min Many (x + cn p.1.toNat) else x) x
theorem cfold_logs {kn : Kn} {rest : Nat → Int} {sc : Nat → Nat → Int} {lt : Nat → Nat → Bool} {cn : Nat → Int} {a : Nat} : ∀ {j : Nat}, (∀ i, i < j → look kn (a, (a : Int) + 1 + i) = sc a (a + 1 + i)) →
    cfold rest lt cn a (cacc rest sc lt cn a 0) (logsUp kn a j) = cacc rest sc lt cn a j
  | 0, _ => rfl
  | j + 1, h => by
    have ih := cfold_logs (rest := rest) (lt := lt) (cn := cn) (j := j) (fun i hi => h i (by omega))
    have hj := h j (by omega)
    have e : ((a : Int) + 1 + j).toNat = a + 1 + j := by omega
    rw [logsUp, hj]
    by_cases hp : 0 < sc a (a + 1 + j)
    · rw [if_pos hp]
      unfold cfold at ih ⊢
      rw [List.foldl_append, ih]
      simp only [List.foldl_cons, List.foldl_nil, e]
      rw [cacc]
      simp only [hp, true_and]
    · rw [if_neg hp, List.append_nil, ih]
      rw [cacc, if_neg (by simp [hp])]

theorem cfold_snoc {rest : Nat → Int} {lt : Nat → Nat → Bool} {cn : Nat → Int} {a : Nat} {x : Int} {l : List (Int × Int)} {p : Int × Int} :
    cfold rest lt cn a x (l ++ [p]) = if lt a p.1.toNat = true ∧ rest a = p.2 + rest p.1.toNat then min Many (cfold rest lt cn a x l + cn p.1.toNat) else cfold rest lt cn a x l := by
  unfold cfold
  rw [List.foldl_append]
  rfl
theorem cfold_le {rest : Nat → Int} {lt : Nat → Nat → Bool} {cn : Nat → Int} {a : Nat} : ∀ {l : List (Int × Int)} {x : Int}, (∀ p ∈ l, 0 ≤ cn p.1.toNat) → 0 ≤ x ∧ x ≤ Many → 0 ≤ cfold rest lt cn a x l ∧ cfold rest lt cn a x l ≤ Many
  | [], _, _, h => h
  | p :: l, x, hc, h => by
    unfold cfold
    rw [List.foldl_cons]
    refine cfold_le (l := l) (fun q hq => hc q (List.mem_cons_of_mem _ hq)) ?_
    have h1 := hc p (List.mem_cons_self ..)
    have : (0 : Int) ≤ Many := by simp [Many]
    split
    · omega
    · exact h

/-- Of a stem and a rule. -/
def cntN (t b : List Int) (r : Ru) (lt : Nat → Nat → Bool) (i : Nat) : Int := cval (restN t b r allL) (scN t b r) lt (t.length - 1) i
def cntP (t b : List Int) (r : Ru) (lt : Nat → Nat → Bool) (i : Nat) : Int := if i ≤ t.length - 1 then cntN t b r lt i else 0
end Go.Ab
end

section
/- Up to a place, and from a place on (plain). -/
set_option linter.unusedVariables false
set_option linter.unusedSimpArgs false
set_option maxHeartbeats 4000000
namespace Go.Ab
open Go Go.Proofs

section
variable {sc : Nat → Nat → Int} {lt : Nat → Nat → Bool} {vn : Nat → Int}
theorem acc_cases2 {i : Nat} : ∀ {j : Nat}, acc sc lt vn i j = vn (i + 1) ∨ ∃ k, k < j ∧ 0 < sc i (i + 1 + k) ∧ lt i (i + 1 + k) = true ∧ acc sc lt vn i j = sc i (i + 1 + k) + vn (i + 1 + k)
  | 0 => .inl rfl
  | j + 1 => by
    simp only [acc]
    split
    · rename_i h
      have hm : max (acc sc lt vn i j) (sc i (i + 1 + j) + vn (i + 1 + j)) = acc sc lt vn i j ∨ max (acc sc lt vn i j) (sc i (i + 1 + j) + vn (i + 1 + j)) = sc i (i + 1 + j) + vn (i + 1 + j) := by omega
      rcases hm with hm | hm
      · rw [hm]
        rcases acc_cases2 (i := i) (j := j) with h1 | ⟨k, h1, h2, h3, h4⟩
        · exact .inl h1
        · exact .inr ⟨k, by omega, h2, h3, h4⟩
      · exact .inr ⟨j, by omega, h.1, h.2, hm⟩
    · rcases acc_cases2 (i := i) (j := j) with h1 | ⟨k, h1, h2, h3, h4⟩
      · exact .inl h1
      · exact .inr ⟨k, by omega, h2, h3, h4⟩
theorem acc_congr2 {sc' : Nat → Nat → Int} {lt' : Nat → Nat → Bool} {vn' : Nat → Int} {i : Nat} : ∀ {j : Nat}, vn (i + 1) = vn' (i + 1) → (∀ m, i < m → m ≤ i + j → vn m = vn' m ∧ sc i m = sc' i m ∧ lt i m = lt' i m) → acc sc lt vn i j = acc sc' lt' vn' i j
  | 0, h, _ => h
  | j + 1, h0, h => by
    have := acc_congr2 (j := j) h0 (fun m h1 h2 => h m h1 (by omega))
    obtain ⟨a1, a2, a3⟩ := h (i + 1 + j) (by omega) (by omega)
    simp only [acc, this, a1, a2, a3]
theorem val_congr {sc' : Nat → Nat → Int} {lt' : Nat → Nat → Bool} {L : Nat} (h : ∀ i m, i < m → m ≤ L → sc i m = sc' i m ∧ lt i m = lt' i m) : ∀ {k i : Nat}, L - i = k → i ≤ L → val sc lt L i = val sc' lt' L i := by
  intro k
  induction k using Nat.strongRecOn with
  | ind k ih =>
    intro i hk hi
    by_cases hl : i < L
    · rw [val_rec hl, val_rec hl]
      exact acc_congr2 (ih (L - (i + 1)) (by omega) rfl (by omega)) (fun m h1 h2 => ⟨ih (L - m) (by omega) rfl (by omega), h i m h1 (by omega)⟩)
    · have : i = L := by omega
      subst this
      rw [val_last, val_last]
end

def allB : Nat → Nat → Bool := fun _ _ => true
/-- What is scaled from i on by logs that end at j at the latest. -/
def Bv (sc : Nat → Nat → Int) (L j i : Nat) : Int := val (fun i k => if k ≤ j then sc i k else 0) allB L i

section
variable {sc : Nat → Nat → Int} {L : Nat}
theorem Bv_end {j : Nat} : ∀ {k i : Nat}, L - i = k → i ≤ L → j ≤ i → Bv sc L j i = 0 := by
  intro k
  induction k using Nat.strongRecOn with
  | ind k ih =>
    intro i hk hi hj
    by_cases hl : i < L
    · unfold Bv at ih ⊢
      rw [val_rec hl]
      rcases acc_cases2 (sc := fun i k => if k ≤ j then sc i k else 0) (lt := allB) (vn := val (fun i k => if k ≤ j then sc i k else 0) allB L) (i := i) (j := L - i) with h | ⟨k', h1, h2, h3, h4⟩
      · rw [h]; exact ih (L - (i + 1)) (by omega) rfl (by omega) (by omega)
      · rw [if_neg (by omega)] at h2
        omega
    · have : i = L := by omega
      subst this
      exact val_last
theorem Bv_step {j i : Nat} (h : i < L) : Bv sc L j (i + 1) ≤ Bv sc L j i := by
  unfold Bv
  rw [val_rec h]
  exact acc_base
theorem Bv_log {j i to : Nat} (h : i < to) (ht : to ≤ j) (hj : j ≤ L) (hp : 0 < sc i to) : sc i to + Bv sc L j to ≤ Bv sc L j i := by
  unfold Bv
  rw [val_rec (i := i) (by omega)]
  have := acc_ge (sc := fun i k => if k ≤ j then sc i k else 0) (lt := allB) (vn := val (fun i k => if k ≤ j then sc i k else 0) allB L) (i := i) (k := to - (i + 1)) (j := L - i) (by omega)
    (by rw [show i + 1 + (to - (i + 1)) = to by omega]; simp only [ht, if_true]; exact hp) rfl
  rw [show i + 1 + (to - (i + 1)) = to by omega] at this
  simpa only [ht, if_true] using this
theorem Bv_cases {j i : Nat} (h : i < L) : Bv sc L j i = Bv sc L j (i + 1) ∨ ∃ to, i < to ∧ to ≤ j ∧ to ≤ L ∧ 0 < sc i to ∧ Bv sc L j i = sc i to + Bv sc L j to := by
  unfold Bv
  rw [val_rec h]
  rcases acc_cases2 (sc := fun i k => if k ≤ j then sc i k else 0) (lt := allB) (vn := val (fun i k => if k ≤ j then sc i k else 0) allB L) (i := i) (j := L - i) with h | ⟨k', h1, h2, h3, h4⟩
  · exact .inl h
  · by_cases hk : i + 1 + k' ≤ j
    · simp only [hk, if_true] at h2 h4
      exact .inr ⟨i + 1 + k', by omega, hk, by omega, h2, h4⟩
    · simp only [hk, if_false] at h2
      omega
theorem Bv_nonneg {j : Nat} : ∀ {k i : Nat}, L - i = k → i ≤ L → 0 ≤ Bv sc L j i := by
  intro k
  induction k using Nat.strongRecOn with
  | ind k ih =>
    intro i hk hi
    by_cases hl : i < L
    · have := ih (L - (i + 1)) (by omega) rfl (by omega)
      have := Bv_step (sc := sc) (j := j) hl
      omega
    · have : i = L := by omega
      subst this
      unfold Bv
      rw [val_last]
      exact Int.le_refl _

/-- One stretch, and another behind it. -/
theorem Bv_add {j m : Nat} (hj : j ≤ m) (hm : m ≤ L) : ∀ {k i : Nat}, j - i = k → i ≤ j → Bv sc L j i + Bv sc L m j ≤ Bv sc L m i := by
  intro k
  induction k using Nat.strongRecOn with
  | ind k ih =>
    intro i hk hi
    by_cases hl : i < j
    · rcases Bv_cases (sc := sc) (L := L) (j := j) (i := i) (by omega) with h | ⟨to, h1, h2, h3, h4, h5⟩
      · have := ih (j - (i + 1)) (by omega) rfl (by omega)
        have := Bv_step (sc := sc) (L := L) (j := m) (i := i) (by omega)
        omega
      · have := ih (j - to) (by omega) rfl (by omega)
        have := Bv_log (sc := sc) (L := L) (j := m) (i := i) (to := to) (by omega) (by omega) hm h4
        omega
    · have : i = j := by omega
      subst this
      have := Bv_end (sc := sc) (L := L) (j := i) (i := i) rfl (by omega) (Nat.le_refl _)
      omega

/-- What is scaled up to j is no more than what comes by its last step. -/
theorem Bv_last {j : Nat} {X : Int} (hj : j ≤ L) (h0 : 0 < j) (hX : Bv sc L (j - 1) 0 ≤ X) (hlog : ∀ i, i < j → 0 < sc i j → Bv sc L i 0 + sc i j ≤ X) : Bv sc L j 0 ≤ X := by
  have key : ∀ {k i : Nat} (c : Int), j - i = k → i < j → (∀ m, i ≤ m → m < j → c + Bv sc L m i ≤ Bv sc L m 0) → c + Bv sc L j i ≤ X := by
    intro k
    induction k using Nat.strongRecOn with
    | ind k ih =>
      intro i c hk hi hc
      have hci := hc i (Nat.le_refl _) hi
      rw [Bv_end rfl (by omega) (Nat.le_refl _)] at hci
      rcases Bv_cases (sc := sc) (L := L) (j := j) (i := i) (by omega) with h | ⟨to, h1, h2, h3, h4, h5⟩
      · by_cases he : i + 1 = j
        · rw [h, he, Bv_end rfl hj (Nat.le_refl _)]
          have : j - 1 = i := by omega
          rw [this] at hX
          omega
        · rw [h]
          refine ih (j - (i + 1)) (by omega) c rfl (by omega) (fun m h1 h2 => ?_)
          have := hc m (by omega) h2
          have := Bv_step (sc := sc) (L := L) (j := m) (i := i) (by omega)
          omega
      · by_cases he : to = j
        · subst he
          rw [h5, Bv_end rfl hj (Nat.le_refl _)]
          have := hlog i hi h4
          omega
        · rw [h5, ← Int.add_assoc]
          refine ih (j - to) (by omega) (c + sc i to) rfl (by omega) (fun m g1 g2 => ?_)
          have := hc m (by omega) g2
          have := Bv_log (sc := sc) (L := L) (j := m) (i := i) (to := to) h1 g1 (by omega) h4
          omega
  have := key (i := 0) 0 rfl h0 (fun m _ _ => by omega)
  omega
end
end Go.Ab
end

section
/- Whether best cuttings cut a place (plain). -/
set_option linter.unusedVariables false
set_option linter.unusedSimpArgs false
set_option maxHeartbeats 4000000
namespace Go.Ab
open Go Go.Proofs

section
variable (sc : Nat → Nat → Int) (L : Nat)
/-- What is scaled up to a place. -/
def Fu (j : Nat) : Int := Bv sc L j 0
/-- What is scaled from a place on. -/
def Pr (i : Nat) : Int := Bv sc L L i
/-- A log of a best cutting, that begins or ends at the place. -/
def Hit (place : Int) (a j : Nat) : Prop := a < j ∧ j ≤ L ∧ 0 < sc a j ∧ ((a : Int) = place ∨ (j : Int) = place) ∧ Fu sc L a + sc a j + Pr sc L j = Pr sc L 0
open Classical in
noncomputable def cutsB (place : Int) : Bool := decide (∃ a j, Hit sc L place a j)
end

section
variable {sc : Nat → Nat → Int} {L : Nat} {place : Int}
theorem cutsB_yes {a j : Nat} (h : Hit sc L place a j) : cutsB sc L place = true := by
  classical
  unfold cutsB
  exact decide_eq_true ⟨a, j, h⟩
theorem cutsB_no (h : ∀ a j, ¬ Hit sc L place a j) : cutsB sc L place = false := by
  classical
  unfold cutsB
  exact decide_eq_false (fun ⟨a, j, hh⟩ => h a j hh)
theorem Fu_zero : Fu sc L 0 = 0 := Bv_end rfl (Nat.zero_le _) (Nat.le_refl _)
theorem Fu_nonneg {j : Nat} : 0 ≤ Fu sc L j := Bv_nonneg rfl (Nat.zero_le _)
theorem Fu_step {j : Nat} (h : j < L) : Fu sc L j ≤ Fu sc L (j + 1) := by
  have h1 := Bv_add (sc := sc) (L := L) (j := j) (m := j + 1) (by omega) (by omega) (i := 0) rfl (by omega)
  have h2 := Bv_nonneg (sc := sc) (L := L) (j := j + 1) (i := j) rfl (by omega)
  unfold Fu
  omega
theorem Fu_log {i j : Nat} (h : i < j) (hj : j ≤ L) (hp : 0 < sc i j) : Fu sc L i + sc i j ≤ Fu sc L j := by
  have h1 := Bv_add (sc := sc) (L := L) (j := i) (m := j) (by omega) (by omega) (i := 0) rfl (by omega)
  have h2 := Bv_log (sc := sc) (L := L) (j := j) (i := i) (to := j) h (by omega) hj hp
  have h3 := Bv_end (sc := sc) (L := L) (j := j) (i := j) rfl hj (Nat.le_refl _)
  unfold Fu
  omega
theorem Fu_Pr {i : Nat} (h : i ≤ L) : Fu sc L i + Pr sc L i ≤ Pr sc L 0 := Bv_add (sc := sc) (L := L) (j := i) (m := L) h (Nat.le_refl _) (i := 0) rfl (by omega)
theorem Pr_step {i : Nat} (h : i < L) : Pr sc L (i + 1) ≤ Pr sc L i := Bv_step h
theorem Pr_log {i j : Nat} (h : i < j) (hj : j ≤ L) (hp : 0 < sc i j) : sc i j + Pr sc L j ≤ Pr sc L i := Bv_log h hj (Nat.le_refl _) hp
theorem Pr_nonneg {i : Nat} (h : i ≤ L) : 0 ≤ Pr sc L i := Bv_nonneg rfl h
theorem Pr_zero (h : Pr sc L 0 = 0) {a j : Nat} : ¬ Hit sc L place a j := by
  rintro ⟨h1, h2, h3, h4, h5⟩
  have := Fu_nonneg (sc := sc) (L := L) (j := a)
  have := Pr_nonneg (sc := sc) h2
  omega

def others (place : Int) (i j : Nat) : Bool := decide ((i : Int) ≠ place) && decide ((j : Int) ≠ place)

/-- If no best cutting cuts the place, as many do without logs that begin or end there. -/
theorem counts_agree (h : ∀ a j, ¬ Hit sc L place a j) : ∀ {k i : Nat}, L - i = k → i ≤ L → Fu sc L i + Pr sc L i = Pr sc L 0 → cval (Pr sc L) sc (others place) L i = cval (Pr sc L) sc allB L i := by
  intro k
  induction k using Nat.strongRecOn with
  | ind k ih =>
    intro i hk hi hg
    by_cases hl : i < L
    · rw [cval_rec hl, cval_rec hl]
      have key : ∀ j, i + j ≤ L → cacc (Pr sc L) sc (others place) (cval (Pr sc L) sc (others place) L) i j = cacc (Pr sc L) sc allB (cval (Pr sc L) sc allB L) i j := by
        intro j
        induction j with
        | zero =>
          intro _
          simp only [cacc]
          by_cases hp : Pr sc L i = Pr sc L (i + 1)
          · rw [if_pos hp, if_pos hp]
            refine ih (L - (i + 1)) (by omega) rfl (by omega) ?_
            have := Fu_step (sc := sc) (L := L) (j := i) hl
            have := Fu_Pr (sc := sc) (L := L) (i := i + 1) (by omega)
            omega
          · rw [if_neg hp, if_neg hp]
        | succ j ihj =>
          intro hj
          simp only [cacc, ihj (by omega)]
          by_cases hb : 0 < sc i (i + 1 + j) ∧ Pr sc L i = sc i (i + 1 + j) + Pr sc L (i + 1 + j)
          · have hnt : ¬ ((i : Int) = place ∨ ((i + 1 + j : Nat) : Int) = place) := by
              intro ht
              exact h i (i + 1 + j) ⟨by omega, by omega, hb.1, ht, by omega⟩
            have ho : others place i (i + 1 + j) = true := by
              simp only [others, Bool.and_eq_true, decide_eq_true_eq]
              exact ⟨fun e => hnt (.inl e), fun e => hnt (.inr e)⟩
            rw [if_pos ⟨hb.1, ho, hb.2⟩, if_pos ⟨hb.1, rfl, hb.2⟩]
            have : cval (Pr sc L) sc (others place) L (i + 1 + j) = cval (Pr sc L) sc allB L (i + 1 + j) := by
              refine ih (L - (i + 1 + j)) (by omega) rfl (by omega) ?_
              have := Fu_log (sc := sc) (L := L) (i := i) (j := i + 1 + j) (by omega) (by omega) hb.1
              have := Fu_Pr (sc := sc) (L := L) (i := i + 1 + j) (by omega)
              omega
            rw [this]
          · rw [if_neg (fun hh => hb ⟨hh.1, hh.2.2⟩), if_neg (fun hh => hb ⟨hh.1, hh.2.2⟩)]
      exact key (L - i) (by omega)
    · have : i = L := by omega
      subst this
      rw [cval_last, cval_last]

/-- Fewer others: never more. -/
theorem kind_cut (h : cval (Pr sc L) sc (others place) L 0 ≠ cval (Pr sc L) sc allB L 0) : cutsB sc L place = true := by
  cases hc : cutsB sc L place with
  | true => rfl
  | false =>
    refine absurd (counts_agree (place := place) (fun a j hh => ?_) rfl (Nat.zero_le _) (by rw [Fu_zero]; omega)) h
    rw [cutsB_yes hh] at hc
    cases hc

/-! ### The array of what is scaled up to each place -/
structure UpInv (sc : Nat → Nat → Int) (L : Nat) (A : List Int) (at_ : Nat) : Prop where
  len : A.length = 61
  bd : ∀ j, j ≤ L → 0 ≤ pvN A j ∧ pvN A j ≤ Fu sc L j
  eq : ∀ i, i < at_ → i ≤ L → pvN A i = Fu sc L i
  lg : ∀ i j, i < at_ → i < j → j ≤ L → 0 < sc i j → Fu sc L i + sc i j ≤ pvN A j

theorem pvN_set {A : List Int} {i j : Nat} {x : Int} (h : i < A.length) : pvN (A.set i x) j = if j = i then x else pvN A j := by
  unfold pvN
  simp only [List.getD_eq_getElem?_getD]
  by_cases hj : j = i
  · subst hj
    rw [if_pos rfl, List.getElem?_set_self h]; rfl
  · rw [if_neg hj, List.getElem?_set_ne (fun e => hj e.symm)]

theorem UpInv.start (h61 : L < 61) : UpInv sc L (List.replicate 61 0) 0 := by
  refine ⟨by simp, fun j hj => ?_, fun i h => absurd h (by omega), fun i j h => absurd h (by omega)⟩
  have : pvN (List.replicate 61 0) j = 0 := by
    unfold pvN
    simp only [List.getD_eq_getElem?_getD, List.getElem?_replicate]
    split <;> rfl
  rw [this]
  exact ⟨Int.le_refl _, Fu_nonneg⟩

/-- The place itself, after the place before. -/
theorem UpInv.own {A : List Int} {a : Nat} (h : UpInv sc L A a) (ha : a ≤ L) (hL : L < 61) : (0 < a → max (pvN A a) (pvN A (a - 1)) = Fu sc L a) ∧ (a = 0 → pvN A a = Fu sc L a) := by
  refine ⟨fun h0 => ?_, fun h0 => ?_⟩
  · have h1 := (h.bd a ha).2
    have h2 := h.eq (a - 1) (by omega) (by omega)
    have h3 := Fu_step (sc := sc) (L := L) (j := a - 1) (by omega)
    rw [show a - 1 + 1 = a by omega] at h3
    have h4 : Fu sc L a ≤ max (pvN A a) (pvN A (a - 1)) := by
      refine Bv_last ha h0 ?_ (fun i hi hp => ?_)
      · show Fu sc L (a - 1) ≤ _
        omega
      · have := h.lg i a hi hi ha hp
        show Fu sc L i + sc i a ≤ _
        omega
    omega
  · subst h0
    have := h.bd 0 (Nat.zero_le _)
    rw [Fu_zero] at *
    omega
/-- In the round of a place. -/
structure UpIn (sc : Nat → Nat → Int) (L : Nat) (A : List Int) (a : Nat) (l : List (Int × Int)) : Prop where
  len : A.length = 61
  bd : ∀ j, j ≤ L → 0 ≤ pvN A j ∧ pvN A j ≤ Fu sc L j
  eq : ∀ i, i ≤ a → i ≤ L → pvN A i = Fu sc L i
  lg : ∀ i j, i < a → i < j → j ≤ L → 0 < sc i j → Fu sc L i + sc i j ≤ pvN A j
  dn : ∀ p ∈ l, Fu sc L a + p.2 ≤ pvN A p.1.toNat
theorem UpInv.enter {A : List Int} {a : Nat} (h : UpInv sc L A a) (ha : a ≤ L) (hL : L < 61) : UpIn sc L (A.set a (Fu sc L a)) a [] := by
  have hl := h.len
  have hown := h.own ha hL
  have hle : pvN A a ≤ Fu sc L a := (h.bd a ha).2
  have hp : ∀ j, pvN (A.set a (Fu sc L a)) j = if j = a then Fu sc L a else pvN A j := fun j => pvN_set (by omega)
  refine ⟨by simp [hl], fun j hj => ?_, fun i h1 h2 => ?_, fun i j h1 h2 h3 h4 => ?_, fun p hp => by cases hp⟩
  · rw [hp]
    split
    · subst j; exact ⟨Fu_nonneg, Int.le_refl _⟩
    · exact h.bd j hj
  · rw [hp]
    split
    · subst i; rfl
    · exact h.eq i (by omega) h2
  · rw [hp]
    have := h.lg i j h1 h2 h3 h4
    split
    · subst j; omega
    · exact this
theorem UpIn.step {A : List Int} {a to : Nat} {l : List (Int × Int)} {p : Int × Int} (h : UpIn sc L A a l) (hto : p.1.toNat = to) (h1 : a < to) (h2 : to ≤ L) (hL : L < 61) (hp : p.2 = sc a to) (hpos : 0 < p.2) :
    UpIn sc L (A.set to (max (pvN A to) (pvN A a + p.2))) a (l ++ [p]) := by
  have hl := h.len
  have hset : ∀ j, pvN (A.set to (max (pvN A to) (pvN A a + p.2))) j = if j = to then max (pvN A to) (pvN A a + p.2) else pvN A j := fun j => pvN_set (by omega)
  have hmono : ∀ j, pvN A j ≤ pvN (A.set to (max (pvN A to) (pvN A a + p.2))) j := by
    intro j
    rw [hset]
    split
    · subst j; omega
    · exact Int.le_refl _
  have hFa := h.eq a (Nat.le_refl _) (by omega)
  have hFl := Fu_log (sc := sc) (L := L) h1 h2 (by omega)
  refine ⟨by simp [hl], fun j hj => ?_, fun i g1 g2 => ?_, fun i j g1 g2 g3 g4 => ?_, fun q hq => ?_⟩
  · have := h.bd j hj
    rw [hset]
    split
    · subst j; omega
    · exact this
  · rw [hset, if_neg (by omega)]
    exact h.eq i g1 g2
  · have := h.lg i j g1 g2 g3 g4
    have := hmono j
    omega
  · rcases List.mem_append.1 hq with hq | hq
    · have := h.dn q hq
      have := hmono q.1.toNat
      omega
    · simp only [List.mem_singleton] at hq
      subst hq
      rw [hto, hset, if_pos rfl]
      omega
theorem logsUp_all {kn : Kn} {a : Nat} : ∀ {n j : Nat}, j < n → 0 < look kn (a, (a : Int) + 1 + j) → ((a : Int) + 1 + j, look kn (a, (a : Int) + 1 + j)) ∈ logsUp kn a n
  | 0, _, h, _ => absurd h (by omega)
  | n + 1, j, h, hp => by
    rw [logsUp, List.mem_append]
    by_cases hj : j = n
    · subst hj
      rw [if_pos hp]
      exact .inr (List.mem_singleton.2 rfl)
    · exact .inl (logsUp_all (by omega) hp)
theorem UpIn.leave {kn : Kn} {A : List Int} {a : Nat} (h : UpIn sc L A a (logsUp kn a (L - a))) (hk : ∀ i, a + 1 + i ≤ L → look kn (a, (a : Int) + 1 + i) = sc a (a + 1 + i)) : UpInv sc L A (a + 1) := by
  refine ⟨h.len, h.bd, fun i h1 h2 => h.eq i (by omega) h2, fun i j h1 h2 h3 h4 => ?_⟩
  by_cases hi : i < a
  · exact h.lg i j hi h2 h3 h4
  · have : i = a := by omega
    subst this
    have e : i + 1 + (j - (i + 1)) = j := by omega
    have hl := hk (j - (i + 1)) (by omega)
    rw [e] at hl
    have hm := logsUp_all (kn := kn) (a := i) (n := L - i) (j := j - (i + 1)) (by omega) (by rw [hl]; exact h4)
    have := h.dn _ hm
    rw [hl, show ((i : Int) + 1 + ((j - (i + 1) : Nat) : Int)).toNat = j by omega] at this
    exact this
end
end Go.Ab
end

section
/- The stem whose feet behind a place are all bad (plain). -/
set_option linter.unusedVariables false
set_option linter.unusedSimpArgs false
set_option maxHeartbeats 4000000
namespace Go.Ab
open Go Go.Proofs

/-- The bad feet, and all behind the place, of the first k feet. -/
def behindL (b : List Int) (place : Int) (k : Nat) : List Int := ((List.range k).map Int.ofNat).filter fun i => decide (place ≤ i) || b.any fun f => decide (f = i)
theorem behindL_succ {b : List Int} {place : Int} {k : Nat} : behindL b place (k + 1) = behindL b place k ++ if (decide (place ≤ (k : Int)) || b.any fun f => decide (f = (k : Int))) = true then [(k : Int)] else [] := by
  unfold behindL
  rw [List.range_succ, List.map_append, List.filter_append]
  congr 1
  simp only [List.map_cons, List.map_nil, List.filter_cons, List.filter_nil]
  rfl
theorem behindL_mem {b : List Int} {place x : Int} {k : Nat} : x ∈ behindL b place k ↔ 0 ≤ x ∧ x < k ∧ (place ≤ x ∨ x ∈ b) := by
  unfold behindL
  simp only [List.mem_filter, List.mem_map, List.mem_range, Bool.or_eq_true, decide_eq_true_eq, List.any_eq_true]
  constructor
  · rintro ⟨⟨i, hi, rfl⟩, h⟩
    refine ⟨Int.natCast_nonneg i, Int.ofNat_lt.2 hi, ?_⟩
    rcases h with h | ⟨f, h1, h2⟩
    · exact .inl h
    · exact .inr (h2 ▸ h1)
  · rintro ⟨h1, h2, h3⟩
    refine ⟨⟨x.toNat, by omega, by simp; omega⟩, ?_⟩
    rcases h3 with h | h
    · exact .inl h
    · exact .inr ⟨x, h, rfl⟩
theorem behindL_len {b : List Int} {place : Int} : ∀ {k : Nat}, (behindL b place k).length ≤ k
  | 0 => by simp [behindL]
  | k + 1 => by
    have := behindL_len (b := b) (place := place) (k := k)
    rw [behindL_succ, List.length_append]
    split <;> simp <;> omega

theorem hasBad_iff {b : List Int} {x y : Int} : hasBad b x y = true ↔ ∃ f ∈ b, x ≤ f ∧ f < y := by
  unfold hasBad
  simp

theorem scN_behind {t b : List Int} {r : Ru} {place i m : Nat} (him : i < m) (hm : m ≤ t.length - 1) : scN t (behindL b place (t.length - 1)) r i m = if m ≤ place then scN t b r i m else 0 := by
  unfold scN scaleP
  by_cases hp : m ≤ place
  · have : hasBad (behindL b place (t.length - 1)) i m = hasBad b i m := by
      rw [Bool.eq_iff_iff, hasBad_iff, hasBad_iff]
      constructor
      · rintro ⟨f, h1, h2, h3⟩
        rw [behindL_mem] at h1
        rcases h1.2.2 with h | h
        · omega
        · exact ⟨f, h, h2, h3⟩
      · rintro ⟨f, h1, h2, h3⟩
        exact ⟨f, behindL_mem.2 ⟨by omega, by omega, .inr h1⟩, h2, h3⟩
    rw [this, if_pos hp]
  · have : hasBad (behindL b place (t.length - 1)) i m = true := by
      rw [hasBad_iff]
      exact ⟨(m : Int) - 1, behindL_mem.2 ⟨by omega, by omega, .inl (by omega)⟩, by omega, by omega⟩
    rw [this, if_neg hp]
    rfl

theorem letsAllB : allL.letsN = allB := letsAll

theorem rest_Pr {t b : List Int} {r : Ru} {i : Nat} (hi : i ≤ t.length - 1) : restN t b r allL i = Pr (scN t b r) (t.length - 1) i := by
  unfold restN Pr Bv
  rw [letsAllB]
  exact val_congr (fun i m h1 h2 => ⟨by rw [if_pos h2], rfl⟩) rfl hi

theorem rest_Fu {t b : List Int} {r : Ru} {place : Nat} (hp : place ≤ t.length - 1) : restN t (behindL b place (t.length - 1)) r allL 0 = Fu (scN t b r) (t.length - 1) place := by
  unfold restN Fu Bv
  rw [letsAllB]
  exact val_congr (fun i m h1 h2 => ⟨scN_behind h1 h2, rfl⟩) rfl (Nat.zero_le _)

/-- Whether best cuttings cut a place, of a stem and a rule. -/
noncomputable def cutsP (t b : List Int) (r : Ru) (place : Int) : Bool := cutsB (scN t b r) (t.length - 1) place

theorem cacc_congr3 {rest rest' : Nat → Int} {sc : Nat → Nat → Int} {lt : Nat → Nat → Bool} {cn cn' : Nat → Int} {L i : Nat} (hr : ∀ m, m ≤ L → rest m = rest' m) (hc : ∀ m, i < m → m ≤ L → cn m = cn' m) (hi : i < L) : ∀ {j : Nat}, i + j ≤ L → cacc rest sc lt cn i j = cacc rest' sc lt cn' i j
  | 0, _ => by simp only [cacc, hr i (by omega), hr (i + 1) (by omega), hc (i + 1) (by omega) (by omega)]
  | j + 1, hj => by
    have := cacc_congr3 hr hc hi (j := j) (by omega) (sc := sc) (lt := lt)
    simp only [cacc, this, hr i (by omega), hr (i + 1 + j) (by omega), hc (i + 1 + j) (by omega) (by omega)]
theorem cval_congr {rest rest' : Nat → Int} {sc : Nat → Nat → Int} {lt : Nat → Nat → Bool} {L : Nat} (hr : ∀ m, m ≤ L → rest m = rest' m) : ∀ {k i : Nat}, L - i = k → i ≤ L → cval rest sc lt L i = cval rest' sc lt L i := by
  intro k
  induction k using Nat.strongRecOn with
  | ind k ih =>
    intro i hk hi
    by_cases hl : i < L
    · rw [cval_rec hl, cval_rec hl]
      exact cacc_congr3 hr (fun m h1 h2 => ih (L - m) (by omega) rfl h2) hl (by omega)
    · have : i = L := by omega
      subst this
      rw [cval_last, cval_last]

/-- Fewer best cuttings without logs at a place: some cuts it. -/
theorem kind_may {t b : List Int} {r : Ru} {place : Int} (h : cntN t b r (others place) 0 ≠ cntN t b r allB 0) : cutsP t b r place = true := by
  refine kind_cut (fun e => h ?_)
  unfold cntN
  rw [cval_congr (fun m hm => rest_Pr hm) rfl (Nat.zero_le _), cval_congr (lt := allB) (fun m hm => rest_Pr hm) rfl (Nat.zero_le _)]
  exact e
end Go.Ab
end

section
/- count: how many best cuttings are let. -/
set_option linter.unusedVariables false
set_option linter.unusedSimpArgs false
set_option maxHeartbeats 4000000
namespace Go.Ab
open Go Go.Proofs

/-- The heap of count. -/
structure HpQ (σ : List O) (F : V) (P M : List Int) (id : Nat) (a : Int) : Prop where
  h0 : σ[0]? = some (.row 0 [F])
  h1 : σ[1]? = some (.row 0 (ints P))
  h2 : σ[2]? = some (.row 0 (ints M))
  hi : σ[id]? = some (.row 0 [.i .i64 a])
  i3 : 3 ≤ id
theorem HpQ.app {σ g : List O} {F P M id a} (h : HpQ σ F P M id a) : HpQ (σ ++ g) F P M id a := ⟨app_get h.h0, app_get h.h1, app_get h.h2, app_get h.hi, h.i3⟩
theorem HpQ.len {σ : List O} {F P M id a} (h : HpQ σ F P M id a) : id < σ.length := (List.getElem?_eq_some_iff.1 h.hi).1
theorem HpQ.setM {σ : List O} {F P M id a} (h : HpQ σ F P M id a) (M' : List Int) : HpQ (σ.set 2 (.row 0 (ints M'))) F P M' id a := by
  have := h.i3
  have := h.len
  exact ⟨by rw [List.getElem?_set_ne (by omega)]; exact h.h0, by rw [List.getElem?_set_ne (by omega)]; exact h.h1, List.getElem?_set_self (by omega), by rw [List.getElem?_set_ne (by omega)]; exact h.hi, h.i3⟩
theorem HpQ.fresh {σ : List O} {F P M id a} (h : HpQ σ F P M id a) (a' : Int) : HpQ (σ ++ [.row 0 [.i .i64 a']]) F P M σ.length a' := by
  have := h.len
  have := h.i3
  have h' := h.app (g := [.row 0 [.i .i64 a']])
  exact ⟨h'.h0, h'.h1, h'.h2, by simp, by omega⟩

theorem count_ok {t b : List Int} {ft fb : Bool} {r : Ru} {g : FuncId} {first cap : List V} {lt : Nat → Nat → Bool} (ok : Ok t b r) (hf : pureL first = true) (hcp : pureL cap = true)
    (hg : ∀ i j : Nat, FSpec Try.prog g (first ++ [.agg [.i .i64 i, .i .i64 j]] ++ cap) [] (.b (lt i j)) []) :
    FSpec Try.prog 68 [yardV t ft b fb (knownK t b r), .f (.func g) first cap] [] (.i .i64 (cntN t b r lt 0)) [] := by
  have okk := ok
  obtain ⟨n2, n61, tv, bl, hr⟩ := ok
  have hyp := pure_yard (t := t) (ft := ft) (b := b) (fb := fb) (kn := knownK t b r)
  have hlong : ∀ σ, FSpec Try.prog 66 [yardV t ft b fb (knownK t b r)] σ (.i .i64 ((t.length : Int) - 1)) σ := fun σ =>
    FSpec.frame (long_ok (cells := [sl t ft, sl b fb, knownV (knownK t b r)]) (off := 0) (t := ints t) (n := t.length) (full := ft) rfl (by omega)) (by simp [yardV] at hyp ⊢) rfl
  have hlogs : ∀ (fr : Int) σ, FSpec Try.prog 67 [yardV t ft b fb (knownK t b r), .i .i64 fr] σ (.f (.func 84) [] [.sp [.i .i64 fr] 0, .sp [yardV t ft b fb (knownK t b r)] 0]) σ := fun fr σ =>
    FSpec.frame (logs_ok (cells := [sl t ft, sl b fb, knownV (knownK t b r)]) (off := 0) (fr := fr) (by simp)) (by simp) (by simp)
  have hit : ∀ {fr : Nat}, fr < t.length → ItT 84 [] [.sp [.i .i64 fr] 0, .sp [yardV t ft b fb (knownK t b r)] 0] ((logsUp (knownK t b r) fr (t.length - 1 - fr)).map (logV fr)) (fun _ => true = true) := fun h => logs_it (by omega) n61 h
  have hprices := fun σ => pricesAll (ft := ft) (fb := fb) okk (σ := σ)
  have hlook : ∀ a i : Nat, a + 1 + i < t.length → look (knownK t b r) (a, (a : Int) + 1 + i) = scN t b r a (a + 1 + i) := by
    intro a i h
    rw [look_known hr (by omega) (by omega) (by omega)]
    unfold scN
    congr 1
  have hsb := fun i j => scN_bounds (t := t) (b := b) hr tv (i := i) (j := j)
  have hrl : ∀ i, i ≤ t.length - 1 → 0 ≤ restN t b r allL i ∧ restN t b r allL i ≤ 12960000 := fun i hi => restN_le hr tv n61 hi
  have hcl : ∀ i, i ≤ t.length - 1 → 0 ≤ cntN t b r lt i ∧ cntN t b r lt i ≤ Many := fun i hi => cval_le rfl hi
  have hrec : ∀ a, a < t.length - 1 → cntN t b r lt a = cacc (restN t b r allL) (scN t b r) lt (cntN t b r lt) a (t.length - 1 - a) := fun a h => cval_rec h
  have hlast : cntN t b r lt (t.length - 1) = 1 := cval_last
  have hcP : ∀ i, i ≤ t.length - 1 → cntP t b r lt i = cntN t b r lt i := fun i h => by simp [cntP, h]
  have hcZ : ∀ i, ¬ i ≤ t.length - 1 → cntP t b r lt i = 0 := fun i h => by simp [cntP, h]
  generalize hkn : knownK t b r = kn at *
  generalize hyd : yardV t ft b fb kn = y at *
  generalize hvd : restN t b r allL = vv at *
  generalize hsd : scN t b r = sc at *
  generalize hcd : cntN t b r lt = cn at *
  generalize hpd : cntP t b r lt = cp at *
  have hPget : ∀ i, i ≤ t.length - 1 → (outA 61 (valP t b r (fun _ _ => true)) 0)[i]? = some (vv i) := by
    intro i hi
    rw [outA_get (by omega), if_pos (Nat.zero_le _), valP_all hi, hvd]
  have hPl : (outA 61 (valP t b r (fun _ _ => true)) 0).length = 61 := by simp
  generalize hPd : outA 61 (valP t b r (fun _ _ => true)) 0 = P at *
  refine fn68.spec0 mixed itT_ok ?_
  rw [ic68]
  refine ab_seq_k fun K1 h1 => ?_
  simp
  refine h1 _ _ _ ?_
  clear h1 K1
  refine ab_seq_k fun K2 h2 => ?_
  simp [-List.reduceReplicate]
  refine callK_of (hprices _) ?_
  simp [-List.reduceReplicate, hPl]
  refine h2 _ _ _ ?_
  clear h2 K2
  refine ab_seq_k fun K3 h3 => ?_
  simp [-List.reduceReplicate]
  refine h3 _ _ _ ?_
  clear h3 K3
  refine ab_seq_k fun K4 h4 => ?_
  simp [-List.reduceReplicate]
  refine callK_of (hlong _) ?_
  have e1 : ((t.length : Int) - 1).toNat = t.length - 1 := by omega
  have e2 : (t.length : Int) - 1 < 61 := by omega
  have e3 : (0 : Int) ≤ (t.length : Int) - 1 := by omega
  simp [-List.reduceReplicate, e1, e2, e3]
  have e0 : (List.replicate 61 (V.i IntKind.i64 0)).set (t.length - 1) (V.i IntKind.i64 1) = ints (outA 61 cp (t.length - 1)) := by
    have : ints (List.replicate 61 0) = List.replicate 61 (V.i IntKind.i64 0) := by simp [ints]
    rw [← this, ints_set]
    congr 1
    apply List.ext_getElem?
    intro i
    by_cases hi : i < 61
    · rw [outA_get hi]
      by_cases hl : i = t.length - 1
      · subst hl
        rw [List.getElem?_set_self (by simpa using hi), if_pos (Nat.le_refl _), hcP _ (Nat.le_refl _), hlast]
      · rw [List.getElem?_set_ne (fun h => hl h.symm), List.getElem?_replicate, if_pos hi]
        split
        · rw [hcZ i (by omega)]
        · rfl
    · rw [List.getElem?_eq_none (by simp; omega), List.getElem?_eq_none (by simp; omega)]
  rw [e0]
  refine ⟨by omega, by omega, h4 _ _ _ ?_⟩
  clear h4 K4
  refine ab_seq_k fun K5 h5 => ?_
  refine ab_seq_k fun K6 h6 => ?_
  simp [-List.reduceReplicate]
  refine callK_of (hlong _) ?_
  simp [-List.reduceReplicate, wrap64 (x := (t.length : Int) - 1 - 1) (by omega) (by omega)]
  refine h6 _ _ _ ?_
  clear h6 K6
  refine ab_block_k fun K7 h7 => ?_
  refine ab_loop_k (fun m env σ => ∃ id : Nat, m ≤ t.length - 1 ∧ env = [(0, y), (3, .p 0 0 0), (5, .p 1 0 0), (6, .p 2 0 0), (7, .p id 0 0)] ∧ HpQ σ (.f (.func g) first cap) P (outA 61 cp m) id ((m : Int) - 1)) (t.length - 1)
    ⟨3, Nat.le_refl _, by simp, ?_⟩ ?_
  · constructor <;> simp <;> omega
  rintro m env σ ⟨id, hm, rfl, hp⟩ K8 h8
  rw [ic68_1]
  have hi := hp.hi
  refine ab_seq_k fun K9 h9 => ?_
  refine ab_seq_k fun K10 h10 => ?_
  simp [hi]
  refine h10 _ _ _ ?_
  clear h10 K10
  refine ab_cond_of rfl (fun hc => ?_) (fun hc => ?_)
  · obtain ⟨a, rfl⟩ : ∃ a, m = a + 1 := ⟨m - 1, by simp at hc; omega⟩
    have e1 : ((a + 1 : Nat) : Int) - 1 = a := by omega
    rw [e1] at hp hi
    have g1 := hPget a (by omega)
    have g2 := hPget (a + 1) (by omega)
    obtain ⟨f1, k1⟩ := List.getElem?_eq_some_iff.1 g1
    obtain ⟨f2, k2⟩ := List.getElem?_eq_some_iff.1 g2
    have e2 : ((a : Int) + 1).toNat = a + 1 := by omega
    have e3 : (a : Int) + 1 < 61 := by omega
    have e4 : (0 : Int) ≤ (a : Int) + 1 := by omega
    have e5 : (a : Int) < 61 := by omega
    have hMl : (outA 61 cp (a + 1)).length = 61 := by simp
    have hMget : ∀ i, a < i → i ≤ t.length - 1 → (outA 61 cp (a + 1))[i]? = some (cn i) := by
      intro i h1 h2
      rw [outA_get (by omega), if_pos (by omega), hcP i h2]
    have hM0 : (outA 61 cp (a + 1)).set a 0 = outA 61 cp (a + 1) := by
      apply List.ext_getElem?
      intro i
      by_cases hia : i = a
      · subst hia
        rw [List.getElem?_set_self (by omega), outA_get (by omega), if_neg (by omega)]
      · rw [List.getElem?_set_ne (fun h => hia h.symm)]
    have hMs : (outA 61 cp (a + 1)).set a (cn a) = outA 61 cp a := by rw [← hcP a (by omega)]; exact outA_set (by omega)
    generalize hMd : outA 61 cp (a + 1) = M at *
    have s0 := hp.h0
    have s1 := hp.h1
    have s2 := hp.h2
    simp
    refine h9 _ _ _ ?_
    clear h9 K9
    refine ab_seq_k fun K11 h11 => ?_
    refine ab_block_k fun K12 h12 => ?_
    refine ab_seq_k fun K13 h13 => ?_
    refine ab_seq_k fun K14 h14 => ?_
    simp [hi, s1, e2, e3, e4, e5, g1, g2, k1, k2, wrap64 (x := (a : Int) + 1) (by omega) (by omega)]
    refine h14 _ _ _ ?_
    clear h14 K14
    have c1 : ∀ {env σ'}, get env 0 = y → get env 3 = .p 0 0 0 → get env 5 = .p 1 0 0 → get env 6 = .p 2 0 0 → get env 7 = .p id 0 0 → HpQ σ' (.f (.func g) first cap) P (M.set a (cacc vv sc lt cn a 0)) id a → K13 (some 0) env σ' := by
      intro env σ' w0 w3 w5 w6 w7 hq
      refine h13 _ _ _ ?_
      clear h13 K13
      have hqi := hq.hi
      refine ab_seq_k fun K15 h15 => ?_
      simp [w0, w3, w5, w6, w7, hqi]
      refine callK_of (hlogs _ _) ?_
      simp [w0, w3, w5, w6, w7]
      refine h15 _ _ _ ?_
      clear h15 K15
      refine ab_block_k fun K16 h16 => ?_
      refine ⟨_, _, hit (fr := a) (by omega), fun i σ2 => HpQ σ2 (.f (.func g) first cap) P (M.set a (cfold vv lt cn a (cacc vv sc lt cn a 0) ((logsUp kn a (t.length - 1 - a)).take i))) id a, fun _ _ _ => rfl, ?_, ?_, ?_⟩
      · simpa [cfold] using hq
      · rintro i x σ2 hx hq2
        rw [List.getElem?_map, Option.map_eq_some_iff] at hx
        obtain ⟨p, hpi, rfl⟩ := hx
        have htake : (logsUp kn a (t.length - 1 - a)).take (i + 1) = (logsUp kn a (t.length - 1 - a)).take i ++ [p] := by rw [List.take_add_one, hpi]; rfl
        have hpm := List.mem_of_getElem? hpi
        obtain ⟨i', hi', hpe, hpos⟩ := logsUp_mem hpm
        have hlk := hlook a i' (by omega)
        obtain ⟨to, sv⟩ := p
        simp only [Prod.mk.injEq] at hpe
        obtain ⟨hto, hsv⟩ := hpe
        simp only at hpos
        have hton : to.toNat = a + 1 + i' := by omega
        have hx0 : 0 ≤ cacc vv sc lt cn a 0 ∧ cacc vv sc lt cn a 0 ≤ Many := cacc_le (L := t.length - 1) (fun m _ h2 => hcl m h2) (by omega) (by omega)
        have hcfl := cfold_le (rest := vv) (lt := lt) (cn := cn) (a := a) (l := (logsUp kn a (t.length - 1 - a)).take i) (x := cacc vv sc lt cn a 0) (fun p hp => by
          obtain ⟨k, hk, hpe, -⟩ := logsUp_mem (List.mem_of_mem_take hp)
          rw [hpe]
          exact (hcl _ (by simp; omega)).1) hx0
        generalize hKR : roundK _ _ _ = KR
        have hfin : ∀ env σ2, HpQ σ2 (.f (.func g) first cap) P (M.set a (cfold vv lt cn a (cacc vv sc lt cn a 0) ((logsUp kn a (t.length - 1 - a)).take (i + 1)))) id a → KR (some 0) env σ2 := by
          intro env σ2 h
          rw [← hKR]
          exact ⟨rfl, .inl h⟩
        clear hKR
        rw [htake, cfold_snoc] at hfin
        simp only [hton] at hfin
        generalize hx : cfold vv lt cn a (cacc vv sc lt cn a 0) ((logsUp kn a (t.length - 1 - a)).take i) = x at *
        have r1 := hPget (a + 1 + i') (by omega)
        obtain ⟨f3, k3⟩ := List.getElem?_eq_some_iff.1 r1
        have r2 : (M.set a x)[a + 1 + i']? = some (cn (a + 1 + i')) := by rw [List.getElem?_set_ne (by omega)]; exact hMget _ (by omega) (by omega)
        have r3 : (M.set a x)[a]? = some x := List.getElem?_set_self (by omega)
        obtain ⟨f4, k4⟩ := List.getElem?_eq_some_iff.1 r2
        obtain ⟨f5, k5⟩ := List.getElem?_eq_some_iff.1 r3
        have hMM : (M.set a x).length = 61 := by simp [hMl]
        have hss : ∀ z, (M.set a x).set a z = M.set a z := fun z => by simp
        have hcn := hcl (a + 1 + i') (by omega)
        have hvv := hrl (a + 1 + i') (by omega)
        have hsv2 := hsb a (a + 1 + i')
        have hsvb : 0 ≤ sv ∧ sv ≤ 216000 := by omega
        have u1 : to < 61 := by omega
        have u2 : 0 ≤ to := by omega
        refine ⟨rfl, ?_⟩
        refine ab_seq_k fun K18 h18 => ?_
        simp [logV]
        refine h18 _ _ _ ?_
        simp
        have hqa := hq2.app (g := [.row 0 [.i .i64 a, .i .i64 to]])
        have hla : (σ2 ++ [O.row 0 [.i .i64 a, .i .i64 to]])[σ2.length]? = some (.row 0 [.i .i64 a, .i .i64 to]) := by simp
        generalize hS : σ2 ++ [O.row 0 [.i .i64 a, .i .i64 to]] = S at *
        have t0 := hqa.h0
        have t1 := hqa.h1
        have t2 := hqa.h2
        have ti := hqa.hi
        rw [ic68_0]
        refine ab_block_k fun K20 h20 => ?_
        refine ab_seq_k fun K21 h21 => ?_
        simp [t0, hla]
        have hcall := FSpec.frame (σ := S) (by have := hg a (a + 1 + i'); rw [show ((a + 1 + i' : Nat) : Int) = to by omega] at this; simpa using this) (by rw [pureL_all]; intro v hv; simp at hv; rcases hv with h | rfl | h; exact pureL_all.1 hf v h; rfl; exact pureL_all.1 hcp v h) rfl
        refine callK_of hcall ?_
        simp
        have c2 : ∀ {env v}, get env 55 = .b v → get env 6 = .p 2 0 0 → get env 7 = .p id 0 0 → get env 8 = .p σ2.length 0 0 → v = (lt a (a + 1 + i') && decide (vv a = sv + vv (a + 1 + i'))) → K21 (some 0) env S := by
          intro env v z1 z2 z3 z4 hv
          refine h21 _ _ _ ?_
          refine ab_cond_of z1 (fun hv1 => ?_) (fun hv1 => ?_)
          · rw [hv1] at hv
            have hb := hv.symm
            simp only [Bool.and_eq_true, decide_eq_true_eq] at hb
            rw [if_pos hb] at hfin
            simp [z2, z3, z4, ti, t2, hla, e5, u1, u2, hton, hMM, r2, r3, k4, k5, wrap64 (x := x + cn (a + 1 + i')) (by have : Many = 1099511627777 := rfl; omega) (by have : Many = 1099511627777 := rfl; omega)]
            refine ⟨by omega, h20 _ _ _ (hfin _ _ ?_)⟩
            rw [ints_set, hss]
            exact hqa.setM _
          · rw [hv1] at hv
            have hb : ¬ (lt a (a + 1 + i') = true ∧ vv a = sv + vv (a + 1 + i')) := by
              intro hh
              rw [hh.1, decide_eq_true hh.2] at hv
              cases hv
            rw [if_neg hb] at hfin
            simp
            exact h20 _ _ _ (hfin _ _ hqa)
        clear h21
        repeat' (refine opG_split (fun c => ?_) (fun c => ?_) <;> simp [c, t0, t1, ti, hla, e5, u1, u2, hton, hPl, g1, k1, r1, k3, wrap64 (x := sv + vv (a + 1 + i')) (by omega) (by omega)])
        all_goals
          apply c2
          · rfl
          · rfl
          · rfl
          · rfl
          simp [c]
      · rintro σ2 hq2
        rw [List.length_map, List.take_length, cfold_logs (fun i hi => hlook a i (by omega)), ← hrec a (by omega), hMs] at hq2
        refine h16 _ _ _ ?_
        refine h12 _ _ _ ?_
        refine h11 _ _ _ ?_
        have hq2i := hq2.hi
        refine ab_seq_k fun K22 h22 => ?_
        refine ab_seq_k fun K23 h23 => ?_
        simp [w0, w3, w5, w6, w7, hq2i]
        refine h23 _ _ _ ?_
        simp
        refine h22 _ _ _ ?_
        have hqf := hq2.fresh (a : Int)
        have hqfi := hqf.hi
        simp [set_app0]
        refine h8 _ _ _ (again a (by omega) ⟨σ2.length, by omega, ?_, ?_⟩)
        · simp
        · rw [wrap64 (x := (a : Int) - 1) (by omega) (by omega)]
          exact hq2.fresh _
    by_cases hz : vv a = vv (a + 1)
    · refine ab_cond_of rfl (fun hc3 => ?_) (fun hc3 => ?_)
      · have g3 := hMget (a + 1) (by omega) (by omega)
        obtain ⟨f3, k3⟩ := List.getElem?_eq_some_iff.1 g3
        simp [hi, s2, e2, e3, e4, e5, hMl, g3, k3, wrap64 (x := (a : Int) + 1) (by omega) (by omega)]
        have hz0 : cacc vv sc lt cn a 0 = cn (a + 1) := by simp only [cacc]; rw [if_pos hz]
        rw [hz0] at c1
        refine ⟨by omega, c1 rfl rfl rfl rfl rfl ?_⟩
        rw [ints_set]
        exact hp.setM _
      · simp [hz] at hc3
    · refine ab_cond_of rfl (fun hc3 => ?_) (fun hc3 => ?_)
      · simp [hz] at hc3
      · have hz0 : cacc vv sc lt cn a 0 = 0 := by simp only [cacc]; rw [if_neg hz]
        rw [hz0, hM0] at c1
        simp
        exact c1 rfl rfl rfl rfl rfl hp
  · have hm0 : m = 0 := by simp at hc; omega
    subst hm0
    simp
    refine h7 _ _ _ ?_
    refine h5 _ _ _ ?_
    have s2 := hp.h2
    have g3 : (outA 61 cp 0)[0]? = some (cn 0) := by rw [outA_get (by omega), if_pos (Nat.le_refl _), hcP 0 (Nat.zero_le _)]
    obtain ⟨f3, k3⟩ := List.getElem?_eq_some_iff.1 g3
    generalize hMd : outA 61 cp 0 = M at *
    refine ab_seq_k fun K30 h30 => ?_
    simp [s2, g3, k3]
    refine h30 _ _ _ ?_
    simp
    exact fin_of 1 (by simp [rs68])
end Go.Ab
end

section
/- The reference's behind, upTo. -/
set_option linter.unusedVariables false
set_option linter.unusedSimpArgs false
set_option maxHeartbeats 4000000
namespace Go.Ab
open Go Go.Proofs

/-- A slice of whole numbers that grows from nothing. -/
def AllE (k : Nat) (σ : List O) (v : V) (l : List Int) : Prop := (l = [] ∧ v = sl [] true) ∨ (l ≠ [] ∧ ∃ id ver, k ≤ id ∧ v = .s id ver 0 l.length 1 ∧ σ[id]? = some (.row ver (ints l)))
theorem appE {k : Nat} {σ : List O} {v : V} {l : List Int} {z : Int} {C : Ct} (h : AllE k σ v l) (hk : k ≤ σ.length) (hb : (l.length : Int) < 1000000000)
    (hC : ∀ v' σ', AllE k σ' v' (l ++ [z]) → σ'.take k = σ.take k → C v' σ') : appTo 1 8 v σ C [.i .i64 z] 1 := by
  have hz : ints (l ++ [z]) = ints l ++ [.i .i64 z] := by simp [ints]
  rcases h with ⟨rfl, rfl⟩ | ⟨hne, id, ver, hid, rfl, hs⟩
  · simp only [sl, ints, List.map_nil, List.length_nil, appTo_ss]
    refine ⟨by simp, by omega, ?_⟩
    have e : (1 : Nat) ≠ 0 := by omega
    try rw [if_neg e]
    refine hC _ _ (.inr ⟨by simp, σ.length, 0, hk, by simp, ?_⟩) ?_
    · simp [ints]
    · rw [List.take_append_of_le_length hk]
  · have hlt := (List.getElem?_eq_some_iff.1 hs).1
    simp only [appTo, hs]
    refine ⟨trivial, trivial, by simp, by omega, ?_⟩
    rw [if_neg (by omega)]
    refine hC _ _ (.inr ⟨by simp, id, ver + 1, hid, by simp, ?_⟩) ?_
    · rw [hz, List.getElem?_set_self hlt]; simp
    · rw [List.take_set_of_le hid]
theorem AllE.app {k : Nat} {σ g : List O} {v : V} {l : List Int} (h : AllE k σ v l) : AllE k (σ ++ g) v l := by
  rcases h with h | ⟨h0, id, ver, h1, h2, h3⟩
  · exact .inl h
  · exact .inr ⟨h0, id, ver, h1, h2, app_get h3⟩
theorem AllE.one {k : Nat} {σ : List O} {v : V} {l : List Int} (h : AllE k σ v l) : cellsOf v = some [v] := by
  rcases h with ⟨-, rfl⟩ | ⟨_, _, _, _, rfl, _⟩ <;> rfl
theorem frz_allE {k : Nat} {σ : List O} {v : V} {l : List Int} (h : AllE k σ v l) : frz 2 0 σ v = sl l l.isEmpty := by
  rcases h with ⟨rfl, rfl⟩ | ⟨hne, id, ver, h1, rfl, h3⟩
  · exact frz_pure (by simp)
  · have : l.isEmpty = false := by cases l with | nil => exact absurd rfl hne | cons => rfl
    rw [this]
    exact frz_ints (k := 0) h3 (Nat.zero_le _)

theorem behind_ok {t b : List Int} {ft fb : Bool} {place : Int} (n1 : 1 ≤ t.length) (n61 : t.length ≤ 61) (hbl : (b.length : Int) < 1000000000) :
    FSpec Try.prog 88 [.agg [sl t ft, sl b fb], .i .i64 place] [] (sl (behindL b place (t.length - 1)) (behindL b place (t.length - 1)).isEmpty) [] := by
  have hlong : ∀ σ, FSpec Try.prog 43 [.agg [sl t ft, sl b fb]] σ (.i .i64 ((t.length : Int) - 1)) σ := fun σ =>
    FSpec.frame (refLong (ts := ints t) (n := t.length) (ft := ft) (x := sl b fb) (by omega)) (by simp) rfl
  refine fn88.spec0 mixed noIt_ok ?_
  rw [ic88]
  refine ab_seq_k fun K1 h1 => ?_
  simp
  refine h1 _ _ _ ?_
  clear h1 K1
  refine ab_seq_k fun K2 h2 => ?_
  simp
  refine h2 _ _ _ ?_
  clear h2 K2
  refine ab_seq_k fun K3 h3 => ?_
  refine ab_seq_k fun K4 h4 => ?_
  simp
  refine h4 _ _ _ ?_
  clear h4 K4
  refine ab_block_k fun K5 h5 => ?_
  refine ab_loop_k (fun m env σ => ∃ (i : Nat) (v : V), i + m = t.length - 1 ∧ env = [(1, .i .i64 place), (2, .p 0 0 0), (5, v), (6, .i .i64 i)] ∧ σ[0]? = some (.row 0 [sl t ft, sl b fb]) ∧ AllE 1 σ v (behindL b place i)) (t.length - 1)
    ⟨0, sl [] true, by omega, by simp [ints], rfl, .inl ⟨by simp [behindL], rfl⟩⟩ ?_
  rintro m env σ ⟨i, v, hi, rfl, s0, hv⟩ K6 h6
  rw [ic88_1]
  refine ab_seq_k fun K7 h7 => ?_
  refine ab_seq_k fun K8 h8 => ?_
  simp [s0]
  refine callK_of (hlong _) ?_
  simp
  refine h8 _ _ _ ?_
  clear h8 K8
  refine ab_cond_of rfl (fun hc => ?_) (fun hc => ?_)
  · have hlt : i < t.length - 1 := by simp at hc; omega
    simp
    refine h7 _ _ _ ?_
    refine ab_seq_k fun K9 h9 => ?_
    refine ab_block_k fun K10 h10 => ?_
    refine ab_seq_k fun K11 h11 => ?_
    simp
    refine h11 _ _ _ ?_
    clear h11 K11
    refine ab_seq_k fun K12 h12 => ?_
    refine ab_seq_k fun K13 h13 => ?_
    simp
    refine h13 _ _ _ ?_
    clear h13 K13
    refine ab_block_k fun K14 h14 => ?_
    refine ab_loop_k (fun m env σ' => ∃ k : Nat, k + m = b.length ∧ σ' = σ ∧ env = [(1, .i .i64 place), (2, .p 0 0 0), (5, v), (6, .i .i64 i), (7, .b (decide (place ≤ (i : Int)) || (b.take k).any fun f => decide (f = (i : Int)))), (8, .i .i64 k)]) b.length
      ⟨0, by omega, rfl, by simp⟩ ?_
    rintro m2 env σ' ⟨k, hk, rfl, rfl⟩ K15 h15
    rw [ic88_0]
    refine ab_seq_k fun K16 h16 => ?_
    refine ab_seq_k fun K17 h17 => ?_
    simp [s0]
    refine h17 _ _ _ ?_
    clear h17 K17
    refine ab_cond_of rfl (fun hc2 => ?_) (fun hc2 => ?_)
    · have hkl : k < b.length := by simp at hc2; omega
      obtain ⟨q1, q2, q3⟩ := getD_get hkl
      generalize hf : b.getD k 0 = f at *
      have htake : b.take (k + 1) = b.take k ++ [f] := by rw [List.take_add_one, q1]; rfl
      simp
      refine h16 _ _ _ ?_
      clear h16 K16
      refine ab_seq_k fun K18 h18 => ?_
      refine ab_block_k fun K19 h19 => ?_
      have c1 : ∀ {env w}, get env 7 = .b w → get env 1 = .i .i64 place → get env 2 = .p 0 0 0 → get env 5 = v → get env 6 = .i .i64 i → get env 8 = .i .i64 k → w = (decide (place ≤ (i : Int)) || (b.take (k + 1)).any fun f => decide (f = (i : Int))) → K19 (some 0) env σ' := by
        intro env w w0 w1 w2 w5 w6 w8 hw
        refine h19 _ _ _ ?_
        clear h19
        refine h18 _ _ _ ?_
        simp [w0, w1, w2, w5, w6, w8, wrap64 (x := (k : Int) + 1) (by omega) (by omega)]
        exact h15 _ _ _ (again (m2 - 1) (by omega) ⟨k + 1, by omega, rfl, by simp [w0, w1, w2, w5, w6, w8, hw]⟩)
      clear h19
      rw [htake] at c1
      simp [s0, hkl, q1, q2]
      repeat' (refine opG_split (fun c => ?_) (fun c => ?_) <;> simp [c, s0, hkl, q1, q2])
      all_goals
        apply c1
        · rfl
        · rfl
        · rfl
        · rfl
        · rfl
        · rfl
        rw [List.any_append, ← Bool.or_assoc]
        simp only [List.any_cons, List.any_nil, Bool.or_false]
        rw [c]
        simp
    · have hkl : k = b.length := by simp at hc2; omega
      subst hkl
      rw [List.take_length]
      simp
      refine h14 _ _ _ ?_
      refine h12 _ _ _ ?_
      refine ab_seq_k fun K20 h20 => ?_
      simp
      refine h20 _ _ _ ?_
      clear h20 K20
      have fin : ∀ {env σ2 v2}, get env 1 = .i .i64 place → get env 2 = .p 0 0 0 → get env 5 = v2 → get env 6 = .i .i64 i → σ2[0]? = some (.row 0 [sl t ft, sl b fb]) → AllE 1 σ2 v2 (behindL b place (i + 1)) → K10 (some 0) env σ2 := by
        intro env σ2 v2 w1 w2 w5 w6 t0 hv2
        refine h10 _ _ _ ?_
        refine h9 _ _ _ ?_
        simp [w1, w2, w5, w6, wrap64 (x := (i : Int) + 1) (by omega) (by omega)]
        exact h6 _ _ _ (again (m - 1) (by omega) ⟨i + 1, v2, by omega, by simp [w1, w2, w5, w6], t0, hv2⟩)
      refine ab_cond_of rfl (fun hc3 => ?_) (fun hc3 => ?_)
      · have hy : (decide (place ≤ (i : Int)) || b.any fun f => decide (f = (i : Int))) = true := by simpa using hc3
        simp
        refine appE hv (by have := (List.getElem?_eq_some_iff.1 s0).1; omega) (by have := behindL_len (b := b) (place := place) (k := i); omega) ?_
        intro v2 σ2 hv2 htk
        have t0 : σ2[0]? = some (.row 0 [sl t ft, sl b fb]) := by
          have e := congrArg (fun l : List O => l[0]?) htk
          simp only [List.getElem?_take] at e
          simpa [s0] using e
        have hsucc := behindL_succ (b := b) (place := place) (k := i)
        rw [hy, if_pos rfl] at hsucc
        rw [← hsucc] at hv2
        have hone := hv2.one
        simp [hone]
        exact fin rfl rfl rfl rfl t0 hv2
      · have hy : (decide (place ≤ (i : Int)) || b.any fun f => decide (f = (i : Int))) = false := by simpa using hc3
        have hsucc := behindL_succ (b := b) (place := place) (k := i)
        rw [hy, if_neg (by simp), List.append_nil] at hsucc
        simp
        exact fin rfl rfl rfl rfl s0 (by rw [hsucc]; exact hv)
  · have hlt : i = t.length - 1 := by simp at hc; omega
    subst hlt
    simp
    refine h5 _ _ _ ?_
    refine h3 _ _ _ ?_
    refine ab_seq_k fun K21 h21 => ?_
    simp
    refine h21 _ _ _ ?_
    simp
    refine fin_of 2 ?_
    exact ⟨frz_allE hv, .inr trivial⟩

theorem upTo_ok {t b : List Int} {ft fb : Bool} {r : Ru} {place : Nat} (ok : Ok t b r) (hp : place ≤ t.length - 1) :
    FSpec Try.prog 85 [.agg [sl t ft, sl b fb], .agg r.cells, .i .i64 place] [] (.i .i64 (Fu (scN t b r) (t.length - 1) place)) [] := by
  obtain ⟨n2, n61, tv, bl, hr⟩ := ok
  have h7 : List.take 7 r.cells = r.cells := rfl
  have hbh := fun σ => FSpec.frame (σ := σ) (behind_ok (t := t) (b := b) (ft := ft) (fb := fb) (place := place) (by omega) n61 bl) (by simp) (by simp)
  have hok : Ok t (behindL b place (t.length - 1)) r := ⟨n2, n61, tv, by have := behindL_len (b := b) (place := place) (k := t.length - 1); omega, hr⟩
  have hrest := fun σ => refRestAll (ft := ft) (fb := (behindL b place (t.length - 1)).isEmpty) hok (σ := σ)
  have g1 := rest_get (t := t) (b := behindL b place (t.length - 1)) (r := r) (l := allL) (i := 0) (by omega)
  rw [rest_Fu hp] at g1
  generalize behindL b place (t.length - 1) = bb at *
  refine fn85.spec0 mixed noIt_ok ?_
  rw [ic85]
  refine ab_seq_k fun K1 h1 => ?_
  simp
  refine h1 _ _ _ ?_
  clear h1 K1
  refine ab_seq_k fun K2 h2 => ?_
  simp [h7]
  refine callK_of (hbh _) ?_
  simp [h7]
  refine callK_of (FSpec.frame all_ok rfl rfl) ?_
  simp
  refine callK_of (hrest _) ?_
  generalize hL : (List.range t.length).map (restN t bb r allL) = L at *
  obtain ⟨hh, hel⟩ := List.getElem?_eq_some_iff.1 g1
  have n0 : 0 < t.length := by omega
  simp [g1, hel, n0]
  refine h2 _ _ _ ?_
  simp
  exact fin_of 1 (by simp [rs85])
end Go.Ab
end

section
/- The reference's Counts, Count; Count. -/
set_option linter.unusedVariables false
set_option linter.unusedSimpArgs false
set_option maxHeartbeats 4000000
namespace Go.Ab
open Go Go.Proofs

theorem refCounts {t b : List Int} {ft fb : Bool} {r : Ru} {l : Lt2} (ok : Ok t b r) :
    FSpec Try.prog 69 [.agg [sl t ft, sl b fb], .agg r.cells, .agg [.i .i64 l.over, .i .i64 l.at_]] [] (.i .i64 (cntN t b r l.letsN 0)) [] := by
  have okk := ok
  obtain ⟨n2, n61, tv, bl, hr⟩ := ok
  have h7 : List.take 7 r.cells = r.cells := rfl
  have hlong : ∀ σ, FSpec Try.prog 43 [.agg [sl t ft, sl b fb]] σ (.i .i64 ((t.length : Int) - 1)) σ := fun σ =>
    FSpec.frame (refLong (ts := ints t) (n := t.length) (ft := ft) (x := sl b fb) (by omega)) (by simp) rfl
  have hscale : ∀ {x y : Nat} σ, x < y → y < t.length → FSpec Try.prog 45 [.agg [sl t ft, sl b fb], .agg r.cells, .i .i64 x, .i .i64 y] σ (.i .i64 (scaleP t b r x y)) σ := fun {x y} σ h1 h2 =>
    FSpec.frame (refScale (t := t) (b := b) (ft := ft) (fb := fb) (r := r) (x := x) (y := y) n61 tv bl hr (by omega) (by omega) (by omega)) (by simp) rfl
  have hrest := fun σ => refRestAll (ft := ft) (fb := fb) okk (σ := σ)
  have hlets : ∀ (x y : Int) σ, FSpec Try.prog 83 [.agg [.i .i64 l.over, .i .i64 l.at_], .i .i64 x, .i .i64 y] σ (.b (l.lets x y)) σ := fun x y σ => FSpec.frame (refLets (l := l) (x := x) (y := y)) (by simp) rfl
  have hsb : ∀ {x y : Nat}, 0 ≤ scaleP t b r x y ∧ scaleP t b r x y ≤ 216000 := fun {x y} => scN_bounds (t := t) (b := b) hr tv (i := x) (j := y)
  have hrl : ∀ i, i ≤ t.length - 1 → 0 ≤ restN t b r allL i ∧ restN t b r allL i ≤ 12960000 := fun i hi => restN_le hr tv n61 hi
  have hcl : ∀ i, i ≤ t.length - 1 → 0 ≤ cntN t b r l.letsN i ∧ cntN t b r l.letsN i ≤ Many := fun i hi => cval_le rfl hi
  have hrec : ∀ a, a < t.length - 1 → cntN t b r l.letsN a = cacc (restN t b r allL) (scN t b r) l.letsN (cntN t b r l.letsN) a (t.length - 1 - a) := fun a h => cval_rec h
  have hlast : cntN t b r l.letsN (t.length - 1) = 1 := cval_last
  have hRg : ∀ i, i < t.length → ((List.range t.length).map (restN t b r allL))[i]? = some (restN t b r allL i) := fun i hi => rest_get hi
  have hsd : ∀ x y, scN t b r x y = scaleP t b r x y := fun x y => rfl
  generalize hRd : (List.range t.length).map (restN t b r allL) = R at *
  generalize hvd : restN t b r allL = vv at *
  generalize hscd : scN t b r = sc at *
  generalize hcd : cntN t b r l.letsN = cn at *
  refine fn69.spec0 mixed noIt_ok ?_
  rw [ic69]
  refine ab_seq_k fun K1 h1 => ?_
  simp
  refine h1 _ _ _ ?_
  clear h1 K1
  refine ab_seq_k fun K2 h2 => ?_
  simp [h7]
  refine callK_of (FSpec.frame all_ok rfl rfl) ?_
  simp
  refine callK_of (hrest _) ?_
  simp
  refine h2 _ _ _ ?_
  clear h2 K2
  refine ab_seq_k fun K3 h3 => ?_
  have hrep : rep t.length [V.i .i64 0] = ints (List.replicate t.length 0) := by simp [rep, ints, List.flatten_replicate_singleton]
  simp
  refine ⟨by omega, by omega, h3 _ _ _ ?_⟩
  clear h3 K3
  rw [hrep]
  refine ab_seq_k fun K4 h4 => ?_
  have e1 : ((t.length : Int) - 1).toNat = t.length - 1 := by omega
  have e3 : (0 : Int) ≤ (t.length : Int) - 1 := by omega
  have n0 : 0 < t.length := by omega
  simp
  refine callK_of (hlong _) ?_
  simp [e1, e3, n0]
  refine ⟨by omega, by omega, by omega, h4 _ _ _ ?_⟩
  clear h4 K4
  have e0 : (ints (List.replicate t.length 0)).set (t.length - 1) (V.i IntKind.i64 1) = ints (outA t.length cn (t.length - 1)) := by
    rw [ints_set]
    congr 1
    apply List.ext_getElem?
    intro i
    by_cases hi : i < t.length
    · rw [outA_get hi]
      by_cases hl : i = t.length - 1
      · subst hl
        rw [List.getElem?_set_self (by simpa using hi), if_pos (Nat.le_refl _), hlast]
      · rw [List.getElem?_set_ne (fun h => hl h.symm), List.getElem?_replicate, if_pos hi, if_neg (by omega)]
    · rw [List.getElem?_eq_none (by simp; omega), List.getElem?_eq_none (by simp; omega)]
  rw [e0]
  refine ab_seq_k fun K5 h5 => ?_
  refine ab_seq_k fun K6 h6 => ?_
  simp
  refine callK_of (hlong _) ?_
  simp [wrap64 (x := (t.length : Int) - 1 - 1) (by omega) (by omega)]
  refine h6 _ _ _ ?_
  clear h6 K6
  refine ab_block_k fun K7 h7' => ?_
  refine ab_loop_k (fun m env σ => m ≤ t.length - 1 ∧ env = [(3, .p 0 0 0), (4, .p 1 0 0), (5, .p 2 0 0), (7, .ss (ints R) t.length false), (8, .s 3 0 0 t.length 1), (9, .i .i64 ((m : Int) - 1))] ∧ σ = hpR t b ft fb r l (outA t.length cn m)) (t.length - 1)
    ⟨Nat.le_refl _, by simp; omega, rfl⟩ ?_
  rintro m env σ ⟨hm, rfl, rfl⟩ K8 h8
  rw [ic69_1]
  refine ab_seq_k fun K9 h9 => ?_
  refine ab_seq_k fun K10 h10 => ?_
  simp
  refine h10 _ _ _ ?_
  clear h10 K10
  refine ab_cond_of rfl (fun hc => ?_) (fun hc => ?_)
  · obtain ⟨a, rfl⟩ : ∃ a, m = a + 1 := ⟨m - 1, by simp at hc; omega⟩
    have e1 : ((a + 1 : Nat) : Int) - 1 = a := by omega
    rw [e1]
    have g1 := hRg a (by omega)
    have g2 := hRg (a + 1) (by omega)
    obtain ⟨f1, k1⟩ := List.getElem?_eq_some_iff.1 g1
    obtain ⟨f2, k2⟩ := List.getElem?_eq_some_iff.1 g2
    have e2 : ((a : Int) + 1).toNat = a + 1 := by omega
    have e3 : (a : Int) + 1 < t.length := by omega
    have e4 : (0 : Int) ≤ (a : Int) + 1 := by omega
    have e5 : (a : Int) < t.length := by omega
    have e6 : a < t.length := by omega
    have hMl : (outA t.length cn (a + 1)).length = t.length := by simp
    have hMget : ∀ i, a < i → i < t.length → (outA t.length cn (a + 1))[i]? = some (cn i) := by
      intro i h1 h2
      rw [outA_get h2, if_pos (by omega)]
    have hMs : (outA t.length cn (a + 1)).set a (cn a) = outA t.length cn a := outA_set e6
    generalize hMd : outA t.length cn (a + 1) = M at *
    simp
    refine h9 _ _ _ ?_
    clear h9 K9
    refine ab_seq_k fun K11 h11 => ?_
    refine ab_block_k fun K12 h12 => ?_
    refine ab_seq_k fun K13 h13 => ?_
    simp
    refine h13 _ _ _ ?_
    clear h13 K13
    refine ab_seq_k fun K14 h14 => ?_
    refine ab_seq_k fun K15 h15 => ?_
    simp [e2, e3, e4, e5, e6, g1, g2, k1, k2, wrap64 (x := (a : Int) + 1) (by omega) (by omega)]
    refine h15 _ _ _ ?_
    clear h15 K15
    have c1 : ∀ {env}, get env 3 = .p 0 0 0 → get env 4 = .p 1 0 0 → get env 5 = .p 2 0 0 → get env 7 = .ss (ints R) t.length false → get env 8 = .s 3 0 0 t.length 1 → get env 9 = .i .i64 a → get env 10 = .i .i64 (cacc vv sc l.letsN cn a 0) → K14 (some 0) env (hpR t b ft fb r l M) := by
      intro env w3 w4 w5 w7 w8 w9 w10
      refine h14 _ _ _ ?_
      clear h14 K14
      refine ab_seq_k fun K16 h16 => ?_
      refine ab_seq_k fun K17 h17 => ?_
      simp [w3, w4, w5, w7, w8, w9, w10, wrap64 (x := (a : Int) + 1) (by omega) (by omega)]
      refine h17 _ _ _ ?_
      clear h17 K17
      refine ab_block_k fun K18 h18 => ?_
      refine ab_loop_k (fun m env σ => ∃ j : Nat, j + m = t.length - 1 - a ∧ env = [(3, .p 0 0 0), (4, .p 1 0 0), (5, .p 2 0 0), (7, .ss (ints R) t.length false), (8, .s 3 0 0 t.length 1), (9, .i .i64 a), (10, .i .i64 (cacc vv sc l.letsN cn a j)), (11, .i .i64 ((a : Int) + 1 + j))] ∧ σ = hpR t b ft fb r l M) (t.length - 1 - a)
        ⟨0, by omega, by simp [w3, w4, w5, w7, w8, w9, w10], rfl⟩ ?_
      rintro m2 env σ ⟨j, hj, rfl, rfl⟩ K19 h19
      rw [ic69_0]
      refine ab_seq_k fun K20 h20 => ?_
      refine ab_seq_k fun K21 h21 => ?_
      simp [hpR]
      refine callK_of (hlong _) ?_
      simp
      refine h21 _ _ _ ?_
      clear h21 K21
      have hcj : 0 ≤ cacc vv sc l.letsN cn a j ∧ cacc vv sc l.letsN cn a j ≤ Many := cacc_le (L := t.length - 1) (fun m _ h2 => hcl m h2) (by omega) (by omega)
      refine ab_cond_of rfl (fun hc2 => ?_) (fun hc2 => ?_)
      · have hjl : a + 1 + j < t.length := by simp at hc2; omega
        have hjn : ((a + 1 + j : Nat) : Int) = (a : Int) + 1 + j := by omega
        have r1 := hRg (a + 1 + j) hjl
        obtain ⟨f3, k3⟩ := List.getElem?_eq_some_iff.1 r1
        have r2 := hMget (a + 1 + j) (by omega) hjl
        obtain ⟨f4, k4⟩ := List.getElem?_eq_some_iff.1 r2
        have hsb' := hsb (x := a) (y := a + 1 + j)
        have hs' := fun σ => hscale (x := a) (y := a + 1 + j) σ (by omega) hjl
        have hsd' := hsd a (a + 1 + j)
        rw [hjn] at hsb' hs' hsd'
        generalize scaleP t b r a ((a : Int) + 1 + j) = sj at *
        have hnext : cacc vv sc l.letsN cn a (j + 1) = if 0 < sj ∧ l.lets a ((a : Int) + 1 + j) = true ∧ vv a = sj + vv (a + 1 + j) then min Many (cacc vv sc l.letsN cn a j + cn (a + 1 + j)) else cacc vv sc l.letsN cn a j := by
          rw [cacc, hsd']
          simp only [Lt2.letsN, hjn]
        have g1' : ((a : Int) + 1 + j).toNat = a + 1 + j := by omega
        have g2' : (0 : Int) ≤ (a : Int) + 1 + j := by omega
        have g3' : (a : Int) + 1 + j < t.length := by omega
        have hvv := hrl (a + 1 + j) (by omega)
        have hcn := hcl (a + 1 + j) (by omega)
        have hMv : Many = 1099511627777 := rfl
        generalize hx : cacc vv sc l.letsN cn a j = x at *
        simp
        refine h20 _ _ _ ?_
        clear h20 K20
        refine ab_seq_k fun K22 h22 => ?_
        refine ab_block_k fun K23 h23 => ?_
        refine ab_seq_k fun K24 h24 => ?_
        simp [h7]
        refine callK_of (hs' _) ?_
        simp
        refine h24 _ _ _ ?_
        clear h24 K24
        have c3 : ∀ {env}, get env 3 = .p 0 0 0 → get env 4 = .p 1 0 0 → get env 5 = .p 2 0 0 → get env 7 = .ss (ints R) t.length false → get env 8 = .s 3 0 0 t.length 1 → get env 9 = .i .i64 a → get env 10 = .i .i64 (cacc vv sc l.letsN cn a (j + 1)) → get env 11 = .i .i64 ((a : Int) + 1 + j) → K23 (some 0) env (hpR t b ft fb r l M) := by
          intro env z3 z4 z5 z7 z8 z9 z10 z11
          refine h23 _ _ _ ?_
          refine h22 _ _ _ ?_
          simp [z3, z4, z5, z7, z8, z9, z10, z11, wrap64 (x := (a : Int) + 1 + j + 1) (by omega) (by omega)]
          refine h19 _ _ _ (again (m2 - 1) (by omega) ⟨j + 1, by omega, by simp [z3, z4, z5, z7, z8, z9, z10, z11]; omega, rfl⟩)
        clear h23 h22 h19
        refine ab_seq_k fun K25 h25 => ?_
        have c2 : ∀ {env v}, get env 80 = .b v → get env 3 = .p 0 0 0 → get env 4 = .p 1 0 0 → get env 5 = .p 2 0 0 → get env 7 = .ss (ints R) t.length false → get env 8 = .s 3 0 0 t.length 1 → get env 9 = .i .i64 a → get env 10 = .i .i64 x → get env 11 = .i .i64 ((a : Int) + 1 + j) →
            v = decide (0 < sj ∧ l.lets a ((a : Int) + 1 + j) = true ∧ vv a = sj + vv (a + 1 + j)) → K25 (some 0) env (hpR t b ft fb r l M) := by
          intro env v z0 z3 z4 z5 z7 z8 z9 z10 z11 hv
          refine h25 _ _ _ ?_
          refine ab_cond_of z0 (fun hv1 => ?_) (fun hv1 => ?_)
          · rw [hv1] at hv
            have hb := of_decide_eq_true hv.symm
            rw [hnext, if_pos hb] at c3
            simp [hpR, z3, z4, z5, z7, z8, z9, z10, z11, g1', g2', g3', hMl, r2, k4, wrap64 (x := x + cn (a + 1 + j)) (by omega) (by omega)]
            exact c3 (by simp [z3]) (by simp [z4]) (by simp [z5]) (by simp [z7]) (by simp [z8]) (by simp [z9]) (by simp [Many]) (by simp [z11])
          · rw [hv1] at hv
            have hb := of_decide_eq_false hv.symm
            rw [hnext, if_neg hb] at c3
            simp
            exact c3 z3 z4 z5 z7 z8 z9 z10 z11
        clear h25
        by_cases hp : 0 < sj
        · simp [hp]
          refine callK_of (hlets _ _ _) ?_
          simp
          repeat' (refine opG_split (fun c => ?_) (fun c => ?_) <;> simp [c, e5, e6, g1, k1, g1', g2', g3', r1, k3, wrap64 (x := sj + vv (a + 1 + j)) (by omega) (by omega)])
          all_goals
            apply c2
            · rfl
            · rfl
            · rfl
            · rfl
            · rfl
            · rfl
            · rfl
            · rfl
            · rfl
            simp [c, hp]
        · simp [hp]
          apply c2
          · rfl
          · rfl
          · rfl
          · rfl
          · rfl
          · rfl
          · rfl
          · rfl
          · rfl
          simp [hp]
      · have hjl : j = t.length - 1 - a := by simp at hc2; omega
        subst hjl
        rw [← hrec a (by omega)]
        simp
        refine h18 _ _ _ ?_
        refine h16 _ _ _ ?_
        simp [hpR, e5, e6, hMl]
        refine h12 _ _ _ ?_
        refine h11 _ _ _ ?_
        simp [wrap64 (x := (a : Int) - 1) (by omega) (by omega)]
        refine h8 _ _ _ (again a (by omega) ⟨by omega, by simp, ?_⟩)
        rw [ints_set, hMs]
        rfl
    by_cases hz : vv a = vv (a + 1)
    · refine ab_cond_of rfl (fun hc3 => ?_) (fun hc3 => ?_)
      · have g3 := hMget (a + 1) (by omega) (by omega)
        obtain ⟨f3, k3⟩ := List.getElem?_eq_some_iff.1 g3
        have hz0 : cacc vv sc l.letsN cn a 0 = cn (a + 1) := by simp only [cacc]; rw [if_pos hz]
        rw [hz0] at c1
        simp [hpR, e2, e3, e4, e5, hMl, g3, k3, wrap64 (x := (a : Int) + 1) (by omega) (by omega)]
        exact c1 rfl rfl rfl rfl rfl rfl rfl
      · simp [hz] at hc3
    · refine ab_cond_of rfl (fun hc3 => ?_) (fun hc3 => ?_)
      · simp [hz] at hc3
      · have hz0 : cacc vv sc l.letsN cn a 0 = 0 := by simp only [cacc]; rw [if_neg hz]
        rw [hz0] at c1
        simp
        exact c1 rfl rfl rfl rfl rfl rfl rfl
  · have hm0 : m = 0 := by simp at hc; omega
    subst hm0
    simp
    refine h7' _ _ _ ?_
    refine h5 _ _ _ ?_
    have g3 : (outA t.length cn 0)[0]? = some (cn 0) := by rw [outA_get (by omega), if_pos (Nat.le_refl _)]
    obtain ⟨f3, k3⟩ := List.getElem?_eq_some_iff.1 g3
    have hMl : (outA t.length cn 0).length = t.length := by simp
    generalize hMd : outA t.length cn 0 = M at *
    refine ab_seq_k fun K30 h30 => ?_
    simp [hpR, g3, k3, n0, hMl]
    refine h30 _ _ _ ?_
    simp
    exact fin_of 1 (by simp [rs69])
end Go.Ab
end

section
/- Count, placed, and what Kind and Loss let. -/
set_option linter.unusedVariables false
set_option linter.unusedSimpArgs false
set_option maxHeartbeats 4000000
namespace Go.Ab
open Go Go.Proofs

def countP (t b : List Int) (r : Ru) : Int × Int := if openE t b [r] ≠ 0 then (0, openE t b [r]) else if cntN t b r allB 0 = Many then (0, 4) else (cntN t b r allB 0, 0)
theorem cntN_le {t b : List Int} {r : Ru} {lt : Nat → Nat → Bool} : 0 ≤ cntN t b r lt 0 ∧ cntN t b r lt 0 ≤ Many := cval_le rfl (Nat.zero_le _)

theorem countAll {t b : List Int} {ft fb : Bool} {r : Ru} (ok : Ok t b r) {σ : List O} :
    FSpec Try.prog 68 [yardV t ft b fb (knownK t b r), .f (.func 63) [] []] σ (.i .i64 (cntN t b r allB 0)) σ :=
  FSpec.frame (count_ok (g := 63) (first := []) (cap := []) (lt := allB) ok rfl rfl (fun i j => by simpa [allB] using every_ok)) (by simp) (by simp)
theorem refCountsAll {t b : List Int} {ft fb : Bool} {r : Ru} (ok : Ok t b r) {σ : List O} :
    FSpec Try.prog 69 [.agg [sl t ft, sl b fb], .agg r.cells, .agg [.i .i64 (-1), .i .i64 (-1)]] σ (.i .i64 (cntN t b r allB 0)) σ := by
  have := refCounts (l := allL) (ft := ft) (fb := fb) ok
  rw [letsAllB] at this
  exact FSpec.frame this (by simp) (by simp)

theorem count32 {t b : List Int} {ft fb : Bool} {r : Ru} (hsz : Sz t b) : FSpec Try.prog 32 [.agg [sl t ft, sl b fb], .agg r.cells] [] (pairV (countP t b r)) [] := by
  refine fn32.spec0 mixed noIt_ok ?_
  rw [ic32]
  have h7 : List.take 7 r.cells = r.cells := rfl
  refine ab_seq_k fun K1 h1 => ?_
  simp
  refine h1 _ _ _ ?_
  clear h1 K1
  refine ab_seq_k fun K2 h2 => ?_
  simp [h7]
  refine callK_of (open1 hsz) ?_
  simp
  refine h2 _ _ _ ?_
  clear h2 K2
  refine ab_seq_k fun K3 h3 => ?_
  refine ab_seq_k fun K4 h4 => ?_
  simp
  refine h4 _ _ _ ?_
  clear h4 K4
  refine ab_cond_of rfl (fun hc => ?_) (fun hc => ?_)
  · simp at hc
    refine ab_seq_k fun K5 h5 => ?_
    simp
    refine h5 _ _ _ ?_
    simp
    exact fin_of 1 (by simp [rs32, countP, hc, pairV])
  · simp at hc
    obtain ⟨ok, hov⟩ := open_some (ft := ft) (fb := fb) hsz hc
    have hle := cntN_le (t := t) (b := b) (r := r) (lt := allB)
    have hM : Many = 1099511627777 := rfl
    rw [hov]
    simp
    refine h3 _ _ _ ?_
    refine ab_seq_k fun K6 h6 => ?_
    simp
    refine callK_of (countAll ok) ?_
    simp
    refine h6 _ _ _ ?_
    clear h6 K6
    refine ab_seq_k fun K7 h7' => ?_
    refine ab_seq_k fun K8 h8 => ?_
    simp
    refine h8 _ _ _ ?_
    clear h8 K8
    refine ab_cond_of rfl (fun hc2 => ?_) (fun hc2 => ?_)
    · have hE : cntN t b r allB 0 = Many := by simp at hc2; omega
      refine ab_seq_k fun K9 h9 => ?_
      simp
      refine h9 _ _ _ ?_
      simp
      exact fin_of 1 (by simp [rs32, countP, hc, hE, pairV])
    · have hE : ¬ cntN t b r allB 0 = Many := by simp at hc2; omega
      simp
      refine h7' _ _ _ ?_
      refine ab_seq_k fun K9 h9 => ?_
      simp
      refine h9 _ _ _ ?_
      simp
      exact fin_of 1 (by simp [rs32, countP, hc, hE, pairV])

theorem refCount {t b : List Int} {ft fb : Bool} {r : Ru} (hsz : Sz t b) : FSpec Try.prog 33 [.agg [sl t ft, sl b fb], .agg r.cells] [] (pairV (countP t b r)) [] := by
  refine fn33.spec0 mixed noIt_ok ?_
  rw [ic33]
  have hchk := refCheck (t := t) (b := b) (ft := ft) (fb := fb) (r := r) hsz.t1 hsz.b1 hsz.bb
  rw [openE_one] at hchk
  have h7 : List.take 7 r.cells = r.cells := rfl
  refine ab_seq_k fun K1 h1 => ?_
  simp
  refine h1 _ _ _ ?_
  clear h1 K1
  refine ab_seq_k fun K2 h2 => ?_
  refine ab_seq_k fun K3 h3 => ?_
  simp [h7]
  refine callK_of (FSpec.frame hchk (by simp) rfl) ?_
  simp
  refine h3 _ _ _ ?_
  clear h3 K3
  refine ab_cond_of rfl (fun hc => ?_) (fun hc => ?_)
  · simp at hc
    refine ab_seq_k fun K4 h4 => ?_
    simp [h7]
    refine callK_of (FSpec.frame hchk (by simp) rfl) ?_
    simp
    refine h4 _ _ _ ?_
    simp
    exact fin_of 1 (by simp [rs33, countP, hc, pairV])
  · simp at hc
    obtain ⟨ok, -⟩ := open_some (ft := ft) (fb := fb) hsz hc
    have hM : Many = 1099511627777 := rfl
    simp
    refine h2 _ _ _ ?_
    refine ab_seq_k fun K5 h5 => ?_
    simp [h7]
    refine callK_of (FSpec.frame all_ok rfl rfl) ?_
    simp
    refine callK_of (refCountsAll ok) ?_
    simp
    refine h5 _ _ _ ?_
    clear h5 K5
    refine ab_seq_k fun K6 h6 => ?_
    refine ab_seq_k fun K7 h7' => ?_
    simp
    refine h7' _ _ _ ?_
    clear h7' K7
    refine ab_cond_of rfl (fun hc2 => ?_) (fun hc2 => ?_)
    · have hE : cntN t b r allB 0 = Many := by simp at hc2; omega
      refine ab_seq_k fun K9 h9 => ?_
      simp
      refine h9 _ _ _ ?_
      simp
      exact fin_of 1 (by simp [rs33, countP, hc, hE, pairV])
    · have hE : ¬ cntN t b r allB 0 = Many := by simp at hc2; omega
      simp
      refine h6 _ _ _ ?_
      refine ab_seq_k fun K9 h9 => ?_
      simp
      refine h9 _ _ _ ?_
      simp
      exact fin_of 1 (by simp [rs33, countP, hc, hE, pairV])

/-! ### A place -/
def placeE (t b : List Int) (r : Ru) (p : Int) : Int := if openE t b [r] ≠ 0 then openE t b [r] else if fit 0 ((t.length : Int) - 1) p then 0 else 2
theorem place_some {t b : List Int} {r : Ru} {p : Int} (hsz : Sz t b) (h : placeE t b r p = 0) : openE t b [r] = 0 ∧ 0 ≤ p ∧ p ≤ (t.length : Int) - 1 := by
  unfold placeE at h
  split at h
  · rename_i h1; exact absurd h h1
  · rename_i h1
    split at h
    · rename_i h2
      simp only [fit, Bool.and_eq_true, decide_eq_true_eq] at h2
      exact ⟨Classical.not_not.1 h1, h2.1, h2.2⟩
    · cases h

theorem placed_ok {t b : List Int} {ft fb : Bool} {r : Ru} {p : Int} (hsz : Sz t b) {σ : List O} : FSpec Try.prog 70 [.agg [sl t ft, sl b fb], .agg r.cells, .i .i64 p] σ (.tup [if placeE t b r p = 0 then yardV t ft b fb (knownK t b r) else .np, .i .i64 (placeE t b r p)]) σ := by
  refine FSpec.frame ?_ (by simp) (by simp; split <;> simp)
  refine fn70.spec0 mixed noIt_ok ?_
  rw [ic70]
  have h7 : List.take 7 r.cells = r.cells := rfl
  refine ab_seq_k fun K1 h1 => ?_
  simp
  refine h1 _ _ _ ?_
  clear h1 K1
  refine ab_seq_k fun K2 h2 => ?_
  simp [h7]
  refine callK_of (open1 hsz) ?_
  simp
  refine h2 _ _ _ ?_
  clear h2 K2
  refine ab_seq_k fun K3 h3 => ?_
  refine ab_block_k fun K4 h4 => ?_
  refine ab_seq_k fun K5 h5 => ?_
  simp
  refine h5 _ _ _ ?_
  clear h5 K5
  refine ab_cond_of rfl (fun hc => ?_) (fun hc => ?_)
  · simp at hc
    refine ab_seq_k fun K6 h6 => ?_
    simp
    refine h6 _ _ _ ?_
    simp
    exact fin_of 1 (by simp [rs70, placeE, hc])
  · simp at hc
    obtain ⟨ok, hov⟩ := open_some (ft := ft) (fb := fb) hsz hc
    have n61 := ok.n61
    have hyp := pure_yard (t := t) (ft := ft) (b := b) (fb := fb) (kn := knownK t b r)
    have hlong : ∀ σ, FSpec Try.prog 66 [yardV t ft b fb (knownK t b r)] σ (.i .i64 ((t.length : Int) - 1)) σ := fun σ =>
      FSpec.frame (long_ok (cells := [sl t ft, sl b fb, knownV (knownK t b r)]) (off := 0) (t := ints t) (n := t.length) (full := ft) rfl (by omega)) (by simp [yardV] at hyp ⊢) rfl
    rw [hov]
    generalize yardV t ft b fb (knownK t b r) = y at *
    refine ab_seq_k fun K7 h7' => ?_
    simp
    refine callK_of (hlong _) ?_
    simp
    refine callK_of within0 ?_
    simp
    refine h7' _ _ _ ?_
    clear h7' K7
    refine ab_cond_of rfl (fun hc2 => ?_) (fun hc2 => ?_)
    · have hf : fit 0 ((t.length : Int) - 1) p = false := by simpa using hc2
      refine ab_seq_k fun K8 h8 => ?_
      simp
      refine h8 _ _ _ ?_
      simp
      exact fin_of 1 (by simp [rs70, placeE, hc, hf])
    · have hf : fit 0 ((t.length : Int) - 1) p = true := by simpa using hc2
      simp
      refine h4 _ _ _ ?_
      refine h3 _ _ _ ?_
      refine ab_seq_k fun K9 h9 => ?_
      simp
      refine h9 _ _ _ ?_
      simp
      exact fin_of 2 (by simp [rs70, placeE, hc, hf, hyp])
end Go.Ab
end

section
/- What Kind and Loss let; the reference's Placed; Loss. -/
set_option linter.unusedVariables false
set_option linter.unusedSimpArgs false
set_option maxHeartbeats 4000000
namespace Go.Ab
open Go Go.Proofs

def beside (place : Int) (i j : Nat) : Bool := decide (place ≤ (i : Int)) || decide ((j : Int) ≤ place)
theorem lets_others {place : Int} : (Lt2.mk (-1) place).letsN = others place := by
  funext i j
  have h1 : ¬ ((i : Int) < -1) := by omega
  simp [Lt2.letsN, Lt2.lets, others, h1]
theorem lets_beside {place : Int} : (Lt2.mk place (-1)).letsN = beside place := by
  funext i j
  have h1 : ((i : Int) ≠ -1) := by omega
  have h2 : ((j : Int) ≠ -1) := by omega
  simp only [Lt2.letsN, Lt2.lets, beside, h1, h2, ne_eq, not_false_eq_true, decide_true, Bool.and_true]
  rw [Bool.eq_iff_iff]
  simp

theorem flat_ints {l : List Int} : flatL (ints l) = true := by
  induction l with
  | nil => rfl
  | cons x l ih => simpa [ints] using ih

theorem others_ok {place : Int} {x y : Nat} : FSpec Try.prog 71 [.agg [.i .i64 x, .i .i64 y], .sp [.i .i64 place] 0] [] (.b (others place x y)) [] := by
  refine fn71.spec0 mixed noIt_ok ?_
  rw [ic71]
  refine ab_seq_k fun K1 h1 => ?_
  simp
  refine h1 _ _ _ ?_
  clear h1 K1
  refine ab_seq_k fun K2 h2 => ?_
  have c1 : ∀ {env σ v}, get env 3 = .b v → v = others place x y → K2 (some 0) env σ := by
    intro env σ v e1 hv
    refine h2 _ _ _ ?_
    simp
    exact fin_of 1 (by simp [rs71, e1, hv])
  clear h2
  simp
  repeat' (refine opG_split (fun c => ?_) (fun c => ?_) <;> simp [c])
  all_goals
    apply c1
    · rfl
    first | (simp_all [others]; done) | (simp_all [others]; omega) | (rw [Bool.eq_iff_iff]; simp_all [others]; omega)

theorem beside_ok {place : Int} {x y : Nat} : FSpec Try.prog 75 [.agg [.i .i64 x, .i .i64 y], .sp [.i .i64 place] 0] [] (.b (beside place x y)) [] := by
  refine fn75.spec0 mixed noIt_ok ?_
  rw [ic75]
  refine ab_seq_k fun K1 h1 => ?_
  simp
  refine h1 _ _ _ ?_
  clear h1 K1
  refine ab_seq_k fun K2 h2 => ?_
  have c1 : ∀ {env σ v}, get env 3 = .b v → v = beside place x y → K2 (some 0) env σ := by
    intro env σ v e1 hv
    refine h2 _ _ _ ?_
    simp
    exact fin_of 1 (by simp [rs75, e1, hv])
  clear h2
  simp
  repeat' (refine opG_split (fun c => ?_) (fun c => ?_) <;> simp [c])
  all_goals
    apply c1
    · rfl
    first | (simp_all [beside]; done) | (simp_all [beside]; omega) | (rw [Bool.eq_iff_iff]; simp_all [beside]; omega)

theorem refPlaced {t b : List Int} {ft fb : Bool} {r : Ru} {p : Int} (hsz : Sz t b) : FSpec Try.prog 73 [.agg [sl t ft, sl b fb], .agg r.cells, .i .i64 p] [] (.i .i64 (placeE t b r p)) [] := by
  refine fn73.spec0 mixed noIt_ok ?_
  rw [ic73]
  have hchk := refCheck (t := t) (b := b) (ft := ft) (fb := fb) (r := r) hsz.t1 hsz.b1 hsz.bb
  rw [openE_one] at hchk
  have h7 : List.take 7 r.cells = r.cells := rfl
  refine ab_seq_k fun K1 h1 => ?_
  simp
  refine h1 _ _ _ ?_
  clear h1 K1
  refine ab_seq_k fun K2 h2 => ?_
  refine ab_seq_k fun K3 h3 => ?_
  simp [h7]
  refine callK_of (FSpec.frame hchk (by simp) rfl) ?_
  simp
  refine h3 _ _ _ ?_
  clear h3 K3
  refine ab_cond_of rfl (fun hc => ?_) (fun hc => ?_)
  · simp at hc
    refine ab_seq_k fun K4 h4 => ?_
    simp [h7]
    refine callK_of (FSpec.frame hchk (by simp) rfl) ?_
    simp
    refine h4 _ _ _ ?_
    simp
    exact fin_of 1 (by simp [rs73, placeE, hc])
  · simp at hc
    have hlong : ∀ σ, FSpec Try.prog 43 [.agg [sl t ft, sl b fb]] σ (.i .i64 ((t.length : Int) - 1)) σ := fun σ =>
      FSpec.frame (refLong (ts := ints t) (n := t.length) (ft := ft) (x := sl b fb) hsz.t1) (by simp) rfl
    simp
    refine h2 _ _ _ ?_
    clear h2
    refine ab_seq_k fun K5 h5 => ?_
    refine ab_seq_k fun K6 h6 => ?_
    have c1 : ∀ {env σ v}, get env 21 = .b v → v = !fit 0 ((t.length : Int) - 1) p → K6 (some 0) env σ := by
      intro env σ v e1 hv
      refine h6 _ _ _ ?_
      refine ab_cond_of e1 (fun hc2 => ?_) (fun hc2 => ?_)
      · rw [hc2] at hv
        have hf : fit 0 ((t.length : Int) - 1) p = false := by simpa using hv
        refine ab_seq_k fun K7 h7' => ?_
        simp
        refine h7' _ _ _ ?_
        simp
        exact fin_of 1 (by simp [rs73, placeE, hc, hf])
      · rw [hc2] at hv
        have hf : fit 0 ((t.length : Int) - 1) p = true := by simpa using hv
        simp
        refine h5 _ _ _ ?_
        refine ab_seq_k fun K7 h7' => ?_
        simp
        refine h7' _ _ _ ?_
        simp
        exact fin_of 1 (by simp [rs73, placeE, hc, hf])
    clear h6
    by_cases hp : p < 0
    · simp [hp]
      refine c1 (v := true) rfl ?_
      simp [fit]
      omega
    · simp [hp]
      refine callK_of (hlong _) ?_
      simp
      refine c1 rfl ?_
      simp only [fit]
      have : decide (0 ≤ p) = true := by simp; omega
      rw [this, Bool.true_and]
      by_cases h : (t.length : Int) - 1 < p <;> simp [h] <;> omega

def lossP (t b : List Int) (r : Ru) (p : Int) : Int × Int := if placeE t b r p ≠ 0 then (0, placeE t b r p) else (restN t b r allL 0 - restN t b r ⟨p, -1⟩ 0, 0)

theorem pricesBeside {t b : List Int} {ft fb : Bool} {r : Ru} {p : Int} (ok : Ok t b r) :
    FSpec Try.prog 62 [yardV t ft b fb (knownK t b r), .f (.func 75) [] [.sp [.i .i64 p] 0]] [] (.agg (ints (outA 61 (valP t b r (beside p)) 0))) [] :=
  prices_ok (g := 75) (first := []) (cap := [.sp [.i .i64 p] 0]) (lt := beside p) ok rfl rfl (fun i j => by simpa using beside_ok)
theorem countOthers {t b : List Int} {ft fb : Bool} {r : Ru} {p : Int} (ok : Ok t b r) :
    FSpec Try.prog 68 [yardV t ft b fb (knownK t b r), .f (.func 71) [] [.sp [.i .i64 p] 0]] [] (.i .i64 (cntN t b r (others p) 0)) [] :=
  count_ok (g := 71) (first := []) (cap := [.sp [.i .i64 p] 0]) (lt := others p) ok rfl rfl (fun i j => by simpa using others_ok)

def hpP3 (t b : List Int) (ft fb : Bool) (r : Ru) (p : Int) : List O := [.row 0 [sl t ft, sl b fb], .row 0 r.cells, .row 0 [.i .i64 p]]

theorem loss_ok {t b : List Int} {ft fb : Bool} {r : Ru} {p : Int} (hsz : Sz t b) : FSpec Try.prog 36 [.agg [sl t ft, sl b fb], .agg r.cells, .i .i64 p] [] (pairV (lossP t b r p)) [] := by
  refine fn36.spec0 mixed noIt_ok ?_
  rw [ic36]
  have h7 : List.take 7 r.cells = r.cells := rfl
  refine ab_seq_k fun K1 h1 => ?_
  simp
  refine h1 _ _ _ ?_
  clear h1 K1
  refine ab_seq_k fun K2 h2 => ?_
  simp [h7]
  refine callK_of (placed_ok hsz) ?_
  simp
  refine h2 _ _ _ ?_
  clear h2 K2
  refine ab_seq_k fun K3 h3 => ?_
  refine ab_seq_k fun K4 h4 => ?_
  simp
  refine h4 _ _ _ ?_
  clear h4 K4
  refine ab_cond_of rfl (fun hc => ?_) (fun hc => ?_)
  · simp at hc
    refine ab_seq_k fun K5 h5 => ?_
    simp
    refine h5 _ _ _ ?_
    simp
    exact fin_of 1 (by simp [rs36, lossP, hc, pairV])
  · simp at hc
    obtain ⟨hE, p0, pL⟩ := place_some hsz hc
    obtain ⟨ok, -⟩ := open_some (ft := ft) (fb := fb) hsz hE
    have n61 := ok.n61
    have tv := ok.tv
    have g1 := outA_get (n := 61) (f := valP t b r (fun _ _ => true)) (lo := 0) (i := 0) (by omega)
    simp only [Nat.le_refl, if_true] at g1
    rw [valP_all (Nat.zero_le _)] at g1
    have g2 := outA_get (n := 61) (f := valP t b r (beside p)) (lo := 0) (i := 0) (by omega)
    have hvb : valP t b r (beside p) 0 = restN t b r ⟨p, -1⟩ 0 := by unfold valP restN; rw [if_pos (Nat.zero_le _), lets_beside]
    simp only [Nat.le_refl, if_true] at g2
    rw [hvb] at g2
    have b1 := restN_le (b := b) (l := allL) ok.r tv n61 (i := 0) (Nat.zero_le _)
    have b2 := restN_le (b := b) (l := ⟨p, -1⟩) ok.r tv n61 (i := 0) (Nat.zero_le _)
    have hpa := fun σ => pricesAll (ft := ft) (fb := fb) ok (σ := σ)
    have hpb := pricesBeside (ft := ft) (fb := fb) (p := p) ok
    have hyp := pure_yard (t := t) (ft := ft) (b := b) (fb := fb) (kn := knownK t b r)
    simp [hc]
    refine h3 _ _ _ ?_
    clear h3 K3
    generalize yardV t ft b fb (knownK t b r) = y at *
    have l1 : (outA 61 (valP t b r (fun _ _ => true)) 0).length = 61 := by simp
    have l2 : (outA 61 (valP t b r (beside p)) 0).length = 61 := by simp
    generalize outA 61 (valP t b r (fun _ _ => true)) 0 = o1 at *
    generalize outA 61 (valP t b r (beside p)) 0 = o2 at *
    have hpf : FSpec Try.prog 62 [y, .f (.func 75) [] [.p 2 0 0]] (hpP3 t b ft fb r p) (.agg (ints o2)) (hpP3 t b ft fb r p) := by
      refine FSpec.frozen 3 (v := .agg (ints o2)) ?_ ?_
      · have := hpb
        simpa [hpP3, hyp] using this
      · simp [flat_ints]
    obtain ⟨f1, k1⟩ := List.getElem?_eq_some_iff.1 g1
    obtain ⟨f2, k2⟩ := List.getElem?_eq_some_iff.1 g2
    refine ab_seq_k fun K6 h6 => ?_
    simp
    refine h6 _ _ _ ?_
    clear h6 K6
    refine ab_seq_k fun K7 h7' => ?_
    simp
    refine callK_of (hpa _) ?_
    simp [l1, g1, k1]
    refine callK_of hpf ?_
    simp [l2, g2, k2, wrap64 (x := restN t b r allL 0 - restN t b r ⟨p, -1⟩ 0) (by omega) (by omega)]
    refine h7' _ _ _ ?_
    simp
    exact fin_of 1 (by simp [rs36, lossP, hc, pairV])
end Go.Ab
end

section
/- cut: whether some best cutting cuts a place. -/
set_option linter.unusedVariables false
set_option linter.unusedSimpArgs false
set_option maxHeartbeats 4000000
namespace Go.Ab
open Go Go.Proofs

structure HpU (σ : List O) (place : Int) (P A : List Int) : Prop where
  h0 : σ[0]? = some (.row 0 [.i .i64 place])
  h1 : σ[1]? = some (.row 0 [.b false])
  h2 : σ[2]? = some (.row 0 (ints P))
  h3 : σ[3]? = some (.row 0 (ints A))
theorem HpU.app {σ g : List O} {p P A} (h : HpU σ p P A) : HpU (σ ++ g) p P A := ⟨app_get h.h0, app_get h.h1, app_get h.h2, app_get h.h3⟩
theorem HpU.len {σ : List O} {p P A} (h : HpU σ p P A) : 4 ≤ σ.length := by
  have := (List.getElem?_eq_some_iff.1 h.h3).1
  omega
theorem HpU.setA {σ : List O} {p P A} (h : HpU σ p P A) (A' : List Int) : HpU (σ.set 3 (.row 0 (ints A'))) p P A' := by
  have := h.len
  exact ⟨by rw [List.getElem?_set_ne (by omega)]; exact h.h0, by rw [List.getElem?_set_ne (by omega)]; exact h.h1, by rw [List.getElem?_set_ne (by omega)]; exact h.h2, List.getElem?_set_self (by omega)⟩
theorem set3_get {σ : List O} {i : Nat} {o x : O} (h : σ[i]? = some o) (hi : 4 ≤ i) : (σ.set 3 x)[i]? = some o := by rw [List.getElem?_set_ne (by omega)]; exact h
theorem pvN_get {A : List Int} {i : Nat} (h : i < A.length) : A[i]? = some (pvN A i) ∧ A[i] = pvN A i := ⟨(getD_get h).1, (getD_get h).2.1⟩
theorem pvN_same {A : List Int} {i : Nat} (h : i < A.length) : A.set i (pvN A i) = A := by
  rw [← (pvN_get h).2]
  exact List.set_getElem_self _

theorem intsK_ints {l : List Int} : intsK .i64 (ints l) = some l := by
  induction l with
  | nil => rfl
  | cons x l ih =>
    have : ints (x :: l) = .i .i64 x :: ints l := rfl
    rw [this, intsK, if_pos rfl, ih]
    rfl

theorem cut72 {t b : List Int} {ft fb : Bool} {r : Ru} {place : Int} (ok : Ok t b r) :
    FSpec Try.prog 72 [yardV t ft b fb (knownK t b r), .i .i64 place] [] (.b (cutsP t b r place)) [] := by
  have okk := ok
  obtain ⟨n2, n61, tv, bl, hr⟩ := ok
  have hyp := pure_yard (t := t) (ft := ft) (b := b) (fb := fb) (kn := knownK t b r)
  have hlong : ∀ σ, FSpec Try.prog 66 [yardV t ft b fb (knownK t b r)] σ (.i .i64 ((t.length : Int) - 1)) σ := fun σ =>
    FSpec.frame (long_ok (cells := [sl t ft, sl b fb, knownV (knownK t b r)]) (off := 0) (t := ints t) (n := t.length) (full := ft) rfl (by omega)) (by simp [yardV] at hyp ⊢) rfl
  have hlogs : ∀ (fr : Int) σ, FSpec Try.prog 67 [yardV t ft b fb (knownK t b r), .i .i64 fr] σ (.f (.func 84) [] [.sp [.i .i64 fr] 0, .sp [yardV t ft b fb (knownK t b r)] 0]) σ := fun fr σ =>
    FSpec.frame (logs_ok (cells := [sl t ft, sl b fb, knownV (knownK t b r)]) (off := 0) (fr := fr) (by simp)) (by simp) (by simp)
  have hit : ∀ {fr : Nat}, fr < t.length → ItT 84 [] [.sp [.i .i64 fr] 0, .sp [yardV t ft b fb (knownK t b r)] 0] ((logsUp (knownK t b r) fr (t.length - 1 - fr)).map (logV fr)) (fun _ => true = true) := fun h => logs_it (by omega) n61 h
  have hprices := fun σ => pricesAll (ft := ft) (fb := fb) okk (σ := σ)
  have hlook : ∀ a i : Nat, a + 1 + i ≤ t.length - 1 → look (knownK t b r) (a, (a : Int) + 1 + i) = scN t b r a (a + 1 + i) := by
    intro a i h
    rw [look_known hr (by omega) (by omega) (by omega)]
    unfold scN
    congr 1
  have hsb := fun i j => scN_bounds (t := t) (b := b) hr tv (i := i) (j := j)
  have hPr : ∀ i, i ≤ t.length - 1 → restN t b r allL i = Pr (scN t b r) (t.length - 1) i := fun i hi => rest_Pr hi
  have hFl : ∀ j, 0 ≤ Fu (scN t b r) (t.length - 1) j ∧ Fu (scN t b r) (t.length - 1) j ≤ 12960000 := by
    intro j
    obtain ⟨h1, h2⟩ := val_le (sc := fun i k => if k ≤ j then scN t b r i k else 0) (lt := allB) (L := t.length - 1) (M := 216000) (by omega) (fun a c => by split; exact (hsb a c).2; omega) (i := 0) rfl (Nat.zero_le _)
    refine ⟨h1, Int.le_trans h2 ?_⟩
    have : ((t.length - 1 - 0 : Nat) : Int) ≤ 60 := by omega
    omega
  have hrl : ∀ i, i ≤ t.length - 1 → 0 ≤ Pr (scN t b r) (t.length - 1) i ∧ Pr (scN t b r) (t.length - 1) i ≤ 12960000 := fun i hi => by rw [← hPr i hi]; exact restN_le hr tv n61 hi
  have hPget : ∀ i, i ≤ t.length - 1 → (outA 61 (valP t b r (fun _ _ => true)) 0)[i]? = some (Pr (scN t b r) (t.length - 1) i) := by
    intro i hi
    rw [outA_get (by omega), if_pos (Nat.zero_le _), valP_all hi, hPr i hi]
  have hPl : (outA 61 (valP t b r (fun _ _ => true)) 0).length = 61 := by simp
  unfold cutsP
  generalize hPd : outA 61 (valP t b r (fun _ _ => true)) 0 = P at *
  generalize hkn : knownK t b r = kn at *
  generalize hyd : yardV t ft b fb kn = y at *
  generalize hsd : scN t b r = sc at *
  generalize hLd : t.length - 1 = L at *
  have hL61 : L < 61 := by omega
  refine fn72.spec0 mixed itT_ok ?_
  rw [ic72]
  refine ab_seq_k fun K1 h1 => ?_
  simp
  refine h1 _ _ _ ?_
  clear h1 K1
  refine ab_seq_k fun K2 h2 => ?_
  simp [-List.reduceReplicate]
  refine callK_of (hprices _) ?_
  simp [-List.reduceReplicate, hPl]
  refine h2 _ _ _ ?_
  clear h2 K2
  refine ab_seq_k fun K3 h3 => ?_
  refine ab_seq_k fun K4 h4 => ?_
  have hTP : List.take 61 (ints P) = ints P := List.take_of_length_le (by simp [hPl])
  have hZ : List.replicate 61 (V.i IntKind.i64 0) = ints (List.replicate 61 0) := by simp [ints]
  simp [-List.reduceReplicate, hTP]
  rw [hZ, intsK_ints, intsK_ints]
  simp [-List.reduceReplicate, hPl]
  refine h4 _ _ _ ?_
  clear h4 K4
  refine ab_cond_of rfl (fun hc => ?_) (fun hc => ?_)
  · have hP0 : P = List.replicate 61 0 := by simpa [-List.reduceReplicate] using hc
    have h0 := hPget 0 (Nat.zero_le _)
    rw [hP0, List.getElem?_replicate, if_pos (by omega)] at h0
    have hpz : Pr sc L 0 = 0 := (Option.some.inj h0).symm
    have hno : cutsB sc L place = false := cutsB_no (fun a j => Pr_zero hpz)
    refine ab_seq_k fun K5 h5 => ?_
    simp [-List.reduceReplicate]
    refine h5 _ _ _ ?_
    simp [-List.reduceReplicate]
    exact fin_of 1 (by simp [rs72, hno])
  simp [-List.reduceReplicate]
  refine h3 _ _ _ ?_
  clear h3 K3 hc
  refine ab_seq_k fun K6 h6 => ?_
  simp [-List.reduceReplicate]
  refine h6 _ _ _ ?_
  clear h6 K6
  rw [hZ]
  refine ab_seq_k fun K7 h7 => ?_
  refine ab_seq_k fun K8 h8 => ?_
  simp [-List.reduceReplicate]
  refine callK_of (hlong _) ?_
  simp [-List.reduceReplicate]
  refine h8 _ _ _ ?_
  clear h8 K8
  refine ab_block_k fun K9 h9 => ?_
  refine ab_loop_k (fun m env σ => ∃ (a : Nat) (A : List Int), a + m = L + 1 ∧ env = [(0, y), (3, .p 0 0 0), (4, .p 1 0 0), (5, .p 2 0 0), (6, .p 3 0 0), (20, .i .i64 ((L : Int) + 1)), (21, .i .i64 a)] ∧ HpU σ place P A ∧ UpInv sc L A a) (L + 1)
    ⟨0, List.replicate 61 0, by omega, ?_, ⟨rfl, rfl, rfl, rfl⟩, UpInv.start hL61⟩ ?_
  · simp [wrap64 (x := (t.length : Int)) (by omega) (by omega)]
    omega
  rintro m env σ ⟨a, A, ha, rfl, hp, hup⟩ K10 h10
  rw [ic72_1]
  refine ab_seq_k fun K11 h11 => ?_
  simp
  refine h11 _ _ _ ?_
  clear h11 K11
  refine ab_seq_k fun K12 h12 => ?_
  refine ab_cond_of rfl (fun hc => ?_) (fun hc => ?_)
  · have haL : a ≤ L := by simp at hc; omega
    simp
    refine h12 _ _ _ ?_
    clear h12 K12
    refine ab_seq_k fun K13 h13 => ?_
    refine ab_block_k fun K14 h14 => ?_
    refine ab_seq_k fun K15 h15 => ?_
    simp
    refine h15 _ _ _ ?_
    clear h15 K15
    have hpa := hp.app (g := [.row 0 [.i .i64 a]])
    have hia : (σ ++ [O.row 0 [.i .i64 a]])[σ.length]? = some (.row 0 [.i .i64 a]) := by simp
    have hi4 := hp.len
    generalize σ ++ [O.row 0 [.i .i64 a]] = S at *
    generalize σ.length = id at *
    have hAl := hup.len
    obtain ⟨q1, k1⟩ := pvN_get (A := A) (i := a) (by omega)
    have own := hup.own haL hL61
    have hent := hup.enter haL hL61
    have e5 : (a : Int) < 61 := by omega
    have e6 : a < 61 := by omega
    refine ab_seq_k fun K16 h16 => ?_
    refine ab_seq_k fun K17 h17 => ?_
    simp [hia]
    refine h17 _ _ _ ?_
    clear h17 K17
    have c1 : ∀ {env S}, get env 0 = y → get env 3 = .p 0 0 0 → get env 4 = .p 1 0 0 → get env 5 = .p 2 0 0 → get env 6 = .p 3 0 0 → get env 7 = .p id 0 0 → get env 20 = .i .i64 ((L : Int) + 1) → get env 21 = .i .i64 a → HpU S place P (A.set a (Fu sc L a)) → S[id]? = some (.row 0 [.i .i64 a]) → K16 (some 0) env S := by
      intro env S w0 w3 w4 w5 w6 w7 w20 w21 hq hqi
      refine h16 _ _ _ ?_
      clear h16 K16
      refine ab_seq_k fun K18 h18 => ?_
      simp [w0, w3, w4, w5, w6, w7, w20, w21, hqi]
      refine callK_of (hlogs _ _) ?_
      simp [w0, w3, w4, w5, w6, w7, w20, w21]
      refine h18 _ _ _ ?_
      clear h18 K18
      refine ab_block_k fun K19 h19 => ?_
      refine ⟨_, _, hit (fr := a) (by omega), fun i σ2 => ∃ B, HpU σ2 place P B ∧ σ2[id]? = some (.row 0 [.i .i64 a]) ∧ UpIn sc L B a ((logsUp kn a (L - a)).take i), fun _ _ _ => rfl, ⟨_, hq, hqi, by simpa using hent⟩, ?_, ?_⟩
      · rintro i x σ2 hx ⟨B, hq2, hqi2, hin⟩
        rw [List.getElem?_map, Option.map_eq_some_iff] at hx
        obtain ⟨p, hpi, rfl⟩ := hx
        have htake : (logsUp kn a (L - a)).take (i + 1) = (logsUp kn a (L - a)).take i ++ [p] := by rw [List.take_add_one, hpi]; rfl
        obtain ⟨i', hi', hpe, hpos⟩ := logsUp_mem (List.mem_of_getElem? hpi)
        have hlk := hlook a i' (by omega)
        obtain ⟨to, sv⟩ := p
        simp only [Prod.mk.injEq] at hpe
        obtain ⟨hto, hsv⟩ := hpe
        simp only at hpos
        have hton : to.toNat = a + 1 + i' := by omega
        have hstep := hin.step (p := (to, sv)) (to := a + 1 + i') hton (by omega) (by omega) hL61 (by simp only; omega) hpos
        have hBl := hin.len
        obtain ⟨r1, m1⟩ := pvN_get (A := B) (i := a) (by omega)
        obtain ⟨r2, m2⟩ := pvN_get (A := B) (i := a + 1 + i') (by omega)
        have hb1 := hin.bd a haL
        have hb2 := hin.bd (a + 1 + i') (by omega)
        have hF1 := hFl a
        have hF2 := hFl (a + 1 + i')
        have hsv2 := hsb a (a + 1 + i')
        have u1 : to < 61 := by omega
        have u2 : 0 ≤ to := by omega
        refine ⟨rfl, ?_⟩
        generalize hKR : roundK _ _ _ = KR
        have hfin : ∀ env σ3, HpU σ3 place P (B.set (a + 1 + i') (max (pvN B (a + 1 + i')) (pvN B a + sv))) → σ3[id]? = some (.row 0 [.i .i64 a]) → KR (some 0) env σ3 := by
          intro env σ3 h1 h2
          rw [← hKR]
          exact ⟨rfl, .inl ⟨_, h1, h2, by rw [htake]; exact hstep⟩⟩
        clear hKR
        refine ab_seq_k fun K20 h20 => ?_
        simp [logV]
        refine h20 _ _ _ ?_
        simp
        have hqa := hq2.app (g := [.row 0 [.i .i64 a, .i .i64 to]])
        have hqia := app_get (g := [.row 0 [.i .i64 a, .i .i64 to]]) hqi2
        have hla : (σ2 ++ [O.row 0 [.i .i64 a, .i .i64 to]])[σ2.length]? = some (.row 0 [.i .i64 a, .i .i64 to]) := by simp
        generalize σ2 ++ [O.row 0 [.i .i64 a, .i .i64 to]] = T at *
        generalize σ2.length = il at *
        have t3 := hqa.h3
        rw [ic72_0]
        refine ab_block_k fun K21 h21 => ?_
        simp [hla, t3, hqia, u1, u2, e5, e6, hton, hBl, r1, r2, m1, m2, wrap64 (x := pvN B a + sv) (by omega) (by omega)]
        refine ⟨by omega, h21 _ _ _ (hfin _ _ ?_ (set3_get hqia hi4))⟩
        rw [ints_set]
        exact hqa.setA _
      · rintro σ2 ⟨B, hq2, hqi2, hin⟩
        rw [List.length_map, List.take_length] at hin
        have hinv := hin.leave (fun i hi => hlook a i hi)
        refine h19 _ _ _ ?_
        refine h14 _ _ _ ?_
        refine h13 _ _ _ ?_
        simp [wrap64 (x := (a : Int) + 1) (by omega) (by omega)]
        refine h10 _ _ _ (again (m - 1) (by omega) ⟨a + 1, B, by omega, by simp, hq2, hinv⟩)
    by_cases hz : 0 < a
    · refine ab_cond_of rfl (fun hc3 => ?_) (fun hc3 => ?_)
      · obtain ⟨q2, k2⟩ := pvN_get (A := A) (i := a - 1) (by omega)
        have e7 : ((a : Int) - 1).toNat = a - 1 := by omega
        have e8 : (0 : Int) ≤ (a : Int) - 1 := by omega
        have e9 : (a : Int) - 1 < 61 := by omega
        have s3 := hpa.h3
        have hm := own.1 hz
        simp [hia, s3, e5, e6, e7, e8, e9, hAl, q1, q2, k1, k2, hm, wrap64 (x := (a : Int) - 1) (by omega) (by omega)]
        refine ⟨by omega, c1 rfl rfl rfl rfl rfl rfl rfl rfl ?_ (set3_get hia hi4)⟩
        rw [ints_set]
        exact hpa.setA _
      · simp at hc3; omega
    · refine ab_cond_of rfl (fun hc3 => ?_) (fun hc3 => ?_)
      · simp at hc3; omega
      · simp
        refine c1 rfl rfl rfl rfl rfl rfl rfl rfl ?_ hia
        have := own.2 (by omega)
        rw [← this, pvN_same (by omega)]
        exact hpa
  · have haL : a = L + 1 := by simp at hc; omega
    subst haL
    simp
    refine h9 _ _ _ ?_
    refine h7 _ _ _ ?_
    have hAF : ∀ i, i ≤ L → A[i]? = some (Fu sc L i) := by
      intro i hi
      have h1 := pvN_get (A := A) (i := i) (by have := hup.len; omega)
      rw [hup.eq i (by omega) hi] at h1
      exact h1.1
    have hAl := hup.len
    clear h7 h9 h10 h12 hup
    refine ab_seq_k fun K22 h22 => ?_
    refine ab_seq_k fun K23 h23 => ?_
    simp
    refine callK_of (hlong _) ?_
    simp
    refine h23 _ _ _ ?_
    clear h23 K23
    refine ab_block_k fun K24 h24 => ?_
    refine ab_loop_k (fun m env σ => ∃ a : Nat, a + m = L ∧ (∀ i j, i < a → ¬ Hit sc L place i j) ∧ env = [(0, y), (3, .p 0 0 0), (4, .p 1 0 0), (5, .p 2 0 0), (6, .p 3 0 0), (56, .i .i64 L), (57, .i .i64 a)] ∧ HpU σ place P A) L
      ⟨0, by omega, fun i j h => absurd h (by omega), by simp; omega, hp⟩ ?_
    clear hp ha m K10
    rintro m env σ ⟨a, ha, hno, rfl, hp⟩ K25 h25
    rw [ic72_3]
    refine ab_seq_k fun K26 h26 => ?_
    simp
    refine h26 _ _ _ ?_
    clear h26 K26
    refine ab_seq_k fun K27 h27 => ?_
    refine ab_cond_of rfl (fun hc => ?_) (fun hc => ?_)
    · have haL : a < L := by simp at hc; omega
      simp
      refine h27 _ _ _ ?_
      clear h27 K27
      refine ab_seq_k fun K28 h28 => ?_
      refine ab_block_k fun K29 h29 => ?_
      refine ab_seq_k fun K30 h30 => ?_
      simp
      refine h30 _ _ _ ?_
      clear h30 K30
      have hpa := hp.app (g := [.row 0 [.i .i64 a]])
      have hia : (σ ++ [O.row 0 [.i .i64 a]])[σ.length]? = some (.row 0 [.i .i64 a]) := by simp
      have hi4 := hp.len
      generalize σ ++ [O.row 0 [.i .i64 a]] = S at *
      generalize σ.length = id at *
      refine ab_seq_k fun K31 h31 => ?_
      simp [hia]
      refine callK_of (hlogs _ _) ?_
      simp
      refine h31 _ _ _ ?_
      clear h31 K31
      refine ab_block_k fun K32 h32 => ?_
      refine ⟨_, _, hit (fr := a) (by omega), fun i σ2 => HpU σ2 place P A ∧ σ2[id]? = some (.row 0 [.i .i64 a]) ∧ ∀ p ∈ (logsUp kn a (L - a)).take i, ¬ Hit sc L place a p.1.toNat, fun _ _ _ => rfl, ⟨hpa, hia, by simp⟩, ?_, ?_⟩
      · rintro i x σ2 hx ⟨hq2, hqi2, hnp⟩
        rw [List.getElem?_map, Option.map_eq_some_iff] at hx
        obtain ⟨p, hpi, rfl⟩ := hx
        have htake : (logsUp kn a (L - a)).take (i + 1) = (logsUp kn a (L - a)).take i ++ [p] := by rw [List.take_add_one, hpi]; rfl
        obtain ⟨i', hi', hpe, hpos⟩ := logsUp_mem (List.mem_of_getElem? hpi)
        have hlk := hlook a i' (by omega)
        obtain ⟨to, sv⟩ := p
        simp only [Prod.mk.injEq] at hpe
        obtain ⟨hto, hsv⟩ := hpe
        simp only at hpos
        have hton : to.toNat = a + 1 + i' := by omega
        have hF1 := hFl a
        have hP2 := hrl (a + 1 + i') (by omega)
        have hsv2 := hsb a (a + 1 + i')
        have r1 := hAF a (by omega)
        have r2 := hPget (a + 1 + i') (by omega)
        have r3 := hPget 0 (by omega)
        obtain ⟨f1, m1⟩ := List.getElem?_eq_some_iff.1 r1
        obtain ⟨f2, m2⟩ := List.getElem?_eq_some_iff.1 r2
        obtain ⟨f3, m3⟩ := List.getElem?_eq_some_iff.1 r3
        have u1 : to < 61 := by omega
        have u2 : 0 ≤ to := by omega
        have e5 : (a : Int) < 61 := by omega
        have e6 : a < 61 := by omega
        refine ⟨rfl, ?_⟩
        generalize hKR : roundK _ _ _ = KR
        have hfin : ∀ env σ3, HpU σ3 place P A → σ3[id]? = some (.row 0 [.i .i64 a]) → ¬ Hit sc L place a (a + 1 + i') → KR (some 0) env σ3 := by
          intro env σ3 h1 h2 h3
          rw [← hKR]
          refine ⟨rfl, .inl ⟨h1, h2, fun q hq => ?_⟩⟩
          rw [htake] at hq
          rcases List.mem_append.1 hq with hq | hq
          · exact hnp q hq
          · simp at hq; subst hq; simp only [hton]; exact h3
        clear hKR
        refine ab_seq_k fun K33 h33 => ?_
        simp [logV]
        refine h33 _ _ _ ?_
        simp
        have hqa := hq2.app (g := [.row 0 [.i .i64 a, .i .i64 to]])
        have hqia := app_get (g := [.row 0 [.i .i64 a, .i .i64 to]]) hqi2
        have hla : (σ2 ++ [O.row 0 [.i .i64 a, .i .i64 to]])[σ2.length]? = some (.row 0 [.i .i64 a, .i .i64 to]) := by simp
        generalize σ2 ++ [O.row 0 [.i .i64 a, .i .i64 to]] = T at *
        generalize σ2.length = il at *
        have t0 := hqa.h0
        have t1 := hqa.h1
        have t2 := hqa.h2
        have t3 := hqa.h3
        rw [ic72_2]
        refine ab_block_k fun K34 h34 => ?_
        refine ab_seq_k fun K35 h35 => ?_
        have c1 : ∀ {env v}, get env 89 = .b v → get env 4 = .p 1 0 0 → v = decide (((a : Int) = place ∨ to = place) ∧ Fu sc L a + sv + Pr sc L (a + 1 + i') = Pr sc L 0) → K35 (some 0) env T := by
          intro env v z0 z4 hv
          refine h35 _ _ _ ?_
          have hH : Hit sc L place a (a + 1 + i') ↔ (((a : Int) = place ∨ to = place) ∧ Fu sc L a + sv + Pr sc L (a + 1 + i') = Pr sc L 0) := by
            have hsc : sv = sc a (a + 1 + i') := by omega
            have hto2 : to = ((a + 1 + i' : Nat) : Int) := by omega
            constructor
            · rintro ⟨-, -, -, h4, h5⟩
              exact ⟨by rw [hto2]; exact h4, by rw [hsc]; exact h5⟩
            · rintro ⟨h4, h5⟩
              exact ⟨by omega, by omega, by omega, by rw [← hto2]; exact h4, by rw [← hsc]; exact h5⟩
          refine ab_cond_of z0 (fun hv1 => ?_) (fun hv1 => ?_)
          · rw [hv1] at hv
            have hit' := hH.2 (of_decide_eq_true hv.symm)
            have hyes := cutsB_yes hit'
            refine ab_seq_k fun K36 h36 => ?_
            simp [z4, t1]
            refine h36 _ _ _ ?_
            simp
            have w1 : (T.set 1 (O.row 0 [V.b true]))[1]? = some (.row 0 [.b true]) := List.getElem?_set_self (List.getElem?_eq_some_iff.1 t1).1
            exact fin_of 1 (by simp [rs72, hyes, w1])
          · rw [hv1] at hv
            have hnot := fun h => (of_decide_eq_false hv.symm) (hH.1 h)
            simp
            exact h34 _ _ _ (hfin _ _ hqa hqia hnot)
        clear h35
        simp [hla, t0]
        repeat' (refine opG_split (fun c => ?_) (fun c => ?_) <;> simp [c, hla, t0, t2, t3, hqia, u1, u2, e5, e6, hton, hPl, hAl, r1, r2, r3, m1, m2, m3, wrap64 (x := Fu sc L a + sv) (by omega) (by omega), wrap64 (x := Fu sc L a + sv + Pr sc L (a + 1 + i')) (by omega) (by omega)])
        all_goals
          apply c1
          · rfl
          · rfl
          first | (simp_all; done) | (rw [Bool.eq_iff_iff]; simp_all; done) | (rw [Bool.eq_iff_iff]; simp_all; omega)
      · rintro σ2 ⟨hq2, hqi2, hnp⟩
        rw [List.length_map, List.take_length] at hnp
        refine h32 _ _ _ ?_
        refine h29 _ _ _ ?_
        refine h28 _ _ _ ?_
        simp [wrap64 (x := (a : Int) + 1) (by omega) (by omega)]
        refine h25 _ _ _ (again (m - 1) (by omega) ⟨a + 1, by omega, fun i j hi hh => ?_, by simp, hq2⟩)
        by_cases hia2 : i < a
        · exact hno i j hia2 hh
        · have : i = a := by omega
          subst this
          obtain ⟨g1, g2, g3, g4, g5⟩ := hh
          have e : i + 1 + (j - (i + 1)) = j := by omega
          have hl := hlook i (j - (i + 1)) (by omega)
          rw [e] at hl
          have hm := logsUp_all (kn := kn) (a := i) (n := L - i) (j := j - (i + 1)) (by omega) (by rw [hl]; exact g3)
          have := hnp _ hm
          rw [show ((i : Int) + 1 + ((j - (i + 1) : Nat) : Int)).toNat = j by omega] at this
          exact this ⟨g1, g2, g3, g4, g5⟩
    · have haL : a = L := by simp at hc; omega
      subst haL
      have hno2 : cutsB sc a place = false := cutsB_no (fun i j hh => hno i j (by have := hh.1; have := hh.2.1; omega) hh)
      have s1 := hp.h1
      simp
      refine h24 _ _ _ ?_
      refine h22 _ _ _ ?_
      refine ab_seq_k fun K37 h37 => ?_
      simp [s1]
      refine h37 _ _ _ ?_
      simp
      have w1 : (σ.set 1 (O.row 0 [V.b false]))[1]? = some (.row 0 [.b false]) := List.getElem?_set_self (List.getElem?_eq_some_iff.1 s1).1
      exact fin_of 1 (by simp [rs72, hno2, w1])
end Go.Ab
end

section
/- The reference's cuts, Loss. -/
set_option linter.unusedVariables false
set_option linter.unusedSimpArgs false
set_option maxHeartbeats 4000000
namespace Go.Ab
open Go Go.Proofs

theorem refLoss {t b : List Int} {ft fb : Bool} {r : Ru} {p : Int} (hsz : Sz t b) : FSpec Try.prog 37 [.agg [sl t ft, sl b fb], .agg r.cells, .i .i64 p] [] (pairV (lossP t b r p)) [] := by
  refine fn37.spec0 mixed noIt_ok ?_
  rw [ic37]
  have h7 : List.take 7 r.cells = r.cells := rfl
  refine ab_seq_k fun K1 h1 => ?_
  simp
  refine h1 _ _ _ ?_
  clear h1 K1
  refine ab_seq_k fun K2 h2 => ?_
  refine ab_seq_k fun K3 h3 => ?_
  simp [h7]
  refine callK_of (FSpec.frame (refPlaced hsz) (by simp) rfl) ?_
  simp
  refine h3 _ _ _ ?_
  clear h3 K3
  refine ab_cond_of rfl (fun hc => ?_) (fun hc => ?_)
  · simp at hc
    refine ab_seq_k fun K4 h4 => ?_
    simp [h7]
    refine callK_of (FSpec.frame (refPlaced hsz) (by simp) rfl) ?_
    simp
    refine h4 _ _ _ ?_
    simp
    exact fin_of 1 (by simp [rs37, lossP, hc, pairV])
  · simp at hc
    obtain ⟨hE, p0, pL⟩ := place_some hsz hc
    obtain ⟨ok, -⟩ := open_some (ft := ft) (fb := fb) hsz hE
    have n2 := ok.n2
    have n61 := ok.n61
    have tv := ok.tv
    have n0 : 0 < t.length := by omega
    have b1 := restN_le (b := b) (l := allL) ok.r tv n61 (i := 0) (Nat.zero_le _)
    have b2 := restN_le (b := b) (l := ⟨p, -1⟩) ok.r tv n61 (i := 0) (Nat.zero_le _)
    have g1 := rest_get (t := t) (b := b) (r := r) (l := allL) (i := 0) n0
    have g2 := rest_get (t := t) (b := b) (r := r) (l := ⟨p, -1⟩) (i := 0) n0
    have hr1 := fun σ => refRestAll (ft := ft) (fb := fb) ok (σ := σ)
    have hr2 : ∀ σ, FSpec Try.prog 64 [.agg [sl t ft, sl b fb], .agg r.cells, .agg [.i .i64 p, .i .i64 (-1)]] σ (.ss (ints ((List.range t.length).map (restN t b r ⟨p, -1⟩))) t.length false) σ := fun σ => FSpec.frame (refRest (l := ⟨p, -1⟩) ok) (by simp) (by simp)
    generalize (List.range t.length).map (restN t b r allL) = R1 at *
    generalize (List.range t.length).map (restN t b r ⟨p, -1⟩) = R2 at *
    obtain ⟨f1, k1⟩ := List.getElem?_eq_some_iff.1 g1
    obtain ⟨f2, k2⟩ := List.getElem?_eq_some_iff.1 g2
    simp
    refine h2 _ _ _ ?_
    refine ab_seq_k fun K5 h5 => ?_
    simp [h7]
    refine callK_of (FSpec.frame all_ok rfl rfl) ?_
    simp
    refine callK_of (hr1 _) ?_
    simp [h7, n0, g1, k1]
    refine callK_of (hr2 _) ?_
    simp [n0, g2, k2, wrap64 (x := restN t b r allL 0 - restN t b r ⟨p, -1⟩ 0) (by omega) (by omega)]
    refine h5 _ _ _ ?_
    simp
    exact fin_of 1 (by simp [rs37, lossP, hc, pairV])

theorem refCuts {t b : List Int} {ft fb : Bool} {r : Ru} {place : Int} (ok : Ok t b r) : FSpec Try.prog 74 [.agg [sl t ft, sl b fb], .agg r.cells, .i .i64 place] [] (.b (cutsP t b r place)) [] := by
  have okk := ok
  obtain ⟨n2, n61, tv, bl, hr⟩ := ok
  have h7 : List.take 7 r.cells = r.cells := rfl
  have hlong : ∀ σ, FSpec Try.prog 43 [.agg [sl t ft, sl b fb]] σ (.i .i64 ((t.length : Int) - 1)) σ := fun σ =>
    FSpec.frame (refLong (ts := ints t) (n := t.length) (ft := ft) (x := sl b fb) (by omega)) (by simp) rfl
  have hscale : ∀ {x y : Nat} σ, x < y → y < t.length → FSpec Try.prog 45 [.agg [sl t ft, sl b fb], .agg r.cells, .i .i64 x, .i .i64 y] σ (.i .i64 (scN t b r x y)) σ := fun {x y} σ h1 h2 =>
    FSpec.frame (refScale (t := t) (b := b) (ft := ft) (fb := fb) (r := r) (x := x) (y := y) n61 tv bl hr (by omega) (by omega) (by omega)) (by simp) rfl
  have hupTo : ∀ {a : Nat} σ, a ≤ t.length - 1 → FSpec Try.prog 85 [.agg [sl t ft, sl b fb], .agg r.cells, .i .i64 a] σ (.i .i64 (Fu (scN t b r) (t.length - 1) a)) σ := fun {a} σ h => FSpec.frame (upTo_ok (ft := ft) (fb := fb) okk h) (by simp) rfl
  have hrest := fun σ => refRestAll (ft := ft) (fb := fb) okk (σ := σ)
  have hsb := fun i j => scN_bounds (t := t) (b := b) hr tv (i := i) (j := j)
  have hPr : ∀ i, i ≤ t.length - 1 → restN t b r allL i = Pr (scN t b r) (t.length - 1) i := fun i hi => rest_Pr hi
  have hFl : ∀ j, 0 ≤ Fu (scN t b r) (t.length - 1) j ∧ Fu (scN t b r) (t.length - 1) j ≤ 12960000 := by
    intro j
    obtain ⟨h1, h2⟩ := val_le (sc := fun i k => if k ≤ j then scN t b r i k else 0) (lt := allB) (L := t.length - 1) (M := 216000) (by omega) (fun a c => by split; exact (hsb a c).2; omega) (i := 0) rfl (Nat.zero_le _)
    refine ⟨h1, Int.le_trans h2 ?_⟩
    have : ((t.length - 1 - 0 : Nat) : Int) ≤ 60 := by omega
    omega
  have hrl : ∀ i, i ≤ t.length - 1 → 0 ≤ Pr (scN t b r) (t.length - 1) i ∧ Pr (scN t b r) (t.length - 1) i ≤ 12960000 := fun i hi => by rw [← hPr i hi]; exact restN_le hr tv n61 hi
  have hRg : ∀ i, i ≤ t.length - 1 → ((List.range t.length).map (restN t b r allL))[i]? = some (Pr (scN t b r) (t.length - 1) i) := fun i hi => by rw [rest_get (by omega), hPr i hi]
  unfold cutsP
  generalize hRd : (List.range t.length).map (restN t b r allL) = R at *
  generalize hsd : scN t b r = sc at *
  generalize hLd : t.length - 1 = L at *
  refine fn74.spec0 mixed noIt_ok ?_
  rw [ic74]
  refine ab_seq_k fun K1 h1 => ?_
  simp
  refine h1 _ _ _ ?_
  clear h1 K1
  refine ab_seq_k fun K2 h2 => ?_
  simp [h7]
  refine callK_of (FSpec.frame all_ok rfl rfl) ?_
  simp
  refine callK_of (hrest _) ?_
  simp
  refine h2 _ _ _ ?_
  clear h2 K2
  refine ab_seq_k fun K3 h3 => ?_
  refine ab_seq_k fun K4 h4 => ?_
  simp
  refine h4 _ _ _ ?_
  clear h4 K4
  refine ab_block_k fun K5 h5 => ?_
  refine ab_loop_k (fun m env σ => ∃ a : Nat, a + m = L + 1 ∧ (∀ i j, i < a → ¬ Hit sc L place i j) ∧ env = [(2, .i .i64 place), (3, .p 0 0 0), (4, .p 1 0 0), (7, .ss (ints R) t.length false), (8, .i .i64 a)] ∧ σ = hpB t b ft fb r) (L + 1)
    ⟨0, by omega, fun i j h => absurd h (by omega), by simp, rfl⟩ ?_
  rintro m env σ ⟨a, ha, hno, rfl, rfl⟩ K6 h6
  rw [ic74_1]
  refine ab_seq_k fun K7 h7' => ?_
  refine ab_seq_k fun K8 h8 => ?_
  simp [hpB]
  refine callK_of (hlong _) ?_
  simp
  refine h8 _ _ _ ?_
  clear h8 K8
  refine ab_cond_of rfl (fun hc => ?_) (fun hc => ?_)
  · have haL : a ≤ L := by simp at hc; omega
    simp
    refine h7' _ _ _ ?_
    clear h7' K7
    refine ab_seq_k fun K9 h9 => ?_
    refine ab_block_k fun K10 h10 => ?_
    refine ab_seq_k fun K11 h11 => ?_
    simp [wrap64 (x := (a : Int) + 1) (by omega) (by omega)]
    refine h11 _ _ _ ?_
    clear h11 K11
    refine ab_block_k fun K12 h12 => ?_
    refine ab_loop_k (fun m env σ => ∃ j : Nat, j + m = L - a ∧ (∀ i, i < j → ¬ Hit sc L place a (a + 1 + i)) ∧ env = [(2, .i .i64 place), (3, .p 0 0 0), (4, .p 1 0 0), (7, .ss (ints R) t.length false), (8, .i .i64 a), (9, .i .i64 ((a : Int) + 1 + j))] ∧ σ = hpB t b ft fb r) (L - a)
      ⟨0, by omega, fun i h => absurd h (by omega), by simp, rfl⟩ ?_
    rintro m2 env σ ⟨j, hj, hnj, rfl, rfl⟩ K13 h13
    rw [ic74_0]
    refine ab_seq_k fun K14 h14 => ?_
    refine ab_seq_k fun K15 h15 => ?_
    simp [hpB]
    refine callK_of (hlong _) ?_
    simp
    refine h15 _ _ _ ?_
    clear h15 K15
    refine ab_cond_of rfl (fun hc2 => ?_) (fun hc2 => ?_)
    · have hjl : a + 1 + j ≤ L := by simp at hc2; omega
      have hjn : ((a + 1 + j : Nat) : Int) = (a : Int) + 1 + j := by omega
      have hs' := fun σ => hscale (x := a) (y := a + 1 + j) σ (by omega) (by omega)
      have hsb' := hsb a (a + 1 + j)
      rw [hjn] at hs'
      have hF1 := hFl a
      have hP2 := hrl (a + 1 + j) (by omega)
      have r2 := hRg (a + 1 + j) (by omega)
      have r3 := hRg 0 (by omega)
      obtain ⟨f2, m2'⟩ := List.getElem?_eq_some_iff.1 r2
      obtain ⟨f3, m3⟩ := List.getElem?_eq_some_iff.1 r3
      have g1' : ((a : Int) + 1 + j).toNat = a + 1 + j := by omega
      have g2' : (0 : Int) ≤ (a : Int) + 1 + j := by omega
      have g3' : (a : Int) + 1 + j < t.length := by omega
      have n0 : 0 < t.length := by omega
      have hH : Hit sc L place a (a + 1 + j) ↔ (0 < sc a (a + 1 + j) ∧ ((a : Int) = place ∨ (a : Int) + 1 + j = place) ∧ Fu sc L a + sc a (a + 1 + j) + Pr sc L (a + 1 + j) = Pr sc L 0) := by
        unfold Hit
        rw [hjn]
        constructor
        · rintro ⟨-, -, h3, h4, h5⟩; exact ⟨h3, h4, h5⟩
        · rintro ⟨h3, h4, h5⟩; exact ⟨by omega, by omega, h3, h4, h5⟩
      generalize hsj : sc a (a + 1 + j) = sj at *
      simp
      refine h14 _ _ _ ?_
      clear h14 K14
      refine ab_seq_k fun K16 h16 => ?_
      refine ab_block_k fun K17 h17 => ?_
      refine ab_seq_k fun K18 h18 => ?_
      simp [h7]
      refine callK_of (hs' _) ?_
      simp
      refine h18 _ _ _ ?_
      clear h18 K18
      have c3 : ∀ {env}, get env 2 = .i .i64 place → get env 3 = .p 0 0 0 → get env 4 = .p 1 0 0 → get env 7 = .ss (ints R) t.length false → get env 8 = .i .i64 a → get env 9 = .i .i64 ((a : Int) + 1 + j) → ¬ Hit sc L place a (a + 1 + j) → K17 (some 0) env (hpB t b ft fb r) := by
        intro env z2 z3 z4 z7 z8 z9 hn
        refine h17 _ _ _ ?_
        refine h16 _ _ _ ?_
        simp [z2, z3, z4, z7, z8, z9, wrap64 (x := (a : Int) + 1 + j + 1) (by omega) (by omega)]
        refine h13 _ _ _ (again (m2 - 1) (by omega) ⟨j + 1, by omega, fun i hi => ?_, by simp [z2, z3, z4, z7, z8, z9]; omega, rfl⟩)
        by_cases hij : i < j
        · exact hnj i hij
        · have : i = j := by omega
          subst this
          exact hn
      clear h17 h16 h13
      refine ab_seq_k fun K19 h19 => ?_
      refine ab_seq_k fun K20 h20 => ?_
      have c1 : ∀ {env v}, get env 45 = .b v → get env 2 = .i .i64 place → get env 3 = .p 0 0 0 → get env 4 = .p 1 0 0 → get env 7 = .ss (ints R) t.length false → get env 8 = .i .i64 a → get env 9 = .i .i64 ((a : Int) + 1 + j) → get env 10 = .i .i64 sj → v = !decide (0 < sj ∧ ((a : Int) = place ∨ (a : Int) + 1 + j = place)) → K20 (some 0) env (hpB t b ft fb r) := by
        intro env v z0 z2 z3 z4 z7 z8 z9 z10 hv
        refine h20 _ _ _ ?_
        refine ab_cond_of z0 (fun hv1 => ?_) (fun hv1 => ?_)
        · rw [hv1] at hv
          have hq : ¬ (0 < sj ∧ ((a : Int) = place ∨ (a : Int) + 1 + j = place)) := fun hP => by rw [decide_eq_true hP] at hv; cases hv
          simp
          exact c3 z2 z3 z4 z7 z8 z9 (fun h => hq ⟨(hH.1 h).1, (hH.1 h).2.1⟩)
        · rw [hv1] at hv
          have hq : (0 < sj ∧ ((a : Int) = place ∨ (a : Int) + 1 + j = place)) := Classical.byContradiction fun hP => by rw [decide_eq_false hP] at hv; cases hv
          simp
          refine h19 _ _ _ ?_
          clear h19
          refine ab_seq_k fun K21 h21 => ?_
          simp [hpB, h7, z2, z3, z4, z7, z8, z9, z10]
          refine callK_of (hupTo _ haL) ?_
          simp [z2, z3, z4, z7, z8, z9, z10, g1', g2', g3', n0, r2, r3, m2', m3, wrap64 (x := Fu sc L a + sj) (by omega) (by omega), wrap64 (x := Fu sc L a + sj + Pr sc L (a + 1 + j)) (by omega) (by omega)]
          refine h21 _ _ _ ?_
          clear h21
          refine ab_cond_of rfl (fun hc3 => ?_) (fun hc3 => ?_)
          · have he : Fu sc L a + sj + Pr sc L (a + 1 + j) = Pr sc L 0 := by simpa using hc3
            have hyes := cutsB_yes (hH.2 ⟨hq.1, hq.2, he⟩)
            refine ab_seq_k fun K22 h22 => ?_
            simp
            refine h22 _ _ _ ?_
            simp
            exact fin_of 1 (by simp [rs74, hyes])
          · have he : ¬ Fu sc L a + sj + Pr sc L (a + 1 + j) = Pr sc L 0 := by simpa using hc3
            simp
            exact c3 rfl rfl rfl rfl rfl rfl (fun h => he (hH.1 h).2.2)
      clear h20 h19
      simp
      repeat' (refine opG_split (fun c => ?_) (fun c => ?_) <;> simp [c])
      all_goals
        apply c1
        · rfl
        · rfl
        · rfl
        · rfl
        · rfl
        · rfl
        · rfl
        · rfl
        first | (simp_all; done) | (simp_all; omega) | (rw [Bool.eq_iff_iff]; simp_all; omega)
    · have hjl : j = L - a := by simp at hc2; omega
      subst hjl
      simp
      refine h12 _ _ _ ?_
      refine h10 _ _ _ ?_
      refine h9 _ _ _ ?_
      simp [wrap64 (x := (a : Int) + 1) (by omega) (by omega)]
      refine h6 _ _ _ (again (m - 1) (by omega) ⟨a + 1, by omega, fun i j hi hh => ?_, by simp, rfl⟩)
      by_cases hia : i < a
      · exact hno i j hia hh
      · have : i = a := by omega
        subst this
        have := hnj (j - (i + 1)) (by have := hh.1; have := hh.2.1; omega)
        rw [show i + 1 + (j - (i + 1)) = j by have := hh.1; omega] at this
        exact this hh
  · have haL : a = L + 1 := by simp at hc; omega
    subst haL
    have hno2 : cutsB sc L place = false := cutsB_no (fun i j hh => hno i j (by have := hh.1; have := hh.2.1; omega) hh)
    simp
    refine h5 _ _ _ ?_
    refine h3 _ _ _ ?_
    refine ab_seq_k fun K31 h31 => ?_
    simp
    refine h31 _ _ _ ?_
    simp
    exact fin_of 1 (by simp [rs74, hno2])
end Go.Ab
end

section
/- Kind; the law ScaleCounts: it returns true. -/
set_option linter.unusedVariables false
set_option linter.unusedSimpArgs false
set_option maxHeartbeats 4000000
namespace Go.Ab
open Go Go.Proofs

noncomputable def kindP (t b : List Int) (r : Ru) (p : Int) : Int × Int :=
  if placeE t b r p ≠ 0 then (0, placeE t b r p) else if cntN t b r (others p) 0 = 0 then (2, 0) else if cutsP t b r p = true then (1, 0) else (0, 0)

theorem kind_ok {t b : List Int} {ft fb : Bool} {r : Ru} {p : Int} (hsz : Sz t b) : FSpec Try.prog 34 [.agg [sl t ft, sl b fb], .agg r.cells, .i .i64 p] [] (pairV (kindP t b r p)) [] := by
  refine fn34.spec0 mixed noIt_ok ?_
  rw [ic34]
  have h7 : List.take 7 r.cells = r.cells := rfl
  refine ab_seq_k fun K1 h1 => ?_
  simp
  refine h1 _ _ _ ?_
  clear h1 K1
  refine ab_seq_k fun K2 h2 => ?_
  simp [h7]
  refine callK_of (placed_ok hsz) ?_
  simp
  refine h2 _ _ _ ?_
  clear h2 K2
  refine ab_seq_k fun K3 h3 => ?_
  refine ab_seq_k fun K4 h4 => ?_
  simp
  refine h4 _ _ _ ?_
  clear h4 K4
  refine ab_cond_of rfl (fun hc => ?_) (fun hc => ?_)
  · simp at hc
    refine ab_seq_k fun K5 h5 => ?_
    simp
    refine h5 _ _ _ ?_
    simp
    exact fin_of 1 (by simp [rs34, kindP, hc, pairV])
  · simp at hc
    obtain ⟨hE, p0, pL⟩ := place_some hsz hc
    obtain ⟨ok, -⟩ := open_some (ft := ft) (fb := fb) hsz hE
    have hca := fun σ => countAll (ft := ft) (fb := fb) ok (σ := σ)
    have hco := countOthers (ft := ft) (fb := fb) (p := p) ok
    have hcut := fun σ => FSpec.frame (σ := σ) (cut72 (ft := ft) (fb := fb) (place := p) ok) (by simp) rfl
    have hmay := kind_may (t := t) (b := b) (r := r) (place := p)
    have hyp := pure_yard (t := t) (ft := ft) (b := b) (fb := fb) (kn := knownK t b r)
    simp [hc]
    refine h3 _ _ _ ?_
    clear h3 K3
    generalize yardV t ft b fb (knownK t b r) = y at *
    have hcof : FSpec Try.prog 68 [y, .f (.func 71) [] [.p 2 0 0]] (hpP3 t b ft fb r p) (.i .i64 (cntN t b r (others p) 0)) (hpP3 t b ft fb r p) := by
      refine FSpec.frozen 3 (v := .i .i64 (cntN t b r (others p) 0)) ?_ rfl
      have := hco
      simpa [hpP3, hyp] using this
    have hk : kindP t b r p = if cntN t b r (others p) 0 = 0 then (2, 0) else if cutsP t b r p = true then (1, 0) else (0, 0) := by
      simp only [kindP, hc, ne_eq, not_true_eq_false, if_false]
    generalize hn : cntN t b r (others p) 0 = n at *
    generalize hna : cntN t b r allB 0 = na at *
    refine ab_seq_k fun K6 h6 => ?_
    simp
    refine h6 _ _ _ ?_
    clear h6 K6
    refine ab_seq_k fun K7 h7' => ?_
    refine ab_seq_k fun K8 h8 => ?_
    simp
    refine callK_of hcof ?_
    simp [hpP3]
    refine h8 _ _ _ ?_
    clear h8 K8
    refine ab_block_k fun K9 h9 => ?_
    refine ab_seq_k fun K10 h10 => ?_
    simp
    refine h10 _ _ _ ?_
    clear h10 K10
    refine ab_cond_of rfl (fun hc2 => ?_) (fun hc2 => ?_)
    · have hz : n = 0 := by simpa using hc2
      refine ab_seq_k fun K11 h11 => ?_
      simp
      refine h11 _ _ _ ?_
      simp
      exact fin_of 1 (by simp [rs34, hk, hz, pairV])
    · have hz : ¬ n = 0 := by simpa using hc2
      refine ab_seq_k fun K12 h12 => ?_
      have c1 : ∀ {env σ v}, get env 29 = .b v → v = cutsP t b r p → K12 (some 0) env σ := by
        intro env σ v z0 hv
        refine h12 _ _ _ ?_
        refine ab_cond_of z0 (fun hv1 => ?_) (fun hv1 => ?_)
        · have hy : cutsP t b r p = true := by rw [← hv, hv1]
          refine ab_seq_k fun K13 h13 => ?_
          simp
          refine h13 _ _ _ ?_
          simp
          exact fin_of 1 (by simp [rs34, hk, hz, hy, pairV])
        · have hy : cutsP t b r p = false := by rw [← hv, hv1]
          simp
          refine h9 _ _ _ ?_
          refine h7' _ _ _ ?_
          refine ab_seq_k fun K14 h14 => ?_
          simp
          refine h14 _ _ _ ?_
          simp
          exact fin_of 1 (by simp [rs34, hk, hz, hy, pairV])
      clear h12
      simp
      refine callK_of (hca _) ?_
      by_cases hl : n < na
      · simp [hl]
        exact c1 rfl (hmay (by omega)).symm
      · simp [hl]
        refine callK_of (hcut _) ?_
        simp
        exact c1 rfl rfl

theorem refKind {t b : List Int} {ft fb : Bool} {r : Ru} {p : Int} (hsz : Sz t b) : FSpec Try.prog 35 [.agg [sl t ft, sl b fb], .agg r.cells, .i .i64 p] [] (pairV (kindP t b r p)) [] := by
  refine fn35.spec0 mixed noIt_ok ?_
  rw [ic35]
  have h7 : List.take 7 r.cells = r.cells := rfl
  refine ab_seq_k fun K1 h1 => ?_
  simp
  refine h1 _ _ _ ?_
  clear h1 K1
  refine ab_seq_k fun K2 h2 => ?_
  refine ab_seq_k fun K3 h3 => ?_
  simp [h7]
  refine callK_of (FSpec.frame (refPlaced hsz) (by simp) rfl) ?_
  simp
  refine h3 _ _ _ ?_
  clear h3 K3
  refine ab_cond_of rfl (fun hc => ?_) (fun hc => ?_)
  · simp at hc
    refine ab_seq_k fun K4 h4 => ?_
    simp [h7]
    refine callK_of (FSpec.frame (refPlaced hsz) (by simp) rfl) ?_
    simp
    refine h4 _ _ _ ?_
    simp
    exact fin_of 1 (by simp [rs35, kindP, hc, pairV])
  · simp at hc
    obtain ⟨hE, p0, pL⟩ := place_some hsz hc
    obtain ⟨ok, -⟩ := open_some (ft := ft) (fb := fb) hsz hE
    have hco : ∀ σ, FSpec Try.prog 69 [.agg [sl t ft, sl b fb], .agg r.cells, .agg [.i .i64 (-1), .i .i64 p]] σ (.i .i64 (cntN t b r (others p) 0)) σ := by
      intro σ
      have := refCounts (l := ⟨-1, p⟩) (ft := ft) (fb := fb) ok
      rw [lets_others] at this
      exact FSpec.frame this (by simp) rfl
    have hcut := fun σ => FSpec.frame (σ := σ) (refCuts (ft := ft) (fb := fb) (place := p) ok) (by simp) rfl
    have hk : kindP t b r p = if cntN t b r (others p) 0 = 0 then (2, 0) else if cutsP t b r p = true then (1, 0) else (0, 0) := by
      simp only [kindP, hc, ne_eq, not_true_eq_false, if_false]
    generalize hn : cntN t b r (others p) 0 = n at *
    simp
    refine h2 _ _ _ ?_
    clear h2
    refine ab_seq_k fun K5 h5 => ?_
    refine ab_seq_k fun K6 h6 => ?_
    simp [h7]
    refine callK_of (hco _) ?_
    simp
    refine h6 _ _ _ ?_
    clear h6 K6
    refine ab_cond_of rfl (fun hc2 => ?_) (fun hc2 => ?_)
    · have hz : n = 0 := by simpa using hc2
      refine ab_seq_k fun K11 h11 => ?_
      simp
      refine h11 _ _ _ ?_
      simp
      exact fin_of 1 (by simp [rs35, hk, hz, pairV])
    · have hz : ¬ n = 0 := by simpa using hc2
      simp
      refine h5 _ _ _ ?_
      clear h5
      refine ab_seq_k fun K7 h7' => ?_
      refine ab_seq_k fun K8 h8 => ?_
      simp [h7]
      refine callK_of (hcut _) ?_
      simp
      refine h8 _ _ _ ?_
      clear h8 K8
      refine ab_cond_of rfl (fun hy => ?_) (fun hy => ?_)
      · have hy : cutsP t b r p = true := hy
        refine ab_seq_k fun K13 h13 => ?_
        simp
        refine h13 _ _ _ ?_
        simp
        exact fin_of 1 (by simp [rs35, hk, hz, hy, pairV])
      · have hy : cutsP t b r p = false := hy
        simp
        refine h7' _ _ _ ?_
        refine ab_seq_k fun K14 h14 => ?_
        simp
        refine h14 _ _ _ ?_
        simp
        exact fin_of 1 (by simp [rs35, hk, hz, hy, pairV])

theorem scaleCounts {t b : List Int} {ft fb : Bool} {r : Ru} {p : Int} (ht : (t.length : Int) < 9223372036854775808) (hb : (b.length : Int) < 9223372036854775808) (hbb : ∀ x ∈ b, -9223372036854775808 ≤ x ∧ x < 9223372036854775808) :
    FSpec Try.prog 6 [.agg [sl t ft, sl b fb], .agg r.cells, .i .i64 p] [] (.b true) [] := by
  refine fn6.spec0 mixed noIt_ok ?_
  rw [ic6]
  have h7 : List.take 7 r.cells = r.cells := rfl
  refine ab_seq_k fun K1 h1 => ?_
  simp
  refine h1 _ _ _ ?_
  clear h1 K1
  refine ab_seq_k fun K2 h2 => ?_
  refine ab_seq_k fun K3 h3 => ?_
  simp
  refine callK_of (FSpec.frame (great_ok (t := t) (b := b) ht hb) (by simp) rfl) ?_
  simp
  refine h3 _ _ _ ?_
  clear h3 K3
  refine ab_cond_of rfl (fun hc => ?_) (fun hc => ?_)
  · refine ab_seq_k fun K4 h4 => ?_
    simp
    refine callK_of works0 ?_
    simp
    refine h4 _ _ _ ?_
    simp
    exact fin_of 1 (by simp [rs6])
  · have hsz : Sz t b := ⟨by simp at hc; omega, by simp at hc; omega, hbb⟩
    simp
    refine h2 _ _ _ ?_
    clear h2 hc
    refine ab_seq_k fun K5 h5 => ?_
    simp [h7]
    refine callK_of (FSpec.frame (count32 (ft := ft) (fb := fb) (r := r) hsz) (by simp) (by simp [pairV])) ?_
    simp [pairV]
    refine h5 _ _ _ ?_
    clear h5 K5
    refine ab_seq_k fun K6 h6 => ?_
    simp [h7]
    refine callK_of (FSpec.frame (refCount (ft := ft) (fb := fb) (r := r) hsz) (by simp) (by simp [pairV])) ?_
    simp [pairV]
    refine h6 _ _ _ ?_
    clear h6 K6
    refine ab_seq_k fun K7 h7' => ?_
    simp [h7]
    refine callK_of (FSpec.frame (kind_ok (ft := ft) (fb := fb) (r := r) (p := p) hsz) (by simp) (by simp [pairV])) ?_
    simp [pairV]
    refine h7' _ _ _ ?_
    clear h7' K7
    refine ab_seq_k fun K8 h8 => ?_
    simp [h7]
    refine callK_of (FSpec.frame (refKind (ft := ft) (fb := fb) (r := r) (p := p) hsz) (by simp) (by simp [pairV])) ?_
    simp [pairV]
    refine h8 _ _ _ ?_
    clear h8 K8
    refine ab_seq_k fun K9 h9 => ?_
    simp [h7]
    refine callK_of (FSpec.frame (loss_ok (ft := ft) (fb := fb) (r := r) (p := p) hsz) (by simp) (by simp [pairV])) ?_
    simp [pairV]
    refine h9 _ _ _ ?_
    clear h9 K9
    refine ab_seq_k fun K10 h10 => ?_
    simp [h7]
    refine callK_of (FSpec.frame (refLoss (ft := ft) (fb := fb) (r := r) (p := p) hsz) (by simp) (by simp [pairV])) ?_
    simp [pairV]
    refine h10 _ _ _ ?_
    clear h10 K10
    refine ab_seq_k fun K11 h11 => ?_
    simp
    refine callK_of works0 ?_
    simp
    refine h11 _ _ _ ?_
    simp
    exact fin_of 1 (by simp [rs6])
end Go.Ab
end
