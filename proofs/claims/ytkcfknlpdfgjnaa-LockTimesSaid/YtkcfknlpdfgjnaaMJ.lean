/- Runs by numbers: turned round, less, bounds, Johnson's rule. -/
import Derived.Test.YtkcfknlpdfgjnaaMI
set_option linter.unusedVariables false
set_option linter.unusedSimpArgs false
set_option maxHeartbeats 4000000
namespace Go.Ab
open Go Go.Proofs

/-- When the first lock is free, and the second one, after so many rafts. -/
structure Runs (A B : Nat → Int) (R n : Nat) (L E : Nat → Int) : Prop where
  l0 : L 0 = 0
  e0 : E 0 = 0
  l : ∀ j, j < n → L (j + 1) = max (L j + A j) (E (j - R))
  e : ∀ j, j < n → E (j + 1) = max (L (j + 1)) (E j) + B j
  a : ∀ j, j < n → 0 ≤ A j
  b : ∀ j, j < n → 0 ≤ B j
section
variable {A B L E : Nat → Int} {R n : Nat}
theorem Runs.le (h : Runs A B R n L E) {i : Nat} : ∀ {j : Nat}, i ≤ j → j ≤ n → L i ≤ L j ∧ E i ≤ E j
  | 0, h1, _ => by
    have : i = 0 := by omega
    subst this
    exact ⟨Int.le_refl _, Int.le_refl _⟩
  | j + 1, h1, h2 => by
    by_cases he : i = j + 1
    · subst he; exact ⟨Int.le_refl _, Int.le_refl _⟩
    · have ih := h.le (i := i) (j := j) (by omega) (by omega)
      have a := h.l j (by omega)
      have b := h.e j (by omega)
      have c := h.a j (by omega)
      have d := h.b j (by omega)
      omega
theorem Runs.ge0 (h : Runs A B R n L E) {j : Nat} (hj : j ≤ n) : 0 ≤ L j ∧ 0 ≤ E j := by
  have := h.le (Nat.zero_le j) hj
  have a := h.l0
  have b := h.e0
  omega
theorem Runs.last (h : Runs A B R n L E) : L n ≤ E n := by
  cases n with
  | zero => have a := h.l0; have b := h.e0; omega
  | succ n =>
    have b := h.e n (by omega)
    have d := h.b n (by omega)
    omega
/-- A run turned round is no longer. -/
theorem Runs.back {A' B' L' E' : Nat → Int} (h : Runs A B R n L E) (h' : Runs A' B' R n L' E') (hA : ∀ k, k < n → A' k = B (n - 1 - k)) (hB : ∀ k, k < n → B' k = A (n - 1 - k)) : E' n ≤ E n := by
  have key : ∀ k, k ≤ n → (∀ i, i ≤ k → L (n - i) + E' i ≤ E n ∧ E (n - i) + L' i ≤ E n) := by
    intro k
    induction k with
    | zero =>
      intro _ i hi
      have : i = 0 := by omega
      subst this
      have a := h'.l0
      have b := h'.e0
      have c := h.last
      rw [Nat.sub_zero, a, b]
      omega
    | succ k ih =>
      intro hk i hi
      have ih := ih (by omega)
      by_cases hik : i ≤ k
      · exact ih i hik
      have : i = k + 1 := by omega
      subst this
      obtain ⟨a1, a2⟩ := ih k (Nat.le_refl _)
      obtain ⟨b1, b2⟩ := ih (k - R) (by omega)
      have e1 : n - k = (n - (k + 1)) + 1 := by omega
      have l1 := h.l (n - (k + 1)) (by omega)
      have l2 := h.e (n - (k + 1)) (by omega)
      have m1 := h'.l k (by omega)
      have m2 := h'.e k (by omega)
      have ea := hA k (by omega)
      have eb := hB k (by omega)
      rw [show n - 1 - k = n - (k + 1) by omega] at ea eb
      have c1 := h'.le (i := k - R) (j := k) (by omega) (by omega)
      have c2 : E (n - (k + 1)) + E' (k - R) ≤ E n := by
        by_cases hR : R ≤ k
        · have q := h.l (n - (k - R) - 1) (by omega)
          rw [show n - (k - R) - 1 + 1 = n - (k - R) by omega] at q
          by_cases hR0 : R ≤ n - (k - R) - 1
          · rw [show n - (k - R) - 1 - R = n - (k + 1) by omega] at q
            omega
          · omega
        · rw [show k - R = 0 by omega, h'.e0]
          have := (h.le (i := n - (k + 1)) (j := n) (by omega) (Nat.le_refl _)).2
          omega
      rw [e1] at a1 a2
      omega
  have := (key n (Nat.le_refl _) n (Nat.le_refl _)).1
  rw [Nat.sub_self, h.l0] at this
  omega
/-- One left out. -/
theorem Runs.out {A' B' L' E' : Nat → Int} {p : Nat} (h : Runs A B R (n + 1) L E) (h' : Runs A' B' R n L' E') (hp : p ≤ n) (h1 : ∀ j, j < p → A' j = A j ∧ B' j = B j) (h2 : ∀ j, p ≤ j → j < n → A' j = A (j + 1) ∧ B' j = B (j + 1)) : E' n ≤ E (n + 1) := by
  have key : ∀ k, k ≤ n → ∀ i, i ≤ k → (i ≤ p → L' i = L i ∧ E' i = E i) ∧ L' i ≤ L (i + 1) ∧ E' i ≤ E (i + 1) := by
    intro k
    induction k with
    | zero =>
      intro _ i hi
      have : i = 0 := by omega
      subst this
      have g := h.ge0 (j := 0 + 1) (by omega)
      have a := h'.l0
      have b := h'.e0
      have c := h.l0
      have d := h.e0
      refine ⟨fun _ => ⟨by omega, by omega⟩, by omega, by omega⟩
    | succ k ih =>
      intro hk i hi
      have ih := ih (by omega)
      by_cases hik : i ≤ k
      · exact ih i hik
      have : i = k + 1 := by omega
      subst this
      obtain ⟨a0, a1, a2⟩ := ih k (Nat.le_refl _)
      obtain ⟨b0, b1, b2⟩ := ih (k - R) (by omega)
      have m1 := h'.l k (by omega)
      have m2 := h'.e k (by omega)
      have hb' := h'.b k (by omega)
      have ha' := h'.a k (by omega)
      by_cases hkp : k < p
      · obtain ⟨e1, e2⟩ := h1 k hkp
        obtain ⟨a3, a4⟩ := a0 (by omega)
        obtain ⟨b3, b4⟩ := b0 (by omega)
        have l1 := h.l k (by omega)
        have l2 := h.e k (by omega)
        have g := h.le (i := k + 1) (j := k + 1 + 1) (by omega) (by omega)
        rw [a3, b4, e1] at m1
        have q : L' (k + 1) = L (k + 1) := by omega
        rw [q, a4, e2] at m2
        have q2 : E' (k + 1) = E (k + 1) := by omega
        exact ⟨fun _ => ⟨q, q2⟩, by omega, by omega⟩
      · obtain ⟨e1, e2⟩ := h2 k (by omega) (by omega)
        have l1 := h.l (k + 1) (by omega)
        have l2 := h.e (k + 1) (by omega)
        have q : E' (k - R) ≤ E (k + 1 - R) := by
          by_cases hR : R ≤ k
          · rw [show k + 1 - R = k - R + 1 by omega]; exact b2
          · rw [show k - R = 0 by omega, h'.e0]
            exact (h.ge0 (j := k + 1 - R) (by omega)).2
        have q1 : L' (k + 1) ≤ L (k + 1 + 1) := by omega
        have q2 : E' (k + 1) ≤ E (k + 1 + 1) := by omega
        refine ⟨fun hp => ?_, q1, q2⟩
        exfalso
        omega
  exact (key n (Nat.le_refl _) n (Nat.le_refl _)).2.2

def sumN (f : Nat → Int) : Nat → Int
  | 0 => 0
  | j + 1 => sumN f j + f j
theorem sumN_le {f g : Nat → Int} {p : Nat} : ∀ {m : Nat}, p ≤ m → (∀ i, p ≤ i → i < m → f i ≤ g i) → sumN f m - sumN f p ≤ sumN g m - sumN g p
  | 0, h, _ => by
    have : p = 0 := by omega
    subst this; omega
  | m + 1, h, hf => by
    by_cases hp : p = m + 1
    · subst hp; omega
    · have ih := sumN_le (m := m) (by omega) (fun i h1 h2 => hf i h1 (by omega))
      have := hf m (by omega) (by omega)
      simp only [sumN]
      omega
theorem Runs.bound (h : Runs A B R n L E) {c : Nat → Int} {s : Int} {p : Nat} (hp : p < n) (h1 : ∀ i, i < p → c i ≤ A i) (h2 : s + c p ≤ A p + B p) (h3 : ∀ i, p < i → i < n → c i ≤ B i) : s + sumN c n ≤ E n := by
  have k1 : ∀ j, j ≤ p → sumN c j ≤ L j := by
    intro j
    induction j with
    | zero => intro _; have := h.l0; simp only [sumN]; omega
    | succ j ih =>
      intro hj
      have ih := ih (by omega)
      have := h.l j (by omega)
      have := h1 j (by omega)
      simp only [sumN]
      omega
  have k2 : ∀ j, p < j → j ≤ n → s + sumN c j ≤ E j := by
    intro j
    induction j with
    | zero => intro h0; omega
    | succ j ih =>
      intro h0 hj
      have e := h.e j (by omega)
      by_cases hjp : j = p
      · subst hjp
        have := k1 j (Nat.le_refl _)
        have := h.l j (by omega)
        simp only [sumN]
        omega
      · have ih := ih (by omega) (by omega)
        have := h3 j (by omega) (by omega)
        simp only [sumN]
        omega
  exact k2 n hp (Nat.le_refl _)
theorem first_ge {f : Nat → Int} {s : Int} : ∀ {j : Nat}, (∃ p, p < j ∧ s ≤ f p ∧ ∀ i, i < p → f i < s) ∨ ∀ i, i < j → f i < s
  | 0 => .inr (fun i h => by omega)
  | j + 1 => by
    rcases first_ge (f := f) (s := s) (j := j) with ⟨p, h1, h2, h3⟩ | h
    · exact .inl ⟨p, by omega, h2, h3⟩
    · by_cases hj : s ≤ f j
      · exact .inl ⟨j, by omega, hj, h⟩
      · refine .inr fun i hi => ?_
        by_cases he : i = j
        · subst he; omega
        · exact h i (by omega)
theorem last_ge {f : Nat → Int} {s : Int} : ∀ {j : Nat}, (∃ p, p < j ∧ s ≤ f p ∧ ∀ i, p < i → i < j → f i < s) ∨ ∀ i, i < j → f i < s
  | 0 => .inr (fun i h => by omega)
  | j + 1 => by
    by_cases hj : s ≤ f j
    · exact .inl ⟨j, by omega, hj, fun i h1 h2 => by omega⟩
    · rcases last_ge (f := f) (s := s) (j := j) with ⟨p, h1, h2, h3⟩ | h
      · refine .inl ⟨p, by omega, h2, fun i hi1 hi2 => ?_⟩
        by_cases he : i = j
        · subst he; omega
        · exact h3 i hi1 (by omega)
      · refine .inr fun i hi => ?_
        by_cases he : i = j
        · subst he; omega
        · exact h i (by omega)
/-- With room for all a time is that of a path. -/
theorem Runs.path (h : Runs A B R n L E) (hR : n ≤ R + 1) (hn : 0 < n) : ∃ p, p < n ∧ E n = sumN A (p + 1) + (sumN B n - sumN B p) := by
  have k1 : ∀ j, j ≤ n → L j = sumN A j := by
    intro j
    induction j with
    | zero => intro _; exact h.l0
    | succ j ih =>
      intro hj
      have ih := ih (by omega)
      have a := h.l j (by omega)
      have b := h.a j (by omega)
      have c := (h.ge0 (j := j) (by omega)).1
      rw [show j - R = 0 by omega, h.e0] at a
      simp only [sumN]
      omega
  have k2 : ∀ j, 0 < j → j ≤ n → ∃ p, p < j ∧ E j = sumN A (p + 1) + (sumN B j - sumN B p) := by
    intro j
    induction j with
    | zero => intro h; omega
    | succ j ih =>
      intro _ hj
      have e := h.e j (by omega)
      have l1 := k1 (j + 1) (by omega)
      by_cases hm : E j ≤ L (j + 1)
      · refine ⟨j, by omega, ?_⟩
        simp only [sumN] at *
        omega
      · have j0 : 0 < j := by
          rcases Nat.eq_zero_or_pos j with rfl | h0
          · have := h.e0
            have := (h.ge0 (j := 0 + 1) (by omega)).1
            omega
          · exact h0
        obtain ⟨p, p1, p2⟩ := ih j0 (by omega)
        refine ⟨p, by omega, ?_⟩
        simp only [sumN] at *
        omega
  exact k2 n hn (Nat.le_refl _)
end

/-! ### The run of an order is one -/
def oA (T : Tw) (o : List Int) (j : Nat) : Int := (raft T (o.getD j 0)).1
def oB (T : Tw) (o : List Int) (j : Nat) : Int := (raft T (o.getD j 0)).2
theorem run_secs {T : Tw} {r : Int} {o : List Int} : ∀ {j : Nat}, j ≤ o.length → ∀ i, i < j → (runR T r (o.take j)).secs.getD i 0 = max ((runR T r (o.take i)).free + oA T o i) (runR T r (o.take i)).last := by
  intro j
  induction j with
  | zero => intro _ i h; omega
  | succ j ih =>
    intro hj i hi
    have hx := o_some (o := o) (j := j) (by omega)
    have hl := (runR_len (T := T) (room := r) (o := o.take j)).1
    rw [show (o.take j).length = j by rw [List.length_take]; omega] at hl
    have e : (runR T r (o.take (j + 1))).secs = (runR T r (o.take j)).secs ++ [max ((runR T r (o.take j)).free + oA T o j) (runR T r (o.take j)).last] := by rw [runR_take hx]; rfl
    rw [e]
    by_cases hij : i < j
    · rw [gd_l (by omega)]; exact ih (by omega) i hij
    · have : i = j := by omega
      subst this
      have g := gd_r (l := (runR T r (o.take i)).secs) (x := max ((runR T r (o.take i)).free + oA T o i) (runR T r (o.take i)).last)
      rw [hl] at g
      exact g
theorem runs_of {T : Tw} {R : Nat} {o : List Int} (hb : TB T) : Runs (oA T o) (oB T o) R o.length (fun j => (runR T R (o.take j)).free) (fun j => (runR T R (o.take j)).last) := by
  have hA : ∀ j, 0 ≤ oA T o j := fun j => (raft_tb hb _).1.1
  have hB : ∀ j, 0 ≤ oB T o j := fun j => (raft_tb hb _).2.1
  have st : ∀ j, j < o.length → (runR T R (o.take (j + 1))).last = max ((runR T R (o.take j)).free + oA T o j) (runR T R (o.take j)).last + oB T o j ∧
      (runR T R (o.take (j + 1))).free = (if (R : Int) ≤ (j : Int) then max ((runR T R (o.take j)).free + oA T o j) ((runR T R (o.take (j + 1))).secs.getD (j - R) 0) else (runR T R (o.take j)).free + oA T o j) := by
    intro j hj
    have hx := o_some (o := o) (j := j) hj
    have hl := (runR_len (T := T) (room := R) (o := o.take j)).1
    rw [show (o.take j).length = j by rw [List.length_take]; omega] at hl
    rw [runR_take hx]
    refine ⟨rfl, ?_⟩
    show (if (R : Int) ≤ ((runR T R (o.take j)).secs.length : Int) then _ else _) = _
    rw [hl]
    by_cases hR : (R : Int) ≤ (j : Int)
    · rw [if_pos hR, if_pos hR, show ((j : Int) - (R : Int)).toNat = j - R by omega]
      rfl
    · rw [if_neg hR, if_neg hR]
      rfl
  have up : ∀ {i j : Nat}, i ≤ j → j ≤ o.length → (runR T R (o.take i)).free ≤ (runR T R (o.take j)).free ∧ (runR T R (o.take i)).last ≤ (runR T R (o.take j)).last ∧ (i < j → (runR T R (o.take i)).free + oA T o i ≤ (runR T R (o.take j)).free) := by
    intro i j
    induction j with
    | zero =>
      intro h _
      have : i = 0 := by omega
      subst this
      exact ⟨Int.le_refl _, Int.le_refl _, fun h => by omega⟩
    | succ j ih =>
      intro h1 h2
      obtain ⟨s1, s2⟩ := st j (by omega)
      have a := hA j
      have b := hB j
      by_cases he : i = j + 1
      · subst he
        exact ⟨Int.le_refl _, Int.le_refl _, fun h => by omega⟩
      · obtain ⟨i1, i2, i3⟩ := ih (by omega) (by omega)
        have f : (runR T R (o.take j)).free + oA T o j ≤ (runR T R (o.take (j + 1))).free := by
          rw [s2]; split <;> omega
        refine ⟨by omega, by omega, fun _ => ?_⟩
        by_cases hij : i = j
        · subst hij; exact f
        · have := i3 (by omega)
          omega
  refine ⟨rfl, rfl, fun j hj => ?_, fun j hj => ?_, fun j _ => hA j, fun j _ => hB j⟩
  · obtain ⟨s1, s2⟩ := st j hj
    show (runR T R (o.take (j + 1))).free = max ((runR T R (o.take j)).free + oA T o j) (runR T R (o.take (j - R))).last
    rw [s2]
    split
    · rename_i hR
      rw [run_secs (by omega) (j - R) (by omega)]
      have u := up (i := j - R) (j := j) (by omega) (by omega)
      by_cases hR0 : R = 0
      · subst hR0
        rw [Nat.sub_zero]
        omega
      · have := u.2.2 (by omega)
        have a := hA j
        omega
    · rename_i hR
      rw [show j - R = 0 by omega]
      have u := (up (i := 0) (j := j) (by omega) (by omega)).1
      have z1 : (runR T R (o.take 0)).free = 0 := rfl
      have z2 : (runR T R (o.take 0)).last = 0 := rfl
      have a := hA j
      omega
  · obtain ⟨s1, s2⟩ := st j hj
    show (runR T R (o.take (j + 1))).last = max (runR T R (o.take (j + 1))).free (runR T R (o.take j)).last + oB T o j
    rw [s1, s2]
    split
    · rename_i hR
      rw [run_secs (by omega) (j - R) (by omega)]
      have u := up (i := j - R) (j := j) (by omega) (by omega)
      by_cases hR0 : R = 0
      · subst hR0
        rw [Nat.sub_zero]
        omega
      · have := u.2.2 (by omega)
        have a := hA j
        omega
    · omega
theorem time_runs {T : Tw} {R : Nat} {o : List Int} (hb : TB T) : ∃ L E, Runs (oA T o) (oB T o) R o.length L E ∧ timeR T R o = E o.length :=
  ⟨_, _, runs_of hb, by simp only [List.take_length]; rfl⟩
end Go.Ab
