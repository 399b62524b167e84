/- Waves: plain. -/
import Derived.Test.YtgndegccjhdmmaaGreatJM
set_option linter.unusedVariables false
set_option linter.unusedSimpArgs false
set_option maxHeartbeats 4000000
set_option maxRecDepth 100000
namespace Go.Ab
open Go Go.Proofs

theorem less_zero {b g : Nat} : less b g = 0 ↔ ∀ j, b.testBit j = true → g.testBit j = true := by
  constructor
  · intro h j hb
    have := less_bit (a := b) (b := g) (i := j)
    rw [h, Nat.zero_testBit, hb] at this
    cases hg : g.testBit j with
    | true => rfl
    | false => rw [hg] at this; cases this
  · intro h
    apply Nat.eq_of_testBit_eq
    intro j
    rw [less_bit, Nat.zero_testBit]
    cases hb : b.testBit j with
    | false => rfl
    | true => rw [h j hb]; rfl
theorem and_ne {b g : Nat} : b &&& g ≠ 0 ↔ ∃ j, b.testBit j = true ∧ g.testBit j = true := by
  constructor
  · intro h
    false_or_by_contra
    rename_i hno
    refine h (Nat.eq_of_testBit_eq fun j => ?_)
    rw [Nat.testBit_and, Nat.zero_testBit]
    cases hb : b.testBit j with
    | false => rfl
    | true => cases hg : g.testBit j with
      | false => rfl
      | true => exact absurd ⟨j, hb, hg⟩ hno
  · rintro ⟨j, hb, hg⟩ h
    have := Nat.testBit_and b g j
    rw [h, Nat.zero_testBit, hb, hg] at this
    cases this
theorem setB_bit {l : List Int} (h : ∀ x ∈ l, 0 ≤ x) {j : Nat} : (setB l).testBit j = true ↔ (j : Int) ∈ l := by
  have : ∀ (l : List Int) (s : Nat), (∀ x ∈ l, 0 ≤ x) → ((l.foldl (fun s x => s ||| 2 ^ x.toNat) s).testBit j = true ↔ s.testBit j = true ∨ (j : Int) ∈ l) := by
    intro l
    induction l with
    | nil => intro s _; simp
    | cons x l ih =>
      intro s hx
      have h0 := hx x (List.mem_cons_self ..)
      rw [List.foldl_cons, ih _ (fun y hy => hx y (List.mem_cons_of_mem _ hy)), Nat.testBit_or, Bool.or_eq_true, Nat.testBit_two_pow, decide_eq_true_eq, List.mem_cons]
      constructor
      · rintro ((h1 | h1) | h1)
        · exact .inl h1
        · exact .inr (.inl (by omega))
        · exact .inr (.inr h1)
      · rintro (h1 | h1 | h1)
        · exact .inl (.inl h1)
        · exact .inl (.inr (by omega))
        · exact .inr h1
  rw [setB, this l 0 h]
  simp

section
variable {J : List Lg} {B : List Nat} {s : Nat}
theorem gk_step {r j : Nat} : (gk J B s (r + 1)).testBit j = ((gk J B s r).testBit j || (decide (j < J.length) && frB J B j (gk J B s r))) := newTo_bit
theorem gk_up {r j : Nat} (h : (gk J B s r).testBit j = true) : ∀ {d}, (gk J B s (r + d)).testBit j = true
  | 0 => h
  | d + 1 => by
    rw [show r + (d + 1) = r + d + 1 by omega, gk_step, gk_up h (d := d)]
    rfl
theorem frB_mono {g g' n : Nat} (h : ∀ j, g.testBit j = true → g'.testBit j = true) (hf : frB J B n g = true) : frB J B n g' = true := by
  unfold frB at hf ⊢
  by_cases hk : kd J n = 0
  · rw [if_pos hk, decide_eq_true_eq] at hf ⊢
    rw [less_zero] at hf ⊢
    exact fun j hj => h j (hf j hj)
  · rw [if_neg hk, decide_eq_true_eq] at hf ⊢
    rw [and_ne] at hf ⊢
    obtain ⟨j, h1, h2⟩ := hf
    exact ⟨j, h1, h j h2⟩
theorem in_gk {i : Nat} (hi : i < J.length) (hk : s.testBit i = false) : ∀ r, (gk J B s (r + 1)).testBit i = frB J B i (gk J B s r)
  | 0 => by
    rw [gk_step]
    have : gk J B s 0 = s := rfl
    rw [this, hk]
    simp [hi]
  | r + 1 => by
    have ih := in_gk hi hk r
    rw [gk_step]
    cases hf : frB J B i (gk J B s (r + 1)) with
    | true => simp [hi]
    | false =>
      cases hg : (gk J B s (r + 1)).testBit i with
      | false => simp
      | true =>
        rw [hg] at ih
        have := frB_mono (g' := gk J B s (r + 1)) (fun j hj => gk_up hj (d := 1)) ih.symm
        rw [hf] at this; cases this
theorem wr_in {j : Nat} (hj : j < J.length) : ∀ r r' : Nat, r' ≤ r → ((0 ≤ wr J B s r j ∧ wr J B s r j ≤ r') ↔ (gk J B s r').testBit j = true)
  | 0, r', h => by
    have : r' = 0 := by omega
    subst this
    simp only [wr, gk]
    cases hk : s.testBit j <;> simp [hj]
  | r + 1, r', h => by
    have ih := wr_in hj r
    have hb := wr_b (J := J) (B := B) (keys := s) (r := r) (n := j)
    have hst := gk_step (J := J) (B := B) (s := s) (r := r) (j := j)
    rw [wr_step]
    by_cases hc : j < J.length ∧ (!(gk J B s r).testBit j && frB J B j (gk J B s r)) = true
    · rw [if_pos hc]
      obtain ⟨-, h2⟩ := hc
      simp at h2
      by_cases he : r' = r + 1
      · subst he
        rw [hst, h2.2]
        simp [hj]
        omega
      · constructor
        · intro h3; omega
        · intro h3
          have := gk_up h3 (d := r - r')
          rw [show r' + (r - r') = r by omega, h2.1] at this
          cases this
    · rw [if_neg hc]
      by_cases he : r' = r + 1
      · subst he
        have hnew : (gk J B s (r + 1)).testBit j = (gk J B s r).testBit j := by
          rw [hst]
          cases hg : (gk J B s r).testBit j with
          | true => rfl
          | false =>
            cases hf : frB J B j (gk J B s r) with
            | false => simp
            | true => exact absurd ⟨hj, by rw [hg, hf]; rfl⟩ hc
        rw [hnew, ← ih r (Nat.le_refl _)]
        omega
      · exact ih r' (by omega)
theorem gk_move {r : Nat} : gk J B s (r + 1) = gk J B s r ∨ cntN (gk J B s (r + 1)) J.length < cntN (gk J B s r) J.length := by
  by_cases h : ∃ n, n < J.length ∧ (!(gk J B s r).testBit n && frB J B n (gk J B s r)) = true
  · obtain ⟨n, h1, h2⟩ := h
    refine .inr (cntN_lt (fun j hj => gk_up hj (d := 1)) ⟨n, h1, ?_, ?_⟩)
    · simp at h2; exact h2.1
    · rw [gk_step]
      simp at h2
      simp [h1, h2]
  · refine .inl (gk_done fun n hn => ?_)
    cases hc : (!(gk J B s r).testBit n && frB J B n (gk J B s r)) with
    | false => rfl
    | true => exact absurd ⟨n, hn, hc⟩ h
theorem gk_stable : gk J B s (J.length + 1) = gk J B s J.length := by
  have : ∀ r, gk J B s (r + 1) = gk J B s r ∨ cntN (gk J B s (r + 1)) J.length + (r + 1) ≤ J.length := by
    intro r
    induction r with
    | zero =>
      rcases gk_move (J := J) (B := B) (s := s) (r := 0) with h | h
      · exact .inl h
      · have := cntN_le (s := gk J B s 0) (n := J.length)
        exact .inr (by omega)
    | succ r ih =>
      rcases ih with ih | ih
      · exact .inl (by
          have := gk_same ih 1
          have h2 := gk_same ih 2
          rw [show r + 1 + 1 = r + 2 from rfl, h2, this])
      · rcases gk_move (J := J) (B := B) (s := s) (r := r + 1) with h | h
        · exact .inl h
        · exact .inr (by omega)
  rcases this J.length with h | h
  · exact h
  · omega
/-- Which logs are gone in a wave, by their waves. -/
theorem wave_in {j : Nat} (hj : j < J.length) (r : Nat) : (0 ≤ wr J B s J.length j ∧ wr J B s J.length j ≤ r) ↔ (gk J B s r).testBit j = true := by
  by_cases h : r ≤ J.length
  · exact wr_in hj _ r h
  · have hb := wr_b (J := J) (B := B) (keys := s) (r := J.length) (n := j)
    have := gk_same gk_stable (r - J.length) (J := J) (B := B) (keys := s)
    rw [show J.length + (r - J.length) = r by omega] at this
    rw [this, ← wr_in hj _ J.length (Nat.le_refl _)]
    omega
theorem wave_key {j : Nat} (hj : j < J.length) (hk : s.testBit j = true) : wr J B s J.length j = 0 := by
  have := (wave_in (J := J) (B := B) (s := s) hj 0).2 hk
  omega
theorem wave_no {j : Nat} (hj : j < J.length) (hk : s.testBit j = false) : wr J B s J.length j = -1 ∨ 1 ≤ wr J B s J.length j := by
  have hb := wr_b (J := J) (B := B) (keys := s) (r := J.length) (n := j)
  by_cases h : wr J B s J.length j = 0
  · have := (wave_in (J := J) (B := B) (s := s) hj 0).1 (by omega)
    have e : gk J B s 0 = s := rfl
    rw [e, hk] at this
    cases this
  · omega
theorem wave_fr {j : Nat} (hj : j < J.length) (hk : s.testBit j = false) (r : Nat) : (0 ≤ wr J B s J.length j ∧ wr J B s J.length j ≤ r + 1) ↔ frB J B j (gk J B s r) = true := by
  have := wave_in (J := J) (B := B) (s := s) hj (r + 1)
  rw [in_gk hj hk] at this
  rw [← this]
  constructor <;> (intro h; omega)
end
theorem same_wave {x y : Int} (hx : x = -1 ∨ 1 ≤ x) (hy : y = -1 ∨ 1 ≤ y) (h : ∀ r : Nat, (0 ≤ x ∧ x ≤ r + 1) ↔ (0 ≤ y ∧ y ≤ r + 1)) : x = y := by
  rcases hx with hx | hx <;> rcases hy with hy | hy
  · omega
  · have := (h (y - 1).toNat).2 (by omega); omega
  · have := (h (x - 1).toNat).1 (by omega); omega
  · have h1 := (h (y - 1).toNat).2 (by omega)
    have h2 := (h (x - 1).toNat).1 (by omega)
    omega
/-- The wave of a log by those that hold it. -/
def wantA (w : Int → Int) (a b : Int) : Int := if 0 ≤ a then (if w b < 0 then -1 else max a (w b + 1)) else a
def wantS (w : Int → Int) (a b : Int) : Int := if 0 ≤ w b ∧ (a < 0 ∨ w b + 1 < a) then w b + 1 else a
theorem wantA_spec {w : Int → Int} : ∀ {l : List Int} {a : Int}, (a = -1 ∨ 1 ≤ a) → (∀ b ∈ l, -1 ≤ w b) → (l.foldl (wantA w) a = -1 ∨ 1 ≤ l.foldl (wantA w) a) ∧ ∀ r : Nat, (0 ≤ l.foldl (wantA w) a ∧ l.foldl (wantA w) a ≤ r + 1) ↔ ((0 ≤ a ∧ a ≤ r + 1) ∧ ∀ b ∈ l, 0 ≤ w b ∧ w b ≤ r)
  | [], a, h, _ => ⟨h, fun r => by simp⟩
  | b :: l, a, h, hw => by
    have hb := hw b (List.mem_cons_self ..)
    have hs : wantA w a b = -1 ∨ 1 ≤ wantA w a b := by unfold wantA; split <;> (try split) <;> omega
    obtain ⟨h1, h2⟩ := wantA_spec (l := l) hs (fun x hx => hw x (List.mem_cons_of_mem _ hx))
    refine ⟨h1, fun r => ?_⟩
    rw [List.foldl_cons, h2 r]
    have e : (0 ≤ wantA w a b ∧ wantA w a b ≤ r + 1) ↔ (0 ≤ a ∧ a ≤ r + 1) ∧ 0 ≤ w b ∧ w b ≤ r := by unfold wantA; split <;> (try split) <;> omega
    rw [e]
    simp only [List.mem_cons, forall_eq_or_imp, and_assoc]
theorem wantS_spec {w : Int → Int} : ∀ {l : List Int} {a : Int}, (a = -1 ∨ 1 ≤ a) → (l.foldl (wantS w) a = -1 ∨ 1 ≤ l.foldl (wantS w) a) ∧ ∀ r : Nat, (0 ≤ l.foldl (wantS w) a ∧ l.foldl (wantS w) a ≤ r + 1) ↔ ((0 ≤ a ∧ a ≤ r + 1) ∨ ∃ b ∈ l, 0 ≤ w b ∧ w b ≤ r)
  | [], a, h => ⟨h, fun r => by simp⟩
  | b :: l, a, h => by
    have hs : wantS w a b = -1 ∨ 1 ≤ wantS w a b := by unfold wantS; split <;> omega
    obtain ⟨h1, h2⟩ := wantS_spec (l := l) hs
    refine ⟨h1, fun r => ?_⟩
    rw [List.foldl_cons, h2 r]
    have e : (0 ≤ wantS w a b ∧ wantS w a b ≤ r + 1) ↔ (0 ≤ a ∧ a ≤ r + 1) ∨ (0 ≤ w b ∧ w b ≤ r) := by unfold wantS; split <;> omega
    rw [e]
    simp only [List.mem_cons, exists_eq_or_imp, or_assoc]
/-- The wave of a log. -/
def want (J : List Lg) (w : Int → Int) (i : Nat) : Int := if kd J i = 0 then (J.getD i (0, [], true)).2.1.foldl (wantA w) 1 else (J.getD i (0, [], true)).2.1.foldl (wantS w) (-1)
theorem wave_want {J : List Lg} {s i : Nat} (hJ : JOK J) (hok : ∀ p ∈ J, isL J.length p.2.1 = true) (hi : i < J.length) (hk : s.testBit i = false) : wr J (byB J) s J.length i = want J (fun b => wr J (byB J) s J.length b.toNat) i := by
  obtain ⟨p, hp⟩ : ∃ p, J[i]? = some p := ⟨_, List.getElem?_eq_getElem hi⟩
  have hg : J.getD i (0, [], true) = p := by rw [List.getD_eq_getElem?_getD, hp]; rfl
  have hB : (byB J).getD i 0 = setB p.2.1 := by
    unfold byB
    rw [List.getD_eq_getElem?_getD, List.getElem?_map, hp]; rfl
  have hm := isLF_mem (hok p (List.mem_of_getElem? hp))
  have hbit := fun j => setB_bit (l := p.2.1) (fun x hx => (hm x hx).1) (j := j)
  have hin : ∀ (r : Nat) (b : Int), b ∈ p.2.1 → ((0 ≤ wr J (byB J) s J.length b.toNat ∧ wr J (byB J) s J.length b.toNat ≤ r) ↔ (gk J (byB J) s r).testBit b.toNat = true) := fun r b hb => wave_in (by have := hm b hb; omega) r
  have hfr : ∀ r, frB J (byB J) i (gk J (byB J) s r) = if kd J i = 0 then decide (less (setB p.2.1) (gk J (byB J) s r) = 0) else decide (setB p.2.1 &&& gk J (byB J) s r ≠ 0) := fun r => by unfold frB; rw [hB]
  unfold want
  rw [hg]
  by_cases h0 : kd J i = 0
  · rw [if_pos h0]
    obtain ⟨h1, h2⟩ := wantA_spec (w := fun b => wr J (byB J) s J.length b.toNat) (l := p.2.1) (a := 1) (.inr (by omega)) (fun b _ => wr_b.1)
    refine same_wave (wave_no hi hk) h1 fun r => ?_
    rw [wave_fr hi hk, h2 r, hfr, if_pos h0, decide_eq_true_eq, less_zero]
    constructor
    · intro h
      refine ⟨by omega, fun b hb => (hin r b hb).2 (h _ ((hbit _).2 ?_))⟩
      have := hm b hb
      rw [show ((b.toNat : Nat) : Int) = b by omega]
      exact hb
    · rintro ⟨-, h⟩ j hj
      have := (hin r _ ((hbit j).1 hj)).1 (h _ ((hbit j).1 hj))
      rwa [Int.toNat_natCast] at this
  · rw [if_neg h0]
    obtain ⟨h1, h2⟩ := wantS_spec (w := fun b => wr J (byB J) s J.length b.toNat) (l := p.2.1) (a := -1) (.inl rfl)
    refine same_wave (wave_no hi hk) h1 fun r => ?_
    rw [wave_fr hi hk, h2 r, hfr, if_neg h0, decide_eq_true_eq, and_ne]
    constructor
    · rintro ⟨j, h3, h4⟩
      have hj := (hbit j).1 h3
      exact .inr ⟨j, hj, (hin r _ hj).2 (by rw [Int.toNat_natCast]; exact h4)⟩
    · rintro (h3 | ⟨b, hb, h3⟩)
      · omega
      · have h4 := (hin r b hb).1 h3
        have := hm b hb
        refine ⟨b.toNat, (hbit _).2 ?_, h4⟩
        rw [show ((b.toNat : Nat) : Int) = b by omega]
        exact hb
end Go.Ab
