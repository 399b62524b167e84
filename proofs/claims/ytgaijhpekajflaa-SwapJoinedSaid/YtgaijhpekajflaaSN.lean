/- Submasks, counts and the list of the most groups: plain. -/
import Derived.Test.YtgaijhpekajflaaSL
set_option linter.unusedVariables false
set_option linter.unusedSimpArgs false
set_option maxHeartbeats 4000000
set_option maxRecDepth 100000
namespace Go.Ab
open Go Go.Proofs

theorem and_le_mono : ∀ (q s p : Nat), Sub q s → Sub p s → q < p → q ≤ (p - 1) &&& s := by
  intro q
  induction q using Nat.strongRecOn with
  | _ q ih =>
    intro s p hq hp hlt
    have half : ∀ {a b : Nat}, Sub a b → Sub (a / 2) (b / 2) := fun {a b} h => by
      unfold Sub at h ⊢
      rw [← Nat.and_div_two, h]
    have zero : ∀ {a b : Nat}, Sub a b → a % 2 ≤ b % 2 := fun {a b} h => by
      have := sub_iff.1 h 0
      rw [Nat.testBit_zero, Nat.testBit_zero] at this
      simp at this
      omega
    by_cases hodd : p % 2 = 1
    · have e : (p - 1) &&& s = p - 1 := by
        refine sub_iff.2 fun i hi => ?_
        refine sub_iff.1 hp i ?_
        cases i with
        | zero =>
          rw [Nat.testBit_zero] at hi ⊢
          simp at hi
          omega
        | succ i =>
          rw [Nat.testBit_succ] at hi ⊢
          rw [show (p - 1) / 2 = p / 2 by omega] at hi
          exact hi
      omega
    · by_cases hq0 : q = 0
      · omega
      have h1 := ih (q / 2) (by omega) (s / 2) (p / 2) (half hq) (half hp) (by omega)
      have e1 : ((p - 1) &&& s) / 2 = (p / 2 - 1) &&& (s / 2) := by
        rw [Nat.and_div_two, show (p - 1) / 2 = p / 2 - 1 by omega]
      have e2 : ((p - 1) &&& s) % 2 = s % 2 := by
        have := Nat.testBit_and (p - 1) s 0
        rw [Nat.testBit_zero, Nat.testBit_zero, Nat.testBit_zero] at this
        have hp1 : (p - 1) % 2 = 1 := by omega
        have m2 := Nat.mod_two_eq_zero_or_one s
        have m3 := Nat.mod_two_eq_zero_or_one ((p - 1) &&& s)
        rcases m2 with m2 | m2 <;> rcases m3 with m3 | m3 <;> simp_all
      have := zero hq
      omega
theorem next_sub {p s : Nat} : Sub ((p - 1) &&& s) s := sub_iff.2 fun i hi => by rw [Nat.testBit_and, Bool.and_eq_true] at hi; exact hi.2
theorem next_lt {p s : Nat} (h : 0 < p) : (p - 1) &&& s < p := by
  have : (p - 1) &&& s ≤ p - 1 := Nat.and_le_left
  omega
theorem low_neg : ∀ s : Fin 1024, s.val ≠ 0 → bitop .and .i64 (s.val : Int) (-(s.val : Int)) = ((2 ^ low s.val : Nat) : Int) := by decide +kernel
theorem low_neg' {s : Nat} (hs : s < 1024) (h : s ≠ 0) : bitop .and .i64 (s : Int) (-(s : Int)) = ((2 ^ low s : Nat) : Int) := low_neg ⟨s, hs⟩ h
theorem and_two {p i : Nat} : (p &&& 2 ^ i = 0) ↔ p.testBit i = false := by
  rw [dis_bit]
  constructor
  · intro h
    cases hb : p.testBit i with
    | false => rfl
    | true => exact absurd ⟨hb, Nat.testBit_two_pow_self⟩ (h i)
  · rintro h j ⟨x, y⟩
    rw [Nat.testBit_two_pow] at y
    simp at y
    subst y
    rw [h] at x
    cases x

/-! ### The list of the most groups, as it is made -/
/-- What is found among the parts above p. -/
structure Found (ev : Nat → Bool) (L : List Int) (s p : Nat) (b : Int) : Prop where
  lo : -1 ≤ b
  up : ∀ q, ValidM ev L s q → p < q → 1 + gL L (s - q) ≤ b
  at_ : b = -1 ∨ ∃ q, ValidM ev L s q ∧ b = 1 + gL L (s - q)
theorem Found.start {ev L s} : Found ev L s s (-1) := ⟨by omega, fun q hq h => by have := hq.sub.le; omega, .inl rfl⟩
theorem Found.skip {ev L s p b} (h : Found ev L s p b) (hp : Sub p s) (hv : ¬ ValidM ev L s p) : Found ev L s ((p - 1) &&& s) b := by
  refine ⟨h.lo, fun q hq hlt => ?_, h.at_⟩
  rcases Nat.lt_trichotomy q p with h1 | h1 | h1
  · have := and_le_mono q s p hq.sub hp h1; omega
  · subst h1; exact absurd hq hv
  · exact h.up q hq h1
theorem Found.take {ev L s p b} (h : Found ev L s p b) (hp : Sub p s) (hv : ValidM ev L s p) : Found ev L s ((p - 1) &&& s) (max b (1 + gL L (s - p))) := by
  refine ⟨by have := h.lo; omega, fun q hq hlt => ?_, ?_⟩
  · rcases Nat.lt_trichotomy q p with h1 | h1 | h1
    · have := and_le_mono q s p hq.sub hp h1; omega
    · subst h1; omega
    · have := h.up q hq h1; omega
  · rcases Int.le_total b (1 + gL L (s - p)) with h1 | h1
    · rw [Int.max_eq_right h1]; exact .inr ⟨p, hv, rfl⟩
    · rw [Int.max_eq_left h1]; exact h.at_
theorem Found.done {ev L s b} (h : Found ev L s 0 b) : IsBest ev L s b := ⟨fun q hq => h.up q hq (by have := hq.nz; omega), h.at_⟩
structure MostTo (ev : Nat → Bool) (L : List Int) : Prop where
  zero : gL L 0 = 0
  b : ∀ x ∈ L, -1 ≤ x ∧ x < L.length
  best : ∀ s, 1 ≤ s → s < L.length → IsBest ev L s (gL L s)
theorem IsBest.congr {ev L L' s b} (h : IsBest ev L s b) (he : ∀ i, i < s → gL L i = gL L' i) : IsBest ev L' s b := by
  have key : ∀ q, q ≠ 0 → Sub q s → gL L (s - q) = gL L' (s - q) := fun q h1 h2 => he _ (by have := h2.le; omega)
  refine ⟨fun q hq => ?_, ?_⟩
  · have := h.up q ⟨hq.nz, hq.sub, hq.first, hq.even, by rw [key q hq.nz hq.sub]; exact hq.rest⟩
    rw [key q hq.nz hq.sub] at this
    exact this
  · rcases h.at_ with e | ⟨q, hq, e⟩
    · exact .inl e
    · exact .inr ⟨q, ⟨hq.nz, hq.sub, hq.first, hq.even, by rw [← key q hq.nz hq.sub]; exact hq.rest⟩, by rw [e, key q hq.nz hq.sub]⟩
theorem MostTo.nil {ev} : MostTo ev [0] := ⟨rfl, by simp, fun s h1 h2 => by simp at h2; omega⟩
theorem MostTo.push {ev L b} (h : MostTo ev L) (h0 : 1 ≤ L.length) (hb : IsBest ev L L.length b) (hb2 : -1 ≤ b ∧ b ≤ L.length) : MostTo ev (L ++ [b]) := by
  have hl : ∀ i, i < L.length → gL (L ++ [b]) i = gL L i := fun i hi => gd_l hi
  refine ⟨by rw [hl 0 (by omega)]; exact h.zero, fun x hx => ?_, fun s h1 h2 => ?_⟩
  · rw [List.length_append, List.length_singleton]
    rcases List.mem_append.1 hx with hx | hx
    · have := h.b x hx; omega
    · simp at hx; subst hx; omega
  · rw [List.length_append, List.length_singleton] at h2
    by_cases hs : s = L.length
    · subst hs
      have e : gL (L ++ [b]) L.length = b := gd_r
      rw [e]
      exact hb.congr fun i hi => (hl i hi).symm
    · rw [hl s (by omega)]
      exact (h.best s h1 (by omega)).congr fun i hi => (hl i (by omega)).symm
theorem gd_up {L : List Int} {B : Int} (hB : 0 ≤ B) (h : ∀ x ∈ L, x ≤ B) (s : Nat) : gL L s ≤ B := by
  unfold gL
  rw [List.getD_eq_getElem?_getD]
  cases hx : L[s]? with
  | none => simp; exact hB
  | some x => exact h x (List.mem_of_getElem? hx)
theorem Found.b {ev L s p b} (h : Found ev L s p b) (hm : MostTo ev L) (hs : 0 < L.length) : -1 ≤ b ∧ b ≤ L.length := by
  refine ⟨h.lo, ?_⟩
  rcases h.at_ with e | ⟨q, -, e⟩
  · omega
  · have := gd_up (L := L) (B := (L.length : Int) - 1) (by omega) (fun x hx => by have := (hm.b x hx).2; omega) (s - q)
    omega
theorem MostTo.done {ev L W} (h : MostTo ev L) (hl : L.length = W) : IsMost ev W L := ⟨hl, h.zero, fun s h1 h2 => h.best s h1 (by omega)⟩
open Classical in
theorem best_ex {ev L s} (hm : MostTo ev L) (h0 : 0 < L.length) : ∀ p b, Found ev L s p b → Sub p s → ∃ b', IsBest ev L s b' ∧ -1 ≤ b' ∧ b' ≤ L.length := by
  intro p
  induction p using Nat.strongRecOn with
  | _ p ih =>
    intro b h hp
    by_cases hz : p = 0
    · subst hz; exact ⟨b, h.done, h.b hm h0⟩
    by_cases hv : ValidM ev L s p
    · exact ih _ (next_lt (by omega)) _ (h.take hp hv) next_sub
    · exact ih _ (next_lt (by omega)) _ (h.skip hp hv) next_sub
theorem most_to {ev} : ∀ k, ∃ L, MostTo ev L ∧ L.length = k + 1
  | 0 => ⟨[0], MostTo.nil, rfl⟩
  | k + 1 => by
    obtain ⟨L, h, hl⟩ := most_to (ev := ev) k
    obtain ⟨b, hb, hb2⟩ := best_ex (s := L.length) h (by omega) L.length (-1) Found.start (Nat.and_self _)
    exact ⟨L ++ [b], h.push (by omega) hb hb2, by simp [hl]⟩
theorem most_ex {ev W} (hW : 1 ≤ W) : ∃ L, IsMost ev W L ∧ ∀ x ∈ L, -1 ≤ x ∧ x < W := by
  obtain ⟨L, h, hl⟩ := most_to (ev := ev) (W - 1)
  refine ⟨L, h.done (by omega), fun x hx => ?_⟩
  have := h.b x hx
  omega
/-- The even sets as numbers. -/
def evL (ev : Nat → Bool) (k : Nat) : List Int := (List.range k).map fun s => if ev s then 1 else 0
theorem evL_succ {ev k} : evL ev (k + 1) = evL ev k ++ [if ev k then 1 else 0] := by simp [evL, List.range_succ]
@[simp] theorem evL_len {ev k} : (evL ev k).length = k := by simp [evL]
theorem evL_at {ev k s} {h : s < (evL ev k).length} : (evL ev k)[s] = if ev s then 1 else 0 := by simp [evL]
theorem evL_get {ev k s} (h : s < k) : (evL ev k)[s]? = some (if ev s then 1 else 0) := by simp [evL, h]

/-! ### Counts -/
def cnt (N s : Nat) : Int := sumF (fun _ => 1) s N
theorem cnt_b {N s : Nat} : ∀ {m : Nat}, 0 ≤ sumF (fun _ => 1) s m ∧ sumF (fun _ => 1) s m ≤ m
  | 0 => by simp [sumF]
  | m + 1 => by
    have := cnt_b (N := N) (s := s) (m := m)
    simp only [sumF]
    split <;> omega
theorem sumF_drop {F : Nat → Int} {s i m : Nat} (hi : i < m) (hb : s.testBit i = true) : sumF F s m = sumF F (drop1 s i) m + F i := by
  have h1 : Sub (drop1 s i) s := drop1_sub
  have e : ∀ m, sumF F s m = sumF F (drop1 s i) m + (if i < m then F i else 0) := by
    intro m
    induction m with
    | zero => simp [sumF]
    | succ m ih =>
      simp only [sumF, drop1_bit]
      rw [ih]
      by_cases him : i = m
      · subst him
        simp [hb]
      · by_cases hlt : i < m
        · have : i < m + 1 := by omega
          simp [him, hlt, this]
          cases s.testBit m <;> simp <;> omega
        · have : ¬ i < m + 1 := by omega
          simp [him, hlt, this]
  have := e m
  rw [if_pos hi] at this
  exact this
theorem prP_cnt {F : Nat → Int} {N : Nat} : ∀ s, s < 2 ^ N → prP F N s ≤ cnt N s := by
  intro s
  induction s using Nat.strongRecOn with
  | _ s ih =>
    intro hs
    by_cases hz : s = 0
    · subst hz; rw [prP_zero]; exact (cnt_b (N := N)).1
    obtain ⟨i, hi, e⟩ := prP_at (F := F) hs hz
    have hlt := drop1_lt hi
    have h1 := ih _ hlt (by omega)
    have h2 := sumF_drop (F := fun _ => 1) (bit_lt hs hi) hi
    unfold cnt at *
    split at e <;> omega
theorem prP_le {F : Nat → Int} {N : Nat} {s : Nat} (hs : s < 2 ^ N) : prP F N s ≤ N := by
  have h1 := prP_cnt (F := F) s hs
  have h2 := (cnt_b (N := N) (s := s) (m := N)).2
  unfold cnt at h1
  omega
end Go.Ab
