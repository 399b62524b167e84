/- Groups and prices: plain. -/
import Derived.Test.YtgaijhpekajflaaSJ
set_option linter.unusedVariables false
set_option linter.unusedSimpArgs false
set_option maxHeartbeats 4000000
set_option maxRecDepth 100000
namespace Go.Ab
open Go Go.Proofs

/-! ### Sets -/
theorem or_add : ∀ {a b : Nat}, a &&& b = 0 → a ||| b = a + b := by
  intro a
  induction a using Nat.strongRecOn with
  | _ a ih =>
    intro b h
    by_cases ha : a = 0
    · subst ha; simp
    have h2 : a / 2 &&& b / 2 = 0 := by rw [← Nat.and_div_two, h]
    have h3 := ih (a / 2) (by omega) h2
    have e1 : (a ||| b) / 2 = a / 2 ||| b / 2 := Nat.or_div_two
    have h0 : ¬ (a % 2 = 1 ∧ b % 2 = 1) := by
      rintro ⟨x, y⟩
      have : (a &&& b).testBit 0 = true := by rw [Nat.testBit_and, Nat.testBit_zero, Nat.testBit_zero]; simp [x, y]
      rw [h] at this
      simp at this
    have e2 : (a ||| b) % 2 = a % 2 + b % 2 := by
      have : ((a ||| b).testBit 0) = (a.testBit 0 || b.testBit 0) := Nat.testBit_or ..
      rw [Nat.testBit_zero, Nat.testBit_zero, Nat.testBit_zero] at this
      have m1 := Nat.mod_two_eq_zero_or_one a
      have m2 := Nat.mod_two_eq_zero_or_one b
      have m3 := Nat.mod_two_eq_zero_or_one (a ||| b)
      rcases m1 with m1 | m1 <;> rcases m2 with m2 | m2 <;> rcases m3 with m3 | m3 <;> simp_all
    omega
/-- Within. -/
def Sub (q s : Nat) : Prop := q &&& s = q
theorem sub_iff {q s : Nat} : Sub q s ↔ ∀ i, q.testBit i = true → s.testBit i = true := by
  unfold Sub
  constructor
  · intro h i hi
    have : (q &&& s).testBit i = true := by rw [h]; exact hi
    rw [Nat.testBit_and, Bool.and_eq_true] at this
    exact this.2
  · intro h
    apply Nat.eq_of_testBit_eq
    intro i
    rw [Nat.testBit_and]
    cases hq : q.testBit i with
    | false => rfl
    | true => rw [h i hq]; rfl
theorem Sub.le {q s : Nat} (h : Sub q s) : q ≤ s := by
  unfold Sub at h
  rw [← h]
  exact Nat.and_le_right
theorem less_dis {q s : Nat} : q &&& less s q = 0 := by
  apply Nat.eq_of_testBit_eq
  intro i
  rw [Nat.testBit_and, less_bit]
  simp
  cases q.testBit i <;> simp
theorem less_or {q s : Nat} (h : Sub q s) : q ||| less s q = s := by
  apply Nat.eq_of_testBit_eq
  intro i
  rw [Nat.testBit_or, less_bit]
  have := sub_iff.1 h i
  cases hq : q.testBit i with
  | false => simp
  | true => rw [this hq]; rfl
theorem less_sub {q s : Nat} (h : Sub q s) : less s q = s - q := by
  have h1 := less_or h
  rw [or_add less_dis] at h1
  omega
theorem dis_bit {a b : Nat} : a &&& b = 0 ↔ ∀ i, ¬ (a.testBit i = true ∧ b.testBit i = true) := by
  constructor
  · rintro h i ⟨x, y⟩
    have : (a &&& b).testBit i = true := by rw [Nat.testBit_and, x, y]; rfl
    rw [h] at this
    simp at this
  · intro h
    apply Nat.eq_of_testBit_eq
    intro i
    rw [Nat.testBit_and, Nat.zero_testBit]
    cases x : a.testBit i with
    | false => rfl
    | true => cases y : b.testBit i with
      | false => rfl
      | true => exact absurd ⟨x, y⟩ (h i)
theorem ne_bit {a : Nat} (h : a ≠ 0) : ∃ i, a.testBit i = true := Nat.exists_testBit_of_ne_zero h
theorem sumF_or {F : Nat → Int} {a b : Nat} (h : a &&& b = 0) : ∀ {m : Nat}, sumF F (a ||| b) m = sumF F a m + sumF F b m
  | 0 => rfl
  | m + 1 => by
    have ih := sumF_or (F := F) h (m := m)
    have hd := dis_bit.1 h m
    simp only [sumF, Nat.testBit_or, ih]
    cases x : a.testBit m <;> cases y : b.testBit m <;> simp_all <;> omega
theorem sumF_less {F : Nat → Int} {q s m : Nat} (h : Sub q s) : sumF F s m = sumF F q m + sumF F (less s q) m := by
  rw [← sumF_or less_dis, less_or h]
theorem sumF_none {F : Nat → Int} {m : Nat} : sumF F 0 m = 0 := by
  induction m with
  | zero => rfl
  | succ m ih => simp [sumF, ih]
/-- The least mill of a set. -/
def low (s : Nat) : Nat := ((List.range 10).find? fun i => s.testBit i).getD 0
theorem low_bit {s N : Nat} (hN : N ≤ 10) (hs : s < 2 ^ N) (h : s ≠ 0) : s.testBit (low s) = true ∧ ∀ i, s.testBit i = true → low s ≤ i := by
  obtain ⟨j, hj⟩ := ne_bit h
  have hj10 : j < 10 := by
    false_or_by_contra
    rename_i hn
    have : s < 2 ^ j := Nat.lt_of_lt_of_le hs (Nat.pow_le_pow_right (by omega) (by omega))
    rw [Nat.testBit_lt_two_pow this] at hj
    cases hj
  cases hf : (List.range 10).find? (fun i => s.testBit i) with
  | none =>
    rw [List.find?_eq_none] at hf
    exact absurd hj (hf j (List.mem_range.2 hj10))
  | some k =>
    have hk : low s = k := by unfold low; rw [hf]; rfl
    rw [hk]
    have h1 := List.find?_some hf
    refine ⟨h1, fun i hi => ?_⟩
    have h2 := (List.find?_range_eq_some.1 hf).2.2
    false_or_by_contra
    rename_i hn
    have := h2 i (by omega)
    rw [hi] at this
    simp at this
theorem low_lt {s N : Nat} (hN : N ≤ 10) (hs : s < 2 ^ N) (h : s ≠ 0) : low s < N := by
  have h1 := (low_bit hN hs h).1
  false_or_by_contra
  rename_i hn
  have : s < 2 ^ (low s) := Nat.lt_of_lt_of_le hs (Nat.pow_le_pow_right (by omega) (by omega))
  rw [Nat.testBit_lt_two_pow this] at h1
  cases h1

/-! ### Partings -/
def gL (L : List Int) (s : Nat) : Int := L.getD s 0
structure ValidM (ev : Nat → Bool) (L : List Int) (s q : Nat) : Prop where
  nz : q ≠ 0
  sub : Sub q s
  first : q.testBit (low s) = true
  even : ev q = true
  rest : 0 ≤ gL L (s - q)
structure IsBest (ev : Nat → Bool) (L : List Int) (s : Nat) (b : Int) : Prop where
  up : ∀ q, ValidM ev L s q → 1 + gL L (s - q) ≤ b
  at_ : b = -1 ∨ ∃ q, ValidM ev L s q ∧ b = 1 + gL L (s - q)
theorem IsBest.uniq {ev L s b b'} (h : IsBest ev L s b) (h' : IsBest ev L s b') : b = b' := by
  rcases h.at_ with e | ⟨q, hq, e⟩ <;> rcases h'.at_ with e' | ⟨q', hq', e'⟩
  · rw [e, e']
  · have := h.up q' hq'; have := hq'.rest; omega
  · have := h'.up q hq; have := hq.rest; omega
  · have := h.up q' hq'; have := h'.up q hq; omega
structure IsMost (ev : Nat → Bool) (W : Nat) (L : List Int) : Prop where
  len : L.length = W
  zero : gL L 0 = 0
  best : ∀ s, 1 ≤ s → s < W → IsBest ev L s (gL L s)
theorem IsMost.uniq {ev W L L'} (h : IsMost ev W L) (h' : IsMost ev W L') : L = L' := by
  have key : ∀ s, s < W → gL L s = gL L' s := by
    intro s
    induction s using Nat.strongRecOn with
    | _ s ih =>
      intro hs
      by_cases h0 : s = 0
      · subst h0; rw [h.zero, h'.zero]
      have b := h.best s (by omega) hs
      have b' := h'.best s (by omega) hs
      have hv : ∀ q, ValidM ev L s q → ValidM ev L' s q := fun q hq => ⟨hq.nz, hq.sub, hq.first, hq.even, by
        have := hq.sub.le
        have := hq.nz
        rw [← ih (s - q) (by omega) (by omega)]; exact hq.rest⟩
      have hv' : ∀ q, ValidM ev L' s q → ValidM ev L s q := fun q hq => ⟨hq.nz, hq.sub, hq.first, hq.even, by
        have := hq.sub.le
        have := hq.nz
        rw [ih (s - q) (by omega) (by omega)]; exact hq.rest⟩
      have he : ∀ q, ValidM ev L s q → gL L (s - q) = gL L' (s - q) := fun q hq => by
        have := hq.sub.le
        have := hq.nz
        exact ih (s - q) (by omega) (by omega)
      refine b.uniq ⟨fun q hq => ?_, ?_⟩
      · rw [he q hq]; exact b'.up q (hv q hq)
      · rcases b'.at_ with e | ⟨q, hq, e⟩
        · exact .inl e
        · exact .inr ⟨q, hv' q hq, by rw [he q (hv' q hq)]; exact e⟩
  apply List.ext_getElem?
  intro i
  by_cases hi : i < W
  · have := key i hi
    unfold gL at this
    rw [List.getD_eq_getElem?_getD, List.getD_eq_getElem?_getD, List.getElem?_eq_getElem (by rw [h.len]; exact hi), List.getElem?_eq_getElem (by rw [h'.len]; exact hi)] at this
    rw [List.getElem?_eq_getElem (by rw [h.len]; exact hi), List.getElem?_eq_getElem (by rw [h'.len]; exact hi)]
    exact congrArg some this
  · rw [List.getElem?_eq_none (by rw [h.len]; omega), List.getElem?_eq_none (by rw [h'.len]; omega)]

section
variable {F : Nat → Int} {N : Nat} {L : List Int}
theorem ev_iff {s : Nat} : evF F N s = true ↔ s ≠ 0 ∧ sumF F s N = 0 := by simp [evF]
theorem lt_or {a b : Nat} (ha : a < 2 ^ N) (hb : b < 2 ^ N) : a ||| b < 2 ^ N := Nat.or_lt_two_pow ha hb
theorem most_even (h : IsMost (evF F N) (2 ^ N) L) : ∀ s, s < 2 ^ N → 0 ≤ gL L s → sumF F s N = 0 := by
  intro s
  induction s using Nat.strongRecOn with
  | _ s ih =>
    intro hs h0
    by_cases hz : s = 0
    · subst hz; exact sumF_none
    rcases (h.best s (by omega) hs).at_ with e | ⟨q, hq, e⟩
    · omega
    · have := hq.sub.le
      have := hq.nz
      have h1 := ih (s - q) (by omega) (by omega) hq.rest
      rw [sumF_less hq.sub, less_sub hq.sub, h1, (ev_iff.1 hq.even).2]
      rfl
theorem sub_or_left {a b : Nat} : Sub a (a ||| b) := sub_iff.2 fun i h => by rw [Nat.testBit_or, h]; rfl
theorem sub_or_right {a b : Nat} : Sub b (a ||| b) := sub_iff.2 fun i h => by rw [Nat.testBit_or, h]; simp
/-- One more even set apart adds one. -/
theorem most_more (hN : N ≤ 10) (h : IsMost (evF F N) (2 ^ N) L) : ∀ e B, e < 2 ^ N → B < 2 ^ N → e &&& B = 0 → evF F N B = true → 0 ≤ gL L e → gL L e + 1 ≤ gL L (e ||| B) := by
  intro e
  induction e using Nat.strongRecOn with
  | _ e ih =>
    intro B he hB hd hev h0
    have hBz := (ev_iff.1 hev).1
    have hu := lt_or he hB
    have huz : e ||| B ≠ 0 := fun hz => hBz (by
      have : Sub B (e ||| B) := sub_or_right
      rw [hz] at this
      have := this.le
      omega)
    obtain ⟨l1, l2⟩ := low_bit hN hu huz
    have hb := h.best (e ||| B) (by omega) hu
    have hadd := or_add hd
    cases hB1 : B.testBit (low (e ||| B)) with
    | true =>
      have := hb.up B ⟨hBz, sub_or_right, hB1, hev, by rw [show (e ||| B) - B = e by omega]; exact h0⟩
      rw [show (e ||| B) - B = e by omega] at this
      omega
    | false =>
      have he1 : e.testBit (low (e ||| B)) = true := by
        rw [Nat.testBit_or, hB1, Bool.or_false] at l1; exact l1
      have hez : e ≠ 0 := fun hz => by rw [hz] at he1; simp at he1
      have hll : low e = low (e ||| B) := by
        obtain ⟨m1, m2⟩ := low_bit hN he hez
        have a := m2 _ he1
        have b := l2 (low e) (by rw [Nat.testBit_or, m1]; rfl)
        omega
      rcases (h.best e (by omega) he).at_ with e1 | ⟨q, hq, e1⟩
      · omega
      · have hql := hq.sub.le
        have hqz := hq.nz
        have hqs := less_sub hq.sub
        have hd2 : less e q &&& B = 0 := dis_bit.2 fun i ⟨x, y⟩ => by
          rw [less_bit, Bool.and_eq_true] at x
          exact dis_bit.1 hd i ⟨x.1, y⟩
        have ih2 := ih (e - q) (by omega) B (by omega) hB (by rw [← hqs]; exact hd2) hev hq.rest
        have hqu : Sub q (e ||| B) := sub_iff.2 fun i hi => by rw [Nat.testBit_or, sub_iff.1 hq.sub i hi]; rfl
        have hrest : (e ||| B) - q = (e - q) ||| B := by
          rw [← hqs, or_add hd2, hqs]
          omega
        have hr := hq.rest
        have := hb.up q ⟨hqz, hqu, by rw [← hll]; exact hq.first, hq.even, by rw [hrest]; omega⟩
        rw [hrest] at this
        omega

/-! ### Prices -/
def prP (F : Nat → Int) (N s : Nat) : Int := gL (prL (evF F N) N (2 ^ N)) s
theorem prL_take {ev : Nat → Bool} {k : Nat} : ∀ {j : Nat}, 1 ≤ k → ∀ s, s < k → gL (prL ev N (k + j)) s = gL (prL ev N k) s
  | 0, _, _, _ => rfl
  | j + 1, hk, s, hs => by
    rw [← prL_take (j := j) hk s hs, show k + (j + 1) = (k + j) + 1 by omega, prL_succ (by omega)]
    unfold gL
    exact gd_l (by simp; omega)
theorem mxP_eq {L L' : List Int} {s : Nat} : ∀ {m : Nat}, (∀ i, i < s → gL L i = gL L' i) → mxP L s m = mxP L' s m
  | 0, _ => rfl
  | m + 1, h => by
    simp only [mxP]
    split
    · rename_i hb
      rw [mxP_eq h]
      have := h _ (drop1_lt hb)
      unfold gL at this
      rw [this]
    · exact mxP_eq h
theorem prP_step {s : Nat} (h1 : 1 ≤ s) (hs : s < 2 ^ N) : prP F N s = mxP (prL (evF F N) N (2 ^ N)) s N + (if evF F N s then 1 else 0) := by
  have e : prP F N s = gL (prL (evF F N) N (s + 1)) s := by
    have := prL_take (N := N) (ev := evF F N) (k := s + 1) (j := 2 ^ N - (s + 1)) (by omega) s (by omega)
    rw [show s + 1 + (2 ^ N - (s + 1)) = 2 ^ N by omega] at this
    exact this
  rw [e, prL_succ h1]
  have e2 : gL (prL (evF F N) N s ++ [stepP (evF F N) N (prL (evF F N) N s) s]) s = stepP (evF F N) N (prL (evF F N) N s) s := by
    have := gd_r (l := prL (evF F N) N s) (x := stepP (evF F N) N (prL (evF F N) N s) s)
    rw [prL_len] at this
    exact this
  rw [e2]
  unfold stepP
  congr 1
  refine mxP_eq fun i hi => ?_
  have := prL_take (N := N) (ev := evF F N) (k := s) (j := 2 ^ N - s) h1 i hi
  rw [show s + (2 ^ N - s) = 2 ^ N by omega] at this
  exact this.symm
theorem prP_zero : prP F N 0 = 0 := by
  have hp := Nat.two_pow_pos N
  have := prL_take (N := N) (ev := evF F N) (k := 1) (j := 2 ^ N - 1) (by omega) 0 (by omega)
  rw [show 1 + (2 ^ N - 1) = 2 ^ N by omega] at this
  exact this
theorem gd_in {L : List Int} {B : Int} (hB : 0 ≤ B) (h : ∀ x ∈ L, 0 ≤ x ∧ x ≤ B) (s : Nat) : 0 ≤ gL L s ∧ gL L s ≤ B := by
  unfold gL
  rw [List.getD_eq_getElem?_getD]
  cases hx : L[s]? with
  | none => simp; exact hB
  | some x => exact h x (List.mem_of_getElem? hx)
theorem prP_nn {s : Nat} : 0 ≤ prP F N s := (gd_in (Int.natCast_nonneg _) (prL_b (2 ^ N)) s).1
theorem mxP_up {L : List Int} {s i : Nat} : ∀ {m : Nat}, i < m → s.testBit i = true → gL L (drop1 s i) ≤ mxP L s m
  | m + 1, hi, hb => by
    simp only [mxP]
    by_cases h : i = m
    · subst h
      rw [if_pos hb]
      exact Int.le_max_right ..
    · have := mxP_up (L := L) (show i < m by omega) hb
      split
      · exact Int.le_trans this (Int.le_max_left ..)
      · exact this
theorem mxP_at {L : List Int} {s : Nat} : ∀ {m : Nat}, mxP L s m = 0 ∨ ∃ i, i < m ∧ s.testBit i = true ∧ mxP L s m = gL L (drop1 s i)
  | 0 => .inl rfl
  | m + 1 => by
    simp only [mxP]
    rcases mxP_at (L := L) (s := s) (m := m) with h | ⟨i, h1, h2, h3⟩
    · split
      · rename_i hb
        by_cases hle : L.getD (drop1 s m) 0 ≤ mxP L s m
        · left; rw [Int.max_eq_left hle, h]
        · right; exact ⟨m, by omega, hb, by rw [Int.max_eq_right (by omega)]; rfl⟩
      · exact .inl h
    · split
      · rename_i hb
        by_cases hle : L.getD (drop1 s m) 0 ≤ mxP L s m
        · right; exact ⟨i, by omega, h2, by rw [Int.max_eq_left hle, h3]⟩
        · right; exact ⟨m, by omega, hb, by rw [Int.max_eq_right (by omega)]; rfl⟩
      · exact .inr ⟨i, by omega, h2, h3⟩
theorem bit_lt {s i : Nat} (hs : s < 2 ^ N) (h : s.testBit i = true) : i < N := by
  false_or_by_contra
  rename_i hn
  have : s < 2 ^ i := Nat.lt_of_lt_of_le hs (Nat.pow_le_pow_right (by omega) (by omega))
  rw [Nat.testBit_lt_two_pow this] at h
  cases h
theorem prP_up {s i : Nat} (hs : s < 2 ^ N) (hb : s.testBit i = true) : prP F N (drop1 s i) + (if evF F N s then 1 else 0) ≤ prP F N s := by
  have hz : s ≠ 0 := fun h => by rw [h] at hb; simp at hb
  rw [prP_step (by omega) hs]
  have := mxP_up (L := prL (evF F N) N (2 ^ N)) (bit_lt hs hb) hb
  have e : prP F N (drop1 s i) = gL (prL (evF F N) N (2 ^ N)) (drop1 s i) := rfl
  omega
theorem prP_at {s : Nat} (hs : s < 2 ^ N) (hz : s ≠ 0) : ∃ i, s.testBit i = true ∧ prP F N s = prP F N (drop1 s i) + (if evF F N s then 1 else 0) := by
  have hst := prP_step (F := F) (show 1 ≤ s by omega) hs
  rcases mxP_at (L := prL (evF F N) N (2 ^ N)) (s := s) (m := N) with h | ⟨i, h1, h2, h3⟩
  · obtain ⟨i, hi⟩ := ne_bit hz
    refine ⟨i, hi, ?_⟩
    have h4 := prP_up (F := F) hs hi
    have h5 := prP_nn (F := F) (N := N) (s := drop1 s i)
    omega
  · exact ⟨i, h2, by rw [hst, h3]; rfl⟩
theorem drop1_sub {s i : Nat} : Sub (drop1 s i) s := sub_iff.2 fun j h => by rw [drop1_bit, Bool.and_eq_true] at h; exact h.1
theorem drop1_or {A B i : Nat} (hA : A.testBit i = true) (hd : A &&& B = 0) : drop1 (A ||| B) i = drop1 A i ||| B := by
  apply Nat.eq_of_testBit_eq
  intro j
  rw [drop1_bit, Nat.testBit_or, Nat.testBit_or, drop1_bit]
  by_cases hij : i = j
  · subst hij
    have := dis_bit.1 hd i
    cases hB : B.testBit i with
    | true => exact absurd ⟨hA, hB⟩ this
    | false => simp
  · simp [hij]
/-- A set with one more even set apart has a price of one more. -/
theorem price_more : ∀ A B, A < 2 ^ N → B < 2 ^ N → A &&& B = 0 → evF F N B = true → prP F N A + 1 ≤ prP F N (A ||| B) := by
  intro A
  induction A using Nat.strongRecOn with
  | _ A ih =>
    intro B hA hB hd hev
    by_cases hz : A = 0
    · subst hz
      rw [prP_zero, Nat.zero_or]
      obtain ⟨i, -, e⟩ := prP_at (F := F) hB (ev_iff.1 hev).1
      rw [hev, if_pos rfl] at e
      have := prP_nn (F := F) (N := N) (s := drop1 B i)
      omega
    · obtain ⟨i, hi, e⟩ := prP_at (F := F) hA hz
      have hlt := drop1_lt hi
      have hd2 : drop1 A i &&& B = 0 := dis_bit.2 fun j ⟨x, y⟩ => dis_bit.1 hd j ⟨sub_iff.1 drop1_sub j x, y⟩
      have h1 := ih (drop1 A i) hlt B (by omega) hB hd2 hev
      have h2 := prP_up (F := F) (lt_or hA hB) (i := i) (by rw [Nat.testBit_or, hi]; rfl)
      rw [drop1_or hi hd] at h2
      have h3 : evF F N A = true → evF F N (A ||| B) = true := fun hA' => by
        rw [ev_iff] at hA' ⊢
        refine ⟨fun hz' => hz (by have := (sub_or_left (a := A) (b := B)).le; omega), ?_⟩
        rw [sumF_or hd, hA'.2, (ev_iff.1 hev).2]; rfl
      cases hA' : evF F N A with
      | true => rw [hA', if_pos rfl] at e; rw [h3 hA', if_pos rfl] at h2; omega
      | false =>
        rw [hA'] at e
        simp at e
        have : prP F N (drop1 A i ||| B) ≤ prP F N (A ||| B) := by split at h2 <;> omega
        omega
theorem most_le (h : IsMost (evF F N) (2 ^ N) L) : ∀ s, s < 2 ^ N → gL L s ≤ prP F N s := by
  intro s
  induction s using Nat.strongRecOn with
  | _ s ih =>
    intro hs
    by_cases hz : s = 0
    · subst hz; rw [h.zero, prP_zero]; exact Int.le_refl _
    rcases (h.best s (by omega) hs).at_ with e | ⟨q, hq, e⟩
    · have := prP_nn (F := F) (N := N) (s := s); omega
    · have := hq.sub.le
      have := hq.nz
      have h1 := ih (s - q) (by omega) (by omega)
      have hls := less_sub hq.sub
      have h2 := price_more (F := F) (less s q) q (by rw [hls]; omega) (by omega) (by rw [Nat.and_comm]; exact less_dis) hq.even
      rw [Nat.or_comm, less_or hq.sub, hls] at h2
      omega
theorem price_le (hN : N ≤ 10) (h : IsMost (evF F N) (2 ^ N) L) : ∀ t, t < 2 ^ N → (∃ e, Sub e t ∧ sumF F e N = 0 ∧ prP F N t ≤ gL L e) ∧ (sumF F t N = 0 → prP F N t ≤ gL L t) := by
  intro t
  induction t using Nat.strongRecOn with
  | _ t ih =>
    intro ht
    by_cases hz : t = 0
    · subst hz
      exact ⟨⟨0, rfl, sumF_none, by rw [prP_zero, h.zero]; exact Int.le_refl _⟩, fun _ => by rw [prP_zero, h.zero]; exact Int.le_refl _⟩
    obtain ⟨i, hi, e⟩ := prP_at (F := F) ht hz
    have hlt := drop1_lt hi
    obtain ⟨⟨x, x1, x2, x3⟩, -⟩ := ih (drop1 t i) hlt (by omega)
    have hxt : Sub x t := sub_iff.2 fun j hj => sub_iff.1 drop1_sub j (sub_iff.1 x1 j hj)
    cases hev : evF F N t with
    | true =>
      rw [hev, if_pos rfl] at e
      have hxl := hxt.le
      have hls := less_sub hxt
      have hB : evF F N (less t x) = true := by
        rw [ev_iff]
        refine ⟨fun hz' => ?_, ?_⟩
        · have : (less t x).testBit i = true := by
            rw [less_bit, hi]
            cases hx : x.testBit i with
            | false => rfl
            | true =>
              have := sub_iff.1 x1 i hx
              rw [drop1_bit] at this
              simp at this
          rw [hz'] at this
          simp at this
        · have := sumF_less (F := F) (m := N) hxt
          rw [(ev_iff.1 hev).2, x2] at this
          omega
      have hp := prP_nn (F := F) (N := N) (s := drop1 t i)
      have h1 := most_more hN h x (less t x) (by omega) (by omega) less_dis hB (by omega)
      rw [less_or hxt] at h1
      have h2 : prP F N t ≤ gL L t := by omega
      exact ⟨⟨t, Nat.and_self t, (ev_iff.1 hev).2, h2⟩, fun _ => h2⟩
    | false =>
      rw [hev] at e
      simp at e
      refine ⟨⟨x, hxt, x2, by omega⟩, fun hs => ?_⟩
      rw [ev_iff.2 ⟨hz, hs⟩] at hev
      cases hev
/-- As many groups as the price says. -/
theorem most_price (hN : N ≤ 10) (h : IsMost (evF F N) (2 ^ N) L) {s : Nat} (hs : s < 2 ^ N) (he : sumF F s N = 0) : gL L s = prP F N s := by
  have h1 := most_le h s hs
  have h2 := (price_le hN h s hs).2 he
  omega
end
end Go.Ab
