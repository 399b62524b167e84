/- Lists of bits: plain. -/
import Derived.Test.YtgndegccjhdmmaaGreatJN
set_option linter.unusedVariables false
set_option linter.unusedSimpArgs false
set_option maxHeartbeats 4000000
set_option maxRecDepth 100000
namespace Go.Ab
open Go Go.Proofs

theorem isLF_iff {N : Int} : ∀ {l : List Int} {nx : Int}, isLF N nx l = true ↔ l.Pairwise (· < ·) ∧ ∀ x ∈ l, nx ≤ x ∧ x < N
  | [], nx => by simp [isLF]
  | y :: r, nx => by
    have ih := isLF_iff (N := N) (l := r) (nx := y + 1)
    simp only [isLF, fit, Bool.and_eq_true, decide_eq_true_eq]
    rw [ih, List.pairwise_cons]
    constructor
    · rintro ⟨⟨h1, h2⟩, h3, h4⟩
      refine ⟨⟨fun x hx => by have := h4 x hx; omega, h3⟩, fun x hx => ?_⟩
      rcases List.mem_cons.1 hx with rfl | hx
      · omega
      · have := h4 x hx; omega
    · rintro ⟨⟨h1, h2⟩, h3⟩
      have h4 := h3 y (List.mem_cons_self ..)
      exact ⟨⟨h4.1, by omega⟩, h2, fun x hx => ⟨by have := h1 x hx; omega, (h3 x (List.mem_cons_of_mem _ hx)).2⟩⟩
theorem bl_mem {s : Nat} {x : Int} : ∀ {k : Nat}, x ∈ bl s k ↔ ∃ j : Nat, j < k ∧ x = j ∧ s.testBit j = true
  | 0 => by simp [bl]
  | k + 1 => by
    have ih := bl_mem (s := s) (x := x) (k := k)
    simp only [bl]
    split
    · rename_i h
      rw [List.mem_append, ih, List.mem_singleton]
      constructor
      · rintro (⟨j, h1, h2, h3⟩ | rfl)
        · exact ⟨j, by omega, h2, h3⟩
        · exact ⟨k, by omega, rfl, h⟩
      · rintro ⟨j, h1, h2, h3⟩
        by_cases hj : j = k
        · exact .inr (by rw [h2, hj])
        · exact .inl ⟨j, by omega, h2, h3⟩
    · rename_i h
      rw [ih]
      constructor
      · rintro ⟨j, h1, h2, h3⟩; exact ⟨j, by omega, h2, h3⟩
      · rintro ⟨j, h1, h2, h3⟩
        by_cases hj : j = k
        · rw [hj] at h3; exact absurd h3 h
        · exact ⟨j, by omega, h2, h3⟩
theorem bl_sorted {s : Nat} : ∀ {k : Nat}, (bl s k).Pairwise (· < ·)
  | 0 => by simp [bl]
  | k + 1 => by
    have ih := bl_sorted (s := s) (k := k)
    simp only [bl]
    split
    · rw [List.pairwise_append]
      refine ⟨ih, by simp, fun a ha b hb => ?_⟩
      rw [List.mem_singleton] at hb
      obtain ⟨j, h1, h2, -⟩ := bl_mem.1 ha
      omega
    · exact ih
theorem bit_small {s N j : Nat} (h : s < 2 ^ N) (hj : s.testBit j = true) : j < N := by
  false_or_by_contra
  rename_i hn
  have := Nat.testBit_lt_two_pow (Nat.lt_of_lt_of_le h (Nat.pow_le_pow_right (n := 2) (by omega) (by omega : N ≤ j)))
  rw [hj] at this; cases this
theorem isL_bl {s N k : Nat} (h : s < 2 ^ N) : isL N (bl s k) = true := by
  unfold isL
  rw [isLF_iff]
  refine ⟨bl_sorted, fun x hx => ?_⟩
  obtain ⟨j, h1, h2, h3⟩ := bl_mem.1 hx
  have := bit_small h h3
  omega
theorem setB_bl {s k : Nat} (h : s < 2 ^ k) : setB (bl s k) = s := by
  apply Nat.eq_of_testBit_eq
  intro j
  have hb := setB_bit (l := bl s k) (fun x hx => by obtain ⟨j, -, h2, -⟩ := bl_mem.1 hx; omega) (j := j)
  rw [Bool.eq_iff_iff, hb, bl_mem]
  constructor
  · rintro ⟨i, h1, h2, h3⟩
    have : i = j := by omega
    rw [← this]; exact h3
  · intro h1
    exact ⟨j, bit_small h h1, rfl, h1⟩
theorem keysS_lt {J : List Lg} {b : Nat} : keysS J b < 2 ^ J.length := Nat.mod_lt _ (Nat.two_pow_pos _)
/-- Waves by bits. -/
theorem wav_bits {J : List Lg} {s : Nat} (hJ : JOK J) (hc : checkJ J = 0) (hs : s < 2 ^ J.length) : wavV J (bl s 16) = .tup [sl (wavL J s) false, .i .i64 0] := by
  have hN := hJ.2.1
  unfold wavV
  rw [if_neg (fun h => h hc), isL_bl hs, setB_bl (Nat.lt_of_lt_of_le hs (Nat.pow_le_pow_right (n := 2) (by omega) (by omega)))]
  rfl
theorem ssort_eq : ∀ {a b : List Int}, a.Pairwise (· < ·) → b.Pairwise (· < ·) → (∀ x, x ∈ a ↔ x ∈ b) → a = b
  | [], [], _, _, _ => rfl
  | [], y :: b, _, _, h => by have := (h y).2 (List.mem_cons_self ..); cases this
  | x :: a, [], _, _, h => by have := (h x).1 (List.mem_cons_self ..); cases this
  | x :: a, y :: b, ha, hb, h => by
    rw [List.pairwise_cons] at ha hb
    have hxy : x = y := by
      have h1 := (h x).1 (List.mem_cons_self ..)
      have h2 := (h y).2 (List.mem_cons_self ..)
      rw [List.mem_cons] at h1 h2
      rcases h1 with h1 | h1
      · exact h1
      · rcases h2 with h2 | h2
        · exact h2.symm
        · have := hb.1 x h1
          have := ha.1 y h2
          omega
    subst hxy
    congr 1
    refine ssort_eq ha.2 hb.2 fun z => ?_
    have := h z
    rw [List.mem_cons, List.mem_cons] at this
    constructor
    · intro hz
      rcases this.1 (.inr hz) with h1 | h1
      · have := ha.1 z hz; omega
      · exact h1
    · intro hz
      rcases this.2 (.inr hz) with h1 | h1
      · have := hb.1 z hz; omega
      · exact h1
theorem bl_setB {l : List Int} {N k : Nat} (h : isL N l = true) (hk : N ≤ k) : bl (setB l) k = l := by
  have hm := isLF_mem h
  refine ssort_eq bl_sorted (isLF_iff.1 h).1 fun x => ?_
  rw [bl_mem]
  constructor
  · rintro ⟨j, -, rfl, hj⟩
    exact (setB_bit (fun x hx => (hm x hx).1)).1 hj
  · intro hx
    have := hm x hx
    refine ⟨x.toNat, by omega, by omega, (setB_bit (fun x hx => (hm x hx).1)).2 ?_⟩
    rw [show ((x.toNat : Nat) : Int) = x by omega]
    exact hx
theorem bl_one {b k : Nat} (h : b < k) : bl (2 ^ b) k = [(b : Int)] := by
  refine ssort_eq bl_sorted (by simp) fun x => ?_
  rw [bl_mem, List.mem_singleton]
  constructor
  · rintro ⟨j, -, rfl, hj⟩
    rw [Nat.testBit_two_pow, decide_eq_true_eq] at hj
    rw [hj]
  · rintro rfl
    exact ⟨b, h, rfl, Nat.testBit_two_pow_self⟩
end Go.Ab
