/- The law SwapApart. -/
import Derived.Test.YtgaijhpekajflaaUF
import Derived.Test.YtgaijhpekajflaaUE
set_option linter.unusedVariables false
set_option linter.unusedSimpArgs false
set_option maxHeartbeats 4000000
set_option maxRecDepth 100000
namespace Go.Ab
open Go Go.Proofs

section
variable {F : Nat → Int} {N : Nat}
/-- The first groups, in two sets. -/
structure Two (F : Nat → Int) (N : Nat) (Q : List Nat) (i U V : Nat) : Prop where
  u : U < 2 ^ N
  v : V < 2 ^ N
  dis : U &&& V = 0
  eu : sumF F U N = 0
  ev : sumF F V N = 0
  bits : ∀ m, (U.testBit m || V.testBit m) = true ↔ cntB m (Q.take i) = 1
  cnt : (i : Int) ≤ prP F N U + prP F N V
theorem Two.start {Q} : Two F N Q 0 0 0 := ⟨Nat.two_pow_pos N, Nat.two_pow_pos N, rfl, sumF_none, sumF_none, fun m => by simp [cntB], by rw [prP_zero]; simp⟩
theorem Two.step {Q i U V g} (h : Two F N Q i U V) (hg : Q[i]? = some g) (hgN : g < 2 ^ N) (he : evF F N g = true) (hc : ∀ m, cntB m Q ≤ 1) :
    Two F N Q (i + 1) (U ||| g) V ∧ Two F N Q (i + 1) U (V ||| g) ∧ U ||| g = U + g := by
  have hst := fun m => cntB_take (m := m) hg
  have hle : ∀ m, cntB m (Q.take (i + 1)) ≤ 1 := fun m => by have := cntB_mono (m := m) (i := i + 1) (G := Q); have := hc m; omega
  have hno : ∀ m, g.testBit m = true → U.testBit m = false ∧ V.testBit m = false := fun m hm => by
    have h1 := hst m
    rw [hm, if_pos rfl] at h1
    have h2 := h.bits m
    have h3 := hle m
    cases hu : U.testBit m <;> cases hv : V.testBit m <;> simp_all
  have hb : ∀ m, ((U.testBit m || g.testBit m) || V.testBit m) = true ↔ cntB m (Q.take (i + 1)) = 1 := fun m => by
    have h1 := hst m
    have h2 := h.bits m
    have h3 := hle m
    have h4 := hno m
    cases hgm : g.testBit m with
    | false =>
      rw [hgm] at h1
      simp only [Bool.or_false]
      rw [h1]
      simpa using h2
    | true =>
      obtain ⟨a, b⟩ := h4 hgm
      rw [hgm, if_pos rfl] at h1
      rw [a, b] at h2 ⊢
      simp at h2 ⊢
      omega
  have hd1 : U &&& g = 0 := dis_bit.2 fun m ⟨x, y⟩ => by rw [(hno m y).1] at x; cases x
  have hd2 : V &&& g = 0 := dis_bit.2 fun m ⟨x, y⟩ => by rw [(hno m y).2] at x; cases x
  have he2 := (ev_iff.1 he).2
  have p1 := price_more (F := F) U g h.u hgN hd1 he
  have p2 := price_more (F := F) V g h.v hgN hd2 he
  have hcn := h.cnt
  refine ⟨⟨lt_or h.u hgN, h.v, dis_bit.2 fun m ⟨x, y⟩ => ?_, by rw [sumF_or hd1, h.eu, he2]; rfl, h.ev, fun m => by rw [Nat.testBit_or]; exact hb m, by omega⟩,
    ⟨h.u, lt_or h.v hgN, dis_bit.2 fun m ⟨x, y⟩ => ?_, h.eu, by rw [sumF_or hd2, h.ev, he2]; rfl, fun m => ?_, by omega⟩, or_add hd1⟩
  · rw [Nat.testBit_or, Bool.or_eq_true] at x
    rcases x with x | x
    · exact dis_bit.1 h.dis m ⟨x, y⟩
    · exact dis_bit.1 hd2 m ⟨y, x⟩
  · rw [Nat.testBit_or, Bool.or_eq_true] at y
    rcases y with y | y
    · exact dis_bit.1 h.dis m ⟨x, y⟩
    · exact dis_bit.1 hd1 m ⟨x, y⟩
  · rw [Nat.testBit_or, ← hb m]
    cases U.testBit m <;> cases V.testBit m <;> cases g.testBit m <;> simp
theorem rest_bits {s : Nat} (hs : s < 2 ^ N) : Sub s (2 ^ N - 1) ∧ less (2 ^ N - 1) s = 2 ^ N - 1 - s ∧ s &&& (2 ^ N - 1 - s) = 0 ∧ s ||| (2 ^ N - 1 - s) = 2 ^ N - 1 := by
  have hsub : Sub s (2 ^ N - 1) := sub_iff.2 fun i hi => by rw [Nat.testBit_two_pow_sub_one]; simp; exact bit_lt hs hi
  have hl := less_sub hsub
  exact ⟨hsub, hl, by rw [← hl]; exact less_dis, by rw [← hl]; exact less_or hsub⟩
theorem Two.done {Q U V} (hN : N ≤ 10) (h : Two F N Q Q.length U V) (hone : ∀ m, m < N → cntB m Q = 1) (htop : (Q.length : Int) = prP F N (2 ^ N - 1)) : prP F N (2 ^ N - 1) - prP F N U - prP F N (2 ^ N - 1 - U) = 0 := by
  have hV : V = 2 ^ N - 1 - U := by
    rw [← (rest_bits h.u).2.1]
    apply Nat.eq_of_testBit_eq
    intro m
    rw [less_bit, Nat.testBit_two_pow_sub_one]
    have h1 := h.bits m
    rw [List.take_length] at h1
    have h2 := dis_bit.1 h.dis m
    by_cases hm : m < N
    · rw [hone m hm] at h1
      cases hu : U.testBit m <;> cases hv : V.testBit m <;> simp_all
    · have : V.testBit m = false := by
        cases hv : V.testBit m with
        | false => rfl
        | true => exact absurd (bit_lt h.v hv) hm
      rw [this]; simp [hm]
  have hcn := h.cnt
  have hs := prP_super (F := F) hN V U h.u h.v h.dis h.ev
  have hu := lt_or h.u h.v
  rw [hV] at hs hcn
  rw [(rest_bits h.u).2.2.2] at hs
  omega
theorem Two.step' {Q i U V g W} (hW : 2 ^ N = W) (h : Two F N Q i U V) (hg : Q[i]? = some g) (hgN : g < W) (he : evF F N g = true) (hc : ∀ m, cntB m Q ≤ 1) :
    Two F N Q (i + 1) (U ||| g) V ∧ Two F N Q (i + 1) U (V ||| g) ∧ U ||| g = U + g := h.step hg (by rw [hW]; exact hgN) he hc
theorem Two.done' {Q U V W} (hW : 2 ^ N = W) (hN : N ≤ 10) (h : Two F N Q Q.length U V) (hone : ∀ m, m < N → cntB m Q = 1) (htop : (Q.length : Int) = prP F N (W - 1)) : prP F N (W - 1) - prP F N U - prP F N (W - 1 - U) = 0 ∧ U < W := by
  subst hW
  exact ⟨h.done hN hone htop, h.u⟩
theorem ap_nn (hN : N ≤ 10) {s : Nat} (hs : s < 2 ^ N) (hall : sumF F (2 ^ N - 1) N = 0) (he : sumF F s N = 0) : 0 ≤ prP F N (2 ^ N - 1) - prP F N s - prP F N (2 ^ N - 1 - s) ∧ sumF F (2 ^ N - 1 - s) N = 0 := by
  obtain ⟨h1, h2, h3, h4⟩ := rest_bits hs
  have hsum := sumF_less (F := F) (m := N) h1
  rw [h2, hall, he] at hsum
  have hz : sumF F (2 ^ N - 1 - s) N = 0 := by omega
  have := prP_super (F := F) hN (2 ^ N - 1 - s) s hs (by omega) h3 hz
  rw [h4] at this
  exact ⟨by omega, hz⟩
end
theorem apP_at {N : Nat} {D : List Db} {s : Nat} (hc : checkBook N D = 0) (h1 : 1 ≤ s) (hs : s < 2 ^ N) : apP N D s = if sumF (balF D) s N ≠ 0 then (0, 14) else (prP (balF D) N (2 ^ N - 1) - prP (balF D) N s - prP (balF D) N (2 ^ N - 1 - s), 0) := by
  unfold apP
  rw [if_neg (by simp [hc]), Int.toNat_natCast, Int.toNat_natCast, if_neg ?_]
  · rfl
  · have : fit 1 (((2 ^ N : Nat) : Int) - 1) (s : Int) = true := by
      unfold fit
      rw [Bool.and_eq_true, decide_eq_true_eq, decide_eq_true_eq]
      omega
    rw [this]; simp
end Go.Ab
