/- Sets of mills, by bits. -/
import Derived.Test.YtgaijhpekajflaaSF
set_option linter.unusedVariables false
set_option linter.unusedSimpArgs false
set_option maxHeartbeats 4000000
set_option maxRecDepth 100000
namespace Go.Ab
open Go Go.Proofs

@[simp] theorem bits64 : IntKind.i64.bits = 64 := rfl
theorem ofInt_nat {s : Nat} (h : s < 9223372036854775808) : (BitVec.ofInt 64 (s : Int)).toNat = s := by
  rw [BitVec.toNat_ofInt]
  omega
theorem and_nat {a b : Nat} (ha : a < 9223372036854775808) (hb : b < 9223372036854775808) : bitop .and .i64 (a : Int) (b : Int) = ((a &&& b : Nat) : Int) := by
  show IntKind.i64.wrap _ = _
  rw [BitVec.toNat_and, bits64, ofInt_nat ha, ofInt_nat hb]
  have := Nat.and_le_left (n := a) (m := b)
  rw [wrap64 (by omega) (by omega)]
theorem or_nat {a b : Nat} (ha : a < 9223372036854775808) (hb : b < 9223372036854775808) : bitop .or .i64 (a : Int) (b : Int) = ((a ||| b : Nat) : Int) := by
  show IntKind.i64.wrap _ = _
  rw [BitVec.toNat_or, bits64, ofInt_nat ha, ofInt_nat hb]
  have : a ||| b < 2 ^ 63 := Nat.or_lt_two_pow ha hb
  rw [wrap64 (by omega) (by omega)]
/-- One set without another one. -/
def less (a b : Nat) : Nat := a ^^^ (a &&& b)
theorem less_bit {a b i : Nat} : (less a b).testBit i = (a.testBit i && !b.testBit i) := by
  unfold less
  rw [Nat.testBit_xor, Nat.testBit_and]
  cases a.testBit i <;> cases b.testBit i <;> rfl
theorem less_le {a b : Nat} : less a b ≤ a := by
  have h : less a b = less a b &&& a := by
    apply Nat.eq_of_testBit_eq
    intro i
    rw [Nat.testBit_and, less_bit]
    cases a.testBit i <;> cases b.testBit i <;> rfl
  rw [h]
  exact Nat.and_le_right
theorem andNot_nat {a b : Nat} (ha : a < 9223372036854775808) (hb : b < 9223372036854775808) : bitop .andNot .i64 (a : Int) (b : Int) = ((less a b : Nat) : Int) := by
  show IntKind.i64.wrap _ = _
  have e : (BitVec.ofInt 64 (a : Int) &&& ~~~ BitVec.ofInt 64 (b : Int)).toNat = less a b := by
    apply Nat.eq_of_testBit_eq
    intro i
    rw [less_bit, BitVec.testBit_toNat, BitVec.getLsbD_and, BitVec.getLsbD_not, ← BitVec.testBit_toNat, ← BitVec.testBit_toNat, ofInt_nat ha, ofInt_nat hb]
    by_cases hi : i < 64
    · simp [hi]
    · have : a.testBit i = false := Nat.testBit_lt_two_pow (Nat.lt_of_lt_of_le (show a < 2 ^ 63 from ha) (Nat.pow_le_pow_right (by omega) (by omega)))
      simp [hi, this]
  rw [bits64, e]
  have := less_le (a := a) (b := b)
  rw [wrap64 (by omega) (by omega)]
theorem shr_nat {s m : Nat} (hm : m ≤ 64) : (s : Int).fdiv (2 ^ (min m 64)) = ((s >>> m : Nat) : Int) := by
  rw [Nat.min_eq_left hm, Nat.shiftRight_eq_div_pow]
  have : ((2 : Int) ^ m) = ((2 ^ m : Nat) : Int) := by simp
  rw [this, Int.fdiv_eq_ediv_of_nonneg _ (Int.natCast_nonneg _)]
  exact (Int.natCast_ediv _ _).symm
theorem and_one {s : Nat} : s &&& 1 = (if s.testBit 0 then 1 else 0) := by
  rw [Nat.and_one_is_mod, Nat.testBit_zero]
  have := Nat.mod_two_eq_zero_or_one s
  by_cases h : s % 2 = 1
  · simp [h]
  · have h0 : s % 2 = 0 := by omega
    simp [h0]
/-- Is a mill in a set. -/
theorem bit_is {s m : Nat} (hs : s < 9223372036854775808) (hm : m ≤ 64) : bitop .and .i64 ((s : Int).fdiv (2 ^ (min m 64))) 1 = (if s.testBit m then 1 else 0) := by
  rw [shr_nat hm]
  have h1 : s >>> m < 9223372036854775808 := by
    have := Nat.shiftRight_le s m
    omega
  have := and_nat (a := s >>> m) (b := 1) h1 (by omega)
  rw [show ((1 : Nat) : Int) = 1 from rfl] at this
  rw [this, and_one, Nat.testBit_shiftRight, Nat.add_zero]
  split <;> rfl
theorem bit_eq {s m : Nat} (hs : s < 9223372036854775808) (hm : m ≤ 64) : (bitop .and .i64 ((s : Int).fdiv (2 ^ (min m 64))) 1 = 1) = (s.testBit m = true) := by
  rw [bit_is hs hm]
  split
  · rename_i h; simp [h]
  · rename_i h; simp [h]
theorem shl_nat {m : Nat} (hm : m < 63) : IntKind.i64.wrap (1 * 2 ^ (min m 64)) = ((2 ^ m : Nat) : Int) := by
  rw [Nat.min_eq_left (by omega), Int.one_mul]
  have e : ((2 : Int) ^ m) = ((2 ^ m : Nat) : Int) := by simp
  have h : 2 ^ m < 2 ^ 63 := Nat.pow_lt_pow_right (by omega) hm
  rw [e]
  generalize 2 ^ m = p at h
  rw [wrap64 (by omega) (by omega)]
theorem shl_nat' {m : Nat} (hm : m < 63) : IntKind.i64.wrap (2 ^ (min m 64)) = ((2 ^ m : Nat) : Int) := by
  rw [← shl_nat hm, Int.one_mul]
theorem pow_small {N : Nat} (h : N ≤ 10) : 1 ≤ 2 ^ N ∧ 2 ^ N ≤ 1024 := by
  have h1 : 2 ^ N ≤ 2 ^ 10 := Nat.pow_le_pow_right (by omega) h
  have h2 : 0 < 2 ^ N := Nat.two_pow_pos N
  omega
/-- A set without one mill. -/
def drop1 (s m : Nat) : Nat := less s (2 ^ m)
theorem drop1_bit {s m i : Nat} : (drop1 s m).testBit i = (s.testBit i && !decide (m = i)) := by
  unfold drop1
  rw [less_bit, Nat.testBit_two_pow]
theorem drop1_lt {s m : Nat} (h : s.testBit m = true) : drop1 s m < s := by
  have h1 := less_le (a := s) (b := 2 ^ m)
  have h2 : drop1 s m ≠ s := by
    intro e
    have := drop1_bit (s := s) (m := m) (i := m)
    rw [e, h] at this
    simp at this
  unfold drop1 at h2 ⊢
  omega

/-- What a set's balances sum up to. -/
def sumF (F : Nat → Int) (s : Nat) : Nat → Int
  | 0 => 0
  | m + 1 => sumF F s m + (if s.testBit m then F m else 0)
theorem sumF_b {F : Nat → Int} {B : Int} (hB : 0 ≤ B) (hF : ∀ i, -B ≤ F i ∧ F i ≤ B) {s : Nat} : ∀ m : Nat, -(B * m) ≤ sumF F s m ∧ sumF F s m ≤ B * m
  | 0 => by simp [sumF]
  | m + 1 => by
    have ih := sumF_b hB hF (s := s) m
    have := hF m
    simp only [sumF]
    rw [show B * ((m + 1 : Nat) : Int) = B * m + B by push_cast; rw [Int.mul_add, Int.mul_one]]
    split <;> omega
theorem sumF_zero {F : Nat → Int} {s : Nat} : ∀ {m : Nat}, (∀ i, i < m → F i = 0) → sumF F s m = 0
  | 0, _ => rfl
  | m + 1, h => by
    simp only [sumF]
    rw [sumF_zero (fun i hi => h i (by omega)), h m (by omega)]
    simp
end Go.Ab
