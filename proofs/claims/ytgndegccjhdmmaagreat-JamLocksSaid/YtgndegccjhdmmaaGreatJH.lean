/- Sets of logs, by bits. -/
import Derived.Test.YtgndegccjhdmmaaGreatJB
set_option linter.unusedVariables false
set_option linter.unusedSimpArgs false
set_option maxHeartbeats 4000000
set_option maxRecDepth 100000
namespace Go.Ab
open Go Go.Proofs

theorem wrapu {x : Int} (h1 : 0 ≤ x) (h2 : x < 65536) : IntKind.u16.wrap x = x := by
  simp only [IntKind.wrap, IntKind.bits, IntKind.signed]
  simp
  omega
@[simp] theorem bits16 : IntKind.u16.bits = 16 := rfl
theorem ofInt_nat {s : Nat} (h : s < 65536) : (BitVec.ofInt 16 (s : Int)).toNat = s := by
  rw [BitVec.toNat_ofInt]
  omega
theorem and_nat {a b : Nat} (ha : a < 65536) (hb : b < 65536) : bitop .and .u16 (a : Int) (b : Int) = ((a &&& b : Nat) : Int) := by
  show IntKind.u16.wrap _ = _
  rw [BitVec.toNat_and, bits16, ofInt_nat ha, ofInt_nat hb]
  have := Nat.and_le_left (n := a) (m := b)
  rw [wrapu (by omega) (by omega)]
theorem or_nat {a b : Nat} (ha : a < 65536) (hb : b < 65536) : bitop .or .u16 (a : Int) (b : Int) = ((a ||| b : Nat) : Int) := by
  show IntKind.u16.wrap _ = _
  rw [BitVec.toNat_or, bits16, ofInt_nat ha, ofInt_nat hb]
  have : a ||| b < 2 ^ 16 := Nat.or_lt_two_pow ha hb
  rw [wrapu (by omega) (by omega)]
/-- One set without another one. -/
def less (a b : Nat) : Nat := a ^^^ (a &&& b)
theorem less_bit {a b i : Nat} : (less a b).testBit i = (a.testBit i && !b.testBit i) := by
  unfold less
  rw [Nat.testBit_xor, Nat.testBit_and]
  cases a.testBit i <;> cases b.testBit i <;> rfl
theorem less_le {a b : Nat} : less a b ≤ a := by
  have h : less a b = less a b &&& a := by
    apply Nat.eq_of_testBit_eq
    intro i
    rw [Nat.testBit_and, less_bit]
    cases a.testBit i <;> cases b.testBit i <;> rfl
  rw [h]
  exact Nat.and_le_right
theorem andNot_nat {a b : Nat} (ha : a < 65536) (hb : b < 65536) : bitop .andNot .u16 (a : Int) (b : Int) = ((less a b : Nat) : Int) := by
  show IntKind.u16.wrap _ = _
  have e : (BitVec.ofInt 16 (a : Int) &&& ~~~ BitVec.ofInt 16 (b : Int)).toNat = less a b := by
    apply Nat.eq_of_testBit_eq
    intro i
    rw [less_bit, BitVec.testBit_toNat, BitVec.getLsbD_and, BitVec.getLsbD_not, ← BitVec.testBit_toNat, ← BitVec.testBit_toNat, ofInt_nat ha, ofInt_nat hb]
    by_cases hi : i < 16
    · simp [hi]
    · have : a.testBit i = false := Nat.testBit_lt_two_pow (Nat.lt_of_lt_of_le (show a < 2 ^ 16 from ha) (Nat.pow_le_pow_right (by omega) (by omega)))
      simp [hi, this]
  rw [bits16, e]
  have := less_le (a := a) (b := b)
  rw [wrapu (by omega) (by omega)]
theorem shr_nat {s m : Nat} (hm : m ≤ 16) : (s : Int).fdiv (2 ^ (min m 16)) = ((s >>> m : Nat) : Int) := by
  rw [Nat.min_eq_left hm, Nat.shiftRight_eq_div_pow]
  have : ((2 : Int) ^ m) = ((2 ^ m : Nat) : Int) := by simp
  rw [this, Int.fdiv_eq_ediv_of_nonneg _ (Int.natCast_nonneg _)]
  exact (Int.natCast_ediv _ _).symm
theorem and_one {s : Nat} : s &&& 1 = (if s.testBit 0 then 1 else 0) := by
  rw [Nat.and_one_is_mod, Nat.testBit_zero]
  have := Nat.mod_two_eq_zero_or_one s
  by_cases h : s % 2 = 1
  · simp [h]
  · have h0 : s % 2 = 0 := by omega
    simp [h0]
/-- Is a mill in a set. -/
theorem bit_is {s m : Nat} (hs : s < 65536) (hm : m ≤ 16) : bitop .and .u16 ((s : Int).fdiv (2 ^ (min m 16))) 1 = (if s.testBit m then 1 else 0) := by
  rw [shr_nat hm]
  have h1 : s >>> m < 65536 := by
    have := Nat.shiftRight_le s m
    omega
  have := and_nat (a := s >>> m) (b := 1) h1 (by omega)
  rw [show ((1 : Nat) : Int) = 1 from rfl] at this
  rw [this, and_one, Nat.testBit_shiftRight, Nat.add_zero]
  split <;> rfl
theorem bit_eq {s m : Nat} (hs : s < 65536) (hm : m ≤ 16) : (bitop .and .u16 ((s : Int).fdiv (2 ^ (min m 16))) 1 = 1) = (s.testBit m = true) := by
  rw [bit_is hs hm]
  split
  · rename_i h; simp [h]
  · rename_i h; simp [h]
theorem shl_nat {m : Nat} (hm : m < 16) : IntKind.u16.wrap (1 * 2 ^ (min m 16)) = ((2 ^ m : Nat) : Int) := by
  rw [Nat.min_eq_left (by omega), Int.one_mul]
  have e : ((2 : Int) ^ m) = ((2 ^ m : Nat) : Int) := by simp
  have h : 2 ^ m < 2 ^ 16 := Nat.pow_lt_pow_right (by omega) hm
  rw [e]
  generalize 2 ^ m = p at h
  rw [wrapu (by omega) (by omega)]
theorem shl_nat' {m : Nat} (hm : m < 16) : IntKind.u16.wrap (2 ^ (min m 16)) = ((2 ^ m : Nat) : Int) := by
  rw [← shl_nat hm, Int.one_mul]
end Go.Ab
