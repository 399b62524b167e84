/- How many bits a set has: by the table of the library. -/
import Derived.Test.YtgndegccjhdmmaaGreatJ0
set_option linter.unusedVariables false
set_option linter.unusedSimpArgs false
set_option maxHeartbeats 4000000
set_option maxRecDepth 100000
namespace Go.Ab
open Go Go.Proofs

theorem sidx_nat {s : ByteArray} {n : Nat} {k : IntKind} {b : UInt8} {K : V → Prop} (h : s[n]? = some b) (hK : K (.i .u8 b.toNat)) : sidxK (.str s) (.i k (n : Int)) K := by
  refine ⟨by omega, ?_⟩
  rw [Int.toNat_natCast, h]
  exact hK
/-- How many logs are in a set. -/
def pc (s : Nat) : Nat := (bl s 16).length
theorem bl_add {s : Nat} : ∀ {k : Nat}, (bl s (8 + k)).length = (bl s 8).length + (bl (s >>> 8) k).length
  | 0 => by simp [bl]
  | k + 1 => by
    have ih := bl_add (s := s) (k := k)
    have e1 : bl s (8 + k + 1) = if s.testBit (8 + k) then bl s (8 + k) ++ [((8 + k : Nat) : Int)] else bl s (8 + k) := rfl
    have e2 : bl (s >>> 8) (k + 1) = if (s >>> 8).testBit k then bl (s >>> 8) k ++ [(k : Int)] else bl (s >>> 8) k := rfl
    rw [show 8 + (k + 1) = 8 + k + 1 by omega, e1, e2, Nat.testBit_shiftRight]
    cases s.testBit (8 + k) with
    | true =>
      simp
      omega
    | false => simpa using ih
theorem bl_congr {s t : Nat} : ∀ {k : Nat}, (∀ j, j < k → s.testBit j = t.testBit j) → bl s k = bl t k
  | 0, _ => rfl
  | k + 1, h => by
    rw [bl, bl, h k (by omega), bl_congr fun j hj => h j (by omega)]
theorem pc_split {s : Nat} : pc s = (bl (s >>> 8) 8).length + (bl (s % 256) 8).length := by
  unfold pc
  rw [show 16 = 8 + 8 from rfl, bl_add, bl_congr (s := s % 256) (t := s)]
  · omega
  · intro j hj
    rw [show 256 = 2 ^ 8 from rfl, Nat.testBit_mod_two_pow]
    simp [hj]
def tabB : ByteArray := ⟨#[0, 1, 1, 2, 1, 2, 2, 3, 1, 2, 2, 3, 2, 3, 3, 4, 1, 2, 2, 3, 2, 3, 3, 4, 2, 3, 3, 4, 3, 4, 4, 5, 1, 2, 2, 3, 2, 3, 3, 4, 2, 3, 3, 4, 3, 4, 4, 5, 2, 3, 3, 4, 3, 4, 4, 5, 3, 4, 4, 5, 4, 5, 5, 6, 1, 2, 2, 3, 2, 3, 3, 4, 2, 3, 3, 4, 3, 4, 4, 5, 2, 3, 3, 4, 3, 4, 4, 5, 3, 4, 4, 5, 4, 5, 5, 6, 2, 3, 3, 4, 3, 4, 4, 5, 3, 4, 4, 5, 4, 5, 5, 6, 3, 4, 4, 5, 4, 5, 5, 6, 4, 5, 5, 6, 5, 6, 6, 7, 1, 2, 2, 3, 2, 3, 3, 4, 2, 3, 3, 4, 3, 4, 4, 5, 2, 3, 3, 4, 3, 4, 4, 5, 3, 4, 4, 5, 4, 5, 5, 6, 2, 3, 3, 4, 3, 4, 4, 5, 3, 4, 4, 5, 4, 5, 5, 6, 3, 4, 4, 5, 4, 5, 5, 6, 4, 5, 5, 6, 5, 6, 6, 7, 2, 3, 3, 4, 3, 4, 4, 5, 3, 4, 4, 5, 4, 5, 5, 6, 3, 4, 4, 5, 4, 5, 5, 6, 4, 5, 5, 6, 5, 6, 6, 7, 3, 4, 4, 5, 4, 5, 5, 6, 4, 5, 5, 6, 5, 6, 6, 7, 4, 5, 5, 6, 5, 6, 6, 7, 5, 6, 6, 7, 6, 7, 7, 8]⟩
theorem tab_all : ((List.range 256).all fun n => match tabB[n]? with | some b => b.toNat == (bl n 8).length | none => false) = true := by decide +kernel
theorem tab_at {n : Nat} (h : n < 256) : ∃ b, tabB[n]? = some b ∧ b.toNat = (bl n 8).length := by
  have := List.all_eq_true.1 tab_all n (List.mem_range.2 h)
  split at this
  · rename_i b hb
    exact ⟨b, hb, by simpa using this⟩
  · cases this
theorem many116 {s : Nat} {σ : List O} (hs : s < 65536) : FSpec Tryz.prog 116 [.i .u16 s] σ (.i .i64 (pc s)) σ := by
  refine FSpec.frame (σ := σ) ?_ rfl rfl
  refine fn116.spec0 mixed noIt_ok ?_
  rw [ic116]
  refine ab_seq_k fun K1 h1 => ?_
  simp
  refine h1 _ _ _ ?_
  clear h1 K1
  refine ab_seq_k fun K2 h2 => ?_
  have g1 : s >>> 8 < 256 := by rw [Nat.shiftRight_eq_div_pow]; omega
  have g2 : s % 256 < 256 := Nat.mod_lt _ (by omega)
  obtain ⟨b1, e1, f1⟩ := tab_at g1
  obtain ⟨b2, e2, f2⟩ := tab_at g2
  have hsh : (s : Int).fdiv 256 = ((s >>> 8 : Nat) : Int) := shr_nat (s := s) (m := 8) (by omega)
  have hm : s &&& 255 = s % 256 := Nat.and_two_pow_sub_one_eq_mod s 8
  have hand : bitop .and .u16 (s : Int) 255 = ((s % 256 : Nat) : Int) := by rw [← hm]; exact and_nat (a := s) (b := 255) hs (by omega)
  have hp := pc_split (s := s)
  have l1 := bl_len (s := s >>> 8) (k := 8)
  have l2 := bl_len (s := s % 256) (k := 8)
  have hw : IntKind.u8.wrap ((b1.toNat : Int) + b2.toNat) = (b1.toNat : Int) + b2.toNat := by
    have hu : ∀ x : Nat, x < 256 → IntKind.u8.wrap (x : Int) = x := by
      intro x hx
      simp [IntKind.wrap, IntKind.bits, IntKind.signed]
      omega
    have := hu (b1.toNat + b2.toNat) (by omega)
    simpa using this
  have hv : (b1.toNat : Int) + b2.toNat = (pc s : Nat) := by omega
  have hlp : pc s < 65536 := by omega
  simp
  rw [hsh, hand]
  refine sidx_nat e1 ?_
  refine sidx_nat e2 ?_
  simp
  rw [hw, hv]
  simp [wrap64 (x := (pc s : Int)) (by omega) (by omega)]
  refine h2 _ _ _ ?_
  simp
  exact fin_of 1 (by simp [rs116])
theorem many92 {s : Nat} {σ : List O} (hs : s < 65536) : FSpec Tryz.prog 92 [.i .u16 s] σ (.i .i64 (pc s)) σ := by
  refine FSpec.frame (σ := σ) ?_ rfl rfl
  refine fn92.spec0 mixed noIt_ok ?_
  rw [ic92]
  refine ab_seq_k fun K1 h1 => ?_
  simp
  refine h1 _ _ _ ?_
  clear h1 K1
  refine ab_seq_k fun K2 h2 => ?_
  simp
  refine callK_of (many116 hs) ?_
  simp
  refine h2 _ _ _ ?_
  clear h2 K2
  simp
  exact fin_of 1 (by simp [rs92])
end Go.Ab
