/- Waves of the program; keys by bits. -/
import Derived.Test.YtgndegccjhdmmaaGreatJL
set_option linter.unusedVariables false
set_option linter.unusedSimpArgs false
set_option maxHeartbeats 4000000
set_option maxRecDepth 100000
namespace Go.Ab
open Go Go.Proofs

def wavL (J : List Lg) (s : Nat) : List Int := rowF J.length (wr J (byB J) s J.length)
def wavV (J : List Lg) (k : List Int) : V := if checkJ J ≠ 0 then .tup [.ss [] 0 true, .i .i64 (checkJ J)] else if isL J.length k = false then .tup [.ss [] 0 true, .i .i64 2] else .tup [sl (wavL J (setB k)) false, .i .i64 0]
theorem wavV_pure {J k} : (wavV J k).pure = true := by
  unfold wavV
  split
  · rfl
  · split
    · rfl
    · simp
theorem isL_set {J : List Lg} {k : List Int} (hJ : JOK J) (h : isL J.length k = true) : setB k < 65536 ∧ ∀ x ∈ k, 0 ≤ x ∧ x < (12 : Nat) := by
  have hm : ∀ x ∈ k, 0 ≤ x ∧ x < (12 : Nat) := fun x hx => by have := isLF_mem h x hx; have := hJ.2.1; omega
  have := setB_lt hm
  exact ⟨by omega, hm⟩
theorem frz_two' {σ : List O} {v w : V} {e : Int} (h2 : frz 2 0 σ v = w) : frz 3 0 σ (.tup [v, .i .i64 e]) = .tup [w, .i .i64 e] := by
  rw [frz]
  split
  · rename_i hp
    have : v.pure = true := by simp at hp; exact hp
    rw [frz_pure this] at h2
    rw [h2]
  · rename_i hp
    simp only [List.map_cons, List.map_nil]
    rw [h2, frz_pure rfl]
theorem take_row {N n : Nat} {F : Nat → Int} (h : N ≤ n) : (ints (rowF n F)).take N = ints (rowF N F) := by
  unfold ints rowF
  rw [List.map_map, List.map_map, ← List.map_take, List.take_range, Nat.min_eq_left h]

theorem waves19 {J : List Lg} {f fk : Bool} {k : List Int} {σ : List O} (hJ : J.length ≤ 1000000) (hl : ∀ x ∈ J, x.2.1.length ≤ 1000000) (hk : k.length ≤ 1000000) : FSpec Tryz.prog 19 [jamV J f, sl k fk] σ (wavV J k) σ := by
  refine FSpec.frame (σ := σ) ?_ (by simp) wavV_pure
  refine fn19.spec0 mixed noIt_ok ?_
  rw [ic19]
  refine ab_seq_k fun K1 h1 => ?_
  simp
  refine h1 _ _ _ ?_
  clear h1 K1
  refine ab_seq_k fun K2 h2 => ?_
  simp
  refine callK_of (open62 hJ hl hk) ?_
  unfold openV
  by_cases hc : checkJ J = 0
  · rw [if_neg (fun h => h hc)]
    have hJO := check_ok hl hc
    cases hi : isL J.length k with
    | false =>
      rw [if_pos rfl]
      simp
      refine h2 _ _ _ ?_
      clear h2 K2
      refine ab_seq_k fun K3 h3 => ?_
      refine ab_seq_k fun K4 h4 => ?_
      simp
      refine h4 _ _ _ ?_
      clear h4 K4
      refine ab_cond_of rfl (fun _ => ?_) (fun h => by cases h)
      refine ab_seq_k fun K5 h5 => ?_
      simp
      refine h5 _ _ _ ?_
      clear h5 K5
      simp
      refine fin_of 3 ?_
      simp [rs19, wavV, hc, hi]
    | true =>
      rw [if_neg (by simp)]
      obtain ⟨hs, hm⟩ := isL_set hJO hi
      have hsm := hJO.small
      have hN := hJO.2.1
      have hset := fun σ => FSpec.frame (σ := σ) (setOf64 (l := k) (f := fk) hm hk) (by simp) rfl
      have ez : List.replicate 12 (V.i .i64 0) = ints (rowF 12 (fun _ => 0)) := rfl
      simp
      refine h2 _ _ _ ?_
      clear h2 K2
      refine ab_seq_k fun K3 h3 => ?_
      refine ab_seq_k fun K4 h4 => ?_
      simp
      refine h4 _ _ _ ?_
      clear h4 K4
      refine ab_cond_of rfl (fun h => by cases h) (fun _ => ?_)
      simp
      refine h3 _ _ _ ?_
      clear h3 K3
      have hw := fun σ => waves63 (J := J) (B := byB J) (fJ := f) (fb := J.length == 0) (st := stV (left J) (2 ^ J.length)) (keys := setB k) (σ := σ) hsm hN hs (by simp)
      refine ab_seq_k fun K6 h6 => ?_
      simp [-List.reduceReplicate, ez]
      refine callK_of (hset _) ?_
      simp [-List.reduceReplicate, ez]
      refine callK_of (hw _) ?_
      simp [-List.reduceReplicate, ez]
      refine h6 _ _ _ ?_
      clear h6 K6
      rw [show ints (rowF 12 (wr J (byB J) (setB k) J.length)) ++ List.drop 12 (ints (rowF 12 fun _ => 0)) = ints (rowF 12 (wr J (byB J) (setB k) J.length)) from rfl]
      have hv : wavV J k = .tup [sl (rowF J.length (wr J (byB J) (setB k) J.length)) false, .i .i64 0] := by unfold wavV; rw [if_neg (fun h => h hc), hi]; rfl
      rw [hv]
      generalize wr J (byB J) (setB k) J.length = w at *
      refine ab_seq_k fun K7 h7 => ?_
      simp
      refine ⟨by omega, by omega, h7 _ _ _ ?_⟩
      clear h7 K7
      refine ab_seq_k fun K8 h8 => ?_
      simp
      simp only [cpyK, rowOf]
      have hlen : (rep J.length [V.i .i64 0]).length = J.length := by simp [rep]
      have hsp : splice (rep J.length [V.i .i64 0]) 0 (List.take (min 12 J.length * 1) (List.take (12 * 1) (List.drop 0 (ints (rowF 12 w))))) = ints (rowF J.length w) := by
        have : min 12 J.length = J.length := by omega
        rw [this, Nat.mul_one, Nat.mul_one, List.drop_zero, List.take_take, Nat.min_eq_left hN, take_row hN]
        simp [hlen]
      refine ⟨rfl, trivial, by simp, rfl, trivial, by rw [hlen]; omega, ?_⟩
      rw [hsp]
      simp
      refine h8 _ _ _ ?_
      clear h8 K8
      refine ab_seq_k fun K9 h9 => ?_
      simp
      refine h9 _ _ _ ?_
      simp
      refine fin_of 3 ?_
      simp [-frz, rs19]
      refine frz_two' ?_
      have := frz_row (k := 0) (n := 0) (id := 2) (ver := 0) (m := J.length) (es := 1) (σ := [O.row 0 [slJ J f], O.row 0 (ints (rowF 12 w)), O.row 0 (ints (rowF J.length w))]) (cs := ints (rowF J.length w)) rfl (Nat.zero_le _) (by simp) (by simp)
      rw [this]
      show V.ss _ _ _ = V.ss _ (rowF J.length w).length _
      rw [rowF_len]
  · rw [if_pos hc]
    simp
    refine h2 _ _ _ ?_
    clear h2 K2
    refine ab_seq_k fun K3 h3 => ?_
    refine ab_seq_k fun K4 h4 => ?_
    simp
    refine h4 _ _ _ ?_
    clear h4 K4
    refine ab_cond_of rfl (fun _ => ?_) (fun h => by simp [hc] at h)
    refine ab_seq_k fun K5 h5 => ?_
    simp
    refine h5 _ _ _ ?_
    clear h5 K5
    simp
    refine fin_of 3 ?_
    simp [rs19, wavV, hc]

/-- The numbers of the bits of a number. -/
theorem bl_shift {s : Nat} : ∀ {k j : Nat}, s < 2 ^ k → bl s (k + j) = bl s k
  | k, 0, h => rfl
  | k, j + 1, h => by
    have ih := bl_shift (j := j) h
    have hb : s.testBit (k + j) = false := Nat.testBit_lt_two_pow (Nat.lt_of_lt_of_le h (Nat.pow_le_pow_right (by omega) (by omega)))
    show (if s.testBit (k + j) then _ else _) = _
    rw [hb, if_neg (by simp)]
    exact ih
@[simp] theorem bits64 : IntKind.i64.bits = 64 := rfl
theorem ofInt_nat64 {s : Nat} (h : s < 9223372036854775808) : (BitVec.ofInt 64 (s : Int)).toNat = s := by
  rw [BitVec.toNat_ofInt]
  omega
theorem and_nat64 {a b : Nat} (ha : a < 9223372036854775808) (hb : b < 9223372036854775808) : bitop .and .i64 (a : Int) (b : Int) = ((a &&& b : Nat) : Int) := by
  show IntKind.i64.wrap _ = _
  rw [BitVec.toNat_and, show IntKind.i64.bits = 64 from rfl, ofInt_nat64 ha, ofInt_nat64 hb]
  have := Nat.and_le_left (n := a) (m := b)
  rw [wrap64 (by omega) (by omega)]
theorem shr_nat64 {s m : Nat} (hm : m ≤ 64) : (s : Int).fdiv (2 ^ (min m 64)) = ((s >>> m : Nat) : Int) := by
  rw [Nat.min_eq_left hm, Nat.shiftRight_eq_div_pow]
  have : ((2 : Int) ^ m) = ((2 ^ m : Nat) : Int) := by simp
  rw [this, Int.fdiv_eq_ediv_of_nonneg _ (Int.natCast_nonneg _)]
  exact (Int.natCast_ediv _ _).symm
theorem bit_64 {s m : Nat} (hs : s < 65536) (hm : m ≤ 64) : bitop .and .i64 ((s : Int).fdiv (2 ^ (min m 64))) 1 = (if s.testBit m then 1 else 0) := by
  rw [shr_nat64 hm]
  have h1 : s >>> m < 9223372036854775808 := by
    have := Nat.shiftRight_le s m
    omega
  have := and_nat64 (a := s >>> m) (b := 1) h1 (by omega)
  rw [show ((1 : Nat) : Int) = 1 from rfl] at this
  rw [this, and_one, Nat.testBit_shiftRight, Nat.add_zero]
  split <;> rfl
theorem bits86 {s : Nat} {σ : List O} (hs : s < 65536) : FSpec Tryz.prog 86 [.i .i64 s] σ (sl (bl s 16) ((bl s 16).length == 0)) σ := by
  refine FSpec.frame (σ := σ) ?_ rfl (by simp)
  refine fn86.spec0 mixed noIt_ok ?_
  rw [ic86]
  refine ab_seq_k fun K1 h1 => ?_
  simp
  refine h1 _ _ _ ?_
  clear h1 K1
  refine ab_seq_k fun K2 h2 => ?_
  simp
  refine h2 _ _ _ ?_
  clear h2 K2
  refine ab_seq_k fun K3 h3 => ?_
  refine ab_seq_k fun K4 h4 => ?_
  simp
  refine h4 _ _ _ ?_
  clear h4 K4
  refine ab_block_k fun K5 h5 => ?_
  refine ab_loop_k (fun m env σ => ∃ (i : Nat) (v : V), i + m = 17 ∧ i ≤ 16 ∧ env = [(0, .i .i64 s), (3, v), (4, .i .i64 i)] ∧ Gr 0 1 σ v (bl s i).length (ints (bl s i))) 17 ⟨0, .ss [] 0 true, by omega, by omega, by simp, by simpa [bl, ints] using Gr.nil⟩ ?_
  rintro m env σ ⟨i, v, hi, hi16, rfl, hv⟩ K6 h6
  rw [ic86_0]
  have hsh := shr_nat64 (s := s) (m := i) (by omega)
  have hbl := bl_len (s := s) (k := i)
  refine ab_seq_k fun K7 h7 => ?_
  refine ab_seq_k fun K8 h8 => ?_
  simp
  rw [hsh]
  refine h8 _ _ _ ?_
  clear h8 K8
  refine ab_cond_of rfl (fun hc => ?_) (fun hc => ?_)
  · have hpos : 0 < s >>> i := by have := of_decide_eq_true hc; omega
    have hlt : i < 16 := by
      false_or_by_contra
      have : i = 16 := by omega
      subst this
      rw [Nat.shiftRight_eq_div_pow, Nat.div_eq_of_lt hs] at hpos
      omega
    simp
    refine h7 _ _ _ ?_
    clear h7 K7
    refine ab_seq_k fun K9 h9 => ?_
    refine ab_block_k fun K10 h10 => ?_
    have hend : ∀ env σ v, get env 0 = .i .i64 s → get env 3 = v → get env 4 = .i .i64 i → Gr 0 1 σ v (bl s (i + 1)).length (ints (bl s (i + 1))) → K10 (some 0) env σ := by
      intro env σ v w0 w3 w4 hg
      refine h10 _ _ _ (h9 _ _ _ ?_)
      simp [w0, w3, w4, wrap64 (x := (i : Int) + 1) (by omega) (by omega)]
      exact h6 _ _ _ (again (m - 1) (by omega) ⟨i + 1, v, by omega, by omega, by simp, hg⟩)
    clear h9 h10 h6
    have hbit := bit_64 (s := s) (m := i) hs (by omega)
    refine ab_seq_k fun K12 h12 => ?_
    simp
    rw [hbit]
    refine h12 _ _ _ ?_
    clear h12 K12
    cases hb : s.testBit i with
    | false =>
      refine ab_cond_of rfl (fun h => by simp at h) (fun _ => ?_)
      simp
      exact hend _ _ _ rfl rfl rfl (by simpa [bl, hb] using hv)
    | true =>
      refine ab_cond_of rfl (fun _ => ?_) (fun h => by simp at h)
      simp
      refine appG hv (by omega) (by omega) (by omega) rfl ?_
      intro v' σ' hv' hgr
      simp
      exact hend _ _ _ rfl rfl rfl (by simpa [bl, hb, ints] using hv')
  · have hz : s >>> i = 0 := by
      have h0 := of_decide_eq_false hc
      generalize s >>> i = q at h0 ⊢
      omega
    have hslt : s < 2 ^ i := by
      rw [Nat.shiftRight_eq_div_pow] at hz
      rcases Nat.lt_or_ge s (2 ^ i) with h | h
      · exact h
      · have := Nat.div_pos h (Nat.two_pow_pos i); omega
    have hbb := bl_shift (j := 16 - i) hslt
    rw [show i + (16 - i) = 16 by omega] at hbb
    simp
    refine h5 _ _ _ (h3 _ _ _ ?_)
    refine ab_seq_k fun K13 h13 => ?_
    simp
    refine h13 _ _ _ ?_
    clear h13 K13
    simp
    refine fin_of 2 ?_
    simp [-frz, rs86]
    rw [frz_G hv (by simp), hbb]

/-- Keys by bits. -/
def keysS (J : List Lg) (b : Nat) : Nat := b % 2 ^ J.length
theorem keys48 {J : List Lg} {f : Bool} {b : Nat} {σ : List O} (hJ : JOK J) (hb : b < 65536) : FSpec Tryz.prog 48 [jamV J f, .i .u16 b] σ (sl (bl (keysS J b) 16) ((bl (keysS J b) 16).length == 0)) σ := by
  refine FSpec.frame (σ := σ) ?_ (by simp) (by simp)
  refine fn48.spec0 mixed noIt_ok ?_
  rw [ic48]
  have hN := hJ.2.1
  have hp := pow12 hN
  have e1 : IntKind.i64.wrap (2 ^ (min J.length 64)) = ((2 ^ J.length : Nat) : Int) := by
    rw [Nat.min_eq_left (by omega), show ((2 : Int) ^ J.length) = ((2 ^ J.length : Nat) : Int) by simp]
    generalize 2 ^ J.length = q at *
    rw [wrap64 (by omega) (by omega)]
  have hk : keysS J b = b % 2 ^ J.length := rfl
  have hlt : keysS J b < 65536 := by
    rw [hk]
    have := Nat.mod_le b (2 ^ J.length)
    omega
  refine ab_seq_k fun K1 h1 => ?_
  simp
  refine h1 _ _ _ ?_
  clear h1 K1
  refine ab_seq_k fun K2 h2 => ?_
  generalize hW : 2 ^ J.length = W at *
  have e2 : (b : Int).tmod (W : Int) = ((b % W : Nat) : Int) := rfl
  have hW0 : W ≠ 0 := by omega
  simp [e1, e2, wrap64 (x := (b : Int)) (by omega) (by omega)]
  rw [← Int.natCast_emod, ← hk]
  refine ⟨by omega, callK_of (bits86 hlt) ?_⟩
  simp
  refine h2 _ _ _ ?_
  simp
  refine fin_of 3 ?_
  simp [rs48]
end Go.Ab
