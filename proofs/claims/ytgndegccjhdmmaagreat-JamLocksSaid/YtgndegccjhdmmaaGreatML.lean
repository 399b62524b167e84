/- Which logs are a lock: of the program and of the reference. -/
import Derived.Test.YtgndegccjhdmmaaGreatJY
import Derived.Test.YtgndegccjhdmmaaGreatJ0
set_option linter.unusedVariables false
set_option linter.unusedSimpArgs false
set_option maxHeartbeats 4000000
set_option maxRecDepth 100000
namespace Go.Ab
open Go Go.Proofs

def cmpl (s : Nat) : Nat := 65535 ^^^ s
theorem cmpl_bit {s j : Nat} (hs : s < 65536) : (cmpl s).testBit j = (decide (j < 16) && !s.testBit j) := by
  unfold cmpl
  rw [Nat.testBit_xor, show 65535 = 2 ^ 16 - 1 from rfl, Nat.testBit_two_pow_sub_one]
  by_cases h : j < 16
  · simp [h]
  · have : s.testBit j = false := Nat.testBit_lt_two_pow (Nat.lt_of_lt_of_le (show s < 2 ^ 16 from hs) (Nat.pow_le_pow_right (by omega) (by omega)))
    simp [h, this]
theorem cmpl_lt {s : Nat} (hs : s < 65536) : cmpl s < 65536 := Nat.xor_lt_two_pow (n := 16) (by omega) hs
theorem com_nat {s : Nat} (hs : s < 65536) : bitop .xor .u16 65535 (s : Int) = ((cmpl s : Nat) : Int) := by
  unfold bitop cmpl
  simp only
  have e1 : (BitVec.ofInt IntKind.u16.bits 65535).toNat = 65535 := by decide
  have e2 : (BitVec.ofInt IntKind.u16.bits (s : Int)).toNat = s := ofInt_nat hs
  rw [BitVec.toNat_xor, e1, e2]
  have := cmpl_lt hs
  unfold cmpl at this
  exact wrapu (by omega) (by omega)

def freeAny (J : List Lg) (s : Nat) (l : List Int) : Bool := l.any fun n => frB J (byB J) n.toNat (cmpl s)
/-- Whether a set is a lock. -/
def lockB (J : List Lg) (s : Nat) : Bool := decide (s ≠ 0) && !freeAny J s (bl s 12)
theorem isLock89 {J : List Lg} {f : Bool} {s : Nat} {σ : List O} (hJ : JOK J) (hs : s < 2 ^ J.length) : FSpec Tryz.prog 89 [heapV J f, .i .u16 s] σ (.b (lockB J s)) σ := by
  refine FSpec.frame (σ := σ) ?_ (by simp) rfl
  have hN := hJ.2.1
  have hpw := pow12 hN
  have hs16 : s < 65536 := by omega
  have hfr := fun σ n hn => free97 (fJ := f) (fb := J.length == 0) (st := stV (left J) (2 ^ J.length)) (n := n) (now := cmpl s) (σ := σ) hJ.small hn (by omega) (cmpl_lt hs16) pure_stV
  have hbl := bl_len (s := s) (k := 12)
  refine fn89.spec0 mixed noIt_ok ?_
  rw [ic89]
  have hcom := com_nat hs16
  generalize hH : heapV J f = H at *
  have hHe : hpV J f (byB J) (J.length == 0) (stV (left J) (2 ^ J.length)) = H := hH
  rw [hHe] at hfr
  refine ab_seq_k fun K1 h1 => ?_
  simp
  refine h1 _ _ _ ?_
  clear h1 K1
  refine ab_seq_k fun K2 h2 => ?_
  refine ab_seq_k fun K3 h3 => ?_
  simp
  refine callK_of (list68 hs16) ?_
  simp
  refine h3 _ _ _ ?_
  clear h3 K3
  refine ab_block_k fun K4 h4 => ?_
  refine ab_loop_k (fun m env σ => ∃ i : Nat, i + m = (bl s 12).length ∧ freeAny J s (bl s 12) = freeAny J s ((bl s 12).drop i) ∧ env = [(0, H), (1, .i .u16 s), (8, sl (bl s 12) ((bl s 12).length == 0)), (9, .i .i64 (bl s 12).length), (10, .i .i64 i)] ∧ σ = []) (bl s 12).length ⟨0, by omega, by simp, by simp, rfl⟩ ?_
  rintro m env σ ⟨i, hi, hd, rfl, rfl⟩ K5 h5
  rw [ic89_0]
  refine ab_seq_k fun K6 h6 => ?_
  simp
  refine h6 _ _ _ ?_
  clear h6 K6
  refine ab_seq_k fun K7 h7 => ?_
  refine ab_cond_of rfl (fun hc => ?_) (fun hc => ?_)
  · have hil : i < (bl s 12).length := by simpa using hc
    obtain ⟨b1, b2, bm⟩ := getD_get hil
    rw [List.drop_eq_getElem_cons hil, b2] at hd
    obtain ⟨x, hx12, hxe, hxb⟩ := bl_mem.1 bm
    generalize (bl s 12).getD i 0 = y at *
    subst hxe
    have hxN : x < J.length := bit_small hs hxb
    simp only [freeAny, List.any_cons, Int.toNat_natCast] at hd
    simp
    refine h7 _ _ _ ?_
    clear h7 K7
    refine ab_seq_k fun K8 h8 => ?_
    refine ab_block_k fun K9 h9 => ?_
    refine ab_seq_k fun K10 h10 => ?_
    simp [hil, b1, b2]
    refine h10 _ _ _ ?_
    clear h10 K10
    refine ab_seq_k fun K11 h11 => ?_
    have hmx : IntKind.u16.max = 65535 := rfl
    have hsg : IntKind.u16.signed = false := rfl
    simp [hmx, hsg]
    rw [hcom]
    refine callK_of (hfr _ x hxN) ?_
    simp
    refine h11 _ _ _ ?_
    clear h11 K11
    cases hf : frB J (byB J) x (cmpl s) with
    | true =>
      rw [hf] at hd
      refine ab_cond_of rfl (fun _ => ?_) (fun h => by cases h)
      refine ab_seq_k fun K12 h12 => ?_
      simp
      refine h12 _ _ _ ?_
      clear h12 K12
      simp
      refine fin_of 1 ?_
      have : lockB J s = false := by unfold lockB freeAny; rw [hd]; simp
      simp [rs89, this]
    | false =>
      rw [hf, Bool.false_or] at hd
      refine ab_cond_of rfl (fun h => by cases h) (fun _ => ?_)
      simp
      refine h9 _ _ _ (h8 _ _ _ ?_)
      simp [wrap64 (x := (i : Int) + 1) (by omega) (by omega)]
      exact h5 _ _ _ (again (m - 1) (by omega) ⟨i + 1, by omega, hd, by simp, rfl⟩)
  · have hil : (bl s 12).length ≤ i := by simp at hc; omega
    rw [List.drop_of_length_le hil] at hd
    simp
    refine h4 _ _ _ (h2 _ _ _ ?_)
    refine ab_seq_k fun K12 h12 => ?_
    simp
    refine h12 _ _ _ ?_
    clear h12 K12
    simp
    refine fin_of 1 ?_
    have : lockB J s = decide (s ≠ 0) := by unfold lockB; rw [hd]; simp [freeAny]
    simp [rs89, this]

/-- What the reference counts. -/
def cntIn (l b : List Int) : Nat := b.countP fun x => decide (x ∈ l)
def badR (J : List Lg) (l : List Int) (n : Int) : Bool := (decide (kd J n.toNat = 0) && decide (cntIn l (J.getD n.toNat (0, [], true)).2.1 = 0)) || (decide (kd J n.toNat = 1) && decide (cntIn l (J.getD n.toNat (0, [], true)).2.1 < (J.getD n.toNat (0, [], true)).2.1.length))
def lockR (J : List Lg) (l : List Int) : Bool := decide (l ≠ []) && !l.any (badR J l)
theorem cntIn_snoc {l b : List Int} {i : Nat} {x : Int} (h : b[i]? = some x) : cntIn l (b.take (i + 1)) = cntIn l (b.take i) + if x ∈ l then 1 else 0 := by
  unfold cntIn
  rw [List.take_add_one, h, List.countP_append]
  simp [List.countP_cons]
theorem bad_eq {J : List Lg} {l : List Int} {n : Nat} (hJ : JOK J) (hc : ∀ p ∈ J, isL J.length p.2.1 = true ∧ (p.1 = 0 ∨ p.1 = 1)) (hl : isL J.length l = true) (hn : n < J.length) : badR J l n = frB J (byB J) n (cmpl (setB l)) := by
  have hm := isLF_mem hl
  have hs := (isL_set hJ hl).1
  obtain ⟨p, hp⟩ : ∃ p, J[n]? = some p := ⟨_, List.getElem?_eq_getElem hn⟩
  obtain ⟨hL, hk⟩ := hc p (List.mem_of_getElem? hp)
  have hpm := isLF_mem hL
  have hg : J.getD n (0, [], true) = p := by rw [List.getD_eq_getElem?_getD, hp]; rfl
  have hB : (byB J).getD n 0 = setB p.2.1 := by
    unfold byB
    rw [List.getD_eq_getElem?_getD, List.getElem?_map, hp]; rfl
  have hkd : kd J n = p.1 := by unfold kd; rw [hg]
  have hbit := fun j => setB_bit (l := p.2.1) (fun x hx => (hpm x hx).1) (j := j)
  have hlb := fun j => setB_bit (l := l) (fun x hx => (hm x hx).1) (j := j)
  have hN := hJ.2.1
  have hcm : ∀ x ∈ p.2.1, ((cmpl (setB l)).testBit x.toNat = true ↔ ¬ x ∈ l) := fun x hx => by
    have h1 := hpm x hx
    rw [cmpl_bit hs]
    have h2 := hlb x.toNat
    rw [show ((x.toNat : Nat) : Int) = x by omega] at h2
    rw [Bool.and_eq_true, decide_eq_true_eq, Bool.not_eq_true', ← h2]
    simp
    intro _
    omega
  unfold badR frB
  rw [Int.toNat_natCast, hg, hkd, hB]
  rcases hk with h0 | h1
  · rw [h0]
    simp only [if_pos, decide_true, Bool.true_and, show ((0 : Int) = 1) = False from by simp, decide_false, Bool.false_and, Bool.or_false]
    rw [Bool.eq_iff_iff, decide_eq_true_eq, decide_eq_true_eq, less_zero]
    unfold cntIn
    rw [List.countP_eq_zero]
    constructor
    · intro h j hj
      have hj' := (hbit j).1 hj
      have := (hcm _ hj').2 (by simpa using h _ hj')
      rwa [Int.toNat_natCast] at this
    · intro h x hx
      have h1 := hpm x hx
      have := h x.toNat ((hbit _).2 (by rw [show ((x.toNat : Nat) : Int) = x by omega]; exact hx))
      simpa using (hcm x hx).1 this
  · rw [h1]
    simp only [show ((1 : Int) = 0) = False from by simp, if_false, decide_true, Bool.true_and, decide_false, Bool.false_and, Bool.false_or]
    rw [Bool.eq_iff_iff, decide_eq_true_eq, decide_eq_true_eq, and_ne]
    have hle := List.countP_le_length (p := fun x => decide (x ∈ l)) (l := p.2.1)
    unfold cntIn
    have hne : (p.2.1.countP (fun x => decide (x ∈ l)) < p.2.1.length) ↔ ¬ p.2.1.countP (fun x => decide (x ∈ l)) = p.2.1.length := by omega
    rw [hne, List.countP_eq_length]
    constructor
    · intro h
      false_or_by_contra
      rename_i hno
      refine h fun x hx => ?_
      have h2 := hpm x hx
      rw [decide_eq_true_eq]
      false_or_by_contra
      rename_i hxl
      refine hno ⟨x.toNat, (hbit _).2 ?_, (hcm x hx).2 hxl⟩
      rw [show ((x.toNat : Nat) : Int) = x by omega]
      exact hx
    · rintro ⟨j, h2, h3⟩ h4
      have hj' := (hbit j).1 h2
      have h5 := h4 _ hj'
      have := (hcm _ hj').1 (by rw [Int.toNat_natCast]; exact h3)
      simp at h5
      exact this h5
theorem lockR_eq {J : List Lg} {l : List Int} (hJ : JOK J) (hc : ∀ p ∈ J, isL J.length p.2.1 = true ∧ (p.1 = 0 ∨ p.1 = 1)) (hl : isL J.length l = true) : lockR J l = lockB J (setB l) := by
  have hm := isLF_mem hl
  have hN := hJ.2.1
  have hb : bl (setB l) 12 = l := bl_setB hl hN
  unfold lockR lockB freeAny
  rw [hb]
  have h1 : decide (l ≠ []) = decide (setB l ≠ 0) := by
    rw [Bool.eq_iff_iff, decide_eq_true_eq, decide_eq_true_eq]
    have := bl_nil (s := setB l) (k := 12) (Nat.lt_of_lt_of_le (setB_N hl) (Nat.pow_le_pow_right (by omega) hN))
    rw [hb] at this
    exact not_congr this
  rw [h1]
  congr 2
  rw [Bool.eq_iff_iff, List.any_eq_true, List.any_eq_true]
  refine exists_congr fun x => and_congr_right fun hx => ?_
  have := hm x hx
  have e := bad_eq (n := x.toNat) hJ hc hl (by omega)
  rw [show ((x.toNat : Nat) : Int) = x by omega] at e
  rw [e]
end Go.Ab
