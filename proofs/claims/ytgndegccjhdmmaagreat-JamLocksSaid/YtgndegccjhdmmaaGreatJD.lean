/- Heaps: which logs are free, in which wave they go. -/
import Derived.Test.YtgndegccjhdmmaaGreatJC
set_option linter.unusedVariables false
set_option linter.unusedSimpArgs false
set_option maxHeartbeats 4000000
set_option maxRecDepth 100000
namespace Go.Ab
open Go Go.Proofs

theorem ints_set {l : List Int} {i : Nat} {x : Int} : (ints l).set i (.i .i64 x) = ints (l.set i x) := by simp [ints, List.map_set]
def rowF (n : Nat) (f : Nat → Int) : List Int := (List.range n).map f
@[simp] theorem rowF_len {n f} : (rowF n f).length = n := by simp [rowF]
theorem rowF_get {n : Nat} {f : Nat → Int} {k : Nat} (h : k < n) : (rowF n f)[k]? = some (f k) := by simp [rowF, h]
@[simp] theorem rowF_at {n : Nat} {f : Nat → Int} {k : Nat} {h : k < (rowF n f).length} : (rowF n f)[k] = f k := by simp [rowF]
def upd (f : Nat → Int) (k : Nat) (x : Int) : Nat → Int := fun i => if i = k then x else f i
theorem rowF_set {n : Nat} {f : Nat → Int} {k : Nat} {x : Int} : (rowF n f).set k x = rowF n (upd f k x) := by
  apply List.ext_getElem?
  intro i
  rw [List.getElem?_set]
  by_cases hi : i < n
  · rw [rowF_get hi, rowF_get hi]
    unfold upd
    by_cases h : k = i
    · subst h; simp [hi]
    · rw [if_neg h, if_neg (fun e => h e.symm)]
  · have e1 : (rowF n f)[i]? = none := by rw [List.getElem?_eq_none_iff]; simp; omega
    have e2 : (rowF n (upd f k x))[i]? = none := by rw [List.getElem?_eq_none_iff]; simp; omega
    rw [e1, e2]
    split <;> simp
    omega
theorem rowF_congr {n : Nat} {f g : Nat → Int} (h : ∀ i, i < n → f i = g i) : rowF n f = rowF n g := by
  unfold rowF
  exact List.map_congr_left fun i hi => h i (List.mem_range.1 hi)
theorem rowF_inj {n : Nat} {f g : Nat → Int} : rowF n f = rowF n g ↔ ∀ i, i < n → f i = g i := by
  refine ⟨fun h i hi => ?_, rowF_congr⟩
  have := congrArg (·[i]?) h
  simp only [rowF_get hi] at this
  exact Option.some.inj this

def us (B : List Nat) : List V := B.map fun (n : Nat) => V.i .u16 (n : Int)
@[simp] theorem us_len {B : List Nat} : (us B).length = B.length := by simp [us]
@[simp] theorem pure_us {B : List Nat} : pureL (us B) = true := by
  induction B with
  | nil => rfl
  | cons a l ih => simp [us] at ih ⊢; exact ih
@[simp high] theorem get_us {B : List Nat} {i : Nat} : (us B)[i]? = B[i]?.map (fun (n : Nat) => V.i .u16 (n : Int)) := by simp [us]
abbrev hpC (J : List Lg) (fJ : Bool) (b st : V) : List V := [slJ J fJ, b, st]
abbrev hpV (J : List Lg) (fJ : Bool) (B : List Nat) (fb : Bool) (st : V) : V := .sp (hpC J fJ (.ss (us B) B.length fb) st) 0
def kd (J : List Lg) (n : Nat) : Int := (J.getD n (0, [], true)).1
/-- Is a log free if others are gone. -/
def frB (J : List Lg) (B : List Nat) (n now : Nat) : Bool := if kd J n = 0 then decide (less (B.getD n 0) now = 0) else decide (B.getD n 0 &&& now ≠ 0)
def SmallB (J : List Lg) (B : List Nat) : Prop := B.length = J.length ∧ ∀ x ∈ B, x < 65536
theorem SmallB.get {J B} (h : SmallB J B) {n : Nat} (hn : n < J.length) : B[n]? = some (B.getD n 0) ∧ B.getD n 0 < 65536 := by
  have h1 : n < B.length := by rw [h.1]; exact hn
  have e : B[n]? = some (B.getD n 0) := by rw [List.getD_eq_getElem?_getD, List.getElem?_eq_getElem h1]; rfl
  exact ⟨e, h.2 _ (List.mem_of_getElem? e)⟩
theorem kd_get {J : List Lg} {n : Nat} (hn : n < J.length) : ∃ p, J[n]? = some p ∧ p.1 = kd J n := by
  refine ⟨J[n], List.getElem?_eq_getElem hn, ?_⟩
  unfold kd
  rw [List.getD_eq_getElem?_getD, List.getElem?_eq_getElem hn]
  rfl

theorem free97 {J : List Lg} {fJ fb : Bool} {B : List Nat} {st : V} {n now : Nat} {σ : List O} (hB : SmallB J B) (hn : n < J.length) (hN : J.length ≤ 1000000) (hnow : now < 65536) (hst : st.pure = true) :
    FSpec Tryz.prog 97 [hpV J fJ B fb st, .i .i64 n, .i .u16 now] σ (.b (frB J B n now)) σ := by
  refine FSpec.frame (σ := σ) ?_ (by simp [hst]) rfl
  obtain ⟨b1, b2⟩ := hB.get hn
  obtain ⟨p, hp, hk⟩ := kd_get hn
  obtain ⟨-, p1, -⟩ := lgV_get hp
  obtain ⟨hp1, p1'⟩ := List.getElem?_eq_some_iff.1 p1
  obtain ⟨hb', b1'⟩ := List.getElem?_eq_some_iff.1 b1
  have hlen := hB.1
  have hle : n * 2 + 2 ≤ J.length * 2 := by omega
  have hf : frB J B n now = if kd J n = 0 then decide (less (B.getD n 0) now = 0) else decide (B.getD n 0 &&& now ≠ 0) := rfl
  rw [hk] at p1 p1'
  generalize B.getD n 0 = b at *
  generalize kd J n = k at *
  refine fn97.spec0 mixed noIt_ok ?_
  rw [ic97]
  refine ab_seq_k fun K1 h1 => ?_
  simp
  refine h1 _ _ _ ?_
  clear h1 K1
  refine ab_seq_k fun K2 h2 => ?_
  refine ab_seq_k fun K3 h3 => ?_
  simp [hn, hle, p1, p1']
  refine h3 _ _ _ ?_
  clear h3 K3
  by_cases h0 : k = 0
  · refine ab_cond_of rfl (fun _ => ?_) (fun h => by simp [h0] at h)
    rw [if_pos h0] at hf
    refine ab_seq_k fun K4 h4 => ?_
    have e := andNot_nat (a := b) (b := now) b2 hnow
    simp [hlen, hn, b1, b1']
    rw [e]
    refine h4 _ _ _ ?_
    simp
    refine fin_of 1 ?_
    simp [rs97, hf]
  · refine ab_cond_of rfl (fun h => absurd (of_decide_eq_true h) h0) (fun _ => ?_)
    rw [if_neg h0] at hf
    simp
    refine h2 _ _ _ ?_
    refine ab_seq_k fun K4 h4 => ?_
    have e := and_nat (a := b) (b := now) b2 hnow
    simp [hlen, hn, b1, b1']
    rw [e]
    refine h4 _ _ _ ?_
    simp
    refine fin_of 1 ?_
    simp [rs97, hf]

/-! ### Waves -/
section
variable (J : List Lg) (B : List Nat)
/-- What is gone in a wave, up to a log. -/
def newTo (now : Nat) : Nat → Nat
  | 0 => now
  | n + 1 => if !now.testBit n && frB J B n now then newTo now n ||| 2 ^ n else newTo now n
def gk (keys : Nat) : Nat → Nat
  | 0 => keys
  | r + 1 => newTo J B (gk keys r) J.length
def wr (keys : Nat) : Nat → Nat → Int
  | 0, n => if n < J.length ∧ keys.testBit n = false then -1 else 0
  | r + 1, n => if n < J.length ∧ (!(gk J B keys r).testBit n && frB J B n (gk J B keys r)) = true then (r : Int) + 1 else wr keys r n
end
variable {J : List Lg} {B : List Nat} {fJ fb : Bool} {st : V}
theorem newTo_bit {now : Nat} : ∀ {n j : Nat}, (newTo J B now n).testBit j = (now.testBit j || (decide (j < n) && frB J B j now))
  | 0, j => by simp [newTo]
  | n + 1, j => by
    have ih := newTo_bit (now := now) (n := n) (j := j)
    unfold newTo
    by_cases hj : j = n
    · subst hj
      split
      · rename_i h
        rw [Nat.testBit_or, Nat.testBit_two_pow, ih]
        simp at h
        simp [h]
      · rename_i h
        rw [ih]
        simp at h ⊢
        intro h2
        cases h3 : now.testBit j with
        | true => rfl
        | false => rw [h h3] at h2; cases h2
    · have h1 : decide (j < n + 1) = decide (j < n) := by
        by_cases h : j < n
        · simp [h]; omega
        · simp [h]; omega
      split
      · rw [Nat.testBit_or, Nat.testBit_two_pow, ih, h1]
        have h2 : decide (n = j) = false := decide_eq_false (fun e => hj e.symm)
        rw [h2, Bool.or_false]
      · rw [ih, h1]
theorem newTo_lt {now : Nat} (h : now < 65536) : ∀ {n : Nat}, n ≤ 16 → newTo J B now n < 65536
  | 0, _ => h
  | n + 1, hn => by
    have ih := newTo_lt h (n := n) (by omega)
    unfold newTo
    split
    · have hp : 2 ^ n < 2 ^ 16 := Nat.pow_lt_pow_right (by omega) (by omega)
      exact Nat.or_lt_two_pow (n := 16) ih hp
    · exact ih
theorem gk_lt {keys : Nat} (h : keys < 65536) (hN : J.length ≤ 16) : ∀ {r : Nat}, gk J B keys r < 65536
  | 0 => h
  | r + 1 => newTo_lt (gk_lt h hN) hN
/-- How many logs are not gone. -/
def cntN (s : Nat) : Nat → Nat
  | 0 => 0
  | n + 1 => cntN s n + (if s.testBit n then 0 else 1)
theorem cntN_le {s : Nat} : ∀ {n}, cntN s n ≤ n
  | 0 => Nat.le_refl _
  | n + 1 => by have := cntN_le (s := s) (n := n); simp only [cntN]; split <;> omega
theorem cntN_mono {s t : Nat} (h : ∀ j, s.testBit j = true → t.testBit j = true) : ∀ {n}, cntN t n ≤ cntN s n
  | 0 => Nat.le_refl _
  | n + 1 => by
    have ih := cntN_mono h (n := n)
    have := h n
    simp only [cntN]
    cases hs : s.testBit n <;> cases ht : t.testBit n <;> simp_all
    omega
theorem cntN_lt {s t : Nat} (h : ∀ j, s.testBit j = true → t.testBit j = true) : ∀ {n}, (∃ j, j < n ∧ s.testBit j = false ∧ t.testBit j = true) → cntN t n < cntN s n
  | 0, ⟨j, hj, _⟩ => by omega
  | n + 1, ⟨j, hj, h1, h2⟩ => by
    have hm := cntN_mono h (n := n)
    by_cases hjn : j = n
    · subst hjn
      simp only [cntN, h1, h2]
      simp; omega
    · have ih := cntN_lt h (n := n) ⟨j, by omega, h1, h2⟩
      have := h n
      simp only [cntN]
      cases hs : s.testBit n <;> cases ht : t.testBit n <;> simp_all
      omega
theorem gk_same {keys r : Nat} (h : gk J B keys (r + 1) = gk J B keys r) : ∀ d, gk J B keys (r + d) = gk J B keys r
  | 0 => rfl
  | d + 1 => by
    have ih := gk_same h d
    show newTo J B (gk J B keys (r + d)) J.length = _
    rw [ih]
    exact h
theorem wr_same {keys r : Nat} (h : gk J B keys (r + 1) = gk J B keys r) : ∀ d n, wr J B keys (r + d) n = wr J B keys r n
  | 0, n => rfl
  | d + 1, n => by
    have ih := wr_same h d n
    have hg := gk_same h d
    show (if n < J.length ∧ (!(gk J B keys (r + d)).testBit n && frB J B n (gk J B keys (r + d))) = true then (((r + d : Nat) : Int) + 1) else wr J B keys (r + d) n) = _
    rw [hg, ih, if_neg]
    rintro ⟨h1, h2⟩
    have h3 : (gk J B keys (r + 1)).testBit n = true := by
      show (newTo J B (gk J B keys r) J.length).testBit n = true
      rw [newTo_bit]
      simp at h2
      simp [h1, h2]
    rw [h] at h3
    simp [h3] at h2
/-- Nothing new: what is gone stays as it is. -/
theorem gk_done {keys r : Nat} (h : ∀ n, n < J.length → (!(gk J B keys r).testBit n && frB J B n (gk J B keys r)) = false) : gk J B keys (r + 1) = gk J B keys r := by
  apply Nat.eq_of_testBit_eq
  intro j
  show (newTo J B (gk J B keys r) J.length).testBit j = _
  rw [newTo_bit]
  by_cases hj : j < J.length
  · have := h j hj
    cases h1 : (gk J B keys r).testBit j
    · rw [h1] at this
      simp at this
      simp [this]
    · simp
  · simp [hj]
theorem wr_b {keys : Nat} : ∀ {r n : Nat}, -1 ≤ wr J B keys r n ∧ wr J B keys r n ≤ r
  | 0, n => by simp only [wr]; split <;> simp
  | r + 1, n => by
    have := wr_b (keys := keys) (r := r) (n := n)
    simp only [wr]
    split <;> omega
end Go.Ab
