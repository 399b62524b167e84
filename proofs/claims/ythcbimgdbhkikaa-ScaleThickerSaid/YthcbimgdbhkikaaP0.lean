/- What laws on other stems and rules use: valid ones, best values told by what they are, one more bad foot. -/
import Derived.Test.YthcbimgdbhkikaaS3
import Derived.Test.YthcbimgdbhkikaaG1
set_option linter.unusedVariables false
set_option linter.unusedSimpArgs false
set_option maxHeartbeats 4000000
namespace Go.Ab
open Go Go.Proofs

theorem wk (σ : List O) : FSpec Try.prog 17 [] σ (.b true) σ := FSpec.frame works_ok (by simp) rfl
theorem hasBad_iff {b : List Int} {x y : Int} : hasBad b x y = true ↔ ∃ f ∈ b, x ≤ f ∧ f < y := by
  unfold hasBad
  simp

section
variable {sc : Nat → Nat → Int} {lt : Nat → Nat → Bool} {vn : Nat → Int}
theorem acc_base {i : Nat} : ∀ {j : Nat}, vn (i + 1) ≤ acc sc lt vn i j
  | 0 => Int.le_refl _
  | j + 1 => by
    have := acc_base (i := i) (j := j)
    simp only [acc]
    split
    · omega
    · exact this
theorem acc_ge {i k : Nat} : ∀ {j : Nat}, k < j → 0 < sc i (i + 1 + k) → lt i (i + 1 + k) = true → sc i (i + 1 + k) + vn (i + 1 + k) ≤ acc sc lt vn i j
  | 0, h, _, _ => absurd h (by omega)
  | j + 1, h, hp, hl => by
    simp only [acc]
    by_cases hk : k = j
    · subst hk
      rw [if_pos ⟨hp, hl⟩]
      omega
    · have := acc_ge (i := i) (k := k) (j := j) (by omega) hp hl
      split
      · omega
      · exact this
theorem acc_cases2 {i : Nat} : ∀ {j : Nat}, acc sc lt vn i j = vn (i + 1) ∨ ∃ k, k < j ∧ 0 < sc i (i + 1 + k) ∧ lt i (i + 1 + k) = true ∧ acc sc lt vn i j = sc i (i + 1 + k) + vn (i + 1 + k)
  | 0 => .inl rfl
  | j + 1 => by
    simp only [acc]
    split
    · rename_i h
      have hm : max (acc sc lt vn i j) (sc i (i + 1 + j) + vn (i + 1 + j)) = acc sc lt vn i j ∨ max (acc sc lt vn i j) (sc i (i + 1 + j) + vn (i + 1 + j)) = sc i (i + 1 + j) + vn (i + 1 + j) := by omega
      rcases hm with hm | hm
      · rw [hm]
        rcases acc_cases2 (i := i) (j := j) with h1 | ⟨k, h1, h2, h3, h4⟩
        · exact .inl h1
        · exact .inr ⟨k, by omega, h2, h3, h4⟩
      · exact .inr ⟨j, by omega, h.1, h.2, hm⟩
    · rcases acc_cases2 (i := i) (j := j) with h1 | ⟨k, h1, h2, h3, h4⟩
      · exact .inl h1
      · exact .inr ⟨k, by omega, h2, h3, h4⟩
end
def fineP (t b : List Int) (r : Ru) : Bool := !(decide (70 < t.length) || decide (70 < b.length)) && decide (openE t b [r] = 0)
theorem fineP_ok {t b : List Int} {r : Ru} (h : fineP t b r = true) (hbb : ∀ x ∈ b, -9223372036854775808 ≤ x ∧ x < 9223372036854775808) : Sz t b ∧ openE t b [r] = 0 := by
  simp only [fineP, Bool.and_eq_true, Bool.not_eq_true', Bool.or_eq_false_iff, decide_eq_false_iff_not, decide_eq_true_eq] at h
  exact ⟨⟨by omega, by omega, hbb⟩, h.2⟩

theorem fine_ok {t b : List Int} {ft fb : Bool} {r : Ru} (ht : (t.length : Int) < 9223372036854775808) (hb : (b.length : Int) < 9223372036854775808) (hbb : ∀ x ∈ b, -9223372036854775808 ≤ x ∧ x < 9223372036854775808) :
    FSpec Try.prog 40 [.agg [sl t ft, sl b fb], .agg r.cells] [] (.b (fineP t b r)) [] := by
  refine fn40.spec0 mixed noIt_ok ?_
  rw [ic40]
  have h7 : List.take 7 r.cells = r.cells := rfl
  have l7 : r.cells.length = 7 := rfl
  refine ab_seq_k fun K1 h1 => ?_
  simp
  refine h1 _ _ _ ?_
  clear h1 K1
  refine ab_seq_k fun K2 h2 => ?_
  simp
  refine callK_of (FSpec.frame (great_ok (t := t) (b := b) (ft := ft) (fb := fb) ht hb) (by simp) rfl) ?_
  by_cases hg : (decide (70 < t.length) || decide (70 < b.length)) = true
  · simp [hg]
    refine h2 _ _ _ ?_
    simp
    exact fin_of 1 (by simp [rs40, fineP, hg])
  · have hg' : (decide (70 < t.length) || decide (70 < b.length)) = false := by simpa using hg
    have hgn : ¬ 70 < t.length ∧ ¬ 70 < b.length := by simpa using hg'
    have hchk := refCheck (t := t) (b := b) (ft := ft) (fb := fb) (r := r) (by omega) (by omega) hbb
    rw [openE_one] at hchk
    simp [hg', h7, l7]
    refine callK_of (FSpec.frame hchk (by simp) rfl) ?_
    simp
    refine h2 _ _ _ ?_
    simp
    exact fin_of 1 (by simp [rs40, fineP, hgn.1, hgn.2])

def u8s (l : List Int) : List V := l.map (V.i .u8)
@[simp] theorem u8s_len {l : List Int} : (u8s l).length = l.length := by simp [u8s]
@[simp] theorem u8s_get {l : List Int} {i : Nat} : (u8s l)[i]? = l[i]?.map (V.i .u8) := by simp [u8s]
@[simp] theorem pure_u8s {l : List Int} : pureL (u8s l) = true := by
  induction l with
  | nil => rfl
  | cons a l ih => simp [u8s] at ih ⊢; exact ih
abbrev slB (l : List Int) (f : Bool) : V := .ss (u8s l) l.length f

/-- The greatest sum of logs that are let, from each place on. -/
structure BestV (ok : Nat → Nat → Prop) (sc : Nat → Nat → Int) (L : Nat) (v : Nat → Int) : Prop where
  last : v L = 0
  step : ∀ i, i < L → v (i + 1) ≤ v i
  log : ∀ i j, i < j → j ≤ L → ok i j → sc i j + v j ≤ v i
  at_ : ∀ i, i < L → v i = v (i + 1) ∨ ∃ j, i < j ∧ j ≤ L ∧ ok i j ∧ v i = sc i j + v j

section
variable {ok ok' : Nat → Nat → Prop} {sc sc' : Nat → Nat → Int} {L : Nat} {v v' : Nat → Int}
theorem BestV.le (h : BestV ok sc L v) (h' : BestV ok' sc' L v') (hs : ∀ i j, i < j → j ≤ L → ok i j → ok' i j ∧ sc i j ≤ sc' i j) : ∀ {k i : Nat}, L - i = k → i ≤ L → v i ≤ v' i := by
  intro k
  induction k using Nat.strongRecOn with
  | ind k ih =>
    intro i hk hi
    by_cases hl : i < L
    · rcases h.at_ i hl with e | ⟨j, h1, h2, h3, e⟩
      · have := ih (L - (i + 1)) (by omega) rfl (by omega)
        have := h'.step i hl
        omega
      · have := ih (L - j) (by omega) rfl (by omega)
        obtain ⟨g1, g2⟩ := hs i j h1 h2 h3
        have := h'.log i j h1 h2 g1
        omega
    · have : i = L := by omega
      subst this
      rw [h.last, h'.last]
      exact Int.le_refl _
theorem BestV.eq (h : BestV ok sc L v) (h' : BestV ok' sc' L v') (hs : ∀ i j, i < j → j ≤ L → ((ok i j ↔ ok' i j) ∧ (ok i j → sc i j = sc' i j))) {i : Nat} (hi : i ≤ L) : v i = v' i := by
  have h1 := h.le h' (fun i j a b c => ⟨((hs i j a b).1).1 c, by rw [(hs i j a b).2 c]; exact Int.le_refl _⟩) rfl hi
  have h2 := h'.le h (fun i j a b c => ⟨((hs i j a b).1).2 c, by rw [(hs i j a b).2 (((hs i j a b).1).2 c)]; exact Int.le_refl _⟩) rfl hi
  omega
theorem BestV.mono (h : BestV ok sc L v) {i j : Nat} (hij : i ≤ j) (hj : j ≤ L) : v j ≤ v i := by
  obtain ⟨d, rfl⟩ : ∃ d, j = i + d := ⟨j - i, by omega⟩
  clear hij
  induction d with
  | zero => simp
  | succ d ih =>
    have h1 := ih (by omega)
    have h2 := h.step (i + d) (by omega)
    rw [show i + (d + 1) = i + d + 1 by omega]
    omega
end

theorem val_best {sc : Nat → Nat → Int} {lt : Nat → Nat → Bool} {L : Nat} : BestV (fun i j => 0 < sc i j ∧ lt i j = true) sc L (val sc lt L) where
  last := val_last
  step i h := by rw [val_rec h]; exact acc_base
  log i j h1 h2 h3 := by
    rw [val_rec (i := i) (by omega)]
    have := acc_ge (sc := sc) (lt := lt) (vn := val sc lt L) (i := i) (k := j - (i + 1)) (j := L - i) (by omega)
      (by rw [show i + 1 + (j - (i + 1)) = j by omega]; exact h3.1) (by rw [show i + 1 + (j - (i + 1)) = j by omega]; exact h3.2)
    rwa [show i + 1 + (j - (i + 1)) = j by omega] at this
  at_ i h := by
    rw [val_rec h]
    rcases acc_cases2 (sc := sc) (lt := lt) (vn := val sc lt L) (i := i) (j := L - i) with h' | ⟨k, h1, h2, h3, h4⟩
    · exact .inl h'
    · exact .inr ⟨i + 1 + k, by omega, by omega, ⟨h2, h3⟩, h4⟩
theorem rest_best {t b : List Int} {r : Ru} : BestV (fun i j => 0 < scN t b r i j) (scN t b r) (t.length - 1) (restN t b r allL) := by
  have h := val_best (sc := scN t b r) (lt := allL.letsN) (L := t.length - 1)
  refine ⟨h.last, h.step, fun i j h1 h2 h3 => h.log i j h1 h2 ⟨h3, allL_lets⟩, fun i hi => ?_⟩
  rcases h.at_ i hi with e | ⟨j, a1, a2, a3, e⟩
  · exact .inl e
  · exact .inr ⟨j, a1, a2, a3.1, e⟩

/-- What is known of a valid stem and rule. -/
structure Fine (t b : List Int) (ft fb : Bool) (r : Ru) (n : Int) : Prop where
  ok : Ok t b r
  sz : Sz t b
  E : openE t b [r] = 0
  en : n = restN t b r allL 0
  n0 : 0 ≤ n
  n1 : n ≤ 12960000
  best : ∀ σ, FSpec Try.prog 26 [.agg [sl t ft, sl b fb], .agg r.cells] σ (.tup [.i .i64 n, .i .i64 0]) σ

theorem fine_of {t b : List Int} {r : Ru} (ft fb : Bool) (h : fineP t b r = true) (hbb : ∀ x ∈ b, -9223372036854775808 ≤ x ∧ x < 9223372036854775808) : ∃ n, Fine t b ft fb r n := by
  obtain ⟨hsz, hE⟩ := fineP_ok h hbb
  obtain ⟨ok, -⟩ := open_some (ft := ft) (fb := fb) hsz hE
  have hn := restN_le (t := t) (b := b) (l := allL) ok.r ok.tv ok.n61 (i := 0) (Nat.zero_le _)
  refine ⟨_, ok, hsz, hE, rfl, hn.1, hn.2, fun σ => ?_⟩
  have := FSpec.frame (σ := σ) (best_ok (ft := ft) (fb := fb) (r := r) hsz) (by simp) (by simp [pairV])
  simpa [bestP, hE, pairV] using this
theorem badFrom_iff {n : Int} : ∀ {b : List Int} {next : Int}, badFrom n next b = true ↔ (∀ x ∈ b, next ≤ x ∧ x ≤ n - 2) ∧ b.Pairwise (· < ·)
  | [], next => by simp [badFrom]
  | f :: b, next => by
    simp only [badFrom, Bool.and_eq_true, badFrom_iff (b := b), fit, decide_eq_true_eq, List.mem_cons, forall_eq_or_imp, List.pairwise_cons]
    constructor
    · rintro ⟨⟨h1, h2⟩, h3, h4⟩
      refine ⟨⟨⟨h1, h2⟩, fun x hx => ?_⟩, fun x hx => ?_, h4⟩
      · have := h3 x hx; omega
      · have := h3 x hx; omega
    · rintro ⟨⟨⟨h1, h2⟩, h3⟩, h4, h5⟩
      refine ⟨⟨h1, h2⟩, fun x hx => ?_, h5⟩
      have := h3 x hx
      have := h4 x hx
      omega
theorem checkStem_iff {t b : List Int} : checkStem t b = 0 ↔ 2 ≤ t.length ∧ t.length ≤ 61 ∧ (∀ x ∈ t, 0 ≤ x ∧ x ≤ 60) ∧ falling t ∧ badFrom t.length 0 b = true := by
  refine ⟨stem_ok, fun ⟨h1, h2, h3, h4, h5⟩ => ?_⟩
  have e1 : fit 2 61 t.length = true := by simp only [fit, Bool.and_eq_true, decide_eq_true_eq]; omega
  have e2 : t.all (fit 0 60) = true := by
    rw [List.all_eq_true]
    intro x hx
    have := h3 x hx
    simp only [fit, Bool.and_eq_true, decide_eq_true_eq]
    exact this
  simp [checkStem, e1, e2, h4, h5]
/-- The bad feet, and the foot a, of the first k. -/
def addB (b : List Int) (a : Int) (k : Nat) : List Int := ((List.range k).map Int.ofNat).filter fun i => decide (i = a) || b.any fun f => decide (f = i)
theorem addB_succ {b : List Int} {a : Int} {k : Nat} : addB b a (k + 1) = addB b a k ++ if (decide ((k : Int) = a) || b.any fun f => decide (f = (k : Int))) = true then [(k : Int)] else [] := by
  unfold addB
  rw [List.range_succ, List.map_append, List.filter_append]
  congr 1
  simp only [List.map_cons, List.map_nil, List.filter_cons, List.filter_nil]
  rfl
theorem addB_mem {b : List Int} {a x : Int} {k : Nat} : x ∈ addB b a k ↔ 0 ≤ x ∧ x < k ∧ (x = a ∨ x ∈ b) := by
  simp only [addB, List.mem_filter, List.mem_map, List.mem_range, Bool.or_eq_true, decide_eq_true_eq, List.any_eq_true]
  constructor
  · rintro ⟨⟨y, h1, rfl⟩, h2⟩
    refine ⟨by simp, by simp; omega, ?_⟩
    rcases h2 with h2 | ⟨f, h2, h3⟩
    · exact .inl h2
    · right; rw [← h3]; exact h2
  · rintro ⟨h1, h2, h3⟩
    refine ⟨⟨x.toNat, by omega, by show ((x.toNat : Nat) : Int) = x; omega⟩, ?_⟩
    rcases h3 with h3 | h3
    · exact .inl h3
    · exact .inr ⟨x, h3, rfl⟩
theorem addB_len {b : List Int} {a : Int} {k : Nat} : (addB b a k).length ≤ k := by
  unfold addB
  have := List.length_filter_le (fun i => decide (i = a) || b.any fun f => decide (f = i)) ((List.range k).map Int.ofNat)
  simpa using this
theorem addB_check {t b : List Int} {a : Nat} (h : checkStem t b = 0) : checkStem t (addB b a (t.length - 1)) = 0 := by
  obtain ⟨a1, a2, a3, a4, a5⟩ := stem_ok h
  rw [checkStem_iff]
  refine ⟨a1, a2, a3, a4, badFrom_iff.2 ⟨fun x hx => ?_, ?_⟩⟩
  · obtain ⟨h1, h2, h3⟩ := addB_mem.1 hx
    omega
  · unfold addB
    refine List.Pairwise.filter _ ?_
    rw [List.pairwise_map]
    refine List.pairwise_lt_range.imp ?_
    intro x y hxy
    simp only [Int.ofNat_eq_natCast]
    omega
theorem scN_add {t b : List Int} {r : Ru} {a i j : Nat} (hij : i < j) (hj : j ≤ t.length - 1) : scN t (addB b a (t.length - 1)) r i j = if i ≤ a ∧ a < j then 0 else scN t b r i j := by
  unfold scN scaleP
  by_cases hp : i ≤ a ∧ a < j
  · have : hasBad (addB b a (t.length - 1)) i j = true := by
      rw [hasBad_iff]
      exact ⟨a, addB_mem.2 ⟨by omega, by omega, .inl rfl⟩, by omega, by omega⟩
    rw [this, if_pos hp]
    rfl
  · have : hasBad (addB b a (t.length - 1)) i j = hasBad b i j := by
      rw [Bool.eq_iff_iff, hasBad_iff, hasBad_iff]
      constructor
      · rintro ⟨f, h1, h2, h3⟩
        obtain ⟨g1, g2, g3⟩ := addB_mem.1 h1
        rcases g3 with g3 | g3
        · omega
        · exact ⟨f, g3, h2, h3⟩
      · rintro ⟨f, h1, h2, h3⟩
        exact ⟨f, addB_mem.2 ⟨by omega, by omega, .inr h1⟩, h2, h3⟩
    rw [this, if_neg hp]
theorem add_le {t b : List Int} {r : Ru} {a : Nat} : restN t (addB b a (t.length - 1)) r allL 0 ≤ restN t b r allL 0 := by
  refine rest_best.le rest_best (fun i j hij hj h => ?_) rfl (Nat.zero_le _)
  rw [scN_add hij hj] at h ⊢
  split
  · rename_i h1; rw [if_pos h1] at h; omega
  · rename_i h1; rw [if_neg h1] at h; exact ⟨h, Int.le_refl _⟩

end Go.Ab
