/- Small functions of jam, and what is generic of slices. -/
import Derived.Test.YtgndegccjhdmmaaGreatAbV
import Derived.Test.YtgndegccjhdmmaaGreatC6
import Derived.Test.YtgndegccjhdmmaaGreatG1
set_option linter.unusedVariables false
set_option linter.unusedSimpArgs false
set_option maxHeartbeats 4000000
namespace Go.Ab
open Go Go.Proofs

def ints (l : List Int) : List V := l.map (V.i .i64)
/-- A slice of whole numbers. -/
abbrev sl (l : List Int) (f : Bool) : V := .ss (ints l) l.length f

@[simp] theorem pure_ints {l : List Int} : pureL (ints l) = true := by
  induction l with
  | nil => rfl
  | cons a l ih => simp [ints] at ih ⊢; exact ih
@[simp] theorem pure_sl {l : List Int} {f : Bool} : (sl l f).pure = true := by simp [sl]
@[simp] theorem len_ints {l : List Int} : (ints l).length = l.length := by simp [ints]
@[simp high] theorem get_ints {l : List Int} {i : Nat} : (ints l)[i]? = l[i]?.map (V.i .i64) := by simp [ints]

theorem wrap64 {x : Int} (h1 : -9223372036854775808 ≤ x) (h2 : x < 9223372036854775808) : IntKind.i64.wrap x = x := by
  simp only [IntKind.wrap, IntKind.bits, IntKind.signed]
  simp
  split <;> omega

theorem within1 {x lo hi : Int} : FSpec Tryz.prog 100 [.i .i64 x, .sp [.i .i64 lo] 0, .sp [.i .i64 hi] 0] [] (.b (decide (x < lo) || decide (hi < x))) [] := by
  refine fn100.spec0 mixed noIt_ok ?_
  rw [ic100]
  refine ab_seq_k fun K1 h1 => ?_
  simp
  refine h1 _ _ _ (ab_seq_k fun K2 h2 => ?_)
  by_cases h : x < lo <;> simp [h] <;> (refine h2 _ _ _ ?_; simp; exact fin_of 1 (by simp [rs100, h]))

def inv117 (l : List Int) (full : Bool) (g : FuncId) (first cap : List V) (p : Int → Bool) (m : Nat) (env : Env) (σ : List O) : Prop :=
  ∃ i : Nat, i + m = l.length ∧ (∀ (j : Nat) (x : Int), j < i → l[j]? = some x → p x = false) ∧ env = [(0, sl l full), (1, .f (.func g) first cap), (7, .i .i64 l.length), (8, .i .i64 i)] ∧ σ = []

theorem indexFunc {l : List Int} {full : Bool} {g : FuncId} {first cap : List V} {p : Int → Bool} (hg : ∀ x ∈ l, FSpec Tryz.prog g (first ++ [.i .i64 x] ++ cap) [] (.b (p x)) []) (hl : (l.length : Int) < 1000000000) :
    FSpec Tryz.prog 117 [sl l full, .f (.func g) first cap] [] (.i .i64 (match l.findIdx? p with | some i => (i : Int) | none => -1)) [] := by
  refine fn117.spec0 mixed noIt_ok ?_
  rw [ic117]
  refine ab_seq_k fun K1 h1 => ?_
  simp
  refine h1 _ _ _ (ab_seq_k fun K2 h2 => ab_seq_k fun K3 h3 => ?_)
  simp
  refine h3 _ _ _ (ab_block_k fun K4 h4 => ab_loop_k (inv117 l full g first cap p) l.length ⟨0, by simp, by simp, by simp, rfl⟩ ?_)
  rintro m env σ ⟨i, hi, hprev, rfl, rfl⟩ K5 h5
  rw [ic117_0]
  refine ab_seq_k fun K6 h6 => ?_
  simp
  refine h6 _ _ _ (ab_seq_k fun K7 h7 => ?_)
  by_cases hlt : i < l.length
  · refine ab_cond_of rfl (fun _ => ?_) (fun h => by simp at h; omega)
    have hget : l[i]? = some l[i] := List.getElem?_eq_getElem hlt
    have hmem := List.getElem_mem hlt
    generalize hx : l[i] = x at hget hmem
    simp
    refine h7 _ _ _ (ab_seq_k fun K8 h8 => ab_block_k fun K9 h9 => ab_seq_k fun K10 h10 => ?_)
    simp
    refine h10 _ _ _ (ab_seq_k fun K11 h11 => ?_)
    simp [hlt, hx]
    refine callK_of (by simpa using hg x hmem) ?_
    simp
    refine h11 _ _ _ (ab_cond_of rfl (fun hp => ?_) (fun hp => ?_))
    · refine ab_seq_k fun K12 h12 => ?_
      simp
      refine h12 _ _ _ ?_
      have : l.findIdx? p = some i := by
        rw [List.findIdx?_eq_some_iff_getElem]
        exact ⟨hlt, by rw [hx]; exact hp, fun j hj => by have := hprev j _ hj (List.getElem?_eq_getElem (by omega)); simpa using this⟩
      simp [this]
      exact fin_of 1 (by simp [rs117])
    · simp
      refine h9 _ _ _ (h8 _ _ _ ?_)
      simp [wrap64 (x := (i : Int) + 1) (by omega) (by omega)]
      refine h5 _ _ _ (again (m - 1) (by omega) ⟨i + 1, by omega, fun j y hj hy => ?_, by simp, rfl⟩)
      by_cases hji : j = i
      · subst hji; rw [hget] at hy; cases hy; exact hp
      · exact hprev j y (by omega) hy
  · refine ab_cond_of rfl (fun h => by simp at h; omega) (fun _ => ?_)
    simp
    refine h4 _ _ _ (h2 _ _ _ (ab_seq_k fun K8 h8 => ?_))
    simp
    refine h8 _ _ _ ?_
    have : l.findIdx? p = none := by
      rw [List.findIdx?_eq_none_iff]
      intro x hx
      obtain ⟨j, hj⟩ := List.mem_iff_getElem?.1 hx
      have := (List.getElem?_eq_some_iff.1 hj).1
      exact hprev j x (by omega) hj
    simp [this]
    exact fin_of 1 (by simp [rs117])

theorem containsFunc {l : List Int} {full : Bool} {g : FuncId} {first cap : List V} {p : Int → Bool} (hg : ∀ x ∈ l, FSpec Tryz.prog g (first ++ [.i .i64 x] ++ cap) [] (.b (p x)) []) (hl : (l.length : Int) < 1000000000) :
    FSpec Tryz.prog 99 [sl l full, .f (.func g) first cap] [] (.b (l.any p)) [] := by
  refine fn99.spec0 mixed noIt_ok ?_
  rw [ic99]
  refine ab_seq_k fun K1 h1 => ?_
  simp
  refine h1 _ _ _ (ab_seq_k fun K2 h2 => ?_)
  simp
  refine callK_of (indexFunc hg hl) ?_
  simp
  refine h2 _ _ _ ?_
  simp
  refine fin_of 1 ?_
  simp [rs99]
  cases h : l.findIdx? p with
  | none =>
    rw [List.findIdx?_eq_none_iff] at h
    simp
    intro x hx
    exact h x hx
  | some i =>
    rw [List.findIdx?_eq_some_iff_getElem] at h
    obtain ⟨h1, h2, -⟩ := h
    simp
    exact ⟨_, List.getElem_mem h1, h2⟩

theorem any_not {l : List Int} {lo hi : Int} : (l.any fun x => decide (x < lo) || decide (hi < x)) = !(l.all fun x => decide (lo ≤ x) && decide (x ≤ hi)) := by
  induction l with
  | nil => rfl
  | cons x l ih =>
    simp only [List.any_cons, List.all_cons, ih, Bool.not_and]
    congr 1
    by_cases h1 : x < lo <;> by_cases h2 : hi < x <;> simp [h1, h2] <;> omega

theorem within {l : List Int} {full : Bool} {lo hi : Int} (hl : (l.length : Int) < 1000000000) : FSpec Tryz.prog 69 [.i .i64 lo, .i .i64 hi, sl l full] [] (.b (l.all fun x => decide (lo ≤ x) && decide (x ≤ hi))) [] := by
  refine fn69.spec0 mixed noIt_ok ?_
  rw [ic69]
  refine ab_seq_k fun K1 h1 => ?_
  simp
  refine h1 _ _ _ (ab_seq_k fun K2 h2 => ?_)
  simp
  refine callK_of (FSpec.frozen 3 (v := .b (!(l.all fun x => decide (lo ≤ x) && decide (x ≤ hi)))) ?_ rfl) ?_
  · simp only [← any_not]
    simp
    exact containsFunc (g := 100) (first := []) (cap := [.sp [.i .i64 lo] 0, .sp [.i .i64 hi] 0]) (fun x _ => within1) hl
  · simp
    refine h2 _ _ _ ?_
    simp
    exact fin_of 1 (by simp [rs69])


def fit (lo hi x : Int) : Bool := decide (lo ≤ x) && decide (x ≤ hi)


theorem within0 {x lo hi : Int} {σ : List O} : FSpec Tryz.prog 69 [.i .i64 lo, .i .i64 hi, .ss [.i .i64 x] 1 true] σ (.b (fit lo hi x)) σ := by
  have h := FSpec.frame (σ := σ) (within (l := [x]) (full := true) (lo := lo) (hi := hi) (by simp)) (by simp) rfl
  have e : (.b ([x].all fun x => decide (lo ≤ x) && decide (x ≤ hi)) : V) = .b (fit lo hi x) := by simp [fit]
  rw [e] at h
  exact h



theorem getD_get {l : List Int} {i : Nat} (h : i < l.length) : l[i]? = some (l.getD i 0) ∧ l[i]'h = l.getD i 0 ∧ l.getD i 0 ∈ l := by
  have h1 : l[i]? = some (l.getD i 0) := by rw [List.getD_eq_getElem?_getD, List.getElem?_eq_getElem h]; rfl
  refine ⟨h1, ?_, List.mem_of_getElem? h1⟩
  rw [List.getElem?_eq_getElem h] at h1
  exact Option.some.inj h1



end Go.Ab
