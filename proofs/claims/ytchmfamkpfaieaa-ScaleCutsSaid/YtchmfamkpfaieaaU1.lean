/- Contracts of small functions of scale: numbers within bounds, sorted numbers. -/
import Derived.Test.YtchmfamkpfaieaaAbT
set_option linter.unusedVariables false
set_option linter.unusedSimpArgs false
set_option maxHeartbeats 400000
namespace Go.Ab
open Go Go.Proofs

def ints (l : List Int) : List V := l.map (V.i .i64)
/-- A slice of whole numbers. -/
abbrev sl (l : List Int) (f : Bool) : V := .ss (ints l) l.length f

@[simp] theorem pure_ints {l : List Int} : pureL (ints l) = true := by
  induction l with
  | nil => rfl
  | cons a l ih => simp [ints] at ih ⊢; exact ih
@[simp] theorem pure_sl {l : List Int} {f : Bool} : (sl l f).pure = true := by simp [sl]
@[simp] theorem len_ints {l : List Int} : (ints l).length = l.length := by simp [ints]
@[simp high] theorem get_ints {l : List Int} {i : Nat} : (ints l)[i]? = l[i]?.map (V.i .i64) := by simp [ints]

theorem wrap64 {x : Int} (h1 : -9223372036854775808 ≤ x) (h2 : x < 9223372036854775808) : IntKind.i64.wrap x = x := by
  simp only [IntKind.wrap, IntKind.bits, IntKind.signed]
  simp
  split <;> omega

theorem within1 {x lo hi : Int} : FSpec Try.prog 80 [.i .i64 x, .sp [.i .i64 lo] 0, .sp [.i .i64 hi] 0] [] (.b (decide (x < lo) || decide (hi < x))) [] := by
  refine fn80.spec0 mixed noIt_ok ?_
  rw [ic80]
  refine ab_seq_k fun K1 h1 => ?_
  simp
  refine h1 _ _ _ (ab_seq_k fun K2 h2 => ?_)
  by_cases h : x < lo <;> simp [h] <;> (refine h2 _ _ _ ?_; simp; exact fin_of 1 (by simp [rs80, h]))

def inv87 (l : List Int) (full : Bool) (g : FuncId) (first cap : List V) (p : Int → Bool) (m : Nat) (env : Env) (σ : List O) : Prop :=
  ∃ i : Nat, i + m = l.length ∧ (∀ (j : Nat) (x : Int), j < i → l[j]? = some x → p x = false) ∧ env = [(0, sl l full), (1, .f (.func g) first cap), (7, .i .i64 l.length), (8, .i .i64 i)] ∧ σ = []

theorem indexFunc {l : List Int} {full : Bool} {g : FuncId} {first cap : List V} {p : Int → Bool} (hg : ∀ x ∈ l, FSpec Try.prog g (first ++ [.i .i64 x] ++ cap) [] (.b (p x)) []) (hl : (l.length : Int) < 1000000000) :
    FSpec Try.prog 87 [sl l full, .f (.func g) first cap] [] (.i .i64 (match l.findIdx? p with | some i => (i : Int) | none => -1)) [] := by
  refine fn87.spec0 mixed noIt_ok ?_
  rw [ic87]
  refine ab_seq_k fun K1 h1 => ?_
  simp
  refine h1 _ _ _ (ab_seq_k fun K2 h2 => ab_seq_k fun K3 h3 => ?_)
  simp
  refine h3 _ _ _ (ab_block_k fun K4 h4 => ab_loop_k (inv87 l full g first cap p) l.length ⟨0, by simp, by simp, by simp, rfl⟩ ?_)
  rintro m env σ ⟨i, hi, hprev, rfl, rfl⟩ K5 h5
  rw [ic87_0]
  refine ab_seq_k fun K6 h6 => ?_
  simp
  refine h6 _ _ _ (ab_seq_k fun K7 h7 => ?_)
  by_cases hlt : i < l.length
  · refine ab_cond_of rfl (fun _ => ?_) (fun h => by simp at h; omega)
    have hget : l[i]? = some l[i] := List.getElem?_eq_getElem hlt
    have hmem := List.getElem_mem hlt
    generalize hx : l[i] = x at hget hmem
    simp
    refine h7 _ _ _ (ab_seq_k fun K8 h8 => ab_block_k fun K9 h9 => ab_seq_k fun K10 h10 => ?_)
    simp
    refine h10 _ _ _ (ab_seq_k fun K11 h11 => ?_)
    simp [hlt, hx]
    refine callK_of (by simpa using hg x hmem) ?_
    simp
    refine h11 _ _ _ (ab_cond_of rfl (fun hp => ?_) (fun hp => ?_))
    · refine ab_seq_k fun K12 h12 => ?_
      simp
      refine h12 _ _ _ ?_
      have : l.findIdx? p = some i := by
        rw [List.findIdx?_eq_some_iff_getElem]
        exact ⟨hlt, by rw [hx]; exact hp, fun j hj => by have := hprev j _ hj (List.getElem?_eq_getElem (by omega)); simpa using this⟩
      simp [this]
      exact fin_of 1 (by simp [rs87])
    · simp
      refine h9 _ _ _ (h8 _ _ _ ?_)
      simp [wrap64 (x := (i : Int) + 1) (by omega) (by omega)]
      refine h5 _ _ _ (again (m - 1) (by omega) ⟨i + 1, by omega, fun j y hj hy => ?_, by simp, rfl⟩)
      by_cases hji : j = i
      · subst hji; rw [hget] at hy; cases hy; exact hp
      · exact hprev j y (by omega) hy
  · refine ab_cond_of rfl (fun h => by simp at h; omega) (fun _ => ?_)
    simp
    refine h4 _ _ _ (h2 _ _ _ (ab_seq_k fun K8 h8 => ?_))
    simp
    refine h8 _ _ _ ?_
    have : l.findIdx? p = none := by
      rw [List.findIdx?_eq_none_iff]
      intro x hx
      obtain ⟨j, hj⟩ := List.mem_iff_getElem?.1 hx
      have := (List.getElem?_eq_some_iff.1 hj).1
      exact hprev j x (by omega) hj
    simp [this]
    exact fin_of 1 (by simp [rs87])

theorem containsFunc {l : List Int} {full : Bool} {g : FuncId} {first cap : List V} {p : Int → Bool} (hg : ∀ x ∈ l, FSpec Try.prog g (first ++ [.i .i64 x] ++ cap) [] (.b (p x)) []) (hl : (l.length : Int) < 1000000000) :
    FSpec Try.prog 79 [sl l full, .f (.func g) first cap] [] (.b (l.any p)) [] := by
  refine fn79.spec0 mixed noIt_ok ?_
  rw [ic79]
  refine ab_seq_k fun K1 h1 => ?_
  simp
  refine h1 _ _ _ (ab_seq_k fun K2 h2 => ?_)
  simp
  refine callK_of (indexFunc hg hl) ?_
  simp
  refine h2 _ _ _ ?_
  simp
  refine fin_of 1 ?_
  simp [rs79]
  cases h : l.findIdx? p with
  | none =>
    rw [List.findIdx?_eq_none_iff] at h
    simp
    intro x hx
    exact h x hx
  | some i =>
    rw [List.findIdx?_eq_some_iff_getElem] at h
    obtain ⟨h1, h2, -⟩ := h
    simp
    exact ⟨_, List.getElem_mem h1, h2⟩

theorem any_not {l : List Int} {lo hi : Int} : (l.any fun x => decide (x < lo) || decide (hi < x)) = !(l.all fun x => decide (lo ≤ x) && decide (x ≤ hi)) := by
  induction l with
  | nil => rfl
  | cons x l ih =>
    simp only [List.any_cons, List.all_cons, ih, Bool.not_and]
    congr 1
    by_cases h1 : x < lo <;> by_cases h2 : hi < x <;> simp [h1, h2] <;> omega

theorem within {l : List Int} {full : Bool} {lo hi : Int} (hl : (l.length : Int) < 1000000000) : FSpec Try.prog 57 [.i .i64 lo, .i .i64 hi, sl l full] [] (.b (l.all fun x => decide (lo ≤ x) && decide (x ≤ hi))) [] := by
  refine fn57.spec0 mixed noIt_ok ?_
  rw [ic57]
  refine ab_seq_k fun K1 h1 => ?_
  simp
  refine h1 _ _ _ (ab_seq_k fun K2 h2 => ?_)
  simp
  refine callK_of (FSpec.frozen 3 (v := .b (!(l.all fun x => decide (lo ≤ x) && decide (x ≤ hi)))) ?_ rfl) ?_
  · simp only [← any_not]
    simp
    exact containsFunc (g := 80) (first := []) (cap := [.sp [.i .i64 lo] 0, .sp [.i .i64 hi] 0]) (fun x _ => within1) hl
  · simp
    refine h2 _ _ _ ?_
    simp
    exact fin_of 1 (by simp [rs57])

theorem isNaN {x : Int} : FSpec Try.prog 78 [.i .i64 x] [] (.b false) [] := by
  refine fn78.spec0 mixed noIt_ok ?_
  rw [ic78]
  refine ab_seq_k fun K1 h1 => ?_
  simp
  refine h1 _ _ _ (ab_seq_k fun K2 h2 => ?_)
  simp
  refine h2 _ _ _ ?_
  simp
  exact fin_of 1 (by simp [rs78])

def cmp (x y : Int) : Int := if x < y then -1 else if y < x then 1 else 0

theorem cmp_lt {x y : Int} : cmp x y < 0 ↔ x < y := by
  unfold cmp
  split
  · omega
  · split <;> omega

theorem compare {x y : Int} : FSpec Try.prog 56 [.i .i64 x, .i .i64 y] [] (.i .i64 (cmp x y)) [] := by
  refine fn56.spec0 mixed noIt_ok ?_
  rw [ic56]
  refine ab_seq_k fun K1 h1 => ?_
  simp
  refine h1 _ _ _ (ab_seq_k fun K2 h2 => ?_)
  simp
  refine callK_of isNaN ?_
  simp
  refine h2 _ _ _ (ab_seq_k fun K3 h3 => ?_)
  simp
  refine callK_of isNaN ?_
  simp
  refine h3 _ _ _ (ab_seq_k fun K4 h4 => ab_seq_k fun K5 h5 => ?_)
  simp
  refine h5 _ _ _ (ab_cond_of rfl (fun h => by cases h) (fun _ => ?_))
  simp
  refine h4 _ _ _ (ab_seq_k fun K6 h6 => ab_seq_k fun K7 h7 => ?_)
  simp
  refine h7 _ _ _ (ab_cond_of rfl (fun h => by cases h) (fun _ => ?_))
  simp
  refine h6 _ _ _ (ab_seq_k fun K8 h8 => ab_seq_k fun K9 h9 => ?_)
  simp
  refine h9 _ _ _ (ab_cond_of rfl (fun h => ?_) (fun h => ?_))
  · refine ab_seq_k fun K h' => ?_
    simp
    refine h' _ _ _ ?_
    simp
    simp at h
    exact fin_of 1 (by simp [rs56, cmp, h])
  · simp
    simp at h
    refine h8 _ _ _ (ab_seq_k fun K10 h10 => ab_seq_k fun K11 h11 => ?_)
    simp
    refine h11 _ _ _ (ab_cond_of rfl (fun h' => ?_) (fun h' => ?_))
    · refine ab_seq_k fun K h'' => ?_
      simp
      refine h'' _ _ _ ?_
      simp
      simp at h'
      exact fin_of 1 (by simp [rs56, cmp, h', show ¬ x < y by omega])
    · simp
      simp at h'
      refine h10 _ _ _ (ab_seq_k fun K h'' => ?_)
      simp
      refine h'' _ _ _ ?_
      simp
      exact fin_of 1 (by simp [rs56, cmp, show ¬ x < y by omega, show ¬ y < x by omega])

theorem falls {x y : Int} : FSpec Try.prog 55 [.i .i64 x, .i .i64 y] [] (.i .i64 (cmp y x)) [] := by
  refine fn55.spec0 mixed noIt_ok ?_
  rw [ic55]
  refine ab_seq_k fun K1 h1 => ?_
  simp
  refine h1 _ _ _ (ab_seq_k fun K2 h2 => ?_)
  simp
  refine callK_of compare ?_
  simp
  refine h2 _ _ _ ?_
  simp
  exact fin_of 1 (by simp [rs55])

/-- Each is at most the one before it. -/
def falling (l : List Int) : Prop := ∀ i, i < l.length - 1 → l.getD (i + 1) 0 ≤ l.getD i 0
instance (l : List Int) : Decidable (falling l) := inferInstanceAs (Decidable (∀ i, i < l.length - 1 → l.getD (i + 1) 0 ≤ l.getD i 0))

def inv58 (l : List Int) (full : Bool) (m : Nat) (env : Env) (σ : List O) : Prop :=
  ∃ t : Int, t = (m : Int) - 1 ∧ t < l.length ∧ (∀ i : Nat, t ≤ i → i < l.length - 1 → l.getD (i + 1) 0 ≤ l.getD i 0) ∧ env = [(0, sl l full), (1, .f (.func 55) [] []), (5, .i .i64 t)] ∧ σ = []

theorem isSorted {l : List Int} {full : Bool} (hl : (l.length : Int) < 1000000000) : FSpec Try.prog 58 [sl l full, .f (.func 55) [] []] [] (.b (decide (falling l))) [] := by
  refine fn58.spec0 mixed noIt_ok ?_
  rw [ic58]
  refine ab_seq_k fun K1 h1 => ?_
  simp
  refine h1 _ _ _ (ab_seq_k fun K2 h2 => ab_seq_k fun K3 h3 => ?_)
  simp [wrap64 (x := (l.length : Int) - 1) (by omega) (by omega)]
  refine h3 _ _ _ (ab_block_k fun K4 h4 => ab_loop_k (inv58 l full) l.length ⟨(l.length : Int) - 1, rfl, by omega, by omega, by simp, rfl⟩ ?_)
  rintro m env σ ⟨t, ht, hlt, hprev, rfl, rfl⟩ K5 h5
  rw [ic58_0]
  refine ab_seq_k fun K6 h6 => ab_seq_k fun K7 h7 => ?_
  simp
  by_cases hpos : 0 < t
  · refine h7 _ _ _ (ab_cond_of rfl (fun _ => ?_) (fun h => by simp at h; omega))
    simp
    refine h6 _ _ _ (ab_seq_k fun K8 h8 => ab_block_k fun K9 h9 => ab_seq_k fun K10 h10 => ?_)
    have h1 : t - 1 < l.length := by omega
    have h2' : 0 ≤ t := by omega
    have h3' : 1 ≤ t := by omega
    have g1 : l[t.toNat]? = some (l.getD t.toNat 0) := by rw [List.getD_eq_getElem?_getD, List.getElem?_eq_getElem (by omega)]; rfl
    have g2 : l[t.toNat - 1]? = some (l.getD (t.toNat - 1) 0) := by rw [List.getD_eq_getElem?_getD, List.getElem?_eq_getElem (by omega)]; rfl
    generalize hx : l.getD t.toNat 0 = x at g1
    generalize hy : l.getD (t.toNat - 1) 0 = y at g2
    have k1 : l[t.toNat]'(by omega) = x := by rw [List.getElem?_eq_getElem (by omega)] at g1; exact Option.some.inj g1
    have k2 : l[t.toNat - 1]'(by omega) = y := by rw [List.getElem?_eq_getElem (by omega)] at g2; exact Option.some.inj g2
    simp [hpos, hlt, h1, h2', h3', g1, g2, k1, k2, wrap64 (x := t - 1) (by omega) (by omega)]
    refine callK_of falls ?_
    simp
    refine h10 _ _ _ (ab_cond_of rfl (fun hc => ?_) (fun hc => ?_))
    · refine ab_seq_k fun K11 h11 => ?_
      simp
      refine h11 _ _ _ ?_
      simp
      have : ¬ falling l := fun hf => by
        have := hf (t.toNat - 1) (by omega)
        rw [show t.toNat - 1 + 1 = t.toNat by omega, hx, hy] at this
        have := cmp_lt.1 (of_decide_eq_true hc)
        omega
      exact fin_of 1 (by simp [rs58, this])
    · simp
      refine h9 _ _ _ (h8 _ _ _ ?_)
      simp [wrap64 (x := t - 1) (by omega) (by omega)]
      refine h5 _ _ _ (again (m - 1) (by omega) ⟨t - 1, by omega, h1, fun i hi hil => ?_, by simp, rfl⟩)
      by_cases hit : t ≤ i
      · exact hprev i hit hil
      · obtain rfl : i = t.toNat - 1 := by omega
        rw [show t.toNat - 1 + 1 = t.toNat by omega, hx, hy]
        have hc' := of_decide_eq_false hc
        rw [cmp_lt] at hc'
        omega
  · refine h7 _ _ _ (ab_cond_of rfl (fun h => by simp at h; omega) (fun _ => ?_))
    simp
    refine h4 _ _ _ (h2 _ _ _ (ab_seq_k fun K11 h11 => ?_))
    simp
    refine h11 _ _ _ ?_
    simp
    have : falling l := fun i hi => hprev i (by omega) hi
    exact fin_of 1 (by simp [rs58, this])

/-- The errors of a stem. -/
def fit (lo hi x : Int) : Bool := decide (lo ≤ x) && decide (x ≤ hi)
def badFrom (n : Int) : Int → List Int → Bool
  | _, [] => true
  | next, f :: r => fit next (n - 2) f && badFrom n (f + 1) r
def checkStem (t b : List Int) : Int :=
  if !fit 2 61 t.length then 6 else if !t.all (fit 0 60) then 3 else if !decide (falling t) then 16 else if !badFrom t.length 0 b then 2 else 0

theorem within0 {x lo hi : Int} {σ : List O} : FSpec Try.prog 57 [.i .i64 lo, .i .i64 hi, .ss [.i .i64 x] 1 true] σ (.b (fit lo hi x)) σ := by
  have h := FSpec.frame (σ := σ) (within (l := [x]) (full := true) (lo := lo) (hi := hi) (by simp)) (by simp) rfl
  have e : (.b ([x].all fun x => decide (lo ≤ x) && decide (x ≤ hi)) : V) = .b (fit lo hi x) := by simp [fit]
  rw [e] at h
  exact h

def inv20 (t b : List Int) (ft fb : Bool) (m : Nat) (env : Env) (σ : List O) : Prop :=
  ∃ (i : Nat) (next : Int), i + m = b.length ∧ 0 ≤ next ∧ next ≤ t.length ∧ badFrom t.length 0 b = badFrom t.length next (b.drop i) ∧
    env = [(1, .p 0 0 0), (4, .i .i64 next), (26, sl b fb), (27, .i .i64 b.length), (28, .i .i64 i)] ∧ σ = [.row 0 [sl t ft, sl b fb]]

theorem checkStem_ok {t b : List Int} {ft fb : Bool} (ht : (t.length : Int) < 1000000000) (hb : (b.length : Int) < 1000000000) : FSpec Try.prog 20 [.agg [sl t ft, sl b fb]] [] (.i .i64 (checkStem t b)) [] := by
  refine fn20.spec0 mixed noIt_ok ?_
  rw [ic20]
  refine ab_seq_k fun K1 h1 => ?_
  simp
  refine h1 _ _ _ (ab_seq_k fun K2 h2 => ?_)
  simp
  refine h2 _ _ _ (ab_seq_k fun K3 h3 => ab_block_k fun K4 h4 => ?_)
  have quit : ∀ {n : Int} {env σ K E}, n = checkStem t b → ab Try.prog noY noIt 0 ((IC.reg [IS.op (some 2) none (IOp.mov (Od.c (V.i IntKind.i64 n)))] (some [2])).seq IC.ret) K E (finK rs20 [] (V.i IntKind.i64 (checkStem t b)) []) (some 0) env σ := by
    intro n env σ K E hn
    refine ab_seq_k fun K1 h1 => ?_
    simp
    refine h1 _ _ _ ?_
    simp
    exact fin_of 1 (by simp [rs20, hn])
  refine ab_seq_k fun K5 h5 => ?_
  simp
  refine callK_of within0 ?_
  simp
  refine h5 _ _ _ (ab_cond_of rfl (fun c1 => quit (by simp at c1; simp [checkStem, c1])) (fun c1 => ab_seq_k fun K6 h6 => ?_))
  simp at c1
  simp
  refine callK_of (FSpec.frame (within ht) (by simp) rfl) ?_
  simp
  refine h6 _ _ _ (ab_cond_of rfl (fun c2 => quit ?_) (fun c2 => ab_seq_k fun K7 h7 => ?_))
  · have c2' : t.all (fit 0 60) = false := by
      cases h : t.all (fit 0 60)
      · rfl
      · have h' : (t.all fun x => decide (0 ≤ x) && decide (x ≤ 60)) = true := h
        simp only [h'] at c2; cases c2
    simp [checkStem, c1, c2']
  have c2' : t.all (fit 0 60) = true := by
    cases h : t.all (fit 0 60)
    · have h' : (t.all fun x => decide (0 ≤ x) && decide (x ≤ 60)) = false := h
      simp only [h'] at c2; cases c2
    · rfl
  simp
  refine callK_of (FSpec.frame (isSorted ht) (by simp) rfl) ?_
  simp
  refine h7 _ _ _ (ab_cond_of rfl (fun c3 => quit (by simp at c3; simp [checkStem, c1, c2', c3])) (fun c3 => ?_))
  simp at c3
  simp
  refine h4 _ _ _ (h3 _ _ _ (ab_seq_k fun K8 h8 => ?_))
  simp
  refine h8 _ _ _ (ab_seq_k fun K9 h9 => ab_seq_k fun K10 h10 => ?_)
  simp
  refine h10 _ _ _ (ab_block_k fun K11 h11 => ab_loop_k (inv20 t b ft fb) b.length ⟨0, 0, by simp, by simp, by simp, by simp, by simp, rfl⟩ ?_)
  rintro m env σ ⟨i, next, hi, k4, k5, k6, rfl, rfl⟩ K12 h12
  rw [ic20_0]
  refine ab_seq_k fun K13 h13 => ?_
  simp
  refine h13 _ _ _ (ab_seq_k fun K14 h14 => ?_)
  by_cases hlt : i < b.length
  · have g1 : b[i]? = some b[i] := List.getElem?_eq_getElem hlt
    have hdrop : b.drop i = b[i] :: b.drop (i + 1) := List.drop_eq_getElem_cons hlt
    generalize hf : b[i] = f at g1 hdrop
    refine ab_cond_of rfl (fun _ => ?_) (fun h => by simp at h; omega)
    simp
    refine h14 _ _ _ (ab_seq_k fun K15 h15 => ab_block_k fun K16 h16 => ab_seq_k fun K17 h17 => ?_)
    simp [hlt, hf]
    refine h17 _ _ _ (ab_seq_k fun K18 h18 => ab_seq_k fun K19 h19 => ?_)
    simp [wrap64 (x := (t.length : Int) - 2) (by omega) (by omega)]
    refine callK_of within0 ?_
    simp
    refine h19 _ _ _ (ab_cond_of rfl (fun c4 => quit ?_) (fun c4 => ?_))
    · simp at c4
      have : badFrom t.length 0 b = false := by rw [k6, hdrop]; simp [badFrom, c4]
      simp [checkStem, c1, c2', c3, this]
    · simp at c4
      have c4' := c4
      simp only [fit, Bool.and_eq_true, decide_eq_true_eq] at c4'
      simp
      refine h18 _ _ _ ?_
      simp [wrap64 (x := f + 1) (by omega) (by omega)]
      refine h16 _ _ _ (h15 _ _ _ ?_)
      simp [wrap64 (x := (i : Int) + 1) (by omega) (by omega)]
      refine h12 _ _ _ (again (m - 1) (by omega) ⟨i + 1, f + 1, by omega, by omega, by omega, ?_, by simp, rfl⟩)
      rw [k6, hdrop]
      simp [badFrom, c4]
  · refine ab_cond_of rfl (fun h => by simp at h; omega) (fun _ => ?_)
    simp
    have : badFrom t.length 0 b = true := by rw [k6, List.drop_eq_nil_of_le (by omega)]; rfl
    exact h11 _ _ _ (h9 _ _ _ (quit (by simp [checkStem, c1, c2', c3, this])))

end Go.Ab
