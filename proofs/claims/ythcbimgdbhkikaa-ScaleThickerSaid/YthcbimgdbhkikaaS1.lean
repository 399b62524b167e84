import Derived.Test.YthcbimgdbhkikaaAbT
import Derived.Test.YthcbimgdbhkikaaC5
/-! S1: made of U1 U2 U3 U4 U5 U6 -/
section
/- Contracts of small functions of scale: numbers within bounds, sorted numbers. -/
set_option linter.unusedVariables false
set_option linter.unusedSimpArgs false
set_option maxHeartbeats 400000
namespace Go.Ab
open Go Go.Proofs

def ints (l : List Int) : List V := l.map (V.i .i64)
/-- A slice of whole numbers. -/
abbrev sl (l : List Int) (f : Bool) : V := .ss (ints l) l.length f

@[simp] theorem pure_ints {l : List Int} : pureL (ints l) = true := by
  induction l with
  | nil => rfl
  | cons a l ih => simp [ints] at ih ⊢; exact ih
@[simp] theorem pure_sl {l : List Int} {f : Bool} : (sl l f).pure = true := by simp [sl]
@[simp] theorem len_ints {l : List Int} : (ints l).length = l.length := by simp [ints]
@[simp high] theorem get_ints {l : List Int} {i : Nat} : (ints l)[i]? = l[i]?.map (V.i .i64) := by simp [ints]

theorem wrap64 {x : Int} (h1 : -9223372036854775808 ≤ x) (h2 : x < 9223372036854775808) : IntKind.i64.wrap x = x := by
  simp only [IntKind.wrap, IntKind.bits, IntKind.signed]
  simp
  split <;> omega

theorem within1 {x lo hi : Int} : FSpec Try.prog 80 [.i .i64 x, .sp [.i .i64 lo] 0, .sp [.i .i64 hi] 0] [] (.b (decide (x < lo) || decide (hi < x))) [] := by
  refine fn80.spec0 mixed noIt_ok ?_
  rw [ic80]
  refine ab_seq_k fun K1 h1 => ?_
  simp
  refine h1 _ _ _ (ab_seq_k fun K2 h2 => ?_)
  by_cases h : x < lo <;> simp [h] <;> (refine h2 _ _ _ ?_; simp; exact fin_of 1 (by simp [rs80, h]))

def inv87 (l : List Int) (full : Bool) (g : FuncId) (first cap : List V) (p : Int → Bool) (m : Nat) (env : Env) (σ : List O) : Prop :=
  ∃ i : Nat, i + m = l.length ∧ (∀ (j : Nat) (x : Int), j < i → l[j]? = some x → p x = false) ∧ env = [(0, sl l full), (1, .f (.func g) first cap), (7, .i .i64 l.length), (8, .i .i64 i)] ∧ σ = []

theorem indexFunc {l : List Int} {full : Bool} {g : FuncId} {first cap : List V} {p : Int → Bool} (hg : ∀ x ∈ l, FSpec Try.prog g (first ++ [.i .i64 x] ++ cap) [] (.b (p x)) []) (hl : (l.length : Int) < 1000000000) :
    FSpec Try.prog 87 [sl l full, .f (.func g) first cap] [] (.i .i64 (match l.findIdx? p with | some i => (i : Int) | none => -1)) [] := by
  refine fn87.spec0 mixed noIt_ok ?_
  rw [ic87]
  refine ab_seq_k fun K1 h1 => ?_
  simp
  refine h1 _ _ _ (ab_seq_k fun K2 h2 => ab_seq_k fun K3 h3 => ?_)
  simp
  refine h3 _ _ _ (ab_block_k fun K4 h4 => ab_loop_k (inv87 l full g first cap p) l.length ⟨0, by simp, by simp, by simp, rfl⟩ ?_)
  rintro m env σ ⟨i, hi, hprev, rfl, rfl⟩ K5 h5
  rw [ic87_0]
  refine ab_seq_k fun K6 h6 => ?_
  simp
  refine h6 _ _ _ (ab_seq_k fun K7 h7 => ?_)
  by_cases hlt : i < l.length
  · refine ab_cond_of rfl (fun _ => ?_) (fun h => by simp at h; omega)
    have hget : l[i]? = some l[i] := List.getElem?_eq_getElem hlt
    have hmem := List.getElem_mem hlt
    generalize hx : l[i] = x at hget hmem
    simp
    refine h7 _ _ _ (ab_seq_k fun K8 h8 => ab_block_k fun K9 h9 => ab_seq_k fun K10 h10 => ?_)
    simp
    refine h10 _ _ _ (ab_seq_k fun K11 h11 => ?_)
    simp [hlt, hx]
    refine callK_of (by simpa using hg x hmem) ?_
    simp
    refine h11 _ _ _ (ab_cond_of rfl (fun hp => ?_) (fun hp => ?_))
    · refine ab_seq_k fun K12 h12 => ?_
      simp
      refine h12 _ _ _ ?_
      have : l.findIdx? p = some i := by
        rw [List.findIdx?_eq_some_iff_getElem]
        exact ⟨hlt, by rw [hx]; exact hp, fun j hj => by have := hprev j _ hj (List.getElem?_eq_getElem (by omega)); simpa using this⟩
      simp [this]
      exact fin_of 1 (by simp [rs87])
    · simp
      refine h9 _ _ _ (h8 _ _ _ ?_)
      simp [wrap64 (x := (i : Int) + 1) (by omega) (by omega)]
      refine h5 _ _ _ (again (m - 1) (by omega) ⟨i + 1, by omega, fun j y hj hy => ?_, by simp, rfl⟩)
      by_cases hji : j = i
      · subst hji; rw [hget] at hy; cases hy; exact hp
      · exact hprev j y (by omega) hy
  · refine ab_cond_of rfl (fun h => by simp at h; omega) (fun _ => ?_)
    simp
    refine h4 _ _ _ (h2 _ _ _ (ab_seq_k fun K8 h8 => ?_))
    simp
    refine h8 _ _ _ ?_
    have : l.findIdx? p = none := by
      rw [List.findIdx?_eq_none_iff]
      intro x hx
      obtain ⟨j, hj⟩ := List.mem_iff_getElem?.1 hx
      have := (List.getElem?_eq_some_iff.1 hj).1
      exact hprev j x (by omega) hj
    simp [this]
    exact fin_of 1 (by simp [rs87])

theorem containsFunc {l : List Int} {full : Bool} {g : FuncId} {first cap : List V} {p : Int → Bool} (hg : ∀ x ∈ l, FSpec Try.prog g (first ++ [.i .i64 x] ++ cap) [] (.b (p x)) []) (hl : (l.length : Int) < 1000000000) :
    FSpec Try.prog 79 [sl l full, .f (.func g) first cap] [] (.b (l.any p)) [] := by
  refine fn79.spec0 mixed noIt_ok ?_
  rw [ic79]
  refine ab_seq_k fun K1 h1 => ?_
  simp
  refine h1 _ _ _ (ab_seq_k fun K2 h2 => ?_)
  simp
  refine callK_of (indexFunc hg hl) ?_
  simp
  refine h2 _ _ _ ?_
  simp
  refine fin_of 1 ?_
  simp [rs79]
  cases h : l.findIdx? p with
  | none =>
    rw [List.findIdx?_eq_none_iff] at h
    simp
    intro x hx
    exact h x hx
  | some i =>
    rw [List.findIdx?_eq_some_iff_getElem] at h
    obtain ⟨h1, h2, -⟩ := h
    simp
    exact ⟨_, List.getElem_mem h1, h2⟩

theorem any_not {l : List Int} {lo hi : Int} : (l.any fun x => decide (x < lo) || decide (hi < x)) = !(l.all fun x => decide (lo ≤ x) && decide (x ≤ hi)) := by
  induction l with
  | nil => rfl
  | cons x l ih =>
    simp only [List.any_cons, List.all_cons, ih, Bool.not_and]
    congr 1
    by_cases h1 : x < lo <;> by_cases h2 : hi < x <;> simp [h1, h2] <;> omega

theorem within {l : List Int} {full : Bool} {lo hi : Int} (hl : (l.length : Int) < 1000000000) : FSpec Try.prog 57 [.i .i64 lo, .i .i64 hi, sl l full] [] (.b (l.all fun x => decide (lo ≤ x) && decide (x ≤ hi))) [] := by
  refine fn57.spec0 mixed noIt_ok ?_
  rw [ic57]
  refine ab_seq_k fun K1 h1 => ?_
  simp
  refine h1 _ _ _ (ab_seq_k fun K2 h2 => ?_)
  simp
  refine callK_of (FSpec.frozen 3 (v := .b (!(l.all fun x => decide (lo ≤ x) && decide (x ≤ hi)))) ?_ rfl) ?_
  · simp only [← any_not]
    simp
    exact containsFunc (g := 80) (first := []) (cap := [.sp [.i .i64 lo] 0, .sp [.i .i64 hi] 0]) (fun x _ => within1) hl
  · simp
    refine h2 _ _ _ ?_
    simp
    exact fin_of 1 (by simp [rs57])

theorem isNaN {x : Int} : FSpec Try.prog 78 [.i .i64 x] [] (.b false) [] := by
  refine fn78.spec0 mixed noIt_ok ?_
  rw [ic78]
  refine ab_seq_k fun K1 h1 => ?_
  simp
  refine h1 _ _ _ (ab_seq_k fun K2 h2 => ?_)
  simp
  refine h2 _ _ _ ?_
  simp
  exact fin_of 1 (by simp [rs78])

def cmp (x y : Int) : Int := if x < y then -1 else if y < x then 1 else 0

theorem cmp_lt {x y : Int} : cmp x y < 0 ↔ x < y := by
  unfold cmp
  split
  · omega
  · split <;> omega

theorem compare {x y : Int} : FSpec Try.prog 56 [.i .i64 x, .i .i64 y] [] (.i .i64 (cmp x y)) [] := by
  refine fn56.spec0 mixed noIt_ok ?_
  rw [ic56]
  refine ab_seq_k fun K1 h1 => ?_
  simp
  refine h1 _ _ _ (ab_seq_k fun K2 h2 => ?_)
  simp
  refine callK_of isNaN ?_
  simp
  refine h2 _ _ _ (ab_seq_k fun K3 h3 => ?_)
  simp
  refine callK_of isNaN ?_
  simp
  refine h3 _ _ _ (ab_seq_k fun K4 h4 => ab_seq_k fun K5 h5 => ?_)
  simp
  refine h5 _ _ _ (ab_cond_of rfl (fun h => by cases h) (fun _ => ?_))
  simp
  refine h4 _ _ _ (ab_seq_k fun K6 h6 => ab_seq_k fun K7 h7 => ?_)
  simp
  refine h7 _ _ _ (ab_cond_of rfl (fun h => by cases h) (fun _ => ?_))
  simp
  refine h6 _ _ _ (ab_seq_k fun K8 h8 => ab_seq_k fun K9 h9 => ?_)
  simp
  refine h9 _ _ _ (ab_cond_of rfl (fun h => ?_) (fun h => ?_))
  · refine ab_seq_k fun K h' => ?_
    simp
    refine h' _ _ _ ?_
    simp
    simp at h
    exact fin_of 1 (by simp [rs56, cmp, h])
  · simp
    simp at h
    refine h8 _ _ _ (ab_seq_k fun K10 h10 => ab_seq_k fun K11 h11 => ?_)
    simp
    refine h11 _ _ _ (ab_cond_of rfl (fun h' => ?_) (fun h' => ?_))
    · refine ab_seq_k fun K h'' => ?_
      simp
      refine h'' _ _ _ ?_
      simp
      simp at h'
      exact fin_of 1 (by simp [rs56, cmp, h', show ¬ x < y by omega])
    · simp
      simp at h'
      refine h10 _ _ _ (ab_seq_k fun K h'' => ?_)
      simp
      refine h'' _ _ _ ?_
      simp
      exact fin_of 1 (by simp [rs56, cmp, show ¬ x < y by omega, show ¬ y < x by omega])

theorem falls {x y : Int} : FSpec Try.prog 55 [.i .i64 x, .i .i64 y] [] (.i .i64 (cmp y x)) [] := by
  refine fn55.spec0 mixed noIt_ok ?_
  rw [ic55]
  refine ab_seq_k fun K1 h1 => ?_
  simp
  refine h1 _ _ _ (ab_seq_k fun K2 h2 => ?_)
  simp
  refine callK_of compare ?_
  simp
  refine h2 _ _ _ ?_
  simp
  exact fin_of 1 (by simp [rs55])

/-- Each is at most the one before it. -/
def falling (l : List Int) : Prop := ∀ i, i < l.length - 1 → l.getD (i + 1) 0 ≤ l.getD i 0
instance (l : List Int) : Decidable (falling l) := inferInstanceAs (Decidable (∀ i, i < l.length - 1 → l.getD (i + 1) 0 ≤ l.getD i 0))

def inv58 (l : List Int) (full : Bool) (m : Nat) (env : Env) (σ : List O) : Prop :=
  ∃ t : Int, t = (m : Int) - 1 ∧ t < l.length ∧ (∀ i : Nat, t ≤ i → i < l.length - 1 → l.getD (i + 1) 0 ≤ l.getD i 0) ∧ env = [(0, sl l full), (1, .f (.func 55) [] []), (5, .i .i64 t)] ∧ σ = []

theorem isSorted {l : List Int} {full : Bool} (hl : (l.length : Int) < 1000000000) : FSpec Try.prog 58 [sl l full, .f (.func 55) [] []] [] (.b (decide (falling l))) [] := by
  refine fn58.spec0 mixed noIt_ok ?_
  rw [ic58]
  refine ab_seq_k fun K1 h1 => ?_
  simp
  refine h1 _ _ _ (ab_seq_k fun K2 h2 => ab_seq_k fun K3 h3 => ?_)
  simp [wrap64 (x := (l.length : Int) - 1) (by omega) (by omega)]
  refine h3 _ _ _ (ab_block_k fun K4 h4 => ab_loop_k (inv58 l full) l.length ⟨(l.length : Int) - 1, rfl, by omega, by omega, by simp, rfl⟩ ?_)
  rintro m env σ ⟨t, ht, hlt, hprev, rfl, rfl⟩ K5 h5
  rw [ic58_0]
  refine ab_seq_k fun K6 h6 => ab_seq_k fun K7 h7 => ?_
  simp
  by_cases hpos : 0 < t
  · refine h7 _ _ _ (ab_cond_of rfl (fun _ => ?_) (fun h => by simp at h; omega))
    simp
    refine h6 _ _ _ (ab_seq_k fun K8 h8 => ab_block_k fun K9 h9 => ab_seq_k fun K10 h10 => ?_)
    have h1 : t - 1 < l.length := by omega
    have h2' : 0 ≤ t := by omega
    have h3' : 1 ≤ t := by omega
    have g1 : l[t.toNat]? = some (l.getD t.toNat 0) := by rw [List.getD_eq_getElem?_getD, List.getElem?_eq_getElem (by omega)]; rfl
    have g2 : l[t.toNat - 1]? = some (l.getD (t.toNat - 1) 0) := by rw [List.getD_eq_getElem?_getD, List.getElem?_eq_getElem (by omega)]; rfl
    generalize hx : l.getD t.toNat 0 = x at g1
    generalize hy : l.getD (t.toNat - 1) 0 = y at g2
    have k1 : l[t.toNat]'(by omega) = x := by rw [List.getElem?_eq_getElem (by omega)] at g1; exact Option.some.inj g1
    have k2 : l[t.toNat - 1]'(by omega) = y := by rw [List.getElem?_eq_getElem (by omega)] at g2; exact Option.some.inj g2
    simp [hpos, hlt, h1, h2', h3', g1, g2, k1, k2, wrap64 (x := t - 1) (by omega) (by omega)]
    refine callK_of falls ?_
    simp
    refine h10 _ _ _ (ab_cond_of rfl (fun hc => ?_) (fun hc => ?_))
    · refine ab_seq_k fun K11 h11 => ?_
      simp
      refine h11 _ _ _ ?_
      simp
      have : ¬ falling l := fun hf => by
        have := hf (t.toNat - 1) (by omega)
        rw [show t.toNat - 1 + 1 = t.toNat by omega, hx, hy] at this
        have := cmp_lt.1 (of_decide_eq_true hc)
        omega
      exact fin_of 1 (by simp [rs58, this])
    · simp
      refine h9 _ _ _ (h8 _ _ _ ?_)
      simp [wrap64 (x := t - 1) (by omega) (by omega)]
      refine h5 _ _ _ (again (m - 1) (by omega) ⟨t - 1, by omega, h1, fun i hi hil => ?_, by simp, rfl⟩)
      by_cases hit : t ≤ i
      · exact hprev i hit hil
      · obtain rfl : i = t.toNat - 1 := by omega
        rw [show t.toNat - 1 + 1 = t.toNat by omega, hx, hy]
        have hc' := of_decide_eq_false hc
        rw [cmp_lt] at hc'
        omega
  · refine h7 _ _ _ (ab_cond_of rfl (fun h => by simp at h; omega) (fun _ => ?_))
    simp
    refine h4 _ _ _ (h2 _ _ _ (ab_seq_k fun K11 h11 => ?_))
    simp
    refine h11 _ _ _ ?_
    simp
    have : falling l := fun i hi => hprev i (by omega) hi
    exact fin_of 1 (by simp [rs58, this])

/-- The errors of a stem. -/
def fit (lo hi x : Int) : Bool := decide (lo ≤ x) && decide (x ≤ hi)
def badFrom (n : Int) : Int → List Int → Bool
  | _, [] => true
  | next, f :: r => fit next (n - 2) f && badFrom n (f + 1) r
def checkStem (t b : List Int) : Int :=
  if !fit 2 61 t.length then 6 else if !t.all (fit 0 60) then 3 else if !decide (falling t) then 16 else if !badFrom t.length 0 b then 2 else 0

theorem within0 {x lo hi : Int} {σ : List O} : FSpec Try.prog 57 [.i .i64 lo, .i .i64 hi, .ss [.i .i64 x] 1 true] σ (.b (fit lo hi x)) σ := by
  have h := FSpec.frame (σ := σ) (within (l := [x]) (full := true) (lo := lo) (hi := hi) (by simp)) (by simp) rfl
  have e : (.b ([x].all fun x => decide (lo ≤ x) && decide (x ≤ hi)) : V) = .b (fit lo hi x) := by simp [fit]
  rw [e] at h
  exact h

def inv20 (t b : List Int) (ft fb : Bool) (m : Nat) (env : Env) (σ : List O) : Prop :=
  ∃ (i : Nat) (next : Int), i + m = b.length ∧ 0 ≤ next ∧ next ≤ t.length ∧ badFrom t.length 0 b = badFrom t.length next (b.drop i) ∧
    env = [(1, .p 0 0 0), (4, .i .i64 next), (26, sl b fb), (27, .i .i64 b.length), (28, .i .i64 i)] ∧ σ = [.row 0 [sl t ft, sl b fb]]

theorem checkStem_ok {t b : List Int} {ft fb : Bool} (ht : (t.length : Int) < 1000000000) (hb : (b.length : Int) < 1000000000) : FSpec Try.prog 20 [.agg [sl t ft, sl b fb]] [] (.i .i64 (checkStem t b)) [] := by
  refine fn20.spec0 mixed noIt_ok ?_
  rw [ic20]
  refine ab_seq_k fun K1 h1 => ?_
  simp
  refine h1 _ _ _ (ab_seq_k fun K2 h2 => ?_)
  simp
  refine h2 _ _ _ (ab_seq_k fun K3 h3 => ab_block_k fun K4 h4 => ?_)
  have quit : ∀ {n : Int} {env σ K E}, n = checkStem t b → ab Try.prog noY noIt 0 ((IC.reg [IS.op (some 2) none (IOp.mov (Od.c (V.i IntKind.i64 n)))] (some [2])).seq IC.ret) K E (finK rs20 [] (V.i IntKind.i64 (checkStem t b)) []) (some 0) env σ := by
    intro n env σ K E hn
    refine ab_seq_k fun K1 h1 => ?_
    simp
    refine h1 _ _ _ ?_
    simp
    exact fin_of 1 (by simp [rs20, hn])
  refine ab_seq_k fun K5 h5 => ?_
  simp
  refine callK_of within0 ?_
  simp
  refine h5 _ _ _ (ab_cond_of rfl (fun c1 => quit (by simp at c1; simp [checkStem, c1])) (fun c1 => ab_seq_k fun K6 h6 => ?_))
  simp at c1
  simp
  refine callK_of (FSpec.frame (within ht) (by simp) rfl) ?_
  simp
  refine h6 _ _ _ (ab_cond_of rfl (fun c2 => quit ?_) (fun c2 => ab_seq_k fun K7 h7 => ?_))
  · have c2' : t.all (fit 0 60) = false := by
      cases h : t.all (fit 0 60)
      · rfl
      · have h' : (t.all fun x => decide (0 ≤ x) && decide (x ≤ 60)) = true := h
        simp only [h'] at c2; cases c2
    simp [checkStem, c1, c2']
  have c2' : t.all (fit 0 60) = true := by
    cases h : t.all (fit 0 60)
    · have h' : (t.all fun x => decide (0 ≤ x) && decide (x ≤ 60)) = false := h
      simp only [h'] at c2; cases c2
    · rfl
  simp
  refine callK_of (FSpec.frame (isSorted ht) (by simp) rfl) ?_
  simp
  refine h7 _ _ _ (ab_cond_of rfl (fun c3 => quit (by simp at c3; simp [checkStem, c1, c2', c3])) (fun c3 => ?_))
  simp at c3
  simp
  refine h4 _ _ _ (h3 _ _ _ (ab_seq_k fun K8 h8 => ?_))
  simp
  refine h8 _ _ _ (ab_seq_k fun K9 h9 => ab_seq_k fun K10 h10 => ?_)
  simp
  refine h10 _ _ _ (ab_block_k fun K11 h11 => ab_loop_k (inv20 t b ft fb) b.length ⟨0, 0, by simp, by simp, by simp, by simp, by simp, rfl⟩ ?_)
  rintro m env σ ⟨i, next, hi, k4, k5, k6, rfl, rfl⟩ K12 h12
  rw [ic20_0]
  refine ab_seq_k fun K13 h13 => ?_
  simp
  refine h13 _ _ _ (ab_seq_k fun K14 h14 => ?_)
  by_cases hlt : i < b.length
  · have g1 : b[i]? = some b[i] := List.getElem?_eq_getElem hlt
    have hdrop : b.drop i = b[i] :: b.drop (i + 1) := List.drop_eq_getElem_cons hlt
    generalize hf : b[i] = f at g1 hdrop
    refine ab_cond_of rfl (fun _ => ?_) (fun h => by simp at h; omega)
    simp
    refine h14 _ _ _ (ab_seq_k fun K15 h15 => ab_block_k fun K16 h16 => ab_seq_k fun K17 h17 => ?_)
    simp [hlt, hf]
    refine h17 _ _ _ (ab_seq_k fun K18 h18 => ab_seq_k fun K19 h19 => ?_)
    simp [wrap64 (x := (t.length : Int) - 2) (by omega) (by omega)]
    refine callK_of within0 ?_
    simp
    refine h19 _ _ _ (ab_cond_of rfl (fun c4 => quit ?_) (fun c4 => ?_))
    · simp at c4
      have : badFrom t.length 0 b = false := by rw [k6, hdrop]; simp [badFrom, c4]
      simp [checkStem, c1, c2', c3, this]
    · simp at c4
      have c4' := c4
      simp only [fit, Bool.and_eq_true, decide_eq_true_eq] at c4'
      simp
      refine h18 _ _ _ ?_
      simp [wrap64 (x := f + 1) (by omega) (by omega)]
      refine h16 _ _ _ (h15 _ _ _ ?_)
      simp [wrap64 (x := (i : Int) + 1) (by omega) (by omega)]
      refine h12 _ _ _ (again (m - 1) (by omega) ⟨i + 1, f + 1, by omega, by omega, by omega, ?_, by simp, rfl⟩)
      rw [k6, hdrop]
      simp [badFrom, c4]
  · refine ab_cond_of rfl (fun h => by simp at h; omega) (fun _ => ?_)
    simp
    have : badFrom t.length 0 b = true := by rw [k6, List.drop_eq_nil_of_le (by omega)]; rfl
    exact h11 _ _ _ (h9 _ _ _ (quit (by simp [checkStem, c1, c2', c3, this])))

end Go.Ab
end

section
/- Contracts of scale: rules, yards' parts. -/
set_option linter.unusedVariables false
set_option linter.unusedSimpArgs false
set_option maxHeartbeats 4000000
namespace Go.Ab
open Go Go.Proofs

/-- A rule. -/
structure Ru where
  least : Int
  most : Int
  step : Int
  trim : Int
  off : Int
  div : Int
  thin : Int

def Ru.cells (r : Ru) : List V := [.i .i64 r.least, .i .i64 r.most, .i .i64 r.step, .i .i64 r.trim, .i .i64 r.off, .i .i64 r.div, .i .i64 r.thin]

def Ru.ok (r : Ru) : Bool := fit 1 r.most r.least && decide (r.most ≤ 60) && fit 1 10 r.step && fit 0 5 r.trim && fit 0 20 r.off && fit 1 100 r.div && fit 0 60 r.thin
def Ru.check (r : Ru) : Int := if r.ok then 0 else 3

theorem checkRule_ok {r : Ru} : FSpec Try.prog 22 [.agg r.cells] [] (.i .i64 r.check) [] := by
  refine fn22.spec0 mixed noIt_ok ?_
  rw [ic22]
  refine ab_seq_k fun K1 h1 => ?_
  simp [Ru.cells]
  refine h1 _ _ _ ?_
  clear h1 K1
  refine ab_seq_k fun K1 h1 => ?_
  refine ab_block_k fun K2 h2 => ?_
  have bad : ∀ {env σ K E}, r.ok = false → ab Try.prog noY noIt 0 ((IC.reg [IS.op (some 2) none (IOp.mov (Od.c (V.i IntKind.i64 3)))] (some [2])).seq IC.ret) K E (finK rs22 [] (V.i IntKind.i64 r.check) []) (some 0) env σ := by
    intro env σ K E hr
    refine ab_seq_k fun K1 h1 => ?_
    simp
    refine h1 _ _ _ ?_
    simp
    exact fin_of 1 (by simp [rs22, Ru.check, hr])
  refine ab_seq_k fun K3 h3 => ?_
  simp
  refine callK_of within0 ?_
  simp
  cases e1 : fit 1 r.most r.least with
  | false =>
    simp
    refine h3 _ _ _ (ab_cond_of rfl (fun _ => bad (by simp [Ru.ok, e1])) (fun h => by cases h))
  | true =>
    simp
    refine h3 _ _ _ (ab_cond_of rfl (fun h => bad (by simp at h; simp [Ru.ok, show ¬ r.most ≤ 60 by omega])) (fun h => ?_))
    simp at h
    have e2 : r.most ≤ 60 := by omega
    clear h h3 K3
    refine ab_seq_k fun K3 h3 => ?_
    simp
    refine callK_of within0 ?_
    cases e3 : fit 1 10 r.step with
    | false =>
      simp
      refine h3 _ _ _ (ab_cond_of rfl (fun _ => bad (by simp [Ru.ok, e3])) (fun h => by cases h))
    | true =>
      simp
      refine callK_of within0 ?_
      simp
      refine h3 _ _ _ (ab_cond_of rfl (fun h => bad (by simp at h; simp [Ru.ok, h])) (fun h => ?_))
      have e4 : fit 0 5 r.trim = true := by simpa using h
      clear h h3 K3
      refine ab_seq_k fun K3 h3 => ?_
      simp
      refine callK_of within0 ?_
      cases e5 : fit 0 20 r.off with
      | false =>
        simp
        refine h3 _ _ _ (ab_cond_of rfl (fun _ => bad (by simp [Ru.ok, e5])) (fun h => by cases h))
      | true =>
        simp
        refine callK_of within0 ?_
        cases e6 : fit 1 100 r.div with
        | false =>
          simp
          refine h3 _ _ _ (ab_cond_of rfl (fun _ => bad (by simp [Ru.ok, e6])) (fun h => by cases h))
        | true =>
          simp
          refine callK_of within0 ?_
          simp
          refine h3 _ _ _ (ab_cond_of rfl (fun h => bad (by simp at h; simp [Ru.ok, h])) (fun h => ?_))
          have e7 : fit 0 60 r.thin = true := by simpa using h
          simp
          refine h2 _ _ _ (h1 _ _ _ ?_)
          refine ab_seq_k fun K4 h4 => ?_
          simp
          refine h4 _ _ _ ?_
          simp
          exact fin_of 1 (by simp [rs22, Ru.check, Ru.ok, e1, e2, e3, e4, e5, e6, e7])

/-! ### Yards -/
def spotV (k : Int × Int) : V := .agg [.i .i64 k.1, .i .i64 k.2]
def entV (e : (Int × Int) × Int) : V × V := (spotV e.1, .i .i64 e.2)
def knownV (kn : List ((Int × Int) × Int)) : V := .sm (kn.map entV)
/-- A yard that is built. -/
def yardV (t : List Int) (ft : Bool) (b : List Int) (fb : Bool) (kn : List ((Int × Int) × Int)) : V := .sp [sl t ft, sl b fb, knownV kn] 0

@[simp] theorem pure_known {kn : List ((Int × Int) × Int)} : (knownV kn).pure = true := by
  simp only [knownV, V.pure]
  rw [pureM_all]
  intro e he
  obtain ⟨x, -, rfl⟩ := List.mem_map.1 he
  simp [entV, spotV]
@[simp] theorem pure_yard {t ft b fb kn} : (yardV t ft b fb kn).pure = true := by simp [yardV]

theorem long_ok {cells : List V} {off : Nat} {t : List V} {n : Nat} {full : Bool} (h : cells[off]? = some (.ss t n full)) (hn : (n : Int) < 1000000000) :
    FSpec Try.prog 66 [.sp cells off] [] (.i .i64 ((n : Int) - 1)) [] := by
  refine fn66.spec0 mixed noIt_ok ?_
  rw [ic66]
  refine ab_seq_k fun K1 h1 => ?_
  simp
  refine h1 _ _ _ ?_
  refine ab_seq_k fun K2 h2 => ?_
  simp [h, wrap64 (x := (n : Int) - 1) (by omega) (by omega)]
  refine h2 _ _ _ ?_
  simp
  exact fin_of 1 (by simp [rs66])

/-- What a log is said to scale. -/
def look (kn : List ((Int × Int) × Int)) (k : Int × Int) : Int := ((kn.find? fun e => e.1 == k).map (·.2)).getD 0

theorem key_spot {k : Int × Int} : keyOf .i64 2 (spotV k) = some [k.1, k.2] := by simp [keyOf, spotV]

theorem keysOK_known {kn : List ((Int × Int) × Int)} : keysOK .i64 2 (kn.map entV) := by
  intro e he
  obtain ⟨x, -, rfl⟩ := List.mem_map.1 he
  exact ⟨_, key_spot⟩

theorem findM_known {kn : List ((Int × Int) × Int)} {k : Int × Int} : findM .i64 2 [k.1, k.2] (kn.map entV) = (kn.find? fun e => e.1 == k).map (fun e => V.i .i64 e.2) := by
  induction kn with
  | nil => rfl
  | cons e kn ih =>
    obtain ⟨q, v⟩ := e
    simp only [List.map_cons, entV, findM, key_spot, List.find?_cons]
    by_cases h : q = k
    · subst h; simp
    · have h' : ¬ ([q.1, q.2] = [k.1, k.2]) := by
        intro hE; simp at hE; exact h (Prod.ext hE.1 hE.2)
      have h'' : (q == k) = false := by simpa using h
      simp only [Option.some.injEq, h', if_false, h'']
      exact ih

theorem lkpC_known {kn : List ((Int × Int) × Int)} {x y : Int} {σ : List O} {C : Ct} (h : C (.i .i64 (look kn (x, y))) σ) : lkpC .i64 2 (.i .i64 0) false (knownV kn) (.agg [.i .i64 x, .i .i64 y]) σ C := by
  have hk : keyOf .i64 2 (.agg [.i .i64 x, .i .i64 y]) = some [x, y] := key_spot (k := (x, y))
  simp only [lkpC, lkpK, hk, knownV, lkpF]
  refine ⟨keysOK_known, ?_⟩
  have hf := findM_known (kn := kn) (k := (x, y))
  simp only at hf
  rw [hf]
  simp only [look] at h
  cases hq : kn.find? fun e => e.1 == (x, y) with
  | none => rw [hq] at h; simpa using h
  | some e => rw [hq] at h; simpa using h

theorem scale_ok {t ft b fb kn} {x y : Int} : FSpec Try.prog 52 [yardV t ft b fb kn, .agg [.i .i64 x, .i .i64 y]] [] (.i .i64 (look kn (x, y))) [] := by
  refine fn52.spec0 mixed noIt_ok ?_
  rw [ic52]
  refine ab_seq_k fun K1 h1 => ?_
  simp
  refine h1 _ _ _ ?_
  refine ab_seq_k fun K2 h2 => ?_
  simp [yardV]
  refine lkpC_known ?_
  simp
  refine h2 _ _ _ ?_
  simp
  exact fin_of 1 (by simp [rs52])

/-- Whether a foot of a log is bad. -/
def hasBad (b : List Int) (x y : Int) : Bool := b.any fun f => decide (x ≤ f) && decide (f < y)

def inv86 (b : List Int) (fb : Bool) (x y : Int) (m : Nat) (env : Env) (σ : List O) : Prop :=
  ∃ i : Nat, i + m = b.length ∧ hasBad (b.take i) x y = false ∧ env = [(3, .p 0 0 0), (5, .b false), (12, sl b fb), (13, .i .i64 b.length), (14, .i .i64 i)] ∧ σ = [.row 0 [.i .i64 x, .i .i64 y]]

theorem bad_ok {cells : List V} {b : List Int} {fb : Bool} {x y : Int} (hc : cells[1]? = some (sl b fb)) (hb : (b.length : Int) < 1000000000) :
    FSpec Try.prog 86 [.sp cells 0, .agg [.i .i64 x, .i .i64 y]] [] (.b (hasBad b x y)) [] := by
  refine fn86.spec0 mixed noIt_ok ?_
  rw [ic86]
  refine ab_seq_k fun K1 h1 => ?_
  simp
  refine h1 _ _ _ ?_
  clear h1 K1
  refine ab_seq_k fun K1 h1 => ?_
  simp
  refine h1 _ _ _ ?_
  clear h1 K1
  refine ab_seq_k fun K1 h1 => ?_
  simp
  refine h1 _ _ _ ?_
  clear h1 K1
  refine ab_seq_k fun K1 h1 => ?_
  refine ab_seq_k fun K2 h2 => ?_
  simp [hc]
  refine h2 _ _ _ ?_
  clear h2 K2
  have done : ∀ {v σ env}, v = hasBad b x y → get env 5 = .b v → K1 (some 0) env σ := by
    intro v σ env hv he
    refine h1 _ _ _ ?_
    refine ab_seq_k fun K2 h2 => ?_
    simp [he]
    refine h2 _ _ _ ?_
    simp
    exact fin_of 1 (by simp [rs86, hv])
  clear h1
  refine ab_block_k fun K2 h2 => ?_
  refine ab_loop_k (inv86 b fb x y) b.length ⟨0, by simp, rfl, by simp, rfl⟩ ?_
  rintro m env σ ⟨i, hi, hprev, rfl, rfl⟩ K3 h3
  rw [ic86_0]
  refine ab_seq_k fun K4 h4 => ?_
  simp
  refine h4 _ _ _ ?_
  clear h4 K4
  refine ab_seq_k fun K4 h4 => ?_
  by_cases hlt : i < b.length
  · have h5 : (i : Int) < b.length := by omega
    have g1 : b[i]? = some b[i] := List.getElem?_eq_getElem hlt
    have htake : b.take (i + 1) = b.take i ++ [b[i]] := by rw [List.take_add_one, g1]; rfl
    have hmem : b[i] ∈ b := List.getElem_mem hlt
    generalize b[i] = f at g1 htake hmem
    refine ab_cond_of rfl (fun _ => ?_) (fun h => by simp at h; omega)
    simp
    refine h4 _ _ _ ?_
    clear h4 K4
    refine ab_seq_k fun K4 h4 => ?_
    refine ab_block_k fun K5 h5' => ?_
    refine ab_seq_k fun K6 h6 => ?_
    simp [h5, g1]
    refine h6 _ _ _ ?_
    clear h6 K6
    refine ab_seq_k fun K6 h6 => ?_
    simp
    have fin : ∀ v, v = (decide (x ≤ f) && decide (f < y)) → K6 (some 0) [(3, .p 0 0 0), (5, .b false), (12, sl b fb), (13, .i .i64 b.length), (14, .i .i64 i), (27, .b v)] [.row 0 [.i .i64 x, .i .i64 y]] := by
      intro v hv
      refine h6 _ _ _ (ab_cond_of rfl (fun hE => ?_) (fun hE => ?_))
      · refine ab_seq_k fun K7 h7 => ?_
        simp
        refine h7 _ _ _ ?_
        simp
        refine h2 _ _ _ (done (v := true) ?_ (by simp))
        symm
        rw [hasBad, List.any_eq_true]
        exact ⟨f, hmem, by rw [← hv]; exact hE⟩
      · simp
        refine h5' _ _ _ (h4 _ _ _ ?_)
        simp [wrap64 (x := (i : Int) + 1) (by omega) (by omega)]
        refine h3 _ _ _ (again (m - 1) (by omega) ⟨i + 1, by omega, ?_, by simp, rfl⟩)
        rw [htake]
        simp only [hasBad, List.any_append, List.any_cons, List.any_nil, Bool.or_false, Bool.or_eq_false_iff]
        exact ⟨hprev, by rw [← hv]; exact hE⟩
    by_cases c1 : x ≤ f
    · simp [c1]
      exact fin _ (by simp [c1])
    · simp [c1]
      exact fin _ (by simp [c1])
  · have h5 : ¬ (i : Int) < b.length := by omega
    refine ab_cond_of rfl (fun h => by simp at h; omega) (fun _ => ?_)
    simp
    refine h2 _ _ _ (done (v := false) ?_ (by simp))
    rw [List.take_of_length_le (by omega)] at hprev
    exact hprev.symm

end Go.Ab
end

section
/- Yards: what newYard keeps of a stem and a rule (plain lists), and the map's entries. -/
set_option linter.unusedVariables false
set_option linter.unusedSimpArgs false
set_option maxHeartbeats 4000000
namespace Go.Ab
open Go Go.Proofs

abbrev Kn := List ((Int × Int) × Int)

/-- What a log scales, but for its foot, its thinness. -/
def scaleN (t : List Int) (r : Ru) (to lo : Int) : Int := max 0 (t.getD to.toNat 0 - r.off) * max 0 (t.getD to.toNat 0 - r.off) * lo / r.div
def ent1 (t : List Int) (r : Ru) (fr lo : Int) : Kn := if fr + lo + r.trim ≤ (t.length : Int) - 1 ∧ lo % r.step = 0 then [((fr, fr + lo + r.trim), scaleN t r (fr + lo + r.trim) lo)] else []
def rowK (t : List Int) (r : Ru) (fr : Int) (k : Nat) : Kn := (List.range k).flatMap fun (j : Nat) => ent1 t r fr (r.least + j)
def cntK (r : Ru) : Nat := (r.most + 1 - r.least).toNat
def allK (t : List Int) (r : Ru) (k : Nat) : Kn := (List.range k).flatMap fun (i : Nat) => rowK t r i (cntK r)
def badK (t b : List Int) (r : Ru) (e : (Int × Int) × Int) : Bool := decide (e.2 = 0) || decide (t.getD e.1.2.toNat 0 < r.thin) || hasBad b e.1.1 e.1.2
def knownK (t b : List Int) (r : Ru) : Kn := (allK t r (t.length - 1)).filter fun e => !badK t b r e

theorem rowK_succ {t r fr j} : rowK t r fr (j + 1) = rowK t r fr j ++ ent1 t r fr (r.least + j) := by simp [rowK, List.range_succ]
theorem allK_succ {t r i} : allK t r (i + 1) = allK t r i ++ rowK t r i (cntK r) := by simp [allK, List.range_succ]

theorem ent1_mem {t r fr lo e} (h : e ∈ ent1 t r fr lo) : e = ((fr, fr + lo + r.trim), scaleN t r (fr + lo + r.trim) lo) ∧ fr + lo + r.trim ≤ (t.length : Int) - 1 ∧ lo % r.step = 0 := by
  unfold ent1 at h
  split at h
  · rename_i hc
    simp at h
    exact ⟨h, hc⟩
  · cases h
theorem rowK_mem {t r fr k e} (h : e ∈ rowK t r fr k) : ∃ j : Nat, j < k ∧ e ∈ ent1 t r fr (r.least + j) := by
  simp only [rowK, List.mem_flatMap, List.mem_range] at h
  exact h
theorem allK_mem {t r k e} (h : e ∈ allK t r k) : ∃ i : Nat, i < k ∧ e ∈ rowK t r i (cntK r) := by
  simp only [allK, List.mem_flatMap, List.mem_range] at h
  exact h
theorem allK_lt {t r k e} (h : e ∈ allK t r k) : 0 ≤ e.1.1 ∧ e.1.1 < k := by
  obtain ⟨i, hi, h⟩ := allK_mem h
  obtain ⟨j, hj, h⟩ := rowK_mem h
  obtain ⟨rfl, -⟩ := ent1_mem h
  simp only
  omega
theorem rowK_lt {t r fr k e} (h : e ∈ rowK t r fr k) : e.1.1 = fr ∧ e.1.2 < fr + (r.least + k) + r.trim := by
  obtain ⟨j, hj, h⟩ := rowK_mem h
  obtain ⟨rfl, -⟩ := ent1_mem h
  exact ⟨rfl, by show fr + (r.least + (j : Int)) + r.trim < _; omega⟩

theorem rowK_nodup {t r fr} : ∀ {k : Nat}, ((rowK t r fr k).map (·.1)).Nodup
  | 0 => by simp [rowK]
  | k + 1 => by
    rw [rowK_succ, List.map_append, List.nodup_append]
    refine ⟨rowK_nodup, ?_, ?_⟩
    · unfold ent1; split <;> simp
    · intro a ha c hc
      obtain ⟨e, he, rfl⟩ := List.mem_map.1 ha
      obtain ⟨e', he', rfl⟩ := List.mem_map.1 hc
      have h1 := (rowK_lt he).2
      obtain ⟨rfl, -⟩ := ent1_mem he'
      intro hE
      rw [hE] at h1
      simp only at h1
      omega
theorem allK_nodup {t r} : ∀ {k : Nat}, ((allK t r k).map (·.1)).Nodup
  | 0 => by simp [allK]
  | k + 1 => by
    rw [allK_succ, List.map_append, List.nodup_append]
    refine ⟨allK_nodup, rowK_nodup, ?_⟩
    intro a ha c hc
    obtain ⟨e, he, rfl⟩ := List.mem_map.1 ha
    obtain ⟨e', he', rfl⟩ := List.mem_map.1 hc
    have h1 := (allK_lt he).2
    have h2 := (rowK_lt he').1
    intro hE
    rw [hE, h2] at h1
    omega

/-! ### Entries of a map -/
abbrev TE := List (Nat × ((Int × Int) × Int))
def tE : Nat → Kn → TE
  | _, [] => []
  | k, e :: r => (k, e) :: tE (k + 1) r
def encE (p : Nat × ((Int × Int) × Int)) : Nat × V × V := (p.1, spotV p.2.1, .i .i64 p.2.2)

theorem tE_append {a b : Kn} : ∀ {k : Nat}, tE k (a ++ b) = tE k a ++ tE (k + a.length) b := by
  induction a with
  | nil => intro k; simp [tE]
  | cons e r ih => intro k; simp only [List.cons_append, tE, ih, List.length_cons]; congr 3; omega
@[simp] theorem tE_length {a : Kn} : ∀ {k : Nat}, (tE k a).length = a.length := by
  induction a with
  | nil => intro k; rfl
  | cons e r ih => intro k; simp [tE, ih]
theorem tE_lt {a : Kn} : ∀ {k : Nat} {p}, p ∈ tE k a → k ≤ p.1 ∧ p.1 < k + a.length ∧ p.2 ∈ a := by
  induction a with
  | nil => intro k p h; simp [tE] at h
  | cons e r ih =>
    intro k p h
    simp only [tE, List.mem_cons] at h
    rcases h with rfl | h
    · simp
    · obtain ⟨h1, h2, h3⟩ := ih h
      simp only [List.length_cons, List.mem_cons]
      exact ⟨by omega, by omega, .inr h3⟩
theorem tE_born {a : Kn} : ∀ {k : Nat}, ((tE k a).map (·.1)).Nodup := by
  induction a with
  | nil => intro k; simp [tE]
  | cons e r ih =>
    intro k
    simp only [tE, List.map_cons, List.nodup_cons]
    refine ⟨fun h => ?_, ih⟩
    obtain ⟨p, hp, hE⟩ := List.mem_map.1 h
    have := (tE_lt hp).1
    omega
theorem tE_snd {a : Kn} : ∀ {k : Nat}, (tE k a).map (·.2) = a := by
  induction a with
  | nil => intro k; rfl
  | cons e r ih => intro k; simp [tE, ih]

theorem keysOK_ents {l : TE} : keysOK .i64 2 ((l.map encE).map (·.2)) := by
  intro e he
  simp only [List.map_map, List.mem_map] at he
  obtain ⟨p, -, rfl⟩ := he
  exact ⟨_, key_spot⟩

theorem idxM_ents {l : TE} {k : Int × Int} : idxM .i64 2 [k.1, k.2] ((l.map encE).map (·.2)) = l.findIdx? (fun p => p.2.1 == k) := by
  induction l with
  | nil => rfl
  | cons p l ih =>
    have e : (encE p :: l.map encE).map (·.2) = (spotV p.2.1, V.i .i64 p.2.2) :: (l.map encE).map (·.2) := rfl
    rw [List.map_cons, e]
    simp only [idxM, key_spot, ih, List.findIdx?_cons]
    by_cases h : p.2.1 = k
    · subst h; simp
    · have h' : ¬ ([p.2.1.1, p.2.1.2] = [k.1, k.2]) := by
        intro hE; simp at hE; exact h (Prod.ext hE.1 hE.2)
      have h'' : (p.2.1 == k) = false := by simpa using h
      simp only [Option.some.injEq, h', if_false, h'']
      rfl

theorem erase_of {α : Type} {l : List α} {p : α → Bool} {i : Nat} (h : l.findIdx? p = some i) : l.eraseIdx i = l.eraseP p := by
  rw [List.eraseP_eq_eraseIdx, h]
theorem eraseP_unique {α β : Type} [DecidableEq β] {f : α → β} {l : List α} {k : β} (hn : (l.map f).Nodup) : l.eraseP (fun p => decide (f p = k)) = l.filter (fun p => !decide (f p = k)) := by
  induction l with
  | nil => rfl
  | cons a l ih =>
    simp only [List.map_cons, List.nodup_cons] at hn
    simp only [List.eraseP_cons, List.filter_cons]
    by_cases h : f a = k
    · simp only [h, decide_true, cond_true, Bool.not_true]
      have : l.filter (fun p => !decide (f p = k)) = l := by
        rw [List.filter_eq_self]
        intro x hx
        simp only [Bool.not_eq_true', decide_eq_false_iff_not]
        intro hE
        exact hn.1 (by rw [h, ← hE]; exact List.mem_map_of_mem hx)
      simp [this]
    · simp only [h, decide_false, cond_false, Bool.not_false, if_true]
      rw [ih hn.2]

theorem find_born {l : TE} (hn : (l.map (·.1)).Nodup) {p} (hp : p ∈ l) : (l.map encE).find? (fun e => e.1 == p.1) = some (encE p) := by
  induction l with
  | nil => cases hp
  | cons a l ih =>
    simp only [List.map_cons, List.nodup_cons] at hn
    rw [List.map_cons, List.find?_cons]
    rcases List.mem_cons.1 hp with rfl | hp
    · have : ((encE p).1 == p.1) = true := by simp [encE]
      rw [this]
    · have : ((encE a).1 == p.1) = false := by
        simp only [encE, beq_eq_false_iff_ne]
        intro hE
        exact hn.1 (by rw [hE]; exact List.mem_map_of_mem hp)
      rw [this]
      exact ih hn.2 hp
end Go.Ab
end

section
/- newYard: the walk. -/
set_option linter.unusedVariables false
set_option linter.unusedSimpArgs false
set_option maxHeartbeats 4000000
namespace Go.Ab
open Go Go.Proofs

structure RuB (r : Ru) : Prop where
  l1 : 1 ≤ r.least
  l2 : r.least ≤ r.most
  m : r.most ≤ 60
  s1 : 1 ≤ r.step
  s2 : r.step ≤ 10
  t1 : 0 ≤ r.trim
  t2 : r.trim ≤ 5
  o1 : 0 ≤ r.off
  o2 : r.off ≤ 20
  d1 : 1 ≤ r.div
  d2 : r.div ≤ 100
  h1 : 0 ≤ r.thin
  h2 : r.thin ≤ 60

theorem Ru.bounds {r : Ru} (h : r.ok = true) : RuB r := by
  simp only [Ru.ok, fit, Bool.and_eq_true, decide_eq_true_eq] at h
  exact ⟨by omega, by omega, by omega, by omega, by omega, by omega, by omega, by omega, by omega, by omega, by omega, by omega, by omega⟩

def mapE (l : Kn) : O := .map ((tE 0 l).map encE) l.length
@[simp] theorem mapE_ver {l : Kn} : (mapE l).ver = 0 := rfl
@[simp] theorem get_del_ne {env : Env} {s t : Nat} (h : s ≠ t) : get (del env s) t = get env t := by rw [get_del, if_neg h]
def heapE (t b : List Int) (ft fb : Bool) (r : Ru) (o : O) (g : List O) : List O :=
  .row 0 [sl t ft, sl b fb] :: .row 0 r.cells :: o :: .row 0 [sl t ft, sl b fb, .m 2] :: g

def inv77_1 (t b : List Int) (ft fb : Bool) (r : Ru) (m : Nat) (env : Env) (σ : List O) : Prop :=
  ∃ i : Nat, i + m = t.length - 1 ∧ env = [(2, .p 0 0 0), (3, .p 1 0 0), (5, .p 3 0 0), (17, .i .i64 ((t.length : Int) - 1)), (18, .i .i64 i)] ∧
    σ = heapE t b ft fb r (mapE (allK t r i)) []

def inv77_0 (t b : List Int) (ft fb : Bool) (r : Ru) (i : Nat) (m : Nat) (env : Env) (σ : List O) : Prop :=
  ∃ j : Nat, j + m = cntK r ∧ env = [(2, .p 0 0 0), (3, .p 1 0 0), (5, .p 3 0 0), (6, .i .i64 i), (7, .i .i64 (r.least + j)), (17, .i .i64 ((t.length : Int) - 1)), (18, .i .i64 i)] ∧
    σ = heapE t b ft fb r (mapE (allK t r i ++ rowK t r i j)) []

def inv77_2 (t b : List Int) (ft fb : Bool) (r : Ru) (E : Kn) (m : Nat) (env : Env) (σ : List O) : Prop :=
  ∃ seen : List Nat, ((tE 0 E).filter fun p => decide (p.1 ∉ seen)).length = m ∧ env = [(2, .p 0 0 0), (3, .p 1 0 0), (5, .p 3 0 0), (75, .p 4 0 0)] ∧
    σ = heapE t b ft fb r (.map (((tE 0 E).filter fun p => !(decide (p.1 ∈ seen) && badK t b r p.2)).map encE) E.length) [.it 2 E.length seen E.length]

theorem longY {t b : List Int} {ft fb : Bool} {r : Ru} {o : O} {g : List O} (h61 : t.length ≤ 61) :
    FSpec Try.prog 66 [.p 3 0 0] (heapE t b ft fb r o g) (.i .i64 ((t.length : Int) - 1)) (heapE t b ft fb r o g) := by
  refine FSpec.frozen 3 (v := .i .i64 ((t.length : Int) - 1)) ?_ rfl
  simp [heapE]
  exact long_ok (t := ints t) (n := t.length) (full := ft) (by simp) (by omega)

theorem mset_new {l : Kn} {x y v : Int} {σ : List O} {id : Nat} {C : Ct} (h : σ[id]? = some (mapE l)) (hn : ∀ e ∈ l, e.1 ≠ (x, y)) (hC : C .u (σ.set id (mapE (l ++ [((x, y), v)])))) :
    msetK .i64 2 (.m id) (.agg [.i .i64 x, .i .i64 y]) (.i .i64 v) σ C := by
  have hk : keyOf .i64 2 (.agg [.i .i64 x, .i .i64 y]) = some [x, y] := key_spot (k := (x, y))
  have hi := idxM_ents (l := tE 0 l) (k := (x, y))
  have hnone : (tE 0 l).findIdx? (fun p => p.2.1 == (x, y)) = none := by
    rw [List.findIdx?_eq_none_iff]
    intro p hp
    have := hn p.2 (tE_lt hp).2.2
    simpa using this
  rw [hnone] at hi
  simp only at hi
  simp only [msetK, hk, h, mapE, hi]
  refine ⟨keysOK_ents, ?_⟩
  have e : (tE 0 l).map encE ++ [(l.length, V.agg [.i .i64 x, .i .i64 y], V.i .i64 v)] = (tE 0 (l ++ [((x, y), v)])).map encE := by
    rw [tE_append, List.map_append]
    simp [tE, encE, spotV]
  rw [e]
  simpa [mapE] using hC

theorem rng_K {σ : List O} {id c : Nat} {es : List (Nat × V × V)} {C : Ct} (h : σ[id]? = some (.map es c)) (hC : C (.p σ.length 0 0) (σ ++ [.it id c [] c])) : rngK (.m id) σ C := by
  simp only [rngK, h]; exact hC

theorem nxt_K {σ : List O} {id mid since : Nat} {seen : List Nat} {es : List (Nat × V × V)} {C : Ct} (h1 : σ[id]? = some (.it mid since seen since)) (h2 : σ[mid]? = some (.map es since)) (hb : ∀ e ∈ es, e.1 < since)
    (hend : (∀ e ∈ es, e.1 ∈ seen) → C (.tup [.b false]) σ) (hgo : ∀ e ∈ es, e.1 ∉ seen → C (.tup [.b true, e.2.1, e.2.2]) (σ.set id (.it mid since (seen ++ [e.1]) since))) : nxtK (.p id 0 0) σ C := by
  simp only [nxtK, h1, h2]
  exact ⟨trivial, trivial, trivial, trivial, hb, hend, hgo⟩

theorem ent_K {σ : List O} {id mid since stepped b : Nat} {seen : List Nat} {es : List (Nat × V × V)} {C : Ct} {e : Nat × V × V} (h1 : σ[id]? = some (.it mid since (seen ++ [b]) stepped)) (h2 : σ[mid]? = some (.map es stepped))
    (hf : es.find? (fun e => e.1 == b) = some e) (hC : C (.tup [e.2.1, e.2.2]) σ) : entC (.p id 0 0) σ C := by
  simp only [entC, entK, h1, h2, List.getLast?_append, List.getLast?_singleton, Option.some_or, hf]
  exact ⟨trivial, trivial, trivial, hC⟩

theorem mdel_E {σ : List O} {id c : Nat} {l : TE} {x y : Int} {C : Ct} (h : σ[id]? = some (.map (l.map encE) c)) (hn : (l.map (·.2.1)).Nodup) (hm : (x, y) ∈ l.map (·.2.1))
    (hC : C .u (σ.set id (.map ((l.filter fun p => !decide (p.2.1 = (x, y))).map encE) c))) : mdelK .i64 2 (.m id) (.agg [.i .i64 x, .i .i64 y]) σ C := by
  have hk : keyOf .i64 2 (.agg [.i .i64 x, .i .i64 y]) = some [x, y] := key_spot (k := (x, y))
  have hi := idxM_ents (l := l) (k := (x, y))
  simp only at hi
  simp only [mdelK, hk, h, hi]
  refine ⟨keysOK_ents, ?_⟩
  cases hf : l.findIdx? (fun p => p.2.1 == (x, y)) with
  | none =>
    rw [List.findIdx?_eq_none_iff] at hf
    obtain ⟨p, hp, hE⟩ := List.mem_map.1 hm
    have := hf p hp
    simp [hE] at this
  | some i =>
    simp only
    have h1 := erase_of hf
    have h2 : l.eraseP (fun p => p.2.1 == (x, y)) = l.filter fun p => !decide (p.2.1 = (x, y)) := by
      have := eraseP_unique (f := fun p : Nat × ((Int × Int) × Int) => p.2.1) (k := (x, y)) hn
      rw [← this]
      congr 1
      funext p
      rw [Bool.eq_iff_iff]
      simp
    rw [← h2, ← h1] at hC
    have h3 : (l.map encE).eraseIdx i = (l.eraseIdx i).map encE := by simp [List.eraseIdx_eq_take_drop_succ, List.map_take, List.map_drop]
    rw [h3]
    exact hC

theorem nodup_inj {α β : Type} {f : α → β} : ∀ {l : List α}, (l.map f).Nodup → ∀ {a b : α}, a ∈ l → b ∈ l → f a = f b → a = b
  | [], _, _, _, h, _, _ => by cases h
  | x :: l, hn, a, b, ha, hb, h => by
    simp only [List.map_cons, List.nodup_cons] at hn
    rcases List.mem_cons.1 ha with h1 | h1 <;> rcases List.mem_cons.1 hb with h2 | h2
    · rw [h1, h2]
    · exact absurd (by rw [← h1, h]; exact List.mem_map_of_mem h2) hn.1
    · exact absurd (by rw [← h2, ← h]; exact List.mem_map_of_mem h1) hn.1
    · exact nodup_inj hn.2 h1 h2 h

@[simp high] theorem frzO_ents {k n c : Nat} {σ : List O} {l : TE} : frzO (k + 1) n σ (.map (l.map encE) c) = .map (l.map encE) c := by
  have h : ((l.map encE).map fun e => (e.1, frz (k + 1) n σ e.2.1, frz (k + 1) n σ e.2.2)) = l.map encE := by
    rw [List.map_map]
    refine List.map_congr_left (fun p _ => ?_)
    simp [encE, spotV]
  show O.map _ c = _
  rw [h]

theorem frzS_heapE {t b : List Int} {ft fb : Bool} {r : Ru} {es : TE} {c : Nat} {seen : List Nat} {g : O} :
    frzS 2 5 (heapE t b ft fb r (.map (es.map encE) c) [.it 2 c seen c, g]) = heapE t b ft fb r (.map (es.map encE) c) [.it 2 c seen c] := by
  have e : ∀ σ, frzO 2 5 σ (.map (es.map encE) c) = .map (es.map encE) c := fun σ => frzO_ents (k := 1)
  show [frzO 2 5 _ _, frzO 2 5 _ _, frzO 2 5 _ _, frzO 2 5 _ _, frzO 2 5 _ _] = _
  rw [e]
  simp [heapE, Ru.cells]

theorem get_frz {k n : Nat} {σ : List O} {t : Nat} : ∀ {env : Env}, get (frzE k n σ env) t = frz k n σ (get env t)
  | [] => by cases k <;> rfl
  | (s, v) :: r => by
    show get ((s, frz k n σ v) :: frzE k n σ r) t = _
    simp only [get]
    split
    · rfl
    · exact get_frz
theorem get_frz_p {k n : Nat} {σ : List O} {t id ver off : Nat} {env : Env} (h : get env t = .p id ver off) (hl : id < n) : get (frzE (k + 1) n σ env) t = .p id ver off := by
  rw [get_frz, h]
  simp [hl]

theorem frz_map {k n id c : Nat} {σ : List O} {es : TE} (h : σ[id]? = some (.map (es.map encE) c)) (hn : n ≤ id) : frz (k + 2) n σ (.m id) = .sm (es.map fun p => (spotV p.2.1, V.i .i64 p.2.2)) := by
  rw [frz]
  simp only [V.pure, Bool.false_eq_true, if_false, Nat.not_lt.2 hn, h]
  congr 1
  rw [List.map_map]
  refine List.map_congr_left (fun p _ => ?_)
  simp [encE, spotV]
theorem frz_yard {t b : List Int} {ft fb : Bool} {r : Ru} {es : TE} {c : Nat} {g : List O} :
    frz 4 0 (heapE t b ft fb r (.map (es.map encE) c) g) (.p 3 0 0) = .sp [sl t ft, sl b fb, .sm (es.map fun p => (spotV p.2.1, V.i .i64 p.2.2))] 0 := by
  show V.sp ([sl t ft, sl b fb, .m 2].map (frz 3 0 (heapE t b ft fb r (.map (es.map encE) c) g))) 0 = _
  simp only [List.map_cons, List.map_nil]
  rw [frz_pure (by simp), frz_pure (by simp), frz_map (es := es) (c := c) rfl (Nat.zero_le _)]

theorem hasBad_bound {b : List Int} : True := trivial

theorem over_bound {x off lo d : Int} (h1 : 0 ≤ x) (h2 : x ≤ 60) (o1 : 0 ≤ off) (l1 : 0 ≤ lo) (l2 : lo ≤ 60) :
    0 ≤ max 0 (x - off) * max 0 (x - off) ∧ max 0 (x - off) * max 0 (x - off) ≤ 3600 ∧ 0 ≤ max 0 (x - off) * max 0 (x - off) * lo ∧ max 0 (x - off) * max 0 (x - off) * lo ≤ 216000 := by
  have a1 : 0 ≤ max 0 (x - off) := by omega
  have a2 : max 0 (x - off) ≤ 60 := by omega
  generalize max 0 (x - off) = y at *
  have b1 : 0 ≤ y * y := Int.mul_nonneg a1 a1
  have b2 : y * y ≤ 60 * 60 := Int.mul_le_mul a2 a2 a1 (by omega)
  generalize y * y = z at *
  have c1 : 0 ≤ z * lo := Int.mul_nonneg b1 l1
  have c2 : z * lo ≤ (60 * 60) * 60 := Int.mul_le_mul b2 l2 l1 (by omega)
  exact ⟨b1, by omega, c1, by omega⟩

theorem newYard_ok {t b : List Int} {ft fb : Bool} {r : Ru} (h2 : 2 ≤ t.length) (h61 : t.length ≤ 61) (hv : ∀ x ∈ t, 0 ≤ x ∧ x ≤ 60) (hb : (b.length : Int) < 1000000000) (hr : RuB r) :
    FSpec Try.prog 77 [.agg [sl t ft, sl b fb], .agg r.cells] [] (yardV t ft b fb (knownK t b r)) [] := by
  obtain ⟨l1, l2, m1, s1, s2, t1, t2, o1, o2, d1, d2, th1, th2⟩ := hr
  refine fn77.spec0 mixed noIt_ok ?_
  rw [ic77]
  refine ab_seq_k fun K1 h1 => ?_
  simp [Ru.cells]
  refine h1 _ _ _ ?_
  clear h1 K1
  refine ab_seq_k fun K2 h2 => ?_
  simp
  refine h2 _ _ _ ?_
  clear h2 K2
  refine ab_seq_k fun K3 h3 => ?_
  refine ab_seq_k fun K4 h4 => ?_
  simp
  refine callK_of (longY (r := r) (g := []) h61) ?_
  simp
  refine h4 _ _ _ ?_
  clear h4 K4
  refine ab_block_k fun K5 h5 => ?_
  refine ab_loop_k (inv77_1 t b ft fb r) (t.length - 1) ⟨0, by omega, by simp, by simp [allK, tE, heapE, mapE, Ru.cells]⟩ ?_
  rintro m env σ ⟨i, hi, rfl, rfl⟩ K6 h6
  rw [ic77_1]
  refine ab_seq_k fun K7 h7 => ?_
  simp
  refine h7 _ _ _ ?_
  clear h7 K7
  refine ab_seq_k fun K8 h8 => ?_
  refine ab_cond_of rfl (fun hc => ?_) (fun hc => ?_)
  · have hin : i + 1 ≤ t.length - 1 := by simp at hc; omega
    simp
    refine h8 _ _ _ ?_
    clear h8 K8 h5 h3
    refine ab_seq_k fun K9 h9 => ?_
    refine ab_block_k fun K10 h10 => ?_
    refine ab_seq_k fun K11 h11 => ?_
    simp
    refine h11 _ _ _ ?_
    clear h11 K11
    refine ab_seq_k fun K12 h12 => ?_
    simp [heapE, Ru.cells]
    refine h12 _ _ _ ?_
    clear h12 K12
    refine ab_block_k fun K13 h13 => ?_
    refine ab_loop_k (inv77_0 t b ft fb r i) (cntK r) ⟨0, by omega, by simp, by simp [rowK, heapE, Ru.cells]⟩ ?_
    rintro m' env σ ⟨j, hj, rfl, rfl⟩ K14 h14
    rw [ic77_0]
    refine ab_seq_k fun K15 h15 => ?_
    refine ab_seq_k fun K16 h16 => ?_
    simp [heapE, Ru.cells]
    refine h16 _ _ _ ?_
    clear h16 K16
    have hcnt : (cntK r : Int) = r.most + 1 - r.least := by unfold cntK; omega
    refine ab_cond_of rfl (fun hc => ?_) (fun hc => ?_)
    · have hjn : j + 1 ≤ cntK r := by simp at hc; omega
      simp
      refine h15 _ _ _ ?_
      clear h15 K15
      refine ab_seq_k fun K17 h17 => ?_
      have next : ∀ {env σ}, keep env [2, 3, 5, 6, 7, 17, 18] = [(2, .p 0 0 0), (3, .p 1 0 0), (5, .p 3 0 0), (6, .i .i64 i), (7, .i .i64 (r.least + j)), (17, .i .i64 ((t.length : Int) - 1)), (18, .i .i64 i)] →
          σ = heapE t b ft fb r (mapE (allK t r i ++ rowK t r i (j + 1))) [] → K17 (some 0) env σ := by
        rintro env σ he rfl
        simp at he
        obtain ⟨e1, e2, e3, e4, e5, e6, e7⟩ := he
        refine h17 _ _ _ ?_
        simp [e5, wrap64 (x := r.least + (j : Int) + 1) (by omega) (by omega)]
        exact h14 _ _ _ (again (m' - 1) (by omega) ⟨j + 1, by omega, by simp [e1, e2, e3, e4, e6, e7]; omega, rfl⟩)
      clear h17
      refine ab_block_k fun K18 h18 => ?_
      refine ab_seq_k fun K19 h19 => ?_
      simp [wrap64 (x := (i : Int) + (r.least + j)) (by omega) (by omega), wrap64 (x := (i : Int) + (r.least + j) + r.trim) (by omega) (by omega)]
      refine h19 _ _ _ ?_
      clear h19 K19
      refine ab_seq_k fun K20 h20 => ?_
      simp
      refine callK_of (longY (r := r) (g := []) h61) ?_
      have no : ent1 t r i (r.least + j) = [] → K20 (some 0) [(2, .p 0 0 0), (3, .p 1 0 0), (5, .p 3 0 0), (6, .i .i64 i), (7, .i .i64 (r.least + j)), (8, .i .i64 ((i : Int) + (r.least + j) + r.trim)), (17, .i .i64 ((t.length : Int) - 1)), (18, .i .i64 i), (45, .b false)] (heapE t b ft fb r (mapE (allK t r i ++ rowK t r i j)) []) := by
        intro he
        refine h20 _ _ _ ?_
        refine ab_cond_of rfl (fun h => by cases h) (fun _ => ?_)
        simp
        refine h18 _ _ _ (next (by simp) ?_)
        rw [rowK_succ, he, List.append_nil]
      by_cases hle : (i : Int) + (r.least + j) + r.trim ≤ (t.length : Int) - 1
      · simp [hle, heapE, Ru.cells]
        rw [Int.tmod_eq_emod_of_nonneg (by omega)]
        by_cases hs : (r.least + j) % r.step = 0
        · simp [hs]
          refine ⟨by omega, h20 _ _ _ ?_⟩
          clear no h20 K20
          refine ab_cond_of rfl (fun _ => ?_) (fun h => by cases h)
          refine ab_seq_k fun K21 h21 => ?_
          generalize hto : (i : Int) + (r.least + j) + r.trim = to at *
          have hto0 : 0 ≤ to := by omega
          have htol : to < t.length := by omega
          have g1 : t[to.toNat]? = some (t.getD to.toNat 0) := by rw [List.getD_eq_getElem?_getD, List.getElem?_eq_getElem (by omega)]; rfl
          have hx := hv _ (List.mem_of_getElem? g1)
          have hent : ent1 t r i (r.least + j) = [((↑i, to), scaleN t r to (r.least + j))] := by simp only [ent1, hto]; rw [if_pos ⟨by omega, hs⟩]
          have hsc : scaleN t r to (r.least + j) = max 0 (t.getD to.toNat 0 - r.off) * max 0 (t.getD to.toNat 0 - r.off) * (r.least + j) / r.div := rfl
          generalize t.getD to.toNat 0 = x at *
          have k1 : t[to.toNat]'(by omega) = x := by rw [List.getElem?_eq_getElem (by omega)] at g1; exact Option.some.inj g1
          obtain ⟨b1, b2, b3, b4⟩ := over_bound (lo := r.least + j) (d := 0) hx.1 hx.2 o1 (by omega) (by omega)
          simp [htol, hto0, g1, k1, wrap64 (x := x - r.off) (by omega) (by omega)]
          refine h21 _ _ _ ?_
          clear h21 K21
          simp [wrap64 (x := max 0 (x - r.off) * max 0 (x - r.off)) (by omega) (by omega), wrap64 (x := max 0 (x - r.off) * max 0 (x - r.off) * (r.least + j)) (by omega) (by omega)]
          have c1 : 0 ≤ max 0 (x - r.off) * max 0 (x - r.off) * (r.least + ↑j) / r.div := Int.ediv_nonneg b3 (by omega)
          have c2 : max 0 (x - r.off) * max 0 (x - r.off) * (r.least + ↑j) / r.div ≤ max 0 (x - r.off) * max 0 (x - r.off) * (r.least + ↑j) := Int.ediv_le_self _ b3
          rw [Int.tdiv_eq_ediv_of_nonneg b3]
          simp [wrap64 (x := max 0 (x - r.off) * max 0 (x - r.off) * (r.least + ↑j) / r.div) (by omega) (by omega)]
          refine ⟨by omega, mset_new (l := allK t r i ++ rowK t r i j) rfl ?_ ?_⟩
          · intro e he hE
            rcases List.mem_append.1 he with he | he
            · have := (allK_lt he).2
              rw [hE] at this
              simp only at this
              omega
            · have := (rowK_lt he).2
              rw [hE] at this
              simp only at this
              omega
          · simp
            refine h18 _ _ _ (next (by simp) ?_)
            rw [rowK_succ, hent, hsc]
            simp [heapE, Ru.cells]
        · simp [hs]
          refine ⟨by omega, no (by simp [ent1, hs])⟩
      · simp [hle, heapE, Ru.cells]
        exact no (by simp [ent1, hle])
    · simp
      refine h13 _ _ _ ?_
      refine h10 _ _ _ ?_
      refine h9 _ _ _ ?_
      simp [wrap64 (x := (i : Int) + 1) (by omega) (by omega)]
      have hjc : j = cntK r := by simp at hc; omega
      subst hjc
      exact h6 _ _ _ (again (m - 1) (by omega) ⟨i + 1, by omega, by simp, by rw [allK_succ]; rfl⟩)
  · simp
    refine h5 _ _ _ ?_
    refine h3 _ _ _ ?_
    have hin : i = t.length - 1 := by simp at hc; omega
    subst hin
    clear h5 h6 h8 h3
    refine ab_seq_k fun K22 h22 => ?_
    refine ab_seq_k fun K23 h23 => ?_
    generalize hE : allK t r (t.length - 1) = E
    simp [heapE, mapE]
    refine rng_K (es := (tE 0 E).map encE) (c := E.length) rfl ?_
    simp
    refine h23 _ _ _ ?_
    refine ab_block_k fun K24 h24 => ?_
    refine ab_loop_k (inv77_2 t b ft fb r E) _ ⟨[], rfl, by simp, by simp [heapE, List.filter_eq_self.2]⟩ ?_ -- live 2 3 5 75
    rintro m env σ ⟨seen, hm, rfl, rfl⟩ K25 h25
    rw [ic77_2]
    refine ab_seq_k fun K26 h26 => ?_
    simp [heapE]
    refine nxt_K (es := ((tE 0 E).filter fun p => !decide (p.1 ∈ seen) || !badK t b r p.2).map encE) (since := E.length) (mid := 2) (seen := seen) rfl rfl ?_ ?_ ?_
    · intro e he
      obtain ⟨p, hp, rfl⟩ := List.mem_map.1 he
      have := (tE_lt (List.mem_filter.1 hp).1).2.1
      simpa [encE] using this
    · intro hall
      simp
      refine h26 _ _ _ ?_
      refine ab_seq_k fun K27 h27 => ?_
      refine ab_cond_of rfl (fun hc => by cases hc) (fun _ => ?_)
      simp -- exit 4
      refine h24 _ _ _ ?_
      refine h22 _ _ _ ?_
      refine ab_seq_k fun K31 h31 => ?_
      simp
      refine h31 _ _ _ ?_
      have hf : ((tE 0 E).filter fun p => !decide (p.1 ∈ seen) || !badK t b r p.2) = (tE 0 E).filter fun p => !badK t b r p.2 := by
        refine List.filter_congr (fun p hp => ?_)
        cases hb' : badK t b r p.2 with
        | false => simp
        | true =>
          by_cases hs : p.1 ∈ seen
          · simp [hs]
          · exfalso
            exact hs (hall (encE p) (List.mem_map.2 ⟨p, List.mem_filter.2 ⟨hp, by simp [hs]⟩, rfl⟩))
      rw [hf]
      have hk : ∀ (k : Nat) (l : Kn), ((tE k l).filter fun p => !badK t b r p.2).map (fun p => (spotV p.2.1, V.i .i64 p.2.2)) = (l.filter fun e => !badK t b r e).map entV := by
        intro k l
        induction l generalizing k with
        | nil => rfl
        | cons e l ih =>
          simp only [tE, List.filter_cons]
          split
          · simp only [List.map_cons, ih]; rfl
          · exact ih _
      have hkn : knownK t b r = E.filter fun e => !badK t b r e := by rw [knownK, hE]
      simp only [ab_ret]
      refine fin_of 4 ?_
      show frz 4 0 _ (.p 3 0 0) = _ ∧ _
      refine ⟨?_, .inr trivial⟩
      refine (frz_yard (t := t) (b := b) (ft := ft) (fb := fb) (r := r) (c := E.length) (g := [.it 2 E.length seen E.length])).trans ?_
      rw [hk, ← hkn]
      rfl
    · intro e he hns
      obtain ⟨p, hp, rfl⟩ := List.mem_map.1 he
      simp
      refine h26 _ _ _ ?_
      clear h26 K26
      refine ab_seq_k fun K27 h27 => ?_
      refine ab_cond_of rfl (fun _ => ?_) (fun hc => by cases hc)
      simp
      refine h27 _ _ _ ?_
      refine ab_block_k fun K28 h28 => ?_
      refine ab_seq_k fun K29 h29 => ?_
      simp
      refine ent_K (es := ((tE 0 E).filter fun p => !decide (p.1 ∈ seen) || !badK t b r p.2).map encE) (e := encE p) rfl rfl ?_ ?_
      · refine find_born ?_ hp
        exact (tE_born (a := E) (k := 0)).sublist ((List.filter_sublist).map _)
      obtain ⟨q, ⟨⟨x, y⟩, v⟩⟩ := p
      simp [encE, spotV]
      refine h29 _ _ _ ?_
      clear h29 K29
      have hpE := (tE_lt (List.mem_filter.1 hp).1).2.2
      have hqs : q ∉ seen := hns
      simp only at hpE
      obtain ⟨i, hi, hrow⟩ := allK_mem (hE ▸ hpE)
      obtain ⟨j, hj, hen⟩ := rowK_mem hrow
      obtain ⟨hent, hto, -⟩ := ent1_mem hen
      simp only [Prod.mk.injEq] at hent
      obtain ⟨⟨rfl, hy⟩, hv'⟩ := hent
      have hy0 : 0 ≤ y := by omega
      have hyl : y < t.length := by omega
      have g1 : t[y.toNat]? = some (t.getD y.toNat 0) := by rw [List.getD_eq_getElem?_getD, List.getElem?_eq_getElem (by omega)]; rfl
      have hbad : badK t b r (((i : Int), y), v) = (decide (v = 0) || decide (t.getD y.toNat 0 < r.thin) || hasBad b i y) := rfl
      generalize t.getD y.toNat 0 = x at *
      have k1 : t[y.toNat]'(by omega) = x := by rw [List.getElem?_eq_getElem (by omega)] at g1; exact Option.some.inj g1
      refine ab_seq_k fun K30 h30 => ?_
      have fin : ∀ {c : Bool}, c = badK t b r (((i : Int), y), v) → K30 (some 0) [(2, .p 0 0 0), (3, .p 1 0 0), (5, .p 3 0 0), (10, .p 5 0 0), (75, .p 4 0 0), (98, .b c)]
          (heapE t b ft fb r (.map (((tE 0 E).filter fun p => !decide (p.1 ∈ seen) || !badK t b r p.2).map encE) E.length) [.it 2 E.length (seen ++ [q]) E.length, .row 0 [.i .i64 i, .i .i64 y]]) := by
        rintro c rfl
        refine h30 _ _ _ ?_
        have hpt : (q, ((i : Int), y), v) ∈ tE 0 E := (List.mem_filter.1 hp).1
        have hkey : ((tE 0 E).map (·.2.1)).Nodup := by
          have h1 : (tE 0 E).map (·.2.1) = E.map (·.1) := by
            have := congrArg (List.map (·.1)) (tE_snd (a := E) (k := 0))
            rw [List.map_map] at this
            exact this
          rw [h1, ← hE]; exact allK_nodup
        have hm' : ((tE 0 E).filter fun p => decide (p.1 ∉ seen ++ [q])).length < m := by
          rw [← hm]
          have e : ((tE 0 E).filter fun p => decide (p.1 ∉ seen ++ [q])) = ((tE 0 E).filter fun p => decide (p.1 ∉ seen)).filter fun p => !decide (p.1 = q) := by
            rw [List.filter_filter]
            refine List.filter_congr (fun p _ => ?_)
            rw [Bool.eq_iff_iff]
            simp
            exact And.comm
          rw [e, List.length_filter_lt_length_iff_exists]
          exact ⟨_, List.mem_filter.2 ⟨hpt, by simpa using hqs⟩, by simp⟩
        have done : ∀ {env : Env} {es : TE} {g : O}, get env 2 = .p 0 0 0 → get env 3 = .p 1 0 0 → get env 5 = .p 3 0 0 → get env 75 = .p 4 0 0 → es = ((tE 0 E).filter fun p => !decide (p.1 ∈ seen ++ [q]) || !badK t b r p.2) →
            K28 (some 0) env (heapE t b ft fb r (.map (es.map encE) E.length) [.it 2 E.length (seen ++ [q]) E.length, g]) := by
          rintro env es g e1 e2 e3 e4 rfl
          refine h28 _ _ _ (h25 _ _ _ (againF _ 2 5 hm' (by omega) (by simp [heapE]) ⟨seen ++ [q], rfl, ?_, ?_⟩))
          · simp only [keepO_some, keep_cons, keep_nil, get_frz_p e1 (show 0 < 5 by omega), get_frz_p e2 (show 1 < 5 by omega), get_frz_p e3 (show 3 < 5 by omega), get_frz_p e4 (show 4 < 5 by omega)]
          · rw [frzS_heapE]
            simp
        refine ab_cond_of rfl (fun hc => ?_) (fun hc => ?_)
        · simp [heapE]
          refine mdel_E (l := (tE 0 E).filter fun p => !decide (p.1 ∈ seen) || !badK t b r p.2) rfl (hkey.sublist ((List.filter_sublist).map _)) (List.mem_map.2 ⟨_, hp, rfl⟩) ?_
          simp
          refine done rfl rfl rfl rfl ?_
          refine List.filter_congr (fun p hp' => ?_)
          have huniq : p.2.1 = ((i : Int), y) ↔ p.1 = q := by
            constructor
            · intro h; rw [nodup_inj hkey hp' hpt h]
            · intro h; rw [nodup_inj (tE_born (a := E) (k := 0)) hp' hpt h]
          rw [Bool.eq_iff_iff]
          simp [huniq]
          by_cases hpq : p.1 = q
          · have : p = (q, ((i : Int), y), v) := nodup_inj (tE_born (a := E) (k := 0)) hp' hpt hpq
            subst this
            simp [hc]
          · simp [hpq]
        · simp
          refine done rfl rfl rfl rfl ?_
          refine List.filter_congr (fun p hp' => ?_)
          rw [Bool.eq_iff_iff]
          simp
          by_cases hpq : p.1 = q
          · have : p = (q, ((i : Int), y), v) := nodup_inj (tE_born (a := E) (k := 0)) hp' hpt hpq
            subst this
            simp [hc]
          · simp [hpq]
      clear h30
      simp
      by_cases c1 : v = 0
      · simp [c1]
        exact fin (by rw [hbad]; simp [c1])
      · simp [c1, hyl, hy0, g1, k1, Ru.cells]
        by_cases c2 : x < r.thin
        · simp [c2]
          exact fin (by simp [hbad, c2])
        · simp [c2]
          refine callK_of (FSpec.frozen 3 (v := .b (hasBad b i y)) ?_ rfl) ?_
          · simp
            exact bad_ok rfl hb
          · simp
            exact fin (by simp [hbad, c1, c2])
end Go.Ab
end

section
/- The right logs that begin at a place, as they are yielded; the contract of logs. -/
set_option linter.unusedVariables false
set_option linter.unusedSimpArgs false
set_option maxHeartbeats 4000000
namespace Go.Ab
open Go Go.Proofs

/-- The semantic reading of 'this function yields just these'. -/
def ItS (P : Program) (f : FuncId) (first cap : List V) (N : Nat) (X : Nat → List V → List O → List O → Prop) (Pre : List O → Prop) : Prop :=
  (∃ fn, P.funcs[f]? = some fn ∧ fn.name ≠ "runtime.NumGoroutine" ∧ fn.body.isSome = true) ∧
    ∀ (Inv : Md → Cx → List Deferred → Prop) (Y : Yield) (J Dn : Nat → List O → Prop) (C : Cx) (σ : List O) (l : Nat) (cargs : List Value), InvOK σ.length Inv → YOK P Fence.wide Inv Y → R C σ → Inv none C [] → J 0 σ → (∀ i σ, J i σ → Pre σ) →
      VRl C (first ++ [V.f (.yield l) [] []] ++ cap) cargs →
      (∀ i x σ' g' (Kont : Md → V → List O → Prop), i < N → X i x σ' g' → J i σ' → (∀ σ'', J (i + 1) σ'' → Kont none (.b true) σ'') → (∀ j σ'', Dn j σ'' → Kont (some j) (.b false) σ'') → Y l x (σ' ++ g') Kont) →
      CallsIn Fence.wide 0 P f cargs.toArray C.w (fun e w' => ∃ C' cv md σ', C'.w = w' ∧ e = .returned cv ∧ R C' σ' ∧ Inv md C' [] ∧ (match md with | none => J N σ' | some j => Dn j σ'))
abbrev ItT : ItTy := ItS Try.prog
theorem itT_ok : ItOK Try.prog ItT := fun _ _ _ _ _ _ h => h

/-- Up to so many places behind: where they end, and what they scale. -/
def logsUp (kn : Kn) (fr : Nat) : Nat → List (Int × Int)
  | 0 => []
  | j + 1 => logsUp kn fr j ++ (if 0 < look kn (fr, (fr : Int) + 1 + j) then [((fr : Int) + 1 + j, look kn (fr, (fr : Int) + 1 + j))] else [])
def logV (fr : Nat) (p : Int × Int) : List V := [.agg [.i .i64 fr, .i .i64 p.1], .i .i64 p.2]

theorem logsUp_pre {kn : Kn} {fr : Nat} : ∀ {d j : Nat}, ∃ r, logsUp kn fr (j + d) = logsUp kn fr j ++ r
  | 0, j => ⟨[], by simp⟩
  | d + 1, j => by
    obtain ⟨r, hr⟩ := logsUp_pre (kn := kn) (fr := fr) (d := d) (j := j)
    rw [show j + (d + 1) = (j + d) + 1 by omega, logsUp, hr, List.append_assoc]
    exact ⟨_, rfl⟩

theorem logsUp_get {kn : Kn} {fr j n : Nat} (h : j < n) (hp : 0 < look kn (fr, (fr : Int) + 1 + j)) : ((logsUp kn fr n).map (logV fr))[(logsUp kn fr j).length]? = some (logV fr ((fr : Int) + 1 + j, look kn (fr, (fr : Int) + 1 + j))) := by
  obtain ⟨r, hr⟩ := logsUp_pre (kn := kn) (fr := fr) (d := n - (j + 1)) (j := j + 1)
  rw [show j + 1 + (n - (j + 1)) = n by omega] at hr
  rw [List.getElem?_map, hr, logsUp, if_pos hp, List.append_assoc, List.getElem?_append_right (Nat.le_refl _)]
  simp

theorem logsUp_get0 {kn : Kn} {fr j n : Nat} (h : j < n) (hp : 0 < look kn (fr, (fr : Int) + 1 + j)) : (logsUp kn fr n)[(logsUp kn fr j).length]? = some ((fr : Int) + 1 + j, look kn (fr, (fr : Int) + 1 + j)) := by
  obtain ⟨r, hr⟩ := logsUp_pre (kn := kn) (fr := fr) (d := n - (j + 1)) (j := j + 1)
  rw [show j + 1 + (n - (j + 1)) = n by omega] at hr
  rw [hr, logsUp, if_pos hp, List.append_assoc, List.getElem?_append_right (Nat.le_refl _)]
  simp
def inv84 (t : List Int) (ft : Bool) (b : List Int) (fb : Bool) (kn : Kn) (fr l n0 : Nat) (J : Nat → List O → Prop) (m : Nat) (env : Env) (σ : List O) : Prop :=
  ∃ j : Nat, j + m = t.length - 1 - fr ∧ env = [(0, .f (.yield l) [] []), (1, .sp [.i .i64 fr] 0), (2, .sp [yardV t ft b fb kn] 0), (4, .i .i64 ((fr : Int) + 1 + j))] ∧ J (logsUp kn fr j).length σ ∧ LtAll σ ∧ n0 ≤ σ.length

theorem logs_it {t : List Int} {ft : Bool} {b : List Int} {fb : Bool} {kn : Kn} {fr : Nat} (h1 : 1 ≤ t.length) (h61 : t.length ≤ 61) (hfr : fr < t.length) :
    ItT 84 [] [.sp [.i .i64 fr] 0, .sp [yardV t ft b fb kn] 0] ((logsUp kn fr (t.length - 1 - fr)).map (logV fr)).length (fun i x _ g => ((logsUp kn fr (t.length - 1 - fr)).map (logV fr))[i]? = some x ∧ g = []) (fun _ => true = true) := by
  refine fn84.iter mixed (fun J Dn σ l _ hJ hL => ?_)
  generalize hn0 : σ.length = n0
  rw [ic84]
  refine ab_seq_k fun K1 h1 => ?_
  simp [wrap64 (x := (fr : Int) + 1) (by omega) (by omega)]
  refine h1 _ _ _ ?_
  clear h1 K1
  refine ab_block_k fun K2 h2 => ?_
  refine ab_loop_k (inv84 t ft b fb kn fr l n0 J) (t.length - 1 - fr) ⟨0, by omega, by simp, hJ, hL, by omega⟩ ?_
  rintro m env σ ⟨j, hj, rfl, hJ, hL, hn⟩ K3 h3
  rw [ic84_0]
  refine ab_seq_k fun K4 h4 => ?_
  refine ab_seq_k fun K5 h5 => ?_
  simp
  refine callK_of (FSpec.frame (long_ok (cells := [sl t ft, sl b fb, knownV kn]) (off := 0) (t := ints t) (n := t.length) (full := ft) rfl (by omega)) (by simp) rfl) ?_
  simp
  refine h5 _ _ _ ?_
  refine ab_cond_of rfl (fun hc => ?_) (fun hc => ?_)
  · simp
    refine h4 _ _ _ ?_
    refine ab_seq_k fun K6 h6 => ?_
    refine ab_block_k fun K7 h7 => ?_
    refine ab_seq_k fun K8 h8 => ?_
    simp
    refine h8 _ _ _ ?_
    refine ab_seq_k fun K9 h9 => ?_
    simp
    refine callK_of (FSpec.frame (scale_ok (t := t) (ft := ft) (b := b) (fb := fb) (kn := kn) (x := fr) (y := (fr : Int) + 1 + j)) (by simp) rfl) ?_
    simp
    refine h9 _ _ _ ?_
    have hjn : j < t.length - 1 - fr := by simp at hc; omega
    refine ab_seq_k fun K10 h10 => ?_
    have go : ∀ {env σ i}, keep env [0, 1, 2, 4] = [(0, .f (.yield l) [] []), (1, .sp [.i .i64 fr] 0), (2, .sp [yardV t ft b fb kn] 0), (4, .i .i64 ((fr : Int) + 1 + j))] → get env 29 = .b false → i = (logsUp kn fr (j + 1)).length → (∃ σ0 g, σ = σ0 ++ g ∧ J i σ0 ∧ LtAll σ0 ∧ n0 ≤ σ0.length) → K10 none env σ := by
      rintro env σ i he hb rfl ⟨σ0, g, rfl, hJ, hL, hn⟩
      obtain ⟨k0, hk0⟩ := hL.cut
      simp at he
      obtain ⟨e1, e2, e3, e4⟩ := he
      refine h10 _ _ _ ?_
      refine ab_cond_of hb (fun hc => by cases hc) (fun _ => ?_)
      simp
      refine h7 _ _ _ ?_
      refine h6 _ _ _ ?_
      simp [e1, e2, e3, e4, wrap64 (x := (fr : Int) + 1 + j + 1) (by omega) (by omega)]
      refine h3 _ _ _ (againF (m - 1) (k0 + 1) σ0.length (by omega) hn (by simp) ⟨j + 1, by omega, ?_, by rw [hk0 _ (by omega)]; exact hJ, by rw [hk0 _ (by omega)]; exact hL, by rw [hk0 _ (by omega)]; exact hn⟩)
      simp
      omega
    obtain ⟨k0, hk0⟩ := hL.cut
    by_cases hp : 0 < look kn (fr, (fr : Int) + 1 + j)
    · simp [hp]
      have hget := logsUp_get0 hjn hp
      refine ⟨rfl, k0 + 2, σ.length, hn, by simp, rfl, (logsUp kn fr j).length, σ, [], by rw [hk0 _ (by omega), List.append_nil], (List.getElem?_eq_some_iff.1 hget).1, ⟨⟨_, _, hget, by simp [logV]⟩, rfl⟩, hJ, ?_, ?_⟩
      · intro σ'' hJ'' hL'' hn''
        simp
        exact go (by simp) (by simp) (by rw [logsUp, if_pos hp]; simp) ⟨σ'', [], by simp, hJ'', hL'', hn''⟩
      · intro d σ'' hD hL'' hn''
        simp
        refine h10 _ _ _ ?_
        refine ab_cond_of rfl (fun _ => ?_) (fun hc => by cases hc)
        simp
        obtain ⟨k1, hk1⟩ := hL''.cut
        exact ⟨k1, σ''.length, hn'', Nat.le_refl _, by have := hk1 k1 (Nat.le_refl _) []; rw [List.append_nil] at this; simp only; rw [this]; exact hD⟩
    · simp [hp]
      exact go (by simp) (by simp) (by rw [logsUp, if_neg hp]; simp) ⟨σ, _, rfl, hJ, hL, hn⟩
  · simp -- exit 0
    refine h2 _ _ _ ?_
    have hjn : j = t.length - 1 - fr := by simp at hc; omega
    subst hjn
    obtain ⟨k1, hk1⟩ := hL.cut
    exact ⟨k1, σ.length, hn, Nat.le_refl _, by have := hk1 k1 (Nat.le_refl _) []; rw [List.append_nil] at this; simp only; rw [this, List.length_map]; exact hJ⟩

theorem logs_ok {cells : List V} {off : Nat} {fr : Int} (hy : pureL cells = true) : FSpec Try.prog 67 [.sp cells off, .i .i64 fr] [] (.f (.func 84) [] [.sp [.i .i64 fr] 0, .sp [.sp cells off] 0]) [] := by
  refine fn67.spec0 mixed noIt_ok ?_
  rw [ic67]
  refine ab_seq_k fun K1 h1 => ?_
  simp
  refine h1 _ _ _ ?_
  refine ab_seq_k fun K2 h2 => ?_
  simp
  refine h2 _ _ _ ?_
  simp
  exact fin_of 3 (by simp [rs67, hy])

end Go.Ab
end

section
/- What is known of functions that a run by evaluation does not step through: newYard, logs; the table of all functions. -/
set_option linter.unusedVariables false
set_option linter.unusedSimpArgs false
set_option maxHeartbeats 4000000
namespace Go.Ab
open Go Go.Proofs

def tr : Tr := (.node (.node (.node (.node (.node (.node (.node .leaf 2 ⟨ic2, rs2, 0⟩ .leaf) 3 ⟨ic3, rs3, 0⟩ .leaf) 4 ⟨ic4, rs4, 0⟩ (.node (.node .leaf 5 ⟨ic5, rs5, 0⟩ .leaf) 6 ⟨ic6, rs6, 0⟩ .leaf)) 7 ⟨ic7, rs7, 0⟩ (.node (.node (.node .leaf 8 ⟨ic8, rs8, 0⟩ .leaf) 9 ⟨ic9, rs9, 0⟩ .leaf) 12 ⟨ic12, rs12, 0⟩ (.node .leaf 13 ⟨ic13, rs13, 0⟩ .leaf))) 14 ⟨ic14, rs14, 0⟩ (.node (.node (.node (.node .leaf 15 ⟨ic15, rs15, 0⟩ .leaf) 16 ⟨ic16, rs16, 0⟩ .leaf) 17 ⟨ic17, rs17, 0⟩ (.node (.node .leaf 18 ⟨ic18, rs18, 0⟩ .leaf) 19 ⟨ic19, rs19, 0⟩ .leaf)) 20 ⟨ic20, rs20, 0⟩ (.node (.node (.node .leaf 21 ⟨ic21, rs21, 0⟩ .leaf) 22 ⟨ic22, rs22, 0⟩ .leaf) 23 ⟨ic23, rs23, 0⟩ (.node .leaf 24 ⟨ic24, rs24, 0⟩ .leaf)))) 25 ⟨ic25, rs25, 0⟩ (.node (.node (.node (.node (.node .leaf 26 ⟨ic26, rs26, 0⟩ .leaf) 27 ⟨ic27, rs27, 0⟩ .leaf) 28 ⟨ic28, rs28, 0⟩ (.node (.node .leaf 29 ⟨ic29, rs29, 0⟩ .leaf) 30 ⟨ic30, rs30, 0⟩ .leaf)) 31 ⟨ic31, rs31, 0⟩ (.node (.node (.node .leaf 32 ⟨ic32, rs32, 0⟩ .leaf) 33 ⟨ic33, rs33, 0⟩ .leaf) 34 ⟨ic34, rs34, 0⟩ (.node .leaf 35 ⟨ic35, rs35, 0⟩ .leaf))) 36 ⟨ic36, rs36, 0⟩ (.node (.node (.node (.node .leaf 37 ⟨ic37, rs37, 0⟩ .leaf) 38 ⟨ic38, rs38, 0⟩ .leaf) 39 ⟨ic39, rs39, 0⟩ (.node .leaf 40 ⟨ic40, rs40, 0⟩ .leaf)) 41 ⟨ic41, rs41, 0⟩ (.node (.node (.node .leaf 42 ⟨ic42, rs42, 0⟩ .leaf) 43 ⟨ic43, rs43, 0⟩ .leaf) 44 ⟨ic44, rs44, 0⟩ (.node .leaf 45 ⟨ic45, rs45, 0⟩ .leaf))))) 46 ⟨ic46, rs46, 0⟩ (.node (.node (.node (.node (.node (.node .leaf 47 ⟨ic47, rs47, 0⟩ .leaf) 48 ⟨ic48, rs48, 0⟩ .leaf) 49 ⟨ic49, rs49, 0⟩ (.node (.node .leaf 50 ⟨ic50, rs50, 0⟩ .leaf) 51 ⟨ic51, rs51, 0⟩ .leaf)) 52 ⟨ic52, rs52, 0⟩ (.node (.node (.node .leaf 53 ⟨ic53, rs53, 0⟩ .leaf) 54 ⟨ic54, rs54, 0⟩ .leaf) 55 ⟨ic55, rs55, 0⟩ (.node .leaf 56 ⟨ic56, rs56, 0⟩ .leaf))) 57 ⟨ic57, rs57, 0⟩ (.node (.node (.node (.node .leaf 58 ⟨ic58, rs58, 0⟩ .leaf) 59 ⟨ic59, rs59, 0⟩ .leaf) 60 ⟨ic60, rs60, 0⟩ (.node (.node .leaf 61 ⟨ic61, rs61, 0⟩ .leaf) 62 ⟨ic62, rs62, 0⟩ .leaf)) 63 ⟨ic63, rs63, 0⟩ (.node (.node (.node .leaf 64 ⟨ic64, rs64, 0⟩ .leaf) 65 ⟨ic65, rs65, 0⟩ .leaf) 66 ⟨ic66, rs66, 0⟩ (.node .leaf 67 ⟨ic67, rs67, 0⟩ .leaf)))) 68 ⟨ic68, rs68, 0⟩ (.node (.node (.node (.node (.node .leaf 69 ⟨ic69, rs69, 0⟩ .leaf) 70 ⟨ic70, rs70, 0⟩ .leaf) 71 ⟨ic71, rs71, 0⟩ (.node (.node .leaf 72 ⟨ic72, rs72, 0⟩ .leaf) 73 ⟨ic73, rs73, 0⟩ .leaf)) 74 ⟨ic74, rs74, 0⟩ (.node (.node (.node .leaf 75 ⟨ic75, rs75, 0⟩ .leaf) 76 ⟨ic76, rs76, 0⟩ .leaf) 77 ⟨ic77, rs77, 0⟩ (.node .leaf 78 ⟨ic78, rs78, 0⟩ .leaf))) 79 ⟨ic79, rs79, 0⟩ (.node (.node (.node (.node .leaf 80 ⟨ic80, rs80, 0⟩ .leaf) 81 ⟨ic81, rs81, 0⟩ .leaf) 82 ⟨ic82, rs82, 0⟩ (.node .leaf 83 ⟨ic83, rs83, 0⟩ .leaf)) 84 ⟨ic84, rs84, 0⟩ (.node (.node (.node .leaf 85 ⟨ic85, rs85, 0⟩ .leaf) 86 ⟨ic86, rs86, 0⟩ .leaf) 87 ⟨ic87, rs87, 0⟩ (.node .leaf 88 ⟨ic88, rs88, 0⟩ .leaf))))))
theorem tr_ok : TOK Try.prog tr.get := Tr.ok ⟨⟨⟨⟨⟨⟨⟨trivial, ⟨_, _, fn2⟩, trivial⟩, ⟨_, _, fn3⟩, trivial⟩, ⟨_, _, fn4⟩, ⟨⟨trivial, ⟨_, _, fn5⟩, trivial⟩, ⟨_, _, fn6⟩, trivial⟩⟩, ⟨_, _, fn7⟩, ⟨⟨⟨trivial, ⟨_, _, fn8⟩, trivial⟩, ⟨_, _, fn9⟩, trivial⟩, ⟨_, _, fn12⟩, ⟨trivial, ⟨_, _, fn13⟩, trivial⟩⟩⟩, ⟨_, _, fn14⟩, ⟨⟨⟨⟨trivial, ⟨_, _, fn15⟩, trivial⟩, ⟨_, _, fn16⟩, trivial⟩, ⟨_, _, fn17⟩, ⟨⟨trivial, ⟨_, _, fn18⟩, trivial⟩, ⟨_, _, fn19⟩, trivial⟩⟩, ⟨_, _, fn20⟩, ⟨⟨⟨trivial, ⟨_, _, fn21⟩, trivial⟩, ⟨_, _, fn22⟩, trivial⟩, ⟨_, _, fn23⟩, ⟨trivial, ⟨_, _, fn24⟩, trivial⟩⟩⟩⟩, ⟨_, _, fn25⟩, ⟨⟨⟨⟨⟨trivial, ⟨_, _, fn26⟩, trivial⟩, ⟨_, _, fn27⟩, trivial⟩, ⟨_, _, fn28⟩, ⟨⟨trivial, ⟨_, _, fn29⟩, trivial⟩, ⟨_, _, fn30⟩, trivial⟩⟩, ⟨_, _, fn31⟩, ⟨⟨⟨trivial, ⟨_, _, fn32⟩, trivial⟩, ⟨_, _, fn33⟩, trivial⟩, ⟨_, _, fn34⟩, ⟨trivial, ⟨_, _, fn35⟩, trivial⟩⟩⟩, ⟨_, _, fn36⟩, ⟨⟨⟨⟨trivial, ⟨_, _, fn37⟩, trivial⟩, ⟨_, _, fn38⟩, trivial⟩, ⟨_, _, fn39⟩, ⟨trivial, ⟨_, _, fn40⟩, trivial⟩⟩, ⟨_, _, fn41⟩, ⟨⟨⟨trivial, ⟨_, _, fn42⟩, trivial⟩, ⟨_, _, fn43⟩, trivial⟩, ⟨_, _, fn44⟩, ⟨trivial, ⟨_, _, fn45⟩, trivial⟩⟩⟩⟩⟩, ⟨_, _, fn46⟩, ⟨⟨⟨⟨⟨⟨trivial, ⟨_, _, fn47⟩, trivial⟩, ⟨_, _, fn48⟩, trivial⟩, ⟨_, _, fn49⟩, ⟨⟨trivial, ⟨_, _, fn50⟩, trivial⟩, ⟨_, _, fn51⟩, trivial⟩⟩, ⟨_, _, fn52⟩, ⟨⟨⟨trivial, ⟨_, _, fn53⟩, trivial⟩, ⟨_, _, fn54⟩, trivial⟩, ⟨_, _, fn55⟩, ⟨trivial, ⟨_, _, fn56⟩, trivial⟩⟩⟩, ⟨_, _, fn57⟩, ⟨⟨⟨⟨trivial, ⟨_, _, fn58⟩, trivial⟩, ⟨_, _, fn59⟩, trivial⟩, ⟨_, _, fn60⟩, ⟨⟨trivial, ⟨_, _, fn61⟩, trivial⟩, ⟨_, _, fn62⟩, trivial⟩⟩, ⟨_, _, fn63⟩, ⟨⟨⟨trivial, ⟨_, _, fn64⟩, trivial⟩, ⟨_, _, fn65⟩, trivial⟩, ⟨_, _, fn66⟩, ⟨trivial, ⟨_, _, fn67⟩, trivial⟩⟩⟩⟩, ⟨_, _, fn68⟩, ⟨⟨⟨⟨⟨trivial, ⟨_, _, fn69⟩, trivial⟩, ⟨_, _, fn70⟩, trivial⟩, ⟨_, _, fn71⟩, ⟨⟨trivial, ⟨_, _, fn72⟩, trivial⟩, ⟨_, _, fn73⟩, trivial⟩⟩, ⟨_, _, fn74⟩, ⟨⟨⟨trivial, ⟨_, _, fn75⟩, trivial⟩, ⟨_, _, fn76⟩, trivial⟩, ⟨_, _, fn77⟩, ⟨trivial, ⟨_, _, fn78⟩, trivial⟩⟩⟩, ⟨_, _, fn79⟩, ⟨⟨⟨⟨trivial, ⟨_, _, fn80⟩, trivial⟩, ⟨_, _, fn81⟩, trivial⟩, ⟨_, _, fn82⟩, ⟨trivial, ⟨_, _, fn83⟩, trivial⟩⟩, ⟨_, _, fn84⟩, ⟨⟨⟨trivial, ⟨_, _, fn85⟩, trivial⟩, ⟨_, _, fn86⟩, trivial⟩, ⟨_, _, fn87⟩, ⟨trivial, ⟨_, _, fn88⟩, trivial⟩⟩⟩⟩⟩⟩

def fKn {α : Type} : Kn → (Kn → α) → α
  | [], c => c []
  | ((x, y), v) :: r, c => fI x fun x => fI y fun y => fI v fun v => fKn r fun r => c (((x, y), v) :: r)
theorem fKn_eq {α : Type} : ∀ {l : Kn} {c : Kn → α}, fKn l c = c l
  | [], c => rfl
  | ((x, y), v) :: r, c => by simp only [fKn, fI_eq]; rw [fKn_eq]

def ruB (r : Ru) : Bool := r.ok
def orcY : FuncId → List V → Option V := fun f args =>
  match Nat.beq f 77 with
  | true => match args with
    | [.agg [.ss t n ft, .ss b m fb], .agg [.i .i64 a1, .i .i64 a2, .i .i64 a3, .i .i64 a4, .i .i64 a5, .i .i64 a6, .i .i64 a7]] =>
      match intsV t, intsV b with
      | some tt, some bb => match n == tt.length && m == bb.length && Nat.ble 2 n && Nat.ble n 61 && Nat.ble m 1000 && tt.all (fit 0 60) && Ru.ok ⟨a1, a2, a3, a4, a5, a6, a7⟩ with
        | true => fKn (knownK tt bb ⟨a1, a2, a3, a4, a5, a6, a7⟩) fun kn => some (yardV tt ft bb fb kn)
        | false => none
      | _, _ => none
    | _ => none
  | false => none

theorem orcY_ok : OrcOK Try.prog orcY := by
  intro f args v h
  unfold orcY at h
  split at h
  · rename_i hf
    have := Nat.eq_of_beq_eq_true hf
    subst this
    split at h
    · rename_i t n ft b m fb a1 a2 a3 a4 a5 a6 a7
      split at h
      · rename_i tt bb h1 h2
        split at h
        · rename_i hc
          simp only [Bool.and_eq_true, beq_iff_eq, Nat.ble_eq] at hc
          obtain ⟨⟨⟨⟨⟨⟨c1, c2⟩, c3⟩, c4⟩, c5⟩, c6⟩, c7⟩ := hc
          rw [fKn_eq] at h
          cases h
          have e1 := intsV_ok h1
          have e2 := intsV_ok h2
          subst e1 e2 c1 c2
          refine newYard_ok (r := ⟨a1, a2, a3, a4, a5, a6, a7⟩) c3 c4 (fun x hx => ?_) (by omega) (Ru.bounds c7)
          have := List.all_eq_true.1 c6 x hx
          simp only [fit, Bool.and_eq_true, decide_eq_true_eq] at this
          exact this
        · cases h
      · cases h
    · cases h
  · cases h

def decKn : List (V × V) → Option Kn
  | [] => some []
  | (.agg [.i .i64 x, .i .i64 y], .i .i64 v) :: r => match decKn r with
    | some l => some (((x, y), v) :: l)
    | none => none
  | _ => none
theorem decKn_ok : ∀ {l : List (V × V)} {kn : Kn}, decKn l = some kn → l = kn.map entV
  | [], kn, h => by simp only [decKn, Option.some.injEq] at h; subst h; rfl
  | e :: r, kn, h => by
    unfold decKn at h
    split at h
    · cases h; simp_all
    · rename_i x y v r' he
      cases he
      split at h
      · rename_i l hl
        simp only [Option.some.injEq] at h
        subst h
        rw [decKn_ok hl]; rfl
      · cases h
    · cases h

def fPairs {α : Type} : List (Int × Int) → (List (Int × Int) → α) → α
  | [], c => c []
  | (x, y) :: r, c => fI x fun x => fI y fun y => fPairs r fun r => c ((x, y) :: r)
theorem fPairs_eq {α : Type} : ∀ {l : List (Int × Int)} {c : List (Int × Int) → α}, fPairs l c = c l
  | [], c => rfl
  | (x, y) :: r, c => by simp only [fPairs, fI_eq]; rw [fPairs_eq]

def oiY : Oi := fun f first cap _ =>
  match Nat.beq f 84 with
  | true => match first, cap with
    | [], [.sp [.i .i64 (.ofNat fr)] 0, .sp [.sp [.ss t n ft, .ss b m fb, .sm kn] 0] 0] =>
      match intsV t, intsV b, decKn kn with
      | some tt, some bb, some kk => match n == tt.length && m == bb.length && Nat.ble n 61 && Nat.blt fr n with
        | true => fPairs (logsUp kk fr (n - 1 - fr)) fun l => some (l.map (logV fr), fun _ => true)
        | false => none
      | _, _, _ => none
    | _, _ => none
  | false => none

theorem oiY_ok : ∀ f a b σ xs pre, oiY f a b σ = some (xs, pre) → ItT f a b xs.length (fun i x _ g => xs[i]? = some x ∧ g = []) (fun σ => pre σ = true) := by
  intro f a b σ xs pre h
  unfold oiY at h
  split at h
  · rename_i hf
    have := Nat.eq_of_beq_eq_true hf
    subst this
    split at h
    · rename_i fr t n ft b m fb kn
      split at h
      · rename_i tt bb kk h1 h2 h3
        split at h
        · rename_i hc
          simp only [Bool.and_eq_true, beq_iff_eq, Nat.ble_eq, Nat.blt_eq] at hc
          obtain ⟨⟨⟨c1, c2⟩, c3⟩, c4⟩ := hc
          rw [fPairs_eq] at h
          cases h
          have e1 := intsV_ok h1
          have e2 := intsV_ok h2
          have e3 := decKn_ok h3
          subst e1 e2 e3 c1 c2
          exact logs_it (by omega) c3 c4
        · cases h
      · cases h
    · cases h
  · cases h

def runY (f : FuncId) (args : List V) : Option (V × List O) := (callsX tr.get orcY oiY 1000 20).1 f args []
theorem runY_ok {f : FuncId} {args : List V} {v : V} (h : runY f args = some (v, [])) : FSpec Try.prog f args [] v [] := run_sound tr_ok orcY_ok mixed itT_ok oiY_ok h
end Go.Ab
end
