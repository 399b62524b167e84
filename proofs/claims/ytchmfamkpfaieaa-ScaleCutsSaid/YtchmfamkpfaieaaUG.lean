/- CheckCut, of the program and of the reference. -/
import Derived.Test.YtchmfamkpfaieaaUF
set_option linter.unusedVariables false
set_option linter.unusedSimpArgs false
set_option maxHeartbeats 4000000
namespace Go.Ab
open Go Go.Proofs

/-- Logs, as they lie. -/
def lsV : List (Int × Int) → List V
  | [] => []
  | p :: r => .i .i64 p.1 :: .i .i64 p.2 :: lsV r
@[simp] theorem lsV_len : ∀ {l : List (Int × Int)}, (lsV l).length = l.length * 2
  | [] => rfl
  | p :: r => by simp [lsV, lsV_len (l := r)]; omega
theorem lsV_drop : ∀ {l : List (Int × Int)} {i : Nat}, (lsV l).drop (i * 2) = lsV (l.drop i)
  | [], i => by simp [lsV]
  | p :: r, 0 => by simp
  | p :: r, i + 1 => by
    rw [show (i + 1) * 2 = i * 2 + 1 + 1 by omega]
    simp only [lsV, List.drop_succ_cons]
    exact lsV_drop
theorem lsV_append {l m : List (Int × Int)} : lsV (l ++ m) = lsV l ++ lsV m := by
  induction l with
  | nil => rfl
  | cons p r ih => simp [lsV, ih]
theorem lsV_get {l : List (Int × Int)} {i : Nat} {p : Int × Int} (h : l[i]? = some p) : ((lsV l).drop (i * 2)).take 2 = [.i .i64 p.1, .i .i64 p.2] ∧ (lsV l)[i * 2]? = some (.i .i64 p.1) ∧ (lsV l)[i * 2 + 1]? = some (.i .i64 p.2) := by
  have hlt := (List.getElem?_eq_some_iff.1 h).1
  have hd : l.drop i = p :: l.drop (i + 1) := by
    rw [List.drop_eq_getElem_cons hlt]
    rw [List.getElem?_eq_getElem hlt] at h
    rw [Option.some.inj h]
  have e : (lsV l).drop (i * 2) = .i .i64 p.1 :: .i .i64 p.2 :: lsV (l.drop (i + 1)) := by rw [lsV_drop, hd]; rfl
  refine ⟨by rw [e]; rfl, ?_, ?_⟩
  · have := congrArg (·[0]?) e
    simpa [List.getElem?_drop] using this
  · have := congrArg (·[1]?) e
    simpa [List.getElem?_drop] using this
@[simp] theorem pure_lsV : ∀ {l : List (Int × Int)}, pureL (lsV l) = true
  | [] => rfl
  | p :: r => by simp [lsV, pure_lsV (l := r)]
abbrev slL (l : List (Int × Int)) (f : Bool) : V := .ss (lsV l) l.length f
@[simp] theorem pure_slL {l : List (Int × Int)} {f : Bool} : (slL l f).pure = true := by simp [slL]

theorem indexFuncL {l : List (Int × Int)} {full : Bool} {g : FuncId} {first cap : List V} {p : Int × Int → Bool} (hg : ∀ x, FSpec Try.prog g (first ++ [.agg [.i .i64 x.1, .i .i64 x.2]] ++ cap) [] (.b (p x)) []) (hl : (l.length : Int) < 1000000000) :
    FSpec Try.prog 81 [slL l full, .f (.func g) first cap] [] (.i .i64 (match l.findIdx? p with | some i => (i : Int) | none => -1)) [] := by
  refine fn81.spec0 mixed noIt_ok ?_
  rw [ic81]
  refine ab_seq_k fun K1 h1 => ?_
  simp
  refine h1 _ _ _ ?_
  clear h1 K1
  refine ab_seq_k fun K2 h2 => ?_
  refine ab_seq_k fun K3 h3 => ?_
  simp
  refine h3 _ _ _ ?_
  clear h3 K3
  refine ab_block_k fun K4 h4 => ?_
  refine ab_loop_k (fun m env σ => ∃ i : Nat, i + m = l.length ∧ (∀ (j : Nat) (x : Int × Int), j < i → l[j]? = some x → p x = false) ∧ env = [(0, slL l full), (1, .f (.func g) first cap), (7, .i .i64 l.length), (8, .i .i64 i)] ∧ σ = []) l.length ⟨0, by omega, by simp, by simp, rfl⟩ ?_
  rintro m env σ ⟨i, hi, hprev, rfl, rfl⟩ K5 h5
  rw [ic81_0]
  refine ab_seq_k fun K6 h6 => ?_
  simp
  refine h6 _ _ _ ?_
  clear h6 K6
  refine ab_seq_k fun K7 h7 => ?_
  refine ab_cond_of rfl (fun hc => ?_) (fun hc => ?_)
  · have hlt : i < l.length := by simp at hc; omega
    have hget : l[i]? = some l[i] := List.getElem?_eq_getElem hlt
    obtain ⟨e1, -, -⟩ := lsV_get hget
    have hmem := List.getElem_mem hlt
    generalize hx : l[i] = x at *
    have hle : i * 2 + 2 ≤ l.length * 2 := by omega
    simp
    refine h7 _ _ _ ?_
    refine ab_seq_k fun K8 h8 => ?_
    refine ab_block_k fun K9 h9 => ?_
    refine ab_seq_k fun K10 h10 => ?_
    simp
    refine h10 _ _ _ ?_
    refine ab_seq_k fun K11 h11 => ?_
    simp [hlt, hle, e1]
    refine callK_of (by simpa using hg x) ?_
    simp
    refine h11 _ _ _ ?_
    refine ab_cond_of rfl (fun hp => ?_) (fun hp => ?_)
    · refine ab_seq_k fun K12 h12 => ?_
      simp
      refine h12 _ _ _ ?_
      have : l.findIdx? p = some i := by
        rw [List.findIdx?_eq_some_iff_getElem]
        exact ⟨hlt, by rw [hx]; exact hp, fun j hj => by have := hprev j _ hj (List.getElem?_eq_getElem (by omega)); simpa using this⟩
      simp [this]
      exact fin_of 1 (by simp [rs81])
    · simp
      refine h9 _ _ _ ?_
      refine h8 _ _ _ ?_
      simp [wrap64 (x := (i : Int) + 1) (by omega) (by omega)]
      refine h5 _ _ _ (again (m - 1) (by omega) ⟨i + 1, by omega, fun j y hj hy => ?_, by simp, rfl⟩)
      by_cases hji : j = i
      · subst hji; rw [hget] at hy; cases hy; exact hp
      · exact hprev j y (by omega) hy
  · have hlt : ¬ i < l.length := by simp at hc; omega
    simp
    refine h4 _ _ _ ?_
    refine h2 _ _ _ ?_
    refine ab_seq_k fun K8 h8 => ?_
    simp
    refine h8 _ _ _ ?_
    have : l.findIdx? p = none := by
      rw [List.findIdx?_eq_none_iff]
      intro x hx
      obtain ⟨j, hj⟩ := List.mem_iff_getElem?.1 hx
      have := (List.getElem?_eq_some_iff.1 hj).1
      exact hprev j x (by omega) hj
    simp [this]
    exact fin_of 1 (by simp [rs81])

theorem containsFuncL {l : List (Int × Int)} {full : Bool} {g : FuncId} {first cap : List V} {p : Int × Int → Bool} (hg : ∀ x, FSpec Try.prog g (first ++ [.agg [.i .i64 x.1, .i .i64 x.2]] ++ cap) [] (.b (p x)) []) (hl : (l.length : Int) < 1000000000) :
    FSpec Try.prog 60 [slL l full, .f (.func g) first cap] [] (.b (l.any p)) [] := by
  refine fn60.spec0 mixed noIt_ok ?_
  rw [ic60]
  refine ab_seq_k fun K1 h1 => ?_
  simp
  refine h1 _ _ _ ?_
  refine ab_seq_k fun K2 h2 => ?_
  simp
  refine callK_of (indexFuncL hg hl) ?_
  simp
  refine h2 _ _ _ ?_
  simp
  refine fin_of 1 ?_
  simp [rs60]
  cases h : l.findIdx? p with
  | none =>
    rw [List.findIdx?_eq_none_iff] at h
    have : l.any p = false := by rw [List.any_eq_false]; intro x hx; simp [h x hx]
    simpa using this
  | some i =>
    rw [List.findIdx?_eq_some_iff_getElem] at h
    obtain ⟨h1, h2, -⟩ := h
    have : l.any p = true := by rw [List.any_eq_true]; exact ⟨_, List.getElem_mem h1, h2⟩
    simpa using this

theorem notLog_ok {t b : List Int} {ft fb : Bool} {kn : Kn} {x y : Int} (ht : (t.length : Int) < 1000000000) : FSpec Try.prog 61 [.agg [.i .i64 x, .i .i64 y], .sp [yardV t ft b fb kn] 0] [] (.b (!isLog t.length x y)) [] := by
  refine fn61.spec0 mixed noIt_ok ?_
  rw [ic61]
  refine ab_seq_k fun K1 h1 => ?_
  simp
  refine h1 _ _ _ ?_
  refine ab_seq_k fun K2 h2 => ?_
  simp
  refine callK_of (FSpec.frame (isLog_ok (t := t) (b := b) (ft := ft) (fb := fb) (kn := kn) (x := x) (y := y) ht) (by simp) rfl) ?_
  simp
  refine h2 _ _ _ ?_
  simp
  exact fin_of 1 (by simp [rs61])

/-! ### What a cutting scales -/
def ordered : Int → List (Int × Int) → Bool
  | _, [] => true
  | next, p :: r => decide (next ≤ p.1) && ordered p.2 r
def sumOf (t b : List Int) (r : Ru) : List (Int × Int) → Int
  | [] => 0
  | p :: l => scaleP t b r p.1 p.2 + sumOf t b r l
def cutP (t b : List Int) (r : Ru) (l : List (Int × Int)) : Int × Int :=
  if openE t b [r] ≠ 0 then (0, openE t b [r]) else if 60 < l.length then (0, 6) else if l.all (fun p => isLog t.length p.1 p.2) = false then (0, 2) else
  if ordered 0 l = false then (0, 16) else if l.any (fun p => decide (scaleP t b r p.1 p.2 = 0)) = true then (0, 18) else (sumOf t b r l, 0)

theorem sumOf_append {t b : List Int} {r : Ru} {l m : List (Int × Int)} : sumOf t b r (l ++ m) = sumOf t b r l + sumOf t b r m := by
  induction l with
  | nil => simp [sumOf]
  | cons p l ih => simp [sumOf, ih]; omega
theorem sumOf_le {t b : List Int} {r : Ru} (hr : RuB r) (hv : ∀ x ∈ t, 0 ≤ x ∧ x ≤ 60) : ∀ {l : List (Int × Int)}, (∀ p ∈ l, isLog t.length p.1 p.2 = true) → 0 ≤ sumOf t b r l ∧ sumOf t b r l ≤ l.length * 216000
  | [], _ => by simp [sumOf]
  | p :: l, h => by
    obtain ⟨h1, h2⟩ := sumOf_le (b := b) hr hv (l := l) (fun q hq => h q (List.mem_cons_of_mem _ hq))
    obtain ⟨a1, a2, a3⟩ := isLog_iff.1 (h p (List.mem_cons_self ..))
    have h3 := scN_bounds (t := t) (b := b) hr hv (i := p.1.toNat) (j := p.2.toNat)
    unfold scN at h3
    rw [show ((p.1.toNat : Nat) : Int) = p.1 by omega, show ((p.2.toNat : Nat) : Int) = p.2 by omega] at h3
    simp only [sumOf, List.length_cons]
    omega
theorem ordered_append {p : Int × Int} : ∀ {l : List (Int × Int)} {next : Int}, ordered next (l ++ [p]) = (ordered next l && decide ((match l.getLast? with | some q => q.2 | none => next) ≤ p.1))
  | [], next => by
    show (decide (next ≤ p.1) && true) = (true && decide (next ≤ p.1))
    rw [Bool.and_true, Bool.true_and]
  | q :: l, next => by
    simp only [List.cons_append, ordered, ordered_append (l := l) (next := q.2), Bool.and_assoc]
    cases l with
    | nil => rfl
    | cons q' l' =>
      rw [List.getLast?_cons_cons]
      have : ∃ x, (q' :: l').getLast? = some x := ⟨_, List.getLast?_eq_some_getLast (by simp)⟩
      obtain ⟨x, hx⟩ := this
      rw [hx]
end Go.Ab
