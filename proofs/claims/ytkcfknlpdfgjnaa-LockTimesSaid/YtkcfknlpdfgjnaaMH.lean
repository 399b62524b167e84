/- The law LockSteps. -/
import Derived.Test.YtkcfknlpdfgjnaaMG
set_option linter.unusedVariables false
set_option linter.unusedSimpArgs false
set_option maxHeartbeats 4000000
set_option maxRecDepth 100000
namespace Go.Ab
open Go Go.Proofs

/-- When the i-th raft leaves the first lock, with Room 0. -/
def hS (T : Tw) (o : List Int) : Nat → Int
  | 0 => 0
  | 1 => (raft T (o.getD 0 0)).1
  | i + 2 => hS T o (i + 1) + max (raft T (o.getD i 0)).2 (raft T (o.getD (i + 1) 0)).1
theorem run0 {T : Tw} {o : List Int} (hb : TB T) (hox : ∀ x ∈ o, 0 ≤ x ∧ x < (T.length : Int)) : ∀ {i : Nat}, i < o.length → (runR T 0 (o.take (i + 1))).free = hS T o (i + 1) ∧ (runR T 0 (o.take (i + 1))).last = hS T o (i + 1) + (raft T (o.getD i 0)).2 := by
  have hstep : ∀ (s : RS) (x : Int), (stepR T 0 s x).free = max (s.free + (raft T x).1) s.last ∧ (stepR T 0 s x).last = max (s.free + (raft T x).1) s.last + (raft T x).2 := by
    intro s x
    refine ⟨?_, rfl⟩
    show (if (0 : Int) ≤ (s.secs.length : Int) then max (s.free + (raft T x).1) ((s.secs ++ [max (s.free + (raft T x).1) s.last]).getD ((s.secs.length : Int) - 0).toNat 0) else s.free + (raft T x).1) = _
    rw [if_pos (by omega), show ((s.secs.length : Int) - 0).toNat = s.secs.length by omega, gd_r]
    omega
  intro i
  induction i with
  | zero =>
    intro h
    have hx : o[0]? = some (o.getD 0 0) := by simp [List.getD_eq_getElem?_getD, List.getElem?_eq_getElem h]
    obtain ⟨h0, h1⟩ := hox _ (List.mem_of_getElem? hx)
    obtain ⟨-, hm⟩ := raft_get h0 h1
    obtain ⟨⟨b1, b2⟩, b3, b4⟩ := hb _ hm
    rw [runR_take hx]
    obtain ⟨e1, e2⟩ := hstep (runR T 0 (o.take 0)) (o.getD 0 0)
    have f0 : (runR T 0 (o.take 0)).free = 0 := rfl
    have l0 : (runR T 0 (o.take 0)).last = 0 := rfl
    rw [e1, e2, f0, l0]
    have : hS T o (0 + 1) = (raft T (o.getD 0 0)).1 := rfl
    rw [this]
    constructor <;> omega
  | succ i ih =>
    intro h
    obtain ⟨i1, i2⟩ := ih (by omega)
    have hx : o[i + 1]? = some (o.getD (i + 1) 0) := by simp [List.getD_eq_getElem?_getD, List.getElem?_eq_getElem h]
    rw [runR_take hx]
    obtain ⟨e1, e2⟩ := hstep (runR T 0 (o.take (i + 1))) (o.getD (i + 1) 0)
    have e : hS T o (i + 1 + 1) = hS T o (i + 1) + max (raft T (o.getD i 0)).2 (raft T (o.getD (i + 1) 0)).1 := rfl
    rw [e1, e2, i1, i2, e]
    constructor <;> omega
/-- With room without end. -/
def f7 (T : Tw) (o : List Int) : Nat → Int × Int
  | 0 => (0, 0)
  | k + 1 => ((f7 T o k).1 + (raft T (o.getD k 0)).1, max (f7 T o k).2 ((f7 T o k).1 + (raft T (o.getD k 0)).1) + (raft T (o.getD k 0)).2)
theorem run7 {T : Tw} {o : List Int} (hol : o.length ≤ 7) : ∀ {k : Nat}, k ≤ o.length → (runR T 7 (o.take k)).free = (f7 T o k).1 ∧ (runR T 7 (o.take k)).last = (f7 T o k).2 ∧ ∀ j, j < k → (runR T 7 (o.take k)).thrs.getD j 0 = (f7 T o (j + 1)).2 := by
  intro k
  induction k with
  | zero => intro _; exact ⟨rfl, rfl, fun j h => by omega⟩
  | succ k ih =>
    intro h
    obtain ⟨i1, i2, i3⟩ := ih (by omega)
    have hx : o[k]? = some (o.getD k 0) := by simp [List.getD_eq_getElem?_getD, List.getElem?_eq_getElem (show k < o.length by omega)]
    obtain ⟨l1, l2⟩ := runR_len (T := T) (room := 7) (o := o.take k)
    rw [show (o.take k).length = k by rw [List.length_take]; omega] at l1 l2
    rw [runR_take hx]
    have e : f7 T o (k + 1) = ((f7 T o k).1 + (raft T (o.getD k 0)).1, max (f7 T o k).2 ((f7 T o k).1 + (raft T (o.getD k 0)).1) + (raft T (o.getD k 0)).2) := rfl
    have eth : (stepR T 7 (runR T 7 (o.take k)) (o.getD k 0)).thrs = (runR T 7 (o.take k)).thrs ++ [max ((runR T 7 (o.take k)).free + (raft T (o.getD k 0)).1) (runR T 7 (o.take k)).last + (raft T (o.getD k 0)).2] := rfl
    refine ⟨?_, ?_, fun j hj => ?_⟩
    · show (if (7 : Int) ≤ ((runR T 7 (o.take k)).secs.length : Int) then _ else (runR T 7 (o.take k)).free + (raft T (o.getD k 0)).1) = _
      rw [if_neg (by omega), i1, e]
    · show max ((runR T 7 (o.take k)).free + (raft T (o.getD k 0)).1) (runR T 7 (o.take k)).last + (raft T (o.getD k 0)).2 = _
      rw [i1, i2, e]
      simp only
      omega
    · rw [eth]
      by_cases hjk : j < k
      · rw [gd_l (by omega)]; exact i3 j hjk
      · have : j = k := by omega
        subst this
        have := gd_r (l := (runR T 7 (o.take j)).thrs) (x := max ((runR T 7 (o.take j)).free + (raft T (o.getD j 0)).1) (runR T 7 (o.take j)).last + (raft T (o.getD j 0)).2)
        rw [l2] at this
        rw [this, i1, i2, e]
        simp only
        omega
theorem putAll_get {n : Nat} {o th : List Int} (hnd : o.Nodup) (hox : ∀ x ∈ o, 0 ≤ x ∧ x < (n : Int)) : ∀ {i : Nat}, i ≤ o.length → ∀ k, k < i → (putAll n o th i).getD (o.getD k 0).toNat 0 = th.getD k 0 := by
  intro i
  induction i with
  | zero => intro _ k h; omega
  | succ i ih =>
    intro hi k hk
    have hoi : o.getD i 0 = o[i]'(by omega) := by simp [List.getD_eq_getElem?_getD, List.getElem?_eq_getElem (show i < o.length by omega)]
    have hok : o.getD k 0 = o[k]'(by omega) := by simp [List.getD_eq_getElem?_getD, List.getElem?_eq_getElem (show k < o.length by omega)]
    obtain ⟨a1, a2⟩ := hox _ (List.getElem_mem (show i < o.length by omega))
    obtain ⟨b1, b2⟩ := hox _ (List.getElem_mem (show k < o.length by omega))
    rw [putAll_succ, List.getD_eq_getElem?_getD]
    by_cases hki : k = i
    · subst hki
      rw [List.getElem?_set_self (by rw [putAll_len, hok]; omega)]
      rfl
    · have hne : (o.getD i 0).toNat ≠ (o.getD k 0).toNat := by
        rw [hoi, hok]
        intro e
        have e2 : o[i]'(by omega) = o[k]'(by omega) := by omega
        have := List.pairwise_iff_getElem.1 hnd k i (by omega) (by omega) (by omega)
        exact this e2.symm
      rw [List.getElem?_set_ne hne, ← List.getD_eq_getElem?_getD]
      exact ih (by omega) k (by omega)
end Go.Ab
