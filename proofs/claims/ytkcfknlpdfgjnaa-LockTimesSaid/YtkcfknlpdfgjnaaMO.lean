/- Tows turned round, with less time, of fewer rafts, as many times as long: plain. -/
import Derived.Test.YtkcfknlpdfgjnaaMN
import Derived.Test.YtkcfknlpdfgjnaaME
set_option linter.unusedVariables false
set_option linter.unusedSimpArgs false
set_option maxHeartbeats 4000000
namespace Go.Ab
open Go Go.Proofs

/-! ### Turned -/
def turnT (T : Tw) : Tw := T.map fun p => (p.2, p.1)
@[simp] theorem turnT_len {T : Tw} : (turnT T).length = T.length := by simp [turnT]
theorem raft_turn {T : Tw} {x : Int} : raft (turnT T) x = ((raft T x).2, (raft T x).1) := by
  unfold raft turnT
  rw [List.getD_eq_getElem?_getD, List.getD_eq_getElem?_getD, List.getElem?_map]
  cases T[x.toNat]? <;> rfl
theorem TB.turn {T : Tw} (hb : TB T) : TB (turnT T) := by
  intro p hp
  obtain ⟨q, hq, rfl⟩ := List.mem_map.1 hp
  have := hb q hq
  exact ⟨this.2, this.1⟩
theorem rev_getD {o : List Int} {k : Nat} (h : k < o.length) : o.reverse.getD k 0 = o.getD (o.length - 1 - k) 0 := by
  rw [List.getD_eq_getElem?_getD, List.getD_eq_getElem?_getD, List.getElem?_reverse h]
theorem time_turn_le {T : Tw} {R : Nat} {o : List Int} (hb : TB T) : timeR (turnT T) R o.reverse ≤ timeR T R o := by
  obtain ⟨L, E, hr, e⟩ := time_runs (T := T) (R := R) (o := o) hb
  obtain ⟨L', E', hr', e'⟩ := time_runs (T := turnT T) (R := R) (o := o.reverse) hb.turn
  rw [List.length_reverse] at hr' e'
  rw [e, e']
  refine hr.back hr' (fun k hk => ?_) (fun k hk => ?_)
  · simp only [oA, oB]; rw [rev_getD hk, raft_turn]
  · simp only [oA, oB]; rw [rev_getD hk, raft_turn]
theorem turn_turn {T : Tw} : turnT (turnT T) = T := by
  unfold turnT
  rw [List.map_map]
  conv => rhs; rw [← List.map_id T]
  rfl
theorem time_turn {T : Tw} {R : Nat} {o : List Int} (hb : TB T) : timeR (turnT T) R o.reverse = timeR T R o := by
  have h1 := time_turn_le (R := R) (o := o) hb
  have h2 := time_turn_le (R := R) (o := o.reverse) hb.turn
  rw [turn_turn, List.reverse_reverse] at h2
  omega
theorem isOrd_rev {n : Nat} {o : List Int} (h : isOrd n o = true) : isOrd n o.reverse = true := by
  obtain ⟨h1, h2, h3⟩ := isOrd_spec h
  exact decide_eq_true ⟨by simp [h1], fun x hx => h2 x (by simpa using hx), (List.reverse_perm o).nodup_iff.2 h3⟩
theorem ordersL_isOrd {n : Nat} {o : List Int} (h : o ∈ ordersL n) : isOrd n o = true := decide_eq_true (orders_mem h)
theorem bestT_isOrd {T : Tw} {r : Int} {o : List Int} (h : isOrd T.length o = true) : bestT T r ≤ timeR T r o := bestT_le (orders_all h)
theorem bestO_isOrd {T : Tw} {r : Int} : isOrd T.length (bestO T r) = true := ordersL_isOrd (bestO_spec (T := T) (room := r)).2.1
theorem best_turn {T : Tw} {R : Nat} (hb : TB T) : bestT (turnT T) R = bestT T R := by
  have h1 := bestT_isOrd (T := turnT T) (r := R) (o := (bestO T R).reverse) (by rw [turnT_len]; exact isOrd_rev bestO_isOrd)
  have h2 := bestT_isOrd (T := T) (r := R) (o := (bestO (turnT T) R).reverse) (by have := isOrd_rev (bestO_isOrd (T := turnT T) (r := R)); rwa [turnT_len] at this)
  rw [time_turn hb] at h1
  have h3 := time_turn (T := turnT T) (R := R) (o := bestO (turnT T) R) hb.turn
  rw [turn_turn] at h3
  rw [h3] at h2
  have d1 : bestT T R = timeR T R (bestO T R) := rfl
  have d2 : bestT (turnT T) R = timeR (turnT T) R (bestO (turnT T) R) := rfl
  omega
theorem bound_turn {T : Tw} {k s : Int} (hk : k = 1 ∨ k = 2) : boundF (turnT T) (3 - k) s = boundF T k s := by
  have st : ∀ acc p, bstep (3 - k) s acc ((p : Int × Int).2, p.1) = bstep k s acc p := by
    intro acc p
    rcases hk with rfl | rfl <;> rfl
  have : ∀ (T : Tw) (acc : Int × Bool), (turnT T).foldl (bstep (3 - k) s) acc = T.foldl (bstep k s) acc := by
    intro T
    induction T with
    | nil => intro acc; rfl
    | cons p T ih => intro acc; show (turnT T).foldl _ (bstep (3 - k) s acc (p.2, p.1)) = _; rw [st, ih]; rfl
  exact this T _

/-! ### Many times as long -/
def manyT (n : Int) (T : Tw) : Tw := T.map fun p => (n * p.1, n * p.2)
@[simp] theorem manyT_len {T : Tw} {n : Int} : (manyT n T).length = T.length := by simp [manyT]
theorem raft_many {T : Tw} {n x : Int} : raft (manyT n T) x = (n * (raft T x).1, n * (raft T x).2) := by
  unfold raft manyT
  rw [List.getD_eq_getElem?_getD, List.getD_eq_getElem?_getD, List.getElem?_map]
  cases T[x.toNat]? <;> simp
theorem mul_max' {n a b : Int} (hn : 0 ≤ n) : max (n * a) (n * b) = n * max a b := by
  rcases Int.le_total a b with h | h
  · rw [Int.max_eq_right h, Int.max_eq_right (Int.mul_le_mul_of_nonneg_left h hn)]
  · rw [Int.max_eq_left h, Int.max_eq_left (Int.mul_le_mul_of_nonneg_left h hn)]
theorem mul_min' {n a b : Int} (hn : 0 ≤ n) : min (n * a) (n * b) = n * min a b := by
  rcases Int.le_total a b with h | h
  · rw [Int.min_eq_left h, Int.min_eq_left (Int.mul_le_mul_of_nonneg_left h hn)]
  · rw [Int.min_eq_right h, Int.min_eq_right (Int.mul_le_mul_of_nonneg_left h hn)]
def manyS (n : Int) (s : RS) : RS := ⟨s.secs.map (n * ·), s.thrs.map (n * ·), n * s.free, n * s.last⟩
theorem getD_many {n : Int} {l : List Int} {i : Nat} : (l.map (n * ·)).getD i 0 = n * l.getD i 0 := by
  rw [List.getD_eq_getElem?_getD, List.getD_eq_getElem?_getD, List.getElem?_map]
  cases l[i]? <;> simp
theorem step_many {T : Tw} {r n x : Int} {s : RS} (hn : 0 ≤ n) : stepR (manyT n T) r (manyS n s) x = manyS n (stepR T r s x) := by
  have e1 : max (n * s.free + n * (raft T x).1) (n * s.last) = n * max (s.free + (raft T x).1) s.last := by rw [← Int.mul_add, mul_max' hn]
  unfold stepR manyS
  rw [raft_many]
  simp only [List.length_map, e1]
  congr 1
  · simp
  · simp [Int.mul_add]
  · split
    · have e2 : (s.secs.map (n * ·) ++ [n * max (s.free + (raft T x).1) s.last]) = (s.secs ++ [max (s.free + (raft T x).1) s.last]).map (n * ·) := by simp
      rw [e2, getD_many, ← Int.mul_add, mul_max' hn]
    · rw [Int.mul_add]
  · rw [Int.mul_add]
theorem time_many {T : Tw} {r n : Int} {o : List Int} (hn : 0 ≤ n) : timeR (manyT n T) r o = n * timeR T r o := by
  have : ∀ (o : List Int) (s : RS), o.foldl (stepR (manyT n T) r) (manyS n s) = manyS n (o.foldl (stepR T r) s) := by
    intro o
    induction o with
    | nil => intro s; rfl
    | cons x o ih => intro s; rw [List.foldl_cons, List.foldl_cons, step_many hn, ih]
  have h := this o ⟨[], [], 0, 0⟩
  have e0 : manyS n ⟨[], [], 0, 0⟩ = ⟨[], [], 0, 0⟩ := by simp [manyS]
  rw [e0] at h
  unfold timeR runR
  rw [h]
  rfl
theorem best_many {T : Tw} {r n : Int} (hn : 0 ≤ n) : bestT (manyT n T) r = n * bestT T r := by
  have h1 := bestT_isOrd (T := manyT n T) (r := r) (o := bestO T r) (by rw [manyT_len]; exact bestO_isOrd)
  have h2 := bestT_isOrd (T := T) (r := r) (o := bestO (manyT n T) r) (by have := bestO_isOrd (T := manyT n T) (r := r); rwa [manyT_len] at this)
  rw [time_many hn] at h1
  have h3 := time_many (T := T) (r := r) (n := n) (o := bestO (manyT n T) r) hn
  have d1 : bestT T r = timeR T r (bestO T r) := rfl
  have d2 : bestT (manyT n T) r = timeR (manyT n T) r (bestO (manyT n T) r) := rfl
  rw [← d1] at h1
  rw [← d2] at h3
  have h4 := Int.mul_le_mul_of_nonneg_left h2 hn
  omega
theorem enough_many {T : Tw} {n : Int} (hn : 0 < n) : enoughN (manyT n T) = enoughN T := by
  obtain ⟨a1, a2, a3⟩ := enough_spec (T := T)
  obtain ⟨b1, b2, b3⟩ := enough_spec (T := manyT n T)
  have hb : ∀ r, bestT (manyT n T) r = n * bestT T r := fun r => best_many (by omega)
  simp only [hb] at b1 b2
  rcases Nat.lt_trichotomy (enoughN (manyT n T)) (enoughN T) with h | h | h
  · have h1 := a2 _ h
    have h2 := b1 _ a3
    have := Int.mul_lt_mul_of_pos_left h1 hn
    omega
  · exact h
  · have h1 := b2 _ h
    have h2 := a1 _ b3
    have := Int.mul_le_mul_of_nonneg_left h2 (show 0 ≤ n by omega)
    omega
theorem soon_many {T : Tw} {n : Int} (hn : 0 < n) : soon (manyT n T) = soon T := by
  have le : ∀ a b : Int, n * a ≤ n * b ↔ a ≤ b := fun a b => ⟨fun h => Int.le_of_mul_le_mul_left h hn, fun h => Int.mul_le_mul_of_nonneg_left h (by omega)⟩
  have lt : ∀ a b : Int, n * a < n * b ↔ a < b := fun a b => by have := le b a; omega
  have eq : ∀ a b : Int, n * a = n * b ↔ a = b := fun a b => by have := le b a; have := le a b; omega
  funext a b
  unfold soon upP
  simp only [raft_many, le, lt, ne_eq, eq]
theorem rule_many {T : Tw} {n : Int} (hn : 0 < n) : ruleO (manyT n T) = ruleO T := by
  unfold ruleO
  rw [soon_many hn, manyT_len]
theorem bound_many {T : Tw} {n k s : Int} (hn : 0 < n) : boundF (manyT n T) k (n * s) = (n * (boundF T k s).1, (boundF T k s).2) := by
  have le : ∀ a b : Int, n * a ≤ n * b ↔ a ≤ b := fun a b => ⟨fun h => Int.le_of_mul_le_mul_left h hn, fun h => Int.mul_le_mul_of_nonneg_left h (by omega)⟩
  have st : ∀ (acc : Int × Bool) (p : Int × Int), bstep k (n * s) (n * acc.1, acc.2) (n * p.1, n * p.2) = (n * (bstep k s acc p).1, (bstep k s acc p).2) := by
    intro acc p
    have a : sA k (n * p.1, n * p.2) = n * sA k p := by unfold sA; split <;> rfl
    have b : sB k (n * p.1, n * p.2) = n * sB k p := by unfold sB; split <;> rfl
    unfold bstep
    simp only [a, b, le]
    split
    · simp [Int.mul_add]
    · simp [Int.mul_add, mul_min' (show 0 ≤ n by omega)]
  have : ∀ (T : Tw) (acc : Int × Bool), (manyT n T).foldl (bstep k (n * s)) (n * acc.1, acc.2) = (n * (T.foldl (bstep k s) acc).1, (T.foldl (bstep k s) acc).2) := by
    intro T
    induction T with
    | nil => intro acc; rfl
    | cons p T ih => intro acc; show (manyT n T).foldl _ (bstep k (n * s) (n * acc.1, acc.2) (n * p.1, n * p.2)) = _; rw [st, ih]; rfl
  exact this T (s, false)

/-! ### Less -/
theorem time_less {T T' : Tw} {r : Int} {o : List Int} (hb : TB T') (hr : 0 ≤ r) (h : ∀ x, (raft T' x).1 ≤ (raft T x).1 ∧ (raft T' x).2 ≤ (raft T x).2) : timeR T' r o ≤ timeR T r o := by
  refine (run_le (T := T) (T' := T') (r := r) (r' := r) (o := o) (o' := o) hr (Int.le_refl _) rfl (fun j x x' h1 h2 => ?_)).last
  rw [h1] at h2
  cases h2
  exact ⟨(h x).1, (h x).2, (raft_tb hb x).2.1⟩
theorem best_less {T T' : Tw} {r : Int} (hb : TB T') (hr : 0 ≤ r) (hl : T'.length = T.length) (h : ∀ x, (raft T' x).1 ≤ (raft T x).1 ∧ (raft T' x).2 ≤ (raft T x).2) : bestT T' r ≤ bestT T r := by
  have h1 := bestT_isOrd (T := T') (r := r) (o := bestO T r) (by rw [hl]; exact bestO_isOrd)
  have h2 := time_less (o := bestO T r) hb hr h
  have d1 : bestT T r = timeR T r (bestO T r) := rfl
  omega
/-- The number of a raft when one is left out. -/
def outX (i x : Int) : Int := if x < i then x else x - 1
def outO (i : Int) (o : List Int) : List Int := o.flatMap fun x => if x < i then [x] else if i < x then [x - 1] else []
def outT (i : Nat) (T : Tw) : Tw := T.take i ++ T.drop (i + 1)
theorem outO_nil {i : Int} : outO i [] = [] := rfl
theorem outO_snoc {i x : Int} {o : List Int} : outO i (o ++ [x]) = outO i o ++ (if x < i then [x] else if i < x then [x - 1] else []) := by simp [outO]
theorem outO_map {i : Int} : ∀ {o : List Int}, i ∉ o → outO i o = o.map (outX i)
  | [], _ => rfl
  | x :: o, h => by
    have hx : x ≠ i := fun e => h (by simp [e])
    have ih := outO_map (i := i) (o := o) (fun e => h (List.mem_cons_of_mem _ e))
    have : outO i (x :: o) = (if x < i then [x] else if i < x then [x - 1] else []) ++ outO i o := rfl
    rw [this, ih, List.map_cons]
    unfold outX
    by_cases h1 : x < i
    · rw [if_pos h1, if_pos h1]; rfl
    · rw [if_neg h1, if_pos (by omega), if_neg h1]; rfl
theorem outO_app {i : Int} {a b : List Int} : outO i (a ++ b) = outO i a ++ outO i b := by simp [outO]
theorem outT_len {i : Nat} {T : Tw} (h : i < T.length) : (outT i T).length = T.length - 1 := by simp [outT]; omega
theorem raft_out {i : Nat} {T : Tw} {x : Int} (h : i < T.length) (h0 : 0 ≤ x) (hx : x ≠ i) : raft (outT i T) (outX i x) = raft T x := by
  unfold raft outT outX
  rw [List.getD_eq_getElem?_getD, List.getD_eq_getElem?_getD]
  by_cases h1 : x < (i : Int)
  · rw [if_pos h1, List.getElem?_append_left (by rw [List.length_take]; omega), List.getElem?_take, if_pos (by omega)]
  · rw [if_neg h1, List.getElem?_append_right (by rw [List.length_take]; omega), List.length_take, List.getElem?_drop]
    congr 2
    omega
theorem TB.out {i : Nat} {T : Tw} (hb : TB T) : TB (outT i T) := by
  intro p hp
  rcases List.mem_append.1 hp with h | h
  · exact hb p (List.mem_of_mem_take h)
  · exact hb p (List.mem_of_mem_drop h)
theorem nodup_le : ∀ {n : Nat} {l : List Int}, l.Nodup → (∀ x ∈ l, 0 ≤ x ∧ x < (n : Int)) → l.length ≤ n
  | 0, [], _, _ => Nat.le_refl _
  | 0, x :: l, _, h => by have := h x (List.mem_cons_self ..); omega
  | n + 1, l, hn, h => by
    have ih := nodup_le (n := n) (l := l.erase (n : Int)) (hn.erase _) (fun x hx => by
      obtain ⟨h1, h2⟩ := hn.mem_erase_iff.1 hx
      have := h x h2
      omega)
    by_cases hm : (n : Int) ∈ l
    · rw [List.length_erase_of_mem hm] at ih; omega
    · rw [List.erase_of_not_mem hm] at ih; omega
theorem isOrd_has {n : Nat} {o : List Int} {i : Nat} (h : isOrd n o = true) (hi : i < n) : (i : Int) ∈ o := by
  obtain ⟨h1, h2, h3⟩ := isOrd_spec h
  false_or_by_contra
  rename_i hn
  have hnd : ((i : Int) :: o).Nodup := List.nodup_cons.2 ⟨hn, h3⟩
  have := nodup_le (n := n) hnd (fun x hx => by
    rcases List.mem_cons.1 hx with rfl | hx
    · omega
    · exact h2 x hx)
  simp at this
  omega
theorem upTo_nodup {n : Nat} : (upTo n).Nodup := List.Pairwise.map _ (fun a b hab h => hab (by omega)) (List.nodup_range (n := n))
theorem isOrd_perm {n : Nat} {o : List Int} (h : isOrd n o = true) : o.Perm (upTo n) := by
  obtain ⟨h1, h2, h3⟩ := isOrd_spec h
  refine (List.perm_ext_iff_of_nodup h3 upTo_nodup).2 fun x => ⟨fun hx => upTo_mem.2 (h2 x hx), fun hx => ?_⟩
  obtain ⟨x0, x1⟩ := upTo_mem.1 hx
  have := isOrd_has (i := x.toNat) h (by omega)
  rwa [show ((x.toNat : Nat) : Int) = x by omega] at this
theorem order_out {n : Nat} {o : List Int} {i : Nat} (h : isOrd n o = true) (hi : i < n) : ∃ a b, o = a ++ (i : Int) :: b ∧ outO i o = (a ++ b).map (outX i) ∧ (i : Int) ∉ a ++ b ∧ isOrd (n - 1) (outO i o) = true := by
  obtain ⟨h1, h2, h3⟩ := isOrd_spec h
  obtain ⟨a, b, rfl⟩ := List.append_of_mem (isOrd_has h hi)
  have hnd := h3
  rw [List.nodup_append, List.nodup_cons] at hnd
  obtain ⟨n1, ⟨n2, n3⟩, n4⟩ := hnd
  have na : (i : Int) ∉ a := fun hm => n4 _ hm _ (List.mem_cons_self ..) rfl
  have nab : (i : Int) ∉ a ++ b := fun hm => (List.mem_append.1 hm).elim na n2
  have e : outO i (a ++ (i : Int) :: b) = (a ++ b).map (outX i) := by
    have : outO (i : Int) ((i : Int) :: b) = outO i b := by
      show (if (i : Int) < i then [(i : Int)] else if (i : Int) < i then [(i : Int) - 1] else []) ++ outO i b = outO i b
      simp
    rw [outO_app, this, ← outO_app, outO_map nab]
  refine ⟨a, b, rfl, e, nab, ?_⟩
  rw [e]
  have hnd2 : (a ++ b).Nodup := by
    rw [List.nodup_append]
    exact ⟨n1, n3, fun x hx y hy => n4 x hx y (List.mem_cons_of_mem _ hy)⟩
  refine decide_eq_true ⟨?_, ?_, ?_⟩
  · simp at h1 ⊢; omega
  · intro x hx
    obtain ⟨y, hy, rfl⟩ := List.mem_map.1 hx
    have hy2 := h2 y (by rcases List.mem_append.1 hy with h | h <;> simp [h])
    have hyi : y ≠ i := fun e => nab (e ▸ hy)
    unfold outX
    split <;> omega
  · have gen : ∀ l : List Int, l.Nodup → (i : Int) ∉ l → (l.map (outX i)).Nodup := by
      intro l
      induction l with
      | nil => intro _ _; simp
      | cons x l ih =>
        intro hl hi
        obtain ⟨l1, l2⟩ := List.nodup_cons.1 hl
        have hxi : x ≠ i := fun e => hi (by simp [e])
        have hil : (i : Int) ∉ l := fun e => hi (List.mem_cons_of_mem _ e)
        rw [List.map_cons, List.nodup_cons]
        refine ⟨fun hm => ?_, ih l2 hil⟩
        obtain ⟨y, hy, he⟩ := List.mem_map.1 hm
        have hyi : y ≠ i := fun e => hil (e ▸ hy)
        have : y = x := by
          unfold outX at he
          split at he <;> split at he <;> omega
        exact l1 (this ▸ hy)
    exact gen _ hnd2 nab
theorem time_out {T : Tw} {R : Nat} {o : List Int} {i : Nat} (hb : TB T) (hi : i < T.length) (h : isOrd T.length o = true) : timeR (outT i T) R (outO i o) ≤ timeR T R o := by
  obtain ⟨a, b, e1, e2, e3, e4⟩ := order_out h hi
  obtain ⟨h1, h2, h3⟩ := isOrd_spec h
  obtain ⟨L, E, hr, e⟩ := time_runs (T := T) (R := R) (o := o) hb
  obtain ⟨L', E', hr', e'⟩ := time_runs (T := outT i T) (R := R) (o := outO i o) hb.out
  have hl : o.length = (a ++ b).length + 1 := by rw [e1]; simp; omega
  have hl' : (outO i o).length = (a ++ b).length := by rw [e2]; simp
  rw [e, e', hl', hl]
  rw [hl] at hr
  rw [hl'] at hr'
  have hox : ∀ x ∈ a ++ b, 0 ≤ x := fun x hx => (h2 x (by rw [e1]; rcases List.mem_append.1 hx with h | h <;> simp [h])).1
  have hg : ∀ j, j < (a ++ b).length → raft (outT i T) ((outO i o).getD j 0) = raft T ((a ++ b).getD j 0) := by
    intro j hj
    have hj2 := o_some (o := a ++ b) hj
    have : (outO i o).getD j 0 = outX i ((a ++ b).getD j 0) := by
      rw [e2, List.getD_eq_getElem?_getD, List.getElem?_map, hj2]; rfl
    rw [this]
    have hm := List.mem_of_getElem? hj2
    exact raft_out hi (hox _ hm) (fun e => e3 (e ▸ hm))
  refine hr.out hr' (p := a.length) (by simp) (fun j hj => ?_) (fun j hj hj2 => ?_)
  · have g := hg j (by simp; omega)
    have : (a ++ b).getD j 0 = o.getD j 0 := by
      rw [e1, List.getD_eq_getElem?_getD, List.getD_eq_getElem?_getD, List.getElem?_append_left hj, List.getElem?_append_left hj]
    simp only [oA, oB]
    rw [g, this]
    exact ⟨rfl, rfl⟩
  · have g := hg j hj2
    have : (a ++ b).getD j 0 = o.getD (j + 1) 0 := by
      rw [e1, List.getD_eq_getElem?_getD, List.getD_eq_getElem?_getD, List.getElem?_append_right hj, List.getElem?_append_right (by omega), show j + 1 - a.length = (j - a.length) + 1 by omega, List.getElem?_cons_succ]
    simp only [oA, oB]
    rw [g, this]
    exact ⟨rfl, rfl⟩
theorem best_out {T : Tw} {R : Nat} {i : Nat} (hb : TB T) (hi : i < T.length) : bestT (outT i T) R ≤ bestT T R := by
  obtain ⟨a, b, e1, e2, e3, e4⟩ := order_out (bestO_isOrd (T := T) (r := R)) hi
  have h1 := bestT_isOrd (T := outT i T) (r := R) (o := outO i (bestO T R)) (by rw [outT_len hi]; exact e4)
  have h2 := time_out (R := R) hb hi (bestO_isOrd (T := T) (r := R))
  have d1 : bestT T R = timeR T R (bestO T R) := rfl
  omega
theorem check_ok {T : Tw} {room : Int} (hb : TB T) (h1 : 1 ≤ T.length) (h7 : T.length ≤ 7) (r0 : 0 ≤ room) (r7 : room ≤ 7) : checkTow T room = 0 := by
  have ha : T.any oddR = false := by
    rw [List.any_eq_false]
    intro p hp
    obtain ⟨⟨b1, b2⟩, b3, b4⟩ := hb p hp
    rw [odd_is]
    simp
    omega
  unfold checkTow fit
  rw [ha]
  simp
  omega
end Go.Ab
