/- More room, less time; the least one. -/
import Derived.Test.YtkcfknlpdfgjnaaLM
set_option linter.unusedVariables false
set_option linter.unusedSimpArgs false
set_option maxHeartbeats 4000000
namespace Go.Ab
open Go Go.Proofs

theorem gd_l {l : List Int} {x : Int} {j : Nat} (h : j < l.length) : (l ++ [x]).getD j 0 = l.getD j 0 := by
  simp [List.getD_eq_getElem?_getD, List.getElem?_append_left h]
theorem gd_r {l : List Int} {x : Int} : (l ++ [x]).getD l.length 0 = x := by
  simp [List.getD_eq_getElem?_getD]
structure Srt (s : RS) : Prop where
  up : ∀ j k, j ≤ k → k < s.secs.length → s.secs.getD j 0 ≤ s.secs.getD k 0
  last : ∀ j, j < s.secs.length → s.secs.getD j 0 ≤ s.last
theorem Srt.step {T : Tw} {room : Int} {s : RS} {x : Int} (h : Srt s) (hb : 0 ≤ (raft T x).2) : Srt (stepR T room s x) := by
  have hs : (stepR T room s x).secs = s.secs ++ [max (s.free + (raft T x).1) s.last] := rfl
  have hl : (stepR T room s x).last = max (s.free + (raft T x).1) s.last + (raft T x).2 := rfl
  refine ⟨fun j k hjk hk => ?_, fun j hj => ?_⟩
  · rw [hs] at hk ⊢
    rw [List.length_append, List.length_singleton] at hk
    by_cases hkl : k < s.secs.length
    · rw [gd_l hkl, gd_l (by omega)]; exact h.up j k hjk hkl
    · have : k = s.secs.length := by omega
      subst this
      rw [gd_r]
      by_cases hjl : j < s.secs.length
      · rw [gd_l hjl]; have := h.last j hjl; omega
      · have : j = s.secs.length := by omega
        subst this
        rw [gd_r]; exact Int.le_refl _
  · rw [hs] at hj ⊢
    rw [List.length_append, List.length_singleton] at hj
    rw [hl]
    by_cases hjl : j < s.secs.length
    · rw [gd_l hjl]; have := h.last j hjl; omega
    · have : j = s.secs.length := by omega
      subst this
      rw [gd_r]; omega
/-- The second one is nowhere later. -/
structure LeR (s s' : RS) : Prop where
  len : s'.secs.length = s.secs.length
  len2 : s'.thrs.length = s.thrs.length
  secs : ∀ j, j < s.secs.length → s'.secs.getD j 0 ≤ s.secs.getD j 0
  thrs : ∀ j, j < s.thrs.length → s'.thrs.getD j 0 ≤ s.thrs.getD j 0
  free : s'.free ≤ s.free
  last : s'.last ≤ s.last
theorem LeR.step {T T' : Tw} {r r' : Int} {s s' : RS} {x x' : Int} (h : LeR s s') (hs : Srt s') (h1 : (raft T' x').1 ≤ (raft T x).1) (h2 : (raft T' x').2 ≤ (raft T x).2) (hb : 0 ≤ (raft T' x').2) (hr0 : 0 ≤ r) (hr : r ≤ r') : LeR (stepR T r s x) (stepR T' r' s' x') := by
  have hS := hs.step (T := T') (room := r') (x := x') hb
  have e1 : (stepR T r s x).secs = s.secs ++ [max (s.free + (raft T x).1) s.last] := rfl
  have e1' : (stepR T' r' s' x').secs = s'.secs ++ [max (s'.free + (raft T' x').1) s'.last] := rfl
  have e2 : (stepR T r s x).thrs = s.thrs ++ [max (s.free + (raft T x).1) s.last + (raft T x).2] := rfl
  have e2' : (stepR T' r' s' x').thrs = s'.thrs ++ [max (s'.free + (raft T' x').1) s'.last + (raft T' x').2] := rfl
  have e3 : (stepR T r s x).last = max (s.free + (raft T x).1) s.last + (raft T x).2 := rfl
  have e3' : (stepR T' r' s' x').last = max (s'.free + (raft T' x').1) s'.last + (raft T' x').2 := rfl
  have e4 : (stepR T r s x).free = if r ≤ (s.secs.length : Int) then max (s.free + (raft T x).1) ((stepR T r s x).secs.getD ((s.secs.length : Int) - r).toNat 0) else s.free + (raft T x).1 := rfl
  have e4' : (stepR T' r' s' x').free = if r' ≤ (s'.secs.length : Int) then max (s'.free + (raft T' x').1) ((stepR T' r' s' x').secs.getD ((s'.secs.length : Int) - r').toNat 0) else s'.free + (raft T' x').1 := rfl
  have hf := h.free
  have hl := h.last
  have hsecs : ∀ j, j < (stepR T r s x).secs.length → (stepR T' r' s' x').secs.getD j 0 ≤ (stepR T r s x).secs.getD j 0 := by
    intro j hj
    rw [e1, List.length_append, List.length_singleton] at hj
    rw [e1, e1']
    by_cases hjl : j < s.secs.length
    · rw [gd_l hjl, gd_l (by rw [h.len]; exact hjl)]; exact h.secs j hjl
    · have : j = s.secs.length := by omega
      subst this
      rw [gd_r, ← h.len, gd_r]
      omega
  refine ⟨by rw [e1, e1']; simp [h.len], by rw [e2, e2']; simp [h.len2], hsecs, fun j hj => ?_, ?_, by rw [e3, e3']; omega⟩
  · rw [e2, List.length_append, List.length_singleton] at hj
    rw [e2, e2']
    by_cases hjl : j < s.thrs.length
    · rw [gd_l hjl, gd_l (by rw [h.len2]; exact hjl)]; exact h.thrs j hjl
    · have : j = s.thrs.length := by omega
      subst this
      rw [gd_r, ← h.len2, gd_r]
      omega
  · rw [e4, e4', h.len]
    by_cases hc : r' ≤ (s.secs.length : Int)
    · rw [if_pos hc, if_pos (by omega)]
      have l1 : (stepR T r s x).secs.length = s.secs.length + 1 := by rw [e1]; simp
      have l2 : (stepR T' r' s' x').secs.length = s.secs.length + 1 := by rw [e1']; simp [h.len]
      have g1 := hS.up ((s.secs.length : Int) - r').toNat ((s.secs.length : Int) - r).toNat (by omega) (by omega)
      have g2 := hsecs ((s.secs.length : Int) - r).toNat (by omega)
      omega
    · rw [if_neg hc]
      split <;> omega
theorem fold_le {T T' : Tw} {r r' : Int} (hr0 : 0 ≤ r) (hr : r ≤ r') : ∀ {o o' : List Int} {s s' : RS}, o.length = o'.length → (∀ (j : Nat) (x x' : Int), o[j]? = some x → o'[j]? = some x' → (raft T' x').1 ≤ (raft T x).1 ∧ (raft T' x').2 ≤ (raft T x).2 ∧ 0 ≤ (raft T' x').2) → LeR s s' → Srt s' → LeR (o.foldl (stepR T r) s) (o'.foldl (stepR T' r') s') ∧ Srt (o'.foldl (stepR T' r') s')
  | [], [], s, s', _, _, h, hs => ⟨h, hs⟩
  | x :: o, x' :: o', s, s', hl, hx, h, hs => by
    obtain ⟨h1, h2, h3⟩ := hx 0 x x' rfl rfl
    have := fold_le hr0 hr (o := o) (o' := o') (by simpa using hl) (fun j y y' hy hy' => hx (j + 1) y y' hy hy') (h.step hs h1 h2 h3 hr0 hr) (hs.step h3)
    exact this
  | [], _ :: _, _, _, hl, _, _, _ => by simp at hl
  | _ :: _, [], _, _, hl, _, _, _ => by simp at hl
theorem run_le {T T' : Tw} {r r' : Int} {o o' : List Int} (hr0 : 0 ≤ r) (hr : r ≤ r') (hl : o.length = o'.length) (hx : ∀ (j : Nat) (x x' : Int), o[j]? = some x → o'[j]? = some x' → (raft T' x').1 ≤ (raft T x).1 ∧ (raft T' x').2 ≤ (raft T x).2 ∧ 0 ≤ (raft T' x').2) : LeR (runR T r o) (runR T' r' o') :=
  (fold_le hr0 hr hl hx ⟨rfl, rfl, by simp, by simp, Int.le_refl _, Int.le_refl _⟩ ⟨by simp, by simp⟩).1
/-- With more room no order has a greater time. -/
theorem time_room {T : Tw} {r r' : Int} {o : List Int} (hb : TB T) (hr0 : 0 ≤ r) (hr : r ≤ r') (hox : ∀ x ∈ o, 0 ≤ x ∧ x < (T.length : Int)) : timeR T r' o ≤ timeR T r o :=
  (run_le hr0 hr rfl fun j x x' h h' => by
    rw [h] at h'; cases h'
    obtain ⟨h1, h2⟩ := hox x (List.mem_of_getElem? h)
    have : raft T x ∈ T := by
      have hlt : x.toNat < T.length := by omega
      have e : raft T x = T[x.toNat] := by simp [raft, List.getD_eq_getElem?_getD, List.getElem?_eq_getElem hlt]
      rw [e]; exact List.getElem_mem hlt
    exact ⟨Int.le_refl _, Int.le_refl _, (hb _ this).2.1⟩).last
def bestT (T : Tw) (room : Int) : Int := timeR T room (bestO T room)
theorem bestT_le {T : Tw} {room : Int} {p : List Int} (h : p ∈ ordersL T.length) : bestT T room ≤ timeR T room p := (bestO_spec (T := T) (room := room)).2.2.1 p h
theorem bestT_room {T : Tw} {r r' : Int} (hb : TB T) (hr0 : 0 ≤ r) (hr : r ≤ r') : bestT T r' ≤ bestT T r := by
  have hm := (bestO_spec (T := T) (room := r)).2.1
  have h1 := bestT_le (room := r') hm
  have h2 := time_room hb hr0 hr (orders_mem hm).2.1
  unfold bestT at *
  omega

/-! ### The least one -/
def leastTo (l : List Int) : Nat → Nat
  | 0 => 0
  | i + 1 => if l.getD i 0 < l.getD (leastTo l i) 0 then i else leastTo l i
theorem leastTo_spec {l : List Int} : ∀ {i : Nat}, (∀ j, j < i → l.getD (leastTo l i) 0 ≤ l.getD j 0) ∧ (∀ j, j < leastTo l i → l.getD (leastTo l i) 0 < l.getD j 0) ∧ (leastTo l i < i ∨ leastTo l i = 0)
  | 0 => ⟨fun j hj => by omega, fun j hj => by simp [leastTo] at hj, .inr rfl⟩
  | i + 1 => by
    obtain ⟨h1, h2, h3⟩ := leastTo_spec (l := l) (i := i)
    by_cases h : l.getD i 0 < l.getD (leastTo l i) 0
    · have e : leastTo l (i + 1) = i := by rw [leastTo, if_pos h]
      rw [e]
      refine ⟨fun j hj => ?_, fun j hj => ?_, .inl (by omega)⟩
      · by_cases hji : j = i
        · subst hji; exact Int.le_refl _
        · have := h1 j (by omega); omega
      · have := h1 j hj; omega
    · have e : leastTo l (i + 1) = leastTo l i := by rw [leastTo, if_neg h]
      rw [e]
      refine ⟨fun j hj => ?_, h2, by omega⟩
      by_cases hji : j = i
      · subst hji; omega
      · exact h1 j (by omega)
theorem less71 {a b : Int} : FSpec Try.prog 71 [.i .i64 a, .i .i64 b] [] (.b (decide (a < b))) [] := by
  refine fn71.spec0 mixed noIt_ok ?_
  rw [ic71]
  refine ab_seq_k fun K1 h1 => ?_
  simp
  refine h1 _ _ _ ?_
  clear h1 K1
  refine ab_seq_k fun K2 h2 => ?_
  simp
  refine h2 _ _ _ ?_
  clear h2 K2
  simp
  exact fin_of 1 (by simp [rs71])
theorem least70 {l : List Int} {f : Bool} (hl : (l.length : Int) < 1000000000) : FSpec Try.prog 70 [sl l f, .f (.func 71) [] []] [] (.i .i64 (leastTo l l.length)) [] := by
  refine fn70.spec0 mixed noIt_ok ?_
  rw [ic70]
  refine ab_seq_k fun K1 h1 => ?_
  simp
  refine h1 _ _ _ ?_
  clear h1 K1
  refine ab_seq_k fun K2 h2 => ?_
  simp
  refine h2 _ _ _ ?_
  clear h2 K2
  refine ab_seq_k fun K2 h2 => ?_
  refine ab_seq_k fun K3 h3 => ?_
  simp
  refine h3 _ _ _ ?_
  clear h3 K3
  refine ab_block_k fun K4 h4 => ?_
  refine ab_loop_k (fun m env σ => ∃ i : Nat, i + m = l.length ∧ env = [(0, sl l f), (1, .f (.func 71) [] []), (5, .i .i64 (leastTo l i)), (8, sl l f), (9, .i .i64 l.length), (10, .i .i64 i)] ∧ σ = []) l.length ⟨0, by omega, by simp [leastTo], rfl⟩ ?_
  rintro m env σ ⟨i, hi, rfl, rfl⟩ K5 h5
  rw [ic70_0]
  refine ab_seq_k fun K6 h6 => ?_
  simp
  refine h6 _ _ _ ?_
  clear h6 K6
  refine ab_seq_k fun K7 h7 => ?_
  refine ab_cond_of rfl (fun hc => ?_) (fun hc => ?_)
  · have hil : i < l.length := by simpa using hc
    have hx : l[i]? = some (l.getD i 0) := by simp [List.getD_eq_getElem?_getD, List.getElem?_eq_getElem hil]
    obtain ⟨h01, h02, h03⟩ := leastTo_spec (l := l) (i := i)
    have hkl : leastTo l i < l.length := by omega
    have hy : l[leastTo l i]? = some (l.getD (leastTo l i) 0) := by simp [List.getD_eq_getElem?_getD, List.getElem?_eq_getElem hkl]
    have hstep : leastTo l (i + 1) = if l.getD i 0 < l.getD (leastTo l i) 0 then i else leastTo l i := rfl
    generalize l.getD i 0 = x at *
    generalize l.getD (leastTo l i) 0 = y at *
    generalize leastTo l i = k at *
    obtain ⟨hxl, hx'⟩ := List.getElem?_eq_some_iff.1 hx
    obtain ⟨hyl, hy'⟩ := List.getElem?_eq_some_iff.1 hy
    simp
    refine h7 _ _ _ ?_
    clear h7 K7
    refine ab_seq_k fun K8 h8 => ?_
    refine ab_block_k fun K9 h9 => ?_
    refine ab_seq_k fun K10 h10 => ?_
    simp [hx, hxl, hx']
    refine h10 _ _ _ ?_
    clear h10 K10
    refine ab_seq_k fun K11 h11 => ?_
    simp [hx, hxl, hx', hy, hyl, hy']
    refine callK_of less71 ?_
    simp
    refine h11 _ _ _ ?_
    clear h11 K11
    refine ab_cond_of rfl (fun hc2 => ?_) (fun hc2 => ?_)
    · have hlt : x < y := by simpa using hc2
      rw [if_pos hlt] at hstep
      simp
      refine h9 _ _ _ ?_
      refine h8 _ _ _ ?_
      simp [wrap64 (x := (i : Int) + 1) (by omega) (by omega)]
      exact h5 _ _ _ (again (m - 1) (by omega) ⟨i + 1, by omega, by simp [hstep], rfl⟩)
    · have hlt : ¬ x < y := by simpa using hc2
      rw [if_neg hlt] at hstep
      simp
      refine h9 _ _ _ ?_
      refine h8 _ _ _ ?_
      simp [wrap64 (x := (i : Int) + 1) (by omega) (by omega)]
      exact h5 _ _ _ (again (m - 1) (by omega) ⟨i + 1, by omega, by simp [hstep], rfl⟩)
  · have hil : i = l.length := by simp at hc; omega
    subst hil
    simp
    refine h4 _ _ _ ?_
    refine h2 _ _ _ ?_
    refine ab_seq_k fun K20 h20 => ?_
    simp
    refine h20 _ _ _ ?_
    clear h20 K20
    simp
    exact fin_of 1 (by simp [rs70])
end Go.Ab
