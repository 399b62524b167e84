/- The greatest bound: plain. -/
import Derived.Test.YtkcfknlpdfgjnaaLT
set_option linter.unusedVariables false
set_option linter.unusedSimpArgs false
set_option maxHeartbeats 4000000
namespace Go.Ab
open Go Go.Proofs

abbrev Sp := Int × Int
def bS (T : Tw) (s : Sp) : Int := (boundF T s.1 s.2).1
def okS (T : Tw) (s : Sp) : Bool := (boundF T s.1 s.2).2
def lexS (a b : Sp) : Bool := decide (a.1 < b.1 ∨ a.1 = b.1 ∧ a.2 < b.2)
def raftS (p : Int × Int) : List Sp := [(1, p.1), (2, p.2), (1, p.1 + 1), (2, p.2 + 1)]
def spotsL (T : Tw) : List Sp := [(1, 0), (2, 0)] ++ T.flatMap raftS
/-- The greatest of some first ones. -/
def topF (T : Tw) (L : List Sp) : Int := L.foldl (fun t s => if okS T s = true then max t (bS T s) else t) (-1)
def maxL (T : Tw) : List Sp := (spotsL T).filter fun s => okS T s && !decide (bS T s < topF T (spotsL T))
/-- The first least one. -/
def leastBy (lt : Sp → Sp → Bool) (l : List Sp) : Nat → Nat
  | 0 => 0
  | i + 1 => if lt (l.getD i (0, 0)) (l.getD (leastBy lt l i) (0, 0)) = true then i else leastBy lt l i
def proofS (T : Tw) : Sp := (maxL T).getD (leastBy lexS (maxL T) (maxL T).length) (0, 0)

/-! ### What a bound is -/
theorem ok_iff {T : Tw} {lock t : Int} : (boundF T lock t).2 = true ↔ ∃ p ∈ T, t ≤ sA lock p := by
  have : ∀ (T : Tw) (acc : Int × Bool), (T.foldl (bstep lock t) acc).2 = true ↔ acc.2 = true ∨ ∃ p ∈ T, t ≤ sA lock p := by
    intro T
    induction T with
    | nil => intro acc; simp
    | cons p T ih =>
      intro acc
      rw [List.foldl_cons, ih]
      unfold bstep
      split
      · rename_i h
        simp [h]
      · rename_i h
        simp [h]
  rw [boundF, this]
  simp
/-- If no raft's time is just this, one minute more adds one. -/
theorem bound_up {T : Tw} {lock t : Int} (h : ∀ p ∈ T, sA lock p ≠ t) : (boundF T lock (t + 1)).1 = (boundF T lock t).1 + 1 := by
  have : ∀ (T : Tw) (acc acc' : Int × Bool), (∀ p ∈ T, sA lock p ≠ t) → acc'.1 = acc.1 + 1 → (T.foldl (bstep lock (t + 1)) acc').1 = (T.foldl (bstep lock t) acc).1 + 1 := by
    intro T
    induction T with
    | nil => intro acc acc' _ h; exact h
    | cons p T ih =>
      intro acc acc' h he
      rw [List.foldl_cons, List.foldl_cons]
      refine ih _ _ (fun q hq => h q (List.mem_cons_of_mem _ hq)) ?_
      have hp := h p (List.mem_cons_self ..)
      unfold bstep
      by_cases h1 : t ≤ sA lock p
      · rw [if_pos h1, if_pos (by omega)]
        simp only; omega
      · rw [if_neg h1, if_neg (by omega)]
        simp only; omega
  exact this T _ _ h rfl
theorem b_ge {T : Tw} (hb : TB T) {s : Sp} : s.2 ≤ bS T s := (bfold_le (acc := (s.2, false)) hb).1

/-- Whatever is asked of the answer. -/
structure IsProof (T : Tw) (s : Sp) : Prop where
  lock : s.1 = 1 ∨ s.1 = 2
  t0 : 0 ≤ s.2
  t1 : s.2 ≤ 1000
  ok : okS T s = true
  top : ∀ s' : Sp, (s'.1 = 1 ∨ s'.1 = 2) → 0 ≤ s'.2 → okS T s' = true → bS T s' ≤ bS T s
  least : ∀ s' : Sp, (s'.1 = 1 ∨ s'.1 = 2) → 0 ≤ s'.2 → okS T s' = true → bS T s' = bS T s → ¬ lexS s' s = true
theorem IsProof.uniq {T : Tw} {s s' : Sp} (h : IsProof T s) (h' : IsProof T s') : s = s' := by
  have h1 := h.top s' h'.lock h'.t0 h'.ok
  have h2 := h'.top s h.lock h.t0 h.ok
  have h3 := h.least s' h'.lock h'.t0 h'.ok (by omega)
  have h4 := h'.least s h.lock h.t0 h.ok (by omega)
  simp only [lexS, decide_eq_true_eq] at h3 h4
  obtain ⟨a, b⟩ := s
  obtain ⟨c, d⟩ := s'
  simp only [Prod.mk.injEq] at *
  omega
/-- A greatest one is at some raft's time. -/
theorem top_at {T : Tw} {s : Sp} (hb : TB T) (h0 : 0 ≤ s.2) (hk : s.1 = 1 ∨ s.1 = 2) (hok : okS T s = true) : ∃ s' : Sp, s'.1 = s.1 ∧ s.2 ≤ s'.2 ∧ okS T s' = true ∧ bS T s ≤ bS T s' ∧ (bS T s = bS T s' → s' = s) ∧ ∃ p ∈ T, s'.2 = sA s.1 p := by
  obtain ⟨a, t⟩ := s
  simp only at h0 hk ⊢
  have : ∀ (m : Nat) (t : Int), (1000 - t).toNat ≤ m → okS T (a, t) = true → ∃ s' : Sp, s'.1 = a ∧ t ≤ s'.2 ∧ okS T s' = true ∧ bS T (a, t) ≤ bS T s' ∧ (bS T (a, t) = bS T s' → s' = (a, t)) ∧ ∃ p ∈ T, s'.2 = sA a p := by
    intro m
    induction m with
    | zero =>
      intro t hm hok
      obtain ⟨p, hp, hpt⟩ := ok_iff.1 hok
      have := (sA_b (lock := a) (hb p hp)).1.2
      exact ⟨(a, t), rfl, Int.le_refl _, hok, Int.le_refl _, fun _ => rfl, p, hp, by simp only at *; omega⟩
    | succ m ih =>
      intro t hm hok
      by_cases he : ∃ p ∈ T, sA a p = t
      · obtain ⟨p, hp, hpt⟩ := he
        exact ⟨(a, t), rfl, Int.le_refl _, hok, Int.le_refl _, fun _ => rfl, p, hp, hpt.symm⟩
      · have hne : ∀ p ∈ T, sA a p ≠ t := fun p hp hpt => he ⟨p, hp, hpt⟩
        obtain ⟨p, hp, hpt⟩ := ok_iff.1 hok
        have hpne := hne p hp
        have hpb := (sA_b (lock := a) (hb p hp)).1.2
        have hok2 : okS T (a, t + 1) = true := ok_iff.2 ⟨p, hp, by simp only at *; omega⟩
        have hup := bound_up hne
        simp only at hpt
        obtain ⟨s', e1, e2, e3, e4, e5, e6⟩ := ih (t + 1) (by omega) hok2
        have e7 : bS T (a, t + 1) = bS T (a, t) + 1 := hup
        exact ⟨s', e1, by omega, e3, by omega, fun h => by omega, e6⟩
  obtain ⟨s', e⟩ := this _ t (Nat.le_refl _) hok
  exact ⟨s', e⟩

theorem topF_spec {T : Tw} : ∀ {L : List Sp}, (∀ s ∈ L, okS T s = true → bS T s ≤ topF T L) ∧ -1 ≤ topF T L ∧ (topF T L = -1 ∨ ∃ s ∈ L, okS T s = true ∧ bS T s = topF T L) := by
  have : ∀ (L : List Sp) (c : Int), (∀ s ∈ L, okS T s = true → bS T s ≤ L.foldl (fun t s => if okS T s = true then max t (bS T s) else t) c) ∧ c ≤ L.foldl (fun t s => if okS T s = true then max t (bS T s) else t) c ∧
      (L.foldl (fun t s => if okS T s = true then max t (bS T s) else t) c = c ∨ ∃ s ∈ L, okS T s = true ∧ bS T s = L.foldl (fun t s => if okS T s = true then max t (bS T s) else t) c) := by
    intro L
    induction L with
    | nil => intro c; exact ⟨by simp, Int.le_refl _, .inl rfl⟩
    | cons x L ih =>
      intro c
      rw [List.foldl_cons]
      obtain ⟨h1, h2, h3⟩ := ih (if okS T x = true then max c (bS T x) else c)
      generalize hR : L.foldl (fun t s => if okS T s = true then max t (bS T s) else t) (if okS T x = true then max c (bS T x) else c) = R at *
      refine ⟨fun s hs hok => ?_, ?_, ?_⟩
      · rcases List.mem_cons.1 hs with rfl | hs
        · rw [if_pos hok] at h2; omega
        · exact h1 s hs hok
      · split at h2 <;> omega
      · rcases h3 with h3 | ⟨s, hs, h4, h5⟩
        · split at h3
          · rename_i hx
            by_cases hc : bS T x ≤ c
            · exact .inl (by omega)
            · exact .inr ⟨x, List.mem_cons_self .., hx, by omega⟩
          · exact .inl h3
        · exact .inr ⟨s, List.mem_cons_of_mem _ hs, h4, h5⟩
  intro L
  exact this L (-1)

theorem spots_mem {T : Tw} {s : Sp} (h : s ∈ spotsL T) (hb : TB T) : (s.1 = 1 ∨ s.1 = 2) ∧ 0 ≤ s.2 ∧ s.2 ≤ 1001 := by
  simp only [spotsL, List.mem_append, List.mem_flatMap, raftS, List.mem_cons, List.not_mem_nil, or_false] at h
  rcases h with (rfl | rfl) | ⟨p, hp, h⟩
  · simp
  · simp
  · obtain ⟨⟨b1, b2⟩, b3, b4⟩ := hb p hp
    rcases h with rfl | rfl | rfl | rfl <;> refine ⟨by simp, ?_, ?_⟩ <;> show _ ≤ _ <;> simp <;> omega
theorem spots_raft {T : Tw} {p : Int × Int} {lock : Int} (hk : lock = 1 ∨ lock = 2) (hp : p ∈ T) : (lock, sA lock p) ∈ spotsL T := by
  simp only [spotsL, List.mem_append, List.mem_flatMap, raftS, List.mem_cons, List.not_mem_nil, or_false]
  refine .inr ⟨p, hp, ?_⟩
  rcases hk with rfl | rfl <;> simp [sA]

theorem leastBy_spec {l : List Sp} : ∀ {i : Nat}, (∀ j, j < i → ¬ lexS (l.getD j (0, 0)) (l.getD (leastBy lexS l i) (0, 0)) = true) ∧ (leastBy lexS l i < i ∨ leastBy lexS l i = 0)
  | 0 => ⟨fun j hj => by omega, .inr rfl⟩
  | i + 1 => by
    obtain ⟨h1, h3⟩ := leastBy_spec (l := l) (i := i)
    by_cases h : lexS (l.getD i (0, 0)) (l.getD (leastBy lexS l i) (0, 0)) = true
    · have e : leastBy lexS l (i + 1) = i := by rw [leastBy, if_pos h]
      rw [e]
      refine ⟨fun j hj hlt => ?_, .inl (by omega)⟩
      by_cases hji : j = i
      · subst hji
        simp only [lexS, decide_eq_true_eq] at hlt
        omega
      · have := h1 j (by omega)
        simp only [lexS, decide_eq_true_eq] at *
        omega
    · have e : leastBy lexS l (i + 1) = leastBy lexS l i := by rw [leastBy, if_neg h]
      rw [e]
      refine ⟨fun j hj => ?_, by omega⟩
      by_cases hji : j = i
      · subst hji; exact h
      · exact h1 j (by omega)

theorem proof_is {T : Tw} (hb : TB T) (hn : 1 ≤ T.length) : IsProof T (proofS T) ∧ maxL T ≠ [] ∧ leastBy lexS (maxL T) (maxL T).length < (maxL T).length := by
  obtain ⟨t1, t2, t3⟩ := topF_spec (T := T) (L := spotsL T)
  have hp0 : T[0] ∈ T := List.getElem_mem (by omega)
  have hs0 := spots_raft (lock := 1) (.inl rfl) hp0
  have hok0 : okS T (1, sA 1 T[0]) = true := ok_iff.2 ⟨_, hp0, Int.le_refl _⟩
  have h0 := t1 _ hs0 hok0
  have h00 := b_ge hb (s := (1, sA 1 T[0]))
  have hsa := (sA_b (lock := 1) (hb _ hp0)).1.1
  have htop : ∃ s ∈ spotsL T, okS T s = true ∧ bS T s = topF T (spotsL T) := by
    rcases t3 with h | h
    · simp only at h00; omega
    · exact h
  obtain ⟨s1, m1, m2, m3⟩ := htop
  have hne : maxL T ≠ [] := by
    intro e
    have : s1 ∈ maxL T := by
      simp only [maxL, List.mem_filter, Bool.and_eq_true, Bool.not_eq_true', decide_eq_false_iff_not]
      exact ⟨m1, m2, by omega⟩
    rw [e] at this; cases this
  have hpos := List.length_pos_iff.2 hne
  obtain ⟨l1, l2⟩ := leastBy_spec (l := maxL T) (i := (maxL T).length)
  have hlt : leastBy lexS (maxL T) (maxL T).length < (maxL T).length := by omega
  have hmem : proofS T ∈ maxL T := by
    unfold proofS
    rw [List.getD_eq_getElem?_getD, List.getElem?_eq_getElem hlt]
    exact List.getElem_mem hlt
  have hl : ∀ s ∈ maxL T, ¬ lexS s (proofS T) = true := by
    intro s hs
    obtain ⟨j, hj⟩ := List.mem_iff_getElem?.1 hs
    have := l1 j (List.getElem?_eq_some_iff.1 hj).1
    rw [List.getD_eq_getElem?_getD (i := j), hj] at this
    exact this
  have hm : ∀ s, s ∈ maxL T ↔ s ∈ spotsL T ∧ okS T s = true ∧ ¬ bS T s < topF T (spotsL T) := by
    intro s
    simp only [maxL, List.mem_filter, Bool.and_eq_true, Bool.not_eq_true', decide_eq_false_iff_not]
  obtain ⟨q1, q2, q3⟩ := (hm _).1 hmem
  obtain ⟨c1, c2, c3⟩ := spots_mem q1 hb
  have hq := t1 _ q1 q2
  have hall : ∀ s : Sp, (s.1 = 1 ∨ s.1 = 2) → 0 ≤ s.2 → okS T s = true → bS T s ≤ bS T (proofS T) ∧ (bS T s = bS T (proofS T) → s ∈ maxL T) := by
    intro s hk h0 hok
    obtain ⟨s', e1, e2, e3, e4, e5, p, hp, e6⟩ := top_at hb h0 hk hok
    have hs' : s' ∈ spotsL T := by
      have := spots_raft hk hp
      have e : s' = (s.1, sA s.1 p) := Prod.ext e1 e6
      rw [e]; exact this
    have h7 := t1 _ hs' e3
    refine ⟨by omega, fun he => ?_⟩
    have := e5 (by omega)
    rw [this] at hs' h7
    exact (hm _).2 ⟨hs', hok, by omega⟩
  refine ⟨⟨c1, c2, ?_, q2, fun s' a1 a2 a3 => (hall s' a1 a2 a3).1, fun s' a1 a2 a3 a4 => hl s' ((hall s' a1 a2 a3).2 a4)⟩, hne, hlt⟩
  obtain ⟨p, hp, hpt⟩ := ok_iff.1 q2
  have := (sA_b (lock := (proofS T).1) (hb p hp)).1.2
  omega
end Go.Ab
