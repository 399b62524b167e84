/- Orders in their order; the first best one; firsts. Plain. -/
import Derived.Test.YtkcfknlpdfgjnaaMD
set_option linter.unusedVariables false
set_option linter.unusedSimpArgs false
set_option maxHeartbeats 4000000
namespace Go.Ab
open Go Go.Proofs

def beforeL : List Int → List Int → Bool
  | a :: l, b :: r => if a ≠ b then decide (a < b) else beforeL l r
  | _, _ => false
theorem beforeL_refl : ∀ {l : List Int}, beforeL l l = false
  | [] => rfl
  | a :: l => by rw [beforeL, if_neg (by simp)]; exact beforeL_refl
theorem beforeL_pre {i j : Int} (h : i < j) : ∀ {b s t : List Int}, beforeL (b ++ j :: t) (b ++ i :: s) = false
  | [], s, t => by
    show beforeL (j :: t) (i :: s) = false
    rw [beforeL, if_pos (by omega)]
    simp; omega
  | x :: b, s, t => by
    show beforeL (x :: (b ++ j :: t)) (x :: (b ++ i :: s)) = false
    rw [beforeL, if_neg (by simp)]
    exact beforeL_pre h
theorem picks_lex {n : Nat} : ∀ {k : Nat} {b : List Int}, (picks n k b).Pairwise (fun p q => beforeL q p = false)
  | 0, b => by simp [picks]
  | k + 1, b => by
    rw [picks, List.pairwise_flatMap]
    refine ⟨fun i _ => ?_, ?_⟩
    · split
      · exact List.Pairwise.nil
      · exact picks_lex
    · rw [List.pairwise_iff_getElem]
      intro x y hx hy hxy p hp q hq
      simp only [List.getElem_range] at hp hq
      split at hp
      · cases hp
      split at hq
      · cases hq
      obtain ⟨s, rfl⟩ := picks_pre hp
      obtain ⟨t, rfl⟩ := picks_pre hq
      rw [List.append_assoc, List.append_assoc]
      exact beforeL_pre (by omega)
theorem picks_all {n : Nat} : ∀ {t b : List Int}, (∀ x ∈ t, 0 ≤ x ∧ x < (n : Int)) → (b ++ t).Nodup → b ++ t ∈ picks n t.length b
  | [], b, _, _ => by simp [picks]
  | x :: t, b, h, hn => by
    obtain ⟨h0, h1⟩ := h x (List.mem_cons_self ..)
    have e : b ++ x :: t = (b ++ [x]) ++ t := by simp
    have ih := picks_all (n := n) (t := t) (b := b ++ [x]) (fun y hy => h y (List.mem_cons_of_mem _ hy)) (by rw [← e]; exact hn)
    rw [← e] at ih
    rw [List.length_cons, picks, List.mem_flatMap]
    refine ⟨x.toNat, List.mem_range.2 (by omega), ?_⟩
    have hx : ((x.toNat : Nat) : Int) = x := by omega
    rw [hx]
    have hxb : ¬ x ∈ b := by
      intro hb
      rw [List.nodup_append] at hn
      exact hn.2.2 x hb x (List.mem_cons_self ..) rfl
    rw [if_neg hxb]
    exact ih
theorem orders_all {n : Nat} {p : List Int} (h : isOrd n p = true) : p ∈ ordersL n := by
  obtain ⟨h1, h2, h3⟩ := isOrd_spec h
  have := picks_all (n := n) (t := p) (b := []) h2 (by simpa using h3)
  rw [h1] at this
  exact this
theorem bestF_first {tm : List Int → Int} {L : List (List Int)} : ∀ {i : Nat} {r : List Int}, bestF tm (L.take i) = some r → ∃ k, L[k]? = some r ∧ k < i ∧ (∀ j p, j < k → L[j]? = some p → tm r < tm p)
  | 0, r, h => by simp [bestF] at h
  | i + 1, r, h => by
    by_cases hi : i < L.length
    · have hg : L[i]? = some L[i] := List.getElem?_eq_getElem hi
      rw [bestF_take hg] at h
      cases hb : bestF tm (L.take i) with
      | none =>
        rw [hb] at h
        simp only [better, Option.some.injEq] at h
        subst h
        refine ⟨i, hg, by omega, fun j p hj hp => ?_⟩
        exfalso
        have : L.take i = [] := by
          cases hL : L.take i with
          | nil => rfl
          | cons x l =>
            obtain ⟨r, h1, -⟩ := bestF_spec (tm := tm) (q := x) (L := l)
            rw [hL, h1] at hb; cases hb
        have h2 : (L.take i).length = 0 := by rw [this]; rfl
        rw [List.length_take] at h2
        omega
      | some q =>
        rw [hb] at h
        obtain ⟨k, h1, h2, h3⟩ := bestF_first hb
        simp only [better] at h
        split at h
        · rename_i hlt
          cases h
          refine ⟨i, hg, by omega, fun j p hj hp => ?_⟩
          have hle : tm q ≤ tm p := by
            by_cases hjk : j < k
            · have := h3 j p hjk hp; omega
            · false_or_by_contra
              rename_i hno
              have hL : ∃ x l, L.take i = x :: l := by
                cases hL : L.take i with
                | nil =>
                  rw [hL] at hb
                  simp [bestF] at hb
                | cons x l => exact ⟨x, l, rfl⟩
              obtain ⟨x, l, hL⟩ := hL
              obtain ⟨r', h5, -, h6, -⟩ := bestF_spec (tm := tm) (q := x) (L := l)
              rw [hL, h5] at hb
              cases hb
              have : p ∈ x :: l := by
                rw [← hL]
                exact List.mem_of_getElem? (i := j) (by rw [List.getElem?_take, if_pos hj]; exact hp)
              exact hno (h6 p this)
          omega
        · cases h
          exact ⟨k, h1, by omega, h3⟩
    · have e : L.take (i + 1) = L.take i := by rw [List.take_of_length_le (by omega), List.take_of_length_le (by omega)]
      rw [e] at h
      obtain ⟨k, h1, h2, h3⟩ := bestF_first h
      exact ⟨k, h1, by omega, h3⟩
/-- None of as little comes before the one returned. -/
theorem best_first {T : Tw} {room : Int} {p : List Int} (hp : isOrd T.length p = true) (he : timeR T room p = bestT T room) : beforeL p (bestO T room) = false := by
  have hm := orders_all hp
  have h := (bestO_spec (T := T) (room := room)).1
  rw [← List.take_length (l := ordersL T.length)] at h
  obtain ⟨k, h1, h2, h3⟩ := bestF_first h
  obtain ⟨j, hj⟩ := List.mem_iff_getElem?.1 hm
  rcases Nat.lt_trichotomy j k with hjk | rfl | hjk
  · have := h3 j p hjk hj
    unfold bestT at he
    omega
  · rw [h1] at hj; cases hj; exact beforeL_refl
  · obtain ⟨a1, a2⟩ := List.getElem?_eq_some_iff.1 h1
    obtain ⟨b1, b2⟩ := List.getElem?_eq_some_iff.1 hj
    have := List.pairwise_iff_getElem.1 (picks_lex (n := T.length) (k := T.length) (b := [])) k j a1 b1 hjk
    rw [show (picks T.length T.length [])[k]'a1 = _ from a2, show (picks T.length T.length [])[j]'b1 = _ from b2] at this
    exact this

/-! ### Firsts -/
theorem firsts_has {tm : List Int → Int} {b : Int} {L : List (List Int)} : ∀ {i : Nat} {p : List Int} {j : Nat}, j < i → L[j]? = some p → tm p = b → p.getD 0 0 ∈ firstsF tm b (L.take i)
  | 0, p, j, h, _, _ => by omega
  | i + 1, p, j, h, hj, hb => by
    have hjl := (List.getElem?_eq_some_iff.1 hj).1
    by_cases hi : i < L.length
    · rw [firstsF_take (List.getElem?_eq_getElem hi)]
      by_cases hji : j = i
      · subst hji
        have e : L[j] = p := (List.getElem?_eq_some_iff.1 hj).2
        rw [e, stepF, if_pos hb, addF]
        split
        · assumption
        · simp
      · have ih := firsts_has (i := i) (by omega) hj hb
        unfold stepF addF
        split
        · split
          · exact ih
          · exact List.mem_append_left _ ih
        · exact ih
    · have e : L.take (i + 1) = L.take i := by rw [List.take_of_length_le (by omega), List.take_of_length_le (by omega)]
      rw [e]
      exact firsts_has (by omega) hj hb
/-- They rise, and the first of them is that of the first best order. -/
theorem firsts_up {tm : List Int → Int} {b : Int} {L : List (List Int)} (hs : L.Pairwise (fun p q => p.getD 0 0 ≤ q.getD 0 0)) : ∀ {i : Nat}, (firstsF tm b (L.take i)).Pairwise (· < ·)
  | 0 => by simp [firstsF]
  | i + 1 => by
    by_cases hi : i < L.length
    · have ih := firsts_up (tm := tm) (b := b) hs (i := i)
      have hge : ∀ y ∈ firstsF tm b (L.take i), y ≤ (L[i]).getD 0 0 := by
        intro y hy
        obtain ⟨j, p, h1, h2, rfl⟩ := firsts_from hy
        obtain ⟨h3, rfl⟩ := List.getElem?_eq_some_iff.1 h2
        exact List.pairwise_iff_getElem.1 hs j i h3 hi h1
      rw [firstsF_take (List.getElem?_eq_getElem hi)]
      unfold stepF addF
      split
      · split
        · exact ih
        · rename_i hn
          rw [List.pairwise_append]
          refine ⟨ih, by simp, fun a ha c hc => ?_⟩
          rw [List.mem_singleton] at hc
          subst hc
          have := hge a ha
          rcases Int.lt_or_eq_of_le this with h | h
          · exact h
          · rw [h] at ha; exact absurd ha hn
      · exact ih
    · have e : L.take (i + 1) = L.take i := by rw [List.take_of_length_le (by omega), List.take_of_length_le (by omega)]
      rw [e]; exact firsts_up hs
theorem firsts_head {tm : List Int → Int} {b : Int} {L : List (List Int)} {k : Nat} {p : List Int} (hk : L[k]? = some p) (hb : tm p = b) (hpre : ∀ j q, j < k → L[j]? = some q → tm q ≠ b) : ∀ {i : Nat}, k < i → (firstsF tm b (L.take i)).head? = some (p.getD 0 0)
  | 0, h => by omega
  | i + 1, h => by
    have hkl := (List.getElem?_eq_some_iff.1 hk).1
    have hnil : ∀ {i : Nat}, i ≤ k → firstsF tm b (L.take i) = [] := by
      intro i
      induction i with
      | zero => intro _; simp [firstsF]
      | succ i ih =>
        intro h
        have hg : L[i]? = some (L[i]'(by omega)) := List.getElem?_eq_getElem _
        rw [firstsF_take hg, ih (by omega), stepF, if_neg (hpre i _ (by omega) hg)]
    by_cases hi : i < L.length
    · have hg : L[i]? = some L[i] := List.getElem?_eq_getElem hi
      rw [firstsF_take hg]
      by_cases hki : k = i
      · subst hki
        rw [hnil (Nat.le_refl _)]
        have e : L[k] = p := (List.getElem?_eq_some_iff.1 hk).2
        rw [e, stepF, if_pos hb]
        simp [addF]
      · have ih := firsts_head hk hb hpre (i := i) (by omega)
        unfold stepF addF
        split
        · split
          · exact ih
          · rw [List.head?_append, ih]; rfl
        · exact ih
    · have e : L.take (i + 1) = L.take i := by rw [List.take_of_length_le (by omega), List.take_of_length_le (by omega)]
      rw [e]
      exact firsts_head hk hb hpre (by omega)
structure FirstsOK (T : Tw) (room : Int) (f : List Int) : Prop where
  up : f.Pairwise (· < ·)
  rng : ∀ x ∈ f, 0 ≤ x ∧ x < (T.length : Int)
  head : f.head? = some ((bestO T room).getD 0 0)
  has : ∀ p, isOrd T.length p = true → timeR T room p = bestT T room → p.getD 0 0 ∈ f
  len : 1 ≤ f.length ∧ f.length ≤ T.length
theorem firsts_ok {T : Tw} {room : Int} (hn : 1 ≤ T.length) : FirstsOK T room (firstsL T room) := by
  have hb := (bestO_spec (T := T) (room := room))
  have h := hb.1
  rw [← List.take_length (l := ordersL T.length)] at h
  obtain ⟨k, h1, h2, h3⟩ := bestF_first h
  have hup := firsts_up (tm := timeR T room) (b := timeR T room (bestO T room)) (orders_sorted (n := T.length)) (i := (ordersL T.length).length)
  have hfr := fun y => firsts_from (tm := timeR T room) (b := timeR T room (bestO T room)) (L := ordersL T.length) (i := (ordersL T.length).length) (y := y)
  have hha := fun p j => firsts_has (tm := timeR T room) (b := timeR T room (bestO T room)) (L := ordersL T.length) (i := (ordersL T.length).length) (p := p) (j := j)
  have hhd := firsts_head (tm := timeR T room) (b := timeR T room (bestO T room)) h1 rfl (fun j q hj hq => by have := h3 j q hj hq; omega) (i := (ordersL T.length).length) h2
  rw [List.take_length] at hup hfr hha hhd
  have hrng : ∀ x ∈ firstsL T room, 0 ≤ x ∧ x < (T.length : Int) := by
    intro x hx
    obtain ⟨j, p, -, hp, rfl⟩ := hfr x hx
    obtain ⟨m1, m2, -⟩ := orders_mem (List.mem_of_getElem? hp)
    have hp0 : p[0]? = some p[0] := List.getElem?_eq_getElem (by omega)
    have e : p.getD 0 0 = p[0] := by simp [List.getD, hp0]
    rw [e]
    exact m2 _ (List.getElem_mem _)
  refine ⟨hup, hrng, hhd, fun p hp he => ?_, ?_, ?_⟩
  · obtain ⟨j, hj⟩ := List.mem_iff_getElem?.1 (orders_all hp)
    exact hha p j (List.getElem?_eq_some_iff.1 hj).1 hj he
  · have : firstsL T room ≠ [] := by intro e; rw [show firstsF _ _ _ = firstsL T room from rfl, e] at hhd; cases hhd
    exact List.length_pos_iff.2 this
  · have hnd : (firstsL T room).Nodup := hup.imp (fun h => by omega)
    have hsub : (firstsL T room).Subset (upTo T.length) := fun x hx => upTo_mem.2 (hrng x hx)
    have := hnd.length_le_of_subset hsub
    simpa using this
end Go.Ab
