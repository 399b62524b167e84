/- best: the first best order. -/
import Derived.Test.YtkcfknlpdfgjnaaLG
set_option linter.unusedVariables false
set_option linter.unusedSimpArgs false
set_option maxHeartbeats 4000000
namespace Go.Ab
open Go Go.Proofs

def better (tm : List Int → Int) (o : Option (List Int)) (p : List Int) : Option (List Int) := match o with
  | none => some p
  | some q => if tm p < tm q then some p else some q
def bestF (tm : List Int → Int) (L : List (List Int)) : Option (List Int) := L.foldl (better tm) none
theorem bestF_take {tm : List Int → Int} {L : List (List Int)} {i : Nat} {p : List Int} (h : L[i]? = some p) : bestF tm (L.take (i + 1)) = better tm (bestF tm (L.take i)) p := by
  unfold bestF
  rw [List.take_add_one, h, List.foldl_append]; rfl
theorem better_some {tm : List Int → Int} {o : Option (List Int)} {p : List Int} : (better tm o p).isSome = true := by
  unfold better
  split
  · rfl
  · split <;> rfl
theorem foldl_best {tm : List Int → Int} : ∀ {L : List (List Int)} {q : List Int}, ∃ r, L.foldl (better tm) (some q) = some r ∧ (r = q ∨ r ∈ L) ∧ tm r ≤ tm q ∧ (∀ p ∈ L, tm r ≤ tm p) ∧ (tm r = tm q → r = q)
  | [], q => ⟨q, rfl, .inl rfl, Int.le_refl _, by simp, fun _ => rfl⟩
  | p :: L, q => by
    by_cases h : tm p < tm q
    · have e : better tm (some q) p = some p := by simp [better, h]
      obtain ⟨r, h1, h2, h3, h4, h5⟩ := foldl_best (tm := tm) (L := L) (q := p)
      refine ⟨r, by rw [List.foldl_cons, e, h1], ?_, by omega, fun x hx => ?_, fun he => by omega⟩
      · rcases h2 with rfl | h2
        · exact .inr (List.mem_cons_self ..)
        · exact .inr (List.mem_cons_of_mem _ h2)
      · rcases List.mem_cons.1 hx with rfl | hx
        · exact h3
        · exact h4 x hx
    · have e : better tm (some q) p = some q := by simp [better, h]
      obtain ⟨r, h1, h2, h3, h4, h5⟩ := foldl_best (tm := tm) (L := L) (q := q)
      refine ⟨r, by rw [List.foldl_cons, e, h1], ?_, h3, fun x hx => ?_, h5⟩
      · rcases h2 with rfl | h2
        · exact .inl rfl
        · exact .inr (List.mem_cons_of_mem _ h2)
      · rcases List.mem_cons.1 hx with rfl | hx
        · omega
        · exact h4 x hx
/-- The first one of the best. -/
theorem bestF_spec {tm : List Int → Int} {q : List Int} {L : List (List Int)} : ∃ r, bestF tm (q :: L) = some r ∧ r ∈ q :: L ∧ (∀ p ∈ q :: L, tm r ≤ tm p) ∧ (tm r = tm q → r = q) := by
  obtain ⟨r, h1, h2, h3, h4, h5⟩ := foldl_best (tm := tm) (L := L) (q := q)
  refine ⟨r, h1, ?_, fun p hp => ?_, h5⟩
  · rcases h2 with rfl | h2
    · exact List.mem_cons_self ..
    · exact List.mem_cons_of_mem _ h2
  · rcases List.mem_cons.1 hp with rfl | hp
    · exact h3
    · exact h4 p hp

def ordersL (n : Nat) : List (List Int) := picks n n []
def timeR (T : Tw) (room : Int) (o : List Int) : Int := (runR T room o).last
def bestO (T : Tw) (room : Int) : List Int := (bestF (timeR T room) (ordersL T.length)).getD []

theorem picks_mem {n : Nat} : ∀ {k : Nat} {b p : List Int}, b.length + k = n → (∀ x ∈ b, 0 ≤ x ∧ x < (n : Int)) → b.Nodup → p ∈ picks n k b → p.length = n ∧ (∀ x ∈ p, 0 ≤ x ∧ x < (n : Int)) ∧ p.Nodup
  | 0, b, p, hl, hx, hn, h => by
    simp only [picks, List.mem_singleton] at h
    subst h
    exact ⟨by omega, hx, hn⟩
  | k + 1, b, p, hl, hx, hn, h => by
    simp only [picks, List.mem_flatMap, List.mem_range] at h
    obtain ⟨i, hi, h⟩ := h
    split at h
    · cases h
    · rename_i hb
      refine picks_mem (k := k) (b := b ++ [(i : Int)]) (by simp; omega) (fun x hx' => ?_) ?_ h
      · rcases List.mem_append.1 hx' with g | g
        · exact hx x g
        · simp at g; subst g; omega
      · rw [List.nodup_append]
        refine ⟨hn, by simp, fun a ha c hc => ?_⟩
        simp at hc
        subst hc
        rintro rfl
        exact hb ha
theorem orders_mem {n : Nat} {p : List Int} (h : p ∈ ordersL n) : p.length = n ∧ (∀ x ∈ p, 0 ≤ x ∧ x < (n : Int)) ∧ p.Nodup :=
  picks_mem (b := []) (by simp) (by simp) (by simp) h
/-- The first order is that of the numbers. -/
def upTo (n : Nat) : List Int := (List.range n).map fun (i : Nat) => (i : Int)
theorem upTo_succ {n : Nat} : upTo (n + 1) = upTo n ++ [(n : Int)] := by simp [upTo, List.range_succ]
theorem upTo_mem {n : Nat} {x : Int} : x ∈ upTo n ↔ 0 ≤ x ∧ x < n := by
  simp only [upTo, List.mem_map, List.mem_range]
  constructor
  · rintro ⟨i, h, rfl⟩; omega
  · rintro ⟨h1, h2⟩; exact ⟨x.toNat, by omega, by omega⟩
@[simp] theorem upTo_len {n : Nat} : (upTo n).length = n := by simp [upTo]
theorem upTo_get {n i : Nat} (h : i < n) : (upTo n)[i]? = some (i : Int) := by simp [upTo, h]
theorem picks_head {n : Nat} : ∀ {k j : Nat}, j + k = n → (picks n k (upTo j)).head? = some (upTo n)
  | 0, j, h => by
    have : j = n := by omega
    subst this
    rfl
  | k + 1, j, h => by
    have ih := picks_head (n := n) (k := k) (j := j + 1) (by omega)
    rw [upTo_succ] at ih
    obtain ⟨r, hr⟩ := picksTo_le (n := n) (k := k) (b := upTo j) (i := j + 1) (by omega)
    have h0 : picksTo n k (upTo j) j = [] := by
      unfold picksTo
      rw [List.flatMap_eq_nil_iff]
      intro i hi
      rw [if_pos (upTo_mem.2 (by rw [List.mem_range] at hi; omega))]
    rw [hr, picksTo_succ, h0, if_neg (fun hh => by have := upTo_mem.1 hh; omega), List.nil_append]
    cases hp : picks n k (upTo j ++ [(j : Int)]) with
    | nil => rw [hp] at ih; cases ih
    | cons a l => rw [hp] at ih; simpa using ih
theorem orders_head {n : Nat} : ∃ L, ordersL n = upTo n :: L := by
  have := picks_head (n := n) (k := n) (j := 0) (by omega)
  have e : upTo 0 = [] := rfl
  rw [e] at this
  unfold ordersL
  cases h : picks n n [] with
  | nil => rw [h] at this; cases this
  | cons a l => rw [h] at this; simp at this; exact ⟨l, by rw [this]⟩
theorem bestO_spec {T : Tw} {room : Int} : bestF (timeR T room) (ordersL T.length) = some (bestO T room) ∧ bestO T room ∈ ordersL T.length ∧ (∀ p ∈ ordersL T.length, timeR T room (bestO T room) ≤ timeR T room p) ∧
    (timeR T room (bestO T room) = timeR T room (upTo T.length) → bestO T room = upTo T.length) := by
  obtain ⟨L, hL⟩ := orders_head (n := T.length)
  obtain ⟨r, h1, h2, h3, h4⟩ := bestF_spec (tm := timeR T room) (q := upTo T.length) (L := L)
  have e : bestO T room = r := by unfold bestO; rw [hL, h1]; rfl
  rw [e, hL]
  exact ⟨h1, h2, h3, h4⟩
/-- If no raft of a best order takes any time, it is the first order. -/
theorem run_zero {T : Tw} (hb : TB T) {room : Int} (hr0 : 0 ≤ room) : ∀ {o : List Int} {s : RS}, 0 ≤ s.last → 0 ≤ s.free → (∀ x ∈ (o.foldl (stepR T room) s).thrs, x = 0) → ∀ x ∈ o, raft T x = (0, 0)
  | [], _, _, _, _ => by simp
  | y :: o, s, h1, h2, h => by
    obtain ⟨⟨b1, b2⟩, b3, b4⟩ := raft_tb hb y
    rw [List.foldl_cons] at h
    have hsub : ∀ (o : List Int) (s : RS), ∀ x ∈ s.thrs, x ∈ (o.foldl (stepR T room) s).thrs := by
      intro o
      induction o with
      | nil => intro s x hx; exact hx
      | cons z o ih => intro s x hx; rw [List.foldl_cons]; exact ih _ x (List.mem_append_left _ hx)
    have h0 := h _ (hsub o _ (max (s.free + (raft T y).1) s.last + (raft T y).2) (List.mem_append_right _ (List.mem_singleton_self _)))
    have e1 : (raft T y).1 = 0 := by omega
    have e2 : (raft T y).2 = 0 := by omega
    intro x hx
    rcases List.mem_cons.1 hx with rfl | hx
    · exact Prod.ext e1 e2
    · refine run_zero hb hr0 (o := o) (s := stepR T room s y) ?_ ?_ h x hx
      · simp only [stepR]; omega
      · simp only [stepR]; split <;> omega
theorem time_zero {T : Tw} {room : Int} : ∀ {o : List Int} {s : RS}, (∀ x ∈ o, raft T x = (0, 0)) → s.last = 0 → s.free = 0 → (∀ x ∈ s.secs, x = 0) → (o.foldl (stepR T room) s).last = 0
  | [], _, _, h, _, _ => h
  | y :: o, s, hx, h1, h2, h3 => by
    have hy := hx y (List.mem_cons_self ..)
    rw [List.foldl_cons]
    have e : max (s.free + (raft T y).1) s.last = 0 := by rw [hy, h1, h2]; rfl
    have hs : ∀ x ∈ s.secs ++ [max (s.free + (raft T y).1) s.last], x = 0 := by
      intro x hx
      rcases List.mem_append.1 hx with h | h
      · exact h3 x h
      · simp at h; rw [h, e]
    refine time_zero (fun x h => hx x (List.mem_cons_of_mem _ h)) ?_ ?_ hs
    · show max (s.free + (raft T y).1) s.last + (raft T y).2 = 0
      rw [e, hy]; rfl
    · simp only [stepR]
      have hd : ∀ i, (s.secs ++ [max (s.free + (raft T y).1) s.last]).getD i 0 = 0 := by
        intro i
        rw [List.getD_eq_getElem?_getD]
        cases hg : (s.secs ++ [max (s.free + (raft T y).1) s.last])[i]? with
        | none => rfl
        | some x => exact hs x (List.mem_of_getElem? hg)
      rw [hd, hy, h2]
      split <;> rfl
theorem best_zero {T : Tw} (hb : TB T) {room : Int} (hr0 : 0 ≤ room) (h : ∀ x ∈ (runR T room (bestO T room)).thrs, x = 0) : bestO T room = upTo T.length := by
  obtain ⟨h1, h2, h3, h4⟩ := bestO_spec (T := T) (room := room)
  have hz := run_zero hb hr0 (o := bestO T room) (s := ⟨[], [], 0, 0⟩) (Int.le_refl _) (Int.le_refl _) h
  obtain ⟨m1, m2, m3⟩ := orders_mem h2
  have t1 : timeR T room (bestO T room) = 0 := time_zero hz rfl rfl (by simp)
  have hall : ∀ x ∈ upTo T.length, raft T x = (0, 0) := by
    intro x hx
    have hx' := upTo_mem.1 hx
    refine hz x ?_
    -- an order has each number
    false_or_by_contra
    rename_i hno
    have hsub : (x :: bestO T room).Subset (upTo T.length) := by
      intro y hy
      rcases List.mem_cons.1 hy with rfl | hy
      · exact hx
      · exact upTo_mem.2 (m2 y hy)
    have := (List.nodup_cons.2 ⟨hno, m3⟩).length_le_of_subset hsub
    simp at this
    omega
  have t2 : timeR T room (upTo T.length) = 0 := time_zero hall rfl rfl (by simp)
  exact h4 (by rw [t1, t2])
end Go.Ab
