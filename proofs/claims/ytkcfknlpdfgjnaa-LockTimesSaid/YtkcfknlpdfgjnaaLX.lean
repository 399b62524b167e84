/- Proof, of the program: the map. -/
import Derived.Test.YtkcfknlpdfgjnaaLW
set_option linter.unusedVariables false
set_option linter.unusedSimpArgs false
set_option maxHeartbeats 4000000
namespace Go.Ab
open Go Go.Proofs

/-- An entry: the spot, and when it was put in. -/
def mkE (T : Tw) (x : Sp × Nat) : Nat × V × V := (x.2, spotV x.1, .i .i64 (bS T x.1))
def mapE (T : Tw) (L : List (Sp × Nat)) : List (Nat × V × V) := L.map (mkE T)
theorem keyOf_spot {s : Sp} : keyOf .i64 2 (spotV s) = some [s.1, s.2] := by
  simp [keyOf, spotV]
theorem keysOK_map {T : Tw} {L : List (Sp × Nat)} : keysOK .i64 2 ((mapE T L).map (·.2)) := by
  intro e he
  simp only [mapE, List.map_map, List.mem_map, Function.comp] at he
  obtain ⟨x, -, rfl⟩ := he
  exact ⟨_, keyOf_spot⟩
theorem key_eq {s s' : Sp} : (some [s.1, s.2] : Option (List Int)) = some [s'.1, s'.2] ↔ s = s' := by
  constructor
  · intro h
    simp only [Option.some.injEq, List.cons.injEq, and_true] at h
    exact Prod.ext h.1 h.2
  · rintro rfl; rfl
theorem findM_map {T : Tw} {s : Sp} : ∀ {L : List (Sp × Nat)}, findM .i64 2 [s.1, s.2] ((mapE T L).map (·.2)) = if s ∈ L.map (·.1) then some (.i .i64 (bS T s)) else none
  | [] => by simp [mapE, findM]
  | x :: L => by
    have ih := findM_map (T := T) (s := s) (L := L)
    unfold mapE at ih ⊢
    simp only [List.map_cons, mkE, findM, keyOf_spot]
    by_cases h : x.1 = s
    · subst h
      rw [if_pos rfl, if_pos (List.mem_cons_self ..)]
    · rw [if_neg (fun e => h (key_eq.1 e)), ih]
      have h' : ¬ s = x.1 := fun e => h e.symm
      by_cases hm : s ∈ L.map (·.1)
      · rw [if_pos hm, if_pos (List.mem_cons_of_mem _ hm)]
      · rw [if_neg hm, if_neg (fun e => (List.mem_cons.1 e).elim h' hm)]
theorem idxM_none {T : Tw} {s : Sp} : ∀ {L : List (Sp × Nat)}, s ∉ L.map (·.1) → idxM .i64 2 [s.1, s.2] ((mapE T L).map (·.2)) = none
  | [], _ => by simp [mapE, idxM]
  | x :: L, h => by
    simp only [List.map_cons, List.mem_cons, not_or] at h
    have ih := idxM_none (T := T) (s := s) (L := L) h.2
    unfold mapE at ih ⊢
    simp only [List.map_cons, mkE, idxM, keyOf_spot]
    rw [if_neg (fun e => h.1 (key_eq.1 e).symm), ih]
    rfl
theorem idxM_some {T : Tw} {s : Sp} : ∀ {L : List (Sp × Nat)}, s ∈ L.map (·.1) → ∃ i, idxM .i64 2 [s.1, s.2] ((mapE T L).map (·.2)) = some i ∧ (mapE T L).modify i (fun e => (e.1, spotV s, .i .i64 (bS T s))) = mapE T L ∧ ((L.map (·.1)).Nodup → (mapE T L).eraseIdx i = mapE T (L.filter fun x => decide (x.1 ≠ s)))
  | [], h => by simp at h
  | x :: L, h => by
    by_cases hx : x.1 = s
    · refine ⟨0, ?_, ?_, fun hn => ?_⟩
      · simp only [mapE, List.map_cons, mkE, idxM, keyOf_spot]
        rw [if_pos (key_eq.2 hx)]
      · subst hx
        simp [mapE, mkE]
      · simp only [List.map_cons, List.nodup_cons] at hn
        have : L.filter (fun y => decide (y.1 ≠ s)) = L := by
          rw [List.filter_eq_self]
          intro y hy
          simp only [decide_eq_true_eq]
          rintro rfl
          exact hn.1 (by rw [hx]; exact List.mem_map_of_mem hy)
        rw [List.filter_cons, if_neg (by simp [hx]), this]
        rfl
    · simp only [List.map_cons, List.mem_cons] at h
      obtain ⟨i, h1, h2, h3⟩ := idxM_some (T := T) (s := s) (L := L) (h.resolve_left (fun e => hx e.symm))
      refine ⟨i + 1, ?_, ?_, fun hn => ?_⟩
      · unfold mapE at h1 ⊢
        simp only [List.map_cons, mkE, idxM, keyOf_spot]
        rw [if_neg (fun e => hx (key_eq.1 e)), h1]
        rfl
      · simp only [mapE, List.map_cons, List.modify_succ_cons] at h2 ⊢
        rw [h2]
      · simp only [List.map_cons, List.nodup_cons] at hn
        have := h3 hn.2
        rw [List.filter_cons, if_pos (by simp [hx])]
        simp only [mapE, List.map_cons, List.eraseIdx_cons_succ] at this ⊢
        rw [this]
theorem find_map {T : Tw} {x : Sp × Nat} : ∀ {L : List (Sp × Nat)}, x ∈ L → (∀ y ∈ L, y.2 = x.2 → y = x) → (mapE T L).find? (fun e => e.1 == x.2) = some (mkE T x)
  | [], h, _ => by cases h
  | y :: L, h, hu => by
    simp only [mapE, List.map_cons, List.find?_cons]
    by_cases hy : y.2 = x.2
    · have e := hu y (List.mem_cons_self ..) hy
      subst e
      simp [mkE]
    · have : ((mkE T y).1 == x.2) = false := by simp [mkE, hy]
      rw [this]
      exact find_map (by rcases List.mem_cons.1 h with rfl | h; exact absurd rfl hy; exact h) (fun z hz => hu z (List.mem_cons_of_mem _ hz))
theorem pure_mapE {T : Tw} {k n c : Nat} {σ : List O} {L : List (Sp × Nat)} : frzO (k + 1) n σ (.map (mapE T L) c) = .map (mapE T L) c := by
  simp only [frzO]
  congr 1
  have : ∀ e ∈ mapE T L, (fun e : Nat × V × V => (e.1, frz (k + 1) n σ e.2.1, frz (k + 1) n σ e.2.2)) e = e := by
    intro e he
    obtain ⟨x, -, rfl⟩ := List.mem_map.1 he
    have h1 : frz (k + 1) n σ (spotV x.1) = spotV x.1 := frz_pure (by simp [spotV])
    have h2 : frz (k + 1) n σ (.i .i64 (bS T x.1)) = .i .i64 (bS T x.1) := frz_pure rfl
    simp only [mkE, h1, h2]
  exact (List.map_congr_left (g := id) this).trans (List.map_id _)

/-- The spots of the map, in order. -/
def ksTo (T : Tw) (L : List Sp) : List Sp := L.foldl (fun ks s => if okS T s = true ∧ s ∉ ks then ks ++ [s] else ks) []
theorem ksTo_snoc {T : Tw} {L : List Sp} {s : Sp} : ksTo T (L ++ [s]) = if okS T s = true ∧ s ∉ ksTo T L then ksTo T L ++ [s] else ksTo T L := by
  unfold ksTo
  rw [List.foldl_append]
  rfl
theorem ksTo_spec {T : Tw} : ∀ (L : List Sp), (ksTo T L).Nodup ∧ ∀ s, s ∈ ksTo T L ↔ s ∈ L ∧ okS T s = true := by
  have : ∀ (L ks : List Sp), ks.Nodup → (∀ s ∈ ks, okS T s = true) → (L.foldl (fun ks s => if okS T s = true ∧ s ∉ ks then ks ++ [s] else ks) ks).Nodup ∧ ∀ s, s ∈ L.foldl (fun ks s => if okS T s = true ∧ s ∉ ks then ks ++ [s] else ks) ks ↔ (s ∈ ks ∨ s ∈ L ∧ okS T s = true) := by
    intro L
    induction L with
    | nil => intro ks h _; exact ⟨h, by simp⟩
    | cons x L ih =>
      intro ks h hk
      rw [List.foldl_cons]
      by_cases hx : okS T x = true ∧ x ∉ ks
      · rw [if_pos hx]
        obtain ⟨h1, h2⟩ := ih (ks ++ [x]) (by
          rw [List.nodup_append]
          exact ⟨h, by simp, fun a ha b hb => by simp at hb; subst hb; rintro rfl; exact hx.2 ha⟩) (fun s hs => by
          rcases List.mem_append.1 hs with hs | hs
          · exact hk s hs
          · simp at hs; rw [hs]; exact hx.1)
        refine ⟨h1, fun s => ?_⟩
        rw [h2, List.mem_append, List.mem_singleton, List.mem_cons]
        constructor
        · rintro ((h3 | rfl) | h3)
          · exact .inl h3
          · exact .inr ⟨.inl rfl, hx.1⟩
          · exact .inr ⟨.inr h3.1, h3.2⟩
        · rintro (h3 | ⟨rfl | h3, h4⟩)
          · exact .inl (.inl h3)
          · exact .inl (.inr rfl)
          · exact .inr ⟨h3, h4⟩
      · rw [if_neg hx]
        obtain ⟨h1, h2⟩ := ih ks h hk
        refine ⟨h1, fun s => ?_⟩
        rw [h2, List.mem_cons]
        constructor
        · rintro (h3 | h3)
          · exact .inl h3
          · exact .inr ⟨.inr h3.1, h3.2⟩
        · rintro (h3 | ⟨rfl | h3, h4⟩)
          · exact .inl h3
          · left
            false_or_by_contra
            rename_i hn
            exact hx ⟨h4, hn⟩
          · exact .inr ⟨h3, h4⟩
  intro L
  have := this L [] (by simp) (by simp)
  exact ⟨this.1, fun s => by rw [show s ∈ ksTo T L ↔ _ from this.2 s]; simp⟩
end Go.Ab
