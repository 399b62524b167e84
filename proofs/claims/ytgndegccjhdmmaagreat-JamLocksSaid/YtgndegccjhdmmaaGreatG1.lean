/- Slices that grow, of elements of any number of cells. -/
import Derived.Test.YtgndegccjhdmmaaGreatC6
set_option linter.unusedVariables false
set_option linter.unusedSimpArgs false
set_option maxHeartbeats 4000000
namespace Go.Ab
open Go

def idOf : V → Option Nat
  | .s id _ _ _ _ => some id
  | _ => none

/-- A slice that grew from nothing: n elements of es cells each; its row, if any, is one from k on. -/
def Gr (k es : Nat) (σ : List O) (v : V) (n : Nat) (cs : List V) : Prop :=
  cs.length = n * es ∧ ((n = 0 ∧ v = .ss [] 0 true) ∨ (n ≠ 0 ∧ ∃ id ver, k ≤ id ∧ v = .s id ver 0 n es ∧ σ[id]? = some (.row ver cs)))

theorem getL {σ g : List O} {i : Nat} {o : O} (h : σ[i]? = some o) : (σ ++ g)[i]? = some o := by
  rw [List.getElem?_append_left (List.getElem?_eq_some_iff.1 h).1]; exact h

section
variable {k es : Nat} {σ : List O} {v : V} {n : Nat} {cs : List V}
theorem Gr.nil : Gr k es σ (.ss [] 0 true) 0 [] := ⟨by simp, .inl ⟨rfl, rfl⟩⟩
theorem Gr.cases (h : Gr k es σ v n cs) : (n = 0 ∧ cs = [] ∧ v = .ss [] 0 true) ∨ ∃ id ver, n ≠ 0 ∧ k ≤ id ∧ v = .s id ver 0 n es ∧ σ[id]? = some (.row ver cs) ∧ id < σ.length := by
  obtain ⟨h0, ⟨rfl, rfl⟩ | ⟨hn, id, ver, h1, h2, h3⟩⟩ := h
  · exact .inl ⟨rfl, by simpa using h0, rfl⟩
  · exact .inr ⟨id, ver, hn, h1, h2, h3, (List.getElem?_eq_some_iff.1 h3).1⟩
theorem Gr.app {g : List O} (h : Gr k es σ v n cs) : Gr k es (σ ++ g) v n cs := by
  obtain ⟨h0, h | ⟨hn, id, ver, h1, h2, h3⟩⟩ := h
  · exact ⟨h0, .inl h⟩
  · exact ⟨h0, .inr ⟨hn, id, ver, h1, h2, getL h3⟩⟩
theorem Gr.one (h : Gr k es σ v n cs) : cellsOf v = some [v] := by
  obtain ⟨h0, ⟨-, rfl⟩ | ⟨hn, id, ver, h1, rfl, h3⟩⟩ := h <;> rfl
theorem Gr.keep {σ' : List O} (h : Gr k es σ v n cs) (hs : ∀ j, k ≤ j → idOf v = some j → σ'[j]? = σ[j]?) : Gr k es σ' v n cs := by
  obtain ⟨h0, h | ⟨hn, id, ver, h1, rfl, h3⟩⟩ := h
  · exact ⟨h0, .inl h⟩
  · exact ⟨h0, .inr ⟨hn, id, ver, h1, rfl, by rw [hs id h1 rfl]; exact h3⟩⟩
theorem Gr.set {i : Nat} {o : O} (h : Gr k es σ v n cs) (hi : idOf v ≠ some i) : Gr k es (σ.set i o) v n cs :=
  h.keep fun j _ hj => List.getElem?_set_ne (fun e => hi (by rw [e]; exact hj))
theorem Gr.setlt {i : Nat} {o : O} (h : Gr k es σ v n cs) (hi : i < k) : Gr k es (σ.set i o) v n cs :=
  h.keep fun j hj _ => List.getElem?_set_ne (by omega)
theorem Gr.id_ge (h : Gr k es σ v n cs) {j : Nat} (hj : idOf v = some j) : k ≤ j ∧ j < σ.length := by
  rcases h.cases with ⟨-, -, rfl⟩ | ⟨id, ver, -, h1, rfl, -, h2⟩
  · cases hj
  · cases hj; exact ⟨h1, h2⟩
theorem Gr.mono {k' : Nat} (h : Gr k es σ v n cs) (hk : k' ≤ k) : Gr k' es σ v n cs := by
  obtain ⟨h0, h | ⟨hn, id, ver, h1, h2, h3⟩⟩ := h
  · exact ⟨h0, .inl h⟩
  · exact ⟨h0, .inr ⟨hn, id, ver, by omega, h2, h3⟩⟩

/-- What an append to v touches. -/
structure Grew (v v' : V) (σ σ' : List O) : Prop where
  len : σ.length ≤ σ'.length
  keep : ∀ j, j < σ.length → idOf v ≠ some j → σ'[j]? = σ[j]?
  id : idOf v' = idOf v ∨ (idOf v = none ∧ idOf v' = some σ.length)
theorem Grew.lt {v' : V} {σ' : List O} (g : Grew v v' σ σ') (h : Gr k es σ v n cs) {j : Nat} (hj : j < k) (hk : k ≤ σ.length) : σ'[j]? = σ[j]? :=
  g.keep j (by omega) (fun e => by have := (h.id_ge e).1; omega)
theorem Grew.get {v' : V} {σ' : List O} {o : O} {j : Nat} (g : Grew v v' σ σ') (hj : idOf v ≠ some j) (h : σ[j]? = some o) : σ'[j]? = some o := by
  rw [g.keep j (List.getElem?_eq_some_iff.1 h).1 hj]; exact h

theorem appG {bytes m : Nat} {ys : List V} {C : Ct} (h : Gr k es σ v n cs) (hk : k ≤ σ.length) (hb : (n + m) * bytes ≤ 140737488355328) (hm : m ≠ 0) (hy : ys.length = m * es)
    (hC : ∀ v' σ', Gr k es σ' v' (n + m) (cs ++ ys) → Grew v v' σ σ' → C v' σ') : appTo es bytes v σ C ys m := by
  rcases h.cases with ⟨rfl, rfl, rfl⟩ | ⟨id, ver, hn, hid, rfl, hs, hlt⟩
  · simp only [appTo_ss]
    refine ⟨by simp, hb, ?_⟩
    rw [if_neg hm]
    refine hC _ _ ⟨by simp [hy], .inr ⟨by omega, σ.length, 0, hk, rfl, by simp⟩⟩ ⟨by simp, fun j h2 _ => List.getElem?_append_left h2, .inr ⟨rfl, rfl⟩⟩
  · simp only [appTo, hs]
    refine ⟨trivial, trivial, by simp [h.1], hb, ?_⟩
    rw [if_neg hm]
    refine hC _ _ ⟨by simp [hy, h.1, Nat.add_mul], .inr ⟨by omega, id, ver + 1, hid, rfl, ?_⟩⟩ ⟨by simp, fun j h2 hj => List.getElem?_set_ne (fun hE => hj (by rw [hE]; rfl)), .inl rfl⟩
    rw [List.getElem?_set_self hlt]; simp

theorem lenG {C : Ct} (h : Gr k es σ v n cs) (hC : C (.i .i64 n) σ) : lenC v σ C := by
  rcases h.cases with ⟨rfl, rfl, rfl⟩ | ⟨id, ver, hn, hid, rfl, hs, hlt⟩
  · simpa using hC
  · simp only [lenC, lenK, liveV, hs]
    exact ⟨rfl, hC⟩
theorem frz_G (h : Gr k es σ v n cs) (hp : pureL cs = true) : frz 2 0 σ v = .ss cs n (n == 0) := by
  rcases h.cases with ⟨rfl, rfl, rfl⟩ | ⟨id, ver, hn, hid, rfl, hs, hlt⟩
  · exact frz_pure (by simp)
  · rw [frz]
    simp only [V.pure, Bool.false_eq_true, if_false, Nat.not_lt.2 (Nat.zero_le _), hs]
    rw [if_pos ⟨trivial, by simp [h.1]⟩]
    have e : List.take (n * es) (List.drop 0 cs) = cs := by rw [List.drop_zero]; exact List.take_of_length_le (by rw [h.1]; omega)
    rw [e, map_frz hp]
    have : (n == 0) = false := by simp [hn]
    rw [this]
end
end Go.Ab
