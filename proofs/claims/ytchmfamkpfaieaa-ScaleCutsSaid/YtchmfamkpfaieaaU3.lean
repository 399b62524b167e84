/- Yards: what newYard keeps of a stem and a rule (plain lists), and the map's entries. -/
import Derived.Test.YtchmfamkpfaieaaU2
set_option linter.unusedVariables false
set_option linter.unusedSimpArgs false
set_option maxHeartbeats 4000000
namespace Go.Ab
open Go Go.Proofs

abbrev Kn := List ((Int × Int) × Int)

/-- What a log scales, but for its foot, its thinness. -/
def scaleN (t : List Int) (r : Ru) (to lo : Int) : Int := max 0 (t.getD to.toNat 0 - r.off) * max 0 (t.getD to.toNat 0 - r.off) * lo / r.div
def ent1 (t : List Int) (r : Ru) (fr lo : Int) : Kn := if fr + lo + r.trim ≤ (t.length : Int) - 1 ∧ lo % r.step = 0 then [((fr, fr + lo + r.trim), scaleN t r (fr + lo + r.trim) lo)] else []
def rowK (t : List Int) (r : Ru) (fr : Int) (k : Nat) : Kn := (List.range k).flatMap fun (j : Nat) => ent1 t r fr (r.least + j)
def cntK (r : Ru) : Nat := (r.most + 1 - r.least).toNat
def allK (t : List Int) (r : Ru) (k : Nat) : Kn := (List.range k).flatMap fun (i : Nat) => rowK t r i (cntK r)
def badK (t b : List Int) (r : Ru) (e : (Int × Int) × Int) : Bool := decide (e.2 = 0) || decide (t.getD e.1.2.toNat 0 < r.thin) || hasBad b e.1.1 e.1.2
def knownK (t b : List Int) (r : Ru) : Kn := (allK t r (t.length - 1)).filter fun e => !badK t b r e

theorem rowK_succ {t r fr j} : rowK t r fr (j + 1) = rowK t r fr j ++ ent1 t r fr (r.least + j) := by simp [rowK, List.range_succ]
theorem allK_succ {t r i} : allK t r (i + 1) = allK t r i ++ rowK t r i (cntK r) := by simp [allK, List.range_succ]

theorem ent1_mem {t r fr lo e} (h : e ∈ ent1 t r fr lo) : e = ((fr, fr + lo + r.trim), scaleN t r (fr + lo + r.trim) lo) ∧ fr + lo + r.trim ≤ (t.length : Int) - 1 ∧ lo % r.step = 0 := by
  unfold ent1 at h
  split at h
  · rename_i hc
    simp at h
    exact ⟨h, hc⟩
  · cases h
theorem rowK_mem {t r fr k e} (h : e ∈ rowK t r fr k) : ∃ j : Nat, j < k ∧ e ∈ ent1 t r fr (r.least + j) := by
  simp only [rowK, List.mem_flatMap, List.mem_range] at h
  exact h
theorem allK_mem {t r k e} (h : e ∈ allK t r k) : ∃ i : Nat, i < k ∧ e ∈ rowK t r i (cntK r) := by
  simp only [allK, List.mem_flatMap, List.mem_range] at h
  exact h
theorem allK_lt {t r k e} (h : e ∈ allK t r k) : 0 ≤ e.1.1 ∧ e.1.1 < k := by
  obtain ⟨i, hi, h⟩ := allK_mem h
  obtain ⟨j, hj, h⟩ := rowK_mem h
  obtain ⟨rfl, -⟩ := ent1_mem h
  simp only
  omega
theorem rowK_lt {t r fr k e} (h : e ∈ rowK t r fr k) : e.1.1 = fr ∧ e.1.2 < fr + (r.least + k) + r.trim := by
  obtain ⟨j, hj, h⟩ := rowK_mem h
  obtain ⟨rfl, -⟩ := ent1_mem h
  exact ⟨rfl, by show fr + (r.least + (j : Int)) + r.trim < _; omega⟩

theorem rowK_nodup {t r fr} : ∀ {k : Nat}, ((rowK t r fr k).map (·.1)).Nodup
  | 0 => by simp [rowK]
  | k + 1 => by
    rw [rowK_succ, List.map_append, List.nodup_append]
    refine ⟨rowK_nodup, ?_, ?_⟩
    · unfold ent1; split <;> simp
    · intro a ha c hc
      obtain ⟨e, he, rfl⟩ := List.mem_map.1 ha
      obtain ⟨e', he', rfl⟩ := List.mem_map.1 hc
      have h1 := (rowK_lt he).2
      obtain ⟨rfl, -⟩ := ent1_mem he'
      intro hE
      rw [hE] at h1
      simp only at h1
      omega
theorem allK_nodup {t r} : ∀ {k : Nat}, ((allK t r k).map (·.1)).Nodup
  | 0 => by simp [allK]
  | k + 1 => by
    rw [allK_succ, List.map_append, List.nodup_append]
    refine ⟨allK_nodup, rowK_nodup, ?_⟩
    intro a ha c hc
    obtain ⟨e, he, rfl⟩ := List.mem_map.1 ha
    obtain ⟨e', he', rfl⟩ := List.mem_map.1 hc
    have h1 := (allK_lt he).2
    have h2 := (rowK_lt he').1
    intro hE
    rw [hE, h2] at h1
    omega

/-! ### Entries of a map -/
abbrev TE := List (Nat × ((Int × Int) × Int))
def tE : Nat → Kn → TE
  | _, [] => []
  | k, e :: r => (k, e) :: tE (k + 1) r
def encE (p : Nat × ((Int × Int) × Int)) : Nat × V × V := (p.1, spotV p.2.1, .i .i64 p.2.2)

theorem tE_append {a b : Kn} : ∀ {k : Nat}, tE k (a ++ b) = tE k a ++ tE (k + a.length) b := by
  induction a with
  | nil => intro k; simp [tE]
  | cons e r ih => intro k; simp only [List.cons_append, tE, ih, List.length_cons]; congr 3; omega
@[simp] theorem tE_length {a : Kn} : ∀ {k : Nat}, (tE k a).length = a.length := by
  induction a with
  | nil => intro k; rfl
  | cons e r ih => intro k; simp [tE, ih]
theorem tE_lt {a : Kn} : ∀ {k : Nat} {p}, p ∈ tE k a → k ≤ p.1 ∧ p.1 < k + a.length ∧ p.2 ∈ a := by
  induction a with
  | nil => intro k p h; simp [tE] at h
  | cons e r ih =>
    intro k p h
    simp only [tE, List.mem_cons] at h
    rcases h with rfl | h
    · simp
    · obtain ⟨h1, h2, h3⟩ := ih h
      simp only [List.length_cons, List.mem_cons]
      exact ⟨by omega, by omega, .inr h3⟩
theorem tE_born {a : Kn} : ∀ {k : Nat}, ((tE k a).map (·.1)).Nodup := by
  induction a with
  | nil => intro k; simp [tE]
  | cons e r ih =>
    intro k
    simp only [tE, List.map_cons, List.nodup_cons]
    refine ⟨fun h => ?_, ih⟩
    obtain ⟨p, hp, hE⟩ := List.mem_map.1 h
    have := (tE_lt hp).1
    omega
theorem tE_snd {a : Kn} : ∀ {k : Nat}, (tE k a).map (·.2) = a := by
  induction a with
  | nil => intro k; rfl
  | cons e r ih => intro k; simp [tE, ih]

theorem keysOK_ents {l : TE} : keysOK .i64 2 ((l.map encE).map (·.2)) := by
  intro e he
  simp only [List.map_map, List.mem_map] at he
  obtain ⟨p, -, rfl⟩ := he
  exact ⟨_, key_spot⟩

theorem idxM_ents {l : TE} {k : Int × Int} : idxM .i64 2 [k.1, k.2] ((l.map encE).map (·.2)) = l.findIdx? (fun p => p.2.1 == k) := by
  induction l with
  | nil => rfl
  | cons p l ih =>
    have e : (encE p :: l.map encE).map (·.2) = (spotV p.2.1, V.i .i64 p.2.2) :: (l.map encE).map (·.2) := rfl
    rw [List.map_cons, e]
    simp only [idxM, key_spot, ih, List.findIdx?_cons]
    by_cases h : p.2.1 = k
    · subst h; simp
    · have h' : ¬ ([p.2.1.1, p.2.1.2] = [k.1, k.2]) := by
        intro hE; simp at hE; exact h (Prod.ext hE.1 hE.2)
      have h'' : (p.2.1 == k) = false := by simpa using h
      simp only [Option.some.injEq, h', if_false, h'']
      rfl

theorem erase_of {α : Type} {l : List α} {p : α → Bool} {i : Nat} (h : l.findIdx? p = some i) : l.eraseIdx i = l.eraseP p := by
  rw [List.eraseP_eq_eraseIdx, h]
theorem eraseP_unique {α β : Type} [DecidableEq β] {f : α → β} {l : List α} {k : β} (hn : (l.map f).Nodup) : l.eraseP (fun p => decide (f p = k)) = l.filter (fun p => !decide (f p = k)) := by
  induction l with
  | nil => rfl
  | cons a l ih =>
    simp only [List.map_cons, List.nodup_cons] at hn
    simp only [List.eraseP_cons, List.filter_cons]
    by_cases h : f a = k
    · simp only [h, decide_true, cond_true, Bool.not_true]
      have : l.filter (fun p => !decide (f p = k)) = l := by
        rw [List.filter_eq_self]
        intro x hx
        simp only [Bool.not_eq_true', decide_eq_false_iff_not]
        intro hE
        exact hn.1 (by rw [h, ← hE]; exact List.mem_map_of_mem hx)
      simp [this]
    · simp only [h, decide_false, cond_false, Bool.not_false, if_true]
      rw [ih hn.2]

theorem find_born {l : TE} (hn : (l.map (·.1)).Nodup) {p} (hp : p ∈ l) : (l.map encE).find? (fun e => e.1 == p.1) = some (encE p) := by
  induction l with
  | nil => cases hp
  | cons a l ih =>
    simp only [List.map_cons, List.nodup_cons] at hn
    rw [List.map_cons, List.find?_cons]
    rcases List.mem_cons.1 hp with rfl | hp
    · have : ((encE p).1 == p.1) = true := by simp [encE]
      rw [this]
    · have : ((encE a).1 == p.1) = false := by
        simp only [encE, beq_eq_false_iff_ne]
        intro hE
        exact hn.1 (by rw [hE]; exact List.mem_map_of_mem hp)
      rw [this]
      exact ih hn.2 hp
end Go.Ab
