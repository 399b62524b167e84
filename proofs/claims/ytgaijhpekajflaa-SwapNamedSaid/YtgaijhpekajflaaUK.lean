/- Closed walks of debts: plain. -/
import Derived.Test.YtgaijhpekajflaaUW
set_option linter.unusedVariables false
set_option linter.unusedSimpArgs false
set_option maxHeartbeats 4000000
set_option maxRecDepth 100000
namespace Go.Ab
open Go Go.Proofs

/-- Is there a debt from one mill to another one. -/
def owB (D : List Db) (a b : Nat) : Bool := D.any fun d => decide (d.1 = (a : Int)) && decide (d.2.1 = (b : Int))
theorem owB_iff {D : List Db} {a b : Nat} : owB D a b = true ↔ ∃ d ∈ D, d.1 = (a : Int) ∧ d.2.1 = (b : Int) := by simp [owB]
/-- The mills that some of a set owe. -/
def stepB (D : List Db) (s : Nat) : Nat := D.foldl (fun x d => if s.testBit d.1.toNat then x ||| 2 ^ d.2.1.toNat else x) 0
theorem stepB_snoc {D : List Db} {d : Db} {s : Nat} : stepB (D ++ [d]) s = if s.testBit d.1.toNat then stepB D s ||| 2 ^ d.2.1.toNat else stepB D s := by simp [stepB]
theorem stepB_bit {n M : Int} {D : List Db} {s v : Nat} : DbOK n M D → ((stepB D s).testBit v = true ↔ ∃ u, s.testBit u = true ∧ owB D u v = true) := by
  refine snoc_ind (P := fun D => DbOK n M D → ((stepB D s).testBit v = true ↔ ∃ u, s.testBit u = true ∧ owB D u v = true)) ?_ ?_ D
  · intro _
    simp [stepB, owB]
  · intro D d ih hD
    have hd := hD d (by simp)
    have ih := ih (fun x hx => hD x (List.mem_append_left _ hx))
    have how : ∀ u, owB (D ++ [d]) u v = true ↔ owB D u v = true ∨ (d.1.toNat = u ∧ d.2.1.toNat = v) := fun u => by
      rw [owB_iff, owB_iff]
      constructor
      · rintro ⟨e, he, h1, h2⟩
        rcases List.mem_append.1 he with he | he
        · exact .inl ⟨e, he, h1, h2⟩
        · simp at he; subst he
          exact .inr ⟨by omega, by omega⟩
      · rintro (⟨e, he, h1, h2⟩ | ⟨h1, h2⟩)
        · exact ⟨e, List.mem_append_left _ he, h1, h2⟩
        · exact ⟨d, by simp, by omega, by omega⟩
    rw [stepB_snoc]
    cases hb : s.testBit d.1.toNat with
    | true =>
      rw [if_pos rfl, Nat.testBit_or, Bool.or_eq_true, ih, Nat.testBit_two_pow]
      constructor
      · rintro (⟨u, h1, h2⟩ | h)
        · exact ⟨u, h1, (how u).2 (.inl h2)⟩
        · simp at h
          exact ⟨_, hb, (how _).2 (.inr ⟨rfl, h⟩)⟩
      · rintro ⟨u, h1, h2⟩
        rcases (how u).1 h2 with h | ⟨h3, h4⟩
        · exact .inl ⟨u, h1, h⟩
        · exact .inr (by simp [h4])
    | false =>
      rw [if_neg (by simp), ih]
      constructor
      · rintro ⟨u, h1, h2⟩
        exact ⟨u, h1, (how u).2 (.inl h2)⟩
      · rintro ⟨u, h1, h2⟩
        rcases (how u).1 h2 with h | ⟨h3, h4⟩
        · exact ⟨u, h1, h⟩
        · rw [← h3, hb] at h1; cases h1
/-- The mills after so many debts from one. -/
def atB (D : List Db) (f : Nat) : Nat → Nat
  | 0 => 2 ^ f
  | n + 1 => stepB D (atB D f n)
/-- A walk of so many debts. -/
inductive Wk (ed : Nat → Nat → Bool) : Nat → Nat → Nat → Prop
  | nil {a} : Wk ed 0 a a
  | snoc {n a u v} : Wk ed n a u → ed u v = true → Wk ed (n + 1) a v
theorem atB_bit {n M : Int} {D : List Db} (hD : DbOK n M D) {f : Nat} : ∀ {k v : Nat}, (atB D f k).testBit v = true ↔ Wk (owB D) k f v
  | 0, v => by
    simp only [atB]
    rw [Nat.testBit_two_pow]
    constructor
    · intro h; simp at h; subst h; exact .nil
    · intro h; cases h; simp
  | k + 1, v => by
    simp only [atB]
    rw [stepB_bit hD]
    constructor
    · rintro ⟨u, h1, h2⟩
      exact .snoc ((atB_bit hD).1 h1) h2
    · intro h
      cases h with
      | snoc h1 h2 => exact ⟨_, (atB_bit hD).2 h1, h2⟩
/-- The number of mills of a circle with the fewest ones; none: 0. -/
structure IsShort (ed : Nat → Nat → Bool) (N : Nat) (b : Nat) : Prop where
  le : b ≤ N
  at_ : b ≠ 0 → ∃ f, f < N ∧ Wk ed b f f
  least : ∀ f n, f < N → 1 ≤ n → n ≤ N → Wk ed n f f → b ≠ 0 ∧ b ≤ n
theorem IsShort.uniq {ed N b b'} (h : IsShort ed N b) (h' : IsShort ed N b') : b = b' := by
  by_cases h0 : b = 0
  · by_cases h1 : b' = 0
    · omega
    · obtain ⟨f, hf, hw⟩ := h'.at_ h1
      exact absurd h0 (h.least f b' hf (by omega) h'.le hw).1
  · obtain ⟨f, hf, hw⟩ := h.at_ h0
    obtain ⟨h1, h2⟩ := h'.least f b hf (by omega) h.le hw
    obtain ⟨f', hf', hw'⟩ := h'.at_ h1
    have := (h.least f' b' hf' (by omega) h'.le hw').2
    omega
end Go.Ab
