/- The abstract layer, part 18: a region that draws its order comes to what the text's order comes to (the orders). -/
import Derived.Test.YtchmfamkpfaieaaAbH
set_option linter.unusedVariables false
set_option linter.unusedSimpArgs false
namespace Go.Ab
open Go

/-! ### Sets of operations that have been taken -/
section
variable (ss : List IS) (ev : Nat → Env) (hv : Nat → List O) (vv : Nat → V)

def dstAt (i : Nat) : Option Nat := (ss[i]?).bind IS.dst
def loudAt (i : Nat) : Bool := ((ss[i]?).map IS.loud).getD false

def envT (S : Nat → Bool) : Nat → Env
  | 0 => ev 0
  | i + 1 => if S i then put (envT S i) (dstAt ss i) (vv i) else envT S i
def hT (S : Nat → Bool) : Nat → List O
  | 0 => hv 0
  | i + 1 => if S i && loudAt ss i then hv (i + 1) else hT S i
end

section
variable {ss : List IS} {ev : Nat → Env} {hv : Nat → List O} {vv : Nat → V} {S S' : Nat → Bool}

/-- Who wrote last. -/
theorem envT_above {t i : Nat} : ∀ {n : Nat}, i ≤ n → (∀ j, i ≤ j → j < n → S j = true → dstAt ss j ≠ some t) → get (envT ss ev vv S n) t = get (envT ss ev vv S i) t := by
  intro n
  induction n with
  | zero => intro h _; have : i = 0 := by omega
            subst this; rfl
  | succ n ih =>
    intro h hw
    by_cases hi : i = n + 1
    · subst hi; rfl
    · have := ih (by omega) (fun j h1 h2 => hw j h1 (by omega))
      simp only [envT]
      split
      · rename_i hs
        have hne := hw n (by omega) (by omega) hs
        cases hd : dstAt ss n with
        | none => exact this
        | some d =>
          rw [get_put, if_neg (by intro hE; subst hE; exact hne hd)]
          exact this
      · exact this

theorem envT_below {t : Nat} : ∀ {i : Nat}, (∀ j, j < i → dstAt ss j = some t → S j = S' j) → get (envT ss ev vv S i) t = get (envT ss ev vv S' i) t := by
  intro i
  induction i with
  | zero => intro _; rfl
  | succ i ih =>
    intro hw
    have := ih (fun j h1 h2 => hw j (by omega) h2)
    simp only [envT]
    cases hd : dstAt ss i with
    | none => split <;> split <;> exact this
    | some d =>
      by_cases hdt : d = t
      · subst hdt
        rw [hw i (by omega) hd]
        split
        · rw [get_put, get_put]; simp
        · exact this
      · split <;> split <;> (try rw [get_put, if_neg hdt]) <;> (try rw [get_put, if_neg hdt]) <;> exact this

theorem hT_above {i : Nat} : ∀ {n : Nat}, i ≤ n → (∀ j, i ≤ j → j < n → S j = true → loudAt ss j = false) → hT ss hv S n = hT ss hv S i := by
  intro n
  induction n with
  | zero => intro h _; have : i = 0 := by omega
            subst this; rfl
  | succ n ih =>
    intro h hw
    by_cases hi : i = n + 1
    · subst hi; rfl
    · have := ih (by omega) (fun j h1 h2 => hw j h1 (by omega))
      simp only [hT]
      split
      · rename_i hs
        simp only [Bool.and_eq_true] at hs
        rw [hw n (by omega) (by omega) hs.1] at hs
        cases hs.2
      · exact this

theorem hT_below : ∀ {i : Nat}, (∀ j, j < i → loudAt ss j = true → S j = S' j) → hT ss hv S i = hT ss hv S' i := by
  intro i
  induction i with
  | zero => intro _; rfl
  | succ i ih =>
    intro hw
    have := ih (fun j h1 h2 => hw j (by omega) h2)
    simp only [hT]
    cases hl : loudAt ss i with
    | false => simpa using this
    | true => rw [hw i (by omega) hl]; split <;> first | rfl | exact this

/-- Either no loud one from i on is in, or the last one that is. -/
theorem hT_last {i : Nat} : ∀ {n : Nat}, i ≤ n → hT ss hv S n = hT ss hv S i ∨ ∃ j, i ≤ j ∧ j < n ∧ S j = true ∧ loudAt ss j = true ∧ hT ss hv S n = hv (j + 1) := by
  intro n
  induction n with
  | zero => intro h; have : i = 0 := by omega
            subst this; exact .inl rfl
  | succ n ih =>
    intro h
    by_cases hi : i = n + 1
    · subst hi; exact .inl rfl
    · simp only [hT]
      split
      · rename_i hs
        simp only [Bool.and_eq_true] at hs
        exact .inr ⟨n, by omega, by omega, hs.1, hs.2, rfl⟩
      · rcases ih (by omega) with h1 | ⟨j, h1, h2, h3, h4, h5⟩
        · exact .inl h1
        · exact .inr ⟨j, h1, by omega, h3, h4, h5⟩
end

/-! ### Before -/
theorem bit_fold {acc : List Nat} {j : Nat} : ∀ {es : List Nat} {m : Nat}, bit (es.foldl (fun m e => m ||| (1 <<< e) ||| acc.getD e 0) m) j = true → bit m j = true ∨ ∃ e ∈ es, e = j ∨ bit (acc.getD e 0) j = true
  | [], m, h => .inl h
  | e :: es, m, h => by
    rcases bit_fold (es := es) h with h | ⟨e', he, h⟩
    · simp only [bit, Nat.testBit_or, Bool.or_eq_true] at h
      rcases h with (h | h) | h
      · exact .inl h
      · refine .inr ⟨e, List.mem_cons_self .., .inl ?_⟩
        rw [Nat.one_shiftLeft, Nat.testBit_two_pow] at h
        simpa using h
      · exact .inr ⟨e, List.mem_cons_self .., .inr h⟩
    · exact .inr ⟨e', List.mem_cons_of_mem _ he, h⟩

theorem befores_spec : ∀ {es : List (List Nat)} {acc : List Nat}, (befores es acc).length = acc.length + es.length ∧ (∀ i, i < acc.length → (befores es acc).getD i 0 = acc.getD i 0) ∧
    ∀ i l j, es[i]? = some l → bit ((befores es acc).getD (acc.length + i) 0) j = true → ∃ e ∈ l, e = j ∨ (e < acc.length + i ∧ bit ((befores es acc).getD e 0) j = true)
  | [], acc => ⟨by simp [befores], fun i _ => rfl, fun i l j h => by simp at h⟩
  | l :: es, acc => by
    obtain ⟨h1, h2, h3⟩ := befores_spec (es := es) (acc := acc ++ [l.foldl (fun m e => m ||| (1 <<< e) ||| acc.getD e 0) 0])
    simp only [befores]
    refine ⟨by rw [h1]; simp; omega, fun i hi => ?_, fun i l' j hi hb => ?_⟩
    · rw [h2 i (by simp; omega)]
      simp [List.getD, List.getElem?_append_left hi]
    · cases i with
      | zero =>
        simp only [List.getElem?_cons_zero, Option.some.injEq] at hi
        subst hi
        rw [Nat.add_zero, h2 acc.length (by simp)] at hb
        have : (acc ++ [l.foldl (fun m e => m ||| (1 <<< e) ||| acc.getD e 0) 0]).getD acc.length 0 = l.foldl (fun m e => m ||| (1 <<< e) ||| acc.getD e 0) 0 := by
          simp [List.getD]
        rw [this] at hb
        rcases bit_fold hb with h | ⟨e, he, h | h⟩
        · simp [bit] at h
        · exact ⟨e, he, .inl h⟩
        · refine ⟨e, he, .inr ?_⟩
          have hlt : e < acc.length := by
            by_cases hlt : e < acc.length
            · exact hlt
            · rw [List.getD, List.getElem?_eq_none (by omega)] at h
              simp [bit] at h
          refine ⟨by omega, ?_⟩
          rw [h2 e (by simp; omega)]
          simpa [List.getD, List.getElem?_append_left hlt] using h
      | succ i =>
        have := h3 i l' j (by simpa using hi) (by
          rw [List.length_append, List.length_singleton, show acc.length + 1 + i = acc.length + (i + 1) by omega]; exact hb)
        obtain ⟨e, he, h⟩ := this
        refine ⟨e, he, h.imp id fun ⟨a, b⟩ => ⟨by simp at a; omega, b⟩⟩

/-- What must come before one that is in, is in. -/
theorem before_in {es : List (List Nat)} {S : Nat → Bool} (hback : ∀ (i : Nat) (l : List Nat), es[i]? = some l → ∀ e ∈ l, e < i) (hclosed : ∀ (i : Nat) (l : List Nat), S i = true → es[i]? = some l → ∀ e ∈ l, S e = true) :
    ∀ (i : Nat) (l : List Nat) (j : Nat), es[i]? = some l → (∀ e ∈ l, S e = true) → bit ((befores es []).getD i 0) j = true → S j = true ∧ j < i := by
  intro i
  induction i using Nat.strongRecOn with
  | _ i ih =>
    intro l j hi hl hb
    obtain ⟨-, -, h3⟩ := befores_spec (es := es) (acc := [])
    obtain ⟨e, he, h⟩ := h3 i l j hi (by simpa using hb)
    have hlt := hback i l hi e he
    rcases h with rfl | ⟨_, h⟩
    · exact ⟨hl e he, hlt⟩
    · have hel : e < es.length := by have := (List.getElem?_eq_some_iff.1 hi).1; omega
      obtain ⟨a, b⟩ := ih e hlt _ j (List.getElem?_eq_getElem hel) (hclosed e _ (hl e he) (List.getElem?_eq_getElem hel)) h
      exact ⟨a, by omega⟩

/-- One that is not in comes not before one that is. -/
theorem not_before {es : List (List Nat)} {S : Nat → Bool} (hback : ∀ (i : Nat) (l : List Nat), es[i]? = some l → ∀ e ∈ l, e < i) (hclosed : ∀ (i : Nat) (l : List Nat), S i = true → es[i]? = some l → ∀ e ∈ l, S e = true)
    {i j : Nat} {l : List Nat} (hj : es[j]? = some l) (hin : S j = true) (hi : S i = false) : bit ((befores es []).getD j 0) i = false := by
  cases hb : bit ((befores es []).getD j 0) i with
  | false => rfl
  | true =>
    have := (before_in hback hclosed j l i hj (hclosed j l hin hj) hb).1
    rw [hi] at this; cases this

theorem countP_lt {p q : Nat → Bool} {i : Nat} (hpq : ∀ j, p j = true → q j = true) (hp : p i = false) (hq : q i = true) : ∀ {l : List Nat}, i ∈ l → l.countP p < l.countP q := by
  have le : ∀ l : List Nat, l.countP p ≤ l.countP q := fun l => List.countP_mono_left (fun j _ => hpq j)
  intro l
  induction l with
  | nil => intro h; cases h
  | cons j r ih =>
    intro h
    rcases List.mem_cons.1 h with rfl | h
    · rw [List.countP_cons_of_neg (by rw [hp]; simp), List.countP_cons_of_pos hq]
      have := le r
      omega
    · have := ih h
      rw [List.countP_cons, List.countP_cons]
      by_cases hpj : p j = true
      · simp [hpj, hpq j hpj]; omega
      · simp [hpj]; split <;> omega

end Go.Ab
