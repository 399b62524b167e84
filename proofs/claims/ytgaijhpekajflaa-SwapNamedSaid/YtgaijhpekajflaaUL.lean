/- The search of circles: plain. -/
import Derived.Test.YtgaijhpekajflaaUK
set_option linter.unusedVariables false
set_option linter.unusedSimpArgs false
set_option maxHeartbeats 4000000
set_option maxRecDepth 100000
namespace Go.Ab
open Go Go.Proofs

section
variable (ed : Nat → Nat → Bool) (N first : Nat)
/-- The mills from one on are looked at: who was found, who waits. -/
def scanTo (u : Nat) : Nat → List Int → List Nat → Option (List Int) × List Int × List Nat
  | 0, b, w => (none, b, w)
  | k + 1, b, w =>
    if ed u (N - (k + 1)) = true ∧ b.getD (N - (k + 1)) 0 < 0 then
      if N - (k + 1) = first then (some (b.set (N - (k + 1)) u), b, w)
      else scanTo u k (b.set (N - (k + 1)) u) (w ++ [N - (k + 1)])
    else scanTo u k b w
def bfs : Nat → List Int → List Nat → Option (List Int)
  | 0, _, _ => none
  | _ + 1, _, [] => none
  | f + 1, b, u :: w => match scanTo ed N first u N b w with
    | (some b', _, _) => some b'
    | (none, b', w') => bfs f b' w'
def back (b : List Int) : Nat → Nat → List Nat
  | 0, _ => []
  | k + 1, a => if a = first then [] else a :: back b k (b.getD a 0).toNat
def circOf (b : List Int) : List Nat := first :: (back first b N (b.getD first 0).toNat).reverse
def circStep (out : List Nat) (f : Nat) : List Nat :=
  match bfs ed N f N (List.replicate N (-1)) [f] with
  | none => out
  | some b => if out = [] ∨ (circOf N f b).length < out.length then circOf N f b else out
def circF : List Nat := (List.range N).foldl (circStep ed N) []
end

structure CircOK (ed : Nat → Nat → Bool) (N : Nat) (c : List Nat) : Prop where
  nd : c.Nodup
  lt : ∀ x ∈ c, x < N
  cl : ∀ i a b : Nat, c[i]? = some a → c[(i + 1) % c.length]? = some b → ed a b = true
structure CircSpec (ed : Nat → Nat → Bool) (N : Nat) (c : List Nat) : Prop where
  ok : CircOK ed N c
  least : ∀ f n, f < N → 1 ≤ n → Wk ed n f f → c ≠ [] ∧ c.length ≤ n

theorem nodup_leN {N : Nat} {l : List Nat} (h : l.Nodup) (hl : ∀ x ∈ l, x < N) : l.length ≤ N := by
  have := nodup_le (n := N) (l := l.map fun x : Nat => (x : Int)) (List.pairwise_map.2 (h.imp fun {a b} hab h => hab (by omega))) (fun x hx => by
    obtain ⟨y, hy, rfl⟩ := List.mem_map.1 hx
    have := hl y hy
    omega)
  simpa using this
def fndB (b : List Int) (first v : Nat) : Prop := v = first ∨ ∃ u : Nat, b[v]? = some (u : Int)
structure Bf (ed : Nat → Nat → Bool) (N first : Nat) (b : List Int) (w : List Nat) (dep : Nat → Nat) (dn : List Nat) : Prop where
  len : b.length = N
  fst : first < N
  b0 : b[first]? = some (-1)
  val : ∀ (v : Nat) (x : Int), b[v]? = some x → x = -1 ∨ ∃ u : Nat, x = u ∧ fndB b first u ∧ ed u v = true ∧ dep v = dep u + 1
  d0 : dep first = 0
  fq : ∀ v, fndB b first v → v ∈ dn ++ w
  qf : ∀ v ∈ dn ++ w, fndB b first v
  nod : (dn ++ w).Nodup
  mono : ∀ x ∈ dn, ∀ y ∈ w, dep x ≤ dep y
  srt : w.Pairwise (fun x y => dep x ≤ dep y)
  span : ∀ x ∈ w, ∀ y ∈ w, dep y ≤ dep x + 1
  nb : ∀ x ∈ dn, ∀ v, ed x v = true → fndB b first v ∧ v ≠ first ∧ dep v ≤ dep x + 1
  dh : ∀ v r, w = v :: r → dep v ≤ dn.length

section
variable {ed : Nat → Nat → Bool} {N first : Nat} {b : List Int} {w : List Nat} {dep : Nat → Nat} {dn : List Nat} {u : Nat}
theorem fnd_lt (hl : b.length = N) (hf : first < N) {v : Nat} (h : fndB b first v) : v < N := by
  rcases h with rfl | ⟨u, hu⟩
  · exact hf
  · have := (List.getElem?_eq_some_iff.1 hu).1; omega
theorem Bf.start (hf : first < N) : Bf ed N first (List.replicate N (-1)) [first] (fun _ => 0) [] := by
  have hg : ∀ {v : Nat} {x : Int}, (List.replicate N (-1 : Int))[v]? = some x → x = -1 := fun {v x} h => by
    rw [List.getElem?_replicate] at h
    split at h
    · exact (Option.some.inj h).symm
    · cases h
  have hfn : ∀ v, fndB (List.replicate N (-1)) first v ↔ v = first := fun v => by
    constructor
    · rintro (h | ⟨u, hu⟩)
      · exact h
      · have := hg hu; omega
    · exact .inl
  refine ⟨by simp, hf, by rw [List.getElem?_replicate, if_pos hf], fun v x h => .inl (hg h), rfl, fun v h => by simp [(hfn v).1 h], fun v h => by simp at h; exact .inl h, by simp, by simp, by simp, by simp, by simp, ?_⟩
  intro v r h; simp
theorem Bf.push (hB : Bf ed N first b (u :: w) dep dn) {v : Nat} (hv : v < N) (he : ed u v = true) (hb : b.getD v 0 < 0) (hvf : v ≠ first) :
    Bf ed N first (b.set v u) (u :: (w ++ [v])) (fun x => if x = v then dep u + 1 else dep x) dn := by
  have hvb : v < b.length := by rw [hB.len]; exact hv
  have hbv : b[v]? = some (-1) := by
    obtain ⟨x, hx⟩ : ∃ x, b[v]? = some x := ⟨_, List.getElem?_eq_getElem hvb⟩
    rw [List.getD_eq_getElem?_getD, hx] at hb
    rcases hB.val v x hx with rfl | ⟨u', rfl, -⟩
    · exact hx
    · simp at hb; omega
  have hnf : ¬ fndB b first v := by
    rintro (h | ⟨u', h⟩)
    · exact hvf h
    · rw [hbv] at h; have := Option.some.inj h; omega
  have huf : fndB b first u := hB.qf u (by simp)
  have huv : u ≠ v := fun h => hnf (h ▸ huf)
  have hset : ∀ x, (b.set v u)[x]? = if x = v then some (u : Int) else b[x]? := fun x => by
    by_cases hx : x = v
    · subst hx; rw [if_pos rfl, List.getElem?_set_self hvb]
    · rw [if_neg hx, List.getElem?_set_ne (Ne.symm hx)]
  have hfn : ∀ x, fndB (b.set v u) first x ↔ fndB b first x ∨ x = v := fun x => by
    unfold fndB
    rw [hset]
    by_cases hx : x = v
    · subst hx
      rw [if_pos rfl]
      exact ⟨fun _ => .inr rfl, fun _ => .inr ⟨u, rfl⟩⟩
    · simp [hx]
  have hq : ∀ x ∈ dn ++ u :: w, x ≠ v := fun x hx h => hnf (h ▸ hB.qf x hx)
  have hdep : ∀ x, fndB b first x → (if x = v then dep u + 1 else dep x) = dep x := fun x hx => if_neg (fun h => hnf (by rw [← h]; exact hx))
  have hdq : ∀ x ∈ dn ++ u :: w, (if x = v then dep u + 1 else dep x) = dep x := fun x hx => if_neg (hq x hx)
  have hh : ∀ x ∈ u :: w, dep u ≤ dep x := fun x hx => by
    rcases List.mem_cons.1 hx with rfl | hx
    · exact Nat.le_refl _
    · exact (List.pairwise_cons.1 hB.srt).1 x hx
  have hs : ∀ x ∈ u :: w, dep x ≤ dep u + 1 := fun x hx => hB.span u (by simp) x hx
  have hmem : ∀ x, x ∈ u :: (w ++ [v]) ↔ x ∈ u :: w ∨ x = v := fun x => by simp [or_assoc]
  refine ⟨by simpa using hB.len, hB.fst, ?_, ?_, ?_, ?_, ?_, ?_, ?_, ?_, ?_, ?_, ?_⟩
  · rw [hset, if_neg (Ne.symm hvf)]; exact hB.b0
  · intro x y hy
    rw [hset] at hy
    by_cases hx : x = v
    · subst hx
      rw [if_pos rfl] at hy
      refine .inr ⟨u, (Option.some.inj hy).symm, (hfn u).2 (.inl huf), he, ?_⟩
      rw [if_pos rfl, if_neg huv]
    · rw [if_neg hx] at hy
      rcases hB.val x y hy with h | ⟨u', rfl, h1, h2, h3⟩
      · exact .inl h
      · refine .inr ⟨u', rfl, (hfn u').2 (.inl h1), h2, ?_⟩
        rw [if_neg hx, hdep u' h1]; exact h3
  · rw [if_neg (Ne.symm hvf)]; exact hB.d0
  · intro x hx
    rcases (hfn x).1 hx with h | h
    · have := hB.fq x h
      simp at this ⊢
      rcases this with h | h | h
      · exact .inl h
      · exact .inr (.inl h)
      · exact .inr (.inr (.inl h))
    · simp [h]
  · intro x hx
    rw [hfn]
    rcases List.mem_append.1 hx with h | h
    · exact .inl (hB.qf x (List.mem_append_left _ h))
    · rcases (hmem x).1 h with h | h
      · exact .inl (hB.qf x (List.mem_append_right _ h))
      · exact .inr h
  · have e : dn ++ u :: (w ++ [v]) = (dn ++ u :: w) ++ [v] := by simp
    rw [e, List.nodup_append]
    refine ⟨hB.nod, by simp, ?_⟩
    intro a ha c hc h
    simp at hc
    exact hq a ha (h.trans hc)
  · intro x hx y hy
    rw [hdq x (List.mem_append_left _ hx)]
    rcases (hmem y).1 hy with h | h
    · rw [hdq y (List.mem_append_right _ h)]; exact hB.mono x hx y h
    · rw [if_pos h]
      have := hB.mono x hx u (by simp)
      omega
  · have e : u :: (w ++ [v]) = (u :: w) ++ [v] := by simp
    rw [e, List.pairwise_append]
    refine ⟨?_, by simp, ?_⟩
    · exact List.Pairwise.imp_of_mem (fun {x y} hx hy h => by
        rw [hdq x (List.mem_append_right _ hx), hdq y (List.mem_append_right _ hy)]; exact h) hB.srt
    · intro x hx y hy
      simp at hy
      rw [hdq x (List.mem_append_right _ hx), if_pos hy]
      exact hs x hx
  · intro x hx y hy
    rcases (hmem x).1 hx with h | h <;> rcases (hmem y).1 hy with h' | h'
    · rw [hdq x (List.mem_append_right _ h), hdq y (List.mem_append_right _ h')]; exact hB.span x h y h'
    · rw [hdq x (List.mem_append_right _ h), if_pos h']; have := hh x h; omega
    · rw [if_pos h, hdq y (List.mem_append_right _ h')]; have := hs y h'; omega
    · rw [if_pos h, if_pos h']; omega
  · intro x hx y hy
    obtain ⟨h1, h2, h3⟩ := hB.nb x hx y hy
    refine ⟨(hfn y).2 (.inl h1), h2, ?_⟩
    rw [hdep y h1, hdq x (List.mem_append_left _ hx)]; exact h3
  · intro x r h
    cases h
    rw [if_neg huv]
    exact hB.dh u w rfl
theorem Bf.pop (hB : Bf ed N first b (u :: w) dep dn) (hn : ∀ v, ed u v = true → fndB b first v ∧ v ≠ first ∧ dep v ≤ dep u + 1) : Bf ed N first b w dep (dn ++ [u]) := by
  have e : dn ++ [u] ++ w = dn ++ u :: w := by simp
  obtain ⟨hs1, hs2⟩ := List.pairwise_cons.1 hB.srt
  refine ⟨hB.len, hB.fst, hB.b0, hB.val, hB.d0, by rw [e]; exact hB.fq, by rw [e]; exact hB.qf, by rw [e]; exact hB.nod, ?_, hs2, fun x hx y hy => hB.span x (by simp [hx]) y (by simp [hy]), ?_, ?_⟩
  · intro x hx y hy
    rcases List.mem_append.1 hx with h | h
    · exact hB.mono x h y (by simp [hy])
    · simp at h; subst h; exact hs1 y hy
  · intro x hx
    rcases List.mem_append.1 hx with h | h
    · exact hB.nb x h
    · simp at h; subst h; exact hn
  · intro v r h
    subst h
    have h1 := hB.span u (by simp) v (by simp)
    have h2 := hB.dh u _ rfl
    simp
    omega
/-! ### Back from the last mill -/
structure Path (ed : Nat → Nat → Bool) (N : Nat) (first a : Nat) (dep : Nat → Nat) (c : List Nat) : Prop where
  hd : c[0]? = some first
  last : c[c.length - 1]? = some a
  len : c.length = dep a + 1
  lt : ∀ x ∈ c, x < N
  dp : ∀ x ∈ c, dep x ≤ dep a
  nd : c.Nodup
  step : ∀ i x y : Nat, c[i]? = some x → c[i + 1]? = some y → ed x y = true
theorem Path.snoc {c : List Nat} {v : Nat} (h : Path ed N first u dep c) (he : ed u v = true) (hd : dep v = dep u + 1) (hv : v < N) : Path ed N first v dep (c ++ [v]) := by
  have hl := h.len
  have hp : 0 < c.length := by omega
  refine ⟨by rw [List.getElem?_append_left hp]; exact h.hd, by simp, by simp; omega, ?_, ?_, ?_, ?_⟩
  · intro x hx
    rcases List.mem_append.1 hx with hx | hx
    · exact h.lt x hx
    · simp at hx; omega
  · intro x hx
    rcases List.mem_append.1 hx with hx | hx
    · have := h.dp x hx; omega
    · simp at hx; subst hx; exact Nat.le_refl _
  · rw [List.nodup_append]
    refine ⟨h.nd, by simp, fun a ha x hx hax => ?_⟩
    simp at hx
    subst hx
    subst hax
    have := h.dp a ha
    omega
  · intro i x y hx hy
    by_cases hi : i + 1 < c.length
    · rw [List.getElem?_append_left (by omega)] at hx
      rw [List.getElem?_append_left hi] at hy
      exact h.step i x y hx hy
    · have hi2 : i + 1 < (c ++ [v]).length := (List.getElem?_eq_some_iff.1 hy).1
      simp at hi2
      have hi3 : i = c.length - 1 := by omega
      subst hi3
      rw [List.getElem?_append_left (by omega), h.last] at hx
      rw [show c.length - 1 + 1 = c.length by omega] at hy
      simp at hy
      cases hx; subst hy
      exact he
theorem back_ok {F : Nat → Prop} (hF : ∀ v, F v → v < N) (h0 : dep first = 0)
    (hv : ∀ v, F v → v ≠ first → ∃ u' : Nat, b.getD v 0 = (u' : Int) ∧ F u' ∧ ed u' v = true ∧ dep v = dep u' + 1) : ∀ (k a : Nat), F a → dep a ≤ k → Path ed N first a dep (first :: (back first b k a).reverse)
  | 0, a, ha, hk => by
    by_cases haf : a = first
    · subst haf
      simp only [back, List.reverse_nil]
      exact ⟨rfl, rfl, by simp [h0], by simpa using hF a ha, by simp, by simp, fun i x y _ hy => by simp at hy⟩
    · obtain ⟨u', -, -, -, h3⟩ := hv a ha haf
      omega
  | k + 1, a, ha, hk => by
    by_cases haf : a = first
    · subst haf
      simp only [back, if_true, List.reverse_nil]
      exact ⟨rfl, rfl, by simp [h0], by simpa using hF a ha, by simp, by simp, fun i x y _ hy => by simp at hy⟩
    · obtain ⟨u', h1, h2, h3, h4⟩ := hv a ha haf
      have ih := back_ok hF h0 hv k u' h2 (by omega)
      simp only [back, if_neg haf, h1, Int.toNat_natCast, List.reverse_cons]
      rw [← List.cons_append]
      exact ih.snoc h3 h4 (hF a ha)
/-! ### How far a walk leads -/
theorem Bf.far (hB : Bf ed N first b (u :: w) dep dn) : ∀ {n v : Nat}, Wk ed n first v → (fndB b first v ∧ dep v ≤ n) ∨ dep u + 1 ≤ n := by
  intro n v h
  generalize hf : first = a at h
  induction h with
  | nil => subst hf; exact .inl ⟨.inl rfl, by rw [hB.d0]; exact Nat.zero_le _⟩
  | @snoc n a x v h he ih =>
    subst hf
    rcases ih rfl with ⟨h1, h2⟩ | h1
    · rcases List.mem_append.1 (hB.fq x h1) with hx | hx
      · obtain ⟨h3, h4, h5⟩ := hB.nb x hx v he
        exact .inl ⟨h3, by omega⟩
      · have : dep u ≤ dep x := by
          rcases List.mem_cons.1 hx with rfl | hx
          · exact Nat.le_refl _
          · exact (List.pairwise_cons.1 hB.srt).1 x hx
        exact .inr (by omega)
    · exact .inr (by omega)
theorem Bf.least (hB : Bf ed N first b (u :: w) dep dn) {n : Nat} (h1 : 1 ≤ n) (h : Wk ed n first first) : dep u + 1 ≤ n := by
  cases h with
  | nil => omega
  | @snoc n _ x _ h he =>
    rcases hB.far h with ⟨h1, h2⟩ | h1
    · rcases List.mem_append.1 (hB.fq x h1) with hx | hx
      · exact absurd rfl (hB.nb x hx first he).2.1
      · have : dep u ≤ dep x := by
          rcases List.mem_cons.1 hx with rfl | hx
          · exact Nat.le_refl _
          · exact (List.pairwise_cons.1 hB.srt).1 x hx
        omega
    · omega
theorem Bf.none (hB : Bf ed N first b [] dep dn) {n : Nat} (h1 : 1 ≤ n) : ¬ Wk ed n first first := by
  intro h
  have far : ∀ {n v : Nat}, Wk ed n first v → v ∈ dn := by
    intro n v h
    generalize hf : first = a at h
    induction h with
    | nil => subst hf; simpa using hB.fq first (.inl rfl)
    | snoc h he ih =>
      subst hf
      simpa using hB.fq _ (hB.nb _ (ih rfl) _ he).1
  cases h with
  | nil => omega
  | snoc h he => exact (hB.nb _ (far h) _ he).2.1 rfl
/-- A circle that was found from one mill. -/
structure FoundC (ed : Nat → Nat → Bool) (N first : Nat) (b : List Int) : Prop where
  ok : CircOK ed N (circOf N first b)
  least : ∀ n, 1 ≤ n → Wk ed n first first → (circOf N first b).length ≤ n
theorem Path.circ {c : List Nat} (h : Path ed N first u dep c) (he : ed u first = true) : CircOK ed N c := by
  have hl := h.len
  refine ⟨h.nd, h.lt, fun i x y hx hy => ?_⟩
  have hi := (List.getElem?_eq_some_iff.1 hx).1
  by_cases h1 : i + 1 < c.length
  · rw [Nat.mod_eq_of_lt h1] at hy
    exact h.step i x y hx hy
  · have e : i + 1 = c.length := by omega
    rw [e, Nat.mod_self, h.hd] at hy
    rw [show i = c.length - 1 by omega, h.last] at hx
    cases hx; cases hy
    exact he
theorem Bf.found (hB : Bf ed N first b (u :: w) dep dn) (he : ed u first = true) : FoundC ed N first (b.set first u) := by
  have hfb : first < b.length := by rw [hB.len]; exact hB.fst
  have hg : (b.set first u).getD first 0 = (u : Int) := by rw [List.getD_eq_getElem?_getD, List.getElem?_set_self hfb]; rfl
  have hdn : dep u ≤ N := by
    have h1 := hB.dh u w rfl
    have h2 : (dn ++ u :: w).length ≤ N := by
      exact nodup_leN hB.nod fun y hy => fnd_lt hB.len hB.fst (hB.qf y hy)
    simp at h2
    omega
  have hp : Path ed N first u dep (circOf N first (b.set first u)) := by
    unfold circOf
    rw [hg, Int.toNat_natCast]
    refine back_ok (F := fndB b first) (fun v hv => fnd_lt hB.len hB.fst hv) hB.d0 ?_ N u (hB.qf u (by simp)) hdn
    intro v hv hvf
    obtain ⟨x, hx⟩ := hv.resolve_left hvf
    rcases hB.val v _ hx with h | ⟨u', h1, h2, h3, h4⟩
    · omega
    · refine ⟨u', ?_, h2, h3, h4⟩
      rw [List.getD_eq_getElem?_getD, List.getElem?_set_ne (Ne.symm hvf), hx, h1]; rfl
  exact ⟨hp.circ he, fun n h1 h => by rw [hp.len]; exact hB.least h1 h⟩
theorem scan_ok (hlt : ∀ a b, ed a b = true → b < N) : ∀ (k : Nat) (b : List Int) (w : List Nat) (dep : Nat → Nat), k ≤ N → Bf ed N first b (u :: w) dep dn →
    (∀ v, v < N - k → ed u v = true → fndB b first v ∧ v ≠ first ∧ dep v ≤ dep u + 1) →
    (∀ b', (scanTo ed N first u k b w).1 = some b' → FoundC ed N first b') ∧
    ((scanTo ed N first u k b w).1 = none → ∃ dep', Bf ed N first (scanTo ed N first u k b w).2.1 (scanTo ed N first u k b w).2.2 dep' (dn ++ [u]))
  | 0, b, w, dep, hk, hB, hn => by
    simp only [scanTo]
    exact ⟨fun b' h => (by cases h), fun _ => ⟨dep, hB.pop fun v he => hn v (by have := hlt u v he; omega) he⟩⟩
  | k + 1, b, w, dep, hk, hB, hn => by
    simp only [scanTo]
    have hvN : N - (k + 1) < N := by omega
    have hsucc : ∀ v, v < N - k → v < N - (k + 1) ∨ v = N - (k + 1) := fun v h => by omega
    generalize N - (k + 1) = v at *
    by_cases hc : ed u v = true ∧ b.getD v 0 < 0
    · rw [if_pos hc]
      by_cases hv : v = first
      · rw [if_pos hv]
        subst hv
        refine ⟨fun b' h => ?_, fun h => (by cases h)⟩
        cases h
        exact hB.found hc.1
      · rw [if_neg hv]
        have hB' := hB.push hvN hc.1 hc.2 hv
        refine scan_ok hlt k _ _ _ (by omega) hB' fun x hx he => ?_
        have huf : fndB b first u := hB.qf u (by simp)
        have hbv : b[v]? = some (-1) := by
          obtain ⟨x, hx⟩ : ∃ x, b[v]? = some x := ⟨_, List.getElem?_eq_getElem (by rw [hB.len]; exact hvN)⟩
          have hc2 := hc.2
          rw [List.getD_eq_getElem?_getD, hx] at hc2
          rcases hB.val v x hx with rfl | ⟨u', rfl, -⟩
          · exact hx
          · simp at hc2; omega
        have hnf : ¬ fndB b first v := by
          rintro (h | ⟨u', h⟩)
          · exact hv h
          · rw [hbv] at h; have := Option.some.inj h; omega
        have huv : u ≠ v := fun h => hnf (h ▸ huf)
        simp only [if_neg huv]
        rcases hsucc x hx with h | h
        · obtain ⟨h1, h2, h3⟩ := hn x h he
          have hxv : x ≠ v := fun h => hnf (h ▸ h1)
          refine ⟨?_, h2, by rw [if_neg hxv]; exact h3⟩
          rcases h1 with h1 | ⟨y, hy⟩
          · exact .inl h1
          · exact .inr ⟨y, by rw [List.getElem?_set_ne (Ne.symm hxv)]; exact hy⟩
        · subst h
          exact ⟨.inr ⟨u, List.getElem?_set_self (by rw [hB.len]; exact hvN)⟩, hv, by simp⟩
    · rw [if_neg hc]
      refine scan_ok hlt k _ _ _ (by omega) hB fun x hx he => ?_
      rcases hsucc x hx with h | h
      · exact hn x h he
      · subst h
        have hnn : ¬ b.getD x 0 < 0 := fun h => hc ⟨he, h⟩
        obtain ⟨y, hy⟩ : ∃ y, b[x]? = some y := ⟨_, List.getElem?_eq_getElem (by rw [hB.len]; exact hvN)⟩
        rw [List.getD_eq_getElem?_getD, hy] at hnn
        have hxf : x ≠ first := fun h => by
          subst h; rw [hB.b0] at hy; cases hy; simp at hnn
        rcases hB.val x y hy with h | ⟨u', h1, -⟩
        · subst h; simp at hnn
        · have hf : fndB b first x := .inr ⟨u', by rw [hy, h1]⟩
          refine ⟨hf, hxf, ?_⟩
          rcases List.mem_append.1 (hB.fq x hf) with h | h
          · have := hB.mono x h u (by simp); omega
          · exact hB.span u (by simp) x h
theorem bfs_ok (hlt : ∀ a b, ed a b = true → b < N) : ∀ (f : Nat) (b : List Int) (w : List Nat) (dep : Nat → Nat) (dn : List Nat), Bf ed N first b w dep dn → dn.length + f = N →
    (∀ b', bfs ed N first f b w = some b' → FoundC ed N first b') ∧ (bfs ed N first f b w = none → ∀ n, 1 ≤ n → ¬ Wk ed n first first)
  | 0, b, w, dep, dn, hB, hf => by
    have hw : w = [] := by
      have h2 : (dn ++ w).length ≤ N := by
        exact nodup_leN hB.nod fun y hy => fnd_lt hB.len hB.fst (hB.qf y hy)
      rw [List.length_append] at h2
      exact List.length_eq_zero_iff.1 (by omega)
    subst hw
    simp only [bfs]
    exact ⟨fun b' h => (by cases h), fun _ n h1 => hB.none h1⟩
  | f + 1, b, [], dep, dn, hB, hf => by
    simp only [bfs]
    exact ⟨fun b' h => (by cases h), fun _ n h1 => hB.none h1⟩
  | f + 1, b, u :: w, dep, dn, hB, hf => by
    have h := scan_ok (u := u) hlt N b w dep (Nat.le_refl _) hB (fun v hv => by omega)
    simp only [bfs]
    generalize scanTo ed N first u N b w = r at *
    obtain ⟨r1, b', w'⟩ := r
    cases r1 with
    | some b1 =>
      simp only
      exact ⟨fun b' hb => (by cases hb; exact h.1 _ rfl), fun hb => (by cases hb)⟩
    | none =>
      obtain ⟨dep', hB'⟩ := h.2 rfl
      simp only
      exact bfs_ok hlt f b' w' dep' (dn ++ [u]) hB' (by simp; omega)
theorem circ_spec (hlt : ∀ a b, ed a b = true → b < N) : CircSpec ed N (circF ed N) := by
  have h : ∀ j, j ≤ N → CircOK ed N (((List.range N).take j).foldl (circStep ed N) []) ∧ ∀ f n, f < j → 1 ≤ n → Wk ed n f f → ((List.range N).take j).foldl (circStep ed N) [] ≠ [] ∧ (((List.range N).take j).foldl (circStep ed N) []).length ≤ n := by
    intro j
    induction j with
    | zero =>
      intro _
      simp only [List.take_zero, List.foldl_nil]
      exact ⟨⟨by simp, by simp, fun i a b h => by simp at h⟩, fun f n h => by omega⟩
    | succ j ih =>
      intro hj
      obtain ⟨i1, i2⟩ := ih (by omega)
      have hjr : (List.range N)[j]? = some j := by rw [List.getElem?_range (by omega)]
      rw [List.take_add_one, hjr, List.foldl_append]
      simp only [Option.toList_some, List.foldl_cons, List.foldl_nil]
      generalize ((List.range N).take j).foldl (circStep ed N) [] = out at *
      obtain ⟨b1, b2⟩ := bfs_ok hlt N _ _ _ [] (Bf.start (ed := ed) (N := N) (first := j) (by omega)) (by simp)
      unfold circStep
      cases hb : bfs ed N j N (List.replicate N (-1)) [j] with
      | none =>
        simp only
        refine ⟨i1, fun f n hf h1 hw => ?_⟩
        by_cases hfj : f = j
        · subst hfj; exact absurd hw (b2 hb n h1)
        · exact i2 f n (by omega) h1 hw
      | some b =>
        have hF := b1 b hb
        simp only
        by_cases hc : out = [] ∨ (circOf N j b).length < out.length
        · rw [if_pos hc]
          refine ⟨hF.ok, fun f n hf h1 hw => ⟨by simp [circOf], ?_⟩⟩
          by_cases hfj : f = j
          · subst hfj; exact hF.least n h1 hw
          · obtain ⟨h2, h3⟩ := i2 f n (by omega) h1 hw
            have := hc.resolve_left h2
            omega
        · rw [if_neg hc]
          refine ⟨i1, fun f n hf h1 hw => ?_⟩
          by_cases hfj : f = j
          · subst hfj
            have h3 := hF.least n h1 hw
            exact ⟨fun h => hc (.inl h), by have := fun h => hc (.inr h); omega⟩
          · exact i2 f n (by omega) h1 hw
  obtain ⟨h1, h2⟩ := h N (Nat.le_refl _)
  have e : (List.range N).take N = List.range N := List.take_of_length_le (by simp)
  rw [e] at h1 h2
  exact ⟨h1, h2⟩
theorem CircOK.wk {c : List Nat} (h : CircOK ed N c) {x : Nat} (hx : c[0]? = some x) : Wk ed c.length x x := by
  have hp : 0 < c.length := (List.getElem?_eq_some_iff.1 hx).1
  have h1 : ∀ i y, c[i]? = some y → Wk ed i x y := by
    intro i
    induction i with
    | zero => intro y hy; rw [hx] at hy; cases hy; exact .nil
    | succ i ih =>
      intro y hy
      have hi := (List.getElem?_eq_some_iff.1 hy).1
      obtain ⟨z, hz⟩ : ∃ z, c[i]? = some z := ⟨_, List.getElem?_eq_getElem (by omega)⟩
      exact .snoc (ih z hz) (h.cl i z y hz (by rw [Nat.mod_eq_of_lt hi]; exact hy))
  obtain ⟨z, hz⟩ : ∃ z, c[c.length - 1]? = some z := ⟨_, List.getElem?_eq_getElem (by omega)⟩
  have := h1 _ z hz
  have h2 : Wk ed (c.length - 1 + 1) x x := .snoc this (h.cl (c.length - 1) z x hz (by rw [show c.length - 1 + 1 = c.length by omega, Nat.mod_self]; exact hx))
  rw [show c.length - 1 + 1 = c.length by omega] at h2
  exact h2
theorem CircOK.le {c : List Nat} (h : CircOK ed N c) : c.length ≤ N := by
  exact nodup_leN h.nd h.lt
theorem CircSpec.short {c : List Nat} (h : CircSpec ed N c) : IsShort ed N c.length := by
  refine ⟨h.ok.le, fun h0 => ?_, fun f n hf h1 _ hw => ?_⟩
  · obtain ⟨x, hx⟩ : ∃ x, c[0]? = some x := ⟨_, List.getElem?_eq_getElem (by omega)⟩
    exact ⟨x, h.ok.lt x (List.mem_of_getElem? hx), h.ok.wk hx⟩
  · obtain ⟨h2, h3⟩ := h.least f n hf h1 hw
    exact ⟨fun h => h2 (List.length_eq_zero_iff.1 h), h3⟩
theorem CircOK.two {c : List Nat} (h : CircOK ed N c) (hirr : ∀ x, ed x x = false) (h0 : c ≠ []) : 2 ≤ c.length := by
  have hp : 0 < c.length := List.length_pos_iff.2 h0
  by_cases h1 : c.length = 1
  · obtain ⟨x, hx⟩ : ∃ x, c[0]? = some x := ⟨_, List.getElem?_eq_getElem hp⟩
    have := h.cl 0 x x hx (by rw [h1]; simpa using hx)
    rw [hirr] at this; cases this
  · omega
end
end Go.Ab
