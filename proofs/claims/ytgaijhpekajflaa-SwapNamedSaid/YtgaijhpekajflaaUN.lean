/- Circles are looked for: the walk. -/
import Derived.Test.YtgaijhpekajflaaUM
set_option linter.unusedVariables false
set_option linter.unusedSimpArgs false
set_option maxHeartbeats 8000000
set_option maxRecDepth 100000
namespace Go.Ab
open Go Go.Proofs

/-! ### A slice is turned round -/
/-- The list, its first and last ones exchanged so many times. -/
def swS (l : List Int) (i : Nat) : List Int := (List.range l.length).map fun k => if k < i ∨ l.length - i ≤ k then l.getD (l.length - 1 - k) 0 else l.getD k 0
@[simp] theorem swS_len {l : List Int} {i : Nat} : (swS l i).length = l.length := by simp [swS]
theorem swS_get {l : List Int} {i k : Nat} (h : k < l.length) : (swS l i)[k]? = some (if k < i ∨ l.length - i ≤ k then l.getD (l.length - 1 - k) 0 else l.getD k 0) := by
  unfold swS
  rw [List.getElem?_map, List.getElem?_range h]; rfl
theorem swS_zero {l : List Int} : swS l 0 = l := by
  apply List.ext_getElem?
  intro k
  by_cases h : k < l.length
  · rw [swS_get h, if_neg (by omega), List.getD_eq_getElem?_getD, List.getElem?_eq_getElem h]; rfl
  · rw [List.getElem?_eq_none (by simp; omega), List.getElem?_eq_none (by omega)]
theorem swS_end {l : List Int} {i : Nat} (h : l.length ≤ 2 * i + 1) : swS l i = l.reverse := by
  apply List.ext_getElem?
  intro k
  by_cases hk : k < l.length
  · rw [swS_get hk, List.getElem?_reverse hk]
    by_cases hc : k < i ∨ l.length - i ≤ k
    · rw [if_pos hc, List.getD_eq_getElem?_getD, List.getElem?_eq_getElem (by omega)]; rfl
    · rw [if_neg hc, List.getD_eq_getElem?_getD, List.getElem?_eq_getElem hk]
      have e : l.length - 1 - k = k := by omega
      simp only [e]
      rw [List.getElem?_eq_getElem hk]; rfl
  · rw [List.getElem?_eq_none (by simp; omega), List.getElem?_eq_none (by simp; omega)]
theorem swS_step {l : List Int} {i : Nat} (h : 2 * i + 1 < l.length) : ((swS l i).set i (l.getD (l.length - 1 - i) 0)).set (l.length - 1 - i) (l.getD i 0) = swS l (i + 1) := by
  apply List.ext_getElem?
  intro k
  by_cases hk : k < l.length
  · rw [swS_get hk]
    by_cases h1 : k = l.length - 1 - i
    · subst h1
      rw [List.getElem?_set_self (by simp; omega), if_pos (by omega), show l.length - 1 - (l.length - 1 - i) = i by omega]
    · rw [List.getElem?_set_ne (by omega)]
      by_cases h2 : k = i
      · subst h2
        rw [List.getElem?_set_self (by simp; omega), if_pos (by omega)]
      · rw [List.getElem?_set_ne (by omega), swS_get hk]
        congr 1
        have : (k < i ∨ l.length - i ≤ k) ↔ (k < i + 1 ∨ l.length - (i + 1) ≤ k) := by omega
        simp only [this]
  · rw [List.getElem?_eq_none (by simp; omega), List.getElem?_eq_none (by simp; omega)]
theorem set_set_cells {σ : List O} {id ver : Nat} {a b : List V} : (σ.set id (.row ver a)).set id (.row ver b) = σ.set id (.row ver b) := by simp
theorem rev87 {σ : List O} {id ver : Nat} {x : Int} {l : List Int} (hid : σ[id]? = some (.row ver (ints (x :: l)))) (hl : l.length < 1000000) :
    FSpec Try.prog 87 [.s id ver 1 l.length 1] σ (.tup []) (σ.set id (.row ver (ints (x :: l.reverse)))) := by
  refine fn87.spec mixed noIt_ok ?_
  rw [ic87]
  have hil0 := (List.getElem?_eq_some_iff.1 hid).1
  have hs1 : ∀ c, (σ.set id c)[id]? = some c := fun c => List.getElem?_set_self hil0
  have hst : σ = σ.set id (.row ver (ints (x :: swS l 0))) := by
    rw [swS_zero]
    apply List.ext_getElem?
    intro j
    by_cases hj : j = id
    · subst hj; rw [hs1, hid]
    · rw [List.getElem?_set_ne (fun e => hj e.symm)]
  refine ab_seq_k fun K1 h1 => ?_
  simp [hid, wrap64 (x := (l.length : Int) - 1) (by omega) (by omega)]
  refine h1 _ _ _ ?_
  clear h1 K1
  refine ab_block_k fun K2 h2 => ?_
  refine ab_loop_k (fun m env σ' => ∃ i : Nat, i + m = l.length ∧ 2 * i ≤ l.length ∧ env = [(0, .s id ver 1 l.length 1), (2, .i .i64 i), (3, .i .i64 ((l.length : Int) - 1 - i))] ∧ σ' = σ.set id (.row ver (ints (x :: swS l i)))) l.length ⟨0, by omega, by omega, by simp, hst⟩ ?_
  clear hst
  rintro m env σ' ⟨i, hi, hi2, rfl, rfl⟩ K3 h3
  rw [ic87_0]
  refine ab_seq_k fun K4 h4 => ?_
  refine ab_seq_k fun K5 h5 => ?_
  simp
  refine h5 _ _ _ ?_
  clear h5 K5
  refine ab_cond_of rfl (fun hc => ?_) (fun hc => ?_)
  · have hil : 2 * i + 1 < l.length := by have := of_decide_eq_true hc; omega
    obtain ⟨j, hj⟩ : ∃ j : Nat, j = l.length - 1 - i := ⟨_, rfl⟩
    have hje : (l.length : Int) - 1 - i = (j : Int) := by omega
    have hij : i < j := by omega
    have hjl : j < l.length := by omega
    have hil2 : i < l.length := by omega
    have g1 : (swS l i)[i]? = some (l.getD i 0) := by rw [swS_get hil2, if_neg (by omega)]
    have g2 : (swS l i)[j]? = some (l.getD j 0) := by rw [swS_get hjl, if_neg (by omega)]
    have hstep : ((swS l i).set i (l.getD j 0)).set j (l.getD i 0) = swS l (i + 1) := by rw [hj]; exact swS_step hil
    rw [hje]
    generalize l.getD i 0 = a at *
    generalize l.getD j 0 = b at *
    have hsl := swS_len (l := l) (i := i)
    generalize swS l i = S at *
    have q1 : (ints (x :: S))[1 + i]? = some (.i .i64 a) := by rw [Nat.add_comm]; simp [ints, g1]
    have q2 : (ints (x :: S))[1 + j]? = some (.i .i64 b) := by rw [Nat.add_comm]; simp [ints, g2]
    have q3 : (((ints (x :: S)).set (1 + i) (.i .i64 b)).set (1 + j) (.i .i64 a)) = ints (x :: swS l (i + 1)) := by
      rw [ints_set, ints_set, ← hstep, Nat.add_comm 1 i, Nat.add_comm 1 j, List.set_cons_succ, List.set_cons_succ]
    have hcl : (ints (x :: S)).length = l.length + 1 := by simp [hsl]
    generalize ints (x :: S) = cs at *
    obtain ⟨q1l, q1'⟩ := List.getElem?_eq_some_iff.1 q1
    obtain ⟨q2l, q2'⟩ := List.getElem?_eq_some_iff.1 q2
    simp
    refine h4 _ _ _ ?_
    clear h4 K4
    refine ab_seq_k fun K6 h6 => ?_
    refine ab_block_k fun K7 h7 => ?_
    simp [abDs_consU, drU, recheck_cons, recheck_nil, rcK, IS.dst, hs1, q1, q1', q2, q2', hjl, hil2, hcl]
    refine ⟨by omega, by omega, ?_⟩
    rw [q3]
    refine h7 _ _ _ ?_
    refine h6 _ _ _ ?_
    simp [wrap64 (x := (i : Int) + 1) (by omega) (by omega), wrap64 (x := (j : Int) - 1) (by omega) (by omega)]
    exact h3 _ _ _ (again (m - 1) (by omega) ⟨i + 1, by omega, by omega, by simp; omega, rfl⟩)
  · have hil : l.length ≤ 2 * i + 1 := by have := of_decide_eq_false hc; omega
    rw [swS_end hil]
    simp
    refine h2 _ _ _ ?_
    exact fin_all (by simp [rs87])

/-! ### The chain back -/
def Down (b : List Int) (first N : Nat) : Nat → Nat → Prop
  | 0, a => a = first
  | k + 1, a => a = first ∨ (a < N ∧ ∃ u : Nat, b.getD a 0 = (u : Int) ∧ Down b first N k u)
theorem down_ok {ed : Nat → Nat → Bool} {N first : Nat} {b : List Int} {dep : Nat → Nat} {F : Nat → Prop} (hF : ∀ v, F v → v < N)
    (hv : ∀ v, F v → v ≠ first → ∃ u' : Nat, b.getD v 0 = (u' : Int) ∧ F u' ∧ ed u' v = true ∧ dep v = dep u' + 1) : ∀ (k a : Nat), F a → dep a ≤ k → Down b first N k a
  | 0, a, ha, hk => by
    by_cases haf : a = first
    · exact haf
    · obtain ⟨u', -, -, -, h3⟩ := hv a ha haf
      omega
  | k + 1, a, ha, hk => by
    by_cases haf : a = first
    · exact .inl haf
    · obtain ⟨u', h1, h2, h3, h4⟩ := hv a ha haf
      exact .inr ⟨hF a ha, u', h1, down_ok hF hv k u' h2 (by omega)⟩
theorem Bf.down {ed : Nat → Nat → Bool} {N first u : Nat} {b : List Int} {w : List Nat} {dep : Nat → Nat} {dn : List Nat} (hB : Bf ed N first b (u :: w) dep dn) : u < N ∧ Down (b.set first u) first N N u := by
  have huF := hB.qf u (by simp)
  refine ⟨fnd_lt hB.len hB.fst huF, ?_⟩
  have hdn : dep u ≤ N := by
    have h1 := hB.dh u w rfl
    have h2 : (dn ++ u :: w).length ≤ N := by
      exact nodup_leN hB.nod fun y hy => fnd_lt hB.len hB.fst (hB.qf y hy)
    simp at h2
    omega
  refine down_ok (ed := ed) (F := fndB b first) (dep := dep) (fun v hv => fnd_lt hB.len hB.fst hv) ?_ N u huF hdn
  intro v hv hvf
  obtain ⟨x, hx⟩ := hv.resolve_left hvf
  rcases hB.val v _ hx with h | ⟨u', h1, h2, h3, h4⟩
  · omega
  · refine ⟨u', ?_, h2, h3, h4⟩
    rw [List.getD_eq_getElem?_getD, List.getElem?_set_ne (Ne.symm hvf), hx, h1]; rfl
theorem Bf.room {ed : Nat → Nat → Bool} {N first : Nat} {b : List Int} {w : List Nat} {dep : Nat → Nat} {dn : List Nat} (hB : Bf ed N first b w dep dn) : dn.length + w.length ≤ N := by
  have := nodup_leN hB.nod fun y hy => fnd_lt hB.len hB.fst (hB.qf y hy)
  simpa using this
/-- A scan that finds: the heads of chains are known. -/
theorem scan_down {ed : Nat → Nat → Bool} {N first u : Nat} (hlt : ∀ a b, ed a b = true → b < N) {dn : List Nat} : ∀ (k : Nat) (b : List Int) (w : List Nat) (dep : Nat → Nat), k ≤ N → Bf ed N first b (u :: w) dep dn →
    ∀ b', (scanTo ed N first u k b w).1 = some b' → b'.length = N ∧ b'.getD first 0 = (u : Int) ∧ u < N ∧ Down b' first N N u
  | 0, b, w, dep, hk, hB, b', h => by simp only [scanTo] at h; cases h
  | k + 1, b, w, dep, hk, hB, b', h => by
    simp only [scanTo] at h
    have hvN : N - (k + 1) < N := by omega
    generalize N - (k + 1) = v at *
    by_cases hc : ed u v = true ∧ b.getD v 0 < 0
    · rw [if_pos hc] at h
      by_cases hv : v = first
      · rw [if_pos hv] at h
        subst hv
        cases h
        refine ⟨by rw [List.length_set]; exact hB.len, ?_, hB.down⟩
        rw [List.getD_eq_getElem?_getD, List.getElem?_set_self (by rw [hB.len]; exact hvN)]; rfl
      · rw [if_neg hv] at h
        exact scan_down hlt k _ _ _ (by omega) (hB.push hvN hc.1 hc.2 hv) b' h
    · rw [if_neg hc] at h
      exact scan_down hlt k _ _ _ (by omega) hB b' h
def wI (l : List Nat) : List Int := l.map fun x : Nat => (x : Int)
@[simp] theorem wI_len {l : List Nat} : (wI l).length = l.length := by simp [wI]
/-- What the search returns. -/
def resV (c : List Nat) : V := sl (wI c) c.isEmpty

section
variable {σ : List O} {a b c x : O}
theorem at1 : (σ ++ [a])[σ.length]? = some a := by simp
theorem at2a : (σ ++ [a, b])[σ.length]? = some a := by simp
theorem at2b : (σ ++ [a, b])[σ.length + 1]? = some b := by simp
theorem at3a : (σ ++ [a, b, c])[σ.length]? = some a := by simp
theorem at3b : (σ ++ [a, b, c])[σ.length + 1]? = some b := by simp
theorem at3c : (σ ++ [a, b, c])[σ.length + 2]? = some c := by simp
theorem st1 : (σ ++ [a]).set σ.length x = σ ++ [x] := by simp [List.set_append_right]
theorem st2a : (σ ++ [a, b]).set σ.length x = σ ++ [x, b] := by simp [List.set_append_right]
theorem st2b : (σ ++ [a, b]).set (σ.length + 1) x = σ ++ [a, x] := by simp [List.set_append_right]
theorem st3c : (σ ++ [a, b, c]).set (σ.length + 2) x = σ ++ [a, b, x] := by simp [List.set_append_right]
end
end Go.Ab
